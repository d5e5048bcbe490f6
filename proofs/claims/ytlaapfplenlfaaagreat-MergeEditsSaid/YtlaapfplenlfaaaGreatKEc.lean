/-
 Texts,merged,without what is not reached.
-/
import Derived.Test.YtlaapfplenlfaaaGreatKEb
set_option linter.unusedSimpArgs false
set_option linter.unusedVariables false
open Go.IntKind (i64 u64)
namespace Go.G
open Go.RowKit
def mk (P:Program) (t:TypeId) (as':List A):A:=match P.underlying t with
 |some (.struct _)=>.agg as'
 |_=>as'.headD .any
def ff (R:TypeId→List A→Prop):List Field→List A→Prop
 |[],as'=>as'=[]
 |f::fs,as'=>∃ a b,as'=a++b∧R f.type a∧ff R fs b
def Has (P:Program):Nat→TypeId→List A→Prop
 |0,_,_=>False
 |n+1,t,as'=>match P.underlying t with
  |some .bool=>∃ b,as'=[.v (.bool b)]
  |some (.int k)=>∃ m,(Lit.int k m).wf=true∧as'=[.v (.int k m)]
  |some .string=>∃ s,s.size≤maxLen∧s.size≤reachBytes∧as'=[.v (.string s)]
  |some (.slice e)=>∃ f xs,as'=[.sl f xs]∧xs.length≤maxLen∧xs.length*P.bytesOf e≤reachBytes∧(f=true→xs=[])∧∀ x,x ∈ xs→∃ b,Has P n e b∧x=mk P e b
  |some (.struct fs)=>ff (Has P n) fs.toList as'
  |_=>False
def m5 (R:TypeId→List A→Prop):List TypeId→List A→Prop
 |[],as'=>as'=[]
 |t::ts,as'=>∃ a b,as'=a++b∧R t a∧m5 R ts b
theorem Gi {R:TypeId→List A→Prop}:∀ {fs:List Field} {as':List A},ff R fs as' ↔ m5 R (fs.map Field.type) as'
 |[],as'=>Iff.rfl
 |f::fs,as'=>by simp only[ff,m5,List.map_cons,Gi (fs:=fs)]
def Yo (P:Program):Nat→List Field→Option Nat
 |off,[]=>some off
 |off,f::fs=>if f.offset=off then Yo P (off+P.cellsOf f.type) fs else none
def Ke (P:Program) (S:List TypeId):Bool:=S.all fun t=>match P.underlying t with
 |some .bool | some (.int _) | some .string=>P.cellsOf t == 1
 |some (.slice e)=>P.cellsOf t == 1&&(decide (0<P.cellsOf e)&&S.contains e)
 |some (.struct fs)=>Yo P 0 fs.toList == some (P.cellsOf t)&&fs.toList.all fun f=>S.contains f.type
 |_=>false
theorem X9 {β:Type} {R:Nat→β→Prop}:∀ {n:Nat},(∀ i,i<n→∃ b,R i b)→∃ l:List β,l.length=n∧∀ (i:Nat) (b:β),l[i]? = some b→R i b
 |0,_=>⟨[],rfl,fun i b h=>by simp at h⟩
 |n+1,h=>by
  obtain⟨l,h1,h2⟩:=X9 (n:=n) (fun i hi=>h i (by omega));obtain⟨b,hb⟩:=h n (by omega);refine⟨l++[b],by simp[h1],fun i c hc=>?_⟩;rw[List.getElem?_append] at hc;split at hc
  ·exact h2 i c hc
  ·rename_i hi;have:i=n:=by
    have:=(List.getElem?_eq_some_iff.1 hc).1;simp at this;omega
   subst this;simp[h1] at hc;subst hc;exact hb
theorem P8 {α β:Type} {f:α→Option β}:∀ {l:List α} {r:List β},l.mapM f=some r→r.length=l.length∧∀ (i:Nat) (a:α),l[i]? = some a→∃ b,f a=some b∧r[i]? = some b
 |[],r,h=>by
  simp at h;subst h;exact⟨rfl,fun i a h=>by simp at h⟩
 |a::l,r,h=>by
  rw[List.mapM_cons] at h;simp only[Option.bind_eq_bind,Option.bind_eq_some_iff] at h;obtain⟨b,hb,r',hr,h⟩:=h;cases h;obtain⟨h1,h2⟩:=P8 hr;refine⟨by simp[h1],fun i c hc=>?_⟩;cases i with
  |zero=>simp at hc;subst hc;exact⟨b,hb,rfl⟩
  |succ i=>simpa using h2 i c (by simpa using hc)
theorem cells?_get {w:World} {base:Nat} {a:Addr} {n:Nat} {cs:List Value} (h:w.cells? base a n=some cs):cs.length=n∧∀ i,i<n→w.cell? (a.add i)=some (cs.getD i undef):=by
 unfold World.cells? at h;split at h
 ·obtain⟨h1,h2⟩:=P8 h;refine⟨by simpa using h1,fun i hi=>?_⟩;obtain⟨b,hb,hr⟩:=h2 i i (by simp[hi]);rw[hb];simp[List.getD,hr]
 ·cases h
theorem HC {P:Program} {n:Nat} {t:TypeId} {as':List A} (h:Has P n t as'):(mk P t as').cells=as':=by
 cases n with
 |zero=>exact h.elim
 |succ n=>
  unfold Has at h;unfold mk;split at h
  ·rename_i hu;obtain⟨b,rfl⟩:=h;rw[hu];rfl
  ·rename_i hu;obtain⟨m,_,rfl⟩:=h;rw[hu];rfl
  ·rename_i hu;obtain⟨m,_,_,rfl⟩:=h;rw[hu];rfl
  ·rename_i hu;obtain⟨f,xs,rfl,_⟩:=h;rw[hu];rfl
  ·rename_i hu;rw[hu];rfl
  ·exact h.elim
theorem dY {sz:Nat} (hp:0<sz) {xs:List A} {k:Nat} {y:A} (h:∀ x,x ∈ xs→x.cells.length=sz) (hk:(xs.flatMap A.cells)[k]? = some y):∃ x,xs[k / sz]? = some x∧x.cells[k % sz]? = some y:=by
 have hl:=(List.getElem?_eq_some_iff.1 hk).1;rw[Bm h] at hl;have hi:k / sz<xs.length:=by rw[Nat.div_lt_iff_lt_mul hp];exact hl
 have hj:k % sz<sz:=Nat.mod_lt _ hp;have hx:xs[k / sz]? = some xs[k / sz]:=List.getElem?_eq_getElem hi;have hcl:=h _ (List.mem_of_getElem? hx);have hz:xs[k / sz].cells[k % sz]? = some (xs[k / sz].cells[k % sz]'(by omega)):=List.getElem?_eq_getElem (by omega);have:=Kd h hx hz;have e:k / sz*sz+k % sz=k:=by rw[Nat.mul_comm];exact Nat.div_add_mod k sz
 rw[e,hk] at this;exact⟨_,hx,by rw[hz];exact this.symm⟩
theorem Z6 {α:Type} {l l':List α} {k:Nat} {d:α} (h:k<l.length):(l++l').getD k d=l.getD k d:=by
 simp[List.getD,List.getElem?_append_left h]
theorem W8 {α:Type} {l l':List α} {k:Nat} {d:α} (h:l.length≤k):(l++l').getD k d=l'.getD (k-l.length) d:=by
 simp[List.getD,List.getElem?_append_right h]
section
variable {H:Type} {enc:TypeId × Value→H} {P:Program} {w:World} {base:Nat} {sp:Nat→Bool} {held:Bool}
abbrev kQ (w:World) (b:Nat):Prop:=b<w.heap.size
def Fits (w:World) (as':List A) (cs:List Value):Prop:=as'.length=cs.length∧∀ (k:Nat) (y:A),as'[k]? = some y→y.one=true∧Rel w (kQ w) Ry y (cs.getD k undef)
theorem Fits.one {x:A} {v:Value} (h:x.one=true) (hr:Rel w (kQ w) Ry x v):Fits w [x] [v]:=⟨rfl,fun k y hk=>by
 cases k with
 |zero=>cases hk;exact⟨h,hr⟩
 |succ k=>simp at hk⟩
theorem Fits.append {as' bs:List A} {cs ds:List Value} (h:Fits w as' cs) (h':Fits w bs ds):Fits w (as'++bs) (cs++ds):=⟨by simp[h.1,h'.1],fun k y hk=>by
 rw[List.getElem?_append] at hk;split at hk
 ·rename_i hl;have:=h.2 k y hk
  rwa [Z6 (by rw[← h.1];exact hl)]
 ·rename_i hl;have:=h'.2 _ y hk;rw[W8 (by rw[← h.1];omega),← h.1];exact this⟩
theorem Qg {n:Nat} {cs:List Value} (ih:∀ (t:TypeId) (cs:List Value) x,DataW.trod enc P w base sp held n t cs=some x→P.cellsOf t=cs.length→(∀ m,m ∈ DataW.weights P t x.1→m≤reachBytes)→∀ S,Ke P S=true→t ∈ S→∃ as',Has P n t as'∧Fits w as' cs) {S:List TypeId} (hS:Ke P S=true) :
  ∀ (fs:List Field) (off tot:Nat) xs,(∀ m,m ∈ DataW.weightsEach P (fs.map Field.type) (xs.map (·.1))→m≤reachBytes)→(∀ f,f ∈ fs→f.type ∈ S)→Yo P off fs=some tot→tot=cs.length→(fs.mapM fun f=>DataW.trod enc P w base sp held n f.type ((cs.drop f.offset).take (P.cellsOf f.type)))=some xs →
   ∃ as',ff (Has P n) fs as'∧Fits w as' (cs.drop off)∧off≤tot
 |[],off,tot,xs,_,_,ht,hn,_=>by
  cases ht;refine⟨[],rfl,⟨?_,fun k y hk=>by simp at hk⟩,Ei _⟩;simp[hn]
 |f::fs,off,tot,xs,hw,hf,ht,hn,hm=>by
  unfold Yo at ht;split at ht
  ·rename_i ho;rw[List.mapM_cons] at hm;simp only[Option.bind_eq_bind,Option.bind_eq_some_iff] at hm;obtain⟨x,hx,xs',hxs,hq⟩:=hm;cases hq;simp only[List.map_cons,DataW.weightsEach,List.mem_append] at hw;obtain⟨bs,hb1,hb2,hb3⟩:=Qg ih hS fs (off+P.cellsOf f.type) tot xs' (fun m hm=>hw m (.inr hm)) (fun g hg=>hf g (by simp[hg])) ht hn hxs;rw[ho] at hx;obtain⟨as',ha1,ha2⟩:=ih f.type _ x hx (by simp;omega) (fun m hm=>hw m (.inl hm)) S hS (hf f (by simp));refine⟨as'++bs,⟨as',bs,rfl,ha1,hb1⟩,?_,by omega⟩;have e:cs.drop off=(cs.drop off).take (P.cellsOf f.type)++cs.drop (off+P.cellsOf f.type):=by
    rw[← List.drop_drop,List.take_append_drop]
   rw[e];exact ha2.append hb2
  ·cases ht
theorem LJ {e:TypeId} {d:DataW H} {m:Nat} (h:m ∈ DataW.weights P e d):∀ {l:List (DataW H)},d ∈ l→m ∈ DataW.weightsAll P e l
 |x::l,hd=>by
  simp only[DataW.weightsAll,List.mem_append];rcases List.mem_cons.1 hd with rfl | hd
  ·exact .inl h
  ·exact .inr (LJ h hd)
theorem EN:∀ (n:Nat) (t:TypeId) (cs:List Value) (x:DataW H × List MemPlace),DataW.trod enc P w base sp held n t cs=some x→P.cellsOf t=cs.length→(∀ m,m ∈ DataW.weights P t x.1→m≤reachBytes)→∀ S,Ke P S=true→t ∈ S→∃ as',Has P n t as'∧Fits w as' cs
 |0,t,cs,x,h,_,_,_,_,_=>by simp[DataW.trod] at h
 |n+1,t,cs,x,h,hlen,hwt,S,hS,ht=>by
  have hT:=hS;unfold Ke at hT;rw[List.all_eq_true] at hT;have hT:=hT t ht;have ih:=EN n;unfold DataW.trod at h;split at h
  ·rename_i b hu;exact⟨[.v (.bool b)],by unfold Has;rw[hu];exact⟨b,rfl⟩,Fits.one rfl (.v _ _)⟩
  ·rename_i k k' m hu;split at h
   ·rename_i hk;obtain⟨rfl,hw⟩:=hk;exact⟨[.v (.int k' m)],by unfold Has;rw[hu];exact⟨m,hw,rfl⟩,Fits.one rfl (.v _ _)⟩
   ·cases h
  ·rename_i hu;rw[hu] at hT;cases hT
  ·rename_i s hu;split at h
   ·rename_i hs;cases h;have hz:s.size≤reachBytes:=by
     have:=hwt s.data.toList.length (by simp[DataW.weights]);simpa using this
    exact⟨[.v (.string s)],by unfold Has;rw[hu];exact⟨s,hs,hz,rfl⟩,Fits.one rfl (.v _ _)⟩
   ·cases h
  ·rename_i hu;rw[hu] at hT;cases hT
  ·rename_i hu;rw[hu] at hT;cases hT
  ·rename_i e hu;exact⟨[.sl true []],by unfold Has;rw[hu];exact⟨true,[],rfl,by simp,by simp,fun _=>rfl,fun x hx=>by simp at hx⟩,Fits.one rfl (.slN _ _ _ _ (fun _=>rfl))⟩
  ·rename_i e a len cap hu;rw[hu] at hT;simp only[Bool.and_eq_true,decide_eq_true_eq,beq_iff_eq] at hT;obtain⟨_,hpos,heS⟩:=hT;have heS:e ∈ S:=by simpa using heS
   split at h
   ·rename_i hb;obtain⟨hb0,hb1,hb2⟩:=hb;simp only[Option.bind_eq_some_iff] at h;obtain⟨elems,he,h⟩:=h;simp only[Option.map_eq_some_iff] at h;obtain⟨rest,_,rfl⟩:=h;simp only[DataW.weights,hu] at hwt;obtain⟨he1,he2⟩:=P8 he;have each:∀ i,i<len→∃ as':List A,Has P n e as'∧∃ cs,w.cells? base (a.add (i*P.cellsOf e)) (P.cellsOf e)=some cs∧Fits w as' cs:=fun i hi=>by
     obtain⟨y,hy,hg⟩:=he2 i i (by simp[hi]);simp only[Option.bind_eq_some_iff] at hy;obtain⟨cs,hc1,hc2⟩:=hy;obtain⟨as',h1,h2⟩:=ih e cs y hc2 (cells?_get hc1).1.symm (fun m hm=>hwt m (List.mem_cons_of_mem _ (List.mem_append_left _ (LJ hm (List.mem_map.2 ⟨y,List.mem_of_getElem? hg,rfl⟩))))) S hS heS;exact⟨as',h1,cs,hc1,h2⟩
    obtain⟨l,hl1,hl2⟩:=X9 each;have hxs:(l.map (mk P e)).length=len:=by simpa using hl1
    refine⟨[.sl false (l.map (mk P e))],by
     unfold Has;rw[hu];refine⟨false,_,rfl,by rw[hxs];omega,by
      have:=hwt _ List.mem_cons_self;rw[hxs];refine Nat.le_trans (Nat.mul_le_mul_right _ ?_) this;simp at he1 ⊢;omega,(fun h=>nomatch h),fun x hx=>?_⟩
     obtain⟨b,hb,rfl⟩:=List.mem_map.1 hx;obtain⟨i,hi⟩:=List.getElem?_of_mem hb;exact⟨b,(hl2 i b hi).1,rfl⟩,Fits.one rfl ?_⟩
    by_cases h0:len=0
    ·subst h0;have:l=[]:=List.length_eq_zero_iff.1 hl1;subst this;exact .slN _ _ _ _ (fun h=>by cases h)
    ·have hlen2:∀ x,x ∈ l.map (mk P e)→x.cells.length=P.cellsOf e:=fun x hx=>by
      obtain⟨b,hb,rfl⟩:=List.mem_map.1 hx;obtain⟨i,hi⟩:=List.getElem?_of_mem hb;obtain⟨k1,cs,k2,k3⟩:=hl2 i b hi;rw[HC k1,k3.1,(cells?_get k2).1]
     have hspot:a.spot=none∧a.block<w.heap.size:=by
      obtain⟨b,hb⟩:∃ b,l[0]? = some b:=⟨_,List.getElem?_eq_getElem (by omega)⟩;obtain⟨_,cs,k2,_⟩:=hl2 0 b hb;have:=(cells?_get k2).2 0 hpos;simp only[Nat.zero_mul,Addr.add,if_true,World.cell?] at this;split at this
      ·rename_i hh;split at this
       ·cases this
       ·rename_i hsp;exact⟨by simpa using hsp,(Array.getElem?_eq_some_iff.1 hh).1⟩
      ·cases this
     obtain⟨b,off,sp'⟩:=a;obtain⟨hsp,hbl⟩:=hspot;simp only at hsp hbl;subst hsp;have main:∀ (k:Nat) (y:A),((l.map (mk P e)).flatMap A.cells)[k]? = some y→y.one=true∧w.cell? ⟨b,off+k,none⟩=some ((w.cell? ⟨b,off+k,none⟩).getD undef)∧Rel w (kQ w) Ry y ((w.cell? ⟨b,off+k,none⟩).getD undef):=fun k y hk=>by
      obtain⟨x,hx,hy⟩:=dY hpos hlen2 hk;rw[List.getElem?_map] at hx;simp only[Option.map_eq_some_iff] at hx;obtain⟨as',ha,rfl⟩:=hx;obtain⟨k1,cs,k2,k3⟩:=hl2 _ as' ha;rw[HC k1] at hy;have hj:k % P.cellsOf e<P.cellsOf e:=Nat.mod_lt _ hpos;have hc:=(cells?_get k2).2 _ hj;have ea:((⟨b,off,none⟩:Addr).add (k / P.cellsOf e*P.cellsOf e)).add (k % P.cellsOf e)=⟨b,off+k,none⟩:=by
       have:=Nat.div_add_mod k (P.cellsOf e);rw[Nat.mul_comm] at this;unfold Addr.add;split<;>split<;>simp<;>omega
      rw[ea] at hc;obtain⟨k4,k5⟩:=k3.2 _ y hy;exact⟨k4,by rw[hc];rfl,by rw[hc];exact k5⟩
     exact .sl _ false b off len cap (P.cellsOf e) _ (fun k=>(w.cell? ⟨b,off+k,none⟩).getD undef) hbl hxs.symm (by omega) (fun h=>by cases h) hlen2 (fun k y hk=>(main k y hk).1) (fun k y hk=>(main k y hk).2.1) (fun k y hk=>(main k y hk).2.2)
   ·cases h
  ·rename_i fs hu;rw[hu] at hT;simp only[Bool.and_eq_true,beq_iff_eq,List.all_eq_true] at hT;split at h
   ·simp only[Option.map_eq_some_iff] at h;obtain⟨xs,hx,rfl⟩:=h;simp only[DataW.weights,hu] at hwt;obtain⟨as',h1,h2,_⟩:=Qg (fun t cs x h hl hw S hS ht=>ih t cs x h hl hw S hS ht) hS fs.toList 0 _ xs hwt (fun f hf=>by simpa using hT.2 f hf) hT.1 hlen hx;exact⟨as',by unfold Has;rw[hu];exact h1,by simpa using h2⟩
   ·cases h
  all_goals first | (rename_i hu;rw[hu] at hT;cases hT;done) | cases h
end
def ArgsHas (P:Program):List TypeId→List A→Prop
 |[],[]=>True
 |t::ts,a::as'=>(∃ n b,Has P n t b∧a=mk P t b)∧ArgsHas P ts as'
 |_,_=>False
section
open Go.ChangeShapes Go.WideShapes
variable {H:Type} {enc:TypeId × Value→H} {P:Program} {w:World} {base:Nat} {sp:Nat→Bool} {held:Bool}
theorem Vu {S:List TypeId} (hS:Ke P S=true) {t:TypeId} (ht:t ∈ S) {v:Value} {d:DataW H} {p:List MemPlace} {base':Nat} (hwt:∀ m,m ∈ DataW.weights P t d→m≤reachBytes) (h:DataW.Trod enc P w base sp held t v d p) (hv:Value.okWide P w .any base' t v) :
  ∃ n b,Has P n t b∧Rel w (kQ w) Ry (mk P t b) v:=by
 obtain⟨n,hn⟩:=h;have hT:=hS;unfold Ke at hT;rw[List.all_eq_true] at hT;have hT:=hT t ht;have one:∀ {b:List A},Has P n t b→(mk P t b).cells=[mk P t b]→v.cells.toList=[v]→Fits w b v.cells.toList→Rel w (kQ w) Ry (mk P t b) v:=fun {b} hb h1 h2 h3=>by
  have h4:=HC hb;rw[h1] at h4;have e:b[0]? = some (mk P t b):=by
   have:[mk P t b][0]? = some (mk P t b):=rfl
   rwa [h4] at this
  have:=(h3.2 0 (mk P t b) e).2;rw[h2] at this;exact this
 cases hu:P.underlying t with
 |none=>rw[hu] at hT;cases hT
 |some ty=>
  rw[hu] at hT;cases ty with
  |struct fs=>
   simp only[Bool.and_eq_true,beq_iff_eq] at hT;obtain⟨cs,rfl,hsz⟩:=okWide_struct hu hv;obtain⟨b,hb,hf⟩:=EN n t _ _ hn (by show P.cellsOf t=cs.toList.length;simp[hsz]) hwt S hS ht;refine⟨n,b,hb,?_⟩;have:mk P t b = .agg b:=by unfold mk;rw[hu]
   rw[this];refine .agg _ _ _ ?_ fun k y hk=>?_
   ·have:=hf.1;simpa[Value.cells] using this.symm
   ·have:=(hf.2 k y hk).2;simpa[Value.cells,List.getD,Array.getD_eq_getD_getElem?] using this
  |bool=>
   obtain⟨q,rfl⟩:=okWide_bool hu hv;simp only[beq_iff_eq] at hT;obtain⟨b,hb,hf⟩:=EN n t _ _ hn (by rw[hT];rfl) hwt S hS ht;refine⟨n,b,hb,one hb ?_ rfl hf⟩;obtain⟨y,rfl⟩:∃ y,b=[y]:=List.length_eq_one_iff.1 (by have:=hf.1;simpa[Value.cells] using this);unfold mk;rw[hu];have:=HC hb;unfold mk at this;rw[hu] at this;exact this
  |int k=>
   obtain⟨q,rfl⟩:=okWide_int hu hv;simp only[beq_iff_eq] at hT;obtain⟨b,hb,hf⟩:=EN n t _ _ hn (by rw[hT];rfl) hwt S hS ht;refine⟨n,b,hb,one hb ?_ rfl hf⟩;obtain⟨y,rfl⟩:∃ y,b=[y]:=List.length_eq_one_iff.1 (by have:=hf.1;simpa[Value.cells] using this);unfold mk;rw[hu];have:=HC hb;unfold mk at this;rw[hu] at this;exact this
  |string=>
   obtain⟨q,rfl⟩:=okWide_string hu hv;simp only[beq_iff_eq] at hT;obtain⟨b,hb,hf⟩:=EN n t _ _ hn (by rw[hT];rfl) hwt S hS ht;refine⟨n,b,hb,one hb ?_ rfl hf⟩;obtain⟨y,rfl⟩:∃ y,b=[y]:=List.length_eq_one_iff.1 (by have:=hf.1;simpa[Value.cells] using this);unfold mk;rw[hu];have:=HC hb;unfold mk at this;rw[hu] at this;exact this
  |slice e=>
   obtain⟨a,l,c,rfl⟩:=okWide_slice hu hv;simp only[Bool.and_eq_true,beq_iff_eq] at hT;obtain⟨b,hb,hf⟩:=EN n t _ _ hn (by rw[hT.1];rfl) hwt S hS ht;refine⟨n,b,hb,one hb ?_ rfl hf⟩;obtain⟨y,rfl⟩:∃ y,b=[y]:=List.length_eq_one_iff.1 (by have:=hf.1;simpa[Value.cells] using this);unfold mk;rw[hu];have:=HC hb;unfold mk at this;rw[hu] at this;exact this
  |_=>simp at hT
theorem Nd {S:List TypeId} (hS:Ke P S=true) {base':Nat}:∀ {ts:List TypeId} {vs:List Value} {ds:List (DataW H)} {ps:List MemPlace},(∀ t,t ∈ ts→t ∈ S)→(∀ m,m ∈ DataW.weightsEach P ts ds→m≤reachBytes)→DataW.TrodAll enc P w base sp held ts vs ds ps →
  (∀ (j:Nat) t v,ts[j]? = some t→vs[j]? = some v→Value.okWide P w .any base' t v)→∃ as',as'.length=vs.length∧ArgsHas P ts as'∧∀ (k:Nat) (y:A),as'[k]? = some y→Rel w (kQ w) Ry y (vs.getD k undef)
 |[],_,_,_,_,_,h,_=>by
  obtain⟨rfl,rfl,rfl⟩:=trodAll_nil h;exact⟨[],rfl,trivial,fun k y hk=>by simp at hk⟩
 |t::ts,_,_,_,hts,hwt,h,hv=>by
  obtain⟨v,vs,d,ds,p,q,rfl,rfl,rfl,h1,h2⟩:=trodAll_cons h;simp only[DataW.weightsEach,List.mem_append] at hwt;obtain⟨n,b,hb,hr⟩:=Vu hS (hts t (by simp)) (fun m hm=>hwt m (.inl hm)) h1 (hv 0 t v rfl rfl);obtain⟨as',k1,k2,k3⟩:=Nd hS (fun u hu=>hts u (by simp[hu])) (fun m hm=>hwt m (.inr hm)) h2 (fun j u x hj hx=>hv (j+1) u x (by simpa using hj) (by simpa using hx));refine⟨mk P t b::as',by simp[k1],⟨⟨n,b,hb,rfl⟩,k2⟩,fun k y hk=>?_⟩;cases k with
  |zero=>cases hk;exact hr
  |succ k=>exact k3 k y (by simpa using hk)
end
@[simp] theorem jZ {k k':IntKind} {x y:Int}:Et true [.v (.int k x),.v (.int k' y)]=some (.v (.int k (max x y))):=by
 simp only[Et,if_true];congr 3;split<;>omega
@[simp] theorem kg {k k':IntKind} {x y:Int}:Et false [.v (.int k x),.v (.int k' y)]=some (.v (.int k (min x y))):=by
 simp only[Et,Bool.false_eq_true,if_false];congr 3;split<;>omega
def ov (r:Nat) (F:Nm→VOb) (H:Hp):Hp
 |j::p=>if j=r then F p else H (j::p)
 |[]=>H []
@[simp] theorem AW {r j:Nat} {p:Nm} {F:Nm→VOb} {H:Hp}:ov r F H (j::p)=if j=r then F p else H (j::p):=rfl
@[simp] theorem AaN {r:Nat} {F:Nm→VOb} {H:Hp}:ov r F H []=H []:=rfl
@[simp] theorem y9 {r j:Nat} {p:Nm} {F:Nm→VOb} {H:Hp} {x:VOb}:Az (ov r F H) (j::p) x=if j=r then ov r (Az F p x) H else ov r F (Az H (j::p) x):=by
 funext o;cases o with
 |nil=>
  by_cases h:j=r
  ·rw[if_pos h];simp[Az]
  ·rw[if_neg h];simp[Az]
 |cons k q=>
  by_cases h:j=r
  ·subst h;rw[if_pos rfl];by_cases hk:k=j
   ·subst hk;simp[Az]
   ·have:¬ k::q=j::p:=fun e=>hk (by injection e);simp[Az,hk,this]
  ·rw[if_neg h];by_cases hk:k=r
   ·subst hk;have:¬ k::q=j::p:=fun e=>h (by injection e with e _;exact e.symm);simp[Az,this]
   ·simp[Az,hk]
theorem Aa {α:Type} {F:Nm→α} {d o:Nm} {x:α}:Az F d x o=if o=d then x else F o:=rfl
def J9 (rs:List Nat) (m:Nat) (H:Hp):Hp
 |i::p=>if i<m then (H (rs.getD i 0::p)).ren (Py rs) (fun _=>0) 0 else ⟨0,.none⟩
 |[]=>⟨0,.none⟩
def Kw (rs:List Nat) (δ:Nm→Nat) (B Hr:Hp):Hp
 |j::p=>if rs.contains j=true then (Hr (rs.idxOf j::p)).ren (MB rs) δ (δ (rs.idxOf j::p)) else B (j::p)
 |[]=>B []
theorem Qi {rs:List Nat} {m:Nat} {H Hr:Hp}:(Eff.fn rs (Gm rs m H Hr)).app H=Kw rs (LU rs m H) H Hr:=by
 funext o;cases o<;>rfl
def PE (rs:List Nat) (m:Nat) (H:Hp):Prop:=∀ (j:Nat) (p:Nm),rs.idxOf j<m→(H (j::p)).ob.refs (NB rs m)
theorem VP {P:Program} {K:Sta→Prop} {rest:List CO} {s:Nat→A} {H:Hp} {dd:Option Nat} {nm:Nm} {ix:Nat} {un:List Nat} {l:Bool} {lg:Lg} {g:FuncId} {as':Array Operand} {ts:Array TypeId}
  (rs:List Nat) (m:Nat) {args:List A} {Hc Hr H':Hp} {r x:A} (hS:SpecH P g rs.length args Hc r Hr) (hnd:rs.Nodup) (hm:m≤rs.length)
  (ha:A.renL (Py rs) (fun _=>0) (as'.toList.map (evs s))=args) (har:A.refsL (NB rs m) (as'.toList.map (evs s))) (hH:J9 rs m H=Hc) (hcl:PE rs m H)
  (hr:r.refs (FG rs.length)) (ho:∀ (i:Nat) (p:Nm),i<rs.length→(Hr (i::p)).ob.refs (FG rs.length)) (hv:∀ (i:Nat) (p:Nm),m≤i→i<rs.length→(Hr (i::p)).ob = .none∨1≤(Hr (i::p)).u)
  (hx:r.ren (MB rs) (LU rs m H)=x) (hH':Kw rs (LU rs m H) H Hr=H') (hck:Ck un lg ⟨[],rs.map fun r=>([r],true)⟩)
  (h:Am P K rest (AR l ix ⟨[],rs.map fun r=>([r],true)⟩ lg) (Sta.put ⟨s,H⟩ dd x H')) :
  Am P K (⟨dd,.call { callee:=.value (.func g),args:=as',argTypes:=ts },none,nm,ix,un,l⟩::rest) lg ⟨s,H⟩:=by
 have hit_in:∀ {j:Nat} {p:Nm},j ∈ rs→QQ (rs.map fun r=>([r],true)) (j::p)=true:=fun {j p} hj=>by
  simp only[QQ,List.any_map,List.any_eq_true];exact⟨j,hj,by simp[NL,List.isPrefixOf]⟩
 have hnil:(Eff.fn rs (Gm rs m H Hr)).app H=H':=by rw[Qi];exact hH'
 subst hx;rw[← hnil] at h;refine Wc (Eff.fn rs (Gm rs m H Hr)) [] (rs.map fun r=>([r],true)) (fun H2 hag=>?_) (fun o H2 ho'=>?_) hck h
 ·have ag:∀ {j:Nat} {p:Nm},j ∈ rs→H2 (j::p)=H (j::p):=fun {j p} hj=>hag _ (by simpa using hit_in hj);have agi:∀ {i:Nat} {p:Nm},i<rs.length→H2 (rs.getD i 0::p)=H (rs.getD i 0::p):=fun {i p} hi=>ag (by simp[List.getD,hi]);have hd:LU rs m H2=LU rs m H:=by
   funext o;cases o with
   |nil=>rfl
   |cons i p=>
    simp only[LU];by_cases hi:i<rs.length
    ·rw[agi hi]
    ·rw[if_neg hi,if_neg hi]
  have hoH:Gm rs m H2 Hr=Gm rs m H Hr:=by
   funext o;cases o with
   |nil=>rfl
   |cons j p=>simp only[Gm,hd]
  subst ha;have:=NZ (P:=P) (f:=g) (rs:=rs) (m:=m) (args:=as'.toList.map (evs s)) (Hc:=Hc) (Hr:=Hr) (r:=r) (H:=H2) hnd hm hS
   (fun i p hi=>by rw[← hH,agi (by omega)];simp only[J9,if_pos hi]) (fun i p hi=>by rw[← hH];simp only[J9];rw[if_neg (by omega)]) (by rw[← hH];rfl) har
   (fun i p hi=>by rw[agi (by omega)];exact hcl _ _ (by rw[Jl hnd (by omega)];exact hi)) hr ho hv
  rwa [hd,hoH] at this
 ·cases o with
  |nil=>rfl
  |cons j p=>
   have:¬ j ∈ rs:=fun hj=>by rw[hit_in hj] at ho';cases ho'
   simp[Eff.app,this]
end Go.G
namespace Go.PL
theorem QE {w:List Int} {n:Nat} (h:n<w.length) (h0:w[n]=0):CS (w.take (n+1))=CS (w.take n):=by
 rw[Kj h,Mi,if_pos h0]
theorem Qd {w:List Int} {n:Nat} (h:n<w.length) (h0:w[n] ≠ 0):CS (w.take (n+1))=w.take (n+1):=by
 rw[Kj h,Mi,if_neg h0]
theorem Rk {w:List T} {n:Nat} (h:n<w.length) (h0:w[n].kind=0):CD (w.take (n+1))=CD (w.take n):=by
 rw[Kj h,HX,if_pos h0]
theorem QJ {w:List T} {n:Nat} (h:n<w.length) (h0:w[n].kind ≠ 0):CD (w.take (n+1))=w.take (n+1):=by
 rw[Kj h,HX,if_neg h0]
theorem RC (l:List T):(CD (l.map Af)).length=(CD l).length:=by
 induction l using Tz with
 |h0=>rfl
 |h1 l x ih=>
  rw[List.map_append,List.map_cons,List.map_nil,HX,HX,Hx];split
  ·exact ih
  ·simp
theorem Sr (l:List T):CD (l.map Af)=(l.map Af).take (CD l).length:=by
 rw[← RC];exact Ql _
theorem T.ext' {t u:T} (h1:t.kind=u.kind) (h2:t.words=u.words) (h3:t.kids=u.kids):t=u:=by
 cases t;cases u;simp at h1 h2 h3;rw[h1,h2,h3]
noncomputable def HR (t u:T):Bool:=by classical exact decide (t=u)
theorem sameB_iff {t u:T}:HR t u=true ↔ t=u:=by simp[HR]
noncomputable def G9 (t u:T):Bool:=HR (Af t) (Af u)
theorem eqT_iff {t u:T}:G9 t u=true ↔ Af t=Af u:=sameB_iff
end Go.PL
namespace Go.Proofs.YtlaapfplenlfaaaGreat
open Go Go.G Go.Proofs Go.PL
theorem AU {P:Program} {K:Sta→Prop} {rest:List CO} {s:Nat→A} {H:Hp} {dd:Option Nat} {k:Nat} {f:Bool} {nm:Nm} {ix:Nat} {un:List Nat} {l:Bool} {lg:Lg} {g:FuncId} {aa:Array Operand} {ts:Array TypeId}
  (hq:BK (s k) f=some false) (h:Am P K rest (AR l ix ⟨[],[]⟩ lg) (Sta.put ⟨s,H⟩ dd (.v undef) H)) :
  Am P K (⟨dd,.call { callee:=.value (.func g),args:=aa,argTypes:=ts },some (k,f),nm,ix,un,l⟩::rest) lg ⟨s,H⟩:=
 N6 (q:=false) (x:=.any) hq (fun e=>by cases e) h
abbrev CQ (l:List Int):A:=.sl false (l.map uv)
abbrev u8 (n:Int):A:=.v (.int .u8 n)
mutual
def tC:T→List A
 |.mk k w l=>[iv k,CQ w,.sl false (tH l)]
def tH:List T→List A
 |[]=>[]
 |t::l=>.agg (tC t)::tH l
end
def tA (t:T):A:=.agg (tC t)
abbrev Bx (l:List T):A:=.sl false (l.map tA)
abbrev tX (t:T):A:=.agg [iv t.kind,CQ t.words,Bx t.kids]
theorem Yd:∀ l,tH l=l.map tA
 |[]=>by rw[tH];rfl
 |t::l=>by rw[tH,Yd l];rfl
theorem uS (t:T):tC t=[iv t.kind,CQ t.words,Bx t.kids]:=by cases t;rw[tC,Yd];rfl
@[simp] theorem tA_eq (t:T):tA t=tX t:=by rw[tA,uS]
def wA (w:WE):A:=.agg [iv w.at_,u8 w.mask,uv w.old,uv w.new]
abbrev wX (w:WE):A:=.agg [iv w.at_,u8 w.mask,uv w.old,uv w.new]
@[simp] theorem wA_eq (w:WE):wA w=wX w:=rfl
abbrev JJ (l:List WE):A:=.sl false (l.map wA)
mutual
def eC:E→List A
 |.mk k o n w ks l os=>[iv k,iv o.kind,CQ o.words,Bx o.kids,iv n.kind,CQ n.words,Bx n.kids,JJ w,.sl false (sX ks),iv l,.sl false (vb os)]
def sX:List KE→List A
 |[]=>[]
 |.mk a e::l=>.agg (iv a::eC e)::sX l
def vb:List OP→List A
 |[]=>[]
 |.mk k n t e::l=>.agg (iv k::iv n::Bx t::eC e)::vb l
end
def kA (x:KE):A:=.agg (iv x.at_::eC x.e)
def oA (x:OP):A:=.agg (iv x.kind::iv x.n::Bx x.l::eC x.e)
abbrev Ka (l:List KE):A:=.sl false (l.map kA)
abbrev IW (l:List OP):A:=.sl false (l.map oA)
abbrev eL (e:E):List A:=[iv e.kind,iv e.old.kind,CQ e.old.words,Bx e.old.kids,iv e.new.kind,CQ e.new.words,Bx e.new.kids,JJ e.words,Ka e.kids,iv e.list,IW e.ops]
abbrev eX (e:E):A:=.agg (eL e)
abbrev kX (x:KE):A:=.agg (iv x.at_::eL x.e)
abbrev oX (x:OP):A:=.agg (iv x.kind::iv x.n::Bx x.l::eL x.e)
theorem Ya:∀ l,sX l=l.map kA
 |[]=>by rw[sX];rfl
 |.mk a e::l=>by rw[sX,Ya l];rfl
theorem YI:∀ l,vb l=l.map oA
 |[]=>by rw[vb];rfl
 |.mk k n t e::l=>by rw[vb,YI l];rfl
theorem kz (e:E):eC e=eL e:=by cases e;rw[eC,Ya,YI];rfl
@[simp] theorem kA_eq (x:KE):kA x=kX x:=by rw[kA,kz]
@[simp] theorem oA_eq (x:OP):oA x=oX x:=by rw[oA,kz]
@[simp] theorem xK (l:List Int):CX 1 (l.map iv)=true:=by simp[CX]
@[simp] theorem xw (l:List T):CX 3 (l.map tA)=true:=by simp[CX]
@[simp] theorem za (l:List WE):CX 4 (l.map wA)=true:=by simp[CX]
@[simp] theorem yf (l:List KE):CX 12 (l.map kA)=true:=by simp[CX]
@[simp] theorem zg (l:List OP):CX 14 (l.map oA)=true:=by simp[CX]
theorem FH {n:Nat} {l:List A}:CX n l=true ↔ ∀ x,x ∈ l→x.cells.length=n:=by simp[CX]
@[simp] theorem qF {n k:Nat} {l:List A} (h:CX n l=true):CX n (l.take k)=true:=by
 rw[FH] at h ⊢;exact fun x hx=>h x (St hx)
@[simp] theorem qI {n k:Nat} {l:List A} (h:CX n l=true):CX n (l.drop k)=true:=by
 rw[FH] at h ⊢;exact fun x hx=>h x (Zd hx)
theorem A3 {α:Type} {H:Hp} {o:Nm} {u n sz:Nat} {l:List α} {f:α→A} (h:vr (H o) u=some (sz,l.map f)) (hn:n=l.length) (hf:∀ x,((f x).cells.length == sz&&(f x).cells.all fun y=>A.bare1 y&&y.one)=true):Gy H (.osl o u sz 0 n) (.sl false (l.map f)):=by
 subst hn;have:=Yh (H:=H) (o:=o) (u:=u) (off:=0) (len:=l.length) (sz:=sz) (xs:=l.map f) (by simpa using h) (by simp) (by
  simp only[List.drop_zero];rw[AN (by simp),List.all_map,List.all_eq_true];exact fun x _=>hf x)
 simp[AN] at this;exact this
theorem VK {α:Type} {H:Hp} {o:Nm} {u n sz:Nat} {l:List α} {f:α→A} (h:vr (H o) u=some (sz,l.map f)) (hn:n≤l.length) (hf:∀ x,((f x).cells.length == sz&&(f x).cells.all fun y=>A.bare1 y&&y.one)=true):Gy H (.osl o u sz 0 n) (.sl false ((l.take n).map f)):=by
 have:=Yh (H:=H) (o:=o) (u:=u) (off:=0) (len:=n) (sz:=sz) (xs:=l.map f) (by simpa using h) (by simpa using hn) (by
  simp only[List.drop_zero];rw[← List.map_take,List.all_map,List.all_eq_true];exact fun x _=>hf x)
 simpa using this
theorem VT {α:Type} {f:α→A} {l:List α} {i:Nat} (h:i<l.length) {x:A} (hx:f l[i]=x):List.take i (List.take i (l.map f))++[x]=(l.take (i+1)).map f:=by
 rw[List.take_take,Nat.min_self,Kj h,List.map_append,List.map_take,← hx];rfl
theorem fU {H:Hp}:Gy H (.agg [iv 0,.sl true [],.sl true []]) (tX T0):=AE (by simp;exact⟨Ad rfl,Ah,Ah⟩)
def Db (n:Int):Prop:=-9223372036854775808≤n∧n<9223372036854775808
def AA (n:Int):Prop:=0≤n∧n<18446744073709551616
mutual
def AD:T→Prop
 |.mk k w l=>Db k∧(∀ x,x ∈ w→AA x)∧w.length*8≤140737488355328∧l.length*56≤140737488355328∧Zq l
def Zq:List T→Prop
 |[]=>True
 |t::l=>AD t∧Zq l
end
theorem Rr:∀ {l:List T},Zq l ↔ ∀ t,t ∈ l→AD t
 |[]=>by simp[Zq]
 |t::l=>by simp[Zq,Rr (l:=l)]
structure WfT (t:T):Prop where
 k:Db t.kind
 w:∀ x,x ∈ t.words→AA x
 wl:t.words.length*8≤140737488355328
 kl:t.kids.length*56≤140737488355328
 ks:∀ x,x ∈ t.kids→AD x
theorem wfT_iff {t:T}:AD t ↔ WfT t:=by
 cases t;rw[AD,Rr];exact⟨fun ⟨a,b,c,d,e⟩=>⟨a,b,c,d,e⟩,fun ⟨a,b,c,d,e⟩=>⟨a,b,c,d,e⟩⟩
def WE.wf (w:WE):Prop:=Db w.at_∧(0≤w.mask∧w.mask<256)∧AA w.old∧AA w.new
mutual
def J2:E→Prop
 |.mk k o n w ks l os=>(Db k∧Db l∧AD o∧AD n∧(∀ x,x ∈ w→WE.wf x)∧w.length*32≤140737488355328∧ks.length*208≤140737488355328∧os.length*240≤140737488355328)∧dD ks∧fr os
def dD:List KE→Prop
 |[]=>True
 |.mk a e::l=>(Db a∧J2 e)∧dD l
def fr:List OP→Prop
 |[]=>True
 |.mk k n t e::l=>(Db k∧Db n∧Zq t∧t.length*56≤140737488355328∧J2 e)∧fr l
end
structure pO (x:OP):Prop where
 k:Db x.kind
 n:Db x.n
 l:∀ t,t ∈ x.l→AD t
 ll:x.l.length*56≤140737488355328
 e:J2 x.e
theorem V2:∀ {l:List KE},dD l ↔ ∀ x,x ∈ l→Db x.at_∧J2 x.e
 |[]=>by simp[dD]
 |.mk a e::l=>by simp[dD,V2 (l:=l)]
theorem VY:∀ {l:List OP},fr l ↔ ∀ x,x ∈ l→pO x
 |[]=>by simp[fr]
 |.mk k n t e::l=>by
  simp only[fr,VY (l:=l),Rr,List.forall_mem_cons];exact⟨fun ⟨⟨a,b,c,d,e⟩,h⟩=>⟨⟨a,b,c,d,e⟩,h⟩,fun ⟨⟨a,b,c,d,e⟩,h⟩=>⟨⟨a,b,c,d,e⟩,h⟩⟩
structure WfE (e:E):Prop where
 k:Db e.kind
 l:Db e.list
 o:AD e.old
 n:AD e.new
 w:∀ x,x ∈ e.words→WE.wf x
 wl:e.words.length*32≤140737488355328
 kl:e.kids.length*208≤140737488355328
 ol:e.ops.length*240≤140737488355328
 ks:∀ x,x ∈ e.kids→Db x.at_∧J2 x.e
 os:∀ x,x ∈ e.ops→pO x
theorem wfE_iff {e:E}:J2 e ↔ WfE e:=by
 cases e;rw[J2,V2,VY];exact⟨fun ⟨⟨a,b,c,d,e,f,g,h⟩,i,j⟩=>⟨a,b,c,d,e,f,g,h,i,j⟩,fun ⟨a,b,c,d,e,f,g,h,i,j⟩=>⟨⟨a,b,c,d,e,f,g,h⟩,i,j⟩⟩
theorem V4 (c:Int):G.Spec Tryz.prog 48 [iv c] (iv (Eg c)):=by
 refine Ag L4 (by simp) fun w0 I0=>?_;unfold HV;by_cases h0:c=0
 ·subst h0;simp;exact HO rfl rfl
 by_cases h1:c=1
 ·subst h1;simp;exact HO rfl rfl
 by_cases h2:c=2
 ·subst h2;simp;exact HO rfl rfl
 by_cases h3:c=3
 ·subst h3;simp;exact HO rfl rfl
 by_cases h4:c=4
 ·subst h4;simp;exact HO rfl rfl
 by_cases h5:c=5
 ·subst h5;simp;exact HO rfl rfl
 simp[h0,h1,h2,h3,h4,h5];exact HO rfl (by simp[Eg,h0,h1,h2,h3,h4,h5])
theorem T9 (c:Int):Eg c = -1∨Eg c=0∨Eg c=1∨Eg c=8∨Eg c=16∨Eg c=32∨Eg c=64:=by
 unfold Eg;repeat' split
 all_goals simp
variable {n0:Nat} {w0:World} {I0:Nat→Prop} {Q:Exit→Sta→Prop} {H:Hp}
theorem dV {w:Int} (hw:w≤64):∀ (m:Nat) (x i:Int),0≤x→x<18446744073709551616→0≤i→i+m=w→(∀ b,Q (.exit 0) ⟨lk [(1,uv (x / 2 ^ m)),(5,iv w),(6,iv w),(13,bv b)],H⟩) →
  LoopC (cx Tryz.prog w0 I0 n0) DU Q ⟨lk [(1,uv x),(5,iv w),(6,iv i)],H⟩:=by
 intro m;induction m with
 |zero=>
  intro x i h0 h1 h2 h3 hq;have:i=w:=by simpa using h3
  subst this;refine Ab Aj DU.eq_1 ?_;simp;simpa using hq _
 |succ m ih=>
  intro x i h0 h1 h2 h3 hq;refine Ab Aj DU.eq_1 ?_;have hi:i<w:=by omega
  simp[hi];rw[A4 (by omega) (by omega),Int.tdiv_eq_ediv_of_nonneg h0,GL (by omega) (by omega)];exact ih _ _ (by omega) (by omega) (by omega) (by omega) (by rw[VA];exact hq)
theorem Xy {c n:Int} (h:AA n):G.Spec Tryz.prog 29 [iv c,uv n] (bv (R3 c n)):=by
 refine Ag M8 (by simp) fun w0 I0=>?_;unfold Iw;simp;refine Ae (V4 c) rfl ?_;simp;have hw:=T9 c;refine⟨fun h0=>?_,fun h0=>?_⟩
 ·refine Aq ?_;simp[R3];omega
 ·refine dV (w:=Eg c) (by omega) (Eg c).toNat n 0 h.1 h.2 (by omega) (by omega) (fun b=>?_);simp;refine Aq ?_;simp[R3,h0]
theorem dt {a b:List Int} (hl:a.length=b.length) (hb:a.length*8≤140737488355328):∀ (m i:Nat),i+m=a.length→a.take i=b.take i→(a=b→∀ i q,Q (.exit 0) ⟨lk [(0,CQ a),(1,CQ b),(5,iv i),(14,bv q)],H⟩)→(a ≠ b→Q .ret ⟨lk [(4,bv false)],H⟩) →
  LoopC (cx Tryz.prog w0 I0 n0) DX Q ⟨lk [(0,CQ a),(1,CQ b),(5,iv i)],H⟩:=by
 intro m;induction m with
 |zero=>
  intro i hi ht h1 h2;have:i=a.length:=by omega
  subst this;refine Ab Aj DX.eq_1 ?_;simp;refine h1 ?_ _ _;rw[AN (Ei _),AN (by omega)] at ht;exact ht
 |succ m ih=>
  intro i hi ht h1 h2;have hlt:i<a.length:=by omega
  have hlt':i<b.length:=by omega
  refine Ab Aj DX.eq_1 ?_;simp[hlt,hlt'];refine⟨fun he=>?_,fun hne=>h2 fun e=>hne (by subst e;rfl)⟩;rw[A4 (by omega) (by omega)];refine ih (i+1) (by omega) ?_ h1 h2;rw[Kj hlt,Kj hlt',ht,he]
theorem Ms (a b:List Int) (hb:a.length*8≤140737488355328):G.Spec Tryz.prog 38 [CQ a,CQ b] (bv (decide (a=b))):=by
 refine Ag Nu (by simp) fun w0 I0=>?_;unfold IA;simp;refine⟨fun h=>?_,fun h=>?_⟩
 ·refine dt (by omega) hb a.length 0 (by omega) rfl (fun e i q=>?_) (fun e=>?_)
  ·simp;refine Aq ?_;simp[e]
  ·simp;refine Aq ?_;simp[e]
 ·refine Aq ?_;have:¬ a=b:=fun e=>h (by rw[e]);simp[this]
theorem fB {w:List Int} (hb:w.length*8≤140737488355328) (hq:∀ q,Q (.exit 0) ⟨lk [(0,CQ w),(3,iv (CS w).length),(16,bv q)],H⟩):∀ (n:Nat),n≤w.length→CS (w.take n)=CS w →
  LoopC (cx Tryz.prog w0 I0 n0) DL Q ⟨lk [(0,CQ w),(3,iv n)],H⟩:=by
 intro n;induction n with
 |zero=>
  intro hn ht;refine Ab Aj DL.eq_1 ?_;simp;have e:(CS w).length=0:=by rw[← ht];rfl
  have:=hq false;rw[e] at this;exact this
 |succ n ih=>
  intro hn ht;have hlt:n<w.length:=by omega
  have e:i64.wrap (n:Int)=n:=Hl;refine Ab Aj DL.eq_1 ?_;by_cases h0:w[n]=0
  ·simp[e,hlt,h0];exact ih (by omega) (by rw[← QE hlt h0];exact ht)
  ·have e2:(CS w).length=n+1:=by rw[← ht,Qd hlt h0];simp;omega
   have:=hq false;rw[e2] at this;simp[e,hlt,h0];simpa using this
theorem WB (w:List Int) (hb:w.length*8≤140737488355328):G.Spec Tryz.prog 41 [CQ w] (CQ (CS w)):=by
 refine Ag NF (by simp) fun w0 I0=>?_;unfold Iq;simp;refine fB hb (fun q=>?_) w.length (Ei _) (by rw[AN (Ei _)]);have hl:=QL w;have hb':(CS w).length*8≤140737488355328:=by omega
 simp[hl];refine⟨hb',?_⟩;rw[← List.map_take,← Q6];exact A3 (by simp) rfl (by simp)
abbrev Lx (l:List Int):List A:=l.map u8
def BH:Nat→Int→List Int
 |0,_=>[]
 |m+1,x=>x % 256::BH m (x / 256)
@[simp] theorem LX:∀ (m:Nat) (x:Int),(BH m x).length=m
 |0,_=>rfl
 |m+1,x=>by simp[BH,LX m]
theorem P3 {l:List Int} {i:Nat} {v:Int} (h:i<l.length):splice (l.map u8) i [u8 v]=(l.set i v).map u8:=by
 apply List.ext_getElem?;intro j;simp only[splice,List.length_singleton];rw[List.append_assoc,List.map_set];by_cases h1:j<i
 ·rw[List.getElem?_append_left (by simp;omega),List.getElem?_take,if_pos h1,List.getElem?_set_ne (by omega)]
 ·rw[List.getElem?_append_right (by simp;omega)];have e:(List.take i (l.map u8)).length=i:=by simp;omega
  rw[e];by_cases h2:j=i
  ·subst h2;rw[List.getElem?_set_self (by simpa using h)];simp
  ·rw[List.getElem?_set_ne (by omega),List.getElem?_append_right (by simp;omega),List.getElem?_drop];congr 1;simp;omega
theorem Y5 (a:List A) (x v:A) (b:List A):splice (a++x::b) a.length [v]=a++v::b:=by simp[splice]
section
variable {n0:Nat} {w0:World} {I0:Nat→Prop} {Q:Exit→Sta→Prop}
theorem Zv:∀ (m:Nat) (i:Nat) (x:Int) (d:List Int) (H:Hp),0≤x→x<18446744073709551616→i+m=8→d.length=i→H [1]=⟨1,.cells (Lx (d++List.replicate m 0))⟩→H [0]=⟨1,.cells (Lx (List.replicate 8 0))⟩ →
  (∀ x' q H',H' [1]=⟨1,.cells (Lx (d++BH m x))⟩→H' [0]=⟨1,.cells (Lx (List.replicate 8 0))⟩→Q (.exit 0) ⟨lk [(0,uv x'),(2,.pob [0] 1 0),(3,.pob [1] 1 0),(4,iv 8),(7,bv q)],H'⟩) →
  LoopC (cx Tryz.prog w0 I0 n0) Di Q ⟨lk [(0,uv x),(2,.pob [0] 1 0),(3,.pob [1] 1 0),(4,iv i)],H⟩:=by
 intro m;induction m with
 |zero=>
  intro i x d H h0 h1 hi hd hH hH0 hq;have:i=8:=by omega
  subst this;refine Ab Aj Di.eq_1 ?_;simp;exact hq _ _ _ (by simpa[BH] using hH) hH0
 |succ m ih=>
  intro i x d H h0 h1 hi hd hH hH0 hq;refine Ab Aj Di.eq_1 ?_;have hlt:(i:Int)<8:=by omega
  simp[hlt,hH];refine⟨by omega,?_⟩;have ht:x.tmod 256=x % 256:=Int.tmod_eq_emod_of_nonneg h0;have e8:IntKind.u8.wrap (x % 256)=x % 256:=by rw[IntKind.wrap_u8];omega
  rw[Int.tdiv_eq_ediv_of_nonneg h0,ht,GL (by omega) (by omega),e8,A4 (by omega) (by omega)];refine ih (i+1) (x / 256) (d++[x % 256]) _ (by omega) (by omega) (by omega) (by simp[hd]) ?_ (by simp[Aa,hH0]) (fun x' q H' k1 k0=>hq x' q H' (by rw[k1];simp[BH]) k0);simp[Aa];rw[List.replicate_succ,← hd];simpa using Y5 (List.map u8 d) (u8 0) (u8 (x % 256)) (List.replicate m (u8 0))
end
def Ap (x:Int):List Int:=BH 8 x
theorem SB {H:Hp} {l:List Int}:Gy H (.agg (Lx l)) (.agg (Lx l)):=Ad (by simp)
theorem OS {x:Int} (h:AA x):G.Spec Tryz.prog 128 [uv x] (.agg (Lx (Ap x))):=by
 refine Ag Md (by simp) fun w0 I0=>?_;unfold H9;simp;refine Zv 8 0 x [] _ h.1 h.2 rfl rfl (by simp) (by simp) (fun x' q H' h1 h0=>?_);have e:List.take 8 (Lx (BH 8 x))=Lx (BH 8 x):=AN (by simp);simp[h1,h0,Aa,e];exact⟨by simp[A.ones],SB⟩
theorem ZK {k:Int} (hk:k≤8):∀ (m:Nat) (x i:Int),0≤x→x<256→0≤i→i+m=k→(∀ q,Q (.exit 0) ⟨lk [(0,u8 (x / 2 ^ m)),(1,iv k),(5,iv k),(8,bv q)],H⟩) →
  LoopC (cx Tryz.prog w0 I0 n0) Dl Q ⟨lk [(0,u8 x),(1,iv k),(5,iv i)],H⟩:=by
 intro m;induction m with
 |zero=>
  intro x i h0 h1 h2 h3 hq;have:i=k:=by simpa using h3
  subst this;refine Ab Aj Dl.eq_1 ?_;simp;simpa using hq _
 |succ m ih=>
  intro x i h0 h1 h2 h3 hq;refine Ab Aj Dl.eq_1 ?_;have hi:i<k:=by omega
  simp[hi];have e8:IntKind.u8.wrap (x / 2)=x / 2:=by rw[IntKind.wrap_u8];omega
  rw[A4 (by omega) (by omega),Int.tdiv_eq_ediv_of_nonneg h0,e8];exact ih _ _ (by omega) (by omega) (by omega) (by omega) (by rw[VA];exact hq)
def Cq (x:Int) (i:Nat):Bool:=decide (x / 2 ^ i % 2=1)
theorem U4 {x:Int} (h0:0≤x) (h1:x<256) {i:Nat} (hi:i≤8):G.Spec Tryz.prog 129 [u8 x,iv i] (bv (Cq x i)):=by
 refine Ag Mt (by simp) fun w0 I0=>?_;unfold HB;simp;refine ZK (by omega) i x 0 h0 h1 (by omega) (by omega) (fun q=>?_);simp;refine Aq ?_;have:0≤x / 2 ^ i:=Int.ediv_nonneg h0 (Int.le_of_lt (Int.pow_pos (by decide)));rw[Int.tmod_eq_emod_of_nonneg this];rfl
def OA:List Int→Int
 |[]=>0
 |b::l=>b+256*OA l
theorem Jh:∀ (l:List Int),(∀ b,b ∈ l→0≤b∧b<256)→0≤OA l∧OA l<256 ^ l.length
 |[],_=>by simp[OA]
 |b::l,h=>by
  have h1:=h b (by simp);have h2:=Jh l fun x hx=>h x (by simp[hx]);simp only[OA,List.length_cons,Int.pow_succ];omega
theorem lR {f:Bool} {l:List Int} (hl:l.length=8) (hr:∀ b,b ∈ l→0≤b∧b<256):∀ (m:Nat) (x j:Int),m≤8→x=OA (l.drop m)→j=(m:Int)-1→(∀ q,Q (.exit 0) ⟨lk [(0,.sl f (Lx l)),(1,iv 0),(5,uv (OA l)),(6,iv (-1)),(8,bv q)],H⟩) →
  LoopC (cx Tryz.prog w0 I0 n0) EO Q ⟨lk [(0,.sl f (Lx l)),(1,iv 0),(5,uv x),(6,iv j)],H⟩:=by
 intro m;induction m with
 |zero=>
  intro x j hm hx hj hq;subst hx hj;refine Ab Aj EO.eq_1 ?_;simp;simpa using hq false
 |succ m ih=>
  intro x j hm hx hj hq;subst hx hj;have hlt:m<l.length:=by omega
  have hd:=Jh (l.drop m) fun b hb=>hr b (Zd hb);have hp:(256:Int) ^ (l.drop m).length≤18446744073709551616:=by
   have h2:=Int.ofNat_le.2 (Nat.pow_le_pow_right (n:=256) (by decide) (by simp;omega:(l.drop m).length≤8));rw[Int.natCast_pow] at h2;exact h2
  have e1:l.drop m=l[m]::l.drop (m+1):=List.drop_eq_getElem_cons hlt;have hb:=hr l[m] (BD hlt);have ez:OA (l.drop m)=l[m]+256*OA (l.drop (m+1)):=by rw[e1,OA]
  have hd1:=Jh (l.drop (m+1)) fun b hb=>hr b (Zd hb);refine Ab Aj EO.eq_1 ?_;have em:i64.wrap (m:Int)=m:=Hl;have hm0:(0:Int)≤m:=by omega
  have hm8:(m:Int)<8:=by omega
  simp[em,hl,hm8,List.getElem?_eq_getElem hlt];have e64:u64.wrap l[m]=l[m]:=GL (by omega) (by omega);rw[e64,GL (n:=OA (List.drop (m+1) l)*256) (by omega) (by omega),GL (by omega) (by omega),A4 (by omega) (by omega)];exact ih _ _ (by omega) (by rw[ez];omega) rfl hq
theorem fR {f:Bool} {l:List Int} (hl:l.length=8) (hr:∀ b,b ∈ l→0≤b∧b<256):G.Spec Tryz.prog 130 [.sl f (Lx l),iv 0] (uv (OA l)):=by
 refine Ag Pu (by simp) fun w0 I0=>?_;unfold JX;simp;refine lR hl hr 8 0 7 (Ei _) ?_ rfl (fun q=>?_)
 ·rw[List.drop_of_length_le (by omega)];rfl
 ·simp;exact Ad rfl
theorem JS:∀ (m:Nat) (x:Int),∀ b,b ∈ BH m x→0≤b∧b<256
 |m+1,x,b,h=>by
  rcases List.mem_cons.1 h with rfl | h
  ·omega
  ·exact JS m _ b h
def Gc (a b:List Int) (mask:Int) (k:Nat):List Int:=(List.range k).map (fun i=>if Cq mask i=true then b.getD i 0 else a.getD i 0)++a.drop k
theorem Fx {a b:List Int} {mask:Int} {k:Nat} (h:k≤a.length):(Gc a b mask k).length=a.length:=by simp[Gc];omega
theorem Y1 {a b:List Int} {mask:Int} {k:Nat} (h:k<a.length):Gc a b mask (k+1)=if Cq mask k=true then (Gc a b mask k).set k (b.getD k 0) else Gc a b mask k:=by
 unfold Gc;rw[List.range_succ];have e0:a.drop k=a[k]::a.drop (k+1):=List.drop_eq_getElem_cons h;have e:((List.range k).map (fun i=>if Cq mask i=true then b.getD i 0 else a.getD i 0)).length=k:=by simp
 split
 ·rename_i hn;rw[List.set_append_right _ _ (by omega),e,e0,Nat.sub_self,List.set_cons_zero];simp[hn]
 ·rename_i hn;rw[e0];simp[hn,List.getElem?_eq_getElem h]
section
variable {n0:Nat} {w0:World} {I0:Nat→Prop} {Q:Exit→Sta→Prop}
theorem im {a b:List Int} {mask:Int} (ha:a.length=8) (hb:b.length=8) (h0:0≤mask) (h1:mask<256) (hq:∀ q H',H' [0]=⟨1,.cells (Lx (Gc a b mask 8))⟩→Q (.exit 0) ⟨lk [(2,u8 mask),(7,.pob [0] 1 0),(8,.pob [1] 1 0),(9,iv 8),(15,bv q)],H'⟩):∀ (m i:Nat) (H:Hp),i+m=8→H [0]=⟨1,.cells (Lx (Gc a b mask i))⟩→H [1]=⟨1,.cells (Lx b)⟩ →
  LoopC (cx Tryz.prog w0 I0 n0) Ev Q ⟨lk [(2,u8 mask),(7,.pob [0] 1 0),(8,.pob [1] 1 0),(9,iv i)],H⟩:=by
 intro m;induction m with
 |zero=>
  intro i H hi hA hB;have:i=8:=by omega
  subst this;refine Ab Aj Ev.eq_1 ?_;simp;exact hq _ _ hA
 |succ m ih=>
  intro i H hi hA hB;have hlt:(i:Int)<8:=by omega
  have hml:=Fx (a:=a) (b:=b) (mask:=mask) (k:=i) (by omega);have hia:i<(Gc a b mask i).length:=by omega
  have hib:i<b.length:=by omega
  refine Ab Aj Ev.eq_1 ?_;simp[hlt];refine Ae (U4 h0 h1 (by omega)) rfl ?_;have hs:=Y1 (a:=a) (b:=b) (mask:=mask) (k:=i) (by omega);cases hn:Cq mask i with
  |false=>
   simp[hn] at hs;simp;rw[A4 (by omega) (by omega)];exact ih (i+1) H (by omega) (by rw[hs];exact hA) hB
  |true=>
   simp[hn] at hs;simp[hlt,hA,hB,List.getElem?_eq_getElem hib];refine⟨by omega,?_⟩;rw[A4 (by omega) (by omega)];refine ih (i+1) _ (by omega) ?_ (by simp[Aa,hB]);rw[hs];simp only[Aa,if_true];rw[P3 hia];simp[List.getElem?_eq_getElem hib]
end
def AM (a b mask:Int):Int:=OA (Gc (Ap a) (Ap b) mask 8)
theorem JK {a b mask:Int} {k:Nat}:∀ x,x ∈ Gc (Ap a) (Ap b) mask k→0≤x∧x<256:=by
 have hg:∀ (y:Int) (i:Nat),0≤(Ap y).getD i 0∧(Ap y).getD i 0<256:=fun y i=>by
  rw[List.getD_eq_getElem?_getD];cases e:(Ap y)[i]? with
  |none=>simp
  |some z=>exact JS 8 y z (List.mem_of_getElem? e)
 intro x hx;rcases List.mem_append.1 hx with hx | hx
 ·obtain⟨i,_,rfl⟩:=List.mem_map.1 hx;split
  ·exact hg b i
  ·exact hg a i
 ·exact JS 8 a x (Zd hx)
theorem AZ (x:Int):(Ap x).length=8:=LX 8 x
theorem Fs {a b mask:Int} (ha:AA a) (hb:AA b) (h0:0≤mask) (h1:mask<256):G.Spec Tryz.prog 81 [uv a,uv b,u8 mask] (uv (AM a b mask)):=by
 refine Ag Oz (by simp) fun w0 I0=>?_;unfold I9;simp;refine Ae (OS ha) rfl ?_;simp;refine Ae (OS hb) rfl ?_;have l8:=AZ a;have m8:=AZ b;have o1:∀ l:List Int,A.ones (Lx l)=true:=fun l=>by simp[A.ones]
 simp[l8,m8,o1];refine im l8 m8 h0 h1 (fun q H' hH=>?_) 8 0 _ (by omega) (by simp[Gc]) (by simp);simp;have lm:(Gc (Ap a) (Ap b) mask 8).length=8:=by rw[Fx (by omega),l8]
 refine JB (Xh (d:=[0]) (fun _ h=>h) 7 (.pim (Lx (Gc (Ap a) (Ap b) mask 8))) (fun H1 h1=>?_)) (Ff ?_)
 ·rw[hH] at h1;exact jm (by simp[QX,h1]) (K9 (by simp)) (o1 _)
 have e:List.take 8 (Lx (Gc (Ap a) (Ap b) mask 8))=Lx (Gc (Ap a) (Ap b) mask 8):=AN (by simp[lm]);simp[lm,e];refine Ae (fR lm JK) rfl ?_;simp;exact Ad rfl
@[simp] theorem rC {q:Bool} {n:Nat} {y:A} {K:A→Prop}:F0 q (A.shift n (gd q y)) K=F0 q (A.shift n y) K:=Dq fun h=>by rw[h];rfl
theorem FK (l:List Int):A.softL (l.map uv)=l.map uv:=by
 rw[Bd,List.map_map];rfl
theorem Yk:∀ t:T,(tA t).soft=tA t:=by
 refine T.ind fun k w l ih=>?_;rw[tA_eq];simp only[A.soft,A.softL,T.kind_mk,T.words_mk,T.kids_mk,FK];have e:l.map (A.soft ∘ tA)=l.map tA:=List.map_congr_left fun t ht=>ih t ht;rw[Bd,List.map_map,e];rfl
theorem D3 (l:List T):A.softL (l.map tA)=l.map tA:=by
 rw[Bd,List.map_map];exact List.map_congr_left fun t _=>Yk t
theorem Ll (t:T):(tX t).soft=tX t:=by rw[← tA_eq];exact Yk t
theorem MD (l:List WE):A.softL (l.map wA)=l.map wA:=by
 rw[Bd,List.map_map];rfl
theorem JV:∀ e:E,A.softL (eL e)=eL e:=by
 refine E.ind fun k o n w ks l os ihk iho=>?_;have h1:A.softL (ks.map kA)=ks.map kA:=by
  rw[Bd,List.map_map];refine List.map_congr_left fun x hx=>?_;have:=ihk x hx;simp only[Function.comp,kA_eq];simp only[A.soft,A.softL] at this ⊢;simp_all
 have h2:A.softL (os.map oA)=os.map oA:=by
  rw[Bd,List.map_map];refine List.map_congr_left fun x hx=>?_;have:=iho x hx;simp only[Function.comp,oA_eq];simp only[A.soft,A.softL,D3] at this ⊢;simp_all
 simp only[A.soft,A.softL,E.kind_mk,E.old_mk,E.new_mk,E.words_mk,E.kids_mk,E.list_mk,E.ops_mk,FK,D3,MD,h1,h2];rfl
theorem QC (l:List KE):A.softL (l.map kA)=l.map kA:=by
 rw[Bd,List.map_map];refine List.map_congr_left fun x _=>?_;have:=JV x.e;simp only[Function.comp,kA_eq];simp only[A.soft,A.softL] at this ⊢;simp_all
theorem Rj (l:List OP):A.softL (l.map oA)=l.map oA:=by
 rw[Bd,List.map_map];refine List.map_congr_left fun x _=>?_;have:=JV x.e;simp only[Function.comp,oA_eq];simp only[A.soft,A.softL,D3] at this ⊢;simp_all
end Go.Proofs.YtlaapfplenlfaaaGreat
namespace Go.Proofs.YtlaapfplenlfaaaGreat
set_option maxRecDepth 20000
open Go Go.G Go.Proofs
@[simp] theorem AbM:Tryz.prog.underlying 4=some .bool:=by kernel_rfl
@[simp] theorem z6:Tryz.prog.underlying 23=some (.slice 25):=by kernel_rfl
@[simp] theorem AbH:Cv Tryz.prog 3=some 1:=by kernel_rfl
@[simp] theorem z9:Cv Tryz.prog 22=some 1:=by kernel_rfl
@[simp] theorem zQ:Cv Tryz.prog 23=some 1:=by kernel_rfl
@[simp] theorem Aa0:Cv Tryz.prog 25=some 3:=by kernel_rfl
@[simp] theorem Aa3:C0 Tryz.prog 3=some false:=by kernel_rfl
@[simp] theorem zf:C0 Tryz.prog 22=some false:=by kernel_rfl
@[simp] theorem zm:C0 Tryz.prog 23=some false:=by kernel_rfl
@[simp] theorem xC:C0 Tryz.prog 25=some true:=by kernel_rfl
@[simp] theorem uR:A5 Tryz.prog 25=some (Value.agg #[Value.int i64 0,Value.slice none 0 0,Value.slice none 0 0]):=by kernel_rfl
@[simp] theorem pU:Bb Tryz.prog 25=some 56:=by kernel_rfl
@[simp] theorem eZ:Ak Tryz.prog 25 0=some 0:=by kernel_rfl
@[simp] theorem dP:Ak Tryz.prog 25 1=some 1:=by kernel_rfl
@[simp] theorem bH:Ak Tryz.prog 25 2=some 2:=by kernel_rfl
@[simp] theorem pr (ps:List (Nat × A)):BW Tryz.prog 25 ps=(Cu (fun i=>([(0,1),(1,1),(2,1)]:List (Nat × Nat))[i]?) [iv 0,A.sl true [],A.sl true []] ps).map A.agg:=by kernel_rfl
def BT:CC:=sQ [mO 78 5,fO 79 25 2 2,lO 80 23 79,bN 81 80 23,bB .lss 82 3 78 81 3] [1,2,5,82] (cD 82 (.skip) (.exit 0)) [1,2,5] (.seq (.block 1 (sR [fO 85 25 2 2,lO 86 23 85,mO 87 5,iO 88 23 86 87,lO 89 25 88,aL 6 25 [1],sT 25 6 89] [1,2,5,6] (sQ [lO 90 25 6,mO 91 1,bQ .sub 92 3 91 1 3,cB 93 11 90 92 25 3,oO 94 (.unOp .not 4 (xT 93))] [1,2,5,6,94] (cD 94 (sR [aB 4 false] [4] (.ret)) (.skip)) [1,2,5,6] (sR [fO 95 25 2 0,lO 96 3 95,bQ .geq 97 3 96 2 3,mO 98 97,fG 99 25 2 0 98 true,lG 100 3 99 98 true,oG 101 (.binOp .leq 3 (xT 100) (nI 7) 3) 98 true,pF 102 98 101,aO 7 102] [1,2,5,6,7] (sR [mO 103 7,fO 104 25 6 0,lO 105 3 104,bQ .eql 106 3 105 10 3,bB .neq 107 4 103 106 4,mO 108 107,fG 109 25 2 0 108 false,lG 110 3 109 108 false,oG 111 (.binOp .eql 3 (xT 110) (nI 9) 3) 108 false,mG 112 111 108 false,fG 113 25 6 0 112 true,lG 114 3 113 112 true,oG 115 (.binOp .neq 3 (xT 114) (nI 1) 3) 112 true,oG 116 (.pick (xT 112) (xT 115) (nB false)) 108 false,pT 117 108 116,mO 118 117,mG 119 7 118 false,mG 120 119 118 false,fG 121 25 2 0 120 true,lG 122 3 121 120 true,oG 123 (.binOp .sub 3 (xT 122) (nI 2) 3) 120 true,fG 124 25 6 1 120 true,lG 125 22 124 120 true,oG 126 (.indexAddr 22 (xT 125) (nI 0)) 120 true,lG 127 61 126 120 true,oG 128 (cL 29 #[(xT 123),(xT 127)] #[3,61]) 120 true,oG 129 (.unOp .not 4 (xT 128)) 120 true,oG 130 (.pick (xT 120) (xT 129) (nB false)) 118 false,pT 131 118 130] [1,2,5,131] (cD 131 (sR [aB 4 false] [4] (.ret)) (.skip))))))) (.keep [1,2,5] (.reg [mO 83 5,bQ .add 84 3 83 1 3,aO 5 84] [1,2,5]))) 
def HT:CC:=sR [bX 2 25 0 [0],aB 4 false] [1,2] (sQ [fO 8 25 2 0,lO 9 3 8,bQ .eql 10 3 9 0 3] [1,2,10] (cD 10 (sR [fO 11 25 2 1,lO 12 22 11,bN 13 12 22,bQ .eql 14 3 13 0 3,mO 15 14,fG 16 25 2 2 15 true,lG 17 23 16 15 true,oG 18 (bL 17 23) 15 true,oG 19 (.binOp .eql 3 (xT 18) (nI 0) 3) 15 true,pF 20 15 19,aO 4 20] [4] (.ret)) (.skip)) [1,2] (sQ [fO 21 25 2 0,lO 22 3 21,bQ .eql 23 3 22 10 3] [1,2,23] (cD 23 (sR [fO 24 25 2 1,lO 25 22 24,bN 26 25 22,bQ .eql 27 3 26 1 3,mO 28 27,fG 29 25 2 2 28 true,lG 30 23 29 28 true,oG 31 (bL 30 23) 28 true,oG 32 (.binOp .eql 3 (xT 31) (nI 0) 3) 28 true,pF 33 28 32,aO 4 33] [4] (.ret)) (.skip)) [1,2] (sQ [fO 34 25 2 0,lO 35 3 34,bQ .lss 36 3 35 0 3,mO 37 36,fG 38 25 2 0 37 false,lG 39 3 38 37 false,oG 40 (.binOp .gtr 3 (xT 39) (nI 10) 3) 37 false,pT 41 37 40,mO 42 41,mG 43 1 42 false,oG 44 (.binOp .eql 3 (xT 43) (nI 0) 3) 42 false,pT 45 42 44,mO 46 45,fG 47 25 2 1 46 false,lG 48 22 47 46 false,oG 49 (bL 48 22) 46 false,oG 50 (.binOp .geq 3 (xT 49) (nI 65536) 3) 46 false,pT 51 46 50,mO 52 51,fG 53 25 2 0 52 false,lG 54 3 53 52 false,oG 55 (.binOp .eql 3 (xT 54) (nI 1) 3) 52 false,mG 56 55 52 false,fG 57 25 2 2 56 true,lG 58 23 57 56 true,oG 59 (bL 58 23) 56 true,oG 60 (.binOp .geq 3 (xT 59) (nI 65536) 3) 56 true,oG 61 (.pick (xT 56) (xT 60) (nB false)) 52 false,pT 62 52 61,mO 63 62,fG 64 25 2 2 63 false,lG 65 23 64 63 false,oG 66 (bL 65 23) 63 false,oG 67 (.binOp .geq 3 (xT 66) (nI 1048576) 3) 63 false,pT 68 63 67] [1,2,68] (cD 68 (sR [aB 4 false] [4] (.ret)) (.skip)) [1,2] (sQ [fO 69 25 2 0,lO 70 3 69,bQ .gtr 71 3 70 1 3,mO 72 71,fG 73 25 2 1 72 true,lG 74 22 73 72 true,oG 75 (bL 74 22) 72 true,oG 76 (.binOp .gtr 3 (xT 75) (nI 0) 3) 72 true,pF 77 72 76] [1,2,77] (cD 77 (sR [aB 4 false] [4] (.ret)) (.skip)) [1,2] (sQ [aI 5 0] [1,2,5] (.block 0 (.loop BT)) [] (sR [aB 4 true] [4] (.ret)))))))
theorem Mn:Ca Tryz.prog 11 132 [(.tmp 4)] HT:=AJ Tryz.func11
def DF:CC:=sQ [mO 12 5,fO 13 25 1 2,lO 14 23 13,bN 15 14 23,bB .lss 16 3 12 15 3] [1,2,3,4,5,16] (cD 16 (.skip) (.exit 0)) [1,2,3,4,5] (.seq (.block 1 (sR [fO 19 25 1 2,lO 20 23 19,mO 21 5,iO 22 23 20 21,lO 23 25 22,cA 24 21 23 25,aL 6 25 [2],sT 25 6 24] [1,2,3,4,5,6] (sR [mO 25 3,lO 26 25 6,oO 27 (.buildSlice 23 1 #[(0,(xT 26))]),aP 28 25 27 23 23 [3],aO 3 28] [1,2,3,4,5,6] (sR [fO 29 25 6 0,lO 30 3 29,bQ .neq 31 3 30 0 3] [1,2,3,4,5,31] (cD 31 (.reg [mO 32 5,bQ .add 33 3 32 1 3,aO 4 33] [1,2,3,4,5]) (.skip)))))) (.keep [1,2,3,4,5] (.reg [mO 17 5,bQ .add 18 3 17 1 3,aO 5 18] [1,2,3,4,5]))) 
def Il:CC:=sR [bX 1 25 0 [0],aL 2 25 [1]] [1,2] (sQ [fO 8 25 1 0,lO 9 3 8,bQ .eql 10 3 9 0 3] [1,2,10] (cD 10 (sR [oO 11 (.build 25 #[]),sT 25 2 11] [2] (.ret)) (.skip)) [1,2] (sR [aN 3] [1,2,3] (sR [aI 4 0] [1,2,3,4] (sQ [aI 5 0] [1,2,3,4,5] (.block 0 (.loop DF)) [1,2,3,4] (sQ [fO 34 25 1 0,lO 35 3 34,bQ .eql 36 3 35 1 3] [1,2,3,4,36] (cD 36 (sR [fO 37 25 1 1,lO 38 22 37,cA 39 41 38 22,mO 40 3,mO 41 4,oO 42 (.slice 23 (xT 40) none (some (xT 41)) none),oO 43 (.build 25 #[(0,(nI 1)),(1,(xT 39)),(2,(xT 42))]),sT 25 2 43] [2] (.ret)) (.skip)) [1,2,3] (sR [aN 7] [1,2,3,7] (sR [mO 44 7,fO 45 25 1 1,lO 46 22 45,aP 47 44 46 22 22 [4],aO 7 47] [1,2,3,7] (sR [fO 48 25 1 0,lO 49 3 48,mO 50 7,mO 51 3,oO 52 (.build 25 #[(0,(xT 49)),(1,(xT 50)),(2,(xT 51))]),sT 25 2 52] [2] (.ret)))))))))
theorem ND:Ca Tryz.prog 21 53 [(.cell 2 25)] Il:=AJ Tryz.func21
def CG:CC:=sQ [mO 20 7,fO 21 25 3 2,lO 22 23 21,bN 23 22 23,bB .lss 24 3 20 23 3,mO 25 24,mG 26 2 25 true,oG 27 (.binOp .geq 3 (xT 26) (nI 0) 3) 25 true,pF 28 25 27] [1,2,3,7,28] (cD 28 (.skip) (.exit 0)) [1,2,3,7] (.seq (.block 1 (.reg [fO 31 25 3 2,lO 32 23 31,mO 33 7,iO 34 23 32 33,lO 35 25 34,mO 36 1,bQ .sub 37 3 36 1 3,mO 38 2,cE 39 28 35 37 38 25 3 3,aO 2 39] [1,2,3,7])) (.reg [mO 29 7,bQ .add 30 3 29 1 3,aO 7 30] [1,2,3,7])) 
def GF:CC:=sR [bX 3 25 0 [0],aI 6 0] [1,2,3] (sR [mO 8 2,bQ .sub 9 3 8 1 3,fO 10 25 3 1,lO 11 22 10,bN 12 11 22,bB .sub 13 3 9 12 3,aO 2 13] [1,2,3] (sQ [mO 14 1,bQ .eql 15 3 14 0 3,mO 16 15,mG 17 2 16 false,oG 18 (.binOp .lss 3 (xT 17) (nI 0) 3) 16 false,pT 19 16 18] [1,2,3,19] (cD 19 (sR [oO 6 (.assign (.const (.int .i64 (-1))))] [6] (.ret)) (.skip)) [1,2,3] (sQ [aI 7 0] [1,2,3,7] (.block 0 (.loop CG)) [2] (sR [mO 40 2,aO 6 40] [6] (.ret)))))
theorem Kf:Ca Tryz.prog 28 41 [(.tmp 6)] GF:=AJ Tryz.func28
def Jg:CC:=sR [bX 1 25 0 [0],aB 2 false] [1] (sR [lO 3 25 1,oO 4 (cL 28 #[(xT 3),(nI 80),(nI 3000)] #[25,3,3]),bQ .geq 5 3 4 0 3,aO 2 5] [2] (.ret))
theorem OD:Ca Tryz.prog 10 6 [(.tmp 2)] Jg:=AJ Tryz.func10
def DR:CC:=sQ [mO 28 5,fO 29 25 2 2,lO 30 23 29,bN 31 30 23,bB .lss 32 3 28 31 3] [2,3,5,32] (cD 32 (.skip) (.exit 0)) [2,3,5] (.seq (.block 1 (sR [fO 35 25 2 2,lO 36 23 35,mO 37 5,iO 38 23 36 37,lO 39 25 38,fO 40 25 3 2,lO 41 23 40,mO 42 5,iO 43 23 41 42,lO 44 25 43,cB 45 16 39 44 25 25,oO 46 (.unOp .not 4 (xT 45))] [2,3,5,46] (cD 46 (sR [aB 4 false] [4] (.ret)) (.skip)))) (.keep [2,3,5] (.reg [mO 33 5,bQ .add 34 3 33 1 3,aO 5 34] [2,3,5]))) 
def Im:CC:=sR [bX 2 25 0 [0],bX 3 25 1 [1],aB 4 false] [2,3] (sQ [fO 6 25 2 0,lO 7 3 6,fO 8 25 3 0,lO 9 3 8,bB .neq 10 3 7 9 3,mO 11 10,fG 12 25 2 1 11 false,lG 13 22 12 11 false,fG 14 25 3 1 11 false,lG 15 22 14 11 false,oG 16 (cL 38 #[(xT 13),(xT 15)] #[22,22]) 11 false,oG 17 (.unOp .not 4 (xT 16)) 11 false,pT 18 11 17,mO 19 18,fG 20 25 2 2 19 false,lG 21 23 20 19 false,oG 22 (bL 21 23) 19 false,fG 23 25 3 2 19 false,lG 24 23 23 19 false,oG 25 (bL 24 23) 19 false,oG 26 (bO .neq 3 22 25 3) 19 false,pT 27 19 26] [2,3,27] (cD 27 (sR [aB 4 false] [4] (.ret)) (.skip)) [2,3] (sQ [aI 5 0] [2,3,5] (.block 0 (.loop DR)) [] (sR [aB 4 true] [4] (.ret))))
theorem MZ:Ca Tryz.prog 16 47 [(.tmp 4)] Im:=AJ Tryz.func16
def HS:CC:=sR [bX 2 25 0 [0],bX 3 25 1 [1],aB 4 false] [2,3] (sR [lO 5 25 2,⟨some 6,(cL 21 #[(xT 5)] #[25]),none,[],1,[],true⟩,⟨some 7,(lD 25 3),none,[],2,[1],false⟩,cA 8 21 7 25,cB 9 16 6 8 25 25,aO 4 9] [4] (.ret))
theorem L8:Ca Tryz.prog 60 10 [(.tmp 4)] HS:=AJ Tryz.func60
def Hs:CC:=sR [bB .lss 20 3 19 18 3] [1,2,3,17,18,19,20] (.seq (cD 20 (.skip) (.exit 0)) (.keep [1,2,3,17,18,19] (.seq (.block 1 (sR [iO 21 23 17 19,lO 22 25 21,aL 5 25 [3],sT 25 5 22] [1,2,3,5,17,18,19] (.reg [fO 23 25 3 2,lS 24 23 23 1,lO 25 25 5,⟨some 26,(cL 35 #[(xT 25)] #[25]),none,[],3,[1],false⟩,⟨some 27,(.buildSlice 23 1 #[(0,(xT 26))]),none,[],4,[1],false⟩,aP 28 24 27 23 23 [4],fO 29 25 3 2,sT 23 29 28] [1,2,3,17,18,19]))) (.reg [bQ .add 30 3 19 1 3,mO 19 30] [1,2,3,17,18,19]))))
def Hg:CC:=sQ [fO 34 25 3 1,lO 35 22 34,bN 36 35 22,bQ .gtr 37 3 36 0 3,mO 38 37,fG 39 25 3 1 38 true,lG 40 22 39 38 true,fG 41 25 3 1 38 true,lG 42 22 41 38 true,oG 43 (bL 42 22) 38 true,oG 44 (.binOp .sub 3 (xT 43) (nI 1) 3) 38 true,oG 45 (iA 22 40 44) 38 true,lG 46 61 45 38 true,oG 47 (.binOp .eql 61 (xT 46) (.const (.int .u64 0)) 61) 38 true,pF 48 38 47] [2,3,48] (cD 48 (.skip) (.exit 2)) [2,3] (.block 3 (.reg [fO 49 25 3 1,lO 50 22 49,fO 51 25 3 1,lO 52 22 51,bN 53 52 22,bQ .sub 54 3 53 1 3,oO 55 (.slice 22 (xT 50) none (some (xT 54)) none),fO 56 25 3 1,sT 22 56 55] [2,3]))
def Ho:CC:=sQ [fO 57 25 3 2,lO 58 23 57,bN 59 58 23,bQ .gtr 60 3 59 0 3,mO 61 60,fG 62 25 3 2 61 true,lG 63 23 62 61 true,fG 64 25 3 2 61 true,lG 65 23 64 61 true,oG 66 (bL 65 23) 61 true,oG 67 (.binOp .sub 3 (xT 66) (nI 1) 3) 61 true,oG 68 (iA 23 63 67) 61 true,fG 69 25 68 0 61 true,lG 70 3 69 61 true,oG 71 (.binOp .eql 3 (xT 70) (nI 0) 3) 61 true,pF 72 61 71] [2,3,72] (cD 72 (.skip) (.exit 4)) [2,3] (.block 5 (.reg [fO 73 25 3 2,lO 74 23 73,fO 75 25 3 2,lO 76 23 75,bN 77 76 23,bQ .sub 78 3 77 1 3,oO 79 (.slice 23 (xT 74) none (some (xT 78)) none),fO 80 25 3 2,sT 23 80 79] [2,3])) 
def O4:CC:=sR [bX 1 25 0 [0],aL 2 25 [1]] [1,2] (sQ [fO 6 25 1 0,lO 7 3 6,bQ .eql 8 3 7 0 3] [1,2,8] (cD 8 (sR [oO 9 (.build 25 #[]),sT 25 2 9] [2] (.ret)) (.skip)) [1,2] (sR [fO 10 25 1 0,lS 11 3 10 1,fO 12 25 1 1,lS 13 22 12 3,⟨some 14,(cL 59 #[(xT 13)] #[22]),none,[],4,[1],true⟩,oO 15 (.build 25 #[(0,(xT 11)),(1,(xT 14))]),⟨some 3,(.alloc 25),none,[2],6,[1,3,4],false⟩,sT 25 3 15] [1,2,3] (sQ [fO 16 25 1 2,lO 17 23 16,bN 18 17 23,oO 19 (.move (nI 0))] [1,2,3,17,18,19] (.block 0 (.loop Hs)) [1,2,3] (sQ [fO 31 25 1 0,lO 32 3 31,bQ .eql 33 3 32 1 3] [2,3,33] (cD 33 (.seq (.block 2 (.loop Hg)) (.keep [2,3] (.block 4 (.loop Ho)))) (.skip)) [2,3] (sR [lO 81 25 3,sT 25 2 81] [2] (.ret))))))
theorem Wg:Ca Tryz.prog 35 82 [(.cell 2 25)] O4:=AJ Tryz.func35
end Go.Proofs.YtlaapfplenlfaaaGreat
namespace Go.Proofs.YtlaapfplenlfaaaGreat
open Go Go.G Go.Proofs Go.PL
structure Sg (l:List (List Int)):Prop where
 b:∀ x,x ∈ l→x.length*8≤140737488355328
 w:Wds l
def aY (l:List (List Int)) (r:Rf):A:=if r.kind=0 then .v (.pointer none) else arn l
@[simp] theorem rD (l:List (List Int)) (r:Rf):(aY l r).cells=[aY l r]:=by unfold aY;split<;>rfl
@[simp] theorem xY (l:List (List Int)) (r:Rf):(aY l r).one=true:=by unfold aY;split<;>rfl
@[simp] theorem wc (l:List (List Int)) (r:Rf):(aY l r).bare=true:=by unfold aY;split<;>rfl
@[simp] theorem pe (l:List (List Int)) (r:Rf):(aY l r).bare1=true:=by unfold aY;split<;>rfl
@[simp] theorem qy (l:List (List Int)) (r:Rf):(aY l r).bare2=true:=by unfold aY;split<;>rfl
abbrev paL (l:List (List Int)) (r:Rf):List A:=[aY l r,iv r.kind,iv r.s,iv r.at_,iv r.data,iv r.kids,iv r.count,uv r.n]
end Go.Proofs.YtlaapfplenlfaaaGreat
namespace Go.Proofs.YtlaapfplenlfaaaGreat
set_option maxRecDepth 20000
open Go Go.G Go.Proofs
@[simp] theorem zG:Tryz.prog.underlying 157=some (.slice 3):=by kernel_rfl
@[simp] theorem yZ:A5 Tryz.prog 3=some (Value.int i64 0):=by kernel_rfl
@[simp] theorem uk:Bb Tryz.prog 3=some 8:=by kernel_rfl
@[simp] theorem Aac:Tryz.prog.underlying 26=some (.slice 85):=by kernel_rfl
@[simp] theorem Aa5:Tryz.prog.underlying 27=some (.slice 88):=by kernel_rfl
@[simp] theorem zT:Tryz.prog.underlying 28=some (.slice 91):=by kernel_rfl
@[simp] theorem AaR:Cv Tryz.prog 26=some 1:=by kernel_rfl
@[simp] theorem zZ:Cv Tryz.prog 27=some 1:=by kernel_rfl
@[simp] theorem Aa4:Cv Tryz.prog 28=some 1:=by kernel_rfl
@[simp] theorem AaS:Cv Tryz.prog 30=some 11:=by kernel_rfl
@[simp] theorem Aav:Cv Tryz.prog 85=some 4:=by kernel_rfl
@[simp] theorem AaL:Cv Tryz.prog 88=some 12:=by kernel_rfl
@[simp] theorem Aae:Cv Tryz.prog 91=some 14:=by kernel_rfl
@[simp] theorem xn:C0 Tryz.prog 26=some false:=by kernel_rfl
@[simp] theorem zO:C0 Tryz.prog 27=some false:=by kernel_rfl
@[simp] theorem xE:C0 Tryz.prog 28=some false:=by kernel_rfl
@[simp] theorem yv:C0 Tryz.prog 30=some true:=by kernel_rfl
@[simp] theorem yI:C0 Tryz.prog 85=some true:=by kernel_rfl
@[simp] theorem yj:C0 Tryz.prog 88=some true:=by kernel_rfl
@[simp] theorem xf:C0 Tryz.prog 91=some true:=by kernel_rfl
@[simp] theorem uO:A5 Tryz.prog 85=some (Value.agg #[Value.int i64 0,Value.int IntKind.u8 0,Value.int u64 0,Value.int u64 0]):=by kernel_rfl
@[simp] theorem sn:A5 Tryz.prog 88=some (Value.agg #[Value.int i64 0,Value.int i64 0,Value.int i64 0,Value.slice none 0 0,Value.slice none 0 0,Value.int i64 0,Value.slice none 0 0,Value.slice none 0 0,Value.slice none 0 0,Value.slice none 0 0,Value.int i64 0,Value.slice none 0 0]):=by kernel_rfl
@[simp] theorem uU:A5 Tryz.prog 91=some (Value.agg #[Value.int i64 0,Value.int i64 0,Value.slice none 0 0,Value.int i64 0,Value.int i64 0,Value.slice none 0 0,Value.slice none 0 0,Value.int i64 0,Value.slice none 0 0,Value.slice none 0 0,Value.slice none 0 0,Value.slice none 0 0,Value.int i64 0,Value.slice none 0 0]):=by kernel_rfl
@[simp] theorem qT:Bb Tryz.prog 85=some 32:=by kernel_rfl
@[simp] theorem qA:Bb Tryz.prog 88=some 208:=by kernel_rfl
@[simp] theorem ry:Bb Tryz.prog 91=some 240:=by kernel_rfl
@[simp] theorem dv:Ak Tryz.prog 30 0=some 0:=by kernel_rfl
@[simp] theorem cG:Ak Tryz.prog 30 1=some 1:=by kernel_rfl
@[simp] theorem fC:Ak Tryz.prog 30 2=some 4:=by kernel_rfl
@[simp] theorem fV:Ak Tryz.prog 30 3=some 7:=by kernel_rfl
@[simp] theorem dU:Ak Tryz.prog 30 4=some 8:=by kernel_rfl
@[simp] theorem fp:Ak Tryz.prog 30 5=some 9:=by kernel_rfl
@[simp] theorem cV:Ak Tryz.prog 30 6=some 10:=by kernel_rfl
@[simp] theorem bJ:Ak Tryz.prog 85 0=some 0:=by kernel_rfl
@[simp] theorem bt:Ak Tryz.prog 85 1=some 1:=by kernel_rfl
@[simp] theorem gg:Ak Tryz.prog 85 2=some 2:=by kernel_rfl
@[simp] theorem dG:Ak Tryz.prog 85 3=some 3:=by kernel_rfl
@[simp] theorem fq:Ak Tryz.prog 88 0=some 0:=by kernel_rfl
@[simp] theorem cX:Ak Tryz.prog 88 1=some 1:=by kernel_rfl
@[simp] theorem fh:Ak Tryz.prog 91 0=some 0:=by kernel_rfl
@[simp] theorem eW:Ak Tryz.prog 91 1=some 1:=by kernel_rfl
@[simp] theorem bV:Ak Tryz.prog 91 2=some 2:=by kernel_rfl
@[simp] theorem bF:Ak Tryz.prog 91 3=some 3:=by kernel_rfl
def IC:CC:=sR [bX 1 25 0 [0],aB 2 false] [1] (sR [fO 3 25 1 0,lO 4 3 3,bQ .eql 5 3 4 0 3,mO 6 5,fG 7 25 1 1 6 true,lG 8 22 7 6 true,oG 9 (bL 8 22) 6 true,fG 10 25 1 2 6 true,lG 11 23 10 6 true,oG 12 (bL 11 23) 6 true,oG 13 (bO .add 3 9 12 3) 6 true,oG 14 (.binOp .eql 3 (xT 13) (nI 0) 3) 6 true,pF 15 6 14,aO 2 15] [2] (.ret))
theorem ML:Ca Tryz.prog 50 16 [(.tmp 2)] IC:=AJ Tryz.func50
def G8:CC:=sR [aB 4 false] [0,1] (sR [mO 5 0,mO 6 1,oO 7 (cL 81 #[(xT 5),(.const (.int .u64 0)),(xT 6)] #[61,61,5]),oO 8 (.binOp .eql 61 (xT 7) (.const (.int .u64 0)) 61),aO 4 8] [4] (.ret))
theorem Lz:Ca Tryz.prog 51 9 [(.tmp 4)] G8:=AJ Tryz.func51
def IG:CC:=sR [bX 1 30 0 [0],aB 2 false] [1] (sR [fO 3 30 1 0,lO 4 3 3,bQ .eql 5 3 4 0 3,mO 6 5,fG 7 30 1 1 6 true,lG 8 25 7 6 true,oG 9 (cL 50 #[(xT 8)] #[25]) 6 true,pF 10 6 9,mO 11 10,fG 12 30 1 2 11 true,lG 13 25 12 11 true,oG 14 (cL 50 #[(xT 13)] #[25]) 11 true,pF 15 11 14,mO 16 15,fG 17 30 1 3 16 true,lG 18 26 17 16 true,oG 19 (bL 18 26) 16 true,fG 20 30 1 4 16 true,lG 21 27 20 16 true,oG 22 (bL 21 27) 16 true,oG 23 (bO .add 3 19 22 3) 16 true,fG 24 30 1 6 16 true,lG 25 28 24 16 true,oG 26 (bL 25 28) 16 true,oG 27 (bO .add 3 23 26 3) 16 true,oG 28 (.binOp .eql 3 (xT 27) (nI 0) 3) 16 true,pF 29 16 28,mO 30 29,fG 31 30 1 5 30 true,lG 32 3 31 30 true,oG 33 (.binOp .eql 3 (xT 32) (nI 0) 3) 30 true,pF 34 30 33,aO 2 34] [2] (.ret))
theorem MX:Ca Tryz.prog 82 35 [(.tmp 2)] IG:=AJ Tryz.func82
def EW:CC:=sQ [mO 46 7,fO 47 91 4 2,lO 48 23 47,bN 49 48 23,bB .lss 50 3 46 49 3] [0,4,7,50] (cD 50 (.skip) (.exit 0)) [0,4,7] (.seq (.block 1 (sR [mO 53 0,fO 54 91 4 2,lO 55 23 54,mO 56 7,mO 57 7,bQ .add 58 3 57 1 3,oO 59 (.slice 23 (xT 55) (some (xT 56)) (some (xT 58)) none),oO 60 (.build 25 #[(0,(xT 53)),(2,(xT 59))]),oO 61 (cL 11 #[(xT 60),(nI 64)] #[25,3]),oO 62 (.unOp .not 4 (xT 61))] [0,4,7,62] (cD 62 (sR [aB 6 false] [6] (.ret)) (.skip)))) (.keep [0,4,7] (.reg [mO 51 7,bQ .add 52 3 51 1 3,aO 7 52] [0,4,7]))) 
def J0:CC:=sR [bX 4 91 1 [0],aB 6 false] [0,2,4] (sQ [fO 8 91 4 0,lO 9 3 8,bQ .eql 10 3 9 0 3] [0,2,4,10] (cD 10 (sR [fO 11 91 4 1,lO 12 3 11,bQ .geq 13 3 12 1 3,mO 14 13,fG 15 91 4 1 14 true,lG 16 3 15 14 true,oG 17 (.binOp .leq 3 (xT 16) (nI 1048576) 3) 14 true,pF 18 14 17,mO 19 18,fG 20 91 4 2 19 true,lG 21 23 20 19 true,oG 22 (bL 21 23) 19 true,oG 23 (.binOp .eql 3 (xT 22) (nI 0) 3) 19 true,pF 24 19 23,mO 25 24,fG 26 91 4 3 25 true,lG 27 30 26 25 true,oG 28 (cL 82 #[(xT 27)] #[30]) 25 true,pF 29 25 28,aO 6 29] [6] (.ret)) (.skip)) [0,2,4] (sQ [fO 30 91 4 1,lO 31 3 30,bQ .neq 32 3 31 0 3,mO 33 32,fG 34 91 4 0 33 false,lG 35 3 34 33 false,oG 36 (.binOp .lss 3 (xT 35) (nI 0) 3) 33 false,pT 37 33 36,mO 38 37,fG 39 91 4 0 38 false,lG 40 3 39 38 false,oG 41 (.binOp .gtr 3 (xT 40) (nI 3) 3) 38 false,pT 42 38 41] [0,2,4,42] (cD 42 (sR [aB 6 false] [6] (.ret)) (.skip)) [0,2,4] (sQ [fO 43 91 4 0,lO 44 3 43,bQ .lss 45 3 44 3 3] [0,2,4,45] (cD 45 (sQ [aI 7 0] [0,4,7] (.block 0 (.loop EW)) [4] (sR [fO 63 91 4 2,lO 64 23 63,bN 65 64 23,bQ .gtr 66 3 65 0 3,mO 67 66,fG 68 91 4 3 67 true,lG 69 30 68 67 true,oG 70 (cL 82 #[(xT 69)] #[30]) 67 true,pF 71 67 70,aO 6 71] [6] (.ret))) (.skip)) [0,2,4] (sQ [fO 72 91 4 2,lO 73 23 72,bN 74 73 23,bQ .gtr 75 3 74 0 3,mO 76 75,fG 77 91 4 3 76 false,fG 78 30 77 0 76 false,lG 79 3 78 76 false,oG 80 (.binOp .eql 3 (xT 79) (nI 0) 3) 76 false,pT 81 76 80,mO 82 81,mG 83 0 82 false,oG 84 (.binOp .leq 3 (xT 83) (nI 7) 3) 82 false,pT 85 82 84,mO 86 85,fG 87 91 4 3 86 false,lG 88 30 87 86 false,mG 89 2 86 false,oG 90 (cL 31 #[(xT 88),(xT 89)] #[30,3]) 86 false,oG 91 (.unOp .not 4 (xT 90)) 86 false,pT 92 86 91] [0,4,92] (cD 92 (sR [aB 6 false] [6] (.ret)) (.skip)) [0,4] (sR [mO 93 0,bQ .eql 94 3 93 8 3,mO 95 94,fG 96 91 4 3 95 false,fG 97 30 96 0 95 false,lG 98 3 97 95 false,oG 99 (.binOp .eql 3 (xT 98) (nI 2) 3) 95 false,pT 100 95 99,mO 101 100,fG 102 91 4 3 101 false,fG 103 30 102 0 101 false,lG 104 3 103 101 false,oG 105 (.binOp .eql 3 (xT 104) (nI 1) 3) 101 false,mG 106 105 101 false,fG 107 91 4 3 106 true,fG 108 30 107 1 106 true,fG 109 25 108 0 106 true,lG 110 3 109 106 true,oG 111 (.binOp .eql 3 (xT 110) (nI 1) 3) 106 true,oG 112 (.pick (xT 106) (xT 111) (nB false)) 101 false,mG 113 112 101 false,fG 114 91 4 3 113 true,fG 115 30 114 2 113 true,fG 116 25 115 0 113 true,lG 117 3 116 113 true,oG 118 (.binOp .eql 3 (xT 117) (nI 1) 3) 113 true,oG 119 (.pick (xT 113) (xT 118) (nB false)) 101 false,pT 120 101 119,aO 6 120] [6] (.ret))))))
theorem Pq:Ca Tryz.prog 52 121 [(.tmp 6)] J0:=AJ Tryz.func52
def Dc:CC:=sQ [mO 93 6,fO 94 30 2 3,lO 95 26 94,bN 96 95 26,bB .lss 97 3 93 96 3] [1,2,5,6,97] (cD 97 (.skip) (.exit 0)) [1,2,5,6] (.seq (.block 1 (sR [fO 100 30 2 3,lO 101 26 100,mO 102 6,iO 103 26 101 102,lO 104 85 103,aL 7 85 [1],sT 85 7 104] [1,2,5,6,7] (sQ [fO 105 85 7 0,lO 106 3 105,mO 107 5,bB .leq 108 3 106 107 3,mO 109 108,fG 110 85 7 0 109 false,lG 111 3 110 109 false,oG 112 (.binOp .gtr 3 (xT 111) (nI 65534) 3) 109 false,pT 113 109 112,mO 114 113,fG 115 85 7 1 114 false,lG 116 5 115 114 false,oG 117 (.binOp .eql 5 (xT 116) (.const (.int .u8 0)) 5) 114 false,pT 118 114 117,mO 119 118,fG 120 85 7 2 119 false,lG 121 61 120 119 false,fG 122 85 7 1 119 false,lG 123 5 122 119 false,oG 124 (cL 51 #[(xT 121),(xT 123)] #[61,5]) 119 false,oG 125 (.unOp .not 4 (xT 124)) 119 false,pT 126 119 125,mO 127 126,fG 128 85 7 3 127 false,lG 129 61 128 127 false,fG 130 85 7 1 127 false,lG 131 5 130 127 false,oG 132 (cL 51 #[(xT 129),(xT 131)] #[61,5]) 127 false,oG 133 (.unOp .not 4 (xT 132)) 127 false,pT 134 127 133] [1,2,6,7,134] (cD 134 (sR [aB 4 false] [4] (.ret)) (.skip)) [1,2,6,7] (.reg [fO 135 85 7 0,lO 136 3 135,aO 5 136] [1,2,5,6])))) (.keep [1,2,5,6] (.reg [mO 98 6,bQ .add 99 3 98 1 3,aO 6 99] [1,2,5,6])))
def Dm:CC:=sQ [mO 137 8,fO 138 30 2 4,lO 139 27 138,bN 140 139 27,bB .lss 141 3 137 140 3] [1,2,5,8,141] (cD 141 (.skip) (.exit 2)) [1,2,5,8] (.seq (.block 3 (sR [fO 144 30 2 4,lO 145 27 144,mO 146 8,iO 147 27 145 146,lO 148 88 147,aL 9 88 [2],sT 88 9 148] [1,2,5,8,9] (sQ [fO 149 88 9 0,lO 150 3 149,mO 151 5,bB .leq 152 3 150 151 3,mO 153 152,fG 154 88 9 0 153 false,lG 155 3 154 153 false,oG 156 (.binOp .gtr 3 (xT 155) (nI 65534) 3) 153 false,pT 157 153 156,mO 158 157,fG 159 88 9 1 158 false,fG 160 30 159 0 158 false,lG 161 3 160 158 false,oG 162 (.binOp .eql 3 (xT 161) (nI 0) 3) 158 false,pT 163 158 162,mO 164 163,fG 165 88 9 1 164 false,lG 166 30 165 164 false,mG 167 1 164 false,oG 168 (.binOp .sub 3 (xT 167) (nI 1) 3) 164 false,oG 169 (cL 31 #[(xT 166),(xT 168)] #[30,3]) 164 false,oG 170 (.unOp .not 4 (xT 169)) 164 false,pT 171 164 170] [1,2,8,9,171] (cD 171 (sR [aB 4 false] [4] (.ret)) (.skip)) [1,2,8,9] (.reg [fO 172 88 9 0,lO 173 3 172,aO 5 173] [1,2,5,8])))) (.keep [1,2,5,8] (.reg [mO 142 8,bQ .add 143 3 142 1 3,aO 8 143] [1,2,5,8])))
def Df:CC:=sQ [mO 187 10,fO 188 30 2 6,lO 189 28 188,bN 190 189 28,bB .lss 191 3 187 190 3] [1,2,10,191] (cD 191 (.skip) (.exit 4)) [1,2,10] (.seq (.block 5 (sR [fO 194 30 2 5,lO 195 3 194,fO 196 30 2 6,lO 197 28 196,mO 198 10,iO 199 28 197 198,lO 200 91 199,mO 201 1,bQ .sub 202 3 201 1 3,cE 203 52 195 200 202 3 91 3,oO 204 (.unOp .not 4 (xT 203))] [1,2,10,204] (cD 204 (sR [aB 4 false] [4] (.ret)) (.skip)))) (.keep [1,2,10] (.reg [mO 192 10,bQ .add 193 3 192 1 3,aO 10 193] [1,2,10]))) 
def HE:CC:=sR [bX 2 30 0 [0],aB 4 false] [1,2] (sQ [mO 13 1,bQ .eql 14 3 13 0 3,mO 15 14,fG 16 30 2 0 15 false,lG 17 3 16 15 false,oG 18 (.binOp .lss 3 (xT 17) (nI 0) 3) 15 false,pT 19 15 18,mO 20 19,fG 21 30 2 0 20 false,lG 22 3 21 20 false,oG 23 (.binOp .gtr 3 (xT 22) (nI 3) 3) 20 false,pT 24 20 23] [1,2,24] (cD 24 (sR [aB 4 false] [4] (.ret)) (.skip)) [1,2] (sQ [fO 25 30 2 0,lO 26 3 25,bQ .neq 27 3 26 1 3,mO 28 27,fG 29 30 2 1 28 true,lG 30 25 29 28 true,oG 31 (cL 50 #[(xT 30)] #[25]) 28 true,mG 32 31 28 true,fG 33 30 2 2 32 true,lG 34 25 33 32 true,oG 35 (cL 50 #[(xT 34)] #[25]) 32 true,oG 36 (.pick (xT 32) (xT 35) (nB false)) 28 true,oG 37 (.unOp .not 4 (xT 36)) 28 true,pF 38 28 37,mO 39 38,fG 40 30 2 0 39 false,lG 41 3 40 39 false,oG 42 (.binOp .neq 3 (xT 41) (nI 2) 3) 39 false,mG 43 42 39 false,fG 44 30 2 3 43 true,lG 45 26 44 43 true,oG 46 (bL 45 26) 43 true,fG 47 30 2 4 43 true,lG 48 27 47 43 true,oG 49 (bL 48 27) 43 true,oG 50 (bO .add 3 46 49 3) 43 true,oG 51 (.binOp .gtr 3 (xT 50) (nI 0) 3) 43 true,oG 52 (.pick (xT 43) (xT 51) (nB false)) 39 false,pT 53 39 52,mO 54 53,fG 55 30 2 0 54 false,lG 56 3 55 54 false,oG 57 (.binOp .neq 3 (xT 56) (nI 3) 3) 54 false,mG 58 57 54 false,fG 59 30 2 5 58 true,lG 60 3 59 58 true,oG 61 (.binOp .neq 3 (xT 60) (nI 0) 3) 58 true,mG 62 61 58 true,fG 63 30 2 6 62 false,lG 64 28 63 62 false,oG 65 (bL 64 28) 62 false,oG 66 (.binOp .gtr 3 (xT 65) (nI 0) 3) 62 false,oG 67 (.pick (xT 62) (nB true) (xT 66)) 58 true,oG 68 (.pick (xT 58) (xT 67) (nB false)) 54 false,pT 69 54 68] [1,2,69] (cD 69 (sR [aB 4 false] [4] (.ret)) (.skip)) [1,2] (sQ [fO 70 30 2 0,lO 71 3 70,bQ .eql 72 3 71 1 3] [1,2,72] (cD 72 (sR [fO 73 30 2 1,lO 74 25 73,oO 75 (cL 11 #[(xT 74),(nI 64)] #[25,3]),mO 76 75,fG 77 30 2 2 76 true,lG 78 25 77 76 true,oG 79 (cL 11 #[(xT 78),(nI 64)] #[25,3]) 76 true,pF 80 76 79,mO 81 80,fG 82 30 2 1 81 true,fG 83 25 82 0 81 true,lG 84 3 83 81 true,oG 85 (.binOp .neq 3 (xT 84) (nI 10) 3) 81 true,pF 86 81 85,mO 87 86,fG 88 30 2 2 87 true,fG 89 25 88 0 87 true,lG 90 3 89 87 true,oG 91 (.binOp .neq 3 (xT 90) (nI 10) 3) 87 true,pF 92 87 91,aO 4 92] [4] (.ret)) (.skip)) [1,2] (sR [oO 5 (.assign (.const (.int .i64 (-1))))] [1,2,5] (sQ [aI 6 0] [1,2,5,6] (.block 0 (.loop Dc)) [1,2] (sR [oO 5 (.assign (.const (.int .i64 (-1))))] [1,2,5] (sQ [aI 8 0] [1,2,5,8] (.block 2 (.loop Dm)) [1,2] (sQ [fO 174 30 2 0,lO 175 3 174,bQ .eql 176 3 175 3 3,mO 177 176,fG 178 30 2 5 177 true,lG 179 3 178 177 true,oG 180 (.binOp .lss 3 (xT 179) (nI 2) 3) 177 true,mG 181 180 177 true,fG 182 30 2 5 181 false,lG 183 3 182 181 false,oG 184 (.binOp .gtr 3 (xT 183) (nI 9) 3) 181 false,oG 185 (.pick (xT 181) (nB true) (xT 184)) 177 true,pF 186 177 185] [1,2,186] (cD 186 (sR [aB 4 false] [4] (.ret)) (.skip)) [1,2] (sQ [aI 10 0] [1,2,10] (.block 4 (.loop Df)) [2] (sR [lO 206 30 2,cA 207 53 206 30,mO 205 207,xO 208 205 0,xO 209 205 1,aO 11 208,aO 12 209] [11,12] (sR [mO 210 11,bQ .lss 211 3 210 1048576 3,mO 212 211,mG 213 12 212 true,oG 214 (.binOp .lss 3 (xT 213) (nI 1048576) 3) 212 true,pF 215 212 214,aO 4 215] [4] (.ret))))))))))))
theorem L9:Ca Tryz.prog 31 216 [(.tmp 4)] HE:=AJ Tryz.func31
def Em:CC:=sQ [mO 42 4,bQ .gtr 43 3 42 1048576 3] [1,4,5,6,43] (cD 43 (.reg [aI 4 1048576] [1,4,5,6]) (.skip)) [1,4,5,6] (sR [mO 44 5,bQ .gtr 45 3 44 1048576 3] [1,4,5,6,45] (cD 45 (.reg [aI 5 1048576] [1,4,5,6]) (.skip)))
def CM:CC:=sQ [fO 36 91 7 0,lO 37 3 36,bQ .neq 38 3 37 1 3] [1,4,5,6,8,38] (cD 38 (.reg [mO 39 5,mO 40 8,bB .add 41 3 39 40 3,aO 5 41] [1,4,5,6]) (.skip)) [1,4,5,6] Em
def Ej:CC:=sQ [fO 30 91 7 0,lO 31 3 30,bQ .neq 32 3 31 2 3] [1,4,5,6,7,8,32] (cD 32 (.reg [mO 33 4,mO 34 8,bB .add 35 3 33 34 3,aO 4 35] [1,4,5,6,7,8]) (.skip)) [1,4,5,6,7,8] CM
def B5:CC:=sQ [mO 9 6,fO 10 30 1 6,lO 11 28 10,bN 12 11 28,bB .lss 13 3 9 12 3] [1,4,5,6,13] (cD 13 (.skip) (.exit 0)) [1,4,5,6] (.seq (.block 1 (sR [fO 16 30 1 6,lO 17 28 16,mO 18 6,iO 19 28 17 18,lO 20 91 19,aL 7 91 [1],sT 91 7 20] [1,4,5,6,7] (sR [fO 21 91 7 1,lO 22 3 21,fO 23 91 7 2,lO 24 23 23,bN 25 24 23,bB .add 26 3 22 25 3,aO 8 26] [1,4,5,6,7,8] (sQ [fO 27 91 7 0,lO 28 3 27,bQ .eql 29 3 28 3 3] [1,4,5,6,7,8,29] (cD 29 (.reg [aI 8 1] [1,4,5,6,7,8]) (.skip)) [1,4,5,6,7,8] Ej)))) (.keep [1,4,5,6] (.reg [mO 14 6,bQ .add 15 3 14 1 3,aO 6 15] [1,4,5,6]))) 
def GM:CC:=sR [bX 1 30 0 [0],aI 2 0,aI 3 0] [1] (sR [aI 4 0,aI 5 0] [1,4,5] (sQ [aI 6 0] [1,4,5,6] (.block 0 (.loop B5)) [4,5] (sR [mO 46 4,mO 47 5,aO 2 46,aO 3 47] [2,3] (.ret))))
theorem KJ:Ca Tryz.prog 53 48 [(.tmp 2),(.tmp 3)] GM:=AJ Tryz.func53
def DY:CC:=sQ [mO 36 7,fO 37 30 3 4,lO 38 27 37,bN 39 38 27,bB .lss 40 3 36 39 3,mO 41 40,mG 42 2 41 true,oG 43 (.binOp .geq 3 (xT 42) (nI 0) 3) 41 true,pF 44 41 43] [1,2,3,7,44] (cD 44 (.skip) (.exit 0)) [1,2,3,7] (.seq (.block 1 (.reg [fO 47 30 3 4,lO 48 27 47,mO 49 7,iO 50 27 48 49,fO 51 88 50 1,lO 52 30 51,mO 53 1,bQ .sub 54 3 53 1 3,mO 55 2,cE 56 49 52 54 55 30 3 3,aO 2 56] [1,2,3,7])) (.reg [mO 45 7,bQ .add 46 3 45 1 3,aO 7 46] [1,2,3,7]))
def DK:CC:=sQ [mO 68 9,fO 69 30 3 6,lO 70 28 69,mO 71 8,iO 72 28 70 71,fO 73 91 72 2,lO 74 23 73,bN 75 74 23,bB .lss 76 3 68 75 3,mO 77 76,mG 78 2 77 true,oG 79 (.binOp .geq 3 (xT 78) (nI 0) 3) 77 true,pF 80 77 79] [1,2,3,8,9,80] (cD 80 (.skip) (.exit 4)) [1,2,3,8,9] (.seq (.block 5 (.reg [fO 83 30 3 6,lO 84 28 83,mO 85 8,iO 86 28 84 85,fO 87 91 86 2,lO 88 23 87,mO 89 9,iO 90 23 88 89,lO 91 25 90,mO 92 2,oO 93 (cL 28 #[(xT 91),(nI 80),(xT 92)] #[25,3,3]),aO 2 93] [1,2,3,8,9])) (.reg [mO 81 9,bQ .add 82 3 81 1 3,aO 9 82] [1,2,3,8,9]))
def DP:CC:=sQ [mO 57 8,fO 58 30 3 6,lO 59 28 58,bN 60 59 28,bB .lss 61 3 57 60 3,mO 62 61,mG 63 2 62 true,oG 64 (.binOp .geq 3 (xT 63) (nI 0) 3) 62 true,pF 65 62 64] [1,2,3,8,65] (cD 65 (.skip) (.exit 2)) [1,2,3,8] (.seq (.block 3 (sQ [aI 9 0] [1,2,3,8,9] (.block 4 (.loop DK)) [1,2,3,8] (sR [mO 94 2,bQ .geq 95 3 94 0 3] [1,2,3,8,95] (cD 95 (.reg [fO 96 30 3 6,lO 97 28 96,mO 98 8,iO 99 28 97 98,fO 100 91 99 3,lO 101 30 100,mO 102 1,bQ .sub 103 3 102 1 3,mO 104 2,cE 105 49 101 103 104 30 3 3,aO 2 105] [1,2,3,8]) (.skip))))) (.keep [1,2,3,8] (.reg [mO 66 8,bQ .add 67 3 66 1 3,aO 8 67] [1,2,3,8])))
def Fo:CC:=sQ [aI 7 0] [1,2,3,7] (.block 0 (.loop DY)) [1,2,3] (sQ [aI 8 0] [1,2,3,8] (.block 2 (.loop DP)) [2] (sR [mO 106 2,aO 6 106] [6] (.ret))) 
def IB:CC:=sR [bX 3 30 0 [0],aI 6 0] [1,2,3] (sR [mO 10 2,bQ .sub 11 3 10 1 3,fO 12 30 3 3,lO 13 26 12,bN 14 13 26,bB .sub 15 3 11 14 3,fO 16 30 3 6,lO 17 28 16,bN 18 17 28,bB .sub 19 3 15 18 3,aO 2 19] [1,2,3] (sQ [mO 20 1,bQ .eql 21 3 20 0 3,mO 22 21,mG 23 2 22 false,oG 24 (.binOp .lss 3 (xT 23) (nI 0) 3) 22 false,pT 25 22 24] [1,2,3,25] (cD 25 (sR [oO 6 (.assign (.const (.int .i64 (-1))))] [6] (.ret)) (.skip)) [1,2,3] (sR [fO 26 30 3 1,lO 27 25 26,mO 28 2,oO 29 (cL 28 #[(xT 27),(nI 80),(xT 28)] #[25,3,3]),aO 2 29] [1,2,3] (sQ [mO 30 2,bQ .geq 31 3 30 0 3] [1,2,3,31] (cD 31 (.reg [fO 32 30 3 2,lO 33 25 32,mO 34 2,oO 35 (cL 28 #[(xT 33),(nI 80),(xT 34)] #[25,3,3]),aO 2 35] [1,2,3]) (.skip)) [1,2,3] Fo))))
theorem NM:Ca Tryz.prog 49 107 [(.tmp 6)] IB:=AJ Tryz.func49
def Jq:CC:=sR [bX 1 30 0 [0],aB 2 false] [1] (sR [lO 3 30 1,oO 4 (cL 49 #[(xT 3),(nI 80),(nI 3000)] #[30,3,3]),bQ .geq 5 3 4 0 3,aO 2 5] [2] (.ret))
theorem Oa:Ca Tryz.prog 30 6 [(.tmp 2)] Jq:=AJ Tryz.func30
def Dk:CC:=sQ [mO 18 5,fO 19 30 1 4,lO 20 27 19,bN 21 20 27,bB .lss 22 3 18 21 3] [1,5,22] (cD 22 (.skip) (.exit 0)) [1,5] (.seq (.block 1 (sR [fO 25 30 1 4,lO 26 27 25,mO 27 5,iO 28 27 26 27,fO 29 88 28 1,lO 30 30 29,cA 31 32 30 30,oO 32 (.unOp .not 4 (xT 31))] [1,5,32] (cD 32 (sR [aB 2 false] [2] (.ret)) (.skip)))) (.keep [1,5] (.reg [mO 23 5,bQ .add 24 3 23 1 3,aO 5 24] [1,5])))
def De:CC:=sQ [mO 33 6,fO 34 30 1 6,lO 35 28 34,bN 36 35 28,bB .lss 37 3 33 36 3] [1,6,37] (cD 37 (.skip) (.exit 2)) [1,6] (.seq (.block 3 (sR [fO 40 30 1 6,lO 41 28 40,mO 42 6,iO 43 28 41 42,fO 44 91 43 3,lO 45 30 44,cA 46 32 45 30,oO 47 (.unOp .not 4 (xT 46))] [1,6,47] (cD 47 (sR [aB 2 false] [2] (.ret)) (.skip)))) (.keep [1,6] (.reg [mO 38 6,bQ .add 39 3 38 1 3,aO 6 39] [1,6]))) 
def HD:CC:=sR [bX 1 30 0 [0],aB 2 false] [1] (sR [lO 8 30 1,cA 9 53 8 30,mO 7 9,xO 10 7 0,xO 11 7 1,aO 3 10,aO 4 11] [1,3,4] (sQ [mO 12 3,bQ .gtr 13 3 12 2000 3,mO 14 13,mG 15 4 14 false,oG 16 (.binOp .gtr 3 (xT 15) (nI 2000) 3) 14 false,pT 17 14 16] [1,17] (cD 17 (sR [aB 2 false] [2] (.ret)) (.skip)) [1] (sQ [aI 5 0] [1,5] (.block 0 (.loop Dk)) [1] (sQ [aI 6 0] [1,6] (.block 2 (.loop De)) [] (sR [aB 2 true] [2] (.ret))))))
theorem Mx:Ca Tryz.prog 32 48 [(.tmp 2)] HD:=AJ Tryz.func32
def Ix:CC:=sR [bX 1 30 0 [0],aB 2 false] [1] (sR [lO 3 30 1,cA 4 30 3 30,mO 5 4,lG 6 30 1 5 true,oG 7 (cL 31 #[(xT 6),(nI 64)] #[30,3]) 5 true,pF 8 5 7,mO 9 8,lG 10 30 1 9 true,oG 11 (cL 32 #[(xT 10)] #[30]) 9 true,pF 12 9 11,aO 2 12] [2] (.ret))
theorem Nt:Ca Tryz.prog 12 13 [(.tmp 2)] Ix:=AJ Tryz.func12
def OX:CC:=sR [bX 2 25 0 [0],oO 4 (.assign (.const (.int .u64 0)))] [1,2] (sQ [mO 5 1,bQ .lss 6 3 5 0 3,mO 7 6,mG 8 1 7 false,fG 9 25 2 1 7 false,lG 10 22 9 7 false,oG 11 (bL 10 22) 7 false,oG 12 (bO .geq 3 8 11 3) 7 false,pT 13 7 12] [1,2,13] (cD 13 (sR [oO 4 (.assign (.const (.int .u64 0)))] [4] (.ret)) (.skip)) [1,2] (sR [fO 14 25 2 1,lO 15 22 14,mO 16 1,iO 17 22 15 16,lO 18 61 17,aO 4 18] [4] (.ret)))
theorem Uz:Ca Tryz.prog 90 19 [(.tmp 4)] OX:=AJ Tryz.func90
def Q9:CC:=sR [bX 2 25 0 [0],aL 4 25 [1]] [1,2,4] (sQ [mO 5 1,bQ .lss 6 3 5 0 3,mO 7 6,mG 8 1 7 false,fG 9 25 2 2 7 false,lG 10 23 9 7 false,oG 11 (bL 10 23) 7 false,oG 12 (bO .geq 3 8 11 3) 7 false,pT 13 7 12] [1,2,4,13] (cD 13 (sR [oO 14 (.build 25 #[]),sT 25 4 14] [4] (.ret)) (.skip)) [1,2,4] (sR [fO 15 25 2 2,lO 16 23 15,mO 17 1,iO 18 23 16 17,lO 19 25 18,sT 25 4 19] [4] (.ret)))
theorem WG:Ca Tryz.prog 80 20 [(.cell 4 25)] Q9:=AJ Tryz.func80
def Hm:CC:=sR [bQ .lss 6 3 5 8 3] [0,3,5,6] (.seq (cD 6 (.skip) (.exit 0)) (.keep [0,3,5] (.seq (.block 1 (sR [mO 7 5,aO 4 7] [0,3,4,5] (sR [mO 8 0,mO 9 4,bB .shr 10 5 8 9 3,oO 11 (.binOp .and 5 (xT 10) (.const (.int .u8 1)) 5),oO 12 (.binOp .eql 5 (xT 11) (.const (.int .u8 1)) 5)] [0,3,4,5,12] (cD 12 (.reg [mO 13 3,mO 14 4,oO 15 (.binOp .mul 3 (nI 8) (xT 14) 3),oO 16 (.binOp .shl 61 (.const (.int .u64 255)) (xT 15) 3),bB .or 17 61 13 16 61,aO 3 17] [0,3,5]) (.skip))))) (.keep [0,3,5] (.reg [bQ .add 18 3 5 1 3,mO 5 18] [0,3,5]))))) 
def OZ:CC:=sR [oO 2 (.assign (.const (.int .u64 0)))] [0] (sR [oO 3 (.assign (.const (.int .u64 0)))] [0,3] (sQ [oO 5 (.move (nI 0))] [0,3,5] (.block 0 (.loop Hm)) [3] (sR [mO 19 3,aO 2 19] [2] (.ret))))
theorem VU:Ca Tryz.prog 163 20 [(.tmp 2)] OZ:=AJ Tryz.func163
def Rn:CC:=sR [oO 6 (.assign (.const (.int .u64 0)))] [0,1,2] (sR [mO 7 0,mO 8 2,cA 9 163 8 5,bB .andNot 10 61 7 9 61,mO 11 1,mO 12 2,cA 13 163 12 5,bB .and 14 61 11 13 61,bB .or 15 61 10 14 61,aO 6 15] [6] (.ret))
theorem XP:Ca Tryz.prog 125 16 [(.tmp 6)] Rn:=AJ Tryz.func125
def It:CC:=sR [bX 2 25 0 [0],oO 4 (.assign (.const (.int .u64 0)))] [1,2] (sQ [mO 5 1,fO 6 25 2 1,lO 7 22 6,bN 8 7 22,bB .lss 9 3 5 8 3] [1,2,9] (cD 9 (sR [fO 10 25 2 1,lO 11 22 10,mO 12 1,iO 13 22 11 12,lO 14 61 13,aO 4 14] [4] (.ret)) (.skip)) [] (sR [oO 4 (.assign (.const (.int .u64 0)))] [4] (.ret)))
theorem MN:Ca Tryz.prog 92 15 [(.tmp 4)] It:=AJ Tryz.func92
def Jp:CC:=sR [bX 2 25 0 [0],aL 4 25 [1]] [1,2,4] (sQ [mO 5 1,fO 6 25 2 2,lO 7 23 6,bN 8 7 23,bB .lss 9 3 5 8 3] [1,2,4,9] (cD 9 (sR [fO 10 25 2 2,lO 11 23 10,mO 12 1,iO 13 23 11 12,lO 14 25 13,sT 25 4 14] [4] (.ret)) (.skip)) [4] (sR [oO 15 (.build 25 #[]),sT 25 4 15] [4] (.ret)))
theorem OC:Ca Tryz.prog 93 16 [(.cell 4 25)] Jp:=AJ Tryz.func93
def BC:CC:=sQ [mO 78 12,mO 79 7,bB .lss 80 3 78 79 3] [2,3,4,6,7,8,11,12,80] (cD 80 (.skip) (.exit 0)) [2,3,4,6,7,8,11,12] (.seq (.block 1 (sR [lO 83 25 3,mO 84 12,cB 85 92 83 84 25 3,aO 13 85] [2,3,4,6,7,8,11,12,13] (sQ [mO 86 11,fO 87 30 2 3,lO 88 26 87,bN 89 88 26,bB .lss 90 3 86 89 3,mO 91 90,fG 92 30 2 3 91 true,lG 93 26 92 91 true,mG 94 11 91 true,oG 95 (iA 26 93 94) 91 true,fG 96 85 95 0 91 true,lG 97 3 96 91 true,mG 98 12 91 true,oG 99 (bO .eql 3 97 98 3) 91 true,pF 100 91 99] [2,3,4,6,7,8,11,12,13,100] (cD 100 (sR [fO 101 30 2 3,lO 102 26 101,mO 103 11,iO 104 26 102 103,lO 105 85 104,aL 14 85 [4],sT 85 14 105] [2,3,4,6,7,8,11,12,13,14] (sQ [mO 106 13,fO 107 85 14 1,lO 108 5 107,⟨some 109,(cL 81 #[(.const (.int .u64 0)),(xT 106),(xT 108)] #[61,61,5]),none,[],3,[],true⟩,fO 110 85 14 2,⟨some 111,(lD 61 110),none,[],5,[3],false⟩,bB .neq 112 61 109 111 61] [2,3,4,6,7,8,11,12,13,14,112] (cD 112 (sR [oO 113 (.build 25 #[]),sT 25 4 113,aB 5 false] [4,5] (.ret)) (.skip)) [2,3,4,6,7,8,11,12,13,14] (sR [mO 114 13,fO 115 85 14 3,lO 116 61 115,fO 117 85 14 1,lO 118 5 117,cE 119 81 114 116 118 61 61 5,aO 13 119] [2,3,4,6,7,8,11,12,13] (.reg [mO 120 11,bQ .add 121 3 120 1 3,aO 11 121] [2,3,4,6,7,8,11,12,13])))) (.skip)) [2,3,4,6,7,8,11,12,13] (.reg [fO 122 25 6 1,lO 123 22 122,mO 124 13,oO 125 (.buildSlice 22 1 #[(0,(xT 124))]),aP 126 123 125 22 22 [5],fO 127 25 6 1,sT 22 127 126] [2,3,4,6,7,8,11,12])))) (.keep [2,3,4,6,7,8,11,12] (.reg [mO 81 12,bQ .add 82 3 81 1 3,aO 12 82] [2,3,4,6,7,8,11,12])))
def BE:CC:=sQ [mO 128 15,mO 129 8,bB .lss 130 3 128 129 3] [2,3,4,6,8,11,15,130] (cD 130 (.skip) (.exit 2)) [2,3,4,6,8,11,15] (.seq (.block 3 (sR [lO 133 25 3,mO 134 15,cB 135 93 133 134 25 3,aL 16 25 [6],sT 25 16 135] [2,3,4,6,8,11,15,16] (sQ [mO 136 11,fO 137 30 2 4,lO 138 27 137,bN 139 138 27,bB .lss 140 3 136 139 3,mO 141 140,fG 142 30 2 4 141 true,lG 143 27 142 141 true,mG 144 11 141 true,oG 145 (iA 27 143 144) 141 true,fG 146 88 145 0 141 true,lG 147 3 146 141 true,mG 148 15 141 true,oG 149 (bO .eql 3 147 148 3) 141 true,pF 150 141 149] [2,3,4,6,8,11,15,16,150] (cD 150 (sR [fO 152 30 2 4,lS 153 27 152 1,mO 154 11,iO 155 27 153 154,fO 156 88 155 1,lS 157 30 156 5,lS 158 25 16 6,⟨some 159,(cL 36 #[(xT 157),(xT 158)] #[30,25]),none,[],7,[],true⟩,mO 151 159,xO 160 151 0,xO 161 151 1,⟨some 17,(.alloc 25),none,[7],11,[1,5,6,7],false⟩,sT 25 17 160,aO 18 161] [2,3,4,6,8,11,15,16,17,18] (sQ [mO 162 18,oO 163 (.unOp .not 4 (xT 162))] [2,3,4,6,8,11,15,16,17,163] (cD 163 (sR [oO 164 (.build 25 #[]),sT 25 4 164,aB 5 false] [4,5] (.ret)) (.skip)) [2,3,4,6,8,11,15,16,17] (sR [lO 165 25 17,sT 25 16 165] [2,3,4,6,8,11,15,16] (.reg [mO 166 11,bQ .add 167 3 166 1 3,aO 11 167] [2,3,4,6,8,11,15,16])))) (.skip)) [2,3,4,6,8,11,15,16] (.reg [fO 168 25 6 2,lO 169 23 168,lO 170 25 16,oO 171 (.buildSlice 23 1 #[(0,(xT 170))]),aP 172 169 171 23 23 [8],fO 173 25 6 2,sT 23 173 172] [2,3,4,6,8,11,15])))) (.keep [2,3,4,6,8,11,15] (.reg [mO 131 15,bQ .add 132 3 131 1 3,aO 15 132] [2,3,4,6,8,11,15])))
def Co:CC:=sR [aI 11 0] [2,3,4,6,7,8,11] (sQ [aI 12 0] [2,3,4,6,7,8,11,12] (.block 0 (.loop BC)) [2,3,4,6,8] (sR [aI 11 0] [2,3,4,6,8,11] (sQ [aI 15 0] [2,3,4,6,8,11,15] (.block 2 (.loop BE)) [4,6] (sR [lO 174 25 6,sT 25 4 174,aB 5 true] [4,5] (.ret)))))
def Cg:CC:=sQ [fO 54 30 2 4,lO 55 27 54,bN 56 55 27,aO 10 56] [2,3,4,6,7,8,10] (sR [mO 57 10,bQ .gtr 58 3 57 0 3,mO 59 58,fG 60 30 2 4 59 true,lG 61 27 60 59 true,mG 62 10 59 true,oG 63 (.binOp .sub 3 (xT 62) (nI 1) 3) 59 true,oG 64 (iA 27 61 63) 59 true,fG 65 88 64 0 59 true,lG 66 3 65 59 true,mG 67 8 59 true,oG 68 (bO .geq 3 66 67 3) 59 true,pF 69 59 68] [2,3,4,6,7,8,10,69] (cD 69 (.reg [fO 70 30 2 4,lO 71 27 70,mO 72 10,bQ .sub 73 3 72 1 3,iO 74 27 71 73,fO 75 88 74 0,lO 76 3 75,bQ .add 77 3 76 1 3,aO 8 77] [2,3,4,6,7,8]) (.skip))) [2,3,4,6,7,8] Co 
def DV:CC:=sR [bX 2 30 0 [0],bX 3 25 1 [1],aL 4 25 [2],aB 5 false] [2,3,4] (sQ [fO 19 25 3 0,lO 20 3 19,bQ .neq 21 3 20 1 3] [2,3,4,21] (cD 21 (sR [oO 22 (.build 25 #[]),sT 25 4 22,aB 5 false] [4,5] (.ret)) (.skip)) [2,3,4] (sR [oO 23 (.build 25 #[(0,(nI 1))]),aL 6 25 [3],sT 25 6 23] [2,3,4,6] (sR [fO 24 25 3 1,lO 25 22 24,bN 26 25 22,fO 27 25 3 2,lO 28 23 27,bN 29 28 23,aO 7 26,aO 8 29] [2,3,4,6,7,8] (.stop (sQ [fO 30 30 2 3,lO 31 26 30,bN 32 31 26,aO 9 32] [2,3,4,6,7,8,9] (sR [mO 33 9,bQ .gtr 34 3 33 0 3,mO 35 34,fG 36 30 2 3 35 true,lG 37 26 36 35 true,mG 38 9 35 true,oG 39 (.binOp .sub 3 (xT 38) (nI 1) 3) 35 true,oG 40 (iA 26 37 39) 35 true,fG 41 85 40 0 35 true,lG 42 3 41 35 true,mG 43 7 35 true,oG 44 (bO .geq 3 42 43 3) 35 true,pF 45 35 44] [2,3,4,6,7,8,9,45] (cD 45 (.reg [fO 46 30 2 3,lO 47 26 46,mO 48 9,bQ .sub 49 3 48 1 3,iO 50 26 47 49,fO 51 85 50 0,lO 52 3 51,bQ .add 53 3 52 1 3,aO 7 53] [2,3,4,6,7,8]) (.skip))) [2,3,4,6,7,8] Cg)))))
theorem Jz:Ca Tryz.prog 61 175 [(.cell 4 25),(.tmp 5)] DV:=AJ Tryz.func61
def B7:CC:=sQ [mO 35 10,fO 36 91 9 1,lO 37 3 36,bB .lss 38 3 35 37 3,mO 39 38,fG 40 91 9 0 39 true,lG 41 3 40 39 true,oG 42 (.binOp .eql 3 (xT 41) (nI 0) 3) 39 true,pF 43 39 42] [2,3,4,6,7,8,9,10,43] (cD 43 (.skip) (.exit 2)) [2,3,4,6,7,8,9,10] (.seq (.block 3 (sQ [mO 46 7,fO 47 25 3 2,lO 48 23 47,bN 49 48 23,bB .geq 50 3 46 49 3] [2,3,4,6,7,8,9,10,50] (cD 50 (sR [oO 51 (.build 25 #[]),sT 25 4 51,aB 5 false] [4,5] (.ret)) (.skip)) [2,3,4,6,7,8,9,10] (sR [fO 52 25 6 2,lS 53 23 52 1,fO 54 25 3 2,lO 55 23 54,mO 56 7,iO 57 23 55 56,lO 58 25 57,⟨some 59,(.buildSlice 23 1 #[(0,(xT 58))]),none,[],7,[1],false⟩,aP 60 53 59 23 23 [5],fO 61 25 6 2,sT 23 61 60] [2,3,4,6,7,8,9,10] (.stop (.reg [mO 62 7,bQ .add 63 3 62 1 3,aO 7 63] [2,3,4,6,7,8,9,10]))))) (.keep [2,3,4,6,7,8,9,10] (.reg [mO 44 10,bQ .add 45 3 44 1 3,aO 10 45] [2,3,4,6,7,8,9,10])))
def A9:CC:=sQ [mO 64 11,fO 65 91 9 2,lO 66 23 65,bN 67 66 23,bB .lss 68 3 64 67 3] [2,3,4,6,7,8,9,11,68] (cD 68 (.skip) (.exit 4)) [2,3,4,6,7,8,9,11] (.seq (.block 5 (sQ [fO 71 91 9 0,lO 72 3 71,bQ .eql 73 3 72 2 3] [2,3,4,6,7,8,9,11,73] (cD 73 (sR [fO 74 25 6 2,lS 75 23 74 1,fO 76 91 9 2,lO 77 23 76,mO 78 11,iO 79 23 77 78,lO 80 25 79,⟨some 81,(.buildSlice 23 1 #[(0,(xT 80))]),none,[],7,[1],false⟩,aP 82 75 81 23 23 [6],fO 83 25 6 2,sT 23 83 82] [2,3,4,6,7,8,9,11] (.exit 5)) (.skip)) [2,3,4,6,7,8,9,11] (sQ [mO 84 7,fO 85 25 3 2,lO 86 23 85,bN 87 86 23,bB .geq 88 3 84 87 3,mO 89 88,fG 90 25 3 2 89 false,lG 91 23 90 89 false,mG 92 7 89 false,oG 93 (iA 23 91 92) 89 false,lG 94 25 93 89 false,fG 95 91 9 2 89 false,lG 96 23 95 89 false,mG 97 11 89 false,oG 98 (iA 23 96 97) 89 false,lG 99 25 98 89 false,oG 100 (cL 60 #[(xT 94),(xT 99)] #[25,25]) 89 false,oG 101 (.unOp .not 4 (xT 100)) 89 false,pT 102 89 101] [2,3,4,6,7,8,9,11,102] (cD 102 (sR [oO 103 (.build 25 #[]),sT 25 4 103,aB 5 false] [4,5] (.ret)) (.skip)) [2,3,4,6,7,8,9,11] (.stop (.reg [mO 104 7,bQ .add 105 3 104 1 3,aO 7 105] [2,3,4,6,7,8,9,11]))))) (.keep [2,3,4,6,7,8,9,11] (.reg [mO 69 11,bQ .add 70 3 69 1 3,aO 11 70] [2,3,4,6,7,8,9,11])))
def DM:CC:=sQ [mO 23 8,fO 24 30 2 6,lO 25 28 24,bN 26 25 28,bB .lss 27 3 23 26 3] [2,3,4,6,7,8,27] (cD 27 (.skip) (.exit 0)) [2,3,4,6,7,8] (.seq (.block 1 (sR [fO 30 30 2 6,lO 31 28 30,mO 32 8,iO 33 28 31 32,lO 34 91 33,aL 9 91 [4],sT 91 9 34] [2,3,4,6,7,8,9] (sQ [aI 10 0] [2,3,4,6,7,8,9,10] (.block 2 (.loop B7)) [2,3,4,6,7,8,9] (sQ [aI 11 0] [2,3,4,6,7,8,9,11] (.block 4 (.loop A9)) [2,3,4,6,7,8,9] (sR [fO 106 91 9 0,lO 107 3 106,bQ .eql 108 3 107 3 3] [2,3,4,6,7,8,9,108] (cD 108 (sQ [mO 109 7,fO 110 25 3 2,lO 111 23 110,bN 112 111 23,bB .geq 113 3 109 112 3] [2,3,4,6,7,8,9,113] (cD 113 (sR [oO 114 (.build 25 #[]),sT 25 4 114,aB 5 false] [4,5] (.ret)) (.skip)) [2,3,4,6,7,8,9] (sR [fO 116 91 9 3,lS 117 30 116 1,fO 118 25 3 2,lS 119 23 118 3,mO 120 7,iO 121 23 119 120,lS 122 25 121 6,⟨some 123,(cL 36 #[(xT 117),(xT 122)] #[30,25]),none,[],7,[],true⟩,mO 115 123,xO 124 115 0,xO 125 115 1,⟨some 12,(.alloc 25),none,[7],11,[1,3,6,7],false⟩,sT 25 12 124,aO 13 125] [2,3,4,6,7,8,12,13] (sQ [mO 126 13,oO 127 (.unOp .not 4 (xT 126))] [2,3,4,6,7,8,12,127] (cD 127 (sR [oO 128 (.build 25 #[]),sT 25 4 128,aB 5 false] [4,5] (.ret)) (.skip)) [2,3,4,6,7,8,12] (sR [fO 129 25 6 2,lO 130 23 129,lO 131 25 12,oO 132 (.buildSlice 23 1 #[(0,(xT 131))]),aP 133 130 132 23 23 [8],fO 134 25 6 2,sT 23 134 133] [2,3,4,6,7,8] (.stop (.reg [mO 135 7,bQ .add 136 3 135 1 3,aO 7 136] [2,3,4,6,7,8])))))) (.skip))))))) (.keep [2,3,4,6,7,8] (.reg [mO 28 8,bQ .add 29 3 28 1 3,aO 8 29] [2,3,4,6,7,8]))) 
def FZ:CC:=sR [bX 2 30 0 [0],bX 3 25 1 [1],aL 4 25 [2],aB 5 false] [2,3,4] (sQ [fO 14 25 3 0,lO 15 3 14,fO 16 30 2 5,lO 17 3 16,bB .neq 18 3 15 17 3] [2,3,4,18] (cD 18 (sR [oO 19 (.build 25 #[]),sT 25 4 19,aB 5 false] [4,5] (.ret)) (.skip)) [2,3,4] (sR [fO 20 25 3 0,lO 21 3 20,oO 22 (.build 25 #[(0,(xT 21))]),aL 6 25 [3],sT 25 6 22] [2,3,4,6] (.stop (sR [aI 7 0] [2,3,4,6,7] (sQ [aI 8 0] [2,3,4,6,7,8] (.block 0 (.loop DM)) [3,4,6,7] (sR [lO 137 25 6,mO 138 7,fO 139 25 3 2,lS 140 23 139 3,bN 141 140 23,bB .eql 142 3 138 141 3,⟨none,(.store 25 (xT 4) (xT 137)),none,[],6,[3],false⟩,aO 5 142] [4,5] (.ret)))))))
theorem Nc:Ca Tryz.prog 62 143 [(.cell 4 25),(.tmp 5)] FZ:=AJ Tryz.func62
def Fh:CC:=sQ [mO 37 7,oO 38 (.unOp .not 4 (xT 37))] [4,6,38] (cD 38 (sR [oO 39 (.build 25 #[]),sT 25 4 39,aB 5 false] [4,5] (.ret)) (.skip)) [4,6] (sR [lO 40 25 6,cA 41 21 40 25,sT 25 4 41,aB 5 true] [4,5] (.ret)) 
def Bs:CC:=sR [bX 2 30 0 [0],bX 3 25 1 [1],aL 4 25 [2],aB 5 false] [2,3,4] (sR [lO 8 25 3,aL 6 25 [3],sT 25 6 8,aB 7 true] [2,3,4,6] (sQ [fO 9 30 2 0,lO 10 3 9] [2,3,4,6,10] (.block 0 (sR [bQ .eql 12 3 10 0 3,aO 11 12] [2,3,4,6,10,11] (cD 11 (.reg [aB 7 true] [4,6,7]) (sR [bQ .eql 14 3 10 1 3,aO 13 14] [2,3,4,6,10,13] (cD 13 (sR [fO 15 30 2 2,lO 16 25 15,sT 25 6 16] [2,3,4,6] (.reg [fO 17 30 2 1,lO 18 25 17,lO 19 25 3,cB 20 60 18 19 25 25,aO 7 20] [4,6,7])) (sR [bQ .eql 22 3 10 2 3,aO 21 22] [2,3,4,6,10,21] (cD 21 (.reg [lO 24 30 2,lO 25 25 3,cB 26 61 24 25 30 25,mO 23 26,xO 27 23 0,xO 28 23 1,sT 25 6 27,aO 7 28] [4,6,7]) (sR [bQ .eql 30 3 10 3 3,aO 29 30] [2,3,4,6,29] (cD 29 (.reg [lO 32 30 2,lO 33 25 3,cB 34 62 32 33 30 25,mO 31 34,xO 35 31 0,xO 36 31 1,sT 25 6 35,aO 7 36] [4,6,7]) (.reg [aB 7 false] [4,6,7])))))))))) [4,6,7] Fh))
theorem BO:Ca Tryz.prog 36 42 [(.cell 4 25),(.tmp 5)] Bs:=AJ Tryz.func36
end Go.Proofs.YtlaapfplenlfaaaGreat
namespace Go.Proofs.YtlaapfplenlfaaaGreat
open Go Go.G Go.Proofs Go.PL
theorem C6 (t:T) (i:Nat):G.Spec Tryz.prog 90 [tX t,iv i] (uv (t.words.getD i 0)):=by
 refine Ag Uz (by simp) fun w0 I0=>?_;unfold OX;have hn:¬ (i:Int)<0:=by omega
 by_cases h:i<t.words.length
 ·have h2:¬ t.words.length≤i:=by omega
  simp[h,hn,h2];exact HO rfl (by simp[h])
 ·have h2:t.words.length≤i:=by omega
  simp[h,hn,h2];exact HO rfl (by simp[List.getElem?_eq_none (Nat.le_of_not_lt h)])
theorem DC (t:T) (i:Nat):G.Spec Tryz.prog 80 [tX t,iv i] (tX (t.kids.getD i T0)):=by
 refine Ag WG (by simp) fun w0 I0=>?_;unfold Q9;have hn:¬ (i:Int)<0:=by omega
 by_cases h:i<t.kids.length
 ·have h2:¬ t.kids.length≤i:=by omega
  simp[h,hn,h2];exact Ad (by simp)
 ·have h2:t.kids.length≤i:=by omega
  simp[h,hn,h2];exact AE (by simp;exact⟨Ad rfl,Ah,Ah⟩)
theorem TE (t:T) (i:Nat):G.Spec Tryz.prog 92 [tX t,iv i] (uv (t.words.getD i 0)):=by
 refine Ag MN (by simp) fun w0 I0=>?_;unfold It;have hn:¬ (i:Int)<0:=by omega
 by_cases h:i<t.words.length
 ·have h2:¬ t.words.length≤i:=by omega
  simp[h,hn,h2];exact HO rfl (by simp[h])
 ·have h2:t.words.length≤i:=by omega
  simp[h,hn,h2];exact HO rfl (by simp[List.getElem?_eq_none (Nat.le_of_not_lt h)])
variable {n0:Nat} {w0:World} {I0:Nat→Prop} {Q:Exit→Sta→Prop}
abbrev M3 (x:T × Int × Int):A:=.tup [tX x.1,iv x.2.1,iv x.2.2]
abbrev s1:List (List Int):=[[4294967296,7]]
abbrev s2:List (List Int):=[[8589934592,7,0]]
abbrev s3:List (List Int):=[[4294967296,8]]
end Go.Proofs.YtlaapfplenlfaaaGreat
namespace Go.G
open Go.RowKit
theorem Sa {P:Program} {K:Sta→Prop} {rest:List CO} {s:Nat→A} {H:Hp} {dd:Option Nat} {nm:Nm} {ix:Nat} {un:List Nat} {l:Bool} {lg:Lg} {g:FuncId} {fo:Operand} {fs caps L:List A} {as':Array Operand} {ts:Array TypeId} {x:A} (hv0:evs s fo = .fnc g fs caps) (hL:fs++(as'.toList.map (evs s)++caps)=L) (E:Eff) (R W:Fp) (hs:∀ H2,Agree (R++W) H H2→OH P H2 g L x E) (hw:Mz E W) (hc:Ck un lg ⟨R,W⟩) (h:Am P K rest (AR l ix ⟨R,W⟩ lg) (Sta.put ⟨s,H⟩ dd x (E.app H))) :
  Am P K (⟨dd,.call { callee:=.value fo,args:=as',argTypes:=ts },none,nm,ix,un,l⟩::rest) lg ⟨s,H⟩:=by
 subst hL;exact⟨x,E,⟨R,W⟩,⟨g,fs,caps,hv0,.inr (.inr ⟨hs,hw⟩)⟩,hc,h⟩
theorem Zm {P:Program} {K:Sta→Prop} {rest:List CO} {s:Nat→A} {H:Hp} {dd:Option Nat} {nm:Nm} {ix:Nat} {un:List Nat} {l:Bool} {lg:Lg} {g:FuncId} {fo:Operand} {fs caps L:List A} {as':Array Operand} {ts:Array TypeId}
  (hv0:evs s fo = .fnc g fs caps) (hL:fs++(as'.toList.map (evs s)++caps)=L) (rs:List Nat) (m:Nat) {args:List A} {Hc Hr H':Hp} {r x:A} (hS:SpecH P g rs.length args Hc r Hr) (hnd:rs.Nodup) (hm:m≤rs.length)
  (ha:A.renL (Py rs) (fun _=>0) L=args) (har:A.refsL (NB rs m) L) (hH:J9 rs m H=Hc) (hcl:PE rs m H)
  (hr:r.refs (FG rs.length)) (ho:∀ (i:Nat) (p:Nm),i<rs.length→(Hr (i::p)).ob.refs (FG rs.length)) (hv:∀ (i:Nat) (p:Nm),m≤i→i<rs.length→(Hr (i::p)).ob = .none∨1≤(Hr (i::p)).u)
  (hx:r.ren (MB rs) (LU rs m H)=x) (hH':Kw rs (LU rs m H) H Hr=H') (hck:Ck un lg ⟨[],rs.map fun r=>([r],true)⟩)
  (h:Am P K rest (AR l ix ⟨[],rs.map fun r=>([r],true)⟩ lg) (Sta.put ⟨s,H⟩ dd x H')) :
  Am P K (⟨dd,.call { callee:=.value fo,args:=as',argTypes:=ts },none,nm,ix,un,l⟩::rest) lg ⟨s,H⟩:=by
 have hit_in:∀ {j:Nat} {p:Nm},j ∈ rs→QQ (rs.map fun r=>([r],true)) (j::p)=true:=fun {j p} hj=>by
  simp only[QQ,List.any_map,List.any_eq_true];exact⟨j,hj,by simp[NL,List.isPrefixOf]⟩
 have hnil:(Eff.fn rs (Gm rs m H Hr)).app H=H':=by rw[Qi];exact hH'
 subst hx;rw[← hnil] at h;refine Sa hv0 hL (Eff.fn rs (Gm rs m H Hr)) [] (rs.map fun r=>([r],true)) (fun H2 hag=>?_) (fun o H2 ho'=>?_) hck h
 ·have ag:∀ {j:Nat} {p:Nm},j ∈ rs→H2 (j::p)=H (j::p):=fun {j p} hj=>hag _ (by simpa using hit_in hj);have agi:∀ {i:Nat} {p:Nm},i<rs.length→H2 (rs.getD i 0::p)=H (rs.getD i 0::p):=fun {i p} hi=>ag (by simp[List.getD,hi]);have hd:LU rs m H2=LU rs m H:=by
   funext o;cases o with
   |nil=>rfl
   |cons i p=>
    simp only[LU];by_cases hi:i<rs.length
    ·rw[agi hi]
    ·rw[if_neg hi,if_neg hi]
  have hoH:Gm rs m H2 Hr=Gm rs m H Hr:=by
   funext o;cases o with
   |nil=>rfl
   |cons j p=>simp only[Gm,hd]
  subst ha;have:=NZ (P:=P) (f:=g) (rs:=rs) (m:=m) (args:=L) (Hc:=Hc) (Hr:=Hr) (r:=r) (H:=H2) hnd hm hS
   (fun i p hi=>by rw[← hH,agi (by omega)];simp only[J9,if_pos hi]) (fun i p hi=>by rw[← hH];simp only[J9];rw[if_neg (by omega)]) (by rw[← hH];rfl) har
   (fun i p hi=>by rw[agi (by omega)];exact hcl _ _ (by rw[Jl hnd (by omega)];exact hi)) hr ho hv
  rwa [hd,hoH] at this
 ·cases o with
  |nil=>rfl
  |cons j p=>
   have:¬ j ∈ rs:=fun hj=>by rw[hit_in hj] at ho';cases ho'
   simp[Eff.app,this]
theorem YQ {P:Program} {H:Hp} {g:FuncId} {L:List A} (rs:List Nat) (m:Nat) {args:List A} {Hc Hr H':Hp} {r:A} (hS:SpecH P g rs.length args Hc r Hr) (hnd:rs.Nodup) (hm:m≤rs.length)
  (ha:A.renL (Py rs) (fun _=>0) L=args) (har:A.refsL (NB rs m) L) (hH:J9 rs m H=Hc) (hcl:PE rs m H)
  (hr:r.refs (FG rs.length)) (ho:∀ (i:Nat) (p:Nm),i<rs.length→(Hr (i::p)).ob.refs (FG rs.length)) (hv:∀ (i:Nat) (p:Nm),m≤i→i<rs.length→(Hr (i::p)).ob = .none∨1≤(Hr (i::p)).u)
  (hH':Kw rs (LU rs m H) H Hr=H'):∃ E,Td P H g L (r.ren (MB rs) (LU rs m H)) E [] (rs.map fun r=>([r],true))∧E.app H=H':=by
 have hit_in:∀ {j:Nat} {p:Nm},j ∈ rs→QQ (rs.map fun r=>([r],true)) (j::p)=true:=fun {j p} hj=>by
  simp only[QQ,List.any_map,List.any_eq_true];exact⟨j,hj,by simp[NL,List.isPrefixOf]⟩
 have hnil:(Eff.fn rs (Gm rs m H Hr)).app H=H':=by rw[Qi];exact hH'
 refine⟨Eff.fn rs (Gm rs m H Hr),.inr (.inr ⟨fun H2 hag=>?_,fun o H2 ho'=>?_⟩),hnil⟩
 ·have ag:∀ {j:Nat} {p:Nm},j ∈ rs→H2 (j::p)=H (j::p):=fun {j p} hj=>hag _ (by simpa using hit_in hj);have agi:∀ {i:Nat} {p:Nm},i<rs.length→H2 (rs.getD i 0::p)=H (rs.getD i 0::p):=fun {i p} hi=>ag (by simp[List.getD,hi]);have hd:LU rs m H2=LU rs m H:=by
   funext o;cases o with
   |nil=>rfl
   |cons i p=>
    simp only[LU];by_cases hi:i<rs.length
    ·rw[agi hi]
    ·rw[if_neg hi,if_neg hi]
  have hoH:Gm rs m H2 Hr=Gm rs m H Hr:=by
   funext o;cases o with
   |nil=>rfl
   |cons j p=>simp only[Gm,hd]
  subst ha;have:=NZ (P:=P) (f:=g) (rs:=rs) (m:=m) (args:=L) (Hc:=Hc) (Hr:=Hr) (r:=r) (H:=H2) hnd hm hS
   (fun i p hi=>by rw[← hH,agi (by omega)];simp only[J9,if_pos hi]) (fun i p hi=>by rw[← hH];simp only[J9];rw[if_neg (by omega)]) (by rw[← hH];rfl) har
   (fun i p hi=>by rw[agi (by omega)];exact hcl _ _ (by rw[Jl hnd (by omega)];exact hi)) hr ho hv
  rwa [hd,hoH] at this
 ·cases o with
  |nil=>rfl
  |cons j p=>
   have:¬ j ∈ rs:=fun hj=>by rw[hit_in hj] at ho';cases ho'
   simp[Eff.app,this]
end Go.G
namespace Go.Proofs.YtlaapfplenlfaaaGreat
open Go Go.G Go.Proofs Go.PL
def vj (h x:Int):Int:=u64.wrap (bits .xor .u64 h x*1099511628211)
def gU (h x:Int):Int:=bits .xor .u64 (vj h x) (vj h x / 2 ^ min 29 u64.bits)
mutual
def kP:T→Int
 |.mk k w l=>kd (w.foldl gU (gU (gU 14695981039346656037 (u64.wrap k)) (u64.wrap w.length))) l
def kd:Int→List T→Int
 |h,[]=>h
 |h,t::l=>kd (gU h (kP t)) l
end
mutual
theorem Bo:∀ (t:T) (d:Nat) (n:Int),-1≤Au d n t∧(-1≤n→Au d n t≤n)
 |.mk k w l,d,n=>by
  rw[Js];split
  ·omega
  ·have:=F3 l (d-1) (n-1-w.length) (by omega);omega
theorem F3:∀ (l:List T) (d:Nat) (n:Int),-1≤n→-1≤Ar d n l∧Ar d n l≤n
 |[],d,n,h=>by simp;omega
 |t::l,d,n,h=>by
  rw[C7];split
  ·omega
  ·have h1:=Bo t d n;have h2:=F3 l d (Au d n t) h1.1;omega
end
theorem Ng (l:List T) (d:Nat) {n:Int} (h:n<0):Ar d n l=n:=by
 cases l with
 |nil=>simp
 |cons t l=>simp[h]
variable {n0:Nat} {w0:World} {I0:Nat→Prop} {Q:Exit→Sta→Prop}
theorem Wp {t:T} {d:Nat} (hd:1≤d) (hd1:d≤1000) (hl:t.kids.length*56≤140737488355328) (ih:∀ c,c ∈ t.kids→∀ (d:Nat) (n:Int),d≤1000→0≤n→n≤1000000→G.Spec Tryz.prog 28 [tX c,iv d,iv n] (iv (Au d n c)))
  {H:Hp} (hH:H [0]=⟨1,.cells [iv t.kind,CQ t.words,Bx t.kids]⟩):∀ (m i:Nat) (n:Int),i+m=t.kids.length→-1≤n→n≤1000000 →
  (∀ i' q,Q (.exit 0) ⟨lk [(1,iv d),(2,iv (Ar (d-1) n (t.kids.drop i))),(3,.pob [0] 1 0),(7,iv i'),(28,bv q)],H⟩) →
  LoopC (cx Tryz.prog w0 I0 n0) CG Q ⟨lk [(1,iv d),(2,iv n),(3,.pob [0] 1 0),(7,iv i)],H⟩:=by
 intro m;induction m with
 |zero=>
  intro i n hi h1 h2 hq;have:i=t.kids.length:=by omega
  subst this;refine Ab Aj CG.eq_1 ?_;simp[hH];simpa using hq _ false
 |succ m ihm=>
  intro i n hi h1 h2 hq;have hlt:i<t.kids.length:=by omega
  refine Ab Aj CG.eq_1 ?_;have e:t.kids.drop i=t.kids[i]::t.kids.drop (i+1):=List.drop_eq_getElem_cons hlt;by_cases hn:n<0
  ·simp[hH,hlt,show ¬ (0:Int)≤n by omega];have:=hq i false
   rwa [Ng _ _ hn] at this
  ·have hn':0≤n:=by omega
   simp[hH,hlt,hn'];have ed:i64.wrap ((d:Int)-1)=((d-1:Nat):Int):=LR;rw[ed];refine Ae (ih _ (BD hlt) (d-1) n (by omega) hn' h2) rfl ?_;simp;have hr:=Bo t.kids[i] (d-1) n;rw[A4 (by omega) (by omega)];refine ihm (i+1) _ (by omega) hr.1 (by omega) fun i' q=>?_;have:=hq i' q;rw[e,C7,if_neg (by omega)] at this;exact this
theorem Hb:∀ (t:T),AD t→∀ (d:Nat) (n:Int),d≤1000→0≤n→n≤1000000→G.Spec Tryz.prog 28 [tX t,iv d,iv n] (iv (Au d n t)):=by
 refine T.ind fun k w l ih hw d n hd hn hn1=>?_;have hw':=wfT_iff.1 hw;have hwl:=hw'.wl;have hkl:=hw'.kl;simp at hwl hkl;have ihc:∀ c,c ∈ (T.mk k w l).kids→∀ (d:Nat) (n:Int),d≤1000→0≤n→n≤1000000→G.Spec Tryz.prog 28 [tX c,iv d,iv n] (iv (Au d n c)):=fun c hc=>ih c hc (hw'.ks c hc);refine Ag Kf (by simp) fun w0 I0=>?_;unfold GF;have e1:i64.wrap (i64.wrap (n-1)-(w.length:Int))=n-1-w.length:=by rw[A4 (n:=n-1) (by omega) (by omega),A4 (by omega) (by omega)]
 rw[Js];by_cases hc:d=0∨n-1-(w.length:Int)<0
 ·have hd:(decide (d=0) || decide (n-1-(w.length:Int)<0))=true:=by simp;omega
  simp[e1,hd,hc];exact Ad rfl
 ·have hd:(decide (d=0) || decide (n-1-(w.length:Int)<0))=false:=by simp;omega
  simp[e1,hd,hc];refine Wp (t:=.mk k w l) (by omega) (by omega) hkl ihc (by simp) l.length 0 _ (by simp) (by omega) (by omega) fun i' q=>?_;simp;exact Ad rfl
def lH (t:T):Bool:=decide (0≤Au 80 3000 t)
theorem b5 {t:T} (h:AD t):G.Spec Tryz.prog 10 [tX t] (bv (lH t)):=by
 refine Ag OD (by simp) fun w0 I0=>?_;unfold Jg;simp;refine Ae (Hb t h 80 3000 (by omega) (by omega) (by omega)) rfl ?_;simp;exact Ad rfl
abbrev tL (t:T):List A:=[iv t.kind,CQ t.words,Bx t.kids]
theorem gI {a b:T} (hl:a.kids.length*56≤140737488355328) (hn:a.kids.length=b.kids.length) (ih:∀ c,c ∈ a.kids→∀ u,G.Spec Tryz.prog 16 [tX c,tX u] (bv (HR c u)))
  {H:Hp} (hA:H [0]=⟨1,.cells (tL a)⟩) (hB:H [1]=⟨1,.cells (tL b)⟩):∀ (m i:Nat),i+m=a.kids.length→a.kids.take i=b.kids.take i→(a.kids=b.kids→∀ i' q,Q (.exit 0) ⟨lk [(2,.pob [0] 1 0),(3,.pob [1] 1 0),(5,iv i'),(32,bv q)],H⟩)→(a.kids ≠ b.kids→Q .ret ⟨lk [(4,bv false)],H⟩) →
  LoopC (cx Tryz.prog w0 I0 n0) DR Q ⟨lk [(2,.pob [0] 1 0),(3,.pob [1] 1 0),(5,iv i)],H⟩:=by
 intro m;induction m with
 |zero=>
  intro i hi ht h1 h2;have:i=a.kids.length:=by omega
  subst this;refine Ab Aj DR.eq_1 ?_;simp[hA,hB];refine h1 ?_ _ _;rw[AN (Ei _),AN (by omega)] at ht;exact ht
 |succ m ihm=>
  intro i hi ht h1 h2;have hlt:i<a.kids.length:=by omega
  have hlt':i<b.kids.length:=by omega
  refine Ab Aj DR.eq_1 ?_;simp[hA,hB,hlt,hlt'];refine Ae (ih _ (BD hlt) b.kids[i]) rfl ?_;simp;cases hs:HR a.kids[i] b.kids[i] with
  |false=>
   simp;refine h2 fun e=>?_;have:a.kids[i]=b.kids[i]:=by simp[e]
   rw[← sameB_iff,hs] at this;cases this
  |true=>
   simp;rw[A4 (by omega) (by omega)];refine ihm (i+1) (by omega) ?_ h1 h2;rw[Kj hlt,Kj hlt',ht,sameB_iff.1 hs]
set_option maxRecDepth 8000 in
theorem Fv:∀ (a:T),AD a→∀ b:T,G.Spec Tryz.prog 16 [tX a,tX b] (bv (HR a b)):=by
 refine T.ind fun k w l ih hw b=>?_;have hw':=wfT_iff.1 hw;have hwl:=hw'.wl;have hkl:=hw'.kl;simp at hwl hkl;refine Ag MZ (by simp) fun w0 I0=>?_;unfold Im;have no:(k ≠ b.kind∨w ≠ b.words∨l ≠ b.kids)→HR (.mk k w l) b=false:=fun h=>by
  rw[Bool.eq_false_iff];intro e;have:=sameB_iff.1 e;subst this;simp at h
 by_cases h1:k=b.kind
 ·by_cases h2:w=b.words
  ·by_cases h3:l.length=b.kids.length
   ·simp[h1];refine Ao rfl (fun _=>Ms w b.words hwl) (fun _=>rfl) rfl ?_;simp[h2,h3];refine gI (a:=.mk k w l) (b:=b) hkl h3 (fun c hc u=>ih c hc (hw'.ks c hc) u) (by simp[h1,h2]) (by simp) l.length 0 (by simp) rfl (fun e i' q=>?_) (fun e=>?_)
    ·simp;have:HR (.mk k w l) b=true:=sameB_iff.2 (T.ext' h1 h2 e);rw[← h1,← h2,this];exact Ad rfl
    ·simp;rw[← h1,← h2,no (.inr (.inr e))];exact Ad rfl
   ·simp[h1];refine Ao rfl (fun _=>Ms w b.words hwl) (fun _=>rfl) rfl ?_;simp[h2,h3];refine⟨fun h=>absurd (by omega) h3,fun _=>?_⟩;rw[← h1,← h2,no (.inr (.inr fun e=>h3 (by rw[e])))];exact Ad rfl
  ·simp[h1];refine Ao rfl (fun _=>Ms w b.words hwl) (fun _=>rfl) rfl ?_;simp[h2];rw[← h1,no (.inr (.inl h2))];exact Ad rfl
 ·simp[h1];refine AU rfl ?_;simp;rw[no (.inl h1)];exact Ad rfl
theorem jg {t:T} (hl:t.kids.length*56≤140737488355328) (ih:∀ c,c ∈ t.kids→G.Spec Tryz.prog 21 [tX c] (tX (Af c))) {v:VOb}:∀ (m i:Nat) (u:Nat) (H:Hp),i+m=t.kids.length→H [0]=⟨1,.cells (tL t)⟩→H [1]=v→H [3]=⟨u,.arr 3 (((t.kids.take i).map Af).map tA)⟩ →
  (∀ i' q (u':Nat) (H':Hp),H' [0]=⟨1,.cells (tL t)⟩→H' [1]=v→H' [3]=⟨u',.arr 3 ((t.kids.map Af).map tA)⟩→Q (.exit 0) ⟨lk [(1,.pob [0] 1 0),(2,.pob [1] 1 0),(3,.osl [3] u' 3 0 t.kids.length),(4,iv (CD t.kids).length),(5,iv i'),(16,bv q)],H'⟩) →
  LoopC (cx Tryz.prog w0 I0 n0) DF Q ⟨lk [(1,.pob [0] 1 0),(2,.pob [1] 1 0),(3,.osl [3] u 3 0 i),(4,iv (CD (t.kids.take i)).length),(5,iv i)],H⟩:=by
 intro m;induction m with
 |zero=>
  intro i u H hi hA hR hB hq;have:i=t.kids.length:=by omega
  subst this;refine Ab Aj DF.eq_1 ?_;simp[hA];have:=hq t.kids.length false u H hA hR (by rw[hB];simp);simpa using this
 |succ m ihm=>
  intro i u H hi hA hR hB hq;have hlt:i<t.kids.length:=by omega
  refine Ab Aj DF.eq_1 ?_;simp[hA,hlt];refine Ae (ih _ (BD hlt)) rfl ?_;simp[Aa,hB];have ei:=AI i;have hrow:=VT (f:=tA ∘ Af) hlt (x:=A.agg [iv t.kids[i].kind,CQ (Af t.kids[i]).words,Bx (Af t.kids[i]).kids]) (by simp);rw[hrow];refine⟨⟨by omega,by omega⟩,fun h=>?_,fun h=>?_⟩
  ·rw[ei,← Rk hlt h];exact ihm (i+1) (u+1) _ (by omega) (by simp[Aa,hA]) (by simp[Aa,hR]) (by simp[Aa]) hq
  ·have ek:(CD (t.kids.take (i+1))).length=i+1:=by rw[QJ hlt h];simp;omega
   rw[ei];have:=fun H h1 h2 h3=>ihm (i+1) (u+1) H (by omega) h1 h2 h3 hq;rw[ek] at this;exact this _ (by simp[Aa,hA]) (by simp[Aa,hR]) (by simp[Aa])
theorem Fj:∀ (t:T),AD t→G.Spec Tryz.prog 21 [tX t] (tX (Af t)):=by
 refine T.ind fun k w l ih hw=>?_;have hw':=wfT_iff.1 hw;have hwl:=hw'.wl;have hkl:=hw'.kl;simp at hwl hkl;refine Ag ND (by simp) fun w0 I0=>?_;unfold Il;rw[ER];by_cases h0:k=0
 ·simp[h0];exact fU
 ·simp[h0];refine LoopC.le (E6 3 [3] 3 (by simp)) ?_;simp;refine LoopC.le (Ay [(1,.pob [0] 1 0),(2,.pob [1] 1 0),(3,.osl [3] 1 3 0 0),(4,iv 0),(5,iv 0)] (by simp[upd])) ?_;refine jg (t:=.mk k w l) (by simpa using hkl) (fun c hc=>ih c hc (hw'.ks c hc)) l.length 0 1 _ (by simp) (by simp) rfl (by simp) fun i' q u' H' hA hR hB=>?_;have hle:=MH l;by_cases h1:k=1
  ·subst h1;simp at hA hR hB;simp[hA,hR,hB,hle,Aa];refine Ae (WB w hwl) rfl ?_;simp[hA,hR,hB,hle,Aa];refine AE ?_;simp;rw[Sr];refine⟨Ad rfl,Ad rfl,?_⟩;have:=VK (H:=Az H' [1] ⟨1,.cells [iv 1,A.sl false (List.map uv (CS w)),A.osl [3] u' 3 0 (CD l).length]⟩) (o:=[3]) (u:=u') (sz:=3) (l:=l) (f:=tA ∘ Af) (by simp[Aa,hB]) hle (by simp);rw[← List.map_take];show Gy _ _ (A.sl false (((l.take (CD l).length).map Af).map tA));rw[List.map_map];exact this
  ·simp at hA hR hB;simp[hA,hR,hB,h1,Aa];refine⟨hwl,AE ?_⟩;simp;refine⟨Ad rfl,A3 (by simp[Aa]) rfl (by simp),?_⟩;have:=A3 (H:=Az (Az H' [4] { u:=(H' [4]).u+1,ob:=Ob.arr 1 (List.map uv w) }) [1] ⟨1,.cells [A.v (Value.int i64 k),A.osl [4] ((H' [4]).u+1) 1 0 w.length,A.osl [3] u' 3 0 l.length]⟩) (o:=[3]) (u:=u') (sz:=3) (l:=l) (f:=tA ∘ Af) (by simp[Aa,hB]) rfl (by simp);show Gy _ _ (A.sl false ((l.map Af).map tA));rw[List.map_map];exact this
theorem Iu {a b:T} (ha:AD a) (hb:AD b) (hn:AD (Af a)):G.Spec Tryz.prog 60 [tX a,tX b] (bv (G9 a b)):=by
 refine Ag L8 (by simp) fun w0 I0=>?_;unfold HS;simp;refine Ae (Fj a ha) rfl ?_;simp;refine Ae (Fj b hb) rfl ?_;simp;refine Ae (Fv (Af a) hn (Af b)) rfl ?_;simp;exact Ad rfl
theorem B9:∀ (t:T),AD t→AD (Af t):=by
 refine T.ind fun k w l ih hw=>?_;have hw':=wfT_iff.1 hw;rw[ER];have h2:∀ (l:List T),(∀ t,t ∈ l→∃ u,u ∈ l∧t=u)→True:=fun _ _=>trivial;have hm:∀ t,t ∈ l.map Af→AD t:=fun t ht=>by
  obtain⟨u,hu,rfl⟩:=List.mem_map.1 ht;exact ih u hu (hw'.ks u hu)
 split
 ·exact wfT_iff.2 ⟨by simp[Db],by simp,by simp,by simp,by simp⟩
 ·split
  ·refine wfT_iff.2 ⟨by simp[Db],fun x hx=>?_,?_,?_,fun t ht=>?_⟩
   ·simp only[T.words_mk] at hx;rw[Q6] at hx;exact hw'.w x (St hx)
   ·have:=QL w;have:=hw'.wl;simp at this ⊢;omega
   ·have:=MH (l.map Af);have:=hw'.kl;simp at this ⊢;simp at *;omega
   ·simp only[T.kids_mk] at ht;rw[Ql] at ht;exact hm t (St ht)
  ·exact wfT_iff.2 ⟨hw'.k,hw'.w,hw'.wl,by simpa using hw'.kl,by simpa using hm⟩
theorem Zy {c:T} (h:AD c) (hl:c.words.length=1):∃ x,c.words=[x]∧AA x:=by
 have:=(wfT_iff.1 h).w
 match hc:c.words,hl with
 |[x],_=>exact⟨x,rfl,this x (by simp[hc])⟩
theorem Uf {d:Nat} {c:T} (h:BV d c=true) (h10:c.kind=10):c.words.length=1:=by
 obtain⟨k,w,l⟩:=c;simp at h10;subst h10;rw[K8] at h;simp at h;exact h.1
theorem cO {t:T} (hl:t.kids.length*56≤140737488355328) (hk0:0≤t.kind) (hk1:t.kind≤10) {d:Nat} (hd:1≤d) (hd1:d≤1000) (hw:∀ c,c ∈ t.kids→AD c) (ih:∀ c,c ∈ t.kids→∀ d:Nat,d≤1000→G.Spec Tryz.prog 11 [tX c,iv d] (bv (BV d c))):∀ (m i:Nat) (H:Hp),i+m=t.kids.length→H [0]=⟨1,.cells (tL t)⟩ →
  (F4 (d-1) t.kind (t.kids.drop i)=true→∀ i' q H',Q (.exit 0) ⟨lk [(1,iv d),(2,.pob [0] 1 0),(5,iv i'),(82,bv q)],H'⟩)→(F4 (d-1) t.kind (t.kids.drop i)=false→∀ H',Q .ret ⟨lk [(4,bv false)],H'⟩) →
  LoopC (cx Tryz.prog w0 I0 n0) BT Q ⟨lk [(1,iv d),(2,.pob [0] 1 0),(5,iv i)],H⟩:=by
 intro m;induction m with
 |zero=>
  intro i H hi hA h1 h2;have:i=t.kids.length:=by omega
  subst this;refine Ab Aj BT.eq_1 ?_;simp[hA];exact h1 (by simp) _ _ _
 |succ m ihm=>
  intro i H hi hA h1 h2;have hlt:i<t.kids.length:=by omega
  have e:t.kids.drop i=t.kids[i]::t.kids.drop (i+1):=List.drop_eq_getElem_cons hlt;have ei:=AI i;have ed:i64.wrap ((d:Int)-1)=((d-1:Nat):Int):=LR;rw[e,UG] at h1 h2;have hwc:=hw _ (BD hlt);have ihc:=ih _ (BD hlt) (d-1) (by omega);generalize hc:t.kids[i]=c at *;refine Ab Aj BT.eq_1 ?_;simp[hA,hlt,hc,Aa,ed];refine Ae ihc rfl ?_;cases hr:BV (d-1) c with
  |false=>
   simp;exact h2 (by simp[hr]) _
  |true=>
   rw[hr] at h1 h2;have good:Gf t.kind c=true→∀ H',H' [0]=⟨1,.cells (tL t)⟩→LoopC (cx Tryz.prog w0 I0 n0) BT Q ⟨lk [(1,iv d),(2,.pob [0] 1 0),(5,iv ((i:Int)+1))],H'⟩:=fun hg H' hA'=>
    ihm (i+1) H' (by omega) hA' (fun hh=>h1 (by simp[hg,hh])) (fun hh=>h2 (by simp[hh]))
   have bad:Gf t.kind c=false→∀ H',Q .ret ⟨lk [(4,bv false)],H'⟩:=fun hg=>h2 (by simp[hg]);rw[show((i+1:Nat):Int)=(i:Int)+1 from rfl] at ei;by_cases hD:2≤t.kind∧t.kind≤7
   ·obtain⟨d2,d7⟩:=hD;have d9:¬ t.kind=9:=by omega
    by_cases h10:c.kind=10
    ·obtain⟨x,hx,hx64⟩:=Zy hwc (Uf hr h10);have hk:Gf t.kind c=R3 (t.kind-2) x:=by simp[Gf,Kg,d2,d7,d9,h10,hx]
     have e2:i64.wrap (t.kind-2)=t.kind-2:=Hl;simp[Aa,hA,d2,d7,d9,h10,hx,e2];refine AP rfl (fun _=>Xy hx64) (fun _=>rfl) rfl ?_;cases hf:R3 (t.kind-2) x with
     |false=>simp;exact bad (by rw[hk,hf]) _
     |true=>simp[ei];exact good (by rw[hk,hf]) _ (by simp[Aa,hA])
    ·have hk:Gf t.kind c=false:=by simp[Gf,Kg,d2,d7,d9,h10]
     simp[Aa,hA,d2,d7,d9,h10];refine AU rfl ?_;simp;exact bad hk _
   ·have hD':(decide (2≤t.kind)&&decide (t.kind≤7))=false:=by simp;omega
    by_cases h10:c.kind=10
    ·have hk:Gf t.kind c=false:=by simp[Gf,Kg,hD',h10]
     simp[Aa,hA,hD',h10];refine AU rfl ?_;simp;exact bad hk _
    ·by_cases h9:t.kind=9
     ·by_cases h1':c.kind=1
      ·have hk:Gf t.kind c=true:=by simp[Gf,Kg,hD',h9,h1']
       rw[h9] at hD';simp[Aa,hA,hD',h10,h9,h1'];refine AU rfl ?_;simp[ei];exact good hk _ (by simp[Aa,hA])
      ·have hk:Gf t.kind c=false:=by simp[Gf,Kg,hD',h9,h1',h10]
       rw[h9] at hD';simp[Aa,hA,hD',h10,h9,h1'];refine AU rfl ?_;simp;exact bad hk _
     ·have hk:Gf t.kind c=true:=by simp[Gf,Kg,hD',h9,h10]
      simp[Aa,hA,hD',h10,h9];refine AU rfl ?_;simp[ei];exact good hk _ (by simp[Aa,hA])
theorem Iy:∀ (t:T),AD t→∀ d:Nat,d≤1000→G.Spec Tryz.prog 11 [tX t,iv d] (bv (BV d t)):=by
 refine T.ind fun k w l ih hw d hd=>?_;have hw':=wfT_iff.1 hw;have hwl:=hw'.wl;have hkl:=hw'.kl;simp at hwl hkl;refine Ag Mn (by simp) fun w0 I0=>?_;unfold HT;rw[K8];by_cases h0:k=0
 ·simp[h0];exact Aq (by cases w<;>cases l<;>simp<;>(rw[← List.length_eq_zero_iff];omega))
 by_cases h10:k=10
 ·simp[h10];exact Aq (by cases w<;>cases l<;>simp<;>(rw[← List.length_eq_zero_iff];omega))
 rw[if_neg h0,if_neg h10];have bad:Hy k d w.length l.length=true→∀ H,Gy H (bv false) (bv (if Hy k d w.length l.length=true then false else F4 (d-1) k l)):=fun hb H=>Aq (by simp[hb]);by_cases ha:k<0∨10<k∨d=0∨65536≤w.length
 ·have ha':(decide (k<0) || decide (10<k) || decide (d=0) || decide (65536≤(w.length:Int)))=true:=by simp;omega
  simp[h0,h10,ha'];have:=bad (by simp[Hy];omega) (Ga [([0],{ u:=1,ob:=Ob.cells [iv k,CQ w,Bx l] })]);simpa using this
 have ha':(decide (k<0) || decide (10<k) || decide (d=0) || decide (65536≤(w.length:Int)))=false:=by simp;omega
 by_cases h1:k=1∧65536≤l.length
 ·have hl:(65536:Int)≤l.length:=by omega
  simp[h0,h10,ha',h1.1,hl];have:=bad (by simp[Hy];omega) (Ga [([0],{ u:=1,ob:=Ob.cells [iv k,CQ w,Bx l] })]);simpa[h1.1] using this
 by_cases h2:1048576≤l.length
 ·have hl:(1048576:Int)≤l.length:=by omega
  have hk1:¬ k=1:=by omega
  simp[h0,h10,ha',hk1,hl];have:=bad (by simp[Hy];omega) (Ga [([0],{ u:=1,ob:=Ob.cells [iv k,CQ w,Bx l] })]);simpa using this
 have hl2:¬ (1048576:Int)≤l.length:=by omega
 by_cases h3:1<k∧0<w.length
 ·have hk1:¬ k=1:=by omega
  have hw0:w ≠ []:=fun e=>by simp[e] at h3
  simp[h0,h10,ha',hk1,hl2,h3.1,h3.2,hw0];have:=bad (by simp[Hy];omega) (Ga [([0],{ u:=1,ob:=Ob.cells [iv k,CQ w,Bx l] })]);simpa using this
 have hb:Hy k d w.length l.length=false:=by
  rw[Bool.eq_false_iff];unfold Hy;simp only[Bool.or_eq_true,Bool.and_eq_true,decide_eq_true_eq,ne_eq];omega
 have hw0:(1<k→w=[]):=fun h=>List.eq_nil_of_length_eq_zero (by omega);have fin:LoopC (cx Tryz.prog w0 I0 132) BT (Dg 0 (JW (WPC (cx Tryz.prog w0 I0 132) (.keep [] (.seq (.reg [co (some 4) (.assign (.const (.bool true))) none] [4]) .ret)) (NC Tryz.prog [.tmp 4] (bv (F4 (d-1) k l)))) (NC Tryz.prog [.tmp 4] (bv (F4 (d-1) k l))))) ⟨lk [(1,iv d),(2,.pob [0] 1 0),(5,iv 0)],Ga [([0],⟨1,.cells [iv k,CQ w,Bx l]⟩)]⟩:=by
  refine cO (t:=.mk k w l) (by simpa using hkl) (by simp;omega) (by simp;omega) (by omega) hd (fun c hc=>hw'.ks c hc) (fun c hc=>ih c hc (hw'.ks c hc)) l.length 0 _ (by simp) (by simp) (fun hr i' q H'=>?_) (fun hr H'=>?_)
  ·simp;exact Aq (by simpa using hr.symm)
  ·simp;exact Aq (by simpa using hr.symm)
 rw[if_neg (by simp[hb])];by_cases k1:k=1
 ·have hl3:¬ (65536:Int)≤l.length:=by omega
  have ha1:(decide (d=0) || decide (65536≤(w.length:Int)))=false:=by simp;omega
  simp[ha1,k1,hl2,hl3];simpa[k1] using fin
 ·simp[h0,h10,ha',k1,hl2];refine⟨fun a b=>absurd ⟨a,by omega⟩ h3,fun _=>?_⟩;exact fin
end Go.Proofs.YtlaapfplenlfaaaGreat
namespace Go.G
open Go.RowKit
structure Fam where
 F:Nat→Nm→VOb
 ren:∀ {g:Nm→Nm} {δ:Nm→Nat} {r r':Nat},(∀ p,g (r::p)=r'::p)→(∀ p,δ (r::p)=0)→∀ p,(F r p).ren g δ 0=F r' p
 refs:∀ {D:Nm→Prop} {r:Nat},(∀ p,D (r::p))→∀ p,(F r p).ob.refs D
def Fam.no:Fam:=⟨fun _ _=>⟨0,.none⟩,fun _ _ _=>rfl,fun _ _=>trivial⟩
@[simp] theorem Fam.no_F {r:Nat} {p:Nm}:Fam.no.F r p=⟨0,.none⟩:=rfl
structure Fq (a:Nat→A):Prop where
 ren:∀ {g:Nm→Nm} {δ:Nm→Nat} {r r':Nat},(∀ p,g (r::p)=r'::p)→(∀ p,δ (r::p)=0)→(a r).ren g δ=a r'
 refs:∀ {D:Nm→Prop} {r:Nat},(∀ p,D (r::p))→(a r).refs D
structure FamL (a:Nat→List A):Prop where
 ren:∀ {g:Nm→Nm} {δ:Nm→Nat} {r r':Nat},(∀ p,g (r::p)=r'::p)→(∀ p,δ (r::p)=0)→A.renL g δ (a r)=a r'
 refs:∀ {D:Nm→Prop} {r:Nat},(∀ p,D (r::p))→A.refsL D (a r)
@[simp] theorem Av:FamL (fun _=>[]):=⟨fun _ _=>by simp[A.renL],fun _=>by simp[A.refsL]⟩
theorem Ai {a:Nat→A} {l:Nat→List A} (h:Fq a) (k:FamL l):FamL (fun r=>a r::l r):=⟨fun h1 h2=>by simp[A.renL,h.ren h1 h2,k.ren h1 h2],fun h1=>by simp only[A.refsL];exact⟨h.refs h1,k.refs h1⟩⟩
@[simp] theorem gu {a:Nat→A} {l:Nat→List A} (h:Fq a):FamL (fun r=>a r::l r)=FamL l:=by
 refine propext ⟨fun k=>⟨fun h1 h2=>?_,fun h1=>?_⟩,Ai h⟩
 ·have:=k.ren h1 h2;simp only[A.renL,List.cons.injEq] at this;exact this.2
 ·have:=k.refs h1;simp only[A.refsL] at this;exact this.2
theorem FamL.all {l:List A} (h:∀ x,x ∈ l→Fq (fun _=>x)):FamL (fun _=>l):=by
 induction l with
 |nil=>simp
 |cons x l ih=>exact Ai (h x (by simp)) (ih fun y hy=>h y (by simp[hy]))
@[simp] theorem wR:Fq (fun _=>.any):=⟨fun _ _=>by simp[A.ren],fun _=>by simp[A.refs]⟩
@[simp] theorem FV {x:Value}:Fq (fun _=>.v x):=⟨fun _ _=>by simp[A.ren],fun _=>by simp[A.refs]⟩
@[simp] theorem BZ {f:Bool} {xs:List A}:Fq (fun _=>.sl f xs):=⟨fun _ _=>by simp[A.ren],fun _=>by simp[A.refs]⟩
@[simp] theorem v9 {xs:List A}:Fq (fun _=>.pim xs):=⟨fun _ _=>by simp[A.ren],fun _=>by simp[A.refs]⟩
@[simp] theorem AX {u off:Nat} {q:Nm}:Fq (fun r=>.pob (r::q) u off):=⟨fun h1 h2=>by simp[A.ren,h1,h2],fun h=>by simp[A.refs,h]⟩
@[simp] theorem GS {u sz off len:Nat} {q:Nm}:Fq (fun r=>.osl (r::q) u sz off len):=⟨fun h1 h2=>by simp[A.ren,h1,h2],fun h=>by simp[A.refs,h]⟩
@[simp] theorem sS {u i j:Nat} {q:Nm}:Fq (fun r=>.pel (r::q) u i j):=⟨fun h1 h2=>by simp[A.ren,h1,h2],fun h=>by simp[A.refs,h]⟩
@[simp] theorem eF {l:Nat→List A} (h:FamL l):Fq (fun r=>.agg (l r)):=⟨fun h1 h2=>by simp[A.ren,h.ren h1 h2],fun h1=>by simp only[A.refs];exact h.refs h1⟩
@[simp] theorem Ec {l:Nat→List A} (h:FamL l):Fq (fun r=>.tup (l r)):=⟨fun h1 h2=>by simp[A.ren,h.ren h1 h2],fun h1=>by simp only[A.refs];exact h.refs h1⟩
@[simp] theorem vH {f:FuncId} {l m:Nat→List A} (h:FamL l) (k:FamL m):Fq (fun r=>.fnc f (l r) (m r)):=⟨fun h1 h2=>by simp[A.ren,h.ren h1 h2,k.ren h1 h2],fun h1=>by simp only[A.refs];exact⟨h.refs h1,k.refs h1⟩⟩
@[simp] theorem uK {t:TypeId} {a:Nat→A} (h:Fq a):Fq (fun r=>.ifc t (a r)):=⟨fun h1 h2=>by simp[A.ren,h.ren h1 h2],fun h1=>by simp only[A.refs];exact h.refs h1⟩
theorem WC {a:A} (h:a.bare1=true):Fq (fun _=>a):=by cases a<;>simp[A.bare1] at h ⊢
theorem I6 {a:A} {cs:List A} (ha:a = .agg cs) (h:∀ x,x ∈ cs→x.bare1=true):Fq (fun _=>a):=by
 subst ha;exact eF (l:=fun _=>cs) (FamL.all fun x hx=>WC (h x hx))
theorem Fam.cells_ren {g:Nm→Nm} {δ:Nm→Nat} {u:Nat} {l l':List A} (h:A.renL g δ l=l'):VOb.ren g δ 0 ⟨u,.cells l⟩=⟨u,.cells l'⟩:=by simp[VOb.ren,Ob.ren,h]
theorem Fam.arr_ren {g:Nm→Nm} {δ:Nm→Nat} {u sz:Nat} {l l':List A} (h:A.renL g δ l=l'):VOb.ren g δ 0 ⟨u,.arr sz l⟩=⟨u,.arr sz l'⟩:=by simp[VOb.ren,Ob.ren,h]
structure SpecF (P:Program) (f:FuncId) (as':Nat→List A) (F:Fam) (x:Nat→A) (F':Fam):Prop where
 fa:FamL as'
 fx:Fq x
 h:SpecH P f 1 (as' 0) (ov 0 (F.F 0) (Ga [])) (x 0) (ov 0 (F'.F 0) (Ga []))
section
variable {P:Program} {K:Sta→Prop} {rest:List CO} {s:Nat→A} {H:Hp} {dd:Option Nat} {nm:Nm} {ix:Nat} {un:List Nat} {l:Bool} {lg:Lg} {g:FuncId} {aa:Array Operand} {ts:Array TypeId}
theorem fI {r:Nat} {F:Fam} (hF:∀ p,H (r::p)=F.F r p):J9 [r] 1 H=ov 0 (F.F 0) (Ga []):=by
 funext o;cases o with
 |nil=>rfl
 |cons i p=>
  by_cases hi:i<1
  ·have:i=0:=by omega
   subst this;simp only[J9,if_pos hi,AW,if_true];show(H (r::p)).ren _ _ 0=_;rw[hF];exact F.ren (fun q=>by simp[Py]) (fun _=>rfl) p
  ·simp only[J9,if_neg hi,AW];rw[if_neg (by omega)];rfl
theorem Yl {r:Nat} {F':Fam}:Kw [r] (LU [r] 1 H) H (ov 0 (F'.F 0) (Ga []))=ov r (F'.F r) H:=by
 have hd:∀ p,LU [r] 1 H (0::p)=0:=fun p=>rfl;funext o;cases o with
 |nil=>rfl
 |cons j p=>
  by_cases hj:j=r
  ·subst hj;simp only[Kw,AW,if_true];rw[if_pos (by simp)];have:[j].idxOf j=0:=by simp
   rw[this,if_pos rfl,hd];exact F'.ren (fun q=>by simp[MB]) hd p
  ·have:¬ [r].contains j=true:=by simpa using hj
   simp only[Kw,if_neg this,AW,if_neg hj]
theorem QF {r:Nat} {F:Fam} (hF:∀ p,H (r::p)=F.F r p):PE [r] 1 H:=by
 intro j p hj;have hjr:j=r:=by
  have:=(idx_mem (rs:=[r])).1 (by simpa using hj);simpa using this
 rw[hjr,hF];exact F.refs (fun q=>by simp[NB]) p
theorem Va {F':Fam} (i:Nat) (p:Nm) (hi:i<1):((ov 0 (F'.F 0) (Ga [])) (i::p)).ob.refs (FG 1):=by
 have:i=0:=by omega
 subst this;simp only[AW,if_true];exact F'.refs (fun q=>by simp[FG]) p
theorem Bp {as':Nat→List A} {F F':Fam} {x:Nat→A} (r:Nat) (hS:SpecF P g as' F x F') (hF:∀ p,H (r::p)=F.F r p) (ha:aa.toList.map (evs s)=as' r) (hck:Ck un lg ⟨[],[([r],true)]⟩)
  (h:Am P K rest (AR l ix ⟨[],[([r],true)]⟩ lg) (Sta.put ⟨s,H⟩ dd (x r) (ov r (F'.F r) H))) :
  Am P K (⟨dd,.call { callee:=.value (.func g),args:=aa,argTypes:=ts },none,nm,ix,un,l⟩::rest) lg ⟨s,H⟩:=by
 have hd:∀ p,LU [r] 1 H (0::p)=0:=fun p=>rfl;refine VP [r] 1 hS.h (by simp) (by simp) ?_ ?_ (fI hF) (QF hF) (hS.fx.refs (fun p=>by simp[FG])) (fun i p hi=>Va i p hi) (fun i p h1 h2=>by simp at h2;omega) (hS.fx.ren (fun q=>by simp[MB]) hd) Yl hck h
 ·rw[ha];exact hS.fa.ren (fun q=>by simp[Py]) (fun _=>rfl)
 ·rw[ha];exact hS.fa.refs (fun q=>by simp[NB])
end
section
variable {P:Program} {K:Sta→Prop} {rest:List CO} {s:Nat→A} {H:Hp} {dd:Option Nat} {nm:Nm} {ix:Nat} {un:List Nat} {l:Bool} {lg:Lg} {g:FuncId} {aa:Array Operand} {ts:Array TypeId}
theorem Z3 {as':Nat→List A} {F F':Fam} {x:Nat→A} (r:Nat) (hS:SpecF P g as' F x F') (hF:∀ p,H (r::p)=F.F r p):∃ E,Td P H g (as' r) (x r) E [] [([r],true)]∧E.app H=ov r (F'.F r) H:=by
 have hd:∀ p,LU [r] 1 H (0::p)=0:=fun p=>rfl;have:=YQ (H:=H) (L:=as' r) [r] 1 hS.h (by simp) (by simp) (hS.fa.ren (fun q=>by simp[Py]) (fun _=>rfl)) (hS.fa.refs (fun q=>by simp[NB])) (fI hF) (QF hF) (hS.fx.refs (fun p=>by simp[FG])) (fun i p hi=>Va i p hi) (fun i p h1 h2=>by simp at h2;omega) Yl;have e:A.ren (MB [r]) (LU [r] 1 H) (x 0)=x r:=hS.fx.ren (fun q=>by simp[MB]) hd;rw[e] at this;exact this
end
theorem uG {r:Nat} {F F':Nm→VOb} {H:Hp}:ov r F (ov r F' H)=ov r F H:=by
 funext o;cases o with
 |nil=>rfl
 |cons j p=>by_cases hj:j=r<;>simp[hj]
@[simp] theorem zl {r:Nat} {F F':Nm→VOb} {H:Hp}:ov r F (ov r F' H)=ov r F H:=uG
theorem BL {P:Program} {f:FuncId} {n:Nat} {rs:List ResultVar} {cc:CC} {as':Nat→List A} {F F':Fam} {x:Nat→A} (t:Ca P f n rs cc) (ha:(as' 0).length≤n) (h0:FamL as') (h1:Fq x)
  (h:∀ w0 I0 M0 m0,WPC (HY P w0 I0 M0 n m0) cc (Lr (HY P w0 I0 M0 n m0) rs 1 (x 0) (ov 0 (F'.F 0) (Ga []))) ⟨Mw (as' 0),ov 0 (F.F 0) (Ga [])⟩):SpecF P f as' F x F':=
 ⟨h0,h1,VQ t ha h⟩
theorem A6 {c:Cx} {rs:List ResultVar} {x:A} {F':Nm→VOb} {r0:A} {st:Sta} (h:EC c.P st rs=some r0) (he:r0=x) (hh:∀ p,st.H (0::p)=F' p):Lr c rs 1 x (ov 0 F' (Ga [])) .ret st:=
 QW h he fun i p hi=>by
  have:i=0:=by omega
  subst this;rw[hh];simp
theorem Ed {c:Cx} {rs:List ResultVar} {x:A} {F':Nm→VOb} {r0:A} {st:Sta} (h:EC c.P st rs=some r0) (he:r0=x) (hh:∀ p,st.H (0::p)=F' p):Lr c rs 1 x (ov 0 F' (Ga [])) .normal st:=
 OV h he fun i p hi=>by
  have:i=0:=by omega
  subst this;rw[hh];simp
structure Tl (a:Nat→Nat→A):Prop where
 ren:∀ {g:Nm→Nm} {δ:Nm→Nat} {r r' q q':Nat},(∀ p,g (r::p)=r'::p)→(∀ p,δ (r::p)=0)→(∀ p,g (q::p)=q'::p)→(∀ p,δ (q::p)=0)→(a r q).ren g δ=a r' q'
 refs:∀ {D:Nm→Prop} {r q:Nat},(∀ p,D (r::p))→(∀ p,D (q::p))→(a r q).refs D
structure Si (a:Nat→Nat→List A):Prop where
 ren:∀ {g:Nm→Nm} {δ:Nm→Nat} {r r' q q':Nat},(∀ p,g (r::p)=r'::p)→(∀ p,δ (r::p)=0)→(∀ p,g (q::p)=q'::p)→(∀ p,δ (q::p)=0)→A.renL g δ (a r q)=a r' q'
 refs:∀ {D:Nm→Prop} {r q:Nat},(∀ p,D (r::p))→(∀ p,D (q::p))→A.refsL D (a r q)
@[simp] theorem Gk:Si (fun _ _=>[]):=⟨fun _ _ _ _=>by simp[A.renL],fun _ _=>by simp[A.refsL]⟩
theorem Be {a:Nat→Nat→A} {l:Nat→Nat→List A} (h:Tl a) (k:Si l):Si (fun r q=>a r q::l r q):=⟨fun h1 h2 h3 h4=>by simp[A.renL,h.ren h1 h2 h3 h4,k.ren h1 h2 h3 h4],fun h1 h2=>by simp only[A.refsL];exact⟨h.refs h1 h2,k.refs h1 h2⟩⟩
theorem Cy {a:Nat→A} (h:Fq a):Tl (fun r _=>a r):=⟨fun h1 h2 _ _=>h.ren h1 h2,fun h1 _=>h.refs h1⟩
theorem Li {a:Nat→A} (h:Fq a):Tl (fun _ q=>a q):=⟨fun _ _ h1 h2=>h.ren h1 h2,fun _ h1=>h.refs h1⟩
section
variable {P:Program} {K:Sta→Prop} {rest:List CO} {s:Nat→A} {H:Hp} {dd:Option Nat} {nm:Nm} {ix:Nat} {un:List Nat} {l:Bool} {lg:Lg} {g:FuncId} {aa:Array Operand} {ts:Array TypeId}
end
theorem ZR {c:Cx} {rs:List ResultVar} {x:A} {F' N:Nm→VOb} {r0:A} {st:Sta} (h:EC c.P st rs=some r0) (he:r0=x) (hh:∀ p,st.H (0::p)=F' p) (hn:∀ p,st.H (1::p)=N p):Lr c rs 2 x (ov 0 F' (ov 1 N (Ga []))) .ret st:=
 QW h he fun i p hi=>by
  by_cases h0:i=0
  ·subst h0;rw[hh];simp
  ·have:i=1:=by omega
   subst this;rw[hn];simp
def mh (u sz:Nat) (xs:List A) (h:∀ x,x ∈ xs→Fq (fun _=>x)):Fam:=⟨fun _ p=>if p=[] then ⟨u,.arr sz xs⟩ else ⟨0,.none⟩,fun {g δ r r'} hg hd p=>by
  by_cases hp:p=[]
  ·rw[if_pos hp];exact Fam.arr_ren ((FamL.all h).ren hg hd)
  ·rw[if_neg hp];rfl,fun {D r} hD p=>by
  by_cases hp:p=[]
  ·rw[if_pos hp];exact(FamL.all h).refs hD
  ·rw[if_neg hp];trivial⟩
@[simp] theorem Aaa {u sz:Nat} {xs:List A} {h:∀ x,x ∈ xs→Fq (fun _=>x)} {r:Nat} {p:Nm}:(mh u sz xs h).F r p=if p=[] then ⟨u,.arr sz xs⟩ else ⟨0,.none⟩:=rfl
structure Od where
 B:Nat→Nat→Nm→VOb
 C:Nat→Nat→Nm→VOb
 ren:∀ {g:Nm→Nm} {δ:Nm→Nat} {r r' q q':Nat},(∀ p,g (r::p)=r'::p)→(∀ p,δ (r::p)=0)→(∀ p,g (q::p)=q'::p)→(∀ p,δ (q::p)=0)→∀ p,(B r q p).ren g δ 0=B r' q' p∧(C r q p).ren g δ 0=C r' q' p
 refs:∀ {D:Nm→Prop} {r q:Nat},(∀ p,D (r::p))→(∀ p,D (q::p))→∀ p,(B r q p).ob.refs D∧(C r q p).ob.refs D
def Fam.two (F G:Fam):Od:=⟨fun r _=>F.F r,fun _ q=>G.F q,fun h1 h2 h3 h4 p=>⟨F.ren h1 h2 p,G.ren h3 h4 p⟩,fun h1 h2 p=>⟨F.refs h1 p,G.refs h2 p⟩⟩
@[simp] theorem Abg {F G:Fam} {r q:Nat}:(F.two G).B r q=F.F r:=rfl
@[simp] theorem Abm {F G:Fam} {r q:Nat}:(F.two G).C r q=G.F q:=rfl
structure KH (P:Program) (f:FuncId) (as':Nat→Nat→List A) (F:Od) (x:Nat→Nat→A) (F':Od):Prop where
 fa:Si as'
 fx:Tl x
 h:SpecH P f 2 (as' 0 1) (ov 0 (F.B 0 1) (ov 1 (F.C 0 1) (Ga []))) (x 0 1) (ov 0 (F'.B 0 1) (ov 1 (F'.C 0 1) (Ga [])))
section
variable {P:Program} {K:Sta→Prop} {rest:List CO} {s:Nat→A} {H:Hp} {dd:Option Nat} {nm:Nm} {ix:Nat} {un:List Nat} {l:Bool} {lg:Lg} {g:FuncId} {aa:Array Operand} {ts:Array TypeId}
theorem PO {as':Nat→Nat→List A} {F F':Od} {x:Nat→Nat→A} (r q:Nat) (hrq:r ≠ q) (hS:KH P g as' F x F') (hF:∀ p,H (r::p)=F.B r q p) (hG:∀ p,H (q::p)=F.C r q p) (ha:aa.toList.map (evs s)=as' r q) (hck:Ck un lg ⟨[],[([r],true),([q],true)]⟩)
  (h:Am P K rest (AR l ix ⟨[],[([r],true),([q],true)]⟩ lg) (Sta.put ⟨s,H⟩ dd (x r q) (ov r (F'.B r q) (ov q (F'.C r q) H)))) :
  Am P K (⟨dd,.call { callee:=.value (.func g),args:=aa,argTypes:=ts },none,nm,ix,un,l⟩::rest) lg ⟨s,H⟩:=by
 have hd:∀ p,LU [r,q] 2 H (0::p)=0:=fun p=>rfl;have hd1:∀ p,LU [r,q] 2 H (1::p)=0:=fun p=>rfl;have i0:[r,q].idxOf r=0:=by simp
 have i1:[r,q].idxOf q=1:=by simp[List.idxOf_cons,beq_eq_false_iff_ne.2 hrq]
 have d0:∀ p,Py [r,q] (r::p)=0::p:=fun p=>by simp[Py]
 have d1:∀ p,Py [r,q] (q::p)=1::p:=fun p=>by simp[Py,i1]
 have jin:∀ {j:Nat},[r,q].idxOf j<2→j=r∨j=q:=fun {j} hj=>by
  have:=(idx_mem (rs:=[r,q])).1 (by simpa using hj);simpa using this
 refine VP [r,q] 2 hS.h (by simp[hrq]) (by simp) ?_ ?_ ?_ ?_ (hS.fx.refs (fun p=>by simp[FG]) (fun p=>by simp[FG])) ?_ (fun i p h1 h2=>by simp at h2;omega) (hS.fx.ren (fun p=>by simp[MB]) hd (fun p=>by simp[MB]) hd1) ?_ hck h
 ·rw[ha];exact hS.fa.ren d0 (fun _=>rfl) d1 (fun _=>rfl)
 ·rw[ha];exact hS.fa.refs (fun p=>by simp[NB]) (fun p=>by simp[NB,i1])
 ·funext o;cases o with
  |nil=>rfl
  |cons i p=>
   by_cases hi:i<2
   ·simp only[J9,if_pos hi];have h01:i=0∨i=1:=by omega
    rcases h01 with rfl | rfl
    ·show(H (r::p)).ren _ _ 0=_;rw[hF];simp only[AW,if_true];exact(F.ren d0 (fun _=>rfl) d1 (fun _=>rfl) p).1
    ·show(H (q::p)).ren _ _ 0=_;rw[hG];simp only[AW,if_true];rw[if_neg (by omega)];exact(F.ren d0 (fun _=>rfl) d1 (fun _=>rfl) p).2
   ·simp only[J9,if_neg hi,AW];rw[if_neg (by omega),if_neg (by omega)];rfl
 ·intro j p hj;rcases jin hj with rfl | rfl
  ·rw[hF];exact(F.refs (fun p=>by simp[NB]) (fun p=>by simp[NB,i1]) p).1
  ·rw[hG];exact(F.refs (fun p=>by simp[NB]) (fun p=>by simp[NB,i1]) p).2
 ·intro i p hi;have hi:i<2:=hi;by_cases h0:i=0
  ·subst h0;simp only[AW,if_true];exact(F'.refs (fun q=>by simp[FG]) (fun q=>by simp[FG]) p).1
  ·have:i=1:=by omega
   subst this;simp only[AW,if_true];rw[if_neg (by omega)];exact(F'.refs (fun q=>by simp[FG]) (fun q=>by simp[FG]) p).2
 ·have u0:∀ p,MB [r,q] (0::p)=r::p:=fun p=>by simp[MB]
  have u1:∀ p,MB [r,q] (1::p)=q::p:=fun p=>by simp[MB]
  funext o;cases o with
  |nil=>rfl
  |cons j p=>
   by_cases hj:j=r
   ·subst hj;simp only[Kw,AW,if_true];rw[if_pos (by simp),i0,if_pos rfl,hd];exact(F'.ren u0 hd u1 hd1 p).1
   ·by_cases hj2:j=q
    ·subst hj2;simp only[Kw,AW,if_true,if_neg hj];rw[if_pos (by simp),i1,if_neg (by omega),if_pos rfl,hd1];exact(F'.ren u0 hd u1 hd1 p).2
    ·have:¬ [r,q].contains j=true:=by simp[hj,hj2]
     simp only[Kw,if_neg this,AW,if_neg hj,if_neg hj2]
theorem eD {as':Nat→Nat→List A} {F F':Od} {x:Nat→Nat→A} {fo:Operand} {fs caps:List A} (r q:Nat) (hv0:evs s fo = .fnc g fs caps) (hrq:r ≠ q) (hS:KH P g as' F x F') (hF:∀ p,H (r::p)=F.B r q p) (hG:∀ p,H (q::p)=F.C r q p) (ha:fs++(aa.toList.map (evs s)++caps)=as' r q) (hck:Ck un lg ⟨[],[([r],true),([q],true)]⟩)
  (h:Am P K rest (AR l ix ⟨[],[([r],true),([q],true)]⟩ lg) (Sta.put ⟨s,H⟩ dd (x r q) (ov r (F'.B r q) (ov q (F'.C r q) H)))) :
  Am P K (⟨dd,.call { callee:=.value fo,args:=aa,argTypes:=ts },none,nm,ix,un,l⟩::rest) lg ⟨s,H⟩:=by
 have hd:∀ p,LU [r,q] 2 H (0::p)=0:=fun p=>rfl;have hd1:∀ p,LU [r,q] 2 H (1::p)=0:=fun p=>rfl;have i0:[r,q].idxOf r=0:=by simp
 have i1:[r,q].idxOf q=1:=by simp[List.idxOf_cons,beq_eq_false_iff_ne.2 hrq]
 have d0:∀ p,Py [r,q] (r::p)=0::p:=fun p=>by simp[Py]
 have d1:∀ p,Py [r,q] (q::p)=1::p:=fun p=>by simp[Py,i1]
 have jin:∀ {j:Nat},[r,q].idxOf j<2→j=r∨j=q:=fun {j} hj=>by
  have:=(idx_mem (rs:=[r,q])).1 (by simpa using hj);simpa using this
 refine Zm hv0 ha [r,q] 2 hS.h (by simp[hrq]) (by simp) ?_ ?_ ?_ ?_ (hS.fx.refs (fun p=>by simp[FG]) (fun p=>by simp[FG])) ?_ (fun i p h1 h2=>by simp at h2;omega) (hS.fx.ren (fun p=>by simp[MB]) hd (fun p=>by simp[MB]) hd1) ?_ hck h
 ·exact hS.fa.ren d0 (fun _=>rfl) d1 (fun _=>rfl)
 ·exact hS.fa.refs (fun p=>by simp[NB]) (fun p=>by simp[NB,i1])
 ·funext o;cases o with
  |nil=>rfl
  |cons i p=>
   by_cases hi:i<2
   ·simp only[J9,if_pos hi];have h01:i=0∨i=1:=by omega
    rcases h01 with rfl | rfl
    ·show(H (r::p)).ren _ _ 0=_;rw[hF];simp only[AW,if_true];exact(F.ren d0 (fun _=>rfl) d1 (fun _=>rfl) p).1
    ·show(H (q::p)).ren _ _ 0=_;rw[hG];simp only[AW,if_true];rw[if_neg (by omega)];exact(F.ren d0 (fun _=>rfl) d1 (fun _=>rfl) p).2
   ·simp only[J9,if_neg hi,AW];rw[if_neg (by omega),if_neg (by omega)];rfl
 ·intro j p hj;rcases jin hj with rfl | rfl
  ·rw[hF];exact(F.refs (fun p=>by simp[NB]) (fun p=>by simp[NB,i1]) p).1
  ·rw[hG];exact(F.refs (fun p=>by simp[NB]) (fun p=>by simp[NB,i1]) p).2
 ·intro i p hi;have hi:i<2:=hi;by_cases h0:i=0
  ·subst h0;simp only[AW,if_true];exact(F'.refs (fun q=>by simp[FG]) (fun q=>by simp[FG]) p).1
  ·have:i=1:=by omega
   subst this;simp only[AW,if_true];rw[if_neg (by omega)];exact(F'.refs (fun q=>by simp[FG]) (fun q=>by simp[FG]) p).2
 ·have u0:∀ p,MB [r,q] (0::p)=r::p:=fun p=>by simp[MB]
  have u1:∀ p,MB [r,q] (1::p)=q::p:=fun p=>by simp[MB]
  funext o;cases o with
  |nil=>rfl
  |cons j p=>
   by_cases hj:j=r
   ·subst hj;simp only[Kw,AW,if_true];rw[if_pos (by simp),i0,if_pos rfl,hd];exact(F'.ren u0 hd u1 hd1 p).1
   ·by_cases hj2:j=q
    ·subst hj2;simp only[Kw,AW,if_true,if_neg hj];rw[if_pos (by simp),i1,if_neg (by omega),if_pos rfl,hd1];exact(F'.ren u0 hd u1 hd1 p).2
    ·have:¬ [r,q].contains j=true:=by simp[hj,hj2]
     simp only[Kw,if_neg this,AW,if_neg hj,if_neg hj2]
end
theorem Hv {P:Program} {f:FuncId} {n:Nat} {rs:List ResultVar} {cc:CC} {as':Nat→Nat→List A} {F F':Od} {x:Nat→Nat→A} (t:Ca P f n rs cc) (ha:(as' 0 1).length≤n) (h0:Si as') (h1:Tl x)
  (h:∀ w0 I0 M0 m0,WPC (HY P w0 I0 M0 n m0) cc (Lr (HY P w0 I0 M0 n m0) rs 2 (x 0 1) (ov 0 (F'.B 0 1) (ov 1 (F'.C 0 1) (Ga [])))) ⟨Mw (as' 0 1),ov 0 (F.B 0 1) (ov 1 (F.C 0 1) (Ga []))⟩):KH P f as' F x F':=
 ⟨h0,h1,VQ t ha h⟩
theorem Eu {P:Program} {K:Sta→Prop} {rest:List CO} {s:Nat→A} {H:Hp} {dd:Option Nat} {nm:Nm} {ix:Nat} {un:List Nat} {l:Bool} {lg:Lg} {g:FuncId} {aa:Array Operand} {ts:Array TypeId} {ars:Nat→List A} {F:Fam} {x:Nat→A} (r:Nat) (hS:SpecF P g ars F x F) (hF:∀ p,H (r::p)=F.F r p) (ha:aa.toList.map (evs s)=ars r) (hck:Ck un lg ⟨[([r],true)],[]⟩)
  (h:Am P K rest (AR l ix ⟨[([r],true)],[]⟩ lg) (Sta.put ⟨s,H⟩ dd (x r) H)) :
  Am P K (⟨dd,.call { callee:=.value (.func g),args:=aa,argTypes:=ts },none,nm,ix,un,l⟩::rest) lg ⟨s,H⟩:=by
 refine Wc .nil [([r],true)] [] (fun H2 hag=>?_) (fun o H2 ho=>rfl) hck h;rw[ha];have hF2:∀ p,H2 (r::p)=F.F r p:=fun p=>by rw[hag (r::p) (by simp[QQ,NL,List.isPrefixOf]),hF]
 obtain⟨E,hc,hE⟩:=Z3 r hS hF2;have hc3:OH P H2 g (ars r) (x r) E:=by
  rcases hc with ⟨_,_,_,_,h5⟩ | ⟨_,_,_,h4⟩ | ⟨h1,_⟩
  ·cases h5
  ·cases h4
  ·exact h1 H2 (fun o _=>rfl)
 have e2:ov r (F.F r) H2=H2:=by
  funext o;cases o with
  |nil=>rfl
  |cons j p=>
   by_cases hj:j=r
   ·subst hj;simp[hF2]
   ·simp[hj]
 rw[e2] at hE;refine⟨hc3.1,fun c w I μ vs a b d e=>?_⟩;have:=hc3.2 c w I μ vs a b d e;rw[hE] at this;exact this
end Go.G
namespace Go.PL
def QD (stop:Nat→Bool) (pl:List Nat):Nat→Nat→Nat
 |0,a=>a
 |f+1,a=>if pl.getD a 0=0 then a else if stop (pl.getD a 0)=true then a else QD stop pl f ((a+1) % pl.length)
theorem Qv (a d m:Nat):((a+1) % m+d) % m=(a+(d+1)) % m:=by
 rw[Nat.mod_add_mod];congr 1;omega
theorem ZQ {stop:Nat→Bool} {pl:List Nat}:∀ (f a d:Nat),a<pl.length→d<f→pl.getD ((a+d) % pl.length) 0=0 →
  QD stop pl f a<pl.length∧(pl.getD (QD stop pl f a) 0=0∨stop (pl.getD (QD stop pl f a) 0)=true) ∧
   ∃ k,QD stop pl f a=(a+k) % pl.length∧∀ e,e<k→pl.getD ((a+e) % pl.length) 0 ≠ 0∧stop (pl.getD ((a+e) % pl.length) 0)=false:=by
 intro f;induction f with
 |zero=>intro a d _ h;omega
 |succ f ih=>
  intro a d ha hd hz;unfold QD;have hself:∃ k,a=(a+k) % pl.length∧∀ e,e<k→pl.getD ((a+e) % pl.length) 0 ≠ 0∧stop (pl.getD ((a+e) % pl.length) 0)=false:=⟨0,by rw[Nat.add_zero,Nat.mod_eq_of_lt ha],fun e he=>by omega⟩;split
  ·rename_i h0;exact⟨ha,.inl h0,hself⟩
  ·rename_i h0;split
   ·rename_i h1;exact⟨ha,.inr h1,hself⟩
   ·rename_i h1;cases d with
    |zero=>rw[Nat.add_zero,Nat.mod_eq_of_lt ha] at hz;exact absurd hz h0
    |succ d=>
     obtain⟨p1,p2,k,p3,p4⟩:=ih ((a+1) % pl.length) d (Nat.mod_lt _ (by omega)) (by omega) (by rw[Qv];exact hz);refine⟨p1,p2,k+1,by rw[p3,Qv],fun e he=>?_⟩;cases e with
     |zero=>rw[Nat.add_zero,Nat.mod_eq_of_lt ha];exact⟨h0,by simpa using h1⟩
     |succ e=>
      have:=p4 e (by omega)
      rwa [Qv] at this
structure Pl (hs:List Nat) (pl:List Nat):Prop where
 cnt:pl.countP (fun v=>v != 0)=hs.length
 vals:∀ v,v ∈ pl→v≤hs.length
 reach:∀ (c:Nat) (hc:c<hs.length),∃ d,pl[(hs[c]+d) % pl.length]? = some (c+1)∧∀ e,e<d→pl.getD ((hs[c]+e) % pl.length) 0 ≠ 0
theorem Pl.free {hs pl:List Nat} (h:Pl hs pl) (hl:hs.length<pl.length) (a:Nat):∃ d,d<pl.length∧pl.getD ((a+d) % pl.length) 0=0:=by
 have hm:∃ v,v ∈ pl∧v=0:=by
  apply Classical.byContradiction;intro hn;have:pl.countP (fun v=>v != 0)=pl.length:=List.countP_eq_length.2 fun v hv=>by
   simp only[bne_iff_ne,ne_eq];exact fun e=>hn ⟨v,hv,e⟩
  have:=h.cnt;omega
 obtain⟨v,hv,rfl⟩:=hm;obtain⟨i,hi,e⟩:=List.mem_iff_getElem.1 hv;refine⟨(i+(pl.length-a % pl.length)) % pl.length,Nat.mod_lt _ (by omega),?_⟩;have:(a+(i+(pl.length-a % pl.length)) % pl.length) % pl.length=i:=by
  rw[Nat.add_mod_mod];have h1:=Nat.mod_lt a (show 0<pl.length by omega);have h2:=Nat.div_add_mod a pl.length;have h3:a+(i+(pl.length-a % pl.length))=i+pl.length*(a / pl.length+1):=by
   rw[Nat.mul_add,Nat.mul_one];omega
  rw[h3,Nat.add_mul_mod_self_left,Nat.mod_eq_of_lt hi]
 rw[this];simp[hi,e]
theorem Wv {pl:List Nat} {a v:Nat} (ha:a<pl.length) (h0:pl.getD a 0=0) (hv:v ≠ 0):(pl.set a v).countP (fun v=>v != 0)=pl.countP (fun v=>v != 0)+1:=by
 induction pl generalizing a with
 |nil=>simp at ha
 |cons x l ih=>
  cases a with
  |zero=>
   simp at h0;subst h0;simp[hv]
  |succ a=>
   simp only[List.set_cons_succ,List.countP_cons];rw[ih (by simpa using ha) (by simpa using h0)];omega
theorem Pl.ins {hs pl:List Nat} (h:Pl hs pl) {x a k:Nat} (ha:a<pl.length) (h0:pl.getD a 0=0) (he:a=(x+k) % pl.length) (hk:∀ e,e<k→pl.getD ((x+e) % pl.length) 0 ≠ 0):Pl (hs++[x]) (pl.set a (hs.length+1)):=by
 have hmod:∀ y,y % pl.length<pl.length:=fun y=>Nat.mod_lt _ (by omega);have nz:∀ y,pl.getD (y % pl.length) 0 ≠ 0→(pl.set a (hs.length+1)).getD (y % pl.length) 0 ≠ 0:=fun y hy=>by
  have hne:a ≠ y % pl.length:=fun e=>hy (by rw[← e];exact h0);simpa[List.getD_eq_getElem?_getD,List.getElem?_set_ne hne] using hy
 refine⟨?_,fun v hv=>?_,fun c hc=>?_⟩
 ·rw[Wv ha h0 (by omega),h.cnt];simp
 ·rw[List.length_append,List.length_singleton];rcases List.mem_or_eq_of_mem_set hv with hv | rfl
  ·have:=h.vals v hv;omega
  ·omega
 ·simp only[List.length_set];by_cases hcl:c<hs.length
  ·obtain⟨d,h1,h2⟩:=h.reach c hcl;rw[List.getElem_append_left hcl];refine⟨d,?_,fun e he=>nz _ (h2 e he)⟩;have hne:a ≠ (hs[c]+d) % pl.length:=fun e=>by
    rw[← e] at h1;rw[List.getD_eq_getElem?_getD,h1] at h0;simp at h0
   rw[List.getElem?_set_ne hne,h1]
  ·have:c=hs.length:=by simp at hc;omega
   subst this;rw[List.getElem_append_right (Ei _)];simp only[Nat.sub_self,List.getElem_cons_zero];refine⟨k,?_,fun e he=>nz _ (hk e he)⟩;rw[← he,List.getElem?_set_self ha]
def insP (pl:List Nat) (x v:Nat):List Nat:=pl.set (QD (fun _=>false) pl pl.length (x % pl.length)) v
def Yr:List Nat→Nat→List Nat→List Nat
 |pl,_,[]=>pl
 |pl,i,x::hs=>Yr (insP pl x (i+1)) (i+1) hs
@[simp] theorem ko {pl:List Nat} {x v:Nat}:(insP pl x v).length=pl.length:=by simp[insP]
theorem Pl.nil (m:Nat):Pl [] (List.replicate m 0):=by
 refine⟨?_,fun v hv=>?_,fun c hc=>?_⟩
 ·simp[List.countP_replicate]
 ·simp at hv;omega
 ·simp at hc
theorem df {stop:Nat→Bool} {pl:List Nat} {x:Nat} {hs:List Nat} (h:Pl hs pl) (hl:hs.length<pl.length) :
  QD stop pl pl.length (x % pl.length)<pl.length∧(pl.getD (QD stop pl pl.length (x % pl.length)) 0=0∨stop (pl.getD (QD stop pl pl.length (x % pl.length)) 0)=true) ∧
   ∃ k,QD stop pl pl.length (x % pl.length)=(x+k) % pl.length∧∀ e,e<k→pl.getD ((x+e) % pl.length) 0 ≠ 0∧stop (pl.getD ((x+e) % pl.length) 0)=false:=by
 obtain⟨d,h1,h2⟩:=h.free hl (x % pl.length);have:=ZQ (stop:=stop) pl.length (x % pl.length) d (Nat.mod_lt _ (by omega)) h1 h2;simpa using this
theorem Pl.insP {hs pl:List Nat} (h:Pl hs pl) (hl:hs.length<pl.length) (x:Nat):Pl (hs++[x]) (insP pl x (hs.length+1)):=by
 obtain⟨h1,h2,k,h3,h4⟩:=df (stop:=fun _=>false) (x:=x) h hl;refine h.ins h1 (h2.resolve_right (by simp)) h3 fun e he=>(h4 e he).1
theorem Pl.grow:∀ {hs2 hs pl:List Nat},Pl hs pl→hs.length+hs2.length≤pl.length→Pl (hs++hs2) (Yr pl hs.length hs2)
 |[],hs,pl,h,_=>by simpa[Yr] using h
 |x::hs2,hs,pl,h,hl=>by
  simp only[List.length_cons] at hl;have h1:=h.insP (by omega) x;have:=Pl.grow (hs2:=hs2) h1 (by simp;omega);rw[List.append_assoc] at this;simpa[Yr] using this
end Go.PL
namespace Go.Proofs.YtlaapfplenlfaaaGreat
open Go Go.G Go.Proofs Go.PL
structure Cl where
 l:List (List Int)
 r:Rf
 t:T
noncomputable def Cl.h (c:Cl):Int:=kP (Af c.t)
noncomputable def Cl.hn (c:Cl):Nat:=c.h.toNat
abbrev clL (h:Int) (l:List (List Int)) (r:Rf):List A:=uv h::paL l r
noncomputable def Cl.a (c:Cl):A:=.agg (clL c.h c.l c.r)
abbrev nv (n:Nat):A:=iv (n:Int)
structure Tb where
 u:Nat
 uc:Nat
 up:Nat
 cl:List Cl
 pl:List Nat
structure Tb.Ok (S:Tb):Prop where
 p8:8≤S.pl.length
 half:2*S.cl.length≤S.pl.length
 most:S.pl.length≤8+4*S.cl.length
 pl:Pl (S.cl.map Cl.hn) S.pl
 means:∀ c,c ∈ S.cl→Sg c.l∧Ys c.l c.r c.t
 nd:(S.cl.map fun c=>Af c.t).Nodup
noncomputable def Tb.ks (S:Tb):List T:=S.cl.map fun c=>Af c.t
@[simp] theorem Tb.ks_length (S:Tb):S.ks.length=S.cl.length:=by simp[Tb.ks]
theorem Tb.Ok.lt {S:Tb} (h:S.Ok):S.cl.length<S.pl.length:=by have:=h.p8;have:=h.half;omega
structure Tb.Ok1 (S:Tb):Prop where
 p8:8≤S.pl.length
 half:2*S.cl.length≤S.pl.length+2
 most:S.pl.length≤8+4*S.cl.length
 pl:Pl (S.cl.map Cl.hn) S.pl
 means:∀ c,c ∈ S.cl→Sg c.l∧Ys c.l c.r c.t
 nd:(S.cl.map fun c=>Af c.t).Nodup
theorem Tb.Ok1.ok {S:Tb} (h:S.Ok1) (hf:¬ S.pl.length<2*S.cl.length):S.Ok:=⟨h.p8,by omega,h.most,h.pl,h.means,h.nd⟩
variable {n0:Nat} {w0:World} {I0:Nat→Prop} {Q:Exit→Sta→Prop}
end Go.Proofs.YtlaapfplenlfaaaGreat
namespace Go.G
open Go.RowKit
theorem Sim.move {c:Cx} {w:World} {I:Nat→Prop} {μ:Mu} {H:Hp} (hs:Sim c w I μ H) {d d':Nm} (hne:d ≠ d') (h0:(H d').u=0) (h1:1≤(H d).u) (hM:∀ b,¬ c.M0 d b) (htg:∀ e,Cd d' e=true) :
  Ext I μ w I (Az μ d' (μ d)) w∧Sim c w I (Az μ d' (μ d)) (Az (Az H d' (H d)) d ⟨(H d).u,.none⟩):=by
 have hu0:(μ d').u=0:=by rw[hs.ver,h0]
 have hu1:1≤(μ d).u:=by rw[hs.ver];exact h1
 have hm:MuLe μ (Az μ d' (μ d)):=fun o=>by
  by_cases e:o=d'
  ·subst e;rw[Ce];exact⟨by omega,fun e=>by omega⟩
  ·rw[Ax e];exact⟨Ei _,fun _=>rfl⟩
 have hx:Ext I μ w I (Az μ d' (μ d)) w:=⟨fun b h=>h,fun b h=>rfl,hm⟩;have hd:(Az (Az H d' (H d)) d ⟨(H d).u,.none⟩:Hp) d=⟨(H d).u,.none⟩:=Ce;have hd':(Az (Az H d' (H d)) d ⟨(H d).u,.none⟩:Hp) d'=H d:=by rw[Ax (Ne.symm hne),Ce]
 have hoth:∀ o,o ≠ d→o ≠ d'→(Az (Az H d' (H d)) d ⟨(H d).u,.none⟩:Hp) o=H o:=fun o e1 e2=>by rw[Ax e1,Ax e2]
 -- who has a block has it in the old state,under an old name
 have old:∀ o,Dv (Az μ d' (μ d) o) ((Az (Az H d' (H d)) d ⟨(H d).u,.none⟩:Hp) o).ob=true→∃ p,Dv (μ p) (H p).ob=true∧(Az μ d' (μ d) o)=μ p∧(o=d'∧p=d∨o ≠ d'∧o ≠ d∧p=o):=fun o h=>by
  by_cases e1:o=d
  ·subst e1;rw[hd] at h;cases h
  ·by_cases e2:o=d'
   ·subst e2;rw[hd',Ce] at h;exact⟨d,h,Ce,.inl ⟨rfl,rfl⟩⟩
   ·rw[hoth o e1 e2,Ax e2] at h;exact⟨o,h,Ax e2,.inr ⟨e2,e1,rfl⟩⟩
 refine⟨hx,hs.kept,hs.lt,hs.old,hs.new,fun o=>?_,fun o=>?_,fun o o' k k' hoo=>?_,fun o k=>?_,hs.mle.trans hm,fun o k=>?_,hs.tab⟩
 ·by_cases e1:o=d
  ·subst e1;rw[hd,Ax hne];exact hs.ver o
  ·by_cases e2:o=d'
   ·subst e2;rw[hd',Ce];exact hs.ver d
   ·rw[hoth o e1 e2,Ax e2];exact hs.ver o
 ·by_cases e1:o=d
  ·subst e1;rw[hd];trivial
  ·by_cases e2:o=d'
   ·subst e2;rw[hd',Ce];exact OSim.keep hx (fun _=>rfl) (hs.ob d)
   ·rw[hoth o e1 e2,Ax e2];exact OSim.keep hx (fun _=>rfl) (hs.ob o)
 ·obtain⟨p,k1,k2,k3⟩:=old o k;obtain⟨p',g1,g2,g3⟩:=old o' k';rw[k2,g2];refine hs.apart p p' k1 g1 fun e=>hoo ?_;rcases k3 with ⟨a1,a2⟩ | ⟨a1,a2,a3⟩<;>rcases g3 with ⟨b1,b2⟩ | ⟨b1,b2,b3⟩
  ·rw[a1,b1]
  ·exact absurd (by rw[← b3,← e,a2]) b2
  ·exact absurd (by rw[← a3,e,b2]) a2
  ·rw[← a3,← b3,e]
 ·obtain⟨p,k1,k2,k3⟩:=old o k;rw[k2];obtain⟨q1,q2,q3⟩:=hs.own p k1;refine⟨q1,?_,q3⟩;rcases k3 with ⟨a1,a2⟩ | ⟨a1,a2,a3⟩
  ·subst a2;rcases q2 with h | h
   ·exact(hM _ h).elim
   ·exact .inr h
  ·subst a3;exact q2
 ·obtain⟨p,k1,k2,k3⟩:=old o k;rw[k2];rcases k3 with ⟨a1,a2⟩ | ⟨a1,a2,a3⟩
  ·rw[a1];exact htg _
  ·rw[← a3];exact hs.tag p k1
theorem Rm {c:Cx} {s:Nat→A} {H:Hp} (R:Nat→Prop) [DecidablePred R] (hM:∀ r p b,R r→¬ c.M0 (r::p) b) (t:Nat) (a:A) (hf:∀ H1:Hp,(∀ r p,R r→H1 (r::p)=H (r::p))→Gy H1 (s t) a) :
  ∃ H2:Hp,Le c ⟨s,H⟩ ⟨upd s t a,H2⟩∧∀ r p,¬ R r→H2 (r::p)=H (r::p):=by
 refine⟨fun o=>match o with | r::p=>if R r then ⟨(H (r::p)).u,.none⟩ else H (r::p) | []=>H [],S8 (H1:=fun o=>match o with | r::p=>if R r then H (r::p) else ⟨(H (r::p)).u,.none⟩ | []=>⟨(H []).u,.none⟩) (fun o b h=>?_) t a (fun o=>?_) (fun o=>?_) (fun o=>?_) (hf _ fun r p h=>if_pos h),fun r p h=>if_neg h⟩
 ·cases o with
  |nil=>exact absurd rfl h
  |cons r p=>
   by_cases hr:R r
   ·exact hM r p b hr
   ·exact absurd (by simp[hr]) h
 ·cases o with
  |nil=>exact .inr rfl
  |cons r p=>
   by_cases hr:R r
   ·exact .inl (by simp[hr])
   ·exact .inr (by simp[hr])
 ·cases o with
  |nil=>exact .inl rfl
  |cons r p=>
   by_cases hr:R r
   ·exact .inr (by simp[hr])
   ·exact .inl (by simp[hr])
 ·cases o with
  |nil=>exact .inl rfl
  |cons r p=>
   by_cases hr:R r
   ·exact .inr (by simp[hr])
   ·exact .inl (by simp[hr])
theorem HZ {c:Cx} {s:Nat→A} {H:Hp} (R:Nat→Prop) [DecidablePred R] (hM:∀ r p b,R r→¬ c.M0 (r::p) b) {r0:Nat} {p0:Nm} (hr0:¬ R r0) {u:Nat} {cs cs':List A} (hd:H (r0::p0)=⟨u,.cells cs⟩) (h1:A.ones cs'=true)
  (hf:∀ H1:Hp,(∀ r p,R r→H1 (r::p)=H (r::p))→Ic H1 cs cs') :
  ∃ H2:Hp,Le c ⟨s,H⟩ ⟨s,Az H2 (r0::p0) ⟨u,.cells cs'⟩⟩∧∀ r p,¬ R r→H2 (r::p)=H (r::p):=by
 refine⟨fun o=>match o with | r::p=>if R r then ⟨(H (r::p)).u,.none⟩ else H (r::p) | []=>H [],fun a w I μ hs=>?_,fun r p h=>if_neg h⟩;have part1:Part H (fun o=>match o with | r::p=>if R r then H (r::p) else ⟨(H (r::p)).u,.none⟩ | []=>⟨(H []).u,.none⟩):=fun o=>by
  cases o with
  |nil=>exact .inr rfl
  |cons r p=>
   by_cases hr:R r
   ·exact .inl (by simp[hr])
   ·exact .inr (by simp[hr])
 have part2:Part H (fun o=>match o with | r::p=>if R r then ⟨(H (r::p)).u,.none⟩ else H (r::p) | []=>H []):=fun o=>by
  cases o with
  |nil=>exact .inl rfl
  |cons r p=>
   by_cases hr:R r
   ·exact .inr (by simp[hr])
   ·exact .inl (by simp[hr])
 have h3:=hs.sim.freezeAll part1 part2 (fun o=>by
  cases o with
  |nil=>exact .inl rfl
  |cons r p=>
   by_cases hr:R r
   ·exact .inr (by simp[hr])
   ·exact .inl (by simp[hr])) (fun o b h=>by
  cases o with
  |nil=>exact absurd rfl h
  |cons r p=>
   by_cases hr:R r
   ·exact hM r p b hr
   ·exact absurd (by simp[hr]) h)
 have hd2:(fun o=>match o with | r::p=>if R r then (⟨(H (r::p)).u,.none⟩:VOb) else H (r::p) | []=>H []:Hp) (r0::p0)=⟨u,.cells cs⟩:=by
  show(if R r0 then _ else _)=_;rw[if_neg hr0,hd]
 have hob:=hs.sim.ob (r0::p0);have hob:OSim w I μ (μ (r0::p0)) (.cells cs):=by
  have e:(⟨s,H⟩:Sta).H (r0::p0)=⟨u,.cells cs⟩:=hd;rw[e] at hob;exact hob
 obtain⟨vs,k1,k2,k3⟩:=hob;obtain⟨hl,hg⟩:=Ia (hf (fun o=>match o with | r::p=>if R r then H (r::p) else ⟨(H (r::p)).u,.none⟩ | []=>⟨(H []).u,.none⟩) fun r p h=>if_pos h);have hB:Dv (μ (r0::p0)) ((fun o=>match o with | r::p=>if R r then (⟨(H (r::p)).u,.none⟩:VOb) else H (r::p) | []=>H []:Hp) (r0::p0)).ob=true:=by rw[hd2];rfl
 obtain⟨hx2,hs2⟩:=h3.upd (EP w none) (r0::p0) (μ (r0::p0)) (.cells cs') (.inl rfl) (.inr rfl) (fun _=>.inr ⟨hB,rfl⟩) (fun _=>h3.tag _ hB) (fun hx2=>by
  refine⟨vs,k1,by rw[k2,hl],fun k y hk=>?_⟩;rw[EX];obtain⟨x,hx,hfx⟩:=hg k y hk;simp only[A.ones,List.all_eq_true] at h1;exact⟨h1 y (List.mem_of_getElem? hk),(hfx c w I μ _ (hs.sim.part part1) (k3 k x hx).2).ofI⟩)
 have hu:(μ (r0::p0)).u=u:=by exact(h3.ver (r0::p0)).trans (congrArg VOb.u hd2)
 rw[hu] at hs2;exact⟨_,_,hs2,hs.size,hs.defers,fun t=>hx2.rel ((hs.rel t).mono0 (fun b h=>.inl h) (fun _ _=>rfl))⟩
theorem I4 {P:Program} {f:FuncId} {n:Nat} {rs:List ResultVar} {cc:CC} {as':Nat→List A} {F F':Fam} {x:Nat→A} (t:Ca P f n rs cc) (ha:(as' 0).length≤n) (h0:FamL as') (h1:Fq x)
  (h:∀ w0 I0 M0 m0,(∀ r p b,1≤r→¬ M0 (r::p) b)→WPC (HY P w0 I0 M0 n m0) cc (Lr (HY P w0 I0 M0 n m0) rs 1 (x 0) (ov 0 (F'.F 0) (Ga []))) ⟨Mw (as' 0),ov 0 (F.F 0) (Ga [])⟩):SpecF P f as' F x F':=
 ⟨h0,h1,K3 t ha fun w0 I0 M0 m0 hM=>h w0 I0 M0 m0 fun r p b hr=>hM (r::p) b (by
  simp only[AW];rw[if_neg (by omega)];rfl)⟩
end Go.G
namespace Go.Proofs.YtlaapfplenlfaaaGreat
open Go Go.G Go.Proofs Go.PL
abbrev z0:List A:=[iv 0,.sl true [],.sl true []]
end Go.Proofs.YtlaapfplenlfaaaGreat
namespace Go.PL
def D9 {α:Type} (p:α→Bool) (l:List α):List α:=(l.reverse.dropWhile p).reverse
theorem Q5 {α:Type} {p:α→Bool} (l:List α) (x:α):D9 p (l++[x])=if p x=true then D9 p l else l++[x]:=by
 unfold D9;rw[List.reverse_append,List.reverse_singleton,List.singleton_append,List.dropWhile_cons];split<;>simp
theorem YS {α:Type} {P:List α→Prop} (h0:P []) (h1:∀ l x,P l→P (l++[x])) (l:List α):P l:=by
 have:∀ m:List α,P m.reverse:=by
  intro m;induction m with
  |nil=>exact h0
  |cons x m ih=>rw[List.reverse_cons];exact h1 _ _ ih
 have:=this l.reverse
 rwa [List.reverse_reverse] at this
theorem Gq {α:Type} {p:α→Bool} {z:α} (l:List α):(∀ x,x ∈ l→p x=true→x=z)→∀ i,(D9 p l).getD i z=l.getD i z:=by
 refine YS (P:=fun l=>(∀ x,x ∈ l→p x=true→x=z)→∀ i,(D9 p l).getD i z=l.getD i z) (fun _ i=>rfl) (fun l x ih h i=>?_) l;rw[Q5];split
 ·rename_i hx;rw[ih (fun y hy=>h y (by simp[hy])) i];have:=h x (by simp) hx;subst this;simp only[List.getD_eq_getElem?_getD,List.getElem?_append];split
  ·rfl
  ·rw[List.getElem?_eq_none (by omega)];by_cases e:i-l.length=0
   ·simp[e]
   ·rw[List.getElem?_eq_none (by simp;omega)]
 ·rfl
theorem WM {α:Type} {p:α→Bool} {z:α} (l:List α):D9 p l ≠ []→p ((D9 p l).getD ((D9 p l).length-1) z)=false:=by
 refine YS (P:=fun l=>D9 p l ≠ []→p ((D9 p l).getD ((D9 p l).length-1) z)=false) (fun h=>absurd rfl h) (fun l x ih h=>?_) l;rw[Q5] at h ⊢;split
 ·rename_i hx;rw[if_pos hx] at h;exact ih h
 ·rename_i hx;simp at hx ⊢;exact hx
theorem Uu {α:Type} {p:α→Bool} {z:α} (hz:p z=true) {a b:List α} (ha:∀ x,x ∈ a→p x=true→x=z) (hb:∀ x,x ∈ b→p x=true→x=z):D9 p a=D9 p b ↔ ∀ i,a.getD i z=b.getD i z:=by
 constructor
 ·intro h i;rw[← Gq a ha,h,Gq b hb]
 ·intro h;have h':∀ i,(D9 p a).getD i z=(D9 p b).getD i z:=fun i=>by rw[Gq a ha,Gq b hb,h]
  have one:∀ c d:List α,(∀ i,(D9 p c).getD i z=(D9 p d).getD i z)→(D9 p c).length≤(D9 p d).length:=fun c d hcd=>by
   by_cases e:D9 p c=[]
   ·simp[e]
   ·have hl:=WM (z:=z) c e;have hpos:0<(D9 p c).length:=List.length_pos_iff.2 e;rw[hcd] at hl;refine Nat.le_of_not_lt fun hlt=>?_;rw[List.getD_eq_getElem?_getD,List.getElem?_eq_none (by omega)] at hl;simp[hz] at hl
  have hlen:(D9 p a).length=(D9 p b).length:=Nat.le_antisymm (one a b h') (one b a fun i=>(h' i).symm);apply List.ext_getElem hlen;intro i h1 h2;have:=h' i;simpa[List.getD_eq_getElem?_getD,h1,h2] using this
theorem T4 (l:List Int):CS l=D9 (fun x=>x == 0) l:=rfl
theorem Tm (l:List T):CD l=D9 (fun x=>x.kind == 0) l:=rfl
theorem fN {a b:List Int}:CS a=CS b ↔ ∀ i,a.getD i 0=b.getD i 0:=by
 rw[T4,T4];exact Uu rfl (fun x _ h=>by simpa using h) (fun x _ h=>by simpa using h)
theorem H5 {t:T} (h:t.kind=0):Af t=T0:=by cases t;simp at h;rw[ER,if_pos h]
theorem MY:Af T0=T0:=H5 rfl
theorem ES (l:List T) (i:Nat):(l.map Af).getD i T0=Af (l.getD i T0):=by
 simp only[List.getD_eq_getElem?_getD,List.getElem?_map];cases l[i]? with
 |none=>simp[MY]
 |some x=>rfl
theorem eJ {a b:List T}:CD (a.map Af)=CD (b.map Af) ↔ ∀ i,Af (a.getD i T0)=Af (b.getD i T0):=by
 have hz:∀ c:List T,∀ x,x ∈ c.map Af→(x.kind == 0)=true→x=T0:=fun c x hx h0=>by
  obtain⟨y,_,rfl⟩:=List.mem_map.1 hx;simp at h0;exact H5 h0
 rw[Tm,Tm,Uu (z:=T0) rfl (hz a) (hz b)];constructor
 ·intro h i;rw[← ES,← ES];exact h i
 ·intro h i;rw[ES,ES];exact h i
theorem struct_eq {w w':List Int} {a b:List T}:Af (.mk 1 w a)=Af (.mk 1 w' b) ↔ (∀ i,w.getD i 0=w'.getD i 0)∧∀ i,Af (a.getD i T0)=Af (b.getD i T0):=by
 rw[ER,ER];simp only[if_neg (show ¬ (1:Int)=0 by decide),if_true,T.mk.injEq,true_and];rw[fN,eJ]
theorem Jb {k:Int} {w w':List Int} {a b:List T} (h0:k ≠ 0) (h1:k ≠ 1):Af (.mk k w a)=Af (.mk k w' b) ↔ w=w'∧a.map Af=b.map Af:=by
 rw[ER,ER];simp[h0,h1]
theorem Dr:∀ t,Af (Af t)=Af t:=by
 refine T.ind fun k w ks ih=>?_;have hm:(ks.map Af).map Af=ks.map Af:=by
  rw[List.map_map];exact List.map_congr_left fun x hx=>ih x hx
 rw[ER];split
 ·exact MY
 ·rename_i h0;split
  ·rename_i h1;subst h1;rw[struct_eq (w':=w) (b:=ks) |>.2 ⟨fun i=>?_,fun i=>?_⟩,ER]
   ·simp
   ·rw[T4];exact Gq w (fun x _ h=>by simpa using h) i
   ·have hz:∀ x,x ∈ ks.map Af→(x.kind == 0)=true→x=T0:=fun x hx h0=>by
     obtain⟨y,_,rfl⟩:=List.mem_map.1 hx;simp at h0;exact H5 h0
    rw[Tm,Gq _ hz i,← ES,hm,ES]
  ·rename_i h1;rw[ER,if_neg h0,if_neg h1,hm]
end Go.PL
namespace Go.Proofs.YtlaapfplenlfaaaGreat
open Go Go.G Go.Proofs Go.PL
theorem SJ {a b:List T} (hl:a.length=b.length):a.map Af=b.map Af ↔ ∀ i,Af (a.getD i T0)=Af (b.getD i T0):=by
 constructor
 ·intro h i;rw[← ES,h,ES]
 ·intro h;apply List.ext_getElem (by simpa using hl);intro i h1 h2;have:=h i;simp at h1 h2;simpa[List.getD_eq_getElem?_getD,h1,h2] using this
variable {n0:Nat} {w0:World} {I0:Nat→Prop} {Q:Exit→Sta→Prop}
def TR:Nat→Nat→Nat→Nat→Nat
 |0,_,_,_=>0
 |k+1,a,b,m=>(if m % 2=1 then b % 256 else a % 256)+256*TR k (a / 256) (b / 256) (m / 2)
def Da:Nat→Nat→Nat
 |0,_=>0
 |k+1,m=>(if m % 2=1 then 255 else 0)+256*Da k (m / 2)
theorem Qe:∀ k m,Da k m<256 ^ k
 |0,m=>by simp[Da]
 |k+1,m=>by
  have:=Qe k (m / 2);simp only[Da,Nat.pow_succ];split<;>omega
theorem Tc:∀ k a b m,a<256 ^ k→b<256 ^ k→(a &&& (256 ^ k-1-Da k m)) ||| (b &&& Da k m)=TR k a b m
 |0,a,b,m,ha,hb=>by
  simp at ha hb;subst ha hb;simp[TR,Da]
 |k+1,a,b,m,ha,hb=>by
  have hw:=Qe k (m / 2);rw[Nat.pow_succ] at ha hb;have ih:=Tc k (a / 256) (b / 256) (m / 2) (by omega) (by omega);have p0:0<256 ^ k:=Nat.pow_pos (by decide);generalize hx:(a &&& (256 ^ (k+1)-1-Da (k+1) m)) ||| (b &&& Da (k+1) m)=x;have d1:Da (k+1) m / 256=Da k (m / 2):=by simp only[Da];split<;>omega
  have d2:(256 ^ (k+1)-1-Da (k+1) m) / 256=256 ^ k-1-Da k (m / 2):=by simp only[Da,Nat.pow_succ];split<;>omega
  have m1:Da (k+1) m % 256=if m % 2=1 then 255 else 0:=by simp only[Da];split<;>omega
  have m2:(256 ^ (k+1)-1-Da (k+1) m) % 256=if m % 2=1 then 0 else 255:=by simp only[Da,Nat.pow_succ];split<;>omega
  have e1:x / 256=TR k (a / 256) (b / 256) (m / 2):=by
   have q1:=@Nat.or_div_two_pow (a &&& (256 ^ (k+1)-1-Da (k+1) m)) (b &&& Da (k+1) m) 8;have q2:=@Nat.and_div_two_pow a (256 ^ (k+1)-1-Da (k+1) m) 8;have q3:=@Nat.and_div_two_pow b (Da (k+1) m) 8;have c:(2:Nat) ^ 8=256:=rfl;rw[q2,q3,c,d1,d2,hx] at q1;rw[q1,ih]
  have e2:x % 256=if m % 2=1 then b % 256 else a % 256:=by
   have h:x % 2 ^ 8=(a % 2 ^ 8 &&& (256 ^ (k+1)-1-Da (k+1) m) % 2 ^ 8) ||| (b % 2 ^ 8 &&& Da (k+1) m % 2 ^ 8):=by
    rw[← hx,Nat.or_mod_two_pow,Nat.and_mod_two_pow,Nat.and_mod_two_pow]
   have c:(2:Nat) ^ 8=256:=rfl;rw[c,m1,m2] at h;rw[h];have h255:(255:Nat)=2 ^ 8-1:=rfl;split
   ·rw[h255,Nat.and_two_pow_sub_one_eq_mod];simp
   ·rw[h255,Nat.and_two_pow_sub_one_eq_mod];simp
  simp only[TR];omega
theorem Vo:∀ (k:Nat) (a b mask:Int),0≤a→0≤b→0≤mask→OA ((List.range k).map fun i=>if Cq mask i=true then (BH k b).getD i 0 else (BH k a).getD i 0)=(TR k a.toNat b.toNat mask.toNat:Nat)
 |0,a,b,mask,_,_,_=>by simp[OA,TR]
 |k+1,a,b,mask,ha,hb,hm=>by
  have ih:=Vo k (a / 256) (b / 256) (mask / 2) (by omega) (by omega) (by omega);have e1:(a / 256).toNat=a.toNat / 256:=by omega
  have e2:(b / 256).toNat=b.toNat / 256:=by omega
  have e3:(mask / 2).toNat=mask.toNat / 2:=by omega
  rw[e1,e2,e3] at ih;rw[List.range_succ_eq_map,List.map_cons,List.map_map,OA];have h:(List.range k).map ((fun i=>if Cq mask i=true then (BH (k+1) b).getD i 0 else (BH (k+1) a).getD i 0) ∘ Nat.succ)=(List.range k).map fun i=>if Cq (mask / 2) i=true then (BH k (b / 256)).getD i 0 else (BH k (a / 256)).getD i 0:=by
   refine List.map_congr_left fun i _=>?_;have hn:Cq mask (i+1)=Cq (mask / 2) i:=by
    unfold Cq;have:mask / 2 ^ (i+1)=mask / 2 / 2 ^ i:=by
     rw[Int.ediv_ediv_of_nonneg (by decide),Int.pow_succ,Int.mul_comm]
    rw[this]
   simp[BH,hn]
  rw[h,ih];have h0:(Cq mask 0=true)=(mask.toNat % 2=1):=by
   simp[Cq];omega
  simp only[h0,TR,BH,List.getD_cons_zero];split<;>omega
theorem cu {a b mask:Int} (ha:AA a) (hb:AA b) (h0:0≤mask):AM a b mask=(TR 8 a.toNat b.toNat mask.toNat:Nat):=by
 rw[← Vo 8 a b mask ha.1 hb.1 h0];unfold AM Gc Ap;rw[List.drop_eq_nil_of_le (by simp),List.append_nil]
def wS (mask:Int):Nat→Int
 |0=>0
 |i+1=>if bits .and .u8 (mask / 2 ^ min i 8) 1=1 then bits .or .u64 (wS mask i) (u64.wrap (255*2 ^ min (8*i) 64)) else wS mask i
theorem oW:∀ m:Nat,m<256→wS m 8=(Da 8 m:Nat):=by decide +kernel
theorem Zs {mask:Int} (hq:∀ q,Q (.exit 0) ⟨lk [(0,u8 mask),(3,uv (wS mask 8)),(5,iv 8),(6,bv q)],Ga []⟩) :
  ∀ (j i:Nat),i+j=8→LoopC (cx Tryz.prog w0 I0 n0) Hm Q ⟨lk [(0,u8 mask),(3,uv (wS mask i)),(5,iv i)],Ga []⟩:=by
 intro j;induction j with
 |zero=>
  intro i hi;have:i=8:=by omega
  subst this;refine Ab Aj Hm.eq_1 ?_;simp;exact hq _
 |succ j ih=>
  intro i hi;refine Ab Aj Hm.eq_1 ?_;have hlt:i<8:=by omega
  have hlt2:(i:Int)<8:=by omega
  have e8:i64.wrap (8*(i:Int))=((8*i:Nat):Int):=(A4 (by omega) (by omega)).trans (by omega);have ei:=AI i;have b8:IntKind.u8.bits=8:=rfl;have b64:u64.bits=64:=rfl;have hs:=ih (i+1) (by omega);rw[wS] at hs;have e9:(8*(i:Int)).toNat=8*i:=by omega
  simp[hlt,hlt2,e8,ei,b8,b64,e9];refine⟨fun hc=>⟨by omega,?_⟩,fun hc=>?_⟩
  ·rw[if_pos hc] at hs;exact hs
  ·rw[if_neg hc] at hs;exact hs
theorem Qm {mask:Int} (h0:0≤mask) (h1:mask<256):G.Spec Tryz.prog 163 [u8 mask] (uv (Da 8 mask.toNat:Nat)):=by
 refine Ag VU (by simp) fun w0 I0=>?_;unfold OZ;simp;obtain⟨m,rfl⟩:=Int.eq_ofNat_of_zero_le h0;refine Zs (fun q=>?_) 8 0 rfl;simp;rw[oW m (by omega)];exact Ad rfl
theorem N7 {x:Nat} (h:x<2 ^ 64):(BitVec.ofInt 64 (x:Int)).toNat=x:=by
 rw[BitVec.toNat_ofInt];omega
theorem mZ {x y:Nat} (hx:x<2 ^ 64) (hy:y<2 ^ 64):bits .and .u64 x y=(x &&& y:Nat):=by
 have h:=Nat.lt_of_le_of_lt (Nat.and_le_left (n:=x) (m:=y)) hx;show u64.wrap ((BitVec.ofInt 64 x &&& BitVec.ofInt 64 y).toNat:Nat)=_;rw[BitVec.toNat_and,N7 hx,N7 hy];exact GL (by omega) (by omega)
theorem tj {x y:Nat} (hx:x<2 ^ 64) (hy:y<2 ^ 64):bits .or .u64 x y=(x ||| y:Nat):=by
 have h:=Nat.or_lt_two_pow hx hy;show u64.wrap ((BitVec.ofInt 64 x ||| BitVec.ofInt 64 y).toNat:Nat)=_;rw[BitVec.toNat_or,N7 hx,N7 hy];exact GL (by omega) (by omega)
theorem iX {x y:Nat} (hx:x<2 ^ 64) (hy:y<2 ^ 64):bits .andNot .u64 x y=(x &&& (256 ^ 8-1-y):Nat):=by
 have h:=Nat.lt_of_le_of_lt (Nat.and_le_left (n:=x) (m:=256 ^ 8-1-y)) hx;show u64.wrap ((BitVec.ofInt 64 x &&& ~~~ BitVec.ofInt 64 y).toNat:Nat)=_;rw[BitVec.toNat_and,BitVec.toNat_not,N7 hx,N7 hy];have e:(2:Nat) ^ 64-1-y=256 ^ 8-1-y:=rfl;rw[e];exact GL (by omega) (by omega)
theorem Dp {a b mask:Int} (ha:AA a) (hb:AA b) (h0:0≤mask) (h1:mask<256):G.Spec Tryz.prog 125 [uv a,uv b,u8 mask] (uv (AM a b mask)):=by
 refine Ag XP (by simp) fun w0 I0=>?_;unfold Rn;simp;refine Ae (Qm h0 h1) (by simp) ?_;simp;refine Ae (Qm h0 h1) (by simp) ?_;simp;refine T7 ?_;rw[cu ha hb h0];obtain⟨x,rfl⟩:=Int.eq_ofNat_of_zero_le ha.1;obtain⟨y,rfl⟩:=Int.eq_ofNat_of_zero_le hb.1;have hx:x<2 ^ 64:=by have:=ha.2;omega
 have hy:y<2 ^ 64:=by have:=hb.2;omega
 have hw:Da 8 mask.toNat<2 ^ 64:=Qe 8 _;rw[iX hx hw,mZ hy hw,tj (Nat.lt_of_le_of_lt Nat.and_le_left hx) (Nat.lt_of_le_of_lt Nat.and_le_left hy)];have:=Tc 8 x y mask.toNat hx hy;simp only[Int.toNat_natCast];rw[← this]
theorem dZ {t:T} (hl:t.kids.length*56≤140737488355328) (ih:∀ c,c ∈ t.kids→G.Spec Tryz.prog 35 [tX c] (tX (Af c))) {v v0:VOb} {k w:A}:∀ (m i:Nat) (u:Nat) (H:Hp),i+m=t.kids.length→H [0]=v0→H [1]=v→H [2]=⟨1,.cells [k,w,.osl [4] u 3 0 i]⟩→H [4]=⟨u,.arr 3 ((t.kids.take i).map (tA ∘ Af))⟩ →
  (∀ i' q (u':Nat) (H':Hp),H' [0]=v0→H' [1]=v→H' [2]=⟨1,.cells [k,w,.osl [4] u' 3 0 t.kids.length]⟩→H' [4]=⟨u',.arr 3 (t.kids.map (tA ∘ Af))⟩→Q (.exit 0) ⟨lk [(1,.pob [0] 1 0),(2,.pob [1] 1 0),(3,.pob [2] 1 0),(17,Bx t.kids),(18,iv t.kids.length),(19,iv i'),(20,bv q)],H'⟩) →
  LoopC (cx Tryz.prog w0 I0 n0) Hs Q ⟨lk [(1,.pob [0] 1 0),(2,.pob [1] 1 0),(3,.pob [2] 1 0),(17,Bx t.kids),(18,iv t.kids.length),(19,iv i)],H⟩:=by
 intro m;induction m with
 |zero=>
  intro i u H hi hA hR hO hB hq;have:i=t.kids.length:=by omega
  subst this;refine Ab Aj Hs.eq_1 ?_;simp;exact hq _ _ u H hA hR hO (by rw[hB];simp)
 |succ m ihm=>
  intro i u H hi hA hR hO hB hq;have hlt:i<t.kids.length:=by omega
  have ei:=AI i;refine Ab Aj Hs.eq_1 ?_;simp[hlt,Aa,hO];refine Ae (ih _ (BD hlt)) rfl ?_;simp[Aa,hO,hB];have hrow:=VT (f:=tA ∘ Af) hlt (x:=tX (Af t.kids[i])) (by simp);rw[hrow,ei];refine⟨⟨by omega,by omega⟩,?_⟩;exact ihm (i+1) (u+1) _ (by omega) (by simp[Aa,hA]) (by simp[Aa,hR]) (by simp[Aa]) (by simp[Aa]) hq
theorem dh {w:List Int} (hl:w.length*8≤140737488355328) {v v4:VOb} {K:A}:∀ (n:Nat) (H:Hp),n≤w.length→CS (w.take n)=CS w→H [1]=v→H [2]=⟨1,.cells [iv 1,CQ (w.take n),K]⟩→H [4]=v4 →
  (∀ q (H':Hp),H' [1]=v→H' [2]=⟨1,.cells [iv 1,CQ (CS w),K]⟩→H' [4]=v4→Q (.exit 2) ⟨lk [(2,.pob [1] 1 0),(3,.pob [2] 1 0),(48,bv q)],H'⟩) →
  LoopC (cx Tryz.prog w0 I0 n0) Hg Q ⟨lk [(2,.pob [1] 1 0),(3,.pob [2] 1 0)],H⟩:=by
 intro n;induction n with
 |zero=>
  intro H hn ht hR hO hB hq;refine Ab Aj Hg.eq_1 ?_;simp[hO];refine hq _ H hR ?_ hB;rw[← ht];simpa using hO
 |succ n ihn=>
  intro H hn ht hR hO hB hq;have hlt:n<w.length:=by omega
  have en:i64.wrap (n:Int)=n:=Hl;have emin:min (n+1) w.length=n+1:=by omega
  refine Ab Aj Hg.eq_1 ?_;by_cases h0:w[n]=0
  ·have hnn:(n:Int)<n+1:=by omega
   have hnn':(n:Int)≤n+1:=by omega
   have hs:List.take n (List.take (n+1) (List.map uv w))=(w.take n).map uv:=by rw[List.take_take,Nat.min_eq_left (by omega),List.map_take]
   simp[hO,emin,en,hlt,h0,hnn,hnn',hs];exact ihn _ (by omega) (by rw[← QE hlt h0];exact ht) (by simp[Aa,hR]) (by simp[Aa]) (by simp[Aa,hB]) hq
  ·have hnn:(n:Int)<n+1:=by omega
   simp[hO,emin,en,hlt,h0,hnn];refine hq _ H hR ?_ hB;rw[hO,← ht,Qd hlt h0]
theorem dx {l:List T} (hl:l.length*56≤140737488355328) {v:VOb} {W:A} {u:Nat}:∀ (n:Nat) (H:Hp),n≤l.length→CD (l.take n)=CD l→H [1]=v→H [2]=⟨1,.cells [iv 1,W,.osl [4] u 3 0 n]⟩→H [4]=⟨u,.arr 3 (l.map (tA ∘ Af))⟩ →
  (∀ q (H':Hp),H' [1]=v→H' [2]=⟨1,.cells [iv 1,W,.osl [4] u 3 0 (CD l).length]⟩→H' [4]=⟨u,.arr 3 (l.map (tA ∘ Af))⟩→Q (.exit 4) ⟨lk [(2,.pob [1] 1 0),(3,.pob [2] 1 0),(72,bv q)],H'⟩) →
  LoopC (cx Tryz.prog w0 I0 n0) Ho Q ⟨lk [(2,.pob [1] 1 0),(3,.pob [2] 1 0)],H⟩:=by
 intro n;induction n with
 |zero=>
  intro H hn ht hR hO hB hq;refine Ab Aj Ho.eq_1 ?_;simp[hO];refine hq _ H hR ?_ hB;rw[← ht];simpa using hO
 |succ n ihn=>
  intro H hn ht hR hO hB hq;have hlt:n<l.length:=by omega
  have en:i64.wrap (n:Int)=n:=Hl;have hnn:(n:Int)<n+1:=by omega
  have hnn':(n:Int)≤n+1:=by omega
  refine Ab Aj Ho.eq_1 ?_;by_cases h0:l[n].kind=0
  ·simp[hO,hB,en,hlt,h0,hnn,hnn'];exact ihn _ (by omega) (by rw[← Rk hlt h0];exact ht) (by simp[Aa,hR]) (by simp[Aa]) (by simp[Aa,hB]) hq
  ·simp[hO,hB,en,hlt,h0,hnn];refine hq _ H hR ?_ hB;rw[hO,← ht,QJ hlt h0];simp;omega
theorem CB:∀ (t:T),AD t→G.Spec Tryz.prog 35 [tX t] (tX (Af t)):=by
 refine T.ind fun k w l ih hw=>?_;have hw':=wfT_iff.1 hw;have hwl:=hw'.wl;have hkl:=hw'.kl;simp at hwl hkl;refine Ag Wg (by simp) fun w0 I0=>?_;unfold O4;rw[ER];by_cases h0:k=0
 ·simp[h0];exact fU
 ·simp[h0];refine Ae (WD false w hwl).spec rfl ?_;simp;refine LoopC.le (Bc (d:=[2]) 2 [4] 3 rfl rfl (by simp)) ?_;simp;refine dZ (t:=.mk k w l) (k:=iv k) (w:=CQ w) (by simpa using hkl) (fun c hc=>ih c hc (hw'.ks c hc)) l.length 0 1 _ (by simp) rfl rfl (by simp) (by simp) fun i' q u' H' hA hR hO hB=>?_;by_cases h1:k=1
  ·subst h1;simp at hA hR hO hB;simp[hA,hR,hO,hB];refine LoopC.le (Ay [(2,.pob [1] 1 0),(3,.pob [2] 1 0)] (by simp)) ?_;refine dh hwl w.length _ (Ei _) (by rw[AN (Ei _)]) hR (by rw[hO,AN (Ei _)]) hB fun q H2 hR2 hO2 hB2=>?_;simp;refine dx hkl l.length _ (Ei _) (by rw[AN (Ei _)]) hR2 hO2 hB2 fun q H3 hR3 hO3 hB3=>?_;simp[hO3,hR3,Aa];refine AE ?_;simp;rw[Sr];refine⟨Ad rfl,Ad rfl,?_⟩;have:=VK (H:=Az H3 [1] ⟨1,.cells [iv 1,CQ (CS w),A.osl [4] u' 3 0 (CD l).length]⟩) (o:=[4]) (u:=u') (sz:=3) (l:=l) (f:=tA ∘ Af) (by simp[Aa,hB3]) (MH l) (by simp);rw[← List.map_take];show Gy _ _ (A.sl false (((l.take (CD l).length).map Af).map tA));rw[List.map_map];exact this
  ·simp at hA hR hO hB;simp[hA,hR,hO,hB,h1,Aa];refine AE ?_;simp;refine⟨Ad rfl,Ad rfl,?_⟩;have:=A3 (H:=Az H' [1] ⟨1,.cells [iv k,CQ w,A.osl [4] u' 3 0 l.length]⟩) (o:=[4]) (u:=u') (sz:=3) (l:=l) (f:=tA ∘ Af) (by simp[Aa,hB]) rfl (by simp);show Gy _ _ (A.sl false ((l.map Af).map tA));rw[List.map_map];exact this
theorem Z8 (t:T) (hw:t.words.length*8≤140737488355328) (hk:t.kids.length*56≤140737488355328):G.Spec Tryz.prog 50 [tX t] (bv (ED t)):=by
 refine Ag ML (by simp) fun w0 I0=>?_;unfold IC;simp;have e:i64.wrap ((t.words.length:Int)+t.kids.length)=(t.words.length:Int)+t.kids.length:=Hl;simp[e];refine Aq ?_;rw[Bool.eq_iff_iff];simp[ED,List.isEmpty_iff,← List.length_eq_zero_iff];omega
theorem Gs {t:T} (h:AD t):G.Spec Tryz.prog 50 [tX t] (bv (ED t)):=Z8 t (wfT_iff.1 h).wl (wfT_iff.1 h).kl
theorem JN:∀ (m:Nat) (x:Int) (i:Nat),i<m→(BH m x).getD i 0=x / 256 ^ i % 256
 |m+1,x,0,_=>by simp[BH]
 |m+1,x,i+1,h=>by
  have:=JN m (x / 256) i (by omega);simp only[BH,List.getD_cons_succ,this];rw[Int.ediv_ediv_of_nonneg (by decide),← Int.pow_succ']
theorem V7:∀ (l:List Int),(∀ b,b ∈ l→0≤b∧b<256)→(OA l=0 ↔ ∀ b,b ∈ l→b=0)
 |[],_=>by simp[OA]
 |b::l,h=>by
  have h1:=h b (by simp);have h2:=Jh l fun x hx=>h x (by simp[hx]);have ih:=V7 l fun x hx=>h x (by simp[hx]);simp only[OA,List.mem_cons,forall_eq_or_imp,← ih];omega
theorem dg (w mask:Int):decide (AM w 0 mask=0)=FW w mask:=by
 rw[Bool.eq_iff_iff];unfold AM;rw[decide_eq_true_eq,V7 _ JK];have e:Gc (Ap w) (Ap 0) mask 8=(List.range 8).map fun i=>if Cq mask i=true then (Ap 0).getD i 0 else (Ap w).getD i 0:=by
  unfold Gc;rw[List.drop_of_length_le (by rw[AZ];omega),List.append_nil]
 rw[e];simp only[FW,List.all_eq_true,List.mem_map,List.mem_range,Bool.or_eq_true,decide_eq_true_eq];have hz:∀ i,i<8→(Ap 0).getD i 0=0:=fun i hi=>by
  unfold Ap;rw[JN 8 0 i hi];simp
 constructor
 ·intro h i hi;by_cases hn:Cq mask i=true
  ·left;simpa[Cq] using hn
  ·right;have:=h _ ⟨i,hi,rfl⟩;rw[if_neg hn] at this;unfold Ap at this
   rwa [JN 8 w i hi] at this
 ·rintro h b ⟨i,hi,rfl⟩;by_cases hn:Cq mask i=true
  ·rw[if_pos hn];exact hz i hi
  ·rw[if_neg hn];rcases h i hi with h | h
   ·exact absurd (by simpa[Cq] using h) hn
   ·unfold Ap;rw[JN 8 w i hi];exact h
theorem Ni {w mask:Int} (h:AA w) (h0:0≤mask) (h1:mask<256):G.Spec Tryz.prog 51 [uv w,u8 mask] (bv (FW w mask)):=by
 refine Ag Lz (by simp) fun w0 I0=>?_;unfold G8;simp;refine Ae (Fs h ⟨by omega,by omega⟩ h0 h1) rfl ?_;simp;exact Aq (dg w mask)
set_option maxRecDepth 8000 in
theorem R1 {e:E} (h:WfE e):G.Spec Tryz.prog 82 [eX e] (bv (Kt e)):=by
 have hwl:=h.wl;have hkl:=h.kl;have hol:=h.ol;refine Ag MX (by simp) fun w0 I0=>?_;unfold IG;simp;refine AP rfl (fun _=>Gs h.o) (fun e=>by simp[e]) rfl ?_;simp;refine AP rfl (fun _=>Gs h.n) (fun e=>by simp at e;simp[e]) rfl ?_;have e1:i64.wrap ((e.words.length:Int)+e.kids.length)=(e.words.length:Int)+e.kids.length:=Hl;have e2:i64.wrap ((e.words.length:Int)+e.kids.length+e.ops.length)=(e.words.length:Int)+e.kids.length+e.ops.length:=Hl;simp[e1,e2];refine Aq ?_;rw[Bool.eq_iff_iff];simp[Kt,List.isEmpty_iff,← List.length_eq_zero_iff];omega
theorem S7 {n:Int} (h:0≤n):0≤Lk n∧Lk n≤1048576:=by unfold Lk;split<;>omega
theorem WR {Q':Exit→Sta→Prop} {p i:A} {x y:Int} {H:Hp} (h:∀ l,Q' .normal ⟨lk ((1,p)::(4,iv (Lk x))::(5,iv (Lk y))::(6,i)::l),H⟩):WPC (cx Tryz.prog w0 I0 n0) Em Q' ⟨lk [(1,p),(4,iv x),(5,iv y),(6,i)],H⟩:=by
 rw[Em.eq_1];have h0:=h [];have h1:=h [(45,bv false)];by_cases hx:1048576<x<;>by_cases hy:1048576<y<;>simp[hx,hy]<;>first
  |(simpa[Lk,hx,hy] using h0)
  |(simpa[Lk,hx,hy] using h1)
theorem fJ {Q':Exit→Sta→Prop} {p i:A} {a b z:Int} {H:Hp} {o:OP} {u:Nat} (hz:z=B4 o) (a0:0≤a) (a1:a≤1048576) (b0:0≤b) (b1:b≤1048576) (z0:0≤z) (z1:z<100000000000000) (hO:H [1]=⟨u,.cells (iv o.kind::iv o.n::Bx o.l::eL o.e)⟩)
  (h:∀ l,Q' .normal ⟨lk ((1,p)::(4,iv (Lk (if o.kind ≠ 2 then a+B4 o else a)))::(5,iv (Lk (if o.kind ≠ 1 then b+B4 o else b)))::(6,i)::l),H⟩):WPC (cx Tryz.prog w0 I0 n0) Ej Q' ⟨lk [(1,p),(4,iv a),(5,iv b),(6,i),(7,.pob [1] u 0),(8,iv z)],H⟩:=by
 subst hz;rw[Ej.eq_1];have ea:i64.wrap (a+B4 o)=a+B4 o:=Hl;have eb:i64.wrap (b+B4 o)=b+B4 o:=Hl;by_cases h2:o.kind=2
 ·simp[hO,h2];rw[CM.eq_1];simp[hO,h2,eb];refine WR fun l=>?_;simpa[h2] using h l
 ·by_cases h1:o.kind=1
  ·simp[hO,h1,ea];rw[CM.eq_1];simp[hO,h1];refine WR fun l=>?_;simpa[h1] using h l
  ·simp[hO,h2,ea];rw[CM.eq_1];simp[hO,h1,eb];refine WR fun l=>?_;simpa[h1,h2] using h l
theorem Wo {e:E} (hl:e.ops.length*240≤140737488355328) (ho:∀ x,x ∈ e.ops→0≤x.n∧x.n≤1048576∧x.l.length*56≤140737488355328):∀ (m i:Nat) (a b:Int) (H:Hp),i+m=e.ops.length→H [0]=⟨1,.cells (eL e)⟩→0≤a→a≤1048576→0≤b→b≤1048576 →
  (∀ i' q H',Q (.exit 0) ⟨lk [(1,.pob [0] 1 0),(4,iv (AB a b (e.ops.drop i)).1),(5,iv (AB a b (e.ops.drop i)).2),(6,iv i'),(13,bv q)],H'⟩) →
  LoopC (cx Tryz.prog w0 I0 n0) B5 Q ⟨lk [(1,.pob [0] 1 0),(4,iv a),(5,iv b),(6,iv i)],H⟩:=by
 intro m;induction m with
 |zero=>
  intro i a b H hi hA a0 a1 b0 b1 hq;have:i=e.ops.length:=by omega
  subst this;refine Ab Aj B5.eq_1 ?_;simp[hA];simpa[AB] using hq e.ops.length false H
 |succ m ih=>
  intro i a b H hi hA a0 a1 b0 b1 hq;have hlt:i<e.ops.length:=by omega
  have ed:e.ops.drop i=e.ops[i]::e.ops.drop (i+1):=List.drop_eq_getElem_cons hlt;have ei:=AI i;obtain⟨n1,n2,n3⟩:=ho _ (BD hlt);rw[ed] at hq;generalize ho':e.ops[i]=o at *;have h0:0≤B4 o∧B4 o<100000000000000:=by unfold B4;split<;>omega
  have next:∀ (a' b':Int) H',H' [0]=⟨1,.cells (eL e)⟩→a'=Lk (if o.kind ≠ 2 then a+B4 o else a)→b'=Lk (if o.kind ≠ 1 then b+B4 o else b)→LoopC (cx Tryz.prog w0 I0 n0) B5 Q ⟨lk [(1,.pob [0] 1 0),(4,iv a'),(5,iv b'),(6,iv ((i+1:Nat):Int))],H'⟩:=fun a' b' H' hA' ha hb=>by
   have s1:=S7 (n:=if o.kind ≠ 2 then a+B4 o else a) (by split<;>omega);have s2:=S7 (n:=if o.kind ≠ 1 then b+B4 o else b) (by split<;>omega);refine ih (i+1) a' b' H' (by omega) hA' (by omega) (by omega) (by omega) (by omega) fun i' q H2=>?_;have:=hq i' q H2;rw[AB,← ha,← hb] at this;exact this
  refine Ab Aj B5.eq_1 ?_;have e1:i64.wrap (o.n+(o.l.length:Int))=o.n+o.l.length:=Hl;simp[hlt,hA,ho',Aa,e1];refine⟨fun h3=>?_,fun h3=>?_⟩
  ·refine fJ (o:=o) (u:=(H [1]).u+1) (z:=1) (by simp[B4,h3]) (by omega) (by omega) (by omega) (by omega) (by omega) (by omega) (by simp[Aa]) fun l=>?_;simp[ei];exact next _ _ _ (by simp[Aa,hA]) (by simp) (by simp)
  ·refine fJ (o:=o) (u:=(H [1]).u+1) (z:=o.n+o.l.length) (by simp[B4,h3]) (by omega) (by omega) (by omega) (by omega) (by omega) (by omega) (by simp[Aa]) fun l=>?_;simp[ei];exact next _ _ _ (by simp[Aa,hA]) (by simp) (by simp)
theorem Gz {e:E} (hl:e.ops.length*240≤140737488355328) (ho:∀ x,x ∈ e.ops→0≤x.n∧x.n≤1048576∧x.l.length*56≤140737488355328):G.Spec Tryz.prog 53 [eX e] (.tup [iv (AB 0 0 e.ops).1,iv (AB 0 0 e.ops).2]):=by
 refine Ag KJ (by simp) fun w0 I0=>?_;unfold GM;simp;refine Wo hl ho e.ops.length 0 0 0 _ (by omega) (by simp) (by omega) (by omega) (by omega) (by omega) fun i' q H'=>?_;simp;exact Ad rfl
abbrev cQ (e:E):Prop:=∀ (d:Nat) (n:Int),d≤1000→0≤n→n≤1000000→G.Spec Tryz.prog 49 [eX e,iv d,iv n] (iv (CT d n e))
mutual
theorem Iz:∀ (e:E) (d:Nat) (n:Int),-1≤CT d n e∧(-1≤n→CT d n e≤n)
 |.mk k o nn ws ks l os,d,n=>by
  rw[NA];split
  ·omega
  ·rw[KS];have h1:=Bo o 80 (n-1-ws.length-os.length);have h2:=Bo nn 80 (Au 80 (n-1-ws.length-os.length) o);have h3:-1≤(if Au 80 (n-1-ws.length-os.length) o<0 then Au 80 (n-1-ws.length-os.length) o else Au 80 (Au 80 (n-1-ws.length-os.length) o) nn)∧(if Au 80 (n-1-ws.length-os.length) o<0 then Au 80 (n-1-ws.length-os.length) o else Au 80 (Au 80 (n-1-ws.length-os.length) o) nn)≤n:=by split<;>omega
   generalize (if Au 80 (n-1-ws.length-os.length) o<0 then Au 80 (n-1-ws.length-os.length) o else Au 80 (Au 80 (n-1-ws.length-os.length) o) nn)=x at h3;have h4:=JE ks (d-1) x h3.1;have h5:=Nk os (d-1) (Cr (d-1) x ks) h4.1;omega
theorem JE:∀ (l:List KE) (d:Nat) (n:Int),-1≤n→-1≤Cr d n l∧Cr d n l≤n
 |[],d,n,h=>by simp;omega
 |.mk a e::l,d,n,h=>by
  rw[Fy];split
  ·omega
  ·have h1:=Iz e d n;have h2:=JE l d (CT d n e) h1.1;simp only[KE.e_mk];omega
theorem Nk:∀ (l:List OP) (d:Nat) (n:Int),-1≤n→-1≤Ds d n l∧Ds d n l≤n
 |[],d,n,h=>by simp;omega
 |.mk k m t e::l,d,n,h=>by
  rw[DB];split
  ·omega
  ·simp only[OP.e_mk,OP.l_mk];have h0:=F3 t 80 n h;have h1:=Iz e d (Ar 80 n t);have h3:-1≤(if Ar 80 n t<0 then Ar 80 n t else CT d (Ar 80 n t) e)∧(if Ar 80 n t<0 then Ar 80 n t else CT d (Ar 80 n t) e)≤n:=by split<;>omega
   have h2:=Nk l d _ h3.1;exact⟨h2.1,Int.le_trans h2.2 h3.2⟩
end
theorem XO (l:List KE) (d:Nat) {n:Int} (h:n<0):Cr d n l=n:=by cases l<;>simp[h]
theorem Xk (l:List OP) (d:Nat) {n:Int} (h:n<0):Ds d n l=n:=by cases l<;>simp[h]
theorem jC {e:E} {d:Nat} (hd:1≤d) (hd1:d≤1000) (hl:e.kids.length*208≤140737488355328) (ih:∀ c,c ∈ e.kids→cQ c.e)
  {H:Hp} (hH:H [0]=⟨1,.cells (eL e)⟩):∀ (m i:Nat) (n:Int),i+m=e.kids.length→-1≤n→n≤1000000 →
  (∀ i' q,Q (.exit 0) ⟨lk [(1,iv d),(2,iv (Cr (d-1) n (e.kids.drop i))),(3,.pob [0] 1 0),(7,iv i'),(44,bv q)],H⟩) →
  LoopC (cx Tryz.prog w0 I0 n0) DY Q ⟨lk [(1,iv d),(2,iv n),(3,.pob [0] 1 0),(7,iv i)],H⟩:=by
 intro m;induction m with
 |zero=>
  intro i n hi h1 h2 hq;have:i=e.kids.length:=by omega
  subst this;refine Ab Aj DY.eq_1 ?_;simp[hH];simpa using hq _ false
 |succ m ihm=>
  intro i n hi h1 h2 hq;have hlt:i<e.kids.length:=by omega
  refine Ab Aj DY.eq_1 ?_;have ed:e.kids.drop i=e.kids[i]::e.kids.drop (i+1):=List.drop_eq_getElem_cons hlt;by_cases hn:n<0
  ·simp[hH,hlt,show ¬ (0:Int)≤n by omega];have:=hq i false
   rwa [XO _ _ hn] at this
  ·have hn':0≤n:=by omega
   simp[hH,hlt,hn'];have edd:i64.wrap ((d:Int)-1)=((d-1:Nat):Int):=LR;rw[edd];refine Ae (ih _ (BD hlt) (d-1) n (by omega) hn' h2) rfl ?_;simp;have hr:=Iz e.kids[i].e (d-1) n;rw[A4 (by omega) (by omega)];refine ihm (i+1) _ (by omega) hr.1 (by omega) fun i' q=>?_;have:=hq i' q;rw[ed,Fy,if_neg (by omega)] at this;exact this
theorem iL {e:E} {d:Nat} {i:Nat} (hi:i<e.ops.length) (hl:e.ops[i].l.length*56≤140737488355328) (hw:∀ t,t ∈ e.ops[i].l→AD t)
  {H:Hp} (hH:H [0]=⟨1,.cells (eL e)⟩):∀ (m j:Nat) (n:Int),j+m=e.ops[i].l.length→-1≤n→n≤1000000 →
  (∀ i' q,Q (.exit 4) ⟨lk [(1,iv d),(2,iv (Ar 80 n (e.ops[i].l.drop j))),(3,.pob [0] 1 0),(8,iv i),(9,iv i'),(80,bv q)],H⟩) →
  LoopC (cx Tryz.prog w0 I0 n0) DK Q ⟨lk [(1,iv d),(2,iv n),(3,.pob [0] 1 0),(8,iv i),(9,iv j)],H⟩:=by
 intro m;induction m with
 |zero=>
  intro j n hj h1 h2 hq;have:j=e.ops[i].l.length:=by omega
  subst this;refine Ab Aj DK.eq_1 ?_;simp[hH,hi];simpa using hq _ false
 |succ m ihm=>
  intro j n hj h1 h2 hq;have hlt:j<e.ops[i].l.length:=by omega
  refine Ab Aj DK.eq_1 ?_;have ed:e.ops[i].l.drop j=e.ops[i].l[j]::e.ops[i].l.drop (j+1):=List.drop_eq_getElem_cons hlt;by_cases hn:n<0
  ·simp[hH,hi,hlt,show ¬ (0:Int)≤n by omega];have:=hq j false
   rwa [Ng _ _ hn] at this
  ·have hn':0≤n:=by omega
   simp[hH,hi,hlt,hn'];refine Ae (Hb _ (hw _ (BD hlt)) 80 n (by omega) hn' h2) rfl ?_;simp;have hr:=Bo e.ops[i].l[j] 80 n;rw[A4 (by omega) (by omega)];refine ihm (j+1) _ (by omega) hr.1 (by omega) fun i' q=>?_;have:=hq i' q;rw[ed,C7,if_neg (by omega)] at this;exact this
theorem gW {e:E} {d:Nat} (hd:1≤d) (hd1:d≤1000) (hl:e.ops.length*240≤140737488355328) (hw:∀ x,x ∈ e.ops→pO x) (ih:∀ c,c ∈ e.ops→cQ c.e)
  {H:Hp} (hH:H [0]=⟨1,.cells (eL e)⟩):∀ (m i:Nat) (n:Int),i+m=e.ops.length→-1≤n→n≤1000000 →
  (∀ i' q,Q (.exit 2) ⟨lk [(1,iv d),(2,iv (Ds (d-1) n (e.ops.drop i))),(3,.pob [0] 1 0),(8,iv i'),(65,bv q)],H⟩) →
  LoopC (cx Tryz.prog w0 I0 n0) DP Q ⟨lk [(1,iv d),(2,iv n),(3,.pob [0] 1 0),(8,iv i)],H⟩:=by
 intro m;induction m with
 |zero=>
  intro i n hi h1 h2 hq;have:i=e.ops.length:=by omega
  subst this;refine Ab Aj DP.eq_1 ?_;simp[hH];simpa using hq _ false
 |succ m ihm=>
  intro i n hi h1 h2 hq;have hlt:i<e.ops.length:=by omega
  refine Ab Aj DP.eq_1 ?_;have ed:e.ops.drop i=e.ops[i]::e.ops.drop (i+1):=List.drop_eq_getElem_cons hlt;have hwo:=hw _ (BD hlt);by_cases hn:n<0
  ·simp[hH,hlt,show ¬ (0:Int)≤n by omega];have:=hq i false
   rwa [Xk _ _ hn] at this
  ·have hn':0≤n:=by omega
   have hs:=F3 e.ops[i].l 80 n h1;have ei:=AI i;simp[hH,hlt,hn'];refine LoopC.le (Ay [(1,iv d),(2,iv n),(3,.pob [0] 1 0),(8,iv i),(9,iv (0:Nat))] (by simp)) ?_;refine iL hlt hwo.ll hwo.l hH e.ops[i].l.length 0 n (by omega) h1 h2 fun i' q=>?_;by_cases hsn:Ar 80 n e.ops[i].l<0
   ·simp[show ¬ (0:Int)≤Ar 80 n e.ops[i].l by omega,ei];refine ihm (i+1) _ (by omega) hs.1 (by omega) fun i' q=>?_;have:=hq i' q;rw[ed,DB,if_neg (by omega),if_pos hsn] at this;exact this
   ·have hsn':0≤Ar 80 n e.ops[i].l:=by omega
    simp[hsn',hH,hlt];have edd:i64.wrap ((d:Int)-1)=((d-1:Nat):Int):=LR;rw[edd];refine Ae (ih _ (BD hlt) (d-1) _ (by omega) hsn' (by omega)) rfl ?_;have hr:=Iz e.ops[i].e (d-1) (Ar 80 n e.ops[i].l);simp[ei];refine ihm (i+1) _ (by omega) hr.1 (by omega) fun i' q=>?_;have:=hq i' q;rw[ed,DB,if_neg (by omega),if_neg hsn] at this;exact this
theorem U6:∀ (e:E),J2 e→cQ e:=by
 refine E.ind fun k o nn ws ks l os ihk iho hw d n hd hn hn1=>?_;have h:=wfE_iff.1 hw;have hwl:=h.wl;have hkl:=h.kl;have hol:=h.ol;simp at hwl hkl hol;refine Ag NM (by simp) fun w0 I0=>?_;unfold IB;have e1:i64.wrap (i64.wrap (i64.wrap (n-1)-(ws.length:Int))-(os.length:Int))=n-1-ws.length-os.length:=by
  rw[A4 (n:=n-1) (by omega) (by omega),A4 (n:=n-1-ws.length) (by omega) (by omega),A4 (by omega) (by omega)]
 rw[NA];by_cases hc:d=0∨n-1-(ws.length:Int)-(os.length:Int)<0
 ·have hd:(decide (d=0) || decide (n-1-(ws.length:Int)-(os.length:Int)<0))=true:=by simp;omega
  simp[e1,hd,hc];exact Ad rfl
 ·have hd:(decide (d=0) || decide (n-1-(ws.length:Int)-(os.length:Int)<0))=false:=by simp;omega
  simp[e1,hd,hc];refine Ae (Hb o h.o 80 _ (by omega) (by omega) (by omega)) rfl ?_;have hr:=Bo o 80 (n-1-ws.length-os.length);have go:∀ (x:Int),x=Jr n ws.length os.length o nn→-1≤x→x≤1000000→WPC (cx Tryz.prog w0 I0 107) Fo (NC Tryz.prog [.tmp 6] (iv (Ds (d-1) (Cr (d-1) (Jr n ws.length os.length o nn) ks) os))) ⟨lk [(1,iv d),(2,iv x),(3,.pob [0] 1 0)],Ga [([0],⟨1,.cells (eL (.mk k o nn ws ks l os))⟩)]⟩:=fun x hx h1 h2=>by
   rw[Fo.eq_1,← hx];simp;refine LoopC.le (Ay [(1,iv d),(2,iv x),(3,.pob [0] 1 0),(7,iv (0:Nat))] (by simp)) ?_;refine jC (e:=.mk k o nn ws ks l os) (by omega) (by omega) (by simpa using hkl) (fun c hc=>ihk c hc (h.ks c hc).2) (by simp) ks.length 0 x (by simp) h1 h2 fun i' q=>?_;have hr2:=JE ks (d-1) x h1;simp;refine LoopC.le (Ay [(1,iv d),(2,iv (Cr (d-1) x ks)),(3,.pob [0] 1 0),(8,iv (0:Nat))] (by simp)) ?_;refine gW (e:=.mk k o nn ws ks l os) (by omega) (by omega) (by simpa using hol) (fun c hc=>h.os c hc) (fun c hc=>iho c hc (h.os c hc).e) (by simp) os.length 0 _ (by simp) hr2.1 (by omega) fun i' q=>?_;simp;exact Ad rfl
  by_cases hs:Au 80 (n-1-ws.length-os.length) o<0
  ·simp[show ¬ (0:Int)≤Au 80 (n-1-ws.length-os.length) o by omega];exact go _ (by rw[KS,if_pos hs]) hr.1 (by omega)
  ·simp[show(0:Int)≤Au 80 (n-1-ws.length-os.length) o by omega];refine Ae (Hb nn h.n 80 _ (by omega) (by omega) (by omega)) rfl ?_;have hr2:=Bo nn 80 (Au 80 (n-1-ws.length-os.length) o);simp;exact go _ (by rw[KS,if_neg hs]) hr2.1 (by omega)
def mW (e:E):Bool:=decide (0≤CT 80 3000 e)
theorem Y2 {e:E} (h:J2 e):G.Spec Tryz.prog 30 [eX e] (bv (mW e)):=by
 refine Ag Oa (by simp) fun w0 I0=>?_;unfold Jq;simp;refine Ae (U6 e h 80 3000 (by omega) (by omega) (by omega)) rfl ?_;simp;exact Ad rfl
end Go.Proofs.YtlaapfplenlfaaaGreat
namespace Go.PL
theorem YH {d:Nat}:∀ {ks:List KE} {last:Int},B0 d last ks=true→∀ x,x ∈ ks→last<x.at_∧x.at_≤65534∧x.e.kind ≠ 0∧BG d x.e=true
 |y::ks,last,h,x,hx=>by
  simp at h;obtain⟨⟨⟨⟨h1,h2⟩,h3⟩,h4⟩,h5⟩:=h;rcases List.mem_cons.1 hx with rfl | hx
  ·exact⟨h1,h2,h3,h4⟩
  ·obtain⟨a,b,c⟩:=YH h5 x hx;exact⟨by omega,b,c⟩
theorem KU {t:T} (h:ED t=true):t=T0:=by
 obtain⟨k,w,l⟩:=t;simp[ED] at h;obtain⟨⟨h1,rfl⟩,rfl⟩:=h;rw[of_decide_eq_true h1]
theorem Pf {d:Nat} {k:Int} {o n:T} {nw nk:Nat} {l:Int} {no:Nat} (h:¬ El d k o n nw nk l no=false):d ≠ 0∧0≤k∧k≤3∧(k ≠ 1→o=T0∧n=T0)∧(k ≠ 2→nw=0∧nk=0)∧(k ≠ 3→l=0∧no=0):=by
 have h:El d k o n nw nk l no=true:=by simpa using h
 unfold El at h;simp only[Bool.and_eq_true,Bool.not_eq_true',Bool.or_eq_false_iff,Bool.and_eq_false_iff,decide_eq_false_iff_not,decide_eq_true_eq,Bool.not_eq_false'] at h;obtain⟨⟨⟨a,b⟩,c⟩,⟨d1,e⟩,f⟩:=h;refine⟨a,by omega,by omega,fun h1=>?_,fun h2=>?_,fun h3=>?_⟩
 ·rcases d1 with d1 | d1
  ·exact absurd d1 h1
  ·exact⟨KU d1.1,KU d1.2⟩
 ·rcases e with e | e
  ·exact absurd e h2
  ·omega
 ·rcases f with f | f
  ·exact absurd f h3
  ·exact⟨f.1,by omega⟩
def Uy (ws:List WE):Prop:=∀ w,w ∈ ws→0≤w.mask∧w.mask<256
end Go.PL
namespace Go.Proofs.YtlaapfplenlfaaaGreat
open Go Go.G Go.Proofs Go.PL
abbrev Og (e:E):Prop:=∀ d:Nat,d≤1000→G.Spec Tryz.prog 31 [eX e,iv d] (bv (BG d e))
variable {n0:Nat} {w0:World} {I0:Nat→Prop} {Q:Exit→Sta→Prop}
theorem sU {o:OP} {list:Int} (hk:Db list) (hl:o.l.length*56≤140737488355328) (hw:∀ t,t ∈ o.l→AD t) {H:Hp} (hO:H [0]=⟨1,.cells (iv o.kind::iv o.n::Bx o.l::eL o.e)⟩):∀ (m i:Nat),i+m=o.l.length →
  (((o.l.drop i).all fun t=>BV 64 (.mk list [] [t]))=true→∀ i' q,Q (.exit 0) ⟨lk [(0,iv list),(4,.pob [0] 1 0),(7,iv i'),(50,bv q)],H⟩)→(((o.l.drop i).all fun t=>BV 64 (.mk list [] [t]))=false→Q .ret ⟨lk [(6,bv false)],H⟩) →
  LoopC (cx Tryz.prog w0 I0 n0) EW Q ⟨lk [(0,iv list),(4,.pob [0] 1 0),(7,iv i)],H⟩:=by
 intro m;induction m with
 |zero=>
  intro i hi h1 h2;have:i=o.l.length:=by omega
  subst this;refine Ab Aj EW.eq_1 ?_;simp[hO];exact h1 (by simp) _ _
 |succ m ihm=>
  intro i hi h1 h2;have hlt:i<o.l.length:=by omega
  have ed:o.l.drop i=o.l[i]::o.l.drop (i+1):=List.drop_eq_getElem_cons hlt;have ei:=AI i;have et:List.take 1 (List.drop i (o.l.map tA))=[tX o.l[i]]:=by rw[← List.map_drop,ed,List.map_cons,List.take_succ_cons,List.take_zero,tA_eq]
  have hwt:AD (.mk list [] [o.l[i]]):=wfT_iff.2 ⟨hk,by simp,by simp,by simp,fun x hx=>by simp at hx;rw[hx];exact hw _ (BD hlt)⟩;have h01:(i:Int)≤(i:Int)+1:=by omega
  have h02:(i:Int)+1≤o.l.length:=by omega
  rw[ed] at h1 h2;refine Ab Aj EW.eq_1 ?_;have h03:(0:Int)≤(i:Int)+1:=by omega
  simp[hO,hlt,ei,h01,h02,h03,et];refine dm rfl ((Iy (.mk list [] [o.l[i]]) hwt 64 (by omega)).soft (by simp[A.softL,A.soft,FK,D3])) rfl ?_;cases hr:BV 64 (.mk list [] [o.l[i]]) with
  |false=>
   simp;exact h2 (by simp only[List.all_cons,hr,Bool.false_and])
  |true=>
   simp[ei];exact ihm (i+1) (by omega) (fun hh=>h1 (by simp only[List.all_cons,hr,Bool.true_and];exact hh)) (fun hh=>h2 (by simp only[List.all_cons,hr,Bool.true_and];exact hh))
set_option maxRecDepth 8000 in
theorem iy {list:Int} (hk:Db list) {o:OP} (h:pO o) (ih:Og o.e) {d:Nat} (hd:d≤1000):G.Spec Tryz.prog 52 [iv list,oX o,iv d] (bv (Gn d list o)):=by
 have he:=wfE_iff.1 h.e;have hll:=h.ll;refine Ag Pq (by simp) fun w0 I0=>?_;unfold J0;rw[ET];by_cases h0:o.kind=0
 ·have h3:¬ o.kind=3:=by omega
  simp[h0];refine AP rfl (fun _=>R1 he) (fun e=>by simp at e;simp[e]) rfl ?_;simp;refine Aq ?_;cases hl:o.l<;>simp[E4,h0,hl]
 ·have h3n:(o.kind<3→¬ o.kind=3):=fun h=>by omega
  simp[h0];refine⟨fun hc=>?_,fun n0 k0 k3=>⟨fun hlt=>?_,fun hge=>?_⟩⟩
  ·have:E4 list o=false:=by
    unfold E4;rw[if_neg h0,if_pos (by omega)]
   exact Aq (by simp[this])
  ·have hk3:¬ o.kind=3:=by omega
   have hf:E4 list o=((o.l.all fun t=>BV 64 (.mk list [] [t]))&&!o.l.isEmpty&&Kt o.e):=by
    unfold E4;rw[if_neg h0,if_neg (by omega),if_pos hlt]
   refine sU (o:=o) hk hll h.l (by simp) o.l.length 0 (by omega) (fun hr i' q=>?_) (fun hr=>?_)
   ·simp at hr;simp;refine AP rfl (fun _=>R1 he) (fun e=>by simp at e;simp[e]) rfl ?_;simp;refine Aq ?_;have hr':(o.l.all fun t=>BV 64 (.mk list [] [t]))=true:=by simpa using hr
    rw[hf,hr'];cases hl:o.l<;>simp[hk3]
   ·simp;refine Aq ?_;simp only[List.drop_zero] at hr;rw[hf,hr];simp
  ·have hk3:o.kind=3:=by omega
   have hf:E4 list o=true:=by
    unfold E4;rw[if_neg h0,if_neg (by omega),if_neg (by omega)]
   refine Ao rfl (fun _=>ih d hd) (fun e=>by simp at e;have:=Int.not_le.2 e.2;simp[this,e.1.1,e.1.2]) rfl ?_;have hop:JR list o=(!decide (0<o.l.length)&&!decide (o.e.kind=0)&&!decide (list≤7)):=by
    cases hl:o.l<;>simp[JR,hl]
   simp;refine⟨fun hc=>?_,fun a b c hr=>?_⟩
   ·refine Aq ?_;rw[hop,hf];cases hr:BG d o.e
    ·simp[hk3]
    ·simp only[hr,Bool.true_eq_false,or_false] at hc;rcases hc with (hc | hc) | hc<;>simp[hk3,hc]
   ·have hl0:¬ 0<o.l.length:=by simp[a]
    have hfit:Gy (Ga [([0],{ u:=1,ob:=Ob.cells (iv o.kind::iv o.n::Bx o.l::eL o.e) })]) (bv (NN list o)) (bv (E4 list o&&(!decide (o.kind=3) || JR list o&&BG d o.e&&NN list o))):=by
     refine Aq ?_;rw[hop,hf,hr];have c':=Int.not_le.2 c;simp[hk3,hl0,b,c']
    by_cases l8:list=8
    ·simp[l8];simpa[l8,NN] using hfit
    ·by_cases k2:o.e.kind=2
     ·simp[l8,k2];simpa[l8,k2,NN] using hfit
     ·by_cases k1:o.e.kind=1
      ·by_cases x1:o.e.old.kind=1
       ·simp[l8,k2,k1,x1];simpa[l8,k2,k1,x1,NN] using hfit
       ·simp[l8,k2,k1,x1];simpa[l8,k2,k1,x1,NN] using hfit
      ·simp[l8,k2,k1];simpa[l8,k2,k1,NN] using hfit
theorem ab {e:E} {d:Nat} (hl:e.words.length*32≤140737488355328) (hw:∀ x,x ∈ e.words→WE.wf x):∀ (m i:Nat) (last:Int) (H:Hp),i+m=e.words.length→H [0]=⟨1,.cells (eL e)⟩ →
  (BP last (e.words.drop i)=true→∀ i' z q H',H' [0]=⟨1,.cells (eL e)⟩→Q (.exit 0) ⟨lk [(1,iv d),(2,.pob [0] 1 0),(5,iv z),(6,iv i'),(97,bv q)],H'⟩)→(BP last (e.words.drop i)=false→∀ H',Q .ret ⟨lk [(4,bv false)],H'⟩) →
  LoopC (cx Tryz.prog w0 I0 n0) Dc Q ⟨lk [(1,iv d),(2,.pob [0] 1 0),(5,iv last),(6,iv i)],H⟩:=by
 intro m;induction m with
 |zero=>
  intro i last H hi hA h1 h2;have:i=e.words.length:=by omega
  subst this;refine Ab Aj Dc.eq_1 ?_;simp[hA];exact h1 (by simp[BP]) _ _ _ _ hA
 |succ m ihm=>
  intro i last H hi hA h1 h2;have hlt:i<e.words.length:=by omega
  have ed:e.words.drop i=e.words[i]::e.words.drop (i+1):=List.drop_eq_getElem_cons hlt;have ei:=AI i;obtain⟨w1,w2,w3,w4⟩:=hw _ (BD hlt);rw[ed,BP] at h1 h2;generalize hx:e.words[i]=x at *;refine Ab Aj Dc.eq_1 ?_;simp[hA,hlt,hx,Aa];refine Ao rfl (fun _=>Ni w3 w2.1 w2.2) (fun e=>by simp only[Bool.or_eq_false_iff] at e;simp[e]) rfl ?_;simp;refine Ao rfl (fun _=>Ni w4 w2.1 w2.2) (fun e=>by simp only[Bool.or_eq_false_iff] at e;simp[e]) rfl ?_;simp;have hok:N0 last x = !(decide (x.at_≤last) || decide (65534<x.at_) || decide (x.mask=0) || !FW x.old x.mask || !FW x.new x.mask):=rfl;refine⟨fun hc=>h2 ?_ _,fun a b c d e=>?_⟩
  ·have:N0 last x=false:=by
    rw[hok];rcases hc with (((hc | hc) | hc) | hc) | hc<;>simp[hc]
   simp[this]
  ·have:N0 last x=true:=by
    rw[hok];simp[c,d,e];omega
   simp[this] at h1 h2;simp[ei,Aa];exact ihm (i+1) x.at_ _ (by omega) (by simp[Aa,hA]) (fun hh i' z q H' hh'=>by have:=h1 hh i' z;cases q;exact this.1 H' hh';exact this.2 H' hh') (fun hh=>h2 hh)
theorem Zl {e:E} {d:Nat} (hd:1≤d) (hd1:d≤1000) (hl:e.kids.length*208≤140737488355328) (ih:∀ x,x ∈ e.kids→Og x.e):∀ (m i:Nat) (last:Int) (H:Hp),i+m=e.kids.length→H [0]=⟨1,.cells (eL e)⟩ →
  (B0 (d-1) last (e.kids.drop i)=true→∀ i' z q H',H' [0]=⟨1,.cells (eL e)⟩→Q (.exit 2) ⟨lk [(1,iv d),(2,.pob [0] 1 0),(5,iv z),(8,iv i'),(141,bv q)],H'⟩)→(B0 (d-1) last (e.kids.drop i)=false→∀ H',Q .ret ⟨lk [(4,bv false)],H'⟩) →
  LoopC (cx Tryz.prog w0 I0 n0) Dm Q ⟨lk [(1,iv d),(2,.pob [0] 1 0),(5,iv last),(8,iv i)],H⟩:=by
 intro m;induction m with
 |zero=>
  intro i last H hi hA h1 h2;have:i=e.kids.length:=by omega
  subst this;refine Ab Aj Dm.eq_1 ?_;simp[hA];exact h1 (by simp) _ _ _ _ hA
 |succ m ihm=>
  intro i last H hi hA h1 h2;have hlt:i<e.kids.length:=by omega
  have ed:e.kids.drop i=e.kids[i]::e.kids.drop (i+1):=List.drop_eq_getElem_cons hlt;have ei:=AI i;have edd:i64.wrap ((d:Int)-1)=((d-1:Nat):Int):=LR;have ihx:=ih _ (BD hlt) (d-1) (by omega);rw[ed,NH] at h1 h2;generalize hx:e.kids[i]=x at *;refine Ab Aj Dm.eq_1 ?_;simp[hA,hlt,hx,Aa,edd];refine Ao rfl (fun _=>ihx) (fun e=>by simp only[Bool.or_eq_false_iff] at e;simp[e]) rfl ?_;simp;refine⟨fun hc=>h2 ?_ _,fun a b c hr=>?_⟩
  ·rcases hc with ((hc | hc) | hc) | hc<;>simp[hc]
  ·have c':¬ x.e.kind=0:=c;have a':¬ x.at_≤last:=by omega
   have b':¬ 65534<x.at_:=by omega
   simp[a',b',c',hr] at h1 h2;simp[ei,Aa];exact ihm (i+1) x.at_ _ (by omega) (by simp[Aa,hA]) (fun hh i' z q H' hh'=>by have:=h1 hh i' z;cases q;exact this.1 H' hh';exact this.2 H' hh') (fun hh=>h2 hh)
theorem Oj {e:E} {d:Nat} (hd:1≤d) (hd1:d≤1000) (hl:e.ops.length*240≤140737488355328) (hk:Db e.list) (hw:∀ x,x ∈ e.ops→pO x) (ih:∀ x,x ∈ e.ops→Og x.e) {H:Hp} (hA:H [0]=⟨1,.cells (eL e)⟩):∀ (m i:Nat),i+m=e.ops.length →
  (Fg (d-1) e.list (e.ops.drop i)=true→∀ i' q,Q (.exit 4) ⟨lk [(1,iv d),(2,.pob [0] 1 0),(10,iv i'),(191,bv q)],H⟩)→(Fg (d-1) e.list (e.ops.drop i)=false→Q .ret ⟨lk [(4,bv false)],H⟩) →
  LoopC (cx Tryz.prog w0 I0 n0) Df Q ⟨lk [(1,iv d),(2,.pob [0] 1 0),(10,iv i)],H⟩:=by
 intro m;induction m with
 |zero=>
  intro i hi h1 h2;have:i=e.ops.length:=by omega
  subst this;refine Ab Aj Df.eq_1 ?_;simp[hA];exact h1 (by simp) _ _
 |succ m ihm=>
  intro i hi h1 h2;have hlt:i<e.ops.length:=by omega
  have ed:e.ops.drop i=e.ops[i]::e.ops.drop (i+1):=List.drop_eq_getElem_cons hlt;have ei:=AI i;have edd:i64.wrap ((d:Int)-1)=((d-1:Nat):Int):=LR;have hop:=iy hk (hw _ (BD hlt)) (ih _ (BD hlt)) (d:=d-1) (by omega);rw[ed,Uc] at h1 h2;refine Ab Aj Df.eq_1 ?_;simp[hA,hlt,edd];refine Ae hop rfl ?_;cases hr:Gn (d-1) e.list e.ops[i] with
  |false=>
   simp;exact h2 (by simp[hr])
  |true=>
   simp[ei];exact ihm (i+1) (by omega) (fun hh=>h1 (by simp[hr,hh])) (fun hh=>h2 (by simp[hh]))
theorem nu {d:Nat} {list:Int} {o:OP} (h:Gn d list o=true):0≤o.n∧o.n≤1048576:=by
 rw[ET,Bool.and_eq_true] at h;have h1:=h.1;unfold E4 at h1;split at h1
 ·simp at h1;omega
 ·split at h1
  ·cases h1
  ·omega
theorem Lh {d:Nat} {k:Int} {o n:T} {nw nk:Nat} {l:Int} {no:Nat} (hd:¬ d=0) (k0:0≤k) (k3:k≤3) (c1:k ≠ 1→ED o=true∧ED n=true) (c2:k ≠ 2→nw+nk=0) (c3:k ≠ 3→l=0∧no=0):El d k o n nw nk l no=true:=by
 unfold El;have h1:decide (d=0)=false:=by simpa using hd
 have h2:decide (k<0)=false:=by simp;omega
 have h3:decide (k > 3)=false:=by simp;omega
 rw[h1,h2,h3];have a1:(!decide (k=1)&&!(ED o&&ED n))=false:=by
  by_cases e:k=1
  ·simp[e]
  ·simp[c1 e]
 have a2:(!decide (k=2)&&decide (nw+nk > 0))=false:=by
  by_cases e:k=2
  ·simp[e]
  ·simp[c2 e]
 have a3:(!decide (k=3)&&(!decide (l=0) || decide (no > 0)))=false:=by
  by_cases e:k=3
  ·simp[e]
  ·simp[c3 e]
 rw[a1,a2,a3];rfl
set_option maxRecDepth 10000 in
theorem U8:∀ (e:E),J2 e→Og e:=by
 refine E.ind fun k o nn ws ks l os ihk iho hw d hd=>?_;have h:=wfE_iff.1 hw;have hwl:=h.wl;have hkl:=h.kl;have hol:=h.ol;simp at hwl hkl hol;refine Ag L9 (by simp) fun w0 I0=>?_;unfold HE;rw[Jm];by_cases hd0:d=0∨k<0∨3<k
 ·have hb:(decide (d=0) || decide (k<0) || decide (3<k))=true:=by simp;omega
  simp[hb];refine Aq ?_;have:El d k o nn ws.length ks.length l os.length=false:=by simp only[El,hb,gt_iff_lt,Bool.not_true,Bool.false_and]
  simp[this]
 have hb:(decide (d=0) || decide (k<0) || decide (3<k))=false:=by simp;omega
 have e1:i64.wrap ((ws.length:Int)+ks.length)=(ws.length:Int)+ks.length:=Hl;have hd00:¬ d=0:=by omega
 have wz:i64.wrap 0=0:=by decide
 have ihk':∀ x,x ∈ (E.mk k o nn ws ks l os).kids→Og x.e:=fun x hx=>ihk x hx (h.ks x hx).2;have iho':∀ x,x ∈ (E.mk k o nn ws ks l os).ops→Og x.e:=fun x hx=>iho x hx (h.os x hx).e;have fz:∀ (b:Bool) (H:Hp),b=false→Gy H (.v (.bool false)) (bv b):=fun b H hb=>Aq hb.symm;cases hh:El d k o nn ws.length ks.length l os.length with
 |false=>
  rw[if_pos rfl];by_cases h1:k=1
  ·subst h1;simp[e1,hd00];refine AU rfl ?_;simp;refine AU rfl ?_;by_cases a1:(0:Int)<(ws.length:Int)+ks.length
   ·simp[e1,a1];exact fz _ _ rfl
   ·by_cases a2:l=0
    ·by_cases a3:0<os.length
     ·simp[e1,a1,a2,a3];exact fz _ _ rfl
     ·have:El d 1 o nn ws.length ks.length l os.length=true:=Lh hd00 (by omega) (by omega) (fun h=>absurd rfl h) (fun _=>by omega) (fun _=>⟨a2,by omega⟩);rw[hh] at this;cases this
    ·simp[e1,a1,a2];exact fz _ _ rfl
  ·simp[hb,h1,e1];refine AP rfl (fun _=>Gs h.o) (fun _=>rfl) rfl ?_;simp[h1,e1];refine AP rfl (fun _=>Gs h.n) (fun e=>by simp[e]) rfl ?_;cases n1:ED o with
   |false=>cases n2:ED nn<;>(simp[n1,n2,e1];exact fz _ _ rfl)
   |true=>
    cases n2:ED nn with
    |false=>simp[n1,n2,e1];exact fz _ _ rfl
    |true=>
     by_cases k2:k=2
     ·subst k2;by_cases a2:l=0
      ·by_cases a3:0<os.length
       ·simp[e1,a2,a3];exact fz _ _ rfl
       ·have:El d 2 o nn ws.length ks.length l os.length=true:=Lh hd00 (by omega) (by omega) (fun _=>⟨n1,n2⟩) (fun h=>absurd rfl h) (fun _=>⟨a2,by omega⟩);rw[hh] at this;cases this
      ·simp[e1,a2];exact fz _ _ rfl
     ·by_cases a1:(0:Int)<(ws.length:Int)+ks.length
      ·simp[e1,k2,a1];exact fz _ _ rfl
      ·by_cases k3:k=3
       ·have:El d k o nn ws.length ks.length l os.length=true:=Lh hd00 (by omega) (by omega) (fun _=>⟨n1,n2⟩) (fun _=>by omega) (fun h=>absurd k3 h);rw[hh] at this;cases this
       ·by_cases a2:l=0
        ·by_cases a3:0<os.length
         ·simp[e1,k2,k3,a1,a2,a3];exact fz _ _ rfl
         ·have:El d k o nn ws.length ks.length l os.length=true:=Lh hd00 (by omega) (by omega) (fun _=>⟨n1,n2⟩) (fun _=>by omega) (fun _=>⟨a2,by omega⟩);rw[hh] at this;cases this
        ·simp[e1,k2,k3,a1,a2];exact fz _ _ rfl
 |true=>
  rw[if_neg (by simp)];obtain⟨_,k0,k3,c1,c2,c3⟩:=Pf (by rw[hh];simp);by_cases h1:k=1
  ·subst h1;obtain⟨w0',s0⟩:=c2 (by omega);obtain⟨l0,o0⟩:=c3 (by omega);have hws:ws=[]:=List.eq_nil_of_length_eq_zero w0';have hks:ks=[]:=List.eq_nil_of_length_eq_zero s0;have hos:os=[]:=List.eq_nil_of_length_eq_zero o0;subst hws hks hos l0;simp[e1,hd00];refine AU rfl ?_;simp;refine AU rfl ?_;simp[wz];refine Ae (Iy o h.o 64 (by omega)) rfl ?_;simp;refine AP rfl (fun _=>Iy nn h.n 64 (by omega)) (fun e=>by simp[e]) rfl ?_;simp;exact Aq (by simp[Bool.and_assoc])
  ·obtain⟨rfl,rfl⟩:=c1 h1;have nT:ED T0=true:=rfl;have cases3:k=2∧l=0∧os=[]∨k=3∧ws=[]∧ks=[]∨k=0∧ws=[]∧ks=[]∧l=0∧os=[]:=by
    by_cases k2:k=2
    ·obtain⟨l0,o0⟩:=c3 (by omega);exact .inl ⟨k2,l0,List.eq_nil_of_length_eq_zero o0⟩
    ·obtain⟨w0',s0⟩:=c2 k2;by_cases k3:k=3
     ·exact .inr (.inl ⟨k3,List.eq_nil_of_length_eq_zero w0',List.eq_nil_of_length_eq_zero s0⟩)
     ·obtain⟨l0,o0⟩:=c3 k3;exact .inr (.inr ⟨by omega,List.eq_nil_of_length_eq_zero w0',List.eq_nil_of_length_eq_zero s0,l0,List.eq_nil_of_length_eq_zero o0⟩)
   rw[if_neg h1];clear c1 c2 c3 hh h1 k0 k3 ihk iho;rcases cases3 with ⟨rfl,rfl,rfl⟩ | ⟨rfl,rfl,rfl⟩ | ⟨rfl,rfl,rfl,rfl,rfl⟩;all_goals
    simp[hd00,e1];refine AP rfl (fun _=>Gs h.o) (fun _=>rfl) rfl ?_;simp[nT,e1];refine AP rfl (fun _=>Gs h.n) (fun e=>by simp[e]) rfl ?_;simp[nT,e1,wz];refine ab (hl:=h.wl) (hw:=h.w) _ 0 (-1) _ (by simp;rfl) (by simp) (fun hr i' z q H' hA=>?_) (fun hr H'=>?_);rotate_left
    ·first
      |(simp[BP] at hr;done)
      |(simp at hr;simp;exact fz _ _ (by simp[hr]))
    simp at hr;simp;refine Zl (by omega) hd (hl:=h.kl) (ih:=ihk') _ 0 (-1) _ (by simp;rfl) hA (fun hr2 i' z q H' hA=>?_) (fun hr2 H'=>?_);rotate_left
    ·first
      |(simp at hr2;done)
      |(simp at hr2;simp;exact fz _ _ (by simp[hr2]))
    try simp at hr2
   ·simp[hA];refine Oj (by omega) hd (hl:=h.ol) h.l h.os iho' hA _ 0 (by simp;rfl) (fun hr3 i' q=>?_) (fun hr3=>?_);rotate_left
    ·simp at hr3
    simp[hA];refine Ae (Gz (e:=.mk 2 T0 T0 ws ks 0 []) h.ol (fun x hx=>by simp at hx)) rfl ?_;simp;refine Aq ?_;simp[hr,hr2,AB]
   ·by_cases hl:l<2∨9<l
    ·have hl':(decide (l<2) || decide (9<l))=true:=by simpa using hl
     simp[hA,hl'];exact fz _ _ (by simp[hr];intro a b;omega)
    ·have hl':(decide (l<2) || decide (9<l))=false:=by simpa using hl
     simp[hA,hl'];refine Oj (by omega) hd (hl:=h.ol) h.l h.os iho' hA _ 0 (by simp;rfl) (fun hr3 i' q=>?_) (fun hr3=>?_);rotate_left
     ·simp at hr3;simp;exact fz _ _ (by simp[hr3])
     simp at hr3;simp[hA];refine Ae (Gz (e:=.mk 3 T0 T0 [] [] l os) h.ol (fun x hx=>⟨(nu (rightOs_all.1 hr3 x hx)).1,(nu (rightOs_all.1 hr3 x hx)).2,(h.os x hx).ll⟩)) rfl ?_;simp;refine Aq ?_;have hl2:¬ (l<2∨l > 9):=hl;simp[hr,hr3,hl2];intro _ _;omega
   ·simp[hA];refine Oj (by omega) hd (hl:=h.ol) h.l h.os iho' hA _ 0 (by simp;rfl) (fun hr3 i' q=>?_) (fun hr3=>?_);rotate_left
    ·simp at hr3
    simp[hA];refine Ae (Gz (e:=.mk 0 T0 T0 [] [] 0 []) h.ol (fun x hx=>by simp at hx)) rfl ?_;simp;refine Aq ?_;simp[BP,AB]
end Go.Proofs.YtlaapfplenlfaaaGreat
