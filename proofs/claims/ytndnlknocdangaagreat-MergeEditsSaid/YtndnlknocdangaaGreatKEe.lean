/-
 Texts,merged,without what is not reached.
-/
import Derived.Test.YtndnlknocdangaaGreatKEd
set_option linter.unusedSimpArgs false
set_option linter.unusedVariables false
open Go.IntKind (i64 u64)
namespace Go.Proofs.YtndnlknocdangaaGreat
open Go Go.G Go.Proofs Go.PL
def D3 (X:List Int) (i:Nat):List Int:=X++List.replicate (i+1-X.length) 0
theorem Ez (X:List Int) (i:Nat):(D3 X i).length=max X.length (i+1):=by simp[D3];omega
theorem QZ {α:Type} (X:List α) (n:Nat) (z:α) (j:Nat):(X++List.replicate n z).getD j z=X.getD j z:=by
 rw[List.getD_eq_getElem?_getD,List.getD_eq_getElem?_getD];by_cases h:j<X.length
 ·rw[List.getElem?_append_left h]
 ·rw[List.getElem?_append_right (by omega),List.getElem?_eq_none (l:=X) (by omega)];by_cases h2:j-X.length<n
  ·rw[List.getElem?_replicate,if_pos h2];rfl
  ·rw[List.getElem?_replicate,if_neg h2]
theorem QA {α:Type} (X:List α) (i:Nat) (u z:α) (hi:i<X.length) (j:Nat):(X.set i u).getD j z=if j=i then u else X.getD j z:=by
 rw[List.getD_eq_getElem?_getD,List.getD_eq_getElem?_getD,List.getElem?_set];by_cases h:i=j
 ·subst h;rw[if_pos rfl,if_pos hi,if_pos rfl];rfl
 ·rw[if_neg h,if_neg (Ne.symm h)]
def Ka (a:List Int):List WE→List Int→List Int
 |[],X=>X
 |w::ws,X=>Ka a ws ((D3 X w.at_.toNat).set w.at_.toNat (AM (a.getD w.at_.toNat 0) w.new w.mask))
theorem lI {a b:List Int} {p:Nat} {ws:List WE} (h:J6 a b p ws):∀ X:List Int,(∀ j,j<p→X.getD j 0=b.getD j 0)→(∀ j,p≤j→X.getD j 0=a.getD j 0)→(∀ j,(Ka a ws X).getD j 0=b.getD j 0)∧(Ka a ws X).length≤max X.length (max a.length b.length):=by
 induction h with
 |nil p h=>
  intro X h1 h2;refine⟨fun j=>?_,by show X.length≤_;omega⟩;by_cases hj:j<p
  ·exact h1 j hj
  ·rw[show(Ka a [] X)=X from rfl,h2 j (by omega),h j (by omega)]
 |cons p i m o n ws hp h hi hm ho hn g1 g2 _ ih=>
  intro X h1 h2;have hl:i<(D3 X i).length:=by rw[Ez];omega
  have e:Ka a (⟨i,m,o,n⟩::ws) X=Ka a ws ((D3 X i).set i (b.getD i 0)):=by
   show Ka a ws ((D3 X ((i:Int)).toNat).set ((i:Int)).toNat (AM (a.getD ((i:Int)).toNat 0) n m))=_;rw[Int.toNat_natCast,g1]
  have gs:∀ j,((D3 X i).set i (b.getD i 0)).getD j 0=if j=i then b.getD i 0 else X.getD j 0:=fun j=>by
   rw[QA _ _ _ _ hl];unfold D3;rw[QZ]
  obtain⟨k1,k2⟩:=ih ((D3 X i).set i (b.getD i 0)) (fun j hj=>by
   rw[gs];by_cases e:j=i
   ·rw[if_pos e,e]
   ·rw[if_neg e];by_cases hjp:j<p
    ·exact h1 j hjp
    ·rw[h2 j (by omega),h j (by omega) (by omega)]) (fun j hj=>by
   rw[gs,if_neg (by omega)];exact h2 j (by omega))
  rw[e];refine⟨k1,Nat.le_trans k2 ?_⟩;rw[List.length_set,Ez];omega
theorem TL {a:List Int}:∀ (ws:List WE) (X:List Int),(∀ x,x ∈ X→AA x)→∀ x,x ∈ Ka a ws X→AA x
 |[],X,h=>h
 |w::ws,X,h=>by
  refine TL ws _ fun x hx=>?_;rcases List.mem_or_eq_of_mem_set hx with hx | rfl
  ·unfold D3 at hx;rcases List.mem_append.1 hx with hx | hx
   ·exact h x hx
   ·rw[List.eq_of_mem_replicate hx];exact⟨by omega,by omega⟩
  ·exact BX _ _ _
abbrev KI:=Bool × T
def PZ (x:KI):T:=if x.1=true then T0 else x.2
def jU (x:KI):List A:=if x.1=true then [iv 0,.sl true [],.sl true []] else [iv x.2.kind,CR x.2.words,Bz x.2.kids]
def Wl (x:KI):A:=.agg (jU x)
@[simp] theorem pW {x:KI}:(Wl x).cells=jU x:=rfl
@[simp] theorem yf {x:KI}:(jU x).length=3:=by unfold jU;split<;>rfl
def HY (Z:List KI) (i:Nat):List KI:=Z++List.replicate (i+1-Z.length) (true,T0)
theorem Ia (Z:List KI) (i:Nat):(HY Z i).length=max Z.length (i+1):=by simp[HY];omega
def Lu:List KE→List T→List KI→List KI
 |x::ks,u::us,Z=>Lu ks us ((HY Z x.at_.toNat).set x.at_.toNat (false,u))
 |_,_,Z=>Z
inductive ny (P:E→T→T→Prop) (a:List T):List KE→List T→Prop
 |nil:ny P a [] []
 |cons (i:Nat) (e:E) (u:T) (ks:List KE) (us:List T) (h:P e (a.getD i T0) u) (g:ny P a ks us):ny P a (.mk i e::ks) (u::us)
theorem mU {R P:E→T→T→Prop} {a b:List T} {p:Nat} {ks:List KE} (h:Vu R a b p ks):(∀ x,x ∈ ks→∀ i,R x.e (a.getD i T0) (b.getD i T0)→∃ u,P x.e (a.getD i T0) u∧Af u=Af (b.getD i T0))→∃ us,ny P a ks us∧∀ Z:List KI,(∀ j,j<p→Af ((Z.map PZ).getD j T0)=Af (b.getD j T0))→(∀ j,p≤j→Af ((Z.map PZ).getD j T0)=Af (a.getD j T0))→(∀ j,Af (((Lu ks us Z).map PZ).getD j T0)=Af (b.getD j T0))∧(Lu ks us Z).length≤max Z.length (max a.length b.length):=by
 induction h with
 |nil p h=>
  intro _;refine⟨[],.nil,fun Z h1 h2=>⟨fun j=>?_,by show Z.length≤_;omega⟩⟩;by_cases hj:j<p
  ·exact h1 j hj
  ·rw[show Lu [] [] Z=Z from rfl,h2 j (by omega),h j (by omega)]
 |cons p i e ks hp h hi he hr _ ih=>
  intro hP;obtain⟨u,k1,k2⟩:=hP (.mk i e) (by simp) i hr;obtain⟨us,k3,k4⟩:=ih fun x hx=>hP x (List.mem_cons_of_mem _ hx);refine⟨u::us,.cons i e u ks us k1 k3,fun Z h1 h2=>?_⟩;have hl:i<(HY Z i).length:=by rw[Ia];omega
  have ee:Lu (.mk i e::ks) (u::us) Z=Lu ks us ((HY Z i).set i (false,u)):=by
   show Lu ks us ((HY Z ((i:Int)).toNat).set ((i:Int)).toNat (false,u))=_;rw[Int.toNat_natCast]
  have gs:∀ j,(((HY Z i).set i (false,u)).map PZ).getD j T0=if j=i then u else (Z.map PZ).getD j T0:=fun j=>by
   rw[List.map_set,QA _ _ _ _ (by rw[List.length_map];exact hl)];have e1:(HY Z i).map PZ=Z.map PZ++List.replicate (i+1-Z.length) T0:=by
    unfold HY;rw[List.map_append,List.map_replicate];rfl
   rw[e1,QZ];rfl
  obtain⟨g1,g2⟩:=k4 ((HY Z i).set i (false,u)) (fun j hj=>by
   rw[gs];by_cases ej:j=i
   ·rw[if_pos ej,ej,k2]
   ·rw[if_neg ej];by_cases hjp:j<p
    ·exact h1 j hjp
    ·rw[h2 j (by omega),h j (by omega) (by omega)]) (fun j hj=>by
   rw[gs,if_neg (by omega)];exact h2 j (by omega))
  rw[ee];refine⟨g1,Nat.le_trans g2 ?_⟩;rw[List.length_set,Ia];omega
theorem T9 {Q:T→Prop} (h0:Q T0):∀ (ks:List KE) (us:List T) (Z:List KI),(∀ u,u ∈ us→Q u)→(∀ z,z ∈ Z→Q (PZ z))→∀ z,z ∈ Lu ks us Z→Q (PZ z)
 |[],_,Z,_,h=>by
  intro z hz;exact h z (by simpa[Lu] using hz)
 |x::ks,[],Z,_,h=>by
  intro z hz;exact h z (by simpa[Lu] using hz)
 |x::ks,u::us,Z,hu,h=>by
  refine T9 h0 ks us _ (fun v hv=>hu v (List.mem_cons_of_mem _ hv)) fun z hz=>?_;rcases List.mem_or_eq_of_mem_set hz with hz | rfl
  ·unfold HY at hz;rcases List.mem_append.1 hz with hz | hz
   ·exact h z hz
   ·rw[List.eq_of_mem_replicate hz];exact h0
  ·exact hu u (by simp)
variable {n0:Nat} {w0:World} {I0:Nat→Prop} {Q:Exit→Sta→Prop}
theorem ku {X0:List Int} {i w:Nat} {c0 c1 c2:A} {K B L:A} {N k:Nat} (hX:X0.length≤1000000) (hi:i≤1000000) {H0:Hp} (h4:H0 [4]=⟨w,.cells [iv i,c0,c1,c2]⟩)
  (hq:∀ (H':Hp) (v:Nat),H' [3]=⟨1,.cells [iv 1,.osl [15] v 1 0 (D3 X0 i).length,K]⟩→H' [15]=⟨v,.arr 1 ((D3 X0 i).map uv)⟩→(∀ o,o ≠ [3]→o ≠ [15]→H' o=H0 o)→Q (.exit 2) ⟨lk [(2,.pob [0] 1 0),(3,.pob [1] 1 0),(4,.pob [2] 1 0),(6,.pob [3] 1 0),(8,.pob [4] w 0),(9,B),(26,L),(27,iv N),(28,iv k),(49,bv false)],H'⟩) :
  ∀ (j n v:Nat) (H:Hp),n+j=i+1-X0.length→H [3]=⟨1,.cells [iv 1,.osl [15] v 1 0 (X0.length+n),K]⟩→H [15]=⟨v,.arr 1 ((X0++List.replicate n 0).map uv)⟩→(∀ o,o ≠ [3]→o ≠ [15]→H o=H0 o) →
  LoopC (cx Tryz.prog w0 I0 n0) DD Q ⟨lk [(2,.pob [0] 1 0),(3,.pob [1] 1 0),(4,.pob [2] 1 0),(6,.pob [3] 1 0),(8,.pob [4] w 0),(9,B),(26,L),(27,iv N),(28,iv k)],H⟩:=by
 intro j;induction j with
 |zero=>
  intro n v H hm h3 h15 hH;have g4:=hH [4] (by simp) (by simp);rw[h4] at g4;have hp:D3 X0 i=X0++List.replicate n 0:=by unfold D3;rw[← hm];rfl
  have hc:¬ ((X0.length:Int)+n≤i):=by omega
  refine Ab Aj DD.eq_1 ?_;simp[h3,g4,hc];refine hq H v (by rw[hp];simpa using h3) (by rw[hp];exact h15) hH
 |succ j ih=>
  intro n v H hm h3 h15 hH;have g4:=hH [4] (by simp) (by simp);rw[h4] at g4;have hc:(X0.length:Int)+n≤i:=by omega
  refine Ab Aj DD.eq_1 ?_;simp[h3,g4,hc,h15,Aa];refine⟨by omega,?_⟩;refine ih (n+1) (v+1) _ (by omega) (by simp[Aa];omega) ?_ (fun o h1 h2=>by simp[Aa,h1,h2,hH]);simp[Aa,List.replicate_succ'];rw[AN (by simp)];simp
theorem tp {t:T} (ht:AD t) {ws:List WE} (hwl:ws.length≤10000000000000) {b R:List Int} {K:A} {v0 v2 v16:VOb} (hb:max t.words.length b.length≤900000) (hws:∀ x,x ∈ ws→AA x.old∧AA x.new)
  (hq:∀ (H':Hp) (v:Nat) (st:List (Nat × A)),H' [0]=v0→H' [1]=⟨1,.cells (tL t)⟩→H' [2]=v2→H' [3]=⟨1,.cells [iv 1,.osl [15] v 1 0 R.length,K]⟩→H' [15]=⟨v,.arr 1 (R.map uv)⟩→H' [16]=v16→Q (.exit 0) ⟨lk ([(2,.pob [0] 1 0),(3,.pob [1] 1 0),(4,.pob [2] 1 0),(6,.pob [3] 1 0)]++st),H'⟩) :
  ∀ (m k p v:Nat) (X:List Int) (H:Hp),k+m=ws.length→J6 t.words b p (ws.drop k)→R=Ka t.words (ws.drop k) X→X.length≤900000→H [0]=v0→H [1]=⟨1,.cells (tL t)⟩→H [2]=v2→H [3]=⟨1,.cells [iv 1,.osl [15] v 1 0 X.length,K]⟩→H [15]=⟨v,.arr 1 (X.map uv)⟩→H [16]=v16 →
  LoopC (cx Tryz.prog w0 I0 n0) BA Q ⟨lk [(2,.pob [0] 1 0),(3,.pob [1] 1 0),(4,.pob [2] 1 0),(6,.pob [3] 1 0),(26,JJ ws),(27,iv ws.length),(28,iv k)],H⟩:=by
 have z0:AA 0:=⟨by decide,by decide⟩;intro m;induction m with
 |zero=>
  intro k p v X H hm hL hR hX h0 h1 h2 h3 h15 h16;have:k=ws.length:=by omega
  subst this;rw[List.drop_length] at hR;have hR:R=X:=hR;subst hR;refine Ab Aj BA.eq_1 ?_;simp;have:=hq H v [(26,JJ ws),(27,iv ws.length),(28,iv ws.length),(29,bv false)] h0 h1 h2 h3 h15 h16;simpa using this
 |succ m ih=>
  intro k p v X H hm hL hR hX h0 h1 h2 h3 h15 h16;have hlt:k<ws.length:=by omega
  have ew:=AI k;have hd:ws.drop k=ws[k]::ws.drop (k+1):=(List.getElem_cons_drop hlt).symm;rw[hd] at hL hR;have hwo:=hws _ (BD hlt);have next:=ih (k+1)
  generalize hx:ws[k]=x at *;cases hL with
  |cons _ i mk o n _ hp hh hi hmk ho hn g1 g2 g=>
   have hwa:=Fa (wfT_iff.1 ht).w i;have M1:=Dt (mask:=mk) z0 hwa (by omega) (by omega);have M2:=Dt (mask:=mk) hwa hwo.2 (by omega) (by omega);have W1:=C5 t i;simp only at M2;rw[ho] at M1;rw[g1] at M2;have hl:i<(D3 X i).length:=by rw[Ez];omega
   have hR':R=Ka t.words (ws.drop (k+1)) ((D3 X i).set i (b.getD i 0)):=by
    rw[hR];show Ka t.words _ ((D3 X ((i:Int)).toNat).set ((i:Int)).toNat (AM (t.words.getD ((i:Int)).toNat 0) n mk))=_;rw[Int.toNat_natCast,g1]
   refine Ab Aj BA.eq_1 ?_;simp[hlt,hx,Aa,h1];refine Ae W1 (by simp) ?_;simp[Aa];refine Ae M1 (by simp) ?_;simp[Aa];refine ku (X0:=X) (i:=i) (w:=(H [4]).u+1) (c0:=u8 mk) (c1:=uv o) (c2:=uv n) (K:=K) (by omega) (by omega) (H0:=Ay H [4] ⟨(H [4]).u+1,.cells [iv i,u8 mk,uv o,uv n]⟩) (by simp[Aa]) (fun H' v' k3 k15 kH=>?_) (i+1-X.length) 0 v _ (by omega) (by simp[Aa,h3]) (by simp[Aa,h15]) (fun o _ _=>rfl);have k4:=kH [4] (by simp) (by simp);have k0:=kH [0] (by simp) (by simp);have k1:=kH [1] (by simp) (by simp);have k2:=kH [2] (by simp) (by simp);have k16:=kH [16] (by simp) (by simp);simp[Aa] at k4 k0 k1 k2 k16;simp[k3,k4];refine Ae M2 (by simp) ?_;simp[k3,k15,k4,hl,ew];refine next (i+1) v' ((D3 X i).set i (b.getD i 0)) _ (by omega) g hR' (by rw[List.length_set,Ez];omega) (by simp[Aa,k0,h0]) (by simp[Aa,k1,h1]) (by simp[Aa,k2,h2]) (by simp[Aa,k3]) (by simp[Aa,List.map_set]) (by simp[Aa,k16,h16])
theorem jS {Z0:List KI} {i w w7:Nat} {c4:List A} {K:A} {L:A} {N k:Nat} (hZ:Z0.length≤1000000) (hi:i≤1000000) {H0:Hp} (h6:H0 [6]=⟨w,.cells (iv i::c4)⟩)
  (hq:∀ (H':Hp) (v:Nat),H' [3]=⟨1,.cells [iv 1,K,.osl [16] v 3 0 (HY Z0 i).length]⟩→H' [16]=⟨v,.arr 3 ((HY Z0 i).map Wl)⟩→(∀ o,o ≠ [3]→o ≠ [16]→H' o=H0 o)→Q (.exit 6) ⟨lk [(3,.pob [1] 1 0),(4,.pob [2] 1 0),(6,.pob [3] 1 0),(11,.pob [6] w 0),(12,.pob [7] w7 0),(68,L),(69,iv N),(70,iv k),(92,bv false)],H'⟩) :
  ∀ (j n v:Nat) (H:Hp),n+j=i+1-Z0.length→H [3]=⟨1,.cells [iv 1,K,.osl [16] v 3 0 (Z0.length+n)]⟩→H [16]=⟨v,.arr 3 ((Z0++List.replicate n (true,T0)).map Wl)⟩→(∀ o,o ≠ [3]→o ≠ [16]→H o=H0 o) →
  LoopC (cx Tryz.prog w0 I0 n0) DX Q ⟨lk [(3,.pob [1] 1 0),(4,.pob [2] 1 0),(6,.pob [3] 1 0),(11,.pob [6] w 0),(12,.pob [7] w7 0),(68,L),(69,iv N),(70,iv k)],H⟩:=by
 intro j;induction j with
 |zero=>
  intro n v H hm h3 h16 hH;have g6:=hH [6] (by simp) (by simp);rw[h6] at g6;have hp:HY Z0 i=Z0++List.replicate n (true,T0):=by unfold HY;rw[← hm];rfl
  have hc:¬ ((Z0.length:Int)+n≤i):=by omega
  refine Ab Aj DX.eq_1 ?_;simp[h3,g6,hc];refine hq H v (by rw[hp];simpa using h3) (by rw[hp];exact h16) hH
 |succ j ih=>
  intro n v H hm h3 h16 hH;have g6:=hH [6] (by simp) (by simp);rw[h6] at g6;have hc:(Z0.length:Int)+n≤i:=by omega
  refine Ab Aj DX.eq_1 ?_;simp[h3,g6,hc,h16,Aa];refine⟨by omega,?_⟩;refine ih (n+1) (v+1) _ (by omega) (by simp[Aa];omega) ?_ (fun o h1 h2=>by simp[Aa,h1,h2,hH]);simp[Aa,List.replicate_succ'];rw[AN (by simp)];simp[Wl,jU]
theorem vI {t:T} {ks:List KE} (hkl:ks.length≤10000000000000) {Z1:List KI} {K:A} {v2 v15:VOb} (hat:∀ x,x ∈ ks→0≤x.at_∧x.at_≤900000)
  (hq:∀ (H':Hp) (v:Nat) (st:List (Nat × A)),H' [2]=v2→H' [3]=⟨1,.cells [iv 1,K,.osl [16] v 3 0 Z1.length]⟩→H' [16]=⟨v,.arr 3 (Z1.map Wl)⟩→H' [15]=v15→Q (.exit 4) ⟨lk ([(3,.pob [1] 1 0),(4,.pob [2] 1 0),(6,.pob [3] 1 0)]++st),H'⟩) :
  ∀ (m k v:Nat) (us:List T) (Z:List KI) (H:Hp),k+m=ks.length→ny Qt t.kids (ks.drop k) us→Z1=Lu (ks.drop k) us Z→Z.length≤900001→H [1]=⟨1,.cells (tL t)⟩→H [2]=v2→H [3]=⟨1,.cells [iv 1,K,.osl [16] v 3 0 Z.length]⟩→H [16]=⟨v,.arr 3 (Z.map Wl)⟩→H [15]=v15 →
  LoopC (cx Tryz.prog w0 I0 n0) BB Q ⟨lk [(3,.pob [1] 1 0),(4,.pob [2] 1 0),(6,.pob [3] 1 0),(68,J9 ks),(69,iv ks.length),(70,iv k)],H⟩:=by
 intro m;induction m with
 |zero=>
  intro k v us Z H hm hA hR hZ h1 h2 h3 h16 h15;have:k=ks.length:=by omega
  subst this;rw[List.drop_length] at hR hA;cases hA;have hR:Z1=Z:=hR;subst hR;refine Ab Aj BB.eq_1 ?_;simp;have:=hq H v [(68,J9 ks),(69,iv ks.length),(70,iv ks.length),(71,bv false)] h2 h3 h16 h15;simpa using this
 |succ m ih=>
  intro k v us Z H hm hA hR hZ h1 h2 h3 h16 h15;have hlt:k<ks.length:=by omega
  have ew:=AI k;have hd:ks.drop k=ks[k]::ks.drop (k+1):=(List.getElem_cons_drop hlt).symm;rw[hd] at hA hR;have ha:=hat _ (BD hlt);have next:=ih (k+1)
  generalize hx:ks[k]=x at *;cases hA with
  |cons i e u _ us h g=>
   have ha:(0:Int)≤(i:Nat)∧((i:Nat):Int)≤900000:=ha;have K1:=DC t i;have hl:i<(HY Z i).length:=by rw[Ia];omega
   have hR':Z1=Lu (ks.drop (k+1)) us ((HY Z i).set i (false,u)):=by
    rw[hR];show Lu _ us ((HY Z ((i:Int)).toNat).set ((i:Int)).toNat (false,u))=_;rw[Int.toNat_natCast]
   refine Ab Aj BB.eq_1 ?_;simp[hlt,hx,Aa,h1];refine Ae K1 (by simp) ?_;simp[Aa];refine Ae h.2 (by simp) ?_;simp[Aa];refine jS (Z0:=Z) (i:=i) (w:=(H [6]).u+1) (w7:=(H [7]).u+1) (c4:=eL e) (K:=K) (by omega) (by omega) (H0:=Ay (Ay H [6] ⟨(H [6]).u+1,.cells (iv i::eL e)⟩) [7] ⟨(H [7]).u+1,.cells (tL u)⟩) (by simp[Aa]) (fun H' v' k3 k16 kH=>?_) (i+1-Z.length) 0 v _ (by omega) (by simp[Aa,h3]) (by simp[Aa,h16]) (fun o _ _=>by rfl);have k6:=kH [6] (by simp) (by simp);have k7:=kH [7] (by simp) (by simp);have k1:=kH [1] (by simp) (by simp);have k2:=kH [2] (by simp) (by simp);have k15:=kH [15] (by simp) (by simp);simp[Aa] at k6 k7 k1 k2 k15;simp[k3,k6,k7,k16,hl,ew];refine next v' us ((HY Z i).set i (false,u)) _ (by omega) g hR' (by rw[List.length_set,Ia];omega) (by simp[Aa,k1,h1]) (by simp[Aa,k2,h2]) (by simp[Aa,k3]) (by simp[Aa,List.map_set];rfl) (by simp[Aa,k15,h15])
theorem fq (l:List T):(l.map fun k=>((false,k):KI)).map Wl=l.map tA:=by
 rw[List.map_map];exact List.map_congr_left fun k _=>by simp[Wl,jU]
theorem Yd (l:List T):(l.map fun k=>((false,k):KI)).map PZ=l:=by
 rw[List.map_map];exact List.map_id'' (fun k=>by simp[PZ]) l
theorem W6 {ws:List WE} {ks:List KE} {t:T} {b:List Int} {us:List T} (ht:AD t) (hk:t.kind=1) (hwl:ws.length≤10000000000000) (hkl:ks.length≤10000000000000) (hl:t.kids.length≤900000) (hb:max t.words.length b.length≤900000) (hws:∀ x,x ∈ ws→AA x.old∧AA x.new) (hat:∀ x,x ∈ ks→0≤x.at_∧x.at_≤900000) (hW:J6 t.words b 0 ws) (hK:ny Qt t.kids ks us) :
  G.Spec Tryz.prog 79 [eX (.mk 2 T0 T0 ws ks 0 []),tX t] (.tup [tX (.mk 1 (Ka t.words ws t.words) ((Lu ks us (t.kids.map fun k=>(false,k))).map PZ)),bv true]):=by
 have C1:=Kq t.words (by omega);have C2:=Pb t.kids (by omega);have hkr:=fq t.kids;generalize hZ:(t.kids.map fun k=>((false,k):KI))=Z at *;have hZl:Z.length=t.kids.length:=by rw[← hZ];simp
 refine Ag CX (by simp) fun w0 I0=>?_;unfold Cd;simp[hk];refine Bp 15 C1 (fun p=>by simp) (by simp) (by simp) ?_;simp;refine⟨by decide,?_⟩;refine Bp 16 C2 (fun p=>by simp) (by simp) (by simp) ?_;simp;refine⟨⟨by decide,by decide⟩,?_⟩;refine LoopC.le (AB [(2,.pob [0] 1 0),(3,.pob [1] 1 0),(4,.pob [2] 1 0),(6,.pob [3] 1 0),(26,JJ ws),(27,iv ws.length),(28,iv (0:Nat))] (by simp)) ?_;refine tp (t:=t) (b:=b) (R:=Ka t.words ws t.words) (K:=.osl [16] 1 3 0 t.kids.length) (v0:=⟨1,.cells (eL (.mk 2 T0 T0 ws ks 0 []))⟩) (v2:=⟨1,.cells [iv 0,.sl true [],.sl true []]⟩) (v16:=⟨1,.arr 3 (Z.map Wl)⟩) ht hwl hb hws (fun H' v st h0 h1 h2 h3 h15 h16=>?_) ws.length 0 0 1 t.words _ (by omega) (by simpa using hW) (by simp) (by omega) (by simp[Aa]) (by simp[Aa,hk]) (by simp[Aa]) (by simp[Aa]) (by simp[Aa]) (by simp[Aa,hkr]);simp[h0];refine LoopC.le (AB [(3,.pob [1] 1 0),(4,.pob [2] 1 0),(6,.pob [3] 1 0),(68,J9 ks),(69,iv ks.length),(70,iv (0:Nat))] (by simp)) ?_;rw[← hZl] at h3;refine vI (t:=t) (Z1:=Lu ks us Z) (K:=.osl [15] v 1 0 (Ka t.words ws t.words).length) (v2:=⟨1,.cells [iv 0,.sl true [],.sl true []]⟩) (v15:=⟨v,.arr 1 ((Ka t.words ws t.words).map uv)⟩) hkl hat (fun H2 v2 st2 k2 k3 k16 k15=>?_) ks.length 0 1 us Z _ (by omega) (by simpa using hK) (by simp) (by omega) h1 h2 h3 h16 h15;simp[k2,k3];refine An ⟨AE ⟨Ad rfl,?_,?_,trivial⟩,Ad rfl,trivial⟩
 ·exact AY (o:=[15]) (u:=v) (n:=(Ka t.words ws t.words).length) (sz:=1) (l:=Ka t.words ws t.words) (f:=uv) (by simp[Aa,k15]) rfl (fun x=>by simp)
 ·have:=Nq (H:=Ay H2 [2] ⟨1,.cells [iv 1,.osl [15] v 1 0 (Ka t.words ws t.words).length,.osl [16] v2 3 0 (Lu ks us Z).length]⟩) (o:=[16]) (u:=v2) (n:=(Lu ks us Z).length) (sz:=3) (l:=Lu ks us Z) (f:=Wl) (g:=fun z=>tA (PZ z)) (by simp[Aa,k16]) rfl (fun x _=>by
   obtain⟨c,t⟩:=x;cases c<;>simp[jU,PZ,A.soft,A.softL,FI,D5])
  show Gu _ _ (.sl false (((Lu ks us Z).map PZ).map tA));rw[List.map_map];exact this
theorem QB {e:E} {a b:T} (hw:JZ e) (ha:AD a) (h:sd e a b):∃ u,Qt e a u∧Af u=Af b:=by
 rcases h with ⟨rfl,h⟩ | ⟨o,n,rfl,h1,h2⟩
 ·refine⟨a,⟨ha,?_⟩,h⟩;refine Ag DB (by simp) fun w0 I0=>?_;unfold C4;simp;exact An ⟨Ad (by simp),Ad rfl,trivial⟩
 ·have W:=wfE_iff.1 hw;have E1:=Jq (t:=o) (u:=a) W.o ha;rw[show G7 o a=true from eqT_iff.2 h1] at E1;refine⟨n,⟨W.n,?_⟩,h2⟩;refine Ag DB (by simp) fun w0 I0=>?_;unfold C4;simp;refine Ae E1 (by simp) ?_;simp;exact An ⟨Ad (by simp),Ad rfl,trivial⟩
theorem Ze {e:E} {t u:T} (hk:e.kind=2) (h:G.Spec Tryz.prog 79 [eX e,tX t] (.tup [tX u,bv true])):G.Spec Tryz.prog 47 [eX e,tX t] (.tup [tX u,bv true]):=by
 obtain⟨k,o,n,ws,ks,l,os⟩:=e;have hk:k=2:=hk;subst hk;refine Ag DB (by simp) fun w0 I0=>?_;unfold C4;simp;refine Ae h (by simp) ?_;simp;exact An ⟨Ad (by simp),Ad rfl,trivial⟩
theorem XG {e:E} {t u:T} (hk:e.kind=3) (h:G.Spec Tryz.prog 80 [eX e,tX t] (.tup [tX u,bv true])):G.Spec Tryz.prog 47 [eX e,tX t] (.tup [tX u,bv true]):=by
 obtain⟨k,o,n,ws,ks,l,os⟩:=e;have hk:k=3:=hk;subst hk;refine Ag DB (by simp) fun w0 I0=>?_;unfold C4;simp;refine Ae h (by simp) ?_;simp;exact An ⟨Ad (by simp),Ad rfl,trivial⟩
theorem oB {R:E→T→T→Prop} {a b:List T} {p:Nat} {ks:List KE} (h:Vu R a b p ks):∀ x,x ∈ ks→0≤x.at_∧x.at_<max a.length b.length:=by
 induction h with
 |nil p h=>intro x hx;simp at hx
 |cons p i e ks hp h hi he hr _ ih=>
  intro x hx;rcases List.mem_cons.1 hx with rfl | hx
  ·show(0:Int)≤(i:Nat)∧((i:Nat):Int)<_;omega
  ·exact ih x hx
def Sz:Nat→T→Prop
 |0,_=>True
 |f+1,t=>t.words.length≤900000∧t.kids.length≤900000∧∀ k,k ∈ t.kids→Sz f k
theorem vC:∀ f,Sz f T0
 |0=>trivial
 |f+1=>⟨by simp,by simp,fun k hk=>by simp at hk⟩
theorem kG {f:Nat} {t:T} (h:Sz (f+1) t) (i:Nat):Sz f (t.kids.getD i T0):=by
 rw[List.getD_eq_getElem?_getD];cases e:t.kids[i]? with
 |none=>exact vC f
 |some z=>exact h.2.2 z (List.mem_of_getElem? e)
theorem DJ {t:T} (h:AD t) (i:Nat):AD (t.kids.getD i T0):=by
 rw[List.getD_eq_getElem?_getD];cases e:t.kids[i]? with
 |none=>exact Df
 |some z=>exact(wfT_iff.1 h).ks z (List.mem_of_getElem? e)
theorem nR {a:List T} {ks:List KE} {us:List T} (h:ny Qt a ks us):∀ u,u ∈ us→AD u:=by
 induction h with
 |nil=>intro u hu;simp at hu
 |cons i e u ks us h _ ih=>
  intro v hv;rcases List.mem_cons.1 hv with rfl | hv
  ·exact h.1
  ·exact ih v hv
theorem YJ:∀ (f:Nat) (e:E) (a b:T),JZ e→AD a→AD b→Sz f a→Sz f b→Ld f e a b→∃ u,Qt e a u∧Af u=Af b:=by
 intro f;induction f with
 |zero=>exact fun e a b hw ha hb _ _ h=>QB hw ha h
 |succ f ih=>
  intro e a b hw ha hb sa sb h;have A:=wfT_iff.1 ha;have B:=wfT_iff.1 hb;rcases h with h | ⟨ws,ks,rfl,h1,h2,h3,h4⟩ | ⟨os,rfl,h1,h2,hv,h3⟩
  ·exact QB hw ha h
  ·have W:=wfE_iff.1 hw;have hwl:ws.length*32≤140737488355328:=W.wl;have hkl:ks.length*208≤140737488355328:=W.kl;obtain⟨us,k1,k2⟩:=mU (P:=Qt) h4 fun x hx i r=>ih x.e _ _ (W.ks x hx).2 (DJ ha i) (DJ hb i) (kG sa i) (kG sb i) r;obtain⟨g1,g2⟩:=lI h3 a.words (fun j hj=>by omega) (fun j _=>rfl);have e0:=Yd a.kids;obtain⟨g3,g4⟩:=k2 (a.kids.map fun k=>(false,k)) (fun j hj=>by omega) (fun j _=>by rw[e0]);rw[List.length_map] at g4;have l1:=sa.1;have l2:=sb.1;have l3:=sa.2.1;have l4:=sb.2.1;have hat:=oB h4;have S:=W6 (ws:=ws) (ks:=ks) (us:=us) (b:=b.words) ha h1 (by omega) (by omega) l3 (by omega) (fun x hx=>⟨(W.w x hx).2.2.1,(W.w x hx).2.2.2⟩) (fun x hx=>by have:=hat x hx;omega) h3 k1;have hu:=T9 (Q:=AD) Df ks us (a.kids.map fun k=>(false,k)) (nR k1) (fun z hz=>by
    obtain⟨k,hk,rfl⟩:=List.mem_map.1 hz;exact A.ks k hk)
   generalize hZ:Lu ks us (a.kids.map fun k=>((false,k):KI))=Z at *;refine⟨.mk 1 (Ka a.words ws a.words) (Z.map PZ),⟨wfT_iff.2 ⟨by simp[Db],TL ws a.words A.w,by show(Ka a.words ws a.words).length*8≤_;omega,by show(Z.map PZ).length*56≤_;rw[List.length_map];omega,fun x hx=>?_⟩,Ze rfl S⟩,?_⟩
   ·obtain⟨z,hz,rfl⟩:=List.mem_map.1 (show x ∈ Z.map PZ from hx);exact hu z hz
   ·obtain⟨kb,wb,lb⟩:=b;have h2:kb=1:=h2;subst h2;exact struct_eq.2 ⟨g1,g3⟩
  ·have W:=wfE_iff.1 hw;have hol:os.length*240≤140737488355328:=W.ol;obtain⟨U,k1,k2⟩:=mE (P:=Qt) h3 fun o ho hk x hx y hy r=>ih o.e x y (W.os o ho).e (A.ks x hx) (B.ks y hy) (sa.2.2 x hx) (sb.2.2 y hy) r;have hUl:U.length=b.kids.length:=by simpa using congrArg List.length k2
   have l3:=sa.2.1;have l4:=sb.2.1;have hUw:=mX k1 A.ks (fun o ho=>(W.os o ho).l);have S:=UD (l:=a.kind) (os:=os) (u:=U) ha (by omega) (fun o ho=>(W.os o ho).l) (fun o ho=>by have:=(W.os o ho).ll;omega) (by omega) (by omega) rfl k1;refine⟨.mk a.kind [] U,⟨wfT_iff.2 ⟨A.k,by simp,by simp,by show U.length*56≤_;omega,hUw⟩,XG rfl S⟩,?_⟩;obtain⟨kb,wb,lb⟩:=b;have h1:kb=a.kind:=h1;have hv2:wb=[]:=hv.2;subst h1;subst hv2;exact(Jb (k:=a.kind) (by omega) (by omega)).2 ⟨rfl,k2⟩
theorem GW (a b m:Int) {i:Nat} (h:i<8):Bh (AM a b m) i=if Cq m i=true then Bh b i else Bh a i:=by
 rw[← DP _ h,N8,Rk (by simp[Ap,BI]) h,DP _ h,DP _ h]
theorem PO {x y:Int} (hx:AA x) (hy:AA y) (h:∀ i,i<8→Bh x i=Bh y i):x=y:=by
 rw[← Om hx,← Om hy];congr 1;refine List.ext_getElem (by simp[Ap,BI]) fun i h1 h2=>?_;have h8:i<8:=by simpa[Ap,BI] using h1
 have:=h i h8;rw[← DP _ h8,← DP _ h8] at this;rw[List.getD_eq_getElem?_getD,List.getD_eq_getElem?_getD,List.getElem?_eq_getElem h1,List.getElem?_eq_getElem h2] at this;exact this
def FC (m k:Int):Int:=bits .and .u8 m k
theorem Za {m k:Int} (hm:0≤m∧m<256) (hk:0≤k∧k<256):FC m k=((m.toNat &&& k.toNat:Nat):Int):=by
 obtain⟨a,rfl⟩:=Int.eq_ofNat_of_zero_le hm.1;obtain⟨b,rfl⟩:=Int.eq_ofNat_of_zero_le hk.1;have h1:a<256:=by omega
 have h2:b<256:=by omega
 have h3:a &&& b<256:=Nat.lt_of_le_of_lt Nat.and_le_left h1;have e8:∀ x:Nat,x<256→(BitVec.ofInt 8 (x:Int)).toNat=x:=fun x h=>by
  rw[BitVec.toNat_ofInt];omega
 show IntKind.u8.wrap ((BitVec.ofInt 8 (a:Int) &&& BitVec.ofInt 8 (b:Int)).toNat:Nat)=_;rw[BitVec.toNat_and,e8 a h1,e8 b h2];rw[IntKind.wrap_u8,Int.toNat_natCast,Int.toNat_natCast];omega
theorem Vg {m k:Int} (hm:0≤m∧m<256) (hk:0≤k∧k<256):0≤FC m k∧FC m k<256:=by
 rw[Za hm hk];have h3:m.toNat &&& k.toNat≤m.toNat:=Nat.and_le_left;omega
theorem X9 (x w n m:Int):AM x (AM w n m) m=AM x n m:=by
 refine PO (BX _ _ _) (BX _ _ _) fun i hi=>?_;rw[GW _ _ _ hi,GW _ _ _ hi,GW _ _ _ hi];split<;>rfl
theorem NB {x:Int} (hx:AA x) (n:Int):AM x n 0=x:=by
 refine PO (BX _ _ _) hx fun i hi=>?_;rw[GW _ _ _ hi,if_neg (by simp[Cq])]
structure Cf where
 path:List (Int × Int)
 base:T
 ours:T
 theirs:T
abbrev Cy:=List (Int × Int)
noncomputable def D0 (e:E) (t:T):T:=(GY e t).getD T0
def B7 (ws:List WE) (i:Nat):WE:=(ws.find? fun w=>decide (w.at_=(i:Int))).getD ⟨0,0,0,0⟩
def CQ (ks:List KE) (i:Nat):E:=((ks.find? fun k=>decide (k.at_=(i:Int))).map KE.e).getD E0
def Lz (a b:WE):Bool:=decide (AM 0 a.new (FC a.mask b.mask) ≠ AM 0 b.new (FC a.mask b.mask))
def AL (w:Int):T:=.mk 1 [w] []
def Gb (w:Int) (a b:WE):Int:=if Lz a b=true then w else AM (AM w a.new a.mask) b.new b.mask
def IX (at':Cy) (i:Nat) (w:Int) (a b:WE):List Cf:=if Lz a b=true then [⟨at'++[(1,(i:Int))],Af (AL w),Af (AL (AM w a.new a.mask)),Af (AL (AM w b.new b.mask))⟩] else []
def Bu (n:Nat) (ws:List WE):Nat:=ws.foldl (fun n w=>max n (w.at_+1).toNat) n
def Bf (n:Nat) (ks:List KE):Nat:=ks.foldl (fun n k=>max n (k.at_+1).toNat) n
inductive U where
 |keep
 |del (t:T)
 |ins (t:T)
 |desc (e:E)
def Jn (o:OP):List U:=if o.kind=0 then List.replicate o.n.toNat .keep else if o.kind=1 then o.l.map .del else if o.kind=2 then o.l.map .ins else [.desc o.e]
def Em (os:List OP):List U:=os.flatMap Jn
def Ey:List U→List T
 |.ins t::us=>t::Ey us
 |_=>[]
def Dy:List U→List U
 |.ins t::us=>Dy us
 |us=>us
def eU:U→E
 |.desc e=>e
 |_=>E0
open Classical in
noncomputable def D7 (at':Cy) (kind:Int) (n:Nat) (a b:List T):List T × List Cf:=
 if a=[]∨a.map Af=b.map Af then (b.map Af,[]) else if b=[] then (a.map Af,[]) else ([],[⟨at'++[(2,(n:Int))],Af (.mk kind [] []),Af (.mk kind [] a),Af (.mk kind [] b)⟩])
noncomputable def Bx (mg:Cy→T→E→E→T × List Cf) (at':Cy) (k:T):U→U→List T × List Cf
 |.del _,.desc q=>([Af k],[⟨at',Af k,T0,D0 q k⟩])
 |.desc p,.del _=>([Af k],[⟨at',Af k,D0 p k,T0⟩])
 |.del _,_=>([],[])
 |_,.del _=>([],[])
 |u,v=>([(mg at' k (eU u) (eU v)).1],(mg at' k (eU u) (eU v)).2)
def Wj:List U→U
 |u::_=>u
 |[]=>.keep
noncomputable def Hi (mg:Cy→T→E→E→T × List Cf) (at':Cy) (kind:Int):List T→List U→List U→Nat→List T × List Cf
 |[],us,vs,n=>D7 at' kind n (Ey us) (Ey vs)
 |k::ks,us,vs,n=>
  let g:=D7 at' kind n (Ey us) (Ey vs)
  let u:=Bx mg (at'++[(0,(n:Int))]) k (Wj (Dy us)) (Wj (Dy vs))
  let r:=Hi mg at' kind ks (Dy us).tail (Dy vs).tail (n+1)
  (g.1++(u.1++r.1),g.2++(u.2++r.2))
open Classical in
noncomputable def R8 (at':Cy) (o:T) (p q:E):T × List Cf:=
 if p.kind=0 then (D0 q o,[]) else if q.kind=0 then (D0 p o,[]) else if D0 p o=D0 q o then (D0 p o,[]) else (Af o,[⟨at',Af o,D0 p o,D0 q o⟩])
noncomputable def Uq (mg:Cy→T→E→E→T × List Cf) (at':Cy) (o:T) (p q:E):T × List Cf:=
 (Af (.mk 1 ((List.range (Bu (Bu o.words.length p.words) q.words)).map fun i:Nat=>Gb (o.words.getD i 0) (B7 p.words i) (B7 q.words i))
  ((List.range (Bf (Bf o.kids.length p.kids) q.kids)).map fun i:Nat=>(mg (at'++[(0,(i:Int))]) (o.kids.getD i T0) (CQ p.kids i) (CQ q.kids i)).1)),
  (List.range (Bu (Bu o.words.length p.words) q.words)).flatMap (fun i:Nat=>IX at' i (o.words.getD i 0) (B7 p.words i) (B7 q.words i)) ++
  (List.range (Bf (Bf o.kids.length p.kids) q.kids)).flatMap fun i:Nat=>(mg (at'++[(0,(i:Int))]) (o.kids.getD i T0) (CQ p.kids i) (CQ q.kids i)).2)
noncomputable def mg:Nat→Cy→T→E→E→T × List Cf
 |0,at',o,p,q=>R8 at' o p q
 |f+1,at',o,p,q=>if p.kind=2∧q.kind=2 then Uq (mg f) at' o p q
  else if p.kind=3∧q.kind=3 then (Af (.mk o.kind [] (Hi (mg f) at' o.kind o.kids (Em p.ops) (Em q.ops) 0).1),(Hi (mg f) at' o.kind o.kids (Em p.ops) (Em q.ops) 0).2)
  else R8 at' o p q
theorem IV {a b:List Int} {p:Nat} {ws:List WE} (h:J6 a b p ws):∀ w,w ∈ ws→∃ i:Nat,w.at_=i∧p≤i∧i<max a.length b.length∧0<w.mask∧w.mask<256:=by
 induction h with
 |nil p h=>intro w hw;simp at hw
 |cons p i m o n ws hp h hi hm ho hn h1 h2 _ ih=>
  intro w hw;rcases List.mem_cons.1 hw with rfl | hw
  ·exact⟨i,rfl,hp,hi,hm.1,hm.2⟩
  ·obtain⟨j,k1,k2,k3,k4⟩:=ih w hw;exact⟨j,k1,by omega,k3,k4⟩
theorem gV {a b:List Int} {p:Nat} {ws:List WE} (h:J6 a b p ws):∀ i:Nat,p≤i→(∀ w,w ∈ ws→w.at_<(i:Int))→a.getD i 0=b.getD i 0:=by
 induction h with
 |nil p h=>intro i hi _;exact h i hi
 |cons p i m o n ws hp h hi hm ho hn h1 h2 _ ih=>
  intro j hj hw;have:((i:Nat):Int)<(j:Int):=hw ⟨i,m,o,n⟩ (by simp);exact ih j (by omega) fun w h=>hw w (List.mem_cons_of_mem _ h)
theorem bS {a b:List Int} {p:Nat} {ws:List WE} (h:J6 a b p ws):∀ x,ws.getLast? = some x→∀ w,w ∈ ws→w.at_≤x.at_:=by
 induction h with
 |nil p h=>intro x hx;simp at hx
 |cons p i m o n ws hp h hi hm ho hn h1 h2 g ih=>
  intro x hx w hw;cases ws with
  |nil=>
   simp at hx hw;rw[← hx,hw];exact Int.le_refl _
  |cons y ys=>
   rw[List.getLast?_cons_cons] at hx;rcases List.mem_cons.1 hw with rfl | hw
   ·have k:=ih x hx y (by simp);obtain⟨j,k1,k2,_⟩:=IV g y (by simp);have:((i:Nat):Int)≤x.at_:=by omega
    exact this
   ·exact ih x hx w hw
theorem Tq {a b:List Int}:∀ (m p:Nat) (ws:List WE),J6 a b p ws→LM a m p ws=some ((List.range' p m).map fun j=>b.getD j 0)
 |0,p,ws,h=>by rw[LM];rfl
 |m+1,p,ws,h=>by
  rw[List.range'_succ,List.map_cons];cases h with
  |nil _ h=>
   rw[Km (fun x xs e=>by cases e),Tq m (p+1) [] (.nil _ fun i hi=>h i (by omega)),h p (Ek _)];rfl
  |cons _ i mk o n ws hp h hi hm ho hn h1 h2 g=>
   by_cases e:p=i
   ·subst e;rw[PR rfl ho,Tq m (p+1) ws g];simp only[h1];rfl
   ·rw[Km (fun x xs ex=>by cases ex;show((i:Nat):Int) ≠ (p:Int);omega),Tq m (p+1) _ (.cons (p+1) i mk o n ws (by omega) (fun j h1 h2=>h j (by omega) h2) hi hm ho hn h1 h2 g),h p (Ek _) (by omega)];rfl
theorem IU {R:E→T→T→Prop} {a b:List T} {p:Nat} {ks:List KE} (h:Vu R a b p ks):∀ w,w ∈ ks→∃ i:Nat,w.at_=i∧p≤i∧i<max a.length b.length∧w.e.kind ≠ 0∧R w.e (a.getD i T0) (b.getD i T0):=by
 induction h with
 |nil p h=>intro w hw;simp at hw
 |cons p i e ks hp h hi he hr _ ih=>
  intro w hw;rcases List.mem_cons.1 hw with rfl | hw
  ·exact⟨i,rfl,hp,hi,he,hr⟩
  ·obtain⟨j,k1,k2,k3⟩:=ih w hw;exact⟨j,k1,by omega,k3⟩
theorem jx {R:E→T→T→Prop} {a b:List T} {p:Nat} {ks:List KE} (h:Vu R a b p ks):∀ i:Nat,p≤i→(∀ w,w ∈ ks→w.at_<(i:Int))→Af (a.getD i T0)=Af (b.getD i T0):=by
 induction h with
 |nil p h=>intro i hi _;exact h i hi
 |cons p i e ks hp h hi he hr _ ih=>
  intro j hj hw;have:((i:Nat):Int)<(j:Int):=hw (.mk i e) (by simp);exact ih j (by omega) fun w h=>hw w (List.mem_cons_of_mem _ h)
theorem Rn {R:E→T→T→Prop} {a b:List T} {p:Nat} {ks:List KE} (h:Vu R a b p ks):∀ x,ks.getLast? = some x→∀ w,w ∈ ks→w.at_≤x.at_:=by
 induction h with
 |nil p h=>intro x hx;simp at hx
 |cons p i e ks hp h hi he hr g ih=>
  intro x hx w hw;cases ks with
  |nil=>
   simp at hx hw;rw[← hx,hw];exact Int.le_refl _
  |cons y ys=>
   rw[List.getLast?_cons_cons] at hx;rcases List.mem_cons.1 hw with rfl | hw
   ·have k:=ih x hx y (by simp);obtain⟨j,k1,k2,_⟩:=IU g y (by simp);have:((i:Nat):Int)≤x.at_:=by omega
    exact this
   ·exact ih x hx w hw
theorem Ts {R:E→T→T→Prop} (hR:∀ e x y,R e x y→GY e x=some (Af y)) {a b:List T}:∀ (m p:Nat) (ks:List KE),Vu R a b p ks→∃ L,LA a m p (BJ ks)=some L∧L.length=m∧∀ j,j<m→Af (L.getD j T0)=Af (b.getD (p+j) T0)
 |0,p,ks,h=>⟨[],by rw[LA],rfl,fun j hj=>by omega⟩
 |m+1,p,ks,h=>by
  have ext:∀ (u:T) (L:List T),Af u=Af (b.getD p T0)→L.length=m→(∀ j,j<m→Af (L.getD j T0)=Af (b.getD (p+1+j) T0))→(u::L).length=m+1∧∀ j,j<m+1→Af ((u::L).getD j T0)=Af (b.getD (p+j) T0):=fun u L h0 h1 h2=>by
   refine⟨by simp[h1],fun j hj=>?_⟩;cases j with
   |zero=>simpa using h0
   |succ j=>
    have:=h2 j (by omega);rw[show p+(j+1)=p+1+j from by omega];simpa using this
  cases h with
  |nil _ h=>
   obtain⟨L,k1,k2,k3⟩:=Ts hR m (p+1) [] (.nil _ fun i hi=>h i (by omega));rw[BJ] at k1 ⊢;refine⟨a.getD p T0::L,by rw[Kg (fun x xs e=>by cases e),k1];rfl,ext _ _ (h p (Ek _)) k2 k3⟩
  |cons _ i e ks hp h hi he hr g=>
   by_cases ep:p=i
   ·subst ep;obtain⟨L,k1,k2,k3⟩:=Ts hR m (p+1) ks g;refine⟨Af (b.getD p T0)::L,?_,ext _ _ (Dp _) k2 k3⟩;rw[BJ,PJ rfl (hR _ _ _ hr),k1];rfl
   ·obtain⟨L,k1,k2,k3⟩:=Ts hR m (p+1) (.mk i e::ks) (.cons (p+1) i e ks (by omega) (fun j h1 h2=>h j (by omega) h2) hi he hr g);refine⟨a.getD p T0::L,?_,ext _ _ (h p (Ek _) (by omega)) k2 k3⟩;rw[BJ] at k1 ⊢;rw[Kg (fun x xs ex=>by cases ex;show((i:Nat):Int) ≠ (p:Int);omega),k1];rfl
theorem T6:∀ {l m:List T},l.map Af=m.map Af→(l.zip m).all (fun p=>G7 p.1 p.2)=true
 |[],[],_=>rfl
 |[],y::m,h=>by simp at h
 |x::l,[],h=>by simp at h
 |x::l,y::m,h=>by
  rw[List.map_cons,List.map_cons] at h;rw[List.zip_cons_cons,List.all_cons,Bool.and_eq_true];exact⟨eqT_iff.2 (List.cons.inj h).1,T6 (List.cons.inj h).2⟩
theorem je {R:E→T→T→Prop} (hR:∀ e x y,R e x y→GY e x=some (Af y)) {os:List OP} {a b:List T} (h:LdO R os a b):∀ (tk:List T) (i:Nat),tk.drop i=a→i≤tk.length→∃ B,Cp tk i (CA os)=some (B,tk.length)∧B.map Af=b.map Af:=by
 induction h with
 |nil=>
  intro tk i hd hi;have:tk.length≤i:=by simpa using hd
  exact⟨[],by rw[CA,Cp,show i=tk.length from by omega],rfl⟩
 |@keep os a b l m hne hl _ ih=>
  intro tk i hd hi;have hlen:tk.length-i=l.length+a.length:=by rw[← List.length_drop,hd,List.length_append]
  have hd2:tk.drop (i+l.length)=a:=by rw[← List.drop_drop,hd,List.drop_left]
  obtain⟨B,k1,k2⟩:=ih tk (i+l.length) hd2 (by omega);refine⟨l++B,?_,by rw[List.map_append,List.map_append,hl,k2]⟩;rw[CA,Cp,if_pos rfl,Int.toNat_natCast,if_pos (by omega),k1,hd,List.take_left];rfl
 |@del os a b l m hne hl _ ih=>
  intro tk i hd hi;have hlen:tk.length-i=m.length+a.length:=by rw[← List.length_drop,hd,List.length_append]
  have hl2:l.length=m.length:=by simpa using congrArg List.length hl
  have hd2:tk.drop (i+l.length)=a:=by rw[← List.drop_drop,hd,hl2,List.drop_left]
  obtain⟨B,k1,k2⟩:=ih tk (i+l.length) hd2 (by omega);refine⟨B,?_,k2⟩;rw[CA,Cp,if_neg (by decide),if_pos rfl,if_pos ⟨by omega,by rw[hd,hl2,List.take_left];exact T6 hl.symm⟩,k1]
 |@ins os a b l m hne hl _ ih=>
  intro tk i hd hi;obtain⟨B,k1,k2⟩:=ih tk i hd hi;refine⟨l++B,?_,by rw[List.map_append,List.map_append,hl,k2]⟩;rw[CA,Cp,if_neg (by decide),if_neg (by decide),if_pos rfl,k1];rfl
 |@desc os a b e x y hr _ ih=>
  intro tk i hd hi;have hlen:tk.length-i=a.length+1:=by rw[← List.length_drop,hd,List.length_cons]
  have hd2:tk.drop (i+1)=a:=by rw[← List.drop_drop,hd];rfl
  have hx:tk[i]? = some x:=by
   have:=congrArg (fun l:List T=>l[0]?) hd;simpa using this
  obtain⟨B,k1,k2⟩:=ih tk (i+1) hd2 (by omega);refine⟨Af y::B,?_,by rw[List.map_cons,List.map_cons,k2,Dp]⟩;rw[CA,Cp,if_neg (by decide),if_neg (by decide),if_neg (by decide),hx];dsimp only;rw[hR _ _ _ hr];dsimp only;rw[k1];rfl
theorem VJ {e:E} {a b:T} (h:sd e a b):GY e a=some (Af b):=by
 rcases h with ⟨rfl,h⟩ | ⟨o,n,rfl,h1,h2⟩
 ·rw[HT,Et,if_pos rfl,h]
 ·rw[HT,Et,if_neg (by decide),if_pos rfl,if_pos (eqT_iff.2 h1),h2]
theorem fr:∀ (f:Nat) (e:E) (a b:T),Ld f e a b→GY e a=some (Af b):=by
 intro f;induction f with
 |zero=>exact fun e a b h=>VJ h
 |succ f ih=>
  intro e a b h;rcases h with h | ⟨ws,ks,rfl,h1,h2,h3,h4⟩ | ⟨os,rfl,h1,h2,hv,h3⟩
  ·exact VJ h
  ·obtain⟨L,k1,k2,k3⟩:=Ts ih (Ep (BJ ks) a.kids.length) 0 ks h4;rw[HT,Et,if_neg (by decide),if_neg (by decide),if_pos rfl,if_pos h1,Tq _ 0 ws h3,k1];dsimp only;obtain⟨kb,wb,lb⟩:=b;have h2:kb=1:=h2;subst h2;congr 1;refine struct_eq.2 ⟨fun i=>?_,fun i=>?_⟩
   ·by_cases hi:i<E6 ws a.words.length
    ·simp[List.getD_eq_getElem?_getD,hi,List.getElem?_range']
    ·have hl:∀ w,w ∈ ws→w.at_<(i:Int):=fun w hw=>by
      unfold E6 at hi;cases e:ws.getLast? with
      |none=>rw[List.getLast?_eq_none_iff.1 e] at hw;simp at hw
      |some x=>
       rw[e] at hi;have:=bS h3 x e w hw;simp only at hi;omega
     have hal:a.words.length≤i:=by
      unfold E6 at hi;split at hi<;>omega
     have:=gV h3 i (Nat.zero_le _) hl;have e1:a.words.getD i 0=0:=by rw[List.getD_eq_getElem?_getD,List.getElem?_eq_none hal];rfl
     have e2:((List.range' 0 (E6 ws a.words.length)).map fun j=>wb.getD j 0).getD i 0=0:=by rw[List.getD_eq_getElem?_getD,List.getElem?_eq_none (by simp;omega)];rfl
     have e3:wb.getD i 0=0:=this.symm.trans e1;exact e2.trans e3.symm
   ·by_cases hi:i<Ep (BJ ks) a.kids.length
    ·have:=k3 i hi;rw[Nat.zero_add] at this;exact this
    ·have hl:∀ w,w ∈ ks→w.at_<(i:Int):=fun w hw=>by
      unfold Ep at hi;rw[Ec,List.getLast?_map] at hi;cases e:ks.getLast? with
      |none=>rw[List.getLast?_eq_none_iff.1 e] at hw;simp at hw
      |some x=>
       rw[e] at hi;have:=Rn h4 x e w hw;simp only[Option.map_some] at hi;omega
     have hal:a.kids.length≤i:=by
      unfold Ep at hi;split at hi<;>omega
     have:=jx h4 i (Nat.zero_le _) hl;have e1:a.kids.getD i T0=T0:=by rw[List.getD_eq_getElem?_getD,List.getElem?_eq_none hal];rfl
     have e2:L.getD i T0=T0:=by rw[List.getD_eq_getElem?_getD,List.getElem?_eq_none (by omega)];rfl
     have e3:Af (lb.getD i T0)=Af T0:=this.symm.trans (by rw[e1]);rw[e2,e3]
  ·obtain⟨B,k1,k2⟩:=je ih h3 a.kids 0 rfl (Nat.zero_le _);have n1:a.kind ≠ 0:=by omega
   rw[HT,Et,if_neg (by decide),if_neg (by decide),if_neg (by decide),if_pos rfl,if_pos rfl,k1];dsimp only;rw[if_pos rfl];congr 1;obtain⟨kb,wb,lb⟩:=b;have h1:kb=a.kind:=h1;have hv2:wb=[]:=hv.2;subst h1;subst hv2;exact(Jb n1 (by omega)).2 ⟨rfl,k2⟩
theorem OD {f:Nat} {e:E} {a b:T} (h:Ld f e a b):D0 e a=Af b:=by rw[D0,fr f e a b h];rfl
def jW (c:Cf):Cf:=⟨c.path,c.base,c.theirs,c.ours⟩
def Qd (m:Int):Prop:=0≤m∧m<256
theorem EC:∀ (ws:List WE) (n:Nat),Bu n ws=max n (Bu 0 ws)
 |[],n=>by simp[Bu]
 |w::ws,n=>by
  have e:∀ n,Bu n (w::ws)=Bu (max n (w.at_+1).toNat) ws:=fun n=>rfl;rw[e,e,EC ws,EC ws (max 0 _)];omega
theorem HG:∀ (ws:List KE) (n:Nat),Bf n ws=max n (Bf 0 ws)
 |[],n=>by simp[Bf]
 |w::ws,n=>by
  have e:∀ n,Bf n (w::ws)=Bf (max n (w.at_+1).toNat) ws:=fun n=>rfl;rw[e,e,HG ws,HG ws (max 0 _)];omega
section
variable {P:E→Prop} {M:Cy→T→E→E→T × List Cf}
end
theorem Pj {P:E→Prop} (h0:P E0) {ks:List KE} (h:∀ x,x ∈ ks→P x.e) (i:Nat):P (CQ ks i):=by
 unfold CQ;cases e:ks.find? fun k=>decide (k.at_=(i:Int)) with
 |none=>exact h0
 |some w=>exact h w (List.mem_of_find?_eq_some e)
inductive LdU (R:E→T→T→Prop):List U→List T→List T→Prop
 |nil:LdU R [] [] []
 |keep {us:List U} {a b:List T} (x y:T) (h:Af x=Af y) (g:LdU R us a b):LdU R (.keep::us) (x::a) (y::b)
 |del {us:List U} {a b:List T} (t x:T) (h:Af t=Af x) (g:LdU R us a b):LdU R (.del t::us) (x::a) b
 |ins {us:List U} {a b:List T} (t y:T) (h:Af t=Af y) (g:LdU R us a b):LdU R (.ins t::us) a (y::b)
 |desc {us:List U} {a b:List T} (e:E) (x y:T) (h:R e x y) (g:LdU R us a b):LdU R (.desc e::us) (x::a) (y::b)
theorem Sx {R:E→T→T→Prop} {us:List U} {a b:List T} (g:LdU R us a b):∀ {l m:List T},l.map Af=m.map Af→LdU R (List.replicate l.length .keep++us) (l++a) (m++b)
 |[],[],_=>g
 |[],y::m,h=>by simp at h
 |x::l,[],h=>by simp at h
 |x::l,y::m,h=>by
  rw[List.map_cons,List.map_cons] at h;exact .keep x y (List.cons.inj h).1 (Sx g (List.cons.inj h).2)
theorem V6 {R:E→T→T→Prop} {us:List U} {a b:List T} (g:LdU R us a b):∀ {l m:List T},l.map Af=m.map Af→LdU R (l.map .del++us) (m++a) b
 |[],[],_=>g
 |[],y::m,h=>by simp at h
 |x::l,[],h=>by simp at h
 |x::l,y::m,h=>by
  rw[List.map_cons,List.map_cons] at h;exact .del x y (List.cons.inj h).1 (V6 g (List.cons.inj h).2)
theorem V9 {R:E→T→T→Prop} {us:List U} {a b:List T} (g:LdU R us a b):∀ {l m:List T},l.map Af=m.map Af→LdU R (l.map .ins++us) a (m++b)
 |[],[],_=>g
 |[],y::m,h=>by simp at h
 |x::l,[],h=>by simp at h
 |x::l,y::m,h=>by
  rw[List.map_cons,List.map_cons] at h;exact .ins x y (List.cons.inj h).1 (V9 g (List.cons.inj h).2)
theorem CD (o:OP) (os:List OP):Em (o::os)=Jn o++Em os:=rfl
theorem TV {R:E→T→T→Prop} {os:List OP} {a b:List T} (h:LdO R os a b):LdU R (Em os) a b:=by
 induction h with
 |nil=>exact .nil
 |keep l m hne hl _ ih=>
  rw[CD];have:=Sx ih hl;simpa[Jn] using this
 |del l m hne hl _ ih=>
  rw[CD];have:=V6 ih hl;simpa[Jn] using this
 |ins l m hne hl _ ih=>
  rw[CD];have:=V9 ih hl;simpa[Jn] using this
 |desc e x y r _ ih=>
  rw[CD];have:=LdU.desc e x y r ih;simpa[Jn] using this
theorem Jz {R:E→T→T→Prop} {us:List U} {a b:List T} (h:LdU R us a b):∃ y1 y2,b=y1++y2∧(Ey us).map Af=y1.map Af∧LdU R (Dy us) a y2∧∀ t vs,Dy us ≠ .ins t::vs:=by
 induction h with
 |nil=>exact⟨[],[],rfl,rfl,.nil,fun t vs e=>by cases e⟩
 |keep x y h g _=>exact⟨[],_,rfl,rfl,.keep x y h g,fun t vs e=>by cases e⟩
 |del t x h g _=>exact⟨[],_,rfl,rfl,.del t x h g,fun t vs e=>by cases e⟩
 |desc e x y h g _=>exact⟨[],_,rfl,rfl,.desc e x y h g,fun t vs e=>by cases e⟩
 |ins t y h g ih=>
  obtain⟨y1,y2,rfl,h1,h2,h3⟩:=ih;exact⟨y::y1,y2,rfl,by rw[Ey,List.map_cons,List.map_cons,h,h1],h2,h3⟩
theorem Oa {R:E→T→T→Prop} (h0:∀ x y,Af x=Af y→R E0 x y) {a b:List T} {p:Nat} {ks:List KE} (h:Vu R a b p ks):∀ i:Nat,p≤i→R (CQ ks i) (a.getD i T0) (b.getD i T0):=by
 induction h with
 |nil p h=>exact fun i hi=>h0 _ _ (h i hi)
 |cons p i e ks hp h hi he hr g ih=>
  intro j hj;unfold CQ;rw[List.find?_cons];by_cases ei:i=j
  ·subst ei;simpa using hr
  ·rw[show decide ((KE.mk (i:Nat) e).at_=(j:Int))=false from decide_eq_false (by show ¬ ((i:Nat):Int)=(j:Int);omega)];by_cases c:i<j
   ·exact ih j (by omega)
   ·have hn:ks.find? (fun w=>decide (w.at_=(j:Int)))=none:=List.find?_eq_none.2 fun w hw=>by
     obtain⟨k,k1,k2,_⟩:=IU g w hw;simp;omega
    simp only[hn];exact h0 _ _ (h j hj (by omega))
theorem KF:∀ {ws:List WE} {n:Nat} {w:WE},w ∈ ws→w.at_<Bu n ws
 |x::ws,n,w,h=>by
  show w.at_<Bu (max n (x.at_+1).toNat) ws;rcases List.mem_cons.1 h with rfl | h
  ·rw[EC];omega
  ·exact KF h
theorem U0:∀ {ws:List KE} {n:Nat} {w:KE},w ∈ ws→w.at_<Bf n ws
 |x::ws,n,w,h=>by
  show w.at_<Bf (max n (x.at_+1).toNat) ws;rcases List.mem_cons.1 h with rfl | h
  ·rw[HG];omega
  ·exact U0 h
theorem V3 {α:Type} (g:Nat→α) (z:α) (n i:Nat) (h:n≤i→g i=z):((List.range n).map g).getD i z=g i:=by
 by_cases c:i<n
 ·simp[List.getD_eq_getElem?_getD,c]
 ·rw[List.getD_eq_getElem?_getD,List.getElem?_eq_none (by simp;omega),h (by omega)];rfl
theorem hY {f:Nat} {at':Cy} {o:T} {p q:E} (h:p.kind=0):mg f at' o p q=(D0 q o,[]):=by
 cases f with
 |zero=>exact if_pos h
 |succ f=>rw[mg,if_neg (by omega),if_neg (by omega)];exact if_pos h
end Go.Proofs.YtndnlknocdangaaGreat
namespace Go.Proofs.YtndnlknocdangaaGreat
set_option maxRecDepth 20000
open Go Go.G Go.Proofs
@[simp] theorem zZ:Tryz.prog.underlying 35=some (.slice 51):=by kernel_rfl
@[simp] theorem Aam:Tryz.prog.underlying 49=some (.slice 65):=by kernel_rfl
@[simp] theorem x6:Tryz.prog.underlying 107=some (.slice 27):=by kernel_rfl
@[simp] theorem zB:Tryz.prog.underlying 113=some (.slice 117):=by kernel_rfl
@[simp] theorem AaW:Cz Tryz.prog 35=some 1:=by kernel_rfl
@[simp] theorem Aak:Cz Tryz.prog 49=some 1:=by kernel_rfl
@[simp] theorem AaL:Cz Tryz.prog 51=some 10:=by kernel_rfl
@[simp] theorem Aav:Cz Tryz.prog 65=some 2:=by kernel_rfl
@[simp] theorem AaM:Cz Tryz.prog 66=some 1:=by kernel_rfl
@[simp] theorem zo:Cz Tryz.prog 110=some 1:=by kernel_rfl
@[simp] theorem yC:Cz Tryz.prog 117=some 29:=by kernel_rfl
@[simp] theorem yi:C3 Tryz.prog 35=some false:=by kernel_rfl
@[simp] theorem zx:C3 Tryz.prog 49=some false:=by kernel_rfl
@[simp] theorem yE:C3 Tryz.prog 66=some false:=by kernel_rfl
@[simp] theorem sV:C3 Tryz.prog 110=some false:=by kernel_rfl
@[simp] theorem vU:C3 Tryz.prog 117=some true:=by kernel_rfl
@[simp] theorem wI:A4 Tryz.prog 22=some (Value.slice none 0 0):=by kernel_rfl
@[simp] theorem vX:A4 Tryz.prog 27=some (Value.slice none 0 0):=by kernel_rfl
@[simp] theorem sj:A4 Tryz.prog 51=some (Value.agg #[Value.slice none 0 0,Value.int i64 0,Value.slice none 0 0,Value.slice none 0 0,Value.int i64 0,Value.slice none 0 0,Value.slice none 0 0,Value.int i64 0,Value.slice none 0 0,Value.slice none 0 0]):=by kernel_rfl
@[simp] theorem wJ:A4 Tryz.prog 65=some (Value.agg #[Value.int i64 0,Value.int i64 0]):=by kernel_rfl
@[simp] theorem pD:A4 Tryz.prog 117=some (Value.agg #[Value.int i64 0,Value.int i64 0,Value.int i64 0,Value.slice none 0 0,Value.int i64 0,Value.int i64 0,Value.slice none 0 0,Value.slice none 0 0,Value.int i64 0,Value.slice none 0 0,Value.slice none 0 0,Value.slice none 0 0,Value.slice none 0 0,Value.int i64 0,Value.slice none 0 0,Value.int i64 0,Value.int i64 0,Value.slice none 0 0,Value.int i64 0,Value.int i64 0,Value.slice none 0 0,Value.slice none 0 0,Value.int i64 0,Value.slice none 0 0,Value.slice none 0 0,Value.slice none 0 0,Value.slice none 0 0,Value.int i64 0,Value.slice none 0 0]):=by kernel_rfl
@[simp] theorem re:Bb Tryz.prog 27=some 24:=by kernel_rfl
@[simp] theorem rf:Bb Tryz.prog 51=some 192:=by kernel_rfl
@[simp] theorem qq:Bb Tryz.prog 65=some 16:=by kernel_rfl
@[simp] theorem mI:Bb Tryz.prog 117=some 488:=by kernel_rfl
@[simp] theorem cP:Ak Tryz.prog 68 0=some 0:=by kernel_rfl
@[simp] theorem ai:Ak Tryz.prog 112 0=some 0:=by kernel_rfl
@[simp] theorem aK:Ak Tryz.prog 112 1=some 1:=by kernel_rfl
@[simp] theorem aH:Ak Tryz.prog 112 2=some 2:=by kernel_rfl
@[simp] theorem bh:Ak Tryz.prog 112 3=some 5:=by kernel_rfl
@[simp] theorem ax:Ak Tryz.prog 112 4=some 6:=by kernel_rfl
@[simp] theorem aJ:Ak Tryz.prog 112 5=some 7:=by kernel_rfl
@[simp] theorem aj:Ak Tryz.prog 112 6=some 8:=by kernel_rfl
@[simp] theorem az:Ak Tryz.prog 117 0=some 0:=by kernel_rfl
@[simp] theorem bj:Ak Tryz.prog 117 1=some 1:=by kernel_rfl
@[simp] theorem aQ:Ak Tryz.prog 117 2=some 15:=by kernel_rfl
@[simp] theorem bg:Ak Tryz.prog 179 0=some 0:=by kernel_rfl
@[simp] theorem a6:Ak Tryz.prog 179 1=some 1:=by kernel_rfl
@[simp] theorem qp (ps:List (Nat × A)):BW Tryz.prog 51 ps=(Ct (fun i=>([(0,1),(1,3),(4,3),(7,3)]:List (Nat × Nat))[i]?) [A.sl true [],iv 0,A.sl true [],A.sl true [],iv 0,A.sl true [],A.sl true [],iv 0,A.sl true [],A.sl true []] ps).map A.agg:=by kernel_rfl
@[simp] theorem qu (ps:List (Nat × A)):BW Tryz.prog 65 ps=(Ct (fun i=>([(0,1),(1,1)]:List (Nat × Nat))[i]?) [iv 0,iv 0] ps).map A.agg:=by kernel_rfl
@[simp] theorem rj (ps:List (Nat × A)):BW Tryz.prog 68 ps=(Ct (fun i=>([(0,1)]:List (Nat × Nat))[i]?) [A.sl true []] ps).map A.agg:=by kernel_rfl
@[simp] theorem lF (ps:List (Nat × A)):BW Tryz.prog 112 ps=(Ct (fun i=>([(0,1),(1,1),(2,3),(5,1),(6,1),(7,1),(8,1)]:List (Nat × Nat))[i]?) [A.v (Value.pointer none),A.sl true [],iv 0,A.sl true [],A.sl true [],iv 0,A.sl true [],A.sl true [],A.sl true []] ps).map A.agg:=by kernel_rfl
@[simp] theorem om (ps:List (Nat × A)):BW Tryz.prog 117 ps=(Ct (fun i=>([(0,1),(1,14),(15,14)]:List (Nat × Nat))[i]?) [iv 0,iv 0,iv 0,A.sl true [],iv 0,iv 0,A.sl true [],A.sl true [],iv 0,A.sl true [],A.sl true [],A.sl true [],A.sl true [],iv 0,A.sl true [],iv 0,iv 0,A.sl true [],iv 0,iv 0,A.sl true [],A.sl true [],iv 0,A.sl true [],A.sl true [],A.sl true [],A.sl true [],iv 0,A.sl true []] ps).map A.agg:=by kernel_rfl
@[simp] theorem nL (ps:List (Nat × A)):BW Tryz.prog 179 ps=(Ct (fun i=>([(0,1),(1,1)]:List (Nat × Nat))[i]?) [A.sl true [],iv 0] ps).map A.agg:=by kernel_rfl
def Np:CC:=sR [bX 1 91 0 [0],aI 2 0] [1] (sQ [fO 3 91 1 0,lO 4 3 3,bQ .eql 5 3 4 3 3] [1,5] (cD 5 (sR [aI 2 1] [2] (.ret)) (.skip)) [1] (sR [fO 6 91 1 1,lO 7 3 6,fO 8 91 1 2,lO 9 23 8,bN 10 9 23,bB .add 11 3 7 10 3,aO 2 11] [2] (.ret)))
theorem TD:Ca Tryz.prog 166 12 [(.tmp 2)] Np:=AJ Tryz.func166
def G5:CC:=sR [aB 2 false] [0] (sR [mO 3 0,nC 4 3,fO 5 179 4 0,lO 6 28 5,bN 7 6 28,bQ .eql 8 3 7 0 3,aO 2 8] [2] (.ret))
theorem Ly:Ca Tryz.prog 167 9 [(.tmp 2)] G5:=AJ Tryz.func167
def Gg:CC:=sR [aB 2 false] [0] (sR [mO 3 0,cA 4 167 3 177,oO 5 (.unOp .not 4 (xT 4)),mO 6 5,mG 7 0 6 true,oG 8 (.nilCheck (xT 7)) 6 true,fG 9 179 8 0 6 true,lG 10 28 9 6 true,oG 11 (.indexAddr 28 (xT 10) (nI 0)) 6 true,fG 12 91 11 0 6 true,lG 13 3 12 6 true,mG 14 0 6 true,oG 15 (.nilCheck (xT 14)) 6 true,fG 16 179 15 1 6 true,lG 17 3 16 6 true,oG 18 (bO .eql 3 13 17 3) 6 true,pF 19 6 18,aO 2 19] [2] (.ret))
theorem J7:Ca Tryz.prog 164 20 [(.tmp 2)] Gg:=AJ Tryz.func164
def EE:CC:=sR [mO 50 0,lO 51 91 7,⟨some 52,(.buildSlice 28 1 #[(0,(xT 51))]),none,[5],2,[],true⟩,mO 53 0,nC 54 53,fO 55 179 54 0,⟨some 56,(lD 28 55),none,[],6,[2],false⟩,oO 57 (.slice 28 (xT 56) (some (nI 1)) none none),aP 58 52 57 28 28 [5],nC 59 50,fO 60 179 59 0,sT 28 60 58] [4,6] (sR [lO 61 91 6,sT 91 4 61] [4] (.ret)) 
def G9:CC:=sR [aL 4 91 [1]] [0,1,4] (sR [mO 8 0,nC 9 8,fO 10 179 9 0,lO 11 28 10,oO 12 (.indexAddr 28 (xT 11) (nI 0)),lO 13 91 12,aL 5 91 [2],sT 91 5 13] [0,1,4,5] (sQ [mO 14 1,lO 15 91 5,cA 16 166 15 91,bB .geq 17 3 14 16 3] [0,1,4,5,17] (cD 17 (sR [mO 18 0,mO 19 0,nC 20 19,fO 21 179 20 0,lO 22 28 21,oO 23 (.slice 28 (xT 22) (some (nI 1)) none none),nC 24 18,fO 25 179 24 0,sT 28 25 23] [4,5] (sR [lO 26 91 5,sT 91 4 26] [4] (.ret))) (.skip)) [0,1,4,5] (sR [lS 27 91 5 0,lS 28 91 5 1,⟨some 6,(.alloc 91),none,[3],2,[0,1],true⟩,⟨some 7,(.alloc 91),none,[4],3,[0,1,2],false⟩,⟨none,(.store 91 (xT 6) (xT 27)),none,[],4,[1],false⟩,sT 91 7 28] [0,1,4,5,6,7] (sQ [fO 29 91 5 0,lO 30 3 29,bQ .eql 31 3 30 0 3] [0,1,4,5,6,7,31] (cD 31 (.reg [mO 32 1,fO 33 91 5 1,lS 34 3 33 2,mO 35 1,bB .sub 36 3 34 35 3,fO 37 91 6 1,⟨none,(.store 3 (xT 37) (xT 32)),none,[],6,[2],false⟩,fO 38 91 7 1,sT 3 38 36] [0,4,6,7]) (.reg [fO 39 91 5 2,lO 40 23 39,mO 41 1,mO 42 1,oO 43 (.slice 23 (xT 40) none (some (xT 41)) (some (xT 42))),fO 44 91 5 2,lS 45 23 44 6,mO 46 1,oO 47 (.slice 23 (xT 45) (some (xT 46)) none none),fO 48 91 6 2,⟨none,(.store 23 (xT 48) (xT 43)),none,[],10,[6],false⟩,fO 49 91 7 2,sT 23 49 47] [0,4,6,7])) [0,4,6,7] EE))))
theorem Ln:Ca Tryz.prog 165 62 [(.cell 4 91)] G9:=AJ Tryz.func165
def Ee:CC:=.block 1 (.block 2 (sR [mO 34 0,cA 35 164 34 177,aO 33 35] [0,1,6,33] (cD 33 (.reg [mO 36 6,mO 37 0,mO 38 0,nC 39 38,fO 40 179 39 0,lO 41 28 40,oO 42 (.indexAddr 28 (xT 41) (nI 0)),lO 43 91 42,cA 44 166 43 91,cB 45 165 37 44 177 3,oO 46 (.build 117 #[(0,(nI 1)),(1,(xT 45))]),oO 47 (.buildSlice 113 1 #[(0,(xT 46))]),aP 48 36 47 113 113 [2],aO 6 48] [0,1,6]) (sR [mO 50 1,cA 51 164 50 177,aO 49 51] [0,1,6,49] (cD 49 (.reg [mO 52 6,mO 53 1,mO 54 1,nC 55 54,fO 56 179 55 0,lO 57 28 56,oO 58 (.indexAddr 28 (xT 57) (nI 0)),lO 59 91 58,cA 60 166 59 91,cB 61 165 53 60 177 3,oO 62 (.build 117 #[(0,(nI 2)),(2,(xT 61))]),oO 63 (.buildSlice 113 1 #[(0,(xT 62))]),aP 64 52 63 113 113 [3],aO 6 64] [0,1,6]) (sR [mO 66 0,cA 67 167 66 177,mO 68 67,mG 69 1 68 false,oG 70 (cL 167 #[(xT 69)] #[177]) 68 false,pT 71 68 70,aO 65 71] [0,1,6,65] (cD 65 (sQ [mO 72 0,cA 73 167 72 177,mO 74 1,cA 75 167 74 177,bB .neq 76 4 73 75 4] [6,76] (cD 76 (sR [aN 4,aB 5 false] [4,5] (.ret)) (.skip)) [6] (sR [mO 77 6,aO 4 77,aB 5 true] [4,5] (.ret))) (sR [mO 8 0,nC 9 8,fO 10 179 9 0,lO 11 28 10,oO 12 (.indexAddr 28 (xT 11) (nI 0)),lO 13 91 12,⟨some 14,(cL 166 #[(xT 13)] #[91]),none,[],6,[],true⟩,mO 15 1,nC 16 15,fO 17 179 16 0,⟨some 18,(lD 28 17),none,[],10,[6],false⟩,oO 19 (.indexAddr 28 (xT 18) (nI 0)),⟨some 20,(lD 91 19),none,[],12,[6],false⟩,cA 21 166 20 91,oO 22 (bC .min #[(xT 14),(xT 21)] #[3,3]),aO 7 22] [0,1,6,7] (.reg [mO 23 6,mO 24 0,mO 25 7,cB 26 165 24 25 177 3,mO 27 1,mO 28 7,cB 29 165 27 28 177 3,oO 30 (.build 117 #[(1,(xT 26)),(2,(xT 29))]),oO 31 (.buildSlice 113 1 #[(0,(xT 30))]),aP 32 23 31 113 113 [4],aO 6 32] [0,1,6]))))))))) 
def Nf:CC:=sR [aN 4,aB 5 false] [0,1] (sR [aN 6] [0,1,6] (.block 0 (.loop Ee)))
theorem Ud:Ca Tryz.prog 133 78 [(.tmp 4),(.tmp 5)] Nf:=AJ Tryz.func133
def JY:CC:=sR [aN 4,aB 5 false] [0,1] (sR [mO 6 0,oO 7 (.build 179 #[(0,(xT 6)),(1,(nI 2))]),bX 8 179 7 [0],mO 9 1,oO 10 (.build 179 #[(0,(xT 9)),(1,(nI 2))]),bX 11 179 10 [1],cB 12 133 8 11 177 177,xO 13 12 0,xO 14 12 1,aO 4 13,aO 5 14] [4,5] (.ret))
theorem Py:Ca Tryz.prog 86 15 [(.tmp 4),(.tmp 5)] JY:=AJ Tryz.func86
def Bg:CC:=sR [aN 2] [0] (sQ [mO 3 0,oO 4 (.binOp .eql 49 (xT 3) nS 49)] [0,4] (cD 4 (sR [aN 2] [2] (.ret)) (.skip)) [0] (sR [oO 5 (.buildSlice 49 0 #[]),mO 6 0,aP 7 5 6 49 49 [0],aO 2 7] [2] (.ret)))
theorem BN:Ca Tryz.prog 91 8 [(.tmp 2)] Bg:=AJ Tryz.func91
def GQ:CC:=sR [bX 7 25 2 [1],bX 8 25 3 [2],bX 9 25 4 [3],aL 10 25 [4]] [0,1,7,8,9,10] (sR [mO 11 0,mO 12 0,nC 13 12,fO 14 68 13 0,lS 15 35 14 4,mO 16 1,⟨some 17,(cL 91 #[(xT 16)] #[49]),none,[],6,[4],true⟩,⟨some 18,(lD 25 7),none,[],7,[6],false⟩,⟨some 19,(cL 35 #[(xT 18)] #[25]),none,[],8,[4],true⟩,⟨some 20,(lD 25 8),none,[],9,[6,8],false⟩,⟨some 21,(cL 35 #[(xT 20)] #[25]),none,[],10,[4],true⟩,⟨some 22,(lD 25 9),none,[],11,[6,8,10],false⟩,⟨some 23,(cL 35 #[(xT 22)] #[25]),none,[],12,[4],false⟩,oO 24 (.build 51 #[(0,(xT 17)),(1,(xT 19)),(2,(xT 21)),(3,(xT 23))]),⟨some 25,(.buildSlice 35 1 #[(0,(xT 24))]),none,[],14,[4],false⟩,aP 26 15 25 35 35 [5],nC 27 11,fO 28 68 27 0,sT 35 28 26] [7,10] (sR [lO 29 25 7,sT 25 10 29] [10] (.ret)))
theorem KU:Ca Tryz.prog 58 30 [(.cell 10 25)] GQ:=AJ Tryz.func58
def JX:CC:=sR [aN 6] [0,1,2] (sR [mO 7 0,mO 8 0,bN 9 8 49,mO 10 0,bN 11 10 49,oO 12 (.slice 49 (xT 7) none (some (xT 9)) (some (xT 11))),mO 13 1,mO 14 2,oO 15 (.build 65 #[(0,(xT 13)),(1,(xT 14))]),oO 16 (.buildSlice 49 1 #[(0,(xT 15))]),aP 17 12 16 49 49 [0],aO 6 17] [6] (.ret))
theorem Pz:Ca Tryz.prog 84 18 [(.tmp 6)] JX:=AJ Tryz.func84
def MA:CC:=sR [bX 2 30 0 [0],bX 3 25 1 [1],aL 4 25 [2]] [2,3,4] (sR [lO 8 30 2,lO 9 25 3,cB 10 27 8 9 30 25,mO 7 10,xO 11 7 0,xO 12 7 1,aL 5 25 [3],sT 25 5 11,aO 6 12] [4,5] (sR [lO 13 25 5,sT 25 4 13] [4] (.ret)))
theorem Ue:Ca Tryz.prog 54 14 [(.cell 4 25)] MA:=AJ Tryz.func54
def Br:CC:=sR [bX 7 25 2 [1],bX 8 30 3 [2],bX 9 30 4 [3],aL 10 25 [4]] [0,1,7,8,9,10] (.seq (.block 0 (sR [fO 14 30 8 0,lO 15 3 14,bQ .eql 16 3 15 0 3,aO 13 16] [0,1,7,8,9,10,13] (cD 13 (sR [lO 17 30 9,lO 18 25 7,cB 19 54 17 18 30 25,sT 25 10 19] [10] (.ret)) (sR [fO 21 30 9 0,lO 22 3 21,bQ .eql 23 3 22 0 3,aO 20 23] [0,1,7,8,9,10,20] (cD 20 (sR [lO 24 30 8,lO 25 25 7,cB 26 54 24 25 30 25,sT 25 10 26] [10] (.ret)) (sR [fO 28 30 8 0,lO 29 3 28,bQ .eql 30 3 29 2 3,mO 31 30,fG 32 30 9 0 31 true,lG 33 3 32 31 true,oG 34 (.binOp .eql 3 (xT 33) (nI 2) 3) 31 true,pF 35 31 34,aO 27 35] [0,1,7,8,9,10,27] (cD 27 (sR [mO 36 0,mO 37 1,lO 38 25 7,lO 39 30 8,lO 40 30 9,oO 41 (cL 55 #[(xT 36),(xT 37),(xT 38),(xT 39),(xT 40)] #[66,49,25,30,30]),sT 25 10 41] [10] (.ret)) (sR [fO 43 30 8 0,lO 44 3 43,bQ .eql 45 3 44 3 3,mO 46 45,fG 47 30 9 0 46 true,lG 48 3 47 46 true,oG 49 (.binOp .eql 3 (xT 48) (nI 3) 3) 46 true,pF 50 46 49,aO 42 50] [0,1,7,8,9,10,42] (cD 42 (sR [mO 51 0,mO 52 1,lO 53 25 7,lO 54 30 8,lO 55 30 9,oO 56 (cL 56 #[(xT 51),(xT 52),(xT 53),(xT 54),(xT 55)] #[66,49,25,30,30]),sT 25 10 56] [10] (.ret)) (.skip)))))))))) (.keep [0,1,7,8,9,10] (sR [lS 57 30 8 0,lS 58 25 7 1,⟨some 59,(cL 54 #[(xT 57),(xT 58)] #[30,25]),none,[],2,[],true⟩,⟨some 60,(lD 30 9),none,[],3,[2],true⟩,⟨some 61,(lD 25 7),none,[],4,[2],true⟩,⟨some 62,(cL 54 #[(xT 60),(xT 61)] #[30,25]),none,[],5,[],true⟩,⟨some 11,(.alloc 25),none,[5],6,[0,1,2,3,4,5],true⟩,⟨some 12,(.alloc 25),none,[6],7,[0,1,2,3,4,5,6],false⟩,sT 25 11 59,sT 25 12 62] [0,1,7,10,11,12] (sQ [lO 63 25 11,lO 64 25 12,cB 65 57 63 64 25 25] [0,1,7,10,11,12,65] (cD 65 (sR [lO 66 25 11,sT 25 10 66] [10] (.ret)) (.skip)) [0,1,7,10,11,12] (sR [mO 67 0,mO 68 1,lO 69 25 7,lO 70 25 11,lO 71 25 12,oO 72 (cL 58 #[(xT 67),(xT 68),(xT 69),(xT 70),(xT 71)] #[66,49,25,25,25]),sT 25 10 72] [10] (.ret))))))
theorem BU:Ca Tryz.prog 34 73 [(.cell 10 25)] Br:=AJ Tryz.func34
def KT:CC:=sR [aL 2 25 [0]] [0,2] (sR [mO 3 0,oO 4 (.buildSlice 22 1 #[(0,(xT 3))]),oO 5 (.build 25 #[(0,(nI 1)),(1,(xT 4))]),sT 25 2 5] [2] (.ret))
theorem P3:Ca Tryz.prog 132 6 [(.cell 2 25)] KT:=AJ Tryz.func132
def Ce:CC:=sQ [lO 5 22 2,bN 6 5 22,mO 7 0,bB .leq 8 3 6 7 3] [0,1,2,8] (cD 8 (.skip) (.exit 0)) [0,1,2] (.block 1 (.reg [lO 9 22 2,oO 10 (.buildSlice 22 1 #[(0,(.const (.int .u64 0)))]),aP 11 9 10 22 22 [2],sT 22 2 11] [0,1,2])) 
def FQ:CC:=.seq (.block 0 (.loop Ce)) (.keep [0,1,2] (.reg [lO 12 22 2,mO 13 0,mO 14 1,iO 15 22 12 13,sT 61 15 14] []))
theorem JU:Ca Tryz.prog 131 16 [] FQ:=AJ Tryz.func131
def CI:CC:=sR [lO 99 25 7,mO 100 15,cB 101 90 99 100 25 3,aO 16 101] [0,1,3,4,7,11,12,13,14,15,16] (sR [mO 102 16,fO 103 85 13 3,lO 104 61 103,fO 105 85 13 1,lO 106 5 105,⟨some 107,(cL 126 #[(xT 102),(xT 104),(xT 106)] #[61,61,5]),none,[],5,[],true⟩,mO 108 16,fO 109 85 14 3,⟨some 110,(lD 61 109),none,[],8,[5],false⟩,fO 111 85 14 1,⟨some 112,(lD 5 111),none,[],10,[5],false⟩,cE 113 126 108 110 112 61 61 5,aO 17 107,aO 18 113] [0,1,3,4,7,11,12,13,14,15,16,17,18] (sQ [fO 114 85 13 1,lO 115 5 114,fO 116 85 14 1,lO 117 5 116,bB .and 118 5 115 117 5,aO 19 118] [0,1,3,4,7,11,12,13,14,15,16,17,18,19] (sR [fO 119 85 13 3,lO 120 61 119,mO 121 19,⟨some 122,(cL 126 #[(.const (.int .u64 0)),(xT 120),(xT 121)] #[61,61,5]),none,[],3,[],true⟩,fO 123 85 14 3,⟨some 124,(lD 61 123),none,[],5,[3],false⟩,mO 125 19,oO 126 (cL 126 #[(.const (.int .u64 0)),(xT 124),(xT 125)] #[61,61,5]),bB .neq 127 61 122 126 61] [0,1,3,4,7,11,12,14,15,16,17,18,127] (cD 127 (sR [mO 128 0,mO 129 1,mO 130 15,oO 131 (cL 84 #[(xT 129),(nI 1),(xT 130)] #[49,3,3]),mO 132 16,cA 133 132 132 61,mO 134 17,cA 135 132 134 61,mO 136 18,cA 137 132 136 61,oO 138 (cL 58 #[(xT 128),(xT 131),(xT 133),(xT 135),(xT 137)] #[66,49,25,25,25])] [0,1,3,4,7,11,12] (.exit 1)) (.skip))) [0,1,3,4,7,11,12,14,15,17] (.reg [mO 139 12,mO 140 15,mO 141 17,fO 142 85 14 3,lO 143 61 142,fO 144 85 14 1,lO 145 5 144,cE 146 126 141 143 145 61 61 5,oO 147 (.call { callee:=(.value (xT 139)),args:=#[(xT 140),(xT 146)],argTypes:=#[3,61] })] [0,1,3,4,7,11,12])))
def AF:CC:=sQ [mO 24 3,bN 25 24 26,bQ .gtr 26 3 25 0 3,mO 27 26,mG 28 4 27 false,oG 29 (bL 28 26) 27 false,oG 30 (.binOp .gtr 3 (xT 29) (nI 0) 3) 27 false,pT 31 27 30] [0,1,3,4,7,11,12,31] (cD 31 (.skip) (.exit 0)) [0,1,3,4,7,11,12] (.block 1 (sR [aL 13 85 [3],aL 14 85 [4]] [0,1,3,4,7,11,12,13,14] (sR [aI 15 0] [0,1,3,4,7,11,12,13,14] (.seq (.block 2 (sR [mO 47 4,bN 48 47 26,bQ .eql 49 3 48 0 3,mO 50 49,mG 51 3 50 false,oG 52 (bL 51 26) 50 false,oG 53 (.binOp .gtr 3 (xT 52) (nI 0) 3) 50 false,mG 54 53 50 false,mG 55 3 54 true,oG 56 (.indexAddr 26 (xT 55) (nI 0)) 54 true,fG 57 85 56 0 54 true,lG 58 3 57 54 true,mG 59 4 54 true,oG 60 (.indexAddr 26 (xT 59) (nI 0)) 54 true,fG 61 85 60 0 54 true,lG 62 3 61 54 true,oG 63 (bO .lss 3 58 62 3) 54 true,oG 64 (.pick (xT 54) (xT 63) (nB false)) 50 false,pT 65 50 64,aO 46 65] [0,1,3,4,7,11,12,13,14,46] (cD 46 (.reg [mO 66 3,oO 67 (.indexAddr 26 (xT 66) (nI 0)),lO 68 85 67,mO 69 3,oO 70 (.indexAddr 26 (xT 69) (nI 0)),fO 71 85 70 0,lS 72 3 71 6,mO 73 3,oO 74 (.slice 26 (xT 73) (some (nI 1)) none none),⟨none,(.store 85 (xT 13) (xT 68)),none,[],9,[6],false⟩,aO 15 72,aO 3 74] [0,1,3,4,7,11,12,13,14,15]) (sR [mO 76 3,bN 77 76 26,bQ .eql 78 3 77 0 3,mO 79 78,mG 80 4 79 false,oG 81 (.indexAddr 26 (xT 80) (nI 0)) 79 false,fG 82 85 81 0 79 false,lG 83 3 82 79 false,mG 84 3 79 false,oG 85 (.indexAddr 26 (xT 84) (nI 0)) 79 false,fG 86 85 85 0 79 false,lG 87 3 86 79 false,oG 88 (bO .lss 3 83 87 3) 79 false,pT 89 79 88,aO 75 89] [0,1,3,4,7,11,12,13,14,75] (cD 75 (.reg [mO 90 4,oO 91 (.indexAddr 26 (xT 90) (nI 0)),lO 92 85 91,mO 93 4,oO 94 (.indexAddr 26 (xT 93) (nI 0)),fO 95 85 94 0,lS 96 3 95 6,mO 97 4,oO 98 (.slice 26 (xT 97) (some (nI 1)) none none),⟨none,(.store 85 (xT 14) (xT 92)),none,[],9,[6],false⟩,aO 15 96,aO 4 98] [0,1,3,4,7,11,12,13,14,15]) (.reg [mO 32 3,oO 33 (.indexAddr 26 (xT 32) (nI 0)),lO 34 85 33,mO 35 4,oO 36 (.indexAddr 26 (xT 35) (nI 0)),lS 37 85 36 5,mO 38 3,oO 39 (.indexAddr 26 (xT 38) (nI 0)),fO 40 85 39 0,lS 41 3 40 9,mO 42 3,oO 43 (.slice 26 (xT 42) (some (nI 1)) none none),mO 44 4,oO 45 (.slice 26 (xT 44) (some (nI 1)) none none),⟨none,(.store 85 (xT 13) (xT 34)),none,[],14,[5,9],false⟩,⟨none,(.store 85 (xT 14) (xT 37)),none,[],15,[9],false⟩,aO 15 41,aO 3 43,aO 4 45] [0,1,3,4,7,11,12,13,14,15])))))) (.keep [0,1,3,4,7,11,12,13,14,15] CI))))) 
def GL:CC:=sR [bX 7 25 2 [1],aN 10] [0,1,3,4,7] (sR [fO 20 25 7 1,lO 21 22 20,cA 22 59 21 22,aL 11 22 [2],sT 22 11 22] [0,1,3,4,7,11] (sR [oO 23 (.makeFunc (.func 131) #[] #[(xT 11)]),aO 12 23] [0,1,3,4,7,11,12] (.seq (.block 0 (.loop AF)) (.keep [11] (sR [lO 148 22 11,aO 10 148] [10] (.ret))))))
theorem KK:Ca Tryz.prog 83 149 [(.tmp 10)] GL:=AJ Tryz.func83
def He:CC:=sR [bB .lss 10 3 9 8 3] [1,4,7,8,9,10] (.seq (cD 10 (.skip) (.exit 0)) (.keep [1,4,7,8,9] (.seq (.block 1 (sR [iO 11 27 7 9,lO 12 88 11,aL 6 88 [1],sT 88 6 12] [1,4,6,7,8,9] (sR [fO 13 88 6 0,lO 14 3 13,mO 15 1,bB .eql 16 3 14 15 3] [1,4,6,7,8,9,16] (cD 16 (sR [fO 17 88 6 1,lO 18 30 17,sT 30 4 18] [4] (.ret)) (.skip))))) (.keep [1,4,7,8,9] (.reg [bQ .add 19 3 9 1 3,mO 9 19] [1,4,7,8,9]))))) 
def O7:CC:=sR [aL 4 30 [0]] [0,1,4] (sQ [mO 7 0,bN 8 7 27,oO 9 (.move (nI 0))] [1,4,7,8,9] (.block 0 (.loop He)) [4] (sR [oO 20 (.build 30 #[]),sT 30 4 20] [4] (.ret)))
theorem US:Ca Tryz.prog 85 21 [(.cell 4 30)] O7:=AJ Tryz.func85
def AK:CC:=sR [bB .lss 36 3 35 34 3] [0,1,7,8,9,10,11,12,33,34,35,36] (.seq (cD 36 (.skip) (.exit 0)) (.keep [0,1,7,8,9,10,11,12,33,34,35] (.seq (.block 1 (sR [iO 37 107 33 35,lO 38 27 37,aO 14 38] [0,1,7,8,9,10,11,12,14,33,34,35] (sR [mO 39 14,bN 40 39 27,aO 15 40] [0,1,7,8,9,10,11,12,14,15,33,34,35] (sR [mO 41 15,bQ .gtr 42 3 41 0 3] [0,1,7,8,9,10,11,12,14,15,33,34,35,42] (cD 42 (.reg [mO 43 12,mO 44 14,mO 45 15,bQ .sub 46 3 45 1 3,iO 47 27 44 46,fO 48 88 47 0,lO 49 3 48,bQ .add 50 3 49 1 3,oO 51 (bC .max #[(xT 43),(xT 50)] #[3,3]),aO 12 51] [0,1,7,8,9,10,11,12,33,34,35]) (.skip)))))) (.keep [0,1,7,8,9,10,11,12,33,34,35] (.reg [bQ .add 52 3 35 1 3,mO 35 52] [0,1,7,8,9,10,11,12,33,34,35])))))
def BM:CC:=sR [bB .lss 55 3 54 53 3] [0,1,7,8,9,10,11,53,54,55] (.seq (cD 55 (.skip) (.exit 2)) (.keep [0,1,7,8,9,10,11,53,54] (.seq (.block 3 (sR [mO 56 54,aO 16 56] [0,1,7,8,9,10,11,16,53,54] (.reg [fO 57 25 11 2,lS 58 23 57 1,mO 59 0,mO 60 1,mO 61 16,⟨some 62,(cL 84 #[(xT 60),(nI 0),(xT 61)] #[49,3,3]),none,[],5,[1],true⟩,⟨some 63,(lD 25 7),none,[],6,[5],false⟩,mO 64 16,⟨some 65,(cL 70 #[(xT 63),(xT 64)] #[25,3]),none,[],8,[1],true⟩,fO 66 30 8 4,⟨some 67,(lD 27 66),none,[],10,[5,8],false⟩,mO 68 16,⟨some 69,(cL 85 #[(xT 67),(xT 68)] #[27,3]),none,[],12,[1],true⟩,fO 70 30 9 4,⟨some 71,(lD 27 70),none,[],14,[5,8,12],false⟩,mO 72 16,⟨some 73,(cL 85 #[(xT 71),(xT 72)] #[27,3]),none,[],16,[1],false⟩,⟨some 74,(cL 34 #[(xT 59),(xT 62),(xT 65),(xT 69),(xT 73)] #[66,49,25,30,30]),none,[],17,[1],false⟩,⟨some 75,(.buildSlice 23 1 #[(0,(xT 74))]),none,[],18,[1],false⟩,aP 76 58 75 23 23 [6],fO 77 25 11 2,sT 23 77 76] [0,1,7,8,9,10,11,53,54]))) (.reg [bQ .add 78 3 54 1 3,mO 54 78] [0,1,7,8,9,10,11,53,54])))) 
def EZ:CC:=sR [bX 7 25 2 [1],bX 8 30 3 [2],bX 9 30 4 [3],aL 10 25 [4]] [0,1,7,8,9,10] (sR [mO 17 0,mO 18 1,lO 19 25 7,fO 20 30 8 3,lO 21 26 20,fO 22 30 9 3,lO 23 26 22,oO 24 (cL 83 #[(xT 17),(xT 18),(xT 19),(xT 21),(xT 23)] #[66,49,25,26,26]),oO 25 (.build 25 #[(0,(nI 1)),(1,(xT 24))]),aL 11 25 [5],sT 25 11 25] [0,1,7,8,9,10,11] (sR [fO 26 25 7 2,lO 27 23 26,bN 28 27 23,aO 12 28] [0,1,7,8,9,10,11,12] (sQ [fO 29 30 8 4,lO 30 27 29,fO 31 30 9 4,lO 32 27 31,oO 33 (.buildSlice 107 2 #[(0,(xT 30)),(1,(xT 32))]),bN 34 33 107,oO 35 (.move (nI 0))] [0,1,7,8,9,10,11,12,33,34,35] (.block 0 (.loop AK)) [0,1,7,8,9,10,11,12] (sQ [mO 53 12,oO 54 (.move (nI 0))] [0,1,7,8,9,10,11,53,54] (.block 2 (.loop BM)) [10,11] (sR [lO 79 25 11,sT 25 10 79] [10] (.ret))))))
theorem Ib:Ca Tryz.prog 55 80 [(.cell 10 25)] EZ:=AJ Tryz.func55
def G8:CC:=sR [aL 3 25 [3]] [0,1,3] (sR [lO 4 110 1,nC 5 4,fO 6 112 5 2,fO 7 25 6 0,lO 8 3 7,mO 9 0,oO 10 (.build 25 #[(0,(xT 8)),(2,(xT 9))]),sT 25 3 10] [3] (.ret))
theorem Lo:Ca Tryz.prog 134 11 [(.cell 3 25)] G8:=AJ Tryz.func134
def IC:CC:=sR [bX 1 110 0 [2]] [1] (.seq (.block 0 (sR [lO 33 110 1,nC 34 33,fO 35 112 34 5,lO 36 23 35,bN 37 36 23,bQ .eql 38 3 37 0 3,mO 39 38,lG 40 110 1 39 false,oG 41 (.nilCheck (xT 40)) 39 false,fG 42 112 41 5 39 false,lG 43 23 42 39 false,lG 44 110 1 39 false,oG 45 (.nilCheck (xT 44)) 39 false,fG 46 112 45 6 39 false,lG 47 23 46 39 false,oG 48 (cL 127 #[(xT 43),(xT 47),(.func 57)] #[23,23,38]) 39 false,pT 49 39 48,aO 32 49] [1,32] (cD 32 (.reg [lS 50 110 1 0,lO 51 110 1,nC 52 51,fO 53 112 52 4,lO 54 23 53,lO 55 110 1,nC 56 55,fO 57 112 56 6,lO 58 23 57,⟨some 59,(bC .append #[(xT 54),(xT 58)] #[23,23]),none,[3],9,[0],false⟩,nC 60 50,fO 61 112 60 4,sT 23 61 59] [1]) (sR [lO 63 110 1,nC 64 63,fO 65 112 64 6,lO 66 23 65,bN 67 66 23,bQ .eql 68 3 67 0 3,aO 62 68] [1,62] (cD 62 (.reg [lS 69 110 1 0,lO 70 110 1,nC 71 70,fO 72 112 71 4,lO 73 23 72,lO 74 110 1,nC 75 74,fO 76 112 75 5,lO 77 23 76,⟨some 78,(bC .append #[(xT 73),(xT 77)] #[23,23]),none,[4],9,[0],false⟩,nC 79 69,fO 80 112 79 4,sT 23 80 78] [1]) (sR [oO 3 (.makeFunc (.func 134) #[] #[(xT 1)]),aO 2 3] [1,2] (.reg [lS 4 110 1 0,nC 5 4,fO 6 112 5 0,lS 7 66 6 3,lO 8 110 1,nC 9 8,fO 10 112 9 1,lO 11 49 10,lO 12 110 1,nC 13 12,fO 14 112 13 3,lO 15 3 14,⟨some 16,(cL 84 #[(xT 11),(nI 2),(xT 15)] #[49,3,3]),none,[],12,[0,3],true⟩,mO 17 2,⟨some 18,(.call { callee:=(.value (xT 17)),args:=#[nS],argTypes:=#[23] }),none,[],14,[0,3],true⟩,mO 19 2,⟨some 20,(lD 110 1),none,[],16,[12,14],false⟩,nC 21 20,fO 22 112 21 5,⟨some 23,(lD 23 22),none,[],19,[12,14],false⟩,⟨some 24,(.call { callee:=(.value (xT 19)),args:=#[(xT 23)],argTypes:=#[23] }),none,[],20,[0,3],true⟩,mO 25 2,⟨some 26,(lD 110 1),none,[],22,[12,14,20],false⟩,nC 27 26,fO 28 112 27 6,⟨some 29,(lD 23 28),none,[],25,[12,14,20],false⟩,⟨some 30,(.call { callee:=(.value (xT 25)),args:=#[(xT 29)],argTypes:=#[23] }),none,[],26,[0,3],false⟩,oO 31 (cL 58 #[(xT 7),(xT 16),(xT 18),(xT 24),(xT 30)] #[66,49,25,25,25])] [1]))))))) (.keep [1] (.reg [lO 81 110 1,lS 82 110 1 1,nC 83 81,fO 84 112 83 5,⟨none,(.store 23 (xT 84) nS),none,[],4,[1],false⟩,nC 85 82,fO 86 112 85 6,oS (.store 23 (xT 86) nS)] [])))
theorem NJ:Ca Tryz.prog 87 87 [] IC:=AJ Tryz.func87
def CZ:CC:=sR [bX 4 91 1 [2],bX 5 91 2 [3]] [0,4,5] (sR [mO 8 0,nC 9 8,fO 10 112 9 2,fO 11 25 10 2,lS 12 23 11 4,mO 13 0,nC 14 13,fO 15 112 14 3,lS 16 3 15 8,iO 17 23 12 16,lS 18 25 17 10,⟨some 6,(.alloc 25),none,[4],11,[4,8,10],false⟩,sT 25 6 18] [0,4,5,6] (sR [mO 19 0,nC 20 19,fO 21 112 20 1,lO 22 49 21,mO 23 0,nC 24 23,fO 25 112 24 3,lO 26 3 25,oO 27 (cL 84 #[(xT 22),(nI 0),(xT 26)] #[49,3,3]),aO 7 27] [0,4,5,6,7] (sR [mO 28 0,nC 29 28,fO 30 112 29 3,lO 31 3 30,bQ .add 32 3 31 1 3,nC 33 28,fO 34 112 33 3,sT 3 34 32] [0,4,5,6,7] (.block 0 (sR [fO 57 91 4 0,lO 58 3 57,bQ .eql 59 3 58 1 3,mO 60 59,fG 61 91 5 0 60 true,lG 62 3 61 60 true,oG 63 (.binOp .eql 3 (xT 62) (nI 3) 3) 60 true,pF 64 60 63,aO 56 64] [0,4,5,6,7,56] (cD 56 (.reg [mO 65 0,nC 66 65,fO 67 112 66 4,lS 68 23 67 3,mO 69 0,nC 70 69,fO 71 112 70 0,lS 72 66 71 7,mO 73 7,lS 74 25 6 9,oO 75 (.build 25 #[]),fO 76 91 5 3,lS 77 30 76 12,lS 78 25 6 13,⟨some 79,(cL 54 #[(xT 77),(xT 78)] #[30,25]),none,[],14,[3,7,9],true⟩,⟨some 80,(cL 58 #[(xT 72),(xT 73),(xT 74),(xT 75),(xT 79)] #[66,49,25,25,25]),none,[],15,[3],true⟩,bN 81 68 23,⟨some 82,(.buildSlice 23 1 #[(0,(.const (.agg #[(.int .i64 0),(.slice none 0 0),(.slice none 0 0)])))]),none,[],17,[3,7,9,12,13,14,15],false⟩,aP 83 68 82 23 23 [5],iO 84 23 83 81,⟨none,(.store 25 (xT 84) (xT 80)),none,[],20,[],true⟩,nC 85 65,fO 86 112 85 4,⟨none,(.store 23 (xT 86) (xT 83)),none,[],23,[20],false⟩] []) (sR [fO 88 91 4 0,lO 89 3 88,bQ .eql 90 3 89 3 3,mO 91 90,fG 92 91 5 0 91 true,lG 93 3 92 91 true,oG 94 (.binOp .eql 3 (xT 93) (nI 1) 3) 91 true,pF 95 91 94,aO 87 95] [0,4,5,6,7,87] (cD 87 (.reg [mO 96 0,nC 97 96,fO 98 112 97 4,lS 99 23 98 3,mO 100 0,nC 101 100,fO 102 112 101 0,lS 103 66 102 7,mO 104 7,lS 105 25 6 9,fO 106 91 4 3,lS 107 30 106 11,lS 108 25 6 12,⟨some 109,(cL 54 #[(xT 107),(xT 108)] #[30,25]),none,[],13,[3,7,9],true⟩,oO 110 (.build 25 #[]),⟨some 111,(cL 58 #[(xT 103),(xT 104),(xT 105),(xT 109),(xT 110)] #[66,49,25,25,25]),none,[],15,[3],true⟩,bN 112 99 23,⟨some 113,(.buildSlice 23 1 #[(0,(.const (.agg #[(.int .i64 0),(.slice none 0 0),(.slice none 0 0)])))]),none,[],17,[3,7,9,11,12,13,15],false⟩,aP 114 99 113 23 23 [6],iO 115 23 114 112,⟨none,(.store 25 (xT 115) (xT 111)),none,[],20,[],true⟩,nC 116 96,fO 117 112 116 4,⟨none,(.store 23 (xT 117) (xT 114)),none,[],23,[20],false⟩] []) (sR [fO 119 91 4 0,lO 120 3 119,bQ .eql 121 3 120 1 3,mO 122 121,fG 123 91 5 0 122 false,lG 124 3 123 122 false,oG 125 (.binOp .eql 3 (xT 124) (nI 1) 3) 122 false,pT 126 122 125,aO 118 126] [0,4,5,6,7,118] (cD 118 (.skip) (.reg [mO 35 0,nC 36 35,fO 37 112 36 4,lS 38 23 37 3,mO 39 0,nC 40 39,fO 41 112 40 0,lS 42 66 41 7,mO 43 7,lS 44 25 6 9,fO 45 91 4 3,lS 46 30 45 11,fO 47 91 5 3,lS 48 30 47 13,⟨some 49,(cL 34 #[(xT 42),(xT 43),(xT 44),(xT 46),(xT 48)] #[66,49,25,30,30]),none,[],14,[3],true⟩,bN 50 38 23,⟨some 51,(.buildSlice 23 1 #[(0,(.const (.agg #[(.int .i64 0),(.slice none 0 0),(.slice none 0 0)])))]),none,[],16,[3,7,9,11,13,14],false⟩,aP 52 38 51 23 23 [7],iO 53 23 52 50,⟨none,(.store 25 (xT 53) (xT 49)),none,[],19,[],true⟩,nC 54 35,fO 55 112 54 4,⟨none,(.store 23 (xT 55) (xT 52)),none,[],22,[19],false⟩] [])))))))))))
theorem Eu:Ca Tryz.prog 88 127 [] CZ:=AJ Tryz.func88
def CJ:CC:=sR [bB .lss 49 3 48 47 3] [7,10,11,15,29,30,31,47,48,49] (.seq (cD 49 (.skip) (.exit 3)) (.keep [7,10,11,15,29,30,31,47,48] (.seq (.block 4 (.reg [mO 50 11,fO 51 117 15 1,lO 52 91 51,fO 53 117 15 2,lO 54 91 53,cE 55 88 50 52 54 110 91 91] [7,10,11,15,29,30,31,47,48])) (.reg [bQ .add 56 3 48 1 3,mO 48 56] [7,10,11,15,29,30,31,47,48]))))
def Bv:CC:=sR [bB .lss 32 3 31 30 3] [7,10,11,29,30,31,32] (.seq (cD 32 (.skip) (.exit 0)) (.keep [7,10,11,29,30,31] (.seq (.block 1 (sR [iO 33 113 29 31,lO 34 117 33,aL 15 117 [6],sT 117 15 34] [7,10,11,15,29,30,31] (sR [fO 35 117 15 0,lO 36 3 35] [7,10,11,15,29,30,31,36] (.block 2 (sR [bQ .eql 58 3 36 1 3,aO 57 58] [7,10,11,15,29,30,31,36,57] (cD 57 (.reg [mO 59 11,mO 60 11,nC 61 60,fO 62 112 61 5,lO 63 23 62,fO 64 117 15 1,fO 65 91 64 2,lO 66 23 65,aP 67 63 66 23 23 [7],nC 68 59,fO 69 112 68 5,sT 23 69 67] [7,10,11,29,30,31]) (sR [bQ .eql 71 3 36 2 3,aO 70 71] [7,10,11,15,29,30,31,70] (cD 70 (.reg [mO 72 11,mO 73 11,nC 74 73,fO 75 112 74 6,lO 76 23 75,fO 77 117 15 2,fO 78 91 77 2,lO 79 23 78,aP 80 76 79 23 23 [8],nC 81 72,fO 82 112 81 6,sT 23 82 80] [7,10,11,29,30,31]) (sR [mO 37 11,cA 38 87 37 110] [7,10,11,15,29,30,31] (sR [fO 39 117 15 1,fO 40 91 39 1,lO 41 3 40,fO 42 117 15 1,fO 43 91 42 2,lO 44 23 43,bN 45 44 23,bB .add 46 3 41 45 3,oO 47 (bC .max #[(xT 46),(nI 1)] #[3,3]),oO 48 (.move (nI 0))] [7,10,11,15,29,30,31,47,48] (.block 3 (.loop CJ)))))))))))) (.keep [7,10,11,29,30,31] (.reg [bQ .add 83 3 31 1 3,mO 31 83] [7,10,11,29,30,31]))))) 
def GM:CC:=sR [bX 7 25 2 [1],bX 8 30 3 [2],bX 9 30 4 [3],aL 10 25 [4]] [0,1,7,8,9,10] (sR [mO 16 0,mO 17 1,lO 18 25 7,oO 19 (.build 112 #[(0,(xT 16)),(1,(xT 17)),(2,(xT 18))]),bX 20 112 19 [5],aO 11 20] [7,8,9,10,11] (sR [fO 22 30 8 6,lO 23 28 22,fO 24 30 9 6,lO 25 28 24,cB 26 86 23 25 28 28,mO 21 26,xO 27 21 0,xO 28 21 1,aO 12 27,aO 13 28] [7,10,11,12] (sQ [mO 29 12,bN 30 29 113,oO 31 (.move (nI 0))] [7,10,11,29,30,31] (.block 0 (.loop Bv)) [7,10,11] (.stop (sR [mO 84 11,cA 85 87 84 110] [7,10,11] (sR [fO 86 25 7 0,lO 87 3 86,mO 88 11,nC 89 88,fO 90 112 89 4,lO 91 23 90,oO 92 (.build 25 #[(0,(xT 87)),(2,(xT 91))]),sT 25 10 92] [10] (.ret)))))))
theorem Ke:Ca Tryz.prog 56 93 [(.cell 10 25)] GM:=AJ Tryz.func56
def IK:CC:=sR [bX 3 25 0 [0],bX 4 30 1 [1],bX 5 30 2 [2],aL 6 25 [3],aN 7,aB 8 false] [3,4,5,6] (sR [lO 16 30 4,lO 17 25 3,cB 18 27 16 17 30 25,mO 15 18,xO 19 15 0,xO 20 15 1,aL 9 25 [4],sT 25 9 19,aO 10 20] [3,4,5,6,10] (sR [lO 22 30 5,lO 23 25 3,cB 24 27 22 23 30 25,mO 21 24,xO 25 21 0,xO 26 21 1,aL 11 25 [5],sT 25 11 25,aO 12 26] [3,4,5,6,10,12] (sQ [mO 27 10,oO 28 (.unOp .not 4 (xT 27)),mO 29 28,mG 30 12 29 false,oG 31 (.unOp .not 4 (xT 30)) 29 false,pT 32 29 31] [3,4,5,6,32] (cD 32 (sR [oO 33 (.build 25 #[]),sT 25 6 33,aN 7,aB 8 false] [6,7,8] (.ret)) (.skip)) [3,4,5,6] (sR [oO 34 (.build 68 #[]),bX 35 68 34 [6],aO 13 35] [3,4,5,6,13] (.stop (sR [mO 36 13,lO 37 25 3,lO 38 30 4,lO 39 30 5,oO 40 (cL 34 #[(xT 36),nS,(xT 37),(xT 38),(xT 39)] #[66,49,25,30,30]),aL 14 25 [7],sT 25 14 40] [6,13,14] (sR [lO 41 25 14,⟨some 42,(cL 35 #[(xT 41)] #[25]),none,[],1,[],true⟩,mO 43 13,nC 44 43,fO 45 68 44 0,⟨some 46,(lD 35 45),none,[],5,[1],true⟩,⟨none,(.store 25 (xT 6) (xT 42)),none,[],6,[5],false⟩,aO 7 46,aB 8 true] [6,7,8] (.ret))))))))
theorem LF:Ca Tryz.prog 14 47 [(.cell 6 25),(.tmp 7),(.tmp 8)] IK:=AJ Tryz.func14
def LI:CC:=sR [bX 4 25 0 [0],bX 5 25 1 [1],bX 6 25 2 [2],aL 8 25 [3],aN 9] [3,4,5,6,8] (sR [lS 14 25 4 0,⟨some 15,(cL 35 #[(xT 14)] #[25]),none,[],1,[],true⟩,⟨some 16,(lD 25 4),none,[],2,[1],true⟩,⟨some 17,(lD 25 5),none,[],3,[1],true⟩,mO 18 3,⟨some 19,(cL 26 #[(xT 16),(xT 17),(xT 18)] #[25,25,3]),none,[],5,[],true⟩,⟨some 20,(lD 25 4),none,[],6,[1,5],true⟩,⟨some 21,(lD 25 6),none,[],7,[1,5],true⟩,mO 22 3,⟨some 23,(cL 26 #[(xT 20),(xT 21),(xT 22)] #[25,25,3]),none,[],9,[],true⟩,⟨some 24,(cL 14 #[(xT 15),(xT 19),(xT 23)] #[25,30,30]),none,[],10,[],true⟩,mO 13 24,xO 25 13 0,xO 26 13 1,xO 27 13 2,⟨some 10,(.alloc 25),none,[4],15,[0,1,2,3,5,6,7,9,10],false⟩,sT 25 10 25,aO 11 26,aO 12 27] [8,10,11] (sR [lO 28 25 10,mO 29 11,sT 25 8 28,aO 9 29] [8,9] (.ret)))
theorem RN:Ca Tryz.prog 19 30 [(.cell 8 25),(.tmp 9)] LI:=AJ Tryz.func19
end Go.Proofs.YtndnlknocdangaaGreat
namespace Go.G
open Go
theorem Xo {P:Program} {f:FuncId} {n:Nat} {rs:List ResultVar} {cc:CC} {as':Nat→Nat→List A} {F F':N6} {x:Nat→Nat→A} (t:Ca P f n rs cc) (ha:(as' 0 1).length≤n) (h0:R2 as') (h1:R1 x)
  (h:∀ w0 I0 M0 m0,(∀ r p b,2≤r→¬ M0 (r::p) b)→WPC (HS P w0 I0 M0 n m0) cc (Lp (HS P w0 I0 M0 n m0) rs 2 (x 0 1) (ov 0 (F'.B 0 1) (ov 1 (F'.C 0 1) (Ga [])))) ⟨Mw (as' 0 1),ov 0 (F.B 0 1) (ov 1 (F.C 0 1) (Ga []))⟩):KW P f as' F x F':=
 ⟨h0,h1,Lb t ha fun w0 I0 M0 m0 hM=>h w0 I0 M0 m0 fun r p b hr=>hM (r::p) b (by
  simp only[AV];rw[if_neg (by omega),if_neg (by omega)];rfl)⟩
end Go.G
namespace Go.Proofs.YtndnlknocdangaaGreat
open Go Go.G Go.Proofs Go.PL
def AaC (u:Nat) (cs:List A) (h:∀ x,x ∈ cs→Fj (fun _=>x)):Fam:=⟨fun _ p=>if p=[] then ⟨u,.cells cs⟩ else ⟨0,.none⟩,fun {g δ r r'} hg hd p=>by
  by_cases hp:p=[]
  ·rw[if_pos hp];exact Fam.cells_ren ((FamL.all h).ren hg hd)
  ·rw[if_neg hp];rfl,fun {D r} hD p=>by
  by_cases hp:p=[]
  ·rw[if_pos hp];exact(FamL.all h).refs hD
  ·rw[if_neg hp];trivial⟩
theorem FH (o:OP):Fj (fun _=>oX o):=IZ (cs:=iv o.kind::iv o.n::Bz o.l::eL o.e) rfl fun x hx=>by simp at hx;rcases hx with rfl | rfl | rfl | rfl | rfl | rfl | rfl | rfl | rfl | rfl | rfl | rfl | rfl | rfl<;>rfl
def Rt (v:Nat) (l:List OP) (al:Int):Fam:=AaC v [IJ l,iv al] fun x hx=>by
 simp at hx;rcases hx with rfl | rfl
 ·exact BZ
 ·exact FY
@[simp] theorem AbV {v:Nat} {l:List OP} {al:Int} {r:Nat} {p:Nm}:(Rt v l al).F r p=if p=[] then ⟨v,.cells [IJ l,iv al]⟩ else ⟨0,.none⟩:=rfl
def Pu (o:OP):Int:=if o.kind=3 then 1 else o.n+o.l.length
def rh (o:OP) (n:Nat):OP:=if o.kind=0 then .mk o.kind n o.l o.e else .mk o.kind o.n (o.l.take n) o.e
def bt (o:OP) (n:Nat):OP:=if o.kind=0 then .mk o.kind (o.n-n) o.l o.e else .mk o.kind o.n (o.l.drop n) o.e
def J2 (o:OP) (n:Nat):OP:=if Pu o≤n then o else rh o n
def Lq (o:OP) (n:Nat) (l:List OP):List OP:=if Pu o≤n then l else bt o n::l
def ld (al:Int):List OP→Bool
 |[]=>false
 |o::_=>decide (o.kind=al)
def Un (x:OP):Prop:=Hh x∧(x.kind=1∨x.kind=2→x.l ≠ [])∧x.l.length≤1048576
theorem KS {x:OP} (h:Un x):1≤Pu x∧Pu x≤2097152:=by
 obtain⟨h1,h2,h3⟩:=h;unfold Pu;rcases h1 with ⟨k,a,b,c⟩ | ⟨k,a⟩ | ⟨k,a⟩ | ⟨k,a,b⟩
 ·rw[if_neg (by omega),c];simp;omega
 ·have:=List.length_pos_iff.2 (h2 (.inl k));rw[if_neg (by omega)];omega
 ·have:=List.length_pos_iff.2 (h2 (.inr k));rw[if_neg (by omega)];omega
 ·rw[if_pos k];omega
theorem HW {o:OP} (h:Un o):G.Spec Tryz.prog 166 [oX o] (iv (Pu o)):=by
 have hs:=KS h;refine Ag TD (by simp) fun w0 I0=>?_;unfold Np;by_cases h3:o.kind=3
 ·have:Pu o=1:=if_pos h3;rw[this];simp[h3];exact Ad rfl
 ·have e:Pu o=o.n+o.l.length:=if_neg h3;rw[e] at hs ⊢;have ew:i64.wrap (o.n+o.l.length)=o.n+o.l.length:=Hl;simp[h3,ew];exact Ad rfl
theorem HP (v:Nat) (l:List OP) (al:Int):SpecF Tryz.prog 167 (fun q=>[.pob [q] v 0]) (Rt v l al) (fun _=>bv l.isEmpty) (Rt v l al):=by
 refine BO Ly (by simp) (Ai AX Ax) FY fun w0 I0 M0 m0=>?_;unfold G5;simp;refine A6 (r0:=bv l.isEmpty) ?_ rfl (fun p=>by simp);cases l<;>simp
theorem DH (v:Nat) (l:List OP) (al:Int):SpecF Tryz.prog 164 (fun q=>[.pob [q] v 0]) (Rt v l al) (fun _=>bv (ld al l)) (Rt v l al):=by
 refine BO J7 (by simp) (Ai AX Ax) FY fun w0 I0 M0 m0=>?_;unfold Gg;have D:=HP v l al;cases l with
 |nil=>
  simp;refine Ev 0 D (fun p=>by simp) (by simp) (by simp) ?_;simp;exact A6 (r0:=bv false) (by simp) rfl (fun p=>by simp)
 |cons o l=>
  simp;refine Ev 0 D (fun p=>by simp) (by simp) (by simp) ?_;simp;exact A6 (r0:=bv (decide (o.kind=al))) (by simp) rfl (fun p=>by simp)
def pY (x:Bool × OP):A:=.agg (iv x.2.kind::iv x.2.n :: .sl x.1 (x.2.l.map tA)::eL x.2.e)
@[simp] theorem pO (x:Bool × OP):(pY x).cells=iv x.2.kind::iv x.2.n :: .sl x.1 (x.2.l.map tA)::eL x.2.e:=rfl
theorem ij (l:List OP):(l.map fun o=>((false,o):Bool × OP)).map pY=l.map oA:=by
 rw[List.map_map];exact List.map_congr_left fun o _=>by simp[pY]
theorem gL {H:Hp} {u n:Nat} {d:Nm} {l:List (Bool × OP)} (h:vr (H d) u=some (14,l.map pY)) (hn:n=l.length):Gu H (.osl d u 14 0 n) (IJ (l.map Prod.snd)):=by
 have:=Nq (g:=fun x=>oA x.2) h hn (fun x _=>by
  obtain⟨b,o⟩:=x;simp[A.soft,A.softL,FI,D5,MZ,Qh,Qs,A.ones,A.bare])
 rw[show IJ (l.map Prod.snd) = .sl false (l.map fun x=>oA x.2) from by rw[IJ,List.map_map];rfl];exact this
abbrev Lm (o:OP):List A:=iv o.kind::iv o.n::Bz o.l::eL o.e
def RJ:List A:=[iv 0,iv 0,.sl true [],iv 0,iv 0,.sl true [],.sl true [],iv 0,.sl true [],.sl true [],.sl true [],.sl true [],iv 0,.sl true []]
section
variable {v:Nat} {al:Int} {w0:World} {I0:Nat→Prop} {M0:Nm→Nat→Prop} {m0:Mu}
theorem eV {l:List OP} (hM:∀ (r:Nat) (p:List Nat) (b:Nat),1≤r→¬M0 (r::p) b) {o1 o2:OP} {b1 b2:Bool} {H:Hp} (h0:∀ p,p ≠ []→H (0::p)=⟨0,.none⟩) (h00:H [0]=⟨v,.cells [.osl [5] 2 14 0 (1+l.length),iv al]⟩)
  (h1:H [1]=⟨1,.cells (iv o1.kind::iv o1.n :: .sl b1 (o1.l.map tA)::eL o1.e)⟩) (h5:H [5]=⟨2,.arr 14 (pY (b2,o2)::l.map oA)⟩) :
  Lp (HS Tryz.prog w0 I0 M0 62 m0) [ResultVar.cell 4 91] 1 (oX o1) (ov 0 ((Rt v (o2::l) al).F 0) (Ga [])) .ret ⟨lk [(4,.pob [1] 1 0)],H⟩:=by
 obtain⟨H2,g1,g2⟩:=HX (c:=HS Tryz.prog w0 I0 M0 62 m0) (s:=lk [(4,.pob [1] 1 0)]) (H:=H) (fun r=>r=5) (fun r p b h=>hM r p b (by omega)) (r0:=0) (p0:=[]) (by omega) (u:=v) (cs:=[.osl [5] 2 14 0 (1+l.length),iv al]) h00 (cs':=[IJ (o2::l),iv al]) (by simp[A.ones]) (fun H1 h1=>⟨by
  have e5:=h1 5 [] rfl;have:=gL (H:=H1) (u:=2) (n:=1+l.length) (d:=[5]) (l:=(b2,o2)::l.map fun o=>(false,o)) (by
   rw[e5,List.map_cons,ij,h5];simp) (by simp;omega)
  rw[show((b2,o2)::l.map fun o=>((false,o):Bool × OP)).map Prod.snd=o2::l from by simp[Function.comp_def]] at this;exact this,Ad rfl,trivial⟩)
 refine Ha g1 ?_;have k1:=g2 1 [] (by omega);rw[h1] at k1;obtain⟨H3,g3,g4⟩:=HX (c:=HS Tryz.prog w0 I0 M0 62 m0) (s:=lk [(4,.pob [1] 1 0)]) (H:=Ay H2 [0] ⟨v,.cells [IJ (o2::l),iv al]⟩) (fun _=>False) (fun _ _ _ h=>h.elim) (r0:=1) (p0:=[]) (by simp) (u:=1) (cs:=iv o1.kind::iv o1.n :: .sl b1 (o1.l.map tA)::eL o1.e) (by simp[Aa,k1]) (cs':=Lm o1) (by simp[A.ones]) (fun H1 h1=>⟨Ad rfl,Ad rfl,Ah,KZ (by simp)⟩);refine Ha g3 (A6 (r0:=oX o1) (by simp[EK]) rfl fun p=>?_);have k2:=g4 0 p (by simp);by_cases hp:p=[]
 ·subst hp;simp[Aa,k2]
 ·have k3:=g2 0 p (by omega);rw[h0 p hp] at k3;simp[Aa,hp] at k2 ⊢;rw[k2,k3]
theorem Tu {o:OP} {l:List OP} (hl:l.length≤10000000) (hM:∀ (r:Nat) (p:List Nat) (b:Nat),1≤r→¬M0 (r::p) b) {o1 o2:OP} {b1 b2:Bool} {H:Hp} (h0:∀ p,H (0::p)=(Rt v (o::l) al).F 0 p) (h1:H [1]=⟨1,.cells RJ⟩)
  (h3:H [3]=⟨1,.cells (iv o1.kind::iv o1.n :: .sl b1 (o1.l.map tA)::eL o1.e)⟩) (h4:H [4]=⟨1,.cells (iv o2.kind::iv o2.n :: .sl b2 (o2.l.map tA)::eL o2.e)⟩) (h5:H [5]=⟨0,.none⟩) :
  WPC (HS Tryz.prog w0 I0 M0 62 m0) EE (Lp (HS Tryz.prog w0 I0 M0 62 m0) [ResultVar.cell 4 91] 1 (oX o1) (ov 0 ((Rt v (o2::l) al).F 0) (Ga []))) ⟨lk [(0,.pob [0] v 0),(4,.pob [1] 1 0),(6,.pob [3] 1 0),(7,.pob [4] 1 0)],H⟩:=by
 have c1':(1:Int)≤(l.length:Int)+1:=by omega
 have e00:H [0]=⟨v,.cells [IJ (o::l),iv al]⟩:=by rw[h0];simp
 rw[EE.eq_1];simp[h1,h3,h4,h5,e00,c1',Aa,RJ];refine⟨by omega,?_⟩;refine eV hM (b1:=b1) (b2:=b2) (fun p hp=>?_) ?_ ?_ ?_
 ·have:=h0 p;simp[hp] at this;simp[Aa,hp,this]
 ·simp[Aa]
 ·simp[Aa]
 ·simp[Aa,pY,AN]
end
theorem Jw {o:OP} {l:List OP} (h:Un o) (hl:l.length≤10000000) {n:Nat} (hn:1≤n) (v:Nat) (al:Int):SpecF Tryz.prog 165 (fun q=>[.pob [q] v 0,iv n]) (Rt v (o::l) al) (fun _=>oX (J2 o n)) (Rt v (Lq o n l) al):=by
 have S:=HW h;have hs:=KS h;refine IY Ln (by simp) (Ai AX (Ai FY Ax)) (FH _) fun w0 I0 M0 m0 hM=>?_;unfold G9;simp;refine Ae S (by simp) ?_;by_cases c:Pu o≤n
 ·have e1:J2 o n=o:=if_pos c;have e2:Lq o n l=l:=if_pos c;rw[e1,e2];have c1':(1:Int)≤(l.length:Int)+1:=by omega
  simp[c,c1',AN];refine A6 (r0:=oX o) (by simp[EK]) rfl fun p=>?_;by_cases hp:p=[]
  ·subst hp;simp[Aa]
  ·simp[Aa,hp]
 ·have e1:J2 o n=rh o n:=if_neg c;have e2:Lq o n l=bt o n::l:=if_neg c;have c0:=c;rw[e1,e2];unfold Pu at c;rcases h.1 with ⟨k,a,b,d⟩ | ⟨k,a⟩ | ⟨k,a⟩ | ⟨k,a,b⟩
  ·have ew:i64.wrap (o.n-n)=o.n-n:=Hl;have e3:rh o n = .mk o.kind n o.l o.e:=if_pos k;have e4:bt o n = .mk o.kind (o.n-n) o.l o.e:=if_pos k;simp[c0,k,ew];rw[e3,e4];exact Tu (o:=o) hl hM (o1:=.mk o.kind n o.l o.e) (o2:=.mk o.kind (o.n-n) o.l o.e) (b1:=false) (b2:=false) (fun p=>by simp) (by simp[RJ]) (by simp[k]) (by simp[k]) (by simp)
  ·have e3:rh o n = .mk o.kind o.n (o.l.take n) o.e:=if_neg (by omega);have e4:bt o n = .mk o.kind o.n (o.l.drop n) o.e:=if_neg (by omega);rw[if_neg (by omega),a] at c;have c5:n≤o.l.length:=by omega
   have c6:(n:Int)≤o.l.length:=by omega
   have c7:Cj o.l.length none (some (iv n)) (some (iv n))=some (0,n,some n):=by simp[Cj,EG,c5,c6]
   have c8:List.take (o.l.length-n) (List.drop n (o.l.map tA))=(o.l.drop n).map tA:=by rw[List.map_drop];exact AN (by simp)
   have c9:List.take n (o.l.map tA)=(o.l.take n).map tA:=by rw[List.map_take]
   simp[c0,k,c5,c6,c7,c8,F2];rw[e3,e4,c9];exact Tu (o:=o) hl hM (o1:=.mk o.kind o.n (o.l.take n) o.e) (o2:=.mk o.kind o.n (o.l.drop n) o.e) (b1:=true) (b2:=false) (fun p=>by simp) (by simp[RJ]) (by simp[k]) (by simp[k]) (by simp)
  ·have e3:rh o n = .mk o.kind o.n (o.l.take n) o.e:=if_neg (by omega);have e4:bt o n = .mk o.kind o.n (o.l.drop n) o.e:=if_neg (by omega);rw[if_neg (by omega),a] at c;have c5:n≤o.l.length:=by omega
   have c6:(n:Int)≤o.l.length:=by omega
   have c7:Cj o.l.length none (some (iv n)) (some (iv n))=some (0,n,some n):=by simp[Cj,EG,c5,c6]
   have c8:List.take (o.l.length-n) (List.drop n (o.l.map tA))=(o.l.drop n).map tA:=by rw[List.map_drop];exact AN (by simp)
   have c9:List.take n (o.l.map tA)=(o.l.take n).map tA:=by rw[List.map_take]
   simp[c0,k,c5,c6,c7,c8,F2];rw[e3,e4,c9];exact Tu (o:=o) hl hM (o1:=.mk o.kind o.n (o.l.take n) o.e) (o2:=.mk o.kind o.n (o.l.drop n) o.e) (b1:=true) (b2:=false) (fun p=>by simp) (by simp[RJ]) (by simp[k]) (by simp[k]) (by simp)
  ·rw[if_pos k] at c;omega
inductive Pc where
 |a (o:OP)
 |b (o:OP)
 |both (o o':OP)
inductive YW:List OP→List OP→List Pc→Prop
 |nil:YW [] [] []
 |fst (p:OP) (ps qs:List OP) (l:List Pc) (h:p.kind=2) (g:YW ps qs l):YW (p::ps) qs (.a p::l)
 |snd (ps:List OP) (q:OP) (qs:List OP) (l:List Pc) (hp:ld 2 ps=false) (h:q.kind=2) (g:YW ps qs l):YW ps (q::qs) (.b q::l)
 |both (p:OP) (ps:List OP) (q:OP) (qs:List OP) (n:Nat) (l:List Pc) (hp:p.kind ≠ 2) (hq:q.kind ≠ 2) (hn:(n:Int)=min (Pu p) (Pu q)) (g:YW (Lq p n ps) (Lq q n qs) l):YW (p::ps) (q::qs) (.both (J2 p n) (J2 q n)::l)
def RS (R:E→T→T→Prop) (o:OP) (t:T):Prop:=(o.kind=0∧o.e=E0)∨(o.kind=1∧o.e=E0)∨(o.kind=3∧∃ x,R o.e t x)
def Lr (o:OP):Nat:=max (o.n.toNat+o.l.length) 1
def IM (o:OP):U:=if o.kind=0 then .keep else if o.kind=1 then .del T0 else .desc o.e
def J0:U→U→Prop
 |.keep,.keep=>True
 |.del _,.del _=>True
 |.desc e,.desc e'=>e=e'
 |_,_=>False
inductive LC (R:E→T→T→Prop):List Pc→List T→Prop
 |nil:LC R [] []
 |a (o:OP) (l:List Pc) (a:List T) (h:o.kind=2) (g:LC R l a):LC R (.a o::l) a
 |b (o:OP) (l:List Pc) (a:List T) (h:o.kind=2) (g:LC R l a):LC R (.b o::l) a
 |both (o o':OP) (l:List Pc) (a1 a2:List T) (hn:a1.length=Lr o) (hl:0≤o.n) (h:∀ t,t ∈ a1→RS R o t∧RS R o' t) (g:LC R l a2):LC R (.both o o'::l) (a1++a2)
noncomputable def Jr (mg:Cy→T→E→E→T × List Cf) (at':Cy) (o o':OP):List T→Nat→List T × List Cf
 |[],n=>([],[])
 |k::ks,n=>((Bx mg (at'++[(0,(n:Int))]) k (IM o) (IM o')).1++(Jr mg at' o o' ks (n+1)).1,(Bx mg (at'++[(0,(n:Int))]) k (IM o) (IM o')).2++(Jr mg at' o o' ks (n+1)).2)
noncomputable def run (mg:Cy→T→E→E→T × List Cf) (at':Cy) (kind:Int):List Pc→List T→List T→List T→Nat→List T × List Cf
 |[],mine,hers,ks,n=>D7 at' kind n mine hers
 |.a o::l,mine,hers,ks,n=>run mg at' kind l (mine++o.l) hers ks n
 |.b o::l,mine,hers,ks,n=>run mg at' kind l mine (hers++o.l) ks n
 |.both o o'::l,mine,hers,ks,n=>
  ((D7 at' kind n mine hers).1++((Jr mg at' o o' (ks.take (Lr o)) n).1++(run mg at' kind l [] [] (ks.drop (Lr o)) (n+Lr o)).1),
   (D7 at' kind n mine hers).2++((Jr mg at' o o' (ks.take (Lr o)) n).2++(run mg at' kind l [] [] (ks.drop (Lr o)) (n+Lr o)).2))
def R7:List U→Prop
 |.ins _::_=>False
 |_=>True
theorem CY {l:List T} {us:List U} (h:R7 us):Ey (l.map .ins++us)=l∧Dy (l.map .ins++us)=us:=by
 induction l with
 |nil=>
  cases us with
  |nil=>exact⟨rfl,rfl⟩
  |cons u us=>cases u<;>first | exact⟨rfl,rfl⟩ | exact h.elim
 |cons x l ih=>exact⟨by rw[List.map_cons,List.cons_append,Ey,ih.1],by rw[List.map_cons,List.cons_append,Dy,ih.2]⟩
section
variable {mg:Cy→T→E→E→T × List Cf} {at':Cy} {kind:Int}
theorem Ro (n:Nat):D7 at' kind n [] []=([],[]):=by simp[D7]
theorem iR {us vs:List U} (hu:R7 us) (hv:R7 vs) (mine hers:List T):∀ (ks:List T) (n:Nat),Hi mg at' kind ks (mine.map .ins++us) (hers.map .ins++vs) n=((D7 at' kind n mine hers).1++(Hi mg at' kind ks us vs n).1,(D7 at' kind n mine hers).2++(Hi mg at' kind ks us vs n).2)
 |[],n=>by
  have e1:=CY (l:=mine) hu;have e2:=CY (l:=hers) hv;have e3:=CY (l:=[]) hu;have e4:=CY (l:=[]) hv;simp only[List.map_nil,List.nil_append] at e3 e4;simp only[Hi,e1,e2,e3,e4,Ro,List.append_nil]
 |k::ks,n=>by
  have e1:=CY (l:=mine) hu;have e2:=CY (l:=hers) hv;have e3:=CY (l:=[]) hu;have e4:=CY (l:=[]) hv;simp only[List.map_nil,List.nil_append] at e3 e4;simp only[Hi,e1,e2,e3,e4,Ro,List.nil_append]
theorem WD (k:T) (a:Cy) {u u' v v':U} (h1:J0 u u') (h2:J0 v v'):Bx mg a k u v=Bx mg a k u' v':=by
 cases u<;>cases u'<;>first | exact h1.elim | skip
 all_goals cases v<;>cases v'<;>first | exact h2.elim | skip
 all_goals simp only[J0] at h1 h2
 all_goals first | rfl | (subst h1;subst h2;rfl) | (subst h1;rfl) | (subst h2;rfl)
theorem JF {u u':U} (h:J0 u u') (us:List U):R7 (u::us):=by
 cases u<;>first | trivial | (cases u'<;>exact h.elim)
theorem S6 {o o':OP} {us2 vs2:List U}:∀ (ks1 ks2:List T) (us1 vs1:List U) (n:Nat),us1.length=ks1.length→vs1.length=ks1.length→(∀ u,u ∈ us1→J0 u (IM o))→(∀ u,u ∈ vs1→J0 u (IM o')) →
  Hi mg at' kind (ks1++ks2) (us1++us2) (vs1++vs2) n=((Jr mg at' o o' ks1 n).1++(Hi mg at' kind ks2 us2 vs2 (n+ks1.length)).1,(Jr mg at' o o' ks1 n).2++(Hi mg at' kind ks2 us2 vs2 (n+ks1.length)).2)
 |[],ks2,us1,vs1,n,h1,h2,_,_=>by
  rw[List.eq_nil_of_length_eq_zero h1,List.eq_nil_of_length_eq_zero h2];simp[Jr]
 |k::ks1,ks2,[],vs1,n,h1,h2,_,_=>by simp at h1
 |k::ks1,ks2,u::us1,[],n,h1,h2,_,_=>by simp at h2
 |k::ks1,ks2,u::us1,v::vs1,n,h1,h2,h3,h4=>by
  have ih:=S6 (us2:=us2) (vs2:=vs2) (o:=o) (o':=o') ks1 ks2 us1 vs1 (n+1) (by simpa using h1) (by simpa using h2) (fun u hu=>h3 u (List.mem_cons_of_mem _ hu)) (fun u hu=>h4 u (List.mem_cons_of_mem _ hu));have e3:=CY (l:=[]) (JF (h3 u (by simp)) (us1++us2));have e4:=CY (l:=[]) (JF (h4 v (by simp)) (vs1++vs2));simp only[List.map_nil,List.nil_append] at e3 e4;have eu:Bx mg (at'++[(0,(n:Int))]) k u v=Bx mg (at'++[(0,(n:Int))]) k (IM o) (IM o'):=WD k _ (h3 u (by simp)) (h4 v (by simp));simp only[List.cons_append,Hi,e3,e4,Ro,List.nil_append,Wj,List.tail_cons,ih,Jr,eu,List.length_cons,List.append_assoc];rw[show n+1+ks1.length=n+(ks1.length+1) from by omega]
end
theorem PW (l:List T):Jn (.mk 1 0 l E0)=l.map .del:=by simp[Jn]
theorem dV {R:E→T→T→Prop} {p:OP} {ps:List OP} {a x:List T} (h:LdO R (p::ps) a x) (hp:p.kind ≠ 2) {n:Nat} (h1:1≤n) (hn:(n:Int)≤Pu p) :
  ∃ a1 a2 x2,a=a1++a2∧a1.length=n∧LdO R (Lq p n ps) a2 x2∧(∀ t,t ∈ a1→RS R (J2 p n) t)∧Lr (J2 p n)=n∧0≤(J2 p n).n∧Em (p::ps)=Jn (J2 p n)++Em (Lq p n ps)∧(Jn (J2 p n)).length=n∧∀ u,u ∈ Jn (J2 p n)→J0 u (IM (J2 p n)):=by
 cases h with
 |@keep _ a b l m hne hl g=>
  have hs:Pu (.mk 0 (l.length:Nat) [] E0)=(l.length:Int):=by simp[Pu]
  rw[hs] at hn;have hll:l.length=m.length:=by simpa using congrArg List.length hl
  by_cases c:(l.length:Int)≤n
  ·have e:n=l.length:=by omega
   have e1:J2 (.mk 0 (l.length:Nat) [] E0) n = .mk 0 (l.length:Nat) [] E0:=by unfold J2;rw[if_pos (by rw[hs];exact c)]
   have e2:Lq (.mk 0 (l.length:Nat) [] E0) n ps=ps:=by unfold Lq;rw[if_pos (by rw[hs];exact c)]
   rw[e1,e2];refine⟨l,a,b,rfl,e.symm,g,fun t _=>.inl ⟨rfl,rfl⟩,by simp[Lr];omega,by simp,by rw[CD],by simp[Jn,e],fun u hu=>?_⟩;simp[Jn] at hu;rw[hu.2];simp[IM,J0]
  ·have e1:J2 (.mk 0 (l.length:Nat) [] E0) n = .mk 0 n [] E0:=by unfold J2;rw[if_neg (by rw[hs];exact c)];rfl
   have e2:Lq (.mk 0 (l.length:Nat) [] E0) n ps = .mk 0 ((l.drop n).length:Nat) [] E0::ps:=by
    unfold Lq;rw[if_neg (by rw[hs];exact c)];simp[bt];omega
   rw[e1,e2];refine⟨l.take n,l.drop n++a,m.drop n++b,by rw[← List.append_assoc,List.take_append_drop],by simp;omega,.keep _ _ (fun h=>by have:=congrArg List.length h;simp at this;omega) (by rw[List.map_drop,List.map_drop,hl]) g,fun t _=>.inl ⟨rfl,rfl⟩,by simp[Lr];omega,by simp,?_,by simp[Jn],fun u hu=>?_⟩
   ·rw[CD,CD,← List.append_assoc];simp[Jn];omega
   ·simp[Jn] at hu;rw[hu.2];simp[IM,J0]
 |@del _ a b l m hne hl g=>
  have hs:Pu (.mk 1 0 l E0)=(l.length:Int):=by simp[Pu]
  rw[hs] at hn;have hll:l.length=m.length:=by simpa using congrArg List.length hl
  by_cases c:(l.length:Int)≤n
  ·have e:n=l.length:=by omega
   have e1:J2 (.mk 1 0 l E0) n = .mk 1 0 l E0:=by unfold J2;rw[if_pos (by rw[hs];exact c)]
   have e2:Lq (.mk 1 0 l E0) n ps=ps:=by unfold Lq;rw[if_pos (by rw[hs];exact c)]
   rw[e1,e2];refine⟨m,a,x,rfl,by omega,g,fun t _=>.inr (.inl ⟨rfl,rfl⟩),by simp[Lr];omega,by simp,by rw[CD],by simp[Jn,e],fun u hu=>?_⟩;simp[Jn] at hu;obtain⟨t,_,rfl⟩:=hu;simp[IM,J0]
  ·have e1:J2 (.mk 1 0 l E0) n = .mk 1 0 (l.take n) E0:=by unfold J2;rw[if_neg (by rw[hs];exact c)];rfl
   have e2:Lq (.mk 1 0 l E0) n ps = .mk 1 0 (l.drop n) E0::ps:=by unfold Lq;rw[if_neg (by rw[hs];exact c)];rfl
   rw[e1,e2];refine⟨m.take n,m.drop n++a,x,by rw[← List.append_assoc,List.take_append_drop],by simp;omega,.del _ _ (fun h=>by have:=congrArg List.length h;simp at this;omega) (by rw[List.map_drop,List.map_drop,hl]) g,fun t _=>.inr (.inl ⟨rfl,rfl⟩),by simp[Lr];omega,by simp,?_,by simp[Jn];omega,fun u hu=>?_⟩
   ·rw[CD,CD,← List.append_assoc];rw[PW,PW,PW,← List.map_append,List.take_append_drop]
   ·rw[PW] at hu;obtain⟨t,_,rfl⟩:=List.mem_map.1 hu;simp[IM,J0]
 |ins l m hne hl g=>exact absurd rfl hp
 |@desc _ a b e x y r g=>
  have hs:Pu (.mk 3 0 [] e)=1:=by simp[Pu]
  rw[hs] at hn;have en:n=1:=by omega
  subst en;have e1:J2 (.mk 3 0 [] e) 1 = .mk 3 0 [] e:=by unfold J2;rw[if_pos (by rw[hs];decide)]
  have e2:Lq (.mk 3 0 [] e) 1 ps=ps:=by unfold Lq;rw[if_pos (by rw[hs];decide)]
  rw[e1,e2];refine⟨[x],a,b,rfl,rfl,g,fun t ht=>.inr (.inr ⟨rfl,y,?_⟩),by simp[Lr],by simp,by rw[CD],by simp[Jn],fun u hu=>?_⟩
  ·rw[List.mem_singleton.1 ht];exact r
  ·simp[Jn] at hu;rw[hu];simp[IM,J0]
theorem Yx {R:E→T→T→Prop} {q:OP} {qs:List OP} {y:List T} (h:LdO R (q::qs) [] y):q.kind=2:=by
 generalize ha:([]:List T)=a at h;cases h with
 |keep l m hne hl g=>exact absurd (List.append_eq_nil_iff.1 ha.symm).1 hne
 |del l m hne hl g=>
  have:=(List.append_eq_nil_iff.1 ha.symm).1;subst this;exact absurd (by simpa using hl) hne
 |ins l m hne hl g=>rfl
 |desc e x y r g=>cases ha
theorem PC (p:OP) (n:Nat) (ps:List OP):(Lq p n ps).length≤ps.length+1:=by unfold Lq;split<;>simp
theorem nJ {o:OP} (h:Un o) {n:Nat} (c:¬ Pu o≤n):Un (bt o n):=by
 obtain⟨h1,h2,h3⟩:=h;unfold Pu at c;unfold bt;rcases h1 with ⟨k,a,b,d⟩ | ⟨k,a⟩ | ⟨k,a⟩ | ⟨k,a,b⟩
 ·rw[if_neg (by omega),d] at c;simp at c;rw[if_pos k];exact⟨.inl ⟨k,by simp;omega,by simp;omega,d⟩,fun h=>by simp[k] at h,h3⟩
 ·rw[if_neg (by omega),a] at c;rw[if_neg (by omega)];exact⟨.inr (.inl ⟨k,a⟩),fun _ h=>by have:=congrArg List.length h;simp at this;omega,by simp;omega⟩
 ·rw[if_neg (by omega),a] at c;rw[if_neg (by omega)];exact⟨.inr (.inr (.inl ⟨k,a⟩)),fun _ h=>by have:=congrArg List.length h;simp at this;omega,by simp;omega⟩
 ·rw[if_pos k] at c;rw[if_neg (by omega)];exact⟨.inr (.inr (.inr ⟨k,a,by simp[b]⟩)),fun h=>by simp[k] at h,by simp;omega⟩
theorem Tt {p:OP} {ps:List OP} (h:∀ o,o ∈ p::ps→Un o) (n:Nat):∀ o,o ∈ Lq p n ps→Un o:=by
 intro o ho;unfold Lq at ho;split at ho
 ·exact h o (List.mem_cons_of_mem _ ho)
 ·rename_i c;rcases List.mem_cons.1 ho with rfl | ho
  ·exact nJ (h p (by simp)) c
  ·exact h o (List.mem_cons_of_mem _ ho)
theorem nG {R:E→T→T→Prop}:∀ (N:Nat) (ps qs:List OP) (a x y:List T),LdO R ps a x→LdO R qs a y→(∀ o,o ∈ ps→Un o)→(∀ o,o ∈ qs→Un o)→ps.length+qs.length+2*a.length≤N →
  ∃ l,YW ps qs l∧l.length≤N∧LC R l a∧∀ (mg:Cy→T→E→E→T × List Cf) (at':Cy) (kind:Int) (mine hers:List T) (n:Nat),run mg at' kind l mine hers a n=Hi mg at' kind a (mine.map .ins++Em ps) (hers.map .ins++Em qs) n:=by
 intro N;induction N with
 |zero=>
  intro ps qs a x y hp hq _ _ hN;have e1:=List.eq_nil_of_length_eq_zero (show ps.length=0 by omega);have e2:=List.eq_nil_of_length_eq_zero (show qs.length=0 by omega);have e3:=List.eq_nil_of_length_eq_zero (show a.length=0 by omega);subst e1;subst e2;subst e3;refine⟨[],.nil,by simp,.nil,fun mg at' kind mine hers n=>?_⟩;have i1:=CY (l:=mine) (us:=[]) trivial;have i2:=CY (l:=hers) (us:=[]) trivial;simp only[List.append_nil] at i1 i2;simp[run,Hi,Em,i1,i2]
 |succ N ih=>
  intro ps qs a x y hp hq gp gq hN;cases ps with
  |nil=>
   have ha:a=[]:=by cases hp;rfl
   cases qs with
   |nil=>
    subst ha;refine⟨[],.nil,by simp,.nil,fun mg at' kind mine hers n=>?_⟩;have i1:=CY (l:=mine) (us:=[]) trivial;have i2:=CY (l:=hers) (us:=[]) trivial;simp only[List.append_nil] at i1 i2;simp[run,Hi,Em,i1,i2]
   |cons q qs=>
    have k:q.kind=2:=Yx (by rw[ha] at hq;exact hq);cases hq with
    |keep l m hne hl g=>simp at k
    |del l m hne hl g=>simp at k
    |desc e x y r g=>simp at k
    |ins l m hne hl g=>
     obtain⟨r,k1,k2,k3,k4⟩:=ih [] qs a x _ hp g gp (fun o h=>gq o (List.mem_cons_of_mem _ h)) (by simp at hN ⊢; omega);refine⟨.b (.mk 2 0 l E0)::r,.snd _ _ _ _ rfl rfl k1,by simp;omega,.b _ _ _ rfl k3,fun mg at' kind mine hers n=>?_⟩;rw[run,k4,CD];simp[Jn]
  |cons p ps=>
   by_cases c:p.kind=2
   ·cases hp with
    |keep l m hne hl g=>simp at c
    |del l m hne hl g=>simp at c
    |desc e x y r g=>simp at c
    |ins l m hne hl g=>
     obtain⟨r,k1,k2,k3,k4⟩:=ih ps qs a _ y g hq (fun o h=>gp o (List.mem_cons_of_mem _ h)) gq (by simp at hN ⊢; omega);refine⟨.a (.mk 2 0 l E0)::r,.fst _ _ _ _ rfl k1,by simp;omega,.a _ _ _ rfl k3,fun mg at' kind mine hers n=>?_⟩;rw[run,k4,CD];simp[Jn]
   ·cases qs with
    |nil=>
     have ha:a=[]:=by cases hq;rfl
     subst ha;exact absurd (Yx hp) c
    |cons q qs=>
     by_cases d:q.kind=2
     ·cases hq with
      |keep l m hne hl g=>simp at d
      |del l m hne hl g=>simp at d
      |desc e x y r g=>simp at d
      |ins l m hne hl g=>
       obtain⟨r,k1,k2,k3,k4⟩:=ih (p::ps) qs a x _ hp g gp (fun o h=>gq o (List.mem_cons_of_mem _ h)) (by simp at hN ⊢; omega);refine⟨.b (.mk 2 0 l E0)::r,.snd _ _ _ _ (decide_eq_false c) rfl k1,by simp;omega,.b _ _ _ rfl k3,fun mg at' kind mine hers n=>?_⟩;rw[run,k4,CD (.mk 2 0 l E0)];simp[Jn]
     ·have s1:=KS (gp p (by simp));have s2:=KS (gq q (by simp));obtain⟨n,hn⟩:=Int.eq_ofNat_of_zero_le (show 0≤min (Pu p) (Pu q) by omega);obtain⟨a1,a2,x2,rfl,u1,u2,u3,u4,u5,u6,u7,u8'⟩:=dV hp c (n:=n) (by omega) (by omega);obtain⟨b1,b2,y2,e,v1,v2,v3,v4,v5,v6,v7,v8⟩:=dV hq d (n:=n) (by omega) (by omega);obtain⟨rfl,rfl⟩:=List.append_inj e (by omega);have l1:=PC p n ps;have l2:=PC q n qs;obtain⟨r,k1,k2,k3,k4⟩:=ih (Lq p n ps) (Lq q n qs) a2 x2 y2 u2 v2 (Tt gp n) (Tt gq n) (by simp at hN ⊢; omega);refine⟨.both (J2 p n) (J2 q n)::r,.both _ _ _ _ n _ c d hn.symm k1,by simp at hN ⊢; omega,.both _ _ _ _ _ (by omega) u5 (fun t ht=>⟨u3 t ht,v3 t ht⟩) k3,fun mg at' kind mine hers m=>?_⟩;have eN1:R7 (Jn (J2 p n)++Em (Lq p n ps)):=by
       cases e1:Jn (J2 p n) with
       |nil=>rw[e1] at u7;simp at u7;omega
       |cons u us=>exact JF (u8' u (by rw[e1];simp)) _
      have eN2:R7 (Jn (J2 q n)++Em (Lq q n qs)):=by
       cases e1:Jn (J2 q n) with
       |nil=>rw[e1] at v7;simp at v7;omega
       |cons u us=>exact JF (v8 u (by rw[e1];simp)) _
      rw[u6,v6,iR eN1 eN2,S6 (o:=J2 p n) (o':=J2 q n) a1 a2 _ _ _ (by omega) (by omega) u8' v8];have k4':=k4 mg at' kind [] [] (m+n);simp only[List.map_nil,List.nil_append] at k4';rw[run,u4,List.take_left' u1,List.drop_left' u1,k4',u1]
theorem Mq {d:Nat} (h:d ≠ 0):BH d E0=true:=by
 unfold E0;exact rightE_iff.2 ⟨h,by omega,by omega,fun _=>⟨rfl,rfl⟩,fun _=>⟨rfl,rfl⟩,fun _=>⟨rfl,rfl⟩,fun h=>absurd h (by decide),rfl,by simp,fun h=>absurd h (by decide),by simp,by simp[Az]⟩
theorem Ix {e:E} {a u:T} (h:Qt e a u):G.Spec Tryz.prog 27 [eX e,tX a] (.tup [tX (Af u),bv true]):=by
 refine Ag Ns (by simp) fun w0 I0=>?_;unfold JD;simp;refine Ae h.2 (by simp) ?_;simp;refine Ae (CB u h.1) (by simp) ?_;have e1:tX (Af u) = .agg [iv u.kind,CR (Af u).words,Bz (Af u).kids]:=by
  show A.agg [iv (Af u).kind,CR (Af u).words,Bz (Af u).kids]=_;rw[Hv]
 simp;rw[e1];exact An ⟨Ad (by simp),Ad rfl,trivial⟩
abbrev tV (s:Int × Int):List A:=[iv s.1,iv s.2]
def Lx (s:Int × Int):A:=.agg (tV s)
@[simp] theorem Ma (s:Int × Int):(Lx s).cells=tV s:=rfl
abbrev A7 (l:Cy):A:=.sl false (l.map Lx)
@[simp] theorem yc (l:Cy):C0 2 (l.map Lx)=true:=by
 rw[FW];intro x hx;obtain⟨y,_,rfl⟩:=List.mem_map.1 hx;rfl
abbrev Uk (t:T):List A:=[iv t.kind,CR t.words,Bz t.kids]
abbrev pg (c:Cf):List A:=[A7 c.path,iv c.base.kind,CR c.base.words,Bz c.base.kids,iv c.ours.kind,CR c.ours.words,Bz c.ours.kids,iv c.theirs.kind,CR c.theirs.words,Bz c.theirs.kids]
def RD (c:Cf):A:=.agg (pg c)
@[simp] theorem pd (c:Cf):(RD c).cells=pg c:=rfl
@[simp] theorem xw (l:List Cf):C0 10 (l.map RD)=true:=by rw[FW];simp
abbrev G4 (l:List Cf):A:=.sl false (l.map RD)
def LK (v w:Nat) (C:List Cf):Fam:=⟨fun r p=>if p=[] then ⟨v,.cells [.osl [r,0] (w+C.length) 10 0 C.length]⟩ else if p=[0] then ⟨w+C.length,.arr 10 (C.map RD)⟩ else ⟨0,.none⟩,fun {γ δ r r'} hg hd p=>by
  by_cases h1:p=[]
  ·rw[if_pos h1,if_pos h1];refine Fam.cells_ren ?_;simp[A.renL,A.ren,hg,hd]
  ·rw[if_neg h1,if_neg h1];by_cases h2:p=[0]
   ·rw[if_pos h2];refine Fam.arr_ren ?_;simp only[CV,List.map_map];refine List.map_congr_left fun x _=>?_;simp[RD,A.ren,A.renL]
   ·rw[if_neg h2];rfl,fun {D r} hD p=>by
  by_cases h1:p=[]
  ·rw[if_pos h1];simp[Ob.refs,A.refsL,A.refs,hD]
  ·rw[if_neg h1];by_cases h2:p=[0]
   ·rw[if_pos h2];simp only[Ob.refs,refsL_iff];intro y hy;obtain⟨x,_,rfl⟩:=List.mem_map.1 hy;simp[RD,A.refs,A.refsL]
   ·rw[if_neg h2];trivial⟩
@[simp] theorem AbI {v w:Nat} {C:List Cf} {r:Nat} {p:Nm}:(LK v w C).F r p=if p=[] then ⟨v,.cells [.osl [r,0] (w+C.length) 10 0 C.length]⟩ else if p=[0] then ⟨w+C.length,.arr 10 (C.map RD)⟩ else ⟨0,.none⟩:=rfl
theorem Bl (t:T):Fj (fun _=>tX t):=IZ (cs:=Uk t) rfl fun x hx=>by simp at hx;rcases hx with rfl | rfl | rfl<;>rfl
theorem B4 (e:E):Fj (fun _=>eX e):=IZ (cs:=eL e) rfl fun x hx=>by simp at hx;rcases hx with rfl | rfl | rfl | rfl | rfl | rfl | rfl | rfl | rfl | rfl | rfl<;>rfl
theorem Hd (l:Cy) (k n:Int) (h:l.length≤1000000):G.Spec Tryz.prog 84 [A7 l,iv k,iv n] (A7 (l++[(k,n)])):=by
 refine Ag Pz (by simp) fun w0 I0=>?_;unfold JX;have c:Cj l.length none (some (iv l.length)) (some (iv l.length))=some (0,l.length,some l.length):=by simp[Cj,EG]
 simp[c,F2,AN];refine⟨by omega,?_⟩;have:=AY (H:=Ga [([0],⟨1,.arr 2 ((l++[(k,n)]).map Lx)⟩)]) (o:=[0]) (u:=1) (n:=l.length+1) (sz:=2) (l:=l++[(k,n)]) (f:=Lx) (by simp) (by simp) (fun x=>by rw[Ma];rfl);simp[Lx] at this;rw[show A7 (l++[(k,n)]) = .sl false (l.map Lx++[.agg [iv k,iv n]]) from by rw[A7,List.map_append];rfl];exact this
theorem KM (w:Int):G.Spec Tryz.prog 132 [uv w] (tX (AL w)):=by
 refine Ag P3 (by simp) fun w0 I0=>?_;unfold KT;simp;exact AE ⟨Ad rfl,Ah,Ah,trivial⟩
theorem ZJ {e:E} {t v:T} {b:Bool} (h:G.Spec Tryz.prog 27 [eX e,tX t] (.tup [tX v,bv b])):G.Spec Tryz.prog 54 [eX e,tX t] (tX v):=by
 refine Ag Ue (by simp) fun w0 I0=>?_;unfold MA;simp;refine Ae h (by simp) ?_;simp;exact Ad (by simp)
theorem VB (l:Cy) (h:l.length≤1000000):G.Spec Tryz.prog 91 [A7 l] (A7 l):=by
 cases l with
 |nil=>
  refine(Tf (fun cap=>?_) (fun a cap=>?_)).spec
  ·refine Ku BN (by simp) fun w0 I0=>?_;unfold Bg;simp;exact VA
  ·refine Ku BN (by simp) fun w0 I0=>?_;unfold Bg;simp;exact QG (H:=Ga [([0],⟨1,.arr 2 []⟩)]) (o:=[0]) (u:=1) (off:=0) (len:=0) (sz:=2) (xs:=[]) (by simp) (by simp) (by simp)
 |cons x l=>
  refine Ag BN (by simp) fun w0 I0=>?_;unfold Bg;rw[List.length_cons] at h;simp[A7];refine⟨by omega,?_⟩;exact AY (o:=[0]) (u:=1) (n:=l.length+1) (sz:=2) (l:=x::l) (f:=Lx) (by simp) (by simp) (fun x=>by rw[Ma];rfl)
abbrev tJ (f:Bool) (t:T):A:=.agg [iv t.kind,.sl f (t.words.map uv),.sl f (t.kids.map tA)]
theorem Yc (f:Bool) (t:T):Fj (fun _=>tJ f t):=IZ (cs:=[iv t.kind,.sl f (t.words.map uv),.sl f (t.kids.map tA)]) rfl fun x hx=>by simp at hx;rcases hx with rfl | rfl | rfl<;>rfl
theorem Kt {l:Cy} {b o t:T} (f1 f2:Bool) (hl:l.length≤1000000) (wb:AD b) (wo:AD o) (wt:AD t) (v w:Nat) {C:List Cf} (hC:C.length≤100000000000) :
  SpecF Tryz.prog 58 (fun r=>[.pob [r] v 0,A7 l,tX b,tJ f1 o,tJ f2 t]) (LK v w C) (fun _=>tX b) (LK v w (C++[⟨l,Af b,Af o,Af t⟩])):=by
 have K:=VB l hl;have N1:=CB b wb;have N2:G.Spec Tryz.prog 35 [tJ f1 o] (tX (Af o)):=(CB o wo).soft (by simp[A.softL,A.soft,FI,D5]);have N3:G.Spec Tryz.prog 35 [tJ f2 t] (tX (Af t)):=(CB t wt).soft (by simp[A.softL,A.soft,FI,D5]);refine IY KU (by simp) (Ai AX (Ai BZ (Ai (Bl b) (Ai (Yc f1 o) (Ai (Yc f2 t) Ax))))) (Bl b) fun w0 I0 M0 m0 hM=>?_;unfold GQ;simp;refine Ae K (by simp) ?_;simp;refine Ae N1 (by simp) ?_;simp;refine Ae N2 (by simp) ?_;simp;refine Ae N3 (by simp) ?_;simp[Aa];refine⟨by omega,?_⟩;refine A6 (r0:=tX b) (by simp[EK]) rfl fun p=>?_;by_cases h1:p=[]
 ·subst h1;simp[Aa];omega
 ·by_cases h2:p=[0]
  ·subst h2;simp[Aa,RD,AN];omega
  ·simp[Aa,h1,h2]
theorem Mi {l:Cy} {b o t:T} (hl:l.length≤1000000) (wb:AD b) (wo:AD o) (wt:AD t) (v w:Nat) {C:List Cf} (hC:C.length≤100000000000) :
  SpecF Tryz.prog 58 (fun r=>[.pob [r] v 0,A7 l,tX b,tX o,tX t]) (LK v w C) (fun _=>tX b) (LK v w (C++[⟨l,Af b,Af o,Af t⟩])):=Kt false false hl wb wo wt v w hC
variable {n0:Nat} {w0:World} {I0:Nat→Prop} {Q:Exit→Sta→Prop}
theorem jy {ks:List KE} (hl:ks.length≤10000000000000) {n:Nat}
  (hq:∀ (H':Hp) (st:List (Nat × A)),H' [0]=⟨1,.cells (BG)⟩→ks.find? (fun k=>decide (k.at_=(n:Int)))=none→Q (.exit 0) ⟨lk ([(1,iv n),(4,.pob [0] 1 0)]++st),H'⟩)
  (hr:∀ (H':Hp) (x:KE),ks.find? (fun k=>decide (k.at_=(n:Int)))=some x→H' [0]=⟨1,.cells (eL x.e)⟩→Q .ret ⟨lk [(4,.pob [0] 1 0)],H'⟩) :
  ∀ (j i:Nat) (H:Hp),i+j=ks.length→ks.find? (fun k=>decide (k.at_=(n:Int)))=(ks.drop i).find? (fun k=>decide (k.at_=(n:Int)))→H [0]=⟨1,.cells BG⟩ →
  LoopC (cx Tryz.prog w0 I0 n0) He Q ⟨lk [(1,iv n),(4,.pob [0] 1 0),(7,J9 ks),(8,iv ks.length),(9,iv i)],H⟩:=by
 intro j;induction j with
 |zero=>
  intro i H hj hf h0;have:i=ks.length:=by omega
  subst this;rw[List.drop_length] at hf;refine Ab Aj He.eq_1 ?_;simp;have:=hq H [(7,J9 ks),(8,iv ks.length),(9,iv ks.length),(10,bv false)] h0 hf;simpa using this
 |succ j ih=>
  intro i H hj hf h0;have hlt:i<ks.length:=by omega
  have ew:=AI i;have hd:ks.drop i=ks[i]::ks.drop (i+1):=(List.getElem_cons_drop hlt).symm;have next:=ih (i+1)
  rw[hd,List.find?_cons] at hf;generalize hx:ks[i]=x at *;refine Ab Aj He.eq_1 ?_;by_cases c:x.at_=(n:Int)
  ·rw[decide_eq_true c] at hf;simp[hlt,hx,Aa,c,h0,BG];exact hr _ x hf (by simp[Aa])
  ·rw[decide_eq_false c] at hf;simp[hlt,hx,Aa,c];rw[ew];exact next _ (by omega) hf (by simp[Aa,h0])
theorem Qo (H1:Hp):Ie H1 BG (eL E0):=by
 have hE:eL E0=[iv 0,iv 0,.sl false [],.sl false [],iv 0,.sl false [],.sl false [],.sl false [],.sl false [],iv 0,.sl false []]:=by simp[E0]
 rw[hE];exact⟨Ad rfl,Ad rfl,Ah,Ah,Ad rfl,Ah,Ah,Ah,Ah,Ad rfl,Ah,trivial⟩
theorem St (ks:List KE) (hl:ks.length≤10000000000000) (n:Nat):G.Spec Tryz.prog 85 [J9 ks,iv n] (eX (CQ ks n)):=by
 refine Ag US (by simp) fun w0 I0=>?_;unfold O7;simp;refine jy (n:=n) hl (fun H' st h0 hf=>?_) (fun H' x hf h0=>?_) ks.length 0 _ (by omega) (by simp) (by simp[BG])
 ·have:CQ ks n=E0:=by unfold CQ;rw[hf];rfl
  rw[this];simp[h0,BG];exact AE (Qo _)
 ·have:CQ ks n=x.e:=by unfold CQ;rw[hf];rfl
  rw[this];simp[h0];exact Ad (by simp)
def aM:Pc→A
 |.a o=>.agg (iv 1::(Lm o++RJ))
 |.b o=>.agg (iv 2::(RJ++Lm o))
 |.both o o'=>.agg (iv 0::(Lm o++Lm o'))
abbrev O0:OP:=.mk 0 0 [] E0
def mr:Pc→List A
 |.a o=>iv 1::(Lm o++Lm O0)
 |.b o=>iv 2::(Lm O0++Lm o)
 |.both o o'=>iv 0::(Lm o++Lm o')
def xI (x:Pc):A:=.agg (mr x)
@[simp] theorem qc (x:Pc):(xI x).cells=mr x:=rfl
@[simp] theorem zm (x:Pc):(aM x).cells.length=29:=by cases x<;>rfl
@[simp] theorem yW (x:Pc):(mr x).length=29:=by cases x<;>rfl
@[simp] theorem uf (l:List Pc):C0 29 (l.map aM)=true:=by
 rw[FW];intro x hx;obtain⟨y,_,rfl⟩:=List.mem_map.1 hx;simp
@[simp] theorem yQ (l:List Pc):C0 29 (l.map xI)=true:=by
 rw[FW];intro x hx;obtain⟨y,_,rfl⟩:=List.mem_map.1 hx;simp
abbrev YY (l:List Pc):A:=.sl false (l.map xI)
section
variable {n0:Nat} {w0:World} {I0:Nat→Prop} {M0:Nm→Nat→Prop} {m0:Mu} {Q:Exit→Sta→Prop}
theorem gY {v v':Nat} {R:List Pc} (hR:R.length≤100000000)
  (hq:∀ (H':Hp) (u:Nat),(∀ p,H' (0::p)=(Rt v [] 2).F 0 p)→(∀ p,H' (1::p)=(Rt v' [] 2).F 1 p)→H' [2]=⟨u,.arr 29 (R.map aM)⟩→Q .ret ⟨lk [(4,.osl [2] u 29 0 R.length),(5,bv true)],H'⟩)
  {ps qs:List OP} {l:List Pc} (hT:YW ps qs l):(∀ o,o ∈ ps→Un o)→(∀ o,o ∈ qs→Un o)→ps.length≤1000000→qs.length≤1000000→∀ (X:List Pc) (u:Nat) (H:Hp),R=X++l→(∀ p,H (0::p)=(Rt v ps 2).F 0 p)→(∀ p,H (1::p)=(Rt v' qs 2).F 1 p)→H [2]=⟨u,.arr 29 (X.map aM)⟩ →
  LoopC (HS Tryz.prog w0 I0 M0 n0 m0) Ee Q ⟨lk [(0,.pob [0] v 0),(1,.pob [1] v' 0),(6,.osl [2] u 29 0 X.length)],H⟩:=by
 induction hT with
 |nil=>
  intro _ _ _ _ X u H hX h0 h1 h2;rw[List.append_nil] at hX;subst hX;have S1:=DH v [] 2;have S2:=DH v' [] 2;have D1:=HP v [] 2;have D2:=HP v' [] 2;refine Ab Aj Ee.eq_1 ?_;simp;refine Ev 0 S1 (fun p=>by simp[h0]) (by simp) (by simp) ?_;simp[ld];refine Ev 1 S2 (fun p=>by simp[h1]) (by simp) (by simp) ?_;simp[ld];refine Ev 0 D1 (fun p=>by simp[h0]) (by simp) (by simp) ?_;simp;refine AU rfl ?_;simp;refine Ev 0 D1 (fun p=>by simp[h0]) (by simp) (by simp) ?_;simp;refine Ev 1 D2 (fun p=>by simp[h1]) (by simp) (by simp) ?_;simp;exact hq H u (fun p=>by simp[h0]) (fun p=>by simp[h1]) h2
 |fst p ps qs l h g ih=>
  intro hp hq' lp lq X u H hX h0 h1 h2;have S1:=DH v (p::ps) 2;have Z:=HW (hp p (by simp));have z1:=KS (hp p (by simp));obtain⟨n,hn⟩:=Int.eq_ofNat_of_zero_le (show 0≤Pu p by omega);have T:=Jw (hp p (by simp)) (l:=ps) (by simp at lp;omega) (n:=n) (by omega) v 2;rw[show J2 p n=p from if_pos (by omega),show Lq p n ps=ps from if_pos (by omega)] at T;have h00:H [0]=⟨v,.cells [IJ (p::ps),iv 2]⟩:=by rw[h0];simp
  have e1:ld 2 (p::ps)=true:=decide_eq_true h;have hl:R.length=X.length+1+l.length:=by rw[hX];simp;omega
  refine Ab Aj Ee.eq_1 ?_;simp;refine Ev 0 S1 (fun p=>by simp[h0]) (by simp) (by simp) ?_;simp[e1,h00];refine Ae Z (by simp) ?_;rw[hn];simp;refine Bp 0 T (fun p=>by simp[h0]) (by simp) (by simp) ?_;simp[h2];refine⟨by omega,?_⟩;have:=ih (fun o ho=>hp o (List.mem_cons_of_mem _ ho)) hq' (by simp at lp;omega) lq (X++[.a p]) (u+1) (ov 0 ((Rt v ps 2).F 0) (Ay H [2] ⟨u+1,.arr 29 ((X++[Pc.a p]).map aM)⟩)) (by rw[hX];simp) (fun p=>by simp[Aa]) (fun p=>by simp[Aa,h1]) (by simp[Aa]);simpa[aM,RJ,AN] using this
 |snd ps q qs l hp h g ih=>
  intro hp' hq' lp lq X u H hX h0 h1 h2;have S1:=DH v ps 2;have S2:=DH v' (q::qs) 2;have Z:=HW (hq' q (by simp));have z1:=KS (hq' q (by simp));obtain⟨n,hn⟩:=Int.eq_ofNat_of_zero_le (show 0≤Pu q by omega);have T:=Jw (hq' q (by simp)) (l:=qs) (by simp at lq;omega) (n:=n) (by omega) v' 2;rw[show J2 q n=q from if_pos (by omega),show Lq q n qs=qs from if_pos (by omega)] at T;have h10:H [1]=⟨v',.cells [IJ (q::qs),iv 2]⟩:=by rw[h1];simp
  have e1:ld 2 (q::qs)=true:=decide_eq_true h;have hl:R.length=X.length+1+l.length:=by rw[hX];simp;omega
  refine Ab Aj Ee.eq_1 ?_;simp;refine Ev 0 S1 (fun p=>by simp[h0]) (by simp) (by simp) ?_;simp[hp];refine Ev 1 S2 (fun p=>by simp[h1]) (by simp) (by simp) ?_;simp[e1,h10];refine Ae Z (by simp) ?_;rw[hn];simp;refine Bp 1 T (fun p=>by simp[h1]) (by simp) (by simp) ?_;simp[h2];refine⟨by omega,?_⟩;have:=ih hp' (fun o ho=>hq' o (List.mem_cons_of_mem _ ho)) lp (by simp at lq;omega) (X++[.b q]) (u+1) (ov 1 ((Rt v' qs 2).F 1) (Ay H [2] ⟨u+1,.arr 29 ((X++[Pc.b q]).map aM)⟩)) (by rw[hX];simp) (fun p=>by simp[Aa,h0]) (fun p=>by simp[Aa]) (by simp[Aa]);simpa[aM,RJ,AN] using this
 |both p ps q qs n l hp hq hn g ih=>
  intro gp gq lp lq X u H hX h0 h1 h2;have S1:=DH v (p::ps) 2;have S2:=DH v' (q::qs) 2;have D1:=HP v (p::ps) 2;have D2:=HP v' (q::qs) 2;have Z1:=HW (gp p (by simp));have z1:=KS (gp p (by simp));have Z2:=HW (gq q (by simp));have z2:=KS (gq q (by simp));have T1:=Jw (gp p (by simp)) (l:=ps) (by simp at lp;omega) (n:=n) (by omega) v 2;have T2:=Jw (gq q (by simp)) (l:=qs) (by simp at lq;omega) (n:=n) (by omega) v' 2;have h00:H [0]=⟨v,.cells [IJ (p::ps),iv 2]⟩:=by rw[h0];simp
  have h10:H [1]=⟨v',.cells [IJ (q::qs),iv 2]⟩:=by rw[h1];simp
  refine Ab Aj Ee.eq_1 ?_;simp;refine Ev 0 S1 (fun p=>by simp[h0]) (by simp) (by simp) ?_;simp[ld,hp];refine Ev 1 S2 (fun p=>by simp[h1]) (by simp) (by simp) ?_;simp[ld,hq];refine Ev 0 D1 (fun p=>by simp[h0]) (by simp) (by simp) ?_;simp;rw[D9];simp;refine Ev 1 D2 (fun p=>by simp[h1]) (by simp) (by simp) ?_;simp[h00,h10];refine Ae Z1 (by simp) ?_;simp[h00,h10];refine Ae Z2 (by simp) ?_;simp[h00,h10,← hn];refine Bp 0 T1 (fun p=>by simp[h0]) (by simp) (by simp) ?_;simp;refine Bp 1 T2 (fun p=>by simp[h1]) (by simp) (by simp) ?_;simp[h2];have hl:R.length=X.length+1+l.length:=by rw[hX];simp;omega
  refine⟨by omega,?_⟩;have l1:=PC p n ps;have l2:=PC q n qs;have:=ih (Tt gp n) (Tt gq n) (by simp at lp;omega) (by simp at lq;omega) (X++[.both (J2 p n) (J2 q n)]) (u+1) (ov 1 ((Rt v' (Lq q n qs) 2).F 1) (ov 0 ((Rt v (Lq p n ps) 2).F 0) (Ay H [2] ⟨u+1,.arr 29 ((X++[Pc.both (J2 p n) (J2 q n)]).map aM)⟩))) (by rw[hX];simp) (fun p=>by simp) (fun p=>by simp) (by simp[Aa]);simpa[aM,AN] using this
end
theorem gS {H:Hp} {o:Nm} {u n:Nat} {l:List Pc} (h:vr (H o) u=some (29,l.map aM)) (hn:n=l.length):Gu H (.osl o u 29 0 n) (YY l):=
 Nq (g:=xI) h hn fun x _=>by
  have hE:eL E0=[iv 0,iv 0,.sl false [],.sl false [],iv 0,.sl false [],.sl false [],.sl false [],.sl false [],iv 0,.sl false []]:=by simp[E0]
  cases x<;>simp[aM,mr,RJ,A.soft,A.softL,FI,D5,MZ,Qh,Qs,A.ones,A.bare]
theorem WT {v v':Nat} {ps qs:List OP} {l:List Pc} (hT:YW ps qs l) (gp:∀ o,o ∈ ps→Un o) (gq:∀ o,o ∈ qs→Un o) (lp:ps.length≤1000000) (lq:qs.length≤1000000) (hl:l.length≤100000000) :
  KW Tryz.prog 133 (fun r q=>[.pob [r] v 0,.pob [q] v' 0]) ((Rt v ps 2).two (Rt v' qs 2)) (fun _ _=>.tup [YY l,bv true]) ((Rt v [] 2).two (Rt v' [] 2)):=by
 refine Xo Ud (by simp) (Be (Cu AX) (Be (K5 AX) Gr)) (Cu (D6 (Ai BZ (Ai FY Ax)))) fun w0 I0 M0 m0 hM=>?_;unfold Nf;simp;refine LoopC.le (E7 6 [2] 29 (by simp)) ?_;refine LoopC.le (AB [(0,.pob [0] v 0),(1,.pob [1] v' 0),(6,.osl [2] 1 29 0 ([]:List Pc).length)] (by simp[upd])) ?_;refine gY hl (fun H' u k0 k1 k2=>?_) hT gp gq lp lq [] 1 _ rfl (fun p=>by simp[Aa]) (fun p=>by simp[Aa]) (by simp[Aa]);obtain⟨H2,g1,g2⟩:=Q4 (c:=HS Tryz.prog w0 I0 M0 78 m0) (s:=lk [(4,.osl [2] u 29 0 l.length),(5,bv true)]) (H:=H') (fun r=>r=2) (fun r p b hr=>hM r p b (by omega)) 4 (YY l) (fun H1 e1=>by
  have e2:H1 [2]=H' [2]:=e1 2 [] rfl;simp;exact gS (by rw[e2,k2];simp) rfl)
 refine Ha g1 (ZI (r0:=.tup [YY l,bv true]) (by simp[upd,EK]) rfl (fun p=>?_) (fun p=>?_))
 ·exact(g2 0 p (by omega)).trans (k0 p)
 ·exact(g2 1 p (by omega)).trans (k1 p)
theorem RB {ps qs:List OP} {l:List Pc} (hT:YW ps qs l) (gp:∀ o,o ∈ ps→Un o) (gq:∀ o,o ∈ qs→Un o) (lp:ps.length≤1000000) (lq:qs.length≤1000000) (hl:l.length≤100000000) :
  G.Spec Tryz.prog 86 [IJ ps,IJ qs] (.tup [YY l,bv true]):=by
 have P:=WT (v:=1) (v':=1) hT gp gq lp lq hl;refine Ag Py (by simp) fun w0 I0=>?_;unfold JY;simp;refine PX 0 1 (by decide) P (fun p=>?_) (fun p=>?_) (by simp) (by simp) ?_
 ·by_cases hp:p=[]
  ·subst hp;simp
  ·simp[hp,Ga,Ne.symm hp]
 ·by_cases hp:p=[]
  ·subst hp;simp
  ·simp[hp,Ga,Ne.symm hp]
 simp;exact An ⟨Ah,Ad rfl,trivial⟩
def gC (v:Nat) (X:List Int):N6:=⟨fun r q p=>if p=[] then ⟨1,.cells [.osl [q] v 1 0 X.length]⟩ else ⟨0,.none⟩,fun r q p=>if p=[] then ⟨v,.arr 1 (X.map uv)⟩ else ⟨0,.none⟩,fun {g δ r r' q q'} h1 h2 h3 h4 p=>by
  by_cases hp:p=[]
  ·subst hp;exact⟨Fam.cells_ren (by simp[A.renL,A.ren,h3,h4]),Fam.arr_ren (by simp only[CV,List.map_map];exact List.map_congr_left fun x _=>by simp[A.ren])⟩
  ·simp only[if_neg hp];exact⟨rfl,rfl⟩,fun {D r q} h1 h2 p=>by
  by_cases hp:p=[]
  ·subst hp;refine⟨by simp[Ob.refs,A.refsL,A.refs,h2],?_⟩;simp only[if_true,Ob.refs,refsL_iff];intro y hy;obtain⟨x,_,rfl⟩:=List.mem_map.1 hy;simp[A.refs]
  ·simp only[if_neg hp];exact⟨trivial,trivial⟩⟩
@[simp] theorem AbB {v:Nat} {X:List Int} {r q:Nat} {p:Nm}:(gC v X).B r q p=if p=[] then ⟨1,.cells [.osl [q] v 1 0 X.length]⟩ else ⟨0,.none⟩:=rfl
@[simp] theorem AbH {v:Nat} {X:List Int} {r q:Nat} {p:Nm}:(gC v X).C r q p=if p=[] then ⟨v,.arr 1 (X.map uv)⟩ else ⟨0,.none⟩:=rfl
theorem C6 {c:Cx} {rs:List ResultVar} {x:A} {F' N:Nm→VOb} {r0:A} {st:Sta} (h:EK c.P st rs=some r0) (he:r0=x) (hh:∀ p,st.H (0::p)=F' p) (hn:∀ p,st.H (1::p)=N p):Lp c rs 2 x (ov 0 F' (ov 1 N (Ga []))) .normal st:=
 OO h he fun i p hi=>by
  by_cases h0:i=0
  ·subst h0;rw[hh];simp
  ·have:i=1:=by omega
   subst this;rw[hn];simp
section
variable {n0:Nat} {w0:World} {I0:Nat→Prop} {M0:Nm→Nat→Prop} {m0:Mu} {Q:Exit→Sta→Prop}
theorem l6 {X0:List Int} {i:Nat} {w:Int} {v:Nat} (hX:X0.length≤1000000) (hi:i≤1000000)
  (hq:∀ H':Hp,(∀ p,H' (0::p)=(gC (v+(i+1-X0.length)) (D3 X0 i)).B 0 1 p)→(∀ p,H' (1::p)=(gC (v+(i+1-X0.length)) (D3 X0 i)).C 0 1 p)→Q (.exit 0) ⟨lk [(0,iv i),(1,uv w),(2,.pob [0] 1 0),(8,bv false)],H'⟩) :
  ∀ (j n:Nat) (H:Hp),n+j=i+1-X0.length→(∀ p,H (0::p)=(gC (v+n) (X0++List.replicate n 0)).B 0 1 p)→(∀ p,H (1::p)=(gC (v+n) (X0++List.replicate n 0)).C 0 1 p) →
  LoopC (HS Tryz.prog w0 I0 M0 n0 m0) Ce Q ⟨lk [(0,iv i),(1,uv w),(2,.pob [0] 1 0)],H⟩:=by
 intro j;induction j with
 |zero=>
  intro n H hm h0 h1;have hp:D3 X0 i=X0++List.replicate n 0:=by unfold D3;rw[← hm];rfl
  have hc:¬ ((X0.length:Int)+n≤i):=by omega
  have h00:H [0]=⟨1,.cells [.osl [1] (v+n) 1 0 (X0.length+n)]⟩:=by rw[h0];simp
  refine Ab Aj Ce.eq_1 ?_;simp[h00,hc];rw[Nat.add_zero] at hm;rw[hp,← hm] at hq;exact hq H h0 h1
 |succ j ih=>
  intro n H hm h0 h1;have hc:(X0.length:Int)+n≤i:=by omega
  have h00:H [0]=⟨1,.cells [.osl [1] (v+n) 1 0 (X0.length+n)]⟩:=by rw[h0];simp
  have h10:H [1]=⟨v+n,.arr 1 ((X0++List.replicate n 0).map uv)⟩:=by rw[h1];simp
  refine Ab Aj Ce.eq_1 ?_;simp[h00,h10,hc,Aa];refine⟨by omega,?_⟩;refine ih (n+1) _ (by omega) (fun p=>?_) (fun p=>?_)
  ·by_cases hp:p=[]
   ·subst hp;simp[Aa];omega
   ·simp[Aa,hp,h0]
  ·by_cases hp:p=[]
   ·subst hp;simp[Aa,List.replicate_succ'];rw[AN (by simp)];simp;omega
   ·simp[Aa,hp,h1]
end
theorem cS {X:List Int} {i:Nat} {w:Int} {v:Nat} (hX:X.length≤1000000) (hi:i≤1000000):KW Tryz.prog 131 (fun r q=>[iv i,uv w,.pob [r] 1 0]) (gC v X) (fun _ _=>.tup []) (gC (v+(i+1-X.length)) ((D3 X i).set i w)):=by
 have hl:i<(D3 X i).length:=by rw[Ez];omega
 have hl2:=Ez X i;refine Hw JU (by simp) (Be (Cu FY) (Be (Cu FY) (Be (Cu AX) Gr))) (Cu (D6 Ax)) fun w0 I0 M0 m0=>?_;unfold FQ;simp;refine LoopC.le (AB [(0,iv i),(1,uv w),(2,.pob [0] 1 0)] (by simp)) ?_;refine l6 (X0:=X) (i:=i) (v:=v) hX hi (fun H' h0 h1=>?_) (i+1-X.length) 0 _ (by omega) (fun p=>by simp) (fun p=>by simp);have h00:H' [0]=⟨1,.cells [.osl [1] (v+(i+1-X.length)) 1 0 (D3 X i).length]⟩:=by rw[h0];simp
 have h10:H' [1]=⟨v+(i+1-X.length),.arr 1 ((D3 X i).map uv)⟩:=by rw[h1];simp
 simp[h00,h10,hl];refine C6 rfl rfl (fun p=>?_) (fun p=>?_)
 ·simp[Aa,h0]
 ·by_cases hp:p=[]
  ·subst hp;simp[Aa,List.map_set]
  ·simp[Aa,hp,h1]
structure WdH (v w:Nat) (o:T) (C:List Cf) (u:Nat) (X:List Int) (H:Hp):Prop where
 f:∀ p,H (0::p)=(LK v w C).F 0 p
 o:H [1]=⟨1,.cells (Uk o)⟩
 b:∀ p,H (2::p)=(gC u X).B 2 15 p
 c:∀ p,H (15::p)=(gC u X).C 2 15 p
theorem WdH.put {v w u:Nat} {o:T} {C:List Cf} {X:List Int} {H:Hp} (h:WdH v w o C u X H) {d:Nm} (x:VOb) (h0:∀ p,d ≠ 0::p) (h1:d ≠ [1]) (h2:∀ p,d ≠ 2::p) (h3:∀ p,d ≠ 15::p):WdH v w o C u X (Ay H d x):=
 ⟨fun p=>by rw[Av (Ne.symm (h0 p))];exact h.f p,by rw[Av (Ne.symm h1)];exact h.o,fun p=>by rw[Av (Ne.symm (h2 p))];exact h.b p,fun p=>by rw[Av (Ne.symm (h3 p))];exact h.c p⟩
theorem Cb {w:Int} (h:AA w):AD (AL w):=wfT_iff.2 ⟨by simp[Db,AL],fun x hx=>by simp[AL] at hx;subst hx;exact h,by simp[AL],by simp[AL],by simp[AL]⟩
abbrev jo (w:WE):List A:=[iv w.at_,u8 w.mask,uv w.old,uv w.new]
section
variable {n0:Nat} {w0:World} {I0:Nat→Prop} {M0:Nm→Nat→Prop} {m0:Mu} {K:Exit→Sta→Prop}
theorem fI {v w u u3 u4 i:Nat} {o:T} (wo:AD o) {C:List Cf} {X:List Int} {a b:WE} (ha:Qd a.mask) (hb:Qd b.mask) (na:AA a.new) (nb:AA b.new) {at':Cy} (hat:at'.length≤999999) (hi:i≤900000) (hX:X.length≤1000000) (hC:C.length≤100000000000) {ps qs:List WE} {H:Hp} (hH:WdH v w o C u X H) (h3:H [3]=⟨u3,.cells (jo a)⟩) (h4:H [4]=⟨u4,.cells (jo b)⟩)
  (k1:Lz a b=true→∀ H',WdH v w o (C++[⟨at'++[(1,(i:Int))],Af (AL (o.words.getD i 0)),Af (AL (AM (o.words.getD i 0) a.new a.mask)),Af (AL (AM (o.words.getD i 0) b.new b.mask))⟩]) u X H'→K (.exit 1) ⟨lk [(0,.pob [0] v 0),(1,A7 at'),(3,JJ ps),(4,JJ qs),(7,.pob [1] 1 0),(11,.pob [2] 1 0),(12,.fnc 131 [] [.pob [2] 1 0])],H'⟩)
  (k2:¬ Lz a b=true→∀ H',WdH v w o C (u+(i+1-X.length)) ((D3 X i).set i (AM (AM (o.words.getD i 0) a.new a.mask) b.new b.mask)) H'→K .normal ⟨lk [(0,.pob [0] v 0),(1,A7 at'),(3,JJ ps),(4,JJ qs),(7,.pob [1] 1 0),(11,.pob [2] 1 0),(12,.fnc 131 [] [.pob [2] 1 0])],H'⟩) :
  WPC (HS Tryz.prog w0 I0 M0 n0 m0) CI K ⟨lk [(0,.pob [0] v 0),(1,A7 at'),(3,JJ ps),(4,JJ qs),(7,.pob [1] 1 0),(11,.pob [2] 1 0),(12,.fnc 131 [] [.pob [2] 1 0]),(13,.pob [3] u3 0),(14,.pob [4] u4 0),(15,iv i)],H⟩:=by
 have z0:AA 0:=⟨by decide,by decide⟩;have hwo:AA (o.words.getD i 0):=Fa (wfT_iff.1 wo).w i;have W1:=C5 o i;have M1:=Dt (mask:=a.mask) hwo na ha.1 ha.2;have M2:=Dt (mask:=b.mask) hwo nb hb.1 hb.2;have hc:=Vg ha hb;have M3:=Dt (mask:=FC a.mask b.mask) z0 na hc.1 hc.2;have M4:=Dt (mask:=FC a.mask b.mask) z0 nb hc.1 hc.2;have M5:=Dt (mask:=b.mask) (BX (o.words.getD i 0) a.new a.mask) nb hb.1 hb.2;have ho:=hH.o;generalize o.words.getD i 0=z at *;rw[CI.eq_1];simp[ho];refine Ae W1 (by simp) ?_;simp[h3,h4];refine Ae M1 (by simp) ?_;simp[h3,h4];refine Ae M2 (by simp) ?_;simp[h3,h4];rw[show bits .and .u8 a.mask b.mask=FC a.mask b.mask from rfl];refine Ae M3 (by simp) ?_;simp[h3,h4];refine Ae M4 (by simp) ?_;by_cases c:Lz a b=true
 ·have cc:¬ AM 0 a.new (FC a.mask b.mask)=AM 0 b.new (FC a.mask b.mask):=by simpa[Lz] using c
  have F:=Hd at' 1 i (by omega);have S1:=KM z;have S2:=KM (AM z a.new a.mask);have S3:=KM (AM z b.new b.mask);have CL:=Mi (l:=at'++[(1,(i:Int))]) (b:=AL z) (o:=AL (AM z a.new a.mask)) (t:=AL (AM z b.new b.mask)) (by simp;omega) (Cb hwo) (Cb (BX _ _ _)) (Cb (BX _ _ _)) v w hC;simp[cc];refine Ae F (by simp) ?_;simp;refine Ae S1 (by simp) ?_;simp;refine Ae S2 (by simp) ?_;simp;refine Ae S3 (by simp) ?_;simp;refine Bp 0 CL hH.f (by simp) (by simp) ?_;simp;exact k1 c _ ⟨fun p=>by simp,by simp[ho],fun p=>by simp[hH.b],fun p=>by simp[hH.c]⟩
 ·have cc:AM 0 a.new (FC a.mask b.mask)=AM 0 b.new (FC a.mask b.mask):=by simpa[Lz] using c
  have P:=cS (X:=X) (i:=i) (w:=AM (AM z a.new a.mask) b.new b.mask) (v:=u) hX (by omega);simp[cc,h4];refine Ae M5 (by simp) ?_;simp;refine cF 2 15 (fs:=[]) (caps:=[.pob [2] 1 0]) (by simp) (by decide) P hH.b hH.c (by simp) (by simp) ?_;simp;exact k2 c _ ⟨fun p=>by simp[hH.f],by simp[ho],fun p=>by simp,fun p=>by simp⟩
end
abbrev dW:WE:=⟨0,0,0,0⟩
theorem TN {a b:List Int} {p:Nat} {w:WE} {ws:List WE} (h:J6 a b p (w::ws)):∃ i:Nat,w.at_=i∧p≤i∧i<max a.length b.length∧Qd w.mask∧AA w.new∧J6 a b (i+1) ws:=by
 cases h with
 |cons _ i m o n ws hp h hi hm ho hn h1 h2 g=>exact⟨i,rfl,hp,hi,⟨Int.le_of_lt hm.1,hm.2⟩,by rw[← hn];exact BX _ _ _,g⟩
theorem Io {w:WE} {ws:List WE} {i:Nat} (h:w.at_=i):B7 (w::ws) i=w:=by
 unfold B7;rw[List.find?_cons,decide_eq_true h];rfl
theorem Cs {w:WE} {ws:List WE} {i:Nat} (h:w.at_ ≠ i):B7 (w::ws) i=B7 ws i:=by
 unfold B7;rw[List.find?_cons,decide_eq_false h]
theorem C8 {a b:List Int} {p:Nat} {ws:List WE} (h:J6 a b p ws) {j:Nat} (hj:j<p):B7 ws j=dW:=by
 unfold B7;have hn:ws.find? (fun w=>decide (w.at_=(j:Int)))=none:=List.find?_eq_none.2 fun w hw=>by
  obtain⟨k,k1,k2,_⟩:=IV h w hw;simp;omega
 rw[hn];rfl
theorem Oz {z:Int} (h:AA z):Gb z dW dW=z:=by
 unfold Gb;rw[if_neg (by simp[Lz])];rw[NB h,NB h]
theorem U4 {a b:List Int} {p q:Nat} (h:J6 a b p []) (hq:p≤q):J6 a b q []:=by
 cases h with
 |nil _ h=>exact .nil q fun i hi=>h i (by omega)
theorem XS {a b:List Int} {p:Nat} {ws:List WE} (h:J6 a b p ws) (q:Nat) (hpq:p≤q) (hw:∀ z,z ∈ ws→(q:Int)≤z.at_):J6 a b q ws:=by
 cases h with
 |nil _ h=>exact .nil _ fun i hi=>h i (by omega)
 |cons _ i m o n ws hp h hi hm ho hn h1 h2 g=>
  have:=hw _ (List.mem_cons_self ..);have this:(q:Int)≤(i:Nat):=this;exact .cons _ i m o n ws (by omega) (fun j q1 q2=>h j (by omega) q2) hi hm ho hn h1 h2 g
structure iB (o:List Int) (gp gq:Nat→WE) (n i0:Nat) (ps qs:List WE) (X:List Int):Prop where
 lp:∀ j,i0≤j→B7 ps j=gp j
 lq:∀ j,i0≤j→B7 qs j=gq j
 x1:∀ j,j<i0→X.getD j 0=Gb (o.getD j 0) (gp j) (gq j)
 x2:∀ j,i0≤j→X.getD j 0=o.getD j 0
 xu:∀ z,z ∈ X→AA z
 xl:X.length≤900000
def vx (o:List Int) (A B:WE) (i:Nat) (X:List Int):List Int:=if Lz A B=true then X else (D3 X i).set i (AM (AM (o.getD i 0) A.new A.mask) B.new B.mask)
theorem Zi {o:List Int} (ho:∀ x,x ∈ o→AA x) {gp gq:Nat→WE} {n i0 i:Nat} {ps qs ps' qs':List WE} {X:List Int} (h:iB o gp gq n i0 ps qs X) (hi:i0≤i) (hn:i<900000) (e1:∀ j,i0≤j→j<i→gp j=dW) (e2:∀ j,i0≤j→j<i→gq j=dW)
  (lp:∀ j,i+1≤j→B7 ps' j=gp j) (lq:∀ j,i+1≤j→B7 qs' j=gq j):iB o gp gq n (i+1) ps' qs' (vx o (gp i) (gq i) i X):=by
 have hl:i<(D3 X i).length:=by rw[Ez];omega
 have hl2:=Ez X i;have hxl:=h.xl;have gs:∀ z j,((D3 X i).set i z).getD j 0=if j=i then z else X.getD j 0:=fun z j=>by
  rw[QA _ _ _ _ hl];unfold D3;rw[QZ]
 have low:∀ j,j<i→X.getD j 0=Gb (o.getD j 0) (gp j) (gq j):=fun j hj=>by
  by_cases c:j<i0
  ·exact h.x1 j c
  ·rw[h.x2 j (by omega),e1 j (by omega) hj,e2 j (by omega) hj,Oz (Fa ho j)]
 unfold vx;by_cases c:Lz (gp i) (gq i)=true
 ·rw[if_pos c];refine⟨lp,lq,fun j hj=>?_,fun j hj=>h.x2 j (by omega),h.xu,h.xl⟩;by_cases e:j=i
  ·subst e;rw[h.x2 j hi,Gb,if_pos c]
  ·exact low j (by omega)
 ·rw[if_neg c];refine⟨lp,lq,fun j hj=>?_,fun j hj=>?_,fun z hz=>?_,by rw[List.length_set];omega⟩
  ·rw[gs];by_cases e:j=i
   ·subst e;rw[if_pos rfl,Gb,if_neg c]
   ·rw[if_neg e];exact low j (by omega)
  ·rw[gs,if_neg (by omega)];exact h.x2 j (by omega)
  ·rcases List.mem_or_eq_of_mem_set hz with hz | rfl
   ·unfold D3 at hz;rcases List.mem_append.1 hz with hz | hz
    ·exact h.xu z hz
    ·rw[List.eq_of_mem_replicate hz];exact⟨by omega,by omega⟩
   ·exact BX _ _ _
def Yh (at':Cy) (o:List Int) (gp gq:Nat→WE) (n i0:Nat):List Cf:=(List.range' i0 (n-i0)).flatMap fun j=>IX at' j (o.getD j 0) (gp j) (gq j)
theorem We (i0 i n:Nat) (h1:i0≤i) (h2:i<n):List.range' i0 (n-i0)=List.range' i0 (i-i0)++i::List.range' (i+1) (n-(i+1)):=by
 have e:n-i0=(i-i0)+(1+(n-(i+1))):=by omega
 rw[e,← List.range'_append_1,show i0+(i-i0)=i from by omega,← List.range'_append_1];rfl
theorem VD (at':Cy) (i:Nat) (z:Int):IX at' i z dW dW=[]:=by
 unfold IX;rw[if_neg (by simp[Lz])]
theorem cy (at':Cy) (o:List Int) {gp gq:Nat→WE} {n i0 i:Nat} (h1:i0≤i) (h2:i<n) (e1:∀ j,i0≤j→j<i→gp j=dW) (e2:∀ j,i0≤j→j<i→gq j=dW):Yh at' o gp gq n i0=IX at' i (o.getD i 0) (gp i) (gq i)++Yh at' o gp gq n (i+1):=by
 unfold Yh;rw[We i0 i n h1 h2,List.flatMap_append,List.flatMap_cons];have:(List.range' i0 (i-i0)).flatMap (fun j=>IX at' j (o.getD j 0) (gp j) (gq j))=[]:=List.flatMap_eq_nil_iff.2 fun j hj=>by
  obtain⟨k,k1,k2⟩:=List.mem_range'.1 hj;rw[e1 j (by omega) (by omega),e2 j (by omega) (by omega),VD]
 rw[this,List.nil_append]
theorem iG (at':Cy) (o:List Int) {gp gq:Nat→WE} {n i0:Nat} (e1:∀ j,i0≤j→gp j=dW) (e2:∀ j,i0≤j→gq j=dW):Yh at' o gp gq n i0=[]:=by
 unfold Yh;exact List.flatMap_eq_nil_iff.2 fun j hj=>by
  obtain⟨k,k1,k2⟩:=List.mem_range'.1 hj;rw[e1 j (by omega),e2 j (by omega),VD]
theorem dc {o x y:List Int} {ot:T} (wo:AD ot) (ho:ot.words=o) {gp gq:Nat→WE} {n:Nat} (hn:n≤800000) {at':Cy} (hat:at'.length≤999999):∀ (N:Nat) (ps qs:List WE) (i0:Nat) (X:List Int),ps.length+qs.length≤N→N≤1000000000→J6 o x i0 ps→J6 o y i0 qs→(∀ z,z ∈ ps→z.at_<n)→(∀ z,z ∈ qs→z.at_<n)→iB o gp gq n i0 ps qs X →
  ∃ X':List Int,(∀ j,X'.getD j 0=Gb (o.getD j 0) (gp j) (gq j))∧(∀ z,z ∈ X'→AA z)∧X'.length≤900000∧∀ {n0:Nat} {w0:World} {I0:Nat→Prop} {M0:Nm→Nat→Prop} {m0:Mu} (Q:Exit→Sta→Prop) (v w u:Nat) (C:List Cf) (H:Hp),C.length+(Yh at' o gp gq n i0).length≤100000000000→WdH v w ot C u X H→(∀ (H':Hp) (u':Nat),WdH v w ot (C++Yh at' o gp gq n i0) u' X' H'→Q (.exit 0) ⟨lk [(0,.pob [0] v 0),(1,A7 at'),(3,JJ []),(4,JJ []),(7,.pob [1] 1 0),(11,.pob [2] 1 0),(12,.fnc 131 [] [.pob [2] 1 0]),(31,bv false)],H'⟩) →
   LoopC (HS Tryz.prog w0 I0 M0 n0 m0) AF Q ⟨lk [(0,.pob [0] v 0),(1,A7 at'),(3,JJ ps),(4,JJ qs),(7,.pob [1] 1 0),(11,.pob [2] 1 0),(12,.fnc 131 [] [.pob [2] 1 0])],H⟩:=by
 have fin:∀ (i0:Nat) (X:List Int),iB o gp gq n i0 [] [] X→∃ X':List Int,(∀ j,X'.getD j 0=Gb (o.getD j 0) (gp j) (gq j))∧(∀ z,z ∈ X'→AA z)∧X'.length≤900000∧∀ {n0:Nat} {w0:World} {I0:Nat→Prop} {M0:Nm→Nat→Prop} {m0:Mu} (Q:Exit→Sta→Prop) (v w u:Nat) (C:List Cf) (H:Hp),C.length+(Yh at' o gp gq n i0).length≤100000000000→WdH v w ot C u X H→(∀ (H':Hp) (u':Nat),WdH v w ot (C++Yh at' o gp gq n i0) u' X' H'→Q (.exit 0) ⟨lk [(0,.pob [0] v 0),(1,A7 at'),(3,JJ []),(4,JJ []),(7,.pob [1] 1 0),(11,.pob [2] 1 0),(12,.fnc 131 [] [.pob [2] 1 0]),(31,bv false)],H'⟩) →
   LoopC (HS Tryz.prog w0 I0 M0 n0 m0) AF Q ⟨lk [(0,.pob [0] v 0),(1,A7 at'),(3,JJ []),(4,JJ []),(7,.pob [1] 1 0),(11,.pob [2] 1 0),(12,.fnc 131 [] [.pob [2] 1 0])],H⟩:=fun i0 X hI=>by
  have d1:∀ j,i0≤j→gp j=dW:=fun j hj=>(hI.lp j hj).symm;have d2:∀ j,i0≤j→gq j=dW:=fun j hj=>(hI.lq j hj).symm;refine⟨X,fun j=>?_,hI.xu,hI.xl,fun {n0 w0 I0 M0 m0} Q v w u C H hC hH hq=>?_⟩
  ·by_cases c:j<i0
   ·exact hI.x1 j c
   ·rw[hI.x2 j (by omega),d1 j (by omega),d2 j (by omega),Oz (by rw[← ho];exact Fa (wfT_iff.1 wo).w j)]
  ·rw[iG at' o d1 d2,List.append_nil] at hq;refine Ab Aj AF.eq_1 ?_;simp;exact hq H u hH
 intro N;induction N with
 |zero=>
  intro ps qs i0 X hN _ hp hq _ _ hI;have e1:=List.eq_nil_of_length_eq_zero (show ps.length=0 by omega);have e2:=List.eq_nil_of_length_eq_zero (show qs.length=0 by omega);subst e1;subst e2;exact fin i0 X hI
 |succ N ih=>
  intro ps qs i0 X hN hN2 hp hq np nq hI;have hou:∀ x,x ∈ o→AA x:=by rw[← ho];exact(wfT_iff.1 wo).w
  have step:∀ (Aw Bw:WE) (i:Nat) (ps' qs':List WE),gp i=Aw→gq i=Bw→i0≤i→i<n→Qd Aw.mask→Qd Bw.mask→AA Aw.new→AA Bw.new→J6 o x (i+1) ps'→J6 o y (i+1) qs'→(∀ j,i+1≤j→B7 ps' j=gp j)→(∀ j,i+1≤j→B7 qs' j=gq j)→(∀ j,i0≤j→j<i→gp j=dW)→(∀ j,i0≤j→j<i→gq j=dW)→ps'.length+qs'.length≤N→(∀ z,z ∈ ps'→z.at_<n)→(∀ z,z ∈ qs'→z.at_<n) →
    ∃ X':List Int,(∀ j,X'.getD j 0=Gb (o.getD j 0) (gp j) (gq j))∧(∀ z,z ∈ X'→AA z)∧X'.length≤900000∧∀ {n0:Nat} {w0:World} {I0:Nat→Prop} {M0:Nm→Nat→Prop} {m0:Mu} (Q:Exit→Sta→Prop) (v w u u3 u4:Nat) (C:List Cf) (H:Hp),C.length+(Yh at' o gp gq n i0).length≤100000000000→WdH v w ot C u X H→H [3]=⟨u3,.cells (jo Aw)⟩→H [4]=⟨u4,.cells (jo Bw)⟩→(∀ (H':Hp) (u':Nat),WdH v w ot (C++Yh at' o gp gq n i0) u' X' H'→Q (.exit 0) ⟨lk [(0,.pob [0] v 0),(1,A7 at'),(3,JJ []),(4,JJ []),(7,.pob [1] 1 0),(11,.pob [2] 1 0),(12,.fnc 131 [] [.pob [2] 1 0]),(31,bv false)],H'⟩) →
     WPC (HS Tryz.prog w0 I0 M0 n0 m0) CI (Dh 1 (J1 (LoopC (HS Tryz.prog w0 I0 M0 n0 m0) AF Q) Q)) ⟨lk [(0,.pob [0] v 0),(1,A7 at'),(3,JJ ps'),(4,JJ qs'),(7,.pob [1] 1 0),(11,.pob [2] 1 0),(12,.fnc 131 [] [.pob [2] 1 0]),(13,.pob [3] u3 0),(14,.pob [4] u4 0),(15,iv i)],H⟩:=fun Aw Bw i ps' qs' eA eB h1 h2 mA mB uA uB g1 g2 g3 g4 e1 e2 hl np' nq'=>by
   have hc:=cy at' o (gp:=gp) (gq:=gq) h1 h2 e1 e2;have hI2:=Zi hou hI h1 (by omega) e1 e2 g3 g4;rw[eA,eB] at hc hI2;obtain⟨X',f1,f2,f3,f4⟩:=ih ps' qs' (i+1) (vx o Aw Bw i X) hl (by omega) g1 g2 np' nq' hI2;refine⟨X',f1,f2,f3,fun {n0 w0 I0 M0 m0} Q v w u u3 u4 C H hC hH h3 h4 hq=>?_⟩;have xl:=hI.xl;rw[hc,← List.append_assoc] at hq;have hlen:C.length+(IX at' i (o.getD i 0) Aw Bw).length+(Yh at' o gp gq n (i+1)).length≤100000000000:=by rw[hc,List.length_append] at hC;omega
   refine fI (a:=Aw) (b:=Bw) (i:=i) wo mA mB uA uB hat (by omega) (by omega) (by omega) hH h3 h4 (fun c H' hH'=>?_) (fun c H' hH'=>?_)
   ·have q1:IX at' i (o.getD i 0) Aw Bw=[⟨at'++[(1,(i:Int))],Af (AL (o.getD i 0)),Af (AL (AM (o.getD i 0) Aw.new Aw.mask)),Af (AL (AM (o.getD i 0) Bw.new Bw.mask))⟩]:=if_pos c;have q2:vx o Aw Bw i X=X:=if_pos c;rw[q2] at f4;rw[q1] at hq hlen;rw[ho] at hH';exact f4 Q v w _ _ H' (by rw[List.length_append];exact hlen) hH' hq
   ·have q1:IX at' i (o.getD i 0) Aw Bw=[]:=if_neg c;have q2:vx o Aw Bw i X=(D3 X i).set i (AM (AM (o.getD i 0) Aw.new Aw.mask) Bw.new Bw.mask):=if_neg c;rw[q2] at f4;rw[q1,List.append_nil] at hq;rw[q1] at hlen;rw[ho] at hH';exact f4 Q v w _ _ H' (by simpa using hlen) hH' hq
  cases ps with
  |nil=>
   cases qs with
   |nil=>exact fin i0 X hI
   |cons Bw qs=>
    obtain⟨i,h1,h2,h3,h4,h5,h6⟩:=TN hq;have hin:=nq Bw (by simp);obtain⟨X',f1,f2,f3,f4⟩:=step dW Bw i [] qs (by rw[← hI.lp i h2];rfl) (by rw[← hI.lq i h2,Io h1]) h2 (by omega) ⟨by decide,by decide⟩ h4 ⟨by decide,by decide⟩ h5 (U4 hp (by omega)) h6 (fun j hj=>by rw[← hI.lp j (by omega)]) (fun j hj=>by rw[← hI.lq j (by omega),Cs (by omega)]) (fun j q1 q2=>by rw[← hI.lp j q1];rfl) (fun j q1 q2=>by rw[← hI.lq j q1,Cs (by omega),C8 h6 (by omega)]) (by simp at hN ⊢; omega) (fun z hz=>nomatch hz) (fun z hz=>nq z (List.mem_cons_of_mem _ hz));refine⟨X',f1,f2,f3,fun {n0 w0 I0 M0 m0} Q v w u C H hC hH hq=>?_⟩;have c1:¬ ((qs.length:Int)+1=0):=by omega
    have c2:(1:Int)≤(qs.length:Int)+1:=by omega
    have c3:List.take qs.length (qs.map wA)=qs.map wA:=AN (by simp);refine Ab Aj AF.eq_1 ?_;simp[h1,c1,c2,c3,Aa];exact f4 Q v w u _ _ C _ hC ((hH.put _ (by simp) (by simp) (by simp) (by simp)).put _ (by simp) (by simp) (by simp) (by simp)) (by simp[Aa]) (by simp[Aa,h1]) hq
  |cons Aw ps=>
   obtain⟨i,h1,h2,h3,h4,h5,h6⟩:=TN hp;have hin:=np Aw (by simp);have d1:¬ ((ps.length:Int)+1=0):=by omega
   have d2:(1:Int)≤(ps.length:Int)+1:=by omega
   have d3:List.take ps.length (ps.map wA)=ps.map wA:=AN (by simp);cases qs with
   |nil=>
    obtain⟨X',f1,f2,f3,f4⟩:=step Aw dW i ps [] (by rw[← hI.lp i h2,Io h1]) (by rw[← hI.lq i h2];rfl) h2 (by omega) h4 ⟨by decide,by decide⟩ h5 ⟨by decide,by decide⟩ h6 (U4 hq (by omega)) (fun j hj=>by rw[← hI.lp j (by omega),Cs (by omega)]) (fun j hj=>by rw[← hI.lq j (by omega)]) (fun j q1 q2=>by rw[← hI.lp j q1,Cs (by omega),C8 h6 (by omega)]) (fun j q1 q2=>by rw[← hI.lq j q1];rfl) (by simp at hN ⊢; omega) (fun z hz=>np z (List.mem_cons_of_mem _ hz)) (fun z hz=>nomatch hz);refine⟨X',f1,f2,f3,fun {n0 w0 I0 M0 m0} Q v w u C H hC hH hq=>?_⟩;refine Ab Aj AF.eq_1 ?_;simp[h1,d1,d2,d3,Aa];exact f4 Q v w u _ _ C _ hC (((hH.put _ (by simp) (by simp) (by simp) (by simp)).put _ (by simp) (by simp) (by simp) (by simp)).put _ (by simp) (by simp) (by simp) (by simp)) (by simp[Aa,h1]) (by simp[Aa]) hq
   |cons Bw qs=>
    obtain⟨k,g1,g2,g3,g4,g5,g6⟩:=TN hq;have hkn:=nq Bw (by simp);have c1:¬ ((qs.length:Int)+1=0):=by omega
    have c2:(1:Int)≤(qs.length:Int)+1:=by omega
    have c3:List.take qs.length (qs.map wA)=qs.map wA:=AN (by simp);by_cases c:(i:Int)<k
    ·obtain⟨X',f1,f2,f3,f4⟩:=step Aw dW i ps (Bw::qs) (by rw[← hI.lp i h2,Io h1]) (by rw[← hI.lq i h2,Cs (by omega),C8 g6 (by omega)]) h2 (by omega) h4 ⟨by decide,by decide⟩ h5 ⟨by decide,by decide⟩ h6 (XS hq (i+1) (by omega) (fun z hz=>by
      rcases List.mem_cons.1 hz with rfl | hz
      ·omega
      ·obtain⟨m,m1,m2,_⟩:=IV g6 z hz;omega)) (fun j hj=>by rw[← hI.lp j (by omega),Cs (by omega)]) (fun j hj=>by rw[← hI.lq j (by omega)]) (fun j q1 q2=>by rw[← hI.lp j q1,Cs (by omega),C8 h6 (by omega)]) (fun j q1 q2=>by rw[← hI.lq j q1,Cs (by omega),C8 g6 (by omega)]) (by simp at hN ⊢; omega) (fun z hz=>np z (List.mem_cons_of_mem _ hz)) nq
     refine⟨X',f1,f2,f3,fun {n0 w0 I0 M0 m0} Q v w u C H hC hH hq=>?_⟩;refine Ab Aj AF.eq_1 ?_;simp[h1,g1,c,Aa];simp[d1,d2,d3];exact f4 Q v w u _ _ C _ hC (((hH.put _ (by simp) (by simp) (by simp) (by simp)).put _ (by simp) (by simp) (by simp) (by simp)).put _ (by simp) (by simp) (by simp) (by simp)) (by simp[Aa,h1]) (by simp[Aa]) hq
    ·by_cases d:(k:Int)<i
     ·obtain⟨X',f1,f2,f3,f4⟩:=step dW Bw k (Aw::ps) qs (by rw[← hI.lp k g2,Cs (by omega),C8 h6 (by omega)]) (by rw[← hI.lq k g2,Io g1]) g2 (by omega) ⟨by decide,by decide⟩ g4 ⟨by decide,by decide⟩ g5 (XS hp (k+1) (by omega) (fun z hz=>by
       rcases List.mem_cons.1 hz with rfl | hz
       ·omega
       ·obtain⟨m,m1,m2,_⟩:=IV h6 z hz;omega)) g6 (fun j hj=>by rw[← hI.lp j (by omega)]) (fun j hj=>by rw[← hI.lq j (by omega),Cs (by omega)]) (fun j q1 q2=>by rw[← hI.lp j q1,Cs (by omega),C8 h6 (by omega)]) (fun j q1 q2=>by rw[← hI.lq j q1,Cs (by omega),C8 g6 (by omega)]) (by simp at hN ⊢; omega) np (fun z hz=>nq z (List.mem_cons_of_mem _ hz))
      refine⟨X',f1,f2,f3,fun {n0 w0 I0 M0 m0} Q v w u C H hC hH hq=>?_⟩;refine Ab Aj AF.eq_1 ?_;simp[h1,g1,c,d,Aa];simp[c1,c2,c3,d1];exact f4 Q v w u _ _ C _ hC ((hH.put _ (by simp) (by simp) (by simp) (by simp)).put _ (by simp) (by simp) (by simp) (by simp)) (by simp[Aa]) (by simp[Aa,g1]) hq
     ·have e:k=i:=by omega
      subst e;obtain⟨X',f1,f2,f3,f4⟩:=step Aw Bw k ps qs (by rw[← hI.lp k h2,Io h1]) (by rw[← hI.lq k g2,Io g1]) g2 (by omega) h4 g4 h5 g5 h6 g6 (fun j hj=>by rw[← hI.lp j (by omega),Cs (by omega)]) (fun j hj=>by rw[← hI.lq j (by omega),Cs (by omega)]) (fun j q1 q2=>by rw[← hI.lp j q1,Cs (by omega),C8 h6 (by omega)]) (fun j q1 q2=>by rw[← hI.lq j q1,Cs (by omega),C8 g6 (by omega)]) (by simp at hN ⊢; omega) (fun z hz=>np z (List.mem_cons_of_mem _ hz)) (fun z hz=>nq z (List.mem_cons_of_mem _ hz));refine⟨X',f1,f2,f3,fun {n0 w0 I0 M0 m0} Q v w u C H hC hH hq=>?_⟩;refine Ab Aj AF.eq_1 ?_;simp[h1,g1,c,d,Aa];simp[c1,c2,c3,d1,d2,d3];exact f4 Q v w u _ _ C _ hC ((((hH.put _ (by simp) (by simp) (by simp) (by simp)).put _ (by simp) (by simp) (by simp) (by simp)).put _ (by simp) (by simp) (by simp) (by simp)).put _ (by simp) (by simp) (by simp) (by simp)) (by simp[Aa,h1]) (by simp[Aa,g1]) hq
theorem nf (k:Nat):Bh 0 k=0:=by simp[Bh]
theorem Xm {n m:Int} (hn:AA n) (h:F5 n m=true):AM 0 n m=n:=by
 refine PO (BX _ _ _) hn fun k hk=>?_;rw[GW _ _ _ hk];by_cases c:Cq m k=true
 ·rw[if_pos c]
 ·rw[if_neg c,nf];unfold F5 at h;have:=List.all_eq_true.1 h k (List.mem_range.2 hk);rw[Bool.or_eq_true,decide_eq_true_iff,decide_eq_true_iff] at this;rcases this with h1 | h1
  ·exact absurd (by simpa[Cq] using h1) c
  ·exact h1.symm
theorem eE {t o n m:Int} (ht:AA t) (ho:AM 0 t m=o):AM (AM t n m) o m=t:=by
 subst ho;refine PO (BX _ _ _) ht fun k hk=>?_;rw[GW _ _ _ hk,GW _ _ _ hk,GW _ _ _ hk];split<;>rfl
theorem EM {last:Int} {w:WE} {l:List WE} (h:BR last (w::l)=true):last<w.at_∧w.mask ≠ 0∧F5 w.old w.mask=true∧F5 w.new w.mask=true∧BR w.at_ l=true:=by
 rw[BR,Bool.and_eq_true] at h;obtain⟨h1,h2⟩:=h;unfold NZ at h1;simp at h1;exact⟨by omega,h1.1.1.2,h1.1.2,h1.2,h2⟩
theorem PH {tw:List Int} (ht:∀ x,x ∈ tw→AA x):∀ (m i:Nat) (ws:List WE) (W b:List Int) (last:Int),LM tw m i ws=some W→(∀ j,j<m→b.getD (i+j) 0=W.getD j 0)→b.length=i+m→tw.length≤i+m→BR last ws=true→last<i→(∀ w,w ∈ ws→w.at_<((i+m:Nat):Int)∧AA w.old∧AA w.new∧0≤w.mask∧w.mask<256)→(∀ w,w ∈ ws→(i:Int)≤w.at_)→J6 tw b i ws
 |0,i,ws,W,b,last,h,hb,hl,htl,hok,hlast,hat,hge=>by
  cases ws with
  |nil=>
   refine .nil i fun j hj=>?_;rw[List.getD_eq_getElem?_getD,List.getD_eq_getElem?_getD,List.getElem?_eq_none (by omega),List.getElem?_eq_none (by omega)]
  |cons w ws=>
   have h1:=(hat w (by simp)).1;have h2:=hge w (by simp);omega
 |m+1,i,[],W,b,last,h,hb,hl,htl,hok,hlast,hat,hge=>by
  rw[LM] at h;obtain⟨W',h1,rfl⟩:=Option.map_eq_some_iff.1 h;have L:=PH ht m (i+1) [] W' b last h1 (fun j hj=>by
   have:=hb (j+1) (by omega);rw[show i+(j+1)=i+1+j from by omega] at this;simpa using this) (by omega) (by omega) hok (by omega) (fun w hw=>by simp at hw) (fun w hw=>by simp at hw)
  cases L with
  |nil _ g=>
   refine .nil i fun j hj=>?_;by_cases e:j=i
   ·subst e;have:=hb 0 (by omega);simpa using this.symm
   ·exact g j (by omega)
 |m+1,i,w::ws,W,b,last,h,hb,hl,htl,hok,hlast,hat,hge=>by
  obtain⟨k1,k2,k3,k4,k5⟩:=EM hok;obtain⟨a1,a2,a3,a4,a5⟩:=hat w (by simp);have hti:=PY ht i;have later:∀ z,z ∈ ws→w.at_<z.at_:=by
   have key:∀ (l:List WE) (last:Int),BR last l=true→∀ z,z ∈ l→last<z.at_:=fun l=>by
    induction l with
    |nil=>intro _ _ z hz;simp at hz
    |cons y l ih=>
     intro last h z hz;obtain⟨q1,_,_,_,q5⟩:=EM h;rcases List.mem_cons.1 hz with rfl | hz
     ·exact q1
     ·have:=ih _ q5 z hz;omega
   exact key ws _ k5
  by_cases e:w.at_=(i:Int)
  ·by_cases hbad:AM 0 (tw.getD i 0) w.mask=w.old;rotate_left
   ·rw[TJ e hbad] at h;cases h
   rw[PR e hbad] at h;obtain⟨W',h1,rfl⟩:=Option.map_eq_some_iff.1 h;have hbi:b.getD i 0=AM (tw.getD i 0) w.new w.mask:=by
    have:=hb 0 (by omega);simpa using this
   have L:=PH ht m (i+1) ws W' b w.at_ h1 (fun j hj=>by
    have:=hb (j+1) (by omega);rw[show i+(j+1)=i+1+j from by omega] at this;simpa using this) (by omega) (by omega) k5 (by omega) (fun z hz=>by
    obtain⟨q1,q2⟩:=hat z (List.mem_cons_of_mem _ hz);exact⟨by omega,q2⟩) (fun z hz=>by have:=later z hz;omega)
   obtain⟨at_,mask,old,new⟩:=w;have e:at_=(i:Int):=e;subst e;exact .cons i i mask old new ws (Ek _) (fun j q1 q2=>by omega) (by omega) ⟨by have k2:mask ≠ 0:=k2;have a4:0≤mask:=a4;omega,a5⟩ hbad (by rw[hbi,X9];exact Xm a3 k4) hbi.symm (by rw[hbi];exact eE hti hbad) L
  ·rw[Km (fun x xs ex=>by cases ex;exact e)] at h;obtain⟨W',h1,rfl⟩:=Option.map_eq_some_iff.1 h;have hbi:b.getD i 0=tw.getD i 0:=by
    have:=hb 0 (by omega);simpa using this
   have hge':=hge w (by simp);have L:=PH ht m (i+1) (w::ws) W' b last h1 (fun j hj=>by
    have:=hb (j+1) (by omega);rw[show i+(j+1)=i+1+j from by omega] at this;simpa using this) (by omega) (by omega) hok (by omega) (fun z hz=>by
    obtain⟨q1,q2⟩:=hat z hz;exact⟨by omega,q2⟩) (fun z hz=>by
    rcases List.mem_cons.1 hz with rfl | hz
    ·omega
    ·have:=later z hz;omega)
   cases L with
   |cons _ i' mk oo nn _ hp hh hi hm ho hn g1 g2 g=>
    have hj:∀ j,i≤j→j<i'→tw.getD j 0=b.getD j 0:=fun j q1 q2=>by
     by_cases ej:j=i
     ·subst ej;exact hbi.symm
     ·exact hh j (by omega) q2
    exact .cons i i' mk oo nn ws (by omega) hj hi hm ho hn g1 g2 g
theorem Fz {d:Nat} {last:Int} {x:KE} {l:List KE} (h:B0 d last (x::l)=true):last<x.at_∧x.e.kind ≠ 0∧BH d x.e=true∧B0 d x.at_ l=true:=by
 rw[Nj] at h;simp at h;exact⟨by omega,h.1.1.2,h.1.2,h.2⟩
theorem PM {R:E→T→T→Prop} {P P':T→Prop} (hPP:∀ t,P t→P' t) {tk:List T} (hP:∀ i,P (tk.getD i T0)) {d:Nat}:∀ (m i:Nat) (ks:List KE) (K pre:List T) (last:Int),LA tk m i (BJ ks)=some K→pre.length=i→tk.length≤i+m→B0 d last ks=true→last<i→(∀ w,w ∈ ks→(i:Int)≤w.at_∧w.at_<((i+m:Nat):Int))→(∀ x,x ∈ ks→∀ t v,P t→GY x.e t=some v→∃ y,R x.e t y∧Af y=Af v∧P' y) →
  ∃ Y:List T,Y.length=m∧(∀ j,Af (Y.getD j T0)=Af (K.getD j T0))∧(∀ y,y ∈ Y→P' y)∧Vu R tk (pre++Y) i ks
 |0,i,ks,K,pre,last,h,hp,htl,hok,hlast,hat,hI=>by
  rw[LA] at h;cases h;refine⟨[],rfl,fun j=>rfl,fun y hy=>by simp at hy,?_⟩;cases ks with
  |nil=>
   refine .nil i fun j hj=>?_;rw[List.getD_eq_getElem?_getD,List.getD_eq_getElem?_getD,List.getElem?_eq_none (by omega),List.getElem?_eq_none (by simp;omega)]
  |cons w ws=>
   have h1:=hat w (by simp);omega
 |m+1,i,[],K,pre,last,h,hp,htl,hok,hlast,hat,hI=>by
  rw[BJ,LA] at h;obtain⟨K',h1,rfl⟩:=Option.map_eq_some_iff.1 h;obtain⟨Y,y1,y2,y3,y4⟩:=PM (R:=R) hPP hP m (i+1) [] K' (pre++[tk.getD i T0]) last (by rw[BJ];exact h1) (by simp[hp]) (by omega) hok (by omega) (fun w hw=>by simp at hw) (fun x hx=>by simp at hx);refine⟨tk.getD i T0::Y,by simp[y1],fun j=>?_,fun y hy=>?_,?_⟩
  ·cases j with
   |zero=>rfl
   |succ j=>simpa using y2 j
  ·rcases List.mem_cons.1 hy with rfl | hy
   ·exact hPP _ (hP i)
   ·exact y3 y hy
  ·rw[List.append_assoc,List.singleton_append] at y4;cases y4 with
   |nil _ g=>
    refine .nil i fun j hj=>?_;by_cases e:j=i
    ·subst e;rw[show(pre++tk.getD j T0::Y).getD j T0=tk.getD j T0 from by rw[List.getD_eq_getElem?_getD,List.getElem?_append_right (by omega),hp,Nat.sub_self];rfl]
    ·exact g j (by omega)
 |m+1,i,w::ws,K,pre,last,h,hp,htl,hok,hlast,hat,hI=>by
  obtain⟨k1,k2,k3,k5⟩:=Fz hok;have later:∀ z,z ∈ ws→w.at_<z.at_:=by
   have key:∀ (l:List KE) (last:Int),B0 d last l=true→∀ z,z ∈ l→last<z.at_:=fun l=>by
    induction l with
    |nil=>intro _ _ z hz;simp at hz
    |cons y l ih=>
     intro last h z hz;obtain⟨q1,_,_,q5⟩:=Fz h;rcases List.mem_cons.1 hz with rfl | hz
     ·exact q1
     ·have:=ih _ q5 z hz;omega
   exact key ws _ k5
  have hap:BJ (w::ws)=(w.at_,GY w.e)::BJ ws:=by rw[Ec,List.map_cons,← Ec]
  rw[hap] at h;have hw:=hat w (by simp);by_cases e:w.at_=(i:Int)
  ·cases hv:GY w.e (tk.getD i T0) with
   |none=>rw[Tv e hv] at h;cases h
   |some v=>
    rw[PJ e hv] at h;obtain⟨K',h1,rfl⟩:=Option.map_eq_some_iff.1 h;obtain⟨y0,r1,r2,r3⟩:=hI w (by simp) _ v (hP i) hv;obtain⟨Y,y1,y2,y3,y4⟩:=PM (R:=R) hPP hP m (i+1) ws K' (pre++[y0]) w.at_ h1 (by simp[hp]) (by omega) k5 (by omega) (fun z hz=>by have:=later z hz;have:=(hat z (List.mem_cons_of_mem _ hz)).2;omega) (fun x hx=>hI x (List.mem_cons_of_mem _ hx));refine⟨y0::Y,by simp[y1],fun j=>?_,fun y hy=>?_,?_⟩
    ·cases j with
     |zero=>simpa using r2
     |succ j=>simpa using y2 j
    ·rcases List.mem_cons.1 hy with rfl | hy
     ·exact r3
     ·exact y3 y hy
    ·rw[List.append_assoc,List.singleton_append] at y4;have hg:(pre++y0::Y).getD i T0=y0:=by rw[List.getD_eq_getElem?_getD,List.getElem?_append_right (by omega),hp,Nat.sub_self];rfl
     obtain⟨at_,ee⟩:=w;have e:at_=(i:Int):=e;subst e;exact .cons i i ee ws (Ek _) (fun j q1 q2=>by omega) (by simp;omega) k2 (by rw[hg];exact r1) y4
  ·rw[Kg (fun x xs ex=>by cases ex;exact e)] at h;obtain⟨K',h1,rfl⟩:=Option.map_eq_some_iff.1 h;obtain⟨Y,y1,y2,y3,y4⟩:=PM (R:=R) hPP hP m (i+1) (w::ws) K' (pre++[tk.getD i T0]) last (by rw[hap];exact h1) (by simp[hp]) (by omega) hok (by omega) (fun z hz=>by
    refine⟨?_,by have:=(hat z hz).2;omega⟩;rcases List.mem_cons.1 hz with rfl | hz
    ·omega
    ·have:=later z hz;omega) hI
   refine⟨tk.getD i T0::Y,by simp[y1],fun j=>?_,fun y hy=>?_,?_⟩
   ·cases j with
    |zero=>rfl
    |succ j=>simpa using y2 j
   ·rcases List.mem_cons.1 hy with rfl | hy
    ·exact hPP _ (hP i)
    ·exact y3 y hy
   ·rw[List.append_assoc,List.singleton_append] at y4;have hg:(pre++tk.getD i T0::Y).getD i T0=tk.getD i T0:=by rw[List.getD_eq_getElem?_getD,List.getElem?_append_right (by omega),hp,Nat.sub_self];rfl
    cases y4 with
    |cons _ i' ee _ hp2 hh hi he hr g=>
     have hj:∀ j,i≤j→j<i'→Af (tk.getD j T0)=Af ((pre++tk.getD i T0::Y).getD j T0):=fun j q1 q2=>by
      by_cases ej:j=i
      ·subst ej;rw[hg]
      ·exact hh j (by omega) q2
     exact .cons i i' ee ws (by omega) hj hi he hr g
theorem V0 {ot:T} (wo:AD ot) {x y:List Int} {ps qs:List WE} (hp:J6 ot.words x 0 ps) (hq:J6 ot.words y 0 qs) (hn:Bu (Bu ot.words.length ps) qs≤800000) (hl:ps.length+qs.length≤1000000000) {at':Cy} (hat:at'.length≤999999) :
  ∃ X:List Int,(∀ j,X.getD j 0=Gb (ot.words.getD j 0) (B7 ps j) (B7 qs j))∧(∀ z,z ∈ X→AA z)∧X.length≤900000∧∀ (v w:Nat) (C:List Cf),C.length+((List.range (Bu (Bu ot.words.length ps) qs)).flatMap fun i:Nat=>IX at' i (ot.words.getD i 0) (B7 ps i) (B7 qs i)).length≤100000000000 →
   SpecF Tryz.prog 83 (fun r=>[.pob [r] v 0,A7 at',tX ot,JJ ps,JJ qs]) (LK v w C) (fun _=>CR X) (LK v w (C++(List.range (Bu (Bu ot.words.length ps) qs)).flatMap fun i:Nat=>IX at' i (ot.words.getD i 0) (B7 ps i) (B7 qs i))):=by
 have hwl:ot.words.length≤800000:=by
  rw[EC,EC] at hn;omega
 have e0:Yh at' ot.words (B7 ps) (B7 qs) (Bu (Bu ot.words.length ps) qs) 0=(List.range (Bu (Bu ot.words.length ps) qs)).flatMap fun i:Nat=>IX at' i (ot.words.getD i 0) (B7 ps i) (B7 qs i):=by
  unfold Yh;rw[List.range_eq_range',Nat.sub_zero]
 rw[← e0];have np:∀ z,z ∈ ps→z.at_<(Bu (Bu ot.words.length ps) qs:Nat):=fun z hz=>by
  have:=KF (n:=ot.words.length) hz;rw[EC qs];omega
 have nq:∀ z,z ∈ qs→z.at_<(Bu (Bu ot.words.length ps) qs:Nat):=fun z hz=>KF hz;have C1:=Kq ot.words (by omega);obtain⟨X,f1,f2,f3,f4⟩:=dc wo rfl hn hat (ps.length+qs.length) ps qs 0 ot.words (Ek _) hl hp hq np nq ⟨fun j _=>rfl,fun j _=>rfl,fun j hj=>by omega,fun j _=>rfl,(wfT_iff.1 wo).w,by omega⟩;refine⟨X,f1,f2,f3,fun v w C hC=>IY KK (by simp) (Ai AX (Ai BZ (Ai (Bl ot) (Ai BZ (Ai BZ Ax))))) BZ fun w0 I0 M0 m0 hM=>?_⟩;unfold GL;simp;refine Bp 15 C1 (fun p=>by simp) (by simp) (by simp) ?_;simp;refine LoopC.le (AB [(0,.pob [0] v 0),(1,A7 at'),(3,JJ ps),(4,JJ qs),(7,.pob [1] 1 0),(11,.pob [2] 1 0),(12,.fnc 131 [] [.pob [2] 1 0])] (by simp)) ?_;refine f4 _ v w 1 C _ hC ⟨fun p=>by simp,by simp,fun p=>?_,fun p=>by simp⟩ fun H' u' hH'=>?_
 ·by_cases hp:p=[]
  ·subst hp;simp
  ·simp[hp,Ga,Ne.symm hp]
 ·have h2:H' [2]=⟨1,.cells [.osl [15] u' 1 0 X.length]⟩:=by rw[hH'.b];simp
  simp[h2];obtain⟨H2,g1,g2⟩:=Q4 (c:=HS Tryz.prog w0 I0 M0 149 m0) (s:=lk [(10,.osl [15] u' 1 0 X.length)]) (H:=H') (fun r=>r=15) (fun r p b hr=>hM r p b (by omega)) 10 (CR X) (fun H1 e1=>by
   have e2:H1 [15]=H' [15]:=e1 15 [] rfl;simp;exact AY (f:=uv) (by rw[e2,hH'.c];simp) rfl (fun x=>by simp))
  refine Ha g1 (A6 (r0:=CR X) (by simp[upd,EK]) rfl (fun p=>?_));exact(g2 0 p (by omega)).trans (hH'.f p)
theorem Te {ks:List KE} {x:KE} (hx:ks.getLast? = some x) (h:∀ w,w ∈ ks→w.at_≤x.at_) (n:Nat):Bf n ks=max n (x.at_+1).toNat:=by
 have key:∀ (l:List KE),(∀ w,w ∈ l→w.at_≤x.at_)→Bf 0 l≤(x.at_+1).toNat:=by
  intro l;induction l with
  |nil=>intro _;simp[Bf]
  |cons y l ih=>
   intro hl;have e:Bf 0 (y::l)=Bf (max 0 (y.at_+1).toNat) l:=rfl;have:=ih fun w hw=>hl w (List.mem_cons_of_mem _ hw);have:=hl y (by simp);rw[e,HG];omega
 have k1:=key ks h;have k2:=U0 (n:=0) (List.mem_of_getLast? hx);rw[HG];omega
def di (f:Nat) (at':Cy) (o:T) (p q:E) (u:T):Prop:=AD u∧Af u=(mg f at' o p q).1∧∀ (v w:Nat) (C:List Cf),C.length+(mg f at' o p q).2.length≤100000000000 →
 SpecF Tryz.prog 34 (fun r=>[.pob [r] v 0,A7 at',tX o,eX p,eX q]) (LK v w C) (fun _=>tX u) (LK v w (C++(mg f at' o p q).2))
structure StH (v w:Nat) (o:T) (p q:E) (C:List Cf) (X:List Int) (L:List T) (u:Nat) (H:Hp):Prop where
 f:∀ r,H (0::r)=(LK v w C).F 0 r
 o:H [1]=⟨1,.cells (Uk o)⟩
 p:H [2]=⟨1,.cells (eL p)⟩
 q:H [3]=⟨1,.cells (eL q)⟩
 z:H [4]=⟨1,.cells [iv 0,.sl true [],.sl true []]⟩
 b:H [5]=⟨1,.cells [iv 1,CR X,.osl [6] u 3 0 L.length]⟩
 c:H [6]=⟨u,.arr 3 (L.map tA)⟩
section
variable {n0:Nat} {w0:World} {I0:Nat→Prop} {M0:Nm→Nat→Prop} {m0:Mu} {Q:Exit→Sta→Prop}
theorem gO {f:Nat} {at':Cy} (hat:at'.length≤900000) {o:T} {p q:E} {X:List Int} {U:Nat→T} {m:Nat} (hm:m≤800000) (lp:p.kids.length≤10000000000000) (lq:q.kids.length≤10000000000000) (hU:∀ i:Nat,di f (at'++[(0,(i:Int))]) (o.kids.getD i T0) (CQ p.kids i) (CQ q.kids i) (U i)) {v w:Nat} {C:List Cf} (hC:C.length+((List.range m).flatMap fun i:Nat=>(mg f (at'++[(0,(i:Int))]) (o.kids.getD i T0) (CQ p.kids i) (CQ q.kids i)).2).length≤100000000000)
  (hq:∀ (H':Hp),StH v w o p q (C++(List.range m).flatMap fun i:Nat=>(mg f (at'++[(0,(i:Int))]) (o.kids.getD i T0) (CQ p.kids i) (CQ q.kids i)).2) X ((List.range m).map U) (m+1) H'→Q (.exit 2) ⟨lk [(0,.pob [0] v 0),(1,A7 at'),(7,.pob [1] 1 0),(8,.pob [2] 1 0),(9,.pob [3] 1 0),(10,.pob [4] 1 0),(11,.pob [5] 1 0),(53,iv m),(54,iv m),(55,bv false)],H'⟩) :
  ∀ (j i:Nat) (H:Hp),i+j=m→StH v w o p q (C++(List.range i).flatMap fun i:Nat=>(mg f (at'++[(0,(i:Int))]) (o.kids.getD i T0) (CQ p.kids i) (CQ q.kids i)).2) X ((List.range i).map U) (i+1) H →
  LoopC (HS Tryz.prog w0 I0 M0 n0 m0) BM Q ⟨lk [(0,.pob [0] v 0),(1,A7 at'),(7,.pob [1] 1 0),(8,.pob [2] 1 0),(9,.pob [3] 1 0),(10,.pob [4] 1 0),(11,.pob [5] 1 0),(53,iv m),(54,iv i)],H⟩:=by
 intro j;induction j with
 |zero=>
  intro i H hj hH;have:i=m:=by omega
  subst this;refine Ab Aj BM.eq_1 ?_;simp;exact hq H hH
 |succ j ih=>
  intro i H hj hH;have hlt:i<m:=by omega
  have ew:=AI i;have F:=Hd at' 0 i (by omega);have K0:=DC o i;have K1:=St p.kids lp i;have K2:=St q.kids lq i;obtain⟨u1,u2,u3⟩:=hU i;have hr:List.range (i+1)=List.range i++[i]:=List.range_succ;have hsub:((List.range (i+1)).flatMap fun i:Nat=>(mg f (at'++[(0,(i:Int))]) (o.kids.getD i T0) (CQ p.kids i) (CQ q.kids i)).2).length≤((List.range m).flatMap fun i:Nat=>(mg f (at'++[(0,(i:Int))]) (o.kids.getD i T0) (CQ p.kids i) (CQ q.kids i)).2).length:=by
   have e:List.range m=List.range (i+1)++List.range' (i+1) (m-(i+1)):=by
    rw[List.range_eq_range',List.range_eq_range',show m=(i+1)+(m-(i+1)) from by omega,← List.range'_append_1];simp
   rw[e,List.flatMap_append,List.length_append];omega
  have next:=ih (i+1)
  rw[hr] at hsub next
  rw[List.flatMap_append,List.flatMap_singleton,List.length_append] at hsub;rw[List.flatMap_append,List.flatMap_singleton,List.map_append,← List.append_assoc] at next
  have S:=u3 v w (C++(List.range i).flatMap fun i:Nat=>(mg f (at'++[(0,(i:Int))]) (o.kids.getD i T0) (CQ p.kids i) (CQ q.kids i)).2) (by rw[List.length_append];omega);generalize (List.range i).flatMap (fun i:Nat=>(mg f (at'++[(0,(i:Int))]) (o.kids.getD i T0) (CQ p.kids i) (CQ q.kids i)).2)=D at *;generalize hL:(List.range i).map U=L at *;have hLl:L.length=i:=by rw[← hL];simp
  generalize (mg f (at'++[(0,(i:Int))]) (o.kids.getD i T0) (CQ p.kids i) (CQ q.kids i)).2=c at *;have h1:=hH.o;have h2:=hH.p;have h3:=hH.q;have h5:=hH.b;have h6:=hH.c;refine Ab Aj BM.eq_1 ?_;simp[hlt,h1,h2,h3,h5];refine Ae F (by simp) ?_;simp[h1,h2,h3];refine Ae K0 (by simp) ?_;simp[h1,h2,h3];refine Ae K1 (by simp) ?_;simp[h1,h2,h3];refine Ae K2 (by simp) ?_;simp;refine Bp 0 S hH.f (by simp) (by simp[List.isPrefixOf]) ?_;simp[h5,h6,Aa];refine⟨by omega,?_⟩;rw[ew];have h4:=hH.z;exact next _ (by omega) ⟨fun r=>by simp,by simp[Aa,h1],by simp[Aa,h2],by simp[Aa,h3],by simp[Aa,h4],by simp[Aa],by simp[Aa,AN]⟩
theorem jv {at':Cy} {p q:E} (ap:∀ k,k ∈ p.kids→0≤k.at_∧k.at_≤900000) (aq:∀ k,k ∈ q.kids→0≤k.at_∧k.at_≤900000) (sp:∀ x,p.kids.getLast? = some x→∀ w,w ∈ p.kids→w.at_≤x.at_) (sq:∀ x,q.kids.getLast? = some x→∀ w,w ∈ q.kids→w.at_≤x.at_) (lp:p.kids.length≤10000000000000) (lq:q.kids.length≤10000000000000) {v:Nat} {n:Nat} (hn:n≤10000000) {H:Hp}
  (hq:Q (.exit 0) ⟨lk [(0,.pob [0] v 0),(1,A7 at'),(7,.pob [1] 1 0),(8,.pob [2] 1 0),(9,.pob [3] 1 0),(10,.pob [4] 1 0),(11,.pob [5] 1 0),(12,iv (Bf (Bf n p.kids) q.kids)),(33,.sl true [J9 p.kids,J9 q.kids]),(34,iv 2),(35,iv 2),(36,bv false)],H⟩) :
  LoopC (HS Tryz.prog w0 I0 M0 n0 m0) AK Q ⟨lk [(0,.pob [0] v 0),(1,A7 at'),(7,.pob [1] 1 0),(8,.pob [2] 1 0),(9,.pob [3] 1 0),(10,.pob [4] 1 0),(11,.pob [5] 1 0),(12,iv n),(33,.sl true [J9 p.kids,J9 q.kids]),(34,iv 2),(35,iv 0)],H⟩:=by
 have one:∀ (ks:List KE) (n:Nat) (j:Nat),n≤10000000→j<2→[J9 p.kids,J9 q.kids][j]? = some (J9 ks)→ks.length≤10000000000000→(∀ k,k ∈ ks→0≤k.at_∧k.at_≤900000)→(∀ x,ks.getLast? = some x→∀ w,w ∈ ks→w.at_≤x.at_)→LoopC (HS Tryz.prog w0 I0 M0 n0 m0) AK Q ⟨lk [(0,.pob [0] v 0),(1,A7 at'),(7,.pob [1] 1 0),(8,.pob [2] 1 0),(9,.pob [3] 1 0),(10,.pob [4] 1 0),(11,.pob [5] 1 0),(12,iv (Bf n ks)),(33,.sl true [J9 p.kids,J9 q.kids]),(34,iv 2),(35,iv (j+1:Nat))],H⟩ →
   LoopC (HS Tryz.prog w0 I0 M0 n0 m0) AK Q ⟨lk [(0,.pob [0] v 0),(1,A7 at'),(7,.pob [1] 1 0),(8,.pob [2] 1 0),(9,.pob [3] 1 0),(10,.pob [4] 1 0),(11,.pob [5] 1 0),(12,iv n),(33,.sl true [J9 p.kids,J9 q.kids]),(34,iv 2),(35,iv j)],H⟩:=fun ks n j hn hj hks hl ha hs next=>by
  have ew:=AI j;have hj2:(j:Int)<2:=by omega
  have hk2:[J9 p.kids,J9 q.kids][j]=J9 ks:=by
   rw[List.getElem?_eq_getElem hj] at hks;exact Option.some.inj hks
  cases e:ks.getLast? with
  |none=>
   have:ks=[]:=List.getLast?_eq_none_iff.1 e;subst this;refine Ab Aj AK.eq_1 ?_;simp[hj2,hj,hk2];rw[ew];exact next
  |some x=>
   have e1:=Te e (hs x e) n;have hx:=ha x (List.mem_of_getLast? e);rw[e1] at next
   have hne:ks ≠ []:=fun h=>by rw[h] at e;cases e
   have h0:=List.length_pos_iff.2 hne;have h0':(0:Int)<ks.length:=by omega
   have e9:i64.wrap ((ks.length:Int)-1)=((ks.length-1:Nat):Int):=(A5 (n:=(ks.length:Int)-1) (by omega) (by omega)).trans (by omega);have hlt:ks.length-1<ks.length:=by omega
   have hx2:ks[ks.length-1]=x:=by
    rw[List.getLast?_eq_getElem?,List.getElem?_eq_getElem hlt] at e;exact Option.some.inj e
   have e10:i64.wrap (x.at_+1)=x.at_+1:=Hl;have e11:max (n:Int) (x.at_+1)=((max n (x.at_+1).toNat:Nat):Int):=by omega
   refine Ab Aj AK.eq_1 ?_;simp[hj2,hj,hk2,h0,h0',e9,hlt,hx2,e10];rw[ew,e11];exact next
 have b1:Bf n p.kids≤10000000:=by
  cases e:p.kids.getLast? with
  |none=>
   rw[List.getLast?_eq_none_iff.1 e];exact hn
  |some x=>
   have hx:=ap x (List.mem_of_getLast? e);rw[Te e (sp x e)];omega
 refine one p.kids n 0 hn (by decide) rfl lp ap sp ?_;refine one q.kids _ 1 b1 (by decide) rfl lq aq sq ?_;refine Ab Aj AK.eq_1 ?_;simp;exact hq
end
theorem Nw:∀ {ws:List WE} {n m:Nat},n≤m→(∀ w,w ∈ ws→w.at_<(m:Int))→Bu n ws≤m
 |[],n,m,h,_=>h
 |w::ws,n,m,h,hw=>Nw (ws:=ws) (n:=max n (w.at_+1).toNat) (by have:=hw w (by simp);omega) fun z hz=>hw z (List.mem_cons_of_mem _ hz)
theorem NL:∀ {ws:List KE} {n m:Nat},n≤m→(∀ w,w ∈ ws→w.at_<(m:Int))→Bf n ws≤m
 |[],n,m,h,_=>h
 |w::ws,n,m,h,hw=>NL (ws:=ws) (n:=max n (w.at_+1).toNat) (by have:=hw w (by simp);omega) fun z hz=>hw z (List.mem_cons_of_mem _ hz)
theorem df {f:Nat} {at':Cy} {o:T} (wo:AD o) {p q:E} {x y:List Int} (hp:J6 o.words x 0 p.words) (hq:J6 o.words y 0 q.words) {U:Nat→T} (hU:∀ i:Nat,di f (at'++[(0,(i:Int))]) (o.kids.getD i T0) (CQ p.kids i) (CQ q.kids i) (U i)) {X:List Int} (hX:∀ j,X.getD j 0=Gb (o.words.getD j 0) (B7 p.words j) (B7 q.words j)) :
  Af (.mk 1 X ((List.range (Bf (Bf o.kids.length p.kids) q.kids)).map U))=(Uq (mg f) at' o p q).1:=by
 unfold Uq;refine struct_eq.2 ⟨fun j=>?_,fun j=>?_⟩
 ·rw[hX];refine(V3 (fun i:Nat=>Gb (o.words.getD i 0) (B7 p.words i) (B7 q.words i)) 0 _ j fun hj=>?_).symm;show Gb (o.words.getD j 0) (B7 p.words j) (B7 q.words j)=0;have hw:o.words.length≤j:=by
   rw[EC q.words,EC p.words] at hj;omega
  have e0:o.words.getD j 0=0:=by rw[List.getD_eq_getElem?_getD,List.getElem?_eq_none hw];rfl
  have far:∀ {ws:List WE},(∀ w,w ∈ ws→w.at_<(j:Int))→B7 ws j=dW:=fun {ws} h=>by
   unfold B7;rw[List.find?_eq_none.2 fun w hw=>by have:=h w hw;simp;omega];rfl
  rw[e0,far (ws:=p.words) fun w hw=>by
   have:=KF (n:=o.words.length) hw;rw[EC q.words,EC p.words] at hj;rw[EC] at this;omega,far (ws:=q.words) fun w hw=>by
   have:=KF (n:=Bu o.words.length p.words) hw;omega,Oz ⟨by decide,by decide⟩]
 ·by_cases c:j<Bf (Bf o.kids.length p.kids) q.kids
  ·have:=(hU j).2.1;simp only[List.getD_eq_getElem?_getD,List.getElem?_map,List.getElem?_range c,Option.map_some,Option.getD_some];rw[List.getD_eq_getElem?_getD] at this;rw[← this,Dp]
  ·rw[List.getD_eq_getElem?_getD,List.getD_eq_getElem?_getD,List.getElem?_eq_none (by simp;omega),List.getElem?_eq_none (by simp;omega)]
theorem Z4 {f:Nat} {at':Cy} (hat:at'.length≤900000) {o:T} (wo:AD o) {p q:E} {x y:T} (hp:J6 o.words x.words 0 p.words) (hq:J6 o.words y.words 0 q.words) {R:E→T→T→Prop} (kp:Vu R o.kids x.kids 0 p.kids) (kq:Vu R o.kids y.kids 0 q.kids) (b1:o.words.length≤700000∧o.kids.length≤700000) (b2:x.words.length≤700000∧x.kids.length≤700000) (b3:y.words.length≤700000∧y.kids.length≤700000) (wp:p.words.length≤500000000∧p.kids.length≤10000000000000) (wq:q.words.length≤500000000∧q.kids.length≤10000000000000)
  (hU:∀ i:Nat,∃ u,di f (at'++[(0,(i:Int))]) (o.kids.getD i T0) (CQ p.kids i) (CQ q.kids i) u) :
  ∃ u,AD u∧Af u=(Uq (mg f) at' o p q).1∧∀ (v w:Nat) (C:List Cf),C.length+(Uq (mg f) at' o p q).2.length≤100000000000 →
   SpecF Tryz.prog 55 (fun r=>[.pob [r] v 0,A7 at',tX o,eX p,eX q]) (LK v w C) (fun _=>tX u) (LK v w (C++(Uq (mg f) at' o p q).2)):=by
 obtain⟨U,hU⟩:=Classical.axiomOfChoice hU;have tw:Bu (Bu o.words.length p.words) q.words≤700000:=Nw (Nw b1.1 fun w hw=>by
  obtain⟨i,k1,k2,k3,_⟩:=IV hp w hw;omega) fun w hw=>by
  obtain⟨i,k1,k2,k3,_⟩:=IV hq w hw;omega
 have tk:Bf (Bf o.kids.length p.kids) q.kids≤700000:=NL (NL b1.2 fun w hw=>by
  obtain⟨i,k1,k2,k3,_⟩:=IU kp w hw;omega) fun w hw=>by
  obtain⟨i,k1,k2,k3,_⟩:=IU kq w hw;omega
 have O:=wfT_iff.1 wo;have ap:∀ k,k ∈ p.kids→0≤k.at_∧k.at_≤900000:=fun w hw=>by
  obtain⟨i,k1,k2,k3,_⟩:=IU kp w hw;omega
 have aq:∀ k,k ∈ q.kids→0≤k.at_∧k.at_≤900000:=fun w hw=>by
  obtain⟨i,k1,k2,k3,_⟩:=IU kq w hw;omega
 have hc2:(Uq (mg f) at' o p q).2=((List.range (Bu (Bu o.words.length p.words) q.words)).flatMap (fun i:Nat=>IX at' i (o.words.getD i 0) (B7 p.words i) (B7 q.words i)))++((List.range (Bf (Bf o.kids.length p.kids) q.kids)).flatMap fun i:Nat=>(mg f (at'++[(0,(i:Int))]) (o.kids.getD i T0) (CQ p.kids i) (CQ q.kids i)).2):=rfl;obtain⟨X,f1,f2,f3,f4⟩:=V0 wo hp hq (by omega) (by omega) (at':=at') (by omega);have ht:=df wo hp hq hU f1;have hkl:o.kids.length≤Bf (Bf o.kids.length p.kids) q.kids:=by
  rw[HG,HG];omega
 refine⟨.mk 1 X ((List.range (Bf (Bf o.kids.length p.kids) q.kids)).map U),wfT_iff.2 ⟨by simp[Db],f2,by show X.length*8≤_;omega,by simp;omega,fun t ht=>?_⟩,ht,fun v w C hC=>?_⟩
 ·obtain⟨i,_,rfl⟩:=List.mem_map.1 (show t ∈ (List.range _).map U from ht);exact(hU i).1
 rw[hc2] at hC ⊢;rw[List.length_append] at hC;have W:=f4 v w C (by omega);have L2:=fun {n0:Nat} {w0:World} {I0:Nat→Prop} {M0:Nm→Nat→Prop} {m0:Mu} {Q:Exit→Sta→Prop}=>gO (n0:=n0) (w0:=w0) (I0:=I0) (M0:=M0) (m0:=m0) (Q:=Q) hat (o:=o) (p:=p) (q:=q) (X:=X) (m:=Bf (Bf o.kids.length p.kids) q.kids) (by omega) wp.2 wq.2 hU (v:=v) (w:=w) (C:=C++(List.range (Bu (Bu o.words.length p.words) q.words)).flatMap fun i:Nat=>IX at' i (o.words.getD i 0) (B7 p.words i) (B7 q.words i)) (by rw[List.length_append];omega);rw[← List.append_assoc];have sp:=Rn kp;have sq:=Rn kq;generalize (List.range (Bu (Bu o.words.length p.words) q.words)).flatMap (fun i:Nat=>IX at' i (o.words.getD i 0) (B7 p.words i) (B7 q.words i))=CW at *;generalize hCK:(fun i:Nat=>(mg f (at'++[(0,(i:Int))]) (o.kids.getD i T0) (CQ p.kids i) (CQ q.kids i)).2)=CK at *;refine IY Ib (by simp) (Ai AX (Ai BZ (Ai (Bl o) (Ai (B4 p) (Ai (B4 q) Ax))))) (Bl _) fun w0 I0 M0 m0 hM=>?_;unfold EZ;simp;refine Bp 0 W (fun p=>by simp) (by simp) (by simp) ?_;simp;refine LoopC.le (Bc (d:=[5]) (u:=1) 2 [6] 3 (by simp;rfl) rfl (by simp)) ?_;refine LoopC.le (AB [(0,.pob [0] v 0),(1,A7 at'),(7,.pob [1] 1 0),(8,.pob [2] 1 0),(9,.pob [3] 1 0),(10,.pob [4] 1 0),(11,.pob [5] 1 0),(12,iv o.kids.length),(33,.sl true [J9 p.kids,J9 q.kids]),(34,iv 2),(35,iv 0)] (by simp)) ?_;refine jv ap aq sp sq wp.2 wq.2 (by omega) ?_;simp;refine LoopC.le (AB [(0,.pob [0] v 0),(1,A7 at'),(7,.pob [1] 1 0),(8,.pob [2] 1 0),(9,.pob [3] 1 0),(10,.pob [4] 1 0),(11,.pob [5] 1 0),(53,iv (Bf (Bf o.kids.length p.kids) q.kids:Nat)),(54,iv (0:Nat))] (by simp)) ?_;refine L2 (fun H' hH=>?_) (Bf (Bf o.kids.length p.kids) q.kids) 0 _ (by omega) ⟨fun r=>?_,by simp[Aa],by simp[Aa],by simp[Aa],by simp[Aa],by simp[Aa],by simp[Aa]⟩
 ·have h4:=hH.z;have h5:=hH.b;simp[h4,h5,Aa];have h6:=hH.c;have hf:=hH.f;rw[List.append_assoc] at hf;generalize hLL:(List.range (Bf (Bf o.kids.length p.kids) q.kids)).map U=LL at *;have hlen:Bf (Bf o.kids.length p.kids) q.kids=LL.length:=by rw[← hLL];simp
  generalize Bf (Bf o.kids.length p.kids) q.kids=m at *;obtain⟨H4,y1,y2⟩:=HX (c:=HS Tryz.prog w0 I0 M0 80 m0) (s:=lk [(10,.pob [4] 1 0)]) (H:=Ay H' [4] ⟨1,.cells [iv 1,CR X,.osl [6] (m+1) 3 0 m]⟩) (fun r=>r=6) (fun r p b h=>hM r p b (by omega)) (r0:=4) (p0:=[]) (by omega) (u:=1) (cs:=[iv 1,CR X,.osl [6] (m+1) 3 0 m]) (by simp[Aa]) (cs':=Uk (.mk 1 X LL)) (by simp[A.ones]) (fun H1 h1=>⟨Ad rfl,Ad rfl,AY (f:=tA) (l:=LL) (by rw[h1 6 [] rfl];simp[Aa,h6]) hlen (fun x=>by simp),trivial⟩);refine Ha y1 (A6 (r0:=tX (.mk 1 X LL)) (by simp[EK]) rfl fun r=>?_);have e1:=y2 0 r (by omega);dsimp only;rw[Av (by simp),e1,Av (by simp),hf]
 ·simp[Aa]
end Go.Proofs.YtndnlknocdangaaGreat
namespace Go.G
open Go
structure nU where
 B:Nat→Nat→Nat→Nm→VOb
 C:Nat→Nat→Nat→Nm→VOb
 D:Nat→Nat→Nat→Nm→VOb
 ren:∀ {g:Nm→Nm} {δ:Nm→Nat} {r r' q q' t t':Nat},(∀ p,g (r::p)=r'::p)→(∀ p,g (q::p)=q'::p)→(∀ p,g (t::p)=t'::p)→(∀ p,δ (r::p)=0)→(∀ p,δ (q::p)=0)→(∀ p,δ (t::p)=0)→∀ p,(B r q t p).ren g δ 0=B r' q' t' p∧(C r q t p).ren g δ 0=C r' q' t' p∧(D r q t p).ren g δ 0=D r' q' t' p
 refs:∀ {P:Nm→Prop} {r q t:Nat},(∀ p,P (r::p))→(∀ p,P (q::p))→(∀ p,P (t::p))→∀ p,(B r q t p).ob.refs P∧(C r q t p).ob.refs P∧(D r q t p).ob.refs P
section
variable {P:Program} {K:Sta→Prop} {rest:List CO} {s:Nat→A} {H:Hp} {dd:Option Nat} {nm:Nm} {ix:Nat} {un:List Nat} {l:Bool} {lg:Lg} {g:FuncId} {aa:Array Operand} {ts:Array TypeId}
theorem WQ {as':Nat→Nat→Nat→List A} {F:nU} {x:A} (r q t:Nat) (h1:r ≠ q) (h2:r ≠ t) (h3:q ≠ t)
  (hx1:∀ g δ,x.ren g δ=x) (hx2:∀ D,x.refs D)
  (fa1:∀ {g:Nm→Nm} {δ:Nm→Nat} {r r' q q' t t':Nat},(∀ p,g (r::p)=r'::p)→(∀ p,g (q::p)=q'::p)→(∀ p,g (t::p)=t'::p)→(∀ p,δ (r::p)=0)→(∀ p,δ (q::p)=0)→(∀ p,δ (t::p)=0)→A.renL g δ (as' r q t)=as' r' q' t')
  (fa2:∀ {P:Nm→Prop} {r q t:Nat},(∀ p,P (r::p))→(∀ p,P (q::p))→(∀ p,P (t::p))→A.refsL P (as' r q t))
  (hS:SpecH P g 3 (as' 0 1 2) (ov 0 (F.B 0 1 2) (ov 1 (F.C 0 1 2) (ov 2 (F.D 0 1 2) (Ga [])))) x (ov 0 (F.B 0 1 2) (ov 1 (F.C 0 1 2) (ov 2 (F.D 0 1 2) (Ga [])))))
  (hB:∀ p,H (r::p)=F.B r q t p) (hC:∀ p,H (q::p)=F.C r q t p) (hD:∀ p,H (t::p)=F.D r q t p) :
  ∃ E,SH P H g (as' r q t) x E [] ([r,q,t].map fun r=>([r],true))∧E.app H=H:=by
 have hd:∀ p,LY [r,q,t] 3 H (0::p)=0:=fun p=>rfl;have hd1:∀ p,LY [r,q,t] 3 H (1::p)=0:=fun p=>rfl;have hd2:∀ p,LY [r,q,t] 3 H (2::p)=0:=fun p=>rfl;have i0:[r,q,t].idxOf r=0:=by simp
 have i1:[r,q,t].idxOf q=1:=by simp[List.idxOf_cons,beq_eq_false_iff_ne.2 h1]
 have i2:[r,q,t].idxOf t=2:=by simp[List.idxOf_cons,beq_eq_false_iff_ne.2 h2,beq_eq_false_iff_ne.2 h3]
 have d0:∀ p,Pq [r,q,t] (r::p)=0::p:=fun p=>by simp[Pq]
 have d1:∀ p,Pq [r,q,t] (q::p)=1::p:=fun p=>by simp[Pq,i1]
 have d2:∀ p,Pq [r,q,t] (t::p)=2::p:=fun p=>by simp[Pq,i2]
 have u0:∀ p,Ng [r,q,t] (0::p)=r::p:=fun p=>by simp[Ng]
 have u1:∀ p,Ng [r,q,t] (1::p)=q::p:=fun p=>by simp[Ng]
 have u2:∀ p,Ng [r,q,t] (2::p)=t::p:=fun p=>by simp[Ng]
 have jin:∀ {j:Nat},[r,q,t].idxOf j<3→j=r∨j=q∨j=t:=fun {j} hj=>by
  have:=(idx_mem (rs:=[r,q,t])).1 (by simpa using hj);simpa using this
 have key:=Yw (H:=H) (L:=as' r q t) (H':=H) [r,q,t] 3 hS (by simp[h1,h2,h3]) (by simp) (fa1 d0 d1 d2 (fun _=>rfl) (fun _=>rfl) (fun _=>rfl)) (fa2 (fun p=>by simp[MD]) (fun p=>by simp[MD,i1]) (fun p=>by simp[MD,i2])) ?_ ?_ (hx2 _) ?_ (fun i p h1 h2=>by simp at h2;omega) ?_
 ·rw[hx1] at key;exact key
 ·funext o;cases o with
  |nil=>rfl
  |cons i p=>
   by_cases hi:i<3
   ·simp only[Kc,if_pos hi];have h01:i=0∨i=1∨i=2:=by omega
    rcases h01 with rfl | rfl | rfl
    ·show(H (r::p)).ren _ _ 0=_;rw[hB];simp only[AV,if_true];exact(F.ren d0 d1 d2 (fun _=>rfl) (fun _=>rfl) (fun _=>rfl) p).1
    ·show(H (q::p)).ren _ _ 0=_;rw[hC];simp only[AV,if_true];rw[if_neg (by omega)];exact(F.ren d0 d1 d2 (fun _=>rfl) (fun _=>rfl) (fun _=>rfl) p).2.1
    ·show(H (t::p)).ren _ _ 0=_;rw[hD];simp only[AV,if_true];rw[if_neg (by omega),if_neg (by omega)];exact(F.ren d0 d1 d2 (fun _=>rfl) (fun _=>rfl) (fun _=>rfl) p).2.2
   ·simp only[Kc,if_neg hi,AV];rw[if_neg (by omega),if_neg (by omega),if_neg (by omega)];rfl
 ·intro j p hj;have R:=F.refs (P:=MD [r,q,t] 3) (r:=r) (q:=q) (t:=t) (fun p=>by simp[MD]) (fun p=>by simp[MD,i1]) (fun p=>by simp[MD,i2]) p;rcases jin hj with rfl | rfl | rfl
  ·rw[hB];exact R.1
  ·rw[hC];exact R.2.1
  ·rw[hD];exact R.2.2
 ·intro i p hi;have hi:i<3:=hi;have R:=F.refs (P:=FU 3) (r:=0) (q:=1) (t:=2) (fun p=>by simp[FU]) (fun p=>by simp[FU]) (fun p=>by simp[FU]) p;by_cases e0:i=0
  ·subst e0;simp only[AV,if_true];exact R.1
  ·by_cases e1:i=1
   ·subst e1;simp only[AV,if_true];rw[if_neg (by omega)];exact R.2.1
   ·have:i=2:=by omega
    subst this;simp only[AV,if_true];rw[if_neg (by omega),if_neg (by omega)];exact R.2.2
 ·funext o;cases o with
  |nil=>rfl
  |cons j p=>
   by_cases hj:j=r
   ·subst hj;simp only[Kl,AV,if_true];rw[if_pos (by simp),i0,if_pos rfl,hd,hB];exact(F.ren u0 u1 u2 hd hd1 hd2 p).1
   ·by_cases hj2:j=q
    ·subst hj2;simp only[Kl,AV,if_true];rw[if_pos (by simp),i1,if_neg (by omega),if_pos rfl,hd1,hC];exact(F.ren u0 u1 u2 hd hd1 hd2 p).2.1
    ·by_cases hj3:j=t
     ·subst hj3;simp only[Kl,AV,if_true];rw[if_pos (by simp),i2,if_neg (by omega),if_neg (by omega),if_pos rfl,hd2,hD];exact(F.ren u0 u1 u2 hd hd1 hd2 p).2.2
     ·have:¬ [r,q,t].contains j=true:=by simp[hj,hj2,hj3]
      simp only[Kl,if_neg this]
theorem Qg {as':Nat→Nat→Nat→List A} {F:nU} {x:A} {fo:Operand} {fs caps:List A} (r q t:Nat) (h1:r ≠ q) (h2:r ≠ t) (h3:q ≠ t) (hv0:evs s fo = .fnc g fs caps)
  (hx1:∀ g δ,x.ren g δ=x) (hx2:∀ D,x.refs D)
  (fa1:∀ {g:Nm→Nm} {δ:Nm→Nat} {r r' q q' t t':Nat},(∀ p,g (r::p)=r'::p)→(∀ p,g (q::p)=q'::p)→(∀ p,g (t::p)=t'::p)→(∀ p,δ (r::p)=0)→(∀ p,δ (q::p)=0)→(∀ p,δ (t::p)=0)→A.renL g δ (as' r q t)=as' r' q' t')
  (fa2:∀ {P:Nm→Prop} {r q t:Nat},(∀ p,P (r::p))→(∀ p,P (q::p))→(∀ p,P (t::p))→A.refsL P (as' r q t))
  (hS:SpecH P g 3 (as' 0 1 2) (ov 0 (F.B 0 1 2) (ov 1 (F.C 0 1 2) (ov 2 (F.D 0 1 2) (Ga [])))) x (ov 0 (F.B 0 1 2) (ov 1 (F.C 0 1 2) (ov 2 (F.D 0 1 2) (Ga [])))))
  (hB:∀ p,H (r::p)=F.B r q t p) (hC:∀ p,H (q::p)=F.C r q t p) (hD:∀ p,H (t::p)=F.D r q t p) (ha:fs++(aa.toList.map (evs s)++caps)=as' r q t) (hck:Ck un lg ⟨[([r],true),([q],true),([t],true)],[]⟩)
  (h:Am P K rest (AR l ix ⟨[([r],true),([q],true),([t],true)],[]⟩ lg) (Sta.put ⟨s,H⟩ dd x H)) :
  Am P K (⟨dd,.call { callee:=.value fo,args:=aa,argTypes:=ts },none,nm,ix,un,l⟩::rest) lg ⟨s,H⟩:=by
 refine SX hv0 ha .nil [([r],true),([q],true),([t],true)] [] (fun H2 hag=>?_) (fun o H2 ho=>rfl) hck h;have e1:∀ p,H2 (r::p)=F.B r q t p:=fun p=>by rw[hag (r::p) (by simp[Qn,NQ,List.isPrefixOf]),hB]
 have e2:∀ p,H2 (q::p)=F.C r q t p:=fun p=>by rw[hag (q::p) (by simp[Qn,NQ,List.isPrefixOf]),hC]
 have e3:∀ p,H2 (t::p)=F.D r q t p:=fun p=>by rw[hag (t::p) (by simp[Qn,NQ,List.isPrefixOf]),hD]
 obtain⟨E,hc,hE⟩:=WQ r q t h1 h2 h3 hx1 hx2 fa1 fa2 hS e1 e2 e3;have hc3:N9 P H2 g (as' r q t) x E:=by
  rcases hc with ⟨_,_,_,_,h5⟩ | ⟨_,_,_,h4⟩ | ⟨h1,_⟩
  ·cases h5
  ·cases h4
  ·exact h1 H2 (fun o _=>rfl)
 refine⟨hc3.1,fun c w I μ vs a b d e=>?_⟩;have:=hc3.2 c w I μ vs a b d e;rw[hE] at this;exact this
end
end Go.G
namespace Go.Proofs.YtndnlknocdangaaGreat
open Go Go.G Go.Proofs Go.PL
abbrev aU (x:Bool × List T):A:=.sl x.1 (x.2.map tA)
def N0 (v w:Nat) (C:List Cf) (at':Cy) (o:T) (n vo:Nat) (out:List T) (m h:Bool × List T) (vs:Nat):N6:=⟨fun r _=>(LK v w C).F r,fun r q p=>if p=[] then ⟨vs,.cells [.pob [r] v 0,A7 at',iv o.kind,CR o.words,Bz o.kids,iv n,.osl [q,0] vo 3 0 out.length,aU m,aU h]⟩ else if p=[0] then ⟨vo,.arr 3 (out.map tA)⟩ else ⟨0,.none⟩,fun {g δ r r' q q'} h1 h2 h3 h4 p=>by
  refine⟨(LK v w C).ren h1 h2 p,?_⟩;by_cases hp:p=[]
  ·simp only[if_pos hp];exact Fam.cells_ren (by simp[A.renL,A.ren,h1,h2,h3,h4])
  ·by_cases hp2:p=[0]
   ·simp only[if_neg hp,if_pos hp2];refine Fam.arr_ren ?_;simp only[CV,List.map_map];exact List.map_congr_left fun x _=>by simp[A.ren,A.renL]
   ·simp only[if_neg hp,if_neg hp2];rfl,fun {D r q} h1 h2 p=>by
  refine⟨(LK v w C).refs h1 p,?_⟩;by_cases hp:p=[]
  ·simp only[if_pos hp];simp[Ob.refs,A.refsL,A.refs,h1,h2]
  ·by_cases hp2:p=[0]
   ·simp only[if_neg hp,if_pos hp2,Ob.refs,refsL_iff];intro y hy;obtain⟨x,_,rfl⟩:=List.mem_map.1 hy;simp[A.refs,A.refsL]
   ·simp only[if_neg hp,if_neg hp2];trivial⟩
@[simp] theorem AbA {v w:Nat} {C:List Cf} {at':Cy} {o:T} {n vo:Nat} {out:List T} {m h:Bool × List T} {vs r q:Nat} {p:Nm}:(N0 v w C at' o n vo out m h vs).B r q p=(LK v w C).F r p:=rfl
@[simp] theorem AbL {v w:Nat} {C:List Cf} {at':Cy} {o:T} {n vo:Nat} {out:List T} {m h:Bool × List T} {vs r q:Nat} {p:Nm}:(N0 v w C at' o n vo out m h vs).C r q p=if p=[] then ⟨vs,.cells [.pob [r] v 0,A7 at',iv o.kind,CR o.words,Bz o.kids,iv n,.osl [q,0] vo 3 0 out.length,aU m,aU h]⟩ else if p=[0] then ⟨vo,.arr 3 (out.map tA)⟩ else ⟨0,.none⟩:=rfl
def Wm (S:N6) (vs:Nat):nU:=⟨fun r q t p=>if p=[] then ⟨1,.cells [.pob [q] vs 0]⟩ else ⟨0,.none⟩,fun r q t p=>S.C t q p,fun r q t p=>S.B t q p,fun {g δ r r' q q' t t'} h1 h2 h3 d1 d2 d3 p=>by
  refine⟨?_,(S.ren h3 d3 h2 d2 p).2,(S.ren h3 d3 h2 d2 p).1⟩;by_cases hp:p=[]
  ·simp only[if_pos hp];exact Fam.cells_ren (by simp[A.renL,A.ren,h2,d2])
  ·simp only[if_neg hp];rfl,fun {D r q t} h1 h2 h3 p=>by
  refine⟨?_,(S.refs h3 h2 p).2,(S.refs h3 h2 p).1⟩;by_cases hp:p=[]
  ·simp only[if_pos hp];simp[Ob.refs,A.refsL,A.refs,h2]
  ·simp only[if_neg hp];trivial⟩
@[simp] theorem Abw {S:N6} {vs r q t:Nat} {p:Nm}:(Wm S vs).B r q t p=if p=[] then ⟨1,.cells [.pob [q] vs 0]⟩ else ⟨0,.none⟩:=rfl
@[simp] theorem Abm {S:N6} {vs r q t:Nat} {p:Nm}:(Wm S vs).C r q t p=S.C t q p:=rfl
@[simp] theorem AbP {S:N6} {vs r q t:Nat} {p:Nm}:(Wm S vs).D r q t p=S.B t q p:=rfl
theorem OG {v w:Nat} {C:List Cf} {at':Cy} {o:T} {n vo:Nat} {out:List T} {m h:Bool × List T} {vs:Nat} (b:Bool) (l:List T) :
  SpecH Tryz.prog 134 3 [.sl b (l.map tA),.pob [0] 1 0] (ov 0 ((Wm (N0 v w C at' o n vo out m h vs) vs).B 0 1 2) (ov 1 ((Wm (N0 v w C at' o n vo out m h vs) vs).C 0 1 2) (ov 2 ((Wm (N0 v w C at' o n vo out m h vs) vs).D 0 1 2) (Ga [])))) (tX (.mk o.kind [] l)) (ov 0 ((Wm (N0 v w C at' o n vo out m h vs) vs).B 0 1 2) (ov 1 ((Wm (N0 v w C at' o n vo out m h vs) vs).C 0 1 2) (ov 2 ((Wm (N0 v w C at' o n vo out m h vs) vs).D 0 1 2) (Ga [])))):=by
 refine Lb Lo (by simp) fun w0 I0 M0 m0 hM=>?_;unfold G8;simp;generalize hH:ov 0 ((Wm (N0 v w C at' o n vo out m h vs) vs).B 0 1 2) (ov 1 ((Wm (N0 v w C at' o n vo out m h vs) vs).C 0 1 2) (ov 2 ((Wm (N0 v w C at' o n vo out m h vs) vs).D 0 1 2) (Ga [([3],⟨1,.cells [iv o.kind,.sl true [],.sl b (l.map tA)]⟩)])))=H;have h3:H [3]=⟨1,.cells [iv o.kind,.sl true [],.sl b (l.map tA)]⟩:=by rw[← hH];simp
 obtain⟨H2,g1,g2⟩:=HX (c:=HS Tryz.prog w0 I0 M0 11 m0) (s:=lk [(3,.pob [3] 1 0)]) (H:=H) (fun _=>False) (fun _ _ _ h=>h.elim) (r0:=3) (p0:=[]) (by simp) h3 (cs':=Uk (.mk o.kind [] l)) (by simp[A.ones]) (fun H1 _=>⟨Ad rfl,Ah,Ah,trivial⟩);refine Ha g1 (Q6 (r0:=tX (.mk o.kind [] l)) (by simp[EK]) rfl fun i p hi=>?_);have e1:=g2 i p (by simp);dsimp only;rw[Av (by simp;omega),e1,← hH];by_cases e0:i=0
 ·subst e0;simp
 ·by_cases e1:i=1
  ·subst e1;simp
  ·have:i=2:=by omega
   subst this;simp
theorem oh {l m:List T}:(decide (l.length=m.length)&&(l.zip m).all fun p=>G7 p.1 p.2)=true ↔ l.map Af=m.map Af:=by
 induction l generalizing m with
 |nil=>cases m<;>simp
 |cons x l ih=>
  cases m with
  |nil=>simp
  |cons y m=>
   have:=ih (m:=m);simp only[Bool.and_eq_true,decide_eq_true_eq] at this ⊢;rw[List.zip_cons_cons,List.all_cons,Bool.and_eq_true,List.map_cons,List.map_cons,List.cons.injEq,← this,eqT_iff];simp only[List.length_cons,Nat.add_right_cancel_iff];constructor
   ·rintro⟨a,b,c⟩;exact⟨b,a,c⟩
   ·rintro⟨b,a,c⟩;exact⟨a,b,c⟩
noncomputable def Ig (l m:List T):Bool:=decide (l.length=m.length)&&(l.zip m).all fun p=>G7 p.1 p.2
theorem eqLs_iff {l m:List T}:Ig l m=true ↔ l.map Af=m.map Af:=oh
theorem Sh {l m:List T} (he:l.length=m.length):Ig l m=true ↔ ∀ k,k<l.length→G7 (l.getD k T0) (m.getD k T0)=true:=by
 rw[eqLs_iff];constructor
 ·intro h k hk;have:=congrArg (fun x=>x.getD k T0) h;simp only[ER] at this;exact eqT_iff.2 this
 ·intro h;refine List.ext_getElem (by simp[he]) fun k h1 h2=>?_;have hk:k<l.length:=by simpa using h1
  have hk2:k<m.length:=by omega
  have:=eqT_iff.1 (h k hk);simpa[hk,hk2] using this
variable {n0:Nat} {w0:World} {I0:Nat→Prop} {Q:Exit→Sta→Prop}
theorem mZ {l m:List T} (hl:∀ t,t ∈ l→AD t) (hm:∀ t,t ∈ m→AD t) (he:l.length=m.length) (hb:l.length≤10000000000000) (hq:Ig l m=true→∀ st H,Q (.exit 0) ⟨lk ([(1,Bz m),(2,.fnc 57 [] [])]++st),H⟩) (hf:Ig l m=false→∀ H,Q .ret ⟨lk [(6,bv false)],H⟩):∀ (j i:Nat) (H:Hp),i+j=l.length→(∀ k,k<i→G7 (l.getD k T0) (m.getD k T0)=true) →
  LoopC (cx Tryz.prog w0 I0 n0) Al Q ⟨lk [(1,Bz m),(2,.fnc 57 [] []),(15,Bz l),(16,iv l.length),(17,iv i)],H⟩:=by
 intro j;induction j with
 |zero=>
  intro i H hj hp;have:i=l.length:=by omega
  subst this;refine Ab Aj Al.eq_1 ?_;simp;have:=hq ((Sh he).2 hp) [(15,Bz l),(16,iv l.length),(17,iv l.length),(18,bv false)] H;simpa using this
 |succ j ih=>
  intro i H hj hp;have h1:i<l.length:=by omega
  have h2:i<m.length:=by omega
  have ew:=AI i;have E:=Jq (hl _ (BD h1)) (hm _ (BD h2));have eg:G7 (l.getD i T0) (m.getD i T0)=G7 l[i] m[i]:=by simp[h1,h2]
  refine Ab Aj Al.eq_1 ?_;cases hc:G7 l[i] m[i] with
  |true=>
   rw[hc] at E;simp[h1,h2,Aa];refine P6 rfl E (by simp) ?_;simp[ew];refine ih (i+1) _ (by omega) fun k hk=>?_;by_cases e:k=i
   ·subst e;rw[eg,hc]
   ·exact hp k (by omega)
  |false=>
   rw[hc] at E;simp[h1,h2,Aa];refine P6 rfl E (by simp) ?_;simp[ew];refine hf ?_ _;cases hx:Ig l m with
   |false=>rfl
   |true=>
    have:=(Sh he).1 hx i h1;rw[eg,hc] at this;cases this
theorem VS {l m:List T} (hl:∀ t,t ∈ l→AD t) (hm:∀ t,t ∈ m→AD t) (hb:l.length≤10000000000000):G.Spec Tryz.prog 127 [Bz l,Bz m,.fnc 57 [] []] (bv (Ig l m)):=by
 refine Ag Ba (by simp) fun w0 I0=>?_;unfold AH;by_cases he:l.length=m.length
 ·simp[he];refine LoopC.le (AB [(1,Bz m),(2,.fnc 57 [] []),(15,Bz l),(16,iv l.length),(17,iv (0:Nat))] (by simp[he])) ?_;refine mZ hl hm he hb (fun hx st H=>?_) (fun hx H=>?_) l.length 0 _ (by omega) (fun k hk=>by omega)
  ·rw[hx];simp;exact Ad rfl
  ·rw[hx];simp;exact Ad rfl
 ·have hx:Ig l m=false:=by
   cases hx:Ig l m with
   |false=>rfl
   |true=>exact absurd (by simpa using congrArg List.length (eqLs_iff.1 hx)) he
  have hi:¬ ((l.length:Int)=m.length):=by omega
  rw[hx];simp[he,hi];exact Ad rfl
noncomputable def Gc (mine hers:List T):Option (List T):=if mine=[] then some hers else if Ig mine hers=true then some hers else if hers=[] then some mine else none
noncomputable def Rr (mine hers:List T):Nat:=if (Gc mine hers).isSome=true then 1 else 0
theorem WO (at':Cy) (kind:Int) (n:Nat) (mine hers:List T):(∀ l,Gc mine hers=some l→D7 at' kind n mine hers=(l.map Af,[]))∧(Gc mine hers=none→D7 at' kind n mine hers=([],[⟨at'++[(2,(n:Int))],Af (.mk kind [] []),Af (.mk kind [] mine),Af (.mk kind [] hers)⟩])):=by
 unfold Gc D7;by_cases h1:mine=[]
 ·simp[h1]
 ·by_cases h2:Ig mine hers=true
  ·simp[h1,h2,eqLs_iff.1 h2]
  ·have h2':¬ mine.map Af=hers.map Af:=fun h=>h2 (eqLs_iff.2 h);by_cases h3:hers=[]
   ·subst h3;simp[h1,h2,h2']
   ·simp[h1,h2,h2',h3]
theorem R4 {v w:Nat} {C:List Cf} {at':Cy} {o:T} {n vo:Nat} {out mine hers:List T} {vs:Nat} (hm:∀ t,t ∈ mine→AD t) (hh:∀ t,t ∈ hers→AD t) (wo:Db o.kind) (lm:mine.length≤1000000) (lh:hers.length≤1000000) (lo:out.length≤1000000000) (hat:at'.length≤900000) (hC:C.length≤100000000000) :
  KW Tryz.prog 87 (fun r q=>[.pob [q] vs 0]) (N0 v w C at' o n vo out (false,mine) (false,hers) vs) (fun _ _=>.tup []) (N0 v w (C++(D7 at' o.kind n mine hers).2) at' o n (vo+Rr mine hers) (out++(Gc mine hers).getD []) (true,[]) (true,[]) vs):=by
 have E:=VS hm hh (by omega);have G:=WO at' o.kind n mine hers;have hml:(mine.length:Int)=0 ↔ mine=[]:=by rw[← List.length_eq_zero_iff];omega
 have hhl:(hers.length:Int)=0 ↔ hers=[]:=by rw[← List.length_eq_zero_iff];omega
 refine Hw NJ (by simp) (Be (K5 AX) Gr) (Cu (D6 Ax)) fun w0 I0 M0 m0=>?_;unfold IC;by_cases h1:mine=[]
 ·have hR:Gc mine hers=some hers:=if_pos h1;rw[G.1 _ hR,Rr,hR];subst h1;simp;refine AU rfl ?_;simp[Aa,splice];refine⟨by omega,?_⟩;refine C6 rfl rfl (fun p=>?_) (fun p=>?_)
  ·simp[Aa]
  ·by_cases p1:p=[]
   ·subst p1;simp[Aa]
   ·by_cases p2:p=[0]
    ·subst p2;simp[Aa,AN]
    ·simp[Aa,p1,p2]
 ·have hml':¬ (mine.length:Int)=0:=fun h=>h1 (hml.1 h);by_cases h2:Ig mine hers=true
  ·have hR:Gc mine hers=some hers:=by rw[Gc,if_neg h1,if_pos h2]
   rw[G.1 _ hR,Rr,hR];rw[h2] at E;simp[h1,hml'];rw[D9];simp[h1,hml'];refine Ae E (by simp) ?_;simp[Aa,splice];refine⟨by omega,?_⟩;refine C6 rfl rfl (fun p=>?_) (fun p=>?_)
   ·simp[Aa]
   ·by_cases p1:p=[]
    ·subst p1;simp[Aa]
    ·by_cases p2:p=[0]
     ·subst p2;simp[Aa,AN]
     ·simp[Aa,p1,p2]
  ·have h2f:Ig mine hers=false:=by
    cases h:Ig mine hers with
    |false=>rfl
    |true=>exact absurd h h2
   rw[h2f] at E;by_cases h3:hers=[]
   ·have hR:Gc mine hers=some mine:=by rw[Gc,if_neg h1,if_neg h2,if_pos h3]
    rw[G.1 _ hR,Rr,hR];subst h3;simp[h1,hml'];rw[D9];simp[h1,hml'];refine Ae E (by simp) ?_;simp[Aa,splice];refine⟨by omega,?_⟩;refine C6 rfl rfl (fun p=>?_) (fun p=>?_)
    ·simp[Aa]
    ·by_cases p1:p=[]
     ·subst p1;simp[Aa]
     ·by_cases p2:p=[0]
      ·subst p2;simp[Aa,AN]
      ·simp[Aa,p1,p2]
   ·have hR:Gc mine hers=none:=by rw[Gc,if_neg h1,if_neg h2,if_neg h3]
    have hhl':¬ (hers.length:Int)=0:=fun h=>h3 (hhl.1 h);rw[G.2 hR,Rr,hR];have F:=Hd at' 2 n (by omega);simp[h1,hml'];rw[D9];simp[h1,hml'];refine Ae E (by simp) ?_;simp[Aa,h3,hhl'];refine Ae F (by simp) ?_;simp;have B1:=OG (v:=v) (w:=w) (C:=C) (at':=at') (o:=o) (n:=n) (vo:=vo) (out:=out) (m:=(false,mine)) (h:=(false,hers)) (vs:=vs) true [];have B2:=OG (v:=v) (w:=w) (C:=C) (at':=at') (o:=o) (n:=n) (vo:=vo) (out:=out) (m:=(false,mine)) (h:=(false,hers)) (vs:=vs) false mine;have B3:=OG (v:=v) (w:=w) (C:=C) (at':=at') (o:=o) (n:=n) (vo:=vo) (out:=out) (m:=(false,mine)) (h:=(false,hers)) (vs:=vs) false hers;have wf1:∀ l:List T,(∀ t,t ∈ l→AD t)→l.length≤1000000→AD (.mk o.kind [] l):=fun l h1 h2=>wfT_iff.2 ⟨wo,by simp,by simp,by show l.length*56≤_;omega,h1⟩;have CL:=Mi (l:=at'++[(2,(n:Int))]) (b:=.mk o.kind [] []) (o:=.mk o.kind [] mine) (t:=.mk o.kind [] hers) (by simp;omega) (wf1 [] (fun t ht=>nomatch ht) (by simp)) (wf1 mine hm lm) (wf1 hers hh lh) v w hC;have hB:∀ p,(ov 0 ((N0 v w C at' o n vo out (false,mine) (false,hers) vs).B 0 1) (ov 1 ((N0 v w C at' o n vo out (false,mine) (false,hers) vs).C 0 1) (Ga [([2],⟨1,.cells [.pob [1] vs 0]⟩)]))) (2::p)=(Wm (N0 v w C at' o n vo out (false,mine) (false,hers) vs) vs).B 2 1 0 p:=fun p=>by
     by_cases hp:p=[]
     ·subst hp;simp
     ·simp[hp,Ga,Ne.symm hp]
    have fa1:∀ (b:Bool) (l:List T) {g:Nm→Nm} {δ:Nm→Nat} {r r' q q' t t':Nat},(∀ p,g (r::p)=r'::p)→(∀ p,g (q::p)=q'::p)→(∀ p,g (t::p)=t'::p)→(∀ p,δ (r::p)=0)→(∀ p,δ (q::p)=0)→(∀ p,δ (t::p)=0)→A.renL g δ [.sl b (l.map tA),.pob [r] 1 0]=[.sl b (l.map tA),.pob [r'] 1 0]:=fun b l _ _ _ _ _ _ _ _ h1 _ _ d1 _ _=>by simp[A.renL,A.ren,h1,d1]
    have fa2:∀ (b:Bool) (l:List T) {P:Nm→Prop} {r q t:Nat},(∀ p,P (r::p))→(∀ p,P (q::p))→(∀ p,P (t::p))→A.refsL P [.sl b (l.map tA),.pob [r] 1 0]:=fun b l _ _ _ _ h1 _ _=>by simp[A.refsL,A.refs,h1]
    refine Qg (as':=fun r q t=>[.sl true [],.pob [r] 1 0]) (F:=Wm (N0 v w C at' o n vo out (false,mine) (false,hers) vs) vs) (fs:=[]) (caps:=[.pob [2] 1 0]) 2 1 0 (by decide) (by decide) (by decide) (by simp) (fun g δ=>by simp[A.ren,A.renL]) (fun D=>by simp[A.refs,A.refsL]) (fa1 true []) (fa2 true []) B1 hB (fun p=>by simp) (fun p=>by simp) (by simp) (by simp) ?_;simp;refine Qg (as':=fun r q t=>[.sl false (mine.map tA),.pob [r] 1 0]) (F:=Wm (N0 v w C at' o n vo out (false,mine) (false,hers) vs) vs) (fs:=[]) (caps:=[.pob [2] 1 0]) 2 1 0 (by decide) (by decide) (by decide) (by simp) (fun g δ=>by simp[A.ren,A.renL]) (fun D=>by simp[A.refs,A.refsL]) (fa1 false mine) (fa2 false mine) B2 hB (fun p=>by simp) (fun p=>by simp) (by simp) (by simp) ?_;simp;refine Qg (as':=fun r q t=>[.sl false (hers.map tA),.pob [r] 1 0]) (F:=Wm (N0 v w C at' o n vo out (false,mine) (false,hers) vs) vs) (fs:=[]) (caps:=[.pob [2] 1 0]) 2 1 0 (by decide) (by decide) (by decide) (by simp) (fun g δ=>by simp[A.ren,A.renL]) (fun D=>by simp[A.refs,A.refsL]) (fa1 false hers) (fa2 false hers) B3 hB (fun p=>by simp) (fun p=>by simp) (by simp) (by simp) ?_;simp;refine Bp 0 CL (fun p=>by simp) (by simp) (by simp[List.isPrefixOf]) ?_;simp[Aa,splice];refine C6 rfl rfl (fun p=>?_) (fun p=>?_)
    ·simp[Aa]
    ·by_cases p1:p=[]
     ·subst p1;simp[Aa]
     ·by_cases p2:p=[0]
      ·subst p2;simp[Aa]
      ·simp[Aa,p1,p2]
def Wi (e:E) (t:T):Prop:=G.Spec Tryz.prog 54 [eX e,tX t] (tX (D0 e t))∧AD (D0 e t)∧Af (D0 e t)=D0 e t
theorem M7:Af T0=T0:=rfl
def UtS (f:Nat) (at':Cy) (o:T) (n:Nat) (p q:OP) (us:List T) (cs:List Cf):Prop:=∀ (v w:Nat) (C:List Cf) (vo:Nat) (out:List T) (vs:Nat),C.length+cs.length≤100000000000→out.length≤1000000000 →
 KW Tryz.prog 88 (fun r q'=>[.pob [q'] vs 0,oX p,oX q]) (N0 v w C at' o n vo out (true,[]) (true,[]) vs) (fun _ _=>.tup []) (N0 v w (C++cs) at' o (n+1) (vo+us.length) (out++us) (true,[]) (true,[]) vs)
theorem XB {f:Nat} {at':Cy} (hat:at'.length≤900000) {o:T} (wo:AD o) {n:Nat} (hn:n<o.kids.length) (hn2:n≤1000000000) {p q:OP} (hp:(p.kind=0∧p.e=E0)∨(p.kind=1∧p.e=E0)∨(p.kind=3∧Wi p.e o.kids[n])) (hq:(q.kind=0∧q.e=E0)∨(q.kind=1∧q.e=E0)∨(q.kind=3∧Wi q.e o.kids[n])) {u:T} (hu:di f (at'++[(0,(n:Int))]) o.kids[n] p.e q.e u) :
  ∃ us,(∀ t,t ∈ us→AD t)∧us.length≤1∧us.map Af=(Bx (mg f) (at'++[(0,(n:Int))]) o.kids[n] (IM p) (IM q)).1∧UtS f at' o n p q us (Bx (mg f) (at'++[(0,(n:Int))]) o.kids[n] (IM p) (IM q)).2:=by
 have wk:AD o.kids[n]:=(wfT_iff.1 wo).ks _ (BD hn);have F:=Hd at' 0 n (by omega);have ew:=AI n;by_cases a1:p.kind=1∧q.kind=3
 ·have e1:IM p = .del T0:=by unfold IM;rw[if_neg (by omega),if_pos a1.1]
  have e2:IM q = .desc q.e:=by unfold IM;rw[if_neg (by omega),if_neg (by omega)]
  have D:Wi q.e o.kids[n]:=by
   rcases hq with h | h | h
   ·omega
   ·omega
   ·exact h.2
  rw[e1,e2];refine⟨[o.kids[n]],fun t ht=>by rw[List.mem_singleton.1 ht];exact wk,by simp,rfl,fun v w C vo out vs hC ho=>?_⟩;have CL:=Kt (l:=at'++[(0,(n:Int))]) (b:=o.kids[n]) (o:=T0) (t:=D0 q.e o.kids[n]) true false (by simp;omega) wk Q2 D.2.1 v w (C:=C) (by simp[Bx] at hC;omega);rw[M7,D.2.2] at CL;have D1:=D.1;simp only[Bx];refine Hw Eu (by simp) (Be (K5 AX) (Be (Cu (FH p)) (Be (Cu (FH q)) Gr))) (Cu (D6 Ax)) fun w0 I0 M0 m0=>?_;unfold CZ;simp[hn];refine Ae F (by simp) ?_;simp[a1.1,a1.2,Aa];refine Ae D1 (by simp) ?_;simp;refine Bp 0 CL (fun p=>by simp) (by simp) (by simp[List.isPrefixOf]) ?_;simp[Aa,splice];refine⟨by omega,by omega,?_⟩;refine C6 rfl rfl (fun p=>?_) (fun p=>?_)
  ·simp[Aa]
  ·by_cases p1:p=[]
   ·subst p1;simp[Aa,ew]
   ·by_cases p2:p=[0]
    ·subst p2;simp[Aa,AN]
    ·simp[Aa,p1,p2]
 by_cases a2:p.kind=3∧q.kind=1
 ·have e1:IM q = .del T0:=by unfold IM;rw[if_neg (by omega),if_pos a2.2]
  have e2:IM p = .desc p.e:=by unfold IM;rw[if_neg (by omega),if_neg (by omega)]
  have D:Wi p.e o.kids[n]:=by
   rcases hp with h | h | h
   ·omega
   ·omega
   ·exact h.2
  rw[e1,e2];refine⟨[o.kids[n]],fun t ht=>by rw[List.mem_singleton.1 ht];exact wk,by simp,rfl,fun v w C vo out vs hC ho=>?_⟩;have CL:=Kt (l:=at'++[(0,(n:Int))]) (b:=o.kids[n]) (o:=D0 p.e o.kids[n]) (t:=T0) false true (by simp;omega) wk D.2.1 Q2 v w (C:=C) (by simp[Bx] at hC;omega);rw[M7,D.2.2] at CL;have D1:=D.1;simp only[Bx];refine Hw Eu (by simp) (Be (K5 AX) (Be (Cu (FH p)) (Be (Cu (FH q)) Gr))) (Cu (D6 Ax)) fun w0 I0 M0 m0=>?_;unfold CZ;simp[hn];refine Ae F (by simp) ?_;simp[a2.1,a2.2,Aa];refine Ae D1 (by simp) ?_;simp;refine Bp 0 CL (fun p=>by simp) (by simp) (by simp[List.isPrefixOf]) ?_;simp[Aa,splice];refine⟨by omega,by omega,?_⟩;refine C6 rfl rfl (fun p=>?_) (fun p=>?_)
  ·simp[Aa]
  ·by_cases p1:p=[]
   ·subst p1;simp[Aa,ew]
   ·by_cases p2:p=[0]
    ·subst p2;simp[Aa,AN]
    ·simp[Aa,p1,p2]
 by_cases a3:p.kind=1∨q.kind=1
 ·have hM:Bx (mg f) (at'++[(0,(n:Int))]) o.kids[n] (IM p) (IM q)=([],[]):=by
   rcases hp with h | h | h<;>rcases hq with g | g | g<;>(try omega)<;>simp[IM,h.1,g.1,Bx]
  rw[hM];refine⟨[],(fun t ht=>by simp at ht),by simp,rfl,fun v w C vo out vs hC ho=>?_⟩;refine Hw Eu (by simp) (Be (K5 AX) (Be (Cu (FH p)) (Be (Cu (FH q)) Gr))) (Cu (D6 Ax)) fun w0 I0 M0 m0=>?_;unfold CZ;simp[hn];refine Ae F (by simp) ?_;by_cases b1:p.kind=1
  ·have b2:¬ q.kind=3:=fun h=>a1 ⟨b1,h⟩;simp[b1,b2,Aa];refine C6 rfl rfl (fun p=>?_) (fun p=>?_)
   ·simp[Aa]
   ·by_cases p1:p=[]
    ·subst p1;simp[Aa,ew]
    ·simp[Aa,p1]
  ·have b2:q.kind=1:=by omega
   have b3:¬ p.kind=3:=fun h=>a2 ⟨h,b2⟩;simp[b1,b2,b3,Aa];refine C6 rfl rfl (fun p=>?_) (fun p=>?_)
   ·simp[Aa]
   ·by_cases p1:p=[]
    ·subst p1;simp[Aa,ew]
    ·simp[Aa,p1]
 ·have b1:¬ p.kind=1:=fun h=>a3 (.inl h);have b2:¬ q.kind=1:=fun h=>a3 (.inr h);have hM:Bx (mg f) (at'++[(0,(n:Int))]) o.kids[n] (IM p) (IM q)=([(mg f (at'++[(0,(n:Int))]) o.kids[n] p.e q.e).1],(mg f (at'++[(0,(n:Int))]) o.kids[n] p.e q.e).2):=by
   rcases hp with h | h | h<;>rcases hq with g | g | g<;>(try omega)
   ·rw[h.2,g.2];simp[IM,h.1,g.1,Bx,eU]
   ·rw[h.2];simp[IM,h.1,g.1,Bx,eU]
   ·rw[g.2];simp[IM,h.1,g.1,Bx,eU]
   ·simp[IM,h.1,g.1,Bx,eU]
  obtain⟨u1,u2,u3⟩:=hu;rw[hM];refine⟨[u],fun t ht=>by rw[List.mem_singleton.1 ht];exact u1,by simp,by simp[u2],fun v w C vo out vs hC ho=>?_⟩;have S:=u3 v w C hC;refine Hw Eu (by simp) (Be (K5 AX) (Be (Cu (FH p)) (Be (Cu (FH q)) Gr))) (Cu (D6 Ax)) fun w0 I0 M0 m0=>?_;unfold CZ;simp[hn];refine Ae F (by simp) ?_;simp[b1,b2,Aa];refine Bp 0 S (fun p=>by simp) (by simp) (by simp[List.isPrefixOf]) ?_;simp[Aa,splice];refine⟨by omega,by omega,?_⟩;refine C6 rfl rfl (fun p=>?_) (fun p=>?_)
  ·simp[Aa]
  ·by_cases p1:p=[]
   ·subst p1;simp[Aa,ew]
   ·by_cases p2:p=[0]
    ·subst p2;simp[Aa,AN]
    ·simp[Aa,p1,p2]
end Go.Proofs.YtndnlknocdangaaGreat
namespace Go.G
open Go
theorem Xf {c:Cx} {s:Nat→A} {H:Hp} (R:Nat→Prop) [DecidablePred R] (hM:∀ r p b,R r→¬ c.M0 (r::p) b) {r0:Nat} {p0:Nm} (hr0:¬ R r0) {u:Nat} {cs cs':List A} (hd:H (r0::p0)=⟨u,.cells cs⟩) (h1:A.ones cs'=true)
  (hf:∀ H1:Hp,(∀ r p,R r→H1 (r::p)=H (r::p))→cs.length=cs'.length∧∀ (k:Nat) (x y:A),cs[k]? = some x→cs'[k]? = some y→y=x∨Gu H1 x y) :
  ∃ H2:Hp,Le c ⟨s,H⟩ ⟨s,Ay H2 (r0::p0) ⟨u,.cells cs'⟩⟩∧∀ r p,¬ R r→H2 (r::p)=H (r::p):=by
 refine⟨fun o=>match o with | r::p=>if R r then ⟨(H (r::p)).u,.none⟩ else H (r::p) | []=>H [],fun a w I μ hs=>?_,fun r p h=>if_neg h⟩;have part1:Part H (fun o=>match o with | r::p=>if R r then H (r::p) else ⟨(H (r::p)).u,.none⟩ | []=>⟨(H []).u,.none⟩):=fun o=>by
  cases o with
  |nil=>exact .inr rfl
  |cons r p=>
   by_cases hr:R r
   ·exact .inl (by simp[hr])
   ·exact .inr (by simp[hr])
 have part2:Part H (fun o=>match o with | r::p=>if R r then ⟨(H (r::p)).u,.none⟩ else H (r::p) | []=>H []):=fun o=>by
  cases o with
  |nil=>exact .inl rfl
  |cons r p=>
   by_cases hr:R r
   ·exact .inr (by simp[hr])
   ·exact .inl (by simp[hr])
 have h3:=hs.sim.freezeAll part1 part2 (fun o=>by
  cases o with
  |nil=>exact .inl rfl
  |cons r p=>
   by_cases hr:R r
   ·exact .inr (by simp[hr])
   ·exact .inl (by simp[hr])) (fun o b h=>by
  cases o with
  |nil=>exact absurd rfl h
  |cons r p=>
   by_cases hr:R r
   ·exact hM r p b hr
   ·exact absurd (by simp[hr]) h)
 have hd2:(fun o=>match o with | r::p=>if R r then (⟨(H (r::p)).u,.none⟩:VOb) else H (r::p) | []=>H []:Hp) (r0::p0)=⟨u,.cells cs⟩:=by
  show(if R r0 then _ else _)=_;rw[if_neg hr0,hd]
 have hob:=hs.sim.ob (r0::p0);have hob:OSim w I μ (μ (r0::p0)) (.cells cs):=by
  have e:(⟨s,H⟩:Sta).H (r0::p0)=⟨u,.cells cs⟩:=hd;rw[e] at hob;exact hob
 obtain⟨vs,k1,k2,k3⟩:=hob;obtain⟨hl,hg⟩:=(hf (fun o=>match o with | r::p=>if R r then H (r::p) else ⟨(H (r::p)).u,.none⟩ | []=>⟨(H []).u,.none⟩) fun r p h=>if_pos h);have hB:Dw (μ (r0::p0)) ((fun o=>match o with | r::p=>if R r then (⟨(H (r::p)).u,.none⟩:VOb) else H (r::p) | []=>H []:Hp) (r0::p0)).ob=true:=by rw[hd2];rfl
 obtain⟨hx2,hs2⟩:=h3.upd (EY w none) (r0::p0) (μ (r0::p0)) (.cells cs') (.inl rfl) (.inr rfl) (fun _=>.inr ⟨hB,rfl⟩) (fun _=>h3.tag _ hB) (fun hx2=>by
  refine⟨vs,k1,by rw[k2,hl],fun k y hk=>?_⟩;rw[EP];have hlt:k<cs.length:=by have:=(List.getElem?_eq_some_iff.1 hk).1;omega
  have hx:cs[k]? = some cs[k]:=List.getElem?_eq_getElem hlt;simp only[A.ones,List.all_eq_true] at h1;refine⟨h1 y (List.mem_of_getElem? hk),?_⟩;rcases hg k _ y hx hk with e | hfx
  ·rw[e];exact(k3 k _ hx).2.mono0 (fun b h=>.inl h) (fun _ _=>rfl)
  ·exact(hfx c w I μ _ (hs.sim.part part1) (k3 k _ hx).2).ofI)
 have hu:(μ (r0::p0)).u=u:=by exact(h3.ver (r0::p0)).trans (congrArg VOb.u hd2)
 rw[hu] at hs2;exact⟨_,_,hs2,hs.size,hs.defers,fun t=>hx2.rel ((hs.rel t).mono0 (fun b h=>.inl h) (fun _ _=>rfl))⟩
end Go.G
namespace Go.Proofs.YtndnlknocdangaaGreat
open Go Go.G Go.Proofs Go.PL
structure x8 (v w:Nat) (C:List Cf) (at':Cy) (o:T) (n vo:Nat) (out:List T) (H:Hp):Prop where
 f:∀ p,H (0::p)=(N0 v w C at' o n vo out (true,[]) (true,[]) 1).B 0 5 p
 s:∀ p,H (5::p)=(N0 v w C at' o n vo out (true,[]) (true,[]) 1).C 0 5 p
 o:H [1]=⟨1,.cells (Uk o)⟩
 z:H [4]=⟨1,.cells [iv 0,.sl true [],.sl true []]⟩
def ke:Pc→OP × OP
 |.a o=>(o,O0)
 |.b o=>(O0,o)
 |.both o o'=>(o,o')
theorem fM {f:Nat} {at':Cy} (hat:at'.length≤900000) {o:T} (wo:AD o) (hko:o.kids.length≤1000000) {o1 o2:OP} {l:List Pc} {k m:Nat} (hm:m≤10000000):∀ (ks:List T) (i n:Nat),i+ks.length=m→ks=(o.kids.drop n).take ks.length→n+ks.length≤o.kids.length →
  (∀ (i:Nat) (h:i<o.kids.length),o.kids[i] ∈ ks→((o1.kind=0∧o1.e=E0)∨(o1.kind=1∧o1.e=E0)∨(o1.kind=3∧Wi o1.e o.kids[i]))∧((o2.kind=0∧o2.e=E0)∨(o2.kind=1∧o2.e=E0)∨(o2.kind=3∧Wi o2.e o.kids[i]))∧∃ u,di f (at'++[(0,(i:Int))]) o.kids[i] o1.e o2.e u) →
  ∃ us,(∀ t,t ∈ us→AD t)∧us.length≤ks.length∧us.map Af=(Jr (mg f) at' o1 o2 ks n).1∧∀ {n0:Nat} {w0:World} {I0:Nat→Prop} {M0:Nm→Nat→Prop} {m0:Mu} {Q:Exit→Sta→Prop} (v w:Nat) (C:List Cf) (vo u6:Nat) (out:List T) (H:Hp),C.length+(Jr (mg f) at' o1 o2 ks n).2.length≤100000000000→out.length+ks.length≤1000000000→x8 v w C at' o n vo out H→H [6]=⟨u6,.cells (iv 0::(Lm o1++Lm o2))⟩ →
   (∀ (H':Hp) (vo':Nat),x8 v w (C++(Jr (mg f) at' o1 o2 ks n).2) at' o (n+ks.length) vo' (out++us) H'→Q (.exit 3) ⟨lk [(7,.pob [1] 1 0),(10,.pob [4] 1 0),(11,.pob [5] 1 0),(15,.pob [6] u6 0),(29,YY l),(30,iv l.length),(31,iv k),(47,iv m),(48,iv m),(49,bv false)],H'⟩) →
   LoopC (HS Tryz.prog w0 I0 M0 n0 m0) CJ Q ⟨lk [(7,.pob [1] 1 0),(10,.pob [4] 1 0),(11,.pob [5] 1 0),(15,.pob [6] u6 0),(29,YY l),(30,iv l.length),(31,iv k),(47,iv m),(48,iv i)],H⟩:=by
 intro ks;induction ks with
 |nil=>
  intro i n hi _ _ _;have:i=m:=by simpa using hi
  subst this;refine⟨[],(fun t ht=>by simp at ht),by simp,rfl,fun {n0 w0 I0 M0 m0 Q} v w C vo u6 out H hC ho hH h6 hq=>?_⟩;refine Ab Aj CJ.eq_1 ?_;simp;exact hq H vo (by simpa[Jr] using hH)
 |cons t ks ih=>
  intro i n hi hks hn hU;rw[List.length_cons] at hi hks hn;have hlt:i<m:=by omega
  have hnl:n<o.kids.length:=by omega
  have hd:o.kids.drop n=o.kids[n]::o.kids.drop (n+1):=(List.getElem_cons_drop hnl).symm;rw[hd,List.take_succ_cons] at hks;obtain⟨e1,e2⟩:=List.cons.inj hks;obtain⟨d1,d2,u,hu⟩:=hU n hnl (by rw[← e1];simp);obtain⟨us1,a1,a2,a3,a4⟩:=XB hat wo hnl (by omega) d1 d2 hu;obtain⟨us2,b1,b2,b3,b4⟩:=ih (i+1) (n+1) (by omega) e2 (by omega) fun j hj hm=>hU j hj (List.mem_cons_of_mem _ hm);have ew:=AI i;have er:Jr (mg f) at' o1 o2 (t::ks) n=((Bx (mg f) (at'++[(0,(n:Int))]) o.kids[n] (IM o1) (IM o2)).1++(Jr (mg f) at' o1 o2 ks (n+1)).1,(Bx (mg f) (at'++[(0,(n:Int))]) o.kids[n] (IM o1) (IM o2)).2++(Jr (mg f) at' o1 o2 ks (n+1)).2):=by
   rw[Jr,e1]
  rw[er];refine⟨us1++us2,fun t ht=>?_,by simp;omega,by rw[List.map_append,a3,b3],fun {n0 w0 I0 M0 m0 Q} v w C vo u6 out H hC ho hH h6 hq=>?_⟩
  ·rcases List.mem_append.1 ht with ht | ht
   ·exact a1 t ht
   ·exact b1 t ht
  rw[List.length_append] at hC;rw[List.length_cons] at ho;have S:=a4 v w C vo out 1 (by omega) (by omega);have next:=b4 (n0:=n0) (w0:=w0) (I0:=I0) (M0:=M0) (m0:=m0) (Q:=Q) v w (C++(Bx (mg f) (at'++[(0,(n:Int))]) o.kids[n] (IM o1) (IM o2)).2) (vo+us1.length) u6 (out++us1)
  generalize (Bx (mg f) (at'++[(0,(n:Int))]) o.kids[n] (IM o1) (IM o2)).2=c at *;refine Ab Aj CJ.eq_1 ?_;simp[hlt,h6];refine PX 0 5 (by decide) S hH.f hH.s (by simp) (by simp) ?_;simp;rw[ew];refine next _ (by rw[List.length_append];omega) (by rw[List.length_append];omega) ⟨fun p=>by simp,fun p=>by simp,by simp[hH.o],by simp[hH.z]⟩ (by simp[h6]) fun H' vo' hH'=>?_
  refine hq H' vo' ?_;rw[List.length_cons];have e5:n+1+ks.length=n+(ks.length+1):=by omega
  rw[e5,List.append_assoc,List.append_assoc] at hH';exact hH'
structure vN (v w:Nat) (C:List Cf) (at':Cy) (o:T) (n vo:Nat) (out:List T) (vm vh:Nat) (mine hers:List T) (H:Hp):Prop where
 f:∀ p,H (0::p)=(LK v w C).F 0 p
 s:H [5]=⟨1,.cells [.pob [0] v 0,A7 at',iv o.kind,CR o.words,Bz o.kids,iv n,.osl [5,0] vo 3 0 out.length,.osl [7] vm 3 0 mine.length,.osl [8] vh 3 0 hers.length]⟩
 so:H [5,0]=⟨vo,.arr 3 (out.map tA)⟩
 s0:∀ p,p ≠ []→p ≠ [0]→H (5::p)=⟨0,.none⟩
 m:H [7]=⟨vm,.arr 3 (mine.map tA)⟩
 h:H [8]=⟨vh,.arr 3 (hers.map tA)⟩
 o:H [1]=⟨1,.cells (Uk o)⟩
 z:H [4]=⟨1,.cells [iv 0,.sl true [],.sl true []]⟩
theorem UN {c:Cx} {s:Nat→A} {v w:Nat} {C:List Cf} {at':Cy} {o:T} {n vo:Nat} {out:List T} {H:Hp} (hH:x8 v w C at' o n vo out H):∃ (H2:Hp) (vm vh:Nat),Le c ⟨s,H⟩ ⟨s,H2⟩∧vN v w C at' o n vo out vm vh [] [] H2:=by
 have h5:H [5]=⟨1,.cells [.pob [0] v 0,A7 at',iv o.kind,CR o.words,Bz o.kids,iv n,.osl [5,0] vo 3 0 out.length,aU (true,[]),aU (true,[])]⟩:=by rw[hH.s];simp
 have l1:=Bc (c:=c) (s:=s) (H:=H) (d:=[5]) 7 [7] 3 h5 rfl (by simp);have l2:=Bc (c:=c) (s:=s) (H:=Ay (Ay H [7] ⟨(H [7]).u+1,.arr 3 []⟩) [5] ⟨1,.cells [.pob [0] v 0,A7 at',iv o.kind,CR o.words,Bz o.kids,iv n,.osl [5,0] vo 3 0 out.length,.osl [7] ((H [7]).u+1) 3 0 0,aU (true,[])]⟩) (d:=[5]) (u:=1) (cs:=[.pob [0] v 0,A7 at',iv o.kind,CR o.words,Bz o.kids,iv n,.osl [5,0] vo 3 0 out.length,.osl [7] ((H [7]).u+1) 3 0 0,aU (true,[])]) 8 [8] 3 (by simp[Aa]) rfl (by simp);refine⟨_,(H [7]).u+1,(H [8]).u+1,l1.trans l2,⟨fun p=>?_,?_,?_,fun p p1 p2=>?_,?_,?_,?_,?_⟩⟩
 ·have:=hH.f p;simp[Aa] at this ⊢;exact this
 ·simp[Aa]
 ·have:=hH.s [0];simp[Aa] at this ⊢;exact this
 ·have:=hH.s p;simp[Aa,p1,p2] at this ⊢;exact this
 ·simp[Aa]
 ·simp[Aa]
 ·simp[Aa,hH.o]
 ·simp[Aa,hH.z]
theorem Si {c:Cx} {s:Nat→A} {v w:Nat} {C:List Cf} {at':Cy} {o:T} {n vo:Nat} {out mine hers:List T} {vm vh:Nat} {H:Hp} (hM:∀ r p b,1≤r→¬ c.M0 (r::p) b) (hH:vN v w C at' o n vo out vm vh mine hers H):∃ H2:Hp,Le c ⟨s,H⟩ ⟨s,H2⟩∧(∀ p,H2 (0::p)=(N0 v w C at' o n vo out (false,mine) (false,hers) 1).B 0 5 p)∧(∀ p,H2 (5::p)=(N0 v w C at' o n vo out (false,mine) (false,hers) 1).C 0 5 p)∧H2 [1]=H [1]∧H2 [4]=H [4]∧H2 [6]=H [6]:=by
 obtain⟨H2,g1,g2⟩:=Xf (c:=c) (s:=s) (H:=H) (fun r=>r=7∨r=8) (fun r p b h=>hM r p b (by omega)) (r0:=5) (p0:=[]) (by omega) hH.s (cs':=[.pob [0] v 0,A7 at',iv o.kind,CR o.words,Bz o.kids,iv n,.osl [5,0] vo 3 0 out.length,aU (false,mine),aU (false,hers)]) (by simp[A.ones]) (fun H1 h1=>by
  have f7:Gu H1 (.osl [7] vm 3 0 mine.length) (aU (false,mine)):=AY (f:=tA) (by rw[h1 7 [] (.inl rfl),hH.m];simp) rfl (fun x=>by simp);have f8:Gu H1 (.osl [8] vh 3 0 hers.length) (aU (false,hers)):=AY (f:=tA) (by rw[h1 8 [] (.inr rfl),hH.h];simp) rfl (fun x=>by simp);refine⟨rfl,fun k x y hx hy=>?_⟩
  match k with
  |0=>simp at hx hy;exact .inl (by rw[← hx,← hy])
  |1=>simp at hx hy;exact .inl (by rw[← hx,← hy])
  |2=>simp at hx hy;exact .inl (by rw[← hx,← hy])
  |3=>simp at hx hy;exact .inl (by rw[← hx,← hy])
  |4=>simp at hx hy;exact .inl (by rw[← hx,← hy])
  |5=>simp at hx hy;exact .inl (by rw[← hx,← hy])
  |6=>simp at hx hy;exact .inl (by rw[← hx,← hy])
  |7=>simp at hx hy;exact .inr (by rw[← hx,← hy];exact f7)
  |8=>simp at hx hy;exact .inr (by rw[← hx,← hy];exact f8)
  |k+9=>simp at hx)
 refine⟨_,g1,fun p=>?_,fun p=>?_,?_,?_,?_⟩
 ·have:=g2 0 p (by omega);simp[Aa] at this ⊢;rw[this,hH.f];simp
 ·by_cases p1:p=[]
  ·subst p1;simp[Aa]
  ·have:=g2 5 p (by omega);simp only[Aa];rw[if_neg (by simp[p1]),this];by_cases p2:p=[0]
   ·subst p2;simp[hH.so]
   ·simp[hH.s0 p p1 p2,p1,p2]
 ·have:=g2 1 [] (by omega);simpa[Aa] using this
 ·have:=g2 4 [] (by omega);simpa[Aa] using this
 ·have:=g2 6 [] (by omega);simpa[Aa] using this
end Go.Proofs.YtndnlknocdangaaGreat
