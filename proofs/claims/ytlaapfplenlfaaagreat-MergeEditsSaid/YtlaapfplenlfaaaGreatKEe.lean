/-
 Texts,merged,without what is not reached.
-/
import Derived.Test.YtlaapfplenlfaaaGreatKEd
set_option linter.unusedSimpArgs false
set_option linter.unusedVariables false
open Go.IntKind (i64 u64)
namespace Go.Proofs.YtlaapfplenlfaaaGreat
open Go Go.G Go.Proofs Go.PL
def D5 (X:List Int) (i:Nat):List Int:=X++List.replicate (i+1-X.length) 0
theorem EF (X:List Int) (i:Nat):(D5 X i).length=max X.length (i+1):=by simp[D5];omega
theorem Qu {α:Type} (X:List α) (n:Nat) (z:α) (j:Nat):(X++List.replicate n z).getD j z=X.getD j z:=by
 rw[List.getD_eq_getElem?_getD,List.getD_eq_getElem?_getD];by_cases h:j<X.length
 ·rw[List.getElem?_append_left h]
 ·rw[List.getElem?_append_right (by omega),List.getElem?_eq_none (l:=X) (by omega)];by_cases h2:j-X.length<n
  ·rw[List.getElem?_replicate,if_pos h2];rfl
  ·rw[List.getElem?_replicate,if_neg h2]
theorem Rl {α:Type} (X:List α) (i:Nat) (u z:α) (hi:i<X.length) (j:Nat):(X.set i u).getD j z=if j=i then u else X.getD j z:=by
 rw[List.getD_eq_getElem?_getD,List.getD_eq_getElem?_getD,List.getElem?_set];by_cases h:i=j
 ·subst h;rw[if_pos rfl,if_pos hi,if_pos rfl];rfl
 ·rw[if_neg h,if_neg (Ne.symm h)]
def Kc (a:List Int):List WE→List Int→List Int
 |[],X=>X
 |w::ws,X=>Kc a ws ((D5 X w.at_.toNat).set w.at_.toNat (AM (a.getD w.at_.toNat 0) w.new w.mask))
theorem ln {a b:List Int} {p:Nat} {ws:List WE} (h:Kb a b p ws):∀ X:List Int,(∀ j,j<p→X.getD j 0=b.getD j 0)→(∀ j,p≤j→X.getD j 0=a.getD j 0)→(∀ j,(Kc a ws X).getD j 0=b.getD j 0)∧(Kc a ws X).length≤max X.length (max a.length b.length):=by
 induction h with
 |nil p h=>
  intro X h1 h2;refine⟨fun j=>?_,by show X.length≤_;omega⟩;by_cases hj:j<p
  ·exact h1 j hj
  ·rw[show(Kc a [] X)=X from rfl,h2 j (by omega),h j (by omega)]
 |cons p i m o n ws hp h hi hm ho hn g1 g2 _ ih=>
  intro X h1 h2;have hl:i<(D5 X i).length:=by rw[EF];omega
  have e:Kc a (⟨i,m,o,n⟩::ws) X=Kc a ws ((D5 X i).set i (b.getD i 0)):=by
   show Kc a ws ((D5 X ((i:Int)).toNat).set ((i:Int)).toNat (AM (a.getD ((i:Int)).toNat 0) n m))=_;rw[Int.toNat_natCast,g1]
  have gs:∀ j,((D5 X i).set i (b.getD i 0)).getD j 0=if j=i then b.getD i 0 else X.getD j 0:=fun j=>by
   rw[Rl _ _ _ _ hl];unfold D5;rw[Qu]
  obtain⟨k1,k2⟩:=ih ((D5 X i).set i (b.getD i 0)) (fun j hj=>by
   rw[gs];by_cases e:j=i
   ·rw[if_pos e,e]
   ·rw[if_neg e];by_cases hjp:j<p
    ·exact h1 j hjp
    ·rw[h2 j (by omega),h j (by omega) (by omega)]) (fun j hj=>by
   rw[gs,if_neg (by omega)];exact h2 j (by omega))
  rw[e];refine⟨k1,Nat.le_trans k2 ?_⟩;rw[List.length_set,EF];omega
theorem Ua {a:List Int}:∀ (ws:List WE) (X:List Int),(∀ x,x ∈ X→AA x)→∀ x,x ∈ Kc a ws X→AA x
 |[],X,h=>h
 |w::ws,X,h=>by
  refine Ua ws _ fun x hx=>?_;rcases List.mem_or_eq_of_mem_set hx with hx | rfl
  ·unfold D5 at hx;rcases List.mem_append.1 hx with hx | hx
   ·exact h x hx
   ·rw[List.eq_of_mem_replicate hx];exact⟨by omega,by omega⟩
  ·exact BX _ _ _
abbrev KI:=Bool × T
def P0 (x:KI):T:=if x.1=true then T0 else x.2
def lj (x:KI):List A:=if x.1=true then [iv 0,.sl true [],.sl true []] else [iv x.2.kind,CQ x.2.words,Bx x.2.kids]
def Wk (x:KI):A:=.agg (lj x)
@[simp] theorem qf {x:KI}:(Wk x).cells=lj x:=rfl
@[simp] theorem yD {x:KI}:(lj x).length=3:=by unfold lj;split<;>rfl
def HP (Z:List KI) (i:Nat):List KI:=Z++List.replicate (i+1-Z.length) (true,T0)
theorem HJ (Z:List KI) (i:Nat):(HP Z i).length=max Z.length (i+1):=by simp[HP];omega
def Lm:List KE→List T→List KI→List KI
 |x::ks,u::us,Z=>Lm ks us ((HP Z x.at_.toNat).set x.at_.toNat (false,u))
 |_,_,Z=>Z
inductive lJ (P:E→T→T→Prop) (a:List T):List KE→List T→Prop
 |nil:lJ P a [] []
 |cons (i:Nat) (e:E) (u:T) (ks:List KE) (us:List T) (h:P e (a.getD i T0) u) (g:lJ P a ks us):lJ P a (.mk i e::ks) (u::us)
theorem nj {R P:E→T→T→Prop} {a b:List T} {p:Nat} {ks:List KE} (h:U7 R a b p ks):(∀ x,x ∈ ks→∀ i,R x.e (a.getD i T0) (b.getD i T0)→∃ u,P x.e (a.getD i T0) u∧Af u=Af (b.getD i T0))→∃ us,lJ P a ks us∧∀ Z:List KI,(∀ j,j<p→Af ((Z.map P0).getD j T0)=Af (b.getD j T0))→(∀ j,p≤j→Af ((Z.map P0).getD j T0)=Af (a.getD j T0))→(∀ j,Af (((Lm ks us Z).map P0).getD j T0)=Af (b.getD j T0))∧(Lm ks us Z).length≤max Z.length (max a.length b.length):=by
 induction h with
 |nil p h=>
  intro _;refine⟨[],.nil,fun Z h1 h2=>⟨fun j=>?_,by show Z.length≤_;omega⟩⟩;by_cases hj:j<p
  ·exact h1 j hj
  ·rw[show Lm [] [] Z=Z from rfl,h2 j (by omega),h j (by omega)]
 |cons p i e ks hp h hi he hr _ ih=>
  intro hP;obtain⟨u,k1,k2⟩:=hP (.mk i e) (by simp) i hr;obtain⟨us,k3,k4⟩:=ih fun x hx=>hP x (List.mem_cons_of_mem _ hx);refine⟨u::us,.cons i e u ks us k1 k3,fun Z h1 h2=>?_⟩;have hl:i<(HP Z i).length:=by rw[HJ];omega
  have ee:Lm (.mk i e::ks) (u::us) Z=Lm ks us ((HP Z i).set i (false,u)):=by
   show Lm ks us ((HP Z ((i:Int)).toNat).set ((i:Int)).toNat (false,u))=_;rw[Int.toNat_natCast]
  have gs:∀ j,(((HP Z i).set i (false,u)).map P0).getD j T0=if j=i then u else (Z.map P0).getD j T0:=fun j=>by
   rw[List.map_set,Rl _ _ _ _ (by rw[List.length_map];exact hl)];have e1:(HP Z i).map P0=Z.map P0++List.replicate (i+1-Z.length) T0:=by
    unfold HP;rw[List.map_append,List.map_replicate];rfl
   rw[e1,Qu];rfl
  obtain⟨g1,g2⟩:=k4 ((HP Z i).set i (false,u)) (fun j hj=>by
   rw[gs];by_cases ej:j=i
   ·rw[if_pos ej,ej,k2]
   ·rw[if_neg ej];by_cases hjp:j<p
    ·exact h1 j hjp
    ·rw[h2 j (by omega),h j (by omega) (by omega)]) (fun j hj=>by
   rw[gs,if_neg (by omega)];exact h2 j (by omega))
  rw[ee];refine⟨g1,Nat.le_trans g2 ?_⟩;rw[List.length_set,HJ];omega
theorem TA {Q:T→Prop} (h0:Q T0):∀ (ks:List KE) (us:List T) (Z:List KI),(∀ u,u ∈ us→Q u)→(∀ z,z ∈ Z→Q (P0 z))→∀ z,z ∈ Lm ks us Z→Q (P0 z)
 |[],_,Z,_,h=>by
  intro z hz;exact h z (by simpa[Lm] using hz)
 |x::ks,[],Z,_,h=>by
  intro z hz;exact h z (by simpa[Lm] using hz)
 |x::ks,u::us,Z,hu,h=>by
  refine TA h0 ks us _ (fun v hv=>hu v (List.mem_cons_of_mem _ hv)) fun z hz=>?_;rcases List.mem_or_eq_of_mem_set hz with hz | rfl
  ·unfold HP at hz;rcases List.mem_append.1 hz with hz | hz
   ·exact h z hz
   ·rw[List.eq_of_mem_replicate hz];exact h0
  ·exact hu u (by simp)
variable {n0:Nat} {w0:World} {I0:Nat→Prop} {Q:Exit→Sta→Prop}
theorem j2 {X0:List Int} {i w:Nat} {c0 c1 c2:A} {K B L:A} {N k:Nat} (hX:X0.length≤1000000) (hi:i≤1000000) {H0:Hp} (h4:H0 [4]=⟨w,.cells [iv i,c0,c1,c2]⟩)
  (hq:∀ (H':Hp) (v:Nat),H' [3]=⟨1,.cells [iv 1,.osl [15] v 1 0 (D5 X0 i).length,K]⟩→H' [15]=⟨v,.arr 1 ((D5 X0 i).map uv)⟩→(∀ o,o ≠ [3]→o ≠ [15]→H' o=H0 o)→Q (.exit 2) ⟨lk [(2,.pob [0] 1 0),(3,.pob [1] 1 0),(4,.pob [2] 1 0),(6,.pob [3] 1 0),(8,.pob [4] w 0),(9,B),(26,L),(27,iv N),(28,iv k),(49,bv false)],H'⟩) :
  ∀ (j n v:Nat) (H:Hp),n+j=i+1-X0.length→H [3]=⟨1,.cells [iv 1,.osl [15] v 1 0 (X0.length+n),K]⟩→H [15]=⟨v,.arr 1 ((X0++List.replicate n 0).map uv)⟩→(∀ o,o ≠ [3]→o ≠ [15]→H o=H0 o) →
  LoopC (cx Tryz.prog w0 I0 n0) DT Q ⟨lk [(2,.pob [0] 1 0),(3,.pob [1] 1 0),(4,.pob [2] 1 0),(6,.pob [3] 1 0),(8,.pob [4] w 0),(9,B),(26,L),(27,iv N),(28,iv k)],H⟩:=by
 intro j;induction j with
 |zero=>
  intro n v H hm h3 h15 hH;have g4:=hH [4] (by simp) (by simp);rw[h4] at g4;have hp:D5 X0 i=X0++List.replicate n 0:=by unfold D5;rw[← hm];rfl
  have hc:¬ ((X0.length:Int)+n≤i):=by omega
  refine Ab Aj DT.eq_1 ?_;simp[h3,g4,hc];refine hq H v (by rw[hp];simpa using h3) (by rw[hp];exact h15) hH
 |succ j ih=>
  intro n v H hm h3 h15 hH;have g4:=hH [4] (by simp) (by simp);rw[h4] at g4;have hc:(X0.length:Int)+n≤i:=by omega
  refine Ab Aj DT.eq_1 ?_;simp[h3,g4,hc,h15,Aa];refine⟨by omega,?_⟩;refine ih (n+1) (v+1) _ (by omega) (by simp[Aa];omega) ?_ (fun o h1 h2=>by simp[Aa,h1,h2,hH]);simp[Aa,List.replicate_succ'];rw[AN (by simp)];simp
theorem uj {t:T} (ht:AD t) {ws:List WE} (hwl:ws.length≤10000000000000) {b R:List Int} {K:A} {v0 v2 v16:VOb} (hb:max t.words.length b.length≤900000) (hws:∀ x,x ∈ ws→AA x.old∧AA x.new)
  (hq:∀ (H':Hp) (v:Nat) (st:List (Nat × A)),H' [0]=v0→H' [1]=⟨1,.cells (tL t)⟩→H' [2]=v2→H' [3]=⟨1,.cells [iv 1,.osl [15] v 1 0 R.length,K]⟩→H' [15]=⟨v,.arr 1 (R.map uv)⟩→H' [16]=v16→Q (.exit 0) ⟨lk ([(2,.pob [0] 1 0),(3,.pob [1] 1 0),(4,.pob [2] 1 0),(6,.pob [3] 1 0)]++st),H'⟩) :
  ∀ (m k p v:Nat) (X:List Int) (H:Hp),k+m=ws.length→Kb t.words b p (ws.drop k)→R=Kc t.words (ws.drop k) X→X.length≤900000→H [0]=v0→H [1]=⟨1,.cells (tL t)⟩→H [2]=v2→H [3]=⟨1,.cells [iv 1,.osl [15] v 1 0 X.length,K]⟩→H [15]=⟨v,.arr 1 (X.map uv)⟩→H [16]=v16 →
  LoopC (cx Tryz.prog w0 I0 n0) BA Q ⟨lk [(2,.pob [0] 1 0),(3,.pob [1] 1 0),(4,.pob [2] 1 0),(6,.pob [3] 1 0),(26,JJ ws),(27,iv ws.length),(28,iv k)],H⟩:=by
 have z0:AA 0:=⟨by decide,by decide⟩;intro m;induction m with
 |zero=>
  intro k p v X H hm hL hR hX h0 h1 h2 h3 h15 h16;have:k=ws.length:=by omega
  subst this;rw[List.drop_length] at hR;have hR:R=X:=hR;subst hR;refine Ab Aj BA.eq_1 ?_;simp;have:=hq H v [(26,JJ ws),(27,iv ws.length),(28,iv ws.length),(29,bv false)] h0 h1 h2 h3 h15 h16;simpa using this
 |succ m ih=>
  intro k p v X H hm hL hR hX h0 h1 h2 h3 h15 h16;have hlt:k<ws.length:=by omega
  have ew:=AI k;have hd:ws.drop k=ws[k]::ws.drop (k+1):=(List.getElem_cons_drop hlt).symm;rw[hd] at hL hR;have hwo:=hws _ (BD hlt);have next:=ih (k+1)
  generalize hx:ws[k]=x at *;cases hL with
  |cons _ i mk o n _ hp hh hi hmk ho hn g1 g2 g=>
   have hwa:=Fa (wfT_iff.1 ht).w i;have M1:=Dp (mask:=mk) z0 hwa (by omega) (by omega);have M2:=Dp (mask:=mk) hwa hwo.2 (by omega) (by omega);have W1:=C6 t i;simp only at M2;rw[ho] at M1;rw[g1] at M2;have hl:i<(D5 X i).length:=by rw[EF];omega
   have hR':R=Kc t.words (ws.drop (k+1)) ((D5 X i).set i (b.getD i 0)):=by
    rw[hR];show Kc t.words _ ((D5 X ((i:Int)).toNat).set ((i:Int)).toNat (AM (t.words.getD ((i:Int)).toNat 0) n mk))=_;rw[Int.toNat_natCast,g1]
   refine Ab Aj BA.eq_1 ?_;simp[hlt,hx,Aa,h1];refine Ae W1 (by simp) ?_;simp[Aa];refine Ae M1 (by simp) ?_;simp[Aa];refine j2 (X0:=X) (i:=i) (w:=(H [4]).u+1) (c0:=u8 mk) (c1:=uv o) (c2:=uv n) (K:=K) (by omega) (by omega) (H0:=Az H [4] ⟨(H [4]).u+1,.cells [iv i,u8 mk,uv o,uv n]⟩) (by simp[Aa]) (fun H' v' k3 k15 kH=>?_) (i+1-X.length) 0 v _ (by omega) (by simp[Aa,h3]) (by simp[Aa,h15]) (fun o _ _=>rfl);have k4:=kH [4] (by simp) (by simp);have k0:=kH [0] (by simp) (by simp);have k1:=kH [1] (by simp) (by simp);have k2:=kH [2] (by simp) (by simp);have k16:=kH [16] (by simp) (by simp);simp[Aa] at k4 k0 k1 k2 k16;simp[k3,k4];refine Ae M2 (by simp) ?_;simp[k3,k15,k4,hl,ew];refine next (i+1) v' ((D5 X i).set i (b.getD i 0)) _ (by omega) g hR' (by rw[List.length_set,EF];omega) (by simp[Aa,k0,h0]) (by simp[Aa,k1,h1]) (by simp[Aa,k2,h2]) (by simp[Aa,k3]) (by simp[Aa,List.map_set]) (by simp[Aa,k16,h16])
theorem ke {Z0:List KI} {i w w7:Nat} {c4:List A} {K:A} {L:A} {N k:Nat} (hZ:Z0.length≤1000000) (hi:i≤1000000) {H0:Hp} (h6:H0 [6]=⟨w,.cells (iv i::c4)⟩)
  (hq:∀ (H':Hp) (v:Nat),H' [3]=⟨1,.cells [iv 1,K,.osl [16] v 3 0 (HP Z0 i).length]⟩→H' [16]=⟨v,.arr 3 ((HP Z0 i).map Wk)⟩→(∀ o,o ≠ [3]→o ≠ [16]→H' o=H0 o)→Q (.exit 6) ⟨lk [(3,.pob [1] 1 0),(4,.pob [2] 1 0),(6,.pob [3] 1 0),(11,.pob [6] w 0),(12,.pob [7] w7 0),(68,L),(69,iv N),(70,iv k),(92,bv false)],H'⟩) :
  ∀ (j n v:Nat) (H:Hp),n+j=i+1-Z0.length→H [3]=⟨1,.cells [iv 1,K,.osl [16] v 3 0 (Z0.length+n)]⟩→H [16]=⟨v,.arr 3 ((Z0++List.replicate n (true,T0)).map Wk)⟩→(∀ o,o ≠ [3]→o ≠ [16]→H o=H0 o) →
  LoopC (cx Tryz.prog w0 I0 n0) DS Q ⟨lk [(3,.pob [1] 1 0),(4,.pob [2] 1 0),(6,.pob [3] 1 0),(11,.pob [6] w 0),(12,.pob [7] w7 0),(68,L),(69,iv N),(70,iv k)],H⟩:=by
 intro j;induction j with
 |zero=>
  intro n v H hm h3 h16 hH;have g6:=hH [6] (by simp) (by simp);rw[h6] at g6;have hp:HP Z0 i=Z0++List.replicate n (true,T0):=by unfold HP;rw[← hm];rfl
  have hc:¬ ((Z0.length:Int)+n≤i):=by omega
  refine Ab Aj DS.eq_1 ?_;simp[h3,g6,hc];refine hq H v (by rw[hp];simpa using h3) (by rw[hp];exact h16) hH
 |succ j ih=>
  intro n v H hm h3 h16 hH;have g6:=hH [6] (by simp) (by simp);rw[h6] at g6;have hc:(Z0.length:Int)+n≤i:=by omega
  refine Ab Aj DS.eq_1 ?_;simp[h3,g6,hc,h16,Aa];refine⟨by omega,?_⟩;refine ih (n+1) (v+1) _ (by omega) (by simp[Aa];omega) ?_ (fun o h1 h2=>by simp[Aa,h1,h2,hH]);simp[Aa,List.replicate_succ'];rw[AN (by simp)];simp[Wk,lj]
theorem vk {t:T} {ks:List KE} (hkl:ks.length≤10000000000000) {Z1:List KI} {K:A} {v2 v15:VOb} (hat:∀ x,x ∈ ks→0≤x.at_∧x.at_≤900000)
  (hq:∀ (H':Hp) (v:Nat) (st:List (Nat × A)),H' [2]=v2→H' [3]=⟨1,.cells [iv 1,K,.osl [16] v 3 0 Z1.length]⟩→H' [16]=⟨v,.arr 3 (Z1.map Wk)⟩→H' [15]=v15→Q (.exit 4) ⟨lk ([(3,.pob [1] 1 0),(4,.pob [2] 1 0),(6,.pob [3] 1 0)]++st),H'⟩) :
  ∀ (m k v:Nat) (us:List T) (Z:List KI) (H:Hp),k+m=ks.length→lJ Rh t.kids (ks.drop k) us→Z1=Lm (ks.drop k) us Z→Z.length≤900001→H [1]=⟨1,.cells (tL t)⟩→H [2]=v2→H [3]=⟨1,.cells [iv 1,K,.osl [16] v 3 0 Z.length]⟩→H [16]=⟨v,.arr 3 (Z.map Wk)⟩→H [15]=v15 →
  LoopC (cx Tryz.prog w0 I0 n0) BB Q ⟨lk [(3,.pob [1] 1 0),(4,.pob [2] 1 0),(6,.pob [3] 1 0),(68,Ka ks),(69,iv ks.length),(70,iv k)],H⟩:=by
 intro m;induction m with
 |zero=>
  intro k v us Z H hm hA hR hZ h1 h2 h3 h16 h15;have:k=ks.length:=by omega
  subst this;rw[List.drop_length] at hR hA;cases hA;have hR:Z1=Z:=hR;subst hR;refine Ab Aj BB.eq_1 ?_;simp;have:=hq H v [(68,Ka ks),(69,iv ks.length),(70,iv ks.length),(71,bv false)] h2 h3 h16 h15;simpa using this
 |succ m ih=>
  intro k v us Z H hm hA hR hZ h1 h2 h3 h16 h15;have hlt:k<ks.length:=by omega
  have ew:=AI k;have hd:ks.drop k=ks[k]::ks.drop (k+1):=(List.getElem_cons_drop hlt).symm;rw[hd] at hA hR;have ha:=hat _ (BD hlt);have next:=ih (k+1)
  generalize hx:ks[k]=x at *;cases hA with
  |cons i e u _ us h g=>
   have ha:(0:Int)≤(i:Nat)∧((i:Nat):Int)≤900000:=ha;have K1:=DC t i;have hl:i<(HP Z i).length:=by rw[HJ];omega
   have hR':Z1=Lm (ks.drop (k+1)) us ((HP Z i).set i (false,u)):=by
    rw[hR];show Lm _ us ((HP Z ((i:Int)).toNat).set ((i:Int)).toNat (false,u))=_;rw[Int.toNat_natCast]
   refine Ab Aj BB.eq_1 ?_;simp[hlt,hx,Aa,h1];refine Ae K1 (by simp) ?_;simp[Aa];refine Ae h.2 (by simp) ?_;simp[Aa];refine ke (Z0:=Z) (i:=i) (w:=(H [6]).u+1) (w7:=(H [7]).u+1) (c4:=eL e) (K:=K) (by omega) (by omega) (H0:=Az (Az H [6] ⟨(H [6]).u+1,.cells (iv i::eL e)⟩) [7] ⟨(H [7]).u+1,.cells (tL u)⟩) (by simp[Aa]) (fun H' v' k3 k16 kH=>?_) (i+1-Z.length) 0 v _ (by omega) (by simp[Aa,h3]) (by simp[Aa,h16]) (fun o _ _=>by rfl);have k6:=kH [6] (by simp) (by simp);have k7:=kH [7] (by simp) (by simp);have k1:=kH [1] (by simp) (by simp);have k2:=kH [2] (by simp) (by simp);have k15:=kH [15] (by simp) (by simp);simp[Aa] at k6 k7 k1 k2 k15;simp[k3,k6,k7,k16,hl,ew];refine next v' us ((HP Z i).set i (false,u)) _ (by omega) g hR' (by rw[List.length_set,HJ];omega) (by simp[Aa,k1,h1]) (by simp[Aa,k2,h2]) (by simp[Aa,k3]) (by simp[Aa,List.map_set];rfl) (by simp[Aa,k15,h15])
theorem fL (l:List T):(l.map fun k=>((false,k):KI)).map Wk=l.map tA:=by
 rw[List.map_map];exact List.map_congr_left fun k _=>by simp[Wk,lj]
theorem XW (l:List T):(l.map fun k=>((false,k):KI)).map P0=l:=by
 rw[List.map_map];exact List.map_id'' (fun k=>by simp[P0]) l
theorem XE {ws:List WE} {ks:List KE} {t:T} {b:List Int} {us:List T} (ht:AD t) (hk:t.kind=1) (hwl:ws.length≤10000000000000) (hkl:ks.length≤10000000000000) (hl:t.kids.length≤900000) (hb:max t.words.length b.length≤900000) (hws:∀ x,x ∈ ws→AA x.old∧AA x.new) (hat:∀ x,x ∈ ks→0≤x.at_∧x.at_≤900000) (hW:Kb t.words b 0 ws) (hK:lJ Rh t.kids ks us) :
  G.Spec Tryz.prog 76 [eX (.mk 2 T0 T0 ws ks 0 []),tX t] (.tup [tX (.mk 1 (Kc t.words ws t.words) ((Lm ks us (t.kids.map fun k=>(false,k))).map P0)),bv true]):=by
 have C1:=Ks t.words (by omega);have C2:=O5 t.kids (by omega);have hkr:=fL t.kids;generalize hZ:(t.kids.map fun k=>((false,k):KI))=Z at *;have hZl:Z.length=t.kids.length:=by rw[← hZ];simp
 refine Ag CY (by simp) fun w0 I0=>?_;unfold Ci;simp[hk];refine Bp 15 C1 (fun p=>by simp) (by simp) (by simp) ?_;simp;refine⟨by decide,?_⟩;refine Bp 16 C2 (fun p=>by simp) (by simp) (by simp) ?_;simp;refine⟨⟨by decide,by decide⟩,?_⟩;refine LoopC.le (Ay [(2,.pob [0] 1 0),(3,.pob [1] 1 0),(4,.pob [2] 1 0),(6,.pob [3] 1 0),(26,JJ ws),(27,iv ws.length),(28,iv (0:Nat))] (by simp)) ?_;refine uj (t:=t) (b:=b) (R:=Kc t.words ws t.words) (K:=.osl [16] 1 3 0 t.kids.length) (v0:=⟨1,.cells (eL (.mk 2 T0 T0 ws ks 0 []))⟩) (v2:=⟨1,.cells [iv 0,.sl true [],.sl true []]⟩) (v16:=⟨1,.arr 3 (Z.map Wk)⟩) ht hwl hb hws (fun H' v st h0 h1 h2 h3 h15 h16=>?_) ws.length 0 0 1 t.words _ (by omega) (by simpa using hW) (by simp) (by omega) (by simp[Aa]) (by simp[Aa,hk]) (by simp[Aa]) (by simp[Aa]) (by simp[Aa]) (by simp[Aa,hkr]);simp[h0];refine LoopC.le (Ay [(3,.pob [1] 1 0),(4,.pob [2] 1 0),(6,.pob [3] 1 0),(68,Ka ks),(69,iv ks.length),(70,iv (0:Nat))] (by simp)) ?_;rw[← hZl] at h3;refine vk (t:=t) (Z1:=Lm ks us Z) (K:=.osl [15] v 1 0 (Kc t.words ws t.words).length) (v2:=⟨1,.cells [iv 0,.sl true [],.sl true []]⟩) (v15:=⟨v,.arr 1 ((Kc t.words ws t.words).map uv)⟩) hkl hat (fun H2 v2 st2 k2 k3 k16 k15=>?_) ks.length 0 1 us Z _ (by omega) (by simpa using hK) (by simp) (by omega) h1 h2 h3 h16 h15;simp[k2,k3];refine An ⟨AE ⟨Ad rfl,?_,?_,trivial⟩,Ad rfl,trivial⟩
 ·exact A3 (o:=[15]) (u:=v) (n:=(Kc t.words ws t.words).length) (sz:=1) (l:=Kc t.words ws t.words) (f:=uv) (by simp[Aa,k15]) rfl (fun x=>by simp)
 ·have:=MJ (H:=Az H2 [2] ⟨1,.cells [iv 1,.osl [15] v 1 0 (Kc t.words ws t.words).length,.osl [16] v2 3 0 (Lm ks us Z).length]⟩) (o:=[16]) (u:=v2) (n:=(Lm ks us Z).length) (sz:=3) (l:=Lm ks us Z) (f:=Wk) (g:=fun z=>tA (P0 z)) (by simp[Aa,k16]) rfl (fun x _=>by
   obtain⟨c,t⟩:=x;cases c<;>simp[lj,P0,A.soft,A.softL,FK,D3])
  show Gy _ _ (.sl false (((Lm ks us Z).map P0).map tA));rw[List.map_map];exact this
theorem QV {e:E} {a b:T} (hw:J2 e) (ha:AD a) (h:uQ e a b):∃ u,Rh e a u∧Af u=Af b:=by
 rcases h with ⟨rfl,h⟩ | ⟨o,n,rfl,h1,h2⟩
 ·refine⟨a,⟨ha,?_⟩,h⟩;refine Ag Dz (by simp) fun w0 I0=>?_;unfold CZ;simp;exact An ⟨Ad (by simp),Ad rfl,trivial⟩
 ·have W:=wfE_iff.1 hw;have E1:=I3 (t:=o) (u:=a) W.o ha;rw[show G9 o a=true from eqT_iff.2 h1] at E1;refine⟨n,⟨W.n,?_⟩,h2⟩;refine Ag Dz (by simp) fun w0 I0=>?_;unfold CZ;simp;refine Ae E1 (by simp) ?_;simp;exact An ⟨Ad (by simp),Ad rfl,trivial⟩
theorem Zf {e:E} {t u:T} (hk:e.kind=2) (h:G.Spec Tryz.prog 76 [eX e,tX t] (.tup [tX u,bv true])):G.Spec Tryz.prog 45 [eX e,tX t] (.tup [tX u,bv true]):=by
 obtain⟨k,o,n,ws,ks,l,os⟩:=e;have hk:k=2:=hk;subst hk;refine Ag Dz (by simp) fun w0 I0=>?_;unfold CZ;simp;refine Ae h (by simp) ?_;simp;exact An ⟨Ad (by simp),Ad rfl,trivial⟩
theorem XL {e:E} {t u:T} (hk:e.kind=3) (h:G.Spec Tryz.prog 77 [eX e,tX t] (.tup [tX u,bv true])):G.Spec Tryz.prog 45 [eX e,tX t] (.tup [tX u,bv true]):=by
 obtain⟨k,o,n,ws,ks,l,os⟩:=e;have hk:k=3:=hk;subst hk;refine Ag Dz (by simp) fun w0 I0=>?_;unfold CZ;simp;refine Ae h (by simp) ?_;simp;exact An ⟨Ad (by simp),Ad rfl,trivial⟩
theorem nG {R:E→T→T→Prop} {a b:List T} {p:Nat} {ks:List KE} (h:U7 R a b p ks):∀ x,x ∈ ks→0≤x.at_∧x.at_<max a.length b.length:=by
 induction h with
 |nil p h=>intro x hx;simp at hx
 |cons p i e ks hp h hi he hr _ ih=>
  intro x hx;rcases List.mem_cons.1 hx with rfl | hx
  ·show(0:Int)≤(i:Nat)∧((i:Nat):Int)<_;omega
  ·exact ih x hx
def Sz:Nat→T→Prop
 |0,_=>True
 |f+1,t=>t.words.length≤900000∧t.kids.length≤900000∧∀ k,k ∈ t.kids→Sz f k
theorem vI:∀ f,Sz f T0
 |0=>trivial
 |f+1=>⟨by simp,by simp,fun k hk=>by simp at hk⟩
theorem kc {f:Nat} {t:T} (h:Sz (f+1) t) (i:Nat):Sz f (t.kids.getD i T0):=by
 rw[List.getD_eq_getElem?_getD];cases e:t.kids[i]? with
 |none=>exact vI f
 |some z=>exact h.2.2 z (List.mem_of_getElem? e)
theorem DE {t:T} (h:AD t) (i:Nat):AD (t.kids.getD i T0):=by
 rw[List.getD_eq_getElem?_getD];cases e:t.kids[i]? with
 |none=>exact Dd
 |some z=>exact(wfT_iff.1 h).ks z (List.mem_of_getElem? e)
theorem nW {a:List T} {ks:List KE} {us:List T} (h:lJ Rh a ks us):∀ u,u ∈ us→AD u:=by
 induction h with
 |nil=>intro u hu;simp at hu
 |cons i e u ks us h _ ih=>
  intro v hv;rcases List.mem_cons.1 hv with rfl | hv
  ·exact h.1
  ·exact ih v hv
theorem YP:∀ (f:Nat) (e:E) (a b:T),J2 e→AD a→AD b→Sz f a→Sz f b→Ld f e a b→∃ u,Rh e a u∧Af u=Af b:=by
 intro f;induction f with
 |zero=>exact fun e a b hw ha hb _ _ h=>QV hw ha h
 |succ f ih=>
  intro e a b hw ha hb sa sb h;have A:=wfT_iff.1 ha;have B:=wfT_iff.1 hb;rcases h with h | ⟨ws,ks,rfl,h1,h2,h3,h4⟩ | ⟨os,rfl,h1,h2,hv,h3⟩
  ·exact QV hw ha h
  ·have W:=wfE_iff.1 hw;have hwl:ws.length*32≤140737488355328:=W.wl;have hkl:ks.length*208≤140737488355328:=W.kl;obtain⟨us,k1,k2⟩:=nj (P:=Rh) h4 fun x hx i r=>ih x.e _ _ (W.ks x hx).2 (DE ha i) (DE hb i) (kc sa i) (kc sb i) r;obtain⟨g1,g2⟩:=ln h3 a.words (fun j hj=>by omega) (fun j _=>rfl);have e0:=XW a.kids;obtain⟨g3,g4⟩:=k2 (a.kids.map fun k=>(false,k)) (fun j hj=>by omega) (fun j _=>by rw[e0]);rw[List.length_map] at g4;have l1:=sa.1;have l2:=sb.1;have l3:=sa.2.1;have l4:=sb.2.1;have hat:=nG h4;have S:=XE (ws:=ws) (ks:=ks) (us:=us) (b:=b.words) ha h1 (by omega) (by omega) l3 (by omega) (fun x hx=>⟨(W.w x hx).2.2.1,(W.w x hx).2.2.2⟩) (fun x hx=>by have:=hat x hx;omega) h3 k1;have hu:=TA (Q:=AD) Dd ks us (a.kids.map fun k=>(false,k)) (nW k1) (fun z hz=>by
    obtain⟨k,hk,rfl⟩:=List.mem_map.1 hz;exact A.ks k hk)
   generalize hZ:Lm ks us (a.kids.map fun k=>((false,k):KI))=Z at *;refine⟨.mk 1 (Kc a.words ws a.words) (Z.map P0),⟨wfT_iff.2 ⟨by simp[Db],Ua ws a.words A.w,by show(Kc a.words ws a.words).length*8≤_;omega,by show(Z.map P0).length*56≤_;rw[List.length_map];omega,fun x hx=>?_⟩,Zf rfl S⟩,?_⟩
   ·obtain⟨z,hz,rfl⟩:=List.mem_map.1 (show x ∈ Z.map P0 from hx);exact hu z hz
   ·obtain⟨kb,wb,lb⟩:=b;have h2:kb=1:=h2;subst h2;exact struct_eq.2 ⟨g1,g3⟩
  ·have W:=wfE_iff.1 hw;have hol:os.length*240≤140737488355328:=W.ol;obtain⟨U,k1,k2⟩:=lF (P:=Rh) h3 fun o ho hk x hx y hy r=>ih o.e x y (W.os o ho).e (A.ks x hx) (B.ks y hy) (sa.2.2 x hx) (sb.2.2 y hy) r;have hUl:U.length=b.kids.length:=by simpa using congrArg List.length k2
   have l3:=sa.2.1;have l4:=sb.2.1;have hUw:=o6 k1 A.ks (fun o ho=>(W.os o ho).l);have S:=VW (l:=a.kind) (os:=os) (u:=U) ha (by omega) (fun o ho=>(W.os o ho).l) (fun o ho=>by have:=(W.os o ho).ll;omega) (by omega) (by omega) rfl k1;refine⟨.mk a.kind [] U,⟨wfT_iff.2 ⟨A.k,by simp,by simp,by show U.length*56≤_;omega,hUw⟩,XL rfl S⟩,?_⟩;obtain⟨kb,wb,lb⟩:=b;have h1:kb=a.kind:=h1;have hv2:wb=[]:=hv.2;subst h1;subst hv2;exact(Jb (k:=a.kind) (by omega) (by omega)).2 ⟨rfl,k2⟩
theorem GX (a b m:Int) {i:Nat} (h:i<8):Bg (AM a b m) i=if Cq m i=true then Bg b i else Bg a i:=by
 rw[← DQ _ h,NV,QG (by simp[Ap,BH]) h,DQ _ h,DQ _ h]
theorem PU {x y:Int} (hx:AA x) (hy:AA y) (h:∀ i,i<8→Bg x i=Bg y i):x=y:=by
 rw[← Oi hx,← Oi hy];congr 1;refine List.ext_getElem (by simp[Ap,BH]) fun i h1 h2=>?_;have h8:i<8:=by simpa[Ap,BH] using h1
 have:=h i h8;rw[← DQ _ h8,← DQ _ h8] at this;rw[List.getD_eq_getElem?_getD,List.getD_eq_getElem?_getD,List.getElem?_eq_getElem h1,List.getElem?_eq_getElem h2] at this;exact this
def Fu (m k:Int):Int:=bits .and .u8 m k
theorem Y9 {m k:Int} (hm:0≤m∧m<256) (hk:0≤k∧k<256):Fu m k=((m.toNat &&& k.toNat:Nat):Int):=by
 obtain⟨a,rfl⟩:=Int.eq_ofNat_of_zero_le hm.1;obtain⟨b,rfl⟩:=Int.eq_ofNat_of_zero_le hk.1;have h1:a<256:=by omega
 have h2:b<256:=by omega
 have h3:a &&& b<256:=Nat.lt_of_le_of_lt Nat.and_le_left h1;have e8:∀ x:Nat,x<256→(BitVec.ofInt 8 (x:Int)).toNat=x:=fun x h=>by
  rw[BitVec.toNat_ofInt];omega
 show IntKind.u8.wrap ((BitVec.ofInt 8 (a:Int) &&& BitVec.ofInt 8 (b:Int)).toNat:Nat)=_;rw[BitVec.toNat_and,e8 a h1,e8 b h2];rw[IntKind.wrap_u8,Int.toNat_natCast,Int.toNat_natCast];omega
theorem VO {m k:Int} (hm:0≤m∧m<256) (hk:0≤k∧k<256):0≤Fu m k∧Fu m k<256:=by
 rw[Y9 hm hk];have h3:m.toNat &&& k.toNat≤m.toNat:=Nat.and_le_left;omega
theorem YC (x w n m:Int):AM x (AM w n m) m=AM x n m:=by
 refine PU (BX _ _ _) (BX _ _ _) fun i hi=>?_;rw[GX _ _ _ hi,GX _ _ _ hi,GX _ _ _ hi];split<;>rfl
theorem Nl {x:Int} (hx:AA x) (n:Int):AM x n 0=x:=by
 refine PU (BX _ _ _) hx fun i hi=>?_;rw[GX _ _ _ hi,if_neg (by simp[Cq])]
structure Cf where
 path:List (Int × Int)
 base:T
 ours:T
 theirs:T
abbrev Cw:=List (Int × Int)
noncomputable def Ea (e:E) (t:T):T:=(GY e t).getD T0
def B8 (ws:List WE) (i:Nat):WE:=(ws.find? fun w=>decide (w.at_=(i:Int))).getD ⟨0,0,0,0⟩
def CR (ks:List KE) (i:Nat):E:=((ks.find? fun k=>decide (k.at_=(i:Int))).map KE.e).getD E0
def Ln (a b:WE):Bool:=decide (AM 0 a.new (Fu a.mask b.mask) ≠ AM 0 b.new (Fu a.mask b.mask))
def AL (w:Int):T:=.mk 1 [w] []
def Gb (w:Int) (a b:WE):Int:=if Ln a b=true then w else AM (AM w a.new a.mask) b.new b.mask
def IX (at':Cw) (i:Nat) (w:Int) (a b:WE):List Cf:=if Ln a b=true then [⟨at'++[(1,(i:Int))],Af (AL w),Af (AL (AM w a.new a.mask)),Af (AL (AM w b.new b.mask))⟩] else []
def Bu (n:Nat) (ws:List WE):Nat:=ws.foldl (fun n w=>max n (w.at_+1).toNat) n
def Bf (n:Nat) (ks:List KE):Nat:=ks.foldl (fun n k=>max n (k.at_+1).toNat) n
inductive U where
 |keep
 |del (t:T)
 |ins (t:T)
 |desc (e:E)
def Ja (o:OP):List U:=if o.kind=0 then List.replicate o.n.toNat .keep else if o.kind=1 then o.l.map .del else if o.kind=2 then o.l.map .ins else [.desc o.e]
def En (os:List OP):List U:=os.flatMap Ja
def Ey:List U→List T
 |.ins t::us=>t::Ey us
 |_=>[]
def Dy:List U→List U
 |.ins t::us=>Dy us
 |us=>us
def eU:U→E
 |.desc e=>e
 |_=>E0
open Classical in
noncomputable def Eb (at':Cw) (kind:Int) (n:Nat) (a b:List T):List T × List Cf:=
 if a=[]∨a.map Af=b.map Af then (b.map Af,[]) else if b=[] then (a.map Af,[]) else ([],[⟨at'++[(2,(n:Int))],Af (.mk kind [] []),Af (.mk kind [] a),Af (.mk kind [] b)⟩])
noncomputable def Bz (mg:Cw→T→E→E→T × List Cf) (at':Cw) (k:T):U→U→List T × List Cf
 |.del _,.desc q=>([Af k],[⟨at',Af k,T0,Ea q k⟩])
 |.desc p,.del _=>([Af k],[⟨at',Af k,Ea p k,T0⟩])
 |.del _,_=>([],[])
 |_,.del _=>([],[])
 |u,v=>([(mg at' k (eU u) (eU v)).1],(mg at' k (eU u) (eU v)).2)
def Wm:List U→U
 |u::_=>u
 |[]=>.keep
noncomputable def Hj (mg:Cw→T→E→E→T × List Cf) (at':Cw) (kind:Int):List T→List U→List U→Nat→List T × List Cf
 |[],us,vs,n=>Eb at' kind n (Ey us) (Ey vs)
 |k::ks,us,vs,n=>
  let g:=Eb at' kind n (Ey us) (Ey vs)
  let u:=Bz mg (at'++[(0,(n:Int))]) k (Wm (Dy us)) (Wm (Dy vs))
  let r:=Hj mg at' kind ks (Dy us).tail (Dy vs).tail (n+1)
  (g.1++(u.1++r.1),g.2++(u.2++r.2))
open Classical in
noncomputable def Su (at':Cw) (o:T) (p q:E):T × List Cf:=
 if p.kind=0 then (Ea q o,[]) else if q.kind=0 then (Ea p o,[]) else if Ea p o=Ea q o then (Ea p o,[]) else (Af o,[⟨at',Af o,Ea p o,Ea q o⟩])
noncomputable def Uq (mg:Cw→T→E→E→T × List Cf) (at':Cw) (o:T) (p q:E):T × List Cf:=
 (Af (.mk 1 ((List.range (Bu (Bu o.words.length p.words) q.words)).map fun i:Nat=>Gb (o.words.getD i 0) (B8 p.words i) (B8 q.words i))
  ((List.range (Bf (Bf o.kids.length p.kids) q.kids)).map fun i:Nat=>(mg (at'++[(0,(i:Int))]) (o.kids.getD i T0) (CR p.kids i) (CR q.kids i)).1)),
  (List.range (Bu (Bu o.words.length p.words) q.words)).flatMap (fun i:Nat=>IX at' i (o.words.getD i 0) (B8 p.words i) (B8 q.words i)) ++
  (List.range (Bf (Bf o.kids.length p.kids) q.kids)).flatMap fun i:Nat=>(mg (at'++[(0,(i:Int))]) (o.kids.getD i T0) (CR p.kids i) (CR q.kids i)).2)
noncomputable def mg:Nat→Cw→T→E→E→T × List Cf
 |0,at',o,p,q=>Su at' o p q
 |f+1,at',o,p,q=>if p.kind=2∧q.kind=2 then Uq (mg f) at' o p q
  else if p.kind=3∧q.kind=3 then (Af (.mk o.kind [] (Hj (mg f) at' o.kind o.kids (En p.ops) (En q.ops) 0).1),(Hj (mg f) at' o.kind o.kids (En p.ops) (En q.ops) 0).2)
  else Su at' o p q
theorem IL {a b:List Int} {p:Nat} {ws:List WE} (h:Kb a b p ws):∀ w,w ∈ ws→∃ i:Nat,w.at_=i∧p≤i∧i<max a.length b.length∧0<w.mask∧w.mask<256:=by
 induction h with
 |nil p h=>intro w hw;simp at hw
 |cons p i m o n ws hp h hi hm ho hn h1 h2 _ ih=>
  intro w hw;rcases List.mem_cons.1 hw with rfl | hw
  ·exact⟨i,rfl,hp,hi,hm.1,hm.2⟩
  ·obtain⟨j,k1,k2,k3,k4⟩:=ih w hw;exact⟨j,k1,by omega,k3,k4⟩
theorem jJ {a b:List Int} {p:Nat} {ws:List WE} (h:Kb a b p ws):∀ i:Nat,p≤i→(∀ w,w ∈ ws→w.at_<(i:Int))→a.getD i 0=b.getD i 0:=by
 induction h with
 |nil p h=>intro i hi _;exact h i hi
 |cons p i m o n ws hp h hi hm ho hn h1 h2 _ ih=>
  intro j hj hw;have:((i:Nat):Int)<(j:Int):=hw ⟨i,m,o,n⟩ (by simp);exact ih j (by omega) fun w h=>hw w (List.mem_cons_of_mem _ h)
theorem eE {a b:List Int} {p:Nat} {ws:List WE} (h:Kb a b p ws):∀ x,ws.getLast? = some x→∀ w,w ∈ ws→w.at_≤x.at_:=by
 induction h with
 |nil p h=>intro x hx;simp at hx
 |cons p i m o n ws hp h hi hm ho hn h1 h2 g ih=>
  intro x hx w hw;cases ws with
  |nil=>
   simp at hx hw;rw[← hx,hw];exact Int.le_refl _
  |cons y ys=>
   rw[List.getLast?_cons_cons] at hx;rcases List.mem_cons.1 hw with rfl | hw
   ·have k:=ih x hx y (by simp);obtain⟨j,k1,k2,_⟩:=IL g y (by simp);have:((i:Nat):Int)≤x.at_:=by omega
    exact this
   ·exact ih x hx w hw
theorem T6 {a b:List Int}:∀ (m p:Nat) (ws:List WE),Kb a b p ws→LS a m p ws=some ((List.range' p m).map fun j=>b.getD j 0)
 |0,p,ws,h=>by rw[LS];rfl
 |m+1,p,ws,h=>by
  rw[List.range'_succ,List.map_cons];cases h with
  |nil _ h=>
   rw[KL (fun x xs e=>by cases e),T6 m (p+1) [] (.nil _ fun i hi=>h i (by omega)),h p (Ei _)];rfl
  |cons _ i mk o n ws hp h hi hm ho hn h1 h2 g=>
   by_cases e:p=i
   ·subst e;rw[PF rfl ho,T6 m (p+1) ws g];simp only[h1];rfl
   ·rw[KL (fun x xs ex=>by cases ex;show((i:Nat):Int) ≠ (p:Int);omega),T6 m (p+1) _ (.cons (p+1) i mk o n ws (by omega) (fun j h1 h2=>h j (by omega) h2) hi hm ho hn h1 h2 g),h p (Ei _) (by omega)];rfl
theorem IV {R:E→T→T→Prop} {a b:List T} {p:Nat} {ks:List KE} (h:U7 R a b p ks):∀ w,w ∈ ks→∃ i:Nat,w.at_=i∧p≤i∧i<max a.length b.length∧w.e.kind ≠ 0∧R w.e (a.getD i T0) (b.getD i T0):=by
 induction h with
 |nil p h=>intro w hw;simp at hw
 |cons p i e ks hp h hi he hr _ ih=>
  intro w hw;rcases List.mem_cons.1 hw with rfl | hw
  ·exact⟨i,rfl,hp,hi,he,hr⟩
  ·obtain⟨j,k1,k2,k3⟩:=ih w hw;exact⟨j,k1,by omega,k3⟩
theorem iB {R:E→T→T→Prop} {a b:List T} {p:Nat} {ks:List KE} (h:U7 R a b p ks):∀ i:Nat,p≤i→(∀ w,w ∈ ks→w.at_<(i:Int))→Af (a.getD i T0)=Af (b.getD i T0):=by
 induction h with
 |nil p h=>intro i hi _;exact h i hi
 |cons p i e ks hp h hi he hr _ ih=>
  intro j hj hw;have:((i:Nat):Int)<(j:Int):=hw (.mk i e) (by simp);exact ih j (by omega) fun w h=>hw w (List.mem_cons_of_mem _ h)
theorem Qy {R:E→T→T→Prop} {a b:List T} {p:Nat} {ks:List KE} (h:U7 R a b p ks):∀ x,ks.getLast? = some x→∀ w,w ∈ ks→w.at_≤x.at_:=by
 induction h with
 |nil p h=>intro x hx;simp at hx
 |cons p i e ks hp h hi he hr g ih=>
  intro x hx w hw;cases ks with
  |nil=>
   simp at hx hw;rw[← hx,hw];exact Int.le_refl _
  |cons y ys=>
   rw[List.getLast?_cons_cons] at hx;rcases List.mem_cons.1 hw with rfl | hw
   ·have k:=ih x hx y (by simp);obtain⟨j,k1,k2,_⟩:=IV g y (by simp);have:((i:Nat):Int)≤x.at_:=by omega
    exact this
   ·exact ih x hx w hw
theorem Ue {R:E→T→T→Prop} (hR:∀ e x y,R e x y→GY e x=some (Af y)) {a b:List T}:∀ (m p:Nat) (ks:List KE),U7 R a b p ks→∃ L,LA a m p (BJ ks)=some L∧L.length=m∧∀ j,j<m→Af (L.getD j T0)=Af (b.getD (p+j) T0)
 |0,p,ks,h=>⟨[],by rw[LA],rfl,fun j hj=>by omega⟩
 |m+1,p,ks,h=>by
  have ext:∀ (u:T) (L:List T),Af u=Af (b.getD p T0)→L.length=m→(∀ j,j<m→Af (L.getD j T0)=Af (b.getD (p+1+j) T0))→(u::L).length=m+1∧∀ j,j<m+1→Af ((u::L).getD j T0)=Af (b.getD (p+j) T0):=fun u L h0 h1 h2=>by
   refine⟨by simp[h1],fun j hj=>?_⟩;cases j with
   |zero=>simpa using h0
   |succ j=>
    have:=h2 j (by omega);rw[show p+(j+1)=p+1+j from by omega];simpa using this
  cases h with
  |nil _ h=>
   obtain⟨L,k1,k2,k3⟩:=Ue hR m (p+1) [] (.nil _ fun i hi=>h i (by omega));rw[BJ] at k1 ⊢;refine⟨a.getD p T0::L,by rw[KA (fun x xs e=>by cases e),k1];rfl,ext _ _ (h p (Ei _)) k2 k3⟩
  |cons _ i e ks hp h hi he hr g=>
   by_cases ep:p=i
   ·subst ep;obtain⟨L,k1,k2,k3⟩:=Ue hR m (p+1) ks g;refine⟨Af (b.getD p T0)::L,?_,ext _ _ (Dr _) k2 k3⟩;rw[BJ,PJ rfl (hR _ _ _ hr),k1];rfl
   ·obtain⟨L,k1,k2,k3⟩:=Ue hR m (p+1) (.mk i e::ks) (.cons (p+1) i e ks (by omega) (fun j h1 h2=>h j (by omega) h2) hi he hr g);refine⟨a.getD p T0::L,?_,ext _ _ (h p (Ei _) (by omega)) k2 k3⟩;rw[BJ] at k1 ⊢;rw[KA (fun x xs ex=>by cases ex;show((i:Nat):Int) ≠ (p:Int);omega),k1];rfl
theorem Tq:∀ {l m:List T},l.map Af=m.map Af→(l.zip m).all (fun p=>G9 p.1 p.2)=true
 |[],[],_=>rfl
 |[],y::m,h=>by simp at h
 |x::l,[],h=>by simp at h
 |x::l,y::m,h=>by
  rw[List.map_cons,List.map_cons] at h;rw[List.zip_cons_cons,List.all_cons,Bool.and_eq_true];exact⟨eqT_iff.2 (List.cons.inj h).1,Tq (List.cons.inj h).2⟩
theorem jq {R:E→T→T→Prop} (hR:∀ e x y,R e x y→GY e x=some (Af y)) {os:List OP} {a b:List T} (h:LdO R os a b):∀ (tk:List T) (i:Nat),tk.drop i=a→i≤tk.length→∃ B,Cp tk i (CE os)=some (B,tk.length)∧B.map Af=b.map Af:=by
 induction h with
 |nil=>
  intro tk i hd hi;have:tk.length≤i:=by simpa using hd
  exact⟨[],by rw[CE,Cp,show i=tk.length from by omega],rfl⟩
 |@keep os a b l m hne hl _ ih=>
  intro tk i hd hi;have hlen:tk.length-i=l.length+a.length:=by rw[← List.length_drop,hd,List.length_append]
  have hd2:tk.drop (i+l.length)=a:=by rw[← List.drop_drop,hd,List.drop_left]
  obtain⟨B,k1,k2⟩:=ih tk (i+l.length) hd2 (by omega);refine⟨l++B,?_,by rw[List.map_append,List.map_append,hl,k2]⟩;rw[CE,Cp,if_pos rfl,Int.toNat_natCast,if_pos (by omega),k1,hd,List.take_left];rfl
 |@del os a b l m hne hl _ ih=>
  intro tk i hd hi;have hlen:tk.length-i=m.length+a.length:=by rw[← List.length_drop,hd,List.length_append]
  have hl2:l.length=m.length:=by simpa using congrArg List.length hl
  have hd2:tk.drop (i+l.length)=a:=by rw[← List.drop_drop,hd,hl2,List.drop_left]
  obtain⟨B,k1,k2⟩:=ih tk (i+l.length) hd2 (by omega);refine⟨B,?_,k2⟩;rw[CE,Cp,if_neg (by decide),if_pos rfl,if_pos ⟨by omega,by rw[hd,hl2,List.take_left];exact Tq hl.symm⟩,k1]
 |@ins os a b l m hne hl _ ih=>
  intro tk i hd hi;obtain⟨B,k1,k2⟩:=ih tk i hd hi;refine⟨l++B,?_,by rw[List.map_append,List.map_append,hl,k2]⟩;rw[CE,Cp,if_neg (by decide),if_neg (by decide),if_pos rfl,k1];rfl
 |@desc os a b e x y hr _ ih=>
  intro tk i hd hi;have hlen:tk.length-i=a.length+1:=by rw[← List.length_drop,hd,List.length_cons]
  have hd2:tk.drop (i+1)=a:=by rw[← List.drop_drop,hd];rfl
  have hx:tk[i]? = some x:=by
   have:=congrArg (fun l:List T=>l[0]?) hd;simpa using this
  obtain⟨B,k1,k2⟩:=ih tk (i+1) hd2 (by omega);refine⟨Af y::B,?_,by rw[List.map_cons,List.map_cons,k2,Dr]⟩;rw[CE,Cp,if_neg (by decide),if_neg (by decide),if_neg (by decide),hx];dsimp only;rw[hR _ _ _ hr];dsimp only;rw[k1];rfl
theorem VE {e:E} {a b:T} (h:uQ e a b):GY e a=some (Af b):=by
 rcases h with ⟨rfl,h⟩ | ⟨o,n,rfl,h1,h2⟩
 ·rw[HF,Ep,if_pos rfl,h]
 ·rw[HF,Ep,if_neg (by decide),if_pos rfl,if_pos (eqT_iff.2 h1),h2]
theorem cC:∀ (f:Nat) (e:E) (a b:T),Ld f e a b→GY e a=some (Af b):=by
 intro f;induction f with
 |zero=>exact fun e a b h=>VE h
 |succ f ih=>
  intro e a b h;rcases h with h | ⟨ws,ks,rfl,h1,h2,h3,h4⟩ | ⟨os,rfl,h1,h2,hv,h3⟩
  ·exact VE h
  ·obtain⟨L,k1,k2,k3⟩:=Ue ih (Es (BJ ks) a.kids.length) 0 ks h4;rw[HF,Ep,if_neg (by decide),if_neg (by decide),if_pos rfl,if_pos h1,T6 _ 0 ws h3,k1];dsimp only;obtain⟨kb,wb,lb⟩:=b;have h2:kb=1:=h2;subst h2;congr 1;refine struct_eq.2 ⟨fun i=>?_,fun i=>?_⟩
   ·by_cases hi:i<Fc ws a.words.length
    ·simp[List.getD_eq_getElem?_getD,hi,List.getElem?_range']
    ·have hl:∀ w,w ∈ ws→w.at_<(i:Int):=fun w hw=>by
      unfold Fc at hi;cases e:ws.getLast? with
      |none=>rw[List.getLast?_eq_none_iff.1 e] at hw;simp at hw
      |some x=>
       rw[e] at hi;have:=eE h3 x e w hw;simp only at hi;omega
     have hal:a.words.length≤i:=by
      unfold Fc at hi;split at hi<;>omega
     have:=jJ h3 i (Nat.zero_le _) hl;have e1:a.words.getD i 0=0:=by rw[List.getD_eq_getElem?_getD,List.getElem?_eq_none hal];rfl
     have e2:((List.range' 0 (Fc ws a.words.length)).map fun j=>wb.getD j 0).getD i 0=0:=by rw[List.getD_eq_getElem?_getD,List.getElem?_eq_none (by simp;omega)];rfl
     have e3:wb.getD i 0=0:=this.symm.trans e1;exact e2.trans e3.symm
   ·by_cases hi:i<Es (BJ ks) a.kids.length
    ·have:=k3 i hi;rw[Nat.zero_add] at this;exact this
    ·have hl:∀ w,w ∈ ks→w.at_<(i:Int):=fun w hw=>by
      unfold Es at hi;rw[D4,List.getLast?_map] at hi;cases e:ks.getLast? with
      |none=>rw[List.getLast?_eq_none_iff.1 e] at hw;simp at hw
      |some x=>
       rw[e] at hi;have:=Qy h4 x e w hw;simp only[Option.map_some] at hi;omega
     have hal:a.kids.length≤i:=by
      unfold Es at hi;split at hi<;>omega
     have:=iB h4 i (Nat.zero_le _) hl;have e1:a.kids.getD i T0=T0:=by rw[List.getD_eq_getElem?_getD,List.getElem?_eq_none hal];rfl
     have e2:L.getD i T0=T0:=by rw[List.getD_eq_getElem?_getD,List.getElem?_eq_none (by omega)];rfl
     have e3:Af (lb.getD i T0)=Af T0:=this.symm.trans (by rw[e1]);rw[e2,e3]
  ·obtain⟨B,k1,k2⟩:=jq ih h3 a.kids 0 rfl (Nat.zero_le _);have n1:a.kind ≠ 0:=by omega
   rw[HF,Ep,if_neg (by decide),if_neg (by decide),if_neg (by decide),if_pos rfl,if_pos rfl,k1];dsimp only;rw[if_pos rfl];congr 1;obtain⟨kb,wb,lb⟩:=b;have h1:kb=a.kind:=h1;have hv2:wb=[]:=hv.2;subst h1;subst hv2;exact(Jb n1 (by omega)).2 ⟨rfl,k2⟩
theorem Oq {f:Nat} {e:E} {a b:T} (h:Ld f e a b):Ea e a=Af b:=by rw[Ea,cC f e a b h];rfl
def kM (c:Cf):Cf:=⟨c.path,c.base,c.theirs,c.ours⟩
def Rd (m:Int):Prop:=0≤m∧m<256
theorem EK:∀ (ws:List WE) (n:Nat),Bu n ws=max n (Bu 0 ws)
 |[],n=>by simp[Bu]
 |w::ws,n=>by
  have e:∀ n,Bu n (w::ws)=Bu (max n (w.at_+1).toNat) ws:=fun n=>rfl;rw[e,e,EK ws,EK ws (max 0 _)];omega
theorem H6:∀ (ws:List KE) (n:Nat),Bf n ws=max n (Bf 0 ws)
 |[],n=>by simp[Bf]
 |w::ws,n=>by
  have e:∀ n,Bf n (w::ws)=Bf (max n (w.at_+1).toNat) ws:=fun n=>rfl;rw[e,e,H6 ws,H6 ws (max 0 _)];omega
section
variable {P:E→Prop} {M:Cw→T→E→E→T × List Cf}
end
theorem OM {P:E→Prop} (h0:P E0) {ks:List KE} (h:∀ x,x ∈ ks→P x.e) (i:Nat):P (CR ks i):=by
 unfold CR;cases e:ks.find? fun k=>decide (k.at_=(i:Int)) with
 |none=>exact h0
 |some w=>exact h w (List.mem_of_find?_eq_some e)
inductive LdU (R:E→T→T→Prop):List U→List T→List T→Prop
 |nil:LdU R [] [] []
 |keep {us:List U} {a b:List T} (x y:T) (h:Af x=Af y) (g:LdU R us a b):LdU R (.keep::us) (x::a) (y::b)
 |del {us:List U} {a b:List T} (t x:T) (h:Af t=Af x) (g:LdU R us a b):LdU R (.del t::us) (x::a) b
 |ins {us:List U} {a b:List T} (t y:T) (h:Af t=Af y) (g:LdU R us a b):LdU R (.ins t::us) a (y::b)
 |desc {us:List U} {a b:List T} (e:E) (x y:T) (h:R e x y) (g:LdU R us a b):LdU R (.desc e::us) (x::a) (y::b)
theorem R6 {R:E→T→T→Prop} {us:List U} {a b:List T} (g:LdU R us a b):∀ {l m:List T},l.map Af=m.map Af→LdU R (List.replicate l.length .keep++us) (l++a) (m++b)
 |[],[],_=>g
 |[],y::m,h=>by simp at h
 |x::l,[],h=>by simp at h
 |x::l,y::m,h=>by
  rw[List.map_cons,List.map_cons] at h;exact .keep x y (List.cons.inj h).1 (R6 g (List.cons.inj h).2)
theorem UQ {R:E→T→T→Prop} {us:List U} {a b:List T} (g:LdU R us a b):∀ {l m:List T},l.map Af=m.map Af→LdU R (l.map .del++us) (m++a) b
 |[],[],_=>g
 |[],y::m,h=>by simp at h
 |x::l,[],h=>by simp at h
 |x::l,y::m,h=>by
  rw[List.map_cons,List.map_cons] at h;exact .del x y (List.cons.inj h).1 (UQ g (List.cons.inj h).2)
theorem Wf {R:E→T→T→Prop} {us:List U} {a b:List T} (g:LdU R us a b):∀ {l m:List T},l.map Af=m.map Af→LdU R (l.map .ins++us) a (m++b)
 |[],[],_=>g
 |[],y::m,h=>by simp at h
 |x::l,[],h=>by simp at h
 |x::l,y::m,h=>by
  rw[List.map_cons,List.map_cons] at h;exact .ins x y (List.cons.inj h).1 (Wf g (List.cons.inj h).2)
theorem CA (o:OP) (os:List OP):En (o::os)=Ja o++En os:=rfl
theorem TN {R:E→T→T→Prop} {os:List OP} {a b:List T} (h:LdO R os a b):LdU R (En os) a b:=by
 induction h with
 |nil=>exact .nil
 |keep l m hne hl _ ih=>
  rw[CA];have:=R6 ih hl;simpa[Ja] using this
 |del l m hne hl _ ih=>
  rw[CA];have:=UQ ih hl;simpa[Ja] using this
 |ins l m hne hl _ ih=>
  rw[CA];have:=Wf ih hl;simpa[Ja] using this
 |desc e x y r _ ih=>
  rw[CA];have:=LdU.desc e x y r ih;simpa[Ja] using this
theorem JF {R:E→T→T→Prop} {us:List U} {a b:List T} (h:LdU R us a b):∃ y1 y2,b=y1++y2∧(Ey us).map Af=y1.map Af∧LdU R (Dy us) a y2∧∀ t vs,Dy us ≠ .ins t::vs:=by
 induction h with
 |nil=>exact⟨[],[],rfl,rfl,.nil,fun t vs e=>by cases e⟩
 |keep x y h g _=>exact⟨[],_,rfl,rfl,.keep x y h g,fun t vs e=>by cases e⟩
 |del t x h g _=>exact⟨[],_,rfl,rfl,.del t x h g,fun t vs e=>by cases e⟩
 |desc e x y h g _=>exact⟨[],_,rfl,rfl,.desc e x y h g,fun t vs e=>by cases e⟩
 |ins t y h g ih=>
  obtain⟨y1,y2,rfl,h1,h2,h3⟩:=ih;exact⟨y::y1,y2,rfl,by rw[Ey,List.map_cons,List.map_cons,h,h1],h2,h3⟩
theorem OB {R:E→T→T→Prop} (h0:∀ x y,Af x=Af y→R E0 x y) {a b:List T} {p:Nat} {ks:List KE} (h:U7 R a b p ks):∀ i:Nat,p≤i→R (CR ks i) (a.getD i T0) (b.getD i T0):=by
 induction h with
 |nil p h=>exact fun i hi=>h0 _ _ (h i hi)
 |cons p i e ks hp h hi he hr g ih=>
  intro j hj;unfold CR;rw[List.find?_cons];by_cases ei:i=j
  ·subst ei;simpa using hr
  ·rw[show decide ((KE.mk (i:Nat) e).at_=(j:Int))=false from decide_eq_false (by show ¬ ((i:Nat):Int)=(j:Int);omega)];by_cases c:i<j
   ·exact ih j (by omega)
   ·have hn:ks.find? (fun w=>decide (w.at_=(j:Int)))=none:=List.find?_eq_none.2 fun w hw=>by
     obtain⟨k,k1,k2,_⟩:=IV g w hw;simp;omega
    simp only[hn];exact h0 _ _ (h j hj (by omega))
theorem KN:∀ {ws:List WE} {n:Nat} {w:WE},w ∈ ws→w.at_<Bu n ws
 |x::ws,n,w,h=>by
  show w.at_<Bu (max n (x.at_+1).toNat) ws;rcases List.mem_cons.1 h with rfl | h
  ·rw[EK];omega
  ·exact KN h
theorem V6:∀ {ws:List KE} {n:Nat} {w:KE},w ∈ ws→w.at_<Bf n ws
 |x::ws,n,w,h=>by
  show w.at_<Bf (max n (x.at_+1).toNat) ws;rcases List.mem_cons.1 h with rfl | h
  ·rw[H6];omega
  ·exact V6 h
theorem Vh {α:Type} (g:Nat→α) (z:α) (n i:Nat) (h:n≤i→g i=z):((List.range n).map g).getD i z=g i:=by
 by_cases c:i<n
 ·simp[List.getD_eq_getElem?_getD,c]
 ·rw[List.getD_eq_getElem?_getD,List.getElem?_eq_none (by simp;omega),h (by omega)];rfl
theorem jG {f:Nat} {at':Cw} {o:T} {p q:E} (h:p.kind=0):mg f at' o p q=(Ea q o,[]):=by
 cases f with
 |zero=>exact if_pos h
 |succ f=>rw[mg,if_neg (by omega),if_neg (by omega)];exact if_pos h
end Go.Proofs.YtlaapfplenlfaaaGreat
namespace Go.Proofs.YtlaapfplenlfaaaGreat
set_option maxRecDepth 20000
open Go Go.G Go.Proofs
@[simp] theorem Aam:Tryz.prog.underlying 35=some (.slice 51):=by kernel_rfl
@[simp] theorem AaF:Tryz.prog.underlying 49=some (.slice 65):=by kernel_rfl
@[simp] theorem xZ:Tryz.prog.underlying 107=some (.slice 27):=by kernel_rfl
@[simp] theorem yu:Tryz.prog.underlying 113=some (.slice 117):=by kernel_rfl
@[simp] theorem Aad:Cv Tryz.prog 35=some 1:=by kernel_rfl
@[simp] theorem AaH:Cv Tryz.prog 49=some 1:=by kernel_rfl
@[simp] theorem Aak:Cv Tryz.prog 51=some 10:=by kernel_rfl
@[simp] theorem Aah:Cv Tryz.prog 65=some 2:=by kernel_rfl
@[simp] theorem Aax:Cv Tryz.prog 66=some 1:=by kernel_rfl
@[simp] theorem xo:Cv Tryz.prog 110=some 1:=by kernel_rfl
@[simp] theorem xr:Cv Tryz.prog 117=some 29:=by kernel_rfl
@[simp] theorem yU:C0 Tryz.prog 35=some false:=by kernel_rfl
@[simp] theorem xx:C0 Tryz.prog 49=some false:=by kernel_rfl
@[simp] theorem yW:C0 Tryz.prog 66=some false:=by kernel_rfl
@[simp] theorem wZ:C0 Tryz.prog 110=some false:=by kernel_rfl
@[simp] theorem tT:C0 Tryz.prog 117=some true:=by kernel_rfl
@[simp] theorem uF:A5 Tryz.prog 22=some (Value.slice none 0 0):=by kernel_rfl
@[simp] theorem vf:A5 Tryz.prog 27=some (Value.slice none 0 0):=by kernel_rfl
@[simp] theorem va:A5 Tryz.prog 51=some (Value.agg #[Value.slice none 0 0,Value.int i64 0,Value.slice none 0 0,Value.slice none 0 0,Value.int i64 0,Value.slice none 0 0,Value.slice none 0 0,Value.int i64 0,Value.slice none 0 0,Value.slice none 0 0]):=by kernel_rfl
@[simp] theorem sW:A5 Tryz.prog 65=some (Value.agg #[Value.int i64 0,Value.int i64 0]):=by kernel_rfl
@[simp] theorem qa:A5 Tryz.prog 117=some (Value.agg #[Value.int i64 0,Value.int i64 0,Value.int i64 0,Value.slice none 0 0,Value.int i64 0,Value.int i64 0,Value.slice none 0 0,Value.slice none 0 0,Value.int i64 0,Value.slice none 0 0,Value.slice none 0 0,Value.slice none 0 0,Value.slice none 0 0,Value.int i64 0,Value.slice none 0 0,Value.int i64 0,Value.int i64 0,Value.slice none 0 0,Value.int i64 0,Value.int i64 0,Value.slice none 0 0,Value.slice none 0 0,Value.int i64 0,Value.slice none 0 0,Value.slice none 0 0,Value.slice none 0 0,Value.slice none 0 0,Value.int i64 0,Value.slice none 0 0]):=by kernel_rfl
@[simp] theorem re:Bb Tryz.prog 27=some 24:=by kernel_rfl
@[simp] theorem pP:Bb Tryz.prog 51=some 192:=by kernel_rfl
@[simp] theorem pZ:Bb Tryz.prog 65=some 16:=by kernel_rfl
@[simp] theorem oM:Bb Tryz.prog 117=some 488:=by kernel_rfl
@[simp] theorem b7:Ak Tryz.prog 68 0=some 0:=by kernel_rfl
@[simp] theorem aX:Ak Tryz.prog 112 0=some 0:=by kernel_rfl
@[simp] theorem aZ:Ak Tryz.prog 112 1=some 1:=by kernel_rfl
@[simp] theorem ai:Ak Tryz.prog 112 2=some 2:=by kernel_rfl
@[simp] theorem bj:Ak Tryz.prog 112 3=some 5:=by kernel_rfl
@[simp] theorem ay:Ak Tryz.prog 112 4=some 6:=by kernel_rfl
@[simp] theorem ao:Ak Tryz.prog 112 5=some 7:=by kernel_rfl
@[simp] theorem aA:Ak Tryz.prog 112 6=some 8:=by kernel_rfl
@[simp] theorem ba:Ak Tryz.prog 117 0=some 0:=by kernel_rfl
@[simp] theorem af:Ak Tryz.prog 117 1=some 1:=by kernel_rfl
@[simp] theorem a7:Ak Tryz.prog 117 2=some 15:=by kernel_rfl
@[simp] theorem aQ:Ak Tryz.prog 179 0=some 0:=by kernel_rfl
@[simp] theorem aU:Ak Tryz.prog 179 1=some 1:=by kernel_rfl
@[simp] theorem pE (ps:List (Nat × A)):BW Tryz.prog 51 ps=(Cu (fun i=>([(0,1),(1,3),(4,3),(7,3)]:List (Nat × Nat))[i]?) [A.sl true [],iv 0,A.sl true [],A.sl true [],iv 0,A.sl true [],A.sl true [],iv 0,A.sl true [],A.sl true []] ps).map A.agg:=by kernel_rfl
@[simp] theorem ql (ps:List (Nat × A)):BW Tryz.prog 65 ps=(Cu (fun i=>([(0,1),(1,1)]:List (Nat × Nat))[i]?) [iv 0,iv 0] ps).map A.agg:=by kernel_rfl
@[simp] theorem rH (ps:List (Nat × A)):BW Tryz.prog 68 ps=(Cu (fun i=>([(0,1)]:List (Nat × Nat))[i]?) [A.sl true []] ps).map A.agg:=by kernel_rfl
@[simp] theorem nA (ps:List (Nat × A)):BW Tryz.prog 112 ps=(Cu (fun i=>([(0,1),(1,1),(2,3),(5,1),(6,1),(7,1),(8,1)]:List (Nat × Nat))[i]?) [A.v (Value.pointer none),A.sl true [],iv 0,A.sl true [],A.sl true [],iv 0,A.sl true [],A.sl true [],A.sl true []] ps).map A.agg:=by kernel_rfl
@[simp] theorem n8 (ps:List (Nat × A)):BW Tryz.prog 117 ps=(Cu (fun i=>([(0,1),(1,14),(15,14)]:List (Nat × Nat))[i]?) [iv 0,iv 0,iv 0,A.sl true [],iv 0,iv 0,A.sl true [],A.sl true [],iv 0,A.sl true [],A.sl true [],A.sl true [],A.sl true [],iv 0,A.sl true [],iv 0,iv 0,A.sl true [],iv 0,iv 0,A.sl true [],A.sl true [],iv 0,A.sl true [],A.sl true [],A.sl true [],A.sl true [],iv 0,A.sl true []] ps).map A.agg:=by kernel_rfl
@[simp] theorem nP (ps:List (Nat × A)):BW Tryz.prog 179 ps=(Cu (fun i=>([(0,1),(1,1)]:List (Nat × Nat))[i]?) [A.sl true [],iv 0] ps).map A.agg:=by kernel_rfl
def Nx:CC:=sR [bX 1 91 0 [0],aI 2 0] [1] (sQ [fO 3 91 1 0,lO 4 3 3,bQ .eql 5 3 4 3 3] [1,5] (cD 5 (sR [aI 2 1] [2] (.ret)) (.skip)) [1] (sR [fO 6 91 1 1,lO 7 3 6,fO 8 91 1 2,lO 9 23 8,bN 10 9 23,bB .add 11 3 7 10 3,aO 2 11] [2] (.ret)))
theorem Uh:Ca Tryz.prog 166 12 [(.tmp 2)] Nx:=AJ Tryz.func166
def G4:CC:=sR [aB 2 false] [0] (sR [mO 3 0,nC 4 3,fO 5 179 4 0,lO 6 28 5,bN 7 6 28,bQ .eql 8 3 7 0 3,aO 2 8] [2] (.ret))
theorem Lv:Ca Tryz.prog 167 9 [(.tmp 2)] G4:=AJ Tryz.func167
def Gd:CC:=sR [aB 2 false] [0] (sR [mO 3 0,cA 4 167 3 177,oO 5 (.unOp .not 4 (xT 4)),mO 6 5,mG 7 0 6 true,oG 8 (.nilCheck (xT 7)) 6 true,fG 9 179 8 0 6 true,lG 10 28 9 6 true,oG 11 (.indexAddr 28 (xT 10) (nI 0)) 6 true,fG 12 91 11 0 6 true,lG 13 3 12 6 true,mG 14 0 6 true,oG 15 (.nilCheck (xT 14)) 6 true,fG 16 179 15 1 6 true,lG 17 3 16 6 true,oG 18 (bO .eql 3 13 17 3) 6 true,pF 19 6 18,aO 2 19] [2] (.ret))
theorem J7:Ca Tryz.prog 164 20 [(.tmp 2)] Gd:=AJ Tryz.func164
def EJ:CC:=sR [mO 50 0,lO 51 91 7,⟨some 52,(.buildSlice 28 1 #[(0,(xT 51))]),none,[5],2,[],true⟩,mO 53 0,nC 54 53,fO 55 179 54 0,⟨some 56,(lD 28 55),none,[],6,[2],false⟩,oO 57 (.slice 28 (xT 56) (some (nI 1)) none none),aP 58 52 57 28 28 [5],nC 59 50,fO 60 179 59 0,sT 28 60 58] [4,6] (sR [lO 61 91 6,sT 91 4 61] [4] (.ret)) 
def G6:CC:=sR [aL 4 91 [1]] [0,1,4] (sR [mO 8 0,nC 9 8,fO 10 179 9 0,lO 11 28 10,oO 12 (.indexAddr 28 (xT 11) (nI 0)),lO 13 91 12,aL 5 91 [2],sT 91 5 13] [0,1,4,5] (sQ [mO 14 1,lO 15 91 5,cA 16 166 15 91,bB .geq 17 3 14 16 3] [0,1,4,5,17] (cD 17 (sR [mO 18 0,mO 19 0,nC 20 19,fO 21 179 20 0,lO 22 28 21,oO 23 (.slice 28 (xT 22) (some (nI 1)) none none),nC 24 18,fO 25 179 24 0,sT 28 25 23] [4,5] (sR [lO 26 91 5,sT 91 4 26] [4] (.ret))) (.skip)) [0,1,4,5] (sR [lS 27 91 5 0,lS 28 91 5 1,⟨some 6,(.alloc 91),none,[3],2,[0,1],true⟩,⟨some 7,(.alloc 91),none,[4],3,[0,1,2],false⟩,⟨none,(.store 91 (xT 6) (xT 27)),none,[],4,[1],false⟩,sT 91 7 28] [0,1,4,5,6,7] (sQ [fO 29 91 5 0,lO 30 3 29,bQ .eql 31 3 30 0 3] [0,1,4,5,6,7,31] (cD 31 (.reg [mO 32 1,fO 33 91 5 1,lS 34 3 33 2,mO 35 1,bB .sub 36 3 34 35 3,fO 37 91 6 1,⟨none,(.store 3 (xT 37) (xT 32)),none,[],6,[2],false⟩,fO 38 91 7 1,sT 3 38 36] [0,4,6,7]) (.reg [fO 39 91 5 2,lO 40 23 39,mO 41 1,mO 42 1,oO 43 (.slice 23 (xT 40) none (some (xT 41)) (some (xT 42))),fO 44 91 5 2,lS 45 23 44 6,mO 46 1,oO 47 (.slice 23 (xT 45) (some (xT 46)) none none),fO 48 91 6 2,⟨none,(.store 23 (xT 48) (xT 43)),none,[],10,[6],false⟩,fO 49 91 7 2,sT 23 49 47] [0,4,6,7])) [0,4,6,7] EJ))))
theorem Ls:Ca Tryz.prog 165 62 [(.cell 4 91)] G6:=AJ Tryz.func165
def Ee:CC:=.block 1 (.block 2 (sR [mO 34 0,cA 35 164 34 177,aO 33 35] [0,1,6,33] (cD 33 (.reg [mO 36 6,mO 37 0,mO 38 0,nC 39 38,fO 40 179 39 0,lO 41 28 40,oO 42 (.indexAddr 28 (xT 41) (nI 0)),lO 43 91 42,cA 44 166 43 91,cB 45 165 37 44 177 3,oO 46 (.build 117 #[(0,(nI 1)),(1,(xT 45))]),oO 47 (.buildSlice 113 1 #[(0,(xT 46))]),aP 48 36 47 113 113 [2],aO 6 48] [0,1,6]) (sR [mO 50 1,cA 51 164 50 177,aO 49 51] [0,1,6,49] (cD 49 (.reg [mO 52 6,mO 53 1,mO 54 1,nC 55 54,fO 56 179 55 0,lO 57 28 56,oO 58 (.indexAddr 28 (xT 57) (nI 0)),lO 59 91 58,cA 60 166 59 91,cB 61 165 53 60 177 3,oO 62 (.build 117 #[(0,(nI 2)),(2,(xT 61))]),oO 63 (.buildSlice 113 1 #[(0,(xT 62))]),aP 64 52 63 113 113 [3],aO 6 64] [0,1,6]) (sR [mO 66 0,cA 67 167 66 177,mO 68 67,mG 69 1 68 false,oG 70 (cL 167 #[(xT 69)] #[177]) 68 false,pT 71 68 70,aO 65 71] [0,1,6,65] (cD 65 (sQ [mO 72 0,cA 73 167 72 177,mO 74 1,cA 75 167 74 177,bB .neq 76 4 73 75 4] [6,76] (cD 76 (sR [aN 4,aB 5 false] [4,5] (.ret)) (.skip)) [6] (sR [mO 77 6,aO 4 77,aB 5 true] [4,5] (.ret))) (sR [mO 8 0,nC 9 8,fO 10 179 9 0,lO 11 28 10,oO 12 (.indexAddr 28 (xT 11) (nI 0)),lO 13 91 12,⟨some 14,(cL 166 #[(xT 13)] #[91]),none,[],6,[],true⟩,mO 15 1,nC 16 15,fO 17 179 16 0,⟨some 18,(lD 28 17),none,[],10,[6],false⟩,oO 19 (.indexAddr 28 (xT 18) (nI 0)),⟨some 20,(lD 91 19),none,[],12,[6],false⟩,cA 21 166 20 91,oO 22 (bC .min #[(xT 14),(xT 21)] #[3,3]),aO 7 22] [0,1,6,7] (.reg [mO 23 6,mO 24 0,mO 25 7,cB 26 165 24 25 177 3,mO 27 1,mO 28 7,cB 29 165 27 28 177 3,oO 30 (.build 117 #[(1,(xT 26)),(2,(xT 29))]),oO 31 (.buildSlice 113 1 #[(0,(xT 30))]),aP 32 23 31 113 113 [4],aO 6 32] [0,1,6]))))))))) 
def MC:CC:=sR [aN 4,aB 5 false] [0,1] (sR [aN 6] [0,1,6] (.block 0 (.loop Ee)))
theorem TY:Ca Tryz.prog 133 78 [(.tmp 4),(.tmp 5)] MC:=AJ Tryz.func133
def J1:CC:=sR [aN 4,aB 5 false] [0,1] (sR [mO 6 0,oO 7 (.build 179 #[(0,(xT 6)),(1,(nI 2))]),bX 8 179 7 [0],mO 9 1,oO 10 (.build 179 #[(0,(xT 9)),(1,(nI 2))]),bX 11 179 10 [1],cB 12 133 8 11 177 177,xO 13 12 0,xO 14 12 1,aO 4 13,aO 5 14] [4,5] (.ret))
theorem Px:Ca Tryz.prog 86 15 [(.tmp 4),(.tmp 5)] J1:=AJ Tryz.func86
def Bh:CC:=sR [aN 2] [0] (sQ [mO 3 0,oO 4 (.binOp .eql 49 (xT 3) nS 49)] [0,4] (cD 4 (sR [aN 2] [2] (.ret)) (.skip)) [0] (sR [oO 5 (.buildSlice 49 0 #[]),mO 6 0,aP 7 5 6 49 49 [0],aO 2 7] [2] (.ret)))
theorem BS:Ca Tryz.prog 91 8 [(.tmp 2)] Bh:=AJ Tryz.func91
def GJ:CC:=sR [bX 7 25 2 [1],bX 8 25 3 [2],bX 9 25 4 [3],aL 10 25 [4]] [0,1,7,8,9,10] (sR [mO 11 0,mO 12 0,nC 13 12,fO 14 68 13 0,lS 15 35 14 4,mO 16 1,⟨some 17,(cL 91 #[(xT 16)] #[49]),none,[],6,[4],true⟩,⟨some 18,(lD 25 7),none,[],7,[6],false⟩,⟨some 19,(cL 35 #[(xT 18)] #[25]),none,[],8,[4],true⟩,⟨some 20,(lD 25 8),none,[],9,[6,8],false⟩,⟨some 21,(cL 35 #[(xT 20)] #[25]),none,[],10,[4],true⟩,⟨some 22,(lD 25 9),none,[],11,[6,8,10],false⟩,⟨some 23,(cL 35 #[(xT 22)] #[25]),none,[],12,[4],false⟩,oO 24 (.build 51 #[(0,(xT 17)),(1,(xT 19)),(2,(xT 21)),(3,(xT 23))]),⟨some 25,(.buildSlice 35 1 #[(0,(xT 24))]),none,[],14,[4],false⟩,aP 26 15 25 35 35 [5],nC 27 11,fO 28 68 27 0,sT 35 28 26] [7,10] (sR [lO 29 25 7,sT 25 10 29] [10] (.ret)))
theorem KD:Ca Tryz.prog 58 30 [(.cell 10 25)] GJ:=AJ Tryz.func58
def J4:CC:=sR [aN 6] [0,1,2] (sR [mO 7 0,mO 8 0,bN 9 8 49,mO 10 0,bN 11 10 49,oO 12 (.slice 49 (xT 7) none (some (xT 9)) (some (xT 11))),mO 13 1,mO 14 2,oO 15 (.build 65 #[(0,(xT 13)),(1,(xT 14))]),oO 16 (.buildSlice 49 1 #[(0,(xT 15))]),aP 17 12 16 49 49 [0],aO 6 17] [6] (.ret))
theorem Ps:Ca Tryz.prog 84 18 [(.tmp 6)] J4:=AJ Tryz.func84
def Nq:CC:=sR [bX 2 30 0 [0],bX 3 25 1 [1],aL 4 25 [2]] [2,3,4] (sR [lO 8 30 2,lO 9 25 3,cB 10 25 8 9 30 25,mO 7 10,xO 11 7 0,xO 12 7 1,aL 5 25 [3],sT 25 5 11,aO 6 12] [4,5] (sR [lO 13 25 5,sT 25 4 13] [4] (.ret)))
theorem TW:Ca Tryz.prog 54 14 [(.cell 4 25)] Nq:=AJ Tryz.func54
def Br:CC:=sR [bX 7 25 2 [1],bX 8 30 3 [2],bX 9 30 4 [3],aL 10 25 [4]] [0,1,7,8,9,10] (.seq (.block 0 (sR [fO 14 30 8 0,lO 15 3 14,bQ .eql 16 3 15 0 3,aO 13 16] [0,1,7,8,9,10,13] (cD 13 (sR [lO 17 30 9,lO 18 25 7,cB 19 54 17 18 30 25,sT 25 10 19] [10] (.ret)) (sR [fO 21 30 9 0,lO 22 3 21,bQ .eql 23 3 22 0 3,aO 20 23] [0,1,7,8,9,10,20] (cD 20 (sR [lO 24 30 8,lO 25 25 7,cB 26 54 24 25 30 25,sT 25 10 26] [10] (.ret)) (sR [fO 28 30 8 0,lO 29 3 28,bQ .eql 30 3 29 2 3,mO 31 30,fG 32 30 9 0 31 true,lG 33 3 32 31 true,oG 34 (.binOp .eql 3 (xT 33) (nI 2) 3) 31 true,pF 35 31 34,aO 27 35] [0,1,7,8,9,10,27] (cD 27 (sR [mO 36 0,mO 37 1,lO 38 25 7,lO 39 30 8,lO 40 30 9,oO 41 (cL 55 #[(xT 36),(xT 37),(xT 38),(xT 39),(xT 40)] #[66,49,25,30,30]),sT 25 10 41] [10] (.ret)) (sR [fO 43 30 8 0,lO 44 3 43,bQ .eql 45 3 44 3 3,mO 46 45,fG 47 30 9 0 46 true,lG 48 3 47 46 true,oG 49 (.binOp .eql 3 (xT 48) (nI 3) 3) 46 true,pF 50 46 49,aO 42 50] [0,1,7,8,9,10,42] (cD 42 (sR [mO 51 0,mO 52 1,lO 53 25 7,lO 54 30 8,lO 55 30 9,oO 56 (cL 56 #[(xT 51),(xT 52),(xT 53),(xT 54),(xT 55)] #[66,49,25,30,30]),sT 25 10 56] [10] (.ret)) (.skip)))))))))) (.keep [0,1,7,8,9,10] (sR [lS 57 30 8 0,lS 58 25 7 1,⟨some 59,(cL 54 #[(xT 57),(xT 58)] #[30,25]),none,[],2,[],true⟩,⟨some 60,(lD 30 9),none,[],3,[2],true⟩,⟨some 61,(lD 25 7),none,[],4,[2],true⟩,⟨some 62,(cL 54 #[(xT 60),(xT 61)] #[30,25]),none,[],5,[],true⟩,⟨some 11,(.alloc 25),none,[5],6,[0,1,2,3,4,5],true⟩,⟨some 12,(.alloc 25),none,[6],7,[0,1,2,3,4,5,6],false⟩,sT 25 11 59,sT 25 12 62] [0,1,7,10,11,12] (sQ [lO 63 25 11,lO 64 25 12,cB 65 57 63 64 25 25] [0,1,7,10,11,12,65] (cD 65 (sR [lO 66 25 11,sT 25 10 66] [10] (.ret)) (.skip)) [0,1,7,10,11,12] (sR [mO 67 0,mO 68 1,lO 69 25 7,lO 70 25 11,lO 71 25 12,oO 72 (cL 58 #[(xT 67),(xT 68),(xT 69),(xT 70),(xT 71)] #[66,49,25,25,25]),sT 25 10 72] [10] (.ret))))))
theorem BU:Ca Tryz.prog 34 73 [(.cell 10 25)] Br:=AJ Tryz.func34
def KW:CC:=sR [aL 2 25 [0]] [0,2] (sR [mO 3 0,oO 4 (.buildSlice 22 1 #[(0,(xT 3))]),oO 5 (.build 25 #[(0,(nI 1)),(1,(xT 4))]),sT 25 2 5] [2] (.ret))
theorem Qh:Ca Tryz.prog 132 6 [(.cell 2 25)] KW:=AJ Tryz.func132
def Cm:CC:=sQ [lO 5 22 2,bN 6 5 22,mO 7 0,bB .leq 8 3 6 7 3] [0,1,2,8] (cD 8 (.skip) (.exit 0)) [0,1,2] (.block 1 (.reg [lO 9 22 2,oO 10 (.buildSlice 22 1 #[(0,(.const (.int .u64 0)))]),aP 11 9 10 22 22 [2],sT 22 2 11] [0,1,2])) 
def FX:CC:=.seq (.block 0 (.loop Cm)) (.keep [0,1,2] (.reg [lO 12 22 2,mO 13 0,mO 14 1,iO 15 22 12 13,sT 61 15 14] []))
theorem Jy:Ca Tryz.prog 131 16 [] FX:=AJ Tryz.func131
def CF:CC:=sR [lO 99 25 7,mO 100 15,cB 101 90 99 100 25 3,aO 16 101] [0,1,3,4,7,11,12,13,14,15,16] (sR [mO 102 16,fO 103 85 13 3,lO 104 61 103,fO 105 85 13 1,lO 106 5 105,⟨some 107,(cL 125 #[(xT 102),(xT 104),(xT 106)] #[61,61,5]),none,[],5,[],true⟩,mO 108 16,fO 109 85 14 3,⟨some 110,(lD 61 109),none,[],8,[5],false⟩,fO 111 85 14 1,⟨some 112,(lD 5 111),none,[],10,[5],false⟩,cE 113 125 108 110 112 61 61 5,aO 17 107,aO 18 113] [0,1,3,4,7,11,12,13,14,15,16,17,18] (sQ [fO 114 85 13 1,lO 115 5 114,fO 116 85 14 1,lO 117 5 116,bB .and 118 5 115 117 5,aO 19 118] [0,1,3,4,7,11,12,13,14,15,16,17,18,19] (sR [fO 119 85 13 3,lO 120 61 119,mO 121 19,⟨some 122,(cL 125 #[(.const (.int .u64 0)),(xT 120),(xT 121)] #[61,61,5]),none,[],3,[],true⟩,fO 123 85 14 3,⟨some 124,(lD 61 123),none,[],5,[3],false⟩,mO 125 19,oO 126 (cL 125 #[(.const (.int .u64 0)),(xT 124),(xT 125)] #[61,61,5]),bB .neq 127 61 122 126 61] [0,1,3,4,7,11,12,14,15,16,17,18,127] (cD 127 (sR [mO 128 0,mO 129 1,mO 130 15,oO 131 (cL 84 #[(xT 129),(nI 1),(xT 130)] #[49,3,3]),mO 132 16,cA 133 132 132 61,mO 134 17,cA 135 132 134 61,mO 136 18,cA 137 132 136 61,oO 138 (cL 58 #[(xT 128),(xT 131),(xT 133),(xT 135),(xT 137)] #[66,49,25,25,25])] [0,1,3,4,7,11,12] (.exit 1)) (.skip))) [0,1,3,4,7,11,12,14,15,17] (.reg [mO 139 12,mO 140 15,mO 141 17,fO 142 85 14 3,lO 143 61 142,fO 144 85 14 1,lO 145 5 144,cE 146 125 141 143 145 61 61 5,oO 147 (.call { callee:=(.value (xT 139)),args:=#[(xT 140),(xT 146)],argTypes:=#[3,61] })] [0,1,3,4,7,11,12])))
def AF:CC:=sQ [mO 24 3,bN 25 24 26,bQ .gtr 26 3 25 0 3,mO 27 26,mG 28 4 27 false,oG 29 (bL 28 26) 27 false,oG 30 (.binOp .gtr 3 (xT 29) (nI 0) 3) 27 false,pT 31 27 30] [0,1,3,4,7,11,12,31] (cD 31 (.skip) (.exit 0)) [0,1,3,4,7,11,12] (.block 1 (sR [aL 13 85 [3],aL 14 85 [4]] [0,1,3,4,7,11,12,13,14] (sR [aI 15 0] [0,1,3,4,7,11,12,13,14] (.seq (.block 2 (sR [mO 47 4,bN 48 47 26,bQ .eql 49 3 48 0 3,mO 50 49,mG 51 3 50 false,oG 52 (bL 51 26) 50 false,oG 53 (.binOp .gtr 3 (xT 52) (nI 0) 3) 50 false,mG 54 53 50 false,mG 55 3 54 true,oG 56 (.indexAddr 26 (xT 55) (nI 0)) 54 true,fG 57 85 56 0 54 true,lG 58 3 57 54 true,mG 59 4 54 true,oG 60 (.indexAddr 26 (xT 59) (nI 0)) 54 true,fG 61 85 60 0 54 true,lG 62 3 61 54 true,oG 63 (bO .lss 3 58 62 3) 54 true,oG 64 (.pick (xT 54) (xT 63) (nB false)) 50 false,pT 65 50 64,aO 46 65] [0,1,3,4,7,11,12,13,14,46] (cD 46 (.reg [mO 66 3,oO 67 (.indexAddr 26 (xT 66) (nI 0)),lO 68 85 67,mO 69 3,oO 70 (.indexAddr 26 (xT 69) (nI 0)),fO 71 85 70 0,lS 72 3 71 6,mO 73 3,oO 74 (.slice 26 (xT 73) (some (nI 1)) none none),⟨none,(.store 85 (xT 13) (xT 68)),none,[],9,[6],false⟩,aO 15 72,aO 3 74] [0,1,3,4,7,11,12,13,14,15]) (sR [mO 76 3,bN 77 76 26,bQ .eql 78 3 77 0 3,mO 79 78,mG 80 4 79 false,oG 81 (.indexAddr 26 (xT 80) (nI 0)) 79 false,fG 82 85 81 0 79 false,lG 83 3 82 79 false,mG 84 3 79 false,oG 85 (.indexAddr 26 (xT 84) (nI 0)) 79 false,fG 86 85 85 0 79 false,lG 87 3 86 79 false,oG 88 (bO .lss 3 83 87 3) 79 false,pT 89 79 88,aO 75 89] [0,1,3,4,7,11,12,13,14,75] (cD 75 (.reg [mO 90 4,oO 91 (.indexAddr 26 (xT 90) (nI 0)),lO 92 85 91,mO 93 4,oO 94 (.indexAddr 26 (xT 93) (nI 0)),fO 95 85 94 0,lS 96 3 95 6,mO 97 4,oO 98 (.slice 26 (xT 97) (some (nI 1)) none none),⟨none,(.store 85 (xT 14) (xT 92)),none,[],9,[6],false⟩,aO 15 96,aO 4 98] [0,1,3,4,7,11,12,13,14,15]) (.reg [mO 32 3,oO 33 (.indexAddr 26 (xT 32) (nI 0)),lO 34 85 33,mO 35 4,oO 36 (.indexAddr 26 (xT 35) (nI 0)),lS 37 85 36 5,mO 38 3,oO 39 (.indexAddr 26 (xT 38) (nI 0)),fO 40 85 39 0,lS 41 3 40 9,mO 42 3,oO 43 (.slice 26 (xT 42) (some (nI 1)) none none),mO 44 4,oO 45 (.slice 26 (xT 44) (some (nI 1)) none none),⟨none,(.store 85 (xT 13) (xT 34)),none,[],14,[5,9],false⟩,⟨none,(.store 85 (xT 14) (xT 37)),none,[],15,[9],false⟩,aO 15 41,aO 3 43,aO 4 45] [0,1,3,4,7,11,12,13,14,15])))))) (.keep [0,1,3,4,7,11,12,13,14,15] CF))))) 
def GK:CC:=sR [bX 7 25 2 [1],aN 10] [0,1,3,4,7] (sR [fO 20 25 7 1,lO 21 22 20,cA 22 59 21 22,aL 11 22 [2],sT 22 11 22] [0,1,3,4,7,11] (sR [oO 23 (.makeFunc (.func 131) #[] #[(xT 11)]),aO 12 23] [0,1,3,4,7,11,12] (.seq (.block 0 (.loop AF)) (.keep [11] (sR [lO 148 22 11,aO 10 148] [10] (.ret))))))
theorem KP:Ca Tryz.prog 83 149 [(.tmp 10)] GK:=AJ Tryz.func83
def Hq:CC:=sR [bB .lss 10 3 9 8 3] [1,4,7,8,9,10] (.seq (cD 10 (.skip) (.exit 0)) (.keep [1,4,7,8,9] (.seq (.block 1 (sR [iO 11 27 7 9,lO 12 88 11,aL 6 88 [1],sT 88 6 12] [1,4,6,7,8,9] (sR [fO 13 88 6 0,lO 14 3 13,mO 15 1,bB .eql 16 3 14 15 3] [1,4,6,7,8,9,16] (cD 16 (sR [fO 17 88 6 1,lO 18 30 17,sT 30 4 18] [4] (.ret)) (.skip))))) (.keep [1,4,7,8,9] (.reg [bQ .add 19 3 9 1 3,mO 9 19] [1,4,7,8,9]))))) 
def OT:CC:=sR [aL 4 30 [0]] [0,1,4] (sQ [mO 7 0,bN 8 7 27,oO 9 (.move (nI 0))] [1,4,7,8,9] (.block 0 (.loop Hq)) [4] (sR [oO 20 (.build 30 #[]),sT 30 4 20] [4] (.ret)))
theorem Vq:Ca Tryz.prog 85 21 [(.cell 4 30)] OT:=AJ Tryz.func85
def AK:CC:=sR [bB .lss 36 3 35 34 3] [0,1,7,8,9,10,11,12,33,34,35,36] (.seq (cD 36 (.skip) (.exit 0)) (.keep [0,1,7,8,9,10,11,12,33,34,35] (.seq (.block 1 (sR [iO 37 107 33 35,lO 38 27 37,aO 14 38] [0,1,7,8,9,10,11,12,14,33,34,35] (sR [mO 39 14,bN 40 39 27,aO 15 40] [0,1,7,8,9,10,11,12,14,15,33,34,35] (sR [mO 41 15,bQ .gtr 42 3 41 0 3] [0,1,7,8,9,10,11,12,14,15,33,34,35,42] (cD 42 (.reg [mO 43 12,mO 44 14,mO 45 15,bQ .sub 46 3 45 1 3,iO 47 27 44 46,fO 48 88 47 0,lO 49 3 48,bQ .add 50 3 49 1 3,oO 51 (bC .max #[(xT 43),(xT 50)] #[3,3]),aO 12 51] [0,1,7,8,9,10,11,12,33,34,35]) (.skip)))))) (.keep [0,1,7,8,9,10,11,12,33,34,35] (.reg [bQ .add 52 3 35 1 3,mO 35 52] [0,1,7,8,9,10,11,12,33,34,35])))))
def BR:CC:=sR [bB .lss 55 3 54 53 3] [0,1,7,8,9,10,11,53,54,55] (.seq (cD 55 (.skip) (.exit 2)) (.keep [0,1,7,8,9,10,11,53,54] (.seq (.block 3 (sR [mO 56 54,aO 16 56] [0,1,7,8,9,10,11,16,53,54] (.reg [fO 57 25 11 2,lS 58 23 57 1,mO 59 0,mO 60 1,mO 61 16,⟨some 62,(cL 84 #[(xT 60),(nI 0),(xT 61)] #[49,3,3]),none,[],5,[1],true⟩,⟨some 63,(lD 25 7),none,[],6,[5],false⟩,mO 64 16,⟨some 65,(cL 80 #[(xT 63),(xT 64)] #[25,3]),none,[],8,[1],true⟩,fO 66 30 8 4,⟨some 67,(lD 27 66),none,[],10,[5,8],false⟩,mO 68 16,⟨some 69,(cL 85 #[(xT 67),(xT 68)] #[27,3]),none,[],12,[1],true⟩,fO 70 30 9 4,⟨some 71,(lD 27 70),none,[],14,[5,8,12],false⟩,mO 72 16,⟨some 73,(cL 85 #[(xT 71),(xT 72)] #[27,3]),none,[],16,[1],false⟩,⟨some 74,(cL 34 #[(xT 59),(xT 62),(xT 65),(xT 69),(xT 73)] #[66,49,25,30,30]),none,[],17,[1],false⟩,⟨some 75,(.buildSlice 23 1 #[(0,(xT 74))]),none,[],18,[1],false⟩,aP 76 58 75 23 23 [6],fO 77 25 11 2,sT 23 77 76] [0,1,7,8,9,10,11,53,54]))) (.reg [bQ .add 78 3 54 1 3,mO 54 78] [0,1,7,8,9,10,11,53,54])))) 
def EZ:CC:=sR [bX 7 25 2 [1],bX 8 30 3 [2],bX 9 30 4 [3],aL 10 25 [4]] [0,1,7,8,9,10] (sR [mO 17 0,mO 18 1,lO 19 25 7,fO 20 30 8 3,lO 21 26 20,fO 22 30 9 3,lO 23 26 22,oO 24 (cL 83 #[(xT 17),(xT 18),(xT 19),(xT 21),(xT 23)] #[66,49,25,26,26]),oO 25 (.build 25 #[(0,(nI 1)),(1,(xT 24))]),aL 11 25 [5],sT 25 11 25] [0,1,7,8,9,10,11] (sR [fO 26 25 7 2,lO 27 23 26,bN 28 27 23,aO 12 28] [0,1,7,8,9,10,11,12] (sQ [fO 29 30 8 4,lO 30 27 29,fO 31 30 9 4,lO 32 27 31,oO 33 (.buildSlice 107 2 #[(0,(xT 30)),(1,(xT 32))]),bN 34 33 107,oO 35 (.move (nI 0))] [0,1,7,8,9,10,11,12,33,34,35] (.block 0 (.loop AK)) [0,1,7,8,9,10,11,12] (sQ [mO 53 12,oO 54 (.move (nI 0))] [0,1,7,8,9,10,11,53,54] (.block 2 (.loop BR)) [10,11] (sR [lO 79 25 11,sT 25 10 79] [10] (.ret))))))
theorem Ib:Ca Tryz.prog 55 80 [(.cell 10 25)] EZ:=AJ Tryz.func55
def G7:CC:=sR [aL 3 25 [3]] [0,1,3] (sR [lO 4 110 1,nC 5 4,fO 6 112 5 2,fO 7 25 6 0,lO 8 3 7,mO 9 0,oO 10 (.build 25 #[(0,(xT 8)),(2,(xT 9))]),sT 25 3 10] [3] (.ret))
theorem Lp:Ca Tryz.prog 134 11 [(.cell 3 25)] G7:=AJ Tryz.func134
def IE:CC:=sR [bX 1 110 0 [2]] [1] (.seq (.block 0 (sR [lO 33 110 1,nC 34 33,fO 35 112 34 5,lO 36 23 35,bN 37 36 23,bQ .eql 38 3 37 0 3,mO 39 38,lG 40 110 1 39 false,oG 41 (.nilCheck (xT 40)) 39 false,fG 42 112 41 5 39 false,lG 43 23 42 39 false,lG 44 110 1 39 false,oG 45 (.nilCheck (xT 44)) 39 false,fG 46 112 45 6 39 false,lG 47 23 46 39 false,oG 48 (cL 126 #[(xT 43),(xT 47),(.func 57)] #[23,23,38]) 39 false,pT 49 39 48,aO 32 49] [1,32] (cD 32 (.reg [lS 50 110 1 0,lO 51 110 1,nC 52 51,fO 53 112 52 4,lO 54 23 53,lO 55 110 1,nC 56 55,fO 57 112 56 6,lO 58 23 57,⟨some 59,(bC .append #[(xT 54),(xT 58)] #[23,23]),none,[3],9,[0],false⟩,nC 60 50,fO 61 112 60 4,sT 23 61 59] [1]) (sR [lO 63 110 1,nC 64 63,fO 65 112 64 6,lO 66 23 65,bN 67 66 23,bQ .eql 68 3 67 0 3,aO 62 68] [1,62] (cD 62 (.reg [lS 69 110 1 0,lO 70 110 1,nC 71 70,fO 72 112 71 4,lO 73 23 72,lO 74 110 1,nC 75 74,fO 76 112 75 5,lO 77 23 76,⟨some 78,(bC .append #[(xT 73),(xT 77)] #[23,23]),none,[4],9,[0],false⟩,nC 79 69,fO 80 112 79 4,sT 23 80 78] [1]) (sR [oO 3 (.makeFunc (.func 134) #[] #[(xT 1)]),aO 2 3] [1,2] (.reg [lS 4 110 1 0,nC 5 4,fO 6 112 5 0,lS 7 66 6 3,lO 8 110 1,nC 9 8,fO 10 112 9 1,lO 11 49 10,lO 12 110 1,nC 13 12,fO 14 112 13 3,lO 15 3 14,⟨some 16,(cL 84 #[(xT 11),(nI 2),(xT 15)] #[49,3,3]),none,[],12,[0,3],true⟩,mO 17 2,⟨some 18,(.call { callee:=(.value (xT 17)),args:=#[nS],argTypes:=#[23] }),none,[],14,[0,3],true⟩,mO 19 2,⟨some 20,(lD 110 1),none,[],16,[12,14],false⟩,nC 21 20,fO 22 112 21 5,⟨some 23,(lD 23 22),none,[],19,[12,14],false⟩,⟨some 24,(.call { callee:=(.value (xT 19)),args:=#[(xT 23)],argTypes:=#[23] }),none,[],20,[0,3],true⟩,mO 25 2,⟨some 26,(lD 110 1),none,[],22,[12,14,20],false⟩,nC 27 26,fO 28 112 27 6,⟨some 29,(lD 23 28),none,[],25,[12,14,20],false⟩,⟨some 30,(.call { callee:=(.value (xT 25)),args:=#[(xT 29)],argTypes:=#[23] }),none,[],26,[0,3],false⟩,oO 31 (cL 58 #[(xT 7),(xT 16),(xT 18),(xT 24),(xT 30)] #[66,49,25,25,25])] [1]))))))) (.keep [1] (.reg [lO 81 110 1,lS 82 110 1 1,nC 83 81,fO 84 112 83 5,⟨none,(.store 23 (xT 84) nS),none,[],4,[1],false⟩,nC 85 82,fO 86 112 85 6,oS (.store 23 (xT 86) nS)] [])))
theorem M9:Ca Tryz.prog 87 87 [] IE:=AJ Tryz.func87
def C4:CC:=sR [bX 4 91 1 [2],bX 5 91 2 [3]] [0,4,5] (sR [mO 8 0,nC 9 8,fO 10 112 9 2,fO 11 25 10 2,lS 12 23 11 4,mO 13 0,nC 14 13,fO 15 112 14 3,lS 16 3 15 8,iO 17 23 12 16,lS 18 25 17 10,⟨some 6,(.alloc 25),none,[4],11,[4,8,10],false⟩,sT 25 6 18] [0,4,5,6] (sR [mO 19 0,nC 20 19,fO 21 112 20 1,lO 22 49 21,mO 23 0,nC 24 23,fO 25 112 24 3,lO 26 3 25,oO 27 (cL 84 #[(xT 22),(nI 0),(xT 26)] #[49,3,3]),aO 7 27] [0,4,5,6,7] (sR [mO 28 0,nC 29 28,fO 30 112 29 3,lO 31 3 30,bQ .add 32 3 31 1 3,nC 33 28,fO 34 112 33 3,sT 3 34 32] [0,4,5,6,7] (.block 0 (sR [fO 57 91 4 0,lO 58 3 57,bQ .eql 59 3 58 1 3,mO 60 59,fG 61 91 5 0 60 true,lG 62 3 61 60 true,oG 63 (.binOp .eql 3 (xT 62) (nI 3) 3) 60 true,pF 64 60 63,aO 56 64] [0,4,5,6,7,56] (cD 56 (.reg [mO 65 0,nC 66 65,fO 67 112 66 4,lS 68 23 67 3,mO 69 0,nC 70 69,fO 71 112 70 0,lS 72 66 71 7,mO 73 7,lS 74 25 6 9,oO 75 (.build 25 #[]),fO 76 91 5 3,lS 77 30 76 12,lS 78 25 6 13,⟨some 79,(cL 54 #[(xT 77),(xT 78)] #[30,25]),none,[],14,[3,7,9],true⟩,⟨some 80,(cL 58 #[(xT 72),(xT 73),(xT 74),(xT 75),(xT 79)] #[66,49,25,25,25]),none,[],15,[3],true⟩,bN 81 68 23,⟨some 82,(.buildSlice 23 1 #[(0,(.const (.agg #[(.int .i64 0),(.slice none 0 0),(.slice none 0 0)])))]),none,[],17,[3,7,9,12,13,14,15],false⟩,aP 83 68 82 23 23 [5],iO 84 23 83 81,⟨none,(.store 25 (xT 84) (xT 80)),none,[],20,[],true⟩,nC 85 65,fO 86 112 85 4,⟨none,(.store 23 (xT 86) (xT 83)),none,[],23,[20],false⟩] []) (sR [fO 88 91 4 0,lO 89 3 88,bQ .eql 90 3 89 3 3,mO 91 90,fG 92 91 5 0 91 true,lG 93 3 92 91 true,oG 94 (.binOp .eql 3 (xT 93) (nI 1) 3) 91 true,pF 95 91 94,aO 87 95] [0,4,5,6,7,87] (cD 87 (.reg [mO 96 0,nC 97 96,fO 98 112 97 4,lS 99 23 98 3,mO 100 0,nC 101 100,fO 102 112 101 0,lS 103 66 102 7,mO 104 7,lS 105 25 6 9,fO 106 91 4 3,lS 107 30 106 11,lS 108 25 6 12,⟨some 109,(cL 54 #[(xT 107),(xT 108)] #[30,25]),none,[],13,[3,7,9],true⟩,oO 110 (.build 25 #[]),⟨some 111,(cL 58 #[(xT 103),(xT 104),(xT 105),(xT 109),(xT 110)] #[66,49,25,25,25]),none,[],15,[3],true⟩,bN 112 99 23,⟨some 113,(.buildSlice 23 1 #[(0,(.const (.agg #[(.int .i64 0),(.slice none 0 0),(.slice none 0 0)])))]),none,[],17,[3,7,9,11,12,13,15],false⟩,aP 114 99 113 23 23 [6],iO 115 23 114 112,⟨none,(.store 25 (xT 115) (xT 111)),none,[],20,[],true⟩,nC 116 96,fO 117 112 116 4,⟨none,(.store 23 (xT 117) (xT 114)),none,[],23,[20],false⟩] []) (sR [fO 119 91 4 0,lO 120 3 119,bQ .eql 121 3 120 1 3,mO 122 121,fG 123 91 5 0 122 false,lG 124 3 123 122 false,oG 125 (.binOp .eql 3 (xT 124) (nI 1) 3) 122 false,pT 126 122 125,aO 118 126] [0,4,5,6,7,118] (cD 118 (.skip) (.reg [mO 35 0,nC 36 35,fO 37 112 36 4,lS 38 23 37 3,mO 39 0,nC 40 39,fO 41 112 40 0,lS 42 66 41 7,mO 43 7,lS 44 25 6 9,fO 45 91 4 3,lS 46 30 45 11,fO 47 91 5 3,lS 48 30 47 13,⟨some 49,(cL 34 #[(xT 42),(xT 43),(xT 44),(xT 46),(xT 48)] #[66,49,25,30,30]),none,[],14,[3],true⟩,bN 50 38 23,⟨some 51,(.buildSlice 23 1 #[(0,(.const (.agg #[(.int .i64 0),(.slice none 0 0),(.slice none 0 0)])))]),none,[],16,[3,7,9,11,13,14],false⟩,aP 52 38 51 23 23 [7],iO 53 23 52 50,⟨none,(.store 25 (xT 53) (xT 49)),none,[],19,[],true⟩,nC 54 35,fO 55 112 54 4,⟨none,(.store 23 (xT 55) (xT 52)),none,[],22,[19],false⟩] [])))))))))))
theorem Eo:Ca Tryz.prog 88 127 [] C4:=AJ Tryz.func88
def CN:CC:=sR [bB .lss 49 3 48 47 3] [7,10,11,15,29,30,31,47,48,49] (.seq (cD 49 (.skip) (.exit 3)) (.keep [7,10,11,15,29,30,31,47,48] (.seq (.block 4 (.reg [mO 50 11,fO 51 117 15 1,lO 52 91 51,fO 53 117 15 2,lO 54 91 53,cE 55 88 50 52 54 110 91 91] [7,10,11,15,29,30,31,47,48])) (.reg [bQ .add 56 3 48 1 3,mO 48 56] [7,10,11,15,29,30,31,47,48]))))
def Bv:CC:=sR [bB .lss 32 3 31 30 3] [7,10,11,29,30,31,32] (.seq (cD 32 (.skip) (.exit 0)) (.keep [7,10,11,29,30,31] (.seq (.block 1 (sR [iO 33 113 29 31,lO 34 117 33,aL 15 117 [6],sT 117 15 34] [7,10,11,15,29,30,31] (sR [fO 35 117 15 0,lO 36 3 35] [7,10,11,15,29,30,31,36] (.block 2 (sR [bQ .eql 58 3 36 1 3,aO 57 58] [7,10,11,15,29,30,31,36,57] (cD 57 (.reg [mO 59 11,mO 60 11,nC 61 60,fO 62 112 61 5,lO 63 23 62,fO 64 117 15 1,fO 65 91 64 2,lO 66 23 65,aP 67 63 66 23 23 [7],nC 68 59,fO 69 112 68 5,sT 23 69 67] [7,10,11,29,30,31]) (sR [bQ .eql 71 3 36 2 3,aO 70 71] [7,10,11,15,29,30,31,70] (cD 70 (.reg [mO 72 11,mO 73 11,nC 74 73,fO 75 112 74 6,lO 76 23 75,fO 77 117 15 2,fO 78 91 77 2,lO 79 23 78,aP 80 76 79 23 23 [8],nC 81 72,fO 82 112 81 6,sT 23 82 80] [7,10,11,29,30,31]) (sR [mO 37 11,cA 38 87 37 110] [7,10,11,15,29,30,31] (sR [fO 39 117 15 1,fO 40 91 39 1,lO 41 3 40,fO 42 117 15 1,fO 43 91 42 2,lO 44 23 43,bN 45 44 23,bB .add 46 3 41 45 3,oO 47 (bC .max #[(xT 46),(nI 1)] #[3,3]),oO 48 (.move (nI 0))] [7,10,11,15,29,30,31,47,48] (.block 3 (.loop CN)))))))))))) (.keep [7,10,11,29,30,31] (.reg [bQ .add 83 3 31 1 3,mO 31 83] [7,10,11,29,30,31]))))) 
def GV:CC:=sR [bX 7 25 2 [1],bX 8 30 3 [2],bX 9 30 4 [3],aL 10 25 [4]] [0,1,7,8,9,10] (sR [mO 16 0,mO 17 1,lO 18 25 7,oO 19 (.build 112 #[(0,(xT 16)),(1,(xT 17)),(2,(xT 18))]),bX 20 112 19 [5],aO 11 20] [7,8,9,10,11] (sR [fO 22 30 8 6,lO 23 28 22,fO 24 30 9 6,lO 25 28 24,cB 26 86 23 25 28 28,mO 21 26,xO 27 21 0,xO 28 21 1,aO 12 27,aO 13 28] [7,10,11,12] (sQ [mO 29 12,bN 30 29 113,oO 31 (.move (nI 0))] [7,10,11,29,30,31] (.block 0 (.loop Bv)) [7,10,11] (.stop (sR [mO 84 11,cA 85 87 84 110] [7,10,11] (sR [fO 86 25 7 0,lO 87 3 86,mO 88 11,nC 89 88,fO 90 112 89 4,lO 91 23 90,oO 92 (.build 25 #[(0,(xT 87)),(2,(xT 91))]),sT 25 10 92] [10] (.ret)))))))
theorem KK:Ca Tryz.prog 56 93 [(.cell 10 25)] GV:=AJ Tryz.func56
def IQ:CC:=sR [bX 3 25 0 [0],bX 4 30 1 [1],bX 5 30 2 [2],aL 6 25 [3],aN 7,aB 8 false] [3,4,5,6] (sR [lO 16 30 4,lO 17 25 3,cB 18 25 16 17 30 25,mO 15 18,xO 19 15 0,xO 20 15 1,aL 9 25 [4],sT 25 9 19,aO 10 20] [3,4,5,6,10] (sR [lO 22 30 5,lO 23 25 3,cB 24 25 22 23 30 25,mO 21 24,xO 25 21 0,xO 26 21 1,aL 11 25 [5],sT 25 11 25,aO 12 26] [3,4,5,6,10,12] (sQ [mO 27 10,oO 28 (.unOp .not 4 (xT 27)),mO 29 28,mG 30 12 29 false,oG 31 (.unOp .not 4 (xT 30)) 29 false,pT 32 29 31] [3,4,5,6,32] (cD 32 (sR [oO 33 (.build 25 #[]),sT 25 6 33,aN 7,aB 8 false] [6,7,8] (.ret)) (.skip)) [3,4,5,6] (sR [oO 34 (.build 68 #[]),bX 35 68 34 [6],aO 13 35] [3,4,5,6,13] (.stop (sR [mO 36 13,lO 37 25 3,lO 38 30 4,lO 39 30 5,oO 40 (cL 34 #[(xT 36),nS,(xT 37),(xT 38),(xT 39)] #[66,49,25,30,30]),aL 14 25 [7],sT 25 14 40] [6,13,14] (sR [lO 41 25 14,⟨some 42,(cL 35 #[(xT 41)] #[25]),none,[],1,[],true⟩,mO 43 13,nC 44 43,fO 45 68 44 0,⟨some 46,(lD 35 45),none,[],5,[1],true⟩,⟨none,(.store 25 (xT 6) (xT 42)),none,[],6,[5],false⟩,aO 7 46,aB 8 true] [6,7,8] (.ret))))))))
theorem LK:Ca Tryz.prog 14 47 [(.cell 6 25),(.tmp 7),(.tmp 8)] IQ:=AJ Tryz.func14
def LD:CC:=sR [bX 4 25 0 [0],bX 5 25 1 [1],bX 6 25 2 [2],aL 8 25 [3],aN 9] [3,4,5,6,8] (sR [lS 14 25 4 0,⟨some 15,(cL 35 #[(xT 14)] #[25]),none,[],1,[],true⟩,⟨some 16,(lD 25 4),none,[],2,[1],true⟩,⟨some 17,(lD 25 5),none,[],3,[1],true⟩,mO 18 3,⟨some 19,(cL 24 #[(xT 16),(xT 17),(xT 18)] #[25,25,3]),none,[],5,[],true⟩,⟨some 20,(lD 25 4),none,[],6,[1,5],true⟩,⟨some 21,(lD 25 6),none,[],7,[1,5],true⟩,mO 22 3,⟨some 23,(cL 24 #[(xT 20),(xT 21),(xT 22)] #[25,25,3]),none,[],9,[],true⟩,⟨some 24,(cL 14 #[(xT 15),(xT 19),(xT 23)] #[25,30,30]),none,[],10,[],true⟩,mO 13 24,xO 25 13 0,xO 26 13 1,xO 27 13 2,⟨some 10,(.alloc 25),none,[4],15,[0,1,2,3,5,6,7,9,10],false⟩,sT 25 10 25,aO 11 26,aO 12 27] [8,10,11] (sR [lO 28 25 10,mO 29 11,sT 25 8 28,aO 9 29] [8,9] (.ret)))
theorem RU:Ca Tryz.prog 19 30 [(.cell 8 25),(.tmp 9)] LD:=AJ Tryz.func19
end Go.Proofs.YtlaapfplenlfaaaGreat
namespace Go.G
open Go
theorem W4 {P:Program} {f:FuncId} {n:Nat} {rs:List ResultVar} {cc:CC} {as':Nat→Nat→List A} {F F':Od} {x:Nat→Nat→A} (t:Ca P f n rs cc) (ha:(as' 0 1).length≤n) (h0:Si as') (h1:Tl x)
  (h:∀ w0 I0 M0 m0,(∀ r p b,2≤r→¬ M0 (r::p) b)→WPC (HY P w0 I0 M0 n m0) cc (Lr (HY P w0 I0 M0 n m0) rs 2 (x 0 1) (ov 0 (F'.B 0 1) (ov 1 (F'.C 0 1) (Ga [])))) ⟨Mw (as' 0 1),ov 0 (F.B 0 1) (ov 1 (F.C 0 1) (Ga []))⟩):KH P f as' F x F':=
 ⟨h0,h1,K3 t ha fun w0 I0 M0 m0 hM=>h w0 I0 M0 m0 fun r p b hr=>hM (r::p) b (by
  simp only[AW];rw[if_neg (by omega),if_neg (by omega)];rfl)⟩
end Go.G
namespace Go.Proofs.YtlaapfplenlfaaaGreat
open Go Go.G Go.Proofs Go.PL
def Aab (u:Nat) (cs:List A) (h:∀ x,x ∈ cs→Fq (fun _=>x)):Fam:=⟨fun _ p=>if p=[] then ⟨u,.cells cs⟩ else ⟨0,.none⟩,fun {g δ r r'} hg hd p=>by
  by_cases hp:p=[]
  ·rw[if_pos hp];exact Fam.cells_ren ((FamL.all h).ren hg hd)
  ·rw[if_neg hp];rfl,fun {D r} hD p=>by
  by_cases hp:p=[]
  ·rw[if_pos hp];exact(FamL.all h).refs hD
  ·rw[if_neg hp];trivial⟩
theorem FP (o:OP):Fq (fun _=>oX o):=I6 (cs:=iv o.kind::iv o.n::Bx o.l::eL o.e) rfl fun x hx=>by simp at hx;rcases hx with rfl | rfl | rfl | rfl | rfl | rfl | rfl | rfl | rfl | rfl | rfl | rfl | rfl | rfl<;>rfl
def Rs (v:Nat) (l:List OP) (al:Int):Fam:=Aab v [IW l,iv al] fun x hx=>by
 simp at hx;rcases hx with rfl | rfl
 ·exact BZ
 ·exact FV
@[simp] theorem Aby {v:Nat} {l:List OP} {al:Int} {r:Nat} {p:Nm}:(Rs v l al).F r p=if p=[] then ⟨v,.cells [IW l,iv al]⟩ else ⟨0,.none⟩:=rfl
def Pr (o:OP):Int:=if o.kind=3 then 1 else o.n+o.l.length
def rr (o:OP) (n:Nat):OP:=if o.kind=0 then .mk o.kind n o.l o.e else .mk o.kind o.n (o.l.take n) o.e
def dz (o:OP) (n:Nat):OP:=if o.kind=0 then .mk o.kind (o.n-n) o.l o.e else .mk o.kind o.n (o.l.drop n) o.e
def JZ (o:OP) (n:Nat):OP:=if Pr o≤n then o else rr o n
def Ly (o:OP) (n:Nat) (l:List OP):List OP:=if Pr o≤n then l else dz o n::l
def jO (al:Int):List OP→Bool
 |[]=>false
 |o::_=>decide (o.kind=al)
def Uo (x:OP):Prop:=Ht x∧(x.kind=1∨x.kind=2→x.l ≠ [])∧x.l.length≤1048576
theorem KT {x:OP} (h:Uo x):1≤Pr x∧Pr x≤2097152:=by
 obtain⟨h1,h2,h3⟩:=h;unfold Pr;rcases h1 with ⟨k,a,b,c⟩ | ⟨k,a⟩ | ⟨k,a⟩ | ⟨k,a,b⟩
 ·rw[if_neg (by omega),c];simp;omega
 ·have:=List.length_pos_iff.2 (h2 (.inl k));rw[if_neg (by omega)];omega
 ·have:=List.length_pos_iff.2 (h2 (.inr k));rw[if_neg (by omega)];omega
 ·rw[if_pos k];omega
theorem HM {o:OP} (h:Uo o):G.Spec Tryz.prog 166 [oX o] (iv (Pr o)):=by
 have hs:=KT h;refine Ag Uh (by simp) fun w0 I0=>?_;unfold Nx;by_cases h3:o.kind=3
 ·have:Pr o=1:=if_pos h3;rw[this];simp[h3];exact Ad rfl
 ·have e:Pr o=o.n+o.l.length:=if_neg h3;rw[e] at hs ⊢;have ew:i64.wrap (o.n+o.l.length)=o.n+o.l.length:=Hl;simp[h3,ew];exact Ad rfl
theorem HK (v:Nat) (l:List OP) (al:Int):SpecF Tryz.prog 167 (fun q=>[.pob [q] v 0]) (Rs v l al) (fun _=>bv l.isEmpty) (Rs v l al):=by
 refine BL Lv (by simp) (Ai AX Av) FV fun w0 I0 M0 m0=>?_;unfold G4;simp;refine A6 (r0:=bv l.isEmpty) ?_ rfl (fun p=>by simp);cases l<;>simp
theorem DH (v:Nat) (l:List OP) (al:Int):SpecF Tryz.prog 164 (fun q=>[.pob [q] v 0]) (Rs v l al) (fun _=>bv (jO al l)) (Rs v l al):=by
 refine BL J7 (by simp) (Ai AX Av) FV fun w0 I0 M0 m0=>?_;unfold Gd;have D:=HK v l al;cases l with
 |nil=>
  simp;refine Eu 0 D (fun p=>by simp) (by simp) (by simp) ?_;simp;exact A6 (r0:=bv false) (by simp) rfl (fun p=>by simp)
 |cons o l=>
  simp;refine Eu 0 D (fun p=>by simp) (by simp) (by simp) ?_;simp;exact A6 (r0:=bv (decide (o.kind=al))) (by simp) rfl (fun p=>by simp)
def q9 (x:Bool × OP):A:=.agg (iv x.2.kind::iv x.2.n :: .sl x.1 (x.2.l.map tA)::eL x.2.e)
@[simp] theorem rk (x:Bool × OP):(q9 x).cells=iv x.2.kind::iv x.2.n :: .sl x.1 (x.2.l.map tA)::eL x.2.e:=rfl
theorem ji (l:List OP):(l.map fun o=>((false,o):Bool × OP)).map q9=l.map oA:=by
 rw[List.map_map];exact List.map_congr_left fun o _=>by simp[q9]
theorem jH {H:Hp} {u n:Nat} {d:Nm} {l:List (Bool × OP)} (h:vr (H d) u=some (14,l.map q9)) (hn:n=l.length):Gy H (.osl d u 14 0 n) (IW (l.map Prod.snd)):=by
 have:=MJ (g:=fun x=>oA x.2) h hn (fun x _=>by
  obtain⟨b,o⟩:=x;simp[A.soft,A.softL,FK,D3,MD,QC,Rj,A.ones,A.bare])
 rw[show IW (l.map Prod.snd) = .sl false (l.map fun x=>oA x.2) from by rw[IW,List.map_map];rfl];exact this
abbrev Lw (o:OP):List A:=iv o.kind::iv o.n::Bx o.l::eL o.e
def RT:List A:=[iv 0,iv 0,.sl true [],iv 0,iv 0,.sl true [],.sl true [],iv 0,.sl true [],.sl true [],.sl true [],.sl true [],iv 0,.sl true []]
section
variable {v:Nat} {al:Int} {w0:World} {I0:Nat→Prop} {M0:Nm→Nat→Prop} {m0:Mu}
theorem bw {l:List OP} (hM:∀ (r:Nat) (p:List Nat) (b:Nat),1≤r→¬M0 (r::p) b) {o1 o2:OP} {b1 b2:Bool} {H:Hp} (h0:∀ p,p ≠ []→H (0::p)=⟨0,.none⟩) (h00:H [0]=⟨v,.cells [.osl [5] 2 14 0 (1+l.length),iv al]⟩)
  (h1:H [1]=⟨1,.cells (iv o1.kind::iv o1.n :: .sl b1 (o1.l.map tA)::eL o1.e)⟩) (h5:H [5]=⟨2,.arr 14 (q9 (b2,o2)::l.map oA)⟩) :
  Lr (HY Tryz.prog w0 I0 M0 62 m0) [ResultVar.cell 4 91] 1 (oX o1) (ov 0 ((Rs v (o2::l) al).F 0) (Ga [])) .ret ⟨lk [(4,.pob [1] 1 0)],H⟩:=by
 obtain⟨H2,g1,g2⟩:=HZ (c:=HY Tryz.prog w0 I0 M0 62 m0) (s:=lk [(4,.pob [1] 1 0)]) (H:=H) (fun r=>r=5) (fun r p b h=>hM r p b (by omega)) (r0:=0) (p0:=[]) (by omega) (u:=v) (cs:=[.osl [5] 2 14 0 (1+l.length),iv al]) h00 (cs':=[IW (o2::l),iv al]) (by simp[A.ones]) (fun H1 h1=>⟨by
  have e5:=h1 5 [] rfl;have:=jH (H:=H1) (u:=2) (n:=1+l.length) (d:=[5]) (l:=(b2,o2)::l.map fun o=>(false,o)) (by
   rw[e5,List.map_cons,ji,h5];simp) (by simp;omega)
  rw[show((b2,o2)::l.map fun o=>((false,o):Bool × OP)).map Prod.snd=o2::l from by simp[Function.comp_def]] at this;exact this,Ad rfl,trivial⟩)
 refine Hi g1 ?_;have k1:=g2 1 [] (by omega);rw[h1] at k1;obtain⟨H3,g3,g4⟩:=HZ (c:=HY Tryz.prog w0 I0 M0 62 m0) (s:=lk [(4,.pob [1] 1 0)]) (H:=Az H2 [0] ⟨v,.cells [IW (o2::l),iv al]⟩) (fun _=>False) (fun _ _ _ h=>h.elim) (r0:=1) (p0:=[]) (by simp) (u:=1) (cs:=iv o1.kind::iv o1.n :: .sl b1 (o1.l.map tA)::eL o1.e) (by simp[Aa,k1]) (cs':=Lw o1) (by simp[A.ones]) (fun H1 h1=>⟨Ad rfl,Ad rfl,Ah,K9 (by simp)⟩);refine Hi g3 (A6 (r0:=oX o1) (by simp[EC]) rfl fun p=>?_);have k2:=g4 0 p (by simp);by_cases hp:p=[]
 ·subst hp;simp[Aa,k2]
 ·have k3:=g2 0 p (by omega);rw[h0 p hp] at k3;simp[Aa,hp] at k2 ⊢;rw[k2,k3]
theorem Tp {o:OP} {l:List OP} (hl:l.length≤10000000) (hM:∀ (r:Nat) (p:List Nat) (b:Nat),1≤r→¬M0 (r::p) b) {o1 o2:OP} {b1 b2:Bool} {H:Hp} (h0:∀ p,H (0::p)=(Rs v (o::l) al).F 0 p) (h1:H [1]=⟨1,.cells RT⟩)
  (h3:H [3]=⟨1,.cells (iv o1.kind::iv o1.n :: .sl b1 (o1.l.map tA)::eL o1.e)⟩) (h4:H [4]=⟨1,.cells (iv o2.kind::iv o2.n :: .sl b2 (o2.l.map tA)::eL o2.e)⟩) (h5:H [5]=⟨0,.none⟩) :
  WPC (HY Tryz.prog w0 I0 M0 62 m0) EJ (Lr (HY Tryz.prog w0 I0 M0 62 m0) [ResultVar.cell 4 91] 1 (oX o1) (ov 0 ((Rs v (o2::l) al).F 0) (Ga []))) ⟨lk [(0,.pob [0] v 0),(4,.pob [1] 1 0),(6,.pob [3] 1 0),(7,.pob [4] 1 0)],H⟩:=by
 have c1':(1:Int)≤(l.length:Int)+1:=by omega
 have e00:H [0]=⟨v,.cells [IW (o::l),iv al]⟩:=by rw[h0];simp
 rw[EJ.eq_1];simp[h1,h3,h4,h5,e00,c1',Aa,RT];refine⟨by omega,?_⟩;refine bw hM (b1:=b1) (b2:=b2) (fun p hp=>?_) ?_ ?_ ?_
 ·have:=h0 p;simp[hp] at this;simp[Aa,hp,this]
 ·simp[Aa]
 ·simp[Aa]
 ·simp[Aa,q9,AN]
end
theorem Jx {o:OP} {l:List OP} (h:Uo o) (hl:l.length≤10000000) {n:Nat} (hn:1≤n) (v:Nat) (al:Int):SpecF Tryz.prog 165 (fun q=>[.pob [q] v 0,iv n]) (Rs v (o::l) al) (fun _=>oX (JZ o n)) (Rs v (Ly o n l) al):=by
 have S:=HM h;have hs:=KT h;refine I4 Ls (by simp) (Ai AX (Ai FV Av)) (FP _) fun w0 I0 M0 m0 hM=>?_;unfold G6;simp;refine Ae S (by simp) ?_;by_cases c:Pr o≤n
 ·have e1:JZ o n=o:=if_pos c;have e2:Ly o n l=l:=if_pos c;rw[e1,e2];have c1':(1:Int)≤(l.length:Int)+1:=by omega
  simp[c,c1',AN];refine A6 (r0:=oX o) (by simp[EC]) rfl fun p=>?_;by_cases hp:p=[]
  ·subst hp;simp[Aa]
  ·simp[Aa,hp]
 ·have e1:JZ o n=rr o n:=if_neg c;have e2:Ly o n l=dz o n::l:=if_neg c;have c0:=c;rw[e1,e2];unfold Pr at c;rcases h.1 with ⟨k,a,b,d⟩ | ⟨k,a⟩ | ⟨k,a⟩ | ⟨k,a,b⟩
  ·have ew:i64.wrap (o.n-n)=o.n-n:=Hl;have e3:rr o n = .mk o.kind n o.l o.e:=if_pos k;have e4:dz o n = .mk o.kind (o.n-n) o.l o.e:=if_pos k;simp[c0,k,ew];rw[e3,e4];exact Tp (o:=o) hl hM (o1:=.mk o.kind n o.l o.e) (o2:=.mk o.kind (o.n-n) o.l o.e) (b1:=false) (b2:=false) (fun p=>by simp) (by simp[RT]) (by simp[k]) (by simp[k]) (by simp)
  ·have e3:rr o n = .mk o.kind o.n (o.l.take n) o.e:=if_neg (by omega);have e4:dz o n = .mk o.kind o.n (o.l.drop n) o.e:=if_neg (by omega);rw[if_neg (by omega),a] at c;have c5:n≤o.l.length:=by omega
   have c6:(n:Int)≤o.l.length:=by omega
   have c7:Ch o.l.length none (some (iv n)) (some (iv n))=some (0,n,some n):=by simp[Ch,EB,c5,c6]
   have c8:List.take (o.l.length-n) (List.drop n (o.l.map tA))=(o.l.drop n).map tA:=by rw[List.map_drop];exact AN (by simp)
   have c9:List.take n (o.l.map tA)=(o.l.take n).map tA:=by rw[List.map_take]
   simp[c0,k,c5,c6,c7,c8,F7];rw[e3,e4,c9];exact Tp (o:=o) hl hM (o1:=.mk o.kind o.n (o.l.take n) o.e) (o2:=.mk o.kind o.n (o.l.drop n) o.e) (b1:=true) (b2:=false) (fun p=>by simp) (by simp[RT]) (by simp[k]) (by simp[k]) (by simp)
  ·have e3:rr o n = .mk o.kind o.n (o.l.take n) o.e:=if_neg (by omega);have e4:dz o n = .mk o.kind o.n (o.l.drop n) o.e:=if_neg (by omega);rw[if_neg (by omega),a] at c;have c5:n≤o.l.length:=by omega
   have c6:(n:Int)≤o.l.length:=by omega
   have c7:Ch o.l.length none (some (iv n)) (some (iv n))=some (0,n,some n):=by simp[Ch,EB,c5,c6]
   have c8:List.take (o.l.length-n) (List.drop n (o.l.map tA))=(o.l.drop n).map tA:=by rw[List.map_drop];exact AN (by simp)
   have c9:List.take n (o.l.map tA)=(o.l.take n).map tA:=by rw[List.map_take]
   simp[c0,k,c5,c6,c7,c8,F7];rw[e3,e4,c9];exact Tp (o:=o) hl hM (o1:=.mk o.kind o.n (o.l.take n) o.e) (o2:=.mk o.kind o.n (o.l.drop n) o.e) (b1:=true) (b2:=false) (fun p=>by simp) (by simp[RT]) (by simp[k]) (by simp[k]) (by simp)
  ·rw[if_pos k] at c;omega
inductive Pc where
 |a (o:OP)
 |b (o:OP)
 |both (o o':OP)
inductive YB:List OP→List OP→List Pc→Prop
 |nil:YB [] [] []
 |fst (p:OP) (ps qs:List OP) (l:List Pc) (h:p.kind=2) (g:YB ps qs l):YB (p::ps) qs (.a p::l)
 |snd (ps:List OP) (q:OP) (qs:List OP) (l:List Pc) (hp:jO 2 ps=false) (h:q.kind=2) (g:YB ps qs l):YB ps (q::qs) (.b q::l)
 |both (p:OP) (ps:List OP) (q:OP) (qs:List OP) (n:Nat) (l:List Pc) (hp:p.kind ≠ 2) (hq:q.kind ≠ 2) (hn:(n:Int)=min (Pr p) (Pr q)) (g:YB (Ly p n ps) (Ly q n qs) l):YB (p::ps) (q::qs) (.both (JZ p n) (JZ q n)::l)
def RG (R:E→T→T→Prop) (o:OP) (t:T):Prop:=(o.kind=0∧o.e=E0)∨(o.kind=1∧o.e=E0)∨(o.kind=3∧∃ x,R o.e t x)
def Lq (o:OP):Nat:=max (o.n.toNat+o.l.length) 1
def IU (o:OP):U:=if o.kind=0 then .keep else if o.kind=1 then .del T0 else .desc o.e
def JY:U→U→Prop
 |.keep,.keep=>True
 |.del _,.del _=>True
 |.desc e,.desc e'=>e=e'
 |_,_=>False
inductive LI (R:E→T→T→Prop):List Pc→List T→Prop
 |nil:LI R [] []
 |a (o:OP) (l:List Pc) (a:List T) (h:o.kind=2) (g:LI R l a):LI R (.a o::l) a
 |b (o:OP) (l:List Pc) (a:List T) (h:o.kind=2) (g:LI R l a):LI R (.b o::l) a
 |both (o o':OP) (l:List Pc) (a1 a2:List T) (hn:a1.length=Lq o) (hl:0≤o.n) (h:∀ t,t ∈ a1→RG R o t∧RG R o' t) (g:LI R l a2):LI R (.both o o'::l) (a1++a2)
noncomputable def Je (mg:Cw→T→E→E→T × List Cf) (at':Cw) (o o':OP):List T→Nat→List T × List Cf
 |[],n=>([],[])
 |k::ks,n=>((Bz mg (at'++[(0,(n:Int))]) k (IU o) (IU o')).1++(Je mg at' o o' ks (n+1)).1,(Bz mg (at'++[(0,(n:Int))]) k (IU o) (IU o')).2++(Je mg at' o o' ks (n+1)).2)
noncomputable def run (mg:Cw→T→E→E→T × List Cf) (at':Cw) (kind:Int):List Pc→List T→List T→List T→Nat→List T × List Cf
 |[],mine,hers,ks,n=>Eb at' kind n mine hers
 |.a o::l,mine,hers,ks,n=>run mg at' kind l (mine++o.l) hers ks n
 |.b o::l,mine,hers,ks,n=>run mg at' kind l mine (hers++o.l) ks n
 |.both o o'::l,mine,hers,ks,n=>
  ((Eb at' kind n mine hers).1++((Je mg at' o o' (ks.take (Lq o)) n).1++(run mg at' kind l [] [] (ks.drop (Lq o)) (n+Lq o)).1),
   (Eb at' kind n mine hers).2++((Je mg at' o o' (ks.take (Lq o)) n).2++(run mg at' kind l [] [] (ks.drop (Lq o)) (n+Lq o)).2))
def Ss:List U→Prop
 |.ins _::_=>False
 |_=>True
theorem CV {l:List T} {us:List U} (h:Ss us):Ey (l.map .ins++us)=l∧Dy (l.map .ins++us)=us:=by
 induction l with
 |nil=>
  cases us with
  |nil=>exact⟨rfl,rfl⟩
  |cons u us=>cases u<;>first | exact⟨rfl,rfl⟩ | exact h.elim
 |cons x l ih=>exact⟨by rw[List.map_cons,List.cons_append,Ey,ih.1],by rw[List.map_cons,List.cons_append,Dy,ih.2]⟩
section
variable {mg:Cw→T→E→E→T × List Cf} {at':Cw} {kind:Int}
theorem Qk (n:Nat):Eb at' kind n [] []=([],[]):=by simp[Eb]
theorem jl {us vs:List U} (hu:Ss us) (hv:Ss vs) (mine hers:List T):∀ (ks:List T) (n:Nat),Hj mg at' kind ks (mine.map .ins++us) (hers.map .ins++vs) n=((Eb at' kind n mine hers).1++(Hj mg at' kind ks us vs n).1,(Eb at' kind n mine hers).2++(Hj mg at' kind ks us vs n).2)
 |[],n=>by
  have e1:=CV (l:=mine) hu;have e2:=CV (l:=hers) hv;have e3:=CV (l:=[]) hu;have e4:=CV (l:=[]) hv;simp only[List.map_nil,List.nil_append] at e3 e4;simp only[Hj,e1,e2,e3,e4,Qk,List.append_nil]
 |k::ks,n=>by
  have e1:=CV (l:=mine) hu;have e2:=CV (l:=hers) hv;have e3:=CV (l:=[]) hu;have e4:=CV (l:=[]) hv;simp only[List.map_nil,List.nil_append] at e3 e4;simp only[Hj,e1,e2,e3,e4,Qk,List.nil_append]
theorem WJ (k:T) (a:Cw) {u u' v v':U} (h1:JY u u') (h2:JY v v'):Bz mg a k u v=Bz mg a k u' v':=by
 cases u<;>cases u'<;>first | exact h1.elim | skip
 all_goals cases v<;>cases v'<;>first | exact h2.elim | skip
 all_goals simp only[JY] at h1 h2
 all_goals first | rfl | (subst h1;subst h2;rfl) | (subst h1;rfl) | (subst h2;rfl)
theorem JC {u u':U} (h:JY u u') (us:List U):Ss (u::us):=by
 cases u<;>first | trivial | (cases u'<;>exact h.elim)
theorem Sn {o o':OP} {us2 vs2:List U}:∀ (ks1 ks2:List T) (us1 vs1:List U) (n:Nat),us1.length=ks1.length→vs1.length=ks1.length→(∀ u,u ∈ us1→JY u (IU o))→(∀ u,u ∈ vs1→JY u (IU o')) →
  Hj mg at' kind (ks1++ks2) (us1++us2) (vs1++vs2) n=((Je mg at' o o' ks1 n).1++(Hj mg at' kind ks2 us2 vs2 (n+ks1.length)).1,(Je mg at' o o' ks1 n).2++(Hj mg at' kind ks2 us2 vs2 (n+ks1.length)).2)
 |[],ks2,us1,vs1,n,h1,h2,_,_=>by
  rw[List.eq_nil_of_length_eq_zero h1,List.eq_nil_of_length_eq_zero h2];simp[Je]
 |k::ks1,ks2,[],vs1,n,h1,h2,_,_=>by simp at h1
 |k::ks1,ks2,u::us1,[],n,h1,h2,_,_=>by simp at h2
 |k::ks1,ks2,u::us1,v::vs1,n,h1,h2,h3,h4=>by
  have ih:=Sn (us2:=us2) (vs2:=vs2) (o:=o) (o':=o') ks1 ks2 us1 vs1 (n+1) (by simpa using h1) (by simpa using h2) (fun u hu=>h3 u (List.mem_cons_of_mem _ hu)) (fun u hu=>h4 u (List.mem_cons_of_mem _ hu));have e3:=CV (l:=[]) (JC (h3 u (by simp)) (us1++us2));have e4:=CV (l:=[]) (JC (h4 v (by simp)) (vs1++vs2));simp only[List.map_nil,List.nil_append] at e3 e4;have eu:Bz mg (at'++[(0,(n:Int))]) k u v=Bz mg (at'++[(0,(n:Int))]) k (IU o) (IU o'):=WJ k _ (h3 u (by simp)) (h4 v (by simp));simp only[List.cons_append,Hj,e3,e4,Qk,List.nil_append,Wm,List.tail_cons,ih,Je,eu,List.length_cons,List.append_assoc];rw[show n+1+ks1.length=n+(ks1.length+1) from by omega]
end
theorem PK (l:List T):Ja (.mk 1 0 l E0)=l.map .del:=by simp[Ja]
theorem bm {R:E→T→T→Prop} {p:OP} {ps:List OP} {a x:List T} (h:LdO R (p::ps) a x) (hp:p.kind ≠ 2) {n:Nat} (h1:1≤n) (hn:(n:Int)≤Pr p) :
  ∃ a1 a2 x2,a=a1++a2∧a1.length=n∧LdO R (Ly p n ps) a2 x2∧(∀ t,t ∈ a1→RG R (JZ p n) t)∧Lq (JZ p n)=n∧0≤(JZ p n).n∧En (p::ps)=Ja (JZ p n)++En (Ly p n ps)∧(Ja (JZ p n)).length=n∧∀ u,u ∈ Ja (JZ p n)→JY u (IU (JZ p n)):=by
 cases h with
 |@keep _ a b l m hne hl g=>
  have hs:Pr (.mk 0 (l.length:Nat) [] E0)=(l.length:Int):=by simp[Pr]
  rw[hs] at hn;have hll:l.length=m.length:=by simpa using congrArg List.length hl
  by_cases c:(l.length:Int)≤n
  ·have e:n=l.length:=by omega
   have e1:JZ (.mk 0 (l.length:Nat) [] E0) n = .mk 0 (l.length:Nat) [] E0:=by unfold JZ;rw[if_pos (by rw[hs];exact c)]
   have e2:Ly (.mk 0 (l.length:Nat) [] E0) n ps=ps:=by unfold Ly;rw[if_pos (by rw[hs];exact c)]
   rw[e1,e2];refine⟨l,a,b,rfl,e.symm,g,fun t _=>.inl ⟨rfl,rfl⟩,by simp[Lq];omega,by simp,by rw[CA],by simp[Ja,e],fun u hu=>?_⟩;simp[Ja] at hu;rw[hu.2];simp[IU,JY]
  ·have e1:JZ (.mk 0 (l.length:Nat) [] E0) n = .mk 0 n [] E0:=by unfold JZ;rw[if_neg (by rw[hs];exact c)];rfl
   have e2:Ly (.mk 0 (l.length:Nat) [] E0) n ps = .mk 0 ((l.drop n).length:Nat) [] E0::ps:=by
    unfold Ly;rw[if_neg (by rw[hs];exact c)];simp[dz];omega
   rw[e1,e2];refine⟨l.take n,l.drop n++a,m.drop n++b,by rw[← List.append_assoc,List.take_append_drop],by simp;omega,.keep _ _ (fun h=>by have:=congrArg List.length h;simp at this;omega) (by rw[List.map_drop,List.map_drop,hl]) g,fun t _=>.inl ⟨rfl,rfl⟩,by simp[Lq];omega,by simp,?_,by simp[Ja],fun u hu=>?_⟩
   ·rw[CA,CA,← List.append_assoc];simp[Ja];omega
   ·simp[Ja] at hu;rw[hu.2];simp[IU,JY]
 |@del _ a b l m hne hl g=>
  have hs:Pr (.mk 1 0 l E0)=(l.length:Int):=by simp[Pr]
  rw[hs] at hn;have hll:l.length=m.length:=by simpa using congrArg List.length hl
  by_cases c:(l.length:Int)≤n
  ·have e:n=l.length:=by omega
   have e1:JZ (.mk 1 0 l E0) n = .mk 1 0 l E0:=by unfold JZ;rw[if_pos (by rw[hs];exact c)]
   have e2:Ly (.mk 1 0 l E0) n ps=ps:=by unfold Ly;rw[if_pos (by rw[hs];exact c)]
   rw[e1,e2];refine⟨m,a,x,rfl,by omega,g,fun t _=>.inr (.inl ⟨rfl,rfl⟩),by simp[Lq];omega,by simp,by rw[CA],by simp[Ja,e],fun u hu=>?_⟩;simp[Ja] at hu;obtain⟨t,_,rfl⟩:=hu;simp[IU,JY]
  ·have e1:JZ (.mk 1 0 l E0) n = .mk 1 0 (l.take n) E0:=by unfold JZ;rw[if_neg (by rw[hs];exact c)];rfl
   have e2:Ly (.mk 1 0 l E0) n ps = .mk 1 0 (l.drop n) E0::ps:=by unfold Ly;rw[if_neg (by rw[hs];exact c)];rfl
   rw[e1,e2];refine⟨m.take n,m.drop n++a,x,by rw[← List.append_assoc,List.take_append_drop],by simp;omega,.del _ _ (fun h=>by have:=congrArg List.length h;simp at this;omega) (by rw[List.map_drop,List.map_drop,hl]) g,fun t _=>.inr (.inl ⟨rfl,rfl⟩),by simp[Lq];omega,by simp,?_,by simp[Ja];omega,fun u hu=>?_⟩
   ·rw[CA,CA,← List.append_assoc];rw[PK,PK,PK,← List.map_append,List.take_append_drop]
   ·rw[PK] at hu;obtain⟨t,_,rfl⟩:=List.mem_map.1 hu;simp[IU,JY]
 |ins l m hne hl g=>exact absurd rfl hp
 |@desc _ a b e x y r g=>
  have hs:Pr (.mk 3 0 [] e)=1:=by simp[Pr]
  rw[hs] at hn;have en:n=1:=by omega
  subst en;have e1:JZ (.mk 3 0 [] e) 1 = .mk 3 0 [] e:=by unfold JZ;rw[if_pos (by rw[hs];decide)]
  have e2:Ly (.mk 3 0 [] e) 1 ps=ps:=by unfold Ly;rw[if_pos (by rw[hs];decide)]
  rw[e1,e2];refine⟨[x],a,b,rfl,rfl,g,fun t ht=>.inr (.inr ⟨rfl,y,?_⟩),by simp[Lq],by simp,by rw[CA],by simp[Ja],fun u hu=>?_⟩
  ·rw[List.mem_singleton.1 ht];exact r
  ·simp[Ja] at hu;rw[hu];simp[IU,JY]
theorem Yg {R:E→T→T→Prop} {q:OP} {qs:List OP} {y:List T} (h:LdO R (q::qs) [] y):q.kind=2:=by
 generalize ha:([]:List T)=a at h;cases h with
 |keep l m hne hl g=>exact absurd (List.append_eq_nil_iff.1 ha.symm).1 hne
 |del l m hne hl g=>
  have:=(List.append_eq_nil_iff.1 ha.symm).1;subst this;exact absurd (by simpa using hl) hne
 |ins l m hne hl g=>rfl
 |desc e x y r g=>cases ha
theorem PD (p:OP) (n:Nat) (ps:List OP):(Ly p n ps).length≤ps.length+1:=by unfold Ly;split<;>simp
theorem oT {o:OP} (h:Uo o) {n:Nat} (c:¬ Pr o≤n):Uo (dz o n):=by
 obtain⟨h1,h2,h3⟩:=h;unfold Pr at c;unfold dz;rcases h1 with ⟨k,a,b,d⟩ | ⟨k,a⟩ | ⟨k,a⟩ | ⟨k,a,b⟩
 ·rw[if_neg (by omega),d] at c;simp at c;rw[if_pos k];exact⟨.inl ⟨k,by simp;omega,by simp;omega,d⟩,fun h=>by simp[k] at h,h3⟩
 ·rw[if_neg (by omega),a] at c;rw[if_neg (by omega)];exact⟨.inr (.inl ⟨k,a⟩),fun _ h=>by have:=congrArg List.length h;simp at this;omega,by simp;omega⟩
 ·rw[if_neg (by omega),a] at c;rw[if_neg (by omega)];exact⟨.inr (.inr (.inl ⟨k,a⟩)),fun _ h=>by have:=congrArg List.length h;simp at this;omega,by simp;omega⟩
 ·rw[if_pos k] at c;rw[if_neg (by omega)];exact⟨.inr (.inr (.inr ⟨k,a,by simp[b]⟩)),fun h=>by simp[k] at h,by simp;omega⟩
theorem TX {p:OP} {ps:List OP} (h:∀ o,o ∈ p::ps→Uo o) (n:Nat):∀ o,o ∈ Ly p n ps→Uo o:=by
 intro o ho;unfold Ly at ho;split at ho
 ·exact h o (List.mem_cons_of_mem _ ho)
 ·rename_i c;rcases List.mem_cons.1 ho with rfl | ho
  ·exact oT (h p (by simp)) c
  ·exact h o (List.mem_cons_of_mem _ ho)
theorem lM {R:E→T→T→Prop}:∀ (N:Nat) (ps qs:List OP) (a x y:List T),LdO R ps a x→LdO R qs a y→(∀ o,o ∈ ps→Uo o)→(∀ o,o ∈ qs→Uo o)→ps.length+qs.length+2*a.length≤N →
  ∃ l,YB ps qs l∧l.length≤N∧LI R l a∧∀ (mg:Cw→T→E→E→T × List Cf) (at':Cw) (kind:Int) (mine hers:List T) (n:Nat),run mg at' kind l mine hers a n=Hj mg at' kind a (mine.map .ins++En ps) (hers.map .ins++En qs) n:=by
 intro N;induction N with
 |zero=>
  intro ps qs a x y hp hq _ _ hN;have e1:=List.eq_nil_of_length_eq_zero (show ps.length=0 by omega);have e2:=List.eq_nil_of_length_eq_zero (show qs.length=0 by omega);have e3:=List.eq_nil_of_length_eq_zero (show a.length=0 by omega);subst e1;subst e2;subst e3;refine⟨[],.nil,by simp,.nil,fun mg at' kind mine hers n=>?_⟩;have i1:=CV (l:=mine) (us:=[]) trivial;have i2:=CV (l:=hers) (us:=[]) trivial;simp only[List.append_nil] at i1 i2;simp[run,Hj,En,i1,i2]
 |succ N ih=>
  intro ps qs a x y hp hq gp gq hN;cases ps with
  |nil=>
   have ha:a=[]:=by cases hp;rfl
   cases qs with
   |nil=>
    subst ha;refine⟨[],.nil,by simp,.nil,fun mg at' kind mine hers n=>?_⟩;have i1:=CV (l:=mine) (us:=[]) trivial;have i2:=CV (l:=hers) (us:=[]) trivial;simp only[List.append_nil] at i1 i2;simp[run,Hj,En,i1,i2]
   |cons q qs=>
    have k:q.kind=2:=Yg (by rw[ha] at hq;exact hq);cases hq with
    |keep l m hne hl g=>simp at k
    |del l m hne hl g=>simp at k
    |desc e x y r g=>simp at k
    |ins l m hne hl g=>
     obtain⟨r,k1,k2,k3,k4⟩:=ih [] qs a x _ hp g gp (fun o h=>gq o (List.mem_cons_of_mem _ h)) (by simp at hN ⊢; omega);refine⟨.b (.mk 2 0 l E0)::r,.snd _ _ _ _ rfl rfl k1,by simp;omega,.b _ _ _ rfl k3,fun mg at' kind mine hers n=>?_⟩;rw[run,k4,CA];simp[Ja]
  |cons p ps=>
   by_cases c:p.kind=2
   ·cases hp with
    |keep l m hne hl g=>simp at c
    |del l m hne hl g=>simp at c
    |desc e x y r g=>simp at c
    |ins l m hne hl g=>
     obtain⟨r,k1,k2,k3,k4⟩:=ih ps qs a _ y g hq (fun o h=>gp o (List.mem_cons_of_mem _ h)) gq (by simp at hN ⊢; omega);refine⟨.a (.mk 2 0 l E0)::r,.fst _ _ _ _ rfl k1,by simp;omega,.a _ _ _ rfl k3,fun mg at' kind mine hers n=>?_⟩;rw[run,k4,CA];simp[Ja]
   ·cases qs with
    |nil=>
     have ha:a=[]:=by cases hq;rfl
     subst ha;exact absurd (Yg hp) c
    |cons q qs=>
     by_cases d:q.kind=2
     ·cases hq with
      |keep l m hne hl g=>simp at d
      |del l m hne hl g=>simp at d
      |desc e x y r g=>simp at d
      |ins l m hne hl g=>
       obtain⟨r,k1,k2,k3,k4⟩:=ih (p::ps) qs a x _ hp g gp (fun o h=>gq o (List.mem_cons_of_mem _ h)) (by simp at hN ⊢; omega);refine⟨.b (.mk 2 0 l E0)::r,.snd _ _ _ _ (decide_eq_false c) rfl k1,by simp;omega,.b _ _ _ rfl k3,fun mg at' kind mine hers n=>?_⟩;rw[run,k4,CA (.mk 2 0 l E0)];simp[Ja]
     ·have s1:=KT (gp p (by simp));have s2:=KT (gq q (by simp));obtain⟨n,hn⟩:=Int.eq_ofNat_of_zero_le (show 0≤min (Pr p) (Pr q) by omega);obtain⟨a1,a2,x2,rfl,u1,u2,u3,u4,u5,u6,u7,u8'⟩:=bm hp c (n:=n) (by omega) (by omega);obtain⟨b1,b2,y2,e,v1,v2,v3,v4,v5,v6,v7,v8⟩:=bm hq d (n:=n) (by omega) (by omega);obtain⟨rfl,rfl⟩:=List.append_inj e (by omega);have l1:=PD p n ps;have l2:=PD q n qs;obtain⟨r,k1,k2,k3,k4⟩:=ih (Ly p n ps) (Ly q n qs) a2 x2 y2 u2 v2 (TX gp n) (TX gq n) (by simp at hN ⊢; omega);refine⟨.both (JZ p n) (JZ q n)::r,.both _ _ _ _ n _ c d hn.symm k1,by simp at hN ⊢; omega,.both _ _ _ _ _ (by omega) u5 (fun t ht=>⟨u3 t ht,v3 t ht⟩) k3,fun mg at' kind mine hers m=>?_⟩;have eN1:Ss (Ja (JZ p n)++En (Ly p n ps)):=by
       cases e1:Ja (JZ p n) with
       |nil=>rw[e1] at u7;simp at u7;omega
       |cons u us=>exact JC (u8' u (by rw[e1];simp)) _
      have eN2:Ss (Ja (JZ q n)++En (Ly q n qs)):=by
       cases e1:Ja (JZ q n) with
       |nil=>rw[e1] at v7;simp at v7;omega
       |cons u us=>exact JC (v8 u (by rw[e1];simp)) _
      rw[u6,v6,jl eN1 eN2,Sn (o:=JZ p n) (o':=JZ q n) a1 a2 _ _ _ (by omega) (by omega) u8' v8];have k4':=k4 mg at' kind [] [] (m+n);simp only[List.map_nil,List.nil_append] at k4';rw[run,u4,List.take_left' u1,List.drop_left' u1,k4',u1]
theorem Me {d:Nat} (h:d ≠ 0):BG d E0=true:=by
 unfold E0;exact rightE_iff.2 ⟨h,by omega,by omega,fun _=>⟨rfl,rfl⟩,fun _=>⟨rfl,rfl⟩,fun _=>⟨rfl,rfl⟩,fun h=>absurd h (by decide),rfl,by simp,fun h=>absurd h (by decide),by simp,by simp[AB]⟩
theorem II {e:E} {a u:T} (h:Rh e a u):G.Spec Tryz.prog 25 [eX e,tX a] (.tup [tX (Af u),bv true]):=by
 refine Ag Ny (by simp) fun w0 I0=>?_;unfold JH;simp;refine Ae h.2 (by simp) ?_;simp;refine Ae (CB u h.1) (by simp) ?_;have e1:tX (Af u) = .agg [iv u.kind,CQ (Af u).words,Bx (Af u).kids]:=by
  show A.agg [iv (Af u).kind,CQ (Af u).words,Bx (Af u).kids]=_;rw[Hx]
 simp;rw[e1];exact An ⟨Ad (by simp),Ad rfl,trivial⟩
abbrev sB (s:Int × Int):List A:=[iv s.1,iv s.2]
def Lo (s:Int × Int):A:=.agg (sB s)
@[simp] theorem Mv (s:Int × Int):(Lo s).cells=sB s:=rfl
abbrev A8 (l:Cw):A:=.sl false (l.map Lo)
@[simp] theorem x8 (l:Cw):CX 2 (l.map Lo)=true:=by
 rw[FH];intro x hx;obtain⟨y,_,rfl⟩:=List.mem_map.1 hx;rfl
abbrev Uj (t:T):List A:=[iv t.kind,CQ t.words,Bx t.kids]
abbrev qW (c:Cf):List A:=[A8 c.path,iv c.base.kind,CQ c.base.words,Bx c.base.kids,iv c.ours.kind,CQ c.ours.words,Bx c.ours.kids,iv c.theirs.kind,CQ c.theirs.words,Bx c.theirs.kids]
def RV (c:Cf):A:=.agg (qW c)
@[simp] theorem pR (c:Cf):(RV c).cells=qW c:=rfl
@[simp] theorem y8 (l:List Cf):CX 10 (l.map RV)=true:=by rw[FH];simp
abbrev G5 (l:List Cf):A:=.sl false (l.map RV)
def LY (v w:Nat) (C:List Cf):Fam:=⟨fun r p=>if p=[] then ⟨v,.cells [.osl [r,0] (w+C.length) 10 0 C.length]⟩ else if p=[0] then ⟨w+C.length,.arr 10 (C.map RV)⟩ else ⟨0,.none⟩,fun {γ δ r r'} hg hd p=>by
  by_cases h1:p=[]
  ·rw[if_pos h1,if_pos h1];refine Fam.cells_ren ?_;simp[A.renL,A.ren,hg,hd]
  ·rw[if_neg h1,if_neg h1];by_cases h2:p=[0]
   ·rw[if_pos h2];refine Fam.arr_ren ?_;simp only[C3,List.map_map];refine List.map_congr_left fun x _=>?_;simp[RV,A.ren,A.renL]
   ·rw[if_neg h2];rfl,fun {D r} hD p=>by
  by_cases h1:p=[]
  ·rw[if_pos h1];simp[Ob.refs,A.refsL,A.refs,hD]
  ·rw[if_neg h1];by_cases h2:p=[0]
   ·rw[if_pos h2];simp only[Ob.refs,refsL_iff];intro y hy;obtain⟨x,_,rfl⟩:=List.mem_map.1 hy;simp[RV,A.refs,A.refsL]
   ·rw[if_neg h2];trivial⟩
@[simp] theorem Abl {v w:Nat} {C:List Cf} {r:Nat} {p:Nm}:(LY v w C).F r p=if p=[] then ⟨v,.cells [.osl [r,0] (w+C.length) 10 0 C.length]⟩ else if p=[0] then ⟨w+C.length,.arr 10 (C.map RV)⟩ else ⟨0,.none⟩:=rfl
theorem Bl (t:T):Fq (fun _=>tX t):=I6 (cs:=Uj t) rfl fun x hx=>by simp at hx;rcases hx with rfl | rfl | rfl<;>rfl
theorem B6 (e:E):Fq (fun _=>eX e):=I6 (cs:=eL e) rfl fun x hx=>by simp at hx;rcases hx with rfl | rfl | rfl | rfl | rfl | rfl | rfl | rfl | rfl | rfl | rfl<;>rfl
theorem Hh (l:Cw) (k n:Int) (h:l.length≤1000000):G.Spec Tryz.prog 84 [A8 l,iv k,iv n] (A8 (l++[(k,n)])):=by
 refine Ag Ps (by simp) fun w0 I0=>?_;unfold J4;have c:Ch l.length none (some (iv l.length)) (some (iv l.length))=some (0,l.length,some l.length):=by simp[Ch,EB]
 simp[c,F7,AN];refine⟨by omega,?_⟩;have:=A3 (H:=Ga [([0],⟨1,.arr 2 ((l++[(k,n)]).map Lo)⟩)]) (o:=[0]) (u:=1) (n:=l.length+1) (sz:=2) (l:=l++[(k,n)]) (f:=Lo) (by simp) (by simp) (fun x=>by rw[Mv];rfl);simp[Lo] at this;rw[show A8 (l++[(k,n)]) = .sl false (l.map Lo++[.agg [iv k,iv n]]) from by rw[A8,List.map_append];rfl];exact this
theorem Kl (w:Int):G.Spec Tryz.prog 132 [uv w] (tX (AL w)):=by
 refine Ag Qh (by simp) fun w0 I0=>?_;unfold KW;simp;exact AE ⟨Ad rfl,Ah,Ah,trivial⟩
theorem ZZ {e:E} {t v:T} {b:Bool} (h:G.Spec Tryz.prog 25 [eX e,tX t] (.tup [tX v,bv b])):G.Spec Tryz.prog 54 [eX e,tX t] (tX v):=by
 refine Ag TW (by simp) fun w0 I0=>?_;unfold Nq;simp;refine Ae h (by simp) ?_;simp;exact Ad (by simp)
theorem V0 (l:Cw) (h:l.length≤1000000):G.Spec Tryz.prog 91 [A8 l] (A8 l):=by
 cases l with
 |nil=>
  refine(R7 (fun cap=>?_) (fun a cap=>?_)).spec
  ·refine Kz BS (by simp) fun w0 I0=>?_;unfold Bh;simp;exact Vj
  ·refine Kz BS (by simp) fun w0 I0=>?_;unfold Bh;simp;exact Qp (H:=Ga [([0],⟨1,.arr 2 []⟩)]) (o:=[0]) (u:=1) (off:=0) (len:=0) (sz:=2) (xs:=[]) (by simp) (by simp) (by simp)
 |cons x l=>
  refine Ag BS (by simp) fun w0 I0=>?_;unfold Bh;rw[List.length_cons] at h;simp[A8];refine⟨by omega,?_⟩;exact A3 (o:=[0]) (u:=1) (n:=l.length+1) (sz:=2) (l:=x::l) (f:=Lo) (by simp) (by simp) (fun x=>by rw[Mv];rfl)
abbrev tp (f:Bool) (t:T):A:=.agg [iv t.kind,.sl f (t.words.map uv),.sl f (t.kids.map tA)]
theorem YO (f:Bool) (t:T):Fq (fun _=>tp f t):=I6 (cs:=[iv t.kind,.sl f (t.words.map uv),.sl f (t.kids.map tA)]) rfl fun x hx=>by simp at hx;rcases hx with rfl | rfl | rfl<;>rfl
theorem Ku {l:Cw} {b o t:T} (f1 f2:Bool) (hl:l.length≤1000000) (wb:AD b) (wo:AD o) (wt:AD t) (v w:Nat) {C:List Cf} (hC:C.length≤100000000000) :
  SpecF Tryz.prog 58 (fun r=>[.pob [r] v 0,A8 l,tX b,tp f1 o,tp f2 t]) (LY v w C) (fun _=>tX b) (LY v w (C++[⟨l,Af b,Af o,Af t⟩])):=by
 have K:=V0 l hl;have N1:=CB b wb;have N2:G.Spec Tryz.prog 35 [tp f1 o] (tX (Af o)):=(CB o wo).soft (by simp[A.softL,A.soft,FK,D3]);have N3:G.Spec Tryz.prog 35 [tp f2 t] (tX (Af t)):=(CB t wt).soft (by simp[A.softL,A.soft,FK,D3]);refine I4 KD (by simp) (Ai AX (Ai BZ (Ai (Bl b) (Ai (YO f1 o) (Ai (YO f2 t) Av))))) (Bl b) fun w0 I0 M0 m0 hM=>?_;unfold GJ;simp;refine Ae K (by simp) ?_;simp;refine Ae N1 (by simp) ?_;simp;refine Ae N2 (by simp) ?_;simp;refine Ae N3 (by simp) ?_;simp[Aa];refine⟨by omega,?_⟩;refine A6 (r0:=tX b) (by simp[EC]) rfl fun p=>?_;by_cases h1:p=[]
 ·subst h1;simp[Aa];omega
 ·by_cases h2:p=[0]
  ·subst h2;simp[Aa,RV,AN];omega
  ·simp[Aa,h1,h2]
theorem Mg {l:Cw} {b o t:T} (hl:l.length≤1000000) (wb:AD b) (wo:AD o) (wt:AD t) (v w:Nat) {C:List Cf} (hC:C.length≤100000000000) :
  SpecF Tryz.prog 58 (fun r=>[.pob [r] v 0,A8 l,tX b,tX o,tX t]) (LY v w C) (fun _=>tX b) (LY v w (C++[⟨l,Af b,Af o,Af t⟩])):=Ku false false hl wb wo wt v w hC
variable {n0:Nat} {w0:World} {I0:Nat→Prop} {Q:Exit→Sta→Prop}
theorem jf {ks:List KE} (hl:ks.length≤10000000000000) {n:Nat}
  (hq:∀ (H':Hp) (st:List (Nat × A)),H' [0]=⟨1,.cells (BI)⟩→ks.find? (fun k=>decide (k.at_=(n:Int)))=none→Q (.exit 0) ⟨lk ([(1,iv n),(4,.pob [0] 1 0)]++st),H'⟩)
  (hr:∀ (H':Hp) (x:KE),ks.find? (fun k=>decide (k.at_=(n:Int)))=some x→H' [0]=⟨1,.cells (eL x.e)⟩→Q .ret ⟨lk [(4,.pob [0] 1 0)],H'⟩) :
  ∀ (j i:Nat) (H:Hp),i+j=ks.length→ks.find? (fun k=>decide (k.at_=(n:Int)))=(ks.drop i).find? (fun k=>decide (k.at_=(n:Int)))→H [0]=⟨1,.cells BI⟩ →
  LoopC (cx Tryz.prog w0 I0 n0) Hq Q ⟨lk [(1,iv n),(4,.pob [0] 1 0),(7,Ka ks),(8,iv ks.length),(9,iv i)],H⟩:=by
 intro j;induction j with
 |zero=>
  intro i H hj hf h0;have:i=ks.length:=by omega
  subst this;rw[List.drop_length] at hf;refine Ab Aj Hq.eq_1 ?_;simp;have:=hq H [(7,Ka ks),(8,iv ks.length),(9,iv ks.length),(10,bv false)] h0 hf;simpa using this
 |succ j ih=>
  intro i H hj hf h0;have hlt:i<ks.length:=by omega
  have ew:=AI i;have hd:ks.drop i=ks[i]::ks.drop (i+1):=(List.getElem_cons_drop hlt).symm;have next:=ih (i+1)
  rw[hd,List.find?_cons] at hf;generalize hx:ks[i]=x at *;refine Ab Aj Hq.eq_1 ?_;by_cases c:x.at_=(n:Int)
  ·rw[decide_eq_true c] at hf;simp[hlt,hx,Aa,c,h0,BI];exact hr _ x hf (by simp[Aa])
  ·rw[decide_eq_false c] at hf;simp[hlt,hx,Aa,c];rw[ew];exact next _ (by omega) hf (by simp[Aa,h0])
theorem Ra (H1:Hp):Ic H1 BI (eL E0):=by
 have hE:eL E0=[iv 0,iv 0,.sl false [],.sl false [],iv 0,.sl false [],.sl false [],.sl false [],.sl false [],iv 0,.sl false []]:=by simp[E0]
 rw[hE];exact⟨Ad rfl,Ad rfl,Ah,Ah,Ad rfl,Ah,Ah,Ah,Ah,Ad rfl,Ah,trivial⟩
theorem SP (ks:List KE) (hl:ks.length≤10000000000000) (n:Nat):G.Spec Tryz.prog 85 [Ka ks,iv n] (eX (CR ks n)):=by
 refine Ag Vq (by simp) fun w0 I0=>?_;unfold OT;simp;refine jf (n:=n) hl (fun H' st h0 hf=>?_) (fun H' x hf h0=>?_) ks.length 0 _ (by omega) (by simp) (by simp[BI])
 ·have:CR ks n=E0:=by unfold CR;rw[hf];rfl
  rw[this];simp[h0,BI];exact AE (Ra _)
 ·have:CR ks n=x.e:=by unfold CR;rw[hf];rfl
  rw[this];simp[h0];exact Ad (by simp)
def a6:Pc→A
 |.a o=>.agg (iv 1::(Lw o++RT))
 |.b o=>.agg (iv 2::(RT++Lw o))
 |.both o o'=>.agg (iv 0::(Lw o++Lw o'))
abbrev O0:OP:=.mk 0 0 [] E0
def mc:Pc→List A
 |.a o=>iv 1::(Lw o++Lw O0)
 |.b o=>iv 2::(Lw O0++Lw o)
 |.both o o'=>iv 0::(Lw o++Lw o')
def yg (x:Pc):A:=.agg (mc x)
@[simp] theorem rJ (x:Pc):(yg x).cells=mc x:=rfl
@[simp] theorem yF (x:Pc):(a6 x).cells.length=29:=by cases x<;>rfl
@[simp] theorem x9 (x:Pc):(mc x).length=29:=by cases x<;>rfl
@[simp] theorem tK (l:List Pc):CX 29 (l.map a6)=true:=by
 rw[FH];intro x hx;obtain⟨y,_,rfl⟩:=List.mem_map.1 hx;simp
@[simp] theorem zr (l:List Pc):CX 29 (l.map yg)=true:=by
 rw[FH];intro x hx;obtain⟨y,_,rfl⟩:=List.mem_map.1 hx;simp
abbrev ZP (l:List Pc):A:=.sl false (l.map yg)
section
variable {n0:Nat} {w0:World} {I0:Nat→Prop} {M0:Nm→Nat→Prop} {m0:Mu} {Q:Exit→Sta→Prop}
theorem iH {v v':Nat} {R:List Pc} (hR:R.length≤100000000)
  (hq:∀ (H':Hp) (u:Nat),(∀ p,H' (0::p)=(Rs v [] 2).F 0 p)→(∀ p,H' (1::p)=(Rs v' [] 2).F 1 p)→H' [2]=⟨u,.arr 29 (R.map a6)⟩→Q .ret ⟨lk [(4,.osl [2] u 29 0 R.length),(5,bv true)],H'⟩)
  {ps qs:List OP} {l:List Pc} (hT:YB ps qs l):(∀ o,o ∈ ps→Uo o)→(∀ o,o ∈ qs→Uo o)→ps.length≤1000000→qs.length≤1000000→∀ (X:List Pc) (u:Nat) (H:Hp),R=X++l→(∀ p,H (0::p)=(Rs v ps 2).F 0 p)→(∀ p,H (1::p)=(Rs v' qs 2).F 1 p)→H [2]=⟨u,.arr 29 (X.map a6)⟩ →
  LoopC (HY Tryz.prog w0 I0 M0 n0 m0) Ee Q ⟨lk [(0,.pob [0] v 0),(1,.pob [1] v' 0),(6,.osl [2] u 29 0 X.length)],H⟩:=by
 induction hT with
 |nil=>
  intro _ _ _ _ X u H hX h0 h1 h2;rw[List.append_nil] at hX;subst hX;have S1:=DH v [] 2;have S2:=DH v' [] 2;have D1:=HK v [] 2;have D2:=HK v' [] 2;refine Ab Aj Ee.eq_1 ?_;simp;refine Eu 0 S1 (fun p=>by simp[h0]) (by simp) (by simp) ?_;simp[jO];refine Eu 1 S2 (fun p=>by simp[h1]) (by simp) (by simp) ?_;simp[jO];refine Eu 0 D1 (fun p=>by simp[h0]) (by simp) (by simp) ?_;simp;refine AU rfl ?_;simp;refine Eu 0 D1 (fun p=>by simp[h0]) (by simp) (by simp) ?_;simp;refine Eu 1 D2 (fun p=>by simp[h1]) (by simp) (by simp) ?_;simp;exact hq H u (fun p=>by simp[h0]) (fun p=>by simp[h1]) h2
 |fst p ps qs l h g ih=>
  intro hp hq' lp lq X u H hX h0 h1 h2;have S1:=DH v (p::ps) 2;have Z:=HM (hp p (by simp));have z1:=KT (hp p (by simp));obtain⟨n,hn⟩:=Int.eq_ofNat_of_zero_le (show 0≤Pr p by omega);have T:=Jx (hp p (by simp)) (l:=ps) (by simp at lp;omega) (n:=n) (by omega) v 2;rw[show JZ p n=p from if_pos (by omega),show Ly p n ps=ps from if_pos (by omega)] at T;have h00:H [0]=⟨v,.cells [IW (p::ps),iv 2]⟩:=by rw[h0];simp
  have e1:jO 2 (p::ps)=true:=decide_eq_true h;have hl:R.length=X.length+1+l.length:=by rw[hX];simp;omega
  refine Ab Aj Ee.eq_1 ?_;simp;refine Eu 0 S1 (fun p=>by simp[h0]) (by simp) (by simp) ?_;simp[e1,h00];refine Ae Z (by simp) ?_;rw[hn];simp;refine Bp 0 T (fun p=>by simp[h0]) (by simp) (by simp) ?_;simp[h2];refine⟨by omega,?_⟩;have:=ih (fun o ho=>hp o (List.mem_cons_of_mem _ ho)) hq' (by simp at lp;omega) lq (X++[.a p]) (u+1) (ov 0 ((Rs v ps 2).F 0) (Az H [2] ⟨u+1,.arr 29 ((X++[Pc.a p]).map a6)⟩)) (by rw[hX];simp) (fun p=>by simp[Aa]) (fun p=>by simp[Aa,h1]) (by simp[Aa]);simpa[a6,RT,AN] using this
 |snd ps q qs l hp h g ih=>
  intro hp' hq' lp lq X u H hX h0 h1 h2;have S1:=DH v ps 2;have S2:=DH v' (q::qs) 2;have Z:=HM (hq' q (by simp));have z1:=KT (hq' q (by simp));obtain⟨n,hn⟩:=Int.eq_ofNat_of_zero_le (show 0≤Pr q by omega);have T:=Jx (hq' q (by simp)) (l:=qs) (by simp at lq;omega) (n:=n) (by omega) v' 2;rw[show JZ q n=q from if_pos (by omega),show Ly q n qs=qs from if_pos (by omega)] at T;have h10:H [1]=⟨v',.cells [IW (q::qs),iv 2]⟩:=by rw[h1];simp
  have e1:jO 2 (q::qs)=true:=decide_eq_true h;have hl:R.length=X.length+1+l.length:=by rw[hX];simp;omega
  refine Ab Aj Ee.eq_1 ?_;simp;refine Eu 0 S1 (fun p=>by simp[h0]) (by simp) (by simp) ?_;simp[hp];refine Eu 1 S2 (fun p=>by simp[h1]) (by simp) (by simp) ?_;simp[e1,h10];refine Ae Z (by simp) ?_;rw[hn];simp;refine Bp 1 T (fun p=>by simp[h1]) (by simp) (by simp) ?_;simp[h2];refine⟨by omega,?_⟩;have:=ih hp' (fun o ho=>hq' o (List.mem_cons_of_mem _ ho)) lp (by simp at lq;omega) (X++[.b q]) (u+1) (ov 1 ((Rs v' qs 2).F 1) (Az H [2] ⟨u+1,.arr 29 ((X++[Pc.b q]).map a6)⟩)) (by rw[hX];simp) (fun p=>by simp[Aa,h0]) (fun p=>by simp[Aa]) (by simp[Aa]);simpa[a6,RT,AN] using this
 |both p ps q qs n l hp hq hn g ih=>
  intro gp gq lp lq X u H hX h0 h1 h2;have S1:=DH v (p::ps) 2;have S2:=DH v' (q::qs) 2;have D1:=HK v (p::ps) 2;have D2:=HK v' (q::qs) 2;have Z1:=HM (gp p (by simp));have z1:=KT (gp p (by simp));have Z2:=HM (gq q (by simp));have z2:=KT (gq q (by simp));have T1:=Jx (gp p (by simp)) (l:=ps) (by simp at lp;omega) (n:=n) (by omega) v 2;have T2:=Jx (gq q (by simp)) (l:=qs) (by simp at lq;omega) (n:=n) (by omega) v' 2;have h00:H [0]=⟨v,.cells [IW (p::ps),iv 2]⟩:=by rw[h0];simp
  have h10:H [1]=⟨v',.cells [IW (q::qs),iv 2]⟩:=by rw[h1];simp
  refine Ab Aj Ee.eq_1 ?_;simp;refine Eu 0 S1 (fun p=>by simp[h0]) (by simp) (by simp) ?_;simp[jO,hp];refine Eu 1 S2 (fun p=>by simp[h1]) (by simp) (by simp) ?_;simp[jO,hq];refine Eu 0 D1 (fun p=>by simp[h0]) (by simp) (by simp) ?_;simp;rw[D8];simp;refine Eu 1 D2 (fun p=>by simp[h1]) (by simp) (by simp) ?_;simp[h00,h10];refine Ae Z1 (by simp) ?_;simp[h00,h10];refine Ae Z2 (by simp) ?_;simp[h00,h10,← hn];refine Bp 0 T1 (fun p=>by simp[h0]) (by simp) (by simp) ?_;simp;refine Bp 1 T2 (fun p=>by simp[h1]) (by simp) (by simp) ?_;simp[h2];have hl:R.length=X.length+1+l.length:=by rw[hX];simp;omega
  refine⟨by omega,?_⟩;have l1:=PD p n ps;have l2:=PD q n qs;have:=ih (TX gp n) (TX gq n) (by simp at lp;omega) (by simp at lq;omega) (X++[.both (JZ p n) (JZ q n)]) (u+1) (ov 1 ((Rs v' (Ly q n qs) 2).F 1) (ov 0 ((Rs v (Ly p n ps) 2).F 0) (Az H [2] ⟨u+1,.arr 29 ((X++[Pc.both (JZ p n) (JZ q n)]).map a6)⟩))) (by rw[hX];simp) (fun p=>by simp) (fun p=>by simp) (by simp[Aa]);simpa[a6,AN] using this
end
theorem i9 {H:Hp} {o:Nm} {u n:Nat} {l:List Pc} (h:vr (H o) u=some (29,l.map a6)) (hn:n=l.length):Gy H (.osl o u 29 0 n) (ZP l):=
 MJ (g:=yg) h hn fun x _=>by
  have hE:eL E0=[iv 0,iv 0,.sl false [],.sl false [],iv 0,.sl false [],.sl false [],.sl false [],.sl false [],iv 0,.sl false []]:=by simp[E0]
  cases x<;>simp[a6,mc,RT,A.soft,A.softL,FK,D3,MD,QC,Rj,A.ones,A.bare]
theorem XM {v v':Nat} {ps qs:List OP} {l:List Pc} (hT:YB ps qs l) (gp:∀ o,o ∈ ps→Uo o) (gq:∀ o,o ∈ qs→Uo o) (lp:ps.length≤1000000) (lq:qs.length≤1000000) (hl:l.length≤100000000) :
  KH Tryz.prog 133 (fun r q=>[.pob [r] v 0,.pob [q] v' 0]) ((Rs v ps 2).two (Rs v' qs 2)) (fun _ _=>.tup [ZP l,bv true]) ((Rs v [] 2).two (Rs v' [] 2)):=by
 refine W4 TY (by simp) (Be (Cy AX) (Be (Li AX) Gk)) (Cy (Ec (Ai BZ (Ai FV Av)))) fun w0 I0 M0 m0 hM=>?_;unfold MC;simp;refine LoopC.le (E6 6 [2] 29 (by simp)) ?_;refine LoopC.le (Ay [(0,.pob [0] v 0),(1,.pob [1] v' 0),(6,.osl [2] 1 29 0 ([]:List Pc).length)] (by simp[upd])) ?_;refine iH hl (fun H' u k0 k1 k2=>?_) hT gp gq lp lq [] 1 _ rfl (fun p=>by simp[Aa]) (fun p=>by simp[Aa]) (by simp[Aa]);obtain⟨H2,g1,g2⟩:=Rm (c:=HY Tryz.prog w0 I0 M0 78 m0) (s:=lk [(4,.osl [2] u 29 0 l.length),(5,bv true)]) (H:=H') (fun r=>r=2) (fun r p b hr=>hM r p b (by omega)) 4 (ZP l) (fun H1 e1=>by
  have e2:H1 [2]=H' [2]:=e1 2 [] rfl;simp;exact i9 (by rw[e2,k2];simp) rfl)
 refine Hi g1 (ZR (r0:=.tup [ZP l,bv true]) (by simp[upd,EC]) rfl (fun p=>?_) (fun p=>?_))
 ·exact(g2 0 p (by omega)).trans (k0 p)
 ·exact(g2 1 p (by omega)).trans (k1 p)
theorem RE {ps qs:List OP} {l:List Pc} (hT:YB ps qs l) (gp:∀ o,o ∈ ps→Uo o) (gq:∀ o,o ∈ qs→Uo o) (lp:ps.length≤1000000) (lq:qs.length≤1000000) (hl:l.length≤100000000) :
  G.Spec Tryz.prog 86 [IW ps,IW qs] (.tup [ZP l,bv true]):=by
 have P:=XM (v:=1) (v':=1) hT gp gq lp lq hl;refine Ag Px (by simp) fun w0 I0=>?_;unfold J1;simp;refine PO 0 1 (by decide) P (fun p=>?_) (fun p=>?_) (by simp) (by simp) ?_
 ·by_cases hp:p=[]
  ·subst hp;simp
  ·simp[hp,Ga,Ne.symm hp]
 ·by_cases hp:p=[]
  ·subst hp;simp
  ·simp[hp,Ga,Ne.symm hp]
 simp;exact An ⟨Ah,Ad rfl,trivial⟩
def gA (v:Nat) (X:List Int):Od:=⟨fun r q p=>if p=[] then ⟨1,.cells [.osl [q] v 1 0 X.length]⟩ else ⟨0,.none⟩,fun r q p=>if p=[] then ⟨v,.arr 1 (X.map uv)⟩ else ⟨0,.none⟩,fun {g δ r r' q q'} h1 h2 h3 h4 p=>by
  by_cases hp:p=[]
  ·subst hp;exact⟨Fam.cells_ren (by simp[A.renL,A.ren,h3,h4]),Fam.arr_ren (by simp only[C3,List.map_map];exact List.map_congr_left fun x _=>by simp[A.ren])⟩
  ·simp only[if_neg hp];exact⟨rfl,rfl⟩,fun {D r q} h1 h2 p=>by
  by_cases hp:p=[]
  ·subst hp;refine⟨by simp[Ob.refs,A.refsL,A.refs,h2],?_⟩;simp only[if_true,Ob.refs,refsL_iff];intro y hy;obtain⟨x,_,rfl⟩:=List.mem_map.1 hy;simp[A.refs]
  ·simp only[if_neg hp];exact⟨trivial,trivial⟩⟩
@[simp] theorem AbC {v:Nat} {X:List Int} {r q:Nat} {p:Nm}:(gA v X).B r q p=if p=[] then ⟨1,.cells [.osl [q] v 1 0 X.length]⟩ else ⟨0,.none⟩:=rfl
@[simp] theorem Abu {v:Nat} {X:List Int} {r q:Nat} {p:Nm}:(gA v X).C r q p=if p=[] then ⟨v,.arr 1 (X.map uv)⟩ else ⟨0,.none⟩:=rfl
theorem C5 {c:Cx} {rs:List ResultVar} {x:A} {F' N:Nm→VOb} {r0:A} {st:Sta} (h:EC c.P st rs=some r0) (he:r0=x) (hh:∀ p,st.H (0::p)=F' p) (hn:∀ p,st.H (1::p)=N p):Lr c rs 2 x (ov 0 F' (ov 1 N (Ga []))) .normal st:=
 OV h he fun i p hi=>by
  by_cases h0:i=0
  ·subst h0;rw[hh];simp
  ·have:i=1:=by omega
   subst this;rw[hn];simp
section
variable {n0:Nat} {w0:World} {I0:Nat→Prop} {M0:Nm→Nat→Prop} {m0:Mu} {Q:Exit→Sta→Prop}
theorem mY {X0:List Int} {i:Nat} {w:Int} {v:Nat} (hX:X0.length≤1000000) (hi:i≤1000000)
  (hq:∀ H':Hp,(∀ p,H' (0::p)=(gA (v+(i+1-X0.length)) (D5 X0 i)).B 0 1 p)→(∀ p,H' (1::p)=(gA (v+(i+1-X0.length)) (D5 X0 i)).C 0 1 p)→Q (.exit 0) ⟨lk [(0,iv i),(1,uv w),(2,.pob [0] 1 0),(8,bv false)],H'⟩) :
  ∀ (j n:Nat) (H:Hp),n+j=i+1-X0.length→(∀ p,H (0::p)=(gA (v+n) (X0++List.replicate n 0)).B 0 1 p)→(∀ p,H (1::p)=(gA (v+n) (X0++List.replicate n 0)).C 0 1 p) →
  LoopC (HY Tryz.prog w0 I0 M0 n0 m0) Cm Q ⟨lk [(0,iv i),(1,uv w),(2,.pob [0] 1 0)],H⟩:=by
 intro j;induction j with
 |zero=>
  intro n H hm h0 h1;have hp:D5 X0 i=X0++List.replicate n 0:=by unfold D5;rw[← hm];rfl
  have hc:¬ ((X0.length:Int)+n≤i):=by omega
  have h00:H [0]=⟨1,.cells [.osl [1] (v+n) 1 0 (X0.length+n)]⟩:=by rw[h0];simp
  refine Ab Aj Cm.eq_1 ?_;simp[h00,hc];rw[Nat.add_zero] at hm;rw[hp,← hm] at hq;exact hq H h0 h1
 |succ j ih=>
  intro n H hm h0 h1;have hc:(X0.length:Int)+n≤i:=by omega
  have h00:H [0]=⟨1,.cells [.osl [1] (v+n) 1 0 (X0.length+n)]⟩:=by rw[h0];simp
  have h10:H [1]=⟨v+n,.arr 1 ((X0++List.replicate n 0).map uv)⟩:=by rw[h1];simp
  refine Ab Aj Cm.eq_1 ?_;simp[h00,h10,hc,Aa];refine⟨by omega,?_⟩;refine ih (n+1) _ (by omega) (fun p=>?_) (fun p=>?_)
  ·by_cases hp:p=[]
   ·subst hp;simp[Aa];omega
   ·simp[Aa,hp,h0]
  ·by_cases hp:p=[]
   ·subst hp;simp[Aa,List.replicate_succ'];rw[AN (by simp)];simp;omega
   ·simp[Aa,hp,h1]
end
theorem eH {X:List Int} {i:Nat} {w:Int} {v:Nat} (hX:X.length≤1000000) (hi:i≤1000000):KH Tryz.prog 131 (fun r q=>[iv i,uv w,.pob [r] 1 0]) (gA v X) (fun _ _=>.tup []) (gA (v+(i+1-X.length)) ((D5 X i).set i w)):=by
 have hl:i<(D5 X i).length:=by rw[EF];omega
 have hl2:=EF X i;refine Hv Jy (by simp) (Be (Cy FV) (Be (Cy FV) (Be (Cy AX) Gk))) (Cy (Ec Av)) fun w0 I0 M0 m0=>?_;unfold FX;simp;refine LoopC.le (Ay [(0,iv i),(1,uv w),(2,.pob [0] 1 0)] (by simp)) ?_;refine mY (X0:=X) (i:=i) (v:=v) hX hi (fun H' h0 h1=>?_) (i+1-X.length) 0 _ (by omega) (fun p=>by simp) (fun p=>by simp);have h00:H' [0]=⟨1,.cells [.osl [1] (v+(i+1-X.length)) 1 0 (D5 X i).length]⟩:=by rw[h0];simp
 have h10:H' [1]=⟨v+(i+1-X.length),.arr 1 ((D5 X i).map uv)⟩:=by rw[h1];simp
 simp[h00,h10,hl];refine C5 rfl rfl (fun p=>?_) (fun p=>?_)
 ·simp[Aa,h0]
 ·by_cases hp:p=[]
  ·subst hp;simp[Aa,List.map_set]
  ·simp[Aa,hp,h1]
structure WdH (v w:Nat) (o:T) (C:List Cf) (u:Nat) (X:List Int) (H:Hp):Prop where
 f:∀ p,H (0::p)=(LY v w C).F 0 p
 o:H [1]=⟨1,.cells (Uj o)⟩
 b:∀ p,H (2::p)=(gA u X).B 2 15 p
 c:∀ p,H (15::p)=(gA u X).C 2 15 p
theorem WdH.put {v w u:Nat} {o:T} {C:List Cf} {X:List Int} {H:Hp} (h:WdH v w o C u X H) {d:Nm} (x:VOb) (h0:∀ p,d ≠ 0::p) (h1:d ≠ [1]) (h2:∀ p,d ≠ 2::p) (h3:∀ p,d ≠ 15::p):WdH v w o C u X (Az H d x):=
 ⟨fun p=>by rw[Ax (Ne.symm (h0 p))];exact h.f p,by rw[Ax (Ne.symm h1)];exact h.o,fun p=>by rw[Ax (Ne.symm (h2 p))];exact h.b p,fun p=>by rw[Ax (Ne.symm (h3 p))];exact h.c p⟩
theorem Cb {w:Int} (h:AA w):AD (AL w):=wfT_iff.2 ⟨by simp[Db,AL],fun x hx=>by simp[AL] at hx;subst hx;exact h,by simp[AL],by simp[AL],by simp[AL]⟩
abbrev jh (w:WE):List A:=[iv w.at_,u8 w.mask,uv w.old,uv w.new]
section
variable {n0:Nat} {w0:World} {I0:Nat→Prop} {M0:Nm→Nat→Prop} {m0:Mu} {K:Exit→Sta→Prop}
theorem fT {v w u u3 u4 i:Nat} {o:T} (wo:AD o) {C:List Cf} {X:List Int} {a b:WE} (ha:Rd a.mask) (hb:Rd b.mask) (na:AA a.new) (nb:AA b.new) {at':Cw} (hat:at'.length≤999999) (hi:i≤900000) (hX:X.length≤1000000) (hC:C.length≤100000000000) {ps qs:List WE} {H:Hp} (hH:WdH v w o C u X H) (h3:H [3]=⟨u3,.cells (jh a)⟩) (h4:H [4]=⟨u4,.cells (jh b)⟩)
  (k1:Ln a b=true→∀ H',WdH v w o (C++[⟨at'++[(1,(i:Int))],Af (AL (o.words.getD i 0)),Af (AL (AM (o.words.getD i 0) a.new a.mask)),Af (AL (AM (o.words.getD i 0) b.new b.mask))⟩]) u X H'→K (.exit 1) ⟨lk [(0,.pob [0] v 0),(1,A8 at'),(3,JJ ps),(4,JJ qs),(7,.pob [1] 1 0),(11,.pob [2] 1 0),(12,.fnc 131 [] [.pob [2] 1 0])],H'⟩)
  (k2:¬ Ln a b=true→∀ H',WdH v w o C (u+(i+1-X.length)) ((D5 X i).set i (AM (AM (o.words.getD i 0) a.new a.mask) b.new b.mask)) H'→K .normal ⟨lk [(0,.pob [0] v 0),(1,A8 at'),(3,JJ ps),(4,JJ qs),(7,.pob [1] 1 0),(11,.pob [2] 1 0),(12,.fnc 131 [] [.pob [2] 1 0])],H'⟩) :
  WPC (HY Tryz.prog w0 I0 M0 n0 m0) CF K ⟨lk [(0,.pob [0] v 0),(1,A8 at'),(3,JJ ps),(4,JJ qs),(7,.pob [1] 1 0),(11,.pob [2] 1 0),(12,.fnc 131 [] [.pob [2] 1 0]),(13,.pob [3] u3 0),(14,.pob [4] u4 0),(15,iv i)],H⟩:=by
 have z0:AA 0:=⟨by decide,by decide⟩;have hwo:AA (o.words.getD i 0):=Fa (wfT_iff.1 wo).w i;have W1:=C6 o i;have M1:=Dp (mask:=a.mask) hwo na ha.1 ha.2;have M2:=Dp (mask:=b.mask) hwo nb hb.1 hb.2;have hc:=VO ha hb;have M3:=Dp (mask:=Fu a.mask b.mask) z0 na hc.1 hc.2;have M4:=Dp (mask:=Fu a.mask b.mask) z0 nb hc.1 hc.2;have M5:=Dp (mask:=b.mask) (BX (o.words.getD i 0) a.new a.mask) nb hb.1 hb.2;have ho:=hH.o;generalize o.words.getD i 0=z at *;rw[CF.eq_1];simp[ho];refine Ae W1 (by simp) ?_;simp[h3,h4];refine Ae M1 (by simp) ?_;simp[h3,h4];refine Ae M2 (by simp) ?_;simp[h3,h4];rw[show bits .and .u8 a.mask b.mask=Fu a.mask b.mask from rfl];refine Ae M3 (by simp) ?_;simp[h3,h4];refine Ae M4 (by simp) ?_;by_cases c:Ln a b=true
 ·have cc:¬ AM 0 a.new (Fu a.mask b.mask)=AM 0 b.new (Fu a.mask b.mask):=by simpa[Ln] using c
  have F:=Hh at' 1 i (by omega);have S1:=Kl z;have S2:=Kl (AM z a.new a.mask);have S3:=Kl (AM z b.new b.mask);have CL:=Mg (l:=at'++[(1,(i:Int))]) (b:=AL z) (o:=AL (AM z a.new a.mask)) (t:=AL (AM z b.new b.mask)) (by simp;omega) (Cb hwo) (Cb (BX _ _ _)) (Cb (BX _ _ _)) v w hC;simp[cc];refine Ae F (by simp) ?_;simp;refine Ae S1 (by simp) ?_;simp;refine Ae S2 (by simp) ?_;simp;refine Ae S3 (by simp) ?_;simp;refine Bp 0 CL hH.f (by simp) (by simp) ?_;simp;exact k1 c _ ⟨fun p=>by simp,by simp[ho],fun p=>by simp[hH.b],fun p=>by simp[hH.c]⟩
 ·have cc:AM 0 a.new (Fu a.mask b.mask)=AM 0 b.new (Fu a.mask b.mask):=by simpa[Ln] using c
  have P:=eH (X:=X) (i:=i) (w:=AM (AM z a.new a.mask) b.new b.mask) (v:=u) hX (by omega);simp[cc,h4];refine Ae M5 (by simp) ?_;simp;refine eD 2 15 (fs:=[]) (caps:=[.pob [2] 1 0]) (by simp) (by decide) P hH.b hH.c (by simp) (by simp) ?_;simp;exact k2 c _ ⟨fun p=>by simp[hH.f],by simp[ho],fun p=>by simp,fun p=>by simp⟩
end
abbrev dW:WE:=⟨0,0,0,0⟩
theorem TC {a b:List Int} {p:Nat} {w:WE} {ws:List WE} (h:Kb a b p (w::ws)):∃ i:Nat,w.at_=i∧p≤i∧i<max a.length b.length∧Rd w.mask∧AA w.new∧Kb a b (i+1) ws:=by
 cases h with
 |cons _ i m o n ws hp h hi hm ho hn h1 h2 g=>exact⟨i,rfl,hp,hi,⟨Int.le_of_lt hm.1,hm.2⟩,by rw[← hn];exact BX _ _ _,g⟩
theorem Ii {w:WE} {ws:List WE} {i:Nat} (h:w.at_=i):B8 (w::ws) i=w:=by
 unfold B8;rw[List.find?_cons,decide_eq_true h];rfl
theorem Cs {w:WE} {ws:List WE} {i:Nat} (h:w.at_ ≠ i):B8 (w::ws) i=B8 ws i:=by
 unfold B8;rw[List.find?_cons,decide_eq_false h]
theorem C8 {a b:List Int} {p:Nat} {ws:List WE} (h:Kb a b p ws) {j:Nat} (hj:j<p):B8 ws j=dW:=by
 unfold B8;have hn:ws.find? (fun w=>decide (w.at_=(j:Int)))=none:=List.find?_eq_none.2 fun w hw=>by
  obtain⟨k,k1,k2,_⟩:=IL h w hw;simp;omega
 rw[hn];rfl
theorem Ol {z:Int} (h:AA z):Gb z dW dW=z:=by
 unfold Gb;rw[if_neg (by simp[Ln])];rw[Nl h,Nl h]
theorem Vs {a b:List Int} {p q:Nat} (h:Kb a b p []) (hq:p≤q):Kb a b q []:=by
 cases h with
 |nil _ h=>exact .nil q fun i hi=>h i (by omega)
theorem XT {a b:List Int} {p:Nat} {ws:List WE} (h:Kb a b p ws) (q:Nat) (hpq:p≤q) (hw:∀ z,z ∈ ws→(q:Int)≤z.at_):Kb a b q ws:=by
 cases h with
 |nil _ h=>exact .nil _ fun i hi=>h i (by omega)
 |cons _ i m o n ws hp h hi hm ho hn h1 h2 g=>
  have:=hw _ (List.mem_cons_self ..);have this:(q:Int)≤(i:Nat):=this;exact .cons _ i m o n ws (by omega) (fun j q1 q2=>h j (by omega) q2) hi hm ho hn h1 h2 g
structure gJ (o:List Int) (gp gq:Nat→WE) (n i0:Nat) (ps qs:List WE) (X:List Int):Prop where
 lp:∀ j,i0≤j→B8 ps j=gp j
 lq:∀ j,i0≤j→B8 qs j=gq j
 x1:∀ j,j<i0→X.getD j 0=Gb (o.getD j 0) (gp j) (gq j)
 x2:∀ j,i0≤j→X.getD j 0=o.getD j 0
 xu:∀ z,z ∈ X→AA z
 xl:X.length≤900000
def vK (o:List Int) (A B:WE) (i:Nat) (X:List Int):List Int:=if Ln A B=true then X else (D5 X i).set i (AM (AM (o.getD i 0) A.new A.mask) B.new B.mask)
theorem Zj {o:List Int} (ho:∀ x,x ∈ o→AA x) {gp gq:Nat→WE} {n i0 i:Nat} {ps qs ps' qs':List WE} {X:List Int} (h:gJ o gp gq n i0 ps qs X) (hi:i0≤i) (hn:i<900000) (e1:∀ j,i0≤j→j<i→gp j=dW) (e2:∀ j,i0≤j→j<i→gq j=dW)
  (lp:∀ j,i+1≤j→B8 ps' j=gp j) (lq:∀ j,i+1≤j→B8 qs' j=gq j):gJ o gp gq n (i+1) ps' qs' (vK o (gp i) (gq i) i X):=by
 have hl:i<(D5 X i).length:=by rw[EF];omega
 have hl2:=EF X i;have hxl:=h.xl;have gs:∀ z j,((D5 X i).set i z).getD j 0=if j=i then z else X.getD j 0:=fun z j=>by
  rw[Rl _ _ _ _ hl];unfold D5;rw[Qu]
 have low:∀ j,j<i→X.getD j 0=Gb (o.getD j 0) (gp j) (gq j):=fun j hj=>by
  by_cases c:j<i0
  ·exact h.x1 j c
  ·rw[h.x2 j (by omega),e1 j (by omega) hj,e2 j (by omega) hj,Ol (Fa ho j)]
 unfold vK;by_cases c:Ln (gp i) (gq i)=true
 ·rw[if_pos c];refine⟨lp,lq,fun j hj=>?_,fun j hj=>h.x2 j (by omega),h.xu,h.xl⟩;by_cases e:j=i
  ·subst e;rw[h.x2 j hi,Gb,if_pos c]
  ·exact low j (by omega)
 ·rw[if_neg c];refine⟨lp,lq,fun j hj=>?_,fun j hj=>?_,fun z hz=>?_,by rw[List.length_set];omega⟩
  ·rw[gs];by_cases e:j=i
   ·subst e;rw[if_pos rfl,Gb,if_neg c]
   ·rw[if_neg e];exact low j (by omega)
  ·rw[gs,if_neg (by omega)];exact h.x2 j (by omega)
  ·rcases List.mem_or_eq_of_mem_set hz with hz | rfl
   ·unfold D5 at hz;rcases List.mem_append.1 hz with hz | hz
    ·exact h.xu z hz
    ·rw[List.eq_of_mem_replicate hz];exact⟨by omega,by omega⟩
   ·exact BX _ _ _
def YU (at':Cw) (o:List Int) (gp gq:Nat→WE) (n i0:Nat):List Cf:=(List.range' i0 (n-i0)).flatMap fun j=>IX at' j (o.getD j 0) (gp j) (gq j)
theorem VH (i0 i n:Nat) (h1:i0≤i) (h2:i<n):List.range' i0 (n-i0)=List.range' i0 (i-i0)++i::List.range' (i+1) (n-(i+1)):=by
 have e:n-i0=(i-i0)+(1+(n-(i+1))):=by omega
 rw[e,← List.range'_append_1,show i0+(i-i0)=i from by omega,← List.range'_append_1];rfl
theorem Vl (at':Cw) (i:Nat) (z:Int):IX at' i z dW dW=[]:=by
 unfold IX;rw[if_neg (by simp[Ln])]
theorem bD (at':Cw) (o:List Int) {gp gq:Nat→WE} {n i0 i:Nat} (h1:i0≤i) (h2:i<n) (e1:∀ j,i0≤j→j<i→gp j=dW) (e2:∀ j,i0≤j→j<i→gq j=dW):YU at' o gp gq n i0=IX at' i (o.getD i 0) (gp i) (gq i)++YU at' o gp gq n (i+1):=by
 unfold YU;rw[VH i0 i n h1 h2,List.flatMap_append,List.flatMap_cons];have:(List.range' i0 (i-i0)).flatMap (fun j=>IX at' j (o.getD j 0) (gp j) (gq j))=[]:=List.flatMap_eq_nil_iff.2 fun j hj=>by
  obtain⟨k,k1,k2⟩:=List.mem_range'.1 hj;rw[e1 j (by omega) (by omega),e2 j (by omega) (by omega),Vl]
 rw[this,List.nil_append]
theorem jD (at':Cw) (o:List Int) {gp gq:Nat→WE} {n i0:Nat} (e1:∀ j,i0≤j→gp j=dW) (e2:∀ j,i0≤j→gq j=dW):YU at' o gp gq n i0=[]:=by
 unfold YU;exact List.flatMap_eq_nil_iff.2 fun j hj=>by
  obtain⟨k,k1,k2⟩:=List.mem_range'.1 hj;rw[e1 j (by omega),e2 j (by omega),Vl]
theorem da {o x y:List Int} {ot:T} (wo:AD ot) (ho:ot.words=o) {gp gq:Nat→WE} {n:Nat} (hn:n≤800000) {at':Cw} (hat:at'.length≤999999):∀ (N:Nat) (ps qs:List WE) (i0:Nat) (X:List Int),ps.length+qs.length≤N→N≤1000000000→Kb o x i0 ps→Kb o y i0 qs→(∀ z,z ∈ ps→z.at_<n)→(∀ z,z ∈ qs→z.at_<n)→gJ o gp gq n i0 ps qs X →
  ∃ X':List Int,(∀ j,X'.getD j 0=Gb (o.getD j 0) (gp j) (gq j))∧(∀ z,z ∈ X'→AA z)∧X'.length≤900000∧∀ {n0:Nat} {w0:World} {I0:Nat→Prop} {M0:Nm→Nat→Prop} {m0:Mu} (Q:Exit→Sta→Prop) (v w u:Nat) (C:List Cf) (H:Hp),C.length+(YU at' o gp gq n i0).length≤100000000000→WdH v w ot C u X H→(∀ (H':Hp) (u':Nat),WdH v w ot (C++YU at' o gp gq n i0) u' X' H'→Q (.exit 0) ⟨lk [(0,.pob [0] v 0),(1,A8 at'),(3,JJ []),(4,JJ []),(7,.pob [1] 1 0),(11,.pob [2] 1 0),(12,.fnc 131 [] [.pob [2] 1 0]),(31,bv false)],H'⟩) →
   LoopC (HY Tryz.prog w0 I0 M0 n0 m0) AF Q ⟨lk [(0,.pob [0] v 0),(1,A8 at'),(3,JJ ps),(4,JJ qs),(7,.pob [1] 1 0),(11,.pob [2] 1 0),(12,.fnc 131 [] [.pob [2] 1 0])],H⟩:=by
 have fin:∀ (i0:Nat) (X:List Int),gJ o gp gq n i0 [] [] X→∃ X':List Int,(∀ j,X'.getD j 0=Gb (o.getD j 0) (gp j) (gq j))∧(∀ z,z ∈ X'→AA z)∧X'.length≤900000∧∀ {n0:Nat} {w0:World} {I0:Nat→Prop} {M0:Nm→Nat→Prop} {m0:Mu} (Q:Exit→Sta→Prop) (v w u:Nat) (C:List Cf) (H:Hp),C.length+(YU at' o gp gq n i0).length≤100000000000→WdH v w ot C u X H→(∀ (H':Hp) (u':Nat),WdH v w ot (C++YU at' o gp gq n i0) u' X' H'→Q (.exit 0) ⟨lk [(0,.pob [0] v 0),(1,A8 at'),(3,JJ []),(4,JJ []),(7,.pob [1] 1 0),(11,.pob [2] 1 0),(12,.fnc 131 [] [.pob [2] 1 0]),(31,bv false)],H'⟩) →
   LoopC (HY Tryz.prog w0 I0 M0 n0 m0) AF Q ⟨lk [(0,.pob [0] v 0),(1,A8 at'),(3,JJ []),(4,JJ []),(7,.pob [1] 1 0),(11,.pob [2] 1 0),(12,.fnc 131 [] [.pob [2] 1 0])],H⟩:=fun i0 X hI=>by
  have d1:∀ j,i0≤j→gp j=dW:=fun j hj=>(hI.lp j hj).symm;have d2:∀ j,i0≤j→gq j=dW:=fun j hj=>(hI.lq j hj).symm;refine⟨X,fun j=>?_,hI.xu,hI.xl,fun {n0 w0 I0 M0 m0} Q v w u C H hC hH hq=>?_⟩
  ·by_cases c:j<i0
   ·exact hI.x1 j c
   ·rw[hI.x2 j (by omega),d1 j (by omega),d2 j (by omega),Ol (by rw[← ho];exact Fa (wfT_iff.1 wo).w j)]
  ·rw[jD at' o d1 d2,List.append_nil] at hq;refine Ab Aj AF.eq_1 ?_;simp;exact hq H u hH
 intro N;induction N with
 |zero=>
  intro ps qs i0 X hN _ hp hq _ _ hI;have e1:=List.eq_nil_of_length_eq_zero (show ps.length=0 by omega);have e2:=List.eq_nil_of_length_eq_zero (show qs.length=0 by omega);subst e1;subst e2;exact fin i0 X hI
 |succ N ih=>
  intro ps qs i0 X hN hN2 hp hq np nq hI;have hou:∀ x,x ∈ o→AA x:=by rw[← ho];exact(wfT_iff.1 wo).w
  have step:∀ (Aw Bw:WE) (i:Nat) (ps' qs':List WE),gp i=Aw→gq i=Bw→i0≤i→i<n→Rd Aw.mask→Rd Bw.mask→AA Aw.new→AA Bw.new→Kb o x (i+1) ps'→Kb o y (i+1) qs'→(∀ j,i+1≤j→B8 ps' j=gp j)→(∀ j,i+1≤j→B8 qs' j=gq j)→(∀ j,i0≤j→j<i→gp j=dW)→(∀ j,i0≤j→j<i→gq j=dW)→ps'.length+qs'.length≤N→(∀ z,z ∈ ps'→z.at_<n)→(∀ z,z ∈ qs'→z.at_<n) →
    ∃ X':List Int,(∀ j,X'.getD j 0=Gb (o.getD j 0) (gp j) (gq j))∧(∀ z,z ∈ X'→AA z)∧X'.length≤900000∧∀ {n0:Nat} {w0:World} {I0:Nat→Prop} {M0:Nm→Nat→Prop} {m0:Mu} (Q:Exit→Sta→Prop) (v w u u3 u4:Nat) (C:List Cf) (H:Hp),C.length+(YU at' o gp gq n i0).length≤100000000000→WdH v w ot C u X H→H [3]=⟨u3,.cells (jh Aw)⟩→H [4]=⟨u4,.cells (jh Bw)⟩→(∀ (H':Hp) (u':Nat),WdH v w ot (C++YU at' o gp gq n i0) u' X' H'→Q (.exit 0) ⟨lk [(0,.pob [0] v 0),(1,A8 at'),(3,JJ []),(4,JJ []),(7,.pob [1] 1 0),(11,.pob [2] 1 0),(12,.fnc 131 [] [.pob [2] 1 0]),(31,bv false)],H'⟩) →
     WPC (HY Tryz.prog w0 I0 M0 n0 m0) CF (Dg 1 (JW (LoopC (HY Tryz.prog w0 I0 M0 n0 m0) AF Q) Q)) ⟨lk [(0,.pob [0] v 0),(1,A8 at'),(3,JJ ps'),(4,JJ qs'),(7,.pob [1] 1 0),(11,.pob [2] 1 0),(12,.fnc 131 [] [.pob [2] 1 0]),(13,.pob [3] u3 0),(14,.pob [4] u4 0),(15,iv i)],H⟩:=fun Aw Bw i ps' qs' eA eB h1 h2 mA mB uA uB g1 g2 g3 g4 e1 e2 hl np' nq'=>by
   have hc:=bD at' o (gp:=gp) (gq:=gq) h1 h2 e1 e2;have hI2:=Zj hou hI h1 (by omega) e1 e2 g3 g4;rw[eA,eB] at hc hI2;obtain⟨X',f1,f2,f3,f4⟩:=ih ps' qs' (i+1) (vK o Aw Bw i X) hl (by omega) g1 g2 np' nq' hI2;refine⟨X',f1,f2,f3,fun {n0 w0 I0 M0 m0} Q v w u u3 u4 C H hC hH h3 h4 hq=>?_⟩;have xl:=hI.xl;rw[hc,← List.append_assoc] at hq;have hlen:C.length+(IX at' i (o.getD i 0) Aw Bw).length+(YU at' o gp gq n (i+1)).length≤100000000000:=by rw[hc,List.length_append] at hC;omega
   refine fT (a:=Aw) (b:=Bw) (i:=i) wo mA mB uA uB hat (by omega) (by omega) (by omega) hH h3 h4 (fun c H' hH'=>?_) (fun c H' hH'=>?_)
   ·have q1:IX at' i (o.getD i 0) Aw Bw=[⟨at'++[(1,(i:Int))],Af (AL (o.getD i 0)),Af (AL (AM (o.getD i 0) Aw.new Aw.mask)),Af (AL (AM (o.getD i 0) Bw.new Bw.mask))⟩]:=if_pos c;have q2:vK o Aw Bw i X=X:=if_pos c;rw[q2] at f4;rw[q1] at hq hlen;rw[ho] at hH';exact f4 Q v w _ _ H' (by rw[List.length_append];exact hlen) hH' hq
   ·have q1:IX at' i (o.getD i 0) Aw Bw=[]:=if_neg c;have q2:vK o Aw Bw i X=(D5 X i).set i (AM (AM (o.getD i 0) Aw.new Aw.mask) Bw.new Bw.mask):=if_neg c;rw[q2] at f4;rw[q1,List.append_nil] at hq;rw[q1] at hlen;rw[ho] at hH';exact f4 Q v w _ _ H' (by simpa using hlen) hH' hq
  cases ps with
  |nil=>
   cases qs with
   |nil=>exact fin i0 X hI
   |cons Bw qs=>
    obtain⟨i,h1,h2,h3,h4,h5,h6⟩:=TC hq;have hin:=nq Bw (by simp);obtain⟨X',f1,f2,f3,f4⟩:=step dW Bw i [] qs (by rw[← hI.lp i h2];rfl) (by rw[← hI.lq i h2,Ii h1]) h2 (by omega) ⟨by decide,by decide⟩ h4 ⟨by decide,by decide⟩ h5 (Vs hp (by omega)) h6 (fun j hj=>by rw[← hI.lp j (by omega)]) (fun j hj=>by rw[← hI.lq j (by omega),Cs (by omega)]) (fun j q1 q2=>by rw[← hI.lp j q1];rfl) (fun j q1 q2=>by rw[← hI.lq j q1,Cs (by omega),C8 h6 (by omega)]) (by simp at hN ⊢; omega) (fun z hz=>nomatch hz) (fun z hz=>nq z (List.mem_cons_of_mem _ hz));refine⟨X',f1,f2,f3,fun {n0 w0 I0 M0 m0} Q v w u C H hC hH hq=>?_⟩;have c1:¬ ((qs.length:Int)+1=0):=by omega
    have c2:(1:Int)≤(qs.length:Int)+1:=by omega
    have c3:List.take qs.length (qs.map wA)=qs.map wA:=AN (by simp);refine Ab Aj AF.eq_1 ?_;simp[h1,c1,c2,c3,Aa];exact f4 Q v w u _ _ C _ hC ((hH.put _ (by simp) (by simp) (by simp) (by simp)).put _ (by simp) (by simp) (by simp) (by simp)) (by simp[Aa]) (by simp[Aa,h1]) hq
  |cons Aw ps=>
   obtain⟨i,h1,h2,h3,h4,h5,h6⟩:=TC hp;have hin:=np Aw (by simp);have d1:¬ ((ps.length:Int)+1=0):=by omega
   have d2:(1:Int)≤(ps.length:Int)+1:=by omega
   have d3:List.take ps.length (ps.map wA)=ps.map wA:=AN (by simp);cases qs with
   |nil=>
    obtain⟨X',f1,f2,f3,f4⟩:=step Aw dW i ps [] (by rw[← hI.lp i h2,Ii h1]) (by rw[← hI.lq i h2];rfl) h2 (by omega) h4 ⟨by decide,by decide⟩ h5 ⟨by decide,by decide⟩ h6 (Vs hq (by omega)) (fun j hj=>by rw[← hI.lp j (by omega),Cs (by omega)]) (fun j hj=>by rw[← hI.lq j (by omega)]) (fun j q1 q2=>by rw[← hI.lp j q1,Cs (by omega),C8 h6 (by omega)]) (fun j q1 q2=>by rw[← hI.lq j q1];rfl) (by simp at hN ⊢; omega) (fun z hz=>np z (List.mem_cons_of_mem _ hz)) (fun z hz=>nomatch hz);refine⟨X',f1,f2,f3,fun {n0 w0 I0 M0 m0} Q v w u C H hC hH hq=>?_⟩;refine Ab Aj AF.eq_1 ?_;simp[h1,d1,d2,d3,Aa];exact f4 Q v w u _ _ C _ hC (((hH.put _ (by simp) (by simp) (by simp) (by simp)).put _ (by simp) (by simp) (by simp) (by simp)).put _ (by simp) (by simp) (by simp) (by simp)) (by simp[Aa,h1]) (by simp[Aa]) hq
   |cons Bw qs=>
    obtain⟨k,g1,g2,g3,g4,g5,g6⟩:=TC hq;have hkn:=nq Bw (by simp);have c1:¬ ((qs.length:Int)+1=0):=by omega
    have c2:(1:Int)≤(qs.length:Int)+1:=by omega
    have c3:List.take qs.length (qs.map wA)=qs.map wA:=AN (by simp);by_cases c:(i:Int)<k
    ·obtain⟨X',f1,f2,f3,f4⟩:=step Aw dW i ps (Bw::qs) (by rw[← hI.lp i h2,Ii h1]) (by rw[← hI.lq i h2,Cs (by omega),C8 g6 (by omega)]) h2 (by omega) h4 ⟨by decide,by decide⟩ h5 ⟨by decide,by decide⟩ h6 (XT hq (i+1) (by omega) (fun z hz=>by
      rcases List.mem_cons.1 hz with rfl | hz
      ·omega
      ·obtain⟨m,m1,m2,_⟩:=IL g6 z hz;omega)) (fun j hj=>by rw[← hI.lp j (by omega),Cs (by omega)]) (fun j hj=>by rw[← hI.lq j (by omega)]) (fun j q1 q2=>by rw[← hI.lp j q1,Cs (by omega),C8 h6 (by omega)]) (fun j q1 q2=>by rw[← hI.lq j q1,Cs (by omega),C8 g6 (by omega)]) (by simp at hN ⊢; omega) (fun z hz=>np z (List.mem_cons_of_mem _ hz)) nq
     refine⟨X',f1,f2,f3,fun {n0 w0 I0 M0 m0} Q v w u C H hC hH hq=>?_⟩;refine Ab Aj AF.eq_1 ?_;simp[h1,g1,c,Aa];simp[d1,d2,d3];exact f4 Q v w u _ _ C _ hC (((hH.put _ (by simp) (by simp) (by simp) (by simp)).put _ (by simp) (by simp) (by simp) (by simp)).put _ (by simp) (by simp) (by simp) (by simp)) (by simp[Aa,h1]) (by simp[Aa]) hq
    ·by_cases d:(k:Int)<i
     ·obtain⟨X',f1,f2,f3,f4⟩:=step dW Bw k (Aw::ps) qs (by rw[← hI.lp k g2,Cs (by omega),C8 h6 (by omega)]) (by rw[← hI.lq k g2,Ii g1]) g2 (by omega) ⟨by decide,by decide⟩ g4 ⟨by decide,by decide⟩ g5 (XT hp (k+1) (by omega) (fun z hz=>by
       rcases List.mem_cons.1 hz with rfl | hz
       ·omega
       ·obtain⟨m,m1,m2,_⟩:=IL h6 z hz;omega)) g6 (fun j hj=>by rw[← hI.lp j (by omega)]) (fun j hj=>by rw[← hI.lq j (by omega),Cs (by omega)]) (fun j q1 q2=>by rw[← hI.lp j q1,Cs (by omega),C8 h6 (by omega)]) (fun j q1 q2=>by rw[← hI.lq j q1,Cs (by omega),C8 g6 (by omega)]) (by simp at hN ⊢; omega) np (fun z hz=>nq z (List.mem_cons_of_mem _ hz))
      refine⟨X',f1,f2,f3,fun {n0 w0 I0 M0 m0} Q v w u C H hC hH hq=>?_⟩;refine Ab Aj AF.eq_1 ?_;simp[h1,g1,c,d,Aa];simp[c1,c2,c3,d1];exact f4 Q v w u _ _ C _ hC ((hH.put _ (by simp) (by simp) (by simp) (by simp)).put _ (by simp) (by simp) (by simp) (by simp)) (by simp[Aa]) (by simp[Aa,g1]) hq
     ·have e:k=i:=by omega
      subst e;obtain⟨X',f1,f2,f3,f4⟩:=step Aw Bw k ps qs (by rw[← hI.lp k h2,Ii h1]) (by rw[← hI.lq k g2,Ii g1]) g2 (by omega) h4 g4 h5 g5 h6 g6 (fun j hj=>by rw[← hI.lp j (by omega),Cs (by omega)]) (fun j hj=>by rw[← hI.lq j (by omega),Cs (by omega)]) (fun j q1 q2=>by rw[← hI.lp j q1,Cs (by omega),C8 h6 (by omega)]) (fun j q1 q2=>by rw[← hI.lq j q1,Cs (by omega),C8 g6 (by omega)]) (by simp at hN ⊢; omega) (fun z hz=>np z (List.mem_cons_of_mem _ hz)) (fun z hz=>nq z (List.mem_cons_of_mem _ hz));refine⟨X',f1,f2,f3,fun {n0 w0 I0 M0 m0} Q v w u C H hC hH hq=>?_⟩;refine Ab Aj AF.eq_1 ?_;simp[h1,g1,c,d,Aa];simp[c1,c2,c3,d1,d2,d3];exact f4 Q v w u _ _ C _ hC ((((hH.put _ (by simp) (by simp) (by simp) (by simp)).put _ (by simp) (by simp) (by simp) (by simp)).put _ (by simp) (by simp) (by simp) (by simp)).put _ (by simp) (by simp) (by simp) (by simp)) (by simp[Aa,h1]) (by simp[Aa,g1]) hq
theorem mD (k:Nat):Bg 0 k=0:=by simp[Bg]
theorem Xr {n m:Int} (hn:AA n) (h:FW n m=true):AM 0 n m=n:=by
 refine PU (BX _ _ _) hn fun k hk=>?_;rw[GX _ _ _ hk];by_cases c:Cq m k=true
 ·rw[if_pos c]
 ·rw[if_neg c,mD];unfold FW at h;have:=List.all_eq_true.1 h k (List.mem_range.2 hk);rw[Bool.or_eq_true,decide_eq_true_iff,decide_eq_true_iff] at this;rcases this with h1 | h1
  ·exact absurd (by simpa[Cq] using h1) c
  ·exact h1.symm
theorem fu {t o n m:Int} (ht:AA t) (ho:AM 0 t m=o):AM (AM t n m) o m=t:=by
 subst ho;refine PU (BX _ _ _) ht fun k hk=>?_;rw[GX _ _ _ hk,GX _ _ _ hk,GX _ _ _ hk];split<;>rfl
theorem EV {last:Int} {w:WE} {l:List WE} (h:BP last (w::l)=true):last<w.at_∧w.mask ≠ 0∧FW w.old w.mask=true∧FW w.new w.mask=true∧BP w.at_ l=true:=by
 rw[BP,Bool.and_eq_true] at h;obtain⟨h1,h2⟩:=h;unfold N0 at h1;simp at h1;exact⟨by omega,h1.1.1.2,h1.1.2,h1.2,h2⟩
theorem PM {tw:List Int} (ht:∀ x,x ∈ tw→AA x):∀ (m i:Nat) (ws:List WE) (W b:List Int) (last:Int),LS tw m i ws=some W→(∀ j,j<m→b.getD (i+j) 0=W.getD j 0)→b.length=i+m→tw.length≤i+m→BP last ws=true→last<i→(∀ w,w ∈ ws→w.at_<((i+m:Nat):Int)∧AA w.old∧AA w.new∧0≤w.mask∧w.mask<256)→(∀ w,w ∈ ws→(i:Int)≤w.at_)→Kb tw b i ws
 |0,i,ws,W,b,last,h,hb,hl,htl,hok,hlast,hat,hge=>by
  cases ws with
  |nil=>
   refine .nil i fun j hj=>?_;rw[List.getD_eq_getElem?_getD,List.getD_eq_getElem?_getD,List.getElem?_eq_none (by omega),List.getElem?_eq_none (by omega)]
  |cons w ws=>
   have h1:=(hat w (by simp)).1;have h2:=hge w (by simp);omega
 |m+1,i,[],W,b,last,h,hb,hl,htl,hok,hlast,hat,hge=>by
  rw[LS] at h;obtain⟨W',h1,rfl⟩:=Option.map_eq_some_iff.1 h;have L:=PM ht m (i+1) [] W' b last h1 (fun j hj=>by
   have:=hb (j+1) (by omega);rw[show i+(j+1)=i+1+j from by omega] at this;simpa using this) (by omega) (by omega) hok (by omega) (fun w hw=>by simp at hw) (fun w hw=>by simp at hw)
  cases L with
  |nil _ g=>
   refine .nil i fun j hj=>?_;by_cases e:j=i
   ·subst e;have:=hb 0 (by omega);simpa using this.symm
   ·exact g j (by omega)
 |m+1,i,w::ws,W,b,last,h,hb,hl,htl,hok,hlast,hat,hge=>by
  obtain⟨k1,k2,k3,k4,k5⟩:=EV hok;obtain⟨a1,a2,a3,a4,a5⟩:=hat w (by simp);have hti:=PR ht i;have later:∀ z,z ∈ ws→w.at_<z.at_:=by
   have key:∀ (l:List WE) (last:Int),BP last l=true→∀ z,z ∈ l→last<z.at_:=fun l=>by
    induction l with
    |nil=>intro _ _ z hz;simp at hz
    |cons y l ih=>
     intro last h z hz;obtain⟨q1,_,_,_,q5⟩:=EV h;rcases List.mem_cons.1 hz with rfl | hz
     ·exact q1
     ·have:=ih _ q5 z hz;omega
   exact key ws _ k5
  by_cases e:w.at_=(i:Int)
  ·by_cases hbad:AM 0 (tw.getD i 0) w.mask=w.old;rotate_left
   ·rw[TM e hbad] at h;cases h
   rw[PF e hbad] at h;obtain⟨W',h1,rfl⟩:=Option.map_eq_some_iff.1 h;have hbi:b.getD i 0=AM (tw.getD i 0) w.new w.mask:=by
    have:=hb 0 (by omega);simpa using this
   have L:=PM ht m (i+1) ws W' b w.at_ h1 (fun j hj=>by
    have:=hb (j+1) (by omega);rw[show i+(j+1)=i+1+j from by omega] at this;simpa using this) (by omega) (by omega) k5 (by omega) (fun z hz=>by
    obtain⟨q1,q2⟩:=hat z (List.mem_cons_of_mem _ hz);exact⟨by omega,q2⟩) (fun z hz=>by have:=later z hz;omega)
   obtain⟨at_,mask,old,new⟩:=w;have e:at_=(i:Int):=e;subst e;exact .cons i i mask old new ws (Ei _) (fun j q1 q2=>by omega) (by omega) ⟨by have k2:mask ≠ 0:=k2;have a4:0≤mask:=a4;omega,a5⟩ hbad (by rw[hbi,YC];exact Xr a3 k4) hbi.symm (by rw[hbi];exact fu hti hbad) L
  ·rw[KL (fun x xs ex=>by cases ex;exact e)] at h;obtain⟨W',h1,rfl⟩:=Option.map_eq_some_iff.1 h;have hbi:b.getD i 0=tw.getD i 0:=by
    have:=hb 0 (by omega);simpa using this
   have hge':=hge w (by simp);have L:=PM ht m (i+1) (w::ws) W' b last h1 (fun j hj=>by
    have:=hb (j+1) (by omega);rw[show i+(j+1)=i+1+j from by omega] at this;simpa using this) (by omega) (by omega) hok (by omega) (fun z hz=>by
    obtain⟨q1,q2⟩:=hat z hz;exact⟨by omega,q2⟩) (fun z hz=>by
    rcases List.mem_cons.1 hz with rfl | hz
    ·omega
    ·have:=later z hz;omega)
   cases L with
   |cons _ i' mk oo nn _ hp hh hi hm ho hn g1 g2 g=>
    have hj:∀ j,i≤j→j<i'→tw.getD j 0=b.getD j 0:=fun j q1 q2=>by
     by_cases ej:j=i
     ·subst ej;exact hbi.symm
     ·exact hh j (by omega) q2
    exact .cons i i' mk oo nn ws (by omega) hj hi hm ho hn g1 g2 g
theorem FC {d:Nat} {last:Int} {x:KE} {l:List KE} (h:B0 d last (x::l)=true):last<x.at_∧x.e.kind ≠ 0∧BG d x.e=true∧B0 d x.at_ l=true:=by
 rw[NH] at h;simp at h;exact⟨by omega,h.1.1.2,h.1.2,h.2⟩
theorem PQ {R:E→T→T→Prop} {P P':T→Prop} (hPP:∀ t,P t→P' t) {tk:List T} (hP:∀ i,P (tk.getD i T0)) {d:Nat}:∀ (m i:Nat) (ks:List KE) (K pre:List T) (last:Int),LA tk m i (BJ ks)=some K→pre.length=i→tk.length≤i+m→B0 d last ks=true→last<i→(∀ w,w ∈ ks→(i:Int)≤w.at_∧w.at_<((i+m:Nat):Int))→(∀ x,x ∈ ks→∀ t v,P t→GY x.e t=some v→∃ y,R x.e t y∧Af y=Af v∧P' y) →
  ∃ Y:List T,Y.length=m∧(∀ j,Af (Y.getD j T0)=Af (K.getD j T0))∧(∀ y,y ∈ Y→P' y)∧U7 R tk (pre++Y) i ks
 |0,i,ks,K,pre,last,h,hp,htl,hok,hlast,hat,hI=>by
  rw[LA] at h;cases h;refine⟨[],rfl,fun j=>rfl,fun y hy=>by simp at hy,?_⟩;cases ks with
  |nil=>
   refine .nil i fun j hj=>?_;rw[List.getD_eq_getElem?_getD,List.getD_eq_getElem?_getD,List.getElem?_eq_none (by omega),List.getElem?_eq_none (by simp;omega)]
  |cons w ws=>
   have h1:=hat w (by simp);omega
 |m+1,i,[],K,pre,last,h,hp,htl,hok,hlast,hat,hI=>by
  rw[BJ,LA] at h;obtain⟨K',h1,rfl⟩:=Option.map_eq_some_iff.1 h;obtain⟨Y,y1,y2,y3,y4⟩:=PQ (R:=R) hPP hP m (i+1) [] K' (pre++[tk.getD i T0]) last (by rw[BJ];exact h1) (by simp[hp]) (by omega) hok (by omega) (fun w hw=>by simp at hw) (fun x hx=>by simp at hx);refine⟨tk.getD i T0::Y,by simp[y1],fun j=>?_,fun y hy=>?_,?_⟩
  ·cases j with
   |zero=>rfl
   |succ j=>simpa using y2 j
  ·rcases List.mem_cons.1 hy with rfl | hy
   ·exact hPP _ (hP i)
   ·exact y3 y hy
  ·rw[List.append_assoc,List.singleton_append] at y4;cases y4 with
   |nil _ g=>
    refine .nil i fun j hj=>?_;by_cases e:j=i
    ·subst e;rw[show(pre++tk.getD j T0::Y).getD j T0=tk.getD j T0 from by rw[List.getD_eq_getElem?_getD,List.getElem?_append_right (by omega),hp,Nat.sub_self];rfl]
    ·exact g j (by omega)
 |m+1,i,w::ws,K,pre,last,h,hp,htl,hok,hlast,hat,hI=>by
  obtain⟨k1,k2,k3,k5⟩:=FC hok;have later:∀ z,z ∈ ws→w.at_<z.at_:=by
   have key:∀ (l:List KE) (last:Int),B0 d last l=true→∀ z,z ∈ l→last<z.at_:=fun l=>by
    induction l with
    |nil=>intro _ _ z hz;simp at hz
    |cons y l ih=>
     intro last h z hz;obtain⟨q1,_,_,q5⟩:=FC h;rcases List.mem_cons.1 hz with rfl | hz
     ·exact q1
     ·have:=ih _ q5 z hz;omega
   exact key ws _ k5
  have hap:BJ (w::ws)=(w.at_,GY w.e)::BJ ws:=by rw[D4,List.map_cons,← D4]
  rw[hap] at h;have hw:=hat w (by simp);by_cases e:w.at_=(i:Int)
  ·cases hv:GY w.e (tk.getD i T0) with
   |none=>rw[Ty e hv] at h;cases h
   |some v=>
    rw[PJ e hv] at h;obtain⟨K',h1,rfl⟩:=Option.map_eq_some_iff.1 h;obtain⟨y0,r1,r2,r3⟩:=hI w (by simp) _ v (hP i) hv;obtain⟨Y,y1,y2,y3,y4⟩:=PQ (R:=R) hPP hP m (i+1) ws K' (pre++[y0]) w.at_ h1 (by simp[hp]) (by omega) k5 (by omega) (fun z hz=>by have:=later z hz;have:=(hat z (List.mem_cons_of_mem _ hz)).2;omega) (fun x hx=>hI x (List.mem_cons_of_mem _ hx));refine⟨y0::Y,by simp[y1],fun j=>?_,fun y hy=>?_,?_⟩
    ·cases j with
     |zero=>simpa using r2
     |succ j=>simpa using y2 j
    ·rcases List.mem_cons.1 hy with rfl | hy
     ·exact r3
     ·exact y3 y hy
    ·rw[List.append_assoc,List.singleton_append] at y4;have hg:(pre++y0::Y).getD i T0=y0:=by rw[List.getD_eq_getElem?_getD,List.getElem?_append_right (by omega),hp,Nat.sub_self];rfl
     obtain⟨at_,ee⟩:=w;have e:at_=(i:Int):=e;subst e;exact .cons i i ee ws (Ei _) (fun j q1 q2=>by omega) (by simp;omega) k2 (by rw[hg];exact r1) y4
  ·rw[KA (fun x xs ex=>by cases ex;exact e)] at h;obtain⟨K',h1,rfl⟩:=Option.map_eq_some_iff.1 h;obtain⟨Y,y1,y2,y3,y4⟩:=PQ (R:=R) hPP hP m (i+1) (w::ws) K' (pre++[tk.getD i T0]) last (by rw[hap];exact h1) (by simp[hp]) (by omega) hok (by omega) (fun z hz=>by
    refine⟨?_,by have:=(hat z hz).2;omega⟩;rcases List.mem_cons.1 hz with rfl | hz
    ·omega
    ·have:=later z hz;omega) hI
   refine⟨tk.getD i T0::Y,by simp[y1],fun j=>?_,fun y hy=>?_,?_⟩
   ·cases j with
    |zero=>rfl
    |succ j=>simpa using y2 j
   ·rcases List.mem_cons.1 hy with rfl | hy
    ·exact hPP _ (hP i)
    ·exact y3 y hy
   ·rw[List.append_assoc,List.singleton_append] at y4;have hg:(pre++tk.getD i T0::Y).getD i T0=tk.getD i T0:=by rw[List.getD_eq_getElem?_getD,List.getElem?_append_right (by omega),hp,Nat.sub_self];rfl
    cases y4 with
    |cons _ i' ee _ hp2 hh hi he hr g=>
     have hj:∀ j,i≤j→j<i'→Af (tk.getD j T0)=Af ((pre++tk.getD i T0::Y).getD j T0):=fun j q1 q2=>by
      by_cases ej:j=i
      ·subst ej;rw[hg]
      ·exact hh j (by omega) q2
     exact .cons i i' ee ws (by omega) hj hi he hr g
theorem VJ {ot:T} (wo:AD ot) {x y:List Int} {ps qs:List WE} (hp:Kb ot.words x 0 ps) (hq:Kb ot.words y 0 qs) (hn:Bu (Bu ot.words.length ps) qs≤800000) (hl:ps.length+qs.length≤1000000000) {at':Cw} (hat:at'.length≤999999) :
  ∃ X:List Int,(∀ j,X.getD j 0=Gb (ot.words.getD j 0) (B8 ps j) (B8 qs j))∧(∀ z,z ∈ X→AA z)∧X.length≤900000∧∀ (v w:Nat) (C:List Cf),C.length+((List.range (Bu (Bu ot.words.length ps) qs)).flatMap fun i:Nat=>IX at' i (ot.words.getD i 0) (B8 ps i) (B8 qs i)).length≤100000000000 →
   SpecF Tryz.prog 83 (fun r=>[.pob [r] v 0,A8 at',tX ot,JJ ps,JJ qs]) (LY v w C) (fun _=>CQ X) (LY v w (C++(List.range (Bu (Bu ot.words.length ps) qs)).flatMap fun i:Nat=>IX at' i (ot.words.getD i 0) (B8 ps i) (B8 qs i))):=by
 have hwl:ot.words.length≤800000:=by
  rw[EK,EK] at hn;omega
 have e0:YU at' ot.words (B8 ps) (B8 qs) (Bu (Bu ot.words.length ps) qs) 0=(List.range (Bu (Bu ot.words.length ps) qs)).flatMap fun i:Nat=>IX at' i (ot.words.getD i 0) (B8 ps i) (B8 qs i):=by
  unfold YU;rw[List.range_eq_range',Nat.sub_zero]
 rw[← e0];have np:∀ z,z ∈ ps→z.at_<(Bu (Bu ot.words.length ps) qs:Nat):=fun z hz=>by
  have:=KN (n:=ot.words.length) hz;rw[EK qs];omega
 have nq:∀ z,z ∈ qs→z.at_<(Bu (Bu ot.words.length ps) qs:Nat):=fun z hz=>KN hz;have C1:=Ks ot.words (by omega);obtain⟨X,f1,f2,f3,f4⟩:=da wo rfl hn hat (ps.length+qs.length) ps qs 0 ot.words (Ei _) hl hp hq np nq ⟨fun j _=>rfl,fun j _=>rfl,fun j hj=>by omega,fun j _=>rfl,(wfT_iff.1 wo).w,by omega⟩;refine⟨X,f1,f2,f3,fun v w C hC=>I4 KP (by simp) (Ai AX (Ai BZ (Ai (Bl ot) (Ai BZ (Ai BZ Av))))) BZ fun w0 I0 M0 m0 hM=>?_⟩;unfold GK;simp;refine Bp 15 C1 (fun p=>by simp) (by simp) (by simp) ?_;simp;refine LoopC.le (Ay [(0,.pob [0] v 0),(1,A8 at'),(3,JJ ps),(4,JJ qs),(7,.pob [1] 1 0),(11,.pob [2] 1 0),(12,.fnc 131 [] [.pob [2] 1 0])] (by simp)) ?_;refine f4 _ v w 1 C _ hC ⟨fun p=>by simp,by simp,fun p=>?_,fun p=>by simp⟩ fun H' u' hH'=>?_
 ·by_cases hp:p=[]
  ·subst hp;simp
  ·simp[hp,Ga,Ne.symm hp]
 ·have h2:H' [2]=⟨1,.cells [.osl [15] u' 1 0 X.length]⟩:=by rw[hH'.b];simp
  simp[h2];obtain⟨H2,g1,g2⟩:=Rm (c:=HY Tryz.prog w0 I0 M0 149 m0) (s:=lk [(10,.osl [15] u' 1 0 X.length)]) (H:=H') (fun r=>r=15) (fun r p b hr=>hM r p b (by omega)) 10 (CQ X) (fun H1 e1=>by
   have e2:H1 [15]=H' [15]:=e1 15 [] rfl;simp;exact A3 (f:=uv) (by rw[e2,hH'.c];simp) rfl (fun x=>by simp))
  refine Hi g1 (A6 (r0:=CQ X) (by simp[upd,EC]) rfl (fun p=>?_));exact(g2 0 p (by omega)).trans (hH'.f p)
theorem SE {ks:List KE} {x:KE} (hx:ks.getLast? = some x) (h:∀ w,w ∈ ks→w.at_≤x.at_) (n:Nat):Bf n ks=max n (x.at_+1).toNat:=by
 have key:∀ (l:List KE),(∀ w,w ∈ l→w.at_≤x.at_)→Bf 0 l≤(x.at_+1).toNat:=by
  intro l;induction l with
  |nil=>intro _;simp[Bf]
  |cons y l ih=>
   intro hl;have e:Bf 0 (y::l)=Bf (max 0 (y.at_+1).toNat) l:=rfl;have:=ih fun w hw=>hl w (List.mem_cons_of_mem _ hw);have:=hl y (by simp);rw[e,H6];omega
 have k1:=key ks h;have k2:=V6 (n:=0) (List.mem_of_getLast? hx);rw[H6];omega
def de (f:Nat) (at':Cw) (o:T) (p q:E) (u:T):Prop:=AD u∧Af u=(mg f at' o p q).1∧∀ (v w:Nat) (C:List Cf),C.length+(mg f at' o p q).2.length≤100000000000 →
 SpecF Tryz.prog 34 (fun r=>[.pob [r] v 0,A8 at',tX o,eX p,eX q]) (LY v w C) (fun _=>tX u) (LY v w (C++(mg f at' o p q).2))
structure StH (v w:Nat) (o:T) (p q:E) (C:List Cf) (X:List Int) (L:List T) (u:Nat) (H:Hp):Prop where
 f:∀ r,H (0::r)=(LY v w C).F 0 r
 o:H [1]=⟨1,.cells (Uj o)⟩
 p:H [2]=⟨1,.cells (eL p)⟩
 q:H [3]=⟨1,.cells (eL q)⟩
 z:H [4]=⟨1,.cells [iv 0,.sl true [],.sl true []]⟩
 b:H [5]=⟨1,.cells [iv 1,CQ X,.osl [6] u 3 0 L.length]⟩
 c:H [6]=⟨u,.arr 3 (L.map tA)⟩
section
variable {n0:Nat} {w0:World} {I0:Nat→Prop} {M0:Nm→Nat→Prop} {m0:Mu} {Q:Exit→Sta→Prop}
theorem jn {f:Nat} {at':Cw} (hat:at'.length≤900000) {o:T} {p q:E} {X:List Int} {U:Nat→T} {m:Nat} (hm:m≤800000) (lp:p.kids.length≤10000000000000) (lq:q.kids.length≤10000000000000) (hU:∀ i:Nat,de f (at'++[(0,(i:Int))]) (o.kids.getD i T0) (CR p.kids i) (CR q.kids i) (U i)) {v w:Nat} {C:List Cf} (hC:C.length+((List.range m).flatMap fun i:Nat=>(mg f (at'++[(0,(i:Int))]) (o.kids.getD i T0) (CR p.kids i) (CR q.kids i)).2).length≤100000000000)
  (hq:∀ (H':Hp),StH v w o p q (C++(List.range m).flatMap fun i:Nat=>(mg f (at'++[(0,(i:Int))]) (o.kids.getD i T0) (CR p.kids i) (CR q.kids i)).2) X ((List.range m).map U) (m+1) H'→Q (.exit 2) ⟨lk [(0,.pob [0] v 0),(1,A8 at'),(7,.pob [1] 1 0),(8,.pob [2] 1 0),(9,.pob [3] 1 0),(10,.pob [4] 1 0),(11,.pob [5] 1 0),(53,iv m),(54,iv m),(55,bv false)],H'⟩) :
  ∀ (j i:Nat) (H:Hp),i+j=m→StH v w o p q (C++(List.range i).flatMap fun i:Nat=>(mg f (at'++[(0,(i:Int))]) (o.kids.getD i T0) (CR p.kids i) (CR q.kids i)).2) X ((List.range i).map U) (i+1) H →
  LoopC (HY Tryz.prog w0 I0 M0 n0 m0) BR Q ⟨lk [(0,.pob [0] v 0),(1,A8 at'),(7,.pob [1] 1 0),(8,.pob [2] 1 0),(9,.pob [3] 1 0),(10,.pob [4] 1 0),(11,.pob [5] 1 0),(53,iv m),(54,iv i)],H⟩:=by
 intro j;induction j with
 |zero=>
  intro i H hj hH;have:i=m:=by omega
  subst this;refine Ab Aj BR.eq_1 ?_;simp;exact hq H hH
 |succ j ih=>
  intro i H hj hH;have hlt:i<m:=by omega
  have ew:=AI i;have F:=Hh at' 0 i (by omega);have K0:=DC o i;have K1:=SP p.kids lp i;have K2:=SP q.kids lq i;obtain⟨u1,u2,u3⟩:=hU i;have hr:List.range (i+1)=List.range i++[i]:=List.range_succ;have hsub:((List.range (i+1)).flatMap fun i:Nat=>(mg f (at'++[(0,(i:Int))]) (o.kids.getD i T0) (CR p.kids i) (CR q.kids i)).2).length≤((List.range m).flatMap fun i:Nat=>(mg f (at'++[(0,(i:Int))]) (o.kids.getD i T0) (CR p.kids i) (CR q.kids i)).2).length:=by
   have e:List.range m=List.range (i+1)++List.range' (i+1) (m-(i+1)):=by
    rw[List.range_eq_range',List.range_eq_range',show m=(i+1)+(m-(i+1)) from by omega,← List.range'_append_1];simp
   rw[e,List.flatMap_append,List.length_append];omega
  have next:=ih (i+1)
  rw[hr] at hsub next
  rw[List.flatMap_append,List.flatMap_singleton,List.length_append] at hsub;rw[List.flatMap_append,List.flatMap_singleton,List.map_append,← List.append_assoc] at next
  have S:=u3 v w (C++(List.range i).flatMap fun i:Nat=>(mg f (at'++[(0,(i:Int))]) (o.kids.getD i T0) (CR p.kids i) (CR q.kids i)).2) (by rw[List.length_append];omega);generalize (List.range i).flatMap (fun i:Nat=>(mg f (at'++[(0,(i:Int))]) (o.kids.getD i T0) (CR p.kids i) (CR q.kids i)).2)=D at *;generalize hL:(List.range i).map U=L at *;have hLl:L.length=i:=by rw[← hL];simp
  generalize (mg f (at'++[(0,(i:Int))]) (o.kids.getD i T0) (CR p.kids i) (CR q.kids i)).2=c at *;have h1:=hH.o;have h2:=hH.p;have h3:=hH.q;have h5:=hH.b;have h6:=hH.c;refine Ab Aj BR.eq_1 ?_;simp[hlt,h1,h2,h3,h5];refine Ae F (by simp) ?_;simp[h1,h2,h3];refine Ae K0 (by simp) ?_;simp[h1,h2,h3];refine Ae K1 (by simp) ?_;simp[h1,h2,h3];refine Ae K2 (by simp) ?_;simp;refine Bp 0 S hH.f (by simp) (by simp[List.isPrefixOf]) ?_;simp[h5,h6,Aa];refine⟨by omega,?_⟩;rw[ew];have h4:=hH.z;exact next _ (by omega) ⟨fun r=>by simp,by simp[Aa,h1],by simp[Aa,h2],by simp[Aa,h3],by simp[Aa,h4],by simp[Aa],by simp[Aa,AN]⟩
theorem hY {at':Cw} {p q:E} (ap:∀ k,k ∈ p.kids→0≤k.at_∧k.at_≤900000) (aq:∀ k,k ∈ q.kids→0≤k.at_∧k.at_≤900000) (sp:∀ x,p.kids.getLast? = some x→∀ w,w ∈ p.kids→w.at_≤x.at_) (sq:∀ x,q.kids.getLast? = some x→∀ w,w ∈ q.kids→w.at_≤x.at_) (lp:p.kids.length≤10000000000000) (lq:q.kids.length≤10000000000000) {v:Nat} {n:Nat} (hn:n≤10000000) {H:Hp}
  (hq:Q (.exit 0) ⟨lk [(0,.pob [0] v 0),(1,A8 at'),(7,.pob [1] 1 0),(8,.pob [2] 1 0),(9,.pob [3] 1 0),(10,.pob [4] 1 0),(11,.pob [5] 1 0),(12,iv (Bf (Bf n p.kids) q.kids)),(33,.sl true [Ka p.kids,Ka q.kids]),(34,iv 2),(35,iv 2),(36,bv false)],H⟩) :
  LoopC (HY Tryz.prog w0 I0 M0 n0 m0) AK Q ⟨lk [(0,.pob [0] v 0),(1,A8 at'),(7,.pob [1] 1 0),(8,.pob [2] 1 0),(9,.pob [3] 1 0),(10,.pob [4] 1 0),(11,.pob [5] 1 0),(12,iv n),(33,.sl true [Ka p.kids,Ka q.kids]),(34,iv 2),(35,iv 0)],H⟩:=by
 have one:∀ (ks:List KE) (n:Nat) (j:Nat),n≤10000000→j<2→[Ka p.kids,Ka q.kids][j]? = some (Ka ks)→ks.length≤10000000000000→(∀ k,k ∈ ks→0≤k.at_∧k.at_≤900000)→(∀ x,ks.getLast? = some x→∀ w,w ∈ ks→w.at_≤x.at_)→LoopC (HY Tryz.prog w0 I0 M0 n0 m0) AK Q ⟨lk [(0,.pob [0] v 0),(1,A8 at'),(7,.pob [1] 1 0),(8,.pob [2] 1 0),(9,.pob [3] 1 0),(10,.pob [4] 1 0),(11,.pob [5] 1 0),(12,iv (Bf n ks)),(33,.sl true [Ka p.kids,Ka q.kids]),(34,iv 2),(35,iv (j+1:Nat))],H⟩ →
   LoopC (HY Tryz.prog w0 I0 M0 n0 m0) AK Q ⟨lk [(0,.pob [0] v 0),(1,A8 at'),(7,.pob [1] 1 0),(8,.pob [2] 1 0),(9,.pob [3] 1 0),(10,.pob [4] 1 0),(11,.pob [5] 1 0),(12,iv n),(33,.sl true [Ka p.kids,Ka q.kids]),(34,iv 2),(35,iv j)],H⟩:=fun ks n j hn hj hks hl ha hs next=>by
  have ew:=AI j;have hj2:(j:Int)<2:=by omega
  have hk2:[Ka p.kids,Ka q.kids][j]=Ka ks:=by
   rw[List.getElem?_eq_getElem hj] at hks;exact Option.some.inj hks
  cases e:ks.getLast? with
  |none=>
   have:ks=[]:=List.getLast?_eq_none_iff.1 e;subst this;refine Ab Aj AK.eq_1 ?_;simp[hj2,hj,hk2];rw[ew];exact next
  |some x=>
   have e1:=SE e (hs x e) n;have hx:=ha x (List.mem_of_getLast? e);rw[e1] at next
   have hne:ks ≠ []:=fun h=>by rw[h] at e;cases e
   have h0:=List.length_pos_iff.2 hne;have h0':(0:Int)<ks.length:=by omega
   have e9:i64.wrap ((ks.length:Int)-1)=((ks.length-1:Nat):Int):=(A4 (n:=(ks.length:Int)-1) (by omega) (by omega)).trans (by omega);have hlt:ks.length-1<ks.length:=by omega
   have hx2:ks[ks.length-1]=x:=by
    rw[List.getLast?_eq_getElem?,List.getElem?_eq_getElem hlt] at e;exact Option.some.inj e
   have e10:i64.wrap (x.at_+1)=x.at_+1:=Hl;have e11:max (n:Int) (x.at_+1)=((max n (x.at_+1).toNat:Nat):Int):=by omega
   refine Ab Aj AK.eq_1 ?_;simp[hj2,hj,hk2,h0,h0',e9,hlt,hx2,e10];rw[ew,e11];exact next
 have b1:Bf n p.kids≤10000000:=by
  cases e:p.kids.getLast? with
  |none=>
   rw[List.getLast?_eq_none_iff.1 e];exact hn
  |some x=>
   have hx:=ap x (List.mem_of_getLast? e);rw[SE e (sp x e)];omega
 refine one p.kids n 0 hn (by decide) rfl lp ap sp ?_;refine one q.kids _ 1 b1 (by decide) rfl lq aq sq ?_;refine Ab Aj AK.eq_1 ?_;simp;exact hq
end
theorem Np:∀ {ws:List WE} {n m:Nat},n≤m→(∀ w,w ∈ ws→w.at_<(m:Int))→Bu n ws≤m
 |[],n,m,h,_=>h
 |w::ws,n,m,h,hw=>Np (ws:=ws) (n:=max n (w.at_+1).toNat) (by have:=hw w (by simp);omega) fun z hz=>hw z (List.mem_cons_of_mem _ hz)
theorem MO:∀ {ws:List KE} {n m:Nat},n≤m→(∀ w,w ∈ ws→w.at_<(m:Int))→Bf n ws≤m
 |[],n,m,h,_=>h
 |w::ws,n,m,h,hw=>MO (ws:=ws) (n:=max n (w.at_+1).toNat) (by have:=hw w (by simp);omega) fun z hz=>hw z (List.mem_cons_of_mem _ hz)
theorem dB {f:Nat} {at':Cw} {o:T} (wo:AD o) {p q:E} {x y:List Int} (hp:Kb o.words x 0 p.words) (hq:Kb o.words y 0 q.words) {U:Nat→T} (hU:∀ i:Nat,de f (at'++[(0,(i:Int))]) (o.kids.getD i T0) (CR p.kids i) (CR q.kids i) (U i)) {X:List Int} (hX:∀ j,X.getD j 0=Gb (o.words.getD j 0) (B8 p.words j) (B8 q.words j)) :
  Af (.mk 1 X ((List.range (Bf (Bf o.kids.length p.kids) q.kids)).map U))=(Uq (mg f) at' o p q).1:=by
 unfold Uq;refine struct_eq.2 ⟨fun j=>?_,fun j=>?_⟩
 ·rw[hX];refine(Vh (fun i:Nat=>Gb (o.words.getD i 0) (B8 p.words i) (B8 q.words i)) 0 _ j fun hj=>?_).symm;show Gb (o.words.getD j 0) (B8 p.words j) (B8 q.words j)=0;have hw:o.words.length≤j:=by
   rw[EK q.words,EK p.words] at hj;omega
  have e0:o.words.getD j 0=0:=by rw[List.getD_eq_getElem?_getD,List.getElem?_eq_none hw];rfl
  have far:∀ {ws:List WE},(∀ w,w ∈ ws→w.at_<(j:Int))→B8 ws j=dW:=fun {ws} h=>by
   unfold B8;rw[List.find?_eq_none.2 fun w hw=>by have:=h w hw;simp;omega];rfl
  rw[e0,far (ws:=p.words) fun w hw=>by
   have:=KN (n:=o.words.length) hw;rw[EK q.words,EK p.words] at hj;rw[EK] at this;omega,far (ws:=q.words) fun w hw=>by
   have:=KN (n:=Bu o.words.length p.words) hw;omega,Ol ⟨by decide,by decide⟩]
 ·by_cases c:j<Bf (Bf o.kids.length p.kids) q.kids
  ·have:=(hU j).2.1;simp only[List.getD_eq_getElem?_getD,List.getElem?_map,List.getElem?_range c,Option.map_some,Option.getD_some];rw[List.getD_eq_getElem?_getD] at this;rw[← this,Dr]
  ·rw[List.getD_eq_getElem?_getD,List.getD_eq_getElem?_getD,List.getElem?_eq_none (by simp;omega),List.getElem?_eq_none (by simp;omega)]
theorem Y8 {f:Nat} {at':Cw} (hat:at'.length≤900000) {o:T} (wo:AD o) {p q:E} {x y:T} (hp:Kb o.words x.words 0 p.words) (hq:Kb o.words y.words 0 q.words) {R:E→T→T→Prop} (kp:U7 R o.kids x.kids 0 p.kids) (kq:U7 R o.kids y.kids 0 q.kids) (b1:o.words.length≤700000∧o.kids.length≤700000) (b2:x.words.length≤700000∧x.kids.length≤700000) (b3:y.words.length≤700000∧y.kids.length≤700000) (wp:p.words.length≤500000000∧p.kids.length≤10000000000000) (wq:q.words.length≤500000000∧q.kids.length≤10000000000000)
  (hU:∀ i:Nat,∃ u,de f (at'++[(0,(i:Int))]) (o.kids.getD i T0) (CR p.kids i) (CR q.kids i) u) :
  ∃ u,AD u∧Af u=(Uq (mg f) at' o p q).1∧∀ (v w:Nat) (C:List Cf),C.length+(Uq (mg f) at' o p q).2.length≤100000000000 →
   SpecF Tryz.prog 55 (fun r=>[.pob [r] v 0,A8 at',tX o,eX p,eX q]) (LY v w C) (fun _=>tX u) (LY v w (C++(Uq (mg f) at' o p q).2)):=by
 obtain⟨U,hU⟩:=Classical.axiomOfChoice hU;have tw:Bu (Bu o.words.length p.words) q.words≤700000:=Np (Np b1.1 fun w hw=>by
  obtain⟨i,k1,k2,k3,_⟩:=IL hp w hw;omega) fun w hw=>by
  obtain⟨i,k1,k2,k3,_⟩:=IL hq w hw;omega
 have tk:Bf (Bf o.kids.length p.kids) q.kids≤700000:=MO (MO b1.2 fun w hw=>by
  obtain⟨i,k1,k2,k3,_⟩:=IV kp w hw;omega) fun w hw=>by
  obtain⟨i,k1,k2,k3,_⟩:=IV kq w hw;omega
 have O:=wfT_iff.1 wo;have ap:∀ k,k ∈ p.kids→0≤k.at_∧k.at_≤900000:=fun w hw=>by
  obtain⟨i,k1,k2,k3,_⟩:=IV kp w hw;omega
 have aq:∀ k,k ∈ q.kids→0≤k.at_∧k.at_≤900000:=fun w hw=>by
  obtain⟨i,k1,k2,k3,_⟩:=IV kq w hw;omega
 have hc2:(Uq (mg f) at' o p q).2=((List.range (Bu (Bu o.words.length p.words) q.words)).flatMap (fun i:Nat=>IX at' i (o.words.getD i 0) (B8 p.words i) (B8 q.words i)))++((List.range (Bf (Bf o.kids.length p.kids) q.kids)).flatMap fun i:Nat=>(mg f (at'++[(0,(i:Int))]) (o.kids.getD i T0) (CR p.kids i) (CR q.kids i)).2):=rfl;obtain⟨X,f1,f2,f3,f4⟩:=VJ wo hp hq (by omega) (by omega) (at':=at') (by omega);have ht:=dB wo hp hq hU f1;have hkl:o.kids.length≤Bf (Bf o.kids.length p.kids) q.kids:=by
  rw[H6,H6];omega
 refine⟨.mk 1 X ((List.range (Bf (Bf o.kids.length p.kids) q.kids)).map U),wfT_iff.2 ⟨by simp[Db],f2,by show X.length*8≤_;omega,by simp;omega,fun t ht=>?_⟩,ht,fun v w C hC=>?_⟩
 ·obtain⟨i,_,rfl⟩:=List.mem_map.1 (show t ∈ (List.range _).map U from ht);exact(hU i).1
 rw[hc2] at hC ⊢;rw[List.length_append] at hC;have W:=f4 v w C (by omega);have L2:=fun {n0:Nat} {w0:World} {I0:Nat→Prop} {M0:Nm→Nat→Prop} {m0:Mu} {Q:Exit→Sta→Prop}=>jn (n0:=n0) (w0:=w0) (I0:=I0) (M0:=M0) (m0:=m0) (Q:=Q) hat (o:=o) (p:=p) (q:=q) (X:=X) (m:=Bf (Bf o.kids.length p.kids) q.kids) (by omega) wp.2 wq.2 hU (v:=v) (w:=w) (C:=C++(List.range (Bu (Bu o.words.length p.words) q.words)).flatMap fun i:Nat=>IX at' i (o.words.getD i 0) (B8 p.words i) (B8 q.words i)) (by rw[List.length_append];omega);rw[← List.append_assoc];have sp:=Qy kp;have sq:=Qy kq;generalize (List.range (Bu (Bu o.words.length p.words) q.words)).flatMap (fun i:Nat=>IX at' i (o.words.getD i 0) (B8 p.words i) (B8 q.words i))=CW at *;generalize hCK:(fun i:Nat=>(mg f (at'++[(0,(i:Int))]) (o.kids.getD i T0) (CR p.kids i) (CR q.kids i)).2)=CK at *;refine I4 Ib (by simp) (Ai AX (Ai BZ (Ai (Bl o) (Ai (B6 p) (Ai (B6 q) Av))))) (Bl _) fun w0 I0 M0 m0 hM=>?_;unfold EZ;simp;refine Bp 0 W (fun p=>by simp) (by simp) (by simp) ?_;simp;refine LoopC.le (Bc (d:=[5]) (u:=1) 2 [6] 3 (by simp;rfl) rfl (by simp)) ?_;refine LoopC.le (Ay [(0,.pob [0] v 0),(1,A8 at'),(7,.pob [1] 1 0),(8,.pob [2] 1 0),(9,.pob [3] 1 0),(10,.pob [4] 1 0),(11,.pob [5] 1 0),(12,iv o.kids.length),(33,.sl true [Ka p.kids,Ka q.kids]),(34,iv 2),(35,iv 0)] (by simp)) ?_;refine hY ap aq sp sq wp.2 wq.2 (by omega) ?_;simp;refine LoopC.le (Ay [(0,.pob [0] v 0),(1,A8 at'),(7,.pob [1] 1 0),(8,.pob [2] 1 0),(9,.pob [3] 1 0),(10,.pob [4] 1 0),(11,.pob [5] 1 0),(53,iv (Bf (Bf o.kids.length p.kids) q.kids:Nat)),(54,iv (0:Nat))] (by simp)) ?_;refine L2 (fun H' hH=>?_) (Bf (Bf o.kids.length p.kids) q.kids) 0 _ (by omega) ⟨fun r=>?_,by simp[Aa],by simp[Aa],by simp[Aa],by simp[Aa],by simp[Aa],by simp[Aa]⟩
 ·have h4:=hH.z;have h5:=hH.b;simp[h4,h5,Aa];have h6:=hH.c;have hf:=hH.f;rw[List.append_assoc] at hf;generalize hLL:(List.range (Bf (Bf o.kids.length p.kids) q.kids)).map U=LL at *;have hlen:Bf (Bf o.kids.length p.kids) q.kids=LL.length:=by rw[← hLL];simp
  generalize Bf (Bf o.kids.length p.kids) q.kids=m at *;obtain⟨H4,y1,y2⟩:=HZ (c:=HY Tryz.prog w0 I0 M0 80 m0) (s:=lk [(10,.pob [4] 1 0)]) (H:=Az H' [4] ⟨1,.cells [iv 1,CQ X,.osl [6] (m+1) 3 0 m]⟩) (fun r=>r=6) (fun r p b h=>hM r p b (by omega)) (r0:=4) (p0:=[]) (by omega) (u:=1) (cs:=[iv 1,CQ X,.osl [6] (m+1) 3 0 m]) (by simp[Aa]) (cs':=Uj (.mk 1 X LL)) (by simp[A.ones]) (fun H1 h1=>⟨Ad rfl,Ad rfl,A3 (f:=tA) (l:=LL) (by rw[h1 6 [] rfl];simp[Aa,h6]) hlen (fun x=>by simp),trivial⟩);refine Hi y1 (A6 (r0:=tX (.mk 1 X LL)) (by simp[EC]) rfl fun r=>?_);have e1:=y2 0 r (by omega);dsimp only;rw[Ax (by simp),e1,Ax (by simp),hf]
 ·simp[Aa]
end Go.Proofs.YtlaapfplenlfaaaGreat
namespace Go.G
open Go
structure mM where
 B:Nat→Nat→Nat→Nm→VOb
 C:Nat→Nat→Nat→Nm→VOb
 D:Nat→Nat→Nat→Nm→VOb
 ren:∀ {g:Nm→Nm} {δ:Nm→Nat} {r r' q q' t t':Nat},(∀ p,g (r::p)=r'::p)→(∀ p,g (q::p)=q'::p)→(∀ p,g (t::p)=t'::p)→(∀ p,δ (r::p)=0)→(∀ p,δ (q::p)=0)→(∀ p,δ (t::p)=0)→∀ p,(B r q t p).ren g δ 0=B r' q' t' p∧(C r q t p).ren g δ 0=C r' q' t' p∧(D r q t p).ren g δ 0=D r' q' t' p
 refs:∀ {P:Nm→Prop} {r q t:Nat},(∀ p,P (r::p))→(∀ p,P (q::p))→(∀ p,P (t::p))→∀ p,(B r q t p).ob.refs P∧(C r q t p).ob.refs P∧(D r q t p).ob.refs P
section
variable {P:Program} {K:Sta→Prop} {rest:List CO} {s:Nat→A} {H:Hp} {dd:Option Nat} {nm:Nm} {ix:Nat} {un:List Nat} {l:Bool} {lg:Lg} {g:FuncId} {aa:Array Operand} {ts:Array TypeId}
theorem WL {as':Nat→Nat→Nat→List A} {F:mM} {x:A} (r q t:Nat) (h1:r ≠ q) (h2:r ≠ t) (h3:q ≠ t)
  (hx1:∀ g δ,x.ren g δ=x) (hx2:∀ D,x.refs D)
  (fa1:∀ {g:Nm→Nm} {δ:Nm→Nat} {r r' q q' t t':Nat},(∀ p,g (r::p)=r'::p)→(∀ p,g (q::p)=q'::p)→(∀ p,g (t::p)=t'::p)→(∀ p,δ (r::p)=0)→(∀ p,δ (q::p)=0)→(∀ p,δ (t::p)=0)→A.renL g δ (as' r q t)=as' r' q' t')
  (fa2:∀ {P:Nm→Prop} {r q t:Nat},(∀ p,P (r::p))→(∀ p,P (q::p))→(∀ p,P (t::p))→A.refsL P (as' r q t))
  (hS:SpecH P g 3 (as' 0 1 2) (ov 0 (F.B 0 1 2) (ov 1 (F.C 0 1 2) (ov 2 (F.D 0 1 2) (Ga [])))) x (ov 0 (F.B 0 1 2) (ov 1 (F.C 0 1 2) (ov 2 (F.D 0 1 2) (Ga [])))))
  (hB:∀ p,H (r::p)=F.B r q t p) (hC:∀ p,H (q::p)=F.C r q t p) (hD:∀ p,H (t::p)=F.D r q t p) :
  ∃ E,Td P H g (as' r q t) x E [] ([r,q,t].map fun r=>([r],true))∧E.app H=H:=by
 have hd:∀ p,LU [r,q,t] 3 H (0::p)=0:=fun p=>rfl;have hd1:∀ p,LU [r,q,t] 3 H (1::p)=0:=fun p=>rfl;have hd2:∀ p,LU [r,q,t] 3 H (2::p)=0:=fun p=>rfl;have i0:[r,q,t].idxOf r=0:=by simp
 have i1:[r,q,t].idxOf q=1:=by simp[List.idxOf_cons,beq_eq_false_iff_ne.2 h1]
 have i2:[r,q,t].idxOf t=2:=by simp[List.idxOf_cons,beq_eq_false_iff_ne.2 h2,beq_eq_false_iff_ne.2 h3]
 have d0:∀ p,Py [r,q,t] (r::p)=0::p:=fun p=>by simp[Py]
 have d1:∀ p,Py [r,q,t] (q::p)=1::p:=fun p=>by simp[Py,i1]
 have d2:∀ p,Py [r,q,t] (t::p)=2::p:=fun p=>by simp[Py,i2]
 have u0:∀ p,MB [r,q,t] (0::p)=r::p:=fun p=>by simp[MB]
 have u1:∀ p,MB [r,q,t] (1::p)=q::p:=fun p=>by simp[MB]
 have u2:∀ p,MB [r,q,t] (2::p)=t::p:=fun p=>by simp[MB]
 have jin:∀ {j:Nat},[r,q,t].idxOf j<3→j=r∨j=q∨j=t:=fun {j} hj=>by
  have:=(idx_mem (rs:=[r,q,t])).1 (by simpa using hj);simpa using this
 have key:=YQ (H:=H) (L:=as' r q t) (H':=H) [r,q,t] 3 hS (by simp[h1,h2,h3]) (by simp) (fa1 d0 d1 d2 (fun _=>rfl) (fun _=>rfl) (fun _=>rfl)) (fa2 (fun p=>by simp[NB]) (fun p=>by simp[NB,i1]) (fun p=>by simp[NB,i2])) ?_ ?_ (hx2 _) ?_ (fun i p h1 h2=>by simp at h2;omega) ?_
 ·rw[hx1] at key;exact key
 ·funext o;cases o with
  |nil=>rfl
  |cons i p=>
   by_cases hi:i<3
   ·simp only[J9,if_pos hi];have h01:i=0∨i=1∨i=2:=by omega
    rcases h01 with rfl | rfl | rfl
    ·show(H (r::p)).ren _ _ 0=_;rw[hB];simp only[AW,if_true];exact(F.ren d0 d1 d2 (fun _=>rfl) (fun _=>rfl) (fun _=>rfl) p).1
    ·show(H (q::p)).ren _ _ 0=_;rw[hC];simp only[AW,if_true];rw[if_neg (by omega)];exact(F.ren d0 d1 d2 (fun _=>rfl) (fun _=>rfl) (fun _=>rfl) p).2.1
    ·show(H (t::p)).ren _ _ 0=_;rw[hD];simp only[AW,if_true];rw[if_neg (by omega),if_neg (by omega)];exact(F.ren d0 d1 d2 (fun _=>rfl) (fun _=>rfl) (fun _=>rfl) p).2.2
   ·simp only[J9,if_neg hi,AW];rw[if_neg (by omega),if_neg (by omega),if_neg (by omega)];rfl
 ·intro j p hj;have R:=F.refs (P:=NB [r,q,t] 3) (r:=r) (q:=q) (t:=t) (fun p=>by simp[NB]) (fun p=>by simp[NB,i1]) (fun p=>by simp[NB,i2]) p;rcases jin hj with rfl | rfl | rfl
  ·rw[hB];exact R.1
  ·rw[hC];exact R.2.1
  ·rw[hD];exact R.2.2
 ·intro i p hi;have hi:i<3:=hi;have R:=F.refs (P:=FG 3) (r:=0) (q:=1) (t:=2) (fun p=>by simp[FG]) (fun p=>by simp[FG]) (fun p=>by simp[FG]) p;by_cases e0:i=0
  ·subst e0;simp only[AW,if_true];exact R.1
  ·by_cases e1:i=1
   ·subst e1;simp only[AW,if_true];rw[if_neg (by omega)];exact R.2.1
   ·have:i=2:=by omega
    subst this;simp only[AW,if_true];rw[if_neg (by omega),if_neg (by omega)];exact R.2.2
 ·funext o;cases o with
  |nil=>rfl
  |cons j p=>
   by_cases hj:j=r
   ·subst hj;simp only[Kw,AW,if_true];rw[if_pos (by simp),i0,if_pos rfl,hd,hB];exact(F.ren u0 u1 u2 hd hd1 hd2 p).1
   ·by_cases hj2:j=q
    ·subst hj2;simp only[Kw,AW,if_true];rw[if_pos (by simp),i1,if_neg (by omega),if_pos rfl,hd1,hC];exact(F.ren u0 u1 u2 hd hd1 hd2 p).2.1
    ·by_cases hj3:j=t
     ·subst hj3;simp only[Kw,AW,if_true];rw[if_pos (by simp),i2,if_neg (by omega),if_neg (by omega),if_pos rfl,hd2,hD];exact(F.ren u0 u1 u2 hd hd1 hd2 p).2.2
     ·have:¬ [r,q,t].contains j=true:=by simp[hj,hj2,hj3]
      simp only[Kw,if_neg this]
theorem P6 {as':Nat→Nat→Nat→List A} {F:mM} {x:A} {fo:Operand} {fs caps:List A} (r q t:Nat) (h1:r ≠ q) (h2:r ≠ t) (h3:q ≠ t) (hv0:evs s fo = .fnc g fs caps)
  (hx1:∀ g δ,x.ren g δ=x) (hx2:∀ D,x.refs D)
  (fa1:∀ {g:Nm→Nm} {δ:Nm→Nat} {r r' q q' t t':Nat},(∀ p,g (r::p)=r'::p)→(∀ p,g (q::p)=q'::p)→(∀ p,g (t::p)=t'::p)→(∀ p,δ (r::p)=0)→(∀ p,δ (q::p)=0)→(∀ p,δ (t::p)=0)→A.renL g δ (as' r q t)=as' r' q' t')
  (fa2:∀ {P:Nm→Prop} {r q t:Nat},(∀ p,P (r::p))→(∀ p,P (q::p))→(∀ p,P (t::p))→A.refsL P (as' r q t))
  (hS:SpecH P g 3 (as' 0 1 2) (ov 0 (F.B 0 1 2) (ov 1 (F.C 0 1 2) (ov 2 (F.D 0 1 2) (Ga [])))) x (ov 0 (F.B 0 1 2) (ov 1 (F.C 0 1 2) (ov 2 (F.D 0 1 2) (Ga [])))))
  (hB:∀ p,H (r::p)=F.B r q t p) (hC:∀ p,H (q::p)=F.C r q t p) (hD:∀ p,H (t::p)=F.D r q t p) (ha:fs++(aa.toList.map (evs s)++caps)=as' r q t) (hck:Ck un lg ⟨[([r],true),([q],true),([t],true)],[]⟩)
  (h:Am P K rest (AR l ix ⟨[([r],true),([q],true),([t],true)],[]⟩ lg) (Sta.put ⟨s,H⟩ dd x H)) :
  Am P K (⟨dd,.call { callee:=.value fo,args:=aa,argTypes:=ts },none,nm,ix,un,l⟩::rest) lg ⟨s,H⟩:=by
 refine Sa hv0 ha .nil [([r],true),([q],true),([t],true)] [] (fun H2 hag=>?_) (fun o H2 ho=>rfl) hck h;have e1:∀ p,H2 (r::p)=F.B r q t p:=fun p=>by rw[hag (r::p) (by simp[QQ,NL,List.isPrefixOf]),hB]
 have e2:∀ p,H2 (q::p)=F.C r q t p:=fun p=>by rw[hag (q::p) (by simp[QQ,NL,List.isPrefixOf]),hC]
 have e3:∀ p,H2 (t::p)=F.D r q t p:=fun p=>by rw[hag (t::p) (by simp[QQ,NL,List.isPrefixOf]),hD]
 obtain⟨E,hc,hE⟩:=WL r q t h1 h2 h3 hx1 hx2 fa1 fa2 hS e1 e2 e3;have hc3:OH P H2 g (as' r q t) x E:=by
  rcases hc with ⟨_,_,_,_,h5⟩ | ⟨_,_,_,h4⟩ | ⟨h1,_⟩
  ·cases h5
  ·cases h4
  ·exact h1 H2 (fun o _=>rfl)
 refine⟨hc3.1,fun c w I μ vs a b d e=>?_⟩;have:=hc3.2 c w I μ vs a b d e;rw[hE] at this;exact this
end
end Go.G
namespace Go.Proofs.YtlaapfplenlfaaaGreat
open Go Go.G Go.Proofs Go.PL
abbrev aF (x:Bool × List T):A:=.sl x.1 (x.2.map tA)
def Oh (v w:Nat) (C:List Cf) (at':Cw) (o:T) (n vo:Nat) (out:List T) (m h:Bool × List T) (vs:Nat):Od:=⟨fun r _=>(LY v w C).F r,fun r q p=>if p=[] then ⟨vs,.cells [.pob [r] v 0,A8 at',iv o.kind,CQ o.words,Bx o.kids,iv n,.osl [q,0] vo 3 0 out.length,aF m,aF h]⟩ else if p=[0] then ⟨vo,.arr 3 (out.map tA)⟩ else ⟨0,.none⟩,fun {g δ r r' q q'} h1 h2 h3 h4 p=>by
  refine⟨(LY v w C).ren h1 h2 p,?_⟩;by_cases hp:p=[]
  ·simp only[if_pos hp];exact Fam.cells_ren (by simp[A.renL,A.ren,h1,h2,h3,h4])
  ·by_cases hp2:p=[0]
   ·simp only[if_neg hp,if_pos hp2];refine Fam.arr_ren ?_;simp only[C3,List.map_map];exact List.map_congr_left fun x _=>by simp[A.ren,A.renL]
   ·simp only[if_neg hp,if_neg hp2];rfl,fun {D r q} h1 h2 p=>by
  refine⟨(LY v w C).refs h1 p,?_⟩;by_cases hp:p=[]
  ·simp only[if_pos hp];simp[Ob.refs,A.refsL,A.refs,h1,h2]
  ·by_cases hp2:p=[0]
   ·simp only[if_neg hp,if_pos hp2,Ob.refs,refsL_iff];intro y hy;obtain⟨x,_,rfl⟩:=List.mem_map.1 hy;simp[A.refs,A.refsL]
   ·simp only[if_neg hp,if_neg hp2];trivial⟩
@[simp] theorem AbG {v w:Nat} {C:List Cf} {at':Cw} {o:T} {n vo:Nat} {out:List T} {m h:Bool × List T} {vs r q:Nat} {p:Nm}:(Oh v w C at' o n vo out m h vs).B r q p=(LY v w C).F r p:=rfl
@[simp] theorem AbP {v w:Nat} {C:List Cf} {at':Cw} {o:T} {n vo:Nat} {out:List T} {m h:Bool × List T} {vs r q:Nat} {p:Nm}:(Oh v w C at' o n vo out m h vs).C r q p=if p=[] then ⟨vs,.cells [.pob [r] v 0,A8 at',iv o.kind,CQ o.words,Bx o.kids,iv n,.osl [q,0] vo 3 0 out.length,aF m,aF h]⟩ else if p=[0] then ⟨vo,.arr 3 (out.map tA)⟩ else ⟨0,.none⟩:=rfl
def Wl (S:Od) (vs:Nat):mM:=⟨fun r q t p=>if p=[] then ⟨1,.cells [.pob [q] vs 0]⟩ else ⟨0,.none⟩,fun r q t p=>S.C t q p,fun r q t p=>S.B t q p,fun {g δ r r' q q' t t'} h1 h2 h3 d1 d2 d3 p=>by
  refine⟨?_,(S.ren h3 d3 h2 d2 p).2,(S.ren h3 d3 h2 d2 p).1⟩;by_cases hp:p=[]
  ·simp only[if_pos hp];exact Fam.cells_ren (by simp[A.renL,A.ren,h2,d2])
  ·simp only[if_neg hp];rfl,fun {D r q t} h1 h2 h3 p=>by
  refine⟨?_,(S.refs h3 h2 p).2,(S.refs h3 h2 p).1⟩;by_cases hp:p=[]
  ·simp only[if_pos hp];simp[Ob.refs,A.refsL,A.refs,h2]
  ·simp only[if_neg hp];trivial⟩
@[simp] theorem Abt {S:Od} {vs r q t:Nat} {p:Nm}:(Wl S vs).B r q t p=if p=[] then ⟨1,.cells [.pob [q] vs 0]⟩ else ⟨0,.none⟩:=rfl
@[simp] theorem AbI {S:Od} {vs r q t:Nat} {p:Nm}:(Wl S vs).C r q t p=S.C t q p:=rfl
@[simp] theorem Abh {S:Od} {vs r q t:Nat} {p:Nm}:(Wl S vs).D r q t p=S.B t q p:=rfl
theorem Ov {v w:Nat} {C:List Cf} {at':Cw} {o:T} {n vo:Nat} {out:List T} {m h:Bool × List T} {vs:Nat} (b:Bool) (l:List T) :
  SpecH Tryz.prog 134 3 [.sl b (l.map tA),.pob [0] 1 0] (ov 0 ((Wl (Oh v w C at' o n vo out m h vs) vs).B 0 1 2) (ov 1 ((Wl (Oh v w C at' o n vo out m h vs) vs).C 0 1 2) (ov 2 ((Wl (Oh v w C at' o n vo out m h vs) vs).D 0 1 2) (Ga [])))) (tX (.mk o.kind [] l)) (ov 0 ((Wl (Oh v w C at' o n vo out m h vs) vs).B 0 1 2) (ov 1 ((Wl (Oh v w C at' o n vo out m h vs) vs).C 0 1 2) (ov 2 ((Wl (Oh v w C at' o n vo out m h vs) vs).D 0 1 2) (Ga [])))):=by
 refine K3 Lp (by simp) fun w0 I0 M0 m0 hM=>?_;unfold G7;simp;generalize hH:ov 0 ((Wl (Oh v w C at' o n vo out m h vs) vs).B 0 1 2) (ov 1 ((Wl (Oh v w C at' o n vo out m h vs) vs).C 0 1 2) (ov 2 ((Wl (Oh v w C at' o n vo out m h vs) vs).D 0 1 2) (Ga [([3],⟨1,.cells [iv o.kind,.sl true [],.sl b (l.map tA)]⟩)])))=H;have h3:H [3]=⟨1,.cells [iv o.kind,.sl true [],.sl b (l.map tA)]⟩:=by rw[← hH];simp
 obtain⟨H2,g1,g2⟩:=HZ (c:=HY Tryz.prog w0 I0 M0 11 m0) (s:=lk [(3,.pob [3] 1 0)]) (H:=H) (fun _=>False) (fun _ _ _ h=>h.elim) (r0:=3) (p0:=[]) (by simp) h3 (cs':=Uj (.mk o.kind [] l)) (by simp[A.ones]) (fun H1 _=>⟨Ad rfl,Ah,Ah,trivial⟩);refine Hi g1 (QW (r0:=tX (.mk o.kind [] l)) (by simp[EC]) rfl fun i p hi=>?_);have e1:=g2 i p (by simp);dsimp only;rw[Ax (by simp;omega),e1,← hH];by_cases e0:i=0
 ·subst e0;simp
 ·by_cases e1:i=1
  ·subst e1;simp
  ·have:i=2:=by omega
   subst this;simp
theorem mH {l m:List T}:(decide (l.length=m.length)&&(l.zip m).all fun p=>G9 p.1 p.2)=true ↔ l.map Af=m.map Af:=by
 induction l generalizing m with
 |nil=>cases m<;>simp
 |cons x l ih=>
  cases m with
  |nil=>simp
  |cons y m=>
   have:=ih (m:=m);simp only[Bool.and_eq_true,decide_eq_true_eq] at this ⊢;rw[List.zip_cons_cons,List.all_cons,Bool.and_eq_true,List.map_cons,List.map_cons,List.cons.injEq,← this,eqT_iff];simp only[List.length_cons,Nat.add_right_cancel_iff];constructor
   ·rintro⟨a,b,c⟩;exact⟨b,a,c⟩
   ·rintro⟨b,a,c⟩;exact⟨a,b,c⟩
noncomputable def Ig (l m:List T):Bool:=decide (l.length=m.length)&&(l.zip m).all fun p=>G9 p.1 p.2
theorem eqLs_iff {l m:List T}:Ig l m=true ↔ l.map Af=m.map Af:=mH
theorem SK {l m:List T} (he:l.length=m.length):Ig l m=true ↔ ∀ k,k<l.length→G9 (l.getD k T0) (m.getD k T0)=true:=by
 rw[eqLs_iff];constructor
 ·intro h k hk;have:=congrArg (fun x=>x.getD k T0) h;simp only[ES] at this;exact eqT_iff.2 this
 ·intro h;refine List.ext_getElem (by simp[he]) fun k h1 h2=>?_;have hk:k<l.length:=by simpa using h1
  have hk2:k<m.length:=by omega
  have:=eqT_iff.1 (h k hk);simpa[hk,hk2] using this
variable {n0:Nat} {w0:World} {I0:Nat→Prop} {Q:Exit→Sta→Prop}
theorem oQ {l m:List T} (hl:∀ t,t ∈ l→AD t) (hm:∀ t,t ∈ m→AD t) (he:l.length=m.length) (hb:l.length≤10000000000000) (hq:Ig l m=true→∀ st H,Q (.exit 0) ⟨lk ([(1,Bx m),(2,.fnc 57 [] [])]++st),H⟩) (hf:Ig l m=false→∀ H,Q .ret ⟨lk [(6,bv false)],H⟩):∀ (j i:Nat) (H:Hp),i+j=l.length→(∀ k,k<i→G9 (l.getD k T0) (m.getD k T0)=true) →
  LoopC (cx Tryz.prog w0 I0 n0) Al Q ⟨lk [(1,Bx m),(2,.fnc 57 [] []),(15,Bx l),(16,iv l.length),(17,iv i)],H⟩:=by
 intro j;induction j with
 |zero=>
  intro i H hj hp;have:i=l.length:=by omega
  subst this;refine Ab Aj Al.eq_1 ?_;simp;have:=hq ((SK he).2 hp) [(15,Bx l),(16,iv l.length),(17,iv l.length),(18,bv false)] H;simpa using this
 |succ j ih=>
  intro i H hj hp;have h1:i<l.length:=by omega
  have h2:i<m.length:=by omega
  have ew:=AI i;have E:=I3 (hl _ (BD h1)) (hm _ (BD h2));have eg:G9 (l.getD i T0) (m.getD i T0)=G9 l[i] m[i]:=by simp[h1,h2]
  refine Ab Aj Al.eq_1 ?_;cases hc:G9 l[i] m[i] with
  |true=>
   rw[hc] at E;simp[h1,h2,Aa];refine Ro rfl E (by simp) ?_;simp[ew];refine ih (i+1) _ (by omega) fun k hk=>?_;by_cases e:k=i
   ·subst e;rw[eg,hc]
   ·exact hp k (by omega)
  |false=>
   rw[hc] at E;simp[h1,h2,Aa];refine Ro rfl E (by simp) ?_;simp[ew];refine hf ?_ _;cases hx:Ig l m with
   |false=>rfl
   |true=>
    have:=(SK he).1 hx i h1;rw[eg,hc] at this;cases this
theorem Uv {l m:List T} (hl:∀ t,t ∈ l→AD t) (hm:∀ t,t ∈ m→AD t) (hb:l.length≤10000000000000):G.Spec Tryz.prog 126 [Bx l,Bx m,.fnc 57 [] []] (bv (Ig l m)):=by
 refine Ag Ba (by simp) fun w0 I0=>?_;unfold AH;by_cases he:l.length=m.length
 ·simp[he];refine LoopC.le (Ay [(1,Bx m),(2,.fnc 57 [] []),(15,Bx l),(16,iv l.length),(17,iv (0:Nat))] (by simp[he])) ?_;refine oQ hl hm he hb (fun hx st H=>?_) (fun hx H=>?_) l.length 0 _ (by omega) (fun k hk=>by omega)
  ·rw[hx];simp;exact Ad rfl
  ·rw[hx];simp;exact Ad rfl
 ·have hx:Ig l m=false:=by
   cases hx:Ig l m with
   |false=>rfl
   |true=>exact absurd (by simpa using congrArg List.length (eqLs_iff.1 hx)) he
  have hi:¬ ((l.length:Int)=m.length):=by omega
  rw[hx];simp[he,hi];exact Ad rfl
noncomputable def F9 (mine hers:List T):Option (List T):=if mine=[] then some hers else if Ig mine hers=true then some hers else if hers=[] then some mine else none
noncomputable def QI (mine hers:List T):Nat:=if (F9 mine hers).isSome=true then 1 else 0
theorem Wt (at':Cw) (kind:Int) (n:Nat) (mine hers:List T):(∀ l,F9 mine hers=some l→Eb at' kind n mine hers=(l.map Af,[]))∧(F9 mine hers=none→Eb at' kind n mine hers=([],[⟨at'++[(2,(n:Int))],Af (.mk kind [] []),Af (.mk kind [] mine),Af (.mk kind [] hers)⟩])):=by
 unfold F9 Eb;by_cases h1:mine=[]
 ·simp[h1]
 ·by_cases h2:Ig mine hers=true
  ·simp[h1,h2,eqLs_iff.1 h2]
  ·have h2':¬ mine.map Af=hers.map Af:=fun h=>h2 (eqLs_iff.2 h);by_cases h3:hers=[]
   ·subst h3;simp[h1,h2,h2']
   ·simp[h1,h2,h2',h3]
theorem Sm {v w:Nat} {C:List Cf} {at':Cw} {o:T} {n vo:Nat} {out mine hers:List T} {vs:Nat} (hm:∀ t,t ∈ mine→AD t) (hh:∀ t,t ∈ hers→AD t) (wo:Db o.kind) (lm:mine.length≤1000000) (lh:hers.length≤1000000) (lo:out.length≤1000000000) (hat:at'.length≤900000) (hC:C.length≤100000000000) :
  KH Tryz.prog 87 (fun r q=>[.pob [q] vs 0]) (Oh v w C at' o n vo out (false,mine) (false,hers) vs) (fun _ _=>.tup []) (Oh v w (C++(Eb at' o.kind n mine hers).2) at' o n (vo+QI mine hers) (out++(F9 mine hers).getD []) (true,[]) (true,[]) vs):=by
 have E:=Uv hm hh (by omega);have G:=Wt at' o.kind n mine hers;have hml:(mine.length:Int)=0 ↔ mine=[]:=by rw[← List.length_eq_zero_iff];omega
 have hhl:(hers.length:Int)=0 ↔ hers=[]:=by rw[← List.length_eq_zero_iff];omega
 refine Hv M9 (by simp) (Be (Li AX) Gk) (Cy (Ec Av)) fun w0 I0 M0 m0=>?_;unfold IE;by_cases h1:mine=[]
 ·have hR:F9 mine hers=some hers:=if_pos h1;rw[G.1 _ hR,QI,hR];subst h1;simp;refine AU rfl ?_;simp[Aa,splice];refine⟨by omega,?_⟩;refine C5 rfl rfl (fun p=>?_) (fun p=>?_)
  ·simp[Aa]
  ·by_cases p1:p=[]
   ·subst p1;simp[Aa]
   ·by_cases p2:p=[0]
    ·subst p2;simp[Aa,AN]
    ·simp[Aa,p1,p2]
 ·have hml':¬ (mine.length:Int)=0:=fun h=>h1 (hml.1 h);by_cases h2:Ig mine hers=true
  ·have hR:F9 mine hers=some hers:=by rw[F9,if_neg h1,if_pos h2]
   rw[G.1 _ hR,QI,hR];rw[h2] at E;simp[h1,hml'];rw[D8];simp[h1,hml'];refine Ae E (by simp) ?_;simp[Aa,splice];refine⟨by omega,?_⟩;refine C5 rfl rfl (fun p=>?_) (fun p=>?_)
   ·simp[Aa]
   ·by_cases p1:p=[]
    ·subst p1;simp[Aa]
    ·by_cases p2:p=[0]
     ·subst p2;simp[Aa,AN]
     ·simp[Aa,p1,p2]
  ·have h2f:Ig mine hers=false:=by
    cases h:Ig mine hers with
    |false=>rfl
    |true=>exact absurd h h2
   rw[h2f] at E;by_cases h3:hers=[]
   ·have hR:F9 mine hers=some mine:=by rw[F9,if_neg h1,if_neg h2,if_pos h3]
    rw[G.1 _ hR,QI,hR];subst h3;simp[h1,hml'];rw[D8];simp[h1,hml'];refine Ae E (by simp) ?_;simp[Aa,splice];refine⟨by omega,?_⟩;refine C5 rfl rfl (fun p=>?_) (fun p=>?_)
    ·simp[Aa]
    ·by_cases p1:p=[]
     ·subst p1;simp[Aa]
     ·by_cases p2:p=[0]
      ·subst p2;simp[Aa,AN]
      ·simp[Aa,p1,p2]
   ·have hR:F9 mine hers=none:=by rw[F9,if_neg h1,if_neg h2,if_neg h3]
    have hhl':¬ (hers.length:Int)=0:=fun h=>h3 (hhl.1 h);rw[G.2 hR,QI,hR];have F:=Hh at' 2 n (by omega);simp[h1,hml'];rw[D8];simp[h1,hml'];refine Ae E (by simp) ?_;simp[Aa,h3,hhl'];refine Ae F (by simp) ?_;simp;have B1:=Ov (v:=v) (w:=w) (C:=C) (at':=at') (o:=o) (n:=n) (vo:=vo) (out:=out) (m:=(false,mine)) (h:=(false,hers)) (vs:=vs) true [];have B2:=Ov (v:=v) (w:=w) (C:=C) (at':=at') (o:=o) (n:=n) (vo:=vo) (out:=out) (m:=(false,mine)) (h:=(false,hers)) (vs:=vs) false mine;have B3:=Ov (v:=v) (w:=w) (C:=C) (at':=at') (o:=o) (n:=n) (vo:=vo) (out:=out) (m:=(false,mine)) (h:=(false,hers)) (vs:=vs) false hers;have wf1:∀ l:List T,(∀ t,t ∈ l→AD t)→l.length≤1000000→AD (.mk o.kind [] l):=fun l h1 h2=>wfT_iff.2 ⟨wo,by simp,by simp,by show l.length*56≤_;omega,h1⟩;have CL:=Mg (l:=at'++[(2,(n:Int))]) (b:=.mk o.kind [] []) (o:=.mk o.kind [] mine) (t:=.mk o.kind [] hers) (by simp;omega) (wf1 [] (fun t ht=>nomatch ht) (by simp)) (wf1 mine hm lm) (wf1 hers hh lh) v w hC;have hB:∀ p,(ov 0 ((Oh v w C at' o n vo out (false,mine) (false,hers) vs).B 0 1) (ov 1 ((Oh v w C at' o n vo out (false,mine) (false,hers) vs).C 0 1) (Ga [([2],⟨1,.cells [.pob [1] vs 0]⟩)]))) (2::p)=(Wl (Oh v w C at' o n vo out (false,mine) (false,hers) vs) vs).B 2 1 0 p:=fun p=>by
     by_cases hp:p=[]
     ·subst hp;simp
     ·simp[hp,Ga,Ne.symm hp]
    have fa1:∀ (b:Bool) (l:List T) {g:Nm→Nm} {δ:Nm→Nat} {r r' q q' t t':Nat},(∀ p,g (r::p)=r'::p)→(∀ p,g (q::p)=q'::p)→(∀ p,g (t::p)=t'::p)→(∀ p,δ (r::p)=0)→(∀ p,δ (q::p)=0)→(∀ p,δ (t::p)=0)→A.renL g δ [.sl b (l.map tA),.pob [r] 1 0]=[.sl b (l.map tA),.pob [r'] 1 0]:=fun b l _ _ _ _ _ _ _ _ h1 _ _ d1 _ _=>by simp[A.renL,A.ren,h1,d1]
    have fa2:∀ (b:Bool) (l:List T) {P:Nm→Prop} {r q t:Nat},(∀ p,P (r::p))→(∀ p,P (q::p))→(∀ p,P (t::p))→A.refsL P [.sl b (l.map tA),.pob [r] 1 0]:=fun b l _ _ _ _ h1 _ _=>by simp[A.refsL,A.refs,h1]
    refine P6 (as':=fun r q t=>[.sl true [],.pob [r] 1 0]) (F:=Wl (Oh v w C at' o n vo out (false,mine) (false,hers) vs) vs) (fs:=[]) (caps:=[.pob [2] 1 0]) 2 1 0 (by decide) (by decide) (by decide) (by simp) (fun g δ=>by simp[A.ren,A.renL]) (fun D=>by simp[A.refs,A.refsL]) (fa1 true []) (fa2 true []) B1 hB (fun p=>by simp) (fun p=>by simp) (by simp) (by simp) ?_;simp;refine P6 (as':=fun r q t=>[.sl false (mine.map tA),.pob [r] 1 0]) (F:=Wl (Oh v w C at' o n vo out (false,mine) (false,hers) vs) vs) (fs:=[]) (caps:=[.pob [2] 1 0]) 2 1 0 (by decide) (by decide) (by decide) (by simp) (fun g δ=>by simp[A.ren,A.renL]) (fun D=>by simp[A.refs,A.refsL]) (fa1 false mine) (fa2 false mine) B2 hB (fun p=>by simp) (fun p=>by simp) (by simp) (by simp) ?_;simp;refine P6 (as':=fun r q t=>[.sl false (hers.map tA),.pob [r] 1 0]) (F:=Wl (Oh v w C at' o n vo out (false,mine) (false,hers) vs) vs) (fs:=[]) (caps:=[.pob [2] 1 0]) 2 1 0 (by decide) (by decide) (by decide) (by simp) (fun g δ=>by simp[A.ren,A.renL]) (fun D=>by simp[A.refs,A.refsL]) (fa1 false hers) (fa2 false hers) B3 hB (fun p=>by simp) (fun p=>by simp) (by simp) (by simp) ?_;simp;refine Bp 0 CL (fun p=>by simp) (by simp) (by simp[List.isPrefixOf]) ?_;simp[Aa,splice];refine C5 rfl rfl (fun p=>?_) (fun p=>?_)
    ·simp[Aa]
    ·by_cases p1:p=[]
     ·subst p1;simp[Aa]
     ·by_cases p2:p=[0]
      ·subst p2;simp[Aa]
      ·simp[Aa,p1,p2]
def Wn (e:E) (t:T):Prop:=G.Spec Tryz.prog 54 [eX e,tX t] (tX (Ea e t))∧AD (Ea e t)∧Af (Ea e t)=Ea e t
theorem MY:Af T0=T0:=rfl
def UtS (f:Nat) (at':Cw) (o:T) (n:Nat) (p q:OP) (us:List T) (cs:List Cf):Prop:=∀ (v w:Nat) (C:List Cf) (vo:Nat) (out:List T) (vs:Nat),C.length+cs.length≤100000000000→out.length≤1000000000 →
 KH Tryz.prog 88 (fun r q'=>[.pob [q'] vs 0,oX p,oX q]) (Oh v w C at' o n vo out (true,[]) (true,[]) vs) (fun _ _=>.tup []) (Oh v w (C++cs) at' o (n+1) (vo+us.length) (out++us) (true,[]) (true,[]) vs)
theorem WA {f:Nat} {at':Cw} (hat:at'.length≤900000) {o:T} (wo:AD o) {n:Nat} (hn:n<o.kids.length) (hn2:n≤1000000000) {p q:OP} (hp:(p.kind=0∧p.e=E0)∨(p.kind=1∧p.e=E0)∨(p.kind=3∧Wn p.e o.kids[n])) (hq:(q.kind=0∧q.e=E0)∨(q.kind=1∧q.e=E0)∨(q.kind=3∧Wn q.e o.kids[n])) {u:T} (hu:de f (at'++[(0,(n:Int))]) o.kids[n] p.e q.e u) :
  ∃ us,(∀ t,t ∈ us→AD t)∧us.length≤1∧us.map Af=(Bz (mg f) (at'++[(0,(n:Int))]) o.kids[n] (IU p) (IU q)).1∧UtS f at' o n p q us (Bz (mg f) (at'++[(0,(n:Int))]) o.kids[n] (IU p) (IU q)).2:=by
 have wk:AD o.kids[n]:=(wfT_iff.1 wo).ks _ (BD hn);have F:=Hh at' 0 n (by omega);have ew:=AI n;by_cases a1:p.kind=1∧q.kind=3
 ·have e1:IU p = .del T0:=by unfold IU;rw[if_neg (by omega),if_pos a1.1]
  have e2:IU q = .desc q.e:=by unfold IU;rw[if_neg (by omega),if_neg (by omega)]
  have D:Wn q.e o.kids[n]:=by
   rcases hq with h | h | h
   ·omega
   ·omega
   ·exact h.2
  rw[e1,e2];refine⟨[o.kids[n]],fun t ht=>by rw[List.mem_singleton.1 ht];exact wk,by simp,rfl,fun v w C vo out vs hC ho=>?_⟩;have CL:=Ku (l:=at'++[(0,(n:Int))]) (b:=o.kids[n]) (o:=T0) (t:=Ea q.e o.kids[n]) true false (by simp;omega) wk QY D.2.1 v w (C:=C) (by simp[Bz] at hC;omega);rw[MY,D.2.2] at CL;have D1:=D.1;simp only[Bz];refine Hv Eo (by simp) (Be (Li AX) (Be (Cy (FP p)) (Be (Cy (FP q)) Gk))) (Cy (Ec Av)) fun w0 I0 M0 m0=>?_;unfold C4;simp[hn];refine Ae F (by simp) ?_;simp[a1.1,a1.2,Aa];refine Ae D1 (by simp) ?_;simp;refine Bp 0 CL (fun p=>by simp) (by simp) (by simp[List.isPrefixOf]) ?_;simp[Aa,splice];refine⟨by omega,by omega,?_⟩;refine C5 rfl rfl (fun p=>?_) (fun p=>?_)
  ·simp[Aa]
  ·by_cases p1:p=[]
   ·subst p1;simp[Aa,ew]
   ·by_cases p2:p=[0]
    ·subst p2;simp[Aa,AN]
    ·simp[Aa,p1,p2]
 by_cases a2:p.kind=3∧q.kind=1
 ·have e1:IU q = .del T0:=by unfold IU;rw[if_neg (by omega),if_pos a2.2]
  have e2:IU p = .desc p.e:=by unfold IU;rw[if_neg (by omega),if_neg (by omega)]
  have D:Wn p.e o.kids[n]:=by
   rcases hp with h | h | h
   ·omega
   ·omega
   ·exact h.2
  rw[e1,e2];refine⟨[o.kids[n]],fun t ht=>by rw[List.mem_singleton.1 ht];exact wk,by simp,rfl,fun v w C vo out vs hC ho=>?_⟩;have CL:=Ku (l:=at'++[(0,(n:Int))]) (b:=o.kids[n]) (o:=Ea p.e o.kids[n]) (t:=T0) false true (by simp;omega) wk D.2.1 QY v w (C:=C) (by simp[Bz] at hC;omega);rw[MY,D.2.2] at CL;have D1:=D.1;simp only[Bz];refine Hv Eo (by simp) (Be (Li AX) (Be (Cy (FP p)) (Be (Cy (FP q)) Gk))) (Cy (Ec Av)) fun w0 I0 M0 m0=>?_;unfold C4;simp[hn];refine Ae F (by simp) ?_;simp[a2.1,a2.2,Aa];refine Ae D1 (by simp) ?_;simp;refine Bp 0 CL (fun p=>by simp) (by simp) (by simp[List.isPrefixOf]) ?_;simp[Aa,splice];refine⟨by omega,by omega,?_⟩;refine C5 rfl rfl (fun p=>?_) (fun p=>?_)
  ·simp[Aa]
  ·by_cases p1:p=[]
   ·subst p1;simp[Aa,ew]
   ·by_cases p2:p=[0]
    ·subst p2;simp[Aa,AN]
    ·simp[Aa,p1,p2]
 by_cases a3:p.kind=1∨q.kind=1
 ·have hM:Bz (mg f) (at'++[(0,(n:Int))]) o.kids[n] (IU p) (IU q)=([],[]):=by
   rcases hp with h | h | h<;>rcases hq with g | g | g<;>(try omega)<;>simp[IU,h.1,g.1,Bz]
  rw[hM];refine⟨[],(fun t ht=>by simp at ht),by simp,rfl,fun v w C vo out vs hC ho=>?_⟩;refine Hv Eo (by simp) (Be (Li AX) (Be (Cy (FP p)) (Be (Cy (FP q)) Gk))) (Cy (Ec Av)) fun w0 I0 M0 m0=>?_;unfold C4;simp[hn];refine Ae F (by simp) ?_;by_cases b1:p.kind=1
  ·have b2:¬ q.kind=3:=fun h=>a1 ⟨b1,h⟩;simp[b1,b2,Aa];refine C5 rfl rfl (fun p=>?_) (fun p=>?_)
   ·simp[Aa]
   ·by_cases p1:p=[]
    ·subst p1;simp[Aa,ew]
    ·simp[Aa,p1]
  ·have b2:q.kind=1:=by omega
   have b3:¬ p.kind=3:=fun h=>a2 ⟨h,b2⟩;simp[b1,b2,b3,Aa];refine C5 rfl rfl (fun p=>?_) (fun p=>?_)
   ·simp[Aa]
   ·by_cases p1:p=[]
    ·subst p1;simp[Aa,ew]
    ·simp[Aa,p1]
 ·have b1:¬ p.kind=1:=fun h=>a3 (.inl h);have b2:¬ q.kind=1:=fun h=>a3 (.inr h);have hM:Bz (mg f) (at'++[(0,(n:Int))]) o.kids[n] (IU p) (IU q)=([(mg f (at'++[(0,(n:Int))]) o.kids[n] p.e q.e).1],(mg f (at'++[(0,(n:Int))]) o.kids[n] p.e q.e).2):=by
   rcases hp with h | h | h<;>rcases hq with g | g | g<;>(try omega)
   ·rw[h.2,g.2];simp[IU,h.1,g.1,Bz,eU]
   ·rw[h.2];simp[IU,h.1,g.1,Bz,eU]
   ·rw[g.2];simp[IU,h.1,g.1,Bz,eU]
   ·simp[IU,h.1,g.1,Bz,eU]
  obtain⟨u1,u2,u3⟩:=hu;rw[hM];refine⟨[u],fun t ht=>by rw[List.mem_singleton.1 ht];exact u1,by simp,by simp[u2],fun v w C vo out vs hC ho=>?_⟩;have S:=u3 v w C hC;refine Hv Eo (by simp) (Be (Li AX) (Be (Cy (FP p)) (Be (Cy (FP q)) Gk))) (Cy (Ec Av)) fun w0 I0 M0 m0=>?_;unfold C4;simp[hn];refine Ae F (by simp) ?_;simp[b1,b2,Aa];refine Bp 0 S (fun p=>by simp) (by simp) (by simp[List.isPrefixOf]) ?_;simp[Aa,splice];refine⟨by omega,by omega,?_⟩;refine C5 rfl rfl (fun p=>?_) (fun p=>?_)
  ·simp[Aa]
  ·by_cases p1:p=[]
   ·subst p1;simp[Aa,ew]
   ·by_cases p2:p=[0]
    ·subst p2;simp[Aa,AN]
    ·simp[Aa,p1,p2]
end Go.Proofs.YtlaapfplenlfaaaGreat
namespace Go.G
open Go
theorem Xl {c:Cx} {s:Nat→A} {H:Hp} (R:Nat→Prop) [DecidablePred R] (hM:∀ r p b,R r→¬ c.M0 (r::p) b) {r0:Nat} {p0:Nm} (hr0:¬ R r0) {u:Nat} {cs cs':List A} (hd:H (r0::p0)=⟨u,.cells cs⟩) (h1:A.ones cs'=true)
  (hf:∀ H1:Hp,(∀ r p,R r→H1 (r::p)=H (r::p))→cs.length=cs'.length∧∀ (k:Nat) (x y:A),cs[k]? = some x→cs'[k]? = some y→y=x∨Gy H1 x y) :
  ∃ H2:Hp,Le c ⟨s,H⟩ ⟨s,Az H2 (r0::p0) ⟨u,.cells cs'⟩⟩∧∀ r p,¬ R r→H2 (r::p)=H (r::p):=by
 refine⟨fun o=>match o with | r::p=>if R r then ⟨(H (r::p)).u,.none⟩ else H (r::p) | []=>H [],fun a w I μ hs=>?_,fun r p h=>if_neg h⟩;have part1:Part H (fun o=>match o with | r::p=>if R r then H (r::p) else ⟨(H (r::p)).u,.none⟩ | []=>⟨(H []).u,.none⟩):=fun o=>by
  cases o with
  |nil=>exact .inr rfl
  |cons r p=>
   by_cases hr:R r
   ·exact .inl (by simp[hr])
   ·exact .inr (by simp[hr])
 have part2:Part H (fun o=>match o with | r::p=>if R r then ⟨(H (r::p)).u,.none⟩ else H (r::p) | []=>H []):=fun o=>by
  cases o with
  |nil=>exact .inl rfl
  |cons r p=>
   by_cases hr:R r
   ·exact .inr (by simp[hr])
   ·exact .inl (by simp[hr])
 have h3:=hs.sim.freezeAll part1 part2 (fun o=>by
  cases o with
  |nil=>exact .inl rfl
  |cons r p=>
   by_cases hr:R r
   ·exact .inr (by simp[hr])
   ·exact .inl (by simp[hr])) (fun o b h=>by
  cases o with
  |nil=>exact absurd rfl h
  |cons r p=>
   by_cases hr:R r
   ·exact hM r p b hr
   ·exact absurd (by simp[hr]) h)
 have hd2:(fun o=>match o with | r::p=>if R r then (⟨(H (r::p)).u,.none⟩:VOb) else H (r::p) | []=>H []:Hp) (r0::p0)=⟨u,.cells cs⟩:=by
  show(if R r0 then _ else _)=_;rw[if_neg hr0,hd]
 have hob:=hs.sim.ob (r0::p0);have hob:OSim w I μ (μ (r0::p0)) (.cells cs):=by
  have e:(⟨s,H⟩:Sta).H (r0::p0)=⟨u,.cells cs⟩:=hd;rw[e] at hob;exact hob
 obtain⟨vs,k1,k2,k3⟩:=hob;obtain⟨hl,hg⟩:=(hf (fun o=>match o with | r::p=>if R r then H (r::p) else ⟨(H (r::p)).u,.none⟩ | []=>⟨(H []).u,.none⟩) fun r p h=>if_pos h);have hB:Dv (μ (r0::p0)) ((fun o=>match o with | r::p=>if R r then (⟨(H (r::p)).u,.none⟩:VOb) else H (r::p) | []=>H []:Hp) (r0::p0)).ob=true:=by rw[hd2];rfl
 obtain⟨hx2,hs2⟩:=h3.upd (EP w none) (r0::p0) (μ (r0::p0)) (.cells cs') (.inl rfl) (.inr rfl) (fun _=>.inr ⟨hB,rfl⟩) (fun _=>h3.tag _ hB) (fun hx2=>by
  refine⟨vs,k1,by rw[k2,hl],fun k y hk=>?_⟩;rw[EX];have hlt:k<cs.length:=by have:=(List.getElem?_eq_some_iff.1 hk).1;omega
  have hx:cs[k]? = some cs[k]:=List.getElem?_eq_getElem hlt;simp only[A.ones,List.all_eq_true] at h1;refine⟨h1 y (List.mem_of_getElem? hk),?_⟩;rcases hg k _ y hx hk with e | hfx
  ·rw[e];exact(k3 k _ hx).2.mono0 (fun b h=>.inl h) (fun _ _=>rfl)
  ·exact(hfx c w I μ _ (hs.sim.part part1) (k3 k _ hx).2).ofI)
 have hu:(μ (r0::p0)).u=u:=by exact(h3.ver (r0::p0)).trans (congrArg VOb.u hd2)
 rw[hu] at hs2;exact⟨_,_,hs2,hs.size,hs.defers,fun t=>hx2.rel ((hs.rel t).mono0 (fun b h=>.inl h) (fun _ _=>rfl))⟩
end Go.G
namespace Go.Proofs.YtlaapfplenlfaaaGreat
open Go Go.G Go.Proofs Go.PL
structure zC (v w:Nat) (C:List Cf) (at':Cw) (o:T) (n vo:Nat) (out:List T) (H:Hp):Prop where
 f:∀ p,H (0::p)=(Oh v w C at' o n vo out (true,[]) (true,[]) 1).B 0 5 p
 s:∀ p,H (5::p)=(Oh v w C at' o n vo out (true,[]) (true,[]) 1).C 0 5 p
 o:H [1]=⟨1,.cells (Uj o)⟩
 z:H [4]=⟨1,.cells [iv 0,.sl true [],.sl true []]⟩
def kT:Pc→OP × OP
 |.a o=>(o,O0)
 |.b o=>(O0,o)
 |.both o o'=>(o,o')
theorem db {f:Nat} {at':Cw} (hat:at'.length≤900000) {o:T} (wo:AD o) (hko:o.kids.length≤1000000) {o1 o2:OP} {l:List Pc} {k m:Nat} (hm:m≤10000000):∀ (ks:List T) (i n:Nat),i+ks.length=m→ks=(o.kids.drop n).take ks.length→n+ks.length≤o.kids.length →
  (∀ (i:Nat) (h:i<o.kids.length),o.kids[i] ∈ ks→((o1.kind=0∧o1.e=E0)∨(o1.kind=1∧o1.e=E0)∨(o1.kind=3∧Wn o1.e o.kids[i]))∧((o2.kind=0∧o2.e=E0)∨(o2.kind=1∧o2.e=E0)∨(o2.kind=3∧Wn o2.e o.kids[i]))∧∃ u,de f (at'++[(0,(i:Int))]) o.kids[i] o1.e o2.e u) →
  ∃ us,(∀ t,t ∈ us→AD t)∧us.length≤ks.length∧us.map Af=(Je (mg f) at' o1 o2 ks n).1∧∀ {n0:Nat} {w0:World} {I0:Nat→Prop} {M0:Nm→Nat→Prop} {m0:Mu} {Q:Exit→Sta→Prop} (v w:Nat) (C:List Cf) (vo u6:Nat) (out:List T) (H:Hp),C.length+(Je (mg f) at' o1 o2 ks n).2.length≤100000000000→out.length+ks.length≤1000000000→zC v w C at' o n vo out H→H [6]=⟨u6,.cells (iv 0::(Lw o1++Lw o2))⟩ →
   (∀ (H':Hp) (vo':Nat),zC v w (C++(Je (mg f) at' o1 o2 ks n).2) at' o (n+ks.length) vo' (out++us) H'→Q (.exit 3) ⟨lk [(7,.pob [1] 1 0),(10,.pob [4] 1 0),(11,.pob [5] 1 0),(15,.pob [6] u6 0),(29,ZP l),(30,iv l.length),(31,iv k),(47,iv m),(48,iv m),(49,bv false)],H'⟩) →
   LoopC (HY Tryz.prog w0 I0 M0 n0 m0) CN Q ⟨lk [(7,.pob [1] 1 0),(10,.pob [4] 1 0),(11,.pob [5] 1 0),(15,.pob [6] u6 0),(29,ZP l),(30,iv l.length),(31,iv k),(47,iv m),(48,iv i)],H⟩:=by
 intro ks;induction ks with
 |nil=>
  intro i n hi _ _ _;have:i=m:=by simpa using hi
  subst this;refine⟨[],(fun t ht=>by simp at ht),by simp,rfl,fun {n0 w0 I0 M0 m0 Q} v w C vo u6 out H hC ho hH h6 hq=>?_⟩;refine Ab Aj CN.eq_1 ?_;simp;exact hq H vo (by simpa[Je] using hH)
 |cons t ks ih=>
  intro i n hi hks hn hU;rw[List.length_cons] at hi hks hn;have hlt:i<m:=by omega
  have hnl:n<o.kids.length:=by omega
  have hd:o.kids.drop n=o.kids[n]::o.kids.drop (n+1):=(List.getElem_cons_drop hnl).symm;rw[hd,List.take_succ_cons] at hks;obtain⟨e1,e2⟩:=List.cons.inj hks;obtain⟨d1,d2,u,hu⟩:=hU n hnl (by rw[← e1];simp);obtain⟨us1,a1,a2,a3,a4⟩:=WA hat wo hnl (by omega) d1 d2 hu;obtain⟨us2,b1,b2,b3,b4⟩:=ih (i+1) (n+1) (by omega) e2 (by omega) fun j hj hm=>hU j hj (List.mem_cons_of_mem _ hm);have ew:=AI i;have er:Je (mg f) at' o1 o2 (t::ks) n=((Bz (mg f) (at'++[(0,(n:Int))]) o.kids[n] (IU o1) (IU o2)).1++(Je (mg f) at' o1 o2 ks (n+1)).1,(Bz (mg f) (at'++[(0,(n:Int))]) o.kids[n] (IU o1) (IU o2)).2++(Je (mg f) at' o1 o2 ks (n+1)).2):=by
   rw[Je,e1]
  rw[er];refine⟨us1++us2,fun t ht=>?_,by simp;omega,by rw[List.map_append,a3,b3],fun {n0 w0 I0 M0 m0 Q} v w C vo u6 out H hC ho hH h6 hq=>?_⟩
  ·rcases List.mem_append.1 ht with ht | ht
   ·exact a1 t ht
   ·exact b1 t ht
  rw[List.length_append] at hC;rw[List.length_cons] at ho;have S:=a4 v w C vo out 1 (by omega) (by omega);have next:=b4 (n0:=n0) (w0:=w0) (I0:=I0) (M0:=M0) (m0:=m0) (Q:=Q) v w (C++(Bz (mg f) (at'++[(0,(n:Int))]) o.kids[n] (IU o1) (IU o2)).2) (vo+us1.length) u6 (out++us1)
  generalize (Bz (mg f) (at'++[(0,(n:Int))]) o.kids[n] (IU o1) (IU o2)).2=c at *;refine Ab Aj CN.eq_1 ?_;simp[hlt,h6];refine PO 0 5 (by decide) S hH.f hH.s (by simp) (by simp) ?_;simp;rw[ew];refine next _ (by rw[List.length_append];omega) (by rw[List.length_append];omega) ⟨fun p=>by simp,fun p=>by simp,by simp[hH.o],by simp[hH.z]⟩ (by simp[h6]) fun H' vo' hH'=>?_
  refine hq H' vo' ?_;rw[List.length_cons];have e5:n+1+ks.length=n+(ks.length+1):=by omega
  rw[e5,List.append_assoc,List.append_assoc] at hH';exact hH'
structure rZ (v w:Nat) (C:List Cf) (at':Cw) (o:T) (n vo:Nat) (out:List T) (vm vh:Nat) (mine hers:List T) (H:Hp):Prop where
 f:∀ p,H (0::p)=(LY v w C).F 0 p
 s:H [5]=⟨1,.cells [.pob [0] v 0,A8 at',iv o.kind,CQ o.words,Bx o.kids,iv n,.osl [5,0] vo 3 0 out.length,.osl [7] vm 3 0 mine.length,.osl [8] vh 3 0 hers.length]⟩
 so:H [5,0]=⟨vo,.arr 3 (out.map tA)⟩
 s0:∀ p,p ≠ []→p ≠ [0]→H (5::p)=⟨0,.none⟩
 m:H [7]=⟨vm,.arr 3 (mine.map tA)⟩
 h:H [8]=⟨vh,.arr 3 (hers.map tA)⟩
 o:H [1]=⟨1,.cells (Uj o)⟩
 z:H [4]=⟨1,.cells [iv 0,.sl true [],.sl true []]⟩
theorem Vd {c:Cx} {s:Nat→A} {v w:Nat} {C:List Cf} {at':Cw} {o:T} {n vo:Nat} {out:List T} {H:Hp} (hH:zC v w C at' o n vo out H):∃ (H2:Hp) (vm vh:Nat),Le c ⟨s,H⟩ ⟨s,H2⟩∧rZ v w C at' o n vo out vm vh [] [] H2:=by
 have h5:H [5]=⟨1,.cells [.pob [0] v 0,A8 at',iv o.kind,CQ o.words,Bx o.kids,iv n,.osl [5,0] vo 3 0 out.length,aF (true,[]),aF (true,[])]⟩:=by rw[hH.s];simp
 have l1:=Bc (c:=c) (s:=s) (H:=H) (d:=[5]) 7 [7] 3 h5 rfl (by simp);have l2:=Bc (c:=c) (s:=s) (H:=Az (Az H [7] ⟨(H [7]).u+1,.arr 3 []⟩) [5] ⟨1,.cells [.pob [0] v 0,A8 at',iv o.kind,CQ o.words,Bx o.kids,iv n,.osl [5,0] vo 3 0 out.length,.osl [7] ((H [7]).u+1) 3 0 0,aF (true,[])]⟩) (d:=[5]) (u:=1) (cs:=[.pob [0] v 0,A8 at',iv o.kind,CQ o.words,Bx o.kids,iv n,.osl [5,0] vo 3 0 out.length,.osl [7] ((H [7]).u+1) 3 0 0,aF (true,[])]) 8 [8] 3 (by simp[Aa]) rfl (by simp);refine⟨_,(H [7]).u+1,(H [8]).u+1,l1.trans l2,⟨fun p=>?_,?_,?_,fun p p1 p2=>?_,?_,?_,?_,?_⟩⟩
 ·have:=hH.f p;simp[Aa] at this ⊢;exact this
 ·simp[Aa]
 ·have:=hH.s [0];simp[Aa] at this ⊢;exact this
 ·have:=hH.s p;simp[Aa,p1,p2] at this ⊢;exact this
 ·simp[Aa]
 ·simp[Aa]
 ·simp[Aa,hH.o]
 ·simp[Aa,hH.z]
theorem SA {c:Cx} {s:Nat→A} {v w:Nat} {C:List Cf} {at':Cw} {o:T} {n vo:Nat} {out mine hers:List T} {vm vh:Nat} {H:Hp} (hM:∀ r p b,1≤r→¬ c.M0 (r::p) b) (hH:rZ v w C at' o n vo out vm vh mine hers H):∃ H2:Hp,Le c ⟨s,H⟩ ⟨s,H2⟩∧(∀ p,H2 (0::p)=(Oh v w C at' o n vo out (false,mine) (false,hers) 1).B 0 5 p)∧(∀ p,H2 (5::p)=(Oh v w C at' o n vo out (false,mine) (false,hers) 1).C 0 5 p)∧H2 [1]=H [1]∧H2 [4]=H [4]∧H2 [6]=H [6]:=by
 obtain⟨H2,g1,g2⟩:=Xl (c:=c) (s:=s) (H:=H) (fun r=>r=7∨r=8) (fun r p b h=>hM r p b (by omega)) (r0:=5) (p0:=[]) (by omega) hH.s (cs':=[.pob [0] v 0,A8 at',iv o.kind,CQ o.words,Bx o.kids,iv n,.osl [5,0] vo 3 0 out.length,aF (false,mine),aF (false,hers)]) (by simp[A.ones]) (fun H1 h1=>by
  have f7:Gy H1 (.osl [7] vm 3 0 mine.length) (aF (false,mine)):=A3 (f:=tA) (by rw[h1 7 [] (.inl rfl),hH.m];simp) rfl (fun x=>by simp);have f8:Gy H1 (.osl [8] vh 3 0 hers.length) (aF (false,hers)):=A3 (f:=tA) (by rw[h1 8 [] (.inr rfl),hH.h];simp) rfl (fun x=>by simp);refine⟨rfl,fun k x y hx hy=>?_⟩
  match k with
  |0=>simp at hx hy;exact .inl (by rw[← hx,← hy])
  |1=>simp at hx hy;exact .inl (by rw[← hx,← hy])
  |2=>simp at hx hy;exact .inl (by rw[← hx,← hy])
  |3=>simp at hx hy;exact .inl (by rw[← hx,← hy])
  |4=>simp at hx hy;exact .inl (by rw[← hx,← hy])
  |5=>simp at hx hy;exact .inl (by rw[← hx,← hy])
  |6=>simp at hx hy;exact .inl (by rw[← hx,← hy])
  |7=>simp at hx hy;exact .inr (by rw[← hx,← hy];exact f7)
  |8=>simp at hx hy;exact .inr (by rw[← hx,← hy];exact f8)
  |k+9=>simp at hx)
 refine⟨_,g1,fun p=>?_,fun p=>?_,?_,?_,?_⟩
 ·have:=g2 0 p (by omega);simp[Aa] at this ⊢;rw[this,hH.f];simp
 ·by_cases p1:p=[]
  ·subst p1;simp[Aa]
  ·have:=g2 5 p (by omega);simp only[Aa];rw[if_neg (by simp[p1]),this];by_cases p2:p=[0]
   ·subst p2;simp[hH.so]
   ·simp[hH.s0 p p1 p2,p1,p2]
 ·have:=g2 1 [] (by omega);simpa[Aa] using this
 ·have:=g2 4 [] (by omega);simpa[Aa] using this
 ·have:=g2 6 [] (by omega);simpa[Aa] using this
end Go.Proofs.YtlaapfplenlfaaaGreat
