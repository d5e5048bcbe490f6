/-
 Texts,merged,without what is not reached.
-/
import Derived.Test.YtbjmaoedheiigaaGreatKVg
set_option linter.unusedSimpArgs false
set_option linter.unusedVariables false
namespace Go.Proofs.YtbjmaoedheiigaaGreat
open Go Go.G Go.Proofs Go.PL
structure vH (o:OP):Prop where
 k:o.kind=0∨o.kind=1∨o.kind=2∨o.kind=3
 l:∀ t,t ∈ o.l→BB t
 e:o.kind=3→G.Spec Tryz.prog 52 [eX o.e] (eX (Q5 o.e))
variable {n0:Nat} {w0:World} {I0:Nat→Prop} {Q:Exit→Sta→Prop}
theorem fB {i0:List RI} {x:RI} {n:Int} (h:x.op.kind ≠ 0):(i0++[x,RI.keep n]).map RI.op=ZH ((i0++[x]).map RI.op) n:=by
 have:=dt (i0.map RI.op) x.op n h
 simp only[List.map_append,List.map_cons,List.map_nil]
 rw[this];simp[RI.op]
theorem Zs {list:Int} {os:List OP} {J:List RI} {u w p:Nat} {H:Hp} {x:RI} (hx:(∃ n,x=RI.keep n)∨∃ e,x=RI.desc e) (hJ:J.length≤1000000) (h0:H [0]=⟨u,.arr 14 (J.map Me)⟩) (h2:H [2]=⟨w,.cells (QE x)⟩)
  (hgo:∀ (J2:List RI) (u2:Nat) (H2:Hp),H2 [0]=⟨u2,.arr 14 (J2.map Me)⟩→J2.length≤J.length+1→J2.map RI.op=(if x.op.kind=0 then ZH (J.map RI.op) x.op.n else J.map RI.op++[x.op])→Q .normal ⟨lk [(0,iv list),(1,Lz os),(5,.osl [0] u2 14 0 J2.length),(6,iv p)],H2⟩) :
  WPC (cx Tryz.prog w0 I0 n0) GS Q ⟨lk [(0,iv list),(1,Lz os),(5,.osl [0] u 14 0 J.length),(6,iv p),(11,.pob [2] w 0)],H⟩:=by
 rw[GS.eq_1]
 rcases hx with ⟨n,rfl⟩ | ⟨e,rfl⟩
 ·rcases tZ J with ⟨i0,m,rfl⟩ | rfl | ⟨i0,x,rfl,hx⟩
  ·simp at hJ
   have e1:IntKind.i64.wrap (i0.length:Int)=i0.length:=Af (by omega) (by omega)
   simp[QE,h0,h2,e1,jq,Me]
   refine⟨by omega,rfl,?_⟩
   have:=hgo (i0++[RI.keep (IntKind.i64.wrap (m+n))]) u (Ay H [0] ⟨u,.arr 14 ((i0++[RI.keep (IntKind.i64.wrap (m+n))]).map Me)⟩) (by simp[Aa]) (by simp) (by simp[RI.op,cy])
   simpa[Me,QE,A.remake] using this
  ·simp[QE,h0,h2,Bk]
   have:=hgo [RI.keep n] (u+1) (Ay H [0] ⟨u+1,.arr 14 ([RI.keep n].map Me)⟩) (by simp[Aa]) (by simp) (by simp[RI.op,iB])
   simpa[Me,QE,Bk] using this
  ·simp at hJ
   have e1:IntKind.i64.wrap (i0.length:Int)=i0.length:=Af (by omega) (by omega)
   cases x with
   |keep m=>exact absurd rfl hx
   |del l=>
    simp[QE,h0,h2,e1,jq,Me,Bk]
    refine⟨by omega,by omega,?_⟩
    have:=hgo (i0++[RI.del l,RI.keep n]) (u+1) (Ay H [0] ⟨u+1,.arr 14 ((i0++[RI.del l,RI.keep n]).map Me)⟩) (by simp[Aa]) (by simp) (by
     rw[if_pos (show(RI.keep n).op.kind=0 from rfl)]
     exact fB hx)
    simpa[Me,QE,Bk,RA] using this
   |ins l=>
    simp[QE,h0,h2,e1,jq,Me,Bk]
    refine⟨by omega,by omega,?_⟩
    have:=hgo (i0++[RI.ins l,RI.keep n]) (u+1) (Ay H [0] ⟨u+1,.arr 14 ((i0++[RI.ins l,RI.keep n]).map Me)⟩) (by simp[Aa]) (by simp) (by
     rw[if_pos (show(RI.keep n).op.kind=0 from rfl)]
     exact fB hx)
    simpa[Me,QE,Bk,RA] using this
   |desc e=>
    simp[QE,h0,h2,e1,jq,Me,Bk]
    refine⟨by omega,by omega,?_⟩
    have:=hgo (i0++[RI.desc e,RI.keep n]) (u+1) (Ay H [0] ⟨u+1,.arr 14 ((i0++[RI.desc e,RI.keep n]).map Me)⟩) (by simp[Aa]) (by simp) (by
     rw[if_pos (show(RI.keep n).op.kind=0 from rfl)]
     exact fB hx)
    simpa[Me,QE,Bk,RA] using this
 ·simp[QE,h0,h2]
  refine⟨by omega,?_⟩
  have:=hgo (J++[RI.desc e]) (u+1) (Ay H [0] ⟨u+1,.arr 14 ((J++[RI.desc e]).map Me)⟩) (by simp[Aa]) (by simp) (by simp[RI.op])
  simpa[Me,QE,Vs] using this
def qn (list:Int) (o:OP) (l:List OP):List OP:=if o.kind=3 then (if Iq list (Q5 o.e)=true then ZH l 1 else l++[.mk 3 0 [] (Q5 o.e)]) else ZH l o.n
theorem tI {list:Int} {os:List OP} (hol:os.length≤300000) {J:List RI} {u p:Nat} {H:Hp} (hJ:J.length≤1000000) (hp:p≤os.length) (h0:H [0]=⟨u,.arr 14 (J.map Me)⟩) (hO:∀ h:p<os.length,(os[p].kind=0∨os[p].kind=3)∧(os[p].kind=3→G.Spec Tryz.prog 52 [eX os[p].e] (eX (Q5 os[p].e))))
  (hret:p=os.length→∀ H2:Hp,H2 [0]=H [0]→Q .ret ⟨lk [(4,.osl [0] u 14 0 J.length)],H2⟩)
  (hgo:∀ (h:p<os.length) (J2:List RI) (u2:Nat) (H2:Hp),H2 [0]=⟨u2,.arr 14 (J2.map Me)⟩→J2.length≤J.length+1→J2.map RI.op=qn list os[p] (J.map RI.op)→Q .normal ⟨lk [(0,iv list),(1,Lz os),(5,.osl [0] u2 14 0 J2.length),(6,iv p)],H2⟩) :
  WPC (cx Tryz.prog w0 I0 n0) Fg Q ⟨lk [(0,iv list),(1,Lz os),(5,.osl [0] u 14 0 J.length),(8,iv p)],H⟩:=by
 rw[Fg.eq_1]
 by_cases h:p<os.length
 ·obtain⟨hk,hE⟩:=hO h
  have hg:=hgo h
  unfold qn at hg
  generalize ho:os[p]=o at *
  have hle:¬ os.length≤p:=by omega
  rcases hk with hk | hk
  ·simp[h,hle,ho,hk]
   refine Zs (x:=RI.keep o.n) (.inl ⟨_,rfl⟩) hJ (by simp[Aa,h0]) (by simp[Aa,QE,Bk]) fun J2 u2 H2 a1 a2 a3=>hg J2 u2 H2 a1 a2 ?_
   rw[a3,if_pos (show(RI.keep o.n).op.kind=0 from rfl),if_neg (by omega)]
   rfl
  ·have hI:=aH list (Q5 o.e)
   simp[h,hle,ho,hk]
   refine Ae (hE hk) (by simp) ?_
   simp[Aa]
   refine Ae hI (by simp) ?_
   cases hid:Iq list (Q5 o.e) with
   |true=>
    simp[Aa]
    refine Zs (x:=RI.keep 1) (.inl ⟨_,rfl⟩) hJ (by simp[Aa,h0]) (by simp[Aa,QE,Bk]) fun J2 u2 H2 a1 a2 a3=>hg J2 u2 H2 a1 a2 ?_
    rw[a3,if_pos (show(RI.keep 1).op.kind=0 from rfl),if_pos hk,if_pos hid]
    rfl
   |false=>
    simp[Aa]
    refine Zs (x:=RI.desc (Q5 o.e)) (.inr ⟨_,rfl⟩) hJ (by simp[Aa,h0]) (by simp[Aa,QE,Bk]) fun J2 u2 H2 a1 a2 a3=>hg J2 u2 H2 a1 a2 ?_
    rw[a3,if_neg (show ¬ (RI.desc (Q5 o.e)).op.kind=0 by simp[RI.op]),if_pos hk,if_neg (by rw[hid];decide)]
    rfl
 ·have:p=os.length:=by omega
  simp[this]
  exact hret this H rfl
theorem sE {list:Int} {os:List OP} (hos:∀ o,o ∈ os→vH o) (hol:os.length≤300000) (hsum:Dp os≤1000000) {res:List OP}
  (hq:∀ (H:Hp) (its:List RI) (u:Nat) st,H [0]=⟨u,.arr 14 (its.map Me)⟩→its.map RI.op=res→Q (.exit 0) ⟨lk ([(0,iv list),(1,Lz os),(5,.osl [0] u 14 0 its.length)]++st),H⟩)
  (hq2:∀ (H:Hp) (its:List RI) (u:Nat),H [0]=⟨u,.arr 14 (its.map Me)⟩→its.map RI.op=res→Q .ret ⟨lk [(4,.osl [0] u 14 0 its.length)],H⟩):∀ (m i u:Nat) (its:List RI) (H:Hp),os.length≤i+m→i≤os.length→its.length≤3*i→H [0]=⟨u,.arr 14 (its.map Me)⟩→Gd list ((os.drop i).map UN) (its.map RI.op) [] []=res →
  LoopC (cx Tryz.prog w0 I0 n0) B9 Q ⟨lk [(0,iv list),(1,Lz os),(5,.osl [0] u 14 0 its.length),(6,iv i)],H⟩:=by
 intro m
 induction m with
 |zero=>
  intro i u its H hm hile hil hH hres
  have:i=os.length:=by omega
  subst this
  rw[List.drop_length,List.map_nil,Gd] at hres
  refine Ad Ah B9.eq_1 ?_
  simp
  exact hq H its u [(6,iv os.length),(16,bv false)] hH (by rw[← hres];simp[XP,CS,CY])
 |succ m ih=>
  intro i u its H hm hile hil hH hres
  by_cases hi:i<os.length
  rotate_left
  ·have:i=os.length:=by omega
   subst this
   rw[List.drop_length,List.map_nil,Gd] at hres
   refine Ad Ah B9.eq_1 ?_
   simp
   exact hq H its u [(6,iv os.length),(16,bv false)] hH (by rw[← hres];simp[XP,CS,CY])
  have g1:=cp (os:=os) (k:=1) (.inl rfl) (fun o ho=>(hos o ho).l) (by omega) hsum (i:=i) (by omega)
  have g2:=cp (os:=os) (k:=2) (.inr rfl) (fun o ho=>(hos o ho).l) (by omega) hsum (i:=i) (by omega)
  have hgn:=jw (os.drop i)
  simp at hgn
  rw[Wb,List.drop_drop,List.nil_append,List.nil_append] at hres
  have hnx:∀ h:i+JY (os.drop i)<os.length,os[i+JY (os.drop i)].kind ≠ 1∧os[i+JY (os.drop i)].kind ≠ 2:=fun h=>by
   have:=YP (os.drop i) (by simp;omega)
   simpa using this
  refine Ad Ah B9.eq_1 ?_
  simp[hi]
  refine Ae g1 (by simp) ?_
  simp
  refine Ae g2 (by simp) ?_
  generalize Nu 1 (os.drop i)=g at *
  generalize Nu 2 (os.drop i)=b at *
  generalize JY (os.drop i)=n at *
  have hgl:True:=trivial
  have ew:IntKind.i64.wrap ((i:Int)+n+1)=(i:Int)+n+1:=Af (by omega) (by omega)
  -- behind what is deleted,and inserted
  have fin:∀ (u2:Nat) (H2:Hp),H2 [0]=⟨u2,.arr 14 ((its++(Qz g++QR b)).map Me)⟩→WPC (cx Tryz.prog w0 I0 n0) Fg (Bu 1 (DB (WPC (cx Tryz.prog w0 I0 n0) (CC.keep [0,1,5,6] (CC.reg [co (some 17) (Op.move (Operand.tmp 6)) none,co (some 18) (Op.binOp BinOp.add 3 (Operand.tmp 17) (Operand.const (Value.int IntKind.i64 1)) 3) none,co (some 6) (Op.assign (Operand.tmp 18)) none] [0,1,5,6])) (DB (LoopC (cx Tryz.prog w0 I0 n0) B9 Q) Q)) (DB (LoopC (cx Tryz.prog w0 I0 n0) B9 Q) Q))) ⟨lk [(0,iv list),(1,Lz os),(5,.osl [0] u2 14 0 (its++(Qz g++QR b)).length),(8,iv (i+n:Nat))],H2⟩:=fun u2 H2 h2=>by
   have hJl:(its++(Qz g++QR b)).length≤its.length+2:=by
    by_cases h1:g=[]<;>by_cases h2:b=[]<;>simp[Qz,QR,h1,h2]
   have hm2:=wg its g b
   generalize its++(Qz g++QR b)=J at *
   refine tI hol (by omega) (by omega) h2 (fun h=>?_) (fun he H3 h3=>?_) (fun h J2 u3 H3 h3 hl3 ho3=>?_)
   ·have hO:=hos _ (Bq h)
    obtain⟨x1,x2⟩:=hnx h
    refine⟨?_,fun hk=>hO.e hk⟩
    have:=hO.k
    omega
   ·simp
    rw[he,List.drop_length,List.map_nil,Gd,← hm2] at hres
    exact hq2 H3 J u2 (by rw[h3,h2]) hres
   ·simp[ew]
    have hdr:os.drop (i+n)=os[i+n]::os.drop (i+n+1):=(List.getElem_cons_drop h).symm
    have hnx':=hnx h
    have hO:=(hos _ (Bq h)).k
    rw[hdr,List.map_cons,Gd,← hm2] at hres
    have:=ih (i+n+1) u3 J2 H3 (by omega) (by omega) (by omega) h3 (by
     rw[ho3,← hres]
     unfold qn
     have hk:(UN os[i+n]).kind=os[i+n].kind:=rfl
     have he:(UN os[i+n]).e=Q5 os[i+n].e:=rfl
     have hn:(UN os[i+n]).n=os[i+n].n:=rfl
     rw[hk,he,hn]
     by_cases h30:os[i+n].kind=0
     ·rw[if_neg (by omega),if_pos h30]
     ·rw[if_pos (by omega),if_neg h30,if_neg hnx'.1,if_neg hnx'.2]
      split<;>rfl)
    simpa using this
  by_cases hg:g=[]
  ·simp[hg]
   rw[Hi.eq_1]
   by_cases hb:b=[]
   ·simp[hb]
    have:=fin u H (by simp[hg,hb,Qz,QR,hH])
    simpa[hg,hb,Qz,QR] using this
   ·have hbl:0<b.length:=List.length_pos_iff.2 hb
    simp[hb,hbl,hH]
    refine⟨by omega,?_⟩
    have:=fin (u+1) (Ay H [0] ⟨u+1,.arr 14 ((its++[RI.ins b]).map Me)⟩) (by simp[Aa,hg,hb,Qz,QR])
    simpa[hg,hb,Qz,QR,Me,QE,Bk,Vs] using this
  ·have hgl:0<g.length:=List.length_pos_iff.2 hg
   simp[hg,hgl,hH]
   refine⟨by omega,?_⟩
   rw[Hi.eq_1]
   by_cases hb:b=[]
   ·simp[hb]
    have:=fin (u+1) (Ay H [0] ⟨u+1,.arr 14 ((its++[RI.del g]).map Me)⟩) (by simp[Aa,hg,hb,Qz,QR])
    simpa[hg,hb,Qz,QR,Me,QE,Bk,Vs] using this
   ·have hbl:0<b.length:=List.length_pos_iff.2 hb
    simp[hb,hbl]
    refine⟨by omega,?_⟩
    have:=fin (u+1+1) (Ay H [0] ⟨u+1+1,.arr 14 ((its++[RI.del g,RI.ins b]).map Me)⟩) (by simp[Aa,hg,hb,Qz,QR])
    have ht:=RA its (Me (RI.del g))
    simp[Me,QE,Bk] at ht
    simpa[hg,hb,Qz,QR,Me,QE,Bk,Vs,ht] using this
theorem kR {list:Int} {os:List OP} (hos:∀ o,o ∈ os→vH o) (hol:os.length≤300000) (hsum:Dp os≤1000000):G.Spec Tryz.prog 100 [iv list,Lz os] (Lz (Gd list (os.map UN) [] [] [])):=by
 refine Aj TF (by simp) fun w0 I0=>?_
 unfold L0
 simp
 refine LoopC.le (BX 5 [0] 14 (by simp)) ?_
 refine LoopC.le (Ao [(0,iv list),(1,Lz os),(5,.osl [0] 1 14 0 ([]:List RI).length),(6,iv (0:Nat))] (by simp)) ?_
 refine sE hos hol hsum (res:=Gd list (os.map UN) [] [] []) (fun H its u st h he=>?_) (fun H its u h he=>?_) os.length 0 1 [] _ (by omega) (by omega) (by simp) (by simp[Aa]) (by simp)
 ·simp
  rw[← he]
  exact i9 h rfl
 ·simp
  rw[← he]
  exact i9 h rfl
theorem oz {e:E} (hl:e.kids.length≤1000000) (hk:∀ x,x ∈ e.kids→G.Spec Tryz.prog 52 [eX x.e] (eX (Q5 x.e))) {v1 v3:VOb} {W:A}
  (hq:∀ H u st,H [1]=v1→H [3]=v3→H [2]=⟨1,.cells [iv 2,iv 0,.sl true [],.sl true [],iv 0,.sl true [],.sl true [],W,.osl [4] u 12 0 e.kids.length,iv 0,.sl true []]⟩→H [4]=⟨u,.arr 12 (e.kids.map (kA ∘ ak))⟩→Q (.exit 1) ⟨lk ([(1,.pob [0] 1 0),(2,.pob [1] 1 0),(3,.pob [2] 1 0)]++st),H⟩):∀ (m i u:Nat) (H:Hp),i+m=e.kids.length→H [0]=⟨1,.cells (eL e)⟩→H [1]=v1→H [3]=v3→H [2]=⟨1,.cells [iv 2,iv 0,.sl true [],.sl true [],iv 0,.sl true [],.sl true [],W,.osl [4] u 12 0 i,iv 0,.sl true []]⟩→H [4]=⟨u,.arr 12 ((e.kids.take i).map (kA ∘ ak))⟩ →
  LoopC (cx Tryz.prog w0 I0 n0) EF Q ⟨lk [(1,.pob [0] 1 0),(2,.pob [1] 1 0),(3,.pob [2] 1 0),(4,iv i)],H⟩:=by
 intro m
 induction m with
 |zero=>
  intro i u H hm h0 h1 h3 h2 h4
  refine Ad Ah EF.eq_1 ?_
  have:i=e.kids.length:=by omega
  subst this
  rw[AI (BW _)] at h4
  simp[h0]
  exact hq H u [(4,iv e.kids.length),(29,bv false)] h1 h3 h2 h4
 |succ m ih=>
  intro i u H hm h0 h1 h3 h2 h4
  have hi:i<e.kids.length:=by omega
  have ew:IntKind.i64.wrap ((i:Int)+1)=((i+1:Nat):Int):=An
  have hE:=hk _ (Bq hi)
  have htk:(e.kids.take (i+1)).map (kA ∘ ak)=(e.kids.take i).map (kA ∘ ak)++[kA (ak e.kids[i])]:=by rw[Fj hi,List.map_append];rfl
  have next:=ih (i+1) (u+1)
  rw[htk] at next
  generalize hx:e.kids[i]=x at *
  refine Ad Ah EF.eq_1 ?_
  simp[hi,hx,Aa,h0,h2]
  refine Ae hE (by simp[Aa]) ?_
  simp[Aa,h2,h4,ew,h0,hi,hx]
  refine⟨⟨by omega,by omega⟩,?_⟩
  refine next _ (by omega) (by simp[Aa,h0]) (by simp[Aa,h1]) (by simp[Aa,h3]) (by simp[Aa]) ?_
  simp[Aa,List.take_take,ak]
theorem ZI:∀ e:E,U0 e→G.Spec Tryz.prog 52 [eX e] (eX (Q5 e)):=by
 refine E.ind fun k o n ws ks l os ihk iho h=>?_
 rw[U0] at h
 obtain⟨hk,hl,hon,hwl,hkl,hol,hsum,hks,hos⟩:=h
 refine Aj Sb (by simp) fun w0 I0=>?_
 unfold KX
 rw[Vy]
 rcases hk with rfl | rfl | rfl | rfl
 ·simp
  exact BG ⟨Ab rfl,Ab rfl,Al,Al,Ab rfl,Al,Al,Al,Al,Ab rfl,Al,trivial⟩
 ·obtain⟨ho,hn⟩:=hon rfl
  simp
  refine Ae (Fl o ho) (by simp) ?_
  simp[Aa]
  refine Ae (Fl n hn) (by simp) ?_
  simp[Aa]
  exact BG ⟨Ab rfl,BS (CL o).symm,Ab rfl,Ab rfl,BS (CL n).symm,Ab rfl,Ab rfl,Al,Al,Ab rfl,Al,trivial⟩
 ·simp
  refine⟨by omega,?_⟩
  refine LoopC.le (Bd (d:=[2]) (u:=1) (cs:=[iv 2,iv 0,.sl true [],.sl true [],iv 0,.sl true [],.sl true [],.osl [3] 1 4 0 ws.length,.sl true [],iv 0,.sl true []]) 8 [4] 12 rfl rfl (by simp)) ?_
  refine LoopC.le (Ao [(1,.pob [0] 1 0),(2,.pob [1] 1 0),(3,.pob [2] 1 0),(4,iv (0:Nat))] (by simp)) ?_
  refine oz (e:=.mk 2 o n ws ks l os) hkl (fun x hx=>ihk x hx (SD (hks rfl) x hx)) (W:=.osl [3] 1 4 0 ws.length) (fun H u st h1 h3 h2 h5=>?_) ks.length 0 1 _ (by simp) (by simp[Aa]) rfl rfl (by simp[Aa]) (by simp[Aa])
  have h3':H [3]=⟨1,.arr 4 (ws.map wA)⟩:=by rw[h3];simp[Aa]
  simp only[E.kids_mk] at h2 h5
  simp[h2,h1,Aa]
  have fw:=Bb (H:=Ay H [1] ⟨1,.cells [iv 2,iv 0,.sl true [],.sl true [],iv 0,.sl true [],.sl true [],.osl [3] 1 4 0 ws.length,.osl [4] u 12 0 ks.length,iv 0,.sl true []]⟩) (o:=[3]) (u:=1) (sz:=4) (l:=ws) (f:=wA) (n:=ws.length) (by simp[Aa,h3']) rfl (fun x=>rfl)
  have fk:=Bb (H:=Ay H [1] ⟨1,.cells [iv 2,iv 0,.sl true [],.sl true [],iv 0,.sl true [],.sl true [],.osl [3] 1 4 0 ws.length,.osl [4] u 12 0 ks.length,iv 0,.sl true []]⟩) (o:=[4]) (u:=u) (sz:=12) (l:=ks) (f:=kA ∘ ak) (n:=ks.length) (by simp[Aa,h5]) rfl (fun x=>by simp)
  rw[← List.map_map] at fk
  exact BG ⟨Ab rfl,Ab rfl,Al,Al,Ab rfl,Al,Al,fw,fk,Ab rfl,Al,trivial⟩
 ·have hO:=kR (list:=l) (os:=os) (fun x hx=>by
   obtain⟨a,b,c⟩:=SI (hos rfl) x hx
   exact⟨a,b,fun h=>iho x hx (c h)⟩) hol hsum
  simp
  refine Ae hO (by simp[Aa]) ?_
  simp[Aa]
  exact BG ⟨Ab rfl,Ab rfl,Al,Al,Ab rfl,Al,Al,Al,Al,Ab rfl,Ab rfl,trivial⟩
theorem S5 {most:Int} (hm:BQ most):∀ (f g:Nat) (a b:T),Va f a→Va g b→G.Spec Tryz.prog 53 [tX a,tX b,iv most] (eX (LC most f a b))
 |0,g,a,b,ha,hb=>by
  obtain⟨a1,a2,a3,a4⟩:=Bc ha
  obtain⟨b1,b2,b3,b4⟩:=Bc hb
  have hk:a.kind=0:=by cases ha;rfl
  have:=XT a1 b1 (X:=E0) (Y:=E0) (most:=most) (fun h=>by omega) (fun _ h=>by omega)
  rw[if_neg (show ¬ (a.kind=1∧b.kind=1) by omega),if_neg (show ¬ (a.kind=b.kind∧2≤a.kind∧a.kind≤9) by omega)] at this
  exact this
 |f+1,g,a,b,ha,hb=>by
  obtain⟨a1,a2,a3,a4⟩:=Bc ha
  obtain⟨b1,b2,b3,b4⟩:=Bc hb
  refine XT a1 b1 (fun h1 h2=>?_) (fun h1 h2 h3=>?_)
  ·exact UR a1 b1 (by omega) (by omega) (by omega) (by omega) fun i=>S5 hm f (g-1) _ _ (Li ha i) (Li hb i)
  ·exact Z1 a1 b1 a4 b4 hm fun x hx y hy=>S5 hm f (g-1) _ _ (Cw ha x hx) (Cw hb y hy)
noncomputable def wO (most:Int) (a b:T):E:=Q5 (LC most 1000 (Ai a) (Ai b))
theorem ct {a b:T} (ha:BB a) (hb:BB b) (pa:F9 a≤1000) (pb:F9 b≤1000) {most:Int} (hm:BQ most):G.Spec Tryz.prog 25 [tX a,tX b,iv most] (eX (wO most a b)):=by
 have oa:=HB a ha pa 1000 pa
 have ob:=HB b hb pb 1000 pb
 have h1:=S5 hm 1000 1000 _ _ oa ob
 have h2:=ZI _ (R4 most 1000 1000 _ _ oa ob)
 refine Aj P7 (by simp) fun w0 I0=>?_
 unfold JK
 simp
 refine Ae (Fl a ha) (by simp) ?_
 simp
 refine Ae (Fl b hb) (by simp) ?_
 simp
 refine Ae h1 (by simp) ?_
 simp
 refine Ae h2 (by simp) ?_
 simp
 exact Ab (by simp)
def Ly (u:Nat) (most:Int):Fam:=⟨fun _ p=>if p=[] then ⟨u,.cells [iv most,iv 0]⟩ else ⟨0,.none⟩,fun {g δ r r'} hg hd p=>by
  by_cases hp:p=[]
  ·rw[if_pos hp]
   exact Fam.cells_ren (by simp[A.renL,A.ren])
  ·rw[if_neg hp];rfl,fun {D r} hD p=>by
  by_cases hp:p=[]
  ·rw[if_pos hp]
   simp[Ob.refs,A.refsL,A.refs]
  ·rw[if_neg hp];trivial⟩
@[simp] theorem AiJ {u:Nat} {most:Int} {r:Nat} {p:Nm}:(Ly u most).F r p=if p=[] then ⟨u,.cells [iv most,iv 0]⟩ else ⟨0,.none⟩:=rfl
theorem Co (l:List (List Int)) (r:Rf):Ez (fun _=>GH l r):=Vu l r
theorem kP (t:T):Ez (fun _=>tX t):=EN (cs:=[iv t.kind,C5 t.words,Ba t.kids]) rfl fun x hx=>by simp at hx;rcases hx with rfl | rfl | rfl<;>rfl
theorem HF (u:Nat) (most:Int):A4 Tryz.prog 148 (fun q=>[.pob [q] u 0,iv 0]) (Ly u most) (fun _=>.tup []) (Ly u most):=by
 refine Ax Ox (by simp) (Ag AN (Ag AE Am)) (Bn Am) fun w0 I0 M0 m0=>?_
 unfold IA
 simp
 refine AQ rfl rfl (fun p=>?_)
 by_cases hp:p=[]
 ·subst hp;simp[Aa]
 ·simp[Aa,hp]
theorem Qx {l:List (List Int)} (hs:Sg l) {r:Rf} {t:T} (hm:AG l r t) (u:Nat) (most:Int):A4 Tryz.prog 98 (fun q=>[.pob [q] u 0,GH l r]) (Ly u most) (fun _=>tX (Ai t)) (Ly u most):=by
 have hw:=GX hs _ _ hm
 refine Ax NM (by simp) (Ag AN (Ag (Co l r) Am)) (kP _) fun w0 I0 M0 m0=>?_
 unfold Iz
 simp
 refine Ae (gw hs _ _ hm) (by simp) ?_
 simp
 refine Au 0 (HF u most) (fun p=>by simp) (by simp) (by simp) ?_
 simp
 refine Ae (MU t hw) (by simp) ?_
 simp
 exact AH (r0:=tX (Ai t)) (by simp) rfl (fun p=>by simp)
theorem Tq {l:List (List Int)} (hs:Sg l) {r:Rf} (hr:Fx l r) (i:Int) (h0:(Cj l r i).2=0) (u:Nat) (most:Int):A4 Tryz.prog 152 (fun q=>[.pob [q] u 0,GH l r,iv i]) (Ly u most) (fun _=>GH l (Cj l r i).1) (Ly u most):=by
 refine Ax Pb (by simp) (Ag AN (Ag (Co l r) (Ag AE Am))) (Co l _) fun w0 I0 M0 m0=>?_
 unfold Jc
 simp
 refine Ae (Kh hs hr i) (by simp) ?_
 rw[h0]
 simp
 refine Au 0 (HF u most) (fun p=>by simp) (by simp) (by simp) ?_
 simp
 exact AH (r0:=GH l (Cj l r i).1) (by simp) rfl (fun p=>by simp)
theorem fm {l m:List (List Int)} (hl:Sg l) (hm:Sg m) {r s:Rf} {t u:T} (h1:AG l r t) (h2:AG m s u) (v:Nat) (most:Int):A4 Tryz.prog 94 (fun q=>[.pob [q] v 0,GH l r,GH m s]) (Ly v most) (fun _=>bv (KJ t u)) (Ly v most):=by
 refine Ax NW (by simp) (Ag AN (Ag (Co l r) (Ag (Co m s) Am))) AE fun w0 I0 M0 m0=>?_
 unfold Ii
 simp
 refine Ae (UA hl hm t u r s h1 h2) (by simp) ?_
 simp
 refine Au 0 (HF v most) (fun p=>by simp) (by simp) (by simp) ?_
 simp
 exact AH (r0:=bv (KJ t u)) (by simp) rfl (fun p=>by simp)
theorem fQ {l:List (List Int)} (hs:Sg l) {r:Rf} {t:T} (hm:AG l r t) (u:Nat) (most:Int):A4 Tryz.prog 151 (fun q=>[.pob [q] u 0,GH l r]) (Ly u most) (fun _=>iv (BC t.kids).length) (Ly u most):=by
 refine Ax Oy (by simp) (Ag AN (Ag (Co l r) Am)) AE fun w0 I0 M0 m0=>?_
 unfold Iu
 simp
 refine Ae (Y0 hs hm) (by simp) ?_
 simp
 refine Au 0 (HF u most) (fun p=>by simp) (by simp) (by simp) ?_
 simp
 exact AH (r0:=iv (BC t.kids).length) (by simp) rfl (fun p=>by simp)
def wds (tw:List Int):Nat→Nat→List WE→Option (List Int)
 |0,_,_=>some []
 |m+1,i,[]=>(wds tw m (i+1) []).map (tw.getD i 0 :: ·)
 |m+1,i,x::xs=>if x.at_=(i:Int) then (if Zm 0 (tw.getD i 0) x.mask=x.old then (wds tw m (i+1) xs).map (Zm (tw.getD i 0) x.new x.mask :: ·) else none) else (wds tw m (i+1) (x::xs)).map (tw.getD i 0 :: ·)
def kds (tk:List T):Nat→Nat→List (Int × (T→Option T))→Option (List T)
 |0,_,_=>some []
 |m+1,i,[]=>(kds tk m (i+1) []).map (tk.getD i T0 :: ·)
 |m+1,i,x::xs=>if x.1=(i:Int) then (match x.2 (tk.getD i T0) with | none=>none | some u=>(kds tk m (i+1) xs).map (u :: ·)) else (kds tk m (i+1) (x::xs)).map (tk.getD i T0 :: ·)
noncomputable def qE (tk:List T):Nat→List (Int × Int × List T × (T→Option T))→Option (List T × Nat)
 |a,[]=>some ([],a)
 |a,(k,n,l,f)::os=>
  if k=0 then (if a+n.toNat≤tk.length then (qE tk (a+n.toNat) os).map (fun r=>((tk.drop a).take n.toNat++r.1,r.2)) else none)
  else if k=1 then (if a+l.length≤tk.length∧(((tk.drop a).take l.length).zip l).all (fun p=>KJ p.1 p.2)=true then qE tk (a+l.length) os else none)
  else if k=2 then (qE tk a os).map (fun r=>(l++r.1,r.2))
  else match tk[a]? with
   |none=>none
   |some x=>match f x with
    |none=>none
    |some u=>(qE tk (a+1) os).map (fun r=>(u::r.1,r.2))
def vq (ws:List WE) (n:Nat):Nat:=match ws.getLast? with | none=>n | some x=>max n (x.at_+1).toNat
def vg {β:Type} (ks:List (Int × β)) (n:Nat):Nat:=match ks.getLast? with | none=>n | some x=>max n (x.1+1).toNat
noncomputable def AbZ (k:Int) (o n:T) (ws:List WE) (ks:List (Int × (T→Option T))) (list:Int) (os:List (Int × Int × List T × (T→Option T))) (t:T):Option T:=
 if k=0 then some (Ai t)
 else if k=1 then (if KJ o t=true then some (Ai n) else none)
 else if k=2 then (if t.kind=1 then (match wds t.words (vq ws t.words.length) 0 ws,kds t.kids (vg ks t.kids.length) 0 ks with
  |some w,some l=>some (Ai (.mk 1 w l))
  |_,_=>none) else none)
 else if k=3 then (if t.kind=list then (match qE t.kids 0 os with
  |some (l,a)=>if a=t.kids.length then some (Ai (.mk t.kind [] l)) else none
  |none=>none) else none)
 else none
mutual
noncomputable def apE:E→T→Option T
 |.mk k o n ws ks l os,t=>AbZ k o n ws (uN ks) l (AeF os) t
noncomputable def uN:List KE→List (Int × (T→Option T))
 |[]=>[]
 |.mk a e::r=>(a,apE e)::uN r
noncomputable def AeF:List OP→List (Int × Int × List T × (T→Option T))
 |[]=>[]
 |.mk k n t e::r=>(k,n,t,apE e)::AeF r
end
theorem jo (a b mask:Int):Ci (Zm a b mask):=by
 have h:=OJ (Nk (Be a) (Be b) mask 8) WK
 rw[Og (by rw[HQ];exact BW _),HQ] at h
 have e:(256:Int) ^ 8=18446744073709551616:=by decide
 rw[e] at h
 exact⟨h.1,h.2⟩
section
variable {n0:Nat} {w0:World} {I0:Nat→Prop}
noncomputable def Aic (e:E) (t:T) (n m:Nat):Option T:=match wds t.words n 0 e.words,kds t.kids m 0 (uN e.kids) with
 |some w,some l=>some (.mk 1 w l)
 |_,_=>none
end
noncomputable def ur (e:E) (t:T):Option T:=if t.kind=1 then Aic e t (vq e.words t.words.length) (vg (uN e.kids) t.kids.length) else none
theorem Jp:Xp E0:=wfE_iff.2 ⟨by simp[BQ],by simp[BQ],GQ,GQ,by simp,by simp,by simp,by simp,by simp,by simp⟩
theorem PZ {n:Int} (h1:-1000000000≤n) (h2:n≤1000000000):BQ n:=⟨by omega,by omega⟩
theorem sN {i:Nat} (hi:i≤1000000) (a b:Int):WE.wf (wdE i a b):=
 ⟨PZ (by show(-1000000000:Int)≤i;omega) (by show(i:Int)≤1000000000;omega),Vj a b,jo _ _ _,jo _ _ _⟩
theorem pH {one:T→T→E} {a b:T} (ha:a.words.length≤1000) (hb:b.words.length≤1000) (ha2:a.kids.length≤1000) (hb2:b.kids.length≤1000) (h:∀ i,Xp (one (a.kids.getD i T0) (b.kids.getD i T0))):Xp (Te one a b):=by
 have h1:=LU a b (max a.words.length b.words.length)
 have h2:=HC one a b (max a.kids.length b.kids.length)
 unfold Te
 refine wfE_iff.2 ⟨by simp[BQ],by simp[BQ],GQ,GQ,fun x hx=>?_,by show(DJ a b _).length*32≤_;omega,by show(BH one a b _).length*208≤_;omega,by simp,fun x hx=>?_,by simp⟩
 ·have hx':x ∈ DJ a b (max a.words.length b.words.length):=hx
  unfold DJ at hx'
  rw[List.mem_filterMap] at hx'
  obtain⟨i,hi,e⟩:=hx'
  split at e
  ·cases e
  ·simp only[Option.some.injEq] at e
   subst e
   have:i<max a.words.length b.words.length:=by simpa using hi
   exact sN (by omega) _ _
 ·obtain⟨i,hi,e,_⟩:=W4 (show x ∈ BH one a b _ from hx)
  subst e
  exact⟨PZ (by show(-1000000000:Int)≤i;omega) (by show(i:Int)≤1000000000;omega),h i⟩
theorem sh {one:T→T→E} {A B:List T} {N:Nat} (hN:N≤1000000) (lA:A.length≤1000000) (lB:B.length≤1000000) (hA:∀ t,t ∈ A→BB t) (hB:∀ t,t ∈ B→BB t) (h1:∀ x,x ∈ A→∀ y,y ∈ B→Xp (one x y)) {o:OP} (h:Zb one A B N o):sy o:=by
 cases h with
 |keep n h=>exact⟨by simp[BQ],PZ (by show(-1000000000:Int)≤n;omega) (by show(n:Int)≤1000000000;omega),by simp,by simp,Jp⟩
 |del l h g k=>exact⟨by simp[BQ],by simp[BQ],fun t ht=>hA t (g t ht),by show l.length*56≤_;omega,Jp⟩
 |ins l h g k=>exact⟨by simp[BQ],by simp[BQ],fun t ht=>hB t (g t ht),by show l.length*56≤_;omega,Jp⟩
 |desc x y hx hy=>exact⟨by simp[BQ],by simp[BQ],by simp,by simp,h1 x hx y hy⟩
theorem VR {a b:T} (ha:BB a) (hb:BB b):Xp (.mk 1 a b [] [] 0 []):=wfE_iff.2 ⟨by simp[BQ],by simp[BQ],ha,hb,by simp,by simp,by simp,by simp,by simp,by simp⟩
theorem kj {one:T→T→E} {most:Int} {a b:T} (wfa:BB a) (ha:a.kids.length≤1000) (hb:b.kids.length≤1000) (wa:∀ t,t ∈ a.kids→BB t) (wb:∀ t,t ∈ b.kids→BB t) (h:∀ x,x ∈ a.kids→∀ y,y ∈ b.kids→Xp (one x y)):Xp (IQ one most a b):=by
 have h1:=bT one most a b
 rw[db]
 exact wfE_iff.2 ⟨by simp[BQ],(wfT_iff.1 wfa).k,GQ,GQ,by simp,by simp,by simp,by show(bP one most a b).length*240≤_;omega,by simp,fun x hx=>sh (by omega) (by omega) (by omega) wa wb h (dH one most a b x hx)⟩
theorem V1 (most:Int):∀ (f g:Nat) (a b:T),Va f a→Va g b→Xp (LC most f a b)
 |0,g,a,b,ha,hb=>by
  rw[LC]
  split
  ·exact Jp
  ·exact VR (Bc ha).1 (Bc hb).1
 |f+1,g,a,b,ha,hb=>by
  obtain⟨a1,a2,a3,a4⟩:=Bc ha
  obtain⟨b1,b2,b3,b4⟩:=Bc hb
  rw[LC]
  split
  ·exact Jp
  ·split
   ·exact pH a3 b3 a4 b4 fun i=>V1 most f (g-1) _ _ (Li ha i) (Li hb i)
   ·split
    ·exact kj a1 a4 b4 (fun t ht=>(Bc (Cw ha t ht)).1) (fun t ht=>(Bc (Cw hb t ht)).1) fun x hx y hy=>V1 most f (g-1) x y (Cw ha x hx) (Cw hb y hy)
    ·exact VR a1 b1
theorem ku (n:Int):BQ (IntKind.i64.wrap n):=by
 rw[IntKind.wrap_i64]
 exact⟨by omega,by omega⟩
theorem nU {out:List OP} {n:Int} (h:∀ o,o ∈ out→sy o) (hn:BQ n):∀ o,o ∈ ZH out n→sy o:=by
 unfold ZH
 split
 ·rename_i m l e he
  intro o ho
  have hm:=List.mem_of_getLast? he
  rcases List.mem_append.1 ho with ho | ho
  ·exact h o (List.dropLast_subset _ ho)
  ·rw[List.mem_singleton] at ho
   subst ho
   have:=h _ hm
   exact⟨this.k,ku _,this.l,this.ll,this.e⟩
 ·intro o ho
  rcases List.mem_append.1 ho with ho | ho
  ·exact h o ho
  ·rw[List.mem_singleton] at ho
   subst ho
   exact⟨by simp[BQ],hn,by simp,by simp,Jp⟩
theorem qC {out:List OP} {g b:List T} (h:∀ o,o ∈ out→sy o) (hg:∀ t,t ∈ g→BB t) (hb:∀ t,t ∈ b→BB t) (lg:g.length≤1000000) (lb:b.length≤1000000):∀ o,o ∈ XP out g b→sy o:=by
 intro o ho
 unfold XP CS CY at ho
 rcases List.mem_append.1 ho with ho | ho
 ·exact h o ho
 ·rcases List.mem_append.1 ho with ho | ho
  ·split at ho
   ·simp at ho
   ·rw[List.mem_singleton] at ho
    subst ho
    exact⟨by simp[BQ],by simp[BQ],hg,by show g.length*56≤_;omega,Jp⟩
  ·split at ho
   ·simp at ho
   ·rw[List.mem_singleton] at ho
    subst ho
    exact⟨by simp[BQ],by simp[BQ],hb,by show b.length*56≤_;omega,Jp⟩
def WfS (o:OP):Prop:=BQ o.n∧(∀ t,t ∈ o.l→BB t)∧(o.kind=0∨o.kind=1∨o.kind=2∨o.kind=3)∧(o.kind=3→Xp o.e)
theorem OK (list:Int):∀ (os out:List OP) (g b:List T),(∀ o,o ∈ os→WfS o)→(∀ o,o ∈ out→sy o)→(∀ t,t ∈ g→BB t)→(∀ t,t ∈ b→BB t)→g.length+b.length+Dp os≤1000000→∀ o,o ∈ Gd list os out g b→sy o
 |[],out,g,b,h1,h2,h3,h4,h5=>by
  rw[Gd]
  exact qC h2 h3 h4 (by omega) (by omega)
 |x::os,out,g,b,h1,h2,h3,h4,h5=>by
  rw[OV] at h5
  have hx:=h1 x (by simp)
  have hos:∀ o,o ∈ os→WfS o:=fun o ho=>h1 o (List.mem_cons_of_mem _ ho)
  have fl:=qC h2 h3 h4 (by omega) (by omega)
  have nn:∀ (l:List T),(∀ t,t ∈ l→BB t)→∀ t,t ∈ l++x.l.map Ai→BB t:=fun l hl t ht=>by
   rcases List.mem_append.1 ht with ht | ht
   ·exact hl t ht
   ·obtain⟨u,hu,rfl⟩:=List.mem_map.1 ht
    exact GM _ (hx.2.1 u hu)
  have z:∀ t:T,t ∈ ([]:List T)→BB t:=by simp
  rw[Gd]
  split
  ·exact OK list os _ _ _ hos (nU fl hx.1) z z (by simp;omega)
  ·split
   ·exact OK list os _ _ _ hos h2 (nn g h3) h4 (by simp;omega)
   ·split
    ·exact OK list os _ _ _ hos h2 h3 (nn b h4) (by simp;omega)
    ·split
     ·exact OK list os _ _ _ hos (nU fl (by simp[BQ])) z z (by simp;omega)
     ·refine OK list os _ _ _ hos (fun o ho=>?_) z z (by simp;omega)
      rcases List.mem_append.1 ho with ho | ho
      ·exact fl o ho
      ·rw[List.mem_singleton] at ho
       subst ho
       exact⟨by simp[BQ],by simp[BQ],by simp,by simp,hx.2.2.2 (by have:=hx.2.2.1;omega)⟩
theorem sP (out:List OP) (n:Int):(ZH out n).length≤out.length+1:=by
 unfold ZH
 split
 ·simp
  try omega
 ·simp
theorem iL (out:List OP) (g b:List T):(XP out g b).length≤out.length+2:=by
 unfold XP CS CY
 split<;>split<;>simp
theorem LJ (list:Int):∀ (os out:List OP) (g b:List T),(Gd list os out g b).length≤out.length+3*os.length+2
 |[],out,g,b=>by
  rw[Gd]
  have:=iL out g b
  simp;omega
 |x::os,out,g,b=>by
  have h1:=iL out g b
  have h2:=sP (XP out g b)
  rw[Gd,List.length_cons]
  split
  ·have:=LJ list os (ZH (XP out g b) x.n) [] []
   have:=h2 x.n
   omega
  ·split
   ·have:=LJ list os out (g++x.l.map Ai) b
    omega
   ·split
    ·have:=LJ list os out g (b++x.l.map Ai)
     omega
    ·split
     ·have:=LJ list os (ZH (XP out g b) 1) [] []
      have:=h2 1
      omega
     ·have:=LJ list os (XP out g b++[.mk 3 0 [] x.e]) [] []
      simp at this
      omega
theorem rr (os:List OP):Dp (os.map UN)=Dp os:=by
 unfold Dp
 rw[List.map_map]
 rfl
theorem xH:∀ e:E,Xp e→U0 e→Xp (Q5 e):=by
 refine E.ind fun k o n ws ks l os ihk iho hw h=>?_
 rw[U0] at h
 obtain⟨hk,hl,hon,hwl,hkl,hol,hsum,hks,hos⟩:=h
 have w:=wfE_iff.1 hw
 rw[Vy]
 split
 ·exact VR (GM _ w.o) (GM _ w.n)
 ·split
  ·rename_i h1 h2
   refine wfE_iff.2 ⟨by simp[BQ],by simp[BQ],GQ,GQ,w.w,w.wl,by show(ks.map ak).length*208≤_;simp;omega,by simp,fun x hx=>?_,by simp⟩
   obtain⟨y,hy,rfl⟩:=List.mem_map.1 (show x ∈ ks.map ak from hx)
   have:=w.ks y hy
   exact⟨this.1,ihk y hy this.2 (SD (hks h2) y hy)⟩
  ·split
   ·rename_i h1 h2 h3
    have hO:∀ o,o ∈ os.map UN→WfS o:=fun o ho=>by
     obtain⟨y,hy,rfl⟩:=List.mem_map.1 ho
     have g1:=w.os y hy
     obtain⟨g2,g3,g4⟩:=SI (hos h3) y hy
     exact⟨g1.n,g3,g2,fun e=>iho y hy g1.e (g4 e)⟩
    have hlen:=LJ l (os.map UN) [] [] []
    simp at hlen
    refine wfE_iff.2 ⟨by simp[BQ],w.l,GQ,GQ,by simp,by simp,by simp,by show(Gd l (os.map UN) [] [] []).length*240≤_;omega,by simp,fun x hx=>OK l _ _ _ _ hO (by simp) (by simp) (by simp) (by rw[rr];simpa using hsum) x hx⟩
   ·exact Jp
theorem AdD {a b:T} (ha:BB a) (hb:BB b) (pa:F9 a≤1000) (pb:F9 b≤1000) {most:Int}:Xp (wO most a b):=by
 have oa:=HB a ha pa 1000 pa
 have ob:=HB b hb pb 1000 pb
 exact xH _ (V1 most 1000 1000 _ _ oa ob) (R4 most 1000 1000 _ _ oa ob)
inductive Lk (R:T→T→Prop):E→E→Prop
 |mk (k:Int) (o n o' n':T) (ws:List WE) (ks ks':List KE) (l:Int) (os os':List OP):R o o'→R n n'→ks.length=ks'.length →
  (∀ (i:Nat) (h:i<ks.length) (h':i<ks'.length),ks[i].at_=ks'[i].at_)→(∀ (i:Nat) (h:i<ks.length) (h':i<ks'.length),Lk R ks[i].e ks'[i].e)→os.length=os'.length →
  (∀ (i:Nat) (h:i<os.length) (h':i<os'.length),os[i].kind=os'[i].kind∧os[i].n=os'[i].n∧(os[i].l.length=os'[i].l.length∧∀ (j:Nat) (g:j<os[i].l.length) (g':j<os'[i].l.length),R (os[i].l[j]) (os'[i].l[j]))) →
  (∀ (i:Nat) (h:i<os.length) (h':i<os'.length),Lk R os[i].e os'[i].e) →
  Lk R (.mk k o n ws ks l os) (.mk k o' n' ws ks' l os')
theorem tT {R:T→T→Prop} (h:∀ t,R t t):∀ e,Lk R e e:=by
 refine E.ind fun k o n ws ks l os ihk iho=>?_
 exact .mk _ _ _ _ _ _ _ _ _ _ _ (h o) (h n) rfl (fun i h1 _=>rfl) (fun i h1 _=>ihk _ (Bq h1)) rfl (fun i h1 _=>⟨rfl,rfl,⟨rfl,fun j _ _=>h _⟩⟩) (fun i h1 _=>iho _ (Bq h1))
theorem uD {a b:List T} {H:Hp} (hl:a.length=b.length) (hb:a.length*56≤140737488355328) (h:∀ (i:Nat) (h1:i<a.length) (h2:i<b.length),G.Spec Tryz.prog 50 [tX a[i],tX b[i]] (bv true)) (hq:∀ i q,Q (.exit 0) ⟨lk [(0,Ba a),(1,Ba b),(5,iv i),(14,bv q)],H⟩):∀ (m i:Nat),i+m=a.length →
  LoopC (cx Tryz.prog w0 I0 n0) CK Q ⟨lk [(0,Ba a),(1,Ba b),(5,nv i)],H⟩:=by
 intro m
 induction m with
 |zero=>
  intro i hi
  have:i=a.length:=by omega
  subst this
  refine Ad Ah CK.eq_1 ?_
  simp
  exact hq _ _
 |succ m ih=>
  intro i hi
  have hlt:i<a.length:=by omega
  have hlt2:i<b.length:=by omega
  have ei:IntKind.i64.wrap ((i:Int)+1)=((i+1:Nat):Int):=Af (by omega) (by omega)
  refine Ad Ah CK.eq_1 ?_
  simp[hlt,hlt2]
  refine Ae (h i hlt hlt2) (by simp) ?_
  simp[ei]
  exact ih (i+1) (by omega)
theorem fe {a b:List T} (hl:a.length=b.length) (hb:a.length*56≤140737488355328) (h:∀ (i:Nat) (h1:i<a.length) (h2:i<b.length),G.Spec Tryz.prog 50 [tX a[i],tX b[i]] (bv true)):G.Spec Tryz.prog 51 [Ba a,Ba b] (bv true):=by
 refine Aj MW (by simp) fun w0 I0=>?_
 unfold GW
 simp[hl]
 refine uD hl hb h (fun i q=>?_) a.length 0 (by omega)
 simp
 exact Ab rfl
theorem tM {e f:E} {H:Hp} (h0:H [0]=⟨1,.cells (eL e)⟩) (h1:H [1]=⟨1,.cells (eL f)⟩) (hw:e.words=f.words) (hb:e.words.length*32≤140737488355328) (hq:∀ i q,Q (.exit 0) ⟨lk [(2,.pob [0] 1 0),(3,.pob [1] 1 0),(5,iv i),(69,bv q)],H⟩):∀ (m i:Nat),i+m=e.words.length →
  LoopC (cx Tryz.prog w0 I0 n0) Es Q ⟨lk [(2,.pob [0] 1 0),(3,.pob [1] 1 0),(5,nv i)],H⟩:=by
 intro m
 induction m with
 |zero=>
  intro i hi
  have:i=e.words.length:=by omega
  subst this
  refine Ad Ah Es.eq_1 ?_
  simp[h0,h1]
  exact hq _ _
 |succ m ih=>
  intro i hi
  have hlt:i<e.words.length:=by omega
  have hlt2:i<f.words.length:=by rw[← hw];omega
  have ei:IntKind.i64.wrap ((i:Int)+1)=((i+1:Nat):Int):=Af (by omega) (by omega)
  have hx:e.words[i]=f.words[i]:=by simp only[hw]
  refine Ad Ah Es.eq_1 ?_
  simp[hlt,hlt2,h0,h1,hx]
  simp[ei]
  exact ih (i+1) (by omega)
theorem uj {e f:E} {H:Hp} (h0:H [0]=⟨1,.cells (eL e)⟩) (h1:H [1]=⟨1,.cells (eL f)⟩) (hl:e.kids.length=f.kids.length) (hb:e.kids.length*208≤140737488355328) (hk:∀ (i:Nat) (g:i<e.kids.length) (g':i<f.kids.length),e.kids[i].at_=f.kids[i].at_∧G.Spec Tryz.prog 24 [eX e.kids[i].e,eX f.kids[i].e] (bv true)) (hq:∀ i q,Q (.exit 2) ⟨lk [(2,.pob [0] 1 0),(3,.pob [1] 1 0),(6,iv i),(87,bv q)],H⟩):∀ (m i:Nat),i+m=e.kids.length →
  LoopC (cx Tryz.prog w0 I0 n0) Eo Q ⟨lk [(2,.pob [0] 1 0),(3,.pob [1] 1 0),(6,nv i)],H⟩:=by
 intro m
 induction m with
 |zero=>
  intro i hi
  have:i=e.kids.length:=by omega
  subst this
  refine Ad Ah Eo.eq_1 ?_
  simp[h0,h1]
  exact hq _ _
 |succ m ih=>
  intro i hi
  have hlt:i<e.kids.length:=by omega
  have hlt2:i<f.kids.length:=by omega
  have ei:IntKind.i64.wrap ((i:Int)+1)=((i+1:Nat):Int):=Af (by omega) (by omega)
  obtain⟨ha,hs⟩:=hk i hlt hlt2
  refine Ad Ah Eo.eq_1 ?_
  simp[hlt,hlt2,h0,h1,ha]
  refine Bj rfl (fun _=>hs) (fun _=>rfl) (by simp) ?_
  simp[ei]
  exact ih (i+1) (by omega)
theorem sA {e f:E} (hl:e.ops.length=f.ops.length) (hb:e.ops.length*240≤140737488355328) (hk:∀ (i:Nat) (g:i<e.ops.length) (g':i<f.ops.length),e.ops[i].kind=f.ops[i].kind∧e.ops[i].n=f.ops[i].n∧G.Spec Tryz.prog 51 [Ba e.ops[i].l,Ba f.ops[i].l] (bv true)∧G.Spec Tryz.prog 24 [eX e.ops[i].e,eX f.ops[i].e] (bv true)) (hq:∀ H' i q,Q (.exit 4) ⟨lk [(2,.pob [0] 1 0),(3,.pob [1] 1 0),(7,iv i),(123,bv q)],H'⟩):∀ (m i:Nat) (H:Hp),i+m=e.ops.length→H [0]=⟨1,.cells (eL e)⟩→H [1]=⟨1,.cells (eL f)⟩ →
  LoopC (cx Tryz.prog w0 I0 n0) EH Q ⟨lk [(2,.pob [0] 1 0),(3,.pob [1] 1 0),(7,nv i)],H⟩:=by
 intro m
 induction m with
 |zero=>
  intro i H hi h0 h1
  have:i=e.ops.length:=by omega
  subst this
  refine Ad Ah EH.eq_1 ?_
  simp[h0,h1]
  exact hq _ _ _
 |succ m ih=>
  intro i H hi h0 h1
  have hlt:i<e.ops.length:=by omega
  have hlt2:i<f.ops.length:=by omega
  have ei:IntKind.i64.wrap ((i:Int)+1)=((i+1:Nat):Int):=Af (by omega) (by omega)
  obtain⟨ha,hn,ht,hs⟩:=hk i hlt hlt2
  refine Ad Ah EH.eq_1 ?_
  simp[hlt,hlt2,h0,h1,Aa,ha,hn]
  refine Bj rfl (fun _=>ht) (fun _=>rfl) (by simp) ?_
  simp[Aa]
  refine Bj rfl (fun _=>hs) (fun _=>rfl) (by simp) ?_
  simp[ei]
  exact ih (i+1) _ (by omega) (by simp[Aa,h0]) (by simp[Aa,h1])
set_option maxRecDepth 10000 in
theorem lx {R:T→T→Prop} (hR:∀ a b,BB a→BB b→R a b→G.Spec Tryz.prog 50 [tX a,tX b] (bv true)):∀ (e f:E),Xp e→Xp f→Lk R e f→G.Spec Tryz.prog 24 [eX e,eX f] (bv true):=by
 refine E.ind fun k o nn ws ks l os ihk iho f hw hwf hl=>?_
 cases hl with
 |mk _ _ _ o' n' _ _ ks' _ _ os' r1 r2 r3 r4 r4b r5 r6 r6b=>
  have h:=wfE_iff.1 hw
  have g:=wfE_iff.1 hwf
  have h1:=hR _ _ h.o g.o r1
  have h2:=hR _ _ h.n g.n r2
  simp only[E.old_mk,E.new_mk] at h1 h2
  refine Aj Ry (by simp) fun w0 I0=>?_
  unfold KM
  simp
  refine Bj rfl (fun _=>h1) (fun _=>rfl) (by simp) ?_
  simp
  refine Bj rfl (fun _=>h2) (fun _=>rfl) (by simp) ?_
  simp[r3,r5]
  refine tM (e:=.mk k o nn ws ks l os) (f:=.mk k o' n' ws ks' l os') (by simp) (by simp) rfl h.wl (fun i q=>?_) ws.length 0 (by simp)
  simp
  refine uj (e:=.mk k o nn ws ks l os) (f:=.mk k o' n' ws ks' l os') (by simp) (by simp) r3 h.kl (fun i a b=>⟨r4 i a b,ihk _ (Bq a) _ (h.ks _ (Bq a)).2 (g.ks _ (Bq b)).2 (r4b i a b)⟩) (fun i q=>?_) ks.length 0 (by simp)
  simp
  refine sA (e:=.mk k o nn ws ks l os) (f:=.mk k o' n' ws ks' l os') r5 h.ol (fun i a b=>?_) (fun H' i q=>?_) os.length 0 _ (by simp) (by simp) (by simp)
  ·obtain⟨q1,q2,q3,q4⟩:=r6 i a b
   have q5:=r6b i a b
   have ha:=h.os _ (Bq a)
   have hb:=g.os _ (Bq b)
   exact⟨q1,q2,fe q3 ha.ll (fun j g1 g2=>hR _ _ (ha.l _ (Bq g1)) (hb.l _ (Bq g2)) (q4 j g1 g2)),iho _ (Bq a) _ ha.e hb.e q5⟩
  ·simp
   exact Ab rfl
theorem cd {e:E} (h:Xp e):G.Spec Tryz.prog 24 [eX e,eX e] (bv true):=by
 refine lx (R:=fun a b=>a=b) (fun a b ha hb e=>?_) e e h h (tT (fun _=>rfl) e)
 subst e
 have:=Ot a ha a
 rwa [show GR a a=true from sameB_iff.2 rfl] at this
theorem YB {t:T} (h0:t.kind ≠ 0) (h1:t.kind ≠ 1):(Ai t).kids=t.kids.map Ai:=by
 obtain⟨k,w,l⟩:=t
 have h0:k ≠ 0:=h0
 have h1:k ≠ 1:=h1
 rw[B2,if_neg h0,if_neg h1]
 rfl
theorem OD:∀ (l ks:List T),Bf ks (l.map Ai)=Bf ks l
 |[],ks=>rfl
 |t::l,ks=>by rw[List.map_cons,Bf,Bf,LA,OD l]
section
variable {n0:Nat} {w0:World} {I0:Nat→Prop} {M0:Nm→Nat→Prop} {m0:Mu} {Q:Exit→Sta→Prop}
theorem tU {l:List (List Int)} (hs:Sg l) {r:Rf} {t:T} (hm:AG l r t) {u:Nat} {most:Int} {fr n:Nat} (hb:fr+n≤t.kids.length) (hk:t.kids.length≤1000000000)
  (hq:∀ (H':Hp) (v:Nat) (st:List (Nat × A)),(∀ p,H' (0::p)=(Ly u most).F 0 p)→H' [2]=⟨v,.arr 3 ((((t.kids.map Ai).drop fr).take n).map tA)⟩→Q (.exit 0) ⟨lk ([(0,.pob [0] u 0),(2,iv fr),(5,.pob [1] 1 0),(9,.osl [2] v 3 0 n)]++st),H'⟩) :
  ∀ (m i v:Nat) (H:Hp),i+m=n→(∀ p,H (0::p)=(Ly u most).F 0 p)→H [1]=⟨1,.cells (Xr l r)⟩→H [2]=⟨v,.arr 3 ((((t.kids.map Ai).drop fr).take i).map tA)⟩ →
  LoopC (EP Tryz.prog w0 I0 M0 n0 m0) Df Q ⟨lk [(0,.pob [0] u 0),(2,iv fr),(5,.pob [1] 1 0),(9,.osl [2] v 3 0 i),(11,iv n),(12,iv i)],H⟩:=by
 intro m
 induction m with
 |zero=>
  intro i v H hi hF h1 h2
  have:i=n:=by omega
  subst this
  refine Ad Ah Df.eq_1 ?_
  simp
  have:=hq H v [(11,iv i),(12,iv i),(13,bv false)] hF h2
  simpa using this
 |succ m ih=>
  intro i v H hi hF h1 h2
  have hlt:i<n:=by omega
  have hin:fr+i<t.kids.length:=by omega
  have ew:IntKind.i64.wrap ((i:Int)+1)=((i+1:Nat):Int):=An
  have ef:IntKind.i64.wrap ((fr:Int)+i)=((fr+i:Nat):Int):=An
  obtain⟨k1,k2⟩:=JL hm (fr+i)
  have F1:=Tq hs (Ca hm) ((fr+i:Nat):Int) k1 u most
  have F2:=Qx hs k2 u most
  have hg:Ai (t.kids.getD (fr+i) T0)=((t.kids.map Ai).drop fr)[i]'(by simp;omega):=by
   rw[List.getElem_drop,List.getElem_map]
   simp[hin]
  have htk:((t.kids.map Ai).drop fr).take (i+1)=((t.kids.map Ai).drop fr).take i++[Ai (t.kids.getD (fr+i) T0)]:=by
   rw[hg]
   exact Fj (by simp;omega)
  have hlen:(((t.kids.map Ai).drop fr).take i).length=i:=by simp;omega
  have next:=ih (i+1) (v+1)
  rw[htk,List.map_append] at next
  generalize ((t.kids.map Ai).drop fr).take i=B at *
  generalize Ai (t.kids.getD (fr+i) T0)=x at *
  refine Ad Ah Df.eq_1 ?_
  simp[hlt,h1,ef]
  rw[Int.natCast_add] at F1 F2
  refine Au 0 F1 (fun p=>by simp[hF]) (by simp) (by simp) ?_
  simp
  refine Au 0 F2 (fun p=>by simp) (by simp) (by simp) ?_
  simp[h2,ew,Aa]
  refine⟨by omega,?_⟩
  refine next _ (by omega) (fun p=>by simp[Aa]) (by simp[Aa,h1]) ?_
  rw[AI (by simp;omega)]
  simp[Aa]
end
theorem V9 {l:List (List Int)} (hs:Sg l) {r:Rf} {t:T} (hm:AG l r t) (u:Nat) (most:Int) {fr n:Nat} (hb:fr+n≤t.kids.length) (hk:t.kids.length≤1000000000) :
  A4 Tryz.prog 155 (fun q=>[.pob [q] u 0,GH l r,iv fr,iv n]) (Ly u most) (fun _=>Ba (((t.kids.map Ai).drop fr).take n)) (Ly u most):=by
 refine Mc Nw (by simp) (Ag AN (Ag (Co l r) (Ag AE (Ag AE Am)))) De fun w0 I0 M0 m0 hM=>?_
 unfold Ig
 simp
 refine LoopC.le (BX 9 [2] 3 (by simp)) ?_
 refine LoopC.le (Ao [(0,.pob [0] u 0),(2,iv fr),(5,.pob [1] 1 0),(9,.osl [2] 1 3 0 0),(11,iv n),(12,iv (0:Nat))] (by simp[upd])) ?_
 refine tU hs hm (u:=u) (most:=most) hb hk (fun H' v st hF h2=>?_) n 0 1 _ (by omega) (fun p=>by simp[Aa]) (by simp[Aa]) (by simp[Aa])
 have hlen:(((t.kids.map Ai).drop fr).take n).length=n:=by simp;omega
 generalize ((t.kids.map Ai).drop fr).take n=B at *
 simp
 obtain⟨H2,k1,k2⟩:=Qf (c:=EP Tryz.prog w0 I0 M0 28 m0) (s:=lk [(8,.osl [2] v 3 0 n)]) (H:=H') (fun r=>1≤r) (fun r p b hr=>hM r p b hr) 8 (Ba B) (fun H1 e1=>by
  have e2:H1 [2]=H' [2]:=e1 2 [] (by omega)
  simp
  exact Bb (o:=[2]) (u:=v) (n:=n) (sz:=3) (l:=B) (f:=tA) (by rw[e2,h2];simp) hlen.symm (fun x=>by simp))
 refine Rx k1 (AH (r0:=Ba B) (by simp[upd]) rfl (fun p=>?_))
 exact(k2 0 p (by omega)).trans (hF p)
noncomputable def Wc (most:Int) (t u:T):List Sp:=if (BN (Lw t) (Lv t u):Int)≤most then HK (Gg (Lw t) (Lv t u)) else HK (AJ [⟨1,t.kids.length⟩,⟨2,u.kids.length⟩])
theorem Z6 {l m:List (List Int)} (hl:Sg l) (hm:Sg m) {r s:Rf} {t u:T} (mt:AG l r t) (mu:AG m s u) (v:Nat) {most:Int} (h0:BQ most) (hkt:t.kids.length≤100000) (hku:u.kids.length≤100000) :
  A4 Tryz.prog 153 (fun q=>[.pob [q] v 0,GH l r,GH m s]) (Ly v most) (fun _=>Nj (Wc most t u)) (Ly v most):=by
 have hn0:newTb.ks=[]:=by simp[newTb,Tb.ks]
 have hK:=Ws dC hl mt (by simp[newTb];omega)
 have hok2:=dk hl (r:=r) t.kids newTb 0 dC (fun j hj=>by
  have:=(FV mt (i:=j) hj).2
  simpa using this)
 have hu2:=Zp (l:=l) (r:=r) t.kids newTb 0
 have hks2:=VN (l:=l) (r:=r) t.kids newTb 0
 have hlen2:=Tp (l:=l) (r:=r) t.kids newTb 0
 generalize DV l r newTb 0 t.kids=S2 at hK hok2 hu2 hks2 hlen2
 have hK2:=Ws hok2 hm mu (by simp[newTb] at hlen2 ⊢; omega)
 rw[hn0] at hks2 hK
 rw[hks2] at hK2
 have hu2':S2.u=1:=hu2
 rw[hu2'] at hK2
 have hK1:newTb.u=1:=rfl
 rw[hK1] at hK
 have e1:(Lw t).length=t.kids.length:=ZF t
 have e2:(Lv t u).length=u.kids.length:=ZL t u
 have hD:=W7 (a:=Lw t) (b:=Lv t u) (by omega) (by omega) h0
 have z1:(Lw t).map iv=(Bf [] t.kids).2.map nv:=Td _
 have z2:(Lv t u).map iv=(Bf (Bf [] t.kids).1 u.kids).2.map nv:=Td _
 simp only[B5,z1,z2] at hD
 have l1:=Bl t.kids []
 have l2:=Bl u.kids (Bf [] t.kids).1
 have N:=X9 (all:=[⟨1,t.kids.length⟩,⟨2,u.kids.length⟩]) (fun s hs=>by
  simp at hs
  rcases hs with rfl | rfl
  ·exact⟨by simp,by simp;omega⟩
  ·exact⟨by simp,by simp;omega⟩) (by simp)
 have N2:G.Spec Tryz.prog 120 [.sl true [.agg [iv 1,iv t.kids.length],.agg [iv 2,iv u.kids.length]]] (Nj (HK (AJ [⟨1,t.kids.length⟩,⟨2,u.kids.length⟩]))):=N.soft (by simp[A.softL,A.soft,C0,GA])
 clear N
 unfold Wc
 generalize hx:Lw t=x at *
 generalize hy:Lv t u=y at *
 clear z1 z2
 generalize (Bf [] t.kids).2=X at *
 generalize (Bf (Bf [] t.kids).1 u.kids).2=Y at *
 generalize AJ [⟨1,t.kids.length⟩,⟨2,u.kids.length⟩]=us at *
 refine Mc ME (by simp) (Ag AN (Ag (Co l r) (Ag (Co m s) Am))) De fun w0 I0 M0 m0 hM=>?_
 unfold GU
 simp
 refine Au 5 lL (fun p=>by simp) rfl (by simp) ?_
 simp
 refine Sx 5 6 (by decide) hK (fun p=>by simp) (fun p=>by simp) (by simp) (by simp) ?_
 simp
 refine Au 0 (HF v most) (fun p=>by simp) (by simp) (by simp) ?_
 simp
 refine Sx 5 7 (by decide) hK2 (fun p=>by simp) (fun p=>by simp) (by simp) (by simp) ?_
 simp
 refine Au 0 (HF v most) (fun p=>by simp) (by simp) (by simp) ?_
 simp
 refine CJ (Fz (d:=[6]) (fun b=>hM 6 [] b (by omega)) 8 (.sl false (X.map nv)) fun H1 g1=>?_) ?_
 ·simp
  exact Y5 (by rw[g1];simp) l1.symm
 refine CJ (Fz (d:=[7]) (fun b=>hM 7 [] b (by omega)) 10 (.sl false (Y.map nv)) fun H1 g1=>?_) ?_
 ·simp[upd]
  exact Y5 (by rw[g1];simp[Aa]) l2.symm
 refine CJ (Ao [(0,.pob [0] v 0),(4,.pob [1] 1 0),(5,.pob [2] 1 0),(8,.sl false (X.map nv)),(10,.sl false (Y.map nv))] (by simp[upd])) (Ep ?_)
 simp[Aa]
 refine Ae hD (by simp) ?_
 by_cases hd:(BN x y:Int)≤most
 ·simp[hd]
  exact AH (by simp) rfl (fun p=>by simp[Aa])
 ·simp[hd]
  refine Ae (DR l r) (by simp) ?_
  rw[Ha mt]
  simp
  refine Ae (DR m s) (by simp) ?_
  rw[Ha mu]
  simp
  refine Ae N2 (by simp) ?_
  simp
  exact AH (by simp) rfl (fun p=>by simp[Aa])
theorem VG (e:E):Ez (fun _=>eX e):=EN (cs:=eL e) rfl fun x hx=>by simp at hx;rcases hx with rfl | rfl | rfl | rfl | rfl | rfl | rfl | rfl | rfl | rfl | rfl<;>rfl
theorem GC (t:T) (h:t.kind=1) (i:Nat):(Ai t).kids.getD i T0=Ai (t.kids.getD i T0)∧(Ai t).words.getD i 0=t.words.getD i 0:=by
 obtain⟨k,w,l⟩:=t
 have h:k=1:=h
 subst h
 rw[B2,if_neg (by decide),if_pos rfl]
 refine⟨?_,?_⟩
 ·show(BC (l.map Ai)).getD i T0=_
  rw[U6,FF _ (fun x hx h0=>?_) i,FL]
  ·rfl
  ·obtain⟨y,_,rfl⟩:=List.mem_map.1 hx
   simp at h0
   exact HA h0
 ·show(BT w).getD i 0=_
  rw[Vm]
  exact FF w (fun x _ h=>by simpa using h) i
def jb (u n:Nat) (k:A):List A:=[iv 2,iv 0,.sl true [],.sl true [],iv 0,.sl true [],.sl true [],.osl [6] u 4 0 n,k,iv 0,.sl true []]
structure sH (v:Nat) (most:Int) (l m:List (List Int)) (r s:Rf) (H:Hp):Prop where
 f:∀ p,H (0::p)=(Ly v most).F 0 p
 g1:H [1]=⟨1,.cells (Xr l r)⟩
 g2:H [2]=⟨1,.cells (Xr m s)⟩
 g3:H [3]=⟨1,.cells Bk⟩
section
variable {n0:Nat} {w0:World} {I0:Nat→Prop} {M0:Nm→Nat→Prop} {m0:Mu} {Q:Exit→Sta→Prop}
theorem AdW {l m:List (List Int)} (hl:Sg l) (hm:Sg m) {r s:Rf} {t u:T} (mt:AG l r t) (mu:AG m s u) {a b:T} (ha:BB a) (hb:BB b) (ea:∀ i:Nat,t.words.getD i 0=a.words.getD i 0) (eb:∀ i:Nat,u.words.getD i 0=b.words.getD i 0) {v:Nat} {most:Int} {N:Nat} (hN:N≤1000000)
  (hq:∀ (H':Hp) (x:Nat),sH v most l m r s H'→H' [4]=⟨1,.cells (jb x (DJ a b N).length (.sl true []))⟩→H' [6]=⟨x,.arr 4 ((DJ a b N).map wA)⟩→H' [7]=⟨0,.none⟩→H' [8]=⟨0,.none⟩ →
   Q (.exit 0) ⟨lk [(0,.pob [0] v 0),(4,.pob [1] 1 0),(5,.pob [2] 1 0),(6,.pob [3] 1 0),(7,.pob [4] 1 0),(18,iv N),(19,iv N),(20,bv false)],H'⟩) :
  ∀ (d i:Nat) (x:Nat) (H:Hp),i+d=N→sH v most l m r s H→H [4]=⟨1,.cells (jb x (DJ a b i).length (.sl true []))⟩→H [6]=⟨x,.arr 4 ((DJ a b i).map wA)⟩→H [7]=⟨0,.none⟩→H [8]=⟨0,.none⟩ →
  LoopC (EP Tryz.prog w0 I0 M0 n0 m0) B7 Q ⟨lk [(0,.pob [0] v 0),(4,.pob [1] 1 0),(5,.pob [2] 1 0),(6,.pob [3] 1 0),(7,.pob [4] 1 0),(18,iv N),(19,iv i)],H⟩:=by
 intro d
 induction d with
 |zero=>
  intro i x H hd hH h4 h6 h7 h8
  have:i=N:=by omega
  subst this
  refine Ad Ah B7.eq_1 ?_
  simp
  exact hq H x hH h4 h6 h7 h8
 |succ d ih=>
  intro i x H hd hH h4 h6 h7 h8
  have hlt:i<N:=by omega
  have ew:IntKind.i64.wrap ((i:Int)+1)=((i+1:Nat):Int):=An
  have hwa:Ci (a.words.getD i 0):=YG ha i
  have hwb:Ci (b.words.getD i 0):=YG hb i
  have hW:=W5 (i:=i) hwa hwb
  have hwl:=LU a b i
  have next:=ih (i+1)
  rw[Ma] at next
  have W1:=Gv hl (Ca mt) (i:Int)
  rw[TY mt i,ea i] at W1
  have W2:=Gv hm (Ca mu) (i:Int)
  rw[TY mu i,eb i] at W2
  have h1:=hH.g1
  have h2:=hH.g2
  refine Ad Ah B7.eq_1 ?_
  simp[hlt,h1,h2]
  refine Ae W1 (by simp) ?_
  simp[h1,h2]
  refine Ae W2 (by simp) ?_
  simp
  refine Ae hW (by simp) ?_
  generalize a.words.getD i 0=y at *
  generalize b.words.getD i 0=z at *
  by_cases hz:Kr y z=0
  ·rw[if_pos hz] at next
   simp[hz,Aa]
   rw[ew]
   refine next x _ (by omega) ⟨fun p=>by simp[Aa,hH.f],by simp[Aa,h1],by simp[Aa,h2],by simp[Aa,hH.g3]⟩ (by simp[Aa,h4]) (by simp[Aa,h6]) (by simp[Aa,h7]) (by simp[Aa,h8])
  ·rw[if_neg hz] at next
   simp[hz,Aa,h4,h6,jb]
   refine⟨by omega,?_⟩
   rw[ew]
   refine next (x+1) _ (by omega) ⟨fun p=>by simp[Aa,hH.f],by simp[Aa,h1],by simp[Aa,h2],by simp[Aa,hH.g3]⟩ (by simp[Aa,jb]) (by simp[Aa,AI]) (by simp[Aa,h7]) (by simp[Aa,h8])
theorem AdE {l m:List (List Int)} (hl:Sg l) (hm:Sg m) {r s:Rf} {t u:T} (mt:AG l r t) (mu:AG m s u) {one:T→T→E} {a b:T} {v:Nat} {most:Int} {N:Nat} (hN:N≤1000000)
  (hone:∀ i:Nat,A4 Tryz.prog 48 (fun q=>[.pob [q] v 0,GH l (Cj l r i).1,GH m (Cj m s i).1]) (Ly v most) (fun _=>eX (one (a.kids.getD i T0) (b.kids.getD i T0))) (Ly v most)) {x n:Nat} {ws:List WE}
  (hq:∀ (H':Hp) (y:Nat),sH v most l m r s H'→H' [4]=⟨1,.cells (jb x n (.osl [8] y 12 0 (BH one a b N).length))⟩→H' [6]=⟨x,.arr 4 (ws.map wA)⟩→H' [8]=⟨y,.arr 12 ((BH one a b N).map kA)⟩ →
   Q (.exit 2) ⟨lk [(0,.pob [0] v 0),(4,.pob [1] 1 0),(5,.pob [2] 1 0),(6,.pob [3] 1 0),(7,.pob [4] 1 0),(47,iv N),(48,iv N),(49,bv false)],H'⟩) :
  ∀ (d i:Nat) (y:Nat) (H:Hp),i+d=N→sH v most l m r s H→H [4]=⟨1,.cells (jb x n (.osl [8] y 12 0 (BH one a b i).length))⟩→H [6]=⟨x,.arr 4 (ws.map wA)⟩→H [8]=⟨y,.arr 12 ((BH one a b i).map kA)⟩ →
  LoopC (EP Tryz.prog w0 I0 M0 n0 m0) B6 Q ⟨lk [(0,.pob [0] v 0),(4,.pob [1] 1 0),(5,.pob [2] 1 0),(6,.pob [3] 1 0),(7,.pob [4] 1 0),(47,iv N),(48,iv i)],H⟩:=by
 intro d
 induction d with
 |zero=>
  intro i y H hd hH h4 h6 h8
  have:i=N:=by omega
  subst this
  refine Ad Ah B6.eq_1 ?_
  simp
  exact hq H y hH h4 h6 h8
 |succ d ih=>
  intro i y H hd hH h4 h6 h8
  have hlt:i<N:=by omega
  have ew:IntKind.i64.wrap ((i:Int)+1)=((i+1:Nat):Int):=An
  have hO:=hone i
  have hkl:=HC one a b i
  have next:=ih (i+1)
  rw[K0] at next
  have F1:=Tq hl (Ca mt) (i:Int) (JL mt i).1 v most
  have F2:=Tq hm (Ca mu) (i:Int) (JL mu i).1 v most
  generalize a.kids.getD i T0=p at *
  generalize b.kids.getD i T0=q at *
  generalize one p q=e at *
  have h1:=hH.g1
  have h2:=hH.g2
  have hf:=hH.f
  refine Ad Ah B6.eq_1 ?_
  simp[hlt,h1,h2]
  refine Au 0 F1 (fun p=>by simp[hf]) (by simp) (by simp) ?_
  simp[h1,h2]
  refine⟨rfl,?_⟩
  refine Au 0 F2 (fun p=>by simp) (by simp) (by simp) ?_
  simp
  refine Au 0 hO (fun p=>by simp) (by simp) (by simp) ?_
  by_cases hz:e.kind=0
  ·rw[if_pos hz] at next
   simp[hz,Aa]
   refine⟨rfl,?_⟩
   rw[ew]
   refine next y _ (by omega) ⟨fun p=>by simp[Aa],by simp[Aa,h1],by simp[Aa,h2],by simp[Aa,hH.g3]⟩ (by simp[Aa,h4]) (by simp[Aa,h6]) (by simp[Aa,h8])
  ·rw[if_neg hz] at next
   simp[hz,Aa,h4,h8,jb]
   refine⟨rfl,by omega,?_⟩
   rw[ew]
   refine next (y+1) _ (by omega) ⟨fun p=>by simp[Aa],by simp[Aa,h1],by simp[Aa,h2],by simp[Aa,hH.g3]⟩ (by simp[Aa,jb]) (by simp[Aa,h6]) (by simp[Aa,AI])
end
theorem qT {l:List (List Int)} (hl:Sg l) {r:Rf} {t:T} (mt:AG l r t) (h1:t.kind=1):G.Spec Tryz.prog 149 [GH l r] (iv (Ai t).words.length):=by
 have:=Yn hl mt
 rw[Ul h1]
 exact this
theorem p9 {l:List (List Int)} (hl:Sg l) {r:Rf} {t:T} (mt:AG l r t) (h1:t.kind=1) (u:Nat) (most:Int):A4 Tryz.prog 151 (fun q=>[.pob [q] u 0,GH l r]) (Ly u most) (fun _=>iv (Ai t).kids.length) (Ly u most):=by
 have:=fQ hl mt u most
 rw[Ul h1]
 simp only[T.kids_mk,PD]
 exact this
theorem ZY {l m:List (List Int)} (hl:Sg l) (hm:Sg m) {r s:Rf} {t u:T} (mt:AG l r t) (mu:AG m s u) (h1:t.kind=1) (h2:u.kind=1) {one:T→T→E} (b1:(Ai t).words.length≤1000000) (b2:(Ai u).words.length≤1000000) (b3:(Ai t).kids.length≤1000000) (b4:(Ai u).kids.length≤1000000) (v:Nat) (most:Int)
  (hone:∀ i:Nat,A4 Tryz.prog 48 (fun q=>[.pob [q] v 0,GH l (Cj l r i).1,GH m (Cj m s i).1]) (Ly v most) (fun _=>eX (one (Ai (t.kids.getD i T0)) (Ai (u.kids.getD i T0)))) (Ly v most)) :
  A4 Tryz.prog 96 (fun q=>[.pob [q] v 0,GH l r,GH m s]) (Ly v most) (fun _=>eX (Te one (Ai t) (Ai u))) (Ly v most):=by
 have L1:=qT hl mt h1
 have L2:=qT hm mu h2
 have W1:=p9 hl mt h1 v most
 have W2:=p9 hm mu h2 v most
 have wa:=GM _ (GX hl _ _ mt)
 have wb:=GM _ (GX hm _ _ mu)
 have ea:∀ i:Nat,t.words.getD i 0=(Ai t).words.getD i 0:=fun i=>(GC t h1 i).2.symm
 have eb:∀ i:Nat,u.words.getD i 0=(Ai u).words.getD i 0:=fun i=>(GC u h2 i).2.symm
 have hone':∀ i:Nat,A4 Tryz.prog 48 (fun q=>[.pob [q] v 0,GH l (Cj l r i).1,GH m (Cj m s i).1]) (Ly v most) (fun _=>eX (one ((Ai t).kids.getD i T0) ((Ai u).kids.getD i T0))) (Ly v most):=fun i=>by
  rw[(GC t h1 i).1,(GC u h2 i).1]
  exact hone i
 clear hone
 generalize Ai t=a at *
 generalize Ai u=b at *
 refine Mc Kn (by simp) (Ag AN (Ag (Co l r) (Ag (Co m s) Am))) (VG _) fun w0 I0 M0 m0 hM=>?_
 unfold F5
 simp
 refine Ae L1 (by simp) ?_
 simp
 refine Ae L2 (by simp) ?_
 simp
 refine LoopC.le (Bd (d:=[4]) (u:=1) (cs:=[iv 2,iv 0,.sl true [],.sl true [],iv 0,.sl true [],.sl true [],.sl true [],.sl true [],iv 0,.sl true []]) 7 [6] 4 (by simp[Aa]) rfl (by simp)) ?_
 refine LoopC.le (Ao [(0,.pob [0] v 0),(4,.pob [1] 1 0),(5,.pob [2] 1 0),(6,.pob [3] 1 0),(7,.pob [4] 1 0),(18,iv (max a.words.length b.words.length:Nat)),(19,iv (0:Nat))] (by simp;omega)) ?_
 refine AdW hl hm mt mu wa wb ea eb (v:=v) (most:=most) (N:=max a.words.length b.words.length) (by omega) (fun H' x gH g4 g6 g7 g8=>?_) (max a.words.length b.words.length) 0 1 _ (by omega) ⟨fun p=>by simp[Aa],by simp[Aa],by simp[Aa],by simp[Aa,Bk]⟩ (by simp[Aa,jb,DJ]) (by simp[Aa,DJ]) (by simp[Aa]) (by simp[Aa])
 simp[gH.g1,gH.g2]
 refine Au 0 W1 (fun p=>by simp[gH.f]) (by simp) (by simp) ?_
 simp[gH.g2]
 refine⟨rfl,?_⟩
 refine Au 0 W2 (fun p=>by simp) (by simp) (by simp) ?_
 simp
 refine LoopC.le (Bd (d:=[4]) (u:=1) (cs:=jb x (DJ a b (max a.words.length b.words.length)).length (.sl true [])) 8 [8] 12 (by simp[g4]) rfl (by simp)) ?_
 refine LoopC.le (Ao [(0,.pob [0] v 0),(4,.pob [1] 1 0),(5,.pob [2] 1 0),(6,.pob [3] 1 0),(7,.pob [4] 1 0),(47,iv (max a.kids.length b.kids.length:Nat)),(48,iv (0:Nat))] (by simp;omega)) ?_
 refine AdE hl hm mt mu (one:=one) (a:=a) (b:=b) (v:=v) (most:=most) (N:=max a.kids.length b.kids.length) (by omega) hone' (ws:=DJ a b (max a.words.length b.words.length)) (x:=x) (n:=(DJ a b (max a.words.length b.words.length)).length) (fun H2 y kH k4 k6 k8=>?_) (max a.kids.length b.kids.length) 0 1 _ (by omega) ⟨fun p=>by simp[Aa],by simp[Aa,gH.g1],by simp[Aa,gH.g2],by simp[Aa,gH.g3]⟩ (by simp[Aa,jb,BH,g8]) (by simp[Aa,g6]) (by simp[Aa,BH,g8])
 simp[k4,kH.g3,Aa,jb]
 refine⟨by simp[Bk],?_⟩
 obtain⟨H4,y1,y2⟩:=QD (c:=EP Tryz.prog w0 I0 M0 74 m0) (s:=lk [(6,.pob [3] 1 0)]) (H:=Ay H2 [3] ⟨1,.cells (jb x (DJ a b (max a.words.length b.words.length)).length (.osl [8] y 12 0 (BH one a b (max a.kids.length b.kids.length)).length))⟩) (fun r=>r=6∨r=8) (fun r p b h=>hM r p b (by omega)) (r0:=3) (p0:=[]) (by omega) (u:=1) (cs:=jb x (DJ a b (max a.words.length b.words.length)).length (.osl [8] y 12 0 (BH one a b (max a.kids.length b.kids.length)).length)) (by simp[Aa]) (cs':=eL (Te one a b)) (by simp[A.ones,Te]) (fun H1 h1=>⟨Ab rfl,Ab rfl,Al,Al,Ab rfl,Al,Al,Bb (f:=wA) (l:=DJ a b (max a.words.length b.words.length)) (by rw[h1 6 [] (by simp)];simp[Aa,k6]) rfl (fun x=>by simp),Bb (f:=kA) (l:=BH one a b (max a.kids.length b.kids.length)) (by rw[h1 8 [] (by simp)];simp[Aa,k8]) rfl (fun x=>by simp),Ab rfl,Al,trivial⟩)
 refine Rx y1 (AH (r0:=eX (Te one a b)) (by simp[Ms]) rfl (fun p=>?_))
 have e1:=y2 0 p (by omega)
 rw[AK (by simp),kH.f] at e1
 dsimp only
 rw[AK (by simp),e1]
theorem Hh {P:Program} {K:Sta→Prop} {rest:List CO} {s:Nat→A} {H:Hp} {dd:Option Nat} {nm:Nm} {ix:Nat} {un:List Nat} {l:Bool} {lg:Lg} {g:FuncId} {aa:Array Operand} {ts:Array TypeId} {ars:Nat→List A} {F:Fam} {x:Nat→A} (r:Nat) (hS:A4 P g ars F x F) (hF:∀ p,H (r::p)=F.F r p) (ha:aa.toList.map (evs s)=ars r) (hck:Ck un lg ⟨[([r],true)],[]⟩)
  (h:Ar P K rest (A9 l ix ⟨[([r],true)],[]⟩ lg) (Sta.put ⟨s,H⟩ dd (x r) H)) :
  Ar P K (⟨dd,.call { callee:=.value (.func g),args:=aa,argTypes:=ts },none,nm,ix,un,l⟩::rest) lg ⟨s,H⟩:=by
 refine bU .nil [([r],true)] [] (fun H2 hag=>?_) (fun o H2 ho=>rfl) hck h
 rw[ha]
 have hF2:∀ p,H2 (r::p)=F.F r p:=fun p=>by rw[hag (r::p) (by simp[Yw,W6,List.isPrefixOf]),hF]
 obtain⟨E,hc,hE⟩:=XU r hS hF2
 have hc3:Xl P H2 g (ars r) (x r) E:=by
  rcases hc with ⟨_,_,_,_,h5⟩ | ⟨_,_,_,h4⟩ | ⟨h1,_⟩
  ·cases h5
  ·cases h4
  ·exact h1 H2 (fun o _=>rfl)
 have e2:ov r (F.F r) H2=H2:=by
  funext o
  cases o with
  |nil=>rfl
  |cons j p=>
   by_cases hj:j=r
   ·subst hj;simp[hF2]
   ·simp[hj]
 rw[e2] at hE
 refine⟨hc3.1,fun c w I μ vs a b d e=>?_⟩
 have:=hc3.2 c w I μ vs a b d e
 rw[hE] at this
 exact this
theorem OY (l:List Sp):Dq 2 (l.map C0)=true:=by rw[Hg];simp[C0,GA]
def iy (k:Int) (u n:Nat):List A:=[iv 3,iv 0,.sl true [],.sl true [],iv 0,.sl true [],.sl true [],.sl true [],.sl true [],iv k,.osl [6] u 14 0 n]
section
variable {n0:Nat} {w0:World} {I0:Nat→Prop} {M0:Nm→Nat→Prop} {m0:Mu} {Q:Exit→Sta→Prop}
theorem pe {l m:List (List Int)} (hl:Sg l) (hm:Sg m) {r s:Rf} {t u:T} (mt:AG l r t) (mu:AG m s u) {v:Nat} {most:Int} (bt:t.kids.length≤100000) (bu:u.kids.length≤100000) {i g j w x:Nat} (b1:i+g≤t.kids.length) (b2:j+w≤u.kids.length) {I:List OP}
  (hG:G.Spec Tryz.prog 154 [iv t.kind,Ba (((t.kids.map Ai).drop i).take g),Ba (((u.kids.map Ai).drop j).take w),iv most] (Lz I)) {its:List IT} (hn:its.length+I.length≤1000000000) {Sv:A} {H:Hp} (hH:sH v most l m r s H) (h4:H [4]=⟨1,.cells (iy t.kind x its.length)⟩) (h6:H [6]=⟨x,.arr 14 (its.map Mz)⟩)
  (hq:∀ H':Hp,sH v most l m r s H'→H' [4]=⟨1,.cells (iy t.kind (x+1) (its++I.map IT.got).length)⟩→H' [6]=⟨x+1,.arr 14 ((its++I.map IT.got).map Mz)⟩ →
   Q .normal ⟨lk [(0,.pob [0] v 0),(4,.pob [1] 1 0),(5,.pob [2] 1 0),(6,.pob [3] 1 0),(7,.pob [4] 1 0),(8,iv (i+g:Nat)),(9,iv (j+w:Nat)),(10,Sv)],H'⟩) :
  WPC (EP Tryz.prog w0 I0 M0 n0 m0) Dd Q ⟨lk [(0,.pob [0] v 0),(4,.pob [1] 1 0),(5,.pob [2] 1 0),(6,.pob [3] 1 0),(7,.pob [4] 1 0),(8,iv i),(9,iv j),(10,Sv),(12,iv g),(13,iv w)],H⟩:=by
 have K:=Cb l r
 rw[Cp mt] at K
 have S1:=V9 hl mt v most b1 (by omega)
 have S2:=V9 hm mu v most b2 (by omega)
 have e1:IntKind.i64.wrap ((i:Int)+g)=((i+g:Nat):Int):=An
 have e2:IntKind.i64.wrap ((j:Int)+w)=((j+w:Nat):Int):=An
 have g1:=hH.g1
 have g2:=hH.g2
 have gf:=hH.f
 have g0:H [0]=⟨v,.cells [iv most,iv 0]⟩:=by have:=hH.f [];simpa using this
 generalize ((t.kids.map Ai).drop i).take g=X at *
 generalize ((u.kids.map Ai).drop j).take w=Y at *
 rw[Dd.eq_1]
 simp[h4,g1,g2,iy,List.isPrefixOf]
 refine Ae K (by simp) ?_
 simp[g1,List.isPrefixOf]
 refine Hh 0 S1 gf (by simp) (by simp[List.isPrefixOf]) ?_
 simp[g2,List.isPrefixOf]
 refine Hh 0 S2 gf (by simp) (by simp[List.isPrefixOf]) ?_
 simp[g0,List.isPrefixOf]
 refine Ae hG (by simp) ?_
 simp[h4,h6,iy,Aa,Cf,e1,e2,List.isPrefixOf]
 refine⟨by omega,?_⟩
 rw[Int.natCast_add,Int.natCast_add] at hq
 refine hq _ ⟨fun p=>by simp[Aa,gf],by simp[Aa,g1],by simp[Aa,g2],by simp[Aa,hH.g3]⟩ (by simp[Aa,iy]) ?_
 rw[List.map_append,← Qs]
 simp[Aa,AI,List.isPrefixOf]
theorem AbN {l m:List (List Int)} (hl:Sg l) (hm:Sg m) {r s:Rf} {t u:T} (mt:AG l r t) (mu:AG m s u) {v:Nat} {most:Int} (bt:t.kids.length≤100000) (bu:u.kids.length≤100000) {one:T→T→E}
  (hG:∀ X Y:List T,(∀ z,z ∈ X→z ∈ t.kids.map Ai)→(∀ z,z ∈ Y→z ∈ u.kids.map Ai)→X.length≤1000000→Y.length≤1000000→G.Spec Tryz.prog 154 [iv t.kind,Ba X,Ba Y,iv most] (Lz (DM one X Y))) {R:List OP}
  (hq:∀ (H':Hp) (its:List IT) (x:Nat) (st:List (Nat × A)),its.map IT.op=R→sH v most l m r s H'→H' [4]=⟨1,.cells (iy t.kind x its.length)⟩→H' [6]=⟨x,.arr 14 (its.map Mz)⟩ →
   Q (.exit 0) ⟨lk ([(0,.pob [0] v 0),(4,.pob [1] 1 0),(5,.pob [2] 1 0),(6,.pob [3] 1 0),(7,.pob [4] 1 0)]++st),H'⟩) :
  ∀ (d:Nat) (S:List Sp) (i j x:Nat) (its:List IT) (H:Hp),S.length=d→(∀ z,z ∈ S→z.k≤2)→i+dA (AJ S)≤t.kids.length→j+dB (AJ S)≤u.kids.length→its.length+50*d≤1000000000→R=Cv (DM one) S ((t.kids.map Ai).drop i) ((u.kids.map Ai).drop j) (its.map IT.op)→sH v most l m r s H→H [4]=⟨1,.cells (iy t.kind x its.length)⟩→H [6]=⟨x,.arr 14 (its.map Mz)⟩ →
  LoopC (EP Tryz.prog w0 I0 M0 n0 m0) AY Q ⟨lk [(0,.pob [0] v 0),(4,.pob [1] 1 0),(5,.pob [2] 1 0),(6,.pob [3] 1 0),(7,.pob [4] 1 0),(8,iv i),(9,iv j),(10,Nj S)],H⟩:=by
 have tm:∀ (i g:Nat),(∀ z,z ∈ ((t.kids.map Ai).drop i).take g→z ∈ t.kids.map Ai)∧(((t.kids.map Ai).drop i).take g).length≤1000000:=fun i g=>⟨fun z hz=>Q3 (O5 hz),by simp;omega⟩
 have um:∀ (i g:Nat),(∀ z,z ∈ ((u.kids.map Ai).drop i).take g→z ∈ u.kids.map Ai)∧(((u.kids.map Ai).drop i).take g).length≤1000000:=fun i g=>⟨fun z hz=>Q3 (O5 hz),by simp;omega⟩
 have hGG:∀ i g j w:Nat,G.Spec Tryz.prog 154 [iv t.kind,Ba (((t.kids.map Ai).drop i).take g),Ba (((u.kids.map Ai).drop j).take w),iv most] (Lz (DM one (((t.kids.map Ai).drop i).take g) (((u.kids.map Ai).drop j).take w))):=fun i g j w=>hG _ _ (tm i g).1 (um j w).1 (tm i g).2 (um j w).2
 have dr:∀ (L:List T) (i n:Nat),(L.drop i).drop n=L.drop (i+n):=fun L i n=>by rw[List.drop_drop]
 intro d
 induction d using Nat.strongRecOn with
 |_ d ih=>
 intro S i j x its H hd hS2 hA hB hn hR hH h4 h6
 have h0:H [0]=⟨v,.cells [iv most,iv 0]⟩:=by have:=hH.f [];simpa using this
 cases S with
 |nil=>
  refine Ad Ah AY.eq_1 ?_
  simp[List.isPrefixOf]
  refine hq H its x [(8,iv i),(9,iv j),(10,Nj []),(30,bv false)] ?_ hH h4 h6
  rw[hR,Cv]
 |cons z S=>
  rw[List.length_cons] at hd
  have hk:=hS2 z (by simp)
  have hS3:∀ y,y ∈ S→y.k≤2:=fun y hy=>hS2 y (by simp[hy])
  rw[Aw,Dl,DN] at hA
  rw[Aw,Dk,DL] at hB
  have hpos:(0:Int)<(S.length:Int)+1:=by omega
  have hpos':0<S.length+1:=by omega
  have hl1:(1:Int)≤(S.length:Int)+1:=by omega
  have hl2:List.take S.length (S.map C0)=S.map C0:=AI (by simp)
  have hk3:z.k=0∨z.k=1∨z.k=2:=by omega
  rcases hk3 with h | h | h
  ·rw[TD h,dr,dr] at hR
   rw[if_neg (by omega)] at hA hB
   have e1:IntKind.i64.wrap ((i:Int)+z.n)=((i+z.n:Nat):Int):=An
   have e2:IntKind.i64.wrap ((j:Int)+z.n)=((j+z.n:Nat):Int):=An
   refine Ad Ah AY.eq_1 ?_
   simp[h0,hpos,hpos',hl1,w7,hl2,OY,C0,GA,h,h4,h6,iy,Aa,Cf,e1,e2,List.isPrefixOf]
   refine⟨by omega,?_⟩
   have nx:=fun H'=>ih S.length (by omega) S (i+z.n) (j+z.n) (x+1) (its++[IT.r (RI.keep (z.n:Int))]) H' rfl hS3 (by omega) (by omega) (by simp;omega) (by rw[hR];simp[IT.op,RI.op])
   rw[Int.natCast_add,Int.natCast_add] at nx
   refine nx _ ⟨fun p=>by simp[Aa,hH.f],by simp[Aa,hH.g1],by simp[Aa,hH.g2],by simp[Aa,hH.g3]⟩ (by simp[Aa,iy]) ?_
   simp[Aa,AI,Mz,X8,QE,Bk,List.isPrefixOf]
  ·rw[h] at hA hB
   simp at hA hB
   by_cases hg2:∃ (z2:Sp) (S2:List Sp),S=z2::S2∧z2.k=2
   ·obtain⟨z2,S2,rfl,h2⟩:=hg2
    rw[SP h h2,dr,dr] at hR
    rw[Aw,Dl,DN] at hA
    rw[Aw,Dk,DL] at hB
    rw[h2] at hA hB
    simp at hA hB
    have gl:=NB one (((t.kids.map Ai).drop i).take z.n) (((u.kids.map Ai).drop j).take z2.n)
    have p1:(0:Int)<(S2.length:Int)+1+1:=by omega
    have p2:(0:Int)<(S2.length:Int)+1:=by omega
    have p3:0<S2.length+1+1:=by omega
    have p4:0<S2.length+1:=by omega
    have p5:(1:Int)≤(S2.length:Int)+1+1:=by omega
    have p6:(1:Int)≤(S2.length:Int)+1:=by omega
    have p7:List.take S2.length (S2.map C0)=S2.map C0:=AI (by simp)
    have G1:=hGG i z.n j z2.n
    refine Ad Ah AY.eq_1 ?_
    simp[h0,p1,p2,p3,p4,p5,p6,p7,w7,OY,C0,GA,h,h2,Aa,List.isPrefixOf]
    simp only[List.length_cons] at hd hn
    refine pe hl hm mt mu bt bu (by omega) (by omega) G1 (by omega) (x:=x) (its:=its) ⟨fun p=>by simp[Aa,hH.f],by simp[Aa,hH.g1],by simp[Aa,hH.g2],by simp[Aa,hH.g3]⟩ (by simp[Aa,h4]) (by simp[Aa,h6]) (fun H' kH k4 k6=>?_)
    simp[List.isPrefixOf]
    exact ih S2.length (by omega) S2 (i+z.n) (j+z2.n) (x+1) _ H' rfl (fun y hy=>hS3 y (by simp[hy])) (by omega) (by omega) (by simp;omega) (by rw[hR,List.map_append,RP]) kH k4 k6
   ·have hnd:∀ s2 r,S=s2::r→s2.k ≠ 2:=fun s2 r e h4=>hg2 ⟨s2,r,e,h4⟩
    rw[VB h hnd,dr] at hR
    have gd:DM one (((t.kids.map Ai).drop i).take z.n) (((u.kids.map Ai).drop j).take 0)=CS (((t.kids.map Ai).drop i).take z.n):=by rw[List.take_zero,Tv]
    have G1:=hGG i z.n j 0
    rw[gd] at G1
    have dl:(CS (((t.kids.map Ai).drop i).take z.n)).length≤1:=by unfold CS;split<;>simp
    have fin:∀ (H1:Hp),sH v most l m r s H1→H1 [4]=⟨1,.cells (iy t.kind x its.length)⟩→H1 [6]=⟨x,.arr 14 (its.map Mz)⟩→∀ Q':Exit→Sta→Prop,(∀ st,LoopC (EP Tryz.prog w0 I0 M0 n0 m0) AY Q st→Q' .normal st)→WPC (EP Tryz.prog w0 I0 M0 n0 m0) Dd Q' ⟨lk [(0,.pob [0] v 0),(4,.pob [1] 1 0),(5,.pob [2] 1 0),(6,.pob [3] 1 0),(7,.pob [4] 1 0),(8,iv i),(9,iv j),(10,Nj S),(12,iv z.n),(13,iv (0:Nat))],H1⟩:=fun H1 a1 a4 a6 Q' hQ=>
     pe hl hm mt mu bt bu (by omega) (by omega) G1 (by omega) (x:=x) (its:=its) a1 a4 a6 (fun H' kH k4 k6=>hQ _ (ih S.length (by omega) S (i+z.n) (j+0) (x+1) _ H' rfl hS3 (by omega) (by omega) (by simp;omega) (by rw[hR,List.map_append,RP];rfl) kH k4 k6))
    cases S with
    |nil=>
     refine Ad Ah AY.eq_1 ?_
     simp[h0,C0,GA,h,Aa,List.isPrefixOf]
     refine fin _ ⟨fun p=>by simp[Aa,hH.f],by simp[Aa,hH.g1],by simp[Aa,hH.g2],by simp[Aa,hH.g3]⟩ (by simp[Aa,h4]) (by simp[Aa,h6]) _ fun st h=>?_
     simpa using h
    |cons z2 S2=>
     have p1:(0:Int)<(S2.length:Int)+1+1:=by omega
     have p2:(0:Int)<(S2.length:Int)+1:=by omega
     have p3:0<S2.length+1+1:=by omega
     have p4:0<S2.length+1:=by omega
     have p5:(1:Int)≤(S2.length:Int)+1+1:=by omega
     have p7:List.take S2.length (S2.map C0)=S2.map C0:=AI (by simp)
     have q1:¬ z2.k=2:=hnd z2 S2 rfl
     have q2:¬ (z2.k:Int)=2:=by omega
     refine Ad Ah AY.eq_1 ?_
     simp[h0,p1,p2,p3,p4,p5,p7,w7,OY,C0,GA,h,q1,q2,Aa,List.isPrefixOf]
     refine fin _ ⟨fun p=>by simp[Aa,hH.f],by simp[Aa,hH.g1],by simp[Aa,hH.g2],by simp[Aa,hH.g3]⟩ (by simp[Aa,h4]) (by simp[Aa,h6]) _ fun st h=>?_
     simpa using h
  ·rw[VZ h,dr] at hR
   rw[h] at hA hB
   simp at hA hB
   have gd:DM one (((t.kids.map Ai).drop i).take 0) (((u.kids.map Ai).drop j).take z.n)=CY (((u.kids.map Ai).drop j).take z.n):=by rw[List.take_zero,WA]
   have G1:=hGG i 0 j z.n
   rw[gd] at G1
   have dl:(CY (((u.kids.map Ai).drop j).take z.n)).length≤1:=by unfold CY;split<;>simp
   refine Ad Ah AY.eq_1 ?_
   simp[h0,hpos,hpos',hl1,w7,hl2,OY,C0,GA,h,Aa,List.isPrefixOf]
   refine pe (g:=0) hl hm mt mu bt bu (by omega) (by omega) G1 (by omega) (x:=x) (its:=its) ⟨fun p=>by simp[Aa,hH.f],by simp[Aa,hH.g1],by simp[Aa,hH.g2],by simp[Aa,hH.g3]⟩ (by simp[Aa,h4]) (by simp[Aa,h6]) (fun H' kH k4 k6=>?_)
   simp[List.isPrefixOf]
   exact ih S.length (by omega) S (i+0) (j+z.n) (x+1) _ H' rfl hS3 (by omega) (by omega) (by simp;omega) (by rw[hR,List.map_append,RP];rfl) kH k4 k6
end
theorem kE (most:Int) (t u:T):(∀ s,s ∈ Wc most t u→s.k≤2)∧dA (AJ (Wc most t u))=t.kids.length∧dB (AJ (Wc most t u))=u.kids.length∧(Wc most t u).length≤t.kids.length+u.kids.length:=by
 have e1:(Lw t).length=t.kids.length:=by simp[Lw,np,Bl]
 have e2:(Lv t u).length=u.kids.length:=by simp[Lv,np,Bl]
 have wd:=WO (Lw t) (Lv t u)
 have wi:=Sa (Lw t) (Lv t u)
 have wn:=P6 _ wi
 have ui:∀ x,x ∈ AJ [⟨1,t.kids.length⟩,⟨2,u.kids.length⟩]→x≤2:=fun x hx=>by
  rw[Aw,Aw,Ed,List.append_nil] at hx
  rcases List.mem_append.1 hx with h | h<;>(have h':=List.eq_of_mem_replicate h;simp at h';omega)
 have ud:=P6 _ ui
 have ua:dA (AJ [⟨1,t.kids.length⟩,⟨2,u.kids.length⟩])=t.kids.length:=by
  rw[Aw,Aw,Ed,Dl,Dl,DN,DN];simp[dA]
 have ub:dB (AJ [⟨1,t.kids.length⟩,⟨2,u.kids.length⟩])=u.kids.length:=by
  rw[Aw,Aw,Ed,Dk,Dk,DL,DL];simp[dB]
 unfold Wc
 split
 ·have:=HH _ (NH wi)
  exact⟨fun s hs=>(NH wi s hs).1,by omega,by omega,by omega⟩
 ·have:=HH _ (NH ui)
  exact⟨fun s hs=>(NH ui s hs).1,by omega,by omega,by omega⟩
theorem kF {t u:T} (h0:t.kind ≠ 0) (h1:t.kind ≠ 1) (hk:u.kind=t.kind) (one:T→T→E) (most:Int):IQ one most (Ai t) (Ai u) = .mk 3 T0 T0 [] [] t.kind (Cv (DM one) (Wc most t u) (t.kids.map Ai) (u.kids.map Ai) []):=by
 have nk:∀ y:T,y.kind ≠ 0→y.kind ≠ 1→(Ai y).kids=y.kids.map Ai∧(Ai y).kind=y.kind:=fun y a b=>by
  obtain⟨k,w,l⟩:=y
  simp only[T.kind_mk] at a b
  rw[B2,if_neg a,if_neg b]
  exact⟨rfl,rfl⟩
 obtain⟨t1,t2⟩:=nk t h0 h1
 obtain⟨u1,u2⟩:=nk u (by omega) (by omega)
 have c1:Lw (Ai t)=Lw t:=by unfold Lw;rw[t1,OD]
 have c2:Lv (Ai t) (Ai u)=Lv t u:=by unfold Lv;rw[t1,u1,OD,OD]
 unfold IQ Wc
 rw[c1,c2,t1,u1,t2]
 congr 1
 split
 ·rfl
 ·have:=bR one (t.kids.map Ai) (u.kids.map Ai)
  rw[List.length_map,List.length_map] at this
  exact this.symm
theorem gu {l m:List (List Int)} (hl:Sg l) (hm:Sg m) {r s:Rf} {t u:T} (mt:AG l r t) (mu:AG m s u) (h0:t.kind ≠ 0) (h1:t.kind ≠ 1) (hk:u.kind=t.kind) (bt:t.kids.length≤100000) (bu:u.kids.length≤100000) (v:Nat) {most:Int} (hmost:BQ most) {one:T→T→E}
  (hone:∀ x,x ∈ t.kids.map Ai→∀ y,y ∈ u.kids.map Ai→G.Spec Tryz.prog 30 [tX x,tX y,iv most] (eX (one x y))) :
  A4 Tryz.prog 97 (fun q=>[.pob [q] v 0,GH l r,GH m s]) (Ly v most) (fun _=>eX (IQ one most (Ai t) (Ai u))) (Ly v most):=by
 have wt:=(wfT_iff.1 (GX hl _ _ mt)).ks
 have wu:=(wfT_iff.1 (GX hm _ _ mu)).ks
 have nt:∀ z,z ∈ t.kids.map Ai→BB z:=fun z hz=>by
  obtain⟨y,hy,rfl⟩:=List.mem_map.1 hz
  exact GM _ (wt y hy)
 have nu:∀ z,z ∈ u.kids.map Ai→BB z:=fun z hz=>by
  obtain⟨y,hy,rfl⟩:=List.mem_map.1 hz
  exact GM _ (wu y hy)
 have hG:∀ X Y:List T,(∀ z,z ∈ X→z ∈ t.kids.map Ai)→(∀ z,z ∈ Y→z ∈ u.kids.map Ai)→X.length≤1000000→Y.length≤1000000→G.Spec Tryz.prog 154 [iv t.kind,Ba X,Ba Y,iv most] (Lz (DM one X Y)):=fun X Y hX hY lX lY=>Ym (fun z hz=>nt z (hX z hz)) (fun z hz=>nu z (hY z hz)) lX lY fun x hx y hy=>hone x (hX x hx) y (hY y hy)
 obtain⟨q1,q2,q3,q4⟩:=kE most t u
 have K:=Cb l r
 rw[Cp mt] at K
 have SC:=Z6 hl hm mt mu v hmost bt bu
 rw[kF h0 h1 hk]
 generalize hR:Cv (DM one) (Wc most t u) (t.kids.map Ai) (u.kids.map Ai) []=R
 generalize Wc most t u=S at *
 refine Mc NC (by simp) (Ag AN (Ag (Co l r) (Ag (Co m s) Am))) (VG _) fun w0 I0 M0 m0 hM=>?_
 unfold Io
 simp
 refine Ae K (by simp) ?_
 simp
 refine Au 0 SC (fun p=>by simp[Aa]) (by simp) (by simp) ?_
 simp
 refine LoopC.le (Bd (d:=[4]) (u:=1) (cs:=[iv 3,iv 0,.sl true [],.sl true [],iv 0,.sl true [],.sl true [],.sl true [],.sl true [],iv t.kind,.sl true []]) 10 [6] 14 (by simp[Aa]) rfl (by simp)) ?_
 refine LoopC.le (Ao [(0,.pob [0] v 0),(4,.pob [1] 1 0),(5,.pob [2] 1 0),(6,.pob [3] 1 0),(7,.pob [4] 1 0),(8,iv (0:Nat)),(9,iv (0:Nat)),(10,Nj S)] (by simp)) ?_
 refine AbN hl hm mt mu (v:=v) (most:=most) bt bu hG (R:=R) (fun H' its x st hI kH k4 k6=>?_) S.length S 0 0 1 [] _ rfl q1 (by omega) (by omega) (by simp;omega) (by rw[← hR];simp) ⟨fun p=>by simp[Aa],by simp[Aa],by simp[Aa],by simp[Aa,Bk]⟩ (by simp[Aa,iy]) (by simp[Aa])
 simp[k4,kH.g3,Aa,iy]
 refine⟨by simp[Bk],?_⟩
 obtain⟨H4,y1,y2⟩:=QD (c:=EP Tryz.prog w0 I0 M0 106 m0) (s:=lk [(6,.pob [3] 1 0)]) (H:=Ay H' [3] ⟨1,.cells (iy t.kind x its.length)⟩) (fun r=>r=6) (fun r p b h=>hM r p b (by omega)) (r0:=3) (p0:=[]) (by omega) (u:=1) (cs:=iy t.kind x its.length) (by simp[Aa]) (cs':=eL (.mk 3 T0 T0 [] [] t.kind R)) (by simp[A.ones]) (fun H1 h1=>⟨Ab rfl,Ab rfl,Al,Al,Ab rfl,Al,Al,Al,Al,Ab rfl,by rw[← hI];exact Sw (by rw[h1 6 [] rfl];simp[Aa,k6]) rfl,trivial⟩)
 refine Rx y1 (AH (r0:=eX (.mk 3 T0 T0 [] [] t.kind R)) (by simp[Ms]) rfl (fun p=>?_))
 have e1:=y2 0 p (by omega)
 rw[AK (by simp),kH.f] at e1
 dsimp only
 rw[AK (by simp),e1]
theorem Yx {n0:Nat} {w0:World} {I0:Nat→Prop} {M0:Nm→Nat→Prop} {m0:Mu} {v:Nat} {most:Int} {e:E} {cs:List A} {H:Hp} (h3:H [3]=⟨1,.cells cs⟩) (hf:∀ H1:Hp,Hd H1 cs (eL e)) (hF:∀ p,H (0::p)=(Ly v most).F 0 p):SN (EP Tryz.prog w0 I0 M0 n0 m0) [.cell 6 33] 1 (eX e) (ov 0 ((Ly v most).F 0) (HM [])) .ret ⟨lk [(6,.pob [3] 1 0)],H⟩:=by
 obtain⟨H2,g1,g2⟩:=QD (c:=EP Tryz.prog w0 I0 M0 n0 m0) (s:=lk [(6,.pob [3] 1 0)]) (H:=H) (fun _=>False) (fun _ _ _ h=>h.elim) (r0:=3) (p0:=[]) (by simp) h3 (cs':=eL e) (by simp[A.ones]) (fun H1 _=>hf H1)
 refine Rx g1 (AH (r0:=eX e) (by simp[Ms]) rfl (fun p=>?_))
 have e1:=g2 0 p (by simp)
 rw[hF] at e1
 dsimp only
 rw[AK (by simp),e1]
theorem gE (H1:Hp):Hd H1 Bk (eL E0):=by
 have hE:eL E0=[iv 0,iv 0,.sl false [],.sl false [],iv 0,.sl false [],.sl false [],.sl false [],.sl false [],iv 0,.sl false []]:=by simp[E0]
 rw[hE]
 exact⟨Ab rfl,Ab rfl,Al,Al,Ab rfl,Al,Al,Al,Al,Ab rfl,Al,trivial⟩
theorem dJ (H1:Hp) (e:E):Hd H1 (eL e) (eL e):=LY (by simp)
theorem Yf {l m:List (List Int)} (hl:Sg l) (hm:Sg m) {r s:Rf} {t u:T} (mt:AG l r t) (mu:AG m s u) {X Y:E} (v:Nat) (most:Int)
  (hs:t.kind=1→u.kind=1→A4 Tryz.prog 96 (fun q=>[.pob [q] v 0,GH l r,GH m s]) (Ly v most) (fun _=>eX X) (Ly v most))
  (hL:t.kind=u.kind→2≤t.kind→t.kind≤9→A4 Tryz.prog 97 (fun q=>[.pob [q] v 0,GH l r,GH m s]) (Ly v most) (fun _=>eX Y) (Ly v most)) :
  A4 Tryz.prog 48 (fun q=>[.pob [q] v 0,GH l r,GH m s]) (Ly v most) (fun _=>eX (if KJ t u=true then E0 else if t.kind=1∧u.kind=1 then X else if t.kind=u.kind∧2≤t.kind∧t.kind≤9 then Y else .mk 1 (Ai t) (Ai u) [] [] 0 [])) (Ly v most):=by
 have SA:=fm hl hm mt mu v most
 have T1:=Qx hl mt v most
 have T2:=Qx hm mu v most
 have K1:=Cb l r
 rw[Cp mt] at K1
 have K2:=Cb m s
 rw[Cp mu] at K2
 refine Ax Ph (by simp) (Ag AN (Ag (Co l r) (Ag (Co m s) Am))) (VG _) fun w0 I0 M0 m0=>?_
 unfold I5
 simp[List.isPrefixOf]
 rw[Az]
 simp[List.isPrefixOf]
 refine Hh 0 SA (fun p=>by simp[Aa]) (by simp) (by simp[List.isPrefixOf]) ?_
 cases he:KJ t u with
 |true=>
  simp[List.isPrefixOf]
  refine Yx (cs:=Bk) (by simp[Aa,Bk]) gE (fun p=>by simp[Aa])
 |false=>
  have raw:∀ (c:Cx) (H:Hp),H [1]=⟨1,.cells (Xr l r)⟩→H [2]=⟨1,.cells (Xr m s)⟩→H [3]=⟨1,.cells Bk⟩→(∀ p,H (0::p)=(Ly v most).F 0 p)→True:=fun _ _ _ _ _ _=>trivial
  simp[List.isPrefixOf]
  refine Ae K1 (by simp) ?_
  by_cases h1:t.kind=1
  ·simp[h1]
   rw[Az]
   simp[List.isPrefixOf]
   refine Ae K2 (by simp) ?_
   by_cases h2:u.kind=1
   ·have S:=hs h1 h2
    simp[h2,List.isPrefixOf]
    refine Hh 0 S (fun p=>by simp[Aa]) (by simp) (by simp[List.isPrefixOf]) ?_
    simp[List.isPrefixOf]
    refine Yx (cs:=eL X) (by simp[Aa]) (fun H1=>dJ H1 X) (fun p=>by simp[Aa])
   ·have hne:¬ (1:Int)=u.kind:=fun e=>h2 e.symm
    simp[h2,List.isPrefixOf]
    refine Ae K1 (by simp) ?_
    simp[h1,List.isPrefixOf]
    refine Ae K2 (by simp) ?_
    simp[h1,hne,List.isPrefixOf]
    refine A8 rfl ?_
    simp[List.isPrefixOf]
    refine A8 rfl ?_
    simp[List.isPrefixOf]
    refine Hh 0 T1 (fun p=>by simp[Aa]) (by simp) (by simp[List.isPrefixOf]) ?_
    simp[List.isPrefixOf]
    refine Hh 0 T2 (fun p=>by simp[Aa]) (by simp) (by simp[List.isPrefixOf]) ?_
    simp[List.isPrefixOf]
    refine Yx (cs:=[iv 1,iv (Ai t).kind,C5 (Ai t).words,Ba (Ai t).kids,iv (Ai u).kind,C5 (Ai u).words,Ba (Ai u).kids,.sl true [],.sl true [],iv 0,.sl true []]) (by simp[Aa,h1]) (fun H1=>⟨Ab rfl,Ab rfl,Ab rfl,Ab rfl,Ab rfl,Ab rfl,Ab rfl,Al,Al,Ab rfl,Al,trivial⟩) (fun p=>by simp[Aa])
  ·simp[h1]
   refine A8 rfl ?_
   simp[List.isPrefixOf]
   refine Ae K1 (by simp) ?_
   simp[List.isPrefixOf]
   refine Ae K2 (by simp) ?_
   by_cases h3:t.kind=u.kind
   ·simp[h3]
    rw[Az]
    simp[List.isPrefixOf]
    refine Ae K1 (by simp) ?_
    simp[List.isPrefixOf]
    rw[Az]
    simp[List.isPrefixOf]
    refine Ae (WB t.kind) (by simp) ?_
    by_cases h5:2≤t.kind∧t.kind≤9
    ·have S:=hL h3 h5.1 h5.2
     have h5':2≤u.kind∧u.kind≤9:=by omega
     have h1':¬ u.kind=1:=by omega
     simp[h5.1,h5.2,h5'.1,h5'.2,h1',List.isPrefixOf]
     refine Hh 0 S (fun p=>by simp[Aa]) (by simp) (by simp[List.isPrefixOf]) ?_
     simp[List.isPrefixOf]
     refine Yx (cs:=eL Y) (by simp[Aa]) (fun H1=>dJ H1 Y) (fun p=>by simp[Aa])
    ·have h6:(decide (2≤t.kind)&&decide (t.kind≤9))=false:=by
      rw[Bool.eq_false_iff];simpa using h5
     have h1':¬ u.kind=1:=by omega
     have h5':¬ (2≤u.kind∧u.kind≤9):=by omega
     rw[h6]
     simp[h5',h1',List.isPrefixOf]
     refine Hh 0 T1 (fun p=>by simp[Aa]) (by simp) (by simp[List.isPrefixOf]) ?_
     simp[List.isPrefixOf]
     refine Hh 0 T2 (fun p=>by simp[Aa]) (by simp) (by simp[List.isPrefixOf]) ?_
     simp[List.isPrefixOf]
     refine Yx (cs:=[iv 1,iv (Ai t).kind,C5 (Ai t).words,Ba (Ai t).kids,iv (Ai u).kind,C5 (Ai u).words,Ba (Ai u).kids,.sl true [],.sl true [],iv 0,.sl true []]) (by simp[Aa,h3]) (fun H1=>⟨Ab rfl,Ab rfl,Ab rfl,Ab rfl,Ab rfl,Ab rfl,Ab rfl,Al,Al,Ab rfl,Al,trivial⟩) (fun p=>by simp[Aa])
   ·simp[h3]
    refine A8 rfl ?_
    simp[List.isPrefixOf]
    refine A8 rfl ?_
    simp[List.isPrefixOf]
    refine Hh 0 T1 (fun p=>by simp[Aa]) (by simp) (by simp[List.isPrefixOf]) ?_
    simp[List.isPrefixOf]
    refine Hh 0 T2 (fun p=>by simp[Aa]) (by simp) (by simp[List.isPrefixOf]) ?_
    simp[List.isPrefixOf]
    refine Yx (cs:=[iv 1,iv (Ai t).kind,C5 (Ai t).words,Ba (Ai t).kids,iv (Ai u).kind,C5 (Ai u).words,Ba (Ai u).kids,.sl true [],.sl true [],iv 0,.sl true []]) (by simp[Aa]) (fun H1=>⟨Ab rfl,Ab rfl,Ab rfl,Ab rfl,Ab rfl,Ab rfl,Ab rfl,Al,Al,Ab rfl,Al,trivial⟩) (fun p=>by simp[Aa])
theorem nC (t u:T):KJ (Ai t) (Ai u)=KJ t u:=by
 unfold KJ
 rw[LA,LA]
theorem kS {f:Nat} {t:T} (h:Va (f+1) (Ai t)) (h1:t.kind=1) (i:Nat):Va f (Ai (t.kids.getD i T0)):=by
 rw[← (GC t h1 i).1]
 exact Li h i
theorem Yu {l m:List (List Int)} (hl:Sg l) (hm:Sg m) (v:Nat) {most:Int} (hmost:BQ most):∀ (f g:Nat) (t u:T) (r s:Rf),AG l r t→AG m s u→Va f (Ai t)→Va g (Ai u) →
  A4 Tryz.prog 48 (fun q=>[.pob [q] v 0,GH l r,GH m s]) (Ly v most) (fun _=>eX (LC most f (Ai t) (Ai u))) (Ly v most)
 |0,g,t,u,r,s,mt,mu,ha,hb=>by
  have hk:t.kind=0:=by
   have e:Ai t=T0:=ha
   have:=congrArg T.kind e
   simpa using this
  have:=Yf hl hm mt mu (X:=E0) (Y:=E0) v most (fun h=>by omega) (fun _ h=>by omega)
  rw[if_neg (show ¬ (t.kind=1∧u.kind=1) by omega),if_neg (show ¬ (t.kind=u.kind∧2≤t.kind∧t.kind≤9) by omega)] at this
  rw[LC,nC]
  exact this
 |f+1,g,t,u,r,s,mt,mu,ha,hb=>by
  obtain⟨a1,a2,a3,a4⟩:=Bc ha
  obtain⟨b1,b2,b3,b4⟩:=Bc hb
  have:=Yf hl hm mt mu (X:=Te (LC most f) (Ai t) (Ai u)) (Y:=IQ (LC most f) most (Ai t) (Ai u)) v most (fun h1 h2=>?_) (fun h1 h2 h3=>?_)
  ·rw[LC,nC,CL,CL]
   exact this
  ·refine ZY hl hm mt mu h1 h2 (by omega) (by omega) (by omega) (by omega) v most fun i=>?_
   refine Yu hl hm v hmost f (g-1) _ _ _ _ (JL mt i).2 (JL mu i).2 (kS ha h1 i) ?_
   rw[← (GC u h2 i).1]
   exact Li hb i
  ·have t1:=YB (t:=t) (by omega) (by omega)
   have u1:=YB (t:=u) (by omega) (by omega)
   rw[t1,List.length_map] at a4
   rw[u1,List.length_map] at b4
   refine gu hl hm mt mu (by omega) (by omega) h1.symm (by omega) (by omega) v hmost fun x hx y hy=>?_
   rw[← t1] at hx
   rw[← u1] at hy
   exact TS hmost f (g-1) _ _ (Cw ha x hx) (Cw hb y hy)
theorem eQ {l m:List (List Int)} (hl:Sg l) (hm:Sg m) {r s:Rf} {t u:T} (mt:AG l r t) (mu:AG m s u) {most:Int} (hmost:BQ most) (oa:Va 1000 (Ai t)) (ob:Va 1000 (Ai u)) :
  G.Spec Tryz.prog 22 [GH l r,GH m s,iv most] (.tup [eX (wO most t u),iv 0]):=by
 have F1:=Yu hl hm 1 hmost 1000 1000 t u r s mt mu oa ob
 have h2:=fV _ (R4 most 1000 1000 _ _ oa ob)
 unfold wO
 generalize LC most 1000 (Ai t) (Ai u)=e at *
 refine Aj UK (by simp) fun w0 I0=>?_
 unfold M9
 simp
 refine Au 3 F1 (fun p=>?_) (by simp) (by simp) ?_
 ·by_cases hp:p=[]
  ·subst hp;simp[Aa]
  ·simp[Aa,hp,Ne.symm hp]
 ·simp[Aa]
  refine Ae h2 (by simp) ?_
  simp[Aa]
  exact G4 ⟨Ab (by simp),Ab rfl,trivial⟩
theorem RO {l m:List (List Int)} (hl:Sg l) (hm:Sg m) {r s:Rf} {t u:T} (mt:AG l r t) (mu:AG m s u) {most:Int} (hmost:BQ most) (pt:F9 t≤1000) (pu:F9 u≤1000) :
  G.Spec Tryz.prog 22 [GH l r,GH m s,iv most] (.tup [eX (wO most t u),iv 0]):=
 eQ hl hm mt mu hmost (HB t (GX hl _ _ mt) pt 1000 pt) (HB u (GX hm _ _ mu) pu 1000 pu)
theorem KO {l:List (List Int)} (hs:Sg l) (hl:l.length*24≤140737488355328):G.Spec Tryz.prog 23 [TI l] (GH l (XH l 0 0).1):=by
 refine Aj R9 (by simp) fun w0 I0=>?_
 unfold K4
 simp
 refine Ae (uX l hl hs.b) rfl ?_
 simp
 refine Ae (j7 hs) rfl ?_
 simp
 exact Ab (by simp)
theorem RX {t:T} (h:BB t):G.Spec Tryz.prog 20 [tX t] (bv (decide (0≤Dv 70 400 t))):=by
 refine Aj Qg (by simp) fun w0 I0=>?_
 unfold JV
 simp
 refine Ae (aw t h 70 400 (by omega) (by omega) (by omega)) (by simp) ?_
 simp
 exact Ab rfl
theorem Aer:wO 9 (.mk 1 [7] []) (.mk 1 [8] []) = .mk 2 T0 T0 [⟨0,1,7,8⟩] [] 0 []:=by
 have n7:Ai (.mk 1 [7] []) = .mk 1 [7] []:=by simp[B2,BT,BC]
 have n8:Ai (.mk 1 [8] []) = .mk 1 [8] []:=by simp[B2,BT,BC]
 have he:KJ (.mk 1 [7] []) (.mk 1 [8] [])=false:=by
  rw[Bool.eq_false_iff]
  intro h
  have:=eqT_iff.1 h
  simp[B2,BT,BC] at this
 have u1:Kr 7 8=1:=by kernel_rfl
 have u2:wdE 0 7 8=⟨0,1,7,8⟩:=by kernel_rfl
 have e:Te (LC 9 999) (.mk 1 [7] []) (.mk 1 [8] []) = .mk 2 T0 T0 [⟨0,1,7,8⟩] [] 0 []:=by
  have w:DJ (.mk 1 [7] []) (.mk 1 [8] []) 1=[⟨0,1,7,8⟩]:=by
   rw[show(1:Nat)=0+1 from rfl,Ma]
   have e1:(T.mk 1 [7] []).words.getD 0 0=7:=rfl
   have e2:(T.mk 1 [8] []).words.getD 0 0=8:=rfl
   rw[e1,e2,u1,if_neg (by decide)]
   rw[show((0:Nat):Int)=0 from rfl,u2]
   rfl
  show E.mk 2 T0 T0 (DJ (.mk 1 [7] []) (.mk 1 [8] []) 1) (BH (LC 9 999) (.mk 1 [7] []) (.mk 1 [8] []) 0) 0 []=_
  rw[w]
  rfl
 unfold wO
 rw[n7,n8,show(1000:Nat)=999+1 from rfl,LC,he,if_neg (by simp),if_pos (by simp),e,Vy]
 simp[UN,Gd,ZH,XP,ak,Iq]
theorem GY:G.Spec Tryz.prog 21 [] (bv true):=by
 have m1:=Jf sg1 (a:=64) (b:=3000) (by rw[Ady])
 have m3:=Jf sg3 (a:=64) (b:=3000) (by rw[Aei])
 rw[Ady] at m1
 rw[Aei] at m3
 have V:=RO sg1 sg3 m1 m3 (most:=9) (by simp[BQ]) (by simp) (by simp)
 rw[Aer] at V
 refine Aj Qu (by simp) fun w0 I0=>?_
 unfold JU
 simp
 refine Ae ((KO sg1 (by simp)).soft (by simp[A.softL,A.soft])) rfl ?_
 simp
 refine Ae ((KO sg3 (by simp)).soft (by simp[A.softL,A.soft])) rfl ?_
 simp
 refine Ae V (by simp) ?_
 simp[Aa]
 exact Ap rfl (by simp)
theorem Sh {l m:List (List Int)} (hl:Sg l) (hm:Sg m) (kl:l.length*24≤140737488355328) (km:m.length*24≤140737488355328) (a b c d:Int) (hc:BQ c):G.Spec Tryz.prog 5 [TI l,TI m,v8 a b c d] (bv true):=by
 refine Aj Kp (by simp) fun w0 I0=>?_
 unfold F4
 simp
 refine Ae (gF a b c d) rfl ?_
 simp[Aa]
 refine Ae (UE hl a (MT b) c d) rfl ?_
 have hl2:=Jf hl (a:=a) (b:=MT b)
 generalize Zi l a (MT b)=x at hl2
 obtain⟨t,w,f⟩:=x
 simp only at hl2
 simp[Aa]
 refine Ae (UE hm a (MT b) c d) rfl ?_
 have hm2:=Jf hm (a:=a) (b:=MT b)
 generalize Zi m a (MT b)=y at hm2
 obtain⟨u,w2,f2⟩:=y
 simp only at hm2
 by_cases hf:f=0
 rotate_left
 ·simp[hf,Aa]
  refine A8 rfl ?_
  simp
  refine A8 rfl ?_
  simp
  refine Ae GY rfl ?_
  simp
  exact Bm rfl
 subst hf
 by_cases hf2:f2=0
 rotate_left
 ·simp[hf2,Aa]
  refine A8 rfl ?_
  simp
  refine A8 rfl ?_
  simp
  refine Ae GY rfl ?_
  simp
  exact Bm rfl
 subst hf2
 have mt:=hl2 rfl
 have mu:=hm2 rfl
 have hwt:BB t:=GX hl _ _ mt
 have hwu:BB u:=GX hm _ _ mu
 simp[Aa]
 refine Bj rfl (fun _=>RX hwt) (fun _=>by simp) (by simp) ?_
 by_cases s1:0≤Dv 70 400 t
 rotate_left
 ·simp[s1]
  refine A8 rfl ?_
  simp
  refine Ae GY rfl ?_
  simp
  exact Bm rfl
 simp[s1]
 refine Bj rfl (fun _=>RX hwu) (fun _=>by simp) (by simp) ?_
 by_cases s2:0≤Dv 70 400 u
 rotate_left
 ·simp[s2]
  refine Ae GY rfl ?_
  simp
  exact Bm rfl
 have p1:=PC t 70 400 s1
 have p2:=PC u 70 400 s2
 simp[s2]
 refine Ae (KO hl kl) (by simp) ?_
 simp
 refine Ae (KO hm km) (by simp) ?_
 simp[Aa]
 refine Ae (RO hl hm mt mu hc (by omega) (by omega)) (by simp) ?_
 simp[Aa]
 refine Em rfl (fun _=>ct hwt hwu (by omega) (by omega) hc) (fun _=>by simp) (by simp) ?_
 simp
 refine Em rfl (fun _=>cd (AdD hwt hwu (by omega) (by omega) (most:=c))) (fun _=>by simp) (by simp) ?_
 simp
 refine Em rfl (fun _=>GY) (fun _=>rfl) rfl ?_
 simp
 exact Bm rfl
end Go.Proofs.YtbjmaoedheiigaaGreat
namespace Go.Proofs.YtbjmaoedheiigaaGreat
open Go Go.G Go.Proofs Go.RowKit
theorem ta {m:Int} (h:(Lit.int .i64 m).wf=true):-9223372036854775808≤m∧m<9223372036854775808:=by
 simp[Lit.wf,IntKind.min,IntKind.max,IntKind.bits,IntKind.signed] at h
 omega
theorem tp {m:Int} (h:(Lit.int .u64 m).wf=true):0≤m∧m<18446744073709551616:=by
 simp[Lit.wf,IntKind.min,IntKind.max,IntKind.bits,IntKind.signed] at h
 omega
theorem tf:Tryz.prog.underlying 3=some (.int .i64):=by kernel_rfl
theorem ir:Tryz.prog.underlying 51=some (.int .u64):=by kernel_rfl
theorem iR:Tryz.prog.underlying 22=some (.slice 51):=by kernel_rfl
theorem iO:Tryz.prog.underlying 41=some (.slice 22):=by kernel_rfl
theorem tr:Tryz.prog.bytesOf 51=8:=by kernel_rfl
theorem uh:Tryz.prog.bytesOf 22=24:=by kernel_rfl
theorem kv {n:Nat} {b:List A} (h:Has Tryz.prog n 51 b):∃ m,0≤m∧m<18446744073709551616∧mk Tryz.prog 51 b=uv m:=by
 cases n with
 |zero=>exact h.elim
 |succ n=>
  simp only[Has,ir] at h
  obtain⟨m,hm,rfl⟩:=h
  obtain⟨h1,h2⟩:=tp hm
  exact⟨m,h1,h2,by simp[mk,ir]⟩
theorem VD {α:Type} {xs:List A} {g:α→A} {R:α→Prop} (h:∀ x,x ∈ xs→∃ y,R y∧x=g y):∃ l:List α,xs=l.map g∧∀ y,y ∈ l→R y:=by
 induction xs with
 |nil=>exact⟨[],rfl,fun y h=>nomatch h⟩
 |cons x xs ih=>
  obtain⟨y,hy,rfl⟩:=h x (by simp)
  obtain⟨l,rfl,hl⟩:=ih fun z hz=>h z (by simp[hz])
  refine⟨y::l,rfl,fun z hz=>?_⟩
  rcases List.mem_cons.1 hz with rfl | hz
  ·exact hy
  ·exact hl z hz
set_option maxRecDepth 100000 in
theorem bm {n:Nat} {b:List A} (h:Has Tryz.prog n 22 b):∃ f,∃ l:List Int,mk Tryz.prog 22 b = .sl f (l.map uv)∧l.length*8≤140737488355328∧∀ y,y ∈ l→0≤y∧y<18446744073709551616:=by
 cases n with
 |zero=>exact h.elim
 |succ n=>
  simp only[Has,iR] at h
  obtain⟨f,xs,rfl,_,hz,hf,hx⟩:=h
  rw[tr] at hz
  obtain⟨l,rfl,hl⟩:=VD (g:=uv) (R:=fun y=>0≤y∧y<18446744073709551616) (xs:=xs) fun x hx'=>by
   obtain⟨b,hb,rfl⟩:=hx x hx'
   obtain⟨m,h0,h1,e⟩:=kv hb
   exact⟨m,⟨h0,h1⟩,e⟩
  exact⟨f,l,by simp[mk,iR],by simp[reachBytes] at hz;omega,hl⟩
set_option maxRecDepth 100000 in
theorem WD {n:Nat} {b:List A} (h:Has Tryz.prog n 41 b):∃ (f:Bool) (xs:List A) (l:List (List Int)),mk Tryz.prog 41 b = .sl f xs∧A.soft (.sl f xs)=TI l∧l.length*24≤140737488355328∧Sg l:=by
 cases n with
 |zero=>exact h.elim
 |succ n=>
  simp only[Has,iO] at h
  obtain⟨f,xs,rfl,_,hz,hf,hx⟩:=h
  rw[uh] at hz
  obtain⟨l,rfl,hl⟩:=VD (g:=fun p:Bool × List Int=>.sl p.1 (p.2.map uv)) (R:=fun p=>p.2.length*8≤140737488355328∧∀ y,y ∈ p.2→0≤y∧y<18446744073709551616) (xs:=xs) fun x hx'=>by
   obtain⟨b,hb,rfl⟩:=hx x hx'
   obtain⟨f,l,e,h0,h1⟩:=bm hb
   exact⟨(f,l),⟨h0,h1⟩,e⟩
  have key:∀ x,x ∈ l.map Prod.snd→x.length*8≤140737488355328∧∀ y,y ∈ x→0≤y∧y<18446744073709551616:=fun x hx=>by
   obtain⟨p,hp,rfl⟩:=List.mem_map.1 hx
   exact hl p hp
  refine⟨f,l.map (fun p:Bool × List Int=>.sl p.1 (p.2.map uv)),l.map Prod.snd,by simp[mk,iO],?_,by simp[reachBytes] at hz;simpa using (by omega),⟨fun x hx=>(key x hx).1,fun x hx=>(key x hx).2⟩⟩
  simp[A.soft,Cm,Function.comp_def,TI,ws]
end Go.Proofs.YtbjmaoedheiigaaGreat
namespace Go.Proofs.YtbjmaoedheiigaaGreat
open Go Go.G Go.Proofs Go.PL Go.RowKit
theorem jN {n:Nat} {b:List A} (hb:Has Tryz.prog n 43 b):∃ p q r s:Int,BQ r∧mk Tryz.prog 43 b=v8 p q r s:=by
 cases n with
 |zero=>exact hb.elim
 |succ n=>
  have u:Tryz.prog.underlying 43=some (.struct ((Tryz.prog.fieldsOf 43))):=by kernel_rfl
  unfold Has at hb
  rw[u] at hb
  have e:(Tryz.prog.fieldsOf 43).toList.map Field.type=[3,3,3,3]:=by kernel_rfl
  simp only at hb
  rw[WN,e] at hb
  cases n with
  |zero=>obtain⟨a,b,rfl,h,_⟩:=hb;exact h.elim
  |succ n=>
   simp only[tN,Has,tf] at hb
   obtain⟨_,_,rfl,⟨k1,_,rfl⟩,_,_,rfl,⟨k2,_,rfl⟩,_,_,rfl,⟨k3,w3,rfl⟩,_,_,rfl,⟨k4,_,rfl⟩,rfl⟩:=hb
   exact⟨k1,k2,k3,k4,ta w3,by simp[mk,u]⟩
set_option maxRecDepth 100000 in
theorem said_indiffValues (xs:List A) (h:ArgsHas Tryz.prog Tryz.f5.params.toList xs):G.Spec Tryz.prog 5 xs (.v (.bool true)):=by
 have h:ArgsHas Tryz.prog [41,41,43] xs:=h
 match xs,h with
 |[a,a',a3],⟨⟨n,b,h1,h2⟩,⟨n',b',h1',h2'⟩,⟨n3,b3,h13,h23⟩,_⟩=>
  obtain⟨f,xs,l,e,e',k1,k2⟩:=WD h1
  obtain⟨f',xs',l',ea,ea',ka1,ka2⟩:=WD h1'
  obtain⟨p,q,r,s,hr,e3⟩:=jN h13
  rw[h2,h2',h23,e,ea,e3]
  exact(Sh k2 ka2 k1 ka1 p q r s hr).soft (by simp only[A.softL,e',ea'];rfl)
end Go.Proofs.YtbjmaoedheiigaaGreat
namespace Go.G
open Go.RowKit Go.ChangeShapes Go.WideShapes
section
variable {H:Type} {enc:TypeId × Value→H} {P:Program}
def Oa (P:Program) (ts:List TypeId):Bool:=ts.all fun t=>P.readableRec t&&decide (t<P.types.size)
theorem Px (hl:laidOutB P=true) {W W':World} (hb:Below W.heap.size W W') (sp:Nat→Bool):∀ {ts:List TypeId} {vs:List Value} {ds:List (DataW H)} {ps:List MemPlace},Oa P ts=true →
  DataW.TrodAll enc P W 0 (fun _=>true) true ts vs ds ps→(∀ x ∈ ps,x.block<W.heap.size)→(∀ x ∈ ps,sp x.block=true)→DataW.TrodAll enc P W' 0 sp true ts vs ds ps
 |[],_,_,_,_,h,_,_=>by
  obtain⟨rfl,rfl,rfl⟩:=trodAll_nil h
  exact trodAll_mk0
 |t::ts,_,_,_,hr,h,hlt,hsp=>by
  obtain⟨v,vs,d,ds,p,q,rfl,rfl,rfl,h1,h2⟩:=trodAll_cons h
  simp only[Oa,List.all_cons,Bool.and_eq_true,decide_eq_true_eq] at hr
  exact⟨p,q,WideElems.Trod_stays hl hr.1.1 hr.1.2 h1 (fun x hx=>hb.same (hlt x (by simp[hx]))) (fun x hx=>hsp x (by simp[hx])),
   Px hl hb sp (by simpa[Oa] using hr.2) h2 (fun x hx=>hlt x (by simp[hx])) (fun x hx=>hsp x (by simp[hx])),rfl⟩
theorem NG {w:World} {base:Nat} {spare:Nat→Bool} {held:Bool}:∀ {ts:List TypeId} {vs:List Value} {ds:List (DataW H)} {ps:List MemPlace},DataW.TrodAll enc P w base spare held ts vs ds ps→ds.length=ts.length∧vs.length=ts.length
 |[],_,_,_,h=>by
  obtain⟨rfl,rfl,rfl⟩:=trodAll_nil h
  exact⟨rfl,rfl⟩
 |t::ts,_,_,_,h=>by
  obtain⟨v,vs,d,ds,p,q,rfl,rfl,rfl,h1,h2⟩:=trodAll_cons h
  have:=NG h2
  simp[this]
theorem oQ {f:Func} {s:ChangeSpec} {apart fresh handsOn again:Bool} {W W':World} {args:Array Value} {ds gs:List (DataW H)} {before:List MemPlace} {t:TypeId}
  (hl:laidOutB P=true) (hp:Oa P f.params.toList=true) (hsv:s.vars=[]) (hW:DataW.Whole enc P f.params.toList s.vars apart W args.toList ds gs before) (hB:Below W.heap.size W W')
  (hrt:f.resultTypes = #[t]) (ht:P.underlying t=some .bool) (hfn:∀ ds':List (DataW H),ds'.length=f.params.size→s.fn H ds'={ results:=[.lit (.bool true)],args:=ds' }) :
  s.post enc P f apart fresh handsOn again W args (.bool true) W':=by
 have hlt:=hW.lt
 have hW':=hW
 obtain⟨p,q,hA,hV,rfl,hz,hn⟩:=hW'
 rw[hsv] at hV
 obtain⟨rfl,rfl⟩:=trodVars_none hV
 have hfn:=hfn ds (by have:=(NG hA).1;simpa using this)
 simp only[List.append_nil] at hlt hz hn
 have hA':=fun sp=>Px hl hB sp hp hA hlt
 have hr:∀ (b:Nat) (sp:Nat→Bool) (hd:Bool),DataW.TrodAll enc P W' b sp hd f.resultTypes.toList ((Value.bool true).resultList f.resultTypes.size) [.lit (.bool true)] []:=fun b sp hd=>by
  rw[hrt]
  exact trodAll_cons_mk (shut_bool ht _) trodAll_mk0
 refine⟨ds,[],p++[],[],p,[],hW,?_,?_,?_,Below.frame hB _,fun _=>?_⟩
 ·simp only[List.append_nil,hfn];exact hr _ _ _
 ·simp only[List.append_nil,hfn];exact hA' _ (fun x hx=>by simpa using hlt x hx)
 ·simp only[List.append_nil,hfn,hsv];exact rfl
 ·refine⟨ok_one hrt rfl (okWide_bool_mk ht _),_,[],([]++p)++[],⟨[]++p,[],trodAll_append (hA' (fun _=>true) (fun _ _=>rfl)) (hr _ _ _),by rw[hsv];rfl,rfl,?_,?_⟩,?_⟩
  ·intro b off hx
   have hx:MemPlace.cell b off ∈ p:=by simpa using hx
   rw[Below.frozen hB (hlt _ hx)]
   exact hz b off hx
  ·intro ha
   have:=hn ha
   simpa using this
  ·intro x hx _
   simpa using hx
theorem law_calls {f:Func} {fid:FuncId} {s:ChangeSpec} {apart fresh handsOn again:Bool} {W:World} {base:Nat} {args:Array Value} {ds gs:List (DataW H)} {before:List MemPlace} {t:TypeId} (S:List TypeId)
  (hl:laidOutB P=true) (hp:Oa P f.params.toList=true) (hS:NF P S=true) (hts:f.params.toList.all S.contains=true) (hsv:s.vars=[]) (hrt:f.resultTypes = #[t]) (ht:P.underlying t=some .bool)
  (hfn:∀ ds':List (DataW H),ds'.length=f.params.size→s.fn H ds'={ results:=[.lit (.bool true)],args:=ds' })
  (hspec:∀ as',ArgsHas P f.params.toList as'→Spec P fid as' (.v (.bool true))) (htb:Tabs P W (vR W))
  (hval:∀ (j:Nat) t v,f.params[j]? = some t→args[j]? = some v→Value.okWide P W .any base t v) (hW:DataW.Whole enc P f.params.toList s.vars apart W args.toList ds gs before)
  (hwt:(DataW.weightsEach P (f.params.toList++s.plain.varTypes P) (ds++gs)).all (·≤reachBytes)=true) :
  Calls P fid args W fun e W'=>∃ v,e = .returned v∧s.post enc P f apart fresh handsOn again W args v W':=by
 have hW':=hW
 obtain⟨p,q,hA,hV,rfl,hz,hn⟩:=hW
 have hV':=hV
 rw[hsv] at hV'
 obtain⟨rfl,_⟩:=trodVars_none hV'
 have hwt':∀ m,m ∈ DataW.weightsEach P f.params.toList ds→m≤reachBytes:=by
  have e:s.plain.varTypes P=[]:=by simp[ChangeSpec.plain,DataSpec.varTypes,hsv]
  rw[e,List.append_nil,List.append_nil,List.all_eq_true] at hwt
  exact fun m hm=>by simpa using hwt m hm
 obtain⟨as',h1,h2,h3⟩:=Q7 hS (fun t ht=>by rw[List.all_eq_true] at hts;simpa using hts t ht) hwt' hA (fun j u v hj hv=>hval j u v (by simpa using hj) (by simpa using hv))
 refine((hspec as' h2).2 W (vR W) args (fun _ h=>h) htb (by simpa using h1.symm) (fun k y hk=>?_)).mono fun e W' ⟨v,he,hB,hr⟩=>?_
 ·have:=h3 k y hk
  simpa[List.getD,Array.getD_eq_getD_getElem?] using this
 ·cases hr
  exact⟨_,he,oQ hl hp hsv hW' hB hrt ht hfn⟩
end
end Go.G
