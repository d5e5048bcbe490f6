/-
  Texts, merged, without what is not reached.
-/
import Derived.Test.YtbjmaoedheiigaaGreatKSf
namespace Go.Proofs.YtbjmaoedheiigaaGreat
set_option linter.unusedVariables false
set_option linter.unusedSimpArgs false
open Go Go.G Go.Proofs Go.PL
mutual
def depthT : T→Nat
  | .mk k w l => if k = 0∨k = 10 then 0 else depthL 1 l
def depthL : Nat→List T→Nat
  | n,[] => n
  | n,t :: l => depthL (max n (depthT t + 1)) l
end
theorem depthT_mk (k : Int) (w : List Int) (l : List T) : depthT (.mk k w l) = if k = 0∨k = 10 then 0 else depthL 1 l := by rw [depthT]
mutual
theorem depth_parts : ∀ t : T,(depthT t : Int)≤partsT t
  | .mk k w l => by
    have h := depthL_parts l 1
    have hp := partsL_pos l
    rw [depthT_mk,partsT_mk]
    split
    · omega
    · omega
theorem depthL_parts : ∀ (l : List T) (n : Nat),(depthL n l : Int)≤max (n : Int) (1 + partsL l)
  | [],n => by
    rw [depthL]
    omega
  | t :: l,n => by
    have h1 := depth_parts t
    have h2 := depthL_parts l (max n (depthT t + 1))
    have hp := partsL_pos l
    have hq := partsT_pos t
    rw [depthL,partsL_cons]
    omega
end
section
variable {n0 : Nat} {w0 : World} {I0 : Nat→Prop} {Q : Exit→Sta→Prop}
theorem depth_l1 {t : T} (hl : t.kids.length≤1000) (hp : ∀ c,c ∈ t.kids→partsT c≤1000) (ih : ∀ c,c ∈ t.kids→G.Spec Tryz.prog 9 [tX c] (iv (depthT c : Nat))) {H : Hp} (hH : H [0] = ⟨1,.cells (tL t)⟩) {R : Nat}
    (hq : ∀ st,Q (.exit 0) ⟨lk ([(1,.pob [0] 1 0),(3,iv (R : Nat))] ++ st),H⟩) : ∀ (m i n : Nat),i + m = t.kids.length→R = depthL n (t.kids.drop i) →
    LoopC (cx Tryz.prog w0 I0 n0) l1_centoref07_Depth Q ⟨lk [(1,.pob [0] 1 0),(3,iv n),(4,iv i)],H⟩ := by
  intro m
  induction m with
  | zero =>
    intro i n hm hR
    have : i = t.kids.length := by omega
    subst this
    rw [List.drop_length,depthL] at hR
    subst hR
    refine loopC_once mixed l1_centoref07_Depth.eq_1 ?_
    simp [hH]
    have := hq [(4,iv t.kids.length),(18,bv false)]
    simpa using this
  | succ m ihm =>
    intro i n hm hR
    have hlt : i < t.kids.length := by omega
    have ew : IntKind.i64.wrap ((i : Int) + 1) = ((i + 1 : Nat) : Int) := by rw [i64_same (by omega) (by omega)]; omega
    have hd : t.kids.drop i = t.kids[i] :: t.kids.drop (i + 1) := (List.getElem_cons_drop hlt).symm
    have hS := ih _ (List.getElem_mem hlt)
    have hpc := hp _ (List.getElem_mem hlt)
    have hdp := depth_parts t.kids[i]
    rw [hd,depthL] at hR
    have next := ihm (i + 1)
    generalize hx : t.kids[i] = x at *
    have ed : IntKind.i64.wrap ((depthT x : Int) + 1) = ((depthT x + 1 : Nat) : Int) := by rw [i64_same (by omega) (by omega)]; omega
    refine loopC_once mixed l1_centoref07_Depth.eq_1 ?_
    simp [hlt,hH,hx]
    refine sc_call hS (by simp) ?_
    by_cases hc : (n : Int) < (depthT x : Int) + 1
    · have hmx : max n (depthT x + 1) = depthT x + 1 := by omega
      rw [hmx] at hR
      simp [ed,ew,hc]
      exact next (depthT x + 1) (by omega) hR
    · have hmx : max n (depthT x + 1) = n := by omega
      rw [hmx] at hR
      simp [ed,ew,hc]
      exact next n (by omega) hR
end
theorem depth_spec : ∀ t : T,wfT t→partsT t≤1000→G.Spec Tryz.prog 9 [tX t] (iv (depthT t : Nat)) := by
  refine T.ind fun k w l ih hw hp => ?_
  have hks := (wfT_iff.1 hw).ks
  rw [partsT_mk] at hp
  have hl := partsL_pos l
  refine spec_of t_centoref07_Depth (by simp) fun w0 I0 => ?_
  unfold c_centoref07_Depth
  by_cases h0 : k = 0
  · simp [h0,depthT_mk]
    exact frz_is rfl (by simp [depthT_mk])
  · by_cases h10 : k = 10
    · simp [h10]
      exact frz_is rfl (by simp [depthT_mk])
    · simp [h0,h10]
      refine LoopC.le (le_list [(1,.pob [0] 1 0),(3,iv (1 : Nat)),(4,iv (0 : Nat))] (by simp)) ?_
      refine depth_l1 (t := .mk k w l) (R := depthL 1 l) (by show l.length≤1000; omega) (fun c hc => by have := partsL_mem (show c ∈ l from hc); omega) (fun c hc => ih c hc (hks c hc) (by have := partsL_mem (show c ∈ l from hc); omega)) (by simp) (fun st => ?_) l.length 0 1 (by simp) rfl
      simp
      exact frz_is rfl (by simp [depthT_mk,h0,h10])
theorem size26 {t : T} (h : rightT 64 t = true) (hp : partsT t≤1000) : sizeT (norm t) < 9223372036854775808 := by
  have := size_parts t 64 h
  omega
noncomputable def savZ (D : E) (b : T) : Int := if cnOk 131072 b = true then IntKind.i64.wrap ((cnW 131072 b).length - i64w (1 + nodeE D)) else 0
theorem saves_spec {D : E} (hD : wfE D) {b : T} (hb : wfT b) (hr : rightT 64 b = true) (hp : partsT b≤1000) : G.Spec Tryz.prog 14 [eX D,tX b] (iv (savZ D b)) := by
  have C := cnEnc_spec hb 131072 (fun _ _ => size26 hr hp)
  have W := words39_spec hD
  unfold savZ
  refine spec_of t_cost_Saves (by simp) fun w0 I0 => ?_
  unfold c_cost_Saves
  simp
  refine sc_call C (by simp) ?_
  cases hc : cnOk 131072 b with
  | true =>
    simp
    refine sc_call W (by simp) ?_
    simp
    exact frz_bare rfl
  | false =>
    simp
    exact frz_bare rfl
theorem CostSaves_spec {a b : T} (ha : wfT a) (hb : wfT b) {most : Int} (hm : i64R most) : G.Spec Tryz.prog 3 [tX a,tX b,iv most] (bv true) := by
  refine spec_of t_centolaw39_CostSaves (by simp) fun w0 I0 => ?_
  unfold c_centolaw39_CostSaves
  simp
  refine sc_call (good26_spec ha) (by simp) ?_
  cases h1 : good26 a with
  | false =>
    simp
    refine sc_call_off rfl ?_
    simp
    refine sc_call_off rfl ?_
    simp
    refine sc_call_off rfl ?_
    simp
    refine sc_call awake39_spec (by simp) ?_
    simp
    exact frz_bare rfl
  | true =>
    obtain ⟨pa,ra,ka⟩ := good26_parts h1
    simp
    refine sc_call_gf rfl (fun _ => good26_spec hb) (fun _ => by simp) (by simp) ?_
    cases h2 : good26 b with
    | false =>
      simp
      refine sc_call_off rfl ?_
      simp
      refine sc_call_off rfl ?_
      simp
      refine sc_call awake39_spec (by simp) ?_
      simp
      exact frz_bare rfl
    | true =>
      obtain ⟨pb,rb,kb⟩ := good26_parts h2
      simp
      refine sc_call_gf rfl (fun _ => depth_spec a ha (by omega)) (fun _ => by simp) (by simp) ?_
      by_cases d1 : (20 : Int) < (depthT a : Int)
      · simp [d1]
        refine sc_call_off rfl ?_
        simp
        refine sc_call awake39_spec (by simp) ?_
        simp
        exact frz_bare rfl
      · simp [d1]
        refine sc_call_gf rfl (fun _ => depth_spec b hb (by omega)) (fun _ => by simp) (by simp) ?_
        by_cases d2 : (20 : Int) < (depthT b : Int)
        · simp [d2]
          refine sc_call awake39_spec (by simp) ?_
          simp
          exact frz_bare rfl
        · have T1 := pTrees_spec ha hb (by omega) (by omega) hm
          have WD := wf_df ha hb (by omega) (by omega) (most := most)
          have C := rEnc2_spec hb 131072 (fun _ _ => size26 rb (by omega))
          have W := words39_spec WD
          have S := saves_spec WD hb rb (by omega)
          generalize dfE most a b = D at *
          simp [d2]
          refine sc_call T1 (by simp) ?_
          simp
          refine sc_call C (by simp) ?_
          unfold savZ at S
          cases hc : cnOk 131072 b with
          | true =>
            rw [hc,if_pos rfl] at S
            simp
            refine sc_call W (by simp) ?_
            simp
            rw [k1_centolaw39_CostSaves.eq_1]
            simp
            refine sc_call S (by simp) ?_
            simp
            refine sc_call_gt rfl (fun _ => awake39_spec) (fun _ => rfl) rfl ?_
            simp
            exact frz_bare rfl
          | false =>
            rw [hc,if_neg (by simp)] at S
            simp
            refine sc_call W (by simp) ?_
            simp
            rw [k1_centolaw39_CostSaves.eq_1]
            simp
            refine sc_call S (by simp) ?_
            simp
            refine sc_call_gt rfl (fun _ => awake39_spec) (fun _ => rfl) rfl ?_
            simp
            exact frz_bare rfl
end Go.Proofs.YtbjmaoedheiigaaGreat
namespace Go.Proofs.YtbjmaoedheiigaaGreat
set_option linter.unusedVariables false
set_option linter.unusedSimpArgs false
open Go Go.G Go.Proofs Go.PL Go.RowKit
theorem lit_i64 {m : Int} (h : (Lit.int .i64 m).wf = true) : i64R m := by
  simp [Lit.wf,IntKind.min,IntKind.max,IntKind.bits,IntKind.signed] at h
  unfold i64R; omega
theorem lit_u64 {m : Int} (h : (Lit.int .u64 m).wf = true) : u64R m := by
  simp [Lit.wf,IntKind.min,IntKind.max,IntKind.bits,IntKind.signed] at h
  unfold u64R; omega
theorem und_int' : Tryz.prog.underlying 3 = some (.int .i64) := by kernel_rfl
theorem und_u64' : Tryz.prog.underlying 51 = some (.int .u64) := by kernel_rfl
theorem hasI {n : Nat} {b : List A} (h : Has Tryz.prog n 3 b) : ∃ m,i64R m∧b = [iv m] := by
  cases n with
  | zero => exact h.elim
  | succ n =>
    unfold Has at h
    rw [und_int'] at h
    obtain ⟨m,hm,rfl⟩ := h
    exact ⟨m,lit_i64 hm,rfl⟩
theorem hasU {n : Nat} {b : List A} (h : Has Tryz.prog n 51 b) : ∃ m,u64R m∧b = [uv m] := by
  cases n with
  | zero => exact h.elim
  | succ n =>
    unfold Has at h
    rw [und_u64'] at h
    obtain ⟨m,hm,rfl⟩ := h
    exact ⟨m,lit_u64 hm,rfl⟩
theorem rowOf {α : Type} {xs : List A} {g : α→A} {R : α→Prop} (h : ∀ x,x ∈ xs→∃ y,R y∧x.soft = g y) : ∃ l : List α,A.softL xs = l.map g∧l.length = xs.length∧∀ y,y ∈ l→R y := by
  induction xs with
  | nil => exact ⟨[],rfl,rfl,fun y h => nomatch h⟩
  | cons x xs ih =>
    obtain ⟨y,hy,e⟩ := h x (by simp)
    obtain ⟨l,e2,e3,hl⟩ := ih fun z hz => h z (by simp [hz])
    refine ⟨y :: l,by simp [A.softL,e,e2],by simp [e3],fun z hz => ?_⟩
    rcases List.mem_cons.1 hz with rfl | hz
    · exact hy
    · exact hl z hz
theorem hasSl {P : Program} {t e : TypeId} {m : Nat} (u : P.underlying t = some (.slice e)) (hb : P.bytesOf e = m) {n : Nat} {b : List A} (h : Has P n t b) {α : Type} {g : α→A} {R : α→Prop} (hx : ∀ k b,k < n→Has P k e b→∃ y,R y∧(mk P e b).soft = g y) :
    ∃ (f : Bool) (xs : List A) (l : List α),b = [.sl f xs]∧A.softL xs = l.map g∧l.length * m≤140737488355328∧∀ y,y ∈ l→R y := by
  cases n with
  | zero => exact h.elim
  | succ n =>
    unfold Has at h
    rw [u] at h
    obtain ⟨f,xs,rfl,_,hz,hf,hx'⟩ := h
    rw [hb] at hz
    obtain ⟨l,e1,e2,hl⟩ := rowOf (g := g) (R := R) (xs := xs) fun x hxx => by
      obtain ⟨b,hb',rfl⟩ := hx' x hxx
      exact hx n b (by omega) hb'
    exact ⟨f,xs,l,rfl,e1,by rw [e2]; exact Nat.le_trans hz (by decide),hl⟩
theorem mk_int (b : List A) : mk Tryz.prog 3 b = b.headD .any := by unfold mk; rw [und_int']
theorem mk_u64 (b : List A) : mk Tryz.prog 51 b = b.headD .any := by unfold mk; rw [und_u64']
theorem hasWs {n : Nat} {b : List A} (h : Has Tryz.prog n 22 b) : ∃ (f : Bool) (xs : List A) (l : List Int),b = [.sl f xs]∧A.softL xs = l.map uv∧l.length * 8≤140737488355328∧∀ y,y ∈ l→u64R y :=
  hasSl (e := 51) (by kernel_rfl) (by kernel_rfl) h fun k b _ hb => by
    obtain ⟨m,h1,rfl⟩ := hasU hb
    exact ⟨m,h1,by rw [mk_u64]; rfl⟩
theorem und_tree : Tryz.prog.underlying 25 = some (.struct (Tryz.prog.fieldsOf 25)) := by kernel_rfl
theorem fld_tree : (Tryz.prog.fieldsOf 25).toList.map Field.type = [3,22,23] := by kernel_rfl
theorem mk_tree (b : List A) : mk Tryz.prog 25 b = .agg b := by unfold mk; rw [und_tree]
theorem hasTree : ∀ (n : Nat) (b : List A),Has Tryz.prog n 25 b→∃ t,wfT t∧A.softL b = [iv t.kind,uws t.words,tKs t.kids] := by
  intro n
  induction n using Nat.strongRecOn with
  | ind n ih =>
    intro b h
    cases n with
    | zero => exact h.elim
    | succ n =>
      unfold Has at h
      rw [und_tree] at h
      simp only at h
      rw [hasL_types,fld_tree] at h
      obtain ⟨_,_,rfl,h1,_,_,rfl,h2,_,_,rfl,h3,rfl⟩ := h
      obtain ⟨k,hk,rfl⟩ := hasI h1
      obtain ⟨f,xs,w,rfl,e2,l2,r2⟩ := hasWs h2
      obtain ⟨f3,ys,l,rfl,e3,l3,r3⟩ := hasSl (m := 56) (e := 25) (g := tA) (R := wfT) (by kernel_rfl) (by kernel_rfl) h3 fun j b hj hb => by
        obtain ⟨t,ht,e⟩ := ih j (by omega) b hb
        exact ⟨t,ht,by rw [mk_tree]; simp only [A.soft,e]; rw [tA_eq]⟩
      refine ⟨.mk k w l,wfT_iff.2 ⟨hk,r2,l2,l3,r3⟩,?_⟩
      simp only [List.cons_append,List.nil_append,List.append_nil,A.softL,A.soft,e2,e3]
      rfl
end Go.Proofs.YtbjmaoedheiigaaGreat
namespace Go.Proofs.YtbjmaoedheiigaaGreat
set_option linter.unusedVariables false
set_option linter.unusedSimpArgs false
open Go Go.G Go.Proofs Go.PL Go.RowKit
set_option maxRecDepth 100000 in
theorem said_costSaves (xs : List A) (h : ArgsHas Tryz.prog Tryz.f3.params.toList xs) : G.Spec Tryz.prog 3 xs (.v (.bool true)) := by
  have h : ArgsHas Tryz.prog [25,25,3] xs := h
  match xs,h with
  | [a,a2,a3],⟨⟨n,b,h1,h2⟩,⟨n2,b2,h12,h22⟩,⟨n3,b3,h13,h23⟩,_⟩ =>
    obtain ⟨t,ht,et⟩ := hasTree _ _ h1
    obtain ⟨t2,ht2,et2⟩ := hasTree _ _ h12
    obtain ⟨m,hm,rfl⟩ := hasI h13
    rw [h2,mk_tree,h22,mk_tree,h23,mk_int]
    exact (CostSaves_spec ht ht2 hm).soft (by simp only [A.softL,A.soft,et,et2]; rfl)
end Go.Proofs.YtbjmaoedheiigaaGreat
namespace Go.G
set_option linter.unusedVariables false
set_option linter.unusedSimpArgs false
open Go.RowKit Go.ChangeShapes Go.WideShapes
section
variable {H : Type} {enc : TypeId × Value→H} {P : Program}
def rowsRead (P : Program) (ts : List TypeId) : Bool := ts.all fun t => P.readableRec t && decide (t < P.types.size)
theorem trodAll_below (hl : laidOutB P = true) {W W' : World} (hb : Below W.heap.size W W') (sp : Nat→Bool) : ∀ {ts : List TypeId} {vs : List Value} {ds : List (DataW H)} {ps : List MemPlace},rowsRead P ts = true →
    DataW.TrodAll enc P W 0 (fun _ => true) true ts vs ds ps→(∀ x ∈ ps,x.block < W.heap.size)→(∀ x ∈ ps,sp x.block = true)→DataW.TrodAll enc P W' 0 sp true ts vs ds ps
  | [],_,_,_,_,h,_,_ => by
    obtain ⟨rfl,rfl,rfl⟩ := trodAll_nil h
    exact trodAll_mk0
  | t :: ts,_,_,_,hr,h,hlt,hsp => by
    obtain ⟨v,vs,d,ds,p,q,rfl,rfl,rfl,h1,h2⟩ := trodAll_cons h
    simp only [rowsRead,List.all_cons,Bool.and_eq_true,decide_eq_true_eq] at hr
    exact ⟨p,q,WideElems.Trod_stays hl hr.1.1 hr.1.2 h1 (fun x hx => hb.same (hlt x (by simp [hx]))) (fun x hx => hsp x (by simp [hx])),
      trodAll_below hl hb sp (by simpa [rowsRead] using hr.2) h2 (fun x hx => hlt x (by simp [hx])) (fun x hx => hsp x (by simp [hx])),rfl⟩
theorem trodAll_length {w : World} {base : Nat} {spare : Nat→Bool} {held : Bool} : ∀ {ts : List TypeId} {vs : List Value} {ds : List (DataW H)} {ps : List MemPlace},DataW.TrodAll enc P w base spare held ts vs ds ps→ds.length = ts.length∧vs.length = ts.length
  | [],_,_,_,h => by
    obtain ⟨rfl,rfl,rfl⟩ := trodAll_nil h
    exact ⟨rfl,rfl⟩
  | t :: ts,_,_,_,h => by
    obtain ⟨v,vs,d,ds,p,q,rfl,rfl,rfl,h1,h2⟩ := trodAll_cons h
    have := trodAll_length h2
    simp [this]
theorem post_law {f : Func} {s : ChangeSpec} {apart fresh handsOn again : Bool} {W W' : World} {args : Array Value} {ds gs : List (DataW H)} {before : List MemPlace} {t : TypeId}
    (hl : laidOutB P = true) (hp : rowsRead P f.params.toList = true) (hsv : s.vars = []) (hW : DataW.Whole enc P f.params.toList s.vars apart W args.toList ds gs before) (hB : Below W.heap.size W W')
    (hrt : f.resultTypes = #[t]) (ht : P.underlying t = some .bool) (hfn : ∀ ds' : List (DataW H),ds'.length = f.params.size→s.fn H ds' = { results := [.lit (.bool true)],args := ds' }) :
    s.post enc P f apart fresh handsOn again W args (.bool true) W' := by
  have hlt := hW.lt
  have hW' := hW
  obtain ⟨p,q,hA,hV,rfl,hz,hn⟩ := hW'
  rw [hsv] at hV
  obtain ⟨rfl,rfl⟩ := trodVars_none hV
  have hfn := hfn ds (by have := (trodAll_length hA).1; simpa using this)
  simp only [List.append_nil] at hlt hz hn
  have hA' := fun sp => trodAll_below hl hB sp hp hA hlt
  have hr : ∀ (b : Nat) (sp : Nat→Bool) (hd : Bool),DataW.TrodAll enc P W' b sp hd f.resultTypes.toList ((Value.bool true).resultList f.resultTypes.size) [.lit (.bool true)] [] := fun b sp hd => by
    rw [hrt]
    exact trodAll_cons_mk (shut_bool ht _) trodAll_mk0
  refine ⟨ds,[],p ++ [],[],p,[],hW,?_,?_,?_,Below.frame hB _,fun _ => ?_⟩
  · simp only [List.append_nil,hfn]; exact hr _ _ _
  · simp only [List.append_nil,hfn]; exact hA' _ (fun x hx => by simpa using hlt x hx)
  · simp only [List.append_nil,hfn,hsv]; exact rfl
  · refine ⟨ok_one hrt rfl (okWide_bool_mk ht _),_,[],([] ++ p) ++ [],⟨[] ++ p,[],trodAll_append (hA' (fun _ => true) (fun _ _ => rfl)) (hr _ _ _),by rw [hsv]; rfl,rfl,?_,?_⟩,?_⟩
    · intro b off hx
      have hx : MemPlace.cell b off ∈ p := by simpa using hx
      rw [Below.frozen hB (hlt _ hx)]
      exact hz b off hx
    · intro ha
      have := hn ha
      simpa using this
    · intro x hx _
      simpa using hx
theorem law_calls {f : Func} {fid : FuncId} {s : ChangeSpec} {apart fresh handsOn again : Bool} {W : World} {base : Nat} {args : Array Value} {ds gs : List (DataW H)} {before : List MemPlace} {t : TypeId} (S : List TypeId)
    (hl : laidOutB P = true) (hp : rowsRead P f.params.toList = true) (hS : plainT P S = true) (hts : f.params.toList.all S.contains = true) (hsv : s.vars = []) (hrt : f.resultTypes = #[t]) (ht : P.underlying t = some .bool)
    (hfn : ∀ ds' : List (DataW H),ds'.length = f.params.size→s.fn H ds' = { results := [.lit (.bool true)],args := ds' })
    (hspec : ∀ as',ArgsHas P f.params.toList as'→Spec P fid as' (.v (.bool true))) (htb : Tabs P W (Old W))
    (hval : ∀ (j : Nat) t v,f.params[j]? = some t→args[j]? = some v→Value.okWide P W .any base t v) (hW : DataW.Whole enc P f.params.toList s.vars apart W args.toList ds gs before)
    (hwt : (DataW.weightsEach P (f.params.toList ++ s.plain.varTypes P) (ds ++ gs)).all (·≤reachBytes) = true) :
    Calls P fid args W fun e W' => ∃ v,e = .returned v∧s.post enc P f apart fresh handsOn again W args v W' := by
  have hW' := hW
  obtain ⟨p,q,hA,hV,rfl,hz,hn⟩ := hW
  have hV' := hV
  rw [hsv] at hV'
  obtain ⟨rfl,_⟩ := trodVars_none hV'
  have hwt' : ∀ m,m ∈ DataW.weightsEach P f.params.toList ds→m≤reachBytes := by
    have e : s.plain.varTypes P = [] := by simp [ChangeSpec.plain,DataSpec.varTypes,hsv]
    rw [e,List.append_nil,List.append_nil,List.all_eq_true] at hwt
    exact fun m hm => by simpa using hwt m hm
  obtain ⟨as',h1,h2,h3⟩ := args_of_trod hS (fun t ht => by rw [List.all_eq_true] at hts; simpa using hts t ht) hwt' hA (fun j u v hj hv => hval j u v (by simpa using hj) (by simpa using hv))
  refine ((hspec as' h2).2 W (Old W) args (fun _ h => h) htb (by simpa using h1.symm) (fun k y hk => ?_)).mono fun e W' ⟨v,he,hB,hr⟩ => ?_
  · have := h3 k y hk
    simpa [List.getD,Array.getD_eq_getD_getElem?] using this
  · cases hr
    exact ⟨_,he,post_law hl hp hsv hW' hB hrt ht hfn⟩
end
end Go.G
