/-
  A law that answers true and leaves its arguments as they were: from the contract to the row's 'post'.
-/
import Derived.Test.YtebihdhapepejaaDoorGStep
import Derived.Test.YtebihdhapepejaaDoorGOpen
import Derived.WalkKit
import Derived.ProofKit
import Derived.OpenShut
import Derived.Carry
namespace Go.G
set_option linter.unusedVariables false
set_option linter.unusedSimpArgs false
open Go.RowKit Go.ChangeShapes Go.WideShapes

section
variable {H : Type} {enc : TypeId × Value → H} {P : Program}

/-- Each parameter's type can be read and is a row of the table. -/
def rowsRead (P : Program) (ts : List TypeId) : Bool := ts.all fun t => P.readableRec t && decide (t < P.types.size)

theorem trodAll_below (hl : laidOutB P = true) {W W' : World} (hb : Below W.heap.size W W') (sp : Nat → Bool) : ∀ {ts : List TypeId} {vs : List Value} {ds : List (DataW H)} {ps : List MemPlace}, rowsRead P ts = true →
    DataW.TrodAll enc P W 0 (fun _ => true) true ts vs ds ps → (∀ x ∈ ps, x.block < W.heap.size) → (∀ x ∈ ps, sp x.block = true) → DataW.TrodAll enc P W' 0 sp true ts vs ds ps
  | [], _, _, _, _, h, _, _ => by
    obtain ⟨rfl, rfl, rfl⟩ := trodAll_nil h
    exact trodAll_mk0
  | t :: ts, _, _, _, hr, h, hlt, hsp => by
    obtain ⟨v, vs, d, ds, p, q, rfl, rfl, rfl, h1, h2⟩ := trodAll_cons h
    simp only [rowsRead, List.all_cons, Bool.and_eq_true, decide_eq_true_eq] at hr
    exact ⟨p, q, WideElems.Trod_stays hl hr.1.1 hr.1.2 h1 (fun x hx => hb.same (hlt x (by simp [hx]))) (fun x hx => hsp x (by simp [hx])),
      trodAll_below hl hb sp (by simpa [rowsRead] using hr.2) h2 (fun x hx => hlt x (by simp [hx])) (fun x hx => hsp x (by simp [hx])), rfl⟩

theorem trodAll_length {w : World} {base : Nat} {spare : Nat → Bool} {held : Bool} : ∀ {ts : List TypeId} {vs : List Value} {ds : List (DataW H)} {ps : List MemPlace}, DataW.TrodAll enc P w base spare held ts vs ds ps → ds.length = ts.length ∧ vs.length = ts.length
  | [], _, _, _, h => by
    obtain ⟨rfl, rfl, rfl⟩ := trodAll_nil h
    exact ⟨rfl, rfl⟩
  | t :: ts, _, _, _, h => by
    obtain ⟨v, vs, d, ds, p, q, rfl, rfl, rfl, h1, h2⟩ := trodAll_cons h
    have := trodAll_length h2
    simp [this]

theorem post_law {f : Func} {s : ChangeSpec} {apart fresh handsOn again : Bool} {W W' : World} {args : Array Value} {ds gs : List (DataW H)} {before : List MemPlace} {t : TypeId}
    (hl : laidOutB P = true) (hp : rowsRead P f.params.toList = true) (hsv : s.vars = []) (hW : DataW.Whole enc P f.params.toList s.vars apart W args.toList ds gs before) (hB : Below W.heap.size W W')
    (hrt : f.resultTypes = #[t]) (ht : P.underlying t = some .bool) (hfn : ∀ ds' : List (DataW H), ds'.length = f.params.size → s.fn H ds' = { results := [.lit (.bool true)], args := ds' }) :
    s.post enc P f apart fresh handsOn again W args (.bool true) W' := by
  have hlt := hW.lt
  have hW' := hW
  obtain ⟨p, q, hA, hV, rfl, hz, hn⟩ := hW'
  rw [hsv] at hV
  obtain ⟨rfl, rfl⟩ := trodVars_none hV
  have hfn := hfn ds (by have := (trodAll_length hA).1; simpa using this)
  simp only [List.append_nil] at hlt hz hn
  have hA' := fun sp => trodAll_below hl hB sp hp hA hlt
  have hr : ∀ (b : Nat) (sp : Nat → Bool) (hd : Bool), DataW.TrodAll enc P W' b sp hd f.resultTypes.toList ((Value.bool true).resultList f.resultTypes.size) [.lit (.bool true)] [] := fun b sp hd => by
    rw [hrt]
    exact trodAll_cons_mk (shut_bool ht _) trodAll_mk0
  refine ⟨ds, [], p ++ [], [], p, [], hW, ?_, ?_, ?_, Below.frame hB _, fun _ => ?_⟩
  · simp only [List.append_nil, hfn]; exact hr _ _ _
  · simp only [List.append_nil, hfn]; exact hA' _ (fun x hx => by simpa using hlt x hx)
  · simp only [List.append_nil, hfn, hsv]; exact rfl
  · refine ⟨ok_one hrt rfl (okWide_bool_mk ht _), _, [], ([] ++ p) ++ [], ⟨[] ++ p, [], trodAll_append (hA' (fun _ => true) (fun _ _ => rfl)) (hr _ _ _), by rw [hsv]; rfl, rfl, ?_, ?_⟩, ?_⟩
    · intro b off hx
      have hx : MemPlace.cell b off ∈ p := by simpa using hx
      rw [Below.frozen hB (hlt _ hx)]
      exact hz b off hx
    · intro ha
      have := hn ha
      simpa using this
    · intro x hx _
      simpa using hx

/-- From the contract to the row: whatever the arguments hold, the function answers true. -/
theorem law_calls {f : Func} {fid : FuncId} {s : ChangeSpec} {apart fresh handsOn again : Bool} {W : World} {base : Nat} {args : Array Value} {ds gs : List (DataW H)} {before : List MemPlace} {t : TypeId} (S : List TypeId)
    (hl : laidOutB P = true) (hp : rowsRead P f.params.toList = true) (hS : plainT P S = true) (hts : f.params.toList.all S.contains = true) (hsv : s.vars = []) (hrt : f.resultTypes = #[t]) (ht : P.underlying t = some .bool)
    (hfn : ∀ ds' : List (DataW H), ds'.length = f.params.size → s.fn H ds' = { results := [.lit (.bool true)], args := ds' })
    (hspec : ∀ as, ArgsHas P f.params.toList as → Spec P fid as (.v (.bool true))) (htb : Tabs P W (Old W))
    (hval : ∀ (j : Nat) t v, f.params[j]? = some t → args[j]? = some v → Value.okWide P W .any base t v) (hW : DataW.Whole enc P f.params.toList s.vars apart W args.toList ds gs before)
    (hwt : (DataW.weightsEach P (f.params.toList ++ s.plain.varTypes P) (ds ++ gs)).all (· ≤ reachBytes) = true) :
    Calls P fid args W fun e W' => ∃ v, e = .returned v ∧ s.post enc P f apart fresh handsOn again W args v W' := by
  have hW' := hW
  obtain ⟨p, q, hA, hV, rfl, hz, hn⟩ := hW
  have hV' := hV
  rw [hsv] at hV'
  obtain ⟨rfl, _⟩ := trodVars_none hV'
  have hwt' : ∀ m, m ∈ DataW.weightsEach P f.params.toList ds → m ≤ reachBytes := by
    have e : s.plain.varTypes P = [] := by simp [ChangeSpec.plain, DataSpec.varTypes, hsv]
    rw [e, List.append_nil, List.append_nil, List.all_eq_true] at hwt
    exact fun m hm => by simpa using hwt m hm
  obtain ⟨as, h1, h2, h3⟩ := args_of_trod hS (fun t ht => by rw [List.all_eq_true] at hts; simpa using hts t ht) hwt' hA (fun j u v hj hv => hval j u v (by simpa using hj) (by simpa using hv))
  refine ((hspec as h2).2 W (Old W) args (fun _ h => h) htb (by simpa using h1.symm) (fun k y hk => ?_)).mono fun e W' ⟨v, he, hB, hr⟩ => ?_
  · have := h3 k y hk
    simpa [List.getD, Array.getD_eq_getD_getElem?] using this
  · cases hr
    exact ⟨_, he, post_law hl hp hsv hW' hB hrt ht hfn⟩
end
end Go.G
