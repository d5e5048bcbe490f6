/-
  Texts, merged, without what is not reached.
-/
import Derived.Test.YtebihdhapepejaaDoorKDb
/-
  The reader of edits' texts: what stands next; a byte that must stand there.
-/
namespace Go.Proofs.YtebihdhapepejaaDoor
set_option linter.unusedVariables false
set_option linter.unusedSimpArgs false
open Go Go.G Go.Proofs Go.PL
abbrev wrT : TypeId := 43
set_option maxHeartbeats 1000000 in
theorem fail_run (w : World) : Calls Tryd.prog 16 #[] w fun e w' => e = .panicked [dieE wrT] ∧ w' = w := by
  go_enter Tryd.func16, Tryd.ntmps16
  go_wp2
  rw [show (Sem.run Tryd.prog (Instr.panic (Value.iface 43 (Value.agg #[]))) w) = .halt (.panic (Value.iface 43 (Value.agg #[]))) w from rfl]
  exact ⟨rfl, rfl, rfl⟩
theorem fail_spec (F : Fam) : DiesF wrT Tryd.prog 16 (fun _ => []) F :=
  ⟨famL_nil, by kernel_rfl, fun w I M0 n μ vs _ _ hl _ => by
    have : vs = #[] := by
      apply Array.eq_empty_of_size_eq_zero
      simpa using hl
    subst this
    exact (fail_run w).mono fun e w' ⟨h1, h2⟩ => ⟨h1, by subst h2; exact ⟨rfl, rfl, rfl, Nat.le_refl _, fun _ _ _ => rfl⟩⟩⟩
theorem nextE_spec (s : List UInt8) (k : Nat) (hk : k ≤ s.length) : SpecF Tryd.prog 33 (fun r => [pp r]) (psF s k) (fun _ => u8v (nxB (s.drop k))) (psF s k) := by
  refine specF_of t_etext_next (by simp) (famL_cons famA_pob famL_nil) famA_v fun w0 I0 M0 m0 => ?_
  unfold c_etext_next
  by_cases h : k = s.length
  · subst h
    rw [nxB_end]
    simp
    exact reth_fam rfl rfl (fun p => by simp)
  · have hlt : k < s.length := by omega
    rw [nxB_at hlt]
    simp [show ¬ (s.length : Int) ≤ k by omega, show ¬ s.length ≤ k by omega, hlt]
    exact reth_fam rfl rfl (fun p => by simp)
theorem eatE_spec (s : List UInt8) (k : Nat) (c : UInt8) (hk : k ≤ s.length) (hs : s.length ≤ 1000000000) (hc : c ≠ 0) : SpecF Tryd.prog 17 (fun r => [pp r, u8v c]) (psF s k) (fun _ => bv (eatB (s.drop k) c)) (psF s (k + one (eatB (s.drop k) c))) := by
  refine specF_of t_etext_eat (by simp) (famL_cons famA_pob (famL_cons famA_v famL_nil)) famA_v fun w0 I0 M0 m0 => ?_
  unfold c_etext_eat
  have hn := nextE_spec s k hk
  rcases eat_cases s k c hk with ⟨h1, h2, h3⟩ | ⟨h1, h2⟩
  · rw [h1]
    rw [h3] at hn
    have e1 : IntKind.i64.wrap ((k : Int) + 1) = ((k + 1 : Nat) : Int) := by rw [i64_same (by omega) (by omega)]; omega
    simp
    refine sc_fam 0 hn (fun p => by simp) (by simp) (by simp) ?_
    simp [e1]
    exact reth_fam rfl rfl (fun p => by by_cases hp : p = [] <;> simp [hp, updF_app])
  · rw [h1]
    have h3 : nxB (s.drop k) ≠ c := by
      rcases h2 with rfl | h2
      · rw [nxB_end]; exact fun e => hc e.symm
      · exact h2
    have h4 : ¬ ((nxB (s.drop k)).toNat : Int) = c.toNat := fun e => h3 (u8_inj.1 e)
    generalize nxB (s.drop k) = x at hn h4
    simp
    refine sc_fam 0 hn (fun p => by simp) (by simp) (by simp) ?_
    simp [h4]
    exact reth_fam rfl rfl (fun p => by simp)
theorem famA_nil : FamA (fun _ => A.tup []) := famA_tup famL_nil
/-- what must stands -/
def mustO (s : List UInt8) (k : Nat) (c : UInt8) : Option ((Nat → A) × Fam) := if eatB (s.drop k) c = true then some (fun _ => .tup [], psF s (k + 1)) else none
theorem mustO_fam {s : List UInt8} {k : Nat} {c : UInt8} : ∀ q, mustO s k c = some q → FamA q.1 := fun q h => by
  unfold mustO at h
  split at h
  · cases h; exact famA_nil
  · cases h
theorem must_spec (s : List UInt8) (k : Nat) (c : UInt8) (hk : k ≤ s.length) (hs : s.length ≤ 1000000000) (hc : c ≠ 0) : OutF wrT Tryd.prog 19 (fun r => [pp r, u8v c]) (psF s k) (mustO s k c) := by
  refine outF_of t_etext_must (by simp) (famL_cons famA_pob (famL_cons famA_v famL_nil)) mustO_fam fun w0 I0 M0 m0 => ?_
  unfold c_etext_must
  have hn := eatE_spec s k c hk hs hc
  unfold mustO
  cases h : eatB (s.drop k) c with
  | true =>
    rw [h] at hn
    simp
    refine sc_fam 0 hn (fun p => by simp) (by simp) (by simp) ?_
    simp [RetO]
    exact reth_famN rfl rfl (fun p => by simp)
  | false =>
    rw [h] at hn
    simp
    refine sc_fam 0 hn (fun p => by simp) (by simp) (by simp) ?_
    simp
    refine sc_famX (.tup []) 0 (fail_spec (psF s k)) ⟨rfl, by simp⟩ (fun p => by simp) (by simp) (by simp) ?_
    simp [RetO]
    exact dead_of 0 (by simp [dead_F])
/-- a comma, if something stands ahead -/
def commaO (s : List UInt8) (k n : Nat) : Option ((Nat → A) × Fam) := if n = 0 then some (fun _ => .tup [], psF s k) else mustO s k 44
theorem commaO_fam {s : List UInt8} {k n : Nat} : ∀ q, commaO s k n = some q → FamA q.1 := fun q h => by
  unfold commaO at h
  split at h
  · cases h; exact famA_nil
  · exact mustO_fam q h
theorem comma_spec (s : List UInt8) (k n : Nat) (hk : k ≤ s.length) (hs : s.length ≤ 1000000000) : OutF wrT Tryd.prog 35 (fun r => [pp r, iv n]) (psF s k) (commaO s k n) := by
  refine outF_of t_etext_comma (by simp) (famL_cons famA_pob (famL_cons famA_v famL_nil)) commaO_fam fun w0 I0 M0 m0 => ?_
  unfold c_etext_comma
  have hn := must_spec s k 44 hk hs (by decide)
  unfold commaO
  by_cases h0 : n = 0
  · subst h0
    simp [RetO]
    exact reth_famN rfl rfl (fun p => by simp)
  · rw [if_neg h0]
    simp [show (0 : Int) < n by omega, show 0 < n by omega]
    cases h : mustO s k 44 with
    | none =>
      rw [h] at hn
      refine sc_famX (.tup []) 0 hn ⟨rfl, by simp⟩ (fun p => by simp) (by simp) (by simp) ?_
      simp [RetO]
      exact dead_of 0 (by simp [dead_F])
    | some q =>
      rw [h] at hn
      have hq : q = (fun _ => .tup [], psF s (k + 1)) := by
        unfold mustO at h
        split at h
        · exact (Option.some.inj h).symm
        · cases h
      subst hq
      refine sc_fam 0 hn (fun p => by simp) (by simp) (by simp) ?_
      simp [RetO]
      exact reth_famN rfl rfl (fun p => by simp)
end Go.Proofs.YtebihdhapepejaaDoor

/-
  The shelf's contracts at this dump, in plain words: written by the kit's lay-shelf.mjs and lay-plain.mjs for the seat of EtextDeep (numbers are the seat's own).
-/
namespace Go.Proofs
open Go.Shelf
def Tryd.lays156_ren : Go.Shelf.Ren := ⟨fun | 156 => 13 | 165 => 30 | 166 => 31 | 169 => 29 | 240 => 46 | 241 => 47 | 276 => 58 | 277 => 59 | n => n, fun | 31 => 51 | 9 => 9 | 3 => 3 | 4 => 4 | 0 => 0 | 20 => 20 | 72 => 69 | 76 => 75 | 70 => 66 | 37 => 67 | 75 => 74 | 127 => 90 | 164 => 104 | 5 => 5 | 80 => 71 | n => n, fun | n => n⟩
theorem Tryd.lays156 : Go.Proofs.Lays.n156 Tryd.prog Tryd.lays156_ren := {
  mixed := by kernel_rfl
  f156 := Tryd.func13.trans (congrArg some (by kernel_rfl))
  f165 := Tryd.func30.trans (congrArg some (by kernel_rfl))
  f166 := Tryd.func31.trans (congrArg some (by kernel_rfl))
  f169 := Tryd.func29.trans (congrArg some (by kernel_rfl))
  f240 := Tryd.func46.trans (congrArg some (by kernel_rfl))
  f241 := Tryd.func47.trans (congrArg some (by kernel_rfl))
  f276 := Tryd.func58.trans (congrArg some (by kernel_rfl))
  f277 := Tryd.func59.trans (congrArg some (by kernel_rfl))
  t0 := Tryd.underlying0
  a0 := Tryd.isAgg0
  z0 := Tryd.sizeOf0
  v0 := Tryd.zeroValue0
  t3 := Tryd.underlying3
  a3 := Tryd.isAgg3
  z3 := Tryd.sizeOf3
  v3 := Tryd.zeroValue3
  t4 := Tryd.underlying4
  a4 := Tryd.isAgg4
  z4 := Tryd.sizeOf4
  v4 := Tryd.zeroValue4
  t9 := Tryd.underlying9
  a9 := Tryd.isAgg9
  z9 := Tryd.sizeOf9
  v9 := Tryd.zeroValue9
  t20 := Tryd.underlying20
  a20 := Tryd.isAgg20
  z20 := Tryd.sizeOf20
  v20 := Tryd.zeroValue20
  t31 := Tryd.underlying51
  a31 := Tryd.isAgg51
  z31 := Tryd.sizeOf51
  v31 := Tryd.zeroValue51
  t37 := Tryd.underlying67
  a37 := Tryd.isAgg67
  z37 := Tryd.sizeOf67
  v37 := Tryd.zeroValue67
  t70 := Tryd.underlying66
  a70 := Tryd.isAgg66
  z70 := Tryd.sizeOf66
  v70 := Tryd.zeroValue66
  t72 := Tryd.underlying69
  a72 := Tryd.isAgg69
  z72 := Tryd.sizeOf69
  v72 := Tryd.zeroValue69
  t75 := Tryd.underlying74
  a75 := Tryd.isAgg74
  z75 := Tryd.sizeOf74
  v75 := Tryd.zeroValue74
  t76 := Tryd.underlying75
  a76 := Tryd.isAgg75
  z76 := Tryd.sizeOf75
  v76 := Tryd.zeroValue75
  t127 := Tryd.underlying90
  a127 := Tryd.isAgg90
  z127 := Tryd.sizeOf90
  v127 := Tryd.zeroValue90
  t164 := Tryd.underlying104
  a164 := Tryd.isAgg104
  z164 := Tryd.sizeOf104
  v164 := Tryd.zeroValue104 }
theorem Tryd.Builder_Extra_156 : Builder.Extra Tryd.prog Tryd.lays156_ren := {
  sizeBuilder := by kernel_rfl
  liesBuilder := by kernel_rfl
  t5 := Tryd.underlying5
  a5 := Tryd.isAgg5
  z5 := Tryd.sizeOf5
  v5 := Tryd.zeroValue5
  infoByte := by kernel_rfl
  cellsByte := by kernel_rfl
  sizeByte := by kernel_rfl
  neB5 := by decide }
def Tryd.laysC245_ren : Go.Shelf.Ren := ⟨fun | 245 => 70 | 279 => 84 | 280 => 85 | 281 => 86 | 282 => 87 | 316 => 92 | 171 => 94 | 205 => 93 | 243 => 96 | 246 => 97 | 283 => 60 | 284 => 61 | 285 => 62 | 286 => 63 | 129 => 75 | 317 => 74 | 318 => 76 | 319 => 77 | 320 => 78 | 337 => 89 | 338 => 90 | n => n, fun | 9 => 9 | 3 => 3 | 75 => 74 | 167 => 128 | 4 => 4 | 168 => 131 | 210 => 139 | 37 => 67 | 0 => 0 | 127 => 90 | 145 => 147 | 143 => 145 | 2 => 2 | 171 => 108 | 53 => 52 | 5 => 5 | 173 => 111 | 212 => 119 | 51 => 120 | 20 => 20 | 213 => 121 | 46 => 122 | 232 => 143 | 233 => 144 | 80 => 71 | n => n, fun | 15 => 2 | 16 => 3 | 17 => 1 | 18 => 4 | 19 => 5 | n => n⟩
theorem Tryd.laysC245 : Go.Proofs.LaysC.n245 Tryd.prog Tryd.laysC245_ren := {
  mixed := by kernel_rfl
  f129 := Tryd.func75.trans (congrArg some (by kernel_rfl))
  f171 := Tryd.func94.trans (congrArg some (by kernel_rfl))
  f205 := Tryd.func93.trans (congrArg some (by kernel_rfl))
  f243 := Tryd.func96.trans (congrArg some (by kernel_rfl))
  f245 := Tryd.func70.trans (congrArg some (by kernel_rfl))
  f246 := Tryd.func97.trans (congrArg some (by kernel_rfl))
  f279 := Tryd.func84.trans (congrArg some (by kernel_rfl))
  f280 := Tryd.func85.trans (congrArg some (by kernel_rfl))
  f281 := Tryd.func86.trans (congrArg some (by kernel_rfl))
  f282 := Tryd.func87.trans (congrArg some (by kernel_rfl))
  f283 := Tryd.func60.trans (congrArg some (by kernel_rfl))
  f284 := Tryd.func61.trans (congrArg some (by kernel_rfl))
  f285 := Tryd.func62.trans (congrArg some (by kernel_rfl))
  f286 := Tryd.func63.trans (congrArg some (by kernel_rfl))
  f316 := Tryd.func92.trans (congrArg some (by kernel_rfl))
  f317 := Tryd.func74.trans (congrArg some (by kernel_rfl))
  f318 := Tryd.func76.trans (congrArg some (by kernel_rfl))
  f319 := Tryd.func77.trans (congrArg some (by kernel_rfl))
  f320 := Tryd.func78.trans (congrArg some (by kernel_rfl))
  f337 := Tryd.func89.trans (congrArg some (by kernel_rfl))
  f338 := Tryd.func90.trans (congrArg some (by kernel_rfl))
  t0 := Tryd.underlying0
  a0 := Tryd.isAgg0
  z0 := Tryd.sizeOf0
  v0 := Tryd.zeroValue0
  t2 := Tryd.underlying2
  a2 := Tryd.isAgg2
  z2 := Tryd.sizeOf2
  v2 := Tryd.zeroValue2
  t3 := Tryd.underlying3
  a3 := Tryd.isAgg3
  z3 := Tryd.sizeOf3
  v3 := Tryd.zeroValue3
  t4 := Tryd.underlying4
  a4 := Tryd.isAgg4
  z4 := Tryd.sizeOf4
  v4 := Tryd.zeroValue4
  t5 := Tryd.underlying5
  a5 := Tryd.isAgg5
  z5 := Tryd.sizeOf5
  v5 := Tryd.zeroValue5
  t9 := Tryd.underlying9
  a9 := Tryd.isAgg9
  z9 := Tryd.sizeOf9
  v9 := Tryd.zeroValue9
  t20 := Tryd.underlying20
  a20 := Tryd.isAgg20
  z20 := Tryd.sizeOf20
  v20 := Tryd.zeroValue20
  t37 := Tryd.underlying67
  a37 := Tryd.isAgg67
  z37 := Tryd.sizeOf67
  v37 := Tryd.zeroValue67
  t46 := Tryd.underlying122
  a46 := Tryd.isAgg122
  z46 := Tryd.sizeOf122
  v46 := Tryd.zeroValue122
  t51 := Tryd.underlying120
  a51 := Tryd.isAgg120
  z51 := Tryd.sizeOf120
  v51 := Tryd.zeroValue120
  t53 := Tryd.underlying52
  a53 := Tryd.isAgg52
  z53 := Tryd.sizeOf52
  v53 := Tryd.zeroValue52
  t75 := Tryd.underlying74
  a75 := Tryd.isAgg74
  z75 := Tryd.sizeOf74
  v75 := Tryd.zeroValue74
  t127 := Tryd.underlying90
  a127 := Tryd.isAgg90
  z127 := Tryd.sizeOf90
  v127 := Tryd.zeroValue90
  t143 := Tryd.underlying145
  a143 := Tryd.isAgg145
  z143 := Tryd.sizeOf145
  v143 := Tryd.zeroValue145
  t145 := Tryd.underlying147
  a145 := Tryd.isAgg147
  z145 := Tryd.sizeOf147
  v145 := Tryd.zeroValue147
  t167 := Tryd.underlying128
  a167 := Tryd.isAgg128
  z167 := Tryd.sizeOf128
  v167 := Tryd.zeroValue128
  t168 := Tryd.underlying131
  a168 := Tryd.isAgg131
  z168 := Tryd.sizeOf131
  v168 := Tryd.zeroValue131
  t171 := Tryd.underlying108
  a171 := Tryd.isAgg108
  z171 := Tryd.sizeOf108
  v171 := Tryd.zeroValue108
  t173 := Tryd.underlying111
  a173 := Tryd.isAgg111
  z173 := Tryd.sizeOf111
  v173 := Tryd.zeroValue111
  t210 := Tryd.underlying139
  a210 := Tryd.isAgg139
  z210 := Tryd.sizeOf139
  v210 := Tryd.zeroValue139
  t212 := Tryd.underlying119
  a212 := Tryd.isAgg119
  z212 := Tryd.sizeOf119
  v212 := Tryd.zeroValue119
  t213 := Tryd.underlying121
  a213 := Tryd.isAgg121
  z213 := Tryd.sizeOf121
  t232 := Tryd.underlying143
  a232 := Tryd.isAgg143
  z232 := Tryd.sizeOf143
  v232 := Tryd.zeroValue143
  t233 := Tryd.underlying144
  a233 := Tryd.isAgg144
  z233 := Tryd.sizeOf144
  v233 := Tryd.zeroValue144
  g15 := by kernel_rfl
  g16 := by kernel_rfl
  g17 := by kernel_rfl
  g18 := by kernel_rfl
  g19 := by kernel_rfl
  t80 := Tryd.underlying71
  a80 := Tryd.isAgg71
  z80 := Tryd.sizeOf71
  v80 := Tryd.zeroValue71
  i0 := by kernel_rfl
  i2 := by kernel_rfl
  i3 := by kernel_rfl
  i4 := by kernel_rfl
  i5 := by kernel_rfl
  i9 := by kernel_rfl
  i20 := by kernel_rfl
  i37 := by kernel_rfl
  i46 := by kernel_rfl
  i51 := by kernel_rfl
  i53 := by kernel_rfl
  i75 := by kernel_rfl
  i80 := by kernel_rfl
  i127 := by kernel_rfl
  i143 := by kernel_rfl
  i145 := by kernel_rfl
  i167 := by kernel_rfl
  i168 := by kernel_rfl
  i171 := by kernel_rfl
  i173 := by kernel_rfl
  i210 := by kernel_rfl
  i212 := by kernel_rfl
  i232 := by kernel_rfl
  i233 := by kernel_rfl
  m15 := by kernel_rfl
  m16 := by kernel_rfl
  m17 := by kernel_rfl
  m18 := by kernel_rfl
  m19 := by kernel_rfl
  c0 := by kernel_rfl
  c2 := by kernel_rfl
  c3 := by kernel_rfl
  c4 := by kernel_rfl
  c5 := by kernel_rfl
  c9 := by kernel_rfl
  c20 := by kernel_rfl
  c37 := by kernel_rfl
  c46 := by kernel_rfl
  c51 := by kernel_rfl
  c53 := by kernel_rfl
  c75 := by kernel_rfl
  c80 := by kernel_rfl
  c127 := by kernel_rfl
  c143 := by kernel_rfl
  c145 := by kernel_rfl
  c167 := by kernel_rfl
  c168 := by kernel_rfl
  c171 := by kernel_rfl
  c173 := by kernel_rfl
  c210 := by kernel_rfl
  c212 := by kernel_rfl
  c213 := by kernel_rfl
  c232 := by kernel_rfl
  c233 := by kernel_rfl }
end Go.Proofs

/-
  Functions of Go's library that edits' texts call: strings.Join, strconv.ParseUint of hexadecimal digits.
-/
namespace Go.Proofs.YtebihdhapepejaaDoor
set_option linter.unusedVariables false
set_option linter.unusedSimpArgs false
open Go Go.G Go.Proofs Go.RowKit Go.PL
theorem cells_S : ∀ (xs : List (List UInt8)), (xs.map S).flatMap A.cells = xs.map S
  | [] => rfl
  | a :: l => by rw [List.map_cons, List.flatMap_cons, cells_S l]; rfl
theorem join_spec (f : Bool) (xs : List (List UInt8)) (sep : List UInt8) (hN : xs.length ≤ 140737488355328) (hlen : (Lib.join xs sep).length ≤ 140737488355328) : G.Spec Tryd.prog 13 [.sl f (xs.map S), S sep] (S (Lib.join xs sep)) := by
  refine ⟨by kernel_rfl, fun w I vs hI ht hl hr => ?_⟩
  have h0 := hr 0 _ rfl
  have h1 := hr 1 _ rfl
  obtain ⟨v0, hv0⟩ : ∃ v, vs.getD 0 undef = v := ⟨_, rfl⟩
  obtain ⟨v1, hv1⟩ : ∃ v, vs.getD 1 undef = v := ⟨_, rfl⟩
  have ev : vs = #[v0, v1] := by
    apply Array.ext
    · simpa using hl
    · intro i h2 h3
      have hi : vs[i] = vs.getD i undef := by simp [h2]
      rw [hi]
      have : i = 0 ∨ i = 1 := by simp at h3; omega
      rcases this with rfl | rfl
      · simp [hv0]
      · simp [hv1]
  rw [hv0] at h0; rw [hv1] at h1
  subst ev
  cases h1
  have hj : ∀ (bs : List ByteArray), bs.map (·.data.toList) = xs → (Lib.join (bs.map (·.data.toList)) (⟨sep.toArray⟩ : ByteArray).data.toList) = Lib.join xs sep := fun bs h => by rw [h]
  generalize hxs : xs.map S = q at h0
  cases h0 with
  | slN μ f a cap hc =>
    have : xs = [] := by simpa using hxs
    subst this
    exact (Any.strings_Join_none Tryd.lays156 Tryd.Builder_Extra_156 a cap ⟨sep.toArray⟩ w).mono fun e w' ⟨h1, h2⟩ => ⟨_, h1, by rw [h2]; exact Below.refl _ _, by exact .v _ _⟩
  | sl μ f b off n cap sz q g hb hn hcap hf hsz h1 h2 h3 =>
    subst hxs
    have e := cells_S xs
    rw [e] at h2 h3
    have hbs : (xs.map fun l => (⟨l.toArray⟩ : ByteArray)).map (·.data.toList) = xs := by
      rw [List.map_map]
      conv => rhs; rw [← List.map_id xs]
      apply List.map_congr_left
      intro x _; simp
    have c := Any.strings_Join Tryd.lays156 Tryd.Builder_Extra_156 b off cap (xs.map fun l => (⟨l.toArray⟩ : ByteArray)) ⟨sep.toArray⟩ w (fun j x hx => by
        rw [List.getElem?_map] at hx
        obtain ⟨l, hl, rfl⟩ := Option.map_eq_some_iff.1 hx
        have hy : (xs.map S)[j]? = some (S l) := by simp [hl]
        rw [h2 j _ hy]
        have := h3 j _ hy
        generalize g j = q at this
        cases this; rfl) (hI b hb) (by simpa using hN) (by simpa using hcap) (by rw [hj _ hbs]; exact hlen)
    rw [hj _ hbs] at c
    have en : n = (xs.map fun l => (⟨l.toArray⟩ : ByteArray)).length := by simpa using hn
    subst en
    exact c.mono fun e w' ⟨h1, h2⟩ => ⟨_, h1, h2, .v _ _⟩
/-! ### errors -/
theorem toErr_spec (k : Int) (hk : k = 1 ∨ k = 2) (fn l : List UInt8) (hl : l.length ≤ 281474976710656) : G.Spec Tryd.prog 70 [S fn, S l, iv 16, iv 64, .ifc 128 (iv k)] (.ifc 131 .any) := by
  refine ⟨by kernel_rfl, fun w I vs hI ht hlv hr => ?_⟩
  have ev : vs = #[.string ⟨fn.toArray⟩, .string ⟨l.toArray⟩, .int .i64 16, .int .i64 64, .iface 128 (.int .i64 k)] := by
    have h0 := hr 0 _ rfl
    have h1 := hr 1 _ rfl
    have h2 := hr 2 _ rfl
    have h3 := hr 3 _ rfl
    have h4 := hr 4 _ rfl
    apply Array.ext
    · simpa using hlv
    · intro i g1 g2
      have hi : vs[i] = vs.getD i undef := by simp [g1]
      rw [hi]
      have : i = 0 ∨ i = 1 ∨ i = 2 ∨ i = 3 ∨ i = 4 := by simp at g2; omega
      rcases this with rfl | rfl | rfl | rfl | rfl
      · generalize vs.getD 0 undef = x at h0; cases h0; rfl
      · generalize vs.getD 1 undef = x at h1; cases h1; rfl
      · generalize vs.getD 2 undef = x at h2; cases h2; rfl
      · generalize vs.getD 3 undef = x at h3; cases h3; rfl
      · generalize vs.getD 4 undef = x at h4
        cases h4 with
        | ifc _ _ _ y hy => cases hy; rfl
  subst ev
  have hs : (⟨l.toArray⟩ : ByteArray).size ≤ 281474976710656 := by show l.toArray.size ≤ _; simpa using hl
  rcases hk with rfl | rfl
  · obtain ⟨_, te, pe, hv⟩ := ht.err 3 (by kernel_rfl)
    exact (Any.strconv_toError_range Tryd.laysC245 ⟨fn.toArray⟩ ⟨l.toArray⟩ 16 64 _ w hs hv (Or.inr ⟨te, pe, rfl⟩)).mono fun e w' ⟨N, h1, _, _, h2⟩ => ⟨_, h1, h2, .ifc _ _ _ _ (.any _ _)⟩
  · obtain ⟨_, te, pe, hv⟩ := ht.err 2 (by kernel_rfl)
    exact (Any.strconv_toError_syntax Tryd.laysC245 ⟨fn.toArray⟩ ⟨l.toArray⟩ 16 64 _ w hs hv (Or.inr ⟨te, pe, rfl⟩)).mono fun e w' ⟨N, h1, _, _, h2⟩ => ⟨_, h1, h2, .ifc _ _ _ _ (.any _ _)⟩
theorem specB_ifc {P : Program} {f : FuncId} {args : List A} {t : TypeId} (h : G.Spec P f args (.ifc t .any)) : SpecB P f args (.ifc t .any) :=
  ⟨h.1, fun w I J vs hI hJ ht hl ha => (h.2 w (fun b => I b ∨ J b) vs (fun b hb => hb.elim (hI b) (hJ b)) (ht.mono (fun _ h => .inl h) (fun _ _ => rfl)) hl ha).mono fun e w' ⟨v, he, hB, hr'⟩ => ⟨v, he, hB, by
    cases hr' with
    | ifc _ _ _ y hy => exact .ifc _ _ _ _ (.any _ _)⟩⟩
/-! ### hexadecimal digits as a number -/
theorem str_eqlE {l m : List UInt8} : strA .eql ⟨l.toArray⟩ ⟨m.toArray⟩ = some (bv (decide (l = m))) := by
  unfold strA
  simp only [Lib.toList_data, List.toList_toArray]
  rw [show (l == m) = decide (l = m) by by_cases h : l = m <;> simp [h]]
theorem str_neqE {l m : List UInt8} : strA .neq ⟨l.toArray⟩ ⟨m.toArray⟩ = some (bv (decide (l ≠ m))) := by
  by_cases h : l = m
  · subst h; simp [strA]
  · have : ¬ (ByteArray.mk l.toArray = ByteArray.mk m.toArray) := by rw [str_inj]; exact h
    simp [strA, h]
theorem frz_ifcb {H : Hp} {t : TypeId} {k : Int} : Frz H (.ifc t (iv k)) (.ifc t (iv k)) := fun c w I μ v hs hr => by
  cases hr with
  | ifc _ _ _ y hy => cases hy; exact .ifc _ _ _ _ (.v _ _)
theorem ifc_err {k : Int} : ifcA Tryd.prog 128 (iv k) = some (.ifc 128 (iv k)) := by kernel_rfl
theorem lower_spec (c : UInt8) : G.Spec Tryd.prog 82 [u8v c] (.v (.int .u8 (bits .or .u8 c.toNat 32))) := by
  refine spec_of t_internal_strconv_lower (by simp) fun w0 I0 => ?_
  unfold c_internal_strconv_lower
  simp
  exact frz_bare rfl
theorem lower_hex {c : UInt8} {d : Nat} (h : hexV c = some d) (hc : ¬ c.toNat ≤ 57) : bits .or .u8 c.toNat 32 = c.toNat ∧ 97 ≤ c.toNat ∧ c.toNat ≤ 102 ∧ d = c.toNat - 87 := by
  have h1 : 97 ≤ c.toNat ∧ c.toNat ≤ 102 ∧ d = c.toNat - 87 := by
    unfold hexV at h
    rw [if_neg (by omega)] at h
    split at h
    · cases h; omega
    · cases h
  refine ⟨?_, h1⟩
  have : ∀ n : Nat, n < 6 → bits .or .u8 ((97 + n : Nat) : Int) 32 = ((97 + n : Nat) : Int) := by decide
  have := this (c.toNat - 97) (by omega)
  rwa [show 97 + (c.toNat - 97) = c.toNat by omega] at this
section
variable {n0 : Nat} {w0 : World} {I0 : Nat → Prop} {Q : Exit → Sta → Prop} {H : Hp}
set_option maxHeartbeats 2000000 in
theorem pu_l1 {dg : List UInt8} (hl : dg.length ≤ 1000000000) (hd : ∀ c, c ∈ dg → ∃ d, hexV c = some d) (hq : ∀ m, puGo 0 dg = some m → Q (.exit 3) ⟨lk [(1, iv 16), (8, bv false), (9, S dg), (10, uv 1152921504606846976), (11, uv 18446744073709551615), (12, bv false), (13, uv m), (99, .sl false (dg.map u8v)), (100, iv dg.length), (101, iv dg.length), (102, bv false)], H⟩)
    (hr : puGo 0 dg = none → Q .ret ⟨lk [(6, uv 18446744073709551615), (7, .ifc 128 (iv 1))], H⟩) :
    ∀ (j i n : Nat), i + j = dg.length → n < 18446744073709551616 → puGo 0 dg = puGo n (dg.drop i) → LoopC (cx Tryd.prog w0 I0 n0) l1_internal_strconv_ParseUint Q ⟨lk [(1, iv 16), (8, bv false), (9, S dg), (10, uv 1152921504606846976), (11, uv 18446744073709551615), (12, bv false), (13, uv n), (99, .sl false (dg.map u8v)), (100, iv dg.length), (101, iv i)], H⟩ := by
  intro j
  induction j with
  | zero =>
    intro i n hi hn he
    have : i = dg.length := by omega
    subst this
    rw [List.drop_length] at he
    refine loopC_once mixed l1_internal_strconv_ParseUint.eq_1 ?_
    simp
    exact hq n he
  | succ j ih =>
    intro i n hi hn he
    have hlt : i < dg.length := by omega
    obtain ⟨d, hx⟩ := hd dg[i] (List.getElem_mem hlt)
    rw [List.drop_eq_getElem_cons hlt, puGo, hx] at he
    simp only at he
    have hd16 := (hexD_V hx).1
    have hc := lower_spec dg[i]
    have ei : IntKind.i64.wrap ((i : Int) + 1) = ((i + 1 : Nat) : Int) := by rw [i64_same (by omega) (by omega)]; omega
    have h95 : ¬ (dg[i].toNat : Int) = 95 := by
      unfold hexV at hx
      split at hx
      · omega
      · split at hx
        · omega
        · cases hx
    have k1 : WPC (cx Tryd.prog w0 I0 n0) k1_internal_strconv_ParseUint (ThenC (fun st => WPC (cx Tryd.prog w0 I0 n0) (.keep [1, 8, 9, 10, 11, 12, 13, 99, 100, 101] (.reg [co (some 163) (.binOp .add 3 (.tmp 101) (.const (.int .i64 1)) 3) none, co (some 101) (.move (.tmp 163)) none] [1, 8, 9, 10, 11, 12, 13, 99, 100, 101])) (ThenC (LoopC (cx Tryd.prog w0 I0 n0) l1_internal_strconv_ParseUint Q) Q) st) (ThenC (LoopC (cx Tryd.prog w0 I0 n0) l1_internal_strconv_ParseUint Q) Q)) ⟨lk [(1, iv 16), (8, bv false), (9, S dg), (10, uv 1152921504606846976), (11, uv 18446744073709551615), (12, bv false), (13, uv n), (16, .v (.int .u8 d)), (99, .sl false (dg.map u8v)), (100, iv dg.length), (101, iv i)], H⟩ := by
      rw [k1_internal_strconv_ParseUint.eq_1]
      have e8 : IntKind.u8.wrap 16 = 16 := by decide
      by_cases hlt2 : n < 1152921504606846976
      · rw [if_pos hlt2] at he
        have e1 : IntKind.u64.wrap ((n : Int) * 16) = ((n * 16 : Nat) : Int) := by rw [u64_same (by omega) (by omega)]; omega
        have e2 : IntKind.u64.wrap (((n * 16 : Nat) : Int) + (d : Int)) = ((n * 16 + d : Nat) : Int) := by rw [u64_same (by omega) (by omega)]; omega
        have e3 : IntKind.u64.wrap (d : Int) = d := u64_same (by omega) (by omega)
        have e4 : IntKind.u64.wrap 16 = 16 := by decide
        have e5 : IntKind.u64.wrap ((n : Int) * 16 + (d : Int)) = (n : Int) * 16 + d := u64_same (by omega) (by omega)
        simp [show ¬ (16 : Int) ≤ d by omega, show ¬ 16 ≤ d by omega, show ¬ (1152921504606846976 : Int) ≤ n by omega, e1, e5, e3, e4, e8, ei, show ¬ ((n : Int) * 16 + d < n * 16 ∨ 18446744073709551615 < (n : Int) * 16 + d) by omega]
        intro _ _
        exact ih (i + 1) (n * 16 + d) (by omega) (by omega) he
      · rw [if_neg hlt2] at he
        simp [show ¬ (16 : Int) ≤ d by omega, show ¬ 16 ≤ d by omega, show (1152921504606846976 : Int) ≤ n by omega, e8, ifc_err]
        exact hr he
    refine loopC_once mixed l1_internal_strconv_ParseUint.eq_1 ?_
    by_cases h57 : dg[i].toNat ≤ 57
    · have h48 : 48 ≤ dg[i].toNat ∧ d = dg[i].toNat - 48 := by
        unfold hexV at hx
        split at hx
        · cases hx; omega
        · split at hx
          · omega
          · cases hx
      have ed : IntKind.u8.wrap ((dg[i].toNat : Int) - 48) = d := by
        have : (dg[i].toNat : Int) - 48 = d := by omega
        rw [this]
        have : ∀ d : Nat, d < 16 → IntKind.u8.wrap (d : Int) = d := by decide
        exact this d hd16
      simp [hlt, h95, show (48 : Int) ≤ dg[i].toNat by omega, show (dg[i].toNat : Int) ≤ 57 by omega, ed]
      exact k1
    · obtain ⟨b1, b2, b3, b4⟩ := lower_hex hx h57
      rw [b1] at hc
      have ed : IntKind.u8.wrap (IntKind.u8.wrap ((dg[i].toNat : Int) - 97) + 10) = d := by
        have : ∀ n : Nat, n < 6 → IntKind.u8.wrap (IntKind.u8.wrap (((97 + n : Nat) : Int) - 97) + 10) = ((10 + n : Nat) : Int) := by decide
        have := this (dg[i].toNat - 97) (by omega)
        rw [show 97 + (dg[i].toNat - 97) = dg[i].toNat by omega] at this
        rw [this]; omega
      simp [hlt, h95, show (48 : Int) ≤ dg[i].toNat by omega, show ¬ (dg[i].toNat : Int) ≤ 57 by omega]
      refine sc_call hc rfl ?_
      simp [show (97 : Int) ≤ dg[i].toNat by omega]
      refine sc_call_gt (q := true) rfl (fun _ => hc) (fun _ => rfl) rfl ?_
      simp [show (dg[i].toNat : Int) ≤ 122 by omega]
      refine sc_call hc rfl ?_
      simp [ed]
      exact k1
end
def puA (dg : List UInt8) : A := if dg = [] then .tup [uv 0, .ifc 128 (iv 2)] else match puGo 0 dg with
  | some m => .tup [uv m, .v .nilIface]
  | none => .tup [uv 18446744073709551615, .ifc 128 (iv 1)]
set_option maxHeartbeats 1000000 in
theorem puIn_spec (dg : List UInt8) (hl : dg.length ≤ 1000000000) (hd : ∀ c, c ∈ dg → ∃ d, hexV c = some d) : G.Spec Tryd.prog 69 [S dg, iv 16, iv 64] (puA dg) := by
  refine spec_of t_internal_strconv_ParseUint (by simp) fun w0 I0 => ?_
  unfold c_internal_strconv_ParseUint puA
  by_cases h0 : dg = []
  · subst h0
    simp [str_eqlE, ifc_err]
    exact frz_tup ⟨frz_bare rfl, frz_ifcb, trivial⟩
  · rw [if_neg h0]
    simp [str_eqlE, h0]
    rw [k4_internal_strconv_ParseUint.eq_1]
    simp
    rw [k3_internal_strconv_ParseUint.eq_1]
    simp
    rw [k2_internal_strconv_ParseUint.eq_1]
    simp
    refine ⟨by decide, ?_⟩
    have e11 : IntKind.u64.wrap (IntKind.u64.wrap (2 ^ min (IntKind.u64.wrap 64).toNat IntKind.u64.bits) - 1) = 18446744073709551615 := by decide
    refine LoopC.le (le_list [(1, iv 16), (8, bv false), (9, S dg), (10, uv 1152921504606846976), (11, uv 18446744073709551615), (12, bv false), (13, uv (0 : Nat)), (99, .sl false (dg.map u8v)), (100, iv dg.length), (101, iv (0 : Nat))] (by simp [e11])) ?_
    refine pu_l1 hl hd (fun m hm => ?_) (fun hm => ?_) dg.length 0 0 (by omega) (by omega) rfl
    · rw [hm]
      simp
      refine sc_call_gt (L := []) (x := bv false) (q := false) rfl (fun h => by cases h) (fun h => by cases h) rfl ?_
      simp
      exact frz_bare rfl
    · rw [hm]
      simp
      exact frz_tup ⟨frz_bare rfl, frz_ifcb, trivial⟩
/-- strconv.ParseUint of hexadecimal digits -/
def pubA (dg : List UInt8) : A := if dg = [] then .tup [uv 0, .ifc 131 .any] else match puGo 0 dg with
  | some m => .tup [uv m, .v .nilIface]
  | none => .tup [uv 18446744073709551615, .ifc 131 .any]
theorem frz_ifca {H : Hp} {t : TypeId} : Frz H (.ifc t .any) (.ifc t .any) := fun c w I μ v hs hr => by
  cases hr with
  | ifc _ _ _ y hy => exact .ifc _ _ _ _ (.any _ _)
theorem pu_spec (dg : List UInt8) (hl : dg.length ≤ 1000000000) (hd : ∀ c, c ∈ dg → ∃ d, hexV c = some d) : G.Spec Tryd.prog 51 [S dg, iv 16, iv 64] (pubA dg) := by
  have h := puIn_spec dg hl hd
  refine spec_of t_strconv_ParseUint (by simp) fun w0 I0 => ?_
  unfold c_strconv_ParseUint pubA
  unfold puA at h
  by_cases h0 : dg = []
  · rw [if_pos h0] at h ⊢
    simp
    refine sc_call h rfl ?_
    simp
    refine sc_callb [S [80, 97, 114, 115, 101, 85, 105, 110, 116], S dg, iv 16, iv 64, .ifc 128 (iv 2)] (specB_ifc (toErr_spec 2 (by decide) _ dg (by omega))) ?_ (by simp) ?_
    · simp
      exact ⟨frz_bare rfl, frz_bare rfl, frz_bare rfl, frz_bare rfl, frz_ifcb⟩
    · simp
      exact frz_tup ⟨frz_bare rfl, frz_ifca, trivial⟩
  · rw [if_neg h0] at h ⊢
    cases e : puGo 0 dg with
    | some m =>
      rw [e] at h
      simp
      refine sc_call h rfl ?_
      simp
      exact frz_bare rfl
    | none =>
      rw [e] at h
      simp
      refine sc_call h rfl ?_
      simp
      refine sc_callb [S [80, 97, 114, 115, 101, 85, 105, 110, 116], S dg, iv 16, iv 64, .ifc 128 (iv 1)] (specB_ifc (toErr_spec 1 (by decide) _ dg (by omega))) ?_ (by simp) ?_
      · simp
        exact ⟨frz_bare rfl, frz_bare rfl, frz_bare rfl, frz_bare rfl, frz_ifcb⟩
      · simp
        exact frz_tup ⟨frz_bare rfl, frz_ifca, trivial⟩
end Go.Proofs.YtebihdhapepejaaDoor

/-
  The reader of edits' texts: numbers.
-/
namespace Go.Proofs.YtebihdhapepejaaDoor
set_option linter.unusedVariables false
set_option linter.unusedSimpArgs false
open Go Go.G Go.Proofs Go.PL
/-- what a reader tells, and where it is then -/
def outO {α : Type} (f : α → A) (s : List UInt8) (k : Nat) (o : Option (α × Nat)) : Option ((Nat → A) × Fam) := o.map fun q => (fun _ => f q.1, psF s (k + q.2))
theorem outO_fam {α : Type} {f : α → A} (hf : ∀ x, FamA (fun _ => f x)) {s : List UInt8} {k : Nat} {o : Option (α × Nat)} : ∀ q, outO f s k o = some q → FamA q.1 := fun q h => by
  unfold outO at h
  cases o with
  | none => cases h
  | some x => cases h; exact hf _
@[simp] theorem outO_none {α : Type} {f : α → A} {s : List UInt8} {k : Nat} : outO f s k none = none := rfl
@[simp] theorem outO_some {α : Type} {f : α → A} {s : List UInt8} {k : Nat} {q : α × Nat} : outO f s k (some q) = some (fun _ => f q.1, psF s (k + q.2)) := rfl
theorem ehex_spec (n : Nat) (hn : n < 18446744073709551616) : G.Spec Tryd.prog 14 [uv n] (S (hexS n)) := by
  refine spec_of t_etext_hex (by simp) fun w0 I0 => ?_
  unfold c_etext_hex
  simp
  refine sc_call (fmtUint_spec n hn) rfl ?_
  simp
  exact frz_bare rfl
theorem nxB_dgs {s : List UInt8} {k : Nat} (hk : k ≤ s.length) : (∃ d, hexV (nxB (s.drop k)) = some d ∧ k < s.length ∧ dgs (s.drop k) = nxB (s.drop k) :: dgs (s.drop (k + 1))) ∨ (hexV (nxB (s.drop k)) = none ∧ dgs (s.drop k) = []) := by
  by_cases h : k = s.length
  · right
    subst h
    rw [nxB_end, List.drop_length]
    exact ⟨by decide, rfl⟩
  · have hlt : k < s.length := by omega
    rw [nxB_at hlt, drop_get hlt]
    cases hx : hexV s[k] with
    | none =>
      right
      exact ⟨rfl, List.takeWhile_cons_of_neg (p := fun c => (hexV c).isSome) (by rw [hx]; simp)⟩
    | some d =>
      left
      exact ⟨d, rfl, hlt, List.takeWhile_cons_of_pos (p := fun c => (hexV c).isSome) (by rw [hx]; rfl)⟩
section
variable {φ : Prop} {n0 : Nat} {w0 : World} {I0 : Nat → Prop} {M0 : Nm → Nat → Prop} {m0 : Mu} {Q : Exit → Sta → Prop}
theorem numE_l1 {s : List UInt8} (hs : s.length ≤ 1000000000) {k0 : Nat} {y : A} : ∀ (l : List UInt8) (k : Nat) (H : Hp), dgs (s.drop k) = l → k ≤ s.length → (∀ p, H (0 :: p) = (psF s k).F 0 p) →
    (∀ (H' : Hp), (∀ p, H' (0 :: p) = (psF s (k + l.length)).F 0 p) → Q (.exit 0) ⟨lk [(0, pp 0), (1, y), (5, iv k0), (16, bv false)], H'⟩) →
    LoopC (cxd wrT φ Tryd.prog w0 I0 M0 n0 m0) l1_etext_number Q ⟨lk [(0, pp 0), (1, y), (5, iv k0)], H⟩ := by
  intro l
  induction l with
  | nil =>
    intro k H hl hk hH hq
    have hn := nextE_spec s k hk
    refine loopC_once mixed l1_etext_number.eq_1 ?_
    simp
    refine sc_fam 0 hn hH (by simp) (by simp) ?_
    rcases nxB_dgs hk with ⟨d, h1, h2, h3⟩ | ⟨h1, h2⟩
    · rw [hl] at h3; cases h3
    · have hi := idx_spec [48, 49, 50, 51, 52, 53, 54, 55, 56, 57, 97, 98, 99, 100, 101, 102] (nxB (s.drop k))
      rw [hexV_idx, h1] at hi
      simp
      refine sc_call hi rfl ?_
      simp
      exact hq _ (fun p => by simp)
  | cons c l ih =>
    intro k H hl hk hH hq
    have hn := nextE_spec s k hk
    refine loopC_once mixed l1_etext_number.eq_1 ?_
    simp
    refine sc_fam 0 hn hH (by simp) (by simp) ?_
    rcases nxB_dgs hk with ⟨d, h1, h2, h3⟩ | ⟨h1, h2⟩
    · have hi := idx_spec [48, 49, 50, 51, 52, 53, 54, 55, 56, 57, 97, 98, 99, 100, 101, 102] (nxB (s.drop k))
      rw [hexV_idx, h1] at hi
      rw [hl] at h3
      have e1 : IntKind.i64.wrap ((k : Int) + 1) = ((k + 1 : Nat) : Int) := by rw [i64_same (by omega) (by omega)]; omega
      simp
      refine sc_call hi rfl ?_
      simp [e1, show (0 : Int) ≤ d by omega]
      refine ih (k + 1) _ (List.cons.inj h3).2.symm (by omega) (fun p => by by_cases hp : p = [] <;> simp [hp, updF_app]) (fun H' g => ?_)
      exact hq H' (by rw [List.length_cons, show k + (l.length + 1) = k + 1 + l.length by omega]; exact g)
    · rw [hl] at h2; cases h2
end
theorem enumb_spec {s : List UInt8} (hs : s.length ≤ 1000000000) (k most : Nat) (hk : k ≤ s.length) (hm : most < 18446744073709551616) : OutF wrT Tryd.prog 37 (fun r => [pp r, uv most]) (psF s k) (outO (fun n : Nat => uv n) s k (numE most (s.drop k))) := by
  refine outF_of t_etext_number (by simp) (famL_cons famA_pob (famL_cons famA_v famL_nil)) (outO_fam fun _ => famA_v) fun w0 I0 M0 m0 => ?_
  have hle := dgs_le (s.drop k)
  rw [List.length_drop] at hle
  have htk := dgs_take (s.drop k)
  have hpu := pu_spec (dgs (s.drop k)) (by omega) dgs_all
  unfold c_etext_number
  simp
  refine LoopC.le (le_list [(0, pp 0), (1, uv most), (5, iv k)] (by simp)) ?_
  refine numE_l1 hs (dgs (s.drop k)) k _ rfl hk (fun p => by simp) (fun H' g => ?_)
  unfold numE
  obtain ⟨dg, hdg⟩ : ∃ dg, dg = dgs (s.drop k) := ⟨_, rfl⟩
  rw [← hdg] at hle htk hpu g ⊢
  have c1 : (0 ≤ (k : Int) + dg.length ∧ (k : Int) + dg.length ≤ s.length) = True := eq_true (by omega)
  have c2 : ((k : Int) + dg.length).toNat = k + dg.length := by omega
  have c3 : List.take (k + dg.length - k) (List.drop k s) = dg := by rw [Nat.add_sub_cancel_left]; exact htk
  unfold pubA at hpu
  simp [g, c1, c2, htk, show (k : Int) ≤ (k : Int) + dg.length by omega]
  refine sc_call hpu rfl ?_
  by_cases h0 : dg = []
  · rw [if_pos h0, if_pos h0]
    simp
    refine sc_call_gf (L := []) (x := S []) (q := true) rfl (fun h => by cases h) (fun h => by cases h) rfl ?_
    simp
    refine sc_famX (.tup []) 0 (fail_spec (psF s (k + dg.length))) ⟨rfl, by simp⟩ (fun p => by simp [g]) (by simp) (by simp) ?_
    simp
    exact stop_dead (dead_of 0 (by simp [dead_F]))
  · rw [if_neg h0, if_neg h0]
    cases hp : puGo 0 dg with
    | none =>
      simp
      refine sc_call_gf (L := []) (x := S []) (q := true) rfl (fun h => by cases h) (fun h => by cases h) rfl ?_
      simp
      refine sc_famX (.tup []) 0 (fail_spec (psF s (k + dg.length))) ⟨rfl, by simp⟩ (fun p => by simp [g]) (by simp) (by simp) ?_
      simp
      exact stop_dead (dead_of 0 (by simp [dead_F]))
    | some n =>
      have hn := puGo_lt _ _ _ (by omega) hp
      simp
      refine sc_call_gf (q := false) rfl (fun _ => ehex_spec n hn) (fun _ => rfl) rfl ?_
      simp [str_neqE]
      by_cases hb : hexS n = dg ∧ n ≤ most
      · rw [if_pos hb]
        refine ⟨fun h => (h.elim (fun h => h hb.1) (fun h => by omega)).elim, fun _ _ => ?_⟩
        refine stop_go ?_
        simp [RetO]
        exact reth_fam rfl rfl (fun p => by simp [g])
      · rw [if_neg hb]
        refine ⟨fun _ => ?_, fun h1 h2 => (hb ⟨h1, h2⟩).elim⟩
        refine sc_famX (.tup []) 0 (fail_spec (psF s (k + dg.length))) ⟨rfl, by simp⟩ (fun p => by simp [g]) (by simp) (by simp) ?_
        simp
        exact stop_dead (dead_of 0 (by simp [dead_F]))
theorem numE_lt {most : Nat} {r : List UInt8} {q : Nat × Nat} (h : numE most r = some q) : q.1 ≤ most ∧ q.1 < 18446744073709551616 ∧ q.2 ≤ r.length ∧ 1 ≤ q.2 := by
  obtain ⟨n, k⟩ := q
  obtain ⟨h1, h2, _, h3, h4⟩ := numE_to h
  exact ⟨h1, h2, h3, h4⟩
theorem esmall_spec {s : List UInt8} (hs : s.length ≤ 1000000000) (k : Nat) (hk : k ≤ s.length) : OutF wrT Tryd.prog 36 (fun r => [pp r]) (psF s k) (outO (fun n : Nat => iv n) s k (numE 1048576 (s.drop k))) := by
  refine outF_of t_etext_small (by simp) (famL_cons famA_pob famL_nil) (outO_fam fun _ => famA_v) fun w0 I0 M0 m0 => ?_
  have hn := enumb_spec hs k 1048576 hk (by omega)
  unfold c_etext_small
  simp
  cases h : numE 1048576 (s.drop k) with
  | none =>
    rw [h] at hn
    refine sc_famX (uv 0) 0 hn ⟨rfl, by simp⟩ (fun p => by simp) (by simp) (by simp) ?_
    simp
    exact stop_dead (dead_of 0 (by simp [dead_F]))
  | some q =>
    rw [h] at hn
    have hq := numE_lt h
    have e : IntKind.i64.wrap (q.1 : Int) = q.1 := i64_same (by omega) (by omega)
    refine sc_fam 0 hn (fun p => by simp) (by simp) (by simp) ?_
    simp [e]
    refine stop_go ?_
    simp [RetO]
    exact reth_fam rfl rfl (fun p => by simp)
end Go.Proofs.YtebihdhapepejaaDoor

/-
  How edits are told as texts, by the program.
-/
namespace Go.Proofs.YtebihdhapepejaaDoor
set_option linter.unusedVariables false
set_option linter.unusedSimpArgs false
set_option maxRecDepth 10000
open Go Go.G Go.Proofs Go.PL
/-- such an edit is told so -/
def PrE (e : E) : Prop := ∀ d, rightE d e = true → wfE e → (showE e).length ≤ 1000000000 → G.Spec Tryd.prog 8 [eX e] (S (showE e))
/-! ### what a right edit has -/
theorem wOk38_at : ∀ {ws : List WE} {last : Int}, wordsOk last ws = true → -1 ≤ last → ∀ w, w ∈ ws → 0 ≤ w.at_
  | x :: ws, last, h, hl, w, hw => by
    rw [wordsOk, Bool.and_eq_true] at h
    have h0 : last < x.at_ := by
      have := h.1
      unfold wordOk at this
      simp at this
      omega
    rcases List.mem_cons.1 hw with rfl | hw
    · omega
    · exact wOk38_at h.2 (by omega) w hw
theorem rightKs_at {d : Nat} : ∀ {ks : List KE} {last : Int}, rightKs d last ks = true → -1 ≤ last → ∀ x, x ∈ ks → 0 ≤ x.at_ ∧ rightE d x.e = true
  | y :: ks, last, h, hl, x, hx => by
    rw [rightKs_cons, Bool.and_eq_true, Bool.and_eq_true] at h
    have h0 : last < y.at_ := by
      have := h.1.1
      simp at this
      omega
    rcases List.mem_cons.1 hx with rfl | hx
    · exact ⟨by omega, h.1.2⟩
    · exact rightKs_at h.2 (by omega) x hx
theorem rightOs_mem {d : Nat} {l : Int} : ∀ {os : List OP}, rightOs d l os = true → ∀ x, x ∈ os → rightO d l x = true
  | y :: os, h, x, hx => by
    rw [rightOs_cons, Bool.and_eq_true] at h
    rcases List.mem_cons.1 hx with rfl | hx
    · exact h.1
    · exact rightOs_mem h.2 x hx
theorem rightO_e {d : Nat} {l : Int} {x : OP} (h : rightO d l x = true) (hk : x.kind = 3) : rightE d x.e = true := by
  rw [rightO_eq, if_pos hk] at h
  simp at h
  exact h.2.1.2
theorem rightO_n {d : Nat} {l : Int} {x : OP} (h : rightO d l x = true) : 0 ≤ x.n ∧ x.n ≤ 1048576 := by
  rw [rightO_eq, Bool.and_eq_true] at h
  have h1 := h.1
  unfold opFlat at h1
  split at h1
  · simp at h1; omega
  · split at h1
    · cases h1
    · omega
theorem rightE_parts {d : Nat} {k : Int} {o n : T} {ws : List WE} {ks : List KE} {l : Int} {os : List OP} (h : rightE d (.mk k o n ws ks l os) = true) : 0 ≤ k ∧ k ≤ 3 ∧ (k ≠ 1 → wordsOk (-1) ws = true ∧ rightKs (d - 1) (-1) ks = true ∧ (k = 3 → 2 ≤ l ∧ l ≤ 9) ∧ rightOs (d - 1) l os = true) := by
  rw [rightE_mk] at h
  split at h
  · cases h
  · rename_i hh
    have hh : headOk d k o n ws.length ks.length l os.length = true := by simpa using hh
    unfold headOk at hh
    simp at hh
    refine ⟨by omega, by omega, fun hk => ?_⟩
    rw [if_neg hk] at h
    split at h
    · cases h
    · rename_i h1
      split at h
      · cases h
      · rename_i h2
        split at h
        · cases h
        · rename_i h3
          split at h
          · cases h
          · rename_i h4
            exact ⟨by simpa using h1, by simpa using h2, fun e => by omega, by simpa using h4⟩
/-! ### a step -/
theorem print_bare {l : Int} {L : List T} (f g : Bool) (hT : wfT (.mk l [] L)) (hlen : (showT (.mk l [] L)).length ≤ 70368744177664) : G.Spec Tryd.prog 12 [.agg [iv l, .sl f [], .sl g (L.map tA)]] (S (showT (.mk l [] L))) := by
  refine (print_spec hT hlen).soft ?_
  have : L.map (A.soft ∘ tA) = L.map tA := List.map_congr_left fun t _ => soft_tA t
  simp [A.softL, A.soft, softL_map, this]
theorem eop_spec {d : Nat} {l : Int} {x : OP} (hr : rightO d l x = true) (hl : i64R l) (hw : WfO x) (he : PrE x.e) (hlen : (showO l x).length ≤ 1000000000) : G.Spec Tryd.prog 15 [iv l, oX x] (S (showO l x)) := by
  have hn := rightO_n hr
  refine spec_of t_etext_op (by simp) fun w0 I0 => ?_
  unfold c_etext_op
  unfold showO at hlen ⊢
  have hT : wfT (.mk l [] x.l) := ⟨hl, by simp, by simp, hw.ll, wfTs_all.2 hw.l⟩
  by_cases h1 : x.kind = 1
  · rw [if_pos h1] at hlen ⊢
    simp at hlen
    have hp := print_bare true false hT (by omega)
    have ha := str_add (l := [45]) (m := showT (.mk l [] x.l)) (by simp; omega)
    simp [h1]
    refine sc_call hp rfl ?_
    simp [ha]
    exact frz_bare rfl
  · rw [if_neg h1] at hlen ⊢
    by_cases h2 : x.kind = 2
    · rw [if_pos h2] at hlen ⊢
      simp at hlen
      have hp := print_bare true false hT (by omega)
      have ha := str_add (l := [43]) (m := showT (.mk l [] x.l)) (by simp; omega)
      simp [h2]
      refine sc_call hp rfl ?_
      simp [ha]
      exact frz_bare rfl
    · rw [if_neg h2] at hlen ⊢
      by_cases h3 : x.kind = 3
      · rw [if_pos h3] at hlen ⊢
        simp at hlen
        have hp := he d (rightO_e hr h3) hw.e (by omega)
        have ha := str_add (l := [42]) (m := showE x.e) (by simp; omega)
        simp [h3]
        refine sc_call hp rfl ?_
        simp [ha]
        exact frz_bare rfl
      · rw [if_neg h3] at hlen ⊢
        simp at hlen
        obtain ⟨m, hm⟩ : ∃ m : Nat, x.n.toNat = m := ⟨_, rfl⟩
        rw [hm] at hlen ⊢
        have hh := ehex_spec m (by omega)
        have ha := str_add (l := [107]) (m := hexS m) (by simp; omega)
        have en : IntKind.u64.wrap x.n = (m : Int) := by rw [u64_same (by omega) (by omega)]; omega
        simp [h1, h2, h3, en]
        refine sc_call hh rfl ?_
        simp [ha]
        exact frz_bare rfl
/-! ### the words of a struct's edit -/
theorem showW_join (w : WE) : showW w = Lib.join [hexS w.at_.toNat, hexS w.mask.toNat, hexS w.old.toNat, hexS w.new.toNat] [58] := by
  simp [showW, Lib.join, List.intercalate]
section
variable {n0 : Nat} {w0 : World} {I0 : Nat → Prop} {Q : Exit → Sta → Prop}
set_option maxHeartbeats 2000000 in
theorem pw_l1 {ws : List WE} {O0 : VOb} (hwf : ∀ w, w ∈ ws → WE.wf w ∧ 0 ≤ w.at_) (hl : ws.length ≤ 1000000001) (hlen : ∀ w, w ∈ ws → (showW w).length ≤ 1000000000)
    (hq : ∀ (H : Hp) (v : Nat), H [0] = O0 → H [2] = ⟨v, .arr 1 (ws.map (S ∘ showW))⟩ → Q (.exit 1) ⟨lk [(1, .pob [0] 1 0), (3, .osl [2] v 1 0 ws.length), (4, .sl true []), (30, wKs ws), (31, iv ws.length), (32, iv ws.length), (33, bv false)], H⟩) : ∀ (m i v : Nat) (H : Hp), i + m = ws.length → H [0] = O0 → H [2] = ⟨v, .arr 1 ((ws.take i).map (S ∘ showW))⟩ →
    LoopC (cx Tryd.prog w0 I0 n0) l1_etext_Print Q ⟨lk [(1, .pob [0] 1 0), (3, .osl [2] v 1 0 i), (4, .sl true []), (30, wKs ws), (31, iv ws.length), (32, iv i)], H⟩ := by
  intro m
  induction m with
  | zero =>
    intro i v H hm h0 hH
    refine loopC_once mixed l1_etext_Print.eq_1 ?_
    have : i = ws.length := by omega
    subst this
    rw [List.take_of_length_le (Nat.le_refl _)] at hH
    simp
    exact hq H v h0 hH
  | succ m ih =>
    intro i v H hm h0 hH
    have hi : i < ws.length := by omega
    have ew : IntKind.i64.wrap ((i : Int) + 1) = ((i + 1 : Nat) : Int) := by rw [i64_same (by omega) (by omega)]; omega
    obtain ⟨hw, hat⟩ := hwf _ (List.getElem_mem hi)
    have htk : (ws.take (i + 1)).map (S ∘ showW) = (ws.take i).map (S ∘ showW) ++ [S (showW ws[i])] := by rw [List.take_succ_eq_append_getElem hi, List.map_append]; rfl
    have next := ih (i + 1) (v + 1)
    rw [htk] at next
    have hj := showW_join ws[i]
    have hll := hlen _ (List.getElem_mem hi)
    rw [hj] at next hll
    obtain ⟨h1, ⟨h2, h3⟩, h4, h5⟩ := hw
    unfold i64R at h1
    unfold u64R at h4 h5
    obtain ⟨a, ha⟩ : ∃ a : Nat, (ws[i]).at_.toNat = a := ⟨_, rfl⟩
    obtain ⟨b, hb⟩ : ∃ a : Nat, (ws[i]).mask.toNat = a := ⟨_, rfl⟩
    obtain ⟨c, hc⟩ : ∃ a : Nat, (ws[i]).old.toNat = a := ⟨_, rfl⟩
    obtain ⟨d, hd⟩ : ∃ a : Nat, (ws[i]).new.toNat = a := ⟨_, rfl⟩
    rw [ha, hb, hc, hd] at next hll
    have ea : IntKind.u64.wrap (ws[i]).at_ = (a : Int) := by rw [u64_same (by omega) (by omega)]; omega
    have eb : IntKind.u64.wrap (ws[i]).mask = (b : Int) := by rw [u64_same (by omega) (by omega)]; omega
    have ec : (ws[i]).old = (c : Int) := by omega
    have ed : (ws[i]).new = (d : Int) := by omega
    have t1 := ehex_spec a (by omega)
    have t2 := ehex_spec b (by omega)
    have t3 := ehex_spec c (by omega)
    have t4 := ehex_spec d (by omega)
    have t5 := join_spec true [hexS a, hexS b, hexS c, hexS d] [58] (by simp) (by omega)
    refine loopC_once mixed l1_etext_Print.eq_1 ?_
    simp [hi, ea]
    refine sc_call t1 rfl ?_
    simp [eb]
    refine sc_call t2 rfl ?_
    simp [ec]
    refine sc_call t3 rfl ?_
    simp [ed]
    refine sc_call t4 rfl ?_
    simp
    refine sc_call t5 rfl ?_
    simp [hH, ew, updF_app]
    refine ⟨⟨by omega, by omega⟩, ?_⟩
    refine next _ (by omega) (by simp [updF_app, h0]) ?_
    simp [updF_app, List.take_take]
/-! ### the kids of a struct's edit -/
set_option maxHeartbeats 2000000 in
theorem pk_l2 {ks : List KE} {O2 : VOb} {a3 : A} {d : Nat} (hwf : ∀ x, x ∈ ks → i64R x.at_ ∧ wfE x.e ∧ 0 ≤ x.at_ ∧ rightE d x.e = true ∧ PrE x.e) (hl : ks.length ≤ 1000000001) (hlen : ∀ x, x ∈ ks → (showK x).length ≤ 1000000000)
    (hq : ∀ (H : Hp) (v : Nat), H [2] = O2 → H [4] = ⟨v, .arr 1 (ks.map (S ∘ showK))⟩ → Q (.exit 3) ⟨lk [(3, a3), (4, .osl [4] v 1 0 ks.length), (57, kKs ks), (58, iv ks.length), (59, iv ks.length), (60, bv false)], H⟩) : ∀ (m i v : Nat) (H : Hp), i + m = ks.length → H [2] = O2 → H [4] = ⟨v, .arr 1 ((ks.take i).map (S ∘ showK))⟩ →
    LoopC (cx Tryd.prog w0 I0 n0) l2_etext_Print Q ⟨lk [(3, a3), (4, .osl [4] v 1 0 i), (57, kKs ks), (58, iv ks.length), (59, iv i)], H⟩ := by
  intro m
  induction m with
  | zero =>
    intro i v H hm h0 hH
    refine loopC_once mixed l2_etext_Print.eq_1 ?_
    have : i = ks.length := by omega
    subst this
    rw [List.take_of_length_le (Nat.le_refl _)] at hH
    simp
    exact hq H v h0 hH
  | succ m ih =>
    intro i v H hm h0 hH
    have hi : i < ks.length := by omega
    have ew : IntKind.i64.wrap ((i : Int) + 1) = ((i + 1 : Nat) : Int) := by rw [i64_same (by omega) (by omega)]; omega
    obtain ⟨h1, hwe, hat, hre, hpe⟩ := hwf _ (List.getElem_mem hi)
    have htk : (ks.take (i + 1)).map (S ∘ showK) = (ks.take i).map (S ∘ showK) ++ [S (showK ks[i])] := by rw [List.take_succ_eq_append_getElem hi, List.map_append]; rfl
    have next := ih (i + 1) (v + 1)
    rw [htk] at next
    have hll := hlen _ (List.getElem_mem hi)
    unfold showK at hll
    rw [show showK ks[i] = hexS (ks[i]).at_.toNat ++ 58 :: showE (ks[i]).e from rfl] at next
    unfold i64R at h1
    obtain ⟨a, ha⟩ : ∃ a : Nat, (ks[i]).at_.toNat = a := ⟨_, rfl⟩
    rw [ha] at next hll
    simp at hll
    have ea : IntKind.u64.wrap (ks[i]).at_ = (a : Int) := by rw [u64_same (by omega) (by omega)]; omega
    have t1 := ehex_spec a (by omega)
    have t2 := hpe d hre hwe (by omega)
    have s1 := str_add (l := hexS a) (m := [58]) (by simp; omega)
    have s2 := str_add (l := hexS a ++ [58]) (m := showE (ks[i]).e) (by simp; omega)
    refine loopC_once mixed l2_etext_Print.eq_1 ?_
    simp [hi, ea]
    refine sc_call t1 rfl ?_
    simp [s1]
    refine sc_call t2 rfl ?_
    simp [hH, ew, s2, updF_app]
    refine ⟨⟨by omega, by omega⟩, ?_⟩
    refine next _ (by omega) (by simp [updF_app, h0]) ?_
    simp [updF_app, List.take_take]
/-! ### the steps of a list's edit -/
set_option maxHeartbeats 2000000 in
theorem po_l3 {os : List OP} {l : Int} {cs : List A} (hcs : cs[9]? = some (iv l)) {d : Nat} (hli : i64R l) (hwf : ∀ x, x ∈ os → WfO x ∧ rightO d l x = true ∧ PrE x.e) (hl : os.length ≤ 1000000001) (hlen : ∀ x, x ∈ os → (showO l x).length ≤ 1000000000)
    (hq : ∀ (H : Hp) (v : Nat), H [0] = ⟨1, .cells cs⟩ → H [6] = ⟨v, .arr 1 (os.map (S ∘ showO l))⟩ → Q (.exit 5) ⟨lk [(1, .pob [0] 1 0), (9, .osl [6] v 1 0 os.length), (87, oKs os), (88, iv os.length), (89, iv os.length), (90, bv false)], H⟩) : ∀ (m i v : Nat) (H : Hp), i + m = os.length → H [0] = ⟨1, .cells cs⟩ → H [6] = ⟨v, .arr 1 ((os.take i).map (S ∘ showO l))⟩ →
    LoopC (cx Tryd.prog w0 I0 n0) l3_etext_Print Q ⟨lk [(1, .pob [0] 1 0), (9, .osl [6] v 1 0 i), (87, oKs os), (88, iv os.length), (89, iv i)], H⟩ := by
  intro m
  induction m with
  | zero =>
    intro i v H hm h0 hH
    refine loopC_once mixed l3_etext_Print.eq_1 ?_
    have : i = os.length := by omega
    subst this
    rw [List.take_of_length_le (Nat.le_refl _)] at hH
    simp
    exact hq H v h0 hH
  | succ m ih =>
    intro i v H hm h0 hH
    have hi : i < os.length := by omega
    have ew : IntKind.i64.wrap ((i : Int) + 1) = ((i + 1 : Nat) : Int) := by rw [i64_same (by omega) (by omega)]; omega
    obtain ⟨hw, hr, hpe⟩ := hwf _ (List.getElem_mem hi)
    have htk : (os.take (i + 1)).map (S ∘ showO l) = (os.take i).map (S ∘ showO l) ++ [S (showO l os[i])] := by rw [List.take_succ_eq_append_getElem hi, List.map_append]; rfl
    have next := ih (i + 1) (v + 1)
    rw [htk] at next
    have t1 := eop_spec hr hli hw hpe (hlen _ (List.getElem_mem hi))
    refine loopC_once mixed l3_etext_Print.eq_1 ?_
    simp [hi, h0, hcs, updF_app]
    refine sc_call t1 rfl ?_
    simp [hH, ew, updF_app]
    refine ⟨⟨by omega, by omega⟩, ?_⟩
    refine next _ (by omega) (by simp [updF_app, h0]) ?_
    simp [updF_app, List.take_take]
end
theorem frzB {H : Hp} {x : Value} : Frz H (.v x) (.v x) := frz_bare rfl
set_option maxHeartbeats 4000000 in
theorem eprint_spec : ∀ e : E, PrE e := by
  refine E.ind fun k o nn ws ks l os ihk iho d hr hw hlen => ?_
  have h := wfE_iff.1 hw
  have hwl := h.wl
  have hkl := h.kl
  have hol := h.ol
  simp at hwl hkl hol
  obtain ⟨k0, k3, hp⟩ := rightE_parts hr
  refine spec_of t_etext_Print (by simp) fun w0 I0 => ?_
  unfold c_etext_Print
  rw [showE_mk] at hlen ⊢
  by_cases h1 : k = 1
  · subst h1
    rw [if_pos rfl] at hlen ⊢
    simp at hlen
    have t1 := print_spec (t := o) h.o (by omega)
    have t2 := print_spec (t := nn) h.n (by omega)
    have s1 := str_add (l := [40]) (m := showT o) (by simp; omega)
    have s2 := str_add (l := [40] ++ showT o) (m := [62]) (by simp; omega)
    have s3 := str_add (l := [40] ++ showT o ++ [62]) (m := showT nn) (by simp; omega)
    have s4 := str_add (l := [40] ++ showT o ++ [62] ++ showT nn) (m := [41]) (by simp; omega)
    simp at s1 s2 s3 s4
    simp
    refine sc_call t1 rfl ?_
    simp [s1, s2]
    refine sc_call t2 rfl ?_
    simp [s3, s4]
    exact frzB
  · rw [if_neg h1] at hlen ⊢
    obtain ⟨hwo, hks, hli, hos⟩ := hp h1
    by_cases h2 : k = 2
    · subst h2
      rw [if_pos rfl] at hlen ⊢
      simp at hlen
      have lw : ∀ w, w ∈ ws → (showW w).length ≤ 1000000000 := fun w hw' => by have := joinC_part (List.mem_map_of_mem (f := showW) hw'); omega
      have lk' : ∀ x, x ∈ ks → (showK x).length ≤ 1000000000 := fun w hw' => by have := joinC_part (List.mem_map_of_mem (f := showK) hw'); omega
      have nw := joinC_count (l := ws.map showW)
      have nk := joinC_count (l := ks.map showK)
      simp at nw nk
      simp
      refine LoopC.le (le_blank 3 [2] 1 (by simp)) ?_
      refine LoopC.le (le_list [(1, .pob [0] 1 0), (3, .osl [2] 1 1 0 0), (4, .sl true []), (30, wKs ws), (31, iv ws.length), (32, iv (0 : Nat))] (by simp)) ?_
      refine pw_l1 (ws := ws) (O0 := ⟨1, .cells (eL (.mk 2 o nn ws ks l os))⟩) (fun w hw' => ⟨h.w w hw', wOk38_at hwo (by omega) w hw'⟩) (by omega) lw (fun H v h0 hH => ?_) ws.length 0 1 _ (by omega) (by simp [updF_app]) (by simp [updF_app])
      simp [h0]
      refine LoopC.le (le_blank 4 [4] 1 (by simp)) ?_
      refine LoopC.le (le_list [(3, .osl [2] v 1 0 ws.length), (4, .osl [4] ((H [4]).u + 1) 1 0 0), (57, kKs ks), (58, iv ks.length), (59, iv (0 : Nat))] (by simp)) ?_
      refine pk_l2 (ks := ks) (d := d - 1) (O2 := ⟨v, .arr 1 (ws.map (S ∘ showW))⟩) (fun x hx => ⟨(h.ks x hx).1, (h.ks x hx).2, (rightKs_at hks (by omega) x hx).1, (rightKs_at hks (by omega) x hx).2, ihk x hx⟩) (by omega) lk' (fun H2 v2 g2 g4 => ?_) ks.length 0 ((H [4]).u + 1) _ (by omega) (by simp [updF_app, hH]) (by simp [updF_app])
      simp
      have t1 := join_spec false (ws.map showW) [44] (by simp; omega) (by rw [joinC_lib]; omega)
      have t2 := join_spec false (ks.map showK) [44] (by simp; omega) (by rw [joinC_lib]; omega)
      rw [joinC_lib] at t1 t2
      have s1 := str_add (l := [115, 123]) (m := joinC (ws.map showW)) (by simp; omega)
      have s2 := str_add (l := [115, 123] ++ joinC (ws.map showW)) (m := [124]) (by simp; omega)
      have s3 := str_add (l := [115, 123] ++ joinC (ws.map showW) ++ [124]) (m := joinC (ks.map showK)) (by simp; omega)
      have s4 := str_add (l := [115, 123] ++ joinC (ws.map showW) ++ [124] ++ joinC (ks.map showK)) (m := [125]) (by simp; omega)
      simp at s1 s2 s3 s4
      refine sc_callb [.sl false ((ws.map showW).map S), S [44]] (t1.toB rfl) ⟨?_, frzB, trivial⟩ (by simp) ?_
      · simp only [List.map_map]
        simp
        exact frz_row (f := S ∘ showW) (l := ws) (by rw [g2]; simp) rfl (by simp)
      simp [s1, s2]
      refine sc_callb [.sl false ((ks.map showK).map S), S [44]] (t2.toB rfl) ⟨?_, frzB, trivial⟩ (by simp) ?_
      · simp only [List.map_map]
        simp
        exact frz_row (f := S ∘ showK) (l := ks) (by rw [g4]; simp) rfl (by simp)
      simp [s3, s4]
      exact frzB
    · rw [if_neg h2] at hlen ⊢
      by_cases h3 : k = 3
      · subst h3
        rw [if_pos rfl] at hlen ⊢
        simp at hlen
        have lo : ∀ x, x ∈ os → (showO l x).length ≤ 1000000000 := fun w hw' => by have := joinC_part (List.mem_map_of_mem (f := showO l) hw'); omega
        have no := joinC_count (l := os.map (showO l))
        simp at no
        simp
        refine LoopC.le (le_blank 9 [6] 1 (by simp)) ?_
        refine LoopC.le (le_list [(1, .pob [0] 1 0), (9, .osl [6] 1 1 0 0), (87, oKs os), (88, iv os.length), (89, iv (0 : Nat))] (by simp)) ?_
        refine po_l3 (os := os) (d := d - 1) (l := l) (cs := eL (.mk 3 o nn ws ks l os)) rfl h.l (fun x hx => ⟨h.os x hx, rightOs_mem hos x hx, iho x hx⟩) (by omega) lo (fun H v h0 hH => ?_) os.length 0 1 _ (by omega) (by simp [updF_app]) (by simp [updF_app])
        simp [h0]
        obtain ⟨l2, l9⟩ := hli rfl
        have hT : wfT (.mk l [] []) := ⟨h.l, by simp, by simp, by simp, wfTs_all.2 (by simp)⟩
        have hsh : showT (.mk l [] []) = [letS l, 91, 93] := by rw [showT_mk, if_neg (fun e => by simp at e), if_neg (by omega), if_pos ⟨l2, l9⟩]; rfl
        have t1 := print_bare true true hT (by rw [hsh]; simp)
        rw [hsh] at t1
        have t2 := join_spec false (os.map (showO l)) [44] (by simp; omega) (by rw [joinC_lib]; omega)
        rw [joinC_lib] at t2
        have s1 := str_add (l := [108]) (m := [letS l, 91]) (by simp)
        have s2 := str_add (l := [108, letS l, 91]) (m := joinC (os.map (showO l))) (by simp; omega)
        have s3 := str_add (l := [108, letS l, 91] ++ joinC (os.map (showO l))) (m := [93]) (by simp; omega)
        simp at s1 s2 s3
        refine sc_call t1 rfl ?_
        simp [s1]
        refine sc_callb [.sl false ((os.map (showO l)).map S), S [44]] (t2.toB rfl) ⟨?_, frzB, trivial⟩ (by simp) ?_
        · simp only [List.map_map]
          simp
          exact frz_row (f := S ∘ showO l) (l := os) (by rw [hH]; simp) rfl (by simp)
        simp [s2, s3]
        exact frzB
      · rw [if_neg h3] at hlen ⊢
        have : k = 0 := by omega
        subst this
        simp
        exact frzB
end Go.Proofs.YtebihdhapepejaaDoor

/-
  Plain: the program reads what it tells: edits.
-/
namespace Go.Proofs.YtebihdhapepejaaDoor
set_option linter.unusedVariables false
set_option linter.unusedSimpArgs false
open Go Go.G Go.Proofs Go.PL
/-- what stands behind is no digit -/
def NoDig (rest : List UInt8) : Prop := ∀ c, rest.head? = some c → hexV c = none
theorem noDig_cons {c : UInt8} (h : hexV c = none) (r : List UInt8) : NoDig (c :: r) := fun x hx => by simp at hx; rw [← hx]; exact h
theorem must_of {c : UInt8} {r : List UInt8} : mustE c (c :: r) = some 1 := by unfold mustE; rw [if_pos (by simp)]
theorem drop_app {l r : List UInt8} : (l ++ r).drop l.length = r := List.drop_left
theorem wordE_of {w : WE} (h0 : 0 ≤ w.at_) (h1 : w.at_ ≤ 1048576) (hw : WE.wf w) {rest : List UInt8} (hr : NoDig rest) : wordE (showW w ++ rest) = some (w, (showW w).length) := by
  obtain ⟨_, ⟨m0, m1⟩, ho, hn⟩ := hw
  unfold u64R at ho hn
  have d58 : ∀ r : List UInt8, NoDig (58 :: r) := fun r => noDig_cons (by decide) r
  have e1 := numE_of (most := 1048576) (n := w.at_.toNat) (rest := 58 :: (hexS w.mask.toNat ++ 58 :: (hexS w.old.toNat ++ 58 :: (hexS w.new.toNat ++ rest)))) (by omega) (by omega) (d58 _)
  have e2 := numE_of (most := 255) (n := w.mask.toNat) (rest := 58 :: (hexS w.old.toNat ++ 58 :: (hexS w.new.toNat ++ rest))) (by omega) (by omega) (d58 _)
  have e3 := numE_of (most := 18446744073709551615) (n := w.old.toNat) (rest := 58 :: (hexS w.new.toNat ++ rest)) (by omega) (by omega) (d58 _)
  have e4 := numE_of (most := 18446744073709551615) (n := w.new.toNat) (rest := rest) (by omega) (by omega) hr
  have hs : showW w ++ rest = hexS w.at_.toNat ++ 58 :: (hexS w.mask.toNat ++ 58 :: (hexS w.old.toNat ++ 58 :: (hexS w.new.toNat ++ rest))) := by simp [showW]
  rw [hs]
  unfold wordE
  rw [e1]
  simp only [drop_app, must_of, ← List.drop_drop, List.drop_succ_cons, List.drop_zero, e2, e3, e4]
  simp only [Option.some.injEq, Prod.mk.injEq]
  refine ⟨?_, by simp [showW]; omega⟩
  obtain ⟨a, m, o, n⟩ := w
  simp only at h0 m0 ho hn ⊢
  rw [Int.toNat_of_nonneg h0, Int.toNat_of_nonneg m0, Int.toNat_of_nonneg ho.1, Int.toNat_of_nonneg hn.1]
theorem nx_hex (n : Nat) (r : List UInt8) {c : UInt8} (hc : hexV c = none) : nxB (hexS n ++ r) ≠ c := by
  have h := hexS_all n
  have hp := hexS_pos n
  cases hx : hexS n with
  | nil => rw [hx] at hp; simp at hp
  | cons x l =>
    rw [List.cons_append]
    intro e
    have e : x = c := e
    obtain ⟨d, hd⟩ := h x (by rw [hx]; simp)
    rw [e, hc] at hd; cases hd
theorem comma_of {n : Nat} {r : List UInt8} : commaE n ((if n = 0 then [] else [44]) ++ r) = some (if n = 0 then 0 else 1) := by
  unfold commaE
  split
  · rfl
  · exact must_of
theorem tailJ_head : ∀ (l : List (List UInt8)) (r : List UInt8), tailJ l = [] ∨ ∃ x, tailJ l = 44 :: x
  | [], r => .inl rfl
  | x :: l, r => .inr ⟨_, rfl⟩
theorem tailJ_noDig (l : List (List UInt8)) {c : UInt8} (hc : hexV c = none) (r : List UInt8) : NoDig (tailJ l ++ c :: r) := by
  rcases tailJ_head l [] with h | ⟨x, h⟩
  · rw [h]; exact noDig_cons hc r
  · rw [h]; exact noDig_cons (by decide) _
theorem sepJ_tail {n : Nat} (l : List (List UInt8)) : sepJ (n + 1) l = tailJ l := by unfold sepJ; rw [if_neg (by omega)]
theorem wordsE_of : ∀ (ws : List WE) (f n : Nat) (rest : List UInt8), (∀ w, w ∈ ws → 0 ≤ w.at_ ∧ w.at_ ≤ 1048576 ∧ WE.wf w) → ws.length < f → wordsE f n (sepJ n (ws.map showW) ++ 124 :: rest) = some (ws, (sepJ n (ws.map showW)).length)
  | [], f + 1, n, rest, _, _ => by
    have : sepJ n (([] : List WE).map showW) = [] := by unfold sepJ; split <;> rfl
    rw [this, wordsE, if_pos (by rfl)]; rfl
  | w :: ws, f + 1, n, rest, h, hf => by
    obtain ⟨h0, h1, hw⟩ := h w (by simp)
    rw [List.map_cons, sepJ_cons, sepJ_tail, wordsE]
    have ih := wordsE_of ws f (n + 1) rest (fun x hx => h x (by simp [hx])) (by simp at hf; omega)
    rw [sepJ_tail] at ih
    have e : ((if n = 0 then [] else [(44 : UInt8)]) ++ (showW w ++ tailJ (ws.map showW))) ++ 124 :: rest = (if n = 0 then [] else [44]) ++ (showW w ++ (tailJ (ws.map showW) ++ 124 :: rest)) := by simp
    rw [e, if_neg]
    · rw [comma_of]
      have hd : ((if n = 0 then [] else [(44 : UInt8)]) ++ (showW w ++ (tailJ (ws.map showW) ++ 124 :: rest))).drop (if n = 0 then 0 else 1) = showW w ++ (tailJ (ws.map showW) ++ 124 :: rest) := by split <;> rfl
      simp only [hd, wordE_of h0 h1 hw (tailJ_noDig (ws.map showW) (c := 124) (by decide) rest), ← List.drop_drop, drop_app, ih]
      by_cases hn : n = 0
      · simp [hn]
      · simp [hn]; omega
    · by_cases hn : n = 0
      · rw [if_pos hn, List.nil_append]
        rw [show showW w ++ (tailJ (ws.map showW) ++ 124 :: rest) = hexS w.at_.toNat ++ (58 :: (hexS w.mask.toNat ++ 58 :: (hexS w.old.toNat ++ 58 :: hexS w.new.toNat)) ++ (tailJ (ws.map showW) ++ 124 :: rest)) by simp [showW]]
        exact nx_hex _ _ (by decide)
      · rw [if_neg hn]
        show (44 : UInt8) ≠ 124
        decide
/-- such a reader reads what is told of such an edit -/
def CoE (ed : List UInt8 → Option (E × Nat)) (e : E) : Prop := ∀ rest : List UInt8, ed (showE e ++ rest) = some (e, (showE e).length)
theorem kidE_of {ed : List UInt8 → Option (E × Nat)} {x : KE} (h : 0 ≤ x.at_ ∧ x.at_ ≤ 1048576 ∧ CoE ed x.e) (rest : List UInt8) : kidE ed (showK x ++ rest) = some (x, (showK x).length) := by
  obtain ⟨h0, h1, hc⟩ := h
  have e1 := numE_of (most := 1048576) (n := x.at_.toNat) (rest := 58 :: (showE x.e ++ rest)) (by omega) (by omega) (noDig_cons (by decide) _)
  have hs : showK x ++ rest = hexS x.at_.toNat ++ 58 :: (showE x.e ++ rest) := by simp [showK]
  rw [hs]
  unfold kidE
  rw [e1]
  simp only [drop_app, must_of, ← List.drop_drop, List.drop_succ_cons, List.drop_zero]
  rw [hc rest]
  show some (KE.mk (x.at_.toNat : Int) x.e, (hexS x.at_.toNat).length + 1 + (showE x.e).length) = _
  rw [Int.toNat_of_nonneg h0, show (showK x).length = (hexS x.at_.toNat).length + 1 + (showE x.e).length by simp [showK]; omega]
  cases x; rfl
theorem kidsE_of {ed : List UInt8 → Option (E × Nat)} : ∀ (ws : List KE) (f n : Nat) (rest : List UInt8), (∀ w, w ∈ ws → 0 ≤ w.at_ ∧ w.at_ ≤ 1048576 ∧ CoE ed w.e) → ws.length < f → kidsE ed f n (sepJ n (ws.map showK) ++ 125 :: rest) = some (ws, (sepJ n (ws.map showK)).length)
  | [], f + 1, n, rest, _, _ => by
    have : sepJ n (([] : List KE).map showK) = [] := by unfold sepJ; split <;> rfl
    rw [this, kidsE, if_pos (by rfl)]; rfl
  | w :: ws, f + 1, n, rest, h, hf => by
    have hw := h w (by simp)
    rw [List.map_cons, sepJ_cons, sepJ_tail, kidsE]
    have ih := kidsE_of ws f (n + 1) rest (fun x hx => h x (by simp [hx])) (by simp at hf; omega)
    rw [sepJ_tail] at ih
    have e : ((if n = 0 then [] else [(44 : UInt8)]) ++ (showK w ++ tailJ (ws.map showK))) ++ 125 :: rest = (if n = 0 then [] else [44]) ++ (showK w ++ (tailJ (ws.map showK) ++ 125 :: rest)) := by simp
    rw [e, if_neg]
    · rw [comma_of]
      have hd : ((if n = 0 then [] else [(44 : UInt8)]) ++ (showK w ++ (tailJ (ws.map showK) ++ 125 :: rest))).drop (if n = 0 then 0 else 1) = showK w ++ (tailJ (ws.map showK) ++ 125 :: rest) := by split <;> rfl
      simp only [hd, kidE_of hw, ← List.drop_drop, drop_app, ih]
      by_cases hn : n = 0
      · simp [hn]
      · simp [hn]; omega
    · by_cases hn : n = 0
      · rw [if_pos hn, List.nil_append]
        rw [show showK w ++ (tailJ (ws.map showK) ++ 125 :: rest) = hexS w.at_.toNat ++ ((58 :: showE w.e) ++ (tailJ (ws.map showK) ++ 125 :: rest)) by simp [showK]]
        exact nx_hex _ _ (by decide)
      · rw [if_neg hn]
        show (44 : UInt8) ≠ 125
        decide
theorem sameE_E0 {e : E} (h : sameE e = true) : e = E0 := by
  obtain ⟨k, ⟨ok, ow, ol⟩, ⟨nk, nw, nl⟩, ws, ks, l, os⟩ := e
  simp [sameE, noneT] at h
  obtain ⟨⟨⟨⟨a, ⟨b1, b2⟩, b3⟩, ⟨c1, c2⟩, c3⟩, ⟨d1, d2⟩, d3⟩, e5⟩ := h
  have a' := of_decide_eq_true a
  have b' := of_decide_eq_true b1
  have c' := of_decide_eq_true c1
  have e' := of_decide_eq_true e5
  rw [a', b', b2, b3, c', c2, c3, d1, d2, d3, e']
/-- a step that is read as told -/
def CoO (ed : List UInt8 → Option (E × Nat)) (l : Int) (x : OP) : Prop :=
  (x.kind = 0 ∧ (0 ≤ x.n ∧ x.n ≤ 1048576) ∧ x.l = [] ∧ x.e = E0) ∨ ((x.kind = 1 ∨ x.kind = 2) ∧ x.n = 0 ∧ x.e = E0 ∧ proper 64 (.mk l [] x.l) ∧ rightT 64 (.mk l [] x.l) = true ∧ l ≠ 10) ∨ (x.kind = 3 ∧ x.n = 0 ∧ x.l = [] ∧ CoE ed x.e)
theorem op_eta {x : OP} {k n : Int} {l : List T} {e : E} (h1 : x.kind = k) (h2 : x.n = n) (h3 : x.l = l) (h4 : x.e = e) : x = .mk k n l e := by cases x; simp at h1 h2 h3 h4; rw [h1, h2, h3, h4]
theorem stepE_of {ed : List UInt8 → Option (E × Nat)} {l : Int} {x : OP} (h : CoO ed l x) {rest : List UInt8} (hr : NoDig rest) : stepE38 ed l (showO l x ++ rest) = some (x, (showO l x).length) := by
  rcases h with ⟨hk, ⟨n0, n1⟩, hl, he⟩ | ⟨hk, hn, he, hp, hrt, h10⟩ | ⟨hk, hn, hl, hc⟩
  · have e1 := numE_of (most := 1048576) (n := x.n.toNat) (rest := rest) (by omega) (by omega) hr
    have hs : showO l x = 107 :: hexS x.n.toNat := by unfold showO; rw [if_neg (by omega), if_neg (by omega), if_neg (by omega)]
    rw [hs, List.cons_append]
    unfold stepE38
    rw [if_pos (by rfl)]
    simp only [List.drop_succ_cons, List.drop_zero, e1]
    simp only [Option.some.injEq, Prod.mk.injEq, List.length_cons]
    exact ⟨(op_eta hk (by omega) hl he).symm, by omega⟩
  · have e1 := treeE_of hp hrt (fun h => h10 h.1) rest
    rcases hk with hk | hk
    · have hs : showO l x = 45 :: showT (.mk l [] x.l) := by unfold showO; rw [if_pos hk]
      rw [hs, List.cons_append]
      unfold stepE38
      rw [if_neg (by show ¬ (45 : UInt8) = 107; decide), if_neg (by show ¬ (45 : UInt8) = 42; decide), if_pos (.inl rfl)]
      simp only [List.drop_succ_cons, List.drop_zero, e1]
      rw [if_pos (show (T.mk l [] x.l).kind = l from rfl), if_pos (by rfl)]
      simp only [Option.some.injEq, Prod.mk.injEq, List.length_cons]
      exact ⟨(op_eta hk hn rfl he).symm, by omega⟩
    · have hs : showO l x = 43 :: showT (.mk l [] x.l) := by unfold showO; rw [if_neg (by omega), if_pos hk]
      rw [hs, List.cons_append]
      unfold stepE38
      rw [if_neg (by show ¬ (43 : UInt8) = 107; decide), if_neg (by show ¬ (43 : UInt8) = 42; decide), if_pos (.inr rfl)]
      simp only [List.drop_succ_cons, List.drop_zero, e1]
      rw [if_pos (show (T.mk l [] x.l).kind = l from rfl), if_neg (by show ¬ (43 : UInt8) = 45; decide)]
      simp only [Option.some.injEq, Prod.mk.injEq, List.length_cons]
      exact ⟨(op_eta hk hn rfl he).symm, by omega⟩
  · have hs : showO l x = 42 :: showE x.e := by unfold showO; rw [if_neg (by omega), if_neg (by omega), if_pos hk]
    rw [hs, List.cons_append]
    unfold stepE38
    rw [if_neg (by show ¬ (42 : UInt8) = 107; decide), if_pos (by rfl)]
    simp only [List.drop_succ_cons, List.drop_zero, hc rest]
    simp only [Option.some.injEq, Prod.mk.injEq, List.length_cons]
    exact ⟨(op_eta hk hn hl rfl).symm, by omega⟩
theorem showO_head (l : Int) (x : OP) (r : List UInt8) : nxB (showO l x ++ r) ≠ 93 := by
  unfold showO
  split
  · show (45 : UInt8) ≠ 93; decide
  · split
    · show (43 : UInt8) ≠ 93; decide
    · split
      · show (42 : UInt8) ≠ 93; decide
      · show (107 : UInt8) ≠ 93; decide
theorem stepsE_of {ed : List UInt8 → Option (E × Nat)} {l : Int} : ∀ (ws : List OP) (f n : Nat) (rest : List UInt8), (∀ w, w ∈ ws → CoO ed l w) → ws.length < f → stepsE ed l f n (sepJ n (ws.map (showO l)) ++ 93 :: rest) = some (ws, (sepJ n (ws.map (showO l))).length)
  | [], f + 1, n, rest, _, _ => by
    have : sepJ n (([] : List OP).map (showO l)) = [] := by unfold sepJ; split <;> rfl
    rw [this, stepsE, if_pos (by rfl)]; rfl
  | w :: ws, f + 1, n, rest, h, hf => by
    have hw := h w (by simp)
    rw [List.map_cons, sepJ_cons, sepJ_tail, stepsE]
    have ih := stepsE_of ws f (n + 1) rest (fun x hx => h x (by simp [hx])) (by simp at hf; omega)
    rw [sepJ_tail] at ih
    have e : ((if n = 0 then [] else [(44 : UInt8)]) ++ (showO l w ++ tailJ (ws.map (showO l)))) ++ 93 :: rest = (if n = 0 then [] else [44]) ++ (showO l w ++ (tailJ (ws.map (showO l)) ++ 93 :: rest)) := by simp
    rw [e, if_neg]
    · rw [comma_of]
      have hd : ((if n = 0 then [] else [(44 : UInt8)]) ++ (showO l w ++ (tailJ (ws.map (showO l)) ++ 93 :: rest))).drop (if n = 0 then 0 else 1) = showO l w ++ (tailJ (ws.map (showO l)) ++ 93 :: rest) := by split <;> rfl
      simp only [hd, stepE_of hw (tailJ_noDig (ws.map (showO l)) (c := 93) (by decide) rest), ← List.drop_drop, drop_app, ih]
      by_cases hn : n = 0
      · simp [hn]
      · simp [hn]; omega
    · by_cases hn : n = 0
      · rw [if_pos hn, List.nil_append]
        exact showO_head l w _
      · rw [if_neg hn]
        show (44 : UInt8) ≠ 93
        decide
theorem noneT_T0 {t : T} (h : noneT t = true) : t = T0 := by
  obtain ⟨k, w, l⟩ := t
  simp [noneT] at h
  obtain ⟨⟨a, b⟩, c⟩ := h
  rw [of_decide_eq_true a, b, c]
/-- what a right edit is, by its kind -/
theorem rightE_shape {d : Nat} {k : Int} {o n : T} {ws : List WE} {ks : List KE} {l : Int} {os : List OP} (h : rightE d (.mk k o n ws ks l os) = true) : d ≠ 0 ∧ (k ≠ 1 → o = T0 ∧ n = T0) ∧ (k ≠ 2 → ws = [] ∧ ks = []) ∧ (k ≠ 3 → l = 0 ∧ os = []) ∧ (k = 1 → rightT 64 o = true ∧ rightT 64 n = true ∧ o.kind ≠ 10 ∧ n.kind ≠ 10) := by
  rw [rightE_mk] at h
  split at h
  · cases h
  · rename_i hh
    have hh : headOk d k o n ws.length ks.length l os.length = true := by simpa using hh
    have h0 := hh
    rw [headOk] at hh
    rw [Bool.and_eq_true] at hh
    obtain ⟨h1, h2⟩ := hh
    simp only [Bool.not_eq_true', Bool.or_eq_false_iff, decide_eq_false_iff_not] at h1
    simp only [Bool.not_eq_true', Bool.or_eq_false_iff] at h2
    obtain ⟨⟨a1, a2⟩, a3⟩ := h2
    refine ⟨h1.1.1, fun hk => ?_, fun hk => ?_, fun hk => ?_, fun hk => ?_⟩
    · simp [hk] at a1
      exact ⟨noneT_T0 a1.1, noneT_T0 a1.2⟩
    · rw [decide_eq_false hk] at a2
      simp only [Bool.not_false, Bool.true_and, decide_eq_false_iff_not] at a2
      exact ⟨List.length_eq_zero_iff.1 (by omega), List.length_eq_zero_iff.1 (by omega)⟩
    · rw [decide_eq_false hk] at a3
      simp only [Bool.not_false, Bool.true_and, Bool.or_eq_false_iff, Bool.not_eq_false', decide_eq_true_eq, decide_eq_false_iff_not] at a3
      exact ⟨a3.1, List.length_eq_zero_iff.1 (by omega)⟩
    · rw [if_pos hk] at h
      simp at h
      exact ⟨h.1.1.1, h.1.1.2, h.1.2, h.2⟩
theorem wOk38_le : ∀ {ws : List WE} {last : Int}, wordsOk last ws = true → ∀ w, w ∈ ws → w.at_ ≤ 65534
  | x :: ws, last, h, w, hw => by
    rw [wordsOk, Bool.and_eq_true] at h
    rcases List.mem_cons.1 hw with rfl | hw
    · have := h.1
      unfold wordOk at this
      simp at this
      omega
    · exact wOk38_le h.2 w hw
theorem rightKs_le {d : Nat} : ∀ {ks : List KE} {last : Int}, rightKs d last ks = true → ∀ x, x ∈ ks → x.at_ ≤ 65534
  | y :: ks, last, h, x, hx => by
    rw [rightKs_cons, Bool.and_eq_true, Bool.and_eq_true] at h
    rcases List.mem_cons.1 hx with rfl | hx
    · have := h.1.1
      simp at this
      omega
    · exact rightKs_le h.2 x hx
theorem rightO_co {d : Nat} {l : Int} {os : List OP} {o n : T} {ws : List WE} {ks : List KE} (hr : rightE d (.mk 3 o n ws ks l os) = true) (hl : i64R l) {x : OP} (hx : x ∈ os) (hw : WfO x) {ed : List UInt8 → Option (E × Nat)} (he : x.kind = 3 → CoE ed x.e) (htree : x.kind = 1 ∨ x.kind = 2 → rightT 64 (.mk l [] x.l) = true) : CoO ed l x := by
  obtain ⟨_, _, hp⟩ := rightE_parts hr
  obtain ⟨_, _, hli, hos⟩ := hp (by omega)
  obtain ⟨l2, l9⟩ := hli rfl
  have ho := rightOs_mem hos x hx
  have hn := rightO_n ho
  rw [rightO_eq, Bool.and_eq_true] at ho
  obtain ⟨hf, hd⟩ := ho
  unfold opFlat at hf
  split at hf
  · rename_i h0
    simp at hf
    exact .inl ⟨h0, hn, hf.1.2, sameE_E0 hf.2⟩
  · rename_i h0
    split at hf
    · cases hf
    · rename_i h1
      split at hf
      · rename_i h3
        simp at hf
        have hk : x.kind = 1 ∨ x.kind = 2 := by omega
        have hT : wfT (.mk l [] x.l) := wfT_iff.2 ⟨hl, by simp, by simp, hw.ll, hw.l⟩
        exact .inr (.inl ⟨hk, by omega, sameE_E0 hf.2, right_proper 64 _ hT (htree hk) (by show l ≠ 10; omega), htree hk, by omega⟩)
      · rename_i h3
        have hk : x.kind = 3 := by omega
        rw [if_pos hk] at hd
        simp [opDeep] at hd
        exact .inr (.inr ⟨hk, by omega, hd.1.1.1.1, he hk⟩)
end Go.Proofs.YtebihdhapepejaaDoor

/-
  The document's texts of edits.
-/
namespace Go.Proofs.YtebihdhapepejaaDoor
set_option linter.unusedVariables false
set_option linter.unusedSimpArgs false
set_option maxRecDepth 10000
open Go Go.G Go.Proofs Go.PL
/-! ### the steps' trees -/
theorem lens_ge : ∀ (os : List OP) (n m : Int), (∀ x, x ∈ os → 0 ≤ opLen x) → n ≤ 1048576 → m ≤ 1048576 → n ≤ (lengths n m os).1 ∧ m ≤ (lengths n m os).2
  | [], n, m, _, _, _ => ⟨by simp [lengths], by simp [lengths]⟩
  | x :: os, n, m, h, hn, hm => by
    rw [lengths]
    have hx := h x (by simp)
    have st : ∀ b : Int, sat b ≤ 1048576 := fun b => by unfold sat; split <;> omega
    have sl : ∀ a b : Int, a ≤ b → a ≤ 1048576 → a ≤ sat b := fun a b h1 h2 => by unfold sat; split <;> omega
    obtain ⟨a, b⟩ := lens_ge os (sat (if x.kind ≠ 2 then n + opLen x else n)) (sat (if x.kind ≠ 1 then m + opLen x else m)) (fun y hy => h y (by simp [hy])) (st _) (st _)
    exact ⟨Int.le_trans (sl _ _ (by split <;> omega) hn) a, Int.le_trans (sl _ _ (by split <;> omega) hm) b⟩
theorem lens_lt : ∀ (os : List OP) (n m : Int), (∀ x, x ∈ os → 0 ≤ opLen x) → 0 ≤ n → 0 ≤ m → n ≤ 1048576 → m ≤ 1048576 → (lengths n m os).1 < 1048576 → (lengths n m os).2 < 1048576 → ∀ x, x ∈ os → opLen x < 1048576 := by
  intro os
  induction os with
  | nil => intro n m _ _ _ _ _ _ _ x hx; cases hx
  | cons y os ih =>
    intro n m h hn hm tn tm h1 h2 x hx
    rw [lengths] at h1 h2
    have hy := h y (by simp)
    have hr : ∀ z, z ∈ os → 0 ≤ opLen z := fun z hz => h z (by simp [hz])
    have st : ∀ b : Int, sat b ≤ 1048576 := fun b => by unfold sat; split <;> omega
    have s0 : ∀ b : Int, 0 ≤ b → 0 ≤ sat b := fun b hb => by unfold sat; split <;> omega
    obtain ⟨a, b⟩ := lens_ge os (sat (if y.kind ≠ 2 then n + opLen y else n)) (sat (if y.kind ≠ 1 then m + opLen y else m)) hr (st _) (st _)
    rcases List.mem_cons.1 hx with rfl | hx
    · have e1 := Int.lt_of_le_of_lt a h1
      have e2 := Int.lt_of_le_of_lt b h2
      by_cases k : x.kind = 2
      · rw [if_pos (by omega)] at e2
        unfold sat at e2
        split at e2 <;> omega
      · rw [if_pos k] at e1
        unfold sat at e1
        split at e1 <;> omega
    · exact ih _ _ hr (s0 _ (by split <;> omega)) (s0 _ (by split <;> omega)) (st _) (st _) h1 h2 x hx
theorem opTree_right {l : Int} (h2 : 2 ≤ l) (h9 : l ≤ 9) {L : List T} (h : ∀ t, t ∈ L → rightT 64 (.mk l [] [t]) = true) (hn : L.length < 1048576) : rightT 64 (.mk l [] L) = true := by
  rw [rightT_mk, if_neg (by omega), if_neg (by omega), if_neg, rightL_all]
  · intro t ht
    have := h t ht
    rw [rightT_mk, if_neg (by omega), if_neg (by omega)] at this
    split at this
    · cases this
    · exact rightL_all.1 this t (by simp)
  · unfold tooBig
    simp
    omega
theorem op_tree {d : Nat} {l : Int} {os : List OP} {o n : T} {ws : List WE} {ks : List KE} (h : rightE d (.mk 3 o n ws ks l os) = true) {x : OP} (hx : x ∈ os) (hk : x.kind = 1 ∨ x.kind = 2) : rightT 64 (.mk l [] x.l) = true := by
  obtain ⟨_, _, hp⟩ := rightE_parts h
  obtain ⟨_, _, hl, hos⟩ := hp (by omega)
  obtain ⟨l2, l9⟩ := hl rfl
  have hlen : (lengths 0 0 os).1 < 1048576 ∧ (lengths 0 0 os).2 < 1048576 := by
    rw [rightE_mk] at h
    split at h
    · cases h
    · rw [if_neg (by omega)] at h
      repeat' (split at h; · cases h)
      simp at h
      exact h
  have ho := rightOs_mem hos x hx
  have hnn : ∀ y, y ∈ os → 0 ≤ opLen y := fun y hy => by
    have := (rightO_n (rightOs_mem hos y hy)).1
    unfold opLen; split <;> omega
  have := lens_lt os 0 0 hnn (by omega) (by omega) (by omega) (by omega) hlen.1 hlen.2 x hx
  have hn0 := (rightO_n ho).1
  refine opTree_right l2 l9 (fun t ht => ?_) (by unfold opLen at this; rw [if_neg (by omega)] at this; omega)
  rw [rightO_eq, Bool.and_eq_true] at ho
  have hf := ho.1
  unfold opFlat at hf
  rw [if_neg (by omega)] at hf
  split at hf
  · cases hf
  · rw [if_pos (by omega)] at hf
    simp at hf
    exact hf.1.1 t ht
section
variable {n0 : Nat} {w0 : World} {I0 : Nat → Prop} {Q : Exit → Sta → Prop}
end
end Go.Proofs.YtebihdhapepejaaDoor

/-
  Plain: the program reads what it tells: whole edits.
-/
namespace Go.Proofs.YtebihdhapepejaaDoor
set_option linter.unusedVariables false
set_option linter.unusedSimpArgs false
open Go Go.G Go.Proofs Go.PL
theorem head_of {l : Int} (l2 : 2 ≤ l) (l9 : l ≤ 9) : okP numP ([letS l, 91] ++ [93]) = true ∧ parsed numP ([letS l, 91] ++ [93]) = .mk l [] [] := by
  have hsh : showT (.mk l [] []) = [letS l, 91] ++ [93] := by rw [showT_mk, if_neg (fun e => by simp at e), if_neg (by omega), if_pos ⟨l2, l9⟩]; rfl
  have hw : wfT (.mk l [] []) := wfT_iff.2 ⟨by show i64R l; unfold i64R; omega, by simp, by simp, by simp, by simp⟩
  have hr : rightT 64 (.mk l [] []) = true := opTree_right l2 l9 (by simp) (by simp)
  have hp := right_proper 64 _ hw hr (by show l ≠ 10; omega)
  have := parsed_of numP_R hp hr
  rw [hsh] at this
  exact this
theorem eat_ne {c x : UInt8} (h : x ≠ c) (r : List UInt8) : ¬ eatB (x :: r) c = true := by rw [eatB_cons]; simpa using h
theorem editE_of : ∀ e : E, ∀ d, rightE d e = true → wfE e → CoE (editE d) e := by
  refine E.ind fun k o nn ws ks l os ihk iho d hr hw rest => ?_
  have h := wfE_iff.1 hw
  obtain ⟨hd, hT, hW, hL, hP⟩ := rightE_shape hr
  obtain ⟨k0, k3, hp⟩ := rightE_parts hr
  obtain ⟨d, rfl⟩ : ∃ d', d = d' + 1 := ⟨d - 1, by omega⟩
  rw [Nat.add_sub_cancel] at hp
  rw [showE_mk]
  by_cases c1 : k = 1
  · subst c1
    obtain ⟨r1, r2, n1, n2⟩ := hP rfl
    obtain ⟨rfl, rfl⟩ := hW (by omega)
    obtain ⟨rfl, rfl⟩ := hL (by omega)
    rw [if_pos rfl]
    have p1 := right_proper 64 o h.o r1 n1
    have p2 := right_proper 64 nn h.n r2 n2
    have e1 := treeE_of p1 r1 (fun h => n1 h.1) (62 :: (showT nn ++ 41 :: rest))
    have e2 := treeE_of p2 r2 (fun h => n2 h.1) (41 :: rest)
    have hs : (40 :: (showT o ++ 62 :: (showT nn ++ [41]))) ++ rest = 40 :: (showT o ++ 62 :: (showT nn ++ 41 :: rest)) := by simp
    rw [hs, editE, if_neg (eat_ne (by decide) _), if_pos (by rfl)]
    simp only [List.drop_succ_cons, List.drop_zero]
    unfold replE
    rw [e1]
    simp only [drop_app, must_of, ← List.drop_drop, List.drop_succ_cons, List.drop_zero, e2, plusE]
    simp
    omega
  · rw [if_neg c1]
    obtain ⟨rfl, rfl⟩ := hT c1
    obtain ⟨hwo, hks, hli, hos⟩ := hp c1
    by_cases c2 : k = 2
    · subst c2
      obtain ⟨rfl, rfl⟩ := hL (by omega)
      rw [if_pos rfl]
      have hs : (115 :: 123 :: (joinC (ws.map showW) ++ 124 :: (joinC (ks.map showK) ++ [125]))) ++ rest = 115 :: 123 :: (joinC (ws.map showW) ++ 124 :: (joinC (ks.map showK) ++ 125 :: rest)) := by simp
      rw [hs, editE, if_neg (eat_ne (by decide) _), if_neg (eat_ne (by decide) _), if_pos (by rfl)]
      simp only [List.drop_succ_cons, List.drop_zero]
      have nw := joinC_count (l := ws.map showW)
      have nk := joinC_count (l := ks.map showK)
      simp only [List.length_map] at nw nk
      unfold structE
      rw [must_of]
      simp only [List.drop_succ_cons, List.drop_zero]
      have j1 : ∀ L : List (List UInt8), sepJ 0 L = joinC L := fun L => by unfold sepJ; rw [if_pos rfl]
      have e1 := wordsE_of ws ((123 :: (joinC (ws.map showW) ++ 124 :: (joinC (ks.map showK) ++ 125 :: rest))).length + 1) 0 (joinC (ks.map showK) ++ 125 :: rest) (fun w hw' => ⟨wOk38_at hwo (by omega) w hw', by have := wOk38_le hwo w hw'; omega, h.w w hw'⟩) (by simp; omega)
      rw [j1] at e1
      have e2 := kidsE_of (ed := editE d) ks ((123 :: (joinC (ws.map showW) ++ 124 :: (joinC (ks.map showK) ++ 125 :: rest))).length + 1) 0 rest (fun x hx => ⟨(rightKs_at hks (by omega) x hx).1, by have := rightKs_le hks x hx; omega, ihk x hx d (rightKs_at hks (by omega) x hx).2 (h.ks x hx).2⟩) (by simp; omega)
      rw [j1] at e2
      rw [e1]
      have d1 : (123 :: (joinC (ws.map showW) ++ 124 :: (joinC (ks.map showK) ++ 125 :: rest))).drop (1 + (joinC (ws.map showW)).length) = 124 :: (joinC (ks.map showK) ++ 125 :: rest) := by rw [Nat.add_comm, List.drop_succ_cons, drop_app]
      have d2 : (123 :: (joinC (ws.map showW) ++ 124 :: (joinC (ks.map showK) ++ 125 :: rest))).drop (1 + (joinC (ws.map showW)).length + 1) = joinC (ks.map showK) ++ 125 :: rest := by rw [← List.drop_drop, d1]; rfl
      have d3 : (123 :: (joinC (ws.map showW) ++ 124 :: (joinC (ks.map showK) ++ 125 :: rest))).drop (1 + (joinC (ws.map showW)).length + 1 + (joinC (ks.map showK)).length) = 125 :: rest := by rw [← List.drop_drop, d2, drop_app]
      have d4 : (joinC (ws.map showW) ++ 124 :: (joinC (ks.map showK) ++ 125 :: rest)).drop (1 + (joinC (ws.map showW)).length) = joinC (ks.map showK) ++ 125 :: rest := by rw [Nat.add_comm, ← List.drop_drop, drop_app]; rfl
      simp only [d1, d2, d3, d4, must_of, e2, plusE]
      refine congrArg some (Prod.ext rfl ?_)
      simp only [List.length_cons, List.length_append, List.length_nil]
      omega
    · rw [if_neg c2]
      obtain ⟨rfl, rfl⟩ := hW c2
      by_cases c3 : k = 3
      · subst c3
        rw [if_pos rfl]
        obtain ⟨l2, l9⟩ := hli rfl
        obtain ⟨q1, q2⟩ := head_of l2 l9
        have hs : (108 :: letS l :: 91 :: (joinC (os.map (showO l)) ++ [93])) ++ rest = 108 :: letS l :: 91 :: (joinC (os.map (showO l)) ++ 93 :: rest) := by simp
        rw [hs, editE, if_neg (eat_ne (by decide) _), if_neg (eat_ne (by decide) _), if_neg (eat_ne (by decide) _), if_pos (by rfl)]
        simp only [List.drop_succ_cons, List.drop_zero]
        have no := joinC_count (l := os.map (showO l))
        simp only [List.length_map] at no
        have j1 : ∀ L : List (List UInt8), sepJ 0 L = joinC L := fun L => by unfold sepJ; rw [if_pos rfl]
        have e1 := stepsE_of (ed := editE d) (l := l) os ((letS l :: 91 :: (joinC (os.map (showO l)) ++ 93 :: rest)).length + 1) 0 rest (fun x hx => rightO_co hr h.l hx (h.os x hx) (fun hk => iho x hx d (rightO_e (rightOs_mem hos x hx) hk) (h.os x hx).e) (fun hk => op_tree hr hx hk)) (by simp; omega)
        rw [j1] at e1
        have t2 : (letS l :: 91 :: (joinC (os.map (showO l)) ++ 93 :: rest)).take 2 = [letS l, 91] := rfl
        unfold listE38
        rw [t2, q1, q2, if_pos ⟨by simp, rfl⟩]
        simp only [List.drop_succ_cons, List.drop_zero]
        rw [show (T.mk l [] []).kind = l from rfl, e1]
        have d1 : (letS l :: 91 :: (joinC (os.map (showO l)) ++ 93 :: rest)).drop (2 + (joinC (os.map (showO l))).length) = 93 :: rest := by rw [← List.drop_drop]; exact drop_app
        simp only [d1, must_of, plusE]
        simp
        omega
      · rw [if_neg c3]
        obtain ⟨rfl, rfl⟩ := hL c3
        have : k = 0 := by omega
        subst this
        rfl
end Go.Proofs.YtebihdhapepejaaDoor

/-
  The reader of edits' texts: trees.
-/
namespace Go.Proofs.YtebihdhapepejaaDoor
set_option linter.unusedVariables false
set_option linter.unusedSimpArgs false
open Go Go.G Go.Proofs Go.PL
section
variable {φ : Prop} {n0 : Nat} {w0 : World} {I0 : Nat → Prop} {M0 : Nm → Nat → Prop} {m0 : Mu} {Q : Exit → Sta → Prop}
set_option maxHeartbeats 4000000 in
theorem etree_l1 {s : List UInt8} (hs : s.length ≤ 1000000000) {k0 : Nat} {O1 : VOb} : ∀ (r : List UInt8) (k o : Nat) (H : Hp), s.drop k = r → k ≤ s.length → o ≤ k → (∀ p, H (0 :: p) = (psF s k).F 0 p) → H [1] = O1 →
    (∀ (H' : Hp) (x y : A), (∀ p, H' (0 :: p) = (psF s (k + scanT o r)).F 0 p) → H' [1] = O1 → Q (.exit 0) ⟨lk [(0, pp 0), (2, .pob [1] 1 0), (3, iv k0), (4, x), (14, y)], H'⟩) →
    (∀ (H' : Hp) (x y : A), (∀ p, H' (0 :: p) = (psF s (k + scanT o r)).F 0 p) → H' [1] = O1 → Q (.exit 0) ⟨lk [(0, pp 0), (2, .pob [1] 1 0), (3, iv k0), (4, x), (38, y)], H'⟩) →
    LoopC (cxd wrT φ Tryd.prog w0 I0 M0 n0 m0) l1_etext_tree Q ⟨lk [(0, pp 0), (2, .pob [1] 1 0), (3, iv k0), (4, iv o)], H⟩ := by
  intro r
  induction r with
  | nil =>
    intro k o H hr hk ho hH h1 hq hq2
    have hke : k = s.length := by
      have := congrArg List.length hr
      simp at this; omega
    have hn := nextE_spec s k hk
    rw [hr] at hn
    rw [show nxB ([] : List UInt8) = 0 from rfl] at hn
    refine loopC_once mixed l1_etext_tree.eq_1 ?_
    simp
    refine sc_fam 0 hn hH (by simp) (by simp) ?_
    simp
    exact hq _ _ _ (fun p => by simp [scanT]) (by simp [h1])
  | cons c r ih =>
    intro k o H hr hk ho hH h1 hq hq2
    have hlt : k < s.length := by
      have := congrArg List.length hr
      simp at this; omega
    have hx : s[k] = c := by
      rw [drop_get hlt] at hr
      exact (List.cons.inj hr).1
    have hr' : s.drop (k + 1) = r := by
      rw [drop_get hlt] at hr
      exact (List.cons.inj hr).2
    have hn := nextE_spec s k hk
    rw [nxB_at hlt, hx] at hn
    have e1 : IntKind.i64.wrap ((k : Int) + 1) = ((k + 1 : Nat) : Int) := by rw [i64_same (by omega) (by omega)]; omega
    refine loopC_once mixed l1_etext_tree.eq_1 ?_
    by_cases c0 : c = 0
    · subst c0
      simp
      refine sc_fam 0 hn hH (by simp) (by simp) ?_
      simp
      exact hq _ _ _ (fun p => by simp [scanT]) (by simp [h1])
    by_cases c123 : c = 123
    · subst c123
      simp
      refine sc_fam 0 hn hH (by simp) (by simp) ?_
      simp
      refine sc_fam 0 hn (fun p => by simp) (by simp) (by simp) ?_
      simp [e1]
      rw [k1_etext_tree.eq_1]
      have e2 : IntKind.i64.wrap ((o : Int) + 1) = ((o + 1 : Nat) : Int) := by rw [i64_same (by omega) (by omega)]; omega
      have e3 : scanT o (123 :: r) = 1 + scanT (o + 1) r := by rw [scanT]; simp
      rw [e3] at hq hq2
      simp [e2, show ¬ ((o : Int) + 1 ≤ 0) by omega]
      refine LoopC.le (le_list [(0, pp 0), (2, .pob [1] 1 0), (3, iv k0), (4, iv ((o + 1) : Nat))] (by simp)) ?_
      exact ih (k + 1) (o + 1) _ hr' (by omega) (by omega) (fun p => by by_cases hp : p = [] <;> simp [hp, updF_app]) (by simp [updF_app, h1]) (fun H' x y g => hq H' x y (fun p => by rw [← Nat.add_assoc]; exact g p)) (fun H' x y g => hq2 H' x y (fun p => by rw [← Nat.add_assoc]; exact g p))
    by_cases c91 : c = 91
    · subst c91
      simp
      refine sc_fam 0 hn hH (by simp) (by simp) ?_
      simp
      refine sc_fam 0 hn (fun p => by simp) (by simp) (by simp) ?_
      simp [e1]
      rw [k1_etext_tree.eq_1]
      have e2 : IntKind.i64.wrap ((o : Int) + 1) = ((o + 1 : Nat) : Int) := by rw [i64_same (by omega) (by omega)]; omega
      have e3 : scanT o (91 :: r) = 1 + scanT (o + 1) r := by rw [scanT]; simp
      rw [e3] at hq hq2
      simp [e2, show ¬ ((o : Int) + 1 ≤ 0) by omega]
      refine LoopC.le (le_list [(0, pp 0), (2, .pob [1] 1 0), (3, iv k0), (4, iv ((o + 1) : Nat))] (by simp)) ?_
      exact ih (k + 1) (o + 1) _ hr' (by omega) (by omega) (fun p => by by_cases hp : p = [] <;> simp [hp, updF_app]) (by simp [updF_app, h1]) (fun H' x y g => hq H' x y (fun p => by rw [← Nat.add_assoc]; exact g p)) (fun H' x y g => hq2 H' x y (fun p => by rw [← Nat.add_assoc]; exact g p))
    by_cases c125 : c = 125
    · subst c125
      simp
      refine sc_fam 0 hn hH (by simp) (by simp) ?_
      simp
      refine sc_fam 0 hn (fun p => by simp) (by simp) (by simp) ?_
      simp [e1]
      rw [k1_etext_tree.eq_1]
      have e2 : IntKind.i64.wrap ((o : Int) - 1) = (o : Int) - 1 := i64_same (by omega) (by omega)
      have e3 : scanT o (125 :: r) = if o ≤ 1 then 1 else 1 + scanT (o - 1) r := by rw [scanT]; simp
      rw [e3] at hq hq2
      by_cases ho1 : o ≤ 1
      · rw [if_pos ho1] at hq hq2
        simp [e2, show (o : Int) - 1 ≤ 0 by omega, show (o : Int) ≤ 1 by omega]
        exact hq2 _ _ _ (fun p => by by_cases hp : p = [] <;> simp [hp, updF_app]) (by simp [updF_app, h1])
      · rw [if_neg ho1] at hq hq2
        simp [e2, show ¬ ((o : Int) - 1 ≤ 0) by omega, show ¬ ((o : Int) ≤ 1) by omega]
        have e4 : (o : Int) - 1 = ((o - 1 : Nat) : Int) := by omega
        rw [e4]
        refine LoopC.le (le_list [(0, pp 0), (2, .pob [1] 1 0), (3, iv k0), (4, iv ((o - 1) : Nat))] (by simp)) ?_
        exact ih (k + 1) (o - 1) _ hr' (by omega) (by omega) (fun p => by by_cases hp : p = [] <;> simp [hp, updF_app]) (by simp [updF_app, h1]) (fun H' x y g => hq H' x y (fun p => by rw [← Nat.add_assoc]; exact g p)) (fun H' x y g => hq2 H' x y (fun p => by rw [← Nat.add_assoc]; exact g p))
    by_cases c93 : c = 93
    · subst c93
      simp
      refine sc_fam 0 hn hH (by simp) (by simp) ?_
      simp
      refine sc_fam 0 hn (fun p => by simp) (by simp) (by simp) ?_
      simp [e1]
      rw [k1_etext_tree.eq_1]
      have e2 : IntKind.i64.wrap ((o : Int) - 1) = (o : Int) - 1 := i64_same (by omega) (by omega)
      have e3 : scanT o (93 :: r) = if o ≤ 1 then 1 else 1 + scanT (o - 1) r := by rw [scanT]; simp
      rw [e3] at hq hq2
      by_cases ho1 : o ≤ 1
      · rw [if_pos ho1] at hq hq2
        simp [e2, show (o : Int) - 1 ≤ 0 by omega, show (o : Int) ≤ 1 by omega]
        exact hq2 _ _ _ (fun p => by by_cases hp : p = [] <;> simp [hp, updF_app]) (by simp [updF_app, h1])
      · rw [if_neg ho1] at hq hq2
        simp [e2, show ¬ ((o : Int) - 1 ≤ 0) by omega, show ¬ ((o : Int) ≤ 1) by omega]
        have e4 : (o : Int) - 1 = ((o - 1 : Nat) : Int) := by omega
        rw [e4]
        refine LoopC.le (le_list [(0, pp 0), (2, .pob [1] 1 0), (3, iv k0), (4, iv ((o - 1) : Nat))] (by simp)) ?_
        exact ih (k + 1) (o - 1) _ hr' (by omega) (by omega) (fun p => by by_cases hp : p = [] <;> simp [hp, updF_app]) (by simp [updF_app, h1]) (fun H' x y g => hq H' x y (fun p => by rw [← Nat.add_assoc]; exact g p)) (fun H' x y g => hq2 H' x y (fun p => by rw [← Nat.add_assoc]; exact g p))
    by_cases c95 : c = 95
    · subst c95
      simp
      refine sc_fam 0 hn hH (by simp) (by simp) ?_
      simp
      refine sc_fam 0 hn (fun p => by simp) (by simp) (by simp) ?_
      simp [e1]
      rw [k1_etext_tree.eq_1]
      have e3 : scanT o (95 :: r) = if o = 0 then 1 else 1 + scanT o r := by rw [scanT]; simp
      rw [e3] at hq hq2
      by_cases ho1 : o = 0
      · rw [if_pos ho1] at hq hq2
        simp [show (o : Int) ≤ 0 by omega, ho1]
        exact hq2 _ _ _ (fun p => by by_cases hp : p = [] <;> simp [hp, updF_app]) (by simp [updF_app, h1])
      · rw [if_neg ho1] at hq hq2
        simp [show ¬ ((o : Int) ≤ 0) by omega, ho1]
        refine LoopC.le (le_list [(0, pp 0), (2, .pob [1] 1 0), (3, iv k0), (4, iv (o : Nat))] (by simp)) ?_
        exact ih (k + 1) o _ hr' (by omega) (by omega) (fun p => by by_cases hp : p = [] <;> simp [hp, updF_app]) (by simp [updF_app, h1]) (fun H' x y g => hq H' x y (fun p => by rw [← Nat.add_assoc]; exact g p)) (fun H' x y g => hq2 H' x y (fun p => by rw [← Nat.add_assoc]; exact g p))
    have ne : ∀ v : UInt8, c ≠ v → ¬ (c.toNat : Int) = v.toNat ∧ ¬ c.toNat = v.toNat := fun v h => ⟨fun e => h (u8_inj.1 e), fun e => h (UInt8.toNat_inj.1 e)⟩
    have f0 := ne 0 c0
    have f1 := ne 123 c123
    have f2 := ne 91 c91
    have f3 := ne 125 c125
    have f4 := ne 93 c93
    have f5 := ne 95 c95
    simp at f0 f1 f2 f3 f4 f5
    have e3 : scanT o (c :: r) = 1 + scanT o r := by rw [scanT]; simp [c0, c123, c91, c125, c93, c95]
    rw [e3] at hq hq2
    simp
    refine sc_fam 0 hn hH (by simp) (by simp) ?_
    simp [f0, c0]
    refine sc_fam 0 hn (fun p => by simp) (by simp) (by simp) ?_
    simp [e1]
    rw [k1_etext_tree.eq_1]
    simp [f1, f2, f3, f4, f5, c123, c91, c125, c93, c95]
    refine LoopC.le (le_list [(0, pp 0), (2, .pob [1] 1 0), (3, iv k0), (4, iv (o : Nat))] (by simp)) ?_
    exact ih (k + 1) o _ hr' (by omega) (by omega) (fun p => by by_cases hp : p = [] <;> simp [hp, updF_app]) (by simp [updF_app, h1]) (fun H' x y g => hq H' x y (fun p => by rw [← Nat.add_assoc]; exact g p)) (fun H' x y g => hq2 H' x y (fun p => by rw [← Nat.add_assoc]; exact g p))
end
theorem famA_tE (t : T) : FamA (fun _ => tX t) := famA_bare (cs := [iv t.kind, uws t.words, tKs t.kids]) rfl fun x hx => by simp at hx; rcases hx with rfl | rfl | rfl <;> rfl
set_option maxHeartbeats 1000000 in
theorem etree_spec {s : List UInt8} (hs : s.length ≤ 1000000000) (k : Nat) (hk : k ≤ s.length) : OutF wrT Tryd.prog 18 (fun r => [pp r]) (psF s k) (outO tX s k (treeE (s.drop k))) := by
  refine outF_of t_etext_tree (by simp) (famL_cons famA_pob famL_nil) (outO_fam famA_tE) fun w0 I0 M0 m0 => ?_
  have hle := scanT_le (s.drop k) 0
  rw [List.length_drop] at hle
  unfold c_etext_tree
  simp
  refine LoopC.le (le_list [(0, pp 0), (2, .pob [1] 1 0), (3, iv k), (4, iv (0 : Nat))] (by simp)) ?_
  have k2 : ∀ H' : Hp, (∀ p, H' (0 :: p) = (psF s (k + scanT 0 (s.drop k))).F 0 p) → H' [1] = ⟨1, .cells [iv 0, .sl true [], .sl true []]⟩ →
      WPC (cxd wrT (outO tX s k (treeE (s.drop k)) = none) Tryd.prog w0 I0 M0 57 m0) k2_etext_tree (RetO (cxd wrT (outO tX s k (treeE (s.drop k)) = none) Tryd.prog w0 I0 M0 57 m0) [.cell 2 25] (outO tX s k (treeE (s.drop k)))) ⟨lk [(0, pp 0), (2, .pob [1] 1 0), (3, iv k)], H'⟩ := fun H' g g1 => by
    unfold treeE
    obtain ⟨n, hn⟩ : ∃ n, n = scanT 0 (s.drop k) := ⟨_, rfl⟩
    rw [← hn] at hle g ⊢
    have hp := parse_spec (s := (s.drop k).take n) (by simp; omega)
    have c1 : (0 ≤ (k : Int) + n ∧ (k : Int) + n ≤ s.length) = True := eq_true (by omega)
    have c2 : ((k : Int) + n).toNat = k + n := by omega
    rw [k2_etext_tree.eq_1]
    simp [g, c1, c2, show (k : Int) ≤ (k : Int) + n by omega]
    refine sc_call hp rfl ?_
    generalize hT : parsed numP ((s.drop k).take n) = T
    cases hok : okP numP ((s.drop k).take n) with
    | false =>
      simp
      refine sc_famX (.tup []) 0 (fail_spec (psF s (k + n))) ⟨rfl, by simp⟩ (fun p => by simp [g, updF_app]) (by simp) (by simp) ?_
      simp
      exact stop_dead (dead_of 0 (by simp [dead_F]))
    | true =>
      simp
      refine stop_go ?_
      simp [g1, RetO, updF_app]
      exact reth_fam (r0 := tX T) (by simp [resA]) rfl (fun p => by simp [g, updF_app])
  exact etree_l1 (O1 := ⟨1, .cells [iv 0, .sl true [], .sl true []]⟩) hs (s.drop k) k 0 _ rfl hk (by omega) (fun p => by simp) (by simp) (fun H' x y g g1 => by simp; exact k2 H' g g1) (fun H' x y g g1 => by simp; exact k2 H' g g1)
end Go.Proofs.YtebihdhapepejaaDoor

/-
  The reader of edits' texts: the words of a struct's edit.
-/
namespace Go.Proofs.YtebihdhapepejaaDoor
set_option linter.unusedVariables false
set_option linter.unusedSimpArgs false
open Go Go.G Go.Proofs Go.PL
def outM (s : List UInt8) (k : Nat) (o : Option Nat) : Option ((Nat → A) × Fam) := o.map fun n => (fun _ => .tup [], psF s (k + n))
theorem mustO_eq {s : List UInt8} {k : Nat} {c : UInt8} : mustO s k c = outM s k (mustE c (s.drop k)) := by
  unfold mustO mustE outM
  split <;> rfl
theorem commaO_eq {s : List UInt8} {k n : Nat} : commaO s k n = outM s k (commaE n (s.drop k)) := by
  unfold commaO commaE
  split
  · rfl
  · exact mustO_eq
theorem must_at {s : List UInt8} {k : Nat} {c : UInt8} (hk : k ≤ s.length) (hs : s.length ≤ 1000000000) (hc : c ≠ 0) : OutF wrT Tryd.prog 19 (fun r => [pp r, u8v c]) (psF s k) (outM s k (mustE c (s.drop k))) := by
  rw [← mustO_eq]; exact must_spec s k c hk hs hc
theorem comma_at {s : List UInt8} {k n : Nat} (hk : k ≤ s.length) (hs : s.length ≤ 1000000000) : OutF wrT Tryd.prog 35 (fun r => [pp r, iv n]) (psF s k) (outM s k (commaE n (s.drop k))) := by
  rw [← commaO_eq]; exact comma_spec s k n hk hs
theorem wordE_at (s : List UInt8) (p : Nat) : wordE (s.drop p) = match numE 1048576 (s.drop p) with
  | none => none
  | some (a, k1) => match mustE 58 (s.drop (p + k1)) with
    | none => none
    | some _ => match numE 255 (s.drop (p + k1 + 1)) with
      | none => none
      | some (m, k2) => match mustE 58 (s.drop (p + k1 + 1 + k2)) with
        | none => none
        | some _ => match numE 18446744073709551615 (s.drop (p + k1 + 1 + k2 + 1)) with
          | none => none
          | some (o, k3) => match mustE 58 (s.drop (p + k1 + 1 + k2 + 1 + k3)) with
            | none => none
            | some _ => match numE 18446744073709551615 (s.drop (p + k1 + 1 + k2 + 1 + k3 + 1)) with
              | none => none
              | some (w, k4) => some (⟨a, m, o, w⟩, k1 + 1 + k2 + 1 + k3 + 1 + k4) := by
  unfold wordE
  simp only [List.drop_drop, Nat.add_assoc]
  rfl
theorem wordsE_at (s : List UInt8) (f n k : Nat) : wordsE (f + 1) n (s.drop k) = if nxB (s.drop k) = 124 then some ([], 0) else match commaE n (s.drop k) with
    | none => none
    | some k0 => match wordE (s.drop (k + k0)) with
      | none => none
      | some (w, k1) => match wordsE f (n + 1) (s.drop (k + k0 + k1)) with
        | none => none
        | some (ws, k2) => some (w :: ws, k0 + k1 + k2) := by
  rw [wordsE]
  simp only [List.drop_drop, Nat.add_assoc]
  rfl
/-- an edit's cells while it is read -/
def sE (W K : A) : List A := [iv 2, iv 0, .sl true [], .sl true [], iv 0, .sl true [], .sl true [], W, K, iv 0, .sl true []]
section
variable {φ : Prop} {n0 : Nat} {w0 : World} {I0 : Nat → Prop} {M0 : Nm → Nat → Prop} {m0 : Mu} {Q : Exit → Sta → Prop}
set_option maxHeartbeats 8000000 in
theorem ews_l1 {s : List UInt8} (hs : s.length ≤ 1000000000) {a1 : A} {O1 : VOb} {K : A} : ∀ (f k v : Nat) (acc : List WE) (H : Hp), k ≤ s.length → s.length - k < f → acc.length ≤ k → (∀ p, H (0 :: p) = (psF s k).F 0 p) → H [1] = O1 → H [2] = ⟨1, .cells (sE (.osl [4] v 4 0 acc.length) K)⟩ → H [4] = ⟨v, .arr 4 (acc.map wX)⟩ →
    (wordsE f acc.length (s.drop k) = none → φ) →
    (∀ (ws : List WE) (n : Nat), wordsE f acc.length (s.drop k) = some (ws, n) → ∀ (H' : Hp) (v' : Nat), (∀ p, H' (0 :: p) = (psF s (k + n)).F 0 p) → H' [1] = O1 → H' [2] = ⟨1, .cells (sE (.osl [4] v' 4 0 (acc ++ ws).length) K)⟩ → H' [4] = ⟨v', .arr 4 ((acc ++ ws).map wX)⟩ →
      Q (.exit 0) ⟨lk [(0, pp 0), (1, a1), (4, .pob [1] 1 0), (5, .pob [2] 1 0), (13, bv false)], H'⟩) →
    LoopC (cxd wrT φ Tryd.prog w0 I0 M0 n0 m0) l1_etext_structure Q ⟨lk [(0, pp 0), (1, a1), (4, .pob [1] 1 0), (5, .pob [2] 1 0)], H⟩ := by
  intro f
  induction f with
  | zero => intro k v acc H hk hf; omega
  | succ f ih =>
    intro k v acc H hk hf hac hH h1 h2 h4 hφ hq
    have hn := nextE_spec s k hk
    refine loopC_once mixed l1_etext_structure.eq_1 ?_
    simp
    refine sc_fam 0 hn hH (by simp) (by simp) ?_
    by_cases hx : nxB (s.drop k) = 124
    · rw [hx]
      simp
      exact hq [] 0 (by unfold wordsE; rw [if_pos hx]) _ v (fun p => by simp) (by simp [h1]) (by simp [h2]) (by simp [h4])
    · have hx1 : ¬ ((nxB (s.drop k)).toNat : Int) = 124 := fun e => hx ((u8_inj (b := 124)).1 e)
      have hx2 : ¬ (nxB (s.drop k)).toNat = 124 := fun e => hx1 (by omega)
      simp [hx1, hx2, hx]
      have t0 := comma_at (n := acc.length) hk hs
      have hdl : (s.drop k).length = s.length - k := by simp
      simp [h2, sE]
      cases e0 : commaE acc.length (s.drop k) with
      | none =>
        rw [e0] at t0
        refine sc_famX (.tup []) 0 t0 ⟨rfl, hφ (by rw [wordsE_at, if_neg hx, e0])⟩ (fun p => by simp) (by simp) (by simp) ?_
        simp
        exact stop_dead (dead_of 0 (by simp [dead_F]))
      | some k0 =>
        rw [e0] at t0
        have b0 := commaE_le e0
        rw [hdl] at b0
        refine sc_fam 0 t0 (fun p => by simp) (by simp) (by simp) ?_
        simp
        refine stop_go ?_
        simp
        have t1 := esmall_spec hs (k + k0) (by omega)
        cases e1 : numE 1048576 (s.drop (k + k0)) with
        | none =>
          rw [e1] at t1
          refine sc_famX (iv 0) 0 t1 ⟨rfl, hφ (by rw [wordsE_at, if_neg hx, e0]; simp only; rw [wordE_at, e1])⟩ (fun p => by simp) (by simp) (by simp) ?_
          simp [updF_app]
          exact stop_dead (dead_of 0 (by simp [dead_F]))
        | some q1 =>
          obtain ⟨a, k1⟩ := q1
          rw [e1] at t1
          have b1 := numE_le e1
          simp only [List.length_drop] at b1
          refine sc_fam 0 t1 (fun p => by simp [updF_app]) (by simp) (by simp) ?_
          simp [updF_app]
          refine stop_go ?_
          simp
          have t2 := must_at (s := s) (k := k + k0 + k1) (c := 58) (by omega) hs (by decide)
          cases e2 : mustE 58 (s.drop (k + k0 + k1)) with
          | none =>
            rw [e2] at t2
            refine sc_famX (.tup []) 0 t2 ⟨rfl, hφ (by rw [wordsE_at, if_neg hx, e0]; simp only; rw [wordE_at, e1]; simp only; rw [e2])⟩ (fun p => by simp) (by simp) (by simp) ?_
            simp [updF_app]
            exact stop_dead (dead_of 0 (by simp [dead_F]))
          | some n2 =>
            rw [e2] at t2
            obtain ⟨rfl, b2⟩ := mustE_le e2
            simp only [List.length_drop] at b2
            refine sc_fam 0 t2 (fun p => by simp [updF_app]) (by simp) (by simp) ?_
            simp [updF_app]
            refine stop_go ?_
            simp
            have t3 := enumb_spec hs (k + k0 + k1 + 1) 255 (by omega) (by omega)
            cases e3 : numE 255 (s.drop (k + k0 + k1 + 1)) with
            | none =>
              rw [e3] at t3
              refine sc_famX (uv 0) 0 t3 ⟨rfl, hφ (by rw [wordsE_at, if_neg hx, e0]; simp only; rw [wordE_at, e1]; simp only; rw [e2]; simp only; rw [e3])⟩ (fun p => by simp) (by simp) (by simp) ?_
              simp [updF_app]
              exact stop_dead (dead_of 0 (by simp [dead_F]))
            | some q3 =>
              obtain ⟨m, k2⟩ := q3
              rw [e3] at t3
              have b3 := numE_le e3
              simp only [List.length_drop] at b3
              refine sc_fam 0 t3 (fun p => by simp [updF_app]) (by simp) (by simp) ?_
              simp [updF_app]
              refine stop_go ?_
              simp
              have t4 := must_at (s := s) (k := k + k0 + k1 + 1 + k2) (c := 58) (by omega) hs (by decide)
              cases e4 : mustE 58 (s.drop (k + k0 + k1 + 1 + k2)) with
              | none =>
                rw [e4] at t4
                refine sc_famX (.tup []) 0 t4 ⟨rfl, hφ (by rw [wordsE_at, if_neg hx, e0]; simp only; rw [wordE_at, e1]; simp only; rw [e2]; simp only; rw [e3]; simp only; rw [e4])⟩ (fun p => by simp) (by simp) (by simp) ?_
                simp [updF_app]
                exact stop_dead (dead_of 0 (by simp [dead_F]))
              | some n4 =>
                rw [e4] at t4
                obtain ⟨rfl, b4⟩ := mustE_le e4
                simp only [List.length_drop] at b4
                refine sc_fam 0 t4 (fun p => by simp [updF_app]) (by simp) (by simp) ?_
                simp [updF_app]
                refine stop_go ?_
                simp
                have t5 := enumb_spec hs (k + k0 + k1 + 1 + k2 + 1) 18446744073709551615 (by omega) (by omega)
                cases e5 : numE 18446744073709551615 (s.drop (k + k0 + k1 + 1 + k2 + 1)) with
                | none =>
                  rw [e5] at t5
                  refine sc_famX (uv 0) 0 t5 ⟨rfl, hφ (by rw [wordsE_at, if_neg hx, e0]; simp only; rw [wordE_at, e1]; simp only; rw [e2]; simp only; rw [e3]; simp only; rw [e4]; simp only; rw [e5])⟩ (fun p => by simp) (by simp) (by simp) ?_
                  simp [updF_app]
                  exact stop_dead (dead_of 0 (by simp [dead_F]))
                | some q5 =>
                  obtain ⟨o, k3⟩ := q5
                  rw [e5] at t5
                  have b5 := numE_le e5
                  simp only [List.length_drop] at b5
                  refine sc_fam 0 t5 (fun p => by simp [updF_app]) (by simp) (by simp) ?_
                  simp [updF_app]
                  refine stop_go ?_
                  simp
                  have t6 := must_at (s := s) (k := k + k0 + k1 + 1 + k2 + 1 + k3) (c := 58) (by omega) hs (by decide)
                  cases e6 : mustE 58 (s.drop (k + k0 + k1 + 1 + k2 + 1 + k3)) with
                  | none =>
                    rw [e6] at t6
                    refine sc_famX (.tup []) 0 t6 ⟨rfl, hφ (by rw [wordsE_at, if_neg hx, e0]; simp only; rw [wordE_at, e1]; simp only; rw [e2]; simp only; rw [e3]; simp only; rw [e4]; simp only; rw [e5]; simp only; rw [e6])⟩ (fun p => by simp) (by simp) (by simp) ?_
                    simp [updF_app]
                    exact stop_dead (dead_of 0 (by simp [dead_F]))
                  | some n6 =>
                    rw [e6] at t6
                    obtain ⟨rfl, b6⟩ := mustE_le e6
                    simp only [List.length_drop] at b6
                    refine sc_fam 0 t6 (fun p => by simp [updF_app]) (by simp) (by simp) ?_
                    simp [updF_app]
                    refine stop_go ?_
                    simp
                    have t7 := enumb_spec hs (k + k0 + k1 + 1 + k2 + 1 + k3 + 1) 18446744073709551615 (by omega) (by omega)
                    cases e7 : numE 18446744073709551615 (s.drop (k + k0 + k1 + 1 + k2 + 1 + k3 + 1)) with
                    | none =>
                      rw [e7] at t7
                      refine sc_famX (uv 0) 0 t7 ⟨rfl, hφ (by rw [wordsE_at, if_neg hx, e0]; simp only; rw [wordE_at, e1]; simp only; rw [e2]; simp only; rw [e3]; simp only; rw [e4]; simp only; rw [e5]; simp only; rw [e6]; simp only; rw [e7])⟩ (fun p => by simp) (by simp) (by simp) ?_
                      simp [updF_app]
                      exact stop_dead (dead_of 0 (by simp [dead_F]))
                    | some q7 =>
                      obtain ⟨w, k4⟩ := q7
                      rw [e7] at t7
                      have b7 := numE_le e7
                      simp only [List.length_drop] at b7
                      refine sc_fam 0 t7 (fun p => by simp [updF_app]) (by simp) (by simp) ?_
                      simp [updF_app]
                      refine stop_go ?_
                      simp
                      have hw : wordE (s.drop (k + k0)) = some (⟨a, m, o, w⟩, k1 + 1 + k2 + 1 + k3 + 1 + k4) := by rw [wordE_at, e1]; simp only; rw [e2]; simp only; rw [e3]; simp only; rw [e4]; simp only; rw [e5]; simp only; rw [e6]; simp only; rw [e7]
                      obtain ⟨w1, w2, _⟩ := wordE_le hw
                      simp only [List.length_drop] at w2
                      have e9 : IntKind.u8.wrap (m : Int) = m := u8_same (by omega) (by omega)
                      simp [updF_app, h2, h4, sE, splice, e9]
                      refine ⟨by omega, ?_⟩
                      have ew : ∀ ws n, wordsE f (acc ++ [(⟨a, m, o, w⟩ : WE)]).length (s.drop (k + k0 + k1 + 1 + k2 + 1 + k3 + 1 + k4)) = some (ws, n) → wordsE (f + 1) acc.length (s.drop k) = some (⟨a, m, o, w⟩ :: ws, k0 + (k1 + 1 + k2 + 1 + k3 + 1 + k4) + n) := fun ws n h => by
                        rw [wordsE_at, if_neg hx, e0]; simp only; rw [hw]; simp only
                        rw [show k + k0 + (k1 + 1 + k2 + 1 + k3 + 1 + k4) = k + k0 + k1 + 1 + k2 + 1 + k3 + 1 + k4 by omega]
                        rw [List.length_append, List.length_singleton] at h
                        rw [h]
                      have ew2 : wordsE f (acc ++ [(⟨a, m, o, w⟩ : WE)]).length (s.drop (k + k0 + k1 + 1 + k2 + 1 + k3 + 1 + k4)) = none → wordsE (f + 1) acc.length (s.drop k) = none := fun h => by
                        rw [wordsE_at, if_neg hx, e0]; simp only; rw [hw]; simp only
                        rw [show k + k0 + (k1 + 1 + k2 + 1 + k3 + 1 + k4) = k + k0 + k1 + 1 + k2 + 1 + k3 + 1 + k4 by omega]
                        rw [List.length_append, List.length_singleton] at h
                        rw [h]
                      refine ih (k + k0 + k1 + 1 + k2 + 1 + k3 + 1 + k4) (v + 1) (acc ++ [⟨a, m, o, w⟩]) _ (by omega) (by omega) (by simp; omega) (fun p => by simp) (by simp [updF_app, h1]) (by simp [updF_app, sE]) (by simp [updF_app, List.take_of_length_le]) (fun hN => hφ (ew2 hN)) (fun ws n h H' v' g0 g1 g2 g4 => ?_)
                      refine hq (⟨a, m, o, w⟩ :: ws) _ (ew ws n h) H' v' (fun p => ?_) g1 ?_ ?_
                      · rw [g0]; congr 2; omega
                      · rw [g2]; simp
                      · rw [g4]; simp
end
end Go.Proofs.YtebihdhapepejaaDoor

/-
  The reader of edits' texts: the kids of a struct's edit.
-/
namespace Go.Proofs.YtebihdhapepejaaDoor
set_option linter.unusedVariables false
set_option linter.unusedSimpArgs false
open Go Go.G Go.Proofs Go.PL
theorem kidE_at (ed : List UInt8 → Option (E × Nat)) (s : List UInt8) (p : Nat) : kidE ed (s.drop p) = match numE 1048576 (s.drop p) with
  | none => none
  | some (a, k1) => match mustE 58 (s.drop (p + k1)) with
    | none => none
    | some _ => match ed (s.drop (p + k1 + 1)) with
      | none => none
      | some (e, k2) => some (.mk a e, k1 + 1 + k2) := by
  unfold kidE
  simp only [List.drop_drop, Nat.add_assoc]
  rfl
theorem kidsE_at (ed : List UInt8 → Option (E × Nat)) (s : List UInt8) (f n k : Nat) : kidsE ed (f + 1) n (s.drop k) = if nxB (s.drop k) = 125 then some ([], 0) else match commaE n (s.drop k) with
    | none => none
    | some k0 => match kidE ed (s.drop (k + k0)) with
      | none => none
      | some (w, k1) => match kidsE ed f (n + 1) (s.drop (k + k0 + k1)) with
        | none => none
        | some (ws, k2) => some (w :: ws, k0 + k1 + k2) := by
  rw [kidsE]
  simp only [List.drop_drop, Nat.add_assoc]
  rfl
theorem famA_eE (e : E) : FamA (fun _ => eX e) := famA_bare (cs := eL e) rfl fun x hx => by simp at hx; rcases hx with rfl | rfl | rfl | rfl | rfl | rfl | rfl | rfl | rfl | rfl | rfl <;> rfl
/-- the reader reads edits that have so many within one another -/
def TrE (d : Nat) (s : List UInt8) : Prop := ∀ k, k ≤ s.length → OutF wrT Tryd.prog 10 (fun r => [pp r, iv d]) (psF s k) (outO eX s k (editE d (s.drop k)))
section
variable {φ : Prop} {n0 : Nat} {w0 : World} {I0 : Nat → Prop} {M0 : Nm → Nat → Prop} {m0 : Mu} {Q : Exit → Sta → Prop}
set_option maxHeartbeats 8000000 in
theorem eks_l2 {s : List UInt8} (hs : s.length ≤ 1000000000) {d : Nat} (hd : d ≤ 1000) (hT : TrE d s) {O1 O4 : VOb} {W : A} : ∀ (f k v : Nat) (acc : List KE) (H : Hp), k ≤ s.length → s.length - k < f → acc.length ≤ k → (∀ p, H (0 :: p) = (psF s k).F 0 p) → H [1] = O1 → H [2] = ⟨1, .cells (sE W (.osl [6] v 12 0 acc.length))⟩ → H [4] = O4 → H [6] = ⟨v, .arr 12 (acc.map kX)⟩ →
    (kidsE (editE d) f acc.length (s.drop k) = none → φ) →
    (∀ (ws : List KE) (n : Nat), kidsE (editE d) f acc.length (s.drop k) = some (ws, n) → ∀ (H' : Hp) (v' : Nat), (∀ p, H' (0 :: p) = (psF s (k + n)).F 0 p) → H' [1] = O1 → H' [2] = ⟨1, .cells (sE W (.osl [6] v' 12 0 (acc ++ ws).length))⟩ → H' [4] = O4 → H' [6] = ⟨v', .arr 12 ((acc ++ ws).map kX)⟩ →
      Q (.exit 2) ⟨lk [(0, pp 0), (1, iv (d + 1 : Nat)), (4, .pob [1] 1 0), (5, .pob [2] 1 0), (48, bv false)], H'⟩) →
    LoopC (cxd wrT φ Tryd.prog w0 I0 M0 n0 m0) l2_etext_structure Q ⟨lk [(0, pp 0), (1, iv (d + 1 : Nat)), (4, .pob [1] 1 0), (5, .pob [2] 1 0)], H⟩ := by
  have ed1 : IntKind.i64.wrap ((d : Int) + 1 - 1) = (d : Int) := by rw [i64_same (by omega) (by omega)]; omega
  simp only [Int.add_sub_cancel] at ed1
  intro f
  induction f with
  | zero => intro k v acc H hk hf; omega
  | succ f ih =>
    intro k v acc H hk hf hac hH h1 h2 h4 h6 hφ hq
    have hn := nextE_spec s k hk
    refine loopC_once mixed l2_etext_structure.eq_1 ?_
    simp
    refine sc_fam 0 hn hH (by simp) (by simp) ?_
    by_cases hx : nxB (s.drop k) = 125
    · rw [hx]
      simp
      exact hq [] 0 (by unfold kidsE; rw [if_pos hx]) _ v (fun p => by simp) (by simp [h1]) (by simp [h2]) (by simp [h4]) (by simp [h6])
    · have hx1 : ¬ ((nxB (s.drop k)).toNat : Int) = 125 := fun e => hx ((u8_inj (b := 125)).1 e)
      have hx2 : ¬ (nxB (s.drop k)).toNat = 125 := fun e => hx1 (by omega)
      simp [hx1, hx2, hx]
      have t0 := comma_at (n := acc.length) hk hs
      have hdl : (s.drop k).length = s.length - k := by simp
      simp [h2, sE]
      cases e0 : commaE acc.length (s.drop k) with
      | none =>
        rw [e0] at t0
        refine sc_famX (.tup []) 0 t0 ⟨rfl, hφ (by rw [kidsE_at, if_neg hx, e0])⟩ (fun p => by simp) (by simp) (by simp) ?_
        simp
        exact stop_dead (dead_of 0 (by simp [dead_F]))
      | some k0 =>
        rw [e0] at t0
        have b0 := commaE_le e0
        rw [hdl] at b0
        refine sc_fam 0 t0 (fun p => by simp) (by simp) (by simp) ?_
        simp
        refine stop_go ?_
        simp
        have t1 := esmall_spec hs (k + k0) (by omega)
        cases e1 : numE 1048576 (s.drop (k + k0)) with
        | none =>
          rw [e1] at t1
          refine sc_famX (iv 0) 0 t1 ⟨rfl, hφ (by rw [kidsE_at, if_neg hx, e0]; simp only; rw [kidE_at, e1])⟩ (fun p => by simp) (by simp) (by simp) ?_
          simp [updF_app]
          exact stop_dead (dead_of 0 (by simp [dead_F]))
        | some q1 =>
          obtain ⟨a, k1⟩ := q1
          rw [e1] at t1
          have b1 := numE_le e1
          simp only [List.length_drop] at b1
          refine sc_fam 0 t1 (fun p => by simp [updF_app]) (by simp) (by simp) ?_
          simp [updF_app]
          refine stop_go ?_
          simp
          have t2 := must_at (s := s) (k := k + k0 + k1) (c := 58) (by omega) hs (by decide)
          cases e2 : mustE 58 (s.drop (k + k0 + k1)) with
          | none =>
            rw [e2] at t2
            refine sc_famX (.tup []) 0 t2 ⟨rfl, hφ (by rw [kidsE_at, if_neg hx, e0]; simp only; rw [kidE_at, e1]; simp only; rw [e2])⟩ (fun p => by simp) (by simp) (by simp) ?_
            simp [updF_app]
            exact stop_dead (dead_of 0 (by simp [dead_F]))
          | some n2 =>
            rw [e2] at t2
            obtain ⟨rfl, b2⟩ := mustE_le e2
            simp only [List.length_drop] at b2
            refine sc_fam 0 t2 (fun p => by simp [updF_app]) (by simp) (by simp) ?_
            simp [updF_app]
            refine stop_go ?_
            simp [ed1]
            have t3 := hT (k + k0 + k1 + 1) (by omega)
            cases e3 : editE d (s.drop (k + k0 + k1 + 1)) with
            | none =>
              rw [e3] at t3
              refine sc_famX (eX E0) 0 t3 ⟨rfl, hφ (by rw [kidsE_at, if_neg hx, e0]; simp only; rw [kidE_at, e1]; simp only; rw [e2]; simp only; rw [e3])⟩ (fun p => by simp) (by simp) (by simp) ?_
              simp [updF_app]
              exact stop_dead (dead_of 0 (by simp [dead_F]))
            | some q3 =>
              obtain ⟨e, k2⟩ := q3
              rw [e3] at t3
              have b3 := editE_le _ _ _ e3
              simp only [List.length_drop] at b3
              refine sc_fam 0 t3 (fun p => by simp [updF_app]) (by simp) (by simp) ?_
              simp [updF_app]
              refine stop_go ?_
              simp
              have hw : kidE (editE d) (s.drop (k + k0)) = some (.mk a e, k1 + 1 + k2) := by rw [kidE_at, e1]; simp only; rw [e2]; simp only; rw [e3]
              simp [updF_app, h2, h6, sE, splice]
              refine ⟨by omega, ?_⟩
              have ew : ∀ ws n, kidsE (editE d) f (acc ++ [KE.mk a e]).length (s.drop (k + k0 + k1 + 1 + k2)) = some (ws, n) → kidsE (editE d) (f + 1) acc.length (s.drop k) = some (KE.mk a e :: ws, k0 + (k1 + 1 + k2) + n) := fun ws n h => by
                rw [kidsE_at, if_neg hx, e0]; simp only; rw [hw]; simp only
                rw [show k + k0 + (k1 + 1 + k2) = k + k0 + k1 + 1 + k2 by omega]
                rw [List.length_append, List.length_singleton] at h
                rw [h]
              have ew2 : kidsE (editE d) f (acc ++ [KE.mk a e]).length (s.drop (k + k0 + k1 + 1 + k2)) = none → kidsE (editE d) (f + 1) acc.length (s.drop k) = none := fun h => by
                rw [kidsE_at, if_neg hx, e0]; simp only; rw [hw]; simp only
                rw [show k + k0 + (k1 + 1 + k2) = k + k0 + k1 + 1 + k2 by omega]
                rw [List.length_append, List.length_singleton] at h
                rw [h]
              refine ih (k + k0 + k1 + 1 + k2) (v + 1) (acc ++ [KE.mk a e]) _ (by omega) (by omega) (by simp; omega) (fun p => by simp) (by simp [updF_app, h1]) (by simp [updF_app, sE]) (by simp [updF_app, h4]) (by simp [updF_app, List.take_of_length_le]) (fun hN => hφ (ew2 hN)) (fun ws n h H' v' g0 g1 g2 g4 g6 => ?_)
              refine hq (KE.mk a e :: ws) _ (ew ws n h) H' v' (fun p => ?_) g1 ?_ g4 ?_
              · rw [g0]; congr 2; omega
              · rw [g2]; simp
              · rw [g6]; simp
end
end Go.Proofs.YtebihdhapepejaaDoor

/-
  The reader of edits' texts: structs.
-/
namespace Go.Proofs.YtebihdhapepejaaDoor
set_option linter.unusedVariables false
set_option linter.unusedSimpArgs false
open Go Go.G Go.Proofs Go.PL
theorem structE_at (ed : List UInt8 → Option (E × Nat)) (s : List UInt8) (p : Nat) : structE ed (s.drop p) = match mustE 123 (s.drop p) with
  | none => none
  | some _ => match wordsE ((s.drop p).length + 1) 0 (s.drop (p + 1)) with
    | none => none
    | some (ws, k1) => match mustE 124 (s.drop (p + 1 + k1)) with
      | none => none
      | some _ => match kidsE ed ((s.drop p).length + 1) 0 (s.drop (p + 1 + k1 + 1)) with
        | none => none
        | some (ks, k2) => match mustE 125 (s.drop (p + 1 + k1 + 1 + k2)) with
          | none => none
          | some _ => some (.mk 2 T0 T0 ws ks 0 [], 1 + k1 + 1 + k2 + 1) := by
  unfold structE
  simp only [List.drop_drop, Nat.add_assoc]
  rfl
def sE0 : List A := [iv 0, iv 0, .sl true [], .sl true [], iv 0, .sl true [], .sl true [], .sl true [], .sl true [], iv 0, .sl true []]
/-- the end: an edit in its cells -/
theorem eedit_fin {n : Nat} {φ : Prop} {w0 : World} {I0 : Nat → Prop} {M0 : Nm → Nat → Prop} {m0 : Mu} (hM : ∀ r p b, 1 ≤ r → ¬ M0 (r :: p) b) (R : Nat → Prop) [DecidablePred R] (hR : ∀ r, R r → 2 ≤ r) {H : Hp} {u k' : Nat} {s : List UInt8} {cs : List A} {e : E} (h1 : H [1] = ⟨u, .cells cs⟩) (hf : ∀ H1 : Hp, (∀ r p, R r → H1 (r :: p) = H (r :: p)) → FrzL H1 cs (eL e)) (hH : ∀ p, H (0 :: p) = (psF s k').F 0 p) :
    RetH (cxd wrT φ Tryd.prog w0 I0 M0 n m0) [.cell 4 30] 1 (eX e) (ov 0 ((psF s k').F 0) (lkH [])) .ret ⟨lk [(4, .pob [1] u 0)], H⟩ := by
  obtain ⟨H2, g1, g2⟩ := le_freezeC (c := cxd wrT φ Tryd.prog w0 I0 M0 n m0) (s := lk [(4, .pob [1] u 0)]) (H := H) R (fun r p b h => hM r p b (by have := hR r h; omega)) (r0 := 1) (p0 := []) (fun h => by have := hR 1 h; omega) h1 (cs' := eL e) (by simp [A.ones]) hf
  refine reth_le g1 (reth_fam (r0 := eX e) (by simp [resA, updF]) rfl fun p => ?_)
  exact (updF_ne (f := H2) (d := [1]) (o := 0 :: p) (x := (⟨u, .cells (eL e)⟩ : VOb)) (by simp)).trans ((g2 0 p (fun h => by have := hR 0 h; omega)).trans (hH p))
set_option maxHeartbeats 4000000 in
theorem estruct_spec {s : List UInt8} (hs : s.length ≤ 1000000000) {d : Nat} (hd : d ≤ 1000) (hT : TrE d s) (k : Nat) (hk : k ≤ s.length) : OutF wrT Tryd.prog 20 (fun r => [pp r, iv (d + 1 : Nat)]) (psF s k) (outO eX s k (structE (editE d) (s.drop k))) := by
  refine outF_of' t_etext_structure (by simp) (famL_cons famA_pob (famL_cons famA_v famL_nil)) (outO_fam famA_eE) fun w0 I0 M0 m0 hM => ?_
  have hdl : (s.drop k).length = s.length - k := by simp
  have t0 := must_at (s := s) (k := k) (c := 123) hk hs (by decide)
  have hO : ∀ x, structE (editE d) (s.drop k) = x → (outO eX s k (structE (editE d) (s.drop k)) = none) = (x = none) := fun x h => by rw [h]; cases x <;> simp
  unfold c_etext_structure
  simp
  cases e0 : mustE 123 (s.drop k) with
  | none =>
    rw [e0] at t0
    refine sc_famX (.tup []) 0 t0 ⟨rfl, by rw [structE_at, e0]; rfl⟩ (fun p => by simp [updF_app]) (by simp) (by simp) ?_
    simp
    exact stop_dead (dead_of 0 (by simp [dead_F]))
  | some n0 =>
    rw [e0] at t0
    obtain ⟨rfl, b0⟩ := mustE_le e0
    rw [hdl] at b0
    refine sc_fam 0 t0 (fun p => by simp [updF_app]) (by simp) (by simp) ?_
    simp
    refine stop_go ?_
    simp
    refine LoopC.le (le_blankC (d := [2]) (u := 1) (cs := sE (.sl true []) (.sl true [])) 7 [4] 4 (by simp [updF_app, sE]) rfl (by simp)) ?_
    refine ews_l1 (K := .sl true []) (O1 := ⟨1, .cells (sE0)⟩) hs ((s.drop k).length + 1) (k + 1) 1 [] _ (by omega) (by omega) (by simp) (fun p => by simp [updF_app]) (by simp [updF_app, sE0]) (by simp [updF_app, sE]) (by simp [updF_app]) (fun hN => ?_) (fun ws k1 hW H' v' g0 g1 g2 g4 => ?_)
    · rw [structE_at, e0]; simp only
      rw [show wordsE ((s.drop k).length + 1) 0 (s.drop (k + 1)) = none from hN]; rfl
    · have hW' : wordsE ((s.drop k).length + 1) 0 (s.drop (k + 1)) = some (ws, k1) := hW
      have b1 := wordsE_le _ _ _ _ hW'
      simp only [List.length_drop] at b1
      have t2 := must_at (s := s) (k := k + 1 + k1) (c := 124) (by omega) hs (by decide)
      simp
      cases e2 : mustE 124 (s.drop (k + 1 + k1)) with
      | none =>
        rw [e2] at t2
        refine sc_famX (.tup []) 0 t2 ⟨rfl, by rw [structE_at, e0]; simp only; rw [hW']; simp only; rw [e2]; rfl⟩ (fun p => by simp [g0]) (by simp) (by simp) ?_
        simp
        exact stop_dead (dead_of 0 (by simp [dead_F]))
      | some n2 =>
        rw [e2] at t2
        obtain ⟨rfl, b2⟩ := mustE_le e2
        simp only [List.length_drop] at b2
        refine sc_fam 0 t2 (fun p => by simp [g0]) (by simp) (by simp) ?_
        simp
        refine stop_go ?_
        simp
        refine LoopC.le (le_blankC (d := [2]) (u := 1) (cs := sE (.osl [4] v' 4 0 ws.length) (.sl true [])) 8 [6] 12 (by simp [g2]) rfl (by simp)) ?_
        refine LoopC.le (le_list [(0, pp 0), (1, iv (d + 1 : Nat)), (4, .pob [1] 1 0), (5, .pob [2] 1 0)] (by simp)) ?_
        refine eks_l2 (W := .osl [4] v' 4 0 ws.length) (O1 := ⟨1, .cells (sE0)⟩) (O4 := ⟨v', .arr 4 (ws.map wX)⟩) hs hd hT ((s.drop k).length + 1) (k + 1 + k1 + 1) ((H' [6]).u + 1) [] _ (by omega) (by omega) (by simp) (fun p => by simp [updF_app]) (by simp [updF_app, g1]) (by simp [updF_app, sE]) (by simp [updF_app, g4]) (by simp [updF_app]) (fun hN => ?_) (fun ks k2 hK H2 v2 y0 y1 y2 y4 y6 => ?_)
        · rw [structE_at, e0]; simp only; rw [hW']; simp only; rw [e2]; simp only
          rw [show kidsE (editE d) ((s.drop k).length + 1) 0 (s.drop (k + 1 + k1 + 1)) = none from hN]; rfl
        · have hK' : kidsE (editE d) ((s.drop k).length + 1) 0 (s.drop (k + 1 + k1 + 1)) = some (ks, k2) := hK
          have b3 := kidsE_le (editE_le d) _ _ _ _ hK'
          simp only [List.length_drop] at b3
          have t4 := must_at (s := s) (k := k + 1 + k1 + 1 + k2) (c := 125) (by omega) hs (by decide)
          simp
          cases e4 : mustE 125 (s.drop (k + 1 + k1 + 1 + k2)) with
          | none =>
            rw [e4] at t4
            refine sc_famX (.tup []) 0 t4 ⟨rfl, by rw [structE_at, e0]; simp only; rw [hW']; simp only; rw [e2]; simp only; rw [hK']; simp only; rw [e4]; rfl⟩ (fun p => by simp [y0]) (by simp) (by simp) ?_
            simp
            exact stop_dead (dead_of 0 (by simp [dead_F]))
          | some n4 =>
            rw [e4] at t4
            obtain ⟨rfl, b4⟩ := mustE_le e4
            have hM2 : structE (editE d) (s.drop k) = some (.mk 2 T0 T0 ws ks 0 [], 1 + k1 + 1 + k2 + 1) := by rw [structE_at, e0]; simp only; rw [hW']; simp only; rw [e2]; simp only; rw [hK']; simp only; rw [e4]
            rw [hM2]
            refine sc_fam 0 t4 (fun p => by simp [y0]) (by simp) (by simp) ?_
            simp
            refine stop_go ?_
            simp [y1, y2, sE, sE0, splice, RetO]
            rw [show k + (1 + k1 + 1 + k2 + 1) = k + 1 + k1 + 1 + k2 + 1 by omega]
            refine eedit_fin hM (fun r => r = 4 ∨ r = 6) (fun r h => by omega) (e := .mk 2 T0 T0 ws ks 0 []) (cs := [iv 2, iv 0, .sl true [], .sl true [], iv 0, .sl true [], .sl true [], .osl [4] v' 4 0 ws.length, .osl [6] v2 12 0 ks.length, iv 0, .sl true []]) (by simp [updF_app]) (fun H1 h1 => ⟨frz_bare rfl, frz_bare rfl, frz_sl, frz_sl, frz_bare rfl, frz_sl, frz_sl, frz_row (f := wA) (l := ws) (by rw [h1 4 [] (by simp)]; simp [updF_app, y4]) rfl (fun x => by simp), frz_row (f := kA) (l := ks) (by rw [h1 6 [] (by simp)]; simp [updF_app, y6]) rfl (fun x => by simp), frz_bare rfl, frz_sl, trivial⟩) (fun p => by simp)
end Go.Proofs.YtebihdhapepejaaDoor

/-
  The reader of edits' texts: steps.
-/
namespace Go.Proofs.YtebihdhapepejaaDoor
set_option linter.unusedVariables false
set_option linter.unusedSimpArgs false
open Go Go.G Go.Proofs Go.PL
abbrev oL38 (x : OP) : List A := iv x.kind :: iv x.n :: tKs x.l :: eL x.e
theorem famA_oE (x : OP) : FamA (fun _ => oX x) := famA_bare (cs := oL38 x) rfl fun y hy => by simp at hy; rcases hy with rfl | rfl | rfl | rfl | rfl | rfl | rfl | rfl | rfl | rfl | rfl | rfl | rfl | rfl <;> rfl
theorem eop_fin {n : Nat} {φ : Prop} {w0 : World} {I0 : Nat → Prop} {M0 : Nm → Nat → Prop} {m0 : Mu} {H : Hp} {u k' : Nat} {s : List UInt8} {cs : List A} {x : OP} (h1 : H [1] = ⟨u, .cells cs⟩) (hf : ∀ H1 : Hp, FrzL H1 cs (oL38 x)) (hH : ∀ p, H (0 :: p) = (psF s k').F 0 p) :
    RetH (cxd wrT φ Tryd.prog w0 I0 M0 n m0) [.cell 6 41] 1 (oX x) (ov 0 ((psF s k').F 0) (lkH [])) .ret ⟨lk [(6, .pob [1] u 0)], H⟩ := by
  obtain ⟨H2, g1, g2⟩ := le_freezeC (c := cxd wrT φ Tryd.prog w0 I0 M0 n m0) (s := lk [(6, .pob [1] u 0)]) (H := H) (fun _ => False) (fun _ _ _ h => h.elim) (r0 := 1) (p0 := []) (fun h => h.elim) h1 (cs' := oL38 x) (by simp [A.ones]) (fun H1 _ => hf H1)
  refine reth_le g1 (reth_fam (r0 := oX x) (by simp [resA, updF]) rfl fun p => ?_)
  exact (updF_ne (f := H2) (d := [1]) (o := 0 :: p) (x := (⟨u, .cells (oL38 x)⟩ : VOb)) (by simp)).trans ((g2 0 p (fun h => h.elim)).trans (hH p))
theorem nx_lt {s : List UInt8} {k : Nat} (hk : k ≤ s.length) (h : nxB (s.drop k) ≠ 0) : k < s.length := by
  rcases Nat.lt_or_ge k s.length with h1 | h1
  · exact h1
  · have : k = s.length := by omega
    subst this
    rw [nxB_end] at h
    exact (h rfl).elim
theorem idx_none {c : UInt8} (h1 : c ≠ 107) (h2 : c ≠ 45) (h3 : c ≠ 43) (h4 : c ≠ 42) : idxB [107, 45, 43, 42] c = -1 := by
  simp [idxB, Ne.symm h1, Ne.symm h2, Ne.symm h3, Ne.symm h4]
set_option maxHeartbeats 4000000 in
theorem erop_spec {s : List UInt8} (hs : s.length ≤ 1000000000) {d : Nat} (hd : d ≤ 1000) (hT : TrE d s) (l : Int) (k : Nat) (hk : k ≤ s.length) : OutF wrT Tryd.prog 38 (fun r => [pp r, iv l, iv (d + 1 : Nat)]) (psF s k) (outO oX s k (stepE38 (editE d) l (s.drop k))) := by
  refine outF_of' t_etext_rop (by simp) (famL_cons famA_pob (famL_cons famA_v (famL_cons famA_v famL_nil))) (outO_fam famA_oE) fun w0 I0 M0 m0 hM => ?_
  have hn := nextE_spec s k hk
  have ed1 : IntKind.i64.wrap ((d : Int) + 1 - 1) = (d : Int) := by rw [i64_same (by omega) (by omega)]; omega
  simp only [Int.add_sub_cancel] at ed1
  have e1 : IntKind.i64.wrap ((k : Int) + 1) = ((k + 1 : Nat) : Int) := by rw [i64_same (by omega) (by omega)]; omega
  unfold c_etext_rop
  simp
  refine sc_fam 0 hn (fun p => by simp [updF_app]) (by simp) (by simp) ?_
  obtain ⟨c, hc⟩ : ∃ c, c = nxB (s.drop k) := ⟨_, rfl⟩
  have hi := idx_spec [107, 45, 43, 42] c
  unfold stepE38
  rw [← hc]
  have hlt : c ≠ 0 → k < s.length := fun h => nx_lt hk (by rw [← hc]; exact h)
  have hdd : (s.drop k).drop 1 = s.drop (k + 1) := by rw [List.drop_drop]
  rw [hdd]
  by_cases c1 : c = 107
  · subst c1
    have hlt := hlt (by decide)
    rw [show idxB [107, 45, 43, 42] 107 = 0 by decide] at hi
    simp
    refine sc_call hi rfl ?_
    simp
    refine stop_go ?_
    rw [k1_etext_rop.eq_1]
    simp [e1]
    have t1 := esmall_spec hs (k + 1) (by omega)
    cases e2 : numE 1048576 (s.drop (k + 1)) with
    | none =>
      rw [e2] at t1
      refine sc_famX (iv 0) 0 t1 ⟨rfl, by simp⟩ (fun p => by by_cases hp : p = [] <;> simp [hp, updF_app]) (by simp) (by simp) ?_
      simp [updF_app]
      exact stop_dead (dead_of 0 (by simp [dead_F]))
    | some q =>
      obtain ⟨n, k1⟩ := q
      rw [e2] at t1
      refine sc_fam 0 t1 (fun p => by by_cases hp : p = [] <;> simp [hp, updF_app]) (by simp) (by simp) ?_
      simp [updF_app, splice]
      refine stop_go ?_
      simp [updF_app, RetO]
      rw [show k + (1 + k1) = k + 1 + k1 by omega]
      refine eop_fin (x := .mk 0 n [] E0) (cs := [iv 0, iv n, .sl true [], iv 0, iv 0, .sl true [], .sl true [], iv 0, .sl true [], .sl true [], .sl true [], .sl true [], iv 0, .sl true []]) (by simp) (fun H1 => ⟨frz_bare rfl, frz_bare rfl, frz_sl, frz_bare rfl, frz_bare rfl, frz_sl, frz_sl, frz_bare rfl, frz_sl, frz_sl, frz_sl, frz_sl, frz_bare rfl, frz_sl, trivial⟩) (fun p => by simp)
  · rw [if_neg c1]
    by_cases c2 : c = 42
    · subst c2
      have hlt := hlt (by decide)
      rw [show idxB [107, 45, 43, 42] 42 = 3 by decide] at hi
      simp
      refine sc_call hi rfl ?_
      simp
      refine stop_go ?_
      rw [k1_etext_rop.eq_1]
      simp [e1, ed1]
      have t1 := hT (k + 1) (by omega)
      cases e2 : editE d (s.drop (k + 1)) with
      | none =>
        rw [e2] at t1
        refine sc_famX (eX E0) 0 t1 ⟨rfl, by simp⟩ (fun p => by by_cases hp : p = [] <;> simp [hp, updF_app]) (by simp) (by simp) ?_
        simp [updF_app]
        exact stop_dead (dead_of 0 (by simp [dead_F]))
      | some q =>
        obtain ⟨e, k1⟩ := q
        rw [e2] at t1
        refine sc_fam 0 t1 (fun p => by by_cases hp : p = [] <;> simp [hp, updF_app]) (by simp) (by simp) ?_
        simp [updF_app, splice]
        refine stop_go ?_
        simp [updF_app, RetO]
        rw [show k + (1 + k1) = k + 1 + k1 by omega]
        refine eop_fin (x := .mk 3 0 [] e) (cs := [iv 3, iv 0, .sl true []] ++ eL e) (by simp) (fun H1 => ⟨frz_bare rfl, frz_bare rfl, frz_sl, frz_bare rfl, frz_bare rfl, frz_sl, frz_sl, frz_bare rfl, frz_sl, frz_sl, frz_sl, frz_sl, frz_bare rfl, frz_sl, trivial⟩) (fun p => by simp)
    · rw [if_neg c2]
      have tree : ∀ (kd : Int) (H : Hp), (∀ p, H (0 :: p) = (psF s (k + 1)).F 0 p) → True := fun _ _ _ => trivial
      by_cases c3 : c = 45
      · subst c3
        have hlt := hlt (by decide)
        rw [show idxB [107, 45, 43, 42] 45 = 1 by decide] at hi
        simp
        refine sc_call hi rfl ?_
        simp
        refine stop_go ?_
        rw [k1_etext_rop.eq_1]
        simp [e1]
        have t1 := etree_spec hs (k + 1) (by omega)
        cases e2 : treeE (s.drop (k + 1)) with
        | none =>
          rw [e2] at t1
          refine sc_famX (tX T0) 0 t1 ⟨rfl, by simp⟩ (fun p => by by_cases hp : p = [] <;> simp [hp, updF_app]) (by simp) (by simp) ?_
          simp [updF_app]
          exact stop_dead (dead_of 0 (by simp [dead_F]))
        | some q =>
          obtain ⟨t, k1⟩ := q
          rw [e2] at t1
          refine sc_fam 0 t1 (fun p => by by_cases hp : p = [] <;> simp [hp, updF_app]) (by simp) (by simp) ?_
          simp [updF_app, splice]
          refine stop_go ?_
          simp [updF_app]
          by_cases hk : t.kind = l
          · simp [hk]
            refine stop_go ?_
            simp [updF_app, splice]
            refine stop_go ?_
            simp [updF_app, RetO]
            rw [show k + (1 + k1) = k + 1 + k1 by omega]
            refine eop_fin (x := .mk 1 0 t.kids E0) (cs := [iv 1, iv 0, tKs t.kids, iv 0, iv 0, .sl true [], .sl true [], iv 0, .sl true [], .sl true [], .sl true [], .sl true [], iv 0, .sl true []]) (by simp) (fun H1 => ⟨frz_bare rfl, frz_bare rfl, frz_sl, frz_bare rfl, frz_bare rfl, frz_sl, frz_sl, frz_bare rfl, frz_sl, frz_sl, frz_sl, frz_sl, frz_bare rfl, frz_sl, trivial⟩) (fun p => by simp)
          · simp [hk]
            refine sc_famX (.tup []) 0 (fail_spec (psF s (k + 1 + k1))) ⟨rfl, by simp⟩ (fun p => by by_cases hp : p = [] <;> simp [hp, updF_app]) (by simp) (by simp) ?_
            simp [updF_app]
            exact stop_dead (dead_of 0 (by simp [dead_F]))
      · by_cases c4 : c = 43
        · subst c4
          have hlt := hlt (by decide)
          rw [show idxB [107, 45, 43, 42] 43 = 2 by decide] at hi
          simp
          refine sc_call hi rfl ?_
          simp
          refine stop_go ?_
          rw [k1_etext_rop.eq_1]
          simp [e1]
          have t1 := etree_spec hs (k + 1) (by omega)
          cases e2 : treeE (s.drop (k + 1)) with
          | none =>
            rw [e2] at t1
            refine sc_famX (tX T0) 0 t1 ⟨rfl, by simp⟩ (fun p => by by_cases hp : p = [] <;> simp [hp, updF_app]) (by simp) (by simp) ?_
            simp [updF_app]
            exact stop_dead (dead_of 0 (by simp [dead_F]))
          | some q =>
            obtain ⟨t, k1⟩ := q
            rw [e2] at t1
            refine sc_fam 0 t1 (fun p => by by_cases hp : p = [] <;> simp [hp, updF_app]) (by simp) (by simp) ?_
            simp [updF_app, splice]
            refine stop_go ?_
            simp [updF_app]
            by_cases hk : t.kind = l
            · simp [hk]
              refine stop_go ?_
              simp [updF_app, splice]
              refine stop_go ?_
              simp [updF_app, RetO]
              rw [show k + (1 + k1) = k + 1 + k1 by omega]
              refine eop_fin (x := .mk 2 0 t.kids E0) (cs := [iv 2, iv 0, tKs t.kids, iv 0, iv 0, .sl true [], .sl true [], iv 0, .sl true [], .sl true [], .sl true [], .sl true [], iv 0, .sl true []]) (by simp) (fun H1 => ⟨frz_bare rfl, frz_bare rfl, frz_sl, frz_bare rfl, frz_bare rfl, frz_sl, frz_sl, frz_bare rfl, frz_sl, frz_sl, frz_sl, frz_sl, frz_bare rfl, frz_sl, trivial⟩) (fun p => by simp)
            · simp [hk]
              refine sc_famX (.tup []) 0 (fail_spec (psF s (k + 1 + k1))) ⟨rfl, by simp⟩ (fun p => by by_cases hp : p = [] <;> simp [hp, updF_app]) (by simp) (by simp) ?_
              simp [updF_app]
              exact stop_dead (dead_of 0 (by simp [dead_F]))
        · have hx := idx_none c1 c3 c4 c2
          rw [hx] at hi
          rw [if_neg (by simp [c3, c4])]
          generalize nxB (s.drop k) = y at *
          subst hc
          simp
          refine sc_call hi rfl ?_
          simp
          refine sc_famX (.tup []) 0 (fail_spec (psF s k)) ⟨rfl, by simp⟩ (fun p => by by_cases hp : p = [] <;> simp [hp, updF_app]) (by simp) (by simp) ?_
          simp [updF_app]
          exact stop_dead (dead_of 0 (by simp [dead_F]))
end Go.Proofs.YtebihdhapepejaaDoor

/-
  The reader of edits' texts: lists.
-/
namespace Go.Proofs.YtebihdhapepejaaDoor
set_option linter.unusedVariables false
set_option linter.unusedSimpArgs false
open Go Go.G Go.Proofs Go.PL
theorem stepsE_at (ed : List UInt8 → Option (E × Nat)) (l : Int) (s : List UInt8) (f n k : Nat) : stepsE ed l (f + 1) n (s.drop k) = if nxB (s.drop k) = 93 then some ([], 0) else match commaE n (s.drop k) with
    | none => none
    | some k0 => match stepE38 ed l (s.drop (k + k0)) with
      | none => none
      | some (w, k1) => match stepsE ed l f (n + 1) (s.drop (k + k0 + k1)) with
        | none => none
        | some (ws, k2) => some (w :: ws, k0 + k1 + k2) := by
  rw [stepsE]
  simp only [List.drop_drop, Nat.add_assoc]
  rfl
def lE (l : Int) (O : A) : List A := [iv 3, iv 0, .sl true [], .sl true [], iv 0, .sl true [], .sl true [], .sl true [], .sl true [], iv l, O]
section
variable {φ : Prop} {n0 : Nat} {w0 : World} {I0 : Nat → Prop} {M0 : Nm → Nat → Prop} {m0 : Mu} {Q : Exit → Sta → Prop}
set_option maxHeartbeats 8000000 in
theorem els_l1 {s : List UInt8} (hs : s.length ≤ 1000000000) {d : Nat} (hd : d ≤ 1000) (hT : TrE d s) (l : Int) {u7 : Nat} {O1 : VOb} : ∀ (f k v : Nat) (acc : List OP) (H : Hp), k ≤ s.length → s.length - k < f → acc.length ≤ k → (∀ p, H (0 :: p) = (psF s k).F 0 p) → H [1] = O1 → H [3] = ⟨u7, .cells (lE l (.osl [4] v 14 0 acc.length))⟩ → H [4] = ⟨v, .arr 14 (acc.map oX)⟩ →
    (stepsE (editE d) l f acc.length (s.drop k) = none → φ) →
    (∀ (ws : List OP) (n : Nat), stepsE (editE d) l f acc.length (s.drop k) = some (ws, n) → ∀ (H' : Hp) (v' : Nat), (∀ p, H' (0 :: p) = (psF s (k + n)).F 0 p) → H' [1] = O1 → H' [3] = ⟨u7, .cells (lE l (.osl [4] v' 14 0 (acc ++ ws).length))⟩ → H' [4] = ⟨v', .arr 14 ((acc ++ ws).map oX)⟩ →
      Q (.exit 0) ⟨lk [(0, pp 0), (1, iv (d + 1 : Nat)), (4, .pob [1] 1 0), (7, .pob [3] u7 0), (54, bv false)], H'⟩) →
    LoopC (cxd wrT φ Tryd.prog w0 I0 M0 n0 m0) l1_etext_list Q ⟨lk [(0, pp 0), (1, iv (d + 1 : Nat)), (4, .pob [1] 1 0), (7, .pob [3] u7 0)], H⟩ := by
  intro f
  induction f with
  | zero => intro k v acc H hk hf; omega
  | succ f ih =>
    intro k v acc H hk hf hac hH h1 h3 h4 hφ hq
    have hn := nextE_spec s k hk
    refine loopC_once mixed l1_etext_list.eq_1 ?_
    simp
    refine sc_fam 0 hn hH (by simp) (by simp) ?_
    by_cases hx : nxB (s.drop k) = 93
    · rw [hx]
      simp
      exact hq [] 0 (by unfold stepsE; rw [if_pos hx]) _ v (fun p => by simp) (by simp [h1]) (by simp [h3]) (by simp [h4])
    · have hx1 : ¬ ((nxB (s.drop k)).toNat : Int) = 93 := fun e => hx ((u8_inj (b := 93)).1 e)
      have hx2 : ¬ (nxB (s.drop k)).toNat = 93 := fun e => hx1 (by omega)
      simp [hx1, hx2, hx]
      have t0 := comma_at (n := acc.length) hk hs
      have hdl : (s.drop k).length = s.length - k := by simp
      simp [h3, lE]
      cases e0 : commaE acc.length (s.drop k) with
      | none =>
        rw [e0] at t0
        refine sc_famX (.tup []) 0 t0 ⟨rfl, hφ (by rw [stepsE_at, if_neg hx, e0])⟩ (fun p => by simp) (by simp) (by simp) ?_
        simp
        exact stop_dead (dead_of 0 (by simp [dead_F]))
      | some k0 =>
        rw [e0] at t0
        have b0 := commaE_le e0
        rw [hdl] at b0
        refine sc_fam 0 t0 (fun p => by simp) (by simp) (by simp) ?_
        simp
        refine stop_go ?_
        simp [h3, lE]
        have t1 := erop_spec hs hd hT l (k + k0) (by omega)
        cases e1 : stepE38 (editE d) l (s.drop (k + k0)) with
        | none =>
          rw [e1] at t1
          refine sc_famX (oX (.mk 0 0 [] E0)) 0 t1 ⟨rfl, hφ (by rw [stepsE_at, if_neg hx, e0]; simp only; rw [e1])⟩ (fun p => by simp) (by simp) (by simp [List.isPrefixOf]) ?_
          simp [h3, h4, lE, updF_app, splice]
          exact ⟨by omega, LoopC.dead (dead_of 0 (by simp [dead_F]))⟩
        | some q1 =>
          obtain ⟨a, k1⟩ := q1
          rw [e1] at t1
          have b1 := stepE_le (editE_le d) e1
          simp only [List.length_drop] at b1
          refine sc_fam 0 t1 (fun p => by simp) (by simp) (by simp [List.isPrefixOf]) ?_
          simp [h3, h4, lE, updF_app, splice]
          refine ⟨by omega, ?_⟩
          have ew : ∀ ws n, stepsE (editE d) l f (acc ++ [a]).length (s.drop (k + k0 + k1)) = some (ws, n) → stepsE (editE d) l (f + 1) acc.length (s.drop k) = some (a :: ws, k0 + k1 + n) := fun ws n h => by
            rw [stepsE_at, if_neg hx, e0]; simp only; rw [e1]; simp only
            rw [List.length_append, List.length_singleton] at h
            rw [h]
          have ew2 : stepsE (editE d) l f (acc ++ [a]).length (s.drop (k + k0 + k1)) = none → stepsE (editE d) l (f + 1) acc.length (s.drop k) = none := fun h => by
            rw [stepsE_at, if_neg hx, e0]; simp only; rw [e1]; simp only
            rw [List.length_append, List.length_singleton] at h
            rw [h]
          refine ih (k + k0 + k1) (v + 1) (acc ++ [a]) _ (by omega) (by omega) (by simp; omega) (fun p => by simp) (by simp [updF_app, h1]) (by simp [updF_app, lE]) (by simp [updF_app, List.take_of_length_le]) (fun hN => hφ (ew2 hN)) (fun ws n h H' v' g0 g1 g3 g4 => ?_)
          refine hq (a :: ws) _ (ew ws n h) H' v' (fun p => ?_) g1 ?_ ?_
          · rw [g0]; congr 2; omega
          · rw [g3]; simp
          · rw [g4]; simp
end
theorem listE_at (ed : List UInt8 → Option (E × Nat)) (s : List UInt8) (p : Nat) : listE38 ed (s.drop p) = if 2 ≤ (s.drop p).length ∧ okP numP ((s.drop p).take 2 ++ [93]) = true then
    match stepsE ed (parsed numP ((s.drop p).take 2 ++ [93])).kind ((s.drop p).length + 1) 0 (s.drop (p + 2)) with
    | none => none
    | some (os, k1) => match mustE 93 (s.drop (p + 2 + k1)) with
      | none => none
      | some _ => some (.mk 3 T0 T0 [] [] (parsed numP ((s.drop p).take 2 ++ [93])).kind os, 2 + k1 + 1)
  else none := by
  unfold listE38
  simp only [List.drop_drop, Nat.add_assoc]
  rfl
set_option maxHeartbeats 4000000 in
theorem elist_spec {s : List UInt8} (hs : s.length ≤ 1000000000) {d : Nat} (hd : d ≤ 1000) (hT : TrE d s) (k : Nat) (hk : k ≤ s.length) : OutF wrT Tryd.prog 21 (fun r => [pp r, iv (d + 1 : Nat)]) (psF s k) (outO eX s k (listE38 (editE d) (s.drop k))) := by
  refine outF_of' t_etext_list (by simp) (famL_cons famA_pob (famL_cons famA_v famL_nil)) (outO_fam famA_eE) fun w0 I0 M0 m0 hM => ?_
  have hdl : (s.drop k).length = s.length - k := by simp
  have e2 : IntKind.i64.wrap ((k : Int) + 2) = ((k + 2 : Nat) : Int) := by rw [i64_same (by omega) (by omega)]; omega
  unfold c_etext_list
  by_cases h2 : 2 ≤ (s.drop k).length
  · have hle : k + 2 ≤ s.length := by omega
    simp [e2, show ¬ ((s.length : Int) < (k : Int) + 2) by omega]
    refine stop_go ?_
    rw [k2_etext_list.eq_1]
    have hp := parse_spec (s := (s.drop k).take 2 ++ [93]) (by simp; omega)
    have c1 : (0 ≤ (k : Int) + 2 ∧ (k : Int) + 2 ≤ s.length) = True := eq_true (by omega)
    have c2 : ((k : Int) + 2).toNat = k + 2 := by omega
    have hadd := str_add (l := (s.drop k).take 2) (m := [93]) (by simp; omega)
    simp [e2, c1, c2, show (k : Int) ≤ (k : Int) + 2 by omega, hadd]
    refine sc_call hp rfl ?_
    have hN : okP numP ((s.drop k).take 2 ++ [93]) = false → listE38 (editE d) (s.drop k) = none := fun h => by rw [listE_at, if_neg (fun h2 => by rw [h] at h2; cases h2.2)]
    have hY : okP numP ((s.drop k).take 2 ++ [93]) = true → listE38 (editE d) (s.drop k) = (match stepsE (editE d) (parsed numP ((s.drop k).take 2 ++ [93])).kind ((s.drop k).length + 1) 0 (s.drop (k + 2)) with
      | none => none
      | some (os, k1) => match mustE 93 (s.drop (k + 2 + k1)) with
        | none => none
        | some _ => some (.mk 3 T0 T0 [] [] (parsed numP ((s.drop k).take 2 ++ [93])).kind os, 2 + k1 + 1)) := fun h => by rw [listE_at, if_pos ⟨h2, h⟩]
    generalize parsed numP ((s.drop k).take 2 ++ [93]) = T at *
    cases hok : okP numP ((s.drop k).take 2 ++ [93]) with
    | false =>
      rw [hN hok]
      simp
      refine sc_famX (.tup []) 0 (fail_spec (psF s k)) ⟨rfl, by simp⟩ (fun p => by by_cases hp : p = [] <;> simp [hp, updF_app]) (by simp) (by simp) ?_
      simp
      exact stop_dead (dead_of 0 (by simp [dead_F]))
    | true =>
      have hY := hY hok
      simp
      refine stop_go ?_
      rw [k1_etext_list.eq_1]
      simp [e2, updF_app]
      refine LoopC.le (le_blankC (d := [3]) (u := 1) (cs := lE T.kind (.sl true [])) 10 [4] 14 (by simp [updF_app, lE]) rfl (by simp)) ?_
      refine LoopC.le (le_list [(0, pp 0), (1, iv (d + 1 : Nat)), (4, .pob [1] 1 0), (7, .pob [3] 1 0)] (by simp)) ?_
      refine els_l1 (O1 := ⟨1, .cells (sE0)⟩) hs hd hT T.kind ((s.drop k).length + 1) (k + 2) 1 [] _ (by omega) (by omega) (by simp) (fun p => by by_cases hp : p = [] <;> simp [hp, updF_app]) (by simp [updF_app, sE0]) (by simp [updF_app, lE]) (by simp [updF_app]) (fun hN2 => ?_) (fun os k1 hW H' v' g0 g1 g3 g4 => ?_)
      · rw [hY, show stepsE (editE d) T.kind ((s.drop k).length + 1) 0 (s.drop (k + 2)) = none from hN2]; rfl
      · have hW' : stepsE (editE d) T.kind ((s.drop k).length + 1) 0 (s.drop (k + 2)) = some (os, k1) := hW
        have b1 := stepsE_le (editE_le d) _ _ _ _ _ hW'
        simp only [List.length_drop] at b1
        have t2 := must_at (s := s) (k := k + 2 + k1) (c := 93) (by omega) hs (by decide)
        simp
        cases e3 : mustE 93 (s.drop (k + 2 + k1)) with
        | none =>
          rw [e3] at t2
          refine sc_famX (.tup []) 0 t2 ⟨rfl, by rw [hY, hW']; simp only; rw [e3]; rfl⟩ (fun p => by simp [g0]) (by simp) (by simp) ?_
          simp
          exact stop_dead (dead_of 0 (by simp [dead_F]))
        | some n2 =>
          rw [e3] at t2
          obtain ⟨rfl, b2⟩ := mustE_le e3
          rw [hW'] at hY
          simp only at hY
          rw [e3] at hY
          rw [hY]
          refine sc_fam 0 t2 (fun p => by simp [g0]) (by simp) (by simp) ?_
          simp
          refine stop_go ?_
          simp [g1, g3, lE, sE0, splice, RetO]
          rw [show k + (2 + k1 + 1) = k + 2 + k1 + 1 by omega]
          refine eedit_fin hM (fun r => r = 4) (fun r h => by omega) (e := .mk 3 T0 T0 [] [] T.kind os) (cs := [iv 3, iv 0, .sl true [], .sl true [], iv 0, .sl true [], .sl true [], .sl true [], .sl true [], iv T.kind, .osl [4] v' 14 0 os.length]) (by simp [updF_app]) (fun H1 h1 => ⟨frz_bare rfl, frz_bare rfl, frz_sl, frz_sl, frz_bare rfl, frz_sl, frz_sl, frz_sl, frz_sl, frz_bare rfl, frz_row (f := oA) (l := os) (by rw [h1 4 [] (by simp)]; simp [updF_app, g4]) rfl (fun x => by simp), trivial⟩) (fun p => by simp)
  · have hN : listE38 (editE d) (s.drop k) = none := by rw [listE_at, if_neg (fun h => h2 h.1)]
    rw [hN]
    simp [e2, show ((s.length : Int) < (k : Int) + 2) by omega]
    refine sc_famX (.tup []) 0 (fail_spec (psF s k)) ⟨rfl, by simp⟩ (fun p => by by_cases hp : p = [] <;> simp [hp, updF_app]) (by simp) (by simp) ?_
    simp
    exact stop_dead (dead_of 0 (by simp [dead_F]))
end Go.Proofs.YtebihdhapepejaaDoor

/-
  The reader of edits' texts: edits.
-/
namespace Go.Proofs.YtebihdhapepejaaDoor
set_option linter.unusedVariables false
set_option linter.unusedSimpArgs false
open Go Go.G Go.Proofs Go.PL
theorem replE_at (s : List UInt8) (p : Nat) : replE (s.drop p) = match treeE (s.drop p) with
  | none => none
  | some (o, k1) => match mustE 62 (s.drop (p + k1)) with
    | none => none
    | some _ => match treeE (s.drop (p + k1 + 1)) with
      | none => none
      | some (n, k2) => match mustE 41 (s.drop (p + k1 + 1 + k2)) with
        | none => none
        | some _ => some (.mk 1 o n [] [] 0 [], k1 + 1 + k2 + 1) := by
  unfold replE
  simp only [List.drop_drop, Nat.add_assoc]
  rfl
theorem eatB_lt {s : List UInt8} {k : Nat} {c : UInt8} (h : eatB (s.drop k) c = true) : k < s.length := by
  rcases Nat.lt_or_ge k s.length with h1 | h1
  · exact h1
  · rw [List.drop_eq_nil_of_le h1] at h; simp [eatB] at h
theorem plus_none {α : Type} {f : α → A} {s : List UInt8} {k : Nat} {o : Option (α × Nat)} : outO f s k (plusE 1 o) = outO f s (k + 1) o := by
  rcases o with _ | ⟨x, n⟩
  · rfl
  · simp [plusE, outO, Nat.add_assoc]
def zE : List A := [iv 0, iv 0, .sl true [], .sl true [], iv 0, .sl true [], .sl true [], .sl true [], .sl true [], iv 0, .sl true []]
set_option maxHeartbeats 8000000 in
theorem eedit_spec {s : List UInt8} (hs : s.length ≤ 1000000000) : ∀ d, d ≤ 1000 → TrE d s := by
  intro d
  induction d with
  | zero =>
    intro _ k hk
    refine outF_of' t_etext_edit (by simp) (famL_cons famA_pob (famL_cons famA_v famL_nil)) (outO_fam famA_eE) fun w0 I0 M0 m0 hM => ?_
    unfold c_etext_edit
    simp
    refine sc_famX (.tup []) 0 (fail_spec (psF s k)) ⟨rfl, by simp [editE]⟩ (fun p => by simp [updF_app]) (by simp) (by simp) ?_
    simp
    exact stop_dead (dead_of 0 (by simp [dead_F]))
  | succ d ih =>
    intro hd k hk
    have hT := ih (by omega)
    refine outF_of' t_etext_edit (by simp) (famL_cons famA_pob (famL_cons famA_v famL_nil)) (outO_fam famA_eE) fun w0 I0 M0 m0 hM => ?_
    unfold c_etext_edit
    simp [show ¬ ((d : Int) + 1 = 0) by omega]
    have t0 := eatE_spec s k 61 hk hs (by decide)
    rw [editE]
    cases e0 : eatB (s.drop k) 61 with
    | true =>
      rw [e0] at t0
      refine sc_fam 0 t0 (fun p => by simp [updF_app]) (by simp) (by simp [List.isPrefixOf]) ?_
      simp
      refine stop_go ?_
      simp [updF_app, RetO]
      refine eedit_fin hM (fun _ => False) (fun r h => h.elim) (e := E0) (cs := zE) (by simp [updF_app, zE]) (fun H1 h1 => ⟨frz_bare rfl, frz_bare rfl, frz_sl, frz_sl, frz_bare rfl, frz_sl, frz_sl, frz_sl, frz_sl, frz_bare rfl, frz_sl, trivial⟩) (fun p => by simp)
    | false =>
      rw [e0] at t0
      refine sc_fam 0 t0 (fun p => by simp [updF_app]) (by simp) (by simp [List.isPrefixOf]) ?_
      simp
      have t1 := eatE_spec s k 40 hk hs (by decide)
      cases e1 : eatB (s.drop k) 40 with
      | true =>
        have hlt := eatB_lt e1
        rw [e1] at t1
        refine sc_fam 0 t1 (fun p => by simp) (by simp) (by simp [List.isPrefixOf]) ?_
        simp [plus_none, List.drop_drop]
        have t2 := etree_spec hs (k + 1) (by omega)
        cases e2 : treeE (s.drop (k + 1)) with
        | none =>
          rw [e2] at t2
          refine sc_famX (tX T0) 0 t2 ⟨rfl, by rw [replE_at, e2]; rfl⟩ (fun p => by simp) (by simp) (by simp [List.isPrefixOf]) ?_
          simp [updF_app]
          exact stop_dead (dead_of 0 (by simp [dead_F]))
        | some q2 =>
          obtain ⟨o, k1⟩ := q2
          rw [e2] at t2
          have b2 := treeE_le e2
          simp only [List.length_drop] at b2
          refine sc_fam 0 t2 (fun p => by simp) (by simp) (by simp [List.isPrefixOf]) ?_
          simp [updF_app, splice]
          refine stop_go ?_
          have t3 := must_at (s := s) (k := k + 1 + k1) (c := 62) (by omega) hs (by decide)
          simp
          cases e3 : mustE 62 (s.drop (k + 1 + k1)) with
          | none =>
            rw [e3] at t3
            refine sc_famX (.tup []) 0 t3 ⟨rfl, by rw [replE_at, e2]; simp only; rw [e3]; rfl⟩ (fun p => by simp) (by simp) (by simp [List.isPrefixOf]) ?_
            simp
            exact stop_dead (dead_of 0 (by simp [dead_F]))
          | some n3 =>
            rw [e3] at t3
            obtain ⟨rfl, b3⟩ := mustE_le e3
            simp only [List.length_drop] at b3
            refine sc_fam 0 t3 (fun p => by simp) (by simp) (by simp [List.isPrefixOf]) ?_
            simp
            refine stop_go ?_
            have t4 := etree_spec hs (k + 1 + k1 + 1) (by omega)
            simp
            cases e4 : treeE (s.drop (k + 1 + k1 + 1)) with
            | none =>
              rw [e4] at t4
              refine sc_famX (tX T0) 0 t4 ⟨rfl, by rw [replE_at, e2]; simp only; rw [e3]; simp only; rw [e4]; rfl⟩ (fun p => by simp) (by simp) (by simp [List.isPrefixOf]) ?_
              simp [updF_app, splice]
              exact stop_dead (dead_of 0 (by simp [dead_F]))
            | some q4 =>
              obtain ⟨n, k2⟩ := q4
              rw [e4] at t4
              have b4 := treeE_le e4
              simp only [List.length_drop] at b4
              refine sc_fam 0 t4 (fun p => by simp) (by simp) (by simp [List.isPrefixOf]) ?_
              simp [updF_app, splice]
              refine stop_go ?_
              have t5 := must_at (s := s) (k := k + 1 + k1 + 1 + k2) (c := 41) (by omega) hs (by decide)
              simp
              cases e5 : mustE 41 (s.drop (k + 1 + k1 + 1 + k2)) with
              | none =>
                rw [e5] at t5
                refine sc_famX (.tup []) 0 t5 ⟨rfl, by rw [replE_at, e2]; simp only; rw [e3]; simp only; rw [e4]; simp only; rw [e5]; rfl⟩ (fun p => by simp) (by simp) (by simp [List.isPrefixOf]) ?_
                simp
                exact stop_dead (dead_of 0 (by simp [dead_F]))
              | some n5 =>
                rw [e5] at t5
                obtain ⟨rfl, b5⟩ := mustE_le e5
                have hE : replE (s.drop (k + 1)) = some (.mk 1 o n [] [] 0 [], k1 + 1 + k2 + 1) := by rw [replE_at, e2]; simp only; rw [e3]; simp only; rw [e4]; simp only; rw [e5]
                rw [hE]
                refine sc_fam 0 t5 (fun p => by simp) (by simp) (by simp [List.isPrefixOf]) ?_
                simp
                refine stop_go ?_
                simp [updF_app, RetO]
                rw [show k + 1 + (k1 + 1 + k2 + 1) = k + 1 + k1 + 1 + k2 + 1 by omega]
                refine eedit_fin hM (fun _ => False) (fun r h => h.elim) (e := .mk 1 o n [] [] 0 []) (cs := [iv 1, iv o.kind, uws o.words, tKs o.kids, iv n.kind, uws n.words, tKs n.kids, .sl true [], .sl true [], iv 0, .sl true []]) (by simp [updF_app]) (fun H1 h1 => ⟨frz_bare rfl, frz_bare rfl, frz_sl, frz_sl, frz_bare rfl, frz_sl, frz_sl, frz_sl, frz_sl, frz_bare rfl, frz_sl, trivial⟩) (fun p => by simp)
      | false =>
        rw [e1] at t1
        refine sc_fam 0 t1 (fun p => by simp) (by simp) (by simp [List.isPrefixOf]) ?_
        simp
        have t2 := eatE_spec s k 115 hk hs (by decide)
        cases e2 : eatB (s.drop k) 115 with
        | true =>
          have hlt := eatB_lt e2
          rw [e2] at t2
          refine sc_fam 0 t2 (fun p => by simp) (by simp) (by simp [List.isPrefixOf]) ?_
          simp [plus_none, List.drop_drop]
          have t3 := estruct_spec hs (by omega) hT (k + 1) (by omega)
          cases e3 : structE (editE d) (s.drop (k + 1)) with
          | none =>
            rw [e3] at t3
            refine sc_famX (eX E0) 0 t3 ⟨rfl, rfl⟩ (fun p => by simp) (by simp) (by simp [List.isPrefixOf]) ?_
            simp [updF_app]
            exact stop_dead (dead_of 0 (by simp [dead_F]))
          | some q3 =>
            obtain ⟨e, k1⟩ := q3
            rw [e3] at t3
            refine sc_fam 0 t3 (fun p => by simp) (by simp) (by simp [List.isPrefixOf]) ?_
            simp [updF_app, splice]
            refine stop_go ?_
            simp [updF_app, RetO]
            refine eedit_fin hM (fun _ => False) (fun r h => h.elim) (e := e) (cs := eL e) (by simp [updF_app]) (fun H1 h1 => ⟨frz_bare rfl, frz_bare rfl, frz_sl, frz_sl, frz_bare rfl, frz_sl, frz_sl, frz_sl, frz_sl, frz_bare rfl, frz_sl, trivial⟩) (fun p => by simp)
        | false =>
          rw [e2] at t2
          refine sc_fam 0 t2 (fun p => by simp) (by simp) (by simp [List.isPrefixOf]) ?_
          simp
          have t3 := must_at (s := s) (k := k) (c := 108) hk hs (by decide)
          cases e3 : eatB (s.drop k) 108 with
          | false =>
            rw [show mustE 108 (s.drop k) = none by unfold mustE; rw [e3]; rfl] at t3
            refine sc_famX (.tup []) 0 t3 ⟨rfl, rfl⟩ (fun p => by simp) (by simp) (by simp [List.isPrefixOf]) ?_
            simp
            exact stop_dead (dead_of 0 (by simp [dead_F]))
          | true =>
            have hlt := eatB_lt e3
            rw [show mustE 108 (s.drop k) = some 1 by unfold mustE; rw [e3]; rfl] at t3
            refine sc_fam 0 t3 (fun p => by simp) (by simp) (by simp [List.isPrefixOf]) ?_
            simp [plus_none, List.drop_drop]
            refine stop_go ?_
            have t4 := elist_spec hs (by omega) hT (k + 1) (by omega)
            simp
            cases e4 : listE38 (editE d) (s.drop (k + 1)) with
            | none =>
              rw [e4] at t4
              refine sc_famX (eX E0) 0 t4 ⟨rfl, rfl⟩ (fun p => by simp) (by simp) (by simp [List.isPrefixOf]) ?_
              simp [updF_app]
              exact stop_dead (dead_of 0 (by simp [dead_F]))
            | some q4 =>
              obtain ⟨e, k1⟩ := q4
              rw [e4] at t4
              refine sc_fam 0 t4 (fun p => by simp) (by simp) (by simp [List.isPrefixOf]) ?_
              simp [updF_app, splice]
              refine stop_go ?_
              simp [updF_app, RetO]
              refine eedit_fin hM (fun _ => False) (fun r h => h.elim) (e := e) (cs := eL e) (by simp [updF_app]) (fun H1 h1 => ⟨frz_bare rfl, frz_bare rfl, frz_sl, frz_sl, frz_bare rfl, frz_sl, frz_sl, frz_sl, frz_sl, frz_bare rfl, frz_sl, trivial⟩) (fun p => by simp)
end Go.Proofs.YtebihdhapepejaaDoor

/-
  The reader of edits' texts behind its guard: what it gives up with is caught.
-/
namespace Go.Proofs.YtebihdhapepejaaDoor
set_option linter.unusedVariables false
set_option linter.unusedSimpArgs false
set_option maxRecDepth 20000
open Go Go.G Go.Proofs Go.PL Go.RowKit
/-- A region of a deferred call's text, once recover stands behind it. -/
theorem seqS_sound {c : Cx} {nms : Nat → Nm} {need : Nat → Nat → Bool} {ops : Array Oper} {K : Sta → Prop} {Q : Exit → Act → List Frame → World → Prop} {cs : List Frame} (hd : dstsOK c.n ops = true) (hdie : ∀ t, ¬ c.die t) (hQ : ∀ st a w I μ, SR c st a w I μ → K st → Q .normal a cs w) :
    ∀ (l : List Oper) (k : Nat) (lg : Lg) (st : Sta) (a : Act) (w : World) (I : Nat → Prop) (μ : Mu), (∀ j, l[j]? = ops[k + j]?) → SR c st a w I μ → SeqA c.P c.die nms need ops K l k lg st → wpOpsS c.P ops Q (List.range' k l.length) a cs w
  | [], k, lg, st, a, w, I, μ, _, h, hs => hQ st a w I μ h hs
  | o :: l, k, lg, st, a, w, I, μ, hl, h, hs => by
    obtain ⟨x, E, f, ⟨q, x0, hg, h1, rfl, h2⟩, _, hs⟩ := hs
    have h0 : ops[k]? = some o := by simpa using (hl 0).symm
    have hw := wanted_guard h hd hg
    have hdst := dstsOK_get hd h0
    have next : ∀ a' w' I' μ', SR c (st.put o.dst (gd q x0) (E.app st.H)) a' w' I' μ' → wpOpsS c.P ops Q (List.range' (k + 1) l.length) a' cs w' := fun a' w' I' μ' h' =>
      seqS_sound hd hdie hQ l (k + 1) _ _ a' w' I' μ' (fun j => by have := hl (j + 1); simpa [Nat.add_assoc, Nat.add_comm 1 j] using this) h' hs
    simp only [List.length_cons, List.range'_succ, wpOpsS, h0, hw]
    cases q with
    | true =>
      rw [if_pos rfl]
      have := oper_sound (Q := fun e a' w' => Q e a' cs w') h hdst (h1 rfl) (fun t w' e k' => (hdie t e).elim) next
      unfold Oper.wp at this
      split
      · rename_i w' hr
        rw [hr] at this
        exact this.elim
      · exact this
    | false =>
      rw [if_neg (by simp)]
      obtain ⟨rfl, _, _⟩ := h2 rfl
      exact next _ _ I μ (idle_sound h hdst)
noncomputable def wR : Code := Tryd.f9.body.getD .ret
def opsOf : Code → Array Oper
  | .seq (.region _ ops _) _ => ops
  | _ => #[]
def behind : Code → Code
  | .seq _ y => y
  | _ => .ret
def gOps : List CO := [
  co (some 4) (.move (.tmp 6)) none,
  co (some 7) (.extract (.tmp 4) 0) none,
  co (some 8) (.extract (.tmp 4) 1) none,
  cn (some 2) (.alloc 43) none [2],
  co none (.store 43 (.tmp 2) (.tmp 7)) none,
  co (some 3) (.assign (.tmp 8)) none]
def gRest : CC := .seq (.reg [co (some 9) (.move (.tmp 3)) none] [0, 1, 9]) (.cond (.tmp 9)
  (.reg [co (some 10) (.build 30 #[]) none, co none (.store 30 (.tmp 0) (.tmp 10)) none, co none (.store 4 (.tmp 1) (.const (.bool false))) none] []) .skip)
theorem gOps_is : cosOf (opsOf wR) false (msOf (opsOf wR)) [(5, [2])] 2 ((opsOf wR).toList.drop 2) = some gOps := by kernel_rfl
theorem gRest_is : toCC 11 (behind wR) [([0, 1, 9], []), ([], []), ([], [])] = some (gRest, []) := by kernel_rfl
theorem wR_is : wR = .seq (.region 0 (opsOf wR) false) (behind wR) := by kernel_rfl
theorem opS_recover {P : Program} {ops : Array Oper} {Q : Exit → Act → List Frame → World → Prop} {i : Nat} {rest : List Nat} {a : Act} {cs cs' : List Frame} {w : World} {o : Oper} {v : Value} (ho : ops[i]? = some o) (hw : Region.wanted o (yielded ops a.tmps) = true) (hr : (execOp a.eval o).run P w = .ok .recover w)
    (hv : recoverD cs = some (v, cs') ∨ (recoverD cs = none ∧ v = .nilIface ∧ cs' = cs)) (h : wpOpsS P ops Q rest (a.put o.dst v) cs' w) : wpOpsS P ops Q (i :: rest) a cs w := by
  simp only [wpOpsS, ho, hw, if_true, hr]
  rcases hv with hv | ⟨hv, rfl, rfl⟩
  · rw [hv]; exact h
  · rw [hv]; exact h
theorem opS_value {P : Program} {ops : Array Oper} {Q : Exit → Act → List Frame → World → Prop} {i : Nat} {rest : List Nat} {a : Act} {cs : List Frame} {w w' : World} {o : Oper} {v : Value} (ho : ops[i]? = some o) (hw : Region.wanted o (yielded ops a.tmps) = true) (hr : (execOp a.eval o).run P w = .ok (.value v) w')
    (h : wpOpsS P ops Q rest (a.put o.dst v) cs w') : wpOpsS P ops Q (i :: rest) a cs w := by
  simp only [wpOpsS, ho, hw, if_true, hr]
  exact h
/-- what the guard's call leaves: in the caller's frame a turned mode, in the world what its text makes -/
theorem guard_run {w : World} {I : Nat → Prop} {μ : Mu} {H : Hp} {c : Cx} (hP : c.P = Tryd.prog) (hn : c.n = 11) (hds : c.ds = []) (hdie : ∀ t, ¬ c.die t) (hs : Sim c w I μ H) {p q : Value} {a0 a1 x6 : A} (h0 : Rel w I μ a0 p) (h1 : Rel w I μ a1 q)
    {u u' : FrameMode} {v5 v6 : Value} (hrec : ∀ (c₀ : Frame) (cs : List Frame), c₀.mode = u → (recoverD (c₀ :: cs) = some (v5, { c₀ with mode := u' } :: cs)) ∨ (recoverD (c₀ :: cs) = none ∧ v5 = .nilIface ∧ u' = u))
    (h6 : (Instr.typeAssert v5 20 43 true).run Tryd.prog w = .ok v6 w) (hr6 : Rel w I μ x6 v6) {Q : Sta → Prop}
    (h : SeqC Tryd.prog ⟨c.die, fun st => WPC c gRest (fun e st => e = .normal ∧ Q st) (st.keep [0, 1, 3])⟩ gOps [] ⟨lk [(0, a0), (1, a1), (6, x6)], H⟩) :
    CallsD Tryd.prog 9 #[p, q] u w fun e u2 w' => e = .returned (.tuple #[]) ∧ u2 = u' ∧ ∃ st' I' μ', Sim c w' I' μ' st'.H ∧ Q st' := by
  have hb : Tryd.f9.body = some wR := by kernel_rfl
  refine callsD_of_wpS Tryd.func9 hb fun c₀ cs hu => ?_
  rw [wR_is]
  apply wpS_seq
  apply wpS_region
  have hn2 : Tryd.f9.ntmps = 11 := by kernel_rfl
  have hsz : List.range (opsOf wR).size = 0 :: 1 :: List.range' 2 ((opsOf wR).toList.drop 2).length := by kernel_rfl
  have ha : (⟨#[p, q] ++ Array.replicate (Tryd.f9.ntmps - #[p, q].size) undef, []⟩ : Act) = ⟨#[p, q, undef, undef, undef, undef, undef, undef, undef, undef, undef], []⟩ := by rw [hn2]; rfl
  rw [hsz, ha]
  obtain ⟨o0, q0⟩ : ∃ o, o = (opsOf wR)[0]?.getD default := ⟨_, rfl⟩
  have o00 : (opsOf wR)[0]? = some ⟨some 5, .call { callee := .builtin .recover, args := #[], argTypes := #[] }, 20, "etext.go:233", #[], none⟩ := by kernel_rfl
  have o01 : (opsOf wR)[1]? = some ⟨some 6, .typeAssert (.tmp 5) 20 43 true, 44, "etext.go:233", #[{ on := 0, ground := .data }], none⟩ := by kernel_rfl
  refine opS_recover (v := v5) (cs' := { c₀ with mode := u' } :: cs) o00 rfl rfl ((hrec c₀ cs hu).imp id fun ⟨k1, k2, k3⟩ => ⟨k1, k2, by subst k3; subst hu; rfl⟩) ?_
  refine opS_value (v := v6) (w' := w) o01 rfl ?_ ?_
  · have e1 : ∀ ρ : Operand → Value, execOp ρ ⟨some 6, .typeAssert (.tmp 5) 20 43 true, 44, "etext.go:233", #[{ on := 0, ground := .data }], none⟩ = (do pure (.value (← Instr.typeAssert (ρ (.tmp 5)) 20 43 true))) := fun _ => rfl
    rw [e1]
    simp only [Sem.run_bind]
    rw [show ∀ a : Act, (a.put (some 5) v5).eval (.tmp 5) = (a.tmps.setIfInBounds 5 v5).getD 5 undef from fun _ => rfl]
    simp [h6]
  · obtain ⟨a2, ha2⟩ : ∃ a2, a2 = ((⟨#[p, q, undef, undef, undef, undef, undef, undef, undef, undef, undef], []⟩ : Act).put (some 5) v5).put (some 6) v6 := ⟨_, rfl⟩
    have ha3 : a2 = ⟨#[p, q, undef, undef, undef, v5, v6, undef, undef, undef, undef], []⟩ := by rw [ha2]; rfl
    rw [← ha2]
    have sr : SR c ⟨lk [(0, a0), (1, a1), (6, x6)], H⟩ a2 w I μ := by
      refine ⟨hs, by rw [ha3, hn]; rfl, by rw [ha3, hds], fun t => ?_⟩
      rw [ha3]
      show Rel w I μ (lk [(0, a0), (1, a1), (6, x6)] t) _
      simp only [lk_cons, lk_nil]
      by_cases t0 : 0 = t
      · subst t0; exact h0
      by_cases t1 : 1 = t
      · subst t1; exact h1
      by_cases t6 : 6 = t
      · subst t6; exact hr6
      rw [if_neg t0, if_neg t1, if_neg t6]; exact .any _ _
    have hd : dstsOK 11 (opsOf wR) = true := by kernel_rfl
    have hl := seqC_sound (P := Tryd.prog) (ops := opsOf wR) (draw := false) (K := ⟨c.die, fun st => WPC c gRest (fun e st => e = .normal ∧ Q st) (st.keep [0, 1, 3])⟩) ((opsOf wR).toList.drop 2) 2 gOps [] [] _ gOps_is (by kernel_rfl) (fun p hp => by simp at hp) h
    have hh := seqS_sound (c := c) (Q := Exit.thenS ((behind wR).wpS Tryd.prog (bodyPostS Tryd.prog Tryd.f9 c₀ cs fun e u2 w' => e = .returned (.tuple #[]) ∧ u2 = u' ∧ ∃ st' I' μ', Sim c w' I' μ' st'.H ∧ Q st')) (bodyPostS Tryd.prog Tryd.f9 c₀ cs fun e u2 w' => e = .returned (.tuple #[]) ∧ u2 = u' ∧ ∃ st' I' μ', Sim c w' I' μ' st'.H ∧ Q st')) (cs := { c₀ with mode := u' } :: cs) (ops := opsOf wR) (K := fun st => WPC c gRest (fun e st => e = .normal ∧ Q st) (st.keep [0, 1, 3])) (by rw [hn]; exact hd) hdie (fun st a w I μ hsr hK => ?_) ((opsOf wR).toList.drop 2) 2 [] _ a2 w I μ (fun j => by simp) sr (by rw [hP]; exact hl)
    · rw [hP] at hh; exact hh
    · obtain ⟨I2, μ2, h3⟩ := le_keep [0, 1, 3] a w I μ hsr
      have hw := wpc_sound (c := c) (by rw [hP]; exact mixed) (by rw [hn]; exact toCC_is gRest_is) hK a w I2 μ2 h3
      rw [hP] at hw
      refine wpS_of_wp (wp_mono hw fun e a' w' hu => ?_)
      rcases hu with ⟨st', I', μ', g1, rfl, g2⟩ | ⟨t, k, _⟩
      · exact ⟨g1.defers.trans hds, u', rfl, .tuple #[], by kernel_rfl, rfl, rfl, st', I', μ', g1.sim, g2⟩
      · exact (hdie t k).elim
@[simp] theorem zeroT_wr : zeroT Tryd.prog 43 = some (.agg #[]) := by kernel_rfl
@[simp] theorem szT_wr : szT Tryd.prog 43 = some 0 := by kernel_rfl
@[simp] theorem szT_bo : szT Tryd.prog 4 = some 1 := by kernel_rfl
@[simp] theorem aggT_bo : aggT Tryd.prog 4 = some false := by kernel_rfl
@[simp] theorem zeroT_bo : zeroT Tryd.prog 4 = some (.bool false) := by kernel_rfl
theorem guard_idle {w : World} {I : Nat → Prop} (hI : ∀ b, I b → b < w.heap.size) (ht : Tabs Tryd.prog w I) (p q : Value) : CallsD Tryd.prog 9 #[p, q] .returning w fun e u2 w' => e = .returned (.tuple #[]) ∧ u2 = .returning ∧ w.grownBy w' none := by
  refine (guard_run (c := cx Tryd.prog w I 11) (w := w) (I := I) (μ := mu0) (H := H0) rfl rfl rfl (fun _ h => h) (sim_start hI ht) (a0 := .any) (a1 := .any) (x6 := .tup [.agg [], bv false]) (.any _ _) (.any _ _) (u' := .returning) (v5 := .nilIface) (v6 := .tuple #[.agg #[], .bool false]) (fun c₀ cs hu => .inr ⟨by simp [recoverD, hu], rfl, rfl⟩) (by kernel_rfl) ?_ (Q := fun _ => True) ?_).mono fun e u2 w' ⟨h1, h2, st', I', μ', h3, _⟩ => ⟨h1, h2, ?_⟩
  · refine .tup _ _ _ rfl fun k y hk => ?_
    match k, hk with
    | 0, hk => simp at hk; subst hk; exact .agg _ _ _ rfl fun k y hk => by simp at hk
    | 1, hk => simp at hk; subst hk; exact .v _ _
  · unfold gOps gRest
    simp
  · have k := h3.kept
    exact ⟨k.os, k.tape, k.output, k.size, fun b hb _ => k.block b hb (fun ⟨_, h⟩ => h)⟩
theorem guard_catch {w : World} {I : Nat → Prop} {μ : Mu} {H : Hp} {c : Cx} (hP : c.P = Tryd.prog) (hn : c.n = 11) (hds : c.ds = []) (hdie : ∀ t, ¬ c.die t) (hs : Sim c w I μ H) {p q : Value} (h0 : Rel w I μ (.pob [0] 1 0) p) (h1 : Rel w I μ (.pob [1] 1 0) q) {x y : A} {cs : List A} (hc : cs.length = 11) (g0 : H [0] = ⟨1, .cells cs⟩) (g1 : H [1] = ⟨1, .cells [y]⟩) :
    CallsD Tryd.prog 9 #[p, q] (.panicking [dieE wrT]) w fun e u2 w' => e = .returned (.tuple #[]) ∧ u2 = .panicking [{ v := .iface wrT (.agg #[]), recovered := true }] ∧ ∃ H' I' μ', Sim c w' I' μ' H' ∧ H' [0] = ⟨1, .cells zE⟩ ∧ H' [1] = ⟨1, .cells [bv false]⟩ := by
  refine (guard_run (c := c) (w := w) (I := I) (μ := μ) (H := H) hP hn hds hdie hs (a0 := .pob [0] 1 0) (a1 := .pob [1] 1 0) (x6 := .tup [.agg [], bv true]) h0 h1 (u' := .panicking [{ v := .iface wrT (.agg #[]), recovered := true }]) (v5 := .iface wrT (.agg #[])) (v6 := .tuple #[.agg #[], .bool true]) (fun c₀ cs hu => .inl (by simp [recoverD, hu, dieE])) (by kernel_rfl) ?_ (Q := fun st => st.H [0] = ⟨1, .cells zE⟩ ∧ st.H [1] = ⟨1, .cells [bv false]⟩) ?_).mono fun e u2 w' ⟨h1, h2, st', I', μ', h3, h4⟩ => ⟨h1, h2, st'.H, I', μ', h3, h4.1, h4.2⟩
  · refine .tup _ _ _ rfl fun k y hk => ?_
    match k, hk with
    | 0, hk => simp at hk; subst hk; exact .agg _ _ _ rfl fun k y hk => by simp at hk
    | 1, hk => simp at hk; subst hk; exact .v _ _
  · unfold gOps gRest
    simp [hP, g0, g1, updF_app, hc, zE]
noncomputable def wB : Code := Tryd.f6.body.getD .ret
def front : Code → Code
  | .seq x _ => x
  | _ => .ret
noncomputable def wB3 : Code := behind (behind (behind wB))
def cR0 : CC := .reg [cn (some 2) (.alloc 30) none [0], cn (some 3) (.alloc 4) none [1]] [0, 2, 3]
def cR2 : CC := .reg [co (some 6) (.move (.tmp 0)) none, co (some 7) (.build 47 #[(0, .tmp 6)]) none, cn (some 8) (.box 47 (.tmp 7)) none [2], co (some 4) (.assign (.tmp 8)) none] [0, 2, 3, 4]
def c34 : CC := .seq (.reg [co (some 9) (.move (.tmp 4)) none,
    co (some 10) (.call { callee := (.value (.func 10)), args := #[(.tmp 9), (.const (.int .i64 64))], argTypes := #[45, 3] }) none,
    co none (.store 30 (.tmp 2) (.tmp 10)) none] [0, 2, 3, 4])
  (.seq (.reg [co (some 11) (.load 30 (.tmp 2)) none,
    co (some 12) (.move (.tmp 4)) none,
    co (some 13) (.nilCheck (.tmp 12)) none,
    co (some 14) (.fieldAddr 47 (.tmp 13) 1) none,
    ⟨some 15, .load 3 (.tmp 14), none, [], 4, [], true⟩,
    co (some 16) (.move (.tmp 0)) none,
    co (some 17) (.call { callee := (.builtin .len), args := #[(.tmp 16)], argTypes := #[9] }) none,
    co (some 18) (.binOp .eql 3 (.tmp 15) (.tmp 17) 3) none,
    ⟨none, .store 30 (.tmp 2) (.tmp 11), none, [], 8, [4], false⟩,
    co none (.store 4 (.tmp 3) (.tmp 18)) none] [2, 3])
  .ret)
theorem cR0_is : toCC 19 (front wB) [([0, 2, 3], [(0, [0]), (1, [1])])] = some (cR0, []) := by kernel_rfl
theorem cR2_is : toCC 19 (front (behind (behind wB))) [([0, 2, 3, 4], [(2, [2])])] = some (cR2, []) := by kernel_rfl
theorem c34_is : toCC 19 wB3 [([0, 2, 3, 4], []), ([], []), ([2, 3], []), ([], [])] = some (c34, []) := by kernel_rfl
theorem wB_is : wB = .seq (front wB) (.seq (.region 1 (opsOf (behind wB)) false) (.seq (front (behind (behind wB))) wB3)) := by kernel_rfl
/-- the deferred call -/
def dfr (p q : Value) : Deferred := ⟨.fn (.func 9) #[p, q], #[]⟩
theorem r1_wp {Q : Exit → Act → World → Prop} {a : Act} {w : World} (hs : a.tmps.size = 19) (hd : a.defers = []) (h : Q .normal ⟨a.tmps.setIfInBounds 5 (.func (.func 9) #[] #[a.eval (.tmp 2), a.eval (.tmp 3)]), [dfr (a.eval (.tmp 2)) (a.eval (.tmp 3))]⟩ w) : (Code.region 1 (opsOf (behind wB)) false).wp Tryd.prog Q a w := by
  apply wp_region
  have o0 : (opsOf (behind wB))[0]? = some ⟨some 5, .makeFunc (.func 9) #[] #[.tmp 2, .tmp 3], 1, "etext.go:232", #[], none⟩ := by kernel_rfl
  have o1 : (opsOf (behind wB))[1]? = some ⟨none, .defer { callee := .value (.tmp 5), args := #[], argTypes := #[] }, 0, "etext.go:232", #[{ on := 0, ground := .data }], none⟩ := by kernel_rfl
  have hsz : List.range (opsOf (behind wB)).size = [0, 1] := by kernel_rfl
  rw [hsz]
  simp only [wpOps, o0, o1]
  rw [if_pos (by rfl)]
  refine .inl ?_
  have e0 : ∀ ρ : Operand → Value, (execOp ρ ⟨some 5, .makeFunc (.func 9) #[] #[.tmp 2, .tmp 3], 1, "etext.go:232", #[], none⟩).run Tryd.prog w = .ok (.value (.func (.func 9) #[] #[ρ (.tmp 2), ρ (.tmp 3)])) w := fun ρ => by
    have : execOp ρ ⟨some 5, .makeFunc (.func 9) #[] #[.tmp 2, .tmp 3], 1, "etext.go:232", #[], none⟩ = (do pure (.value (← Instr.makeFunc (.func 9) ((#[] : Array Operand).map ρ) (#[.tmp 2, .tmp 3].map ρ)))) := rfl
    rw [this]
    simp only [List.map_toArray, List.map_cons, List.map_nil]
    rfl
  unfold Oper.wp
  rw [e0, Oper.upon_value]
  rw [if_pos (by rfl)]
  refine .inl ?_
  have e1 : ∀ (ρ : Operand → Value) (x y : Value), ρ (.tmp 5) = .func (.func 9) #[] #[x, y] → (execOp ρ ⟨none, .defer { callee := .value (.tmp 5), args := #[], argTypes := #[] }, 0, "etext.go:232", #[{ on := 0, ground := .data }], none⟩).run Tryd.prog w = .ok (.defer (dfr x y)) w := fun ρ x y hx => by
    have : execOp ρ ⟨none, .defer { callee := .value (.tmp 5), args := #[], argTypes := #[] }, 0, "etext.go:232", #[{ on := 0, ground := .data }], none⟩ = (do pure (.defer (← resolve ρ { callee := .value (.tmp 5), args := #[], argTypes := #[] } 0))) := rfl
    rw [this]
    simp only [resolve, hx, List.map_toArray, List.map_nil]
    rfl
  rw [e1 _ (a.eval (.tmp 2)) (a.eval (.tmp 3)) (by simp [Act.eval, Act.put, hs])]
  rw [Oper.upon_defer]
  simp only [Act.put, hd]
  exact h
theorem whole_fin {w w5 : World} {I I5 : Nat → Prop} {μ5 : Mu} {H5 : Hp} {c : Cx} (hP : c.P = Tryd.prog) (hs : Sim c w5 I5 μ5 H5) (hN : ∀ b, I5 b → I b ∨ (w.heap.size ≤ b ∧ b < w5.heap.size)) (hO : ∀ o, hasB (μ5 o) (H5 o).ob = true → w.heap.size ≤ (μ5 o).b) {tmps : Array Value} (hsz : tmps.size = 19) (h2 : Rel w5 I5 μ5 (.pob [0] 1 0) (tmps.getD 2 undef)) (h3 : Rel w5 I5 μ5 (.pob [1] 1 0) (tmps.getD 3 undef)) {e : E} {b : Bool} {cs : List A}
    (g0 : H5 [0] = ⟨1, .cells cs⟩) (hcs : cs.length = 11) (hcf : FrzL H5 cs (eL e)) (g1 : H5 [1] = ⟨1, .cells [bv b]⟩) : ∃ v, (results Tryd.f6 tmps).run Tryd.prog w5 = .ok v w5 ∧ Rel w5 (Fresh w I w5) mu0 (.tup [eX e, bv b]) v := by
  have hs2 : Sim { c with n := 19, ds := [] } w5 I5 μ5 H5 := ⟨hs.kept, hs.lt, hs.old, hs.new, hs.ver, hs.ob, hs.apart, hs.own, hs.mle, hs.tag, hs.tab⟩
  have sr : SR { c with n := 19, ds := [] } ⟨lk [(2, .pob [0] 1 0), (3, .pob [1] 1 0)], H5⟩ ⟨tmps, []⟩ w5 I5 μ5 := by
    refine ⟨hs2, hsz, rfl, fun t => ?_⟩
    show Rel w5 I5 μ5 (lk [(2, .pob [0] 1 0), (3, .pob [1] 1 0)] t) (tmps.getD t undef)
    simp only [lk_cons, lk_nil]
    by_cases t0 : 2 = t
    · subst t0; exact h2
    by_cases t1 : 3 = t
    · subst t1; exact h3
    rw [if_neg t0, if_neg t1]; exact .any _ _
  have hre : Tryd.f6.results.toList = [.cell 2 30, .cell 3 4] := by kernel_rfl
  obtain ⟨v, k1, k2⟩ := results_sound (fn := Tryd.f6) sr (x := .tup [.agg cs, bv b]) (by rw [hre]; simp [hP, resA, g0, g1, hcs, List.take_of_length_le])
  refine ⟨v, by rw [← hP]; exact k1, ?_⟩
  have hf : Frz H5 (.tup [.agg cs, bv b]) (.tup [eX e, bv b]) := frz_tup ⟨frz_agg hcf, frz_bare rfl, trivial⟩
  refine (hf _ w5 I5 μ5 v hs2 k2).mono0 (fun x hx => ?_) (fun _ _ => rfl)
  rcases hx with hx | ⟨o, g, rfl⟩
  · exact hN x hx
  · exact .inr ⟨hO o g, (hs.own o g).2.2⟩
/-! ### a call that gives up: what it turns -/
def only (r : Nat) (H : Hp) : Hp := fun o => match o with
  | j :: p => if j = r then H (j :: p) else ⟨(H (j :: p)).u, .none⟩
  | [] => ⟨(H []).u, .none⟩
theorem only_part {r : Nat} {H : Hp} : Part H (only r H) := fun o => by
  cases o with
  | nil => exact .inr rfl
  | cons j p =>
    unfold only
    by_cases hj : j = r
    · simp [hj]
    · simp [hj]
theorem dies_run {dt : TypeId} {P : Program} {f : FuncId} {az : Nat → List A} {F : Fam} (hS : DiesF dt P f az F) {c : Cx} (hP : c.P = P) {w : World} {I : Nat → Prop} {μ : Mu} {H : Hp} (r : Nat) (hs : Sim c w I μ H) (hF : ∀ p, H (r :: p) = F.F r p) {vs : Array Value} (hl : vs.size = (az r).length) (hr : ∀ (k : Nat) (y : A), (az r)[k]? = some y → Rel w I μ y (vs.getD k undef)) :
    Calls P f vs w fun e w' => e = .panicked [dieE dt] ∧ Kept (fun b => ∃ p, hasB (μ (r :: p)) (H (r :: p)).ob = true ∧ b = (μ (r :: p)).b) w w' := by
  have ho : ∀ p, (only r H) (r :: p) = H (r :: p) := fun p => by unfold only; simp
  have hF2 : ∀ p, (only r H) (r :: p) = F.F r p := fun p => (ho p).trans (hF p)
  have hH := fam_in hF2
  have hcl := fam_closed hF2
  have e1 : A.renL (dnN [r]) (fun _ => 0) (az r) = az 0 := hS.fa.ren (fun q => by simp [dnN]) (fun _ => rfl)
  have e2 : A.refsL (inS [r] 1) (az r) := hS.fa.refs (fun q => by simp [inS])
  have hk := callD_of (dt := dt) (P := P) (f := f) (rs := [r]) (m := 1) (args := az r) (Hc := ov 0 (F.F 0) (lkH [])) (H := only r H) (by simp) (by simp) (by rw [e1]; exact hS.h)
      (fun i p hi => by
        have : i = 0 := by omega
        subst this
        rw [← hH]; simp only [inHp, if_pos hi])
      (fun i p hi => by rw [← hH]; simp only [inHp]; rw [if_neg (by omega)]) (by rw [← hH]; rfl) e2
      (fun i p hi => by
        have : i = 0 := by omega
        subst this
        exact hcl _ _ (by simp)) (x := .any) (E := Eff.fn [r] (ov r (Fam.dead.F r) (only r H)))
  have hs1 := hs.part (only_part (r := r))
  have hs2 : Sim ⟨P, w, I, fun o b => ∃ p, o = r :: p ∧ hasB (μ (r :: p)) (H (r :: p)).ob = true ∧ b = (μ (r :: p)).b, 0, μ, fun _ => False, []⟩ w I μ (only r H) := by
    refine ⟨⟨rfl, rfl, rfl, Nat.le_refl _, fun _ _ _ => rfl⟩, hs1.lt, fun _ h => h, fun b hb => .inl hb, hs1.ver, hs1.ob, hs1.apart, fun o k => ?_, MuLe.refl _, hs1.tag, by subst hP; exact hs1.tab⟩
    obtain ⟨g1, _, g3⟩ := hs1.own o k
    refine ⟨g1, .inl ?_, g3⟩
    cases o with
    | nil => cases k
    | cons j p =>
      by_cases hj : j = r
      · subst hj
        rw [ho] at k
        exact ⟨p, rfl, k, rfl⟩
      · unfold only at k; simp only [if_neg hj] at k; cases k
  refine (hk.2 _ w I μ vs rfl hs2 hl hr).mono fun e w' hh => ?_
  rcases hh with ⟨v, _, I', μ', _, h2, _⟩ | ⟨t, rfl, h2, h3⟩
  · have := h2.ob [r]
    rw [show (Eff.fn [r] (ov r (Fam.dead.F r) (only r H))).app (only r H) [r] = ⟨1, .cells [.any]⟩ by simp [Eff.app, dead_F]] at this
    obtain ⟨vs, _, _, h3⟩ := this
    have := (h3 0 .any rfl).1
    cases this
  · exact ⟨h2, h3.os, h3.tape, h3.output, h3.size, fun b hb hn => h3.block b hb fun ⟨o, p, _, k1, k2⟩ => hn ⟨p, k1, k2⟩⟩
/-! ### whole -/
def wholeE (s : List UInt8) : E × Bool := match editE 64 s with
  | some (e, n) => (e, decide (n = s.length))
  | none => (E0, false)
def c1W (P : Program) (w : World) (I : Nat → Prop) (d : Deferred) (m : Mu) : Cx := ⟨P, w, I, fun _ _ => False, 19, m, fun _ => False, [d]⟩
def H1w : Hp := lkH [([0], ⟨1, .cells zE⟩), ([1], ⟨1, .cells [bv false]⟩)]
def H2w (s : List UInt8) : Hp := lkH [([0], ⟨1, .cells zE⟩), ([1], ⟨1, .cells [bv false]⟩), ([2], ⟨1, .cells [S s, iv 0]⟩)]
@[simp] theorem buildA_rd (ps : List (Nat × A)) : buildA Tryd.prog 47 ps = (fillA (fun i => ([(0, 1), (1, 1)] : List (Nat × Nat))[i]?) [A.v (Value.string ByteArray.empty), A.v (Value.int IntKind.i64 0)] ps).map A.agg := by kernel_rfl
theorem whole_r0 {w : World} {I : Nat → Prop} (s : List UInt8) : WPC (cx Tryd.prog w I 19) cR0 (fun e st => e = .normal ∧ st = ⟨lk [(0, S s), (2, .pob [0] 1 0), (3, .pob [1] 1 0)], H1w⟩) ⟨argS [S s], H0⟩ := by
  unfold cR0
  simp [H1w, H0, zE]
theorem whole_r2 {w : World} {I : Nat → Prop} {d : Deferred} {m : Mu} (s : List UInt8) : WPC (c1W Tryd.prog w I d m) cR2 (fun e st => e = .normal ∧ st = ⟨lk [(0, S s), (2, .pob [0] 1 0), (3, .pob [1] 1 0), (4, .pob [2] 1 0)], H2w s⟩) ⟨lk [(0, S s), (2, .pob [0] 1 0), (3, .pob [1] 1 0)], H1w⟩ := by
  unfold cR2
  simp [H1w, H2w, c1W]
theorem whole_r34 {w : World} {I : Nat → Prop} {d : Deferred} {m : Mu} {s : List UInt8} (hs : s.length ≤ 1000000000) {e : E} {n : Nat} (he : editE 64 s = some (e, n)) : WPC (c1W Tryd.prog w I d m) c34 (fun ex st => ex = .ret ∧ st.s 2 = .pob [0] 1 0 ∧ st.s 3 = .pob [1] 1 0 ∧ st.H [0] = ⟨1, .cells (eL e)⟩ ∧ st.H [1] = ⟨1, .cells [bv (decide (n = s.length))]⟩) ⟨lk [(0, S s), (2, .pob [0] 1 0), (3, .pob [1] 1 0), (4, .pob [2] 1 0)], H2w s⟩ := by
  have t0 := eedit_spec hs 64 (by omega) 0 (by omega)
  rw [List.drop_zero, he] at t0
  unfold c34
  simp [c1W]
  refine sc_fam 2 t0 (fun p => ?_) (by simp) (by simp) ?_
  · by_cases hp : p = [] <;> simp [hp, H2w]
  simp [H2w, zE]
  exact ⟨fun h => by omega, fun h => by omega⟩
theorem wB3_is : wB3 = .seq (.region 3 (opsOf wB3) false) (behind wB3) := by kernel_rfl
theorem enter_run {P : Program} {g : FuncId} (hk : okFn P g = true) (vs : Array Value) (w : World) : (callFunc g vs).run P w = .ok (.enter g vs) w := by
  unfold okFn at hk
  cases hf : P.funcs[g]? with
  | none => simp [hf] at hk
  | some fn =>
    simp only [hf, Bool.and_eq_true, Bool.not_eq_true'] at hk
    have hb : fn.body.isNone = false := by cases hq : fn.body <;> simp_all
    simp only [callFunc, Sem.run_bind, run_program, Result.andThen_ok, hf, hk.2, hb, Bool.false_eq_true, if_false, Sem.run_pure]
theorem whole_sr0 {s : List UInt8} {w : World} {I : Nat → Prop} {vs : Array Value} (hI : ∀ b, I b → b < w.heap.size) (htb : Tabs Tryd.prog w I) (hl : vs.size = [S s].length) (hr : ∀ (k : Nat) (y : A), [S s][k]? = some y → Rel w I mu0 y (vs.getD k undef)) :
    SR (cx Tryd.prog w I 19) ⟨argS [S s], H0⟩ ⟨vs ++ Array.replicate (Tryd.f6.ntmps - vs.size) undef, []⟩ w I mu0 := by
  have hn2 : Tryd.f6.ntmps = 19 := by kernel_rfl
  rw [hn2]
  refine ⟨sim_start hI htb, ?_, rfl, fun t => ?_⟩
  · simp at hl ⊢
    show _ = 19
    omega
  · show Rel w I mu0 (argS [S s] t) _
    unfold argS
    cases hq : [S s][t]? with
    | none => exact .any _ _
    | some y =>
      have hlt := (List.getElem?_eq_some_iff.1 hq).1
      have e : (vs ++ Array.replicate (19 - vs.size) undef).getD t undef = vs.getD t undef := by
        simp only [Array.getD_eq_getD_getElem?]
        rw [Array.getElem?_append_left (by omega)]
      rw [e]
      exact hr t y hq
theorem pob_mu {w w' : World} {I I' : Nat → Prop} {μ μ' : Mu} {o : Nm} {u off : Nat} {v : Value} (h : Rel w I μ (.pob o u off) v) (hm : MuLe μ μ') : Rel w' I' μ' (.pob o u off) v := by
  cases h with
  | pob _ _ _ _ b k h1 h2 h3 =>
    have := hm o
    refine .pob _ _ _ _ _ _ h1 (by omega) fun e => ?_
    have e2 : (μ' o).u = (μ o).u := by omega
    rw [this.2 e2]
    exact h3 (by omega)
theorem ewhole_spec {s : List UInt8} (hs : s.length ≤ 1000000000) : G.Spec Tryd.prog 6 [S s] (.tup [eX (wholeE s).1, bv (wholeE s).2]) := by
  refine ⟨by kernel_rfl, fun w I vs hI htb hl hr => ?_⟩
  have hb : Tryd.f6.body = some wB := by kernel_rfl
  refine calls_of_wp_defers Tryd.func6 hb ?_
  have sr0 := whole_sr0 hI htb hl hr
  revert sr0
  generalize (⟨vs ++ Array.replicate (Tryd.f6.ntmps - vs.size) undef, []⟩ : Act) = a0
  intro sr0
  rw [wB_is]
  have g0 := wpc_sound (c := cx Tryd.prog w I 19) mixed (toCC_is cR0_is) (whole_r0 s) a0 w I mu0 sr0
  refine wp_seq (wp_mono g0 fun ex a1 w1 hu => ?_)
  rcases hu with ⟨_, I1, μ1, k1, rfl, rfl⟩ | ⟨_, k, _⟩
  case inr => exact k.elim
  refine wp_seq (r1_wp k1.size k1.defers ?_)
  obtain ⟨p, hp⟩ : ∃ p, p = a1.eval (.tmp 2) := ⟨_, rfl⟩
  obtain ⟨q, hq⟩ : ∃ q, q = a1.eval (.tmp 3) := ⟨_, rfl⟩
  rw [← hp, ← hq]
  have sr1 : SR (c1W Tryd.prog w I (dfr p q) μ1) ⟨lk [(0, S s), (2, .pob [0] 1 0), (3, .pob [1] 1 0)], H1w⟩ ⟨a1.tmps.setIfInBounds 5 (.func (.func 9) #[] #[p, q]), [dfr p q]⟩ w1 I1 μ1 := by
    refine ⟨⟨k1.sim.kept, k1.sim.lt, k1.sim.old, k1.sim.new, k1.sim.ver, k1.sim.ob, k1.sim.apart, k1.sim.own, MuLe.refl _, k1.sim.tag, k1.sim.tab⟩, (Array.size_setIfInBounds ..).trans k1.size, rfl, fun t => ?_⟩
    by_cases t5 : t = 5
    · subst t5; simp; exact .any _ _
    · have e : (a1.tmps.setIfInBounds 5 (.func (.func 9) #[] #[p, q])).getD t undef = a1.tmps.getD t undef := by
        simp only [Array.getD_eq_getD_getElem?]
        rw [Array.getElem?_setIfInBounds_ne (Ne.symm t5)]
      rw [e]
      exact k1.rel t
  have hpp : Rel w1 I1 μ1 (.pob [0] 1 0) p := by rw [hp]; exact k1.rel 2
  have hqq : Rel w1 I1 μ1 (.pob [1] 1 0) q := by rw [hq]; exact k1.rel 3
  have g2 := wpc_sound (c := c1W Tryd.prog w I (dfr p q) μ1) mixed (toCC_is cR2_is) (whole_r2 s) _ w1 I1 μ1 sr1
  refine wp_seq (wp_mono g2 fun ex a2 w2 hu => ?_)
  rcases hu with ⟨_, I2, μ2, k2, rfl, rfl⟩ | ⟨_, k, _⟩
  case inr => exact k.elim
  have hinv : ∀ w', (invoke (dfr p q).target #[]).run Tryd.prog w' = .ok (.enter 9 #[p, q]) w' := fun _ => by kernel_rfl
  cases hE : editE 64 s with
  | some r =>
    obtain ⟨e, n⟩ := r
    have hW : wholeE s = (e, decide (n = s.length)) := by unfold wholeE; rw [hE]
    rw [hW]
    have g3 := wpc_sound (c := c1W Tryd.prog w I (dfr p q) μ1) mixed (toCC_is c34_is) (whole_r34 hs hE) _ w2 I2 μ2 k2
    refine wp_mono g3 fun ex a3 w3 hu => ?_
    rcases hu with ⟨st, I3, μ3, k3, rfl, j2, j3, j0, j1⟩ | ⟨_, k, _⟩
    case inr => exact k.elim
    show Leaves Tryd.prog _ a3.tmps _ a3.defers .returning w3
    rw [k3.defers]
    refine leaves_cons (by simp) (hinv w3) ((guard_idle k3.sim.lt k3.sim.tab p q).mono fun e2 u w' hh => ?_)
    obtain ⟨rfl, rfl, hg⟩ := hh
    obtain ⟨hx, hs'⟩ := k3.sim.same hg (fun _ h => h) (fun _ h => .inl h)
    have r2 := k3.rel 2
    have r3 := k3.rel 3
    rw [j2] at r2
    rw [j3] at r3
    obtain ⟨v, f1, f2⟩ := whole_fin (w := w) (I := I) rfl hs' (fun b hb => (hs'.new b hb).imp id fun h => ⟨h, hs'.lt b hb⟩) (fun o k => (hs'.own o k).2.1.resolve_left id) k3.size (hx.rel r2) (hx.rel r3) j0 rfl ⟨frz_bare rfl, frz_bare rfl, frz_sl, frz_sl, frz_bare rfl, frz_sl, frz_sl, frz_sl, frz_sl, frz_bare rfl, frz_sl, trivial⟩ j1
    have kp := hs'.kept
    exact ⟨v, f1, v, rfl, ⟨kp.os, kp.tape, kp.output, kp.size, fun b hb => kp.block b hb (fun ⟨_, h⟩ => h)⟩, f2⟩
  | none =>
    have hW : wholeE s = (E0, false) := by unfold wholeE; rw [hE]
    rw [hW]
    rw [wB3_is]
    refine wp_seq (wp_region ?_)
    have o0 : (opsOf wB3)[0]? = some ⟨some 9, .move (.tmp 4), 45, "etext.go:238", #[], none⟩ := by kernel_rfl
    have o1 : (opsOf wB3)[1]? = some ⟨some 10, .call { callee := .value (.func 10), args := #[.tmp 9, .const (.int .i64 64)], argTypes := #[45, 3] }, 30, "etext.go:238", #[{ on := 0, ground := .data }], none⟩ := by kernel_rfl
    have hsz : List.range (opsOf wB3).size = [0, 1, 2] := by kernel_rfl
    rw [hsz]
    have x0 : ∀ ρ : Operand → Value, (execOp ρ ⟨some 9, .move (.tmp 4), 45, "etext.go:238", #[], none⟩).run Tryd.prog w2 = .ok (.value (ρ (.tmp 4))) w2 := fun _ => rfl
    have x1 : ∀ a : Act, (execOp a.eval ⟨some 10, .call { callee := .value (.func 10), args := #[.tmp 9, .const (.int .i64 64)], argTypes := #[45, 3] }, 30, "etext.go:238", #[{ on := 0, ground := .data }], none⟩).run Tryd.prog w2 = .ok (.enter 10 #[a.eval (.tmp 9), .int .i64 64]) w2 := fun a => by
      rw [show execOp a.eval ⟨some 10, .call { callee := .value (.func 10), args := #[.tmp 9, .const (.int .i64 64)], argTypes := #[45, 3] }, 30, "etext.go:238", #[{ on := 0, ground := .data }], none⟩ = callFunc 10 (#[] ++ #[Operand.tmp 9, .const (.int .i64 64)].map a.eval ++ #[]) from rfl]
      rw [show (#[] ++ #[Operand.tmp 9, .const (.int .i64 64)].map a.eval ++ #[] : Array Value) = #[a.eval (.tmp 9), .int .i64 64] by simp [Act.eval]]
      exact enter_run (by kernel_rfl) _ _
    rw [wpOps, o0]
    simp only
    rw [if_pos (by rfl)]
    refine .inl ?_
    unfold Oper.wp
    rw [x0, Oper.upon_value]
    rw [wpOps, o1]
    simp only
    rw [if_pos (by rfl)]
    refine .inl ?_
    unfold Oper.wp
    rw [x1, Oper.upon_enter]
    obtain ⟨a3, ha3⟩ : ∃ a3, a3 = a2.put (some 9) (a2.eval (.tmp 4)) := ⟨_, rfl⟩
    rw [← ha3]
    have t0 := eedit_spec hs 64 (by omega) 0 (by omega)
    rw [List.drop_zero, hE] at t0
    have hv : a3.eval (.tmp 9) = a2.tmps.getD 4 undef := by
      rw [ha3]
      have := k2.size
      have : 9 < a2.tmps.size := by rw [this]; show 9 < 19; omega
      simp [Act.eval, Act.put, this]
    have e3 : a3.tmps.size = 19 := by
      rw [ha3]; simp only [Act.put, Array.size_setIfInBounds]; exact k2.size
    have e4 : a3.defers = [dfr p q] := by rw [ha3]; exact k2.defers
    have e5 : ∀ t, t ≠ 9 → a3.tmps.getD t undef = a2.tmps.getD t undef := fun t ht => by
      rw [ha3]
      simp only [Act.put, Array.getD_eq_getD_getElem?]
      rw [Array.getElem?_setIfInBounds_ne (Ne.symm ht)]
    have r4 := k2.rel 4
    refine (dies_run t0 (c := c1W Tryd.prog w I (dfr p q) μ1) rfl 2 k2.sim (fun p => by by_cases hp : p = [] <;> simp [hp, H2w]) (vs := #[a3.eval (.tmp 9), .int .i64 64]) (by simp) (fun k y hk => ?_)).mono fun e2 w3 hh => ?_
    · match k, hk with
      | 0, hk => simp at hk; subst hk; show Rel _ _ _ _ (a3.eval (.tmp 9)); rw [hv]; exact r4
      | 1, hk => simp at hk; subst hk; exact .v _ _
    · obtain ⟨rfl, hkp⟩ := hh
      show Leaves Tryd.prog _ a3.tmps _ a3.defers (.panicking [dieE wrT]) w3
      rw [e4]
      have hg : w2.grownBy w3 (some (μ2 [2]).b) := ⟨hkp.os, hkp.tape, hkp.output, hkp.size, fun b hb hne => hkp.block b hb fun ⟨p, k, e⟩ => by
        by_cases hp : p = []
        · subst hp; exact hne (by rw [e])
        · simp [H2w, hp] at k; cases k⟩
      have hB2 : hasB (μ2 [2]) (H2w s [2]).ob = true := by simp [H2w]; rfl
      obtain ⟨_, hs3⟩ := k2.sim.upd hg [2] (μ2 [2]) .none (.inr ⟨rfl, hB2⟩) (.inr rfl) (fun h => nomatch h) (fun h => nomatch h) (fun _ => trivial)
      have eμ : updF μ2 [2] (μ2 [2]) = μ2 := by funext o; unfold updF; split <;> simp_all
      rw [eμ] at hs3
      obtain ⟨H3, hH3⟩ : ∃ H3, H3 = (updF (H2w s) [2] ⟨(μ2 [2]).u, .none⟩ : Hp) := ⟨_, rfl⟩
      have g30 : H3 [0] = ⟨1, .cells zE⟩ := by rw [hH3]; simp [H2w]
      have g31 : H3 [1] = ⟨1, .cells [bv false]⟩ := by rw [hH3]; simp [H2w]
      have hs3 : Sim (c1W Tryd.prog w I (dfr p q) μ1) w3 I2 μ2 H3 := by rw [hH3]; exact hs3
      have hsC : Sim ⟨Tryd.prog, w3, I2, fun o b => hasB (μ2 o) (H3 o).ob = true ∧ b = (μ2 o).b, 11, μ2, fun _ => False, []⟩ w3 I2 μ2 H3 :=
        ⟨⟨rfl, rfl, rfl, Nat.le_refl _, fun _ _ _ => rfl⟩, hs3.lt, fun _ h => h, fun b hb => .inl hb, hs3.ver, hs3.ob, hs3.apart, fun o k => ⟨(hs3.own o k).1, .inl ⟨k, rfl⟩, (hs3.own o k).2.2⟩, MuLe.refl _, hs3.tag, hs3.tab⟩
      have hpe : Rel w3 I2 μ2 (.pob [0] 1 0) p := pob_mu hpp k2.sim.mle
      have hqe : Rel w3 I2 μ2 (.pob [1] 1 0) q := pob_mu hqq k2.sim.mle
      have r2 : Rel w3 I2 μ2 (.pob [0] 1 0) (a3.tmps.getD 2 undef) := by rw [e5 2 (by omega)]; exact pob_mu (k2.rel 2) (MuLe.refl _)
      have r3 : Rel w3 I2 μ2 (.pob [1] 1 0) (a3.tmps.getD 3 undef) := by rw [e5 3 (by omega)]; exact pob_mu (k2.rel 3) (MuLe.refl _)
      refine leaves_cons (by simp) (hinv w3) ((guard_catch rfl rfl rfl (fun _ h => h) hsC hpe hqe (x := .any) rfl g30 g31).mono fun e2 u w4 hh => ?_)
      obtain ⟨rfl, rfl, H4, I4, μ4, hs4, g40, g41⟩ := hh
      have kp := hs4.kept
      have ow : ∀ o, hasB (μ2 o) (H3 o).ob = true → w.heap.size ≤ (μ2 o).b := fun o k => (hs3.own o k).2.1.resolve_left id
      have hsz3 : w.heap.size ≤ w3.heap.size := hs3.kept.size
      have hx : Ext I2 μ2 w3 I4 μ4 w4 := ⟨hs4.old, fun b hb => kp.block b (hs3.lt b hb) fun ⟨o, k, e⟩ => (hs3.own o k).1 (by rw [← e]; exact hb), hs4.mle⟩
      obtain ⟨v, f1, f2⟩ := whole_fin (w := w) (I := I) (e := E0) rfl hs4 (fun b hb => by
        have hlt := hs4.lt b hb
        rcases hs4.new b hb with h | h
        · exact (hs3.new b h).imp id fun h => ⟨h, hlt⟩
        · exact .inr ⟨Nat.le_trans hsz3 h, hlt⟩) (fun o k => by
        rcases (hs4.own o k).2.1 with ⟨h1, h2⟩ | h
        · rw [h2]; exact ow o h1
        · exact Nat.le_trans hsz3 h) e3 (hx.rel r2) (hx.rel r3) g40 rfl ⟨frz_bare rfl, frz_bare rfl, frz_sl, frz_sl, frz_bare rfl, frz_sl, frz_sl, frz_sl, frz_sl, frz_bare rfl, frz_sl, trivial⟩ g41
      have kp0 := hs3.kept
      exact ⟨v, f1, v, rfl, ⟨kp.os.trans kp0.os, kp.tape.trans kp0.tape, kp.output.trans kp0.output, Nat.le_trans kp0.size kp.size, fun b hb => (kp.block b (Nat.lt_of_lt_of_le hb hsz3) fun ⟨o, k, e⟩ => by
        have := ow o k
        omega).trans (kp0.block b hb (fun ⟨_, h⟩ => h))⟩, f2⟩
end Go.Proofs.YtebihdhapepejaaDoor

/-
  Chapter 29: the maker of trees; the first error stays.
-/
namespace Go.Proofs.YtebihdhapepejaaDoor
set_option linter.unusedVariables false
set_option linter.unusedSimpArgs false
open Go Go.G Go.Proofs Go.PL
abbrev z0 : List A := [iv 0, .sl true [], .sl true []]
end Go.Proofs.YtebihdhapepejaaDoor

/-
  The document's edits: parts, lengths.
-/
namespace Go.Proofs.YtebihdhapepejaaDoor
set_option linter.unusedVariables false
set_option linter.unusedSimpArgs false
open Go Go.G Go.Proofs Go.PL
theorem bytesN_get : ∀ (m : Nat) (x : Int) (i : Nat), i < m → (bytesN m x).getD i 0 = x / 256 ^ i % 256
  | m + 1, x, 0, _ => by simp [bytesN]
  | m + 1, x, i + 1, h => by
    have := bytesN_get m (x / 256) i (by omega)
    simp only [bytesN, List.getD_cons_succ, this]
    rw [Int.ediv_ediv_of_nonneg (by decide), ← Int.pow_succ']
theorem ofZ_zero : ∀ (l : List Int), (∀ b, b ∈ l → 0 ≤ b ∧ b < 256) → (ofZ l = 0 ↔ ∀ b, b ∈ l → b = 0)
  | [], _ => by simp [ofZ]
  | b :: l, h => by
    have h1 := h b (by simp)
    have h2 := ofZ_range l fun x hx => h x (by simp [hx])
    have ih := ofZ_zero l fun x hx => h x (by simp [hx])
    simp only [ofZ, List.mem_cons, forall_eq_or_imp, ← ih]
    omega
theorem mix_zero (w mask : Int) : decide (mixZ w 0 mask = 0) = withinZ w mask := by
  rw [Bool.eq_iff_iff]
  unfold mixZ
  rw [decide_eq_true_eq, ofZ_zero _ mixL_range]
  have e : mixL (bytesZ w) (bytesZ 0) mask 8 = (List.range 8).map fun i => if namedZ mask i = true then (bytesZ 0).getD i 0 else (bytesZ w).getD i 0 := by
    unfold mixL
    rw [List.drop_of_length_le (by rw [bytesZ_length]; omega), List.append_nil]
  rw [e]
  simp only [withinZ, List.all_eq_true, List.mem_map, List.mem_range, Bool.or_eq_true, decide_eq_true_eq]
  have hz : ∀ i, i < 8 → (bytesZ 0).getD i 0 = 0 := fun i hi => by
    unfold bytesZ
    rw [bytesN_get 8 0 i hi]; simp
  constructor
  · intro h i hi
    by_cases hn : namedZ mask i = true
    · left; simpa [namedZ] using hn
    · right
      have := h _ ⟨i, hi, rfl⟩
      rw [if_neg hn] at this
      unfold bytesZ at this
      rwa [bytesN_get 8 w i hi] at this
  · rintro h b ⟨i, hi, rfl⟩
    by_cases hn : namedZ mask i = true
    · rw [if_pos hn]; exact hz i hi
    · rw [if_neg hn]
      rcases h i hi with h | h
      · exact absurd (by simpa [namedZ] using h) hn
      · unfold bytesZ
        rw [bytesN_get 8 w i hi]; exact h
/-! ### lengths -/
theorem sat_range {n : Int} (h : 0 ≤ n) : 0 ≤ sat n ∧ sat n ≤ 1048576 := by unfold sat; split <;> omega
section
variable {n0 : Nat} {w0 : World} {I0 : Nat → Prop} {Q : Exit → Sta → Prop}
end
/-! ### how many parts -/
section
variable {n0 : Nat} {w0 : World} {I0 : Nat → Prop} {Q : Exit → Sta → Prop}
end
end Go.Proofs.YtebihdhapepejaaDoor

/-
  The document's edits: which ones are right, and light.
-/
namespace Go.Proofs.YtebihdhapepejaaDoor
set_option linter.unusedVariables false
set_option linter.unusedSimpArgs false
open Go Go.G Go.Proofs Go.PL
section
variable {n0 : Nat} {w0 : World} {I0 : Nat → Prop} {Q : Exit → Sta → Prop}
end
/-! ### an edit -/
section
variable {n0 : Nat} {w0 : World} {I0 : Nat → Prop} {Q : Exit → Sta → Prop}
end
theorem op_n {d : Nat} {list : Int} {o : OP} (h : rightO d list o = true) : 0 ≤ o.n ∧ o.n ≤ 1048576 := by
  rw [rightO_eq, Bool.and_eq_true] at h
  have h1 := h.1
  unfold opFlat at h1
  split at h1
  · simp at h1; omega
  · split at h1
    · cases h1
    · omega
end Go.Proofs.YtebihdhapepejaaDoor

/-
  Chapter 1: words mixed byte by byte, by the program.
-/
namespace Go.Proofs.YtebihdhapepejaaDoor
set_option linter.unusedVariables false
set_option linter.unusedSimpArgs false
open Go Go.G Go.Proofs Go.PL
def mixN : Nat → Nat → Nat → Nat → Nat
  | 0, _, _, _ => 0
  | k + 1, a, b, m => (if m % 2 = 1 then b % 256 else a % 256) + 256 * mixN k (a / 256) (b / 256) (m / 2)
def wideN : Nat → Nat → Nat
  | 0, _ => 0
  | k + 1, m => (if m % 2 = 1 then 255 else 0) + 256 * wideN k (m / 2)
theorem wideN_lt : ∀ k m, wideN k m < 256 ^ k
  | 0, m => by simp [wideN]
  | k + 1, m => by
    have := wideN_lt k (m / 2)
    simp only [wideN, Nat.pow_succ]
    split <;> omega
theorem mixN_bits : ∀ k a b m, a < 256 ^ k → b < 256 ^ k → (a &&& (256 ^ k - 1 - wideN k m)) ||| (b &&& wideN k m) = mixN k a b m
  | 0, a, b, m, ha, hb => by
    simp at ha hb
    subst ha hb
    simp [mixN, wideN]
  | k + 1, a, b, m, ha, hb => by
    have hw := wideN_lt k (m / 2)
    rw [Nat.pow_succ] at ha hb
    have ih := mixN_bits k (a / 256) (b / 256) (m / 2) (by omega) (by omega)
    have p0 : 0 < 256 ^ k := Nat.pow_pos (by decide)
    generalize hx : (a &&& (256 ^ (k + 1) - 1 - wideN (k + 1) m)) ||| (b &&& wideN (k + 1) m) = x
    have d1 : wideN (k + 1) m / 256 = wideN k (m / 2) := by simp only [wideN]; split <;> omega
    have d2 : (256 ^ (k + 1) - 1 - wideN (k + 1) m) / 256 = 256 ^ k - 1 - wideN k (m / 2) := by simp only [wideN, Nat.pow_succ]; split <;> omega
    have m1 : wideN (k + 1) m % 256 = if m % 2 = 1 then 255 else 0 := by simp only [wideN]; split <;> omega
    have m2 : (256 ^ (k + 1) - 1 - wideN (k + 1) m) % 256 = if m % 2 = 1 then 0 else 255 := by simp only [wideN, Nat.pow_succ]; split <;> omega
    have e1 : x / 256 = mixN k (a / 256) (b / 256) (m / 2) := by
      have q1 := @Nat.or_div_two_pow (a &&& (256 ^ (k + 1) - 1 - wideN (k + 1) m)) (b &&& wideN (k + 1) m) 8
      have q2 := @Nat.and_div_two_pow a (256 ^ (k + 1) - 1 - wideN (k + 1) m) 8
      have q3 := @Nat.and_div_two_pow b (wideN (k + 1) m) 8
      have c : (2 : Nat) ^ 8 = 256 := rfl
      rw [q2, q3, c, d1, d2, hx] at q1
      rw [q1, ih]
    have e2 : x % 256 = if m % 2 = 1 then b % 256 else a % 256 := by
      have h : x % 2 ^ 8 = (a % 2 ^ 8 &&& (256 ^ (k + 1) - 1 - wideN (k + 1) m) % 2 ^ 8) ||| (b % 2 ^ 8 &&& wideN (k + 1) m % 2 ^ 8) := by
        rw [← hx, Nat.or_mod_two_pow, Nat.and_mod_two_pow, Nat.and_mod_two_pow]
      have c : (2 : Nat) ^ 8 = 256 := rfl
      rw [c, m1, m2] at h
      rw [h]
      have h255 : (255 : Nat) = 2 ^ 8 - 1 := rfl
      split
      · rw [h255, Nat.and_two_pow_sub_one_eq_mod]; simp
      · rw [h255, Nat.and_two_pow_sub_one_eq_mod]; simp
    simp only [mixN]
    omega
theorem mx_range : ∀ (k : Nat) (a b mask : Int), 0 ≤ a → 0 ≤ b → 0 ≤ mask → ofZ ((List.range k).map fun i => if namedZ mask i = true then (bytesN k b).getD i 0 else (bytesN k a).getD i 0) = (mixN k a.toNat b.toNat mask.toNat : Nat)
  | 0, a, b, mask, _, _, _ => by simp [ofZ, mixN]
  | k + 1, a, b, mask, ha, hb, hm => by
    have ih := mx_range k (a / 256) (b / 256) (mask / 2) (by omega) (by omega) (by omega)
    have e1 : (a / 256).toNat = a.toNat / 256 := by omega
    have e2 : (b / 256).toNat = b.toNat / 256 := by omega
    have e3 : (mask / 2).toNat = mask.toNat / 2 := by omega
    rw [e1, e2, e3] at ih
    rw [List.range_succ_eq_map, List.map_cons, List.map_map, ofZ]
    have h : (List.range k).map ((fun i => if namedZ mask i = true then (bytesN (k + 1) b).getD i 0 else (bytesN (k + 1) a).getD i 0) ∘ Nat.succ) = (List.range k).map fun i => if namedZ (mask / 2) i = true then (bytesN k (b / 256)).getD i 0 else (bytesN k (a / 256)).getD i 0 := by
      refine List.map_congr_left fun i _ => ?_
      have hn : namedZ mask (i + 1) = namedZ (mask / 2) i := by
        unfold namedZ
        have : mask / 2 ^ (i + 1) = mask / 2 / 2 ^ i := by
          rw [Int.ediv_ediv_of_nonneg (by decide), Int.pow_succ, Int.mul_comm]
        rw [this]
      simp [bytesN, hn]
    rw [h, ih]
    have h0 : (namedZ mask 0 = true) = (mask.toNat % 2 = 1) := by
      simp [namedZ]
      omega
    simp only [h0, mixN, bytesN, List.getD_cons_zero]
    split <;> omega
theorem mixZ_nat {a b mask : Int} (ha : u64R a) (hb : u64R b) (h0 : 0 ≤ mask) : mixZ a b mask = (mixN 8 a.toNat b.toNat mask.toNat : Nat) := by
  rw [← mx_range 8 a b mask ha.1 hb.1 h0]
  unfold mixZ mixL bytesZ
  rw [List.drop_eq_nil_of_le (by simp), List.append_nil]
def wS (mask : Int) : Nat → Int
  | 0 => 0
  | i + 1 => if bits .and .u8 (mask / 2 ^ min i 8) 1 = 1 then bits .or .u64 (wS mask i) (IntKind.u64.wrap (255 * 2 ^ min (8 * i) 64)) else wS mask i
theorem wS_all : ∀ m : Nat, m < 256 → wS m 8 = (wideN 8 m : Nat) := by decide +kernel
section
variable {n0 : Nat} {w0 : World} {I0 : Nat → Prop} {Q : Exit → Sta → Prop}
theorem mxwide_l1 {mask : Int} (hq : ∀ q, Q (.exit 0) ⟨lk [(0, u8 mask), (3, uv (wS mask 8)), (5, iv 8), (6, bv q)], lkH []⟩) :
    ∀ (j i : Nat), i + j = 8 → LoopC (cx Tryd.prog w0 I0 n0) l1_word_Wide Q ⟨lk [(0, u8 mask), (3, uv (wS mask i)), (5, iv i)], lkH []⟩ := by
  intro j
  induction j with
  | zero =>
    intro i hi
    have : i = 8 := by omega
    subst this
    refine loopC_once mixed l1_word_Wide.eq_1 ?_
    simp
    exact hq _
  | succ j ih =>
    intro i hi
    refine loopC_once mixed l1_word_Wide.eq_1 ?_
    have hlt : i < 8 := by omega
    have hlt2 : (i : Int) < 8 := by omega
    have e8 : IntKind.i64.wrap (8 * (i : Int)) = ((8 * i : Nat) : Int) := (i64_same (by omega) (by omega)).trans (by omega)
    have ei : IntKind.i64.wrap ((i : Int) + 1) = ((i + 1 : Nat) : Int) := i64_same (by omega) (by omega)
    have b8 : IntKind.u8.bits = 8 := rfl
    have b64 : IntKind.u64.bits = 64 := rfl
    have hs := ih (i + 1) (by omega)
    rw [wS] at hs
    have e9 : (8 * (i : Int)).toNat = 8 * i := by omega
    simp [hlt, hlt2, e8, ei, b8, b64, e9]
    refine ⟨fun hc => ⟨by omega, ?_⟩, fun hc => ?_⟩
    · rw [if_pos hc] at hs
      exact hs
    · rw [if_neg hc] at hs
      exact hs
end
theorem pWide_spec {mask : Int} (h0 : 0 ≤ mask) (h1 : mask < 256) : G.Spec Tryd.prog 53 [u8 mask] (uv (wideN 8 mask.toNat : Nat)) := by
  refine spec_of t_word_Wide (by simp) fun w0 I0 => ?_
  unfold c_word_Wide
  simp
  obtain ⟨m, rfl⟩ := Int.eq_ofNat_of_zero_le h0
  refine mxwide_l1 (fun q => ?_) 8 0 rfl
  simp
  rw [wS_all m (by omega)]
  exact frz_bare rfl
theorem mx_nat {x : Nat} (h : x < 2 ^ 64) : (BitVec.ofInt 64 (x : Int)).toNat = x := by
  rw [BitVec.toNat_ofInt]
  omega
theorem mx_and {x y : Nat} (hx : x < 2 ^ 64) (hy : y < 2 ^ 64) : bits .and .u64 x y = (x &&& y : Nat) := by
  have h := Nat.lt_of_le_of_lt (Nat.and_le_left (n := x) (m := y)) hx
  show IntKind.u64.wrap ((BitVec.ofInt 64 x &&& BitVec.ofInt 64 y).toNat : Nat) = _
  rw [BitVec.toNat_and, mx_nat hx, mx_nat hy]
  exact u64_same (by omega) (by omega)
theorem mx_or {x y : Nat} (hx : x < 2 ^ 64) (hy : y < 2 ^ 64) : bits .or .u64 x y = (x ||| y : Nat) := by
  have h := Nat.or_lt_two_pow hx hy
  show IntKind.u64.wrap ((BitVec.ofInt 64 x ||| BitVec.ofInt 64 y).toNat : Nat) = _
  rw [BitVec.toNat_or, mx_nat hx, mx_nat hy]
  exact u64_same (by omega) (by omega)
theorem mx_andN {x y : Nat} (hx : x < 2 ^ 64) (hy : y < 2 ^ 64) : bits .andNot .u64 x y = (x &&& (256 ^ 8 - 1 - y) : Nat) := by
  have h := Nat.lt_of_le_of_lt (Nat.and_le_left (n := x) (m := 256 ^ 8 - 1 - y)) hx
  show IntKind.u64.wrap ((BitVec.ofInt 64 x &&& ~~~ BitVec.ofInt 64 y).toNat : Nat) = _
  rw [BitVec.toNat_and, BitVec.toNat_not, mx_nat hx, mx_nat hy]
  have e : (2 : Nat) ^ 64 - 1 - y = 256 ^ 8 - 1 - y := rfl
  rw [e]
  exact u64_same (by omega) (by omega)
theorem pMix_spec {a b mask : Int} (ha : u64R a) (hb : u64R b) (h0 : 0 ≤ mask) (h1 : mask < 256) : G.Spec Tryd.prog 41 [uv a, uv b, u8 mask] (uv (mixZ a b mask)) := by
  refine spec_of t_word_Mix (by simp) fun w0 I0 => ?_
  unfold c_word_Mix
  simp
  refine sc_call (pWide_spec h0 h1) (by simp) ?_
  simp
  refine sc_call (pWide_spec h0 h1) (by simp) ?_
  simp
  refine frz_int ?_
  rw [mixZ_nat ha hb h0]
  obtain ⟨x, rfl⟩ := Int.eq_ofNat_of_zero_le ha.1
  obtain ⟨y, rfl⟩ := Int.eq_ofNat_of_zero_le hb.1
  have hx : x < 2 ^ 64 := by have := ha.2; omega
  have hy : y < 2 ^ 64 := by have := hb.2; omega
  have hw : wideN 8 mask.toNat < 2 ^ 64 := wideN_lt 8 _
  rw [mx_andN hx hw, mx_and hy hw, mx_or (Nat.lt_of_le_of_lt Nat.and_le_left hx) (Nat.lt_of_le_of_lt Nat.and_le_left hy)]
  have := mixN_bits 8 x y mask.toNat hx hy
  simp only [Int.toNat_natCast]
  rw [← this]
end Go.Proofs.YtebihdhapepejaaDoor

/-
  The program's edits: which ones are right. The parts.
-/
namespace Go.Proofs.YtebihdhapepejaaDoor
set_option linter.unusedVariables false
set_option linter.unusedSimpArgs false
open Go Go.G Go.Proofs Go.PL
theorem pNone_spec {t : T} (h : wfT t) : G.Spec Tryd.prog 39 [tX t] (bv (noneT t)) := by
  have hw := (wfT_iff.1 h).wl
  have hk := (wfT_iff.1 h).kl
  refine spec_of t_edit_bare_1 (by simp) fun w0 I0 => ?_
  unfold c_edit_bare_1
  simp
  have e : IntKind.i64.wrap ((t.words.length : Int) + t.kids.length) = (t.words.length : Int) + t.kids.length := i64_same (by omega) (by omega)
  simp [e]
  refine frz_bool ?_
  rw [Bool.eq_iff_iff]
  simp [noneT, List.isEmpty_iff, ← List.length_eq_zero_iff]
  omega
def bareB (k : Int) (o n : T) (nw nk : Nat) (l : Int) (no : Nat) : Bool := !(!decide (k = 1) && !(noneT o && noneT n)) && !(!decide (k = 2) && decide (0 < nw + nk)) && (decide (k = 3) || decide (l = 0) && decide (no = 0))
def bareE (e : E) : Bool := bareB e.kind e.old e.new e.words.length e.kids.length e.list e.ops.length
theorem headOk_bare {d : Nat} {k : Int} {o n : T} {nw nk : Nat} {l : Int} {no : Nat} : headOk d k o n nw nk l no = (!(decide (d = 0) || decide (k < 0) || decide (k > 3)) && bareB k o n nw nk l no) := by
  rw [Bool.eq_iff_iff, headOk_iff]
  unfold bareB
  simp only [Bool.and_eq_true, Bool.not_eq_true', Bool.or_eq_false_iff, Bool.or_eq_true, Bool.and_eq_false_iff, decide_eq_false_iff_not, Bool.not_eq_false', decide_eq_true_eq]
  constructor
  · rintro ⟨h1, h2, h3, h4, h5, h6⟩
    refine ⟨⟨⟨h1, by omega⟩, by omega⟩, ⟨?_, ?_⟩, ?_⟩
    · by_cases hk : k = 1
      · exact .inl hk
      · exact .inr (h4 hk)
    · by_cases hk : k = 2
      · exact .inl hk
      · exact .inr (by have := h5 hk; omega)
    · by_cases hk : k = 3
      · exact .inl hk
      · exact .inr (h6 hk)
  · rintro ⟨⟨⟨h1, h2⟩, h3⟩, ⟨h4, h5⟩, h6⟩
    refine ⟨h1, by omega, by omega, fun hk => ?_, fun hk => ?_, fun hk => ?_⟩
    · rcases h4 with h4 | h4
      · exact absurd h4 hk
      · exact h4
    · rcases h5 with h5 | h5
      · exact absurd h5 hk
      · omega
    · rcases h6 with h6 | h6
      · exact absurd h6 hk
      · exact h6
set_option maxRecDepth 8000 in
theorem pBare_spec {e : E} (h : WfE e) : G.Spec Tryd.prog 22 [eX e] (bv (bareE e)) := by
  have hwl := h.wl
  have hkl := h.kl
  have hol := h.ol
  have e1 : IntKind.i64.wrap ((e.words.length : Int) + e.kids.length) = (e.words.length : Int) + e.kids.length := i64_same (by omega) (by omega)
  obtain ⟨R, hR⟩ : ∃ R, R = bareE e := ⟨_, rfl⟩
  rw [← hR]
  have c2 : (decide (0 < (e.words.length : Int) + e.kids.length)) = decide (0 < e.words.length + e.kids.length) := by rw [Bool.eq_iff_iff]; simp; omega
  refine spec_of t_edit_bare (by simp) fun w0 I0 => ?_
  unfold c_edit_bare
  unfold bareE at hR
  have cl : decide (e.ops.length = 0) = decide (e.ops = []) := by rw [Bool.eq_iff_iff]; simp
  by_cases k1 : e.kind = 1
  · have k2 : ¬ e.kind = 2 := by omega
    have k3 : ¬ e.kind = 3 := by omega
    have hR' : R = (!decide (0 < e.words.length + e.kids.length) && (decide (e.list = 0) && decide (e.ops = []))) := by
      rw [hR, ← cl]; simp [bareB, k1]
    simp [k1]
    rw [sc_guard]; simp
    rw [sc_guard]; simp
    simp [e1, k2, k3]
    refine ⟨fun hc => ?_, fun hc => ?_⟩
    · have a1 : 0 < e.words.length + e.kids.length := by omega
      exact frz_bool (by rw [hR']; simp [a1])
    · have a1 : ¬ 0 < e.words.length + e.kids.length := by omega
      exact frz_bool (by rw [hR']; simp [a1])
  · simp [k1]
    rw [sc_guard]; simp
    refine sc_callv rfl (pNone_spec h.o) rfl ?_
    cases n1 : noneT e.old with
    | false =>
      simp
      rw [sc_guard]; simp
      exact frz_bool (by rw [hR]; simp [bareB, k1, n1])
    | true =>
      simp
      rw [sc_guard]; simp
      refine sc_callv rfl (pNone_spec h.n) rfl ?_
      cases n2 : noneT e.new with
      | false =>
        simp
        exact frz_bool (by rw [hR]; simp [bareB, k1, n1, n2])
      | true =>
        simp
        have hR' : R = (!(!decide (e.kind = 2) && decide (0 < e.words.length + e.kids.length)) && (decide (e.kind = 3) || decide (e.list = 0) && decide (e.ops = []))) := by
          rw [hR, ← cl]; simp [bareB, k1, n1, n2]
        by_cases k2 : e.kind = 2
        · have k3 : ¬ e.kind = 3 := by omega
          simp [e1, k2]
          exact frz_bool (by rw [hR']; simp [k2])
        · by_cases k3 : e.kind = 3
          · simp [e1, k3]
            refine ⟨fun hc => ?_, fun hc => ?_⟩
            · have a1 : 0 < e.words.length + e.kids.length := by omega
              exact frz_bool (by rw [hR']; simp [a1, k2])
            · have a1 : ¬ 0 < e.words.length + e.kids.length := by omega
              exact frz_bool (by rw [hR']; simp [a1, k3])
          · simp [e1, k2, k3]
            refine ⟨fun hc => ?_, fun hc => ?_⟩
            · have a1 : 0 < e.words.length + e.kids.length := by omega
              exact frz_bool (by rw [hR']; simp [a1, k2])
            · have a1 : ¬ 0 < e.words.length + e.kids.length := by omega
              exact frz_bool (by rw [hR']; simp [a1, k3, k2])
theorem pValue_spec {t : T} (h : wfT t) : G.Spec Tryd.prog 23 [tX t] (bv (!decide (t.kind = 10) && rightT 64 t)) := by
  refine spec_of t_edit_value (by simp) fun w0 I0 => ?_
  unfold c_edit_value
  by_cases k1 : t.kind = 10
  · simp [k1]
    refine sc_call_off rfl ?_
    simp
    exact frz_bare rfl
  · simp [k1]
    refine sc_call_gt rfl (fun _ => ptRight_spec h) (fun _ => rfl) rfl ?_
    simp
    exact frz_bare rfl
section
variable {n0 : Nat} {w0 : World} {I0 : Nat → Prop} {Q : Exit → Sta → Prop}
theorem pwords_k1 {Q' : Exit → Sta → Prop} {x : WE} (hw : WE.wf x) {a b c d : A} {u : Nat} {H : Hp} (hH : H [0] = ⟨u, .cells [iv x.at_, u8 x.mask, uv x.old, uv x.new]⟩)
    (h1 : (withinZ x.old x.mask && withinZ x.new x.mask) = true → Q' .normal ⟨lk [(0, a), (5, b), (6, c), (7, d), (53, bv false)], H⟩) (h2 : (withinZ x.old x.mask && withinZ x.new x.mask) = false → Q' .ret ⟨lk [(2, bv false)], H⟩) :
    WPC (cx Tryd.prog w0 I0 n0) k1_edit_words Q' ⟨lk [(0, a), (4, .pob [0] u 0), (5, b), (6, c), (7, d)], H⟩ := by
  obtain ⟨w1, w2, w3, w4⟩ := hw
  have z := mix_zero x.old x.mask
  have z2 := mix_zero x.new x.mask
  have u0 : u64R 0 := ⟨by omega, by omega⟩
  rw [k1_edit_words.eq_1]
  simp [hH]
  refine sc_call (pMix_spec w3 u0 w2.1 w2.2) rfl ?_
  by_cases m1 : mixZ x.old 0 x.mask = 0
  · rw [m1] at z ⊢
    simp [hH]
    refine sc_call_gf rfl (fun _ => pMix_spec w4 u0 w2.1 w2.2) (fun _ => rfl) rfl ?_
    by_cases m2 : mixZ x.new 0 x.mask = 0
    · rw [m2] at z2 ⊢
      simp
      exact h1 (by rw [← z, ← z2]; simp)
    · simp [m2]
      exact h2 (by rw [← z, ← z2]; simp [m2])
  · simp [m1]
    refine sc_call_off rfl ?_
    simp
    exact h2 (by rw [← z]; simp [m1])
theorem pwords_l1 {ws : List WE} (hl : ws.length * 32 ≤ 140737488355328) (hw : ∀ x, x ∈ ws → WE.wf x) : ∀ (m i : Nat) (last : Int) (H : Hp), i + m = ws.length → -1 ≤ last → (i = 0 → last = -1) → (∀ h : 0 < i ∧ i ≤ ws.length, ws[i - 1].at_ = last) →
    (wordsOk last (ws.drop i) = true → ∀ q H', Q (.exit 0) ⟨lk [(0, wKs ws), (5, wKs ws), (6, iv ws.length), (7, iv ws.length), (8, bv q)], H'⟩) → (wordsOk last (ws.drop i) = false → ∀ H', Q .ret ⟨lk [(2, bv false)], H'⟩) →
    LoopC (cx Tryd.prog w0 I0 n0) l1_edit_words Q ⟨lk [(0, wKs ws), (5, wKs ws), (6, iv ws.length), (7, iv i)], H⟩ := by
  intro m
  induction m with
  | zero =>
    intro i last H hi hm h0 hp h1 h2
    have : i = ws.length := by omega
    subst this
    refine loopC_once mixed l1_edit_words.eq_1 ?_
    simp
    exact h1 (by simp [wordsOk]) _ _
  | succ m ihm =>
    intro i last H hi hm h0 hp h1 h2
    have hlt : i < ws.length := by omega
    have ed : ws.drop i = ws[i] :: ws.drop (i + 1) := List.drop_eq_getElem_cons hlt
    have ei : IntKind.i64.wrap ((i : Int) + 1) = ((i + 1 : Nat) : Int) := i64_same (by omega) (by omega)
    obtain ⟨w1, w2, w3, w4⟩ := hw _ (List.getElem_mem hlt)
    have next := fun H' (hr : wordOk last ws[i] = true) => ihm (i + 1) ws[i].at_ H' (by omega) (by
      simp [wordOk] at hr
      omega) (fun h => by omega) (fun h => rfl) (fun hh => h1 (by rw [ed, wordsOk, hr, hh]; rfl)) (fun hh => h2 (by rw [ed, wordsOk, hr, hh]; rfl))
    have bad : wordOk last ws[i] = false → ∀ H', Q .ret ⟨lk [(2, bv false)], H'⟩ := fun hr => h2 (by rw [ed, wordsOk, hr]; rfl)
    clear h1 h2 ed ihm
    generalize hx : ws[i] = x at *
    have hok : wordOk last x = !(decide (x.at_ ≤ last) || decide (65534 < x.at_) || decide (x.mask = 0) || !withinZ x.old x.mask || !withinZ x.new x.mask) := rfl
    refine loopC_once mixed l1_edit_words.eq_1 ?_
    by_cases hA : x.at_ < 0 ∨ 65535 ≤ x.at_ ∨ x.at_ ≤ last ∨ x.mask = 0
    · have hb : wordOk last x = false := by
        rw [hok]
        rcases hA with h | h | h | h
        · have : x.at_ ≤ last := by omega
          simp [this]
        · have : 65534 < x.at_ := by omega
          simp [this]
        · simp [h]
        · simp [h]
      by_cases i0 : i = 0
      · have hl1 := h0 i0
        subst i0
        have : (decide (x.at_ < 0) || decide (65535 ≤ x.at_) || decide (x.mask = 0)) = true := by simp; omega
        simp [hx, hlt, updF_app, this]
        exact bad hb _
      · have i1 : 0 < i := by omega
        have hpi := hp ⟨i1, by omega⟩
        have em : IntKind.i64.wrap ((i : Int) - 1) = ((i - 1 : Nat) : Int) := by rw [i64_same (by omega) (by omega)]; omega
        have : (decide (x.at_ < 0) || decide (65535 ≤ x.at_) || decide (x.at_ ≤ last) || decide (x.mask = 0)) = true := by simp; omega
        have hlt1 : i - 1 < ws.length := by omega
        simp [hx, hlt, i1, em, hlt1, hpi, updF_app, this]
        exact bad hb _
    · have c1 : ¬ x.at_ < 0 := by omega
      have c2 : ¬ 65535 ≤ x.at_ := by omega
      have c3 : ¬ x.at_ ≤ last := by omega
      have c4 : ¬ x.mask = 0 := by omega
      have c2' : ¬ 65534 < x.at_ := by omega
      have hok' : wordOk last x = (withinZ x.old x.mask && withinZ x.new x.mask) := by rw [hok]; simp [c2', c3, c4]
      have wfx : WE.wf x := ⟨w1, w2, w3, w4⟩
      by_cases i0 : i = 0
      · subst i0
        simp [hx, hlt, updF_app, c1, c2, c4]
        refine stop_go (pwords_k1 wfx (by simp [updF_app]) (fun hr => ?_) (fun hr => ?_))
        · simp at ei
          simp [ei]
          exact next _ (by rw [hok', hr])
        · simp
          exact bad (by rw [hok', hr]) _
      · have i1 : 0 < i := by omega
        have hpi := hp ⟨i1, by omega⟩
        have em : IntKind.i64.wrap ((i : Int) - 1) = ((i - 1 : Nat) : Int) := by rw [i64_same (by omega) (by omega)]; omega
        have hlt1 : i - 1 < ws.length := by omega
        simp [hx, hlt, i1, em, hlt1, hpi, updF_app, c1, c2, c3, c4]
        refine stop_go (pwords_k1 wfx (by simp [updF_app]) (fun hr => ?_) (fun hr => ?_))
        · simp [ei]
          exact next _ (by rw [hok', hr])
        · simp
          exact bad (by rw [hok', hr]) _
end
theorem pWords_spec {ws : List WE} (hl : ws.length * 32 ≤ 140737488355328) (hw : ∀ x, x ∈ ws → WE.wf x) : G.Spec Tryd.prog 24 [wKs ws] (bv (wordsOk (-1) ws)) := by
  refine spec_of t_edit_words (by simp) fun w0 I0 => ?_
  unfold c_edit_words
  simp
  refine pwords_l1 hl hw ws.length 0 (-1) _ (by simp) (by omega) (fun _ => rfl) (fun h => by omega) (fun hr q H' => ?_) (fun hr H' => ?_)
  · simp
    exact frz_bool (by simpa using hr.symm)
  · simp
    exact frz_bool (by simpa using hr.symm)
end Go.Proofs.YtebihdhapepejaaDoor

/-
  The program's edits: which ones are right.
-/
namespace Go.Proofs.YtebihdhapepejaaDoor
set_option linter.unusedVariables false
set_option linter.unusedSimpArgs false
open Go Go.G Go.Proofs Go.PL
abbrev PRightS (e : E) : Prop := ∀ d : Nat, d ≤ 1000 → G.Spec Tryd.prog 11 [eX e, iv d] (bv (rightE d e))
section
variable {n0 : Nat} {w0 : World} {I0 : Nat → Prop} {Q : Exit → Sta → Prop}
theorem pkids_l1 {ks : List KE} {d : Nat} (hd : d ≤ 1000) (hl : ks.length * 208 ≤ 140737488355328) (ih : ∀ x, x ∈ ks → PRightS x.e) : ∀ (m i : Nat) (last : Int) (H : Hp), i + m = ks.length → -1 ≤ last → (i = 0 → last = -1) → (∀ h : 0 < i ∧ i ≤ ks.length, ks[i - 1].at_ = last) →
    (rightKs d last (ks.drop i) = true → ∀ q H', Q (.exit 0) ⟨lk [(0, kKs ks), (1, iv d), (7, kKs ks), (8, iv ks.length), (9, iv ks.length), (10, bv q)], H'⟩) → (rightKs d last (ks.drop i) = false → ∀ H', Q .ret ⟨lk [(4, bv false)], H'⟩) →
    LoopC (cx Tryd.prog w0 I0 n0) l1_edit_kids Q ⟨lk [(0, kKs ks), (1, iv d), (7, kKs ks), (8, iv ks.length), (9, iv i)], H⟩ := by
  intro m
  induction m with
  | zero =>
    intro i last H hi hm h0 hp h1 h2
    have : i = ks.length := by omega
    subst this
    refine loopC_once mixed l1_edit_kids.eq_1 ?_
    simp
    exact h1 (by simp) _ _
  | succ m ihm =>
    intro i last H hi hm h0 hp h1 h2
    have hlt : i < ks.length := by omega
    have ed : ks.drop i = ks[i] :: ks.drop (i + 1) := List.drop_eq_getElem_cons hlt
    have ei : IntKind.i64.wrap ((i : Int) + 1) = ((i + 1 : Nat) : Int) := i64_same (by omega) (by omega)
    have ihx := ih _ (List.getElem_mem hlt) d hd
    have next := fun H' (ha : last < ks[i].at_ ∧ ks[i].at_ ≤ 65534) (hk : ¬ ks[i].e.kind = 0) (hr : rightE d ks[i].e = true) => ihm (i + 1) ks[i].at_ H' (by omega) (by omega) (fun h => by omega) (fun h => rfl)
      (fun hh => h1 (by rw [ed, rightKs_cons, hr, hh]; simp [hk]; omega)) (fun hh => h2 (by rw [ed, rightKs_cons, hr, hh]; simp))
    have bad : (ks[i].at_ ≤ last ∨ 65534 < ks[i].at_ ∨ ks[i].e.kind = 0 ∨ rightE d ks[i].e = false) → ∀ H', Q .ret ⟨lk [(4, bv false)], H'⟩ := fun hr => h2 (by
      rw [ed, rightKs_cons]
      rcases hr with h | h | h | h <;> simp [h])
    clear h1 h2 ed ihm
    generalize hx : ks[i] = x at *
    refine loopC_once mixed l1_edit_kids.eq_1 ?_
    by_cases hA : x.at_ < 0 ∨ 65535 ≤ x.at_ ∨ x.at_ ≤ last ∨ x.e.kind = 0
    · have hb := bad (by omega)
      by_cases i0 : i = 0
      · have hl1 := h0 i0
        subst i0
        have : (decide (x.at_ < 0) || decide (65535 ≤ x.at_) || decide (x.e.kind = 0)) = true := by simp; omega
        simp [hx, hlt, updF_app, this]
        refine sc_call_off rfl ?_
        simp [this]
        exact hb _
      · have i1 : 0 < i := by omega
        have hpi := hp ⟨i1, by omega⟩
        have em : IntKind.i64.wrap ((i : Int) - 1) = ((i - 1 : Nat) : Int) := by rw [i64_same (by omega) (by omega)]; omega
        have : (decide (x.at_ < 0) || decide (65535 ≤ x.at_) || decide (x.at_ ≤ last) || decide (x.e.kind = 0)) = true := by simp; omega
        have hlt1 : i - 1 < ks.length := by omega
        simp [hx, hlt, i1, em, hlt1, hpi, updF_app, this]
        refine sc_call_off rfl ?_
        simp [this]
        exact hb _
    · have c1 : ¬ x.at_ < 0 := by omega
      have c2 : ¬ 65535 ≤ x.at_ := by omega
      have c3 : ¬ x.at_ ≤ last := by omega
      have c4 : ¬ x.e.kind = 0 := by omega
      by_cases i0 : i = 0
      · subst i0
        simp [hx, hlt, updF_app, c1, c2, c4]
        refine sc_call_gf rfl (fun _ => ihx) (fun _ => rfl) rfl ?_
        cases hr : rightE d x.e with
        | false => simp; exact bad (.inr (.inr (.inr hr))) _
        | true =>
          simp at ei
          simp [ei]
          exact next _ (by omega) c4 hr
      · have i1 : 0 < i := by omega
        have hpi := hp ⟨i1, by omega⟩
        have em : IntKind.i64.wrap ((i : Int) - 1) = ((i - 1 : Nat) : Int) := by rw [i64_same (by omega) (by omega)]; omega
        have hlt1 : i - 1 < ks.length := by omega
        simp [hx, hlt, i1, em, hlt1, hpi, updF_app, c1, c2, c3, c4]
        refine sc_call_gf rfl (fun _ => ihx) (fun _ => rfl) rfl ?_
        cases hr : rightE d x.e with
        | false => simp; exact bad (.inr (.inr (.inr hr))) _
        | true => simp [ei]; exact next _ (by omega) c4 hr
end
theorem pKids_spec {ks : List KE} {d : Nat} (hd : d ≤ 1000) (hl : ks.length * 208 ≤ 140737488355328) (ih : ∀ x, x ∈ ks → PRightS x.e) : G.Spec Tryd.prog 25 [kKs ks, iv d] (bv (rightKs d (-1) ks)) := by
  refine spec_of t_edit_kids (by simp) fun w0 I0 => ?_
  unfold c_edit_kids
  simp
  refine pkids_l1 hd hl ih ks.length 0 (-1) _ (by simp) (by omega) (fun _ => rfl) (fun h => by omega) (fun hr q H' => ?_) (fun hr H' => ?_)
  · simp
    exact frz_bool (by simpa using hr.symm)
  · simp
    exact frz_bool (by simpa using hr.symm)
theorem wf_one {list : Int} (hk : i64R list) {t : T} (h : wfT t) : wfT (.mk list [] [t]) := wfT_iff.2 ⟨hk, by simp, by simp, by simp, fun x hx => by simp at hx; rw [hx]; exact h⟩
theorem peKid_spec {list : Int} (hk : i64R list) {t : T} (h : wfT t) : G.Spec Tryd.prog 56 [iv list, tX t] (bv (rightT 64 (.mk list [] [t]))) := by
  refine spec_of t_edit_kid (by simp) fun w0 I0 => ?_
  unfold c_edit_kid
  simp
  refine sc_calle rfl ((ptRight_spec (wf_one hk h)).soft (by simp [A.softL, A.soft, soft_uv, soft_tKs])) rfl ?_
  simp
  exact frz_bare rfl
def withinB (list : Int) (e : E) : Bool := !(isData list || decide (e.kind = 0)) && ((decide (list = 8) || decide (e.kind = 2)) || (decide (e.kind = 1) && decide (e.old.kind = 1) && decide (e.new.kind = 1)))
set_option maxRecDepth 8000 in
theorem pWithin_spec (list : Int) (e : E) : G.Spec Tryd.prog 57 [iv list, eX e] (bv (withinB list e)) := by
  obtain ⟨R, hR⟩ : ∃ R, R = withinB list e := ⟨_, rfl⟩
  rw [← hR]
  unfold withinB at hR
  refine spec_of t_edit_within (by simp) fun w0 I0 => ?_
  unfold c_edit_within
  simp
  refine sc_call (data_spec list) rfl ?_
  cases hd : isData list with
  | true => simp; exact frz_bool (by rw [hR]; simp [hd])
  | false =>
    by_cases k0 : e.kind = 0
    · simp [k0]; exact frz_bool (by rw [hR]; simp [k0])
    · by_cases l8 : list = 8
      · simp [k0, l8]; exact frz_bool (by rw [hR]; simp [hd, k0, l8, isData])
      · by_cases k2 : e.kind = 2
        · simp [l8, k2]; exact frz_bool (by rw [hR]; simp [hd, k2])
        · by_cases k1 : e.kind = 1
          · simp [l8, k1]; exact frz_bool (by rw [hR]; simp [hd, k1, l8])
          · simp [k0, l8, k2, k1]; exact frz_bool (by rw [hR]; simp [hd, k0, k1, k2, l8])
abbrev boxI (list : Int) : A := .pim [iv list]
theorem opKid_spec {list : Int} (hk : i64R list) {t : T} (h : wfT t) : G.Spec Tryd.prog 55 [tX t, boxI list] (bv (!rightT 64 (.mk list [] [t]))) := by
  refine spec_of t_edit_op_1 (by simp) fun w0 I0 => ?_
  unfold c_edit_op_1
  simp
  refine sc_call (peKid_spec hk h) rfl ?_
  simp
  exact frz_bare rfl
def idxZ (p : T → Bool) : Nat → List T → Int
  | _, [] => -1
  | i, t :: l => if p t = true then i else idxZ p (i + 1) l
theorem idxZ_any (p : T → Bool) : ∀ (l : List T) (i : Nat), decide (0 ≤ idxZ p i l) = l.any p
  | [], i => rfl
  | t :: l, i => by
    rw [idxZ, List.any_cons]
    cases h : p t with
    | true => simp
    | false => simp only [Bool.false_eq_true, if_false, Bool.false_or]; exact idxZ_any p l (i + 1)
abbrev clo (list : Int) : A := .fnc 55 [] [boxI list]
section
variable {n0 : Nat} {w0 : World} {I0 : Nat → Prop} {Q : Exit → Sta → Prop}
theorem index_l1 {list : Int} (hk : i64R list) {l : List T} (hl : l.length * 56 ≤ 140737488355328) (hw : ∀ t, t ∈ l → wfT t) {R : Int} {H : Hp} : ∀ (m i : Nat), i + m = l.length → R = idxZ (fun t => !rightT 64 (.mk list [] [t])) i (l.drop i) →
    (R = -1 → ∀ q, Q (.exit 0) ⟨lk [(0, tKs l), (1, clo list), (7, iv l.length), (8, iv l.length), (9, bv q)], H⟩) → (Q .ret ⟨lk [(4, iv R)], H⟩) →
    LoopC (cx Tryd.prog w0 I0 n0) l1_slices_IndexFunc_api_Tree_api_Tree Q ⟨lk [(0, tKs l), (1, clo list), (7, iv l.length), (8, iv i)], H⟩ := by
  intro m
  induction m with
  | zero =>
    intro i hi hR h1 h2
    have : i = l.length := by omega
    subst this
    refine loopC_once mixed l1_slices_IndexFunc_api_Tree_api_Tree.eq_1 ?_
    simp
    exact h1 (by rw [hR]; simp [idxZ]) _
  | succ m ih =>
    intro i hi hR h1 h2
    have hlt : i < l.length := by omega
    have ed : l.drop i = l[i] :: l.drop (i + 1) := List.drop_eq_getElem_cons hlt
    have ei : IntKind.i64.wrap ((i : Int) + 1) = ((i + 1 : Nat) : Int) := i64_same (by omega) (by omega)
    rw [ed, idxZ] at hR
    refine loopC_once mixed l1_slices_IndexFunc_api_Tree_api_Tree.eq_1 ?_
    simp [hlt]
    refine sc_callv rfl (opKid_spec hk (hw _ (List.getElem_mem hlt))) rfl ?_
    cases hr : rightT 64 (.mk list [] [l[i]]) with
    | false =>
      rw [if_pos (by rw [hr]; rfl)] at hR
      simp
      rw [← hR]
      exact h2
    | true =>
      rw [if_neg (by rw [hr]; simp)] at hR
      simp [ei]
      exact ih (i + 1) (by omega) hR h1 h2
end
theorem pIndex_spec {list : Int} (hk : i64R list) {l : List T} (hl : l.length * 56 ≤ 140737488355328) (hw : ∀ t, t ∈ l → wfT t) : G.Spec Tryd.prog 72 [tKs l, clo list] (iv (idxZ (fun t => !rightT 64 (.mk list [] [t])) 0 l)) := by
  refine spec_of t_slices_IndexFunc_api_Tree_api_Tree (by simp) fun w0 I0 => ?_
  unfold c_slices_IndexFunc_api_Tree_api_Tree
  simp
  refine index_l1 hk hl hw l.length 0 (by simp) rfl (fun hR q => ?_) ?_
  · simp
    exact frz_int (by simpa using hR.symm)
  · simp
    exact frz_int (by simp)
theorem pContains_spec {list : Int} (hk : i64R list) {l : List T} (hl : l.length * 56 ≤ 140737488355328) (hw : ∀ t, t ∈ l → wfT t) : G.Spec Tryd.prog 54 [tKs l, clo list] (bv (l.any fun t => !rightT 64 (.mk list [] [t]))) := by
  refine spec_of t_slices_ContainsFunc_api_Tree_api_Tree (by simp) fun w0 I0 => ?_
  unfold c_slices_ContainsFunc_api_Tree_api_Tree
  simp
  refine sc_call (pIndex_spec hk hl hw) rfl ?_
  simp
  exact frz_bool (idxZ_any _ l 0)
theorem same_right {e : E} : (rightE 1 e && decide (e.kind = 0)) = sameE e := by
  rw [Bool.eq_iff_iff, Bool.and_eq_true, decide_eq_true_eq]
  constructor
  · rintro ⟨h, h0⟩
    obtain ⟨k, o, n, ws, ks, l, os⟩ := e
    have R := rightE_iff.1 h
    have h0 : k = 0 := h0
    subst h0
    obtain ⟨rfl, rfl⟩ := R.one (by omega)
    obtain ⟨rfl, rfl⟩ := R.two (by omega)
    obtain ⟨rfl, rfl⟩ := R.three (by omega)
    rfl
  · intro h
    rw [sameE_eq h]
    refine ⟨rightE_iff.2 ⟨by omega, by omega, by omega, fun _ => ⟨rfl, rfl⟩, fun _ => ⟨rfl, rfl⟩, fun _ => ⟨rfl, rfl⟩, fun h => by omega, rfl, by simp, fun h => by omega, by simp, by simp [lengths]⟩, rfl⟩
end Go.Proofs.YtebihdhapepejaaDoor

/-
  The program's edits: which ones are right. The whole.
-/
namespace Go.Proofs.YtebihdhapepejaaDoor
set_option linter.unusedVariables false
set_option linter.unusedSimpArgs false
open Go Go.G Go.Proofs Go.PL
abbrev oL (o : OP) : List A := iv o.kind :: iv o.n :: tKs o.l :: eL o.e
section
variable {n0 : Nat} {w0 : World} {I0 : Nat → Prop} {Q : Exit → Sta → Prop}
theorem pop_k1 {list : Int} (hk : i64R list) {o : OP} (h : WfO o) (ih : PRightS o.e) {H : Hp} (hH : H [1] = ⟨1, .cells (oL o)⟩) {R : Bool} (hR : R = (decide (o.n = 0) && !o.l.isEmpty && sameE o.e && (o.l.all fun t => rightT 64 (.mk list [] [t])))) :
    WPC (cx Tryd.prog w0 I0 n0) k1_edit_op (RetC Tryd.prog [.tmp 6] (bv R)) ⟨lk [(3, boxI list), (4, .pob [1] 1 0)], H⟩ := by
  have hll := h.ll
  rw [k1_edit_op.eq_1]
  have ih1 := ih 1 (by omega)
  rw [← same_right] at hR
  by_cases c1 : o.n = 0
  rotate_left
  · simp [hH, c1]
    refine sc_call_off rfl ?_
    simp [hH]
    refine sc_call_off rfl ?_
    simp
    exact frz_bool (by rw [hR]; simp [c1])
  by_cases c2 : o.l = []
  · simp [hH, c1, c2]
    refine sc_call_off rfl ?_
    simp [hH, c2]
    refine sc_call_off rfl ?_
    simp
    exact frz_bool (by rw [hR]; simp [c2])
  have c2' : 0 < o.l.length := List.length_pos_iff.2 c2
  have c2e : o.l.isEmpty = false := by cases hh : o.l <;> simp_all
  simp [hH, c1, c2']
  refine sc_call_gt rfl (fun _ => ih1) (fun _ => rfl) rfl ?_
  cases hr : rightE 1 o.e with
  | false =>
    simp [hH, c1, c2']
    refine sc_call_off rfl ?_
    simp
    exact frz_bool (by rw [hR, hr]; simp)
  | true =>
    by_cases c4 : o.e.kind = 0
    · simp [hH, c4]
      refine sc_call_gt rfl (fun _ => pContains_spec hk hll h.l) (fun _ => rfl) rfl ?_
      simp
      refine frz_bool ?_
      rw [hR, hr, c1, c4, c2e]
      simp [List.all_eq_not_any_not]
    · simp [hH, c4]
      refine sc_call_off rfl ?_
      simp
      exact frz_bool (by rw [hR]; simp [c4])
end
set_option maxRecDepth 8000 in
theorem pOp_spec {list : Int} (hk : 2 ≤ list ∧ list ≤ 9) {o : OP} (h : WfO o) (ih : PRightS o.e) {d : Nat} (hd : d ≤ 1000) : G.Spec Tryd.prog 42 [iv list, oX o, iv d] (bv (rightO d list o)) := by
  have he := wfE_iff.1 h.e
  have hll := h.ll
  have hk64 : i64R list := ⟨by omega, by omega⟩
  obtain ⟨R, hR⟩ : ∃ R, R = rightO d list o := ⟨_, rfl⟩
  rw [← hR]
  rw [rightO_eq] at hR
  unfold opFlat at hR
  refine spec_of t_edit_op (by simp) fun w0 I0 => ?_
  unfold c_edit_op
  have stopper : (o.kind = 1 ∨ o.kind = 2) → StopK (cx Tryd.prog w0 I0 90) (WPC (cx Tryd.prog w0 I0 90) k1_edit_op (RetC Tryd.prog [.tmp 6] (bv R))) ⟨lk [(3, .pob [0] 1 0), (4, .pob [1] 1 0)], lkH [([0], ⟨1, .cells [iv list]⟩), ([1], ⟨1, .cells (oL o)⟩)]⟩ := fun hkk => by
    refine stop_le (le_freezeL (c := cx Tryd.prog w0 I0 90) [[0]] 3 (boxI list) (fun _ _ h => h) ?_) (stop_le (le_list [(3, boxI list), (4, .pob [1] 1 0)] (by simp [upd])) (stop_go ?_))
    · exact frz_pob (cs := [iv list]) (by simp [onlyH]) ⟨frz_bare rfl, trivial⟩ rfl
    · simp [lessH]
      refine pop_k1 hk64 h ih ?_ ?_
      · first | rfl | simp
      rw [hR, if_neg (by omega)]
      by_cases c1 : o.n = 0
      · rw [if_neg (by omega), if_pos (by omega), if_neg (by omega)]
        simp [c1]
        cases o.l.isEmpty <;> simp [Bool.and_comm]
      · rw [if_pos (by omega)]
        simp [c1]
  by_cases k0 : o.kind = 0
  · rw [if_pos k0, if_neg (by omega), Bool.and_true, ← same_right] at hR
    simp [k0]
    by_cases c : 1 ≤ o.n ∧ o.n ≤ 1048576 ∧ o.l = []
    · obtain ⟨a, b, c⟩ := c
      simp [a, b, c]
      refine sc_call_gt rfl (fun _ => ih 1 (by omega)) (fun _ => rfl) rfl ?_
      simp
      refine frz_bool ?_
      rw [hR]
      simp [a, b, c]
    · have hc : (decide (1 ≤ o.n) && decide (o.n ≤ 1048576) && decide (o.l = [])) = false := by
        rw [Bool.eq_false_iff]; intro e; simp at e; exact c ⟨e.1.1, e.1.2, e.2⟩
      simp [hc]
      refine sc_call_off rfl ?_
      simp [hc]
      refine frz_bool ?_
      rw [hR]
      have : (decide (1 ≤ o.n) && decide (o.n ≤ 1048576) && o.l.isEmpty) = false := by
        rw [← hc]; cases o.l <;> simp
      rw [this]
      rfl
  by_cases k1 : o.kind = 1
  · simp [k1]
    repeat rw [InBlock_other (by decide)]
    try simp
    repeat rw [InBlock_other (by decide)]
    try simp
    repeat rw [InBlock_other (by decide)]
    try simp
    have := stopper (.inl k1)
    unfold oL at this
    rw [k1] at this
    exact this
  by_cases k2 : o.kind = 2
  · simp [k2]
    repeat rw [InBlock_other (by decide)]
    try simp
    repeat rw [InBlock_other (by decide)]
    try simp
    repeat rw [InBlock_other (by decide)]
    try simp
    have := stopper (.inr k2)
    unfold oL at this
    rw [k2] at this
    exact this
  by_cases k3 : o.kind = 3
  · rw [if_neg k0, if_pos k3] at hR
    simp [k3]
    repeat rw [InBlock_other (by decide)]
    try simp
    repeat rw [InBlock_other (by decide)]
    try simp
    repeat rw [InBlock_other (by decide)]
    try simp
    have hfit : withinB list o.e = (!decide (o.e.kind = 0) && !decide (list ≤ 7) && opFit list o) := by
      have hd7 : isData list = decide (list ≤ 7) := by rw [Bool.eq_iff_iff]; simp [isData]; omega
      unfold withinB opFit
      rw [hd7]
      cases decide (list ≤ 7) <;> cases decide (o.e.kind = 0) <;> simp [Bool.or_assoc]
    by_cases c : o.n = 0 ∧ o.l = []
    · obtain ⟨c1, c2⟩ := c
      have hR' : R = (withinB list o.e && rightE d o.e) := by
        rw [hR, if_neg (by omega), if_neg (by omega), hfit]
        unfold opDeep
        rw [c2]
        cases rightE d o.e <;> simp
      simp [c1, c2]
      refine sc_call_gt rfl (fun _ => pWithin_spec list o.e) (fun _ => rfl) rfl ?_
      cases hw : withinB list o.e with
      | false =>
        simp
        refine sc_call_off rfl ?_
        simp
        exact frz_bool (by rw [hR', hw]; rfl)
      | true =>
        simp
        refine sc_call_gt rfl (fun _ => ih d hd) (fun _ => rfl) rfl ?_
        simp
        exact frz_bool (by rw [hR', hw]; simp)
    · have hc : (decide (o.n = 0) && decide (o.l = [])) = false := by
        rw [Bool.eq_false_iff]; intro e; simp at e; exact c e
      simp [hc]
      refine sc_call_off rfl ?_
      simp [hc]
      refine sc_call_off rfl ?_
      simp [hc]
      refine frz_bool ?_
      rw [hR]
      by_cases c1 : o.n = 0
      · have c2 : o.l.isEmpty = false := by
          cases hh : o.l with
          | nil => exact absurd ⟨c1, hh⟩ c
          | cons x l => rfl
        unfold opDeep
        rw [c2]
        simp
      · rw [if_pos (by omega)]
        rfl
  · simp [k0, k1, k2, k3]
    repeat rw [InBlock_other (by decide)]
    try simp
    repeat rw [InBlock_other (by decide)]
    try simp
    repeat rw [InBlock_other (by decide)]
    try simp
    refine frz_bool ?_
    rw [hR, if_neg k0, if_pos (by omega)]
    rfl
/-! ### lengths -/
theorem sat_min (n : Int) : min n 1048576 = sat n := by unfold sat; split <;> omega
section
variable {n0 : Nat} {w0 : World} {I0 : Nat → Prop} {Q : Exit → Sta → Prop}
theorem plen_k2 {Q' : Exit → Sta → Prop} {o : OP} {a b z : Int} {x y i : A} {u : Nat} {H : Hp} (hH : H [1] = ⟨u, .cells (oL o)⟩) (a0 : 0 ≤ a) (a1 : a ≤ 1048576) (b0 : 0 ≤ b) (b1 : b ≤ 1048576) (z0 : 0 ≤ z) (z1 : z < 100000000000000)
    (h : Q' .normal ⟨lk [(4, iv (sat (if o.kind = 2 then a else a + z))), (5, iv (sat (if o.kind = 1 then b else b + z))), (10, x), (11, y), (12, i)], H⟩)
    (h' : Q' .normal ⟨lk [(4, iv (sat (if o.kind = 2 then a else a + z))), (5, iv (sat (if o.kind = 1 then b else b + z))), (8, iv z), (10, x), (11, y), (12, i), (34, bv false)], H⟩) :
    WPC (cx Tryd.prog w0 I0 n0) k2_edit_Lengths Q' ⟨lk [(4, iv a), (5, iv b), (7, .pob [1] u 0), (8, iv z), (10, x), (11, y), (12, i)], H⟩ := by
  have ea : IntKind.i64.wrap (a + z) = a + z := i64_same (by omega) (by omega)
  have eb : IntKind.i64.wrap (b + z) = b + z := i64_same (by omega) (by omega)
  have sa : sat a = a := by unfold sat; rw [if_neg (by omega)]
  have sb : sat b = b := by unfold sat; rw [if_neg (by omega)]
  rw [k2_edit_Lengths.eq_1]
  by_cases h2 : o.kind = 2
  · have h1 : ¬ o.kind = 1 := by omega
    simp [hH, h2]
    rw [k1_edit_Lengths.eq_1]
    simp [hH, h2, eb, sat_min]
    simpa [h2, sa] using h
  · by_cases h1 : o.kind = 1
    · simp [hH, h1, ea, sat_min]
      rw [k1_edit_Lengths.eq_1]
      simp [hH, h1]
      simpa [h1, sb] using h'
    · simp [hH, h2, ea, sat_min]
      rw [k1_edit_Lengths.eq_1]
      simp [hH, h1, eb, sat_min]
      simpa [h1, h2] using h
theorem plen_l1 {os : List OP} (hl : os.length * 240 ≤ 140737488355328) (ho : ∀ x, x ∈ os → 0 ≤ x.n ∧ x.n ≤ 1048576 ∧ x.l.length * 56 ≤ 140737488355328) : ∀ (m i : Nat) (a b : Int) (H : Hp), i + m = os.length → 0 ≤ a → a ≤ 1048576 → 0 ≤ b → b ≤ 1048576 →
    (∀ q H', Q (.exit 0) ⟨lk [(4, iv (lengths a b (os.drop i)).1), (5, iv (lengths a b (os.drop i)).2), (10, oKs os), (11, iv os.length), (12, iv os.length), (13, bv q)], H'⟩) →
    LoopC (cx Tryd.prog w0 I0 n0) l1_edit_Lengths Q ⟨lk [(4, iv a), (5, iv b), (10, oKs os), (11, iv os.length), (12, iv i)], H⟩ := by
  intro m
  induction m with
  | zero =>
    intro i a b H hi a0 a1 b0 b1 hq
    have : i = os.length := by omega
    subst this
    refine loopC_once mixed l1_edit_Lengths.eq_1 ?_
    simp
    simpa [lengths] using hq false H
  | succ m ih =>
    intro i a b H hi a0 a1 b0 b1 hq
    have hlt : i < os.length := by omega
    have ed : os.drop i = os[i] :: os.drop (i + 1) := List.drop_eq_getElem_cons hlt
    have ei : IntKind.i64.wrap ((i : Int) + 1) = ((i + 1 : Nat) : Int) := i64_same (by omega) (by omega)
    obtain ⟨n1, n2, n3⟩ := ho _ (List.getElem_mem hlt)
    rw [ed] at hq
    generalize ho' : os[i] = o at *
    have next : ∀ (a' b' : Int) H', a' = sat (if o.kind = 2 then a else a + opLen o) → b' = sat (if o.kind = 1 then b else b + opLen o) → LoopC (cx Tryd.prog w0 I0 n0) l1_edit_Lengths Q ⟨lk [(4, iv a'), (5, iv b'), (10, oKs os), (11, iv os.length), (12, iv ((i + 1 : Nat) : Int))], H'⟩ := fun a' b' H' ha hb => by
      have h0 : 0 ≤ opLen o ∧ opLen o < 100000000000000 := by unfold opLen; split <;> omega
      have s1 := sat_range (n := if o.kind = 2 then a else a + opLen o) (by split <;> omega)
      have s2 := sat_range (n := if o.kind = 1 then b else b + opLen o) (by split <;> omega)
      refine ih (i + 1) a' b' H' (by omega) (by omega) (by omega) (by omega) (by omega) fun q H2 => ?_
      have := hq q H2
      have f1 : (if o.kind ≠ 2 then a + opLen o else a) = if o.kind = 2 then a else a + opLen o := by by_cases e : o.kind = 2 <;> simp [e]
      have f2 : (if o.kind ≠ 1 then b + opLen o else b) = if o.kind = 1 then b else b + opLen o := by by_cases e : o.kind = 1 <;> simp [e]
      rw [lengths, f1, f2, ← ha, ← hb] at this
      exact this
    have h0 : 0 ≤ opLen o ∧ opLen o < 100000000000000 := by unfold opLen; split <;> omega
    refine loopC_once mixed l1_edit_Lengths.eq_1 ?_
    have e1 : IntKind.i64.wrap (o.n + (o.l.length : Int)) = o.n + o.l.length := i64_same (by omega) (by omega)
    simp [hlt, ho', updF_app, e1]
    refine ⟨fun h3 => ?_, fun h3 => ?_⟩
    · have ez : opLen o = 1 := by simp [opLen, h3]
      refine plen_k2 (o := o) (u := (H [1]).u + 1) (z := 1) (by simp [updF_app]) (by omega) (by omega) (by omega) (by omega) (by omega) (by omega) ?_ ?_
      all_goals
        simp [ei]
        rw [ez] at next
        exact next _ _ _ rfl rfl
    · have ez : opLen o = o.n + o.l.length := by simp [opLen, h3]
      rw [← ez]
      refine plen_k2 (o := o) (u := (H [1]).u + 1) (z := opLen o) (by simp [updF_app]) (by omega) (by omega) (by omega) (by omega) (by omega) (by omega) ?_ ?_
      all_goals
        simp [ei]
        exact next _ _ _ rfl rfl
end
theorem pLengths_spec {e : E} (hl : e.ops.length * 240 ≤ 140737488355328) (ho : ∀ x, x ∈ e.ops → 0 ≤ x.n ∧ x.n ≤ 1048576 ∧ x.l.length * 56 ≤ 140737488355328) : G.Spec Tryd.prog 43 [eX e] (.tup [iv (lengths 0 0 e.ops).1, iv (lengths 0 0 e.ops).2]) := by
  refine spec_of t_edit_Lengths (by simp) fun w0 I0 => ?_
  unfold c_edit_Lengths
  simp
  refine plen_l1 (os := e.ops) hl ho e.ops.length 0 0 0 _ (by omega) (by omega) (by omega) (by omega) (by omega) fun q H' => ?_
  simp
  exact frz_bare rfl
section
variable {n0 : Nat} {w0 : World} {I0 : Nat → Prop} {Q : Exit → Sta → Prop}
theorem pops_l1 {e : E} {d : Nat} (hd : d ≤ 1000) (hk : 2 ≤ e.list ∧ e.list ≤ 9) (hl : e.ops.length * 240 ≤ 140737488355328) (hw : ∀ x, x ∈ e.ops → WfO x) (ih : ∀ x, x ∈ e.ops → PRightS x.e) : ∀ (m i : Nat) (H : Hp), i + m = e.ops.length → H [0] = ⟨1, .cells (eL e)⟩ →
    (rightOs d e.list (e.ops.drop i) = true → ∀ q H', H' [0] = ⟨1, .cells (eL e)⟩ → Q (.exit 0) ⟨lk [(1, iv d), (2, .pob [0] 1 0), (10, oKs e.ops), (11, iv e.ops.length), (12, iv e.ops.length), (13, bv q)], H'⟩) → (rightOs d e.list (e.ops.drop i) = false → ∀ H', Q .ret ⟨lk [(4, bv false)], H'⟩) →
    LoopC (cx Tryd.prog w0 I0 n0) l1_edit_ops Q ⟨lk [(1, iv d), (2, .pob [0] 1 0), (10, oKs e.ops), (11, iv e.ops.length), (12, iv i)], H⟩ := by
  intro m
  induction m with
  | zero =>
    intro i H hi hA h1 h2
    have : i = e.ops.length := by omega
    subst this
    refine loopC_once mixed l1_edit_ops.eq_1 ?_
    simp
    exact h1 (by simp) _ _ hA
  | succ m ihm =>
    intro i H hi hA h1 h2
    have hlt : i < e.ops.length := by omega
    have ed : e.ops.drop i = e.ops[i] :: e.ops.drop (i + 1) := List.drop_eq_getElem_cons hlt
    have ei : IntKind.i64.wrap ((i : Int) + 1) = ((i + 1 : Nat) : Int) := i64_same (by omega) (by omega)
    have hop := pOp_spec hk (hw _ (List.getElem_mem hlt)) (ih _ (List.getElem_mem hlt)) hd
    rw [ed, rightOs_cons] at h1 h2
    refine loopC_once mixed l1_edit_ops.eq_1 ?_
    simp [hA, hlt, updF_app]
    refine sc_call hop rfl ?_
    cases hr : rightO d e.list e.ops[i] with
    | false =>
      simp
      exact h2 (by simp [hr]) _
    | true =>
      simp [ei]
      exact ihm (i + 1) _ (by omega) (by simp [updF_app, hA]) (fun hh => h1 (by simp [hr, hh])) (fun hh => h2 (by simp [hh]))
end
theorem pOps_spec {e : E} (hw : WfE e) {d : Nat} (hd : d ≤ 1000) (hk : 2 ≤ e.list ∧ e.list ≤ 9) (ih : ∀ x, x ∈ e.ops → PRightS x.e) : G.Spec Tryd.prog 27 [eX e, iv d] (bv (rightOs d e.list e.ops && (decide ((lengths 0 0 e.ops).1 < 1048576) && decide ((lengths 0 0 e.ops).2 < 1048576)))) := by
  refine spec_of t_edit_ops (by simp) fun w0 I0 => ?_
  unfold c_edit_ops
  simp
  refine pops_l1 hd hk hw.ol hw.os ih e.ops.length 0 _ (by omega) (by simp) (fun hr q H' hA => ?_) (fun hr H' => ?_)
  · simp only [List.drop_zero] at hr
    simp [hA]
    refine sc_call (pLengths_spec hw.ol (fun x hx => ⟨(op_n (rightOs_all.1 hr x hx)).1, (op_n (rightOs_all.1 hr x hx)).2, (hw.os x hx).ll⟩)) rfl ?_
    simp
    refine frz_bool ?_
    rw [hr]
    simp
  · simp only [List.drop_zero] at hr
    simp
    exact frz_bool (by rw [hr]; rfl)
set_option maxRecDepth 10000 in
theorem pright_all : ∀ (e : E), wfE e → PRightS e := by
  refine E.ind fun k o nn ws ks l os ihk iho hw d hd => ?_
  have h := wfE_iff.1 hw
  have hb := pBare_spec h
  obtain ⟨R, hR⟩ : ∃ R, R = rightE d (.mk k o nn ws ks l os) := ⟨_, rfl⟩
  rw [← hR]
  rw [rightE_mk, headOk_bare] at hR
  have eb : bareE (.mk k o nn ws ks l os) = bareB k o nn ws.length ks.length l os.length := rfl
  rw [eb] at hb
  have ed : 1 ≤ d → IntKind.i64.wrap ((d : Int) - 1) = ((d - 1 : Nat) : Int) := fun h => by rw [i64_same (by omega) (by omega)]; omega
  refine spec_of t_edit_right (by simp) fun w0 I0 => ?_
  unfold c_edit_right
  simp
  refine sc_call hb rfl ?_
  generalize hB : bareB k o nn ws.length ks.length l os.length = B at hR
  cases B with
  | false =>
    simp
    refine frz_bool ?_
    rw [hR]
    simp
  | true =>
    by_cases hd0 : d = 0
    · subst hd0
      simp
      refine frz_bool ?_
      rw [hR]
      simp
    have ed' := ed (by omega)
    have hh := headOk_bare (d := d) (k := k) (o := o) (n := nn) (nw := ws.length) (nk := ks.length) (l := l) (no := os.length)
    rw [hB] at hh
    simp only [Bool.and_true] at hR hh
    by_cases kr : k < 0 ∨ 3 < k
    · have k0 : ¬ k = 0 := by omega
      have k1 : ¬ k = 1 := by omega
      have k2 : ¬ k = 2 := by omega
      have k3 : ¬ k = 3 := by omega
      simp [hd0, k0, k1, k2, k3]
      refine frz_bool ?_
      rw [hR, if_pos]
      simp
      omega
    have hh1 : headOk d k o nn ws.length ks.length l os.length = true := by
      rw [hh]
      simp
      omega
    obtain ⟨_, k0, k3, c1, c2, c3⟩ := headOk_iff.1 hh1
    rw [← hh, if_neg (by rw [hh1]; simp)] at hR
    have hk : k = 0 ∨ k = 1 ∨ k = 2 ∨ k = 3 := by omega
    rcases hk with rfl | rfl | rfl | rfl
    · obtain ⟨w0', s0⟩ := c2 (by omega)
      obtain ⟨l0, o0⟩ := c3 (by omega)
      obtain rfl := List.eq_nil_of_length_eq_zero w0'
      obtain rfl := List.eq_nil_of_length_eq_zero s0
      obtain rfl := List.eq_nil_of_length_eq_zero o0
      simp [hd0]
      refine frz_bool ?_
      rw [hR]
      simp [wordsOk, lengths]
    · simp [hd0]
      refine sc_call (pValue_spec h.o) rfl ?_
      simp
      refine sc_call_gt rfl (fun _ => pValue_spec h.n) (fun e => by simp [e]) rfl ?_
      simp
      refine frz_bool ?_
      rw [hR]
      simp
      cases rightT 64 o <;> cases rightT 64 nn <;> simp <;> rfl
    · obtain ⟨l0, o0⟩ := c3 (by omega)
      obtain rfl := List.eq_nil_of_length_eq_zero o0
      simp [hd0]
      refine sc_call (pWords_spec h.wl h.w) rfl ?_
      simp [ed']
      refine sc_call_gt rfl (fun _ => pKids_spec (d := d - 1) (by omega) h.kl (fun x hx => ihk x hx (h.ks x hx).2)) (fun e => by simp [e]) rfl ?_
      simp
      refine frz_bool ?_
      rw [hR]
      cases wordsOk (-1) ws <;> cases rightKs (d - 1) (-1) ks <;> simp [lengths]
    · obtain ⟨w0', s0⟩ := c2 (by omega)
      obtain rfl := List.eq_nil_of_length_eq_zero w0'
      obtain rfl := List.eq_nil_of_length_eq_zero s0
      simp [hd0]
      refine sc_call (tList_spec l) rfl ?_
      by_cases hl : 2 ≤ l ∧ l ≤ 9
      · have hl' : ¬ (l < 2 ∨ l > 9) := by omega
        simp [hl.1, hl.2, ed']
        refine sc_call_gt rfl (fun _ => pOps_spec (e := .mk 3 o nn [] [] l os) (d := d - 1) h (by omega) hl (fun x hx => iho x hx (h.os x hx).e)) (fun e => rfl) rfl ?_
        simp
        refine frz_bool ?_
        rw [hR]
        simp [wordsOk, hl']
        cases rightOs (d - 1) l os <;> simp <;> rfl
      · have hl' : l < 2 ∨ l > 9 := by omega
        have hf : (decide (2 ≤ l) && decide (l ≤ 9)) = false := by rw [Bool.eq_false_iff]; intro e; simp at e; omega
        simp [hf]
        refine sc_call_off rfl ?_
        simp
        refine frz_bool ?_
        rw [hR]
        simp [wordsOk, hl']
theorem peRight_spec {e : E} (h : wfE e) : G.Spec Tryd.prog 7 [eX e] (bv (rightE 64 e)) := by
  refine spec_of t_edit_Right (by simp) fun w0 I0 => ?_
  unfold c_edit_Right
  simp
  refine sc_call (pright_all e h 64 (by omega)) rfl ?_
  simp
  exact frz_bare rfl
end Go.Proofs.YtebihdhapepejaaDoor

/-
  Edits read of texts, by the program.
-/
namespace Go.Proofs.YtebihdhapepejaaDoor
set_option linter.unusedVariables false
set_option linter.unusedSimpArgs false
set_option maxRecDepth 10000
open Go Go.G Go.Proofs Go.PL
/-- the right edit of a text, as the program reads it -/
def parseE (s : List UInt8) : E × Bool := if (wholeE s).2 = true ∧ rightE 64 (wholeE s).1 = true then ((wholeE s).1, true) else (E0, false)
theorem whole_take {s : List UInt8} (h : (wholeE s).2 = true) : showE (wholeE s).1 = s ∧ (s.length ≤ 1000000000 → wfE (wholeE s).1) := by
  unfold wholeE at h ⊢
  cases e : editE 64 s with
  | none => rw [e] at h; cases h
  | some q =>
    obtain ⟨x, n⟩ := q
    rw [e] at h
    simp at h
    subst h
    obtain ⟨g1, g2⟩ := edit_take 64 _ _ _ e
    exact ⟨by rw [g1, List.take_length], g2⟩
set_option maxHeartbeats 1000000 in
theorem eparse_spec {s : List UInt8} (hs : s.length ≤ 1000000000) : G.Spec Tryd.prog 4 [S s] (.tup [eX (parseE s).1, iv (if (parseE s).2 = true then 0 else 11)]) := by
  have t1 := ewhole_spec hs
  have hW := @whole_take s
  refine spec_of t_etext_Parse (by simp) fun w0 I0 => ?_
  unfold c_etext_Parse parseE
  generalize (wholeE s).1 = e at *
  generalize (wholeE s).2 = ok at *
  cases ok with
  | false =>
    simp
    refine sc_call t1 rfl ?_
    simp [updF_app, splice]
    refine sc_call_gf (L := []) (x := bv false) (q := true) rfl (fun h => by cases h) (fun h => by cases h) rfl ?_
    simp
    refine sc_call_gf (L := []) (x := S []) (q := true) rfl (fun h => by cases h) (fun h => by cases h) rfl ?_
    simp [updF_app, splice]
    refine frz_tup ⟨frz_agg ⟨frz_bare rfl, frz_bare rfl, frz_sl, frz_sl, frz_bare rfl, frz_sl, frz_sl, frz_sl, frz_sl, frz_bare rfl, frz_sl, trivial⟩, frz_bare rfl, trivial⟩
  | true =>
    obtain ⟨hsh, hwf⟩ := hW rfl
    have hwf := hwf hs
    have t2 := peRight_spec hwf
    simp
    refine sc_call t1 rfl ?_
    simp [updF_app, splice]
    refine sc_call_gf (q := false) rfl (fun _ => t2) (fun _ => rfl) rfl ?_
    cases hr : rightE 64 e with
    | false =>
      simp
      refine sc_call_gf (L := []) (x := S []) (q := true) rfl (fun h => by cases h) (fun h => by cases h) rfl ?_
      simp [updF_app, splice]
      refine frz_tup ⟨frz_agg ⟨frz_bare rfl, frz_bare rfl, frz_sl, frz_sl, frz_bare rfl, frz_sl, frz_sl, frz_sl, frz_sl, frz_bare rfl, frz_sl, trivial⟩, frz_bare rfl, trivial⟩
    | true =>
      have t3 := eprint_spec e 64 hr hwf (by rw [hsh]; exact hs)
      rw [hsh] at t3
      simp
      refine sc_call_gf (q := false) rfl (fun _ => t3) (fun _ => rfl) rfl ?_
      simp [updF_app, splice, str_neqE]
      refine frz_tup ⟨frz_agg ⟨frz_bare rfl, frz_bare rfl, frz_sl, frz_sl, frz_bare rfl, frz_sl, frz_sl, frz_sl, frz_sl, frz_bare rfl, frz_sl, trivial⟩, frz_bare rfl, trivial⟩
end Go.Proofs.YtebihdhapepejaaDoor
