/-
  Texts, merged, without what is not reached.
-/
import Derived.Test.YtmeldaflhkiopaaGreatKLc
namespace Go.Proofs.YtmeldaflhkiopaaGreat
set_option linter.unusedVariables false
set_option linter.unusedSimpArgs false
open Go Go.G Go.Proofs Go.PL
abbrev tab8 : List UInt8 := [0,1,2,2,3,3,3,3,4,4,4,4,4,4,4,4,5,5,5,5,5,5,5,5,5,5,5,5,5,5,5,5,6,6,6,6,6,6,6,6,6,6,6,6,6,6,6,6,6,6,6,6,6,6,6,6,6,6,6,6,6,6,6,6,7,7,7,7,7,7,7,7,7,7,7,7,7,7,7,7,7,7,7,7,7,7,7,7,7,7,7,7,7,7,7,7,7,7,7,7,7,7,7,7,7,7,7,7,7,7,7,7,7,7,7,7,7,7,7,7,7,7,7,7,7,7,7,7,8,8,8,8,8,8,8,8,8,8,8,8,8,8,8,8,8,8,8,8,8,8,8,8,8,8,8,8,8,8,8,8,8,8,8,8,8,8,8,8,8,8,8,8,8,8,8,8,8,8,8,8,8,8,8,8,8,8,8,8,8,8,8,8,8,8,8,8,8,8,8,8,8,8,8,8,8,8,8,8,8,8,8,8,8,8,8,8,8,8,8,8,8,8,8,8,8,8,8,8,8,8,8,8,8,8,8,8,8,8,8,8,8,8,8,8,8,8,8,8,8,8,8,8,8,8,8,8]
set_option maxRecDepth 100000 in
theorem tab8_get (n : Nat) (h : n < 256) : tab8[n]? = some (UInt8.ofNat (Sort.bitsLen n))∧Sort.bitsLen n≤8 := by
  have : ∀ n : Fin 256,tab8[n.val]? = some (UInt8.ofNat (Sort.bitsLen n.val))∧Sort.bitsLen n.val≤8 := by decide +kernel
  exact this ⟨n,h⟩
set_option maxRecDepth 100000 in
theorem len64_spec (n : Nat) (hn : n < 256) : G.Spec Tryz.prog 147 [uv n] (iv (Sort.bitsLen n)) := by
  refine spec_of t_math_bits_Len64 (by simp) fun w0 I0 => ?_
  unfold c_math_bits_Len64
  simp [show ¬ (4294967296 : Int)≤n by omega]
  rw [k2_math_bits_Len64.eq_1]
  simp [show ¬ (65536 : Int)≤n by omega]
  rw [k1_math_bits_Len64.eq_1]
  obtain ⟨ht,hb⟩ := tab8_get n hn
  have hx : (UInt8.ofNat (Sort.bitsLen n)).toNat = Sort.bitsLen n := by rw [UInt8.toNat_ofNat']; exact Nat.mod_eq_of_lt (by omega)
  generalize UInt8.ofNat (Sort.bitsLen n) = y at ht hx
  have e1 : IntKind.i64.wrap (Sort.bitsLen n : Int) = (Sort.bitsLen n : Int) := i64_same (by omega) (by omega)
  have e2 : IntKind.u8.wrap (n : Int) = (n : Int) := by rw [IntKind.wrap_u8]; omega
  simp [show ¬ (256 : Int)≤n by omega,ht,e2]
  rw [hx,e1,e1]
  exact frz_bare rfl
theorem len_spec (n : Nat) (hn : n < 256) : G.Spec Tryz.prog 135 [uv n] (iv (Sort.bitsLen n)) := by
  refine spec_of t_math_bits_Len (by simp) fun w0 I0 => ?_
  unfold c_math_bits_Len
  simp
  refine sc_call (len64_spec n hn) rfl ?_
  simp
  exact frz_bare rfl
theorem nextPow_spec (n : Nat) (hn : n < 256) : G.Spec Tryz.prog 149 [iv n] (uv (1 <<< Sort.bitsLen n : Nat)) := by
  refine spec_of t_slices_nextPowerOfTwo (by simp) fun w0 I0 => ?_
  obtain ⟨_,hb⟩ := tab8_get n hn
  have e1 : IntKind.u64.wrap (n : Int) = (n : Int) := u64_same (by omega) (by omega)
  have h2 : (2 : Nat) ^ Sort.bitsLen n≤2 ^ 8 := Nat.pow_le_pow_right (by omega) hb
  have h3 : ((2 ^ Sort.bitsLen n : Nat) : Int) < 18446744073709551616 := Int.ofNat_lt.2 (Nat.lt_of_le_of_lt h2 (by decide))
  have e2 : IntKind.u64.wrap (2 ^ min (Sort.bitsLen n) IntKind.u64.bits : Int) = ((1 <<< Sort.bitsLen n : Nat) : Int) := by
    rw [show min (Sort.bitsLen n) IntKind.u64.bits = Sort.bitsLen n from Nat.min_eq_left (Nat.le_trans hb (by decide)),Nat.one_shiftLeft]
    rw [show ((2 : Int) ^ Sort.bitsLen n) = ((2 ^ Sort.bitsLen n : Nat) : Int) by simp]
    exact u64_same (Int.natCast_nonneg _) h3
  generalize hz : ((1 <<< Sort.bitsLen n : Nat) : Int) = z at e2 ⊢
  unfold c_slices_nextPowerOfTwo
  simp [e1]
  refine sc_call (len_spec n hn) rfl ?_
  simp [e2]
  exact frz_bare rfl
theorem xshl (s : UInt64) (k : UInt64) (hk : k.toNat < 64) : bits .xor .u64 (s.toNat : Int) (IntKind.u64.wrap ((s.toNat : Int) * 2 ^ k.toNat)) = ((s ^^^ (s <<< k)).toNat : Int) := by
  have h := s.toNat_lt
  have e : IntKind.u64.wrap ((s.toNat : Int) * 2 ^ k.toNat) = ((s <<< k).toNat : Int) := by
    rw [IntKind.wrap_u64,UInt64.toNat_shiftLeft,Nat.mod_eq_of_lt hk,Nat.shiftLeft_eq]
    rw [show ((s.toNat : Int) * 2 ^ k.toNat) = ((s.toNat * 2 ^ k.toNat : Nat) : Int) by simp]
    omega
  rw [e,bits_xor_u64_nat _ _ h (s <<< k).toNat_lt,UInt64.toNat_xor]
theorem xshr (s : UInt64) (k : UInt64) (hk : k.toNat < 64) : bits .xor .u64 (s.toNat : Int) ((s.toNat : Int) / 2 ^ k.toNat) = ((s ^^^ (s >>> k)).toNat : Int) := by
  have h := s.toNat_lt
  have e : (s.toNat : Int) / 2 ^ k.toNat = ((s >>> k).toNat : Int) := by
    rw [UInt64.toNat_shiftRight,Nat.mod_eq_of_lt hk,Nat.shiftRight_eq_div_pow]
    simp
  rw [e,bits_xor_u64_nat _ _ h (s >>> k).toNat_lt,UInt64.toNat_xor]
def ceU (s : UInt64) : Fam := ⟨fun r p => if p = [] then ⟨1,.cells [uv s.toNat]⟩ else ⟨0,.none⟩,fun {g δ r r'} hg hd p => by
    by_cases h1 : p = []
    · rw [if_pos h1]
      exact Fam.cells_ren (by simp [A.renL,A.ren])
    · rw [if_neg h1]; rfl,fun {D r} hD p => by
    by_cases h1 : p = []
    · rw [if_pos h1]; simp [Ob.refs,A.refsL,A.refs]
    · rw [if_neg h1]; trivial⟩
@[simp] theorem ceU_F {s : UInt64} {r : Nat} {p : Nm} : (ceU s).F r p = if p = [] then ⟨1,.cells [uv s.toNat]⟩ else ⟨0,.none⟩ := rfl
theorem next_spec19 (s : UInt64) : SpecF Tryz.prog 150 (fun r => [ceP r]) (ceU s) (fun _ => uv (Sort.xorNext s).toNat) (ceU (Sort.xorNext s)) := by
  refine specF_of t_slices_xorshift_Next (by simp) (famL_cons famA_pob famL_nil) famA_v fun w0 I0 M0 m0 => ?_
  unfold c_slices_xorshift_Next
  simp [updF_app]
  have x1 : bits .xor .u64 (s.toNat : Int) (IntKind.u64.wrap ((s.toNat : Int) * 2 ^ min 13 IntKind.u64.bits)) = ((s ^^^ (s <<< 13)).toNat : Int) := xshl s 13 (by decide)
  rw [x1]
  have x2 := fun r : UInt64 => xshr r 7 (by decide)
  have x2' : ∀ r : UInt64,bits .xor .u64 (r.toNat : Int) ((r.toNat : Int) / 2 ^ min 7 IntKind.u64.bits) = ((r ^^^ (r >>> 7)).toNat : Int) := fun r => x2 r
  rw [x2']
  have x3 : ∀ r : UInt64,bits .xor .u64 (r.toNat : Int) (IntKind.u64.wrap ((r.toNat : Int) * 2 ^ min 17 IntKind.u64.bits)) = ((r ^^^ (r <<< 17)).toNat : Int) := fun r => xshl r 17 (by decide)
  rw [x3]
  exact reth_fam rfl rfl (fun p => by by_cases hp : p = [] <;> simp [hp,updF_app,Sort.xorNext])
theorem breakStep_size (a l m : Nat) (st : UInt64 × Array Sc) (i : Nat) : (Sort.breakStep a l m st i).2.size = st.2.size := by
  unfold Sort.breakStep
  exact swp_size
section
variable {n0 : Nat} {w0 : World} {I0 : Nat→Prop} {M0 : Nm→Nat→Prop} {m0 : Mu} {Q : Exit→Sta→Prop} {v : Nat}
theorem br_step {n a l k : Nat} (hn : n≤900) (hal : a + l≤n) (h13 : 13≤l) (h16 : l≤49) (hk : k = Sort.bitsLen l) {i : Nat} (hi : i < n) (hib : i≤a + l / 4 * 2 + 1) {r : UInt64} {d : Array Sc} {H : Hp} (hd : d.size = n) (hH : ∀ p,H (0 :: p) = (arF d v).F 0 p) (hG : ∀ p,H (1 :: p) = (ceU r).F 1 p)
    (hq : ∀ H' : Hp,(∀ p,H' (0 :: p) = (arF (Sort.breakStep a l (1 <<< k) (r,d) i).2 v).F 0 p)→(∀ p,H' (1 :: p) = (ceU (Sort.breakStep a l (1 <<< k) (r,d) i).1).F 1 p)→LoopC (cxh Tryz.prog w0 I0 M0 n0 m0) l1_slices_breakPatternsCmpFunc_pair_Pair Q ⟨lk [(0,arN n v 0),(1,iv a),(8,iv l),(9,ceP 1),(10,uv (1 <<< k : Nat)),(11,iv (i + 1 : Nat))],H'⟩) :
    LoopC (cxh Tryz.prog w0 I0 M0 n0 m0) l1_slices_breakPatternsCmpFunc_pair_Pair Q ⟨lk [(0,arN n v 0),(1,iv a),(8,iv l),(9,ceP 1),(10,uv (1 <<< k : Nat)),(11,iv i)],H⟩ := by
  have hN := next_spec19 r
  obtain ⟨m,hm⟩ : ∃ m,m = (1 <<< k : Nat) := ⟨_,rfl⟩
  obtain ⟨q4,hq4⟩ : ∃ q4,q4 = l / 4 := ⟨_,rfl⟩
  have e1 : IntKind.i64.wrap ((l : Int).tdiv 4) = (q4 : Int) := by rw [Int.tdiv_eq_ediv_of_nonneg (by omega),i64_same (by omega) (by omega)]; omega
  have e1' : IntKind.i64.wrap ((l : Int) / 4) = (q4 : Int) := by rw [i64_same (by omega) (by omega)]; omega
  have e2 : IntKind.i64.wrap ((q4 : Int) * 2) = (q4 : Int) * 2 := i64_same (by omega) (by omega)
  have e3 : IntKind.i64.wrap ((a : Int) + (q4 : Int) * 2) = (a : Int) + (q4 : Int) * 2 := i64_same (by omega) (by omega)
  have e4 : IntKind.i64.wrap ((a : Int) + (q4 : Int) * 2 + 1) = (a : Int) + (q4 : Int) * 2 + 1 := i64_same (by omega) (by omega)
  rw [← hm] at hq ⊢
  refine loopC_once mixed l1_slices_breakPatternsCmpFunc_pair_Pair.eq_1 ?_
  simp [e1,e1',e2,e3,e4,show (i : Int)≤(a : Int) + (q4 : Int) * 2 + 1 by omega]
  refine sc_fam 1 hN hG (by simp) (by simp) ?_
  simp
  have hX := (Sort.xorNext r).toNat_lt
  have hml : m≤2 * l := by
    rw [hm,hk,Nat.one_shiftLeft]
    exact Sort.two_pow_bitsLen_le (by omega)
  have hm1 : 1≤m := by
    rw [hm,Nat.one_shiftLeft]
    exact Nat.one_le_two_pow
  obtain ⟨o,ho⟩ : ∃ o,o = (Sort.xorNext r).toNat &&& (m - 1) := ⟨_,rfl⟩
  have hol : o≤m - 1 := by rw [ho]; exact Nat.and_le_right
  have eA : bits .and .u64 ((Sort.xorNext r).toNat : Int) (IntKind.u64.wrap ((m : Int) - 1)) = (o : Int) := by
    rw [show IntKind.u64.wrap ((m : Int) - 1) = ((m - 1 : Nat) : Int) by rw [u64_same (by omega) (by omega)]; omega,bits_and_u64_nat _ _ hX (by omega),← ho]
  have eB : IntKind.i64.wrap (o : Int) = (o : Int) := i64_same (by omega) (by omega)
  have e5 : IntKind.i64.wrap ((i : Int) + 1) = ((i + 1 : Nat) : Int) := by rw [i64_same (by omega) (by omega)]; omega
  have fin : ∀ o2 : Nat,o2 < l→Sort.breakStep a l m (r,d) i = (Sort.xorNext r,Sort.swp d i (a + o2))→WPC (cxh Tryz.prog w0 I0 M0 n0 m0) k1_slices_breakPatternsCmpFunc_pair_Pair
      (InBlock 1 (ThenC (WPC (cxh Tryz.prog w0 I0 M0 n0 m0) (.keep [0,1,8,9,10,11] (.reg [co (some 36) (.move (.tmp 11)) none,co (some 37) (.binOp .add 3 (.tmp 36) (.const (.int .i64 1)) 3) none,co (some 11) (.assign (.tmp 37)) none] [0,1,8,9,10,11]))
        (ThenC (LoopC (cxh Tryz.prog w0 I0 M0 n0 m0) l1_slices_breakPatternsCmpFunc_pair_Pair Q) Q)) (ThenC (LoopC (cxh Tryz.prog w0 I0 M0 n0 m0) l1_slices_breakPatternsCmpFunc_pair_Pair Q) Q)))
      ⟨lk [(0,arN n v 0),(1,iv a),(8,iv l),(9,ceP 1),(10,uv m),(11,iv i),(12,iv o2)],ov 1 ((ceU (Sort.xorNext r)).F 1) H⟩ := fun o2 ho2 hst => by
    have h0 := hH []
    simp only [rpF_F] at h0
    have e6 : IntKind.i64.wrap ((a : Int) + (o2 : Int)) = ((a + o2 : Nat) : Int) := by rw [i64_same (by omega) (by omega)]; omega
    have g1 := ar_get (d := d) (i := i) (by omega)
    have g0 := ar_get (d := d) (i := a + o2) (by omega)
    have g2 := ar_get2 (d := d) (i := i) (j := a + o2) (by omega) (by omega)
    have hs := ar_swp (d := d) (i := i) (j := a + o2)
    rw [hst] at hq
    generalize d[i]! = x at g1 g2 hs
    generalize d[a + o2]! = y at g0 g2 hs
    have hj : ((a + o2 : Nat) : Int) < n := by omega
    have hj' : a + o2 < n := by omega
    generalize Sort.swp d i (a + o2) = d2 at hs hq
    generalize a + o2 = jj at e6 g0 g2 hs hj hj'
    rw [k1_slices_breakPatternsCmpFunc_pair_Pair.eq_1]
    simp [e6,h0,g0,g1,g2,e5,show (i : Int) < n by omega,hi,hj,hj',pr_agg]
    exact hq _ (fun p => by by_cases hp : p = [] <;> simp [hp,hs,updF_app,hH]) (fun p => by simp [updF_app])
  simp only [eA,eB]
  have hbs : Sort.breakStep a l m (r,d) i = (Sort.xorNext r,Sort.swp d i (a + (if o ≥ l then o - l else o))) := by
    unfold Sort.breakStep
    simp only [← ho]
  by_cases hc : l≤o
  · rw [if_pos (show o ≥ l from hc)] at hbs
    refine ⟨fun _ => ?_,fun h => by omega⟩
    have e7 : IntKind.i64.wrap ((o : Int) - l) = ((o - l : Nat) : Int) := by rw [i64_same (by omega) (by omega)]; omega
    rw [e7]
    exact fin (o - l) (by omega) hbs
  · rw [if_neg hc] at hbs
    refine ⟨fun h => by omega,fun _ => ?_⟩
    exact fin o (by omega) hbs
end
theorem break_spec (d : Array Sc) (v a b : Nat) (hn : d.size≤900) (hab : a + 13≤b) (hb : b≤d.size) (hl : b - a < 50) : SpecF Tryz.prog 140 (fun r => [arN d.size v r,iv a,iv b,cmpF]) (arF d v) (fun _ => .tup []) (arF (Sort.breakPatterns d a b) v) := by
  refine specF_of t_slices_breakPatternsCmpFunc_pair_Pair (by simp) (famL_cons (famAr _ _) (famL_cons famA_v (famL_cons famA_v (famL_cons famA_cmpF famL_nil)))) (famA_tup famL_nil) fun w0 I0 M0 m0 => ?_
  obtain ⟨n,hnn⟩ : ∃ n,d.size = n := ⟨_,rfl⟩
  rw [hnn] at hn hb ⊢
  obtain ⟨l,hll⟩ : ∃ l,l = b - a := ⟨_,rfl⟩
  obtain ⟨q4,hq4⟩ : ∃ q4,q4 = l / 4 := ⟨_,rfl⟩
  have e0 : IntKind.i64.wrap ((b : Int) - a) = (l : Int) := by rw [i64_same (by omega) (by omega)]; omega
  have e1 : IntKind.i64.wrap ((l : Int).tdiv 4) = (q4 : Int) := by rw [Int.tdiv_eq_ediv_of_nonneg (by omega),i64_same (by omega) (by omega)]; omega
  have e1' : IntKind.i64.wrap ((l : Int) / 4) = (q4 : Int) := by rw [i64_same (by omega) (by omega)]; omega
  have e2 : IntKind.i64.wrap ((q4 : Int) * 2) = (q4 : Int) * 2 := i64_same (by omega) (by omega)
  have e3 : IntKind.i64.wrap ((a : Int) + (q4 : Int) * 2) = (a : Int) + (q4 : Int) * 2 := i64_same (by omega) (by omega)
  have e4 : IntKind.i64.wrap ((a : Int) + (q4 : Int) * 2 - 1) = ((a + q4 * 2 - 1 : Nat) : Int) := by rw [i64_same (by omega) (by omega)]; omega
  have e5 : IntKind.i64.wrap ((a : Int) + (q4 : Int) * 2 + 1) = (a : Int) + (q4 : Int) * 2 + 1 := i64_same (by omega) (by omega)
  have eu : IntKind.u64.wrap (l : Int) = (l : Int) := u64_same (by omega) (by omega)
  have hNx := nextPow_spec l (by omega)
  have ho : (UInt64.ofNat l).toNat = l := by rw [UInt64.toNat_ofNat']; exact Nat.mod_eq_of_lt (by omega)
  unfold Sort.breakPatterns
  simp only [← hll,ge_iff_le,if_pos (show 8≤l by omega),← hq4]
  have st := @br_step (n0 := 67) w0 I0 M0 m0
  generalize hid : a + q4 * 2 - 1 = id0 at e4 ⊢
  unfold c_slices_breakPatternsCmpFunc_pair_Pair
  generalize hmm : (1 <<< Sort.bitsLen l : Nat) = mm at hNx ⊢
  simp [e0,eu,show (8 : Int)≤l by omega,updF_app]
  refine sc_call hNx rfl ?_
  simp [e1,e1',e2,e3,e4]
  rw [← hmm]
  refine st hn (by omega) (by omega) (by omega) rfl (i := id0) (r := UInt64.ofNat l) (d := d) (by omega) (by omega) hnn (fun p => by simp) (fun p => ?_) fun H1 f1 g1 => ?_
  · by_cases hp : p = []
    · subst hp; simp [lkH,ho]
    · simp [lkH,hp,Ne.symm hp]
  have s1 := breakStep_size a l (1 <<< Sort.bitsLen l) (UInt64.ofNat l,d) id0
  simp only [hnn] at s1
  generalize Sort.breakStep a l (1 <<< Sort.bitsLen l) (UInt64.ofNat l,d) id0 = S1 at f1 g1 s1 ⊢
  refine st hn (by omega) (by omega) (by omega) rfl (i := id0 + 1) (r := S1.1) (d := S1.2) (by omega) (by omega) s1 f1 g1 fun H2 f2 g2 => ?_
  have s2 := breakStep_size a l (1 <<< Sort.bitsLen l) (S1.1,S1.2) (id0 + 1)
  simp only [s1] at s2
  have eS : (S1.1,S1.2) = S1 := rfl
  rw [eS] at f2 g2 s2
  generalize Sort.breakStep a l (1 <<< Sort.bitsLen l) S1 (id0 + 1) = S2 at f2 g2 s2 ⊢
  refine st hn (by omega) (by omega) (by omega) rfl (i := id0 + 1 + 1) (r := S2.1) (d := S2.2) (by omega) (by omega) s2 f2 g2 fun H3 f3 g3 => ?_
  refine loopC_once mixed l1_slices_breakPatternsCmpFunc_pair_Pair.eq_1 ?_
  have big : ¬ ((id0 + 1 + 1 + 1 : Nat) : Int)≤(a : Int) + (q4 : Int) * 2 + 1 := by omega
  generalize id0 + 1 + 1 + 1 = id3 at big ⊢
  simp [e1,e1',e2,e3,e5,big]
  exact reth_famN rfl rfl (fun p => f3 p)
def pq1 (d : Array Sc) (a b lim q : Nat) (wb wp : Bool) : Array Sc :=
  if (decide (a > 0) && !ltP d[a - 1]! d[q]!) = true then
    if a < (Sort.partitionEqual ltP d a b q).1∧(Sort.partitionEqual ltP d a b q).1≤b then Sort.pdq ltP (Sort.partitionEqual ltP d a b q).2 (Sort.partitionEqual ltP d a b q).1 b lim wb wp else (Sort.partitionEqual ltP d a b q).2
  else
    if a≤(Sort.partition ltP d a b q).1∧(Sort.partition ltP d a b q).1 < b then
      if (Sort.partition ltP d a b q).1 - a < b - (Sort.partition ltP d a b q).1 then
        Sort.pdq ltP (Sort.pdq ltP (Sort.partition ltP d a b q).2.2 a (Sort.partition ltP d a b q).1 lim true true) ((Sort.partition ltP d a b q).1 + 1) b lim (decide ((Sort.partition ltP d a b q).1 - a ≥ (b - a) / 8)) (Sort.partition ltP d a b q).2.1
      else
        Sort.pdq ltP (Sort.pdq ltP (Sort.partition ltP d a b q).2.2 ((Sort.partition ltP d a b q).1 + 1) b lim true true) a (Sort.partition ltP d a b q).1 lim (decide (b - (Sort.partition ltP d a b q).1 ≥ (b - a) / 8)) (Sort.partition ltP d a b q).2.1
    else (Sort.partition ltP d a b q).2.2
def pq2 (d : Array Sc) (a b lim q : Nat) (hint : Sort.Hint) (wb wp : Bool) : Array Sc :=
  if (wb && wp && decide (hint = .increasing)) = true then
    if (Sort.partialInsertionSort ltP d a b).2 = true then (Sort.partialInsertionSort ltP d a b).1 else pq1 (Sort.partialInsertionSort ltP d a b).1 a b lim q wb wp
  else pq1 d a b lim q wb wp
def pq3 (d : Array Sc) (a b lim : Nat) (wb wp : Bool) : Array Sc :=
  if (Sort.choosePivot ltP d a b).2 = .decreasing then pq2 (Sort.reverseRange d a b) a b lim ((b - 1) - ((Sort.choosePivot ltP d a b).1 - a)) .increasing wb wp
  else pq2 d a b lim (Sort.choosePivot ltP d a b).1 (Sort.choosePivot ltP d a b).2 wb wp
theorem pdq_eq (d : Array Sc) (a b lim : Nat) (wb wp : Bool) : Sort.pdq ltP d a b lim wb wp = if b - a≤12 then Sort.insertionSort ltP d a b else if lim = 0 then Sort.heapSort ltP d a b else
    if wb = true then pq3 d a b lim wb wp else pq3 (Sort.breakPatterns d a b) a b (lim - 1) wb wp := by
  rw [Sort.pdq]
  split
  · rfl
  · split
    · rfl
    · have main : ∀ (d : Array Sc) (lim : Nat),(let c := Sort.choosePivot ltP d a b
        let d2 := if c.2 = .decreasing then Sort.reverseRange d a b else d
        let pivot := if c.2 = .decreasing then (b - 1) - (c.1 - a) else c.1
        let hint := if c.2 = .decreasing then Sort.Hint.increasing else c.2
        let pi := if (wb && wp && hint = .increasing) = true then Sort.partialInsertionSort ltP d2 a b else (d2,false)
        if pi.2 = true then pi.1 else pq1 pi.1 a b lim pivot wb wp) = pq3 d a b lim wb wp := fun d lim => by
        simp only
        unfold pq3 pq2
        by_cases hd : (Sort.choosePivot ltP d a b).2 = .decreasing
        · simp only [hd,if_true]
          cases wb <;> cases wp <;> simp
        · simp only [hd,if_false]
          by_cases hw : (wb && wp && decide ((Sort.choosePivot ltP d a b).2 = .increasing)) = true
          · rw [if_pos hw,if_pos hw]
          · rw [if_neg hw,if_neg hw]
            simp
      cases wb with
      | true =>
        rw [if_pos rfl,← main]
        simp only [Bool.not_true,Bool.false_eq_true,if_false]
        unfold pq1
        rfl
      | false =>
        have e2 : (if (false : Bool) = true then pq3 d a b lim false wp else pq3 (Sort.breakPatterns d a b) a b (lim - 1) false wp) = pq3 (Sort.breakPatterns d a b) a b (lim - 1) false wp := if_neg (by simp)
        rw [e2,← main]
        simp only [Bool.not_false,if_true]
        unfold pq1
        rfl
def farL (l lim : Nat) (wb : Bool) : Prop := l≤12∨(l - 12) + (if wb = true then 0 else 1)≤lim
section
variable {v n : Nat}
theorem far_less {l l' lim : Nat} (wb : Bool) (h : l' < l) (h2 : l - 12≤lim) : farL l' lim wb := by
  unfold farL
  by_cases h3 : l'≤12
  · exact .inl h3
  · right
    split <;> omega
def LPs (v n a b lim : Nat) (wb wp : Bool) (d : Array Sc) : Prop := ∀ {n0 : Nat} {w0 : World} {I0 : Nat→Prop} {M0 : Nm→Nat→Prop} {m0 : Mu} {Q : Exit→Sta→Prop} (H : Hp),(∀ p,H (0 :: p) = (arF d v).F 0 p) →
    (∀ (H' : Hp) (st : List (Nat × A)),(∀ p,H' (0 :: p) = (arF (Sort.pdq ltP d a b lim wb wp) v).F 0 p)→Q .ret ⟨lk st,H'⟩) →
    LoopC (cxh Tryz.prog w0 I0 M0 n0 m0) l1_slices_pdqsortCmpFunc_pair_Pair Q ⟨lk [(0,arN n v 0),(1,iv a),(2,iv b),(3,iv lim),(4,cmpF),(10,bv wb),(11,bv wp)],H⟩
def PQs (v n a b lim : Nat) (d : Array Sc) : Prop := SpecF Tryz.prog 134 (fun r => [arN n v r,iv a,iv b,iv lim,cmpF]) (arF d v) (fun _ => .tup []) (arF (Sort.pdq ltP d a b lim true true) v)
theorem pq_of {a b lim : Nat} {d : Array Sc} (h : LPs v n a b lim true true d) : PQs v n a b lim d := by
  refine specF_of t_slices_pdqsortCmpFunc_pair_Pair (by simp) (famL_cons (famAr _ _) (famL_cons famA_v (famL_cons famA_v (famL_cons famA_v (famL_cons famA_cmpF famL_nil))))) (famA_tup famL_nil) fun w0 I0 M0 m0 => ?_
  unfold c_slices_pdqsortCmpFunc_pair_Pair
  simp
  refine LoopC.le (le_list [(0,arN n v 0),(1,iv a),(2,iv b),(3,iv lim),(4,cmpF),(10,bv true),(11,bv true)] (by simp)) ?_
  refine h _ (fun p => by simp) fun H' st h' => ?_
  simp
  exact reth_famN rfl rfl (fun p => h' p)
end
theorem partEqL_bd (a : Nat) : ∀ (m i j J : Nat) (d : Array Sc),j + 1 - i≤m→1≤i→i≤J + 1→j≤J→i≤(Sort.partEqLoop ltP a i j d).1∧(Sort.partEqLoop ltP a i j d).1≤J + 1∧(Sort.partEqLoop ltP a i j d).2.size = d.size := by
  intro m
  induction m using Nat.strongRecOn with
  | _ m ih =>
    intro i j J d hm h1 hi hj
    rw [Sort.partEqLoop]
    have hu := scanUp_bd (fun x => !ltP d[a]! x) d j (j + 1 - i) i (Nat.le_refl _)
    generalize Sort.scanUp (fun x => !ltP d[a]! x) d j i = i2 at hu ⊢
    have hdn := scanDown_bd (fun x => ltP d[a]! x) d i2 (by omega) j
    generalize Sort.scanDown (fun x => ltP d[a]! x) d i2 j = j2 at hdn ⊢
    by_cases hc : i2 > j2
    · simp only [hc,if_true]
      refine ⟨hu.1,?_,trivial⟩
      rcases hu.2 with h | h <;> omega
    · have hg : j2 - 1 + 1 - (i2 + 1) < j + 1 - i := by omega
      simp only [hc,if_false,dif_pos hg]
      have := ih (j2 - 1 + 1 - (i2 + 1)) (by omega) (i2 + 1) (j2 - 1) J (Sort.swp d i2 j2) (Nat.le_refl _) (by omega) (by omega) (by omega)
      rw [swp_size] at this
      omega
theorem partEq_bd (d : Array Sc) (a b q : Nat) (hab : a + 2≤b) : a < (Sort.partitionEqual ltP d a b q).1∧(Sort.partitionEqual ltP d a b q).1≤b∧(Sort.partitionEqual ltP d a b q).2.size = d.size := by
  unfold Sort.partitionEqual
  have := partEqL_bd a (b - 1 + 1 - (a + 1)) (a + 1) (b - 1) (b - 1) (Sort.swp d a q) (Nat.le_refl _) (by omega) (by omega) (Nat.le_refl _)
  rw [swp_size] at this
  omega
theorem swoP : Sort.SWO ltP where
  irrefl x := by simp [ltP]
  trans x y z h1 h2 := by simp [ltP] at *; omega
  ntrans x y z h1 h2 := by simp [ltP] at *; omega
theorem part_bd (d : Array Sc) (a b q : Nat) (h1 : a≤q) (h2 : q < b) (hb : b≤d.size) : a≤(Sort.partition ltP d a b q).1∧(Sort.partition ltP d a b q).1 < b∧(Sort.partition ltP d a b q).2.2.size = d.size := by
  obtain ⟨k1,k2,k3,_⟩ := Sort.partition_holds ltP swoP d a b q h1 h2 hb
  exact ⟨k1,k2,k3.1⟩
theorem short_size (d : Array Sc) (a b lim : Nat) (h : b - a≤12) : (Sort.pdq ltP d a b lim true true).size = d.size := by
  rw [pdq_eq,if_pos h]
  exact insOuter_size ltP a b (b - (a + 1)) (a + 1) d (Nat.le_refl _)
section
variable {n0 : Nat} {w0 : World} {I0 : Nat→Prop} {M0 : Nm→Nat→Prop} {m0 : Mu} {Q : Exit→Sta→Prop} {v n : Nat}
theorem pq_k1 {a b lim q l : Nat} {wb wp : Bool} {d : Array Sc} (hn : n≤900) (hd : d.size = n) (hab : a + 13≤b) (hb : b≤n) (hl : l = b - a) (hl24 : l≤24) (hq1 : a≤q) (hq2 : q < b) (hlim : l - 12≤lim) (hlm : lim≤900)
    (ihL : ∀ (a' b' lim' : Nat) (wb' wp' : Bool) (d' : Array Sc),d'.size = n→a'≤b'→b'≤n→b' - a' < l→lim'≤900→farL (b' - a') lim' wb'→LPs v n a' b' lim' wb' wp' d')
    {H : Hp} (hH : ∀ p,H (0 :: p) = (arF d v).F 0 p) (hq : ∀ (H' : Hp) (st : List (Nat × A)),(∀ p,H' (0 :: p) = (arF (pq1 d a b lim q wb wp) v).F 0 p)→Q .ret ⟨lk st,H'⟩) :
    WPC (cxh Tryz.prog w0 I0 M0 n0 m0) k1_slices_pdqsortCmpFunc_pair_Pair (InBlock 1 (ThenC (LoopC (cxh Tryz.prog w0 I0 M0 n0 m0) l1_slices_pdqsortCmpFunc_pair_Pair Q) Q)) ⟨lk [(0,arN n v 0),(1,iv a),(2,iv b),(3,iv lim),(4,cmpF),(10,bv wb),(11,bv wp),(12,iv l),(13,iv q)],H⟩ := by
  have hP := partition_spec d v a b q (by omega) (by omega) (by omega) (by omega)
  have hE := partEq_spec d v a b q (by omega) (by omega) (by omega) (by omega)
  obtain ⟨p1,p2,p3⟩ := part_bd d a b q hq1 hq2 (by omega)
  obtain ⟨c1,c2,c3⟩ := partEq_bd d a b q (by omega)
  unfold pq1 at hq
  rw [if_pos (show a < (Sort.partitionEqual ltP d a b q).1∧(Sort.partitionEqual ltP d a b q).1≤b from ⟨c1,c2⟩),if_pos (show a≤(Sort.partition ltP d a b q).1∧(Sort.partition ltP d a b q).1 < b from ⟨p1,p2⟩)] at hq
  generalize Sort.partitionEqual ltP d a b q = E at hE c1 c2 c3 hq
  generalize Sort.partition ltP d a b q = R at hP p1 p2 p3 hq
  obtain ⟨mid,ap,d4⟩ := R
  simp only at hP p1 p2 p3 hq
  rw [hd] at hP hE p3 c3
  have f1 : IntKind.i64.wrap ((mid : Int) - a) = ((mid - a : Nat) : Int) := by rw [i64_same (by omega) (by omega)]; omega
  have f2 : IntKind.i64.wrap ((b : Int) - mid) = ((b - mid : Nat) : Int) := by rw [i64_same (by omega) (by omega)]; omega
  have f3 : IntKind.i64.wrap ((l : Int).tdiv 8) = ((l / 8 : Nat) : Int) := by rw [Int.tdiv_eq_ediv_of_nonneg (by omega),i64_same (by omega) (by omega)]; omega
  have f4 : IntKind.i64.wrap ((l : Int) / 8) = ((l / 8 : Nat) : Int) := by rw [i64_same (by omega) (by omega)]; omega
  have f5 : IntKind.i64.wrap ((mid : Int) + 1) = ((mid + 1 : Nat) : Int) := by rw [i64_same (by omega) (by omega)]; omega
  rw [k1_slices_pdqsortCmpFunc_pair_Pair.eq_1]
  by_cases ha0 : 0 < a
  · have h0 := hH []
    simp only [rpF_F] at h0
    have g1 := ar_get (d := d) (i := a - 1) (by omega)
    have g0 := ar_get (d := d) (i := q) (by omega)
    have hc := cmp0 d[a - 1]! d[q]!
    have f6 : IntKind.i64.wrap ((a : Int) - 1) = ((a - 1 : Nat) : Int) := by rw [i64_same (by omega) (by omega)]; omega
    generalize d[a - 1]! = x at g1 hc hq
    generalize d[q]! = y at g0 hc hq
    simp [show (0 : Int) < a by omega,ha0,h0,f6,g1,g0,show (q : Int) < n by omega,show q < n by omega,show a - 1 < n by omega,show ((a - 1 : Nat) : Int) < n by omega,pr_agg]
    rw [sc_guard]
    simp
    refine sc_callv0 rfl (pick1_spec x y) (by simp) rfl ?_
    cases hL : ltP x y with
    | false =>
      rw [hL] at hc hq
      rw [if_pos (by simp; omega)] at hq
      have hc' : ¬ cmpZ x.i y.i < 0 := by simpa using hc
      simp [hc']
      refine sc_fam 0 hE hH (by simp) (by simp) ?_
      simp
      exact ihL E.1 b lim wb wp E.2 c3 (by omega) hb (by omega) hlm (far_less _ (by omega) hlim) _ (fun p => by simp) hq
    | true =>
      rw [hL] at hc hq
      rw [if_neg (by simp)] at hq
      have hc' : cmpZ x.i y.i < 0 := by simpa using hc
      simp [hc']
      refine sc_fam 0 hP hH (by simp) (by simp) ?_
      simp [f1,f2,f3,f4,f5]
      refine ⟨fun hs => ?_,fun hs => ?_⟩
      · rw [if_pos hs] at hq
        have hS : PQs v n a mid lim d4 := pq_of (ihL a mid lim true true d4 p3 (by omega) (by omega) (by omega) hlm (.inl (by omega)))
        have hsz := short_size d4 a mid lim (by omega)
        have hdec : decide ((l : Int) / 8≤((mid - a : Nat) : Int)) = decide (mid - a ≥ (b - a) / 8) := by rw [decide_eq_decide]; omega
        refine sc_fam 0 hS (fun p => by simp) (by simp) (by simp) ?_
        simp [f5]
        rw [hdec]
        refine LoopC.le (le_list [(0,arN n v 0),(1,iv (mid + 1 : Nat)),(2,iv b),(3,iv lim),(4,cmpF),(10,bv (decide (mid - a ≥ (b - a) / 8))),(11,bv ap)] (by simp)) ?_
        exact ihL (mid + 1) b lim _ ap _ (by rw [hsz]; exact p3) (by omega) hb (by omega) hlm (far_less _ (by omega) hlim) _ (fun p => by simp) hq
      · have hs' : ¬ mid - a < b - mid := by omega
        rw [if_neg hs'] at hq
        have hS : PQs v n (mid + 1) b lim d4 := pq_of (ihL (mid + 1) b lim true true d4 p3 (by omega) (by omega) (by omega) hlm (.inl (by omega)))
        have hsz := short_size d4 (mid + 1) b lim (by omega)
        have hdec : decide ((l : Int) / 8≤((b - mid : Nat) : Int)) = decide (b - mid ≥ (b - a) / 8) := by rw [decide_eq_decide]; omega
        refine sc_fam 0 hS (fun p => by simp) (by simp) (by simp) ?_
        simp
        rw [hdec]
        exact ihL a mid lim _ ap _ (by rw [hsz]; exact p3) (by omega) (by omega) (by omega) hlm (far_less _ (by omega) hlim) _ (fun p => by simp) hq
  · rw [if_neg (by simp; omega)] at hq
    have ha00 : a = 0 := by omega
    simp [show ¬ (0 : Int) < a by omega,ha0]
    rw [sc_guard]
    simp
    refine sc_fam 0 hP hH (by simp) (by simp) ?_
    simp [f1,f2,f3,f4,f5]
    refine ⟨fun hs => ?_,fun hs => ?_⟩
    · rw [if_pos hs] at hq
      have hS : PQs v n a mid lim d4 := pq_of (ihL a mid lim true true d4 p3 (by omega) (by omega) (by omega) hlm (.inl (by omega)))
      have hsz := short_size d4 a mid lim (by omega)
      have hdec : decide ((l : Int) / 8≤((mid - a : Nat) : Int)) = decide (mid - a ≥ (b - a) / 8) := by rw [decide_eq_decide]; omega
      refine sc_fam 0 hS (fun p => by simp) (by simp) (by simp) ?_
      simp [f5]
      rw [hdec]
      refine LoopC.le (le_list [(0,arN n v 0),(1,iv (mid + 1 : Nat)),(2,iv b),(3,iv lim),(4,cmpF),(10,bv (decide (mid - a ≥ (b - a) / 8))),(11,bv ap)] (by simp)) ?_
      exact ihL (mid + 1) b lim _ ap _ (by rw [hsz]; exact p3) (by omega) hb (by omega) hlm (far_less _ (by omega) hlim) _ (fun p => by simp) hq
    · have hs' : ¬ mid - a < b - mid := by omega
      rw [if_neg hs'] at hq
      have hS : PQs v n (mid + 1) b lim d4 := pq_of (ihL (mid + 1) b lim true true d4 p3 (by omega) (by omega) (by omega) hlm (.inl (by omega)))
      have hsz := short_size d4 (mid + 1) b lim (by omega)
      have hdec : decide ((l : Int) / 8≤((b - mid : Nat) : Int)) = decide (b - mid ≥ (b - a) / 8) := by rw [decide_eq_decide]; omega
      refine sc_fam 0 hS (fun p => by simp) (by simp) (by simp) ?_
      simp
      rw [hdec]
      exact ihL a mid lim _ ap _ (by rw [hsz]; exact p3) (by omega) (by omega) (by omega) hlm (far_less _ (by omega) hlim) _ (fun p => by simp) hq
theorem pq_k2 {a b lim q l : Nat} {wb wp : Bool} {h : Sort.Hint} {d : Array Sc} (hn : n≤900) (hd : d.size = n) (hab : a + 13≤b) (hb : b≤n) (hl : l = b - a) (hl24 : l≤24) (hq1 : a≤q) (hq2 : q < b) (hlim : l - 12≤lim) (hlm : lim≤900)
    (ihL : ∀ (a' b' lim' : Nat) (wb' wp' : Bool) (d' : Array Sc),d'.size = n→a'≤b'→b'≤n→b' - a' < l→lim'≤900→farL (b' - a') lim' wb'→LPs v n a' b' lim' wb' wp' d')
    {H : Hp} (hH : ∀ p,H (0 :: p) = (arF d v).F 0 p) (hq : ∀ (H' : Hp) (st : List (Nat × A)),(∀ p,H' (0 :: p) = (arF (pq2 d a b lim q h wb wp) v).F 0 p)→Q .ret ⟨lk st,H'⟩) :
    WPC (cxh Tryz.prog w0 I0 M0 n0 m0) k2_slices_pdqsortCmpFunc_pair_Pair (InBlock 1 (ThenC (LoopC (cxh Tryz.prog w0 I0 M0 n0 m0) l1_slices_pdqsortCmpFunc_pair_Pair Q) Q)) ⟨lk [(0,arN n v 0),(1,iv a),(2,iv b),(3,iv lim),(4,cmpF),(10,bv wb),(11,bv wp),(12,iv l),(13,iv q),(14,iv (hintI h))],H⟩ := by
  have hP := partial_spec d v a b (by omega) (by omega) (by omega) (by omega)
  have hpe := partial_eq d a b (by omega)
  have h1 : (Sort.partialInsertionSort ltP d a b).1 = d := by rw [hpe]
  have hk : ∀ {H : Hp},(∀ p,H (0 :: p) = (arF d v).F 0 p)→(∀ (H' : Hp) (st : List (Nat × A)),(∀ p,H' (0 :: p) = (arF (pq1 d a b lim q wb wp) v).F 0 p)→Q .ret ⟨lk st,H'⟩)→WPC (cxh Tryz.prog w0 I0 M0 n0 m0) k1_slices_pdqsortCmpFunc_pair_Pair (InBlock 1 (ThenC (LoopC (cxh Tryz.prog w0 I0 M0 n0 m0) l1_slices_pdqsortCmpFunc_pair_Pair Q) Q)) ⟨lk [(0,arN n v 0),(1,iv a),(2,iv b),(3,iv lim),(4,cmpF),(10,bv wb),(11,bv wp),(12,iv l),(13,iv q)],H⟩ := fun hH hq => pq_k1 hn hd hab hb hl hl24 hq1 hq2 hlim hlm ihL hH hq
  unfold pq2 at hq
  rw [h1] at hP hq
  rw [hd] at hP
  rw [k2_slices_pdqsortCmpFunc_pair_Pair.eq_1]
  by_cases hw : (wb && wp && decide (h = .increasing)) = true
  · rw [if_pos hw] at hq
    simp at hw
    obtain ⟨⟨rfl,rfl⟩,rfl⟩ := hw
    simp [hintI]
    refine sc_fam 0 hP hH (by simp) (by simp) ?_
    cases hp : (Sort.partialInsertionSort ltP d a b).2 with
    | true =>
      rw [if_pos hp] at hq
      simp
      exact hq _ [(0,arN n v 0),(1,iv a),(2,iv b),(3,iv lim),(4,cmpF),(10,bv true),(11,bv true),(12,iv l),(13,iv q),(80,bv true)] (fun p => by simp)
    | false =>
      rw [if_neg (by rw [hp]; simp)] at hq
      simp
      exact hk (fun p => by simp) hq
  · rw [if_neg hw] at hq
    cases wb with
    | false =>
      simp
      exact hk hH hq
    | true => cases wp with
      | false =>
        simp
        exact hk hH hq
      | true =>
        cases h with
        | increasing => simp at hw
        | unknown =>
          simp [hintI]
          exact hk hH hq
        | decreasing =>
          simp [hintI]
          exact hk hH hq
theorem pq_k3 {a b lim l : Nat} {wb wp : Bool} {d : Array Sc} (hn : n≤900) (hd : d.size = n) (hab : a + 13≤b) (hb : b≤n) (hl : l = b - a) (hl24 : l≤24) (hlim : l - 12≤lim) (hlm : lim≤900)
    (ihL : ∀ (a' b' lim' : Nat) (wb' wp' : Bool) (d' : Array Sc),d'.size = n→a'≤b'→b'≤n→b' - a' < l→lim'≤900→farL (b' - a') lim' wb'→LPs v n a' b' lim' wb' wp' d')
    {H : Hp} (hH : ∀ p,H (0 :: p) = (arF d v).F 0 p) (hq : ∀ (H' : Hp) (st : List (Nat × A)),(∀ p,H' (0 :: p) = (arF (pq3 d a b lim wb wp) v).F 0 p)→Q .ret ⟨lk st,H'⟩) :
    WPC (cxh Tryz.prog w0 I0 M0 n0 m0) k3_slices_pdqsortCmpFunc_pair_Pair (InBlock 1 (ThenC (LoopC (cxh Tryz.prog w0 I0 M0 n0 m0) l1_slices_pdqsortCmpFunc_pair_Pair Q) Q)) ⟨lk [(0,arN n v 0),(1,iv a),(2,iv b),(3,iv lim),(4,cmpF),(10,bv wb),(11,bv wp),(12,iv l)],H⟩ := by
  have hC := choose_spec d v a b (by omega) hab (by omega) (by omega)
  have hR := reverse_spec d v a b (by omega) (by omega) (by omega) (by omega)
  obtain ⟨c1,c2⟩ := Sort.choosePivot_holds ltP d a b (by omega)
  have hrs : (Sort.reverseRange d a b).size = n := by
    have := (Sort.reverseRange_holds d a b (by omega) (by omega)).1
    rw [this]; exact hd
  unfold pq3 at hq
  rw [hd] at hC hR
  rcases hqq : Sort.choosePivot ltP d a b with ⟨q,h⟩
  rw [hqq] at hC c1 c2 hq
  simp only at hC c1 c2 hq
  rw [k3_slices_pdqsortCmpFunc_pair_Pair.eq_1]
  simp
  refine sc_fam 0 hC hH (by simp) (by simp) ?_
  by_cases hdec : h = .decreasing
  · subst hdec
    rw [if_pos rfl] at hq
    have e1 : IntKind.i64.wrap ((b : Int) - 1) = (b : Int) - 1 := i64_same (by omega) (by omega)
    have e2 : IntKind.i64.wrap ((q : Int) - a) = (q : Int) - a := i64_same (by omega) (by omega)
    have e3 : IntKind.i64.wrap ((b : Int) - 1 - ((q : Int) - a)) = ((b - 1 - (q - a) : Nat) : Int) := by rw [i64_same (by omega) (by omega)]; omega
    simp [hintI]
    refine sc_fam 0 hR (fun p => by simp) (by simp) (by simp) ?_
    simp [e1,e2,e3]
    exact pq_k2 (h := .increasing) hn hrs hab hb hl hl24 (by omega) (by omega) hlim hlm ihL (fun p => by simp) hq
  · rw [if_neg hdec] at hq
    have h2 : ¬ hintI h = 2 := by cases h <;> simp [hintI] at hdec ⊢
    simp [h2]
    exact pq_k2 hn hd hab hb hl hl24 (by omega) (by omega) hlim hlm ihL (fun p => by simp) hq
theorem lp_all (hn : n≤900) : ∀ (l : Nat),l≤24→∀ (a b lim : Nat) (wb wp : Bool) (d : Array Sc),d.size = n→a≤b→b≤n→b - a = l→lim≤900→farL l lim wb→LPs v n a b lim wb wp d := by
  intro l
  induction l using Nat.strongRecOn with
  | _ l ih =>
    intro hl24 a b lim wb wp d hd hab hb hl hlm hfar n0 w0 I0 M0 m0 Q H hH hq
    have e0 : IntKind.i64.wrap ((b : Int) - a) = (l : Int) := by rw [i64_same (by omega) (by omega)]; omega
    refine loopC_once mixed l1_slices_pdqsortCmpFunc_pair_Pair.eq_1 ?_
    rw [pdq_eq] at hq
    by_cases h12 : l≤12
    · rw [if_pos (by omega)] at hq
      have hI := insSort_spec d v a b (by omega) (by omega) (by omega)
      rw [hd] at hI
      simp [e0,show (l : Int)≤12 by omega,h12]
      refine sc_fam 0 hI hH (by simp) (by simp) ?_
      simp
      exact hq _ [] (fun p => by simp)
    · rw [if_neg (by omega)] at hq
      have hlim : (l - 12) + (if wb = true then 0 else 1)≤lim := by
        rcases hfar with h | h
        · omega
        · exact h
      have hlim0 : ¬ lim = 0 := by split at hlim <;> omega
      rw [if_neg hlim0] at hq
      have ihL : ∀ (a' b' lim' : Nat) (wb' wp' : Bool) (d' : Array Sc),d'.size = n→a'≤b'→b'≤n→b' - a' < l→lim'≤900→farL (b' - a') lim' wb'→LPs v n a' b' lim' wb' wp' d' := fun a' b' lim' wb' wp' d' k1 k2 k3 k4 k5 k6 => ih (b' - a') k4 (by omega) a' b' lim' wb' wp' d' k1 k2 k3 rfl k5 k6
      cases wb with
      | true =>
        rw [if_pos rfl] at hq
        simp at hlim
        simp [e0,show ¬ (l : Int)≤12 by omega,h12,hlim0]
        exact pq_k3 hn hd (by omega) hb hl.symm hl24 (by omega) hlm ihL hH hq
      | false =>
        rw [if_neg (by simp)] at hq
        simp at hlim
        have hB := break_spec d v a b (by omega) (by omega) (by omega) (by omega)
        rw [hd] at hB
        have hbs : (Sort.breakPatterns d a b).size = n := by
          have := (Sort.breakPatterns_holds d a b hab (by omega)).1
          rw [this]; exact hd
        have e1 : IntKind.i64.wrap ((lim : Int) - 1) = ((lim - 1 : Nat) : Int) := by rw [i64_same (by omega) (by omega)]; omega
        simp [e0,show ¬ (l : Int)≤12 by omega,h12,hlim0]
        refine sc_fam 0 hB hH (by simp) (by simp) ?_
        simp [e1]
        exact pq_k3 hn hbs (by omega) hb hl.symm hl24 (by omega) (by omega) ihL (fun p => by simp) hq
end
theorem sorted_rises {o : List Sc} (ho : Apart19 o) {d : Array Sc} (hp : d.toList.Perm o) (hs : Sort.SortedIn ltP 0 d.size d) : d.toList = srtI o := by
  have ha : Apart19 d.toList := by
    unfold Apart19 at ho ⊢
    exact (hp.pairwise_iff (fun {x y} h => by rw [par_symm]; exact h)).2 ho
  have hr : Rises d.toList := by
    unfold Rises Apart19 at *
    rw [List.pairwise_iff_getElem] at ha ⊢
    intro i j hi hj hij
    have h1 := ha i j hi hj hij
    have h2 := hs i j (Nat.zero_le _) hij (by simpa using hj)
    have e1 : d[i]! = d.toList[i] := by rw [getElem!_pos d i (by simpa using hi)]; simp
    have e2 : d[j]! = d.toList[j] := by rw [getElem!_pos d j (by simpa using hj)]; simp
    rw [e1,e2] at h2
    simp [ltP] at h2
    simp [par] at h1
    simp at h1 h2 ⊢
    omega
  obtain ⟨k1,k2⟩ := srt_ok ho
  exact rises_one hr k1 (hp.trans k2.symm)
theorem sortF_spec {o : List Sc} (ho : Apart19 o) (hl : o.length≤16) (v : Nat) : SpecF Tryz.prog 126 (fun r => [rpS o v r,cmpF]) (rpF o v) (fun _ => .tup []) (rpF (srtI o) v) := by
  obtain ⟨d,hd⟩ : ∃ d : Array Sc,d = o.toArray := ⟨_,rfl⟩
  have hdl : d.toList = o := by rw [hd]
  have hds : d.size = o.length := by rw [hd]; simp
  have hb : Sort.bitsLen o.length≤8 := (tab8_get o.length (by omega)).2
  have hfar : farL o.length (Sort.bitsLen o.length) true := by
    have : ∀ n : Fin 17,n.val≤12∨(n.val - 12) + 0≤Sort.bitsLen n.val := by decide +kernel
    unfold farL
    simpa using this ⟨o.length,by omega⟩
  have hP : PQs v o.length 0 o.length (Sort.bitsLen o.length) d := pq_of (lp_all (by omega) o.length (by omega) 0 o.length _ true true d hds (by omega) (Nat.le_refl _) (by omega) (by omega) hfar)
  have hS := Sort.pdq_sorts ltP swoP d 0 d.size (Sort.bitsLen o.length) true true (Nat.zero_le _) (Nat.le_refl _) (.inl rfl)
  have hres : (Sort.pdq ltP d 0 o.length (Sort.bitsLen o.length) true true).toList = srtI o := by
    rw [hds] at hS
    obtain ⟨⟨s1,_,s3⟩,s4⟩ := hS
    refine sorted_rises ho ?_ (by rw [s1,hds]; exact s4)
    have e1 : ∀ x : Array Sc,x.size = o.length→x.extract 0 o.length = x := fun x hx => by rw [← hx]; simp
    rw [e1 _ (by rw [s1,hds]),e1 _ hds,hdl] at s3
    exact s3
  unfold PQs at hP
  rw [show (arF d v) = rpF o v by unfold arF; rw [hdl],show arF (Sort.pdq ltP d 0 o.length (Sort.bitsLen o.length) true true) v = rpF (srtI o) v by unfold arF; rw [hres]] at hP
  refine specF_of t_slices_SortFunc_pair_Pair_pair_Pair (by simp) (famL_cons famA_osl (famL_cons famA_cmpF famL_nil)) (famA_tup famL_nil) fun w0 I0 M0 m0 => ?_
  have e1 : IntKind.u64.wrap (o.length : Int) = (o.length : Int) := u64_same (by omega) (by omega)
  have hL := len_spec o.length (by omega)
  unfold c_slices_SortFunc_pair_Pair_pair_Pair
  simp [e1]
  refine sc_call hL rfl ?_
  simp
  refine sc_fam 0 hP (fun p => by simp) (by simp) (by simp) ?_
  simp
  exact reth_famN rfl rfl (fun p => by simp)
@[simp] theorem sc_take2 {x : Sc} : (scC x).take 2 = prC x := rfl
theorem pick_l3 {all : List Sc} : ∀ (m : Nat) (l junk o : List Sc) (v : Nat),l.length = m→l.length≤300→o.length + l.length≤300→HeapL l l.length→(∀ y,y ∈ all→y ∈ l∨freeB o y = false)→(∀ y,y ∈ l→y ∈ all) →
    ∃ o',Picks all o o'∧∀ {n0 : Nat} {w0 : World} {I0 : Nat→Prop} {Q : Exit→Sta→Prop} (u : Nat) (H : Hp),(∀ p,H (0 :: p) = (hpF l junk v).F 0 p)→(∀ p,H (2 :: p) = (rpF o u).F 2 p) →
      (∀ (H' : Hp) (u' : Nat) (st : List (Nat × A)),(∀ p,H' (2 :: p) = (rpF o' u').F 2 p)→Q (.exit 4) ⟨lk ([(3,hpP 0),(8,rpS o' u' 2)] ++ st),H'⟩) →
      LoopC (cx Tryz.prog w0 I0 n0) l3_pair_Pick Q ⟨lk [(3,hpP 0),(8,rpS o u 2)],H⟩ := by
  intro m
  induction m with
  | zero =>
    intro l junk o v hm hl hol hh hall hsub
    have : l = [] := List.eq_nil_of_length_eq_zero hm
    subst this
    have hdone : ∀ y,y ∈ all→freeB o y = false := fun y hy => by
      rcases hall y hy with h | h
      · simp at h
      · exact h
    refine ⟨o,.done hdone,fun {n0 w0 I0 Q} u H hH hG hq => ?_⟩
    have hL := hLen_spec [] junk v (by simp)
    have h0 := hH []
    refine loopC_once mixed l3_pair_Pick.eq_1 ?_
    simp [h0]
    refine sc_fam 0 hL hH (by simp) (by simp) ?_
    simp
    exact hq _ u [(51,bv false)] (fun p => by simp [hG])
  | succ m ih =>
    intro l junk o v hm hl hol hh hall hsub
    obtain ⟨q1,q2,q3⟩ := pop_ok (l := l) (by omega) hh
    have hmin : ∀ y,y ∈ l→aheadB y (gt l 0) = false := fun y hy => by
      obtain ⟨k,hk,rfl⟩ := List.getElem_of_mem hy
      rw [← gt_at hk]
      exact heap_min hh k hk
    obtain ⟨g1,g2⟩ := pick_pop q3 hmin hall hsub
    have hP := hpPop_spec l junk v (by omega) (by omega)
    have hL := hLen_spec l junk v (by omega)
    have hlen := popL_len l
    have hrl : ((popL l).take (l.length - 1)).length = m := by simp; omega
    have q1' : (popL l).getD (l.length - 1) sc0 = gt l 0 := q1
    rw [q1'] at hP
    have q2' : HeapL ((popL l).take (l.length - 1)) m := fun k h1 h2 => q2 k h1 (by omega)
    clear q2
    generalize gt l 0 = x at hP g1 g2 q3 hmin
    generalize (popL l).take (l.length - 1) = rest at hP hrl q2' q3 g1 g2
    have q2 : HeapL rest rest.length := fun k h1 h2 => q2' k h1 (by omega)
    have hsub' : ∀ y,y ∈ rest→y ∈ all := fun y hy => hsub y (q3.subset (by simp [hy]))
    cases hf : freeB o x with
    | true =>
      obtain ⟨b1,b2⟩ := g1 hf
      obtain ⟨o',p1,p2⟩ := ih rest (x :: junk) (o ++ [x]) v hrl (by omega) (by simp; omega) q2 b2 hsub'
      refine ⟨o',.step b1 p1,fun {n0 w0 I0 Q} u H hH hG hq => ?_⟩
      have hC := cont_spec x o u (by omega)
      rw [hf] at hC
      have h0 := hH []
      simp only [hpF_F] at h0
      refine loopC_once mixed l3_pair_Pick.eq_1 ?_
      simp [h0]
      refine sc_fam 0 hL hH (by simp) (by simp) ?_
      simp [show 0 < l.length by omega]
      refine sc_fam 0 hP (fun p => by simp) (by simp) (by simp) ?_
      simp [updF_app,pr_agg]
      have hG2 : ∀ p,(ov 0 ((hpF rest (x :: junk) v).F 0) (updF H [1] ⟨(H [1]).u + 1,.cells (scC x)⟩) : Hp) (2 :: p) = (rpF o u).F 2 p := fun p => by simp [updF_app,hG]
      refine sc_fam 2 hC hG2 (by simp) (by simp) ?_
      have ht : (o.map prA).take o.length = o.map prA := List.take_of_length_le (by simp)
      simp [updF_app,lens_pr,ht,pr_agg]
      refine ⟨pr_bare,by omega,?_⟩
      refine LoopC.le (le_list [(3,hpP 0),(8,rpS (o ++ [x]) (u + 1) 2)] (by simp)) ?_
      exact p2 (u + 1) _ (fun p => by simp [updF_app]) (fun p => by by_cases hp : p = [] <;> simp [hp,updF_app]) hq
    | false =>
      obtain ⟨o',p1,p2⟩ := ih rest (x :: junk) o v hrl (by omega) (by omega) q2 (g2 hf) hsub'
      refine ⟨o',p1,fun {n0 w0 I0 Q} u H hH hG hq => ?_⟩
      have hC := cont_spec x o u (by omega)
      rw [hf] at hC
      have h0 := hH []
      simp only [hpF_F] at h0
      refine loopC_once mixed l3_pair_Pick.eq_1 ?_
      simp [h0]
      refine sc_fam 0 hL hH (by simp) (by simp) ?_
      simp [show 0 < l.length by omega]
      refine sc_fam 0 hP (fun p => by simp) (by simp) (by simp) ?_
      simp [updF_app,pr_agg]
      have hG2 : ∀ p,(ov 0 ((hpF rest (x :: junk) v).F 0) (updF H [1] ⟨(H [1]).u + 1,.cells (scC x)⟩) : Hp) (2 :: p) = (rpF o u).F 2 p := fun p => by simp [updF_app,hG]
      refine sc_fam 2 hC hG2 (by simp) (by simp) ?_
      simp
      refine LoopC.le (le_list [(3,hpP 0),(8,rpS o u 2)] (by simp)) ?_
      exact p2 u _ (fun p => by simp [updF_app]) (fun p => by simp) hq
end Go.Proofs.YtmeldaflhkiopaaGreat
namespace Go.PL
set_option linter.unusedVariables false
set_option linter.unusedSimpArgs false
open List
def candR (i : Nat) : Nat→List Int→List Sc
  | _,[] => []
  | j,n :: r => if 0 < n∧i < 16∧j < 16 then ⟨i,j,n⟩ :: candR i (j + 1) r else candR i (j + 1) r
def candS : Nat→List (List Int)→List Sc
  | _,[] => []
  | i,r :: rs => candR i 0 r ++ candS (i + 1) rs
theorem candR_len {i : Nat} : ∀ {r : List Int} {j : Nat},(candR i j r).length≤16 - j
  | [],j => by simp [candR]
  | n :: r,j => by
    have := candR_len (i := i) (r := r) (j := j + 1)
    unfold candR
    split
    · simp; omega
    · omega
theorem candR_far {i : Nat} (h : 16≤i) : ∀ {r : List Int} {j : Nat},candR i j r = []
  | [],j => rfl
  | n :: r,j => by
    unfold candR
    rw [if_neg (by omega),candR_far h]
theorem candS_len : ∀ {rs : List (List Int)} {i : Nat},(candS i rs).length≤(16 - i) * 16
  | [],i => by simp [candS]
  | r :: rs,i => by
    have h1 := candS_len (rs := rs) (i := i + 1)
    have h2 := candR_len (i := i) (r := r) (j := 0)
    unfold candS
    rw [List.length_append]
    by_cases h : 16≤i
    · rw [candR_far h]; simp; omega
    · omega
theorem candR_lt {i : Nat} : ∀ {r : List Int} {j : Nat} {x : Sc},x ∈ candR i j r→x.i = i∧i < 16∧x.j < 16∧j≤x.j∧x.j < j + r.length∧r[x.j - j]? = some x.n∧0 < x.n
  | [],j,x,h => by simp [candR] at h
  | n :: r,j,x,h => by
    have ih : x ∈ candR i (j + 1) r→x.i = i∧i < 16∧x.j < 16∧j≤x.j∧x.j < j + (n :: r).length∧(n :: r)[x.j - j]? = some x.n∧0 < x.n := fun h => by
      obtain ⟨h1,h2,h3,h4,h5,h6,h7⟩ := candR_lt h
      refine ⟨h1,h2,h3,by omega,by simp; omega,?_,h7⟩
      rw [show x.j - j = (x.j - (j + 1)) + 1 by omega]
      simpa using h6
    unfold candR at h
    split at h
    · rename_i hc
      rcases List.mem_cons.1 h with rfl | h
      · exact ⟨rfl,hc.2.1,hc.2.2,Nat.le_refl _,by simp,by simp,hc.1⟩
      · exact ih h
    · exact ih h
end Go.PL
namespace Go.Proofs.YtmeldaflhkiopaaGreat
set_option linter.unusedVariables false
set_option linter.unusedSimpArgs false
open Go Go.G Go.Proofs Go.PL
abbrev ivss (l : List (List Int)) : A := .sl false (l.map ivs)
def HpI (H : Hp) (all : List Sc) : Prop := ∃ (l junk : List Sc) (v : Nat),(∀ p,H (0 :: p) = (hpF l junk v).F 0 p)∧HeapL l l.length∧List.Perm l all∧∀ p,H (2 :: p) = ⟨0,.none⟩
theorem pick_l1 {n0 : Nat} {w0 : World} {I0 : Nat→Prop} {Q : Exit→Sta→Prop} {X : A} {N : Nat} {r : List Int} {i : Nat} (hr : r.length≤1000000) : ∀ (m j : Nat) (all : List Sc) (H : Hp),r.length = j + m→all.length + (candR i j (r.drop j)).length≤256→HpI H all →
    (∀ (H' : Hp) (st : List (Nat × A)),HpI H' (all ++ candR i j (r.drop j))→Q (.exit 2) ⟨lk ([(3,hpP 0),(4,iv i),(12,X),(13,iv N),(14,iv i)] ++ st),H'⟩) →
    LoopC (cx Tryz.prog w0 I0 n0) l1_pair_Pick Q ⟨lk [(3,hpP 0),(4,iv i),(12,X),(13,iv N),(14,iv i),(19,ivs r),(20,iv r.length),(21,iv j)],H⟩ := by
  intro m
  induction m with
  | zero =>
    intro j all H hm hl hI hq
    refine loopC_once mixed l1_pair_Pick.eq_1 ?_
    have : ¬ (j : Int) < r.length := by omega
    simp [this]
    have hd : r.drop j = [] := List.drop_eq_nil_of_le (by omega)
    rw [hd] at hq
    exact hq H [(19,ivs r),(20,iv r.length),(21,iv j),(22,bv false)] (by simpa [candR] using hI)
  | succ m ih =>
    intro j all H hm hl hI hq
    have hj : j < r.length := by omega
    have hd : r.drop j = r[j] :: r.drop (j + 1) := (List.getElem_cons_drop hj).symm
    have e1 : IntKind.i64.wrap ((j : Int) + 1) = ((j + 1 : Nat) : Int) := by rw [i64_same (by omega) (by omega)]; omega
    rw [hd] at hl hq
    unfold candR at hl hq
    refine loopC_once mixed l1_pair_Pick.eq_1 ?_
    simp [hj,show (j : Int) < r.length by omega]
    have next : ∀ (all' : List Sc) (H' : Hp),all'.length + (candR i (j + 1) (r.drop (j + 1))).length≤256→HpI H' all'→all' ++ candR i (j + 1) (r.drop (j + 1)) = all ++ (if 0 < r[j]∧i < 16∧j < 16 then ⟨i,j,r[j]⟩ :: candR i (j + 1) (r.drop (j + 1)) else candR i (j + 1) (r.drop (j + 1)))→LoopC (cx Tryz.prog w0 I0 n0) l1_pair_Pick Q ⟨lk [(3,hpP 0),(4,iv i),(12,X),(13,iv N),(14,iv i),(19,ivs r),(20,iv r.length),(21,iv (j + 1 : Nat))],H'⟩ := fun all' H' hl' hI' he => ih (j + 1) all' H' (by omega) hl' hI' (by rw [he]; exact hq)
    by_cases h1 : 0 < r[j]
    · by_cases h2 : i < 16
      · by_cases h3 : j < 16
        · rw [if_pos ⟨h1,h2,h3⟩] at hl
          obtain ⟨l,junk,v,q1,q2,q3,q4⟩ := hI
          have hll := q3.length_eq
          simp at hl
          have hP := hpPush_spec l junk v (by omega) ⟨i,j,r[j]⟩
          obtain ⟨g1,g2⟩ := push_ok q2 ⟨i,j,r[j]⟩
          simp [h1,show (i : Int) < 16 by omega,show (j : Int) < 16 by omega]
          refine ⟨?_,fun h => by omega⟩
          refine sc_fam 0 hP q1 (by simp [scA,scC]) (by simp) ?_
          simp [e1]
          refine next (all ++ [⟨i,j,r[j]⟩]) _ (by simp; omega) ⟨upL (l.length + 1) (l ++ [⟨i,j,r[j]⟩]) l.length,[],v + 1,fun p => by simp,?_,?_,fun p => by simp [q4]⟩ (by rw [if_pos ⟨h1,h2,h3⟩]; simp)
          · rw [upL_len]; simpa using g1
          · exact g2.trans ((q3.cons _).trans (List.perm_append_singleton _ _).symm)
        · have : ¬ (j : Int) < 16 := by omega
          simp [h1,show (i : Int) < 16 by omega,this,e1]
          intro _
          refine next all H (by rw [if_neg (by omega)] at hl; exact hl) hI (by rw [if_neg (by omega)])
      · have : ¬ (i : Int) < 16 := by omega
        simp [h1,this,e1]
        refine next all H (by rw [if_neg (by omega)] at hl; exact hl) hI (by rw [if_neg (by omega)])
    · simp [h1,e1]
      refine next all H (by rw [if_neg (by omega)] at hl; exact hl) hI (by rw [if_neg (by omega)])
theorem pick_l2 {n0 : Nat} {w0 : World} {I0 : Nat→Prop} {Q : Exit→Sta→Prop} {rs : List (List Int)} (hrs : rs.length≤1000000) (hr : ∀ r,r ∈ rs→r.length≤1000000) : ∀ (m i : Nat) (all : List Sc) (H : Hp),rs.length = i + m→all.length + (candS i (rs.drop i)).length≤256→HpI H all →
    (∀ (H' : Hp) (st : List (Nat × A)),HpI H' (all ++ candS i (rs.drop i))→Q (.exit 0) ⟨lk ([(3,hpP 0)] ++ st),H'⟩) →
    LoopC (cx Tryz.prog w0 I0 n0) l2_pair_Pick Q ⟨lk [(3,hpP 0),(12,ivss rs),(13,iv rs.length),(14,iv i)],H⟩ := by
  intro m
  induction m with
  | zero =>
    intro i all H hm hl hI hq
    refine loopC_once mixed l2_pair_Pick.eq_1 ?_
    have : ¬ (i : Int) < rs.length := by omega
    simp [this]
    have hd : rs.drop i = [] := List.drop_eq_nil_of_le (by omega)
    rw [hd] at hq
    exact hq H [(12,ivss rs),(13,iv rs.length),(14,iv i),(15,bv false)] (by simpa [candS] using hI)
  | succ m ih =>
    intro i all H hm hl hI hq
    have hj : i < rs.length := by omega
    have hd : rs.drop i = rs[i] :: rs.drop (i + 1) := (List.getElem_cons_drop hj).symm
    have e1 : IntKind.i64.wrap ((i : Int) + 1) = ((i + 1 : Nat) : Int) := by rw [i64_same (by omega) (by omega)]; omega
    have hri := hr rs[i] (List.getElem_mem hj)
    rw [hd] at hl hq
    unfold candS at hl hq
    rw [List.length_append] at hl
    refine loopC_once mixed l2_pair_Pick.eq_1 ?_
    simp [hj,show (i : Int) < rs.length by omega]
    refine LoopC.le (le_list [(3,hpP 0),(4,iv i),(12,ivss rs),(13,iv rs.length),(14,iv i),(19,ivs rs[i]),(20,iv rs[i].length),(21,iv (0 : Nat))] (by simp)) ?_
    refine pick_l1 hri rs[i].length 0 all H (by omega) (by simp; omega) hI fun H' st hI' => ?_
    simp [e1]
    refine ih (i + 1) _ H' (by omega) ?_ (by simpa using hI') fun H2 st2 hI2 => ?_
    · simp; omega
    · refine hq H2 st2 (by simpa using hI2)
theorem heap_any : ∀ all : List Sc,∃ l,HeapL l l.length∧List.Perm l all
  | [] => ⟨[],fun k _ h => by simp at h,List.Perm.refl _⟩
  | x :: all => by
    obtain ⟨l,h1,h2⟩ := heap_any all
    obtain ⟨g1,g2⟩ := push_ok h1 x
    exact ⟨_,by rw [upL_len]; simpa using g1,g2.trans (h2.cons x)⟩
theorem picks_any {all : List Sc} (h : all.length≤300) : ∃ o',Picks all [] o' := by
  obtain ⟨l,h1,h2⟩ := heap_any all
  have := h2.length_eq
  obtain ⟨o',h3,_⟩ := pick_l3 (all := all) l.length l [] [] 0 rfl (by omega) (by simp; omega) h1 (fun y hy => .inl (h2.symm.subset hy)) (fun y hy => h2.subset hy)
  exact ⟨o',h3⟩
theorem picks_facts {rs : List (List Int)} {o' : List Sc} (h : Picks (candS 0 rs) [] o') : Apart19 o'∧(∀ x,x ∈ o'→x ∈ candS 0 rs) := picks_apart h (by simp [Apart19]) (by simp)
theorem pick_spec (rs : List (List Int)) (hrs : rs.length≤1000000) (hr : ∀ r,r ∈ rs→r.length≤1000000) {o' : List Sc} (ho : Picks (candS 0 rs) [] o') (hl16 : o'.length≤16) : G.Spec Tryz.prog 110 [ivss rs] (.sl false ((srtI o').map prA)) := by
  obtain ⟨hap,_⟩ := picks_facts ho
  have hcl := candS_len (rs := rs) (i := 0)
  refine spec_of t_pair_Pick (by simp) fun w0 I0 => ?_
  unfold c_pair_Pick
  simp
  refine LoopC.le (le_blankC (d := [0]) (u := 1) (cs := [.sl true []]) 0 [0,0] 3 rfl rfl (by simp)) ?_
  simp
  refine LoopC.le (le_list [(3,hpP 0),(12,ivss rs),(13,iv rs.length),(14,iv (0 : Nat))] (by simp)) ?_
  refine pick_l2 hrs hr rs.length 0 [] _ (by omega) (by simpa using hcl) ⟨[],[],1,fun p => ?_,fun k _ h => by simp at h,List.Perm.refl _,fun p => by simp⟩ fun H' st hI => ?_
  · by_cases h1 : p = []
    · subst h1; simp
    · by_cases h2 : p = [0]
      · subst h2; simp
      · simp [h1,h2,Ne.symm h1,Ne.symm h2]
  · obtain ⟨l,junk,v,q1,q2,q3,q4⟩ := hI
    simp only [List.nil_append,List.drop_zero] at q3
    have hll := q3.length_eq
    simp
    refine LoopC.le (le_blank 8 [2] 2 (by simp)) ?_
    obtain ⟨o2,p1,p2⟩ := pick_l3 (all := candS 0 rs) l.length l junk [] v rfl (by omega) (by simp; omega) q2 (fun y hy => .inl (q3.symm.subset hy)) (fun y hy => q3.subset hy)
    have := picks_one p1 ho
    subst this
    refine LoopC.le (le_list [(3,hpP 0),(8,rpS [] ((H' [2]).u + 1) 2)] (by simp)) ?_
    refine p2 _ _ (fun p => by simp [updF_app,q1]) (fun p => ?_) fun H2 u2 st2 hG => ?_
    · by_cases h1 : p = [] <;> simp [h1,updF_app,q4]
    · have hS := sortF_spec hap hl16 u2
      simp
      refine sc_fam 2 hS hG (by simp) (by simp) ?_
      simp
      have hsl : (srtI o2).length = o2.length := (srt_ok hap).2.length_eq
      have := frz_rowT (H := ov 2 ((rpF (srtI o2) u2).F 2) H2) (o := [2]) (u := u2) (sz := 2) (l := srtI o2) (f := prA) (n := o2.length) (by simp) (by omega) (by intro x; rfl)
      rw [List.take_of_length_le (by omega)] at this
      exact this
end Go.Proofs.YtmeldaflhkiopaaGreat
namespace Go.Proofs.YtmeldaflhkiopaaGreat
set_option linter.unusedVariables false
set_option linter.unusedSimpArgs false
set_option maxRecDepth 20000
open Go Go.G Go.Proofs
@[simp] theorem und_90 : Tryz.prog.underlying 90 = some (.slice 95) := by kernel_rfl
@[simp] theorem und_99 : Tryz.prog.underlying 99 = some (.slice 102) := by kernel_rfl
@[simp] theorem und_116 : Tryz.prog.underlying 116 = some (.array 3 3) := by kernel_rfl
@[simp] theorem szT_90 : szT Tryz.prog 90 = some 1 := by kernel_rfl
@[simp] theorem szT_95 : szT Tryz.prog 95 = some 2 := by kernel_rfl
@[simp] theorem szT_102 : szT Tryz.prog 102 = some 2 := by kernel_rfl
@[simp] theorem aggT_90 : aggT Tryz.prog 90 = some false := by kernel_rfl
@[simp] theorem aggT_95 : aggT Tryz.prog 95 = some true := by kernel_rfl
@[simp] theorem aggT_102 : aggT Tryz.prog 102 = some true := by kernel_rfl
@[simp] theorem zeroT_90 : zeroT Tryz.prog 90 = some (Value.slice none 0 0) := by kernel_rfl
@[simp] theorem zeroT_95 : zeroT Tryz.prog 95 = some (Value.agg #[Value.int IntKind.i64 0,Value.int IntKind.i64 0]) := by kernel_rfl
@[simp] theorem zeroT_102 : zeroT Tryz.prog 102 = some (Value.agg #[Value.int IntKind.i64 0,Value.int IntKind.i64 0]) := by kernel_rfl
@[simp] theorem zeroT_116 : zeroT Tryz.prog 116 = some (Value.agg #[Value.int IntKind.i64 0,Value.int IntKind.i64 0,Value.int IntKind.i64 0]) := by kernel_rfl
@[simp] theorem bytesT_95 : bytesT Tryz.prog 95 = some 16 := by kernel_rfl
@[simp] theorem bytesT_102 : bytesT Tryz.prog 102 = some 16 := by kernel_rfl
@[simp] theorem fieldOffT_95_0 : fieldOffT Tryz.prog 95 0 = some 0 := by kernel_rfl
@[simp] theorem fieldOffT_95_1 : fieldOffT Tryz.prog 95 1 = some 1 := by kernel_rfl
@[simp] theorem fieldOffT_102_0 : fieldOffT Tryz.prog 102 0 = some 0 := by kernel_rfl
@[simp] theorem fieldOffT_102_1 : fieldOffT Tryz.prog 102 1 = some 1 := by kernel_rfl
@[simp] theorem fieldOffT_114_0 : fieldOffT Tryz.prog 114 0 = some 0 := by kernel_rfl
@[simp] theorem buildA_95 (ps : List (Nat × A)) : buildA Tryz.prog 95 ps = (fillA (fun i => ([(0,1),(1,1)] : List (Nat × Nat))[i]?) [A.v (Value.int IntKind.i64 0),A.v (Value.int IntKind.i64 0)] ps).map A.agg := by kernel_rfl
@[simp] theorem buildA_102 (ps : List (Nat × A)) : buildA Tryz.prog 102 ps = (fillA (fun i => ([(0,1),(1,1)] : List (Nat × Nat))[i]?) [A.v (Value.int IntKind.i64 0),A.v (Value.int IntKind.i64 0)] ps).map A.agg := by kernel_rfl
@[simp] theorem buildA_114 (ps : List (Nat × A)) : buildA Tryz.prog 114 ps = (fillA (fun i => ([(0,1)] : List (Nat × Nat))[i]?) [A.sl true []] ps).map A.agg := by kernel_rfl
def c_lcs_reach : CC := sR [oO 8 (.assign (nI 0))] [0,1,2,3] (.seq (.block 0 (sR [mO 10 2,mO 11 10,oG 12 (mV 3) 11 true,oO 13 (.pick (xT 11) (xT 12) (nB false)),aO 9 13] [0,1,2,3,9] (cD 9 (sR [oO 8 (.assign (nI 0))] [8] (.ret)) (sR [mO 15 2,mO 16 15,oG 17 (mV 3) 16 false,oG 18 (.unOp .not 4 (xT 17)) 16 false,oG 19 (mV 18) 16 false,oG 20 (mV 0) 19 true,oG 21 (mV 1) 19 true,oG 22 (.binOp .sub 3 (xT 21) (nI 1) 3) 19 true,oG 23 (iA 88 20 22) 19 true,oG 24 (lD 3 23) 19 true,oG 25 (mV 0) 19 true,oG 26 (mV 1) 19 true,oG 27 (.binOp .add 3 (xT 26) (nI 1) 3) 19 true,oG 28 (iA 88 25 27) 19 true,oG 29 (lD 3 28) 19 true,oG 30 (bO .lss 3 24 29 3) 19 true,oG 31 (.pick (xT 19) (xT 30) (nB false)) 16 false,oO 32 (.pick (xT 16) (nB true) (xT 31)),aO 14 32] [0,1,14] (cD 14 (sR [mO 33 0,mO 34 1,oO 35 (.binOp .add 3 (xT 34) (nI 1) 3),oO 36 (iA 88 33 35),lO 37 3 36,aO 8 37] [8] (.ret)) (.skip)))))) (.keep [0,1] (sR [mO 38 0,mO 39 1,oO 40 (.binOp .sub 3 (xT 39) (nI 1) 3),oO 41 (iA 88 38 40),lO 42 3 41,oO 43 (.binOp .add 3 (xT 42) (nI 1) 3),aO 8 43] [8] (.ret))))
theorem t_lcs_reach : Txt Tryz.prog 104 44 [(.tmp 8)] c_lcs_reach := txt_of (code := Tryz.f104.body.getD .ret) mixed (by kernel_rfl) Tryz.func104 (by kernel_rfl) Tryz.ntmps104 (by kernel_rfl) (ls := lsOf c_lcs_reach) (by kernel_rfl)
def l1_lcs_Distance : CC := .seq (sR [mO 73 13,mO 74 8,oO 75 (bO .lss 3 73 74 3),mO 76 75,oG 77 (mV 14) 76 true,oG 78 (mV 9) 76 true,oG 79 (bO .lss 3 77 78 3) 76 true,oO 80 (.pick (xT 76) (xT 79) (nB false)),mO 81 80,oG 82 (mV 13) 81 true,oG 83 (.binOp .geq 3 (xT 82) (nI 0) 3) 81 true,oO 84 (.pick (xT 81) (xT 83) (nB false)),mO 85 84,oG 86 (mV 14) 85 true,oG 87 (.binOp .geq 3 (xT 86) (nI 0) 3) 85 true,oO 88 (.pick (xT 85) (xT 87) (nB false)),mO 89 88,oG 90 (mV 0) 89 true,oG 91 (mV 13) 89 true,oG 92 (iA 88 90 91) 89 true,oG 93 (lD 3 92) 89 true,oG 94 (mV 1) 89 true,oG 95 (mV 14) 89 true,oG 96 (iA 88 94 95) 89 true,oG 97 (lD 3 96) 89 true,oG 98 (bO .eql 3 93 97 3) 89 true,oO 99 (.pick (xT 89) (xT 98) (nB false))] [0,1,2,8,9,10,11,12,13,14,99] (cD 99 (.skip) (.exit 4))) (.keep [0,1,2,8,9,10,11,12,13,14] (.block 5 (.reg [mO 100 13,oO 101 (.binOp .add 3 (xT 100) (nI 1) 3),mO 102 14,oO 103 (.binOp .add 3 (xT 102) (nI 1) 3),aO 13 101,aO 14 103] [0,1,2,8,9,10,11,12,13,14])))
def l2_lcs_Distance : CC := .seq (sR [mO 52 12,mO 53 11,oO 54 (bO .leq 3 52 53 3)] [0,1,2,8,9,10,11,12,54] (cD 54 (.skip) (.exit 2))) (.keep [0,1,2,8,9,10,11,12] (.seq (.block 3 (sR [mO 57 10,mO 58 2,oO 59 (.binOp .add 3 (xT 58) (nI 1) 3),mO 60 12,oO 61 (bO .add 3 59 60 3),mO 62 12,mO 63 11,oO 64 (.unOp .neg 3 (xT 63)),oO 65 (bO .eql 3 62 64 3),mO 66 12,mO 67 11,oO 68 (bO .eql 3 66 67 3),oO 69 (cL 104 #[(xT 57),(xT 61),(xT 65),(xT 68)] #[88,3,4,4]),aO 13 69] [0,1,2,8,9,10,11,12,13] (sR [mO 70 13,mO 71 12,oO 72 (bO .sub 3 70 71 3),aO 14 72] [0,1,2,8,9,10,11,12,13,14] (.seq (.block 4 (.loop l1_lcs_Distance)) (.keep [0,1,2,8,9,10,11,12,13,14] (sR [mO 104 10,mO 105 2,oO 106 (.binOp .add 3 (xT 105) (nI 1) 3),mO 107 12,oO 108 (bO .add 3 106 107 3),mO 109 13,oO 110 (iA 88 104 108),oS (.store 3 (xT 110) (xT 109))] [0,1,2,8,9,10,11,12,13,14] (sR [mO 111 13,mO 112 8,oO 113 (bO .geq 3 111 112 3),mO 114 113,oG 115 (mV 14) 114 true,oG 116 (mV 9) 114 true,oG 117 (bO .geq 3 115 116 3) 114 true,oO 118 (.pick (xT 114) (xT 117) (nB false))] [0,1,2,8,9,10,11,12,118] (cD 118 (sR [mO 119 11,aO 6 119,oO 7 (.assign (nB true))] [6,7] (.ret)) (.skip))))))))) (.keep [0,1,2,8,9,10,11,12] (.reg [mO 55 12,oO 56 (.binOp .add 3 (xT 55) (nI 2) 3),aO 12 56] [0,1,2,8,9,10,11,12]))))
def l3_lcs_Distance : CC := .seq (sR [mO 45 11,mO 46 2,oO 47 (bO .leq 3 45 46 3)] [0,1,2,8,9,10,11,47] (cD 47 (.skip) (.exit 0))) (.keep [0,1,2,8,9,10,11] (.seq (.block 1 (sR [mO 50 11,oO 51 (.unOp .neg 3 (xT 50)),aO 12 51] [0,1,2,8,9,10,11,12] (.block 2 (.loop l2_lcs_Distance)))) (.keep [0,1,2,8,9,10,11] (.reg [mO 48 11,oO 49 (.binOp .add 3 (xT 48) (nI 1) 3),aO 11 49] [0,1,2,8,9,10,11])))) 
def c_lcs_Distance : CC := sR [oO 6 (.assign (nI 0)),oO 7 (.assign (nB false))] [0,1,2] (sR [mO 15 0,oO 16 (bL 15 88),mO 17 1,oO 18 (bL 17 88),aO 8 16,aO 9 18] [0,1,2,8,9] (sR [mO 19 2,oO 20 (bC .max #[(xT 19),(.const (.int .i64 (-1)))] #[3,3]),mO 21 8,mO 22 9,oO 23 (bO .add 3 21 22 3),oO 24 (bC .min #[(xT 20),(xT 23)] #[3,3]),aO 2 24] [0,1,2,8,9] (.seq (sR [mO 25 2,oO 26 (.binOp .lss 3 (xT 25) (nI 0) 3),mO 27 26,oG 28 (mV 8) 27 false,oG 29 (mV 9) 27 false,oG 30 (bO .sub 3 28 29 3) 27 false,oG 31 (mV 2) 27 false,oG 32 (bO .gtr 3 30 31 3) 27 false,oO 33 (.pick (xT 27) (nB true) (xT 32)),mO 34 33,oG 35 (mV 9) 34 false,oG 36 (mV 8) 34 false,oG 37 (bO .sub 3 35 36 3) 34 false,oG 38 (mV 2) 34 false,oG 39 (bO .gtr 3 37 38 3) 34 false,oO 40 (.pick (xT 34) (nB true) (xT 39))] [0,1,2,8,9,40] (cD 40 (sR [oO 6 (.assign (nI 0)),oO 7 (.assign (nB false))] [6,7] (.ret)) (.skip))) (.keep [0,1,2,8,9] (sR [mO 41 2,oO 42 (.binOp .mul 3 (nI 2) (xT 41) 3),oO 43 (.binOp .add 3 (xT 42) (nI 3) 3),oN 44 (.makeSlice 88 (xT 43) (xT 43)) [0],aO 10 44] [0,1,2,8,9,10] (.seq (sR [oO 11 (.assign (nI 0))] [0,1,2,8,9,10,11] (.block 0 (.loop l3_lcs_Distance))) (.keep [] (sR [oO 6 (.assign (nI 0)),oO 7 (.assign (nB false))] [6,7] (.ret)))))))))
theorem t_lcs_Distance : Txt Tryz.prog 86 120 [(.tmp 6),(.tmp 7)] c_lcs_Distance := txt_of (code := Tryz.f86.body.getD .ret) mixed (by kernel_rfl) Tryz.func86 (by kernel_rfl) Tryz.ntmps86 (by kernel_rfl) (ls := lsOf c_lcs_Distance) (by kernel_rfl)
def k1_lcs_row : CC := .reg [mO 43 5,mO 44 9,oO 45 (.binOp .add 3 (xT 44) (nI 1) 3),mO 46 5,mO 47 9,oO 48 (.binOp .add 3 (xT 47) (nI 1) 3),oO 49 (iA 88 46 48),lO 50 3 49,mO 51 5,mO 52 9,oO 53 (iA 88 51 52),lO 54 3 53,oO 55 (bC .max #[(xT 50),(xT 54)] #[3,3]),mO 56 11,oO 57 (iA 88 43 45),oS (.store 3 (xT 57) (xT 55)),aO 8 56] [1,5,7,8,16,17,18,22,23,24]
def l1_lcs_row : CC := sR [oO 25 (bO .lss 3 24 23 3)] [1,5,7,8,16,17,18,22,23,24,25] (.seq (cD 25 (.skip) (.exit 2)) (.keep [1,5,7,8,16,17,18,22,23,24] (.seq (.block 3 (sR [mO 26 24,oO 27 (iA 88 22 24),lO 28 3 27,aO 9 26,aO 10 28] [1,5,7,8,9,10,16,17,18,22,23,24] (sR [mO 29 5,mO 30 9,oO 31 (.binOp .add 3 (xT 30) (nI 1) 3),oO 32 (iA 88 29 31),lO 33 3 32,aO 11 33] [1,5,7,8,9,10,11,16,17,18,22,23,24] (.seq (sR [mO 34 7,mO 35 10,oO 36 (bO .eql 3 34 35 3)] [1,5,7,8,9,11,16,17,18,22,23,24,36] (cD 36 (.reg [mO 37 5,mO 38 9,oO 39 (.binOp .add 3 (xT 38) (nI 1) 3),mO 40 8,oO 41 (.binOp .add 3 (xT 40) (nI 1) 3),oO 42 (iA 88 37 39),oS (.store 3 (xT 42) (xT 41))] [1,5,7,9,11,16,17,18,22,23,24]) (.skip))) (.keep [1,5,7,9,11,16,17,18,22,23,24] k1_lcs_row))))) (.keep [1,5,7,8,16,17,18,22,23,24] (.reg [oO 58 (.binOp .add 3 (xT 24) (nI 1) 3),mO 24 58] [1,5,7,8,16,17,18,22,23,24])))))
def l2_lcs_row : CC := sR [oO 19 (bO .lss 3 18 17 3)] [1,5,16,17,18,19] (.seq (cD 19 (.skip) (.exit 0)) (.keep [1,5,16,17,18] (.seq (.block 1 (sR [oO 20 (iA 88 16 18),lO 21 3 20,aO 7 21] [1,5,7,16,17,18] (sR [oO 8 (.assign (nI 0))] [1,5,7,8,16,17,18] (sR [mO 22 1,oO 23 (bL 22 88),oO 24 (.move (nI 0))] [1,5,7,8,16,17,18,22,23,24] (.block 2 (.loop l1_lcs_row)))))) (.keep [1,5,16,17,18] (.reg [oO 59 (.binOp .add 3 (xT 18) (nI 1) 3),mO 18 59] [1,5,16,17,18]))))) 
def c_lcs_row : CC := sR [oO 4 (.assign nS)] [0,1] (sR [mO 12 1,oO 13 (bL 12 88),oO 14 (.binOp .add 3 (xT 13) (nI 1) 3),oN 15 (.makeSlice 88 (xT 14) (xT 14)) [0],aO 5 15] [0,1,5] (.seq (sR [mO 16 0,oO 17 (bL 16 88),oO 18 (.move (nI 0))] [1,5,16,17,18] (.block 0 (.loop l2_lcs_row))) (.keep [5] (sR [mO 60 5,aO 4 60] [4] (.ret)))))
theorem t_lcs_row : Txt Tryz.prog 119 61 [(.tmp 4)] c_lcs_row := txt_of (code := Tryz.f119.body.getD .ret) mixed (by kernel_rfl) Tryz.func119 (by kernel_rfl) Tryz.ntmps119 (by kernel_rfl) (ls := lsOf c_lcs_row) (by kernel_rfl)
def l1_lcs_turned : CC := sR [oO 12 (bO .lss 3 11 10 3)] [0,3,9,10,11,12] (.seq (cD 12 (.skip) (.exit 0)) (.keep [0,3,9,10,11] (.seq (.block 1 (sR [mO 13 11,oO 14 (iA 88 9 11),lO 15 3 14,aO 4 13,aO 5 15] [0,3,4,5,9,10,11] (.reg [mO 16 3,mO 17 0,oO 18 (bL 17 88),oO 19 (.binOp .sub 3 (xT 18) (nI 1) 3),mO 20 4,oO 21 (bO .sub 3 19 20 3),mO 22 5,oO 23 (iA 88 16 21),oS (.store 3 (xT 23) (xT 22))] [0,3,9,10,11]))) (.reg [oO 24 (.binOp .add 3 (xT 11) (nI 1) 3),mO 11 24] [0,3,9,10,11])))) 
def c_lcs_turned : CC := sR [oO 2 (.assign nS)] [0] (sR [mO 6 0,oO 7 (bL 6 88),oN 8 (.makeSlice 88 (xT 7) (xT 7)) [0],aO 3 8] [0,3] (.seq (sR [mO 9 0,oO 10 (bL 9 88),oO 11 (.move (nI 0))] [0,3,9,10,11] (.block 0 (.loop l1_lcs_turned))) (.keep [3] (sR [mO 25 3,aO 2 25] [2] (.ret)))))
theorem t_lcs_turned : Txt Tryz.prog 120 26 [(.tmp 2)] c_lcs_turned := txt_of (code := Tryz.f120.body.getD .ret) mixed (by kernel_rfl) Tryz.func120 (by kernel_rfl) Tryz.ntmps120 (by kernel_rfl) (ls := lsOf c_lcs_turned) (by kernel_rfl)
def l1_lcs_split : CC := sR [oO 26 (bO .lss 3 25 24 3)] [1,7,8,9,24,25,26] (.seq (cD 26 (.skip) (.exit 0)) (.keep [1,7,8,9,24,25] (.seq (.block 1 (sR [mO 27 25,aO 10 27] [1,7,8,9,10,24,25] (sR [mO 28 7,mO 29 10,oO 30 (iA 88 28 29),lO 31 3 30,mO 32 8,mO 33 1,oO 34 (bL 33 88),mO 35 10,oO 36 (bO .sub 3 34 35 3),oO 37 (iA 88 32 36),lO 38 3 37,oO 39 (bO .add 3 31 38 3),mO 40 7,mO 41 9,oO 42 (iA 88 40 41),lO 43 3 42,mO 44 8,mO 45 1,oO 46 (bL 45 88),mO 47 9,oO 48 (bO .sub 3 46 47 3),oO 49 (iA 88 44 48),lO 50 3 49,oO 51 (bO .add 3 43 50 3),oO 52 (bO .gtr 3 39 51 3)] [1,7,8,9,10,24,25,52] (cD 52 (.reg [mO 53 10,aO 9 53] [1,7,8,9,24,25]) (.skip))))) (.keep [1,7,8,9,24,25] (.reg [oO 54 (.binOp .add 3 (xT 25) (nI 1) 3),mO 25 54] [1,7,8,9,24,25]))))) 
def c_lcs_split : CC := sR [oO 6 (.assign (nI 0))] [0,1,2] (sR [mO 11 0,mO 12 2,oO 13 (.slice 88 (xT 11) none (some (xT 12)) none),mO 14 1,oO 15 (cL 119 #[(xT 13),(xT 14)] #[88,88]),mO 16 0,mO 17 2,oO 18 (.slice 88 (xT 16) (some (xT 17)) none none),oO 19 (cL 120 #[(xT 18)] #[88]),mO 20 1,oO 21 (cL 120 #[(xT 20)] #[88]),oO 22 (cL 119 #[(xT 19),(xT 21)] #[88,88]),aO 7 15,aO 8 22] [1,7,8] (sR [oO 9 (.assign (nI 0))] [1,7,8,9] (.seq (sR [mO 23 7,oO 24 (bL 23 88),oO 25 (.move (nI 0))] [1,7,8,9,24,25] (.block 0 (.loop l1_lcs_split))) (.keep [9] (sR [mO 55 9,aO 6 55] [6] (.ret))))))
theorem t_lcs_split : Txt Tryz.prog 107 56 [(.tmp 6)] c_lcs_split := txt_of (code := Tryz.f107.body.getD .ret) mixed (by kernel_rfl) Tryz.func107 (by kernel_rfl) Tryz.ntmps107 (by kernel_rfl) (ls := lsOf c_lcs_split) (by kernel_rfl)
def c_lcs_finder_add : CC := sR [mO 6 2,oO 7 (.binOp .gtr 3 (xT 6) (nI 0) 3)] [0,1,2,7] (cD 7 (.reg [mO 8 0,mO 9 0,oO 10 (.nilCheck (xT 9)),fO 11 114 10 0,lO 12 90 11,mO 13 1,mO 14 2,oO 15 (.build 95 #[(0,(xT 13)),(1,(xT 14))]),oO 16 (.buildSlice 90 1 #[(0,(xT 15))]),oN 17 (bC .append #[(xT 12),(xT 16)] #[90,90]) [1],oO 18 (.nilCheck (xT 8)),fO 19 114 18 0,oS (.store 90 (xT 19) (xT 17))] []) (.skip))
theorem t_lcs_finder_add : Txt Tryz.prog 105 20 [] c_lcs_finder_add := txt_of (code := Tryz.f105.body.getD .ret) mixed (by kernel_rfl) Tryz.func105 (by kernel_rfl) Tryz.ntmps105 (by kernel_rfl) (ls := lsOf c_lcs_finder_add) (by kernel_rfl)
def l1_lcs_finder_one : CC := sR [oO 11 (bO .lss 3 10 9 3)] [0,1,2,8,9,10,11] (.seq (cD 11 (.skip) (.exit 0)) (.keep [0,1,2,8,9,10] (.seq (.block 1 (sR [mO 12 10,oO 13 (iA 88 8 10),lO 14 3 13,aO 6 12,aO 7 14] [0,1,2,6,7,8,9,10] (sR [mO 15 1,mO 16 7,oO 17 (bO .eql 3 15 16 3)] [0,1,2,6,8,9,10,17] (cD 17 (sR [mO 18 0,mO 19 6,oO 20 (cL 105 #[(xT 18),(nI 2),(xT 19)] #[112,3,3])] [0,2,6] (sR [mO 21 0,oO 22 (cL 105 #[(xT 21),(nI 0),(nI 1)] #[112,3,3])] [0,2,6] (sR [mO 23 0,mO 24 2,oO 25 (bL 24 88),mO 26 6,oO 27 (bO .sub 3 25 26 3),oO 28 (.binOp .sub 3 (xT 27) (nI 1) 3),oO 29 (cL 105 #[(xT 23),(nI 2),(xT 28)] #[112,3,3])] [] (.ret)))) (.skip))))) (.keep [0,1,2,8,9,10] (.reg [oO 30 (.binOp .add 3 (xT 10) (nI 1) 3),mO 10 30] [0,1,2,8,9,10]))))) 
def c_lcs_finder_one : CC := .seq (sR [mO 8 2,oO 9 (bL 8 88),oO 10 (.move (nI 0))] [0,1,2,8,9,10] (.block 0 (.loop l1_lcs_finder_one))) (.keep [0,2] (sR [mO 31 0,oO 32 (cL 105 #[(xT 31),(nI 1),(nI 1)] #[112,3,3])] [0,2] (.reg [mO 33 0,mO 34 2,oO 35 (bL 34 88),oO 36 (cL 105 #[(xT 33),(nI 2),(xT 35)] #[112,3,3])] [])))
theorem t_lcs_finder_one : Txt Tryz.prog 106 37 [] c_lcs_finder_one := txt_of (code := Tryz.f106.body.getD .ret) mixed (by kernel_rfl) Tryz.func106 (by kernel_rfl) Tryz.ntmps106 (by kernel_rfl) (ls := lsOf c_lcs_finder_one) (by kernel_rfl)
def c_lcs_finder_find : CC := .block 0 (sR [mO 32 1,oO 33 (bL 32 88),oO 34 (.binOp .eql 3 (xT 33) (nI 0) 3),mO 35 34,oG 36 (mV 2) 35 false,oG 37 (bL 36 88) 35 false,oG 38 (.binOp .eql 3 (xT 37) (nI 0) 3) 35 false,oO 39 (.pick (xT 35) (nB true) (xT 38)),aO 31 39] [0,1,2,31] (cD 31 (sR [mO 40 0,mO 41 1,oO 42 (bL 41 88),oO 43 (cL 105 #[(xT 40),(nI 1),(xT 42)] #[112,3,3])] [0,2] (.reg [mO 44 0,mO 45 2,oO 46 (bL 45 88),oO 47 (cL 105 #[(xT 44),(nI 2),(xT 46)] #[112,3,3])] [])) (sR [mO 49 1,oO 50 (bL 49 88),oO 51 (.binOp .eql 3 (xT 50) (nI 1) 3),aO 48 51] [0,1,2,48] (cD 48 (.reg [mO 52 0,mO 53 1,oO 54 (.indexAddr 88 (xT 53) (nI 0)),lO 55 3 54,mO 56 2,oO 57 (cL 106 #[(xT 52),(xT 55),(xT 56)] #[112,3,88])] []) (sR [mO 8 1,oO 9 (bL 8 88),oO 10 (.binOp .quo 3 (xT 9) (nI 2) 3),aO 6 10] [0,1,2,6] (sR [mO 11 1,mO 12 2,mO 13 6,oO 14 (cL 107 #[(xT 11),(xT 12),(xT 13)] #[88,88,3]),aO 7 14] [0,1,2,6,7] (sR [mO 15 0,mO 16 1,mO 17 6,oO 18 (.slice 88 (xT 16) none (some (xT 17)) none),mO 19 2,mO 20 7,oO 21 (.slice 88 (xT 19) none (some (xT 20)) none),oO 22 (cL 87 #[(xT 15),(xT 18),(xT 21)] #[112,88,88])] [0,1,2,6,7] (.reg [mO 23 0,mO 24 1,mO 25 6,oO 26 (.slice 88 (xT 24) (some (xT 25)) none none),mO 27 2,mO 28 7,oO 29 (.slice 88 (xT 27) (some (xT 28)) none none),oO 30 (cL 87 #[(xT 23),(xT 26),(xT 29)] #[112,88,88])] []))))))))
theorem t_lcs_finder_find : Txt Tryz.prog 87 58 [] c_lcs_finder_find := txt_of (code := Tryz.f87.body.getD .ret) mixed (by kernel_rfl) Tryz.func87 (by kernel_rfl) Tryz.ntmps87 (by kernel_rfl) (ls := lsOf c_lcs_finder_find) (by kernel_rfl)
def c_script_Step_right : CC := sR [oN 1 (.box 95 (xT 0)) [0],oO 2 (.assign (nB false))] [1] (sR [fO 3 95 1 0,lO 4 3 3,oO 5 (.binOp .geq 3 (xT 4) (nI 0) 3),mO 6 5,oG 7 (fA 95 1 0) 6 true,oG 8 (lD 3 7) 6 true,oG 9 (.binOp .leq 3 (xT 8) (nI 2) 3) 6 true,oO 10 (.pick (xT 6) (xT 9) (nB false)),mO 11 10,oG 12 (fA 95 1 1) 11 true,oG 13 (lD 3 12) 11 true,oG 14 (.binOp .geq 3 (xT 13) (nI 1) 3) 11 true,oO 15 (.pick (xT 11) (xT 14) (nB false)),mO 16 15,oG 17 (fA 95 1 1) 16 true,oG 18 (lD 3 17) 16 true,oG 19 (.binOp .leq 3 (xT 18) (nI 1048576) 3) 16 true,oO 20 (.pick (xT 16) (xT 19) (nB false)),aO 2 20] [2] (.ret))
theorem t_script_Step_right : Txt Tryz.prog 89 21 [(.tmp 2)] c_script_Step_right := txt_of (code := Tryz.f89.body.getD .ret) mixed (by kernel_rfl) Tryz.func89 (by kernel_rfl) Tryz.ntmps89 (by kernel_rfl) (ls := lsOf c_script_Step_right) (by kernel_rfl)
def l1_script_Normal_1 : CC := sR [oO 9 (bO .lss 3 8 7 3)] [1,2,6,7,8,9] (.seq (cD 9 (.skip) (.exit 0)) (.keep [1,2,6,7,8] (.seq (.block 1 (sR [oO 10 (iA 88 6 8),lO 11 3 10,aO 5 11] [1,2,5,6,7,8] (.seq (sR [mO 12 5,oO 13 (iA 116 1 12),lO 14 3 13,oO 15 (.binOp .gtr 3 (xT 14) (nI 0) 3)] [1,2,5,6,7,8,15] (cD 15 (.reg [⟨some 16,(lD 90 2),none,[],0,[],true⟩,mO 17 5,mO 18 5,oO 19 (iA 116 1 18),lO 20 3 19,oO 21 (.build 95 #[(0,(xT 17)),(1,(xT 20))]),⟨some 22,(.buildSlice 90 1 #[(0,(xT 21))]),none,[],6,[0],false⟩,oN 23 (bC .append #[(xT 16),(xT 22)] #[90,90]) [1],oS (.store 90 (xT 2) (xT 23))] [1,2,5,6,7,8]) (.skip))) (.keep [1,2,5,6,7,8] (.reg [mO 24 5,oO 25 (iA 116 1 24),oS (.store 3 (xT 25) (nI 0))] [1,2,6,7,8]))))) (.keep [1,2,6,7,8] (.reg [oO 26 (.binOp .add 3 (xT 8) (nI 1) 3),mO 8 26] [1,2,6,7,8]))))) 
def c_script_Normal_1 : CC := sR [mO 6 0,oO 7 (bL 6 88),oO 8 (.move (nI 0))] [1,2,6,7,8] (.block 0 (.loop l1_script_Normal_1))
theorem t_script_Normal_1 : Txt Tryz.prog 88 27 [] c_script_Normal_1 := txt_of (code := Tryz.f88.body.getD .ret) mixed (by kernel_rfl) Tryz.func88 (by kernel_rfl) Tryz.ntmps88 (by kernel_rfl) (ls := lsOf c_script_Normal_1) (by kernel_rfl)
def k1_script_Normal : CC := .reg [fO 29 95 7 0,lO 30 3 29,oO 31 (iA 116 4 30),lO 32 3 31,fO 33 95 7 1,lO 34 3 33,oO 35 (bO .add 3 32 34 3),oO 36 (iA 116 4 30),oS (.store 3 (xT 36) (xT 35))] [3,4,5,9,10,11]
def l1_script_Normal : CC := sR [oO 12 (bO .lss 3 11 10 3)] [3,4,5,9,10,11,12] (.seq (cD 12 (.skip) (.exit 0)) (.keep [3,4,5,9,10,11] (.seq (.block 1 (sR [oO 13 (iA 90 9 11),lO 14 95 13,oN 7 (.alloc 95) [2],oS (.store 95 (xT 7) (xT 14))] [3,4,5,7,9,10,11] (.seq (.block 2 (sR [lO 19 95 7,oO 20 (cL 89 #[(xT 19)] #[95]),oO 21 (.unOp .not 4 (xT 20)),aO 18 21] [3,4,5,7,9,10,11,18] (cD 18 (.exit 1) (sR [fO 23 95 7 0,lO 24 3 23,oO 25 (.binOp .eql 3 (xT 24) (nI 0) 3),aO 22 25] [3,4,5,7,9,10,11,22] (cD 22 (.reg [mO 26 5,oO 27 (.buildSlice 88 2 #[(0,(nI 1)),(1,(nI 2))]),oO 28 (.call { callee := (.value (xT 26)),args := #[(xT 27)],argTypes := #[88] })] [3,4,5,7,9,10,11]) (.reg [mO 15 5,oO 16 (.buildSlice 88 1 #[(0,(nI 0))]),oO 17 (.call { callee := (.value (xT 15)),args := #[(xT 16)],argTypes := #[88] })] [3,4,5,7,9,10,11])))))) (.keep [3,4,5,7,9,10,11] k1_script_Normal)))) (.keep [3,4,5,9,10,11] (.reg [oO 37 (.binOp .add 3 (xT 11) (nI 1) 3),mO 11 37] [3,4,5,9,10,11]))))) 
def c_script_Normal : CC := sR [oO 2 (.assign nS)] [0] (sR [oN 3 (.alloc 90) [0]] [0,3] (sR [oN 4 (.alloc 116) [0,1]] [0,3,4] (sR [oO 8 (.makeFunc (.func 88) #[] #[(xT 4),(xT 3)]),aO 5 8] [0,3,4,5] (.seq (sR [mO 9 0,oO 10 (bL 9 90),oO 11 (.move (nI 0))] [3,4,5,9,10,11] (.block 0 (.loop l1_script_Normal))) (.keep [3,5] (sR [mO 38 5,oO 39 (.buildSlice 88 3 #[(0,(nI 0)),(1,(nI 1)),(2,(nI 2))]),oO 40 (.call { callee := (.value (xT 38)),args := #[(xT 39)],argTypes := #[88] })] [3] (sR [lO 41 90 3,aO 2 41] [2] (.ret))))))))
theorem t_script_Normal : Txt Tryz.prog 71 42 [(.tmp 2)] c_script_Normal := txt_of (code := Tryz.f71.body.getD .ret) mixed (by kernel_rfl) Tryz.func71 (by kernel_rfl) Tryz.ntmps71 (by kernel_rfl) (ls := lsOf c_script_Normal) (by kernel_rfl)
def c_lcs_Diff : CC := sR [oO 6 (.assign nS),oO 7 (.assign (nB false))] [0,1,2] (.seq (sR [mO 12 0,mO 13 1,mO 14 2,oO 15 (cL 86 #[(xT 12),(xT 13),(xT 14)] #[88,88,3]),mO 11 15,xO 16 11 0,xO 17 11 1,aO 8 16,aO 9 17] [0,1,9] (sR [mO 18 9,oO 19 (.unOp .not 4 (xT 18))] [0,1,19] (cD 19 (sR [oO 6 (.assign nS),oO 7 (.assign (nB false))] [6,7] (.ret)) (.skip)))) (.keep [0,1] (sR [oO 20 (.build 114 #[]),oN 21 (.box 114 (xT 20)) [0],aO 10 21] [0,1,10] (.stop (sR [mO 22 10,mO 23 0,mO 24 1,oO 25 (cL 87 #[(xT 22),(xT 23),(xT 24)] #[112,88,88])] [10] (sR [mO 26 10,oO 27 (.nilCheck (xT 26)),fO 28 114 27 0,lO 29 90 28,oO 30 (cL 71 #[(xT 29)] #[90]),aO 6 30,oO 7 (.assign (nB true))] [6,7] (.ret)))))))
theorem t_lcs_Diff : Txt Tryz.prog 70 31 [(.tmp 6),(.tmp 7)] c_lcs_Diff := txt_of (code := Tryz.f70.body.getD .ret) mixed (by kernel_rfl) Tryz.func70 (by kernel_rfl) Tryz.ntmps70 (by kernel_rfl) (ls := lsOf c_lcs_Diff) (by kernel_rfl)
end Go.Proofs.YtmeldaflhkiopaaGreat
namespace Go.PL
set_option linter.unusedVariables false
set_option linter.unusedSimpArgs false
open List
def aft (x : Int) : List Int→Option (List Int)
  | [] => none
  | y :: b => if x = y then some b else aft x b
def lcsL : List Int→List Int→Nat
  | [],_ => 0
  | x :: a,b => max (lcsL a b) (match aft x b with | some b' => lcsL a b' + 1 | none => 0)
theorem aft_sub {x : Int} {s : List Int} : ∀ {b : List Int},x :: s <+ b→∃ b',aft x b = some b'∧s <+ b'
  | [],h => by cases h
  | y :: b,h => by
    unfold aft
    by_cases e : x = y
    · subst e
      refine ⟨b,by simp,?_⟩
      cases h with
      | cons _ h => exact (List.sublist_cons_self x s).trans h
      | cons_cons _ h => exact h
    · rw [if_neg e]
      cases h with
      | cons _ h => exact aft_sub h
      | cons_cons _ h => exact absurd rfl e
theorem aft_has {x : Int} : ∀ {b b' : List Int},aft x b = some b'→∃ b0,b = b0 ++ x :: b'∧x ∉ b0
  | [],b',h => by cases h
  | y :: b,b',h => by
    unfold aft at h
    by_cases e : x = y
    · rw [if_pos e] at h
      cases h
      exact ⟨[],by simp [e],by simp⟩
    · rw [if_neg e] at h
      obtain ⟨b0,h1,h2⟩ := aft_has h
      exact ⟨y :: b0,by simp [h1],by simp [e,h2]⟩
theorem aft_none {x : Int} : ∀ {b : List Int},aft x b = none→x ∉ b
  | [],_ => by simp
  | y :: b,h => by
    unfold aft at h
    by_cases e : x = y
    · rw [if_pos e] at h; cases h
    · rw [if_neg e] at h
      simp [e,aft_none h]
theorem aft_app {x : Int} : ∀ {b0 b' : List Int},x ∉ b0→aft x (b0 ++ x :: b') = some b'
  | [],b',_ => by simp [aft]
  | y :: b0,b',h => by
    simp at h
    simp [aft,h.1,aft_app h.2]
theorem lcs_has : ∀ a b : List Int,∃ s,s <+ a∧s <+ b∧s.length = lcsL a b
  | [],b => ⟨[],by simp,by simp,rfl⟩
  | x :: a,b => by
    obtain ⟨s,h1,h2,h3⟩ := lcs_has a b
    unfold lcsL
    cases e : aft x b with
    | none => exact ⟨s,h1.cons x,h2,by simp [h3]⟩
    | some b' =>
      obtain ⟨t,g1,g2,g3⟩ := lcs_has a b'
      simp only
      by_cases hle : lcsL a b≤lcsL a b' + 1
      · obtain ⟨b0,rfl,_⟩ := aft_has e
        exact ⟨x :: t,g1.cons_cons x,(g2.cons_cons x).trans (List.sublist_append_right _ _),by simp; omega⟩
      · exact ⟨s,h1.cons x,h2,by omega⟩
theorem lcs_max : ∀ {a b s : List Int},s <+ a→s <+ b→s.length≤lcsL a b
  | [],b,s,h1,h2 => by
    have := List.sublist_nil.1 h1
    subst this
    simp
  | x :: a,b,s,h1,h2 => by
    unfold lcsL
    cases h1 with
    | cons _ h => have := lcs_max h h2; omega
    | @cons_cons s' _ _ h =>
      obtain ⟨b',e,h3⟩ := aft_sub h2
      have := lcs_max h h3
      rw [e]
      simp
      omega
theorem lcs_is {a b : List Int} {n : Nat} (h1 : ∃ s,s <+ a∧s <+ b∧s.length = n) (h2 : ∀ s,s <+ a→s <+ b→s.length≤n) : lcsL a b = n := by
  obtain ⟨s,g1,g2,g3⟩ := h1
  obtain ⟨t,k1,k2,k3⟩ := lcs_has a b
  have := lcs_max g1 g2
  have := h2 t k1 k2
  omega
theorem lcs_rev (a b : List Int) : lcsL a.reverse b.reverse = lcsL a b := by
  obtain ⟨s,h1,h2,h3⟩ := lcs_has a b
  refine lcs_is ⟨s.reverse,h1.reverse,h2.reverse,by simpa using h3⟩ fun t g1 g2 => ?_
  have := lcs_max (a := a) (b := b) (s := t.reverse) (by simpa using g1.reverse) (by simpa using g2.reverse)
  simpa using this
theorem lcs_sub {a b a' b' : List Int} (h1 : a <+ a') (h2 : b <+ b') : lcsL a b≤lcsL a' b' := by
  obtain ⟨s,g1,g2,g3⟩ := lcs_has a b
  have := lcs_max (g1.trans h1) (g2.trans h2)
  omega
theorem lcs_app (a b a' b' : List Int) : lcsL a b + lcsL a' b'≤lcsL (a ++ a') (b ++ b') := by
  obtain ⟨s,g1,g2,g3⟩ := lcs_has a b
  obtain ⟨t,k1,k2,k3⟩ := lcs_has a' b'
  have := lcs_max (g1.append k1) (g2.append k2)
  simp at this
  omega
theorem lcs_split (a a' b : List Int) : ∃ b1 b2,b = b1 ++ b2∧lcsL (a ++ a') b = lcsL a b1 + lcsL a' b2 := by
  obtain ⟨s,g1,g2,g3⟩ := lcs_has (a ++ a') b
  obtain ⟨s1,s2,rfl,k1,k2⟩ := List.sublist_append_iff.1 g1
  obtain ⟨b1,b2,rfl,m1,m2⟩ := List.append_sublist_iff.1 g2
  refine ⟨b1,b2,rfl,?_⟩
  have h1 := lcs_max k1 m1
  have h2 := lcs_max k2 m2
  have h3 := lcs_app a b1 a' b2
  simp at g3
  omega
theorem lcs_len (a b : List Int) : lcsL a b≤a.length∧lcsL a b≤b.length := by
  obtain ⟨s,g1,g2,g3⟩ := lcs_has a b
  have := g1.length_le
  have := g2.length_le
  omega
theorem lcs_cons_same (x : Int) (a b : List Int) : lcsL (x :: a) (x :: b) = lcsL a b + 1 := by
  have h : lcsL a (x :: b)≤lcsL a b + 1 := by
    obtain ⟨s,g1,g2,g3⟩ := lcs_has a (x :: b)
    cases g2 with
    | cons _ h => have := lcs_max g1 h; omega
    | @cons_cons s' _ _ h =>
      have := lcs_max ((List.sublist_cons_self x s').trans g1) h
      simp at g3
      omega
  rw [lcsL]
  simp [aft]
  omega
theorem lcs_cons_else {x y : Int} (h : x ≠ y) (a b : List Int) : lcsL (x :: a) (y :: b) = max (lcsL a (y :: b)) (lcsL (x :: a) b) := by
  have h1 : lcsL a b≤lcsL a (y :: b) := lcs_sub (List.Sublist.refl _) (List.sublist_cons_self _ _)
  rw [lcsL,lcsL]
  simp only [aft,if_neg h]
  omega
theorem lcs_snoc_same (x : Int) (a b : List Int) : lcsL (a ++ [x]) (b ++ [x]) = lcsL a b + 1 := by
  rw [← lcs_rev]
  simp [lcs_cons_same,lcs_rev]
theorem lcs_snoc_else {x y : Int} (h : x ≠ y) (a b : List Int) : lcsL (a ++ [x]) (b ++ [y]) = max (lcsL a (b ++ [y])) (lcsL (a ++ [x]) b) := by
  rw [← lcs_rev,← lcs_rev a (b ++ [y]),← lcs_rev (a ++ [x]) b]
  simp [lcs_cons_else h]
theorem lcs_cons_le (x : Int) (a b : List Int) : lcsL (x :: a) b≤lcsL a b + 1 := by
  rw [lcsL]
  cases e : aft x b with
  | none => simp
  | some b' =>
    obtain ⟨b0,rfl,_⟩ := aft_has e
    have : lcsL a b'≤lcsL a (b0 ++ x :: b') := lcs_sub (List.Sublist.refl _) ((List.sublist_cons_self x b').trans (List.sublist_append_right _ _))
    simp only
    omega
theorem lcs_snoc_le (x : Int) (a b : List Int) : lcsL (a ++ [x]) b≤lcsL a b + 1 := by
  rw [← lcs_rev,← lcs_rev a b]
  simpa using lcs_cons_le x a.reverse b.reverse
@[simp] theorem lcs_nil (a : List Int) : lcsL a [] = 0 := by have := (lcs_len a []).2; simpa using this
@[simp] theorem lcs_nil' (b : List Int) : lcsL [] b = 0 := rfl
theorem lcs_monge : ∀ (a u v w : List Int),lcsL a (u ++ (v ++ w)) + lcsL a v≤lcsL a (u ++ v) + lcsL a (v ++ w)
  | [],u,v,w => by simp
  | x :: a,u,v,w => by
    have m1 : ∀ p q : List Int,lcsL a q≤lcsL a (p ++ q) := fun p q => lcs_sub (List.Sublist.refl _) (List.sublist_append_right _ _)
    have up : ∀ q : List Int,lcsL a q≤lcsL (x :: a) q := fun q => by rw [lcsL]; omega
    have tk : ∀ q0 q' : List Int,x ∉ q0→lcsL a q' + 1≤lcsL (x :: a) (q0 ++ x :: q') := fun q0 q' h => by rw [lcsL,aft_app h]; simp; omega
    have tk' : ∀ q0 q' : List Int,lcsL a q' + 1≤lcsL (x :: a) (q0 ++ x :: q') := fun q0 q' => by
      have := lcs_cons_same x a q'
      have h2 : lcsL (x :: a) (x :: q')≤lcsL (x :: a) (q0 ++ x :: q') := lcs_sub (List.Sublist.refl _) (List.sublist_append_right _ _)
      omega
    -- what the two of the left take
    have c1 : lcsL (x :: a) (u ++ (v ++ w)) = lcsL a (u ++ (v ++ w))∨∃ q0 q',u ++ (v ++ w) = q0 ++ x :: q'∧x ∉ q0∧lcsL (x :: a) (u ++ (v ++ w)) = lcsL a q' + 1 := by
      rw [lcsL]
      cases e : aft x (u ++ (v ++ w)) with
      | none => left; simp
      | some q' =>
        obtain ⟨q0,h1,h2⟩ := aft_has e
        simp only
        by_cases hle : lcsL a (u ++ (v ++ w))≤lcsL a q' + 1
        · right; exact ⟨q0,q',h1,h2,by omega⟩
        · left; omega
    have c2 : lcsL (x :: a) v = lcsL a v∨∃ v0 v',v = v0 ++ x :: v'∧x ∉ v0∧lcsL (x :: a) v = lcsL a v' + 1 := by
      rw [lcsL]
      cases e : aft x v with
      | none => left; simp
      | some q' =>
        obtain ⟨q0,h1,h2⟩ := aft_has e
        simp only
        by_cases hle : lcsL a v≤lcsL a q' + 1
        · right; exact ⟨q0,q',h1,h2,by omega⟩
        · left; omega
    rcases c1 with e1 | ⟨q0,q',h1,hn,e1⟩
    · rcases c2 with e2 | ⟨v0,v',rfl,hv,e2⟩
      · have := lcs_monge a u v w
        have := up (u ++ v)
        have := up (v ++ w)
        omega
      · have h := lcs_monge a (u ++ (v0 ++ [x])) v' w
        have g1 := up (u ++ (v0 ++ x :: v'))
        have g2 := tk v0 (v' ++ w) hv
        simp at h g1 g2 e1 e2 ⊢
        omega
    · -- where the first x stands
      rcases List.append_eq_append_iff.1 h1 with ⟨t,ht1,ht2⟩ | ⟨t,ht1,ht2⟩
      · -- q0 = u ++ t,v ++ w = t ++ x :: q'
        subst ht1
        have hnu : x ∉ u := fun h => hn (by simp [h])
        have hnt : x ∉ t := fun h => hn (by simp [h])
        rcases List.append_eq_append_iff.1 ht2 with ⟨t2,hs1,hs2⟩ | ⟨t2,hs1,hs2⟩
        · -- t = v ++ t2: x stands in w
          subst hs1
          have hnv : x ∉ v := fun h => hnt (by simp [h])
          have e2 : lcsL (x :: a) v = lcsL a v := by
            rcases c2 with e2 | ⟨v0,v',rfl,_,_⟩
            · exact e2
            · exact absurd (by simp) hnv
          have g1 := tk (v ++ t2) q' hnt
          have g2 := up (u ++ v)
          have g3 := m1 u v
          rw [ht2] at e1 ⊢
          omega
        · -- v = t ++ t2,x :: q' = t2 ++ w
          subst hs1
          cases t2 with
          | nil =>
            simp at hs2
            subst hs2
            have e2 : lcsL (x :: a) t = lcsL a t := by
              rcases c2 with e2 | ⟨v0,v',hv,_,_⟩
              · simpa using e2
              · exact absurd (by simp at hv; simp [hv]) hnt
            have g1 := tk t q' hnt
            have g2 := up (u ++ t)
            have g3 := m1 u t
            simp at e1 e2 g1 g2 g3 ⊢
            omega
          | cons y v' =>
            simp at hs2
            obtain ⟨rfl,rfl⟩ := hs2
            have g1 := tk t (v' ++ w) hnt
            have e2 : lcsL (x :: a) (t ++ x :: v')≤max (lcsL a (t ++ x :: v')) (lcsL a v' + 1) := by rw [lcsL,aft_app hnt]; simp
            have g2 := up (u ++ (t ++ x :: v'))
            have g3 := m1 u (t ++ x :: v')
            have g4 := tk' (u ++ t) v'
            simp at e1 e2 g1 g2 g3 g4 ⊢
            omega
      · -- u = q0 ++ t,x :: q' = t ++ (v ++ w)
        cases t with
        | nil =>
          simp at ht2 ht1
          subst ht1
          -- x heads v ++ w
          cases v with
          | nil =>
            simp at ht2
            have g1 := tk [] q' (by simp)
            have g0 := up u
            simp at g1 e1 ⊢
            rw [← ht2] at e1 ⊢
            rw [e1]
            omega
          | cons y v' =>
            simp at ht2
            obtain ⟨rfl,rfl⟩ := ht2
            have g1 := tk [] (v' ++ w) (by simp)
            have e2 := lcs_cons_same x a v'
            have g4 := tk' u v'
            simp at e1 g1 g4 ⊢
            omega
        | cons y u' =>
          simp at ht2
          obtain ⟨rfl,rfl⟩ := ht2
          subst ht1
          rcases c2 with e2 | ⟨v0,v',rfl,hv,e2⟩
          · have h := lcs_monge a u' v w
            have g1 := tk q0 (u' ++ v) hn
            have g2 := up (v ++ w)
            simp at e1 e2 g1 g2 h ⊢
            omega
          · have h := lcs_monge a (u' ++ (v0 ++ [x])) v' w
            have g1 := tk q0 (u' ++ (v0 ++ x :: v')) hn
            have g2 := tk v0 (v' ++ w) hv
            simp at e1 e2 g1 g2 h ⊢
            omega
def sg (l : List Int) (p q : Nat) : List Int := (l.take q).drop p
def cmn (a b : List Int) (i h j k : Nat) : Nat := lcsL (sg a i h) (sg b j k)
theorem sg_len (l : List Int) (p q : Nat) (h : q≤l.length) : (sg l p q).length = q - p := by simp [sg]; omega
theorem sg_app {l : List Int} {p k q : Nat} (h1 : p≤k) (h2 : k≤q) : sg l p q = sg l p k ++ sg l k q := by
  unfold sg
  have e : (l.take q).drop p = ((l.take q).drop p).take (k - p) ++ ((l.take q).drop p).drop (k - p) := (List.take_append_drop _ _).symm
  rw [e,List.drop_drop,List.take_drop,List.take_take]
  congr 3 <;> first | omega | skip
theorem sg_zero (l : List Int) (q : Nat) : sg l 0 q = l.take q := by simp [sg]
theorem sg_end (l : List Int) (p : Nat) : sg l p l.length = l.drop p := by simp [sg]
theorem sg_nil (l : List Int) (p : Nat) : sg l p p = [] := by simp [sg]
theorem sg_take {l : List Int} {n p q : Nat} (h : q≤n) : sg (l.take n) p q = sg l p q := by
  unfold sg; rw [List.take_take]; congr 2; omega
theorem sg_drop {l : List Int} {n p q : Nat} : sg (l.drop n) p q = sg l (n + p) (n + q) := by
  unfold sg; rw [List.take_drop,List.drop_drop]
theorem cmn_app {a b : List Int} {i h t j k q : Nat} (h1 : i≤h) (h2 : h≤t) (h3 : j≤k) (h4 : k≤q) : cmn a b i h j k + cmn a b h t k q≤cmn a b i t j q := by
  unfold cmn
  rw [sg_app h1 h2,sg_app h3 h4]
  exact lcs_app _ _ _ _
theorem cmn_split (a b : List Int) {i h t j q : Nat} (h1 : i≤h) (h2 : h≤t) (h3 : j≤q) (h4 : q≤b.length) : ∃ k,j≤k∧k≤q∧cmn a b i h j k + cmn a b h t k q = cmn a b i t j q := by
  unfold cmn
  rw [sg_app h1 h2]
  obtain ⟨b1,b2,e,hs⟩ := lcs_split (sg a i h) (sg a h t) (sg b j q)
  have hl := sg_len b j q h4
  rw [e] at hl
  simp at hl
  refine ⟨j + b1.length,by omega,by omega,?_⟩
  have e2 := sg_app (l := b) (p := j) (k := j + b1.length) (q := q) (by omega) (by omega)
  rw [e] at e2
  obtain ⟨g1,g2⟩ := List.append_inj e2 (by rw [sg_len _ _ _ (by omega)]; omega)
  rw [← g1,← g2,← hs]
theorem cmn_monge (a b : List Int) (i h : Nat) {p p' q q' : Nat} (h1 : p≤p') (h2 : p'≤q) (h3 : q≤q') : cmn a b i h p q' + cmn a b i h p' q≤cmn a b i h p q + cmn a b i h p' q' := by
  unfold cmn
  rw [sg_app (l := b) h1 (by omega : p'≤q'),sg_app (l := b) h2 h3,sg_app (l := b) h1 h2]
  exact lcs_monge _ _ _ _
def fstN (p : Nat→Bool) : Nat→Nat→Nat
  | 0,j => j
  | f + 1,j => if p j = true then j else fstN p f (j + 1)
theorem fstN_ok {p : Nat→Bool} : ∀ {f j k : Nat},j≤k→k≤j + f→p k = true→p (fstN p f j) = true∧j≤fstN p f j∧fstN p f j≤k
  | 0,j,k,h1,h2,h => by
    have : k = j := by omega
    subst this
    exact ⟨h,by simp [fstN],by simp [fstN]⟩
  | f + 1,j,k,h1,h2,h => by
    unfold fstN
    by_cases e : p j = true
    · simp [e,h1]
    · rw [if_neg e]
      have hne : j ≠ k := fun h' => by rw [h'] at e; exact e h
      have := fstN_ok (f := f) (j := j + 1) (k := k) (by omega) (by omega) h
      exact ⟨this.1,by omega,this.2.2⟩
def onW (a b : List Int) (i j : Nat) : Bool := decide (cmn a b 0 i 0 j + cmn a b i a.length j b.length = lcsL a b)
def wayN (a b : List Int) (i : Nat) : Nat := fstN (onW a b i) b.length 0
theorem cmn_all (a b : List Int) : cmn a b 0 a.length 0 b.length = lcsL a b := by simp [cmn,sg]
theorem onW_le {a b : List Int} {i j : Nat} (hi : i≤a.length) (hj : j≤b.length) : cmn a b 0 i 0 j + cmn a b i a.length j b.length≤lcsL a b := by
  rw [← cmn_all]
  exact cmn_app (by omega) hi (by omega) hj
theorem way_on {a b : List Int} {i : Nat} (hi : i≤a.length) : onW a b i (wayN a b i) = true∧wayN a b i≤b.length∧∀ j,j≤b.length→onW a b i j = true→wayN a b i≤j := by
  obtain ⟨k,h1,h2,h3⟩ := cmn_split a b (i := 0) (h := i) (t := a.length) (j := 0) (q := b.length) (by omega) hi (by omega) (by omega)
  rw [cmn_all] at h3
  have := fstN_ok (p := onW a b i) (f := b.length) (j := 0) (k := k) (by omega) (by omega) (by simpa [onW] using h3)
  refine ⟨this.1,by unfold wayN; omega,fun j hj h => ?_⟩
  exact (fstN_ok (p := onW a b i) (f := b.length) (j := 0) (k := j) (by omega) (by omega) h).2.2
theorem way_is {a b : List Int} {i k : Nat} (hi : i≤a.length) (hk : k≤b.length) (h1 : onW a b i k = true) (h2 : ∀ j,j < k→onW a b i j = false) : wayN a b i = k := by
  obtain ⟨g1,g2,g3⟩ := way_on (a := a) (b := b) hi
  have := g3 k hk h1
  by_cases e : wayN a b i < k
  · have := h2 _ e; rw [g1] at this; cases this
  · omega
theorem way_zero (a b : List Int) : wayN a b 0 = 0 := way_is (by omega) (by omega) (by simp [onW,cmn,sg]) (by omega)
theorem way_mono {a b : List Int} {i h : Nat} (hih : i≤h) (hh : h≤a.length) : wayN a b i≤wayN a b h := by
  obtain ⟨g1,g2,g3⟩ := way_on (a := a) (b := b) hh
  obtain ⟨k,h1,h2,h3⟩ := cmn_split a b (i := 0) (h := i) (t := h) (j := 0) (q := wayN a b h) (by omega) hih (by omega) g2
  have h4 := cmn_app (a := a) (b := b) (i := i) (h := h) (t := a.length) (j := k) (k := wayN a b h) (q := b.length) hih hh h2 g2
  have h5 := onW_le (a := a) (b := b) (i := i) (j := k) (by omega) (by omega)
  have hg := g1
  unfold onW at hg
  simp only [decide_eq_true_eq] at hg
  have := (way_on (a := a) (b := b) (i := i) (by omega)).2.2 k (by omega) (by unfold onW; simp only [decide_eq_true_eq]; omega)
  omega
theorem way_fst {a b : List Int} {i h : Nat} (hih : i≤h) (hh : h≤a.length) : wayN (a.take h) (b.take (wayN a b h)) i = wayN a b i := by
  obtain ⟨g1,g2,g3⟩ := way_on (a := a) (b := b) hh
  obtain ⟨f1,f2,f3⟩ := way_on (a := a) (b := b) (i := i) (by omega)
  have hm := way_mono (a := a) (b := b) hih hh
  generalize hJ : wayN a b h = J at *
  generalize hj : wayN a b i = j at *
  have la : (a.take h).length = h := by simp; omega
  have lb : (b.take J).length = J := by simp; omega
  have e0 : lcsL (a.take h) (b.take J) = cmn a b 0 h 0 J := by simp [cmn,sg_zero]
  have e1 : ∀ k,k≤J→onW (a.take h) (b.take J) i k = decide (cmn a b 0 i 0 k + cmn a b i h k J = cmn a b 0 h 0 J) := fun k hk => by
    unfold onW
    rw [e0,la,lb]
    unfold cmn
    rw [sg_take hih,sg_take hk,sg_take (Nat.le_refl _),sg_take (Nat.le_refl _)]
  unfold onW at g1 f1
  simp only [decide_eq_true_eq] at g1 f1
  refine way_is (by omega) (by omega) ?_ fun k hk => ?_
  · rw [e1 j hm,decide_eq_true_eq]
    -- the way through (i,j) comes to row h at k
    obtain ⟨k,h1,h2,h3⟩ := cmn_split a b (i := i) (h := h) (t := a.length) (j := j) (q := b.length) hih hh f2 (by omega)
    have h4 := cmn_app (a := a) (b := b) (i := 0) (h := i) (t := h) (j := 0) (k := j) (q := k) (by omega) hih (by omega) h1
    have h5 := onW_le (a := a) (b := b) (i := h) (j := k) hh h2
    have hJk : J≤k := g3 k h2 (by unfold onW; simp only [decide_eq_true_eq]; omega)
    obtain ⟨k2,i1,i2,i3⟩ := cmn_split a b (i := 0) (h := i) (t := h) (j := 0) (q := J) (by omega) hih (by omega) g2
    have i4 := cmn_app (a := a) (b := b) (i := i) (h := h) (t := a.length) (j := k2) (k := J) (q := b.length) hih hh i2 g2
    have i5 := onW_le (a := a) (b := b) (i := i) (j := k2) (by omega) (by omega)
    have hjk2 : j≤k2 := f3 k2 (by omega) (by unfold onW; simp only [decide_eq_true_eq]; omega)
    have m := cmn_monge a b i h (p := j) (p' := k2) (q := J) (q' := k) hjk2 i2 hJk
    have t1 := cmn_app (a := a) (b := b) (i := 0) (h := i) (t := h) (j := 0) (k := j) (q := J) (by omega) hih (by omega) hm
    have t2 := cmn_app (a := a) (b := b) (i := i) (h := h) (t := a.length) (j := k2) (k := k) (q := b.length) hih hh (by omega) h2
    omega
  · rw [e1 k (by omega),decide_eq_false_iff_not]
    intro e
    have h4 := cmn_app (a := a) (b := b) (i := i) (h := h) (t := a.length) (j := k) (k := J) (q := b.length) hih hh (by omega) g2
    have h5 := onW_le (a := a) (b := b) (i := i) (j := k) (by omega) (by omega)
    have := f3 k (by omega) (by unfold onW; simp only [decide_eq_true_eq]; omega)
    omega
theorem way_snd {a b : List Int} {i h : Nat} (hh : h + i≤a.length) : wayN (a.drop h) (b.drop (wayN a b h)) i + wayN a b h = wayN a b (h + i) := by
  obtain ⟨g1,g2,g3⟩ := way_on (a := a) (b := b) (i := h) (by omega)
  obtain ⟨f1,f2,f3⟩ := way_on (a := a) (b := b) (i := h + i) hh
  have hm := way_mono (a := a) (b := b) (i := h) (h := h + i) (by omega) hh
  generalize hJ : wayN a b h = J at *
  generalize hj : wayN a b (h + i) = j at *
  have la : h + (a.drop h).length = a.length := by simp; omega
  have lb : J + (b.drop J).length = b.length := by simp; omega
  have e0 : lcsL (a.drop h) (b.drop J) = cmn a b h a.length J b.length := by simp [cmn,sg_end]
  have e1 : ∀ k,onW (a.drop h) (b.drop J) i k = decide (cmn a b h (h + i) J (J + k) + cmn a b (h + i) a.length (J + k) b.length = cmn a b h a.length J b.length) := fun k => by
    unfold onW
    rw [e0]
    unfold cmn
    rw [sg_drop,sg_drop,sg_drop,sg_drop,la,lb,Nat.add_zero,Nat.add_zero]
  unfold onW at g1 f1
  simp only [decide_eq_true_eq] at g1 f1
  suffices hw : wayN (a.drop h) (b.drop J) i = j - J by omega
  refine way_is (by omega) (by omega) ?_ fun k hk => ?_
  · rw [e1,decide_eq_true_eq,show J + (j - J) = j by omega]
    -- the way through (h + i,j) comes from row h at k
    obtain ⟨k,h1,h2,h3⟩ := cmn_split a b (i := 0) (h := h) (t := h + i) (j := 0) (q := j) (by omega) (by omega) (by omega) f2
    have h4 := cmn_app (a := a) (b := b) (i := h) (h := h + i) (t := a.length) (j := k) (k := j) (q := b.length) (by omega) hh h2 f2
    have h5 := onW_le (a := a) (b := b) (i := h) (j := k) (by omega) (by omega)
    have hJk : J≤k := g3 k (by omega) (by unfold onW; simp only [decide_eq_true_eq]; omega)
    obtain ⟨k2,i1,i2,i3⟩ := cmn_split a b (i := h) (h := h + i) (t := a.length) (j := J) (q := b.length) (by omega) hh g2 (by omega)
    have i4 := cmn_app (a := a) (b := b) (i := 0) (h := h) (t := h + i) (j := 0) (k := J) (q := k2) (by omega) (by omega) (by omega) i1
    have i5 := onW_le (a := a) (b := b) (i := h + i) (j := k2) hh i2
    have hjk2 : j≤k2 := f3 k2 (by omega) (by unfold onW; simp only [decide_eq_true_eq]; omega)
    have m := cmn_monge a b h (h + i) (p := J) (p' := k) (q := j) (q' := k2) hJk h2 hjk2
    have t1 := cmn_app (a := a) (b := b) (i := h) (h := h + i) (t := a.length) (j := J) (k := j) (q := b.length) (by omega) hh hm f2
    have t2 := cmn_app (a := a) (b := b) (i := 0) (h := h) (t := h + i) (j := 0) (k := k) (q := k2) (by omega) (by omega) (by omega) (by omega)
    omega
  · rw [e1,decide_eq_false_iff_not]
    intro e
    have h4 := cmn_app (a := a) (b := b) (i := 0) (h := h) (t := h + i) (j := 0) (k := J) (q := J + k) (by omega) (by omega) (by omega) (by omega)
    have h5 := onW_le (a := a) (b := b) (i := h + i) (j := J + k) hh (by omega)
    have := f3 (J + k) (by omega) (by unfold onW; simp only [decide_eq_true_eq]; omega)
    omega
structure Sp where
  k : Nat
  n : Nat
  deriving DecidableEq
def Sp.ok (s : Sp) : Prop := s.k≤2∧1≤s.n∧s.n≤1048576
def Sp.may (s : Sp) : Prop := s.k≤2∧s.n≤1048576
def unitsS (l : List Sp) : List Nat := l.flatMap fun s => replicate s.n s.k
@[simp] theorem units_nil : unitsS [] = [] := rfl
@[simp] theorem units_cons (s : Sp) (l : List Sp) : unitsS (s :: l) = replicate s.n s.k ++ unitsS l := rfl
@[simp] theorem units_app (l m : List Sp) : unitsS (l ++ m) = unitsS l ++ unitsS m := by simp [unitsS]
def fl (k n : Nat) : List Sp := if n = 0 then [] else [⟨k,n⟩]
@[simp] theorem fl_zero (k : Nat) : fl k 0 = [] := rfl
theorem fl_pos {k n : Nat} (h : 0 < n) : fl k n = [⟨k,n⟩] := by unfold fl; rw [if_neg (by omega)]
@[simp] theorem units_fl (k n : Nat) : unitsS (fl k n) = replicate n k := by
  unfold fl
  split
  · rename_i h; simp [h]
  · simp [unitsS]
theorem fl_ok {k n : Nat} (hk : k≤2) (hn : n≤1048576) : ∀ s,s ∈ fl k n→s.ok := by
  intro s hs
  unfold fl at hs
  split at hs
  · simp at hs
  · simp at hs; subst hs; exact ⟨hk,by simp; omega,hn⟩
def goU : List Nat→Nat→Nat→Nat→List Sp
  | [],k,d,i => fl 0 k ++ (fl 1 d ++ fl 2 i)
  | x :: us,k,d,i => if x = 0 then fl 1 d ++ (fl 2 i ++ goU us (k + 1) 0 0) else fl 0 k ++ (if x = 1 then goU us 0 (d + 1) i else goU us 0 d (i + 1))
def nrmS (us : List Nat) : List Sp := goU us 0 0 0
theorem goU_keep : ∀ (n : Nat) (us : List Nat) (k d i : Nat),0 < n→(d = 0∧i = 0∨k = 0)→goU (replicate n 0 ++ us) k d i = fl 1 d ++ (fl 2 i ++ goU us (k + n) 0 0)
  | n + 1,us,k,d,i,_,h => by
    rw [List.replicate_succ,List.cons_append,goU,if_pos rfl]
    cases n with
    | zero => simp
    | succ n =>
      rw [goU_keep (n + 1) us (k + 1) 0 0 (by omega) (.inl ⟨rfl,rfl⟩)]
      simp
      rw [show k + 1 + (n + 1) = k + (n + 1 + 1) by omega]
theorem goU_del : ∀ (n : Nat) (us : List Nat) (k d i : Nat),0 < n→goU (replicate n 1 ++ us) k d i = fl 0 k ++ goU us 0 (d + n) i
  | n + 1,us,k,d,i,_ => by
    rw [List.replicate_succ,List.cons_append,goU,if_neg (by decide),if_pos rfl]
    cases n with
    | zero => simp
    | succ n =>
      rw [goU_del (n + 1) us 0 (d + 1) i (by omega)]
      simp
      rw [show d + 1 + (n + 1) = d + (n + 1 + 1) by omega]
theorem goU_ins : ∀ (n : Nat) (us : List Nat) (k d i : Nat),0 < n→goU (replicate n 2 ++ us) k d i = fl 0 k ++ goU us 0 d (i + n)
  | n + 1,us,k,d,i,_ => by
    rw [List.replicate_succ,List.cons_append,goU,if_neg (by decide),if_neg (by decide)]
    cases n with
    | zero => simp
    | succ n =>
      rw [goU_ins (n + 1) us 0 d (i + 1) (by omega)]
      simp
      rw [show i + 1 + (n + 1) = i + (n + 1 + 1) by omega]
def stpU (p q : Nat) : List Nat := if p < q then replicate (q - p - 1) 2 ++ [0] else [1]
def wayU (a b : List Int) : List Nat := (List.range a.length).flatMap (fun i => stpU (wayN a b i) (wayN a b (i + 1))) ++ replicate (b.length - wayN a b a.length) 2
theorem flatMap_range_add {α : Type} (f : Nat→List α) (m n : Nat) : (List.range (m + n)).flatMap f = (List.range m).flatMap f ++ (List.range n).flatMap (fun i => f (m + i)) := by
  rw [List.range_add,List.flatMap_append,List.flatMap_map]
theorem flatMap_range_congr {α : Type} {f g : Nat→List α} {n : Nat} (h : ∀ i,i < n→f i = g i) : (List.range n).flatMap f = (List.range n).flatMap g := by
  induction n with
  | zero => rfl
  | succ n ih =>
    rw [List.range_succ,List.flatMap_append,List.flatMap_append,ih fun i hi => h i (by omega)]
    simp [h n (by omega)]
theorem stpU_add (p q t : Nat) : stpU (p + t) (q + t) = stpU p q := by
  unfold stpU
  by_cases h : p < q
  · rw [if_pos h,if_pos (by omega),show q + t - (p + t) - 1 = q - p - 1 by omega]
  · rw [if_neg h,if_neg (by omega)]
theorem wayU_half (a b : List Int) {h : Nat} (hh : h≤a.length) : wayU a b = wayU (a.take h) (b.take (wayN a b h)) ++ wayU (a.drop h) (b.drop (wayN a b h)) := by
  obtain ⟨g1,g2,g3⟩ := way_on (a := a) (b := b) hh
  have la : (a.take h).length = h := by simp; omega
  have lb : (b.take (wayN a b h)).length = wayN a b h := by simp; omega
  have ld : (a.drop h).length = a.length - h := by simp
  have le : (b.drop (wayN a b h)).length = b.length - wayN a b h := by simp
  have e1 : wayU (a.take h) (b.take (wayN a b h)) = (List.range h).flatMap fun i => stpU (wayN a b i) (wayN a b (i + 1)) := by
    unfold wayU
    rw [la,lb,way_fst (Nat.le_refl _) hh,Nat.sub_self,List.replicate_zero,List.append_nil]
    exact flatMap_range_congr fun i hi => by rw [way_fst (by omega) hh,way_fst (by omega) hh]
  have e2 : wayU (a.drop h) (b.drop (wayN a b h)) = (List.range (a.length - h)).flatMap (fun i => stpU (wayN a b (h + i)) (wayN a b (h + i + 1))) ++ replicate (b.length - wayN a b a.length) 2 := by
    unfold wayU
    rw [ld,le]
    have hw := way_snd (a := a) (b := b) (h := h) (i := a.length - h) (by omega)
    rw [show h + (a.length - h) = a.length by omega] at hw
    congr 1
    · refine flatMap_range_congr fun i hi => ?_
      have w1 := way_snd (a := a) (b := b) (h := h) (i := i) (by omega)
      have w2 := way_snd (a := a) (b := b) (h := h) (i := i + 1) (by omega)
      rw [← stpU_add _ _ (wayN a b h),w1,w2]
      rfl
    · congr 1; omega
  rw [e1,e2,← List.append_assoc]
  unfold wayU
  congr 1
  have := flatMap_range_add (fun i => stpU (wayN a b i) (wayN a b (i + 1))) h (a.length - h)
  rw [show h + (a.length - h) = a.length by omega] at this
  exact this
theorem wayU_nil (b : List Int) : wayU [] b = replicate b.length 2 := by
  unfold wayU
  simp [way_zero]
theorem wayU_nil' (a : List Int) : wayU a [] = replicate a.length 1 := by
  have h : ∀ i,i≤a.length→wayN a [] i = 0 := fun i hi => by have := (way_on (a := a) (b := []) hi).2.1; simpa using this
  unfold wayU
  rw [h _ (Nat.le_refl _)]
  simp
  rw [flatMap_range_congr (g := fun _ => [1]) fun i hi => by rw [h i (by omega),h (i + 1) (by omega)]; rfl]
  generalize a.length = n
  induction n with
  | zero => rfl
  | succ n ih => rw [List.range_succ,List.flatMap_append,ih,List.replicate_succ']; simp
def fstI (x : Int) : List Int→Nat
  | [] => 0
  | y :: b => if x = y then 0 else fstI x b + 1
theorem fstI_le (x : Int) : ∀ b,fstI x b≤b.length
  | [] => by simp [fstI]
  | y :: b => by
    have := fstI_le x b
    unfold fstI
    split <;> simp <;> omega
theorem fstI_at (x : Int) : ∀ {b},(h : fstI x b < b.length)→b[fstI x b] = x
  | [],h => by simp [fstI] at h
  | y :: b,h => by
    unfold fstI at h
    by_cases e : x = y
    · simp [fstI,e]
    · rw [if_neg e] at h
      simp only [fstI,if_neg e,List.getElem_cons_succ]
      exact fstI_at x (by simpa using h)
theorem fstI_not (x : Int) : ∀ {b : List Int} {j : Nat},j≤fstI x b→x ∉ b.take j
  | [],j,h => by simp
  | y :: b,0,h => by simp
  | y :: b,j + 1,h => by
    unfold fstI at h
    by_cases e : x = y
    · rw [if_pos e] at h; omega
    · rw [if_neg e] at h
      simp [e,fstI_not x (b := b) (j := j) (by omega)]
theorem lcs_one (x : Int) (b : List Int) : lcsL [x] b = if x ∈ b then 1 else 0 := by
  unfold lcsL
  cases e : aft x b with
  | none => simp [aft_none e]
  | some b' =>
    obtain ⟨b0,rfl,_⟩ := aft_has e
    simp
theorem way_one (x : Int) (b : List Int) : wayN [x] b 1 = if fstI x b < b.length then fstI x b + 1 else 0 := by
  have on : ∀ j,onW [x] b 1 j = decide ((if x ∈ b.take j then 1 else 0) = if x ∈ b then 1 else 0) := fun j => by
    unfold onW cmn
    rw [lcs_one]
    simp [sg_zero,sg_nil,lcs_one,sg]
  have hle := fstI_le x b
  by_cases h : fstI x b < b.length
  · rw [if_pos h]
    have hx : x ∈ b := by rw [← fstI_at x h]; exact List.getElem_mem h
    refine way_is (by simp) (by omega) ?_ fun j hj => ?_
    · rw [on,if_pos hx,if_pos ?_]
      · rfl
      · rw [List.take_succ_eq_append_getElem h,fstI_at x h]; simp
    · rw [on,if_pos hx,if_neg (fstI_not x (by omega))]
      rfl
  · rw [if_neg h]
    refine way_is (by simp) (by omega) ?_ fun j hj => by omega
    rw [on,if_neg (by simp),if_neg ?_]
    · rfl
    · have := fstI_not x (b := b) (j := b.length) (by omega)
      rwa [List.take_of_length_le (Nat.le_refl _)] at this
theorem wayU_one (x : Int) (b : List Int) : wayU [x] b = if fstI x b < b.length then replicate (fstI x b) 2 ++ (0 :: replicate (b.length - fstI x b - 1) 2) else 1 :: replicate b.length 2 := by
  unfold wayU
  have : (List.range [x].length) = [0] := rfl
  rw [this,show [x].length = 1 from rfl,way_one]
  simp only [List.flatMap_cons,List.flatMap_nil,List.append_nil,way_zero,Nat.zero_add]
  rw [way_one]
  split
  · unfold stpU
    rw [if_pos (by omega),show fstI x b + 1 - 0 - 1 = fstI x b by omega,show b.length - (fstI x b + 1) = b.length - fstI x b - 1 by omega]
    simp
  · simp [stpU]
def mcost (a b : List Int) (i j : Nat) : Nat := i + j - 2 * lcsL (a.take i) (b.take j)
theorem mcost_lcs (a b : List Int) (i j : Nat) : lcsL (a.take i) (b.take j)≤i∧lcsL (a.take i) (b.take j)≤j := by
  have h := lcs_len (a.take i) (b.take j)
  simp at h
  omega
theorem mcost_diag (a b : List Int) (i j : Nat) : i≤j + mcost a b i j∧j≤i + mcost a b i j := by
  have h := mcost_lcs a b i j
  unfold mcost
  omega
theorem take_succ_end {l : List Int} {i : Nat} (h : l.length≤i) : l.take (i + 1) = l.take i := by
  rw [List.take_of_length_le (by omega),List.take_of_length_le h]
theorem mcost_step {a b : List Int} {i j : Nat} (h : ¬ ∃ (h1 : i < a.length) (h2 : j < b.length),a[i] = b[j]) : mcost a b (i + 1) (j + 1) = mcost a b i (j + 1) + 1∨mcost a b (i + 1) (j + 1) = mcost a b (i + 1) j + 1 := by
  have g1 := mcost_lcs a b i (j + 1)
  have g2 := mcost_lcs a b (i + 1) j
  have g3 := mcost_lcs a b (i + 1) (j + 1)
  unfold mcost
  by_cases h1 : i < a.length
  · by_cases h2 : j < b.length
    · have hne : a[i] ≠ b[j] := fun e => h ⟨h1,h2,e⟩
      have e := lcs_snoc_else hne (a.take i) (b.take j)
      rw [← List.take_succ_eq_append_getElem h1,← List.take_succ_eq_append_getElem h2] at e
      omega
    · rw [take_succ_end (l := b) (by omega)] at *
      omega
  · rw [take_succ_end (l := a) (by omega)] at *
    omega
theorem mcost_same {a b : List Int} {i j : Nat} (h1 : i < a.length) (h2 : j < b.length) (h : a[i] = b[j]) : mcost a b (i + 1) (j + 1) = mcost a b i j := by
  have g := mcost_lcs a b i j
  unfold mcost
  rw [List.take_succ_eq_append_getElem h1,List.take_succ_eq_append_getElem h2,h,lcs_snoc_same]
  omega
theorem mcost_del (a b : List Int) (i j : Nat) : mcost a b (i + 1) j≤mcost a b i j + 1 := by
  have : lcsL (a.take i) (b.take j)≤lcsL (a.take (i + 1)) (b.take j) := lcs_sub (List.take_sublist_take_left (by omega)) (List.Sublist.refl _)
  unfold mcost
  omega
theorem mcost_ins (a b : List Int) (i j : Nat) : mcost a b i (j + 1)≤mcost a b i j + 1 := by
  have : lcsL (a.take i) (b.take j)≤lcsL (a.take i) (b.take (j + 1)) := lcs_sub (List.Sublist.refl _) (List.take_sublist_take_left (by omega))
  unfold mcost
  omega
def distL (a b : List Int) : Nat := a.length + b.length - 2 * lcsL a b
theorem dist_eq (a b : List Int) : mcost a b a.length b.length = distL a b := by simp [mcost,distL]
theorem dist_le {a b : List Int} {i j : Nat} (h1 : a.length≤i) (h2 : b.length≤j) : distL a b≤mcost a b i j := by
  unfold mcost distL
  rw [List.take_of_length_le h1,List.take_of_length_le h2]
  omega
structure FarG (a b : List Int) (c d p x : Nat) : Prop where
  on : p≤x + c
  may : mcost a b x (x + c - p)≤d
  most : ∀ i j,i + c = j + p→mcost a b i j≤d→i≤x
structure FarS (a b : List Int) (c d p x : Nat) : Prop where
  on : p≤x + c
  may : mcost a b x (x + c - p)≤d
  most : ∀ i j,i + c = j + p→mcost a b i j≤d→i≤x∨∃ i' j',i = i' + 1∧j = j' + 1∧(∃ (h1 : i' < a.length) (h2 : j' < b.length),a[i'] = b[j'])∧mcost a b i' j'≤d
theorem far_zero (a b : List Int) (c : Nat) : FarS a b c 0 c 0 := by
  refine ⟨by omega,by simp [mcost],fun i j h hm => ?_⟩
  have : i = j := by omega
  subst this
  cases i with
  | zero => exact .inl (by omega)
  | succ i =>
    right
    refine ⟨i,i,rfl,rfl,?_⟩
    by_cases hs : ∃ (h1 : i < a.length) (h2 : i < b.length),a[i] = b[i]
    · obtain ⟨h1,h2,e⟩ := hs
      rw [mcost_same h1 h2 e] at hm
      exact ⟨⟨h1,h2,e⟩,hm⟩
    · have := mcost_step hs
      omega
theorem far_step {a b : List Int} {c d p x : Nat} (hc : d + 1≤c) (hp1 : c≤p + (d + 1)) (hp2 : p≤c + (d + 1)) (hp0 : 1≤p) {y z : Nat} (hy : p + (d + 1) ≠ c→FarG a b c d (p - 1) y) (hz : p ≠ c + (d + 1)→FarG a b c d (p + 1) z)
    (hx : (p + (d + 1) ≠ c∧x = y + 1)∨(p ≠ c + (d + 1)∧x = z)) (hxy : p + (d + 1) ≠ c→y + 1≤x) (hxz : p ≠ c + (d + 1)→z≤x) : FarS a b c (d + 1) p x := by
  have on : p≤x + c∧mcost a b x (x + c - p)≤d + 1 := by
    rcases hx with ⟨h,rfl⟩ | ⟨h,rfl⟩
    · have g := hy h
      have g1 := g.on
      have g2 := g.may
      have := mcost_del a b y (y + c - (p - 1))
      refine ⟨by omega,?_⟩
      rw [show y + 1 + c - p = y + c - (p - 1) by omega]
      omega
    · have g := hz h
      have g1 := g.on
      have g2 := g.may
      have := mcost_ins a b x (x + c - (p + 1))
      refine ⟨by omega,?_⟩
      rw [show x + c - p = x + c - (p + 1) + 1 by omega]
      omega
  refine ⟨on.1,on.2,fun i j h hm => ?_⟩
  cases i with
  | zero => exact .inl (by omega)
  | succ i =>
    cases j with
    | zero => exact .inl (by omega)
    | succ j =>
      by_cases hs : ∃ (h1 : i < a.length) (h2 : j < b.length),a[i] = b[j]
      · obtain ⟨h1,h2,e⟩ := hs
        rw [mcost_same h1 h2 e] at hm
        exact .inr ⟨i,j,rfl,rfl,⟨h1,h2,e⟩,hm⟩
      · left
        rcases mcost_step hs with e | e
        · have hd := mcost_diag a b i (j + 1)
          have hne : p + (d + 1) ≠ c := fun h' => by omega
          have := (hy hne).most i (j + 1) (by omega) (by omega)
          have := hxy hne
          omega
        · have hd := mcost_diag a b (i + 1) j
          have hne : p ≠ c + (d + 1) := fun h' => by omega
          have := (hz hne).most (i + 1) j (by omega) (by omega)
          have := hxz hne
          omega
theorem far_go {a b : List Int} {c d p x : Nat} (h : FarS a b c d p x) {y : Nat} (hy : x + c = y + p) (h1 : x < a.length) (h2 : y < b.length) (e : a[x] = b[y]) : FarS a b c d p (x + 1) := by
  have hm := h.may
  rw [show x + c - p = y by omega] at hm
  refine ⟨by omega,?_,fun i j hij hc => ?_⟩
  · rw [show x + 1 + c - p = y + 1 by omega,mcost_same h1 h2 e]
    exact hm
  · rcases h.most i j hij hc with k | k
    · exact .inl (by omega)
    · exact .inr k
theorem far_end {a b : List Int} {c d p x : Nat} (h : FarS a b c d p x) {y : Nat} (hy : x + c = y + p) (hs : ¬ ∃ (h1 : x < a.length) (h2 : y < b.length),a[x] = b[y]) : FarG a b c d p x := by
  refine ⟨h.on,h.may,fun i => ?_⟩
  induction i with
  | zero => intro j _ _; omega
  | succ i ih =>
    intro j hij hc
    rcases h.most _ _ hij hc with k | ⟨i',j',e1,e2,k,km⟩
    · exact k
    · have e1 : i = i' := by omega
      subst e1
      have := ih j' (by omega) km
      by_cases e : i = x
      · subst e
        have : j' = y := by omega
        subst this
        exact absurd k hs
      · omega
theorem far_done {a b : List Int} {c d p x y : Nat} (h : FarG a b c d p x) (hy : x + c = y + p) (h1 : a.length≤x) (h2 : b.length≤y) : distL a b≤d := by
  have := h.may
  rw [show x + c - p = y by omega] at this
  have := dist_le (a := a) (b := b) h1 h2
  omega
theorem far_comes {a b : List Int} {c d p x y : Nat} (h : FarG a b c d p x) (hy : x + c = y + p) (hp : a.length + c = b.length + p) (hd : distL a b≤d) : a.length≤x∧b.length≤y := by
  have := h.most a.length b.length hp (by rw [dist_eq]; exact hd)
  omega
theorem dist_diag (a b : List Int) : a.length≤b.length + distL a b∧b.length≤a.length + distL a b∧(a.length + b.length + distL a b) % 2 = 0 := by
  have h := lcs_len a b
  unfold distL
  omega
end Go.PL
namespace Go.Proofs.YtmeldaflhkiopaaGreat
set_option linter.unusedVariables false
set_option linter.unusedSimpArgs false
open Go Go.G Go.Proofs Go.PL
def fnL (f : Nat→Int) (n : Nat) : List A := (List.range n).map fun q => iv (f q)
@[simp] theorem fnL_len {f : Nat→Int} {n : Nat} : (fnL f n).length = n := by simp [fnL]
@[simp] theorem fnL_get {f : Nat→Int} {n k : Nat} (h : k < n) : (fnL f n)[k]? = some (iv (f k)) := by simp [fnL,h]
@[simp] theorem fnL_at {f : Nat→Int} {n k : Nat} (h : k < (fnL f n).length) : (fnL f n)[k] = iv (f k) := by simp [fnL]
@[simp] theorem fnL_set {f : Nat→Int} {n k : Nat} {z : Int} : (fnL f n).set k (iv z) = fnL (fun q => if q = k then z else f q) n := by
  apply List.ext_getElem?
  intro i
  rw [List.getElem?_set]
  by_cases hi : i < n
  · rw [fnL_get hi]
    by_cases e : k = i
    · subst e; simp [hi,fnL_get hi]
    · rw [if_neg e,fnL_get hi,if_neg (Ne.symm e)]
  · rw [List.getElem?_eq_none (l := fnL _ n) (by simp; omega)]
    split
    · rename_i e; rw [if_neg (by simp; omega),List.getElem?_eq_none (by simp; omega)]
    · rw [List.getElem?_eq_none (by simp; omega)]
theorem fnL_zero {n : Nat} : List.replicate n (iv 0) = fnL (fun _ => 0) n := by
  apply List.ext_getElem?
  intro i
  by_cases hi : i < n
  · rw [fnL_get hi]; simp [hi]
  · rw [List.getElem?_eq_none (by simp; omega),List.getElem?_eq_none (by simp; omega)]
theorem fnL_congr {f g : Nat→Int} {n : Nat} (h : ∀ q,q < n→f q = g q) : fnL f n = fnL g n := by
  unfold fnL
  exact List.map_congr_left fun q hq => by rw [h q (by simpa using hq)]
theorem fnL_list (l : List Int) : l.map iv = fnL (fun q => l.getD q 0) l.length := by
  apply List.ext_getElem?
  intro i
  by_cases hi : i < l.length
  · rw [fnL_get hi]; simp [hi]
  · rw [List.getElem?_eq_none (by simp; omega),List.getElem?_eq_none (by simp; omega)]
theorem frz_fnL {H : Hp} {o : Nm} {u n : Nat} {f : Nat→Int} (h : H o = ⟨u,.arr 1 (fnL f n)⟩) : Frz H (.osl o u 1 0 n) (.sl false (fnL f n)) := by
  have := frz_row (H := H) (o := o) (u := u) (sz := 1) (l := List.range n) (f := fun q => iv (f q)) (n := n) (by rw [h]; simp [fnL]) (by simp) (fun x => rfl)
  exact this
theorem soft_iv18 (l : List Int) : A.softL (l.map iv) = l.map iv := by rw [softL_map,List.map_map]; rfl
theorem soft_iv_take (l : List Int) (n : Nat) : A.softL ((l.map iv).take n) = (l.map iv).take n := by rw [← List.map_take,soft_iv18]
theorem soft_iv_drop (l : List Int) (n : Nat) : A.softL ((l.map iv).drop n) = (l.map iv).drop n := by rw [← List.map_drop,soft_iv18]
theorem reach_spec {f : Nat→Int} {n k : Nat} {lo hi : Bool} (hk : 1≤k) (hk2 : k + 1 < n) (hn : n≤100000000) (hf : ∀ q,-1000000000≤f q∧f q≤1000000000) : G.Spec Tryz.prog 104 [.sl false (fnL f n),iv k,bv lo,bv hi] (iv (if lo = true∧hi = true then 0 else if lo = true∨(hi = false∧f (k - 1) < f (k + 1)) then f (k + 1) else f (k - 1) + 1)) := by
  have e1 : IntKind.i64.wrap ((k : Int) - 1) = ((k - 1 : Nat) : Int) := by rw [i64_same (by omega) (by omega)]; omega
  have e2 : IntKind.i64.wrap ((k : Int) + 1) = ((k + 1 : Nat) : Int) := by rw [i64_same (by omega) (by omega)]; omega
  have h1 := hf (k - 1)
  have e3 : IntKind.i64.wrap (f (k - 1) + 1) = f (k - 1) + 1 := i64_same (by omega) (by omega)
  have g1 : (fnL f n)[k - 1]? = some (iv (f (k - 1))) := fnL_get (by omega)
  have g2 : (fnL f n)[k + 1]? = some (iv (f (k + 1))) := fnL_get hk2
  have b1 : k - 1 < n := by omega
  have b2 : (0 : Int)≤(k : Int) + 1 := by omega
  have b3 : (k : Int) + 1 < n := by omega
  refine spec_of t_lcs_reach (by simp) fun w0 I0 => ?_
  unfold c_lcs_reach
  cases lo <;> cases hi
  · by_cases h : f (k - 1) < f (k + 1)
    · simp [e1,e2,e3,g1,g2,h,b1,b2,b3,hk2]
      exact frz_bare rfl
    · simp [e1,e2,e3,g1,g2,h,b1,b2,b3,hk2]
      exact frz_int rfl
  · simp [e1,e2,e3,g1,g2,b1,b2,b3,hk2]
    exact frz_bare rfl
  · simp [e1,e2,e3,g1,g2,b1,b2,b3,hk2]
    exact frz_bare rfl
  · simp
    exact frz_bare rfl
section
variable {n0 : Nat} {w0 : World} {I0 : Nat→Prop} {Q : Exit→Sta→Prop}
theorem row_l1 {a b : List Int} {i u : Nat} {x : Int} (hi : i < a.length) (hx : a[i] = x) (hb : b.length≤1000000) : ∀ (m j : Nat) (f : Nat→Int) (H : Hp),j + m = b.length→(∀ q,q≤b.length→f q = if q≤j then (lcsL (a.take (i + 1)) (b.take q) : Nat) else (lcsL (a.take i) (b.take q) : Nat))→H [0] = ⟨u,.arr 1 (fnL f (b.length + 1))⟩ →
    (∀ (f' : Nat→Int) (z : Int) (H' : Hp) (st : List (Nat × A)),(∀ q,q≤b.length→f' q = (lcsL (a.take (i + 1)) (b.take q) : Nat))→H' [0] = ⟨u,.arr 1 (fnL f' (b.length + 1))⟩→Q (.exit 2) ⟨lk ([(1,ivs b),(5,.osl [0] u 1 0 (b.length + 1)),(7,iv x),(8,iv z),(16,ivs a),(17,iv a.length),(18,iv i)] ++ st),H'⟩) →
    LoopC (cx Tryz.prog w0 I0 n0) l1_lcs_row Q ⟨lk [(1,ivs b),(5,.osl [0] u 1 0 (b.length + 1)),(7,iv x),(8,iv (lcsL (a.take i) (b.take j) : Nat)),(16,ivs a),(17,iv a.length),(18,iv i),(22,ivs b),(23,iv b.length),(24,iv j)],H⟩ := by
  intro m
  induction m with
  | zero =>
    intro j f H hm hf hH hq
    refine loopC_once mixed l1_lcs_row.eq_1 ?_
    have : j = b.length := by omega
    subst this
    simp
    exact hq f _ H [(22,ivs b),(23,iv b.length),(24,iv b.length),(25,bv false)] (fun q hq => by rw [hf q hq,if_pos hq]) hH
  | succ m ih =>
    intro j f H hm hf hH hq
    have hj : j < b.length := by omega
    have e1 : IntKind.i64.wrap ((j : Int) + 1) = ((j + 1 : Nat) : Int) := by rw [i64_same (by omega) (by omega)]; omega
    have g1 : (fnL f (b.length + 1))[j]? = some (iv (f j)) := fnL_get (by omega)
    have g2 : (fnL f (b.length + 1))[j + 1]? = some (iv (f (j + 1))) := fnL_get (by omega)
    have f1 := hf j (by omega)
    have f2 := hf (j + 1) (by omega)
    rw [if_pos (Nat.le_refl _)] at f1
    rw [if_neg (by omega)] at f2
    have m0 : (0 : Int)≤(j : Int) + 1 := by omega
    have m1 : (j : Int) < (b.length : Int) + 1 := by omega
    have ll := lcs_len (a.take i) (b.take j)
    simp at ll
    have e2 : IntKind.i64.wrap ((lcsL (a.take i) (b.take j) : Nat) + 1) = ((lcsL (a.take i) (b.take j) + 1 : Nat) : Int) := by rw [i64_same (by omega) (by omega)]; omega
    have tk : a.take (i + 1) = a.take i ++ [x] := by rw [List.take_succ_eq_append_getElem hi,hx]
    have tj : b.take (j + 1) = b.take j ++ [b[j]] := List.take_succ_eq_append_getElem hj
    have next : ∀ (z : Int) (f' : Nat→Int),z = (lcsL (a.take (i + 1)) (b.take (j + 1)) : Nat)→(∀ q,q ≠ j + 1→f' q = f q)→f' (j + 1) = z→LoopC (cx Tryz.prog w0 I0 n0) l1_lcs_row Q ⟨lk [(1,ivs b),(5,.osl [0] u 1 0 (b.length + 1)),(7,iv x),(8,iv (lcsL (a.take i) (b.take (j + 1)) : Nat)),(16,ivs a),(17,iv a.length),(18,iv i),(22,ivs b),(23,iv b.length),(24,iv (j + 1 : Nat))],updF H [0] ⟨u,.arr 1 (fnL f' (b.length + 1))⟩⟩ := fun z f' hz h1 h2 => by
      refine ih (j + 1) f' _ (by omega) (fun q hq => ?_) (by simp [updF_app]) hq
      by_cases e : q = j + 1
      · subst e; rw [if_pos (Nat.le_refl _),h2,hz]
      · rw [h1 q e,hf q hq]
        by_cases h3 : q≤j
        · rw [if_pos h3,if_pos (by omega)]
        · rw [if_neg h3,if_neg (by omega)]
    refine loopC_once mixed l1_lcs_row.eq_1 ?_
    by_cases h : x = b[j]
    · simp [hj,h,e1,g2,hH,m0,m1]
      rw [k1_lcs_row.eq_1]
      have hjb : j < b.length + 1 := by omega
      simp [hj,h,e1,hjb,hH,m0,m1,updF_app,e2]
      rw [f2,← h]
      have e := lcs_snoc_same x (a.take i) (b.take j)
      have e' := lcs_snoc_le x (a.take i) (b.take j)
      rw [← tk] at e e'
      rw [h,← tj] at e
      refine next _ _ rfl (fun q hq => by simp [hq]) ?_
      simp
      rw [f1,e]
      omega
    · simp [hj,h,e1,g2,hH,m0,m1]
      rw [k1_lcs_row.eq_1]
      have hjb : j < b.length + 1 := by omega
      simp [hj,h,e1,hjb,hH,m0,m1]
      rw [f2]
      have e := lcs_snoc_else h (a.take i) (b.take j)
      rw [← tj,← tk] at e
      refine next _ _ rfl (fun q hq => by simp [hq]) ?_
      simp
      rw [f1,e]
      omega
theorem row_l2 {a b : List Int} {u : Nat} (ha : a.length≤1000000) (hb : b.length≤1000000) (hq : ∀ (f' : Nat→Int) (H' : Hp) (st : List (Nat × A)),(∀ q,q≤b.length→f' q = (lcsL a (b.take q) : Nat))→H' [0] = ⟨u,.arr 1 (fnL f' (b.length + 1))⟩→Q (.exit 0) ⟨lk ([(1,ivs b),(5,.osl [0] u 1 0 (b.length + 1))] ++ st),H'⟩) : ∀ (m i : Nat) (f : Nat→Int) (H : Hp),i + m = a.length→(∀ q,q≤b.length→f q = (lcsL (a.take i) (b.take q) : Nat))→H [0] = ⟨u,.arr 1 (fnL f (b.length + 1))⟩ →
    LoopC (cx Tryz.prog w0 I0 n0) l2_lcs_row Q ⟨lk [(1,ivs b),(5,.osl [0] u 1 0 (b.length + 1)),(16,ivs a),(17,iv a.length),(18,iv i)],H⟩ := by
  intro m
  induction m with
  | zero =>
    intro i f H hm hf hH
    refine loopC_once mixed l2_lcs_row.eq_1 ?_
    have : i = a.length := by omega
    subst this
    simp
    exact hq f H [(16,ivs a),(17,iv a.length),(18,iv a.length),(19,bv false)] (fun q hq => by rw [hf q hq,List.take_of_length_le (Nat.le_refl _)]) hH
  | succ m ih =>
    intro i f H hm hf hH
    have hi : i < a.length := by omega
    have e1 : IntKind.i64.wrap ((i : Int) + 1) = ((i + 1 : Nat) : Int) := by rw [i64_same (by omega) (by omega)]; omega
    refine loopC_once mixed l2_lcs_row.eq_1 ?_
    simp [hi]
    refine LoopC.le (le_list [(1,ivs b),(5,.osl [0] u 1 0 (b.length + 1)),(7,iv a[i]),(8,iv (lcsL (a.take i) (b.take 0) : Nat)),(16,ivs a),(17,iv a.length),(18,iv i),(22,ivs b),(23,iv b.length),(24,iv (0 : Nat))] (by simp)) ?_
    refine row_l1 hi rfl hb b.length 0 f H (by omega) (fun q hq => ?_) hH fun f' z H' st h1 h2 => ?_
    · rw [hf q hq]
      by_cases h0 : q≤0
      · have : q = 0 := by omega
        subst this; simp
      · rw [if_neg h0]
    · simp [e1]
      exact ih (i + 1) f' H' (by omega) h1 h2
theorem turned_l1 {l : List Int} {u : Nat} (hl : l.length≤1000000) (hq : ∀ (f' : Nat→Int) (H' : Hp) (st : List (Nat × A)),(∀ q,q < l.length→f' q = l.getD (l.length - 1 - q) 0)→H' [0] = ⟨u,.arr 1 (fnL f' l.length)⟩→Q (.exit 0) ⟨lk ([(0,ivs l),(3,.osl [0] u 1 0 l.length)] ++ st),H'⟩) : ∀ (m i : Nat) (f : Nat→Int) (H : Hp),i + m = l.length→(∀ q,q < l.length→l.length≤q + i→f q = l.getD (l.length - 1 - q) 0)→H [0] = ⟨u,.arr 1 (fnL f l.length)⟩ →
    LoopC (cx Tryz.prog w0 I0 n0) l1_lcs_turned Q ⟨lk [(0,ivs l),(3,.osl [0] u 1 0 l.length),(9,ivs l),(10,iv l.length),(11,iv i)],H⟩ := by
  intro m
  induction m with
  | zero =>
    intro i f H hm hf hH
    refine loopC_once mixed l1_lcs_turned.eq_1 ?_
    have : i = l.length := by omega
    subst this
    simp
    exact hq f H [(9,ivs l),(10,iv l.length),(11,iv l.length),(12,bv false)] (fun q hq => hf q hq (by omega)) hH
  | succ m ih =>
    intro i f H hm hf hH
    have hi : i < l.length := by omega
    have e1 : IntKind.i64.wrap ((i : Int) + 1) = ((i + 1 : Nat) : Int) := by rw [i64_same (by omega) (by omega)]; omega
    have e2 : IntKind.i64.wrap (IntKind.i64.wrap ((l.length : Int) - 1) - i) = ((l.length - 1 - i : Nat) : Int) := by rw [i64_same (n := (l.length : Int) - 1) (by omega) (by omega),i64_same (by omega) (by omega)]; omega
    have b1 : l.length - 1 - i < l.length := by omega
    refine loopC_once mixed l1_lcs_turned.eq_1 ?_
    simp [hi,e1,e2,hH,b1]
    refine ih (i + 1) _ _ (by omega) (fun q hq1 hq2 => ?_) (by simp [updF_app]; rfl)
    by_cases e : q = l.length - 1 - i
    · rw [if_pos e]
      have : l.length - 1 - q = i := by omega
      rw [this]
      simp [List.getD_eq_getElem?_getD,hi]
    · rw [if_neg e]
      exact hf q hq1 (by omega)
end
theorem row_spec18 {a b : List Int} (ha : a.length≤1000000) (hb : b.length≤1000000) : G.Spec Tryz.prog 119 [ivs a,ivs b] (.sl false (fnL (fun q => (lcsL a (b.take q) : Nat)) (b.length + 1))) := by
  have e1 : IntKind.i64.wrap ((b.length : Int) + 1) = ((b.length + 1 : Nat) : Int) := by rw [i64_same (by omega) (by omega)]; omega
  refine spec_of t_lcs_row (by simp) fun w0 I0 => ?_
  unfold c_lcs_row
  simp [e1]
  refine ⟨by omega,?_⟩
  refine LoopC.le (le_list [(1,ivs b),(5,.osl [0] 1 1 0 (b.length + 1)),(16,ivs a),(17,iv a.length),(18,iv (0 : Nat))] (by simp)) ?_
  refine row_l2 ha hb (fun f' H' st h1 h2 => ?_) a.length 0 (fun _ => 0) _ (by omega) (fun q hq => by simp) (by simp [fnL_zero])
  simp
  rw [← fnL_congr fun q hq => h1 q (by omega)]
  exact frz_fnL h2
theorem turned_spec {l : List Int} (hl : l.length≤1000000) : G.Spec Tryz.prog 120 [ivs l] (ivs l.reverse) := by
  refine spec_of t_lcs_turned (by simp) fun w0 I0 => ?_
  unfold c_lcs_turned
  simp
  refine ⟨by omega,?_⟩
  refine LoopC.le (le_list [(0,ivs l),(3,.osl [0] 1 1 0 l.length),(9,ivs l),(10,iv l.length),(11,iv (0 : Nat))] (by simp)) ?_
  refine turned_l1 hl (fun f' H' st h1 h2 => ?_) l.length 0 (fun _ => 0) _ (by omega) (fun q hq => by omega) (by simp [fnL_zero])
  simp
  have e : l.reverse.map iv = fnL f' l.length := by
    rw [fnL_list,List.length_reverse]
    refine fnL_congr fun q hq => ?_
    rw [h1 q hq]
    simp [List.getD_eq_getElem?_getD,List.getElem?_reverse hq]
  have e' : ivs l.reverse = .sl false (fnL f' l.length) := by rw [← e]
  rw [e']
  exact frz_fnL h2
theorem split_l1 {n0 : Nat} {w0 : World} {I0 : Nat→Prop} {Q : Exit→Sta→Prop} {a b : List Int} {half : Nat} (hh : half≤a.length) (hb : b.length≤1000000) {H : Hp} {f g : Nat→Int} (hf : ∀ q,q≤b.length→f q = (cmn a b 0 half 0 q : Nat)) (hg : ∀ q,q≤b.length→g (b.length - q) = (cmn a b half a.length q b.length : Nat))
    (hq : ∀ st,Q (.exit 0) ⟨lk ([(1,ivs b),(7,.sl false (fnL f (b.length + 1))),(8,.sl false (fnL g (b.length + 1))),(9,iv (wayN a b half))] ++ st),H⟩) : ∀ (m i best : Nat),i + m = b.length + 1→best≤b.length→(∀ q,q < best→cmn a b 0 half 0 q + cmn a b half a.length q b.length < cmn a b 0 half 0 best + cmn a b half a.length best b.length)→(∀ q,q < i→cmn a b 0 half 0 q + cmn a b half a.length q b.length≤cmn a b 0 half 0 best + cmn a b half a.length best b.length) →
    LoopC (cx Tryz.prog w0 I0 n0) l1_lcs_split Q ⟨lk [(1,ivs b),(7,.sl false (fnL f (b.length + 1))),(8,.sl false (fnL g (b.length + 1))),(9,iv best),(24,iv (b.length + 1 : Nat)),(25,iv i)],H⟩ := by
  intro m
  induction m with
  | zero =>
    intro i best hm hbl h1 h2
    refine loopC_once mixed l1_lcs_split.eq_1 ?_
    have : i = b.length + 1 := by omega
    subst this
    have hw : wayN a b half = best := by
      obtain ⟨g1,g2,g3⟩ := way_on (a := a) (b := b) hh
      have hle := onW_le (a := a) (b := b) (i := half) (j := best) hh hbl
      have h3 := h2 (wayN a b half) (by omega)
      unfold onW at g1
      simp only [decide_eq_true_eq] at g1
      refine way_is hh hbl (by unfold onW; simp only [decide_eq_true_eq]; omega) fun j hj => ?_
      have := h1 j hj
      unfold onW
      simp only [decide_eq_false_iff_not]
      omega
    simp
    rw [← hw]
    exact hq [(24,iv (b.length + 1 : Nat)),(25,iv (b.length + 1 : Nat)),(26,bv false)]
  | succ m ih =>
    intro i best hm hbl h1 h2
    have hi : i < b.length + 1 := by omega
    have e1 : IntKind.i64.wrap ((i : Int) + 1) = ((i + 1 : Nat) : Int) := by rw [i64_same (by omega) (by omega)]; omega
    have e2 : IntKind.i64.wrap ((b.length : Int) - i) = ((b.length - i : Nat) : Int) := by rw [i64_same (by omega) (by omega)]; omega
    have e3 : IntKind.i64.wrap ((b.length : Int) - best) = ((b.length - best : Nat) : Int) := by rw [i64_same (by omega) (by omega)]; omega
    have fi := hf i (by omega)
    have gi := hg i (by omega)
    have fb := hf best hbl
    have gb := hg best hbl
    have l1 := lcs_len (sg a 0 half) (sg b 0 i)
    have l2 := lcs_len (sg a half a.length) (sg b i b.length)
    have l3 := lcs_len (sg a 0 half) (sg b 0 best)
    have l4 := lcs_len (sg a half a.length) (sg b best b.length)
    rw [sg_len _ _ _ hh,sg_len _ _ _ (by omega)] at l1
    rw [sg_len _ _ _ (by omega),sg_len _ _ _ (by omega)] at l2
    rw [sg_len _ _ _ hh,sg_len _ _ _ hbl] at l3
    rw [sg_len _ _ _ (by omega),sg_len _ _ _ (by omega)] at l4
    have e4 : IntKind.i64.wrap (f i + g (b.length - i)) = ((cmn a b 0 half 0 i + cmn a b half a.length i b.length : Nat) : Int) := by rw [fi,gi,i64_same (by unfold cmn; omega) (by unfold cmn; omega)]; omega
    have e5 : IntKind.i64.wrap (f best + g (b.length - best)) = ((cmn a b 0 half 0 best + cmn a b half a.length best b.length : Nat) : Int) := by rw [fb,gb,i64_same (by unfold cmn; omega) (by unfold cmn; omega)]; omega
    have b1 : b.length - i < b.length + 1 := by omega
    have b2 : b.length - best < b.length + 1 := by omega
    have b3 : best < b.length + 1 := by omega
    refine loopC_once mixed l1_lcs_split.eq_1 ?_
    have c1 : (i : Int) < (b.length : Int) + 1 := by omega
    have c2 : ((b.length - i : Nat) : Int) < (b.length : Int) + 1 := by omega
    have c3 : (best : Int) < (b.length : Int) + 1 := by omega
    have c4 : ((b.length - best : Nat) : Int) < (b.length : Int) + 1 := by omega
    by_cases h : (cmn a b 0 half 0 best : Int) + (cmn a b half a.length best b.length : Int) < (cmn a b 0 half 0 i : Int) + (cmn a b half a.length i b.length : Int)
    · simp [hi,e1,e2,e3,e4,e5,b1,b2,b3,h,c1,c2,c3,c4]
      refine ih (i + 1) i (by omega) (by omega) (fun q hq => ?_) (fun q hq => ?_)
      · have := h2 q hq; omega
      · by_cases e : q = i
        · subst e; omega
        · have := h2 q (by omega); omega
    · simp [hi,e1,e2,e3,e4,e5,b1,b2,b3,h,c1,c2,c3,c4]
      refine ih (i + 1) best (by omega) hbl h1 (fun q hq => ?_)
      by_cases e : q = i
      · subst e; omega
      · exact h2 q (by omega)
theorem split_spec {a b : List Int} {half : Nat} (hh : half≤a.length) (ha : a.length≤1000000) (hb : b.length≤1000000) : G.Spec Tryz.prog 107 [ivs a,ivs b,iv half] (iv (wayN a b half)) := by
  refine spec_of t_lcs_split (by simp) fun w0 I0 => ?_
  have s1 := row_spec18 (a := a.take half) (b := b) (by simp; omega) hb
  have s2 := turned_spec (l := a.drop half) (by simp; omega)
  have s3 := turned_spec (l := b) hb
  have s4 := row_spec18 (a := (a.drop half).reverse) (b := b.reverse) (by simp; omega) (by simpa using hb)
  rw [List.length_reverse] at s4
  unfold c_lcs_split
  simp [hh]
  refine sc_call (s1.soft (by simp [A.softL,A.soft,soft_iv18,soft_iv_take])) (by simp) ?_
  simp [hh]
  refine sc_call (s2.soft (by simp [A.softL,A.soft,soft_iv18,soft_iv_drop,List.take_of_length_le])) (by simp) ?_
  simp [hh]
  refine sc_call s3 (by simp) ?_
  simp [hh]
  refine sc_call s4 (by simp) ?_
  simp [hh]
  refine LoopC.le (le_list [(1,ivs b),(7,.sl false (fnL (fun q => (lcsL (a.take half) (b.take q) : Nat)) (b.length + 1))),(8,.sl false (fnL (fun q => (lcsL (a.drop half).reverse (b.reverse.take q) : Nat)) (b.length + 1))),(9,iv (0 : Nat)),(24,iv (b.length + 1 : Nat)),(25,iv (0 : Nat))] (by simp)) ?_
  refine split_l1 hh hb (fun q hq => by simp [cmn,sg_zero]) (fun q hq => ?_) (fun st => ?_) (b.length + 1) 0 0 (by omega) (by omega) (fun q hq => by omega) (fun q hq => by omega)
  · have e : b.reverse.take (b.length - q) = (b.drop q).reverse := by
      rw [List.take_reverse]
      congr 2
      omega
    show ((lcsL (a.drop half).reverse (b.reverse.take (b.length - q)) : Nat) : Int) = _
    rw [e,lcs_rev]
    simp [cmn,sg_end]
  · simp
    exact frz_bare rfl
theorem fars_bound {a b : List Int} {c d p x y : Nat} (h : FarS a b c d p x) (hy : x + c = y + p) : x≤d + a.length∧y≤d + b.length := by
  have h1 := h.may
  rw [show x + c - p = y by omega] at h1
  have h2 := lcs_len (a.take x) (b.take y)
  have h3 := mcost_lcs a b x y
  unfold mcost at h1
  simp at h2
  omega
theorem dist_x {a b : List Int} {M d p t : Nat} {f : Nat→Nat} (hd : d≤M) (ht : t≤d) (hp : p + d = M + 1 + 2 * t) (hold : ∀ p s,s < d→p + d = M + 1 + 1 + 2 * s→FarG a b (M + 1) (d - 1) p (f p)) : ∃ x : Nat,(if decide (t = 0) = true∧decide (t = d) = true then (0 : Int) else if decide (t = 0) = true∨(decide (t = d) = false∧((f (p - 1) : Nat) : Int) < (f (p + 1) : Nat)) then ((f (p + 1) : Nat) : Int) else ((f (p - 1) : Nat) : Int) + 1) = (x : Int)∧FarS a b (M + 1) d p x := by
  cases d with
  | zero =>
    have : t = 0 := by omega
    subst this
    have : p = M + 1 := by omega
    subst this
    exact ⟨0,by simp,far_zero a b (M + 1)⟩
  | succ d =>
    have hy : p + (d + 1) ≠ M + 1→FarG a b (M + 1) d (p - 1) (f (p - 1)) := fun h => hold (p - 1) (t - 1) (by omega) (by omega)
    have hz : p ≠ M + 1 + (d + 1)→FarG a b (M + 1) d (p + 1) (f (p + 1)) := fun h => hold (p + 1) t (by omega) (by omega)
    by_cases h0 : t = 0
    · exact ⟨f (p + 1),by simp [h0],far_step (by omega) (by omega) (by omega) (by omega) hy hz (.inr ⟨by omega,rfl⟩) (fun h => by omega) (fun h => Nat.le_refl _)⟩
    · by_cases h1 : t = d + 1
      · exact ⟨f (p - 1) + 1,by simp [h1],far_step (by omega) (by omega) (by omega) (by omega) hy hz (.inl ⟨by omega,rfl⟩) (fun h => Nat.le_refl _) (fun h => by omega)⟩
      · by_cases h2 : f (p - 1) < f (p + 1)
        · exact ⟨f (p + 1),by simp [h0,h1,h2],far_step (by omega) (by omega) (by omega) (by omega) hy hz (.inr ⟨by omega,rfl⟩) (fun h => by omega) (fun h => Nat.le_refl _)⟩
        · exact ⟨f (p - 1) + 1,by simp [h0,h1,h2],far_step (by omega) (by omega) (by omega) (by omega) hy hz (.inl ⟨by omega,rfl⟩) (fun h => Nat.le_refl _) (fun h => by omega)⟩
section
variable {n0 : Nat} {w0 : World} {I0 : Nat→Prop} {Q : Exit→Sta→Prop}
theorem dist_l1 {a b : List Int} (ha : a.length≤1000000) (hb : b.length≤1000000) {c d p : Nat} {X : A} {M k : Int} {H : Hp}
    (hq : ∀ (x y : Nat) st,FarS a b c d p x→FarG a b c d p x→x + c = y + p→Q (.exit 4) ⟨lk ([(0,ivs a),(1,ivs b),(2,iv M),(8,iv a.length),(9,iv b.length),(10,X),(11,iv d),(12,iv k),(13,iv x),(14,iv y)] ++ st),H⟩) : ∀ (m x y : Nat),a.length≤x + m→FarS a b c d p x→x + c = y + p →
    LoopC (cx Tryz.prog w0 I0 n0) l1_lcs_Distance Q ⟨lk [(0,ivs a),(1,ivs b),(2,iv M),(8,iv a.length),(9,iv b.length),(10,X),(11,iv d),(12,iv k),(13,iv x),(14,iv y)],H⟩ := by
  intro m
  induction m with
  | zero =>
    intro x y hm hS hy
    refine loopC_once mixed l1_lcs_Distance.eq_1 ?_
    simp [show ¬ x < a.length by omega]
    exact hq x y [(99,bv false)] hS (far_end hS hy fun ⟨h1,_,_⟩ => by omega) hy
  | succ m ih =>
    intro x y hm hS hy
    refine loopC_once mixed l1_lcs_Distance.eq_1 ?_
    by_cases h1 : x < a.length
    · by_cases h2 : y < b.length
      · have e1 : IntKind.i64.wrap ((x : Int) + 1) = ((x + 1 : Nat) : Int) := by rw [i64_same (by omega) (by omega)]; omega
        have e2 : IntKind.i64.wrap ((y : Int) + 1) = ((y + 1 : Nat) : Int) := by rw [i64_same (by omega) (by omega)]; omega
        by_cases h3 : a[x] = b[y]
        · simp [h1,h2,h3,e1,e2]
          exact ih (x + 1) (y + 1) (by omega) (far_go hS hy h1 h2 h3) (by omega)
        · simp [h1,h2,h3]
          exact hq x y [(99,bv false)] hS (far_end hS hy fun ⟨_,_,h⟩ => h3 h) hy
      · simp [h1,h2]
        exact hq x y [(99,bv false)] hS (far_end hS hy fun ⟨_,h,_⟩ => h2 h) hy
    · simp [h1]
      exact hq x y [(99,bv false)] hS (far_end hS hy fun ⟨h,_,_⟩ => h1 h) hy
theorem dist_l2 {a b : List Int} (ha : a.length≤1000000) (hb : b.length≤1000000) {M d u : Nat} (hM : M≤a.length + b.length) (hd : d≤M) (hdd : d≤distL a b)
    (hq : ∀ (f : Nat→Nat) (H : Hp) st,(∀ q,f q≤10000000)→(∀ p s,s≤d→p + d = M + 1 + 2 * s→FarG a b (M + 1) d p (f p))→d < distL a b→H [0] = ⟨u,.arr 1 (fnL (fun q => (f q : Nat)) (2 * M + 3))⟩→Q (.exit 2) ⟨lk ([(0,ivs a),(1,ivs b),(2,iv M),(8,iv a.length),(9,iv b.length),(10,.osl [0] u 1 0 (2 * M + 3)),(11,iv d)] ++ st),H⟩)
    (hq2 : ∀ H,d = distL a b→Q .ret ⟨lk [(6,iv d),(7,bv true)],H⟩) : ∀ (m t : Nat) (f : Nat→Nat) (H : Hp),t + m = d + 1→(∀ q,f q≤10000000) →
    (∀ p s,s < d→p + d = M + 1 + 1 + 2 * s→FarG a b (M + 1) (d - 1) p (f p))→(∀ p s,s < t→p + d = M + 1 + 2 * s→FarG a b (M + 1) d p (f p)∧¬ (a.length≤f p∧b.length + p≤f p + (M + 1)))→H [0] = ⟨u,.arr 1 (fnL (fun q => (f q : Nat)) (2 * M + 3))⟩ →
    LoopC (cx Tryz.prog w0 I0 n0) l2_lcs_Distance Q ⟨lk [(0,ivs a),(1,ivs b),(2,iv M),(8,iv a.length),(9,iv b.length),(10,.osl [0] u 1 0 (2 * M + 3)),(11,iv d),(12,iv (2 * (t : Int) - d))],H⟩ := by
  intro m
  induction m with
  | zero =>
    intro t f H hm hb0 hold hnew hH
    have : t = d + 1 := by omega
    subst this
    refine loopC_once mixed l2_lcs_Distance.eq_1 ?_
    have hk : ¬ (2 * ((d + 1 : Nat) : Int) - d≤d) := by omega
    simp only [Int.natCast_add,Int.cast_ofNat_Int] at hk
    simp [hk]
    refine hq f H _ hb0 (fun p s hs hp => (hnew p s (by omega) hp).1) ?_ hH
    by_cases h : d < distL a b
    · exact h
    · exfalso
      have hdg := dist_diag a b
      have he : distL a b = d := by omega
      rw [he] at hdg
      obtain ⟨p,hp⟩ : ∃ p,a.length + (M + 1) = b.length + p := ⟨a.length + (M + 1) - b.length,by omega⟩
      obtain ⟨s,hs⟩ : ∃ s,a.length + d = b.length + 2 * s := ⟨(a.length + d - b.length) / 2,by omega⟩
      obtain ⟨g1,g2⟩ := hnew p s (by omega) (by omega)
      have g3 := g1.on
      have := far_comes (y := f p + (M + 1) - p) g1 (by omega) hp (by omega)
      exact g2 ⟨this.1,by omega⟩
  | succ m ih =>
    intro t f H hm hb0 hold hnew hH
    have ht : t≤d := by omega
    obtain ⟨p,hp⟩ : ∃ p,p + d = M + 1 + 2 * t := ⟨M + 1 + 2 * t - d,by omega⟩
    have hk : (2 * (t : Int) - d≤d) := by omega
    have e0 : IntKind.i64.wrap ((M : Int) + 1) = (M : Int) + 1 := i64_same (by omega) (by omega)
    have e1 : IntKind.i64.wrap ((M : Int) + 1 + (2 * (t : Int) - d)) = (p : Int) := by rw [i64_same (by omega) (by omega)]; omega
    have e2 : IntKind.i64.wrap (2 * (t : Int) - d + 2) = 2 * ((t + 1 : Nat) : Int) - d := by rw [i64_same (by omega) (by omega)]; omega
    have e3 : IntKind.i64.wrap (-(d : Int)) = -(d : Int) := i64_same (by omega) (by omega)
    have lo : decide (2 * (t : Int) - d = -(d : Int)) = decide (t = 0) := by by_cases h : t = 0 <;> simp [h] <;> omega
    have hi : decide (2 * (t : Int) - d = (d : Int)) = decide (t = d) := by by_cases h : t = d <;> simp [h] <;> omega
    have hR := reach_spec (f := fun q => (f q : Nat)) (n := 2 * M + 3) (k := p) (lo := decide (t = 0)) (hi := decide (t = d)) (by omega) (by omega) (by omega) (fun q => by have := hb0 q; omega)
    -- the step's place
    obtain ⟨x,hx,hS⟩ := dist_x hd ht hp hold
    rw [hx] at hR
    have hon := hS.on
    obtain ⟨y,hy⟩ : ∃ y,x + (M + 1) = y + p := ⟨x + (M + 1) - p,by omega⟩
    have hbd := fars_bound hS hy
    have e4 : IntKind.i64.wrap ((x : Int) - (2 * (t : Int) - d)) = (y : Int) := by rw [i64_same (by omega) (by omega)]; omega
    refine loopC_once mixed l2_lcs_Distance.eq_1 ?_
    simp [hk,e0,e1,e3,lo,hi]
    refine sc_callb [.sl false (fnL (fun q => (f q : Nat)) (2 * M + 3)),iv p,bv (decide (t = 0)),bv (decide (t = d))] (hR.toB rfl) (by simp; exact ⟨frz_fnL hH,frz_bare rfl,frz_bare rfl,frz_bare rfl⟩) (by simp) ?_
    simp [e4]
    refine LoopC.le (le_list [(0,ivs a),(1,ivs b),(2,iv M),(8,iv a.length),(9,iv b.length),(10,.osl [0] u 1 0 (2 * M + 3)),(11,iv d),(12,iv (2 * (t : Int) - d)),(13,iv x),(14,iv y)] (by simp)) ?_
    refine dist_l1 ha hb (c := M + 1) (p := p) (fun x y st hS hG hy => ?_) a.length x y (by omega) hS hy
    have hbd := fars_bound hS hy
    have hpl : p < 2 * M + 3 := by omega
    have hpl' : (p : Int) < 2 * (M : Int) + 3 := by omega
    by_cases hdone : a.length≤x∧b.length≤y
    · have he := far_done hG hy hdone.1 hdone.2
      simp [hk,e0,e1,e3,lo,hi,hH,hpl,hpl',hdone.1,hdone.2]
      exact hq2 _ (by omega)
    · simp [hk,e0,e1,e2,hH,hpl,hpl']
      refine ⟨fun h1 h2 => absurd ⟨h1,h2⟩ hdone,fun _ => ?_⟩
      refine ih (t + 1) (fun q => if q = p then x else f q) _ (by omega) (fun q => ?_) (fun p' s hs hp' => ?_) (fun p' s hs hp' => ?_) ?_
      · show (if q = p then x else f q)≤_
        split
        · omega
        · exact hb0 q
      · show FarG a b (M + 1) (d - 1) p' (if p' = p then x else f p')
        rw [if_neg (by omega)]
        exact hold p' s hs hp'
      · show FarG a b (M + 1) d p' (if p' = p then x else f p')∧¬ (a.length≤(if p' = p then x else f p')∧b.length + p'≤(if p' = p then x else f p') + (M + 1))
        by_cases e : s = t
        · have : p' = p := by omega
          subst this
          rw [if_pos rfl]
          exact ⟨hG,fun h => hdone ⟨h.1,by omega⟩⟩
        · rw [if_neg (by omega)]
          exact hnew p' s (by omega) hp'
      · simp only [updF_app,if_true]
        congr 2
        refine fnL_congr fun q _ => ?_
        split <;> rfl
theorem dist_l3 {a b : List Int} (ha : a.length≤1000000) (hb : b.length≤1000000) {M u : Nat} (hM : M≤a.length + b.length)
    (hq : ∀ H st,M < distL a b→Q (.exit 0) ⟨lk st,H⟩) (hq2 : ∀ H,distL a b≤M→Q .ret ⟨lk [(6,iv (distL a b)),(7,bv true)],H⟩) : ∀ (m d : Nat) (f : Nat→Nat) (H : Hp),d + m = M + 1→(∀ q,f q≤10000000)→d≤distL a b →
    (∀ p s,s < d→p + d = M + 1 + 1 + 2 * s→FarG a b (M + 1) (d - 1) p (f p))→H [0] = ⟨u,.arr 1 (fnL (fun q => (f q : Nat)) (2 * M + 3))⟩ →
    LoopC (cx Tryz.prog w0 I0 n0) l3_lcs_Distance Q ⟨lk [(0,ivs a),(1,ivs b),(2,iv M),(8,iv a.length),(9,iv b.length),(10,.osl [0] u 1 0 (2 * M + 3)),(11,iv d)],H⟩ := by
  intro m
  induction m with
  | zero =>
    intro d f H hm hb0 hdd hold hH
    have : d = M + 1 := by omega
    subst this
    refine loopC_once mixed l3_lcs_Distance.eq_1 ?_
    have hk : ¬ (((M + 1 : Nat) : Int)≤M) := by omega
    simp only [Int.natCast_add,Int.cast_ofNat_Int] at hk
    simp [hk]
    exact hq H _ (by omega)
  | succ m ih =>
    intro d f H hm hb0 hdd hold hH
    have e1 : IntKind.i64.wrap ((d : Int) + 1) = ((d + 1 : Nat) : Int) := by rw [i64_same (by omega) (by omega)]; omega
    have e3 : IntKind.i64.wrap (-(d : Int)) = -(d : Int) := i64_same (by omega) (by omega)
    have hd : d≤M := by omega
    refine loopC_once mixed l3_lcs_Distance.eq_1 ?_
    simp [hd,e3]
    refine LoopC.le (le_list [(0,ivs a),(1,ivs b),(2,iv M),(8,iv a.length),(9,iv b.length),(10,.osl [0] u 1 0 (2 * M + 3)),(11,iv d),(12,iv (2 * ((0 : Nat) : Int) - d))] (by simp)) ?_
    refine dist_l2 ha hb hM hd hdd (fun f' H' st g1 g2 g3 g4 => ?_) (fun H' he => ?_) (d + 1) 0 f H (by omega) hb0 hold (fun p s hs => by omega) hH
    · simp [e1]
      refine ih (d + 1) f' H' (by omega) g1 (by omega) (fun p s hs hp => ?_) g4
      exact g2 p s (by omega) (by omega)
    · simp
      have := hq2 H' (by omega)
      rw [← he] at this
      exact this
end
theorem dist_spec {a b : List Int} (ha : a.length≤1000000) (hb : b.length≤1000000) {M0 : Int} (hM0 : i64R M0) : ∃ d : Int,G.Spec Tryz.prog 86 [ivs a,ivs b,iv M0] (.tup [iv d,bv (decide ((distL a b : Int)≤M0))]) := by
  refine ⟨if (distL a b : Int)≤M0 then distL a b else 0,?_⟩
  refine spec_of t_lcs_Distance (by simp) fun w0 I0 => ?_
  have hdg := dist_diag a b
  have hdl : distL a b≤a.length + b.length := by unfold distL; omega
  have e1 : IntKind.i64.wrap ((a.length : Int) + b.length) = ((a.length + b.length : Nat) : Int) := by rw [i64_same (by omega) (by omega)]; omega
  have e2 : IntKind.i64.wrap ((a.length : Int) - b.length) = (a.length : Int) - b.length := i64_same (by omega) (by omega)
  have e3 : IntKind.i64.wrap ((b.length : Int) - a.length) = (b.length : Int) - a.length := i64_same (by omega) (by omega)
  obtain ⟨M1,hM1⟩ : ∃ M1 : Int,min (max M0 (-1)) ((a.length : Int) + b.length) = M1 := ⟨_,rfl⟩
  have hle : ((distL a b : Int)≤M0) ↔ ((distL a b : Int)≤M1) := by omega
  have hMb : M1≤(a.length : Int) + b.length := by omega
  unfold c_lcs_Distance
  simp [e1,e2,e3,hM1]
  refine ⟨fun h => ?_,fun h1 h2 h3 => ?_⟩
  · have hno : ¬ (distL a b : Int)≤M0 := by omega
    simp [hno]
    exact frz_bare rfl
  · obtain ⟨M,rfl⟩ : ∃ M : Nat,M1 = M := ⟨M1.toNat,by omega⟩
    have e4 : IntKind.i64.wrap (2 * (M : Int)) = 2 * (M : Int) := i64_same (by omega) (by omega)
    have e5 : IntKind.i64.wrap (2 * (M : Int) + 3) = ((2 * M + 3 : Nat) : Int) := by rw [i64_same (by omega) (by omega)]; omega
    have e6 : (2 * (M : Int) + 3).toNat = 2 * M + 3 := by omega
    rw [e4,e5]
    refine ⟨by omega,?_⟩
    refine LoopC.le (le_list [(0,ivs a),(1,ivs b),(2,iv M),(8,iv a.length),(9,iv b.length),(10,.osl [0] 1 1 0 (2 * M + 3)),(11,iv (0 : Nat))] (by simp [e6])) ?_
    refine dist_l3 ha hb (by omega) (fun H st h => ?_) (fun H h => ?_) (M + 1) 0 (fun _ => 0) _ (by omega) (fun q => by omega) (by omega) (fun p s hs => by omega) (by simp [fnL_zero,e6])
    · have hno : ¬ (distL a b : Int)≤M0 := by omega
      simp [hno]
      exact frz_bare rfl
    · have hyes : (distL a b : Int)≤M0 := by omega
      simp [hyes]
      exact frz_bare rfl
def spC (s : Sp) : List A := [iv s.k,iv s.n]
def spA (s : Sp) : A := .agg (spC s)
@[simp] theorem spA_cells {s : Sp} : (spA s).cells = spC s := rfl
@[simp] theorem spC_len {s : Sp} : (spC s).length = 2 := rfl
theorem lens_sp {l : List Sp} : lens 2 (l.map spA) = true := by rw [lens_all]; simp
def fdF (l : List Sp) (v : Nat) : Fam := ⟨fun r p => if p = [] then ⟨1,.cells [.osl (r :: [0]) v 2 0 l.length]⟩ else if p = [0] then ⟨v,.arr 2 (l.map spA)⟩ else ⟨0,.none⟩,fun {g δ r r'} hg hd p => by
    by_cases h1 : p = []
    · rw [if_pos h1,if_pos h1]
      refine Fam.cells_ren ?_
      simp [A.renL,A.ren,hg,hd]
    · rw [if_neg h1,if_neg h1]
      by_cases h2 : p = [0]
      · rw [if_pos h2]
        refine Fam.arr_ren ?_
        have e : ∀ x : Sp,(spA x).ren g δ = spA x := fun x => by simp [spA,spC,A.ren,A.renL]
        simp only [renL_map,List.map_map]
        refine List.map_congr_left fun x _ => ?_
        exact e x
      · rw [if_neg h2]; rfl,fun {D r} hD p => by
    by_cases h1 : p = []
    · rw [if_pos h1]
      simp [Ob.refs,A.refsL,A.refs,hD]
    · rw [if_neg h1]
      by_cases h2 : p = [0]
      · rw [if_pos h2]
        simp only [Ob.refs,refsL_iff]
        intro y hy
        obtain ⟨x,_,rfl⟩ := List.mem_map.1 hy
        simp [A.refs,A.refsL,spA,spC]
      · rw [if_neg h2]; trivial⟩
@[simp] theorem fdF_F {l : List Sp} {v r : Nat} {p : Nm} : (fdF l v).F r p = if p = [] then ⟨1,.cells [.osl (r :: [0]) v 2 0 l.length]⟩ else if p = [0] then ⟨v,.arr 2 (l.map spA)⟩ else ⟨0,.none⟩ := rfl
abbrev fdP (r : Nat) : A := .pob [r] 1 0
theorem add_spec (l : List Sp) (v : Nat) (hl : l.length≤100000000) (k n : Nat) : SpecF Tryz.prog 105 (fun r => [fdP r,iv k,iv n]) (fdF l v) (fun _ => .tup []) (fdF (l ++ fl k n) (v + (fl k n).length)) := by
  refine specF_of t_lcs_finder_add (by simp) (famL_cons famA_pob (famL_cons famA_v (famL_cons famA_v famL_nil))) (famA_tup famL_nil) fun w0 I0 M0 m0 => ?_
  unfold c_lcs_finder_add
  by_cases h : 0 < n
  · rw [fl_pos h]
    simp [h,lens_sp,updF_app]
    refine ⟨by omega,?_⟩
    refine reth_famN rfl rfl (fun p => ?_)
    by_cases h1 : p = [] <;> by_cases h2 : p = [0] <;> simp [h1,h2,updF_app,spA,spC]
    rw [List.take_of_length_le (by simp)]
  · have h0 : n = 0 := by omega
    subst h0
    simp
    refine reth_famN rfl rfl (fun p => by simp)
def oneS (x : Int) (b : List Int) : List Sp := if fstI x b < b.length then fl 2 (fstI x b) ++ (fl 0 1 ++ fl 2 (b.length - fstI x b - 1)) else fl 1 1 ++ fl 2 b.length
theorem oneS_units (x : Int) (b : List Int) : unitsS (oneS x b) = wayU [x] b := by
  rw [wayU_one]
  unfold oneS
  split <;> simp
theorem fl_len (k n : Nat) : (fl k n).length≤1 := by unfold fl; split <;> simp
theorem oneS_len (x : Int) (b : List Int) : (oneS x b).length≤3 := by
  unfold oneS
  have := fl_len 2 (fstI x b)
  have := fl_len 0 1
  have := fl_len 1 1
  have := fl_len 2 (b.length - fstI x b - 1)
  have := fl_len 2 b.length
  split <;> simp <;> omega
theorem oneS_ok {x : Int} {b : List Int} (hb : b.length≤1000000) : ∀ s,s ∈ oneS x b→s.ok := by
  intro s hs
  have := fstI_le x b
  unfold oneS at hs
  split at hs <;> simp only [List.mem_append] at hs
  · rcases hs with hs | hs | hs
    · exact fl_ok (by omega) (by omega) s hs
    · exact fl_ok (by omega) (by omega) s hs
    · exact fl_ok (by omega) (by omega) s hs
  · rcases hs with hs | hs
    · exact fl_ok (by omega) (by omega) s hs
    · exact fl_ok (by omega) (by omega) s hs
theorem fst_drop {x : Int} : ∀ {b : List Int} {j : Nat},j≤fstI x b→(h : j < b.length)→(b[j] = x ↔ fstI x b = j)
  | [],j,_,h => by simp at h
  | y :: b,0,_,h => by
    unfold fstI
    by_cases e : x = y
    · simp [e]
    · simp [e]; exact fun h => e h.symm
  | y :: b,j + 1,hj,h => by
    unfold fstI at hj ⊢
    by_cases e : x = y
    · rw [if_pos e] at hj; omega
    · rw [if_neg e] at hj ⊢
      have := fst_drop (x := x) (b := b) (j := j) (by omega) (by simpa using h)
      simp only [List.getElem_cons_succ]
      omega
section
variable {n0 : Nat} {w0 : World} {I0 : Nat→Prop} {M0 : Nm→Nat→Prop} {m0 : Mu} {Q : Exit→Sta→Prop}
theorem one_l1 {l : List Sp} {v : Nat} {x : Int} {b : List Int} {H : Hp} (hl : l.length≤10000000) (hb : b.length≤1000000) (hH : ∀ p,H (0 :: p) = (fdF l v).F 0 p)
    (hq : fstI x b = b.length→∀ st,Q (.exit 0) ⟨lk ([(0,fdP 0),(1,iv x),(2,ivs b)] ++ st),H⟩)
    (hq2 : ∀ H',fstI x b < b.length→(∀ p,H' (0 :: p) = (fdF (l ++ oneS x b) (v + (oneS x b).length)).F 0 p)→∀ st,Q .ret ⟨lk st,H'⟩) : ∀ (m j : Nat),j + m = b.length→j≤fstI x b →
    LoopC (cxh Tryz.prog w0 I0 M0 n0 m0) l1_lcs_finder_one Q ⟨lk [(0,fdP 0),(1,iv x),(2,ivs b),(8,ivs b),(9,iv b.length),(10,iv j)],H⟩ := by
  have hle := fstI_le x b
  intro m
  induction m with
  | zero =>
    intro j hm hj
    refine loopC_once mixed l1_lcs_finder_one.eq_1 ?_
    have : j = b.length := by omega
    subst this
    simp
    exact hq (by omega) [(8,ivs b),(9,iv b.length),(10,iv b.length),(11,bv false)]
  | succ m ih =>
    intro j hm hj
    have hlt : j < b.length := by omega
    have e1 : IntKind.i64.wrap ((j : Int) + 1) = ((j + 1 : Nat) : Int) := by rw [i64_same (by omega) (by omega)]; omega
    have hd := fst_drop hj hlt
    refine loopC_once mixed l1_lcs_finder_one.eq_1 ?_
    by_cases h : x = b[j]
    · have hf := hd.1 h.symm
      have e2 : IntKind.i64.wrap (IntKind.i64.wrap ((b.length : Int) - j) - 1) = ((b.length - j - 1 : Nat) : Int) := by rw [i64_same (n := (b.length : Int) - j) (by omega) (by omega),i64_same (by omega) (by omega)]; omega
      have A1 := add_spec l v (by omega) 2 j
      have l1 := fl_len 2 j
      have l2 := fl_len 0 1
      have A2 := add_spec (l ++ fl 2 j) (v + (fl 2 j).length) (by simp; omega) 0 1
      have A3 := add_spec (l ++ fl 2 j ++ fl 0 1) (v + (fl 2 j).length + (fl 0 1).length) (by simp; omega) 2 (b.length - j - 1)
      simp [hlt,h]
      refine sc_fam 0 A1 hH (by simp) (by simp) ?_
      simp
      refine sc_fam 0 A2 (fun p => by simp) (by simp) (by simp) ?_
      simp [e2]
      refine sc_fam 0 A3 (fun p => by simp) (by simp) (by simp) ?_
      simp
      refine hq2 _ (by omega) (fun p => ?_) _
      have eo : oneS x b = fl 2 j ++ (fl 0 1 ++ fl 2 (b.length - j - 1)) := by unfold oneS; rw [if_pos (by omega),hf]
      rw [eo]
      simp [Nat.add_assoc]
    · have hne : ¬ fstI x b = j := fun e => h (hd.2 e).symm
      simp [hlt,h,e1]
      exact ih (j + 1) (by omega) (by omega)
end
theorem one_spec (l : List Sp) (v : Nat) (hl : l.length≤10000000) (x : Int) (b : List Int) (hb : b.length≤1000000) : SpecF Tryz.prog 106 (fun r => [fdP r,iv x,ivs b]) (fdF l v) (fun _ => .tup []) (fdF (l ++ oneS x b) (v + (oneS x b).length)) := by
  refine specF_of t_lcs_finder_one (by simp) (famL_cons famA_pob (famL_cons famA_v (famL_cons famA_sl famL_nil))) (famA_tup famL_nil) fun w0 I0 M0 m0 => ?_
  unfold c_lcs_finder_one
  simp
  refine LoopC.le (le_list [(0,fdP 0),(1,iv x),(2,ivs b),(8,ivs b),(9,iv b.length),(10,iv (0 : Nat))] (by simp)) ?_
  refine one_l1 (l := l) (v := v) hl hb (fun p => by simp) (fun hn st => ?_) (fun H' hf hH st => ?_) b.length 0 (by omega) (by omega)
  · have A1 := add_spec l v (by omega) 1 1
    have l1 := fl_len 1 1
    have A2 := add_spec (l ++ fl 1 1) (v + (fl 1 1).length) (by simp; omega) 2 b.length
    simp
    refine sc_fam 0 A1 (fun p => by simp) (by simp) (by simp) ?_
    simp
    refine sc_fam 0 A2 (fun p => by simp) (by simp) (by simp) ?_
    simp
    have eo : oneS x b = fl 1 1 ++ fl 2 b.length := by unfold oneS; rw [if_neg (by omega)]
    rw [eo]
    refine reth_famN rfl rfl (fun p => by simp [Nat.add_assoc])
  · simp
    exact reth_fam rfl rfl hH
theorem sp_append {P : Sp→Prop} {l m : List Sp} (h1 : ∀ s,s ∈ l→P s) (h2 : ∀ s,s ∈ m→P s) : ∀ s,s ∈ l ++ m→P s := fun s hs => (List.mem_append.1 hs).elim (h1 s) (h2 s)
theorem find_all : ∀ (n : Nat) (a b : List Int),a.length≤n→a.length≤1000000→b.length≤1000000→∃ sts : List Sp,unitsS sts = wayU a b∧(∀ s,s ∈ sts→s.ok)∧sts.length≤max 1 (3 * a.length) ∧
    ∀ (l : List Sp) (v : Nat),l.length + 3 * a.length≤9000000→SpecF Tryz.prog 87 (fun r => [fdP r,ivs a,ivs b]) (fdF l v) (fun _ => .tup []) (fdF (l ++ sts) (v + sts.length)) := by
  intro n
  induction n with
  | zero =>
    intro a b hn ha hb
    have := List.eq_nil_of_length_eq_zero (by omega : a.length = 0)
    subst this
    refine ⟨fl 2 b.length,by rw [wayU_nil]; simp,fl_ok (by omega) (by omega),by have := fl_len 2 b.length; simp; omega,fun l v hl => ?_⟩
    have A1 := add_spec l v (by simp at hl; omega) 1 0
    have A2 := add_spec (l ++ fl 1 0) (v + (fl 1 0).length) (by simp at hl; simp; omega) 2 b.length
    refine specF_of t_lcs_finder_find (by simp) (famL_cons famA_pob (famL_cons famA_sl (famL_cons famA_sl famL_nil))) (famA_tup famL_nil) fun w0 I0 M0 m0 => ?_
    unfold c_lcs_finder_find
    simp
    refine sc_fam 0 A1 (fun p => by simp) (by simp) (by simp) ?_
    simp
    refine sc_fam 0 A2 (fun p => by simp) (by simp) (by simp) ?_
    simp
    refine reth_famN rfl rfl (fun p => by simp)
  | succ n ih =>
    intro a b hn ha hb
    by_cases hb0 : b = []
    · subst hb0
      refine ⟨fl 1 a.length,by rw [wayU_nil']; simp,fl_ok (by omega) (by omega),by have := fl_len 1 a.length; omega,fun l v hl => ?_⟩
      have := fl_len 1 a.length
      have A1 := add_spec l v (by omega) 1 a.length
      have A2 := add_spec (l ++ fl 1 a.length) (v + (fl 1 a.length).length) (by simp; omega) 2 0
      refine specF_of t_lcs_finder_find (by simp) (famL_cons famA_pob (famL_cons famA_sl (famL_cons famA_sl famL_nil))) (famA_tup famL_nil) fun w0 I0 M0 m0 => ?_
      unfold c_lcs_finder_find
      simp
      refine sc_fam 0 A1 (fun p => by simp) (by simp) (by simp) ?_
      simp
      refine sc_fam 0 A2 (fun p => by simp) (by simp) (by simp) ?_
      simp
      refine reth_famN rfl rfl (fun p => by simp)
    have hbl : 0 < b.length := List.length_pos_iff.2 hb0
    match a,hn,ha with
    | [],hn,ha =>
      obtain ⟨sts,h⟩ := ih [] b (by simp) ha hb
      exact ⟨sts,h⟩
    | [x],hn,ha =>
      refine ⟨oneS x b,oneS_units x b,oneS_ok hb,by have := oneS_len x b; simp; omega,fun l v hl => ?_⟩
      have A1 := one_spec l v (by simp at hl; omega) x b hb
      refine specF_of t_lcs_finder_find (by simp) (famL_cons famA_pob (famL_cons famA_sl (famL_cons famA_sl famL_nil))) (famA_tup famL_nil) fun w0 I0 M0 m0 => ?_
      unfold c_lcs_finder_find
      simp [hb0]
      refine sc_fam 0 A1 (fun p => by simp) (by simp) (by simp) ?_
      simp
      refine reth_famN rfl rfl (fun p => by simp)
    | x :: y :: a',hn,ha =>
      have e0 : ∃ a : List Int,a = x :: y :: a' := ⟨_,rfl⟩
      obtain ⟨a,ea⟩ := e0
      rw [← ea] at hn ha ⊢
      have hal : 2≤a.length := by rw [ea]; simp
      clear ea
      obtain ⟨h,eh⟩ : ∃ h,a.length / 2 = h := ⟨_,rfl⟩
      have hh : h≤a.length := by omega
      obtain ⟨w1,w2,w3⟩ := way_on (a := a) (b := b) hh
      obtain ⟨s1,u1,o1,n1,F1⟩ := ih (a.take h) (b.take (wayN a b h)) (by simp; omega) (by simp; omega) (by simp; omega)
      obtain ⟨s2,u2,o2,n2,F2⟩ := ih (a.drop h) (b.drop (wayN a b h)) (by simp; omega) (by simp; omega) (by simp; omega)
      simp at n1 n2
      refine ⟨s1 ++ s2,by rw [units_app,u1,u2,← wayU_half a b hh],sp_append o1 o2,by simp; omega,fun l v hl => ?_⟩
      have G1 := F1 l v (by simp; omega)
      have G2 := F2 (l ++ s1) (v + s1.length) (by simp; omega)
      have hS := split_spec (a := a) (b := b) hh ha hb
      refine specF_of t_lcs_finder_find (by simp) (famL_cons famA_pob (famL_cons famA_sl (famL_cons famA_sl famL_nil))) (famA_tup famL_nil) fun w0 I0 M0 m0 => ?_
      have c1 : ¬ a = [] := fun e => by rw [e] at hal; simp at hal
      have c2 : ¬ a.length = 1 := by omega
      have c3 : ¬ (a.length : Int) = 1 := by omega
      have c4 : ((a.length : Int)).tdiv 2 = (h : Int) := by rw [Int.tdiv_eq_ediv_of_nonneg (by omega)]; omega
      have c5 : IntKind.i64.wrap (h : Int) = (h : Int) := i64_same (by omega) (by omega)
      unfold c_lcs_finder_find
      simp [hb0,c1,c2,c3,c4,c5]
      refine sc_call hS (by simp) ?_
      simp [hh,w2]
      refine sc_fam 0 G1 (fun p => by simp) (by simp) (by simp) ?_
      simp [hh,w2]
      refine sc_fam 0 G2 (fun p => by simp) (by simp [List.take_of_length_le]) (by simp) ?_
      simp
      refine reth_famN rfl rfl (fun p => by simp [Nat.add_assoc])
def gpC (g : Nat→Nat) : List A := [iv (g 0),iv (g 1),iv (g 2)]
def gpF (l : List Sp) (v : Nat) (g : Nat→Nat) : Fam := ⟨fun r p => if p = [] then ⟨1,.cells [.osl (r :: [0]) v 2 0 l.length]⟩ else if p = [0] then ⟨v,.arr 2 (l.map spA)⟩ else if p = [1] then ⟨1,.cells (gpC g)⟩ else ⟨0,.none⟩,fun {γ δ r r'} hg hd p => by
    by_cases h1 : p = []
    · rw [if_pos h1,if_pos h1]
      refine Fam.cells_ren ?_
      simp [A.renL,A.ren,hg,hd]
    · rw [if_neg h1,if_neg h1]
      by_cases h2 : p = [0]
      · rw [if_pos h2]
        refine Fam.arr_ren ?_
        have e : ∀ x : Sp,(spA x).ren γ δ = spA x := fun x => by simp [spA,spC,A.ren,A.renL]
        simp only [renL_map,List.map_map]
        refine List.map_congr_left fun x _ => ?_
        exact e x
      · rw [if_neg h2]
        by_cases h3 : p = [1]
        · rw [if_pos h3]
          refine Fam.cells_ren ?_
          simp [A.renL,A.ren,gpC]
        · rw [if_neg h3]; rfl,fun {D r} hD p => by
    by_cases h1 : p = []
    · rw [if_pos h1]
      simp [Ob.refs,A.refsL,A.refs,hD]
    · rw [if_neg h1]
      by_cases h2 : p = [0]
      · rw [if_pos h2]
        simp only [Ob.refs,refsL_iff]
        intro y hy
        obtain ⟨x,_,rfl⟩ := List.mem_map.1 hy
        simp [A.refs,A.refsL,spA,spC]
      · rw [if_neg h2]
        by_cases h3 : p = [1]
        · rw [if_pos h3]
          simp [Ob.refs,A.refsL,A.refs,gpC]
        · rw [if_neg h3]; trivial⟩
@[simp] theorem gpF_F {l : List Sp} {v r : Nat} {g : Nat→Nat} {p : Nm} : (gpF l v g).F r p = if p = [] then ⟨1,.cells [.osl (r :: [0]) v 2 0 l.length]⟩ else if p = [0] then ⟨v,.arr 2 (l.map spA)⟩ else if p = [1] then ⟨1,.cells (gpC g)⟩ else ⟨0,.none⟩ := rfl
def flL : List Nat→(Nat→Nat)→List Sp
  | [],_ => []
  | k :: ks,g => fl k (g k) ++ flL ks (fun q => if q = k then 0 else g q)
def flG : List Nat→(Nat→Nat)→Nat→Nat
  | [],g => g
  | k :: ks,g => flG ks (fun q => if q = k then 0 else g q)
abbrev nvs (ks : List Nat) : A := .sl true (ks.map fun k : Nat => iv (k : Int))
theorem stepR_spec (s : Sp) : G.Spec Tryz.prog 89 [spA s] (bv (decide (s.k≤2∧1≤s.n∧s.n≤1048576))) := by
  refine spec_of t_script_Step_right (by simp) fun w0 I0 => ?_
  unfold c_script_Step_right
  have m0 : (0 : Int)≤(s.k : Int) := by omega
  by_cases h1 : s.k≤2
  · by_cases h2 : 1≤s.n
    · by_cases h3 : s.n≤1048576
      · simp [spA,spC,m0,h1,h2,h3,show (s.k : Int)≤2 by omega,show (1 : Int)≤s.n by omega,show (s.n : Int)≤1048576 by omega]
        exact frz_bare rfl
      · simp [spA,spC,m0,h1,h2,h3,show (s.k : Int)≤2 by omega,show (1 : Int)≤s.n by omega,show ¬ (s.n : Int)≤1048576 by omega]
        exact frz_bare rfl
    · simp [spA,spC,m0,h1,h2,show (s.k : Int)≤2 by omega,show ¬ (1 : Int)≤s.n by omega]
      exact frz_bool (by simp)
  · simp [spA,spC,m0,h1,show ¬ (s.k : Int)≤2 by omega]
    exact frz_bare rfl
section
variable {n0 : Nat} {w0 : World} {I0 : Nat→Prop} {M0 : Nm→Nat→Prop} {m0 : Mu} {Q : Exit→Sta→Prop}
theorem flush_l1 {ks : List Nat} (hks : ∀ k,k ∈ ks→k≤2) (hkl : ks.length≤1000) {l0 : List Sp} {v0 : Nat} {g0 : Nat→Nat} (hq : ∀ H' st,(∀ p,H' (0 :: p) = (gpF (l0 ++ flL ks g0) (v0 + (flL ks g0).length) (flG ks g0)).F 0 p)→Q (.exit 0) ⟨lk st,H'⟩) : ∀ (m j : Nat) (l : List Sp) (v : Nat) (g : Nat→Nat) (H : Hp),j + m = ks.length→l.length + m≤100000000→(∀ p,H (0 :: p) = (gpF l v g).F 0 p)→l0 ++ flL ks g0 = l ++ flL (ks.drop j) g→v0 + (flL ks g0).length = v + (flL (ks.drop j) g).length→flG ks g0 = flG (ks.drop j) g →
    LoopC (cxh Tryz.prog w0 I0 M0 n0 m0) l1_script_Normal_1 Q ⟨lk [(1,.pob [0,1] 1 0),(2,.pob [0] 1 0),(6,nvs ks),(7,iv ks.length),(8,iv j)],H⟩ := by
  intro m
  induction m with
  | zero =>
    intro j l v g H hm hl hH e1 e2 e3
    refine loopC_once mixed l1_script_Normal_1.eq_1 ?_
    have : j = ks.length := by omega
    subst this
    rw [List.drop_length] at e1 e2 e3
    simp
    refine hq H _ fun p => ?_
    rw [e1,e2,e3,hH]
    simp [flL,flG]
  | succ m ih =>
    intro j l v g H hm hl hH e1 e2 e3
    have hlt : j < ks.length := by omega
    have ew : IntKind.i64.wrap ((j : Int) + 1) = ((j + 1 : Nat) : Int) := by rw [i64_same (by omega) (by omega)]; omega
    have hd : ks.drop j = ks[j] :: ks.drop (j + 1) := (List.getElem_cons_drop hlt).symm
    rw [hd] at e1 e2 e3
    have hk := hks _ (List.getElem_mem hlt)
    generalize hkk : ks[j] = k at *
    simp only [flL,flG] at e1 e2 e3
    have hH0 := hH []
    have hH1 := hH [0]
    have hH2 := hH [1]
    simp at hH0 hH1 hH2
    refine loopC_once mixed l1_script_Normal_1.eq_1 ?_
    have hk3 : k = 0∨k = 1∨k = 2 := by omega
    by_cases h : 0 < g k
    · rw [fl_pos h] at e1 e2
      have next := fun (H' : Hp) hF => ih (j + 1) (l ++ [⟨k,g k⟩]) (v + 1) (fun q => if q = k then 0 else g q) H' (by omega) (by simp; omega) hF (by rw [e1]; simp) (by rw [e2]; simp; omega) e3
      rcases hk3 with rfl | rfl | rfl
      all_goals
        simp [hlt,hkk,hH0,hH1,hH2,gpC,h,ew,updF_app,lens_sp]
        refine ⟨by omega,?_⟩
        refine next _ (fun p => ?_)
        by_cases h1 : p = []
        · subst h1; simp [updF_app]
        · by_cases h2 : p = [0]
          · subst h2; simp [updF_app,spA,spC,List.take_of_length_le]
          · by_cases h3 : p = [1]
            · subst h3; simp [updF_app,gpC]
            · simp [h1,h2,h3,updF_app,hH]
    · have h0 : g k = 0 := by omega
      rw [h0] at e1 e2
      rcases hk3 with rfl | rfl | rfl
      all_goals
        simp [hlt,hkk,hH0,hH1,hH2,gpC,h0,ew,updF_app]
        refine ih (j + 1) l v _ _ (by omega) (by omega) (fun p => ?_) (by rw [e1]; simp) (by rw [e2]; simp) e3
        by_cases h1 : p = []
        · subst h1; simp [updF_app,hH0]
        · by_cases h2 : p = [0]
          · subst h2; simp [updF_app,hH1]
          · by_cases h3 : p = [1]
            · subst h3; simp [updF_app,gpC]
            · simp [h1,h2,h3,updF_app,hH]
end
theorem flush_spec {ks : List Nat} (hks : ∀ k,k ∈ ks→k≤2) (hkl : ks.length≤1000) (l : List Sp) (v : Nat) (g : Nat→Nat) (hl : l.length≤10000000) : SpecF Tryz.prog 88 (fun r => [nvs ks,.pob (r :: [1]) 1 0,.pob [r] 1 0]) (gpF l v g) (fun _ => .tup []) (gpF (l ++ flL ks g) (v + (flL ks g).length) (flG ks g)) := by
  refine specF_of t_script_Normal_1 (by simp) (famL_cons famA_sl (famL_cons famA_pob (famL_cons famA_pob famL_nil))) (famA_tup famL_nil) fun w0 I0 M0 m0 => ?_
  unfold c_script_Normal_1
  simp
  refine LoopC.le (le_list [(1,.pob [0,1] 1 0),(2,.pob [0] 1 0),(6,nvs ks),(7,iv ks.length),(8,iv (0 : Nat))] (by simp)) ?_
  refine flush_l1 hks hkl (l0 := l) (v0 := v) (g0 := g) (fun H' st hH => ?_) ks.length 0 l v g _ (by omega) (by omega) (fun p => by simp) (by simp) (by simp) (by simp)
  simp
  exact reth_famN rfl rfl hH
abbrev fluF : A := .fnc 88 [] [.pob [0,1] 1 0,.pob [0] 1 0]
abbrev sps (l : List Sp) : A := .sl false (l.map spA)
theorem goU_fin (g : Nat→Nat) : goU [] (g 0) (g 1) (g 2) = flL [0,1,2] g := by simp [goU,flL]
theorem fl2_len (ks : List Nat) (g : Nat→Nat) : (flL ks g).length≤ks.length := by
  induction ks generalizing g with
  | nil => simp [flL]
  | cons k ks ih =>
    have := ih (fun q => if q = k then 0 else g q)
    have := fl_len k (g k)
    simp [flL]
    omega
theorem flG_le : ∀ (ks : List Nat) (g : Nat→Nat) (B q : Nat),(∀ q,g q≤B)→flG ks g q≤B
  | [],g,B,q,h => h q
  | k :: ks,g,B,q,h => flG_le ks _ B q fun q => by
    show (if q = k then 0 else g q)≤B
    split
    · omega
    · exact h q
theorem nrmS_l1 {n0 : Nat} {w0 : World} {I0 : Nat→Prop} {Q : Exit→Sta→Prop} {all : List Sp} (hok : ∀ s,s ∈ all→s.may) (hal : all.length≤1000000) {R : List Sp}
    (hq : ∀ (H' : Hp) (out : List Sp) (v : Nat) (g : Nat→Nat) st,(∀ p,H' (0 :: p) = (gpF out v g).F 0 p)→out ++ flL [0,1,2] g = R→out.length≤2000000→Q (.exit 0) ⟨lk ([(3,.pob [0] 1 0),(4,.pob [0,1] 1 0),(5,fluF)] ++ st),H'⟩) : ∀ (m i : Nat) (out : List Sp) (v : Nat) (g : Nat→Nat) (H : Hp),i + m = all.length→out.length≤2 * i→(∀ q,g q≤i * 1048576)→(g 0 = 0∨(g 1 = 0∧g 2 = 0))→(∀ p,H (0 :: p) = (gpF out v g).F 0 p)→out ++ goU (unitsS (all.drop i)) (g 0) (g 1) (g 2) = R →
    LoopC (cx Tryz.prog w0 I0 n0) l1_script_Normal Q ⟨lk [(3,.pob [0] 1 0),(4,.pob [0,1] 1 0),(5,fluF),(9,sps all),(10,iv all.length),(11,iv i)],H⟩ := by
  intro m
  induction m with
  | zero =>
    intro i out v g H hm hl hg h01 hH hR
    refine loopC_once mixed l1_script_Normal.eq_1 ?_
    have : i = all.length := by omega
    subst this
    rw [List.drop_length,units_nil,goU_fin] at hR
    simp
    exact hq H out v g [(9,sps all),(10,iv all.length),(11,iv all.length),(12,bv false)] hH hR (by omega)
  | succ m ih =>
    intro i out v g H hm hl hg h01 hH hR
    have hlt : i < all.length := by omega
    have ew : IntKind.i64.wrap ((i : Int) + 1) = ((i + 1 : Nat) : Int) := by rw [i64_same (by omega) (by omega)]; omega
    have hd : all.drop i = all[i] :: all.drop (i + 1) := (List.getElem_cons_drop hlt).symm
    have hs := hok _ (List.getElem_mem hlt)
    rw [hd,units_cons] at hR
    generalize hss : all[i] = s at *
    have hsr := stepR_spec s
    have hg0 := hg 0
    have hg1 := hg 1
    have hg2 := hg 2
    refine loopC_once mixed l1_script_Normal.eq_1 ?_
    have hspC : spC s = [iv s.k,iv s.n] := rfl
    simp [hlt,hss,hspC]
    refine sc_call hsr (by simp [spA,spC,updF_app]) ?_
    by_cases hn : 1≤s.n
    · have hdec : decide (s.k≤2∧1≤s.n∧s.n≤1048576) = true := by have := hs.1; have := hs.2; simp; omega
      simp [hdec,updF_app]
      have next : ∀ (o2 : List Sp) (v2 : Nat) (g2 : Nat→Nat) (H2 : Hp),o2.length≤out.length + 2→(∀ q,g2 q≤(i + 1) * 1048576)→(g2 0 = 0∨(g2 1 = 0∧g2 2 = 0))→(∀ p,H2 (0 :: p) = (gpF o2 v2 g2).F 0 p)→o2 ++ goU (unitsS (all.drop (i + 1))) (g2 0) (g2 1) (g2 2) = R→LoopC (cx Tryz.prog w0 I0 n0) l1_script_Normal Q ⟨lk [(3,.pob [0] 1 0),(4,.pob [0,1] 1 0),(5,fluF),(9,sps all),(10,iv all.length),(11,iv (i + 1 : Nat))],H2⟩ := fun o2 v2 g2 H2 h1 h2 h3 h4 h5 => ih (i + 1) o2 v2 g2 H2 (by omega) (by omega) h2 h3 h4 h5
      have hk3 : s.k = 0∨s.k = 1∨s.k = 2 := by have := hs.1; omega
      rcases hk3 with hk | hk | hk
      · have F1 := flush_spec (ks := [1,2]) (by simp) (by simp) out v g (by omega)
        have hlen := fl2_len [1,2] g
        rw [hk,goU_keep s.n _ _ _ _ (by omega) (by omega)] at hR
        have ev : IntKind.i64.wrap ((g 0 : Int) + s.n) = ((g 0 + s.n : Nat) : Int) := by have := hs.2; rw [i64_same (by omega) (by omega)]; omega
        simp [hk]
        refine sc_famV 0 rfl F1 (fun p => by simp [updF_app,hH]) (by simp) (by simp) ?_
        simp
        rw [k1_script_Normal.eq_1]
        simp [updF_app,gpC,flG,ew,ev,hk]
        refine next (out ++ flL [1,2] g) (v + (flL [1,2] g).length) (fun q => if q = 0 then g 0 + s.n else flG [1,2] g q) _ (by simp at hlen; simp; omega) (fun q => ?_) ?_ (fun p => ?_) ?_
        · have hb : ∀ (ks : List Nat) (g : Nat→Nat) (B q : Nat),(∀ q,g q≤B)→flG ks g q≤B := flG_le
          show (if q = 0 then g 0 + s.n else flG [1,2] g q)≤_
          have h3 := hs.2
          split
          · omega
          · exact Nat.le_trans (hb _ g _ q hg) (Nat.mul_le_mul_right _ (by omega))
        · simp [flG]
        · by_cases h1 : p = []
          · subst h1; simp [updF_app]
          · by_cases h2 : p = [0]
            · subst h2; simp [updF_app]
            · by_cases h3 : p = [1]
              · subst h3; simp [updF_app,gpC,flG]
              · simp [h1,h2,h3,updF_app]
        · simp only [flG,flL] at hR ⊢
          simpa using hR
      · have F1 := flush_spec (ks := [0]) (by simp) (by simp) out v g (by omega)
        have hlen := fl2_len [0] g
        rw [hk,goU_del s.n _ _ _ _ (by omega)] at hR
        have ev : IntKind.i64.wrap ((g 1 : Int) + s.n) = ((g 1 + s.n : Nat) : Int) := by have := hs.2; rw [i64_same (by omega) (by omega)]; omega
        simp [hk]
        refine sc_famV 0 rfl F1 (fun p => by simp [updF_app,hH]) (by simp) (by simp) ?_
        simp
        rw [k1_script_Normal.eq_1]
        simp [updF_app,gpC,flG,ew,ev,hk]
        refine next (out ++ flL [0] g) (v + (flL [0] g).length) (fun q => if q = 1 then g 1 + s.n else flG [0] g q) _ (by simp at hlen; simp; omega) (fun q => ?_) ?_ (fun p => ?_) ?_
        · have hb : ∀ (ks : List Nat) (g : Nat→Nat) (B q : Nat),(∀ q,g q≤B)→flG ks g q≤B := flG_le
          show (if q = 1 then g 1 + s.n else flG [0] g q)≤_
          have h3 := hs.2
          split
          · omega
          · exact Nat.le_trans (hb _ g _ q hg) (Nat.mul_le_mul_right _ (by omega))
        · simp [flG]
        · by_cases h1 : p = []
          · subst h1; simp [updF_app]
          · by_cases h2 : p = [0]
            · subst h2; simp [updF_app]
            · by_cases h3 : p = [1]
              · subst h3; simp [updF_app,gpC,flG]
              · simp [h1,h2,h3,updF_app]
        · simp only [flG,flL] at hR ⊢
          simpa using hR
      · have F1 := flush_spec (ks := [0]) (by simp) (by simp) out v g (by omega)
        have hlen := fl2_len [0] g
        rw [hk,goU_ins s.n _ _ _ _ (by omega)] at hR
        have ev : IntKind.i64.wrap ((g 2 : Int) + s.n) = ((g 2 + s.n : Nat) : Int) := by have := hs.2; rw [i64_same (by omega) (by omega)]; omega
        simp [hk]
        refine sc_famV 0 rfl F1 (fun p => by simp [updF_app,hH]) (by simp) (by simp) ?_
        simp
        rw [k1_script_Normal.eq_1]
        simp [updF_app,gpC,flG,ew,ev,hk]
        refine next (out ++ flL [0] g) (v + (flL [0] g).length) (fun q => if q = 2 then g 2 + s.n else flG [0] g q) _ (by simp at hlen; simp; omega) (fun q => ?_) ?_ (fun p => ?_) ?_
        · have hb : ∀ (ks : List Nat) (g : Nat→Nat) (B q : Nat),(∀ q,g q≤B)→flG ks g q≤B := flG_le
          show (if q = 2 then g 2 + s.n else flG [0] g q)≤_
          have h3 := hs.2
          split
          · omega
          · exact Nat.le_trans (hb _ g _ q hg) (Nat.mul_le_mul_right _ (by omega))
        · simp [flG]
        · by_cases h1 : p = []
          · subst h1; simp [updF_app]
          · by_cases h2 : p = [0]
            · subst h2; simp [updF_app]
            · by_cases h3 : p = [1]
              · subst h3; simp [updF_app,gpC,flG]
              · simp [h1,h2,h3,updF_app]
        · simp only [flG,flL] at hR ⊢
          simpa using hR
    · have hdec : decide (s.k≤2∧1≤s.n∧s.n≤1048576) = false := by simp; omega
      have h0 : s.n = 0 := by omega
      simp [hdec,ew,updF_app,InBlock]
      refine ih (i + 1) out v g _ (by omega) (by omega) (fun q => Nat.le_trans (hg q) (Nat.mul_le_mul_right _ (by omega))) h01 (fun p => ?_) ?_
      · simp [updF_app,hH]
      · rw [h0] at hR; simpa using hR
theorem frzN_sps {H : Hp} {o : Nm} {u n : Nat} {l : List Sp} (h : H o = ⟨u,.arr 2 (l.map spA)⟩) (hn : n = l.length) : FrzN H (.osl o u 2 0 n) (sps l) := by
  subst hn
  have := frzN_osl (H := H) (o := o) (u := u) (off := 0) (len := l.length) (sz := 2) (xs := l.map spA) (by simp [h]) (by simp) (by
    simp only [List.drop_zero,List.all_eq_true]
    intro x hx
    obtain ⟨s,_,rfl⟩ := List.mem_map.1 (List.mem_of_mem_take hx)
    rfl)
  rw [List.drop_zero,List.take_of_length_le (by simp)] at this
  exact this
theorem pNrmB_spec {all : List Sp} (hok : ∀ s,s ∈ all→s.may) (hal : all.length≤1000000) : SpecB Tryz.prog 71 [sps all] (sps (nrmS (unitsS all))) := by
  refine specB_of t_script_Normal (by simp) fun w0 I0 => ?_
  unfold c_script_Normal
  simp
  refine LoopC.le (le_blankC (d := [0]) (u := 1) (cs := [.sl true []]) 0 [0,0] 2 rfl rfl (by simp)) ?_
  refine LoopC.le (le_list [(3,.pob [0] 1 0),(4,.pob [0,1] 1 0),(5,fluF),(9,sps all),(10,iv all.length),(11,iv (0 : Nat))] (by simp)) ?_
  refine nrmS_l1 hok hal (R := nrmS (unitsS all)) (fun H' out v g st hH hR hl => ?_) all.length 0 [] 1 (fun _ => 0) _ (by omega) (by simp) (fun q => by omega) (.inl rfl) (fun p => ?_) (by simp [nrmS])
  · have F1 := flush_spec (ks := [0,1,2]) (by simp) (by simp) out v g (by omega)
    have hlen := fl2_len [0,1,2] g
    simp
    refine sc_famV 0 rfl F1 hH (by simp) (by simp) ?_
    simp
    rw [← hR]
    exact frzN_sps (by simp) (by simp)
  · by_cases h1 : p = []
    · subst h1; simp [updF_app]
    · by_cases h2 : p = [0]
      · subst h2; simp [updF_app]
      · by_cases h3 : p = [1]
        · subst h3; simp [updF_app,gpC]
        · simp [h1,h2,h3,Ne.symm h1,Ne.symm h2,Ne.symm h3,updF_app]
theorem pNrm_spec {all : List Sp} (hok : ∀ s,s ∈ all→s.may) (hal : all.length≤1000000) : G.Spec Tryz.prog 71 [sps all] (sps (nrmS (unitsS all))) := (pNrmB_spec hok hal).spec
theorem ok_may {s : Sp} (h : s.ok) : s.may := ⟨h.1,h.2.2⟩
theorem diffL_spec {a b : List Int} (ha : a.length≤300000) (hb : b.length≤1000000) {M0 : Int} (hM0 : i64R M0) : G.Spec Tryz.prog 70 [ivs a,ivs b,iv M0] (if (distL a b : Int)≤M0 then .tup [sps (nrmS (wayU a b)),bv true] else .tup [.sl false [],bv false]) := by
  obtain ⟨d,hD⟩ := dist_spec (a := a) (b := b) (by omega) hb hM0
  obtain ⟨sts,h1,h2,h3,h4⟩ := find_all a.length a b (Nat.le_refl _) (by omega) hb
  have hN := pNrmB_spec (all := sts) (fun s hs => ok_may (h2 s hs)) (by omega)
  rw [h1] at hN
  refine spec_of t_lcs_Diff (by simp) fun w0 I0 => ?_
  unfold c_lcs_Diff
  simp
  refine sc_call hD (by simp) ?_
  by_cases h : (distL a b : Int)≤M0
  · have hF := h4 [] 1 (by simp; omega)
    simp [h]
    refine stop_le (le_blankC (d := [0]) (u := 1) (cs := [.sl true []]) 0 [0,0] 2 rfl rfl (by simp)) (stop_go ?_)
    simp
    refine sc_fam 0 hF (fun p => ?_) (by simp) (by simp) ?_
    · by_cases h1 : p = []
      · subst h1; simp [updF_app]
      · by_cases h2 : p = [0]
        · subst h2; simp [updF_app]
        · simp [h1,h2,Ne.symm h1,Ne.symm h2,updF_app]
    · simp
      refine sc_callb [sps sts] hN (by simp; exact frz_row (l := sts) (f := spA) (by simp) rfl (fun x => rfl)) (by simp) ?_
      simp
      exact frz_bare rfl
  · simp [h]
    exact frz_tup (by simp; exact ⟨frz_sl,frz_bare rfl⟩)
section
variable {n0 : Nat} {w0 : World} {I0 : Nat→Prop} {Q : Exit→Sta→Prop}
end
theorem one_cells {α : Type} {f : α→A} (h : ∀ x,(f x).cells = [f x]) (l : List α) : (l.map f).flatMap A.cells = l.map f := by
  induction l with
  | nil => rfl
  | cons x l ih => simp [ih,h]
end Go.Proofs.YtmeldaflhkiopaaGreat
namespace Go.PL
open Go
set_option linter.unusedVariables false
set_option linter.unusedSimpArgs false
def idleE (list : Int) (e : E) : Bool := decide (e.kind = 0) || (decide (list = 9) && decide (e.kind = 2) && e.words.isEmpty && e.kids.isEmpty)
def delO (g : List T) : List OP := if g = [] then [] else [.mk 1 0 g E0]
def insO (b : List T) : List OP := if b = [] then [] else [.mk 2 0 b E0]
def flO (out : List OP) (g b : List T) : List OP := out ++ (delO g ++ insO b)
def kpO (out : List OP) (n : Int) : List OP := match out.getLast? with
  | some (.mk 0 m l e) => out.dropLast ++ [.mk 0 (IntKind.i64.wrap (m + n)) l e]
  | _ => out ++ [.mk 0 n [] E0]
def opsW (list : Int) : List OP→List OP→List T→List T→List OP
  | [],out,g,b => flO out g b
  | o :: os,out,g,b =>
    if o.kind = 0 then opsW list os (kpO (flO out g b) o.n) [] []
    else if o.kind = 1 then opsW list os out (g ++ o.l.map norm) b
    else if o.kind = 2 then opsW list os out g (b ++ o.l.map norm)
    else if idleE list o.e = true then opsW list os (kpO (flO out g b) 1) [] []
    else opsW list os (flO out g b ++ [.mk 3 0 [] o.e]) [] []
mutual
def nEd : E→E
  | .mk k o n ws ks l os => if k = 1 then .mk 1 (norm o) (norm n) [] [] 0 [] else if k = 2 then .mk 2 T0 T0 ws (nEdK ks) 0 [] else if k = 3 then .mk 3 T0 T0 [] [] l (opsW l (nEdO os) [] [] []) else E0
def nEdK : List KE→List KE
  | [] => []
  | .mk a e :: l => .mk a (nEd e) :: nEdK l
def nEdO : List OP→List OP
  | [] => []
  | .mk k n t e :: l => .mk k n t (nEd e) :: nEdO l
end
def nKE (x : KE) : KE := .mk x.at_ (nEd x.e)
def nOP (x : OP) : OP := .mk x.kind x.n x.l (nEd x.e)
theorem nEdK_map : ∀ l,nEdK l = l.map nKE
  | [] => by simp [nEdK]
  | .mk a e :: l => by rw [nEdK,nEdK_map l]; rfl
theorem nEdO_map : ∀ l,nEdO l = l.map nOP
  | [] => by simp [nEdO]
  | .mk k n t e :: l => by rw [nEdO,nEdO_map l]; rfl
theorem nEd_mk (k : Int) (o n : T) (ws : List WE) (ks : List KE) (l : Int) (os : List OP) : nEd (.mk k o n ws ks l os) = if k = 1 then .mk 1 (norm o) (norm n) [] [] 0 [] else if k = 2 then .mk 2 T0 T0 ws (ks.map nKE) 0 [] else if k = 3 then .mk 3 T0 T0 [] [] l (opsW l (os.map nOP) [] [] []) else E0 := by
  rw [nEd,nEdK_map,nEdO_map]
end Go.PL
namespace Go.Proofs.YtmeldaflhkiopaaGreat
set_option linter.unusedVariables false
set_option linter.unusedSimpArgs false
set_option maxRecDepth 20000
open Go Go.G Go.Proofs
@[simp] theorem zeroT_33 : zeroT Tryz.prog 33 = some (Value.agg #[Value.int IntKind.i64 0,Value.int IntKind.i64 0,Value.slice none 0 0,Value.slice none 0 0,Value.int IntKind.i64 0,Value.slice none 0 0,Value.slice none 0 0,Value.slice none 0 0,Value.slice none 0 0,Value.int IntKind.i64 0,Value.slice none 0 0]) := by kernel_rfl
@[simp] theorem fieldOffT_79_0 : fieldOffT Tryz.prog 79 0 = some 0 := by kernel_rfl
@[simp] theorem fieldOffT_79_1 : fieldOffT Tryz.prog 79 1 = some 1 := by kernel_rfl
@[simp] theorem fieldOffT_79_2 : fieldOffT Tryz.prog 79 2 = some 2 := by kernel_rfl
@[simp] theorem fieldOffT_87_0 : fieldOffT Tryz.prog 87 0 = some 0 := by kernel_rfl
@[simp] theorem buildA_33 (ps : List (Nat × A)) : buildA Tryz.prog 33 ps = (fillA (fun i => ([(0,1),(1,3),(4,3),(7,1),(8,1),(9,1),(10,1)] : List (Nat × Nat))[i]?) [A.v (Value.int IntKind.i64 0),A.v (Value.int IntKind.i64 0),A.sl true [],A.sl true [],A.v (Value.int IntKind.i64 0),A.sl true [],A.sl true [],A.sl true [],A.sl true [],A.v (Value.int IntKind.i64 0),A.sl true []] ps).map A.agg := by kernel_rfl
@[simp] theorem buildA_38 (ps : List (Nat × A)) : buildA Tryz.prog 38 ps = (fillA (fun i => ([(0,1),(1,1),(2,1),(3,1)] : List (Nat × Nat))[i]?) [A.v (Value.int IntKind.i64 0),A.v (Value.int IntKind.u8 0),A.v (Value.int IntKind.u64 0),A.v (Value.int IntKind.u64 0)] ps).map A.agg := by kernel_rfl
@[simp] theorem buildA_54 (ps : List (Nat × A)) : buildA Tryz.prog 54 ps = (fillA (fun i => ([(0,1),(1,1),(2,1),(3,11)] : List (Nat × Nat))[i]?) [A.v (Value.int IntKind.i64 0),A.v (Value.int IntKind.i64 0),A.sl true [],A.v (Value.int IntKind.i64 0),A.v (Value.int IntKind.i64 0),A.sl true [],A.sl true [],A.v (Value.int IntKind.i64 0),A.sl true [],A.sl true [],A.sl true [],A.sl true [],A.v (Value.int IntKind.i64 0),A.sl true []] ps).map A.agg := by kernel_rfl
@[simp] theorem buildA_56 (ps : List (Nat × A)) : buildA Tryz.prog 56 ps = (fillA (fun i => ([(0,1),(1,11)] : List (Nat × Nat))[i]?) [A.v (Value.int IntKind.i64 0),A.v (Value.int IntKind.i64 0),A.v (Value.int IntKind.i64 0),A.sl true [],A.sl true [],A.v (Value.int IntKind.i64 0),A.sl true [],A.sl true [],A.sl true [],A.sl true [],A.v (Value.int IntKind.i64 0),A.sl true []] ps).map A.agg := by kernel_rfl
@[simp] theorem buildA_79 (ps : List (Nat × A)) : buildA Tryz.prog 79 ps = (fillA (fun i => ([(0,1),(1,1),(2,1)] : List (Nat × Nat))[i]?) [A.sl true [],A.sl true [],A.sl true []] ps).map A.agg := by kernel_rfl
@[simp] theorem buildA_87 (ps : List (Nat × A)) : buildA Tryz.prog 87 ps = (fillA (fun i => ([(0,1)] : List (Nat × Nat))[i]?) [A.sl true []] ps).map A.agg := by kernel_rfl
def l1_word_Bytes : CC := sR [oO 6 (.binOp .lss 3 (xT 5) (nI 8) 3)] [0,2,3,5,6] (.seq (cD 6 (.skip) (.exit 0)) (.keep [0,2,3,5] (.seq (.block 1 (sR [mO 7 5,aO 4 7] [0,2,3,4,5] (.reg [mO 8 4,mO 9 0,mO 10 4,oO 11 (.binOp .mul 3 (nI 8) (xT 10) 3),oO 12 (bO .shr 36 9 11 3),oO 13 (.convert 36 5 (xT 12)),oO 14 (iA 58 3 8),oS (.store 5 (xT 14) (xT 13))] [0,2,3,5]))) (.reg [oO 15 (.binOp .add 3 (xT 5) (nI 1) 3),mO 5 15] [0,2,3,5])))) 
def c_word_Bytes : CC := sR [oN 2 (.alloc 58) [0]] [0,2] (sR [oN 3 (.alloc 58) [1]] [0,2,3] (.seq (sR [oO 5 (.move (nI 0))] [0,2,3,5] (.block 0 (.loop l1_word_Bytes))) (.keep [2,3] (sR [lO 16 58 3,oS (.store 58 (xT 2) (xT 16))] [2] (.ret)))))
theorem t_word_Bytes : Txt Tryz.prog 49 17 [(.cell 2 58)] c_word_Bytes := txt_of (code := Tryz.f49.body.getD .ret) mixed (by kernel_rfl) Tryz.func49 (by kernel_rfl) Tryz.ntmps49 (by kernel_rfl) (ls := lsOf c_word_Bytes) (by kernel_rfl)
def l1_word_Unlike : CC := sR [oO 13 (.binOp .lss 3 (xT 12) (nI 8) 3)] [5,11,12,13] (.seq (cD 13 (.skip) (.exit 0)) (.keep [5,11,12] (.seq (.block 1 (sR [mO 14 12,oO 15 (.index 58 (xT 11) (xT 12)),aO 6 14,aO 7 15] [5,6,7,11,12] (sR [mO 16 7,oO 17 (.binOp .neq 5 (xT 16) (.const (.int .u8 0)) 5)] [5,6,11,12,17] (cD 17 (.reg [mO 18 5,mO 19 6,oO 20 (.binOp .shl 5 (.const (.int .u8 1)) (xT 19) 3),oO 21 (bO .or 5 18 20 5),aO 5 21] [5,11,12]) (.skip))))) (.keep [5,11,12] (.reg [oO 22 (.binOp .add 3 (xT 12) (nI 1) 3),mO 12 22] [5,11,12]))))) 
def c_word_Unlike : CC := sR [oO 4 (.assign (.const (.int .u8 0)))] [0,1] (sR [oO 5 (.assign (.const (.int .u8 0)))] [0,1,5] (.seq (sR [mO 8 0,mO 9 1,oO 10 (bO .xor 36 8 9 36),oO 11 (cL 49 #[(xT 10)] #[36]),oO 12 (.move (nI 0))] [5,11,12] (.block 0 (.loop l1_word_Unlike))) (.keep [5] (sR [mO 23 5,aO 4 23] [4] (.ret)))))
theorem t_word_Unlike : Txt Tryz.prog 29 24 [(.tmp 4)] c_word_Unlike := txt_of (code := Tryz.f29.body.getD .ret) mixed (by kernel_rfl) Tryz.func29 (by kernel_rfl) Tryz.ntmps29 (by kernel_rfl) (ls := lsOf c_word_Unlike) (by kernel_rfl)
def c_normal_Idle : CC := sR [oN 3 (.box 33 (xT 1)) [0],oO 4 (.assign (nB false))] [0,3] (sR [fO 5 33 3 0,lO 6 3 5,oO 7 (.binOp .eql 3 (xT 6) (nI 0) 3),mO 8 7,oG 9 (mV 0) 8 false,oG 10 (.binOp .eql 3 (xT 9) (nI 9) 3) 8 false,oG 11 (mV 10) 8 false,oG 12 (fA 33 3 0) 11 true,oG 13 (lD 3 12) 11 true,oG 14 (.binOp .eql 3 (xT 13) (nI 2) 3) 11 true,oG 15 (.pick (xT 11) (xT 14) (nB false)) 8 false,oG 16 (mV 15) 8 false,oG 17 (fA 33 3 3) 16 true,oG 18 (lD 29 17) 16 true,oG 19 (bL 18 29) 16 true,oG 20 (fA 33 3 4) 16 true,oG 21 (lD 30 20) 16 true,oG 22 (bL 21 30) 16 true,oG 23 (bO .add 3 19 22 3) 16 true,oG 24 (.binOp .eql 3 (xT 23) (nI 0) 3) 16 true,oG 25 (.pick (xT 16) (xT 24) (nB false)) 8 false,oO 26 (.pick (xT 8) (nB true) (xT 25)),aO 4 26] [4] (.ret))
theorem t_normal_Idle : Txt Tryz.prog 64 27 [(.tmp 4)] c_normal_Idle := txt_of (code := Tryz.f64.body.getD .ret) mixed (by kernel_rfl) Tryz.func64 (by kernel_rfl) Tryz.ntmps64 (by kernel_rfl) (ls := lsOf c_normal_Idle) (by kernel_rfl)
def l1_normal_wait : CC := sR [oO 9 (bO .lss 3 8 7 3)] [0,6,7,8,9] (.seq (cD 9 (.skip) (.exit 0)) (.keep [0,6,7,8] (.seq (.block 1 (sR [oO 10 (iA 23 6 8),lO 11 25 10,oN 5 (.alloc 25) [1],oS (.store 25 (xT 5) (xT 11))] [0,5,6,7,8] (.reg [mO 12 0,oO 13 (.nilCheck (xT 12)),⟨some 14,(lD 23 13),none,[],2,[],true⟩,⟨some 15,(lD 25 5),none,[],3,[],true⟩,⟨some 16,(cL 27 #[(xT 15)] #[25]),none,[],4,[2],true⟩,oO 17 (bL 14 23),⟨some 18,(.buildSlice 23 1 #[(0,(.const (.agg #[(.int .i64 0),(.slice none 0 0),(.slice none 0 0)])))]),none,[],6,[2,3,4],false⟩,oN 19 (bC .append #[(xT 14),(xT 18)] #[23,23]) [2],oO 20 (iA 23 19 17),⟨none,(.store 25 (xT 20) (xT 16)),none,[],9,[],true⟩,oO 21 (.nilCheck (xT 12)),⟨none,(.store 23 (xT 21) (xT 19)),none,[],11,[9],false⟩] [0,6,7,8]))) (.reg [oO 22 (.binOp .add 3 (xT 8) (nI 1) 3),mO 8 22] [0,6,7,8])))) 
def c_normal_wait : CC := sR [mO 6 1,oO 7 (bL 6 23),oO 8 (.move (nI 0))] [0,6,7,8] (.block 0 (.loop l1_normal_wait))
theorem t_normal_wait : Txt Tryz.prog 63 23 [] c_normal_wait := txt_of (code := Tryz.f63.body.getD .ret) mixed (by kernel_rfl) Tryz.func63 (by kernel_rfl) Tryz.ntmps63 (by kernel_rfl) (ls := lsOf c_normal_wait) (by kernel_rfl)
def k1_normal_writer_flush : CC := .seq (sR [mO 23 0,oO 24 (.nilCheck (xT 23)),fO 25 79 24 2,lO 26 23 25,oO 27 (bL 26 23),oO 28 (.binOp .gtr 3 (xT 27) (nI 0) 3)] [0,28] (cD 28 (.reg [mO 29 0,oO 30 (.nilCheck (xT 29)),fO 31 79 30 0,⟨some 32,(lD 31 31),none,[],3,[],true⟩,mO 33 0,oO 34 (.nilCheck (xT 33)),fO 35 79 34 2,⟨some 36,(lD 23 35),none,[],7,[],true⟩,oO 37 (.build 54 #[(0,(nI 2)),(2,(xT 36))]),oO 38 (bL 32 31),⟨some 39,(.buildSlice 31 1 #[(0,(.const (.agg #[(.int .i64 0),(.int .i64 0),(.slice none 0 0),(.int .i64 0),(.int .i64 0),(.slice none 0 0),(.slice none 0 0),(.int .i64 0),(.slice none 0 0),(.slice none 0 0),(.slice none 0 0),(.slice none 0 0),(.int .i64 0),(.slice none 0 0)])))]),none,[],10,[3,7],false⟩,oN 40 (bC .append #[(xT 32),(xT 39)] #[31,31]) [2],oO 41 (iA 31 40 38),⟨none,(.store 54 (xT 41) (xT 37)),none,[],13,[],true⟩,oO 42 (.nilCheck (xT 29)),fO 43 79 42 0,⟨none,(.store 31 (xT 43) (xT 40)),none,[],16,[13],false⟩] [0]) (.skip))) (.keep [0] (.reg [mO 44 0,mO 45 0,oO 46 (.nilCheck (xT 44)),fO 47 79 46 1,oS (.store 23 (xT 47) nS),oO 48 (.nilCheck (xT 45)),fO 49 79 48 2,oS (.store 23 (xT 49) nS)] [])) 
def c_normal_writer_flush : CC := .seq (sR [mO 2 0,oO 3 (.nilCheck (xT 2)),fO 4 79 3 1,lO 5 23 4,oO 6 (bL 5 23),oO 7 (.binOp .gtr 3 (xT 6) (nI 0) 3)] [0,7] (cD 7 (.reg [mO 8 0,oO 9 (.nilCheck (xT 8)),fO 10 79 9 0,⟨some 11,(lD 31 10),none,[],3,[],true⟩,mO 12 0,oO 13 (.nilCheck (xT 12)),fO 14 79 13 1,⟨some 15,(lD 23 14),none,[],7,[],true⟩,oO 16 (.build 54 #[(0,(nI 1)),(2,(xT 15))]),oO 17 (bL 11 31),⟨some 18,(.buildSlice 31 1 #[(0,(.const (.agg #[(.int .i64 0),(.int .i64 0),(.slice none 0 0),(.int .i64 0),(.int .i64 0),(.slice none 0 0),(.slice none 0 0),(.int .i64 0),(.slice none 0 0),(.slice none 0 0),(.slice none 0 0),(.slice none 0 0),(.int .i64 0),(.slice none 0 0)])))]),none,[],10,[3,7],false⟩,oN 19 (bC .append #[(xT 11),(xT 18)] #[31,31]) [1],oO 20 (iA 31 19 17),⟨none,(.store 54 (xT 20) (xT 16)),none,[],13,[],true⟩,oO 21 (.nilCheck (xT 8)),fO 22 79 21 0,⟨none,(.store 31 (xT 22) (xT 19)),none,[],16,[13],false⟩] [0]) (.skip))) (.keep [0] k1_normal_writer_flush)
theorem t_normal_writer_flush : Txt Tryz.prog 65 50 [] c_normal_writer_flush := txt_of (code := Tryz.f65.body.getD .ret) mixed (by kernel_rfl) Tryz.func65 (by kernel_rfl) Tryz.ntmps65 (by kernel_rfl) (ls := lsOf c_normal_writer_flush) (by kernel_rfl)
def c_normal_writer_keep : CC := sR [mO 5 0,oO 6 (cL 65 #[(xT 5)] #[77])] [0,1] (.seq (sR [mO 7 0,oO 8 (.nilCheck (xT 7)),fO 9 79 8 0,lO 10 31 9,oO 11 (bL 10 31),oO 12 (.binOp .sub 3 (xT 11) (nI 1) 3),aO 4 12] [0,1,4] (sR [mO 13 4,oO 14 (.binOp .geq 3 (xT 13) (nI 0) 3),mO 15 14,oG 16 (mV 0) 15 true,oG 17 (.nilCheck (xT 16)) 15 true,oG 18 (fA 79 17 0) 15 true,oG 19 (lD 31 18) 15 true,oG 20 (mV 4) 15 true,oG 21 (iA 31 19 20) 15 true,oG 22 (fA 54 21 0) 15 true,oG 23 (lD 3 22) 15 true,oG 24 (.binOp .eql 3 (xT 23) (nI 0) 3) 15 true,oO 25 (.pick (xT 15) (xT 24) (nB false))] [0,1,4,25] (cD 25 (sR [mO 26 0,oO 27 (.nilCheck (xT 26)),fO 28 79 27 0,lO 29 31 28,mO 30 4,oO 31 (iA 31 29 30),fO 32 54 31 1,lO 33 3 32,mO 34 1,oO 35 (bO .add 3 33 34 3),oO 36 (iA 31 29 30),fO 37 54 36 1,oS (.store 3 (xT 37) (xT 35))] [] (.ret)) (.skip)))) (.keep [0,1] (.reg [mO 38 0,oO 39 (.nilCheck (xT 38)),fO 40 79 39 0,⟨some 41,(lD 31 40),none,[],3,[],true⟩,mO 42 1,oO 43 (.build 54 #[(0,(nI 0)),(1,(xT 42))]),oO 44 (bL 41 31),⟨some 45,(.buildSlice 31 1 #[(0,(.const (.agg #[(.int .i64 0),(.int .i64 0),(.slice none 0 0),(.int .i64 0),(.int .i64 0),(.slice none 0 0),(.slice none 0 0),(.int .i64 0),(.slice none 0 0),(.slice none 0 0),(.slice none 0 0),(.slice none 0 0),(.int .i64 0),(.slice none 0 0)])))]),none,[],7,[3],false⟩,oN 46 (bC .append #[(xT 41),(xT 45)] #[31,31]) [1],oO 47 (iA 31 46 44),⟨none,(.store 54 (xT 47) (xT 43)),none,[],10,[],true⟩,oO 48 (.nilCheck (xT 38)),fO 49 79 48 0,⟨none,(.store 31 (xT 49) (xT 46)),none,[],13,[10],false⟩] [])))
theorem t_normal_writer_keep : Txt Tryz.prog 62 50 [] c_normal_writer_keep := txt_of (code := Tryz.f62.body.getD .ret) mixed (by kernel_rfl) Tryz.func62 (by kernel_rfl) Tryz.ntmps62 (by kernel_rfl) (ls := lsOf c_normal_writer_keep) (by kernel_rfl)
def l1_normal_Ops : CC := sR [oO 14 (bO .lss 3 13 12 3)] [0,5,11,12,13,14] (.seq (cD 14 (.skip) (.exit 0)) (.keep [0,5,11,12,13] (.seq (.block 1 (sR [oO 15 (iA 31 11 13),lO 16 54 15,oN 7 (.alloc 54) [1],oS (.store 54 (xT 7) (xT 16))] [0,5,7,11,12,13] (sR [fO 17 54 7 0,lO 18 3 17] [0,5,7,11,12,13,18] (.block 2 (sR [oO 20 (.binOp .eql 3 (xT 18) (nI 0) 3),aO 19 20] [0,5,7,11,12,13,18,19] (cD 19 (.reg [mO 21 5,fO 22 54 7 1,lO 23 3 22,oO 24 (cL 62 #[(xT 21),(xT 23)] #[77,3])] [0,5,11,12,13]) (sR [oO 26 (.binOp .eql 3 (xT 18) (nI 1) 3),aO 25 26] [0,5,7,11,12,13,18,25] (cD 25 (.reg [mO 27 5,oO 28 (.nilCheck (xT 27)),fO 29 79 28 1,fO 30 54 7 2,lO 31 23 30,oO 32 (cL 63 #[(xT 29),(xT 31)] #[82,23])] [0,5,11,12,13]) (sR [oO 34 (.binOp .eql 3 (xT 18) (nI 2) 3),aO 33 34] [0,5,7,11,12,13,18,33] (cD 33 (.reg [mO 35 5,oO 36 (.nilCheck (xT 35)),fO 37 79 36 2,fO 38 54 7 2,lO 39 23 38,oO 40 (cL 63 #[(xT 37),(xT 39)] #[82,23])] [0,5,11,12,13]) (sR [oO 42 (.binOp .eql 3 (xT 18) (nI 3) 3),aO 41 42] [0,5,7,11,12,13,41] (cD 41 (sR [fO 43 54 7 3,lO 44 33 43,oO 45 (cL 25 #[(xT 44)] #[33]),oN 8 (.alloc 33) [2],oS (.store 33 (xT 8) (xT 45))] [0,5,8,11,12,13] (sR [mO 46 0,lO 47 33 8,oO 48 (cL 64 #[(xT 46),(xT 47)] #[3,33])] [0,5,8,11,12,13,48] (cD 48 (.reg [mO 49 5,oO 50 (cL 62 #[(xT 49),(nI 1)] #[77,3])] [0,5,11,12,13]) (sR [mO 51 5,oO 52 (cL 65 #[(xT 51)] #[77])] [0,5,8,11,12,13] (.reg [mO 53 5,oO 54 (.nilCheck (xT 53)),fO 55 79 54 0,⟨some 56,(lD 31 55),none,[],3,[],true⟩,⟨some 57,(lD 33 8),none,[],4,[],true⟩,oO 58 (.build 54 #[(0,(nI 3)),(3,(xT 57))]),oO 59 (bL 56 31),⟨some 60,(.buildSlice 31 1 #[(0,(.const (.agg #[(.int .i64 0),(.int .i64 0),(.slice none 0 0),(.int .i64 0),(.int .i64 0),(.slice none 0 0),(.slice none 0 0),(.int .i64 0),(.slice none 0 0),(.slice none 0 0),(.slice none 0 0),(.slice none 0 0),(.int .i64 0),(.slice none 0 0)])))]),none,[],7,[3,4],false⟩,oN 61 (bC .append #[(xT 56),(xT 60)] #[31,31]) [3],oO 62 (iA 31 61 59),⟨none,(.store 54 (xT 62) (xT 58)),none,[],10,[],true⟩,oO 63 (.nilCheck (xT 53)),fO 64 79 63 0,⟨none,(.store 31 (xT 64) (xT 61)),none,[],13,[10],false⟩] [0,5,11,12,13]))))) (.skip))))))))))))) (.keep [0,5,11,12,13] (.reg [oO 65 (.binOp .add 3 (xT 13) (nI 1) 3),mO 13 65] [0,5,11,12,13]))))) 
def c_normal_Ops : CC := sR [oO 4 (.assign nS)] [0,1] (sR [oO 9 (.build 79 #[]),oN 10 (.box 79 (xT 9)) [0],aO 5 10] [0,1,5] (.seq (sR [mO 11 1,oO 12 (bL 11 31),oO 13 (.move (nI 0))] [0,5,11,12,13] (.block 0 (.loop l1_normal_Ops))) (.keep [5] (sR [mO 66 5,oO 67 (cL 65 #[(xT 66)] #[77])] [5] (sR [mO 68 5,oO 69 (.nilCheck (xT 68)),fO 70 79 69 0,lO 71 31 70,aO 4 71] [4] (.ret))))))
theorem t_normal_Ops : Txt Tryz.prog 41 72 [(.tmp 4)] c_normal_Ops := txt_of (code := Tryz.f41.body.getD .ret) mixed (by kernel_rfl) Tryz.func41 (by kernel_rfl) Tryz.ntmps41 (by kernel_rfl) (ls := lsOf c_normal_Ops) (by kernel_rfl)
def l1_normal_Edit : CC := sR [oO 35 (bO .lss 3 34 33 3)] [2,3,32,33,34,35] (.seq (cD 35 (.skip) (.exit 1)) (.keep [2,3,32,33,34] (.seq (.block 2 (sR [oO 36 (iA 30 32 34),lO 37 56 36,oN 5 (.alloc 56) [4],oS (.store 56 (xT 5) (xT 37))] [2,3,5,32,33,34] (.reg [fO 38 33 3 4,⟨some 39,(lD 30 38),none,[],1,[],true⟩,fO 40 56 5 0,⟨some 41,(lD 3 40),none,[],3,[],true⟩,fO 42 56 5 1,lO 43 33 42,⟨some 44,(cL 25 #[(xT 43)] #[33]),none,[],6,[1,3],false⟩,oO 45 (.build 56 #[(0,(xT 41)),(1,(xT 44))]),⟨some 46,(.buildSlice 30 1 #[(0,(xT 45))]),none,[],8,[1],false⟩,oN 47 (bC .append #[(xT 39),(xT 46)] #[30,30]) [5],fO 48 33 3 4,oS (.store 30 (xT 48) (xT 47))] [2,3,32,33,34]))) (.reg [oO 49 (.binOp .add 3 (xT 34) (nI 1) 3),mO 34 49] [2,3,32,33,34])))) 
def c_normal_Edit : CC := sR [oN 1 (.box 33 (xT 0)) [0],oN 2 (.alloc 33) [1]] [1,2] (sR [fO 6 33 1 0,lO 7 3 6,fO 8 33 1 5,lO 9 3 8,oO 10 (.build 33 #[(0,(xT 7)),(5,(xT 9))]),oN 3 (.alloc 33) [2],oS (.store 33 (xT 3) (xT 10))] [1,2,3] (.seq (sR [fO 11 33 1 0,lO 12 3 11] [1,2,3,12] (.block 0 (sR [oO 14 (.binOp .eql 3 (xT 12) (nI 1) 3),aO 13 14] [1,2,3,12,13] (cD 13 (.reg [fO 15 33 1 1,lO 16 25 15,⟨some 17,(cL 27 #[(xT 16)] #[25]),none,[],2,[],true⟩,fO 18 33 1 2,⟨some 19,(lD 25 18),none,[],4,[2],false⟩,oO 20 (cL 27 #[(xT 19)] #[25]),fO 21 33 3 1,oS (.store 25 (xT 21) (xT 17)),fO 22 33 3 2,oS (.store 25 (xT 22) (xT 20))] [2,3]) (sR [oO 24 (.binOp .eql 3 (xT 12) (nI 2) 3),aO 23 24] [1,2,3,12,23] (cD 23 (sR [fO 25 33 3 3,lO 26 29 25,fO 27 33 1 3,lO 28 29 27,oN 29 (bC .append #[(xT 26),(xT 28)] #[29,29]) [3],fO 30 33 3 3,oS (.store 29 (xT 30) (xT 29))] [1,2,3] (sR [fO 31 33 1 4,lO 32 30 31,oO 33 (bL 32 30),oO 34 (.move (nI 0))] [2,3,32,33,34] (.block 1 (.loop l1_normal_Edit)))) (sR [oO 51 (.binOp .eql 3 (xT 12) (nI 3) 3),aO 50 51] [1,2,3,50] (cD 50 (.reg [fO 52 33 1 5,lO 53 3 52,fO 54 33 1 6,lO 55 31 54,oO 56 (cL 41 #[(xT 53),(xT 55)] #[3,31]),fO 57 33 3 6,oS (.store 31 (xT 57) (xT 56))] [2,3]) (.skip))))))))) (.keep [2,3] (sR [lO 58 33 3,oS (.store 33 (xT 2) (xT 58))] [2] (.ret)))))
theorem t_normal_Edit : Txt Tryz.prog 25 59 [(.cell 2 33)] c_normal_Edit := txt_of (code := Tryz.f25.body.getD .ret) mixed (by kernel_rfl) Tryz.func25 (by kernel_rfl) Tryz.ntmps25 (by kernel_rfl) (ls := lsOf c_normal_Edit) (by kernel_rfl)
def c_diff_Word : CC := sR [oN 6 (.alloc 38) [0],oO 7 (.assign (nB false))] [0,1,2,6] (sR [mO 9 1,mO 10 2,oO 11 (cL 29 #[(xT 9),(xT 10)] #[36,36]),aO 8 11] [0,1,2,6,8] (.seq (sR [mO 12 8,oO 13 (.binOp .eql 5 (xT 12) (.const (.int .u8 0)) 5)] [0,1,2,6,8,13] (cD 13 (sR [oO 14 (.build 38 #[]),oS (.store 38 (xT 6) (xT 14)),oO 7 (.assign (nB false))] [6,7] (.ret)) (.skip))) (.keep [0,1,2,6,8] (sR [mO 15 0,mO 16 8,mO 17 1,mO 18 8,oO 19 (cL 30 #[(.const (.int .u64 0)),(xT 17),(xT 18)] #[36,36,5]),mO 20 2,mO 21 8,oO 22 (cL 30 #[(.const (.int .u64 0)),(xT 20),(xT 21)] #[36,36,5]),oO 23 (.build 38 #[(0,(xT 15)),(1,(xT 16)),(2,(xT 19)),(3,(xT 22))]),oS (.store 38 (xT 6) (xT 23)),oO 7 (.assign (nB true))] [6,7] (.ret)))))
theorem t_diff_Word : Txt Tryz.prog 11 24 [(.cell 6 38),(.tmp 7)] c_diff_Word := txt_of (code := Tryz.f11.body.getD .ret) mixed (by kernel_rfl) Tryz.func11 (by kernel_rfl) Tryz.ntmps11 (by kernel_rfl) (ls := lsOf c_diff_Word) (by kernel_rfl)
def l1_diff_structure : CC := sR [oO 22 (bO .lss 3 21 20 3)] [2,3,4,6,7,20,21,22] (.seq (cD 22 (.skip) (.exit 0)) (.keep [2,3,4,6,7,20,21] (.seq (.block 1 (sR [mO 23 21,aO 8 23] [2,3,4,6,7,8,20,21] (sR [mO 25 8,⟨some 26,(lD 25 3),none,[],1,[],true⟩,mO 27 8,⟨some 28,(cL 67 #[(xT 26),(xT 27)] #[25,3]),none,[],3,[],true⟩,⟨some 29,(lD 25 4),none,[],4,[3],true⟩,mO 30 8,⟨some 31,(cL 67 #[(xT 29),(xT 30)] #[25,3]),none,[],6,[],true⟩,⟨some 32,(cL 11 #[(xT 25),(xT 28),(xT 31)] #[3,36,36]),none,[],7,[],true⟩,mO 24 32,xO 33 24 0,xO 34 24 1,⟨some 9,(.alloc 38),none,[4],11,[1,3,4,6,7],false⟩,oS (.store 38 (xT 9) (xT 33)),aO 10 34] [2,3,4,6,7,9,10,20,21] (sR [mO 35 10] [2,3,4,6,7,9,20,21,35] (cD 35 (.reg [fO 36 33 7 3,lO 37 29 36,lO 38 38 9,oO 39 (.buildSlice 29 1 #[(0,(xT 38))]),oN 40 (bC .append #[(xT 37),(xT 39)] #[29,29]) [5],fO 41 33 7 3,oS (.store 29 (xT 41) (xT 40))] [2,3,4,6,7,20,21]) (.skip)))))) (.keep [2,3,4,6,7,20,21] (.reg [oO 42 (.binOp .add 3 (xT 21) (nI 1) 3),mO 21 42] [2,3,4,6,7,20,21])))))
def l2_diff_structure : CC := sR [oO 51 (bO .lss 3 50 49 3)] [2,3,4,6,7,49,50,51] (.seq (cD 51 (.skip) (.exit 2)) (.keep [2,3,4,6,7,49,50] (.seq (.block 3 (sR [mO 52 50,aO 11 52] [2,3,4,6,7,11,49,50] (sR [⟨some 53,(lD 25 3),none,[],0,[],true⟩,mO 54 11,⟨some 55,(cL 68 #[(xT 53),(xT 54)] #[25,3]),none,[],2,[],true⟩,⟨some 56,(lD 25 4),none,[],3,[2],true⟩,mO 57 11,⟨some 58,(cL 68 #[(xT 56),(xT 57)] #[25,3]),none,[],5,[],true⟩,mO 59 2,⟨some 60,(cL 26 #[(xT 55),(xT 58),(xT 59)] #[25,25,3]),none,[],7,[],true⟩,⟨some 12,(.alloc 33),none,[6],8,[0,2,3,5,7],false⟩,oS (.store 33 (xT 12) (xT 60))] [2,3,4,6,7,11,12,49,50] (sR [fO 61 33 12 0,lO 62 3 61,oO 63 (.binOp .neq 3 (xT 62) (nI 0) 3)] [2,3,4,6,7,11,12,49,50,63] (cD 63 (.reg [fO 64 33 7 4,lO 65 30 64,mO 66 11,lO 67 33 12,oO 68 (.build 56 #[(0,(xT 66)),(1,(xT 67))]),oO 69 (.buildSlice 30 1 #[(0,(xT 68))]),oN 70 (bC .append #[(xT 65),(xT 69)] #[30,30]) [7],fO 71 33 7 4,oS (.store 30 (xT 71) (xT 70))] [2,3,4,6,7,49,50]) (.skip)))))) (.keep [2,3,4,6,7,49,50] (.reg [oO 72 (.binOp .add 3 (xT 50) (nI 1) 3),mO 50 72] [2,3,4,6,7,49,50]))))) 
def c_diff_structure : CC := sR [oN 3 (.box 25 (xT 0)) [0],oN 4 (.box 25 (xT 1)) [1],oN 6 (.alloc 33) [2]] [2,3,4,6] (sR [oO 13 (.build 33 #[(0,(nI 2))]),oN 7 (.alloc 33) [3],oS (.store 33 (xT 7) (xT 13))] [2,3,4,6,7] (.seq (sR [fO 14 25 3 1,lO 15 22 14,oO 16 (bL 15 22),fO 17 25 4 1,lO 18 22 17,oO 19 (bL 18 22),oO 20 (bC .max #[(xT 16),(xT 19)] #[3,3]),oO 21 (.move (nI 0))] [2,3,4,6,7,20,21] (.block 0 (.loop l1_diff_structure))) (.keep [2,3,4,6,7] (.seq (sR [fO 43 25 3 2,lO 44 23 43,oO 45 (bL 44 23),fO 46 25 4 2,lO 47 23 46,oO 48 (bL 47 23),oO 49 (bC .max #[(xT 45),(xT 48)] #[3,3]),oO 50 (.move (nI 0))] [2,3,4,6,7,49,50] (.block 2 (.loop l2_diff_structure))) (.keep [6,7] (sR [lO 73 33 7,oS (.store 33 (xT 6) (xT 73))] [6] (.ret)))))))
theorem t_diff_structure : Txt Tryz.prog 43 74 [(.cell 6 33)] c_diff_structure := txt_of (code := Tryz.f43.body.getD .ret) mixed (by kernel_rfl) Tryz.func43 (by kernel_rfl) Tryz.ntmps43 (by kernel_rfl) (ls := lsOf c_diff_structure) (by kernel_rfl)
def l1_diff_classes_of : CC := sR [oO 22 (bO .lss 3 21 20 3)] [0,5,7,10,11,12,19,20,21,22] (.seq (cD 22 (.skip) (.exit 2)) (.keep [0,5,7,10,11,12,19,20,21] (.seq (.block 3 (sR [mO 23 21,oO 24 (iA 23 19 21),lO 25 25 24,oN 9 (.alloc 25) [2],aO 8 23,oS (.store 25 (xT 9) (xT 25))] [0,5,7,8,9,10,11,12,19,20,21] (sR [lO 26 25 9,lO 27 25 7,oO 28 (cL 42 #[(xT 26),(xT 27)] #[25,25])] [0,5,7,8,10,11,12,19,20,21,28] (cD 28 (sR [mO 29 5,mO 30 8,oO 31 (.buildSlice 88 1 #[(0,(xT 30))]),oN 32 (bC .append #[(xT 29),(xT 31)] #[88,88]) [3],aO 5 32] [0,5,10,11,12] (.exit 1)) (.skip))))) (.keep [0,5,7,10,11,12,19,20,21] (.reg [oO 33 (.binOp .add 3 (xT 21) (nI 1) 3),mO 21 33] [0,5,7,10,11,12,19,20,21])))))
def l2_diff_classes_of : CC := sR [oO 13 (bO .lss 3 12 11 3)] [0,5,10,11,12,13] (.seq (cD 13 (.skip) (.exit 0)) (.keep [0,5,10,11,12] (.seq (.block 1 (sR [oO 14 (iA 23 10 12),lO 15 25 14,oN 7 (.alloc 25) [1],oS (.store 25 (xT 7) (xT 15))] [0,5,7,10,11,12] (.seq (sR [mO 16 0,oO 17 (.nilCheck (xT 16)),fO 18 87 17 0,lO 19 23 18,oO 20 (bL 19 23),oO 21 (.move (nI 0))] [0,5,7,10,11,12,19,20,21] (.block 2 (.loop l1_diff_classes_of))) (.keep [0,5,7,10,11,12] (sR [mO 34 5,mO 35 0,oO 36 (.nilCheck (xT 35)),fO 37 87 36 0,lO 38 23 37,oO 39 (bL 38 23),oO 40 (.buildSlice 88 1 #[(0,(xT 39))]),oN 41 (bC .append #[(xT 34),(xT 40)] #[88,88]) [3],aO 5 41] [0,5,7,10,11,12] (.reg [mO 42 0,oO 43 (.nilCheck (xT 42)),fO 44 87 43 0,⟨some 45,(lD 23 44),none,[],3,[],true⟩,⟨some 46,(lD 25 7),none,[],4,[],true⟩,oO 47 (bL 45 23),⟨some 48,(.buildSlice 23 1 #[(0,(.const (.agg #[(.int .i64 0),(.slice none 0 0),(.slice none 0 0)])))]),none,[],6,[3,4],false⟩,oN 49 (bC .append #[(xT 45),(xT 48)] #[23,23]) [5],oO 50 (iA 23 49 47),⟨none,(.store 25 (xT 50) (xT 46)),none,[],9,[],true⟩,oO 51 (.nilCheck (xT 42)),fO 52 87 51 0,⟨none,(.store 23 (xT 52) (xT 49)),none,[],12,[9],false⟩] [0,5,10,11,12])))))) (.keep [0,5,10,11,12] (.reg [oO 53 (.binOp .add 3 (xT 12) (nI 1) 3),mO 12 53] [0,5,10,11,12]))))) 
def c_diff_classes_of : CC := sR [oO 4 (.assign nS)] [0,1] (.scope (sR [oO 5 (.assign nS)] [0,1,5] (.seq (.skip) (.seq (sR [mO 10 1,oO 11 (bL 10 23),oO 12 (.move (nI 0))] [0,5,10,11,12] (.block 0 (.loop l2_diff_classes_of))) (.keep [5] (.stop (sR [mO 54 5,aO 4 54] [4] (.ret))))))))
theorem t_diff_classes_of : Txt Tryz.prog 69 55 [(.tmp 4)] c_diff_classes_of := txt_of (code := Tryz.f69.body.getD .ret) mixed (by kernel_rfl) Tryz.func69 (by kernel_rfl) Tryz.ntmps69 (by kernel_rfl) (ls := lsOf c_diff_classes_of) (by kernel_rfl)
def c_diff_some : CC := sR [oO 4 (.assign nS)] [0,1] (.seq (sR [mO 5 1,oO 6 (bL 5 23),oO 7 (.binOp .eql 3 (xT 6) (nI 0) 3)] [0,1,7] (cD 7 (sR [oO 4 (.assign nS)] [4] (.ret)) (.skip))) (.keep [0,1] (sR [mO 8 0,mO 9 1,oO 10 (.build 54 #[(0,(xT 8)),(2,(xT 9))]),oO 11 (.buildSlice 31 1 #[(0,(xT 10))]),aO 4 11] [4] (.ret))))
theorem t_diff_some : Txt Tryz.prog 108 12 [(.tmp 4)] c_diff_some := txt_of (code := Tryz.f108.body.getD .ret) mixed (by kernel_rfl) Tryz.func108 (by kernel_rfl) Tryz.ntmps108 (by kernel_rfl) (ls := lsOf c_diff_some) (by kernel_rfl)
def c_diff_remove : CC := sR [oO 2 (.assign nS)] [0] (sR [mO 3 0,oO 4 (cL 108 #[(nI 1),(xT 3)] #[3,23]),aO 2 4] [2] (.ret))
theorem t_diff_remove : Txt Tryz.prog 92 5 [(.tmp 2)] c_diff_remove := txt_of (code := Tryz.f92.body.getD .ret) mixed (by kernel_rfl) Tryz.func92 (by kernel_rfl) Tryz.ntmps92 (by kernel_rfl) (ls := lsOf c_diff_remove) (by kernel_rfl)
def c_diff_insert : CC := sR [oO 2 (.assign nS)] [0] (sR [mO 3 0,oO 4 (cL 108 #[(nI 2),(xT 3)] #[3,23]),aO 2 4] [2] (.ret))
theorem t_diff_insert : Txt Tryz.prog 90 5 [(.tmp 2)] c_diff_insert := txt_of (code := Tryz.f90.body.getD .ret) mixed (by kernel_rfl) Tryz.func90 (by kernel_rfl) Tryz.ntmps90 (by kernel_rfl) (ls := lsOf c_diff_insert) (by kernel_rfl)
def l1_diff_Gap : CC := sR [oO 29 (bO .lss 3 28 27 3)] [1,2,3,9,11,12,20,21,22,26,27,28,29] (.seq (cD 29 (.skip) (.exit 2)) (.keep [1,2,3,9,11,12,20,21,22,26,27,28] (.seq (.block 3 (sR [oO 30 (iA 23 26 28),lO 31 25 30,oN 14 (.alloc 25) [1],oS (.store 25 (xT 14) (xT 31))] [1,2,3,9,11,12,14,20,21,22,26,27,28] (.reg [mO 32 12,lO 33 25 11,lO 34 25 14,oO 35 (cL 109 #[(xT 33),(xT 34)] #[25,25]),oO 36 (.buildSlice 88 1 #[(0,(xT 35))]),oN 37 (bC .append #[(xT 32),(xT 36)] #[88,88]) [2],aO 12 37] [1,2,3,9,11,12,20,21,22,26,27,28]))) (.reg [oO 38 (.binOp .add 3 (xT 28) (nI 1) 3),mO 28 38] [1,2,3,9,11,12,20,21,22,26,27,28]))))
def l2_diff_Gap : CC := sR [oO 23 (bO .lss 3 22 21 3)] [1,2,3,9,20,21,22,23] (.seq (cD 23 (.skip) (.exit 0)) (.keep [1,2,3,9,20,21,22] (.seq (.block 1 (sR [oO 24 (iA 23 20 22),lO 25 25 24,oN 11 (.alloc 25) [0],oS (.store 25 (xT 11) (xT 25))] [1,2,3,9,11,20,21,22] (sR [oO 12 (.assign nS)] [1,2,3,9,11,12,20,21,22] (.seq (sR [mO 26 2,oO 27 (bL 26 23),oO 28 (.move (nI 0))] [1,2,3,9,11,12,20,21,22,26,27,28] (.block 2 (.loop l1_diff_Gap))) (.keep [1,2,3,9,12,20,21,22] (.stop (.reg [mO 39 9,mO 40 12,oO 41 (.buildSlice 124 1 #[(0,(xT 40))]),oN 42 (bC .append #[(xT 39),(xT 41)] #[124,124]) [3],aO 9 42] [1,2,3,9,20,21,22]))))))) (.keep [1,2,3,9,20,21,22] (.reg [oO 43 (.binOp .add 3 (xT 22) (nI 1) 3),mO 22 43] [1,2,3,9,20,21,22])))))
def l3_diff_Gap : CC := sR [oO 48 (bO .lss 3 47 46 3)] [1,2,3,15,16,17,45,46,47,48] (.seq (cD 48 (.skip) (.exit 4)) (.keep [1,2,3,15,16,17,45,46,47] (.seq (.block 5 (sR [oO 49 (iA 137 45 47),lO 50 139 49,oN 19 (.alloc 139) [4],oS (.store 139 (xT 19) (xT 50))] [1,2,3,15,16,17,19,45,46,47] (sR [mO 51 15,mO 52 1,mO 53 16,fO 54 139 19 0,lO 55 3 54,oO 56 (.slice 23 (xT 52) (some (xT 53)) (some (xT 55)) none),⟨some 57,(cL 92 #[(xT 56)] #[23]),none,[],6,[],true⟩,⟨some 58,(bC .append #[(xT 51),(xT 57)] #[31,31]),none,[5],7,[],true⟩,mO 59 2,mO 60 17,fO 61 139 19 1,⟨some 62,(lD 3 61),none,[],11,[6,7],false⟩,oO 63 (.slice 23 (xT 59) (some (xT 60)) (some (xT 62)) none),oO 64 (cL 90 #[(xT 63)] #[23]),oN 65 (bC .append #[(xT 58),(xT 64)] #[31,31]) [6],aO 15 65] [1,2,3,15,19,45,46,47] (sR [mO 66 15,mO 67 1,fO 68 139 19 0,lO 69 3 68,oO 70 (iA 23 67 69),lO 71 25 70,mO 72 2,fO 73 139 19 1,lO 74 3 73,oO 75 (iA 23 72 74),lO 76 25 75,mO 77 3,oO 78 (cL 26 #[(xT 71),(xT 76),(xT 77)] #[25,25,3]),oO 79 (.build 54 #[(0,(nI 3)),(3,(xT 78))]),oO 80 (.buildSlice 31 1 #[(0,(xT 79))]),oN 81 (bC .append #[(xT 66),(xT 80)] #[31,31]) [7],aO 15 81] [1,2,3,15,19,45,46,47] (.reg [fO 82 139 19 0,lO 83 3 82,oO 84 (.binOp .add 3 (xT 83) (nI 1) 3),fO 85 139 19 1,lO 86 3 85,oO 87 (.binOp .add 3 (xT 86) (nI 1) 3),aO 16 84,aO 17 87] [1,2,3,15,16,17,45,46,47]))))) (.reg [oO 88 (.binOp .add 3 (xT 47) (nI 1) 3),mO 47 88] [1,2,3,15,16,17,45,46,47])))) 
def c_diff_Gap : CC := sR [oO 8 (.assign nS)] [1,2,3] (sR [oO 9 (.assign nS)] [1,2,3,9] (.seq (sR [mO 20 1,oO 21 (bL 20 23),oO 22 (.move (nI 0))] [1,2,3,9,20,21,22] (.block 0 (.loop l2_diff_Gap))) (.keep [1,2,3,9] (sR [oO 15 (.assign nS)] [1,2,3,9,15] (sR [oO 16 (.assign (nI 0)),oO 17 (.assign (nI 0))] [1,2,3,9,15,16,17] (.stop (.seq (sR [mO 44 9,oO 45 (cL 110 #[(xT 44)] #[124]),oO 46 (bL 45 137),oO 47 (.move (nI 0))] [1,2,3,15,16,17,45,46,47] (.block 4 (.loop l3_diff_Gap))) (.keep [1,2,15,16,17] (sR [mO 89 15,mO 90 1,mO 91 16,oO 92 (.slice 23 (xT 90) (some (xT 91)) none none),oO 93 (cL 92 #[(xT 92)] #[23]),oN 94 (bC .append #[(xT 89),(xT 93)] #[31,31]) [8],mO 95 2,mO 96 17,oO 97 (.slice 23 (xT 95) (some (xT 96)) none none),oO 98 (cL 90 #[(xT 97)] #[23]),oN 99 (bC .append #[(xT 94),(xT 98)] #[31,31]) [9],aO 8 99] [8] (.ret))))))))))
theorem t_diff_Gap : Txt Tryz.prog 91 100 [(.tmp 8)] c_diff_Gap := txt_of (code := Tryz.f91.body.getD .ret) mixed (by kernel_rfl) Tryz.func91 (by kernel_rfl) Tryz.ntmps91 (by kernel_rfl) (ls := lsOf c_diff_Gap) (by kernel_rfl)
def l1_diff_ops : CC := .seq (sR [mO 19 12,mO 20 0,oO 21 (bL 20 90),oO 22 (bO .lss 3 19 21 3)] [0,3,5,9,10,11,12,22] (cD 22 (.skip) (.exit 0))) (.keep [0,3,5,9,10,11,12] (.seq (.block 1 (sR [mO 25 0,mO 26 12,oO 27 (iA 90 25 26),fO 28 95 27 1,lO 29 3 28,aO 13 29] [0,3,5,9,10,11,12,13] (.block 2 (sR [mO 40 0,mO 41 12,oO 42 (iA 90 40 41),fO 43 95 42 0,lO 44 3 43,oO 45 (.binOp .eql 3 (xT 44) (nI 0) 3),aO 39 45] [0,3,5,9,10,11,12,13,39] (cD 39 (.reg [mO 46 9,mO 47 13,oO 48 (.build 54 #[(1,(xT 47))]),oO 49 (.buildSlice 31 1 #[(0,(xT 48))]),oN 50 (bC .append #[(xT 46),(xT 49)] #[31,31]) [2],mO 51 10,mO 52 13,oO 53 (.slice 23 (xT 51) (some (xT 52)) none none),mO 54 11,mO 55 13,oO 56 (.slice 23 (xT 54) (some (xT 55)) none none),aO 9 50,aO 10 53,aO 11 56] [0,3,5,9,10,11,12]) (sR [mO 58 0,mO 59 12,oO 60 (iA 90 58 59),fO 61 95 60 0,lO 62 3 61,oO 63 (.binOp .eql 3 (xT 62) (nI 2) 3),aO 57 63] [0,3,5,9,10,11,12,13,57] (cD 57 (.reg [mO 64 9,mO 65 11,mO 66 13,oO 67 (.slice 23 (xT 65) none (some (xT 66)) none),oO 68 (cL 90 #[(xT 67)] #[23]),oN 69 (bC .append #[(xT 64),(xT 68)] #[31,31]) [3],mO 70 11,mO 71 13,oO 72 (.slice 23 (xT 70) (some (xT 71)) none none),aO 9 69,aO 11 72] [0,3,5,9,10,11,12]) (sR [mO 74 12,oO 75 (.binOp .add 3 (xT 74) (nI 1) 3),mO 76 0,oO 77 (bL 76 90),oO 78 (bO .lss 3 75 77 3),mO 79 78,oG 80 (mV 0) 79 true,oG 81 (mV 12) 79 true,oG 82 (.binOp .add 3 (xT 81) (nI 1) 3) 79 true,oG 83 (iA 90 80 82) 79 true,oG 84 (fA 95 83 0) 79 true,oG 85 (lD 3 84) 79 true,oG 86 (.binOp .eql 3 (xT 85) (nI 2) 3) 79 true,oO 87 (.pick (xT 79) (xT 86) (nB false)),aO 73 87] [0,3,5,9,10,11,12,13,73] (cD 73 (sR [mO 88 0,mO 89 12,oO 90 (.binOp .add 3 (xT 89) (nI 1) 3),oO 91 (iA 90 88 90),fO 92 95 91 1,lO 93 3 92,aO 14 93] [0,3,5,9,10,11,12,13,14] (sR [mO 94 9,fO 95 25 5 0,lO 96 3 95,mO 97 10,mO 98 13,oO 99 (.slice 23 (xT 97) none (some (xT 98)) none),mO 100 11,mO 101 14,oO 102 (.slice 23 (xT 100) none (some (xT 101)) none),mO 103 3,oO 104 (cL 91 #[(xT 96),(xT 99),(xT 102),(xT 103)] #[3,23,23,3]),oN 105 (bC .append #[(xT 94),(xT 104)] #[31,31]) [4],aO 9 105] [0,3,5,9,10,11,12,13,14] (sR [mO 106 10,mO 107 13,oO 108 (.slice 23 (xT 106) (some (xT 107)) none none),mO 109 11,mO 110 14,oO 111 (.slice 23 (xT 109) (some (xT 110)) none none),aO 10 108,aO 11 111] [0,3,5,9,10,11,12] (.reg [mO 112 12,oO 113 (.binOp .add 3 (xT 112) (nI 1) 3),aO 12 113] [0,3,5,9,10,11,12])))) (.reg [mO 30 9,mO 31 10,mO 32 13,oO 33 (.slice 23 (xT 31) none (some (xT 32)) none),oO 34 (cL 92 #[(xT 33)] #[23]),oN 35 (bC .append #[(xT 30),(xT 34)] #[31,31]) [5],mO 36 10,mO 37 13,oO 38 (.slice 23 (xT 36) (some (xT 37)) none none),aO 9 35,aO 10 38] [0,3,5,9,10,11,12])))))))))) (.keep [0,3,5,9,10,11,12] (.reg [mO 23 12,oO 24 (.binOp .add 3 (xT 23) (nI 1) 3),aO 12 24] [0,3,5,9,10,11,12])))) 
def c_diff_ops : CC := sR [oN 5 (.box 25 (xT 1)) [0],oN 6 (.box 25 (xT 2)) [1],oO 8 (.assign nS)] [0,3,5,6] (sR [oO 9 (.assign nS)] [0,3,5,6,9] (sR [fO 15 25 5 2,lO 16 23 15,fO 17 25 6 2,lO 18 23 17,aO 10 16,aO 11 18] [0,3,5,9,10,11] (.seq (sR [oO 12 (.assign (nI 0))] [0,3,5,9,10,11,12] (.block 0 (.loop l1_diff_ops))) (.keep [9] (sR [mO 114 9,aO 8 114] [8] (.ret))))))
theorem t_diff_ops : Txt Tryz.prog 72 115 [(.tmp 8)] c_diff_ops := txt_of (code := Tryz.f72.body.getD .ret) mixed (by kernel_rfl) Tryz.func72 (by kernel_rfl) Tryz.ntmps72 (by kernel_rfl) (ls := lsOf c_diff_ops) (by kernel_rfl)
def k1_diff_list : CC := sR [fO 39 25 3 0,⟨some 40,(lD 3 39),none,[],1,[],true⟩,mO 41 9,lO 42 25 3,lO 43 25 4,mO 44 2,⟨some 45,(cL 72 #[(xT 41),(xT 42),(xT 43),(xT 44)] #[90,25,25,3]),none,[],6,[1],false⟩,oO 46 (.build 33 #[(0,(nI 3)),(5,(xT 40)),(6,(xT 45))]),oS (.store 33 (xT 6) (xT 46))] [6] (.ret) 
def c_diff_list : CC := sR [oN 3 (.box 25 (xT 0)) [0],oN 4 (.box 25 (xT 1)) [1],oN 6 (.alloc 33) [2]] [2,3,4,6] (sR [oO 11 (.build 87 #[]),oN 12 (.box 87 (xT 11)) [3],aO 7 12] [2,3,4,6,7] (.stop (sR [mO 13 7,fO 14 25 3 2,lO 15 23 14,oO 16 (cL 69 #[(xT 13),(xT 15)] #[85,23]),aO 8 16] [2,3,4,6,7,8] (sR [mO 18 8,mO 19 7,fO 20 25 4 2,lO 21 23 20,oO 22 (cL 69 #[(xT 19),(xT 21)] #[85,23]),mO 23 2,oO 24 (cL 70 #[(xT 18),(xT 22),(xT 23)] #[88,88,3]),mO 17 24,xO 25 17 0,xO 26 17 1,aO 9 25,aO 10 26] [2,3,4,6,9,10] (.seq (sR [mO 27 10,oO 28 (.unOp .not 4 (xT 27))] [2,3,4,6,9,28] (cD 28 (.reg [fO 29 25 3 2,lO 30 23 29,oO 31 (bL 30 23),oO 32 (.build 95 #[(0,(nI 1)),(1,(xT 31))]),fO 33 25 4 2,lO 34 23 33,oO 35 (bL 34 23),oO 36 (.build 95 #[(0,(nI 2)),(1,(xT 35))]),oO 37 (.buildSlice 90 2 #[(0,(xT 32)),(1,(xT 36))]),oO 38 (cL 71 #[(xT 37)] #[90]),aO 9 38] [2,3,4,6,9]) (.skip))) (.keep [2,3,4,6,9] k1_diff_list))))))
theorem t_diff_list : Txt Tryz.prog 45 47 [(.cell 6 33)] c_diff_list := txt_of (code := Tryz.f45.body.getD .ret) mixed (by kernel_rfl) Tryz.func45 (by kernel_rfl) Tryz.ntmps45 (by kernel_rfl) (ls := lsOf c_diff_list) (by kernel_rfl)
def c_diff_one : CC := sR [oN 3 (.box 25 (xT 0)) [0],oN 4 (.box 25 (xT 1)) [1],oN 6 (.alloc 33) [2]] [2,3,4,6] (.seq (.block 0 (sR [lO 8 25 3,lO 9 25 4,oO 10 (cL 42 #[(xT 8),(xT 9)] #[25,25]),aO 7 10] [2,3,4,6,7] (cD 7 (sR [oO 11 (.build 33 #[]),oS (.store 33 (xT 6) (xT 11))] [6] (.ret)) (sR [fO 13 25 3 0,lO 14 3 13,oO 15 (.binOp .eql 3 (xT 14) (nI 1) 3),mO 16 15,oG 17 (fA 25 4 0) 16 true,oG 18 (lD 3 17) 16 true,oG 19 (.binOp .eql 3 (xT 18) (nI 1) 3) 16 true,oO 20 (.pick (xT 16) (xT 19) (nB false)),aO 12 20] [2,3,4,6,12] (cD 12 (sR [lO 21 25 3,lO 22 25 4,mO 23 2,oO 24 (cL 43 #[(xT 21),(xT 22),(xT 23)] #[25,25,3]),oS (.store 33 (xT 6) (xT 24))] [6] (.ret)) (sR [fO 26 25 3 0,lO 27 3 26,fO 28 25 4 0,lO 29 3 28,oO 30 (bO .eql 3 27 29 3),mO 31 30,oG 32 (fA 25 3 0) 31 true,oG 33 (lD 3 32) 31 true,oG 34 (cL 44 #[(xT 33)] #[3]) 31 true,oO 35 (.pick (xT 31) (xT 34) (nB false)),aO 25 35] [2,3,4,6,25] (cD 25 (sR [lO 36 25 3,lO 37 25 4,mO 38 2,oO 39 (cL 45 #[(xT 36),(xT 37),(xT 38)] #[25,25,3]),oS (.store 33 (xT 6) (xT 39))] [6] (.ret)) (.skip)))))))) (.keep [3,4,6] (sR [lO 40 25 3,lO 41 25 4,oO 42 (.build 33 #[(0,(nI 1)),(1,(xT 40)),(2,(xT 41))]),oS (.store 33 (xT 6) (xT 42))] [6] (.ret))))
theorem t_diff_one : Txt Tryz.prog 26 43 [(.cell 6 33)] c_diff_one := txt_of (code := Tryz.f26.body.getD .ret) mixed (by kernel_rfl) Tryz.func26 (by kernel_rfl) Tryz.ntmps26 (by kernel_rfl) (ls := lsOf c_diff_one) (by kernel_rfl)
def c_diff_Trees : CC := sR [oN 3 (.box 25 (xT 0)) [0],oN 4 (.box 25 (xT 1)) [1],oN 6 (.alloc 33) [2]] [2,3,4,6] (sR [lO 7 25 3,⟨some 8,(cL 27 #[(xT 7)] #[25]),none,[],1,[],true⟩,⟨some 9,(lD 25 4),none,[],2,[1],false⟩,oO 10 (cL 27 #[(xT 9)] #[25]),mO 11 2,oO 12 (cL 26 #[(xT 8),(xT 10),(xT 11)] #[25,25,3]),oO 13 (cL 25 #[(xT 12)] #[33]),oS (.store 33 (xT 6) (xT 13))] [6] (.ret))
theorem t_diff_Trees : Txt Tryz.prog 9 14 [(.cell 6 33)] c_diff_Trees := txt_of (code := Tryz.f9.body.getD .ret) mixed (by kernel_rfl) Tryz.func9 (by kernel_rfl) Tryz.ntmps9 (by kernel_rfl) (ls := lsOf c_diff_Trees) (by kernel_rfl)
def c_centolaw26_Good : CC := sR [oN 1 (.box 25 (xT 0)) [0],oO 2 (.assign (nB false))] [1] (sR [lO 3 25 1,oO 4 (cL 21 #[(xT 3),(nI 70),(nI 400)] #[25,3,3]),oO 5 (.binOp .geq 3 (xT 4) (nI 0) 3),mO 6 5,oG 7 (lD 25 1) 6 true,oG 8 (cL 22 #[(xT 7),(nI 64)] #[25,3]) 6 true,oO 9 (.pick (xT 6) (xT 8) (nB false)),mO 10 9,oG 11 (fA 25 1 0) 10 true,oG 12 (lD 3 11) 10 true,oG 13 (.binOp .neq 3 (xT 12) (nI 10) 3) 10 true,oO 14 (.pick (xT 10) (xT 13) (nB false)),aO 2 14] [2] (.ret))
theorem t_centolaw26_Good : Txt Tryz.prog 6 15 [(.tmp 2)] c_centolaw26_Good := txt_of (code := Tryz.f6.body.getD .ret) mixed (by kernel_rfl) Tryz.func6 (by kernel_rfl) Tryz.ntmps6 (by kernel_rfl) (ls := lsOf c_centolaw26_Good) (by kernel_rfl)
def l1_centolaw26_awake_1 : CC := .seq (sR [mO 6 4,mO 7 0,oO 8 (bL 7 22),oO 9 (bO .lss 3 6 8 3)] [0,2,3,4,9] (cD 9 (.skip) (.exit 0))) (.keep [0,2,3,4] (.seq (.block 1 (.reg [fO 12 25 3 2,⟨some 13,(lD 23 12),none,[],1,[],true⟩,mO 14 0,mO 15 4,oO 16 (iA 22 14 15),lO 17 36 16,⟨some 18,(.buildSlice 22 1 #[(0,(xT 17))]),none,[],6,[1],false⟩,oO 19 (.build 25 #[(0,(nI 10)),(1,(xT 18))]),⟨some 20,(.buildSlice 23 1 #[(0,(xT 19))]),none,[],8,[1],false⟩,oN 21 (bC .append #[(xT 13),(xT 20)] #[23,23]) [2],fO 22 25 3 2,oS (.store 23 (xT 22) (xT 21))] [0,2,3,4])) (.reg [mO 10 4,oO 11 (.binOp .add 3 (xT 10) (nI 1) 3),aO 4 11] [0,2,3,4]))) 
def c_centolaw26_awake_1 : CC := sR [oN 2 (.alloc 25) [0]] [0,2] (sR [oO 5 (.build 25 #[(0,(nI 4))]),oN 3 (.alloc 25) [1],oS (.store 25 (xT 3) (xT 5))] [0,2,3] (.seq (sR [oO 4 (.assign (nI 0))] [0,2,3,4] (.block 0 (.loop l1_centolaw26_awake_1))) (.keep [2,3] (sR [lO 23 25 3,oS (.store 25 (xT 2) (xT 23))] [2] (.ret)))))
theorem t_centolaw26_awake_1 : Txt Tryz.prog 23 24 [(.cell 2 25)] c_centolaw26_awake_1 := txt_of (code := Tryz.f23.body.getD .ret) mixed (by kernel_rfl) Tryz.func23 (by kernel_rfl) Tryz.ntmps23 (by kernel_rfl) (ls := lsOf c_centolaw26_awake_1) (by kernel_rfl)
def c_centolaw26_awake : CC := sR [oO 0 (.assign (nB false))] [] (sR [oO 1 (.assign (.func 23))] [1] (sR [mO 3 1,oO 4 (.buildSlice 22 3 #[(0,(.const (.int .u64 1))),(1,(.const (.int .u64 2))),(2,(.const (.int .u64 3)))]),oO 5 (.call { callee := (.value (xT 3)),args := #[(xT 4)],argTypes := #[22] }),mO 6 1,oO 7 (.buildSlice 22 3 #[(0,(.const (.int .u64 1))),(1,(.const (.int .u64 9))),(2,(.const (.int .u64 3)))]),oO 8 (.call { callee := (.value (xT 6)),args := #[(xT 7)],argTypes := #[22] }),oO 9 (cL 9 #[(xT 5),(xT 8),(nI 9)] #[25,25,3]),oN 2 (.alloc 33) [0],oS (.store 33 (xT 2) (xT 9))] [2] (sR [fO 10 33 2 0,lO 11 3 10,oO 12 (.binOp .eql 3 (xT 11) (nI 3) 3),mO 13 12,oG 14 (fA 33 2 5) 13 true,oG 15 (lD 3 14) 13 true,oG 16 (.binOp .eql 3 (xT 15) (nI 4) 3) 13 true,oO 17 (.pick (xT 13) (xT 16) (nB false)),mO 18 17,oG 19 (fA 33 2 6) 18 true,oG 20 (lD 31 19) 18 true,oG 21 (bL 20 31) 18 true,oG 22 (.binOp .eql 3 (xT 21) (nI 4) 3) 18 true,oO 23 (.pick (xT 18) (xT 22) (nB false)),mO 24 23,oG 25 (fA 33 2 6) 24 true,oG 26 (lD 31 25) 24 true,oG 27 (.indexAddr 31 (xT 26) (nI 1)) 24 true,oG 28 (fA 54 27 0) 24 true,oG 29 (lD 3 28) 24 true,oG 30 (.binOp .eql 3 (xT 29) (nI 1) 3) 24 true,oO 31 (.pick (xT 24) (xT 30) (nB false)),mO 32 31,oG 33 (fA 33 2 6) 32 true,oG 34 (lD 31 33) 32 true,oG 35 (.indexAddr 31 (xT 34) (nI 2)) 32 true,oG 36 (fA 54 35 0) 32 true,oG 37 (lD 3 36) 32 true,oG 38 (.binOp .eql 3 (xT 37) (nI 2) 3) 32 true,oO 39 (.pick (xT 32) (xT 38) (nB false)),aO 0 39] [0] (.ret))))
theorem t_centolaw26_awake : Txt Tryz.prog 7 40 [(.tmp 0)] c_centolaw26_awake := txt_of (code := Tryz.f7.body.getD .ret) mixed (by kernel_rfl) Tryz.func7 (by kernel_rfl) Tryz.ntmps7 (by kernel_rfl) (ls := lsOf c_centolaw26_awake) (by kernel_rfl)
end Go.Proofs.YtmeldaflhkiopaaGreat
namespace Go.Proofs.YtmeldaflhkiopaaGreat
set_option linter.unusedVariables false
set_option linter.unusedSimpArgs false
open Go Go.G Go.Proofs Go.PL
theorem rWidth_spec (c : Int) : G.Spec Tryz.prog 61 [iv c] (iv (widthZ c)) := by
  refine spec_of t_centoref01_Width (by simp) fun w0 I0 => ?_
  unfold c_centoref01_Width
  by_cases h0 : c = 0
  · subst h0; simp; exact frz_is rfl rfl
  by_cases h1 : c = 1
  · subst h1; simp; exact frz_is rfl rfl
  by_cases h2 : c = 2
  · subst h2; simp; exact frz_is rfl rfl
  by_cases h3 : c = 3
  · subst h3; simp; exact frz_is rfl rfl
  by_cases h4 : c = 4
  · subst h4; simp; exact frz_is rfl rfl
  by_cases h5 : c = 5
  · subst h5; simp; exact frz_is rfl rfl
  simp [h0,h1,h2,h3,h4,h5]
  exact frz_is rfl (by simp [widthZ,h0,h1,h2,h3,h4,h5])
theorem widthZ_cases (c : Int) : widthZ c = -1∨widthZ c = 0∨widthZ c = 1∨widthZ c = 8∨widthZ c = 16∨widthZ c = 32∨widthZ c = 64 := by
  unfold widthZ; repeat' split
  all_goals simp
section
variable {n0 : Nat} {w0 : World} {I0 : Nat→Prop} {Q : Exit→Sta→Prop} {H : Hp}
theorem rFits_l1 {w : Int} (hw : w≤64) : ∀ (m : Nat) (x i : Int),0≤x→x < 18446744073709551616→0≤i→i + m = w→(∀ b,Q (.exit 0) ⟨lk [(1,uv (x / 2 ^ m)),(5,iv w),(6,iv w),(13,bv b)],H⟩) →
    LoopC (cx Tryz.prog w0 I0 n0) l1_centoref01_Fits Q ⟨lk [(1,uv x),(5,iv w),(6,iv i)],H⟩ := by
  intro m
  induction m with
  | zero =>
    intro x i h0 h1 h2 h3 hq
    have : i = w := by simpa using h3
    subst this
    refine loopC_once mixed l1_centoref01_Fits.eq_1 ?_
    simp
    simpa using hq _
  | succ m ih =>
    intro x i h0 h1 h2 h3 hq
    refine loopC_once mixed l1_centoref01_Fits.eq_1 ?_
    have hi : i < w := by omega
    simp [hi]
    rw [i64_same (by omega) (by omega),Int.tdiv_eq_ediv_of_nonneg h0,u64_same (by omega) (by omega)]
    exact ih _ _ (by omega) (by omega) (by omega) (by omega) (by rw [pow_half]; exact hq)
end
theorem rFits_spec {c n : Int} (h : u64R n) : G.Spec Tryz.prog 40 [iv c,uv n] (bv (fitsZ c n)) := by
  refine spec_of t_centoref01_Fits (by simp) fun w0 I0 => ?_
  unfold c_centoref01_Fits
  simp
  refine sc_call (rWidth_spec c) rfl ?_
  simp
  have hw := widthZ_cases c
  refine ⟨fun h0 => ?_,fun h0 => ?_⟩
  · refine frz_bool ?_
    simp [fitsZ]; omega
  · refine rFits_l1 (w := widthZ c) (by omega) (widthZ c).toNat n 0 h.1 h.2 (by omega) (by omega) (fun b => ?_)
    simp
    refine frz_bool ?_
    simp [fitsZ,h0]
section
variable {n0 : Nat} {w0 : World} {I0 : Nat→Prop} {Q : Exit→Sta→Prop} {H : Hp}
theorem rSame_l1 {a b : List Int} (hl : a.length = b.length) (hb : a.length * 8≤140737488355328) : ∀ (m i : Nat),i + m = a.length→a.take i = b.take i→(a = b→∀ i q,Q (.exit 0) ⟨lk [(0,uws a),(1,uws b),(5,iv i),(14,bv q)],H⟩)→(a ≠ b→Q .ret ⟨lk [(4,bv false)],H⟩) →
    LoopC (cx Tryz.prog w0 I0 n0) l1_centoref01_Same Q ⟨lk [(0,uws a),(1,uws b),(5,iv i)],H⟩ := by
  intro m
  induction m with
  | zero =>
    intro i hi ht h1 h2
    have : i = a.length := by omega
    subst this
    refine loopC_once mixed l1_centoref01_Same.eq_1 ?_
    simp
    refine h1 ?_ _ _
    rw [List.take_of_length_le (Nat.le_refl _),List.take_of_length_le (by omega)] at ht
    exact ht
  | succ m ih =>
    intro i hi ht h1 h2
    have hlt : i < a.length := by omega
    have hlt' : i < b.length := by omega
    refine loopC_once mixed l1_centoref01_Same.eq_1 ?_
    simp [hlt,hlt']
    refine ⟨fun he => ?_,fun hne => h2 fun e => hne (by subst e; rfl)⟩
    rw [i64_same (by omega) (by omega)]
    refine ih (i + 1) (by omega) ?_ h1 h2
    rw [List.take_succ_eq_append_getElem hlt,List.take_succ_eq_append_getElem hlt',ht,he]
end
theorem rSame_spec (a b : List Int) (hb : a.length * 8≤140737488355328) : G.Spec Tryz.prog 39 [uws a,uws b] (bv (decide (a = b))) := by
  refine spec_of t_centoref01_Same (by simp) fun w0 I0 => ?_
  unfold c_centoref01_Same
  simp
  refine ⟨fun h => ?_,fun h => ?_⟩
  · refine rSame_l1 (by omega) hb a.length 0 (by omega) rfl (fun e i q => ?_) (fun e => ?_)
    · simp
      refine frz_bool ?_
      simp [e]
    · simp
      refine frz_bool ?_
      simp [e]
  · refine frz_bool ?_
    have : ¬ a = b := fun e => h (by rw [e])
    simp [this]
theorem width_spec (c : Int) : G.Spec Tryz.prog 137 [iv c] (.tup [iv (if widthZ c < 0 then 0 else widthZ c),bv (decide (0≤widthZ c))]) := by
  refine spec_of t_word_width (by simp) fun w0 I0 => ?_
  unfold c_word_width
  by_cases h0 : c = 0
  · subst h0; simp; exact frz_is rfl rfl
  by_cases h1 : c = 1
  · subst h1; simp; exact frz_is rfl rfl
  by_cases h2 : c = 2
  · subst h2; simp; exact frz_is rfl rfl
  by_cases h3 : c = 3
  · subst h3; simp; exact frz_is rfl rfl
  by_cases h4 : c = 4
  · subst h4; simp; exact frz_is rfl rfl
  by_cases h5 : c = 5
  · subst h5; simp; exact frz_is rfl rfl
  have hd : (decide (c < 0) || decide (6≤c)) = true := by simp; omega
  simp [hd]
  exact frz_is rfl (by simp [widthZ,h0,h1,h2,h3,h4,h5])
theorem data_spec (k : Int) : G.Spec Tryz.prog 118 [iv k] (bv (isData k)) := by
  refine spec_of t_tree_Data (by simp) fun w0 I0 => ?_
  unfold c_tree_Data
  simp
  refine frz_bool ?_
  simp [isData]
section
variable {n0 : Nat} {w0 : World} {I0 : Nat→Prop} {Q : Exit→Sta→Prop} {H : Hp}
theorem rTrim_l1 {w : List Int} (hb : w.length * 8≤140737488355328) (hq : ∀ q,Q (.exit 0) ⟨lk [(0,uws w),(3,iv (trimW w).length),(16,bv q)],H⟩) : ∀ (n : Nat),n≤w.length→trimW (w.take n) = trimW w →
    LoopC (cx Tryz.prog w0 I0 n0) l1_centoref07_Trim Q ⟨lk [(0,uws w),(3,iv n)],H⟩ := by
  intro n
  induction n with
  | zero =>
    intro hn ht
    refine loopC_once mixed l1_centoref07_Trim.eq_1 ?_
    simp
    have e : (trimW w).length = 0 := by rw [← ht]; rfl
    have := hq false
    rw [e] at this
    exact this
  | succ n ih =>
    intro hn ht
    have hlt : n < w.length := by omega
    have e : IntKind.i64.wrap (n : Int) = n := i64_same (by omega) (by omega)
    refine loopC_once mixed l1_centoref07_Trim.eq_1 ?_
    by_cases h0 : w[n] = 0
    · simp [e,hlt,h0]
      exact ih (by omega) (by rw [← trimW_zero hlt h0]; exact ht)
    · have e2 : (trimW w).length = n + 1 := by rw [← ht,trimW_stop hlt h0]; simp; omega
      have := hq false
      rw [e2] at this
      simp [e,hlt,h0]
      simpa using this
end
theorem rTrim_spec (w : List Int) (hb : w.length * 8≤140737488355328) : G.Spec Tryz.prog 37 [uws w] (uws (trimW w)) := by
  refine spec_of t_centoref07_Trim (by simp) fun w0 I0 => ?_
  unfold c_centoref07_Trim
  simp
  refine rTrim_l1 hb (fun q => ?_) w.length (Nat.le_refl _) (by rw [List.take_of_length_le (Nat.le_refl _)])
  have hl := trimW_le w
  have hb' : (trimW w).length * 8≤140737488355328 := by omega
  simp [hl]
  refine ⟨hb',?_⟩
  rw [← List.map_take,← trimW_take]
  exact frz_row (by simp) rfl (by simp)
abbrev bys (l : List Int) : List A := l.map u8
def bytesN : Nat→Int→List Int
  | 0,_ => []
  | m + 1,x => x % 256 :: bytesN m (x / 256)
@[simp] theorem bytesN_length : ∀ (m : Nat) (x : Int),(bytesN m x).length = m
  | 0,_ => rfl
  | m + 1,x => by simp [bytesN,bytesN_length m]
theorem splice_set {l : List Int} {i : Nat} {v : Int} (h : i < l.length) : splice (l.map u8) i [u8 v] = (l.set i v).map u8 := by
  apply List.ext_getElem?
  intro j
  simp only [splice,List.length_singleton]
  rw [List.append_assoc,List.map_set]
  by_cases h1 : j < i
  · rw [List.getElem?_append_left (by simp; omega),List.getElem?_take,if_pos h1,List.getElem?_set_ne (by omega)]
  · rw [List.getElem?_append_right (by simp; omega)]
    have e : (List.take i (l.map u8)).length = i := by simp; omega
    rw [e]
    by_cases h2 : j = i
    · subst h2
      rw [List.getElem?_set_self (by simpa using h)]
      simp
    · rw [List.getElem?_set_ne (by omega),List.getElem?_append_right (by simp; omega),List.getElem?_drop]
      congr 1
      simp; omega
section
variable {n0 : Nat} {w0 : World} {I0 : Nat→Prop} {Q : Exit→Sta→Prop}
end
def bytesZ (x : Int) : List Int := bytesN 8 x
theorem frz_bytes {H : Hp} {l : List Int} : Frz H (.agg (bys l)) (.agg (bys l)) := frz_bare (by simp)
section
variable {n0 : Nat} {w0 : World} {I0 : Nat→Prop} {Q : Exit→Sta→Prop} {H : Hp}
end
def namedZ (x : Int) (i : Nat) : Bool := decide (x / 2 ^ i % 2 = 1)
def ofZ : List Int→Int
  | [] => 0
  | b :: l => b + 256 * ofZ l
theorem ofZ_range : ∀ (l : List Int),(∀ b,b ∈ l→0≤b∧b < 256)→0≤ofZ l∧ofZ l < 256 ^ l.length
  | [],_ => by simp [ofZ]
  | b :: l,h => by
    have h1 := h b (by simp)
    have h2 := ofZ_range l fun x hx => h x (by simp [hx])
    simp only [ofZ,List.length_cons,Int.pow_succ]
    omega
section
variable {n0 : Nat} {w0 : World} {I0 : Nat→Prop} {Q : Exit→Sta→Prop} {H : Hp}
end
theorem bytesN_range : ∀ (m : Nat) (x : Int),∀ b,b ∈ bytesN m x→0≤b∧b < 256
  | m + 1,x,b,h => by
    rcases List.mem_cons.1 h with rfl | h
    · omega
    · exact bytesN_range m _ b h
def mixL (a b : List Int) (mask : Int) (k : Nat) : List Int := (List.range k).map (fun i => if namedZ mask i = true then b.getD i 0 else a.getD i 0) ++ a.drop k
theorem mixL_length {a b : List Int} {mask : Int} {k : Nat} (h : k≤a.length) : (mixL a b mask k).length = a.length := by simp [mixL]; omega
section
variable {n0 : Nat} {w0 : World} {I0 : Nat→Prop} {Q : Exit→Sta→Prop}
end
def mixZ (a b mask : Int) : Int := ofZ (mixL (bytesZ a) (bytesZ b) mask 8)
theorem mixL_range {a b mask : Int} {k : Nat} : ∀ x,x ∈ mixL (bytesZ a) (bytesZ b) mask k→0≤x∧x < 256 := by
  have hg : ∀ (y : Int) (i : Nat),0≤(bytesZ y).getD i 0∧(bytesZ y).getD i 0 < 256 := fun y i => by
    rw [List.getD_eq_getElem?_getD]
    cases e : (bytesZ y)[i]? with
    | none => simp
    | some z => exact bytesN_range 8 y z (List.mem_of_getElem? e)
  intro x hx
  rcases List.mem_append.1 hx with hx | hx
  · obtain ⟨i,_,rfl⟩ := List.mem_map.1 hx
    split
    · exact hg b i
    · exact hg a i
  · exact bytesN_range 8 a x (List.mem_of_mem_drop hx)
theorem bytesZ_length (x : Int) : (bytesZ x).length = 8 := bytesN_length 8 x
def mixN : Nat→Nat→Nat→Nat→Nat
  | 0,_,_,_ => 0
  | k + 1,a,b,m => (if m % 2 = 1 then b % 256 else a % 256) + 256 * mixN k (a / 256) (b / 256) (m / 2)
def wideN : Nat→Nat→Nat
  | 0,_ => 0
  | k + 1,m => (if m % 2 = 1 then 255 else 0) + 256 * wideN k (m / 2)
theorem wideN_lt : ∀ k m,wideN k m < 256 ^ k
  | 0,m => by simp [wideN]
  | k + 1,m => by
    have := wideN_lt k (m / 2)
    simp only [wideN,Nat.pow_succ]
    split <;> omega
theorem mixN_bits : ∀ k a b m,a < 256 ^ k→b < 256 ^ k→(a &&& (256 ^ k - 1 - wideN k m)) ||| (b &&& wideN k m) = mixN k a b m
  | 0,a,b,m,ha,hb => by
    simp at ha hb
    subst ha hb
    simp [mixN,wideN]
  | k + 1,a,b,m,ha,hb => by
    have hw := wideN_lt k (m / 2)
    rw [Nat.pow_succ] at ha hb
    have ih := mixN_bits k (a / 256) (b / 256) (m / 2) (by omega) (by omega)
    have p0 : 0 < 256 ^ k := Nat.pow_pos (by decide)
    generalize hx : (a &&& (256 ^ (k + 1) - 1 - wideN (k + 1) m)) ||| (b &&& wideN (k + 1) m) = x
    have d1 : wideN (k + 1) m / 256 = wideN k (m / 2) := by simp only [wideN]; split <;> omega
    have d2 : (256 ^ (k + 1) - 1 - wideN (k + 1) m) / 256 = 256 ^ k - 1 - wideN k (m / 2) := by simp only [wideN,Nat.pow_succ]; split <;> omega
    have m1 : wideN (k + 1) m % 256 = if m % 2 = 1 then 255 else 0 := by simp only [wideN]; split <;> omega
    have m2 : (256 ^ (k + 1) - 1 - wideN (k + 1) m) % 256 = if m % 2 = 1 then 0 else 255 := by simp only [wideN,Nat.pow_succ]; split <;> omega
    have e1 : x / 256 = mixN k (a / 256) (b / 256) (m / 2) := by
      have q1 := @Nat.or_div_two_pow (a &&& (256 ^ (k + 1) - 1 - wideN (k + 1) m)) (b &&& wideN (k + 1) m) 8
      have q2 := @Nat.and_div_two_pow a (256 ^ (k + 1) - 1 - wideN (k + 1) m) 8
      have q3 := @Nat.and_div_two_pow b (wideN (k + 1) m) 8
      have c : (2 : Nat) ^ 8 = 256 := rfl
      rw [q2,q3,c,d1,d2,hx] at q1
      rw [q1,ih]
    have e2 : x % 256 = if m % 2 = 1 then b % 256 else a % 256 := by
      have h : x % 2 ^ 8 = (a % 2 ^ 8 &&& (256 ^ (k + 1) - 1 - wideN (k + 1) m) % 2 ^ 8) ||| (b % 2 ^ 8 &&& wideN (k + 1) m % 2 ^ 8) := by
        rw [← hx,Nat.or_mod_two_pow,Nat.and_mod_two_pow,Nat.and_mod_two_pow]
      have c : (2 : Nat) ^ 8 = 256 := rfl
      rw [c,m1,m2] at h
      rw [h]
      have h255 : (255 : Nat) = 2 ^ 8 - 1 := rfl
      split
      · rw [h255,Nat.and_two_pow_sub_one_eq_mod]; simp
      · rw [h255,Nat.and_two_pow_sub_one_eq_mod]; simp
    simp only [mixN]
    omega
theorem mx_range : ∀ (k : Nat) (a b mask : Int),0≤a→0≤b→0≤mask→ofZ ((List.range k).map fun i => if namedZ mask i = true then (bytesN k b).getD i 0 else (bytesN k a).getD i 0) = (mixN k a.toNat b.toNat mask.toNat : Nat)
  | 0,a,b,mask,_,_,_ => by simp [ofZ,mixN]
  | k + 1,a,b,mask,ha,hb,hm => by
    have ih := mx_range k (a / 256) (b / 256) (mask / 2) (by omega) (by omega) (by omega)
    have e1 : (a / 256).toNat = a.toNat / 256 := by omega
    have e2 : (b / 256).toNat = b.toNat / 256 := by omega
    have e3 : (mask / 2).toNat = mask.toNat / 2 := by omega
    rw [e1,e2,e3] at ih
    rw [List.range_succ_eq_map,List.map_cons,List.map_map,ofZ]
    have h : (List.range k).map ((fun i => if namedZ mask i = true then (bytesN (k + 1) b).getD i 0 else (bytesN (k + 1) a).getD i 0) ∘ Nat.succ) = (List.range k).map fun i => if namedZ (mask / 2) i = true then (bytesN k (b / 256)).getD i 0 else (bytesN k (a / 256)).getD i 0 := by
      refine List.map_congr_left fun i _ => ?_
      have hn : namedZ mask (i + 1) = namedZ (mask / 2) i := by
        unfold namedZ
        have : mask / 2 ^ (i + 1) = mask / 2 / 2 ^ i := by
          rw [Int.ediv_ediv_of_nonneg (by decide),Int.pow_succ,Int.mul_comm]
        rw [this]
      simp [bytesN,hn]
    rw [h,ih]
    have h0 : (namedZ mask 0 = true) = (mask.toNat % 2 = 1) := by
      simp [namedZ]
      omega
    simp only [h0,mixN,bytesN,List.getD_cons_zero]
    split <;> omega
theorem mixZ_nat {a b mask : Int} (ha : u64R a) (hb : u64R b) (h0 : 0≤mask) : mixZ a b mask = (mixN 8 a.toNat b.toNat mask.toNat : Nat) := by
  rw [← mx_range 8 a b mask ha.1 hb.1 h0]
  unfold mixZ mixL bytesZ
  rw [List.drop_eq_nil_of_le (by simp),List.append_nil]
def wS (mask : Int) : Nat→Int
  | 0 => 0
  | i + 1 => if bits .and .u8 (mask / 2 ^ min i 8) 1 = 1 then bits .or .u64 (wS mask i) (IntKind.u64.wrap (255 * 2 ^ min (8 * i) 64)) else wS mask i
theorem wS_all : ∀ m : Nat,m < 256→wS m 8 = (wideN 8 m : Nat) := by decide +kernel
section
variable {n0 : Nat} {w0 : World} {I0 : Nat→Prop} {Q : Exit→Sta→Prop}
theorem mxwide_l1 {mask : Int} (hq : ∀ q,Q (.exit 0) ⟨lk [(0,u8 mask),(3,uv (wS mask 8)),(5,iv 8),(6,bv q)],lkH []⟩) :
    ∀ (j i : Nat),i + j = 8→LoopC (cx Tryz.prog w0 I0 n0) l1_word_Wide Q ⟨lk [(0,u8 mask),(3,uv (wS mask i)),(5,iv i)],lkH []⟩ := by
  intro j
  induction j with
  | zero =>
    intro i hi
    have : i = 8 := by omega
    subst this
    refine loopC_once mixed l1_word_Wide.eq_1 ?_
    simp
    exact hq _
  | succ j ih =>
    intro i hi
    refine loopC_once mixed l1_word_Wide.eq_1 ?_
    have hlt : i < 8 := by omega
    have hlt2 : (i : Int) < 8 := by omega
    have e8 : IntKind.i64.wrap (8 * (i : Int)) = ((8 * i : Nat) : Int) := (i64_same (by omega) (by omega)).trans (by omega)
    have ei : IntKind.i64.wrap ((i : Int) + 1) = ((i + 1 : Nat) : Int) := i64_same (by omega) (by omega)
    have b8 : IntKind.u8.bits = 8 := rfl
    have b64 : IntKind.u64.bits = 64 := rfl
    have hs := ih (i + 1) (by omega)
    rw [wS] at hs
    have e9 : (8 * (i : Int)).toNat = 8 * i := by omega
    simp [hlt,hlt2,e8,ei,b8,b64,e9]
    refine ⟨fun hc => ⟨by omega,?_⟩,fun hc => ?_⟩
    · rw [if_pos hc] at hs
      exact hs
    · rw [if_neg hc] at hs
      exact hs
end
theorem pWide_spec {mask : Int} (h0 : 0≤mask) (h1 : mask < 256) : G.Spec Tryz.prog 50 [u8 mask] (uv (wideN 8 mask.toNat : Nat)) := by
  refine spec_of t_word_Wide (by simp) fun w0 I0 => ?_
  unfold c_word_Wide
  simp
  obtain ⟨m,rfl⟩ := Int.eq_ofNat_of_zero_le h0
  refine mxwide_l1 (fun q => ?_) 8 0 rfl
  simp
  rw [wS_all m (by omega)]
  exact frz_bare rfl
theorem mx_nat {x : Nat} (h : x < 2 ^ 64) : (BitVec.ofInt 64 (x : Int)).toNat = x := by
  rw [BitVec.toNat_ofInt]
  omega
theorem mx_and {x y : Nat} (hx : x < 2 ^ 64) (hy : y < 2 ^ 64) : bits .and .u64 x y = (x &&& y : Nat) := by
  have h := Nat.lt_of_le_of_lt (Nat.and_le_left (n := x) (m := y)) hx
  show IntKind.u64.wrap ((BitVec.ofInt 64 x &&& BitVec.ofInt 64 y).toNat : Nat) = _
  rw [BitVec.toNat_and,mx_nat hx,mx_nat hy]
  exact u64_same (by omega) (by omega)
theorem mx_or {x y : Nat} (hx : x < 2 ^ 64) (hy : y < 2 ^ 64) : bits .or .u64 x y = (x ||| y : Nat) := by
  have h := Nat.or_lt_two_pow hx hy
  show IntKind.u64.wrap ((BitVec.ofInt 64 x ||| BitVec.ofInt 64 y).toNat : Nat) = _
  rw [BitVec.toNat_or,mx_nat hx,mx_nat hy]
  exact u64_same (by omega) (by omega)
theorem mx_andN {x y : Nat} (hx : x < 2 ^ 64) (hy : y < 2 ^ 64) : bits .andNot .u64 x y = (x &&& (256 ^ 8 - 1 - y) : Nat) := by
  have h := Nat.lt_of_le_of_lt (Nat.and_le_left (n := x) (m := 256 ^ 8 - 1 - y)) hx
  show IntKind.u64.wrap ((BitVec.ofInt 64 x &&& ~~~ BitVec.ofInt 64 y).toNat : Nat) = _
  rw [BitVec.toNat_and,BitVec.toNat_not,mx_nat hx,mx_nat hy]
  have e : (2 : Nat) ^ 64 - 1 - y = 256 ^ 8 - 1 - y := rfl
  rw [e]
  exact u64_same (by omega) (by omega)
theorem pMix_spec {a b mask : Int} (ha : u64R a) (hb : u64R b) (h0 : 0≤mask) (h1 : mask < 256) : G.Spec Tryz.prog 30 [uv a,uv b,u8 mask] (uv (mixZ a b mask)) := by
  refine spec_of t_word_Mix (by simp) fun w0 I0 => ?_
  unfold c_word_Mix
  simp
  refine sc_call (pWide_spec h0 h1) (by simp) ?_
  simp
  refine sc_call (pWide_spec h0 h1) (by simp) ?_
  simp
  refine frz_int ?_
  rw [mixZ_nat ha hb h0]
  obtain ⟨x,rfl⟩ := Int.eq_ofNat_of_zero_le ha.1
  obtain ⟨y,rfl⟩ := Int.eq_ofNat_of_zero_le hb.1
  have hx : x < 2 ^ 64 := by have := ha.2; omega
  have hy : y < 2 ^ 64 := by have := hb.2; omega
  have hw : wideN 8 mask.toNat < 2 ^ 64 := wideN_lt 8 _
  rw [mx_andN hx hw,mx_and hy hw,mx_or (Nat.lt_of_le_of_lt Nat.and_le_left hx) (Nat.lt_of_le_of_lt Nat.and_le_left hy)]
  have := mixN_bits 8 x y mask.toNat hx hy
  simp only [Int.toNat_natCast]
  rw [← this]
theorem or_bit26 : ∀ i : Fin 8,∀ m : Fin 256,m.val < 2 ^ i.val→bits .or .u8 (m.val : Int) ((2 ^ i.val : Nat) : Int) = (m.val : Int) + ((2 ^ i.val : Nat) : Int) := by decide +kernel
def byteZ (x : Int) (i : Nat) : Int := x / 256 ^ i % 256
def unlM (a b : Int) : Nat→Nat
  | 0 => 0
  | k + 1 => unlM a b k + (if byteZ a k ≠ byteZ b k then 2 ^ k else 0)
def unlZ (a b : Int) : Int := (unlM a b 8 : Nat)
theorem unlM_lt (a b : Int) : ∀ k,unlM a b k < 2 ^ k
  | 0 => by simp [unlM]
  | k + 1 => by
    have := unlM_lt a b k
    unfold unlM
    rw [Nat.pow_succ]
    split <;> omega
theorem unlZ_in (a b : Int) : 0≤unlZ a b∧unlZ a b < 256 := by
  have := unlM_lt a b 8
  unfold unlZ
  omega
theorem bytN_get26 : ∀ (n : Nat) (x : Int) (i : Nat),i < n→(bytesN n x)[i]? = some (byteZ x i)
  | n + 1,x,0,_ => by simp [bytesN,byteZ]
  | n + 1,x,i + 1,h => by
    have := bytN_get26 n (x / 256) i (by omega)
    simp only [bytesN,List.getElem?_cons_succ]
    rw [this]
    unfold byteZ
    rw [Int.ediv_ediv_of_nonneg (by omega),Int.pow_succ,Int.mul_comm]
theorem xor_byte {a b : Int} (ha : u64R a) (hb : u64R b) (i : Nat) : byteZ (bits .xor .u64 a b) i = 0 ↔ byteZ a i = byteZ b i := by
  obtain ⟨x,rfl⟩ : ∃ x : Nat,a = x := ⟨a.toNat,by unfold u64R at ha; omega⟩
  obtain ⟨y,rfl⟩ : ∃ y : Nat,b = y := ⟨b.toNat,by unfold u64R at hb; omega⟩
  unfold u64R at ha hb
  rw [bits_xor_u64_nat x y (by omega) (by omega)]
  unfold byteZ
  have h : ∀ z : Nat,((z : Int) / 256 ^ i % 256) = (((z / 2 ^ (8 * i)) % 2 ^ 8 : Nat) : Int) := fun z => by
    have h1 : ((256 : Int) ^ i) = ((2 ^ (8 * i) : Nat) : Int) := by
      rw [Nat.pow_mul,Int.natCast_pow]; rfl
    rw [h1,Int.natCast_emod,Int.natCast_ediv]
    rfl
  rw [h,h,h]
  have e : ((x ^^^ y) / 2 ^ (8 * i)) % 2 ^ 8 = ((x / 2 ^ (8 * i)) % 2 ^ 8) ^^^ ((y / 2 ^ (8 * i)) % 2 ^ 8) := by
    rw [← Nat.shiftRight_eq_div_pow,← Nat.shiftRight_eq_div_pow,← Nat.shiftRight_eq_div_pow,Nat.shiftRight_xor_distrib,Nat.xor_mod_two_pow]
  rw [e]
  constructor
  · intro h
    have h : ((x / 2 ^ (8 * i)) % 2 ^ 8) ^^^ ((y / 2 ^ (8 * i)) % 2 ^ 8) = 0 := by omega
    generalize (x / 2 ^ (8 * i)) % 2 ^ 8 = p at h ⊢
    generalize (y / 2 ^ (8 * i)) % 2 ^ 8 = q at h ⊢
    have h2 : p ^^^ q ^^^ q = q := by rw [h,Nat.zero_xor]
    rw [Nat.xor_assoc,Nat.xor_self,Nat.xor_zero] at h2
    rw [h2]
  · intro h
    have h : (x / 2 ^ (8 * i)) % 2 ^ 8 = (y / 2 ^ (8 * i)) % 2 ^ 8 := by omega
    rw [h,Nat.xor_self]
    rfl
section
variable {n0 : Nat} {w0 : World} {I0 : Nat→Prop} {Q : Exit→Sta→Prop}
theorem unl_l1 {a b : Int} (ha : u64R a) (hb : u64R b) {H : Hp} (hq : ∀ st,Q (.exit 0) ⟨lk ([(5,u8 (unlZ a b))] ++ st),H⟩) : ∀ (m i : Nat),i + m = 8 →
    LoopC (cx Tryz.prog w0 I0 n0) l1_word_Unlike Q ⟨lk [(5,u8 (unlM a b i : Nat)),(11,.agg (bys (bytesZ (bits .xor .u64 a b)))),(12,iv i)],H⟩ := by
  intro m
  induction m with
  | zero =>
    intro i hm
    refine loopC_once mixed l1_word_Unlike.eq_1 ?_
    have : i = 8 := by omega
    subst this
    simp
    exact hq [(11,.agg (bys (bytesZ (bits .xor .u64 a b)))),(12,iv 8),(13,bv false)]
  | succ m ih =>
    intro i hm
    have hi : i < 8 := by omega
    have hi' : (i : Int) < 8 := by omega
    have ew : IntKind.i64.wrap ((i : Int) + 1) = ((i + 1 : Nat) : Int) := by rw [i64_same (by omega) (by omega)]; omega
    have hb1 : (bytesZ (bits .xor .u64 a b))[i]? = some (byteZ (bits .xor .u64 a b) i) := bytN_get26 8 _ i hi
    have hx := xor_byte ha hb i
    have hlt := unlM_lt a b i
    have next := ih (i + 1) (by omega)
    refine loopC_once mixed l1_word_Unlike.eq_1 ?_
    by_cases h : byteZ a i = byteZ b i
    · have h0 := hx.2 h
      have e : unlM a b (i + 1) = unlM a b i := by simp [unlM,h]
      rw [e] at next
      simp [hi',hi,ew,bys,hb1,h0]
      simpa [bys] using next
    · have h0 : ¬ byteZ (bits .xor .u64 a b) i = 0 := fun e => h (hx.1 e)
      have e : unlM a b (i + 1) = unlM a b i + 2 ^ i := by simp [unlM,h]
      rw [e] at next
      have p8 : 2 ^ i < 256 := by
        have : 2 ^ i≤2 ^ 7 := Nat.pow_le_pow_right (by omega) (by omega)
        omega
      have eb : IntKind.u8.wrap (2 ^ min i IntKind.u8.bits) = ((2 ^ i : Nat) : Int) := by
        have : min i IntKind.u8.bits = i := Nat.min_eq_left (by show i≤8; omega)
        rw [this,IntKind.wrap_u8,Int.natCast_pow]
        have : ((2 : Int) ^ i) = ((2 ^ i : Nat) : Int) := by rw [Int.natCast_pow]; rfl
        omega
      have eo := or_bit26 ⟨i,hi⟩ ⟨unlM a b i,by omega⟩ hlt
      simp only at eo
      simp [hi',hi,ew,bys,hb1,h0]
      rw [eb,eo,← Int.natCast_add]
      simpa [bys] using next
end
def bytP (x : Int) (i : Nat) : List Int := (List.range 8).map fun j => if j < i then byteZ x j else 0
theorem bytP_len (x : Int) (i : Nat) : (bytP x i).length = 8 := by simp [bytP]
theorem bytP_zero (x : Int) : bytP x 0 = List.replicate 8 0 := by simp [bytP]; rfl
theorem bytP_all (x : Int) : bytP x 8 = bytesZ x := by
  apply List.ext_getElem?
  intro j
  by_cases h : j < 8
  · rw [show (bytesZ x)[j]? = _ from bytN_get26 8 x j h]
    simp [bytP,h]
  · rw [List.getElem?_eq_none (by rw [bytP_len]; omega),List.getElem?_eq_none (by simp [bytesZ]; omega)]
theorem bytP_set (x : Int) {i : Nat} (h : i < 8) : (bytP x i).set i (byteZ x i) = bytP x (i + 1) := by
  apply List.ext_getElem?
  intro j
  by_cases hj : j < 8
  · by_cases e : j = i
    · subst e
      rw [List.getElem?_set_self (by rw [bytP_len]; omega)]
      simp [bytP,hj]
    · rw [List.getElem?_set_ne (by omega)]
      simp [bytP,hj]
      have : (j < i + 1) = (j < i) := by simp; omega
      simp [this]
  · rw [List.getElem?_eq_none (by simp [bytP_len]; omega),List.getElem?_eq_none (by rw [bytP_len]; omega)]
section
variable {n0 : Nat} {w0 : World} {I0 : Nat→Prop} {Q : Exit→Sta→Prop}
theorem pbyt_l1 {x : Int} (hx : u64R x) (hq : ∀ (st : List (Nat × A)) (H : Hp),H [0] = ⟨1,.cells (bys (List.replicate 8 0))⟩→H [1] = ⟨1,.cells (bys (bytesZ x))⟩→Q (.exit 0) ⟨lk ([(0,uv x),(2,.pob [0] 1 0),(3,.pob [1] 1 0)] ++ st),H⟩) : ∀ (m i : Nat) (H : Hp),i + m = 8→H [0] = ⟨1,.cells (bys (List.replicate 8 0))⟩→H [1] = ⟨1,.cells (bys (bytP x i))⟩ →
    LoopC (cx Tryz.prog w0 I0 n0) l1_word_Bytes Q ⟨lk [(0,uv x),(2,.pob [0] 1 0),(3,.pob [1] 1 0),(5,iv i)],H⟩ := by
  intro m
  induction m with
  | zero =>
    intro i H hm h0 h1
    refine loopC_once mixed l1_word_Bytes.eq_1 ?_
    have : i = 8 := by omega
    subst this
    rw [bytP_all] at h1
    simp
    exact hq [(5,iv 8),(6,bv false)] H h0 h1
  | succ m ih =>
    intro i H hm h0 h1
    have hi : i < 8 := by omega
    have hi' : (i : Int) < 8 := by omega
    have ew : IntKind.i64.wrap ((i : Int) + 1) = ((i + 1 : Nat) : Int) := by rw [i64_same (by omega) (by omega)]; omega
    have e8 : IntKind.i64.wrap (8 * (i : Int)) = ((8 * i : Nat) : Int) := (i64_same (by omega) (by omega)).trans (by omega)
    have b64 : IntKind.u64.bits = 64 := rfl
    have e9 : (8 * (i : Int)).toNat = 8 * i := by omega
    have ev : IntKind.u8.wrap (x / 2 ^ min (8 * i) 64) = byteZ x i := by
      rw [IntKind.wrap_u8,Nat.min_eq_left (by omega)]
      unfold byteZ
      have h1 : ((256 : Int) ^ i) = ((2 : Int) ^ (8 * i)) := by rw [Int.pow_mul]; rfl
      rw [h1]
      try rfl
    refine loopC_once mixed l1_word_Bytes.eq_1 ?_
    simp [hi',hi,ew,e8,e9,b64,ev,h1,bytP_len]
    refine ⟨by omega,by omega,?_⟩
    rw [splice_set (by rw [bytP_len]; omega),bytP_set x hi]
    simpa using ih (i + 1) _ (by omega) (by simp [updF_app,h0]) (by simp [updF_app])
end
theorem pBytes_spec {x : Int} (h : u64R x) : G.Spec Tryz.prog 49 [uv x] (.agg (bys (bytesZ x))) := by
  refine spec_of t_word_Bytes (by simp) fun w0 I0 => ?_
  unfold c_word_Bytes
  simp
  refine LoopC.le (le_list [(0,uv x),(2,.pob [0] 1 0),(3,.pob [1] 1 0),(5,iv (0 : Nat))] (by simp)) ?_
  refine pbyt_l1 h (fun st H h0 h1 => ?_) 8 0 _ rfl (by simp [updF_app]) (by simp [updF_app,bytP_zero])
  have e : List.take 8 (bys (bytesZ x)) = bys (bytesZ x) := List.take_of_length_le (by simp [bytesZ])
  have el : (bytesZ x).length = 8 := by simp [bytesZ]
  simp [h1,h0,updF_app,e,el]
  exact ⟨by simp [A.ones],frz_bytes⟩
theorem pUnlike_spec {a b : Int} (ha : u64R a) (hb : u64R b) : G.Spec Tryz.prog 29 [uv a,uv b] (u8 (unlZ a b)) := by
  have hu : u64R (bits .xor .u64 a b) := by
    obtain ⟨x,rfl⟩ : ∃ x : Nat,a = x := ⟨a.toNat,by unfold u64R at ha; omega⟩
    obtain ⟨y,rfl⟩ : ∃ y : Nat,b = y := ⟨b.toNat,by unfold u64R at hb; omega⟩
    unfold u64R at ha hb
    rw [bits_xor_u64_nat x y (by omega) (by omega)]
    have := @Nat.xor_lt_two_pow x y 64 (by omega) (by omega)
    unfold u64R
    omega
  refine spec_of t_word_Unlike (by simp) fun w0 I0 => ?_
  unfold c_word_Unlike
  simp
  refine sc_call (pBytes_spec hu) (by simp) ?_
  simp
  refine LoopC.le (le_list [(5,u8 (unlM a b 0 : Nat)),(11,.agg (bys (bytesZ (bits .xor .u64 a b)))),(12,iv (0 : Nat))] (by simp [unlM])) ?_
  refine unl_l1 ha hb (fun st => ?_) 8 0 rfl
  simp
  exact frz_bare rfl
section
variable {n0 : Nat} {w0 : World} {I0 : Nat→Prop} {Q : Exit→Sta→Prop}
end
def wdE (at_ : Int) (a b : Int) : WE := ⟨at_,unlZ a b,mixZ 0 a (unlZ a b),mixZ 0 b (unlZ a b)⟩
def WE0 : WE := ⟨0,0,0,0⟩
theorem pWord_spec {i a b : Int} (ha : u64R a) (hb : u64R b) : G.Spec Tryz.prog 11 [iv i,uv a,uv b] (.tup [wX (if unlZ a b = 0 then WE0 else wdE i a b),bv (!decide (unlZ a b = 0))]) := by
  have hin := unlZ_in a b
  have z : u64R 0 := by unfold u64R; omega
  refine spec_of t_diff_Word (by simp) fun w0 I0 => ?_
  unfold c_diff_Word
  simp
  refine sc_call (pUnlike_spec ha hb) (by simp) ?_
  by_cases h : unlZ a b = 0
  · simp [h]
    exact frz_bare rfl
  · simp [h]
    refine sc_call (pMix_spec z ha hin.1 hin.2) (by simp) ?_
    simp
    refine sc_call (pMix_spec z hb hin.1 hin.2) (by simp) ?_
    simp
    exact frz_bare rfl
end Go.Proofs.YtmeldaflhkiopaaGreat
