/-
  Texts, merged, without what is not reached.
-/
import Derived.Shelf.Strings.OnBuilder
import Derived.Shelf.Strconv.Itoa3
import Derived.Shelf.Strconv.AtoiAll
import Derived.Shelf.Strings.Split
import Derived.Shelf.Strings.Fields
import Derived.Test.YtkjnbdgkpofobaaDoorProg
import Derived.Test.YtkjnbdgkpofobaaDoorGTab
import Derived.Test.YtkjnbdgkpofobaaDoorGStr
import Derived.Lib.ItoaNum
import Derived.Lib.AtoiAll
import Derived.Lib.Join
import Derived.Test.YtkjnbdgkpofobaaDoorGSimp
import Derived.KernelRfl
import Derived.Laws.BitsLemmas
import Derived.Laws.Bits64
import Derived.Lib.AppendIntMem
import Derived.WalkKit
import Derived.BigCall
import Derived.Laws.Externs
import Derived.Lib.Bytealg
import Derived.Lib.Builder
import Derived.Lib.UnsafeStr
import Derived.Lib.Walk
import Derived.Test.YtkjnbdgkpofobaaDoorGOpen
/-
  The shelf's contracts at this dump, in plain words: written by the kit's lay-shelf.mjs and lay-plain.mjs for the seat of the Command laws (numbers are the seat's own).
-/
namespace Go.Proofs
open Go.Shelf
def Tryd.lays156_ren : Go.Shelf.Ren := ⟨fun | 156 => 25 | 165 => 43 | 166 => 44 | 169 => 38 | 240 => 49 | 241 => 54 | 276 => 60 | 277 => 67 | n => n, fun | 31 => 45 | 9 => 9 | 3 => 3 | 4 => 4 | 0 => 0 | 20 => 20 | 72 => 64 | 76 => 73 | 70 => 62 | 37 => 23 | 75 => 66 | 127 => 79 | 164 => 87 | 5 => 5 | 80 => 69 | n => n, fun | n => n⟩
theorem Tryd.lays156 : Go.Proofs.Lays.n156 Tryd.prog Tryd.lays156_ren := {
  mixed := by kernel_rfl
  f156 := Tryd.func25.trans (congrArg some (by kernel_rfl))
  f165 := Tryd.func43.trans (congrArg some (by kernel_rfl))
  f166 := Tryd.func44.trans (congrArg some (by kernel_rfl))
  f169 := Tryd.func38.trans (congrArg some (by kernel_rfl))
  f240 := Tryd.func49.trans (congrArg some (by kernel_rfl))
  f241 := Tryd.func54.trans (congrArg some (by kernel_rfl))
  f276 := Tryd.func60.trans (congrArg some (by kernel_rfl))
  f277 := Tryd.func67.trans (congrArg some (by kernel_rfl))
  t0 := Tryd.underlying0
  a0 := Tryd.isAgg0
  z0 := Tryd.sizeOf0
  v0 := Tryd.zeroValue0
  t3 := Tryd.underlying3
  a3 := Tryd.isAgg3
  z3 := Tryd.sizeOf3
  v3 := Tryd.zeroValue3
  t4 := Tryd.underlying4
  a4 := Tryd.isAgg4
  z4 := Tryd.sizeOf4
  v4 := Tryd.zeroValue4
  t9 := Tryd.underlying9
  a9 := Tryd.isAgg9
  z9 := Tryd.sizeOf9
  v9 := Tryd.zeroValue9
  t20 := Tryd.underlying20
  a20 := Tryd.isAgg20
  z20 := Tryd.sizeOf20
  v20 := Tryd.zeroValue20
  t31 := Tryd.underlying45
  a31 := Tryd.isAgg45
  z31 := Tryd.sizeOf45
  v31 := Tryd.zeroValue45
  t37 := Tryd.underlying23
  a37 := Tryd.isAgg23
  z37 := Tryd.sizeOf23
  v37 := Tryd.zeroValue23
  t70 := Tryd.underlying62
  a70 := Tryd.isAgg62
  z70 := Tryd.sizeOf62
  v70 := Tryd.zeroValue62
  t72 := Tryd.underlying64
  a72 := Tryd.isAgg64
  z72 := Tryd.sizeOf64
  v72 := Tryd.zeroValue64
  t75 := Tryd.underlying66
  a75 := Tryd.isAgg66
  z75 := Tryd.sizeOf66
  v75 := Tryd.zeroValue66
  t76 := Tryd.underlying73
  a76 := Tryd.isAgg73
  z76 := Tryd.sizeOf73
  v76 := Tryd.zeroValue73
  t127 := Tryd.underlying79
  a127 := Tryd.isAgg79
  z127 := Tryd.sizeOf79
  v127 := Tryd.zeroValue79
  t164 := Tryd.underlying87
  a164 := Tryd.isAgg87
  z164 := Tryd.sizeOf87
  v164 := Tryd.zeroValue87 }
theorem Tryd.Builder_Extra_156 : Builder.Extra Tryd.prog Tryd.lays156_ren := {
  sizeBuilder := by kernel_rfl
  liesBuilder := by kernel_rfl
  t5 := Tryd.underlying5
  a5 := Tryd.isAgg5
  z5 := Tryd.sizeOf5
  v5 := Tryd.zeroValue5
  infoByte := by kernel_rfl
  cellsByte := by kernel_rfl
  sizeByte := by kernel_rfl
  neB5 := by decide }
def Tryd.laysM171_ren : Go.Shelf.Ren := ⟨fun | 171 => 22 | 243 => 42 | 246 => 53 | 283 => 63 | 284 => 64 | 285 => 65 | 286 => 66 | 129 => 80 | 317 => 79 | 318 => 81 | 319 => 82 | 320 => 83 | 337 => 91 | 338 => 92 | n => n, fun | 3 => 3 | 9 => 9 | 2 => 2 | 4 => 4 | 171 => 95 | 0 => 0 | 53 => 96 | 37 => 23 | 5 => 5 | 173 => 99 | 212 => 122 | 51 => 92 | 20 => 20 | 213 => 123 | 46 => 68 | 232 => 143 | 233 => 144 | n => n, fun | 17 => 3 | 18 => 8 | 19 => 9 | n => n⟩
theorem Tryd.laysM171 : Go.Proofs.LaysM.n171 Tryd.prog Tryd.laysM171_ren := {
  mixed := by kernel_rfl
  f129 := Tryd.func80.trans (congrArg some (by kernel_rfl))
  f171 := Tryd.func22.trans (congrArg some (by kernel_rfl))
  f243 := Tryd.func42.trans (congrArg some (by kernel_rfl))
  f246 := Tryd.func53.trans (congrArg some (by kernel_rfl))
  f283 := Tryd.func63.trans (congrArg some (by kernel_rfl))
  f284 := Tryd.func64.trans (congrArg some (by kernel_rfl))
  f285 := Tryd.func65.trans (congrArg some (by kernel_rfl))
  f286 := Tryd.func66.trans (congrArg some (by kernel_rfl))
  f317 := Tryd.func79.trans (congrArg some (by kernel_rfl))
  f318 := Tryd.func81.trans (congrArg some (by kernel_rfl))
  f319 := Tryd.func82.trans (congrArg some (by kernel_rfl))
  f320 := Tryd.func83.trans (congrArg some (by kernel_rfl))
  f337 := Tryd.func91.trans (congrArg some (by kernel_rfl))
  f338 := Tryd.func92.trans (congrArg some (by kernel_rfl))
  t0 := Tryd.underlying0
  a0 := Tryd.isAgg0
  z0 := Tryd.sizeOf0
  v0 := Tryd.zeroValue0
  t2 := Tryd.underlying2
  a2 := Tryd.isAgg2
  z2 := Tryd.sizeOf2
  v2 := Tryd.zeroValue2
  t3 := Tryd.underlying3
  a3 := Tryd.isAgg3
  z3 := Tryd.sizeOf3
  v3 := Tryd.zeroValue3
  t4 := Tryd.underlying4
  a4 := Tryd.isAgg4
  z4 := Tryd.sizeOf4
  v4 := Tryd.zeroValue4
  t5 := Tryd.underlying5
  a5 := Tryd.isAgg5
  z5 := Tryd.sizeOf5
  v5 := Tryd.zeroValue5
  t9 := Tryd.underlying9
  a9 := Tryd.isAgg9
  z9 := Tryd.sizeOf9
  v9 := Tryd.zeroValue9
  t20 := Tryd.underlying20
  a20 := Tryd.isAgg20
  z20 := Tryd.sizeOf20
  v20 := Tryd.zeroValue20
  t37 := Tryd.underlying23
  a37 := Tryd.isAgg23
  z37 := Tryd.sizeOf23
  v37 := Tryd.zeroValue23
  t46 := Tryd.underlying68
  a46 := Tryd.isAgg68
  z46 := Tryd.sizeOf68
  v46 := Tryd.zeroValue68
  t51 := Tryd.underlying92
  a51 := Tryd.isAgg92
  z51 := Tryd.sizeOf92
  v51 := Tryd.zeroValue92
  t53 := Tryd.underlying96
  a53 := Tryd.isAgg96
  z53 := Tryd.sizeOf96
  v53 := Tryd.zeroValue96
  t171 := Tryd.underlying95
  a171 := Tryd.isAgg95
  z171 := Tryd.sizeOf95
  v171 := Tryd.zeroValue95
  t173 := Tryd.underlying99
  a173 := Tryd.isAgg99
  z173 := Tryd.sizeOf99
  v173 := Tryd.zeroValue99
  t212 := Tryd.underlying122
  a212 := Tryd.isAgg122
  z212 := Tryd.sizeOf122
  v212 := Tryd.zeroValue122
  t213 := Tryd.underlying123
  a213 := Tryd.isAgg123
  z213 := Tryd.sizeOf123
  t232 := Tryd.underlying143
  a232 := Tryd.isAgg143
  z232 := Tryd.sizeOf143
  v232 := Tryd.zeroValue143
  t233 := Tryd.underlying144
  a233 := Tryd.isAgg144
  z233 := Tryd.sizeOf144
  v233 := Tryd.zeroValue144
  g17 := by kernel_rfl
  g18 := by kernel_rfl
  g19 := by kernel_rfl
  i0 := by kernel_rfl
  i2 := by kernel_rfl
  i3 := by kernel_rfl
  i4 := by kernel_rfl
  i5 := by kernel_rfl
  i9 := by kernel_rfl
  i20 := by kernel_rfl
  i37 := by kernel_rfl
  i46 := by kernel_rfl
  i51 := by kernel_rfl
  i53 := by kernel_rfl
  i171 := by kernel_rfl
  i173 := by kernel_rfl
  i212 := by kernel_rfl
  i232 := by kernel_rfl
  i233 := by kernel_rfl
  m17 := by kernel_rfl
  m18 := by kernel_rfl
  m19 := by kernel_rfl }
def Tryd.laysC172_ren : Go.Shelf.Ren := ⟨fun | 172 => 48 | 244 => 58 | 245 => 59 | 247 => 72 | 279 => 73 | 280 => 74 | 281 => 75 | 282 => 76 | 287 => 88 | 316 => 89 | 171 => 22 | 205 => 90 | 321 => 94 | 322 => 95 | 243 => 42 | 246 => 53 | 283 => 63 | 284 => 64 | 285 => 65 | 286 => 66 | 129 => 80 | 317 => 79 | 318 => 81 | 319 => 82 | 320 => 83 | 337 => 91 | 338 => 92 | n => n, fun | 9 => 9 | 3 => 3 | 75 => 66 | 76 => 73 | 4 => 4 | 5 => 5 | 167 => 104 | 37 => 23 | 0 => 0 | 85 => 105 | 2 => 2 | 168 => 107 | 53 => 96 | 175 => 125 | 46 => 68 | 210 => 129 | 127 => 79 | 145 => 142 | 143 => 140 | 21 => 21 | 171 => 95 | 173 => 99 | 212 => 122 | 51 => 92 | 20 => 20 | 213 => 123 | 232 => 143 | 233 => 144 | 80 => 69 | n => n, fun | 15 => 4 | 16 => 5 | 17 => 3 | 18 => 8 | 19 => 9 | n => n⟩
theorem Tryd.laysC172 : Go.Proofs.LaysC.n172 Tryd.prog Tryd.laysC172_ren := {
  mixed := by kernel_rfl
  f129 := Tryd.func80.trans (congrArg some (by kernel_rfl))
  f171 := Tryd.func22.trans (congrArg some (by kernel_rfl))
  f172 := Tryd.func48.trans (congrArg some (by kernel_rfl))
  f205 := Tryd.func90.trans (congrArg some (by kernel_rfl))
  f243 := Tryd.func42.trans (congrArg some (by kernel_rfl))
  f244 := Tryd.func58.trans (congrArg some (by kernel_rfl))
  f245 := Tryd.func59.trans (congrArg some (by kernel_rfl))
  f246 := Tryd.func53.trans (congrArg some (by kernel_rfl))
  f247 := Tryd.func72.trans (congrArg some (by kernel_rfl))
  f279 := Tryd.func73.trans (congrArg some (by kernel_rfl))
  f280 := Tryd.func74.trans (congrArg some (by kernel_rfl))
  f281 := Tryd.func75.trans (congrArg some (by kernel_rfl))
  f282 := Tryd.func76.trans (congrArg some (by kernel_rfl))
  f283 := Tryd.func63.trans (congrArg some (by kernel_rfl))
  f284 := Tryd.func64.trans (congrArg some (by kernel_rfl))
  f285 := Tryd.func65.trans (congrArg some (by kernel_rfl))
  f286 := Tryd.func66.trans (congrArg some (by kernel_rfl))
  f287 := Tryd.func88.trans (congrArg some (by kernel_rfl))
  f316 := Tryd.func89.trans (congrArg some (by kernel_rfl))
  f317 := Tryd.func79.trans (congrArg some (by kernel_rfl))
  f318 := Tryd.func81.trans (congrArg some (by kernel_rfl))
  f319 := Tryd.func82.trans (congrArg some (by kernel_rfl))
  f320 := Tryd.func83.trans (congrArg some (by kernel_rfl))
  f321 := Tryd.func94.trans (congrArg some (by kernel_rfl))
  f322 := Tryd.func95.trans (congrArg some (by kernel_rfl))
  f337 := Tryd.func91.trans (congrArg some (by kernel_rfl))
  f338 := Tryd.func92.trans (congrArg some (by kernel_rfl))
  t0 := Tryd.underlying0
  a0 := Tryd.isAgg0
  z0 := Tryd.sizeOf0
  v0 := Tryd.zeroValue0
  t2 := Tryd.underlying2
  a2 := Tryd.isAgg2
  z2 := Tryd.sizeOf2
  v2 := Tryd.zeroValue2
  t3 := Tryd.underlying3
  a3 := Tryd.isAgg3
  z3 := Tryd.sizeOf3
  v3 := Tryd.zeroValue3
  t4 := Tryd.underlying4
  a4 := Tryd.isAgg4
  z4 := Tryd.sizeOf4
  v4 := Tryd.zeroValue4
  t5 := Tryd.underlying5
  a5 := Tryd.isAgg5
  z5 := Tryd.sizeOf5
  v5 := Tryd.zeroValue5
  t9 := Tryd.underlying9
  a9 := Tryd.isAgg9
  z9 := Tryd.sizeOf9
  v9 := Tryd.zeroValue9
  t20 := Tryd.underlying20
  a20 := Tryd.isAgg20
  z20 := Tryd.sizeOf20
  v20 := Tryd.zeroValue20
  t21 := Tryd.underlying21
  a21 := Tryd.isAgg21
  z21 := Tryd.sizeOf21
  v21 := Tryd.zeroValue21
  t37 := Tryd.underlying23
  a37 := Tryd.isAgg23
  z37 := Tryd.sizeOf23
  v37 := Tryd.zeroValue23
  t46 := Tryd.underlying68
  a46 := Tryd.isAgg68
  z46 := Tryd.sizeOf68
  v46 := Tryd.zeroValue68
  t51 := Tryd.underlying92
  a51 := Tryd.isAgg92
  z51 := Tryd.sizeOf92
  v51 := Tryd.zeroValue92
  t53 := Tryd.underlying96
  a53 := Tryd.isAgg96
  z53 := Tryd.sizeOf96
  v53 := Tryd.zeroValue96
  t75 := Tryd.underlying66
  a75 := Tryd.isAgg66
  z75 := Tryd.sizeOf66
  v75 := Tryd.zeroValue66
  t76 := Tryd.underlying73
  a76 := Tryd.isAgg73
  z76 := Tryd.sizeOf73
  v76 := Tryd.zeroValue73
  t85 := Tryd.underlying105
  a85 := Tryd.isAgg105
  z85 := Tryd.sizeOf105
  v85 := Tryd.zeroValue105
  t127 := Tryd.underlying79
  a127 := Tryd.isAgg79
  z127 := Tryd.sizeOf79
  v127 := Tryd.zeroValue79
  t143 := Tryd.underlying140
  a143 := Tryd.isAgg140
  z143 := Tryd.sizeOf140
  v143 := Tryd.zeroValue140
  t145 := Tryd.underlying142
  a145 := Tryd.isAgg142
  z145 := Tryd.sizeOf142
  v145 := Tryd.zeroValue142
  t167 := Tryd.underlying104
  a167 := Tryd.isAgg104
  z167 := Tryd.sizeOf104
  v167 := Tryd.zeroValue104
  t168 := Tryd.underlying107
  a168 := Tryd.isAgg107
  z168 := Tryd.sizeOf107
  v168 := Tryd.zeroValue107
  t171 := Tryd.underlying95
  a171 := Tryd.isAgg95
  z171 := Tryd.sizeOf95
  v171 := Tryd.zeroValue95
  t173 := Tryd.underlying99
  a173 := Tryd.isAgg99
  z173 := Tryd.sizeOf99
  v173 := Tryd.zeroValue99
  t175 := Tryd.underlying125
  a175 := Tryd.isAgg125
  z175 := Tryd.sizeOf125
  v175 := Tryd.zeroValue125
  t210 := Tryd.underlying129
  a210 := Tryd.isAgg129
  z210 := Tryd.sizeOf129
  v210 := Tryd.zeroValue129
  t212 := Tryd.underlying122
  a212 := Tryd.isAgg122
  z212 := Tryd.sizeOf122
  v212 := Tryd.zeroValue122
  t213 := Tryd.underlying123
  a213 := Tryd.isAgg123
  z213 := Tryd.sizeOf123
  t232 := Tryd.underlying143
  a232 := Tryd.isAgg143
  z232 := Tryd.sizeOf143
  v232 := Tryd.zeroValue143
  t233 := Tryd.underlying144
  a233 := Tryd.isAgg144
  z233 := Tryd.sizeOf144
  v233 := Tryd.zeroValue144
  g15 := by kernel_rfl
  g16 := by kernel_rfl
  g17 := by kernel_rfl
  g18 := by kernel_rfl
  g19 := by kernel_rfl
  t80 := Tryd.underlying69
  a80 := Tryd.isAgg69
  z80 := Tryd.sizeOf69
  v80 := Tryd.zeroValue69
  i0 := by kernel_rfl
  i2 := by kernel_rfl
  i3 := by kernel_rfl
  i4 := by kernel_rfl
  i5 := by kernel_rfl
  i9 := by kernel_rfl
  i20 := by kernel_rfl
  i21 := by kernel_rfl
  i37 := by kernel_rfl
  i46 := by kernel_rfl
  i51 := by kernel_rfl
  i53 := by kernel_rfl
  i75 := by kernel_rfl
  i76 := by kernel_rfl
  i80 := by kernel_rfl
  i85 := by kernel_rfl
  i127 := by kernel_rfl
  i143 := by kernel_rfl
  i145 := by kernel_rfl
  i167 := by kernel_rfl
  i168 := by kernel_rfl
  i171 := by kernel_rfl
  i173 := by kernel_rfl
  i175 := by kernel_rfl
  i210 := by kernel_rfl
  i212 := by kernel_rfl
  i232 := by kernel_rfl
  i233 := by kernel_rfl
  m15 := by kernel_rfl
  m16 := by kernel_rfl
  m17 := by kernel_rfl
  m18 := by kernel_rfl
  m19 := by kernel_rfl
  c0 := by kernel_rfl
  c2 := by kernel_rfl
  c3 := by kernel_rfl
  c4 := by kernel_rfl
  c5 := by kernel_rfl
  c9 := by kernel_rfl
  c20 := by kernel_rfl
  c21 := by kernel_rfl
  c37 := by kernel_rfl
  c46 := by kernel_rfl
  c51 := by kernel_rfl
  c53 := by kernel_rfl
  c75 := by kernel_rfl
  c76 := by kernel_rfl
  c80 := by kernel_rfl
  c85 := by kernel_rfl
  c127 := by kernel_rfl
  c143 := by kernel_rfl
  c145 := by kernel_rfl
  c167 := by kernel_rfl
  c168 := by kernel_rfl
  c171 := by kernel_rfl
  c173 := by kernel_rfl
  c175 := by kernel_rfl
  c210 := by kernel_rfl
  c212 := by kernel_rfl
  c213 := by kernel_rfl
  c232 := by kernel_rfl
  c233 := by kernel_rfl }
def Tryd.lays143_ren : Go.Shelf.Ren := ⟨fun | 143 => 57 | 219 => 71 | 217 => 50 | 225 => 85 | 224 => 86 | 267 => 87 | 266 => 61 | 314 => 93 | n => n, fun | 9 => 9 | 3 => 3 | 4 => 4 | 5 => 5 | 46 => 68 | 146 => 137 | 51 => 92 | n => n, fun | 1 => 2 | n => n⟩
theorem Tryd.lays143 : Go.Proofs.Lays.n143 Tryd.prog Tryd.lays143_ren := {
  mixed := by kernel_rfl
  f143 := Tryd.func57.trans (congrArg some (by kernel_rfl))
  f217 := Tryd.func50.trans (congrArg some (by kernel_rfl))
  f219 := Tryd.func71.trans (congrArg some (by kernel_rfl))
  f224 := Tryd.func86.trans (congrArg some (by kernel_rfl))
  f225 := Tryd.func85.trans (congrArg some (by kernel_rfl))
  f266 := Tryd.func61.trans (congrArg some (by kernel_rfl))
  f267 := Tryd.func87.trans (congrArg some (by kernel_rfl))
  f314 := Tryd.func93.trans (congrArg some (by kernel_rfl))
  t3 := Tryd.underlying3
  a3 := Tryd.isAgg3
  z3 := Tryd.sizeOf3
  v3 := Tryd.zeroValue3
  t4 := Tryd.underlying4
  a4 := Tryd.isAgg4
  z4 := Tryd.sizeOf4
  v4 := Tryd.zeroValue4
  t5 := Tryd.underlying5
  a5 := Tryd.isAgg5
  z5 := Tryd.sizeOf5
  v5 := Tryd.zeroValue5
  t9 := Tryd.underlying9
  a9 := Tryd.isAgg9
  z9 := Tryd.sizeOf9
  v9 := Tryd.zeroValue9
  t46 := Tryd.underlying68
  a46 := Tryd.isAgg68
  z46 := Tryd.sizeOf68
  v46 := Tryd.zeroValue68
  t51 := Tryd.underlying92
  a51 := Tryd.isAgg92
  z51 := Tryd.sizeOf92
  v51 := Tryd.zeroValue92
  t146 := Tryd.underlying137
  a146 := Tryd.isAgg137
  z146 := Tryd.sizeOf137
  v146 := Tryd.zeroValue137
  g1 := by kernel_rfl }
def Tryd.lays138_ren : Go.Shelf.Ren := ⟨fun | 138 => 56 | 195 => 68 | 218 => 70 | 143 => 57 | 219 => 71 | 217 => 50 | 225 => 85 | 224 => 86 | 267 => 87 | 266 => 61 | 314 => 93 | n => n, fun | 9 => 9 | 3 => 3 | 4 => 4 | 5 => 5 | 0 => 0 | 46 => 68 | 146 => 137 | 51 => 92 | n => n, fun | 1 => 2 | n => n⟩
theorem Tryd.lays138 : Go.Proofs.Lays.n138 Tryd.prog Tryd.lays138_ren := {
  mixed := by kernel_rfl
  f138 := Tryd.func56.trans (congrArg some (by kernel_rfl))
  f143 := Tryd.func57.trans (congrArg some (by kernel_rfl))
  f195 := Tryd.func68.trans (congrArg some (by kernel_rfl))
  f217 := Tryd.func50.trans (congrArg some (by kernel_rfl))
  f218 := Tryd.func70.trans (congrArg some (by kernel_rfl))
  f219 := Tryd.func71.trans (congrArg some (by kernel_rfl))
  f224 := Tryd.func86.trans (congrArg some (by kernel_rfl))
  f225 := Tryd.func85.trans (congrArg some (by kernel_rfl))
  f266 := Tryd.func61.trans (congrArg some (by kernel_rfl))
  f267 := Tryd.func87.trans (congrArg some (by kernel_rfl))
  f314 := Tryd.func93.trans (congrArg some (by kernel_rfl))
  t0 := Tryd.underlying0
  a0 := Tryd.isAgg0
  z0 := Tryd.sizeOf0
  v0 := Tryd.zeroValue0
  t3 := Tryd.underlying3
  a3 := Tryd.isAgg3
  z3 := Tryd.sizeOf3
  v3 := Tryd.zeroValue3
  t4 := Tryd.underlying4
  a4 := Tryd.isAgg4
  z4 := Tryd.sizeOf4
  v4 := Tryd.zeroValue4
  t5 := Tryd.underlying5
  a5 := Tryd.isAgg5
  z5 := Tryd.sizeOf5
  v5 := Tryd.zeroValue5
  t9 := Tryd.underlying9
  a9 := Tryd.isAgg9
  z9 := Tryd.sizeOf9
  v9 := Tryd.zeroValue9
  t46 := Tryd.underlying68
  a46 := Tryd.isAgg68
  z46 := Tryd.sizeOf68
  v46 := Tryd.zeroValue68
  t51 := Tryd.underlying92
  a51 := Tryd.isAgg92
  z51 := Tryd.sizeOf92
  v51 := Tryd.zeroValue92
  t146 := Tryd.underlying137
  a146 := Tryd.isAgg137
  z146 := Tryd.sizeOf137
  v146 := Tryd.zeroValue137
  g1 := by kernel_rfl }
def Tryd.lays221_ren : Go.Shelf.Ren := ⟨fun | 221 => 47 | 268 => 55 | 138 => 56 | 143 => 57 | 195 => 68 | 197 => 69 | 218 => 70 | 219 => 71 | 260 => 84 | 217 => 50 | 225 => 85 | 224 => 86 | 267 => 87 | 266 => 61 | 314 => 93 | n => n, fun | 9 => 9 | 3 => 3 | 31 => 45 | 4 => 4 | 0 => 0 | 105 => 102 | 21 => 21 | 5 => 5 | 46 => 68 | 119 => 80 | 139 => 136 | 138 => 135 | 146 => 137 | 51 => 92 | n => n, fun | 1 => 2 | 3 => 6 | 4 => 7 | n => n⟩
theorem Tryd.lays221 : Go.Proofs.Lays.n221 Tryd.prog Tryd.lays221_ren := {
  mixed := by kernel_rfl
  f138 := Tryd.func56.trans (congrArg some (by kernel_rfl))
  f143 := Tryd.func57.trans (congrArg some (by kernel_rfl))
  f195 := Tryd.func68.trans (congrArg some (by kernel_rfl))
  f197 := Tryd.func69.trans (congrArg some (by kernel_rfl))
  f217 := Tryd.func50.trans (congrArg some (by kernel_rfl))
  f218 := Tryd.func70.trans (congrArg some (by kernel_rfl))
  f219 := Tryd.func71.trans (congrArg some (by kernel_rfl))
  f221 := Tryd.func47.trans (congrArg some (by kernel_rfl))
  f224 := Tryd.func86.trans (congrArg some (by kernel_rfl))
  f225 := Tryd.func85.trans (congrArg some (by kernel_rfl))
  f260 := Tryd.func84.trans (congrArg some (by kernel_rfl))
  f266 := Tryd.func61.trans (congrArg some (by kernel_rfl))
  f267 := Tryd.func87.trans (congrArg some (by kernel_rfl))
  f268 := Tryd.func55.trans (congrArg some (by kernel_rfl))
  f314 := Tryd.func93.trans (congrArg some (by kernel_rfl))
  t0 := Tryd.underlying0
  a0 := Tryd.isAgg0
  z0 := Tryd.sizeOf0
  v0 := Tryd.zeroValue0
  t3 := Tryd.underlying3
  a3 := Tryd.isAgg3
  z3 := Tryd.sizeOf3
  v3 := Tryd.zeroValue3
  t4 := Tryd.underlying4
  a4 := Tryd.isAgg4
  z4 := Tryd.sizeOf4
  v4 := Tryd.zeroValue4
  t5 := Tryd.underlying5
  a5 := Tryd.isAgg5
  z5 := Tryd.sizeOf5
  v5 := Tryd.zeroValue5
  t9 := Tryd.underlying9
  a9 := Tryd.isAgg9
  z9 := Tryd.sizeOf9
  v9 := Tryd.zeroValue9
  t21 := Tryd.underlying21
  a21 := Tryd.isAgg21
  z21 := Tryd.sizeOf21
  v21 := Tryd.zeroValue21
  t31 := Tryd.underlying45
  a31 := Tryd.isAgg45
  z31 := Tryd.sizeOf45
  v31 := Tryd.zeroValue45
  t46 := Tryd.underlying68
  a46 := Tryd.isAgg68
  z46 := Tryd.sizeOf68
  v46 := Tryd.zeroValue68
  t51 := Tryd.underlying92
  a51 := Tryd.isAgg92
  z51 := Tryd.sizeOf92
  v51 := Tryd.zeroValue92
  t105 := Tryd.underlying102
  a105 := Tryd.isAgg102
  z105 := Tryd.sizeOf102
  v105 := Tryd.zeroValue102
  t119 := Tryd.underlying80
  a119 := Tryd.isAgg80
  z119 := Tryd.sizeOf80
  t138 := Tryd.underlying135
  a138 := Tryd.isAgg135
  z138 := Tryd.sizeOf135
  v138 := Tryd.zeroValue135
  t139 := Tryd.underlying136
  a139 := Tryd.isAgg136
  z139 := Tryd.sizeOf136
  v139 := Tryd.zeroValue136
  t146 := Tryd.underlying137
  a146 := Tryd.isAgg137
  z146 := Tryd.sizeOf137
  v146 := Tryd.zeroValue137
  g1 := by kernel_rfl
  g3 := by kernel_rfl
  g4 := by kernel_rfl }
def Tryd.lays157_ren : Go.Shelf.Ren := ⟨fun | 157 => 41 | 229 => 51 | 199 => 52 | 261 => 62 | 311 => 77 | 312 => 78 | n => n, fun | 9 => 9 | 31 => 45 | 3 => 3 | 5 => 5 | 4 => 4 | 119 => 80 | 0 => 0 | 40 => 82 | 152 => 89 | 21 => 21 | 154 => 91 | 51 => 92 | 141 => 94 | 196 => 113 | 193 => 110 | 198 => 116 | 49 => 114 | 194 => 111 | 201 => 119 | 226 => 131 | 46 => 68 | 227 => 132 | n => n, fun | 0 => 0 | 6 => 1 | n => n⟩
theorem Tryd.lays157 : Go.Proofs.Lays.n157 Tryd.prog Tryd.lays157_ren := {
  mixed := by kernel_rfl
  f157 := Tryd.func41.trans (congrArg some (by kernel_rfl))
  f199 := Tryd.func52.trans (congrArg some (by kernel_rfl))
  f229 := Tryd.func51.trans (congrArg some (by kernel_rfl))
  f261 := Tryd.func62.trans (congrArg some (by kernel_rfl))
  f311 := Tryd.func77.trans (congrArg some (by kernel_rfl))
  f312 := Tryd.func78.trans (congrArg some (by kernel_rfl))
  t0 := Tryd.underlying0
  a0 := Tryd.isAgg0
  z0 := Tryd.sizeOf0
  v0 := Tryd.zeroValue0
  t3 := Tryd.underlying3
  a3 := Tryd.isAgg3
  z3 := Tryd.sizeOf3
  v3 := Tryd.zeroValue3
  t4 := Tryd.underlying4
  a4 := Tryd.isAgg4
  z4 := Tryd.sizeOf4
  v4 := Tryd.zeroValue4
  t5 := Tryd.underlying5
  a5 := Tryd.isAgg5
  z5 := Tryd.sizeOf5
  v5 := Tryd.zeroValue5
  t9 := Tryd.underlying9
  a9 := Tryd.isAgg9
  z9 := Tryd.sizeOf9
  v9 := Tryd.zeroValue9
  t21 := Tryd.underlying21
  a21 := Tryd.isAgg21
  z21 := Tryd.sizeOf21
  v21 := Tryd.zeroValue21
  t31 := Tryd.underlying45
  a31 := Tryd.isAgg45
  z31 := Tryd.sizeOf45
  v31 := Tryd.zeroValue45
  t40 := Tryd.underlying82
  a40 := Tryd.isAgg82
  z40 := Tryd.sizeOf82
  v40 := Tryd.zeroValue82
  t46 := Tryd.underlying68
  a46 := Tryd.isAgg68
  z46 := Tryd.sizeOf68
  v46 := Tryd.zeroValue68
  t49 := Tryd.underlying114
  a49 := Tryd.isAgg114
  z49 := Tryd.sizeOf114
  v49 := Tryd.zeroValue114
  t51 := Tryd.underlying92
  a51 := Tryd.isAgg92
  z51 := Tryd.sizeOf92
  v51 := Tryd.zeroValue92
  t119 := Tryd.underlying80
  a119 := Tryd.isAgg80
  z119 := Tryd.sizeOf80
  t141 := Tryd.underlying94
  a141 := Tryd.isAgg94
  z141 := Tryd.sizeOf94
  v141 := Tryd.zeroValue94
  t152 := Tryd.underlying89
  a152 := Tryd.isAgg89
  z152 := Tryd.sizeOf89
  v152 := Tryd.zeroValue89
  t154 := Tryd.underlying91
  a154 := Tryd.isAgg91
  z154 := Tryd.sizeOf91
  v154 := Tryd.zeroValue91
  t193 := Tryd.underlying110
  a193 := Tryd.isAgg110
  z193 := Tryd.sizeOf110
  v193 := Tryd.zeroValue110
  t194 := Tryd.underlying111
  a194 := Tryd.isAgg111
  z194 := Tryd.sizeOf111
  v194 := Tryd.zeroValue111
  t196 := Tryd.underlying113
  a196 := Tryd.isAgg113
  z196 := Tryd.sizeOf113
  v196 := Tryd.zeroValue113
  t198 := Tryd.underlying116
  a198 := Tryd.isAgg116
  z198 := Tryd.sizeOf116
  v198 := Tryd.zeroValue116
  t201 := Tryd.underlying119
  a201 := Tryd.isAgg119
  z201 := Tryd.sizeOf119
  v201 := Tryd.zeroValue119
  t226 := Tryd.underlying131
  a226 := Tryd.isAgg131
  z226 := Tryd.sizeOf131
  v226 := Tryd.zeroValue131
  t227 := Tryd.underlying132
  a227 := Tryd.isAgg132
  z227 := Tryd.sizeOf132
  v227 := Tryd.zeroValue132
  g0 := by kernel_rfl
  g6 := by kernel_rfl }
end Go.Proofs

/-
  Plain: commands as lines of text, and how a line is read.
-/
namespace Go.PL
set_option linter.unusedVariables false
set_option linter.unusedSimpArgs false
open Go.Lib
/-! ### decimal numbers -/
theorem dd_lt {u : Nat} (h : u < 10) : decDigits u = [UInt8.ofNat (48 + u)] := by rw [decDigits, dif_pos h]
theorem dd_ge {u : Nat} (h : ¬ u < 10) : decDigits u = decDigits (u / 10) ++ [UInt8.ofNat (48 + u % 10)] := by rw [decDigits, dif_neg h]
theorem dd_step {m d : Nat} (hm : 1 ≤ m) (hd : d < 10) : decDigits (10 * m + d) = decDigits m ++ [UInt8.ofNat (48 + d)] := by
  rw [dd_ge (by omega), show (10 * m + d) / 10 = m by omega, show (10 * m + d) % 10 = d by omega]
def isDg (c : UInt8) : Bool := decide (48 ≤ c.toNat) && decide (c.toNat ≤ 57)
theorem toNat_digit {d : Nat} (h : d < 10) : (UInt8.ofNat (48 + d)).toNat = 48 + d := by
  rw [UInt8.toNat_ofNat']; omega
theorem ofNat_digit {c : UInt8} (h : isDg c = true) : UInt8.ofNat (48 + (c.toNat - 48)) = c := by
  simp only [isDg, Bool.and_eq_true, decide_eq_true_eq] at h
  apply UInt8.toNat.inj
  rw [toNat_digit (by omega)]; omega
/-- what digits spell, on from a number -/
def dval : Nat → List UInt8 → Option Nat
  | n, [] => some n
  | n, c :: l => if isDg c then dval (10 * n + (c.toNat - 48)) l else none
theorem dval_app : ∀ (l : List UInt8) (n : Nat) (m : List UInt8), dval n (l ++ m) = (dval n l).bind fun k => dval k m
  | [], n, m => rfl
  | c :: l, n, m => by
    simp only [List.cons_append, dval]
    split
    · exact dval_app l _ m
    · rfl
theorem dval_dd (u : Nat) : dval 0 (decDigits u) = some u := by
  induction u using Nat.strongRecOn with
  | _ u ih =>
    by_cases h : u < 10
    · rw [dd_lt h]
      simp only [dval, isDg, toNat_digit h]
      rw [if_pos (by simp; omega)]
      congr 1; omega
    · rw [dd_ge h, dval_app, ih (u / 10) (by omega)]
      simp only [Option.bind_some, dval, isDg, toNat_digit (show u % 10 < 10 by omega)]
      rw [if_pos (by simp; omega)]
      congr 1; omega
theorem dd_pos (u : Nat) : 0 < (decDigits u).length := by
  by_cases h : u < 10
  · rw [dd_lt h]; simp
  · rw [dd_ge h]; simp
theorem dd_all (u : Nat) : ∀ c, c ∈ decDigits u → isDg c = true := by
  induction u using Nat.strongRecOn with
  | _ u ih =>
    intro c hc
    by_cases h : u < 10
    · rw [dd_lt h, List.mem_singleton] at hc
      subst hc
      simp [isDg, toNat_digit h]; omega
    · rw [dd_ge h, List.mem_append, List.mem_singleton] at hc
      rcases hc with hc | hc
      · exact ih _ (by omega) c hc
      · subst hc; simp [isDg, toNat_digit (show u % 10 < 10 by omega)]; omega
theorem dd_head : ∀ (u : Nat), 1 ≤ u → ∃ c l, decDigits u = c :: l ∧ c ≠ 48 := by
  intro u
  induction u using Nat.strongRecOn with
  | _ u ih =>
    intro h1
    by_cases h : u < 10
    · refine ⟨_, [], dd_lt h, fun e => ?_⟩
      have := congrArg UInt8.toNat e
      rw [toNat_digit h] at this
      simp at this; omega
    · obtain ⟨c, l, e, hc⟩ := ih (u / 10) (by omega) (by omega)
      exact ⟨c, _, by rw [dd_ge h, e]; rfl, hc⟩
theorem dd_len {k u : Nat} (h : u < 10 ^ k) (hk : 1 ≤ k) : (decDigits u).length ≤ k := by
  induction k generalizing u with
  | zero => omega
  | succ k ih =>
    by_cases h1 : u < 10
    · rw [dd_lt h1]; simp
    · rw [dd_ge h1, List.length_append]
      rw [Nat.pow_succ] at h
      cases k with
      | zero => simp at h; omega
      | succ k => have := ih (u := u / 10) (by omega) (by omega); simp; omega
/-- digits behind a number that is none are this number's -/
theorem dd_dval : ∀ (l : List UInt8) (n m : Nat), 1 ≤ n → dval n l = some m → decDigits n ++ l = decDigits m ∧ n ≤ m
  | [], n, m, hn, h => by cases h; simp
  | c :: l, n, m, hn, h => by
    unfold dval at h
    by_cases hc : isDg c = true
    · rw [if_pos hc] at h
      obtain ⟨e, h2⟩ := dd_dval l _ m (by omega) h
      have h3 := hc
      simp only [isDg, Bool.and_eq_true, decide_eq_true_eq] at h3
      rw [dd_step hn (by omega), ofNat_digit hc, List.append_assoc] at e
      exact ⟨e, by omega⟩
    · rw [if_neg hc] at h; cases h
/-- a number told in digits, as the document reads it: at most ten digits, no needless 0 -/
def num34 (s : List UInt8) : Option Nat :=
  if s.length = 0 ∨ s.length > 10 ∨ s.length > 1 ∧ s.head? = some 48 then none
  else match dval 0 s with
    | some n => if n ≤ 1073741824 then some n else none
    | none => none
theorem num34_dd {n : Nat} (h : n ≤ 1073741824) : num34 (decDigits n) = some n := by
  have h1 := dd_pos n
  have h2 := dd_len (k := 10) (u := n) (by omega) (by omega)
  unfold num34
  rw [if_neg ?_, dval_dd]
  · exact if_pos h
  · rintro (h3 | h3 | ⟨h3, h4⟩)
    · omega
    · omega
    · by_cases h5 : 1 ≤ n
      · obtain ⟨c, l, e, hc⟩ := dd_head n h5
        rw [e] at h4; simp at h4; exact hc h4
      · rw [dd_lt (by omega)] at h3; simp at h3
theorem dd_num34 {s : List UInt8} {n : Nat} (h : num34 s = some n) : s = decDigits n ∧ n ≤ 1073741824 := by
  unfold num34 at h
  split at h
  · cases h
  · rename_i h1
    cases e : dval 0 s with
    | none => rw [e] at h; cases h
    | some m =>
      rw [e] at h
      simp only at h
      split at h
      · rename_i hm
        cases h
        refine ⟨?_, hm⟩
        cases s with
        | nil => simp at h1
        | cons c l =>
          unfold dval at e
          by_cases hc : isDg c = true
          · rw [if_pos hc] at e
            have h3 := hc
            simp only [isDg, Bool.and_eq_true, decide_eq_true_eq] at h3
            by_cases h4 : c = 48
            · subst h4
              have hl : l = [] := by
                cases l with
                | nil => rfl
                | cons x l => exact (h1 (Or.inr (Or.inr ⟨by simp, rfl⟩))).elim
              subst hl
              unfold dval at e
              cases e
              rw [dd_lt (by decide)]; rfl
            · have h5 : c.toNat ≠ 48 := fun q => h4 (UInt8.toNat.inj q)
              have := dd_dval l _ n (by omega) e
              rw [← this.1, dd_lt (by omega), show 10 * 0 + (c.toNat - 48) = c.toNat - 48 by omega, ofNat_digit hc]
              rfl
          · rw [if_neg hc] at e; cases e
      · cases h
/-- the library's reader at a number's digits -/
theorem parse_dval : ∀ (l : List UInt8) (n m : Nat), dval n l = some m → m < 1844674407370955162 → n ≤ m → parseUint10 n l = .ok m
  | [], n, m, h, hm, hn => by cases h; rfl
  | c :: l, n, m, h, hm, hn => by
    unfold dval at h
    by_cases hc : isDg c = true
    · rw [if_pos hc] at h
      have hle : ∀ (l : List UInt8) (a b : Nat), dval a l = some b → a ≤ b := by
        intro l
        induction l with
        | nil => intro a b h; cases h; exact Nat.le_refl _
        | cons x l ih =>
          intro a b h
          unfold dval at h
          split at h
          · have := ih _ _ h; omega
          · cases h
      have h2 := hle _ _ _ h
      have h3 := hc
      simp only [isDg, Bool.and_eq_true, decide_eq_true_eq] at h3
      unfold parseUint10
      rw [if_pos h3, if_neg (by omega), if_neg (by omega), show n * 10 + (c.toNat - 48) = 10 * n + (c.toNat - 48) by omega]
      exact parse_dval l _ m h hm h2
    · rw [if_neg hc] at h; cases h
theorem atoi_dd {n : Nat} (h : n ≤ 1073741824) : atoiAll (decDigits n) = .ok n := by
  have hp := dd_pos n
  cases e : decDigits n with
  | nil => rw [e] at hp; simp at hp
  | cons c l =>
    have hc := dd_all n c (by rw [e]; simp)
    simp only [isDg, Bool.and_eq_true, decide_eq_true_eq] at hc
    have h1 : parseMag (c :: l) = .ok n := by
      unfold parseMag
      rw [if_neg (by simp), ← e]
      exact parse_dval _ 0 n (dval_dd n) (by omega) (by omega)
    simp only [atoiAll]
    rw [if_neg (by omega), h1]
    simp only
    rw [if_neg (by omega), if_neg (by omega), if_neg (by omega)]
/-- what the program asks of a number's text -/
theorem num34_is (s : List UInt8) : (∀ v, atoiAll s = .ok v → itoa v = s → 0 ≤ v → v ≤ 1073741824 → num34 s = some v.toNat) ∧ (∀ n, num34 s = some n → atoiAll s = .ok (n : Int) ∧ itoa (n : Int) = s ∧ n ≤ 1073741824) := by
  constructor
  · intro v _ h1 h2 h3
    rw [itoa, if_neg (by omega)] at h1
    rw [← h1]
    exact num34_dd (by omega)
  · intro n h
    obtain ⟨h1, h2⟩ := dd_num34 h
    subst h1
    refine ⟨atoi_dd h2, ?_, h2⟩
    rw [itoa, if_neg (by omega)]
    simp
end Go.PL

/-
  Plain: trees, and what the document says of them.
-/
namespace Go.PL
set_option linter.unusedVariables false
set_option linter.unusedSimpArgs false
inductive T where
  | mk (kind : Int) (words : List Int) (kids : List T)
  deriving Inhabited
namespace T
def kind : T → Int | mk k _ _ => k
def words : T → List Int | mk _ w _ => w
def kids : T → List T | mk _ _ l => l
@[simp] theorem kind_mk {k : Int} {w : List Int} {l : List T} : (mk k w l).kind = k := rfl
@[simp] theorem words_mk {k : Int} {w : List Int} {l : List T} : (mk k w l).words = w := rfl
@[simp] theorem kids_mk {k : Int} {w : List Int} {l : List T} : (mk k w l).kids = l := rfl
end T
/-! ### the Norm -/
/-! ### how many words a tree takes -/
/- As the program counts it. -/
/-! ### which trees may be -/
/- No deeper, and no more parts: what is left. -/
/-! ### the program's size is the document's, of a right tree's Norm -/
end Go.PL

/-
  Plain: trees as texts, and how a text is read (for whichever reader of numbers).
-/
namespace Go.PL
set_option linter.unusedVariables false
set_option linter.unusedSimpArgs false
/-! ### numbers -/
def hexD (n : Nat) : UInt8 := if n < 10 then UInt8.ofNat (48 + n) else UInt8.ofNat (87 + n)
def hexV (c : UInt8) : Option Nat := if 48 ≤ c.toNat ∧ c.toNat ≤ 57 then some (c.toNat - 48) else if 97 ≤ c.toNat ∧ c.toNat ≤ 102 then some (c.toNat - 87) else none
theorem hexD_nat {n : Nat} (h : n < 16) : (hexD n).toNat = if n < 10 then 48 + n else 87 + n := by
  unfold hexD
  split
  · rw [UInt8.toNat_ofNat']; exact Nat.mod_eq_of_lt (by omega)
  · rw [UInt8.toNat_ofNat']; exact Nat.mod_eq_of_lt (by omega)
theorem hexV_D {n : Nat} (h : n < 16) : hexV (hexD n) = some n := by
  have e := hexD_nat h
  unfold hexV
  rw [e]
  by_cases h1 : n < 10
  · rw [if_pos h1, if_pos (by omega)]; congr 1; omega
  · rw [if_neg h1, if_neg (by omega), if_pos (by omega)]; congr 1; omega
theorem hexD_V {c : UInt8} {d : Nat} (h : hexV c = some d) : d < 16 ∧ hexD d = c := by
  unfold hexV at h
  have hd : d < 16 := by
    split at h
    · cases h; omega
    · split at h
      · cases h; omega
      · cases h
  refine ⟨hd, ?_⟩
  apply UInt8.toNat_inj.1
  rw [hexD_nat hd]
  split at h
  · cases h; split <;> omega
  · split at h
    · cases h; split <;> omega
    · cases h
/-! ### the program's reader of numbers -/
/-! ### the document's reader of numbers -/
end Go.PL

/-
  Plain: bytes as digits; lines between blanks; commands.
-/
namespace Go.PL
set_option linter.unusedVariables false
set_option linter.unusedSimpArgs false
open Go.Lib
/-! ### bytes as digits -/
def hex2 (c : UInt8) : List UInt8 := [hexD (c.toNat / 16), hexD (c.toNat % 16)]
def hexB (bs : List UInt8) : List UInt8 := if bs = [] then [45] else bs.flatMap hex2
def unGo : List UInt8 → Option (List UInt8)
  | [] => some []
  | [_] => none
  | a :: b :: l => match hexV a, hexV b with
    | some x, some y => (unGo l).map fun r => UInt8.ofNat (16 * x + y) :: r
    | _, _ => none
def unhexB (s : List UInt8) : Option (List UInt8) := if s = [45] then some [] else if s = [] ∨ s.length % 2 ≠ 0 then none else unGo s
theorem hexV_lt {c : UInt8} {d : Nat} (h : hexV c = some d) : d < 16 := (hexD_V h).1
theorem unGo_hex : ∀ (bs : List UInt8), unGo (bs.flatMap hex2) = some bs
  | [] => rfl
  | c :: l => by
    have hc := c.toNat_lt
    simp only [List.flatMap_cons, hex2, List.cons_append, List.nil_append, unGo]
    rw [hexV_D (by omega), hexV_D (by omega)]
    simp only
    have ih := unGo_hex l
    rw [ih]
    simp only [Option.map_some, Option.some.injEq, List.cons.injEq, and_true]
    rw [show 16 * (c.toNat / 16) + c.toNat % 16 = c.toNat by omega]
    exact UInt8.ofNat_toNat
theorem hex_unGo : ∀ (n : Nat) (s bs : List UInt8), s.length ≤ n → unGo s = some bs → bs.flatMap hex2 = s
  | n, [], bs, _, h => by cases h; rfl
  | n, [_], bs, _, h => by cases h
  | 0, a :: b :: l, bs, hn, h => by simp at hn
  | n + 1, a :: b :: l, bs, hn, h => by
    unfold unGo at h
    cases ea : hexV a with
    | none => rw [ea] at h; cases h
    | some x =>
      cases eb : hexV b with
      | none => rw [ea, eb] at h; cases h
      | some y =>
        rw [ea, eb] at h
        simp only [Option.map_eq_some_iff] at h
        obtain ⟨r, h1, rfl⟩ := h
        have h2 := hex_unGo n l r (by simp at hn; omega) h1
        obtain ⟨x1, x2⟩ := hexD_V ea
        obtain ⟨y1, y2⟩ := hexD_V eb
        rw [List.flatMap_cons, h2, hex2, UInt8.toNat_ofNat', show (16 * x + y) % 2 ^ 8 = 16 * x + y by omega, show (16 * x + y) / 16 = x by omega, show (16 * x + y) % 16 = y by omega, x2, y2]
        rfl
theorem hex2_len (bs : List UInt8) : (bs.flatMap hex2).length = 2 * bs.length := by
  induction bs with
  | nil => rfl
  | cons c l ih => rw [List.flatMap_cons, List.length_append, ih]; simp [hex2]; omega
theorem unhexB_hexB (bs : List UInt8) : unhexB (hexB bs) = some bs := by
  unfold hexB
  by_cases h : bs = []
  · subst h; rfl
  · rw [if_neg h]
    have hl := hex2_len bs
    have h1 : 0 < bs.length := List.length_pos_iff.2 h
    unfold unhexB
    rw [if_neg (fun e => by rw [e] at hl; simp at hl; omega), if_neg ?_, unGo_hex]
    rintro (e | e)
    · rw [e] at hl; simp at hl; omega
    · omega
theorem hexB_unhexB {s bs : List UInt8} (h : unhexB s = some bs) : hexB bs = s := by
  unfold unhexB at h
  split at h
  · rename_i e; cases h; subst e; rfl
  · split at h
    · cases h
    · rename_i h1 h2
      have := hex_unGo _ s bs (Nat.le_refl _) h
      have hl := hex2_len bs
      unfold hexB
      rw [if_neg, this]
      intro e; subst e
      have h3 : s = [] := this.symm
      exact h2 (Or.inl h3)
theorem hex2_no {bs : List UInt8} : ∀ c, c ∈ bs.flatMap hex2 → c ≠ 32 := by
  intro c hc e
  subst e
  rw [List.mem_flatMap] at hc
  obtain ⟨b, _, hb⟩ := hc
  have hb1 := b.toNat_lt
  have key : ∀ d, d < 16 → hexD d ≠ 32 := by
    intro d hd e
    have h1 := hexV_D hd
    rw [e] at h1
    cases h1
  rcases List.mem_cons.1 hb with e | e
  · exact key _ (by omega) e.symm
  · exact key _ (by omega) (List.mem_singleton.1 e).symm
theorem hexB_no {bs : List UInt8} : ∀ c, c ∈ hexB bs → c ≠ 32 := by
  unfold hexB
  split
  · intro c hc; rw [List.mem_singleton] at hc; subst hc; decide
  · exact hex2_no
/-! ### between blanks -/
def split32 : List UInt8 → List (List UInt8)
  | [] => [[]]
  | c :: l => if c = 32 then [] :: split32 l else (c :: (split32 l).headD []) :: (split32 l).tail
theorem split32_ne (s : List UInt8) : split32 s ≠ [] := by
  cases s with
  | nil => simp [split32]
  | cons c l => unfold split32; split <;> simp
theorem split32_cons (s : List UInt8) : split32 s = (split32 s).headD [] :: (split32 s).tail := by
  have := split32_ne s
  cases h : split32 s with
  | nil => exact (this h).elim
  | cons x l => rfl
theorem join_cons2 (x y : List UInt8) (l : List (List UInt8)) (sep : List UInt8) : join (x :: y :: l) sep = x ++ sep ++ join (y :: l) sep := by
  simp [join, List.intercalate, List.intersperse]
theorem join_one' (x sep : List UInt8) : join [x] sep = x := by simp [join, List.intercalate, List.intersperse]
theorem join_headD (x : List UInt8) (c : UInt8) (l : List (List UInt8)) (sep : List UInt8) : join ((c :: x) :: l) sep = c :: join (x :: l) sep := by
  cases l with
  | nil => rw [join_one', join_one']
  | cons y l => rw [join_cons2, join_cons2]; rfl
theorem join_split : ∀ (s : List UInt8), join (split32 s) [32] = s
  | [] => by rw [split32, join_one']
  | c :: l => by
    have ih := join_split l
    unfold split32
    by_cases h : c = 32
    · rw [if_pos h, split32_cons l, join_cons2, ← split32_cons l, ih, h]; rfl
    · rw [if_neg h, join_headD, ← split32_cons l, ih]
theorem split_app : ∀ (x : List UInt8), (∀ c, c ∈ x → c ≠ 32) → ∀ (l : List UInt8), split32 (x ++ 32 :: l) = x :: split32 l
  | [], _, l => by show split32 (32 :: l) = _; rw [split32, if_pos rfl]
  | c :: x, h, l => by
    have ih := split_app x (fun c hc => h c (List.mem_cons_of_mem _ hc)) l
    rw [List.cons_append, split32, if_neg (h c (List.mem_cons_self ..)), ih]; rfl
theorem split_none : ∀ (x : List UInt8), (∀ c, c ∈ x → c ≠ 32) → split32 x = [x]
  | [], _ => rfl
  | c :: x, h => by
    have ih := split_none x (fun c hc => h c (List.mem_cons_of_mem _ hc))
    rw [split32, if_neg (h c (List.mem_cons_self ..)), ih]; rfl
theorem split_join : ∀ (l : List (List UInt8)), l ≠ [] → (∀ x, x ∈ l → ∀ c, c ∈ x → c ≠ 32) → split32 (join l [32]) = l
  | [], h, _ => (h rfl).elim
  | [x], _, h => by rw [join_one']; exact split_none x (h x (List.mem_cons_self ..))
  | x :: y :: l, _, h => by
    rw [join_cons2, List.append_assoc]
    show split32 (x ++ 32 :: join (y :: l) [32]) = _
    rw [split_app x (h x (List.mem_cons_self ..)), split_join (y :: l) (by simp) (fun z hz => h z (List.mem_cons_of_mem _ hz))]
/-! ### commands -/
def names34 : List (List UInt8) := [[108, 105, 109, 105, 116, 115], [108, 111, 97, 100], [117, 110, 112, 97, 99, 107], [116, 101, 120, 116], [100, 105, 102, 102], [97, 112, 112, 108, 121], [105, 110, 118, 101, 114, 116], [110, 111, 114, 109, 97, 108], [99, 111, 109, 112, 111, 115, 101], [114, 101, 98, 97, 115, 101], [109, 101, 114, 103, 101], [100, 114, 111, 112], [100, 117, 109, 112], [112, 97, 99, 107], [115, 104, 111, 119]]
def nm34 (op : Nat) : List UInt8 := names34.getD op []
def na34 (op : Nat) : Nat := [4, 1, 1, 1, 3, 3, 2, 2, 3, 4, 5, 1, 1, 1, 1].getD op 0
def bk34 (op : Nat) : Nat := [0, 1, 1, 2].getD op 0
def ix34 (h : List UInt8) : Option Nat := names34.findIdx? (· == h)
theorem ix34_nm {op : Nat} (h : op < 15) : ix34 (nm34 op) = some op := by
  have : ∀ op, op < 15 → ix34 (nm34 op) = some op := by decide
  exact this op h
theorem nm34_ix {h : List UInt8} {op : Nat} (e : ix34 h = some op) : op < 15 ∧ nm34 op = h := by
  unfold ix34 at e
  rw [List.findIdx?_eq_some_iff_getElem] at e
  obtain ⟨h1, h2, _⟩ := e
  refine ⟨h1, ?_⟩
  rw [nm34, List.getD_eq_getElem?_getD, List.getElem?_eq_getElem h1]
  exact eq_of_beq h2
theorem nm34_no : ∀ op, op < 15 → ∀ c, c ∈ nm34 op → c ≠ 32 := by
  intro op h
  have : ∀ op, op < 15 → (nm34 op).all (fun c => c != 32) = true := by decide
  intro c hc
  have := List.all_eq_true.1 (this op h) c hc
  simpa using this
def prn (c : UInt8) : Bool := decide (33 ≤ c.toNat) && decide (c.toNat ≤ 126)
def smallI (n : Int) : Bool := decide (0 ≤ n) && decide (n ≤ 1073741824)
/-- may a command be? -/
def right34 (op : Int) (az : List Int) (bs : List UInt8) : Bool :=
  decide (0 ≤ op) && decide (op < 15) && decide (az.length = na34 op.toNat) && az.all smallI &&
    (if bk34 op.toNat = 2 then decide (bs ≠ []) && bs.all prn else decide (bk34 op.toNat = 1) || decide (bs = []))
def tail34 (op : Nat) (bs : List UInt8) : List (List UInt8) := if bk34 op = 1 then [hexB bs] else if bk34 op = 2 then [bs] else []
def line34 (op : Nat) (az : List Int) (bs : List UInt8) : List (List UInt8) := nm34 op :: az.map itoa ++ tail34 op bs
def print34 (op : Int) (az : List Int) (bs : List UInt8) : List UInt8 := if right34 op az bs then join (line34 op.toNat az bs) [32] else []
def bytes34 (op : Nat) (l : List (List UInt8)) : Option (List UInt8) :=
  if bk34 op = 1 then unhexB (l.headD []) else if bk34 op = 2 then (if l.headD [] ≠ [] ∧ (l.headD []).all prn = true then some (l.headD []) else none) else some []
def nums34 : List (List UInt8) → Option (List Int)
  | [] => some []
  | x :: l => match num34 x with
    | some n => (nums34 l).map ((n : Int) :: ·)
    | none => none
def args34 (op : Nat) (l : List (List UInt8)) : Option (List Int) := nums34 (l.take (na34 op))
def len34 (op : Nat) : Nat := if bk34 op = 0 then na34 op else na34 op + 1
def parse34 (s : List UInt8) : Option (Nat × List Int × List UInt8) :=
  match ix34 ((split32 s).headD []) with
  | none => none
  | some op => if (split32 s).tail.length ≠ len34 op then none else
    match args34 op (split32 s).tail, bytes34 op ((split32 s).tail.drop (na34 op)) with
    | some az, some bs => some (op, az, bs)
    | _, _ => none
theorem right34_iff {op : Int} {az : List Int} {bs : List UInt8} : right34 op az bs = true ↔ 0 ≤ op ∧ op < 15 ∧ az.length = na34 op.toNat ∧ (∀ n, n ∈ az → 0 ≤ n ∧ n ≤ 1073741824) ∧
    (bk34 op.toNat = 2 → bs ≠ [] ∧ ∀ c, c ∈ bs → prn c = true) ∧ (bk34 op.toNat = 0 → bs = []) := by
  have hb : ∀ k, bk34 k = 0 ∨ bk34 k = 1 ∨ bk34 k = 2 := by
    intro k
    by_cases hk : k < 4
    · have : ∀ k, k < 4 → bk34 k = 0 ∨ bk34 k = 1 ∨ bk34 k = 2 := by decide
      exact this k hk
    · left
      rw [bk34, List.getD_eq_getElem?_getD, List.getElem?_eq_none (by simp; omega)]; rfl
  unfold right34
  simp only [Bool.and_eq_true, decide_eq_true_eq, List.all_eq_true, smallI]
  rcases hb op.toNat with e | e | e
  · rw [e]; simp [and_assoc]
  · rw [e]; simp [and_assoc]
  · rw [e]; simp [and_assoc]
theorem itoa_nat (n : Nat) : itoa (n : Int) = decDigits n := by rw [itoa, if_neg (by omega)]; simp
theorem itoa_small {n : Int} (h : 0 ≤ n) : itoa n = decDigits n.toNat := by rw [itoa, if_neg (by omega)]
theorem nums_itoa : ∀ (az : List Int), (∀ n, n ∈ az → 0 ≤ n ∧ n ≤ 1073741824) → nums34 (az.map itoa) = some az
  | [], _ => rfl
  | n :: l, h => by
    have h1 := h n (List.mem_cons_self ..)
    rw [List.map_cons, nums34, itoa_small h1.1, num34_dd (by omega)]
    simp only
    rw [nums_itoa l (fun n hn => h n (List.mem_cons_of_mem _ hn))]
    simp only [Option.map_some, Option.some.injEq, List.cons.injEq, and_true]
    omega
theorem itoa_nums : ∀ (l : List (List UInt8)) (az : List Int), nums34 l = some az → az.map itoa = l ∧ ∀ n, n ∈ az → 0 ≤ n ∧ n ≤ 1073741824
  | [], az, h => by cases h; simp
  | x :: l, az, h => by
    unfold nums34 at h
    cases e : num34 x with
    | none => rw [e] at h; cases h
    | some n =>
      rw [e] at h
      simp only [Option.map_eq_some_iff] at h
      obtain ⟨r, h1, rfl⟩ := h
      obtain ⟨h2, h3⟩ := itoa_nums l r h1
      obtain ⟨h4, h5⟩ := dd_num34 e
      refine ⟨by rw [List.map_cons, h2, itoa_nat, ← h4], fun m hm => ?_⟩
      rcases List.mem_cons.1 hm with e | hm
      · omega
      · exact h3 m hm
theorem dd_no (u : Nat) : ∀ c, c ∈ decDigits u → c ≠ 32 := by
  intro c hc e
  have := dd_all u c hc
  subst e
  cases this
theorem line34_no {op : Nat} {az : List Int} {bs : List UInt8} (h : right34 op az bs = true) : ∀ x, x ∈ line34 op az bs → ∀ c, c ∈ x → c ≠ 32 := by
  obtain ⟨h0, h1, h2, h3, h4, h5⟩ := right34_iff.1 h
  intro x hx
  unfold line34 at hx
  rcases List.mem_append.1 hx with hx | hx
  · rcases List.mem_cons.1 hx with e | hx
    · subst e; exact nm34_no op (by omega)
    · obtain ⟨n, hn, rfl⟩ := List.mem_map.1 hx
      rw [itoa_small (h3 n hn).1]
      exact dd_no _
  · unfold tail34 at hx
    split at hx
    · rw [List.mem_singleton] at hx; subst hx; exact hexB_no
    · split at hx
      · rename_i e2
        rw [List.mem_singleton] at hx; subst hx
        intro c hc e
        have := (h4 (by simpa using e2)).2 c hc
        subst e
        cases this
      · cases hx
theorem tail34_len (op : Nat) (bs : List UInt8) (h : bk34 op = 0 ∨ bk34 op = 1 ∨ bk34 op = 2) : na34 op + (tail34 op bs).length = len34 op := by
  unfold tail34 len34
  rcases h with e | e | e <;> rw [e] <;> simp
theorem bk34_is (k : Nat) : bk34 k = 0 ∨ bk34 k = 1 ∨ bk34 k = 2 := by
  by_cases hk : k < 4
  · have : ∀ k, k < 4 → bk34 k = 0 ∨ bk34 k = 1 ∨ bk34 k = 2 := by decide
    exact this k hk
  · left
    rw [bk34, List.getD_eq_getElem?_getD, List.getElem?_eq_none (by simp; omega)]; rfl
/-- what is told is read again -/
theorem parse_print {op : Nat} {az : List Int} {bs : List UInt8} (h : right34 op az bs = true) : parse34 (print34 op az bs) = some (op, az, bs) := by
  obtain ⟨h0, h1, h2, h3, h4, h5⟩ := right34_iff.1 h
  unfold print34 parse34
  rw [if_pos h, split_join _ (by simp [line34]) (by simpa using line34_no h)]
  simp only [Int.toNat_natCast] at h2 h4 h5 ⊢
  rw [show (line34 op az bs).headD [] = nm34 op from rfl, ix34_nm (by omega), show (line34 op az bs).tail = az.map itoa ++ tail34 op bs from rfl]
  simp only
  have hl := tail34_len op bs (bk34_is op)
  rw [if_neg (by simp only [List.length_append, List.length_map, ne_eq, Decidable.not_not]; omega)]
  unfold args34
  rw [List.take_append_of_le_length (by simp; omega), List.take_of_length_le (by simp; omega), nums_itoa az h3, List.drop_append_of_le_length (by simp; omega), List.drop_of_length_le (by simp; omega), List.nil_append]
  unfold bytes34 tail34
  rcases bk34_is op with e | e | e
  · rw [e]; simp [h5 e]
  · rw [e]; simp [unhexB_hexB]
  · rw [e]
    have := h4 e
    simp only [List.headD_cons, show ¬ (2 = 1) by decide, if_false, if_true]
    rw [if_pos ⟨this.1, List.all_eq_true.2 this.2⟩]
/-- what is read has just this line -/
theorem print_parse {s : List UInt8} {op : Nat} {az : List Int} {bs : List UInt8} (h : parse34 s = some (op, az, bs)) : right34 op az bs = true ∧ print34 op az bs = s := by
  unfold parse34 at h
  cases ei : ix34 ((split32 s).headD []) with
  | none => rw [ei] at h; cases h
  | some k =>
    rw [ei] at h
    simp only at h
    split at h
    · cases h
    rename_i hl
    cases ea : args34 k (split32 s).tail with
    | none => rw [ea] at h; cases h
    | some az' =>
      cases eb : bytes34 k ((split32 s).tail.drop (na34 k)) with
      | none => rw [ea, eb] at h; cases h
      | some bs' =>
        rw [ea, eb] at h
        simp only [Option.some.injEq, Prod.mk.injEq] at h
        obtain ⟨rfl, rfl, rfl⟩ := h
        obtain ⟨k1, k2⟩ := nm34_ix ei
        obtain ⟨a1, a2⟩ := itoa_nums _ _ ea
        have hl : (split32 s).tail.length = len34 k := by simpa using hl
        have hn : na34 k ≤ len34 k := by unfold len34; split <;> omega
        have alen : az'.length = na34 k := by
          have := congrArg List.length a1
          rw [List.length_map, List.length_take] at this; omega
        have hr : right34 k az' bs' = true := by
          refine right34_iff.2 ⟨by omega, by omega, by simpa using alen, a2, fun e => ?_, fun e => ?_⟩
          · simp only [Int.toNat_natCast] at e
            unfold bytes34 at eb
            rw [if_neg (by omega), if_pos e] at eb
            split at eb
            · rename_i hh
              cases eb
              exact ⟨hh.1, List.all_eq_true.1 hh.2⟩
            · cases eb
          · simp only [Int.toNat_natCast] at e
            unfold bytes34 at eb
            rw [if_neg (by omega), if_neg (by omega)] at eb
            cases eb; rfl
        refine ⟨hr, ?_⟩
        unfold print34
        rw [if_pos hr]
        have ht : tail34 k bs' = (split32 s).tail.drop (na34 k) := by
          unfold tail34
          unfold bytes34 at eb
          have hone : bk34 k ≠ 0 → ∃ x, (split32 s).tail.drop (na34 k) = [x] := by
            intro e
            have : ((split32 s).tail.drop (na34 k)).length = 1 := by rw [List.length_drop, hl]; unfold len34; rw [if_neg e]; omega
            exact List.length_eq_one_iff.1 this
          by_cases e1 : bk34 k = 1
          · obtain ⟨x, hx⟩ := hone (by omega)
            rw [if_pos e1] at eb ⊢
            rw [hx] at eb ⊢
            rw [hexB_unhexB eb]; rfl
          · by_cases e2 : bk34 k = 2
            · obtain ⟨x, hx⟩ := hone (by omega)
              rw [if_neg e1, if_pos e2] at eb ⊢
              rw [hx] at eb ⊢
              split at eb
              · cases eb; rfl
              · cases eb
            · rw [if_neg e1, if_neg e2]
              rw [List.drop_of_length_le]
              rw [hl]; unfold len34; rw [if_pos (by have := bk34_is k; omega)]; exact Nat.le_refl _
        have e : line34 k az' bs' = split32 s := by
          unfold line34
          rw [a1, ht, k2, List.cons_append, List.take_append_drop, ← split32_cons]
        rw [Int.toNat_natCast, e, join_split]
end Go.PL

/-
  The functions' text as data, and the facts on the types that they use: written by a program of ours (gen2.py) off the translation.
-/
namespace Go.Proofs.YtkjnbdgkpofobaaDoor
set_option linter.unusedVariables false
set_option linter.unusedSimpArgs false
set_option maxRecDepth 20000
open Go Go.G Go.Proofs
theorem mixed : Tryd.prog.follows .mixedOrders = true := by kernel_rfl
end Go.Proofs.YtkjnbdgkpofobaaDoor

/-
  Chapter 4's functions: what each answers.
-/
namespace Go.Proofs.YtkjnbdgkpofobaaDoor
set_option linter.unusedVariables false
set_option linter.unusedSimpArgs false
open Go Go.G Go.Proofs
abbrev iv (n : Int) : A := .v (.int .i64 n)
abbrev bv (b : Bool) : A := .v (.bool b)
/-- A pointer, as numbers. -/
structure Pt where
  (kind off data ptrs code count seg : Int)
  dbl : Bool
deriving DecidableEq
@[simp] def Pt.a (p : Pt) : A := .agg [iv p.kind, iv p.off, iv p.data, iv p.ptrs, iv p.code, iv p.count, iv p.seg, bv p.dbl]
end Go.Proofs.YtkjnbdgkpofobaaDoor

/-
  Functions of Go's library that commands call, by the shelf's contracts.
-/
namespace Go.Proofs.YtkjnbdgkpofobaaDoor
set_option linter.unusedVariables false
set_option linter.unusedSimpArgs false
open Go Go.G Go.Proofs Go.RowKit Go.PL
theorem vals_of {P : Program} {w : World} {I : Nat → Prop} {vs : Array Value} (l : List Value) (hl : vs.size = (l.map A.v).length) (hr : ∀ (k : Nat) (y : A), (l.map A.v)[k]? = some y → Rel w I mu0 y (vs.getD k undef)) : vs = l.toArray := by
  apply Array.ext
  · simpa using hl
  · intro i h1 h2
    have h3 : i < l.length := by simpa using h2
    have := hr i (A.v l[i]) (by simp [h3])
    generalize hq : vs.getD i undef = x at this
    cases this
    have : vs.getD i undef = vs[i] := by simp [h1]
    rw [this] at hq
    simpa using hq
/-- A function of the library at bare values, by its contract. -/
theorem spec_lib {P : Program} {f : FuncId} {r : A} (hk : okFn P f = true) (l : List Value) (h : ∀ (w : World) (I : Nat → Prop), (∀ b, I b → b < w.heap.size) → Tabs P w I → Calls P f l.toArray w fun e w' => ∃ v, e = .returned v ∧ Below w.heap.size w w' ∧ Rel w' (Fresh w I w') mu0 r v) : G.Spec P f (l.map A.v) r := by
  refine ⟨hk, fun w I vs hI ht hl hr => ?_⟩
  rw [vals_of (P := P) l hl hr]
  exact h w I hI ht
theorem pow_tab {w : World} {I : Nat → Prop} (ht : Tabs Tryd.prog w I) : Lib.TabIs Tryd.prog w "internal/strconv.uint64pow10" .u64 Lib.pow10Tab := tab_is ht (g := 3) (by kernel_rfl) (zs := tab10) (by kernel_rfl) (by decide)
theorem space_tab {w : World} {I : Nat → Prop} (ht : Tabs Tryd.prog w I) : Lib.TabIs Tryd.prog w "strings.asciiSpace" .u8 Lib.asciiSpaceTab := tab_is ht (g := 0) (by kernel_rfl) (zs := tabSp) (by kernel_rfl) (by kernel_rfl)
theorem cells_S : ∀ (xs : List (List UInt8)), (xs.map S).flatMap A.cells = xs.map S
  | [] => rfl
  | a :: l => by rw [List.map_cons, List.flatMap_cons, cells_S l]; rfl
theorem rel_S {w : World} {I : Nat → Prop} {μ : Mu} (l : List UInt8) : Rel w I μ (S l) (.string ⟨l.toArray⟩) := .v _ _
/-- a new row of texts -/
theorem rel_row {w : World} {I : Nat → Prop} {t : TypeId} (xs : List (List UInt8)) : Rel (w.alloc (.cells ((xs.map fun l => Value.string ⟨l.toArray⟩).toArray) t)) (Fresh w I (w.alloc (.cells ((xs.map fun l => Value.string ⟨l.toArray⟩).toArray) t))) mu0 (.sl true (xs.map S)) (.slice (some ⟨w.heap.size, 0, none⟩) xs.length xs.length) := by
  refine Rel.sl _ _ _ _ _ _ 1 _ (fun k => .string ⟨(xs.getD k []).toArray⟩) (Or.inr ⟨Nat.le_refl _, by simp⟩) (by simp) (by simp) (fun _ => by simp) ?_ ?_ ?_ ?_
  · intro x hx
    obtain ⟨l, _, rfl⟩ := List.mem_map.1 hx
    rfl
  · intro k y hy
    have e := cells_S xs
    rw [e, List.getElem?_map] at hy
    obtain ⟨l, _, rfl⟩ := Option.map_eq_some_iff.1 hy
    rfl
  · intro k y hy
    have e := cells_S xs
    rw [e, List.getElem?_map] at hy
    obtain ⟨l, hl, rfl⟩ := Option.map_eq_some_iff.1 hy
    have hh : ∀ o : Obj, (w.alloc o).heap[w.heap.size]? = some o := fun o => by show (w.heap.push o)[w.heap.size]? = _; simp
    unfold World.cell?
    simp only [hh, Nat.zero_add, List.getElem?_toArray, List.getElem?_map, hl, Option.map_some]
    rw [List.getD_eq_getElem?_getD, hl]; rfl
  · intro k y hy
    have e := cells_S xs
    rw [e, List.getElem?_map] at hy
    obtain ⟨l, hl, rfl⟩ := Option.map_eq_some_iff.1 hy
    rw [List.getD_eq_getElem?_getD, hl]
    exact rel_S _
theorem itoa_spec (n : Int) (h0 : -9223372036854775808 ≤ n) (h1 : n ≤ 9223372036854775807) : G.Spec Tryd.prog 22 [iv n] (S (Lib.itoa n)) :=
  spec_lib (by kernel_rfl) [.int .i64 n] fun w I hI ht => (Any.strconv_Itoa Tryd.laysM171 n h0 h1 w (pow_tab ht)).mono fun e w' ⟨h1, k, os, h2⟩ => ⟨_, h1, by rw [h2]; exact Lib.below_grow _ w (Nat.le_refl _) k os, rel_S _⟩
theorem below_bytes (w : World) (e : TypeId) (s : ByteArray) : Below w.heap.size w (Lib.bytesWorld w e s) := Lib.bytesWorld_below _ _ _
/-- strconv.Atoi at whatever text: the number and no error, or some error -/
def atoiA (T : TypeId) (l : List UInt8) : A := match Lib.atoiAll l with
  | .ok v => .tup [iv v, .v .nilIface]
  | _ => .tup [.any, .ifc T .any]
theorem atoi_spec (l : List UInt8) (hl : l.length ≤ 281474976710656) : G.Spec Tryd.prog 48 [S l] (atoiA 107 l) :=
  spec_lib (by kernel_rfl) [.string ⟨l.toArray⟩] fun w I hI ht => by
    have hs : (⟨l.toArray⟩ : ByteArray).size ≤ 281474976710656 := by show l.toArray.size ≤ _; simpa using hl
    have hd : (⟨l.toArray⟩ : ByteArray).data.toList = l := by simp
    unfold atoiA
    rcases h : Lib.atoiAll l with v | _ | _
    · refine (Any.strconv_Atoi_ok Tryd.laysC172 ⟨l.toArray⟩ (by omega) v (by rw [hd]; exact h) w).mono fun e w' ⟨h1, h2⟩ => ⟨_, h1, ?_, .tup _ _ _ (by simp) fun k y hy => ?_⟩
      · rcases h2 with rfl | ⟨t, rfl⟩
        · exact Below.refl _ _
        · exact below_bytes _ _ _
      · match k, hy with
        | 0, hy => cases hy; exact .v _ _
        | 1, hy => cases hy; exact .v _ _
        | k + 2, hy => cases hy
    · obtain ⟨_, te, pe, hv⟩ := ht.err 4 (by kernel_rfl)
      refine (Any.strconv_Atoi_syntax Tryd.laysC172 ⟨l.toArray⟩ hs (by rw [hd]; exact h) _ w hv (Or.inr ⟨te, pe, rfl⟩)).mono fun e w' ⟨N, h1, _, _, h2⟩ => ⟨_, h1, h2, .tup _ _ _ (by simp) fun k y hy => ?_⟩
      match k, hy with
      | 0, hy => cases hy; exact .any _ _
      | 1, hy => cases hy; exact .ifc _ _ _ _ (.any _ _)
      | k + 2, hy => cases hy
    · obtain ⟨_, te, pe, hv⟩ := ht.err 5 (by kernel_rfl)
      refine (Any.strconv_Atoi_range Tryd.laysC172 ⟨l.toArray⟩ hs (by rw [hd]; exact h) _ w hv (Or.inr ⟨te, pe, rfl⟩)).mono fun e w' ⟨N, h1, _, _, h2⟩ => ⟨_, h1, h2, .tup _ _ _ (by simp) fun k y hy => ?_⟩
      match k, hy with
      | 0, hy => cases hy; exact .any _ _
      | 1, hy => cases hy; exact .ifc _ _ _ _ (.any _ _)
      | k + 2, hy => cases hy
/-! ### strings.Split between blanks -/
theorem ib_miss : ∀ (l : List UInt8), Lib.indexByte l 32 = -1 → ∀ c, c ∈ l → c ≠ 32
  | [], _, c, hc => by cases hc
  | b :: l, h, c, hc => by
    unfold Lib.indexByte at h
    split at h
    · cases h
    · rename_i hb
      have hg := Lib.indexByte_ge l 32
      split at h
      · rename_i h2
        rcases List.mem_cons.1 hc with e | hc
        · intro e2; subst e; subst e2; exact hb rfl
        · exact ib_miss l (by simpa using h2) c hc
      · rename_i h2
        simp at h2
        omega
theorem ib_hit : ∀ (l : List UInt8) (i : Nat), Lib.indexByte l 32 = i → l = l.take i ++ 32 :: l.drop (i + 1) ∧ ∀ c, c ∈ l.take i → c ≠ 32
  | [], i, h => by cases h
  | b :: l, i, h => by
    unfold Lib.indexByte at h
    split at h
    · rename_i hb
      have : i = 0 := by omega
      subst this
      have : b = 32 := by simpa using hb
      subst this
      exact ⟨by simp, by simp⟩
    · rename_i hb
      split at h
      · omega
      · rename_i h2
        cases i with
        | zero =>
          have hg := Lib.indexByte_ge l 32
          simp at h2
          omega
        | succ i =>
          obtain ⟨h3, h4⟩ := ib_hit l i (by omega)
          refine ⟨by simp only [List.take_succ_cons, List.drop_succ_cons, List.cons_append]; rw [← h3], fun c hc => ?_⟩
          rw [List.take_succ_cons] at hc
          rcases List.mem_cons.1 hc with e | hc
          · intro e2; subst e; subst e2; exact hb rfl
          · exact h4 c hc
theorem splitK_32 : ∀ (k : Nat) (l : List UInt8), l.count 32 = k → Lib.splitK [32] 0 k l = split32 l
  | 0, l, h => by
    rw [List.count_eq_zero] at h
    rw [split_none l (fun c hc e => h (e ▸ hc))]; rfl
  | k + 1, l, h => by
    unfold Lib.splitK
    have hi := Lib.index_one l 32
    have hg := Lib.indexByte_ge l 32
    rw [hi]
    by_cases h1 : Lib.indexByte l 32 = -1
    · exfalso
      have := ib_miss l h1
      have h2 : l.count 32 = 0 := List.count_eq_zero.2 fun hm => this 32 hm rfl
      omega
    · rw [if_neg (by simpa using h1)]
      obtain ⟨i, hi2⟩ : ∃ i : Nat, Lib.indexByte l 32 = i := ⟨(Lib.indexByte l 32).toNat, by omega⟩
      obtain ⟨h3, h4⟩ := ib_hit l i hi2
      rw [hi2, Int.toNat_natCast]
      have hc : (l.drop (i + 1)).count 32 = k := by
        rw [h3, List.count_append, List.count_cons_self, List.count_eq_zero.2 (fun hm => h4 32 hm rfl)] at h
        omega
      have e : split32 l = l.take i :: split32 (l.drop (i + 1)) := by
        conv => lhs; rw [h3]
        exact split_app _ h4 _
      rw [e]
      show l.take (i + 0) :: Lib.splitK [32] 0 k (l.drop (i + 1)) = _
      rw [splitK_32 k _ hc]; rfl
theorem splitB_32 (l : List UInt8) : Lib.splitB ⟨#[32]⟩ 0 (Lib.countB ⟨l.toArray⟩ ⟨#[32]⟩) ⟨l.toArray⟩ = (split32 l).map fun x => ⟨x.toArray⟩ := by
  have h := Lib.splitB_data ⟨#[32]⟩ 0 (Lib.countB ⟨l.toArray⟩ ⟨#[32]⟩) ⟨l.toArray⟩
  have hc : Lib.countB ⟨l.toArray⟩ ⟨#[32]⟩ = l.count 32 := by
    show Lib.count (⟨l.toArray⟩ : ByteArray).data.toList (⟨#[32]⟩ : ByteArray).data.toList = _
    simp only
    exact Lib.count_one 32 l
  rw [hc] at h ⊢
  have h2 : (⟨l.toArray⟩ : ByteArray).data.toList = l := by simp
  rw [h2, show (⟨#[32]⟩ : ByteArray).data.toList = [32] from rfl, splitK_32 _ l rfl] at h
  rw [← h, List.map_map]
  conv => lhs; rw [← List.map_id (Lib.splitB _ _ _ _)]
  apply List.map_congr_left
  intro x _
  cases x; simp
set_option maxHeartbeats 1000000 in
set_option maxRecDepth 100000 in
theorem split_run (l : List UInt8) (hl : l.length < 4294967281) (w : World) : Calls Tryd.prog 33 #[.string ⟨l.toArray⟩, .string ⟨#[32]⟩] w fun e w' =>
    e = .returned (.slice (some ⟨w.heap.size, 0, none⟩) (split32 l).length (split32 l).length) ∧ w' = w.alloc (.cells (((split32 l).map fun l => Value.string ⟨l.toArray⟩).toArray) 9) := by
  have hs : (⟨l.toArray⟩ : ByteArray).size < 4294967281 := by show l.toArray.size < _; simpa using hl
  have hle := Lib.countB_le ⟨#[32]⟩ (by decide) (⟨l.toArray⟩ : ByteArray).size ⟨l.toArray⟩ (Nat.le_refl _)
  have hlen := Lib.splitB_all ⟨#[32]⟩ (by decide) 0 _ ⟨l.toArray⟩ rfl
  have c := Any.strings_genSplit_core Tryd.lays221 (by kernel_rfl) ⟨l.toArray⟩ ⟨#[32]⟩ 0 (-1) (Lib.countB ⟨l.toArray⟩ ⟨#[32]⟩ + 1) w hs (by decide) (Nat.zero_le _)
    (fun x c hx => (Any.strings_Index_one Tryd.lays143 x 32 _).mono fun e w' ⟨h1, h2⟩ => ⟨by rw [h1]; exact congrArg _ (congrArg _ (Lib.index_one _ _).symm), h2⟩)
    ((Any.strings_Count_one Tryd.lays138 ⟨l.toArray⟩ 32 w).mono fun e w' ⟨h1, h2⟩ => ⟨by rw [h1]; exact congrArg _ (congrArg _ (by show ((Lib.countByte _ _ : Nat) : Int) = ((Lib.count _ _ : Nat) : Int); rw [show (⟨#[32]⟩ : ByteArray).data.toList = [32] from rfl, Lib.count_one]; rfl)), h2⟩)
    (by decide) (by decide) (by rw [if_pos (by decide)]; omega)
  rw [Nat.add_sub_cancel, hlen] at c
  have e2 : Lib.cellsOf (Lib.splitB ⟨#[32]⟩ 0 (Lib.countB ⟨l.toArray⟩ ⟨#[32]⟩) ⟨l.toArray⟩) (Lib.countB ⟨l.toArray⟩ ⟨#[32]⟩ + 1) = ((Lib.splitB ⟨#[32]⟩ 0 (Lib.countB ⟨l.toArray⟩ ⟨#[32]⟩) ⟨l.toArray⟩).map Value.string).toArray := by rw [← hlen]; exact Lib.cellsOf_full _
  rw [e2, ← hlen, splitB_32, List.map_map, List.length_map] at c
  have c : Calls Tryd.prog 47 #[.string ⟨l.toArray⟩, .string ⟨#[32]⟩, .int .i64 0, .int .i64 (-1)] w fun e w' =>
    e = .returned (.slice (some ⟨w.heap.size, 0, none⟩) (split32 l).length (split32 l).length) ∧ w' = w.alloc (.cells (((split32 l).map fun l => Value.string ⟨l.toArray⟩).toArray) 9) := c
  go_enter Tryd.func33, Tryd.ntmps33
  go_wp2_with (go_at_call 47; refine c.mono ?_; rintro e w' ⟨rfl, hw⟩; rw [hw])
  go_ret
  exact ⟨rfl, rfl⟩
theorem split_spec (l : List UInt8) (hl : l.length < 4294967281) : G.Spec Tryd.prog 33 [S l, S [32]] (.sl true ((split32 l).map S)) :=
  spec_lib (by kernel_rfl) [.string ⟨l.toArray⟩, .string ⟨#[32]⟩] fun w I hI ht => (split_run l hl w).mono fun e w' ⟨h1, h2⟩ => ⟨_, h1, by rw [h2]; exact (Below.refl _ w).alloc (Nat.le_refl _) _, by rw [h2]; exact rel_row _⟩
/-! ### strings.Fields of a text; strings.Join -/
theorem fields_spec (l : List UInt8) (hl : l.length < 4294967281) (ha : ∀ b, b ∈ l → b.toNat < 128) : G.Spec Tryd.prog 41 [S l] (.sl true ((Lib.fields l).map S)) :=
  spec_lib (by kernel_rfl) [.string ⟨l.toArray⟩] fun w I hI ht => by
    have hs : (⟨l.toArray⟩ : ByteArray).size < 4294967281 := by show l.toArray.size < _; simpa using hl
    have hd : (⟨l.toArray⟩ : ByteArray).data.toList = l := by simp
    have c := Any.strings_Fields Tryd.lays157 (by kernel_rfl) (by kernel_rfl) ⟨l.toArray⟩ w hs (fun j b hb => ha b (List.mem_of_getElem? (by rw [hd] at hb; exact hb))) (space_tab ht)
    rw [hd] at c
    exact c.mono fun e w' ⟨h1, h2⟩ => ⟨_, h1, by rw [h2]; exact (Below.refl _ w).alloc (Nat.le_refl _) _, by rw [h2]; exact rel_row _⟩
theorem join_spec (f : Bool) (xs : List (List UInt8)) (sep : List UInt8) (hN : xs.length ≤ 140737488355328) (hlen : (Lib.join xs sep).length ≤ 140737488355328) : G.Spec Tryd.prog 25 [.sl f (xs.map S), S sep] (S (Lib.join xs sep)) := by
  refine ⟨by kernel_rfl, fun w I vs hI ht hl hr => ?_⟩
  have h0 := hr 0 _ rfl
  have h1 := hr 1 _ rfl
  obtain ⟨v0, hv0⟩ : ∃ v, vs.getD 0 undef = v := ⟨_, rfl⟩
  obtain ⟨v1, hv1⟩ : ∃ v, vs.getD 1 undef = v := ⟨_, rfl⟩
  have ev : vs = #[v0, v1] := by
    apply Array.ext
    · simpa using hl
    · intro i h2 h3
      have hi : vs[i] = vs.getD i undef := by simp [h2]
      rw [hi]
      have : i = 0 ∨ i = 1 := by simp at h3; omega
      rcases this with rfl | rfl
      · simp [hv0]
      · simp [hv1]
  rw [hv0] at h0; rw [hv1] at h1
  subst ev
  cases h1
  have hj : ∀ (bs : List ByteArray), bs.map (·.data.toList) = xs → (Lib.join (bs.map (·.data.toList)) (⟨sep.toArray⟩ : ByteArray).data.toList) = Lib.join xs sep := fun bs h => by rw [h]
  generalize hxs : xs.map S = q at h0
  cases h0 with
  | slN μ f a cap hc =>
    have : xs = [] := by simpa using hxs
    subst this
    exact (Any.strings_Join_none Tryd.lays156 Tryd.Builder_Extra_156 a cap ⟨sep.toArray⟩ w).mono fun e w' ⟨h1, h2⟩ => ⟨_, h1, by rw [h2]; exact Below.refl _ _, by exact .v _ _⟩
  | sl μ f b off n cap sz q g hb hn hcap hf hsz h1 h2 h3 =>
    subst hxs
    have e := cells_S xs
    rw [e] at h2 h3
    have hbs : (xs.map fun l => (⟨l.toArray⟩ : ByteArray)).map (·.data.toList) = xs := by
      rw [List.map_map]
      conv => rhs; rw [← List.map_id xs]
      apply List.map_congr_left
      intro x _; simp
    have c := Any.strings_Join Tryd.lays156 Tryd.Builder_Extra_156 b off cap (xs.map fun l => (⟨l.toArray⟩ : ByteArray)) ⟨sep.toArray⟩ w (fun j x hx => by
        rw [List.getElem?_map] at hx
        obtain ⟨l, hl, rfl⟩ := Option.map_eq_some_iff.1 hx
        have hy : (xs.map S)[j]? = some (S l) := by simp [hl]
        rw [h2 j _ hy]
        have := h3 j _ hy
        generalize g j = q at this
        cases this; rfl) (hI b hb) (by simpa using hN) (by simpa using hcap) (by rw [hj _ hbs]; exact hlen)
    rw [hj _ hbs] at c
    have en : n = (xs.map fun l => (⟨l.toArray⟩ : ByteArray)).length := by simpa using hn
    subst en
    exact c.mono fun e w' ⟨h1, h2⟩ => ⟨_, h1, h2, .v _ _⟩
end Go.Proofs.YtkjnbdgkpofobaaDoor

/-
  The functions' text as data, and the facts on the types that they use: written by a program of ours (gen2.py) off the translation.
-/
namespace Go.Proofs.YtkjnbdgkpofobaaDoor
set_option linter.unusedVariables false
set_option linter.unusedSimpArgs false
set_option maxRecDepth 20000
open Go Go.G Go.Proofs
@[simp] theorem und_3 : Tryd.prog.underlying 3 = some (.int .i64) := by kernel_rfl
@[simp] theorem und_22 : Tryd.prog.underlying 22 = some (.slice 3) := by kernel_rfl
@[simp] theorem szT_3 : szT Tryd.prog 3 = some 1 := by kernel_rfl
@[simp] theorem aggT_3 : aggT Tryd.prog 3 = some false := by kernel_rfl
@[simp] theorem zeroT_3 : zeroT Tryd.prog 3 = some (Value.int IntKind.i64 0) := by kernel_rfl
@[simp] theorem bytesT_3 : bytesT Tryd.prog 3 = some 8 := by kernel_rfl
def l1_centoref16_SameInts : CC :=
  .seq (.seq (.reg [co (some 11) (.move (.tmp 5)) none,
        co (some 12) (.move (.tmp 0)) none,
        co (some 13) (.call { callee := (.builtin .len), args := #[(.tmp 12)], argTypes := #[22] }) none,
        co (some 14) (.binOp .lss 3 (.tmp 11) (.tmp 13) 3) none] [0, 1, 5, 14])
    (.cond (.tmp 14)
      (.skip)
      (.exit 0)))
  (.keep [0, 1, 5] (.seq (.block 1
      (.seq (.reg [co (some 17) (.move (.tmp 0)) none,
          co (some 18) (.move (.tmp 5)) none,
          co (some 19) (.indexAddr 22 (.tmp 17) (.tmp 18)) none,
          co (some 20) (.load 3 (.tmp 19)) none,
          co (some 21) (.move (.tmp 1)) none,
          co (some 22) (.move (.tmp 5)) none,
          co (some 23) (.indexAddr 22 (.tmp 21) (.tmp 22)) none,
          co (some 24) (.load 3 (.tmp 23)) none,
          co (some 25) (.binOp .neq 3 (.tmp 20) (.tmp 24) 3) none] [0, 1, 5, 25])
      (.cond (.tmp 25)
        (.seq (.reg [co (some 4) (.assign (.const (.bool false))) none] [4])
        (.ret))
        (.skip))))
  (.keep [0, 1, 5] (.reg [co (some 15) (.move (.tmp 5)) none,
    co (some 16) (.binOp .add 3 (.tmp 15) (.const (.int .i64 1)) 3) none,
    co (some 5) (.assign (.tmp 16)) none] [0, 1, 5]))))
/-- cento/centoref16.SameInts -/
def c_centoref16_SameInts : CC :=
  .seq (.reg [co (some 4) (.assign (.const (.bool false))) none] [0, 1])
  (.seq (.seq (.reg [co (some 6) (.move (.tmp 0)) none,
        co (some 7) (.call { callee := (.builtin .len), args := #[(.tmp 6)], argTypes := #[22] }) none,
        co (some 8) (.move (.tmp 1)) none,
        co (some 9) (.call { callee := (.builtin .len), args := #[(.tmp 8)], argTypes := #[22] }) none,
        co (some 10) (.binOp .neq 3 (.tmp 7) (.tmp 9) 3) none] [0, 1, 10])
    (.cond (.tmp 10)
      (.seq (.reg [co (some 4) (.assign (.const (.bool false))) none] [4])
      (.ret))
      (.skip)))
  (.keep [0, 1] (.seq (.seq (.reg [co (some 5) (.assign (.const (.int .i64 0))) none] [0, 1, 5])
    (.block 0
      (.loop l1_centoref16_SameInts)))
  (.keep [] (.seq (.reg [co (some 4) (.assign (.const (.bool true))) none] [4])
  (.ret))))))
theorem t_centoref16_SameInts : Txt Tryd.prog 20 26 [(.tmp 4)] c_centoref16_SameInts := txt_of (code := Tryd.f20.body.getD .ret) mixed (by kernel_rfl) Tryd.func20 (by kernel_rfl) Tryd.ntmps20 (by kernel_rfl) (ls := [([0, 1], []), ([], []), ([0, 1, 10], []), ([], []), ([4], []), ([], []), ([999999, 0, 1], []), ([0, 1, 5], []), ([], []), ([0, 1, 5, 14], []), ([], []), ([999999, 0, 1, 5], []), ([0, 1, 5, 25], []), ([], []), ([4], []), ([], []), ([999999, 0, 1, 5], []), ([0, 1, 5], []), ([999999], []), ([4], []), ([], [])]) (by kernel_rfl)
end Go.Proofs.YtkjnbdgkpofobaaDoor

/-
  The functions' text as data, and the facts on the types that they use: written by a program of ours (gen2.py) off the translation.
-/
namespace Go.Proofs.YtkjnbdgkpofobaaDoor
set_option linter.unusedVariables false
set_option linter.unusedSimpArgs false
set_option maxRecDepth 20000
open Go Go.G Go.Proofs
@[simp] theorem und_9 : Tryd.prog.underlying 9 = some .string := by kernel_rfl
@[simp] theorem und_23 : Tryd.prog.underlying 23 = some (.slice 5) := by kernel_rfl
@[simp] theorem und_68 : Tryd.prog.underlying 68 = some (.int .u64) := by kernel_rfl
@[simp] theorem und_96 : Tryd.prog.underlying 96 = some (.int .u64) := by kernel_rfl
@[simp] theorem und_123 : Tryd.prog.underlying 123 = some (.array 65 5) := by kernel_rfl
@[simp] theorem szT_5 : szT Tryd.prog 5 = some 1 := by kernel_rfl
@[simp] theorem szT_23 : szT Tryd.prog 23 = some 1 := by kernel_rfl
@[simp] theorem aggT_5 : aggT Tryd.prog 5 = some false := by kernel_rfl
@[simp] theorem aggT_23 : aggT Tryd.prog 23 = some false := by kernel_rfl
@[simp] theorem zeroT_5 : zeroT Tryd.prog 5 = some (Value.int IntKind.u8 0) := by kernel_rfl
@[simp] theorem zeroT_123 : zeroT Tryd.prog 123 = some (Value.agg #[Value.int IntKind.u8 0, Value.int IntKind.u8 0, Value.int IntKind.u8 0, Value.int IntKind.u8 0, Value.int IntKind.u8 0, Value.int IntKind.u8 0, Value.int IntKind.u8 0, Value.int IntKind.u8 0, Value.int IntKind.u8 0, Value.int IntKind.u8 0, Value.int IntKind.u8 0, Value.int IntKind.u8 0, Value.int IntKind.u8 0, Value.int IntKind.u8 0, Value.int IntKind.u8 0, Value.int IntKind.u8 0, Value.int IntKind.u8 0, Value.int IntKind.u8 0, Value.int IntKind.u8 0, Value.int IntKind.u8 0, Value.int IntKind.u8 0, Value.int IntKind.u8 0, Value.int IntKind.u8 0, Value.int IntKind.u8 0, Value.int IntKind.u8 0, Value.int IntKind.u8 0, Value.int IntKind.u8 0, Value.int IntKind.u8 0, Value.int IntKind.u8 0, Value.int IntKind.u8 0, Value.int IntKind.u8 0, Value.int IntKind.u8 0, Value.int IntKind.u8 0, Value.int IntKind.u8 0, Value.int IntKind.u8 0, Value.int IntKind.u8 0, Value.int IntKind.u8 0, Value.int IntKind.u8 0, Value.int IntKind.u8 0, Value.int IntKind.u8 0, Value.int IntKind.u8 0, Value.int IntKind.u8 0, Value.int IntKind.u8 0, Value.int IntKind.u8 0, Value.int IntKind.u8 0, Value.int IntKind.u8 0, Value.int IntKind.u8 0, Value.int IntKind.u8 0, Value.int IntKind.u8 0, Value.int IntKind.u8 0, Value.int IntKind.u8 0, Value.int IntKind.u8 0, Value.int IntKind.u8 0, Value.int IntKind.u8 0, Value.int IntKind.u8 0, Value.int IntKind.u8 0, Value.int IntKind.u8 0, Value.int IntKind.u8 0, Value.int IntKind.u8 0, Value.int IntKind.u8 0, Value.int IntKind.u8 0, Value.int IntKind.u8 0, Value.int IntKind.u8 0, Value.int IntKind.u8 0, Value.int IntKind.u8 0]) := by kernel_rfl
@[simp] theorem bytesT_5 : bytesT Tryd.prog 5 = some 1 := by kernel_rfl
@[simp] theorem fieldOffT_64_1 : fieldOffT Tryd.prog 64 1 = some 1 := by kernel_rfl
/-- (*strings.Builder).WriteByte -/
def c_strings_Builder_WriteByte : CC :=
  .seq (.reg [co (some 4) (.assign (.const .nilIface)) none] [0, 1])
  (.seq (.reg [co (some 5) (.move (.tmp 0)) none,
      co (some 6) (.call { callee := (.value (.func 49)), args := #[(.tmp 5)], argTypes := #[62] }) none] [0, 1])
  (.seq (.reg [co (some 7) (.move (.tmp 0)) none,
      co (some 8) (.move (.tmp 0)) none,
      co (some 9) (.nilCheck (.tmp 8)) none,
      co (some 10) (.fieldAddr 64 (.tmp 9) 1) none,
      co (some 11) (.load 23 (.tmp 10)) none,
      co (some 12) (.move (.tmp 1)) none,
      co (some 13) (.buildSlice 23 1 #[(0, (.tmp 12))]) none,
      cn (some 14) (.call { callee := (.builtin .append), args := #[(.tmp 11), (.tmp 13)], argTypes := #[23, 23] }) none [1],
      co (some 15) (.nilCheck (.tmp 7)) none,
      co (some 16) (.fieldAddr 64 (.tmp 15) 1) none,
      co none (.store 23 (.tmp 16) (.tmp 14)) none] [])
  (.seq (.reg [co (some 4) (.assign (.const .nilIface)) none] [4])
  (.ret))))
theorem t_strings_Builder_WriteByte : Txt Tryd.prog 37 17 [(.tmp 4)] c_strings_Builder_WriteByte := txt_of (code := Tryd.f37.body.getD .ret) mixed (by kernel_rfl) Tryd.func37 (by kernel_rfl) Tryd.ntmps37 (by kernel_rfl) (ls := [([0, 1], []), ([], []), ([0, 1], []), ([], []), ([], [(7, [1])]), ([], []), ([4], []), ([], [])]) (by kernel_rfl)
end Go.Proofs.YtkjnbdgkpofobaaDoor

/-
  The functions' text as data, and the facts on the types that they use: written by a program of ours (gen2.py) off the translation.
-/
namespace Go.Proofs.YtkjnbdgkpofobaaDoor
set_option linter.unusedVariables false
set_option linter.unusedSimpArgs false
set_option maxRecDepth 20000
open Go Go.G Go.Proofs
@[simp] theorem und_5 : Tryd.prog.underlying 5 = some (.int .u8) := by kernel_rfl
end Go.Proofs.YtkjnbdgkpofobaaDoor

/-
  The functions' text as data, and the facts on the types that they use: written by a program of ours (gen2.py) off the translation.
-/
namespace Go.Proofs.YtkjnbdgkpofobaaDoor
set_option linter.unusedVariables false
set_option linter.unusedSimpArgs false
set_option maxRecDepth 20000
open Go Go.G Go.Proofs
@[simp] theorem und_4 : Tryd.prog.underlying 4 = some .bool := by kernel_rfl
@[simp] theorem und_32 : Tryd.prog.underlying 32 = some (.int .i64) := by kernel_rfl
@[simp] theorem und_45 : Tryd.prog.underlying 45 = some (.slice 9) := by kernel_rfl
@[simp] theorem und_75 : Tryd.prog.underlying 75 = some (.array 15 3) := by kernel_rfl
@[simp] theorem szT_9 : szT Tryd.prog 9 = some 1 := by kernel_rfl
@[simp] theorem szT_22 : szT Tryd.prog 22 = some 1 := by kernel_rfl
@[simp] theorem szT_25 : szT Tryd.prog 25 = some 3 := by kernel_rfl
@[simp] theorem szT_28 : szT Tryd.prog 28 = some 3 := by kernel_rfl
@[simp] theorem szT_75 : szT Tryd.prog 75 = some 15 := by kernel_rfl
@[simp] theorem aggT_9 : aggT Tryd.prog 9 = some false := by kernel_rfl
@[simp] theorem aggT_22 : aggT Tryd.prog 22 = some false := by kernel_rfl
@[simp] theorem aggT_25 : aggT Tryd.prog 25 = some true := by kernel_rfl
@[simp] theorem aggT_28 : aggT Tryd.prog 28 = some true := by kernel_rfl
@[simp] theorem zeroT_9 : zeroT Tryd.prog 9 = some (Value.string ByteArray.empty) := by kernel_rfl
@[simp] theorem zeroT_25 : zeroT Tryd.prog 25 = some (Value.agg #[Value.int IntKind.i64 0, Value.slice none 0 0, Value.slice none 0 0]) := by kernel_rfl
@[simp] theorem zeroT_28 : zeroT Tryd.prog 28 = some (Value.agg #[Value.int IntKind.i64 0, Value.slice none 0 0, Value.slice none 0 0]) := by kernel_rfl
@[simp] theorem zeroT_64 : zeroT Tryd.prog 64 = some (Value.agg #[Value.pointer none, Value.slice none 0 0]) := by kernel_rfl
@[simp] theorem zeroT_75 : zeroT Tryd.prog 75 = some (Value.agg #[Value.int IntKind.i64 0, Value.int IntKind.i64 0, Value.int IntKind.i64 0, Value.int IntKind.i64 0, Value.int IntKind.i64 0, Value.int IntKind.i64 0, Value.int IntKind.i64 0, Value.int IntKind.i64 0, Value.int IntKind.i64 0, Value.int IntKind.i64 0, Value.int IntKind.i64 0, Value.int IntKind.i64 0, Value.int IntKind.i64 0, Value.int IntKind.i64 0, Value.int IntKind.i64 0]) := by kernel_rfl
@[simp] theorem mapT_57 : mapT Tryd.prog 57 = some 3 := by kernel_rfl
@[simp] theorem bytesT_9 : bytesT Tryd.prog 9 = some 16 := by kernel_rfl
@[simp] theorem fieldOffT_25_0 : fieldOffT Tryd.prog 25 0 = some 0 := by kernel_rfl
@[simp] theorem fieldOffT_25_1 : fieldOffT Tryd.prog 25 1 = some 1 := by kernel_rfl
@[simp] theorem fieldOffT_25_2 : fieldOffT Tryd.prog 25 2 = some 2 := by kernel_rfl
@[simp] theorem fieldOffT_28_0 : fieldOffT Tryd.prog 28 0 = some 0 := by kernel_rfl
@[simp] theorem fieldOffT_28_1 : fieldOffT Tryd.prog 28 1 = some 1 := by kernel_rfl
@[simp] theorem fieldOffT_28_2 : fieldOffT Tryd.prog 28 2 = some 2 := by kernel_rfl
@[simp] theorem buildA_25 (ps : List (Nat × A)) : buildA Tryd.prog 25 ps = (fillA (fun i => ([(0, 1), (1, 1), (2, 1)] : List (Nat × Nat))[i]?) [A.v (Value.int IntKind.i64 0), A.sl true [], A.sl true []] ps).map A.agg := by kernel_rfl
@[simp] theorem buildA_28 (ps : List (Nat × A)) : buildA Tryd.prog 28 ps = (fillA (fun i => ([(0, 1), (1, 1), (2, 1)] : List (Nat × Nat))[i]?) [A.v (Value.int IntKind.i64 0), A.sl true [], A.sl true []] ps).map A.agg := by kernel_rfl
@[simp] theorem buildA_75 (ps : List (Nat × A)) : buildA Tryd.prog 75 ps = (fillA (fun i => some (i * 1, 1)) [A.v (Value.int IntKind.i64 0), A.v (Value.int IntKind.i64 0), A.v (Value.int IntKind.i64 0), A.v (Value.int IntKind.i64 0), A.v (Value.int IntKind.i64 0), A.v (Value.int IntKind.i64 0), A.v (Value.int IntKind.i64 0), A.v (Value.int IntKind.i64 0), A.v (Value.int IntKind.i64 0), A.v (Value.int IntKind.i64 0), A.v (Value.int IntKind.i64 0), A.v (Value.int IntKind.i64 0), A.v (Value.int IntKind.i64 0), A.v (Value.int IntKind.i64 0), A.v (Value.int IntKind.i64 0)] ps).map A.agg := by kernel_rfl
/-- cento/command.names -/
def c_command_names : CC :=
  .seq (.reg [co (some 0) (.assign (.const (.slice none 0 0))) none] [])
  (.seq (.reg [co (some 1) (.call { callee := (.value (.func 41)), args := #[(.const (.string { data := #[108, 105, 109, 105, 116, 115, 32, 108, 111, 97, 100, 32, 117, 110, 112, 97, 99, 107, 32, 116, 101, 120, 116, 32, 100, 105, 102, 102, 32, 97, 112, 112, 108, 121, 32, 105, 110, 118, 101, 114, 116, 32, 110, 111, 114, 109, 97, 108, 32, 99, 111, 109, 112, 111, 115, 101, 32, 114, 101, 98, 97, 115, 101, 32, 109, 101, 114, 103, 101, 32, 100, 114, 111, 112, 32, 100, 117, 109, 112, 32, 112, 97, 99, 107, 32, 115, 104, 111, 119] }))], argTypes := #[9] }) none,
      co (some 0) (.assign (.tmp 1)) none] [0])
  (.ret))
theorem t_command_names : Txt Tryd.prog 21 2 [(.tmp 0)] c_command_names := txt_of (code := Tryd.f21.body.getD .ret) mixed (by kernel_rfl) Tryd.func21 (by kernel_rfl) Tryd.ntmps21 (by kernel_rfl) (ls := [([], []), ([], []), ([0], []), ([], [])]) (by kernel_rfl)
/-- cento/command.numbers -/
def c_command_numbers : CC :=
  .seq (.reg [co (some 2) (.assign (.const (.int .i64 0))) none] [0])
  (.seq (.reg [co (some 4) (.build 75 #[(0, (.const (.int .i64 4))), (1, (.const (.int .i64 1))), (2, (.const (.int .i64 1))), (3, (.const (.int .i64 1))), (4, (.const (.int .i64 3))), (5, (.const (.int .i64 3))), (6, (.const (.int .i64 2))), (7, (.const (.int .i64 2))), (8, (.const (.int .i64 3))), (9, (.const (.int .i64 4))), (10, (.const (.int .i64 5))), (11, (.const (.int .i64 1))), (12, (.const (.int .i64 1))), (13, (.const (.int .i64 1))), (14, (.const (.int .i64 1)))]) none,
      cn (some 3) (.alloc 75) none [0],
      co none (.store 75 (.tmp 3) (.tmp 4)) none] [0, 3])
  (.seq (.reg [co (some 5) (.move (.tmp 0)) none,
      co (some 6) (.indexAddr 75 (.tmp 3) (.tmp 5)) none,
      co (some 7) (.load 3 (.tmp 6)) none,
      co (some 2) (.assign (.tmp 7)) none] [2])
  (.ret)))
theorem t_command_numbers : Txt Tryd.prog 28 8 [(.tmp 2)] c_command_numbers := txt_of (code := Tryd.f28.body.getD .ret) mixed (by kernel_rfl) Tryd.func28 (by kernel_rfl) Tryd.ntmps28 (by kernel_rfl) (ls := [([0], []), ([], []), ([0, 3], [(1, [0])]), ([], []), ([2], []), ([], [])]) (by kernel_rfl)
/-- cento/command.loads -/
def c_command_loads : CC :=
  .seq (.reg [co (some 2) (.assign (.const (.bool false))) none] [0])
  (.seq (.reg [co (some 3) (.move (.tmp 0)) none,
      co (some 4) (.binOp .eql 3 (.tmp 3) (.const (.int .i64 1)) 3) none,
      co (some 5) (.move (.tmp 4)) none,
      co (some 6) (.move (.tmp 0)) (some (5, false)),
      co (some 7) (.binOp .eql 3 (.tmp 6) (.const (.int .i64 2)) 3) (some (5, false)),
      co (some 8) (.pick (.tmp 5) (.const (.bool true)) (.tmp 7)) none,
      co (some 2) (.assign (.tmp 8)) none] [2])
  (.ret))
theorem t_command_loads : Txt Tryd.prog 23 9 [(.tmp 2)] c_command_loads := txt_of (code := Tryd.f23.body.getD .ret) mixed (by kernel_rfl) Tryd.func23 (by kernel_rfl) Tryd.ntmps23 (by kernel_rfl) (ls := [([0], []), ([], []), ([2], []), ([], [])]) (by kernel_rfl)
/-- cento/command.says -/
def c_command_says : CC :=
  .seq (.reg [co (some 2) (.assign (.const (.bool false))) none] [0])
  (.seq (.reg [co (some 3) (.move (.tmp 0)) none,
      co (some 4) (.binOp .eql 3 (.tmp 3) (.const (.int .i64 3)) 3) none,
      co (some 2) (.assign (.tmp 4)) none] [2])
  (.ret))
theorem t_command_says : Txt Tryd.prog 24 5 [(.tmp 2)] c_command_says := txt_of (code := Tryd.f24.body.getD .ret) mixed (by kernel_rfl) Tryd.func24 (by kernel_rfl) Tryd.ntmps24 (by kernel_rfl) (ls := [([0], []), ([], []), ([2], []), ([], [])]) (by kernel_rfl)
/-- (cento/command.Command).Right$1 -/
def c_Right_1 : CC :=
  .seq (.reg [co (some 2) (.assign (.const (.bool false))) none] [0])
  (.seq (.reg [co (some 3) (.move (.tmp 0)) none,
      co (some 4) (.binOp .lss 3 (.tmp 3) (.const (.int .i64 0)) 3) none,
      co (some 5) (.move (.tmp 4)) none,
      co (some 6) (.move (.tmp 0)) (some (5, false)),
      co (some 7) (.binOp .gtr 3 (.tmp 6) (.const (.int .i64 1073741824)) 3) (some (5, false)),
      co (some 8) (.pick (.tmp 5) (.const (.bool true)) (.tmp 7)) none,
      co (some 2) (.assign (.tmp 8)) none] [2])
  (.ret))
theorem t_Right_1 : Txt Tryd.prog 30 9 [(.tmp 2)] c_Right_1 := txt_of (code := Tryd.f30.body.getD .ret) mixed (by kernel_rfl) Tryd.func30 (by kernel_rfl) Tryd.ntmps30 (by kernel_rfl) (ls := [([0], []), ([], []), ([2], []), ([], [])]) (by kernel_rfl)
/-- (cento/command.Command).Right$2 -/
def c_Right_2 : CC :=
  .seq (.reg [co (some 2) (.assign (.const (.bool false))) none] [0])
  (.seq (.reg [co (some 3) (.move (.tmp 0)) none,
      co (some 4) (.binOp .leq 5 (.tmp 3) (.const (.int .u8 32)) 5) none,
      co (some 5) (.move (.tmp 4)) none,
      co (some 6) (.move (.tmp 0)) (some (5, false)),
      co (some 7) (.binOp .gtr 5 (.tmp 6) (.const (.int .u8 126)) 5) (some (5, false)),
      co (some 8) (.pick (.tmp 5) (.const (.bool true)) (.tmp 7)) none,
      co (some 2) (.assign (.tmp 8)) none] [2])
  (.ret))
theorem t_Right_2 : Txt Tryd.prog 32 9 [(.tmp 2)] c_Right_2 := txt_of (code := Tryd.f32.body.getD .ret) mixed (by kernel_rfl) Tryd.func32 (by kernel_rfl) Tryd.ntmps32 (by kernel_rfl) (ls := [([0], []), ([], []), ([2], []), ([], [])]) (by kernel_rfl)
def l1_IndexFunc_int : CC :=
  .seq (.reg [co (some 9) (.binOp .lss 3 (.tmp 8) (.tmp 7) 3) none] [0, 1, 7, 8, 9])
  (.seq (.cond (.tmp 9)
      (.skip)
      (.exit 0))
  (.keep [0, 1, 7, 8] (.seq (.block 1
      (.seq (.reg [co (some 10) (.move (.tmp 8)) none,
          co (some 5) (.assign (.tmp 10)) none] [0, 1, 5, 7, 8])
      (.seq (.reg [co (some 11) (.move (.tmp 1)) none,
          co (some 12) (.move (.tmp 0)) none,
          co (some 13) (.move (.tmp 5)) none,
          co (some 14) (.indexAddr 22 (.tmp 12) (.tmp 13)) none,
          co (some 15) (.load 3 (.tmp 14)) none,
          co (some 16) (.call { callee := (.value (.tmp 11)), args := #[(.tmp 15)], argTypes := #[3] }) none] [0, 1, 5, 7, 8, 16])
      (.cond (.tmp 16)
        (.seq (.reg [co (some 17) (.move (.tmp 5)) none,
            co (some 4) (.assign (.tmp 17)) none] [4])
        (.ret))
        (.skip)))))
  (.keep [0, 1, 7, 8] (.reg [co (some 18) (.binOp .add 3 (.tmp 8) (.const (.int .i64 1)) 3) none,
    co (some 8) (.move (.tmp 18)) none] [0, 1, 7, 8])))))
/-- slices.IndexFunc[[]int,int] -/
def c_IndexFunc_int : CC :=
  .seq (.reg [co (some 4) (.assign (.const (.int .i64 0))) none] [0, 1])
  (.seq (.seq (.reg [co (some 6) (.move (.tmp 0)) none,
        co (some 7) (.call { callee := (.builtin .len), args := #[(.tmp 6)], argTypes := #[22] }) none,
        co (some 8) (.move (.const (.int .i64 0))) none] [0, 1, 7, 8])
    (.block 0
      (.loop l1_IndexFunc_int)))
  (.keep [] (.seq (.reg [co (some 4) (.assign (.const (.int .i64 (-1)))) none] [4])
  (.ret))))
theorem t_IndexFunc_int : Txt Tryd.prog 45 19 [(.tmp 4)] c_IndexFunc_int := txt_of (code := Tryd.f45.body.getD .ret) mixed (by kernel_rfl) Tryd.func45 (by kernel_rfl) Tryd.ntmps45 (by kernel_rfl) (ls := [([0, 1], []), ([], []), ([0, 1, 7, 8], []), ([], []), ([0, 1, 7, 8, 9], []), ([], []), ([999999, 0, 1, 7, 8], []), ([0, 1, 5, 7, 8], []), ([], []), ([0, 1, 5, 7, 8, 16], []), ([], []), ([4], []), ([], []), ([999999, 0, 1, 7, 8], []), ([0, 1, 7, 8], []), ([999999], []), ([4], []), ([], [])]) (by kernel_rfl)
/-- slices.ContainsFunc[[]int,int] -/
def c_ContainsFunc_int : CC :=
  .seq (.reg [co (some 4) (.assign (.const (.bool false))) none] [0, 1])
  (.seq (.reg [co (some 5) (.move (.tmp 0)) none,
      co (some 6) (.move (.tmp 1)) none,
      co (some 7) (.call { callee := (.value (.func 45)), args := #[(.tmp 5), (.tmp 6)], argTypes := #[22, 48] }) none,
      co (some 8) (.binOp .geq 3 (.tmp 7) (.const (.int .i64 0)) 3) none,
      co (some 4) (.assign (.tmp 8)) none] [4])
  (.ret))
theorem t_ContainsFunc_int : Txt Tryd.prog 29 9 [(.tmp 4)] c_ContainsFunc_int := txt_of (code := Tryd.f29.body.getD .ret) mixed (by kernel_rfl) Tryd.func29 (by kernel_rfl) Tryd.ntmps29 (by kernel_rfl) (ls := [([0, 1], []), ([], []), ([4], []), ([], [])]) (by kernel_rfl)
def l1_IndexFunc_byte : CC :=
  .seq (.reg [co (some 9) (.binOp .lss 3 (.tmp 8) (.tmp 7) 3) none] [0, 1, 7, 8, 9])
  (.seq (.cond (.tmp 9)
      (.skip)
      (.exit 0))
  (.keep [0, 1, 7, 8] (.seq (.block 1
      (.seq (.reg [co (some 10) (.move (.tmp 8)) none,
          co (some 5) (.assign (.tmp 10)) none] [0, 1, 5, 7, 8])
      (.seq (.reg [co (some 11) (.move (.tmp 1)) none,
          co (some 12) (.move (.tmp 0)) none,
          co (some 13) (.move (.tmp 5)) none,
          co (some 14) (.indexAddr 23 (.tmp 12) (.tmp 13)) none,
          co (some 15) (.load 5 (.tmp 14)) none,
          co (some 16) (.call { callee := (.value (.tmp 11)), args := #[(.tmp 15)], argTypes := #[5] }) none] [0, 1, 5, 7, 8, 16])
      (.cond (.tmp 16)
        (.seq (.reg [co (some 17) (.move (.tmp 5)) none,
            co (some 4) (.assign (.tmp 17)) none] [4])
        (.ret))
        (.skip)))))
  (.keep [0, 1, 7, 8] (.reg [co (some 18) (.binOp .add 3 (.tmp 8) (.const (.int .i64 1)) 3) none,
    co (some 8) (.move (.tmp 18)) none] [0, 1, 7, 8])))))
/-- slices.IndexFunc[[]byte,byte] -/
def c_IndexFunc_byte : CC :=
  .seq (.reg [co (some 4) (.assign (.const (.int .i64 0))) none] [0, 1])
  (.seq (.seq (.reg [co (some 6) (.move (.tmp 0)) none,
        co (some 7) (.call { callee := (.builtin .len), args := #[(.tmp 6)], argTypes := #[23] }) none,
        co (some 8) (.move (.const (.int .i64 0))) none] [0, 1, 7, 8])
    (.block 0
      (.loop l1_IndexFunc_byte)))
  (.keep [] (.seq (.reg [co (some 4) (.assign (.const (.int .i64 (-1)))) none] [4])
  (.ret))))
theorem t_IndexFunc_byte : Txt Tryd.prog 46 19 [(.tmp 4)] c_IndexFunc_byte := txt_of (code := Tryd.f46.body.getD .ret) mixed (by kernel_rfl) Tryd.func46 (by kernel_rfl) Tryd.ntmps46 (by kernel_rfl) (ls := [([0, 1], []), ([], []), ([0, 1, 7, 8], []), ([], []), ([0, 1, 7, 8, 9], []), ([], []), ([999999, 0, 1, 7, 8], []), ([0, 1, 5, 7, 8], []), ([], []), ([0, 1, 5, 7, 8, 16], []), ([], []), ([4], []), ([], []), ([999999, 0, 1, 7, 8], []), ([0, 1, 7, 8], []), ([999999], []), ([4], []), ([], [])]) (by kernel_rfl)
/-- slices.ContainsFunc[[]byte,byte] -/
def c_ContainsFunc_byte : CC :=
  .seq (.reg [co (some 4) (.assign (.const (.bool false))) none] [0, 1])
  (.seq (.reg [co (some 5) (.move (.tmp 0)) none,
      co (some 6) (.move (.tmp 1)) none,
      co (some 7) (.call { callee := (.value (.func 46)), args := #[(.tmp 5), (.tmp 6)], argTypes := #[23, 55] }) none,
      co (some 8) (.binOp .geq 3 (.tmp 7) (.const (.int .i64 0)) 3) none,
      co (some 4) (.assign (.tmp 8)) none] [4])
  (.ret))
theorem t_ContainsFunc_byte : Txt Tryd.prog 31 9 [(.tmp 4)] c_ContainsFunc_byte := txt_of (code := Tryd.f31.body.getD .ret) mixed (by kernel_rfl) Tryd.func31 (by kernel_rfl) Tryd.ntmps31 (by kernel_rfl) (ls := [([0, 1], []), ([], []), ([4], []), ([], [])]) (by kernel_rfl)
/-- (cento/command.Command).Right -/
def c_command_Right : CC :=
  .seq (.reg [cn (some 1) (.box 28 (.tmp 0)) none [0],
      co (some 2) (.assign (.const (.bool false))) none] [1])
  (.seq (.seq (.reg [co (some 3) (.fieldAddr 28 (.tmp 1) 0) none,
        co (some 4) (.load 3 (.tmp 3)) none,
        co (some 5) (.binOp .lss 3 (.tmp 4) (.const (.int .i64 0)) 3) none,
        co (some 6) (.move (.tmp 5)) none,
        co (some 7) (.fieldAddr 28 (.tmp 1) 0) (some (6, false)),
        co (some 8) (.load 3 (.tmp 7)) (some (6, false)),
        co (some 9) (.binOp .gtr 3 (.tmp 8) (.const (.int .i64 14)) 3) (some (6, false)),
        co (some 10) (.pick (.tmp 6) (.const (.bool true)) (.tmp 9)) none,
        co (some 11) (.move (.tmp 10)) none,
        co (some 12) (.fieldAddr 28 (.tmp 1) 1) (some (11, false)),
        ⟨some 13, (.load 22 (.tmp 12)), (some (11, false)), [], 10, [], true⟩,
        co (some 14) (.call { callee := (.builtin .len), args := #[(.tmp 13)], argTypes := #[22] }) (some (11, false)),
        co (some 15) (.fieldAddr 28 (.tmp 1) 0) (some (11, false)),
        co (some 16) (.load 3 (.tmp 15)) (some (11, false)),
        ⟨some 17, (.call { callee := (.value (.func 28)), args := #[(.tmp 16)], argTypes := #[3] }), (some (11, false)), [], 14, [10], false⟩,
        co (some 18) (.binOp .neq 3 (.tmp 14) (.tmp 17) 3) (some (11, false)),
        co (some 19) (.pick (.tmp 11) (.const (.bool true)) (.tmp 18)) none] [1, 19])
    (.cond (.tmp 19)
      (.seq (.reg [co (some 2) (.assign (.const (.bool false))) none] [2])
      (.ret))
      (.skip)))
  (.keep [1] (.seq (.seq (.reg [co (some 20) (.fieldAddr 28 (.tmp 1) 1) none,
        co (some 21) (.load 22 (.tmp 20)) none,
        co (some 22) (.call { callee := (.value (.func 29)), args := #[(.tmp 21), (.func 30)], argTypes := #[22, 48] }) none] [1, 22])
    (.cond (.tmp 22)
      (.seq (.reg [co (some 2) (.assign (.const (.bool false))) none] [2])
      (.ret))
      (.skip)))
  (.keep [1] (.seq (.seq (.reg [co (some 23) (.fieldAddr 28 (.tmp 1) 0) none,
        co (some 24) (.load 3 (.tmp 23)) none,
        co (some 25) (.call { callee := (.value (.func 24)), args := #[(.tmp 24)], argTypes := #[3] }) none] [1, 25])
    (.cond (.tmp 25)
      (.seq (.reg [co (some 26) (.fieldAddr 28 (.tmp 1) 2) none,
          co (some 27) (.load 23 (.tmp 26)) none,
          co (some 28) (.call { callee := (.builtin .len), args := #[(.tmp 27)], argTypes := #[23] }) none,
          co (some 29) (.binOp .gtr 3 (.tmp 28) (.const (.int .i64 0)) 3) none,
          co (some 30) (.move (.tmp 29)) none,
          co (some 31) (.fieldAddr 28 (.tmp 1) 2) (some (30, true)),
          co (some 32) (.load 23 (.tmp 31)) (some (30, true)),
          co (some 33) (.call { callee := (.value (.func 31)), args := #[(.tmp 32), (.func 32)], argTypes := #[23, 55] }) (some (30, true)),
          co (some 34) (.unOp .not 4 (.tmp 33)) (some (30, true)),
          co (some 35) (.pick (.tmp 30) (.tmp 34) (.const (.bool false))) none,
          co (some 2) (.assign (.tmp 35)) none] [2])
      (.ret))
      (.skip)))
  (.keep [1] (.seq (.reg [co (some 36) (.fieldAddr 28 (.tmp 1) 0) none,
      co (some 37) (.load 3 (.tmp 36)) none,
      co (some 38) (.call { callee := (.value (.func 23)), args := #[(.tmp 37)], argTypes := #[3] }) none,
      co (some 39) (.move (.tmp 38)) none,
      co (some 40) (.fieldAddr 28 (.tmp 1) 2) (some (39, false)),
      co (some 41) (.load 23 (.tmp 40)) (some (39, false)),
      co (some 42) (.call { callee := (.builtin .len), args := #[(.tmp 41)], argTypes := #[23] }) (some (39, false)),
      co (some 43) (.binOp .eql 3 (.tmp 42) (.const (.int .i64 0)) 3) (some (39, false)),
      co (some 44) (.pick (.tmp 39) (.const (.bool true)) (.tmp 43)) none,
      co (some 2) (.assign (.tmp 44)) none] [2])
  (.ret))))))))
theorem t_command_Right : Txt Tryd.prog 10 45 [(.tmp 2)] c_command_Right := txt_of (code := Tryd.f10.body.getD .ret) mixed (by kernel_rfl) Tryd.func10 (by kernel_rfl) Tryd.ntmps10 (by kernel_rfl) (ls := [([1], [(0, [0])]), ([], []), ([1, 19], []), ([], []), ([2], []), ([], []), ([999999, 1], []), ([1, 22], []), ([], []), ([2], []), ([], []), ([999999, 1], []), ([1, 25], []), ([], []), ([2], []), ([], []), ([999999, 1], []), ([2], []), ([], [])]) (by kernel_rfl)
def l1_command_Hex : CC :=
  .seq (.reg [co (some 12) (.binOp .lss 3 (.tmp 11) (.tmp 10) 3) none] [3, 9, 10, 11, 12])
  (.seq (.cond (.tmp 12)
      (.skip)
      (.exit 0))
  (.keep [3, 9, 10, 11] (.seq (.block 1
      (.seq (.reg [co (some 13) (.indexAddr 23 (.tmp 9) (.tmp 11)) none,
          co (some 14) (.load 5 (.tmp 13)) none,
          co (some 5) (.assign (.tmp 14)) none] [3, 5, 9, 10, 11])
      (.seq (.reg [co (some 15) (.move (.tmp 5)) none,
          co (some 16) (.binOp .shr 5 (.tmp 15) (.const (.int .u64 4)) 68) none,
          co (some 17) (.index 9 (.const (.string { data := #[48, 49, 50, 51, 52, 53, 54, 55, 56, 57, 97, 98, 99, 100, 101, 102] })) (.tmp 16)) none,
          co (some 18) (.call { callee := (.value (.func 37)), args := #[(.tmp 3), (.tmp 17)], argTypes := #[64, 5] }) none] [3, 5, 9, 10, 11])
      (.reg [co (some 19) (.move (.tmp 5)) none,
        co (some 20) (.binOp .and 5 (.tmp 19) (.const (.int .u8 15)) 5) none,
        co (some 21) (.index 9 (.const (.string { data := #[48, 49, 50, 51, 52, 53, 54, 55, 56, 57, 97, 98, 99, 100, 101, 102] })) (.tmp 20)) none,
        co (some 22) (.call { callee := (.value (.func 37)), args := #[(.tmp 3), (.tmp 21)], argTypes := #[64, 5] }) none] [3, 9, 10, 11]))))
  (.reg [co (some 23) (.binOp .add 3 (.tmp 11) (.const (.int .i64 1)) 3) none,
    co (some 11) (.move (.tmp 23)) none] [3, 9, 10, 11]))))
/-- cento/command.Hex -/
def c_command_Hex : CC :=
  .seq (.reg [co (some 2) (.assign (.const (.string { data := #[] }))) none] [0])
  (.seq (.seq (.reg [co (some 6) (.move (.tmp 0)) none,
        co (some 7) (.call { callee := (.builtin .len), args := #[(.tmp 6)], argTypes := #[23] }) none,
        co (some 8) (.binOp .eql 3 (.tmp 7) (.const (.int .i64 0)) 3) none] [0, 8])
    (.cond (.tmp 8)
      (.seq (.reg [co (some 2) (.assign (.const (.string { data := #[45] }))) none] [2])
      (.ret))
      (.skip)))
  (.keep [0] (.seq (.reg [cn (some 3) (.alloc 64) none [0, 777777, 64]] [0, 3])
  (.stop (.seq (.seq (.reg [co (some 9) (.move (.tmp 0)) none,
        co (some 10) (.call { callee := (.builtin .len), args := #[(.tmp 9)], argTypes := #[23] }) none,
        co (some 11) (.move (.const (.int .i64 0))) none] [3, 9, 10, 11])
    (.block 0
      (.loop l1_command_Hex)))
  (.keep [3] (.seq (.reg [co (some 24) (.call { callee := (.value (.func 38)), args := #[(.tmp 3)], argTypes := #[64] }) none,
      co (some 2) (.assign (.tmp 24)) none] [2])
  (.ret))))))))
theorem t_command_Hex : Txt Tryd.prog 15 25 [(.tmp 2)] c_command_Hex := txt_of (code := Tryd.f15.body.getD .ret) mixed (by kernel_rfl) Tryd.func15 (by kernel_rfl) Tryd.ntmps15 (by kernel_rfl) (ls := [([0], []), ([], []), ([0, 8], []), ([], []), ([2], []), ([], []), ([999999, 0], []), ([0, 3], [(0, [0, 777777, 64])]), ([999998], []), ([3, 9, 10, 11], []), ([], []), ([3, 9, 10, 11, 12], []), ([], []), ([999999, 3, 9, 10, 11], []), ([3, 5, 9, 10, 11], []), ([], []), ([3, 5, 9, 10, 11], []), ([], []), ([3, 9, 10, 11], []), ([], []), ([3, 9, 10, 11], []), ([999999, 3], []), ([2], []), ([], [])]) (by kernel_rfl)
def l1_command_Unhex : CC :=
  .seq (.seq (.reg [co (some 18) (.move (.tmp 5)) none,
        co (some 19) (.move (.tmp 0)) none,
        co (some 20) (.call { callee := (.builtin .len), args := #[(.tmp 19)], argTypes := #[9] }) none,
        co (some 21) (.binOp .lss 3 (.tmp 18) (.tmp 20) 3) none] [0, 4, 5, 21])
    (.cond (.tmp 21)
      (.skip)
      (.exit 0)))
  (.keep [0, 4, 5] (.seq (.block 1
      (.seq (.reg [co (some 24) (.move (.tmp 0)) none,
          co (some 25) (.move (.tmp 5)) none,
          co (some 26) (.index 9 (.tmp 24) (.tmp 25)) none,
          co (some 27) (.call { callee := (.value (.func 39)), args := #[(.const (.string { data := #[48, 49, 50, 51, 52, 53, 54, 55, 56, 57, 97, 98, 99, 100, 101, 102] })), (.tmp 26)], argTypes := #[9, 5] }) none,
          co (some 28) (.move (.tmp 0)) none,
          co (some 29) (.move (.tmp 5)) none,
          co (some 30) (.binOp .add 3 (.tmp 29) (.const (.int .i64 1)) 3) none,
          co (some 31) (.index 9 (.tmp 28) (.tmp 30)) none,
          co (some 32) (.call { callee := (.value (.func 39)), args := #[(.const (.string { data := #[48, 49, 50, 51, 52, 53, 54, 55, 56, 57, 97, 98, 99, 100, 101, 102] })), (.tmp 31)], argTypes := #[9, 5] }) none,
          co (some 6) (.assign (.tmp 27)) none,
          co (some 7) (.assign (.tmp 32)) none] [0, 4, 5, 6, 7])
      (.seq (.seq (.reg [co (some 33) (.move (.tmp 6)) none,
            co (some 34) (.binOp .lss 3 (.tmp 33) (.const (.int .i64 0)) 3) none,
            co (some 35) (.move (.tmp 34)) none,
            co (some 36) (.move (.tmp 7)) (some (35, false)),
            co (some 37) (.binOp .lss 3 (.tmp 36) (.const (.int .i64 0)) 3) (some (35, false)),
            co (some 38) (.pick (.tmp 35) (.const (.bool true)) (.tmp 37)) none] [0, 4, 5, 6, 7, 38])
        (.cond (.tmp 38)
          (.seq (.reg [co (some 2) (.assign (.const (.slice none 0 0))) none,
              co (some 3) (.assign (.const (.bool false))) none] [2, 3])
          (.ret))
          (.skip)))
      (.keep [0, 4, 5, 6, 7] (.reg [co (some 39) (.move (.tmp 4)) none,
        co (some 40) (.move (.tmp 6)) none,
        co (some 41) (.binOp .mul 3 (.const (.int .i64 16)) (.tmp 40) 3) none,
        co (some 42) (.move (.tmp 7)) none,
        co (some 43) (.binOp .add 3 (.tmp 41) (.tmp 42) 3) none,
        co (some 44) (.convert 3 5 (.tmp 43)) none,
        co (some 45) (.buildSlice 23 1 #[(0, (.tmp 44))]) none,
        cn (some 46) (.call { callee := (.builtin .append), args := #[(.tmp 39), (.tmp 45)], argTypes := #[23, 23] }) none [0],
        co (some 4) (.assign (.tmp 46)) none] [0, 4, 5])))))
  (.keep [0, 4, 5] (.reg [co (some 22) (.move (.tmp 5)) none,
    co (some 23) (.binOp .add 3 (.tmp 22) (.const (.int .i64 2)) 3) none,
    co (some 5) (.assign (.tmp 23)) none] [0, 4, 5]))))
/-- cento/command.Unhex -/
def c_command_Unhex : CC :=
  .seq (.reg [co (some 2) (.assign (.const (.slice none 0 0))) none,
      co (some 3) (.assign (.const (.bool false))) none] [0])
  (.seq (.seq (.reg [co (some 8) (.move (.tmp 0)) none,
        co (some 9) (.binOp .eql 9 (.tmp 8) (.const (.string { data := #[45] })) 9) none] [0, 9])
    (.cond (.tmp 9)
      (.seq (.reg [co (some 2) (.assign (.const (.slice none 0 0))) none,
          co (some 3) (.assign (.const (.bool true))) none] [2, 3])
      (.ret))
      (.skip)))
  (.keep [0] (.seq (.seq (.reg [co (some 10) (.move (.tmp 0)) none,
        co (some 11) (.binOp .eql 9 (.tmp 10) (.const (.string { data := #[] })) 9) none,
        co (some 12) (.move (.tmp 11)) none,
        co (some 13) (.move (.tmp 0)) (some (12, false)),
        co (some 14) (.call { callee := (.builtin .len), args := #[(.tmp 13)], argTypes := #[9] }) (some (12, false)),
        co (some 15) (.binOp .rem 3 (.tmp 14) (.const (.int .i64 2)) 3) (some (12, false)),
        co (some 16) (.binOp .neq 3 (.tmp 15) (.const (.int .i64 0)) 3) (some (12, false)),
        co (some 17) (.pick (.tmp 12) (.const (.bool true)) (.tmp 16)) none] [0, 17])
    (.cond (.tmp 17)
      (.seq (.reg [co (some 2) (.assign (.const (.slice none 0 0))) none,
          co (some 3) (.assign (.const (.bool false))) none] [2, 3])
      (.ret))
      (.skip)))
  (.keep [0] (.seq (.reg [co (some 4) (.assign (.const (.slice none 0 0))) none] [0, 4])
  (.seq (.seq (.reg [co (some 5) (.assign (.const (.int .i64 0))) none] [0, 4, 5])
    (.block 0
      (.loop l1_command_Unhex)))
  (.keep [4] (.seq (.reg [co (some 47) (.move (.tmp 4)) none,
      co (some 2) (.assign (.tmp 47)) none,
      co (some 3) (.assign (.const (.bool true))) none] [2, 3])
  (.ret)))))))))
theorem t_command_Unhex : Txt Tryd.prog 16 48 [(.tmp 2), (.tmp 3)] c_command_Unhex := txt_of (code := Tryd.f16.body.getD .ret) mixed (by kernel_rfl) Tryd.func16 (by kernel_rfl) Tryd.ntmps16 (by kernel_rfl) (ls := [([0], []), ([], []), ([0, 9], []), ([], []), ([2, 3], []), ([], []), ([999999, 0], []), ([0, 17], []), ([], []), ([2, 3], []), ([], []), ([999999, 0], []), ([0, 4], []), ([], []), ([0, 4, 5], []), ([], []), ([0, 4, 5, 21], []), ([], []), ([999999, 0, 4, 5], []), ([0, 4, 5, 6, 7], []), ([], []), ([0, 4, 5, 6, 7, 38], []), ([], []), ([2, 3], []), ([], []), ([999999, 0, 4, 5, 6, 7], []), ([0, 4, 5], [(7, [0])]), ([999999, 0, 4, 5], []), ([0, 4, 5], []), ([999999, 4], []), ([2, 3], []), ([], [])]) (by kernel_rfl)
def l1_command_Print : CC :=
  .seq (.reg [co (some 19) (.binOp .lss 3 (.tmp 18) (.tmp 17) 3) none] [1, 3, 16, 17, 18, 19])
  (.seq (.cond (.tmp 19)
      (.skip)
      (.exit 0))
  (.keep [1, 3, 16, 17, 18] (.seq (.block 1
      (.seq (.reg [co (some 20) (.indexAddr 22 (.tmp 16) (.tmp 18)) none,
          co (some 21) (.load 3 (.tmp 20)) none,
          co (some 5) (.assign (.tmp 21)) none] [1, 3, 5, 16, 17, 18])
      (.reg [co (some 22) (.move (.tmp 3)) none,
        co (some 23) (.move (.tmp 5)) none,
        co (some 24) (.call { callee := (.value (.func 22)), args := #[(.tmp 23)], argTypes := #[3] }) none,
        co (some 25) (.buildSlice 45 1 #[(0, (.tmp 24))]) none,
        cn (some 26) (.call { callee := (.builtin .append), args := #[(.tmp 22), (.tmp 25)], argTypes := #[45, 45] }) none [1],
        co (some 3) (.assign (.tmp 26)) none] [1, 3, 16, 17, 18])))
  (.reg [co (some 27) (.binOp .add 3 (.tmp 18) (.const (.int .i64 1)) 3) none,
    co (some 18) (.move (.tmp 27)) none] [1, 3, 16, 17, 18]))))
/-- cento/command.Print -/
def c_command_Print : CC :=
  .seq (.reg [cn (some 1) (.box 28 (.tmp 0)) none [0],
      co (some 2) (.assign (.const (.string { data := #[] }))) none] [1])
  (.seq (.seq (.reg [co (some 6) (.load 28 (.tmp 1)) none,
        co (some 7) (.call { callee := (.value (.func 10)), args := #[(.tmp 6)], argTypes := #[28] }) none,
        co (some 8) (.unOp .not 4 (.tmp 7)) none] [1, 8])
    (.cond (.tmp 8)
      (.seq (.reg [co (some 2) (.assign (.const (.string { data := #[] }))) none] [2])
      (.ret))
      (.skip)))
  (.keep [1] (.seq (.reg [⟨some 9, (.call { callee := (.value (.func 21)), args := #[], argTypes := #[] }), none, [], 0, [], true⟩,
      co (some 10) (.fieldAddr 28 (.tmp 1) 0) none,
      ⟨some 11, (.load 3 (.tmp 10)), none, [], 2, [0], false⟩,
      co (some 12) (.indexAddr 45 (.tmp 9) (.tmp 11)) none,
      co (some 13) (.load 9 (.tmp 12)) none,
      co (some 14) (.buildSlice 45 1 #[(0, (.tmp 13))]) none,
      co (some 3) (.assign (.tmp 14)) none] [1, 3])
  (.seq (.seq (.reg [co (some 15) (.fieldAddr 28 (.tmp 1) 1) none,
        co (some 16) (.load 22 (.tmp 15)) none,
        co (some 17) (.call { callee := (.builtin .len), args := #[(.tmp 16)], argTypes := #[22] }) none,
        co (some 18) (.move (.const (.int .i64 0))) none] [1, 3, 16, 17, 18])
    (.block 0
      (.loop l1_command_Print)))
  (.keep [1, 3] (.seq (.block 2
      (.seq (.reg [co (some 29) (.fieldAddr 28 (.tmp 1) 0) none,
          co (some 30) (.load 3 (.tmp 29)) none,
          co (some 31) (.call { callee := (.value (.func 23)), args := #[(.tmp 30)], argTypes := #[3] }) none,
          co (some 28) (.assign (.tmp 31)) none] [1, 3, 28])
      (.cond (.tmp 28)
        (.reg [co (some 32) (.move (.tmp 3)) none,
          co (some 33) (.fieldAddr 28 (.tmp 1) 2) none,
          co (some 34) (.load 23 (.tmp 33)) none,
          co (some 35) (.call { callee := (.value (.func 15)), args := #[(.tmp 34)], argTypes := #[23] }) none,
          co (some 36) (.buildSlice 45 1 #[(0, (.tmp 35))]) none,
          cn (some 37) (.call { callee := (.builtin .append), args := #[(.tmp 32), (.tmp 36)], argTypes := #[45, 45] }) none [1],
          co (some 3) (.assign (.tmp 37)) none] [3])
        (.seq (.reg [co (some 39) (.fieldAddr 28 (.tmp 1) 0) none,
            co (some 40) (.load 3 (.tmp 39)) none,
            co (some 41) (.call { callee := (.value (.func 24)), args := #[(.tmp 40)], argTypes := #[3] }) none,
            co (some 38) (.assign (.tmp 41)) none] [1, 3, 38])
        (.cond (.tmp 38)
          (.reg [co (some 42) (.move (.tmp 3)) none,
            co (some 43) (.fieldAddr 28 (.tmp 1) 2) none,
            co (some 44) (.load 23 (.tmp 43)) none,
            co (some 45) (.convert 23 9 (.tmp 44)) none,
            co (some 46) (.buildSlice 45 1 #[(0, (.tmp 45))]) none,
            cn (some 47) (.call { callee := (.builtin .append), args := #[(.tmp 42), (.tmp 46)], argTypes := #[45, 45] }) none [1],
            co (some 3) (.assign (.tmp 47)) none] [3])
          (.skip))))))
  (.keep [3] (.seq (.reg [co (some 48) (.move (.tmp 3)) none,
      co (some 49) (.call { callee := (.value (.func 25)), args := #[(.tmp 48), (.const (.string { data := #[32] }))], argTypes := #[45, 9] }) none,
      co (some 2) (.assign (.tmp 49)) none] [2])
  (.ret)))))))))
theorem t_command_Print : Txt Tryd.prog 7 50 [(.tmp 2)] c_command_Print := txt_of (code := Tryd.f7.body.getD .ret) mixed (by kernel_rfl) Tryd.func7 (by kernel_rfl) Tryd.ntmps7 (by kernel_rfl) (ls := [([1], [(0, [0])]), ([], []), ([1, 8], []), ([], []), ([2], []), ([], []), ([999999, 1], []), ([1, 3], []), ([], []), ([1, 3, 16, 17, 18], []), ([], []), ([1, 3, 16, 17, 18, 19], []), ([], []), ([999999, 1, 3, 16, 17, 18], []), ([1, 3, 5, 16, 17, 18], []), ([], []), ([1, 3, 16, 17, 18], [(4, [1])]), ([], []), ([1, 3, 16, 17, 18], []), ([999999, 1, 3], []), ([1, 3, 28], []), ([], []), ([3], [(5, [1])]), ([1, 3, 38], []), ([], []), ([3], [(5, [1])]), ([999999, 3], []), ([2], []), ([], [])]) (by kernel_rfl)
/-- cento/command.number -/
def c_command_number : CC :=
  .seq (.reg [co (some 2) (.assign (.const (.int .i64 0))) none,
      co (some 3) (.assign (.const (.bool false))) none] [0])
  (.seq (.reg [co (some 7) (.move (.tmp 0)) none,
      co (some 8) (.call { callee := (.value (.func 48)), args := #[(.tmp 7)], argTypes := #[9] }) none,
      co (some 6) (.move (.tmp 8)) none,
      co (some 9) (.extract (.tmp 6) 0) none,
      co (some 10) (.extract (.tmp 6) 1) none,
      co (some 4) (.assign (.tmp 9)) none,
      co (some 5) (.assign (.tmp 10)) none] [0, 4, 5])
  (.seq (.reg [co (some 11) (.move (.tmp 4)) none,
      co (some 12) (.move (.tmp 5)) none,
      co (some 13) (.binOp .eql 66 (.tmp 12) (.const .nilIface) 66) none,
      co (some 14) (.move (.tmp 13)) none,
      co (some 15) (.move (.tmp 4)) (some (14, true)),
      co (some 16) (.call { callee := (.value (.func 22)), args := #[(.tmp 15)], argTypes := #[3] }) (some (14, true)),
      co (some 17) (.move (.tmp 0)) (some (14, true)),
      co (some 18) (.binOp .eql 9 (.tmp 16) (.tmp 17) 9) (some (14, true)),
      co (some 19) (.pick (.tmp 14) (.tmp 18) (.const (.bool false))) none,
      co (some 20) (.move (.tmp 19)) none,
      co (some 21) (.move (.tmp 4)) (some (20, true)),
      co (some 22) (.binOp .geq 3 (.tmp 21) (.const (.int .i64 0)) 3) (some (20, true)),
      co (some 23) (.pick (.tmp 20) (.tmp 22) (.const (.bool false))) none,
      co (some 24) (.move (.tmp 23)) none,
      co (some 25) (.move (.tmp 4)) (some (24, true)),
      co (some 26) (.binOp .leq 3 (.tmp 25) (.const (.int .i64 1073741824)) 3) (some (24, true)),
      co (some 27) (.pick (.tmp 24) (.tmp 26) (.const (.bool false))) none,
      co (some 2) (.assign (.tmp 11)) none,
      co (some 3) (.assign (.tmp 27)) none] [2, 3])
  (.ret)))
theorem t_command_number : Txt Tryd.prog 34 28 [(.tmp 2), (.tmp 3)] c_command_number := txt_of (code := Tryd.f34.body.getD .ret) mixed (by kernel_rfl) Tryd.func34 (by kernel_rfl) Tryd.ntmps34 (by kernel_rfl) (ls := [([0], []), ([], []), ([0, 4, 5], []), ([], []), ([2, 3], []), ([], [])]) (by kernel_rfl)
def l1_command_Parse : CC :=
  .seq (.reg [co (some 24) (.binOp .lss 3 (.tmp 23) (.tmp 22) 3) none] [2, 4, 5, 21, 22, 23, 24])
  (.seq (.cond (.tmp 24)
      (.skip)
      (.exit 0))
  (.keep [2, 4, 5, 21, 22, 23] (.seq (.block 1
      (.seq (.reg [co (some 25) (.move (.tmp 23)) none,
          co (some 26) (.indexAddr 45 (.tmp 21) (.tmp 23)) none,
          co (some 27) (.load 9 (.tmp 26)) none,
          co (some 6) (.assign (.tmp 25)) none,
          co (some 7) (.assign (.tmp 27)) none] [2, 4, 5, 6, 7, 21, 22, 23])
      (.reg [co (some 28) (.move (.tmp 5)) none,
        co (some 29) (.move (.tmp 7)) none,
        co (some 30) (.move (.tmp 6)) none,
        co none (.mapUpdate 57 (.tmp 28) (.tmp 29) (.tmp 30)) none] [2, 4, 5, 21, 22, 23])))
  (.reg [co (some 31) (.binOp .add 3 (.tmp 23) (.const (.int .i64 1)) 3) none,
    co (some 23) (.move (.tmp 31)) none] [2, 4, 5, 21, 22, 23]))))
def l2_command_Parse : CC :=
  .seq (.reg [co (some 82) (.binOp .lss 3 (.tmp 81) (.tmp 80) 3) none] [2, 4, 10, 11, 79, 80, 81, 82])
  (.seq (.cond (.tmp 82)
      (.skip)
      (.exit 2))
  (.keep [2, 4, 10, 11, 79, 80, 81] (.seq (.block 3
      (.seq (.reg [co (some 83) (.indexAddr 45 (.tmp 79) (.tmp 81)) none,
          co (some 84) (.load 9 (.tmp 83)) none,
          co (some 14) (.assign (.tmp 84)) none] [2, 4, 10, 11, 14, 79, 80, 81])
      (.seq (.reg [co (some 86) (.move (.tmp 14)) none,
          co (some 87) (.call { callee := (.value (.func 34)), args := #[(.tmp 86)], argTypes := #[9] }) none,
          co (some 85) (.move (.tmp 87)) none,
          co (some 88) (.extract (.tmp 85) 0) none,
          co (some 89) (.extract (.tmp 85) 1) none,
          co (some 15) (.assign (.tmp 88)) none,
          co (some 16) (.assign (.tmp 89)) none] [2, 4, 10, 11, 15, 16, 79, 80, 81])
      (.seq (.seq (.reg [co (some 90) (.move (.tmp 16)) none,
            co (some 91) (.unOp .not 4 (.tmp 90)) none] [2, 4, 10, 11, 15, 79, 80, 81, 91])
        (.cond (.tmp 91)
          (.seq (.reg [co (some 92) (.build 28 #[]) none,
              co none (.store 28 (.tmp 2) (.tmp 92)) none,
              co (some 3) (.assign (.const (.int .i64 16))) none] [2, 3])
          (.ret))
          (.skip)))
      (.keep [2, 4, 10, 11, 15, 79, 80, 81] (.reg [co (some 93) (.fieldAddr 28 (.tmp 10) 1) none,
        co (some 94) (.load 22 (.tmp 93)) none,
        co (some 95) (.move (.tmp 15)) none,
        co (some 96) (.buildSlice 22 1 #[(0, (.tmp 95))]) none,
        cn (some 97) (.call { callee := (.builtin .append), args := #[(.tmp 94), (.tmp 96)], argTypes := #[22, 22] }) none [3],
        co (some 98) (.fieldAddr 28 (.tmp 10) 1) none,
        co none (.store 22 (.tmp 98) (.tmp 97)) none] [2, 4, 10, 11, 79, 80, 81]))))))
  (.keep [2, 4, 10, 11, 79, 80, 81] (.reg [co (some 99) (.binOp .add 3 (.tmp 81) (.const (.int .i64 1)) 3) none,
    co (some 81) (.move (.tmp 99)) none] [2, 4, 10, 11, 79, 80, 81])))))
def k1_command_Parse : CC :=
  .seq (.seq (.reg [co (some 123) (.move (.tmp 17)) none,
        co (some 124) (.unOp .not 4 (.tmp 123)) none,
        co (some 125) (.move (.tmp 124)) none,
        co (some 126) (.load 28 (.tmp 10)) (some (125, false)),
        co (some 127) (.call { callee := (.value (.func 10)), args := #[(.tmp 126)], argTypes := #[28] }) (some (125, false)),
        co (some 128) (.unOp .not 4 (.tmp 127)) (some (125, false)),
        co (some 129) (.pick (.tmp 125) (.const (.bool true)) (.tmp 128)) none] [2, 10, 129])
    (.cond (.tmp 129)
      (.seq (.reg [co (some 130) (.build 28 #[]) none,
          co none (.store 28 (.tmp 2) (.tmp 130)) none,
          co (some 3) (.assign (.const (.int .i64 16))) none] [2, 3])
      (.ret))
      (.skip)))
  (.keep [2, 10] (.seq (.reg [co (some 131) (.load 28 (.tmp 10)) none,
      co none (.store 28 (.tmp 2) (.tmp 131)) none,
      co (some 3) (.assign (.const (.int .i64 0))) none] [2, 3])
  (.ret)))
def k2_command_Parse : CC :=
  .seq (.seq (.reg [co (some 77) (.move (.tmp 4)) none,
        co (some 78) (.move (.tmp 11)) none,
        co (some 79) (.slice 45 (.tmp 77) none (some (.tmp 78)) none) none,
        co (some 80) (.call { callee := (.builtin .len), args := #[(.tmp 79)], argTypes := #[45] }) none,
        co (some 81) (.move (.const (.int .i64 0))) none] [2, 4, 10, 11, 79, 80, 81])
    (.block 2
      (.loop l2_command_Parse)))
  (.keep [2, 4, 10, 11] (.seq (.reg [co (some 17) (.assign (.const (.bool true))) none] [2, 4, 10, 11, 17])
  (.seq (.block 4
      (.seq (.reg [co (some 101) (.fieldAddr 28 (.tmp 10) 0) none,
          co (some 102) (.load 3 (.tmp 101)) none,
          co (some 103) (.call { callee := (.value (.func 23)), args := #[(.tmp 102)], argTypes := #[3] }) none,
          co (some 100) (.assign (.tmp 103)) none] [2, 4, 10, 11, 17, 100])
      (.cond (.tmp 100)
        (.reg [co (some 105) (.move (.tmp 4)) none,
          co (some 106) (.move (.tmp 11)) none,
          co (some 107) (.indexAddr 45 (.tmp 105) (.tmp 106)) none,
          co (some 108) (.load 9 (.tmp 107)) none,
          co (some 109) (.call { callee := (.value (.func 16)), args := #[(.tmp 108)], argTypes := #[9] }) none,
          co (some 104) (.move (.tmp 109)) none,
          co (some 110) (.extract (.tmp 104) 0) none,
          co (some 111) (.extract (.tmp 104) 1) none,
          co (some 112) (.fieldAddr 28 (.tmp 10) 2) none,
          co none (.store 23 (.tmp 112) (.tmp 110)) none,
          co (some 17) (.assign (.tmp 111)) none] [2, 10, 17])
        (.seq (.reg [co (some 114) (.fieldAddr 28 (.tmp 10) 0) none,
            co (some 115) (.load 3 (.tmp 114)) none,
            co (some 116) (.call { callee := (.value (.func 24)), args := #[(.tmp 115)], argTypes := #[3] }) none,
            co (some 113) (.assign (.tmp 116)) none] [2, 4, 10, 11, 17, 113])
        (.cond (.tmp 113)
          (.reg [co (some 117) (.move (.tmp 4)) none,
            co (some 118) (.move (.tmp 11)) none,
            co (some 119) (.indexAddr 45 (.tmp 117) (.tmp 118)) none,
            co (some 120) (.load 9 (.tmp 119)) none,
            co (some 121) (.convert 9 23 (.tmp 120)) none,
            co (some 122) (.fieldAddr 28 (.tmp 10) 2) none,
            co none (.store 23 (.tmp 122) (.tmp 121)) none] [2, 10, 17])
          (.skip))))))
  (.keep [2, 10, 17] k1_command_Parse))))
/-- cento/command.Parse -/
def c_command_Parse : CC :=
  .seq (.reg [cn (some 2) (.alloc 28) none [0],
      co (some 3) (.assign (.const (.int .i64 0))) none] [0, 2])
  (.seq (.reg [co (some 18) (.move (.tmp 0)) none,
      co (some 19) (.call { callee := (.value (.func 33)), args := #[(.tmp 18), (.const (.string { data := #[32] }))], argTypes := #[9, 9] }) none,
      co (some 4) (.assign (.tmp 19)) none] [2, 4])
  (.seq (.reg [cn (some 20) (.makeMap 57 none) none [1],
      co (some 5) (.assign (.tmp 20)) none] [2, 4, 5])
  (.seq (.seq (.reg [co (some 21) (.call { callee := (.value (.func 21)), args := #[], argTypes := #[] }) none,
        co (some 22) (.call { callee := (.builtin .len), args := #[(.tmp 21)], argTypes := #[45] }) none,
        co (some 23) (.move (.const (.int .i64 0))) none] [2, 4, 5, 21, 22, 23])
    (.block 0
      (.loop l1_command_Parse)))
  (.keep [2, 4, 5] (.seq (.reg [co (some 33) (.move (.tmp 5)) none,
      co (some 34) (.move (.tmp 4)) none,
      co (some 35) (.indexAddr 45 (.tmp 34) (.const (.int .i64 0))) none,
      co (some 36) (.load 9 (.tmp 35)) none,
      co (some 37) (.lookup 57 (.tmp 33) (.tmp 36) true) none,
      co (some 32) (.move (.tmp 37)) none,
      co (some 38) (.extract (.tmp 32) 0) none,
      co (some 39) (.extract (.tmp 32) 1) none,
      co (some 8) (.assign (.tmp 38)) none,
      co (some 9) (.assign (.tmp 39)) none] [2, 4, 8, 9])
  (.seq (.seq (.reg [co (some 40) (.move (.tmp 9)) none,
        co (some 41) (.unOp .not 4 (.tmp 40)) none] [2, 4, 8, 41])
    (.cond (.tmp 41)
      (.seq (.reg [co (some 42) (.build 28 #[]) none,
          co none (.store 28 (.tmp 2) (.tmp 42)) none,
          co (some 3) (.assign (.const (.int .i64 16))) none] [2, 3])
      (.ret))
      (.skip)))
  (.keep [2, 4, 8] (.seq (.reg [co (some 43) (.move (.tmp 8)) none,
      co (some 44) (.build 28 #[(0, (.tmp 43))]) none,
      cn (some 10) (.alloc 28) none [2],
      co none (.store 28 (.tmp 10) (.tmp 44)) none] [2, 4, 10])
  (.seq (.reg [co (some 45) (.fieldAddr 28 (.tmp 10) 0) none,
      co (some 46) (.load 3 (.tmp 45)) none,
      co (some 47) (.call { callee := (.value (.func 28)), args := #[(.tmp 46)], argTypes := #[3] }) none,
      co (some 11) (.assign (.tmp 47)) none] [2, 4, 10, 11])
  (.seq (.reg [co (some 48) (.move (.tmp 4)) none,
      co (some 49) (.slice 45 (.tmp 48) (some (.const (.int .i64 1))) none none) none,
      co (some 4) (.assign (.tmp 49)) none] [2, 4, 10, 11])
  (.seq (.reg [co (some 50) (.fieldAddr 28 (.tmp 10) 0) none,
      co (some 51) (.load 3 (.tmp 50)) none,
      co (some 52) (.call { callee := (.value (.func 23)), args := #[(.tmp 51)], argTypes := #[3] }) none,
      co (some 53) (.move (.tmp 52)) none,
      co (some 54) (.fieldAddr 28 (.tmp 10) 0) (some (53, false)),
      co (some 55) (.load 3 (.tmp 54)) (some (53, false)),
      co (some 56) (.call { callee := (.value (.func 24)), args := #[(.tmp 55)], argTypes := #[3] }) (some (53, false)),
      co (some 57) (.pick (.tmp 53) (.const (.bool true)) (.tmp 56)) none,
      co (some 12) (.assign (.tmp 57)) none] [2, 4, 10, 11, 12])
  (.seq (.seq (.reg [co (some 58) (.move (.tmp 12)) none,
        co (some 59) (.move (.tmp 58)) none,
        co (some 60) (.move (.tmp 4)) (some (59, true)),
        co (some 61) (.call { callee := (.builtin .len), args := #[(.tmp 60)], argTypes := #[45] }) (some (59, true)),
        co (some 62) (.move (.tmp 11)) (some (59, true)),
        co (some 63) (.binOp .add 3 (.tmp 62) (.const (.int .i64 1)) 3) (some (59, true)),
        co (some 64) (.binOp .neq 3 (.tmp 61) (.tmp 63) 3) (some (59, true)),
        co (some 65) (.pick (.tmp 59) (.tmp 64) (.const (.bool false))) none,
        co (some 66) (.move (.tmp 65)) none,
        co (some 67) (.move (.tmp 12)) (some (66, false)),
        co (some 68) (.unOp .not 4 (.tmp 67)) (some (66, false)),
        co (some 69) (.move (.tmp 68)) (some (66, false)),
        co (some 70) (.move (.tmp 4)) (some (69, true)),
        co (some 71) (.call { callee := (.builtin .len), args := #[(.tmp 70)], argTypes := #[45] }) (some (69, true)),
        co (some 72) (.move (.tmp 11)) (some (69, true)),
        co (some 73) (.binOp .neq 3 (.tmp 71) (.tmp 72) 3) (some (69, true)),
        co (some 74) (.pick (.tmp 69) (.tmp 73) (.const (.bool false))) (some (66, false)),
        co (some 75) (.pick (.tmp 66) (.const (.bool true)) (.tmp 74)) none] [2, 4, 10, 11, 75])
    (.cond (.tmp 75)
      (.seq (.reg [co (some 76) (.build 28 #[]) none,
          co none (.store 28 (.tmp 2) (.tmp 76)) none,
          co (some 3) (.assign (.const (.int .i64 16))) none] [2, 3])
      (.ret))
      (.skip)))
  (.keep [2, 4, 10, 11] (.stop k2_command_Parse))))))))))))))
theorem t_command_Parse : Txt Tryd.prog 12 132 [(.cell 2 28), (.tmp 3)] c_command_Parse := txt_of (code := Tryd.f12.body.getD .ret) mixed (by kernel_rfl) Tryd.func12 (by kernel_rfl) Tryd.ntmps12 (by kernel_rfl) (ls := [([0, 2], [(0, [0])]), ([], []), ([2, 4], []), ([], []), ([2, 4, 5], [(0, [1])]), ([], []), ([2, 4, 5, 21, 22, 23], []), ([], []), ([2, 4, 5, 21, 22, 23, 24], []), ([], []), ([999999, 2, 4, 5, 21, 22, 23], []), ([2, 4, 5, 6, 7, 21, 22, 23], []), ([], []), ([2, 4, 5, 21, 22, 23], []), ([], []), ([2, 4, 5, 21, 22, 23], []), ([999999, 2, 4, 5], []), ([2, 4, 8, 9], []), ([], []), ([2, 4, 8, 41], []), ([], []), ([2, 3], []), ([], []), ([999999, 2, 4, 8], []), ([2, 4, 10], [(2, [2])]), ([], []), ([2, 4, 10, 11], []), ([], []), ([2, 4, 10, 11], []), ([], []), ([2, 4, 10, 11, 12], []), ([], []), ([2, 4, 10, 11, 75], []), ([], []), ([2, 3], []), ([], []), ([999997, 2, 4, 10, 11], []), ([2, 4, 10, 11, 79, 80, 81], []), ([], []), ([2, 4, 10, 11, 79, 80, 81, 82], []), ([], []), ([999999, 2, 4, 10, 11, 79, 80, 81], []), ([2, 4, 10, 11, 14, 79, 80, 81], []), ([], []), ([2, 4, 10, 11, 15, 16, 79, 80, 81], []), ([], []), ([2, 4, 10, 11, 15, 79, 80, 81, 91], []), ([], []), ([2, 3], []), ([], []), ([999999, 2, 4, 10, 11, 15, 79, 80, 81], []), ([2, 4, 10, 11, 79, 80, 81], [(4, [3])]), ([999999, 2, 4, 10, 11, 79, 80, 81], []), ([2, 4, 10, 11, 79, 80, 81], []), ([999999, 2, 4, 10, 11], []), ([2, 4, 10, 11, 17], []), ([], []), ([2, 4, 10, 11, 17, 100], []), ([], []), ([2, 10, 17], []), ([2, 4, 10, 11, 17, 113], []), ([], []), ([2, 10, 17], []), ([999999, 2, 10, 17], []), ([2, 10, 129], []), ([], []), ([2, 3], []), ([], []), ([999999, 2, 10], []), ([2, 3], []), ([], [])]) (by kernel_rfl)
/-- cento/centoref34.Name -/
def c_centoref34_Name : CC :=
  .seq (.reg [co (some 2) (.assign (.const (.string { data := #[] }))) none,
      co (some 3) (.assign (.const (.int .i64 0))) none,
      co (some 4) (.assign (.const (.int .i64 0))) none] [0])
  (.seq (.seq (.reg [co (some 5) (.move (.tmp 0)) none] [5])
    (.block 0
      (.seq (.reg [co (some 7) (.binOp .eql 3 (.tmp 5) (.const (.int .i64 0)) 3) none,
          co (some 6) (.assign (.tmp 7)) none] [5, 6])
      (.cond (.tmp 6)
        (.seq (.reg [co (some 2) (.assign (.const (.string { data := #[108, 105, 109, 105, 116, 115] }))) none,
            co (some 3) (.assign (.const (.int .i64 4))) none,
            co (some 4) (.assign (.const (.int .i64 0))) none] [2, 3, 4])
        (.ret))
        (.seq (.reg [co (some 9) (.binOp .eql 3 (.tmp 5) (.const (.int .i64 1)) 3) none,
            co (some 8) (.assign (.tmp 9)) none] [5, 8])
        (.cond (.tmp 8)
          (.seq (.reg [co (some 2) (.assign (.const (.string { data := #[108, 111, 97, 100] }))) none,
              co (some 3) (.assign (.const (.int .i64 1))) none,
              co (some 4) (.assign (.const (.int .i64 1))) none] [2, 3, 4])
          (.ret))
          (.seq (.reg [co (some 11) (.binOp .eql 3 (.tmp 5) (.const (.int .i64 2)) 3) none,
              co (some 10) (.assign (.tmp 11)) none] [5, 10])
          (.cond (.tmp 10)
            (.seq (.reg [co (some 2) (.assign (.const (.string { data := #[117, 110, 112, 97, 99, 107] }))) none,
                co (some 3) (.assign (.const (.int .i64 1))) none,
                co (some 4) (.assign (.const (.int .i64 1))) none] [2, 3, 4])
            (.ret))
            (.seq (.reg [co (some 13) (.binOp .eql 3 (.tmp 5) (.const (.int .i64 3)) 3) none,
                co (some 12) (.assign (.tmp 13)) none] [5, 12])
            (.cond (.tmp 12)
              (.seq (.reg [co (some 2) (.assign (.const (.string { data := #[116, 101, 120, 116] }))) none,
                  co (some 3) (.assign (.const (.int .i64 1))) none,
                  co (some 4) (.assign (.const (.int .i64 2))) none] [2, 3, 4])
              (.ret))
              (.seq (.reg [co (some 15) (.binOp .eql 3 (.tmp 5) (.const (.int .i64 4)) 3) none,
                  co (some 14) (.assign (.tmp 15)) none] [5, 14])
              (.cond (.tmp 14)
                (.seq (.reg [co (some 2) (.assign (.const (.string { data := #[100, 105, 102, 102] }))) none,
                    co (some 3) (.assign (.const (.int .i64 3))) none,
                    co (some 4) (.assign (.const (.int .i64 0))) none] [2, 3, 4])
                (.ret))
                (.seq (.reg [co (some 17) (.binOp .eql 3 (.tmp 5) (.const (.int .i64 5)) 3) none,
                    co (some 16) (.assign (.tmp 17)) none] [5, 16])
                (.cond (.tmp 16)
                  (.seq (.reg [co (some 2) (.assign (.const (.string { data := #[97, 112, 112, 108, 121] }))) none,
                      co (some 3) (.assign (.const (.int .i64 3))) none,
                      co (some 4) (.assign (.const (.int .i64 0))) none] [2, 3, 4])
                  (.ret))
                  (.seq (.reg [co (some 19) (.binOp .eql 3 (.tmp 5) (.const (.int .i64 6)) 3) none,
                      co (some 18) (.assign (.tmp 19)) none] [5, 18])
                  (.cond (.tmp 18)
                    (.seq (.reg [co (some 2) (.assign (.const (.string { data := #[105, 110, 118, 101, 114, 116] }))) none,
                        co (some 3) (.assign (.const (.int .i64 2))) none,
                        co (some 4) (.assign (.const (.int .i64 0))) none] [2, 3, 4])
                    (.ret))
                    (.seq (.reg [co (some 21) (.binOp .eql 3 (.tmp 5) (.const (.int .i64 7)) 3) none,
                        co (some 20) (.assign (.tmp 21)) none] [5, 20])
                    (.cond (.tmp 20)
                      (.seq (.reg [co (some 2) (.assign (.const (.string { data := #[110, 111, 114, 109, 97, 108] }))) none,
                          co (some 3) (.assign (.const (.int .i64 2))) none,
                          co (some 4) (.assign (.const (.int .i64 0))) none] [2, 3, 4])
                      (.ret))
                      (.seq (.reg [co (some 23) (.binOp .eql 3 (.tmp 5) (.const (.int .i64 8)) 3) none,
                          co (some 22) (.assign (.tmp 23)) none] [5, 22])
                      (.cond (.tmp 22)
                        (.seq (.reg [co (some 2) (.assign (.const (.string { data := #[99, 111, 109, 112, 111, 115, 101] }))) none,
                            co (some 3) (.assign (.const (.int .i64 3))) none,
                            co (some 4) (.assign (.const (.int .i64 0))) none] [2, 3, 4])
                        (.ret))
                        (.seq (.reg [co (some 25) (.binOp .eql 3 (.tmp 5) (.const (.int .i64 9)) 3) none,
                            co (some 24) (.assign (.tmp 25)) none] [5, 24])
                        (.cond (.tmp 24)
                          (.seq (.reg [co (some 2) (.assign (.const (.string { data := #[114, 101, 98, 97, 115, 101] }))) none,
                              co (some 3) (.assign (.const (.int .i64 4))) none,
                              co (some 4) (.assign (.const (.int .i64 0))) none] [2, 3, 4])
                          (.ret))
                          (.seq (.reg [co (some 27) (.binOp .eql 3 (.tmp 5) (.const (.int .i64 10)) 3) none,
                              co (some 26) (.assign (.tmp 27)) none] [5, 26])
                          (.cond (.tmp 26)
                            (.seq (.reg [co (some 2) (.assign (.const (.string { data := #[109, 101, 114, 103, 101] }))) none,
                                co (some 3) (.assign (.const (.int .i64 5))) none,
                                co (some 4) (.assign (.const (.int .i64 0))) none] [2, 3, 4])
                            (.ret))
                            (.seq (.reg [co (some 29) (.binOp .eql 3 (.tmp 5) (.const (.int .i64 11)) 3) none,
                                co (some 28) (.assign (.tmp 29)) none] [5, 28])
                            (.cond (.tmp 28)
                              (.seq (.reg [co (some 2) (.assign (.const (.string { data := #[100, 114, 111, 112] }))) none,
                                  co (some 3) (.assign (.const (.int .i64 1))) none,
                                  co (some 4) (.assign (.const (.int .i64 0))) none] [2, 3, 4])
                              (.ret))
                              (.seq (.reg [co (some 31) (.binOp .eql 3 (.tmp 5) (.const (.int .i64 12)) 3) none,
                                  co (some 30) (.assign (.tmp 31)) none] [5, 30])
                              (.cond (.tmp 30)
                                (.seq (.reg [co (some 2) (.assign (.const (.string { data := #[100, 117, 109, 112] }))) none,
                                    co (some 3) (.assign (.const (.int .i64 1))) none,
                                    co (some 4) (.assign (.const (.int .i64 0))) none] [2, 3, 4])
                                (.ret))
                                (.seq (.reg [co (some 33) (.binOp .eql 3 (.tmp 5) (.const (.int .i64 13)) 3) none,
                                    co (some 32) (.assign (.tmp 33)) none] [5, 32])
                                (.cond (.tmp 32)
                                  (.seq (.reg [co (some 2) (.assign (.const (.string { data := #[112, 97, 99, 107] }))) none,
                                      co (some 3) (.assign (.const (.int .i64 1))) none,
                                      co (some 4) (.assign (.const (.int .i64 0))) none] [2, 3, 4])
                                  (.ret))
                                  (.seq (.reg [co (some 35) (.binOp .eql 3 (.tmp 5) (.const (.int .i64 14)) 3) none,
                                      co (some 34) (.assign (.tmp 35)) none] [34])
                                  (.cond (.tmp 34)
                                    (.seq (.reg [co (some 2) (.assign (.const (.string { data := #[115, 104, 111, 119] }))) none,
                                        co (some 3) (.assign (.const (.int .i64 1))) none,
                                        co (some 4) (.assign (.const (.int .i64 0))) none] [2, 3, 4])
                                    (.ret))
                                    (.skip)))))))))))))))))))))))))))))))))
  (.keep [] (.seq (.reg [co (some 2) (.assign (.const (.string { data := #[] }))) none,
      co (some 3) (.assign (.const (.int .i64 0))) none,
      co (some 4) (.assign (.const (.int .i64 0))) none] [2, 3, 4])
  (.ret))))
theorem t_centoref34_Name : Txt Tryd.prog 26 36 [(.tmp 2), (.tmp 3), (.tmp 4)] c_centoref34_Name := txt_of (code := Tryd.f26.body.getD .ret) mixed (by kernel_rfl) Tryd.func26 (by kernel_rfl) Tryd.ntmps26 (by kernel_rfl) (ls := [([0], []), ([], []), ([5], []), ([], []), ([5, 6], []), ([], []), ([2, 3, 4], []), ([], []), ([5, 8], []), ([], []), ([2, 3, 4], []), ([], []), ([5, 10], []), ([], []), ([2, 3, 4], []), ([], []), ([5, 12], []), ([], []), ([2, 3, 4], []), ([], []), ([5, 14], []), ([], []), ([2, 3, 4], []), ([], []), ([5, 16], []), ([], []), ([2, 3, 4], []), ([], []), ([5, 18], []), ([], []), ([2, 3, 4], []), ([], []), ([5, 20], []), ([], []), ([2, 3, 4], []), ([], []), ([5, 22], []), ([], []), ([2, 3, 4], []), ([], []), ([5, 24], []), ([], []), ([2, 3, 4], []), ([], []), ([5, 26], []), ([], []), ([2, 3, 4], []), ([], []), ([5, 28], []), ([], []), ([2, 3, 4], []), ([], []), ([5, 30], []), ([], []), ([2, 3, 4], []), ([], []), ([5, 32], []), ([], []), ([2, 3, 4], []), ([], []), ([34], []), ([], []), ([2, 3, 4], []), ([], []), ([999999], []), ([2, 3, 4], []), ([], [])]) (by kernel_rfl)
def l1_centoref34_Right : CC :=
  .seq (.seq (.reg [co (some 44) (.move (.tmp 6)) none,
        co (some 45) (.move (.tmp 4)) none,
        co (some 46) (.binOp .lss 3 (.tmp 44) (.tmp 45) 3) none] [1, 4, 5, 6, 46])
    (.cond (.tmp 46)
      (.skip)
      (.exit 0)))
  (.keep [1, 4, 5, 6] (.seq (.block 1
      (.seq (.reg [co (some 49) (.fieldAddr 25 (.tmp 1) 1) none,
          co (some 50) (.load 22 (.tmp 49)) none,
          co (some 51) (.move (.tmp 6)) none,
          co (some 52) (.indexAddr 22 (.tmp 50) (.tmp 51)) none,
          co (some 53) (.load 3 (.tmp 52)) none,
          co (some 54) (.binOp .lss 3 (.tmp 53) (.const (.int .i64 0)) 3) none,
          co (some 55) (.move (.tmp 54)) none,
          co (some 56) (.fieldAddr 25 (.tmp 1) 1) (some (55, false)),
          co (some 57) (.load 22 (.tmp 56)) (some (55, false)),
          co (some 58) (.move (.tmp 6)) (some (55, false)),
          co (some 59) (.indexAddr 22 (.tmp 57) (.tmp 58)) (some (55, false)),
          co (some 60) (.load 3 (.tmp 59)) (some (55, false)),
          co (some 61) (.binOp .gtr 3 (.tmp 60) (.const (.int .i64 1073741824)) 3) (some (55, false)),
          co (some 62) (.pick (.tmp 55) (.const (.bool true)) (.tmp 61)) none] [1, 4, 5, 6, 62])
      (.cond (.tmp 62)
        (.seq (.reg [co (some 2) (.assign (.const (.bool false))) none] [2])
        (.ret))
        (.skip))))
  (.keep [1, 4, 5, 6] (.reg [co (some 47) (.move (.tmp 6)) none,
    co (some 48) (.binOp .add 3 (.tmp 47) (.const (.int .i64 1)) 3) none,
    co (some 6) (.assign (.tmp 48)) none] [1, 4, 5, 6]))))
def l2_centoref34_Right : CC :=
  .seq (.seq (.reg [co (some 63) (.move (.tmp 7)) none,
        co (some 64) (.fieldAddr 25 (.tmp 1) 2) none,
        co (some 65) (.load 23 (.tmp 64)) none,
        co (some 66) (.call { callee := (.builtin .len), args := #[(.tmp 65)], argTypes := #[23] }) none,
        co (some 67) (.binOp .lss 3 (.tmp 63) (.tmp 66) 3) none] [1, 5, 7, 67])
    (.cond (.tmp 67)
      (.skip)
      (.exit 2)))
  (.keep [1, 5, 7] (.seq (.block 3
      (.seq (.reg [co (some 70) (.move (.tmp 5)) none,
          co (some 71) (.binOp .eql 3 (.tmp 70) (.const (.int .i64 2)) 3) none,
          co (some 72) (.move (.tmp 71)) none,
          co (some 73) (.fieldAddr 25 (.tmp 1) 2) (some (72, true)),
          co (some 74) (.load 23 (.tmp 73)) (some (72, true)),
          co (some 75) (.move (.tmp 7)) (some (72, true)),
          co (some 76) (.indexAddr 23 (.tmp 74) (.tmp 75)) (some (72, true)),
          co (some 77) (.load 5 (.tmp 76)) (some (72, true)),
          co (some 78) (.binOp .lss 5 (.tmp 77) (.const (.int .u8 33)) 5) (some (72, true)),
          co (some 79) (.move (.tmp 78)) (some (72, true)),
          co (some 80) (.fieldAddr 25 (.tmp 1) 2) (some (79, false)),
          co (some 81) (.load 23 (.tmp 80)) (some (79, false)),
          co (some 82) (.move (.tmp 7)) (some (79, false)),
          co (some 83) (.indexAddr 23 (.tmp 81) (.tmp 82)) (some (79, false)),
          co (some 84) (.load 5 (.tmp 83)) (some (79, false)),
          co (some 85) (.binOp .gtr 5 (.tmp 84) (.const (.int .u8 126)) 5) (some (79, false)),
          co (some 86) (.pick (.tmp 79) (.const (.bool true)) (.tmp 85)) (some (72, true)),
          co (some 87) (.pick (.tmp 72) (.tmp 86) (.const (.bool false))) none] [1, 5, 7, 87])
      (.cond (.tmp 87)
        (.seq (.reg [co (some 2) (.assign (.const (.bool false))) none] [2])
        (.ret))
        (.skip))))
  (.keep [1, 5, 7] (.reg [co (some 68) (.move (.tmp 7)) none,
    co (some 69) (.binOp .add 3 (.tmp 68) (.const (.int .i64 1)) 3) none,
    co (some 7) (.assign (.tmp 69)) none] [1, 5, 7]))))
/-- cento/centoref34.Right -/
def c_centoref34_Right : CC :=
  .seq (.reg [cn (some 1) (.box 25 (.tmp 0)) none [0],
      co (some 2) (.assign (.const (.bool false))) none] [1])
  (.seq (.reg [co (some 9) (.fieldAddr 25 (.tmp 1) 0) none,
      co (some 10) (.load 3 (.tmp 9)) none,
      co (some 11) (.call { callee := (.value (.func 26)), args := #[(.tmp 10)], argTypes := #[3] }) none,
      co (some 8) (.move (.tmp 11)) none,
      co (some 12) (.extract (.tmp 8) 0) none,
      co (some 13) (.extract (.tmp 8) 1) none,
      co (some 14) (.extract (.tmp 8) 2) none,
      co (some 3) (.assign (.tmp 12)) none,
      co (some 4) (.assign (.tmp 13)) none,
      co (some 5) (.assign (.tmp 14)) none] [1, 3, 4, 5])
  (.seq (.seq (.reg [co (some 15) (.move (.tmp 3)) none,
        co (some 16) (.binOp .eql 9 (.tmp 15) (.const (.string { data := #[] })) 9) none,
        co (some 17) (.move (.tmp 16)) none,
        co (some 18) (.fieldAddr 25 (.tmp 1) 1) (some (17, false)),
        co (some 19) (.load 22 (.tmp 18)) (some (17, false)),
        co (some 20) (.call { callee := (.builtin .len), args := #[(.tmp 19)], argTypes := #[22] }) (some (17, false)),
        co (some 21) (.move (.tmp 4)) (some (17, false)),
        co (some 22) (.binOp .neq 3 (.tmp 20) (.tmp 21) 3) (some (17, false)),
        co (some 23) (.pick (.tmp 17) (.const (.bool true)) (.tmp 22)) none,
        co (some 24) (.move (.tmp 23)) none,
        co (some 25) (.move (.tmp 5)) (some (24, false)),
        co (some 26) (.binOp .eql 3 (.tmp 25) (.const (.int .i64 0)) 3) (some (24, false)),
        co (some 27) (.move (.tmp 26)) (some (24, false)),
        co (some 28) (.fieldAddr 25 (.tmp 1) 2) (some (27, true)),
        co (some 29) (.load 23 (.tmp 28)) (some (27, true)),
        co (some 30) (.call { callee := (.builtin .len), args := #[(.tmp 29)], argTypes := #[23] }) (some (27, true)),
        co (some 31) (.binOp .gtr 3 (.tmp 30) (.const (.int .i64 0)) 3) (some (27, true)),
        co (some 32) (.pick (.tmp 27) (.tmp 31) (.const (.bool false))) (some (24, false)),
        co (some 33) (.pick (.tmp 24) (.const (.bool true)) (.tmp 32)) none,
        co (some 34) (.move (.tmp 33)) none,
        co (some 35) (.move (.tmp 5)) (some (34, false)),
        co (some 36) (.binOp .eql 3 (.tmp 35) (.const (.int .i64 2)) 3) (some (34, false)),
        co (some 37) (.move (.tmp 36)) (some (34, false)),
        co (some 38) (.fieldAddr 25 (.tmp 1) 2) (some (37, true)),
        co (some 39) (.load 23 (.tmp 38)) (some (37, true)),
        co (some 40) (.call { callee := (.builtin .len), args := #[(.tmp 39)], argTypes := #[23] }) (some (37, true)),
        co (some 41) (.binOp .eql 3 (.tmp 40) (.const (.int .i64 0)) 3) (some (37, true)),
        co (some 42) (.pick (.tmp 37) (.tmp 41) (.const (.bool false))) (some (34, false)),
        co (some 43) (.pick (.tmp 34) (.const (.bool true)) (.tmp 42)) none] [1, 4, 5, 43])
    (.cond (.tmp 43)
      (.seq (.reg [co (some 2) (.assign (.const (.bool false))) none] [2])
      (.ret))
      (.skip)))
  (.keep [1, 4, 5] (.seq (.seq (.reg [co (some 6) (.assign (.const (.int .i64 0))) none] [1, 4, 5, 6])
    (.block 0
      (.loop l1_centoref34_Right)))
  (.keep [1, 5] (.seq (.seq (.reg [co (some 7) (.assign (.const (.int .i64 0))) none] [1, 5, 7])
    (.block 2
      (.loop l2_centoref34_Right)))
  (.keep [] (.seq (.reg [co (some 2) (.assign (.const (.bool true))) none] [2])
  (.ret)))))))))
theorem t_centoref34_Right : Txt Tryd.prog 11 88 [(.tmp 2)] c_centoref34_Right := txt_of (code := Tryd.f11.body.getD .ret) mixed (by kernel_rfl) Tryd.func11 (by kernel_rfl) Tryd.ntmps11 (by kernel_rfl) (ls := [([1], [(0, [0])]), ([], []), ([1, 3, 4, 5], []), ([], []), ([1, 4, 5, 43], []), ([], []), ([2], []), ([], []), ([999999, 1, 4, 5], []), ([1, 4, 5, 6], []), ([], []), ([1, 4, 5, 6, 46], []), ([], []), ([999999, 1, 4, 5, 6], []), ([1, 4, 5, 6, 62], []), ([], []), ([2], []), ([], []), ([999999, 1, 4, 5, 6], []), ([1, 4, 5, 6], []), ([999999, 1, 5], []), ([1, 5, 7], []), ([], []), ([1, 5, 7, 67], []), ([], []), ([999999, 1, 5, 7], []), ([1, 5, 7, 87], []), ([], []), ([2], []), ([], []), ([999999, 1, 5, 7], []), ([1, 5, 7], []), ([999999], []), ([2], []), ([], [])]) (by kernel_rfl)
/-- cento/centoref34.decimal -/
def c_centoref34_decimal : CC :=
  .seq (.reg [co (some 2) (.assign (.const (.string { data := #[] }))) none] [0])
  (.seq (.seq (.reg [co (some 3) (.move (.tmp 0)) none,
        co (some 4) (.binOp .lss 3 (.tmp 3) (.const (.int .i64 10)) 3) none] [0, 4])
    (.cond (.tmp 4)
      (.seq (.reg [co (some 5) (.move (.tmp 0)) none,
          co (some 6) (.move (.tmp 0)) none,
          co (some 7) (.binOp .add 3 (.tmp 6) (.const (.int .i64 1)) 3) none,
          co (some 8) (.slice 9 (.const (.string { data := #[48, 49, 50, 51, 52, 53, 54, 55, 56, 57] })) (some (.tmp 5)) (some (.tmp 7)) none) none,
          co (some 2) (.assign (.tmp 8)) none] [2])
      (.ret))
      (.skip)))
  (.keep [0] (.seq (.reg [co (some 9) (.move (.tmp 0)) none,
      co (some 10) (.binOp .quo 3 (.tmp 9) (.const (.int .i64 10)) 3) none,
      co (some 11) (.call { callee := (.value (.func 27)), args := #[(.tmp 10)], argTypes := #[3] }) none,
      co (some 12) (.move (.tmp 0)) none,
      co (some 13) (.binOp .rem 3 (.tmp 12) (.const (.int .i64 10)) 3) none,
      co (some 14) (.call { callee := (.value (.func 27)), args := #[(.tmp 13)], argTypes := #[3] }) none,
      co (some 15) (.binOp .add 9 (.tmp 11) (.tmp 14) 9) none,
      co (some 2) (.assign (.tmp 15)) none] [2])
  (.ret))))
theorem t_centoref34_decimal : Txt Tryd.prog 27 16 [(.tmp 2)] c_centoref34_decimal := txt_of (code := Tryd.f27.body.getD .ret) mixed (by kernel_rfl) Tryd.func27 (by kernel_rfl) Tryd.ntmps27 (by kernel_rfl) (ls := [([0], []), ([], []), ([0, 4], []), ([], []), ([2], []), ([], []), ([999999, 0], []), ([2], []), ([], [])]) (by kernel_rfl)
def l1_centoref34_Hex : CC :=
  .seq (.seq (.reg [co (some 9) (.move (.tmp 4)) none,
        co (some 10) (.move (.tmp 0)) none,
        co (some 11) (.call { callee := (.builtin .len), args := #[(.tmp 10)], argTypes := #[23] }) none,
        co (some 12) (.binOp .lss 3 (.tmp 9) (.tmp 11) 3) none] [0, 3, 4, 12])
    (.cond (.tmp 12)
      (.skip)
      (.exit 0)))
  (.keep [0, 3, 4] (.seq (.block 1
      (.seq (.reg [co (some 15) (.move (.tmp 0)) none,
          co (some 16) (.move (.tmp 4)) none,
          co (some 17) (.indexAddr 23 (.tmp 15) (.tmp 16)) none,
          co (some 18) (.load 5 (.tmp 17)) none,
          co (some 19) (.convert 5 3 (.tmp 18)) none,
          co (some 5) (.assign (.tmp 19)) none] [0, 3, 4, 5])
      (.reg [co (some 20) (.move (.tmp 3)) none,
        co (some 21) (.move (.tmp 5)) none,
        co (some 22) (.binOp .quo 3 (.tmp 21) (.const (.int .i64 16)) 3) none,
        co (some 23) (.move (.tmp 5)) none,
        co (some 24) (.binOp .quo 3 (.tmp 23) (.const (.int .i64 16)) 3) none,
        co (some 25) (.binOp .add 3 (.tmp 24) (.const (.int .i64 1)) 3) none,
        co (some 26) (.slice 9 (.const (.string { data := #[48, 49, 50, 51, 52, 53, 54, 55, 56, 57, 97, 98, 99, 100, 101, 102] })) (some (.tmp 22)) (some (.tmp 25)) none) none,
        co (some 27) (.binOp .add 9 (.tmp 20) (.tmp 26) 9) none,
        co (some 28) (.move (.tmp 5)) none,
        co (some 29) (.binOp .rem 3 (.tmp 28) (.const (.int .i64 16)) 3) none,
        co (some 30) (.move (.tmp 5)) none,
        co (some 31) (.binOp .rem 3 (.tmp 30) (.const (.int .i64 16)) 3) none,
        co (some 32) (.binOp .add 3 (.tmp 31) (.const (.int .i64 1)) 3) none,
        co (some 33) (.slice 9 (.const (.string { data := #[48, 49, 50, 51, 52, 53, 54, 55, 56, 57, 97, 98, 99, 100, 101, 102] })) (some (.tmp 29)) (some (.tmp 32)) none) none,
        co (some 34) (.binOp .add 9 (.tmp 27) (.tmp 33) 9) none,
        co (some 3) (.assign (.tmp 34)) none] [0, 3, 4])))
  (.reg [co (some 13) (.move (.tmp 4)) none,
    co (some 14) (.binOp .add 3 (.tmp 13) (.const (.int .i64 1)) 3) none,
    co (some 4) (.assign (.tmp 14)) none] [0, 3, 4])))
/-- cento/centoref34.Hex -/
def c_centoref34_Hex : CC :=
  .seq (.reg [co (some 2) (.assign (.const (.string { data := #[] }))) none] [0])
  (.seq (.seq (.reg [co (some 6) (.move (.tmp 0)) none,
        co (some 7) (.call { callee := (.builtin .len), args := #[(.tmp 6)], argTypes := #[23] }) none,
        co (some 8) (.binOp .eql 3 (.tmp 7) (.const (.int .i64 0)) 3) none] [0, 8])
    (.cond (.tmp 8)
      (.seq (.reg [co (some 2) (.assign (.const (.string { data := #[45] }))) none] [2])
      (.ret))
      (.skip)))
  (.keep [0] (.seq (.reg [co (some 3) (.assign (.const (.string { data := #[] }))) none] [0, 3])
  (.seq (.seq (.reg [co (some 4) (.assign (.const (.int .i64 0))) none] [0, 3, 4])
    (.block 0
      (.loop l1_centoref34_Hex)))
  (.keep [3] (.seq (.reg [co (some 35) (.move (.tmp 3)) none,
      co (some 2) (.assign (.tmp 35)) none] [2])
  (.ret)))))))
theorem t_centoref34_Hex : Txt Tryd.prog 18 36 [(.tmp 2)] c_centoref34_Hex := txt_of (code := Tryd.f18.body.getD .ret) mixed (by kernel_rfl) Tryd.func18 (by kernel_rfl) Tryd.ntmps18 (by kernel_rfl) (ls := [([0], []), ([], []), ([0, 8], []), ([], []), ([2], []), ([], []), ([999999, 0], []), ([0, 3], []), ([], []), ([0, 3, 4], []), ([], []), ([0, 3, 4, 12], []), ([], []), ([999999, 0, 3, 4], []), ([0, 3, 4, 5], []), ([], []), ([0, 3, 4], []), ([], []), ([0, 3, 4], []), ([999999, 3], []), ([2], []), ([], [])]) (by kernel_rfl)
def l1_centoref34_digit : CC :=
  .seq (.seq (.reg [co (some 4) (.move (.tmp 3)) none,
        co (some 5) (.binOp .lss 3 (.tmp 4) (.const (.int .i64 16)) 3) none] [0, 3, 5])
    (.cond (.tmp 5)
      (.skip)
      (.exit 0)))
  (.keep [0, 3] (.seq (.block 1
      (.seq (.reg [co (some 8) (.move (.tmp 3)) none,
          co (some 9) (.index 9 (.const (.string { data := #[48, 49, 50, 51, 52, 53, 54, 55, 56, 57, 97, 98, 99, 100, 101, 102] })) (.tmp 8)) none,
          co (some 10) (.move (.tmp 0)) none,
          co (some 11) (.binOp .eql 5 (.tmp 9) (.tmp 10) 5) none] [0, 3, 11])
      (.cond (.tmp 11)
        (.seq (.reg [co (some 12) (.move (.tmp 3)) none,
            co (some 2) (.assign (.tmp 12)) none] [2])
        (.ret))
        (.skip))))
  (.keep [0, 3] (.reg [co (some 6) (.move (.tmp 3)) none,
    co (some 7) (.binOp .add 3 (.tmp 6) (.const (.int .i64 1)) 3) none,
    co (some 3) (.assign (.tmp 7)) none] [0, 3]))))
/-- cento/centoref34.digit -/
def c_centoref34_digit : CC :=
  .seq (.reg [co (some 2) (.assign (.const (.int .i64 0))) none] [0])
  (.seq (.seq (.reg [co (some 3) (.assign (.const (.int .i64 0))) none] [0, 3])
    (.block 0
      (.loop l1_centoref34_digit)))
  (.keep [] (.seq (.reg [co (some 2) (.assign (.const (.int .i64 (-1)))) none] [2])
  (.ret))))
theorem t_centoref34_digit : Txt Tryd.prog 40 13 [(.tmp 2)] c_centoref34_digit := txt_of (code := Tryd.f40.body.getD .ret) mixed (by kernel_rfl) Tryd.func40 (by kernel_rfl) Tryd.ntmps40 (by kernel_rfl) (ls := [([0], []), ([], []), ([0, 3], []), ([], []), ([0, 3, 5], []), ([], []), ([999999, 0, 3], []), ([0, 3, 11], []), ([], []), ([2], []), ([], []), ([999999, 0, 3], []), ([0, 3], []), ([999999], []), ([2], []), ([], [])]) (by kernel_rfl)
def l1_centoref34_Unhex : CC :=
  .seq (.seq (.reg [co (some 18) (.move (.tmp 5)) none,
        co (some 19) (.move (.tmp 0)) none,
        co (some 20) (.call { callee := (.builtin .len), args := #[(.tmp 19)], argTypes := #[9] }) none,
        co (some 21) (.binOp .lss 3 (.tmp 18) (.tmp 20) 3) none] [0, 4, 5, 21])
    (.cond (.tmp 21)
      (.skip)
      (.exit 0)))
  (.keep [0, 4, 5] (.seq (.block 1
      (.seq (.seq (.reg [co (some 24) (.move (.tmp 0)) none,
            co (some 25) (.move (.tmp 5)) none,
            co (some 26) (.index 9 (.tmp 24) (.tmp 25)) none,
            co (some 27) (.call { callee := (.value (.func 40)), args := #[(.tmp 26)], argTypes := #[5] }) none,
            co (some 28) (.binOp .lss 3 (.tmp 27) (.const (.int .i64 0)) 3) none,
            co (some 29) (.move (.tmp 28)) none,
            co (some 30) (.move (.tmp 0)) (some (29, false)),
            co (some 31) (.move (.tmp 5)) (some (29, false)),
            co (some 32) (.binOp .add 3 (.tmp 31) (.const (.int .i64 1)) 3) (some (29, false)),
            co (some 33) (.index 9 (.tmp 30) (.tmp 32)) (some (29, false)),
            co (some 34) (.call { callee := (.value (.func 40)), args := #[(.tmp 33)], argTypes := #[5] }) (some (29, false)),
            co (some 35) (.binOp .lss 3 (.tmp 34) (.const (.int .i64 0)) 3) (some (29, false)),
            co (some 36) (.pick (.tmp 29) (.const (.bool true)) (.tmp 35)) none] [0, 4, 5, 36])
        (.cond (.tmp 36)
          (.seq (.reg [co (some 2) (.assign (.const (.slice none 0 0))) none,
              co (some 3) (.assign (.const (.bool false))) none] [2, 3])
          (.ret))
          (.skip)))
      (.keep [0, 4, 5] (.reg [co (some 37) (.move (.tmp 4)) none,
        co (some 38) (.move (.tmp 0)) none,
        co (some 39) (.move (.tmp 5)) none,
        co (some 40) (.index 9 (.tmp 38) (.tmp 39)) none,
        co (some 41) (.call { callee := (.value (.func 40)), args := #[(.tmp 40)], argTypes := #[5] }) none,
        co (some 42) (.binOp .mul 3 (.const (.int .i64 16)) (.tmp 41) 3) none,
        co (some 43) (.move (.tmp 0)) none,
        co (some 44) (.move (.tmp 5)) none,
        co (some 45) (.binOp .add 3 (.tmp 44) (.const (.int .i64 1)) 3) none,
        co (some 46) (.index 9 (.tmp 43) (.tmp 45)) none,
        co (some 47) (.call { callee := (.value (.func 40)), args := #[(.tmp 46)], argTypes := #[5] }) none,
        co (some 48) (.binOp .add 3 (.tmp 42) (.tmp 47) 3) none,
        co (some 49) (.convert 3 5 (.tmp 48)) none,
        co (some 50) (.buildSlice 23 1 #[(0, (.tmp 49))]) none,
        cn (some 51) (.call { callee := (.builtin .append), args := #[(.tmp 37), (.tmp 50)], argTypes := #[23, 23] }) none [0],
        co (some 4) (.assign (.tmp 51)) none] [0, 4, 5]))))
  (.keep [0, 4, 5] (.reg [co (some 22) (.move (.tmp 5)) none,
    co (some 23) (.binOp .add 3 (.tmp 22) (.const (.int .i64 2)) 3) none,
    co (some 5) (.assign (.tmp 23)) none] [0, 4, 5]))))
/-- cento/centoref34.Unhex -/
def c_centoref34_Unhex : CC :=
  .seq (.reg [co (some 2) (.assign (.const (.slice none 0 0))) none,
      co (some 3) (.assign (.const (.bool false))) none] [0])
  (.seq (.reg [co (some 4) (.assign (.const (.slice none 0 0))) none] [0, 4])
  (.seq (.seq (.reg [co (some 6) (.move (.tmp 0)) none,
        co (some 7) (.binOp .eql 9 (.tmp 6) (.const (.string { data := #[45] })) 9) none] [0, 4, 7])
    (.cond (.tmp 7)
      (.seq (.reg [co (some 8) (.move (.tmp 4)) none,
          co (some 2) (.assign (.tmp 8)) none,
          co (some 3) (.assign (.const (.bool true))) none] [2, 3])
      (.ret))
      (.skip)))
  (.keep [0, 4] (.seq (.seq (.reg [co (some 9) (.move (.tmp 0)) none,
        co (some 10) (.call { callee := (.builtin .len), args := #[(.tmp 9)], argTypes := #[9] }) none,
        co (some 11) (.binOp .eql 3 (.tmp 10) (.const (.int .i64 0)) 3) none,
        co (some 12) (.move (.tmp 11)) none,
        co (some 13) (.move (.tmp 0)) (some (12, false)),
        co (some 14) (.call { callee := (.builtin .len), args := #[(.tmp 13)], argTypes := #[9] }) (some (12, false)),
        co (some 15) (.binOp .rem 3 (.tmp 14) (.const (.int .i64 2)) 3) (some (12, false)),
        co (some 16) (.binOp .gtr 3 (.tmp 15) (.const (.int .i64 0)) 3) (some (12, false)),
        co (some 17) (.pick (.tmp 12) (.const (.bool true)) (.tmp 16)) none] [0, 4, 17])
    (.cond (.tmp 17)
      (.seq (.reg [co (some 2) (.assign (.const (.slice none 0 0))) none,
          co (some 3) (.assign (.const (.bool false))) none] [2, 3])
      (.ret))
      (.skip)))
  (.keep [0, 4] (.seq (.seq (.reg [co (some 5) (.assign (.const (.int .i64 0))) none] [0, 4, 5])
    (.block 0
      (.loop l1_centoref34_Unhex)))
  (.keep [4] (.seq (.reg [co (some 52) (.move (.tmp 4)) none,
      co (some 2) (.assign (.tmp 52)) none,
      co (some 3) (.assign (.const (.bool true))) none] [2, 3])
  (.ret)))))))))
theorem t_centoref34_Unhex : Txt Tryd.prog 17 53 [(.tmp 2), (.tmp 3)] c_centoref34_Unhex := txt_of (code := Tryd.f17.body.getD .ret) mixed (by kernel_rfl) Tryd.func17 (by kernel_rfl) Tryd.ntmps17 (by kernel_rfl) (ls := [([0], []), ([], []), ([0, 4], []), ([], []), ([0, 4, 7], []), ([], []), ([2, 3], []), ([], []), ([999999, 0, 4], []), ([0, 4, 17], []), ([], []), ([2, 3], []), ([], []), ([999999, 0, 4], []), ([0, 4, 5], []), ([], []), ([0, 4, 5, 21], []), ([], []), ([999999, 0, 4, 5], []), ([0, 4, 5, 36], []), ([], []), ([2, 3], []), ([], []), ([999999, 0, 4, 5], []), ([0, 4, 5], [(14, [0])]), ([999999, 0, 4, 5], []), ([0, 4, 5], []), ([999999, 4], []), ([2, 3], []), ([], [])]) (by kernel_rfl)
def l1_centoref34_Print : CC :=
  .seq (.seq (.reg [co (some 17) (.move (.tmp 6)) none,
        co (some 18) (.move (.tmp 4)) none,
        co (some 19) (.binOp .lss 3 (.tmp 17) (.tmp 18) 3) none] [1, 3, 4, 5, 6, 19])
    (.cond (.tmp 19)
      (.skip)
      (.exit 0)))
  (.keep [1, 3, 4, 5, 6] (.seq (.block 1
      (.reg [co (some 22) (.move (.tmp 3)) none,
        co (some 23) (.binOp .add 9 (.tmp 22) (.const (.string { data := #[32] })) 9) none,
        co (some 24) (.fieldAddr 25 (.tmp 1) 1) none,
        co (some 25) (.load 22 (.tmp 24)) none,
        co (some 26) (.move (.tmp 6)) none,
        co (some 27) (.indexAddr 22 (.tmp 25) (.tmp 26)) none,
        co (some 28) (.load 3 (.tmp 27)) none,
        co (some 29) (.call { callee := (.value (.func 27)), args := #[(.tmp 28)], argTypes := #[3] }) none,
        co (some 30) (.binOp .add 9 (.tmp 23) (.tmp 29) 9) none,
        co (some 3) (.assign (.tmp 30)) none] [1, 3, 4, 5, 6]))
  (.reg [co (some 20) (.move (.tmp 6)) none,
    co (some 21) (.binOp .add 3 (.tmp 20) (.const (.int .i64 1)) 3) none,
    co (some 6) (.assign (.tmp 21)) none] [1, 3, 4, 5, 6])))
def k1_centoref34_Print : CC :=
  .seq (.seq (.reg [co (some 39) (.move (.tmp 5)) none,
        co (some 40) (.binOp .eql 3 (.tmp 39) (.const (.int .i64 2)) 3) none] [1, 3, 40])
    (.cond (.tmp 40)
      (.reg [co (some 41) (.move (.tmp 3)) none,
        co (some 42) (.binOp .add 9 (.tmp 41) (.const (.string { data := #[32] })) 9) none,
        co (some 43) (.fieldAddr 25 (.tmp 1) 2) none,
        co (some 44) (.load 23 (.tmp 43)) none,
        co (some 45) (.convert 23 9 (.tmp 44)) none,
        co (some 46) (.binOp .add 9 (.tmp 42) (.tmp 45) 9) none,
        co (some 3) (.assign (.tmp 46)) none] [3])
      (.skip)))
  (.keep [3] (.seq (.reg [co (some 47) (.move (.tmp 3)) none,
      co (some 2) (.assign (.tmp 47)) none] [2])
  (.ret)))
/-- cento/centoref34.Print -/
def c_centoref34_Print : CC :=
  .seq (.reg [cn (some 1) (.box 25 (.tmp 0)) none [0],
      co (some 2) (.assign (.const (.string { data := #[] }))) none] [1])
  (.seq (.seq (.reg [co (some 7) (.load 25 (.tmp 1)) none,
        co (some 8) (.call { callee := (.value (.func 11)), args := #[(.tmp 7)], argTypes := #[25] }) none,
        co (some 9) (.unOp .not 4 (.tmp 8)) none] [1, 9])
    (.cond (.tmp 9)
      (.seq (.reg [co (some 2) (.assign (.const (.string { data := #[] }))) none] [2])
      (.ret))
      (.skip)))
  (.keep [1] (.seq (.reg [co (some 11) (.fieldAddr 25 (.tmp 1) 0) none,
      co (some 12) (.load 3 (.tmp 11)) none,
      co (some 13) (.call { callee := (.value (.func 26)), args := #[(.tmp 12)], argTypes := #[3] }) none,
      co (some 10) (.move (.tmp 13)) none,
      co (some 14) (.extract (.tmp 10) 0) none,
      co (some 15) (.extract (.tmp 10) 1) none,
      co (some 16) (.extract (.tmp 10) 2) none,
      co (some 3) (.assign (.tmp 14)) none,
      co (some 4) (.assign (.tmp 15)) none,
      co (some 5) (.assign (.tmp 16)) none] [1, 3, 4, 5])
  (.seq (.seq (.reg [co (some 6) (.assign (.const (.int .i64 0))) none] [1, 3, 4, 5, 6])
    (.block 0
      (.loop l1_centoref34_Print)))
  (.keep [1, 3, 5] (.seq (.seq (.reg [co (some 31) (.move (.tmp 5)) none,
        co (some 32) (.binOp .eql 3 (.tmp 31) (.const (.int .i64 1)) 3) none] [1, 3, 5, 32])
    (.cond (.tmp 32)
      (.reg [co (some 33) (.move (.tmp 3)) none,
        co (some 34) (.binOp .add 9 (.tmp 33) (.const (.string { data := #[32] })) 9) none,
        co (some 35) (.fieldAddr 25 (.tmp 1) 2) none,
        co (some 36) (.load 23 (.tmp 35)) none,
        co (some 37) (.call { callee := (.value (.func 18)), args := #[(.tmp 36)], argTypes := #[23] }) none,
        co (some 38) (.binOp .add 9 (.tmp 34) (.tmp 37) 9) none,
        co (some 3) (.assign (.tmp 38)) none] [1, 3, 5])
      (.skip)))
  (.keep [1, 3, 5] k1_centoref34_Print)))))))
theorem t_centoref34_Print : Txt Tryd.prog 9 48 [(.tmp 2)] c_centoref34_Print := txt_of (code := Tryd.f9.body.getD .ret) mixed (by kernel_rfl) Tryd.func9 (by kernel_rfl) Tryd.ntmps9 (by kernel_rfl) (ls := [([1], [(0, [0])]), ([], []), ([1, 9], []), ([], []), ([2], []), ([], []), ([999999, 1], []), ([1, 3, 4, 5], []), ([], []), ([1, 3, 4, 5, 6], []), ([], []), ([1, 3, 4, 5, 6, 19], []), ([], []), ([999999, 1, 3, 4, 5, 6], []), ([1, 3, 4, 5, 6], []), ([], []), ([1, 3, 4, 5, 6], []), ([999999, 1, 3, 5], []), ([1, 3, 5, 32], []), ([], []), ([1, 3, 5], []), ([999999, 1, 3, 5], []), ([1, 3, 40], []), ([], []), ([3], []), ([999999, 3], []), ([2], []), ([], [])]) (by kernel_rfl)
def l1_centoref34_words : CC :=
  .seq (.seq (.reg [co (some 6) (.move (.tmp 5)) none,
        co (some 7) (.move (.tmp 0)) none,
        co (some 8) (.call { callee := (.builtin .len), args := #[(.tmp 7)], argTypes := #[9] }) none,
        co (some 9) (.binOp .leq 3 (.tmp 6) (.tmp 8) 3) none] [0, 3, 4, 5, 9])
    (.cond (.tmp 9)
      (.skip)
      (.exit 0)))
  (.keep [0, 3, 4, 5] (.seq (.block 1
      (.seq (.reg [co (some 12) (.move (.tmp 5)) none,
          co (some 13) (.move (.tmp 0)) none,
          co (some 14) (.call { callee := (.builtin .len), args := #[(.tmp 13)], argTypes := #[9] }) none,
          co (some 15) (.binOp .eql 3 (.tmp 12) (.tmp 14) 3) none,
          co (some 16) (.move (.tmp 15)) none,
          co (some 17) (.move (.tmp 0)) (some (16, false)),
          co (some 18) (.move (.tmp 5)) (some (16, false)),
          co (some 19) (.index 9 (.tmp 17) (.tmp 18)) (some (16, false)),
          co (some 20) (.binOp .eql 5 (.tmp 19) (.const (.int .u8 32)) 5) (some (16, false)),
          co (some 21) (.pick (.tmp 16) (.const (.bool true)) (.tmp 20)) none] [0, 3, 4, 5, 21])
      (.cond (.tmp 21)
        (.seq (.reg [co (some 22) (.move (.tmp 3)) none,
            co (some 23) (.move (.tmp 0)) none,
            co (some 24) (.move (.tmp 4)) none,
            co (some 25) (.move (.tmp 5)) none,
            co (some 26) (.slice 9 (.tmp 23) (some (.tmp 24)) (some (.tmp 25)) none) none,
            co (some 27) (.buildSlice 45 1 #[(0, (.tmp 26))]) none,
            cn (some 28) (.call { callee := (.builtin .append), args := #[(.tmp 22), (.tmp 27)], argTypes := #[45, 45] }) none [0],
            co (some 3) (.assign (.tmp 28)) none] [0, 3, 5])
        (.reg [co (some 29) (.move (.tmp 5)) none,
          co (some 30) (.binOp .add 3 (.tmp 29) (.const (.int .i64 1)) 3) none,
          co (some 4) (.assign (.tmp 30)) none] [0, 3, 4, 5]))
        (.skip))))
  (.keep [0, 3, 4, 5] (.reg [co (some 10) (.move (.tmp 5)) none,
    co (some 11) (.binOp .add 3 (.tmp 10) (.const (.int .i64 1)) 3) none,
    co (some 5) (.assign (.tmp 11)) none] [0, 3, 4, 5]))))
/-- cento/centoref34.words -/
def c_centoref34_words : CC :=
  .seq (.reg [co (some 2) (.assign (.const (.slice none 0 0))) none] [0])
  (.seq (.reg [co (some 3) (.assign (.const (.slice none 0 0))) none] [0, 3])
  (.seq (.reg [co (some 4) (.assign (.const (.int .i64 0))) none] [0, 3, 4])
  (.seq (.seq (.reg [co (some 5) (.assign (.const (.int .i64 0))) none] [0, 3, 4, 5])
    (.block 0
      (.loop l1_centoref34_words)))
  (.keep [3] (.seq (.reg [co (some 31) (.move (.tmp 3)) none,
      co (some 2) (.assign (.tmp 31)) none] [2])
  (.ret))))))
theorem t_centoref34_words : Txt Tryd.prog 35 32 [(.tmp 2)] c_centoref34_words := txt_of (code := Tryd.f35.body.getD .ret) mixed (by kernel_rfl) Tryd.func35 (by kernel_rfl) Tryd.ntmps35 (by kernel_rfl) (ls := [([0], []), ([], []), ([0, 3], []), ([], []), ([0, 3, 4], []), ([], []), ([0, 3, 4, 5], []), ([], []), ([0, 3, 4, 5, 9], []), ([], []), ([999999, 0, 3, 4, 5], []), ([0, 3, 4, 5, 21], []), ([], []), ([0, 3, 5], [(6, [0])]), ([], []), ([0, 3, 4, 5], []), ([999999, 0, 3, 4, 5], []), ([0, 3, 4, 5], []), ([999999, 3], []), ([2], []), ([], [])]) (by kernel_rfl)
def l1_centoref34_number : CC :=
  .seq (.seq (.reg [co (some 23) (.move (.tmp 4)) none,
        co (some 24) (.move (.tmp 0)) none,
        co (some 25) (.call { callee := (.builtin .len), args := #[(.tmp 24)], argTypes := #[9] }) none,
        co (some 26) (.binOp .lss 3 (.tmp 23) (.tmp 25) 3) none] [0, 3, 4, 26])
    (.cond (.tmp 26)
      (.skip)
      (.exit 0)))
  (.keep [0, 3, 4] (.seq (.block 1
      (.seq (.seq (.reg [co (some 29) (.move (.tmp 0)) none,
            co (some 30) (.move (.tmp 4)) none,
            co (some 31) (.index 9 (.tmp 29) (.tmp 30)) none,
            co (some 32) (.binOp .lss 5 (.tmp 31) (.const (.int .u8 48)) 5) none,
            co (some 33) (.move (.tmp 32)) none,
            co (some 34) (.move (.tmp 0)) (some (33, false)),
            co (some 35) (.move (.tmp 4)) (some (33, false)),
            co (some 36) (.index 9 (.tmp 34) (.tmp 35)) (some (33, false)),
            co (some 37) (.binOp .gtr 5 (.tmp 36) (.const (.int .u8 57)) 5) (some (33, false)),
            co (some 38) (.pick (.tmp 33) (.const (.bool true)) (.tmp 37)) none] [0, 3, 4, 38])
        (.cond (.tmp 38)
          (.seq (.reg [co (some 2) (.assign (.const (.int .i64 (-1)))) none] [2])
          (.ret))
          (.skip)))
      (.keep [0, 3, 4] (.reg [co (some 39) (.move (.tmp 3)) none,
        co (some 40) (.binOp .mul 3 (.const (.int .i64 10)) (.tmp 39) 3) none,
        co (some 41) (.move (.tmp 0)) none,
        co (some 42) (.move (.tmp 4)) none,
        co (some 43) (.index 9 (.tmp 41) (.tmp 42)) none,
        co (some 44) (.binOp .sub 5 (.tmp 43) (.const (.int .u8 48)) 5) none,
        co (some 45) (.convert 5 3 (.tmp 44)) none,
        co (some 46) (.binOp .add 3 (.tmp 40) (.tmp 45) 3) none,
        co (some 3) (.assign (.tmp 46)) none] [0, 3, 4]))))
  (.keep [0, 3, 4] (.reg [co (some 27) (.move (.tmp 4)) none,
    co (some 28) (.binOp .add 3 (.tmp 27) (.const (.int .i64 1)) 3) none,
    co (some 4) (.assign (.tmp 28)) none] [0, 3, 4]))))
/-- cento/centoref34.number -/
def c_centoref34_number : CC :=
  .seq (.reg [co (some 2) (.assign (.const (.int .i64 0))) none] [0])
  (.seq (.seq (.reg [co (some 5) (.move (.tmp 0)) none,
        co (some 6) (.call { callee := (.builtin .len), args := #[(.tmp 5)], argTypes := #[9] }) none,
        co (some 7) (.binOp .eql 3 (.tmp 6) (.const (.int .i64 0)) 3) none,
        co (some 8) (.move (.tmp 7)) none,
        co (some 9) (.move (.tmp 0)) (some (8, false)),
        co (some 10) (.call { callee := (.builtin .len), args := #[(.tmp 9)], argTypes := #[9] }) (some (8, false)),
        co (some 11) (.binOp .gtr 3 (.tmp 10) (.const (.int .i64 10)) 3) (some (8, false)),
        co (some 12) (.pick (.tmp 8) (.const (.bool true)) (.tmp 11)) none,
        co (some 13) (.move (.tmp 12)) none,
        co (some 14) (.move (.tmp 0)) (some (13, false)),
        co (some 15) (.call { callee := (.builtin .len), args := #[(.tmp 14)], argTypes := #[9] }) (some (13, false)),
        co (some 16) (.binOp .gtr 3 (.tmp 15) (.const (.int .i64 1)) 3) (some (13, false)),
        co (some 17) (.move (.tmp 16)) (some (13, false)),
        co (some 18) (.move (.tmp 0)) (some (17, true)),
        co (some 19) (.index 9 (.tmp 18) (.const (.int .i64 0))) (some (17, true)),
        co (some 20) (.binOp .eql 5 (.tmp 19) (.const (.int .u8 48)) 5) (some (17, true)),
        co (some 21) (.pick (.tmp 17) (.tmp 20) (.const (.bool false))) (some (13, false)),
        co (some 22) (.pick (.tmp 13) (.const (.bool true)) (.tmp 21)) none] [0, 22])
    (.cond (.tmp 22)
      (.seq (.reg [co (some 2) (.assign (.const (.int .i64 (-1)))) none] [2])
      (.ret))
      (.skip)))
  (.keep [0] (.seq (.reg [co (some 3) (.assign (.const (.int .i64 0))) none] [0, 3])
  (.seq (.seq (.reg [co (some 4) (.assign (.const (.int .i64 0))) none] [0, 3, 4])
    (.block 0
      (.loop l1_centoref34_number)))
  (.keep [3] (.seq (.reg [co (some 47) (.move (.tmp 3)) none,
      co (some 2) (.assign (.tmp 47)) none] [2])
  (.ret)))))))
theorem t_centoref34_number : Txt Tryd.prog 36 48 [(.tmp 2)] c_centoref34_number := txt_of (code := Tryd.f36.body.getD .ret) mixed (by kernel_rfl) Tryd.func36 (by kernel_rfl) Tryd.ntmps36 (by kernel_rfl) (ls := [([0], []), ([], []), ([0, 22], []), ([], []), ([2], []), ([], []), ([999999, 0], []), ([0, 3], []), ([], []), ([0, 3, 4], []), ([], []), ([0, 3, 4, 26], []), ([], []), ([999999, 0, 3, 4], []), ([0, 3, 4, 38], []), ([], []), ([2], []), ([], []), ([999999, 0, 3, 4], []), ([0, 3, 4], []), ([999999, 0, 3, 4], []), ([0, 3, 4], []), ([999999, 3], []), ([2], []), ([], [])]) (by kernel_rfl)
def l1_centoref34_Parse : CC :=
  .seq (.seq (.reg [co (some 53) (.move (.tmp 10)) none,
        co (some 54) (.move (.tmp 7)) none,
        co (some 55) (.binOp .lss 3 (.tmp 53) (.tmp 54) 3) none] [2, 4, 5, 7, 8, 9, 10, 55])
    (.cond (.tmp 55)
      (.skip)
      (.exit 2)))
  (.keep [2, 4, 5, 7, 8, 9, 10] (.seq (.block 3
      (.reg [co (some 58) (.fieldAddr 25 (.tmp 9) 1) none,
        ⟨some 59, (.load 22 (.tmp 58)), none, [], 1, [], true⟩,
        co (some 60) (.move (.tmp 4)) none,
        co (some 61) (.move (.tmp 10)) none,
        co (some 62) (.binOp .add 3 (.tmp 61) (.const (.int .i64 1)) 3) none,
        co (some 63) (.indexAddr 45 (.tmp 60) (.tmp 62)) none,
        co (some 64) (.load 9 (.tmp 63)) none,
        ⟨some 65, (.call { callee := (.value (.func 36)), args := #[(.tmp 64)], argTypes := #[9] }), none, [], 7, [1], false⟩,
        ⟨some 66, (.buildSlice 22 1 #[(0, (.tmp 65))]), none, [], 8, [1], false⟩,
        cn (some 67) (.call { callee := (.builtin .append), args := #[(.tmp 59), (.tmp 66)], argTypes := #[22, 22] }) none [2],
        co (some 68) (.fieldAddr 25 (.tmp 9) 1) none,
        co none (.store 22 (.tmp 68) (.tmp 67)) none] [2, 4, 5, 7, 8, 9, 10]))
  (.reg [co (some 56) (.move (.tmp 10)) none,
    co (some 57) (.binOp .add 3 (.tmp 56) (.const (.int .i64 1)) 3) none,
    co (some 10) (.assign (.tmp 57)) none] [2, 4, 5, 7, 8, 9, 10])))
def k1_centoref34_Parse : CC :=
  .seq (.reg [co (some 90) (.move (.tmp 11)) none,
      co (some 91) (.move (.tmp 90)) none,
      co (some 92) (.load 25 (.tmp 9)) (some (91, true)),
      co (some 93) (.call { callee := (.value (.func 11)), args := #[(.tmp 92)], argTypes := #[25] }) (some (91, true)),
      co (some 94) (.pick (.tmp 91) (.tmp 93) (.const (.bool false))) none] [2, 4, 5, 9, 94])
  (.cond (.tmp 94)
    (.seq (.reg [co (some 95) (.load 25 (.tmp 9)) none,
        co none (.store 25 (.tmp 2) (.tmp 95)) none,
        co (some 3) (.assign (.const (.bool true))) none] [2, 3])
    (.ret))
    (.skip))
def k2_centoref34_Parse : CC :=
  .seq (.seq (.reg [co (some 81) (.move (.tmp 8)) none,
        co (some 82) (.binOp .eql 3 (.tmp 81) (.const (.int .i64 2)) 3) none] [2, 4, 5, 7, 9, 11, 82])
    (.cond (.tmp 82)
      (.reg [co (some 83) (.move (.tmp 4)) none,
        co (some 84) (.move (.tmp 7)) none,
        co (some 85) (.binOp .add 3 (.tmp 84) (.const (.int .i64 1)) 3) none,
        co (some 86) (.indexAddr 45 (.tmp 83) (.tmp 85)) none,
        co (some 87) (.load 9 (.tmp 86)) none,
        co (some 88) (.convert 9 23 (.tmp 87)) none,
        co (some 89) (.fieldAddr 25 (.tmp 9) 2) none,
        co none (.store 23 (.tmp 89) (.tmp 88)) none] [2, 4, 5, 9, 11])
      (.skip)))
  (.keep [2, 4, 5, 9, 11] k1_centoref34_Parse)
def l2_centoref34_Parse : CC :=
  .seq (.seq (.reg [co (some 14) (.move (.tmp 5)) none,
        co (some 15) (.binOp .lss 3 (.tmp 14) (.const (.int .i64 15)) 3) none] [2, 4, 5, 15])
    (.cond (.tmp 15)
      (.skip)
      (.exit 0)))
  (.keep [2, 4, 5] (.seq (.block 1
      (.seq (.reg [co (some 19) (.move (.tmp 5)) none,
          co (some 20) (.call { callee := (.value (.func 26)), args := #[(.tmp 19)], argTypes := #[3] }) none,
          co (some 18) (.move (.tmp 20)) none,
          co (some 21) (.extract (.tmp 18) 0) none,
          co (some 22) (.extract (.tmp 18) 1) none,
          co (some 23) (.extract (.tmp 18) 2) none,
          co (some 6) (.assign (.tmp 21)) none,
          co (some 7) (.assign (.tmp 22)) none,
          co (some 8) (.assign (.tmp 23)) none] [2, 4, 5, 6, 7, 8])
      (.seq (.seq (.reg [co (some 24) (.move (.tmp 4)) none,
            co (some 25) (.indexAddr 45 (.tmp 24) (.const (.int .i64 0))) none,
            co (some 26) (.load 9 (.tmp 25)) none,
            co (some 27) (.move (.tmp 6)) none,
            co (some 28) (.binOp .neq 9 (.tmp 26) (.tmp 27) 9) none,
            co (some 29) (.move (.tmp 28)) none,
            co (some 30) (.move (.tmp 8)) (some (29, false)),
            co (some 31) (.binOp .eql 3 (.tmp 30) (.const (.int .i64 0)) 3) (some (29, false)),
            co (some 32) (.move (.tmp 31)) (some (29, false)),
            co (some 33) (.move (.tmp 4)) (some (32, true)),
            co (some 34) (.call { callee := (.builtin .len), args := #[(.tmp 33)], argTypes := #[45] }) (some (32, true)),
            co (some 35) (.move (.tmp 7)) (some (32, true)),
            co (some 36) (.binOp .add 3 (.tmp 35) (.const (.int .i64 1)) 3) (some (32, true)),
            co (some 37) (.binOp .neq 3 (.tmp 34) (.tmp 36) 3) (some (32, true)),
            co (some 38) (.pick (.tmp 32) (.tmp 37) (.const (.bool false))) (some (29, false)),
            co (some 39) (.pick (.tmp 29) (.const (.bool true)) (.tmp 38)) none,
            co (some 40) (.move (.tmp 39)) none,
            co (some 41) (.move (.tmp 8)) (some (40, false)),
            co (some 42) (.binOp .gtr 3 (.tmp 41) (.const (.int .i64 0)) 3) (some (40, false)),
            co (some 43) (.move (.tmp 42)) (some (40, false)),
            co (some 44) (.move (.tmp 4)) (some (43, true)),
            co (some 45) (.call { callee := (.builtin .len), args := #[(.tmp 44)], argTypes := #[45] }) (some (43, true)),
            co (some 46) (.move (.tmp 7)) (some (43, true)),
            co (some 47) (.binOp .add 3 (.tmp 46) (.const (.int .i64 2)) 3) (some (43, true)),
            co (some 48) (.binOp .neq 3 (.tmp 45) (.tmp 47) 3) (some (43, true)),
            co (some 49) (.pick (.tmp 43) (.tmp 48) (.const (.bool false))) (some (40, false)),
            co (some 50) (.pick (.tmp 40) (.const (.bool true)) (.tmp 49)) none] [2, 4, 5, 7, 8, 50])
        (.cond (.tmp 50)
          (.exit 1)
          (.skip)))
      (.keep [2, 4, 5, 7, 8] (.seq (.reg [co (some 51) (.move (.tmp 5)) none,
          co (some 52) (.build 25 #[(0, (.tmp 51))]) none,
          cn (some 9) (.alloc 25) none [1],
          co none (.store 25 (.tmp 9) (.tmp 52)) none] [2, 4, 5, 7, 8, 9])
      (.seq (.seq (.reg [co (some 10) (.assign (.const (.int .i64 0))) none] [2, 4, 5, 7, 8, 9, 10])
        (.block 2
          (.loop l1_centoref34_Parse)))
      (.keep [2, 4, 5, 7, 8, 9] (.seq (.reg [co (some 11) (.assign (.const (.bool true))) none] [2, 4, 5, 7, 8, 9, 11])
      (.seq (.seq (.reg [co (some 69) (.move (.tmp 8)) none,
            co (some 70) (.binOp .eql 3 (.tmp 69) (.const (.int .i64 1)) 3) none] [2, 4, 5, 7, 8, 9, 11, 70])
        (.cond (.tmp 70)
          (.reg [co (some 72) (.move (.tmp 4)) none,
            co (some 73) (.move (.tmp 7)) none,
            co (some 74) (.binOp .add 3 (.tmp 73) (.const (.int .i64 1)) 3) none,
            co (some 75) (.indexAddr 45 (.tmp 72) (.tmp 74)) none,
            co (some 76) (.load 9 (.tmp 75)) none,
            co (some 77) (.call { callee := (.value (.func 17)), args := #[(.tmp 76)], argTypes := #[9] }) none,
            co (some 71) (.move (.tmp 77)) none,
            co (some 78) (.extract (.tmp 71) 0) none,
            co (some 79) (.extract (.tmp 71) 1) none,
            co (some 80) (.fieldAddr 25 (.tmp 9) 2) none,
            co none (.store 23 (.tmp 80) (.tmp 78)) none,
            co (some 11) (.assign (.tmp 79)) none] [2, 4, 5, 7, 8, 9, 11])
          (.skip)))
      (.keep [2, 4, 5, 7, 8, 9, 11] k2_centoref34_Parse))))))))))
  (.keep [2, 4, 5] (.reg [co (some 16) (.move (.tmp 5)) none,
    co (some 17) (.binOp .add 3 (.tmp 16) (.const (.int .i64 1)) 3) none,
    co (some 5) (.assign (.tmp 17)) none] [2, 4, 5]))))
/-- cento/centoref34.Parse -/
def c_centoref34_Parse : CC :=
  .seq (.reg [cn (some 2) (.alloc 25) none [0],
      co (some 3) (.assign (.const (.bool false))) none] [0, 2])
  (.seq (.reg [co (some 12) (.move (.tmp 0)) none,
      co (some 13) (.call { callee := (.value (.func 35)), args := #[(.tmp 12)], argTypes := #[9] }) none,
      co (some 4) (.assign (.tmp 13)) none] [2, 4])
  (.seq (.seq (.reg [co (some 5) (.assign (.const (.int .i64 0))) none] [2, 4, 5])
    (.block 0
      (.loop l2_centoref34_Parse)))
  (.keep [2] (.seq (.reg [co (some 96) (.build 25 #[]) none,
      co none (.store 25 (.tmp 2) (.tmp 96)) none,
      co (some 3) (.assign (.const (.bool false))) none] [2, 3])
  (.ret)))))
theorem t_centoref34_Parse : Txt Tryd.prog 14 97 [(.cell 2 25), (.tmp 3)] c_centoref34_Parse := txt_of (code := Tryd.f14.body.getD .ret) mixed (by kernel_rfl) Tryd.func14 (by kernel_rfl) Tryd.ntmps14 (by kernel_rfl) (ls := [([0, 2], [(0, [0])]), ([], []), ([2, 4], []), ([], []), ([2, 4, 5], []), ([], []), ([2, 4, 5, 15], []), ([], []), ([999999, 2, 4, 5], []), ([2, 4, 5, 6, 7, 8], []), ([], []), ([2, 4, 5, 7, 8, 50], []), ([], []), ([999999, 2, 4, 5, 7, 8], []), ([2, 4, 5, 7, 8, 9], [(2, [1])]), ([], []), ([2, 4, 5, 7, 8, 9, 10], []), ([], []), ([2, 4, 5, 7, 8, 9, 10, 55], []), ([], []), ([999999, 2, 4, 5, 7, 8, 9, 10], []), ([2, 4, 5, 7, 8, 9, 10], [(9, [2])]), ([], []), ([2, 4, 5, 7, 8, 9, 10], []), ([999999, 2, 4, 5, 7, 8, 9], []), ([2, 4, 5, 7, 8, 9, 11], []), ([], []), ([2, 4, 5, 7, 8, 9, 11, 70], []), ([], []), ([2, 4, 5, 7, 8, 9, 11], []), ([999999, 2, 4, 5, 7, 8, 9, 11], []), ([2, 4, 5, 7, 9, 11, 82], []), ([], []), ([2, 4, 5, 9, 11], []), ([999999, 2, 4, 5, 9, 11], []), ([2, 4, 5, 9, 94], []), ([], []), ([2, 3], []), ([], []), ([999999, 2, 4, 5], []), ([2, 4, 5], []), ([999999, 2], []), ([2, 3], []), ([], [])]) (by kernel_rfl)
/-- cento/centolaw34.Mine -/
def c_centolaw34_Mine : CC :=
  .seq (.reg [cn (some 1) (.box 25 (.tmp 0)) none [0],
      cn (some 2) (.alloc 28) none [1]] [1, 2])
  (.seq (.reg [co (some 3) (.fieldAddr 25 (.tmp 1) 0) none,
      co (some 4) (.load 3 (.tmp 3)) none,
      co (some 5) (.fieldAddr 25 (.tmp 1) 1) none,
      co (some 6) (.load 22 (.tmp 5)) none,
      co (some 7) (.fieldAddr 25 (.tmp 1) 2) none,
      co (some 8) (.load 23 (.tmp 7)) none,
      co (some 9) (.build 28 #[(0, (.tmp 4)), (1, (.tmp 6)), (2, (.tmp 8))]) none,
      co none (.store 28 (.tmp 2) (.tmp 9)) none] [2])
  (.ret))
theorem t_centolaw34_Mine : Txt Tryd.prog 8 10 [(.cell 2 28)] c_centolaw34_Mine := txt_of (code := Tryd.f8.body.getD .ret) mixed (by kernel_rfl) Tryd.func8 (by kernel_rfl) Tryd.ntmps8 (by kernel_rfl) (ls := [([1, 2], [(0, [0]), (1, [1])]), ([], []), ([2], []), ([], [])]) (by kernel_rfl)
/-- cento/centolaw34.same -/
def c_centolaw34_same : CC :=
  .seq (.reg [cn (some 2) (.box 28 (.tmp 0)) none [0],
      cn (some 3) (.box 25 (.tmp 1)) none [1],
      co (some 4) (.assign (.const (.bool false))) none] [2, 3])
  (.seq (.reg [co (some 5) (.fieldAddr 28 (.tmp 2) 0) none,
      co (some 6) (.load 3 (.tmp 5)) none,
      co (some 7) (.fieldAddr 25 (.tmp 3) 0) none,
      co (some 8) (.load 3 (.tmp 7)) none,
      co (some 9) (.binOp .eql 3 (.tmp 6) (.tmp 8) 3) none,
      co (some 10) (.move (.tmp 9)) none,
      co (some 11) (.fieldAddr 28 (.tmp 2) 1) (some (10, true)),
      co (some 12) (.load 22 (.tmp 11)) (some (10, true)),
      co (some 13) (.fieldAddr 25 (.tmp 3) 1) (some (10, true)),
      co (some 14) (.load 22 (.tmp 13)) (some (10, true)),
      co (some 15) (.call { callee := (.value (.func 20)), args := #[(.tmp 12), (.tmp 14)], argTypes := #[22, 22] }) (some (10, true)),
      co (some 16) (.pick (.tmp 10) (.tmp 15) (.const (.bool false))) none,
      co (some 17) (.move (.tmp 16)) none,
      co (some 18) (.fieldAddr 28 (.tmp 2) 2) (some (17, true)),
      co (some 19) (.load 23 (.tmp 18)) (some (17, true)),
      co (some 20) (.fieldAddr 25 (.tmp 3) 2) (some (17, true)),
      co (some 21) (.load 23 (.tmp 20)) (some (17, true)),
      co (some 22) (.call { callee := (.value (.func 19)), args := #[(.tmp 19), (.tmp 21)], argTypes := #[23, 23] }) (some (17, true)),
      co (some 23) (.pick (.tmp 17) (.tmp 22) (.const (.bool false))) none,
      co (some 4) (.assign (.tmp 23)) none] [4])
  (.ret))
theorem t_centolaw34_same : Txt Tryd.prog 13 24 [(.tmp 4)] c_centolaw34_same := txt_of (code := Tryd.f13.body.getD .ret) mixed (by kernel_rfl) Tryd.func13 (by kernel_rfl) Tryd.ntmps13 (by kernel_rfl) (ls := [([2, 3], [(0, [0]), (1, [1])]), ([], []), ([4], []), ([], [])]) (by kernel_rfl)
/-- cento/centolaw34.awake -/
def c_centolaw34_awake : CC :=
  .seq (.reg [co (some 0) (.assign (.const (.bool false))) none] [])
  (.seq (.reg [co (some 4) (.call { callee := (.value (.func 12)), args := #[(.const (.string { data := #[100, 105, 102, 102, 32, 50, 32, 48, 32, 49] }))], argTypes := #[9] }) none,
      co (some 3) (.move (.tmp 4)) none,
      co (some 5) (.extract (.tmp 3) 0) none,
      co (some 6) (.extract (.tmp 3) 1) none,
      cn (some 1) (.alloc 28) none [0],
      co none (.store 28 (.tmp 1) (.tmp 5)) none,
      co (some 2) (.assign (.tmp 6)) none] [1, 2])
  (.seq (.reg [co (some 7) (.move (.tmp 2)) none,
      co (some 8) (.binOp .eql 32 (.tmp 7) (.const (.int .i64 0)) 32) none,
      co (some 9) (.move (.tmp 8)) none,
      co (some 10) (.fieldAddr 28 (.tmp 1) 0) (some (9, true)),
      co (some 11) (.load 3 (.tmp 10)) (some (9, true)),
      co (some 12) (.binOp .eql 3 (.tmp 11) (.const (.int .i64 4)) 3) (some (9, true)),
      co (some 13) (.pick (.tmp 9) (.tmp 12) (.const (.bool false))) none,
      co (some 14) (.move (.tmp 13)) none,
      co (some 15) (.fieldAddr 28 (.tmp 1) 1) (some (14, true)),
      co (some 16) (.load 22 (.tmp 15)) (some (14, true)),
      co (some 17) (.buildSlice 22 3 #[(0, (.const (.int .i64 2))), (1, (.const (.int .i64 0))), (2, (.const (.int .i64 1)))]) (some (14, true)),
      co (some 18) (.call { callee := (.value (.func 20)), args := #[(.tmp 16), (.tmp 17)], argTypes := #[22, 22] }) (some (14, true)),
      co (some 19) (.pick (.tmp 14) (.tmp 18) (.const (.bool false))) none,
      co (some 20) (.move (.tmp 19)) none,
      co (some 21) (.load 28 (.tmp 1)) (some (20, true)),
      co (some 22) (.call { callee := (.value (.func 7)), args := #[(.tmp 21)], argTypes := #[28] }) (some (20, true)),
      co (some 23) (.binOp .eql 9 (.tmp 22) (.const (.string { data := #[100, 105, 102, 102, 32, 50, 32, 48, 32, 49] })) 9) (some (20, true)),
      co (some 24) (.pick (.tmp 20) (.tmp 23) (.const (.bool false))) none,
      co (some 0) (.assign (.tmp 24)) none] [0])
  (.ret)))
theorem t_centolaw34_awake : Txt Tryd.prog 6 25 [(.tmp 0)] c_centolaw34_awake := txt_of (code := Tryd.f6.body.getD .ret) mixed (by kernel_rfl) Tryd.func6 (by kernel_rfl) Tryd.ntmps6 (by kernel_rfl) (ls := [([], []), ([], []), ([1, 2], [(4, [0])]), ([], []), ([0], []), ([], [])]) (by kernel_rfl)
/-- cento/centolaw34.CommandPrints -/
def c_centolaw34_CommandPrints : CC :=
  .seq (.reg [cn (some 1) (.box 25 (.tmp 0)) none [0],
      co (some 2) (.assign (.const (.bool false))) none] [1])
  (.seq (.seq (.reg [co (some 6) (.fieldAddr 25 (.tmp 1) 1) none,
        co (some 7) (.load 22 (.tmp 6)) none,
        co (some 8) (.call { callee := (.builtin .len), args := #[(.tmp 7)], argTypes := #[22] }) none,
        co (some 9) (.binOp .gtr 3 (.tmp 8) (.const (.int .i64 10)) 3) none,
        co (some 10) (.move (.tmp 9)) none,
        co (some 11) (.fieldAddr 25 (.tmp 1) 2) (some (10, false)),
        co (some 12) (.load 23 (.tmp 11)) (some (10, false)),
        co (some 13) (.call { callee := (.builtin .len), args := #[(.tmp 12)], argTypes := #[23] }) (some (10, false)),
        co (some 14) (.binOp .gtr 3 (.tmp 13) (.const (.int .i64 2000)) 3) (some (10, false)),
        co (some 15) (.pick (.tmp 10) (.const (.bool true)) (.tmp 14)) none] [1, 15])
    (.cond (.tmp 15)
      (.seq (.reg [co (some 16) (.call { callee := (.value (.func 6)), args := #[], argTypes := #[] }) none,
          co (some 2) (.assign (.tmp 16)) none] [2])
      (.ret))
      (.skip)))
  (.keep [1] (.seq (.reg [co (some 17) (.load 25 (.tmp 1)) none,
      co (some 18) (.call { callee := (.value (.func 8)), args := #[(.tmp 17)], argTypes := #[25] }) none,
      co (some 19) (.call { callee := (.value (.func 7)), args := #[(.tmp 18)], argTypes := #[28] }) none,
      co (some 3) (.assign (.tmp 19)) none] [1, 3])
  (.seq (.seq (.reg [co (some 20) (.move (.tmp 3)) none,
        co (some 21) (.load 25 (.tmp 1)) none,
        co (some 22) (.call { callee := (.value (.func 9)), args := #[(.tmp 21)], argTypes := #[25] }) none,
        co (some 23) (.binOp .neq 9 (.tmp 20) (.tmp 22) 9) none,
        co (some 24) (.move (.tmp 23)) none,
        co (some 25) (.load 25 (.tmp 1)) (some (24, false)),
        ⟨some 26, (.call { callee := (.value (.func 8)), args := #[(.tmp 25)], argTypes := #[25] }), (some (24, false)), [], 6, [], true⟩,
        ⟨some 27, (.call { callee := (.value (.func 10)), args := #[(.tmp 26)], argTypes := #[28] }), (some (24, false)), [], 7, [], true⟩,
        ⟨some 28, (.load 25 (.tmp 1)), (some (24, false)), [], 8, [6, 7], false⟩,
        co (some 29) (.call { callee := (.value (.func 11)), args := #[(.tmp 28)], argTypes := #[25] }) (some (24, false)),
        co (some 30) (.binOp .neq 4 (.tmp 27) (.tmp 29) 4) (some (24, false)),
        co (some 31) (.pick (.tmp 24) (.const (.bool true)) (.tmp 30)) none] [1, 3, 31])
    (.cond (.tmp 31)
      (.seq (.reg [co (some 2) (.assign (.const (.bool false))) none] [2])
      (.ret))
      (.skip)))
  (.keep [1, 3] (.seq (.seq (.reg [co (some 32) (.load 25 (.tmp 1)) none,
        co (some 33) (.call { callee := (.value (.func 11)), args := #[(.tmp 32)], argTypes := #[25] }) none,
        co (some 34) (.unOp .not 4 (.tmp 33)) none] [1, 3, 34])
    (.cond (.tmp 34)
      (.seq (.reg [co (some 35) (.call { callee := (.value (.func 6)), args := #[], argTypes := #[] }) none,
          co (some 2) (.assign (.tmp 35)) none] [2])
      (.ret))
      (.skip)))
  (.keep [1, 3] (.seq (.reg [co (some 37) (.move (.tmp 3)) none,
      co (some 38) (.call { callee := (.value (.func 12)), args := #[(.tmp 37)], argTypes := #[9] }) none,
      co (some 36) (.move (.tmp 38)) none,
      co (some 39) (.extract (.tmp 36) 0) none,
      co (some 40) (.extract (.tmp 36) 1) none,
      cn (some 4) (.alloc 28) none [1],
      co none (.store 28 (.tmp 4) (.tmp 39)) none,
      co (some 5) (.assign (.tmp 40)) none] [1, 4, 5])
  (.seq (.reg [co (some 41) (.move (.tmp 5)) none,
      co (some 42) (.binOp .eql 32 (.tmp 41) (.const (.int .i64 0)) 32) none,
      co (some 43) (.move (.tmp 42)) none,
      co (some 44) (.load 28 (.tmp 4)) (some (43, true)),
      co (some 45) (.load 25 (.tmp 1)) (some (43, true)),
      co (some 46) (.call { callee := (.value (.func 13)), args := #[(.tmp 44), (.tmp 45)], argTypes := #[28, 25] }) (some (43, true)),
      co (some 47) (.pick (.tmp 43) (.tmp 46) (.const (.bool false))) none,
      co (some 48) (.move (.tmp 47)) none,
      co (some 49) (.call { callee := (.value (.func 6)), args := #[], argTypes := #[] }) (some (48, true)),
      co (some 50) (.pick (.tmp 48) (.tmp 49) (.const (.bool false))) none,
      co (some 2) (.assign (.tmp 50)) none] [2])
  (.ret))))))))))
theorem t_centolaw34_CommandPrints : Txt Tryd.prog 3 51 [(.tmp 2)] c_centolaw34_CommandPrints := txt_of (code := Tryd.f3.body.getD .ret) mixed (by kernel_rfl) Tryd.func3 (by kernel_rfl) Tryd.ntmps3 (by kernel_rfl) (ls := [([1], [(0, [0])]), ([], []), ([1, 15], []), ([], []), ([2], []), ([], []), ([999999, 1], []), ([1, 3], []), ([], []), ([1, 3, 31], []), ([], []), ([2], []), ([], []), ([999999, 1, 3], []), ([1, 3, 34], []), ([], []), ([2], []), ([], []), ([999999, 1, 3], []), ([1, 4, 5], [(5, [1])]), ([], []), ([2], []), ([], [])]) (by kernel_rfl)
def k1_centolaw34_CommandParses : CC :=
  .seq (.reg [co (some 13) (.move (.tmp 0)) none,
      co (some 14) (.call { callee := (.value (.func 12)), args := #[(.tmp 13)], argTypes := #[9] }) none,
      co (some 12) (.move (.tmp 14)) none,
      co (some 15) (.extract (.tmp 12) 0) none,
      co (some 16) (.extract (.tmp 12) 1) none,
      cn (some 3) (.alloc 28) none [0],
      co none (.store 28 (.tmp 3) (.tmp 15)) none,
      co (some 4) (.assign (.tmp 16)) none] [0, 3, 4])
  (.seq (.reg [co (some 18) (.move (.tmp 0)) none,
      co (some 19) (.call { callee := (.value (.func 14)), args := #[(.tmp 18)], argTypes := #[9] }) none,
      co (some 17) (.move (.tmp 19)) none,
      co (some 20) (.extract (.tmp 17) 0) none,
      co (some 21) (.extract (.tmp 17) 1) none,
      cn (some 5) (.alloc 25) none [1],
      co none (.store 25 (.tmp 5) (.tmp 20)) none,
      co (some 6) (.assign (.tmp 21)) none] [0, 3, 4, 5, 6])
  (.seq (.seq (.reg [co (some 22) (.load 28 (.tmp 3)) none,
        co (some 23) (.load 25 (.tmp 5)) none,
        co (some 24) (.call { callee := (.value (.func 13)), args := #[(.tmp 22), (.tmp 23)], argTypes := #[28, 25] }) none,
        co (some 25) (.unOp .not 4 (.tmp 24)) none,
        co (some 26) (.move (.tmp 25)) none,
        co (some 27) (.move (.tmp 6)) (some (26, false)),
        co (some 28) (.move (.tmp 4)) (some (26, false)),
        co (some 29) (.binOp .eql 32 (.tmp 28) (.const (.int .i64 0)) 32) (some (26, false)),
        co (some 30) (.binOp .neq 4 (.tmp 27) (.tmp 29) 4) (some (26, false)),
        co (some 31) (.pick (.tmp 26) (.const (.bool true)) (.tmp 30)) none,
        co (some 32) (.move (.tmp 31)) none,
        co (some 33) (.move (.tmp 6)) (some (32, false)),
        co (some 34) (.unOp .not 4 (.tmp 33)) (some (32, false)),
        co (some 35) (.move (.tmp 34)) (some (32, false)),
        co (some 36) (.move (.tmp 4)) (some (35, true)),
        co (some 37) (.binOp .neq 32 (.tmp 36) (.const (.int .i64 16)) 32) (some (35, true)),
        co (some 38) (.pick (.tmp 35) (.tmp 37) (.const (.bool false))) (some (32, false)),
        co (some 39) (.pick (.tmp 32) (.const (.bool true)) (.tmp 38)) none] [0, 3, 6, 39])
    (.cond (.tmp 39)
      (.seq (.reg [co (some 2) (.assign (.const (.bool false))) none] [2])
      (.ret))
      (.skip)))
  (.keep [0, 3, 6] (.seq (.reg [co (some 40) (.move (.tmp 6)) none,
      co (some 41) (.unOp .not 4 (.tmp 40)) none,
      co (some 42) (.move (.tmp 41)) none,
      co (some 43) (.load 28 (.tmp 3)) (some (42, false)),
      co (some 44) (.call { callee := (.value (.func 7)), args := #[(.tmp 43)], argTypes := #[28] }) (some (42, false)),
      co (some 45) (.move (.tmp 0)) (some (42, false)),
      co (some 46) (.binOp .eql 9 (.tmp 44) (.tmp 45) 9) (some (42, false)),
      co (some 47) (.pick (.tmp 42) (.const (.bool true)) (.tmp 46)) none,
      co (some 48) (.move (.tmp 47)) none,
      co (some 49) (.call { callee := (.value (.func 6)), args := #[], argTypes := #[] }) (some (48, true)),
      co (some 50) (.pick (.tmp 48) (.tmp 49) (.const (.bool false))) none,
      co (some 2) (.assign (.tmp 50)) none] [2])
  (.ret)))))
/-- cento/centolaw34.CommandParses -/
def c_centolaw34_CommandParses : CC :=
  .seq (.reg [co (some 2) (.assign (.const (.bool false))) none] [0])
  (.seq (.seq (.reg [co (some 7) (.move (.tmp 0)) none,
        co (some 8) (.call { callee := (.builtin .len), args := #[(.tmp 7)], argTypes := #[9] }) none,
        co (some 9) (.binOp .gtr 3 (.tmp 8) (.const (.int .i64 2000)) 3) none] [0, 9])
    (.cond (.tmp 9)
      (.reg [co (some 10) (.move (.tmp 0)) none,
        co (some 11) (.slice 9 (.tmp 10) none (some (.const (.int .i64 2000))) none) none,
        co (some 0) (.assign (.tmp 11)) none] [0])
      (.skip)))
  (.keep [0] k1_centolaw34_CommandParses))
theorem t_centolaw34_CommandParses : Txt Tryd.prog 4 51 [(.tmp 2)] c_centolaw34_CommandParses := txt_of (code := Tryd.f4.body.getD .ret) mixed (by kernel_rfl) Tryd.func4 (by kernel_rfl) Tryd.ntmps4 (by kernel_rfl) (ls := [([0], []), ([], []), ([0, 9], []), ([], []), ([0], []), ([999999, 0], []), ([0, 3, 4], [(5, [0])]), ([], []), ([0, 3, 4, 5, 6], [(5, [1])]), ([], []), ([0, 3, 6, 39], []), ([], []), ([2], []), ([], []), ([999999, 0, 3, 6], []), ([2], []), ([], [])]) (by kernel_rfl)
/-- cento/centolaw34.CommandHex -/
def c_centolaw34_CommandHex : CC :=
  .seq (.reg [co (some 4) (.assign (.const (.bool false))) none] [0, 1])
  (.seq (.seq (.reg [co (some 12) (.move (.tmp 0)) none,
        co (some 13) (.call { callee := (.builtin .len), args := #[(.tmp 12)], argTypes := #[23] }) none,
        co (some 14) (.binOp .gtr 3 (.tmp 13) (.const (.int .i64 2000)) 3) none,
        co (some 15) (.move (.tmp 14)) none,
        co (some 16) (.move (.tmp 1)) (some (15, false)),
        co (some 17) (.call { callee := (.builtin .len), args := #[(.tmp 16)], argTypes := #[9] }) (some (15, false)),
        co (some 18) (.binOp .gtr 3 (.tmp 17) (.const (.int .i64 2000)) 3) (some (15, false)),
        co (some 19) (.pick (.tmp 15) (.const (.bool true)) (.tmp 18)) none] [0, 1, 19])
    (.cond (.tmp 19)
      (.seq (.reg [co (some 20) (.call { callee := (.value (.func 6)), args := #[], argTypes := #[] }) none,
          co (some 4) (.assign (.tmp 20)) none] [4])
      (.ret))
      (.skip)))
  (.keep [0, 1] (.seq (.reg [co (some 21) (.move (.tmp 0)) none,
      co (some 22) (.call { callee := (.value (.func 15)), args := #[(.tmp 21)], argTypes := #[23] }) none,
      co (some 5) (.assign (.tmp 22)) none] [0, 1, 5])
  (.seq (.reg [co (some 24) (.move (.tmp 5)) none,
      co (some 25) (.call { callee := (.value (.func 16)), args := #[(.tmp 24)], argTypes := #[9] }) none,
      co (some 23) (.move (.tmp 25)) none,
      co (some 26) (.extract (.tmp 23) 0) none,
      co (some 27) (.extract (.tmp 23) 1) none,
      co (some 6) (.assign (.tmp 26)) none,
      co (some 7) (.assign (.tmp 27)) none] [0, 1, 5, 6, 7])
  (.seq (.reg [co (some 29) (.move (.tmp 1)) none,
      co (some 30) (.call { callee := (.value (.func 16)), args := #[(.tmp 29)], argTypes := #[9] }) none,
      co (some 28) (.move (.tmp 30)) none,
      co (some 31) (.extract (.tmp 28) 0) none,
      co (some 32) (.extract (.tmp 28) 1) none,
      co (some 8) (.assign (.tmp 31)) none,
      co (some 9) (.assign (.tmp 32)) none] [0, 1, 5, 6, 7, 8, 9])
  (.seq (.reg [co (some 34) (.move (.tmp 1)) none,
      co (some 35) (.call { callee := (.value (.func 17)), args := #[(.tmp 34)], argTypes := #[9] }) none,
      co (some 33) (.move (.tmp 35)) none,
      co (some 36) (.extract (.tmp 33) 0) none,
      co (some 37) (.extract (.tmp 33) 1) none,
      co (some 10) (.assign (.tmp 36)) none,
      co (some 11) (.assign (.tmp 37)) none] [0, 1, 5, 6, 7, 8, 9, 10, 11])
  (.seq (.reg [co (some 38) (.move (.tmp 5)) none,
      co (some 39) (.move (.tmp 0)) none,
      co (some 40) (.call { callee := (.value (.func 18)), args := #[(.tmp 39)], argTypes := #[23] }) none,
      co (some 41) (.binOp .eql 9 (.tmp 38) (.tmp 40) 9) none,
      co (some 42) (.move (.tmp 41)) none,
      co (some 43) (.move (.tmp 7)) (some (42, true)),
      co (some 44) (.pick (.tmp 42) (.tmp 43) (.const (.bool false))) none,
      co (some 45) (.move (.tmp 44)) none,
      co (some 46) (.move (.tmp 6)) (some (45, true)),
      co (some 47) (.move (.tmp 0)) (some (45, true)),
      co (some 48) (.call { callee := (.value (.func 19)), args := #[(.tmp 46), (.tmp 47)], argTypes := #[23, 23] }) (some (45, true)),
      co (some 49) (.pick (.tmp 45) (.tmp 48) (.const (.bool false))) none,
      co (some 50) (.move (.tmp 49)) none,
      co (some 51) (.move (.tmp 9)) (some (50, true)),
      co (some 52) (.move (.tmp 11)) (some (50, true)),
      co (some 53) (.binOp .eql 4 (.tmp 51) (.tmp 52) 4) (some (50, true)),
      co (some 54) (.pick (.tmp 50) (.tmp 53) (.const (.bool false))) none,
      co (some 55) (.move (.tmp 54)) none,
      co (some 56) (.move (.tmp 8)) (some (55, true)),
      co (some 57) (.move (.tmp 10)) (some (55, true)),
      co (some 58) (.call { callee := (.value (.func 19)), args := #[(.tmp 56), (.tmp 57)], argTypes := #[23, 23] }) (some (55, true)),
      co (some 59) (.pick (.tmp 55) (.tmp 58) (.const (.bool false))) none,
      co (some 60) (.move (.tmp 59)) none,
      co (some 61) (.move (.tmp 9)) (some (60, true)),
      co (some 62) (.unOp .not 4 (.tmp 61)) (some (60, true)),
      co (some 63) (.move (.tmp 62)) (some (60, true)),
      co (some 64) (.move (.tmp 8)) (some (63, false)),
      co (some 65) (.call { callee := (.value (.func 15)), args := #[(.tmp 64)], argTypes := #[23] }) (some (63, false)),
      co (some 66) (.move (.tmp 1)) (some (63, false)),
      co (some 67) (.binOp .eql 9 (.tmp 65) (.tmp 66) 9) (some (63, false)),
      co (some 68) (.pick (.tmp 63) (.const (.bool true)) (.tmp 67)) (some (60, true)),
      co (some 69) (.pick (.tmp 60) (.tmp 68) (.const (.bool false))) none,
      co (some 70) (.move (.tmp 69)) none,
      co (some 71) (.call { callee := (.value (.func 6)), args := #[], argTypes := #[] }) (some (70, true)),
      co (some 72) (.pick (.tmp 70) (.tmp 71) (.const (.bool false))) none,
      co (some 4) (.assign (.tmp 72)) none] [4])
  (.ret))))))))
theorem t_centolaw34_CommandHex : Txt Tryd.prog 5 73 [(.tmp 4)] c_centolaw34_CommandHex := txt_of (code := Tryd.f5.body.getD .ret) mixed (by kernel_rfl) Tryd.func5 (by kernel_rfl) Tryd.ntmps5 (by kernel_rfl) (ls := [([0, 1], []), ([], []), ([0, 1, 19], []), ([], []), ([4], []), ([], []), ([999999, 0, 1], []), ([0, 1, 5], []), ([], []), ([0, 1, 5, 6, 7], []), ([], []), ([0, 1, 5, 6, 7, 8, 9], []), ([], []), ([0, 1, 5, 6, 7, 8, 9, 10, 11], []), ([], []), ([4], []), ([], [])]) (by kernel_rfl)
def l1_centoref01_SameBytes : CC :=
  .seq (.seq (.reg [co (some 11) (.move (.tmp 5)) none,
        co (some 12) (.move (.tmp 0)) none,
        co (some 13) (.call { callee := (.builtin .len), args := #[(.tmp 12)], argTypes := #[23] }) none,
        co (some 14) (.binOp .lss 3 (.tmp 11) (.tmp 13) 3) none] [0, 1, 5, 14])
    (.cond (.tmp 14)
      (.skip)
      (.exit 0)))
  (.keep [0, 1, 5] (.seq (.block 1
      (.seq (.reg [co (some 17) (.move (.tmp 0)) none,
          co (some 18) (.move (.tmp 5)) none,
          co (some 19) (.indexAddr 23 (.tmp 17) (.tmp 18)) none,
          co (some 20) (.load 5 (.tmp 19)) none,
          co (some 21) (.move (.tmp 1)) none,
          co (some 22) (.move (.tmp 5)) none,
          co (some 23) (.indexAddr 23 (.tmp 21) (.tmp 22)) none,
          co (some 24) (.load 5 (.tmp 23)) none,
          co (some 25) (.binOp .neq 5 (.tmp 20) (.tmp 24) 5) none] [0, 1, 5, 25])
      (.cond (.tmp 25)
        (.seq (.reg [co (some 4) (.assign (.const (.bool false))) none] [4])
        (.ret))
        (.skip))))
  (.keep [0, 1, 5] (.reg [co (some 15) (.move (.tmp 5)) none,
    co (some 16) (.binOp .add 3 (.tmp 15) (.const (.int .i64 1)) 3) none,
    co (some 5) (.assign (.tmp 16)) none] [0, 1, 5]))))
/-- cento/centoref01.SameBytes -/
def c_centoref01_SameBytes : CC :=
  .seq (.reg [co (some 4) (.assign (.const (.bool false))) none] [0, 1])
  (.seq (.seq (.reg [co (some 6) (.move (.tmp 0)) none,
        co (some 7) (.call { callee := (.builtin .len), args := #[(.tmp 6)], argTypes := #[23] }) none,
        co (some 8) (.move (.tmp 1)) none,
        co (some 9) (.call { callee := (.builtin .len), args := #[(.tmp 8)], argTypes := #[23] }) none,
        co (some 10) (.binOp .neq 3 (.tmp 7) (.tmp 9) 3) none] [0, 1, 10])
    (.cond (.tmp 10)
      (.seq (.reg [co (some 4) (.assign (.const (.bool false))) none] [4])
      (.ret))
      (.skip)))
  (.keep [0, 1] (.seq (.seq (.reg [co (some 5) (.assign (.const (.int .i64 0))) none] [0, 1, 5])
    (.block 0
      (.loop l1_centoref01_SameBytes)))
  (.keep [] (.seq (.reg [co (some 4) (.assign (.const (.bool true))) none] [4])
  (.ret))))))
theorem t_centoref01_SameBytes : Txt Tryd.prog 19 26 [(.tmp 4)] c_centoref01_SameBytes := txt_of (code := Tryd.f19.body.getD .ret) mixed (by kernel_rfl) Tryd.func19 (by kernel_rfl) Tryd.ntmps19 (by kernel_rfl) (ls := [([0, 1], []), ([], []), ([0, 1, 10], []), ([], []), ([4], []), ([], []), ([999999, 0, 1], []), ([0, 1, 5], []), ([], []), ([0, 1, 5, 14], []), ([], []), ([999999, 0, 1, 5], []), ([0, 1, 5, 25], []), ([], []), ([4], []), ([], []), ([999999, 0, 1, 5], []), ([0, 1, 5], []), ([999999], []), ([4], []), ([], [])]) (by kernel_rfl)
end Go.Proofs.YtkjnbdgkpofobaaDoor

/-
  Commands: small functions of the program; may a command be?
-/
namespace Go.Proofs.YtkjnbdgkpofobaaDoor
set_option linter.unusedVariables false
set_option linter.unusedSimpArgs false
open Go Go.G Go.Proofs Go.PL
theorem i64q {n : Int} (h0 : -9223372036854775808 ≤ n) (h1 : n < 9223372036854775808) : IntKind.i64.wrap n = n := by rw [IntKind.wrap_i64]; omega
abbrev ivs (f : Bool) (l : List Int) : A := .sl f (l.map iv)
abbrev u8s (f : Bool) (l : List UInt8) : A := .sl f (l.map u8v)
/-- a command's data -/
abbrev cmd (f g : Bool) (op : Int) (xs : List Int) (bs : List UInt8) : A := .agg [iv op, ivs f xs, u8s g bs]
def line0 : List UInt8 := [108, 105, 109, 105, 116, 115, 32, 108, 111, 97, 100, 32, 117, 110, 112, 97, 99, 107, 32, 116, 101, 120, 116, 32, 100, 105, 102, 102, 32, 97, 112, 112, 108, 121, 32, 105, 110, 118, 101, 114, 116, 32, 110, 111, 114, 109, 97, 108, 32, 99, 111, 109, 112, 111, 115, 101, 32, 114, 101, 98, 97, 115, 101, 32, 109, 101, 114, 103, 101, 32, 100, 114, 111, 112, 32, 100, 117, 109, 112, 32, 112, 97, 99, 107, 32, 115, 104, 111, 119]
theorem fields_line : Lib.fields line0 = names34 := by decide
theorem names_spec : G.Spec Tryd.prog 21 [] (.sl true (names34.map S)) := by
  refine spec_of t_command_names (by simp) fun w0 I0 => ?_
  unfold c_command_names
  have h := fields_spec line0 (by decide) (by decide)
  rw [fields_line] at h
  simp
  refine sc_call h rfl ?_
  simp
  exact frz_bare rfl
theorem numbers_spec (op : Nat) (h : op < 15) : G.Spec Tryd.prog 28 [iv op] (iv (na34 op)) := by
  have : op = 0 ∨ op = 1 ∨ op = 2 ∨ op = 3 ∨ op = 4 ∨ op = 5 ∨ op = 6 ∨ op = 7 ∨ op = 8 ∨ op = 9 ∨ op = 10 ∨ op = 11 ∨ op = 12 ∨ op = 13 ∨ op = 14 := by omega
  refine spec_of t_command_numbers (by simp) fun w0 I0 => ?_
  unfold c_command_numbers
  rcases this with rfl | rfl | rfl | rfl | rfl | rfl | rfl | rfl | rfl | rfl | rfl | rfl | rfl | rfl | rfl <;> simp <;> exact frz_bare rfl
theorem loads_spec (op : Int) : G.Spec Tryd.prog 23 [iv op] (bv (decide (op = 1) || decide (op = 2))) := by
  refine spec_of t_command_loads (by simp) fun w0 I0 => ?_
  unfold c_command_loads
  by_cases h1 : op = 1
  · subst h1; simp; exact frz_bare rfl
  · simp [h1]; exact frz_bare rfl
theorem says_spec (op : Int) : G.Spec Tryd.prog 24 [iv op] (bv (decide (op = 3))) := by
  refine spec_of t_command_says (by simp) fun w0 I0 => ?_
  unfold c_command_says
  simp; exact frz_bare rfl
theorem right1_spec (n : Int) : G.Spec Tryd.prog 30 [iv n] (bv (!smallI n)) := by
  refine spec_of t_Right_1 (by simp) fun w0 I0 => ?_
  unfold c_Right_1
  by_cases h1 : n < 0
  · simp [h1, smallI, show ¬ 0 ≤ n by omega]; exact frz_bare rfl
  · by_cases h2 : 1073741824 < n
    · simp [h1, h2, smallI, show 0 ≤ n by omega, show ¬ n ≤ 1073741824 by omega]; exact frz_bare rfl
    · simp [h1, h2, smallI, show 0 ≤ n by omega, show n ≤ 1073741824 by omega]; exact frz_bare rfl
theorem right2_spec (c : UInt8) : G.Spec Tryd.prog 32 [u8v c] (bv (!prn c)) := by
  refine spec_of t_Right_2 (by simp) fun w0 I0 => ?_
  unfold c_Right_2
  by_cases h1 : c.toNat ≤ 32
  · simp [prn, show (c.toNat : Int) ≤ 32 by omega, show ¬ 33 ≤ c.toNat by omega]; exact frz_bare rfl
  · by_cases h2 : 126 < c.toNat
    · simp [prn, show ¬ (c.toNat : Int) ≤ 32 by omega, show 33 ≤ c.toNat by omega, show (126 : Int) < c.toNat by omega, show ¬ c.toNat ≤ 126 by omega]; exact frz_bare rfl
    · simp [prn, show ¬ (c.toNat : Int) ≤ 32 by omega, show 33 ≤ c.toNat by omega, show ¬ (126 : Int) < c.toNat by omega, show c.toNat ≤ 126 by omega]; exact frz_bare rfl
/-! ### the first that is so -/
def idxC {α : Type} (p : α → Bool) : Nat → List α → Int
  | _, [] => -1
  | i, x :: l => if p x = true then (i : Int) else idxC p (i + 1) l
theorem idxC_any {α : Type} (p : α → Bool) : ∀ (l : List α) (i : Nat), decide (0 ≤ idxC p i l) = l.any p
  | [], i => rfl
  | x :: l, i => by
    unfold idxC
    by_cases h : p x = true
    · rw [if_pos h, List.any_cons, h]; simp
    · rw [if_neg h, idxC_any p l, List.any_cons, Bool.eq_false_iff.2 h]; rfl
section
variable {n0 : Nat} {w0 : World} {I0 : Nat → Prop} {Q : Exit → Sta → Prop}
theorem idxI_l1 {f : Bool} {l : List Int} (hl : l.length ≤ 1000000) {R : Int} {H : Hp} : ∀ (m i : Nat), i + m = l.length → R = idxC (fun n => !smallI n) i (l.drop i) →
    (R = -1 → ∀ q, Q (.exit 0) ⟨lk [(0, ivs f l), (1, .fnc 30 [] []), (7, iv l.length), (8, iv l.length), (9, bv q)], H⟩) → (Q .ret ⟨lk [(4, iv R)], H⟩) →
    LoopC (cx Tryd.prog w0 I0 n0) l1_IndexFunc_int Q ⟨lk [(0, ivs f l), (1, .fnc 30 [] []), (7, iv l.length), (8, iv i)], H⟩ := by
  intro m
  induction m with
  | zero =>
    intro i hi hR h1 h2
    have : i = l.length := by omega
    subst this
    refine loopC_once mixed l1_IndexFunc_int.eq_1 ?_
    simp
    exact h1 (by rw [hR]; simp [idxC]) _
  | succ m ih =>
    intro i hi hR h1 h2
    have hlt : i < l.length := by omega
    have ei : IntKind.i64.wrap ((i : Int) + 1) = ((i + 1 : Nat) : Int) := i64q (by omega) (by omega)
    rw [List.drop_eq_getElem_cons hlt, idxC] at hR
    refine loopC_once mixed l1_IndexFunc_int.eq_1 ?_
    simp [hlt]
    refine sc_callv rfl (right1_spec l[i]) rfl ?_
    cases hr : smallI l[i] with
    | false =>
      rw [if_pos (by rw [hr]; rfl)] at hR
      simp
      rw [← hR]
      exact h2
    | true =>
      rw [if_neg (by rw [hr]; simp)] at hR
      simp [ei]
      exact ih (i + 1) (by omega) hR h1 h2
theorem idxB_l1 {f : Bool} {l : List UInt8} (hl : l.length ≤ 1000000) {R : Int} {H : Hp} : ∀ (m i : Nat), i + m = l.length → R = idxC (fun n => !prn n) i (l.drop i) →
    (R = -1 → ∀ q, Q (.exit 0) ⟨lk [(0, u8s f l), (1, .fnc 32 [] []), (7, iv l.length), (8, iv l.length), (9, bv q)], H⟩) → (Q .ret ⟨lk [(4, iv R)], H⟩) →
    LoopC (cx Tryd.prog w0 I0 n0) l1_IndexFunc_byte Q ⟨lk [(0, u8s f l), (1, .fnc 32 [] []), (7, iv l.length), (8, iv i)], H⟩ := by
  intro m
  induction m with
  | zero =>
    intro i hi hR h1 h2
    have : i = l.length := by omega
    subst this
    refine loopC_once mixed l1_IndexFunc_byte.eq_1 ?_
    simp
    exact h1 (by rw [hR]; simp [idxC]) _
  | succ m ih =>
    intro i hi hR h1 h2
    have hlt : i < l.length := by omega
    have ei : IntKind.i64.wrap ((i : Int) + 1) = ((i + 1 : Nat) : Int) := i64q (by omega) (by omega)
    rw [List.drop_eq_getElem_cons hlt, idxC] at hR
    refine loopC_once mixed l1_IndexFunc_byte.eq_1 ?_
    simp [hlt]
    refine sc_callv rfl (right2_spec l[i]) rfl ?_
    cases hr : prn l[i] with
    | false =>
      rw [if_pos (by rw [hr]; rfl)] at hR
      simp
      rw [← hR]
      exact h2
    | true =>
      rw [if_neg (by rw [hr]; simp)] at hR
      simp [ei]
      exact ih (i + 1) (by omega) hR h1 h2
end
theorem idxI_spec (f : Bool) (l : List Int) (hl : l.length ≤ 1000000) : G.Spec Tryd.prog 45 [ivs f l, .fnc 30 [] []] (iv (idxC (fun n => !smallI n) 0 l)) := by
  refine spec_of t_IndexFunc_int (by simp) fun w0 I0 => ?_
  unfold c_IndexFunc_int
  simp
  refine idxI_l1 hl l.length 0 (by simp) rfl (fun hR q => ?_) ?_
  · simp
    exact frz_int (by simpa using hR.symm)
  · simp
    exact frz_int (by simp)
theorem conI_spec (f : Bool) (l : List Int) (hl : l.length ≤ 1000000) : G.Spec Tryd.prog 29 [ivs f l, .fnc 30 [] []] (bv (l.any fun n => !smallI n)) := by
  refine spec_of t_ContainsFunc_int (by simp) fun w0 I0 => ?_
  unfold c_ContainsFunc_int
  simp
  refine sc_call (idxI_spec f l hl) rfl ?_
  simp
  exact frz_bool (idxC_any _ l 0)
theorem idxB_spec (f : Bool) (l : List UInt8) (hl : l.length ≤ 1000000) : G.Spec Tryd.prog 46 [u8s f l, .fnc 32 [] []] (iv (idxC (fun n => !prn n) 0 l)) := by
  refine spec_of t_IndexFunc_byte (by simp) fun w0 I0 => ?_
  unfold c_IndexFunc_byte
  simp
  refine idxB_l1 hl l.length 0 (by simp) rfl (fun hR q => ?_) ?_
  · simp
    exact frz_int (by simpa using hR.symm)
  · simp
    exact frz_int (by simp)
theorem conB_spec (f : Bool) (l : List UInt8) (hl : l.length ≤ 1000000) : G.Spec Tryd.prog 31 [u8s f l, .fnc 32 [] []] (bv (l.any fun n => !prn n)) := by
  refine spec_of t_ContainsFunc_byte (by simp) fun w0 I0 => ?_
  unfold c_ContainsFunc_byte
  simp
  refine sc_call (idxB_spec f l hl) rfl ?_
  simp
  exact frz_bool (idxC_any _ l 0)
theorem right34_eq {k : Nat} (h : k < 15) (xs : List Int) (bs : List UInt8) : right34 k xs bs = (decide (xs.length = na34 k) && xs.all smallI && (if k = 3 then decide (bs ≠ []) && bs.all prn else (decide (k = 1) || decide (k = 2)) || decide (bs = []))) := by
  have hk : ∀ k, k < 15 → (bk34 k = 2 ↔ k = 3) ∧ (bk34 k = 1 ↔ k = 1 ∨ k = 2) := by decide
  obtain ⟨h1, h2⟩ := hk k h
  unfold right34
  rw [Int.toNat_natCast, show decide (0 ≤ (k : Int)) = true by simp, show decide ((k : Int) < 15) = true by simp; omega]
  simp only [Bool.true_and]
  congr 1
  by_cases e3 : k = 3
  · rw [if_pos (h1.2 e3), if_pos e3]
  · rw [if_neg (fun e => e3 (h1.1 e)), if_neg e3]
    congr 1
    rw [← Bool.decide_or, decide_eq_decide]
    exact h2
theorem right34_lo {op : Int} (h : op < 0) (xs : List Int) (bs : List UInt8) : right34 op xs bs = false := by
  unfold right34; simp [show ¬ 0 ≤ op by omega]
theorem right34_hi {op : Int} (h : 14 < op) (xs : List Int) (bs : List UInt8) : right34 op xs bs = false := by
  unfold right34; simp [show ¬ op < 15 by omega]
theorem any_not {α : Type} (p : α → Bool) (l : List α) : (l.any fun x => !p x) = !l.all p := by
  induction l with
  | nil => rfl
  | cons x l ih => rw [List.any_cons, List.all_cons, ih]; cases p x <;> rfl
set_option maxHeartbeats 1000000 in
theorem right_spec (f g : Bool) (op : Int) (xs : List Int) (bs : List UInt8) (hx : xs.length ≤ 1000000) (hb : bs.length ≤ 1000000) : G.Spec Tryd.prog 10 [cmd f g op xs bs] (bv (right34 op xs bs)) := by
  refine spec_of t_command_Right (by simp) fun w0 I0 => ?_
  unfold c_command_Right
  by_cases h0 : op < 0
  · rw [right34_lo h0]
    simp [h0]
    refine sc_call_gf (L := []) (x := iv 0) (q := true) rfl (fun h => by cases h) (fun h => by cases h) rfl ?_
    simp
    exact frz_bare rfl
  · by_cases h1 : 14 < op
    · rw [right34_hi h1]
      simp [h0, h1]
      refine sc_call_gf (L := []) (x := iv 0) (q := true) rfl (fun h => by cases h) (fun h => by cases h) rfl ?_
      simp
      exact frz_bare rfl
    · obtain ⟨k, hk⟩ : ∃ k : Nat, op = k := ⟨op.toNat, by omega⟩
      subst hk
      rw [right34_eq (by omega)]
      simp [h0, h1]
      refine sc_call_gf (q := false) rfl (fun _ => numbers_spec k (by omega)) (fun _ => rfl) rfl ?_
      by_cases hl : xs.length = na34 k
      · simp [hl]
        refine sc_call (conI_spec f xs hx) rfl ?_
        rw [any_not]
        cases ha : xs.all smallI with
        | false => simp; exact frz_bare rfl
        | true =>
          simp
          refine sc_call (says_spec k) rfl ?_
          by_cases h3 : k = 3
          · subst h3
            by_cases hz : bs = []
            · subst hz
              simp
              refine sc_call_gt (L := []) (x := iv 0) (q := false) rfl (fun h => by cases h) (fun h => by cases h) rfl ?_
              simp
              exact frz_bare rfl
            · have : 0 < bs.length := List.length_pos_iff.2 hz
              simp [this, hz]
              refine sc_call_gt (q := true) rfl (fun _ => conB_spec g bs hb) (fun _ => rfl) rfl ?_
              simp [any_not]
              exact frz_bool (by simp)
          · simp [h3, show ¬ (k : Int) = 3 by omega]
            refine sc_call (loads_spec k) rfl ?_
            by_cases h4 : k = 1 ∨ k = 2
            · have : (decide ((k : Int) = 1) || decide ((k : Int) = 2)) = true := by simp; omega
              rw [this]
              simp [h4]
              exact frz_bool (by rcases h4 with rfl | rfl <;> simp)
            · have : (decide ((k : Int) = 1) || decide ((k : Int) = 2)) = false := by simp; omega
              rw [this]
              simp [show ¬ k = 1 by omega, show ¬ k = 2 by omega]
              exact frz_bool (by simp [← List.length_eq_zero_iff])
      · simp [hl, show ¬ (xs.length : Int) = (na34 k : Int) by omega]
        exact frz_bare rfl
end Go.Proofs.YtkjnbdgkpofobaaDoor

/-
  Plain: how trees are told as texts, and read of them.
-/
namespace Go.PL
set_option linter.unusedVariables false
set_option linter.unusedSimpArgs false
/-! ### texts with commas between -/
/-! ### a tree's text -/
/-! ### how a text is read -/
def idxB : List UInt8 → UInt8 → Int
  | [], _ => -1
  | b :: l, c => if b == c then 0 else if idxB l c == -1 then -1 else idxB l c + 1
section
variable (num : List UInt8 → Nat × Bool × Nat)
end
/-! ### what is read is a tree whose text it is -/
theorem idxB_spec : ∀ (l : List UInt8) (c : UInt8), idxB l c = -1 ∨ (0 ≤ idxB l c ∧ idxB l c < l.length ∧ l[(idxB l c).toNat]? = some c)
  | [], c => .inl rfl
  | b :: l, c => by
    unfold idxB
    by_cases h : (b == c) = true
    · rw [if_pos h]
      right
      simp at h
      simp [h]
    · rw [if_neg h]
      rcases idxB_spec l c with e | ⟨e1, e2, e3⟩
      · simp [e]
      · right
        have hne : ¬ (idxB l c == -1) = true := by simp; omega
        rw [if_neg hne]
        refine ⟨by omega, by simp; omega, ?_⟩
        have : (idxB l c + 1).toNat = (idxB l c).toNat + 1 := by omega
        rw [this]
        simpa using e3
section
variable {num : List UInt8 → Nat × Bool × Nat}
end
end Go.PL

/-
  Functions of Go's library that the texts' printer and reader call: met by the model's own run, as contracts.
-/
namespace Go.Proofs.YtkjnbdgkpofobaaDoor
set_option linter.unusedVariables false
set_option linter.unusedSimpArgs false
open Go Go.G Go.Proofs Go.RowKit Go.PL
/-- A function that turns nothing, met by the model's own run. -/
theorem spec_run {P : Program} {f : FuncId} {r : Value} (hk : okFn P f = true) (l : List Value) (h : ∀ (w : World) (I : Nat → Prop), Tabs P w I → Calls P f l.toArray w fun e w' => e = .returned r ∧ w' = w) : G.Spec P f (l.map A.v) (.v r) := by
  refine ⟨hk, fun w I vs hI ht hl hr => ?_⟩
  have e : vs = l.toArray := by
    apply Array.ext
    · simpa using hl
    · intro i h1 h2
      have h3 : i < l.length := by simpa using h2
      have := hr i (A.v l[i]) (by simp [h3])
      generalize hq : vs.getD i undef = x at this
      cases this
      have : vs.getD i undef = vs[i] := by simp [h1]
      rw [this] at hq
      simpa using hq
  subst e
  refine (h w I ht).mono fun e w' ⟨h1, h2⟩ => ⟨r, h1, ?_, ?_⟩
  · subst h2
    exact ⟨rfl, rfl, rfl, Nat.le_refl _, fun _ _ => rfl⟩
  · exact .v _ _
theorem idx_lib (l : List UInt8) (c : UInt8) : Lib.indexByte l c = idxB l c := by
  induction l with
  | nil => rfl
  | cons b l ih => simp [Lib.indexByte, idxB, ih]
set_option maxHeartbeats 1000000 in
set_option maxRecDepth 100000 in
theorem indexByte_run (l : List UInt8) (c : UInt8) (w : World) : Calls Tryd.prog 39 #[.string ⟨l.toArray⟩, .int .u8 c.toNat] w fun e w' => e = .returned (.int .i64 (idxB l c)) ∧ w' = w := by
  have h : (Extern.BytealgIndexByte.indexByte #[.string ⟨l.toArray⟩, .int .u8 c.toNat]).run Tryd.prog w = .ok (.int .i64 (idxB l c)) w := by
    rw [Lib.run_indexByteString, idx_lib]
    simp
  go_enter Tryd.func39, Tryd.ntmps39
  go_wp2
  rw [run_callFunc_extern Tryd.func61 (by kernel_rfl) (by kernel_rfl) (by kernel_rfl) (e := Extern.BytealgIndexByte.indexByte) (by kernel_rfl)]
  rw [h]
  simp only [Result.andThen]
  rw [Oper.upon_value]
  go_wp2
  go_ret
  exact ⟨rfl, rfl⟩
theorem idx_spec (l : List UInt8) (c : UInt8) : G.Spec Tryd.prog 39 [S l, u8v c] (.v (.int .i64 (idxB l c))) :=
  spec_run (by kernel_rfl) [.string ⟨l.toArray⟩, .int .u8 c.toNat] fun w I _ => indexByte_run l c w
set_option maxHeartbeats 1000000 in
set_option maxRecDepth 100000 in
theorem copyCheck_used (b : Nat) (w : World) (h0 : w.cell? ⟨b, 0, none⟩ = some (.pointer (some ⟨b, 0, none⟩))) :
    Calls Tryd.prog 49 #[.pointer (some ⟨b, 0, none⟩)] w fun e w' => e = .returned (.tuple #[]) ∧ w' = w := by
  obtain ⟨j, hj, hjs⟩ := Option.map_eq_some_iff.1 (show szT Tryd.prog 64 = some 2 by kernel_rfl)
  go_enter Tryd.func49, Tryd.ntmps49
  go_wp2
  rw [Lib.run_neq_ptr_same w _ Tryd.underlying62 hj]
  go_wp2
  go_end0
  exact ⟨rfl, rfl⟩
set_option maxHeartbeats 1000000 in
set_option maxRecDepth 100000 in
theorem copyCheck_fresh (b : Nat) (w : World) (h0 : w.cell? ⟨b, 0, none⟩ = some (.pointer none)) (hsh : w.shape? b = some (64, 2)) (hfz : w.frozen? ⟨b, 0, none⟩ = false) :
    Calls Tryd.prog 49 #[.pointer (some ⟨b, 0, none⟩)] w fun e w' => e = .returned (.tuple #[]) ∧ w' = w.setCell ⟨b, 0, none⟩ (.pointer (some ⟨b, 0, none⟩)) := by
  obtain ⟨j, hj, hjs⟩ := Option.map_eq_some_iff.1 (show szT Tryd.prog 64 = some 2 by kernel_rfl)
  go_enter Tryd.func49, Tryd.ntmps49
  go_wp2
  rw [Lib.run_to_unsafe w ⟨b, 0, none⟩ Tryd.underlying62 Tryd.underlying87 hj (by rw [hjs]; decide) hsh (Nat.zero_lt_succ 1)]
  simp only [Result.andThen]
  rw [Oper.upon_value]
  go_wp2
  rw [run_callFunc_extern Tryd.func60 (by kernel_rfl) (by kernel_rfl) (by kernel_rfl) (e := Extern.AbiNoEscape.same) (by kernel_rfl)]
  rw [Lib.run_noEscape]
  simp only [Result.andThen]
  rw [Oper.upon_value]
  go_wp2
  rw [Lib.run_from_unsafe w ⟨b, 0, none⟩ Tryd.underlying87 Tryd.underlying62 hj hsh (by kernel_rfl)]
  simp only [Result.andThen]
  rw [Oper.upon_value]
  go_wp2
  go_end0
  exact ⟨rfl, rfl⟩
set_option maxHeartbeats 1000000 in
set_option maxRecDepth 100000 in
theorem string_run (b g : Nat) (l : List UInt8) (cap : Nat) (w : World) (h0 : l ≠ []) (hb1 : w.cell? ⟨b, 1, none⟩ = some (.slice (some ⟨g, 0, none⟩) l.length cap)) (cells : Nat) (hsh : w.shape? g = some (5, cells)) (hn : l.length ≤ cells) (hc : l.length ≤ cap) (hcm : l.length ≤ 9223372036854775807)
    (hcell : ∀ j x, l[j]? = some x → w.cell? ⟨g, j, none⟩ = some (.int .u8 x.toNat)) :
    Calls Tryd.prog 38 #[.pointer (some ⟨b, 0, none⟩)] w fun e w' => e = .returned (.string ⟨l.toArray⟩) ∧ w' = w.drew.freeze ⟨g, 0, none⟩ l.length := by
  have hl0 : l.length ≠ 0 := by simpa using h0
  have c1 : w.drew.cell? ⟨b, 1, none⟩ = some (.slice (some ⟨g, 0, none⟩) l.length cap) := hb1
  have hSD : (Builtin.unsafeSliceData_ #[23] 79 #[.slice (some ⟨g, 0, none⟩) l.length cap]).run Tryd.prog w.drew = .ok (.pointer (some ⟨g, 0, none⟩)) w.drew :=
    Lib.run_unsafeSliceData_row _ _ _ _ _ _ (by omega)
  have hUS : (Builtin.unsafeString_ #[79, 3] 9 #[.pointer (some ⟨g, 0, none⟩), .int .i64 l.length]).run Tryd.prog w.drew = .ok (.string ⟨l.toArray⟩) (w.drew.freeze ⟨g, 0, none⟩ l.length) :=
    Lib.run_unsafeString_row w.drew 79 3 9 5 Tryd.underlying79 (by kernel_rfl) g cells hsh l h0 hn (by omega) (fun j x hx => by rw [Addr.add_lit, Nat.zero_add]; exact hcell j x hx)
  go_enter Tryd.func38, Tryd.ntmps38
  go_wp2
  go_region
  all_goals (go_wp2; go_ret; exact ⟨rfl, rfl⟩)
end Go.Proofs.YtkjnbdgkpofobaaDoor

/-
  strings.Builder: a family of two objects; what its methods make of it.
-/
namespace Go.Proofs.YtkjnbdgkpofobaaDoor
set_option linter.unusedVariables false
set_option linter.unusedSimpArgs false
open Go Go.G Go.Proofs Go.RowKit Go.PL
/-- A builder: has it been written; its bytes; its row's version. -/
def bdF (a : Bool) (l : List UInt8) (v : Nat) : Fam := ⟨fun r p => if p = [777777, 64] then ⟨1, .cells [if a = true then .pob (r :: [777777, 64]) 1 0 else .v (.pointer none), .osl (r :: [777777, 64, 777777, 5]) v 1 0 l.length]⟩
    else if p = [777777, 64, 777777, 5] then ⟨v, .arr 1 (l.map u8v)⟩ else ⟨0, .none⟩, fun {g δ r r'} hg hd p => by
    by_cases h1 : p = [777777, 64]
    · rw [if_pos h1, if_pos h1]
      refine Fam.cells_ren ?_
      cases a <;> simp [A.renL, A.ren, hg, hd]
    · rw [if_neg h1, if_neg h1]
      by_cases h2 : p = [777777, 64, 777777, 5]
      · rw [if_pos h2]
        refine Fam.arr_ren ?_
        simp [renL_map, A.ren, Function.comp_def]
      · rw [if_neg h2]; rfl, fun {D r} hD p => by
    by_cases h1 : p = [777777, 64]
    · rw [if_pos h1]
      cases a <;> simp [Ob.refs, A.refsL, A.refs, hD]
    · rw [if_neg h1]
      by_cases h2 : p = [777777, 64, 777777, 5]
      · rw [if_pos h2]
        simp [Ob.refs, refsL_iff, A.refs]
      · rw [if_neg h2]; trivial⟩
@[simp] theorem bdF_F {a : Bool} {l : List UInt8} {v r : Nat} {p : Nm} : (bdF a l v).F r p = if p = [777777, 64] then ⟨1, .cells [if a = true then .pob (r :: [777777, 64]) 1 0 else .v (.pointer none), .osl (r :: [777777, 64, 777777, 5]) v 1 0 l.length]⟩
    else if p = [777777, 64, 777777, 5] then ⟨v, .arr 1 (l.map u8v)⟩ else ⟨0, .none⟩ := rfl
abbrev bp (r : Nat) : A := .pob (r :: [777777, 64]) 1 0
theorem copyCheck_spec (a : Bool) (l : List UInt8) (v : Nat) : SpecF Tryd.prog 49 (fun r => [bp r]) (bdF a l v) (fun _ => .tup []) (bdF true l v) := by
  refine ⟨famL_cons famA_pob famL_nil, famA_tup famL_nil, by kernel_rfl, fun w I M0 n μ vs hM hs hl hr => ?_⟩
  have hd : (ov 0 ((bdF a l v).F 0) (lkH []) : Hp) [0, 777777, 64] = ⟨1, .cells [if a = true then .pob [0, 777777, 64] 1 0 else .v (.pointer none), .osl [0, 777777, 64, 777777, 5] v 1 0 l.length]⟩ := by simp
  have hob := hs.ob [0, 777777, 64]
  have hver := hs.ver [0, 777777, 64]
  have hB : hasB (μ [0, 777777, 64]) ((ov 0 ((bdF a l v).F 0) (lkH []) : Hp) [0, 777777, 64]).ob = true := by rw [hd]; rfl
  have htag := hs.tag _ hB
  rw [hd] at hob hver
  obtain ⟨cs, k1, k2, k3⟩ := hob
  simp only [List.length_cons, List.length_nil] at k2
  simp only [tagOK_tag, beq_iff_eq] at htag
  replace htag := htag.symm
  generalize hμ : μ [0, 777777, 64] = L at k1 k2 k3 hver htag hB
  have harg := hr 0 _ rfl
  obtain ⟨b, hb⟩ : ∃ b, b = L.b := ⟨_, rfl⟩
  have hv0 : vs.getD 0 undef = .pointer (some ⟨b, 0, none⟩) := by
    generalize vs.getD 0 undef = x at harg
    cases harg with
    | pob _ _ _ _ b' k' g1 g2 g3 =>
      have := g3 (by rw [hμ, hver])
      rw [hμ] at this
      obtain ⟨rfl, rfl⟩ := this
      rw [hb]
  have hvs : vs = #[.pointer (some ⟨b, 0, none⟩)] := by
    apply Array.ext
    · simpa using hl
    · intro i h1 h2
      have : i = 0 := by simp at h2; omega
      subst this
      have e : vs.getD 0 undef = vs[0] := by simp [h1]
      rw [← e, hv0]; rfl
  subst hvs
  obtain ⟨x0, x1, hcs⟩ : ∃ x0 x1, cs = #[x0, x1] := ⟨cs[0]'(by omega), cs[1]'(by omega), by
    apply Array.ext
    · simpa using k2
    · intro i h1 h2
      match i, h2 with
      | 0, _ => rfl
      | 1, _ => rfl⟩
  subst hcs
  have hx0 := (k3 0 _ rfl).2
  have hx1 := (k3 1 _ rfl).2
  simp only [show (#[x0, x1] : Array Value).getD 0 undef = x0 from rfl] at hx0
  simp only [show (#[x0, x1] : Array Value).getD 1 undef = x1 from rfl] at hx1
  rw [← hb, htag] at k1
  have c0 : w.cell? ⟨b, 0, none⟩ = some x0 := by rw [cell_of_row w b 0 _ _ _ k1]; rfl
  cases a with
  | true =>
    simp only [if_true] at hx0
    have e0 : x0 = .pointer (some ⟨b, 0, none⟩) := by
      cases hx0 with
      | pob _ _ _ _ b' k' g1 g2 g3 =>
        have := g3 (by rw [hμ, hver])
        rw [hμ] at this
        obtain ⟨rfl, rfl⟩ := this
        rw [hb]
    rw [e0] at c0
    refine (copyCheck_used b w c0).mono fun e w' ⟨h1, h2⟩ => ⟨_, h1, _, I, μ, by rw [h2]; exact hs, .tup _ _ _ rfl (fun k y hk => by simp at hk), fun i p hi => rfl⟩
  | false =>
    simp only [Bool.false_eq_true, if_false] at hx0
    have e0 : x0 = .pointer none := by cases hx0; rfl
    rw [e0] at c0
    refine (copyCheck_fresh b w c0 (by simp [World.shape?, k1]) (by simp [World.frozen?, k1])).mono fun e w' ⟨h1, h2⟩ => ?_
    rw [setCell_eq_setRow w b 0 _ _ _ _ k1] at h2
    subst h2
    obtain ⟨hx, hs'⟩ := hs.upd (grownBy_setRow w b (#[x0, x1].setIfInBounds 0 (.pointer (some ⟨b, 0, none⟩)))) [0, 777777, 64] (μ [0, 777777, 64]) (.cells [.pob [0, 777777, 64] 1 0, .osl [0, 777777, 64, 777777, 5] v 1 0 l.length])
      (.inr ⟨by rw [hμ, hb], by rw [hμ]; exact hB⟩) (.inr rfl) (fun _ => .inr ⟨by rw [hμ]; exact hB, rfl⟩) (fun _ => by rw [hμ]; simp [htag]) (fun hx => by
        rw [updM_self] at hx ⊢
        rw [hμ]
        refine ⟨#[.pointer (some ⟨b, 0, none⟩), x1], ?_, rfl, fun k y hk => ?_⟩
        · rw [← hb, htag]
          exact setRow_heap w b _ _ _ _ k1
        · match k, hk with
          | 0, hk =>
            cases hk
            exact ⟨rfl, .pob _ _ _ _ _ _ (Nat.le_refl _) (by rw [hμ, hver]; exact Nat.le_refl _) (fun _ => by rw [hμ, hb]; exact ⟨rfl, rfl⟩)⟩
          | 1, hk =>
            cases hk
            exact ⟨rfl, hx.rel hx1⟩)
    rw [updM_self, hμ, hver] at hs'
    refine ⟨_, h1, _, I, μ, hs', .tup _ _ _ rfl (fun k y hk => by simp at hk), fun i p hi => ?_⟩
    have : i = 0 := by omega
    subst this
    by_cases hp : p = [777777, 64]
    · subst hp; simp
    · rw [updF_ne (by simpa using hp)]
      simp [hp]
/-- Given up. -/
def bdX (v : Nat) : Fam := ⟨fun r p => if p = [777777, 64] then ⟨1, .none⟩ else if p = [777777, 64, 777777, 5] then ⟨v, .none⟩ else ⟨0, .none⟩, fun {g δ r r'} hg hd p => by
    by_cases h1 : p = [777777, 64]
    · rw [if_pos h1]; rfl
    · rw [if_neg h1]
      by_cases h2 : p = [777777, 64, 777777, 5]
      · rw [if_pos h2]; rfl
      · rw [if_neg h2]; rfl, fun {D r} hD p => by
    by_cases h1 : p = [777777, 64]
    · rw [if_pos h1]; trivial
    · rw [if_neg h1]
      by_cases h2 : p = [777777, 64, 777777, 5]
      · rw [if_pos h2]; trivial
      · rw [if_neg h2]; trivial⟩
theorem grownBy_freeze (w : World) (g n : Nat) : w.grownBy (w.drew.freeze ⟨g, 0, none⟩ n) (some g) := by
  unfold World.freeze
  split
  · exact ⟨rfl, rfl, rfl, Nat.le_refl _, fun _ _ _ => rfl⟩
  · refine ⟨rfl, rfl, rfl, ?_, fun k _ hk => ?_⟩
    · show w.heap.size ≤ (w.heap.modify g _).size
      rw [Array.size_modify]
      exact Nat.le_refl _
    · have : g ≠ k := fun e => hk (by rw [e])
      show (w.heap.modify g _)[k]? = w.heap[k]?
      rw [Array.getElem?_modify, if_neg this]
theorem bString_spec (l : List UInt8) (v : Nat) (h0 : l ≠ []) (hl63 : l.length ≤ 9223372036854775807) : SpecF Tryd.prog 38 (fun r => [bp r]) (bdF true l v) (fun _ => S l) (bdX v) := by
  refine ⟨famL_cons famA_pob famL_nil, famA_v, by kernel_rfl, fun w I M0 n μ vs hM hs hl hr => ?_⟩
  have hl0 : l.length ≠ 0 := by simpa using h0
  have hd : (ov 0 ((bdF true l v).F 0) (lkH []) : Hp) [0, 777777, 64] = ⟨1, .cells [.pob [0, 777777, 64] 1 0, .osl [0, 777777, 64, 777777, 5] v 1 0 l.length]⟩ := by simp
  have hd2 : (ov 0 ((bdF true l v).F 0) (lkH []) : Hp) [0, 777777, 64, 777777, 5] = ⟨v, .arr 1 (l.map u8v)⟩ := by simp
  have hob := hs.ob [0, 777777, 64]
  have hver := hs.ver [0, 777777, 64]
  rw [hd] at hob hver
  obtain ⟨cs, k1, k2, k3⟩ := hob
  have hob2 := hs.ob [0, 777777, 64, 777777, 5]
  have hver2 := hs.ver [0, 777777, 64, 777777, 5]
  rw [hd2] at hob2 hver2
  obtain ⟨q0, ⟨_, q1⟩ | ⟨q1, cur, q3, q4, q5, q6, q7⟩⟩ := hob2
  · exact (h0 (by simpa using q1)).elim
  have hB : hasB (μ [0, 777777, 64, 777777, 5]) ((ov 0 ((bdF true l v).F 0) (lkH []) : Hp) [0, 777777, 64, 777777, 5]).ob = true := by rw [hd2]; exact q1
  have htag := hs.tag _ hB
  simp only [tagOK_tag2, beq_iff_eq] at htag
  replace htag := htag.symm
  simp only [List.length_cons, List.length_nil] at k2
  have harg := hr 0 _ rfl
  have hv0 : vs.getD 0 undef = .pointer (some ⟨(μ [0, 777777, 64]).b, 0, none⟩) := by
    generalize vs.getD 0 undef = x at harg
    cases harg with
    | pob _ _ _ _ b' k' g1 g2 g3 =>
      obtain ⟨rfl, rfl⟩ := g3 hver.symm
      rfl
  generalize hb : (μ [0, 777777, 64]).b = b at k1 hv0
  have hvs : vs = #[.pointer (some ⟨b, 0, none⟩)] := by
    apply Array.ext
    · simpa using hl
    · intro i h1 h2
      have : i = 0 := by simp at h2; omega
      subst this
      have e : vs.getD 0 undef = vs[0] := by simp [h1]
      rw [← e, hv0]; rfl
  subst hvs
  have hx1 := (k3 1 _ rfl).2
  have hc1 : w.cell? ⟨b, 1, none⟩ = some (cs.getD 1 undef) := by
    rw [cell_of_row w b 1 _ _ _ k1]
    have : 1 < cs.size := by omega
    simp [this]
  generalize cs.getD 1 undef = x1 at hx1 hc1
  cases hx1 with
  | osl _ _ _ _ _ _ a cap g1 g2 g4 g5 g3 =>
    obtain ⟨_, ⟨e1, _⟩ | ⟨_, rfl, e3⟩⟩ := g3 hver2.symm
    · exact (hl0 e1).elim
    · simp only [Nat.zero_mul] at hc1
      have hflat : (l.map u8v).flatMap A.cells = l.map u8v := bytes_flat l
      have hcell : ∀ j x, l[j]? = some x → w.cell? ⟨(μ [0, 777777, 64, 777777, 5]).b, j, none⟩ = some (.int .u8 x.toNat) := fun j x hx => by
        have hlt := (List.getElem?_eq_some_iff.1 hx).1
        have h1 := (q7 j (u8v x) (by rw [hflat]; simp [hx])).2
        rw [cell_of_row w _ j _ _ _ q3]
        have hj : j < cur.size := by simp at q5; rw [q4]; omega
        have e : cur.getD j undef = cur[j] := by simp [hj]
        rw [e] at h1
        generalize hq : cur[j] = y at h1
        cases h1
        simp [hj, hq]
      have hsh : w.shape? (μ [0, 777777, 64, 777777, 5]).b = some (5, cur.size) := by simp [World.shape?, q3, htag]
      simp only [List.length_map] at q5
      refine (string_run b (μ [0, 777777, 64, 777777, 5]).b l cap w h0 hc1 cur.size hsh (by omega) g4 hl63 hcell).mono fun e w' ⟨h1, h2⟩ => ?_
      subst h2
      obtain ⟨hx, hs'⟩ := hs.upd (grownBy_freeze w (μ [0, 777777, 64, 777777, 5]).b l.length) [0, 777777, 64, 777777, 5] (μ [0, 777777, 64, 777777, 5]) .none (.inr ⟨rfl, hB⟩) (.inr rfl) (fun h => nomatch h) (fun h => nomatch h) (fun _ => trivial)
      rw [updM_self, hver2] at hs'
      have hs2 := hs'.drop [0, 777777, 64]
      refine ⟨_, h1, _, I, μ, hs2, .v _ _, fun i p hi => ?_⟩
      have : i = 0 := by omega
      subst this
      by_cases hp : p = [777777, 64]
      · subst hp
        simp [bdX, updF]
      · rw [updF_ne (by simpa using hp)]
        by_cases hp2 : p = [777777, 64, 777777, 5]
        · subst hp2
          simp [bdX]
        · rw [updF_ne (by simpa using hp2)]
          simp [bdX, hp, hp2]
theorem take_all {α β : Type} (l : List α) (f : α → β) : (l.map f).take l.length = l.map f := by rw [List.take_of_length_le (by simp)]
theorem bd_done {n : Nat} {c : Cx} {l : List UInt8} {v : Nat} {H : Hp} {p : Nm} (hp : H [0, 777777, 64] = ⟨1, .cells [.pob [0, 777777, 64] 1 0, .osl [0, 777777, 64, 777777, 5] v 1 0 l.length]⟩) (h2 : H [0, 777777, 64, 777777, 5] = ⟨v, .arr 1 (l.map u8v)⟩)
    (h3 : ∀ p, p ≠ [777777, 64] → p ≠ [777777, 64, 777777, 5] → H (0 :: p) = ⟨0, .none⟩) : H (0 :: p) = (bdF true l v).F 0 p := by
  rw [bdF_F]
  by_cases h1 : p = [777777, 64]
  · rw [if_pos h1, h1]; exact hp
  · rw [if_neg h1]
    by_cases hq : p = [777777, 64, 777777, 5]
    · rw [if_pos hq, hq]; exact h2
    · rw [if_neg hq]; exact h3 p h1 hq
theorem bByte_spec (a : Bool) (l : List UInt8) (v : Nat) (c : UInt8) (hl : l.length + 1 ≤ 140737488355328) : SpecF Tryd.prog 37 (fun r => [bp r, u8v c]) (bdF a l v) (fun _ => .v .nilIface) (bdF true (l ++ [c]) (v + 1)) := by
  refine specF_of t_strings_Builder_WriteByte (by simp) (famL_cons famA_pob (famL_cons famA_v famL_nil)) famA_v fun w0 I0 M0 m0 => ?_
  unfold c_strings_Builder_WriteByte
  simp
  refine sc_fam 0 (copyCheck_spec a l v) (fun p => by simp) (by simp) (by simp) ?_
  simp [updF_app, take_all, splice]
  refine ⟨by omega, reth_fam rfl rfl fun p => bd_done (n := 0) (c := cxh Tryd.prog w0 I0 M0 17 m0) (by simp [updF_app]) (by simp [updF_app]) (fun p h1 h2 => by simp [updF_app, h1, h2])⟩
end Go.Proofs.YtkjnbdgkpofobaaDoor

/-
  Bytes as digits, by the program; numbers.
-/
namespace Go.Proofs.YtkjnbdgkpofobaaDoor
set_option linter.unusedVariables false
set_option linter.unusedSimpArgs false
open Go Go.G Go.Proofs Go.PL
theorem hexD_get (n : Nat) (h : n < 16) : ([48, 49, 50, 51, 52, 53, 54, 55, 56, 57, 97, 98, 99, 100, 101, 102] : List UInt8)[n]? = some (hexD n) := by
  have : ∀ n : Nat, n < 16 → ([48, 49, 50, 51, 52, 53, 54, 55, 56, 57, 97, 98, 99, 100, 101, 102] : List UInt8)[n]? = some (hexD n) := by decide
  exact this n h
theorem u8_shr4 (c : UInt8) : (c.toNat : Int) / 2 ^ min 4 IntKind.u8.bits = ((c.toNat / 16 : Nat) : Int) := by
  rw [show min 4 IntKind.u8.bits = 4 by decide]; omega
set_option maxRecDepth 100000 in
theorem u8_and15 (c : UInt8) : bits .and .u8 (c.toNat : Int) 15 = ((c.toNat % 16 : Nat) : Int) := by
  have : ∀ n : Nat, n < 256 → bits .and .u8 (n : Int) 15 = ((n % 16 : Nat) : Int) := by decide
  exact this _ c.toNat_lt
theorem hex_l1 {bs : List UInt8} (hl : bs.length ≤ 1000000) {f : Bool} : ∀ (m i v : Nat) (a : Bool), i + m = bs.length → ∀ {n0 : Nat} {w0 : World} {I0 : Nat → Prop} {Q : Exit → Sta → Prop} (H : Hp), (∀ p, H (0 :: p) = (bdF a ((bs.take i).flatMap hex2) v).F 0 p) →
    (∀ (H' : Hp), (∀ p, H' (0 :: p) = (bdF (a || decide (0 < m)) (bs.flatMap hex2) (v + 2 * m)).F 0 p) → Q (.exit 0) ⟨lk [(3, bp 0), (9, u8s f bs), (10, iv bs.length), (11, iv bs.length), (12, bv false)], H'⟩) →
    LoopC (cx Tryd.prog w0 I0 n0) l1_command_Hex Q ⟨lk [(3, bp 0), (9, u8s f bs), (10, iv bs.length), (11, iv i)], H⟩ := by
  intro m
  induction m with
  | zero =>
    intro i v a hi n0 w0 I0 Q H hH hq
    have : i = bs.length := by omega
    subst this
    refine loopC_once mixed l1_command_Hex.eq_1 ?_
    simp
    rw [List.take_length] at hH
    exact hq H (by simpa using hH)
  | succ m ih =>
    intro i v a hi n0 w0 I0 Q H hH hq
    have hlt : i < bs.length := by omega
    have ei : IntKind.i64.wrap ((i : Int) + 1) = ((i + 1 : Nat) : Int) := i64q (by omega) (by omega)
    have hc := bs[i].toNat_lt
    have et : (bs.take (i + 1)).flatMap hex2 = (bs.take i).flatMap hex2 ++ [hexD (bs[i].toNat / 16)] ++ [hexD (bs[i].toNat % 16)] := by
      rw [List.take_succ_eq_append_getElem hlt, List.flatMap_append]; simp [hex2]
    have hlen : ((bs.take i).flatMap hex2).length ≤ 2000000 := by rw [hex2_len]; simp; omega
    have b1 := bByte_spec a ((bs.take i).flatMap hex2) v (hexD (bs[i].toNat / 16)) (by omega)
    have b2 := bByte_spec true ((bs.take i).flatMap hex2 ++ [hexD (bs[i].toNat / 16)]) (v + 1) (hexD (bs[i].toNat % 16)) (by rw [List.length_append, List.length_singleton]; omega)
    refine loopC_once mixed l1_command_Hex.eq_1 ?_
    generalize hx : bs[i] = x at *
    generalize (bs.take i).flatMap hex2 = L at *
    have h1 := hexD_get (x.toNat / 16) (by omega)
    have h2 := hexD_get (x.toNat % 16) (by omega)
    have g0 : (0 : Int) ≤ (x.toNat : Int) / 16 := by omega
    have g1 : ((x.toNat : Int) / 16).toNat = x.toNat / 16 := by omega
    have g2 : (0 : Int) ≤ (x.toNat : Int) % 16 := by omega
    have g3 : ((x.toNat : Int) % 16).toNat = x.toNat % 16 := by omega
    simp [hlt, hx, u8_shr4, g0, g1, h1]
    refine sc_fam 0 b1 (fun p => by simp [hH]) (by simp) (by simp) ?_
    simp [u8_and15, g2, g3, h2]
    refine sc_fam 0 b2 (fun p => by simp) (by simp) (by simp) ?_
    simp [ei]
    refine ih (i + 1) (v + 1 + 1) true (by omega) _ (fun p => ?_) (fun H' g => ?_)
    · rw [et]; simp
    · refine hq H' (fun p => ?_)
      rw [g p, show v + 1 + 1 + 2 * m = v + 2 * (m + 1) by omega]
      simp
theorem hex_spec (f : Bool) (bs : List UInt8) (hl : bs.length ≤ 1000000) : G.Spec Tryd.prog 15 [u8s f bs] (S (hexB bs)) := by
  refine spec_of t_command_Hex (by simp) fun w0 I0 => ?_
  unfold c_command_Hex hexB
  by_cases h0 : bs = []
  · subst h0
    simp
    exact frz_bare rfl
  · have hp : 0 < bs.length := List.length_pos_iff.2 h0
    simp [h0, show ¬ (bs.length : Int) = 0 by omega]
    refine stop_le (le_blankC (d := [0, 777777, 64]) 1 [0, 777777, 64, 777777, 5] 1 rfl rfl (by simp)) (stop_go ?_)
    simp
    refine hex_l1 hl bs.length 0 1 false (by omega) _ (fun p => ?_) (fun H' g => ?_)
    · rw [bdF_F]
      by_cases h1 : p = [777777, 64]
      · subst h1; simp [updF_app, lkH]
      · by_cases h2 : p = [777777, 64, 777777, 5]
        · subst h2; simp [updF_app, lkH]
        · simp [updF_app, lkH, h1, h2, Ne.symm h1, Ne.symm h2]
    · simp
      have hne : bs.flatMap hex2 ≠ [] := by
        intro e
        have := hex2_len bs
        rw [e] at this; simp at this; omega
      have hlen := hex2_len bs
      simp only [hp, decide_true, Bool.false_or] at g
      refine sc_fam 0 (bString_spec (bs.flatMap hex2) (1 + 2 * bs.length) hne (by omega)) (fun p => g p) (by simp) (by simp) ?_
      simp
      exact frz_bare rfl
theorem str_eql {l m : List UInt8} : strA .eql ⟨l.toArray⟩ ⟨m.toArray⟩ = some (bv (decide (l = m))) := by
  unfold strA
  simp only [Lib.toList_data, List.toList_toArray]
  rw [show (l == m) = decide (l = m) by by_cases h : l = m <;> simp [h]]
def numA (s : List UInt8) : A := match num34 s with
  | some n => .tup [iv n, bv true]
  | none => .tup [.any, bv false]
theorem frz_any {H : Hp} {a : A} : Frz H a .any := fun c w I μ v hs hr => .any _ _
theorem frz_no {H : Hp} {a : A} {q : Bool} (h : q = false) : Frz H (.tup [a, bv q]) (.tup [.any, bv false]) := by
  subst h
  exact frz_tup ⟨frz_any, frz_bare rfl, trivial⟩
theorem number_spec (s : List UInt8) (hl : s.length ≤ 1000000) : G.Spec Tryd.prog 34 [S s] (numA s) := by
  refine spec_of t_command_number (by simp) fun w0 I0 => ?_
  unfold c_command_number
  simp
  refine sc_call (atoi_spec s (by omega)) rfl ?_
  obtain ⟨i1, i2⟩ := num34_is s
  unfold atoiA numA
  cases h : Lib.atoiAll s with
  | ok v =>
    obtain ⟨b0, b1⟩ := Lib.atoiAll_bounds h
    simp
    refine sc_call_gt (q := true) rfl (fun _ => itoa_spec v b0 (by omega)) (fun _ => rfl) rfl ?_
    by_cases h1 : Lib.itoa v = s
    · by_cases h2 : 0 ≤ v
      · by_cases h3 : v ≤ 1073741824
        · rw [i1 v h h1 h2 h3]
          simp [str_eql, h1, h2, h3]
          exact frz_is rfl (by simp; omega)
        · have e : num34 s = none := by
            cases e : num34 s with
            | none => rfl
            | some n =>
              obtain ⟨e1, _, e3⟩ := i2 n e
              rw [h] at e1
              injection e1 with e1
              omega
          rw [e]
          simp [str_eql, h1, h2, h3]
          exact frz_no rfl
      · have e : num34 s = none := by
          cases e : num34 s with
          | none => rfl
          | some n =>
            obtain ⟨e1, _, e3⟩ := i2 n e
            rw [h] at e1
            injection e1 with e1
            omega
        rw [e]
        simp [str_eql, h1, h2]
        exact frz_no rfl
    · have e : num34 s = none := by
        cases e : num34 s with
        | none => rfl
        | some n =>
          obtain ⟨e1, e2, e3⟩ := i2 n e
          rw [h] at e1
          injection e1 with e1
          subst e1
          exact (h1 e2).elim
      rw [e]
      simp [str_eql, h1]
      exact frz_no rfl
  | _ =>
    have e : num34 s = none := by
      cases e : num34 s with
      | none => rfl
      | some n =>
        obtain ⟨e1, _, e3⟩ := i2 n e
        rw [h] at e1
        cases e1
    rw [e]
    simp
    refine sc_call_gt (L := []) (x := S []) (q := false) rfl (fun h => by cases h) (fun h => by cases h) rfl ?_
    simp
    exact frz_no rfl
end Go.Proofs.YtkjnbdgkpofobaaDoor

/-
  Digits as bytes, by the program.
-/
namespace Go.Proofs.YtkjnbdgkpofobaaDoor
set_option linter.unusedVariables false
set_option linter.unusedSimpArgs false
open Go Go.G Go.Proofs Go.PL
def hexDs : List UInt8 := [48, 49, 50, 51, 52, 53, 54, 55, 56, 57, 97, 98, 99, 100, 101, 102]
set_option maxRecDepth 100000 in
theorem idxB_hex (c : UInt8) : idxB hexDs c = match hexV c with | some d => (d : Int) | none => -1 := by
  have : ∀ n : Nat, n < 256 → idxB hexDs (UInt8.ofNat n) = match hexV (UInt8.ofNat n) with | some d => (d : Int) | none => -1 := by decide
  have h := this c.toNat c.toNat_lt
  rwa [UInt8.ofNat_toNat] at h
theorem frz_u8 {H : Hp} {o : Nm} {v : Nat} {l : List UInt8} (h : H o = ⟨v, .arr 1 (l.map u8v)⟩) : Frz H (.osl o v 1 0 l.length) (u8s false l) := by
  have := frz_osl (H := H) (o := o) (u := v) (off := 0) (len := l.length) (sz := 1) (xs := l.map u8v) (by simp [h]) (by simp) (by simp [List.take_of_length_le])
  simpa [List.take_of_length_le] using this
def unA34 (s : List UInt8) : A := match unhexB s with
  | some bs => .tup [u8s false bs, bv true]
  | none => .tup [u8s false [], bv false]
section
variable {n0 : Nat} {w0 : World} {I0 : Nat → Prop} {Q : Exit → Sta → Prop}
theorem unhex_l1 {s : List UInt8} (hl : s.length ≤ 1000000) : ∀ (m i v : Nat) (acc : List UInt8) (H : Hp), i + 2 * m = s.length → acc.length ≤ i → H [0] = ⟨v, .arr 1 (acc.map u8v)⟩ →
    (unGo (s.drop i) = none → ∀ H', Q .ret ⟨lk [(2, .sl true []), (3, bv false)], H'⟩) →
    (∀ r, unGo (s.drop i) = some r → ∀ (H' : Hp) (v' : Nat), H' [0] = ⟨v', .arr 1 ((acc ++ r).map u8v)⟩ → Q (.exit 0) ⟨lk [(0, S s), (4, .osl [0] v' 1 0 (acc ++ r).length), (5, iv s.length), (21, bv false)], H'⟩) →
    LoopC (cx Tryd.prog w0 I0 n0) l1_command_Unhex Q ⟨lk [(0, S s), (4, .osl [0] v 1 0 acc.length), (5, iv i)], H⟩ := by
  intro m
  induction m with
  | zero =>
    intro i v acc H hi ha hH h1 h2
    have : i = s.length := by omega
    subst this
    refine loopC_once mixed l1_command_Unhex.eq_1 ?_
    simp
    have := h2 [] (by simp [unGo]) H v (by simpa using hH)
    simpa using this
  | succ m ih =>
    intro i v acc H hi ha hH h1 h2
    have hlt : i < s.length := by omega
    have hlt2 : i + 1 < s.length := by omega
    have e1 : IntKind.i64.wrap ((i : Int) + 1) = ((i + 1 : Nat) : Int) := i64q (by omega) (by omega)
    have e2 : IntKind.i64.wrap ((i : Int) + 2) = ((i + 2 : Nat) : Int) := i64q (by omega) (by omega)
    have ed : s.drop i = s[i] :: s[i + 1] :: s.drop (i + 2) := by
      rw [List.drop_eq_getElem_cons hlt, List.drop_eq_getElem_cons hlt2]
    rw [ed] at h1 h2
    have c1 := idx_spec hexDs s[i]
    have c2 := idx_spec hexDs s[i + 1]
    rw [idxB_hex] at c1 c2
    generalize hx : s[i] = x at *
    generalize hy : s[i + 1] = y at *
    refine loopC_once mixed l1_command_Unhex.eq_1 ?_
    simp [hlt, hx]
    refine sc_call c1 rfl ?_
    simp [e1, hlt2, hy, show (0 : Int) ≤ (i : Int) + 1 by omega, show ((i : Int) + 1).toNat = i + 1 by omega]
    refine sc_call c2 rfl ?_
    cases ex : hexV x with
    | none =>
      simp
      exact h1 (by simp [unGo, ex]) _
    | some a =>
      have ha16 := hexV_lt ex
      cases ey : hexV y with
      | none =>
        simp [show ¬ (a : Int) < 0 by omega]
        exact h1 (by simp [unGo, ex, ey]) _
      | some b =>
        have hb16 := hexV_lt ey
        have f1 : IntKind.i64.wrap (16 * (a : Int)) = 16 * (a : Int) := i64q (by omega) (by omega)
        have f2 : IntKind.i64.wrap (16 * (a : Int) + b) = 16 * (a : Int) + b := i64q (by omega) (by omega)
        have eg : unGo (x :: y :: s.drop (i + 2)) = (unGo (s.drop (i + 2))).map fun r => UInt8.ofNat (16 * a + b) :: r := by
          rw [unGo, ex, ey]
        have f3 : IntKind.u8.wrap (16 * (a : Int) + b) = ((UInt8.ofNat (16 * a + b)).toNat : Int) := by
          rw [IntKind.wrap_u8, UInt8.toNat_ofNat']; omega
        rw [eg] at h1 h2
        generalize UInt8.ofNat (16 * a + b) = z at *
        simp [show ¬ (a : Int) < 0 by omega, show ¬ (b : Int) < 0 by omega, f1, f2, f3, hH]
        refine ⟨by omega, ?_⟩
        rw [e2]
        have := ih (i + 2) (v + 1) (acc ++ [z]) (updF H [0] ⟨v + 1, .arr 1 ((acc ++ [z]).map u8v)⟩) (by omega) (by simp; omega) (by simp) (fun h => h1 (by rw [h]; rfl)) (fun r h H' v' g => by
          have := h2 (z :: r) (by rw [h]; rfl) H' v' (by simpa using g)
          simpa using this)
        rw [List.take_of_length_le (by simp)]
        simpa using this
end
theorem unhex_spec (s : List UInt8) (hl : s.length ≤ 1000000) : G.Spec Tryd.prog 16 [S s] (unA34 s) := by
  refine spec_of t_command_Unhex (by simp) fun w0 I0 => ?_
  unfold c_command_Unhex unA34 unhexB
  by_cases h0 : s = [45]
  · subst h0
    simp [str_eql]
    exact frz_tup ⟨frz_sl, frz_bare rfl, trivial⟩
  · have hm : (s.length : Int).tmod 2 = ((s.length % 2 : Nat) : Int) := by rw [Int.tmod_eq_emod_of_nonneg (by omega)]; omega
    by_cases h1 : s = []
    · subst h1
      simp [str_eql]
      exact frz_tup ⟨frz_sl, frz_bare rfl, trivial⟩
    · by_cases h2 : s.length % 2 = 0
      · simp [str_eql, h0, h1, hm, h2]
        refine LoopC.le (le_blank 4 [0] 1 (by simp)) ?_
        refine LoopC.le (le_list [(0, S s), (4, .osl [0] 1 1 0 ([] : List UInt8).length), (5, iv (0 : Nat))] (by simp [upd])) ?_
        refine unhex_l1 hl (s.length / 2) 0 1 [] _ (by omega) (by simp) (by simp) (fun h H' => ?_) (fun r h H' v' g => ?_)
        · rw [List.drop_zero] at h
          rw [h]
          simp
          exact frz_tup ⟨frz_sl, frz_bare rfl, trivial⟩
        · rw [List.drop_zero] at h
          rw [h]
          simp
          rw [List.nil_append] at g
          exact frz_tup ⟨frz_u8 g, frz_bare rfl, trivial⟩
      · have h3 : s.length % 2 = 1 := by omega
        rw [h3] at hm
        simp [str_eql, h0, h1, hm, h2]
        exact frz_tup ⟨frz_sl, frz_bare rfl, trivial⟩
end Go.Proofs.YtkjnbdgkpofobaaDoor
