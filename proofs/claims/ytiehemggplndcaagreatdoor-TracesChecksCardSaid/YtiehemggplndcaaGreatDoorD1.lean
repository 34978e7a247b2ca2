/-
  The library's functions as they stand in this program: closed facts, written by the kit's tools for this program. Conditions: none.
-/
import Derived.Shelf.Strings.OnBuilder
import Derived.Shelf.Small.Wraps
import Derived.Shelf.LaysM
import Derived.Shelf.Strconv.Itoa4
import Derived.Shelf.LaysC
import Derived.Shelf.Strconv.ParseIntPublic10
import Derived.Shelf.Strings.Replace
import Derived.Shelf.Strings.Search3
import Derived.Shelf.Strings.Prefix
import Derived.Test.YtiehemggplndcaaGreatDoorProg
import Derived.Test.YtiehemggplndcaaGreatDoorC1
import Derived.Test.YtiehemggplndcaaGreatDoorA4
import Derived.KernelRfl
import Derived.Shelf.Strings.Split
import Derived.Shelf.Strings.Count
namespace Go.Proofs
def Tryz.laysM173_ren : Go.Shelf.Ren := ⟨fun | 173 => 64 | 246 => 84 | 283 => 113 | 284 => 114 | 285 => 115 | 286 => 116 | 129 => 153 | 317 => 152 | 318 => 154 | 319 => 155 | 320 => 156 | 337 => 207 | 338 => 208 | n => n, fun | 2 => 2 | 3 => 3 | 9 => 9 | 4 => 4 | 171 => 214 | 0 => 0 | 53 => 215 | 37 => 114 | 5 => 5 | 173 => 218 | 212 => 276 | 51 => 277 | 20 => 20 | 213 => 278 | 46 => 280 | 232 => 415 | 233 => 248 | n => n, fun | 17 => 1 | 18 => 4 | 19 => 5 | n => n⟩
theorem Tryz.laysM173 : Go.Proofs.LaysM.n173 Tryz.prog Tryz.laysM173_ren where
 mixed := by kernel_rfl
 f129 := Tryz.func153.trans (congrArg some (by kernel_rfl))
 f173 := Tryz.func64.trans (congrArg some (by kernel_rfl))
 f246 := Tryz.func84.trans (congrArg some (by kernel_rfl))
 f283 := Tryz.func113.trans (congrArg some (by kernel_rfl))
 f284 := Tryz.func114.trans (congrArg some (by kernel_rfl))
 f285 := Tryz.func115.trans (congrArg some (by kernel_rfl))
 f286 := Tryz.func116.trans (congrArg some (by kernel_rfl))
 f317 := Tryz.func152.trans (congrArg some (by kernel_rfl))
 f318 := Tryz.func154.trans (congrArg some (by kernel_rfl))
 f319 := Tryz.func155.trans (congrArg some (by kernel_rfl))
 f320 := Tryz.func156.trans (congrArg some (by kernel_rfl))
 f337 := Tryz.func207.trans (congrArg some (by kernel_rfl))
 f338 := Tryz.func208.trans (congrArg some (by kernel_rfl))
 t0 := Tryz.underlying0
 a0 := Tryz.isAgg0
 z0 := Tryz.sizeOf0
 v0 := Tryz.zeroValue0
 t2 := Tryz.underlying2
 a2 := Tryz.isAgg2
 z2 := Tryz.sizeOf2
 v2 := Tryz.zeroValue2
 t3 := Tryz.underlying3
 a3 := Tryz.isAgg3
 z3 := Tryz.sizeOf3
 v3 := Tryz.zeroValue3
 t4 := Tryz.underlying4
 a4 := Tryz.isAgg4
 z4 := Tryz.sizeOf4
 v4 := Tryz.zeroValue4
 t5 := Tryz.underlying5
 a5 := Tryz.isAgg5
 z5 := Tryz.sizeOf5
 v5 := Tryz.zeroValue5
 t9 := Tryz.underlying9
 a9 := Tryz.isAgg9
 z9 := Tryz.sizeOf9
 v9 := Tryz.zeroValue9
 t20 := Tryz.underlying20
 a20 := Tryz.isAgg20
 z20 := Tryz.sizeOf20
 v20 := Tryz.zeroValue20
 t37 := Tryz.underlying114
 a37 := Tryz.isAgg114
 z37 := Tryz.sizeOf114
 v37 := Tryz.zeroValue114
 t46 := Tryz.underlying280
 a46 := Tryz.isAgg280
 z46 := Tryz.sizeOf280
 v46 := Tryz.zeroValue280
 t51 := Tryz.underlying277
 a51 := Tryz.isAgg277
 z51 := Tryz.sizeOf277
 v51 := Tryz.zeroValue277
 t53 := Tryz.underlying215
 a53 := Tryz.isAgg215
 z53 := Tryz.sizeOf215
 v53 := Tryz.zeroValue215
 t171 := Tryz.underlying214
 a171 := Tryz.isAgg214
 z171 := Tryz.sizeOf214
 v171 := Tryz.zeroValue214
 t173 := Tryz.underlying218
 a173 := Tryz.isAgg218
 z173 := Tryz.sizeOf218
 v173 := Tryz.zeroValue218
 t212 := Tryz.underlying276
 a212 := Tryz.isAgg276
 z212 := Tryz.sizeOf276
 v212 := Tryz.zeroValue276
 t213 := Tryz.underlying278
 a213 := Tryz.isAgg278
 z213 := Tryz.sizeOf278
 t232 := Tryz.underlying415
 a232 := Tryz.isAgg415
 z232 := Tryz.sizeOf415
 v232 := Tryz.zeroValue415
 t233 := Tryz.underlying248
 a233 := Tryz.isAgg248
 z233 := Tryz.sizeOf248
 v233 := Tryz.zeroValue248
 g17 := by kernel_rfl
 g18 := by kernel_rfl
 g19 := by kernel_rfl
 i0 := by kernel_rfl
 i2 := by kernel_rfl
 i3 := by kernel_rfl
 i4 := by kernel_rfl
 i5 := by kernel_rfl
 i9 := by kernel_rfl
 i20 := by kernel_rfl
 i37 := by kernel_rfl
 i46 := by kernel_rfl
 i51 := by kernel_rfl
 i53 := by kernel_rfl
 i171 := by kernel_rfl
 i173 := by kernel_rfl
 i212 := by kernel_rfl
 i232 := by kernel_rfl
 i233 := by kernel_rfl
 m17 := by kernel_rfl
 m18 := by kernel_rfl
 m19 := by kernel_rfl
def Tryz.lays103_ren : Go.Shelf.Ren := ⟨fun | 103 => 94 | 210 => 128 | 206 => 122 | n => n, fun | 9 => 9 | 4 => 4 | 24 => 157 | 3 => 3 | n => n, fun | n => n⟩
theorem Tryz.lays103 : Go.Proofs.Lays.n103 Tryz.prog Tryz.lays103_ren where
 mixed := by kernel_rfl
 f103 := Tryz.func94.trans (congrArg some (by kernel_rfl))
 f206 := Tryz.func122.trans (congrArg some (by kernel_rfl))
 f210 := Tryz.func128.trans (congrArg some (by kernel_rfl))
 t3 := Tryz.underlying3
 a3 := Tryz.isAgg3
 z3 := Tryz.sizeOf3
 v3 := Tryz.zeroValue3
 t4 := Tryz.underlying4
 a4 := Tryz.isAgg4
 z4 := Tryz.sizeOf4
 v4 := Tryz.zeroValue4
 t9 := Tryz.underlying9
 a9 := Tryz.isAgg9
 z9 := Tryz.sizeOf9
 v9 := Tryz.zeroValue9
 t24 := Tryz.underlying157
 a24 := Tryz.isAgg157
 z24 := Tryz.sizeOf157
 v24 := Tryz.zeroValue157
def Tryz.laysC174_ren : Go.Shelf.Ren := ⟨fun | 174 => 96 | 247 => 129 | 245 => 130 | 287 => 164 | 279 => 165 | 280 => 166 | 281 => 167 | 282 => 168 | 321 => 212 | 322 => 213 | 316 => 214 | 171 => 216 | 205 => 215 | 243 => 270 | 246 => 84 | 283 => 113 | 284 => 114 | 285 => 115 | 286 => 116 | 129 => 153 | 317 => 152 | 318 => 154 | 319 => 155 | 320 => 156 | 337 => 207 | 338 => 208 | n => n, fun | 9 => 9 | 3 => 3 | 2 => 2 | 75 => 119 | 85 => 159 | 4 => 4 | 167 => 286 | 5 => 5 | 53 => 215 | 175 => 287 | 46 => 280 | 168 => 289 | 37 => 114 | 0 => 0 | 210 => 342 | 21 => 21 | 127 => 149 | 145 => 422 | 143 => 420 | 171 => 214 | 173 => 218 | 212 => 276 | 51 => 277 | 20 => 20 | 213 => 278 | 232 => 415 | 233 => 248 | 80 => 70 | n => n, fun | 15 => 2 | 16 => 3 | 17 => 1 | 18 => 4 | 19 => 5 | n => n⟩
theorem Tryz.laysC174 : Go.Proofs.LaysC.n174 Tryz.prog Tryz.laysC174_ren where
 mixed := by kernel_rfl
 f129 := Tryz.func153.trans (congrArg some (by kernel_rfl))
 f171 := Tryz.func216.trans (congrArg some (by kernel_rfl))
 f174 := Tryz.func96.trans (congrArg some (by kernel_rfl))
 f205 := Tryz.func215.trans (congrArg some (by kernel_rfl))
 f243 := Tryz.func270.trans (congrArg some (by kernel_rfl))
 f245 := Tryz.func130.trans (congrArg some (by kernel_rfl))
 f246 := Tryz.func84.trans (congrArg some (by kernel_rfl))
 f247 := Tryz.func129.trans (congrArg some (by kernel_rfl))
 f279 := Tryz.func165.trans (congrArg some (by kernel_rfl))
 f280 := Tryz.func166.trans (congrArg some (by kernel_rfl))
 f281 := Tryz.func167.trans (congrArg some (by kernel_rfl))
 f282 := Tryz.func168.trans (congrArg some (by kernel_rfl))
 f283 := Tryz.func113.trans (congrArg some (by kernel_rfl))
 f284 := Tryz.func114.trans (congrArg some (by kernel_rfl))
 f285 := Tryz.func115.trans (congrArg some (by kernel_rfl))
 f286 := Tryz.func116.trans (congrArg some (by kernel_rfl))
 f287 := Tryz.func164.trans (congrArg some (by kernel_rfl))
 f316 := Tryz.func214.trans (congrArg some (by kernel_rfl))
 f317 := Tryz.func152.trans (congrArg some (by kernel_rfl))
 f318 := Tryz.func154.trans (congrArg some (by kernel_rfl))
 f319 := Tryz.func155.trans (congrArg some (by kernel_rfl))
 f320 := Tryz.func156.trans (congrArg some (by kernel_rfl))
 f321 := Tryz.func212.trans (congrArg some (by kernel_rfl))
 f322 := Tryz.func213.trans (congrArg some (by kernel_rfl))
 f337 := Tryz.func207.trans (congrArg some (by kernel_rfl))
 f338 := Tryz.func208.trans (congrArg some (by kernel_rfl))
 t0 := Tryz.underlying0
 a0 := Tryz.isAgg0
 z0 := Tryz.sizeOf0
 v0 := Tryz.zeroValue0
 t2 := Tryz.underlying2
 a2 := Tryz.isAgg2
 z2 := Tryz.sizeOf2
 v2 := Tryz.zeroValue2
 t3 := Tryz.underlying3
 a3 := Tryz.isAgg3
 z3 := Tryz.sizeOf3
 v3 := Tryz.zeroValue3
 t4 := Tryz.underlying4
 a4 := Tryz.isAgg4
 z4 := Tryz.sizeOf4
 v4 := Tryz.zeroValue4
 t5 := Tryz.underlying5
 a5 := Tryz.isAgg5
 z5 := Tryz.sizeOf5
 v5 := Tryz.zeroValue5
 t9 := Tryz.underlying9
 a9 := Tryz.isAgg9
 z9 := Tryz.sizeOf9
 v9 := Tryz.zeroValue9
 t20 := Tryz.underlying20
 a20 := Tryz.isAgg20
 z20 := Tryz.sizeOf20
 v20 := Tryz.zeroValue20
 t21 := Tryz.underlying21
 a21 := Tryz.isAgg21
 z21 := Tryz.sizeOf21
 v21 := Tryz.zeroValue21
 t37 := Tryz.underlying114
 a37 := Tryz.isAgg114
 z37 := Tryz.sizeOf114
 v37 := Tryz.zeroValue114
 t46 := Tryz.underlying280
 a46 := Tryz.isAgg280
 z46 := Tryz.sizeOf280
 v46 := Tryz.zeroValue280
 t51 := Tryz.underlying277
 a51 := Tryz.isAgg277
 z51 := Tryz.sizeOf277
 v51 := Tryz.zeroValue277
 t53 := Tryz.underlying215
 a53 := Tryz.isAgg215
 z53 := Tryz.sizeOf215
 v53 := Tryz.zeroValue215
 t75 := Tryz.underlying119
 a75 := Tryz.isAgg119
 z75 := Tryz.sizeOf119
 v75 := Tryz.zeroValue119
 t85 := Tryz.underlying159
 a85 := Tryz.isAgg159
 z85 := Tryz.sizeOf159
 v85 := Tryz.zeroValue159
 t127 := Tryz.underlying149
 a127 := Tryz.isAgg149
 z127 := Tryz.sizeOf149
 v127 := Tryz.zeroValue149
 t143 := Tryz.underlying420
 a143 := Tryz.isAgg420
 z143 := Tryz.sizeOf420
 v143 := Tryz.zeroValue420
 t145 := Tryz.underlying422
 a145 := Tryz.isAgg422
 z145 := Tryz.sizeOf422
 v145 := Tryz.zeroValue422
 t167 := Tryz.underlying286
 a167 := Tryz.isAgg286
 z167 := Tryz.sizeOf286
 v167 := Tryz.zeroValue286
 t168 := Tryz.underlying289
 a168 := Tryz.isAgg289
 z168 := Tryz.sizeOf289
 v168 := Tryz.zeroValue289
 t171 := Tryz.underlying214
 a171 := Tryz.isAgg214
 z171 := Tryz.sizeOf214
 v171 := Tryz.zeroValue214
 t173 := Tryz.underlying218
 a173 := Tryz.isAgg218
 z173 := Tryz.sizeOf218
 v173 := Tryz.zeroValue218
 t175 := Tryz.underlying287
 a175 := Tryz.isAgg287
 z175 := Tryz.sizeOf287
 v175 := Tryz.zeroValue287
 t210 := Tryz.underlying342
 a210 := Tryz.isAgg342
 z210 := Tryz.sizeOf342
 v210 := Tryz.zeroValue342
 t212 := Tryz.underlying276
 a212 := Tryz.isAgg276
 z212 := Tryz.sizeOf276
 v212 := Tryz.zeroValue276
 t213 := Tryz.underlying278
 a213 := Tryz.isAgg278
 z213 := Tryz.sizeOf278
 t232 := Tryz.underlying415
 a232 := Tryz.isAgg415
 z232 := Tryz.sizeOf415
 v232 := Tryz.zeroValue415
 t233 := Tryz.underlying248
 a233 := Tryz.isAgg248
 z233 := Tryz.sizeOf248
 v233 := Tryz.zeroValue248
 g15 := by kernel_rfl
 g16 := by kernel_rfl
 g17 := by kernel_rfl
 g18 := by kernel_rfl
 g19 := by kernel_rfl
 t80 := Tryz.underlying70
 a80 := Tryz.isAgg70
 z80 := Tryz.sizeOf70
 v80 := Tryz.zeroValue70
 i0 := by kernel_rfl
 i2 := by kernel_rfl
 i3 := by kernel_rfl
 i4 := by kernel_rfl
 i5 := by kernel_rfl
 i9 := by kernel_rfl
 i20 := by kernel_rfl
 i21 := by kernel_rfl
 i37 := by kernel_rfl
 i46 := by kernel_rfl
 i51 := by kernel_rfl
 i53 := by kernel_rfl
 i75 := by kernel_rfl
 i80 := by kernel_rfl
 i85 := by kernel_rfl
 i127 := by kernel_rfl
 i143 := by kernel_rfl
 i145 := by kernel_rfl
 i167 := by kernel_rfl
 i168 := by kernel_rfl
 i171 := by kernel_rfl
 i173 := by kernel_rfl
 i175 := by kernel_rfl
 i210 := by kernel_rfl
 i212 := by kernel_rfl
 i232 := by kernel_rfl
 i233 := by kernel_rfl
 m15 := by kernel_rfl
 m16 := by kernel_rfl
 m17 := by kernel_rfl
 m18 := by kernel_rfl
 m19 := by kernel_rfl
 c0 := by kernel_rfl
 c2 := by kernel_rfl
 c3 := by kernel_rfl
 c4 := by kernel_rfl
 c5 := by kernel_rfl
 c9 := by kernel_rfl
 c20 := by kernel_rfl
 c21 := by kernel_rfl
 c37 := by kernel_rfl
 c46 := by kernel_rfl
 c51 := by kernel_rfl
 c53 := by kernel_rfl
 c75 := by kernel_rfl
 c80 := by kernel_rfl
 c85 := by kernel_rfl
 c127 := by kernel_rfl
 c143 := by kernel_rfl
 c145 := by kernel_rfl
 c167 := by kernel_rfl
 c168 := by kernel_rfl
 c171 := by kernel_rfl
 c173 := by kernel_rfl
 c175 := by kernel_rfl
 c210 := by kernel_rfl
 c212 := by kernel_rfl
 c213 := by kernel_rfl
 c232 := by kernel_rfl
 c233 := by kernel_rfl
def Tryz.lays156_ren : Go.Shelf.Ren := ⟨fun | 156 => 27 | 165 => 61 | 166 => 62 | 169 => 63 | 240 => 82 | 241 => 83 | 276 => 111 | 277 => 112 | n => n, fun | 31 => 65 | 9 => 9 | 3 => 3 | 4 => 4 | 0 => 0 | 20 => 20 | 72 => 116 | 76 => 120 | 70 => 113 | 37 => 114 | 75 => 119 | 127 => 149 | 164 => 210 | 5 => 5 | 80 => 70 | n => n, fun | n => n⟩
theorem Tryz.lays156 : Go.Proofs.Lays.n156 Tryz.prog Tryz.lays156_ren where
 mixed := by kernel_rfl
 f156 := Tryz.func27.trans (congrArg some (by kernel_rfl))
 f165 := Tryz.func61.trans (congrArg some (by kernel_rfl))
 f166 := Tryz.func62.trans (congrArg some (by kernel_rfl))
 f169 := Tryz.func63.trans (congrArg some (by kernel_rfl))
 f240 := Tryz.func82.trans (congrArg some (by kernel_rfl))
 f241 := Tryz.func83.trans (congrArg some (by kernel_rfl))
 f276 := Tryz.func111.trans (congrArg some (by kernel_rfl))
 f277 := Tryz.func112.trans (congrArg some (by kernel_rfl))
 t0 := Tryz.underlying0
 a0 := Tryz.isAgg0
 z0 := Tryz.sizeOf0
 v0 := Tryz.zeroValue0
 t3 := Tryz.underlying3
 a3 := Tryz.isAgg3
 z3 := Tryz.sizeOf3
 v3 := Tryz.zeroValue3
 t4 := Tryz.underlying4
 a4 := Tryz.isAgg4
 z4 := Tryz.sizeOf4
 v4 := Tryz.zeroValue4
 t9 := Tryz.underlying9
 a9 := Tryz.isAgg9
 z9 := Tryz.sizeOf9
 v9 := Tryz.zeroValue9
 t20 := Tryz.underlying20
 a20 := Tryz.isAgg20
 z20 := Tryz.sizeOf20
 v20 := Tryz.zeroValue20
 t31 := Tryz.underlying65
 a31 := Tryz.isAgg65
 z31 := Tryz.sizeOf65
 v31 := Tryz.zeroValue65
 t37 := Tryz.underlying114
 a37 := Tryz.isAgg114
 z37 := Tryz.sizeOf114
 v37 := Tryz.zeroValue114
 t70 := Tryz.underlying113
 a70 := Tryz.isAgg113
 z70 := Tryz.sizeOf113
 v70 := Tryz.zeroValue113
 t72 := Tryz.underlying116
 a72 := Tryz.isAgg116
 z72 := Tryz.sizeOf116
 v72 := Tryz.zeroValue116
 t75 := Tryz.underlying119
 a75 := Tryz.isAgg119
 z75 := Tryz.sizeOf119
 v75 := Tryz.zeroValue119
 t76 := Tryz.underlying120
 a76 := Tryz.isAgg120
 z76 := Tryz.sizeOf120
 v76 := Tryz.zeroValue120
 t127 := Tryz.underlying149
 a127 := Tryz.isAgg149
 z127 := Tryz.sizeOf149
 v127 := Tryz.zeroValue149
 t164 := Tryz.underlying210
 a164 := Tryz.isAgg210
 z164 := Tryz.sizeOf210
 v164 := Tryz.zeroValue210
theorem Tryz.Builder_Extra_156 : Builder.Extra Tryz.prog Tryz.lays156_ren where
 sizeBuilder := by kernel_rfl
 liesBuilder := by kernel_rfl
 t5 := Tryz.underlying5
 a5 := Tryz.isAgg5
 z5 := Tryz.sizeOf5
 v5 := Tryz.zeroValue5
 infoByte := by kernel_rfl
 cellsByte := by kernel_rfl
 sizeByte := by kernel_rfl
 neB5 := by decide
def Tryz.lays99_ren : Go.Shelf.Ren := ⟨fun | 99 => 91 | 206 => 122 | n => n, fun | 9 => 9 | 4 => 4 | 3 => 3 | n => n, fun | n => n⟩
theorem Tryz.lays99 : Go.Proofs.Lays.n99 Tryz.prog Tryz.lays99_ren where
 mixed := by kernel_rfl
 f99 := Tryz.func91.trans (congrArg some (by kernel_rfl))
 f206 := Tryz.func122.trans (congrArg some (by kernel_rfl))
 t3 := Tryz.underlying3
 a3 := Tryz.isAgg3
 z3 := Tryz.sizeOf3
 v3 := Tryz.zeroValue3
 t4 := Tryz.underlying4
 a4 := Tryz.isAgg4
 z4 := Tryz.sizeOf4
 v4 := Tryz.zeroValue4
 t9 := Tryz.underlying9
 a9 := Tryz.isAgg9
 z9 := Tryz.sizeOf9
 v9 := Tryz.zeroValue9
def Tryz.lays144_ren : Go.Shelf.Ren := ⟨fun | 144 => 127 | 143 => 88 | 219 => 117 | 217 => 157 | 225 => 158 | 224 => 159 | 267 => 160 | 266 => 209 | 314 => 210 | n => n, fun | 9 => 9 | 4 => 4 | 3 => 3 | 5 => 5 | 46 => 280 | 146 => 337 | 51 => 277 | n => n, fun | 1 => 0 | n => n⟩
theorem Tryz.lays144 : Go.Proofs.Lays.n144 Tryz.prog Tryz.lays144_ren where
 mixed := by kernel_rfl
 f143 := Tryz.func88.trans (congrArg some (by kernel_rfl))
 f144 := Tryz.func127.trans (congrArg some (by kernel_rfl))
 f217 := Tryz.func157.trans (congrArg some (by kernel_rfl))
 f219 := Tryz.func117.trans (congrArg some (by kernel_rfl))
 f224 := Tryz.func159.trans (congrArg some (by kernel_rfl))
 f225 := Tryz.func158.trans (congrArg some (by kernel_rfl))
 f266 := Tryz.func209.trans (congrArg some (by kernel_rfl))
 f267 := Tryz.func160.trans (congrArg some (by kernel_rfl))
 f314 := Tryz.func210.trans (congrArg some (by kernel_rfl))
 t3 := Tryz.underlying3
 a3 := Tryz.isAgg3
 z3 := Tryz.sizeOf3
 v3 := Tryz.zeroValue3
 t4 := Tryz.underlying4
 a4 := Tryz.isAgg4
 z4 := Tryz.sizeOf4
 v4 := Tryz.zeroValue4
 t5 := Tryz.underlying5
 a5 := Tryz.isAgg5
 z5 := Tryz.sizeOf5
 v5 := Tryz.zeroValue5
 t9 := Tryz.underlying9
 a9 := Tryz.isAgg9
 z9 := Tryz.sizeOf9
 v9 := Tryz.zeroValue9
 t46 := Tryz.underlying280
 a46 := Tryz.isAgg280
 z46 := Tryz.sizeOf280
 v46 := Tryz.zeroValue280
 t51 := Tryz.underlying277
 a51 := Tryz.isAgg277
 z51 := Tryz.sizeOf277
 v51 := Tryz.zeroValue277
 t146 := Tryz.underlying337
 a146 := Tryz.isAgg337
 z146 := Tryz.sizeOf337
 v146 := Tryz.zeroValue337
 g1 := by kernel_rfl
def Tryz.lays155_ren : Go.Shelf.Ren := ⟨fun | 155 => 123 | 154 => 163 | 138 => 66 | 165 => 61 | 143 => 88 | 166 => 62 | 197 => 161 | 169 => 63 | 195 => 86 | 218 => 87 | 240 => 82 | 241 => 83 | 219 => 117 | 260 => 211 | 276 => 111 | 277 => 112 | 217 => 157 | 225 => 158 | 224 => 159 | 267 => 160 | 266 => 209 | 314 => 210 | n => n, fun | 9 => 9 | 3 => 3 | 4 => 4 | 72 => 116 | 0 => 0 | 76 => 120 | 105 => 282 | 21 => 21 | 5 => 5 | 70 => 113 | 20 => 20 | 37 => 114 | 75 => 119 | 127 => 149 | 164 => 210 | 46 => 280 | 119 => 416 | 139 => 419 | 138 => 418 | 146 => 337 | 51 => 277 | 80 => 70 | n => n, fun | 1 => 0 | 3 => 6 | 4 => 7 | n => n⟩
theorem Tryz.lays155 : Go.Proofs.Lays.n155 Tryz.prog Tryz.lays155_ren where
 mixed := by kernel_rfl
 f138 := Tryz.func66.trans (congrArg some (by kernel_rfl))
 f143 := Tryz.func88.trans (congrArg some (by kernel_rfl))
 f154 := Tryz.func163.trans (congrArg some (by kernel_rfl))
 f155 := Tryz.func123.trans (congrArg some (by kernel_rfl))
 f165 := Tryz.func61.trans (congrArg some (by kernel_rfl))
 f166 := Tryz.func62.trans (congrArg some (by kernel_rfl))
 f169 := Tryz.func63.trans (congrArg some (by kernel_rfl))
 f195 := Tryz.func86.trans (congrArg some (by kernel_rfl))
 f197 := Tryz.func161.trans (congrArg some (by kernel_rfl))
 f217 := Tryz.func157.trans (congrArg some (by kernel_rfl))
 f218 := Tryz.func87.trans (congrArg some (by kernel_rfl))
 f219 := Tryz.func117.trans (congrArg some (by kernel_rfl))
 f224 := Tryz.func159.trans (congrArg some (by kernel_rfl))
 f225 := Tryz.func158.trans (congrArg some (by kernel_rfl))
 f240 := Tryz.func82.trans (congrArg some (by kernel_rfl))
 f241 := Tryz.func83.trans (congrArg some (by kernel_rfl))
 f260 := Tryz.func211.trans (congrArg some (by kernel_rfl))
 f266 := Tryz.func209.trans (congrArg some (by kernel_rfl))
 f267 := Tryz.func160.trans (congrArg some (by kernel_rfl))
 f276 := Tryz.func111.trans (congrArg some (by kernel_rfl))
 f277 := Tryz.func112.trans (congrArg some (by kernel_rfl))
 f314 := Tryz.func210.trans (congrArg some (by kernel_rfl))
 t0 := Tryz.underlying0
 a0 := Tryz.isAgg0
 z0 := Tryz.sizeOf0
 v0 := Tryz.zeroValue0
 t3 := Tryz.underlying3
 a3 := Tryz.isAgg3
 z3 := Tryz.sizeOf3
 v3 := Tryz.zeroValue3
 t4 := Tryz.underlying4
 a4 := Tryz.isAgg4
 z4 := Tryz.sizeOf4
 v4 := Tryz.zeroValue4
 t5 := Tryz.underlying5
 a5 := Tryz.isAgg5
 z5 := Tryz.sizeOf5
 v5 := Tryz.zeroValue5
 t9 := Tryz.underlying9
 a9 := Tryz.isAgg9
 z9 := Tryz.sizeOf9
 v9 := Tryz.zeroValue9
 t20 := Tryz.underlying20
 a20 := Tryz.isAgg20
 z20 := Tryz.sizeOf20
 v20 := Tryz.zeroValue20
 t21 := Tryz.underlying21
 a21 := Tryz.isAgg21
 z21 := Tryz.sizeOf21
 v21 := Tryz.zeroValue21
 t37 := Tryz.underlying114
 a37 := Tryz.isAgg114
 z37 := Tryz.sizeOf114
 v37 := Tryz.zeroValue114
 t46 := Tryz.underlying280
 a46 := Tryz.isAgg280
 z46 := Tryz.sizeOf280
 v46 := Tryz.zeroValue280
 t51 := Tryz.underlying277
 a51 := Tryz.isAgg277
 z51 := Tryz.sizeOf277
 v51 := Tryz.zeroValue277
 t70 := Tryz.underlying113
 a70 := Tryz.isAgg113
 z70 := Tryz.sizeOf113
 v70 := Tryz.zeroValue113
 t72 := Tryz.underlying116
 a72 := Tryz.isAgg116
 z72 := Tryz.sizeOf116
 v72 := Tryz.zeroValue116
 t75 := Tryz.underlying119
 a75 := Tryz.isAgg119
 z75 := Tryz.sizeOf119
 v75 := Tryz.zeroValue119
 t76 := Tryz.underlying120
 a76 := Tryz.isAgg120
 z76 := Tryz.sizeOf120
 v76 := Tryz.zeroValue120
 t105 := Tryz.underlying282
 a105 := Tryz.isAgg282
 z105 := Tryz.sizeOf282
 v105 := Tryz.zeroValue282
 t119 := Tryz.underlying416
 a119 := Tryz.isAgg416
 z119 := Tryz.sizeOf416
 t127 := Tryz.underlying149
 a127 := Tryz.isAgg149
 z127 := Tryz.sizeOf149
 v127 := Tryz.zeroValue149
 t138 := Tryz.underlying418
 a138 := Tryz.isAgg418
 z138 := Tryz.sizeOf418
 v138 := Tryz.zeroValue418
 t139 := Tryz.underlying419
 a139 := Tryz.isAgg419
 z139 := Tryz.sizeOf419
 v139 := Tryz.zeroValue419
 t146 := Tryz.underlying337
 a146 := Tryz.isAgg337
 z146 := Tryz.sizeOf337
 v146 := Tryz.zeroValue337
 t164 := Tryz.underlying210
 a164 := Tryz.isAgg210
 z164 := Tryz.sizeOf210
 v164 := Tryz.zeroValue210
 g1 := by kernel_rfl
 g3 := by kernel_rfl
 g4 := by kernel_rfl
theorem Tryz.Builder_Extra_155 : Builder.Extra Tryz.prog Tryz.lays155_ren where
 sizeBuilder := by kernel_rfl
 liesBuilder := by kernel_rfl
 t5 := Tryz.underlying5
 a5 := Tryz.isAgg5
 z5 := Tryz.sizeOf5
 v5 := Tryz.zeroValue5
 infoByte := by kernel_rfl
 cellsByte := by kernel_rfl
 sizeByte := by kernel_rfl
 neB5 := by decide
end Go.Proofs
namespace Go.Tt
open Go Go.Sx Go.Mg Go.Proofs Go.RowKit Go.Lib Go.Sf
variable {N : Nat}
theorem GK {env : List D} (h : Sorts [false] env) : ∃ n, env = [.i n] := by
 match env, h with
 | [.i n], _ => exact ⟨n, rfl⟩
theorem qqp {env : List D} (h : Sorts [false, false] env) : ∃ n m, env = [.i n, .i m] := by
 match env, h with
 | [.i n, .i m], _ => exact ⟨n, m, rfl⟩
theorem qbL {env : List D} (h : Sorts [true, false, false] env) : ∃ T n m, env = [.t T, .i n, .i m] := by
 match env, h with
 | [.t T, .i n, .i m], _ => exact ⟨T, n, m, rfl⟩
section
variable {I : Itp} {g : G} {a b c : AV} {xs : List Value}
theorem o8 (h : qd I g [a, b] xs) : ∃ x y, xs = [x, y] ∧ Rel I g a x ∧ Rel I g b y := by
 match xs, h with
 | [x, y], ⟨h1, h2, _⟩ => exact ⟨x, y, rfl, h1, h2⟩
theorem qq3 (h : qd I g [a, b, c] xs) : ∃ x y z, xs = [x, y, z] ∧ Rel I g a x ∧ Rel I g b y ∧ Rel I g c z := by
 match xs, h with
 | [x, y, z], ⟨h1, h2, h3, _⟩ => exact ⟨x, y, z, rfl, h1, h2, h3⟩
end
theorem Fe (w : World) (k : Nat) (os : Array Obj) : wJ w (Go.Sort.grow (w.drewN k) os) where
 os := rfl
 output := rfl
 size := by simp [Go.Sort.grow, World.drewN]
 block i hi := by
   show (w.heap ++ os)[i]? = _
   rw [Array.getElem?_append_left hi]
theorem Ls : COk (TI N) Tryz.prog gls XB := by
 refine COk.lib rfl rfl fun g w xs hso hG hm ha hp => ?_
 obtain ⟨env, φ, nb⟩ := g
 obtain ⟨n, rfl⟩ := GK hso
 obtain ⟨x, y, rfl, ⟨n1, h1, rfl⟩, ⟨n2, h2, rfl⟩⟩ := o8 ha
 obtain rfl : n = n1 := D.i.inj (Option.some.inj h1)
 obtain rfl : 10 = n2 := D.i.inj (Option.some.inj h2)
 obtain ⟨m, hm1, hr⟩ := hp _ (List.mem_singleton.2 rfl)
 obtain rfl : n = m := D.i.inj (Option.some.inj hm1)
 have htab : Lib.TabIs Tryz.prog w "internal/strconv.uint64pow10" .u64 Lib.pow10Tab := by
   obtain ⟨_, _, c, T, fr, hh, _, _, hf, _⟩ := hG { g := 1, k := .int .u64, l := TU, full := true } (by simp [gls])
   have hc := hf rfl
   have qv2 : Tryz.prog.globalNamed "internal/strconv.uint64pow10" = some 1 := by kernel_rfl
   have hh : w.heap[1]? = some (.cells c T fr) := hh
   unfold Lib.TabIs World.var?
   rw [qv2]
   simp only [Option.bind_some, hh, hc]
   rfl
 have h : Calls Tryz.prog 64 #[.int .i64 n, .int .i64 10] w _ := Any.strconv_FormatInt_10 Tryz.laysM173 n hr.1 hr.2 w htab
 refine h.mono fun e w' he => ?_
 obtain ⟨rfl, k, os, rfl⟩ := he
 refine ⟨_, [.i (qZ (Lib.itoa n))], rfl, trivial, ⟨qZ (Lib.itoa n), rfl, by rw [qm]⟩, Fe w k os, fun p hp => ?_⟩
 simp only [XB, List.mem_singleton] at hp
 subst hp
 exact ⟨_, rfl, rfl⟩
theorem qkL : COk (TI N) Tryz.prog gls U9 := by
 refine COk.lib rfl rfl fun g w xs hso hG hm ha hp => ?_
 obtain ⟨env, φ, nb⟩ := g
 obtain ⟨n, m, rfl⟩ := qqp hso
 obtain ⟨x, y, rfl, ⟨n1, h1, rfl⟩, ⟨n2, h2, rfl⟩⟩ := o8 ha
 obtain rfl : n = n1 := D.i.inj (Option.some.inj h1)
 obtain rfl : m = n2 := D.i.inj (Option.some.inj h2)
 have h : Calls Tryz.prog 94 #[.string ⟨(qj n).toArray⟩, .string ⟨(qj m).toArray⟩] w _ := Any.strings_CutPrefix Tryz.lays103 ⟨(qj n).toArray⟩ ⟨(qj m).toArray⟩ w
 refine h.mono fun e w' he => ?_
 obtain ⟨rfl, rfl⟩ := he
 refine ⟨_, [.i (trimS n m), .i (hpre n m)], rfl, trivial, ⟨_, rfl, ⟨trimS n m, rfl, ?_⟩, ⟨hpre n m, rfl, ?_⟩, trivial⟩, wJ.refl _, fun p hp => ?_⟩
 · unfold trimS; rw [qm]
 · unfold hpre
   cases Lib.hasPrefix (qj n) (qj m) <;> rfl
 · simp only [U9, List.mem_cons, List.not_mem_nil, or_false] at hp
   rcases hp with rfl | rfl
   · exact ⟨_, rfl, rfl⟩
   · exact ⟨_, rfl, rfl⟩
theorem Bq (w : World) (e : TypeId) (s : ByteArray) : wJ w (Lib.bytesWorld w e s) where
 os := rfl
 output := rfl
 size := by rw [Lib.bytesWorld_size]; omega
 block k hk := Lib.bytesWorld_at_old w e s k hk
theorem TA (l : List UInt8) : I64 (wR l) := by
 unfold wR
 split
 · rename_i v h
   have := parseIntB_bounds h
   simp at this
   exact ⟨by omega, by omega⟩
 · unfold intSat
   split <;> exact ⟨by simp, by simp⟩
 · exact ⟨by omega, by omega⟩
theorem qwq : COk (TI N) Tryz.prog gls Nw := by
 refine COk.lib rfl rfl fun g w xs hso hG hm ha hp => ?_
 obtain ⟨env, φ, nb⟩ := g
 obtain ⟨n, rfl⟩ := GK hso
 obtain ⟨x, y, z, rfl, ⟨n1, h1, rfl⟩, ⟨n2, h2, rfl⟩, ⟨n3, h3, rfl⟩⟩ := qq3 ha
 obtain rfl : n = n1 := D.i.inj (Option.some.inj h1)
 obtain rfl : 10 = n2 := D.i.inj (Option.some.inj h2)
 obtain rfl : 64 = n3 := D.i.inj (Option.some.inj h3)
 obtain ⟨m, hm1, hr⟩ := hp _ (List.mem_singleton.2 rfl)
 have hlen : (qj n).length ≤ 1000000 := by
   have hm1 : (if qy n ≤ 1000000 then (1 : Int) else 0) = m := D.i.inj (Option.some.inj hm1)
   unfold qy at hm1
   by_cases h : (((qj n).length : Nat) : Int) ≤ 1000000
   · omega
   · rw [if_neg h] at hm1; exact absurd hm1.symm hr
 have hsz : (⟨(qj n).toArray⟩ : ByteArray).size = (qj n).length := by
   show (qj n).toArray.size = _
   simp
 have post : ∀ e : Int, e = bA (qj n) → ∀ p ∈ Nw.post, p.den (TI N) ([.i n] ++ [.i (wR (qj n)), .i e]) := by
   rintro e rfl p hp
   simp only [Nw, List.mem_cons, List.not_mem_nil, or_false] at hp
   rcases hp with rfl | rfl | rfl
   · exact ⟨_, rfl, rfl⟩
   · exact ⟨_, rfl, rfl⟩
   · exact ⟨_, rfl, TA _⟩
 cases hc : parseIntB 64 (qj n) with
 | ok v =>
   have h : Calls Tryz.prog 96 #[.string ⟨(qj n).toArray⟩, .int .i64 10, .int .i64 64] w _ := Any.strconv_ParseInt_10_at64_ok Tryz.laysC174 ⟨(qj n).toArray⟩ (by rw [hsz]; omega) v hc w
   refine h.mono fun e w' he => ?_
   obtain ⟨rfl, hw⟩ := he
   have e1 : wR (qj n) = v := by unfold wR; rw [hc]
   have e2 : bA (qj n) = 0 := by unfold bA; rw [hc]
   refine ⟨_, [.i (wR (qj n)), .i 0], rfl, trivial, ⟨_, rfl, ⟨wR (qj n), rfl, by rw [e1]⟩, ⟨0, rfl, .inl ⟨rfl, rfl⟩⟩, trivial⟩, ?_, post 0 e2.symm⟩
   rcases hw with rfl | ⟨t, rfl⟩
   · exact wJ.refl _
   · exact Bq _ _ _
 | range =>
   obtain ⟨_, _, c, T, fr, hh, _, hi, _⟩ := hG { g := 3, k := .int .i64, l := [], ifc := true } (by simp [gls])
   obtain ⟨ev, hev, qw5⟩ := hi rfl
   have h : Calls Tryz.prog 96 #[.string ⟨(qj n).toArray⟩, .int .i64 10, .int .i64 64] w _ := Any.strconv_ParseInt_10_at64_range Tryz.laysC174 ⟨(qj n).toArray⟩ (by rw [hsz]; omega) hc ev w (by rw [← hev]; exact zn hh) qw5
   refine h.mono fun e w' he => ?_
   obtain ⟨M, rfl, _, _, hb⟩ := he
   have e1 : wR (qj n) = intSat 64 (qj n) := by unfold wR; rw [hc]
   have e2 : bA (qj n) = 1 := by unfold bA; rw [hc]
   exact ⟨_, [.i (wR (qj n)), .i 1], rfl, trivial, ⟨_, rfl, ⟨wR (qj n), rfl, by rw [e1]⟩, ⟨1, rfl, .inr ⟨by decide, _, _, rfl⟩⟩, trivial⟩, wJ.below hb, post 1 e2.symm⟩
 | _ =>
   obtain ⟨_, _, c, T, fr, hh, _, hi, _⟩ := hG { g := 2, k := .int .i64, l := [], ifc := true } (by simp [gls])
   obtain ⟨ev, hev, qw5⟩ := hi rfl
   have h : Calls Tryz.prog 96 #[.string ⟨(qj n).toArray⟩, .int .i64 10, .int .i64 64] w _ := Any.strconv_ParseInt_10_at64_syntax Tryz.laysC174 ⟨(qj n).toArray⟩ (by rw [hsz]; omega) hc ev w (by rw [← hev]; exact zn hh) qw5
   refine h.mono fun e w' he => ?_
   obtain ⟨M, rfl, _, _, hb⟩ := he
   have e1 : wR (qj n) = 0 := by unfold wR; rw [hc]
   have e2 : bA (qj n) = 1 := by unfold bA; rw [hc]
   exact ⟨_, [.i (wR (qj n)), .i 1], rfl, trivial, ⟨_, rfl, ⟨wR (qj n), rfl, by rw [e1]⟩, ⟨1, rfl, .inr ⟨by decide, _, _, rfl⟩⟩, trivial⟩, wJ.below hb, post 1 e2.symm⟩
theorem Gx (sep : List UInt8) : ∀ l : List (List UInt8), (∀ w ∈ l, w.length ≤ 1000) → sep.length ≤ 1000 → (Lib.join l sep).length ≤ 2000 * l.length
 | [], _, _ => by simp [Lib.join, List.intercalate]
 | [w], h, _ => by
   have := h w (by simp)
   simp [Lib.join, List.intercalate]
   omega
 | w :: x :: l, h, hs => by
   have h1 := h w (by simp)
   have h2 := Gx sep (x :: l) (fun v hv => h v (by simp [hv])) hs
   have e : Lib.join (w :: x :: l) sep = w ++ sep ++ Lib.join (x :: l) sep := by
     simp [Lib.join, List.intercalate, List.intersperse]
   rw [e]
   simp only [List.length_append, List.length_cons] at h2 ⊢
   omega
theorem DN : COk (TI N) Tryz.prog gls G8 := by
 refine COk.lib rfl rfl fun g w xs hso hG hm ha hp => ?_
 obtain ⟨env, φ, nb⟩ := g
 obtain ⟨T, n, m, rfl⟩ := qbL hso
 obtain ⟨x, y, rfl, hx, ⟨n2, h2, rfl⟩⟩ := o8 ha
 obtain rfl : m = n2 := D.i.inj (Option.some.inj h2)
 obtain ⟨l0, n1, hl0, hn1, _, hn0, hx⟩ := hx
 obtain rfl : 0 = l0 := D.i.inj (Option.some.inj hl0)
 obtain rfl : n = n1 := D.i.inj (Option.some.inj hn1)
 obtain ⟨ds, hds, hS⟩ := hp _ (List.mem_cons_of_mem _ (List.mem_cons_self ..))
 have hds : [D.t T, .i n, .i m] = ds := Option.some.inj hds
 subst hds
 have hS : Short T n m := hS
 have post : ∀ p ∈ G8.post, p.den (TI N) ([.t T, .i n, .i m] ++ [.i (kG T n m)]) := fun p hp => by
   simp only [G8, List.mem_singleton] at hp
   subst hp
   exact ⟨_, rfl, rfl⟩
 rcases hx with ⟨p, cap, hφ, rfl, hcap, htot⟩ | ⟨_, hz, ad, rfl⟩
 · have hb := hm.blk 0 _ rfl
   obtain ⟨f, k, hf, hk, _, hcase⟩ := hb
   obtain rfl : T = f := D.t.inj (Option.some.inj hf)
   obtain rfl : n = k := D.i.inj (Option.some.inj hk)
   have hφ : φ 0 = some p := hφ
   rcases hcase with ⟨p', c, Ty, fr, hφ', hh, hc, _⟩ | ⟨_, _, hnone⟩
   · obtain rfl : p = p' := Option.some.inj (hφ.symm.trans hφ')
     let ts : List ByteArray := (List.range n.toNat).map fun r : Nat => ⟨(qj (T (r : Int) 0)).toArray⟩
     have hts : ts.length = n.toNat := by simp [ts]
     have hmap : ts.map (·.data.toList) = (List.range n.toNat).map fun r : Nat => qj (T (r : Int) 0) := by simp [ts]
     have hcells : ∀ (j : Nat) b, ts[j]? = some b → w.cell? ⟨p.blk, (p.base + (0 : Int).toNat * 1) + j, none⟩ = some (.string b) := fun j b hj => by
       have hjl : j < n.toNat := by rw [← hts]; exact (List.getElem?_eq_some_iff.1 hj).1
       have e := hc j 0 .str hjl rfl
       rw [zn hh]
       have e0 : p.base + (0 : Int).toNat * 1 + j = p.base + j * sK.length + 0 := by simp [sK]
       rw [e0, e]
       simp only [ts, List.getElem?_map, List.getElem?_range hjl, Option.map_some, Option.some.injEq] at hj
       subst hj
       rfl
     have hjl := Gx (qj m) (ts.map (·.data.toList)) (fun v hv => by
       rw [hmap] at hv
       obtain ⟨r, hr, rfl⟩ := List.mem_map.1 hv
       have := hS.2.2 r (by have := List.mem_range.1 hr; omega)
       unfold qy at this
       omega) (by have := hS.2.1; unfold qy at this; omega)
     have hn1000 := hS.1
     rw [List.length_map, hts] at hjl
     have h : Calls Tryz.prog 27 #[.slice (some ⟨p.blk, p.base + (0 : Int).toNat * 1, none⟩) ts.length cap, .string ⟨(qj m).toArray⟩] w _ :=
       Any.strings_Join Tryz.lays156 Tryz.Builder_Extra_156 p.blk (p.base + (0 : Int).toNat * 1) cap ts ⟨(qj m).toArray⟩ w hcells (hm.bnd 0 p hφ) (by rw [hts]; omega) (by rw [hts]; exact hcap) (by show (Lib.join _ (qj m)).length ≤ _; omega)
     rw [hts] at h
     refine h.mono fun e w' he => ?_
     obtain ⟨rfl, hb⟩ := he
     refine ⟨_, [.i (kG T n m)], rfl, trivial, ⟨kG T n m, rfl, ?_⟩, wJ.below hb, post⟩
     unfold kG
     rw [qm, hmap]
   · have hnone : φ 0 = none := hnone
     rw [hφ] at hnone; cases hnone
 · subst hz
   have h : Calls Tryz.prog 27 #[.slice ad 0 0, .string ⟨(qj m).toArray⟩] w _ := Any.strings_Join_none Tryz.lays156 Tryz.Builder_Extra_156 ad 0 ⟨(qj m).toArray⟩ w
   refine h.mono fun e w' he => ?_
   obtain ⟨rfl, rfl⟩ := he
   refine ⟨_, [.i (kG T 0 m)], rfl, trivial, ⟨kG T 0 m, rfl, ?_⟩, wJ.refl _, post⟩
   unfold kG
   rw [qm]
   simp [Lib.join, List.intercalate]
theorem qwx : COk (TI N) Tryz.prog gls Iy := by
 refine COk.lib rfl rfl fun g w xs hso hG hm ha hp => ?_
 obtain ⟨env, φ, nb⟩ := g
 obtain ⟨n, m, rfl⟩ := qqp hso
 obtain ⟨x, y, rfl, ⟨n1, h1, rfl⟩, ⟨n2, h2, rfl⟩⟩ := o8 ha
 obtain rfl : n = n1 := D.i.inj (Option.some.inj h1)
 obtain rfl : m = n2 := D.i.inj (Option.some.inj h2)
 have h : Calls Tryz.prog 91 #[.string ⟨(qj n).toArray⟩, .string ⟨(qj m).toArray⟩] w _ := Any.strings_HasPrefix Tryz.lays99 ⟨(qj n).toArray⟩ ⟨(qj m).toArray⟩ w
 refine h.mono fun e w' he => ?_
 obtain ⟨rfl, rfl⟩ := he
 refine ⟨_, [.i (hpre n m)], rfl, trivial, ⟨hpre n m, rfl, ?_⟩, wJ.refl _, fun p hp => ?_⟩
 · unfold hpre
   cases Lib.hasPrefix (qj n) (qj m) <;> rfl
 · simp only [Iy, List.mem_singleton] at hp
   subst hp
   exact ⟨_, rfl, rfl⟩
theorem eX {I : Itp} {g : G} {l : List UInt8} {x : Value} (h : Rel I g (.str l) x) : x = .string ⟨l.toArray⟩ := by
 obtain ⟨b, rfl, rfl⟩ := h
 obtain ⟨d⟩ := b
 simp
theorem qyh (l : List UInt8) (c : UInt8) : decide (0 ≤ Lib.indexByte l c) = decide (c ∈ l) := by
 by_cases h : c ∈ l
 · obtain ⟨i, hi⟩ := List.getElem?_of_mem h
   have h0 := Lib.indexByte_ge l c
   have h1 : Lib.indexByte l c ≠ -1 := fun e => Lib.indexByte_none e i hi
   rw [decide_eq_true h, decide_eq_true (by omega)]
 · have : ¬ 0 ≤ Lib.indexByte l c := fun h0 => by
     obtain ⟨o, ho⟩ := Int.eq_ofNat_of_zero_le h0
     exact h (List.mem_of_getElem? (Lib.indexByte_some ho).1)
   rw [decide_eq_false h, decide_eq_false this]
theorem qwg : COk (TI N) Tryz.prog gls Ig := by
 refine COk.lib rfl rfl fun g w xs hso hG hm ha hp => ?_
 obtain ⟨env, φ, nb⟩ := g
 obtain ⟨n, rfl⟩ := GK hso
 obtain ⟨x, y, rfl, ⟨n1, h1, rfl⟩, hy⟩ := o8 ha
 obtain rfl : y = .string ⟨#[34]⟩ := eX hy
 obtain rfl : n = n1 := D.i.inj (Option.some.inj h1)
 have h : Calls Tryz.prog 127 #[.string ⟨(qj n).toArray⟩, .string ⟨#[34]⟩] w _ := Any.strings_Contains_one Tryz.lays144 ⟨(qj n).toArray⟩ 34 w
 refine h.mono fun e w' he => ?_
 obtain ⟨rfl, rfl⟩ := he
 refine ⟨_, [.i (hasB n 34)], rfl, trivial, ⟨hasB n 34, rfl, ?_⟩, wJ.refl _, fun p hp => ?_⟩
 · rw [qyh]
   unfold hasB
   show Value.bool (decide ((34 : UInt8) ∈ qj n)) = Value.bool (decide ((if (34 : UInt8) ∈ qj n then (1 : Int) else 0) ≠ 0))
   by_cases hc : (34 : UInt8) ∈ qj n
   · rw [if_pos hc, decide_eq_true hc]; rfl
   · rw [if_neg hc, decide_eq_false hc]; rfl
 · simp only [Ig, List.mem_singleton] at hp
   subst hp
   exact ⟨_, rfl, rfl⟩
theorem l5 {old new : List UInt8} (c : Nat) (hc : 1 ≤ c) (hn : new.length ≤ c * old.length) : ∀ (k : Nat) (s : List UInt8), (Lib.replaceK old new k s).length ≤ c * s.length
 | 0, s => by simp only [Lib.replaceK]; exact Nat.le_mul_of_pos_left _ hc
 | k + 1, s => by
   by_cases h : Lib.index s old = -1
   · simp only [Lib.replaceK, h]; simp; exact Nat.le_mul_of_pos_left _ hc
   · have h0 := Lib.index_ge s old
     have hr := Lib.index_room s old (by omega)
     obtain ⟨i, hi⟩ := Int.eq_ofNat_of_zero_le (show 0 ≤ Lib.index s old by omega)
     rw [Lib.replaceK_hit old new k s i hi]
     have ih := l5 c hc hn k (s.drop (i + old.length))
     simp only [List.length_append, List.length_take, List.length_drop] at ih ⊢
     obtain ⟨t, ht⟩ : ∃ t, s.length = i + old.length + t := ⟨s.length - (i + old.length), by omega⟩
     rw [ht, show i + old.length + t - (i + old.length) = t by omega] at ih
     rw [ht, Nat.mul_add, Nat.mul_add]
     have := Nat.le_mul_of_pos_left i hc
     omega
theorem QF {old new : List UInt8} (c : Nat) (hc : 1 ≤ c) (hn : new.length ≤ c * old.length) (s : List UInt8) : (Lib.replaceAll s old new).length ≤ c * s.length := by
 unfold Lib.replaceAll Lib.replace
 split
 · exact Nat.le_mul_of_pos_left _ hc
 · exact l5 c hc hn _ s
theorem KQ {a b k : Int} (h : (if a ≤ b then (1 : Int) else 0) = k) (h0 : k ≠ 0) : a ≤ b := by
 by_cases hab : a ≤ b
 · exact hab
 · rw [if_neg hab] at h; exact absurd h.symm h0
theorem qq7 {old new : List UInt8} (c : Nat) (hc : 1 ≤ c) (hn : new.length ≤ c * old.length) (ho : 1 ≤ old.length) (hnl : new.length ≤ 2) (B : Int) (hB : (c : Int) * 10000 ≤ B) :
   COk (TI N) Tryz.prog gls { c0 with fn := 123, sorts := [false], args := [str (v 0), .str old, .str new], pre := [eLe (sln (v 0)) (.lit 10000)], outs := [false], res := str (v 1), post := [eLe (sln (v 1)) (.lit B)] } := by
 refine COk.lib rfl rfl fun g w xs hso hG hm ha hp => ?_
 obtain ⟨env, φ, nb⟩ := g
 obtain ⟨n, rfl⟩ := GK hso
 obtain ⟨x, y, z, rfl, ⟨n1, h1, rfl⟩, hy, hz⟩ := qq3 ha
 obtain rfl : y = .string ⟨old.toArray⟩ := eX hy
 obtain rfl : z = .string ⟨new.toArray⟩ := eX hz
 obtain rfl : n = n1 := D.i.inj (Option.some.inj h1)
 have hsz : ∀ l : List UInt8, (⟨l.toArray⟩ : ByteArray).size = l.length := fun l => by
   show l.toArray.size = _
   simp
 have hl1 : (qj n).length ≤ 10000 := by
   obtain ⟨k, hk, hk0⟩ := hp _ (List.mem_cons_self ..)
   have : qy n ≤ 10000 := KQ (D.i.inj (Option.some.inj hk)) hk0
   unfold qy at this
   omega
 obtain ⟨_, _, cs, T, fr, hh, _, _, _, hi⟩ := hG { g := 0, k := .int .i64, l := [], ity := true } (by simp [gls])
 obtain ⟨mv, hmv⟩ := hi rfl
 have hcnt := Lib.countB_mul_le ⟨old.toArray⟩ (by rw [hsz]; exact ho) _ ⟨(qj n).toArray⟩ (Nat.le_refl _)
 have h : Calls Tryz.prog 123 #[.string ⟨(qj n).toArray⟩, .string ⟨old.toArray⟩, .string ⟨new.toArray⟩] w _ := Any.strings_ReplaceAll Tryz.lays155 Tryz.Builder_Extra_155 ⟨(qj n).toArray⟩ ⟨old.toArray⟩ ⟨new.toArray⟩ mv w (by rw [hsz]; omega)
   (by rw [← hmv]; exact zn hh) (by rw [hsz]; exact ho) (by
     simp only [hsz] at hcnt ⊢
     have h2 : Lib.countB ⟨(qj n).toArray⟩ ⟨old.toArray⟩ ≤ 10000 := by
       have := Nat.le_mul_of_pos_right (Lib.countB ⟨(qj n).toArray⟩ ⟨old.toArray⟩) ho
       omega
     have h3 : Lib.countB ⟨(qj n).toArray⟩ ⟨old.toArray⟩ * new.length ≤ 10000 * 2 := Nat.mul_le_mul h2 hnl
     omega)
 refine h.mono fun e w' he => ?_
 obtain ⟨rfl, hb⟩ := he
 refine ⟨_, [.i (qZ (Lib.replaceAll (qj n) old new))], rfl, trivial, ⟨qZ (Lib.replaceAll (qj n) old new), rfl, by rw [qm]⟩, wJ.below hb, fun p hp => ?_⟩
 rw [List.mem_singleton] at hp
 subst hp
 have hlen := QF c hc hn (qj n)
 have hle : qy (qZ (Lib.replaceAll (qj n) old new)) ≤ B := by
   rw [zP]
   have : c * (qj n).length ≤ c * 10000 := Nat.mul_le_mul_left c hl1
   have : ((c * 10000 : Nat) : Int) = (c : Int) * 10000 := by simp
   omega
 exact ⟨if qy (qZ (Lib.replaceAll (qj n) old new)) ≤ B then 1 else 0, rfl, by rw [if_pos hle]; decide⟩
theorem qk8 : COk (TI N) Tryz.prog gls qzo := qq7 1 (by decide) (by decide) (by decide) (by decide) 10000 (by decide)
theorem qk7 : COk (TI N) Tryz.prog gls qzi := qq7 2 (by decide) (by decide) (by decide) (by decide) 20000 (by decide)
end Go.Tt
namespace Go.Proofs
def Tryz.lays146_ren : Go.Shelf.Ren := ⟨fun | 146 => 67 | 221 => 89 | 268 => 118 | 138 => 66 | 143 => 88 | 195 => 86 | 197 => 161 | 218 => 87 | 219 => 117 | 260 => 211 | 217 => 157 | 225 => 158 | 224 => 159 | 267 => 160 | 266 => 209 | 314 => 210 | n => n, fun | 9 => 9 | 31 => 65 | 3 => 3 | 4 => 4 | 0 => 0 | 105 => 282 | 21 => 21 | 5 => 5 | 46 => 280 | 119 => 416 | 139 => 419 | 138 => 418 | 146 => 337 | 51 => 277 | n => n, fun | 1 => 0 | 3 => 6 | 4 => 7 | n => n⟩
theorem Tryz.lays146 : Go.Proofs.Lays.n146 Tryz.prog Tryz.lays146_ren where
 mixed := by kernel_rfl
 f138 := Tryz.func66.trans (congrArg some (by kernel_rfl))
 f143 := Tryz.func88.trans (congrArg some (by kernel_rfl))
 f146 := Tryz.func67.trans (congrArg some (by kernel_rfl))
 f195 := Tryz.func86.trans (congrArg some (by kernel_rfl))
 f197 := Tryz.func161.trans (congrArg some (by kernel_rfl))
 f217 := Tryz.func157.trans (congrArg some (by kernel_rfl))
 f218 := Tryz.func87.trans (congrArg some (by kernel_rfl))
 f219 := Tryz.func117.trans (congrArg some (by kernel_rfl))
 f221 := Tryz.func89.trans (congrArg some (by kernel_rfl))
 f224 := Tryz.func159.trans (congrArg some (by kernel_rfl))
 f225 := Tryz.func158.trans (congrArg some (by kernel_rfl))
 f260 := Tryz.func211.trans (congrArg some (by kernel_rfl))
 f266 := Tryz.func209.trans (congrArg some (by kernel_rfl))
 f267 := Tryz.func160.trans (congrArg some (by kernel_rfl))
 f268 := Tryz.func118.trans (congrArg some (by kernel_rfl))
 f314 := Tryz.func210.trans (congrArg some (by kernel_rfl))
 t0 := Tryz.underlying0
 a0 := Tryz.isAgg0
 z0 := Tryz.sizeOf0
 v0 := Tryz.zeroValue0
 t3 := Tryz.underlying3
 a3 := Tryz.isAgg3
 z3 := Tryz.sizeOf3
 v3 := Tryz.zeroValue3
 t4 := Tryz.underlying4
 a4 := Tryz.isAgg4
 z4 := Tryz.sizeOf4
 v4 := Tryz.zeroValue4
 t5 := Tryz.underlying5
 a5 := Tryz.isAgg5
 z5 := Tryz.sizeOf5
 v5 := Tryz.zeroValue5
 t9 := Tryz.underlying9
 a9 := Tryz.isAgg9
 z9 := Tryz.sizeOf9
 v9 := Tryz.zeroValue9
 t21 := Tryz.underlying21
 a21 := Tryz.isAgg21
 z21 := Tryz.sizeOf21
 v21 := Tryz.zeroValue21
 t31 := Tryz.underlying65
 a31 := Tryz.isAgg65
 z31 := Tryz.sizeOf65
 v31 := Tryz.zeroValue65
 t46 := Tryz.underlying280
 a46 := Tryz.isAgg280
 z46 := Tryz.sizeOf280
 v46 := Tryz.zeroValue280
 t51 := Tryz.underlying277
 a51 := Tryz.isAgg277
 z51 := Tryz.sizeOf277
 v51 := Tryz.zeroValue277
 t105 := Tryz.underlying282
 a105 := Tryz.isAgg282
 z105 := Tryz.sizeOf282
 v105 := Tryz.zeroValue282
 t119 := Tryz.underlying416
 a119 := Tryz.isAgg416
 z119 := Tryz.sizeOf416
 t138 := Tryz.underlying418
 a138 := Tryz.isAgg418
 z138 := Tryz.sizeOf418
 v138 := Tryz.zeroValue418
 t139 := Tryz.underlying419
 a139 := Tryz.isAgg419
 z139 := Tryz.sizeOf419
 v139 := Tryz.zeroValue419
 t146 := Tryz.underlying337
 a146 := Tryz.isAgg337
 z146 := Tryz.sizeOf337
 v146 := Tryz.zeroValue337
 g1 := by kernel_rfl
 g3 := by kernel_rfl
 g4 := by kernel_rfl
def Tryz.lays100_ren : Go.Shelf.Ren := ⟨fun | 100 => 65 | 207 => 85 | n => n, fun | 9 => 9 | 4 => 4 | 3 => 3 | n => n, fun | n => n⟩
theorem Tryz.lays100 : Go.Proofs.Lays.n100 Tryz.prog Tryz.lays100_ren where
 mixed := by kernel_rfl
 f100 := Tryz.func65.trans (congrArg some (by kernel_rfl))
 f207 := Tryz.func85.trans (congrArg some (by kernel_rfl))
 t3 := Tryz.underlying3
 a3 := Tryz.isAgg3
 z3 := Tryz.sizeOf3
 v3 := Tryz.zeroValue3
 t4 := Tryz.underlying4
 a4 := Tryz.isAgg4
 z4 := Tryz.sizeOf4
 v4 := Tryz.zeroValue4
 t9 := Tryz.underlying9
 a9 := Tryz.isAgg9
 z9 := Tryz.sizeOf9
 v9 := Tryz.zeroValue9
def Tryz.lays138_ren : Go.Shelf.Ren := ⟨fun | 138 => 66 | 195 => 86 | 218 => 87 | 143 => 88 | 219 => 117 | 217 => 157 | 225 => 158 | 224 => 159 | 267 => 160 | 266 => 209 | 314 => 210 | n => n, fun | 9 => 9 | 3 => 3 | 4 => 4 | 5 => 5 | 0 => 0 | 46 => 280 | 146 => 337 | 51 => 277 | n => n, fun | 1 => 0 | n => n⟩
theorem Tryz.lays138 : Go.Proofs.Lays.n138 Tryz.prog Tryz.lays138_ren where
 mixed := by kernel_rfl
 f138 := Tryz.func66.trans (congrArg some (by kernel_rfl))
 f143 := Tryz.func88.trans (congrArg some (by kernel_rfl))
 f195 := Tryz.func86.trans (congrArg some (by kernel_rfl))
 f217 := Tryz.func157.trans (congrArg some (by kernel_rfl))
 f218 := Tryz.func87.trans (congrArg some (by kernel_rfl))
 f219 := Tryz.func117.trans (congrArg some (by kernel_rfl))
 f224 := Tryz.func159.trans (congrArg some (by kernel_rfl))
 f225 := Tryz.func158.trans (congrArg some (by kernel_rfl))
 f266 := Tryz.func209.trans (congrArg some (by kernel_rfl))
 f267 := Tryz.func160.trans (congrArg some (by kernel_rfl))
 f314 := Tryz.func210.trans (congrArg some (by kernel_rfl))
 t0 := Tryz.underlying0
 a0 := Tryz.isAgg0
 z0 := Tryz.sizeOf0
 v0 := Tryz.zeroValue0
 t3 := Tryz.underlying3
 a3 := Tryz.isAgg3
 z3 := Tryz.sizeOf3
 v3 := Tryz.zeroValue3
 t4 := Tryz.underlying4
 a4 := Tryz.isAgg4
 z4 := Tryz.sizeOf4
 v4 := Tryz.zeroValue4
 t5 := Tryz.underlying5
 a5 := Tryz.isAgg5
 z5 := Tryz.sizeOf5
 v5 := Tryz.zeroValue5
 t9 := Tryz.underlying9
 a9 := Tryz.isAgg9
 z9 := Tryz.sizeOf9
 v9 := Tryz.zeroValue9
 t46 := Tryz.underlying280
 a46 := Tryz.isAgg280
 z46 := Tryz.sizeOf280
 v46 := Tryz.zeroValue280
 t51 := Tryz.underlying277
 a51 := Tryz.isAgg277
 z51 := Tryz.sizeOf277
 v51 := Tryz.zeroValue277
 t146 := Tryz.underlying337
 a146 := Tryz.isAgg337
 z146 := Tryz.sizeOf337
 v146 := Tryz.zeroValue337
 g1 := by kernel_rfl
end Go.Proofs
namespace Go.Tt
open Go Go.Sx Go.Mg Go.Proofs Go.RowKit Go.Lib Go.Sf
variable {N : Nat}
theorem Ew : COk (TI N) Tryz.prog gls FN := by
 refine COk.qgD rfl rfl fun g w xs hso hG hm ha hp hnb => ?_
 obtain ⟨env, φ, nb⟩ := g
 obtain ⟨n, m, rfl⟩ := qqp hso
 obtain ⟨x, y, rfl, ⟨n1, h1, rfl⟩, ⟨n2, h2, rfl⟩⟩ := o8 ha
 obtain rfl : n = n1 := D.i.inj (Option.some.inj h1)
 obtain rfl : m = n2 := D.i.inj (Option.some.inj h2)
 have le : ∀ {a b k : Int}, (if a ≤ b then (1 : Int) else 0) = k → k ≠ 0 → a ≤ b := fun {a b k} h h0 => by
   by_cases hab : a ≤ b
   · exact hab
   · rw [if_neg hab] at h; exact absurd h.symm h0
 have hl1 : (qj n).length ≤ 1000000 := by
   obtain ⟨k, hk, hk0⟩ := hp _ (List.mem_cons_self ..)
   have : qy n ≤ 1000000 := le (D.i.inj (Option.some.inj hk)) hk0
   unfold qy at this
   omega
 have hl2 : 1 ≤ (qj m).length := by
   obtain ⟨k, hk, hk0⟩ := hp _ (List.mem_cons_of_mem _ (List.mem_cons_self ..))
   have : 1 ≤ qy m := le (D.i.inj (Option.some.inj hk)) hk0
   unfold qy at this
   omega
 obtain ⟨_, _, c, T, fr, hh, _, _, _, hi⟩ := hG { g := 0, k := .int .i64, l := [], ity := true } (by simp [gls])
 obtain ⟨mv, hmv⟩ := hi rfl
 have hsz : ∀ l : List UInt8, (⟨l.toArray⟩ : ByteArray).size = l.length := fun l => by
   show l.toArray.size = _
   simp
 have h : Calls Tryz.prog 67 #[.string ⟨(qj n).toArray⟩, .string ⟨(qj m).toArray⟩] w _ := Any.strings_Split Tryz.lays146 (by kernel_rfl) ⟨(qj n).toArray⟩ ⟨(qj m).toArray⟩ mv w (by rw [hsz]; omega)
   (by rw [← hmv]; exact zn hh) (by rw [hsz]; exact hl2)
 have hdata := splitB_data ⟨(qj m).toArray⟩ 0 (Lib.countB ⟨(qj n).toArray⟩ ⟨(qj m).toArray⟩) ⟨(qj n).toArray⟩
 have hall := splitB_all ⟨(qj m).toArray⟩ (by rw [hsz]; exact hl2) 0 _ ⟨(qj n).toArray⟩ rfl
 have hsplit : (splitB ⟨(qj m).toArray⟩ 0 (Lib.countB ⟨(qj n).toArray⟩ ⟨(qj m).toArray⟩) ⟨(qj n).toArray⟩).map (·.data.toList) = Lib.split (qj n) (qj m) := hdata
 have hlen : (Lib.split (qj n) (qj m)).length = Lib.countB ⟨(qj n).toArray⟩ ⟨(qj m).toArray⟩ + 1 := by rw [← hsplit, List.length_map, hall]
 generalize splitB ⟨(qj m).toArray⟩ 0 (Lib.countB ⟨(qj n).toArray⟩ ⟨(qj m).toArray⟩) ⟨(qj n).toArray⟩ = L at h hsplit hall
 generalize Lib.countB ⟨(qj n).toArray⟩ ⟨(qj m).toArray⟩ = q at h hall hlen
 refine h.mono fun e w' he => ?_
 obtain ⟨rfl, rfl⟩ := he
 have hN : Qi n m = ((q + 1 : Nat) : Int) := by unfold Qi; rw [hlen]
 have hLl : L.length = q + 1 := hall
 let p : PB := { blk := w.heap.size, base := 0, tot := q + 1 }
 let g1 : G := (G.vars ⟨[.i n, .i m], φ, nb⟩ [.t (WI n m), .i (Qi n m)]).lay (some p)
 have hφ : g1.φ nb = some p := by simp [g1, G.lay, G.vars]
 refine ⟨_, [.t (WI n m), .i (Qi n m)], .cells (L.map Value.string).toArray 9, p, w, rfl, trivial, wJ.refl _, rfl, rfl, ?_, ?_, fun p hp => ?_⟩
 · refine ⟨0, Qi n m, rfl, rfl, by omega, by rw [hN]; omega, .inl ⟨p, q + 1, ?_, ?_, by rw [hN]; omega, by simp [p]⟩⟩
   · have : nb = 0 := hnb
     subst this
     exact hφ
   · rw [hN]
     simp [p]
 · refine ⟨WI n m, Qi n m, rfl, rfl, by rw [hN]; omega, .inl ⟨p, (L.map Value.string).toArray, 9, (0, 0), hφ, ?_, ?_, ?_⟩⟩
   · show (w.heap.push _)[w.heap.size]? = _
     exact Array.getElem?_push_size
   · intro r j k hr hk
     have hj : j = 0 ∧ k = .str := by
       cases j with
       | zero => simp [sK] at hk; exact ⟨rfl, hk.symm⟩
       | succ j => simp [sK] at hk
     obtain ⟨rfl, rfl⟩ := hj
     rw [hN] at hr
     have hr' : r < L.length := by omega
     have hs : (Lib.split (qj n) (qj m))[r]? = some (L[r].data.toList) := by rw [← hsplit, List.getElem?_map, List.getElem?_eq_getElem hr']; rfl
     have e0 : p.base + r * sK.length + 0 = r := by simp [p, sK]
     rw [e0, List.getElem?_toArray, List.getElem?_map, List.getElem?_eq_getElem hr']
     show some (Value.string L[r]) = some (.string ⟨(qj (WI n m r 0)).toArray⟩)
     unfold WI
     rw [qm, List.getD_eq_getElem?_getD, Int.toNat_natCast, hs]
     simp
   · intro _
     refine ⟨.inl rfl, by simp [p, hLl], ?_⟩
     rw [hN]
     simp [p, sK]
 · simp only [FN, List.mem_cons, List.not_mem_nil, or_false] at hp
   rcases hp with rfl | rfl | rfl
   · exact ⟨_, rfl, rfl⟩
   · exact ⟨_, rfl, rfl⟩
   · refine ⟨if 1 ≤ Qi n m then 1 else 0, rfl, ?_⟩
     rw [hN, if_pos (by omega)]; decide
theorem qwy : COk (TI N) Tryz.prog gls Iw := by
 refine COk.lib rfl rfl fun g w xs hso hG hm ha hp => ?_
 obtain ⟨env, φ, nb⟩ := g
 obtain ⟨n, m, rfl⟩ := qqp hso
 obtain ⟨x, y, rfl, ⟨n1, h1, rfl⟩, ⟨n2, h2, rfl⟩⟩ := o8 ha
 obtain rfl : n = n1 := D.i.inj (Option.some.inj h1)
 obtain rfl : m = n2 := D.i.inj (Option.some.inj h2)
 have hl1 : (qj n).length ≤ 1000000 := by
   obtain ⟨k, hk, hk0⟩ := hp _ (List.mem_cons_self ..)
   have : qy n ≤ 1000000 := KQ (D.i.inj (Option.some.inj hk)) hk0
   unfold qy at this
   omega
 have h : Calls Tryz.prog 65 #[.string ⟨(qj n).toArray⟩, .string ⟨(qj m).toArray⟩] w _ := Any.strings_HasSuffix Tryz.lays100 ⟨(qj n).toArray⟩ ⟨(qj m).toArray⟩ w (by show (qj n).toArray.size ≤ _; simp; omega)
 refine h.mono fun e w' he => ?_
 obtain ⟨rfl, rfl⟩ := he
 refine ⟨_, [.i (Fu n m)], rfl, trivial, ⟨Fu n m, rfl, ?_⟩, wJ.refl _, fun p hp => ?_⟩
 · unfold Fu
   cases Lib.hasSuffix (qj n) (qj m) <;> rfl
 · simp only [Iw, List.mem_singleton] at hp
   subst hp
   exact ⟨_, rfl, rfl⟩
theorem En : COk (TI N) Tryz.prog gls FR := by
 refine COk.lib rfl rfl fun g w xs hso hG hm ha hp => ?_
 obtain ⟨env, φ, nb⟩ := g
 obtain ⟨n, rfl⟩ := GK hso
 obtain ⟨x, y, rfl, ⟨n1, h1, rfl⟩, hy⟩ := o8 ha
 obtain rfl : y = .string ⟨#[10]⟩ := eX hy
 obtain rfl : n = n1 := D.i.inj (Option.some.inj h1)
 have h : Calls Tryz.prog 66 #[.string ⟨(qj n).toArray⟩, .string ⟨#[10]⟩] w _ := Any.strings_Count_one Tryz.lays138 ⟨(qj n).toArray⟩ 10 w
 refine h.mono fun e w' he => ?_
 obtain ⟨rfl, rfl⟩ := he
 refine ⟨_, [.i (RO n 10)], rfl, trivial, ⟨RO n 10, rfl, rfl⟩, wJ.refl _, fun p hp => ?_⟩
 simp only [FR, List.mem_singleton] at hp
 subst hp
 exact ⟨_, rfl, rfl⟩
end Go.Tt
