/- A part of a proof: several texts in one. -/
import Derived.Test.YthnnmgkacjjpeaaGreatDoorNc2
import Derived.Ground.SlsfProg
import Derived.Shelf.SlSortCmp.WholeK
import Derived.Shelf.Strings.Builder1
import Derived.Shelf.Strings.Builder2
import Derived.Shelf.Strings.OnBuilder
import Derived.Shelf.Small.Bits
import Derived.Shelf.Strconv.Atoi
import Derived.Shelf.Strconv.Itoa0
import Derived.Shelf.Strconv.Itoa1
import Derived.Shelf.LaysM
import Derived.Shelf.Strconv.Itoa2
import Derived.Shelf.Strconv.Itoa3
import Derived.Shelf.Strconv.AtoiErrFast
import Derived.Shelf.Strconv.ParseIntEmpty
import Derived.Shelf.Strconv.AtoiFail
import Derived.Shelf.Strconv.Clone
import Derived.Shelf.Strconv.SyntaxError
import Derived.Shelf.LaysC
import Derived.Shelf.Strconv.ToError
import Derived.Shelf.Strconv.Lower
import Derived.Shelf.Strconv.ParseUint10
import Derived.Shelf.Strconv.ParseUint10Empty
import Derived.Shelf.Strconv.ParseUint10Any
import Derived.Shelf.Strconv.ParseInt10
import Derived.Shelf.Strconv.AtoiLong
import Derived.Shelf.Strconv.AtoiInnerAll
import Derived.Shelf.Strconv.RangeError
import Derived.Shelf.Strconv.ToErrorRange
import Derived.Shelf.Strconv.AtoiAll
import Derived.Shelf.Strings.Search1
import Derived.Shelf.Strings.Search2
import Derived.Shelf.Strings.Search3
import Derived.Shelf.Strings.Cut
import Derived.Shelf.Strings.Count
import Derived.Shelf.Strings.Shaped
import Derived.Shelf.Sort.Plain
import Derived.Shelf.Strings.LastIndex
import Derived.Shelf.Strings.Prefix
import Derived.Shelf.Strings.Split
import Derived.Shelf.Unicode.DecodeSlow
import Derived.Ground.Names2Prog
import Derived.Shelf.Slices.ReverseS
import Derived.Shelf.Slices.CompactI
import Derived.Shelf.Slices.SearchI
import Derived.Shelf.Slices.Cells
import Derived.Shelf.Slices.In.SortNone
import Derived.Test.YthnnmgkacjjpeaaGreatDoorProg
import Derived.Below
import Derived.Sort.AssemblyPlain
import Derived.Lib.BitFns
import Derived.Shelf.GgSortFunc.InsertionK
import Derived.Shelf.SlSortCmp.NoneTotal
set_option maxRecDepth 1000000
set_option maxHeartbeats 8000000
set_option linter.unusedVariables false
set_option linter.unusedSimpArgs false
noncomputable section
namespace Go.Proofs
open Go.Proofs.Tryz
open Go.Shelf
def Tryz.lays169_ren :Go.Shelf.Ren:=⟨fun | 169=>75 | n=>n,fun | 70=>72 | 9=>9 | 0=>0 | 72=>75 | 37=>73 | 127=>181 | 3=>3 | 5=>5 | n=>n,fun | n=>n⟩
theorem Tryz.lays169 :Go.Proofs.Lays.n169 prog Tryz.lays169_ren:={
 mixed:=by kernel_rfl
 f169:=Tryz.func75.trans (congrArg some (by kernel_rfl))
 t0:=Tryz.underlying0
 a0:=Tryz.isAgg0
 z0:=Tryz.sizeOf0
 v0:=Tryz.zeroValue0
 t3:=Tryz.underlying3
 a3:=Tryz.isAgg3
 z3:=Tryz.sizeOf3
 v3:=Tryz.zeroValue3
 t9:=Tryz.underlying9
 a9:=Tryz.isAgg9
 z9:=Tryz.sizeOf9
 v9:=Tryz.zeroValue9
 t37:=Tryz.underlying73
 a37:=Tryz.isAgg73
 z37:=Tryz.sizeOf73
 v37:=Tryz.zeroValue73
 t70:=Tryz.underlying72
 a70:=Tryz.isAgg72
 z70:=Tryz.sizeOf72
 v70:=Tryz.zeroValue72
 t72:=Tryz.underlying75
 a72:=Tryz.isAgg75
 z72:=Tryz.sizeOf75
 v72:=Tryz.zeroValue75
 t127:=Tryz.underlying181
 a127:=Tryz.isAgg181
 z127:=Tryz.sizeOf181
 v127:=Tryz.zeroValue181}
theorem Tryz.Builder_Extra_169 :Builder.Extra prog Tryz.lays169_ren:={
 sizeBuilder:=by kernel_rfl
 liesBuilder:=by kernel_rfl
 t5:=Tryz.underlying5
 a5:=Tryz.isAgg5
 z5:=Tryz.sizeOf5
 v5:=Tryz.zeroValue5
 infoByte:=by kernel_rfl
 cellsByte:=by kernel_rfl
 sizeByte:=by kernel_rfl
 neB5:=by decide}
def Tryz.lays156_ren :Go.Shelf.Ren:=⟨fun | 156=>73 | 165=>111 | 166=>68 | 169=>75 | 240=>108 | 241=>147 | 276=>145 | 277=>179 | n=>n,fun | 31=>70 | 9=>9 | 3=>3 | 4=>4 | 0=>0 | 20=>20 | 72=>75 | 76=>125 | 70=>72 | 37=>73 | 75=>124 | 127=>181 | 164=>210 | 5=>5 | 80=>134 | n=>n,fun | n=>n⟩
theorem Tryz.lays156 :Go.Proofs.Lays.n156 prog Tryz.lays156_ren:={
 mixed:=by kernel_rfl
 f156:=Tryz.func73.trans (congrArg some (by kernel_rfl))
 f165:=Tryz.func111.trans (congrArg some (by kernel_rfl))
 f166:=Tryz.func68.trans (congrArg some (by kernel_rfl))
 f169:=Tryz.func75.trans (congrArg some (by kernel_rfl))
 f240:=Tryz.func108.trans (congrArg some (by kernel_rfl))
 f241:=Tryz.func147.trans (congrArg some (by kernel_rfl))
 f276:=Tryz.func145.trans (congrArg some (by kernel_rfl))
 f277:=Tryz.func179.trans (congrArg some (by kernel_rfl))
 t0:=Tryz.underlying0
 a0:=Tryz.isAgg0
 z0:=Tryz.sizeOf0
 v0:=Tryz.zeroValue0
 t3:=Tryz.underlying3
 a3:=Tryz.isAgg3
 z3:=Tryz.sizeOf3
 v3:=Tryz.zeroValue3
 t4:=Tryz.underlying4
 a4:=Tryz.isAgg4
 z4:=Tryz.sizeOf4
 v4:=Tryz.zeroValue4
 t9:=Tryz.underlying9
 a9:=Tryz.isAgg9
 z9:=Tryz.sizeOf9
 v9:=Tryz.zeroValue9
 t20:=Tryz.underlying20
 a20:=Tryz.isAgg20
 z20:=Tryz.sizeOf20
 v20:=Tryz.zeroValue20
 t31:=Tryz.underlying70
 a31:=Tryz.isAgg70
 z31:=Tryz.sizeOf70
 v31:=Tryz.zeroValue70
 t37:=Tryz.underlying73
 a37:=Tryz.isAgg73
 z37:=Tryz.sizeOf73
 v37:=Tryz.zeroValue73
 t70:=Tryz.underlying72
 a70:=Tryz.isAgg72
 z70:=Tryz.sizeOf72
 v70:=Tryz.zeroValue72
 t72:=Tryz.underlying75
 a72:=Tryz.isAgg75
 z72:=Tryz.sizeOf75
 v72:=Tryz.zeroValue75
 t75:=Tryz.underlying124
 a75:=Tryz.isAgg124
 z75:=Tryz.sizeOf124
 v75:=Tryz.zeroValue124
 t76:=Tryz.underlying125
 a76:=Tryz.isAgg125
 z76:=Tryz.sizeOf125
 v76:=Tryz.zeroValue125
 t127:=Tryz.underlying181
 a127:=Tryz.isAgg181
 z127:=Tryz.sizeOf181
 v127:=Tryz.zeroValue181
 t164:=Tryz.underlying210
 a164:=Tryz.isAgg210
 z164:=Tryz.sizeOf210
 v164:=Tryz.zeroValue210}
theorem Tryz.Builder_Extra_156 :Builder.Extra prog Tryz.lays156_ren:={
 sizeBuilder:=by kernel_rfl
 liesBuilder:=by kernel_rfl
 t5:=Tryz.underlying5
 a5:=Tryz.isAgg5
 z5:=Tryz.sizeOf5
 v5:=Tryz.zeroValue5
 infoByte:=by kernel_rfl
 cellsByte:=by kernel_rfl
 sizeByte:=by kernel_rfl
 neB5:=by decide}
def Tryz.laysM171_ren :Go.Shelf.Ren:=⟨fun | 171=>70 | 243=>109 | 246=>146 | 283=>175 | 284=>176 | 285=>177 | 286=>178 | 129=>207 | 317=>206 | 318=>208 | 319=>209 | 320=>210 | 337=>234 | 338=>235 | n=>n,fun | 3=>3 | 9=>9 | 2=>2 | 4=>4 | 171=>246 | 0=>0 | 53=>247 | 37=>73 | 5=>5 | 173=>250 | 212=>282 | 51=>283 | 20=>20 | 213=>284 | 46=>262 | 232=>324 | 233=>325 | n=>n,fun | 17=>3 | 18=>6 | 19=>7 | n=>n⟩
theorem Tryz.laysM171 :Go.Proofs.LaysM.n171 prog Tryz.laysM171_ren:={
 mixed:=by kernel_rfl
 f129:=Tryz.func207.trans (congrArg some (by kernel_rfl))
 f171:=Tryz.func70.trans (congrArg some (by kernel_rfl))
 f243:=Tryz.func109.trans (congrArg some (by kernel_rfl))
 f246:=Tryz.func146.trans (congrArg some (by kernel_rfl))
 f283:=Tryz.func175.trans (congrArg some (by kernel_rfl))
 f284:=Tryz.func176.trans (congrArg some (by kernel_rfl))
 f285:=Tryz.func177.trans (congrArg some (by kernel_rfl))
 f286:=Tryz.func178.trans (congrArg some (by kernel_rfl))
 f317:=Tryz.func206.trans (congrArg some (by kernel_rfl))
 f318:=Tryz.func208.trans (congrArg some (by kernel_rfl))
 f319:=Tryz.func209.trans (congrArg some (by kernel_rfl))
 f320:=Tryz.func210.trans (congrArg some (by kernel_rfl))
 f337:=Tryz.func234.trans (congrArg some (by kernel_rfl))
 f338:=Tryz.func235.trans (congrArg some (by kernel_rfl))
 t0:=Tryz.underlying0
 a0:=Tryz.isAgg0
 z0:=Tryz.sizeOf0
 v0:=Tryz.zeroValue0
 t2:=Tryz.underlying2
 a2:=Tryz.isAgg2
 z2:=Tryz.sizeOf2
 v2:=Tryz.zeroValue2
 t3:=Tryz.underlying3
 a3:=Tryz.isAgg3
 z3:=Tryz.sizeOf3
 v3:=Tryz.zeroValue3
 t4:=Tryz.underlying4
 a4:=Tryz.isAgg4
 z4:=Tryz.sizeOf4
 v4:=Tryz.zeroValue4
 t5:=Tryz.underlying5
 a5:=Tryz.isAgg5
 z5:=Tryz.sizeOf5
 v5:=Tryz.zeroValue5
 t9:=Tryz.underlying9
 a9:=Tryz.isAgg9
 z9:=Tryz.sizeOf9
 v9:=Tryz.zeroValue9
 t20:=Tryz.underlying20
 a20:=Tryz.isAgg20
 z20:=Tryz.sizeOf20
 v20:=Tryz.zeroValue20
 t37:=Tryz.underlying73
 a37:=Tryz.isAgg73
 z37:=Tryz.sizeOf73
 v37:=Tryz.zeroValue73
 t46:=Tryz.underlying262
 a46:=Tryz.isAgg262
 z46:=Tryz.sizeOf262
 v46:=Tryz.zeroValue262
 t51:=Tryz.underlying283
 a51:=Tryz.isAgg283
 z51:=Tryz.sizeOf283
 v51:=Tryz.zeroValue283
 t53:=Tryz.underlying247
 a53:=Tryz.isAgg247
 z53:=Tryz.sizeOf247
 v53:=Tryz.zeroValue247
 t171:=Tryz.underlying246
 a171:=Tryz.isAgg246
 z171:=Tryz.sizeOf246
 v171:=Tryz.zeroValue246
 t173:=Tryz.underlying250
 a173:=Tryz.isAgg250
 z173:=Tryz.sizeOf250
 v173:=Tryz.zeroValue250
 t212:=Tryz.underlying282
 a212:=Tryz.isAgg282
 z212:=Tryz.sizeOf282
 v212:=Tryz.zeroValue282
 t213:=Tryz.underlying284
 a213:=Tryz.isAgg284
 z213:=Tryz.sizeOf284
 t232:=Tryz.underlying324
 a232:=Tryz.isAgg324
 z232:=Tryz.sizeOf324
 v232:=Tryz.zeroValue324
 t233:=Tryz.underlying325
 a233:=Tryz.isAgg325
 z233:=Tryz.sizeOf325
 v233:=Tryz.zeroValue325
 g17:=by kernel_rfl
 g18:=by kernel_rfl
 g19:=by kernel_rfl
 i0:=by kernel_rfl
 i2:=by kernel_rfl
 i3:=by kernel_rfl
 i4:=by kernel_rfl
 i5:=by kernel_rfl
 i9:=by kernel_rfl
 i20:=by kernel_rfl
 i37:=by kernel_rfl
 i46:=by kernel_rfl
 i51:=by kernel_rfl
 i53:=by kernel_rfl
 i171:=by kernel_rfl
 i173:=by kernel_rfl
 i212:=by kernel_rfl
 i232:=by kernel_rfl
 i233:=by kernel_rfl
 m17:=by kernel_rfl
 m18:=by kernel_rfl
 m19:=by kernel_rfl}
def Tryz.laysC172_ren :Go.Shelf.Ren:=⟨fun | 172=>85 | 244=>123 | 245=>124 | 247=>156 | 279=>157 | 280=>158 | 281=>159 | 282=>160 | 287=>192 | 316=>193 | 171=>70 | 205=>194 | 321=>213 | 322=>214 | 243=>109 | 246=>146 | 283=>175 | 284=>176 | 285=>177 | 286=>178 | 129=>207 | 317=>206 | 318=>208 | 319=>209 | 320=>210 | 337=>234 | 338=>235 | n=>n,fun | 9=>9 | 3=>3 | 75=>124 | 76=>125 | 4=>4 | 5=>5 | 167=>219 | 37=>73 | 0=>0 | 85=>220 | 2=>2 | 168=>222 | 53=>247 | 175=>263 | 46=>262 | 210=>267 | 127=>181 | 145=>294 | 143=>292 | 21=>21 | 171=>246 | 173=>250 | 212=>282 | 51=>283 | 20=>20 | 213=>284 | 232=>324 | 233=>325 | 80=>134 | n=>n,fun | 15=>1 | 16=>2 | 17=>3 | 18=>6 | 19=>7 | n=>n⟩
theorem Tryz.laysC172 :Go.Proofs.LaysC.n172 prog Tryz.laysC172_ren:={
 mixed:=by kernel_rfl
 f129:=Tryz.func207.trans (congrArg some (by kernel_rfl))
 f171:=Tryz.func70.trans (congrArg some (by kernel_rfl))
 f172:=Tryz.func85.trans (congrArg some (by kernel_rfl))
 f205:=Tryz.func194.trans (congrArg some (by kernel_rfl))
 f243:=Tryz.func109.trans (congrArg some (by kernel_rfl))
 f244:=Tryz.func123.trans (congrArg some (by kernel_rfl))
 f245:=Tryz.func124.trans (congrArg some (by kernel_rfl))
 f246:=Tryz.func146.trans (congrArg some (by kernel_rfl))
 f247:=Tryz.func156.trans (congrArg some (by kernel_rfl))
 f279:=Tryz.func157.trans (congrArg some (by kernel_rfl))
 f280:=Tryz.func158.trans (congrArg some (by kernel_rfl))
 f281:=Tryz.func159.trans (congrArg some (by kernel_rfl))
 f282:=Tryz.func160.trans (congrArg some (by kernel_rfl))
 f283:=Tryz.func175.trans (congrArg some (by kernel_rfl))
 f284:=Tryz.func176.trans (congrArg some (by kernel_rfl))
 f285:=Tryz.func177.trans (congrArg some (by kernel_rfl))
 f286:=Tryz.func178.trans (congrArg some (by kernel_rfl))
 f287:=Tryz.func192.trans (congrArg some (by kernel_rfl))
 f316:=Tryz.func193.trans (congrArg some (by kernel_rfl))
 f317:=Tryz.func206.trans (congrArg some (by kernel_rfl))
 f318:=Tryz.func208.trans (congrArg some (by kernel_rfl))
 f319:=Tryz.func209.trans (congrArg some (by kernel_rfl))
 f320:=Tryz.func210.trans (congrArg some (by kernel_rfl))
 f321:=Tryz.func213.trans (congrArg some (by kernel_rfl))
 f322:=Tryz.func214.trans (congrArg some (by kernel_rfl))
 f337:=Tryz.func234.trans (congrArg some (by kernel_rfl))
 f338:=Tryz.func235.trans (congrArg some (by kernel_rfl))
 t0:=Tryz.underlying0
 a0:=Tryz.isAgg0
 z0:=Tryz.sizeOf0
 v0:=Tryz.zeroValue0
 t2:=Tryz.underlying2
 a2:=Tryz.isAgg2
 z2:=Tryz.sizeOf2
 v2:=Tryz.zeroValue2
 t3:=Tryz.underlying3
 a3:=Tryz.isAgg3
 z3:=Tryz.sizeOf3
 v3:=Tryz.zeroValue3
 t4:=Tryz.underlying4
 a4:=Tryz.isAgg4
 z4:=Tryz.sizeOf4
 v4:=Tryz.zeroValue4
 t5:=Tryz.underlying5
 a5:=Tryz.isAgg5
 z5:=Tryz.sizeOf5
 v5:=Tryz.zeroValue5
 t9:=Tryz.underlying9
 a9:=Tryz.isAgg9
 z9:=Tryz.sizeOf9
 v9:=Tryz.zeroValue9
 t20:=Tryz.underlying20
 a20:=Tryz.isAgg20
 z20:=Tryz.sizeOf20
 v20:=Tryz.zeroValue20
 t21:=Tryz.underlying21
 a21:=Tryz.isAgg21
 z21:=Tryz.sizeOf21
 v21:=Tryz.zeroValue21
 t37:=Tryz.underlying73
 a37:=Tryz.isAgg73
 z37:=Tryz.sizeOf73
 v37:=Tryz.zeroValue73
 t46:=Tryz.underlying262
 a46:=Tryz.isAgg262
 z46:=Tryz.sizeOf262
 v46:=Tryz.zeroValue262
 t51:=Tryz.underlying283
 a51:=Tryz.isAgg283
 z51:=Tryz.sizeOf283
 v51:=Tryz.zeroValue283
 t53:=Tryz.underlying247
 a53:=Tryz.isAgg247
 z53:=Tryz.sizeOf247
 v53:=Tryz.zeroValue247
 t75:=Tryz.underlying124
 a75:=Tryz.isAgg124
 z75:=Tryz.sizeOf124
 v75:=Tryz.zeroValue124
 t76:=Tryz.underlying125
 a76:=Tryz.isAgg125
 z76:=Tryz.sizeOf125
 v76:=Tryz.zeroValue125
 t85:=Tryz.underlying220
 a85:=Tryz.isAgg220
 z85:=Tryz.sizeOf220
 v85:=Tryz.zeroValue220
 t127:=Tryz.underlying181
 a127:=Tryz.isAgg181
 z127:=Tryz.sizeOf181
 v127:=Tryz.zeroValue181
 t143:=Tryz.underlying292
 a143:=Tryz.isAgg292
 z143:=Tryz.sizeOf292
 v143:=Tryz.zeroValue292
 t145:=Tryz.underlying294
 a145:=Tryz.isAgg294
 z145:=Tryz.sizeOf294
 v145:=Tryz.zeroValue294
 t167:=Tryz.underlying219
 a167:=Tryz.isAgg219
 z167:=Tryz.sizeOf219
 v167:=Tryz.zeroValue219
 t168:=Tryz.underlying222
 a168:=Tryz.isAgg222
 z168:=Tryz.sizeOf222
 v168:=Tryz.zeroValue222
 t171:=Tryz.underlying246
 a171:=Tryz.isAgg246
 z171:=Tryz.sizeOf246
 v171:=Tryz.zeroValue246
 t173:=Tryz.underlying250
 a173:=Tryz.isAgg250
 z173:=Tryz.sizeOf250
 v173:=Tryz.zeroValue250
 t175:=Tryz.underlying263
 a175:=Tryz.isAgg263
 z175:=Tryz.sizeOf263
 v175:=Tryz.zeroValue263
 t210:=Tryz.underlying267
 a210:=Tryz.isAgg267
 z210:=Tryz.sizeOf267
 v210:=Tryz.zeroValue267
 t212:=Tryz.underlying282
 a212:=Tryz.isAgg282
 z212:=Tryz.sizeOf282
 v212:=Tryz.zeroValue282
 t213:=Tryz.underlying284
 a213:=Tryz.isAgg284
 z213:=Tryz.sizeOf284
 t232:=Tryz.underlying324
 a232:=Tryz.isAgg324
 z232:=Tryz.sizeOf324
 v232:=Tryz.zeroValue324
 t233:=Tryz.underlying325
 a233:=Tryz.isAgg325
 z233:=Tryz.sizeOf325
 v233:=Tryz.zeroValue325
 g15:=by kernel_rfl
 g16:=by kernel_rfl
 g17:=by kernel_rfl
 g18:=by kernel_rfl
 g19:=by kernel_rfl
 t80:=Tryz.underlying134
 a80:=Tryz.isAgg134
 z80:=Tryz.sizeOf134
 v80:=Tryz.zeroValue134
 i0:=by kernel_rfl
 i2:=by kernel_rfl
 i3:=by kernel_rfl
 i4:=by kernel_rfl
 i5:=by kernel_rfl
 i9:=by kernel_rfl
 i20:=by kernel_rfl
 i21:=by kernel_rfl
 i37:=by kernel_rfl
 i46:=by kernel_rfl
 i51:=by kernel_rfl
 i53:=by kernel_rfl
 i75:=by kernel_rfl
 i76:=by kernel_rfl
 i80:=by kernel_rfl
 i85:=by kernel_rfl
 i127:=by kernel_rfl
 i143:=by kernel_rfl
 i145:=by kernel_rfl
 i167:=by kernel_rfl
 i168:=by kernel_rfl
 i171:=by kernel_rfl
 i173:=by kernel_rfl
 i175:=by kernel_rfl
 i210:=by kernel_rfl
 i212:=by kernel_rfl
 i232:=by kernel_rfl
 i233:=by kernel_rfl
 m15:=by kernel_rfl
 m16:=by kernel_rfl
 m17:=by kernel_rfl
 m18:=by kernel_rfl
 m19:=by kernel_rfl
 c0:=by kernel_rfl
 c2:=by kernel_rfl
 c3:=by kernel_rfl
 c4:=by kernel_rfl
 c5:=by kernel_rfl
 c9:=by kernel_rfl
 c20:=by kernel_rfl
 c21:=by kernel_rfl
 c37:=by kernel_rfl
 c46:=by kernel_rfl
 c51:=by kernel_rfl
 c53:=by kernel_rfl
 c75:=by kernel_rfl
 c76:=by kernel_rfl
 c80:=by kernel_rfl
 c85:=by kernel_rfl
 c127:=by kernel_rfl
 c143:=by kernel_rfl
 c145:=by kernel_rfl
 c167:=by kernel_rfl
 c168:=by kernel_rfl
 c171:=by kernel_rfl
 c173:=by kernel_rfl
 c175:=by kernel_rfl
 c210:=by kernel_rfl
 c212:=by kernel_rfl
 c213:=by kernel_rfl
 c232:=by kernel_rfl
 c233:=by kernel_rfl}
def Tryz.lays219_ren :Go.Shelf.Ren:=⟨fun | 219=>154 | 217=>188 | 225=>189 | 224=>190 | 267=>191 | 266=>211 | 314=>212 | n=>n,fun | 9=>9 | 3=>3 | 4=>4 | 5=>5 | 46=>262 | 146=>289 | 51=>283 | n=>n,fun | 1=>0 | n=>n⟩
theorem Tryz.lays219 :Go.Proofs.Lays.n219 prog Tryz.lays219_ren:={
 mixed:=by kernel_rfl
 f217:=Tryz.func188.trans (congrArg some (by kernel_rfl))
 f219:=Tryz.func154.trans (congrArg some (by kernel_rfl))
 f224:=Tryz.func190.trans (congrArg some (by kernel_rfl))
 f225:=Tryz.func189.trans (congrArg some (by kernel_rfl))
 f266:=Tryz.func211.trans (congrArg some (by kernel_rfl))
 f267:=Tryz.func191.trans (congrArg some (by kernel_rfl))
 f314:=Tryz.func212.trans (congrArg some (by kernel_rfl))
 t3:=Tryz.underlying3
 a3:=Tryz.isAgg3
 z3:=Tryz.sizeOf3
 v3:=Tryz.zeroValue3
 t4:=Tryz.underlying4
 a4:=Tryz.isAgg4
 z4:=Tryz.sizeOf4
 v4:=Tryz.zeroValue4
 t5:=Tryz.underlying5
 a5:=Tryz.isAgg5
 z5:=Tryz.sizeOf5
 v5:=Tryz.zeroValue5
 t9:=Tryz.underlying9
 a9:=Tryz.isAgg9
 z9:=Tryz.sizeOf9
 v9:=Tryz.zeroValue9
 t46:=Tryz.underlying262
 a46:=Tryz.isAgg262
 z46:=Tryz.sizeOf262
 v46:=Tryz.zeroValue262
 t51:=Tryz.underlying283
 a51:=Tryz.isAgg283
 z51:=Tryz.sizeOf283
 v51:=Tryz.zeroValue283
 t146:=Tryz.underlying289
 a146:=Tryz.isAgg289
 z146:=Tryz.sizeOf289
 v146:=Tryz.zeroValue289
 g1:=by kernel_rfl}
def Tryz.lays138_ren :Go.Shelf.Ren:=⟨fun | 138=>82 | 195=>119 | 218=>120 | 143=>118 | 219=>154 | 217=>188 | 225=>189 | 224=>190 | 267=>191 | 266=>211 | 314=>212 | n=>n,fun | 9=>9 | 3=>3 | 4=>4 | 5=>5 | 0=>0 | 46=>262 | 146=>289 | 51=>283 | n=>n,fun | 1=>0 | n=>n⟩
theorem Tryz.lays138 :Go.Proofs.Lays.n138 prog Tryz.lays138_ren:={
 mixed:=by kernel_rfl
 f138:=Tryz.func82.trans (congrArg some (by kernel_rfl))
 f143:=Tryz.func118.trans (congrArg some (by kernel_rfl))
 f195:=Tryz.func119.trans (congrArg some (by kernel_rfl))
 f217:=Tryz.func188.trans (congrArg some (by kernel_rfl))
 f218:=Tryz.func120.trans (congrArg some (by kernel_rfl))
 f219:=Tryz.func154.trans (congrArg some (by kernel_rfl))
 f224:=Tryz.func190.trans (congrArg some (by kernel_rfl))
 f225:=Tryz.func189.trans (congrArg some (by kernel_rfl))
 f266:=Tryz.func211.trans (congrArg some (by kernel_rfl))
 f267:=Tryz.func191.trans (congrArg some (by kernel_rfl))
 f314:=Tryz.func212.trans (congrArg some (by kernel_rfl))
 t0:=Tryz.underlying0
 a0:=Tryz.isAgg0
 z0:=Tryz.sizeOf0
 v0:=Tryz.zeroValue0
 t3:=Tryz.underlying3
 a3:=Tryz.isAgg3
 z3:=Tryz.sizeOf3
 v3:=Tryz.zeroValue3
 t4:=Tryz.underlying4
 a4:=Tryz.isAgg4
 z4:=Tryz.sizeOf4
 v4:=Tryz.zeroValue4
 t5:=Tryz.underlying5
 a5:=Tryz.isAgg5
 z5:=Tryz.sizeOf5
 v5:=Tryz.zeroValue5
 t9:=Tryz.underlying9
 a9:=Tryz.isAgg9
 z9:=Tryz.sizeOf9
 v9:=Tryz.zeroValue9
 t46:=Tryz.underlying262
 a46:=Tryz.isAgg262
 z46:=Tryz.sizeOf262
 v46:=Tryz.zeroValue262
 t51:=Tryz.underlying283
 a51:=Tryz.isAgg283
 z51:=Tryz.sizeOf283
 v51:=Tryz.zeroValue283
 t146:=Tryz.underlying289
 a146:=Tryz.isAgg289
 z146:=Tryz.sizeOf289
 v146:=Tryz.zeroValue289
 g1:=by kernel_rfl}
def Tryz.lays189_ren :Go.Shelf.Ren:=⟨fun | 189=>161 | 125=>196 | 257=>195 | 128=>224 | 129=>207 | 294=>215 | 295=>216 | 296=>217 | 297=>218 | 298=>219 | 299=>220 | 216=>221 | 300=>222 | 301=>223 | 328=>236 | 329=>237 | 330=>238 | 331=>239 | 332=>240 | 215=>241 | 343=>247 | n=>n,fun | 28=>83 | 3=>3 | 46=>262 | 0=>0 | 51=>283 | 53=>247 | 4=>4 | 183=>297 | 182=>296 | 131=>97 | 5=>5 | 9=>9 | 218=>312 | 222=>91 | 228=>326 | 229=>156 | n=>n,fun | n=>n⟩
theorem Tryz.lays189 :Go.Proofs.Lays.n189 prog Tryz.lays189_ren:={
 mixed:=by kernel_rfl
 f125:=Tryz.func196.trans (congrArg some (by kernel_rfl))
 f128:=Tryz.func224.trans (congrArg some (by kernel_rfl))
 f129:=Tryz.func207.trans (congrArg some (by kernel_rfl))
 f189:=Tryz.func161.trans (congrArg some (by kernel_rfl))
 f215:=Tryz.func241.trans (congrArg some (by kernel_rfl))
 f216:=Tryz.func221.trans (congrArg some (by kernel_rfl))
 f257:=Tryz.func195.trans (congrArg some (by kernel_rfl))
 f294:=Tryz.func215.trans (congrArg some (by kernel_rfl))
 f295:=Tryz.func216.trans (congrArg some (by kernel_rfl))
 f296:=Tryz.func217.trans (congrArg some (by kernel_rfl))
 f297:=Tryz.func218.trans (congrArg some (by kernel_rfl))
 f298:=Tryz.func219.trans (congrArg some (by kernel_rfl))
 f299:=Tryz.func220.trans (congrArg some (by kernel_rfl))
 f300:=Tryz.func222.trans (congrArg some (by kernel_rfl))
 f301:=Tryz.func223.trans (congrArg some (by kernel_rfl))
 f328:=Tryz.func236.trans (congrArg some (by kernel_rfl))
 f329:=Tryz.func237.trans (congrArg some (by kernel_rfl))
 f330:=Tryz.func238.trans (congrArg some (by kernel_rfl))
 f331:=Tryz.func239.trans (congrArg some (by kernel_rfl))
 f332:=Tryz.func240.trans (congrArg some (by kernel_rfl))
 f343:=Tryz.func247.trans (congrArg some (by kernel_rfl))
 t0:=Tryz.underlying0
 a0:=Tryz.isAgg0
 z0:=Tryz.sizeOf0
 v0:=Tryz.zeroValue0
 t3:=Tryz.underlying3
 a3:=Tryz.isAgg3
 z3:=Tryz.sizeOf3
 v3:=Tryz.zeroValue3
 t4:=Tryz.underlying4
 a4:=Tryz.isAgg4
 z4:=Tryz.sizeOf4
 v4:=Tryz.zeroValue4
 t5:=Tryz.underlying5
 a5:=Tryz.isAgg5
 z5:=Tryz.sizeOf5
 v5:=Tryz.zeroValue5
 t9:=Tryz.underlying9
 a9:=Tryz.isAgg9
 z9:=Tryz.sizeOf9
 v9:=Tryz.zeroValue9
 t28:=Tryz.underlying83
 a28:=Tryz.isAgg83
 z28:=Tryz.sizeOf83
 v28:=Tryz.zeroValue83
 t46:=Tryz.underlying262
 a46:=Tryz.isAgg262
 z46:=Tryz.sizeOf262
 v46:=Tryz.zeroValue262
 t51:=Tryz.underlying283
 a51:=Tryz.isAgg283
 z51:=Tryz.sizeOf283
 v51:=Tryz.zeroValue283
 t53:=Tryz.underlying247
 a53:=Tryz.isAgg247
 z53:=Tryz.sizeOf247
 v53:=Tryz.zeroValue247
 t131:=Tryz.underlying97
 a131:=Tryz.isAgg97
 z131:=Tryz.sizeOf97
 v131:=Tryz.zeroValue97
 t182:=Tryz.underlying296
 a182:=Tryz.isAgg296
 z182:=Tryz.sizeOf296
 v182:=Tryz.zeroValue296
 t183:=Tryz.underlying297
 a183:=Tryz.isAgg297
 z183:=Tryz.sizeOf297
 v183:=Tryz.zeroValue297
 t218:=Tryz.underlying312
 a218:=Tryz.isAgg312
 z218:=Tryz.sizeOf312
 v218:=Tryz.zeroValue312
 t222:=Tryz.underlying91
 a222:=Tryz.isAgg91
 z222:=Tryz.sizeOf91
 v222:=Tryz.zeroValue91
 t228:=Tryz.underlying326
 a228:=Tryz.isAgg326
 z228:=Tryz.sizeOf326
 v228:=Tryz.zeroValue326
 t229:=Tryz.underlying156
 a229:=Tryz.isAgg156
 z229:=Tryz.sizeOf156
 v229:=Tryz.zeroValue156}
open Go.Sort Go.RowKit in
theorem Tryz.slices_Sort_int (blk off cap:Nat) (zs:List Int) (w:World) (hH:Holds (Value.int .i64) w blk off zs.toArray) (fP:blk<w.heap.size) (hsz:zs.length<4611686018427387904):
  Calls prog 161 #[.slice (some ⟨blk,off,none⟩) zs.length cap] w fun e w'=>
   e=.returned (.tuple #[])/\ ∃n os,w'=grow (putRow (Value.int .i64) (Sort.ahead w n) blk off (zs.mergeSort fun x y=>decide (x<=y)).toArray) os:=Any.slices_Sort_int Tryz.lays189 blk off cap zs w hH fP hsz
def Tryz.lays146_ren :Go.Shelf.Ren:=⟨fun | 146=>44 | 221=>81 | 268=>117 | 138=>82 | 143=>118 | 195=>119 | 197=>153 | 218=>120 | 219=>154 | 260=>187 | 217=>188 | 225=>189 | 224=>190 | 267=>191 | 266=>211 | 314=>212 | n=>n,fun | 9=>9 | 31=>70 | 3=>3 | 4=>4 | 0=>0 | 105=>217 | 21=>21 | 5=>5 | 46=>262 | 119=>285 | 139=>288 | 138=>287 | 146=>289 | 51=>283 | n=>n,fun | 1=>0 | 3=>4 | 4=>5 | n=>n⟩
theorem Tryz.lays146 :Go.Proofs.Lays.n146 prog Tryz.lays146_ren:={
 mixed:=by kernel_rfl
 f138:=Tryz.func82.trans (congrArg some (by kernel_rfl))
 f143:=Tryz.func118.trans (congrArg some (by kernel_rfl))
 f146:=Tryz.func44.trans (congrArg some (by kernel_rfl))
 f195:=Tryz.func119.trans (congrArg some (by kernel_rfl))
 f197:=Tryz.func153.trans (congrArg some (by kernel_rfl))
 f217:=Tryz.func188.trans (congrArg some (by kernel_rfl))
 f218:=Tryz.func120.trans (congrArg some (by kernel_rfl))
 f219:=Tryz.func154.trans (congrArg some (by kernel_rfl))
 f221:=Tryz.func81.trans (congrArg some (by kernel_rfl))
 f224:=Tryz.func190.trans (congrArg some (by kernel_rfl))
 f225:=Tryz.func189.trans (congrArg some (by kernel_rfl))
 f260:=Tryz.func187.trans (congrArg some (by kernel_rfl))
 f266:=Tryz.func211.trans (congrArg some (by kernel_rfl))
 f267:=Tryz.func191.trans (congrArg some (by kernel_rfl))
 f268:=Tryz.func117.trans (congrArg some (by kernel_rfl))
 f314:=Tryz.func212.trans (congrArg some (by kernel_rfl))
 t0:=Tryz.underlying0
 a0:=Tryz.isAgg0
 z0:=Tryz.sizeOf0
 v0:=Tryz.zeroValue0
 t3:=Tryz.underlying3
 a3:=Tryz.isAgg3
 z3:=Tryz.sizeOf3
 v3:=Tryz.zeroValue3
 t4:=Tryz.underlying4
 a4:=Tryz.isAgg4
 z4:=Tryz.sizeOf4
 v4:=Tryz.zeroValue4
 t5:=Tryz.underlying5
 a5:=Tryz.isAgg5
 z5:=Tryz.sizeOf5
 v5:=Tryz.zeroValue5
 t9:=Tryz.underlying9
 a9:=Tryz.isAgg9
 z9:=Tryz.sizeOf9
 v9:=Tryz.zeroValue9
 t21:=Tryz.underlying21
 a21:=Tryz.isAgg21
 z21:=Tryz.sizeOf21
 v21:=Tryz.zeroValue21
 t31:=Tryz.underlying70
 a31:=Tryz.isAgg70
 z31:=Tryz.sizeOf70
 v31:=Tryz.zeroValue70
 t46:=Tryz.underlying262
 a46:=Tryz.isAgg262
 z46:=Tryz.sizeOf262
 v46:=Tryz.zeroValue262
 t51:=Tryz.underlying283
 a51:=Tryz.isAgg283
 z51:=Tryz.sizeOf283
 v51:=Tryz.zeroValue283
 t105:=Tryz.underlying217
 a105:=Tryz.isAgg217
 z105:=Tryz.sizeOf217
 v105:=Tryz.zeroValue217
 t119:=Tryz.underlying285
 a119:=Tryz.isAgg285
 z119:=Tryz.sizeOf285
 t138:=Tryz.underlying287
 a138:=Tryz.isAgg287
 z138:=Tryz.sizeOf287
 v138:=Tryz.zeroValue287
 t139:=Tryz.underlying288
 a139:=Tryz.isAgg288
 z139:=Tryz.sizeOf288
 v139:=Tryz.zeroValue288
 t146:=Tryz.underlying289
 a146:=Tryz.isAgg289
 z146:=Tryz.sizeOf289
 v146:=Tryz.zeroValue289
 g1:=by kernel_rfl
 g3:=by kernel_rfl
 g4:=by kernel_rfl}
def Tryz.laysNm220_ren :Go.Shelf.Ren:=⟨fun | 20=>162 | n=>n,fun | 22=>83 | 3=>3 | 4=>4 | 0=>0 | n=>n,fun | n=>n⟩
theorem Tryz.laysNm220 :Go.Proofs.Lays2.n20 prog Tryz.laysNm220_ren:={
 mixed:=by kernel_rfl
 f20:=Tryz.func162.trans (congrArg some (by kernel_rfl))
 t0:=Tryz.underlying0
 a0:=Tryz.isAgg0
 z0:=Tryz.sizeOf0
 v0:=Tryz.zeroValue0
 t3:=Tryz.underlying3
 a3:=Tryz.isAgg3
 z3:=Tryz.sizeOf3
 v3:=Tryz.zeroValue3
 t4:=Tryz.underlying4
 a4:=Tryz.isAgg4
 z4:=Tryz.sizeOf4
 v4:=Tryz.zeroValue4
 t22:=Tryz.underlying83
 a22:=Tryz.isAgg83
 z22:=Tryz.sizeOf83
 v22:=Tryz.zeroValue83
 i3:=by kernel_rfl}
open Go.RowKit Go.Lib Go.Sort in
theorem Tryz.slices_Compact_int (blk off cap:Nat) (zs:List Int) (w:World) (hH:Holds (Value.int .i64) w blk off zs.toArray) (hsz:zs.length<=9223372036854775807) (eR:zs.length<=cap):
  Calls prog 162 #[.slice (some ⟨blk,off,none⟩) zs.length cap] w fun e w'=>e=.returned (.slice (some ⟨blk,off,none⟩) (Lib.compact zs).length cap)/\ ∃q,w'=putRow (Value.int .i64) (Sort.ahead w q) blk off (Lib.compact zs++List.replicate (zs.length - (Lib.compact zs).length) 0).toArray :=Any.slices_Compact_int Tryz.laysNm220 blk off cap zs w hH hsz eR
open Go.RowKit Go.Lib Go.Sort in
theorem Tryz.slices_Compact_int_empty (a:Option Addr) (cap:Nat) (w:World):
  Calls prog 162 #[.slice a 0 cap] w fun e w'=>e=.returned (.slice a 0 cap)/\w'=w:=Any.slices_Compact_int_empty Tryz.laysNm220 a cap w
open Go.RowKit Go.Sort in
theorem Tryz.slices_Sort_int_none (p:Option Addr) (cap:Nat) (w:World):
  Calls prog 161 #[.slice p 0 cap] w fun e w'=>e=.returned (.tuple #[])/\w'=w:=Any.slices_Sort_int_none Tryz.lays189 p cap w
def Tryz.sortEnd_ren :Go.Shelf.Ren:=⟨fun | 6=>244 | 15=>196 | 14=>248 | 28=>224 | 29=>207 | 20=>250 | 21=>251 | 22=>252 | 23=>253 | 24=>254 | 25=>255 | 26=>256 | 27=>257 | 46=>258 | 47=>237 | 48=>238 | 49=>259 | 50=>260 | 57=>261 | n=>n,fun | 22=>319 | 24=>311 | 25=>321 | 3=>3 | 39=>262 | 0=>0 | 53=>283 | 55=>247 | 4=>4 | 46=>297 | 45=>296 | 50=>97 | 5=>5 | 9=>9 | 66=>312 | 70=>91 | 76=>326 | 77=>156 | n=>n,fun | n=>n⟩
theorem Tryz.sortEnd :Go.Proofs.SlLaysF0.n6 prog Tryz.sortEnd_ren:={
 mixed:=by kernel_rfl
 f6:=⟨Tryz.f244.name,by decide,Tryz.func244.trans (congrArg some (by kernel_rfl))⟩
 f14:=⟨Tryz.f248.name,by decide,Tryz.func248.trans (congrArg some (by kernel_rfl))⟩
 f15:=Tryz.func196.trans (congrArg some (by kernel_rfl))
 f20:=⟨Tryz.f250.name,by decide,Tryz.func250.trans (congrArg some (by kernel_rfl))⟩
 f21:=⟨Tryz.f251.name,by decide,Tryz.func251.trans (congrArg some (by kernel_rfl))⟩
 f22:=⟨Tryz.f252.name,by decide,Tryz.func252.trans (congrArg some (by kernel_rfl))⟩
 f23:=⟨Tryz.f253.name,by decide,Tryz.func253.trans (congrArg some (by kernel_rfl))⟩
 f24:=⟨Tryz.f254.name,by decide,Tryz.func254.trans (congrArg some (by kernel_rfl))⟩
 f25:=⟨Tryz.f255.name,by decide,Tryz.func255.trans (congrArg some (by kernel_rfl))⟩
 f26:=⟨Tryz.f256.name,by decide,Tryz.func256.trans (congrArg some (by kernel_rfl))⟩
 f27:=⟨Tryz.f257.name,by decide,Tryz.func257.trans (congrArg some (by kernel_rfl))⟩
 f28:=Tryz.func224.trans (congrArg some (by kernel_rfl))
 f29:=Tryz.func207.trans (congrArg some (by kernel_rfl))
 f46:=⟨Tryz.f258.name,by decide,Tryz.func258.trans (congrArg some (by kernel_rfl))⟩
 f47:=Tryz.func237.trans (congrArg some (by kernel_rfl))
 f48:=Tryz.func238.trans (congrArg some (by kernel_rfl))
 f49:=⟨Tryz.f259.name,by decide,Tryz.func259.trans (congrArg some (by kernel_rfl))⟩
 f50:=⟨Tryz.f260.name,by decide,Tryz.func260.trans (congrArg some (by kernel_rfl))⟩
 f57:=⟨Tryz.f261.name,by decide,Tryz.func261.trans (congrArg some (by kernel_rfl))⟩
 t0:=Tryz.underlying0
 a0:=Tryz.isAgg0
 z0:=Tryz.sizeOf0
 v0:=Tryz.zeroValue0
 t3:=Tryz.underlying3
 a3:=Tryz.isAgg3
 z3:=Tryz.sizeOf3
 v3:=Tryz.zeroValue3
 t4:=Tryz.underlying4
 a4:=Tryz.isAgg4
 z4:=Tryz.sizeOf4
 v4:=Tryz.zeroValue4
 t5:=Tryz.underlying5
 a5:=Tryz.isAgg5
 z5:=Tryz.sizeOf5
 v5:=Tryz.zeroValue5
 t9:=Tryz.underlying9
 a9:=Tryz.isAgg9
 z9:=Tryz.sizeOf9
 v9:=Tryz.zeroValue9
 t22:=Tryz.underlying319
 a22:=Tryz.isAgg319
 z22:=Tryz.sizeOf319
 v22:=Tryz.zeroValue319
 t25:=Tryz.underlying321
 a25:=Tryz.isAgg321
 z25:=Tryz.sizeOf321
 v25:=Tryz.zeroValue321
 t39:=Tryz.underlying262
 a39:=Tryz.isAgg262
 z39:=Tryz.sizeOf262
 v39:=Tryz.zeroValue262
 t45:=Tryz.underlying296
 a45:=Tryz.isAgg296
 z45:=Tryz.sizeOf296
 v45:=Tryz.zeroValue296
 t46:=Tryz.underlying297
 a46:=Tryz.isAgg297
 z46:=Tryz.sizeOf297
 v46:=Tryz.zeroValue297
 t50:=Tryz.underlying97
 a50:=Tryz.isAgg97
 z50:=Tryz.sizeOf97
 v50:=Tryz.zeroValue97
 t53:=Tryz.underlying283
 a53:=Tryz.isAgg283
 z53:=Tryz.sizeOf283
 v53:=Tryz.zeroValue283
 t55:=Tryz.underlying247
 a55:=Tryz.isAgg247
 z55:=Tryz.sizeOf247
 v55:=Tryz.zeroValue247
 t66:=Tryz.underlying312
 a66:=Tryz.isAgg312
 z66:=Tryz.sizeOf312
 v66:=Tryz.zeroValue312
 t70:=Tryz.underlying91
 a70:=Tryz.isAgg91
 z70:=Tryz.sizeOf91
 v70:=Tryz.zeroValue91
 t76:=Tryz.underlying326
 a76:=Tryz.isAgg326
 z76:=Tryz.sizeOf326
 v76:=Tryz.zeroValue326
 t77:=Tryz.underlying156
 a77:=Tryz.isAgg156
 z77:=Tryz.sizeOf156
 v77:=Tryz.zeroValue156}
def Tryz.lays240_ren :Go.Shelf.Ren:=⟨fun | 240=>108 | 276=>145 | n=>n,fun | 0=>0 | 4=>4 | 9=>9 | 20=>20 | 70=>72 | 72=>75 | 164=>210 | 37=>73 | n=>n,fun | n=>n⟩
theorem Tryz.lays240 :Go.Proofs.Lays.n240 prog Tryz.lays240_ren:={
 mixed:=by kernel_rfl
 f240:=Tryz.func108.trans (congrArg some (by kernel_rfl))
 f276:=Tryz.func145.trans (congrArg some (by kernel_rfl))
 t0:=Tryz.underlying0
 a0:=Tryz.isAgg0
 z0:=Tryz.sizeOf0
 v0:=Tryz.zeroValue0
 t4:=Tryz.underlying4
 a4:=Tryz.isAgg4
 z4:=Tryz.sizeOf4
 v4:=Tryz.zeroValue4
 t9:=Tryz.underlying9
 a9:=Tryz.isAgg9
 z9:=Tryz.sizeOf9
 v9:=Tryz.zeroValue9
 t20:=Tryz.underlying20
 a20:=Tryz.isAgg20
 z20:=Tryz.sizeOf20
 v20:=Tryz.zeroValue20
 t70:=Tryz.underlying72
 a70:=Tryz.isAgg72
 z70:=Tryz.sizeOf72
 v70:=Tryz.zeroValue72
 t72:=Tryz.underlying75
 a72:=Tryz.isAgg75
 z72:=Tryz.sizeOf75
 v72:=Tryz.zeroValue75
 t164:=Tryz.underlying210
 a164:=Tryz.isAgg210
 z164:=Tryz.sizeOf210
 v164:=Tryz.zeroValue210
}
theorem Tryz.Builder_X72_240 :Builder.X72 prog Tryz.lays240_ren where
 sizeBuilder:=by kernel_rfl
 liesBuilder:=by kernel_rfl
end Go.Proofs
namespace Go.Am
open IntKind (wrap)
open Go.Proofs.Tryz
open Go.Proofs
theorem SV :j6a prog:=fun _ b p v w l eK hbk hv=>by
 rcases hv with ⟨rfl,rfl⟩ | ⟨g,o,c,cur,rfl,hlc,hg,hn,hc⟩
 .refine (x2r Tryz.lays169 Tryz.Builder_Extra_169 b p w hbk).mono fun e w' ⟨he,hw⟩=>⟨he,?_⟩
  subst hw;exact ⟨Ak _,fun k o hk _=>hk,rfl,rfl,rfl⟩
 .cases l with
  | nil=>
   by_cases hc0:c=0
   .subst hc0;refine (y3y Tryz.lays169 Tryz.Builder_Extra_169 b p w g o cur hbk hg).mono fun e w' ⟨he,hw⟩=>⟨he,?_⟩
    subst hw;refine ⟨?_,fun k ob hk _=> ?_,rfl,rfl,rfl⟩
    .show w.heap.size<=(w.heap.push _).size;rw [Array.size_push];exact BV _
    .show (w.heap.push _)[k]? =_;rw [BS,Az (Bh (AB.1 hk).1)];exact hk
   .refine (y9x Tryz.lays169 Tryz.Builder_Extra_169 b p w g o c hc0 hbk).mono fun e w' ⟨he,hw⟩=>⟨he,?_⟩
    subst hw;exact ⟨Ak _,fun k o hk _=>hk,rfl,rfl,rfl⟩
  | cons x r=>
   refine (y9w Tryz.lays169 Tryz.Builder_Extra_169 b p w g o c cur (x::r) (by simp) hlc eK hbk hg (hn (by simp)) hc).mono fun e w' ⟨he,hw⟩=>⟨he,?_⟩
   subst hw;obtain ⟨f1,f2,f3,f4⟩:=y9v w.drew ⟨g,o,none⟩ (x::r).length;exact ⟨BX f1.symm,fun k ob hk hne=>(v3e w.drew g o _ k (hne g o _ c rfl)).trans hk,f2,f3,f4⟩
def NR (P:Program):Bool:=P.funcs.toList.all fun fn=>fn.body.isNone|| !(fn.name == "runtime.NumGoroutine")
theorem u2p {P:Program} (h:NR P=true) (hs:j6a P):EA P:=by
 refine ⟨fun f fn hf hb=> ?_,hs⟩;have hm:fn∈P.funcs.toList:=by rw [Array.mem_toList_iff];exact Array.mem_of_getElem? hf
 have:=Ay.mp h fn hm;cases hbb:fn.body with
 | none=>rw [hbb] at hb;cases hb
 | some b=>simpa [hbb] using this
theorem TG :EA prog:=u2p (by kernel_rfl) SV
theorem mixed :prog.follows .mixedOrders =true:=by kernel_rfl
end Go.Am
namespace Go.Am
open IntKind (wrap)
open Go.Proofs.Tryz
open Go.Proofs
instance {α :Type} [Xk α]:Xk (List α) where
 w:=1
 d:=[]
 cells l:=[.dat l.length (Zz l)]
 of cs:=match cs.getD 0 .undef with
  | .dat n g=>Cd α n g
  | _=>[]
 len _:=rfl
 pos:=Ak 1
 flat _:=rfl
 sc _:=rfl
 back l:=Zt l
theorem x9s {α:Type} [Xk α] {L:List α} {n off sz:Nat} {cells:List B1} (hn:n=L.length) (hsz:sz=Xk.w α) (hc:(cells.drop off).take (n*sz)=(L.map Xk.cells).flatten):Ud n (Jj cells off sz) (Zz L)=true:=Yh fun i hi=>by
 have e:((((cells.drop off).take (n*sz)).drop (i*sz)).take sz)=(cells.drop (off+i*sz)).take sz:=by rw [List.drop_take,List.take_take,List.drop_drop,Nat.min_eq_left];have:=AE sz (show i+1<=n by omega);rw [AV,BW] at this;omega
 have h:=ZN (sz:=sz) (L.map Xk.cells) i (fun x hx=>by obtain ⟨y,_,rfl⟩:=BR.1 hx;rw [Xk.len,hsz]) (by simpa using by omega);unfold Jj;rw [<-e,hc,h];simp only [Zz];rw [Wf (show i<L.length by omega),Bb,BL,Ar (show i<L.length by omega)];rfl
theorem u0b {G H:Nat->List B1} (h:G 0=H 0):Ud 1 G H=true:=Yh fun i hi=>by
 obtain rfl:i=0:=by omega
 exact h
theorem v0l {L:List B1} (s t:Nat) (h:L.all (pf 6)=true):Cz (fun k=>(L.drop (k*s)).take t)=true:=Yh fun i=>
 Ay.2 fun v hv=>Ay.1 h v (List.mem_of_mem_drop (List.mem_of_mem_take hv))
structure OB where
 b:Bool
 h:b=true
def nn :OB:=⟨true,rfl⟩
def pp (q r:OB):OB:=⟨q.b&&r.b,Pn q.h r.h⟩
def tt {c v:Bool} (k:c=v) (r:OB):OB:=⟨(c == v)&&r.b,Pn (v5e k) r.h⟩
def ww {c:Bool} (k:c=true) (r:OB):OB:=⟨c&&r.b,Pn k r.h⟩
def fl {α:Type} [Xk α] (L:List α) (r:OB):OB:=⟨Cz (Zz L)&&r.b,Pn (Xr L) r.h⟩
def xw {c:Bool} (k:c=true):OB:=⟨c,k⟩
def xI (α:Type) [Xk α] (n:Nat) (g:Nat->List B1) (h:CQ α n g=true:=by first | with_reducible exact VE _ _ | exact VE _ _ | exact w6d _ | exact x7o _ _ _ | assumption | exact u3m _ rfl | exact u3l _ rfl rfl):OB:=⟨CQ α n g,h⟩
def xr {α:Type} [Xk α] (L:List α):OB:=⟨CQ α L.length (Zz L),VE L _⟩
def xL (a b:Nat) (h:HJ a b=true:=by first | exact Yc rfl | exact Yc (by simp only [As,Au,AI,Bo,UV,Yj,List.length_replicate] <;> omega) | assumption):OB:=⟨HJ a b,h⟩
def xS (n:Nat) (G H:Nat->List B1) (h:Ud n G H=true:=by
  repeat' (first | exact Vm _ _ | assumption | exact v3f _ _ | exact u0b rfl | exact Ja | exact x9s rfl rfl rfl | rfl | (refine Qn ?_ ?_ rfl rfl rfl) | (refine w4s ?_ ?_ rfl) | exact v3g _ _ _ | (refine u0c ?_ ?_ ?_ (Nat.min_le_left _ _)) | exact w7z (by repeat' (first | exact Vm _ _ | (refine Qn ?_ ?_ rfl rfl rfl) | (refine w4s ?_ ?_ rfl) | (simp only [As,Au,AI,Bo,UV];done) | omega)) (by assumption) | (refine Ka ?_ ?_ ?_ rfl) | exact Kc (Vm _ _) rfl | apply Uc | exact u0a rfl rfl | exact Al _ | (simp only [As,Au,AI,Bo,UV,Yj,List.length_replicate] <;> omega))):OB:=⟨Ud n G H,h⟩
def xF (G:Nat->List B1) (h:Cz G=true:=by
  repeat' (first | with_reducible exact Xr _ | apply v6z | apply v6w | apply v6y | apply v6x | exact Xr _ | exact v0m | exact w2w _ _ | exact v0l _ _ rfl | apply y7z | rfl | assumption)):OB:=⟨Cz G,h⟩
def xZ (v:B1) (n:Nat) (g:Nat->List B1) (h:Rx v n g=true:=by first | exact u3u _ _ _ | exact v6q _ _):OB:=⟨Rx v n g,h⟩
def xG (c:Bool) (h:c=true:=by
  repeat' (first | with_reducible (first | assumption | exact BC _ | exact x6z _ | exact u2o _ | exact v5n _ | exact u4l _ | exact v5o _ | apply Pn | apply v5e) | rfl | exact u3n _ | exact v0z _ _ rfl | exact v1a _ _ _ rfl | exact v6c _ _ rfl | exact w9s rfl | exact u0o rfl rfl (fun _=>rfl) | (refine w3j ?_ (by assumption)) | (refine v7o ?_ rfl rfl rfl) | exact VE _ _ | exact w6d _ | exact x7o _ _ _ | exact Xr _ | apply y7z | apply Pn | apply v5e)):OB:=⟨c,h⟩
def Ht (n:Nat) (l:List BP):List BP:=Nat.rec l (fun _ r=>.keep ::r) n
abbrev tn (n:Int):Nat:=Int.toNat n
abbrev ii (n:Int):B1:=.int .i64 n
abbrev wr (n:Int):Int:=wrap .i64 n
def CA (n:Nat) (l:List Bool):List Bool:=Nat.rec l (fun _ r=>true::r) n
abbrev b7:GU:=⟨[],[],[]⟩
abbrev b8 (l:List Nat):Cj:=⟨[],[],[some l],[]⟩
theorem sl {S:B3} (hS:Zv prog S) (n:Nat) (gs:List (TypeId×Nat×(Nat->List B1))) (N:Cj) (L:GU) (orc:List Bool) (ob:OB) {C C':CE}
  (h:(((XK prog S (Nj prog S 100000 4) n (C.withO orc)).map (W0 gs)).bind (XP prog N)).map (Pq L)=some (C'.withB ob.b):=by kernel_rfl) (hfl:Tb C=true:=by rfl):Ct prog C C':=
 v9g TG mixed hS gs N L orc ob.b h ob.h hfl
def rC (n f:Nat) (p:List Nat) (j r:Nat) (env:List (Nat×B1)):CE:=⟨⟨n,0,true⟩,none,Zf prog f p j,none,Zy prog r,⟨Ye env,Xt [] 0,0,[],true⟩,[],.leaf⟩
theorem lr {σ:Type} {cfg:σ->CE} {C:CE} {rs:List ResultVar} {vs:List B1} (n f:Nat) (p:List Nat) (j r:Nat) (env:List (Nat×B1)) (h:Ct prog C (rC n f p j r env)) (hf:GW (rC n f p j r env)=true:=by rfl)
  (hr:Qz prog (rC n f p j r env).st rs=some vs:=by kernel_rfl):Wj prog rs cfg C (.ret vs):=Yt _ h hf hr
theorem lb {rs:List ResultVar} {σ:Type} {cfg:σ->CE} {C:CE} {c:Bool} {a b:Xu σ} (ha:c=true->Wj prog rs cfg C a) (hb:c=false->Wj prog rs cfg C b):Wj prog rs cfg C (bif c then a else b):=w6b ha hb
theorem lo {rs:List ResultVar} {σ:Type} {cfg:σ->CE} {C:CE} {c:Bool} {a:Xu σ} (ha:c=true->Wj prog rs cfg C a):Wj prog rs cfg C (bif c then a else .stuck):=u3c ha
def By :Type:=UInt8
def yI (b:By):Int:=((b:UInt8).toNat :Int)
def yB (n:Int):By:=UInt8.ofNat n.toNat
def CF (s:List UInt8):List By:=s
abbrev byS (s:List By):List UInt8:=s
theorem I7 (b:By):yB (yI b)=b:=by show UInt8.ofNat (((b:UInt8).toNat :Int)).toNat =b;rw [Int.toNat_natCast];exact UInt8.ofNat_toNat
instance : Xk By where
 w:=1
 d:=(0:UInt8)
 cells b:=[.int .u8 (yI b)]
 of l:=yB (Cl (l.getD 0 .undef))
 len _:=rfl
 pos:=Ak 1
 flat _:=rfl
 sc _:=rfl
 back b:=I7 b
def sOf :B1->List UInt8
 | .str s=>s
 | _=>[]
instance (priority :=high) instStr:Xk (List UInt8) where
 w:=1
 d:=[]
 cells s:=[.str s]
 of l:=sOf (l.getD 0 .undef)
 len _:=rfl
 pos:=Ak 1
 flat _:=rfl
 sc _:=rfl
 back _:=rfl
theorem v8y (b:By):0<=yI b/\yI b<256:=by have:=UInt8.toNat_lt (b:UInt8);unfold yI;omega
theorem I5 (s:List UInt8):Ud s.length (Vt s) (Zz (CF s))=true:=Yh fun i hi=>by have h:rd (CF s) i=s[i]'hi:=Wf (L:=CF s) hi;show [B1.int .u8 (CW s i)]=[B1.int .u8 (yI (rd (CF s) i))];rw [h];simp [CW,yI,List.getD,Ar hi]
theorem w7j (l:List By) (n:Nat) (hn:n=l.length):F2 n (Zz l)=byS l:=by
 subst hn;unfold F2;refine Bp (by rw [BB,List.length_range];rfl) fun i h1 h2=> ?_;rw [BK,List.getElem_range];have hi:i<l.length:=by rw [BB,List.length_range] at h1;exact h1
 show Lf (([B1.int .u8 (yI (rd l i))]).getD 0 .undef)=_;rw [Wf hi];show Lf (B1.int .u8 (yI l[i]))=_;exact I7 _
theorem x7p (b:By):Ll (.int .u8 (yI b))=true:=by have h:=v8y b;unfold Ll;exact Aa h
theorem x8b (l:List By) (n:Nat):RI n (Zz l)=true:=Yh fun k _=>⟨_,rfl,x7p _⟩
theorem x4p (l:List By) (n:Nat):RI n (fun k=>Zz l (0+k))=true:=Yh fun k _=>⟨_,rfl,x7p _⟩
def xY (n:Nat) (g:Nat->List B1) (h:RI n g=true:=by first | exact x4p _ _ | exact x8b _ _ | assumption):OB:=⟨RI n g,h⟩
theorem x9f (l:List By) (n:Nat) (hn:n=l.length):F2 n (fun k=>Zz l (0+k))=byS l:=by
 have:(fun k=>Zz l (0+k))=Zz l:=funext fun k=>by rw [Al]
 rw [this,w7j l n hn]
theorem Ys (s:List UInt8):(CF s).length =s.length:=rfl
theorem Kj {α:Type} [Xk α] {L:List α} {n:Nat}:Ud n (Zz L) (Zz (Ve L 0 n))=true:=Yh fun i hi=>by show Xk.cells (rd L i)=Xk.cells (rd (Ve L 0 n) i);rw [VM hi,Al]
abbrev TV :Nat:=154
abbrev TP :Nat:=122
abbrev Ti :Nat:=79
abbrev Tk :Nat:=82
abbrev N4 :Nat:=73
abbrev SW :Nat:=44
abbrev TR :Nat:=70
abbrev Tl :Nat:=85
abbrev Tj :Nat:=108
abbrev TH :Nat:=67
abbrev TO :Nat:=45
abbrev TM :Nat:=84
abbrev S8 :Nat:=77
abbrev S9 :Nat:=50
abbrev S4 :Nat:=87
abbrev Sd :Nat:=52
abbrev Sh :Nat:=36
abbrev S1 :Nat:=33
abbrev TC :Nat:=17
abbrev T0 :Nat:=18
abbrev NK :Nat:=55
abbrev TB :Nat:=19
abbrev SM :Nat:=10
abbrev Sq :Nat:=12
abbrev S6 :Nat:=39
abbrev S5 :Nat:=38
abbrev TW :Nat:=9
abbrev S2 :Nat:=14
abbrev Tf :Nat:=56
abbrev Te :Nat:=126
abbrev Th :Nat:=90
abbrev Td :Nat:=93
abbrev TZ :Nat:=92
abbrev TY :Nat:=57
abbrev No :Nat:=20
abbrev Sa :Nat:=25
abbrev v5q :Nat:=180
abbrev u7r :Nat:=185
abbrev u7n :Nat:=186
abbrev u7q :Nat:=183
abbrev KL :Nat:=184
abbrev u7m :Nat:=151
abbrev nXs :Nat:=181
abbrev nYs :Nat:=182
abbrev u7p :Nat:=149
abbrev u7l :Nat:=31
abbrev nAt :Nat:=150
abbrev KM :Nat:=148
abbrev u7o :Nat:=113
abbrev v5s :Nat:=76
abbrev TL :Nat:=203
abbrev TK :Nat:=168
abbrev TJ :Nat:=103
abbrev u7k :Nat:=244
abbrev w5p :Nat:=245
abbrev KK :Nat:=161
abbrev w5q :Nat:=162
abbrev TI :Nat:=229
abbrev x7b :Nat:=200
abbrev w5o :Nat:=140
abbrev v5r :Nat:=167
abbrev w5n :Nat:=166
abbrev w5m :Nat:=101
-- not there: gambrel/solid.contact
abbrev x7c :Nat:=61
-- not there: gambrel/gambrelref28.insert
end Go.Am
namespace Go.Am
open IntKind (wrap)
open Go.Proofs Go.Sort
theorem PS {P:Program} {S:B3} (hS:Zv P S) {f:FuncId} {F:List B1->Option (B1×Bool)} (hf:(P.funcs[f]?).any (fun fn=>fn.body.isSome)=true) (hF:Pz P f F):Zv P (S.with f F):=by
 intro g G hg;unfold B3.with at hg;cases hgf:Nat.beq g f with
 | false=>rw [hgf] at hg;exact hS g G hg
 | true=>
  rw [hgf] at hg;obtain rfl:N8.val F=G:=Ag hg;obtain rfl:g=f:=Ai hgf;refine ⟨?_,hF⟩;cases hfn:P.funcs[g]? with
  | none=>rw [hfn] at hf;cases hf
  | some fn=>rw [hfn] at hf;exact ⟨fn,rfl,hf⟩
theorem v2b {P:Program} {S:B3} (hS:Zv P S) {f:FuncId} {F:List B1->CC->Option (B1×Nat×B6×Bool)} (hf:(P.funcs[f]?).any (fun fn=>fn.body.isSome)=true) (hF:G7 P f F):Zv P (fun g=>bif Nat.beq g f then some (.eff F) else S g):=by
 intro g G hg;cases hgf:Nat.beq g f with
 | false=>simp only [hgf,Ab] at hg;exact hS g G hg
 | true=>
  simp only [hgf,Af] at hg;obtain rfl:N8.eff F=G:=Ag hg;obtain rfl:g=f:=Ai hgf;refine ⟨?_,hF⟩;cases hfn:P.funcs[g]? with
  | none=>rw [hfn] at hf;cases hf
  | some fn=>rw [hfn] at hf;exact ⟨fn,rfl,hf⟩
theorem Q0 {P:Program} {f:FuncId} {F:List B1->Option (B1×Bool)}
  (h: ∀args v,F args=some (v,true)-> ∀(H:Do) (vals:Array Value) (w:World),Vn (Zr (DA H)) args vals.toList->(∀k o,H k=some o->w.heap[k]? =some o)->Glob H->Calls P f vals w fun e w'=> ∃u,e=.returned u/\Zr (DA H) v u/\RowKit.Below w.heap.size w w'):Pz P f F:=
 fun args v hv H vals w eL hH hG=>(h args v hv H vals w eL hH hG).mono fun e w' ⟨u,he,hu,hb⟩=>⟨H,u,fun _ _ h=>h,fun k o e=>by rw [hb.block k (AB.1 (hH k o e)).1];exact hH k o e,fun _ _=>rfl,he,hu,hb⟩
open Go.Proofs.Tryz
open Go.Lib
def Oa (args:List B1) (mem:CC):Option (B1×Nat×B6×Bool):=match args with
 | [.ptr b 0]=>match Yi mem b with
  | some ⟨.obj .bld ::r,ty,none⟩=>some (.tup [],b,⟨.obj .bld ::r,ty,none⟩,Nat.beq ty DI)
  | _=>none
 | _=>none
theorem y9u {w:World} {k:Nat} {c:Array Value} {el:TypeId} {fz:Nat×Nat} (h:w.heap[k]? =some (.cells c el fz)) (v:Value):w.setCell ⟨k,0,none⟩ v=w.putObj k (.cells (c.setIfInBounds 0 v) el fz):=by
 unfold World.setCell World.putObj
 congr 1
 apply Array.ext_getElem?;intro i;rw [BE,Array.getElem?_setIfInBounds];split
 .rename_i e;subst e;have hlt:=(AB.1 h).1;show Option.map _ w.heap[k]? =_;rw [h,AF hlt];rfl
 .rfl
theorem j5t :G7 prog Tj Oa:=by
 intro args mem v b blk h gI ρ next floor vals w hfl eL eJ
 unfold Oa at h;split at h
 .rename_i b0;split at h
  .rename_i r ty hm;simp only [Ae,Ac] at h;obtain ⟨rfl,rfl,rfl,hty⟩:=h;obtain rfl:ty=DI:=Ai hty;obtain ⟨l,hl,fM⟩: ∃l,ρ b0=some l/\vals= #[.pointer (some ⟨l.blk,l.base+0,none⟩)]:=by
    obtain ⟨vl⟩:=vals;cases eL with
    | cons h1 h2=>
     cases h2;cases h1 with
     | ptr _ _ l e=>exact ⟨l,e,rfl⟩
   have hk:=eJ.blk b0 l _ hl hm;cases hk with
   | plain k=>exact absurd k.noObj (by simp [B6.isObj])
   | obj o r' ty' e1 e2 e3=>
    simp only [B6.mk.injEq,Bi,B1.obj.injEq,and_true] at e1;obtain ⟨⟨rfl,rfl⟩,rfl⟩:=e1;obtain ⟨buf,v,p,rfl,hb,hv,hp⟩:=e3;have fT:l.base=0:=(by rw [e2]);rw [fT] at fM;subst fM;have hev: ∀p',(p'=none\/p'=some (⟨l.blk,0,none⟩:Addr))->HA ρ DI l.blk [buf] .bld (some (.cells #[.pointer p',v] DI (0,0))):=fun p' h=>⟨buf,v,p',rfl,rfl,hv,h⟩
    rcases hp with rfl | rfl
    .refine (Any.Builder_copyCheck_fresh Tryz.lays240 Tryz.Builder_X72_240 l.blk w (by simp [World.cell?,hb]) (by simp [World.shape?,hb];rfl) (by simp [World.frozen?,hb])).mono fun e w' ⟨he,hw⟩=>⟨_,he,.tup [] #[] rfl (fun i h=>absurd h (AC _)),?_⟩
     rw [y9u hb] at hw;subst hw;exact ⟨eJ.setObj hl hm rfl rfl _ (hev _ (.inr rfl)),Ev.ofObj eJ hl hfl _ _⟩
    .refine (Any.Builder_copyCheck_used Tryz.lays240 Tryz.Builder_X72_240 l.blk w (by simp [World.cell?,hb])).mono fun e w' ⟨he,hw⟩=>⟨_,he,.tup [] #[] rfl (fun i h=>absurd h (AC _)),?_⟩
     subst hw;have fS:w'.putObj l.blk (.cells #[.pointer (some ⟨l.blk,0,none⟩),v] DI (0,0))=w':=by
      have hlt:=(AB.1 hb).1;have:w'.heap.setIfInBounds l.blk (.cells #[.pointer (some ⟨l.blk,0,none⟩),v] DI (0,0))=w'.heap:=by
       apply Array.ext_getElem?;intro i;rw [Array.getElem?_setIfInBounds];split
       .rename_i e;subst e;rw [hb]
       .rfl
      unfold World.putObj;rw [this]
     have A:=eJ.setObj hl hm rfl rfl _ (hev _ (.inr rfl));have B:=Ev.ofObj eJ hl hfl (some ⟨[.obj .bld,buf],DI,none⟩) (.cells #[.pointer (some ⟨l.blk,0,none⟩),v] DI (0,0));rw [fS] at A B;exact ⟨A,B⟩
  .cases h
 .cases h
def Xq (n:Int):List UInt8:=itoa n
def Yd (n:Int):Bool:=decide (-9223372036854775808<=n/\n<=9223372036854775807)
def OZ :List B1->Option (B1×Bool)
 | [.int .i64 n]=>some (.str (Xq n),Yd n)
 | _=>none
theorem w3u (w:World) (k:Nat) (os:Array Obj):RowKit.Below w.heap.size w (grow (w.drewN k) os):=
 ⟨rfl,rfl,rfl,by show _<=(w.heap++os).size;rw [Array.size_append];exact Nat.le_add_right _ _,fun k hk=>by show (w.heap++os)[k]? =_;rw [Array.getElem?_append_left hk]⟩
theorem v4z {H:Do} {w:World} (hH: ∀k o,H k=some o->w.heap[k]? =some o) (hG:Glob H):Lib.TabIs prog w "internal/strconv.uint64pow10" .u64 Lib.pow10Tab:=by
 obtain ⟨el,fz,e⟩:=hG.pow (gpow.headD 0) (by decide);have h:prog.globalNamed "internal/strconv.uint64pow10" =some (gpow.headD 0):=by kernel_rfl
 unfold Lib.TabIs World.var?;rw [h];show (match w.heap[gpow.headD 0]? with | some (.cells cs _ _)=>some cs | _=>none)=_;rw [hH _ _ e];show some pow10A=_;unfold pow10A Lib.pow10Tab;rw [List.map_map];rfl
theorem Nk :Pz prog TR OZ:=Q0 fun args v hv H vals w eL hH hG=>by
 unfold OZ at hv;split at hv
 .rename_i n;simp only [Ae,Ac] at hv;obtain ⟨rfl,ho⟩:=hv;have ho: -9223372036854775808<=n/\n<=9223372036854775807:=Av ho;obtain rfl:vals= #[.int .i64 n]:=by
   obtain ⟨vl⟩:=vals;cases eL with
   | cons h1 h2=>cases h2;cases h1;rfl
  refine (Any.strconv_Itoa Tryz.laysM171 n ho.1 ho.2 w (v4z hH hG)).mono fun e w' ⟨he,k,os,hw⟩=>⟨_,he,.str _,?_⟩
  subst hw;exact w3u w k os
 .cases hv
def Zi (s sep:List UInt8):List (List UInt8):=split s sep
def Jq (s sep:List UInt8):Bool:=Nat.beq sep.length 1&&decide (s.length<4294967281)
def OH :List B1->Option (B1×Bool)
 | [.str s,.str sep]=>some (.dat (Zi s sep).length (Zz (Zi s sep)),Jq s sep)
 | _=>none
theorem MP :Pz prog SW OH:=by
 intro args v hv H vals w eL hH hG;unfold OH at hv;split at hv
 .rename_i s sep;simp only [Ae,Ac] at hv;obtain ⟨rfl,ho⟩:=hv;unfold Jq at ho;rw [Ad] at ho;have h1:=Ai ho.1;have h2:s.length<4294967281:=Av ho.2;obtain ⟨b,rfl⟩: ∃b,sep=[b]:=by
   match sep,h1 with
   | [b],_=>exact ⟨b,rfl⟩
  obtain rfl:vals= #[.string ⟨s.toArray⟩,.string ⟨#[b]⟩]:=by
   obtain ⟨vl⟩:=vals;cases eL with
   | cons h1 h2=>cases h2 with
    | cons h2 h3=>cases h3;cases h1;cases h2;rfl
  refine (v9z Tryz.lays146 (by kernel_rfl) ⟨s.toArray⟩ b w (by simpa [ByteArray.size] using h2)).mono fun e w' ⟨he,hw⟩=> ?_;subst hw;have hd:=Lib.splitB_data ⟨#[b]⟩ 0 (Lib.countB ⟨s.toArray⟩ ⟨#[b]⟩) ⟨s.toArray⟩;have hs:(Lib.splitB ⟨#[b]⟩ 0 (Lib.countB ⟨s.toArray⟩ ⟨#[b]⟩) ⟨s.toArray⟩).map (·.data.toList)=Zi s [b]:=hd;generalize hB:Lib.splitB ⟨#[b]⟩ 0 (Lib.countB ⟨s.toArray⟩ ⟨#[b]⟩) ⟨s.toArray⟩=B at he hs;have eK:B.length=Lib.countB ⟨s.toArray⟩ ⟨#[b]⟩+1:=by rw [<-hB];exact Lib.splitB_all ⟨#[b]⟩ (Ak 1) 0 _ _ rfl
  have hlenV:(Zi s [b]).length =B.length:=by rw [<-hs,BB]
  have hnone:H w.heap.size=none:=by
   cases hh:H w.heap.size with
   | none=>rfl
   | some o=>exact absurd (AB.1 (hH _ _ hh)).1 (Nat.lt_irrefl _)
  refine ⟨fun k=>if k=w.heap.size then some (.cells (B.map Value.string).toArray (Tryz.lays146_ren.t 9) (0,0)) else H k,_,fun k o hk=> ?_,fun k o hk=> ?_,fun k hk=>Az (Bh hk),he,?_,?_⟩
  .exact (Az (by intro e;rw [e,hnone] at hk;cases hk)).trans hk
  .dsimp only at hk;split at hk
   .rename_i e;subst e;rw [<-hk];exact World.alloc_heap_new _ _
   .rename_i e;rw [RowKit.Below.heap_alloc _ _ _ (AB.1 (hH _ _ hk)).1];exact hH _ _ hk
  .rw [<-eK,hlenV];have fV: ∀i,(hi:i<B.length)->Zz (Zi s [b]) i=[.str B[i].data.toList]:=fun i hi=>by
    show Xk.cells (rd (Zi s [b]) i)=_;have:rd (Zi s [b]) i=B[i].data.toList :=by rw [Wf (by rw [hlenV];exact hi)];simp only [<-hs,BK]
    rw [this];rfl
   refine .dat B.length _ w.heap.size 0 1 B.length (fun i _=>.string (B.getD i ByteArray.empty)) (Ak _) (fun i hi=>by rw [fV i hi];rfl) (fun i j hi hj=> ?_) fun i j hi hj=> ?_
   .have e:=fV i hi;have hj0:j=0:=by rw [e] at hj;exact Nat.lt_one_iff.1 hj
    subst hj0;simp only [e,List.getElem_cons_zero];rw [Bb,Ar hi];exact .str _
   .have hj0:j=0:=Nat.lt_one_iff.1 hj;subst hj0;refine ⟨_,_,_,AF rfl,?_⟩;simp [Ar hi]
  .exact (RowKit.Below.refl _ w).alloc (Ak _) _
 .cases hv
def Za (s:List UInt8):Int:=match atoiAll s with
 | .ok v=>v
 | .range =>atoiSat s
 | _=>0
def Jg (s:List UInt8):Bool:=match atoiAll s with
 | .ok _=>true
 | _=>false
def Wp (s:List UInt8):Bool:=decide (s.length<=281474976710656)
def Od :List B1->Option (B1×Bool)
 | [.str s]=>some (.tup [.int .i64 (Za s),.ifb (Jg s)],Wp s)
 | _=>none
theorem MM {ρ:B5} {a b:B1} {u v:Value} (h1:Zr ρ a u) (h2:Zr ρ b v):Zr ρ (.tup [a,b]) (.tuple #[u,v]):=.tup _ _ rfl fun i h h'=>by
 match i,h with
 | 0,_=>exact h1
 | 1,_=>exact h2
theorem w6r {H:Do} {w:World} (hH: ∀k o,H k=some o->w.heap[k]? =some o) (hG:Glob H) {g:Nat} (hg:g∈globs): ∃ev,w.cell? ⟨g,0,none⟩=some ev/\(ev=.nilIface \/ ∃te pe,ev=.iface te pe):=by obtain ⟨v,⟨cs,el,fz,e1,e2⟩,h⟩:=hG.err g hg;exact ⟨v,by simp [World.cell?,hH _ _ e1,e2],h⟩
theorem w3v (w:World) (t:TypeId) (s:ByteArray):RowKit.Below w.heap.size w (bytesWorld w t s):=by
 refine ⟨?_,?_,?_,?_,fun k hk=> ?_⟩ <;> (unfold bytesWorld World.freeze;split)
 .rfl
 .rfl
 .rfl
 .rfl
 .rfl
 .rfl
 .simp [World.alloc]
 .simp [World.alloc]
 .simp [World.alloc,BS,Bh hk];rfl
 .simp [World.alloc,BE,BS,Bh hk,Ne.symm (Bh hk)];rfl
theorem Oo :Pz prog Tl Od:=Q0 fun args v hv H vals w eL hH hG=>by
 unfold Od at hv;split at hv
 .rename_i s;simp only [Ae,Ac] at hv;obtain ⟨rfl,ho⟩:=hv;have ho:s.length<=281474976710656:=Av ho;have hsz:(⟨s.toArray⟩:ByteArray).size =s.length:=by simp [ByteArray.size]
  obtain rfl:vals= #[.string ⟨s.toArray⟩]:=by
   obtain ⟨vl⟩:=vals;cases eL with
   | cons h1 h2=>cases h2;cases h1;rfl
  cases hA:atoiAll s
  .rename_i v;refine (Any.strconv_Atoi_ok Tryz.laysC172 ⟨s.toArray⟩ (by omega) v hA w).mono fun e w' ⟨he,hw⟩=>⟨_,he,?_,?_⟩
   .unfold Za Jg;rw [hA];exact MM (.int _ _) .ifbt
   .rcases hw with rfl | ⟨t,rfl⟩
    .exact RowKit.Below.refl _ _
    .exact w3v _ _ _
  .obtain ⟨ev,h1,h2⟩:=w6r hH hG (show Tryz.laysC172_ren.g 15∈globs by decide);refine (Any.strconv_Atoi_syntax Tryz.laysC172 ⟨s.toArray⟩ (by omega) hA ev w h1 h2).mono fun e w' ⟨N,he,_,_,hw⟩=>⟨_,he,?_,hw⟩
   unfold Za Jg;rw [hA];exact MM (.int _ _) (.ifbf _ _)
  .obtain ⟨ev,h1,h2⟩:=w6r hH hG (show Tryz.laysC172_ren.g 16∈globs by decide);refine (Any.strconv_Atoi_range Tryz.laysC172 ⟨s.toArray⟩ (by omega) hA ev w h1 h2).mono fun e w' ⟨N,he,_,_,hw⟩=>⟨_,he,?_,hw⟩
   unfold Za Jg;rw [hA];exact MM (.int _ _) (.ifbf _ _)
 .cases hv
theorem Yb {a b:Int} (h:a<b):decide (a<b)=true:=Aa h
theorem Xz {a b:Int} (h: ¬a<b):decide (a<b)=false:=Ah h
theorem Wb {a b:Int} (h:a<=b):decide (a<=b)=true:=Aa h
theorem Fj {a b:Int} (h: ¬a<=b):decide (a<=b)=false:=Ah h
theorem Xv {a b:Int} (h:a>b):decide (a>b)=true:=Aa h
theorem Wz {a b:Int} (h: ¬a>b):decide (a>b)=false:=Ah h
theorem EB {a b:Int} (h:a>=b):decide (a>=b)=true:=Aa h
theorem FY {a b:Int} (h: ¬a>=b):decide (a>=b)=false:=Ah h
theorem Xe {a b:Nat} (h:a<b):decide (a<b)=true:=Aa h
theorem Xn {a b:Nat} (h:a<=b):decide (a<=b)=true:=Aa h
theorem Xo {a b:Nat} (h:a=b):decide (a=b)=true:=Aa h
theorem Ym {a b:Int} (h:0<=a/\a<b):decide (0<=a/\a<b)=true:=Aa h
theorem Yf {a:Nat} (h:a<=1099511627776):decide (a<=Vd)=true:=Aa h
theorem Zm {n:Int} (h: -9223372036854775808<=n/\n<=9223372036854775807):wrap .i64 n=n:=w_in h.1 h.2
theorem HI :((0:Nat):Int)=0:=rfl
theorem Zk (i:Nat):(i:Int)+1=((i+1:Nat):Int):=rfl
theorem Yy (i:Nat):((i+1:Nat):Int) - 1=(i:Int):=by omega
theorem Qv {a b:Int} (h:a≠b):(a != b)=true:=by simp [h]
theorem Ut {a b:Int} (h:a=b):(a != b)=false:=by simp [h]
theorem Ld {a b:Int} (h:a=b):(a == b)=true:=by simp [h]
theorem Pe {a b:Int} (h:a≠b):(a == b)=false:=by simp [h]
theorem Xs (n:Nat):Nat.beq n n=true:=BC n
theorem Zj (n:Nat):Int.toNat (n:Int)=n:=Int.toNat_natCast n
theorem Vo (b:Bool):b=true\/b=false:=by cases b <;> simp
theorem Xj {α:Type} [Xk α] {L:List α} {i:Nat} (h:i<L.length):L.drop i=rd L i::L.drop (i+1):=by rw [Wf h];exact AW h
theorem CP {P:Program} {S:B3} (hS:Zv P S) {f:FuncId} {F:List B1->Option (B1×Bool)} (hf:(P.funcs[f]?).any (fun fn=>fn.body.isSome)=true)
  (hF: ∀args v,F args=some (v,true)-> ∃bs vs,Vn DJ args bs/\Jn vs=v/\Js P (Zy P f) (Zg P f bs true []) vs/\ ∃d,pf d v=true):Zv P (S.with f F):=w7d hS hf hF
abbrev RA (v3:List Int) (v5:Int) (l0:List Int) (v4:Int):=((Ft (v3++[0]) (0+(tn (wr (v5+1)))) (Nat.min ((v3.length+1) - (tn v5)) ((v3.length+1) - (tn (wr (v5+1))))) (Ve (v3++[0]) (0+(tn v5)) ((v3.length+1) - (tn v5)))).set (0+(tn v5)) (rd l0 (tn v4)))
abbrev RB (v5:List R2) (l0:List Int) (v6:Int):=(v5++[(R2.mk (rd l0 (tn v6)) (rd l0 (tn (wr (v6+1)))))])
abbrev ZO (v5:List R4) (l0:List R6) (v6:Int):=(v5++[(R4.mk (rd l0 (tn v6)).a (rd l0 (tn v6)).b (rd l0 (tn v6)).d (rd l0 (tn v6)).e)])
abbrev GZ (v3:List Int):=(Zo (Zz v3) 0 v3.length 1 [(ii 0)])
abbrev WF (v5:List R2) (l0:List Int) (v6:Int):=(Zo (Zz v5) 0 v5.length 2 [(ii (rd l0 (tn v6))),(ii (rd l0 (tn (wr (v6+1)))))])
abbrev WG (v3:List Int) (v5:Int):=(Nat.min ((v3.length+1) - (tn v5)) ((v3.length+1) - (tn (wr (v5+1)))))
inductive De where
 | h0 (v3:List Int) (v4:Int)
 | h1 (v3:List Int) (v4:Int) (v5:Int)
def v3r (l0:List Int):De->CE
 | .h0 v3 v4=>⟨⟨63,0,true⟩,none,(Zf prog 180 [1,1,0,1,0,0] 0),none,(Zy prog 9),⟨Ye [(0,(.dat l0.length (Zz l0))),(3,(.sla 0 1 0 v3.length (.un 1))),(4,(ii v4))],Xt [⟨rows v3.length (Zz v3),3,some ⟨1,v3.length,(Zz v3)⟩⟩] 0,1,[],true⟩,[],.leaf⟩
 | .h1 v3 v4 v5=>⟨⟨63,0,true⟩,none,(Zf prog 180 [1,1,0,1,0,0,1,0,0,1,0,0,0] 0),none,(Zy prog 9),⟨Ye [(0,(.dat l0.length (Zz l0))),(3,(.sla 0 1 0 v3.length (.un 1))),(4,(ii v4)),(5,(ii v5))],Xt [⟨rows v3.length (Zz v3),3,some ⟨1,v3.length,(Zz v3)⟩⟩] 0,1,[],true⟩,[],.leaf⟩
def WT :List (Option (List Nat)):=[some [0,3,4]]
def WS :List (Option (List Nat)):=[]
def v3p :List (Option (List Nat)):=[some [0,3,4,5]]
def v3q :List (Option (List Nat)):=[]
def Uo (l0:List Int):De->Xu De
 | .h0 v3 v4=>(bif (decide (v4<(l0.length:Int))) then (.to (.h1 v3 v4 (v3.length:Int))) else (.ret [(.dat v3.length (Zz v3))]))
 | .h1 v3 v4 v5=>(bif (decide (v5>0)) then (bif ((decide (0<=(wrap .i64 (v5 - 1))/\(wrap .i64 (v5 - 1))<(v3.length:Int)))&&true) then (bif (decide ((0+(Int.toNat (wrap .i64 (v5 - 1))))<v3.length)) then (bif ((decide (0<=v4/\v4<(l0.length:Int)))&&true) then (bif (decide ((rd v3 (0+(Int.toNat (wrap .i64 (v5 - 1)))))>(rd l0 v4.toNat))) then (.to (.h1 v3 v4 (wrap .i64 (v5 - 1)))) else (bif ((rd v3 (0+(Int.toNat (wrap .i64 (v5 - 1))))) == (rd l0 v4.toNat)) then (.to (.h0 v3 (wrap .i64 (v4+1)))) else (bif (Nat.beq 1 1&&((decide (0+v3.length=v3.length))&&decide ((v3.length+1+1)*(8+1)<=Vd))) then (bif (true&&((decide (0<=(wrap .i64 (v5+1))))&&(decide ((v3.length+1)<=(v3.length+1))&&decide ((Int.toNat (wrap .i64 (v5+1)))<=(v3.length+1))))) then (bif (true&&((decide (0<=v5))&&(decide ((v3.length+1)<=(v3.length+1))&&decide (v5.toNat<=(v3.length+1))))) then (bif (decide ((0+v5.toNat)+((v3.length+1) - v5.toNat)<=(v3.length+1))) then (bif (decide ((0+(Int.toNat (wrap .i64 (v5+1))))+((v3.length+1) - (Int.toNat (wrap .i64 (v5+1))))<=(v3.length+1))) then (bif ((decide (0<=v5/\v5<(((v3.length+1):Nat):Int)))&&true) then (bif (decide ((0+v5.toNat)<(v3.length+1))) then (.to (.h0 ((Ft (v3++[0]) (0+(Int.toNat (wrap .i64 (v5+1)))) (Nat.min ((v3.length+1) - v5.toNat) ((v3.length+1) - (Int.toNat (wrap .i64 (v5+1))))) (Ve (v3++[0]) (0+v5.toNat) ((v3.length+1) - v5.toNat))).set (0+v5.toNat) (rd l0 v4.toNat)) (wrap .i64 (v4+1)))) else .stuck) else .stuck) else .stuck) else .stuck) else .stuck) else .stuck) else .stuck))) else .stuck) else .stuck) else .stuck) else (bif (Nat.beq 1 1&&((decide (0+v3.length=v3.length))&&decide ((v3.length+1+1)*(8+1)<=Vd))) then (bif (true&&((decide (0<=(wrap .i64 (v5+1))))&&(decide ((v3.length+1)<=(v3.length+1))&&decide ((Int.toNat (wrap .i64 (v5+1)))<=(v3.length+1))))) then (bif (true&&((decide (0<=v5))&&(decide ((v3.length+1)<=(v3.length+1))&&decide (v5.toNat<=(v3.length+1))))) then (bif (decide ((0+v5.toNat)+((v3.length+1) - v5.toNat)<=(v3.length+1))) then (bif (decide ((0+(Int.toNat (wrap .i64 (v5+1))))+((v3.length+1) - (Int.toNat (wrap .i64 (v5+1))))<=(v3.length+1))) then (bif ((decide (0<=v4/\v4<(l0.length:Int)))&&true) then (bif ((decide (0<=v5/\v5<(((v3.length+1):Nat):Int)))&&true) then (bif (decide ((0+v5.toNat)<(v3.length+1))) then (.to (.h0 ((Ft (v3++[0]) (0+(Int.toNat (wrap .i64 (v5+1)))) (Nat.min ((v3.length+1) - v5.toNat) ((v3.length+1) - (Int.toNat (wrap .i64 (v5+1))))) (Ve (v3++[0]) (0+v5.toNat) ((v3.length+1) - v5.toNat))).set (0+v5.toNat) (rd l0 v4.toNat)) (wrap .i64 (v4+1)))) else .stuck) else .stuck) else .stuck) else .stuck) else .stuck) else .stuck) else .stuck) else .stuck))
def UT (l0:List Int):Xu De:=(.to (.h0 ([]:List Int) 0))
theorem x5w (l0:List Int): ∀s,Wj prog (Zy prog 180) (v3r l0) (v3r l0 s) (Uo l0 s)
 | .h0 v3 v4=>(lb (fun k0=>(sl Zq 21 [] ⟨[0],[],v3p,v3q⟩ b7 [true] (pp (fl v3 nn) (tt k0 nn)))) (fun k0=>(lr 63 3 [1,1,1,1,1,1,0] 1 9 [(2,(.dat v3.length (Zz v3)))] (sl Zq 15 [] ⟨[],[0],[some [2]],[]⟩ ⟨[(2,.frz v3.length v3.length (Zz v3) (Zz v3))],[],[]⟩ [false] (pp (xZ (DU 1 1 0 v3.length v3.length (Zz v3)) v3.length (Zz v3)) (pp (xL v3.length v3.length) (pp (xS v3.length (Zz v3) (Zz v3)) (pp (fl v3 nn) (tt k0 nn)))))))))
 | .h1 v3 v4 v5=>let a:=RA v3 v5 l0 v4;(lb (fun k0=>(lo fun aG=>(lo fun aU=>(lo fun cI=>let g:=ww cI (ww aU (ww aG (tt k0 nn)));(lb (fun k1=>(sl Zq 13 [] ⟨[0],[],v3p,v3q⟩ b7 (CA 11 []) (pp (fl v3 nn) (tt k1 g)))) (fun k1=>let b:=ww cI (ww aU (ww aG (tt k0 (tt k1 g))));(lb (fun k2=>(sl Zq 16 [] ⟨[0],[],WT,WS⟩ b7 (CA 10 (bl 12 4094)) (pp (fl v3 nn) (tt k2 b)))) (fun k2=>(lo fun o0=>(lo fun o1=>(lo fun o2=>(lo fun o3=>(lo fun o4=>(lo fun o5=>(lo fun o6=>let c:=xG (Nat.beq 1 1);let e:=xL (v3.length+1) (RA v3 v5 l0 v4).length;(sl Zq 36 [] ⟨[2],[],WT,WS⟩ ⟨[(3,.len a.length)],[.rowed 1 a.length (Zz a)],[]⟩ (CA 10 (bl 12 2046)) (pp e (pp e (pp (xS (v3.length+1) (Xw (Us (GZ v3) (0+(tn (wr (v5+1)))) (WG v3 v5) (fun k=>(GZ v3) ((0+(tn v5))+k))) (0+(tn v5)) 0 [(ii (rd l0 (tn v4)))]) (Zz (RA v3 v5 l0 v4))) (pp (pp (xF (Xw (Us (GZ v3) (0+(tn (wr (v5+1)))) (WG v3 v5) (fun k=>(GZ v3) ((0+(tn v5))+k))) (0+(tn v5)) 0 [(ii (rd l0 (tn v4)))])) nn) (ww o6 (ww o5 (ww cI (pp (pp c (pp c (pp (xw o4) (pp c (pp c (pp (xG (decide ((0+(tn v5))+((v3.length+1) - (tn v5))<=(v3.length+1)))) (xG (Kr 1 ((v3.length+1) - (tn v5)) (fun k=>(GZ v3) ((0+(tn v5))+k)))))))))) (ww o2 (ww o1 (ww o0 (tt k2 b)))))))))))))))))))))))))))) (fun k0=>(lo fun o0=>(lo fun o1=>(lo fun o2=>(lo fun o3=>(lo fun o4=>(lo fun o5=>(lo fun o6=>(lo fun o7=>let d:=xG (Nat.beq 1 1);let f:=xL (v3.length+1) (RA v3 v5 l0 v4).length;(sl Zq 36 [] ⟨[2],[],WT,WS⟩ ⟨[(3,.len a.length)],[.rowed 1 a.length (Zz a)],[]⟩ (bl 22 0) (pp f (pp f (pp (xS (v3.length+1) (Xw (Us (GZ v3) (0+(tn (wr (v5+1)))) (WG v3 v5) (fun k=>(GZ v3) ((0+(tn v5))+k))) (0+(tn v5)) 0 [(ii (rd l0 (tn v4)))]) (Zz (RA v3 v5 l0 v4))) (pp (pp (xF (Xw (Us (GZ v3) (0+(tn (wr (v5+1)))) (WG v3 v5) (fun k=>(GZ v3) ((0+(tn v5))+k))) (0+(tn v5)) 0 [(ii (rd l0 (tn v4)))])) nn) (ww o7 (ww o6 (ww o5 (pp (pp d (pp d (pp (xw o4) (pp d (pp d (pp (xG (decide ((0+(tn v5))+((v3.length+1) - (tn v5))<=(v3.length+1)))) (xG (Kr 1 ((v3.length+1) - (tn v5)) (fun k=>(GZ v3) ((0+(tn v5))+k)))))))))) (ww o2 (ww o1 (ww o0 (tt k0 (tt k0 nn))))))))))))))))))))))))
theorem x2u (l0:List Int):Wj prog (Zy prog 180) (v3r l0) (Zg prog 180 [(.dat l0.length (Zz l0))] true []) (UT l0):=(sl Zq 15 [(3,1,Zz ([]:List Int))] ⟨[0],[],WT,WS⟩ ⟨[(3,.grow 0 1)],[],[]⟩ [] (pp (fl ([]:List Int) nn) nn))
theorem w8e (l0:List Int) (n:Nat) (vs:List B1) (h:Yw (Uo l0) n (UT l0)=.ret vs):Js prog (Zy prog 180) (Zg prog 180 [(.dat l0.length (Zz l0))] true []) vs:=by have:=Ze (x5w l0) n _ (x2u l0);rwa [h] at this
inductive Eg where
 | h0 (v5:List R2) (v6:Int)
def j1j (l0:List Int) (l1:List Bool):Eg->CE
 | .h0 v5 v6=>⟨⟨61,0,true⟩,none,(Zf prog 185 [1,1,0,1,0,0] 0),none,(Zy prog 3),⟨Ye [(0,(.dat l0.length (Zz l0))),(1,(.dat l1.length (Zz l1))),(5,(.sla 0 2 0 v5.length (.un 2))),(6,(ii v6))],Xt [⟨rows v5.length (Zz v5),260,some ⟨2,v5.length,(Zz v5)⟩⟩] 0,1,[],true⟩,[],.leaf⟩
def Rp :List (Option (List Nat)):=[some [0,1,5,6]]
def Ro :List (Option (List Nat)):=[]
def Gx (l0:List Int) (l1:List Bool):Eg->Xu Eg
 | .h0 v5 v6=>(bif (decide ((wrap .i64 (v6+1))<(l0.length:Int))) then (bif ((decide (0<=v6/\v6<(l1.length:Int)))&&true) then (bif (!(rd l1 v6.toNat)) then (.to (.h0 v5 (wrap .i64 (v6+1)))) else (bif (decide ((v5.length:Int)>0)) then (bif ((decide (0<=(wrap .i64 ((v5.length:Int) - 1))/\(wrap .i64 ((v5.length:Int) - 1))<(v5.length:Int)))&&true) then (bif (decide ((0+(Int.toNat (wrap .i64 ((v5.length:Int) - 1))))<v5.length)) then (bif ((decide (0<=v6/\v6<(l0.length:Int)))&&true) then (bif ((rd v5 (0+(Int.toNat (wrap .i64 ((v5.length:Int) - 1))))).b == (rd l0 v6.toNat)) then (bif ((decide (0<=(wrap .i64 (v6+1))/\(wrap .i64 (v6+1))<(l0.length:Int)))&&true) then (.to (.h0 (v5.set (0+(Int.toNat (wrap .i64 ((v5.length:Int) - 1)))) (R2.mk (rd v5 (0+(Int.toNat (wrap .i64 ((v5.length:Int) - 1))))).a (rd l0 (Int.toNat (wrap .i64 (v6+1)))))) (wrap .i64 (v6+1)))) else .stuck) else (bif ((decide (0<=(wrap .i64 (v6+1))/\(wrap .i64 (v6+1))<(l0.length:Int)))&&true) then (bif (Nat.beq 2 2&&((decide (0+v5.length=v5.length))&&decide ((v5.length+1+1)*(16+1)<=Vd))) then (.to (.h0 (v5++[(R2.mk (rd l0 v6.toNat) (rd l0 (Int.toNat (wrap .i64 (v6+1)))))]) (wrap .i64 (v6+1)))) else .stuck) else .stuck)) else .stuck) else .stuck) else .stuck) else (bif ((decide (0<=v6/\v6<(l0.length:Int)))&&true) then (bif ((decide (0<=(wrap .i64 (v6+1))/\(wrap .i64 (v6+1))<(l0.length:Int)))&&true) then (bif (Nat.beq 2 2&&((decide (0+v5.length=v5.length))&&decide ((v5.length+1+1)*(16+1)<=Vd))) then (.to (.h0 (v5++[(R2.mk (rd l0 v6.toNat) (rd l0 (Int.toNat (wrap .i64 (v6+1)))))]) (wrap .i64 (v6+1)))) else .stuck) else .stuck) else .stuck))) else .stuck) else (.ret [(.dat v5.length (Zz v5))]))
def UC (l0:List Int) (l1:List Bool):Xu Eg:=(.to (.h0 ([]:List R2) 0))
theorem w0u (l0:List Int) (l1:List Bool): ∀s,Wj prog (Zy prog 185) (j1j l0 l1) (j1j l0 l1 s) (Gx l0 l1 s)
 | .h0 v5 v6=>(lb (fun k0=>(lo fun aG=>let h:=ww aG (tt k0 nn);(lb (fun k1=>(sl Zq 30 [] ⟨[0],[],Rp,Ro⟩ b7 (bl 2 3) (pp (fl v5 nn) (tt k1 h)))) (fun k1=>let d:=RB v5 l0 v6;(lb (fun k2=>(lo fun cS=>(lo fun dW=>(lo fun eG=>let e:=ww eG (ww dW (ww cS (tt k2 (tt k1 h))));(lb (fun k3=>(lo fun o0=>let i:=tn (wr ((v5.length:Int) - 1));let b:=v5.set (0+i) (R2.mk (rd v5 (0+i)).a (rd l0 (tn (wr (v6+1)))));let c:=xL v5.length (v5.set (0+(tn (wr ((v5.length:Int) - 1)))) (R2.mk (rd v5 (0+(tn (wr ((v5.length:Int) - 1))))).a (rd l0 (tn (wr (v6+1)))))).length;(sl Zq 53 [] ⟨[0],[],Rp,Ro⟩ ⟨[(5,.len b.length)],[.rowed 2 b.length (Zz b)],[]⟩ (bl 14 16381) (pp c (pp c (pp (xS v5.length (Xw (Zz v5) (0+(tn (wr ((v5.length:Int) - 1)))) 1 [(ii (rd l0 (tn (wr (v6+1)))))]) (Zz (v5.set (0+(tn (wr ((v5.length:Int) - 1)))) (R2.mk (rd v5 (0+(tn (wr ((v5.length:Int) - 1))))).a (rd l0 (tn (wr (v6+1)))))))) (pp (pp (xF (Xw (Zz v5) (0+(tn (wr ((v5.length:Int) - 1)))) 1 [(ii (rd l0 (tn (wr (v6+1)))))])) nn) (ww dW (ww cS (ww o0 (tt k3 e))))))))))) (fun k3=>(lo fun o0=>(lo fun o1=>let f:=xL (v5.length+1) (RB v5 l0 v6).length;(sl Zq 41 [] ⟨[2],[],Rp,Ro⟩ ⟨[(5,.len d.length)],[.rowed 2 d.length (Zz d)],[]⟩ (bl 14 8189) (pp f (pp f (pp (xS (v5.length+1) (WF v5 l0 v6) (Zz (RB v5 l0 v6))) (pp (pp (xF (WF v5 l0 v6)) nn) (ww o1 (ww o0 (ww eG (tt k3 e))))))))))))))))) (fun k2=>(lo fun o0=>(lo fun o1=>(lo fun o2=>let g:=xL (v5.length+1) (RB v5 l0 v6).length;(sl Zq 41 [] ⟨[2],[],Rp,Ro⟩ ⟨[(5,.len d.length)],[.rowed 2 d.length (Zz d)],[]⟩ (bl 14 1) (pp g (pp g (pp (xS (v5.length+1) (WF v5 l0 v6) (Zz (RB v5 l0 v6))) (pp (pp (xF (WF v5 l0 v6)) nn) (ww o2 (ww o1 (ww o0 (tt k2 (tt k1 h))))))))))))))))))) (fun k0=>(lr 61 3 [1,1,1,1,1,1,0] 1 3 [(4,(.dat v5.length (Zz v5)))] (sl Zq 16 [] ⟨[],[0],[some [4]],[]⟩ ⟨[(4,.frz v5.length v5.length (Zz v5) (Zz v5))],[],[]⟩ [false] (pp (xZ (DU 2 2 0 v5.length v5.length (Zz v5)) v5.length (Zz v5)) (pp (xL v5.length v5.length) (pp (xS v5.length (Zz v5) (Zz v5)) (pp (fl v5 nn) (tt k0 nn)))))))))
theorem x6j (l0:List Int) (l1:List Bool):Wj prog (Zy prog 185) (j1j l0 l1) (Zg prog 185 [(.dat l0.length (Zz l0)),(.dat l1.length (Zz l1))] true []) (UC l0 l1):=(sl Zq 15 [(260,2,Zz ([]:List R2))] ⟨[0],[],Rp,Ro⟩ ⟨[(5,.grow 0 2)],[],[]⟩ [] (pp (fl ([]:List R2) nn) nn))
theorem v4r (l0:List Int) (l1:List Bool) (n:Nat) (vs:List B1) (h:Yw (Gx l0 l1) n (UC l0 l1)=.ret vs):Js prog (Zy prog 185) (Zg prog 185 [(.dat l0.length (Zz l0)),(.dat l1.length (Zz l1))] true []) vs:=by have:=Ze (w0u l0 l1) n _ (x6j l0 l1);rwa [h] at this
inductive H4 where
 | h0 (v5:Int)
def MZ (l0:List R2) (l1:List R2):H4->CE
 | .h0 v5=>⟨⟨26,0,true⟩,none,(Zf prog 186 [1,1,0,1,0,0] 0),none,(Zy prog 3),⟨Ye [(0,(.dat l0.length (Zz l0))),(1,(.dat l1.length (Zz l1))),(5,(ii v5))],Xt [] 0,0,[],true⟩,[],.leaf⟩
def JS :List (Option (List Nat)):=[some [0,1,5]]
def JT :List (Option (List Nat)):=[]
def LS (l0:List R2) (l1:List R2):H4->Xu H4
 | .h0 v5=>(bif (decide (v5<(l0.length:Int))) then (bif ((decide (0<=v5/\v5<(l0.length:Int)))&&true) then (bif ((decide (0<=v5/\v5<(l1.length:Int)))&&true) then (bif (!(((rd l0 v5.toNat).a == (rd l1 v5.toNat).a)&&(((rd l0 v5.toNat).b == (rd l1 v5.toNat).b)&&true))) then (.ret [(.bool false)]) else (.to (.h0 (wrap .i64 (v5+1))))) else .stuck) else .stuck) else (.ret [(.bool true)]))
def QP (l0:List R2) (l1:List R2):Xu H4:=(bif ((l0.length:Int) != (l1.length:Int)) then (.ret [(.bool false)]) else (.to (.h0 0)))
theorem w8f (l0:List R2) (l1:List R2): ∀s,Wj prog (Zy prog 186) (MZ l0 l1) (MZ l0 l1 s) (LS l0 l1 s)
 | .h0 v5=>(lb (fun k0=>(lo fun aG=>(lo fun aU=>let a:=ww aU (ww aG (tt k0 nn));(lb (fun k1=>(lr 26 186 [1,1,0,1,0,0,1,0,0,1,0,0] 1 3 [(4,(.bool false))] (sl Zq 19 [] (b8 [4]) b7 (bl 2 3) (tt k1 a)))) (fun k1=>(sl Zq 23 [] ⟨[],[],JS,JT⟩ b7 (bl 2 1) (tt k1 a))))))) (fun k0=>(lr 26 3 [1,1,1,1,1,1,0] 1 3 [(4,(.bool true))] (sl Zq 14 [] (b8 [4]) b7 [false] (tt k0 nn)))))
theorem x9x (l0:List R2) (l1:List R2):Wj prog (Zy prog 186) (MZ l0 l1) (Zg prog 186 [(.dat l0.length (Zz l0)),(.dat l1.length (Zz l1))] true []) (QP l0 l1):=(lb (fun k0=>(lr 26 186 [1,0,1,0,0] 1 3 [(4,(.bool false))] (sl Zq 18 [] (b8 [4]) b7 [true] (tt k0 nn)))) (fun k0=>(sl Zq 22 [] ⟨[],[],JS,JT⟩ b7 [false] (tt k0 nn))))
theorem u0i (l0:List R2) (l1:List R2) (n:Nat) (vs:List B1) (h:Yw (LS l0 l1) n (QP l0 l1)=.ret vs):Js prog (Zy prog 186) (Zg prog 186 [(.dat l0.length (Zz l0)),(.dat l1.length (Zz l1))] true []) vs:=by have:=Ze (w8f l0 l1) n _ (x9x l0 l1);rwa [h] at this
inductive Ed where
 | h0 (v7:Int)
def j1a (l0:List R4) (x1:Int) (x2:Int):Ed->CE
 | .h0 v7=>⟨⟨48,0,true⟩,none,(Zf prog 184 [1,0,1,0,0] 0),none,(Zy prog 7),⟨Ye [(0,(.dat l0.length (Zz l0))),(1,(ii x1)),(2,(ii x2)),(7,(ii v7))],Xt [] 0,0,[],true⟩,[],.leaf⟩
def Ru :List (Option (List Nat)):=[some [0,1,2,7]]
def Rt :List (Option (List Nat)):=[]
def PP (l0:List R4) (x1:Int) (x2:Int):Ed->Xu Ed
 | .h0 v7=>(bif (decide (v7<(l0.length:Int))) then (bif ((decide (0<=v7/\v7<(l0.length:Int)))&&true) then (bif (decide ((rd l0 v7.toNat).a <=x1)) then (bif (decide (x1<(rd l0 v7.toNat).c)) then (bif (decide ((rd l0 v7.toNat).b <=x2)) then (bif (decide (x2<(rd l0 v7.toNat).d)) then (.ret [(.bool true)]) else (.to (.h0 (wrap .i64 (v7+1))))) else (.to (.h0 (wrap .i64 (v7+1))))) else (.to (.h0 (wrap .i64 (v7+1))))) else (.to (.h0 (wrap .i64 (v7+1))))) else .stuck) else (.ret [(.bool false)]))
def UI (l0:List R4) (x1:Int) (x2:Int):Xu Ed:=(.to (.h0 0))
theorem w0j (l0:List R4) (x1:Int) (x2:Int): ∀s,Wj prog (Zy prog 184) (j1a l0 x1 x2) (j1a l0 x1 x2 s) (PP l0 x1 x2 s)
 | .h0 v7=>(lb (fun k0=>(lo fun aG=>let c:=ww aG (tt k0 nn);(lb (fun k1=>let a:=ww aG (tt k1 c);(lb (fun k2=>let d:=ww aG (tt k2 a);(lb (fun k3=>let b:=ww aG (tt k3 d);(lb (fun k4=>(lr 48 184 [1,0,1,0,0,1,0,0,1,0,0] 1 7 [(6,(.bool true))] (sl Zq 54 [] (b8 [6]) b7 (CA 23 []) (tt k4 b)))) (fun k4=>(sl Zq 58 [] ⟨[],[],Ru,Rt⟩ b7 (CA 22 [false]) (tt k4 b))))) (fun k3=>(sl Zq 58 [] ⟨[],[],Ru,Rt⟩ b7 (CA 15 (bl 8 0)) (tt k3 d))))) (fun k2=>(sl Zq 58 [] ⟨[],[],Ru,Rt⟩ b7 (CA 8 (bl 15 0)) (tt k2 a))))) (fun k1=>(sl Zq 58 [] ⟨[],[],Ru,Rt⟩ b7 (bl 23 1) (tt k1 c)))))) (fun k0=>(lr 48 3 [1,1,1,1,1,1,0] 1 7 [(6,(.bool false))] (sl Zq 14 [] (b8 [6]) b7 [false] (tt k0 nn)))))
theorem x5z (l0:List R4) (x1:Int) (x2:Int):Wj prog (Zy prog 184) (j1a l0 x1 x2) (Zg prog 184 [(.dat l0.length (Zz l0)),(.int .i64 x1),(.int .i64 x2)] true []) (UI l0 x1 x2):=(sl Zq 11 [] ⟨[],[],Ru,Rt⟩ b7 [] nn)
theorem v4d (l0:List R4) (x1:Int) (x2:Int) (n:Nat) (vs:List B1) (h:Yw (PP l0 x1 x2) n (UI l0 x1 x2)=.ret vs):Js prog (Zy prog 184) (Zg prog 184 [(.dat l0.length (Zz l0)),(.int .i64 x1),(.int .i64 x2)] true []) vs:=by have:=Ze (w0j l0 x1 x2) n _ (x5z l0 x1 x2);rwa [h] at this
inductive H3 where
 | h0 (v5:Int)
def MY (l0:List R4) (l1:List R4):H3->CE
 | .h0 v5=>⟨⟨26,0,true⟩,none,(Zf prog 151 [1,1,0,1,0,0] 0),none,(Zy prog 3),⟨Ye [(0,(.dat l0.length (Zz l0))),(1,(.dat l1.length (Zz l1))),(5,(ii v5))],Xt [] 0,0,[],true⟩,[],.leaf⟩
def JQ :List (Option (List Nat)):=[some [0,1,5]]
def JR :List (Option (List Nat)):=[]
def LT (l0:List R4) (l1:List R4):H3->Xu H3
 | .h0 v5=>(bif (decide (v5<(l0.length:Int))) then (bif ((decide (0<=v5/\v5<(l0.length:Int)))&&true) then (bif ((decide (0<=v5/\v5<(l1.length:Int)))&&true) then (bif (!(((rd l0 v5.toNat).a == (rd l1 v5.toNat).a)&&(((rd l0 v5.toNat).b == (rd l1 v5.toNat).b)&&(((rd l0 v5.toNat).c == (rd l1 v5.toNat).c)&&(((rd l0 v5.toNat).d == (rd l1 v5.toNat).d)&&true))))) then (.ret [(.bool false)]) else (.to (.h0 (wrap .i64 (v5+1))))) else .stuck) else .stuck) else (.ret [(.bool true)]))
def QQ (l0:List R4) (l1:List R4):Xu H3:=(bif ((l0.length:Int) != (l1.length:Int)) then (.ret [(.bool false)]) else (.to (.h0 0)))
theorem w8d (l0:List R4) (l1:List R4): ∀s,Wj prog (Zy prog 151) (MY l0 l1) (MY l0 l1 s) (LT l0 l1 s)
 | .h0 v5=>(lb (fun k0=>(lo fun aG=>(lo fun aU=>let a:=ww aU (ww aG (tt k0 nn));(lb (fun k1=>(lr 26 151 [1,1,0,1,0,0,1,0,0,1,0,0] 1 3 [(4,(.bool false))] (sl Zq 19 [] (b8 [4]) b7 (bl 2 3) (tt k1 a)))) (fun k1=>(sl Zq 23 [] ⟨[],[],JQ,JR⟩ b7 (bl 2 1) (tt k1 a))))))) (fun k0=>(lr 26 3 [1,1,1,1,1,1,0] 1 3 [(4,(.bool true))] (sl Zq 14 [] (b8 [4]) b7 [false] (tt k0 nn)))))
theorem x9w (l0:List R4) (l1:List R4):Wj prog (Zy prog 151) (MY l0 l1) (Zg prog 151 [(.dat l0.length (Zz l0)),(.dat l1.length (Zz l1))] true []) (QQ l0 l1):=(lb (fun k0=>(lr 26 151 [1,0,1,0,0] 1 3 [(4,(.bool false))] (sl Zq 18 [] (b8 [4]) b7 [true] (tt k0 nn)))) (fun k0=>(sl Zq 22 [] ⟨[],[],JQ,JR⟩ b7 [false] (tt k0 nn))))
theorem u0h (l0:List R4) (l1:List R4) (n:Nat) (vs:List B1) (h:Yw (LT l0 l1) n (QQ l0 l1)=.ret vs):Js prog (Zy prog 151) (Zg prog 151 [(.dat l0.length (Zz l0)),(.dat l1.length (Zz l1))] true []) vs:=by have:=Ze (w8d l0 l1) n _ (x9w l0 l1);rwa [h] at this
inductive H6 where
 | h0 (v5:Int)
def M1 (l0:List R6) (l1:List R6):H6->CE
 | .h0 v5=>⟨⟨26,0,true⟩,none,(Zf prog 31 [1,1,0,1,0,0] 0),none,(Zy prog 3),⟨Ye [(0,(.dat l0.length (Zz l0))),(1,(.dat l1.length (Zz l1))),(5,(ii v5))],Xt [] 0,0,[],true⟩,[],.leaf⟩
def JY :List (Option (List Nat)):=[some [0,1,5]]
def JZ :List (Option (List Nat)):=[]
def LR (l0:List R6) (l1:List R6):H6->Xu H6
 | .h0 v5=>(bif (decide (v5<(l0.length:Int))) then (bif ((decide (0<=v5/\v5<(l0.length:Int)))&&true) then (bif ((decide (0<=v5/\v5<(l1.length:Int)))&&true) then (bif (!((((rd l0 v5.toNat).a == (rd l1 v5.toNat).a)&&(((rd l0 v5.toNat).b == (rd l1 v5.toNat).b)&&(((rd l0 v5.toNat).c == (rd l1 v5.toNat).c)&&true)))&&((((rd l0 v5.toNat).d == (rd l1 v5.toNat).d)&&(((rd l0 v5.toNat).e == (rd l1 v5.toNat).e)&&(((rd l0 v5.toNat).f == (rd l1 v5.toNat).f)&&true)))&&true))) then (.ret [(.bool false)]) else (.to (.h0 (wrap .i64 (v5+1))))) else .stuck) else .stuck) else (.ret [(.bool true)]))
def QO (l0:List R6) (l1:List R6):Xu H6:=(bif ((l0.length:Int) != (l1.length:Int)) then (.ret [(.bool false)]) else (.to (.h0 0)))
theorem w8h (l0:List R6) (l1:List R6): ∀s,Wj prog (Zy prog 31) (M1 l0 l1) (M1 l0 l1 s) (LR l0 l1 s)
 | .h0 v5=>(lb (fun k0=>(lo fun aG=>(lo fun aU=>let a:=ww aU (ww aG (tt k0 nn));(lb (fun k1=>(lr 26 31 [1,1,0,1,0,0,1,0,0,1,0,0] 1 3 [(4,(.bool false))] (sl Zq 19 [] (b8 [4]) b7 (bl 2 3) (tt k1 a)))) (fun k1=>(sl Zq 23 [] ⟨[],[],JY,JZ⟩ b7 (bl 2 1) (tt k1 a))))))) (fun k0=>(lr 26 3 [1,1,1,1,1,1,0] 1 3 [(4,(.bool true))] (sl Zq 14 [] (b8 [4]) b7 [false] (tt k0 nn)))))
theorem x9z (l0:List R6) (l1:List R6):Wj prog (Zy prog 31) (M1 l0 l1) (Zg prog 31 [(.dat l0.length (Zz l0)),(.dat l1.length (Zz l1))] true []) (QO l0 l1):=(lb (fun k0=>(lr 26 31 [1,0,1,0,0] 1 3 [(4,(.bool false))] (sl Zq 18 [] (b8 [4]) b7 [true] (tt k0 nn)))) (fun k0=>(sl Zq 22 [] ⟨[],[],JY,JZ⟩ b7 [false] (tt k0 nn))))
theorem u0l (l0:List R6) (l1:List R6) (n:Nat) (vs:List B1) (h:Yw (LR l0 l1) n (QO l0 l1)=.ret vs):Js prog (Zy prog 31) (Zg prog 31 [(.dat l0.length (Zz l0)),(.dat l1.length (Zz l1))] true []) vs:=by have:=Ze (w8h l0 l1) n _ (x9z l0 l1);rwa [h] at this
inductive Hi where
 | h0 (v5:List R4) (v6:Int)
def Mc (l0:List R6) (x1:Int):Hi->CE
 | .h0 v5 v6=>⟨⟨60,0,true⟩,none,(Zf prog 150 [1,1,0,1,0,0] 0),none,(Zy prog 3),⟨Ye [(0,(.dat l0.length (Zz l0))),(1,(ii x1)),(5,(.sla 0 4 0 v5.length (.un 4))),(6,(ii v6))],Xt [⟨rows v5.length (Zz v5),168,some ⟨4,v5.length,(Zz v5)⟩⟩] 0,1,[],true⟩,[],.leaf⟩
def XW :List (Option (List Nat)):=[some [0,1,5,6]]
def XV :List (Option (List Nat)):=[]
def LN (l0:List R6) (x1:Int):Hi->Xu Hi
 | .h0 v5 v6=>(bif (decide (v6<(l0.length:Int))) then (bif ((decide (0<=v6/\v6<(l0.length:Int)))&&true) then (bif (decide ((rd l0 v6.toNat).c <=x1)) then (bif (decide (x1<(rd l0 v6.toNat).f)) then (bif (Nat.beq 4 4&&((decide (0+v5.length=v5.length))&&decide ((v5.length+1+1)*(32+1)<=Vd))) then (.to (.h0 (v5++[(R4.mk (rd l0 v6.toNat).a (rd l0 v6.toNat).b (rd l0 v6.toNat).d (rd l0 v6.toNat).e)]) (wrap .i64 (v6+1)))) else .stuck) else (.to (.h0 v5 (wrap .i64 (v6+1))))) else (.to (.h0 v5 (wrap .i64 (v6+1))))) else .stuck) else (.ret [(.dat v5.length (Zz v5))]))
def VK (l0:List R6) (x1:Int):Xu Hi:=(.to (.h0 ([]:List R4) 0))
theorem w8v (l0:List R6) (x1:Int): ∀s,Wj prog (Zy prog 150) (Mc l0 x1) (Mc l0 x1 s) (LN l0 x1 s)
 | .h0 v5 v6=>(lb (fun k0=>(lo fun aG=>let f:=ww aG (tt k0 nn);(lb (fun k1=>let h:=ww aG (tt k1 f);(lb (fun k2=>(lo fun o0=>let c:=xL (v5.length+1) (ZO v5 l0 v6).length;let g:=ZO v5 l0 v6;(sl Zq 42 [] ⟨[2],[],XW,XV⟩ ⟨[(5,.len g.length)],[.rowed 4 g.length (Zz g)],[]⟩ (CA 10 []) (pp c (pp c (pp (xS (v5.length+1) (Zo (Zz v5) 0 v5.length 4 [(ii (rd l0 (tn v6)).a),(ii (rd l0 (tn v6)).b),(ii (rd l0 (tn v6)).d),(ii (rd l0 (tn v6)).e)]) (Zz (ZO v5 l0 v6))) (pp (pp (xF (Zo (Zz v5) 0 v5.length 4 [(ii (rd l0 (tn v6)).a),(ii (rd l0 (tn v6)).b),(ii (rd l0 (tn v6)).d),(ii (rd l0 (tn v6)).e)])) nn) (ww o0 (ww aG (ww aG (ww aG (ww aG (tt k2 h))))))))))))) (fun k2=>(sl Zq 42 [] ⟨[0],[],XW,XV⟩ b7 (CA 9 [false]) (pp (fl v5 nn) (tt k2 h)))))) (fun k1=>(sl Zq 42 [] ⟨[0],[],XW,XV⟩ b7 (bl 10 1) (pp (fl v5 nn) (tt k1 f))))))) (fun k0=>(lr 60 3 [1,1,1,1,1,1,0] 1 3 [(4,(.dat v5.length (Zz v5)))] (sl Zq 15 [] ⟨[],[0],[some [4]],[]⟩ ⟨[(4,.frz v5.length v5.length (Zz v5) (Zz v5))],[],[]⟩ [false] (pp (xZ (DU 4 4 0 v5.length v5.length (Zz v5)) v5.length (Zz v5)) (pp (xL v5.length v5.length) (pp (xS v5.length (Zz v5) (Zz v5)) (pp (fl v5 nn) (tt k0 nn)))))))))
theorem w0v (l0:List R6) (x1:Int):Wj prog (Zy prog 150) (Mc l0 x1) (Zg prog 150 [(.dat l0.length (Zz l0)),(.int .i64 x1)] true []) (VK l0 x1):=(sl Zq 15 [(168,4,Zz ([]:List R4))] ⟨[0],[],XW,XV⟩ ⟨[(5,.grow 0 4)],[],[]⟩ [] (pp (fl ([]:List R4) nn) nn))
theorem u1i (l0:List R6) (x1:Int) (n:Nat) (vs:List B1) (h:Yw (LN l0 x1) n (VK l0 x1)=.ret vs):Js prog (Zy prog 150) (Zg prog 150 [(.dat l0.length (Zz l0)),(.int .i64 x1)] true []) vs:=by have:=Ze (w8v l0 x1) n _ (w0v l0 x1);rwa [h] at this
inductive IM where
 | h0 (v13:Int)
def Oi (l0:List R2) (l1:List R2):IM->CE
 | .h0 v13=>⟨⟨26,0,true⟩,none,(Zf prog 203 [1,1,0,1,0,0] 0),none,(Zy prog 3),⟨Ye [(0,(.dat l0.length (Zz l0))),(1,(.dat l1.length (Zz l1))),(12,(ii (l0.length:Int))),(13,(ii v13))],Xt [] 0,0,[],true⟩,[],.leaf⟩
def K7 :List (Option (List Nat)):=[some [0,1,12,13]]
def K8 :List (Option (List Nat)):=[]
def LE (l0:List R2) (l1:List R2):IM->Xu IM
 | .h0 v13=>(bif (decide (v13<(l0.length:Int))) then (bif ((decide (0<=v13/\v13<(l0.length:Int)))&&true) then (bif ((decide (0<=v13/\v13<(l1.length:Int)))&&true) then (bif (!(((rd l0 v13.toNat).a == (rd l1 v13.toNat).a)&&(((rd l0 v13.toNat).b == (rd l1 v13.toNat).b)&&true))) then (.ret [(.bool false)]) else (.to (.h0 (wrap .i64 (v13+1))))) else .stuck) else .stuck) else (.ret [(.bool true)]))
def RV (l0:List R2) (l1:List R2):Xu IM:=(bif ((l0.length:Int) != (l1.length:Int)) then (.ret [(.bool false)]) else (.to (.h0 0)))
theorem v0w (l0:List R2) (l1:List R2): ∀s,Wj prog (Zy prog 203) (Oi l0 l1) (Oi l0 l1 s) (LE l0 l1 s)
 | .h0 v13=>(lb (fun k0=>(lo fun aG=>(lo fun aU=>let a:=ww aU (ww aG (tt k0 nn));(lb (fun k1=>(lr 26 203 [1,1,0,1,0,0,1,1,0,0,1,1,0,0] 1 3 [(4,(.bool false))] (sl Zq 21 [] (b8 [4]) b7 (bl 2 3) (tt k1 a)))) (fun k1=>(sl Zq 24 [] ⟨[],[],K7,K8⟩ b7 (bl 2 1) (tt k1 a))))))) (fun k0=>(lr 26 3 [1,1,1,1,1,1,0] 1 3 [(4,(.bool true))] (sl Zq 11 [] (b8 [4]) b7 [false] (tt k0 nn)))))
theorem w3g (l0:List R2) (l1:List R2):Wj prog (Zy prog 203) (Oi l0 l1) (Zg prog 203 [(.dat l0.length (Zz l0)),(.dat l1.length (Zz l1))] true []) (RV l0 l1):=(lb (fun k0=>(lr 26 203 [1,0,1,0,0] 1 3 [(4,(.bool false))] (sl Zq 18 [] (b8 [4]) b7 [true] (tt k0 nn)))) (fun k0=>(sl Zq 24 [] ⟨[],[],K7,K8⟩ b7 [false] (tt k0 nn))))
theorem u4k (l0:List R2) (l1:List R2) (n:Nat) (vs:List B1) (h:Yw (LE l0 l1) n (RV l0 l1)=.ret vs):Js prog (Zy prog 203) (Zg prog 203 [(.dat l0.length (Zz l0)),(.dat l1.length (Zz l1))] true []) vs:=by have:=Ze (v0w l0 l1) n _ (w3g l0 l1);rwa [h] at this
inductive IL where
 | h0 (v13:Int)
def Oh (l0:List R4) (l1:List R4):IL->CE
 | .h0 v13=>⟨⟨26,0,true⟩,none,(Zf prog 168 [1,1,0,1,0,0] 0),none,(Zy prog 3),⟨Ye [(0,(.dat l0.length (Zz l0))),(1,(.dat l1.length (Zz l1))),(12,(ii (l0.length:Int))),(13,(ii v13))],Xt [] 0,0,[],true⟩,[],.leaf⟩
def K5 :List (Option (List Nat)):=[some [0,1,12,13]]
def K6 :List (Option (List Nat)):=[]
def LF (l0:List R4) (l1:List R4):IL->Xu IL
 | .h0 v13=>(bif (decide (v13<(l0.length:Int))) then (bif ((decide (0<=v13/\v13<(l0.length:Int)))&&true) then (bif ((decide (0<=v13/\v13<(l1.length:Int)))&&true) then (bif (!(((rd l0 v13.toNat).a == (rd l1 v13.toNat).a)&&(((rd l0 v13.toNat).b == (rd l1 v13.toNat).b)&&(((rd l0 v13.toNat).c == (rd l1 v13.toNat).c)&&(((rd l0 v13.toNat).d == (rd l1 v13.toNat).d)&&true))))) then (.ret [(.bool false)]) else (.to (.h0 (wrap .i64 (v13+1))))) else .stuck) else .stuck) else (.ret [(.bool true)]))
def RW (l0:List R4) (l1:List R4):Xu IL:=(bif ((l0.length:Int) != (l1.length:Int)) then (.ret [(.bool false)]) else (.to (.h0 0)))
theorem v0v (l0:List R4) (l1:List R4): ∀s,Wj prog (Zy prog 168) (Oh l0 l1) (Oh l0 l1 s) (LF l0 l1 s)
 | .h0 v13=>(lb (fun k0=>(lo fun aG=>(lo fun aU=>let a:=ww aU (ww aG (tt k0 nn));(lb (fun k1=>(lr 26 168 [1,1,0,1,0,0,1,1,0,0,1,1,0,0] 1 3 [(4,(.bool false))] (sl Zq 21 [] (b8 [4]) b7 (bl 2 3) (tt k1 a)))) (fun k1=>(sl Zq 24 [] ⟨[],[],K5,K6⟩ b7 (bl 2 1) (tt k1 a))))))) (fun k0=>(lr 26 3 [1,1,1,1,1,1,0] 1 3 [(4,(.bool true))] (sl Zq 11 [] (b8 [4]) b7 [false] (tt k0 nn)))))
theorem w3f (l0:List R4) (l1:List R4):Wj prog (Zy prog 168) (Oh l0 l1) (Zg prog 168 [(.dat l0.length (Zz l0)),(.dat l1.length (Zz l1))] true []) (RW l0 l1):=(lb (fun k0=>(lr 26 168 [1,0,1,0,0] 1 3 [(4,(.bool false))] (sl Zq 18 [] (b8 [4]) b7 [true] (tt k0 nn)))) (fun k0=>(sl Zq 24 [] ⟨[],[],K5,K6⟩ b7 [false] (tt k0 nn))))
theorem u4j (l0:List R4) (l1:List R4) (n:Nat) (vs:List B1) (h:Yw (LF l0 l1) n (RW l0 l1)=.ret vs):Js prog (Zy prog 168) (Zg prog 168 [(.dat l0.length (Zz l0)),(.dat l1.length (Zz l1))] true []) vs:=by have:=Ze (v0v l0 l1) n _ (w3f l0 l1);rwa [h] at this
inductive IK where
 | h0 (v13:Int)
def Og (l0:List R6) (l1:List R6):IK->CE
 | .h0 v13=>⟨⟨26,0,true⟩,none,(Zf prog 103 [1,1,0,1,0,0] 0),none,(Zy prog 3),⟨Ye [(0,(.dat l0.length (Zz l0))),(1,(.dat l1.length (Zz l1))),(12,(ii (l0.length:Int))),(13,(ii v13))],Xt [] 0,0,[],true⟩,[],.leaf⟩
def K3 :List (Option (List Nat)):=[some [0,1,12,13]]
def K4 :List (Option (List Nat)):=[]
def LG (l0:List R6) (l1:List R6):IK->Xu IK
 | .h0 v13=>(bif (decide (v13<(l0.length:Int))) then (bif ((decide (0<=v13/\v13<(l0.length:Int)))&&true) then (bif ((decide (0<=v13/\v13<(l1.length:Int)))&&true) then (bif (!((((rd l0 v13.toNat).a == (rd l1 v13.toNat).a)&&(((rd l0 v13.toNat).b == (rd l1 v13.toNat).b)&&(((rd l0 v13.toNat).c == (rd l1 v13.toNat).c)&&true)))&&((((rd l0 v13.toNat).d == (rd l1 v13.toNat).d)&&(((rd l0 v13.toNat).e == (rd l1 v13.toNat).e)&&(((rd l0 v13.toNat).f == (rd l1 v13.toNat).f)&&true)))&&true))) then (.ret [(.bool false)]) else (.to (.h0 (wrap .i64 (v13+1))))) else .stuck) else .stuck) else (.ret [(.bool true)]))
def RX (l0:List R6) (l1:List R6):Xu IK:=(bif ((l0.length:Int) != (l1.length:Int)) then (.ret [(.bool false)]) else (.to (.h0 0)))
theorem v0u (l0:List R6) (l1:List R6): ∀s,Wj prog (Zy prog 103) (Og l0 l1) (Og l0 l1 s) (LG l0 l1 s)
 | .h0 v13=>(lb (fun k0=>(lo fun aG=>(lo fun aU=>let a:=ww aU (ww aG (tt k0 nn));(lb (fun k1=>(lr 26 103 [1,1,0,1,0,0,1,1,0,0,1,1,0,0] 1 3 [(4,(.bool false))] (sl Zq 21 [] (b8 [4]) b7 (bl 2 3) (tt k1 a)))) (fun k1=>(sl Zq 24 [] ⟨[],[],K3,K4⟩ b7 (bl 2 1) (tt k1 a))))))) (fun k0=>(lr 26 3 [1,1,1,1,1,1,0] 1 3 [(4,(.bool true))] (sl Zq 11 [] (b8 [4]) b7 [false] (tt k0 nn)))))
theorem w3e (l0:List R6) (l1:List R6):Wj prog (Zy prog 103) (Og l0 l1) (Zg prog 103 [(.dat l0.length (Zz l0)),(.dat l1.length (Zz l1))] true []) (RX l0 l1):=(lb (fun k0=>(lr 26 103 [1,0,1,0,0] 1 3 [(4,(.bool false))] (sl Zq 18 [] (b8 [4]) b7 [true] (tt k0 nn)))) (fun k0=>(sl Zq 24 [] ⟨[],[],K3,K4⟩ b7 [false] (tt k0 nn))))
theorem u4i (l0:List R6) (l1:List R6) (n:Nat) (vs:List B1) (h:Yw (LG l0 l1) n (RX l0 l1)=.ret vs):Js prog (Zy prog 103) (Zg prog 103 [(.dat l0.length (Zz l0)),(.dat l1.length (Zz l1))] true []) vs:=by have:=Ze (v0u l0 l1) n _ (w3e l0 l1);rwa [h] at this
inductive Hu where
def Nl (x0:Int) (x1:Bool) (x2:Bool):Hu->CE
 :=nofun
def w2j (x0:Int) (x1:Bool) (x2:Bool):Hu->Xu Hu
 :=nofun
def VD (x0:Int) (x1:Bool) (x2:Bool):Xu Hu:=(bif (x0 == 1) then (bif x1 then (.ret [(.bool x2)]) else (.ret [(.bool false)])) else (bif (x0 == 2) then (bif x1 then (.ret [(.bool true)]) else (.ret [(.bool x2)])) else (bif x1 then (.ret [(.bool (!x2))]) else (.ret [(.bool false)]))))
theorem v0c (x0:Int) (x1:Bool) (x2:Bool): ∀s,Wj prog (Zy prog 183) (Nl x0 x1 x2) (Nl x0 x1 x2 s) (w2j x0 x1 x2 s)
 :=nofun
theorem w2k (x0:Int) (x1:Bool) (x2:Bool):Wj prog (Zy prog 183) (Nl x0 x1 x2) (Zg prog 183 [(.int .i64 x0),(.bool x1),(.bool x2)] true []) (VD x0 x1 x2):=(lb (fun k0=>(lb (fun k1=>(lr 24 183 [1,0,1,0,0] 1 7 [(6,(.bool x2))] (sl Zq 19 [] (b8 [6]) b7 (bl 2 3) (tt k1 (tt k0 nn))))) (fun k1=>(lr 24 183 [1,0,1,0,0] 1 7 [(6,(.bool false))] (sl Zq 19 [] (b8 [6]) b7 (bl 2 1) (tt k1 (tt k0 nn))))))) (fun k0=>(lb (fun k1=>let a:=tt k1 (tt k0 nn);(lb (fun k2=>(lr 24 183 [1,1,0,1,0,0] 1 7 [(6,(.bool true))] (sl Zq 27 [] (b8 [6]) b7 (bl 3 6) (tt k2 a)))) (fun k2=>(lr 24 183 [1,1,0,1,0,0] 1 7 [(6,(.bool x2))] (sl Zq 27 [] (b8 [6]) b7 (bl 3 2) (tt k2 a)))))) (fun k1=>let b:=tt k1 (tt k0 nn);(lb (fun k2=>(lr 24 3 [1,1,1,1,1,1,0] 1 7 [(6,(.bool (!x2)))] (sl Zq 29 [] (b8 [6]) b7 (bl 4 12) (tt k2 b)))) (fun k2=>(lr 24 3 [1,1,1,1,1,1,0] 1 7 [(6,(.bool false))] (sl Zq 29 [] (b8 [6]) b7 (bl 4 0) (tt k2 b)))))))))
theorem u3o (x0:Int) (x1:Bool) (x2:Bool) (n:Nat) (vs:List B1) (h:Yw (w2j x0 x1 x2) n (VD x0 x1 x2)=.ret vs):Js prog (Zy prog 183) (Zg prog 183 [(.int .i64 x0),(.bool x1),(.bool x2)] true []) vs:=by have:=Ze (v0c x0 x1 x2) n _ (w2k x0 x1 x2);rwa [h] at this
inductive Hy where
def Nr (x0:Bool) (x1:Bool):Hy->CE
 :=nofun
def w2r (x0:Bool) (x1:Bool):Hy->Xu Hy
 :=nofun
def x4b (x0:Bool) (x1:Bool):Xu Hy:=(.ret [(.bool x0)])
theorem v0h (x0:Bool) (x1:Bool): ∀s,Wj prog (Zy prog 229) (Nr x0 x1) (Nr x0 x1 s) (w2r x0 x1 s)
 :=nofun
theorem w2s (x0:Bool) (x1:Bool):Wj prog (Zy prog 229) (Nr x0 x1) (Zg prog 229 [(.bool x0),(.bool x1)] true []) (x4b x0 x1):=(lr 6 3 [1,1,1,1,1,1,0] 1 3 [(4,(.bool x0))] (sl Zq 9 [] (b8 [4]) b7 [] nn))
theorem u3t (x0:Bool) (x1:Bool) (n:Nat) (vs:List B1) (h:Yw (w2r x0 x1) n (x4b x0 x1)=.ret vs):Js prog (Zy prog 229) (Zg prog 229 [(.bool x0),(.bool x1)] true []) vs:=by have:=Ze (v0h x0 x1) n _ (w2s x0 x1);rwa [h] at this
def EQ (out:List Int) (x:Int):Nat->Nat
 | 0=>0
 | k+1=>bif decide (rd out k>x) then EQ out x k else k+1
def D2 (out:List Int) (x:Int):List Int:=
 match EQ out x out.length with
 | 0=>x::out
 | k+1=>bif rd out k == x then out else out.take (k+1)++x::out.drop (k+1)
def Cc (l:List Int):List Int:=l.foldl D2 []
def Qs (l:List Int):Bool:=decide (l.length<=1000000)
theorem y7o (out:List Int) (x:Int):(D2 out x).length <=out.length+1:=by
 grind [D2]
theorem x7q (out:List Int) (x:Int) (k:Nat) (hk:k<=out.length):
  (Ft (out++[0]) (k+1) (Nat.min (out.length+1 - k) (out.length+1 - (k+1))) (Ve (out++[0]) k (out.length+1 - k))).set k x=out.take k++x::out.drop k:=by
 have hm:Nat.min (out.length+1 - k) (out.length+1 - (k+1))=out.length - k:=by
  grind
 rw [hm];apply Bp
 .simp [UV];omega
 .intro i h1 h2;have hi:i<out.length+1:=by grind
  rw [<-Wf h1,<-Wf h2]
  grind [Rq,Wf,v4h,XG,XH,VM]
theorem w4u (l:List Int) (out:List Int) (i:Nat) (hi:i<l.length) (hl:l.length<=1000000) (ho:out.length<=i): ∀(k N:Nat),k<=out.length->
  (EQ out (rd l i) out.length=EQ out (rd l i) k)-> ∃m,∀N,Yw (Uo l) (N+m) (.to (.h1 out (i:Int) (k:Int)))=Yw (Uo l) N (.to (.h0 (D2 out (rd l i)) ((i+1:Nat):Int)))
 | 0,N,hk,hp=>by
  refine ⟨1,fun N=> ?_⟩;have hins:D2 out (rd l i)=(Ft (out++[0]) (0+1) (Nat.min (out.length+1 - 0) (out.length+1 - (0+1))) (Ve (out++[0]) 0 (out.length+1 - 0))).set 0 (rd l i):=by rw [x7q out _ 0 (AG _)];unfold D2;rw [hp];rfl
  rw [hins,Zw];simp (disch:=omega) only [Uo,Yf,AA,Wz,Yb,Wb,Xe,Xn,Xo,Ym,Zm,Zk,Xs,Zj,Al,Ap,Aq,Af,Ab]
 | k +1,N,hk,hp=>by
  rcases Vo (decide (rd out k>rd l i)) with h | h
  .have hp':EQ out (rd l i) out.length=EQ out (rd l i) k:=by grind [EQ]
   obtain ⟨m,hm⟩:=w4u l out i hi hl ho k N (by omega) hp';refine ⟨m+1,fun N=> ?_⟩;rw [<-hm N,<-AM,Zw];simp (disch:=omega) only [Uo,Yy,h,Yf,AA,Xv,Yb,Wb,Xe,Xn,Xo,Ym,Zm,Zk,Xs,Zj,Al,Ap,Aq,Af,Ab]
  .have hpk:EQ out (rd l i) out.length=k+1:=by rw [hp];unfold EQ;rw [h];rfl
   refine ⟨1,fun N=> ?_⟩;rw [Zw];rcases Vo (rd out k == rd l i) with q | q
   .have hins:D2 out (rd l i)=out:=(by grind [D2]);rw [hins];simp (disch:=omega) only [Uo,Yy,h,q,Yf,AA,Xv,Yb,Wb,Xe,Xn,Xo,Ym,Zm,Zk,Xs,Zj,Al,Ap,Aq,Af,Ab]
   .have hins:D2 out (rd l i)=(Ft (out++[0]) (k+1+1) (Nat.min (out.length+1 - (k+1)) (out.length+1 - (k+1+1))) (Ve (out++[0]) (k+1) (out.length+1 - (k+1)))).set (k+1) (rd l i):=by
     rw [x7q out _ (k+1) hk]
     grind [D2]
    rw [hins];simp (disch:=omega) only [Uo,Yy,h,q,Yf,AA,Xv,Yb,Wb,Xe,Xn,Xo,Ym,Zm,Zk,Xs,Zj,Al,Ap,Aq,Af,Ab]
theorem w4v (l:List Int) (hl:l.length<=1000000): ∀(k i:Nat) (out:List Int),i+k=l.length->out.length<=i-> ∃m,Yw (Uo l) m (.to (.h0 out (i:Int)))=.ret [.dat ((l.drop i).foldl D2 out).length (Zz ((l.drop i).foldl D2 out))]
 | 0,i,out,h,ho=>by refine ⟨1,?_⟩;rw [Zw];simp (disch:=omega) only [Uo,Xz,Ab];rw [Aw (by omega)];rfl
 | k+1,i,out,h,ho=>by
  obtain ⟨m1,h1⟩:=w4u l out i (by omega) hl ho out.length 0 (Ak _) rfl;obtain ⟨m2,h2⟩:=w4v l hl k (i+1) (D2 out (rd l i)) (by omega) (AK (y7o _ _) (by omega));refine ⟨m2+m1+1,?_⟩
  grind [Zw,Uo,Xj]
theorem v3o (l:List Int) (h:Qs l=true): ∃N,Yw (Uo l) N (UT l)=.ret [.dat (Cc l).length (Zz (Cc l))]:=by
 have:=w4v l (Av h) l.length 0 [] (by omega) (Ak _)
 simpa [UT,Cc] using this
theorem Zs (n:Nat):Int.toNat ((n:Int) - 1)=n - 1:=by omega
theorem XS (x y:R2):((x.a == y.a)&&(x.b == y.b))=decide (x=y):=by
 obtain ⟨a,b⟩:=x;obtain ⟨c,d⟩:=y
 grind
theorem XT (x y:R4):((x.a == y.a)&&((x.b == y.b)&&((x.c == y.c)&&(x.d == y.d))))=decide (x=y):=by
 obtain ⟨a,b,c,d⟩:=x;obtain ⟨e,f,g,h⟩:=y
 grind
theorem XU (x y:R6):(((x.a == y.a)&&((x.b == y.b)&&(x.c == y.c)))&&((x.d == y.d)&&((x.e == y.e)&&(x.f == y.f))))=decide (x=y):=by
 obtain ⟨a,b,c,d,e,f⟩:=x;obtain ⟨a',b',c',d',e',f'⟩:=y
 grind
def EW (l m:List R2):Bool:=decide (l=m)
def EX (l m:List R4):Bool:=decide (l=m)
def Qt (l m:List R6):Bool:=decide (l=m)
def Kz (l m:List R2):Bool:=decide (l.length<=1000000)
def Jt (l m:List R4):Bool:=decide (l.length<=1000000)
def Ue (l m:List R6):Bool:=decide (l.length<=1000000)
theorem PJ {α:Type} [DecidableEq α] (x y:α) (l m:List α):decide (x::l=y::m)=(decide (x=y)&&decide (l=m)):=by grind
theorem u6d (l m:List R2) (hl:l.length<=1000000) (hm:l.length=m.length): ∀(k i:Nat),i+k=l.length-> ∃N,Yw (LS l m) N (.to (.h0 (i:Int)))=.ret [.bool (decide (l.drop i=m.drop i))]
 | 0,i,h=>by refine ⟨1,?_⟩;rw [Zw,Aw (show l.length<=i by omega),Aw (show m.length<=i by omega)];simp (disch:=omega) only [LS,Wz,Xv,Yb,Xz,Wb,Xe,Xn,Xo,Ym,Zm,Yf,Qv,Ut,AA,Zk,Yy,Zs,Xs,Zj,Al,Ap,Aq,Af,Ab,Ax,AD,Zh]
 | k+1,i,h=>by
  obtain ⟨N,hN⟩:=u6d l m hl hm k (i+1) (by omega);refine ⟨N+1,?_⟩;rw [Zw,Xj (show i<l.length by omega),Xj (show i<m.length by omega),PJ];rcases Vo (decide (rd l i=rd m i)) with q | q
  .simp (disch:=omega) only [LS,XS,q,Wz,Xv,Yb,Xz,Wb,Xe,Xn,Xo,Ym,Zm,Yf,Qv,Ut,AA,Zk,Yy,Zs,Xs,Zj,Al,Ap,Aq,Af,Ab,Ax,AD,Zh];exact hN
  .simp (disch:=omega) only [LS,XS,q,Wz,Xv,Yb,Xz,Wb,Xe,Xn,Xo,Ym,Zm,Yf,Qv,Ut,AA,Zk,Yy,Zs,Xs,Zj,Al,Ap,Aq,Af,Ab,Ax,AD,Zh,Ba]
theorem j0i (l m:List R2) (h:Kz l m=true): ∃N,Yw (LS l m) N (QP l m)=.ret [.bool (EW l m)]:=by
 have hl:l.length<=1000000:=Av h;by_cases hm:l.length=m.length
 .obtain ⟨N,hN⟩:=u6d l m hl hm l.length 0 (Al _);refine ⟨N,?_⟩;unfold QP;rw [Ut (show (l.length:Int)=(m.length:Nat) by omega)];exact hN
 .refine ⟨0,?_⟩;unfold QP;rw [Qv (show (l.length:Int)≠(m.length:Nat) by omega)];have:EW l m=false:=Ah fun e=>hm (by rw [e]);rw [this];rfl
theorem u6c (l m:List R4) (hl:l.length<=1000000) (hm:l.length=m.length): ∀(k i:Nat),i+k=l.length-> ∃N,Yw (LT l m) N (.to (.h0 (i:Int)))=.ret [.bool (decide (l.drop i=m.drop i))]
 | 0,i,h=>by refine ⟨1,?_⟩;rw [Zw,Aw (show l.length<=i by omega),Aw (show m.length<=i by omega)];simp (disch:=omega) only [LT,Wz,Xv,Yb,Xz,Wb,Xe,Xn,Xo,Ym,Zm,Yf,Qv,Ut,AA,Zk,Yy,Zs,Xs,Zj,Al,Ap,Aq,Af,Ab,Ax,AD,Zh]
 | k+1,i,h=>by
  obtain ⟨N,hN⟩:=u6c l m hl hm k (i+1) (by omega);refine ⟨N+1,?_⟩;rw [Zw,Xj (show i<l.length by omega),Xj (show i<m.length by omega),PJ];rcases Vo (decide (rd l i=rd m i)) with q | q
  .simp (disch:=omega) only [LT,XT,q,Wz,Xv,Yb,Xz,Wb,Xe,Xn,Xo,Ym,Zm,Yf,Qv,Ut,AA,Zk,Yy,Zs,Xs,Zj,Al,Ap,Aq,Af,Ab,Ax,AD,Zh];exact hN
  .simp (disch:=omega) only [LT,XT,q,Wz,Xv,Yb,Xz,Wb,Xe,Xn,Xo,Ym,Zm,Yf,Qv,Ut,AA,Zk,Yy,Zs,Xs,Zj,Al,Ap,Aq,Af,Ab,Ax,AD,Zh,Ba]
theorem j0h (l m:List R4) (h:Jt l m=true): ∃N,Yw (LT l m) N (QQ l m)=.ret [.bool (EX l m)]:=by
 have hl:l.length<=1000000:=Av h;by_cases hm:l.length=m.length
 .obtain ⟨N,hN⟩:=u6c l m hl hm l.length 0 (Al _);refine ⟨N,?_⟩;unfold QQ;rw [Ut (show (l.length:Int)=(m.length:Nat) by omega)];exact hN
 .refine ⟨0,?_⟩;unfold QQ;rw [Qv (show (l.length:Int)≠(m.length:Nat) by omega)];have:EX l m=false:=Ah fun e=>hm (by rw [e]);rw [this];rfl
theorem u6h (l m:List R6) (hl:l.length<=1000000) (hm:l.length=m.length): ∀(k i:Nat),i+k=l.length-> ∃N,Yw (LR l m) N (.to (.h0 (i:Int)))=.ret [.bool (decide (l.drop i=m.drop i))]
 | 0,i,h=>by refine ⟨1,?_⟩;rw [Zw,Aw (show l.length<=i by omega),Aw (show m.length<=i by omega)];simp (disch:=omega) only [LR,Wz,Xv,Yb,Xz,Wb,Xe,Xn,Xo,Ym,Zm,Yf,Qv,Ut,AA,Zk,Yy,Zs,Xs,Zj,Al,Ap,Aq,Af,Ab,Ax,AD,Zh]
 | k+1,i,h=>by
  obtain ⟨N,hN⟩:=u6h l m hl hm k (i+1) (by omega);refine ⟨N+1,?_⟩;rw [Zw,Xj (show i<l.length by omega),Xj (show i<m.length by omega),PJ];rcases Vo (decide (rd l i=rd m i)) with q | q
  .simp (disch:=omega) only [LR,XU,q,Wz,Xv,Yb,Xz,Wb,Xe,Xn,Xo,Ym,Zm,Yf,Qv,Ut,AA,Zk,Yy,Zs,Xs,Zj,Al,Ap,Aq,Af,Ab,Ax,AD,Zh];exact hN
  .simp (disch:=omega) only [LR,XU,q,Wz,Xv,Yb,Xz,Wb,Xe,Xn,Xo,Ym,Zm,Yf,Qv,Ut,AA,Zk,Yy,Zs,Xs,Zj,Al,Ap,Aq,Af,Ab,Ax,AD,Zh,Ba]
theorem j0m (l m:List R6) (h:Ue l m=true): ∃N,Yw (LR l m) N (QO l m)=.ret [.bool (Qt l m)]:=by
 have hl:l.length<=1000000:=Av h;by_cases hm:l.length=m.length
 .obtain ⟨N,hN⟩:=u6h l m hl hm l.length 0 (Al _);refine ⟨N,?_⟩;unfold QO;rw [Ut (show (l.length:Int)=(m.length:Nat) by omega)];exact hN
 .refine ⟨0,?_⟩;unfold QO;rw [Qv (show (l.length:Int)≠(m.length:Nat) by omega)];have:Qt l m=false:=Ah fun e=>hm (by rw [e]);rw [this];rfl
theorem u8j (l m:List R2) (hl:l.length<=1000000) (hm:l.length=m.length): ∀(k i:Nat),i+k=l.length-> ∃N,Yw (LE l m) N (.to (.h0 (i:Int)))=.ret [.bool (decide (l.drop i=m.drop i))]
 | 0,i,h=>by refine ⟨1,?_⟩;rw [Zw,Aw (show l.length<=i by omega),Aw (show m.length<=i by omega)];simp (disch:=omega) only [LE,Wz,Xv,Yb,Xz,Wb,Xe,Xn,Xo,Ym,Zm,Yf,Qv,Ut,AA,Zk,Yy,Zs,Xs,Zj,Al,Ap,Aq,Af,Ab,Ax,AD,Zh]
 | k+1,i,h=>by
  obtain ⟨N,hN⟩:=u8j l m hl hm k (i+1) (by omega);refine ⟨N+1,?_⟩;rw [Zw,Xj (show i<l.length by omega),Xj (show i<m.length by omega),PJ];rcases Vo (decide (rd l i=rd m i)) with q | q
  .simp (disch:=omega) only [LE,XS,q,Wz,Xv,Yb,Xz,Wb,Xe,Xn,Xo,Ym,Zm,Yf,Qv,Ut,AA,Zk,Yy,Zs,Xs,Zj,Al,Ap,Aq,Af,Ab,Ax,AD,Zh];exact hN
  .simp (disch:=omega) only [LE,XS,q,Wz,Xv,Yb,Xz,Wb,Xe,Xn,Xo,Ym,Zm,Yf,Qv,Ut,AA,Zk,Yy,Zs,Xs,Zj,Al,Ap,Aq,Af,Ab,Ax,AD,Zh,Ba]
theorem j5l (l m:List R2) (h:Kz l m=true): ∃N,Yw (LE l m) N (RV l m)=.ret [.bool (EW l m)]:=by
 have hl:l.length<=1000000:=Av h;by_cases hm:l.length=m.length
 .obtain ⟨N,hN⟩:=u8j l m hl hm l.length 0 (Al _);refine ⟨N,?_⟩;unfold RV;rw [Ut (show (l.length:Int)=(m.length:Nat) by omega)];exact hN
 .refine ⟨0,?_⟩;unfold RV;rw [Qv (show (l.length:Int)≠(m.length:Nat) by omega)];have:EW l m=false:=Ah fun e=>hm (by rw [e]);rw [this];rfl
theorem u8i (l m:List R4) (hl:l.length<=1000000) (hm:l.length=m.length): ∀(k i:Nat),i+k=l.length-> ∃N,Yw (LF l m) N (.to (.h0 (i:Int)))=.ret [.bool (decide (l.drop i=m.drop i))]
 | 0,i,h=>by refine ⟨1,?_⟩;rw [Zw,Aw (show l.length<=i by omega),Aw (show m.length<=i by omega)];simp (disch:=omega) only [LF,Wz,Xv,Yb,Xz,Wb,Xe,Xn,Xo,Ym,Zm,Yf,Qv,Ut,AA,Zk,Yy,Zs,Xs,Zj,Al,Ap,Aq,Af,Ab,Ax,AD,Zh]
 | k+1,i,h=>by
  obtain ⟨N,hN⟩:=u8i l m hl hm k (i+1) (by omega);refine ⟨N+1,?_⟩;rw [Zw,Xj (show i<l.length by omega),Xj (show i<m.length by omega),PJ];rcases Vo (decide (rd l i=rd m i)) with q | q
  .simp (disch:=omega) only [LF,XT,q,Wz,Xv,Yb,Xz,Wb,Xe,Xn,Xo,Ym,Zm,Yf,Qv,Ut,AA,Zk,Yy,Zs,Xs,Zj,Al,Ap,Aq,Af,Ab,Ax,AD,Zh];exact hN
  .simp (disch:=omega) only [LF,XT,q,Wz,Xv,Yb,Xz,Wb,Xe,Xn,Xo,Ym,Zm,Yf,Qv,Ut,AA,Zk,Yy,Zs,Xs,Zj,Al,Ap,Aq,Af,Ab,Ax,AD,Zh,Ba]
theorem j5k (l m:List R4) (h:Jt l m=true): ∃N,Yw (LF l m) N (RW l m)=.ret [.bool (EX l m)]:=by
 have hl:l.length<=1000000:=Av h;by_cases hm:l.length=m.length
 .obtain ⟨N,hN⟩:=u8i l m hl hm l.length 0 (Al _);refine ⟨N,?_⟩;unfold RW;rw [Ut (show (l.length:Int)=(m.length:Nat) by omega)];exact hN
 .refine ⟨0,?_⟩;unfold RW;rw [Qv (show (l.length:Int)≠(m.length:Nat) by omega)];have:EX l m=false:=Ah fun e=>hm (by rw [e]);rw [this];rfl
theorem u8h (l m:List R6) (hl:l.length<=1000000) (hm:l.length=m.length): ∀(k i:Nat),i+k=l.length-> ∃N,Yw (LG l m) N (.to (.h0 (i:Int)))=.ret [.bool (decide (l.drop i=m.drop i))]
 | 0,i,h=>by refine ⟨1,?_⟩;rw [Zw,Aw (show l.length<=i by omega),Aw (show m.length<=i by omega)];simp (disch:=omega) only [LG,Wz,Xv,Yb,Xz,Wb,Xe,Xn,Xo,Ym,Zm,Yf,Qv,Ut,AA,Zk,Yy,Zs,Xs,Zj,Al,Ap,Aq,Af,Ab,Ax,AD,Zh]
 | k+1,i,h=>by
  obtain ⟨N,hN⟩:=u8h l m hl hm k (i+1) (by omega);refine ⟨N+1,?_⟩;rw [Zw,Xj (show i<l.length by omega),Xj (show i<m.length by omega),PJ];rcases Vo (decide (rd l i=rd m i)) with q | q
  .simp (disch:=omega) only [LG,XU,q,Wz,Xv,Yb,Xz,Wb,Xe,Xn,Xo,Ym,Zm,Yf,Qv,Ut,AA,Zk,Yy,Zs,Xs,Zj,Al,Ap,Aq,Af,Ab,Ax,AD,Zh];exact hN
  .simp (disch:=omega) only [LG,XU,q,Wz,Xv,Yb,Xz,Wb,Xe,Xn,Xo,Ym,Zm,Yf,Qv,Ut,AA,Zk,Yy,Zs,Xs,Zj,Al,Ap,Aq,Af,Ab,Ax,AD,Zh,Ba]
theorem j5j (l m:List R6) (h:Ue l m=true): ∃N,Yw (LG l m) N (RX l m)=.ret [.bool (Qt l m)]:=by
 have hl:l.length<=1000000:=Av h;by_cases hm:l.length=m.length
 .obtain ⟨N,hN⟩:=u8h l m hl hm l.length 0 (Al _);refine ⟨N,?_⟩;unfold RX;rw [Ut (show (l.length:Int)=(m.length:Nat) by omega)];exact hN
 .refine ⟨0,?_⟩;unfold RX;rw [Qv (show (l.length:Int)≠(m.length:Nat) by omega)];have:Qt l m=false:=Ah fun e=>hm (by rw [e]);rw [this];rfl
def TU (x y:Int) (r:R4):Bool:=decide (r.a<=x)&&(decide (x<r.c)&&(decide (r.b<=y)&&decide (y<r.d)))
def E1 (l:List R4) (x y:Int):Bool:=l.any (TU x y)
def P0 (l:List R4) (x y:Int):Bool:=decide (l.length<=1000000)
theorem v4c (l:List R4) (x y:Int) (hl:l.length<=1000000): ∀(k i:Nat),i+k=l.length-> ∃N,Yw (PP l x y) N (.to (.h0 (i:Int)))=.ret [.bool ((l.drop i).any (TU x y))]
 | 0,i,h=>by refine ⟨1,?_⟩;rw [Zw,Aw (show l.length<=i by omega)];simp (disch:=omega) only [PP,Wz,Xv,Yb,Xz,Wb,Xe,Xn,Xo,Ym,Zm,Yf,Qv,Ut,AA,Zk,Yy,Zs,Xs,Zj,Al,Ap,Aq,Af,Ab,Ax,AD,Zh];rfl
 | k+1,i,h=>by
  obtain ⟨N,hN⟩:=v4c l x y hl k (i+1) (by omega);refine ⟨N+1,?_⟩;rw [Zw,Xj (show i<l.length by omega),B0];unfold TU at hN ⊢;rcases Vo (decide ((rd l i).a <=x)) with q1 | q1 <;> rcases Vo (decide (x<(rd l i).c)) with q2 | q2 <;> rcases Vo (decide ((rd l i).b <=y)) with q3 | q3 <;> rcases Vo (decide (y<(rd l i).d)) with q4 | q4 <;>
   simp (disch:=omega) only [PP,q1,q2,q3,q4,Wz,Xv,Yb,Xz,Wb,Xe,Xn,Xo,Ym,Zm,Yf,Qv,Ut,AA,Zk,Yy,Zs,Xs,Zj,Al,Ap,Aq,Af,Ab,Ax,AD,Zh,Ba,A4,Bg,Bool.true_or] <;> exact hN
theorem u0x (l:List R4) (x y:Int) (h:P0 l x y=true): ∃N,Yw (PP l x y) N (UI l x y)=.ret [.bool (E1 l x y)]:=by
 have:=v4c l x y (Av h) l.length 0 (Al _)
 simpa [UI,E1] using this
def X2 (z:Int) (b:R6):Bool:=decide (b.c<=z)&&decide (z<b.f)
def j3m (b:R6):R4:=⟨b.a,b.b,b.d,b.e⟩
def CM (l:List R6) (z:Int):List R4:=(l.filter (X2 z)).map j3m
def PI (l:List R6) (z:Int):Bool:=decide (l.length<=1000000)
theorem v4s (l:List R6) (z:Int) (hl:l.length<=1000000): ∀(k i:Nat) (out:List R4),i+k=l.length->out.length<=i-> ∃N,Yw (LN l z) N (.to (.h0 out (i:Int)))=.ret [.dat (out++CM (l.drop i) z).length (Zz (out++CM (l.drop i) z))]
 | 0,i,out,h,ho=>by refine ⟨1,?_⟩;rw [Zw,Aw (show l.length<=i by omega)];simp (disch:=omega) only [LN,Wz,Xv,Yb,Xz,Wb,Xe,Xn,Xo,Ym,Zm,Yf,Qv,Ut,AA,Zk,Yy,Zs,Xs,Zj,Al,Ap,Aq,Af,Ab,Ax,AD,Zh,CM,List.filter_nil,List.map_nil,AL]
 | k+1,i,out,h,ho=>by
  rw [Xj (show i<l.length by omega)];have e:CM (rd l i::l.drop (i+1)) z=(bif X2 z (rd l i) then [j3m (rd l i)] else [])++CM (l.drop (i+1)) z:=by
   grind [CM]
  rw [e,<-AH];rcases Vo (decide ((rd l i).c <=z)) with q1 | q1 <;> rcases Vo (decide (z<(rd l i).f)) with q2 | q2
  .obtain ⟨N,hN⟩:=v4s l z hl k (i+1) (out++[j3m (rd l i)]) (by omega) (by simp;omega);refine ⟨N+1,?_⟩;rw [Zw];simp (disch:=omega) only [LN,q1,q2,X2,Wz,Xv,Yb,Xz,Wb,Xe,Xn,Xo,Ym,Zm,Yf,Qv,Ut,AA,Zk,Yy,Zs,Xs,Zj,Al,Ap,Aq,Af,Ab,Ax,AD,Zh];exact hN
  all_goals
   obtain ⟨N,hN⟩:=v4s l z hl k (i+1) out (by omega) (by omega);refine ⟨N+1,?_⟩;rw [Zw];simp (disch:=omega) only [LN,q1,q2,X2,Wz,Xv,Yb,Xz,Wb,Xe,Xn,Xo,Ym,Zm,Yf,Qv,Ut,AA,Zk,Yy,Zs,Xs,Zj,Al,Ap,Aq,Af,Ab,Ax,AD,Zh,Ba,A4,AL];exact hN
theorem j1k (l:List R6) (z:Int) (h:PI l z=true): ∃N,Yw (LN l z) N (VK l z)=.ret [.dat (CM l z).length (Zz (CM l z))]:=by
 have:=v4s l z (Av h) l.length 0 [] (Al _) (Ak _)
 simpa [VK] using this
def F6 (cuts:List Int) (ins:List Bool):Nat->Nat->List R2->List R2
 | 0,_,out=>out
 | k+1,i,out=>F6 cuts ins k (i+1) (bif rd ins i then (bif decide (0<out.length)&&((rd out (out.length - 1)).b == rd cuts i) then out.set (out.length - 1) ⟨(rd out (out.length - 1)).a,rd cuts (i+1)⟩ else out++[⟨rd cuts i,rd cuts (i+1)⟩]) else out)
def Cu (cuts:List Int) (ins:List Bool):List R2:=F6 cuts ins (cuts.length - 1) 0 []
def V7 (cuts:List Int) (ins:List Bool):Bool:=decide (cuts.length<=1000000/\cuts.length<=ins.length+1)
theorem WO (cuts:List Int) (ins:List Bool) (hl:cuts.length<=1000000) (hi:cuts.length<=ins.length+1): ∀(k i:Nat) (out:List R2),k=cuts.length - 1 - i->i<=cuts.length->out.length<=i-> ∃N,Yw (Gx cuts ins) N (.to (.h0 out (i:Int)))=.ret [.dat (F6 cuts ins k i out).length (Zz (F6 cuts ins k i out))]
 | 0,i,out,h,hi2,ho=>by refine ⟨1,?_⟩;rw [Zw];simp (disch:=omega) only [Gx,Wz,Xv,Yb,Xz,Wb,Xe,Xn,Xo,Ym,Zm,Yf,Qv,Ut,AA,Zk,Yy,Zs,Xs,Zj,Al,Ap,Aq,Af,Ab,Ax,AD,Zh,F6]
 | k+1,i,out,h,hi2,ho=>by
  unfold F6;rcases Vo (rd ins i) with q | q
  .rcases Vo (decide (0<out.length)&&((rd out (out.length - 1)).b == rd cuts i)) with q2 | q2
   .obtain ⟨N,hN⟩:=WO cuts ins hl hi k (i+1) (out.set (out.length - 1) ⟨(rd out (out.length - 1)).a,rd cuts (i+1)⟩) (by omega) (by omega) (by simp;omega);refine ⟨N+1,?_⟩;rw [Zw,q,q2];simp only [Ad,An] at q2;simp (disch:=omega) only [Gx,q,q2.2,Wz,Xv,Yb,Xz,Wb,Xe,Xn,Xo,Ym,Zm,Yf,Qv,Ut,AA,Zk,Yy,Zs,Xs,Zj,Al,Ap,Aq,Af,Ab,Ax,AD,Zh];exact hN
   .obtain ⟨N,hN⟩:=WO cuts ins hl hi k (i+1) (out++[⟨rd cuts i,rd cuts (i+1)⟩]) (by omega) (by omega) (by simp;omega);refine ⟨N+1,?_⟩;rw [Zw,q,q2];by_cases h0:0<out.length
    .rw [Aa h0,Aq] at q2;simp (disch:=omega) only [Gx,q,q2,Wz,Xv,Yb,Xz,Wb,Xe,Xn,Xo,Ym,Zm,Yf,Qv,Ut,AA,Zk,Yy,Zs,Xs,Zj,Al,Ap,Aq,Af,Ab,Ax,AD,Zh];exact hN
    .simp (disch:=omega) only [Gx,q,Wz,Xv,Yb,Xz,Wb,Xe,Xn,Xo,Ym,Zm,Yf,Qv,Ut,AA,Zk,Yy,Zs,Xs,Zj,Al,Ap,Aq,Af,Ab,Ax,AD,Zh];exact hN
  .obtain ⟨N,hN⟩:=WO cuts ins hl hi k (i+1) out (by omega) (by omega) (by omega);refine ⟨N+1,?_⟩;rw [Zw,q];simp (disch:=omega) only [Gx,q,Wz,Xv,Yb,Xz,Wb,Xe,Xn,Xo,Ym,Zm,Yf,Qv,Ut,AA,Zk,Yy,Zs,Xs,Zj,Al,Ap,Aq,Af,Ab,Ax,AD,Zh];exact hN
theorem u1h (cuts:List Int) (ins:List Bool) (h:V7 cuts ins=true): ∃N,Yw (Gx cuts ins) N (UC cuts ins)=.ret [.dat (Cu cuts ins).length (Zz (Cu cuts ins))]:=by
 obtain ⟨h1,h2⟩:=Av h;have:=WO cuts ins h1 h2 (cuts.length - 1) 0 [] (by omega) (AG _) (Ak _)
 simpa [UC,Cu] using this
def Lk (k:Int) (a b:Bool):Bool:=bif k == 1 then a&&b else bif k == 2 then a||b else a&& !b
def Ea (a b:Bool):Bool:=a
theorem j3b (k:Int) (a b:Bool): ∃N,Yw (w2j k a b) N (VD k a b)=.ret [.bool (Lk k a b)]:=by
 refine ⟨0,?_⟩;unfold VD Lk;cases a <;> cases b <;> rcases Vo (k == 1) with q | q <;> rcases Vo (k == 2) with q2 | q2 <;> rw [q] <;> (try rw [q2]) <;> rfl
theorem j3h (a b:Bool): ∃N,Yw (w2r a b) N (x4b a b)=.ret [.bool (Ea a b)]:=⟨0,rfl⟩
def OF :List B1->Option (B1×Bool)
 | [a0]=>match C7 Int a0 with
  | some (L0,g0,n0)=>some (.dat (Cc L0).length (Zz (Cc L0)),CQ Int n0 g0&&(Qs L0))
  | _=>none
 | _=>none
theorem j3u {S:B3} (hS:Zv prog S):Zv prog (S.with v5q OF):=by
 refine CP hS (by kernel_rfl) fun args v h=> ?_;unfold OF at h;split at h
 .rename_i a0;split at h
  .rename_i L0 g0 n0 e0;simp only [Ae,Ac,Ad] at h;obtain ⟨rfl,ho0,hw⟩:=h;obtain ⟨N,hN⟩:=v3o L0 hw;exact ⟨_,_,(.cons (Xf e0 ho0) .nil),rfl,w8e L0 N _ hN,3,rfl⟩
  .cases h
 .cases h
def Oc :List B1->Option (B1×Bool)
 | [a0,a1]=>match C7 Int a0,C7 Bool a1 with
  | some (L0,g0,n0),some (L1,g1,n1)=>some (.dat (Cu L0 L1).length (Zz (Cu L0 L1)),CQ Int n0 g0&&(CQ Bool n1 g1&&(V7 L0 L1)))
  | _,_=>none
 | _=>none
theorem j5h {S:B3} (hS:Zv prog S):Zv prog (S.with u7r Oc):=by
 refine CP hS (by kernel_rfl) fun args v h=> ?_;unfold Oc at h;split at h
 .rename_i a0 a1;split at h
  .rename_i L0 g0 n0 L1 g1 n1 e0 e1;simp only [Ae,Ac,Ad] at h;obtain ⟨rfl,ho0,ho1,hw⟩:=h;obtain ⟨N,hN⟩:=u1h L0 L1 hw;exact ⟨_,_,(.cons (Xf e0 ho0) (.cons (Xf e1 ho1) .nil)),rfl,v4r L0 L1 N _ hN,3,rfl⟩
  .cases h
 .cases h
def Ph :List B1->Option (B1×Bool)
 | [a0,a1]=>match C7 R2 a0,C7 R2 a1 with
  | some (L0,g0,n0),some (L1,g1,n1)=>some (.bool (EW L0 L1),CQ R2 n0 g0&&(CQ R2 n1 g1&&(Kz L0 L1)))
  | _,_=>none
 | _=>none
theorem v7c {S:B3} (hS:Zv prog S):Zv prog (S.with u7n Ph):=by
 refine CP hS (by kernel_rfl) fun args v h=> ?_;unfold Ph at h;split at h
 .rename_i a0 a1;split at h
  .rename_i L0 g0 n0 L1 g1 n1 e0 e1;simp only [Ae,Ac,Ad] at h;obtain ⟨rfl,ho0,ho1,hw⟩:=h;obtain ⟨N,hN⟩:=j0i L0 L1 hw;exact ⟨_,_,(.cons (Xf e0 ho0) (.cons (Xf e1 ho1) .nil)),rfl,u0i L0 L1 N _ hN,3,rfl⟩
  .cases h
 .cases h
def Pi :List B1->Option (B1×Bool)
 | [a0,a1]=>match C7 R4 a0,C7 R4 a1 with
  | some (L0,g0,n0),some (L1,g1,n1)=>some (.bool (EX L0 L1),CQ R4 n0 g0&&(CQ R4 n1 g1&&(Jt L0 L1)))
  | _,_=>none
 | _=>none
theorem v7b {S:B3} (hS:Zv prog S):Zv prog (S.with u7m Pi):=by
 refine CP hS (by kernel_rfl) fun args v h=> ?_;unfold Pi at h;split at h
 .rename_i a0 a1;split at h
  .rename_i L0 g0 n0 L1 g1 n1 e0 e1;simp only [Ae,Ac,Ad] at h;obtain ⟨rfl,ho0,ho1,hw⟩:=h;obtain ⟨N,hN⟩:=j0h L0 L1 hw;exact ⟨_,_,(.cons (Xf e0 ho0) (.cons (Xf e1 ho1) .nil)),rfl,u0h L0 L1 N _ hN,3,rfl⟩
  .cases h
 .cases h
def Pj :List B1->Option (B1×Bool)
 | [a0,a1]=>match C7 R6 a0,C7 R6 a1 with
  | some (L0,g0,n0),some (L1,g1,n1)=>some (.bool (Qt L0 L1),CQ R6 n0 g0&&(CQ R6 n1 g1&&(Ue L0 L1)))
  | _,_=>none
 | _=>none
theorem v7a {S:B3} (hS:Zv prog S):Zv prog (S.with u7l Pj):=by
 refine CP hS (by kernel_rfl) fun args v h=> ?_;unfold Pj at h;split at h
 .rename_i a0 a1;split at h
  .rename_i L0 g0 n0 L1 g1 n1 e0 e1;simp only [Ae,Ac,Ad] at h;obtain ⟨rfl,ho0,ho1,hw⟩:=h;obtain ⟨N,hN⟩:=j0m L0 L1 hw;exact ⟨_,_,(.cons (Xf e0 ho0) (.cons (Xf e1 ho1) .nil)),rfl,u0l L0 L1 N _ hN,3,rfl⟩
  .cases h
 .cases h
def j4u :List B1->Option (B1×Bool)
 | [a0,.int .i64 x1,.int .i64 x2]=>match C7 R4 a0 with
  | some (L0,g0,n0)=>some (.bool (E1 L0 x1 x2),CQ R4 n0 g0&&(P0 L0 x1 x2))
  | _=>none
 | _=>none
theorem u4e {S:B3} (hS:Zv prog S):Zv prog (S.with KL j4u):=by
 refine CP hS (by kernel_rfl) fun args v h=> ?_;unfold j4u at h;split at h
 .rename_i a0 x1 x2;split at h
  .rename_i L0 g0 n0 e0;simp only [Ae,Ac,Ad] at h;obtain ⟨rfl,ho0,hw⟩:=h;obtain ⟨N,hN⟩:=u0x L0 x1 x2 hw;exact ⟨_,_,(.cons (Xf e0 ho0) (.cons (.refl _) (.cons (.refl _) .nil))),rfl,v4d L0 x1 x2 N _ hN,3,rfl⟩
  .cases h
 .cases h
def fAt :List B1->Option (B1×Bool)
 | [a0,.int .i64 x1]=>match C7 R6 a0 with
  | some (L0,g0,n0)=>some (.dat (CM L0 x1).length (Zz (CM L0 x1)),CQ R6 n0 g0&&(PI L0 x1))
  | _=>none
 | _=>none
theorem Oe {S:B3} (hS:Zv prog S):Zv prog (S.with nAt fAt):=by
 refine CP hS (by kernel_rfl) fun args v h=> ?_;unfold fAt at h;split at h
 .rename_i a0 x1;split at h
  .rename_i L0 g0 n0 e0;simp only [Ae,Ac,Ad] at h;obtain ⟨rfl,ho0,hw⟩:=h;obtain ⟨N,hN⟩:=j1k L0 x1 hw;exact ⟨_,_,(.cons (Xf e0 ho0) (.cons (.refl _) .nil)),rfl,u1i L0 x1 N _ hN,3,rfl⟩
  .cases h
 .cases h
def v7e :List B1->Option (B1×Bool)
 | [.int .i64 x0,.bool b1,.bool b2]=>some (.bool (Lk x0 b1 b2),true)
 | _=>none
theorem v7d {S:B3} (hS:Zv prog S):Zv prog (S.with u7q v7e):=by
 refine CP hS (by kernel_rfl) fun args v h=> ?_;unfold v7e at h;split at h
 .rename_i x0 b1 b2;simp only [Ae,Ac,and_true] at h;subst h;obtain ⟨N,hN⟩:=j3b x0 b1 b2;exact ⟨_,_,(.cons (.refl _) (.cons (.refl _) (.cons (.refl _) .nil))),rfl,u3o x0 b1 b2 N _ hN,3,rfl⟩
 .cases h
def O3 :List B1->Option (B1×Bool)
 | [.bool b0,.bool b1]=>some (.bool (Ea b0 b1),true)
 | _=>none
theorem j4x {S:B3} (hS:Zv prog S):Zv prog (S.with TI O3):=by
 refine CP hS (by kernel_rfl) fun args v h=> ?_;unfold O3 at h;split at h
 .rename_i b0 b1;simp only [Ae,Ac,and_true] at h;subst h;obtain ⟨N,hN⟩:=j3h b0 b1;exact ⟨_,_,(.cons (.refl _) (.cons (.refl _) .nil)),rfl,u3t b0 b1 N _ hN,3,rfl⟩
 .cases h
theorem v0t {S:B3} (hS:Zv prog S):Zv prog (S.with TL Ph):=by
 refine CP hS (by kernel_rfl) fun args v h=> ?_;unfold Ph at h;split at h
 .rename_i a0 a1;split at h
  .rename_i L0 g0 n0 L1 g1 n1 e0 e1;simp only [Ae,Ac,Ad] at h;obtain ⟨rfl,ho0,ho1,hw⟩:=h;obtain ⟨N,hN⟩:=j5l L0 L1 hw;exact ⟨_,_,(.cons (Xf e0 ho0) (.cons (Xf e1 ho1) .nil)),rfl,u4k L0 L1 N _ hN,3,rfl⟩
  .cases h
 .cases h
theorem v0s {S:B3} (hS:Zv prog S):Zv prog (S.with TK Pi):=by
 refine CP hS (by kernel_rfl) fun args v h=> ?_;unfold Pi at h;split at h
 .rename_i a0 a1;split at h
  .rename_i L0 g0 n0 L1 g1 n1 e0 e1;simp only [Ae,Ac,Ad] at h;obtain ⟨rfl,ho0,ho1,hw⟩:=h;obtain ⟨N,hN⟩:=j5k L0 L1 hw;exact ⟨_,_,(.cons (Xf e0 ho0) (.cons (Xf e1 ho1) .nil)),rfl,u4j L0 L1 N _ hN,3,rfl⟩
  .cases h
 .cases h
theorem v0r {S:B3} (hS:Zv prog S):Zv prog (S.with TJ Pj):=by
 refine CP hS (by kernel_rfl) fun args v h=> ?_;unfold Pj at h;split at h
 .rename_i a0 a1;split at h
  .rename_i L0 g0 n0 L1 g1 n1 e0 e1;simp only [Ae,Ac,Ad] at h;obtain ⟨rfl,ho0,ho1,hw⟩:=h;obtain ⟨N,hN⟩:=j5j L0 L1 hw;exact ⟨_,_,(.cons (Xf e0 ho0) (.cons (Xf e1 ho1) .nil)),rfl,u4i L0 L1 N _ hN,3,rfl⟩
  .cases h
 .cases h
def T1 :B3:=((((((((((((Eh.with v5q OF).with u7r Oc).with u7n Ph).with u7m Pi).with u7l Pj).with KL j4u).with nAt fAt).with u7q v7e).with TI O3).with TL Ph).with TK Pi).with TJ Pj)
theorem Da :Zv prog T1:=v0r (v0s (v0t (j4x (v7d (Oe (u4e (v7a (v7b (v7c (j5h (j3u Zq)))))))))))
inductive H2 where
 | h0 (v5:List Int) (v6:Int)
 | h1 (v5:List Int) (v7:Int)
def MW (l0:List R4) (l1:List R4):H2->CE
 | .h0 v5 v6=>⟨⟨48,0,true⟩,none,(Zf prog 181 [1,1,0,1,0,0] 0),none,(Zy prog 3),⟨Ye [(0,(.dat l0.length (Zz l0))),(1,(.dat l1.length (Zz l1))),(5,(.sla 0 1 0 v5.length (.un 1))),(6,(ii v6))],Xt [⟨rows v5.length (Zz v5),3,some ⟨1,v5.length,(Zz v5)⟩⟩] 0,1,[],true⟩,[],.leaf⟩
 | .h1 v5 v7=>⟨⟨48,0,true⟩,none,(Zf prog 181 [1,1,1,0,1,0,0] 0),none,(Zy prog 3),⟨Ye [(1,(.dat l1.length (Zz l1))),(5,(.sla 0 1 0 v5.length (.un 1))),(7,(ii v7))],Xt [⟨rows v5.length (Zz v5),3,some ⟨1,v5.length,(Zz v5)⟩⟩] 0,1,[],true⟩,[],.leaf⟩
def JL :List (Option (List Nat)):=[some [0,1,5,6]]
def JN :List (Option (List Nat)):=[]
def JK :List (Option (List Nat)):=[some [1,5,7]]
def JM :List (Option (List Nat)):=[]
def Gt (l0:List R4) (l1:List R4):H2->Xu H2
 | .h0 v5 v6=>(bif (decide (v6<(l0.length:Int))) then (bif ((decide (0<=v6/\v6<(l0.length:Int)))&&true) then (bif (Nat.beq 1 1&&((decide (0+v5.length=v5.length))&&decide ((v5.length+2+1)*(8+1)<=Vd))) then (.to (.h0 (v5++[(rd l0 v6.toNat).a,(rd l0 v6.toNat).c]) (wrap .i64 (v6+1)))) else .stuck) else .stuck) else (.to (.h1 v5 0)))
 | .h1 v5 v7=>(bif (decide (v7<(l1.length:Int))) then (bif ((decide (0<=v7/\v7<(l1.length:Int)))&&true) then (bif (Nat.beq 1 1&&((decide (0+v5.length=v5.length))&&decide ((v5.length+2+1)*(8+1)<=Vd))) then (.to (.h1 (v5++[(rd l1 v7.toNat).a,(rd l1 v7.toNat).c]) (wrap .i64 (v7+1)))) else .stuck) else .stuck) else (bif (Qs (B2 v5)) then (.ret [(.dat (Cc (B2 v5)).length (Zz (Cc (B2 v5))))]) else .stuck))
def VU (l0:List R4) (l1:List R4):Xu H2:=(.to (.h0 ([]:List Int) 0))
theorem w8b (l0:List R4) (l1:List R4): ∀s,Wj prog (Zy prog 181) (MW l0 l1) (MW l0 l1 s) (Gt l0 l1 s)
 | .h0 v5 v6=>(lb (fun k0=>(lo fun o0=>(lo fun o1=>let e:=rd l0 (tn v6);let b:=v5++[e.a,e.c];let d:=xL (v5.length+2) (v5++[(rd l0 (tn v6)).a,(rd l0 (tn v6)).c]).length;(sl Da 20 [] ⟨[2],[],JL,JN⟩ ⟨[(5,.len b.length)],[.rowed 1 b.length (Zz b)],[]⟩ [true] (pp d (pp d (pp (xS (v5.length+2) (Zo (Zz v5) 0 v5.length 1 [(ii (rd l0 (tn v6)).a),(ii (rd l0 (tn v6)).c)]) (Zz (v5++[(rd l0 (tn v6)).a,(rd l0 (tn v6)).c]))) (pp (pp (xF (Zo (Zz v5) 0 v5.length 1 [(ii (rd l0 (tn v6)).a),(ii (rd l0 (tn v6)).c)])) nn) (ww o1 (ww o0 (ww o0 (tt k0 nn)))))))))))) (fun k0=>(sl Da 17 [] ⟨[0],[],JK,JM⟩ b7 [false] (pp (fl v5 nn) (tt k0 nn)))))
 | .h1 v5 v7=>(lb (fun k0=>(lo fun o0=>(lo fun o1=>let e:=rd l1 (tn v7);let b:=v5++[e.a,e.c];let d:=xL (v5.length+2) (v5++[(rd l1 (tn v7)).a,(rd l1 (tn v7)).c]).length;(sl Da 20 [] ⟨[2],[],JK,JM⟩ ⟨[(5,.len b.length)],[.rowed 1 b.length (Zz b)],[]⟩ [true] (pp d (pp d (pp (xS (v5.length+2) (Zo (Zz v5) 0 v5.length 1 [(ii (rd l1 (tn v7)).a),(ii (rd l1 (tn v7)).c)]) (Zz (v5++[(rd l1 (tn v7)).a,(rd l1 (tn v7)).c]))) (pp (pp (xF (Zo (Zz v5) 0 v5.length 1 [(ii (rd l1 (tn v7)).a),(ii (rd l1 (tn v7)).c)])) nn) (ww o1 (ww o0 (ww o0 (tt k0 nn)))))))))))) (fun k0=>(Wk (sl Da (C':=⟨⟨48,0,true⟩,(CU prog 181 [1,1,1,1,0] 1),(Zf prog 181 [1,1,1,1,0] 1),none,(Zy prog 3),⟨Ye [(46,(.dat v5.length (Zz v5)))],Xt [] 0,0,[],true⟩,[],.leaf⟩) 13 [] ⟨[],[0],[some [46]],[]⟩ ⟨[(46,.frz v5.length v5.length (Zz v5) (Zz v5))],[],[]⟩ [false] (pp (xZ (DU 1 1 0 v5.length v5.length (Zz v5)) v5.length (Zz v5)) (pp (xL v5.length v5.length) (pp (xS v5.length (Zz v5) (Zz v5)) (pp (fl v5 nn) (tt k0 nn)))))) (lo fun o0=>let f:=Cc (B2 v5);(lr 48 3 [1,1,1,1,1,1,0] 1 3 [(4,(.dat f.length (Zz f)))] (sl Da 3 [] (b8 [4]) b7 [] (pp (pp (xr v5) (xw o0)) nn)))))))
theorem x9u (l0:List R4) (l1:List R4):Wj prog (Zy prog 181) (MW l0 l1) (Zg prog 181 [(.dat l0.length (Zz l0)),(.dat l1.length (Zz l1))] true []) (VU l0 l1):=(sl Da 15 [(3,1,Zz ([]:List Int))] ⟨[0],[],JL,JN⟩ ⟨[(5,.grow 0 1)],[],[]⟩ [] (pp (fl ([]:List Int) nn) nn))
theorem u0f (l0:List R4) (l1:List R4) (n:Nat) (vs:List B1) (h:Yw (Gt l0 l1) n (VU l0 l1)=.ret vs):Js prog (Zy prog 181) (Zg prog 181 [(.dat l0.length (Zz l0)),(.dat l1.length (Zz l1))] true []) vs:=by have:=Ze (w8b l0 l1) n _ (x9u l0 l1);rwa [h] at this
inductive H1 where
 | h0 (v5:List Int) (v6:Int)
 | h1 (v5:List Int) (v7:Int)
def MV (l0:List R4) (l1:List R4):H1->CE
 | .h0 v5 v6=>⟨⟨48,0,true⟩,none,(Zf prog 182 [1,1,0,1,0,0] 0),none,(Zy prog 3),⟨Ye [(0,(.dat l0.length (Zz l0))),(1,(.dat l1.length (Zz l1))),(5,(.sla 0 1 0 v5.length (.un 1))),(6,(ii v6))],Xt [⟨rows v5.length (Zz v5),3,some ⟨1,v5.length,(Zz v5)⟩⟩] 0,1,[],true⟩,[],.leaf⟩
 | .h1 v5 v7=>⟨⟨48,0,true⟩,none,(Zf prog 182 [1,1,1,0,1,0,0] 0),none,(Zy prog 3),⟨Ye [(1,(.dat l1.length (Zz l1))),(5,(.sla 0 1 0 v5.length (.un 1))),(7,(ii v7))],Xt [⟨rows v5.length (Zz v5),3,some ⟨1,v5.length,(Zz v5)⟩⟩] 0,1,[],true⟩,[],.leaf⟩
def JH :List (Option (List Nat)):=[some [0,1,5,6]]
def JJ :List (Option (List Nat)):=[]
def JG :List (Option (List Nat)):=[some [1,5,7]]
def JI :List (Option (List Nat)):=[]
def Gu (l0:List R4) (l1:List R4):H1->Xu H1
 | .h0 v5 v6=>(bif (decide (v6<(l0.length:Int))) then (bif ((decide (0<=v6/\v6<(l0.length:Int)))&&true) then (bif (Nat.beq 1 1&&((decide (0+v5.length=v5.length))&&decide ((v5.length+2+1)*(8+1)<=Vd))) then (.to (.h0 (v5++[(rd l0 v6.toNat).b,(rd l0 v6.toNat).d]) (wrap .i64 (v6+1)))) else .stuck) else .stuck) else (.to (.h1 v5 0)))
 | .h1 v5 v7=>(bif (decide (v7<(l1.length:Int))) then (bif ((decide (0<=v7/\v7<(l1.length:Int)))&&true) then (bif (Nat.beq 1 1&&((decide (0+v5.length=v5.length))&&decide ((v5.length+2+1)*(8+1)<=Vd))) then (.to (.h1 (v5++[(rd l1 v7.toNat).b,(rd l1 v7.toNat).d]) (wrap .i64 (v7+1)))) else .stuck) else .stuck) else (bif (Qs (B2 v5)) then (.ret [(.dat (Cc (B2 v5)).length (Zz (Cc (B2 v5))))]) else .stuck))
def VV (l0:List R4) (l1:List R4):Xu H1:=(.to (.h0 ([]:List Int) 0))
theorem w8a (l0:List R4) (l1:List R4): ∀s,Wj prog (Zy prog 182) (MV l0 l1) (MV l0 l1 s) (Gu l0 l1 s)
 | .h0 v5 v6=>(lb (fun k0=>(lo fun o0=>(lo fun o1=>let e:=rd l0 (tn v6);let a:=v5++[e.b,e.d];let c:=xL (v5.length+2) (v5++[(rd l0 (tn v6)).b,(rd l0 (tn v6)).d]).length;(sl Da 20 [] ⟨[2],[],JH,JJ⟩ ⟨[(5,.len a.length)],[.rowed 1 a.length (Zz a)],[]⟩ [true] (pp c (pp c (pp (xS (v5.length+2) (Zo (Zz v5) 0 v5.length 1 [(ii (rd l0 (tn v6)).b),(ii (rd l0 (tn v6)).d)]) (Zz (v5++[(rd l0 (tn v6)).b,(rd l0 (tn v6)).d]))) (pp (pp (xF (Zo (Zz v5) 0 v5.length 1 [(ii (rd l0 (tn v6)).b),(ii (rd l0 (tn v6)).d)])) nn) (ww o1 (ww o0 (ww o0 (tt k0 nn)))))))))))) (fun k0=>(sl Da 17 [] ⟨[0],[],JG,JI⟩ b7 [false] (pp (fl v5 nn) (tt k0 nn)))))
 | .h1 v5 v7=>(lb (fun k0=>(lo fun o0=>(lo fun o1=>let e:=rd l1 (tn v7);let a:=v5++[e.b,e.d];let c:=xL (v5.length+2) (v5++[(rd l1 (tn v7)).b,(rd l1 (tn v7)).d]).length;(sl Da 20 [] ⟨[2],[],JG,JI⟩ ⟨[(5,.len a.length)],[.rowed 1 a.length (Zz a)],[]⟩ [true] (pp c (pp c (pp (xS (v5.length+2) (Zo (Zz v5) 0 v5.length 1 [(ii (rd l1 (tn v7)).b),(ii (rd l1 (tn v7)).d)]) (Zz (v5++[(rd l1 (tn v7)).b,(rd l1 (tn v7)).d]))) (pp (pp (xF (Zo (Zz v5) 0 v5.length 1 [(ii (rd l1 (tn v7)).b),(ii (rd l1 (tn v7)).d)])) nn) (ww o1 (ww o0 (ww o0 (tt k0 nn)))))))))))) (fun k0=>(Wk (sl Da (C':=⟨⟨48,0,true⟩,(CU prog 182 [1,1,1,1,0] 1),(Zf prog 182 [1,1,1,1,0] 1),none,(Zy prog 3),⟨Ye [(46,(.dat v5.length (Zz v5)))],Xt [] 0,0,[],true⟩,[],.leaf⟩) 13 [] ⟨[],[0],[some [46]],[]⟩ ⟨[(46,.frz v5.length v5.length (Zz v5) (Zz v5))],[],[]⟩ [false] (pp (xZ (DU 1 1 0 v5.length v5.length (Zz v5)) v5.length (Zz v5)) (pp (xL v5.length v5.length) (pp (xS v5.length (Zz v5) (Zz v5)) (pp (fl v5 nn) (tt k0 nn)))))) (lo fun o0=>let f:=Cc (B2 v5);(lr 48 3 [1,1,1,1,1,1,0] 1 3 [(4,(.dat f.length (Zz f)))] (sl Da 3 [] (b8 [4]) b7 [] (pp (pp (xr v5) (xw o0)) nn)))))))
theorem x9t (l0:List R4) (l1:List R4):Wj prog (Zy prog 182) (MV l0 l1) (Zg prog 182 [(.dat l0.length (Zz l0)),(.dat l1.length (Zz l1))] true []) (VV l0 l1):=(sl Da 15 [(3,1,Zz ([]:List Int))] ⟨[0],[],JH,JJ⟩ ⟨[(5,.grow 0 1)],[],[]⟩ [] (pp (fl ([]:List Int) nn) nn))
theorem u0e (l0:List R4) (l1:List R4) (n:Nat) (vs:List B1) (h:Yw (Gu l0 l1) n (VV l0 l1)=.ret vs):Js prog (Zy prog 182) (Zg prog 182 [(.dat l0.length (Zz l0)),(.dat l1.length (Zz l1))] true []) vs:=by have:=Ze (w8a l0 l1) n _ (x9t l0 l1);rwa [h] at this
inductive Ee where
 | h0 (v5:List Int) (v6:Int)
 | h1 (v5:List Int) (v7:Int)
def j1f (l0:List R6) (l1:List R6):Ee->CE
 | .h0 v5 v6=>⟨⟨52,0,true⟩,none,(Zf prog 148 [1,1,0,1,0,0] 0),none,(Zy prog 3),⟨Ye [(0,(.dat l0.length (Zz l0))),(1,(.dat l1.length (Zz l1))),(5,(.sla 0 1 0 v5.length (.un 1))),(6,(ii v6))],Xt [⟨rows v5.length (Zz v5),3,some ⟨1,v5.length,(Zz v5)⟩⟩] 0,1,[],true⟩,[],.leaf⟩
 | .h1 v5 v7=>⟨⟨52,0,true⟩,none,(Zf prog 148 [1,1,1,0,1,0,0] 0),none,(Zy prog 3),⟨Ye [(1,(.dat l1.length (Zz l1))),(5,(.sla 0 1 0 v5.length (.un 1))),(7,(ii v7))],Xt [⟨rows v5.length (Zz v5),3,some ⟨1,v5.length,(Zz v5)⟩⟩] 0,1,[],true⟩,[],.leaf⟩
def u6w :List (Option (List Nat)):=[some [0,1,5,6]]
def u6y :List (Option (List Nat)):=[]
def u6v :List (Option (List Nat)):=[some [1,5,7]]
def u6x :List (Option (List Nat)):=[]
def Gy (l0:List R6) (l1:List R6):Ee->Xu Ee
 | .h0 v5 v6=>(bif (decide (v6<(l0.length:Int))) then (bif ((decide (0<=v6/\v6<(l0.length:Int)))&&true) then (bif (Nat.beq 1 1&&((decide (0+v5.length=v5.length))&&decide ((v5.length+2+1)*(8+1)<=Vd))) then (.to (.h0 (v5++[(rd l0 v6.toNat).c,(rd l0 v6.toNat).f]) (wrap .i64 (v6+1)))) else .stuck) else .stuck) else (.to (.h1 v5 0)))
 | .h1 v5 v7=>(bif (decide (v7<(l1.length:Int))) then (bif ((decide (0<=v7/\v7<(l1.length:Int)))&&true) then (bif (Nat.beq 1 1&&((decide (0+v5.length=v5.length))&&decide ((v5.length+2+1)*(8+1)<=Vd))) then (.to (.h1 (v5++[(rd l1 v7.toNat).c,(rd l1 v7.toNat).f]) (wrap .i64 (v7+1)))) else .stuck) else .stuck) else (bif (Qs (B2 v5)) then (.ret [(.dat (Cc (B2 v5)).length (Zz (Cc (B2 v5))))]) else .stuck))
def UF (l0:List R6) (l1:List R6):Xu Ee:=(.to (.h0 ([]:List Int) 0))
theorem w0q (l0:List R6) (l1:List R6): ∀s,Wj prog (Zy prog 148) (j1f l0 l1) (j1f l0 l1 s) (Gy l0 l1 s)
 | .h0 v5 v6=>(lb (fun k0=>(lo fun o0=>(lo fun o1=>let d:=rd l0 (tn v6);let a:=v5++[d.c,d.f];let b:=xL (v5.length+2) (v5++[(rd l0 (tn v6)).c,(rd l0 (tn v6)).f]).length;(sl Da 20 [] ⟨[2],[],u6w,u6y⟩ ⟨[(5,.len a.length)],[.rowed 1 a.length (Zz a)],[]⟩ [true] (pp b (pp b (pp (xS (v5.length+2) (Zo (Zz v5) 0 v5.length 1 [(ii (rd l0 (tn v6)).c),(ii (rd l0 (tn v6)).f)]) (Zz (v5++[(rd l0 (tn v6)).c,(rd l0 (tn v6)).f]))) (pp (pp (xF (Zo (Zz v5) 0 v5.length 1 [(ii (rd l0 (tn v6)).c),(ii (rd l0 (tn v6)).f)])) nn) (ww o1 (ww o0 (ww o0 (tt k0 nn)))))))))))) (fun k0=>(sl Da 17 [] ⟨[0],[],u6v,u6x⟩ b7 [false] (pp (fl v5 nn) (tt k0 nn)))))
 | .h1 v5 v7=>(lb (fun k0=>(lo fun o0=>(lo fun o1=>let d:=rd l1 (tn v7);let a:=v5++[d.c,d.f];let b:=xL (v5.length+2) (v5++[(rd l1 (tn v7)).c,(rd l1 (tn v7)).f]).length;(sl Da 20 [] ⟨[2],[],u6v,u6x⟩ ⟨[(5,.len a.length)],[.rowed 1 a.length (Zz a)],[]⟩ [true] (pp b (pp b (pp (xS (v5.length+2) (Zo (Zz v5) 0 v5.length 1 [(ii (rd l1 (tn v7)).c),(ii (rd l1 (tn v7)).f)]) (Zz (v5++[(rd l1 (tn v7)).c,(rd l1 (tn v7)).f]))) (pp (pp (xF (Zo (Zz v5) 0 v5.length 1 [(ii (rd l1 (tn v7)).c),(ii (rd l1 (tn v7)).f)])) nn) (ww o1 (ww o0 (ww o0 (tt k0 nn)))))))))))) (fun k0=>(Wk (sl Da (C':=⟨⟨52,0,true⟩,(CU prog 148 [1,1,1,1,0] 1),(Zf prog 148 [1,1,1,1,0] 1),none,(Zy prog 3),⟨Ye [(50,(.dat v5.length (Zz v5)))],Xt [] 0,0,[],true⟩,[],.leaf⟩) 13 [] ⟨[],[0],[some [50]],[]⟩ ⟨[(50,.frz v5.length v5.length (Zz v5) (Zz v5))],[],[]⟩ [false] (pp (xZ (DU 1 1 0 v5.length v5.length (Zz v5)) v5.length (Zz v5)) (pp (xL v5.length v5.length) (pp (xS v5.length (Zz v5) (Zz v5)) (pp (fl v5 nn) (tt k0 nn)))))) (lo fun o0=>let e:=Cc (B2 v5);(lr 52 3 [1,1,1,1,1,1,0] 1 3 [(4,(.dat e.length (Zz e)))] (sl Da 3 [] (b8 [4]) b7 [] (pp (pp (xr v5) (xw o0)) nn)))))))
theorem x6h (l0:List R6) (l1:List R6):Wj prog (Zy prog 148) (j1f l0 l1) (Zg prog 148 [(.dat l0.length (Zz l0)),(.dat l1.length (Zz l1))] true []) (UF l0 l1):=(sl Da 15 [(3,1,Zz ([]:List Int))] ⟨[0],[],u6w,u6y⟩ ⟨[(5,.grow 0 1)],[],[]⟩ [] (pp (fl ([]:List Int) nn) nn))
theorem v4k (l0:List R6) (l1:List R6) (n:Nat) (vs:List B1) (h:Yw (Gy l0 l1) n (UF l0 l1)=.ret vs):Js prog (Zy prog 148) (Zg prog 148 [(.dat l0.length (Zz l0)),(.dat l1.length (Zz l1))] true []) vs:=by have:=Ze (w0q l0 l1) n _ (x6h l0 l1);rwa [h] at this
def Di (l:List R4):List Int:=l.flatMap fun r=>[r.a,r.c]
def Db (l:List R4):List Int:=l.flatMap fun r=>[r.b,r.d]
def Dj (l:List R6):List Int:=l.flatMap fun r=>[r.c,r.f]
def CK (l m:List R4):List Int:=Cc (Di l++Di m)
def V4 (l m:List R4):Bool:=decide (l.length<=10000/\m.length<=10000)
theorem YF (l:List R4):(Di l).length =2*l.length:=by
 induction l with
 | nil=>rfl
 | cons r l ih=>grind [Di]
theorem x0n (l:List R4) (i:Nat) (h:i<l.length):Di (l.drop i)=Di [rd l i]++Di (l.drop (i+1)):=by rw [Xj h];rfl
theorem u5y (l m:List R4) (hl:l.length<=10000) (hm:m.length<=10000): ∀(k i:Nat) (out:List Int),i+k=m.length->out.length=2*l.length+2*i-> ∃N,Yw (Gt l m) N (.to (.h1 out (i:Int)))=.ret [.dat (Cc (out++Di (m.drop i))).length (Zz (Cc (out++Di (m.drop i))))]
 | 0,i,out,h,ho=>by refine ⟨1,?_⟩;have hw:Qs out=true:=Aa (by omega);rw [Zw,Aw (show m.length<=i by omega),show Di []=[] from rfl,AL];simp (disch:=omega) only [Gt,Wz,Xv,Yb,Xz,Wb,Xe,Xn,Xo,Ym,Zm,Yf,Qv,Ut,AA,Zk,Yy,Zs,Xs,Zj,Al,Ap,Aq,Af,Ab,Ax,AD,Zh,Yg,Zt,Uq,Xr,hw]
 | k+1,i,out,h,ho=>by obtain ⟨N,hN⟩:=u5y l m hl hm k (i+1) (out++Di [rd m i]) (by omega) (by grind [YF]);refine ⟨N+1,?_⟩;rw [x0n m i (by omega),<-AH,Zw];simp (disch:=omega) only [Gt,Wz,Xv,Yb,Xz,Wb,Xe,Xn,Xo,Ym,Zm,Yf,Qv,Ut,AA,Zk,Yy,Zs,Xs,Zj,Al,Ap,Aq,Af,Ab,Ax,AD,Zh,Yg,Zt,Uq,Xr];exact hN
theorem u5z (l m:List R4) (hl:l.length<=10000) (hm:m.length<=10000): ∀(k i:Nat) (out:List Int),i+k=l.length->out.length=2*i-> ∃N,Yw (Gt l m) N (.to (.h0 out (i:Int)))=.ret [.dat (Cc (out++Di (l.drop i)++Di m)).length (Zz (Cc (out++Di (l.drop i)++Di m)))]
 | 0,i,out,h,ho=>by obtain ⟨N,hN⟩:=u5y l m hl hm m.length 0 out (Al _) (by omega);refine ⟨N+1,?_⟩;rw [Zw,Aw (show l.length<=i by omega),show Di []=[] from rfl,AL];simp (disch:=omega) only [Gt,Wz,Xv,Yb,Xz,Wb,Xe,Xn,Xo,Ym,Zm,Yf,Qv,Ut,AA,Zk,Yy,Zs,Xs,Zj,Al,Ap,Aq,Af,Ab,Ax,AD,Zh,Yg,Zt,Uq,Xr];exact hN
 | k+1,i,out,h,ho=>by obtain ⟨N,hN⟩:=u5z l m hl hm k (i+1) (out++Di [rd l i]) (by omega) (by grind [YF]);refine ⟨N+1,?_⟩;rw [x0n l i (by omega),<-AH,Zw];simp (disch:=omega) only [Gt,Wz,Xv,Yb,Xz,Wb,Xe,Xn,Xo,Ym,Zm,Yf,Qv,Ut,AA,Zk,Yy,Zs,Xs,Zj,Al,Ap,Aq,Af,Ab,Ax,AD,Zh,Yg,Zt,Uq,Xr];exact hN
theorem j0b (l m:List R4) (h:V4 l m=true): ∃N,Yw (Gt l m) N (VU l m)=.ret [.dat (CK l m).length (Zz (CK l m))]:=by
 obtain ⟨h1,h2⟩:=Av h;have:=u5z l m h1 h2 l.length 0 [] (Al _) rfl
 simpa [VU,CK] using this
def CV (l m:List R4):List Int:=Cc (Db l++Db m)
def V5 (l m:List R4):Bool:=decide (l.length<=10000/\m.length<=10000)
theorem YG (l:List R4):(Db l).length =2*l.length:=by
 induction l with
 | nil=>rfl
 | cons r l ih=>grind [Db]
theorem x0m (l:List R4) (i:Nat) (h:i<l.length):Db (l.drop i)=Db [rd l i]++Db (l.drop (i+1)):=by rw [Xj h];rfl
theorem u5w (l m:List R4) (hl:l.length<=10000) (hm:m.length<=10000): ∀(k i:Nat) (out:List Int),i+k=m.length->out.length=2*l.length+2*i-> ∃N,Yw (Gu l m) N (.to (.h1 out (i:Int)))=.ret [.dat (Cc (out++Db (m.drop i))).length (Zz (Cc (out++Db (m.drop i))))]
 | 0,i,out,h,ho=>by refine ⟨1,?_⟩;have hw:Qs out=true:=Aa (by omega);rw [Zw,Aw (show m.length<=i by omega),show Db []=[] from rfl,AL];simp (disch:=omega) only [Gu,Wz,Xv,Yb,Xz,Wb,Xe,Xn,Xo,Ym,Zm,Yf,Qv,Ut,AA,Zk,Yy,Zs,Xs,Zj,Al,Ap,Aq,Af,Ab,Ax,AD,Zh,Yg,Zt,Uq,Xr,hw]
 | k+1,i,out,h,ho=>by obtain ⟨N,hN⟩:=u5w l m hl hm k (i+1) (out++Db [rd m i]) (by omega) (by grind [YG]);refine ⟨N+1,?_⟩;rw [x0m m i (by omega),<-AH,Zw];simp (disch:=omega) only [Gu,Wz,Xv,Yb,Xz,Wb,Xe,Xn,Xo,Ym,Zm,Yf,Qv,Ut,AA,Zk,Yy,Zs,Xs,Zj,Al,Ap,Aq,Af,Ab,Ax,AD,Zh,Yg,Zt,Uq,Xr];exact hN
theorem u5x (l m:List R4) (hl:l.length<=10000) (hm:m.length<=10000): ∀(k i:Nat) (out:List Int),i+k=l.length->out.length=2*i-> ∃N,Yw (Gu l m) N (.to (.h0 out (i:Int)))=.ret [.dat (Cc (out++Db (l.drop i)++Db m)).length (Zz (Cc (out++Db (l.drop i)++Db m)))]
 | 0,i,out,h,ho=>by obtain ⟨N,hN⟩:=u5w l m hl hm m.length 0 out (Al _) (by omega);refine ⟨N+1,?_⟩;rw [Zw,Aw (show l.length<=i by omega),show Db []=[] from rfl,AL];simp (disch:=omega) only [Gu,Wz,Xv,Yb,Xz,Wb,Xe,Xn,Xo,Ym,Zm,Yf,Qv,Ut,AA,Zk,Yy,Zs,Xs,Zj,Al,Ap,Aq,Af,Ab,Ax,AD,Zh,Yg,Zt,Uq,Xr];exact hN
 | k+1,i,out,h,ho=>by obtain ⟨N,hN⟩:=u5x l m hl hm k (i+1) (out++Db [rd l i]) (by omega) (by grind [YG]);refine ⟨N+1,?_⟩;rw [x0m l i (by omega),<-AH,Zw];simp (disch:=omega) only [Gu,Wz,Xv,Yb,Xz,Wb,Xe,Xn,Xo,Ym,Zm,Yf,Qv,Ut,AA,Zk,Yy,Zs,Xs,Zj,Al,Ap,Aq,Af,Ab,Ax,AD,Zh,Yg,Zt,Uq,Xr];exact hN
theorem j0a (l m:List R4) (h:V5 l m=true): ∃N,Yw (Gu l m) N (VV l m)=.ret [.dat (CV l m).length (Zz (CV l m))]:=by
 obtain ⟨h1,h2⟩:=Av h;have:=u5x l m h1 h2 l.length 0 [] (Al _) rfl
 simpa [VV,CV] using this
def Ux (l m:List R6):List Int:=Cc (Dj l++Dj m)
def V9 (l m:List R6):Bool:=decide (l.length<=40000/\m.length<=40000)
theorem YH (l:List R6):(Dj l).length =2*l.length:=by
 induction l with
 | nil=>rfl
 | cons r l ih=>grind [Dj]
theorem x0j (l:List R6) (i:Nat) (h:i<l.length):Dj (l.drop i)=Dj [rd l i]++Dj (l.drop (i+1)):=by rw [Xj h];rfl
theorem v4i (l m:List R6) (hl:l.length<=40000) (hm:m.length<=40000): ∀(k i:Nat) (out:List Int),i+k=m.length->out.length=2*l.length+2*i-> ∃N,Yw (Gy l m) N (.to (.h1 out (i:Int)))=.ret [.dat (Cc (out++Dj (m.drop i))).length (Zz (Cc (out++Dj (m.drop i))))]
 | 0,i,out,h,ho=>by refine ⟨1,?_⟩;have hw:Qs out=true:=Aa (by omega);rw [Zw,Aw (show m.length<=i by omega),show Dj []=[] from rfl,AL];simp (disch:=omega) only [Gy,Wz,Xv,Yb,Xz,Wb,Xe,Xn,Xo,Ym,Zm,Yf,Qv,Ut,AA,Zk,Yy,Zs,Xs,Zj,Al,Ap,Aq,Af,Ab,Ax,AD,Zh,Yg,Zt,Uq,Xr,hw]
 | k+1,i,out,h,ho=>by obtain ⟨N,hN⟩:=v4i l m hl hm k (i+1) (out++Dj [rd m i]) (by omega) (by grind [YH]);refine ⟨N+1,?_⟩;rw [x0j m i (by omega),<-AH,Zw];simp (disch:=omega) only [Gy,Wz,Xv,Yb,Xz,Wb,Xe,Xn,Xo,Ym,Zm,Yf,Qv,Ut,AA,Zk,Yy,Zs,Xs,Zj,Al,Ap,Aq,Af,Ab,Ax,AD,Zh,Yg,Zt,Uq,Xr];exact hN
theorem v4j (l m:List R6) (hl:l.length<=40000) (hm:m.length<=40000): ∀(k i:Nat) (out:List Int),i+k=l.length->out.length=2*i-> ∃N,Yw (Gy l m) N (.to (.h0 out (i:Int)))=.ret [.dat (Cc (out++Dj (l.drop i)++Dj m)).length (Zz (Cc (out++Dj (l.drop i)++Dj m)))]
 | 0,i,out,h,ho=>by obtain ⟨N,hN⟩:=v4i l m hl hm m.length 0 out (Al _) (by omega);refine ⟨N+1,?_⟩;rw [Zw,Aw (show l.length<=i by omega),show Dj []=[] from rfl,AL];simp (disch:=omega) only [Gy,Wz,Xv,Yb,Xz,Wb,Xe,Xn,Xo,Ym,Zm,Yf,Qv,Ut,AA,Zk,Yy,Zs,Xs,Zj,Al,Ap,Aq,Af,Ab,Ax,AD,Zh,Yg,Zt,Uq,Xr];exact hN
 | k+1,i,out,h,ho=>by obtain ⟨N,hN⟩:=v4j l m hl hm k (i+1) (out++Dj [rd l i]) (by omega) (by grind [YH]);refine ⟨N+1,?_⟩;rw [x0j l i (by omega),<-AH,Zw];simp (disch:=omega) only [Gy,Wz,Xv,Yb,Xz,Wb,Xe,Xn,Xo,Ym,Zm,Yf,Qv,Ut,AA,Zk,Yy,Zs,Xs,Zj,Al,Ap,Aq,Af,Ab,Ax,AD,Zh,Yg,Zt,Uq,Xr];exact hN
theorem u1c (l m:List R6) (h:V9 l m=true): ∃N,Yw (Gy l m) N (UF l m)=.ret [.dat (Ux l m).length (Zz (Ux l m))]:=by
 obtain ⟨h1,h2⟩:=Av h;have:=v4j l m h1 h2 l.length 0 [] (Al _) rfl
 simpa [UF,Ux] using this
def fXs :List B1->Option (B1×Bool)
 | [a0,a1]=>match C7 R4 a0,C7 R4 a1 with
  | some (L0,g0,n0),some (L1,g1,n1)=>some (.dat (CK L0 L1).length (Zz (CK L0 L1)),CQ R4 n0 g0&&(CQ R4 n1 g1&&(V4 L0 L1)))
  | _,_=>none
 | _=>none
theorem OA {S:B3} (hS:Zv prog S):Zv prog (S.with nXs fXs):=by
 refine CP hS (by kernel_rfl) fun args v h=> ?_;unfold fXs at h;split at h
 .rename_i a0 a1;split at h
  .rename_i L0 g0 n0 L1 g1 n1 e0 e1;simp only [Ae,Ac,Ad] at h;obtain ⟨rfl,ho0,ho1,hw⟩:=h;obtain ⟨N,hN⟩:=j0b L0 L1 hw;exact ⟨_,_,(.cons (Xf e0 ho0) (.cons (Xf e1 ho1) .nil)),rfl,u0f L0 L1 N _ hN,3,rfl⟩
  .cases h
 .cases h
def fYs :List B1->Option (B1×Bool)
 | [a0,a1]=>match C7 R4 a0,C7 R4 a1 with
  | some (L0,g0,n0),some (L1,g1,n1)=>some (.dat (CV L0 L1).length (Zz (CV L0 L1)),CQ R4 n0 g0&&(CQ R4 n1 g1&&(V5 L0 L1)))
  | _,_=>none
 | _=>none
theorem Nz {S:B3} (hS:Zv prog S):Zv prog (S.with nYs fYs):=by
 refine CP hS (by kernel_rfl) fun args v h=> ?_;unfold fYs at h;split at h
 .rename_i a0 a1;split at h
  .rename_i L0 g0 n0 L1 g1 n1 e0 e1;simp only [Ae,Ac,Ad] at h;obtain ⟨rfl,ho0,ho1,hw⟩:=h;obtain ⟨N,hN⟩:=j0a L0 L1 hw;exact ⟨_,_,(.cons (Xf e0 ho0) (.cons (Xf e1 ho1) .nil)),rfl,u0e L0 L1 N _ hN,3,rfl⟩
  .cases h
 .cases h
def j5e :List B1->Option (B1×Bool)
 | [a0,a1]=>match C7 R6 a0,C7 R6 a1 with
  | some (L0,g0,n0),some (L1,g1,n1)=>some (.dat (Ux L0 L1).length (Zz (Ux L0 L1)),CQ R6 n0 g0&&(CQ R6 n1 g1&&(V9 L0 L1)))
  | _,_=>none
 | _=>none
theorem u4f {S:B3} (hS:Zv prog S):Zv prog (S.with KM j5e):=by
 refine CP hS (by kernel_rfl) fun args v h=> ?_;unfold j5e at h;split at h
 .rename_i a0 a1;split at h
  .rename_i L0 g0 n0 L1 g1 n1 e0 e1;simp only [Ae,Ac,Ad] at h;obtain ⟨rfl,ho0,ho1,hw⟩:=h;obtain ⟨N,hN⟩:=u1c L0 L1 hw;exact ⟨_,_,(.cons (Xf e0 ho0) (.cons (Xf e1 ho1) .nil)),rfl,v4k L0 L1 N _ hN,3,rfl⟩
  .cases h
 .cases h
def T2 :B3:=((T1.with nXs fXs).with nYs fYs).with KM j5e
theorem Eo :Zv prog T2:=u4f (Nz (OA Da))
abbrev QW (x0:Int) (l1:List R4) (l2:List R4) (v12:Int) (v14:Int):=(Lk x0 (E1 (B2 l1) (rd (CK (B2 l1) (B2 l2)) (tn v12)) (rd (CV (B2 l1) (B2 l2)) (tn v14))) (E1 (B2 l2) (rd (CK (B2 l1) (B2 l2)) (tn v12)) (rd (CV (B2 l1) (B2 l2)) (tn v14))))
abbrev ZY (v9:List R4) (v16:Int) (l1:List R4) (l2:List R4) (v12:Int):=(v9.set (0+(tn v16)) (R4.mk (rd v9 (0+(tn v16))).a (rd v9 (0+(tn v16))).b (rd (CK (B2 l1) (B2 l2)) (tn (wr (v12+1)))) (rd v9 (0+(tn v16))).d))
abbrev ZZ (v9:List R4) (l1:List R4) (l2:List R4) (v12:Int) (v15:List R2) (v17:Int):=(v9++[(R4.mk (rd (CK (B2 l1) (B2 l2)) (tn v12)) (rd v15 (tn v17)).a (rd (CK (B2 l1) (B2 l2)) (tn (wr (v12+1)))) (rd v15 (tn v17)).b)])
abbrev Je (l1:List R4) (l2:List R4):=(CV (B2 l1) (B2 l2))
def WP (l1:List R4) (l2:List R4):B1:=(.dat (CK (B2 l1) (B2 l2)).length (Zz (CK (B2 l1) (B2 l2))))
def WQ (l1:List R4) (l2:List R4):B1:=(.dat (Je l1 l2).length (Zz (Je l1 l2)))
inductive Hc where
 | h0 (v9:List R4) (v10:List R2) (v11:Int) (v12:Int)
 | h1 (v9:List R4) (v10:List R2) (v11:Int) (v12:Int) (v13:List Bool) (v14:Int)
 | h2 (v9:List R4) (v10:List R2) (v11:Int) (v12:Int) (v15:List R2) (v17:Int)
 | h3 (v9:List R4) (v10:List R2) (v11:Int) (v12:Int) (v16:Int)
def M7 (x0:Int) (l1:List R4) (l2:List R4):Hc->CE
 | .h0 v9 v10 v11 v12=>⟨⟨121,0,true⟩,none,(Zf prog 149 [1,1,1,1,1,0,1,0,0] 0),none,(Zy prog 7),⟨Ye [(0,(ii x0)),(1,(.dat l1.length (Zz l1))),(2,(.dat l2.length (Zz l2))),(7,(WP l1 l2)),(8,(WQ l1 l2)),(9,(.sla 0 4 0 v9.length (.un 4))),(10,(.dat v10.length (Zz v10))),(11,(ii v11)),(12,(ii v12))],Xt [⟨rows v9.length (Zz v9),168,some ⟨4,v9.length,(Zz v9)⟩⟩] 0,1,[],true⟩,[],.leaf⟩
 | .h1 v9 v10 v11 v12 v13 v14=>⟨⟨121,0,true⟩,none,(Zf prog 149 [1,1,1,1,1,0,1,0,0,1,0,0,1,0,1,0,0] 0),none,(Zy prog 7),⟨Ye [(0,(ii x0)),(1,(.dat l1.length (Zz l1))),(2,(.dat l2.length (Zz l2))),(7,(WP l1 l2)),(8,(WQ l1 l2)),(9,(.sla 1 4 0 v9.length (.un 4))),(10,(.dat v10.length (Zz v10))),(11,(ii v11)),(12,(ii v12)),(13,(.sla 0 1 0 v13.length (.un 1))),(14,(ii v14))],Xt [⟨rows v13.length (Zz v13),4,some ⟨1,v13.length,(Zz v13)⟩⟩,⟨rows v9.length (Zz v9),168,some ⟨4,v9.length,(Zz v9)⟩⟩] 0,2,[],true⟩,[],.leaf⟩
 | .h2 v9 v10 v11 v12 v15 v17=>⟨⟨121,0,true⟩,none,(Zf prog 149 [1,1,1,1,1,0,1,0,0,1,0,0,1,1,1,1,1,1,0,0] 0),none,(Zy prog 7),⟨Ye [(0,(ii x0)),(1,(.dat l1.length (Zz l1))),(2,(.dat l2.length (Zz l2))),(7,(WP l1 l2)),(8,(WQ l1 l2)),(9,(.sla 0 4 0 v9.length (.un 4))),(10,(.dat v10.length (Zz v10))),(11,(ii v11)),(12,(ii v12)),(15,(.dat v15.length (Zz v15))),(17,(ii v17))],Xt [⟨rows v9.length (Zz v9),168,some ⟨4,v9.length,(Zz v9)⟩⟩] 0,1,[],true⟩,[],.leaf⟩
 | .h3 v9 v10 v11 v12 v16=>⟨⟨121,0,true⟩,none,(Zf prog 149 [1,1,1,1,1,0,1,0,0,1,0,0,1,1,1,0,1,0,0,1,0,0] 0),none,(Zy prog 7),⟨Ye [(0,(ii x0)),(1,(.dat l1.length (Zz l1))),(2,(.dat l2.length (Zz l2))),(7,(WP l1 l2)),(8,(WQ l1 l2)),(9,(.sla 0 4 0 v9.length (.un 4))),(10,(.dat v10.length (Zz v10))),(11,(ii v11)),(12,(ii v12)),(16,(ii v16))],Xt [⟨rows v9.length (Zz v9),168,some ⟨4,v9.length,(Zz v9)⟩⟩] 0,1,[],true⟩,[],.leaf⟩
def j0x :List (Option (List Nat)):=[some [0,1,2,7,8,9,10,11,12]]
def j0z :List (Option (List Nat)):=[]
def J7 :List (Option (List Nat)):=[some [0,1,2,7,8,9,10,11,12,13,14]]
def J9 :List (Option (List Nat)):=[]
def j0w :List (Option (List Nat)):=[some [0,1,2,7,8,9,10,11,12,15,17]]
def j0y :List (Option (List Nat)):=[]
def J6 :List (Option (List Nat)):=[some [0,1,2,7,8,9,10,11,12,16]]
def J8 :List (Option (List Nat)):=[]
def Uw (x0:Int) (l1:List R4) (l2:List R4):Hc->Xu Hc
 | .h0 v9 v10 v11 v12=>(bif (decide ((wrap .i64 (v12+1))<(((CK (B2 l1) (B2 l2)).length :Nat):Int))) then (.to (.h1 v9 v10 v11 v12 ([]:List Bool) 0)) else (.ret [(.dat v9.length (Zz v9))]))
 | .h1 v9 v10 v11 v12 v13 v14=>(bif (decide (v14<(((CV (B2 l1) (B2 l2)).length :Nat):Int))) then (bif (P0 (B2 l1) (rd (CK (B2 l1) (B2 l2)) v12.toNat) (rd (CV (B2 l1) (B2 l2)) v14.toNat)) then (bif ((decide (0<=v12/\v12<(((CK (B2 l1) (B2 l2)).length :Nat):Int)))&&true) then (bif ((decide (0<=v14/\v14<(((CV (B2 l1) (B2 l2)).length :Nat):Int)))&&true) then (bif (P0 (B2 l2) (rd (CK (B2 l1) (B2 l2)) v12.toNat) (rd (CV (B2 l1) (B2 l2)) v14.toNat)) then (bif (Nat.beq 1 1&&((decide (0+v13.length=v13.length))&&decide ((v13.length+1+1)*(1+1)<=Vd))) then (.to (.h1 v9 v10 v11 v12 (v13++[(Lk x0 (E1 (B2 l1) (rd (CK (B2 l1) (B2 l2)) v12.toNat) (rd (CV (B2 l1) (B2 l2)) v14.toNat)) (E1 (B2 l2) (rd (CK (B2 l1) (B2 l2)) v12.toNat) (rd (CV (B2 l1) (B2 l2)) v14.toNat)))]) (wrap .i64 (v14+1)))) else .stuck) else .stuck) else .stuck) else .stuck) else .stuck) else (bif (V7 (B2 (CV (B2 l1) (B2 l2))) (B2 v13)) then (bif (decide (v12>0)) then (bif (Kz (B2 (Cu (B2 (CV (B2 l1) (B2 l2))) (B2 v13))) (B2 v10)) then (bif (EW (B2 (Cu (B2 (CV (B2 l1) (B2 l2))) (B2 v13))) (B2 v10)) then (.to (.h3 v9 v10 v11 v12 v11)) else (.to (.h2 v9 (Cu (B2 (CV (B2 l1) (B2 l2))) (B2 v13)) (v9.length:Int) v12 (Cu (B2 (CV (B2 l1) (B2 l2))) (B2 v13)) 0))) else .stuck) else (.to (.h2 v9 (Cu (B2 (CV (B2 l1) (B2 l2))) (B2 v13)) (v9.length:Int) v12 (Cu (B2 (CV (B2 l1) (B2 l2))) (B2 v13)) 0))) else .stuck))
 | .h2 v9 v10 v11 v12 v15 v17=>(bif (decide (v17<(v15.length:Int))) then (bif ((decide (0<=v12/\v12<(((CK (B2 l1) (B2 l2)).length :Nat):Int)))&&true) then (bif ((decide (0<=(wrap .i64 (v12+1))/\(wrap .i64 (v12+1))<(((CK (B2 l1) (B2 l2)).length :Nat):Int)))&&true) then (bif ((decide (0<=v17/\v17<(v15.length:Int)))&&true) then (bif (Nat.beq 4 4&&((decide (0+v9.length=v9.length))&&decide ((v9.length+1+1)*(32+1)<=Vd))) then (.to (.h2 (v9++[(R4.mk (rd (CK (B2 l1) (B2 l2)) v12.toNat) (rd v15 v17.toNat).a (rd (CK (B2 l1) (B2 l2)) (Int.toNat (wrap .i64 (v12+1)))) (rd v15 v17.toNat).b)]) v10 v11 v12 v15 (wrap .i64 (v17+1)))) else .stuck) else .stuck) else .stuck) else .stuck) else (.to (.h0 v9 v10 v11 (wrap .i64 (v12+1)))))
 | .h3 v9 v10 v11 v12 v16=>(bif (decide (v16<(v9.length:Int))) then (bif ((decide (0<=(wrap .i64 (v12+1))/\(wrap .i64 (v12+1))<(((CK (B2 l1) (B2 l2)).length :Nat):Int)))&&true) then (bif ((decide (0<=v16/\v16<(v9.length:Int)))&&true) then (bif (decide ((0+v16.toNat)<v9.length)) then (.to (.h3 (v9.set (0+v16.toNat) (R4.mk (rd v9 (0+v16.toNat)).a (rd v9 (0+v16.toNat)).b (rd (CK (B2 l1) (B2 l2)) (Int.toNat (wrap .i64 (v12+1)))) (rd v9 (0+v16.toNat)).d)) v10 v11 v12 (wrap .i64 (v16+1)))) else .stuck) else .stuck) else .stuck) else (.to (.h0 v9 v10 v11 (wrap .i64 (v12+1)))))
def VN (x0:Int) (l1:List R4) (l2:List R4):Xu Hc:=(bif (V4 (B2 l1) (B2 l2)) then (bif (V5 (B2 l1) (B2 l2)) then (.to (.h0 ([]:List R4) ([]:List R2) 0 0)) else .stuck) else .stuck)
theorem w8o (x0:Int) (l1:List R4) (l2:List R4): ∀s,Wj prog (Zy prog 149) (M7 x0 l1 l2) (M7 x0 l1 l2 s) (Uw x0 l1 l2 s)
 | .h0 v9 v10 v11 v12=>(lb (fun k0=>(sl Eo 24 [(4,1,Zz ([]:List Bool))] ⟨[1,0],[],J7,J9⟩ ⟨[(13,.grow 0 1)],[],[]⟩ [true] (pp (fl ([]:List Bool) (fl v9 nn)) (tt k0 nn)))) (fun k0=>(lr 121 3 [1,1,1,1,1,1,0] 1 7 [(6,(.dat v9.length (Zz v9)))] (sl Eo 16 [] ⟨[],[0],[some [6]],[]⟩ ⟨[(6,.frz v9.length v9.length (Zz v9) (Zz v9))],[],[]⟩ [false] (pp (xZ (DU 4 4 0 v9.length v9.length (Zz v9)) v9.length (Zz v9)) (pp (xL v9.length v9.length) (pp (xS v9.length (Zz v9) (Zz v9)) (pp (fl v9 nn) (tt k0 nn)))))))))
 | .h1 v9 v10 v11 v12 v13 v14=>(lb (fun k0=>(lo fun o0=>(lo fun o1=>(lo fun o2=>(lo fun o3=>(lo fun o4=>let a:=v13++[(QW x0 l1 l2 v12 v14)];let b:=xL (v13.length+1) (v13++[(QW x0 l1 l2 v12 v14)]).length;(sl Eo 20 [] ⟨[3,1],[],J7,J9⟩ ⟨[(13,.len a.length)],[.rowed 1 a.length (Zz a),.keep],[]⟩ [true] (pp b (pp b (pp (xS (v13.length+1) (Zo (Zz v13) 0 v13.length 1 [(.bool (QW x0 l1 l2 v12 v14))]) (Zz (v13++[(QW x0 l1 l2 v12 v14)]))) (pp (pp (xF (Zo (Zz v13) 0 v13.length 1 [(.bool (QW x0 l1 l2 v12 v14))])) (fl v9 nn)) (ww o4 (pp (pp (xr l2) (xw o3)) (ww o2 (ww o1 (pp (pp (xr l1) (xw o0)) (ww o2 (ww o1 (tt k0 nn))))))))))))))))))) (fun k0=>let d:=CK (B2 l1) (B2 l2);let f:=Zz (Je l1 l2);(Wk (sl Eo (C':=⟨⟨121,0,true⟩,(CU prog 149 [1,1,1,1,1,0,1,0,0,1,0,0,1,1,0] 2),(Zf prog 149 [1,1,1,1,1,0,1,0,0,1,0,0,1,1,0] 1),none,(Zy prog 7),⟨Ye [(0,(ii x0)),(1,(.dat l1.length (Zz l1))),(2,(.dat l2.length (Zz l2))),(7,(.dat d.length (Zz d))),(8,(.dat (Je l1 l2).length f)),(9,(.sla 0 4 0 v9.length (.un 4))),(10,(.dat v10.length (Zz v10))),(11,(ii v11)),(12,(ii v12)),(62,(.dat (Je l1 l2).length f)),(63,(.dat v13.length (Zz v13)))],Xt [⟨rows v9.length (Zz v9),168,some ⟨4,v9.length,(Zz v9)⟩⟩] 0,1,[],true⟩,[],.leaf⟩) 14 [] ⟨[1],[0],[some [0,1,2,7,8,9,10,11,12,62,63]],[]⟩ ⟨[(63,.frz v13.length v13.length (Zz v13) (Zz v13))],[],[]⟩ [false] (pp (xZ (DU 1 1 0 v13.length v13.length (Zz v13)) v13.length (Zz v13)) (pp (xL v13.length v13.length) (pp (xS v13.length (Zz v13) (Zz v13)) (pp (fl v9 nn) (pp (fl v13 nn) (tt k0 nn))))))) (lo fun aG=>let c:=pp (xr v13) (xw aG);(lb (fun k1=>(lo fun bH=>let e:=pp (xr v10) (xw bH);(lb (fun k2=>(sl Eo 23 [] ⟨[0],[],J6,J8⟩ b7 (CA 4 []) (pp (fl v9 nn) (tt k2 (pp (pp (xI R2 (Cu (B2 (Je l1 l2)) (B2 v13)).length (Zz (Cu (B2 (Je l1 l2)) (B2 v13)))) e) (tt k1 (pp (pp (xI Int (Je l1 l2).length (Zz (Je l1 l2))) c) nn))))))) (fun k2=>(sl Eo 30 [] ⟨[0],[],j0w,j0y⟩ b7 (CA 3 [false]) (pp (fl v9 nn) (tt k2 (pp (pp (xI R2 (Cu (B2 (Je l1 l2)) (B2 v13)).length (Zz (Cu (B2 (Je l1 l2)) (B2 v13)))) e) (tt k1 (pp (pp (xI Int (Je l1 l2).length (Zz (Je l1 l2))) c) nn)))))))))) (fun k1=>(sl Eo 30 [] ⟨[0],[],j0w,j0y⟩ b7 (bl 4 0) (pp (fl v9 nn) (tt k1 (pp (pp (xI Int (Je l1 l2).length (Zz (Je l1 l2))) c) nn))))))))))
 | .h2 v9 v10 v11 v12 v15 v17=>(lb (fun k0=>(lo fun o0=>(lo fun o1=>(lo fun o2=>(lo fun o3=>let c:=xL (v9.length+1) (ZZ v9 l1 l2 v12 v15 v17).length;let d:=ZZ v9 l1 l2 v12 v15 v17;(sl Eo 20 [] ⟨[2],[],j0w,j0y⟩ ⟨[(9,.len d.length)],[.rowed 4 d.length (Zz d)],[]⟩ [true] (pp c (pp c (pp (xS (v9.length+1) (Zo (Zz v9) 0 v9.length 4 [(ii (rd (CK (B2 l1) (B2 l2)) (tn v12))),(ii (rd v15 (tn v17)).a),(ii (rd (CK (B2 l1) (B2 l2)) (tn (wr (v12+1))))),(ii (rd v15 (tn v17)).b)]) (Zz (ZZ v9 l1 l2 v12 v15 v17))) (pp (pp (xF (Zo (Zz v9) 0 v9.length 4 [(ii (rd (CK (B2 l1) (B2 l2)) (tn v12))),(ii (rd v15 (tn v17)).a),(ii (rd (CK (B2 l1) (B2 l2)) (tn (wr (v12+1))))),(ii (rd v15 (tn v17)).b)])) nn) (ww o3 (ww o2 (ww o1 (ww o2 (ww o0 (tt k0 nn)))))))))))))))) (fun k0=>(sl Eo 17 [] ⟨[0],[],j0x,j0z⟩ b7 [false] (pp (fl v9 nn) (tt k0 nn)))))
 | .h3 v9 v10 v11 v12 v16=>(lb (fun k0=>(lo fun o0=>(lo fun o1=>(lo fun o2=>let a:=xL v9.length (ZY v9 v16 l1 l2 v12).length;let b:=ZY v9 v16 l1 l2 v12;(sl Eo 31 [] ⟨[0],[],J6,J8⟩ ⟨[(9,.len b.length)],[.rowed 4 b.length (Zz b)],[]⟩ [true] (pp a (pp a (pp (xS v9.length (Xw (Zz v9) (0+(tn v16)) 2 [(ii (rd (CK (B2 l1) (B2 l2)) (tn (wr (v12+1)))))]) (Zz (ZY v9 v16 l1 l2 v12))) (pp (pp (xF (Xw (Zz v9) (0+(tn v16)) 2 [(ii (rd (CK (B2 l1) (B2 l2)) (tn (wr (v12+1)))))])) nn) (ww o2 (ww o1 (ww o0 (tt k0 nn))))))))))))) (fun k0=>(sl Eo 17 [] ⟨[0],[],j0x,j0z⟩ b7 [false] (pp (fl v9 nn) (tt k0 nn)))))
theorem w0h (x0:Int) (l1:List R4) (l2:List R4):Wj prog (Zy prog 149) (M7 x0 l1 l2) (Zg prog 149 [(.int .i64 x0),(.dat l1.length (Zz l1)),(.dat l2.length (Zz l2))] true []) (VN x0 l1 l2):=(lo fun o0=>(lo fun o1=>(sl Eo 34 [(168,4,Zz ([]:List R4))] ⟨[0],[],j0x,j0z⟩ ⟨[(9,.grow 0 4),(10,.list 0 (Zz ([]:List R2)))],[],[]⟩ [] (pp (fl ([]:List R4) nn) (pp (pp (xr l1) (pp (xr l2) (xw o1))) (pp (pp (xr l1) (pp (xr l2) (xw o0))) nn))))))
theorem u0v (x0:Int) (l1:List R4) (l2:List R4) (n:Nat) (vs:List B1) (h:Yw (Uw x0 l1 l2) n (VN x0 l1 l2)=.ret vs):Js prog (Zy prog 149) (Zg prog 149 [(.int .i64 x0),(.dat l1.length (Zz l1)),(.dat l2.length (Zz l2))] true []) vs:=by have:=Ze (w8o x0 l1 l2) n _ (w0h x0 l1 l2);rwa [h] at this
theorem z3l : ∀(l out:List Int),(l.foldl D2 out).length <=out.length+l.length
 | [],out=>Ak _
 | x::l,out=>AK (z3l l (D2 out x)) (by have:=y7o out x;simp;omega)
theorem YB (l:List Int):(Cc l).length <=l.length:=by
 grind [z3l,Cc]
theorem y8q (cuts:List Int) (ins:List Bool): ∀(k i:Nat) (out:List R2),(F6 cuts ins k i out).length <=out.length+k
 | 0,_,out=>Ak _
 | k+1,i,out=>by
  unfold F6;refine AK (y8q cuts ins k (i+1) _) ?_;cases rd ins i
  .simp only [Ab];omega
  .simp only [Af];cases (decide (0<out.length)&&((rd out (out.length - 1)).b == rd cuts i)) <;> simp <;> omega
theorem w3o (cuts:List Int) (ins:List Bool):(Cu cuts ins).length <=cuts.length:=by
 grind [y8q,Cu]
section
variable (kind:Int) (l m:List R4)
def HS (x:Int) (y:Int):Bool:=Lk kind (E1 l x y) (E1 m x y)
def Ec (x:Int):List R2:=Cu (CV l m) ((CV l m).map (HS kind l m x))
def Ga (out:List R4) (first:Nat) (x:Int):List R4:=out.take first++(out.drop first).map fun r=>⟨r.a,r.b,x,r.d⟩
def Nh (x x':Int) (s:List R2):List R4:=s.map fun p=>⟨x,p.a,x',p.b⟩
def jF :Nat->Nat->List R4->List R2->Nat->List R4
 | 0,_,out,_,_=>out
 | k+1,i,out,last,first=>
  bif decide (0<i)&&EW (Ec kind l m (rd (CK l m) i)) last then jF k (i+1) (Ga out first (rd (CK l m) (i+1))) last first
  else jF k (i+1) (out++Nh (rd (CK l m) i) (rd (CK l m) (i+1)) (Ec kind l m (rd (CK l m) i))) (Ec kind l m (rd (CK l m) i)) out.length
def Ck :List R4:=jF kind l m ((CK l m).length - 1) 0 [] [] 0
end
def I2 (_:Int) (l m:List R4):Bool:=decide (l.length<=10000/\m.length<=10000)
theorem Qk (l m:List R4):(CK l m).length <=2*l.length+2*m.length:=by
 refine AK (YB _) ?_
 grind [YF]
theorem x0k (l m:List R4):(CV l m).length <=2*l.length+2*m.length:=by
 refine AK (YB _) ?_
 grind [YG]
section
variable (kind:Int) (l m:List R4) (hl:l.length<=10000) (hm:m.length<=10000)
include hl hm
theorem u6q (out:List R4) (last:List R2) (first:Int) (i:Nat) (hi:i+1<(CK l m).length): ∀(k j:Nat) (acc:List Bool),j+k=(CV l m).length ->acc.length=j->
  ∃n,∀N,Yw (Uw kind l m) (N+n) (.to (.h1 out last first (i:Int) acc (j:Int)))=Yw (Uw kind l m) N (.to (.h1 out last first (i:Int) (acc++((CV l m).drop j).map (HS kind l m (rd (CK l m) i))) ((CV l m).length :Int)))
 | 0,j,acc,h,ha=>by
  refine ⟨0,fun N=> ?_⟩
  grind
 | k+1,j,acc,h,ha=>by
  have hx:=Qk l m;have hy:=x0k l m;obtain ⟨n,hn⟩:=u6q out last first i hi k (j+1) (acc++[HS kind l m (rd (CK l m) i) (rd (CV l m) j)]) (by omega) (by simp [ha])
  refine ⟨n+1,fun N=> ?_⟩;have w1: ∀x y,P0 l x y=true:=fun x y=>Aa (by omega);have w2: ∀x y,P0 m x y=true:=fun x y=>Aa (by omega);rw [Xj (show j<(CV l m).length by omega),A2,<-AM,Zw];simp (disch:=omega) only [Uw,Yg,Zt,w1,w2,Yb,Ym,Xn,Xo,Yf,Zm,Zk,Xs,Zj,Al,AA,Ap,Aq,Af];have:=hn N;rw [AH] at this;exact this
theorem u6p (last:List R2) (first:Int) (i:Nat) (hi:i+1<(CK l m).length) (s:List R2) (hs:s.length<=1000000): ∀(k j:Nat) (out:List R4),j+k=s.length->out.length<=10000000000+j->
  ∃n,∀N,Yw (Uw kind l m) (N+n) (.to (.h2 out last first (i:Int) s (j:Int)))=Yw (Uw kind l m) N (.to (.h0 (out++Nh (rd (CK l m) i) (rd (CK l m) (i+1)) (s.drop j)) last first ((i+1:Nat):Int)))
 | 0,j,out,h,ho=>by
  have hx:=Qk l m;refine ⟨1,fun N=> ?_⟩
  grind [Zw,Uw,Zm,Nh]
 | k+1,j,out,h,ho=>by
  have hx:=Qk l m;obtain ⟨n,hn⟩:=u6p last first i hi s hs k (j+1) (out++Nh (rd (CK l m) i) (rd (CK l m) (i+1)) [rd s j]) (by omega) (by simp [Nh];omega)
  refine ⟨n+1,fun N=> ?_⟩;have:=hn N;rw [Xj (show j<s.length by omega),<-AM,Zw];simp (disch:=omega) only [Uw,Yg,Zt,Yb,Ym,Xn,Xo,Yf,Zm,Zk,Xs,Zj,Al,AA,Ap,Aq,Af];rw [AH] at this;exact this
theorem u4h (out:List R4) (j:Nat) (x:Int) (h:j<out.length):Ga (out.set j ⟨(rd out j).a,(rd out j).b,x,(rd out j).d⟩) (j+1) x=Ga out j x:=by
 have _uhl:=hl;have _uhm:=hm;unfold Ga;rw [Xj h,A2];have e1:(out.set j ⟨(rd out j).a,(rd out j).b,x,(rd out j).d⟩).take (j+1)=out.take j++[⟨(rd out j).a,(rd out j).b,x,(rd out j).d⟩]:=by
  apply Bp;all_goals grind
 have e2:(out.set j ⟨(rd out j).a,(rd out j).b,x,(rd out j).d⟩).drop (j+1)=out.drop (j+1):=by rw [List.drop_set];grind
 grind
theorem u6o (last:List R2) (first:Int) (i:Nat) (hi:i+1<(CK l m).length): ∀(k j:Nat) (out:List R4),j+k=out.length->out.length<=10000000000->
  ∃n,∀N,Yw (Uw kind l m) (N+n) (.to (.h3 out last first (i:Int) (j:Int)))=Yw (Uw kind l m) N (.to (.h0 (Ga out j (rd (CK l m) (i+1))) last first ((i+1:Nat):Int)))
 | 0,j,out,h,ho=>by
  have hx:=Qk l m;refine ⟨1,fun N=> ?_⟩;have e:Ga out j (rd (CK l m) (i+1))=out:=by
   grind [Ga]
  grind [Zw,Uw,Zm]
 | k+1,j,out,h,ho=>by
  have hx:=Qk l m;obtain ⟨n,hn⟩:=u6o last first i hi k (j+1) (out.set j ⟨(rd out j).a,(rd out j).b,rd (CK l m) (i+1),(rd out j).d⟩) (by simp;omega) (by grind)
  refine ⟨n+1,fun N=> ?_⟩;have:=hn N;rw [u4h l m hl hm out j _ (by omega)] at this;rw [<-AM,Zw];simp (disch:=omega) only [Uw,Yg,Zt,Yb,Ym,Xe,Xn,Xo,Yf,Zm,Zk,Xs,Zj,Al,AA,Ap,Aq,Af];exact this
theorem v4b : ∀(k i:Nat) (out:List R4) (last:List R2) (first:Nat),k=(CK l m).length - 1 - i->i<=(CK l m).length ->out.length<=i*40000->last.length<=40000->first<=out.length->
  ∃n,Yw (Uw kind l m) n (.to (.h0 out last (first:Int) (i:Int)))=.ret [.dat (jF kind l m k i out last first).length (Zz (jF kind l m k i out last first))]
 | 0,i,out,last,first,h,hi,ho,hla,hf=>by
  have hx:=Qk l m;refine ⟨1,?_⟩
  grind [Zw,Uw,Yg,Zm,Zh,jF]
 | k+1,i,out,last,first,h,hi,ho,hla,hf=>by
  have hx:=Qk l m;have hy:=x0k l m;have hi1:i+1<(CK l m).length :=by omega
  have hsl:(Ec kind l m (rd (CK l m) i)).length <=40000:=AK (w3o _ _) (by omega);have hbig:i*40000<=40000*40000:=AE _ (by omega);obtain ⟨n1,h1⟩:=u6q kind l m hl hm out last first i hi1 (CV l m).length 0 [] (Al _) rfl
  simp only [AQ,A6,HI] at h1;have w3:V7 (CV l m) ((CV l m).map (HS kind l m (rd (CK l m) i)))=true:=Aa ⟨by omega,by grind⟩;have w4:Kz (Cu (CV l m) ((CV l m).map (HS kind l m (rd (CK l m) i)))) last=true:=Aa (AK hsl (by omega));have hy2:((CV l m).length :Int)=(((CV l m).length :Nat):Int):=rfl;unfold jF;rcases Vo (decide (0<i)&&EW (Ec kind l m (rd (CK l m) i)) last) with q | q
  .obtain ⟨n3,h3⟩:=u6o kind l m hl hm last first i hi1 (out.length - first) first out (by omega) (by omega)
   obtain ⟨n0,h0⟩:=v4b k (i+1) (Ga out first (rd (CK l m) (i+1))) last first (by omega) (by omega) (by simp [Ga];omega) hla (by simp [Ga];omega)
   refine ⟨n0+n3+1+n1+1,?_⟩;rw [q,Af,Zw];simp only [Ad,An] at q;have q2:EW (Cu (CV l m) ((CV l m).map (HS kind l m (rd (CK l m) i)))) last=true:=q.2;simp (disch:=omega) only [Uw,Yg,Zt,Yb,Zm,Zk,Af];simp_all [Zw,Uw,Yg]
  .obtain ⟨n2,h2⟩:=u6p kind l m hl hm (Ec kind l m (rd (CK l m) i)) (out.length:Int) i hi1 (Ec kind l m (rd (CK l m) i)) (by omega) (Ec kind l m (rd (CK l m) i)).length 0 out (Al _) (by omega);obtain ⟨n0,h0⟩:=v4b k (i+1) (out++Nh (rd (CK l m) i) (rd (CK l m) (i+1)) (Ec kind l m (rd (CK l m) i))) (Ec kind l m (rd (CK l m) i)) out.length (by omega) (by omega) (by simp [Nh];omega) hsl (by simp);refine ⟨n0+n2+1+n1+1,?_⟩;rw [q,Ab,Zw];simp (disch:=omega) only [Uw,Yg,Zt,Yb,Zm,Zk,Af];have h1':=h1 (n0+n2+1);rw [h1',Zw];have h2':=h2 n0;simp only [AQ,HI] at h2';by_cases hi0:0<i
   .rw [Aa hi0,Aq] at q;have q2:EW (Cu (CV l m) ((CV l m).map (HS kind l m (rd (CK l m) i)))) last=false:=q;simp (disch:=omega) only [Uw,Yg,Zt,Xz,Xv,q2,w3,w4,Af,Ab];rw [<-h0];exact h2'
   .simp (disch:=omega) only [Uw,Yg,Zt,Xz,Wz,w3,w4,Af,Ab];rw [<-h0];exact h2'
end
theorem j0v (kind:Int) (l m:List R4) (h:I2 kind l m=true): ∃N,Yw (Uw kind l m) N (VN kind l m)=.ret [.dat (Ck kind l m).length (Zz (Ck kind l m))]:=by obtain ⟨hl,hm⟩:=Av h;obtain ⟨N,hN⟩:=v4b kind l m hl hm ((CK l m).length - 1) 0 [] [] 0 rfl (AG _) (AG _) (AG _) (Ak _);refine ⟨N,?_⟩;have w1:V4 l m=true:=Aa ⟨hl,hm⟩;have w2:V5 l m=true:=Aa ⟨hl,hm⟩;simp only [VN,Yg,Zt,w1,w2,Af];exact hN
theorem GO {P:Program} {S:B3} (hS:Zv P S) {f:FuncId} {F:List B1->Option (B1×Bool)} (hf:(P.funcs[f]?).any (fun fn=>fn.body.isSome)=true)
  (hF: ∀args v,F args=some (v,true)-> ∃bs vs,Vn DJ args bs/\(∀(ρ:B5) (u:Value),Zr ρ (Jn vs) u->Zr ρ v u)/\Js P (Zy P f) (Zg P f bs true []) vs/\ ∃d,pf d (Jn vs)=true):Zv P (S.with f F):=
 x0p hS hf fun args v h=>by obtain ⟨bs,vs,h1,h2,h3,d,h4⟩:=hF args v h;exact ⟨vs,h2,Y5 h1 h3,d,h4⟩
theorem Gk {cs cs':List B1} (h:Ch cs cs') (ρ:B5) (u:Value) (hv:Zr ρ (.tup cs) u):Zr ρ (.tup cs') u:=by
 cases hv with
 | tup _ vs hl hh=>exact .tup cs' vs (by rw [<-h.len];exact hl) fun i h1 h2=>h.sound i (by rw [h.len];exact h1) h1 (hh i (by rw [h.len];exact h1) h2)
theorem Gr (α:Type) [Xk α]:DJ .nils (.dat ([]:List α).length (Zz ([]:List α))):=.nild _
def fJo :List B1->Option (B1×Bool)
 | [.int .i64 x0,a1,a2]=>match C7 R4 a1,C7 R4 a2 with
  | some (L1,g1,n1),some (L2,g2,n2)=>some (.dat (Ck x0 L1 L2).length (Zz (Ck x0 L1 L2)),CQ R4 n1 g1&&(CQ R4 n2 g2&&(I2 x0 L1 L2)))
  | _,_=>none
 | _=>none
theorem OY {S:B3} (hS:Zv prog S):Zv prog (S.with u7p fJo):=by
 refine CP hS (by kernel_rfl) fun args v h=> ?_;unfold fJo at h;split at h
 .rename_i x0 a1 a2;split at h
  .rename_i L1 g1 n1 L2 g2 n2 e1 e2;simp only [Ae,Ac,Ad] at h;obtain ⟨rfl,ho1,ho2,hw⟩:=h;obtain ⟨N,hN⟩:=j0v x0 L1 L2 hw;exact ⟨_,_,(.cons (.refl _) (.cons (Xf e1 ho1) (.cons (Xf e2 ho2) .nil))),rfl,u0v x0 L1 L2 N _ hN,3,rfl⟩
  .cases h
 .cases h
def T3 :B3:=T2.with u7p fJo
theorem Ep :Zv prog T3:=OY Eo
def On (r:R3):Bool:=decide (-1000000000<=r.a/\r.a<=1000000000)
def Dl (l:List R3):Bool:=l.all On
abbrev E3 :={r:R3 // On r=true}
instance : Inhabited E3:=⟨⟨⟨0,0,0⟩,rfl⟩⟩
def Ol (x y:E3):Int:=x.1.a - y.1.a
def Hq (x y:E3):Bool:=decide (Ol x y<0)
theorem SU :SWO Hq where
 irrefl x:=by unfold Hq Ol;simp
 trans x y z h1 h2:=by unfold Hq Ol at*;simp at*;omega
 ntrans x y z h1 h2:=by unfold Hq Ol at*;simp at*;omega
def Dk :(l:List R3)->Dl l=true->List E3
 | [],_=>[]
 | r::l,h=>⟨r,by simp [Dl] at h;exact h.1⟩::Dk l (by simp [Dl] at h ⊢;exact h.2)
theorem U7 : ∀(l:List R3) (h:Dl l=true),(Dk l h).map Subtype.val=l
 | [],_=>rfl
 | r::l,h=>by rw [Dk,A2,U7 l]
theorem Qc (l:List R3) (h:Dl l=true):(Dk l h).length =l.length:=by
 have:=At List.length (U7 l h)
 simpa using this
def Cs (l:List R3):List R3:=if h:Dl l=true then (pdq Hq (Dk l h).toArray 0 l.length (Lib.bitLen l.length) true true).toList.map Subtype.val else l
theorem PY (l:List R3) (h:Dl l=true):(Cs l).Perm l/\ ∀i j,i<j->j<(Cs l).length ->(rd (Cs l) i).a <=(rd (Cs l) j).a :=by
 have hp:=pdq_sorts Hq SU (Dk l h).toArray 0 l.length (Lib.bitLen l.length) true true (AG _) (by simp [Qc]) (Or.inl rfl);obtain ⟨⟨h1,h2,h3⟩,h4⟩:=hp;have e:Cs l=(pdq Hq (Dk l h).toArray 0 l.length (Lib.bitLen l.length) true true).toList.map Subtype.val:=by unfold Cs;rw [dif_pos h]
 generalize pdq Hq (Dk l h).toArray 0 l.length (Lib.bitLen l.length) true true=d at*;have hs:d.size=l.length:=by rw [h1];simp [Qc]
 constructor
 .rw [e];have x1:(d.extract 0 l.length).toList =d.toList:=by rw [<-hs];simp
  have x2:((Dk l h).toArray.extract 0 l.length).toList =Dk l h:=by rw [show l.length=(Dk l h).toArray.size by simp [Qc]];simp
  rw [x1,x2] at h3;have:=h3.map Subtype.val;rw [U7] at this;exact this
 .intro i j hij hj;rw [e] at hj ⊢;have hj':j<d.size:=by simpa using hj
  have:=h4 i j (AG _) hij (by omega);rw [getElem!_pos d i (by omega),getElem!_pos d j hj'] at this;rw [Wf (by simp;omega),Wf hj];simp only [BK,Array.getElem_toList];unfold Hq Ol at this;have:=of_decide_eq_false this;omega
open Go.RowKit Go.Shelf
variable {P:Program} {ρ:B5}
def D7 :B1->Value
 | .int k n=>.int k n
 | .bool b=>.bool b
 | _=>.tuple #[]
def MA :B1->Bool
 | .int _ _=>true
 | .bool _=>true
 | _=>false
theorem w1k {α:Type} [Xk α] (L:List α) (n:Nat) (ty:TypeId) (a:Option DP):(⟨Go.Am.rows n (Zz L),ty,a⟩:B6).isObj =false:=x1e (fun k v hv=>Ay.1 (Xk.sc _) v hv) _ _
theorem v2g {a:B1} (h:MA a=true):Zr ρ a (D7 a):=by
 cases a <;> first
  | exact .int _ _
  | exact .bool _
  | (simp [MA] at h;done)
theorem v4f {a:B1} {v:Value} (h:MA a=true) (hv:Zr ρ a v):v=D7 a:=by
 cases hv <;> first
  | rfl
  | (simp [MA] at h;done)
class Ii (α:Type) extends Xk α where
 num: ∀a:α,(cells a).all MA=true
instance : Ii R2 where num _:=rfl
instance : Ii R3 where num _:=rfl
instance : Ii R4 where num _:=rfl
instance : Ii R6 where num _:=rfl
instance {α :Type} [Xk α]:Inhabited α:=⟨Xk.d⟩
section
variable {α:Type} [Ii α]
def Ew (a:α):List Value:=(Xk.cells a).map D7
theorem w3i (a:α):(Ew a).length =Xk.w α:=by rw [Ew,BB,Xk.len]
theorem w6p (L:List α) (t:Nat) (h:t<L.length*Xk.w α):(flatK Ew (Xk.w α) L.toArray)[t]? =(Xk.cells (rd L (t / Xk.w α)))[t %Xk.w α]?.map D7:=by
 have hw:=Xk.pos (α:=α);have hq:t / Xk.w α<L.length:=Bf (by grind);have hj:t %Xk.w α<Xk.w α:=Bv _ hw
 grind [flatK,Ew,Wf,Xk.len]
theorem v3u (L:List α) (N t:Nat) (h:t<N*Xk.w α):(rows N (Zz L))[t]? =(Xk.cells (rd L (t / Xk.w α)))[t %Xk.w α]? :=by have hw:=Xk.pos (α:=α);have:=Vg (get:=Zz L) (sz:=Xk.w α) N (fun _ _=>Xk.len _) (t / Xk.w α) (t %Xk.w α) (Bf (by grind)) (Bv _ hw);rw [show t / Xk.w α*Xk.w α+t %Xk.w α=t by rw [BH];exact Bz t _] at this;exact this
theorem UJ (L:List α) (N:Nat):(rows N (Zz L)).length =N*Xk.w α:=Yq N fun _ _=>Xk.len _
theorem Y9 (w:World) (n blk off:Nat) (d:Array Value) (os:Array Obj) (k:Nat) (hk:k<w.heap.size):
  (grow (putRow id (Go.Sort.ahead w n) blk off d) os).heap[k]? =if k=blk then (w.heap[k]?).map (onCells (putCells id off d)) else w.heap[k]? :=by
 show (((Go.Sort.ahead w n).heap.modify blk (onCells (putCells id off d)))++os)[k]? =_;rw [Array.getElem?_append_left (by simp_all),BE];show (if blk=k then _ else _)=_;by_cases h:k=blk
 .simp_all
 .rw [Az (fun e=>h e.symm),Az h];rfl
def WY (α:Type) [Xk α] (srt:List α->List α) (bnd:List α->Bool) (g:FuncId) (args:List B1) (mem:CC):Option (B1×Nat×B6×Bool):=match args with
 | [.sla b sz off n cap,.fn f []]=>bif Nat.beq f g then match Yi mem b with
  | some ⟨_,ty,some A⟩=>some (.tup [],b,⟨rows A.n (Zz (srt (Cd α n A.get))),ty,some ⟨Xk.w α,A.n,Zz (srt (Cd α n A.get))⟩⟩,
    Nat.beq sz (Xk.w α)&&(Nat.beq A.sz (Xk.w α)&&(Nat.beq off 0&&((decide (n=A.n)&&(CQ α n A.get&&decide (n<4611686018427387904)))&&bnd (Cd α n A.get)))))
  | _=>none
  else none
 | _=>none
theorem v7j {f g:FuncId} {srt:List α->List α} {bnd:List α->Bool} (hsl: ∀L,(srt L).length =L.length)
  (hC: ∀(blk off cap:Nat) (L:List α) (w:World),bnd L=true->HoldsK Ew (Xk.w α) w blk off L.toArray->blk<w.heap.size->L.length<4611686018427387904->
   Calls P f #[.slice (some ⟨blk,off,none⟩) L.length cap,.func (.func g) #[] #[]] w fun e w'=>e=.returned (.tuple #[])/\ ∃n os,w'=sortWorldK Ew (Xk.w α) w blk off n (srt L).toArray os)
  (hN: ∀(p:Option Addr) (cap:Nat) (fv:Value) (w:World),Calls P f #[.slice p 0 cap,fv] w fun e w'=>e=.returned (.tuple #[])/\w'=w):G7 P f (WY α srt bnd g):=by
 intro args mem v b blk h gI ρ next floor vals w hfl eL eJ
 have hw0:=Xk.pos (α:=α);unfold WY at h;split at h
 .rename_i b0 sz off n cap f0;obtain ⟨hfg,h'⟩:=Qo h;clear h;obtain rfl:=Ai hfg;have h:=h';clear h';split at h
  .rename_i cells ty A hm;obtain ⟨asz,an,get⟩:=A;simp only [Ae,Ac,Ad] at h;obtain ⟨rfl,rfl,rfl,h1,h2,h3,⟨h4,h5,h6⟩,h7⟩:=h;have g1:=Ai h1;have g2:=Ai h2;have g3:=Ai h3;have g4:n=an:=Av h4;have h6:n<4611686018427387904:=Av h6;have g2:asz=Xk.w α:=g2;subst g1;subst g2;subst g3;subst g4;have h7:bnd (Cd α n get.get)=true:=h7;have eQ:=w6e h5;have eQ: ∀i,i<n->get.get i=Zz (Cd α n get.get) i:=eQ;have hrows:rows n get.get=rows n (Zz (Cd α n get.get)):=Z2 n eQ;obtain ⟨u,hu,fM⟩: ∃u,Zr ρ (.sla b0 (Xk.w α) 0 n cap) u/\vals= #[u,.func (.func f0) #[] #[]]:=by
    obtain ⟨vl⟩:=vals;cases eL with
    | cons q1 q2=>cases q2 with
     | cons q3 q4=>
      cases q4;cases q3 with
      | fn _ _ cvs hl _=>
       grind
   subst fM;have hlt:b0<next:=by
    rcases A9 b0 next with q | q
    .exact q
    .have:=eJ.bd b0 q;grind
   show Calls P f _ w _;have hAget:(DP.get ⟨Xk.w α,n,get⟩)=get.get:=rfl;rw [hAget] at*;generalize hI:Cd α n get.get=I at*;have hIl:I.length=n:=by rw [<-hI];exact x1g _ _
   generalize hL:srt I=L;have hLl:L.length=n:=by grind
   have hnn:ρ b0=none-> ∀cs ty',Yi mem b0≠some ⟨cs,ty',none⟩:=fun _ cs ty' e=>by grind
   cases hu with
   | sla _ _ _ _ _ l cc e hc eK=>
    have hbk:=(eJ.blk b0 l _ e hm).rows rfl;obtain ⟨har,_,_⟩:=hbk.arr _ rfl;have har:cells=rows n get.get:=har;rw [hrows] at har;subst har;obtain ⟨cur,el,hh,hsz,eO⟩:=hbk.cells;simp only [UJ] at eO;have htot:=hbk.tot;have hln:=hbk.n;simp only [UJ] at hln;have fD: ∀t,t<n*Xk.w α->cur[l.base+t]? =(Xk.cells (rd I (t / Xk.w α)))[t %Xk.w α]?.map D7:=fun t ht=>by
     obtain ⟨v,e1,e2⟩:=eO t ht;have hj:t %Xk.w α<Xk.w α:=Bv _ hw0;have hl2:t %Xk.w α<(Xk.cells (rd I (t / Xk.w α))).length :=by rw [Xk.len];exact hj
     have e3:=v3u I n t ht
     grind [v4f,Ii.num]
    have fP:=eJ.real b0 l e;have hH:HoldsK Ew (Xk.w α) w l.blk (l.base+0*Xk.w α) I.toArray:=fun j hj=>by
     have hj:j<n*Xk.w α:=(by simp_all);have hs:j<(flatK Ew (Xk.w α) I.toArray).size :=(by grind);have e1:=w6p I j (by grind)
     grind [World.cell?,World.frozen?]
    have eX:=hC l.blk (l.base+0*Xk.w α) cc I w h7 hH fP (by omega);rw [hIl,hL] at eX;refine eX.mono fun e' w' ⟨he,q,os,hw'⟩=>⟨_,he,?_,?_,?_⟩
    .exact .tup [] #[] rfl fun i h1 h2=>absurd h1 (AC _)
    .subst hw';refine B7.setArr ?_ ⟨Xk.w α,n,.flat (Zz L)⟩ (w1k _ _ _ _) rfl hw0 fun _ _=>Xk.len _;refine B7.rewritten eJ e hm (by simp only [UJ]) (fun k hk hne=> ?_) ?_ hbk.noObj ?_
     .exact (Y9 _ _ _ _ _ _ _ hk).trans (Az hne)
     .show _<=(((Go.Sort.ahead w q).heap.modify _ _)++os).size;simp_all
     .refine ⟨putCells id (l.base+0*Xk.w α) (flatK Ew (Xk.w α) L.toArray) cur,el,?_,fun _ _ _=>hbk.typ _ _ _ hh,?_,fun i hi=> ?_⟩
      .refine (Y9 _ _ _ _ _ _ _ fP).trans ?_;rw [AF rfl,hh];rfl
      .grind [putCells]
      .rw [UJ] at hi;have hj:i %Xk.w α<Xk.w α:=Bv _ hw0;have hl2:i %Xk.w α<(Xk.cells (rd L (i / Xk.w α))).length :=by rw [Xk.len];exact hj
       have hl3:i %Xk.w α<(Xk.cells (rd I (i / Xk.w α))).length :=(by grind);have e1:=w6p L i (by grind);rw [Ar hl2,BT] at e1;have hs:i<(flatK Ew (Xk.w α) L.toArray).size :=(by grind);rw [BF hs] at e1;have e3:=v3u L n i hi;rw [Ar (by grind),Ar hl2] at e3;refine ⟨D7 (Xk.cells (rd L (i / Xk.w α)))[i %Xk.w α],?_,?_⟩
       .simp_all [putCells]
       grind [v2g,Ii.num]
    .subst hw';refine Ev.rewritten eJ _ (fun l' _=>hfl) hnn (fun k hk hne=> ?_) ?_ rfl rfl rfl
     .exact (Y9 _ _ _ _ _ _ _ hk).trans (Az (hne l e))
     .show _<=(((Go.Sort.ahead w q).heap.modify _ _)++os).size;simp_all
   | slan=>
    have hI0:I=[]:=Bs hIl;have hL0:L=[]:=Bs hLl;refine (hN none 0 _ w).mono fun e' w' ⟨he,hw'⟩=>⟨_,he,?_,?_,?_⟩
    .exact .tup [] #[] rfl fun i h1 h2=>absurd h1 (AC _)
    .subst hw';refine eJ.reblk hm fun l hρ hbk=> ?_;have hbk:=hbk.rows rfl;obtain ⟨har,gD,_⟩:=hbk.arr _ rfl;have har:cells=rows 0 get.get:=har;subst har;exact .plain ⟨hbk.typ,hbk.n,hbk.tot,fun B hB=>by obtain rfl:=Ag hB;exact ⟨rfl,hw0,fun i hi=>absurd hi (AC _)⟩,hbk.cells⟩
    grind [Ev.rewritten]
  .cases h
 .cases h
end
def B3.withE (S:B3) (f:FuncId) (F:List B1->CC->Option (B1×Nat×B6×Bool)):B3:=fun g=>bif Nat.beq g f then some (.eff F) else S g
theorem x2h {P:Program} {S:B3} (hS:Zv P S) {f:FuncId} {F:List B1->CC->Option (B1×Nat×B6×Bool)} (hf:(P.funcs[f]?).any (fun fn=>fn.body.isSome)=true) (hF:G7 P f F):Zv P (S.withE f F):=by
 intro g G hg;unfold B3.withE at hg;cases hgf:Nat.beq g f with
 | false=>rw [hgf] at hg;exact hS g G hg
 | true=>
  rw [hgf] at hg;obtain rfl:N8.eff F=G:=Ag hg;obtain rfl:g=f:=Ai hgf;refine ⟨?_,hF⟩
  grind
end Go.Am
namespace Go.Proofs
open Go.Proofs.Tryz
open Go.Shelf Go.RowKit Go.Lib Go.Sort
theorem Tryz.cmpEnd (a b c a' b' c':Int) (h: -1000000000<=a/\a<=1000000000) (h': -1000000000<=a'/\a'<=1000000000) (W:World):
  Calls prog 245 #[.agg #[.int .i64 a,.int .i64 b,.int .i64 c],.agg #[.int .i64 a',.int .i64 b',.int .i64 c']] W fun e w'=>e=.returned (.int .i64 (a - a'))/\ ∃q os',w'=grow (W.drewN q) os':=by
 go_enter Tryz.func245,Tryz.ntmps245
 go_wp2
 go_ret
 exact ⟨rfl,0,_,by rw [alloc_eq_grow,alloc_eq_grow,grow_grow];rfl⟩
end Go.Proofs
namespace Go.Am
open IntKind (wrap)
open Go.Proofs.Tryz
open Go.Proofs
abbrev WR (l1:List R6) (l2:List R6) (v12:Int):=(rd (Ux (B2 l1) (B2 l2)) (tn v12))
abbrev Z0 (v9:List R6) (v14:Int) (l1:List R6) (l2:List R6) (v12:Int):=(v9.set (0+(tn v14)) (R6.mk (rd v9 (0+(tn v14))).a (rd v9 (0+(tn v14))).b (rd v9 (0+(tn v14))).c (rd v9 (0+(tn v14))).d (rd v9 (0+(tn v14))).e (rd (Ux (B2 l1) (B2 l2)) (tn (wr (v12+1))))))
abbrev Z1 (v9:List R6) (v13:List R4) (v15:Int) (l1:List R6) (l2:List R6) (v12:Int):=(v9++[(R6.mk (rd v13 (tn v15)).a (rd v13 (tn v15)).b (WR l1 l2 v12) (rd v13 (tn v15)).c (rd v13 (tn v15)).d (rd (Ux (B2 l1) (B2 l2)) (tn (wr (v12+1)))))])
abbrev Vy (l1:List R6) (l2:List R6) (v12:Int):=(CM (B2 l1) (WR l1 l2 v12))
abbrev Va (l2:List R6) (l1:List R6) (v12:Int):=(CM (B2 l2) (WR l1 l2 v12))
abbrev v4a (v9:List R6) (v13:List R4) (v15:Int) (l1:List R6) (l2:List R6) (v12:Int):=(Zo (Zz v9) 0 v9.length 6 [(ii (rd v13 (tn v15)).a),(ii (rd v13 (tn v15)).b),(ii (WR l1 l2 v12)),(ii (rd v13 (tn v15)).c),(ii (rd v13 (tn v15)).d),(ii (rd (Ux (B2 l1) (B2 l2)) (tn (wr (v12+1)))))])
def w0g (l1:List R6) (l2:List R6):B1:=(.dat (Ux (B2 l1) (B2 l2)).length (Zz (Ux (B2 l1) (B2 l2))))
inductive Hb where
 | h0 (v9:List R6) (v10:List R4) (v11:Int) (v12:Int)
 | h1 (v9:List R6) (v10:List R4) (v11:Int) (v12:Int) (v13:List R4) (v15:Int)
 | h2 (v9:List R6) (v10:List R4) (v11:Int) (v12:Int) (v14:Int)
def M6 (x0:Int) (l1:List R6) (l2:List R6):Hb->CE
 | .h0 v9 v10 v11 v12=>⟨⟨137,0,true⟩,none,(Zf prog 113 [1,1,1,1,1,0,1,0,0] 0),none,(Zy prog 104),⟨Ye [(0,(ii x0)),(1,(.dat l1.length (Zz l1))),(2,(.dat l2.length (Zz l2))),(8,(w0g l1 l2)),(9,(.sla 0 6 0 v9.length (.un 6))),(10,(.dat v10.length (Zz v10))),(11,(ii v11)),(12,(ii v12))],Xt [⟨rows v9.length (Zz v9),79,some ⟨6,v9.length,(Zz v9)⟩⟩] 0,1,[],true⟩,[],.leaf⟩
 | .h1 v9 v10 v11 v12 v13 v15=>⟨⟨137,0,true⟩,none,(Zf prog 113 [1,1,1,1,1,0,1,0,0,1,0,0,1,1,1,1,1,0,0] 0),none,(Zy prog 104),⟨Ye [(0,(ii x0)),(1,(.dat l1.length (Zz l1))),(2,(.dat l2.length (Zz l2))),(8,(w0g l1 l2)),(9,(.sla 0 6 0 v9.length (.un 6))),(10,(.dat v10.length (Zz v10))),(11,(ii v11)),(12,(ii v12)),(13,(.dat v13.length (Zz v13))),(15,(ii v15))],Xt [⟨rows v9.length (Zz v9),79,some ⟨6,v9.length,(Zz v9)⟩⟩] 0,1,[],true⟩,[],.leaf⟩
 | .h2 v9 v10 v11 v12 v14=>⟨⟨137,0,true⟩,none,(Zf prog 113 [1,1,1,1,1,0,1,0,0,1,0,0,1,1,0,1,0,0,1,0,0] 0),none,(Zy prog 104),⟨Ye [(0,(ii x0)),(1,(.dat l1.length (Zz l1))),(2,(.dat l2.length (Zz l2))),(8,(w0g l1 l2)),(9,(.sla 0 6 0 v9.length (.un 6))),(10,(.dat v10.length (Zz v10))),(11,(ii v11)),(12,(ii v12)),(14,(ii v14))],Xt [⟨rows v9.length (Zz v9),79,some ⟨6,v9.length,(Zz v9)⟩⟩] 0,1,[],true⟩,[],.leaf⟩
def j0s :List (Option (List Nat)):=[some [0,1,2,8,9,10,11,12]]
def j0u :List (Option (List Nat)):=[]
def j0r :List (Option (List Nat)):=[some [0,1,2,8,9,10,11,12,13,15]]
def j0t :List (Option (List Nat)):=[]
def J4 :List (Option (List Nat)):=[some [0,1,2,8,9,10,11,12,14]]
def J5 :List (Option (List Nat)):=[]
def Uf (x0:Int) (l1:List R6) (l2:List R6):Hb->Xu Hb
 | .h0 v9 v10 v11 v12=>(bif (decide ((wrap .i64 (v12+1))<(((Ux (B2 l1) (B2 l2)).length :Nat):Int))) then (bif (PI (B2 l1) (rd (Ux (B2 l1) (B2 l2)) v12.toNat)) then (bif ((decide (0<=v12/\v12<(((Ux (B2 l1) (B2 l2)).length :Nat):Int)))&&true) then (bif (PI (B2 l2) (rd (Ux (B2 l1) (B2 l2)) v12.toNat)) then (bif (I2 x0 (B2 (CM (B2 l1) (rd (Ux (B2 l1) (B2 l2)) v12.toNat))) (B2 (CM (B2 l2) (rd (Ux (B2 l1) (B2 l2)) v12.toNat)))) then (bif (decide ((((Ck x0 (B2 (CM (B2 l1) (rd (Ux (B2 l1) (B2 l2)) v12.toNat))) (B2 (CM (B2 l2) (rd (Ux (B2 l1) (B2 l2)) v12.toNat)))).length :Nat):Int)>400)) then (.ret [.nils,(.bool false)]) else (bif (I2 2 (B2 (CM (B2 l1) (rd (Ux (B2 l1) (B2 l2)) v12.toNat))) ([]:List R4)) then (bif (decide ((((Ck 2 (B2 (CM (B2 l1) (rd (Ux (B2 l1) (B2 l2)) v12.toNat))) ([]:List R4)).length :Nat):Int)>400)) then (.ret [.nils,(.bool false)]) else (bif (I2 2 (B2 (CM (B2 l2) (rd (Ux (B2 l1) (B2 l2)) v12.toNat))) ([]:List R4)) then (bif (decide ((((Ck 2 (B2 (CM (B2 l2) (rd (Ux (B2 l1) (B2 l2)) v12.toNat))) ([]:List R4)).length :Nat):Int)>400)) then (.ret [.nils,(.bool false)]) else (bif (decide (v12>0)) then (bif (Jt (B2 (Ck x0 (B2 (CM (B2 l1) (rd (Ux (B2 l1) (B2 l2)) v12.toNat))) (B2 (CM (B2 l2) (rd (Ux (B2 l1) (B2 l2)) v12.toNat))))) (B2 v10)) then (bif (EX (B2 (Ck x0 (B2 (CM (B2 l1) (rd (Ux (B2 l1) (B2 l2)) v12.toNat))) (B2 (CM (B2 l2) (rd (Ux (B2 l1) (B2 l2)) v12.toNat))))) (B2 v10)) then (.to (.h2 v9 v10 v11 v12 v11)) else (.to (.h1 v9 (Ck x0 (B2 (CM (B2 l1) (rd (Ux (B2 l1) (B2 l2)) v12.toNat))) (B2 (CM (B2 l2) (rd (Ux (B2 l1) (B2 l2)) v12.toNat)))) (v9.length:Int) v12 (Ck x0 (B2 (CM (B2 l1) (rd (Ux (B2 l1) (B2 l2)) v12.toNat))) (B2 (CM (B2 l2) (rd (Ux (B2 l1) (B2 l2)) v12.toNat)))) 0))) else .stuck) else (.to (.h1 v9 (Ck x0 (B2 (CM (B2 l1) (rd (Ux (B2 l1) (B2 l2)) v12.toNat))) (B2 (CM (B2 l2) (rd (Ux (B2 l1) (B2 l2)) v12.toNat)))) (v9.length:Int) v12 (Ck x0 (B2 (CM (B2 l1) (rd (Ux (B2 l1) (B2 l2)) v12.toNat))) (B2 (CM (B2 l2) (rd (Ux (B2 l1) (B2 l2)) v12.toNat)))) 0)))) else .stuck)) else .stuck)) else .stuck) else .stuck) else .stuck) else .stuck) else (.ret [(.dat v9.length (Zz v9)),(.bool (decide ((v9.length:Int)<=400)))]))
 | .h1 v9 v10 v11 v12 v13 v15=>(bif (decide (v15<(v13.length:Int))) then (bif ((decide (0<=v12/\v12<(((Ux (B2 l1) (B2 l2)).length :Nat):Int)))&&true) then (bif ((decide (0<=v15/\v15<(v13.length:Int)))&&true) then (bif ((decide (0<=(wrap .i64 (v12+1))/\(wrap .i64 (v12+1))<(((Ux (B2 l1) (B2 l2)).length :Nat):Int)))&&true) then (bif (Nat.beq 6 6&&((decide (0+v9.length=v9.length))&&decide ((v9.length+1+1)*(48+1)<=Vd))) then (.to (.h1 (v9++[(R6.mk (rd v13 v15.toNat).a (rd v13 v15.toNat).b (rd (Ux (B2 l1) (B2 l2)) v12.toNat) (rd v13 v15.toNat).c (rd v13 v15.toNat).d (rd (Ux (B2 l1) (B2 l2)) (Int.toNat (wrap .i64 (v12+1)))))]) v10 v11 v12 v13 (wrap .i64 (v15+1)))) else .stuck) else .stuck) else .stuck) else .stuck) else (.to (.h0 v9 v10 v11 (wrap .i64 (v12+1)))))
 | .h2 v9 v10 v11 v12 v14=>(bif (decide (v14<(v9.length:Int))) then (bif ((decide (0<=(wrap .i64 (v12+1))/\(wrap .i64 (v12+1))<(((Ux (B2 l1) (B2 l2)).length :Nat):Int)))&&true) then (bif ((decide (0<=v14/\v14<(v9.length:Int)))&&true) then (bif (decide ((0+v14.toNat)<v9.length)) then (.to (.h2 (v9.set (0+v14.toNat) (R6.mk (rd v9 (0+v14.toNat)).a (rd v9 (0+v14.toNat)).b (rd v9 (0+v14.toNat)).c (rd v9 (0+v14.toNat)).d (rd v9 (0+v14.toNat)).e (rd (Ux (B2 l1) (B2 l2)) (Int.toNat (wrap .i64 (v12+1)))))) v10 v11 v12 (wrap .i64 (v14+1)))) else .stuck) else .stuck) else .stuck) else (.to (.h0 v9 v10 v11 (wrap .i64 (v12+1)))))
def VO (x0:Int) (l1:List R6) (l2:List R6):Xu Hb:=(bif (V9 (B2 l1) (B2 l2)) then (.to (.h0 ([]:List R6) ([]:List R4) 0 0)) else .stuck)
theorem w8n (x0:Int) (l1:List R6) (l2:List R6): ∀s,Wj prog (Zy prog 113) (M6 x0 l1 l2) (M6 x0 l1 l2 s) (Uf x0 l1 l2 s)
 | .h0 v9 v10 v11 v12=>(lb (fun k0=>(lo fun aG=>(lo fun aU=>(lo fun cI=>(lo fun eA=>let b:=pp (xr l1) (xw aG);let c:=pp (xr l2) (xw cI);let a:=pp c (ww aU (pp b (ww aU (tt k0 nn))));(lb (fun k1=>(lr 137 113 [1,1,1,1,1,0,1,0,0,1,0,0,1,0,1,0,0] 1 104 [(6,.nils),(7,(.bool false))] (sl Ep 50 [] (b8 [6,7]) b7 (CA 20 []) (tt k1 (pp (pp (xI R4 (Vy l1 l2 v12).length (Zz (Vy l1 l2 v12))) (pp (xI R4 (Va l2 l1 v12).length (Zz (Va l2 l1 v12))) (xw eA))) a))))) (fun k1=>(lo fun bH=>(lb (fun k2=>let d:=xI R4 (Vy l1 l2 v12).length (Zz (Vy l1 l2 v12));(lr 137 113 [1,1,1,1,1,0,1,0,0,1,0,0,1,0,1,0,0] 1 104 [(6,.nils),(7,(.bool false))] (sl Ep 50 [] (b8 [6,7]) b7 (bl 20 1047553) (tt k2 (pp (pp d (pp (xI R4 0 (fun _=>[])) (xw bH))) (pp b (ww aU (tt k1 (pp (pp d (pp (xI R4 (Va l2 l1 v12).length (Zz (Va l2 l1 v12))) (xw eA))) a))))))))) (fun k2=>(lo fun cS=>(lb (fun k3=>let e:=xI R4 (Vy l1 l2 v12).length (Zz (Vy l1 l2 v12));let j:=xI R4 (Va l2 l1 v12).length (Zz (Va l2 l1 v12));let o:=xI R4 0 (fun _=>[]);(lr 137 113 [1,1,1,1,1,0,1,0,0,1,0,0,1,0,1,0,0] 1 104 [(6,.nils),(7,(.bool false))] (sl Ep 50 [] (b8 [6,7]) b7 (bl 20 524289) (tt k3 (pp (pp j (pp o (xw cS))) (pp c (ww aU (tt k2 (pp (pp e (pp o (xw bH))) (pp b (ww aU (tt k1 (pp (pp e (pp j (xw eA))) a))))))))))))) (fun k3=>(lb (fun k4=>(lo fun cW=>let r:=pp (xr v10) (xw cW);(lb (fun k5=>let f:=xI R4 (Vy l1 l2 v12).length (Zz (Vy l1 l2 v12));let l:=xI R4 (Va l2 l1 v12).length (Zz (Va l2 l1 v12));let p:=xI R4 0 (fun _=>[]);(sl Ep 66 [] ⟨[0],[],J4,J5⟩ b7 (bl 24 15728641) (pp (fl v9 nn) (tt k5 (pp (pp (xI R4 (Ck x0 (B2 (Vy l1 l2 v12)) (B2 (Va l2 l1 v12))).length (Zz (Ck x0 (B2 (Vy l1 l2 v12)) (B2 (Va l2 l1 v12))))) r) (tt k4 (tt k3 (pp (pp l (pp p (xw cS))) (pp c (ww aU (tt k2 (pp (pp f (pp p (xw bH))) (pp b (ww aU (tt k1 (pp (pp f (pp l (xw eA))) a)))))))))))))))) (fun k5=>let g:=xI R4 (Vy l1 l2 v12).length (Zz (Vy l1 l2 v12));let m:=xI R4 (Va l2 l1 v12).length (Zz (Va l2 l1 v12));let q:=xI R4 0 (fun _=>[]);(sl Ep 73 [] ⟨[0],[],j0r,j0t⟩ b7 (bl 24 7340033) (pp (fl v9 nn) (tt k5 (pp (pp (xI R4 (Ck x0 (B2 (Vy l1 l2 v12)) (B2 (Va l2 l1 v12))).length (Zz (Ck x0 (B2 (Vy l1 l2 v12)) (B2 (Va l2 l1 v12))))) r) (tt k4 (tt k3 (pp (pp m (pp q (xw cS))) (pp c (ww aU (tt k2 (pp (pp g (pp q (xw bH))) (pp b (ww aU (tt k1 (pp (pp g (pp m (xw eA))) a))))))))))))))))))) (fun k4=>let h:=xI R4 (Vy l1 l2 v12).length (Zz (Vy l1 l2 v12));let i:=xI R4 (Va l2 l1 v12).length (Zz (Va l2 l1 v12));let n:=xI R4 0 (fun _=>[]);(sl Ep 73 [] ⟨[0],[],j0r,j0t⟩ b7 (bl 24 1) (pp (fl v9 nn) (tt k4 (tt k3 (pp (pp i (pp n (xw cS))) (pp c (ww aU (tt k2 (pp (pp h (pp n (xw bH))) (pp b (ww aU (tt k1 (pp (pp h (pp i (xw eA))) a)))))))))))))))))))))))))))) (fun k0=>(lr 137 3 [1,1,1,1,1,1,0] 1 104 [(6,(.dat v9.length (Zz v9))),(7,(.bool (decide ((v9.length:Int)<=400))))] (sl Ep 20 [] ⟨[],[0],[some [6,7]],[]⟩ ⟨[(6,.frz v9.length v9.length (Zz v9) (Zz v9))],[],[]⟩ [false] (pp (xZ (DU 6 6 0 v9.length v9.length (Zz v9)) v9.length (Zz v9)) (pp (xL v9.length v9.length) (pp (xS v9.length (Zz v9) (Zz v9)) (pp (fl v9 nn) (tt k0 nn)))))))))
 | .h1 v9 v10 v11 v12 v13 v15=>(lb (fun k0=>(lo fun o0=>(lo fun o1=>(lo fun o2=>(lo fun o3=>let a:=xL (v9.length+1) (Z1 v9 v13 v15 l1 l2 v12).length;let b:=Z1 v9 v13 v15 l1 l2 v12;(sl Ep 20 [] ⟨[2],[],j0r,j0t⟩ ⟨[(9,.len b.length)],[.rowed 6 b.length (Zz b)],[]⟩ [true] (pp a (pp a (pp (xS (v9.length+1) (v4a v9 v13 v15 l1 l2 v12) (Zz (Z1 v9 v13 v15 l1 l2 v12))) (pp (pp (xF (v4a v9 v13 v15 l1 l2 v12)) nn) (ww o3 (ww o2 (ww o1 (ww o1 (ww o0 (ww o1 (ww o1 (tt k0 nn)))))))))))))))))) (fun k0=>(sl Ep 17 [] ⟨[0],[],j0s,j0u⟩ b7 [false] (pp (fl v9 nn) (tt k0 nn)))))
 | .h2 v9 v10 v11 v12 v14=>(lb (fun k0=>(lo fun o0=>(lo fun o1=>(lo fun o2=>let a:=xL v9.length (Z0 v9 v14 l1 l2 v12).length;let b:=Z0 v9 v14 l1 l2 v12;(sl Ep 32 [] ⟨[0],[],J4,J5⟩ ⟨[(9,.len b.length)],[.rowed 6 b.length (Zz b)],[]⟩ [true] (pp a (pp a (pp (xS v9.length (Xw (Zz v9) (0+(tn v14)) 5 [(ii (rd (Ux (B2 l1) (B2 l2)) (tn (wr (v12+1)))))]) (Zz (Z0 v9 v14 l1 l2 v12))) (pp (pp (xF (Xw (Zz v9) (0+(tn v14)) 5 [(ii (rd (Ux (B2 l1) (B2 l2)) (tn (wr (v12+1)))))])) nn) (ww o2 (ww o1 (ww o0 (tt k0 nn))))))))))))) (fun k0=>(sl Ep 17 [] ⟨[0],[],j0s,j0u⟩ b7 [false] (pp (fl v9 nn) (tt k0 nn)))))
theorem w0f (x0:Int) (l1:List R6) (l2:List R6):Wj prog (Zy prog 113) (M6 x0 l1 l2) (Zg prog 113 [(.int .i64 x0),(.dat l1.length (Zz l1)),(.dat l2.length (Zz l2))] true []) (VO x0 l1 l2):=(lo fun o0=>(sl Ep 31 [(79,6,Zz ([]:List R6))] ⟨[0],[],j0s,j0u⟩ ⟨[(9,.grow 0 6),(10,.list 0 (Zz ([]:List R4)))],[],[]⟩ [] (pp (fl ([]:List R6) nn) (pp (pp (xr l1) (pp (xr l2) (xw o0))) nn))))
theorem u0u (x0:Int) (l1:List R6) (l2:List R6) (n:Nat) (vs:List B1) (h:Yw (Uf x0 l1 l2) n (VO x0 l1 l2)=.ret vs):Js prog (Zy prog 113) (Zg prog 113 [(.int .i64 x0),(.dat l1.length (Zz l1)),(.dat l2.length (Zz l2))] true []) vs:=by have:=Ze (w8n x0 l1 l2) n _ (w0f x0 l1 l2);rwa [h] at this
theorem Qa (l m:List R6):(Ux l m).length <=2*l.length+2*m.length:=by
 refine AK (YB _) ?_
 grind [YH]
theorem UN (l:List R6) (z:Int):(CM l z).length <=l.length:=by
 grind [CM]
def Gb (out:List R6) (first:Nat) (z:Int):List R6:=out.take first++(out.drop first).map fun r=>⟨r.a,r.b,r.c,r.d,r.e,z⟩
def Ni (z z':Int) (s:List R4):List R6:=s.map fun p=>⟨p.a,p.b,z,p.c,p.d,z'⟩
section
variable (kind:Int) (l m:List R6)
def Dy (z:Int):List R4:=Ck kind (CM l z) (CM m z)
def F1 (z:Int):Bool:=decide (400<(Dy kind l m z).length)||(decide (400<(Ck 2 (CM l z) []).length)||decide (400<(Ck 2 (CM m z) []).length))
def KU :Nat->Nat->List R6->List R4->Nat->Option (List R6)
 | 0,_,out,_,_=>some out
 | k+1,i,out,last,first=>
  bif F1 kind l m (rd (Ux l m) i) then none
  else bif decide (0<i)&&EX (Dy kind l m (rd (Ux l m) i)) last then KU k (i+1) (Gb out first (rd (Ux l m) (i+1))) last first
  else KU k (i+1) (out++Ni (rd (Ux l m) i) (rd (Ux l m) (i+1)) (Dy kind l m (rd (Ux l m) i))) (Dy kind l m (rd (Ux l m) i)) out.length
def KT :Option (List R6):=KU kind l m ((Ux l m).length - 1) 0 [] [] 0
def MB :Option (List R6)->List B1
 | none=>[.nils,.bool false]
 | some out=>[.dat out.length (Zz out),.bool (decide ((out.length:Int)<=400))]
def EJ :List R6:=(KT kind l m).getD []
def If :Bool:=match KT kind l m with
 | none=>false
 | some out=>decide ((out.length:Int)<=400)
end
def TQ (l:List R6):Prop:=l.length<=40000/\ ∀z,(CM l z).length <=5000
theorem u8b {l:List R6} (h:l.length<=5000):TQ l:=⟨by omega,fun z=>AK (UN l z) h⟩
def R8 (_:Int) (l m:List R6):Bool:=pd (TQ l/\TQ m)
theorem N2 {k:Int} {l m:List R6} (hl:l.length<=5000) (hm:m.length<=5000):R8 k l m=true:=Yh ⟨u8b hl,u8b hm⟩
section
variable (kind:Int) (l m:List R6) (hl:TQ l) (hm:TQ m)
include hl hm
theorem u6n (last:List R4) (first:Int) (i:Nat) (hi:i+1<(Ux l m).length) (s:List R4) (hs:s.length<=1000000): ∀(k j:Nat) (out:List R6),j+k=s.length->out.length<=10000000000+j->
  ∃n,∀N,Yw (Uf kind l m) (N+n) (.to (.h1 out last first (i:Int) s (j:Int)))=Yw (Uf kind l m) N (.to (.h0 (out++Ni (rd (Ux l m) i) (rd (Ux l m) (i+1)) (s.drop j)) last first ((i+1:Nat):Int)))
 | 0,j,out,h,ho=>by
  have hx:=Qa l m;have hl1:=hl.1;have hm1:=hm.1;refine ⟨1,fun N=> ?_⟩
  grind [Zw,Uf,Zm,Ni]
 | k+1,j,out,h,ho=>by
  have hx:=Qa l m;have hl1:=hl.1;have hm1:=hm.1;obtain ⟨n,hn⟩:=u6n last first i hi s hs k (j+1) (out++Ni (rd (Ux l m) i) (rd (Ux l m) (i+1)) [rd s j]) (by omega) (by simp [Ni];omega)
  refine ⟨n+1,fun N=> ?_⟩;have:=hn N;rw [Xj (show j<s.length by omega),<-AM,Zw];simp (disch:=omega) only [Uf,Yg,Zt,Yb,Ym,Xn,Xo,Yf,Zm,Zk,Xs,Zj,Al,AA,Ap,Aq,Af];rw [AH] at this;exact this
omit hl hm in
theorem u4g (out:List R6) (j:Nat) (x:Int) (h:j<out.length):Gb (out.set j ⟨(rd out j).a,(rd out j).b,(rd out j).c,(rd out j).d,(rd out j).e,x⟩) (j+1) x=Gb out j x:=by
 unfold Gb;rw [Xj h,A2];have e1:(out.set j ⟨(rd out j).a,(rd out j).b,(rd out j).c,(rd out j).d,(rd out j).e,x⟩).take (j+1)=out.take j++[⟨(rd out j).a,(rd out j).b,(rd out j).c,(rd out j).d,(rd out j).e,x⟩]:=by
  apply Bp
  .simp;omega
  .intro n h1 h2;simp only [BM,List.getElem_set];by_cases e:j=n
   .subst e;rw [AF rfl,Br (by simp only [Bk];omega)];simp
   .rw [Az e,BI (by simp at h1 ⊢;omega),BM]
 have e2:(out.set j ⟨(rd out j).a,(rd out j).b,(rd out j).c,(rd out j).d,(rd out j).e,x⟩).drop (j+1)=out.drop (j+1):=by rw [List.drop_set];rw [AF (by omega)]
 rw [e1,e2,AH];rfl
theorem u6m (last:List R4) (first:Int) (i:Nat) (hi:i+1<(Ux l m).length): ∀(k j:Nat) (out:List R6),j+k=out.length->out.length<=10000000000->
  ∃n,∀N,Yw (Uf kind l m) (N+n) (.to (.h2 out last first (i:Int) (j:Int)))=Yw (Uf kind l m) N (.to (.h0 (Gb out j (rd (Ux l m) (i+1))) last first ((i+1:Nat):Int)))
 | 0,j,out,h,ho=>by
  have hx:=Qa l m;have hl1:=hl.1;have hm1:=hm.1;refine ⟨1,fun N=> ?_⟩;have e:Gb out j (rd (Ux l m) (i+1))=out:=by
   grind [Gb]
  grind [Zw,Uf,Zm]
 | k+1,j,out,h,ho=>by
  have hx:=Qa l m;have hl1:=hl.1;have hm1:=hm.1;obtain ⟨n,hn⟩:=u6m last first i hi k (j+1) (out.set j ⟨(rd out j).a,(rd out j).b,(rd out j).c,(rd out j).d,(rd out j).e,rd (Ux l m) (i+1)⟩) (by simp;omega) (by grind)
  refine ⟨n+1,fun N=> ?_⟩;have:=hn N;rw [u4g out j _ (by omega)] at this;rw [<-AM,Zw];simp (disch:=omega) only [Uf,Yg,Zt,Yb,Ym,Xe,Xn,Xo,Yf,Zm,Zk,Xs,Zj,Al,AA,Ap,Aq,Af];exact this
theorem v3z : ∀(k i:Nat) (out:List R6) (last:List R4) (first:Nat),k=(Ux l m).length - 1 - i->i<=(Ux l m).length ->out.length<=i*400->last.length<=400->first<=out.length->
  ∃n,Yw (Uf kind l m) n (.to (.h0 out last (first:Int) (i:Int)))=.ret (MB (KU kind l m k i out last first))
 | 0,i,out,last,first,h,hi,ho,hla,hf=>by
  have hx:=Qa l m;have hl1:=hl.1;have hm1:=hm.1;refine ⟨1,?_⟩
  grind [Zw,Uf,Yg,Zm,Zh,KU,MB]
 | k+1,i,out,last,first,h,hi,ho,hla,hf=>by
  have hx:=Qa l m;have hl1:=hl.1;have hm1:=hm.1;have hi1:i+1<(Ux l m).length :=by omega
  have hbig:i*400<=160000*400:=AE _ (by omega);have a1:=fun z=>hl.2 z;have a2:=fun z=>hm.2 z;have w1: ∀z,PI l z=true:=fun z=>Aa (by omega);have w2: ∀z,PI m z=true:=fun z=>Aa (by omega);have w3: ∀k z,I2 k (CM l z) (CM m z)=true:=fun k z=>Aa (by grind);have w4: ∀k z,I2 k (CM l z) ([]:List R4)=true:=fun k z=>Aa (by grind);have w5: ∀k z,I2 k (CM m z) ([]:List R4)=true:=fun k z=>Aa (by grind);unfold KU;have hsec:Dy kind l m (rd (Ux l m) i)=Ck kind (CM l (rd (Ux l m) i)) (CM m (rd (Ux l m) i)):=rfl;by_cases c1:400<(Dy kind l m (rd (Ux l m) i)).length
  .refine ⟨1,?_⟩;have hb:F1 kind l m (rd (Ux l m) i)=true:=by grind [F1]
   rw [hb,Af,Zw];rw [hsec] at c1;simp (disch:=omega) only [Uf,Yg,Zt,Yb,Xv,Ym,Zm,Zk,Zj,w1,w2,w3,w4,w5,Ap,Af,Zh,MB]
  by_cases c2:400<(Ck 2 (CM l (rd (Ux l m) i)) []).length
  .refine ⟨1,?_⟩;have hb:F1 kind l m (rd (Ux l m) i)=true:=by grind [F1]
   rw [hb,Af,Zw];rw [hsec] at c1;simp (disch:=omega) only [Uf,Yg,Zt,Yb,Xv,Wz,Ym,Zm,Zk,Zj,w1,w2,w3,w4,w5,Ap,Af,Ab,Zh,MB]
  by_cases c3:400<(Ck 2 (CM m (rd (Ux l m) i)) []).length
  .refine ⟨1,?_⟩;have hb:F1 kind l m (rd (Ux l m) i)=true:=by grind [F1]
   rw [hb,Af,Zw];rw [hsec] at c1;simp (disch:=omega) only [Uf,Yg,Zt,Yb,Xv,Wz,Ym,Zm,Zk,Zj,w1,w2,w3,w4,w5,Ap,Af,Ab,Zh,MB]
  have hb:F1 kind l m (rd (Ux l m) i)=false:=by grind [F1]
  rw [hb,Ab];have w6:Jt (Ck kind (CM l (rd (Ux l m) i)) (CM m (rd (Ux l m) i))) last=true:=Aa (by grind);rcases Vo (decide (0<i)&&EX (Dy kind l m (rd (Ux l m) i)) last) with q | q
  .obtain ⟨n3,h3⟩:=u6m kind l m hl hm last first i hi1 (out.length - first) first out (by omega) (by omega)
   obtain ⟨n0,h0⟩:=v3z k (i+1) (Gb out first (rd (Ux l m) (i+1))) last first (by omega) (by omega) (by simp [Gb];omega) hla (by simp [Gb];omega)
   refine ⟨n0+n3+1,?_⟩;rw [q,Af,Zw];simp only [Ad,An] at q;obtain ⟨q1,q2⟩:=q;rw [hsec] at c1 q2;simp (disch:=omega) only [Uf,Yg,Zt,Yb,Xv,Wz,Ym,Zm,Zk,Zj,w1,w2,w3,w4,w5,w6,q2,Ap,Af,Ab]
   grind
  .obtain ⟨n2,h2⟩:=u6n kind l m hl hm (Dy kind l m (rd (Ux l m) i)) (out.length:Int) i hi1 (Dy kind l m (rd (Ux l m) i)) (by omega) (Dy kind l m (rd (Ux l m) i)).length 0 out (Al _) (by omega);obtain ⟨n0,h0⟩:=v3z k (i+1) (out++Ni (rd (Ux l m) i) (rd (Ux l m) (i+1)) (Dy kind l m (rd (Ux l m) i))) (Dy kind l m (rd (Ux l m) i)) out.length (by omega) (by omega) (by simp [Ni];omega) (by omega) (by simp);refine ⟨n0+n2+1,?_⟩;rw [q,Ab,Zw];have h2':=h2 n0;simp only [AQ,HI] at h2';have c1':=c1;rw [hsec] at c1';by_cases hi0:0<i
   .rw [Aa hi0,Aq,hsec] at q;simp (disch:=omega) only [Uf,Yg,Zt,Yb,Xv,Wz,Ym,Zm,Zk,Zj,w1,w2,w3,w4,w5,w6,q,Ap,Af,Ab]
    grind
   .simp (disch:=omega) only [Uf,Yg,Zt,Yb,Xv,Wz,Ym,Zm,Zk,Zj,w1,w2,w3,w4,w5,w6,Ap,Af,Ab]
    grind
end
theorem j0q (kind:Int) (l m:List R6) (h:R8 kind l m=true): ∃N,Yw (Uf kind l m) N (VO kind l m)=.ret (MB (KT kind l m)):=by obtain ⟨hl,hm⟩:=Ju h;have hl1:=hl.1;have hm1:=hm.1;obtain ⟨N,hN⟩:=v3z kind l m hl hm ((Ux l m).length - 1) 0 [] [] 0 rfl (AG _) (AG _) (AG _) (Ak _);refine ⟨N,?_⟩;have w1:V9 l m=true:=Aa ⟨by omega,by omega⟩;simp only [VO,Yg,Zt,w1,Af];exact hN
def fJs :List B1->Option (B1×Bool)
 | [.int .i64 x0,a1,a2]=>match C7 R6 a1,C7 R6 a2 with
  | some (L1,g1,n1),some (L2,g2,n2)=>some (.tup [.dat (EJ x0 L1 L2).length (Zz (EJ x0 L1 L2)),.bool (If x0 L1 L2)],CQ R6 n1 g1&&(CQ R6 n2 g2&&(R8 x0 L1 L2)))
  | _,_=>none
 | _=>none
theorem OW {S:B3} (hS:Zv prog S):Zv prog (S.with u7o fJs):=by
 refine GO hS (by kernel_rfl) fun args v h=> ?_;unfold fJs at h;split at h
 .rename_i x0 a1 a2;split at h
  .rename_i L1 g1 n1 L2 g2 n2 e1 e2;simp only [Ae,Ac,Ad] at h;obtain ⟨rfl,ho1,ho2,hw⟩:=h;obtain ⟨N,hN⟩:=j0q x0 L1 L2 hw;refine ⟨_,MB (KT x0 L1 L2),(.cons (.refl _) (.cons (Xf e1 ho1) (.cons (Xf e2 ho2) .nil))),?_,u0u x0 L1 L2 N _ hN,3,?_⟩
   .unfold EJ If;cases KT x0 L1 L2 with
    | none=>exact fun ρ u hu=>Gk (.cons (Gr R6) (Ch.refl _)) ρ u hu
    | some out=>exact fun ρ u hu=>hu
   .cases KT x0 L1 L2 <;> rfl
  .cases h
 .cases h
def T4 :B3:=T3.with u7o fJs
theorem Tp :Zv prog T4:=OW Ep
open Go.Sort Go.Shelf Go.RowKit Go.Lib
def N9 (x:E3):List Value:=Ew x.1
theorem j5m (l:List R3) (h:Dl l=true):Go.Sort.flatK N9 3 (Dk l h).toArray =Go.Sort.flatK Ew 3 l.toArray:=by
 have hl:=Qc l h;unfold Go.Sort.flatK;rw [show (Dk l h).toArray.size =l.toArray.size by simpa using hl];apply Array.ext
 .simp
 .intro t h1 h2;simp only [Array.getElem_map,Array.getElem_range];have ht:t<l.length*3:=by simpa using h1
  have hq:t / 3<l.length:=by omega
  congr 1
  rw [getElem!_pos (Dk l h).toArray (t / 3) (by simpa [hl] using hq),getElem!_pos l.toArray (t / 3) (by simpa using hq)];unfold N9
  congr 1
  have:=U7 l h;have e:=At (fun z:List R3=>z[t / 3]?) this;simp only [BL] at e;rw [Ar (by rw [hl];exact hq),Ar hq] at e
  simpa using e
theorem u3x (d:Array E3):Go.Sort.flatK N9 3 d=Go.Sort.flatK Ew 3 (d.toList.map Subtype.val).toArray :=by
 unfold Go.Sort.flatK;rw [show d.size=(d.toList.map Subtype.val).toArray.size by simp];apply Array.ext
 .simp
 .intro t h1 h2;simp only [Array.getElem_map,Array.getElem_range];have ht:t<d.size*3:=by simpa using h1
  have hq:t / 3<d.size:=by omega
  congr 1
  rw [getElem!_pos d (t / 3) hq,getElem!_pos (d.toList.map Subtype.val).toArray (t / 3) (by simpa using hq)];simp [N9]
theorem x7g (l:List R3):HJ l.length (Cs (B2 l)).length =true:=Yc (by
 rw [Yg];by_cases h:Dl l=true
 .exact (PY l h).1.length_eq.symm
 .unfold Cs;rw [dif_neg h])
theorem isAgg3 : ∀w,(isAgg (Tryz.sortEnd_ren.t 24)).run prog w=.ok true w:=fun w=>by rfl
theorem SZ : ∀w,(Go.sizeOf (Tryz.sortEnd_ren.t 24)).run prog w=.ok 3 w:=fun w=>by rfl
theorem v2u :G7 prog u7k (WY R3 Cs Dl w5p):=by
 refine v7j (fun L=> ?_) (fun blk off cap L w hb hH fP hsz=> ?_) fun p cap fv w=>AnyF.slices_SortFunc_none Tryz.sortEnd p cap fv w
 .by_cases h:Dl L=true
  .exact (PY L h).1.length_eq
  .unfold Cs;rw [dif_neg h]
 .have eg: ∀args w,(callFunc 245 args).run prog w=.ok (.enter 245 args) w:=enters_of Tryz.func245 (by kernel_rfl) rfl;have hcmp:CmpLays prog 245 #[] N9 3 Ol blk off (Dk L hb).toArray.size w:=fun m os dk _ x y=>by have hx:=Av x.2;have hy:=Av y.2;exact Tryz.cmpEnd x.1.a x.1.b x.1.c y.1.a y.1.b y.1.c hx hy _
  have hH':HoldsK N9 3 w blk off (Dk L hb).toArray :=by unfold HoldsK;rw [j5m L hb];exact hH
  have hcon:=AnyQ.slices_SortFunc_eq Tryz.sortEnd 3 isAgg3 SZ N9 (fun x=>w3i x.1) (fun x v hv=>by
   obtain ⟨a,ha,rfl⟩:=BR.1 hv;have:MA a=true:=Ay.1 (Ii.num x.1) a ha;cases a <;> first | rfl | (simp [MA] at this;done)) Ol SU 245 #[] blk off cap (Dk L hb).toArray w eg hcmp hH' fP (by simpa [Qc] using hsz)
  have hs:(Dk L hb).toArray.size =L.length:=by simp [Qc]
  rw [hs] at hcon;refine Calls.mono hcon fun e w' ⟨he,n,os,hw⟩=>⟨he,n,os,?_⟩
  rw [hw];unfold sortWorldK putRowK;rw [u3x];unfold Cs;rw [dif_pos hb];rfl
def Qi (zs:List Int):List Int:=zs.mergeSort fun x y=>decide (x<=y)
theorem v2t :G7 prog KK (II Qi):=
 j5o (fun zs=>List.length_mergeSort zs) (fun blk off cap zs w hH hb hz=>Tryz.slices_Sort_int blk off cap zs w hH hb hz) fun p cap w=>Tryz.slices_Sort_int_none p cap w
def C8 (zs:List Int):List Int:=compact zs++List.replicate (zs.length - (compact zs).length) 0
def GR (zs:List Int):Nat:=(compact zs).length
theorem X9 (zs:List Int):(C8 zs).length =zs.length:=by have:=compact_length_le zs;simp [C8];omega
theorem x7h (n:Nat) (c:Nat->Int):HJ n (C8 (Ws n c)).length =true:=Yc (by rw [X9];simp [Ws])
theorem v6l (w:World):grow w #[]=w:=by simp [grow]
theorem w3n :G7 prog w5q (IJ C8 GR):=
 j5p (fun zs=>by have:=compact_length_le zs;simp [C8];omega) (fun zs=>compact_length_le zs)
  (fun blk off cap zs w hH hb hz eR=>(Tryz.slices_Compact_int blk off cap zs w hH (by omega) eR).mono fun e w' ⟨he,q,hw⟩=>⟨he,q, #[],by rw [hw,v6l];rfl⟩)
  fun p cap w=>Tryz.slices_Compact_int_empty p cap w
def T5 :B3:=((T4.withE u7k (WY R3 Cs Dl w5p)).withE KK (II Qi)).withE w5q (IJ C8 GR)
theorem Cy :Zv prog T5:=x2h (x2h (x2h Tp (by kernel_rfl) v2u) (by kernel_rfl) v2t) (by kernel_rfl) w3n
-- h2: index into an array (choices [true, true, false, false])
-- h2: index into an array (choices [true, false, true, false, false])
-- h2: index into an array (choices [true, false, false, true, true, false, false])
-- h2: index into an array (choices [true, false, false, true, false, false, false])
-- h2: index into an array (choices [true, false, false, false, false, false])
abbrev Vp (aK:List R2) (cD:Int) (v5:List R3) (v7:Int):=(aK++[(R2.mk cD (rd v5 (0+(tn v7))).a)])
abbrev IY (aK:List R2) (cD:Int) (v5:List R3) (v7:Int):=(Zo (Zz aK) 0 aK.length 2 [(ii cD),(ii (rd v5 (0+(tn v7))).a)])
abbrev Z8 (v3:List R3) (l0:List R2) (v17:Int):=(v3++[(R3.mk (rd l0 (tn v17)).a 0 1),(R3.mk (rd l0 (tn v17)).b 0 (-1))])
def v2q (l0:List R2):CX:=⟨⟨11,0,true⟩,(CU prog 200 [1,1,1,0] 1),(Zf prog 200 [1,1,1,0] 1),none,(Zy prog 10),Ye [(9,(.dat l0.length (Zz l0)))]⟩
inductive HX where
 | h0 (v8:Int)
 | h1 (v3:List R3) (v17:Int)
 | h2 (v5:List R3) (v6:Int) (v7:Int) (aI:Int) (bL:Int) (cD:Int) (bU:Bool) (aK:List R2)
def MO (l0:List R2):HX->CE
 | .h0 v8=>⟨⟨19,0,true⟩,none,(Zf prog 242 [1,0,1,0,0] 0),none,(Zy prog 3),⟨Ye [(0,(.dat l0.length (Zz l0))),(1,(.fn 227 [])),(7,(ii (l0.length:Int))),(8,(ii v8))],Xt [] 0,0,[],true⟩,[⟨⟨9,0,true⟩,(CU prog 226 [1,0] 2),(Zf prog 226 [1,0] 1),none,(Zy prog 3),Ye [(5,(.dat l0.length (Zz l0))),(6,(.fn 227 []))]⟩,⟨⟨11,0,true⟩,(CU prog 200 [1,1,0,0] 1),(Zf prog 200 [1,1,0,0] 1),none,(Zy prog 10),Ye [(0,(.dat l0.length (Zz l0))),(7,(.dat l0.length (Zz l0)))]⟩],.leaf⟩
 | .h1 v3 v17=>⟨⟨38,0,true⟩,none,(Zf prog 233 [1,1,0,1,0,0,1,1,0,0,1,1,0,0] 0),none,(Zy prog 9),⟨Ye [(3,(.sla 7 3 0 v3.length (.un 3))),(4,(ii 0)),(8,(.sl 0 0 2 (.un 1))),(9,(ii 2)),(10,(ii 0)),(15,(.dat l0.length (Zz l0))),(16,(ii (l0.length:Int))),(17,(ii v17))],Xt [⟨[(.dat l0.length (Zz l0)),.nils],233,none⟩,⟨[(.fn 229 [])],245,none⟩,⟨[(ii 0),(ii 0)],307,none⟩,⟨[.nils],233,none⟩,⟨[(ii 0)],3,none⟩,⟨[(.bool false)],4,none⟩,⟨[(.fn 232 [(.ptr 5 0),(.ptr 4 0),(.ptr 3 0)])],180,none⟩,⟨rows v3.length (Zz v3),311,some ⟨3,v3.length,(Zz v3)⟩⟩] 0,8,[],true⟩,[⟨⟨42,0,true⟩,(CU prog 205 [1,1,1,1,1,0,0] 3),(Zf prog 205 [1,1,1,1,1,0,0] 1),none,(Zy prog 7),Ye [(5,(.ptr 1 0)),(6,.nils),(7,(.ptr 2 0)),(8,(.ptr 3 0)),(9,(.ptr 4 0)),(10,(.ptr 5 0)),(11,(.ptr 6 0)),(16,(.sl 0 0 2 (.un 1)))]⟩,(v2q l0)],.leaf⟩
 | .h2 v5 v6 v7 aI bL cD bU aK=>⟨⟨16,0,true⟩,none,(Zf prog 249 [1,0,0] 0),none,[],⟨Ye [(0,(.yld 0)),(5,(.sla 7 3 0 v5.length (.un 3))),(6,(ii v6)),(7,(ii v7))],Eb [(1,⟨[(.fn 229 [])],245,none⟩),(2,⟨[(ii aI),(ii bL)],307,none⟩),(3,⟨[(ii cD)],3,none⟩),(4,⟨[(.bool bU)],4,none⟩),(5,⟨[(.fn 232 [(.ptr 4 0),(.ptr 3 0),(.ptr 6 0)])],180,none⟩),(6,⟨[(.sla 8 2 0 aK.length (.un 2))],233,none⟩),(7,⟨rows v5.length (Zz v5),311,some ⟨3,v5.length,(Zz v5)⟩⟩),(8,⟨rows aK.length (Zz aK),260,some ⟨2,aK.length,(Zz aK)⟩⟩)],9,[],true⟩,[⟨⟨42,0,true⟩,none,(.inRangeFunc 0::(Zf prog 205 [1,1,1,1,1,0,1,0] 1)),none,(Zy prog 7),Ye [(6,.nils),(8,(.ptr 6 0))]⟩,(v2q l0)],(F7 [(0,⟨.ready,none,42,Ye [(5,(.ptr 1 0)),(7,(.ptr 2 0)),(9,(.ptr 3 0)),(10,(.ptr 4 0)),(11,(.ptr 5 0))],[18],(DE prog 205 [1,1,1,1,1,0,1,0,0]),(DE prog 205 [1,1,1,1,1,0,1,0,1])⟩)])⟩
def Is :List (Option (List Nat)):=[some [0,1,7,8],some [5,6],some [0,7]]
def It :List (Option (List Nat)):=[]
def SD :List (Option (List Nat)):=[some [3,4,8,9,10,15,16,17],some [5,6,7,8,9,10,11,16],some [9]]
def SC :List (Option (List Nat)):=[]
def Fo :List (Option (List Nat)):=[some [0,5,6,7],some [6,8],some [9]]
def Fn :List (Option (List Nat)):=[some [5,7,9,10,11],none,none,none,none,none,none,none,none]
def Jk (l0:List R2):HX->Xu HX
 | .h0 v8=>(bif (decide (v8<(l0.length:Int))) then (bif ((decide (0<=v8/\v8<(l0.length:Int)))&&true) then (bif (decide ((rd l0 v8.toNat).a <(rd l0 v8.toNat).b)) then (bif (decide ((rd l0 v8.toNat).a >=(-1000000))) then (bif (!(decide ((rd l0 v8.toNat).b <=1000000))) then (bif (decide (v8>=0)) then (.ret [.nils,(.int .i64 8)]) else (.to (.h1 ([]:List R3) 0))) else (.to (.h0 (wrap .i64 (v8+1))))) else (bif (decide (v8>=0)) then (.ret [.nils,(.int .i64 8)]) else (.to (.h1 ([]:List R3) 0)))) else (bif (decide (v8>=0)) then (.ret [.nils,(.int .i64 8)]) else (.to (.h1 ([]:List R3) 0)))) else .stuck) else (.to (.h1 ([]:List R3) 0)))
 | .h1 v3 v17=>(bif (decide (v17<(l0.length:Int))) then (bif ((decide (0<=v17/\v17<(l0.length:Int)))&&true) then (bif (Nat.beq 3 3&&((decide (0+v3.length=v3.length))&&decide ((v3.length+2+1)*(24+1)<=Vd))) then (.to (.h1 (v3++[(R3.mk (rd l0 v17.toNat).a 0 1),(R3.mk (rd l0 v17.toNat).b 0 (-1))]) (wrap .i64 (v17+1)))) else .stuck) else .stuck) else (bif (Dl (B2 v3)) then (bif (decide (v3.length<4611686018427387904)) then (bif (decide (v3.length=v3.length)) then (.to (.h2 (Cs (B2 v3)) (v3.length:Int) 0 0 0 0 false ([]:List R2))) else .stuck) else .stuck) else .stuck))
 | .h2 v5 v6 v7 aI bL cD bU aK=>(bif (decide (v7<v6)) then (bif ((decide (0<=v7/\v7<(v5.length:Int)))&&true) then (bif (decide ((0+v7.toNat)<v5.length)) then (bif (!bU) then (bif (decide ((rd v5 (0+v7.toNat)).b =Int.ofNat 0)) then (.to (.h2 v5 v6 (wrap .i64 (v7+1)) (wrap .i64 (aI+(rd v5 (0+v7.toNat)).c)) bL (rd v5 (0+v7.toNat)).a (Ea (decide ((wrap .i64 (aI+(rd v5 (0+v7.toNat)).c))>0)) (decide (bL>0))) aK)) else (bif (decide ((rd v5 (0+v7.toNat)).b =Int.ofNat 1)) then (.to (.h2 v5 v6 (wrap .i64 (v7+1)) aI (wrap .i64 (bL+(rd v5 (0+v7.toNat)).c)) (rd v5 (0+v7.toNat)).a (Ea (decide (aI>0)) (decide ((wrap .i64 (bL+(rd v5 (0+v7.toNat)).c))>0))) aK)) else .stuck)) else (bif (cD == (rd v5 (0+v7.toNat)).a) then (bif (decide ((rd v5 (0+v7.toNat)).b =Int.ofNat 0)) then (.to (.h2 v5 v6 (wrap .i64 (v7+1)) (wrap .i64 (aI+(rd v5 (0+v7.toNat)).c)) bL (rd v5 (0+v7.toNat)).a (Ea (decide ((wrap .i64 (aI+(rd v5 (0+v7.toNat)).c))>0)) (decide (bL>0))) aK)) else (bif (decide ((rd v5 (0+v7.toNat)).b =Int.ofNat 1)) then (.to (.h2 v5 v6 (wrap .i64 (v7+1)) aI (wrap .i64 (bL+(rd v5 (0+v7.toNat)).c)) (rd v5 (0+v7.toNat)).a (Ea (decide (aI>0)) (decide ((wrap .i64 (bL+(rd v5 (0+v7.toNat)).c))>0))) aK)) else .stuck)) else (bif (decide ((aK.length:Int)>0)) then (bif ((decide (0<=(wrap .i64 ((aK.length:Int) - 1))/\(wrap .i64 ((aK.length:Int) - 1))<(aK.length:Int)))&&true) then (bif (decide ((0+(Int.toNat (wrap .i64 ((aK.length:Int) - 1))))<aK.length)) then (bif ((rd aK (0+(Int.toNat (wrap .i64 ((aK.length:Int) - 1))))).b == cD) then (bif (decide ((rd v5 (0+v7.toNat)).b =Int.ofNat 0)) then (.to (.h2 v5 v6 (wrap .i64 (v7+1)) (wrap .i64 (aI+(rd v5 (0+v7.toNat)).c)) bL (rd v5 (0+v7.toNat)).a (Ea (decide ((wrap .i64 (aI+(rd v5 (0+v7.toNat)).c))>0)) (decide (bL>0))) (aK.set (0+(Int.toNat (wrap .i64 ((aK.length:Int) - 1)))) (R2.mk (rd aK (0+(Int.toNat (wrap .i64 ((aK.length:Int) - 1))))).a (rd v5 (0+v7.toNat)).a)))) else (bif (decide ((rd v5 (0+v7.toNat)).b =Int.ofNat 1)) then (.to (.h2 v5 v6 (wrap .i64 (v7+1)) aI (wrap .i64 (bL+(rd v5 (0+v7.toNat)).c)) (rd v5 (0+v7.toNat)).a (Ea (decide (aI>0)) (decide ((wrap .i64 (bL+(rd v5 (0+v7.toNat)).c))>0))) (aK.set (0+(Int.toNat (wrap .i64 ((aK.length:Int) - 1)))) (R2.mk (rd aK (0+(Int.toNat (wrap .i64 ((aK.length:Int) - 1))))).a (rd v5 (0+v7.toNat)).a)))) else .stuck)) else (bif (Nat.beq 2 2&&((decide (0+aK.length=aK.length))&&decide ((aK.length+1+1)*(16+1)<=Vd))) then (bif (decide ((rd v5 (0+v7.toNat)).b =Int.ofNat 0)) then (.to (.h2 v5 v6 (wrap .i64 (v7+1)) (wrap .i64 (aI+(rd v5 (0+v7.toNat)).c)) bL (rd v5 (0+v7.toNat)).a (Ea (decide ((wrap .i64 (aI+(rd v5 (0+v7.toNat)).c))>0)) (decide (bL>0))) (aK++[(R2.mk cD (rd v5 (0+v7.toNat)).a)]))) else (bif (decide ((rd v5 (0+v7.toNat)).b =Int.ofNat 1)) then (.to (.h2 v5 v6 (wrap .i64 (v7+1)) aI (wrap .i64 (bL+(rd v5 (0+v7.toNat)).c)) (rd v5 (0+v7.toNat)).a (Ea (decide (aI>0)) (decide ((wrap .i64 (bL+(rd v5 (0+v7.toNat)).c))>0))) (aK++[(R2.mk cD (rd v5 (0+v7.toNat)).a)]))) else .stuck)) else .stuck)) else .stuck) else .stuck) else (bif (Nat.beq 2 2&&((decide (0+aK.length=aK.length))&&decide ((aK.length+1+1)*(16+1)<=Vd))) then (bif (decide ((rd v5 (0+v7.toNat)).b =Int.ofNat 0)) then (.to (.h2 v5 v6 (wrap .i64 (v7+1)) (wrap .i64 (aI+(rd v5 (0+v7.toNat)).c)) bL (rd v5 (0+v7.toNat)).a (Ea (decide ((wrap .i64 (aI+(rd v5 (0+v7.toNat)).c))>0)) (decide (bL>0))) (aK++[(R2.mk cD (rd v5 (0+v7.toNat)).a)]))) else (bif (decide ((rd v5 (0+v7.toNat)).b =Int.ofNat 1)) then (.to (.h2 v5 v6 (wrap .i64 (v7+1)) aI (wrap .i64 (bL+(rd v5 (0+v7.toNat)).c)) (rd v5 (0+v7.toNat)).a (Ea (decide (aI>0)) (decide ((wrap .i64 (bL+(rd v5 (0+v7.toNat)).c))>0))) (aK++[(R2.mk cD (rd v5 (0+v7.toNat)).a)]))) else .stuck)) else .stuck)))) else .stuck) else .stuck) else (.ret [(.dat aK.length (Zz aK)),(.int .i64 0)]))
def VZ (l0:List R2):Xu HX:=(bif (decide ((l0.length:Int)>400)) then (.ret [.nils,(.int .i64 4)]) else (.to (.h0 0)))
theorem w7q (l0:List R2): ∀s,Wj prog (Zy prog 200) (MO l0) (MO l0 s) (Jk l0 s)
 | .h0 v8=>let b:=fl ([]:List R3) nn;(lb (fun k0=>(lo fun aG=>let a:=ww aG (tt k0 nn);(lb (fun k1=>(lb (fun k2=>let c:=tt k2 (tt k1 a);(lb (fun k3=>(lb (fun k4=>(lr 11 200 [1,1,0,1,0,0] 1 10 [(2,.nils),(3,(ii 8))] (sl Cy 79 [] (b8 [2,3]) b7 (CA 9 []) (tt k4 (tt k3 c))))) (fun k4=>(sl Cy 154 [(311,3,Zz ([]:List R3))] ⟨[8,2,3,4,5,6,7,9],[],SD,SC⟩ ⟨[(3,.grow 7 3)],[],[]⟩ (CA 8 (bl 2 2)) (pp b (tt k4 (tt k3 c))))))) (fun k3=>(sl Cy 69 [] ⟨[],[],Is,It⟩ b7 (CA 7 [false]) (tt k3 c))))) (fun k2=>let d:=tt k2 (tt k1 a);(lb (fun k3=>(lr 11 200 [1,1,0,1,0,0] 1 10 [(2,.nils),(3,(ii 8))] (sl Cy 79 [] (b8 [2,3]) b7 (CA 4 (bl 5 24)) (tt k3 d)))) (fun k3=>(sl Cy 154 [(311,3,Zz ([]:List R3))] ⟨[8,2,3,4,5,6,7,9],[],SD,SC⟩ ⟨[(3,.grow 7 3)],[],[]⟩ (CA 4 (bl 6 40)) (pp b (tt k3 d)))))))) (fun k1=>(lb (fun k2=>(lr 11 200 [1,1,0,1,0,0] 1 10 [(2,.nils),(3,(ii 8))] (sl Cy 79 [] (b8 [2,3]) b7 (bl 9 385) (tt k2 (tt k1 a))))) (fun k2=>(sl Cy 154 [(311,3,Zz ([]:List R3))] ⟨[8,2,3,4,5,6,7,9],[],SD,SC⟩ ⟨[(3,.grow 7 3)],[],[]⟩ (bl 10 641) (pp b (tt k2 (tt k1 a)))))))))) (fun k0=>(sl Cy 98 [(311,3,Zz ([]:List R3))] ⟨[6,0,1,2,3,4,5,7],[],SD,SC⟩ ⟨[(3,.grow 7 3)],[],[]⟩ (bl 3 4) (pp b (tt k0 nn)))))
 | .h1 v3 v17=>(lb (fun k0=>(lo fun o0=>(lo fun o1=>let d:=xL (v3.length+2) (Z8 v3 l0 v17).length;let f:=Z8 v3 l0 v17;(sl Cy 36 [] ⟨[0,1,2,3,4,5,6,10],[],SD,SC⟩ ⟨[(3,.len f.length)],(Ht 7 [.rowed 3 f.length (Zz f)]),[]⟩ [true] (pp d (pp d (pp (xS (v3.length+2) (Zo (Zz v3) 0 v3.length 3 [(ii (rd l0 (tn v17)).a),(ii 0),(ii 1),(ii (rd l0 (tn v17)).b),(ii 0),(ii (-1))]) (Zz (Z8 v3 l0 v17))) (pp (pp (xF (Zo (Zz v3) 0 v3.length 3 [(ii (rd l0 (tn v17)).a),(ii 0),(ii 1),(ii (rd l0 (tn v17)).b),(ii 0),(ii (-1))])) nn) (ww o1 (ww o0 (tt k0 nn))))))))))) (fun k0=>(lo fun o0=>(lo fun o1=>(lo fun o2=>let c:=xL v3.length (Cs (B2 v3)).length (by first | exact x7g _ | exact Yc rfl);let e:=Cs (B2 v3);let g:=xG (Nat.beq 3 3);(sl Cy 92 [(260,2,Zz ([]:List R2))] ⟨[9,1,2,4,5,6,3,7,10],[],Fo,Fn⟩ ⟨[(5,.len e.length)],(Ht 6 [.cells [.grow 8 2],.rowed 3 e.length (Zz e),.keep]),[]⟩ (bl 4 2) (pp c (pp c (pp (xS v3.length (Zz (Cs (B2 v3))) (Zz (Cs (B2 v3)))) (pp (fl e (fl ([]:List R2) nn)) (pp (pp g (pp g (pp (xG (Nat.beq 0 0)) (pp (pp (xG (decide (v3.length=v3.length))) (pp (xr v3) (xG (decide (v3.length<4611686018427387904))))) (xG (Dl (B2 v3))))))) (tt k0 nn))))))))))))
 | .h2 v5 v6 v7 aI bL cD bU aK=>(lb (fun k0=>(lo fun aG=>(lo fun aU=>let i:=List.range 9;let j:=fl v5 (fl aK nn);let l:=ww aU (ww aG (tt k0 nn));(lb (fun k1=>(lb (fun k2=>(sl Cy 62 [] ⟨i,[],Fo,Fn⟩ b7 (CA 5 (bl 3 0)) (pp j (ww k2 (tt k1 l))))) (fun k2=>(lb (fun k3=>(sl Cy 62 [] ⟨i,[],Fo,Fn⟩ b7 (CA 6 (bl 4 2)) (pp j (ww k3 (tt k1 l))))) (fun k3=>trivial))))) (fun k1=>let d:=tt k1 l;(lb (fun k2=>(lb (fun k3=>(sl Cy 62 [] ⟨i,[],Fo,Fn⟩ b7 (bl 8 17) (pp j (ww k3 (tt k2 d))))) (fun k3=>(lb (fun k4=>(sl Cy 62 [] ⟨i,[],Fo,Fn⟩ b7 (bl 10 177) (pp j (ww k4 (tt k2 d))))) (fun k4=>trivial))))) (fun k2=>let r:=Vp aK cD v5 v7;let c:=Ht 6 [.cells [.len r.length],.keep,.rowed 2 r.length (Zz r)];(lb (fun k3=>(lo fun dA=>(lo fun dZ=>let g:=ww dZ (ww dA (tt k3 (tt k2 d)));(lb (fun k4=>let q:=tn (wr ((aK.length:Int) - 1));let b:=aK.set (0+q) (R2.mk (rd aK (0+q)).a (rd v5 (0+(tn v7))).a);let h:=Ht 6 [.cells [.len b.length],.keep,.rowed 2 b.length (Zz b)];let s:=ww dZ (ww dA (tt k4 g));(lb (fun k5=>let f:=xL aK.length (aK.set (0+(tn (wr ((aK.length:Int) - 1)))) (R2.mk (rd aK (0+(tn (wr ((aK.length:Int) - 1))))).a (rd v5 (0+(tn v7))).a)).length;(sl Cy 81 [] ⟨i,[],Fo,Fn⟩ ⟨[],h,[]⟩ (bl 17 16353) (pp f (pp f (pp (xS aK.length (Xw (Zz aK) (0+(tn (wr ((aK.length:Int) - 1)))) 1 [(ii (rd v5 (0+(tn v7))).a)]) (Zz (aK.set (0+(tn (wr ((aK.length:Int) - 1)))) (R2.mk (rd aK (0+(tn (wr ((aK.length:Int) - 1))))).a (rd v5 (0+(tn v7))).a)))) (pp (fl v5 (pp (xF (Xw (Zz aK) (0+(tn (wr ((aK.length:Int) - 1)))) 1 [(ii (rd v5 (0+(tn v7))).a)])) nn)) (ww k5 s))))))) (fun k5=>(lb (fun k6=>let e:=xL aK.length (aK.set (0+(tn (wr ((aK.length:Int) - 1)))) (R2.mk (rd aK (0+(tn (wr ((aK.length:Int) - 1))))).a (rd v5 (0+(tn v7))).a)).length;(sl Cy 81 [] ⟨i,[],Fo,Fn⟩ ⟨[],h,[]⟩ (bl 19 98273) (pp e (pp e (pp (xS aK.length (Xw (Zz aK) (0+(tn (wr ((aK.length:Int) - 1)))) 1 [(ii (rd v5 (0+(tn v7))).a)]) (Zz (aK.set (0+(tn (wr ((aK.length:Int) - 1)))) (R2.mk (rd aK (0+(tn (wr ((aK.length:Int) - 1))))).a (rd v5 (0+(tn v7))).a)))) (pp (fl v5 (pp (xF (Xw (Zz aK) (0+(tn (wr ((aK.length:Int) - 1)))) 1 [(ii (rd v5 (0+(tn v7))).a)])) nn)) (ww k6 s))))))) (fun k6=>trivial))))) (fun k4=>(lo fun cW=>let u:=ww cW (tt k4 g);(lb (fun k5=>let n:=xL (aK.length+1) (Vp aK cD v5 v7).length;(sl Cy 81 [] ⟨[0,1,2,3,4,5,6,7,12],[],Fo,Fn⟩ ⟨[],c,[]⟩ (bl 17 8161) (pp n (pp n (pp (xS (aK.length+1) (IY aK cD v5 v7) (Zz (Vp aK cD v5 v7))) (pp (fl v5 (pp (xF (IY aK cD v5 v7)) nn)) (ww k5 u))))))) (fun k5=>(lb (fun k6=>let p:=xL (aK.length+1) (Vp aK cD v5 v7).length;(sl Cy 81 [] ⟨[0,1,2,3,4,5,6,7,12],[],Fo,Fn⟩ ⟨[],c,[]⟩ (bl 19 90081) (pp p (pp p (pp (xS (aK.length+1) (IY aK cD v5 v7) (Zz (Vp aK cD v5 v7))) (pp (fl v5 (pp (xF (IY aK cD v5 v7)) nn)) (ww k6 u))))))) (fun k6=>trivial)))))))))) (fun k3=>(lo fun dA=>let t:=ww dA (tt k3 (tt k2 d));(lb (fun k4=>let m:=xL (aK.length+1) (Vp aK cD v5 v7).length;(sl Cy 81 [] ⟨[0,1,2,3,4,5,6,7,12],[],Fo,Fn⟩ ⟨[],c,[]⟩ (bl 17 1) (pp m (pp m (pp (xS (aK.length+1) (IY aK cD v5 v7) (Zz (Vp aK cD v5 v7))) (pp (fl v5 (pp (xF (IY aK cD v5 v7)) nn)) (ww k4 t))))))) (fun k4=>(lb (fun k5=>let o:=xL (aK.length+1) (Vp aK cD v5 v7).length;(sl Cy 81 [] ⟨[0,1,2,3,4,5,6,7,12],[],Fo,Fn⟩ ⟨[],c,[]⟩ (bl 19 81921) (pp o (pp o (pp (xS (aK.length+1) (IY aK cD v5 v7) (Zz (Vp aK cD v5 v7))) (pp (fl v5 (pp (xF (IY aK cD v5 v7)) nn)) (ww k5 t))))))) (fun k5=>trivial)))))))))))))) (fun k0=>(lr 11 3 [1,1,1,1,1,1,0] 1 10 [(2,(.dat aK.length (Zz aK))),(3,(ii 0))] (sl Cy 19 [] ⟨[],[8],[some [2,3]],[]⟩ ⟨[(2,.frz aK.length aK.length (Zz aK) (Zz aK))],[],[]⟩ [false] (pp (xZ (DU 2 2 0 aK.length aK.length (Zz aK)) aK.length (Zz aK)) (pp (xL aK.length aK.length) (pp (xS aK.length (Zz aK) (Zz aK)) (pp (fl aK nn) (tt k0 nn)))))))))
theorem x9i (l0:List R2):Wj prog (Zy prog 200) (MO l0) (Zg prog 200 [(.dat l0.length (Zz l0))] true []) (VZ l0):=(lb (fun k0=>(lr 11 200 [1,0,1,0,0] 1 10 [(2,.nils),(3,(ii 4))] (sl Cy 18 [] (b8 [2,3]) b7 [true] (tt k0 nn)))) (fun k0=>(sl Cy 41 [] ⟨[],[],Is,It⟩ b7 [false] (tt k0 nn))))
theorem v9i (l0:List R2) (n:Nat) (vs:List B1) (h:Yw (Jk l0) n (VZ l0)=.ret vs):Js prog (Zy prog 200) (Zg prog 200 [(.dat l0.length (Zz l0))] true []) vs:=by have:=Ze (w7q l0) n _ (x9i l0);rwa [h] at this
def D5 (s:R2):Bool:=decide (s.a<s.b)&&(decide (s.a>= -1000000)&&decide (s.b<=1000000))
def Co (l:List R2):List R3:=l.flatMap fun s=>[⟨s.a,0,1⟩,⟨s.b,0,-1⟩]
def EV (out:List R2) (last:Int) (inn:Bool) (at':Int):List R2:=
 bif !inn then out else bif last == at' then out else
 bif decide (0<out.length)&&((rd out (out.length - 1)).b == last) then out.set (out.length - 1) ⟨(rd out (out.length - 1)).a,at'⟩ else out++[⟨last,at'⟩]
def Gf :List R3->Int->Int->Bool->List R2->List R2
 | [],_,_,_,out=>out
 | e::r,o,last,inn,out=>Gf r (o+e.c) e.a (decide (o+e.c>0)) (EV out last inn e.a)
def Fc (l:List R2):List R2:=Gf (Cs (Co l)) 0 0 false []
def Vw (l:List R2):List R2:=bif decide (400<l.length) then [] else bif l.all D5 then Fc l else []
def u5n (l:List R2):Int:=bif decide (400<l.length) then 4 else bif l.all D5 then 0 else 8
def ZJ (l:List R2):Bool:=true
def Rw (l:List R2):List B1:=bif decide (400<l.length) then [.nils,.int .i64 4] else bif l.all D5 then [.dat (Fc l).length (Zz (Fc l)),.int .i64 0] else [.nils,.int .i64 8]
theorem YD (l:List R2):(Co l).length =2*l.length:=by
 induction l with
 | nil=>rfl
 | cons r l ih=>grind [Co]
theorem y0z (out:List R2) (last:Int) (inn:Bool) (a:Int):(EV out last inn a).length <=out.length+1:=by
 grind [EV]
theorem V0 (e:R3) (r:List R3) (o last:Int) (inn:Bool) (out:List R2):Gf (e::r) o last inn out=Gf r (o+e.c) e.a (decide (o+e.c>0)) (EV out last inn e.a):=rfl
theorem j2a {a:Int} (k:Nat) (h:a=(k:Int)):decide (a=Int.ofNat k)=true:=by grind
section
variable (l:List R2) (hl:l.length<=400)
include hl
theorem u5k (L:List R3) (hL:L.length<=800) (hE: ∀i,i<L.length->(rd L i).b =0/\((rd L i).c =1\/(rd L i).c = -1)): ∀(k i:Nat) (o last:Int) (inn:Bool) (out:List R2),i+k=L.length-> -(i:Int)<=o->o<=i->out.length<=i->
  ∃n,Yw (Jk l) n (.to (.h2 L (L.length:Int) (i:Int) o 0 last inn out))=.ret [.dat (Gf (L.drop i) o last inn out).length (Zz (Gf (L.drop i) o last inn out)),.int .i64 0]
 | 0,i,o,last,inn,out,h,ho1,ho2,hout=>by
  have _uhl:=hl;refine ⟨1,?_⟩
  grind [Zw,Jk,Zh,Gf]
 | k +1,i,o,last,inn,out,h,ho1,ho2,hout=>by
  obtain ⟨hb,hc⟩:=hE i (by omega);have hcl:=y0z out last inn (rd L i).a;obtain ⟨n,hn⟩:=u5k L hL hE k (i+1) (o+(rd L i).c) (rd L i).a (decide (o+(rd L i).c >0)) (EV out last inn (rd L i).a) (by omega) (by grind) (by grind) (by omega);refine ⟨n+1,?_⟩;rw [Xj (show i<L.length by omega),Zw];have hf: ∀b,Ea b (decide ((0:Int)>0))=b:=fun b=>rfl;have hw:wrap .i64 (o+(rd L i).c)=o+(rd L i).c :=Zm (by grind);rw [V0];have hf': ∀b,Ea b false=b:=fun b=>rfl;have hz:=j2a 0 hb;unfold EV at hn ⊢;cases inn with
  | false=>simp only [AD,Af] at hn ⊢;simp (disch:=omega) only [Jk,AD,hz,hw,hf,hf',Yb,Ym,Xe,Zm,Zk,Zj,Al,Ap,Af];exact hn
  | true=>
   simp only [Ax,Ab] at hn ⊢;rcases Vo (last == (rd L i).a) with q | q
   .rw [q] at hn ⊢;simp only [Af] at hn ⊢;simp (disch:=omega) only [Jk,Ax,q,hz,hw,hf,hf',Yb,Ym,Xe,Zm,Zk,Zj,Al,Ap,Af,Ab];exact hn
   .rw [q] at hn ⊢;simp only [Ab] at hn ⊢;by_cases h0:0<out.length
    .rw [Aa h0,Aq] at hn ⊢;rcases Vo ((rd out (out.length - 1)).b == last) with q2 | q2
     .rw [q2] at hn ⊢;simp only [Af] at hn ⊢;simp (disch:=omega) only [Jk,Ax,q,q2,hz,hw,hf,hf',Yb,Xv,Ym,Xe,Zm,Zk,Zj,Zs,Al,Ap,Af,Ab];exact hn
     .rw [q2] at hn ⊢;simp only [Ab] at hn ⊢;simp (disch:=omega) only [Jk,Ax,q,q2,hz,hw,hf,hf',Yb,Xv,Ym,Xe,Xo,Yf,Xs,AA,Zm,Zk,Zj,Zs,Al,Ap,Aq,Af,Ab];exact hn
    .rw [Ah h0,Ba] at hn ⊢;simp only [Ab] at hn ⊢;simp (disch:=omega) only [Jk,Ax,q,hz,hw,hf,hf',Yb,Wz,Ym,Xe,Xo,Yf,Xs,AA,Zm,Zk,Zj,Al,Ap,Aq,Af,Ab];exact hn
theorem v7h (h:l.all D5=true): ∀e∈Co l,On e=true/\e.b=0/\(e.c=1\/e.c= -1):=by
 have _uhl:=hl;intro e he;obtain ⟨s,hs,h1⟩:=BD.1 he;have hv:=Ay.1 h s hs;simp only [D5,Ad,An] at hv;simp only [AN,List.not_mem_nil,or_false] at h1;rcases h1 with rfl | rfl
 .exact ⟨Aa (by grind),rfl,.inl rfl⟩
 .exact ⟨Aa (by grind),rfl,.inr rfl⟩
theorem u5l (hv:l.all D5=true): ∀(k i:Nat) (acc:List R3),i+k=l.length->acc=Co (l.take i)-> ∃n,Yw (Jk l) n (.to (.h1 acc (i:Int)))=.ret [.dat (Fc l).length (Zz (Fc l)),.int .i64 0]
 | 0,i,acc,h,ha=>by
  have e:acc=Co l:=by grind
  subst e;have hle:=YD l;have fG:=v7h l hl hv;have hb:Dl (Co l)=true:=Ay.2 fun e he=>(fG e he).1;obtain ⟨hp,_⟩:=PY (Co l) hb;have hpl:=hp.length_eq;obtain ⟨n,hn⟩:=u5k l hl (Cs (Co l)) (by omega) (fun i hi=>by
   grind [Wf]) (Cs (Co l)).length 0 0 0 false [] (Al _) (by omega) (by omega) (AG _)
  refine ⟨n+1,?_⟩;rw [Zw];simp (disch:=omega) only [Jk,Yg,Zt,hb,Xz,Xe,Xo,AA,Af,Ab];rw [<-hpl];simp only [HI,AQ] at hn;exact hn
 | k+1,i,acc,h,ha=>by
  have hle:=YD (l.take i);have hacc:acc.length<=2*i:=by grind
  obtain ⟨n,hn⟩:=u5l hv k (i+1) (acc++Co [rd l i]) (by omega) (by
   rw [ha,Bw]
   grind [Wf,Co])
  refine ⟨n+1,?_⟩;rw [Zw];simp (disch:=omega) only [Jk,Yb,Ym,Xn,Xo,Yf,Xs,AA,Zm,Zk,Zj,Al,Ap,Aq,Af];exact hn
theorem u5m : ∀(k i:Nat),i+k=l.length->(∀s∈l.take i,D5 s=true)-> ∃n,Yw (Jk l) n (.to (.h0 (i:Int)))=.ret (bif l.all D5 then [.dat (Fc l).length (Zz (Fc l)),.int .i64 0] else [.nils,.int .i64 8])
 | 0,i,h,ht=>by
  have hv:l.all D5=true:=Ay.2 fun s hs=>ht s (by grind);obtain ⟨n,hn⟩:=u5l l hl hv l.length 0 [] (Al _) rfl;refine ⟨n+1,?_⟩
  grind [Zw,Jk]
 | k+1,i,h,ht=>by
  have hi:i<l.length:=by omega
  rcases Vo (D5 (rd l i)) with q | q
  .obtain ⟨n,hn⟩:=u5m k (i+1) (by omega) (fun s hs=>by
    rw [Bw] at hs
    grind [Wf])
   refine ⟨n+1,?_⟩
   grind [Zw,D5,Jk,Zm]
  .have hv:l.all D5=false:=A5.2 fun e=>by
    grind [Wf]
   refine ⟨1,?_⟩;rw [Zw,hv,Ab];unfold D5 at q;rcases Vo (decide ((rd l i).a <(rd l i).b)) with q1 | q1 <;> rcases Vo (decide ((rd l i).a >= -1000000)) with q2 | q2 <;> rcases Vo (decide ((rd l i).b <=1000000)) with q3 | q3 <;>
    rw [q1,q2,q3] at q <;> first
    | (exfalso;revert q;decide)
    | simp (disch:=omega) only [Jk,q1,q2,q3,Yb,EB,Ym,Zm,Zk,Zj,Ax,AD,Ap,Af,Ab,Zh]
end
theorem u9m (l:List R2): ∃n,Yw (Jk l) n (VZ l)=.ret (Rw l):=by
 unfold VZ Rw;by_cases h:400<l.length
 .refine ⟨0,?_⟩;rw [Aa h,Xv (show (l.length:Int)>400 by omega)];rfl
 .obtain ⟨n,hn⟩:=u5m l (by omega) l.length 0 (Al _) (fun s hs=>by simp at hs)
  grind
def OG :List B1->Option (B1×Bool)
 | [a1]=>match C7 R2 a1 with
  | some (L1,g1,n1)=>some (.tup [.dat (Vw L1).length (Zz (Vw L1)),.int .i64 (u5n L1)],CQ R2 n1 g1&&ZJ L1)
  | _=>none
 | _=>none
theorem j3v {S:B3} (hS:Zv prog S):Zv prog (S.with x7b OG):=by
 refine GO hS (by kernel_rfl) fun args v h=> ?_;unfold OG at h;split at h
 .rename_i a1;split at h
  .rename_i L1 g1 n1 e1;simp only [Ae,Ac,Ad] at h;obtain ⟨rfl,ho1,hw⟩:=h;obtain ⟨N,hN⟩:=u9m L1;refine ⟨_,Rw L1,(.cons (Xf e1 ho1) .nil),?_,v9i L1 N _ hN,3,?_⟩
   .unfold Vw u5n Rw;cases decide (400<L1.length) <;> simp only [Af,Ab]
    .cases L1.all D5 <;> simp only [Af,Ab]
     .exact fun ρ u hu=>Gk (.cons (Gr R2) (Ch.refl _)) ρ u hu
     .exact fun ρ u hu=>hu
    .exact fun ρ u hu=>Gk (.cons (Gr R2) (Ch.refl _)) ρ u hu
   .unfold Rw;cases decide (400<L1.length) <;> simp only [Af,Ab]
    .cases L1.all D5 <;> rfl
    .rfl
  .cases h
 .cases h
def T6 :B3:=T5.with x7b OG
theorem Qy :Zv prog T6:=j3v Cy
theorem w3t {γ:Type} (a b:Bool) (x y:γ):(bif a&&b then x else y)=bif a then (bif b then x else y) else y:=by grind
theorem w3r {γ:Type} (a:Bool) (x y:γ):(bif !a then x else y)=bif a then y else x:=by grind
structure DO (α β:Type) where
 lo:α->Int
 hi:α->Int
 pr:α->β
 put:Int->Int->β->α
 ext:Int->α->α
 mak:List β->List β
 same:List β->List β->Bool
structure Sw (α β:Type) where
 out:List α
 last:List β
 first:Nat
 fin:Int
def Lg (zs:List Int):List Int:=compact (Qi zs)
theorem v7w (zs:List Int):GR (Qi zs)=(Lg zs).length :=rfl
theorem UZ (zs:List Int):(Qi zs).length =zs.length:=List.length_mergeSort zs
theorem x4j (zs:List Int):(Lg zs).length <=zs.length:=by have:=compact_length_le (Qi zs);rw [UZ] at this;exact this
theorem W8 (zs:List Int) (i:Nat) (h:i<(Lg zs).length):rd (C8 (Qi zs)) i=rd (Lg zs) i:=by
 change i<(compact (Qi zs)).length at h;show rd (compact (Qi zs)++_) i=rd (compact (Qi zs)) i
 grind [Wf]
theorem x1l (zs:List Int):Ws zs.length (DC (Zz (Qi zs)))=Qi zs:=by
 grind [X8,UZ]
namespace DO
variable {α β:Type} (D:DO α β) (l:List α)
def ends :List Int:=l.flatMap fun r=>[D.lo r,D.hi r]
def cuts :List Int:=Lg (D.ends l)
def inn (x:Int):List β:=(l.filter fun r=>decide (D.lo r<=x)&&decide (x<D.hi r)).map D.pr
def sec (x:Int):List β:=D.mak (D.inn l x)
def grow (out:List α) (k:Nat) (x:Int):List α:=out.take k++(out.drop k).map (D.ext x)
def one (x x':Int) (s:Sw α β):Sw α β:=
 bif decide (0<(D.sec l x).length)&&((s.fin == x)&&D.same s.last (D.sec l x)) then ⟨D.grow s.out s.first x',s.last,s.first,x'⟩
 else ⟨s.out++(D.sec l x).map (D.put x x'),D.sec l x,s.out.length,x'⟩
def go :Nat->Nat->Sw α β->Sw α β
 | 0,_,s=>s
 | k+1,i,s=>go k (i+1) (D.one l (rd (D.cuts l) i) (rd (D.cuts l) (i+1)) s)
def out :List α:=(D.go l ((D.cuts l).length - 1) 0 ⟨[],[],0,0⟩).out
theorem ends_length :(D.ends l).length =2*l.length:=by
 induction l with
 | nil=>rfl
 | cons r l ih=>show (_::_::D.ends l).length =_;grind
theorem cuts_length :(D.cuts l).length <=2*l.length:=by have:=x4j (D.ends l);rw [D.ends_length] at this;exact this
theorem ends_append (m:List α):D.ends (l++m)=D.ends l++D.ends m:=by simp [ends]
theorem inn_append (m:List α) (x:Int):D.inn (l++m) x=D.inn l x++D.inn m x:=by simp [inn]
theorem inn_length (x:Int):(D.inn l x).length <=l.length:=by grind [inn]
theorem inn_t (r:α) (x:Int) (h1:D.lo r<=x) (h2:x<D.hi r):D.inn [r] x=[D.pr r]:=by simp [inn,h1,h2]
theorem inn_f1 (r:α) (x:Int) (h1: ¬D.lo r<=x):D.inn [r] x=[]:=by simp [inn,h1]
theorem inn_f2 (r:α) (x:Int) (h1: ¬x<D.hi r):D.inn [r] x=[]:=by simp [inn,h1]
theorem grow_nil (out:List α) (k:Nat) (x:Int) (h:out.length<=k):D.grow out k x=out:=by unfold grow;rw [Aw h,List.map_nil,AL,A8 h]
theorem grow_length (out:List α) (k:Nat) (x:Int):(D.grow out k x).length =out.length:=by unfold grow;simp;omega
theorem grow_set [Xk α] (out:List α) (j:Nat) (x:Int) (h:j<out.length):D.grow (out.set j (D.ext x (rd out j))) (j+1) x=D.grow out j x:=by
 unfold grow;rw [Xj h,A2];have e1:(out.set j (D.ext x (rd out j))).take (j+1)=out.take j++[D.ext x (rd out j)]:=by
  apply Bp;all_goals grind
 have e2:(out.set j (D.ext x (rd out j))).drop (j+1)=out.drop (j+1):=by rw [List.drop_set];grind
 grind
theorem one_length (x x':Int) (s:Sw α β):(D.one l x x' s).out.length <=s.out.length+(D.sec l x).length :=by
 grind [one,grow_length]
end DO
end Go.Am
end
