/- A part of a proof: several texts in one. -/
import Derived.Test.YthnnmgkacjjpeaaGreatDoorNf2
import Derived.Ground.SlsfProg
import Derived.Shelf.SlSortCmp.WholeK
import Derived.Shelf.Strings.Builder1
import Derived.Shelf.Strings.Builder2
import Derived.Shelf.Strings.OnBuilder
import Derived.Shelf.Small.Bits
import Derived.Shelf.Strconv.Atoi
import Derived.Shelf.Strconv.Itoa0
import Derived.Shelf.Strconv.Itoa1
import Derived.Shelf.LaysM
import Derived.Shelf.Strconv.Itoa2
import Derived.Shelf.Strconv.Itoa3
import Derived.Shelf.Strconv.AtoiErrFast
import Derived.Shelf.Strconv.ParseIntEmpty
import Derived.Shelf.Strconv.AtoiFail
import Derived.Shelf.Strconv.Clone
import Derived.Shelf.Strconv.SyntaxError
import Derived.Shelf.LaysC
import Derived.Shelf.Strconv.ToError
import Derived.Shelf.Strconv.Lower
import Derived.Shelf.Strconv.ParseUint10
import Derived.Shelf.Strconv.ParseUint10Empty
import Derived.Shelf.Strconv.ParseUint10Any
import Derived.Shelf.Strconv.ParseInt10
import Derived.Shelf.Strconv.AtoiLong
import Derived.Shelf.Strconv.AtoiInnerAll
import Derived.Shelf.Strconv.RangeError
import Derived.Shelf.Strconv.ToErrorRange
import Derived.Shelf.Strconv.AtoiAll
import Derived.Shelf.Strings.Search1
import Derived.Shelf.Strings.Search2
import Derived.Shelf.Strings.Search3
import Derived.Shelf.Strings.Cut
import Derived.Shelf.Strings.Count
import Derived.Shelf.Strings.Shaped
import Derived.Shelf.Sort.Plain
import Derived.Shelf.Strings.LastIndex
import Derived.Shelf.Strings.Prefix
import Derived.Shelf.Strings.Split
import Derived.Shelf.Unicode.DecodeSlow
import Derived.Ground.Names2Prog
import Derived.Shelf.Slices.ReverseS
import Derived.Shelf.Slices.CompactI
import Derived.Shelf.Slices.SearchI
import Derived.Shelf.Slices.Cells
import Derived.Shelf.Slices.In.SortNone
import Derived.Test.YthnnmgkacjjpeaaGreatDoorProg
import Derived.Below
import Derived.Sort.AssemblyPlain
import Derived.Lib.BitFns
import Derived.Shelf.GgSortFunc.InsertionK
import Derived.Shelf.SlSortCmp.NoneTotal
set_option maxRecDepth 1000000
set_option maxHeartbeats 8000000
set_option linter.unusedVariables false
set_option linter.unusedSimpArgs false
noncomputable section
namespace Go.Proofs
open Go.Proofs.Tryz
open Go.Shelf
def Tryz.lays169_ren :Go.Shelf.Ren:=⟨fun | 169=>75 | n=>n,fun | 70=>72 | 9=>9 | 0=>0 | 72=>75 | 37=>73 | 127=>181 | 3=>3 | 5=>5 | n=>n,fun | n=>n⟩
theorem Tryz.lays169 :Go.Proofs.Lays.n169 prog Tryz.lays169_ren:={
 mixed:=by kernel_rfl
 f169:=Tryz.func75.trans (congrArg some (by kernel_rfl))
 t0:=Tryz.underlying0
 a0:=Tryz.isAgg0
 z0:=Tryz.sizeOf0
 v0:=Tryz.zeroValue0
 t3:=Tryz.underlying3
 a3:=Tryz.isAgg3
 z3:=Tryz.sizeOf3
 v3:=Tryz.zeroValue3
 t9:=Tryz.underlying9
 a9:=Tryz.isAgg9
 z9:=Tryz.sizeOf9
 v9:=Tryz.zeroValue9
 t37:=Tryz.underlying73
 a37:=Tryz.isAgg73
 z37:=Tryz.sizeOf73
 v37:=Tryz.zeroValue73
 t70:=Tryz.underlying72
 a70:=Tryz.isAgg72
 z70:=Tryz.sizeOf72
 v70:=Tryz.zeroValue72
 t72:=Tryz.underlying75
 a72:=Tryz.isAgg75
 z72:=Tryz.sizeOf75
 v72:=Tryz.zeroValue75
 t127:=Tryz.underlying181
 a127:=Tryz.isAgg181
 z127:=Tryz.sizeOf181
 v127:=Tryz.zeroValue181}
theorem Tryz.Builder_Extra_169 :Builder.Extra prog Tryz.lays169_ren:={
 sizeBuilder:=by kernel_rfl
 liesBuilder:=by kernel_rfl
 t5:=Tryz.underlying5
 a5:=Tryz.isAgg5
 z5:=Tryz.sizeOf5
 v5:=Tryz.zeroValue5
 infoByte:=by kernel_rfl
 cellsByte:=by kernel_rfl
 sizeByte:=by kernel_rfl
 neB5:=by decide}
def Tryz.lays156_ren :Go.Shelf.Ren:=⟨fun | 156=>73 | 165=>111 | 166=>68 | 169=>75 | 240=>108 | 241=>147 | 276=>145 | 277=>179 | n=>n,fun | 31=>70 | 9=>9 | 3=>3 | 4=>4 | 0=>0 | 20=>20 | 72=>75 | 76=>125 | 70=>72 | 37=>73 | 75=>124 | 127=>181 | 164=>210 | 5=>5 | 80=>134 | n=>n,fun | n=>n⟩
theorem Tryz.lays156 :Go.Proofs.Lays.n156 prog Tryz.lays156_ren:={
 mixed:=by kernel_rfl
 f156:=Tryz.func73.trans (congrArg some (by kernel_rfl))
 f165:=Tryz.func111.trans (congrArg some (by kernel_rfl))
 f166:=Tryz.func68.trans (congrArg some (by kernel_rfl))
 f169:=Tryz.func75.trans (congrArg some (by kernel_rfl))
 f240:=Tryz.func108.trans (congrArg some (by kernel_rfl))
 f241:=Tryz.func147.trans (congrArg some (by kernel_rfl))
 f276:=Tryz.func145.trans (congrArg some (by kernel_rfl))
 f277:=Tryz.func179.trans (congrArg some (by kernel_rfl))
 t0:=Tryz.underlying0
 a0:=Tryz.isAgg0
 z0:=Tryz.sizeOf0
 v0:=Tryz.zeroValue0
 t3:=Tryz.underlying3
 a3:=Tryz.isAgg3
 z3:=Tryz.sizeOf3
 v3:=Tryz.zeroValue3
 t4:=Tryz.underlying4
 a4:=Tryz.isAgg4
 z4:=Tryz.sizeOf4
 v4:=Tryz.zeroValue4
 t9:=Tryz.underlying9
 a9:=Tryz.isAgg9
 z9:=Tryz.sizeOf9
 v9:=Tryz.zeroValue9
 t20:=Tryz.underlying20
 a20:=Tryz.isAgg20
 z20:=Tryz.sizeOf20
 v20:=Tryz.zeroValue20
 t31:=Tryz.underlying70
 a31:=Tryz.isAgg70
 z31:=Tryz.sizeOf70
 v31:=Tryz.zeroValue70
 t37:=Tryz.underlying73
 a37:=Tryz.isAgg73
 z37:=Tryz.sizeOf73
 v37:=Tryz.zeroValue73
 t70:=Tryz.underlying72
 a70:=Tryz.isAgg72
 z70:=Tryz.sizeOf72
 v70:=Tryz.zeroValue72
 t72:=Tryz.underlying75
 a72:=Tryz.isAgg75
 z72:=Tryz.sizeOf75
 v72:=Tryz.zeroValue75
 t75:=Tryz.underlying124
 a75:=Tryz.isAgg124
 z75:=Tryz.sizeOf124
 v75:=Tryz.zeroValue124
 t76:=Tryz.underlying125
 a76:=Tryz.isAgg125
 z76:=Tryz.sizeOf125
 v76:=Tryz.zeroValue125
 t127:=Tryz.underlying181
 a127:=Tryz.isAgg181
 z127:=Tryz.sizeOf181
 v127:=Tryz.zeroValue181
 t164:=Tryz.underlying210
 a164:=Tryz.isAgg210
 z164:=Tryz.sizeOf210
 v164:=Tryz.zeroValue210}
theorem Tryz.Builder_Extra_156 :Builder.Extra prog Tryz.lays156_ren:={
 sizeBuilder:=by kernel_rfl
 liesBuilder:=by kernel_rfl
 t5:=Tryz.underlying5
 a5:=Tryz.isAgg5
 z5:=Tryz.sizeOf5
 v5:=Tryz.zeroValue5
 infoByte:=by kernel_rfl
 cellsByte:=by kernel_rfl
 sizeByte:=by kernel_rfl
 neB5:=by decide}
def Tryz.laysM171_ren :Go.Shelf.Ren:=⟨fun | 171=>70 | 243=>109 | 246=>146 | 283=>175 | 284=>176 | 285=>177 | 286=>178 | 129=>207 | 317=>206 | 318=>208 | 319=>209 | 320=>210 | 337=>234 | 338=>235 | n=>n,fun | 3=>3 | 9=>9 | 2=>2 | 4=>4 | 171=>246 | 0=>0 | 53=>247 | 37=>73 | 5=>5 | 173=>250 | 212=>282 | 51=>283 | 20=>20 | 213=>284 | 46=>262 | 232=>324 | 233=>325 | n=>n,fun | 17=>3 | 18=>6 | 19=>7 | n=>n⟩
theorem Tryz.laysM171 :Go.Proofs.LaysM.n171 prog Tryz.laysM171_ren:={
 mixed:=by kernel_rfl
 f129:=Tryz.func207.trans (congrArg some (by kernel_rfl))
 f171:=Tryz.func70.trans (congrArg some (by kernel_rfl))
 f243:=Tryz.func109.trans (congrArg some (by kernel_rfl))
 f246:=Tryz.func146.trans (congrArg some (by kernel_rfl))
 f283:=Tryz.func175.trans (congrArg some (by kernel_rfl))
 f284:=Tryz.func176.trans (congrArg some (by kernel_rfl))
 f285:=Tryz.func177.trans (congrArg some (by kernel_rfl))
 f286:=Tryz.func178.trans (congrArg some (by kernel_rfl))
 f317:=Tryz.func206.trans (congrArg some (by kernel_rfl))
 f318:=Tryz.func208.trans (congrArg some (by kernel_rfl))
 f319:=Tryz.func209.trans (congrArg some (by kernel_rfl))
 f320:=Tryz.func210.trans (congrArg some (by kernel_rfl))
 f337:=Tryz.func234.trans (congrArg some (by kernel_rfl))
 f338:=Tryz.func235.trans (congrArg some (by kernel_rfl))
 t0:=Tryz.underlying0
 a0:=Tryz.isAgg0
 z0:=Tryz.sizeOf0
 v0:=Tryz.zeroValue0
 t2:=Tryz.underlying2
 a2:=Tryz.isAgg2
 z2:=Tryz.sizeOf2
 v2:=Tryz.zeroValue2
 t3:=Tryz.underlying3
 a3:=Tryz.isAgg3
 z3:=Tryz.sizeOf3
 v3:=Tryz.zeroValue3
 t4:=Tryz.underlying4
 a4:=Tryz.isAgg4
 z4:=Tryz.sizeOf4
 v4:=Tryz.zeroValue4
 t5:=Tryz.underlying5
 a5:=Tryz.isAgg5
 z5:=Tryz.sizeOf5
 v5:=Tryz.zeroValue5
 t9:=Tryz.underlying9
 a9:=Tryz.isAgg9
 z9:=Tryz.sizeOf9
 v9:=Tryz.zeroValue9
 t20:=Tryz.underlying20
 a20:=Tryz.isAgg20
 z20:=Tryz.sizeOf20
 v20:=Tryz.zeroValue20
 t37:=Tryz.underlying73
 a37:=Tryz.isAgg73
 z37:=Tryz.sizeOf73
 v37:=Tryz.zeroValue73
 t46:=Tryz.underlying262
 a46:=Tryz.isAgg262
 z46:=Tryz.sizeOf262
 v46:=Tryz.zeroValue262
 t51:=Tryz.underlying283
 a51:=Tryz.isAgg283
 z51:=Tryz.sizeOf283
 v51:=Tryz.zeroValue283
 t53:=Tryz.underlying247
 a53:=Tryz.isAgg247
 z53:=Tryz.sizeOf247
 v53:=Tryz.zeroValue247
 t171:=Tryz.underlying246
 a171:=Tryz.isAgg246
 z171:=Tryz.sizeOf246
 v171:=Tryz.zeroValue246
 t173:=Tryz.underlying250
 a173:=Tryz.isAgg250
 z173:=Tryz.sizeOf250
 v173:=Tryz.zeroValue250
 t212:=Tryz.underlying282
 a212:=Tryz.isAgg282
 z212:=Tryz.sizeOf282
 v212:=Tryz.zeroValue282
 t213:=Tryz.underlying284
 a213:=Tryz.isAgg284
 z213:=Tryz.sizeOf284
 t232:=Tryz.underlying324
 a232:=Tryz.isAgg324
 z232:=Tryz.sizeOf324
 v232:=Tryz.zeroValue324
 t233:=Tryz.underlying325
 a233:=Tryz.isAgg325
 z233:=Tryz.sizeOf325
 v233:=Tryz.zeroValue325
 g17:=by kernel_rfl
 g18:=by kernel_rfl
 g19:=by kernel_rfl
 i0:=by kernel_rfl
 i2:=by kernel_rfl
 i3:=by kernel_rfl
 i4:=by kernel_rfl
 i5:=by kernel_rfl
 i9:=by kernel_rfl
 i20:=by kernel_rfl
 i37:=by kernel_rfl
 i46:=by kernel_rfl
 i51:=by kernel_rfl
 i53:=by kernel_rfl
 i171:=by kernel_rfl
 i173:=by kernel_rfl
 i212:=by kernel_rfl
 i232:=by kernel_rfl
 i233:=by kernel_rfl
 m17:=by kernel_rfl
 m18:=by kernel_rfl
 m19:=by kernel_rfl}
def Tryz.laysC172_ren :Go.Shelf.Ren:=⟨fun | 172=>85 | 244=>123 | 245=>124 | 247=>156 | 279=>157 | 280=>158 | 281=>159 | 282=>160 | 287=>192 | 316=>193 | 171=>70 | 205=>194 | 321=>213 | 322=>214 | 243=>109 | 246=>146 | 283=>175 | 284=>176 | 285=>177 | 286=>178 | 129=>207 | 317=>206 | 318=>208 | 319=>209 | 320=>210 | 337=>234 | 338=>235 | n=>n,fun | 9=>9 | 3=>3 | 75=>124 | 76=>125 | 4=>4 | 5=>5 | 167=>219 | 37=>73 | 0=>0 | 85=>220 | 2=>2 | 168=>222 | 53=>247 | 175=>263 | 46=>262 | 210=>267 | 127=>181 | 145=>294 | 143=>292 | 21=>21 | 171=>246 | 173=>250 | 212=>282 | 51=>283 | 20=>20 | 213=>284 | 232=>324 | 233=>325 | 80=>134 | n=>n,fun | 15=>1 | 16=>2 | 17=>3 | 18=>6 | 19=>7 | n=>n⟩
theorem Tryz.laysC172 :Go.Proofs.LaysC.n172 prog Tryz.laysC172_ren:={
 mixed:=by kernel_rfl
 f129:=Tryz.func207.trans (congrArg some (by kernel_rfl))
 f171:=Tryz.func70.trans (congrArg some (by kernel_rfl))
 f172:=Tryz.func85.trans (congrArg some (by kernel_rfl))
 f205:=Tryz.func194.trans (congrArg some (by kernel_rfl))
 f243:=Tryz.func109.trans (congrArg some (by kernel_rfl))
 f244:=Tryz.func123.trans (congrArg some (by kernel_rfl))
 f245:=Tryz.func124.trans (congrArg some (by kernel_rfl))
 f246:=Tryz.func146.trans (congrArg some (by kernel_rfl))
 f247:=Tryz.func156.trans (congrArg some (by kernel_rfl))
 f279:=Tryz.func157.trans (congrArg some (by kernel_rfl))
 f280:=Tryz.func158.trans (congrArg some (by kernel_rfl))
 f281:=Tryz.func159.trans (congrArg some (by kernel_rfl))
 f282:=Tryz.func160.trans (congrArg some (by kernel_rfl))
 f283:=Tryz.func175.trans (congrArg some (by kernel_rfl))
 f284:=Tryz.func176.trans (congrArg some (by kernel_rfl))
 f285:=Tryz.func177.trans (congrArg some (by kernel_rfl))
 f286:=Tryz.func178.trans (congrArg some (by kernel_rfl))
 f287:=Tryz.func192.trans (congrArg some (by kernel_rfl))
 f316:=Tryz.func193.trans (congrArg some (by kernel_rfl))
 f317:=Tryz.func206.trans (congrArg some (by kernel_rfl))
 f318:=Tryz.func208.trans (congrArg some (by kernel_rfl))
 f319:=Tryz.func209.trans (congrArg some (by kernel_rfl))
 f320:=Tryz.func210.trans (congrArg some (by kernel_rfl))
 f321:=Tryz.func213.trans (congrArg some (by kernel_rfl))
 f322:=Tryz.func214.trans (congrArg some (by kernel_rfl))
 f337:=Tryz.func234.trans (congrArg some (by kernel_rfl))
 f338:=Tryz.func235.trans (congrArg some (by kernel_rfl))
 t0:=Tryz.underlying0
 a0:=Tryz.isAgg0
 z0:=Tryz.sizeOf0
 v0:=Tryz.zeroValue0
 t2:=Tryz.underlying2
 a2:=Tryz.isAgg2
 z2:=Tryz.sizeOf2
 v2:=Tryz.zeroValue2
 t3:=Tryz.underlying3
 a3:=Tryz.isAgg3
 z3:=Tryz.sizeOf3
 v3:=Tryz.zeroValue3
 t4:=Tryz.underlying4
 a4:=Tryz.isAgg4
 z4:=Tryz.sizeOf4
 v4:=Tryz.zeroValue4
 t5:=Tryz.underlying5
 a5:=Tryz.isAgg5
 z5:=Tryz.sizeOf5
 v5:=Tryz.zeroValue5
 t9:=Tryz.underlying9
 a9:=Tryz.isAgg9
 z9:=Tryz.sizeOf9
 v9:=Tryz.zeroValue9
 t20:=Tryz.underlying20
 a20:=Tryz.isAgg20
 z20:=Tryz.sizeOf20
 v20:=Tryz.zeroValue20
 t21:=Tryz.underlying21
 a21:=Tryz.isAgg21
 z21:=Tryz.sizeOf21
 v21:=Tryz.zeroValue21
 t37:=Tryz.underlying73
 a37:=Tryz.isAgg73
 z37:=Tryz.sizeOf73
 v37:=Tryz.zeroValue73
 t46:=Tryz.underlying262
 a46:=Tryz.isAgg262
 z46:=Tryz.sizeOf262
 v46:=Tryz.zeroValue262
 t51:=Tryz.underlying283
 a51:=Tryz.isAgg283
 z51:=Tryz.sizeOf283
 v51:=Tryz.zeroValue283
 t53:=Tryz.underlying247
 a53:=Tryz.isAgg247
 z53:=Tryz.sizeOf247
 v53:=Tryz.zeroValue247
 t75:=Tryz.underlying124
 a75:=Tryz.isAgg124
 z75:=Tryz.sizeOf124
 v75:=Tryz.zeroValue124
 t76:=Tryz.underlying125
 a76:=Tryz.isAgg125
 z76:=Tryz.sizeOf125
 v76:=Tryz.zeroValue125
 t85:=Tryz.underlying220
 a85:=Tryz.isAgg220
 z85:=Tryz.sizeOf220
 v85:=Tryz.zeroValue220
 t127:=Tryz.underlying181
 a127:=Tryz.isAgg181
 z127:=Tryz.sizeOf181
 v127:=Tryz.zeroValue181
 t143:=Tryz.underlying292
 a143:=Tryz.isAgg292
 z143:=Tryz.sizeOf292
 v143:=Tryz.zeroValue292
 t145:=Tryz.underlying294
 a145:=Tryz.isAgg294
 z145:=Tryz.sizeOf294
 v145:=Tryz.zeroValue294
 t167:=Tryz.underlying219
 a167:=Tryz.isAgg219
 z167:=Tryz.sizeOf219
 v167:=Tryz.zeroValue219
 t168:=Tryz.underlying222
 a168:=Tryz.isAgg222
 z168:=Tryz.sizeOf222
 v168:=Tryz.zeroValue222
 t171:=Tryz.underlying246
 a171:=Tryz.isAgg246
 z171:=Tryz.sizeOf246
 v171:=Tryz.zeroValue246
 t173:=Tryz.underlying250
 a173:=Tryz.isAgg250
 z173:=Tryz.sizeOf250
 v173:=Tryz.zeroValue250
 t175:=Tryz.underlying263
 a175:=Tryz.isAgg263
 z175:=Tryz.sizeOf263
 v175:=Tryz.zeroValue263
 t210:=Tryz.underlying267
 a210:=Tryz.isAgg267
 z210:=Tryz.sizeOf267
 v210:=Tryz.zeroValue267
 t212:=Tryz.underlying282
 a212:=Tryz.isAgg282
 z212:=Tryz.sizeOf282
 v212:=Tryz.zeroValue282
 t213:=Tryz.underlying284
 a213:=Tryz.isAgg284
 z213:=Tryz.sizeOf284
 t232:=Tryz.underlying324
 a232:=Tryz.isAgg324
 z232:=Tryz.sizeOf324
 v232:=Tryz.zeroValue324
 t233:=Tryz.underlying325
 a233:=Tryz.isAgg325
 z233:=Tryz.sizeOf325
 v233:=Tryz.zeroValue325
 g15:=by kernel_rfl
 g16:=by kernel_rfl
 g17:=by kernel_rfl
 g18:=by kernel_rfl
 g19:=by kernel_rfl
 t80:=Tryz.underlying134
 a80:=Tryz.isAgg134
 z80:=Tryz.sizeOf134
 v80:=Tryz.zeroValue134
 i0:=by kernel_rfl
 i2:=by kernel_rfl
 i3:=by kernel_rfl
 i4:=by kernel_rfl
 i5:=by kernel_rfl
 i9:=by kernel_rfl
 i20:=by kernel_rfl
 i21:=by kernel_rfl
 i37:=by kernel_rfl
 i46:=by kernel_rfl
 i51:=by kernel_rfl
 i53:=by kernel_rfl
 i75:=by kernel_rfl
 i76:=by kernel_rfl
 i80:=by kernel_rfl
 i85:=by kernel_rfl
 i127:=by kernel_rfl
 i143:=by kernel_rfl
 i145:=by kernel_rfl
 i167:=by kernel_rfl
 i168:=by kernel_rfl
 i171:=by kernel_rfl
 i173:=by kernel_rfl
 i175:=by kernel_rfl
 i210:=by kernel_rfl
 i212:=by kernel_rfl
 i232:=by kernel_rfl
 i233:=by kernel_rfl
 m15:=by kernel_rfl
 m16:=by kernel_rfl
 m17:=by kernel_rfl
 m18:=by kernel_rfl
 m19:=by kernel_rfl
 c0:=by kernel_rfl
 c2:=by kernel_rfl
 c3:=by kernel_rfl
 c4:=by kernel_rfl
 c5:=by kernel_rfl
 c9:=by kernel_rfl
 c20:=by kernel_rfl
 c21:=by kernel_rfl
 c37:=by kernel_rfl
 c46:=by kernel_rfl
 c51:=by kernel_rfl
 c53:=by kernel_rfl
 c75:=by kernel_rfl
 c76:=by kernel_rfl
 c80:=by kernel_rfl
 c85:=by kernel_rfl
 c127:=by kernel_rfl
 c143:=by kernel_rfl
 c145:=by kernel_rfl
 c167:=by kernel_rfl
 c168:=by kernel_rfl
 c171:=by kernel_rfl
 c173:=by kernel_rfl
 c175:=by kernel_rfl
 c210:=by kernel_rfl
 c212:=by kernel_rfl
 c213:=by kernel_rfl
 c232:=by kernel_rfl
 c233:=by kernel_rfl}
def Tryz.lays219_ren :Go.Shelf.Ren:=⟨fun | 219=>154 | 217=>188 | 225=>189 | 224=>190 | 267=>191 | 266=>211 | 314=>212 | n=>n,fun | 9=>9 | 3=>3 | 4=>4 | 5=>5 | 46=>262 | 146=>289 | 51=>283 | n=>n,fun | 1=>0 | n=>n⟩
theorem Tryz.lays219 :Go.Proofs.Lays.n219 prog Tryz.lays219_ren:={
 mixed:=by kernel_rfl
 f217:=Tryz.func188.trans (congrArg some (by kernel_rfl))
 f219:=Tryz.func154.trans (congrArg some (by kernel_rfl))
 f224:=Tryz.func190.trans (congrArg some (by kernel_rfl))
 f225:=Tryz.func189.trans (congrArg some (by kernel_rfl))
 f266:=Tryz.func211.trans (congrArg some (by kernel_rfl))
 f267:=Tryz.func191.trans (congrArg some (by kernel_rfl))
 f314:=Tryz.func212.trans (congrArg some (by kernel_rfl))
 t3:=Tryz.underlying3
 a3:=Tryz.isAgg3
 z3:=Tryz.sizeOf3
 v3:=Tryz.zeroValue3
 t4:=Tryz.underlying4
 a4:=Tryz.isAgg4
 z4:=Tryz.sizeOf4
 v4:=Tryz.zeroValue4
 t5:=Tryz.underlying5
 a5:=Tryz.isAgg5
 z5:=Tryz.sizeOf5
 v5:=Tryz.zeroValue5
 t9:=Tryz.underlying9
 a9:=Tryz.isAgg9
 z9:=Tryz.sizeOf9
 v9:=Tryz.zeroValue9
 t46:=Tryz.underlying262
 a46:=Tryz.isAgg262
 z46:=Tryz.sizeOf262
 v46:=Tryz.zeroValue262
 t51:=Tryz.underlying283
 a51:=Tryz.isAgg283
 z51:=Tryz.sizeOf283
 v51:=Tryz.zeroValue283
 t146:=Tryz.underlying289
 a146:=Tryz.isAgg289
 z146:=Tryz.sizeOf289
 v146:=Tryz.zeroValue289
 g1:=by kernel_rfl}
def Tryz.lays138_ren :Go.Shelf.Ren:=⟨fun | 138=>82 | 195=>119 | 218=>120 | 143=>118 | 219=>154 | 217=>188 | 225=>189 | 224=>190 | 267=>191 | 266=>211 | 314=>212 | n=>n,fun | 9=>9 | 3=>3 | 4=>4 | 5=>5 | 0=>0 | 46=>262 | 146=>289 | 51=>283 | n=>n,fun | 1=>0 | n=>n⟩
theorem Tryz.lays138 :Go.Proofs.Lays.n138 prog Tryz.lays138_ren:={
 mixed:=by kernel_rfl
 f138:=Tryz.func82.trans (congrArg some (by kernel_rfl))
 f143:=Tryz.func118.trans (congrArg some (by kernel_rfl))
 f195:=Tryz.func119.trans (congrArg some (by kernel_rfl))
 f217:=Tryz.func188.trans (congrArg some (by kernel_rfl))
 f218:=Tryz.func120.trans (congrArg some (by kernel_rfl))
 f219:=Tryz.func154.trans (congrArg some (by kernel_rfl))
 f224:=Tryz.func190.trans (congrArg some (by kernel_rfl))
 f225:=Tryz.func189.trans (congrArg some (by kernel_rfl))
 f266:=Tryz.func211.trans (congrArg some (by kernel_rfl))
 f267:=Tryz.func191.trans (congrArg some (by kernel_rfl))
 f314:=Tryz.func212.trans (congrArg some (by kernel_rfl))
 t0:=Tryz.underlying0
 a0:=Tryz.isAgg0
 z0:=Tryz.sizeOf0
 v0:=Tryz.zeroValue0
 t3:=Tryz.underlying3
 a3:=Tryz.isAgg3
 z3:=Tryz.sizeOf3
 v3:=Tryz.zeroValue3
 t4:=Tryz.underlying4
 a4:=Tryz.isAgg4
 z4:=Tryz.sizeOf4
 v4:=Tryz.zeroValue4
 t5:=Tryz.underlying5
 a5:=Tryz.isAgg5
 z5:=Tryz.sizeOf5
 v5:=Tryz.zeroValue5
 t9:=Tryz.underlying9
 a9:=Tryz.isAgg9
 z9:=Tryz.sizeOf9
 v9:=Tryz.zeroValue9
 t46:=Tryz.underlying262
 a46:=Tryz.isAgg262
 z46:=Tryz.sizeOf262
 v46:=Tryz.zeroValue262
 t51:=Tryz.underlying283
 a51:=Tryz.isAgg283
 z51:=Tryz.sizeOf283
 v51:=Tryz.zeroValue283
 t146:=Tryz.underlying289
 a146:=Tryz.isAgg289
 z146:=Tryz.sizeOf289
 v146:=Tryz.zeroValue289
 g1:=by kernel_rfl}
def Tryz.lays189_ren :Go.Shelf.Ren:=⟨fun | 189=>161 | 125=>196 | 257=>195 | 128=>224 | 129=>207 | 294=>215 | 295=>216 | 296=>217 | 297=>218 | 298=>219 | 299=>220 | 216=>221 | 300=>222 | 301=>223 | 328=>236 | 329=>237 | 330=>238 | 331=>239 | 332=>240 | 215=>241 | 343=>247 | n=>n,fun | 28=>83 | 3=>3 | 46=>262 | 0=>0 | 51=>283 | 53=>247 | 4=>4 | 183=>297 | 182=>296 | 131=>97 | 5=>5 | 9=>9 | 218=>312 | 222=>91 | 228=>326 | 229=>156 | n=>n,fun | n=>n⟩
theorem Tryz.lays189 :Go.Proofs.Lays.n189 prog Tryz.lays189_ren:={
 mixed:=by kernel_rfl
 f125:=Tryz.func196.trans (congrArg some (by kernel_rfl))
 f128:=Tryz.func224.trans (congrArg some (by kernel_rfl))
 f129:=Tryz.func207.trans (congrArg some (by kernel_rfl))
 f189:=Tryz.func161.trans (congrArg some (by kernel_rfl))
 f215:=Tryz.func241.trans (congrArg some (by kernel_rfl))
 f216:=Tryz.func221.trans (congrArg some (by kernel_rfl))
 f257:=Tryz.func195.trans (congrArg some (by kernel_rfl))
 f294:=Tryz.func215.trans (congrArg some (by kernel_rfl))
 f295:=Tryz.func216.trans (congrArg some (by kernel_rfl))
 f296:=Tryz.func217.trans (congrArg some (by kernel_rfl))
 f297:=Tryz.func218.trans (congrArg some (by kernel_rfl))
 f298:=Tryz.func219.trans (congrArg some (by kernel_rfl))
 f299:=Tryz.func220.trans (congrArg some (by kernel_rfl))
 f300:=Tryz.func222.trans (congrArg some (by kernel_rfl))
 f301:=Tryz.func223.trans (congrArg some (by kernel_rfl))
 f328:=Tryz.func236.trans (congrArg some (by kernel_rfl))
 f329:=Tryz.func237.trans (congrArg some (by kernel_rfl))
 f330:=Tryz.func238.trans (congrArg some (by kernel_rfl))
 f331:=Tryz.func239.trans (congrArg some (by kernel_rfl))
 f332:=Tryz.func240.trans (congrArg some (by kernel_rfl))
 f343:=Tryz.func247.trans (congrArg some (by kernel_rfl))
 t0:=Tryz.underlying0
 a0:=Tryz.isAgg0
 z0:=Tryz.sizeOf0
 v0:=Tryz.zeroValue0
 t3:=Tryz.underlying3
 a3:=Tryz.isAgg3
 z3:=Tryz.sizeOf3
 v3:=Tryz.zeroValue3
 t4:=Tryz.underlying4
 a4:=Tryz.isAgg4
 z4:=Tryz.sizeOf4
 v4:=Tryz.zeroValue4
 t5:=Tryz.underlying5
 a5:=Tryz.isAgg5
 z5:=Tryz.sizeOf5
 v5:=Tryz.zeroValue5
 t9:=Tryz.underlying9
 a9:=Tryz.isAgg9
 z9:=Tryz.sizeOf9
 v9:=Tryz.zeroValue9
 t28:=Tryz.underlying83
 a28:=Tryz.isAgg83
 z28:=Tryz.sizeOf83
 v28:=Tryz.zeroValue83
 t46:=Tryz.underlying262
 a46:=Tryz.isAgg262
 z46:=Tryz.sizeOf262
 v46:=Tryz.zeroValue262
 t51:=Tryz.underlying283
 a51:=Tryz.isAgg283
 z51:=Tryz.sizeOf283
 v51:=Tryz.zeroValue283
 t53:=Tryz.underlying247
 a53:=Tryz.isAgg247
 z53:=Tryz.sizeOf247
 v53:=Tryz.zeroValue247
 t131:=Tryz.underlying97
 a131:=Tryz.isAgg97
 z131:=Tryz.sizeOf97
 v131:=Tryz.zeroValue97
 t182:=Tryz.underlying296
 a182:=Tryz.isAgg296
 z182:=Tryz.sizeOf296
 v182:=Tryz.zeroValue296
 t183:=Tryz.underlying297
 a183:=Tryz.isAgg297
 z183:=Tryz.sizeOf297
 v183:=Tryz.zeroValue297
 t218:=Tryz.underlying312
 a218:=Tryz.isAgg312
 z218:=Tryz.sizeOf312
 v218:=Tryz.zeroValue312
 t222:=Tryz.underlying91
 a222:=Tryz.isAgg91
 z222:=Tryz.sizeOf91
 v222:=Tryz.zeroValue91
 t228:=Tryz.underlying326
 a228:=Tryz.isAgg326
 z228:=Tryz.sizeOf326
 v228:=Tryz.zeroValue326
 t229:=Tryz.underlying156
 a229:=Tryz.isAgg156
 z229:=Tryz.sizeOf156
 v229:=Tryz.zeroValue156}
open Go.Sort Go.RowKit in
theorem Tryz.slices_Sort_int (blk off cap:Nat) (zs:List Int) (w:World) (hH:Holds (Value.int .i64) w blk off zs.toArray) (fK:blk<w.heap.size) (hsz:zs.length<4611686018427387904):
  Calls prog 161 #[.slice (some ⟨blk,off,none⟩) zs.length cap] w fun e w'=>
   e=.returned (.tuple #[])/\ ∃n os,w'=grow (putRow (Value.int .i64) (Sort.ahead w n) blk off (zs.mergeSort fun x y=>decide (x<=y)).toArray) os:=Any.slices_Sort_int Tryz.lays189 blk off cap zs w hH fK hsz
def Tryz.lays146_ren :Go.Shelf.Ren:=⟨fun | 146=>44 | 221=>81 | 268=>117 | 138=>82 | 143=>118 | 195=>119 | 197=>153 | 218=>120 | 219=>154 | 260=>187 | 217=>188 | 225=>189 | 224=>190 | 267=>191 | 266=>211 | 314=>212 | n=>n,fun | 9=>9 | 31=>70 | 3=>3 | 4=>4 | 0=>0 | 105=>217 | 21=>21 | 5=>5 | 46=>262 | 119=>285 | 139=>288 | 138=>287 | 146=>289 | 51=>283 | n=>n,fun | 1=>0 | 3=>4 | 4=>5 | n=>n⟩
theorem Tryz.lays146 :Go.Proofs.Lays.n146 prog Tryz.lays146_ren:={
 mixed:=by kernel_rfl
 f138:=Tryz.func82.trans (congrArg some (by kernel_rfl))
 f143:=Tryz.func118.trans (congrArg some (by kernel_rfl))
 f146:=Tryz.func44.trans (congrArg some (by kernel_rfl))
 f195:=Tryz.func119.trans (congrArg some (by kernel_rfl))
 f197:=Tryz.func153.trans (congrArg some (by kernel_rfl))
 f217:=Tryz.func188.trans (congrArg some (by kernel_rfl))
 f218:=Tryz.func120.trans (congrArg some (by kernel_rfl))
 f219:=Tryz.func154.trans (congrArg some (by kernel_rfl))
 f221:=Tryz.func81.trans (congrArg some (by kernel_rfl))
 f224:=Tryz.func190.trans (congrArg some (by kernel_rfl))
 f225:=Tryz.func189.trans (congrArg some (by kernel_rfl))
 f260:=Tryz.func187.trans (congrArg some (by kernel_rfl))
 f266:=Tryz.func211.trans (congrArg some (by kernel_rfl))
 f267:=Tryz.func191.trans (congrArg some (by kernel_rfl))
 f268:=Tryz.func117.trans (congrArg some (by kernel_rfl))
 f314:=Tryz.func212.trans (congrArg some (by kernel_rfl))
 t0:=Tryz.underlying0
 a0:=Tryz.isAgg0
 z0:=Tryz.sizeOf0
 v0:=Tryz.zeroValue0
 t3:=Tryz.underlying3
 a3:=Tryz.isAgg3
 z3:=Tryz.sizeOf3
 v3:=Tryz.zeroValue3
 t4:=Tryz.underlying4
 a4:=Tryz.isAgg4
 z4:=Tryz.sizeOf4
 v4:=Tryz.zeroValue4
 t5:=Tryz.underlying5
 a5:=Tryz.isAgg5
 z5:=Tryz.sizeOf5
 v5:=Tryz.zeroValue5
 t9:=Tryz.underlying9
 a9:=Tryz.isAgg9
 z9:=Tryz.sizeOf9
 v9:=Tryz.zeroValue9
 t21:=Tryz.underlying21
 a21:=Tryz.isAgg21
 z21:=Tryz.sizeOf21
 v21:=Tryz.zeroValue21
 t31:=Tryz.underlying70
 a31:=Tryz.isAgg70
 z31:=Tryz.sizeOf70
 v31:=Tryz.zeroValue70
 t46:=Tryz.underlying262
 a46:=Tryz.isAgg262
 z46:=Tryz.sizeOf262
 v46:=Tryz.zeroValue262
 t51:=Tryz.underlying283
 a51:=Tryz.isAgg283
 z51:=Tryz.sizeOf283
 v51:=Tryz.zeroValue283
 t105:=Tryz.underlying217
 a105:=Tryz.isAgg217
 z105:=Tryz.sizeOf217
 v105:=Tryz.zeroValue217
 t119:=Tryz.underlying285
 a119:=Tryz.isAgg285
 z119:=Tryz.sizeOf285
 t138:=Tryz.underlying287
 a138:=Tryz.isAgg287
 z138:=Tryz.sizeOf287
 v138:=Tryz.zeroValue287
 t139:=Tryz.underlying288
 a139:=Tryz.isAgg288
 z139:=Tryz.sizeOf288
 v139:=Tryz.zeroValue288
 t146:=Tryz.underlying289
 a146:=Tryz.isAgg289
 z146:=Tryz.sizeOf289
 v146:=Tryz.zeroValue289
 g1:=by kernel_rfl
 g3:=by kernel_rfl
 g4:=by kernel_rfl}
def Tryz.laysNm220_ren :Go.Shelf.Ren:=⟨fun | 20=>162 | n=>n,fun | 22=>83 | 3=>3 | 4=>4 | 0=>0 | n=>n,fun | n=>n⟩
theorem Tryz.laysNm220 :Go.Proofs.Lays2.n20 prog Tryz.laysNm220_ren:={
 mixed:=by kernel_rfl
 f20:=Tryz.func162.trans (congrArg some (by kernel_rfl))
 t0:=Tryz.underlying0
 a0:=Tryz.isAgg0
 z0:=Tryz.sizeOf0
 v0:=Tryz.zeroValue0
 t3:=Tryz.underlying3
 a3:=Tryz.isAgg3
 z3:=Tryz.sizeOf3
 v3:=Tryz.zeroValue3
 t4:=Tryz.underlying4
 a4:=Tryz.isAgg4
 z4:=Tryz.sizeOf4
 v4:=Tryz.zeroValue4
 t22:=Tryz.underlying83
 a22:=Tryz.isAgg83
 z22:=Tryz.sizeOf83
 v22:=Tryz.zeroValue83
 i3:=by kernel_rfl}
open Go.RowKit Go.Lib Go.Sort in
theorem Tryz.slices_Compact_int (blk off cap:Nat) (zs:List Int) (w:World) (hH:Holds (Value.int .i64) w blk off zs.toArray) (hsz:zs.length<=9223372036854775807) (eJ:zs.length<=cap):
  Calls prog 162 #[.slice (some ⟨blk,off,none⟩) zs.length cap] w fun e w'=>e=.returned (.slice (some ⟨blk,off,none⟩) (Lib.compact zs).length cap)/\ ∃q,w'=putRow (Value.int .i64) (Sort.ahead w q) blk off (Lib.compact zs++List.replicate (zs.length - (Lib.compact zs).length) 0).toArray :=Any.slices_Compact_int Tryz.laysNm220 blk off cap zs w hH hsz eJ
open Go.RowKit Go.Lib Go.Sort in
theorem Tryz.slices_Compact_int_empty (a:Option Addr) (cap:Nat) (w:World):
  Calls prog 162 #[.slice a 0 cap] w fun e w'=>e=.returned (.slice a 0 cap)/\w'=w:=Any.slices_Compact_int_empty Tryz.laysNm220 a cap w
open Go.RowKit Go.Sort in
theorem Tryz.slices_Sort_int_none (p:Option Addr) (cap:Nat) (w:World):
  Calls prog 161 #[.slice p 0 cap] w fun e w'=>e=.returned (.tuple #[])/\w'=w:=Any.slices_Sort_int_none Tryz.lays189 p cap w
def Tryz.sortEnd_ren :Go.Shelf.Ren:=⟨fun | 6=>244 | 15=>196 | 14=>248 | 28=>224 | 29=>207 | 20=>250 | 21=>251 | 22=>252 | 23=>253 | 24=>254 | 25=>255 | 26=>256 | 27=>257 | 46=>258 | 47=>237 | 48=>238 | 49=>259 | 50=>260 | 57=>261 | n=>n,fun | 22=>319 | 24=>311 | 25=>321 | 3=>3 | 39=>262 | 0=>0 | 53=>283 | 55=>247 | 4=>4 | 46=>297 | 45=>296 | 50=>97 | 5=>5 | 9=>9 | 66=>312 | 70=>91 | 76=>326 | 77=>156 | n=>n,fun | n=>n⟩
theorem Tryz.sortEnd :Go.Proofs.SlLaysF0.n6 prog Tryz.sortEnd_ren:={
 mixed:=by kernel_rfl
 f6:=⟨Tryz.f244.name,by decide,Tryz.func244.trans (congrArg some (by kernel_rfl))⟩
 f14:=⟨Tryz.f248.name,by decide,Tryz.func248.trans (congrArg some (by kernel_rfl))⟩
 f15:=Tryz.func196.trans (congrArg some (by kernel_rfl))
 f20:=⟨Tryz.f250.name,by decide,Tryz.func250.trans (congrArg some (by kernel_rfl))⟩
 f21:=⟨Tryz.f251.name,by decide,Tryz.func251.trans (congrArg some (by kernel_rfl))⟩
 f22:=⟨Tryz.f252.name,by decide,Tryz.func252.trans (congrArg some (by kernel_rfl))⟩
 f23:=⟨Tryz.f253.name,by decide,Tryz.func253.trans (congrArg some (by kernel_rfl))⟩
 f24:=⟨Tryz.f254.name,by decide,Tryz.func254.trans (congrArg some (by kernel_rfl))⟩
 f25:=⟨Tryz.f255.name,by decide,Tryz.func255.trans (congrArg some (by kernel_rfl))⟩
 f26:=⟨Tryz.f256.name,by decide,Tryz.func256.trans (congrArg some (by kernel_rfl))⟩
 f27:=⟨Tryz.f257.name,by decide,Tryz.func257.trans (congrArg some (by kernel_rfl))⟩
 f28:=Tryz.func224.trans (congrArg some (by kernel_rfl))
 f29:=Tryz.func207.trans (congrArg some (by kernel_rfl))
 f46:=⟨Tryz.f258.name,by decide,Tryz.func258.trans (congrArg some (by kernel_rfl))⟩
 f47:=Tryz.func237.trans (congrArg some (by kernel_rfl))
 f48:=Tryz.func238.trans (congrArg some (by kernel_rfl))
 f49:=⟨Tryz.f259.name,by decide,Tryz.func259.trans (congrArg some (by kernel_rfl))⟩
 f50:=⟨Tryz.f260.name,by decide,Tryz.func260.trans (congrArg some (by kernel_rfl))⟩
 f57:=⟨Tryz.f261.name,by decide,Tryz.func261.trans (congrArg some (by kernel_rfl))⟩
 t0:=Tryz.underlying0
 a0:=Tryz.isAgg0
 z0:=Tryz.sizeOf0
 v0:=Tryz.zeroValue0
 t3:=Tryz.underlying3
 a3:=Tryz.isAgg3
 z3:=Tryz.sizeOf3
 v3:=Tryz.zeroValue3
 t4:=Tryz.underlying4
 a4:=Tryz.isAgg4
 z4:=Tryz.sizeOf4
 v4:=Tryz.zeroValue4
 t5:=Tryz.underlying5
 a5:=Tryz.isAgg5
 z5:=Tryz.sizeOf5
 v5:=Tryz.zeroValue5
 t9:=Tryz.underlying9
 a9:=Tryz.isAgg9
 z9:=Tryz.sizeOf9
 v9:=Tryz.zeroValue9
 t22:=Tryz.underlying319
 a22:=Tryz.isAgg319
 z22:=Tryz.sizeOf319
 v22:=Tryz.zeroValue319
 t25:=Tryz.underlying321
 a25:=Tryz.isAgg321
 z25:=Tryz.sizeOf321
 v25:=Tryz.zeroValue321
 t39:=Tryz.underlying262
 a39:=Tryz.isAgg262
 z39:=Tryz.sizeOf262
 v39:=Tryz.zeroValue262
 t45:=Tryz.underlying296
 a45:=Tryz.isAgg296
 z45:=Tryz.sizeOf296
 v45:=Tryz.zeroValue296
 t46:=Tryz.underlying297
 a46:=Tryz.isAgg297
 z46:=Tryz.sizeOf297
 v46:=Tryz.zeroValue297
 t50:=Tryz.underlying97
 a50:=Tryz.isAgg97
 z50:=Tryz.sizeOf97
 v50:=Tryz.zeroValue97
 t53:=Tryz.underlying283
 a53:=Tryz.isAgg283
 z53:=Tryz.sizeOf283
 v53:=Tryz.zeroValue283
 t55:=Tryz.underlying247
 a55:=Tryz.isAgg247
 z55:=Tryz.sizeOf247
 v55:=Tryz.zeroValue247
 t66:=Tryz.underlying312
 a66:=Tryz.isAgg312
 z66:=Tryz.sizeOf312
 v66:=Tryz.zeroValue312
 t70:=Tryz.underlying91
 a70:=Tryz.isAgg91
 z70:=Tryz.sizeOf91
 v70:=Tryz.zeroValue91
 t76:=Tryz.underlying326
 a76:=Tryz.isAgg326
 z76:=Tryz.sizeOf326
 v76:=Tryz.zeroValue326
 t77:=Tryz.underlying156
 a77:=Tryz.isAgg156
 z77:=Tryz.sizeOf156
 v77:=Tryz.zeroValue156}
def Tryz.lays240_ren :Go.Shelf.Ren:=⟨fun | 240=>108 | 276=>145 | n=>n,fun | 0=>0 | 4=>4 | 9=>9 | 20=>20 | 70=>72 | 72=>75 | 164=>210 | 37=>73 | n=>n,fun | n=>n⟩
theorem Tryz.lays240 :Go.Proofs.Lays.n240 prog Tryz.lays240_ren:={
 mixed:=by kernel_rfl
 f240:=Tryz.func108.trans (congrArg some (by kernel_rfl))
 f276:=Tryz.func145.trans (congrArg some (by kernel_rfl))
 t0:=Tryz.underlying0
 a0:=Tryz.isAgg0
 z0:=Tryz.sizeOf0
 v0:=Tryz.zeroValue0
 t4:=Tryz.underlying4
 a4:=Tryz.isAgg4
 z4:=Tryz.sizeOf4
 v4:=Tryz.zeroValue4
 t9:=Tryz.underlying9
 a9:=Tryz.isAgg9
 z9:=Tryz.sizeOf9
 v9:=Tryz.zeroValue9
 t20:=Tryz.underlying20
 a20:=Tryz.isAgg20
 z20:=Tryz.sizeOf20
 v20:=Tryz.zeroValue20
 t70:=Tryz.underlying72
 a70:=Tryz.isAgg72
 z70:=Tryz.sizeOf72
 v70:=Tryz.zeroValue72
 t72:=Tryz.underlying75
 a72:=Tryz.isAgg75
 z72:=Tryz.sizeOf75
 v72:=Tryz.zeroValue75
 t164:=Tryz.underlying210
 a164:=Tryz.isAgg210
 z164:=Tryz.sizeOf210
 v164:=Tryz.zeroValue210
}
theorem Tryz.Builder_X72_240 :Builder.X72 prog Tryz.lays240_ren where
 sizeBuilder:=by kernel_rfl
 liesBuilder:=by kernel_rfl
end Go.Proofs
namespace Go.Am
open IntKind (wrap)
open Go.Proofs.Tryz
open Go.Proofs
theorem Sm :j6i prog:=fun _ b p v w l eC hbk hv=>by
 rcases hv with ⟨rfl,rfl⟩ | ⟨g,o,c,cur,rfl,hlc,hg,hn,hc⟩
 .refine (x2o Tryz.lays169 Tryz.Builder_Extra_169 b p w hbk).mono fun e w' ⟨he,hw⟩=>⟨he,?_⟩
  subst hw;exact ⟨Aj _,fun k o hk _=>hk,rfl,rfl,rfl⟩
 .cases l with
  | nil=>
   by_cases hc0:c=0
   .subst hc0;refine (y4c Tryz.lays169 Tryz.Builder_Extra_169 b p w g o cur hbk hg).mono fun e w' ⟨he,hw⟩=>⟨he,?_⟩
    subst hw;refine ⟨?_,fun k ob hk _=> ?_,rfl,rfl,rfl⟩
    .show w.heap.size<=(w.heap.push _).size;rw [Array.size_push];exact BY _
    .show (w.heap.push _)[k]? =_;rw [BT,Az (Bj (AB.1 hk).1)];exact hk
   .refine (y9v Tryz.lays169 Tryz.Builder_Extra_169 b p w g o c hc0 hbk).mono fun e w' ⟨he,hw⟩=>⟨he,?_⟩
    subst hw;exact ⟨Aj _,fun k o hk _=>hk,rfl,rfl,rfl⟩
  | cons x r=>
   refine (y9u Tryz.lays169 Tryz.Builder_Extra_169 b p w g o c cur (x::r) (by simp) hlc eC hbk hg (hn (by simp)) hc).mono fun e w' ⟨he,hw⟩=>⟨he,?_⟩
   subst hw;obtain ⟨f1,f2,f3,f4⟩:=y9t w.drew ⟨g,o,none⟩ (x::r).length;exact ⟨B0 f1.symm,fun k ob hk hne=>(v2p w.drew g o _ k (hne g o _ c rfl)).trans hk,f2,f3,f4⟩
def OG (P:Program):Bool:=P.funcs.toList.all fun fn=>fn.body.isNone|| !(fn.name == "runtime.NumGoroutine")
theorem u2a {P:Program} (h:OG P=true) (hs:j6i P):EC P:=by
 refine ⟨fun f fn hf hb=> ?_,hs⟩;have hm:fn∈P.funcs.toList:=by rw [Array.mem_toList_iff];exact Array.mem_of_getElem? hf
 have:=Ax.mp h fn hm;cases hbb:fn.body with
 | none=>rw [hbb] at hb;cases hb
 | some b=>simpa [hbb] using this
theorem Tk :EC prog:=u2a (by kernel_rfl) Sm
theorem mixed :prog.follows .mixedOrders =true:=by kernel_rfl
end Go.Am
namespace Go.Am
open IntKind (wrap)
open Go.Proofs.Tryz
open Go.Proofs
instance {α :Type} [Xg α]:Xg (List α) where
 w:=1
 d:=[]
 cells l:=[.dat l.length (Zz l)]
 of cs:=match cs.getD 0 .undef with
  | .dat n g=>CG α n g
  | _=>[]
 len _:=rfl
 pos:=Aj 1
 flat _:=rfl
 sc _:=rfl
 back l:=Zr l
theorem x9g {α:Type} [Xg α] {L:List α} {n off sz:Nat} {cells:zx} (hn:n=L.length) (hsz:sz=Xg.w α) (hc:(cells.drop off).take (n*sz)=(L.map Xg.cells).flatten):Ub n (X4 cells off sz) (Zz L)=true:=Xj fun i hi=>by
 have e:((((cells.drop off).take (n*sz)).drop (i*sz)).take sz)=(cells.drop (off+i*sz)).take sz:=by rw [List.drop_take,List.take_take,List.drop_drop,Nat.min_eq_left];have:=AD sz (show i+1<=n by omega);rw [AV,BZ] at this;omega
 have h:=Zl (sz:=sz) (L.map Xg.cells) i (fun x hx=>by obtain ⟨y,_,rfl⟩:=List.mem_map.1 hx;rw [Xg.len,hsz]) (by simpa using by omega);unfold X4;rw [<-e,hc,h];simp only [Zz];rw [Wv (show i<L.length by omega),A9,BK,At (show i<L.length by omega)];rfl
theorem v9d {G H:Nat->zx} (h:G 0=H 0):Ub 1 G H=true:=Xj fun i hi=>by
 obtain rfl:i=0:=by omega
 exact h
theorem v0d {L:zx} (s t:Nat) (h:L.all (pf 6)=true):Cv (fun k=>(L.drop (k*s)).take t)=true:=Xj fun i=>
 Ax.2 fun v hv=>Ax.1 h v (List.mem_of_mem_drop (List.mem_of_mem_take hv))
structure OB where
 b:Bool
 h:b=true
def nn :OB:=⟨true,rfl⟩
def pp (q r:OB):OB:=⟨q.b&&r.b,QR q.h r.h⟩
def tt {c v:Bool} (k:c=v) (r:OB):OB:=⟨(c == v)&&r.b,QR (v4w k) r.h⟩
def ww {c:Bool} (k:c=true) (r:OB):OB:=⟨c&&r.b,QR k r.h⟩
def fl {α:Type} [Xg α] (L:List α) (r:OB):OB:=⟨Cv (Zz L)&&r.b,QR (Xh L) r.h⟩
def xw {c:Bool} (k:c=true):OB:=⟨c,k⟩
def xI (α:Type) [Xg α] (n:Nat) (g:Nat->zx) (h:CV α n g=true:=by first | with_reducible exact VM _ _ | exact VM _ _ | exact w5s _ | exact x7e _ _ _ | assumption | exact u2z _ rfl | exact u2y _ rfl rfl):OB:=⟨CV α n g,h⟩
def xr {α:Type} [Xg α] (L:List α):OB:=⟨CV α L.length (Zz L),VM L _⟩
def xL (a b:Nat) (h:HU a b=true:=by first | exact Yc rfl | exact Yc (by simp +zetaDelta only [Ap,Aq,AF,AX,U3,Yj,List.length_replicate] <;> omega) | assumption):OB:=⟨HU a b,h⟩
def xS (n:Nat) (G H:Nat->zx) (h:Ub n G H=true:=by
  repeat' (first | exact Vd _ _ | assumption | exact v2q _ _ | exact v9d rfl | exact Jt | exact x9g rfl rfl rfl | rfl | (refine Gj ?_ ?_ rfl rfl rfl) | (refine w4k ?_ ?_ rfl) | exact v2r _ _ _ | (refine v9e ?_ ?_ ?_ (Nat.min_le_left _ _)) | exact w7r (by repeat' (first | exact Vd _ _ | (refine Gj ?_ ?_ rfl rfl rfl) | (refine w4k ?_ ?_ rfl) | (simp +zetaDelta only [Ap,Aq,AF,AX,U3];done) | omega)) (by assumption) | (refine Qv ?_ ?_ ?_ rfl) | exact Qu (Vd _ _) rfl | apply Ur | exact v9c rfl rfl | exact Ak _ | (simp +zetaDelta only [Ap,Aq,AF,AX,U3,Yj,List.length_replicate] <;> omega))):OB:=⟨Ub n G H,h⟩
def xF (G:Nat->zx) (h:Cv G=true:=by
  repeat' (first | with_reducible exact Xh _ | apply v6l | apply v6i | apply v6k | apply v6j | exact Xh _ | exact v0e | exact w2n _ _ | exact v0d _ _ rfl | apply y7x | rfl | assumption)):OB:=⟨Cv G,h⟩
def xZ (v:B5) (n:Nat) (g:Nat->zx) (h:ST v n g=true:=by first | exact u3f _ _ _ | exact v6d _ _):OB:=⟨ST v n g,h⟩
def xG (c:Bool) (h:c=true:=by
  repeat' (first | with_reducible (first | assumption | exact Bu _ | exact x6p _ | exact u1z _ | exact v5d _ | exact u3t _ | exact v5e _ | apply QR | apply v4w) | rfl | exact u3a _ | exact v0r _ _ rfl | exact v0s _ _ _ rfl | exact v5o _ _ rfl | exact w9r rfl | exact u0a rfl rfl (fun _=>rfl) | (refine w3a ?_ (by assumption)) | (refine v7f ?_ rfl rfl rfl) | exact VM _ _ | exact w5s _ | exact x7e _ _ _ | exact Xh _ | apply y7x | apply QR | apply v4w)):OB:=⟨c,h⟩
def II (n:Nat) (l:List BP):List BP:=Nat.rec l (fun _ r=>.keep ::r) n
abbrev tn (n:Int):Nat:=Int.toNat n
abbrev ii (n:Int):B5:=.int .i64 n
abbrev wr (n:Int):Int:=wrap .i64 n
def CC (n:Nat) (l:List Bool):List Bool:=Nat.rec l (fun _ r=>true::r) n
abbrev b7:GZ:=⟨[],[],[]⟩
abbrev b8 (l:zw):Cj:=⟨[],[],[some l],[]⟩
theorem sl {S:B7} (hS:Zv prog S) (n:Nat) (gs:List (TypeId×Nat×(Nat->zx))) (N:Cj) (L:GZ) (orc:List Bool) (ob:OB) {C C':CH}
  (h:(((X6 prog S (Ml prog S 100000 4) n (C.withO orc)).map (XJ gs)).bind (YC prog N)).map (QU L)=some (C'.withB ob.b):=by kernel_rfl) (hfl:UD C=true:=by rfl):DC prog C C':=
 v8p Tk mixed hS gs N L orc ob.b h ob.h hfl
def rC (n f:Nat) (p:zw) (j r:Nat) (env:List (Nat×B5)):CH:=⟨⟨n,0,true⟩,none,Zf prog f p j,none,Zy prog r,⟨Yh env,Wd [] 0,0,[],true⟩,[],.leaf⟩
theorem lr {σ:Type} {cfg:σ->CH} {C:CH} {rs:List ResultVar} {vs:zx} (n f:Nat) (p:zw) (j r:Nat) (env:List (Nat×B5)) (h:DC prog C (rC n f p j r env)) (hf:G3 (rC n f p j r env)=true:=by rfl)
  (hr:Qh prog (rC n f p j r env).st rs=some vs:=by kernel_rfl):Wu prog rs cfg C (.ret vs):=Jy _ h hf hr
theorem lb {rs:List ResultVar} {σ:Type} {cfg:σ->CH} {C:CH} {c:Bool} {a b:Xy σ} (ha:c=true->Wu prog rs cfg C a) (hb:c=false->Wu prog rs cfg C b):Wu prog rs cfg C (bif c then a else b):=w5q ha hb
theorem lo {rs:List ResultVar} {σ:Type} {cfg:σ->CH} {C:CH} {c:Bool} {a:Xy σ} (ha:c=true->Wu prog rs cfg C a):Wu prog rs cfg C (bif c then a else .stuck):=u2p ha
def By :Type:=UInt8
abbrev zo:=List By
def yI (b:By):Int:=((b:UInt8).toNat :Int)
def yB (n:Int):By:=UInt8.ofNat n.toNat
def CJ (s:zy):zo:=s
abbrev byS (s:zo):zy:=s
theorem Ir (b:By):yB (yI b)=b:=by show UInt8.ofNat (((b:UInt8).toNat :Int)).toNat =b;rw [Int.toNat_natCast];exact UInt8.ofNat_toNat
instance : Xg By where
 w:=1
 d:=(0:UInt8)
 cells b:=[.int .u8 (yI b)]
 of l:=yB (Cn (l.getD 0 .undef))
 len _:=rfl
 pos:=Aj 1
 flat _:=rfl
 sc _:=rfl
 back b:=Ir b
def sOf :B5->zy
 | .str s=>s
 | _=>[]
instance (priority :=high) instStr:Xg zy where
 w:=1
 d:=[]
 cells s:=[.str s]
 of l:=sOf (l.getD 0 .undef)
 len _:=rfl
 pos:=Aj 1
 flat _:=rfl
 sc _:=rfl
 back _:=rfl
theorem v8l (b:By):0<=yI b/\yI b<256:=by have:=UInt8.toNat_lt (b:UInt8);unfold yI;omega
theorem Io (s:zy):Ub s.length (Uk s) (Zz (CJ s))=true:=Xj fun i hi=>by have h:rd (CJ s) i=s[i]'hi:=Wv (L:=CJ s) hi;show [B5.int .u8 (CW s i)]=[B5.int .u8 (yI (rd (CJ s) i))];rw [h];simp [CW,yI,List.getD,At hi]
theorem w7b (l:zo) (n:Nat) (hn:n=l.length):Fa n (Zz l)=byS l:=by
 subst hn;unfold Fa;refine Bt (by rw [BW,List.length_range];rfl) fun i h1 h2=> ?_;rw [BQ,List.getElem_range];have hi:i<l.length:=by rw [BW,List.length_range] at h1;exact h1
 show MV (([B5.int .u8 (yI (rd l i))]).getD 0 .undef)=_;rw [Wv hi];show MV (B5.int .u8 (yI l[i]))=_;exact Ir _
theorem x7f (b:By):Iv (.int .u8 (yI b))=true:=by have h:=v8l b;unfold Iv;exact Aa h
theorem x7p (l:zo) (n:Nat):R1 n (Zz l)=true:=HG fun k _=>⟨_,rfl,x7f _⟩
theorem x4a (l:zo) (n:Nat):R1 n (fun k=>Zz l (0+k))=true:=HG fun k _=>⟨_,rfl,x7f _⟩
def xY (n:Nat) (g:Nat->zx) (h:R1 n g=true:=by first | exact x4a _ _ | exact x7p _ _ | assumption):OB:=⟨R1 n g,h⟩
theorem x8v (l:zo) (n:Nat) (hn:n=l.length):Fa n (fun k=>Zz l (0+k))=byS l:=by
 have:(fun k=>Zz l (0+k))=Zz l:=funext fun k=>by rw [Ak]
 rw [this,w7b l n hn]
theorem Xu (s:zy):(CJ s).length =s.length:=rfl
theorem Kt {α:Type} [Xg α] {L:List α} {n:Nat}:Ub n (Zz L) (Zz (Vy L 0 n))=true:=Xj fun i hi=>by show Xg.cells (rd L i)=Xg.cells (rd (Vy L 0 n) i);rw [VX hi,Ak]
abbrev UA :Nat:=154
abbrev Tt :Nat:=122
abbrev UG :Nat:=79
abbrev UH :Nat:=82
abbrev OT :Nat:=73
abbrev Mt :Nat:=44
abbrev O7 :Nat:=70
abbrev P1 :Nat:=85
abbrev PW :Nat:=108
abbrev Tl :Nat:=67
abbrev Ts :Nat:=45
abbrev Tr :Nat:=84
abbrev TJ :Nat:=77
abbrev TK :Nat:=50
abbrev Sx :Nat:=87
abbrev TO :Nat:=52
abbrev TB :Nat:=53
abbrev TS :Nat:=36
abbrev Sr :Nat:=33
abbrev Sd :Nat:=10
abbrev Sv :Nat:=11
abbrev T0 :Nat:=12
abbrev TE :Nat:=13
abbrev TH :Nat:=39
abbrev Sz :Nat:=38
abbrev UB :Nat:=9
abbrev Ss :Nat:=14
abbrev UE :Nat:=56
abbrev TL :Nat:=25
abbrev GV :Nat:=78
abbrev OD :Nat:=125
abbrev Tq :Nat:=59
abbrev TP :Nat:=21
abbrev Sn :Nat:=24
abbrev NX :Nat:=49
abbrev TA :Nat:=51
abbrev NO :Nat:=88
abbrev u4r :Nat:=58
abbrev v5g :Nat:=180
abbrev u7o :Nat:=185
abbrev u7i :Nat:=186
abbrev u7m :Nat:=183
abbrev LM :Nat:=184
abbrev u7h :Nat:=151
abbrev nXs :Nat:=181
abbrev nYs :Nat:=182
abbrev u7l :Nat:=149
abbrev u7g :Nat:=31
abbrev nAt :Nat:=150
abbrev LN :Nat:=148
abbrev u7k :Nat:=113
abbrev v5i :Nat:=76
abbrev Tp :Nat:=203
abbrev To :Nat:=168
abbrev Tn :Nat:=103
abbrev u7f :Nat:=244
abbrev w5g :Nat:=245
abbrev LK :Nat:=161
abbrev w5h :Nat:=162
abbrev Tm :Nat:=229
abbrev x6s :Nat:=200
abbrev w5f :Nat:=140
abbrev v5h :Nat:=167
abbrev w5e :Nat:=166
abbrev w5d :Nat:=101
abbrev x6t :Nat:=61
abbrev LL :Nat:=60
abbrev u7j :Nat:=97
abbrev u7n :Nat:=95
end Go.Am
namespace Go.Am
open IntKind (wrap)
open Go.Proofs Go.Sort
theorem Gk {P:Program} {S:B7} (hS:Zv P S) {f:FuncId} {F:zx->Option (B5×Bool)} (hf:(P.funcs[f]?).any (fun fn=>fn.body.isSome)=true) (hF:Q6 P f F):Zv P (S.with f F):=by
 intro g G hg;unfold B7.with at hg;cases hgf:Nat.beq g f with
 | false=>rw [hgf] at hg;exact hS g G hg
 | true=>
  rw [hgf] at hg;obtain rfl:OX.val F=G:=Ag hg;obtain rfl:g=f:=Ai hgf;refine ⟨?_,hF⟩;cases hfn:P.funcs[g]? with
  | none=>rw [hfn] at hf;cases hf
  | some fn=>rw [hfn] at hf;exact ⟨fn,rfl,hf⟩
theorem x4t {P:Program} {S:B7} (hS:Zv P S) {f:FuncId} {F:zx->CE->Option (B5×Nat×CA×Bool)} (hf:(P.funcs[f]?).any (fun fn=>fn.body.isSome)=true) (hF:Gm P f F):Zv P (fun g=>bif Nat.beq g f then some (.eff F) else S g):=by
 intro g G hg;cases hgf:Nat.beq g f with
 | false=>simp only [hgf,Ab] at hg;exact hS g G hg
 | true=>
  simp only [hgf,Af] at hg;obtain rfl:OX.eff F=G:=Ag hg;obtain rfl:g=f:=Ai hgf;refine ⟨?_,hF⟩;cases hfn:P.funcs[g]? with
  | none=>rw [hfn] at hf;cases hf
  | some fn=>rw [hfn] at hf;exact ⟨fn,rfl,hf⟩
theorem RN {P:Program} {f:FuncId} {F:zx->Option (B5×Bool)}
  (h: ∀args v,F args=some (v,true)-> ∀(H:Do) (vals:Array Value) (w:World),Ux (Zn (DI H)) args vals.toList->(∀k o,H k=some o->w.heap[k]? =some o)->Glob H->Calls P f vals w fun e w'=> ∃u,e=.returned u/\Zn (DI H) v u/\RowKit.Below w.heap.size w w'):Q6 P f F:=
 fun args v hv H vals w eD hH hG=>(h args v hv H vals w eD hH hG).mono fun e w' ⟨u,he,hu,hb⟩=>⟨H,u,fun _ _ h=>h,fun k o e=>by rw [hb.block k (AB.1 (hH k o e)).1];exact hH k o e,fun _ _=>rfl,he,hu,hb⟩
open Go.Proofs.Tryz
open Go.Lib
def IY (args:zx) (mem:CE):Option (B5×Nat×CA×Bool):=match args with
 | [.ptr b 0]=>match Yi mem b with
  | some ⟨.obj .bld ::r,ty,none⟩=>some (.tup [],b,⟨.obj .bld ::r,ty,none⟩,Nat.beq ty DN)
  | _=>none
 | _=>none
theorem y9s {w:World} {k:Nat} {c:Array Value} {el:TypeId} {fz:Nat×Nat} (h:w.heap[k]? =some (.cells c el fz)) (v:Value):w.setCell ⟨k,0,none⟩ v=w.putObj k (.cells (c.setIfInBounds 0 v) el fz):=by
 unfold World.setCell World.putObj
 congr 1
 apply Array.ext_getElem?;intro i;rw [BB,Array.getElem?_setIfInBounds];split
 .rename_i e;subst e;have hlt:=(AB.1 h).1;show Option.map _ w.heap[k]? =_;rw [h,AG hlt];rfl
 .rfl
theorem v7j :Gm prog PW IY:=by
 intro args mem v b blk h gD ρ next floor vals w hfl eD eB
 unfold IY at h;split at h
 .rename_i b0;split at h
  .rename_i r ty hm;simp only [Ae,Ac] at h;obtain ⟨rfl,rfl,rfl,hty⟩:=h;obtain rfl:ty=DN:=Ai hty;obtain ⟨l,hl,fG⟩: ∃l,ρ b0=some l/\vals= #[.pointer (some ⟨l.blk,l.base+0,none⟩)]:=by
    obtain ⟨vl⟩:=vals;cases eD with
    | cons h1 h2=>
     cases h2;cases h1 with
     | ptr _ _ l e=>exact ⟨l,e,rfl⟩
   have hk:=eB.blk b0 l _ hl hm;cases hk with
   | plain k=>exact absurd k.noObj (by simp [CA.isObj])
   | obj o r' ty' e1 e2 e3=>
    simp only [CA.mk.injEq,Bk,B5.obj.injEq,B2] at e1;obtain ⟨⟨rfl,rfl⟩,rfl⟩:=e1;obtain ⟨buf,v,p,rfl,hb,hv,hp⟩:=e3;have fO:l.base=0:=(by rw [e2]);rw [fO] at fG;subst fG;have hev: ∀p',(p'=none\/p'=some (⟨l.blk,0,none⟩:Addr))->HL ρ DN l.blk [buf] .bld (some (.cells #[.pointer p',v] DN (0,0))):=fun p' h=>⟨buf,v,p',rfl,rfl,hv,h⟩
    rcases hp with rfl | rfl
    .refine (Any.Builder_copyCheck_fresh Tryz.lays240 Tryz.Builder_X72_240 l.blk w (by simp [World.cell?,hb]) (by simp [World.shape?,hb];rfl) (by simp [World.frozen?,hb])).mono fun e w' ⟨he,hw⟩=>⟨_,he,.tup [] #[] rfl (fun i h=>absurd h (AJ _)),?_⟩
     rw [y9s hb] at hw;subst hw;exact ⟨eB.setObj hl hm rfl rfl _ (hev _ (.inr rfl)),Ev.ofObj eB hl hfl _ _⟩
    .refine (Any.Builder_copyCheck_used Tryz.lays240 Tryz.Builder_X72_240 l.blk w (by simp [World.cell?,hb])).mono fun e w' ⟨he,hw⟩=>⟨_,he,.tup [] #[] rfl (fun i h=>absurd h (AJ _)),?_⟩
     subst hw;have fN:w'.putObj l.blk (.cells #[.pointer (some ⟨l.blk,0,none⟩),v] DN (0,0))=w':=by
      have hlt:=(AB.1 hb).1;have:w'.heap.setIfInBounds l.blk (.cells #[.pointer (some ⟨l.blk,0,none⟩),v] DN (0,0))=w'.heap:=by
       apply Array.ext_getElem?;intro i;rw [Array.getElem?_setIfInBounds];split
       .rename_i e;subst e;rw [hb]
       .rfl
      unfold World.putObj;rw [this]
     have A:=eB.setObj hl hm rfl rfl _ (hev _ (.inr rfl));have B:=Ev.ofObj eB hl hfl (some ⟨[.obj .bld,buf],DN,none⟩) (.cells #[.pointer (some ⟨l.blk,0,none⟩),v] DN (0,0));rw [fN] at A B;exact ⟨A,B⟩
  .cases h
 .cases h
def Wg (n:Int):zy:=itoa n
def Yd (n:Int):Bool:=decide (-9223372036854775808<=n/\n<=9223372036854775807)
def IV :zx->Option (B5×Bool)
 | [.int .i64 n]=>some (.str (Wg n),Yd n)
 | _=>none
theorem w3l (w:World) (k:Nat) (os:Array Obj):RowKit.Below w.heap.size w (grow (w.drewN k) os):=
 ⟨rfl,rfl,rfl,by show _<=(w.heap++os).size;rw [Array.size_append];exact Nat.le_add_right _ _,fun k hk=>by show (w.heap++os)[k]? =_;rw [Array.getElem?_append_left hk]⟩
theorem v4t {H:Do} {w:World} (hH: ∀k o,H k=some o->w.heap[k]? =some o) (hG:Glob H):Lib.TabIs prog w "internal/strconv.uint64pow10" .u64 Lib.pow10Tab:=by
 obtain ⟨el,fz,e⟩:=hG.pow (gpow.headD 0) (by decide);have h:prog.globalNamed "internal/strconv.uint64pow10" =some (gpow.headD 0):=by kernel_rfl
 unfold Lib.TabIs World.var?;rw [h];show (match w.heap[gpow.headD 0]? with | some (.cells cs _ _)=>some cs | _=>none)=_;rw [hH _ _ e];show some pow10A=_;unfold pow10A Lib.pow10Tab;rw [List.map_map];rfl
theorem u7z :Q6 prog O7 IV:=RN fun args v hv H vals w eD hH hG=>by
 unfold IV at hv;split at hv
 .rename_i n;simp only [Ae,Ac] at hv;obtain ⟨rfl,ho⟩:=hv;have ho: -9223372036854775808<=n/\n<=9223372036854775807:=Aw ho;obtain rfl:vals= #[.int .i64 n]:=by
   obtain ⟨vl⟩:=vals;cases eD with
   | cons h1 h2=>cases h2;cases h1;rfl
  refine (Any.strconv_Itoa Tryz.laysM171 n ho.1 ho.2 w (v4t hH hG)).mono fun e w' ⟨he,k,os,hw⟩=>⟨_,he,.str _,?_⟩
  subst hw;exact w3l w k os
 .cases hv
def Jp (s sep:zy):List zy:=split s sep
def Ji (s sep:zy):Bool:=Nat.beq sep.length 1&&decide (s.length<4294967281)
def IQ :zx->Option (B5×Bool)
 | [.str s,.str sep]=>some (.dat (Jp s sep).length (Zz (Jp s sep)),Ji s sep)
 | _=>none
theorem u4y :Q6 prog Mt IQ:=by
 intro args v hv H vals w eD hH hG;unfold IQ at hv;split at hv
 .rename_i s sep;simp only [Ae,Ac] at hv;obtain ⟨rfl,ho⟩:=hv;unfold Ji at ho;rw [Ad] at ho;have h1:=Ai ho.1;have h2:s.length<4294967281:=Aw ho.2;obtain ⟨b,rfl⟩: ∃b,sep=[b]:=by
   match sep,h1 with
   | [b],_=>exact ⟨b,rfl⟩
  obtain rfl:vals= #[.string ⟨s.toArray⟩,.string ⟨#[b]⟩]:=by
   obtain ⟨vl⟩:=vals;cases eD with
   | cons h1 h2=>cases h2 with
    | cons h2 h3=>cases h3;cases h1;cases h2;rfl
  refine (v9b Tryz.lays146 (by kernel_rfl) ⟨s.toArray⟩ b w (by simpa [ByteArray.size] using h2)).mono fun e w' ⟨he,hw⟩=> ?_;subst hw;have hd:=Lib.splitB_data ⟨#[b]⟩ 0 (Lib.countB ⟨s.toArray⟩ ⟨#[b]⟩) ⟨s.toArray⟩;have hs:(Lib.splitB ⟨#[b]⟩ 0 (Lib.countB ⟨s.toArray⟩ ⟨#[b]⟩) ⟨s.toArray⟩).map (·.data.toList)=Jp s [b]:=hd;generalize hB:Lib.splitB ⟨#[b]⟩ 0 (Lib.countB ⟨s.toArray⟩ ⟨#[b]⟩) ⟨s.toArray⟩=B at he hs;have eC:B.length=Lib.countB ⟨s.toArray⟩ ⟨#[b]⟩+1:=by rw [<-hB];exact Lib.splitB_all ⟨#[b]⟩ (Aj 1) 0 _ _ rfl
  have hlenV:(Jp s [b]).length =B.length:=by rw [<-hs,BW]
  have hnone:H w.heap.size=none:=by
   cases hh:H w.heap.size with
   | none=>rfl
   | some o=>exact absurd (AB.1 (hH _ _ hh)).1 (Nat.lt_irrefl _)
  refine ⟨fun k=>if k=w.heap.size then some (.cells (B.map Value.string).toArray (Tryz.lays146_ren.t 9) (0,0)) else H k,_,fun k o hk=> ?_,fun k o hk=> ?_,fun k hk=>Az (Bj hk),he,?_,?_⟩
  .exact (Az (by intro e;rw [e,hnone] at hk;cases hk)).trans hk
  .dsimp only at hk;split at hk
   .rename_i e;subst e;rw [<-hk];exact World.alloc_heap_new _ _
   .rename_i e;rw [RowKit.Below.heap_alloc _ _ _ (AB.1 (hH _ _ hk)).1];exact hH _ _ hk
  .rw [<-eC,hlenV];have fQ: ∀i,(hi:i<B.length)->Zz (Jp s [b]) i=[.str B[i].data.toList]:=fun i hi=>by
    show Xg.cells (rd (Jp s [b]) i)=_;have:rd (Jp s [b]) i=B[i].data.toList :=by rw [Wv (by rw [hlenV];exact hi)];simp only [<-hs,BQ]
    rw [this];rfl
   refine .dat B.length _ w.heap.size 0 1 B.length (fun i _=>.string (B.getD i ByteArray.empty)) (Aj _) (fun i hi=>by rw [fQ i hi];rfl) (fun i j hi hj=> ?_) fun i j hi hj=> ?_
   .have e:=fQ i hi;have hj0:j=0:=by rw [e] at hj;exact Nat.lt_one_iff.1 hj
    subst hj0;simp only [e,List.getElem_cons_zero];rw [A9,At hi];exact .str _
   .have hj0:j=0:=Nat.lt_one_iff.1 hj;subst hj0;refine ⟨_,_,_,AG rfl,?_⟩;simp [At hi]
  .exact (RowKit.Below.refl _ w).alloc (Aj _) _
 .cases hv
def Xz (s:zy):Int:=match atoiAll s with
 | .ok v=>v
 | .range =>atoiSat s
 | _=>0
def Js (s:zy):Bool:=match atoiAll s with
 | .ok _=>true
 | _=>false
def Wf (s:zy):Bool:=decide (s.length<=281474976710656)
def IZ :zx->Option (B5×Bool)
 | [.str s]=>some (.tup [.int .i64 (Xz s),.ifb (Js s)],Wf s)
 | _=>none
theorem Mo {ρ:B9} {a b:B5} {u v:Value} (h1:Zn ρ a u) (h2:Zn ρ b v):Zn ρ (.tup [a,b]) (.tuple #[u,v]):=.tup _ _ rfl fun i h h'=>by
 match i,h with
 | 0,_=>exact h1
 | 1,_=>exact h2
theorem w6g {H:Do} {w:World} (hH: ∀k o,H k=some o->w.heap[k]? =some o) (hG:Glob H) {g:Nat} (hg:g∈globs): ∃ev,w.cell? ⟨g,0,none⟩=some ev/\(ev=.nilIface \/ ∃te pe,ev=.iface te pe):=by obtain ⟨v,⟨cs,el,fz,e1,e2⟩,h⟩:=hG.err g hg;exact ⟨v,by simp [World.cell?,hH _ _ e1,e2],h⟩
theorem w3m (w:World) (t:TypeId) (s:ByteArray):RowKit.Below w.heap.size w (bytesWorld w t s):=by
 refine ⟨?_,?_,?_,?_,fun k hk=> ?_⟩ <;> (unfold bytesWorld World.freeze;split)
 .rfl
 .rfl
 .rfl
 .rfl
 .rfl
 .rfl
 .simp [World.alloc]
 .simp [World.alloc]
 .simp [World.alloc,BT,Bj hk];rfl
 .simp [World.alloc,BB,BT,Bj hk,Ne.symm (Bj hk)];rfl
theorem u8p :Q6 prog P1 IZ:=RN fun args v hv H vals w eD hH hG=>by
 unfold IZ at hv;split at hv
 .rename_i s;simp only [Ae,Ac] at hv;obtain ⟨rfl,ho⟩:=hv;have ho:s.length<=281474976710656:=Aw ho;have hsz:(⟨s.toArray⟩:ByteArray).size =s.length:=by simp [ByteArray.size]
  obtain rfl:vals= #[.string ⟨s.toArray⟩]:=by
   obtain ⟨vl⟩:=vals;cases eD with
   | cons h1 h2=>cases h2;cases h1;rfl
  cases hA:atoiAll s
  .rename_i v;refine (Any.strconv_Atoi_ok Tryz.laysC172 ⟨s.toArray⟩ (by omega) v hA w).mono fun e w' ⟨he,hw⟩=>⟨_,he,?_,?_⟩
   .unfold Xz Js;rw [hA];exact Mo (.int _ _) .ifbt
   .rcases hw with rfl | ⟨t,rfl⟩
    .exact RowKit.Below.refl _ _
    .exact w3m _ _ _
  .obtain ⟨ev,h1,h2⟩:=w6g hH hG (show Tryz.laysC172_ren.g 15∈globs by decide);refine (Any.strconv_Atoi_syntax Tryz.laysC172 ⟨s.toArray⟩ (by omega) hA ev w h1 h2).mono fun e w' ⟨N,he,_,_,hw⟩=>⟨_,he,?_,hw⟩
   unfold Xz Js;rw [hA];exact Mo (.int _ _) (.ifbf _ _)
  .obtain ⟨ev,h1,h2⟩:=w6g hH hG (show Tryz.laysC172_ren.g 16∈globs by decide);refine (Any.strconv_Atoi_range Tryz.laysC172 ⟨s.toArray⟩ (by omega) hA ev w h1 h2).mono fun e w' ⟨N,he,_,_,hw⟩=>⟨_,he,?_,hw⟩
   unfold Xz Js;rw [hA];exact Mo (.int _ _) (.ifbf _ _)
 .cases hv
def SC0 :B7:=((Dh.with O7 IV).with Mt IQ).with P1 IZ
def SC :B7:=fun g=>bif Nat.beq g PW then some (.eff IY) else SC0 g
theorem Ym {a b:Int} (h:a<b):decide (a<b)=true:=Aa h
theorem Yo {a b:Int} (h: ¬a<b):decide (a<b)=false:=Ah h
theorem Wj {a b:Int} (h:a<=b):decide (a<=b)=true:=Aa h
theorem Ew {a b:Int} (h: ¬a<=b):decide (a<=b)=false:=Ah h
theorem Xv {a b:Int} (h:a>b):decide (a>b)=true:=Aa h
theorem Xb {a b:Int} (h: ¬a>b):decide (a>b)=false:=Ah h
theorem Dr {a b:Int} (h:a>=b):decide (a>=b)=true:=Aa h
theorem F6 {a b:Int} (h: ¬a>=b):decide (a>=b)=false:=Ah h
theorem Xs {a b:Nat} (h:a<b):decide (a<b)=true:=Aa h
theorem Xe {a b:Nat} (h:a<=b):decide (a<=b)=true:=Aa h
theorem Wx {a b:Nat} (h:a=b):decide (a=b)=true:=Aa h
theorem Yx {a b:Int} (h:0<=a/\a<b):decide (0<=a/\a<b)=true:=Aa h
theorem Yf {a:Nat} (h:a<=1099511627776):decide (a<=Vw)=true:=Aa h
theorem Zq {n:Int} (h: -9223372036854775808<=n/\n<=9223372036854775807):wrap .i64 n=n:=w_in h.1 h.2
theorem HT :((0:Nat):Int)=0:=rfl
theorem Zk (i:Nat):(i:Int)+1=((i+1:Nat):Int):=rfl
theorem Yy (i:Nat):((i+1:Nat):Int) - 1=(i:Int):=by omega
theorem Qm {a b:Int} (h:a≠b):(a != b)=true:=by simp [h]
theorem Qo {a b:Int} (h:a=b):(a != b)=false:=by simp [h]
theorem QJ {a b:Int} (h:a=b):(a == b)=true:=by simp [h]
theorem HO {a b:Int} (h:a≠b):(a == b)=false:=by simp [h]
theorem Ww (n:Nat):Nat.beq n n=true:=Bu n
theorem Zj (n:Nat):Int.toNat (n:Int)=n:=Int.toNat_natCast n
theorem Uz (b:Bool):b=true\/b=false:=by cases b <;> simp
theorem Yt {α:Type} [Xg α] {L:List α} {i:Nat} (h:i<L.length):L.drop i=rd L i::L.drop (i+1):=by rw [Wv h];exact AQ h
theorem CU {P:Program} {S:B7} (hS:Zv P S) {f:FuncId} {F:zx->Option (B5×Bool)} (hf:(P.funcs[f]?).any (fun fn=>fn.body.isSome)=true)
  (hF: ∀args v,F args=some (v,true)-> ∃bs vs,Ux DO args bs/\Kg vs=v/\Kw P (Zy P f) (Zm P f bs true []) vs/\ ∃d,pf d v=true):Zv P (S.with f F):=w6v hS hf hF
inductive Dg where
 | h0 (v3:zq) (v4:Int)
 | h1 (v3:zq) (v4:Int) (v5:Int)
def v3b (l0:zq):Dg->CH
 | .h0 v3 v4=>⟨⟨63,0,true⟩,none,(Zf prog 180 (pn 75) 0),none,(Zy prog 9),⟨Yh [(0,(dt l0)),(3,(.sla 0 1 0 v3.length (.un 1))),(4,(ii v4))],Wd [(rz v3 3 1)] 0,1,[],true⟩,[],.leaf⟩
 | .h1 v3 v4 v5=>⟨⟨63,0,true⟩,none,(Zf prog 180 (pn 8779) 0),none,(Zy prog 9),⟨Yh [(0,(dt l0)),(3,(.sla 0 1 0 v3.length (.un 1))),(4,(ii v4)),(5,(ii v5))],Wd [(rz v3 3 1)] 0,1,[],true⟩,[],.leaf⟩
def W9 :List (Option zw):=[some [0,3,4]]
def W8 :List (Option zw):=[]
def v2z :List (Option zw):=[some [0,3,4,5]]
def v3a :List (Option zw):=[]
def Ju (l0:zq):Dg->Xy Dg
 | .h0 v3 v4=>(bif (decide (v4<(l0.length:Int))) then (.to (.h1 v3 v4 (v3.length:Int))) else (.ret [(dt v3)]))
 | .h1 v3 v4 v5=>let a:=Vy (v3++[0]) (0+v5.toNat) ((v3.length+1) - v5.toNat);let b:=rd l0 v4.toNat;(bif (decide (v5>0)) then (bif ((decide (0<=(wrap .i64 (v5 - 1))/\(wrap .i64 (v5 - 1))<(v3.length:Int)))&&true) then (bif (decide ((0+(Int.toNat (wrap .i64 (v5 - 1))))<v3.length)) then (bif ((decide (0<=v4/\v4<(l0.length:Int)))&&true) then (bif (decide ((rd v3 (0+(Int.toNat (wrap .i64 (v5 - 1)))))>b)) then (.to (.h1 v3 v4 (wrap .i64 (v5 - 1)))) else (bif ((rd v3 (0+(Int.toNat (wrap .i64 (v5 - 1))))) == b) then (.to (.h0 v3 (wrap .i64 (v4+1)))) else (bif (Nat.beq 1 1&&((decide (0+v3.length=v3.length))&&decide ((v3.length+1+1)*(8+1)<=Vw))) then (bif (true&&((decide (0<=(wrap .i64 (v5+1))))&&(decide ((v3.length+1)<=(v3.length+1))&&decide ((Int.toNat (wrap .i64 (v5+1)))<=(v3.length+1))))) then (bif (true&&((decide (0<=v5))&&(decide ((v3.length+1)<=(v3.length+1))&&decide (v5.toNat<=(v3.length+1))))) then (bif (decide ((0+v5.toNat)+((v3.length+1) - v5.toNat)<=(v3.length+1))) then (bif (decide ((0+(Int.toNat (wrap .i64 (v5+1))))+((v3.length+1) - (Int.toNat (wrap .i64 (v5+1))))<=(v3.length+1))) then (bif ((decide (0<=v5/\v5<(((v3.length+1):Nat):Int)))&&true) then (bif (decide ((0+v5.toNat)<(v3.length+1))) then (.to (.h0 ((EO (v3++[0]) (0+(Int.toNat (wrap .i64 (v5+1)))) (Nat.min ((v3.length+1) - v5.toNat) ((v3.length+1) - (Int.toNat (wrap .i64 (v5+1))))) a).set (0+v5.toNat) b) (wrap .i64 (v4+1)))) else .stuck) else .stuck) else .stuck) else .stuck) else .stuck) else .stuck) else .stuck))) else .stuck) else .stuck) else .stuck) else (bif (Nat.beq 1 1&&((decide (0+v3.length=v3.length))&&decide ((v3.length+1+1)*(8+1)<=Vw))) then (bif (true&&((decide (0<=(wrap .i64 (v5+1))))&&(decide ((v3.length+1)<=(v3.length+1))&&decide ((Int.toNat (wrap .i64 (v5+1)))<=(v3.length+1))))) then (bif (true&&((decide (0<=v5))&&(decide ((v3.length+1)<=(v3.length+1))&&decide (v5.toNat<=(v3.length+1))))) then (bif (decide ((0+v5.toNat)+((v3.length+1) - v5.toNat)<=(v3.length+1))) then (bif (decide ((0+(Int.toNat (wrap .i64 (v5+1))))+((v3.length+1) - (Int.toNat (wrap .i64 (v5+1))))<=(v3.length+1))) then (bif ((decide (0<=v4/\v4<(l0.length:Int)))&&true) then (bif ((decide (0<=v5/\v5<(((v3.length+1):Nat):Int)))&&true) then (bif (decide ((0+v5.toNat)<(v3.length+1))) then (.to (.h0 ((EO (v3++[0]) (0+(Int.toNat (wrap .i64 (v5+1)))) (Nat.min ((v3.length+1) - v5.toNat) ((v3.length+1) - (Int.toNat (wrap .i64 (v5+1))))) a).set (0+v5.toNat) b) (wrap .i64 (v4+1)))) else .stuck) else .stuck) else .stuck) else .stuck) else .stuck) else .stuck) else .stuck) else .stuck))
def U1 (l0:zq):Xy Dg:=(.to (.h0 ([]:zq) 0))
theorem x5l (l0:zq): ∀s,Wu prog (Zy prog 180) (v3b l0) (v3b l0 s) (Ju l0 s)
 | .h0 v3 v4=>(lb (fun k0=>(sl Zp 21 [] ⟨[0],[],v2z,v3a⟩ b7 [true] (pp (fl v3 nn) (tt k0 nn)))) (fun k0=>(lr 63 3 (pn 191) 1 9 [(2,(dt v3))] (sl Zp 15 [] ⟨[],[0],[some [2]],[]⟩ ⟨[(2,.frz v3.length v3.length (Zz v3) (Zz v3))],[],[]⟩ [false] (pp (xZ (Cz 1 1 0 v3.length v3.length (Zz v3)) v3.length (Zz v3)) (pp (xL v3.length v3.length) (pp (xS v3.length (Zz v3) (Zz v3)) (pp (fl v3 nn) (tt k0 nn)))))))))
 | .h1 v3 v4 v5=>let p:=v3.length+1;let i:=p;let r:=tn (wr (v5+1));let j:=r;let l:=i - (tn v5);let a:=EO (v3++[0]) (0+j) (Nat.min l (i - j)) (Vy (v3++[0]) (0+(tn v5)) l);let q:=rd l0 (tn v4);let d:=a.set (0+(tn v5)) q;let t:=p - (tn v5);let m:=Nat.min t (p - r);let n:=Zg (Zz v3) 0 v3.length 1 [(ii 0)];let o:=EO (v3++[0]) (0+r) m (Vy (v3++[0]) (0+(tn v5)) t);let s:=o.set (0+(tn v5)) q;let u:=decide ((0+(tn v5))+t<=p);let v:=Nat.beq 1 1;(lb (fun k0=>(lo fun aB=>(lo fun aL=>(lo fun bP=>let h:=ww bP (ww aL (ww aB (tt k0 nn)));(lb (fun k1=>(sl Zp 13 [] ⟨[0],[],v2z,v3a⟩ b7 (CC 11 []) (pp (fl v3 nn) (tt k1 h)))) (fun k1=>let e:=ww bP (ww aL (ww aB (tt k0 (tt k1 h))));(lb (fun k2=>(sl Zp 16 [] ⟨[0],[],W9,W8⟩ b7 (CC 10 (bl 12 4094)) (pp (fl v3 nn) (tt k2 e)))) (fun k2=>(lo fun o0=>(lo fun o1=>(lo fun o2=>(lo fun o3=>(lo fun o4=>(lo fun o5=>(lo fun o6=>let b:=xL p s.length;let f:=xG v;(sl Zp 36 [] ⟨[2],[],W9,W8⟩ ⟨[(3,.len d.length)],[.rowed 1 d.length (Zz d)],[]⟩ (CC 10 (bl 12 2046)) (pp b (pp b (pp (xS p (Yr (Jq n (0+r) m (fun k=>n ((0+(tn v5))+k))) (0+(tn v5)) 0 [(ii q)]) (Zz s)) (pp (pp (xF (Yr (Jq n (0+r) m (fun k=>n ((0+(tn v5))+k))) (0+(tn v5)) 0 [(ii q)])) nn) (ww o6 (ww o5 (ww bP (pp (pp f (pp f (pp (xw o4) (pp f (pp f (pp (xG u) (xG (Jf 1 t (fun k=>n ((0+(tn v5))+k)))))))))) (ww o2 (ww o1 (ww o0 (tt k2 e)))))))))))))))))))))))))))) (fun k0=>(lo fun o0=>(lo fun o1=>(lo fun o2=>(lo fun o3=>(lo fun o4=>(lo fun o5=>(lo fun o6=>(lo fun o7=>let c:=xL p s.length;let g:=xG v;(sl Zp 36 [] ⟨[2],[],W9,W8⟩ ⟨[(3,.len d.length)],[.rowed 1 d.length (Zz d)],[]⟩ (bl 22 0) (pp c (pp c (pp (xS p (Yr (Jq n (0+r) m (fun k=>n ((0+(tn v5))+k))) (0+(tn v5)) 0 [(ii q)]) (Zz s)) (pp (pp (xF (Yr (Jq n (0+r) m (fun k=>n ((0+(tn v5))+k))) (0+(tn v5)) 0 [(ii q)])) nn) (ww o7 (ww o6 (ww o5 (pp (pp g (pp g (pp (xw o4) (pp g (pp g (pp (xG u) (xG (Jf 1 t (fun k=>n ((0+(tn v5))+k)))))))))) (ww o2 (ww o1 (ww o0 (tt k0 (tt k0 nn))))))))))))))))))))))))
theorem x2r (l0:zq):Wu prog (Zy prog 180) (v3b l0) (Zm prog 180 [(dt l0)] true []) (U1 l0):=(sl Zp 15 [(3,1,Zz ([]:zq))] ⟨[0],[],W9,W8⟩ ⟨[(3,.grow 0 1)],[],[]⟩ [] (pp (fl ([]:zq) nn) nn))
theorem w7z (l0:zq) (n:Nat) (vs:zx) (h:Zt (Ju l0) n (U1 l0)=.ret vs):Kw prog (Zy prog 180) (Zm prog 180 [(dt l0)] true []) vs:=by have:=Zb (x5l l0) n _ (x2r l0);rwa [h] at this
inductive Ej where
 | h0 (v5:zp) (v6:Int)
def j1z (l0:zq) (l1:List Bool):Ej->CH
 | .h0 v5 v6=>⟨⟨61,0,true⟩,none,(Zf prog 185 (pn 75) 0),none,(Zy prog 3),⟨Yh [(0,(dt l0)),(1,(dt l1)),(5,(.sla 0 2 0 v5.length (.un 2))),(6,(ii v6))],Wd [(rz v5 260 2)] 0,1,[],true⟩,[],.leaf⟩
def SI :List (Option zw):=[some [0,1,5,6]]
def SH :List (Option zw):=[]
def HI (l0:zq) (l1:List Bool):Ej->Xy Ej
 | .h0 v5 v6=>let c:=rd l0 v6.toNat;(bif (decide ((wrap .i64 (v6+1))<(l0.length:Int))) then (bif ((decide (0<=v6/\v6<(l1.length:Int)))&&true) then (bif (!(rd l1 v6.toNat)) then (.to (.h0 v5 (wrap .i64 (v6+1)))) else (bif (decide ((v5.length:Int)>0)) then (bif ((decide (0<=(wrap .i64 ((v5.length:Int) - 1))/\(wrap .i64 ((v5.length:Int) - 1))<(v5.length:Int)))&&true) then (bif (decide ((0+(Int.toNat (wrap .i64 ((v5.length:Int) - 1))))<v5.length)) then (bif ((decide (0<=v6/\v6<(l0.length:Int)))&&true) then (bif ((rd v5 (0+(Int.toNat (wrap .i64 ((v5.length:Int) - 1))))).b == c) then (bif ((decide (0<=(wrap .i64 (v6+1))/\(wrap .i64 (v6+1))<(l0.length:Int)))&&true) then (.to (.h0 (v5.set (0+(Int.toNat (wrap .i64 ((v5.length:Int) - 1)))) (R2.mk (rd v5 (0+(Int.toNat (wrap .i64 ((v5.length:Int) - 1))))).a (rd l0 (Int.toNat (wrap .i64 (v6+1)))))) (wrap .i64 (v6+1)))) else .stuck) else (bif ((decide (0<=(wrap .i64 (v6+1))/\(wrap .i64 (v6+1))<(l0.length:Int)))&&true) then (bif (Nat.beq 2 2&&((decide (0+v5.length=v5.length))&&decide ((v5.length+1+1)*(16+1)<=Vw))) then (.to (.h0 (v5++[(R2.mk c (rd l0 (Int.toNat (wrap .i64 (v6+1)))))]) (wrap .i64 (v6+1)))) else .stuck) else .stuck)) else .stuck) else .stuck) else .stuck) else (bif ((decide (0<=v6/\v6<(l0.length:Int)))&&true) then (bif ((decide (0<=(wrap .i64 (v6+1))/\(wrap .i64 (v6+1))<(l0.length:Int)))&&true) then (bif (Nat.beq 2 2&&((decide (0+v5.length=v5.length))&&decide ((v5.length+1+1)*(16+1)<=Vw))) then (.to (.h0 (v5++[(R2.mk c (rd l0 (Int.toNat (wrap .i64 (v6+1)))))]) (wrap .i64 (v6+1)))) else .stuck) else .stuck) else .stuck))) else .stuck) else (.ret [(dt v5)]))
def WT (l0:zq) (l1:List Bool):Xy Ej:=(.to (.h0 ([]:zp) 0))
theorem w0u (l0:zq) (l1:List Bool): ∀s,Wu prog (Zy prog 185) (j1z l0 l1) (j1z l0 l1 s) (HI l0 l1 s)
 | .h0 v5 v6=>(lb (fun k0=>(lo fun aB=>let h:=ww aB (tt k0 nn);(lb (fun k1=>(sl Zp 30 [] ⟨[0],[],SI,SH⟩ b7 (bl 2 3) (pp (fl v5 nn) (tt k1 h)))) (fun k1=>let l:=rd l0 (tn (wr (v6+1)));let j:=l;let s:=rd l0 (tn v6);let b:=v5++[(R2.mk s j)];let n:=Zg (Zz v5) 0 v5.length 2 [(ii s),(ii l)];let o:=v5++[(R2.mk s l)];let q:=v5.length+1;(lb (fun k2=>(lo fun cD=>(lo fun dO=>(lo fun dP=>let g:=ww dP (ww dO (ww cD (tt k2 (tt k1 h))));(lb (fun k3=>(lo fun o0=>let m:=tn (wr ((v5.length:Int) - 1));let i:=m;let c:=v5.set (0+i) (R2.mk (rd v5 (0+i)).a j);let p:=v5.set (0+m) (R2.mk (rd v5 (0+m)).a l);let d:=xL v5.length p.length;let r:=Yr (Zz v5) (0+m) 1 [(ii l)];(sl Zp 53 [] ⟨[0],[],SI,SH⟩ ⟨[(5,.len c.length)],[.rowed 2 c.length (Zz c)],[]⟩ (bl 14 16381) (pp d (pp d (pp (xS v5.length r (Zz p)) (pp (pp (xF r) nn) (ww dO (ww cD (ww o0 (tt k3 g))))))))))) (fun k3=>(lo fun o0=>(lo fun o1=>let e:=xL q o.length;(sl Zp 41 [] ⟨[2],[],SI,SH⟩ ⟨[(5,.len b.length)],[.rowed 2 b.length (Zz b)],[]⟩ (bl 14 8189) (pp e (pp e (pp (xS q n (Zz o)) (pp (pp (xF n) nn) (ww o1 (ww o0 (ww dP (tt k3 g))))))))))))))))) (fun k2=>(lo fun o0=>(lo fun o1=>(lo fun o2=>let f:=xL q o.length;(sl Zp 41 [] ⟨[2],[],SI,SH⟩ ⟨[(5,.len b.length)],[.rowed 2 b.length (Zz b)],[]⟩ (bl 14 1) (pp f (pp f (pp (xS q n (Zz o)) (pp (pp (xF n) nn) (ww o2 (ww o1 (ww o0 (tt k2 (tt k1 h))))))))))))))))))) (fun k0=>(lr 61 3 (pn 191) 1 3 [(4,(dt v5))] (sl Zp 16 [] ⟨[],[0],[some [4]],[]⟩ ⟨[(4,.frz v5.length v5.length (Zz v5) (Zz v5))],[],[]⟩ [false] (pp (xZ (Cz 2 2 0 v5.length v5.length (Zz v5)) v5.length (Zz v5)) (pp (xL v5.length v5.length) (pp (xS v5.length (Zz v5) (Zz v5)) (pp (fl v5 nn) (tt k0 nn)))))))))
theorem x5z (l0:zq) (l1:List Bool):Wu prog (Zy prog 185) (j1z l0 l1) (Zm prog 185 [(dt l0),(dt l1)] true []) (WT l0 l1):=(sl Zp 15 [(260,2,Zz ([]:zp))] ⟨[0],[],SI,SH⟩ ⟨[(5,.grow 0 2)],[],[]⟩ [] (pp (fl ([]:zp) nn) nn))
theorem v4h (l0:zq) (l1:List Bool) (n:Nat) (vs:zx) (h:Zt (HI l0 l1) n (WT l0 l1)=.ret vs):Kw prog (Zy prog 185) (Zm prog 185 [(dt l0),(dt l1)] true []) vs:=by have:=Zb (w0u l0 l1) n _ (x5z l0 l1);rwa [h] at this
inductive Hc where
 | h0 (v5:Int)
def NG (l0:zp) (l1:zp):Hc->CH
 | .h0 v5=>⟨⟨26,0,true⟩,none,(Zf prog 186 (pn 75) 0),none,(Zy prog 3),⟨Yh [(0,(dt l0)),(1,(dt l1)),(5,(ii v5))],Wd [] 0,0,[],true⟩,[],.leaf⟩
def KN :List (Option zw):=[some [0,1,5]]
def KO :List (Option zw):=[]
def MB (l0:zp) (l1:zp):Hc->Xy Hc
 | .h0 v5=>let c:=rd l1 v5.toNat;let d:=rd l0 v5.toNat;(bif (decide (v5<(l0.length:Int))) then (bif ((decide (0<=v5/\v5<(l0.length:Int)))&&true) then (bif ((decide (0<=v5/\v5<(l1.length:Int)))&&true) then (bif (!((d.a == c.a)&&((d.b == c.b)&&true))) then (.ret [(.bool false)]) else (.to (.h0 (wrap .i64 (v5+1))))) else .stuck) else .stuck) else (.ret [(.bool true)]))
def RC (l0:zp) (l1:zp):Xy Hc:=(bif ((l0.length:Int) != (l1.length:Int)) then (.ret [(.bool false)]) else (.to (.h0 0)))
theorem w8a (l0:zp) (l1:zp): ∀s,Wu prog (Zy prog 186) (NG l0 l1) (NG l0 l1 s) (MB l0 l1 s)
 | .h0 v5=>(lb (fun k0=>(lo fun aB=>(lo fun aL=>let a:=ww aL (ww aB (tt k0 nn));(lb (fun k1=>(lr 26 186 (pn 4683) 1 3 [(4,(.bool false))] (sl Zp 19 [] (b8 [4]) b7 (bl 2 3) (tt k1 a)))) (fun k1=>(sl Zp 23 [] ⟨[],[],KN,KO⟩ b7 (bl 2 1) (tt k1 a))))))) (fun k0=>(lr 26 3 (pn 191) 1 3 [(4,(.bool true))] (sl Zp 14 [] (b8 [4]) b7 [false] (tt k0 nn)))))
theorem x9p (l0:zp) (l1:zp):Wu prog (Zy prog 186) (NG l0 l1) (Zm prog 186 [(dt l0),(dt l1)] true []) (RC l0 l1):=(lb (fun k0=>(lr 26 186 (pn 37) 1 3 [(4,(.bool false))] (sl Zp 18 [] (b8 [4]) b7 [true] (tt k0 nn)))) (fun k0=>(sl Zp 22 [] ⟨[],[],KN,KO⟩ b7 [false] (tt k0 nn))))
theorem v9n (l0:zp) (l1:zp) (n:Nat) (vs:zx) (h:Zt (MB l0 l1) n (RC l0 l1)=.ret vs):Kw prog (Zy prog 186) (Zm prog 186 [(dt l0),(dt l1)] true []) vs:=by have:=Zb (w8a l0 l1) n _ (x9p l0 l1);rwa [h] at this
inductive Eg where
 | h0 (v7:Int)
def j1n (l0:zr) (x1:Int) (x2:Int):Eg->CH
 | .h0 v7=>⟨⟨48,0,true⟩,none,(Zf prog 184 (pn 37) 0),none,(Zy prog 7),⟨Yh [(0,(dt l0)),(1,(ii x1)),(2,(ii x2)),(7,(ii v7))],Wd [] 0,0,[],true⟩,[],.leaf⟩
def SM :List (Option zw):=[some [0,1,2,7]]
def SL :List (Option zw):=[]
def Pj (l0:zr) (x1:Int) (x2:Int):Eg->Xy Eg
 | .h0 v7=>let e:=rd l0 v7.toNat;(bif (decide (v7<(l0.length:Int))) then (bif ((decide (0<=v7/\v7<(l0.length:Int)))&&true) then (bif (decide (e.a <=x1)) then (bif (decide (x1<e.c)) then (bif (decide (e.b <=x2)) then (bif (decide (x2<e.d)) then (.ret [(.bool true)]) else (.to (.h0 (wrap .i64 (v7+1))))) else (.to (.h0 (wrap .i64 (v7+1))))) else (.to (.h0 (wrap .i64 (v7+1))))) else (.to (.h0 (wrap .i64 (v7+1))))) else .stuck) else (.ret [(.bool false)]))
def WY (l0:zr) (x1:Int) (x2:Int):Xy Eg:=(.to (.h0 0))
theorem w0i (l0:zr) (x1:Int) (x2:Int): ∀s,Wu prog (Zy prog 184) (j1n l0 x1 x2) (j1n l0 x1 x2 s) (Pj l0 x1 x2 s)
 | .h0 v7=>(lb (fun k0=>(lo fun aB=>let c:=ww aB (tt k0 nn);(lb (fun k1=>let a:=ww aB (tt k1 c);(lb (fun k2=>let d:=ww aB (tt k2 a);(lb (fun k3=>let b:=ww aB (tt k3 d);(lb (fun k4=>(lr 48 184 (pn 2341) 1 7 [(6,(.bool true))] (sl Zp 54 [] (b8 [6]) b7 (CC 23 []) (tt k4 b)))) (fun k4=>(sl Zp 58 [] ⟨[],[],SM,SL⟩ b7 (CC 22 [false]) (tt k4 b))))) (fun k3=>(sl Zp 58 [] ⟨[],[],SM,SL⟩ b7 (CC 15 (bl 8 0)) (tt k3 d))))) (fun k2=>(sl Zp 58 [] ⟨[],[],SM,SL⟩ b7 (CC 8 (bl 15 0)) (tt k2 a))))) (fun k1=>(sl Zp 58 [] ⟨[],[],SM,SL⟩ b7 (bl 23 1) (tt k1 c)))))) (fun k0=>(lr 48 3 (pn 191) 1 7 [(6,(.bool false))] (sl Zp 14 [] (b8 [6]) b7 [false] (tt k0 nn)))))
theorem x5q (l0:zr) (x1:Int) (x2:Int):Wu prog (Zy prog 184) (j1n l0 x1 x2) (Zm prog 184 [(dt l0),(.int .i64 x1),(.int .i64 x2)] true []) (WY l0 x1 x2):=(sl Zp 11 [] ⟨[],[],SM,SL⟩ b7 [] nn)
theorem v3s (l0:zr) (x1:Int) (x2:Int) (n:Nat) (vs:zx) (h:Zt (Pj l0 x1 x2) n (WY l0 x1 x2)=.ret vs):Kw prog (Zy prog 184) (Zm prog 184 [(dt l0),(.int .i64 x1),(.int .i64 x2)] true []) vs:=by have:=Zb (w0i l0 x1 x2) n _ (x5q l0 x1 x2);rwa [h] at this
inductive Ha where
 | h0 (v5:Int)
def NE (l0:zr) (l1:zr):Ha->CH
 | .h0 v5=>⟨⟨26,0,true⟩,none,(Zf prog 151 (pn 75) 0),none,(Zy prog 3),⟨Yh [(0,(dt l0)),(1,(dt l1)),(5,(ii v5))],Wd [] 0,0,[],true⟩,[],.leaf⟩
def KJ :List (Option zw):=[some [0,1,5]]
def KK :List (Option zw):=[]
def MD (l0:zr) (l1:zr):Ha->Xy Ha
 | .h0 v5=>let e:=rd l1 v5.toNat;let f:=rd l0 v5.toNat;(bif (decide (v5<(l0.length:Int))) then (bif ((decide (0<=v5/\v5<(l0.length:Int)))&&true) then (bif ((decide (0<=v5/\v5<(l1.length:Int)))&&true) then (bif (!((f.a == e.a)&&((f.b == e.b)&&((f.c == e.c)&&((f.d == e.d)&&true))))) then (.ret [(.bool false)]) else (.to (.h0 (wrap .i64 (v5+1))))) else .stuck) else .stuck) else (.ret [(.bool true)]))
def RD (l0:zr) (l1:zr):Xy Ha:=(bif ((l0.length:Int) != (l1.length:Int)) then (.ret [(.bool false)]) else (.to (.h0 0)))
theorem w7x (l0:zr) (l1:zr): ∀s,Wu prog (Zy prog 151) (NE l0 l1) (NE l0 l1 s) (MD l0 l1 s)
 | .h0 v5=>(lb (fun k0=>(lo fun aB=>(lo fun aL=>let a:=ww aL (ww aB (tt k0 nn));(lb (fun k1=>(lr 26 151 (pn 4683) 1 3 [(4,(.bool false))] (sl Zp 19 [] (b8 [4]) b7 (bl 2 3) (tt k1 a)))) (fun k1=>(sl Zp 23 [] ⟨[],[],KJ,KK⟩ b7 (bl 2 1) (tt k1 a))))))) (fun k0=>(lr 26 3 (pn 191) 1 3 [(4,(.bool true))] (sl Zp 14 [] (b8 [4]) b7 [false] (tt k0 nn)))))
theorem x9n (l0:zr) (l1:zr):Wu prog (Zy prog 151) (NE l0 l1) (Zm prog 151 [(dt l0),(dt l1)] true []) (RD l0 l1):=(lb (fun k0=>(lr 26 151 (pn 37) 1 3 [(4,(.bool false))] (sl Zp 18 [] (b8 [4]) b7 [true] (tt k0 nn)))) (fun k0=>(sl Zp 22 [] ⟨[],[],KJ,KK⟩ b7 [false] (tt k0 nn))))
theorem v9l (l0:zr) (l1:zr) (n:Nat) (vs:zx) (h:Zt (MD l0 l1) n (RD l0 l1)=.ret vs):Kw prog (Zy prog 151) (Zm prog 151 [(dt l0),(dt l1)] true []) vs:=by have:=Zb (w7x l0 l1) n _ (x9n l0 l1);rwa [h] at this
inductive He where
 | h0 (v5:Int)
def NI (l0:zt) (l1:zt):He->CH
 | .h0 v5=>⟨⟨26,0,true⟩,none,(Zf prog 31 (pn 75) 0),none,(Zy prog 3),⟨Yh [(0,(dt l0)),(1,(dt l1)),(5,(ii v5))],Wd [] 0,0,[],true⟩,[],.leaf⟩
def KT :List (Option zw):=[some [0,1,5]]
def KU :List (Option zw):=[]
def MA (l0:zt) (l1:zt):He->Xy He
 | .h0 v5=>let g:=rd l1 v5.toNat;let h:=rd l0 v5.toNat;(bif (decide (v5<(l0.length:Int))) then (bif ((decide (0<=v5/\v5<(l0.length:Int)))&&true) then (bif ((decide (0<=v5/\v5<(l1.length:Int)))&&true) then (bif (!(((h.a == g.a)&&((h.b == g.b)&&((h.c == g.c)&&true)))&&(((h.d == g.d)&&((h.e == g.e)&&((h.f == g.f)&&true)))&&true))) then (.ret [(.bool false)]) else (.to (.h0 (wrap .i64 (v5+1))))) else .stuck) else .stuck) else (.ret [(.bool true)]))
def RB (l0:zt) (l1:zt):Xy He:=(bif ((l0.length:Int) != (l1.length:Int)) then (.ret [(.bool false)]) else (.to (.h0 0)))
theorem w8c (l0:zt) (l1:zt): ∀s,Wu prog (Zy prog 31) (NI l0 l1) (NI l0 l1 s) (MA l0 l1 s)
 | .h0 v5=>(lb (fun k0=>(lo fun aB=>(lo fun aL=>let a:=ww aL (ww aB (tt k0 nn));(lb (fun k1=>(lr 26 31 (pn 4683) 1 3 [(4,(.bool false))] (sl Zp 19 [] (b8 [4]) b7 (bl 2 3) (tt k1 a)))) (fun k1=>(sl Zp 23 [] ⟨[],[],KT,KU⟩ b7 (bl 2 1) (tt k1 a))))))) (fun k0=>(lr 26 3 (pn 191) 1 3 [(4,(.bool true))] (sl Zp 14 [] (b8 [4]) b7 [false] (tt k0 nn)))))
theorem x9r (l0:zt) (l1:zt):Wu prog (Zy prog 31) (NI l0 l1) (Zm prog 31 [(dt l0),(dt l1)] true []) (RB l0 l1):=(lb (fun k0=>(lr 26 31 (pn 37) 1 3 [(4,(.bool false))] (sl Zp 18 [] (b8 [4]) b7 [true] (tt k0 nn)))) (fun k0=>(sl Zp 22 [] ⟨[],[],KT,KU⟩ b7 [false] (tt k0 nn))))
theorem v9q (l0:zt) (l1:zt) (n:Nat) (vs:zx) (h:Zt (MA l0 l1) n (RB l0 l1)=.ret vs):Kw prog (Zy prog 31) (Zm prog 31 [(dt l0),(dt l1)] true []) vs:=by have:=Zb (w8c l0 l1) n _ (x9r l0 l1);rwa [h] at this
inductive Hw where
 | h0 (v5:zr) (v6:Int)
def N2 (l0:zt) (x1:Int):Hw->CH
 | .h0 v5 v6=>⟨⟨60,0,true⟩,none,(Zf prog 150 (pn 75) 0),none,(Zy prog 3),⟨Yh [(0,(dt l0)),(1,(ii x1)),(5,(.sla 0 4 0 v5.length (.un 4))),(6,(ii v6))],Wd [(rz v5 168 4)] 0,1,[],true⟩,[],.leaf⟩
def YL :List (Option zw):=[some [0,1,5,6]]
def YK :List (Option zw):=[]
def Lu (l0:zt) (x1:Int):Hw->Xy Hw
 | .h0 v5 v6=>let g:=rd l0 v6.toNat;(bif (decide (v6<(l0.length:Int))) then (bif ((decide (0<=v6/\v6<(l0.length:Int)))&&true) then (bif (decide (g.c <=x1)) then (bif (decide (x1<g.f)) then (bif (Nat.beq 4 4&&((decide (0+v5.length=v5.length))&&decide ((v5.length+1+1)*(32+1)<=Vw))) then (.to (.h0 (v5++[(R4.mk g.a g.b g.d g.e)]) (wrap .i64 (v6+1)))) else .stuck) else (.to (.h0 v5 (wrap .i64 (v6+1))))) else (.to (.h0 v5 (wrap .i64 (v6+1))))) else .stuck) else (.ret [(dt v5)]))
def VU (l0:zt) (x1:Int):Xy Hw:=(.to (.h0 ([]:zr) 0))
theorem w8z (l0:zt) (x1:Int): ∀s,Wu prog (Zy prog 150) (N2 l0 x1) (N2 l0 x1 s) (Lu l0 x1 s)
 | .h0 v5 v6=>(lb (fun k0=>(lo fun aB=>let h:=ww aB (tt k0 nn);(lb (fun k1=>let i:=ww aB (tt k1 h);(lb (fun k2=>(lo fun o0=>let j:=rd l0 (tn v6);let g:=j;let c:=v5++[(R4.mk g.a g.b g.d g.e)];let m:=v5++[(R4.mk j.a j.b j.d j.e)];let n:=v5.length+1;let f:=xL n m.length;let l:=Zg (Zz v5) 0 v5.length 4 [(ii j.a),(ii j.b),(ii j.d),(ii j.e)];(sl Zp 42 [] ⟨[2],[],YL,YK⟩ ⟨[(5,.len c.length)],[.rowed 4 c.length (Zz c)],[]⟩ (CC 10 []) (pp f (pp f (pp (xS n l (Zz m)) (pp (pp (xF l) nn) (ww o0 (ww aB (ww aB (ww aB (ww aB (tt k2 i))))))))))))) (fun k2=>(sl Zp 42 [] ⟨[0],[],YL,YK⟩ b7 (CC 9 [false]) (pp (fl v5 nn) (tt k2 i)))))) (fun k1=>(sl Zp 42 [] ⟨[0],[],YL,YK⟩ b7 (bl 10 1) (pp (fl v5 nn) (tt k1 h))))))) (fun k0=>(lr 60 3 (pn 191) 1 3 [(4,(dt v5))] (sl Zp 15 [] ⟨[],[0],[some [4]],[]⟩ ⟨[(4,.frz v5.length v5.length (Zz v5) (Zz v5))],[],[]⟩ [false] (pp (xZ (Cz 4 4 0 v5.length v5.length (Zz v5)) v5.length (Zz v5)) (pp (xL v5.length v5.length) (pp (xS v5.length (Zz v5) (Zz v5)) (pp (fl v5 nn) (tt k0 nn)))))))))
theorem w0w (l0:zt) (x1:Int):Wu prog (Zy prog 150) (N2 l0 x1) (Zm prog 150 [(dt l0),(.int .i64 x1)] true []) (VU l0 x1):=(sl Zp 15 [(168,4,Zz ([]:zr))] ⟨[0],[],YL,YK⟩ ⟨[(5,.grow 0 4)],[],[]⟩ [] (pp (fl ([]:zr) nn) nn))
theorem u0z (l0:zt) (x1:Int) (n:Nat) (vs:zx) (h:Zt (Lu l0 x1) n (VU l0 x1)=.ret vs):Kw prog (Zy prog 150) (Zm prog 150 [(dt l0),(.int .i64 x1)] true []) vs:=by have:=Zb (w8z l0 x1) n _ (w0w l0 x1);rwa [h] at this
inductive I2 where
 | h0 (v13:Int)
def PR (l0:zp) (l1:zp):I2->CH
 | .h0 v13=>⟨⟨26,0,true⟩,none,(Zf prog 203 (pn 75) 0),none,(Zy prog 3),⟨Yh [(0,(dt l0)),(1,(dt l1)),(12,(ii (l0.length:Int))),(13,(ii v13))],Wd [] 0,0,[],true⟩,[],.leaf⟩
def L8 :List (Option zw):=[some [0,1,12,13]]
def L9 :List (Option zw):=[]
def Lk (l0:zp) (l1:zp):I2->Xy I2
 | .h0 v13=>let c:=rd l1 v13.toNat;let d:=rd l0 v13.toNat;(bif (decide (v13<(l0.length:Int))) then (bif ((decide (0<=v13/\v13<(l0.length:Int)))&&true) then (bif ((decide (0<=v13/\v13<(l1.length:Int)))&&true) then (bif (!((d.a == c.a)&&((d.b == c.b)&&true))) then (.ret [(.bool false)]) else (.to (.h0 (wrap .i64 (v13+1))))) else .stuck) else .stuck) else (.ret [(.bool true)]))
def Rh (l0:zp) (l1:zp):Xy I2:=(bif ((l0.length:Int) != (l1.length:Int)) then (.ret [(.bool false)]) else (.to (.h0 0)))
theorem v0n (l0:zp) (l1:zp): ∀s,Wu prog (Zy prog 203) (PR l0 l1) (PR l0 l1 s) (Lk l0 l1 s)
 | .h0 v13=>(lb (fun k0=>(lo fun aB=>(lo fun aL=>let a:=ww aL (ww aB (tt k0 nn));(lb (fun k1=>(lr 26 203 (pn 19659) 1 3 [(4,(.bool false))] (sl Zp 21 [] (b8 [4]) b7 (bl 2 3) (tt k1 a)))) (fun k1=>(sl Zp 24 [] ⟨[],[],L8,L9⟩ b7 (bl 2 1) (tt k1 a))))))) (fun k0=>(lr 26 3 (pn 191) 1 3 [(4,(.bool true))] (sl Zp 11 [] (b8 [4]) b7 [false] (tt k0 nn)))))
theorem w2u (l0:zp) (l1:zp):Wu prog (Zy prog 203) (PR l0 l1) (Zm prog 203 [(dt l0),(dt l1)] true []) (Rh l0 l1):=(lb (fun k0=>(lr 26 203 (pn 37) 1 3 [(4,(.bool false))] (sl Zp 18 [] (b8 [4]) b7 [true] (tt k0 nn)))) (fun k0=>(sl Zp 24 [] ⟨[],[],L8,L9⟩ b7 [false] (tt k0 nn))))
theorem u3s (l0:zp) (l1:zp) (n:Nat) (vs:zx) (h:Zt (Lk l0 l1) n (Rh l0 l1)=.ret vs):Kw prog (Zy prog 203) (Zm prog 203 [(dt l0),(dt l1)] true []) vs:=by have:=Zb (v0n l0 l1) n _ (w2u l0 l1);rwa [h] at this
inductive I1 where
 | h0 (v13:Int)
def PQ (l0:zr) (l1:zr):I1->CH
 | .h0 v13=>⟨⟨26,0,true⟩,none,(Zf prog 168 (pn 75) 0),none,(Zy prog 3),⟨Yh [(0,(dt l0)),(1,(dt l1)),(12,(ii (l0.length:Int))),(13,(ii v13))],Wd [] 0,0,[],true⟩,[],.leaf⟩
def L6 :List (Option zw):=[some [0,1,12,13]]
def L7 :List (Option zw):=[]
def Ll (l0:zr) (l1:zr):I1->Xy I1
 | .h0 v13=>let e:=rd l1 v13.toNat;let f:=rd l0 v13.toNat;(bif (decide (v13<(l0.length:Int))) then (bif ((decide (0<=v13/\v13<(l0.length:Int)))&&true) then (bif ((decide (0<=v13/\v13<(l1.length:Int)))&&true) then (bif (!((f.a == e.a)&&((f.b == e.b)&&((f.c == e.c)&&((f.d == e.d)&&true))))) then (.ret [(.bool false)]) else (.to (.h0 (wrap .i64 (v13+1))))) else .stuck) else .stuck) else (.ret [(.bool true)]))
def Ri (l0:zr) (l1:zr):Xy I1:=(bif ((l0.length:Int) != (l1.length:Int)) then (.ret [(.bool false)]) else (.to (.h0 0)))
theorem v0m (l0:zr) (l1:zr): ∀s,Wu prog (Zy prog 168) (PQ l0 l1) (PQ l0 l1 s) (Ll l0 l1 s)
 | .h0 v13=>(lb (fun k0=>(lo fun aB=>(lo fun aL=>let a:=ww aL (ww aB (tt k0 nn));(lb (fun k1=>(lr 26 168 (pn 19659) 1 3 [(4,(.bool false))] (sl Zp 21 [] (b8 [4]) b7 (bl 2 3) (tt k1 a)))) (fun k1=>(sl Zp 24 [] ⟨[],[],L6,L7⟩ b7 (bl 2 1) (tt k1 a))))))) (fun k0=>(lr 26 3 (pn 191) 1 3 [(4,(.bool true))] (sl Zp 11 [] (b8 [4]) b7 [false] (tt k0 nn)))))
theorem w2t (l0:zr) (l1:zr):Wu prog (Zy prog 168) (PQ l0 l1) (Zm prog 168 [(dt l0),(dt l1)] true []) (Ri l0 l1):=(lb (fun k0=>(lr 26 168 (pn 37) 1 3 [(4,(.bool false))] (sl Zp 18 [] (b8 [4]) b7 [true] (tt k0 nn)))) (fun k0=>(sl Zp 24 [] ⟨[],[],L6,L7⟩ b7 [false] (tt k0 nn))))
theorem u3r (l0:zr) (l1:zr) (n:Nat) (vs:zx) (h:Zt (Ll l0 l1) n (Ri l0 l1)=.ret vs):Kw prog (Zy prog 168) (Zm prog 168 [(dt l0),(dt l1)] true []) vs:=by have:=Zb (v0m l0 l1) n _ (w2t l0 l1);rwa [h] at this
inductive I0 where
 | h0 (v13:Int)
def PP (l0:zt) (l1:zt):I0->CH
 | .h0 v13=>⟨⟨26,0,true⟩,none,(Zf prog 103 (pn 75) 0),none,(Zy prog 3),⟨Yh [(0,(dt l0)),(1,(dt l1)),(12,(ii (l0.length:Int))),(13,(ii v13))],Wd [] 0,0,[],true⟩,[],.leaf⟩
def L4 :List (Option zw):=[some [0,1,12,13]]
def L5 :List (Option zw):=[]
def Lm (l0:zt) (l1:zt):I0->Xy I0
 | .h0 v13=>let g:=rd l1 v13.toNat;let h:=rd l0 v13.toNat;(bif (decide (v13<(l0.length:Int))) then (bif ((decide (0<=v13/\v13<(l0.length:Int)))&&true) then (bif ((decide (0<=v13/\v13<(l1.length:Int)))&&true) then (bif (!(((h.a == g.a)&&((h.b == g.b)&&((h.c == g.c)&&true)))&&(((h.d == g.d)&&((h.e == g.e)&&((h.f == g.f)&&true)))&&true))) then (.ret [(.bool false)]) else (.to (.h0 (wrap .i64 (v13+1))))) else .stuck) else .stuck) else (.ret [(.bool true)]))
def Rj (l0:zt) (l1:zt):Xy I0:=(bif ((l0.length:Int) != (l1.length:Int)) then (.ret [(.bool false)]) else (.to (.h0 0)))
theorem v0l (l0:zt) (l1:zt): ∀s,Wu prog (Zy prog 103) (PP l0 l1) (PP l0 l1 s) (Lm l0 l1 s)
 | .h0 v13=>(lb (fun k0=>(lo fun aB=>(lo fun aL=>let a:=ww aL (ww aB (tt k0 nn));(lb (fun k1=>(lr 26 103 (pn 19659) 1 3 [(4,(.bool false))] (sl Zp 21 [] (b8 [4]) b7 (bl 2 3) (tt k1 a)))) (fun k1=>(sl Zp 24 [] ⟨[],[],L4,L5⟩ b7 (bl 2 1) (tt k1 a))))))) (fun k0=>(lr 26 3 (pn 191) 1 3 [(4,(.bool true))] (sl Zp 11 [] (b8 [4]) b7 [false] (tt k0 nn)))))
theorem w2s (l0:zt) (l1:zt):Wu prog (Zy prog 103) (PP l0 l1) (Zm prog 103 [(dt l0),(dt l1)] true []) (Rj l0 l1):=(lb (fun k0=>(lr 26 103 (pn 37) 1 3 [(4,(.bool false))] (sl Zp 18 [] (b8 [4]) b7 [true] (tt k0 nn)))) (fun k0=>(sl Zp 24 [] ⟨[],[],L4,L5⟩ b7 [false] (tt k0 nn))))
theorem u3q (l0:zt) (l1:zt) (n:Nat) (vs:zx) (h:Zt (Lm l0 l1) n (Rj l0 l1)=.ret vs):Kw prog (Zy prog 103) (Zm prog 103 [(dt l0),(dt l1)] true []) vs:=by have:=Zb (v0l l0 l1) n _ (w2s l0 l1);rwa [h] at this
inductive IJ where
def O8 (x0:Int) (x1:Bool) (x2:Bool):IJ->CH
 :=nofun
def w2g (x0:Int) (x1:Bool) (x2:Bool):IJ->Xy IJ
 :=nofun
def VL (x0:Int) (x1:Bool) (x2:Bool):Xy IJ:=(bif (x0 == 1) then (bif x1 then (.ret [(.bool x2)]) else (.ret [(.bool false)])) else (bif (x0 == 2) then (bif x1 then (.ret [(.bool true)]) else (.ret [(.bool x2)])) else (bif x1 then (.ret [(.bool (!x2))]) else (.ret [(.bool false)]))))
theorem w9y (x0:Int) (x1:Bool) (x2:Bool): ∀s,Wu prog (Zy prog 183) (O8 x0 x1 x2) (O8 x0 x1 x2 s) (w2g x0 x1 x2 s)
 :=nofun
theorem w2h (x0:Int) (x1:Bool) (x2:Bool):Wu prog (Zy prog 183) (O8 x0 x1 x2) (Zm prog 183 [(.int .i64 x0),(.bool x1),(.bool x2)] true []) (VL x0 x1 x2):=(lb (fun k0=>(lb (fun k1=>(lr 24 183 (pn 37) 1 7 [(6,(.bool x2))] (sl Zp 19 [] (b8 [6]) b7 (bl 2 3) (tt k1 (tt k0 nn))))) (fun k1=>(lr 24 183 (pn 37) 1 7 [(6,(.bool false))] (sl Zp 19 [] (b8 [6]) b7 (bl 2 1) (tt k1 (tt k0 nn))))))) (fun k0=>(lb (fun k1=>let a:=tt k1 (tt k0 nn);(lb (fun k2=>(lr 24 183 (pn 75) 1 7 [(6,(.bool true))] (sl Zp 27 [] (b8 [6]) b7 (bl 3 6) (tt k2 a)))) (fun k2=>(lr 24 183 (pn 75) 1 7 [(6,(.bool x2))] (sl Zp 27 [] (b8 [6]) b7 (bl 3 2) (tt k2 a)))))) (fun k1=>let b:=tt k1 (tt k0 nn);(lb (fun k2=>(lr 24 3 (pn 191) 1 7 [(6,(.bool (!x2)))] (sl Zp 29 [] (b8 [6]) b7 (bl 4 12) (tt k2 b)))) (fun k2=>(lr 24 3 (pn 191) 1 7 [(6,(.bool false))] (sl Zp 29 [] (b8 [6]) b7 (bl 4 0) (tt k2 b)))))))))
theorem u3b (x0:Int) (x1:Bool) (x2:Bool) (n:Nat) (vs:zx) (h:Zt (w2g x0 x1 x2) n (VL x0 x1 x2)=.ret vs):Kw prog (Zy prog 183) (Zm prog 183 [(.int .i64 x0),(.bool x1),(.bool x2)] true []) vs:=by have:=Zb (w9y x0 x1 x2) n _ (w2h x0 x1 x2);rwa [h] at this
inductive IL where
def Ob (x0:Bool) (x1:Bool):IL->CH
 :=nofun
def w2k (x0:Bool) (x1:Bool):IL->Xy IL
 :=nofun
def x3t (x0:Bool) (x1:Bool):Xy IL:=(.ret [(.bool x0)])
theorem v0b (x0:Bool) (x1:Bool): ∀s,Wu prog (Zy prog 229) (Ob x0 x1) (Ob x0 x1 s) (w2k x0 x1 s)
 :=nofun
theorem w2l (x0:Bool) (x1:Bool):Wu prog (Zy prog 229) (Ob x0 x1) (Zm prog 229 [(.bool x0),(.bool x1)] true []) (x3t x0 x1):=(lr 6 3 (pn 191) 1 3 [(4,(.bool x0))] (sl Zp 9 [] (b8 [4]) b7 [] nn))
theorem u3e (x0:Bool) (x1:Bool) (n:Nat) (vs:zx) (h:Zt (w2k x0 x1) n (x3t x0 x1)=.ret vs):Kw prog (Zy prog 229) (Zm prog 229 [(.bool x0),(.bool x1)] true []) vs:=by have:=Zb (v0b x0 x1) n _ (w2l x0 x1);rwa [h] at this
def ER (out:zq) (x:Int):Nat->Nat
 | 0=>0
 | k+1=>bif decide (rd out k>x) then ER out x k else k+1
def D8 (out:zq) (x:Int):zq:=
 match ER out x out.length with
 | 0=>x::out
 | k+1=>bif rd out k == x then out else out.take (k+1)++x::out.drop (k+1)
def Cc (l:zq):zq:=l.foldl D8 []
def Iq (l:zq):Bool:=decide (l.length<=1000000)
theorem y7s (out:zq) (x:Int):(D8 out x).length <=out.length+1:=by
 grind [D8]
theorem x7g (out:zq) (x:Int) (k:Nat) (hk:k<=out.length):
  (EO (out++[0]) (k+1) (Nat.min (out.length+1 - k) (out.length+1 - (k+1))) (Vy (out++[0]) k (out.length+1 - k))).set k x=out.take k++x::out.drop k:=by
 have hm:Nat.min (out.length+1 - k) (out.length+1 - (k+1))=out.length - k:=by
  grind
 rw [hm];apply Bt
 .simp [U3];omega
 .intro i h1 h2;have hi:i<out.length+1:=by grind
  rw [<-Wv h1,<-Wv h2]
  grind [Iy,Wv,v3w,XZ,X2,VX]
theorem w4m (l:zq) (out:zq) (i:Nat) (hi:i<l.length) (hl:l.length<=1000000) (ho:out.length<=i): ∀(k N:Nat),k<=out.length->
  (ER out (rd l i) out.length=ER out (rd l i) k)-> ∃m,∀N,Zt (Ju l) (N+m) (.to (.h1 out (i:Int) (k:Int)))=Zt (Ju l) N (.to (.h0 (D8 out (rd l i)) ((i+1:Nat):Int)))
 | 0,N,hk,hp=>by
  refine ⟨1,fun N=> ?_⟩;have hins:D8 out (rd l i)=(EO (out++[0]) (0+1) (Nat.min (out.length+1 - 0) (out.length+1 - (0+1))) (Vy (out++[0]) 0 (out.length+1 - 0))).set 0 (rd l i):=by rw [x7g out _ 0 (AH _)];unfold D8;rw [hp];rfl
  rw [hins,Zx];simp (disch:=omega) only [Ju,Yf,AA,Xb,Ym,Wj,Xs,Xe,Wx,Yx,Zq,Zk,Ww,Zj,Ak,Ar,As,Af,Ab]
 | k +1,N,hk,hp=>by
  rcases Uz (decide (rd out k>rd l i)) with h | h
  .have hp':ER out (rd l i) out.length=ER out (rd l i) k:=by grind [ER]
   obtain ⟨m,hm⟩:=w4m l out i hi hl ho k N (by omega) hp';refine ⟨m+1,fun N=> ?_⟩;rw [<-hm N,<-AN,Zx];simp (disch:=omega) only [Ju,Yy,h,Yf,AA,Xv,Ym,Wj,Xs,Xe,Wx,Yx,Zq,Zk,Ww,Zj,Ak,Ar,As,Af,Ab]
  .have hpk:ER out (rd l i) out.length=k+1:=by rw [hp];unfold ER;rw [h];rfl
   refine ⟨1,fun N=> ?_⟩;rw [Zx];rcases Uz (rd out k == rd l i) with q | q
   .have hins:D8 out (rd l i)=out:=(by grind [D8]);rw [hins];simp (disch:=omega) only [Ju,Yy,h,q,Yf,AA,Xv,Ym,Wj,Xs,Xe,Wx,Yx,Zq,Zk,Ww,Zj,Ak,Ar,As,Af,Ab]
   .have hins:D8 out (rd l i)=(EO (out++[0]) (k+1+1) (Nat.min (out.length+1 - (k+1)) (out.length+1 - (k+1+1))) (Vy (out++[0]) (k+1) (out.length+1 - (k+1)))).set (k+1) (rd l i):=by
     rw [x7g out _ (k+1) hk]
     grind [D8]
    rw [hins];simp (disch:=omega) only [Ju,Yy,h,q,Yf,AA,Xv,Ym,Wj,Xs,Xe,Wx,Yx,Zq,Zk,Ww,Zj,Ak,Ar,As,Af,Ab]
theorem w4n (l:zq) (hl:l.length<=1000000): ∀(k i:Nat) (out:zq),i+k=l.length->out.length<=i-> ∃m,Zt (Ju l) m (.to (.h0 out (i:Int)))=.ret [.dat ((l.drop i).foldl D8 out).length (Zz ((l.drop i).foldl D8 out))]
 | 0,i,out,h,ho=>by refine ⟨1,?_⟩;rw [Zx];simp (disch:=omega) only [Ju,Yo,Ab];rw [Av (by omega)];rfl
 | k+1,i,out,h,ho=>by
  obtain ⟨m1,h1⟩:=w4m l out i (by omega) hl ho out.length 0 (Aj _) rfl;obtain ⟨m2,h2⟩:=w4n l hl k (i+1) (D8 out (rd l i)) (by omega) (AP (y7s _ _) (by omega));refine ⟨m2+m1+1,?_⟩
  grind [Zx,Ju,Yt]
theorem v2y (l:zq) (h:Iq l=true): ∃N,Zt (Ju l) N (U1 l)=.ret [.dat (Cc l).length (Zz (Cc l))]:=by
 have:=w4n l (Aw h) l.length 0 [] (by omega) (Aj _)
 simpa [U1,Cc] using this
theorem Zo (n:Nat):Int.toNat ((n:Int) - 1)=n - 1:=by omega
theorem YH (x y:R2):((x.a == y.a)&&(x.b == y.b))=decide (x=y):=by
 obtain ⟨a,b⟩:=x;obtain ⟨c,d⟩:=y
 grind
theorem YI (x y:R4):((x.a == y.a)&&((x.b == y.b)&&((x.c == y.c)&&(x.d == y.d))))=decide (x=y):=by
 obtain ⟨a,b,c,d⟩:=x;obtain ⟨e,f,g,h⟩:=y
 grind
theorem YJ (x y:R6):(((x.a == y.a)&&((x.b == y.b)&&(x.c == y.c)))&&((x.d == y.d)&&((x.e == y.e)&&(x.f == y.f))))=decide (x=y):=by
 obtain ⟨a,b,c,d,e,f⟩:=x;obtain ⟨a',b',c',d',e',f'⟩:=y
 grind
def EW (l m:zp):Bool:=decide (l=m)
def EX (l m:zr):Bool:=decide (l=m)
def Dy (l m:zt):Bool:=decide (l=m)
def Ke (l m:zp):Bool:=decide (l.length<=1000000)
def Kd (l m:zr):Bool:=decide (l.length<=1000000)
def Us (l m:zt):Bool:=decide (l.length<=1000000)
theorem Pe {α:Type} [DecidableEq α] (x y:α) (l m:List α):decide (x::l=y::m)=(decide (x=y)&&decide (l=m)):=by grind
theorem u5r (l m:zp) (hl:l.length<=1000000) (hm:l.length=m.length): ∀(k i:Nat),i+k=l.length-> ∃N,Zt (MB l m) N (.to (.h0 (i:Int)))=.ret [.bool (decide (l.drop i=m.drop i))]
 | 0,i,h=>by refine ⟨1,?_⟩;rw [Zx,Av (show l.length<=i by omega),Av (show m.length<=i by omega)];simp (disch:=omega) only [MB,Xb,Xv,Ym,Yo,Wj,Xs,Xe,Wx,Yx,Zq,Yf,Qm,Qo,AA,Zk,Yy,Zo,Ww,Zj,Ak,Ar,As,Af,Ab,Ay,AC,Za]
 | k+1,i,h=>by
  obtain ⟨N,hN⟩:=u5r l m hl hm k (i+1) (by omega);refine ⟨N+1,?_⟩;rw [Zx,Yt (show i<l.length by omega),Yt (show i<m.length by omega),Pe];rcases Uz (decide (rd l i=rd m i)) with q | q
  .simp (disch:=omega) only [MB,YH,q,Xb,Xv,Ym,Yo,Wj,Xs,Xe,Wx,Yx,Zq,Yf,Qm,Qo,AA,Zk,Yy,Zo,Ww,Zj,Ak,Ar,As,Af,Ab,Ay,AC,Za];exact hN
  .simp (disch:=omega) only [MB,YH,q,Xb,Xv,Ym,Yo,Wj,Xs,Xe,Wx,Yx,Zq,Yf,Qm,Qo,AA,Zk,Yy,Zo,Ww,Zj,Ak,Ar,As,Af,Ab,Ay,AC,Za,A3]
theorem j0h (l m:zp) (h:Ke l m=true): ∃N,Zt (MB l m) N (RC l m)=.ret [.bool (EW l m)]:=by
 have hl:l.length<=1000000:=Aw h;by_cases hm:l.length=m.length
 .obtain ⟨N,hN⟩:=u5r l m hl hm l.length 0 (Ak _);refine ⟨N,?_⟩;unfold RC;rw [Qo (show (l.length:Int)=(m.length:Nat) by omega)];exact hN
 .refine ⟨0,?_⟩;unfold RC;rw [Qm (show (l.length:Int)≠(m.length:Nat) by omega)];have:EW l m=false:=Ah fun e=>hm (by rw [e]);rw [this];rfl
theorem u5p (l m:zr) (hl:l.length<=1000000) (hm:l.length=m.length): ∀(k i:Nat),i+k=l.length-> ∃N,Zt (MD l m) N (.to (.h0 (i:Int)))=.ret [.bool (decide (l.drop i=m.drop i))]
 | 0,i,h=>by refine ⟨1,?_⟩;rw [Zx,Av (show l.length<=i by omega),Av (show m.length<=i by omega)];simp (disch:=omega) only [MD,Xb,Xv,Ym,Yo,Wj,Xs,Xe,Wx,Yx,Zq,Yf,Qm,Qo,AA,Zk,Yy,Zo,Ww,Zj,Ak,Ar,As,Af,Ab,Ay,AC,Za]
 | k+1,i,h=>by
  obtain ⟨N,hN⟩:=u5p l m hl hm k (i+1) (by omega);refine ⟨N+1,?_⟩;rw [Zx,Yt (show i<l.length by omega),Yt (show i<m.length by omega),Pe];rcases Uz (decide (rd l i=rd m i)) with q | q
  .simp (disch:=omega) only [MD,YI,q,Xb,Xv,Ym,Yo,Wj,Xs,Xe,Wx,Yx,Zq,Yf,Qm,Qo,AA,Zk,Yy,Zo,Ww,Zj,Ak,Ar,As,Af,Ab,Ay,AC,Za];exact hN
  .simp (disch:=omega) only [MD,YI,q,Xb,Xv,Ym,Yo,Wj,Xs,Xe,Wx,Yx,Zq,Yf,Qm,Qo,AA,Zk,Yy,Zo,Ww,Zj,Ak,Ar,As,Af,Ab,Ay,AC,Za,A3]
theorem j0f (l m:zr) (h:Kd l m=true): ∃N,Zt (MD l m) N (RD l m)=.ret [.bool (EX l m)]:=by
 have hl:l.length<=1000000:=Aw h;by_cases hm:l.length=m.length
 .obtain ⟨N,hN⟩:=u5p l m hl hm l.length 0 (Ak _);refine ⟨N,?_⟩;unfold RD;rw [Qo (show (l.length:Int)=(m.length:Nat) by omega)];exact hN
 .refine ⟨0,?_⟩;unfold RD;rw [Qm (show (l.length:Int)≠(m.length:Nat) by omega)];have:EX l m=false:=Ah fun e=>hm (by rw [e]);rw [this];rfl
theorem u5v (l m:zt) (hl:l.length<=1000000) (hm:l.length=m.length): ∀(k i:Nat),i+k=l.length-> ∃N,Zt (MA l m) N (.to (.h0 (i:Int)))=.ret [.bool (decide (l.drop i=m.drop i))]
 | 0,i,h=>by refine ⟨1,?_⟩;rw [Zx,Av (show l.length<=i by omega),Av (show m.length<=i by omega)];simp (disch:=omega) only [MA,Xb,Xv,Ym,Yo,Wj,Xs,Xe,Wx,Yx,Zq,Yf,Qm,Qo,AA,Zk,Yy,Zo,Ww,Zj,Ak,Ar,As,Af,Ab,Ay,AC,Za]
 | k+1,i,h=>by
  obtain ⟨N,hN⟩:=u5v l m hl hm k (i+1) (by omega);refine ⟨N+1,?_⟩;rw [Zx,Yt (show i<l.length by omega),Yt (show i<m.length by omega),Pe];rcases Uz (decide (rd l i=rd m i)) with q | q
  .simp (disch:=omega) only [MA,YJ,q,Xb,Xv,Ym,Yo,Wj,Xs,Xe,Wx,Yx,Zq,Yf,Qm,Qo,AA,Zk,Yy,Zo,Ww,Zj,Ak,Ar,As,Af,Ab,Ay,AC,Za];exact hN
  .simp (disch:=omega) only [MA,YJ,q,Xb,Xv,Ym,Yo,Wj,Xs,Xe,Wx,Yx,Zq,Yf,Qm,Qo,AA,Zk,Yy,Zo,Ww,Zj,Ak,Ar,As,Af,Ab,Ay,AC,Za,A3]
theorem j0l (l m:zt) (h:Us l m=true): ∃N,Zt (MA l m) N (RB l m)=.ret [.bool (Dy l m)]:=by
 have hl:l.length<=1000000:=Aw h;by_cases hm:l.length=m.length
 .obtain ⟨N,hN⟩:=u5v l m hl hm l.length 0 (Ak _);refine ⟨N,?_⟩;unfold RB;rw [Qo (show (l.length:Int)=(m.length:Nat) by omega)];exact hN
 .refine ⟨0,?_⟩;unfold RB;rw [Qm (show (l.length:Int)≠(m.length:Nat) by omega)];have:Dy l m=false:=Ah fun e=>hm (by rw [e]);rw [this];rfl
theorem u8f (l m:zp) (hl:l.length<=1000000) (hm:l.length=m.length): ∀(k i:Nat),i+k=l.length-> ∃N,Zt (Lk l m) N (.to (.h0 (i:Int)))=.ret [.bool (decide (l.drop i=m.drop i))]
 | 0,i,h=>by refine ⟨1,?_⟩;rw [Zx,Av (show l.length<=i by omega),Av (show m.length<=i by omega)];simp (disch:=omega) only [Lk,Xb,Xv,Ym,Yo,Wj,Xs,Xe,Wx,Yx,Zq,Yf,Qm,Qo,AA,Zk,Yy,Zo,Ww,Zj,Ak,Ar,As,Af,Ab,Ay,AC,Za]
 | k+1,i,h=>by
  obtain ⟨N,hN⟩:=u8f l m hl hm k (i+1) (by omega);refine ⟨N+1,?_⟩;rw [Zx,Yt (show i<l.length by omega),Yt (show i<m.length by omega),Pe];rcases Uz (decide (rd l i=rd m i)) with q | q
  .simp (disch:=omega) only [Lk,YH,q,Xb,Xv,Ym,Yo,Wj,Xs,Xe,Wx,Yx,Zq,Yf,Qm,Qo,AA,Zk,Yy,Zo,Ww,Zj,Ak,Ar,As,Af,Ab,Ay,AC,Za];exact hN
  .simp (disch:=omega) only [Lk,YH,q,Xb,Xv,Ym,Yo,Wj,Xs,Xe,Wx,Yx,Zq,Yf,Qm,Qo,AA,Zk,Yy,Zo,Ww,Zj,Ak,Ar,As,Af,Ab,Ay,AC,Za,A3]
theorem j5t (l m:zp) (h:Ke l m=true): ∃N,Zt (Lk l m) N (Rh l m)=.ret [.bool (EW l m)]:=by
 have hl:l.length<=1000000:=Aw h;by_cases hm:l.length=m.length
 .obtain ⟨N,hN⟩:=u8f l m hl hm l.length 0 (Ak _);refine ⟨N,?_⟩;unfold Rh;rw [Qo (show (l.length:Int)=(m.length:Nat) by omega)];exact hN
 .refine ⟨0,?_⟩;unfold Rh;rw [Qm (show (l.length:Int)≠(m.length:Nat) by omega)];have:EW l m=false:=Ah fun e=>hm (by rw [e]);rw [this];rfl
theorem u8e (l m:zr) (hl:l.length<=1000000) (hm:l.length=m.length): ∀(k i:Nat),i+k=l.length-> ∃N,Zt (Ll l m) N (.to (.h0 (i:Int)))=.ret [.bool (decide (l.drop i=m.drop i))]
 | 0,i,h=>by refine ⟨1,?_⟩;rw [Zx,Av (show l.length<=i by omega),Av (show m.length<=i by omega)];simp (disch:=omega) only [Ll,Xb,Xv,Ym,Yo,Wj,Xs,Xe,Wx,Yx,Zq,Yf,Qm,Qo,AA,Zk,Yy,Zo,Ww,Zj,Ak,Ar,As,Af,Ab,Ay,AC,Za]
 | k+1,i,h=>by
  obtain ⟨N,hN⟩:=u8e l m hl hm k (i+1) (by omega);refine ⟨N+1,?_⟩;rw [Zx,Yt (show i<l.length by omega),Yt (show i<m.length by omega),Pe];rcases Uz (decide (rd l i=rd m i)) with q | q
  .simp (disch:=omega) only [Ll,YI,q,Xb,Xv,Ym,Yo,Wj,Xs,Xe,Wx,Yx,Zq,Yf,Qm,Qo,AA,Zk,Yy,Zo,Ww,Zj,Ak,Ar,As,Af,Ab,Ay,AC,Za];exact hN
  .simp (disch:=omega) only [Ll,YI,q,Xb,Xv,Ym,Yo,Wj,Xs,Xe,Wx,Yx,Zq,Yf,Qm,Qo,AA,Zk,Yy,Zo,Ww,Zj,Ak,Ar,As,Af,Ab,Ay,AC,Za,A3]
theorem j5s (l m:zr) (h:Kd l m=true): ∃N,Zt (Ll l m) N (Ri l m)=.ret [.bool (EX l m)]:=by
 have hl:l.length<=1000000:=Aw h;by_cases hm:l.length=m.length
 .obtain ⟨N,hN⟩:=u8e l m hl hm l.length 0 (Ak _);refine ⟨N,?_⟩;unfold Ri;rw [Qo (show (l.length:Int)=(m.length:Nat) by omega)];exact hN
 .refine ⟨0,?_⟩;unfold Ri;rw [Qm (show (l.length:Int)≠(m.length:Nat) by omega)];have:EX l m=false:=Ah fun e=>hm (by rw [e]);rw [this];rfl
theorem u8d (l m:zt) (hl:l.length<=1000000) (hm:l.length=m.length): ∀(k i:Nat),i+k=l.length-> ∃N,Zt (Lm l m) N (.to (.h0 (i:Int)))=.ret [.bool (decide (l.drop i=m.drop i))]
 | 0,i,h=>by refine ⟨1,?_⟩;rw [Zx,Av (show l.length<=i by omega),Av (show m.length<=i by omega)];simp (disch:=omega) only [Lm,Xb,Xv,Ym,Yo,Wj,Xs,Xe,Wx,Yx,Zq,Yf,Qm,Qo,AA,Zk,Yy,Zo,Ww,Zj,Ak,Ar,As,Af,Ab,Ay,AC,Za]
 | k+1,i,h=>by
  obtain ⟨N,hN⟩:=u8d l m hl hm k (i+1) (by omega);refine ⟨N+1,?_⟩;rw [Zx,Yt (show i<l.length by omega),Yt (show i<m.length by omega),Pe];rcases Uz (decide (rd l i=rd m i)) with q | q
  .simp (disch:=omega) only [Lm,YJ,q,Xb,Xv,Ym,Yo,Wj,Xs,Xe,Wx,Yx,Zq,Yf,Qm,Qo,AA,Zk,Yy,Zo,Ww,Zj,Ak,Ar,As,Af,Ab,Ay,AC,Za];exact hN
  .simp (disch:=omega) only [Lm,YJ,q,Xb,Xv,Ym,Yo,Wj,Xs,Xe,Wx,Yx,Zq,Yf,Qm,Qo,AA,Zk,Yy,Zo,Ww,Zj,Ak,Ar,As,Af,Ab,Ay,AC,Za,A3]
theorem j5r (l m:zt) (h:Us l m=true): ∃N,Zt (Lm l m) N (Rj l m)=.ret [.bool (Dy l m)]:=by
 have hl:l.length<=1000000:=Aw h;by_cases hm:l.length=m.length
 .obtain ⟨N,hN⟩:=u8d l m hl hm l.length 0 (Ak _);refine ⟨N,?_⟩;unfold Rj;rw [Qo (show (l.length:Int)=(m.length:Nat) by omega)];exact hN
 .refine ⟨0,?_⟩;unfold Rj;rw [Qm (show (l.length:Int)≠(m.length:Nat) by omega)];have:Dy l m=false:=Ah fun e=>hm (by rw [e]);rw [this];rfl
def Tz (x y:Int) (r:R4):Bool:=decide (r.a<=x)&&(decide (x<r.c)&&(decide (r.b<=y)&&decide (y<r.d)))
def Qr (l:zr) (x y:Int):Bool:=l.any (Tz x y)
def Pv (l:zr) (x y:Int):Bool:=decide (l.length<=1000000)
theorem v3r (l:zr) (x y:Int) (hl:l.length<=1000000): ∀(k i:Nat),i+k=l.length-> ∃N,Zt (Pj l x y) N (.to (.h0 (i:Int)))=.ret [.bool ((l.drop i).any (Tz x y))]
 | 0,i,h=>by refine ⟨1,?_⟩;rw [Zx,Av (show l.length<=i by omega)];simp (disch:=omega) only [Pj,Xb,Xv,Ym,Yo,Wj,Xs,Xe,Wx,Yx,Zq,Yf,Qm,Qo,AA,Zk,Yy,Zo,Ww,Zj,Ak,Ar,As,Af,Ab,Ay,AC,Za];rfl
 | k+1,i,h=>by
  obtain ⟨N,hN⟩:=v3r l x y hl k (i+1) (by omega);refine ⟨N+1,?_⟩;rw [Zx,Yt (show i<l.length by omega),B4];unfold Tz at hN ⊢;rcases Uz (decide ((rd l i).a <=x)) with q1 | q1 <;> rcases Uz (decide (x<(rd l i).c)) with q2 | q2 <;> rcases Uz (decide ((rd l i).b <=y)) with q3 | q3 <;> rcases Uz (decide (y<(rd l i).d)) with q4 | q4 <;>
   simp (disch:=omega) only [Pj,q1,q2,q3,q4,Xb,Xv,Ym,Yo,Wj,Xs,Xe,Wx,Yx,Zq,Yf,Qm,Qo,AA,Zk,Yy,Zo,Ww,Zj,Ak,Ar,As,Af,Ab,Ay,AC,Za,A3,A2,Bi,Bool.true_or] <;> exact hN
theorem u0k (l:zr) (x y:Int) (h:Pv l x y=true): ∃N,Zt (Pj l x y) N (WY l x y)=.ret [.bool (Qr l x y)]:=by
 have:=v3r l x y (Aw h) l.length 0 (Ak _)
 simpa [WY,Qr] using this
def YR (z:Int) (b:R6):Bool:=decide (b.c<=z)&&decide (z<b.f)
def j3t (b:R6):R4:=⟨b.a,b.b,b.d,b.e⟩
def CM (l:zt) (z:Int):zr:=(l.filter (YR z)).map j3t
def Pd (l:zt) (z:Int):Bool:=decide (l.length<=1000000)
theorem v4i (l:zt) (z:Int) (hl:l.length<=1000000): ∀(k i:Nat) (out:zr),i+k=l.length->out.length<=i-> ∃N,Zt (Lu l z) N (.to (.h0 out (i:Int)))=.ret [.dat (out++CM (l.drop i) z).length (Zz (out++CM (l.drop i) z))]
 | 0,i,out,h,ho=>by refine ⟨1,?_⟩;rw [Zx,Av (show l.length<=i by omega)];simp (disch:=omega) only [Lu,Xb,Xv,Ym,Yo,Wj,Xs,Xe,Wx,Yx,Zq,Yf,Qm,Qo,AA,Zk,Yy,Zo,Ww,Zj,Ak,Ar,As,Af,Ab,Ay,AC,Za,CM,List.filter_nil,List.map_nil,AO]
 | k+1,i,out,h,ho=>by
  rw [Yt (show i<l.length by omega)];have e:CM (rd l i::l.drop (i+1)) z=(bif YR z (rd l i) then [j3t (rd l i)] else [])++CM (l.drop (i+1)) z:=by
   grind [CM]
  rw [e,<-AI];rcases Uz (decide ((rd l i).c <=z)) with q1 | q1 <;> rcases Uz (decide (z<(rd l i).f)) with q2 | q2
  .obtain ⟨N,hN⟩:=v4i l z hl k (i+1) (out++[j3t (rd l i)]) (by omega) (by simp;omega);refine ⟨N+1,?_⟩;rw [Zx];simp (disch:=omega) only [Lu,q1,q2,YR,Xb,Xv,Ym,Yo,Wj,Xs,Xe,Wx,Yx,Zq,Yf,Qm,Qo,AA,Zk,Yy,Zo,Ww,Zj,Ak,Ar,As,Af,Ab,Ay,AC,Za];exact hN
  all_goals
   obtain ⟨N,hN⟩:=v4i l z hl k (i+1) out (by omega) (by omega);refine ⟨N+1,?_⟩;rw [Zx];simp (disch:=omega) only [Lu,q1,q2,YR,Xb,Xv,Ym,Yo,Wj,Xs,Xe,Wx,Yx,Zq,Yf,Qm,Qo,AA,Zk,Yy,Zo,Ww,Zj,Ak,Ar,As,Af,Ab,Ay,AC,Za,A3,A2,AO];exact hN
theorem j2b (l:zt) (z:Int) (h:Pd l z=true): ∃N,Zt (Lu l z) N (VU l z)=.ret [.dat (CM l z).length (Zz (CM l z))]:=by
 have:=v4i l z (Aw h) l.length 0 [] (Ak _) (Aj _)
 simpa [VU] using this
def Fe (cuts:zq) (ins:List Bool):Nat->Nat->zp->zp
 | 0,_,out=>out
 | k+1,i,out=>Fe cuts ins k (i+1) (bif rd ins i then (bif decide (0<out.length)&&((rd out (out.length - 1)).b == rd cuts i) then out.set (out.length - 1) ⟨(rd out (out.length - 1)).a,rd cuts (i+1)⟩ else out++[⟨rd cuts i,rd cuts (i+1)⟩]) else out)
def DD (cuts:zq) (ins:List Bool):zp:=Fe cuts ins (cuts.length - 1) 0 []
def WL (cuts:zq) (ins:List Bool):Bool:=decide (cuts.length<=1000000/\cuts.length<=ins.length+1)
theorem W7 (cuts:zq) (ins:List Bool) (hl:cuts.length<=1000000) (hi:cuts.length<=ins.length+1): ∀(k i:Nat) (out:zp),k=cuts.length - 1 - i->i<=cuts.length->out.length<=i-> ∃N,Zt (HI cuts ins) N (.to (.h0 out (i:Int)))=.ret [.dat (Fe cuts ins k i out).length (Zz (Fe cuts ins k i out))]
 | 0,i,out,h,hi2,ho=>by refine ⟨1,?_⟩;rw [Zx];simp (disch:=omega) only [HI,Xb,Xv,Ym,Yo,Wj,Xs,Xe,Wx,Yx,Zq,Yf,Qm,Qo,AA,Zk,Yy,Zo,Ww,Zj,Ak,Ar,As,Af,Ab,Ay,AC,Za,Fe]
 | k+1,i,out,h,hi2,ho=>by
  unfold Fe;rcases Uz (rd ins i) with q | q
  .rcases Uz (decide (0<out.length)&&((rd out (out.length - 1)).b == rd cuts i)) with q2 | q2
   .obtain ⟨N,hN⟩:=W7 cuts ins hl hi k (i+1) (out.set (out.length - 1) ⟨(rd out (out.length - 1)).a,rd cuts (i+1)⟩) (by omega) (by omega) (by simp;omega);refine ⟨N+1,?_⟩;rw [Zx,q,q2];simp only [Ad,An] at q2;simp (disch:=omega) only [HI,q,q2.2,Xb,Xv,Ym,Yo,Wj,Xs,Xe,Wx,Yx,Zq,Yf,Qm,Qo,AA,Zk,Yy,Zo,Ww,Zj,Ak,Ar,As,Af,Ab,Ay,AC,Za];exact hN
   .obtain ⟨N,hN⟩:=W7 cuts ins hl hi k (i+1) (out++[⟨rd cuts i,rd cuts (i+1)⟩]) (by omega) (by omega) (by simp;omega);refine ⟨N+1,?_⟩;rw [Zx,q,q2];by_cases h0:0<out.length
    .rw [Aa h0,As] at q2;simp (disch:=omega) only [HI,q,q2,Xb,Xv,Ym,Yo,Wj,Xs,Xe,Wx,Yx,Zq,Yf,Qm,Qo,AA,Zk,Yy,Zo,Ww,Zj,Ak,Ar,As,Af,Ab,Ay,AC,Za];exact hN
    .simp (disch:=omega) only [HI,q,Xb,Xv,Ym,Yo,Wj,Xs,Xe,Wx,Yx,Zq,Yf,Qm,Qo,AA,Zk,Yy,Zo,Ww,Zj,Ak,Ar,As,Af,Ab,Ay,AC,Za];exact hN
  .obtain ⟨N,hN⟩:=W7 cuts ins hl hi k (i+1) out (by omega) (by omega) (by omega);refine ⟨N+1,?_⟩;rw [Zx,q];simp (disch:=omega) only [HI,q,Xb,Xv,Ym,Yo,Wj,Xs,Xe,Wx,Yx,Zq,Yf,Qm,Qo,AA,Zk,Yy,Zo,Ww,Zj,Ak,Ar,As,Af,Ab,Ay,AC,Za];exact hN
theorem u0x (cuts:zq) (ins:List Bool) (h:WL cuts ins=true): ∃N,Zt (HI cuts ins) N (WT cuts ins)=.ret [.dat (DD cuts ins).length (Zz (DD cuts ins))]:=by
 obtain ⟨h1,h2⟩:=Aw h;have:=W7 cuts ins h1 h2 (cuts.length - 1) 0 [] (by omega) (AH _) (Aj _)
 simpa [WT,DD] using this
def Fq (k:Int) (a b:Bool):Bool:=bif k == 1 then a&&b else bif k == 2 then a||b else a&& !b
def Ec (a b:Bool):Bool:=a
theorem j3n (k:Int) (a b:Bool): ∃N,Zt (w2g k a b) N (VL k a b)=.ret [.bool (Fq k a b)]:=by
 refine ⟨0,?_⟩;unfold VL Fq;cases a <;> cases b <;> rcases Uz (k == 1) with q | q <;> rcases Uz (k == 2) with q2 | q2 <;> rw [q] <;> (try rw [q2]) <;> rfl
theorem j3r (a b:Bool): ∃N,Zt (w2k a b) N (x3t a b)=.ret [.bool (Ec a b)]:=⟨0,rfl⟩
def Oi :zx->Option (B5×Bool)
 | [a0]=>match C5 Int a0 with
  | some (L0,g0,n0)=>some (.dat (Cc L0).length (Zz (Cc L0)),CV Int n0 g0&&(Iq L0))
  | _=>none
 | _=>none
theorem j4a {S:B7} (hS:Zv prog S):Zv prog (S.with v5g Oi):=by
 refine CU hS (by kernel_rfl) fun args v h=> ?_;unfold Oi at h;split at h
 .rename_i a0;split at h
  .rename_i L0 g0 n0 e0;simp only [Ae,Ac,Ad] at h;obtain ⟨rfl,ho0,hw⟩:=h;obtain ⟨N,hN⟩:=v2y L0 hw;exact ⟨_,_,(.cons (Xd e0 ho0) .nil),rfl,w7z L0 N _ hN,3,rfl⟩
  .cases h
 .cases h
def PN :zx->Option (B5×Bool)
 | [a0,a1]=>match C5 Int a0,C5 Bool a1 with
  | some (L0,g0,n0),some (L1,g1,n1)=>some (.dat (DD L0 L1).length (Zz (DD L0 L1)),CV Int n0 g0&&(CV Bool n1 g1&&(WL L0 L1)))
  | _,_=>none
 | _=>none
theorem j5q {S:B7} (hS:Zv prog S):Zv prog (S.with u7o PN):=by
 refine CU hS (by kernel_rfl) fun args v h=> ?_;unfold PN at h;split at h
 .rename_i a0 a1;split at h
  .rename_i L0 g0 n0 L1 g1 n1 e0 e1;simp only [Ae,Ac,Ad] at h;obtain ⟨rfl,ho0,ho1,hw⟩:=h;obtain ⟨N,hN⟩:=u0x L0 L1 hw;exact ⟨_,_,(.cons (Xd e0 ho0) (.cons (Xd e1 ho1) .nil)),rfl,v4h L0 L1 N _ hN,3,rfl⟩
  .cases h
 .cases h
def QM :zx->Option (B5×Bool)
 | [a0,a1]=>match C5 R2 a0,C5 R2 a1 with
  | some (L0,g0,n0),some (L1,g1,n1)=>some (.bool (EW L0 L1),CV R2 n0 g0&&(CV R2 n1 g1&&(Ke L0 L1)))
  | _,_=>none
 | _=>none
theorem v6p {S:B7} (hS:Zv prog S):Zv prog (S.with u7i QM):=by
 refine CU hS (by kernel_rfl) fun args v h=> ?_;unfold QM at h;split at h
 .rename_i a0 a1;split at h
  .rename_i L0 g0 n0 L1 g1 n1 e0 e1;simp only [Ae,Ac,Ad] at h;obtain ⟨rfl,ho0,ho1,hw⟩:=h;obtain ⟨N,hN⟩:=j0h L0 L1 hw;exact ⟨_,_,(.cons (Xd e0 ho0) (.cons (Xd e1 ho1) .nil)),rfl,v9n L0 L1 N _ hN,3,rfl⟩
  .cases h
 .cases h
def QN :zx->Option (B5×Bool)
 | [a0,a1]=>match C5 R4 a0,C5 R4 a1 with
  | some (L0,g0,n0),some (L1,g1,n1)=>some (.bool (EX L0 L1),CV R4 n0 g0&&(CV R4 n1 g1&&(Kd L0 L1)))
  | _,_=>none
 | _=>none
theorem v6o {S:B7} (hS:Zv prog S):Zv prog (S.with u7h QN):=by
 refine CU hS (by kernel_rfl) fun args v h=> ?_;unfold QN at h;split at h
 .rename_i a0 a1;split at h
  .rename_i L0 g0 n0 L1 g1 n1 e0 e1;simp only [Ae,Ac,Ad] at h;obtain ⟨rfl,ho0,ho1,hw⟩:=h;obtain ⟨N,hN⟩:=j0f L0 L1 hw;exact ⟨_,_,(.cons (Xd e0 ho0) (.cons (Xd e1 ho1) .nil)),rfl,v9l L0 L1 N _ hN,3,rfl⟩
  .cases h
 .cases h
def QO :zx->Option (B5×Bool)
 | [a0,a1]=>match C5 R6 a0,C5 R6 a1 with
  | some (L0,g0,n0),some (L1,g1,n1)=>some (.bool (Dy L0 L1),CV R6 n0 g0&&(CV R6 n1 g1&&(Us L0 L1)))
  | _,_=>none
 | _=>none
theorem v6n {S:B7} (hS:Zv prog S):Zv prog (S.with u7g QO):=by
 refine CU hS (by kernel_rfl) fun args v h=> ?_;unfold QO at h;split at h
 .rename_i a0 a1;split at h
  .rename_i L0 g0 n0 L1 g1 n1 e0 e1;simp only [Ae,Ac,Ad] at h;obtain ⟨rfl,ho0,ho1,hw⟩:=h;obtain ⟨N,hN⟩:=j0l L0 L1 hw;exact ⟨_,_,(.cons (Xd e0 ho0) (.cons (Xd e1 ho1) .nil)),rfl,v9q L0 L1 N _ hN,3,rfl⟩
  .cases h
 .cases h
def j5g :zx->Option (B5×Bool)
 | [a0,.int .i64 x1,.int .i64 x2]=>match C5 R4 a0 with
  | some (L0,g0,n0)=>some (.bool (Qr L0 x1 x2),CV R4 n0 g0&&(Pv L0 x1 x2))
  | _=>none
 | _=>none
theorem u3m {S:B7} (hS:Zv prog S):Zv prog (S.with LM j5g):=by
 refine CU hS (by kernel_rfl) fun args v h=> ?_;unfold j5g at h;split at h
 .rename_i a0 x1 x2;split at h
  .rename_i L0 g0 n0 e0;simp only [Ae,Ac,Ad] at h;obtain ⟨rfl,ho0,hw⟩:=h;obtain ⟨N,hN⟩:=u0k L0 x1 x2 hw;exact ⟨_,_,(.cons (Xd e0 ho0) (.cons (.refl _) (.cons (.refl _) .nil))),rfl,v3s L0 x1 x2 N _ hN,3,rfl⟩
  .cases h
 .cases h
def fAt :zx->Option (B5×Bool)
 | [a0,.int .i64 x1]=>match C5 R6 a0 with
  | some (L0,g0,n0)=>some (.dat (CM L0 x1).length (Zz (CM L0 x1)),CV R6 n0 g0&&(Pd L0 x1))
  | _=>none
 | _=>none
theorem PO {S:B7} (hS:Zv prog S):Zv prog (S.with nAt fAt):=by
 refine CU hS (by kernel_rfl) fun args v h=> ?_;unfold fAt at h;split at h
 .rename_i a0 x1;split at h
  .rename_i L0 g0 n0 e0;simp only [Ae,Ac,Ad] at h;obtain ⟨rfl,ho0,hw⟩:=h;obtain ⟨N,hN⟩:=j2b L0 x1 hw;exact ⟨_,_,(.cons (Xd e0 ho0) (.cons (.refl _) .nil)),rfl,u0z L0 x1 N _ hN,3,rfl⟩
  .cases h
 .cases h
def v6u :zx->Option (B5×Bool)
 | [.int .i64 x0,.bool b1,.bool b2]=>some (.bool (Fq x0 b1 b2),true)
 | _=>none
theorem v6t {S:B7} (hS:Zv prog S):Zv prog (S.with u7m v6u):=by
 refine CU hS (by kernel_rfl) fun args v h=> ?_;unfold v6u at h;split at h
 .rename_i x0 b1 b2;simp only [Ae,Ac,B2] at h;subst h;obtain ⟨N,hN⟩:=j3n x0 b1 b2;exact ⟨_,_,(.cons (.refl _) (.cons (.refl _) (.cons (.refl _) .nil))),rfl,u3b x0 b1 b2 N _ hN,3,rfl⟩
 .cases h
def PI :zx->Option (B5×Bool)
 | [.bool b0,.bool b1]=>some (.bool (Ec b0 b1),true)
 | _=>none
theorem j5i {S:B7} (hS:Zv prog S):Zv prog (S.with Tm PI):=by
 refine CU hS (by kernel_rfl) fun args v h=> ?_;unfold PI at h;split at h
 .rename_i b0 b1;simp only [Ae,Ac,B2] at h;subst h;obtain ⟨N,hN⟩:=j3r b0 b1;exact ⟨_,_,(.cons (.refl _) (.cons (.refl _) .nil)),rfl,u3e b0 b1 N _ hN,3,rfl⟩
 .cases h
theorem v0k {S:B7} (hS:Zv prog S):Zv prog (S.with Tp QM):=by
 refine CU hS (by kernel_rfl) fun args v h=> ?_;unfold QM at h;split at h
 .rename_i a0 a1;split at h
  .rename_i L0 g0 n0 L1 g1 n1 e0 e1;simp only [Ae,Ac,Ad] at h;obtain ⟨rfl,ho0,ho1,hw⟩:=h;obtain ⟨N,hN⟩:=j5t L0 L1 hw;exact ⟨_,_,(.cons (Xd e0 ho0) (.cons (Xd e1 ho1) .nil)),rfl,u3s L0 L1 N _ hN,3,rfl⟩
  .cases h
 .cases h
theorem v0j {S:B7} (hS:Zv prog S):Zv prog (S.with To QN):=by
 refine CU hS (by kernel_rfl) fun args v h=> ?_;unfold QN at h;split at h
 .rename_i a0 a1;split at h
  .rename_i L0 g0 n0 L1 g1 n1 e0 e1;simp only [Ae,Ac,Ad] at h;obtain ⟨rfl,ho0,ho1,hw⟩:=h;obtain ⟨N,hN⟩:=j5s L0 L1 hw;exact ⟨_,_,(.cons (Xd e0 ho0) (.cons (Xd e1 ho1) .nil)),rfl,u3r L0 L1 N _ hN,3,rfl⟩
  .cases h
 .cases h
theorem v0i {S:B7} (hS:Zv prog S):Zv prog (S.with Tn QO):=by
 refine CU hS (by kernel_rfl) fun args v h=> ?_;unfold QO at h;split at h
 .rename_i a0 a1;split at h
  .rename_i L0 g0 n0 L1 g1 n1 e0 e1;simp only [Ae,Ac,Ad] at h;obtain ⟨rfl,ho0,ho1,hw⟩:=h;obtain ⟨N,hN⟩:=j5r L0 L1 hw;exact ⟨_,_,(.cons (Xd e0 ho0) (.cons (Xd e1 ho1) .nil)),rfl,u3q L0 L1 N _ hN,3,rfl⟩
  .cases h
 .cases h
def T1 :B7:=((((((((((((Dh.with v5g Oi).with u7o PN).with u7i QM).with u7h QN).with u7g QO).with LM j5g).with nAt fAt).with u7m v6u).with Tm PI).with Tp QM).with To QN).with Tn QO)
theorem Dd :Zv prog T1:=v0i (v0j (v0k (j5i (v6t (PO (u3m (v6n (v6o (v6p (j5q (j4a Zp)))))))))))
inductive H9 where
 | h0 (v5:zq) (v6:Int)
 | h1 (v5:zq) (v7:Int)
def NA (l0:zr) (l1:zr):H9->CH
 | .h0 v5 v6=>⟨⟨48,0,true⟩,none,(Zf prog 181 (pn 75) 0),none,(Zy prog 3),⟨Yh [(0,(dt l0)),(1,(dt l1)),(5,(.sla 0 1 0 v5.length (.un 1))),(6,(ii v6))],Wd [(rz v5 3 1)] 0,1,[],true⟩,[],.leaf⟩
 | .h1 v5 v7=>⟨⟨48,0,true⟩,none,(Zf prog 181 (pn 151) 0),none,(Zy prog 3),⟨Yh [(1,(dt l1)),(5,(.sla 0 1 0 v5.length (.un 1))),(7,(ii v7))],Wd [(rz v5 3 1)] 0,1,[],true⟩,[],.leaf⟩
def KA :List (Option zw):=[some [0,1,5,6]]
def KC :List (Option zw):=[]
def Jl :List (Option zw):=[some [1,5,7]]
def KB :List (Option zw):=[]
def HC (l0:zr) (l1:zr):H9->Xy H9
 | .h0 v5 v6=>let b:=rd l0 v6.toNat;(bif (decide (v6<(l0.length:Int))) then (bif ((decide (0<=v6/\v6<(l0.length:Int)))&&true) then (bif (Nat.beq 1 1&&((decide (0+v5.length=v5.length))&&decide ((v5.length+2+1)*(8+1)<=Vw))) then (.to (.h0 (v5++[b.a,b.c]) (wrap .i64 (v6+1)))) else .stuck) else .stuck) else (.to (.h1 v5 0)))
 | .h1 v5 v7=>let b:=rd l1 v7.toNat;(bif (decide (v7<(l1.length:Int))) then (bif ((decide (0<=v7/\v7<(l1.length:Int)))&&true) then (bif (Nat.beq 1 1&&((decide (0+v5.length=v5.length))&&decide ((v5.length+2+1)*(8+1)<=Vw))) then (.to (.h1 (v5++[b.a,b.c]) (wrap .i64 (v7+1)))) else .stuck) else .stuck) else (bif (Iq (B6 v5)) then (.ret [(.dat (Cc (B6 v5)).length (Zz (Cc (B6 v5))))]) else .stuck))
def V9 (l0:zr) (l1:zr):Xy H9:=(.to (.h0 ([]:zq) 0))
theorem w7t (l0:zr) (l1:zr): ∀s,Wu prog (Zy prog 181) (NA l0 l1) (NA l0 l1 s) (HC l0 l1 s)
 | .h0 v5 v6=>(lb (fun k0=>(lo fun o0=>(lo fun o1=>let f:=rd l0 (tn v6);let e:=f;let b:=v5++[e.a,e.c];let h:=v5++[f.a,f.c];let i:=v5.length+2;let d:=xL i h.length;let g:=Zg (Zz v5) 0 v5.length 1 [(ii f.a),(ii f.c)];(sl Dd 20 [] ⟨[2],[],KA,KC⟩ ⟨[(5,.len b.length)],[.rowed 1 b.length (Zz b)],[]⟩ [true] (pp d (pp d (pp (xS i g (Zz h)) (pp (pp (xF g) nn) (ww o1 (ww o0 (ww o0 (tt k0 nn)))))))))))) (fun k0=>(sl Dd 17 [] ⟨[0],[],Jl,KB⟩ b7 [false] (pp (fl v5 nn) (tt k0 nn)))))
 | .h1 v5 v7=>(lb (fun k0=>(lo fun o0=>(lo fun o1=>let g:=rd l1 (tn v7);let e:=g;let b:=v5++[e.a,e.c];let i:=v5++[g.a,g.c];let j:=v5.length+2;let d:=xL j i.length;let h:=Zg (Zz v5) 0 v5.length 1 [(ii g.a),(ii g.c)];(sl Dd 20 [] ⟨[2],[],Jl,KB⟩ ⟨[(5,.len b.length)],[.rowed 1 b.length (Zz b)],[]⟩ [true] (pp d (pp d (pp (xS j h (Zz i)) (pp (pp (xF h) nn) (ww o1 (ww o0 (ww o0 (tt k0 nn)))))))))))) (fun k0=>(Up (sl Dd (C':=⟨⟨48,0,true⟩,(C4 prog 181 (pn 47) 1),(Zf prog 181 (pn 47) 1),none,(Zy prog 3),⟨Yh [(46,(dt v5))],Wd [] 0,0,[],true⟩,[],.leaf⟩) 13 [] ⟨[],[0],[some [46]],[]⟩ ⟨[(46,.frz v5.length v5.length (Zz v5) (Zz v5))],[],[]⟩ [false] (pp (xZ (Cz 1 1 0 v5.length v5.length (Zz v5)) v5.length (Zz v5)) (pp (xL v5.length v5.length) (pp (xS v5.length (Zz v5) (Zz v5)) (pp (fl v5 nn) (tt k0 nn)))))) (lo fun o0=>let f:=Cc (B6 v5);(lr 48 3 (pn 191) 1 3 [(4,(dt f))] (sl Dd 3 [] (b8 [4]) b7 [] (pp (pp (xr v5) (xw o0)) nn)))))))
theorem x9i (l0:zr) (l1:zr):Wu prog (Zy prog 181) (NA l0 l1) (Zm prog 181 [(dt l0),(dt l1)] true []) (V9 l0 l1):=(sl Dd 15 [(3,1,Zz ([]:zq))] ⟨[0],[],KA,KC⟩ ⟨[(5,.grow 0 1)],[],[]⟩ [] (pp (fl ([]:zq) nn) nn))
theorem v9h (l0:zr) (l1:zr) (n:Nat) (vs:zx) (h:Zt (HC l0 l1) n (V9 l0 l1)=.ret vs):Kw prog (Zy prog 181) (Zm prog 181 [(dt l0),(dt l1)] true []) vs:=by have:=Zb (w7t l0 l1) n _ (x9i l0 l1);rwa [h] at this
inductive H8 where
 | h0 (v5:zq) (v6:Int)
 | h1 (v5:zq) (v7:Int)
def Mz (l0:zr) (l1:zr):H8->CH
 | .h0 v5 v6=>⟨⟨48,0,true⟩,none,(Zf prog 182 (pn 75) 0),none,(Zy prog 3),⟨Yh [(0,(dt l0)),(1,(dt l1)),(5,(.sla 0 1 0 v5.length (.un 1))),(6,(ii v6))],Wd [(rz v5 3 1)] 0,1,[],true⟩,[],.leaf⟩
 | .h1 v5 v7=>⟨⟨48,0,true⟩,none,(Zf prog 182 (pn 151) 0),none,(Zy prog 3),⟨Yh [(1,(dt l1)),(5,(.sla 0 1 0 v5.length (.un 1))),(7,(ii v7))],Wd [(rz v5 3 1)] 0,1,[],true⟩,[],.leaf⟩
def J7 :List (Option zw):=[some [0,1,5,6]]
def J9 :List (Option zw):=[]
def J6 :List (Option zw):=[some [1,5,7]]
def J8 :List (Option zw):=[]
def HD (l0:zr) (l1:zr):H8->Xy H8
 | .h0 v5 v6=>let a:=rd l0 v6.toNat;(bif (decide (v6<(l0.length:Int))) then (bif ((decide (0<=v6/\v6<(l0.length:Int)))&&true) then (bif (Nat.beq 1 1&&((decide (0+v5.length=v5.length))&&decide ((v5.length+2+1)*(8+1)<=Vw))) then (.to (.h0 (v5++[a.b,a.d]) (wrap .i64 (v6+1)))) else .stuck) else .stuck) else (.to (.h1 v5 0)))
 | .h1 v5 v7=>let a:=rd l1 v7.toNat;(bif (decide (v7<(l1.length:Int))) then (bif ((decide (0<=v7/\v7<(l1.length:Int)))&&true) then (bif (Nat.beq 1 1&&((decide (0+v5.length=v5.length))&&decide ((v5.length+2+1)*(8+1)<=Vw))) then (.to (.h1 (v5++[a.b,a.d]) (wrap .i64 (v7+1)))) else .stuck) else .stuck) else (bif (Iq (B6 v5)) then (.ret [(.dat (Cc (B6 v5)).length (Zz (Cc (B6 v5))))]) else .stuck))
def Vl (l0:zr) (l1:zr):Xy H8:=(.to (.h0 ([]:zq) 0))
theorem w7s (l0:zr) (l1:zr): ∀s,Wu prog (Zy prog 182) (Mz l0 l1) (Mz l0 l1 s) (HD l0 l1 s)
 | .h0 v5 v6=>(lb (fun k0=>(lo fun o0=>(lo fun o1=>let f:=rd l0 (tn v6);let e:=f;let a:=v5++[e.b,e.d];let h:=v5++[f.b,f.d];let i:=v5.length+2;let c:=xL i h.length;let g:=Zg (Zz v5) 0 v5.length 1 [(ii f.b),(ii f.d)];(sl Dd 20 [] ⟨[2],[],J7,J9⟩ ⟨[(5,.len a.length)],[.rowed 1 a.length (Zz a)],[]⟩ [true] (pp c (pp c (pp (xS i g (Zz h)) (pp (pp (xF g) nn) (ww o1 (ww o0 (ww o0 (tt k0 nn)))))))))))) (fun k0=>(sl Dd 17 [] ⟨[0],[],J6,J8⟩ b7 [false] (pp (fl v5 nn) (tt k0 nn)))))
 | .h1 v5 v7=>(lb (fun k0=>(lo fun o0=>(lo fun o1=>let g:=rd l1 (tn v7);let e:=g;let a:=v5++[e.b,e.d];let i:=v5++[g.b,g.d];let j:=v5.length+2;let c:=xL j i.length;let h:=Zg (Zz v5) 0 v5.length 1 [(ii g.b),(ii g.d)];(sl Dd 20 [] ⟨[2],[],J6,J8⟩ ⟨[(5,.len a.length)],[.rowed 1 a.length (Zz a)],[]⟩ [true] (pp c (pp c (pp (xS j h (Zz i)) (pp (pp (xF h) nn) (ww o1 (ww o0 (ww o0 (tt k0 nn)))))))))))) (fun k0=>(Up (sl Dd (C':=⟨⟨48,0,true⟩,(C4 prog 182 (pn 47) 1),(Zf prog 182 (pn 47) 1),none,(Zy prog 3),⟨Yh [(46,(dt v5))],Wd [] 0,0,[],true⟩,[],.leaf⟩) 13 [] ⟨[],[0],[some [46]],[]⟩ ⟨[(46,.frz v5.length v5.length (Zz v5) (Zz v5))],[],[]⟩ [false] (pp (xZ (Cz 1 1 0 v5.length v5.length (Zz v5)) v5.length (Zz v5)) (pp (xL v5.length v5.length) (pp (xS v5.length (Zz v5) (Zz v5)) (pp (fl v5 nn) (tt k0 nn)))))) (lo fun o0=>let f:=Cc (B6 v5);(lr 48 3 (pn 191) 1 3 [(4,(dt f))] (sl Dd 3 [] (b8 [4]) b7 [] (pp (pp (xr v5) (xw o0)) nn)))))))
theorem x9h (l0:zr) (l1:zr):Wu prog (Zy prog 182) (Mz l0 l1) (Zm prog 182 [(dt l0),(dt l1)] true []) (Vl l0 l1):=(sl Dd 15 [(3,1,Zz ([]:zq))] ⟨[0],[],J7,J9⟩ ⟨[(5,.grow 0 1)],[],[]⟩ [] (pp (fl ([]:zq) nn) nn))
theorem v9g (l0:zr) (l1:zr) (n:Nat) (vs:zx) (h:Zt (HD l0 l1) n (Vl l0 l1)=.ret vs):Kw prog (Zy prog 182) (Zm prog 182 [(dt l0),(dt l1)] true []) vs:=by have:=Zb (w7s l0 l1) n _ (x9h l0 l1);rwa [h] at this
inductive Eh where
 | h0 (v5:zq) (v6:Int)
 | h1 (v5:zq) (v7:Int)
def j1t (l0:zt) (l1:zt):Eh->CH
 | .h0 v5 v6=>⟨⟨52,0,true⟩,none,(Zf prog 148 (pn 75) 0),none,(Zy prog 3),⟨Yh [(0,(dt l0)),(1,(dt l1)),(5,(.sla 0 1 0 v5.length (.un 1))),(6,(ii v6))],Wd [(rz v5 3 1)] 0,1,[],true⟩,[],.leaf⟩
 | .h1 v5 v7=>⟨⟨52,0,true⟩,none,(Zf prog 148 (pn 151) 0),none,(Zy prog 3),⟨Yh [(1,(dt l1)),(5,(.sla 0 1 0 v5.length (.un 1))),(7,(ii v7))],Wd [(rz v5 3 1)] 0,1,[],true⟩,[],.leaf⟩
def u6n :List (Option zw):=[some [0,1,5,6]]
def u6p :List (Option zw):=[]
def u6m :List (Option zw):=[some [1,5,7]]
def u6o :List (Option zw):=[]
def HJ (l0:zt) (l1:zt):Eh->Xy Eh
 | .h0 v5 v6=>let a:=rd l0 v6.toNat;(bif (decide (v6<(l0.length:Int))) then (bif ((decide (0<=v6/\v6<(l0.length:Int)))&&true) then (bif (Nat.beq 1 1&&((decide (0+v5.length=v5.length))&&decide ((v5.length+2+1)*(8+1)<=Vw))) then (.to (.h0 (v5++[a.c,a.f]) (wrap .i64 (v6+1)))) else .stuck) else .stuck) else (.to (.h1 v5 0)))
 | .h1 v5 v7=>let a:=rd l1 v7.toNat;(bif (decide (v7<(l1.length:Int))) then (bif ((decide (0<=v7/\v7<(l1.length:Int)))&&true) then (bif (Nat.beq 1 1&&((decide (0+v5.length=v5.length))&&decide ((v5.length+2+1)*(8+1)<=Vw))) then (.to (.h1 (v5++[a.c,a.f]) (wrap .i64 (v7+1)))) else .stuck) else .stuck) else (bif (Iq (B6 v5)) then (.ret [(.dat (Cc (B6 v5)).length (Zz (Cc (B6 v5))))]) else .stuck))
def WV (l0:zt) (l1:zt):Xy Eh:=(.to (.h0 ([]:zq) 0))
theorem w0p (l0:zt) (l1:zt): ∀s,Wu prog (Zy prog 148) (j1t l0 l1) (j1t l0 l1 s) (HJ l0 l1 s)
 | .h0 v5 v6=>(lb (fun k0=>(lo fun o0=>(lo fun o1=>let e:=rd l0 (tn v6);let d:=e;let a:=v5++[d.c,d.f];let h:=v5++[e.c,e.f];let i:=v5.length+2;let b:=xL i h.length;let g:=Zg (Zz v5) 0 v5.length 1 [(ii e.c),(ii e.f)];(sl Dd 20 [] ⟨[2],[],u6n,u6p⟩ ⟨[(5,.len a.length)],[.rowed 1 a.length (Zz a)],[]⟩ [true] (pp b (pp b (pp (xS i g (Zz h)) (pp (pp (xF g) nn) (ww o1 (ww o0 (ww o0 (tt k0 nn)))))))))))) (fun k0=>(sl Dd 17 [] ⟨[0],[],u6m,u6o⟩ b7 [false] (pp (fl v5 nn) (tt k0 nn)))))
 | .h1 v5 v7=>(lb (fun k0=>(lo fun o0=>(lo fun o1=>let g:=rd l1 (tn v7);let d:=g;let a:=v5++[d.c,d.f];let i:=v5++[g.c,g.f];let j:=v5.length+2;let b:=xL j i.length;let h:=Zg (Zz v5) 0 v5.length 1 [(ii g.c),(ii g.f)];(sl Dd 20 [] ⟨[2],[],u6m,u6o⟩ ⟨[(5,.len a.length)],[.rowed 1 a.length (Zz a)],[]⟩ [true] (pp b (pp b (pp (xS j h (Zz i)) (pp (pp (xF h) nn) (ww o1 (ww o0 (ww o0 (tt k0 nn)))))))))))) (fun k0=>(Up (sl Dd (C':=⟨⟨52,0,true⟩,(C4 prog 148 (pn 47) 1),(Zf prog 148 (pn 47) 1),none,(Zy prog 3),⟨Yh [(50,(dt v5))],Wd [] 0,0,[],true⟩,[],.leaf⟩) 13 [] ⟨[],[0],[some [50]],[]⟩ ⟨[(50,.frz v5.length v5.length (Zz v5) (Zz v5))],[],[]⟩ [false] (pp (xZ (Cz 1 1 0 v5.length v5.length (Zz v5)) v5.length (Zz v5)) (pp (xL v5.length v5.length) (pp (xS v5.length (Zz v5) (Zz v5)) (pp (fl v5 nn) (tt k0 nn)))))) (lo fun o0=>let e:=Cc (B6 v5);(lr 52 3 (pn 191) 1 3 [(4,(dt e))] (sl Dd 3 [] (b8 [4]) b7 [] (pp (pp (xr v5) (xw o0)) nn)))))))
theorem x5x (l0:zt) (l1:zt):Wu prog (Zy prog 148) (j1t l0 l1) (Zm prog 148 [(dt l0),(dt l1)] true []) (WV l0 l1):=(sl Dd 15 [(3,1,Zz ([]:zq))] ⟨[0],[],u6n,u6p⟩ ⟨[(5,.grow 0 1)],[],[]⟩ [] (pp (fl ([]:zq) nn) nn))
theorem v3z (l0:zt) (l1:zt) (n:Nat) (vs:zx) (h:Zt (HJ l0 l1) n (WV l0 l1)=.ret vs):Kw prog (Zy prog 148) (Zm prog 148 [(dt l0),(dt l1)] true []) vs:=by have:=Zb (w0p l0 l1) n _ (x5x l0 l1);rwa [h] at this
def Dj (l:zr):zq:=l.flatMap fun r=>[r.a,r.c]
def De (l:zr):zq:=l.flatMap fun r=>[r.b,r.d]
def Dk (l:zt):zq:=l.flatMap fun r=>[r.c,r.f]
def CK (l m:zr):zq:=Cc (Dj l++Dj m)
def WI (l m:zr):Bool:=decide (l.length<=10000/\m.length<=10000)
theorem Y5 (l:zr):(Dj l).length =2*l.length:=by
 induction l with
 | nil=>rfl
 | cons r l ih=>grind [Dj]
theorem x0m (l:zr) (i:Nat) (h:i<l.length):Dj (l.drop i)=Dj [rd l i]++Dj (l.drop (i+1)):=by rw [Yt h];rfl
theorem u5k (l m:zr) (hl:l.length<=10000) (hm:m.length<=10000): ∀(k i:Nat) (out:zq),i+k=m.length->out.length=2*l.length+2*i-> ∃N,Zt (HC l m) N (.to (.h1 out (i:Int)))=.ret [.dat (Cc (out++Dj (m.drop i))).length (Zz (Cc (out++Dj (m.drop i))))]
 | 0,i,out,h,ho=>by refine ⟨1,?_⟩;have hw:Iq out=true:=Aa (by omega);rw [Zx,Av (show m.length<=i by omega),show Dj []=[] from rfl,AO];simp (disch:=omega) only [HC,Xb,Xv,Ym,Yo,Wj,Xs,Xe,Wx,Yx,Zq,Yf,Qm,Qo,AA,Zk,Yy,Zo,Ww,Zj,Ak,Ar,As,Af,Ab,Ay,AC,Za,Yb,Zr,Uf,Xh,hw]
 | k+1,i,out,h,ho=>by obtain ⟨N,hN⟩:=u5k l m hl hm k (i+1) (out++Dj [rd m i]) (by omega) (by grind [Y5]);refine ⟨N+1,?_⟩;rw [x0m m i (by omega),<-AI,Zx];simp (disch:=omega) only [HC,Xb,Xv,Ym,Yo,Wj,Xs,Xe,Wx,Yx,Zq,Yf,Qm,Qo,AA,Zk,Yy,Zo,Ww,Zj,Ak,Ar,As,Af,Ab,Ay,AC,Za,Yb,Zr,Uf,Xh];exact hN
theorem u5l (l m:zr) (hl:l.length<=10000) (hm:m.length<=10000): ∀(k i:Nat) (out:zq),i+k=l.length->out.length=2*i-> ∃N,Zt (HC l m) N (.to (.h0 out (i:Int)))=.ret [.dat (Cc (out++Dj (l.drop i)++Dj m)).length (Zz (Cc (out++Dj (l.drop i)++Dj m)))]
 | 0,i,out,h,ho=>by obtain ⟨N,hN⟩:=u5k l m hl hm m.length 0 out (Ak _) (by omega);refine ⟨N+1,?_⟩;rw [Zx,Av (show l.length<=i by omega),show Dj []=[] from rfl,AO];simp (disch:=omega) only [HC,Xb,Xv,Ym,Yo,Wj,Xs,Xe,Wx,Yx,Zq,Yf,Qm,Qo,AA,Zk,Yy,Zo,Ww,Zj,Ak,Ar,As,Af,Ab,Ay,AC,Za,Yb,Zr,Uf,Xh];exact hN
 | k+1,i,out,h,ho=>by obtain ⟨N,hN⟩:=u5l l m hl hm k (i+1) (out++Dj [rd l i]) (by omega) (by grind [Y5]);refine ⟨N+1,?_⟩;rw [x0m l i (by omega),<-AI,Zx];simp (disch:=omega) only [HC,Xb,Xv,Ym,Yo,Wj,Xs,Xe,Wx,Yx,Zq,Yf,Qm,Qo,AA,Zk,Yy,Zo,Ww,Zj,Ak,Ar,As,Af,Ab,Ay,AC,Za,Yb,Zr,Uf,Xh];exact hN
theorem u9v (l m:zr) (h:WI l m=true): ∃N,Zt (HC l m) N (V9 l m)=.ret [.dat (CK l m).length (Zz (CK l m))]:=by
 obtain ⟨h1,h2⟩:=Aw h;have:=u5l l m h1 h2 l.length 0 [] (Ak _) rfl
 simpa [V9,CK] using this
def CP (l m:zr):zq:=Cc (De l++De m)
def WJ (l m:zr):Bool:=decide (l.length<=10000/\m.length<=10000)
theorem Y6 (l:zr):(De l).length =2*l.length:=by
 induction l with
 | nil=>rfl
 | cons r l ih=>grind [De]
theorem x0l (l:zr) (i:Nat) (h:i<l.length):De (l.drop i)=De [rd l i]++De (l.drop (i+1)):=by rw [Yt h];rfl
theorem u5i (l m:zr) (hl:l.length<=10000) (hm:m.length<=10000): ∀(k i:Nat) (out:zq),i+k=m.length->out.length=2*l.length+2*i-> ∃N,Zt (HD l m) N (.to (.h1 out (i:Int)))=.ret [.dat (Cc (out++De (m.drop i))).length (Zz (Cc (out++De (m.drop i))))]
 | 0,i,out,h,ho=>by refine ⟨1,?_⟩;have hw:Iq out=true:=Aa (by omega);rw [Zx,Av (show m.length<=i by omega),show De []=[] from rfl,AO];simp (disch:=omega) only [HD,Xb,Xv,Ym,Yo,Wj,Xs,Xe,Wx,Yx,Zq,Yf,Qm,Qo,AA,Zk,Yy,Zo,Ww,Zj,Ak,Ar,As,Af,Ab,Ay,AC,Za,Yb,Zr,Uf,Xh,hw]
 | k+1,i,out,h,ho=>by obtain ⟨N,hN⟩:=u5i l m hl hm k (i+1) (out++De [rd m i]) (by omega) (by grind [Y6]);refine ⟨N+1,?_⟩;rw [x0l m i (by omega),<-AI,Zx];simp (disch:=omega) only [HD,Xb,Xv,Ym,Yo,Wj,Xs,Xe,Wx,Yx,Zq,Yf,Qm,Qo,AA,Zk,Yy,Zo,Ww,Zj,Ak,Ar,As,Af,Ab,Ay,AC,Za,Yb,Zr,Uf,Xh];exact hN
theorem u5j (l m:zr) (hl:l.length<=10000) (hm:m.length<=10000): ∀(k i:Nat) (out:zq),i+k=l.length->out.length=2*i-> ∃N,Zt (HD l m) N (.to (.h0 out (i:Int)))=.ret [.dat (Cc (out++De (l.drop i)++De m)).length (Zz (Cc (out++De (l.drop i)++De m)))]
 | 0,i,out,h,ho=>by obtain ⟨N,hN⟩:=u5i l m hl hm m.length 0 out (Ak _) (by omega);refine ⟨N+1,?_⟩;rw [Zx,Av (show l.length<=i by omega),show De []=[] from rfl,AO];simp (disch:=omega) only [HD,Xb,Xv,Ym,Yo,Wj,Xs,Xe,Wx,Yx,Zq,Yf,Qm,Qo,AA,Zk,Yy,Zo,Ww,Zj,Ak,Ar,As,Af,Ab,Ay,AC,Za,Yb,Zr,Uf,Xh];exact hN
 | k+1,i,out,h,ho=>by obtain ⟨N,hN⟩:=u5j l m hl hm k (i+1) (out++De [rd l i]) (by omega) (by grind [Y6]);refine ⟨N+1,?_⟩;rw [x0l l i (by omega),<-AI,Zx];simp (disch:=omega) only [HD,Xb,Xv,Ym,Yo,Wj,Xs,Xe,Wx,Yx,Zq,Yf,Qm,Qo,AA,Zk,Yy,Zo,Ww,Zj,Ak,Ar,As,Af,Ab,Ay,AC,Za,Yb,Zr,Uf,Xh];exact hN
theorem u9u (l m:zr) (h:WJ l m=true): ∃N,Zt (HD l m) N (Vl l m)=.ret [.dat (CP l m).length (Zz (CP l m))]:=by
 obtain ⟨h1,h2⟩:=Aw h;have:=u5j l m h1 h2 l.length 0 [] (Ak _) rfl
 simpa [Vl,CP] using this
def Xm (l m:zt):zq:=Cc (Dk l++Dk m)
def WM (l m:zt):Bool:=decide (l.length<=40000/\m.length<=40000)
theorem Y7 (l:zt):(Dk l).length =2*l.length:=by
 induction l with
 | nil=>rfl
 | cons r l ih=>grind [Dk]
theorem x0i (l:zt) (i:Nat) (h:i<l.length):Dk (l.drop i)=Dk [rd l i]++Dk (l.drop (i+1)):=by rw [Yt h];rfl
theorem v3x (l m:zt) (hl:l.length<=40000) (hm:m.length<=40000): ∀(k i:Nat) (out:zq),i+k=m.length->out.length=2*l.length+2*i-> ∃N,Zt (HJ l m) N (.to (.h1 out (i:Int)))=.ret [.dat (Cc (out++Dk (m.drop i))).length (Zz (Cc (out++Dk (m.drop i))))]
 | 0,i,out,h,ho=>by refine ⟨1,?_⟩;have hw:Iq out=true:=Aa (by omega);rw [Zx,Av (show m.length<=i by omega),show Dk []=[] from rfl,AO];simp (disch:=omega) only [HJ,Xb,Xv,Ym,Yo,Wj,Xs,Xe,Wx,Yx,Zq,Yf,Qm,Qo,AA,Zk,Yy,Zo,Ww,Zj,Ak,Ar,As,Af,Ab,Ay,AC,Za,Yb,Zr,Uf,Xh,hw]
 | k+1,i,out,h,ho=>by obtain ⟨N,hN⟩:=v3x l m hl hm k (i+1) (out++Dk [rd m i]) (by omega) (by grind [Y7]);refine ⟨N+1,?_⟩;rw [x0i m i (by omega),<-AI,Zx];simp (disch:=omega) only [HJ,Xb,Xv,Ym,Yo,Wj,Xs,Xe,Wx,Yx,Zq,Yf,Qm,Qo,AA,Zk,Yy,Zo,Ww,Zj,Ak,Ar,As,Af,Ab,Ay,AC,Za,Yb,Zr,Uf,Xh];exact hN
theorem v3y (l m:zt) (hl:l.length<=40000) (hm:m.length<=40000): ∀(k i:Nat) (out:zq),i+k=l.length->out.length=2*i-> ∃N,Zt (HJ l m) N (.to (.h0 out (i:Int)))=.ret [.dat (Cc (out++Dk (l.drop i)++Dk m)).length (Zz (Cc (out++Dk (l.drop i)++Dk m)))]
 | 0,i,out,h,ho=>by obtain ⟨N,hN⟩:=v3x l m hl hm m.length 0 out (Ak _) (by omega);refine ⟨N+1,?_⟩;rw [Zx,Av (show l.length<=i by omega),show Dk []=[] from rfl,AO];simp (disch:=omega) only [HJ,Xb,Xv,Ym,Yo,Wj,Xs,Xe,Wx,Yx,Zq,Yf,Qm,Qo,AA,Zk,Yy,Zo,Ww,Zj,Ak,Ar,As,Af,Ab,Ay,AC,Za,Yb,Zr,Uf,Xh];exact hN
 | k+1,i,out,h,ho=>by obtain ⟨N,hN⟩:=v3y l m hl hm k (i+1) (out++Dk [rd l i]) (by omega) (by grind [Y7]);refine ⟨N+1,?_⟩;rw [x0i l i (by omega),<-AI,Zx];simp (disch:=omega) only [HJ,Xb,Xv,Ym,Yo,Wj,Xs,Xe,Wx,Yx,Zq,Yf,Qm,Qo,AA,Zk,Yy,Zo,Ww,Zj,Ak,Ar,As,Af,Ab,Ay,AC,Za,Yb,Zr,Uf,Xh];exact hN
theorem u0p (l m:zt) (h:WM l m=true): ∃N,Zt (HJ l m) N (WV l m)=.ret [.dat (Xm l m).length (Zz (Xm l m))]:=by
 obtain ⟨h1,h2⟩:=Aw h;have:=v3y l m h1 h2 l.length 0 [] (Ak _) rfl
 simpa [WV,Xm] using this
def fXs :zx->Option (B5×Bool)
 | [a0,a1]=>match C5 R4 a0,C5 R4 a1 with
  | some (L0,g0,n0),some (L1,g1,n1)=>some (.dat (CK L0 L1).length (Zz (CK L0 L1)),CV R4 n0 g0&&(CV R4 n1 g1&&(WI L0 L1)))
  | _,_=>none
 | _=>none
theorem Of {S:B7} (hS:Zv prog S):Zv prog (S.with nXs fXs):=by
 refine CU hS (by kernel_rfl) fun args v h=> ?_;unfold fXs at h;split at h
 .rename_i a0 a1;split at h
  .rename_i L0 g0 n0 L1 g1 n1 e0 e1;simp only [Ae,Ac,Ad] at h;obtain ⟨rfl,ho0,ho1,hw⟩:=h;obtain ⟨N,hN⟩:=u9v L0 L1 hw;exact ⟨_,_,(.cons (Xd e0 ho0) (.cons (Xd e1 ho1) .nil)),rfl,v9h L0 L1 N _ hN,3,rfl⟩
  .cases h
 .cases h
def fYs :zx->Option (B5×Bool)
 | [a0,a1]=>match C5 R4 a0,C5 R4 a1 with
  | some (L0,g0,n0),some (L1,g1,n1)=>some (.dat (CP L0 L1).length (Zz (CP L0 L1)),CV R4 n0 g0&&(CV R4 n1 g1&&(WJ L0 L1)))
  | _,_=>none
 | _=>none
theorem Oe {S:B7} (hS:Zv prog S):Zv prog (S.with nYs fYs):=by
 refine CU hS (by kernel_rfl) fun args v h=> ?_;unfold fYs at h;split at h
 .rename_i a0 a1;split at h
  .rename_i L0 g0 n0 L1 g1 n1 e0 e1;simp only [Ae,Ac,Ad] at h;obtain ⟨rfl,ho0,ho1,hw⟩:=h;obtain ⟨N,hN⟩:=u9u L0 L1 hw;exact ⟨_,_,(.cons (Xd e0 ho0) (.cons (Xd e1 ho1) .nil)),rfl,v9g L0 L1 N _ hN,3,rfl⟩
  .cases h
 .cases h
def j5m :zx->Option (B5×Bool)
 | [a0,a1]=>match C5 R6 a0,C5 R6 a1 with
  | some (L0,g0,n0),some (L1,g1,n1)=>some (.dat (Xm L0 L1).length (Zz (Xm L0 L1)),CV R6 n0 g0&&(CV R6 n1 g1&&(WM L0 L1)))
  | _,_=>none
 | _=>none
theorem u3n {S:B7} (hS:Zv prog S):Zv prog (S.with LN j5m):=by
 refine CU hS (by kernel_rfl) fun args v h=> ?_;unfold j5m at h;split at h
 .rename_i a0 a1;split at h
  .rename_i L0 g0 n0 L1 g1 n1 e0 e1;simp only [Ae,Ac,Ad] at h;obtain ⟨rfl,ho0,ho1,hw⟩:=h;obtain ⟨N,hN⟩:=u0p L0 L1 hw;exact ⟨_,_,(.cons (Xd e0 ho0) (.cons (Xd e1 ho1) .nil)),rfl,v3z L0 L1 N _ hN,3,rfl⟩
  .cases h
 .cases h
def T2 :B7:=((T1.with nXs fXs).with nYs fYs).with LN j5m
theorem Et :Zv prog T2:=u3n (Oe (Of Dd))
inductive Hn where
 | h0 (v9:zr) (v10:zp) (v11:Int) (v12:Int)
 | h1 (v9:zr) (v10:zp) (v11:Int) (v12:Int) (v13:List Bool) (v14:Int)
 | h2 (v9:zr) (v10:zp) (v11:Int) (v12:Int) (v15:zp) (v17:Int)
 | h3 (v9:zr) (v10:zp) (v11:Int) (v12:Int) (v16:Int)
def NT (x0:Int) (l1:zr) (l2:zr):Hn->CH
 | .h0 v9 v10 v11 v12=>⟨⟨121,0,true⟩,none,(Zf prog 149 (pn 607) 0),none,(Zy prog 7),⟨Yh [(0,(ii x0)),(1,(dt l1)),(2,(dt l2)),(7,(.dat (CK (B6 l1) (B6 l2)).length (Zz (CK (B6 l1) (B6 l2))))),(8,(.dat (CP (B6 l1) (B6 l2)).length (Zz (CP (B6 l1) (B6 l2))))),(9,(.sla 0 4 0 v9.length (.un 4))),(10,(dt v10)),(11,(ii v11)),(12,(ii v12))],Wd [(rz v9 168 4)] 0,1,[],true⟩,[],.leaf⟩
 | .h1 v9 v10 v11 v12 v13 v14=>⟨⟨121,0,true⟩,none,(Zf prog 149 (pn 152159) 0),none,(Zy prog 7),⟨Yh [(0,(ii x0)),(1,(dt l1)),(2,(dt l2)),(7,(.dat (CK (B6 l1) (B6 l2)).length (Zz (CK (B6 l1) (B6 l2))))),(8,(.dat (CP (B6 l1) (B6 l2)).length (Zz (CP (B6 l1) (B6 l2))))),(9,(.sla 1 4 0 v9.length (.un 4))),(10,(dt v10)),(11,(ii v11)),(12,(ii v12)),(13,(.sla 0 1 0 v13.length (.un 1))),(14,(ii v14))],Wd [(rz v13 4 1),(rz v9 168 4)] 0,2,[],true⟩,[],.leaf⟩
 | .h2 v9 v10 v11 v12 v15 v17=>⟨⟨121,0,true⟩,none,(Zf prog 149 (pn 1307231) 0),none,(Zy prog 7),⟨Yh [(0,(ii x0)),(1,(dt l1)),(2,(dt l2)),(7,(.dat (CK (B6 l1) (B6 l2)).length (Zz (CK (B6 l1) (B6 l2))))),(8,(.dat (CP (B6 l1) (B6 l2)).length (Zz (CP (B6 l1) (B6 l2))))),(9,(.sla 0 4 0 v9.length (.un 4))),(10,(dt v10)),(11,(ii v11)),(12,(ii v12)),(15,(dt v15)),(17,(ii v17))],Wd [(rz v9 168 4)] 0,1,[],true⟩,[],.leaf⟩
 | .h3 v9 v10 v11 v12 v16=>⟨⟨121,0,true⟩,none,(Zf prog 149 (pn 4813407) 0),none,(Zy prog 7),⟨Yh [(0,(ii x0)),(1,(dt l1)),(2,(dt l2)),(7,(.dat (CK (B6 l1) (B6 l2)).length (Zz (CK (B6 l1) (B6 l2))))),(8,(.dat (CP (B6 l1) (B6 l2)).length (Zz (CP (B6 l1) (B6 l2))))),(9,(.sla 0 4 0 v9.length (.un 4))),(10,(dt v10)),(11,(ii v11)),(12,(ii v12)),(16,(ii v16))],Wd [(rz v9 168 4)] 0,1,[],true⟩,[],.leaf⟩
def j1i :List (Option zw):=[some [0,1,2,7,8,9,10,11,12]]
def j1k :List (Option zw):=[]
def K4 :List (Option zw):=[some [0,1,2,7,8,9,10,11,12,13,14]]
def K6 :List (Option zw):=[]
def j1h :List (Option zw):=[some [0,1,2,7,8,9,10,11,12,15,17]]
def j1j :List (Option zw):=[]
def K3 :List (Option zw):=[some [0,1,2,7,8,9,10,11,12,16]]
def K5 :List (Option zw):=[]
def Ug (x0:Int) (l1:zr) (l2:zr):Hn->Xy Hn
 | .h0 v9 v10 v11 v12=>(bif (decide ((wrap .i64 (v12+1))<(((CK (B6 l1) (B6 l2)).length :Nat):Int))) then (.to (.h1 v9 v10 v11 v12 ([]:List Bool) 0)) else (.ret [(dt v9)]))
 | .h1 v9 v10 v11 v12 v13 v14=>let a:=CP (B6 l1) (B6 l2);let b:=rd (CK (B6 l1) (B6 l2)) v12.toNat;let c:=DD (B6 a) (B6 v13);let d:=rd a v14.toNat;(bif (decide (v14<((a.length :Nat):Int))) then (bif (Pv (B6 l1) b d) then (bif ((decide (0<=v12/\v12<(((CK (B6 l1) (B6 l2)).length :Nat):Int)))&&true) then (bif ((decide (0<=v14/\v14<((a.length :Nat):Int)))&&true) then (bif (Pv (B6 l2) b d) then (bif (Nat.beq 1 1&&((decide (0+v13.length=v13.length))&&decide ((v13.length+1+1)*(1+1)<=Vw))) then (.to (.h1 v9 v10 v11 v12 (v13++[(Fq x0 (Qr (B6 l1) b d) (Qr (B6 l2) b d))]) (wrap .i64 (v14+1)))) else .stuck) else .stuck) else .stuck) else .stuck) else .stuck) else (bif (WL (B6 a) (B6 v13)) then (bif (decide (v12>0)) then (bif (Ke (B6 c) (B6 v10)) then (bif (EW (B6 c) (B6 v10)) then (.to (.h3 v9 v10 v11 v12 v11)) else (.to (.h2 v9 c (v9.length:Int) v12 c 0))) else .stuck) else (.to (.h2 v9 c (v9.length:Int) v12 c 0))) else .stuck))
 | .h2 v9 v10 v11 v12 v15 v17=>let c:=CK (B6 l1) (B6 l2);let d:=rd v15 v17.toNat;(bif (decide (v17<(v15.length:Int))) then (bif ((decide (0<=v12/\v12<((c.length :Nat):Int)))&&true) then (bif ((decide (0<=(wrap .i64 (v12+1))/\(wrap .i64 (v12+1))<((c.length :Nat):Int)))&&true) then (bif ((decide (0<=v17/\v17<(v15.length:Int)))&&true) then (bif (Nat.beq 4 4&&((decide (0+v9.length=v9.length))&&decide ((v9.length+1+1)*(32+1)<=Vw))) then (.to (.h2 (v9++[(R4.mk (rd c v12.toNat) d.a (rd c (Int.toNat (wrap .i64 (v12+1)))) d.b)]) v10 v11 v12 v15 (wrap .i64 (v17+1)))) else .stuck) else .stuck) else .stuck) else .stuck) else (.to (.h0 v9 v10 v11 (wrap .i64 (v12+1)))))
 | .h3 v9 v10 v11 v12 v16=>let c:=rd v9 (0+v16.toNat);let e:=CK (B6 l1) (B6 l2);(bif (decide (v16<(v9.length:Int))) then (bif ((decide (0<=(wrap .i64 (v12+1))/\(wrap .i64 (v12+1))<((e.length :Nat):Int)))&&true) then (bif ((decide (0<=v16/\v16<(v9.length:Int)))&&true) then (bif (decide ((0+v16.toNat)<v9.length)) then (.to (.h3 (v9.set (0+v16.toNat) (R4.mk c.a c.b (rd e (Int.toNat (wrap .i64 (v12+1)))) c.d)) v10 v11 v12 (wrap .i64 (v16+1)))) else .stuck) else .stuck) else .stuck) else (.to (.h0 v9 v10 v11 (wrap .i64 (v12+1)))))
def VZ (x0:Int) (l1:zr) (l2:zr):Xy Hn:=(bif (WI (B6 l1) (B6 l2)) then (bif (WJ (B6 l1) (B6 l2)) then (.to (.h0 ([]:zr) ([]:zp) 0 0)) else .stuck) else .stuck)
theorem w8p (x0:Int) (l1:zr) (l2:zr): ∀s,Wu prog (Zy prog 149) (NT x0 l1 l2) (NT x0 l1 l2 s) (Ug x0 l1 l2 s)
 | .h0 v9 v10 v11 v12=>(lb (fun k0=>(sl Et 24 [(4,1,Zz ([]:List Bool))] ⟨[1,0],[],K4,K6⟩ ⟨[(13,.grow 0 1)],[],[]⟩ [true] (pp (fl ([]:List Bool) (fl v9 nn)) (tt k0 nn)))) (fun k0=>(lr 121 3 (pn 191) 1 7 [(6,(dt v9))] (sl Et 16 [] ⟨[],[0],[some [6]],[]⟩ ⟨[(6,.frz v9.length v9.length (Zz v9) (Zz v9))],[],[]⟩ [false] (pp (xZ (Cz 4 4 0 v9.length v9.length (Zz v9)) v9.length (Zz v9)) (pp (xL v9.length v9.length) (pp (xS v9.length (Zz v9) (Zz v9)) (pp (fl v9 nn) (tt k0 nn)))))))))
 | .h1 v9 v10 v11 v12 v13 v14=>let j:=CP (B6 l1) (B6 l2);let c:=j;let n:=CK (B6 l1) (B6 l2);let d:=n;(lb (fun k0=>(lo fun o0=>(lo fun o1=>(lo fun o2=>(lo fun o3=>(lo fun o4=>let g:=rd d (tn v12);let h:=rd c (tn v14);let a:=v13++[(Fq x0 (Qr (B6 l1) g h) (Qr (B6 l2) g h))];let o:=rd n (tn v12);let p:=rd j (tn v14);let i:=Fq x0 (Qr (B6 l1) o p) (Qr (B6 l2) o p);let q:=v13.length+1;let b:=xL q (v13++[i]).length;let m:=Zg (Zz v13) 0 v13.length 1 [(.bool i)];(sl Et 20 [] ⟨[3,1],[],K4,K6⟩ ⟨[(13,.len a.length)],[.rowed 1 a.length (Zz a),.keep],[]⟩ [true] (pp b (pp b (pp (xS q m (Zz (v13++[i]))) (pp (pp (xF m) (fl v9 nn)) (ww o4 (pp (pp (xr l2) (xw o3)) (ww o2 (ww o1 (pp (pp (xr l1) (xw o0)) (ww o2 (ww o1 (tt k0 nn))))))))))))))))))) (fun k0=>(Up (sl Et (C':=⟨⟨121,0,true⟩,(C4 prog 149 (pn 45663) 2),(Zf prog 149 (pn 45663) 1),none,(Zy prog 7),⟨Yh [(0,(ii x0)),(1,(dt l1)),(2,(dt l2)),(7,(dt d)),(8,(dt c)),(9,(.sla 0 4 0 v9.length (.un 4))),(10,(dt v10)),(11,(ii v11)),(12,(ii v12)),(62,(dt c)),(63,(dt v13))],Wd [(rz v9 168 4)] 0,1,[],true⟩,[],.leaf⟩) 14 [] ⟨[1],[0],[some [0,1,2,7,8,9,10,11,12,62,63]],[]⟩ ⟨[(63,.frz v13.length v13.length (Zz v13) (Zz v13))],[],[]⟩ [false] (pp (xZ (Cz 1 1 0 v13.length v13.length (Zz v13)) v13.length (Zz v13)) (pp (xL v13.length v13.length) (pp (xS v13.length (Zz v13) (Zz v13)) (pp (fl v9 nn) (pp (fl v13 nn) (tt k0 nn))))))) (lo fun aB=>let e:=pp (xr v13) (xw aB);(lb (fun k1=>(lo fun bO=>let f:=pp (xr v10) (xw bO);let l:=DD (B6 j) (B6 v13);(lb (fun k2=>(sl Et 23 [] ⟨[0],[],K3,K5⟩ b7 (CC 4 []) (pp (fl v9 nn) (tt k2 (pp (pp (xI R2 l.length (Zz l)) f) (tt k1 (pp (pp (xI Int j.length (Zz j)) e) nn))))))) (fun k2=>(sl Et 30 [] ⟨[0],[],j1h,j1j⟩ b7 (CC 3 [false]) (pp (fl v9 nn) (tt k2 (pp (pp (xI R2 l.length (Zz l)) f) (tt k1 (pp (pp (xI Int j.length (Zz j)) e) nn)))))))))) (fun k1=>(sl Et 30 [] ⟨[0],[],j1h,j1j⟩ b7 (bl 4 0) (pp (fl v9 nn) (tt k1 (pp (pp (xI Int j.length (Zz j)) e) nn))))))))))
 | .h2 v9 v10 v11 v12 v15 v17=>(lb (fun k0=>(lo fun o0=>(lo fun o1=>(lo fun o2=>(lo fun o3=>let i:=CK (B6 l1) (B6 l2);let e:=i;let j:=rd v15 (tn v17);let f:=j;let l:=tn (wr (v12+1));let c:=v9++[(R4.mk (rd e (tn v12)) f.a (rd e l) f.b)];let m:=rd i (tn v12);let h:=v9++[(R4.mk m j.a (rd i l) j.b)];let n:=v9.length+1;let d:=xL n h.length;let g:=Zg (Zz v9) 0 v9.length 4 [(ii m),(ii j.a),(ii (rd i l)),(ii j.b)];(sl Et 20 [] ⟨[2],[],j1h,j1j⟩ ⟨[(9,.len c.length)],[.rowed 4 c.length (Zz c)],[]⟩ [true] (pp d (pp d (pp (xS n g (Zz h)) (pp (pp (xF g) nn) (ww o3 (ww o2 (ww o1 (ww o2 (ww o0 (tt k0 nn)))))))))))))))) (fun k0=>(sl Et 17 [] ⟨[0],[],j1i,j1k⟩ b7 [false] (pp (fl v9 nn) (tt k0 nn)))))
 | .h3 v9 v10 v11 v12 v16=>(lb (fun k0=>(lo fun o0=>(lo fun o1=>(lo fun o2=>let h:=rd v9 (0+(tn v16));let f:=h;let g:=rd (CK (B6 l1) (B6 l2)) (tn (wr (v12+1)));let c:=v9.set (0+(tn v16)) (R4.mk f.a f.b g f.d);let i:=v9.set (0+(tn v16)) (R4.mk h.a h.b g h.d);let e:=xL v9.length i.length;let j:=Yr (Zz v9) (0+(tn v16)) 2 [(ii g)];(sl Et 31 [] ⟨[0],[],K3,K5⟩ ⟨[(9,.len c.length)],[.rowed 4 c.length (Zz c)],[]⟩ [true] (pp e (pp e (pp (xS v9.length j (Zz i)) (pp (pp (xF j) nn) (ww o2 (ww o1 (ww o0 (tt k0 nn))))))))))))) (fun k0=>(sl Et 17 [] ⟨[0],[],j1i,j1k⟩ b7 [false] (pp (fl v9 nn) (tt k0 nn)))))
theorem w0e (x0:Int) (l1:zr) (l2:zr):Wu prog (Zy prog 149) (NT x0 l1 l2) (Zm prog 149 [(.int .i64 x0),(dt l1),(dt l2)] true []) (VZ x0 l1 l2):=(lo fun o0=>(lo fun o1=>(sl Et 34 [(168,4,Zz ([]:zr))] ⟨[0],[],j1i,j1k⟩ ⟨[(9,.grow 0 4),(10,.list 0 (Zz ([]:zp)))],[],[]⟩ [] (pp (fl ([]:zr) nn) (pp (pp (xr l1) (pp (xr l2) (xw o1))) (pp (pp (xr l1) (pp (xr l2) (xw o0))) nn))))))
theorem u0h (x0:Int) (l1:zr) (l2:zr) (n:Nat) (vs:zx) (h:Zt (Ug x0 l1 l2) n (VZ x0 l1 l2)=.ret vs):Kw prog (Zy prog 149) (Zm prog 149 [(.int .i64 x0),(dt l1),(dt l2)] true []) vs:=by have:=Zb (w8p x0 l1 l2) n _ (w0e x0 l1 l2);rwa [h] at this
theorem z4c : ∀(l out:zq),(l.foldl D8 out).length <=out.length+l.length
 | [],out=>Aj _
 | x::l,out=>AP (z4c l (D8 out x)) (by have:=y7s out x;simp;omega)
theorem Y0 (l:zq):(Cc l).length <=l.length:=by
 grind [z4c,Cc]
theorem y8m (cuts:zq) (ins:List Bool): ∀(k i:Nat) (out:zp),(Fe cuts ins k i out).length <=out.length+k
 | 0,_,out=>Aj _
 | k+1,i,out=>by
  unfold Fe;refine AP (y8m cuts ins k (i+1) _) ?_;cases rd ins i
  .simp only [Ab];omega
  .simp only [Af];cases (decide (0<out.length)&&((rd out (out.length - 1)).b == rd cuts i)) <;> simp <;> omega
theorem w3h (cuts:zq) (ins:List Bool):(DD cuts ins).length <=cuts.length:=by
 grind [y8m,DD]
section
variable (kind:Int) (l m:zr)
def H0 (x:Int) (y:Int):Bool:=Fq kind (Qr l x y) (Qr m x y)
def Ef (x:Int):zp:=DD (CP l m) ((CP l m).map (H0 kind l m x))
def Gr (out:zr) (first:Nat) (x:Int):zr:=out.take first++(out.drop first).map fun r=>⟨r.a,r.b,x,r.d⟩
def O2 (x x':Int) (s:zp):zr:=s.map fun p=>⟨x,p.a,x',p.b⟩
def jF :Nat->Nat->zr->zp->Nat->zr
 | 0,_,out,_,_=>out
 | k+1,i,out,last,first=>
  bif decide (0<i)&&EW (Ef kind l m (rd (CK l m) i)) last then jF k (i+1) (Gr out first (rd (CK l m) (i+1))) last first
  else jF k (i+1) (out++O2 (rd (CK l m) i) (rd (CK l m) (i+1)) (Ef kind l m (rd (CK l m) i))) (Ef kind l m (rd (CK l m) i)) out.length
def Cm :zr:=jF kind l m ((CK l m).length - 1) 0 [] [] 0
end
def Ik (_:Int) (l m:zr):Bool:=decide (l.length<=10000/\m.length<=10000)
theorem MN (l m:zr):(CK l m).length <=2*l.length+2*m.length:=by
 refine AP (Y0 _) ?_
 grind [Y5]
theorem x0j (l m:zr):(CP l m).length <=2*l.length+2*m.length:=by
 refine AP (Y0 _) ?_
 grind [Y6]
section
variable (kind:Int) (l m:zr) (hl:l.length<=10000) (hm:m.length<=10000)
include hl hm
theorem u6h (out:zr) (last:zp) (first:Int) (i:Nat) (hi:i+1<(CK l m).length): ∀(k j:Nat) (acc:List Bool),j+k=(CP l m).length ->acc.length=j->
  ∃n,∀N,Zt (Ug kind l m) (N+n) (.to (.h1 out last first (i:Int) acc (j:Int)))=Zt (Ug kind l m) N (.to (.h1 out last first (i:Int) (acc++((CP l m).drop j).map (H0 kind l m (rd (CK l m) i))) ((CP l m).length :Int)))
 | 0,j,acc,h,ha=>by
  refine ⟨0,fun N=> ?_⟩
  grind
 | k+1,j,acc,h,ha=>by
  have hx:=MN l m;have hy:=x0j l m;obtain ⟨n,hn⟩:=u6h out last first i hi k (j+1) (acc++[H0 kind l m (rd (CK l m) i) (rd (CP l m) j)]) (by omega) (by simp [ha])
  refine ⟨n+1,fun N=> ?_⟩;have w1: ∀x y,Pv l x y=true:=fun x y=>Aa (by omega);have w2: ∀x y,Pv m x y=true:=fun x y=>Aa (by omega);rw [Yt (show j<(CP l m).length by omega),A8,<-AN,Zx];simp (disch:=omega) only [Ug,Yb,Zr,w1,w2,Ym,Yx,Xe,Wx,Yf,Zq,Zk,Ww,Zj,Ak,AA,Ar,As,Af];have:=hn N;rw [AI] at this;exact this
theorem u6g (last:zp) (first:Int) (i:Nat) (hi:i+1<(CK l m).length) (s:zp) (hs:s.length<=1000000): ∀(k j:Nat) (out:zr),j+k=s.length->out.length<=10000000000+j->
  ∃n,∀N,Zt (Ug kind l m) (N+n) (.to (.h2 out last first (i:Int) s (j:Int)))=Zt (Ug kind l m) N (.to (.h0 (out++O2 (rd (CK l m) i) (rd (CK l m) (i+1)) (s.drop j)) last first ((i+1:Nat):Int)))
 | 0,j,out,h,ho=>by
  have hx:=MN l m;refine ⟨1,fun N=> ?_⟩
  grind [Zx,Ug,Zq,O2]
 | k+1,j,out,h,ho=>by
  have hx:=MN l m;obtain ⟨n,hn⟩:=u6g last first i hi s hs k (j+1) (out++O2 (rd (CK l m) i) (rd (CK l m) (i+1)) [rd s j]) (by omega) (by simp [O2];omega)
  refine ⟨n+1,fun N=> ?_⟩;have:=hn N;rw [Yt (show j<s.length by omega),<-AN,Zx];simp (disch:=omega) only [Ug,Yb,Zr,Ym,Yx,Xe,Wx,Yf,Zq,Zk,Ww,Zj,Ak,AA,Ar,As,Af];rw [AI] at this;exact this
theorem u3p (out:zr) (j:Nat) (x:Int) (h:j<out.length):Gr (out.set j ⟨(rd out j).a,(rd out j).b,x,(rd out j).d⟩) (j+1) x=Gr out j x:=by
 have _uhl:=hl;have _uhm:=hm;unfold Gr;rw [Yt h,A8];have e1:(out.set j ⟨(rd out j).a,(rd out j).b,x,(rd out j).d⟩).take (j+1)=out.take j++[⟨(rd out j).a,(rd out j).b,x,(rd out j).d⟩]:=by
  apply Bt;all_goals grind
 have e2:(out.set j ⟨(rd out j).a,(rd out j).b,x,(rd out j).d⟩).drop (j+1)=out.drop (j+1):=by rw [List.drop_set];grind
 grind
theorem u6f (last:zp) (first:Int) (i:Nat) (hi:i+1<(CK l m).length): ∀(k j:Nat) (out:zr),j+k=out.length->out.length<=10000000000->
  ∃n,∀N,Zt (Ug kind l m) (N+n) (.to (.h3 out last first (i:Int) (j:Int)))=Zt (Ug kind l m) N (.to (.h0 (Gr out j (rd (CK l m) (i+1))) last first ((i+1:Nat):Int)))
 | 0,j,out,h,ho=>by
  have hx:=MN l m;refine ⟨1,fun N=> ?_⟩;have e:Gr out j (rd (CK l m) (i+1))=out:=by
   grind [Gr]
  grind [Zx,Ug,Zq]
 | k+1,j,out,h,ho=>by
  have hx:=MN l m;obtain ⟨n,hn⟩:=u6f last first i hi k (j+1) (out.set j ⟨(rd out j).a,(rd out j).b,rd (CK l m) (i+1),(rd out j).d⟩) (by simp;omega) (by grind)
  refine ⟨n+1,fun N=> ?_⟩;have:=hn N;rw [u3p l m hl hm out j _ (by omega)] at this;rw [<-AN,Zx];simp (disch:=omega) only [Ug,Yb,Zr,Ym,Yx,Xs,Xe,Wx,Yf,Zq,Zk,Ww,Zj,Ak,AA,Ar,As,Af];exact this
theorem v3q : ∀(k i:Nat) (out:zr) (last:zp) (first:Nat),k=(CK l m).length - 1 - i->i<=(CK l m).length ->out.length<=i*40000->last.length<=40000->first<=out.length->
  ∃n,Zt (Ug kind l m) n (.to (.h0 out last (first:Int) (i:Int)))=.ret [.dat (jF kind l m k i out last first).length (Zz (jF kind l m k i out last first))]
 | 0,i,out,last,first,h,hi,ho,hla,hf=>by
  have hx:=MN l m;refine ⟨1,?_⟩
  grind [Zx,Ug,Yb,Zq,Za,jF]
 | k+1,i,out,last,first,h,hi,ho,hla,hf=>by
  have hx:=MN l m;have hy:=x0j l m;have hi1:i+1<(CK l m).length :=by omega
  have hsl:(Ef kind l m (rd (CK l m) i)).length <=40000:=AP (w3h _ _) (by omega);have hbig:i*40000<=40000*40000:=AD _ (by omega);obtain ⟨n1,h1⟩:=u6h kind l m hl hm out last first i hi1 (CP l m).length 0 [] (Ak _) rfl
  simp only [AM,Bd,HT] at h1;have w3:WL (CP l m) ((CP l m).map (H0 kind l m (rd (CK l m) i)))=true:=Aa ⟨by omega,by grind⟩;have w4:Ke (DD (CP l m) ((CP l m).map (H0 kind l m (rd (CK l m) i)))) last=true:=Aa (AP hsl (by omega));have hy2:((CP l m).length :Int)=(((CP l m).length :Nat):Int):=rfl;unfold jF;rcases Uz (decide (0<i)&&EW (Ef kind l m (rd (CK l m) i)) last) with q | q
  .obtain ⟨n3,h3⟩:=u6f kind l m hl hm last first i hi1 (out.length - first) first out (by omega) (by omega)
   obtain ⟨n0,h0⟩:=v3q k (i+1) (Gr out first (rd (CK l m) (i+1))) last first (by omega) (by omega) (by simp [Gr];omega) hla (by simp [Gr];omega)
   refine ⟨n0+n3+1+n1+1,?_⟩;rw [q,Af,Zx];simp only [Ad,An] at q;have q2:EW (DD (CP l m) ((CP l m).map (H0 kind l m (rd (CK l m) i)))) last=true:=q.2;simp (disch:=omega) only [Ug,Yb,Zr,Ym,Zq,Zk,Af];simp_all [Zx,Ug,Yb]
  .obtain ⟨n2,h2⟩:=u6g kind l m hl hm (Ef kind l m (rd (CK l m) i)) (out.length:Int) i hi1 (Ef kind l m (rd (CK l m) i)) (by omega) (Ef kind l m (rd (CK l m) i)).length 0 out (Ak _) (by omega);obtain ⟨n0,h0⟩:=v3q k (i+1) (out++O2 (rd (CK l m) i) (rd (CK l m) (i+1)) (Ef kind l m (rd (CK l m) i))) (Ef kind l m (rd (CK l m) i)) out.length (by omega) (by omega) (by simp [O2];omega) hsl (by simp);refine ⟨n0+n2+1+n1+1,?_⟩;rw [q,Ab,Zx];simp (disch:=omega) only [Ug,Yb,Zr,Ym,Zq,Zk,Af];have h1':=h1 (n0+n2+1);rw [h1',Zx];have h2':=h2 n0;simp only [AM,HT] at h2';by_cases hi0:0<i
   .rw [Aa hi0,As] at q;have q2:EW (DD (CP l m) ((CP l m).map (H0 kind l m (rd (CK l m) i)))) last=false:=q;simp (disch:=omega) only [Ug,Yb,Zr,Yo,Xv,q2,w3,w4,Af,Ab];rw [<-h0];exact h2'
   .simp (disch:=omega) only [Ug,Yb,Zr,Yo,Xb,w3,w4,Af,Ab];rw [<-h0];exact h2'
end
theorem j1g (kind:Int) (l m:zr) (h:Ik kind l m=true): ∃N,Zt (Ug kind l m) N (VZ kind l m)=.ret [.dat (Cm kind l m).length (Zz (Cm kind l m))]:=by obtain ⟨hl,hm⟩:=Aw h;obtain ⟨N,hN⟩:=v3q kind l m hl hm ((CK l m).length - 1) 0 [] [] 0 rfl (AH _) (AH _) (AH _) (Aj _);refine ⟨N,?_⟩;have w1:WI l m=true:=Aa ⟨hl,hm⟩;have w2:WJ l m=true:=Aa ⟨hl,hm⟩;simp only [VZ,Yb,Zr,w1,w2,Af];exact hN
theorem OZ {P:Program} {S:B7} (hS:Zv P S) {f:FuncId} {F:zx->Option (B5×Bool)} (hf:(P.funcs[f]?).any (fun fn=>fn.body.isSome)=true)
  (hF: ∀args v,F args=some (v,true)-> ∃bs vs,Ux DO args bs/\(∀(ρ:B9) (u:Value),Zn ρ (Kg vs) u->Zn ρ v u)/\Kw P (Zy P f) (Zm P f bs true []) vs/\ ∃d,pf d (Kg vs)=true):Zv P (S.with f F):=
 x0o hS hf fun args v h=>by obtain ⟨bs,vs,h1,h2,h3,d,h4⟩:=hF args v h;exact ⟨vs,h2,ZU h1 h3,d,h4⟩
theorem G6 {cs cs':zx} (h:Cd cs cs') (ρ:B9) (u:Value) (hv:Zn ρ (.tup cs) u):Zn ρ (.tup cs') u:=by
 cases hv with
 | tup _ vs hl hh=>exact .tup cs' vs (by rw [<-h.len];exact hl) fun i h1 h2=>h.sound i (by rw [h.len];exact h1) h1 (hh i (by rw [h.len];exact h1) h2)
theorem Gb (α:Type) [Xg α]:DO .nils (.dat ([]:List α).length (Zz ([]:List α))):=.nild _
def fJo :zx->Option (B5×Bool)
 | [.int .i64 x0,a1,a2]=>match C5 R4 a1,C5 R4 a2 with
  | some (L1,g1,n1),some (L2,g2,n2)=>some (.dat (Cm x0 L1 L2).length (Zz (Cm x0 L1 L2)),CV R4 n1 g1&&(CV R4 n2 g2&&(Ik x0 L1 L2)))
  | _,_=>none
 | _=>none
theorem PF {S:B7} (hS:Zv prog S):Zv prog (S.with u7l fJo):=by
 refine CU hS (by kernel_rfl) fun args v h=> ?_;unfold fJo at h;split at h
 .rename_i x0 a1 a2;split at h
  .rename_i L1 g1 n1 L2 g2 n2 e1 e2;simp only [Ae,Ac,Ad] at h;obtain ⟨rfl,ho1,ho2,hw⟩:=h;obtain ⟨N,hN⟩:=j1g x0 L1 L2 hw;exact ⟨_,_,(.cons (.refl _) (.cons (Xd e1 ho1) (.cons (Xd e2 ho2) .nil))),rfl,u0h x0 L1 L2 N _ hN,3,rfl⟩
  .cases h
 .cases h
def T3 :B7:=T2.with u7l fJo
theorem Eu :Zv prog T3:=PF Et
def P0 (r:R3):Bool:=decide (-1000000000<=r.a/\r.a<=1000000000)
def Dm (l:List R3):Bool:=l.all P0
abbrev E3 :={r:R3 // P0 r=true}
instance : Inhabited E3:=⟨⟨⟨0,0,0⟩,rfl⟩⟩
def PY (x y:E3):Int:=x.1.a - y.1.a
def ID (x y:E3):Bool:=decide (PY x y<0)
theorem Sl :SWO ID where
 irrefl x:=by unfold ID PY;simp
 trans x y z h1 h2:=by unfold ID PY at*;simp at*;omega
 ntrans x y z h1 h2:=by unfold ID PY at*;simp at*;omega
def Dl :(l:List R3)->Dm l=true->List E3
 | [],_=>[]
 | r::l,h=>⟨r,by simp [Dm] at h;exact h.1⟩::Dl l (by simp [Dm] at h ⊢;exact h.2)
theorem VE : ∀(l:List R3) (h:Dm l=true),(Dl l h).map Subtype.val=l
 | [],_=>rfl
 | r::l,h=>by rw [Dl,A8,VE l]
theorem Px (l:List R3) (h:Dm l=true):(Dl l h).length =l.length:=by
 have:=Au List.length (VE l h)
 simpa using this
def DB (l:List R3):List R3:=if h:Dm l=true then (pdq ID (Dl l h).toArray 0 l.length (Lib.bitLen l.length) true true).toList.map Subtype.val else l
theorem Pt (l:List R3) (h:Dm l=true):(DB l).Perm l/\ ∀i j,i<j->j<(DB l).length ->(rd (DB l) i).a <=(rd (DB l) j).a :=by
 have hp:=pdq_sorts ID Sl (Dl l h).toArray 0 l.length (Lib.bitLen l.length) true true (AH _) (by simp [Px]) (Or.inl rfl);obtain ⟨⟨h1,h2,h3⟩,h4⟩:=hp;have e:DB l=(pdq ID (Dl l h).toArray 0 l.length (Lib.bitLen l.length) true true).toList.map Subtype.val:=by unfold DB;rw [dif_pos h]
 generalize pdq ID (Dl l h).toArray 0 l.length (Lib.bitLen l.length) true true=d at*;have hs:d.size=l.length:=by rw [h1];simp [Px]
 constructor
 .rw [e];have x1:(d.extract 0 l.length).toList =d.toList:=by rw [<-hs];simp
  have x2:((Dl l h).toArray.extract 0 l.length).toList =Dl l h:=by rw [show l.length=(Dl l h).toArray.size by simp [Px]];simp
  rw [x1,x2] at h3;have:=h3.map Subtype.val;rw [VE] at this;exact this
 .intro i j hij hj;rw [e] at hj ⊢;have hj':j<d.size:=by simpa using hj
  have:=h4 i j (AH _) hij (by omega);rw [getElem!_pos d i (by omega),getElem!_pos d j hj'] at this;rw [Wv (by simp;omega),Wv hj];simp only [BQ,Array.getElem_toList];unfold ID PY at this;have:=of_decide_eq_false this;omega
open Go.RowKit Go.Shelf
variable {P:Program} {ρ:B9}
def Da :B5->Value
 | .int k n=>.int k n
 | .bool b=>.bool b
 | _=>.tuple #[]
def Mc :B5->Bool
 | .int _ _=>true
 | .bool _=>true
 | _=>false
theorem w1g {α:Type} [Xg α] (L:List α) (n:Nat) (ty:TypeId) (a:Option DW):(⟨Go.Am.rows n (Zz L),ty,a⟩:CA).isObj =false:=x1d (fun k v hv=>Ax.1 (Xg.sc _) v hv) _ _
theorem v1w {a:B5} (h:Mc a=true):Zn ρ a (Da a):=by
 cases a <;> first
  | exact .int _ _
  | exact .bool _
  | (simp [Mc] at h;done)
theorem v3u {a:B5} {v:Value} (h:Mc a=true) (hv:Zn ρ a v):v=Da a:=by
 cases hv <;> first
  | rfl
  | (simp [Mc] at h;done)
class JF (α:Type) extends Xg α where
 num: ∀a:α,(cells a).all Mc=true
instance : JF R2 where num _:=rfl
instance : JF R3 where num _:=rfl
instance : JF R4 where num _:=rfl
instance : JF R6 where num _:=rfl
instance {α :Type} [Xg α]:Inhabited α:=⟨Xg.d⟩
section
variable {α:Type} [JF α]
def FA (a:α):List Value:=(Xg.cells a).map Da
theorem w2w (a:α):(FA a).length =Xg.w α:=by rw [FA,BW,Xg.len]
theorem w6d (L:List α) (t:Nat) (h:t<L.length*Xg.w α):(flatK FA (Xg.w α) L.toArray)[t]? =(Xg.cells (rd L (t / Xg.w α)))[t %Xg.w α]?.map Da:=by
 have hw:=Xg.pos (α:=α);have hq:t / Xg.w α<L.length:=Bg (by grind);have hj:t %Xg.w α<Xg.w α:=Bw _ hw
 grind [flatK,FA,Wv,Xg.len]
theorem v3k (L:List α) (N t:Nat) (h:t<N*Xg.w α):(rows N (Zz L))[t]? =(Xg.cells (rd L (t / Xg.w α)))[t %Xg.w α]? :=by have hw:=Xg.pos (α:=α);have:=Vf (get:=Zz L) (sz:=Xg.w α) N (fun _ _=>Xg.len _) (t / Xg.w α) (t %Xg.w α) (Bg (by grind)) (Bw _ hw);rw [show t / Xg.w α*Xg.w α+t %Xg.w α=t by rw [BE];exact Bx t _] at this;exact this
theorem WZ (L:List α) (N:Nat):(rows N (Zz L)).length =N*Xg.w α:=Yk N fun _ _=>Xg.len _
theorem ZY (w:World) (n blk off:Nat) (d:Array Value) (os:Array Obj) (k:Nat) (hk:k<w.heap.size):
  (grow (putRow id (Go.Sort.ahead w n) blk off d) os).heap[k]? =if k=blk then (w.heap[k]?).map (onCells (putCells id off d)) else w.heap[k]? :=by
 show (((Go.Sort.ahead w n).heap.modify blk (onCells (putCells id off d)))++os)[k]? =_;rw [Array.getElem?_append_left (by simp_all),BB];show (if blk=k then _ else _)=_;by_cases h:k=blk
 .simp_all
 .rw [Az (fun e=>h e.symm),Az h];rfl
def XH (α:Type) [Xg α] (srt:List α->List α) (bnd:List α->Bool) (g:FuncId) (args:zx) (mem:CE):Option (B5×Nat×CA×Bool):=match args with
 | [.sla b sz off n cap,.fn f []]=>bif Nat.beq f g then match Yi mem b with
  | some ⟨_,ty,some A⟩=>some (.tup [],b,⟨rows A.n (Zz (srt (CG α n A.get))),ty,some ⟨Xg.w α,A.n,Zz (srt (CG α n A.get))⟩⟩,
    Nat.beq sz (Xg.w α)&&(Nat.beq A.sz (Xg.w α)&&(Nat.beq off 0&&((decide (n=A.n)&&(CV α n A.get&&decide (n<4611686018427387904)))&&bnd (CG α n A.get)))))
  | _=>none
  else none
 | _=>none
theorem v6z {f g:FuncId} {srt:List α->List α} {bnd:List α->Bool} (hsl: ∀L,(srt L).length =L.length)
  (hC: ∀(blk off cap:Nat) (L:List α) (w:World),bnd L=true->HoldsK FA (Xg.w α) w blk off L.toArray->blk<w.heap.size->L.length<4611686018427387904->
   Calls P f #[.slice (some ⟨blk,off,none⟩) L.length cap,.func (.func g) #[] #[]] w fun e w'=>e=.returned (.tuple #[])/\ ∃n os,w'=sortWorldK FA (Xg.w α) w blk off n (srt L).toArray os)
  (hN: ∀(p:Option Addr) (cap:Nat) (fv:Value) (w:World),Calls P f #[.slice p 0 cap,fv] w fun e w'=>e=.returned (.tuple #[])/\w'=w):Gm P f (XH α srt bnd g):=by
 intro args mem v b blk h gD ρ next floor vals w hfl eD eB
 have hw0:=Xg.pos (α:=α);unfold XH at h;split at h
 .rename_i b0 sz off n cap f0;obtain ⟨hfg,h'⟩:=Gi h;clear h;obtain rfl:=Ai hfg;have h:=h';clear h';split at h
  .rename_i cells ty A hm;obtain ⟨asz,an,get⟩:=A;simp only [Ae,Ac,Ad] at h;obtain ⟨rfl,rfl,rfl,h1,h2,h3,⟨h4,h5,h6⟩,h7⟩:=h;have g1:=Ai h1;have g2:=Ai h2;have g3:=Ai h3;have g4:n=an:=Aw h4;have h6:n<4611686018427387904:=Aw h6;have g2:asz=Xg.w α:=g2;subst g1;subst g2;subst g3;subst g4;have h7:bnd (CG α n get.get)=true:=h7;have eK:=w5t h5;have eK: ∀i,i<n->get.get i=Zz (CG α n get.get) i:=eK;have hrows:rows n get.get=rows n (Zz (CG α n get.get)):=y2j n eK;obtain ⟨u,hu,fG⟩: ∃u,Zn ρ (.sla b0 (Xg.w α) 0 n cap) u/\vals= #[u,.func (.func f0) #[] #[]]:=by
    obtain ⟨vl⟩:=vals;cases eD with
    | cons q1 q2=>cases q2 with
     | cons q3 q4=>
      cases q4;cases q3 with
      | fn _ _ cvs hl _=>
       grind
   subst fG;have hlt:b0<next:=by
    rcases A7 b0 next with q | q
    .exact q
    .have:=eB.bd b0 q;grind
   show Calls P f _ w _;have hAget:(DW.get ⟨Xg.w α,n,get⟩)=get.get:=rfl;rw [hAget] at*;generalize hI:CG α n get.get=I at*;have hIl:I.length=n:=by rw [<-hI];exact x1f _ _
   generalize hL:srt I=L;have hLl:L.length=n:=by grind
   have hnn:ρ b0=none-> ∀cs ty',Yi mem b0≠some ⟨cs,ty',none⟩:=fun _ cs ty' e=>by grind
   cases hu with
   | sla _ _ _ _ _ l cc e hc eC=>
    have hbk:=(eB.blk b0 l _ e hm).rows rfl;obtain ⟨har,_,_⟩:=hbk.arr _ rfl;have har:cells=rows n get.get:=har;rw [hrows] at har;subst har;obtain ⟨cur,el,hh,hsz,eH⟩:=hbk.cells;simp only [WZ] at eH;have htot:=hbk.tot;have hln:=hbk.n;simp only [WZ] at hln;have eW: ∀t,t<n*Xg.w α->cur[l.base+t]? =(Xg.cells (rd I (t / Xg.w α)))[t %Xg.w α]?.map Da:=fun t ht=>by
     obtain ⟨v,e1,e2⟩:=eH t ht;have hj:t %Xg.w α<Xg.w α:=Bw _ hw0;have hl2:t %Xg.w α<(Xg.cells (rd I (t / Xg.w α))).length :=by rw [Xg.len];exact hj
     have e3:=v3k I n t ht
     grind [v3u,JF.num]
    have fK:=eB.real b0 l e;have hH:HoldsK FA (Xg.w α) w l.blk (l.base+0*Xg.w α) I.toArray:=fun j hj=>by
     have hj:j<n*Xg.w α:=(by simp_all);have hs:j<(flatK FA (Xg.w α) I.toArray).size :=(by grind);have e1:=w6d I j (by grind)
     grind [World.cell?,World.frozen?]
    have eQ:=hC l.blk (l.base+0*Xg.w α) cc I w h7 hH fK (by omega);rw [hIl,hL] at eQ;refine eQ.mono fun e' w' ⟨he,q,os,hw'⟩=>⟨_,he,?_,?_,?_⟩
    .exact .tup [] #[] rfl fun i h1 h2=>absurd h1 (AJ _)
    .subst hw';refine CB.setArr ?_ ⟨Xg.w α,n,.flat (Zz L)⟩ (w1g _ _ _ _) rfl hw0 fun _ _=>Xg.len _;refine CB.rewritten eB e hm (by simp only [WZ]) (fun k hk hne=> ?_) ?_ hbk.noObj ?_
     .exact (ZY _ _ _ _ _ _ _ hk).trans (Az hne)
     .show _<=(((Go.Sort.ahead w q).heap.modify _ _)++os).size;simp_all
     .refine ⟨putCells id (l.base+0*Xg.w α) (flatK FA (Xg.w α) L.toArray) cur,el,?_,fun _ _ _=>hbk.typ _ _ _ hh,?_,fun i hi=> ?_⟩
      .refine (ZY _ _ _ _ _ _ _ fK).trans ?_;rw [AG rfl,hh];rfl
      .grind [putCells]
      .rw [WZ] at hi;have hj:i %Xg.w α<Xg.w α:=Bw _ hw0;have hl2:i %Xg.w α<(Xg.cells (rd L (i / Xg.w α))).length :=by rw [Xg.len];exact hj
       have hl3:i %Xg.w α<(Xg.cells (rd I (i / Xg.w α))).length :=(by grind);have e1:=w6d L i (by grind);rw [At hl2,BU] at e1;have hs:i<(flatK FA (Xg.w α) L.toArray).size :=(by grind);rw [BC hs] at e1;have e3:=v3k L n i hi;rw [At (by grind),At hl2] at e3;refine ⟨Da (Xg.cells (rd L (i / Xg.w α)))[i %Xg.w α],?_,?_⟩
       .simp_all [putCells]
       grind [v1w,JF.num]
    .subst hw';refine Ev.rewritten eB _ (fun l' _=>hfl) hnn (fun k hk hne=> ?_) ?_ rfl rfl rfl
     .exact (ZY _ _ _ _ _ _ _ hk).trans (Az (hne l e))
     .show _<=(((Go.Sort.ahead w q).heap.modify _ _)++os).size;simp_all
   | slan=>
    have hI0:I=[]:=Br hIl;have hL0:L=[]:=Br hLl;refine (hN none 0 _ w).mono fun e' w' ⟨he,hw'⟩=>⟨_,he,?_,?_,?_⟩
    .exact .tup [] #[] rfl fun i h1 h2=>absurd h1 (AJ _)
    .subst hw';refine eB.reblk hm fun l hρ hbk=> ?_;have hbk:=hbk.rows rfl;obtain ⟨har,fY,_⟩:=hbk.arr _ rfl;have har:cells=rows 0 get.get:=har;subst har;exact .plain ⟨hbk.typ,hbk.n,hbk.tot,fun B hB=>by obtain rfl:=Ag hB;exact ⟨rfl,hw0,fun i hi=>absurd hi (AJ _)⟩,hbk.cells⟩
    grind [Ev.rewritten]
  .cases h
 .cases h
end
def B7.withE (S:B7) (f:FuncId) (F:zx->CE->Option (B5×Nat×CA×Bool)):B7:=fun g=>bif Nat.beq g f then some (.eff F) else S g
theorem x2e {P:Program} {S:B7} (hS:Zv P S) {f:FuncId} {F:zx->CE->Option (B5×Nat×CA×Bool)} (hf:(P.funcs[f]?).any (fun fn=>fn.body.isSome)=true) (hF:Gm P f F):Zv P (S.withE f F):=by
 intro g G hg;unfold B7.withE at hg;cases hgf:Nat.beq g f with
 | false=>rw [hgf] at hg;exact hS g G hg
 | true=>
  rw [hgf] at hg;obtain rfl:OX.eff F=G:=Ag hg;obtain rfl:g=f:=Ai hgf;refine ⟨?_,hF⟩
  grind
end Go.Am
namespace Go.Proofs
open Go.Proofs.Tryz
open Go.Shelf Go.RowKit Go.Lib Go.Sort
theorem Tryz.cmpEnd (a b c a' b' c':Int) (h: -1000000000<=a/\a<=1000000000) (h': -1000000000<=a'/\a'<=1000000000) (W:World):
  Calls prog 245 #[.agg #[.int .i64 a,.int .i64 b,.int .i64 c],.agg #[.int .i64 a',.int .i64 b',.int .i64 c']] W fun e w'=>e=.returned (.int .i64 (a - a'))/\ ∃q os',w'=grow (W.drewN q) os':=by
 go_enter Tryz.func245,Tryz.ntmps245
 go_wp2
 go_ret
 exact ⟨rfl,0,_,by rw [alloc_eq_grow,alloc_eq_grow,grow_grow];rfl⟩
end Go.Proofs
namespace Go.Am
open IntKind (wrap)
open Go.Proofs.Tryz
open Go.Proofs
inductive Hm where
 | h0 (v9:zt) (v10:zr) (v11:Int) (v12:Int)
 | h1 (v9:zt) (v10:zr) (v11:Int) (v12:Int) (v13:zr) (v15:Int)
 | h2 (v9:zt) (v10:zr) (v11:Int) (v12:Int) (v14:Int)
def NS (x0:Int) (l1:zt) (l2:zt):Hm->CH
 | .h0 v9 v10 v11 v12=>⟨⟨137,0,true⟩,none,(Zf prog 113 (pn 607) 0),none,(Zy prog 104),⟨Yh [(0,(ii x0)),(1,(dt l1)),(2,(dt l2)),(8,(.dat (Xm (B6 l1) (B6 l2)).length (Zz (Xm (B6 l1) (B6 l2))))),(9,(.sla 0 6 0 v9.length (.un 6))),(10,(dt v10)),(11,(ii v11)),(12,(ii v12))],Wd [(rz v9 79 6)] 0,1,[],true⟩,[],.leaf⟩
 | .h1 v9 v10 v11 v12 v13 v15=>⟨⟨137,0,true⟩,none,(Zf prog 113 (pn 651871) 0),none,(Zy prog 104),⟨Yh [(0,(ii x0)),(1,(dt l1)),(2,(dt l2)),(8,(.dat (Xm (B6 l1) (B6 l2)).length (Zz (Xm (B6 l1) (B6 l2))))),(9,(.sla 0 6 0 v9.length (.un 6))),(10,(dt v10)),(11,(ii v11)),(12,(ii v12)),(13,(dt v13)),(15,(ii v15))],Wd [(rz v9 79 6)] 0,1,[],true⟩,[],.leaf⟩
 | .h2 v9 v10 v11 v12 v14=>⟨⟨137,0,true⟩,none,(Zf prog 113 (pn 2404959) 0),none,(Zy prog 104),⟨Yh [(0,(ii x0)),(1,(dt l1)),(2,(dt l2)),(8,(.dat (Xm (B6 l1) (B6 l2)).length (Zz (Xm (B6 l1) (B6 l2))))),(9,(.sla 0 6 0 v9.length (.un 6))),(10,(dt v10)),(11,(ii v11)),(12,(ii v12)),(14,(ii v14))],Wd [(rz v9 79 6)] 0,1,[],true⟩,[],.leaf⟩
def j1d :List (Option zw):=[some [0,1,2,8,9,10,11,12]]
def j1f :List (Option zw):=[]
def j1c :List (Option zw):=[some [0,1,2,8,9,10,11,12,13,15]]
def j1e :List (Option zw):=[]
def K1 :List (Option zw):=[some [0,1,2,8,9,10,11,12,14]]
def K2 :List (Option zw):=[]
def Ut (x0:Int) (l1:zt) (l2:zt):Hm->Xy Hm
 | .h0 v9 v10 v11 v12=>let e:=Xm (B6 l1) (B6 l2);let a:=rd e v12.toNat;let c:=B6 (CM (B6 l2) a);let d:=B6 (CM (B6 l1) a);let b:=Cm x0 d c;(bif (decide ((wrap .i64 (v12+1))<((e.length :Nat):Int))) then (bif (Pd (B6 l1) a) then (bif ((decide (0<=v12/\v12<((e.length :Nat):Int)))&&true) then (bif (Pd (B6 l2) a) then (bif (Ik x0 d c) then (bif (decide (((b.length :Nat):Int)>400)) then (.ret [.nils,(.bool false)]) else (bif (Ik 2 d ([]:zr)) then (bif (decide ((((Cm 2 d ([]:zr)).length :Nat):Int)>400)) then (.ret [.nils,(.bool false)]) else (bif (Ik 2 c ([]:zr)) then (bif (decide ((((Cm 2 c ([]:zr)).length :Nat):Int)>400)) then (.ret [.nils,(.bool false)]) else (bif (decide (v12>0)) then (bif (Kd (B6 b) (B6 v10)) then (bif (EX (B6 b) (B6 v10)) then (.to (.h2 v9 v10 v11 v12 v11)) else (.to (.h1 v9 b (v9.length:Int) v12 b 0))) else .stuck) else (.to (.h1 v9 b (v9.length:Int) v12 b 0)))) else .stuck)) else .stuck)) else .stuck) else .stuck) else .stuck) else .stuck) else (.ret [(dt v9),(.bool (decide ((v9.length:Int)<=400)))]))
 | .h1 v9 v10 v11 v12 v13 v15=>let e:=Xm (B6 l1) (B6 l2);let f:=rd v13 v15.toNat;(bif (decide (v15<(v13.length:Int))) then (bif ((decide (0<=v12/\v12<((e.length :Nat):Int)))&&true) then (bif ((decide (0<=v15/\v15<(v13.length:Int)))&&true) then (bif ((decide (0<=(wrap .i64 (v12+1))/\(wrap .i64 (v12+1))<((e.length :Nat):Int)))&&true) then (bif (Nat.beq 6 6&&((decide (0+v9.length=v9.length))&&decide ((v9.length+1+1)*(48+1)<=Vw))) then (.to (.h1 (v9++[(R6.mk f.a f.b (rd e v12.toNat) f.c f.d (rd e (Int.toNat (wrap .i64 (v12+1)))))]) v10 v11 v12 v13 (wrap .i64 (v15+1)))) else .stuck) else .stuck) else .stuck) else .stuck) else (.to (.h0 v9 v10 v11 (wrap .i64 (v12+1)))))
 | .h2 v9 v10 v11 v12 v14=>let f:=rd v9 (0+v14.toNat);let g:=Xm (B6 l1) (B6 l2);(bif (decide (v14<(v9.length:Int))) then (bif ((decide (0<=(wrap .i64 (v12+1))/\(wrap .i64 (v12+1))<((g.length :Nat):Int)))&&true) then (bif ((decide (0<=v14/\v14<(v9.length:Int)))&&true) then (bif (decide ((0+v14.toNat)<v9.length)) then (.to (.h2 (v9.set (0+v14.toNat) (R6.mk f.a f.b f.c f.d f.e (rd g (Int.toNat (wrap .i64 (v12+1)))))) v10 v11 v12 (wrap .i64 (v14+1)))) else .stuck) else .stuck) else .stuck) else (.to (.h0 v9 v10 v11 (wrap .i64 (v12+1)))))
def V0 (x0:Int) (l1:zt) (l2:zt):Xy Hm:=(bif (WM (B6 l1) (B6 l2)) then (.to (.h0 ([]:zt) ([]:zr) 0 0)) else .stuck)
theorem w8o (x0:Int) (l1:zt) (l2:zt): ∀s,Wu prog (Zy prog 113) (NS x0 l1 l2) (NS x0 l1 l2 s) (Ut x0 l1 l2 s)
 | .h0 v9 v10 v11 v12=>(lb (fun k0=>(lo fun aB=>(lo fun aL=>(lo fun bP=>(lo fun dU=>let l:=pp (xr l1) (xw aB);let m:=pp (xr l2) (xw bP);let a:=pp m (ww aL (pp l (ww aL (tt k0 nn))));let s:=rd (Xm (B6 l1) (B6 l2)) (tn v12);let t:=CM (B6 l1) s;let u:=CM (B6 l2) s;let w:=pn 152159;(lb (fun k1=>(lr 137 113 w 1 104 [(6,.nils),(7,(.bool false))] (sl Eu 50 [] (b8 [6,7]) b7 (CC 20 []) (tt k1 (pp (pp (xI R4 t.length (Zz t)) (pp (xI R4 u.length (Zz u)) (xw dU))) a))))) (fun k1=>(lo fun bO=>(lb (fun k2=>let b:=xI R4 t.length (Zz t);(lr 137 113 w 1 104 [(6,.nils),(7,(.bool false))] (sl Eu 50 [] (b8 [6,7]) b7 (bl 20 1047553) (tt k2 (pp (pp b (pp (xI R4 0 (fun _=>[])) (xw bO))) (pp l (ww aL (tt k1 (pp (pp b (pp (xI R4 u.length (Zz u)) (xw dU))) a))))))))) (fun k2=>(lo fun cD=>(lb (fun k3=>let c:=xI R4 t.length (Zz t);let g:=xI R4 u.length (Zz u);let o:=xI R4 0 (fun _=>[]);(lr 137 113 w 1 104 [(6,.nils),(7,(.bool false))] (sl Eu 50 [] (b8 [6,7]) b7 (bl 20 524289) (tt k3 (pp (pp g (pp o (xw cD))) (pp m (ww aL (tt k2 (pp (pp c (pp o (xw bO))) (pp l (ww aL (tt k1 (pp (pp c (pp g (xw dU))) a))))))))))))) (fun k3=>(lb (fun k4=>(lo fun cW=>let r:=pp (xr v10) (xw cW);let v:=Cm x0 (B6 t) (B6 u);(lb (fun k5=>let d:=xI R4 t.length (Zz t);let h:=xI R4 u.length (Zz u);let p:=xI R4 0 (fun _=>[]);(sl Eu 66 [] ⟨[0],[],K1,K2⟩ b7 (bl 24 15728641) (pp (fl v9 nn) (tt k5 (pp (pp (xI R4 v.length (Zz v)) r) (tt k4 (tt k3 (pp (pp h (pp p (xw cD))) (pp m (ww aL (tt k2 (pp (pp d (pp p (xw bO))) (pp l (ww aL (tt k1 (pp (pp d (pp h (xw dU))) a)))))))))))))))) (fun k5=>let e:=xI R4 t.length (Zz t);let j:=xI R4 u.length (Zz u);let q:=xI R4 0 (fun _=>[]);(sl Eu 73 [] ⟨[0],[],j1c,j1e⟩ b7 (bl 24 7340033) (pp (fl v9 nn) (tt k5 (pp (pp (xI R4 v.length (Zz v)) r) (tt k4 (tt k3 (pp (pp j (pp q (xw cD))) (pp m (ww aL (tt k2 (pp (pp e (pp q (xw bO))) (pp l (ww aL (tt k1 (pp (pp e (pp j (xw dU))) a))))))))))))))))))) (fun k4=>let f:=xI R4 t.length (Zz t);let i:=xI R4 u.length (Zz u);let n:=xI R4 0 (fun _=>[]);(sl Eu 73 [] ⟨[0],[],j1c,j1e⟩ b7 (bl 24 1) (pp (fl v9 nn) (tt k4 (tt k3 (pp (pp i (pp n (xw cD))) (pp m (ww aL (tt k2 (pp (pp f (pp n (xw bO))) (pp l (ww aL (tt k1 (pp (pp f (pp i (xw dU))) a)))))))))))))))))))))))))))) (fun k0=>(lr 137 3 (pn 191) 1 104 [(6,(dt v9)),(7,(.bool (decide ((v9.length:Int)<=400))))] (sl Eu 20 [] ⟨[],[0],[some [6,7]],[]⟩ ⟨[(6,.frz v9.length v9.length (Zz v9) (Zz v9))],[],[]⟩ [false] (pp (xZ (Cz 6 6 0 v9.length v9.length (Zz v9)) v9.length (Zz v9)) (pp (xL v9.length v9.length) (pp (xS v9.length (Zz v9) (Zz v9)) (pp (fl v9 nn) (tt k0 nn)))))))))
 | .h1 v9 v10 v11 v12 v13 v15=>(lb (fun k0=>(lo fun o0=>(lo fun o1=>(lo fun o2=>(lo fun o3=>let i:=rd v13 (tn v15);let g:=i;let m:=Xm (B6 l1) (B6 l2);let h:=m;let n:=tn (wr (v12+1));let e:=v9++[(R6.mk g.a g.b (rd h (tn v12)) g.c g.d (rd h n))];let o:=rd m (tn v12);let l:=v9++[(R6.mk i.a i.b o i.c i.d (rd m n))];let p:=v9.length+1;let f:=xL p l.length;let j:=Zg (Zz v9) 0 v9.length 6 [(ii i.a),(ii i.b),(ii o),(ii i.c),(ii i.d),(ii (rd m n))];(sl Eu 20 [] ⟨[2],[],j1c,j1e⟩ ⟨[(9,.len e.length)],[.rowed 6 e.length (Zz e)],[]⟩ [true] (pp f (pp f (pp (xS p j (Zz l)) (pp (pp (xF j) nn) (ww o3 (ww o2 (ww o1 (ww o1 (ww o0 (ww o1 (ww o1 (tt k0 nn)))))))))))))))))) (fun k0=>(sl Eu 17 [] ⟨[0],[],j1d,j1f⟩ b7 [false] (pp (fl v9 nn) (tt k0 nn)))))
 | .h2 v9 v10 v11 v12 v14=>(lb (fun k0=>(lo fun o0=>(lo fun o1=>(lo fun o2=>let l:=rd v9 (0+(tn v14));let h:=l;let j:=rd (Xm (B6 l1) (B6 l2)) (tn (wr (v12+1)));let f:=v9.set (0+(tn v14)) (R6.mk h.a h.b h.c h.d h.e j);let i:=v9.set (0+(tn v14)) (R6.mk l.a l.b l.c l.d l.e j);let g:=xL v9.length i.length;let m:=Yr (Zz v9) (0+(tn v14)) 5 [(ii j)];(sl Eu 32 [] ⟨[0],[],K1,K2⟩ ⟨[(9,.len f.length)],[.rowed 6 f.length (Zz f)],[]⟩ [true] (pp g (pp g (pp (xS v9.length m (Zz i)) (pp (pp (xF m) nn) (ww o2 (ww o1 (ww o0 (tt k0 nn))))))))))))) (fun k0=>(sl Eu 17 [] ⟨[0],[],j1d,j1f⟩ b7 [false] (pp (fl v9 nn) (tt k0 nn)))))
theorem w0d (x0:Int) (l1:zt) (l2:zt):Wu prog (Zy prog 113) (NS x0 l1 l2) (Zm prog 113 [(.int .i64 x0),(dt l1),(dt l2)] true []) (V0 x0 l1 l2):=(lo fun o0=>(sl Eu 31 [(79,6,Zz ([]:zt))] ⟨[0],[],j1d,j1f⟩ ⟨[(9,.grow 0 6),(10,.list 0 (Zz ([]:zr)))],[],[]⟩ [] (pp (fl ([]:zt) nn) (pp (pp (xr l1) (pp (xr l2) (xw o0))) nn))))
theorem u0g (x0:Int) (l1:zt) (l2:zt) (n:Nat) (vs:zx) (h:Zt (Ut x0 l1 l2) n (V0 x0 l1 l2)=.ret vs):Kw prog (Zy prog 113) (Zm prog 113 [(.int .i64 x0),(dt l1),(dt l2)] true []) vs:=by have:=Zb (w8o x0 l1 l2) n _ (w0d x0 l1 l2);rwa [h] at this
theorem Py (l m:zt):(Xm l m).length <=2*l.length+2*m.length:=by
 refine AP (Y0 _) ?_
 grind [Y7]
theorem UV (l:zt) (z:Int):(CM l z).length <=l.length:=by
 grind [CM]
def Gs (out:zt) (first:Nat) (z:Int):zt:=out.take first++(out.drop first).map fun r=>⟨r.a,r.b,r.c,r.d,r.e,z⟩
def O3 (z z':Int) (s:zr):zt:=s.map fun p=>⟨p.a,p.b,z,p.c,p.d,z'⟩
section
variable (kind:Int) (l m:zt)
def EA (z:Int):zr:=Cm kind (CM l z) (CM m z)
def F9 (z:Int):Bool:=decide (400<(EA kind l m z).length)||(decide (400<(Cm 2 (CM l z) []).length)||decide (400<(Cm 2 (CM m z) []).length))
def LV :Nat->Nat->zt->zr->Nat->Option zt
 | 0,_,out,_,_=>some out
 | k+1,i,out,last,first=>
  bif F9 kind l m (rd (Xm l m) i) then none
  else bif decide (0<i)&&EX (EA kind l m (rd (Xm l m) i)) last then LV k (i+1) (Gs out first (rd (Xm l m) (i+1))) last first
  else LV k (i+1) (out++O3 (rd (Xm l m) i) (rd (Xm l m) (i+1)) (EA kind l m (rd (Xm l m) i))) (EA kind l m (rd (Xm l m) i)) out.length
def LU :Option zt:=LV kind l m ((Xm l m).length - 1) 0 [] [] 0
def Md :Option zt->zx
 | none=>[.nils,.bool false]
 | some out=>[.dat out.length (Zz out),.bool (decide ((out.length:Int)<=400))]
def EM :zt:=(LU kind l m).getD []
def JA :Bool:=match LU kind l m with
 | none=>false
 | some out=>decide ((out.length:Int)<=400)
end
def Tw (l:zt):Prop:=l.length<=40000/\ ∀z,(CM l z).length <=5000
theorem u7x {l:zt} (h:l.length<=5000):Tw l:=⟨by omega,fun z=>AP (UV l z) h⟩
def Rl (_:Int) (l m:zt):Bool:=pd (Tw l/\Tw m)
theorem OR {k:Int} {l m:zt} (hl:l.length<=5000) (hm:m.length<=5000):Rl k l m=true:=Xj ⟨u7x hl,u7x hm⟩
section
variable (kind:Int) (l m:zt) (hl:Tw l) (hm:Tw m)
include hl hm
theorem u6e (last:zr) (first:Int) (i:Nat) (hi:i+1<(Xm l m).length) (s:zr) (hs:s.length<=1000000): ∀(k j:Nat) (out:zt),j+k=s.length->out.length<=10000000000+j->
  ∃n,∀N,Zt (Ut kind l m) (N+n) (.to (.h1 out last first (i:Int) s (j:Int)))=Zt (Ut kind l m) N (.to (.h0 (out++O3 (rd (Xm l m) i) (rd (Xm l m) (i+1)) (s.drop j)) last first ((i+1:Nat):Int)))
 | 0,j,out,h,ho=>by
  have hx:=Py l m;have hl1:=hl.1;have hm1:=hm.1;refine ⟨1,fun N=> ?_⟩
  grind [Zx,Ut,Zq,O3]
 | k+1,j,out,h,ho=>by
  have hx:=Py l m;have hl1:=hl.1;have hm1:=hm.1;obtain ⟨n,hn⟩:=u6e last first i hi s hs k (j+1) (out++O3 (rd (Xm l m) i) (rd (Xm l m) (i+1)) [rd s j]) (by omega) (by simp [O3];omega)
  refine ⟨n+1,fun N=> ?_⟩;have:=hn N;rw [Yt (show j<s.length by omega),<-AN,Zx];simp (disch:=omega) only [Ut,Yb,Zr,Ym,Yx,Xe,Wx,Yf,Zq,Zk,Ww,Zj,Ak,AA,Ar,As,Af];rw [AI] at this;exact this
omit hl hm in
theorem u3o (out:zt) (j:Nat) (x:Int) (h:j<out.length):Gs (out.set j ⟨(rd out j).a,(rd out j).b,(rd out j).c,(rd out j).d,(rd out j).e,x⟩) (j+1) x=Gs out j x:=by
 unfold Gs;rw [Yt h,A8];have e1:(out.set j ⟨(rd out j).a,(rd out j).b,(rd out j).c,(rd out j).d,(rd out j).e,x⟩).take (j+1)=out.take j++[⟨(rd out j).a,(rd out j).b,(rd out j).c,(rd out j).d,(rd out j).e,x⟩]:=by
  apply Bt
  .simp;omega
  .intro n h1 h2;simp only [BH,List.getElem_set];by_cases e:j=n
   .subst e;rw [AG rfl,Bq (by simp only [Bf];omega)];simp
   .rw [Az e,BF (by simp at h1 ⊢;omega),BH]
 have e2:(out.set j ⟨(rd out j).a,(rd out j).b,(rd out j).c,(rd out j).d,(rd out j).e,x⟩).drop (j+1)=out.drop (j+1):=by rw [List.drop_set];rw [AG (by omega)]
 rw [e1,e2,AI];rfl
theorem u6d (last:zr) (first:Int) (i:Nat) (hi:i+1<(Xm l m).length): ∀(k j:Nat) (out:zt),j+k=out.length->out.length<=10000000000->
  ∃n,∀N,Zt (Ut kind l m) (N+n) (.to (.h2 out last first (i:Int) (j:Int)))=Zt (Ut kind l m) N (.to (.h0 (Gs out j (rd (Xm l m) (i+1))) last first ((i+1:Nat):Int)))
 | 0,j,out,h,ho=>by
  have hx:=Py l m;have hl1:=hl.1;have hm1:=hm.1;refine ⟨1,fun N=> ?_⟩;have e:Gs out j (rd (Xm l m) (i+1))=out:=by
   grind [Gs]
  grind [Zx,Ut,Zq]
 | k+1,j,out,h,ho=>by
  have hx:=Py l m;have hl1:=hl.1;have hm1:=hm.1;obtain ⟨n,hn⟩:=u6d last first i hi k (j+1) (out.set j ⟨(rd out j).a,(rd out j).b,(rd out j).c,(rd out j).d,(rd out j).e,rd (Xm l m) (i+1)⟩) (by simp;omega) (by grind)
  refine ⟨n+1,fun N=> ?_⟩;have:=hn N;rw [u3o out j _ (by omega)] at this;rw [<-AN,Zx];simp (disch:=omega) only [Ut,Yb,Zr,Ym,Yx,Xs,Xe,Wx,Yf,Zq,Zk,Ww,Zj,Ak,AA,Ar,As,Af];exact this
theorem v3p : ∀(k i:Nat) (out:zt) (last:zr) (first:Nat),k=(Xm l m).length - 1 - i->i<=(Xm l m).length ->out.length<=i*400->last.length<=400->first<=out.length->
  ∃n,Zt (Ut kind l m) n (.to (.h0 out last (first:Int) (i:Int)))=.ret (Md (LV kind l m k i out last first))
 | 0,i,out,last,first,h,hi,ho,hla,hf=>by
  have hx:=Py l m;have hl1:=hl.1;have hm1:=hm.1;refine ⟨1,?_⟩
  grind [Zx,Ut,Yb,Zq,Za,LV,Md]
 | k+1,i,out,last,first,h,hi,ho,hla,hf=>by
  have hx:=Py l m;have hl1:=hl.1;have hm1:=hm.1;have hi1:i+1<(Xm l m).length :=by omega
  have hbig:i*400<=160000*400:=AD _ (by omega);have a1:=fun z=>hl.2 z;have a2:=fun z=>hm.2 z;have w1: ∀z,Pd l z=true:=fun z=>Aa (by omega);have w2: ∀z,Pd m z=true:=fun z=>Aa (by omega);have w3: ∀k z,Ik k (CM l z) (CM m z)=true:=fun k z=>Aa (by grind);have w4: ∀k z,Ik k (CM l z) ([]:zr)=true:=fun k z=>Aa (by grind);have w5: ∀k z,Ik k (CM m z) ([]:zr)=true:=fun k z=>Aa (by grind);unfold LV;have hsec:EA kind l m (rd (Xm l m) i)=Cm kind (CM l (rd (Xm l m) i)) (CM m (rd (Xm l m) i)):=rfl;by_cases c1:400<(EA kind l m (rd (Xm l m) i)).length
  .refine ⟨1,?_⟩;have hb:F9 kind l m (rd (Xm l m) i)=true:=by grind [F9]
   rw [hb,Af,Zx];rw [hsec] at c1;simp (disch:=omega) only [Ut,Yb,Zr,Ym,Xv,Yx,Zq,Zk,Zj,w1,w2,w3,w4,w5,Ar,Af,Za,Md]
  by_cases c2:400<(Cm 2 (CM l (rd (Xm l m) i)) []).length
  .refine ⟨1,?_⟩;have hb:F9 kind l m (rd (Xm l m) i)=true:=by grind [F9]
   rw [hb,Af,Zx];rw [hsec] at c1;simp (disch:=omega) only [Ut,Yb,Zr,Ym,Xv,Xb,Yx,Zq,Zk,Zj,w1,w2,w3,w4,w5,Ar,Af,Ab,Za,Md]
  by_cases c3:400<(Cm 2 (CM m (rd (Xm l m) i)) []).length
  .refine ⟨1,?_⟩;have hb:F9 kind l m (rd (Xm l m) i)=true:=by grind [F9]
   rw [hb,Af,Zx];rw [hsec] at c1;simp (disch:=omega) only [Ut,Yb,Zr,Ym,Xv,Xb,Yx,Zq,Zk,Zj,w1,w2,w3,w4,w5,Ar,Af,Ab,Za,Md]
  have hb:F9 kind l m (rd (Xm l m) i)=false:=by grind [F9]
  rw [hb,Ab];have w6:Kd (Cm kind (CM l (rd (Xm l m) i)) (CM m (rd (Xm l m) i))) last=true:=Aa (by grind);rcases Uz (decide (0<i)&&EX (EA kind l m (rd (Xm l m) i)) last) with q | q
  .obtain ⟨n3,h3⟩:=u6d kind l m hl hm last first i hi1 (out.length - first) first out (by omega) (by omega)
   obtain ⟨n0,h0⟩:=v3p k (i+1) (Gs out first (rd (Xm l m) (i+1))) last first (by omega) (by omega) (by simp [Gs];omega) hla (by simp [Gs];omega)
   refine ⟨n0+n3+1,?_⟩;rw [q,Af,Zx];simp only [Ad,An] at q;obtain ⟨q1,q2⟩:=q;rw [hsec] at c1 q2;simp (disch:=omega) only [Ut,Yb,Zr,Ym,Xv,Xb,Yx,Zq,Zk,Zj,w1,w2,w3,w4,w5,w6,q2,Ar,Af,Ab]
   grind
  .obtain ⟨n2,h2⟩:=u6e kind l m hl hm (EA kind l m (rd (Xm l m) i)) (out.length:Int) i hi1 (EA kind l m (rd (Xm l m) i)) (by omega) (EA kind l m (rd (Xm l m) i)).length 0 out (Ak _) (by omega);obtain ⟨n0,h0⟩:=v3p k (i+1) (out++O3 (rd (Xm l m) i) (rd (Xm l m) (i+1)) (EA kind l m (rd (Xm l m) i))) (EA kind l m (rd (Xm l m) i)) out.length (by omega) (by omega) (by simp [O3];omega) (by omega) (by simp);refine ⟨n0+n2+1,?_⟩;rw [q,Ab,Zx];have h2':=h2 n0;simp only [AM,HT] at h2';have c1':=c1;rw [hsec] at c1';by_cases hi0:0<i
   .rw [Aa hi0,As,hsec] at q;simp (disch:=omega) only [Ut,Yb,Zr,Ym,Xv,Xb,Yx,Zq,Zk,Zj,w1,w2,w3,w4,w5,w6,q,Ar,Af,Ab]
    grind
   .simp (disch:=omega) only [Ut,Yb,Zr,Ym,Xv,Xb,Yx,Zq,Zk,Zj,w1,w2,w3,w4,w5,w6,Ar,Af,Ab]
    grind
end
theorem j1b (kind:Int) (l m:zt) (h:Rl kind l m=true): ∃N,Zt (Ut kind l m) N (V0 kind l m)=.ret (Md (LU kind l m)):=by obtain ⟨hl,hm⟩:=Kx h;have hl1:=hl.1;have hm1:=hm.1;obtain ⟨N,hN⟩:=v3p kind l m hl hm ((Xm l m).length - 1) 0 [] [] 0 rfl (AH _) (AH _) (AH _) (Aj _);refine ⟨N,?_⟩;have w1:WM l m=true:=Aa ⟨by omega,by omega⟩;simp only [V0,Yb,Zr,w1,Af];exact hN
def fJs :zx->Option (B5×Bool)
 | [.int .i64 x0,a1,a2]=>match C5 R6 a1,C5 R6 a2 with
  | some (L1,g1,n1),some (L2,g2,n2)=>some (.tup [.dat (EM x0 L1 L2).length (Zz (EM x0 L1 L2)),.bool (JA x0 L1 L2)],CV R6 n1 g1&&(CV R6 n2 g2&&(Rl x0 L1 L2)))
  | _,_=>none
 | _=>none
theorem PD {S:B7} (hS:Zv prog S):Zv prog (S.with u7k fJs):=by
 refine OZ hS (by kernel_rfl) fun args v h=> ?_;unfold fJs at h;split at h
 .rename_i x0 a1 a2;split at h
  .rename_i L1 g1 n1 L2 g2 n2 e1 e2;simp only [Ae,Ac,Ad] at h;obtain ⟨rfl,ho1,ho2,hw⟩:=h;obtain ⟨N,hN⟩:=j1b x0 L1 L2 hw;refine ⟨_,Md (LU x0 L1 L2),(.cons (.refl _) (.cons (Xd e1 ho1) (.cons (Xd e2 ho2) .nil))),?_,u0g x0 L1 L2 N _ hN,3,?_⟩
   .unfold EM JA;cases LU x0 L1 L2 with
    | none=>exact fun ρ u hu=>G6 (.cons (Gb R6) (Cd.refl _)) ρ u hu
    | some out=>exact fun ρ u hu=>hu
   .cases LU x0 L1 L2 <;> rfl
  .cases h
 .cases h
def T4 :B7:=T3.with u7k fJs
theorem UJ :Zv prog T4:=PD Eu
open Go.Sort Go.Shelf Go.RowKit Go.Lib
def OY (x:E3):List Value:=FA x.1
theorem j5u (l:List R3) (h:Dm l=true):Go.Sort.flatK OY 3 (Dl l h).toArray =Go.Sort.flatK FA 3 l.toArray:=by
 have hl:=Px l h;unfold Go.Sort.flatK;rw [show (Dl l h).toArray.size =l.toArray.size by simpa using hl];apply Array.ext
 .simp
 .intro t h1 h2;simp only [Array.getElem_map,Array.getElem_range];have ht:t<l.length*3:=by simpa using h1
  have hq:t / 3<l.length:=by omega
  congr 1
  rw [getElem!_pos (Dl l h).toArray (t / 3) (by simpa [hl] using hq),getElem!_pos l.toArray (t / 3) (by simpa using hq)];unfold OY
  congr 1
  have:=VE l h;have e:=Au (fun z:List R3=>z[t / 3]?) this;simp only [BK] at e;rw [At (by rw [hl];exact hq),At hq] at e
  simpa using e
theorem u3g (d:Array E3):Go.Sort.flatK OY 3 d=Go.Sort.flatK FA 3 (d.toList.map Subtype.val).toArray :=by
 unfold Go.Sort.flatK;rw [show d.size=(d.toList.map Subtype.val).toArray.size by simp];apply Array.ext
 .simp
 .intro t h1 h2;simp only [Array.getElem_map,Array.getElem_range];have ht:t<d.size*3:=by simpa using h1
  have hq:t / 3<d.size:=by omega
  congr 1
  rw [getElem!_pos d (t / 3) hq,getElem!_pos (d.toList.map Subtype.val).toArray (t / 3) (by simpa using hq)];simp [OY]
theorem x6w (l:List R3):HU l.length (DB (B6 l)).length =true:=Yc (by
 rw [Yb];by_cases h:Dm l=true
 .exact (Pt l h).1.length_eq.symm
 .unfold DB;rw [dif_neg h])
theorem isAgg3 : ∀w,(isAgg (Tryz.sortEnd_ren.t 24)).run prog w=.ok true w:=fun w=>by rfl
theorem So : ∀w,(Go.sizeOf (Tryz.sortEnd_ren.t 24)).run prog w=.ok 3 w:=fun w=>by rfl
theorem v2j :Gm prog u7f (XH R3 DB Dm w5g):=by
 refine v6z (fun L=> ?_) (fun blk off cap L w hb hH fK hsz=> ?_) fun p cap fv w=>AnyF.slices_SortFunc_none Tryz.sortEnd p cap fv w
 .by_cases h:Dm L=true
  .exact (Pt L h).1.length_eq
  .unfold DB;rw [dif_neg h]
 .have eg: ∀args w,(callFunc 245 args).run prog w=.ok (.enter 245 args) w:=enters_of Tryz.func245 (by kernel_rfl) rfl;have hcmp:CmpLays prog 245 #[] OY 3 PY blk off (Dl L hb).toArray.size w:=fun m os dk _ x y=>by have hx:=Aw x.2;have hy:=Aw y.2;exact Tryz.cmpEnd x.1.a x.1.b x.1.c y.1.a y.1.b y.1.c hx hy _
  have hH':HoldsK OY 3 w blk off (Dl L hb).toArray :=by unfold HoldsK;rw [j5u L hb];exact hH
  have hcon:=AnyQ.slices_SortFunc_eq Tryz.sortEnd 3 isAgg3 So OY (fun x=>w2w x.1) (fun x v hv=>by
   obtain ⟨a,ha,rfl⟩:=List.mem_map.1 hv;have:Mc a=true:=Ax.1 (JF.num x.1) a ha;cases a <;> first | rfl | (simp [Mc] at this;done)) PY Sl 245 #[] blk off cap (Dl L hb).toArray w eg hcmp hH' fK (by simpa [Px] using hsz)
  have hs:(Dl L hb).toArray.size =L.length:=by simp [Px]
  rw [hs] at hcon;refine Calls.mono hcon fun e w' ⟨he,n,os,hw⟩=>⟨he,n,os,?_⟩
  rw [hw];unfold sortWorldK putRowK;rw [u3g];unfold DB;rw [dif_pos hb];rfl
def Kc (zs:zq):zq:=zs.mergeSort fun x y=>decide (x<=y)
theorem v2i :Gm prog LK (IR Kc):=
 j5w (fun zs=>List.length_mergeSort zs) (fun blk off cap zs w hH hb hz=>Tryz.slices_Sort_int blk off cap zs w hH hb hz) fun p cap w=>Tryz.slices_Sort_int_none p cap w
def CZ (zs:zq):zq:=compact zs++List.replicate (zs.length - (compact zs).length) 0
def GW (zs:zq):Nat:=(compact zs).length
theorem YX (zs:zq):(CZ zs).length =zs.length:=by have:=compact_length_le zs;simp [CZ];omega
theorem x6x (n:Nat) (c:Nat->Int):HU n (CZ (Xk n c)).length =true:=Yc (by rw [YX];simp [Xk])
theorem v5y (w:World):grow w #[]=w:=by simp [grow]
theorem w3g :Gm prog w5h (IX CZ GW):=
 j5x (fun zs=>by have:=compact_length_le zs;simp [CZ];omega) (fun zs=>compact_length_le zs)
  (fun blk off cap zs w hH hb hz eJ=>(Tryz.slices_Compact_int blk off cap zs w hH (by omega) eJ).mono fun e w' ⟨he,q,hw⟩=>⟨he,q, #[],by rw [hw,v5y];rfl⟩)
  fun p cap w=>Tryz.slices_Compact_int_empty p cap w
def T5 :B7:=((T4.withE u7f (XH R3 DB Dm w5g)).withE LK (IR Kc)).withE w5h (IX CZ GW)
theorem DH :Zv prog T5:=x2e (x2e (x2e UJ (by kernel_rfl) v2j) (by kernel_rfl) v2i) (by kernel_rfl) w3g
inductive H3 where
 | h0 (v8:Int)
 | h1 (v3:List R3) (v17:Int)
 | h2 (v5:List R3) (v6:Int) (v7:Int) (aG:Int) (bQ:Int) (cH:Int) (cA:Bool) (aK:zp)
def Ms (l0:zp):H3->CH
 | .h0 v8=>⟨⟨19,0,true⟩,none,(Zf prog 242 (pn 37) 0),none,(Zy prog 3),⟨Yh [(0,(dt l0)),(1,(.fn 227 [])),(7,(ii (l0.length:Int))),(8,(ii v8))],Wd [] 0,0,[],true⟩,[⟨⟨9,0,true⟩,(C4 prog 226 [1,0] 2),(Zf prog 226 [1,0] 1),none,(Zy prog 3),Yh [(5,(dt l0)),(6,(.fn 227 []))]⟩,⟨⟨11,0,true⟩,(C4 prog 200 (pn 19) 1),(Zf prog 200 (pn 19) 1),none,(Zy prog 10),Yh [(0,(dt l0)),(7,(dt l0))]⟩],.leaf⟩
 | .h1 v3 v17=>⟨⟨38,0,true⟩,none,(Zf prog 233 (pn 19659) 0),none,(Zy prog 9),⟨Yh [(3,(.sla 7 3 0 v3.length (.un 3))),(4,(ii 0)),(8,(.sl 0 0 2 (.un 1))),(9,(ii 2)),(10,(ii 0)),(15,(dt l0)),(16,(ii (l0.length:Int))),(17,(ii v17))],Wd [⟨[(dt l0),.nils],233,none⟩,⟨[(.fn 229 [])],245,none⟩,⟨[(ii 0),(ii 0)],307,none⟩,⟨[.nils],233,none⟩,⟨[(ii 0)],3,none⟩,⟨[(.bool false)],4,none⟩,⟨[(.fn 232 [(.ptr 5 0),(.ptr 4 0),(.ptr 3 0)])],180,none⟩,(rz v3 311 3)] 0,8,[],true⟩,[⟨⟨42,0,true⟩,(C4 prog 205 (pn 159) 3),(Zf prog 205 (pn 159) 1),none,(Zy prog 7),Yh [(5,(.ptr 1 0)),(6,.nils),(7,(.ptr 2 0)),(8,(.ptr 3 0)),(9,(.ptr 4 0)),(10,(.ptr 5 0)),(11,(.ptr 6 0)),(16,(.sl 0 0 2 (.un 1)))]⟩,⟨⟨11,0,true⟩,(C4 prog 200 (pn 23) 1),(Zf prog 200 (pn 23) 1),none,(Zy prog 10),Yh [(9,(dt l0))]⟩],.leaf⟩
 | .h2 v5 v6 v7 aG bQ cH cA aK=>⟨⟨16,0,true⟩,none,(Zf prog 249 [1,0,0] 0),none,[],⟨Yh [(0,(.yld 0)),(5,(.sla 7 3 0 v5.length (.un 3))),(6,(ii v6)),(7,(ii v7))],Ee [(1,⟨[(.fn 229 [])],245,none⟩),(2,⟨[(ii aG),(ii bQ)],307,none⟩),(3,⟨[(ii cH)],3,none⟩),(4,⟨[(.bool cA)],4,none⟩),(5,⟨[(.fn 232 [(.ptr 4 0),(.ptr 3 0),(.ptr 6 0)])],180,none⟩),(6,⟨[(.sla 8 2 0 aK.length (.un 2))],233,none⟩),(7,(rz v5 311 3)),(8,(rz aK 260 2))],9,[],true⟩,[⟨⟨42,0,true⟩,none,(.inRangeFunc 0::(Zf prog 205 (pn 351) 1)),none,(Zy prog 7),Yh [(6,.nils),(8,(.ptr 6 0))]⟩,⟨⟨11,0,true⟩,(C4 prog 200 (pn 23) 1),(Zf prog 200 (pn 23) 1),none,(Zy prog 10),Yh [(9,(dt l0))]⟩],(Ed [(0,⟨.ready,none,42,Yh [(5,(.ptr 1 0)),(7,(.ptr 2 0)),(9,(.ptr 3 0)),(10,(.ptr 4 0)),(11,(.ptr 5 0))],[18],(Cr prog 205 [1,1,1,1,1,0,1,0,0]),(Cr prog 205 [1,1,1,1,1,0,1,0,1])⟩)])⟩
def JU :List (Option zw):=[some [0,1,7,8],some [5,6],some [0,7]]
def JV :List (Option zw):=[]
def SZ :List (Option zw):=[some [3,4,8,9,10,15,16,17],some [5,6,7,8,9,10,11,16],some [9]]
def SW :List (Option zw):=[]
def Fw :List (Option zw):=[some [0,5,6,7],some [6,8],some [9]]
def Fv :List (Option zw):=[some [5,7,9,10,11],none,none,none,none,none,none,none,none]
def Jh (l0:zp):H3->Xy H3
 | .h0 v8=>let c:=rd l0 v8.toNat;(bif (decide (v8<(l0.length:Int))) then (bif ((decide (0<=v8/\v8<(l0.length:Int)))&&true) then (bif (decide (c.a <c.b)) then (bif (decide (c.a >=(-1000000))) then (bif (!(decide (c.b <=1000000))) then (bif (decide (v8>=0)) then (.ret [.nils,(.int .i64 8)]) else (.to (.h1 ([]:List R3) 0))) else (.to (.h0 (wrap .i64 (v8+1))))) else (bif (decide (v8>=0)) then (.ret [.nils,(.int .i64 8)]) else (.to (.h1 ([]:List R3) 0)))) else (bif (decide (v8>=0)) then (.ret [.nils,(.int .i64 8)]) else (.to (.h1 ([]:List R3) 0)))) else .stuck) else (.to (.h1 ([]:List R3) 0)))
 | .h1 v3 v17=>let c:=rd l0 v17.toNat;(bif (decide (v17<(l0.length:Int))) then (bif ((decide (0<=v17/\v17<(l0.length:Int)))&&true) then (bif (Nat.beq 3 3&&((decide (0+v3.length=v3.length))&&decide ((v3.length+2+1)*(24+1)<=Vw))) then (.to (.h1 (v3++[(R3.mk c.a 0 1),(R3.mk c.b 0 (-1))]) (wrap .i64 (v17+1)))) else .stuck) else .stuck) else (bif (Dm (B6 v3)) then (bif (decide (v3.length<4611686018427387904)) then (bif (decide (v3.length=v3.length)) then (.to (.h2 (DB (B6 v3)) (v3.length:Int) 0 0 0 0 false ([]:zp))) else .stuck) else .stuck) else .stuck))
 | .h2 v5 v6 v7 aG bQ cH cA aK=>let d:=rd v5 (0+v7.toNat);(bif (decide (v7<v6)) then (bif ((decide (0<=v7/\v7<(v5.length:Int)))&&true) then (bif (decide ((0+v7.toNat)<v5.length)) then (bif (!cA) then (bif (decide (d.b =Int.ofNat 0)) then (.to (.h2 v5 v6 (wrap .i64 (v7+1)) (wrap .i64 (aG+d.c)) bQ d.a (Ec (decide ((wrap .i64 (aG+d.c))>0)) (decide (bQ>0))) aK)) else (bif (decide (d.b =Int.ofNat 1)) then (.to (.h2 v5 v6 (wrap .i64 (v7+1)) aG (wrap .i64 (bQ+d.c)) d.a (Ec (decide (aG>0)) (decide ((wrap .i64 (bQ+d.c))>0))) aK)) else .stuck)) else (bif (cH == d.a) then (bif (decide (d.b =Int.ofNat 0)) then (.to (.h2 v5 v6 (wrap .i64 (v7+1)) (wrap .i64 (aG+d.c)) bQ d.a (Ec (decide ((wrap .i64 (aG+d.c))>0)) (decide (bQ>0))) aK)) else (bif (decide (d.b =Int.ofNat 1)) then (.to (.h2 v5 v6 (wrap .i64 (v7+1)) aG (wrap .i64 (bQ+d.c)) d.a (Ec (decide (aG>0)) (decide ((wrap .i64 (bQ+d.c))>0))) aK)) else .stuck)) else (bif (decide ((aK.length:Int)>0)) then (bif ((decide (0<=(wrap .i64 ((aK.length:Int) - 1))/\(wrap .i64 ((aK.length:Int) - 1))<(aK.length:Int)))&&true) then (bif (decide ((0+(Int.toNat (wrap .i64 ((aK.length:Int) - 1))))<aK.length)) then (bif ((rd aK (0+(Int.toNat (wrap .i64 ((aK.length:Int) - 1))))).b == cH) then (bif (decide (d.b =Int.ofNat 0)) then (.to (.h2 v5 v6 (wrap .i64 (v7+1)) (wrap .i64 (aG+d.c)) bQ d.a (Ec (decide ((wrap .i64 (aG+d.c))>0)) (decide (bQ>0))) (aK.set (0+(Int.toNat (wrap .i64 ((aK.length:Int) - 1)))) (R2.mk (rd aK (0+(Int.toNat (wrap .i64 ((aK.length:Int) - 1))))).a d.a)))) else (bif (decide (d.b =Int.ofNat 1)) then (.to (.h2 v5 v6 (wrap .i64 (v7+1)) aG (wrap .i64 (bQ+d.c)) d.a (Ec (decide (aG>0)) (decide ((wrap .i64 (bQ+d.c))>0))) (aK.set (0+(Int.toNat (wrap .i64 ((aK.length:Int) - 1)))) (R2.mk (rd aK (0+(Int.toNat (wrap .i64 ((aK.length:Int) - 1))))).a d.a)))) else .stuck)) else (bif (Nat.beq 2 2&&((decide (0+aK.length=aK.length))&&decide ((aK.length+1+1)*(16+1)<=Vw))) then (bif (decide (d.b =Int.ofNat 0)) then (.to (.h2 v5 v6 (wrap .i64 (v7+1)) (wrap .i64 (aG+d.c)) bQ d.a (Ec (decide ((wrap .i64 (aG+d.c))>0)) (decide (bQ>0))) (aK++[(R2.mk cH d.a)]))) else (bif (decide (d.b =Int.ofNat 1)) then (.to (.h2 v5 v6 (wrap .i64 (v7+1)) aG (wrap .i64 (bQ+d.c)) d.a (Ec (decide (aG>0)) (decide ((wrap .i64 (bQ+d.c))>0))) (aK++[(R2.mk cH d.a)]))) else .stuck)) else .stuck)) else .stuck) else .stuck) else (bif (Nat.beq 2 2&&((decide (0+aK.length=aK.length))&&decide ((aK.length+1+1)*(16+1)<=Vw))) then (bif (decide (d.b =Int.ofNat 0)) then (.to (.h2 v5 v6 (wrap .i64 (v7+1)) (wrap .i64 (aG+d.c)) bQ d.a (Ec (decide ((wrap .i64 (aG+d.c))>0)) (decide (bQ>0))) (aK++[(R2.mk cH d.a)]))) else (bif (decide (d.b =Int.ofNat 1)) then (.to (.h2 v5 v6 (wrap .i64 (v7+1)) aG (wrap .i64 (bQ+d.c)) d.a (Ec (decide (aG>0)) (decide ((wrap .i64 (bQ+d.c))>0))) (aK++[(R2.mk cH d.a)]))) else .stuck)) else .stuck)))) else .stuck) else .stuck) else (.ret [(dt aK),(.int .i64 0)]))
def WE (l0:zp):Xy H3:=(bif (decide ((l0.length:Int)>400)) then (.ret [.nils,(.int .i64 4)]) else (.to (.h0 0)))
theorem w7i (l0:zp): ∀s,Wu prog (Zy prog 200) (Ms l0) (Ms l0 s) (Jh l0 s)
 | .h0 v8=>let b:=fl ([]:List R3) nn;(lb (fun k0=>(lo fun aB=>let a:=ww aB (tt k0 nn);(lb (fun k1=>(lb (fun k2=>let c:=tt k2 (tt k1 a);(lb (fun k3=>(lb (fun k4=>(lr 11 200 (pn 75) 1 10 [(2,.nils),(3,(ii 8))] (sl DH 79 [] (b8 [2,3]) b7 (CC 9 []) (tt k4 (tt k3 c))))) (fun k4=>(sl DH 154 [(311,3,Zz ([]:List R3))] ⟨[8,2,3,4,5,6,7,9],[],SZ,SW⟩ ⟨[(3,.grow 7 3)],[],[]⟩ (CC 8 (bl 2 2)) (pp b (tt k4 (tt k3 c))))))) (fun k3=>(sl DH 69 [] ⟨[],[],JU,JV⟩ b7 (CC 7 [false]) (tt k3 c))))) (fun k2=>let d:=tt k2 (tt k1 a);(lb (fun k3=>(lr 11 200 (pn 75) 1 10 [(2,.nils),(3,(ii 8))] (sl DH 79 [] (b8 [2,3]) b7 (CC 4 (bl 5 24)) (tt k3 d)))) (fun k3=>(sl DH 154 [(311,3,Zz ([]:List R3))] ⟨[8,2,3,4,5,6,7,9],[],SZ,SW⟩ ⟨[(3,.grow 7 3)],[],[]⟩ (CC 4 (bl 6 40)) (pp b (tt k3 d)))))))) (fun k1=>(lb (fun k2=>(lr 11 200 (pn 75) 1 10 [(2,.nils),(3,(ii 8))] (sl DH 79 [] (b8 [2,3]) b7 (bl 9 385) (tt k2 (tt k1 a))))) (fun k2=>(sl DH 154 [(311,3,Zz ([]:List R3))] ⟨[8,2,3,4,5,6,7,9],[],SZ,SW⟩ ⟨[(3,.grow 7 3)],[],[]⟩ (bl 10 641) (pp b (tt k2 (tt k1 a)))))))))) (fun k0=>(sl DH 98 [(311,3,Zz ([]:List R3))] ⟨[6,0,1,2,3,4,5,7],[],SZ,SW⟩ ⟨[(3,.grow 7 3)],[],[]⟩ (bl 3 4) (pp b (tt k0 nn)))))
 | .h1 v3 v17=>(lb (fun k0=>(lo fun o0=>(lo fun o1=>let i:=rd l0 (tn v17);let h:=i;let c:=v3++[(R3.mk h.a 0 1),(R3.mk h.b 0 (-1))];let l:=v3++[(R3.mk i.a 0 1),(R3.mk i.b 0 (-1))];let n:=v3.length+2;let d:=xL n l.length;let j:=Zg (Zz v3) 0 v3.length 3 [(ii i.a),(ii 0),(ii 1),(ii i.b),(ii 0),(ii (-1))];(sl DH 36 [] ⟨[0,1,2,3,4,5,6,10],[],SZ,SW⟩ ⟨[(3,.len c.length)],(II 7 [.rowed 3 c.length (Zz c)]),[]⟩ [true] (pp d (pp d (pp (xS n j (Zz l)) (pp (pp (xF j) nn) (ww o1 (ww o0 (tt k0 nn))))))))))) (fun k0=>(lo fun o0=>(lo fun o1=>(lo fun o2=>let m:=DB (B6 v3);let e:=xL v3.length m.length (by first | exact x6w _ | exact Yc rfl);let f:=m;let g:=xG (Nat.beq 3 3);(sl DH 92 [(260,2,Zz ([]:zp))] ⟨[9,1,2,4,5,6,3,7,10],[],Fw,Fv⟩ ⟨[(5,.len f.length)],(II 6 [.cells [.grow 8 2],.rowed 3 f.length (Zz f),.keep]),[]⟩ (bl 4 2) (pp e (pp e (pp (xS v3.length (Zz m) (Zz m)) (pp (fl f (fl ([]:zp) nn)) (pp (pp g (pp g (pp (xG (Nat.beq 0 0)) (pp (pp (xG (decide (v3.length=v3.length))) (pp (xr v3) (xG (decide (v3.length<4611686018427387904))))) (xG (Dm (B6 v3))))))) (tt k0 nn))))))))))))
 | .h2 v5 v6 v7 aG bQ cH cA aK=>(lb (fun k0=>(lo fun aB=>(lo fun aL=>let o:=List.range 9;let p:=fl v5 (fl aK nn);let q:=ww aL (ww aB (tt k0 nn));(lb (fun k1=>(lb (fun k2=>(sl DH 62 [] ⟨o,[],Fw,Fv⟩ b7 (CC 5 (bl 3 0)) (pp p (ww k2 (tt k1 q))))) (fun k2=>(lb (fun k3=>(sl DH 62 [] ⟨o,[],Fw,Fv⟩ b7 (CC 6 (bl 4 2)) (pp p (ww k3 (tt k1 q))))) (fun k3=>trivial))))) (fun k1=>let d:=tt k1 q;(lb (fun k2=>(lb (fun k3=>(sl DH 62 [] ⟨o,[],Fw,Fv⟩ b7 (bl 8 17) (pp p (ww k3 (tt k2 d))))) (fun k3=>(lb (fun k4=>(sl DH 62 [] ⟨o,[],Fw,Fv⟩ b7 (bl 10 177) (pp p (ww k4 (tt k2 d))))) (fun k4=>trivial))))) (fun k2=>let D:=rd v5 (0+(tn v7));let u:=D;let h:=aK++[(R2.mk cH u.a)];let c:=II 6 [.cells [.len h.length],.keep,.rowed 2 h.length (Zz h)];let w:=Zg (Zz aK) 0 aK.length 2 [(ii cH),(ii D.a)];let z:=aK++[(R2.mk cH D.a)];let C:=aK.length+1;(lb (fun k3=>(lo fun cN=>(lo fun dQ=>let g:=ww dQ (ww cN (tt k3 (tt k2 d)));(lb (fun k4=>let B:=tn (wr ((aK.length:Int) - 1));let r:=B;let b:=aK.set (0+r) (R2.mk (rd aK (0+r)).a u.a);let n:=II 6 [.cells [.len b.length],.keep,.rowed 2 b.length (Zz b)];let s:=ww dQ (ww cN (tt k4 g));let y:=aK.set (0+B) (R2.mk (rd aK (0+B)).a D.a);let A:=Yr (Zz aK) (0+B) 1 [(ii D.a)];(lb (fun k5=>let f:=xL aK.length y.length;(sl DH 81 [] ⟨o,[],Fw,Fv⟩ ⟨[],n,[]⟩ (bl 17 16353) (pp f (pp f (pp (xS aK.length A (Zz y)) (pp (fl v5 (pp (xF A) nn)) (ww k5 s))))))) (fun k5=>(lb (fun k6=>let e:=xL aK.length y.length;(sl DH 81 [] ⟨o,[],Fw,Fv⟩ ⟨[],n,[]⟩ (bl 19 98273) (pp e (pp e (pp (xS aK.length A (Zz y)) (pp (fl v5 (pp (xF A) nn)) (ww k6 s))))))) (fun k6=>trivial))))) (fun k4=>(lo fun cW=>let v:=ww cW (tt k4 g);(lb (fun k5=>let i:=xL C z.length;(sl DH 81 [] ⟨[0,1,2,3,4,5,6,7,12],[],Fw,Fv⟩ ⟨[],c,[]⟩ (bl 17 8161) (pp i (pp i (pp (xS C w (Zz z)) (pp (fl v5 (pp (xF w) nn)) (ww k5 v))))))) (fun k5=>(lb (fun k6=>let m:=xL C z.length;(sl DH 81 [] ⟨[0,1,2,3,4,5,6,7,12],[],Fw,Fv⟩ ⟨[],c,[]⟩ (bl 19 90081) (pp m (pp m (pp (xS C w (Zz z)) (pp (fl v5 (pp (xF w) nn)) (ww k6 v))))))) (fun k6=>trivial)))))))))) (fun k3=>(lo fun cN=>let t:=ww cN (tt k3 (tt k2 d));(lb (fun k4=>let j:=xL C z.length;(sl DH 81 [] ⟨[0,1,2,3,4,5,6,7,12],[],Fw,Fv⟩ ⟨[],c,[]⟩ (bl 17 1) (pp j (pp j (pp (xS C w (Zz z)) (pp (fl v5 (pp (xF w) nn)) (ww k4 t))))))) (fun k4=>(lb (fun k5=>let l:=xL C z.length;(sl DH 81 [] ⟨[0,1,2,3,4,5,6,7,12],[],Fw,Fv⟩ ⟨[],c,[]⟩ (bl 19 81921) (pp l (pp l (pp (xS C w (Zz z)) (pp (fl v5 (pp (xF w) nn)) (ww k5 t))))))) (fun k5=>trivial)))))))))))))) (fun k0=>(lr 11 3 (pn 191) 1 10 [(2,(dt aK)),(3,(ii 0))] (sl DH 19 [] ⟨[],[8],[some [2,3]],[]⟩ ⟨[(2,.frz aK.length aK.length (Zz aK) (Zz aK))],[],[]⟩ [false] (pp (xZ (Cz 2 2 0 aK.length aK.length (Zz aK)) aK.length (Zz aK)) (pp (xL aK.length aK.length) (pp (xS aK.length (Zz aK) (Zz aK)) (pp (fl aK nn) (tt k0 nn)))))))))
theorem x8y (l0:zp):Wu prog (Zy prog 200) (Ms l0) (Zm prog 200 [(dt l0)] true []) (WE l0):=(lb (fun k0=>(lr 11 200 (pn 37) 1 10 [(2,.nils),(3,(ii 4))] (sl DH 18 [] (b8 [2,3]) b7 [true] (tt k0 nn)))) (fun k0=>(sl DH 41 [] ⟨[],[],JU,JV⟩ b7 [false] (tt k0 nn))))
theorem v8r (l0:zp) (n:Nat) (vs:zx) (h:Zt (Jh l0) n (WE l0)=.ret vs):Kw prog (Zy prog 200) (Zm prog 200 [(dt l0)] true []) vs:=by have:=Zb (w7i l0) n _ (x8y l0);rwa [h] at this
end Go.Am
end
