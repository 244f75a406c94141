/- A part of a proof: several texts in one. -/
import Derived.Test.YthnnmgkacjjpeaaGreatDoorNb2
import Derived.Ground.SlsfProg
import Derived.Shelf.SlSortCmp.WholeK
import Derived.Shelf.Strings.Builder1
import Derived.Shelf.Strings.Builder2
import Derived.Shelf.Strings.OnBuilder
import Derived.Shelf.Small.Bits
import Derived.Shelf.Strconv.Atoi
import Derived.Shelf.Strconv.Itoa0
import Derived.Shelf.Strconv.Itoa1
import Derived.Shelf.LaysM
import Derived.Shelf.Strconv.Itoa2
import Derived.Shelf.Strconv.Itoa3
import Derived.Shelf.Strconv.AtoiErrFast
import Derived.Shelf.Strconv.ParseIntEmpty
import Derived.Shelf.Strconv.AtoiFail
import Derived.Shelf.Strconv.Clone
import Derived.Shelf.Strconv.SyntaxError
import Derived.Shelf.LaysC
import Derived.Shelf.Strconv.ToError
import Derived.Shelf.Strconv.Lower
import Derived.Shelf.Strconv.ParseUint10
import Derived.Shelf.Strconv.ParseUint10Empty
import Derived.Shelf.Strconv.ParseUint10Any
import Derived.Shelf.Strconv.ParseInt10
import Derived.Shelf.Strconv.AtoiLong
import Derived.Shelf.Strconv.AtoiInnerAll
import Derived.Shelf.Strconv.RangeError
import Derived.Shelf.Strconv.ToErrorRange
import Derived.Shelf.Strconv.AtoiAll
import Derived.Shelf.Strings.Search1
import Derived.Shelf.Strings.Search2
import Derived.Shelf.Strings.Search3
import Derived.Shelf.Strings.Cut
import Derived.Shelf.Strings.Count
import Derived.Shelf.Strings.Shaped
import Derived.Shelf.Sort.Plain
import Derived.Shelf.Strings.LastIndex
import Derived.Shelf.Strings.Prefix
import Derived.Shelf.Strings.Split
import Derived.Shelf.Unicode.DecodeSlow
import Derived.Ground.Names2Prog
import Derived.Shelf.Slices.ReverseS
import Derived.Shelf.Slices.CompactI
import Derived.Shelf.Slices.SearchI
import Derived.Shelf.Slices.Cells
import Derived.Shelf.Slices.In.SortNone
import Derived.Test.YthnnmgkacjjpeaaGreatDoorProg
import Derived.Below
import Derived.Sort.AssemblyPlain
import Derived.Lib.BitFns
import Derived.Shelf.GgSortFunc.InsertionK
import Derived.Shelf.SlSortCmp.NoneTotal
set_option maxRecDepth 1000000
set_option maxHeartbeats 8000000
set_option linter.unusedVariables false
set_option linter.unusedSimpArgs false
noncomputable section
namespace Go.Proofs
open Go.Proofs.Tryz
open Go.Shelf
def Tryz.lays169_ren :Go.Shelf.Ren:=⟨fun | 169=>75 | n=>n,fun | 70=>72 | 9=>9 | 0=>0 | 72=>75 | 37=>73 | 127=>181 | 3=>3 | 5=>5 | n=>n,fun | n=>n⟩
theorem Tryz.lays169 :Go.Proofs.Lays.n169 prog Tryz.lays169_ren:={
 mixed:=by kernel_rfl
 f169:=Tryz.func75.trans (congrArg some (by kernel_rfl))
 t0:=Tryz.underlying0
 a0:=Tryz.isAgg0
 z0:=Tryz.sizeOf0
 v0:=Tryz.zeroValue0
 t3:=Tryz.underlying3
 a3:=Tryz.isAgg3
 z3:=Tryz.sizeOf3
 v3:=Tryz.zeroValue3
 t9:=Tryz.underlying9
 a9:=Tryz.isAgg9
 z9:=Tryz.sizeOf9
 v9:=Tryz.zeroValue9
 t37:=Tryz.underlying73
 a37:=Tryz.isAgg73
 z37:=Tryz.sizeOf73
 v37:=Tryz.zeroValue73
 t70:=Tryz.underlying72
 a70:=Tryz.isAgg72
 z70:=Tryz.sizeOf72
 v70:=Tryz.zeroValue72
 t72:=Tryz.underlying75
 a72:=Tryz.isAgg75
 z72:=Tryz.sizeOf75
 v72:=Tryz.zeroValue75
 t127:=Tryz.underlying181
 a127:=Tryz.isAgg181
 z127:=Tryz.sizeOf181
 v127:=Tryz.zeroValue181}
theorem Tryz.Builder_Extra_169 :Builder.Extra prog Tryz.lays169_ren:={
 sizeBuilder:=by kernel_rfl
 liesBuilder:=by kernel_rfl
 t5:=Tryz.underlying5
 a5:=Tryz.isAgg5
 z5:=Tryz.sizeOf5
 v5:=Tryz.zeroValue5
 infoByte:=by kernel_rfl
 cellsByte:=by kernel_rfl
 sizeByte:=by kernel_rfl
 neB5:=by decide}
def Tryz.lays156_ren :Go.Shelf.Ren:=⟨fun | 156=>73 | 165=>111 | 166=>68 | 169=>75 | 240=>108 | 241=>147 | 276=>145 | 277=>179 | n=>n,fun | 31=>70 | 9=>9 | 3=>3 | 4=>4 | 0=>0 | 20=>20 | 72=>75 | 76=>125 | 70=>72 | 37=>73 | 75=>124 | 127=>181 | 164=>210 | 5=>5 | 80=>134 | n=>n,fun | n=>n⟩
theorem Tryz.lays156 :Go.Proofs.Lays.n156 prog Tryz.lays156_ren:={
 mixed:=by kernel_rfl
 f156:=Tryz.func73.trans (congrArg some (by kernel_rfl))
 f165:=Tryz.func111.trans (congrArg some (by kernel_rfl))
 f166:=Tryz.func68.trans (congrArg some (by kernel_rfl))
 f169:=Tryz.func75.trans (congrArg some (by kernel_rfl))
 f240:=Tryz.func108.trans (congrArg some (by kernel_rfl))
 f241:=Tryz.func147.trans (congrArg some (by kernel_rfl))
 f276:=Tryz.func145.trans (congrArg some (by kernel_rfl))
 f277:=Tryz.func179.trans (congrArg some (by kernel_rfl))
 t0:=Tryz.underlying0
 a0:=Tryz.isAgg0
 z0:=Tryz.sizeOf0
 v0:=Tryz.zeroValue0
 t3:=Tryz.underlying3
 a3:=Tryz.isAgg3
 z3:=Tryz.sizeOf3
 v3:=Tryz.zeroValue3
 t4:=Tryz.underlying4
 a4:=Tryz.isAgg4
 z4:=Tryz.sizeOf4
 v4:=Tryz.zeroValue4
 t9:=Tryz.underlying9
 a9:=Tryz.isAgg9
 z9:=Tryz.sizeOf9
 v9:=Tryz.zeroValue9
 t20:=Tryz.underlying20
 a20:=Tryz.isAgg20
 z20:=Tryz.sizeOf20
 v20:=Tryz.zeroValue20
 t31:=Tryz.underlying70
 a31:=Tryz.isAgg70
 z31:=Tryz.sizeOf70
 v31:=Tryz.zeroValue70
 t37:=Tryz.underlying73
 a37:=Tryz.isAgg73
 z37:=Tryz.sizeOf73
 v37:=Tryz.zeroValue73
 t70:=Tryz.underlying72
 a70:=Tryz.isAgg72
 z70:=Tryz.sizeOf72
 v70:=Tryz.zeroValue72
 t72:=Tryz.underlying75
 a72:=Tryz.isAgg75
 z72:=Tryz.sizeOf75
 v72:=Tryz.zeroValue75
 t75:=Tryz.underlying124
 a75:=Tryz.isAgg124
 z75:=Tryz.sizeOf124
 v75:=Tryz.zeroValue124
 t76:=Tryz.underlying125
 a76:=Tryz.isAgg125
 z76:=Tryz.sizeOf125
 v76:=Tryz.zeroValue125
 t127:=Tryz.underlying181
 a127:=Tryz.isAgg181
 z127:=Tryz.sizeOf181
 v127:=Tryz.zeroValue181
 t164:=Tryz.underlying210
 a164:=Tryz.isAgg210
 z164:=Tryz.sizeOf210
 v164:=Tryz.zeroValue210}
theorem Tryz.Builder_Extra_156 :Builder.Extra prog Tryz.lays156_ren:={
 sizeBuilder:=by kernel_rfl
 liesBuilder:=by kernel_rfl
 t5:=Tryz.underlying5
 a5:=Tryz.isAgg5
 z5:=Tryz.sizeOf5
 v5:=Tryz.zeroValue5
 infoByte:=by kernel_rfl
 cellsByte:=by kernel_rfl
 sizeByte:=by kernel_rfl
 neB5:=by decide}
def Tryz.laysM171_ren :Go.Shelf.Ren:=⟨fun | 171=>70 | 243=>109 | 246=>146 | 283=>175 | 284=>176 | 285=>177 | 286=>178 | 129=>207 | 317=>206 | 318=>208 | 319=>209 | 320=>210 | 337=>234 | 338=>235 | n=>n,fun | 3=>3 | 9=>9 | 2=>2 | 4=>4 | 171=>246 | 0=>0 | 53=>247 | 37=>73 | 5=>5 | 173=>250 | 212=>282 | 51=>283 | 20=>20 | 213=>284 | 46=>262 | 232=>324 | 233=>325 | n=>n,fun | 17=>3 | 18=>6 | 19=>7 | n=>n⟩
theorem Tryz.laysM171 :Go.Proofs.LaysM.n171 prog Tryz.laysM171_ren:={
 mixed:=by kernel_rfl
 f129:=Tryz.func207.trans (congrArg some (by kernel_rfl))
 f171:=Tryz.func70.trans (congrArg some (by kernel_rfl))
 f243:=Tryz.func109.trans (congrArg some (by kernel_rfl))
 f246:=Tryz.func146.trans (congrArg some (by kernel_rfl))
 f283:=Tryz.func175.trans (congrArg some (by kernel_rfl))
 f284:=Tryz.func176.trans (congrArg some (by kernel_rfl))
 f285:=Tryz.func177.trans (congrArg some (by kernel_rfl))
 f286:=Tryz.func178.trans (congrArg some (by kernel_rfl))
 f317:=Tryz.func206.trans (congrArg some (by kernel_rfl))
 f318:=Tryz.func208.trans (congrArg some (by kernel_rfl))
 f319:=Tryz.func209.trans (congrArg some (by kernel_rfl))
 f320:=Tryz.func210.trans (congrArg some (by kernel_rfl))
 f337:=Tryz.func234.trans (congrArg some (by kernel_rfl))
 f338:=Tryz.func235.trans (congrArg some (by kernel_rfl))
 t0:=Tryz.underlying0
 a0:=Tryz.isAgg0
 z0:=Tryz.sizeOf0
 v0:=Tryz.zeroValue0
 t2:=Tryz.underlying2
 a2:=Tryz.isAgg2
 z2:=Tryz.sizeOf2
 v2:=Tryz.zeroValue2
 t3:=Tryz.underlying3
 a3:=Tryz.isAgg3
 z3:=Tryz.sizeOf3
 v3:=Tryz.zeroValue3
 t4:=Tryz.underlying4
 a4:=Tryz.isAgg4
 z4:=Tryz.sizeOf4
 v4:=Tryz.zeroValue4
 t5:=Tryz.underlying5
 a5:=Tryz.isAgg5
 z5:=Tryz.sizeOf5
 v5:=Tryz.zeroValue5
 t9:=Tryz.underlying9
 a9:=Tryz.isAgg9
 z9:=Tryz.sizeOf9
 v9:=Tryz.zeroValue9
 t20:=Tryz.underlying20
 a20:=Tryz.isAgg20
 z20:=Tryz.sizeOf20
 v20:=Tryz.zeroValue20
 t37:=Tryz.underlying73
 a37:=Tryz.isAgg73
 z37:=Tryz.sizeOf73
 v37:=Tryz.zeroValue73
 t46:=Tryz.underlying262
 a46:=Tryz.isAgg262
 z46:=Tryz.sizeOf262
 v46:=Tryz.zeroValue262
 t51:=Tryz.underlying283
 a51:=Tryz.isAgg283
 z51:=Tryz.sizeOf283
 v51:=Tryz.zeroValue283
 t53:=Tryz.underlying247
 a53:=Tryz.isAgg247
 z53:=Tryz.sizeOf247
 v53:=Tryz.zeroValue247
 t171:=Tryz.underlying246
 a171:=Tryz.isAgg246
 z171:=Tryz.sizeOf246
 v171:=Tryz.zeroValue246
 t173:=Tryz.underlying250
 a173:=Tryz.isAgg250
 z173:=Tryz.sizeOf250
 v173:=Tryz.zeroValue250
 t212:=Tryz.underlying282
 a212:=Tryz.isAgg282
 z212:=Tryz.sizeOf282
 v212:=Tryz.zeroValue282
 t213:=Tryz.underlying284
 a213:=Tryz.isAgg284
 z213:=Tryz.sizeOf284
 t232:=Tryz.underlying324
 a232:=Tryz.isAgg324
 z232:=Tryz.sizeOf324
 v232:=Tryz.zeroValue324
 t233:=Tryz.underlying325
 a233:=Tryz.isAgg325
 z233:=Tryz.sizeOf325
 v233:=Tryz.zeroValue325
 g17:=by kernel_rfl
 g18:=by kernel_rfl
 g19:=by kernel_rfl
 i0:=by kernel_rfl
 i2:=by kernel_rfl
 i3:=by kernel_rfl
 i4:=by kernel_rfl
 i5:=by kernel_rfl
 i9:=by kernel_rfl
 i20:=by kernel_rfl
 i37:=by kernel_rfl
 i46:=by kernel_rfl
 i51:=by kernel_rfl
 i53:=by kernel_rfl
 i171:=by kernel_rfl
 i173:=by kernel_rfl
 i212:=by kernel_rfl
 i232:=by kernel_rfl
 i233:=by kernel_rfl
 m17:=by kernel_rfl
 m18:=by kernel_rfl
 m19:=by kernel_rfl}
def Tryz.laysC172_ren :Go.Shelf.Ren:=⟨fun | 172=>85 | 244=>123 | 245=>124 | 247=>156 | 279=>157 | 280=>158 | 281=>159 | 282=>160 | 287=>192 | 316=>193 | 171=>70 | 205=>194 | 321=>213 | 322=>214 | 243=>109 | 246=>146 | 283=>175 | 284=>176 | 285=>177 | 286=>178 | 129=>207 | 317=>206 | 318=>208 | 319=>209 | 320=>210 | 337=>234 | 338=>235 | n=>n,fun | 9=>9 | 3=>3 | 75=>124 | 76=>125 | 4=>4 | 5=>5 | 167=>219 | 37=>73 | 0=>0 | 85=>220 | 2=>2 | 168=>222 | 53=>247 | 175=>263 | 46=>262 | 210=>267 | 127=>181 | 145=>294 | 143=>292 | 21=>21 | 171=>246 | 173=>250 | 212=>282 | 51=>283 | 20=>20 | 213=>284 | 232=>324 | 233=>325 | 80=>134 | n=>n,fun | 15=>1 | 16=>2 | 17=>3 | 18=>6 | 19=>7 | n=>n⟩
theorem Tryz.laysC172 :Go.Proofs.LaysC.n172 prog Tryz.laysC172_ren:={
 mixed:=by kernel_rfl
 f129:=Tryz.func207.trans (congrArg some (by kernel_rfl))
 f171:=Tryz.func70.trans (congrArg some (by kernel_rfl))
 f172:=Tryz.func85.trans (congrArg some (by kernel_rfl))
 f205:=Tryz.func194.trans (congrArg some (by kernel_rfl))
 f243:=Tryz.func109.trans (congrArg some (by kernel_rfl))
 f244:=Tryz.func123.trans (congrArg some (by kernel_rfl))
 f245:=Tryz.func124.trans (congrArg some (by kernel_rfl))
 f246:=Tryz.func146.trans (congrArg some (by kernel_rfl))
 f247:=Tryz.func156.trans (congrArg some (by kernel_rfl))
 f279:=Tryz.func157.trans (congrArg some (by kernel_rfl))
 f280:=Tryz.func158.trans (congrArg some (by kernel_rfl))
 f281:=Tryz.func159.trans (congrArg some (by kernel_rfl))
 f282:=Tryz.func160.trans (congrArg some (by kernel_rfl))
 f283:=Tryz.func175.trans (congrArg some (by kernel_rfl))
 f284:=Tryz.func176.trans (congrArg some (by kernel_rfl))
 f285:=Tryz.func177.trans (congrArg some (by kernel_rfl))
 f286:=Tryz.func178.trans (congrArg some (by kernel_rfl))
 f287:=Tryz.func192.trans (congrArg some (by kernel_rfl))
 f316:=Tryz.func193.trans (congrArg some (by kernel_rfl))
 f317:=Tryz.func206.trans (congrArg some (by kernel_rfl))
 f318:=Tryz.func208.trans (congrArg some (by kernel_rfl))
 f319:=Tryz.func209.trans (congrArg some (by kernel_rfl))
 f320:=Tryz.func210.trans (congrArg some (by kernel_rfl))
 f321:=Tryz.func213.trans (congrArg some (by kernel_rfl))
 f322:=Tryz.func214.trans (congrArg some (by kernel_rfl))
 f337:=Tryz.func234.trans (congrArg some (by kernel_rfl))
 f338:=Tryz.func235.trans (congrArg some (by kernel_rfl))
 t0:=Tryz.underlying0
 a0:=Tryz.isAgg0
 z0:=Tryz.sizeOf0
 v0:=Tryz.zeroValue0
 t2:=Tryz.underlying2
 a2:=Tryz.isAgg2
 z2:=Tryz.sizeOf2
 v2:=Tryz.zeroValue2
 t3:=Tryz.underlying3
 a3:=Tryz.isAgg3
 z3:=Tryz.sizeOf3
 v3:=Tryz.zeroValue3
 t4:=Tryz.underlying4
 a4:=Tryz.isAgg4
 z4:=Tryz.sizeOf4
 v4:=Tryz.zeroValue4
 t5:=Tryz.underlying5
 a5:=Tryz.isAgg5
 z5:=Tryz.sizeOf5
 v5:=Tryz.zeroValue5
 t9:=Tryz.underlying9
 a9:=Tryz.isAgg9
 z9:=Tryz.sizeOf9
 v9:=Tryz.zeroValue9
 t20:=Tryz.underlying20
 a20:=Tryz.isAgg20
 z20:=Tryz.sizeOf20
 v20:=Tryz.zeroValue20
 t21:=Tryz.underlying21
 a21:=Tryz.isAgg21
 z21:=Tryz.sizeOf21
 v21:=Tryz.zeroValue21
 t37:=Tryz.underlying73
 a37:=Tryz.isAgg73
 z37:=Tryz.sizeOf73
 v37:=Tryz.zeroValue73
 t46:=Tryz.underlying262
 a46:=Tryz.isAgg262
 z46:=Tryz.sizeOf262
 v46:=Tryz.zeroValue262
 t51:=Tryz.underlying283
 a51:=Tryz.isAgg283
 z51:=Tryz.sizeOf283
 v51:=Tryz.zeroValue283
 t53:=Tryz.underlying247
 a53:=Tryz.isAgg247
 z53:=Tryz.sizeOf247
 v53:=Tryz.zeroValue247
 t75:=Tryz.underlying124
 a75:=Tryz.isAgg124
 z75:=Tryz.sizeOf124
 v75:=Tryz.zeroValue124
 t76:=Tryz.underlying125
 a76:=Tryz.isAgg125
 z76:=Tryz.sizeOf125
 v76:=Tryz.zeroValue125
 t85:=Tryz.underlying220
 a85:=Tryz.isAgg220
 z85:=Tryz.sizeOf220
 v85:=Tryz.zeroValue220
 t127:=Tryz.underlying181
 a127:=Tryz.isAgg181
 z127:=Tryz.sizeOf181
 v127:=Tryz.zeroValue181
 t143:=Tryz.underlying292
 a143:=Tryz.isAgg292
 z143:=Tryz.sizeOf292
 v143:=Tryz.zeroValue292
 t145:=Tryz.underlying294
 a145:=Tryz.isAgg294
 z145:=Tryz.sizeOf294
 v145:=Tryz.zeroValue294
 t167:=Tryz.underlying219
 a167:=Tryz.isAgg219
 z167:=Tryz.sizeOf219
 v167:=Tryz.zeroValue219
 t168:=Tryz.underlying222
 a168:=Tryz.isAgg222
 z168:=Tryz.sizeOf222
 v168:=Tryz.zeroValue222
 t171:=Tryz.underlying246
 a171:=Tryz.isAgg246
 z171:=Tryz.sizeOf246
 v171:=Tryz.zeroValue246
 t173:=Tryz.underlying250
 a173:=Tryz.isAgg250
 z173:=Tryz.sizeOf250
 v173:=Tryz.zeroValue250
 t175:=Tryz.underlying263
 a175:=Tryz.isAgg263
 z175:=Tryz.sizeOf263
 v175:=Tryz.zeroValue263
 t210:=Tryz.underlying267
 a210:=Tryz.isAgg267
 z210:=Tryz.sizeOf267
 v210:=Tryz.zeroValue267
 t212:=Tryz.underlying282
 a212:=Tryz.isAgg282
 z212:=Tryz.sizeOf282
 v212:=Tryz.zeroValue282
 t213:=Tryz.underlying284
 a213:=Tryz.isAgg284
 z213:=Tryz.sizeOf284
 t232:=Tryz.underlying324
 a232:=Tryz.isAgg324
 z232:=Tryz.sizeOf324
 v232:=Tryz.zeroValue324
 t233:=Tryz.underlying325
 a233:=Tryz.isAgg325
 z233:=Tryz.sizeOf325
 v233:=Tryz.zeroValue325
 g15:=by kernel_rfl
 g16:=by kernel_rfl
 g17:=by kernel_rfl
 g18:=by kernel_rfl
 g19:=by kernel_rfl
 t80:=Tryz.underlying134
 a80:=Tryz.isAgg134
 z80:=Tryz.sizeOf134
 v80:=Tryz.zeroValue134
 i0:=by kernel_rfl
 i2:=by kernel_rfl
 i3:=by kernel_rfl
 i4:=by kernel_rfl
 i5:=by kernel_rfl
 i9:=by kernel_rfl
 i20:=by kernel_rfl
 i21:=by kernel_rfl
 i37:=by kernel_rfl
 i46:=by kernel_rfl
 i51:=by kernel_rfl
 i53:=by kernel_rfl
 i75:=by kernel_rfl
 i76:=by kernel_rfl
 i80:=by kernel_rfl
 i85:=by kernel_rfl
 i127:=by kernel_rfl
 i143:=by kernel_rfl
 i145:=by kernel_rfl
 i167:=by kernel_rfl
 i168:=by kernel_rfl
 i171:=by kernel_rfl
 i173:=by kernel_rfl
 i175:=by kernel_rfl
 i210:=by kernel_rfl
 i212:=by kernel_rfl
 i232:=by kernel_rfl
 i233:=by kernel_rfl
 m15:=by kernel_rfl
 m16:=by kernel_rfl
 m17:=by kernel_rfl
 m18:=by kernel_rfl
 m19:=by kernel_rfl
 c0:=by kernel_rfl
 c2:=by kernel_rfl
 c3:=by kernel_rfl
 c4:=by kernel_rfl
 c5:=by kernel_rfl
 c9:=by kernel_rfl
 c20:=by kernel_rfl
 c21:=by kernel_rfl
 c37:=by kernel_rfl
 c46:=by kernel_rfl
 c51:=by kernel_rfl
 c53:=by kernel_rfl
 c75:=by kernel_rfl
 c76:=by kernel_rfl
 c80:=by kernel_rfl
 c85:=by kernel_rfl
 c127:=by kernel_rfl
 c143:=by kernel_rfl
 c145:=by kernel_rfl
 c167:=by kernel_rfl
 c168:=by kernel_rfl
 c171:=by kernel_rfl
 c173:=by kernel_rfl
 c175:=by kernel_rfl
 c210:=by kernel_rfl
 c212:=by kernel_rfl
 c213:=by kernel_rfl
 c232:=by kernel_rfl
 c233:=by kernel_rfl}
def Tryz.lays219_ren :Go.Shelf.Ren:=⟨fun | 219=>154 | 217=>188 | 225=>189 | 224=>190 | 267=>191 | 266=>211 | 314=>212 | n=>n,fun | 9=>9 | 3=>3 | 4=>4 | 5=>5 | 46=>262 | 146=>289 | 51=>283 | n=>n,fun | 1=>0 | n=>n⟩
theorem Tryz.lays219 :Go.Proofs.Lays.n219 prog Tryz.lays219_ren:={
 mixed:=by kernel_rfl
 f217:=Tryz.func188.trans (congrArg some (by kernel_rfl))
 f219:=Tryz.func154.trans (congrArg some (by kernel_rfl))
 f224:=Tryz.func190.trans (congrArg some (by kernel_rfl))
 f225:=Tryz.func189.trans (congrArg some (by kernel_rfl))
 f266:=Tryz.func211.trans (congrArg some (by kernel_rfl))
 f267:=Tryz.func191.trans (congrArg some (by kernel_rfl))
 f314:=Tryz.func212.trans (congrArg some (by kernel_rfl))
 t3:=Tryz.underlying3
 a3:=Tryz.isAgg3
 z3:=Tryz.sizeOf3
 v3:=Tryz.zeroValue3
 t4:=Tryz.underlying4
 a4:=Tryz.isAgg4
 z4:=Tryz.sizeOf4
 v4:=Tryz.zeroValue4
 t5:=Tryz.underlying5
 a5:=Tryz.isAgg5
 z5:=Tryz.sizeOf5
 v5:=Tryz.zeroValue5
 t9:=Tryz.underlying9
 a9:=Tryz.isAgg9
 z9:=Tryz.sizeOf9
 v9:=Tryz.zeroValue9
 t46:=Tryz.underlying262
 a46:=Tryz.isAgg262
 z46:=Tryz.sizeOf262
 v46:=Tryz.zeroValue262
 t51:=Tryz.underlying283
 a51:=Tryz.isAgg283
 z51:=Tryz.sizeOf283
 v51:=Tryz.zeroValue283
 t146:=Tryz.underlying289
 a146:=Tryz.isAgg289
 z146:=Tryz.sizeOf289
 v146:=Tryz.zeroValue289
 g1:=by kernel_rfl}
def Tryz.lays138_ren :Go.Shelf.Ren:=⟨fun | 138=>82 | 195=>119 | 218=>120 | 143=>118 | 219=>154 | 217=>188 | 225=>189 | 224=>190 | 267=>191 | 266=>211 | 314=>212 | n=>n,fun | 9=>9 | 3=>3 | 4=>4 | 5=>5 | 0=>0 | 46=>262 | 146=>289 | 51=>283 | n=>n,fun | 1=>0 | n=>n⟩
theorem Tryz.lays138 :Go.Proofs.Lays.n138 prog Tryz.lays138_ren:={
 mixed:=by kernel_rfl
 f138:=Tryz.func82.trans (congrArg some (by kernel_rfl))
 f143:=Tryz.func118.trans (congrArg some (by kernel_rfl))
 f195:=Tryz.func119.trans (congrArg some (by kernel_rfl))
 f217:=Tryz.func188.trans (congrArg some (by kernel_rfl))
 f218:=Tryz.func120.trans (congrArg some (by kernel_rfl))
 f219:=Tryz.func154.trans (congrArg some (by kernel_rfl))
 f224:=Tryz.func190.trans (congrArg some (by kernel_rfl))
 f225:=Tryz.func189.trans (congrArg some (by kernel_rfl))
 f266:=Tryz.func211.trans (congrArg some (by kernel_rfl))
 f267:=Tryz.func191.trans (congrArg some (by kernel_rfl))
 f314:=Tryz.func212.trans (congrArg some (by kernel_rfl))
 t0:=Tryz.underlying0
 a0:=Tryz.isAgg0
 z0:=Tryz.sizeOf0
 v0:=Tryz.zeroValue0
 t3:=Tryz.underlying3
 a3:=Tryz.isAgg3
 z3:=Tryz.sizeOf3
 v3:=Tryz.zeroValue3
 t4:=Tryz.underlying4
 a4:=Tryz.isAgg4
 z4:=Tryz.sizeOf4
 v4:=Tryz.zeroValue4
 t5:=Tryz.underlying5
 a5:=Tryz.isAgg5
 z5:=Tryz.sizeOf5
 v5:=Tryz.zeroValue5
 t9:=Tryz.underlying9
 a9:=Tryz.isAgg9
 z9:=Tryz.sizeOf9
 v9:=Tryz.zeroValue9
 t46:=Tryz.underlying262
 a46:=Tryz.isAgg262
 z46:=Tryz.sizeOf262
 v46:=Tryz.zeroValue262
 t51:=Tryz.underlying283
 a51:=Tryz.isAgg283
 z51:=Tryz.sizeOf283
 v51:=Tryz.zeroValue283
 t146:=Tryz.underlying289
 a146:=Tryz.isAgg289
 z146:=Tryz.sizeOf289
 v146:=Tryz.zeroValue289
 g1:=by kernel_rfl}
def Tryz.lays189_ren :Go.Shelf.Ren:=⟨fun | 189=>161 | 125=>196 | 257=>195 | 128=>224 | 129=>207 | 294=>215 | 295=>216 | 296=>217 | 297=>218 | 298=>219 | 299=>220 | 216=>221 | 300=>222 | 301=>223 | 328=>236 | 329=>237 | 330=>238 | 331=>239 | 332=>240 | 215=>241 | 343=>247 | n=>n,fun | 28=>83 | 3=>3 | 46=>262 | 0=>0 | 51=>283 | 53=>247 | 4=>4 | 183=>297 | 182=>296 | 131=>97 | 5=>5 | 9=>9 | 218=>312 | 222=>91 | 228=>326 | 229=>156 | n=>n,fun | n=>n⟩
theorem Tryz.lays189 :Go.Proofs.Lays.n189 prog Tryz.lays189_ren:={
 mixed:=by kernel_rfl
 f125:=Tryz.func196.trans (congrArg some (by kernel_rfl))
 f128:=Tryz.func224.trans (congrArg some (by kernel_rfl))
 f129:=Tryz.func207.trans (congrArg some (by kernel_rfl))
 f189:=Tryz.func161.trans (congrArg some (by kernel_rfl))
 f215:=Tryz.func241.trans (congrArg some (by kernel_rfl))
 f216:=Tryz.func221.trans (congrArg some (by kernel_rfl))
 f257:=Tryz.func195.trans (congrArg some (by kernel_rfl))
 f294:=Tryz.func215.trans (congrArg some (by kernel_rfl))
 f295:=Tryz.func216.trans (congrArg some (by kernel_rfl))
 f296:=Tryz.func217.trans (congrArg some (by kernel_rfl))
 f297:=Tryz.func218.trans (congrArg some (by kernel_rfl))
 f298:=Tryz.func219.trans (congrArg some (by kernel_rfl))
 f299:=Tryz.func220.trans (congrArg some (by kernel_rfl))
 f300:=Tryz.func222.trans (congrArg some (by kernel_rfl))
 f301:=Tryz.func223.trans (congrArg some (by kernel_rfl))
 f328:=Tryz.func236.trans (congrArg some (by kernel_rfl))
 f329:=Tryz.func237.trans (congrArg some (by kernel_rfl))
 f330:=Tryz.func238.trans (congrArg some (by kernel_rfl))
 f331:=Tryz.func239.trans (congrArg some (by kernel_rfl))
 f332:=Tryz.func240.trans (congrArg some (by kernel_rfl))
 f343:=Tryz.func247.trans (congrArg some (by kernel_rfl))
 t0:=Tryz.underlying0
 a0:=Tryz.isAgg0
 z0:=Tryz.sizeOf0
 v0:=Tryz.zeroValue0
 t3:=Tryz.underlying3
 a3:=Tryz.isAgg3
 z3:=Tryz.sizeOf3
 v3:=Tryz.zeroValue3
 t4:=Tryz.underlying4
 a4:=Tryz.isAgg4
 z4:=Tryz.sizeOf4
 v4:=Tryz.zeroValue4
 t5:=Tryz.underlying5
 a5:=Tryz.isAgg5
 z5:=Tryz.sizeOf5
 v5:=Tryz.zeroValue5
 t9:=Tryz.underlying9
 a9:=Tryz.isAgg9
 z9:=Tryz.sizeOf9
 v9:=Tryz.zeroValue9
 t28:=Tryz.underlying83
 a28:=Tryz.isAgg83
 z28:=Tryz.sizeOf83
 v28:=Tryz.zeroValue83
 t46:=Tryz.underlying262
 a46:=Tryz.isAgg262
 z46:=Tryz.sizeOf262
 v46:=Tryz.zeroValue262
 t51:=Tryz.underlying283
 a51:=Tryz.isAgg283
 z51:=Tryz.sizeOf283
 v51:=Tryz.zeroValue283
 t53:=Tryz.underlying247
 a53:=Tryz.isAgg247
 z53:=Tryz.sizeOf247
 v53:=Tryz.zeroValue247
 t131:=Tryz.underlying97
 a131:=Tryz.isAgg97
 z131:=Tryz.sizeOf97
 v131:=Tryz.zeroValue97
 t182:=Tryz.underlying296
 a182:=Tryz.isAgg296
 z182:=Tryz.sizeOf296
 v182:=Tryz.zeroValue296
 t183:=Tryz.underlying297
 a183:=Tryz.isAgg297
 z183:=Tryz.sizeOf297
 v183:=Tryz.zeroValue297
 t218:=Tryz.underlying312
 a218:=Tryz.isAgg312
 z218:=Tryz.sizeOf312
 v218:=Tryz.zeroValue312
 t222:=Tryz.underlying91
 a222:=Tryz.isAgg91
 z222:=Tryz.sizeOf91
 v222:=Tryz.zeroValue91
 t228:=Tryz.underlying326
 a228:=Tryz.isAgg326
 z228:=Tryz.sizeOf326
 v228:=Tryz.zeroValue326
 t229:=Tryz.underlying156
 a229:=Tryz.isAgg156
 z229:=Tryz.sizeOf156
 v229:=Tryz.zeroValue156}
open Go.Sort Go.RowKit in
theorem Tryz.slices_Sort_int (blk off cap:Nat) (zs:List Int) (w:World) (hH:Holds (Value.int .i64) w blk off zs.toArray) (fM:blk<w.heap.size) (hsz:zs.length<4611686018427387904):
  Calls prog 161 #[.slice (some ⟨blk,off,none⟩) zs.length cap] w fun e w'=>
   e=.returned (.tuple #[])/\ ∃n os,w'=grow (putRow (Value.int .i64) (Sort.ahead w n) blk off (zs.mergeSort fun x y=>decide (x<=y)).toArray) os:=Any.slices_Sort_int Tryz.lays189 blk off cap zs w hH fM hsz
def Tryz.lays146_ren :Go.Shelf.Ren:=⟨fun | 146=>44 | 221=>81 | 268=>117 | 138=>82 | 143=>118 | 195=>119 | 197=>153 | 218=>120 | 219=>154 | 260=>187 | 217=>188 | 225=>189 | 224=>190 | 267=>191 | 266=>211 | 314=>212 | n=>n,fun | 9=>9 | 31=>70 | 3=>3 | 4=>4 | 0=>0 | 105=>217 | 21=>21 | 5=>5 | 46=>262 | 119=>285 | 139=>288 | 138=>287 | 146=>289 | 51=>283 | n=>n,fun | 1=>0 | 3=>4 | 4=>5 | n=>n⟩
theorem Tryz.lays146 :Go.Proofs.Lays.n146 prog Tryz.lays146_ren:={
 mixed:=by kernel_rfl
 f138:=Tryz.func82.trans (congrArg some (by kernel_rfl))
 f143:=Tryz.func118.trans (congrArg some (by kernel_rfl))
 f146:=Tryz.func44.trans (congrArg some (by kernel_rfl))
 f195:=Tryz.func119.trans (congrArg some (by kernel_rfl))
 f197:=Tryz.func153.trans (congrArg some (by kernel_rfl))
 f217:=Tryz.func188.trans (congrArg some (by kernel_rfl))
 f218:=Tryz.func120.trans (congrArg some (by kernel_rfl))
 f219:=Tryz.func154.trans (congrArg some (by kernel_rfl))
 f221:=Tryz.func81.trans (congrArg some (by kernel_rfl))
 f224:=Tryz.func190.trans (congrArg some (by kernel_rfl))
 f225:=Tryz.func189.trans (congrArg some (by kernel_rfl))
 f260:=Tryz.func187.trans (congrArg some (by kernel_rfl))
 f266:=Tryz.func211.trans (congrArg some (by kernel_rfl))
 f267:=Tryz.func191.trans (congrArg some (by kernel_rfl))
 f268:=Tryz.func117.trans (congrArg some (by kernel_rfl))
 f314:=Tryz.func212.trans (congrArg some (by kernel_rfl))
 t0:=Tryz.underlying0
 a0:=Tryz.isAgg0
 z0:=Tryz.sizeOf0
 v0:=Tryz.zeroValue0
 t3:=Tryz.underlying3
 a3:=Tryz.isAgg3
 z3:=Tryz.sizeOf3
 v3:=Tryz.zeroValue3
 t4:=Tryz.underlying4
 a4:=Tryz.isAgg4
 z4:=Tryz.sizeOf4
 v4:=Tryz.zeroValue4
 t5:=Tryz.underlying5
 a5:=Tryz.isAgg5
 z5:=Tryz.sizeOf5
 v5:=Tryz.zeroValue5
 t9:=Tryz.underlying9
 a9:=Tryz.isAgg9
 z9:=Tryz.sizeOf9
 v9:=Tryz.zeroValue9
 t21:=Tryz.underlying21
 a21:=Tryz.isAgg21
 z21:=Tryz.sizeOf21
 v21:=Tryz.zeroValue21
 t31:=Tryz.underlying70
 a31:=Tryz.isAgg70
 z31:=Tryz.sizeOf70
 v31:=Tryz.zeroValue70
 t46:=Tryz.underlying262
 a46:=Tryz.isAgg262
 z46:=Tryz.sizeOf262
 v46:=Tryz.zeroValue262
 t51:=Tryz.underlying283
 a51:=Tryz.isAgg283
 z51:=Tryz.sizeOf283
 v51:=Tryz.zeroValue283
 t105:=Tryz.underlying217
 a105:=Tryz.isAgg217
 z105:=Tryz.sizeOf217
 v105:=Tryz.zeroValue217
 t119:=Tryz.underlying285
 a119:=Tryz.isAgg285
 z119:=Tryz.sizeOf285
 t138:=Tryz.underlying287
 a138:=Tryz.isAgg287
 z138:=Tryz.sizeOf287
 v138:=Tryz.zeroValue287
 t139:=Tryz.underlying288
 a139:=Tryz.isAgg288
 z139:=Tryz.sizeOf288
 v139:=Tryz.zeroValue288
 t146:=Tryz.underlying289
 a146:=Tryz.isAgg289
 z146:=Tryz.sizeOf289
 v146:=Tryz.zeroValue289
 g1:=by kernel_rfl
 g3:=by kernel_rfl
 g4:=by kernel_rfl}
def Tryz.laysNm220_ren :Go.Shelf.Ren:=⟨fun | 20=>162 | n=>n,fun | 22=>83 | 3=>3 | 4=>4 | 0=>0 | n=>n,fun | n=>n⟩
theorem Tryz.laysNm220 :Go.Proofs.Lays2.n20 prog Tryz.laysNm220_ren:={
 mixed:=by kernel_rfl
 f20:=Tryz.func162.trans (congrArg some (by kernel_rfl))
 t0:=Tryz.underlying0
 a0:=Tryz.isAgg0
 z0:=Tryz.sizeOf0
 v0:=Tryz.zeroValue0
 t3:=Tryz.underlying3
 a3:=Tryz.isAgg3
 z3:=Tryz.sizeOf3
 v3:=Tryz.zeroValue3
 t4:=Tryz.underlying4
 a4:=Tryz.isAgg4
 z4:=Tryz.sizeOf4
 v4:=Tryz.zeroValue4
 t22:=Tryz.underlying83
 a22:=Tryz.isAgg83
 z22:=Tryz.sizeOf83
 v22:=Tryz.zeroValue83
 i3:=by kernel_rfl}
open Go.RowKit Go.Lib Go.Sort in
theorem Tryz.slices_Compact_int (blk off cap:Nat) (zs:List Int) (w:World) (hH:Holds (Value.int .i64) w blk off zs.toArray) (hsz:zs.length<=9223372036854775807) (eM:zs.length<=cap):
  Calls prog 162 #[.slice (some ⟨blk,off,none⟩) zs.length cap] w fun e w'=>e=.returned (.slice (some ⟨blk,off,none⟩) (Lib.compact zs).length cap)/\ ∃q,w'=putRow (Value.int .i64) (Sort.ahead w q) blk off (Lib.compact zs++List.replicate (zs.length - (Lib.compact zs).length) 0).toArray :=Any.slices_Compact_int Tryz.laysNm220 blk off cap zs w hH hsz eM
open Go.RowKit Go.Lib Go.Sort in
theorem Tryz.slices_Compact_int_empty (a:Option Addr) (cap:Nat) (w:World):
  Calls prog 162 #[.slice a 0 cap] w fun e w'=>e=.returned (.slice a 0 cap)/\w'=w:=Any.slices_Compact_int_empty Tryz.laysNm220 a cap w
open Go.RowKit Go.Sort in
theorem Tryz.slices_Sort_int_none (p:Option Addr) (cap:Nat) (w:World):
  Calls prog 161 #[.slice p 0 cap] w fun e w'=>e=.returned (.tuple #[])/\w'=w:=Any.slices_Sort_int_none Tryz.lays189 p cap w
def Tryz.sortEnd_ren :Go.Shelf.Ren:=⟨fun | 6=>244 | 15=>196 | 14=>248 | 28=>224 | 29=>207 | 20=>250 | 21=>251 | 22=>252 | 23=>253 | 24=>254 | 25=>255 | 26=>256 | 27=>257 | 46=>258 | 47=>237 | 48=>238 | 49=>259 | 50=>260 | 57=>261 | n=>n,fun | 22=>319 | 24=>311 | 25=>321 | 3=>3 | 39=>262 | 0=>0 | 53=>283 | 55=>247 | 4=>4 | 46=>297 | 45=>296 | 50=>97 | 5=>5 | 9=>9 | 66=>312 | 70=>91 | 76=>326 | 77=>156 | n=>n,fun | n=>n⟩
theorem Tryz.sortEnd :Go.Proofs.SlLaysF0.n6 prog Tryz.sortEnd_ren:={
 mixed:=by kernel_rfl
 f6:=⟨Tryz.f244.name,by decide,Tryz.func244.trans (congrArg some (by kernel_rfl))⟩
 f14:=⟨Tryz.f248.name,by decide,Tryz.func248.trans (congrArg some (by kernel_rfl))⟩
 f15:=Tryz.func196.trans (congrArg some (by kernel_rfl))
 f20:=⟨Tryz.f250.name,by decide,Tryz.func250.trans (congrArg some (by kernel_rfl))⟩
 f21:=⟨Tryz.f251.name,by decide,Tryz.func251.trans (congrArg some (by kernel_rfl))⟩
 f22:=⟨Tryz.f252.name,by decide,Tryz.func252.trans (congrArg some (by kernel_rfl))⟩
 f23:=⟨Tryz.f253.name,by decide,Tryz.func253.trans (congrArg some (by kernel_rfl))⟩
 f24:=⟨Tryz.f254.name,by decide,Tryz.func254.trans (congrArg some (by kernel_rfl))⟩
 f25:=⟨Tryz.f255.name,by decide,Tryz.func255.trans (congrArg some (by kernel_rfl))⟩
 f26:=⟨Tryz.f256.name,by decide,Tryz.func256.trans (congrArg some (by kernel_rfl))⟩
 f27:=⟨Tryz.f257.name,by decide,Tryz.func257.trans (congrArg some (by kernel_rfl))⟩
 f28:=Tryz.func224.trans (congrArg some (by kernel_rfl))
 f29:=Tryz.func207.trans (congrArg some (by kernel_rfl))
 f46:=⟨Tryz.f258.name,by decide,Tryz.func258.trans (congrArg some (by kernel_rfl))⟩
 f47:=Tryz.func237.trans (congrArg some (by kernel_rfl))
 f48:=Tryz.func238.trans (congrArg some (by kernel_rfl))
 f49:=⟨Tryz.f259.name,by decide,Tryz.func259.trans (congrArg some (by kernel_rfl))⟩
 f50:=⟨Tryz.f260.name,by decide,Tryz.func260.trans (congrArg some (by kernel_rfl))⟩
 f57:=⟨Tryz.f261.name,by decide,Tryz.func261.trans (congrArg some (by kernel_rfl))⟩
 t0:=Tryz.underlying0
 a0:=Tryz.isAgg0
 z0:=Tryz.sizeOf0
 v0:=Tryz.zeroValue0
 t3:=Tryz.underlying3
 a3:=Tryz.isAgg3
 z3:=Tryz.sizeOf3
 v3:=Tryz.zeroValue3
 t4:=Tryz.underlying4
 a4:=Tryz.isAgg4
 z4:=Tryz.sizeOf4
 v4:=Tryz.zeroValue4
 t5:=Tryz.underlying5
 a5:=Tryz.isAgg5
 z5:=Tryz.sizeOf5
 v5:=Tryz.zeroValue5
 t9:=Tryz.underlying9
 a9:=Tryz.isAgg9
 z9:=Tryz.sizeOf9
 v9:=Tryz.zeroValue9
 t22:=Tryz.underlying319
 a22:=Tryz.isAgg319
 z22:=Tryz.sizeOf319
 v22:=Tryz.zeroValue319
 t25:=Tryz.underlying321
 a25:=Tryz.isAgg321
 z25:=Tryz.sizeOf321
 v25:=Tryz.zeroValue321
 t39:=Tryz.underlying262
 a39:=Tryz.isAgg262
 z39:=Tryz.sizeOf262
 v39:=Tryz.zeroValue262
 t45:=Tryz.underlying296
 a45:=Tryz.isAgg296
 z45:=Tryz.sizeOf296
 v45:=Tryz.zeroValue296
 t46:=Tryz.underlying297
 a46:=Tryz.isAgg297
 z46:=Tryz.sizeOf297
 v46:=Tryz.zeroValue297
 t50:=Tryz.underlying97
 a50:=Tryz.isAgg97
 z50:=Tryz.sizeOf97
 v50:=Tryz.zeroValue97
 t53:=Tryz.underlying283
 a53:=Tryz.isAgg283
 z53:=Tryz.sizeOf283
 v53:=Tryz.zeroValue283
 t55:=Tryz.underlying247
 a55:=Tryz.isAgg247
 z55:=Tryz.sizeOf247
 v55:=Tryz.zeroValue247
 t66:=Tryz.underlying312
 a66:=Tryz.isAgg312
 z66:=Tryz.sizeOf312
 v66:=Tryz.zeroValue312
 t70:=Tryz.underlying91
 a70:=Tryz.isAgg91
 z70:=Tryz.sizeOf91
 v70:=Tryz.zeroValue91
 t76:=Tryz.underlying326
 a76:=Tryz.isAgg326
 z76:=Tryz.sizeOf326
 v76:=Tryz.zeroValue326
 t77:=Tryz.underlying156
 a77:=Tryz.isAgg156
 z77:=Tryz.sizeOf156
 v77:=Tryz.zeroValue156}
def Tryz.lays240_ren :Go.Shelf.Ren:=⟨fun | 240=>108 | 276=>145 | n=>n,fun | 0=>0 | 4=>4 | 9=>9 | 20=>20 | 70=>72 | 72=>75 | 164=>210 | 37=>73 | n=>n,fun | n=>n⟩
theorem Tryz.lays240 :Go.Proofs.Lays.n240 prog Tryz.lays240_ren:={
 mixed:=by kernel_rfl
 f240:=Tryz.func108.trans (congrArg some (by kernel_rfl))
 f276:=Tryz.func145.trans (congrArg some (by kernel_rfl))
 t0:=Tryz.underlying0
 a0:=Tryz.isAgg0
 z0:=Tryz.sizeOf0
 v0:=Tryz.zeroValue0
 t4:=Tryz.underlying4
 a4:=Tryz.isAgg4
 z4:=Tryz.sizeOf4
 v4:=Tryz.zeroValue4
 t9:=Tryz.underlying9
 a9:=Tryz.isAgg9
 z9:=Tryz.sizeOf9
 v9:=Tryz.zeroValue9
 t20:=Tryz.underlying20
 a20:=Tryz.isAgg20
 z20:=Tryz.sizeOf20
 v20:=Tryz.zeroValue20
 t70:=Tryz.underlying72
 a70:=Tryz.isAgg72
 z70:=Tryz.sizeOf72
 v70:=Tryz.zeroValue72
 t72:=Tryz.underlying75
 a72:=Tryz.isAgg75
 z72:=Tryz.sizeOf75
 v72:=Tryz.zeroValue75
 t164:=Tryz.underlying210
 a164:=Tryz.isAgg210
 z164:=Tryz.sizeOf210
 v164:=Tryz.zeroValue210
}
theorem Tryz.Builder_X72_240 :Builder.X72 prog Tryz.lays240_ren where
 sizeBuilder:=by kernel_rfl
 liesBuilder:=by kernel_rfl
end Go.Proofs
namespace Go.Am
open IntKind (wrap)
open Go.Proofs.Tryz
open Go.Proofs
theorem SO :j6e prog:=fun _ b p v w l eE hbk hv=>by
 rcases hv with ⟨rfl,rfl⟩ | ⟨g,o,c,cur,rfl,hlc,hg,hn,hc⟩
 .refine (x2v Tryz.lays169 Tryz.Builder_Extra_169 b p w hbk).mono fun e w' ⟨he,hw⟩=>⟨he,?_⟩
  subst hw;exact ⟨An _,fun k o hk _=>hk,rfl,rfl,rfl⟩
 .cases l with
  | nil=>
   by_cases hc0:c=0
   .subst hc0;refine (y4b Tryz.lays169 Tryz.Builder_Extra_169 b p w g o cur hbk hg).mono fun e w' ⟨he,hw⟩=>⟨he,?_⟩
    subst hw;refine ⟨?_,fun k ob hk _=> ?_,rfl,rfl,rfl⟩
    .show w.heap.size<=(w.heap.push _).size;rw [Array.size_push];exact BW _
    .show (w.heap.push _)[k]? =_;rw [BS,Az (Bi (AB.1 hk).1)];exact hk
   .refine (x0b Tryz.lays169 Tryz.Builder_Extra_169 b p w g o c hc0 hbk).mono fun e w' ⟨he,hw⟩=>⟨he,?_⟩
    subst hw;exact ⟨An _,fun k o hk _=>hk,rfl,rfl,rfl⟩
  | cons x r=>
   refine (x0a Tryz.lays169 Tryz.Builder_Extra_169 b p w g o c cur (x::r) (by simp) hlc eE hbk hg (hn (by simp)) hc).mono fun e w' ⟨he,hw⟩=>⟨he,?_⟩
   subst hw;obtain ⟨f1,f2,f3,f4⟩:=y9z w.drew ⟨g,o,none⟩ (x::r).length;exact ⟨BZ f1.symm,fun k ob hk hne=>(v3w w.drew g o _ k (hne g o _ c rfl)).trans hk,f2,f3,f4⟩
def NQ (P:Program):Bool:=P.funcs.toList.all fun fn=>fn.body.isNone|| !(fn.name == "runtime.NumGoroutine")
theorem u2w {P:Program} (h:NQ P=true) (hs:j6e P):EJ P:=by
 refine ⟨fun f fn hf hb=> ?_,hs⟩;have hm:fn∈P.funcs.toList:=by rw [Array.mem_toList_iff];exact Array.mem_of_getElem? hf
 have:=Ax.mp h fn hm;cases hbb:fn.body with
 | none=>rw [hbb] at hb;cases hb
 | some b=>simpa [hbb] using this
theorem Sz :EJ prog:=u2w (by kernel_rfl) SO
theorem mixed :prog.follows .mixedOrders =true:=by kernel_rfl
end Go.Am
namespace Go.Am
open IntKind (wrap)
open Go.Proofs.Tryz
open Go.Proofs
instance {α :Type} [Xu α]:Xu (List α) where
 w:=1
 d:=[]
 cells l:=[.dat l.length (Zz l)]
 of cs:=match cs.getD 0 .undef with
  | .dat n g=>Cf α n g
  | _=>[]
 len _:=rfl
 pos:=An 1
 flat _:=rfl
 sc _:=rfl
 back l:=Zt l
theorem w0d {α:Type} [Xu α] {L:List α} {n off sz:Nat} {cells:List B3} (hn:n=L.length) (hsz:sz=Xu.w α) (hc:(cells.drop off).take (n*sz)=(L.map Xu.cells).flatten):Ue n (Jk cells off sz) (Zz L)=true:=Yh fun i hi=>by
 have e:((((cells.drop off).take (n*sz)).drop (i*sz)).take sz)=(cells.drop (off+i*sz)).take sz:=by rw [List.drop_take,List.take_take,List.drop_drop,Nat.min_eq_left];have:=AE sz (show i+1<=n by omega);rw [AV,BX] at this;omega
 have h:=ZM (sz:=sz) (L.map Xu.cells) i (fun x hx=>by obtain ⟨y,_,rfl⟩:=BR.1 hx;rw [Xu.len,hsz]) (by simpa using by omega);unfold Jk;rw [<-e,hc,h];simp only [Zz];rw [Wb (show i<L.length by omega),Bc,BM,As (show i<L.length by omega)];rfl
theorem u0j {G H:Nat->List B3} (h:G 0=H 0):Ue 1 G H=true:=Yh fun i hi=>by
 obtain rfl:i=0:=by omega
 exact h
theorem v1e {L:List B3} (s t:Nat) (h:L.all (pf 6)=true):DB (fun k=>(L.drop (k*s)).take t)=true:=Yh fun i=>
 Ax.2 fun v hv=>Ax.1 h v (List.mem_of_mem_drop (List.mem_of_mem_take hv))
structure OB where
 b:Bool
 h:b=true
def nn :OB:=⟨true,rfl⟩
def pp (q r:OB):OB:=⟨q.b&&r.b,Ph q.h r.h⟩
def tt {c v:Bool} (k:c=v) (r:OB):OB:=⟨(c == v)&&r.b,Ph (v5s k) r.h⟩
def ww {c:Bool} (k:c=true) (r:OB):OB:=⟨c&&r.b,Ph k r.h⟩
def fl {α:Type} [Xu α] (L:List α) (r:OB):OB:=⟨DB (Zz L)&&r.b,Ph (Xo L) r.h⟩
def xw {c:Bool} (k:c=true):OB:=⟨c,k⟩
def xI (α:Type) [Xu α] (n:Nat) (g:Nat->List B3) (h:CT α n g=true:=by first | with_reducible exact Ul _ _ | exact Ul _ _ | exact w6v _ | exact x7w _ _ _ | assumption | exact u3s _ rfl | exact u3r _ rfl rfl):OB:=⟨CT α n g,h⟩
def xr {α:Type} [Xu α] (L:List α):OB:=⟨CT α L.length (Zz L),Ul L _⟩
def xL (a b:Nat) (h:HN a b=true:=by first | exact Yc rfl | exact Yc (by simp only [Ap,At,AI,Bg,UQ,Yj,List.length_replicate] <;> omega) | assumption):OB:=⟨HN a b,h⟩
def xS (n:Nat) (G H:Nat->List B3) (h:Ue n G H=true:=by
  repeat' (first | exact Vg _ _ | assumption | exact v3x _ _ | exact u0j rfl | exact Jb | exact w0d rfl rfl rfl | rfl | (refine Qo ?_ ?_ rfl rfl rfl) | (refine w5f ?_ ?_ rfl) | exact v3y _ _ _ | (refine u0k ?_ ?_ ?_ (Nat.min_le_left _ _)) | exact w8q (by repeat' (first | exact Vg _ _ | (refine Qo ?_ ?_ rfl rfl rfl) | (refine w5f ?_ ?_ rfl) | (simp only [Ap,At,AI,Bg,UQ];done) | omega)) (by assumption) | (refine Kd ?_ ?_ ?_ rfl) | exact Ke (Vg _ _) rfl | apply Ud | exact u0i rfl rfl | exact Al _ | (simp only [Ap,At,AI,Bg,UQ,Yj,List.length_replicate] <;> omega))):OB:=⟨Ue n G H,h⟩
def xF (G:Nat->List B3) (h:DB G=true:=by
  repeat' (first | with_reducible exact Xo _ | apply v7n | apply v7k | apply v7m | apply v7l | exact Xo _ | exact v1f | exact w3i _ _ | exact v1e _ _ rfl | apply y8c | rfl | assumption)):OB:=⟨DB G,h⟩
def xZ (v:B3) (n:Nat) (g:Nat->List B3) (h:Rs v n g=true:=by first | exact u3z _ _ _ | exact v7f _ _):OB:=⟨Rs v n g,h⟩
def xG (c:Bool) (h:c=true:=by
  repeat' (first | with_reducible (first | assumption | exact BC _ | exact x7i _ | exact u2v _ | exact v6d _ | exact u4p _ | exact v6e _ | apply Ph | apply v5s) | rfl | exact u3t _ | exact v1r _ _ rfl | exact v1s _ _ _ rfl | exact v6r _ _ rfl | exact v0m rfl | exact u0x rfl rfl (fun _=>rfl) | (refine w3w ?_ (by assumption)) | (refine v8b ?_ rfl rfl rfl) | exact Ul _ _ | exact w6v _ | exact x7w _ _ _ | exact Xo _ | apply y8c | apply Ph | apply v5s)):OB:=⟨c,h⟩
def Hx (n:Nat) (l:List BP):List BP:=Nat.rec l (fun _ r=>.keep ::r) n
abbrev tn (n:Int):Nat:=Int.toNat n
abbrev ii (n:Int):B3:=.int .i64 n
abbrev wr (n:Int):Int:=wrap .i64 n
def CE (n:Nat) (l:List Bool):List Bool:=Nat.rec l (fun _ r=>true::r) n
abbrev b7:GY:=⟨[],[],[]⟩
abbrev b8 (l:List Nat):Cl:=⟨[],[],[some l],[]⟩
theorem sl {S:B6} (hS:Zv prog S) (n:Nat) (gs:List (TypeId×Nat×(Nat->List B3))) (N:Cl) (L:GY) (orc:List Bool) (ob:OB) {C C':CG}
  (h:(((XC prog S (Ng prog S 100000 4) n (C.withO orc)).map (WX gs)).bind (XH prog N)).map (Pt L)=some (C'.withB ob.b):=by kernel_rfl) (hfl:TX C=true:=by rfl):Cw prog C C':=
 v9p Sz mixed hS gs N L orc ob.b h ob.h hfl
def rC (n f:Nat) (p:List Nat) (j r:Nat) (env:List (Nat×B3)):CG:=⟨⟨n,0,true⟩,none,Zf prog f p j,none,Zy prog r,⟨Ye env,Xs [] 0,0,[],true⟩,[],.leaf⟩
theorem lr {σ:Type} {cfg:σ->CG} {C:CG} {rs:List ResultVar} {vs:List B3} (n f:Nat) (p:List Nat) (j r:Nat) (env:List (Nat×B3)) (h:Cw prog C (rC n f p j r env)) (hf:G1 (rC n f p j r env)=true:=by rfl)
  (hr:Qx prog (rC n f p j r env).st rs=some vs:=by kernel_rfl):Wp prog rs cfg C (.ret vs):=Ys _ h hf hr
theorem lb {rs:List ResultVar} {σ:Type} {cfg:σ->CG} {C:CG} {c:Bool} {a b:Xj σ} (ha:c=true->Wp prog rs cfg C a) (hb:c=false->Wp prog rs cfg C b):Wp prog rs cfg C (bif c then a else b):=w6s ha hb
theorem lo {rs:List ResultVar} {σ:Type} {cfg:σ->CG} {C:CG} {c:Bool} {a:Xj σ} (ha:c=true->Wp prog rs cfg C a):Wp prog rs cfg C (bif c then a else .stuck):=u3j ha
def By :Type:=UInt8
def yI (b:By):Int:=((b:UInt8).toNat :Int)
def yB (n:Int):By:=UInt8.ofNat n.toNat
def CH (s:List UInt8):List By:=s
abbrev byS (s:List By):List UInt8:=s
theorem Ic (b:By):yB (yI b)=b:=by show UInt8.ofNat (((b:UInt8).toNat :Int)).toNat =b;rw [Int.toNat_natCast];exact UInt8.ofNat_toNat
instance : Xu By where
 w:=1
 d:=(0:UInt8)
 cells b:=[.int .u8 (yI b)]
 of l:=yB (Cn (l.getD 0 .undef))
 len _:=rfl
 pos:=An 1
 flat _:=rfl
 sc _:=rfl
 back b:=Ic b
def sOf :B3->List UInt8
 | .str s=>s
 | _=>[]
instance (priority :=high) instStr:Xu (List UInt8) where
 w:=1
 d:=[]
 cells s:=[.str s]
 of l:=sOf (l.getD 0 .undef)
 len _:=rfl
 pos:=An 1
 flat _:=rfl
 sc _:=rfl
 back _:=rfl
theorem v9i (b:By):0<=yI b/\yI b<256:=by have:=UInt8.toNat_lt (b:UInt8);unfold yI;omega
theorem I9 (s:List UInt8):Ue s.length (Uy s) (Zz (CH s))=true:=Yh fun i hi=>by have h:rd (CH s) i=s[i]'hi:=Wb (L:=CH s) hi;show [B3.int .u8 (CY s i)]=[B3.int .u8 (yI (rd (CH s) i))];rw [h];simp [CY,yI,List.getD,As hi]
theorem w8a (l:List By) (n:Nat) (hn:n=l.length):Fa n (Zz l)=byS l:=by
 subst hn;unfold Fa;refine Bo (by rw [Bs,List.length_range];rfl) fun i h1 h2=> ?_;rw [BK,List.getElem_range];have hi:i<l.length:=by rw [Bs,List.length_range] at h1;exact h1
 show Lh (([B3.int .u8 (yI (rd l i))]).getD 0 .undef)=_;rw [Wb hi];show Lh (B3.int .u8 (yI l[i]))=_;exact Ic _
theorem x7x (b:By):Ll (.int .u8 (yI b))=true:=by have h:=v9i b;unfold Ll;exact Aa h
theorem x8k (l:List By) (n:Nat):RD n (Zz l)=true:=Yh fun k _=>⟨_,rfl,x7x _⟩
theorem x4u (l:List By) (n:Nat):RD n (fun k=>Zz l (0+k))=true:=Yh fun k _=>⟨_,rfl,x7x _⟩
def xY (n:Nat) (g:Nat->List B3) (h:RD n g=true:=by first | exact x4u _ _ | exact x8k _ _ | assumption):OB:=⟨RD n g,h⟩
theorem x9q (l:List By) (n:Nat) (hn:n=l.length):Fa n (fun k=>Zz l (0+k))=byS l:=by
 have:(fun k=>Zz l (0+k))=Zz l:=funext fun k=>by rw [Al]
 rw [this,w8a l n hn]
theorem Yr (s:List UInt8):(CH s).length =s.length:=rfl
theorem Kp {α:Type} [Xu α] {L:List α} {n:Nat}:Ue n (Zz L) (Zz (Vf L 0 n))=true:=Yh fun i hi=>by show Xu.cells (rd L i)=Xu.cells (rd (Vf L 0 n) i);rw [VJ hi,Al]
abbrev TO :Nat:=154
abbrev TI :Nat:=122
abbrev Td :Nat:=79
abbrev Tf :Nat:=82
abbrev N3 :Nat:=73
abbrev SP :Nat:=44
abbrev TK :Nat:=70
abbrev Tg :Nat:=85
abbrev Te :Nat:=108
abbrev TA :Nat:=67
abbrev TH :Nat:=45
abbrev TF :Nat:=84
abbrev S1 :Nat:=77
abbrev S2 :Nat:=50
abbrev SV :Nat:=87
abbrev S6 :Nat:=52
abbrev Sa :Nat:=36
abbrev SS :Nat:=33
abbrev Su :Nat:=17
abbrev NK :Nat:=55
abbrev Ss :Nat:=19
abbrev SF :Nat:=10
abbrev Si :Nat:=12
abbrev SZ :Nat:=39
abbrev SW :Nat:=38
abbrev TP :Nat:=9
abbrev ST :Nat:=14
abbrev Ta :Nat:=56
abbrev T0 :Nat:=126
abbrev Tc :Nat:=90
abbrev TZ :Nat:=93
abbrev TT :Nat:=92
abbrev TS :Nat:=57
abbrev TR :Nat:=20
abbrev S3 :Nat:=25
abbrev v6g :Nat:=180
abbrev u7x :Nat:=185
abbrev u7t :Nat:=186
abbrev u7w :Nat:=183
abbrev KT :Nat:=184
abbrev u7s :Nat:=151
abbrev nXs :Nat:=181
abbrev nYs :Nat:=182
abbrev u7v :Nat:=149
abbrev u7r :Nat:=31
abbrev nAt :Nat:=150
abbrev KU :Nat:=148
abbrev u7u :Nat:=113
abbrev v6i :Nat:=76
abbrev TE :Nat:=203
abbrev TD :Nat:=168
abbrev TC :Nat:=103
abbrev u7q :Nat:=244
abbrev w6f :Nat:=245
abbrev KS :Nat:=161
abbrev w6g :Nat:=162
abbrev TB :Nat:=229
abbrev x7k :Nat:=200
abbrev w6e :Nat:=140
abbrev v6h :Nat:=167
abbrev w6d :Nat:=166
abbrev w6c :Nat:=101
-- not there: gambrel/solid.contact
abbrev x7l :Nat:=61
-- not there: gambrel/gambrelref28.insert
end Go.Am
namespace Go.Am
open IntKind (wrap)
open Go.Proofs Go.Sort
theorem PO {P:Program} {S:B6} (hS:Zv P S) {f:FuncId} {F:List B3->Option (B3×Bool)} (hf:(P.funcs[f]?).any (fun fn=>fn.body.isSome)=true) (hF:Pq P f F):Zv P (S.with f F):=by
 intro g G hg;unfold B6.with at hg;cases hgf:Nat.beq g f with
 | false=>rw [hgf] at hg;exact hS g G hg
 | true=>
  rw [hgf] at hg;obtain rfl:N7.val F=G:=Ag hg;obtain rfl:g=f:=Ah hgf;refine ⟨?_,hF⟩;cases hfn:P.funcs[g]? with
  | none=>rw [hfn] at hf;cases hf
  | some fn=>rw [hfn] at hf;exact ⟨fn,rfl,hf⟩
theorem v2u {P:Program} {S:B6} (hS:Zv P S) {f:FuncId} {F:List B3->CD->Option (B3×Nat×B8×Bool)} (hf:(P.funcs[f]?).any (fun fn=>fn.body.isSome)=true) (hF:Gd P f F):Zv P (fun g=>bif Nat.beq g f then some (.eff F) else S g):=by
 intro g G hg;cases hgf:Nat.beq g f with
 | false=>simp only [hgf,Ab] at hg;exact hS g G hg
 | true=>
  simp only [hgf,Af] at hg;obtain rfl:N7.eff F=G:=Ag hg;obtain rfl:g=f:=Ah hgf;refine ⟨?_,hF⟩;cases hfn:P.funcs[g]? with
  | none=>rw [hfn] at hf;cases hf
  | some fn=>rw [hfn] at hf;exact ⟨fn,rfl,hf⟩
theorem QW {P:Program} {f:FuncId} {F:List B3->Option (B3×Bool)}
  (h: ∀args v,F args=some (v,true)-> ∀(H:Dv) (vals:Array Value) (w:World),Vo (Zr (DD H)) args vals.toList->(∀k o,H k=some o->w.heap[k]? =some o)->Glob H->Calls P f vals w fun e w'=> ∃u,e=.returned u/\Zr (DD H) v u/\RowKit.Below w.heap.size w w'):Pq P f F:=
 fun args v hv H vals w eG hH hG=>(h args v hv H vals w eG hH hG).mono fun e w' ⟨u,he,hu,hb⟩=>⟨H,u,fun _ _ h=>h,fun k o e=>by rw [hb.block k (AB.1 (hH k o e)).1];exact hH k o e,fun _ _=>rfl,he,hu,hb⟩
open Go.Proofs.Tryz
open Go.Lib
def O7 (args:List B3) (mem:CD):Option (B3×Nat×B8×Bool):=match args with
 | [.ptr b 0]=>match Yi mem b with
  | some ⟨.obj .bld ::r,ty,none⟩=>some (.tup [],b,⟨.obj .bld ::r,ty,none⟩,Nat.beq ty DK)
  | _=>none
 | _=>none
theorem y9y {w:World} {k:Nat} {c:Array Value} {el:TypeId} {fz:Nat×Nat} (h:w.heap[k]? =some (.cells c el fz)) (v:Value):w.setCell ⟨k,0,none⟩ v=w.putObj k (.cells (c.setIfInBounds 0 v) el fz):=by
 unfold World.setCell World.putObj
 congr 1
 apply Array.ext_getElem?;intro i;rw [BE,Array.getElem?_setIfInBounds];split
 .rename_i e;subst e;have hlt:=(AB.1 h).1;show Option.map _ w.heap[k]? =_;rw [h,AG hlt];rfl
 .rfl
theorem j5x :Gd prog Te O7:=by
 intro args mem v b blk h gD ρ next floor vals w hfl eG eD
 unfold O7 at h;split at h
 .rename_i b0;split at h
  .rename_i r ty hm;simp only [Ae,Ac] at h;obtain ⟨rfl,rfl,rfl,hty⟩:=h;obtain rfl:ty=DK:=Ah hty;obtain ⟨l,hl,fH⟩: ∃l,ρ b0=some l/\vals= #[.pointer (some ⟨l.blk,l.base+0,none⟩)]:=by
    obtain ⟨vl⟩:=vals;cases eG with
    | cons h1 h2=>
     cases h2;cases h1 with
     | ptr _ _ l e=>exact ⟨l,e,rfl⟩
   have hk:=eD.blk b0 l _ hl hm;cases hk with
   | plain k=>exact absurd k.noObj (by simp [B8.isObj])
   | obj o r' ty' e1 e2 e3=>
    simp only [B8.mk.injEq,Bj,B3.obj.injEq,and_true] at e1;obtain ⟨⟨rfl,rfl⟩,rfl⟩:=e1;obtain ⟨buf,v,p,rfl,hb,hv,hp⟩:=e3;have fP:l.base=0:=(by rw [e2]);rw [fP] at fH;subst fH;have hev: ∀p',(p'=none\/p'=some (⟨l.blk,0,none⟩:Addr))->HE ρ DK l.blk [buf] .bld (some (.cells #[.pointer p',v] DK (0,0))):=fun p' h=>⟨buf,v,p',rfl,rfl,hv,h⟩
    rcases hp with rfl | rfl
    .refine (Any.Builder_copyCheck_fresh Tryz.lays240 Tryz.Builder_X72_240 l.blk w (by simp [World.cell?,hb]) (by simp [World.shape?,hb];rfl) (by simp [World.frozen?,hb])).mono fun e w' ⟨he,hw⟩=>⟨_,he,.tup [] #[] rfl (fun i h=>absurd h (AC _)),?_⟩
     rw [y9y hb] at hw;subst hw;exact ⟨eD.setObj hl hm rfl rfl _ (hev _ (.inr rfl)),Ev.ofObj eD hl hfl _ _⟩
    .refine (Any.Builder_copyCheck_used Tryz.lays240 Tryz.Builder_X72_240 l.blk w (by simp [World.cell?,hb])).mono fun e w' ⟨he,hw⟩=>⟨_,he,.tup [] #[] rfl (fun i h=>absurd h (AC _)),?_⟩
     subst hw;have fO:w'.putObj l.blk (.cells #[.pointer (some ⟨l.blk,0,none⟩),v] DK (0,0))=w':=by
      have hlt:=(AB.1 hb).1;have:w'.heap.setIfInBounds l.blk (.cells #[.pointer (some ⟨l.blk,0,none⟩),v] DK (0,0))=w'.heap:=by
       apply Array.ext_getElem?;intro i;rw [Array.getElem?_setIfInBounds];split
       .rename_i e;subst e;rw [hb]
       .rfl
      unfold World.putObj;rw [this]
     have A:=eD.setObj hl hm rfl rfl _ (hev _ (.inr rfl));have B:=Ev.ofObj eD hl hfl (some ⟨[.obj .bld,buf],DK,none⟩) (.cells #[.pointer (some ⟨l.blk,0,none⟩),v] DK (0,0));rw [fO] at A B;exact ⟨A,B⟩
  .cases h
 .cases h
def Xk (n:Int):List UInt8:=itoa n
def Yd (n:Int):Bool:=decide (-9223372036854775808<=n/\n<=9223372036854775807)
def OX :List B3->Option (B3×Bool)
 | [.int .i64 n]=>some (.str (Xk n),Yd n)
 | _=>none
theorem w4f (w:World) (k:Nat) (os:Array Obj):RowKit.Below w.heap.size w (grow (w.drewN k) os):=
 ⟨rfl,rfl,rfl,by show _<=(w.heap++os).size;rw [Array.size_append];exact Nat.le_add_right _ _,fun k hk=>by show (w.heap++os)[k]? =_;rw [Array.getElem?_append_left hk]⟩
theorem v5o {H:Dv} {w:World} (hH: ∀k o,H k=some o->w.heap[k]? =some o) (hG:Glob H):Lib.TabIs prog w "internal/strconv.uint64pow10" .u64 Lib.pow10Tab:=by
 obtain ⟨el,fz,e⟩:=hG.pow (gpow.headD 0) (by decide);have h:prog.globalNamed "internal/strconv.uint64pow10" =some (gpow.headD 0):=by kernel_rfl
 unfold Lib.TabIs World.var?;rw [h];show (match w.heap[gpow.headD 0]? with | some (.cells cs _ _)=>some cs | _=>none)=_;rw [hH _ _ e];show some pow10A=_;unfold pow10A Lib.pow10Tab;rw [List.map_map];rfl
theorem Nh :Pq prog TK OX:=QW fun args v hv H vals w eG hH hG=>by
 unfold OX at hv;split at hv
 .rename_i n;simp only [Ae,Ac] at hv;obtain ⟨rfl,ho⟩:=hv;have ho: -9223372036854775808<=n/\n<=9223372036854775807:=Av ho;obtain rfl:vals= #[.int .i64 n]:=by
   obtain ⟨vl⟩:=vals;cases eG with
   | cons h1 h2=>cases h2;cases h1;rfl
  refine (Any.strconv_Itoa Tryz.laysM171 n ho.1 ho.2 w (v5o hH hG)).mono fun e w' ⟨he,k,os,hw⟩=>⟨_,he,.str _,?_⟩
  subst hw;exact w4f w k os
 .cases hv
def Zi (s sep:List UInt8):List (List UInt8):=split s sep
def Jp (s sep:List UInt8):Bool:=Nat.beq sep.length 1&&decide (s.length<4294967281)
def OF :List B3->Option (B3×Bool)
 | [.str s,.str sep]=>some (.dat (Zi s sep).length (Zz (Zi s sep)),Jp s sep)
 | _=>none
theorem MO :Pq prog SP OF:=by
 intro args v hv H vals w eG hH hG;unfold OF at hv;split at hv
 .rename_i s sep;simp only [Ae,Ac] at hv;obtain ⟨rfl,ho⟩:=hv;unfold Jp at ho;rw [Ad] at ho;have h1:=Ah ho.1;have h2:s.length<4294967281:=Av ho.2;obtain ⟨b,rfl⟩: ∃b,sep=[b]:=by
   match sep,h1 with
   | [b],_=>exact ⟨b,rfl⟩
  obtain rfl:vals= #[.string ⟨s.toArray⟩,.string ⟨#[b]⟩]:=by
   obtain ⟨vl⟩:=vals;cases eG with
   | cons h1 h2=>cases h2 with
    | cons h2 h3=>cases h3;cases h1;cases h2;rfl
  refine (u0h Tryz.lays146 (by kernel_rfl) ⟨s.toArray⟩ b w (by simpa [ByteArray.size] using h2)).mono fun e w' ⟨he,hw⟩=> ?_;subst hw;have hd:=Lib.splitB_data ⟨#[b]⟩ 0 (Lib.countB ⟨s.toArray⟩ ⟨#[b]⟩) ⟨s.toArray⟩;have hs:(Lib.splitB ⟨#[b]⟩ 0 (Lib.countB ⟨s.toArray⟩ ⟨#[b]⟩) ⟨s.toArray⟩).map (·.data.toList)=Zi s [b]:=hd;generalize hB:Lib.splitB ⟨#[b]⟩ 0 (Lib.countB ⟨s.toArray⟩ ⟨#[b]⟩) ⟨s.toArray⟩=B at he hs;have eE:B.length=Lib.countB ⟨s.toArray⟩ ⟨#[b]⟩+1:=by rw [<-hB];exact Lib.splitB_all ⟨#[b]⟩ (An 1) 0 _ _ rfl
  have hlenV:(Zi s [b]).length =B.length:=by rw [<-hs,Bs]
  have hnone:H w.heap.size=none:=by
   cases hh:H w.heap.size with
   | none=>rfl
   | some o=>exact absurd (AB.1 (hH _ _ hh)).1 (Nat.lt_irrefl _)
  refine ⟨fun k=>if k=w.heap.size then some (.cells (B.map Value.string).toArray (Tryz.lays146_ren.t 9) (0,0)) else H k,_,fun k o hk=> ?_,fun k o hk=> ?_,fun k hk=>Az (Bi hk),he,?_,?_⟩
  .exact (Az (by intro e;rw [e,hnone] at hk;cases hk)).trans hk
  .dsimp only at hk;split at hk
   .rename_i e;subst e;rw [<-hk];exact World.alloc_heap_new _ _
   .rename_i e;rw [RowKit.Below.heap_alloc _ _ _ (AB.1 (hH _ _ hk)).1];exact hH _ _ hk
  .rw [<-eE,hlenV];have fI: ∀i,(hi:i<B.length)->Zz (Zi s [b]) i=[.str B[i].data.toList]:=fun i hi=>by
    show Xu.cells (rd (Zi s [b]) i)=_;have:rd (Zi s [b]) i=B[i].data.toList :=by rw [Wb (by rw [hlenV];exact hi)];simp only [<-hs,BK]
    rw [this];rfl
   refine .dat B.length _ w.heap.size 0 1 B.length (fun i _=>.string (B.getD i ByteArray.empty)) (An _) (fun i hi=>by rw [fI i hi];rfl) (fun i j hi hj=> ?_) fun i j hi hj=> ?_
   .have e:=fI i hi;have hj0:j=0:=by rw [e] at hj;exact Nat.lt_one_iff.1 hj
    subst hj0;simp only [e,List.getElem_cons_zero];rw [Bc,As hi];exact .str _
   .have hj0:j=0:=Nat.lt_one_iff.1 hj;subst hj0;refine ⟨_,_,_,AG rfl,?_⟩;simp [As hi]
  .exact (RowKit.Below.refl _ w).alloc (An _) _
 .cases hv
def Za (s:List UInt8):Int:=match atoiAll s with
 | .ok v=>v
 | .range =>atoiSat s
 | _=>0
def Ja (s:List UInt8):Bool:=match atoiAll s with
 | .ok _=>true
 | _=>false
def Wq (s:List UInt8):Bool:=decide (s.length<=281474976710656)
def Oa :List B3->Option (B3×Bool)
 | [.str s]=>some (.tup [.int .i64 (Za s),.ifb (Ja s)],Wq s)
 | _=>none
theorem ML {ρ:B7} {a b:B3} {u v:Value} (h1:Zr ρ a u) (h2:Zr ρ b v):Zr ρ (.tup [a,b]) (.tuple #[u,v]):=.tup _ _ rfl fun i h h'=>by
 match i,h with
 | 0,_=>exact h1
 | 1,_=>exact h2
theorem w7i {H:Dv} {w:World} (hH: ∀k o,H k=some o->w.heap[k]? =some o) (hG:Glob H) {g:Nat} (hg:g∈globs): ∃ev,w.cell? ⟨g,0,none⟩=some ev/\(ev=.nilIface \/ ∃te pe,ev=.iface te pe):=by obtain ⟨v,⟨cs,el,fz,e1,e2⟩,h⟩:=hG.err g hg;exact ⟨v,by simp [World.cell?,hH _ _ e1,e2],h⟩
theorem w4g (w:World) (t:TypeId) (s:ByteArray):RowKit.Below w.heap.size w (bytesWorld w t s):=by
 refine ⟨?_,?_,?_,?_,fun k hk=> ?_⟩ <;> (unfold bytesWorld World.freeze;split)
 .rfl
 .rfl
 .rfl
 .rfl
 .rfl
 .rfl
 .simp [World.alloc]
 .simp [World.alloc]
 .simp [World.alloc,BS,Bi hk];rfl
 .simp [World.alloc,BE,BS,Bi hk,Ne.symm (Bi hk)];rfl
theorem Ol :Pq prog Tg Oa:=QW fun args v hv H vals w eG hH hG=>by
 unfold Oa at hv;split at hv
 .rename_i s;simp only [Ae,Ac] at hv;obtain ⟨rfl,ho⟩:=hv;have ho:s.length<=281474976710656:=Av ho;have hsz:(⟨s.toArray⟩:ByteArray).size =s.length:=by simp [ByteArray.size]
  obtain rfl:vals= #[.string ⟨s.toArray⟩]:=by
   obtain ⟨vl⟩:=vals;cases eG with
   | cons h1 h2=>cases h2;cases h1;rfl
  cases hA:atoiAll s
  .rename_i v;refine (Any.strconv_Atoi_ok Tryz.laysC172 ⟨s.toArray⟩ (by omega) v hA w).mono fun e w' ⟨he,hw⟩=>⟨_,he,?_,?_⟩
   .unfold Za Ja;rw [hA];exact ML (.int _ _) .ifbt
   .rcases hw with rfl | ⟨t,rfl⟩
    .exact RowKit.Below.refl _ _
    .exact w4g _ _ _
  .obtain ⟨ev,h1,h2⟩:=w7i hH hG (show Tryz.laysC172_ren.g 15∈globs by decide);refine (Any.strconv_Atoi_syntax Tryz.laysC172 ⟨s.toArray⟩ (by omega) hA ev w h1 h2).mono fun e w' ⟨N,he,_,_,hw⟩=>⟨_,he,?_,hw⟩
   unfold Za Ja;rw [hA];exact ML (.int _ _) (.ifbf _ _)
  .obtain ⟨ev,h1,h2⟩:=w7i hH hG (show Tryz.laysC172_ren.g 16∈globs by decide);refine (Any.strconv_Atoi_range Tryz.laysC172 ⟨s.toArray⟩ (by omega) hA ev w h1 h2).mono fun e w' ⟨N,he,_,_,hw⟩=>⟨_,he,?_,hw⟩
   unfold Za Ja;rw [hA];exact ML (.int _ _) (.ifbf _ _)
 .cases hv
theorem Yb {a b:Int} (h:a<b):decide (a<b)=true:=Aa h
theorem Yt {a b:Int} (h: ¬a<b):decide (a<b)=false:=Ai h
theorem Wc {a b:Int} (h:a<=b):decide (a<=b)=true:=Aa h
theorem Fu {a b:Int} (h: ¬a<=b):decide (a<=b)=false:=Ai h
theorem Xv {a b:Int} (h:a>b):decide (a>b)=true:=Aa h
theorem Wz {a b:Int} (h: ¬a>b):decide (a>b)=false:=Ai h
theorem EK {a b:Int} (h:a>=b):decide (a>=b)=true:=Aa h
theorem F6 {a b:Int} (h: ¬a>=b):decide (a>=b)=false:=Ai h
theorem Xc {a b:Nat} (h:a<b):decide (a<b)=true:=Aa h
theorem Xi {a b:Nat} (h:a<=b):decide (a<=b)=true:=Aa h
theorem Xn {a b:Nat} (h:a=b):decide (a=b)=true:=Aa h
theorem Ym {a b:Int} (h:0<=a/\a<b):decide (0<=a/\a<b)=true:=Aa h
theorem Yf {a:Nat} (h:a<=1099511627776):decide (a<=Ve)=true:=Aa h
theorem Zm {n:Int} (h: -9223372036854775808<=n/\n<=9223372036854775807):wrap .i64 n=n:=w_in h.1 h.2
theorem HM :((0:Nat):Int)=0:=rfl
theorem Zk (i:Nat):(i:Int)+1=((i+1:Nat):Int):=rfl
theorem Yy (i:Nat):((i+1:Nat):Int) - 1=(i:Int):=by omega
theorem Qu {a b:Int} (h:a≠b):(a != b)=true:=by simp [h]
theorem Jd {a b:Int} (h:a=b):(a != b)=false:=by simp [h]
theorem Lf {a b:Int} (h:a=b):(a == b)=true:=by simp [h]
theorem P9 {a b:Int} (h:a≠b):(a == b)=false:=by simp [h]
theorem Xr (n:Nat):Nat.beq n n=true:=BC n
theorem Zj (n:Nat):Int.toNat (n:Int)=n:=Int.toNat_natCast n
theorem Vr (b:Bool):b=true\/b=false:=by cases b <;> simp
theorem Xx {α:Type} [Xu α] {L:List α} {i:Nat} (h:i<L.length):L.drop i=rd L i::L.drop (i+1):=by rw [Wb h];exact AW h
theorem CS {P:Program} {S:B6} (hS:Zv P S) {f:FuncId} {F:List B3->Option (B3×Bool)} (hf:(P.funcs[f]?).any (fun fn=>fn.body.isSome)=true)
  (hF: ∀args v,F args=some (v,true)-> ∃bs vs,Vo DL args bs/\Js vs=v/\Kj P (Zy P f) (Zg P f bs true []) vs/\ ∃d,pf d v=true):Zv P (S.with f F):=w7u hS hf hF
abbrev Q6 (v3:List Int) (v5:Int) (l0:List Int) (v4:Int):=((GA (v3++[0]) (0+(tn (wr (v5+1)))) (Nat.min ((v3.length+1) - (tn v5)) ((v3.length+1) - (tn (wr (v5+1))))) (Vf (v3++[0]) (0+(tn v5)) ((v3.length+1) - (tn v5)))).set (0+(tn v5)) (rd l0 (tn v4)))
abbrev Q7 (v5:List R2) (l0:List Int) (v6:Int):=(v5++[(R2.mk (rd l0 (tn v6)) (rd l0 (tn (wr (v6+1)))))])
abbrev ZN (v5:List R4) (l0:List R6) (v6:Int):=(v5++[(R4.mk (rd l0 (tn v6)).a (rd l0 (tn v6)).b (rd l0 (tn v6)).d (rd l0 (tn v6)).e)])
abbrev G6 (v3:List Int):=(Zo (Zz v3) 0 v3.length 1 [(ii 0)])
abbrev WC (v5:List R2) (l0:List Int) (v6:Int):=(Zo (Zz v5) 0 v5.length 2 [(ii (rd l0 (tn v6))),(ii (rd l0 (tn (wr (v6+1)))))])
abbrev WD (v3:List Int) (v5:Int):=(Nat.min ((v3.length+1) - (tn v5)) ((v3.length+1) - (tn (wr (v5+1)))))
inductive Dl where
 | h0 (v3:List Int) (v4:Int)
 | h1 (v3:List Int) (v4:Int) (v5:Int)
def v4h (l0:List Int):Dl->CG
 | .h0 v3 v4=>⟨⟨63,0,true⟩,none,(Zf prog 180 [1,1,0,1,0,0] 0),none,(Zy prog 9),⟨Ye [(0,(.dat l0.length (Zz l0))),(3,(.sla 0 1 0 v3.length (.un 1))),(4,(ii v4))],Xs [⟨rows v3.length (Zz v3),3,some ⟨1,v3.length,(Zz v3)⟩⟩] 0,1,[],true⟩,[],.leaf⟩
 | .h1 v3 v4 v5=>⟨⟨63,0,true⟩,none,(Zf prog 180 [1,1,0,1,0,0,1,0,0,1,0,0,0] 0),none,(Zy prog 9),⟨Ye [(0,(.dat l0.length (Zz l0))),(3,(.sla 0 1 0 v3.length (.un 1))),(4,(ii v4)),(5,(ii v5))],Xs [⟨rows v3.length (Zz v3),3,some ⟨1,v3.length,(Zz v3)⟩⟩] 0,1,[],true⟩,[],.leaf⟩
def WR :List (Option (List Nat)):=[some [0,3,4]]
def WQ :List (Option (List Nat)):=[]
def v4f :List (Option (List Nat)):=[some [0,3,4,5]]
def v4g :List (Option (List Nat)):=[]
def Ur (l0:List Int):Dl->Xj Dl
 | .h0 v3 v4=>(bif (decide (v4<(l0.length:Int))) then (.to (.h1 v3 v4 (v3.length:Int))) else (.ret [(.dat v3.length (Zz v3))]))
 | .h1 v3 v4 v5=>(bif (decide (v5>0)) then (bif ((decide (0<=(wrap .i64 (v5 - 1))/\(wrap .i64 (v5 - 1))<(v3.length:Int)))&&true) then (bif (decide ((0+(Int.toNat (wrap .i64 (v5 - 1))))<v3.length)) then (bif ((decide (0<=v4/\v4<(l0.length:Int)))&&true) then (bif (decide ((rd v3 (0+(Int.toNat (wrap .i64 (v5 - 1)))))>(rd l0 v4.toNat))) then (.to (.h1 v3 v4 (wrap .i64 (v5 - 1)))) else (bif ((rd v3 (0+(Int.toNat (wrap .i64 (v5 - 1))))) == (rd l0 v4.toNat)) then (.to (.h0 v3 (wrap .i64 (v4+1)))) else (bif (Nat.beq 1 1&&((decide (0+v3.length=v3.length))&&decide ((v3.length+1+1)*(8+1)<=Ve))) then (bif (true&&((decide (0<=(wrap .i64 (v5+1))))&&(decide ((v3.length+1)<=(v3.length+1))&&decide ((Int.toNat (wrap .i64 (v5+1)))<=(v3.length+1))))) then (bif (true&&((decide (0<=v5))&&(decide ((v3.length+1)<=(v3.length+1))&&decide (v5.toNat<=(v3.length+1))))) then (bif (decide ((0+v5.toNat)+((v3.length+1) - v5.toNat)<=(v3.length+1))) then (bif (decide ((0+(Int.toNat (wrap .i64 (v5+1))))+((v3.length+1) - (Int.toNat (wrap .i64 (v5+1))))<=(v3.length+1))) then (bif ((decide (0<=v5/\v5<(((v3.length+1):Nat):Int)))&&true) then (bif (decide ((0+v5.toNat)<(v3.length+1))) then (.to (.h0 ((GA (v3++[0]) (0+(Int.toNat (wrap .i64 (v5+1)))) (Nat.min ((v3.length+1) - v5.toNat) ((v3.length+1) - (Int.toNat (wrap .i64 (v5+1))))) (Vf (v3++[0]) (0+v5.toNat) ((v3.length+1) - v5.toNat))).set (0+v5.toNat) (rd l0 v4.toNat)) (wrap .i64 (v4+1)))) else .stuck) else .stuck) else .stuck) else .stuck) else .stuck) else .stuck) else .stuck))) else .stuck) else .stuck) else .stuck) else (bif (Nat.beq 1 1&&((decide (0+v3.length=v3.length))&&decide ((v3.length+1+1)*(8+1)<=Ve))) then (bif (true&&((decide (0<=(wrap .i64 (v5+1))))&&(decide ((v3.length+1)<=(v3.length+1))&&decide ((Int.toNat (wrap .i64 (v5+1)))<=(v3.length+1))))) then (bif (true&&((decide (0<=v5))&&(decide ((v3.length+1)<=(v3.length+1))&&decide (v5.toNat<=(v3.length+1))))) then (bif (decide ((0+v5.toNat)+((v3.length+1) - v5.toNat)<=(v3.length+1))) then (bif (decide ((0+(Int.toNat (wrap .i64 (v5+1))))+((v3.length+1) - (Int.toNat (wrap .i64 (v5+1))))<=(v3.length+1))) then (bif ((decide (0<=v4/\v4<(l0.length:Int)))&&true) then (bif ((decide (0<=v5/\v5<(((v3.length+1):Nat):Int)))&&true) then (bif (decide ((0+v5.toNat)<(v3.length+1))) then (.to (.h0 ((GA (v3++[0]) (0+(Int.toNat (wrap .i64 (v5+1)))) (Nat.min ((v3.length+1) - v5.toNat) ((v3.length+1) - (Int.toNat (wrap .i64 (v5+1))))) (Vf (v3++[0]) (0+v5.toNat) ((v3.length+1) - v5.toNat))).set (0+v5.toNat) (rd l0 v4.toNat)) (wrap .i64 (v4+1)))) else .stuck) else .stuck) else .stuck) else .stuck) else .stuck) else .stuck) else .stuck) else .stuck))
def UO (l0:List Int):Xj Dl:=(.to (.h0 ([]:List Int) 0))
theorem x6f (l0:List Int): ∀s,Wp prog (Zy prog 180) (v4h l0) (v4h l0 s) (Ur l0 s)
 | .h0 v3 v4=>(lb (fun k0=>(sl Zq 21 [] ⟨[0],[],v4f,v4g⟩ b7 [true] (pp (fl v3 nn) (tt k0 nn)))) (fun k0=>(lr 63 3 [1,1,1,1,1,1,0] 1 9 [(2,(.dat v3.length (Zz v3)))] (sl Zq 15 [] ⟨[],[0],[some [2]],[]⟩ ⟨[(2,.frz v3.length v3.length (Zz v3) (Zz v3))],[],[]⟩ [false] (pp (xZ (DW 1 1 0 v3.length v3.length (Zz v3)) v3.length (Zz v3)) (pp (xL v3.length v3.length) (pp (xS v3.length (Zz v3) (Zz v3)) (pp (fl v3 nn) (tt k0 nn)))))))))
 | .h1 v3 v4 v5=>let a:=Q6 v3 v5 l0 v4;(lb (fun k0=>(lo fun aG=>(lo fun aU=>(lo fun cI=>let g:=ww cI (ww aU (ww aG (tt k0 nn)));(lb (fun k1=>(sl Zq 13 [] ⟨[0],[],v4f,v4g⟩ b7 (CE 11 []) (pp (fl v3 nn) (tt k1 g)))) (fun k1=>let b:=ww cI (ww aU (ww aG (tt k0 (tt k1 g))));(lb (fun k2=>(sl Zq 16 [] ⟨[0],[],WR,WQ⟩ b7 (CE 10 (bl 12 4094)) (pp (fl v3 nn) (tt k2 b)))) (fun k2=>(lo fun o0=>(lo fun o1=>(lo fun o2=>(lo fun o3=>(lo fun o4=>(lo fun o5=>(lo fun o6=>let c:=xG (Nat.beq 1 1);let e:=xL (v3.length+1) (Q6 v3 v5 l0 v4).length;(sl Zq 36 [] ⟨[2],[],WR,WQ⟩ ⟨[(3,.len a.length)],[.rowed 1 a.length (Zz a)],[]⟩ (CE 10 (bl 12 2046)) (pp e (pp e (pp (xS (v3.length+1) (Xw (Ut (G6 v3) (0+(tn (wr (v5+1)))) (WD v3 v5) (fun k=>(G6 v3) ((0+(tn v5))+k))) (0+(tn v5)) 0 [(ii (rd l0 (tn v4)))]) (Zz (Q6 v3 v5 l0 v4))) (pp (pp (xF (Xw (Ut (G6 v3) (0+(tn (wr (v5+1)))) (WD v3 v5) (fun k=>(G6 v3) ((0+(tn v5))+k))) (0+(tn v5)) 0 [(ii (rd l0 (tn v4)))])) nn) (ww o6 (ww o5 (ww cI (pp (pp c (pp c (pp (xw o4) (pp c (pp c (pp (xG (decide ((0+(tn v5))+((v3.length+1) - (tn v5))<=(v3.length+1)))) (xG (Kt 1 ((v3.length+1) - (tn v5)) (fun k=>(G6 v3) ((0+(tn v5))+k)))))))))) (ww o2 (ww o1 (ww o0 (tt k2 b)))))))))))))))))))))))))))) (fun k0=>(lo fun o0=>(lo fun o1=>(lo fun o2=>(lo fun o3=>(lo fun o4=>(lo fun o5=>(lo fun o6=>(lo fun o7=>let d:=xG (Nat.beq 1 1);let f:=xL (v3.length+1) (Q6 v3 v5 l0 v4).length;(sl Zq 36 [] ⟨[2],[],WR,WQ⟩ ⟨[(3,.len a.length)],[.rowed 1 a.length (Zz a)],[]⟩ (bl 22 0) (pp f (pp f (pp (xS (v3.length+1) (Xw (Ut (G6 v3) (0+(tn (wr (v5+1)))) (WD v3 v5) (fun k=>(G6 v3) ((0+(tn v5))+k))) (0+(tn v5)) 0 [(ii (rd l0 (tn v4)))]) (Zz (Q6 v3 v5 l0 v4))) (pp (pp (xF (Xw (Ut (G6 v3) (0+(tn (wr (v5+1)))) (WD v3 v5) (fun k=>(G6 v3) ((0+(tn v5))+k))) (0+(tn v5)) 0 [(ii (rd l0 (tn v4)))])) nn) (ww o7 (ww o6 (ww o5 (pp (pp d (pp d (pp (xw o4) (pp d (pp d (pp (xG (decide ((0+(tn v5))+((v3.length+1) - (tn v5))<=(v3.length+1)))) (xG (Kt 1 ((v3.length+1) - (tn v5)) (fun k=>(G6 v3) ((0+(tn v5))+k)))))))))) (ww o2 (ww o1 (ww o0 (tt k0 (tt k0 nn))))))))))))))))))))))))
theorem x2y (l0:List Int):Wp prog (Zy prog 180) (v4h l0) (Zg prog 180 [(.dat l0.length (Zz l0))] true []) (UO l0):=(sl Zq 15 [(3,1,Zz ([]:List Int))] ⟨[0],[],WR,WQ⟩ ⟨[(3,.grow 0 1)],[],[]⟩ [] (pp (fl ([]:List Int) nn) nn))
theorem w8v (l0:List Int) (n:Nat) (vs:List B3) (h:Yw (Ur l0) n (UO l0)=.ret vs):Kj prog (Zy prog 180) (Zg prog 180 [(.dat l0.length (Zz l0))] true []) vs:=by have:=Ze (x6f l0) n _ (x2y l0);rwa [h] at this
inductive En where
 | h0 (v5:List R2) (v6:Int)
def j1q (l0:List Int) (l1:List Bool):En->CG
 | .h0 v5 v6=>⟨⟨61,0,true⟩,none,(Zf prog 185 [1,1,0,1,0,0] 0),none,(Zy prog 3),⟨Ye [(0,(.dat l0.length (Zz l0))),(1,(.dat l1.length (Zz l1))),(5,(.sla 0 2 0 v5.length (.un 2))),(6,(ii v6))],Xs [⟨rows v5.length (Zz v5),260,some ⟨2,v5.length,(Zz v5)⟩⟩] 0,1,[],true⟩,[],.leaf⟩
def Rl :List (Option (List Nat)):=[some [0,1,5,6]]
def Rk :List (Option (List Nat)):=[]
def HB (l0:List Int) (l1:List Bool):En->Xj En
 | .h0 v5 v6=>(bif (decide ((wrap .i64 (v6+1))<(l0.length:Int))) then (bif ((decide (0<=v6/\v6<(l1.length:Int)))&&true) then (bif (!(rd l1 v6.toNat)) then (.to (.h0 v5 (wrap .i64 (v6+1)))) else (bif (decide ((v5.length:Int)>0)) then (bif ((decide (0<=(wrap .i64 ((v5.length:Int) - 1))/\(wrap .i64 ((v5.length:Int) - 1))<(v5.length:Int)))&&true) then (bif (decide ((0+(Int.toNat (wrap .i64 ((v5.length:Int) - 1))))<v5.length)) then (bif ((decide (0<=v6/\v6<(l0.length:Int)))&&true) then (bif ((rd v5 (0+(Int.toNat (wrap .i64 ((v5.length:Int) - 1))))).b == (rd l0 v6.toNat)) then (bif ((decide (0<=(wrap .i64 (v6+1))/\(wrap .i64 (v6+1))<(l0.length:Int)))&&true) then (.to (.h0 (v5.set (0+(Int.toNat (wrap .i64 ((v5.length:Int) - 1)))) (R2.mk (rd v5 (0+(Int.toNat (wrap .i64 ((v5.length:Int) - 1))))).a (rd l0 (Int.toNat (wrap .i64 (v6+1)))))) (wrap .i64 (v6+1)))) else .stuck) else (bif ((decide (0<=(wrap .i64 (v6+1))/\(wrap .i64 (v6+1))<(l0.length:Int)))&&true) then (bif (Nat.beq 2 2&&((decide (0+v5.length=v5.length))&&decide ((v5.length+1+1)*(16+1)<=Ve))) then (.to (.h0 (v5++[(R2.mk (rd l0 v6.toNat) (rd l0 (Int.toNat (wrap .i64 (v6+1)))))]) (wrap .i64 (v6+1)))) else .stuck) else .stuck)) else .stuck) else .stuck) else .stuck) else (bif ((decide (0<=v6/\v6<(l0.length:Int)))&&true) then (bif ((decide (0<=(wrap .i64 (v6+1))/\(wrap .i64 (v6+1))<(l0.length:Int)))&&true) then (bif (Nat.beq 2 2&&((decide (0+v5.length=v5.length))&&decide ((v5.length+1+1)*(16+1)<=Ve))) then (.to (.h0 (v5++[(R2.mk (rd l0 v6.toNat) (rd l0 (Int.toNat (wrap .i64 (v6+1)))))]) (wrap .i64 (v6+1)))) else .stuck) else .stuck) else .stuck))) else .stuck) else (.ret [(.dat v5.length (Zz v5))]))
def Tx (l0:List Int) (l1:List Bool):Xj En:=(.to (.h0 ([]:List R2) 0))
theorem w1f (l0:List Int) (l1:List Bool): ∀s,Wp prog (Zy prog 185) (j1q l0 l1) (j1q l0 l1 s) (HB l0 l1 s)
 | .h0 v5 v6=>(lb (fun k0=>(lo fun aG=>let h:=ww aG (tt k0 nn);(lb (fun k1=>(sl Zq 30 [] ⟨[0],[],Rl,Rk⟩ b7 (bl 2 3) (pp (fl v5 nn) (tt k1 h)))) (fun k1=>let d:=Q7 v5 l0 v6;(lb (fun k2=>(lo fun cS=>(lo fun dU=>(lo fun dZ=>let e:=ww dZ (ww dU (ww cS (tt k2 (tt k1 h))));(lb (fun k3=>(lo fun o0=>let i:=tn (wr ((v5.length:Int) - 1));let b:=v5.set (0+i) (R2.mk (rd v5 (0+i)).a (rd l0 (tn (wr (v6+1)))));let c:=xL v5.length (v5.set (0+(tn (wr ((v5.length:Int) - 1)))) (R2.mk (rd v5 (0+(tn (wr ((v5.length:Int) - 1))))).a (rd l0 (tn (wr (v6+1)))))).length;(sl Zq 53 [] ⟨[0],[],Rl,Rk⟩ ⟨[(5,.len b.length)],[.rowed 2 b.length (Zz b)],[]⟩ (bl 14 16381) (pp c (pp c (pp (xS v5.length (Xw (Zz v5) (0+(tn (wr ((v5.length:Int) - 1)))) 1 [(ii (rd l0 (tn (wr (v6+1)))))]) (Zz (v5.set (0+(tn (wr ((v5.length:Int) - 1)))) (R2.mk (rd v5 (0+(tn (wr ((v5.length:Int) - 1))))).a (rd l0 (tn (wr (v6+1)))))))) (pp (pp (xF (Xw (Zz v5) (0+(tn (wr ((v5.length:Int) - 1)))) 1 [(ii (rd l0 (tn (wr (v6+1)))))])) nn) (ww dU (ww cS (ww o0 (tt k3 e))))))))))) (fun k3=>(lo fun o0=>(lo fun o1=>let f:=xL (v5.length+1) (Q7 v5 l0 v6).length;(sl Zq 41 [] ⟨[2],[],Rl,Rk⟩ ⟨[(5,.len d.length)],[.rowed 2 d.length (Zz d)],[]⟩ (bl 14 8189) (pp f (pp f (pp (xS (v5.length+1) (WC v5 l0 v6) (Zz (Q7 v5 l0 v6))) (pp (pp (xF (WC v5 l0 v6)) nn) (ww o1 (ww o0 (ww dZ (tt k3 e))))))))))))))))) (fun k2=>(lo fun o0=>(lo fun o1=>(lo fun o2=>let g:=xL (v5.length+1) (Q7 v5 l0 v6).length;(sl Zq 41 [] ⟨[2],[],Rl,Rk⟩ ⟨[(5,.len d.length)],[.rowed 2 d.length (Zz d)],[]⟩ (bl 14 1) (pp g (pp g (pp (xS (v5.length+1) (WC v5 l0 v6) (Zz (Q7 v5 l0 v6))) (pp (pp (xF (WC v5 l0 v6)) nn) (ww o2 (ww o1 (ww o0 (tt k2 (tt k1 h))))))))))))))))))) (fun k0=>(lr 61 3 [1,1,1,1,1,1,0] 1 3 [(4,(.dat v5.length (Zz v5)))] (sl Zq 16 [] ⟨[],[0],[some [4]],[]⟩ ⟨[(4,.frz v5.length v5.length (Zz v5) (Zz v5))],[],[]⟩ [false] (pp (xZ (DW 2 2 0 v5.length v5.length (Zz v5)) v5.length (Zz v5)) (pp (xL v5.length v5.length) (pp (xS v5.length (Zz v5) (Zz v5)) (pp (fl v5 nn) (tt k0 nn)))))))))
theorem x6s (l0:List Int) (l1:List Bool):Wp prog (Zy prog 185) (j1q l0 l1) (Zg prog 185 [(.dat l0.length (Zz l0)),(.dat l1.length (Zz l1))] true []) (Tx l0 l1):=(sl Zq 15 [(260,2,Zz ([]:List R2))] ⟨[0],[],Rl,Rk⟩ ⟨[(5,.grow 0 2)],[],[]⟩ [] (pp (fl ([]:List R2) nn) nn))
theorem v5f (l0:List Int) (l1:List Bool) (n:Nat) (vs:List B3) (h:Yw (HB l0 l1) n (Tx l0 l1)=.ret vs):Kj prog (Zy prog 185) (Zg prog 185 [(.dat l0.length (Zz l0)),(.dat l1.length (Zz l1))] true []) vs:=by have:=Ze (w1f l0 l1) n _ (x6s l0 l1);rwa [h] at this
inductive H8 where
 | h0 (v5:Int)
def MY (l0:List R2) (l1:List R2):H8->CG
 | .h0 v5=>⟨⟨26,0,true⟩,none,(Zf prog 186 [1,1,0,1,0,0] 0),none,(Zy prog 3),⟨Ye [(0,(.dat l0.length (Zz l0))),(1,(.dat l1.length (Zz l1))),(5,(ii v5))],Xs [] 0,0,[],true⟩,[],.leaf⟩
def J0 :List (Option (List Nat)):=[some [0,1,5]]
def J1 :List (Option (List Nat)):=[]
def LW (l0:List R2) (l1:List R2):H8->Xj H8
 | .h0 v5=>(bif (decide (v5<(l0.length:Int))) then (bif ((decide (0<=v5/\v5<(l0.length:Int)))&&true) then (bif ((decide (0<=v5/\v5<(l1.length:Int)))&&true) then (bif (!(((rd l0 v5.toNat).a == (rd l1 v5.toNat).a)&&(((rd l0 v5.toNat).b == (rd l1 v5.toNat).b)&&true))) then (.ret [(.bool false)]) else (.to (.h0 (wrap .i64 (v5+1))))) else .stuck) else .stuck) else (.ret [(.bool true)]))
def QK (l0:List R2) (l1:List R2):Xj H8:=(bif ((l0.length:Int) != (l1.length:Int)) then (.ret [(.bool false)]) else (.to (.h0 0)))
theorem w8w (l0:List R2) (l1:List R2): ∀s,Wp prog (Zy prog 186) (MY l0 l1) (MY l0 l1 s) (LW l0 l1 s)
 | .h0 v5=>(lb (fun k0=>(lo fun aG=>(lo fun aU=>let a:=ww aU (ww aG (tt k0 nn));(lb (fun k1=>(lr 26 186 [1,1,0,1,0,0,1,0,0,1,0,0] 1 3 [(4,(.bool false))] (sl Zq 19 [] (b8 [4]) b7 (bl 2 3) (tt k1 a)))) (fun k1=>(sl Zq 23 [] ⟨[],[],J0,J1⟩ b7 (bl 2 1) (tt k1 a))))))) (fun k0=>(lr 26 3 [1,1,1,1,1,1,0] 1 3 [(4,(.bool true))] (sl Zq 14 [] (b8 [4]) b7 [false] (tt k0 nn)))))
theorem w0i (l0:List R2) (l1:List R2):Wp prog (Zy prog 186) (MY l0 l1) (Zg prog 186 [(.dat l0.length (Zz l0)),(.dat l1.length (Zz l1))] true []) (QK l0 l1):=(lb (fun k0=>(lr 26 186 [1,0,1,0,0] 1 3 [(4,(.bool false))] (sl Zq 18 [] (b8 [4]) b7 [true] (tt k0 nn)))) (fun k0=>(sl Zq 22 [] ⟨[],[],J0,J1⟩ b7 [false] (tt k0 nn))))
theorem u0q (l0:List R2) (l1:List R2) (n:Nat) (vs:List B3) (h:Yw (LW l0 l1) n (QK l0 l1)=.ret vs):Kj prog (Zy prog 186) (Zg prog 186 [(.dat l0.length (Zz l0)),(.dat l1.length (Zz l1))] true []) vs:=by have:=Ze (w8w l0 l1) n _ (w0i l0 l1);rwa [h] at this
inductive Ek where
 | h0 (v7:Int)
def j1h (l0:List R4) (x1:Int) (x2:Int):Ek->CG
 | .h0 v7=>⟨⟨48,0,true⟩,none,(Zf prog 184 [1,0,1,0,0] 0),none,(Zy prog 7),⟨Ye [(0,(.dat l0.length (Zz l0))),(1,(ii x1)),(2,(ii x2)),(7,(ii v7))],Xs [] 0,0,[],true⟩,[],.leaf⟩
def Rp :List (Option (List Nat)):=[some [0,1,2,7]]
def Ro :List (Option (List Nat)):=[]
def PL (l0:List R4) (x1:Int) (x2:Int):Ek->Xj Ek
 | .h0 v7=>(bif (decide (v7<(l0.length:Int))) then (bif ((decide (0<=v7/\v7<(l0.length:Int)))&&true) then (bif (decide ((rd l0 v7.toNat).a <=x1)) then (bif (decide (x1<(rd l0 v7.toNat).c)) then (bif (decide ((rd l0 v7.toNat).b <=x2)) then (bif (decide (x2<(rd l0 v7.toNat).d)) then (.ret [(.bool true)]) else (.to (.h0 (wrap .i64 (v7+1))))) else (.to (.h0 (wrap .i64 (v7+1))))) else (.to (.h0 (wrap .i64 (v7+1))))) else (.to (.h0 (wrap .i64 (v7+1))))) else .stuck) else (.ret [(.bool false)]))
def UD (l0:List R4) (x1:Int) (x2:Int):Xj Ek:=(.to (.h0 0))
theorem w0u (l0:List R4) (x1:Int) (x2:Int): ∀s,Wp prog (Zy prog 184) (j1h l0 x1 x2) (j1h l0 x1 x2 s) (PL l0 x1 x2 s)
 | .h0 v7=>(lb (fun k0=>(lo fun aG=>let c:=ww aG (tt k0 nn);(lb (fun k1=>let a:=ww aG (tt k1 c);(lb (fun k2=>let d:=ww aG (tt k2 a);(lb (fun k3=>let b:=ww aG (tt k3 d);(lb (fun k4=>(lr 48 184 [1,0,1,0,0,1,0,0,1,0,0] 1 7 [(6,(.bool true))] (sl Zq 54 [] (b8 [6]) b7 (CE 23 []) (tt k4 b)))) (fun k4=>(sl Zq 58 [] ⟨[],[],Rp,Ro⟩ b7 (CE 22 [false]) (tt k4 b))))) (fun k3=>(sl Zq 58 [] ⟨[],[],Rp,Ro⟩ b7 (CE 15 (bl 8 0)) (tt k3 d))))) (fun k2=>(sl Zq 58 [] ⟨[],[],Rp,Ro⟩ b7 (CE 8 (bl 15 0)) (tt k2 a))))) (fun k1=>(sl Zq 58 [] ⟨[],[],Rp,Ro⟩ b7 (bl 23 1) (tt k1 c)))))) (fun k0=>(lr 48 3 [1,1,1,1,1,1,0] 1 7 [(6,(.bool false))] (sl Zq 14 [] (b8 [6]) b7 [false] (tt k0 nn)))))
theorem x6j (l0:List R4) (x1:Int) (x2:Int):Wp prog (Zy prog 184) (j1h l0 x1 x2) (Zg prog 184 [(.dat l0.length (Zz l0)),(.int .i64 x1),(.int .i64 x2)] true []) (UD l0 x1 x2):=(sl Zq 11 [] ⟨[],[],Rp,Ro⟩ b7 [] nn)
theorem v4s (l0:List R4) (x1:Int) (x2:Int) (n:Nat) (vs:List B3) (h:Yw (PL l0 x1 x2) n (UD l0 x1 x2)=.ret vs):Kj prog (Zy prog 184) (Zg prog 184 [(.dat l0.length (Zz l0)),(.int .i64 x1),(.int .i64 x2)] true []) vs:=by have:=Ze (w0u l0 x1 x2) n _ (x6j l0 x1 x2);rwa [h] at this
inductive H7 where
 | h0 (v5:Int)
def MX (l0:List R4) (l1:List R4):H7->CG
 | .h0 v5=>⟨⟨26,0,true⟩,none,(Zf prog 151 [1,1,0,1,0,0] 0),none,(Zy prog 3),⟨Ye [(0,(.dat l0.length (Zz l0))),(1,(.dat l1.length (Zz l1))),(5,(ii v5))],Xs [] 0,0,[],true⟩,[],.leaf⟩
def JY :List (Option (List Nat)):=[some [0,1,5]]
def JZ :List (Option (List Nat)):=[]
def LX (l0:List R4) (l1:List R4):H7->Xj H7
 | .h0 v5=>(bif (decide (v5<(l0.length:Int))) then (bif ((decide (0<=v5/\v5<(l0.length:Int)))&&true) then (bif ((decide (0<=v5/\v5<(l1.length:Int)))&&true) then (bif (!(((rd l0 v5.toNat).a == (rd l1 v5.toNat).a)&&(((rd l0 v5.toNat).b == (rd l1 v5.toNat).b)&&(((rd l0 v5.toNat).c == (rd l1 v5.toNat).c)&&(((rd l0 v5.toNat).d == (rd l1 v5.toNat).d)&&true))))) then (.ret [(.bool false)]) else (.to (.h0 (wrap .i64 (v5+1))))) else .stuck) else .stuck) else (.ret [(.bool true)]))
def QL (l0:List R4) (l1:List R4):Xj H7:=(bif ((l0.length:Int) != (l1.length:Int)) then (.ret [(.bool false)]) else (.to (.h0 0)))
theorem w8u (l0:List R4) (l1:List R4): ∀s,Wp prog (Zy prog 151) (MX l0 l1) (MX l0 l1 s) (LX l0 l1 s)
 | .h0 v5=>(lb (fun k0=>(lo fun aG=>(lo fun aU=>let a:=ww aU (ww aG (tt k0 nn));(lb (fun k1=>(lr 26 151 [1,1,0,1,0,0,1,0,0,1,0,0] 1 3 [(4,(.bool false))] (sl Zq 19 [] (b8 [4]) b7 (bl 2 3) (tt k1 a)))) (fun k1=>(sl Zq 23 [] ⟨[],[],JY,JZ⟩ b7 (bl 2 1) (tt k1 a))))))) (fun k0=>(lr 26 3 [1,1,1,1,1,1,0] 1 3 [(4,(.bool true))] (sl Zq 14 [] (b8 [4]) b7 [false] (tt k0 nn)))))
theorem w0h (l0:List R4) (l1:List R4):Wp prog (Zy prog 151) (MX l0 l1) (Zg prog 151 [(.dat l0.length (Zz l0)),(.dat l1.length (Zz l1))] true []) (QL l0 l1):=(lb (fun k0=>(lr 26 151 [1,0,1,0,0] 1 3 [(4,(.bool false))] (sl Zq 18 [] (b8 [4]) b7 [true] (tt k0 nn)))) (fun k0=>(sl Zq 22 [] ⟨[],[],JY,JZ⟩ b7 [false] (tt k0 nn))))
theorem u0p (l0:List R4) (l1:List R4) (n:Nat) (vs:List B3) (h:Yw (LX l0 l1) n (QL l0 l1)=.ret vs):Kj prog (Zy prog 151) (Zg prog 151 [(.dat l0.length (Zz l0)),(.dat l1.length (Zz l1))] true []) vs:=by have:=Ze (w8u l0 l1) n _ (w0h l0 l1);rwa [h] at this
inductive Ha where
 | h0 (v5:Int)
def M0 (l0:List R6) (l1:List R6):Ha->CG
 | .h0 v5=>⟨⟨26,0,true⟩,none,(Zf prog 31 [1,1,0,1,0,0] 0),none,(Zy prog 3),⟨Ye [(0,(.dat l0.length (Zz l0))),(1,(.dat l1.length (Zz l1))),(5,(ii v5))],Xs [] 0,0,[],true⟩,[],.leaf⟩
def J6 :List (Option (List Nat)):=[some [0,1,5]]
def J7 :List (Option (List Nat)):=[]
def LV (l0:List R6) (l1:List R6):Ha->Xj Ha
 | .h0 v5=>(bif (decide (v5<(l0.length:Int))) then (bif ((decide (0<=v5/\v5<(l0.length:Int)))&&true) then (bif ((decide (0<=v5/\v5<(l1.length:Int)))&&true) then (bif (!((((rd l0 v5.toNat).a == (rd l1 v5.toNat).a)&&(((rd l0 v5.toNat).b == (rd l1 v5.toNat).b)&&(((rd l0 v5.toNat).c == (rd l1 v5.toNat).c)&&true)))&&((((rd l0 v5.toNat).d == (rd l1 v5.toNat).d)&&(((rd l0 v5.toNat).e == (rd l1 v5.toNat).e)&&(((rd l0 v5.toNat).f == (rd l1 v5.toNat).f)&&true)))&&true))) then (.ret [(.bool false)]) else (.to (.h0 (wrap .i64 (v5+1))))) else .stuck) else .stuck) else (.ret [(.bool true)]))
def QJ (l0:List R6) (l1:List R6):Xj Ha:=(bif ((l0.length:Int) != (l1.length:Int)) then (.ret [(.bool false)]) else (.to (.h0 0)))
theorem w8y (l0:List R6) (l1:List R6): ∀s,Wp prog (Zy prog 31) (M0 l0 l1) (M0 l0 l1 s) (LV l0 l1 s)
 | .h0 v5=>(lb (fun k0=>(lo fun aG=>(lo fun aU=>let a:=ww aU (ww aG (tt k0 nn));(lb (fun k1=>(lr 26 31 [1,1,0,1,0,0,1,0,0,1,0,0] 1 3 [(4,(.bool false))] (sl Zq 19 [] (b8 [4]) b7 (bl 2 3) (tt k1 a)))) (fun k1=>(sl Zq 23 [] ⟨[],[],J6,J7⟩ b7 (bl 2 1) (tt k1 a))))))) (fun k0=>(lr 26 3 [1,1,1,1,1,1,0] 1 3 [(4,(.bool true))] (sl Zq 14 [] (b8 [4]) b7 [false] (tt k0 nn)))))
theorem w0k (l0:List R6) (l1:List R6):Wp prog (Zy prog 31) (M0 l0 l1) (Zg prog 31 [(.dat l0.length (Zz l0)),(.dat l1.length (Zz l1))] true []) (QJ l0 l1):=(lb (fun k0=>(lr 26 31 [1,0,1,0,0] 1 3 [(4,(.bool false))] (sl Zq 18 [] (b8 [4]) b7 [true] (tt k0 nn)))) (fun k0=>(sl Zq 22 [] ⟨[],[],J6,J7⟩ b7 [false] (tt k0 nn))))
theorem u0t (l0:List R6) (l1:List R6) (n:Nat) (vs:List B3) (h:Yw (LV l0 l1) n (QJ l0 l1)=.ret vs):Kj prog (Zy prog 31) (Zg prog 31 [(.dat l0.length (Zz l0)),(.dat l1.length (Zz l1))] true []) vs:=by have:=Ze (w8y l0 l1) n _ (w0k l0 l1);rwa [h] at this
inductive Hl where
 | h0 (v5:List R4) (v6:Int)
def Mc (l0:List R6) (x1:Int):Hl->CG
 | .h0 v5 v6=>⟨⟨60,0,true⟩,none,(Zf prog 150 [1,1,0,1,0,0] 0),none,(Zy prog 3),⟨Ye [(0,(.dat l0.length (Zz l0))),(1,(ii x1)),(5,(.sla 0 4 0 v5.length (.un 4))),(6,(ii v6))],Xs [⟨rows v5.length (Zz v5),168,some ⟨4,v5.length,(Zz v5)⟩⟩] 0,1,[],true⟩,[],.leaf⟩
def XO :List (Option (List Nat)):=[some [0,1,5,6]]
def XN :List (Option (List Nat)):=[]
def LR (l0:List R6) (x1:Int):Hl->Xj Hl
 | .h0 v5 v6=>(bif (decide (v6<(l0.length:Int))) then (bif ((decide (0<=v6/\v6<(l0.length:Int)))&&true) then (bif (decide ((rd l0 v6.toNat).c <=x1)) then (bif (decide (x1<(rd l0 v6.toNat).f)) then (bif (Nat.beq 4 4&&((decide (0+v5.length=v5.length))&&decide ((v5.length+1+1)*(32+1)<=Ve))) then (.to (.h0 (v5++[(R4.mk (rd l0 v6.toNat).a (rd l0 v6.toNat).b (rd l0 v6.toNat).d (rd l0 v6.toNat).e)]) (wrap .i64 (v6+1)))) else .stuck) else (.to (.h0 v5 (wrap .i64 (v6+1))))) else (.to (.h0 v5 (wrap .i64 (v6+1))))) else .stuck) else (.ret [(.dat v5.length (Zz v5))]))
def VH (l0:List R6) (x1:Int):Xj Hl:=(.to (.h0 ([]:List R4) 0))
theorem w9n (l0:List R6) (x1:Int): ∀s,Wp prog (Zy prog 150) (Mc l0 x1) (Mc l0 x1 s) (LR l0 x1 s)
 | .h0 v5 v6=>(lb (fun k0=>(lo fun aG=>let f:=ww aG (tt k0 nn);(lb (fun k1=>let h:=ww aG (tt k1 f);(lb (fun k2=>(lo fun o0=>let c:=xL (v5.length+1) (ZN v5 l0 v6).length;let g:=ZN v5 l0 v6;(sl Zq 42 [] ⟨[2],[],XO,XN⟩ ⟨[(5,.len g.length)],[.rowed 4 g.length (Zz g)],[]⟩ (CE 10 []) (pp c (pp c (pp (xS (v5.length+1) (Zo (Zz v5) 0 v5.length 4 [(ii (rd l0 (tn v6)).a),(ii (rd l0 (tn v6)).b),(ii (rd l0 (tn v6)).d),(ii (rd l0 (tn v6)).e)]) (Zz (ZN v5 l0 v6))) (pp (pp (xF (Zo (Zz v5) 0 v5.length 4 [(ii (rd l0 (tn v6)).a),(ii (rd l0 (tn v6)).b),(ii (rd l0 (tn v6)).d),(ii (rd l0 (tn v6)).e)])) nn) (ww o0 (ww aG (ww aG (ww aG (ww aG (tt k2 h))))))))))))) (fun k2=>(sl Zq 42 [] ⟨[0],[],XO,XN⟩ b7 (CE 9 [false]) (pp (fl v5 nn) (tt k2 h)))))) (fun k1=>(sl Zq 42 [] ⟨[0],[],XO,XN⟩ b7 (bl 10 1) (pp (fl v5 nn) (tt k1 f))))))) (fun k0=>(lr 60 3 [1,1,1,1,1,1,0] 1 3 [(4,(.dat v5.length (Zz v5)))] (sl Zq 15 [] ⟨[],[0],[some [4]],[]⟩ ⟨[(4,.frz v5.length v5.length (Zz v5) (Zz v5))],[],[]⟩ [false] (pp (xZ (DW 4 4 0 v5.length v5.length (Zz v5)) v5.length (Zz v5)) (pp (xL v5.length v5.length) (pp (xS v5.length (Zz v5) (Zz v5)) (pp (fl v5 nn) (tt k0 nn)))))))))
theorem w1g (l0:List R6) (x1:Int):Wp prog (Zy prog 150) (Mc l0 x1) (Zg prog 150 [(.dat l0.length (Zz l0)),(.int .i64 x1)] true []) (VH l0 x1):=(sl Zq 15 [(168,4,Zz ([]:List R4))] ⟨[0],[],XO,XN⟩ ⟨[(5,.grow 0 4)],[],[]⟩ [] (pp (fl ([]:List R4) nn) nn))
theorem u1r (l0:List R6) (x1:Int) (n:Nat) (vs:List B3) (h:Yw (LR l0 x1) n (VH l0 x1)=.ret vs):Kj prog (Zy prog 150) (Zg prog 150 [(.dat l0.length (Zz l0)),(.int .i64 x1)] true []) vs:=by have:=Ze (w9n l0 x1) n _ (w1g l0 x1);rwa [h] at this
inductive IP where
 | h0 (v13:Int)
def Of (l0:List R2) (l1:List R2):IP->CG
 | .h0 v13=>⟨⟨26,0,true⟩,none,(Zf prog 203 [1,1,0,1,0,0] 0),none,(Zy prog 3),⟨Ye [(0,(.dat l0.length (Zz l0))),(1,(.dat l1.length (Zz l1))),(12,(ii (l0.length:Int))),(13,(ii v13))],Xs [] 0,0,[],true⟩,[],.leaf⟩
def LC :List (Option (List Nat)):=[some [0,1,12,13]]
def LD :List (Option (List Nat)):=[]
def LJ (l0:List R2) (l1:List R2):IP->Xj IP
 | .h0 v13=>(bif (decide (v13<(l0.length:Int))) then (bif ((decide (0<=v13/\v13<(l0.length:Int)))&&true) then (bif ((decide (0<=v13/\v13<(l1.length:Int)))&&true) then (bif (!(((rd l0 v13.toNat).a == (rd l1 v13.toNat).a)&&(((rd l0 v13.toNat).b == (rd l1 v13.toNat).b)&&true))) then (.ret [(.bool false)]) else (.to (.h0 (wrap .i64 (v13+1))))) else .stuck) else .stuck) else (.ret [(.bool true)]))
def RQ (l0:List R2) (l1:List R2):Xj IP:=(bif ((l0.length:Int) != (l1.length:Int)) then (.ret [(.bool false)]) else (.to (.h0 0)))
theorem v1p (l0:List R2) (l1:List R2): ∀s,Wp prog (Zy prog 203) (Of l0 l1) (Of l0 l1 s) (LJ l0 l1 s)
 | .h0 v13=>(lb (fun k0=>(lo fun aG=>(lo fun aU=>let a:=ww aU (ww aG (tt k0 nn));(lb (fun k1=>(lr 26 203 [1,1,0,1,0,0,1,1,0,0,1,1,0,0] 1 3 [(4,(.bool false))] (sl Zq 21 [] (b8 [4]) b7 (bl 2 3) (tt k1 a)))) (fun k1=>(sl Zq 24 [] ⟨[],[],LC,LD⟩ b7 (bl 2 1) (tt k1 a))))))) (fun k0=>(lr 26 3 [1,1,1,1,1,1,0] 1 3 [(4,(.bool true))] (sl Zq 11 [] (b8 [4]) b7 [false] (tt k0 nn)))))
theorem w3t (l0:List R2) (l1:List R2):Wp prog (Zy prog 203) (Of l0 l1) (Zg prog 203 [(.dat l0.length (Zz l0)),(.dat l1.length (Zz l1))] true []) (RQ l0 l1):=(lb (fun k0=>(lr 26 203 [1,0,1,0,0] 1 3 [(4,(.bool false))] (sl Zq 18 [] (b8 [4]) b7 [true] (tt k0 nn)))) (fun k0=>(sl Zq 24 [] ⟨[],[],LC,LD⟩ b7 [false] (tt k0 nn))))
theorem u4o (l0:List R2) (l1:List R2) (n:Nat) (vs:List B3) (h:Yw (LJ l0 l1) n (RQ l0 l1)=.ret vs):Kj prog (Zy prog 203) (Zg prog 203 [(.dat l0.length (Zz l0)),(.dat l1.length (Zz l1))] true []) vs:=by have:=Ze (v1p l0 l1) n _ (w3t l0 l1);rwa [h] at this
inductive IN where
 | h0 (v13:Int)
def Oe (l0:List R4) (l1:List R4):IN->CG
 | .h0 v13=>⟨⟨26,0,true⟩,none,(Zf prog 168 [1,1,0,1,0,0] 0),none,(Zy prog 3),⟨Ye [(0,(.dat l0.length (Zz l0))),(1,(.dat l1.length (Zz l1))),(12,(ii (l0.length:Int))),(13,(ii v13))],Xs [] 0,0,[],true⟩,[],.leaf⟩
def LA :List (Option (List Nat)):=[some [0,1,12,13]]
def LB :List (Option (List Nat)):=[]
def LK (l0:List R4) (l1:List R4):IN->Xj IN
 | .h0 v13=>(bif (decide (v13<(l0.length:Int))) then (bif ((decide (0<=v13/\v13<(l0.length:Int)))&&true) then (bif ((decide (0<=v13/\v13<(l1.length:Int)))&&true) then (bif (!(((rd l0 v13.toNat).a == (rd l1 v13.toNat).a)&&(((rd l0 v13.toNat).b == (rd l1 v13.toNat).b)&&(((rd l0 v13.toNat).c == (rd l1 v13.toNat).c)&&(((rd l0 v13.toNat).d == (rd l1 v13.toNat).d)&&true))))) then (.ret [(.bool false)]) else (.to (.h0 (wrap .i64 (v13+1))))) else .stuck) else .stuck) else (.ret [(.bool true)]))
def RR (l0:List R4) (l1:List R4):Xj IN:=(bif ((l0.length:Int) != (l1.length:Int)) then (.ret [(.bool false)]) else (.to (.h0 0)))
theorem v1o (l0:List R4) (l1:List R4): ∀s,Wp prog (Zy prog 168) (Oe l0 l1) (Oe l0 l1 s) (LK l0 l1 s)
 | .h0 v13=>(lb (fun k0=>(lo fun aG=>(lo fun aU=>let a:=ww aU (ww aG (tt k0 nn));(lb (fun k1=>(lr 26 168 [1,1,0,1,0,0,1,1,0,0,1,1,0,0] 1 3 [(4,(.bool false))] (sl Zq 21 [] (b8 [4]) b7 (bl 2 3) (tt k1 a)))) (fun k1=>(sl Zq 24 [] ⟨[],[],LA,LB⟩ b7 (bl 2 1) (tt k1 a))))))) (fun k0=>(lr 26 3 [1,1,1,1,1,1,0] 1 3 [(4,(.bool true))] (sl Zq 11 [] (b8 [4]) b7 [false] (tt k0 nn)))))
theorem w3r (l0:List R4) (l1:List R4):Wp prog (Zy prog 168) (Oe l0 l1) (Zg prog 168 [(.dat l0.length (Zz l0)),(.dat l1.length (Zz l1))] true []) (RR l0 l1):=(lb (fun k0=>(lr 26 168 [1,0,1,0,0] 1 3 [(4,(.bool false))] (sl Zq 18 [] (b8 [4]) b7 [true] (tt k0 nn)))) (fun k0=>(sl Zq 24 [] ⟨[],[],LA,LB⟩ b7 [false] (tt k0 nn))))
theorem u4n (l0:List R4) (l1:List R4) (n:Nat) (vs:List B3) (h:Yw (LK l0 l1) n (RR l0 l1)=.ret vs):Kj prog (Zy prog 168) (Zg prog 168 [(.dat l0.length (Zz l0)),(.dat l1.length (Zz l1))] true []) vs:=by have:=Ze (v1o l0 l1) n _ (w3r l0 l1);rwa [h] at this
inductive IM where
 | h0 (v13:Int)
def Od (l0:List R6) (l1:List R6):IM->CG
 | .h0 v13=>⟨⟨26,0,true⟩,none,(Zf prog 103 [1,1,0,1,0,0] 0),none,(Zy prog 3),⟨Ye [(0,(.dat l0.length (Zz l0))),(1,(.dat l1.length (Zz l1))),(12,(ii (l0.length:Int))),(13,(ii v13))],Xs [] 0,0,[],true⟩,[],.leaf⟩
def K9 :List (Option (List Nat)):=[some [0,1,12,13]]
def Kl :List (Option (List Nat)):=[]
def LL (l0:List R6) (l1:List R6):IM->Xj IM
 | .h0 v13=>(bif (decide (v13<(l0.length:Int))) then (bif ((decide (0<=v13/\v13<(l0.length:Int)))&&true) then (bif ((decide (0<=v13/\v13<(l1.length:Int)))&&true) then (bif (!((((rd l0 v13.toNat).a == (rd l1 v13.toNat).a)&&(((rd l0 v13.toNat).b == (rd l1 v13.toNat).b)&&(((rd l0 v13.toNat).c == (rd l1 v13.toNat).c)&&true)))&&((((rd l0 v13.toNat).d == (rd l1 v13.toNat).d)&&(((rd l0 v13.toNat).e == (rd l1 v13.toNat).e)&&(((rd l0 v13.toNat).f == (rd l1 v13.toNat).f)&&true)))&&true))) then (.ret [(.bool false)]) else (.to (.h0 (wrap .i64 (v13+1))))) else .stuck) else .stuck) else (.ret [(.bool true)]))
def RS (l0:List R6) (l1:List R6):Xj IM:=(bif ((l0.length:Int) != (l1.length:Int)) then (.ret [(.bool false)]) else (.to (.h0 0)))
theorem v1n (l0:List R6) (l1:List R6): ∀s,Wp prog (Zy prog 103) (Od l0 l1) (Od l0 l1 s) (LL l0 l1 s)
 | .h0 v13=>(lb (fun k0=>(lo fun aG=>(lo fun aU=>let a:=ww aU (ww aG (tt k0 nn));(lb (fun k1=>(lr 26 103 [1,1,0,1,0,0,1,1,0,0,1,1,0,0] 1 3 [(4,(.bool false))] (sl Zq 21 [] (b8 [4]) b7 (bl 2 3) (tt k1 a)))) (fun k1=>(sl Zq 24 [] ⟨[],[],K9,Kl⟩ b7 (bl 2 1) (tt k1 a))))))) (fun k0=>(lr 26 3 [1,1,1,1,1,1,0] 1 3 [(4,(.bool true))] (sl Zq 11 [] (b8 [4]) b7 [false] (tt k0 nn)))))
theorem w3q (l0:List R6) (l1:List R6):Wp prog (Zy prog 103) (Od l0 l1) (Zg prog 103 [(.dat l0.length (Zz l0)),(.dat l1.length (Zz l1))] true []) (RS l0 l1):=(lb (fun k0=>(lr 26 103 [1,0,1,0,0] 1 3 [(4,(.bool false))] (sl Zq 18 [] (b8 [4]) b7 [true] (tt k0 nn)))) (fun k0=>(sl Zq 24 [] ⟨[],[],K9,Kl⟩ b7 [false] (tt k0 nn))))
theorem u4m (l0:List R6) (l1:List R6) (n:Nat) (vs:List B3) (h:Yw (LL l0 l1) n (RS l0 l1)=.ret vs):Kj prog (Zy prog 103) (Zg prog 103 [(.dat l0.length (Zz l0)),(.dat l1.length (Zz l1))] true []) vs:=by have:=Ze (v1n l0 l1) n _ (w3q l0 l1);rwa [h] at this
inductive Hy where
def Ni (x0:Int) (x1:Bool) (x2:Bool):Hy->CG
 :=nofun
def w2w (x0:Int) (x1:Bool) (x2:Bool):Hy->Xj Hy
 :=nofun
def U9 (x0:Int) (x1:Bool) (x2:Bool):Xj Hy:=(bif (x0 == 1) then (bif x1 then (.ret [(.bool x2)]) else (.ret [(.bool false)])) else (bif (x0 == 2) then (bif x1 then (.ret [(.bool true)]) else (.ret [(.bool x2)])) else (bif x1 then (.ret [(.bool (!x2))]) else (.ret [(.bool false)]))))
theorem v0w (x0:Int) (x1:Bool) (x2:Bool): ∀s,Wp prog (Zy prog 183) (Ni x0 x1 x2) (Ni x0 x1 x2 s) (w2w x0 x1 x2 s)
 :=nofun
theorem w2x (x0:Int) (x1:Bool) (x2:Bool):Wp prog (Zy prog 183) (Ni x0 x1 x2) (Zg prog 183 [(.int .i64 x0),(.bool x1),(.bool x2)] true []) (U9 x0 x1 x2):=(lb (fun k0=>(lb (fun k1=>(lr 24 183 [1,0,1,0,0] 1 7 [(6,(.bool x2))] (sl Zq 19 [] (b8 [6]) b7 (bl 2 3) (tt k1 (tt k0 nn))))) (fun k1=>(lr 24 183 [1,0,1,0,0] 1 7 [(6,(.bool false))] (sl Zq 19 [] (b8 [6]) b7 (bl 2 1) (tt k1 (tt k0 nn))))))) (fun k0=>(lb (fun k1=>let a:=tt k1 (tt k0 nn);(lb (fun k2=>(lr 24 183 [1,1,0,1,0,0] 1 7 [(6,(.bool true))] (sl Zq 27 [] (b8 [6]) b7 (bl 3 6) (tt k2 a)))) (fun k2=>(lr 24 183 [1,1,0,1,0,0] 1 7 [(6,(.bool x2))] (sl Zq 27 [] (b8 [6]) b7 (bl 3 2) (tt k2 a)))))) (fun k1=>let b:=tt k1 (tt k0 nn);(lb (fun k2=>(lr 24 3 [1,1,1,1,1,1,0] 1 7 [(6,(.bool (!x2)))] (sl Zq 29 [] (b8 [6]) b7 (bl 4 12) (tt k2 b)))) (fun k2=>(lr 24 3 [1,1,1,1,1,1,0] 1 7 [(6,(.bool false))] (sl Zq 29 [] (b8 [6]) b7 (bl 4 0) (tt k2 b)))))))))
theorem u3u (x0:Int) (x1:Bool) (x2:Bool) (n:Nat) (vs:List B3) (h:Yw (w2w x0 x1 x2) n (U9 x0 x1 x2)=.ret vs):Kj prog (Zy prog 183) (Zg prog 183 [(.int .i64 x0),(.bool x1),(.bool x2)] true []) vs:=by have:=Ze (v0w x0 x1 x2) n _ (w2x x0 x1 x2);rwa [h] at this
inductive IC where
def Nn (x0:Bool) (x1:Bool):IC->CG
 :=nofun
def w3e (x0:Bool) (x1:Bool):IC->Xj IC
 :=nofun
def x4g (x0:Bool) (x1:Bool):Xj IC:=(.ret [(.bool x0)])
theorem v1b (x0:Bool) (x1:Bool): ∀s,Wp prog (Zy prog 229) (Nn x0 x1) (Nn x0 x1 s) (w3e x0 x1 s)
 :=nofun
theorem w3f (x0:Bool) (x1:Bool):Wp prog (Zy prog 229) (Nn x0 x1) (Zg prog 229 [(.bool x0),(.bool x1)] true []) (x4g x0 x1):=(lr 6 3 [1,1,1,1,1,1,0] 1 3 [(4,(.bool x0))] (sl Zq 9 [] (b8 [4]) b7 [] nn))
theorem u3y (x0:Bool) (x1:Bool) (n:Nat) (vs:List B3) (h:Yw (w3e x0 x1) n (x4g x0 x1)=.ret vs):Kj prog (Zy prog 229) (Zg prog 229 [(.bool x0),(.bool x1)] true []) vs:=by have:=Ze (v1b x0 x1) n _ (w3f x0 x1);rwa [h] at this
def EW (out:List Int) (x:Int):Nat->Nat
 | 0=>0
 | k+1=>bif decide (rd out k>x) then EW out x k else k+1
def D7 (out:List Int) (x:Int):List Int:=
 match EW out x out.length with
 | 0=>x::out
 | k+1=>bif rd out k == x then out else out.take (k+1)++x::out.drop (k+1)
def Ce (l:List Int):List Int:=l.foldl D7 []
def Qt (l:List Int):Bool:=decide (l.length<=1000000)
theorem y7t (out:List Int) (x:Int):(D7 out x).length <=out.length+1:=by
 grind [D7]
theorem x7y (out:List Int) (x:Int) (k:Nat) (hk:k<=out.length):
  (GA (out++[0]) (k+1) (Nat.min (out.length+1 - k) (out.length+1 - (k+1))) (Vf (out++[0]) k (out.length+1 - k))).set k x=out.take k++x::out.drop k:=by
 have hm:Nat.min (out.length+1 - k) (out.length+1 - (k+1))=out.length - k:=by
  grind
 rw [hm];apply Bo
 .simp [UQ];omega
 .intro i h1 h2;have hi:i<out.length+1:=by grind
  rw [<-Wb h1,<-Wb h2]
  grind [Ij,Wb,v4w,W9,Wl,VJ]
theorem w5h (l:List Int) (out:List Int) (i:Nat) (hi:i<l.length) (hl:l.length<=1000000) (ho:out.length<=i): ∀(k N:Nat),k<=out.length->
  (EW out (rd l i) out.length=EW out (rd l i) k)-> ∃m,∀N,Yw (Ur l) (N+m) (.to (.h1 out (i:Int) (k:Int)))=Yw (Ur l) N (.to (.h0 (D7 out (rd l i)) ((i+1:Nat):Int)))
 | 0,N,hk,hp=>by
  refine ⟨1,fun N=> ?_⟩;have hins:D7 out (rd l i)=(GA (out++[0]) (0+1) (Nat.min (out.length+1 - 0) (out.length+1 - (0+1))) (Vf (out++[0]) 0 (out.length+1 - 0))).set 0 (rd l i):=by rw [x7y out _ 0 (AF _)];unfold D7;rw [hp];rfl
  rw [hins,Zw];simp (disch:=omega) only [Ur,Yf,AA,Wz,Yb,Wc,Xc,Xi,Xn,Ym,Zm,Zk,Xr,Zj,Al,Aq,Ar,Af,Ab]
 | k +1,N,hk,hp=>by
  rcases Vr (decide (rd out k>rd l i)) with h | h
  .have hp':EW out (rd l i) out.length=EW out (rd l i) k:=by grind [EW]
   obtain ⟨m,hm⟩:=w5h l out i hi hl ho k N (by omega) hp';refine ⟨m+1,fun N=> ?_⟩;rw [<-hm N,<-AO,Zw];simp (disch:=omega) only [Ur,Yy,h,Yf,AA,Xv,Yb,Wc,Xc,Xi,Xn,Ym,Zm,Zk,Xr,Zj,Al,Aq,Ar,Af,Ab]
  .have hpk:EW out (rd l i) out.length=k+1:=by rw [hp];unfold EW;rw [h];rfl
   refine ⟨1,fun N=> ?_⟩;rw [Zw];rcases Vr (rd out k == rd l i) with q | q
   .have hins:D7 out (rd l i)=out:=(by grind [D7]);rw [hins];simp (disch:=omega) only [Ur,Yy,h,q,Yf,AA,Xv,Yb,Wc,Xc,Xi,Xn,Ym,Zm,Zk,Xr,Zj,Al,Aq,Ar,Af,Ab]
   .have hins:D7 out (rd l i)=(GA (out++[0]) (k+1+1) (Nat.min (out.length+1 - (k+1)) (out.length+1 - (k+1+1))) (Vf (out++[0]) (k+1) (out.length+1 - (k+1)))).set (k+1) (rd l i):=by
     rw [x7y out _ (k+1) hk]
     grind [D7]
    rw [hins];simp (disch:=omega) only [Ur,Yy,h,q,Yf,AA,Xv,Yb,Wc,Xc,Xi,Xn,Ym,Zm,Zk,Xr,Zj,Al,Aq,Ar,Af,Ab]
theorem w5i (l:List Int) (hl:l.length<=1000000): ∀(k i:Nat) (out:List Int),i+k=l.length->out.length<=i-> ∃m,Yw (Ur l) m (.to (.h0 out (i:Int)))=.ret [.dat ((l.drop i).foldl D7 out).length (Zz ((l.drop i).foldl D7 out))]
 | 0,i,out,h,ho=>by refine ⟨1,?_⟩;rw [Zw];simp (disch:=omega) only [Ur,Yt,Ab];rw [Aw (by omega)];rfl
 | k+1,i,out,h,ho=>by
  obtain ⟨m1,h1⟩:=w5h l out i (by omega) hl ho out.length 0 (An _) rfl;obtain ⟨m2,h2⟩:=w5i l hl k (i+1) (D7 out (rd l i)) (by omega) (AN (y7t _ _) (by omega));refine ⟨m2+m1+1,?_⟩
  grind [Zw,Ur,Xx]
theorem v4e (l:List Int) (h:Qt l=true): ∃N,Yw (Ur l) N (UO l)=.ret [.dat (Ce l).length (Zz (Ce l))]:=by
 have:=w5i l (Av h) l.length 0 [] (by omega) (An _)
 simpa [UO,Ce] using this
theorem Zs (n:Nat):Int.toNat ((n:Int) - 1)=n - 1:=by omega
theorem XK (x y:R2):((x.a == y.a)&&(x.b == y.b))=decide (x=y):=by
 obtain ⟨a,b⟩:=x;obtain ⟨c,d⟩:=y
 grind
theorem XL (x y:R4):((x.a == y.a)&&((x.b == y.b)&&((x.c == y.c)&&(x.d == y.d))))=decide (x=y):=by
 obtain ⟨a,b,c,d⟩:=x;obtain ⟨e,f,g,h⟩:=y
 grind
theorem XM (x y:R6):(((x.a == y.a)&&((x.b == y.b)&&(x.c == y.c)))&&((x.d == y.d)&&((x.e == y.e)&&(x.f == y.f))))=decide (x=y):=by
 obtain ⟨a,b,c,d,e,f⟩:=x;obtain ⟨a',b',c',d',e',f'⟩:=y
 grind
def E5 (l m:List R2):Bool:=decide (l=m)
def E6 (l m:List R4):Bool:=decide (l=m)
def EE (l m:List R6):Bool:=decide (l=m)
def Kx (l m:List R2):Bool:=decide (l.length<=1000000)
def Ky (l m:List R4):Bool:=decide (l.length<=1000000)
def Uf (l m:List R6):Bool:=decide (l.length<=1000000)
theorem PF {α:Type} [DecidableEq α] (x y:α) (l m:List α):decide (x::l=y::m)=(decide (x=y)&&decide (l=m)):=by grind
theorem u6k (l m:List R2) (hl:l.length<=1000000) (hm:l.length=m.length): ∀(k i:Nat),i+k=l.length-> ∃N,Yw (LW l m) N (.to (.h0 (i:Int)))=.ret [.bool (decide (l.drop i=m.drop i))]
 | 0,i,h=>by refine ⟨1,?_⟩;rw [Zw,Aw (show l.length<=i by omega),Aw (show m.length<=i by omega)];simp (disch:=omega) only [LW,Wz,Xv,Yb,Yt,Wc,Xc,Xi,Xn,Ym,Zm,Yf,Qu,Jd,AA,Zk,Yy,Zs,Xr,Zj,Al,Aq,Ar,Af,Ab,Ay,AD,Zh]
 | k+1,i,h=>by
  obtain ⟨N,hN⟩:=u6k l m hl hm k (i+1) (by omega);refine ⟨N+1,?_⟩;rw [Zw,Xx (show i<l.length by omega),Xx (show i<m.length by omega),PF];rcases Vr (decide (rd l i=rd m i)) with q | q
  .simp (disch:=omega) only [LW,XK,q,Wz,Xv,Yb,Yt,Wc,Xc,Xi,Xn,Ym,Zm,Yf,Qu,Jd,AA,Zk,Yy,Zs,Xr,Zj,Al,Aq,Ar,Af,Ab,Ay,AD,Zh];exact hN
  .simp (disch:=omega) only [LW,XK,q,Wz,Xv,Yb,Yt,Wc,Xc,Xi,Xn,Ym,Zm,Yf,Qu,Jd,AA,Zk,Yy,Zs,Xr,Zj,Al,Aq,Ar,Af,Ab,Ay,AD,Zh,Bb]
theorem j0p (l m:List R2) (h:Kx l m=true): ∃N,Yw (LW l m) N (QK l m)=.ret [.bool (E5 l m)]:=by
 have hl:l.length<=1000000:=Av h;by_cases hm:l.length=m.length
 .obtain ⟨N,hN⟩:=u6k l m hl hm l.length 0 (Al _);refine ⟨N,?_⟩;unfold QK;rw [Jd (show (l.length:Int)=(m.length:Nat) by omega)];exact hN
 .refine ⟨0,?_⟩;unfold QK;rw [Qu (show (l.length:Int)≠(m.length:Nat) by omega)];have:E5 l m=false:=Ai fun e=>hm (by rw [e]);rw [this];rfl
theorem u6j (l m:List R4) (hl:l.length<=1000000) (hm:l.length=m.length): ∀(k i:Nat),i+k=l.length-> ∃N,Yw (LX l m) N (.to (.h0 (i:Int)))=.ret [.bool (decide (l.drop i=m.drop i))]
 | 0,i,h=>by refine ⟨1,?_⟩;rw [Zw,Aw (show l.length<=i by omega),Aw (show m.length<=i by omega)];simp (disch:=omega) only [LX,Wz,Xv,Yb,Yt,Wc,Xc,Xi,Xn,Ym,Zm,Yf,Qu,Jd,AA,Zk,Yy,Zs,Xr,Zj,Al,Aq,Ar,Af,Ab,Ay,AD,Zh]
 | k+1,i,h=>by
  obtain ⟨N,hN⟩:=u6j l m hl hm k (i+1) (by omega);refine ⟨N+1,?_⟩;rw [Zw,Xx (show i<l.length by omega),Xx (show i<m.length by omega),PF];rcases Vr (decide (rd l i=rd m i)) with q | q
  .simp (disch:=omega) only [LX,XL,q,Wz,Xv,Yb,Yt,Wc,Xc,Xi,Xn,Ym,Zm,Yf,Qu,Jd,AA,Zk,Yy,Zs,Xr,Zj,Al,Aq,Ar,Af,Ab,Ay,AD,Zh];exact hN
  .simp (disch:=omega) only [LX,XL,q,Wz,Xv,Yb,Yt,Wc,Xc,Xi,Xn,Ym,Zm,Yf,Qu,Jd,AA,Zk,Yy,Zs,Xr,Zj,Al,Aq,Ar,Af,Ab,Ay,AD,Zh,Bb]
theorem j0o (l m:List R4) (h:Ky l m=true): ∃N,Yw (LX l m) N (QL l m)=.ret [.bool (E6 l m)]:=by
 have hl:l.length<=1000000:=Av h;by_cases hm:l.length=m.length
 .obtain ⟨N,hN⟩:=u6j l m hl hm l.length 0 (Al _);refine ⟨N,?_⟩;unfold QL;rw [Jd (show (l.length:Int)=(m.length:Nat) by omega)];exact hN
 .refine ⟨0,?_⟩;unfold QL;rw [Qu (show (l.length:Int)≠(m.length:Nat) by omega)];have:E6 l m=false:=Ai fun e=>hm (by rw [e]);rw [this];rfl
theorem u6o (l m:List R6) (hl:l.length<=1000000) (hm:l.length=m.length): ∀(k i:Nat),i+k=l.length-> ∃N,Yw (LV l m) N (.to (.h0 (i:Int)))=.ret [.bool (decide (l.drop i=m.drop i))]
 | 0,i,h=>by refine ⟨1,?_⟩;rw [Zw,Aw (show l.length<=i by omega),Aw (show m.length<=i by omega)];simp (disch:=omega) only [LV,Wz,Xv,Yb,Yt,Wc,Xc,Xi,Xn,Ym,Zm,Yf,Qu,Jd,AA,Zk,Yy,Zs,Xr,Zj,Al,Aq,Ar,Af,Ab,Ay,AD,Zh]
 | k+1,i,h=>by
  obtain ⟨N,hN⟩:=u6o l m hl hm k (i+1) (by omega);refine ⟨N+1,?_⟩;rw [Zw,Xx (show i<l.length by omega),Xx (show i<m.length by omega),PF];rcases Vr (decide (rd l i=rd m i)) with q | q
  .simp (disch:=omega) only [LV,XM,q,Wz,Xv,Yb,Yt,Wc,Xc,Xi,Xn,Ym,Zm,Yf,Qu,Jd,AA,Zk,Yy,Zs,Xr,Zj,Al,Aq,Ar,Af,Ab,Ay,AD,Zh];exact hN
  .simp (disch:=omega) only [LV,XM,q,Wz,Xv,Yb,Yt,Wc,Xc,Xi,Xn,Ym,Zm,Yf,Qu,Jd,AA,Zk,Yy,Zs,Xr,Zj,Al,Aq,Ar,Af,Ab,Ay,AD,Zh,Bb]
theorem j0t (l m:List R6) (h:Uf l m=true): ∃N,Yw (LV l m) N (QJ l m)=.ret [.bool (EE l m)]:=by
 have hl:l.length<=1000000:=Av h;by_cases hm:l.length=m.length
 .obtain ⟨N,hN⟩:=u6o l m hl hm l.length 0 (Al _);refine ⟨N,?_⟩;unfold QJ;rw [Jd (show (l.length:Int)=(m.length:Nat) by omega)];exact hN
 .refine ⟨0,?_⟩;unfold QJ;rw [Qu (show (l.length:Int)≠(m.length:Nat) by omega)];have:EE l m=false:=Ai fun e=>hm (by rw [e]);rw [this];rfl
theorem u8p (l m:List R2) (hl:l.length<=1000000) (hm:l.length=m.length): ∀(k i:Nat),i+k=l.length-> ∃N,Yw (LJ l m) N (.to (.h0 (i:Int)))=.ret [.bool (decide (l.drop i=m.drop i))]
 | 0,i,h=>by refine ⟨1,?_⟩;rw [Zw,Aw (show l.length<=i by omega),Aw (show m.length<=i by omega)];simp (disch:=omega) only [LJ,Wz,Xv,Yb,Yt,Wc,Xc,Xi,Xn,Ym,Zm,Yf,Qu,Jd,AA,Zk,Yy,Zs,Xr,Zj,Al,Aq,Ar,Af,Ab,Ay,AD,Zh]
 | k+1,i,h=>by
  obtain ⟨N,hN⟩:=u8p l m hl hm k (i+1) (by omega);refine ⟨N+1,?_⟩;rw [Zw,Xx (show i<l.length by omega),Xx (show i<m.length by omega),PF];rcases Vr (decide (rd l i=rd m i)) with q | q
  .simp (disch:=omega) only [LJ,XK,q,Wz,Xv,Yb,Yt,Wc,Xc,Xi,Xn,Ym,Zm,Yf,Qu,Jd,AA,Zk,Yy,Zs,Xr,Zj,Al,Aq,Ar,Af,Ab,Ay,AD,Zh];exact hN
  .simp (disch:=omega) only [LJ,XK,q,Wz,Xv,Yb,Yt,Wc,Xc,Xi,Xn,Ym,Zm,Yf,Qu,Jd,AA,Zk,Yy,Zs,Xr,Zj,Al,Aq,Ar,Af,Ab,Ay,AD,Zh,Bb]
theorem j5p (l m:List R2) (h:Kx l m=true): ∃N,Yw (LJ l m) N (RQ l m)=.ret [.bool (E5 l m)]:=by
 have hl:l.length<=1000000:=Av h;by_cases hm:l.length=m.length
 .obtain ⟨N,hN⟩:=u8p l m hl hm l.length 0 (Al _);refine ⟨N,?_⟩;unfold RQ;rw [Jd (show (l.length:Int)=(m.length:Nat) by omega)];exact hN
 .refine ⟨0,?_⟩;unfold RQ;rw [Qu (show (l.length:Int)≠(m.length:Nat) by omega)];have:E5 l m=false:=Ai fun e=>hm (by rw [e]);rw [this];rfl
theorem u8o (l m:List R4) (hl:l.length<=1000000) (hm:l.length=m.length): ∀(k i:Nat),i+k=l.length-> ∃N,Yw (LK l m) N (.to (.h0 (i:Int)))=.ret [.bool (decide (l.drop i=m.drop i))]
 | 0,i,h=>by refine ⟨1,?_⟩;rw [Zw,Aw (show l.length<=i by omega),Aw (show m.length<=i by omega)];simp (disch:=omega) only [LK,Wz,Xv,Yb,Yt,Wc,Xc,Xi,Xn,Ym,Zm,Yf,Qu,Jd,AA,Zk,Yy,Zs,Xr,Zj,Al,Aq,Ar,Af,Ab,Ay,AD,Zh]
 | k+1,i,h=>by
  obtain ⟨N,hN⟩:=u8o l m hl hm k (i+1) (by omega);refine ⟨N+1,?_⟩;rw [Zw,Xx (show i<l.length by omega),Xx (show i<m.length by omega),PF];rcases Vr (decide (rd l i=rd m i)) with q | q
  .simp (disch:=omega) only [LK,XL,q,Wz,Xv,Yb,Yt,Wc,Xc,Xi,Xn,Ym,Zm,Yf,Qu,Jd,AA,Zk,Yy,Zs,Xr,Zj,Al,Aq,Ar,Af,Ab,Ay,AD,Zh];exact hN
  .simp (disch:=omega) only [LK,XL,q,Wz,Xv,Yb,Yt,Wc,Xc,Xi,Xn,Ym,Zm,Yf,Qu,Jd,AA,Zk,Yy,Zs,Xr,Zj,Al,Aq,Ar,Af,Ab,Ay,AD,Zh,Bb]
theorem j5o (l m:List R4) (h:Ky l m=true): ∃N,Yw (LK l m) N (RR l m)=.ret [.bool (E6 l m)]:=by
 have hl:l.length<=1000000:=Av h;by_cases hm:l.length=m.length
 .obtain ⟨N,hN⟩:=u8o l m hl hm l.length 0 (Al _);refine ⟨N,?_⟩;unfold RR;rw [Jd (show (l.length:Int)=(m.length:Nat) by omega)];exact hN
 .refine ⟨0,?_⟩;unfold RR;rw [Qu (show (l.length:Int)≠(m.length:Nat) by omega)];have:E6 l m=false:=Ai fun e=>hm (by rw [e]);rw [this];rfl
theorem u8n (l m:List R6) (hl:l.length<=1000000) (hm:l.length=m.length): ∀(k i:Nat),i+k=l.length-> ∃N,Yw (LL l m) N (.to (.h0 (i:Int)))=.ret [.bool (decide (l.drop i=m.drop i))]
 | 0,i,h=>by refine ⟨1,?_⟩;rw [Zw,Aw (show l.length<=i by omega),Aw (show m.length<=i by omega)];simp (disch:=omega) only [LL,Wz,Xv,Yb,Yt,Wc,Xc,Xi,Xn,Ym,Zm,Yf,Qu,Jd,AA,Zk,Yy,Zs,Xr,Zj,Al,Aq,Ar,Af,Ab,Ay,AD,Zh]
 | k+1,i,h=>by
  obtain ⟨N,hN⟩:=u8n l m hl hm k (i+1) (by omega);refine ⟨N+1,?_⟩;rw [Zw,Xx (show i<l.length by omega),Xx (show i<m.length by omega),PF];rcases Vr (decide (rd l i=rd m i)) with q | q
  .simp (disch:=omega) only [LL,XM,q,Wz,Xv,Yb,Yt,Wc,Xc,Xi,Xn,Ym,Zm,Yf,Qu,Jd,AA,Zk,Yy,Zs,Xr,Zj,Al,Aq,Ar,Af,Ab,Ay,AD,Zh];exact hN
  .simp (disch:=omega) only [LL,XM,q,Wz,Xv,Yb,Yt,Wc,Xc,Xi,Xn,Ym,Zm,Yf,Qu,Jd,AA,Zk,Yy,Zs,Xr,Zj,Al,Aq,Ar,Af,Ab,Ay,AD,Zh,Bb]
theorem j5n (l m:List R6) (h:Uf l m=true): ∃N,Yw (LL l m) N (RS l m)=.ret [.bool (EE l m)]:=by
 have hl:l.length<=1000000:=Av h;by_cases hm:l.length=m.length
 .obtain ⟨N,hN⟩:=u8n l m hl hm l.length 0 (Al _);refine ⟨N,?_⟩;unfold RS;rw [Jd (show (l.length:Int)=(m.length:Nat) by omega)];exact hN
 .refine ⟨0,?_⟩;unfold RS;rw [Qu (show (l.length:Int)≠(m.length:Nat) by omega)];have:EE l m=false:=Ai fun e=>hm (by rw [e]);rw [this];rfl
def TN (x y:Int) (r:R4):Bool:=decide (r.a<=x)&&(decide (x<r.c)&&(decide (r.b<=y)&&decide (y<r.d)))
def E9 (l:List R4) (x y:Int):Bool:=l.any (TN x y)
def PV (l:List R4) (x y:Int):Bool:=decide (l.length<=1000000)
theorem v4r (l:List R4) (x y:Int) (hl:l.length<=1000000): ∀(k i:Nat),i+k=l.length-> ∃N,Yw (PL l x y) N (.to (.h0 (i:Int)))=.ret [.bool ((l.drop i).any (TN x y))]
 | 0,i,h=>by refine ⟨1,?_⟩;rw [Zw,Aw (show l.length<=i by omega)];simp (disch:=omega) only [PL,Wz,Xv,Yb,Yt,Wc,Xc,Xi,Xn,Ym,Zm,Yf,Qu,Jd,AA,Zk,Yy,Zs,Xr,Zj,Al,Aq,Ar,Af,Ab,Ay,AD,Zh];rfl
 | k+1,i,h=>by
  obtain ⟨N,hN⟩:=v4r l x y hl k (i+1) (by omega);refine ⟨N+1,?_⟩;rw [Zw,Xx (show i<l.length by omega),B2];unfold TN at hN ⊢;rcases Vr (decide ((rd l i).a <=x)) with q1 | q1 <;> rcases Vr (decide (x<(rd l i).c)) with q2 | q2 <;> rcases Vr (decide ((rd l i).b <=y)) with q3 | q3 <;> rcases Vr (decide (y<(rd l i).d)) with q4 | q4 <;>
   simp (disch:=omega) only [PL,q1,q2,q3,q4,Wz,Xv,Yb,Yt,Wc,Xc,Xi,Xn,Ym,Zm,Yf,Qu,Jd,AA,Zk,Yy,Zs,Xr,Zj,Al,Aq,Ar,Af,Ab,Ay,AD,Zh,Bb,A7,Bh,Bool.true_or] <;> exact hN
theorem u1g (l:List R4) (x y:Int) (h:PV l x y=true): ∃N,Yw (PL l x y) N (UD l x y)=.ret [.bool (E9 l x y)]:=by
 have:=v4r l x y (Av h) l.length 0 (Al _)
 simpa [UD,E9] using this
def XW (z:Int) (b:R6):Bool:=decide (b.c<=z)&&decide (z<b.f)
def j3q (b:R6):R4:=⟨b.a,b.b,b.d,b.e⟩
def CO (l:List R6) (z:Int):List R4:=(l.filter (XW z)).map j3q
def PE (l:List R6) (z:Int):Bool:=decide (l.length<=1000000)
theorem v5g (l:List R6) (z:Int) (hl:l.length<=1000000): ∀(k i:Nat) (out:List R4),i+k=l.length->out.length<=i-> ∃N,Yw (LR l z) N (.to (.h0 out (i:Int)))=.ret [.dat (out++CO (l.drop i) z).length (Zz (out++CO (l.drop i) z))]
 | 0,i,out,h,ho=>by refine ⟨1,?_⟩;rw [Zw,Aw (show l.length<=i by omega)];simp (disch:=omega) only [LR,Wz,Xv,Yb,Yt,Wc,Xc,Xi,Xn,Ym,Zm,Yf,Qu,Jd,AA,Zk,Yy,Zs,Xr,Zj,Al,Aq,Ar,Af,Ab,Ay,AD,Zh,CO,List.filter_nil,List.map_nil,AL]
 | k+1,i,out,h,ho=>by
  rw [Xx (show i<l.length by omega)];have e:CO (rd l i::l.drop (i+1)) z=(bif XW z (rd l i) then [j3q (rd l i)] else [])++CO (l.drop (i+1)) z:=by
   grind [CO]
  rw [e,<-AH];rcases Vr (decide ((rd l i).c <=z)) with q1 | q1 <;> rcases Vr (decide (z<(rd l i).f)) with q2 | q2
  .obtain ⟨N,hN⟩:=v5g l z hl k (i+1) (out++[j3q (rd l i)]) (by omega) (by simp;omega);refine ⟨N+1,?_⟩;rw [Zw];simp (disch:=omega) only [LR,q1,q2,XW,Wz,Xv,Yb,Yt,Wc,Xc,Xi,Xn,Ym,Zm,Yf,Qu,Jd,AA,Zk,Yy,Zs,Xr,Zj,Al,Aq,Ar,Af,Ab,Ay,AD,Zh];exact hN
  all_goals
   obtain ⟨N,hN⟩:=v5g l z hl k (i+1) out (by omega) (by omega);refine ⟨N+1,?_⟩;rw [Zw];simp (disch:=omega) only [LR,q1,q2,XW,Wz,Xv,Yb,Yt,Wc,Xc,Xi,Xn,Ym,Zm,Yf,Qu,Jd,AA,Zk,Yy,Zs,Xr,Zj,Al,Aq,Ar,Af,Ab,Ay,AD,Zh,Bb,A7,AL];exact hN
theorem j1r (l:List R6) (z:Int) (h:PE l z=true): ∃N,Yw (LR l z) N (VH l z)=.ret [.dat (CO l z).length (Zz (CO l z))]:=by
 have:=v5g l z (Av h) l.length 0 [] (Al _) (An _)
 simpa [VH] using this
def Fe (cuts:List Int) (ins:List Bool):Nat->Nat->List R2->List R2
 | 0,_,out=>out
 | k+1,i,out=>Fe cuts ins k (i+1) (bif rd ins i then (bif decide (0<out.length)&&((rd out (out.length - 1)).b == rd cuts i) then out.set (out.length - 1) ⟨(rd out (out.length - 1)).a,rd cuts (i+1)⟩ else out++[⟨rd cuts i,rd cuts (i+1)⟩]) else out)
def Cx (cuts:List Int) (ins:List Bool):List R2:=Fe cuts ins (cuts.length - 1) 0 []
def V4 (cuts:List Int) (ins:List Bool):Bool:=decide (cuts.length<=1000000/\cuts.length<=ins.length+1)
theorem WK (cuts:List Int) (ins:List Bool) (hl:cuts.length<=1000000) (hi:cuts.length<=ins.length+1): ∀(k i:Nat) (out:List R2),k=cuts.length - 1 - i->i<=cuts.length->out.length<=i-> ∃N,Yw (HB cuts ins) N (.to (.h0 out (i:Int)))=.ret [.dat (Fe cuts ins k i out).length (Zz (Fe cuts ins k i out))]
 | 0,i,out,h,hi2,ho=>by refine ⟨1,?_⟩;rw [Zw];simp (disch:=omega) only [HB,Wz,Xv,Yb,Yt,Wc,Xc,Xi,Xn,Ym,Zm,Yf,Qu,Jd,AA,Zk,Yy,Zs,Xr,Zj,Al,Aq,Ar,Af,Ab,Ay,AD,Zh,Fe]
 | k+1,i,out,h,hi2,ho=>by
  unfold Fe;rcases Vr (rd ins i) with q | q
  .rcases Vr (decide (0<out.length)&&((rd out (out.length - 1)).b == rd cuts i)) with q2 | q2
   .obtain ⟨N,hN⟩:=WK cuts ins hl hi k (i+1) (out.set (out.length - 1) ⟨(rd out (out.length - 1)).a,rd cuts (i+1)⟩) (by omega) (by omega) (by simp;omega);refine ⟨N+1,?_⟩;rw [Zw,q,q2];simp only [Ad,Ak] at q2;simp (disch:=omega) only [HB,q,q2.2,Wz,Xv,Yb,Yt,Wc,Xc,Xi,Xn,Ym,Zm,Yf,Qu,Jd,AA,Zk,Yy,Zs,Xr,Zj,Al,Aq,Ar,Af,Ab,Ay,AD,Zh];exact hN
   .obtain ⟨N,hN⟩:=WK cuts ins hl hi k (i+1) (out++[⟨rd cuts i,rd cuts (i+1)⟩]) (by omega) (by omega) (by simp;omega);refine ⟨N+1,?_⟩;rw [Zw,q,q2];by_cases h0:0<out.length
    .rw [Aa h0,Ar] at q2;simp (disch:=omega) only [HB,q,q2,Wz,Xv,Yb,Yt,Wc,Xc,Xi,Xn,Ym,Zm,Yf,Qu,Jd,AA,Zk,Yy,Zs,Xr,Zj,Al,Aq,Ar,Af,Ab,Ay,AD,Zh];exact hN
    .simp (disch:=omega) only [HB,q,Wz,Xv,Yb,Yt,Wc,Xc,Xi,Xn,Ym,Zm,Yf,Qu,Jd,AA,Zk,Yy,Zs,Xr,Zj,Al,Aq,Ar,Af,Ab,Ay,AD,Zh];exact hN
  .obtain ⟨N,hN⟩:=WK cuts ins hl hi k (i+1) out (by omega) (by omega) (by omega);refine ⟨N+1,?_⟩;rw [Zw,q];simp (disch:=omega) only [HB,q,Wz,Xv,Yb,Yt,Wc,Xc,Xi,Xn,Ym,Zm,Yf,Qu,Jd,AA,Zk,Yy,Zs,Xr,Zj,Al,Aq,Ar,Af,Ab,Ay,AD,Zh];exact hN
theorem u1q (cuts:List Int) (ins:List Bool) (h:V4 cuts ins=true): ∃N,Yw (HB cuts ins) N (Tx cuts ins)=.ret [.dat (Cx cuts ins).length (Zz (Cx cuts ins))]:=by
 obtain ⟨h1,h2⟩:=Av h;have:=WK cuts ins h1 h2 (cuts.length - 1) 0 [] (by omega) (AF _) (An _)
 simpa [Tx,Cx] using this
def Lk (k:Int) (a b:Bool):Bool:=bif k == 1 then a&&b else bif k == 2 then a||b else a&& !b
def Eg (a b:Bool):Bool:=a
theorem j3i (k:Int) (a b:Bool): ∃N,Yw (w2w k a b) N (U9 k a b)=.ret [.bool (Lk k a b)]:=by
 refine ⟨0,?_⟩;unfold U9 Lk;cases a <;> cases b <;> rcases Vr (k == 1) with q | q <;> rcases Vr (k == 2) with q2 | q2 <;> rw [q] <;> (try rw [q2]) <;> rfl
theorem j3n (a b:Bool): ∃N,Yw (w3e a b) N (x4g a b)=.ret [.bool (Eg a b)]:=⟨0,rfl⟩
def OD :List B3->Option (B3×Bool)
 | [a0]=>match Cc Int a0 with
  | some (L0,g0,n0)=>some (.dat (Ce L0).length (Zz (Ce L0)),CT Int n0 g0&&(Qt L0))
  | _=>none
 | _=>none
theorem j3y {S:B6} (hS:Zv prog S):Zv prog (S.with v6g OD):=by
 refine CS hS (by kernel_rfl) fun args v h=> ?_;unfold OD at h;split at h
 .rename_i a0;split at h
  .rename_i L0 g0 n0 e0;simp only [Ae,Ac,Ad] at h;obtain ⟨rfl,ho0,hw⟩:=h;obtain ⟨N,hN⟩:=v4e L0 hw;exact ⟨_,_,(.cons (Xh e0 ho0) .nil),rfl,w8v L0 N _ hN,3,rfl⟩
  .cases h
 .cases h
def O9 :List B3->Option (B3×Bool)
 | [a0,a1]=>match Cc Int a0,Cc Bool a1 with
  | some (L0,g0,n0),some (L1,g1,n1)=>some (.dat (Cx L0 L1).length (Zz (Cx L0 L1)),CT Int n0 g0&&(CT Bool n1 g1&&(V4 L0 L1)))
  | _,_=>none
 | _=>none
theorem j5l {S:B6} (hS:Zv prog S):Zv prog (S.with u7x O9):=by
 refine CS hS (by kernel_rfl) fun args v h=> ?_;unfold O9 at h;split at h
 .rename_i a0 a1;split at h
  .rename_i L0 g0 n0 L1 g1 n1 e0 e1;simp only [Ae,Ac,Ad] at h;obtain ⟨rfl,ho0,ho1,hw⟩:=h;obtain ⟨N,hN⟩:=u1q L0 L1 hw;exact ⟨_,_,(.cons (Xh e0 ho0) (.cons (Xh e1 ho1) .nil)),rfl,v5f L0 L1 N _ hN,3,rfl⟩
  .cases h
 .cases h
def Pc :List B3->Option (B3×Bool)
 | [a0,a1]=>match Cc R2 a0,Cc R2 a1 with
  | some (L0,g0,n0),some (L1,g1,n1)=>some (.bool (E5 L0 L1),CT R2 n0 g0&&(CT R2 n1 g1&&(Kx L0 L1)))
  | _,_=>none
 | _=>none
theorem v7q {S:B6} (hS:Zv prog S):Zv prog (S.with u7t Pc):=by
 refine CS hS (by kernel_rfl) fun args v h=> ?_;unfold Pc at h;split at h
 .rename_i a0 a1;split at h
  .rename_i L0 g0 n0 L1 g1 n1 e0 e1;simp only [Ae,Ac,Ad] at h;obtain ⟨rfl,ho0,ho1,hw⟩:=h;obtain ⟨N,hN⟩:=j0p L0 L1 hw;exact ⟨_,_,(.cons (Xh e0 ho0) (.cons (Xh e1 ho1) .nil)),rfl,u0q L0 L1 N _ hN,3,rfl⟩
  .cases h
 .cases h
def Pd :List B3->Option (B3×Bool)
 | [a0,a1]=>match Cc R4 a0,Cc R4 a1 with
  | some (L0,g0,n0),some (L1,g1,n1)=>some (.bool (E6 L0 L1),CT R4 n0 g0&&(CT R4 n1 g1&&(Ky L0 L1)))
  | _,_=>none
 | _=>none
theorem v7p {S:B6} (hS:Zv prog S):Zv prog (S.with u7s Pd):=by
 refine CS hS (by kernel_rfl) fun args v h=> ?_;unfold Pd at h;split at h
 .rename_i a0 a1;split at h
  .rename_i L0 g0 n0 L1 g1 n1 e0 e1;simp only [Ae,Ac,Ad] at h;obtain ⟨rfl,ho0,ho1,hw⟩:=h;obtain ⟨N,hN⟩:=j0o L0 L1 hw;exact ⟨_,_,(.cons (Xh e0 ho0) (.cons (Xh e1 ho1) .nil)),rfl,u0p L0 L1 N _ hN,3,rfl⟩
  .cases h
 .cases h
def Pe :List B3->Option (B3×Bool)
 | [a0,a1]=>match Cc R6 a0,Cc R6 a1 with
  | some (L0,g0,n0),some (L1,g1,n1)=>some (.bool (EE L0 L1),CT R6 n0 g0&&(CT R6 n1 g1&&(Uf L0 L1)))
  | _,_=>none
 | _=>none
theorem v7o {S:B6} (hS:Zv prog S):Zv prog (S.with u7r Pe):=by
 refine CS hS (by kernel_rfl) fun args v h=> ?_;unfold Pe at h;split at h
 .rename_i a0 a1;split at h
  .rename_i L0 g0 n0 L1 g1 n1 e0 e1;simp only [Ae,Ac,Ad] at h;obtain ⟨rfl,ho0,ho1,hw⟩:=h;obtain ⟨N,hN⟩:=j0t L0 L1 hw;exact ⟨_,_,(.cons (Xh e0 ho0) (.cons (Xh e1 ho1) .nil)),rfl,u0t L0 L1 N _ hN,3,rfl⟩
  .cases h
 .cases h
def j4y :List B3->Option (B3×Bool)
 | [a0,.int .i64 x1,.int .i64 x2]=>match Cc R4 a0 with
  | some (L0,g0,n0)=>some (.bool (E9 L0 x1 x2),CT R4 n0 g0&&(PV L0 x1 x2))
  | _=>none
 | _=>none
theorem u4i {S:B6} (hS:Zv prog S):Zv prog (S.with KT j4y):=by
 refine CS hS (by kernel_rfl) fun args v h=> ?_;unfold j4y at h;split at h
 .rename_i a0 x1 x2;split at h
  .rename_i L0 g0 n0 e0;simp only [Ae,Ac,Ad] at h;obtain ⟨rfl,ho0,hw⟩:=h;obtain ⟨N,hN⟩:=u1g L0 x1 x2 hw;exact ⟨_,_,(.cons (Xh e0 ho0) (.cons (.refl _) (.cons (.refl _) .nil))),rfl,v4s L0 x1 x2 N _ hN,3,rfl⟩
  .cases h
 .cases h
def fAt :List B3->Option (B3×Bool)
 | [a0,.int .i64 x1]=>match Cc R6 a0 with
  | some (L0,g0,n0)=>some (.dat (CO L0 x1).length (Zz (CO L0 x1)),CT R6 n0 g0&&(PE L0 x1))
  | _=>none
 | _=>none
theorem Ob {S:B6} (hS:Zv prog S):Zv prog (S.with nAt fAt):=by
 refine CS hS (by kernel_rfl) fun args v h=> ?_;unfold fAt at h;split at h
 .rename_i a0 x1;split at h
  .rename_i L0 g0 n0 e0;simp only [Ae,Ac,Ad] at h;obtain ⟨rfl,ho0,hw⟩:=h;obtain ⟨N,hN⟩:=j1r L0 x1 hw;exact ⟨_,_,(.cons (Xh e0 ho0) (.cons (.refl _) .nil)),rfl,u1r L0 x1 N _ hN,3,rfl⟩
  .cases h
 .cases h
def v7s :List B3->Option (B3×Bool)
 | [.int .i64 x0,.bool b1,.bool b2]=>some (.bool (Lk x0 b1 b2),true)
 | _=>none
theorem v7r {S:B6} (hS:Zv prog S):Zv prog (S.with u7w v7s):=by
 refine CS hS (by kernel_rfl) fun args v h=> ?_;unfold v7s at h;split at h
 .rename_i x0 b1 b2;simp only [Ae,Ac,and_true] at h;subst h;obtain ⟨N,hN⟩:=j3i x0 b1 b2;exact ⟨_,_,(.cons (.refl _) (.cons (.refl _) (.cons (.refl _) .nil))),rfl,u3u x0 b1 b2 N _ hN,3,rfl⟩
 .cases h
def O1 :List B3->Option (B3×Bool)
 | [.bool b0,.bool b1]=>some (.bool (Eg b0 b1),true)
 | _=>none
theorem j5c {S:B6} (hS:Zv prog S):Zv prog (S.with TB O1):=by
 refine CS hS (by kernel_rfl) fun args v h=> ?_;unfold O1 at h;split at h
 .rename_i b0 b1;simp only [Ae,Ac,and_true] at h;subst h;obtain ⟨N,hN⟩:=j3n b0 b1;exact ⟨_,_,(.cons (.refl _) (.cons (.refl _) .nil)),rfl,u3y b0 b1 N _ hN,3,rfl⟩
 .cases h
theorem v1m {S:B6} (hS:Zv prog S):Zv prog (S.with TE Pc):=by
 refine CS hS (by kernel_rfl) fun args v h=> ?_;unfold Pc at h;split at h
 .rename_i a0 a1;split at h
  .rename_i L0 g0 n0 L1 g1 n1 e0 e1;simp only [Ae,Ac,Ad] at h;obtain ⟨rfl,ho0,ho1,hw⟩:=h;obtain ⟨N,hN⟩:=j5p L0 L1 hw;exact ⟨_,_,(.cons (Xh e0 ho0) (.cons (Xh e1 ho1) .nil)),rfl,u4o L0 L1 N _ hN,3,rfl⟩
  .cases h
 .cases h
theorem v1l {S:B6} (hS:Zv prog S):Zv prog (S.with TD Pd):=by
 refine CS hS (by kernel_rfl) fun args v h=> ?_;unfold Pd at h;split at h
 .rename_i a0 a1;split at h
  .rename_i L0 g0 n0 L1 g1 n1 e0 e1;simp only [Ae,Ac,Ad] at h;obtain ⟨rfl,ho0,ho1,hw⟩:=h;obtain ⟨N,hN⟩:=j5o L0 L1 hw;exact ⟨_,_,(.cons (Xh e0 ho0) (.cons (Xh e1 ho1) .nil)),rfl,u4n L0 L1 N _ hN,3,rfl⟩
  .cases h
 .cases h
theorem v1k {S:B6} (hS:Zv prog S):Zv prog (S.with TC Pe):=by
 refine CS hS (by kernel_rfl) fun args v h=> ?_;unfold Pe at h;split at h
 .rename_i a0 a1;split at h
  .rename_i L0 g0 n0 L1 g1 n1 e0 e1;simp only [Ae,Ac,Ad] at h;obtain ⟨rfl,ho0,ho1,hw⟩:=h;obtain ⟨N,hN⟩:=j5n L0 L1 hw;exact ⟨_,_,(.cons (Xh e0 ho0) (.cons (Xh e1 ho1) .nil)),rfl,u4m L0 L1 N _ hN,3,rfl⟩
  .cases h
 .cases h
def T1 :B6:=((((((((((((Eo.with v6g OD).with u7x O9).with u7t Pc).with u7s Pd).with u7r Pe).with KT j4y).with nAt fAt).with u7w v7s).with TB O1).with TE Pc).with TD Pd).with TC Pe)
theorem Df :Zv prog T1:=v1k (v1l (v1m (j5c (v7r (Ob (u4i (v7o (v7p (v7q (j5l (j3y Zq)))))))))))
inductive H6 where
 | h0 (v5:List Int) (v6:Int)
 | h1 (v5:List Int) (v7:Int)
def MV (l0:List R4) (l1:List R4):H6->CG
 | .h0 v5 v6=>⟨⟨48,0,true⟩,none,(Zf prog 181 [1,1,0,1,0,0] 0),none,(Zy prog 3),⟨Ye [(0,(.dat l0.length (Zz l0))),(1,(.dat l1.length (Zz l1))),(5,(.sla 0 1 0 v5.length (.un 1))),(6,(ii v6))],Xs [⟨rows v5.length (Zz v5),3,some ⟨1,v5.length,(Zz v5)⟩⟩] 0,1,[],true⟩,[],.leaf⟩
 | .h1 v5 v7=>⟨⟨48,0,true⟩,none,(Zf prog 181 [1,1,1,0,1,0,0] 0),none,(Zy prog 3),⟨Ye [(1,(.dat l1.length (Zz l1))),(5,(.sla 0 1 0 v5.length (.un 1))),(7,(ii v7))],Xs [⟨rows v5.length (Zz v5),3,some ⟨1,v5.length,(Zz v5)⟩⟩] 0,1,[],true⟩,[],.leaf⟩
def JT :List (Option (List Nat)):=[some [0,1,5,6]]
def JV :List (Option (List Nat)):=[]
def JS :List (Option (List Nat)):=[some [1,5,7]]
def JU :List (Option (List Nat)):=[]
def Gx (l0:List R4) (l1:List R4):H6->Xj H6
 | .h0 v5 v6=>(bif (decide (v6<(l0.length:Int))) then (bif ((decide (0<=v6/\v6<(l0.length:Int)))&&true) then (bif (Nat.beq 1 1&&((decide (0+v5.length=v5.length))&&decide ((v5.length+2+1)*(8+1)<=Ve))) then (.to (.h0 (v5++[(rd l0 v6.toNat).a,(rd l0 v6.toNat).c]) (wrap .i64 (v6+1)))) else .stuck) else .stuck) else (.to (.h1 v5 0)))
 | .h1 v5 v7=>(bif (decide (v7<(l1.length:Int))) then (bif ((decide (0<=v7/\v7<(l1.length:Int)))&&true) then (bif (Nat.beq 1 1&&((decide (0+v5.length=v5.length))&&decide ((v5.length+2+1)*(8+1)<=Ve))) then (.to (.h1 (v5++[(rd l1 v7.toNat).a,(rd l1 v7.toNat).c]) (wrap .i64 (v7+1)))) else .stuck) else .stuck) else (bif (Qt (B4 v5)) then (.ret [(.dat (Ce (B4 v5)).length (Zz (Ce (B4 v5))))]) else .stuck))
def VR (l0:List R4) (l1:List R4):Xj H6:=(.to (.h0 ([]:List Int) 0))
theorem w8s (l0:List R4) (l1:List R4): ∀s,Wp prog (Zy prog 181) (MV l0 l1) (MV l0 l1 s) (Gx l0 l1 s)
 | .h0 v5 v6=>(lb (fun k0=>(lo fun o0=>(lo fun o1=>let e:=rd l0 (tn v6);let b:=v5++[e.a,e.c];let d:=xL (v5.length+2) (v5++[(rd l0 (tn v6)).a,(rd l0 (tn v6)).c]).length;(sl Df 20 [] ⟨[2],[],JT,JV⟩ ⟨[(5,.len b.length)],[.rowed 1 b.length (Zz b)],[]⟩ [true] (pp d (pp d (pp (xS (v5.length+2) (Zo (Zz v5) 0 v5.length 1 [(ii (rd l0 (tn v6)).a),(ii (rd l0 (tn v6)).c)]) (Zz (v5++[(rd l0 (tn v6)).a,(rd l0 (tn v6)).c]))) (pp (pp (xF (Zo (Zz v5) 0 v5.length 1 [(ii (rd l0 (tn v6)).a),(ii (rd l0 (tn v6)).c)])) nn) (ww o1 (ww o0 (ww o0 (tt k0 nn)))))))))))) (fun k0=>(sl Df 17 [] ⟨[0],[],JS,JU⟩ b7 [false] (pp (fl v5 nn) (tt k0 nn)))))
 | .h1 v5 v7=>(lb (fun k0=>(lo fun o0=>(lo fun o1=>let e:=rd l1 (tn v7);let b:=v5++[e.a,e.c];let d:=xL (v5.length+2) (v5++[(rd l1 (tn v7)).a,(rd l1 (tn v7)).c]).length;(sl Df 20 [] ⟨[2],[],JS,JU⟩ ⟨[(5,.len b.length)],[.rowed 1 b.length (Zz b)],[]⟩ [true] (pp d (pp d (pp (xS (v5.length+2) (Zo (Zz v5) 0 v5.length 1 [(ii (rd l1 (tn v7)).a),(ii (rd l1 (tn v7)).c)]) (Zz (v5++[(rd l1 (tn v7)).a,(rd l1 (tn v7)).c]))) (pp (pp (xF (Zo (Zz v5) 0 v5.length 1 [(ii (rd l1 (tn v7)).a),(ii (rd l1 (tn v7)).c)])) nn) (ww o1 (ww o0 (ww o0 (tt k0 nn)))))))))))) (fun k0=>(Wj (sl Df (C':=⟨⟨48,0,true⟩,(CV prog 181 [1,1,1,1,0] 1),(Zf prog 181 [1,1,1,1,0] 1),none,(Zy prog 3),⟨Ye [(46,(.dat v5.length (Zz v5)))],Xs [] 0,0,[],true⟩,[],.leaf⟩) 13 [] ⟨[],[0],[some [46]],[]⟩ ⟨[(46,.frz v5.length v5.length (Zz v5) (Zz v5))],[],[]⟩ [false] (pp (xZ (DW 1 1 0 v5.length v5.length (Zz v5)) v5.length (Zz v5)) (pp (xL v5.length v5.length) (pp (xS v5.length (Zz v5) (Zz v5)) (pp (fl v5 nn) (tt k0 nn)))))) (lo fun o0=>let f:=Ce (B4 v5);(lr 48 3 [1,1,1,1,1,1,0] 1 3 [(4,(.dat f.length (Zz f)))] (sl Df 3 [] (b8 [4]) b7 [] (pp (pp (xr v5) (xw o0)) nn)))))))
theorem w0f (l0:List R4) (l1:List R4):Wp prog (Zy prog 181) (MV l0 l1) (Zg prog 181 [(.dat l0.length (Zz l0)),(.dat l1.length (Zz l1))] true []) (VR l0 l1):=(sl Df 15 [(3,1,Zz ([]:List Int))] ⟨[0],[],JT,JV⟩ ⟨[(5,.grow 0 1)],[],[]⟩ [] (pp (fl ([]:List Int) nn) nn))
theorem u0n (l0:List R4) (l1:List R4) (n:Nat) (vs:List B3) (h:Yw (Gx l0 l1) n (VR l0 l1)=.ret vs):Kj prog (Zy prog 181) (Zg prog 181 [(.dat l0.length (Zz l0)),(.dat l1.length (Zz l1))] true []) vs:=by have:=Ze (w8s l0 l1) n _ (w0f l0 l1);rwa [h] at this
inductive H5 where
 | h0 (v5:List Int) (v6:Int)
 | h1 (v5:List Int) (v7:Int)
def MU (l0:List R4) (l1:List R4):H5->CG
 | .h0 v5 v6=>⟨⟨48,0,true⟩,none,(Zf prog 182 [1,1,0,1,0,0] 0),none,(Zy prog 3),⟨Ye [(0,(.dat l0.length (Zz l0))),(1,(.dat l1.length (Zz l1))),(5,(.sla 0 1 0 v5.length (.un 1))),(6,(ii v6))],Xs [⟨rows v5.length (Zz v5),3,some ⟨1,v5.length,(Zz v5)⟩⟩] 0,1,[],true⟩,[],.leaf⟩
 | .h1 v5 v7=>⟨⟨48,0,true⟩,none,(Zf prog 182 [1,1,1,0,1,0,0] 0),none,(Zy prog 3),⟨Ye [(1,(.dat l1.length (Zz l1))),(5,(.sla 0 1 0 v5.length (.un 1))),(7,(ii v7))],Xs [⟨rows v5.length (Zz v5),3,some ⟨1,v5.length,(Zz v5)⟩⟩] 0,1,[],true⟩,[],.leaf⟩
def JP :List (Option (List Nat)):=[some [0,1,5,6]]
def JR :List (Option (List Nat)):=[]
def JO :List (Option (List Nat)):=[some [1,5,7]]
def JQ :List (Option (List Nat)):=[]
def Gy (l0:List R4) (l1:List R4):H5->Xj H5
 | .h0 v5 v6=>(bif (decide (v6<(l0.length:Int))) then (bif ((decide (0<=v6/\v6<(l0.length:Int)))&&true) then (bif (Nat.beq 1 1&&((decide (0+v5.length=v5.length))&&decide ((v5.length+2+1)*(8+1)<=Ve))) then (.to (.h0 (v5++[(rd l0 v6.toNat).b,(rd l0 v6.toNat).d]) (wrap .i64 (v6+1)))) else .stuck) else .stuck) else (.to (.h1 v5 0)))
 | .h1 v5 v7=>(bif (decide (v7<(l1.length:Int))) then (bif ((decide (0<=v7/\v7<(l1.length:Int)))&&true) then (bif (Nat.beq 1 1&&((decide (0+v5.length=v5.length))&&decide ((v5.length+2+1)*(8+1)<=Ve))) then (.to (.h1 (v5++[(rd l1 v7.toNat).b,(rd l1 v7.toNat).d]) (wrap .i64 (v7+1)))) else .stuck) else .stuck) else (bif (Qt (B4 v5)) then (.ret [(.dat (Ce (B4 v5)).length (Zz (Ce (B4 v5))))]) else .stuck))
def VS (l0:List R4) (l1:List R4):Xj H5:=(.to (.h0 ([]:List Int) 0))
theorem w8r (l0:List R4) (l1:List R4): ∀s,Wp prog (Zy prog 182) (MU l0 l1) (MU l0 l1 s) (Gy l0 l1 s)
 | .h0 v5 v6=>(lb (fun k0=>(lo fun o0=>(lo fun o1=>let e:=rd l0 (tn v6);let a:=v5++[e.b,e.d];let c:=xL (v5.length+2) (v5++[(rd l0 (tn v6)).b,(rd l0 (tn v6)).d]).length;(sl Df 20 [] ⟨[2],[],JP,JR⟩ ⟨[(5,.len a.length)],[.rowed 1 a.length (Zz a)],[]⟩ [true] (pp c (pp c (pp (xS (v5.length+2) (Zo (Zz v5) 0 v5.length 1 [(ii (rd l0 (tn v6)).b),(ii (rd l0 (tn v6)).d)]) (Zz (v5++[(rd l0 (tn v6)).b,(rd l0 (tn v6)).d]))) (pp (pp (xF (Zo (Zz v5) 0 v5.length 1 [(ii (rd l0 (tn v6)).b),(ii (rd l0 (tn v6)).d)])) nn) (ww o1 (ww o0 (ww o0 (tt k0 nn)))))))))))) (fun k0=>(sl Df 17 [] ⟨[0],[],JO,JQ⟩ b7 [false] (pp (fl v5 nn) (tt k0 nn)))))
 | .h1 v5 v7=>(lb (fun k0=>(lo fun o0=>(lo fun o1=>let e:=rd l1 (tn v7);let a:=v5++[e.b,e.d];let c:=xL (v5.length+2) (v5++[(rd l1 (tn v7)).b,(rd l1 (tn v7)).d]).length;(sl Df 20 [] ⟨[2],[],JO,JQ⟩ ⟨[(5,.len a.length)],[.rowed 1 a.length (Zz a)],[]⟩ [true] (pp c (pp c (pp (xS (v5.length+2) (Zo (Zz v5) 0 v5.length 1 [(ii (rd l1 (tn v7)).b),(ii (rd l1 (tn v7)).d)]) (Zz (v5++[(rd l1 (tn v7)).b,(rd l1 (tn v7)).d]))) (pp (pp (xF (Zo (Zz v5) 0 v5.length 1 [(ii (rd l1 (tn v7)).b),(ii (rd l1 (tn v7)).d)])) nn) (ww o1 (ww o0 (ww o0 (tt k0 nn)))))))))))) (fun k0=>(Wj (sl Df (C':=⟨⟨48,0,true⟩,(CV prog 182 [1,1,1,1,0] 1),(Zf prog 182 [1,1,1,1,0] 1),none,(Zy prog 3),⟨Ye [(46,(.dat v5.length (Zz v5)))],Xs [] 0,0,[],true⟩,[],.leaf⟩) 13 [] ⟨[],[0],[some [46]],[]⟩ ⟨[(46,.frz v5.length v5.length (Zz v5) (Zz v5))],[],[]⟩ [false] (pp (xZ (DW 1 1 0 v5.length v5.length (Zz v5)) v5.length (Zz v5)) (pp (xL v5.length v5.length) (pp (xS v5.length (Zz v5) (Zz v5)) (pp (fl v5 nn) (tt k0 nn)))))) (lo fun o0=>let f:=Ce (B4 v5);(lr 48 3 [1,1,1,1,1,1,0] 1 3 [(4,(.dat f.length (Zz f)))] (sl Df 3 [] (b8 [4]) b7 [] (pp (pp (xr v5) (xw o0)) nn)))))))
theorem w0e (l0:List R4) (l1:List R4):Wp prog (Zy prog 182) (MU l0 l1) (Zg prog 182 [(.dat l0.length (Zz l0)),(.dat l1.length (Zz l1))] true []) (VS l0 l1):=(sl Df 15 [(3,1,Zz ([]:List Int))] ⟨[0],[],JP,JR⟩ ⟨[(5,.grow 0 1)],[],[]⟩ [] (pp (fl ([]:List Int) nn) nn))
theorem u0m (l0:List R4) (l1:List R4) (n:Nat) (vs:List B3) (h:Yw (Gy l0 l1) n (VS l0 l1)=.ret vs):Kj prog (Zy prog 182) (Zg prog 182 [(.dat l0.length (Zz l0)),(.dat l1.length (Zz l1))] true []) vs:=by have:=Ze (w8r l0 l1) n _ (w0e l0 l1);rwa [h] at this
inductive El where
 | h0 (v5:List Int) (v6:Int)
 | h1 (v5:List Int) (v7:Int)
def j1m (l0:List R6) (l1:List R6):El->CG
 | .h0 v5 v6=>⟨⟨52,0,true⟩,none,(Zf prog 148 [1,1,0,1,0,0] 0),none,(Zy prog 3),⟨Ye [(0,(.dat l0.length (Zz l0))),(1,(.dat l1.length (Zz l1))),(5,(.sla 0 1 0 v5.length (.un 1))),(6,(ii v6))],Xs [⟨rows v5.length (Zz v5),3,some ⟨1,v5.length,(Zz v5)⟩⟩] 0,1,[],true⟩,[],.leaf⟩
 | .h1 v5 v7=>⟨⟨52,0,true⟩,none,(Zf prog 148 [1,1,1,0,1,0,0] 0),none,(Zy prog 3),⟨Ye [(1,(.dat l1.length (Zz l1))),(5,(.sla 0 1 0 v5.length (.un 1))),(7,(ii v7))],Xs [⟨rows v5.length (Zz v5),3,some ⟨1,v5.length,(Zz v5)⟩⟩] 0,1,[],true⟩,[],.leaf⟩
def u7d :List (Option (List Nat)):=[some [0,1,5,6]]
def u7f :List (Option (List Nat)):=[]
def u7c :List (Option (List Nat)):=[some [1,5,7]]
def u7e :List (Option (List Nat)):=[]
def HC (l0:List R6) (l1:List R6):El->Xj El
 | .h0 v5 v6=>(bif (decide (v6<(l0.length:Int))) then (bif ((decide (0<=v6/\v6<(l0.length:Int)))&&true) then (bif (Nat.beq 1 1&&((decide (0+v5.length=v5.length))&&decide ((v5.length+2+1)*(8+1)<=Ve))) then (.to (.h0 (v5++[(rd l0 v6.toNat).c,(rd l0 v6.toNat).f]) (wrap .i64 (v6+1)))) else .stuck) else .stuck) else (.to (.h1 v5 0)))
 | .h1 v5 v7=>(bif (decide (v7<(l1.length:Int))) then (bif ((decide (0<=v7/\v7<(l1.length:Int)))&&true) then (bif (Nat.beq 1 1&&((decide (0+v5.length=v5.length))&&decide ((v5.length+2+1)*(8+1)<=Ve))) then (.to (.h1 (v5++[(rd l1 v7.toNat).c,(rd l1 v7.toNat).f]) (wrap .i64 (v7+1)))) else .stuck) else .stuck) else (bif (Qt (B4 v5)) then (.ret [(.dat (Ce (B4 v5)).length (Zz (Ce (B4 v5))))]) else .stuck))
def UA (l0:List R6) (l1:List R6):Xj El:=(.to (.h0 ([]:List Int) 0))
theorem w1b (l0:List R6) (l1:List R6): ∀s,Wp prog (Zy prog 148) (j1m l0 l1) (j1m l0 l1 s) (HC l0 l1 s)
 | .h0 v5 v6=>(lb (fun k0=>(lo fun o0=>(lo fun o1=>let d:=rd l0 (tn v6);let a:=v5++[d.c,d.f];let b:=xL (v5.length+2) (v5++[(rd l0 (tn v6)).c,(rd l0 (tn v6)).f]).length;(sl Df 20 [] ⟨[2],[],u7d,u7f⟩ ⟨[(5,.len a.length)],[.rowed 1 a.length (Zz a)],[]⟩ [true] (pp b (pp b (pp (xS (v5.length+2) (Zo (Zz v5) 0 v5.length 1 [(ii (rd l0 (tn v6)).c),(ii (rd l0 (tn v6)).f)]) (Zz (v5++[(rd l0 (tn v6)).c,(rd l0 (tn v6)).f]))) (pp (pp (xF (Zo (Zz v5) 0 v5.length 1 [(ii (rd l0 (tn v6)).c),(ii (rd l0 (tn v6)).f)])) nn) (ww o1 (ww o0 (ww o0 (tt k0 nn)))))))))))) (fun k0=>(sl Df 17 [] ⟨[0],[],u7c,u7e⟩ b7 [false] (pp (fl v5 nn) (tt k0 nn)))))
 | .h1 v5 v7=>(lb (fun k0=>(lo fun o0=>(lo fun o1=>let d:=rd l1 (tn v7);let a:=v5++[d.c,d.f];let b:=xL (v5.length+2) (v5++[(rd l1 (tn v7)).c,(rd l1 (tn v7)).f]).length;(sl Df 20 [] ⟨[2],[],u7c,u7e⟩ ⟨[(5,.len a.length)],[.rowed 1 a.length (Zz a)],[]⟩ [true] (pp b (pp b (pp (xS (v5.length+2) (Zo (Zz v5) 0 v5.length 1 [(ii (rd l1 (tn v7)).c),(ii (rd l1 (tn v7)).f)]) (Zz (v5++[(rd l1 (tn v7)).c,(rd l1 (tn v7)).f]))) (pp (pp (xF (Zo (Zz v5) 0 v5.length 1 [(ii (rd l1 (tn v7)).c),(ii (rd l1 (tn v7)).f)])) nn) (ww o1 (ww o0 (ww o0 (tt k0 nn)))))))))))) (fun k0=>(Wj (sl Df (C':=⟨⟨52,0,true⟩,(CV prog 148 [1,1,1,1,0] 1),(Zf prog 148 [1,1,1,1,0] 1),none,(Zy prog 3),⟨Ye [(50,(.dat v5.length (Zz v5)))],Xs [] 0,0,[],true⟩,[],.leaf⟩) 13 [] ⟨[],[0],[some [50]],[]⟩ ⟨[(50,.frz v5.length v5.length (Zz v5) (Zz v5))],[],[]⟩ [false] (pp (xZ (DW 1 1 0 v5.length v5.length (Zz v5)) v5.length (Zz v5)) (pp (xL v5.length v5.length) (pp (xS v5.length (Zz v5) (Zz v5)) (pp (fl v5 nn) (tt k0 nn)))))) (lo fun o0=>let e:=Ce (B4 v5);(lr 52 3 [1,1,1,1,1,1,0] 1 3 [(4,(.dat e.length (Zz e)))] (sl Df 3 [] (b8 [4]) b7 [] (pp (pp (xr v5) (xw o0)) nn)))))))
theorem x6q (l0:List R6) (l1:List R6):Wp prog (Zy prog 148) (j1m l0 l1) (Zg prog 148 [(.dat l0.length (Zz l0)),(.dat l1.length (Zz l1))] true []) (UA l0 l1):=(sl Df 15 [(3,1,Zz ([]:List Int))] ⟨[0],[],u7d,u7f⟩ ⟨[(5,.grow 0 1)],[],[]⟩ [] (pp (fl ([]:List Int) nn) nn))
theorem v4z (l0:List R6) (l1:List R6) (n:Nat) (vs:List B3) (h:Yw (HC l0 l1) n (UA l0 l1)=.ret vs):Kj prog (Zy prog 148) (Zg prog 148 [(.dat l0.length (Zz l0)),(.dat l1.length (Zz l1))] true []) vs:=by have:=Ze (w1b l0 l1) n _ (x6q l0 l1);rwa [h] at this
def Do (l:List R4):List Int:=l.flatMap fun r=>[r.a,r.c]
def Dh (l:List R4):List Int:=l.flatMap fun r=>[r.b,r.d]
def Dp (l:List R6):List Int:=l.flatMap fun r=>[r.c,r.f]
def CM (l m:List R4):List Int:=Ce (Do l++Do m)
def V1 (l m:List R4):Bool:=decide (l.length<=10000/\m.length<=10000)
theorem YC (l:List R4):(Do l).length =2*l.length:=by
 induction l with
 | nil=>rfl
 | cons r l ih=>grind [Do]
theorem x0q (l:List R4) (i:Nat) (h:i<l.length):Do (l.drop i)=Do [rd l i]++Do (l.drop (i+1)):=by rw [Xx h];rfl
theorem u6f (l m:List R4) (hl:l.length<=10000) (hm:m.length<=10000): ∀(k i:Nat) (out:List Int),i+k=m.length->out.length=2*l.length+2*i-> ∃N,Yw (Gx l m) N (.to (.h1 out (i:Int)))=.ret [.dat (Ce (out++Do (m.drop i))).length (Zz (Ce (out++Do (m.drop i))))]
 | 0,i,out,h,ho=>by refine ⟨1,?_⟩;have hw:Qt out=true:=Aa (by omega);rw [Zw,Aw (show m.length<=i by omega),show Do []=[] from rfl,AL];simp (disch:=omega) only [Gx,Wz,Xv,Yb,Yt,Wc,Xc,Xi,Xn,Ym,Zm,Yf,Qu,Jd,AA,Zk,Yy,Zs,Xr,Zj,Al,Aq,Ar,Af,Ab,Ay,AD,Zh,Yg,Zt,Ug,Xo,hw]
 | k+1,i,out,h,ho=>by obtain ⟨N,hN⟩:=u6f l m hl hm k (i+1) (out++Do [rd m i]) (by omega) (by grind [YC]);refine ⟨N+1,?_⟩;rw [x0q m i (by omega),<-AH,Zw];simp (disch:=omega) only [Gx,Wz,Xv,Yb,Yt,Wc,Xc,Xi,Xn,Ym,Zm,Yf,Qu,Jd,AA,Zk,Yy,Zs,Xr,Zj,Al,Aq,Ar,Af,Ab,Ay,AD,Zh,Yg,Zt,Ug,Xo];exact hN
theorem u6g (l m:List R4) (hl:l.length<=10000) (hm:m.length<=10000): ∀(k i:Nat) (out:List Int),i+k=l.length->out.length=2*i-> ∃N,Yw (Gx l m) N (.to (.h0 out (i:Int)))=.ret [.dat (Ce (out++Do (l.drop i)++Do m)).length (Zz (Ce (out++Do (l.drop i)++Do m)))]
 | 0,i,out,h,ho=>by obtain ⟨N,hN⟩:=u6f l m hl hm m.length 0 out (Al _) (by omega);refine ⟨N+1,?_⟩;rw [Zw,Aw (show l.length<=i by omega),show Do []=[] from rfl,AL];simp (disch:=omega) only [Gx,Wz,Xv,Yb,Yt,Wc,Xc,Xi,Xn,Ym,Zm,Yf,Qu,Jd,AA,Zk,Yy,Zs,Xr,Zj,Al,Aq,Ar,Af,Ab,Ay,AD,Zh,Yg,Zt,Ug,Xo];exact hN
 | k+1,i,out,h,ho=>by obtain ⟨N,hN⟩:=u6g l m hl hm k (i+1) (out++Do [rd l i]) (by omega) (by grind [YC]);refine ⟨N+1,?_⟩;rw [x0q l i (by omega),<-AH,Zw];simp (disch:=omega) only [Gx,Wz,Xv,Yb,Yt,Wc,Xc,Xi,Xn,Ym,Zm,Yf,Qu,Jd,AA,Zk,Yy,Zs,Xr,Zj,Al,Aq,Ar,Af,Ab,Ay,AD,Zh,Yg,Zt,Ug,Xo];exact hN
theorem j0i (l m:List R4) (h:V1 l m=true): ∃N,Yw (Gx l m) N (VR l m)=.ret [.dat (CM l m).length (Zz (CM l m))]:=by
 obtain ⟨h1,h2⟩:=Av h;have:=u6g l m h1 h2 l.length 0 [] (Al _) rfl
 simpa [VR,CM] using this
def CX (l m:List R4):List Int:=Ce (Dh l++Dh m)
def V2 (l m:List R4):Bool:=decide (l.length<=10000/\m.length<=10000)
theorem YD (l:List R4):(Dh l).length =2*l.length:=by
 induction l with
 | nil=>rfl
 | cons r l ih=>grind [Dh]
theorem x0p (l:List R4) (i:Nat) (h:i<l.length):Dh (l.drop i)=Dh [rd l i]++Dh (l.drop (i+1)):=by rw [Xx h];rfl
theorem u6d (l m:List R4) (hl:l.length<=10000) (hm:m.length<=10000): ∀(k i:Nat) (out:List Int),i+k=m.length->out.length=2*l.length+2*i-> ∃N,Yw (Gy l m) N (.to (.h1 out (i:Int)))=.ret [.dat (Ce (out++Dh (m.drop i))).length (Zz (Ce (out++Dh (m.drop i))))]
 | 0,i,out,h,ho=>by refine ⟨1,?_⟩;have hw:Qt out=true:=Aa (by omega);rw [Zw,Aw (show m.length<=i by omega),show Dh []=[] from rfl,AL];simp (disch:=omega) only [Gy,Wz,Xv,Yb,Yt,Wc,Xc,Xi,Xn,Ym,Zm,Yf,Qu,Jd,AA,Zk,Yy,Zs,Xr,Zj,Al,Aq,Ar,Af,Ab,Ay,AD,Zh,Yg,Zt,Ug,Xo,hw]
 | k+1,i,out,h,ho=>by obtain ⟨N,hN⟩:=u6d l m hl hm k (i+1) (out++Dh [rd m i]) (by omega) (by grind [YD]);refine ⟨N+1,?_⟩;rw [x0p m i (by omega),<-AH,Zw];simp (disch:=omega) only [Gy,Wz,Xv,Yb,Yt,Wc,Xc,Xi,Xn,Ym,Zm,Yf,Qu,Jd,AA,Zk,Yy,Zs,Xr,Zj,Al,Aq,Ar,Af,Ab,Ay,AD,Zh,Yg,Zt,Ug,Xo];exact hN
theorem u6e (l m:List R4) (hl:l.length<=10000) (hm:m.length<=10000): ∀(k i:Nat) (out:List Int),i+k=l.length->out.length=2*i-> ∃N,Yw (Gy l m) N (.to (.h0 out (i:Int)))=.ret [.dat (Ce (out++Dh (l.drop i)++Dh m)).length (Zz (Ce (out++Dh (l.drop i)++Dh m)))]
 | 0,i,out,h,ho=>by obtain ⟨N,hN⟩:=u6d l m hl hm m.length 0 out (Al _) (by omega);refine ⟨N+1,?_⟩;rw [Zw,Aw (show l.length<=i by omega),show Dh []=[] from rfl,AL];simp (disch:=omega) only [Gy,Wz,Xv,Yb,Yt,Wc,Xc,Xi,Xn,Ym,Zm,Yf,Qu,Jd,AA,Zk,Yy,Zs,Xr,Zj,Al,Aq,Ar,Af,Ab,Ay,AD,Zh,Yg,Zt,Ug,Xo];exact hN
 | k+1,i,out,h,ho=>by obtain ⟨N,hN⟩:=u6e l m hl hm k (i+1) (out++Dh [rd l i]) (by omega) (by grind [YD]);refine ⟨N+1,?_⟩;rw [x0p l i (by omega),<-AH,Zw];simp (disch:=omega) only [Gy,Wz,Xv,Yb,Yt,Wc,Xc,Xi,Xn,Ym,Zm,Yf,Qu,Jd,AA,Zk,Yy,Zs,Xr,Zj,Al,Aq,Ar,Af,Ab,Ay,AD,Zh,Yg,Zt,Ug,Xo];exact hN
theorem j0h (l m:List R4) (h:V2 l m=true): ∃N,Yw (Gy l m) N (VS l m)=.ret [.dat (CX l m).length (Zz (CX l m))]:=by
 obtain ⟨h1,h2⟩:=Av h;have:=u6e l m h1 h2 l.length 0 [] (Al _) rfl
 simpa [VS,CX] using this
def Uv (l m:List R6):List Int:=Ce (Dp l++Dp m)
def V6 (l m:List R6):Bool:=decide (l.length<=40000/\m.length<=40000)
theorem YE (l:List R6):(Dp l).length =2*l.length:=by
 induction l with
 | nil=>rfl
 | cons r l ih=>grind [Dp]
theorem x0m (l:List R6) (i:Nat) (h:i<l.length):Dp (l.drop i)=Dp [rd l i]++Dp (l.drop (i+1)):=by rw [Xx h];rfl
theorem v4x (l m:List R6) (hl:l.length<=40000) (hm:m.length<=40000): ∀(k i:Nat) (out:List Int),i+k=m.length->out.length=2*l.length+2*i-> ∃N,Yw (HC l m) N (.to (.h1 out (i:Int)))=.ret [.dat (Ce (out++Dp (m.drop i))).length (Zz (Ce (out++Dp (m.drop i))))]
 | 0,i,out,h,ho=>by refine ⟨1,?_⟩;have hw:Qt out=true:=Aa (by omega);rw [Zw,Aw (show m.length<=i by omega),show Dp []=[] from rfl,AL];simp (disch:=omega) only [HC,Wz,Xv,Yb,Yt,Wc,Xc,Xi,Xn,Ym,Zm,Yf,Qu,Jd,AA,Zk,Yy,Zs,Xr,Zj,Al,Aq,Ar,Af,Ab,Ay,AD,Zh,Yg,Zt,Ug,Xo,hw]
 | k+1,i,out,h,ho=>by obtain ⟨N,hN⟩:=v4x l m hl hm k (i+1) (out++Dp [rd m i]) (by omega) (by grind [YE]);refine ⟨N+1,?_⟩;rw [x0m m i (by omega),<-AH,Zw];simp (disch:=omega) only [HC,Wz,Xv,Yb,Yt,Wc,Xc,Xi,Xn,Ym,Zm,Yf,Qu,Jd,AA,Zk,Yy,Zs,Xr,Zj,Al,Aq,Ar,Af,Ab,Ay,AD,Zh,Yg,Zt,Ug,Xo];exact hN
theorem v4y (l m:List R6) (hl:l.length<=40000) (hm:m.length<=40000): ∀(k i:Nat) (out:List Int),i+k=l.length->out.length=2*i-> ∃N,Yw (HC l m) N (.to (.h0 out (i:Int)))=.ret [.dat (Ce (out++Dp (l.drop i)++Dp m)).length (Zz (Ce (out++Dp (l.drop i)++Dp m)))]
 | 0,i,out,h,ho=>by obtain ⟨N,hN⟩:=v4x l m hl hm m.length 0 out (Al _) (by omega);refine ⟨N+1,?_⟩;rw [Zw,Aw (show l.length<=i by omega),show Dp []=[] from rfl,AL];simp (disch:=omega) only [HC,Wz,Xv,Yb,Yt,Wc,Xc,Xi,Xn,Ym,Zm,Yf,Qu,Jd,AA,Zk,Yy,Zs,Xr,Zj,Al,Aq,Ar,Af,Ab,Ay,AD,Zh,Yg,Zt,Ug,Xo];exact hN
 | k+1,i,out,h,ho=>by obtain ⟨N,hN⟩:=v4y l m hl hm k (i+1) (out++Dp [rd l i]) (by omega) (by grind [YE]);refine ⟨N+1,?_⟩;rw [x0m l i (by omega),<-AH,Zw];simp (disch:=omega) only [HC,Wz,Xv,Yb,Yt,Wc,Xc,Xi,Xn,Ym,Zm,Yf,Qu,Jd,AA,Zk,Yy,Zs,Xr,Zj,Al,Aq,Ar,Af,Ab,Ay,AD,Zh,Yg,Zt,Ug,Xo];exact hN
theorem u1l (l m:List R6) (h:V6 l m=true): ∃N,Yw (HC l m) N (UA l m)=.ret [.dat (Uv l m).length (Zz (Uv l m))]:=by
 obtain ⟨h1,h2⟩:=Av h;have:=v4y l m h1 h2 l.length 0 [] (Al _) rfl
 simpa [UA,Uv] using this
def fXs :List B3->Option (B3×Bool)
 | [a0,a1]=>match Cc R4 a0,Cc R4 a1 with
  | some (L0,g0,n0),some (L1,g1,n1)=>some (.dat (CM L0 L1).length (Zz (CM L0 L1)),CT R4 n0 g0&&(CT R4 n1 g1&&(V1 L0 L1)))
  | _,_=>none
 | _=>none
theorem Nx {S:B6} (hS:Zv prog S):Zv prog (S.with nXs fXs):=by
 refine CS hS (by kernel_rfl) fun args v h=> ?_;unfold fXs at h;split at h
 .rename_i a0 a1;split at h
  .rename_i L0 g0 n0 L1 g1 n1 e0 e1;simp only [Ae,Ac,Ad] at h;obtain ⟨rfl,ho0,ho1,hw⟩:=h;obtain ⟨N,hN⟩:=j0i L0 L1 hw;exact ⟨_,_,(.cons (Xh e0 ho0) (.cons (Xh e1 ho1) .nil)),rfl,u0n L0 L1 N _ hN,3,rfl⟩
  .cases h
 .cases h
def fYs :List B3->Option (B3×Bool)
 | [a0,a1]=>match Cc R4 a0,Cc R4 a1 with
  | some (L0,g0,n0),some (L1,g1,n1)=>some (.dat (CX L0 L1).length (Zz (CX L0 L1)),CT R4 n0 g0&&(CT R4 n1 g1&&(V2 L0 L1)))
  | _,_=>none
 | _=>none
theorem Nw {S:B6} (hS:Zv prog S):Zv prog (S.with nYs fYs):=by
 refine CS hS (by kernel_rfl) fun args v h=> ?_;unfold fYs at h;split at h
 .rename_i a0 a1;split at h
  .rename_i L0 g0 n0 L1 g1 n1 e0 e1;simp only [Ae,Ac,Ad] at h;obtain ⟨rfl,ho0,ho1,hw⟩:=h;obtain ⟨N,hN⟩:=j0h L0 L1 hw;exact ⟨_,_,(.cons (Xh e0 ho0) (.cons (Xh e1 ho1) .nil)),rfl,u0m L0 L1 N _ hN,3,rfl⟩
  .cases h
 .cases h
def j5i :List B3->Option (B3×Bool)
 | [a0,a1]=>match Cc R6 a0,Cc R6 a1 with
  | some (L0,g0,n0),some (L1,g1,n1)=>some (.dat (Uv L0 L1).length (Zz (Uv L0 L1)),CT R6 n0 g0&&(CT R6 n1 g1&&(V6 L0 L1)))
  | _,_=>none
 | _=>none
theorem u4j {S:B6} (hS:Zv prog S):Zv prog (S.with KU j5i):=by
 refine CS hS (by kernel_rfl) fun args v h=> ?_;unfold j5i at h;split at h
 .rename_i a0 a1;split at h
  .rename_i L0 g0 n0 L1 g1 n1 e0 e1;simp only [Ae,Ac,Ad] at h;obtain ⟨rfl,ho0,ho1,hw⟩:=h;obtain ⟨N,hN⟩:=u1l L0 L1 hw;exact ⟨_,_,(.cons (Xh e0 ho0) (.cons (Xh e1 ho1) .nil)),rfl,v4z L0 L1 N _ hN,3,rfl⟩
  .cases h
 .cases h
def T2 :B6:=((T1.with nXs fXs).with nYs fYs).with KU j5i
theorem Ew :Zv prog T2:=u4j (Nw (Nx Df))
abbrev QS (x0:Int) (l1:List R4) (l2:List R4) (v12:Int) (v14:Int):=(Lk x0 (E9 (B4 l1) (rd (CM (B4 l1) (B4 l2)) (tn v12)) (rd (CX (B4 l1) (B4 l2)) (tn v14))) (E9 (B4 l2) (rd (CM (B4 l1) (B4 l2)) (tn v12)) (rd (CX (B4 l1) (B4 l2)) (tn v14))))
abbrev ZX (v9:List R4) (v16:Int) (l1:List R4) (l2:List R4) (v12:Int):=(v9.set (0+(tn v16)) (R4.mk (rd v9 (0+(tn v16))).a (rd v9 (0+(tn v16))).b (rd (CM (B4 l1) (B4 l2)) (tn (wr (v12+1)))) (rd v9 (0+(tn v16))).d))
abbrev ZY (v9:List R4) (l1:List R4) (l2:List R4) (v12:Int) (v15:List R2) (v17:Int):=(v9++[(R4.mk (rd (CM (B4 l1) (B4 l2)) (tn v12)) (rd v15 (tn v17)).a (rd (CM (B4 l1) (B4 l2)) (tn (wr (v12+1)))) (rd v15 (tn v17)).b)])
abbrev Jf (l1:List R4) (l2:List R4):=(CX (B4 l1) (B4 l2))
def WN (l1:List R4) (l2:List R4):B3:=(.dat (CM (B4 l1) (B4 l2)).length (Zz (CM (B4 l1) (B4 l2))))
def WO (l1:List R4) (l2:List R4):B3:=(.dat (Jf l1 l2).length (Zz (Jf l1 l2)))
inductive Hf where
 | h0 (v9:List R4) (v10:List R2) (v11:Int) (v12:Int)
 | h1 (v9:List R4) (v10:List R2) (v11:Int) (v12:Int) (v13:List Bool) (v14:Int)
 | h2 (v9:List R4) (v10:List R2) (v11:Int) (v12:Int) (v15:List R2) (v17:Int)
 | h3 (v9:List R4) (v10:List R2) (v11:Int) (v12:Int) (v16:Int)
def M7 (x0:Int) (l1:List R4) (l2:List R4):Hf->CG
 | .h0 v9 v10 v11 v12=>⟨⟨121,0,true⟩,none,(Zf prog 149 [1,1,1,1,1,0,1,0,0] 0),none,(Zy prog 7),⟨Ye [(0,(ii x0)),(1,(.dat l1.length (Zz l1))),(2,(.dat l2.length (Zz l2))),(7,(WN l1 l2)),(8,(WO l1 l2)),(9,(.sla 0 4 0 v9.length (.un 4))),(10,(.dat v10.length (Zz v10))),(11,(ii v11)),(12,(ii v12))],Xs [⟨rows v9.length (Zz v9),168,some ⟨4,v9.length,(Zz v9)⟩⟩] 0,1,[],true⟩,[],.leaf⟩
 | .h1 v9 v10 v11 v12 v13 v14=>⟨⟨121,0,true⟩,none,(Zf prog 149 [1,1,1,1,1,0,1,0,0,1,0,0,1,0,1,0,0] 0),none,(Zy prog 7),⟨Ye [(0,(ii x0)),(1,(.dat l1.length (Zz l1))),(2,(.dat l2.length (Zz l2))),(7,(WN l1 l2)),(8,(WO l1 l2)),(9,(.sla 1 4 0 v9.length (.un 4))),(10,(.dat v10.length (Zz v10))),(11,(ii v11)),(12,(ii v12)),(13,(.sla 0 1 0 v13.length (.un 1))),(14,(ii v14))],Xs [⟨rows v13.length (Zz v13),4,some ⟨1,v13.length,(Zz v13)⟩⟩,⟨rows v9.length (Zz v9),168,some ⟨4,v9.length,(Zz v9)⟩⟩] 0,2,[],true⟩,[],.leaf⟩
 | .h2 v9 v10 v11 v12 v15 v17=>⟨⟨121,0,true⟩,none,(Zf prog 149 [1,1,1,1,1,0,1,0,0,1,0,0,1,1,1,1,1,1,0,0] 0),none,(Zy prog 7),⟨Ye [(0,(ii x0)),(1,(.dat l1.length (Zz l1))),(2,(.dat l2.length (Zz l2))),(7,(WN l1 l2)),(8,(WO l1 l2)),(9,(.sla 0 4 0 v9.length (.un 4))),(10,(.dat v10.length (Zz v10))),(11,(ii v11)),(12,(ii v12)),(15,(.dat v15.length (Zz v15))),(17,(ii v17))],Xs [⟨rows v9.length (Zz v9),168,some ⟨4,v9.length,(Zz v9)⟩⟩] 0,1,[],true⟩,[],.leaf⟩
 | .h3 v9 v10 v11 v12 v16=>⟨⟨121,0,true⟩,none,(Zf prog 149 [1,1,1,1,1,0,1,0,0,1,0,0,1,1,1,0,1,0,0,1,0,0] 0),none,(Zy prog 7),⟨Ye [(0,(ii x0)),(1,(.dat l1.length (Zz l1))),(2,(.dat l2.length (Zz l2))),(7,(WN l1 l2)),(8,(WO l1 l2)),(9,(.sla 0 4 0 v9.length (.un 4))),(10,(.dat v10.length (Zz v10))),(11,(ii v11)),(12,(ii v12)),(16,(ii v16))],Xs [⟨rows v9.length (Zz v9),168,some ⟨4,v9.length,(Zz v9)⟩⟩] 0,1,[],true⟩,[],.leaf⟩
def j1e :List (Option (List Nat)):=[some [0,1,2,7,8,9,10,11,12]]
def j1g :List (Option (List Nat)):=[]
def KE :List (Option (List Nat)):=[some [0,1,2,7,8,9,10,11,12,13,14]]
def KG :List (Option (List Nat)):=[]
def j1d :List (Option (List Nat)):=[some [0,1,2,7,8,9,10,11,12,15,17]]
def j1f :List (Option (List Nat)):=[]
def KD :List (Option (List Nat)):=[some [0,1,2,7,8,9,10,11,12,16]]
def KF :List (Option (List Nat)):=[]
def Uu (x0:Int) (l1:List R4) (l2:List R4):Hf->Xj Hf
 | .h0 v9 v10 v11 v12=>(bif (decide ((wrap .i64 (v12+1))<(((CM (B4 l1) (B4 l2)).length :Nat):Int))) then (.to (.h1 v9 v10 v11 v12 ([]:List Bool) 0)) else (.ret [(.dat v9.length (Zz v9))]))
 | .h1 v9 v10 v11 v12 v13 v14=>(bif (decide (v14<(((CX (B4 l1) (B4 l2)).length :Nat):Int))) then (bif (PV (B4 l1) (rd (CM (B4 l1) (B4 l2)) v12.toNat) (rd (CX (B4 l1) (B4 l2)) v14.toNat)) then (bif ((decide (0<=v12/\v12<(((CM (B4 l1) (B4 l2)).length :Nat):Int)))&&true) then (bif ((decide (0<=v14/\v14<(((CX (B4 l1) (B4 l2)).length :Nat):Int)))&&true) then (bif (PV (B4 l2) (rd (CM (B4 l1) (B4 l2)) v12.toNat) (rd (CX (B4 l1) (B4 l2)) v14.toNat)) then (bif (Nat.beq 1 1&&((decide (0+v13.length=v13.length))&&decide ((v13.length+1+1)*(1+1)<=Ve))) then (.to (.h1 v9 v10 v11 v12 (v13++[(Lk x0 (E9 (B4 l1) (rd (CM (B4 l1) (B4 l2)) v12.toNat) (rd (CX (B4 l1) (B4 l2)) v14.toNat)) (E9 (B4 l2) (rd (CM (B4 l1) (B4 l2)) v12.toNat) (rd (CX (B4 l1) (B4 l2)) v14.toNat)))]) (wrap .i64 (v14+1)))) else .stuck) else .stuck) else .stuck) else .stuck) else .stuck) else (bif (V4 (B4 (CX (B4 l1) (B4 l2))) (B4 v13)) then (bif (decide (v12>0)) then (bif (Kx (B4 (Cx (B4 (CX (B4 l1) (B4 l2))) (B4 v13))) (B4 v10)) then (bif (E5 (B4 (Cx (B4 (CX (B4 l1) (B4 l2))) (B4 v13))) (B4 v10)) then (.to (.h3 v9 v10 v11 v12 v11)) else (.to (.h2 v9 (Cx (B4 (CX (B4 l1) (B4 l2))) (B4 v13)) (v9.length:Int) v12 (Cx (B4 (CX (B4 l1) (B4 l2))) (B4 v13)) 0))) else .stuck) else (.to (.h2 v9 (Cx (B4 (CX (B4 l1) (B4 l2))) (B4 v13)) (v9.length:Int) v12 (Cx (B4 (CX (B4 l1) (B4 l2))) (B4 v13)) 0))) else .stuck))
 | .h2 v9 v10 v11 v12 v15 v17=>(bif (decide (v17<(v15.length:Int))) then (bif ((decide (0<=v12/\v12<(((CM (B4 l1) (B4 l2)).length :Nat):Int)))&&true) then (bif ((decide (0<=(wrap .i64 (v12+1))/\(wrap .i64 (v12+1))<(((CM (B4 l1) (B4 l2)).length :Nat):Int)))&&true) then (bif ((decide (0<=v17/\v17<(v15.length:Int)))&&true) then (bif (Nat.beq 4 4&&((decide (0+v9.length=v9.length))&&decide ((v9.length+1+1)*(32+1)<=Ve))) then (.to (.h2 (v9++[(R4.mk (rd (CM (B4 l1) (B4 l2)) v12.toNat) (rd v15 v17.toNat).a (rd (CM (B4 l1) (B4 l2)) (Int.toNat (wrap .i64 (v12+1)))) (rd v15 v17.toNat).b)]) v10 v11 v12 v15 (wrap .i64 (v17+1)))) else .stuck) else .stuck) else .stuck) else .stuck) else (.to (.h0 v9 v10 v11 (wrap .i64 (v12+1)))))
 | .h3 v9 v10 v11 v12 v16=>(bif (decide (v16<(v9.length:Int))) then (bif ((decide (0<=(wrap .i64 (v12+1))/\(wrap .i64 (v12+1))<(((CM (B4 l1) (B4 l2)).length :Nat):Int)))&&true) then (bif ((decide (0<=v16/\v16<(v9.length:Int)))&&true) then (bif (decide ((0+v16.toNat)<v9.length)) then (.to (.h3 (v9.set (0+v16.toNat) (R4.mk (rd v9 (0+v16.toNat)).a (rd v9 (0+v16.toNat)).b (rd (CM (B4 l1) (B4 l2)) (Int.toNat (wrap .i64 (v12+1)))) (rd v9 (0+v16.toNat)).d)) v10 v11 v12 (wrap .i64 (v16+1)))) else .stuck) else .stuck) else .stuck) else (.to (.h0 v9 v10 v11 (wrap .i64 (v12+1)))))
def VK (x0:Int) (l1:List R4) (l2:List R4):Xj Hf:=(bif (V1 (B4 l1) (B4 l2)) then (bif (V2 (B4 l1) (B4 l2)) then (.to (.h0 ([]:List R4) ([]:List R2) 0 0)) else .stuck) else .stuck)
theorem w9g (x0:Int) (l1:List R4) (l2:List R4): ∀s,Wp prog (Zy prog 149) (M7 x0 l1 l2) (M7 x0 l1 l2 s) (Uu x0 l1 l2 s)
 | .h0 v9 v10 v11 v12=>(lb (fun k0=>(sl Ew 24 [(4,1,Zz ([]:List Bool))] ⟨[1,0],[],KE,KG⟩ ⟨[(13,.grow 0 1)],[],[]⟩ [true] (pp (fl ([]:List Bool) (fl v9 nn)) (tt k0 nn)))) (fun k0=>(lr 121 3 [1,1,1,1,1,1,0] 1 7 [(6,(.dat v9.length (Zz v9)))] (sl Ew 16 [] ⟨[],[0],[some [6]],[]⟩ ⟨[(6,.frz v9.length v9.length (Zz v9) (Zz v9))],[],[]⟩ [false] (pp (xZ (DW 4 4 0 v9.length v9.length (Zz v9)) v9.length (Zz v9)) (pp (xL v9.length v9.length) (pp (xS v9.length (Zz v9) (Zz v9)) (pp (fl v9 nn) (tt k0 nn)))))))))
 | .h1 v9 v10 v11 v12 v13 v14=>(lb (fun k0=>(lo fun o0=>(lo fun o1=>(lo fun o2=>(lo fun o3=>(lo fun o4=>let a:=v13++[(QS x0 l1 l2 v12 v14)];let b:=xL (v13.length+1) (v13++[(QS x0 l1 l2 v12 v14)]).length;(sl Ew 20 [] ⟨[3,1],[],KE,KG⟩ ⟨[(13,.len a.length)],[.rowed 1 a.length (Zz a),.keep],[]⟩ [true] (pp b (pp b (pp (xS (v13.length+1) (Zo (Zz v13) 0 v13.length 1 [(.bool (QS x0 l1 l2 v12 v14))]) (Zz (v13++[(QS x0 l1 l2 v12 v14)]))) (pp (pp (xF (Zo (Zz v13) 0 v13.length 1 [(.bool (QS x0 l1 l2 v12 v14))])) (fl v9 nn)) (ww o4 (pp (pp (xr l2) (xw o3)) (ww o2 (ww o1 (pp (pp (xr l1) (xw o0)) (ww o2 (ww o1 (tt k0 nn))))))))))))))))))) (fun k0=>let d:=CM (B4 l1) (B4 l2);let f:=Zz (Jf l1 l2);(Wj (sl Ew (C':=⟨⟨121,0,true⟩,(CV prog 149 [1,1,1,1,1,0,1,0,0,1,0,0,1,1,0] 2),(Zf prog 149 [1,1,1,1,1,0,1,0,0,1,0,0,1,1,0] 1),none,(Zy prog 7),⟨Ye [(0,(ii x0)),(1,(.dat l1.length (Zz l1))),(2,(.dat l2.length (Zz l2))),(7,(.dat d.length (Zz d))),(8,(.dat (Jf l1 l2).length f)),(9,(.sla 0 4 0 v9.length (.un 4))),(10,(.dat v10.length (Zz v10))),(11,(ii v11)),(12,(ii v12)),(62,(.dat (Jf l1 l2).length f)),(63,(.dat v13.length (Zz v13)))],Xs [⟨rows v9.length (Zz v9),168,some ⟨4,v9.length,(Zz v9)⟩⟩] 0,1,[],true⟩,[],.leaf⟩) 14 [] ⟨[1],[0],[some [0,1,2,7,8,9,10,11,12,62,63]],[]⟩ ⟨[(63,.frz v13.length v13.length (Zz v13) (Zz v13))],[],[]⟩ [false] (pp (xZ (DW 1 1 0 v13.length v13.length (Zz v13)) v13.length (Zz v13)) (pp (xL v13.length v13.length) (pp (xS v13.length (Zz v13) (Zz v13)) (pp (fl v9 nn) (pp (fl v13 nn) (tt k0 nn))))))) (lo fun aG=>let c:=pp (xr v13) (xw aG);(lb (fun k1=>(lo fun bJ=>let e:=pp (xr v10) (xw bJ);(lb (fun k2=>(sl Ew 23 [] ⟨[0],[],KD,KF⟩ b7 (CE 4 []) (pp (fl v9 nn) (tt k2 (pp (pp (xI R2 (Cx (B4 (Jf l1 l2)) (B4 v13)).length (Zz (Cx (B4 (Jf l1 l2)) (B4 v13)))) e) (tt k1 (pp (pp (xI Int (Jf l1 l2).length (Zz (Jf l1 l2))) c) nn))))))) (fun k2=>(sl Ew 30 [] ⟨[0],[],j1d,j1f⟩ b7 (CE 3 [false]) (pp (fl v9 nn) (tt k2 (pp (pp (xI R2 (Cx (B4 (Jf l1 l2)) (B4 v13)).length (Zz (Cx (B4 (Jf l1 l2)) (B4 v13)))) e) (tt k1 (pp (pp (xI Int (Jf l1 l2).length (Zz (Jf l1 l2))) c) nn)))))))))) (fun k1=>(sl Ew 30 [] ⟨[0],[],j1d,j1f⟩ b7 (bl 4 0) (pp (fl v9 nn) (tt k1 (pp (pp (xI Int (Jf l1 l2).length (Zz (Jf l1 l2))) c) nn))))))))))
 | .h2 v9 v10 v11 v12 v15 v17=>(lb (fun k0=>(lo fun o0=>(lo fun o1=>(lo fun o2=>(lo fun o3=>let c:=xL (v9.length+1) (ZY v9 l1 l2 v12 v15 v17).length;let d:=ZY v9 l1 l2 v12 v15 v17;(sl Ew 20 [] ⟨[2],[],j1d,j1f⟩ ⟨[(9,.len d.length)],[.rowed 4 d.length (Zz d)],[]⟩ [true] (pp c (pp c (pp (xS (v9.length+1) (Zo (Zz v9) 0 v9.length 4 [(ii (rd (CM (B4 l1) (B4 l2)) (tn v12))),(ii (rd v15 (tn v17)).a),(ii (rd (CM (B4 l1) (B4 l2)) (tn (wr (v12+1))))),(ii (rd v15 (tn v17)).b)]) (Zz (ZY v9 l1 l2 v12 v15 v17))) (pp (pp (xF (Zo (Zz v9) 0 v9.length 4 [(ii (rd (CM (B4 l1) (B4 l2)) (tn v12))),(ii (rd v15 (tn v17)).a),(ii (rd (CM (B4 l1) (B4 l2)) (tn (wr (v12+1))))),(ii (rd v15 (tn v17)).b)])) nn) (ww o3 (ww o2 (ww o1 (ww o2 (ww o0 (tt k0 nn)))))))))))))))) (fun k0=>(sl Ew 17 [] ⟨[0],[],j1e,j1g⟩ b7 [false] (pp (fl v9 nn) (tt k0 nn)))))
 | .h3 v9 v10 v11 v12 v16=>(lb (fun k0=>(lo fun o0=>(lo fun o1=>(lo fun o2=>let a:=xL v9.length (ZX v9 v16 l1 l2 v12).length;let b:=ZX v9 v16 l1 l2 v12;(sl Ew 31 [] ⟨[0],[],KD,KF⟩ ⟨[(9,.len b.length)],[.rowed 4 b.length (Zz b)],[]⟩ [true] (pp a (pp a (pp (xS v9.length (Xw (Zz v9) (0+(tn v16)) 2 [(ii (rd (CM (B4 l1) (B4 l2)) (tn (wr (v12+1)))))]) (Zz (ZX v9 v16 l1 l2 v12))) (pp (pp (xF (Xw (Zz v9) (0+(tn v16)) 2 [(ii (rd (CM (B4 l1) (B4 l2)) (tn (wr (v12+1)))))])) nn) (ww o2 (ww o1 (ww o0 (tt k0 nn))))))))))))) (fun k0=>(sl Ew 17 [] ⟨[0],[],j1e,j1g⟩ b7 [false] (pp (fl v9 nn) (tt k0 nn)))))
theorem w0s (x0:Int) (l1:List R4) (l2:List R4):Wp prog (Zy prog 149) (M7 x0 l1 l2) (Zg prog 149 [(.int .i64 x0),(.dat l1.length (Zz l1)),(.dat l2.length (Zz l2))] true []) (VK x0 l1 l2):=(lo fun o0=>(lo fun o1=>(sl Ew 34 [(168,4,Zz ([]:List R4))] ⟨[0],[],j1e,j1g⟩ ⟨[(9,.grow 0 4),(10,.list 0 (Zz ([]:List R2)))],[],[]⟩ [] (pp (fl ([]:List R4) nn) (pp (pp (xr l1) (pp (xr l2) (xw o1))) (pp (pp (xr l1) (pp (xr l2) (xw o0))) nn))))))
theorem u1e (x0:Int) (l1:List R4) (l2:List R4) (n:Nat) (vs:List B3) (h:Yw (Uu x0 l1 l2) n (VK x0 l1 l2)=.ret vs):Kj prog (Zy prog 149) (Zg prog 149 [(.int .i64 x0),(.dat l1.length (Zz l1)),(.dat l2.length (Zz l2))] true []) vs:=by have:=Ze (w9g x0 l1 l2) n _ (w0s x0 l1 l2);rwa [h] at this
theorem z3l : ∀(l out:List Int),(l.foldl D7 out).length <=out.length+l.length
 | [],out=>An _
 | x::l,out=>AN (z3l l (D7 out x)) (by have:=y7t out x;simp;omega)
theorem X9 (l:List Int):(Ce l).length <=l.length:=by
 grind [z3l,Ce]
theorem y8u (cuts:List Int) (ins:List Bool): ∀(k i:Nat) (out:List R2),(Fe cuts ins k i out).length <=out.length+k
 | 0,_,out=>An _
 | k+1,i,out=>by
  unfold Fe;refine AN (y8u cuts ins k (i+1) _) ?_;cases rd ins i
  .simp only [Ab];omega
  .simp only [Af];cases (decide (0<out.length)&&((rd out (out.length - 1)).b == rd cuts i)) <;> simp <;> omega
theorem w4b (cuts:List Int) (ins:List Bool):(Cx cuts ins).length <=cuts.length:=by
 grind [y8u,Cx]
section
variable (kind:Int) (l m:List R4)
def HX (x:Int) (y:Int):Bool:=Lk kind (E9 l x y) (E9 m x y)
def Ej (x:Int):List R2:=Cx (CX l m) ((CX l m).map (HX kind l m x))
def Gg (out:List R4) (first:Nat) (x:Int):List R4:=out.take first++(out.drop first).map fun r=>⟨r.a,r.b,x,r.d⟩
def Nd (x x':Int) (s:List R2):List R4:=s.map fun p=>⟨x,p.a,x',p.b⟩
def jF :Nat->Nat->List R4->List R2->Nat->List R4
 | 0,_,out,_,_=>out
 | k+1,i,out,last,first=>
  bif decide (0<i)&&E5 (Ej kind l m (rd (CM l m) i)) last then jF k (i+1) (Gg out first (rd (CM l m) (i+1))) last first
  else jF k (i+1) (out++Nd (rd (CM l m) i) (rd (CM l m) (i+1)) (Ej kind l m (rd (CM l m) i))) (Ej kind l m (rd (CM l m) i)) out.length
def Cm :List R4:=jF kind l m ((CM l m).length - 1) 0 [] [] 0
end
def I6 (_:Int) (l m:List R4):Bool:=decide (l.length<=10000/\m.length<=10000)
theorem Qk (l m:List R4):(CM l m).length <=2*l.length+2*m.length:=by
 refine AN (X9 _) ?_
 grind [YC]
theorem x0n (l m:List R4):(CX l m).length <=2*l.length+2*m.length:=by
 refine AN (X9 _) ?_
 grind [YD]
section
variable (kind:Int) (l m:List R4) (hl:l.length<=10000) (hm:m.length<=10000)
include hl hm
theorem u6x (out:List R4) (last:List R2) (first:Int) (i:Nat) (hi:i+1<(CM l m).length): ∀(k j:Nat) (acc:List Bool),j+k=(CX l m).length ->acc.length=j->
  ∃n,∀N,Yw (Uu kind l m) (N+n) (.to (.h1 out last first (i:Int) acc (j:Int)))=Yw (Uu kind l m) N (.to (.h1 out last first (i:Int) (acc++((CX l m).drop j).map (HX kind l m (rd (CM l m) i))) ((CX l m).length :Int)))
 | 0,j,acc,h,ha=>by
  refine ⟨0,fun N=> ?_⟩
  grind
 | k+1,j,acc,h,ha=>by
  have hx:=Qk l m;have hy:=x0n l m;obtain ⟨n,hn⟩:=u6x out last first i hi k (j+1) (acc++[HX kind l m (rd (CM l m) i) (rd (CX l m) j)]) (by omega) (by simp [ha])
  refine ⟨n+1,fun N=> ?_⟩;have w1: ∀x y,PV l x y=true:=fun x y=>Aa (by omega);have w2: ∀x y,PV m x y=true:=fun x y=>Aa (by omega);rw [Xx (show j<(CX l m).length by omega),A5,<-AO,Zw];simp (disch:=omega) only [Uu,Yg,Zt,w1,w2,Yb,Ym,Xi,Xn,Yf,Zm,Zk,Xr,Zj,Al,AA,Aq,Ar,Af];have:=hn N;rw [AH] at this;exact this
theorem u6w (last:List R2) (first:Int) (i:Nat) (hi:i+1<(CM l m).length) (s:List R2) (hs:s.length<=1000000): ∀(k j:Nat) (out:List R4),j+k=s.length->out.length<=10000000000+j->
  ∃n,∀N,Yw (Uu kind l m) (N+n) (.to (.h2 out last first (i:Int) s (j:Int)))=Yw (Uu kind l m) N (.to (.h0 (out++Nd (rd (CM l m) i) (rd (CM l m) (i+1)) (s.drop j)) last first ((i+1:Nat):Int)))
 | 0,j,out,h,ho=>by
  have hx:=Qk l m;refine ⟨1,fun N=> ?_⟩
  grind [Zw,Uu,Zm,Nd]
 | k+1,j,out,h,ho=>by
  have hx:=Qk l m;obtain ⟨n,hn⟩:=u6w last first i hi s hs k (j+1) (out++Nd (rd (CM l m) i) (rd (CM l m) (i+1)) [rd s j]) (by omega) (by simp [Nd];omega)
  refine ⟨n+1,fun N=> ?_⟩;have:=hn N;rw [Xx (show j<s.length by omega),<-AO,Zw];simp (disch:=omega) only [Uu,Yg,Zt,Yb,Ym,Xi,Xn,Yf,Zm,Zk,Xr,Zj,Al,AA,Aq,Ar,Af];rw [AH] at this;exact this
theorem u4l (out:List R4) (j:Nat) (x:Int) (h:j<out.length):Gg (out.set j ⟨(rd out j).a,(rd out j).b,x,(rd out j).d⟩) (j+1) x=Gg out j x:=by
 have _uhl:=hl;have _uhm:=hm;unfold Gg;rw [Xx h,A5];have e1:(out.set j ⟨(rd out j).a,(rd out j).b,x,(rd out j).d⟩).take (j+1)=out.take j++[⟨(rd out j).a,(rd out j).b,x,(rd out j).d⟩]:=by
  apply Bo;all_goals grind
 have e2:(out.set j ⟨(rd out j).a,(rd out j).b,x,(rd out j).d⟩).drop (j+1)=out.drop (j+1):=by rw [List.drop_set];grind
 grind
theorem u6v (last:List R2) (first:Int) (i:Nat) (hi:i+1<(CM l m).length): ∀(k j:Nat) (out:List R4),j+k=out.length->out.length<=10000000000->
  ∃n,∀N,Yw (Uu kind l m) (N+n) (.to (.h3 out last first (i:Int) (j:Int)))=Yw (Uu kind l m) N (.to (.h0 (Gg out j (rd (CM l m) (i+1))) last first ((i+1:Nat):Int)))
 | 0,j,out,h,ho=>by
  have hx:=Qk l m;refine ⟨1,fun N=> ?_⟩;have e:Gg out j (rd (CM l m) (i+1))=out:=by
   grind [Gg]
  grind [Zw,Uu,Zm]
 | k+1,j,out,h,ho=>by
  have hx:=Qk l m;obtain ⟨n,hn⟩:=u6v last first i hi k (j+1) (out.set j ⟨(rd out j).a,(rd out j).b,rd (CM l m) (i+1),(rd out j).d⟩) (by simp;omega) (by grind)
  refine ⟨n+1,fun N=> ?_⟩;have:=hn N;rw [u4l l m hl hm out j _ (by omega)] at this;rw [<-AO,Zw];simp (disch:=omega) only [Uu,Yg,Zt,Yb,Ym,Xc,Xi,Xn,Yf,Zm,Zk,Xr,Zj,Al,AA,Aq,Ar,Af];exact this
theorem v4q : ∀(k i:Nat) (out:List R4) (last:List R2) (first:Nat),k=(CM l m).length - 1 - i->i<=(CM l m).length ->out.length<=i*40000->last.length<=40000->first<=out.length->
  ∃n,Yw (Uu kind l m) n (.to (.h0 out last (first:Int) (i:Int)))=.ret [.dat (jF kind l m k i out last first).length (Zz (jF kind l m k i out last first))]
 | 0,i,out,last,first,h,hi,ho,hla,hf=>by
  have hx:=Qk l m;refine ⟨1,?_⟩
  grind [Zw,Uu,Yg,Zm,Zh,jF]
 | k+1,i,out,last,first,h,hi,ho,hla,hf=>by
  have hx:=Qk l m;have hy:=x0n l m;have hi1:i+1<(CM l m).length :=by omega
  have hsl:(Ej kind l m (rd (CM l m) i)).length <=40000:=AN (w4b _ _) (by omega);have hbig:i*40000<=40000*40000:=AE _ (by omega);obtain ⟨n1,h1⟩:=u6x kind l m hl hm out last first i hi1 (CX l m).length 0 [] (Al _) rfl
  simp only [AR,A1,HM] at h1;have w3:V4 (CX l m) ((CX l m).map (HX kind l m (rd (CM l m) i)))=true:=Aa ⟨by omega,by grind⟩;have w4:Kx (Cx (CX l m) ((CX l m).map (HX kind l m (rd (CM l m) i)))) last=true:=Aa (AN hsl (by omega));have hy2:((CX l m).length :Int)=(((CX l m).length :Nat):Int):=rfl;unfold jF;rcases Vr (decide (0<i)&&E5 (Ej kind l m (rd (CM l m) i)) last) with q | q
  .obtain ⟨n3,h3⟩:=u6v kind l m hl hm last first i hi1 (out.length - first) first out (by omega) (by omega)
   obtain ⟨n0,h0⟩:=v4q k (i+1) (Gg out first (rd (CM l m) (i+1))) last first (by omega) (by omega) (by simp [Gg];omega) hla (by simp [Gg];omega)
   refine ⟨n0+n3+1+n1+1,?_⟩;rw [q,Af,Zw];simp only [Ad,Ak] at q;have q2:E5 (Cx (CX l m) ((CX l m).map (HX kind l m (rd (CM l m) i)))) last=true:=q.2;simp (disch:=omega) only [Uu,Yg,Zt,Yb,Zm,Zk,Af];simp_all [Zw,Uu,Yg]
  .obtain ⟨n2,h2⟩:=u6w kind l m hl hm (Ej kind l m (rd (CM l m) i)) (out.length:Int) i hi1 (Ej kind l m (rd (CM l m) i)) (by omega) (Ej kind l m (rd (CM l m) i)).length 0 out (Al _) (by omega);obtain ⟨n0,h0⟩:=v4q k (i+1) (out++Nd (rd (CM l m) i) (rd (CM l m) (i+1)) (Ej kind l m (rd (CM l m) i))) (Ej kind l m (rd (CM l m) i)) out.length (by omega) (by omega) (by simp [Nd];omega) hsl (by simp);refine ⟨n0+n2+1+n1+1,?_⟩;rw [q,Ab,Zw];simp (disch:=omega) only [Uu,Yg,Zt,Yb,Zm,Zk,Af];have h1':=h1 (n0+n2+1);rw [h1',Zw];have h2':=h2 n0;simp only [AR,HM] at h2';by_cases hi0:0<i
   .rw [Aa hi0,Ar] at q;have q2:E5 (Cx (CX l m) ((CX l m).map (HX kind l m (rd (CM l m) i)))) last=false:=q;simp (disch:=omega) only [Uu,Yg,Zt,Yt,Xv,q2,w3,w4,Af,Ab];rw [<-h0];exact h2'
   .simp (disch:=omega) only [Uu,Yg,Zt,Yt,Wz,w3,w4,Af,Ab];rw [<-h0];exact h2'
end
theorem j1c (kind:Int) (l m:List R4) (h:I6 kind l m=true): ∃N,Yw (Uu kind l m) N (VK kind l m)=.ret [.dat (Cm kind l m).length (Zz (Cm kind l m))]:=by obtain ⟨hl,hm⟩:=Av h;obtain ⟨N,hN⟩:=v4q kind l m hl hm ((CM l m).length - 1) 0 [] [] 0 rfl (AF _) (AF _) (AF _) (An _);refine ⟨N,?_⟩;have w1:V1 l m=true:=Aa ⟨hl,hm⟩;have w2:V2 l m=true:=Aa ⟨hl,hm⟩;simp only [VK,Yg,Zt,w1,w2,Af];exact hN
theorem GS {P:Program} {S:B6} (hS:Zv P S) {f:FuncId} {F:List B3->Option (B3×Bool)} (hf:(P.funcs[f]?).any (fun fn=>fn.body.isSome)=true)
  (hF: ∀args v,F args=some (v,true)-> ∃bs vs,Vo DL args bs/\(∀(ρ:B7) (u:Value),Zr ρ (Js vs) u->Zr ρ v u)/\Kj P (Zy P f) (Zg P f bs true []) vs/\ ∃d,pf d (Js vs)=true):Zv P (S.with f F):=
 x0s hS hf fun args v h=>by obtain ⟨bs,vs,h1,h2,h3,d,h4⟩:=hF args v h;exact ⟨vs,h2,Y2 h1 h3,d,h4⟩
theorem Gn {cs cs':List B3} (h:Ci cs cs') (ρ:B7) (u:Value) (hv:Zr ρ (.tup cs) u):Zr ρ (.tup cs') u:=by
 cases hv with
 | tup _ vs hl hh=>exact .tup cs' vs (by rw [<-h.len];exact hl) fun i h1 h2=>h.sound i (by rw [h.len];exact h1) h1 (hh i (by rw [h.len];exact h1) h2)
theorem Gv (α:Type) [Xu α]:DL .nils (.dat ([]:List α).length (Zz ([]:List α))):=.nild _
def fJo :List B3->Option (B3×Bool)
 | [.int .i64 x0,a1,a2]=>match Cc R4 a1,Cc R4 a2 with
  | some (L1,g1,n1),some (L2,g2,n2)=>some (.dat (Cm x0 L1 L2).length (Zz (Cm x0 L1 L2)),CT R4 n1 g1&&(CT R4 n2 g2&&(I6 x0 L1 L2)))
  | _,_=>none
 | _=>none
theorem OW {S:B6} (hS:Zv prog S):Zv prog (S.with u7v fJo):=by
 refine CS hS (by kernel_rfl) fun args v h=> ?_;unfold fJo at h;split at h
 .rename_i x0 a1 a2;split at h
  .rename_i L1 g1 n1 L2 g2 n2 e1 e2;simp only [Ae,Ac,Ad] at h;obtain ⟨rfl,ho1,ho2,hw⟩:=h;obtain ⟨N,hN⟩:=j1c x0 L1 L2 hw;exact ⟨_,_,(.cons (.refl _) (.cons (Xh e1 ho1) (.cons (Xh e2 ho2) .nil))),rfl,u1e x0 L1 L2 N _ hN,3,rfl⟩
  .cases h
 .cases h
def T3 :B6:=T2.with u7v fJo
theorem Ex :Zv prog T3:=OW Ew
def Ok (r:R3):Bool:=decide (-1000000000<=r.a/\r.a<=1000000000)
def Dr (l:List R3):Bool:=l.all Ok
abbrev E3 :={r:R3 // Ok r=true}
instance : Inhabited E3:=⟨⟨⟨0,0,0⟩,rfl⟩⟩
def Oi (x y:E3):Int:=x.1.a - y.1.a
def Ht (x y:E3):Bool:=decide (Oi x y<0)
theorem SN :SWO Ht where
 irrefl x:=by unfold Ht Oi;simp
 trans x y z h1 h2:=by unfold Ht Oi at*;simp at*;omega
 ntrans x y z h1 h2:=by unfold Ht Oi at*;simp at*;omega
def Dq :(l:List R3)->Dr l=true->List E3
 | [],_=>[]
 | r::l,h=>⟨r,by simp [Dr] at h;exact h.1⟩::Dq l (by simp [Dr] at h ⊢;exact h.2)
theorem U2 : ∀(l:List R3) (h:Dr l=true),(Dq l h).map Subtype.val=l
 | [],_=>rfl
 | r::l,h=>by rw [Dq,A5,U2 l]
theorem Qd (l:List R3) (h:Dr l=true):(Dq l h).length =l.length:=by
 have:=Au List.length (U2 l h)
 simpa using this
def Cv (l:List R3):List R3:=if h:Dr l=true then (pdq Ht (Dq l h).toArray 0 l.length (Lib.bitLen l.length) true true).toList.map Subtype.val else l
theorem PS (l:List R3) (h:Dr l=true):(Cv l).Perm l/\ ∀i j,i<j->j<(Cv l).length ->(rd (Cv l) i).a <=(rd (Cv l) j).a :=by
 have hp:=pdq_sorts Ht SN (Dq l h).toArray 0 l.length (Lib.bitLen l.length) true true (AF _) (by simp [Qd]) (Or.inl rfl);obtain ⟨⟨h1,h2,h3⟩,h4⟩:=hp;have e:Cv l=(pdq Ht (Dq l h).toArray 0 l.length (Lib.bitLen l.length) true true).toList.map Subtype.val:=by unfold Cv;rw [dif_pos h]
 generalize pdq Ht (Dq l h).toArray 0 l.length (Lib.bitLen l.length) true true=d at*;have hs:d.size=l.length:=by rw [h1];simp [Qd]
 constructor
 .rw [e];have x1:(d.extract 0 l.length).toList =d.toList:=by rw [<-hs];simp
  have x2:((Dq l h).toArray.extract 0 l.length).toList =Dq l h:=by rw [show l.length=(Dq l h).toArray.size by simp [Qd]];simp
  rw [x1,x2] at h3;have:=h3.map Subtype.val;rw [U2] at this;exact this
 .intro i j hij hj;rw [e] at hj ⊢;have hj':j<d.size:=by simpa using hj
  have:=h4 i j (AF _) hij (by omega);rw [getElem!_pos d i (by omega),getElem!_pos d j hj'] at this;rw [Wb (by simp;omega),Wb hj];simp only [BK,Array.getElem_toList];unfold Ht Oi at this;have:=of_decide_eq_false this;omega
open Go.RowKit Go.Shelf
variable {P:Program} {ρ:B7}
def Db :B3->Value
 | .int k n=>.int k n
 | .bool b=>.bool b
 | _=>.tuple #[]
def MA :B3->Bool
 | .int _ _=>true
 | .bool _=>true
 | _=>false
theorem w1w {α:Type} [Xu α] (L:List α) (n:Nat) (ty:TypeId) (a:Option DR):(⟨Go.Am.rows n (Zz L),ty,a⟩:B8).isObj =false:=x1j (fun k v hv=>Ax.1 (Xu.sc _) v hv) _ _
theorem v2z {a:B3} (h:MA a=true):Zr ρ a (Db a):=by
 cases a <;> first
  | exact .int _ _
  | exact .bool _
  | (simp [MA] at h;done)
theorem v4u {a:B3} {v:Value} (h:MA a=true) (hv:Zr ρ a v):v=Db a:=by
 cases hv <;> first
  | rfl
  | (simp [MA] at h;done)
class Iq (α:Type) extends Xu α where
 num: ∀a:α,(cells a).all MA=true
instance : Iq R2 where num _:=rfl
instance : Iq R3 where num _:=rfl
instance : Iq R4 where num _:=rfl
instance : Iq R6 where num _:=rfl
instance {α :Type} [Xu α]:Inhabited α:=⟨Xu.d⟩
section
variable {α:Type} [Iq α]
def FF (a:α):List Value:=(Xu.cells a).map Db
theorem w3v (a:α):(FF a).length =Xu.w α:=by rw [FF,Bs,Xu.len]
theorem w7g (L:List α) (t:Nat) (h:t<L.length*Xu.w α):(flatK FF (Xu.w α) L.toArray)[t]? =(Xu.cells (rd L (t / Xu.w α)))[t %Xu.w α]?.map Db:=by
 have hw:=Xu.pos (α:=α);have hq:t / Xu.w α<L.length:=Bf (by grind);have hj:t %Xu.w α<Xu.w α:=Bw _ hw
 grind [flatK,FF,Wb,Xu.len]
theorem v4k (L:List α) (N t:Nat) (h:t<N*Xu.w α):(rows N (Zz L))[t]? =(Xu.cells (rd L (t / Xu.w α)))[t %Xu.w α]? :=by have hw:=Xu.pos (α:=α);have:=Va (get:=Zz L) (sz:=Xu.w α) N (fun _ _=>Xu.len _) (t / Xu.w α) (t %Xu.w α) (Bf (by grind)) (Bw _ hw);rw [show t / Xu.w α*Xu.w α+t %Xu.w α=t by rw [BH];exact BA t _] at this;exact this
theorem UE (L:List α) (N:Nat):(rows N (Zz L)).length =N*Xu.w α:=Yq N fun _ _=>Xu.len _
theorem Y6 (w:World) (n blk off:Nat) (d:Array Value) (os:Array Obj) (k:Nat) (hk:k<w.heap.size):
  (grow (putRow id (Go.Sort.ahead w n) blk off d) os).heap[k]? =if k=blk then (w.heap[k]?).map (onCells (putCells id off d)) else w.heap[k]? :=by
 show (((Go.Sort.ahead w n).heap.modify blk (onCells (putCells id off d)))++os)[k]? =_;rw [Array.getElem?_append_left (by simp_all),BE];show (if blk=k then _ else _)=_;by_cases h:k=blk
 .simp_all
 .rw [Az (fun e=>h e.symm),Az h];rfl
def WV (α:Type) [Xu α] (srt:List α->List α) (bnd:List α->Bool) (g:FuncId) (args:List B3) (mem:CD):Option (B3×Nat×B8×Bool):=match args with
 | [.sla b sz off n cap,.fn f []]=>bif Nat.beq f g then match Yi mem b with
  | some ⟨_,ty,some A⟩=>some (.tup [],b,⟨rows A.n (Zz (srt (Cf α n A.get))),ty,some ⟨Xu.w α,A.n,Zz (srt (Cf α n A.get))⟩⟩,
    Nat.beq sz (Xu.w α)&&(Nat.beq A.sz (Xu.w α)&&(Nat.beq off 0&&((decide (n=A.n)&&(CT α n A.get&&decide (n<4611686018427387904)))&&bnd (Cf α n A.get)))))
  | _=>none
  else none
 | _=>none
theorem v7w {f g:FuncId} {srt:List α->List α} {bnd:List α->Bool} (hsl: ∀L,(srt L).length =L.length)
  (hC: ∀(blk off cap:Nat) (L:List α) (w:World),bnd L=true->HoldsK FF (Xu.w α) w blk off L.toArray->blk<w.heap.size->L.length<4611686018427387904->
   Calls P f #[.slice (some ⟨blk,off,none⟩) L.length cap,.func (.func g) #[] #[]] w fun e w'=>e=.returned (.tuple #[])/\ ∃n os,w'=sortWorldK FF (Xu.w α) w blk off n (srt L).toArray os)
  (hN: ∀(p:Option Addr) (cap:Nat) (fv:Value) (w:World),Calls P f #[.slice p 0 cap,fv] w fun e w'=>e=.returned (.tuple #[])/\w'=w):Gd P f (WV α srt bnd g):=by
 intro args mem v b blk h gD ρ next floor vals w hfl eG eD
 have hw0:=Xu.pos (α:=α);unfold WV at h;split at h
 .rename_i b0 sz off n cap f0;obtain ⟨hfg,h'⟩:=Qr h;clear h;obtain rfl:=Ah hfg;have h:=h';clear h';split at h
  .rename_i cells ty A hm;obtain ⟨asz,an,get⟩:=A;simp only [Ae,Ac,Ad] at h;obtain ⟨rfl,rfl,rfl,h1,h2,h3,⟨h4,h5,h6⟩,h7⟩:=h;have g1:=Ah h1;have g2:=Ah h2;have g3:=Ah h3;have g4:n=an:=Av h4;have h6:n<4611686018427387904:=Av h6;have g2:asz=Xu.w α:=g2;subst g1;subst g2;subst g3;subst g4;have h7:bnd (Cf α n get.get)=true:=h7;have eL:=w6w h5;have eL: ∀i,i<n->get.get i=Zz (Cf α n get.get) i:=eL;have hrows:rows n get.get=rows n (Zz (Cf α n get.get)):=Z1 n eL;obtain ⟨u,hu,fH⟩: ∃u,Zr ρ (.sla b0 (Xu.w α) 0 n cap) u/\vals= #[u,.func (.func f0) #[] #[]]:=by
    obtain ⟨vl⟩:=vals;cases eG with
    | cons q1 q2=>cases q2 with
     | cons q3 q4=>
      cases q4;cases q3 with
      | fn _ _ cvs hl _=>
       grind
   subst fH;have hlt:b0<next:=by
    rcases Ba b0 next with q | q
    .exact q
    .have:=eD.bd b0 q;grind
   show Calls P f _ w _;have hAget:(DR.get ⟨Xu.w α,n,get⟩)=get.get:=rfl;rw [hAget] at*;generalize hI:Cf α n get.get=I at*;have hIl:I.length=n:=by rw [<-hI];exact x1l _ _
   generalize hL:srt I=L;have hLl:L.length=n:=by grind
   have hnn:ρ b0=none-> ∀cs ty',Yi mem b0≠some ⟨cs,ty',none⟩:=fun _ cs ty' e=>by grind
   cases hu with
   | sla _ _ _ _ _ l cc e hc eE=>
    have hbk:=(eD.blk b0 l _ e hm).rows rfl;obtain ⟨har,_,_⟩:=hbk.arr _ rfl;have har:cells=rows n get.get:=har;rw [hrows] at har;subst har;obtain ⟨cur,el,hh,hsz,eJ⟩:=hbk.cells;simp only [UE] at eJ;have htot:=hbk.tot;have hln:=hbk.n;simp only [UE] at hln;have eY: ∀t,t<n*Xu.w α->cur[l.base+t]? =(Xu.cells (rd I (t / Xu.w α)))[t %Xu.w α]?.map Db:=fun t ht=>by
     obtain ⟨v,e1,e2⟩:=eJ t ht;have hj:t %Xu.w α<Xu.w α:=Bw _ hw0;have hl2:t %Xu.w α<(Xu.cells (rd I (t / Xu.w α))).length :=by rw [Xu.len];exact hj
     have e3:=v4k I n t ht
     grind [v4u,Iq.num]
    have fM:=eD.real b0 l e;have hH:HoldsK FF (Xu.w α) w l.blk (l.base+0*Xu.w α) I.toArray:=fun j hj=>by
     have hj:j<n*Xu.w α:=(by simp_all);have hs:j<(flatK FF (Xu.w α) I.toArray).size :=(by grind);have e1:=w7g I j (by grind)
     grind [World.cell?,World.frozen?]
    have eS:=hC l.blk (l.base+0*Xu.w α) cc I w h7 hH fM (by omega);rw [hIl,hL] at eS;refine eS.mono fun e' w' ⟨he,q,os,hw'⟩=>⟨_,he,?_,?_,?_⟩
    .exact .tup [] #[] rfl fun i h1 h2=>absurd h1 (AC _)
    .subst hw';refine B9.setArr ?_ ⟨Xu.w α,n,.flat (Zz L)⟩ (w1w _ _ _ _) rfl hw0 fun _ _=>Xu.len _;refine B9.rewritten eD e hm (by simp only [UE]) (fun k hk hne=> ?_) ?_ hbk.noObj ?_
     .exact (Y6 _ _ _ _ _ _ _ hk).trans (Az hne)
     .show _<=(((Go.Sort.ahead w q).heap.modify _ _)++os).size;simp_all
     .refine ⟨putCells id (l.base+0*Xu.w α) (flatK FF (Xu.w α) L.toArray) cur,el,?_,fun _ _ _=>hbk.typ _ _ _ hh,?_,fun i hi=> ?_⟩
      .refine (Y6 _ _ _ _ _ _ _ fM).trans ?_;rw [AG rfl,hh];rfl
      .grind [putCells]
      .rw [UE] at hi;have hj:i %Xu.w α<Xu.w α:=Bw _ hw0;have hl2:i %Xu.w α<(Xu.cells (rd L (i / Xu.w α))).length :=by rw [Xu.len];exact hj
       have hl3:i %Xu.w α<(Xu.cells (rd I (i / Xu.w α))).length :=(by grind);have e1:=w7g L i (by grind);rw [As hl2,BU] at e1;have hs:i<(flatK FF (Xu.w α) L.toArray).size :=(by grind);rw [BF hs] at e1;have e3:=v4k L n i hi;rw [As (by grind),As hl2] at e3;refine ⟨Db (Xu.cells (rd L (i / Xu.w α)))[i %Xu.w α],?_,?_⟩
       .simp_all [putCells]
       grind [v2z,Iq.num]
    .subst hw';refine Ev.rewritten eD _ (fun l' _=>hfl) hnn (fun k hk hne=> ?_) ?_ rfl rfl rfl
     .exact (Y6 _ _ _ _ _ _ _ hk).trans (Az (hne l e))
     .show _<=(((Go.Sort.ahead w q).heap.modify _ _)++os).size;simp_all
   | slan=>
    have hI0:I=[]:=Bt hIl;have hL0:L=[]:=Bt hLl;refine (hN none 0 _ w).mono fun e' w' ⟨he,hw'⟩=>⟨_,he,?_,?_,?_⟩
    .exact .tup [] #[] rfl fun i h1 h2=>absurd h1 (AC _)
    .subst hw';refine eD.reblk hm fun l hρ hbk=> ?_;have hbk:=hbk.rows rfl;obtain ⟨har,fY,_⟩:=hbk.arr _ rfl;have har:cells=rows 0 get.get:=har;subst har;exact .plain ⟨hbk.typ,hbk.n,hbk.tot,fun B hB=>by obtain rfl:=Ag hB;exact ⟨rfl,hw0,fun i hi=>absurd hi (AC _)⟩,hbk.cells⟩
    grind [Ev.rewritten]
  .cases h
 .cases h
end
def B6.withE (S:B6) (f:FuncId) (F:List B3->CD->Option (B3×Nat×B8×Bool)):B6:=fun g=>bif Nat.beq g f then some (.eff F) else S g
theorem x2m {P:Program} {S:B6} (hS:Zv P S) {f:FuncId} {F:List B3->CD->Option (B3×Nat×B8×Bool)} (hf:(P.funcs[f]?).any (fun fn=>fn.body.isSome)=true) (hF:Gd P f F):Zv P (S.withE f F):=by
 intro g G hg;unfold B6.withE at hg;cases hgf:Nat.beq g f with
 | false=>rw [hgf] at hg;exact hS g G hg
 | true=>
  rw [hgf] at hg;obtain rfl:N7.eff F=G:=Ag hg;obtain rfl:g=f:=Ah hgf;refine ⟨?_,hF⟩
  grind
end Go.Am
namespace Go.Proofs
open Go.Proofs.Tryz
open Go.Shelf Go.RowKit Go.Lib Go.Sort
theorem Tryz.cmpEnd (a b c a' b' c':Int) (h: -1000000000<=a/\a<=1000000000) (h': -1000000000<=a'/\a'<=1000000000) (W:World):
  Calls prog 245 #[.agg #[.int .i64 a,.int .i64 b,.int .i64 c],.agg #[.int .i64 a',.int .i64 b',.int .i64 c']] W fun e w'=>e=.returned (.int .i64 (a - a'))/\ ∃q os',w'=grow (W.drewN q) os':=by
 go_enter Tryz.func245,Tryz.ntmps245
 go_wp2
 go_ret
 exact ⟨rfl,0,_,by rw [alloc_eq_grow,alloc_eq_grow,grow_grow];rfl⟩
end Go.Proofs
namespace Go.Am
open IntKind (wrap)
open Go.Proofs.Tryz
open Go.Proofs
abbrev WP (l1:List R6) (l2:List R6) (v12:Int):=(rd (Uv (B4 l1) (B4 l2)) (tn v12))
abbrev ZZ (v9:List R6) (v14:Int) (l1:List R6) (l2:List R6) (v12:Int):=(v9.set (0+(tn v14)) (R6.mk (rd v9 (0+(tn v14))).a (rd v9 (0+(tn v14))).b (rd v9 (0+(tn v14))).c (rd v9 (0+(tn v14))).d (rd v9 (0+(tn v14))).e (rd (Uv (B4 l1) (B4 l2)) (tn (wr (v12+1))))))
abbrev Z0 (v9:List R6) (v13:List R4) (v15:Int) (l1:List R6) (l2:List R6) (v12:Int):=(v9++[(R6.mk (rd v13 (tn v15)).a (rd v13 (tn v15)).b (WP l1 l2 v12) (rd v13 (tn v15)).c (rd v13 (tn v15)).d (rd (Uv (B4 l1) (B4 l2)) (tn (wr (v12+1)))))])
abbrev Vy (l1:List R6) (l2:List R6) (v12:Int):=(CO (B4 l1) (WP l1 l2 v12))
abbrev Vb (l2:List R6) (l1:List R6) (v12:Int):=(CO (B4 l2) (WP l1 l2 v12))
abbrev v4p (v9:List R6) (v13:List R4) (v15:Int) (l1:List R6) (l2:List R6) (v12:Int):=(Zo (Zz v9) 0 v9.length 6 [(ii (rd v13 (tn v15)).a),(ii (rd v13 (tn v15)).b),(ii (WP l1 l2 v12)),(ii (rd v13 (tn v15)).c),(ii (rd v13 (tn v15)).d),(ii (rd (Uv (B4 l1) (B4 l2)) (tn (wr (v12+1)))))])
def w0r (l1:List R6) (l2:List R6):B3:=(.dat (Uv (B4 l1) (B4 l2)).length (Zz (Uv (B4 l1) (B4 l2))))
inductive He where
 | h0 (v9:List R6) (v10:List R4) (v11:Int) (v12:Int)
 | h1 (v9:List R6) (v10:List R4) (v11:Int) (v12:Int) (v13:List R4) (v15:Int)
 | h2 (v9:List R6) (v10:List R4) (v11:Int) (v12:Int) (v14:Int)
def M6 (x0:Int) (l1:List R6) (l2:List R6):He->CG
 | .h0 v9 v10 v11 v12=>⟨⟨137,0,true⟩,none,(Zf prog 113 [1,1,1,1,1,0,1,0,0] 0),none,(Zy prog 104),⟨Ye [(0,(ii x0)),(1,(.dat l1.length (Zz l1))),(2,(.dat l2.length (Zz l2))),(8,(w0r l1 l2)),(9,(.sla 0 6 0 v9.length (.un 6))),(10,(.dat v10.length (Zz v10))),(11,(ii v11)),(12,(ii v12))],Xs [⟨rows v9.length (Zz v9),79,some ⟨6,v9.length,(Zz v9)⟩⟩] 0,1,[],true⟩,[],.leaf⟩
 | .h1 v9 v10 v11 v12 v13 v15=>⟨⟨137,0,true⟩,none,(Zf prog 113 [1,1,1,1,1,0,1,0,0,1,0,0,1,1,1,1,1,0,0] 0),none,(Zy prog 104),⟨Ye [(0,(ii x0)),(1,(.dat l1.length (Zz l1))),(2,(.dat l2.length (Zz l2))),(8,(w0r l1 l2)),(9,(.sla 0 6 0 v9.length (.un 6))),(10,(.dat v10.length (Zz v10))),(11,(ii v11)),(12,(ii v12)),(13,(.dat v13.length (Zz v13))),(15,(ii v15))],Xs [⟨rows v9.length (Zz v9),79,some ⟨6,v9.length,(Zz v9)⟩⟩] 0,1,[],true⟩,[],.leaf⟩
 | .h2 v9 v10 v11 v12 v14=>⟨⟨137,0,true⟩,none,(Zf prog 113 [1,1,1,1,1,0,1,0,0,1,0,0,1,1,0,1,0,0,1,0,0] 0),none,(Zy prog 104),⟨Ye [(0,(ii x0)),(1,(.dat l1.length (Zz l1))),(2,(.dat l2.length (Zz l2))),(8,(w0r l1 l2)),(9,(.sla 0 6 0 v9.length (.un 6))),(10,(.dat v10.length (Zz v10))),(11,(ii v11)),(12,(ii v12)),(14,(ii v14))],Xs [⟨rows v9.length (Zz v9),79,some ⟨6,v9.length,(Zz v9)⟩⟩] 0,1,[],true⟩,[],.leaf⟩
def j0z :List (Option (List Nat)):=[some [0,1,2,8,9,10,11,12]]
def j1b :List (Option (List Nat)):=[]
def j0y :List (Option (List Nat)):=[some [0,1,2,8,9,10,11,12,13,15]]
def j1a :List (Option (List Nat)):=[]
def KB :List (Option (List Nat)):=[some [0,1,2,8,9,10,11,12,14]]
def KC :List (Option (List Nat)):=[]
def Uh (x0:Int) (l1:List R6) (l2:List R6):He->Xj He
 | .h0 v9 v10 v11 v12=>(bif (decide ((wrap .i64 (v12+1))<(((Uv (B4 l1) (B4 l2)).length :Nat):Int))) then (bif (PE (B4 l1) (rd (Uv (B4 l1) (B4 l2)) v12.toNat)) then (bif ((decide (0<=v12/\v12<(((Uv (B4 l1) (B4 l2)).length :Nat):Int)))&&true) then (bif (PE (B4 l2) (rd (Uv (B4 l1) (B4 l2)) v12.toNat)) then (bif (I6 x0 (B4 (CO (B4 l1) (rd (Uv (B4 l1) (B4 l2)) v12.toNat))) (B4 (CO (B4 l2) (rd (Uv (B4 l1) (B4 l2)) v12.toNat)))) then (bif (decide ((((Cm x0 (B4 (CO (B4 l1) (rd (Uv (B4 l1) (B4 l2)) v12.toNat))) (B4 (CO (B4 l2) (rd (Uv (B4 l1) (B4 l2)) v12.toNat)))).length :Nat):Int)>400)) then (.ret [.nils,(.bool false)]) else (bif (I6 2 (B4 (CO (B4 l1) (rd (Uv (B4 l1) (B4 l2)) v12.toNat))) ([]:List R4)) then (bif (decide ((((Cm 2 (B4 (CO (B4 l1) (rd (Uv (B4 l1) (B4 l2)) v12.toNat))) ([]:List R4)).length :Nat):Int)>400)) then (.ret [.nils,(.bool false)]) else (bif (I6 2 (B4 (CO (B4 l2) (rd (Uv (B4 l1) (B4 l2)) v12.toNat))) ([]:List R4)) then (bif (decide ((((Cm 2 (B4 (CO (B4 l2) (rd (Uv (B4 l1) (B4 l2)) v12.toNat))) ([]:List R4)).length :Nat):Int)>400)) then (.ret [.nils,(.bool false)]) else (bif (decide (v12>0)) then (bif (Ky (B4 (Cm x0 (B4 (CO (B4 l1) (rd (Uv (B4 l1) (B4 l2)) v12.toNat))) (B4 (CO (B4 l2) (rd (Uv (B4 l1) (B4 l2)) v12.toNat))))) (B4 v10)) then (bif (E6 (B4 (Cm x0 (B4 (CO (B4 l1) (rd (Uv (B4 l1) (B4 l2)) v12.toNat))) (B4 (CO (B4 l2) (rd (Uv (B4 l1) (B4 l2)) v12.toNat))))) (B4 v10)) then (.to (.h2 v9 v10 v11 v12 v11)) else (.to (.h1 v9 (Cm x0 (B4 (CO (B4 l1) (rd (Uv (B4 l1) (B4 l2)) v12.toNat))) (B4 (CO (B4 l2) (rd (Uv (B4 l1) (B4 l2)) v12.toNat)))) (v9.length:Int) v12 (Cm x0 (B4 (CO (B4 l1) (rd (Uv (B4 l1) (B4 l2)) v12.toNat))) (B4 (CO (B4 l2) (rd (Uv (B4 l1) (B4 l2)) v12.toNat)))) 0))) else .stuck) else (.to (.h1 v9 (Cm x0 (B4 (CO (B4 l1) (rd (Uv (B4 l1) (B4 l2)) v12.toNat))) (B4 (CO (B4 l2) (rd (Uv (B4 l1) (B4 l2)) v12.toNat)))) (v9.length:Int) v12 (Cm x0 (B4 (CO (B4 l1) (rd (Uv (B4 l1) (B4 l2)) v12.toNat))) (B4 (CO (B4 l2) (rd (Uv (B4 l1) (B4 l2)) v12.toNat)))) 0)))) else .stuck)) else .stuck)) else .stuck) else .stuck) else .stuck) else .stuck) else (.ret [(.dat v9.length (Zz v9)),(.bool (decide ((v9.length:Int)<=400)))]))
 | .h1 v9 v10 v11 v12 v13 v15=>(bif (decide (v15<(v13.length:Int))) then (bif ((decide (0<=v12/\v12<(((Uv (B4 l1) (B4 l2)).length :Nat):Int)))&&true) then (bif ((decide (0<=v15/\v15<(v13.length:Int)))&&true) then (bif ((decide (0<=(wrap .i64 (v12+1))/\(wrap .i64 (v12+1))<(((Uv (B4 l1) (B4 l2)).length :Nat):Int)))&&true) then (bif (Nat.beq 6 6&&((decide (0+v9.length=v9.length))&&decide ((v9.length+1+1)*(48+1)<=Ve))) then (.to (.h1 (v9++[(R6.mk (rd v13 v15.toNat).a (rd v13 v15.toNat).b (rd (Uv (B4 l1) (B4 l2)) v12.toNat) (rd v13 v15.toNat).c (rd v13 v15.toNat).d (rd (Uv (B4 l1) (B4 l2)) (Int.toNat (wrap .i64 (v12+1)))))]) v10 v11 v12 v13 (wrap .i64 (v15+1)))) else .stuck) else .stuck) else .stuck) else .stuck) else (.to (.h0 v9 v10 v11 (wrap .i64 (v12+1)))))
 | .h2 v9 v10 v11 v12 v14=>(bif (decide (v14<(v9.length:Int))) then (bif ((decide (0<=(wrap .i64 (v12+1))/\(wrap .i64 (v12+1))<(((Uv (B4 l1) (B4 l2)).length :Nat):Int)))&&true) then (bif ((decide (0<=v14/\v14<(v9.length:Int)))&&true) then (bif (decide ((0+v14.toNat)<v9.length)) then (.to (.h2 (v9.set (0+v14.toNat) (R6.mk (rd v9 (0+v14.toNat)).a (rd v9 (0+v14.toNat)).b (rd v9 (0+v14.toNat)).c (rd v9 (0+v14.toNat)).d (rd v9 (0+v14.toNat)).e (rd (Uv (B4 l1) (B4 l2)) (Int.toNat (wrap .i64 (v12+1)))))) v10 v11 v12 (wrap .i64 (v14+1)))) else .stuck) else .stuck) else .stuck) else (.to (.h0 v9 v10 v11 (wrap .i64 (v12+1)))))
def VL (x0:Int) (l1:List R6) (l2:List R6):Xj He:=(bif (V6 (B4 l1) (B4 l2)) then (.to (.h0 ([]:List R6) ([]:List R4) 0 0)) else .stuck)
theorem w9f (x0:Int) (l1:List R6) (l2:List R6): ∀s,Wp prog (Zy prog 113) (M6 x0 l1 l2) (M6 x0 l1 l2 s) (Uh x0 l1 l2 s)
 | .h0 v9 v10 v11 v12=>(lb (fun k0=>(lo fun aG=>(lo fun aU=>(lo fun cI=>(lo fun dW=>let b:=pp (xr l1) (xw aG);let c:=pp (xr l2) (xw cI);let a:=pp c (ww aU (pp b (ww aU (tt k0 nn))));(lb (fun k1=>(lr 137 113 [1,1,1,1,1,0,1,0,0,1,0,0,1,0,1,0,0] 1 104 [(6,.nils),(7,(.bool false))] (sl Ex 50 [] (b8 [6,7]) b7 (CE 20 []) (tt k1 (pp (pp (xI R4 (Vy l1 l2 v12).length (Zz (Vy l1 l2 v12))) (pp (xI R4 (Vb l2 l1 v12).length (Zz (Vb l2 l1 v12))) (xw dW))) a))))) (fun k1=>(lo fun bJ=>(lb (fun k2=>let d:=xI R4 (Vy l1 l2 v12).length (Zz (Vy l1 l2 v12));(lr 137 113 [1,1,1,1,1,0,1,0,0,1,0,0,1,0,1,0,0] 1 104 [(6,.nils),(7,(.bool false))] (sl Ex 50 [] (b8 [6,7]) b7 (bl 20 1047553) (tt k2 (pp (pp d (pp (xI R4 0 (fun _=>[])) (xw bJ))) (pp b (ww aU (tt k1 (pp (pp d (pp (xI R4 (Vb l2 l1 v12).length (Zz (Vb l2 l1 v12))) (xw dW))) a))))))))) (fun k2=>(lo fun cS=>(lb (fun k3=>let e:=xI R4 (Vy l1 l2 v12).length (Zz (Vy l1 l2 v12));let j:=xI R4 (Vb l2 l1 v12).length (Zz (Vb l2 l1 v12));let o:=xI R4 0 (fun _=>[]);(lr 137 113 [1,1,1,1,1,0,1,0,0,1,0,0,1,0,1,0,0] 1 104 [(6,.nils),(7,(.bool false))] (sl Ex 50 [] (b8 [6,7]) b7 (bl 20 524289) (tt k3 (pp (pp j (pp o (xw cS))) (pp c (ww aU (tt k2 (pp (pp e (pp o (xw bJ))) (pp b (ww aU (tt k1 (pp (pp e (pp j (xw dW))) a))))))))))))) (fun k3=>(lb (fun k4=>(lo fun dI=>let r:=pp (xr v10) (xw dI);(lb (fun k5=>let f:=xI R4 (Vy l1 l2 v12).length (Zz (Vy l1 l2 v12));let l:=xI R4 (Vb l2 l1 v12).length (Zz (Vb l2 l1 v12));let p:=xI R4 0 (fun _=>[]);(sl Ex 66 [] ⟨[0],[],KB,KC⟩ b7 (bl 24 15728641) (pp (fl v9 nn) (tt k5 (pp (pp (xI R4 (Cm x0 (B4 (Vy l1 l2 v12)) (B4 (Vb l2 l1 v12))).length (Zz (Cm x0 (B4 (Vy l1 l2 v12)) (B4 (Vb l2 l1 v12))))) r) (tt k4 (tt k3 (pp (pp l (pp p (xw cS))) (pp c (ww aU (tt k2 (pp (pp f (pp p (xw bJ))) (pp b (ww aU (tt k1 (pp (pp f (pp l (xw dW))) a)))))))))))))))) (fun k5=>let g:=xI R4 (Vy l1 l2 v12).length (Zz (Vy l1 l2 v12));let m:=xI R4 (Vb l2 l1 v12).length (Zz (Vb l2 l1 v12));let q:=xI R4 0 (fun _=>[]);(sl Ex 73 [] ⟨[0],[],j0y,j1a⟩ b7 (bl 24 7340033) (pp (fl v9 nn) (tt k5 (pp (pp (xI R4 (Cm x0 (B4 (Vy l1 l2 v12)) (B4 (Vb l2 l1 v12))).length (Zz (Cm x0 (B4 (Vy l1 l2 v12)) (B4 (Vb l2 l1 v12))))) r) (tt k4 (tt k3 (pp (pp m (pp q (xw cS))) (pp c (ww aU (tt k2 (pp (pp g (pp q (xw bJ))) (pp b (ww aU (tt k1 (pp (pp g (pp m (xw dW))) a))))))))))))))))))) (fun k4=>let h:=xI R4 (Vy l1 l2 v12).length (Zz (Vy l1 l2 v12));let i:=xI R4 (Vb l2 l1 v12).length (Zz (Vb l2 l1 v12));let n:=xI R4 0 (fun _=>[]);(sl Ex 73 [] ⟨[0],[],j0y,j1a⟩ b7 (bl 24 1) (pp (fl v9 nn) (tt k4 (tt k3 (pp (pp i (pp n (xw cS))) (pp c (ww aU (tt k2 (pp (pp h (pp n (xw bJ))) (pp b (ww aU (tt k1 (pp (pp h (pp i (xw dW))) a)))))))))))))))))))))))))))) (fun k0=>(lr 137 3 [1,1,1,1,1,1,0] 1 104 [(6,(.dat v9.length (Zz v9))),(7,(.bool (decide ((v9.length:Int)<=400))))] (sl Ex 20 [] ⟨[],[0],[some [6,7]],[]⟩ ⟨[(6,.frz v9.length v9.length (Zz v9) (Zz v9))],[],[]⟩ [false] (pp (xZ (DW 6 6 0 v9.length v9.length (Zz v9)) v9.length (Zz v9)) (pp (xL v9.length v9.length) (pp (xS v9.length (Zz v9) (Zz v9)) (pp (fl v9 nn) (tt k0 nn)))))))))
 | .h1 v9 v10 v11 v12 v13 v15=>(lb (fun k0=>(lo fun o0=>(lo fun o1=>(lo fun o2=>(lo fun o3=>let a:=xL (v9.length+1) (Z0 v9 v13 v15 l1 l2 v12).length;let b:=Z0 v9 v13 v15 l1 l2 v12;(sl Ex 20 [] ⟨[2],[],j0y,j1a⟩ ⟨[(9,.len b.length)],[.rowed 6 b.length (Zz b)],[]⟩ [true] (pp a (pp a (pp (xS (v9.length+1) (v4p v9 v13 v15 l1 l2 v12) (Zz (Z0 v9 v13 v15 l1 l2 v12))) (pp (pp (xF (v4p v9 v13 v15 l1 l2 v12)) nn) (ww o3 (ww o2 (ww o1 (ww o1 (ww o0 (ww o1 (ww o1 (tt k0 nn)))))))))))))))))) (fun k0=>(sl Ex 17 [] ⟨[0],[],j0z,j1b⟩ b7 [false] (pp (fl v9 nn) (tt k0 nn)))))
 | .h2 v9 v10 v11 v12 v14=>(lb (fun k0=>(lo fun o0=>(lo fun o1=>(lo fun o2=>let a:=xL v9.length (ZZ v9 v14 l1 l2 v12).length;let b:=ZZ v9 v14 l1 l2 v12;(sl Ex 32 [] ⟨[0],[],KB,KC⟩ ⟨[(9,.len b.length)],[.rowed 6 b.length (Zz b)],[]⟩ [true] (pp a (pp a (pp (xS v9.length (Xw (Zz v9) (0+(tn v14)) 5 [(ii (rd (Uv (B4 l1) (B4 l2)) (tn (wr (v12+1)))))]) (Zz (ZZ v9 v14 l1 l2 v12))) (pp (pp (xF (Xw (Zz v9) (0+(tn v14)) 5 [(ii (rd (Uv (B4 l1) (B4 l2)) (tn (wr (v12+1)))))])) nn) (ww o2 (ww o1 (ww o0 (tt k0 nn))))))))))))) (fun k0=>(sl Ex 17 [] ⟨[0],[],j0z,j1b⟩ b7 [false] (pp (fl v9 nn) (tt k0 nn)))))
theorem w0q (x0:Int) (l1:List R6) (l2:List R6):Wp prog (Zy prog 113) (M6 x0 l1 l2) (Zg prog 113 [(.int .i64 x0),(.dat l1.length (Zz l1)),(.dat l2.length (Zz l2))] true []) (VL x0 l1 l2):=(lo fun o0=>(sl Ex 31 [(79,6,Zz ([]:List R6))] ⟨[0],[],j0z,j1b⟩ ⟨[(9,.grow 0 6),(10,.list 0 (Zz ([]:List R4)))],[],[]⟩ [] (pp (fl ([]:List R6) nn) (pp (pp (xr l1) (pp (xr l2) (xw o0))) nn))))
theorem u1d (x0:Int) (l1:List R6) (l2:List R6) (n:Nat) (vs:List B3) (h:Yw (Uh x0 l1 l2) n (VL x0 l1 l2)=.ret vs):Kj prog (Zy prog 113) (Zg prog 113 [(.int .i64 x0),(.dat l1.length (Zz l1)),(.dat l2.length (Zz l2))] true []) vs:=by have:=Ze (w9f x0 l1 l2) n _ (w0q x0 l1 l2);rwa [h] at this
theorem Qc (l m:List R6):(Uv l m).length <=2*l.length+2*m.length:=by
 refine AN (X9 _) ?_
 grind [YE]
theorem UI (l:List R6) (z:Int):(CO l z).length <=l.length:=by
 grind [CO]
def Gh (out:List R6) (first:Nat) (z:Int):List R6:=out.take first++(out.drop first).map fun r=>⟨r.a,r.b,r.c,r.d,r.e,z⟩
def Nf (z z':Int) (s:List R4):List R6:=s.map fun p=>⟨p.a,p.b,z,p.c,p.d,z'⟩
section
variable (kind:Int) (l m:List R6)
def EH (z:Int):List R4:=Cm kind (CO l z) (CO m z)
def F9 (z:Int):Bool:=decide (400<(EH kind l m z).length)||(decide (400<(Cm 2 (CO l z) []).length)||decide (400<(Cm 2 (CO m z) []).length))
def K2 :Nat->Nat->List R6->List R4->Nat->Option (List R6)
 | 0,_,out,_,_=>some out
 | k+1,i,out,last,first=>
  bif F9 kind l m (rd (Uv l m) i) then none
  else bif decide (0<i)&&E6 (EH kind l m (rd (Uv l m) i)) last then K2 k (i+1) (Gh out first (rd (Uv l m) (i+1))) last first
  else K2 k (i+1) (out++Nf (rd (Uv l m) i) (rd (Uv l m) (i+1)) (EH kind l m (rd (Uv l m) i))) (EH kind l m (rd (Uv l m) i)) out.length
def K1 :Option (List R6):=K2 kind l m ((Uv l m).length - 1) 0 [] [] 0
def MB :Option (List R6)->List B3
 | none=>[.nils,.bool false]
 | some out=>[.dat out.length (Zz out),.bool (decide ((out.length:Int)<=400))]
def EQ :List R6:=(K1 kind l m).getD []
def Im :Bool:=match K1 kind l m with
 | none=>false
 | some out=>decide ((out.length:Int)<=400)
end
def TJ (l:List R6):Prop:=l.length<=40000/\ ∀z,(CO l z).length <=5000
theorem u8h {l:List R6} (h:l.length<=5000):TJ l:=⟨by omega,fun z=>AN (UI l z) h⟩
def RY (_:Int) (l m:List R6):Bool:=pd (TJ l/\TJ m)
theorem N1 {k:Int} {l m:List R6} (hl:l.length<=5000) (hm:m.length<=5000):RY k l m=true:=Yh ⟨u8h hl,u8h hm⟩
section
variable (kind:Int) (l m:List R6) (hl:TJ l) (hm:TJ m)
include hl hm
theorem u6u (last:List R4) (first:Int) (i:Nat) (hi:i+1<(Uv l m).length) (s:List R4) (hs:s.length<=1000000): ∀(k j:Nat) (out:List R6),j+k=s.length->out.length<=10000000000+j->
  ∃n,∀N,Yw (Uh kind l m) (N+n) (.to (.h1 out last first (i:Int) s (j:Int)))=Yw (Uh kind l m) N (.to (.h0 (out++Nf (rd (Uv l m) i) (rd (Uv l m) (i+1)) (s.drop j)) last first ((i+1:Nat):Int)))
 | 0,j,out,h,ho=>by
  have hx:=Qc l m;have hl1:=hl.1;have hm1:=hm.1;refine ⟨1,fun N=> ?_⟩
  grind [Zw,Uh,Zm,Nf]
 | k+1,j,out,h,ho=>by
  have hx:=Qc l m;have hl1:=hl.1;have hm1:=hm.1;obtain ⟨n,hn⟩:=u6u last first i hi s hs k (j+1) (out++Nf (rd (Uv l m) i) (rd (Uv l m) (i+1)) [rd s j]) (by omega) (by simp [Nf];omega)
  refine ⟨n+1,fun N=> ?_⟩;have:=hn N;rw [Xx (show j<s.length by omega),<-AO,Zw];simp (disch:=omega) only [Uh,Yg,Zt,Yb,Ym,Xi,Xn,Yf,Zm,Zk,Xr,Zj,Al,AA,Aq,Ar,Af];rw [AH] at this;exact this
omit hl hm in
theorem u4k (out:List R6) (j:Nat) (x:Int) (h:j<out.length):Gh (out.set j ⟨(rd out j).a,(rd out j).b,(rd out j).c,(rd out j).d,(rd out j).e,x⟩) (j+1) x=Gh out j x:=by
 unfold Gh;rw [Xx h,A5];have e1:(out.set j ⟨(rd out j).a,(rd out j).b,(rd out j).c,(rd out j).d,(rd out j).e,x⟩).take (j+1)=out.take j++[⟨(rd out j).a,(rd out j).b,(rd out j).c,(rd out j).d,(rd out j).e,x⟩]:=by
  apply Bo
  .simp;omega
  .intro n h1 h2;simp only [BN,List.getElem_set];by_cases e:j=n
   .subst e;rw [AG rfl,Br (by simp only [Bl];omega)];simp
   .rw [Az e,BI (by simp at h1 ⊢;omega),BN]
 have e2:(out.set j ⟨(rd out j).a,(rd out j).b,(rd out j).c,(rd out j).d,(rd out j).e,x⟩).drop (j+1)=out.drop (j+1):=by rw [List.drop_set];rw [AG (by omega)]
 rw [e1,e2,AH];rfl
theorem u6t (last:List R4) (first:Int) (i:Nat) (hi:i+1<(Uv l m).length): ∀(k j:Nat) (out:List R6),j+k=out.length->out.length<=10000000000->
  ∃n,∀N,Yw (Uh kind l m) (N+n) (.to (.h2 out last first (i:Int) (j:Int)))=Yw (Uh kind l m) N (.to (.h0 (Gh out j (rd (Uv l m) (i+1))) last first ((i+1:Nat):Int)))
 | 0,j,out,h,ho=>by
  have hx:=Qc l m;have hl1:=hl.1;have hm1:=hm.1;refine ⟨1,fun N=> ?_⟩;have e:Gh out j (rd (Uv l m) (i+1))=out:=by
   grind [Gh]
  grind [Zw,Uh,Zm]
 | k+1,j,out,h,ho=>by
  have hx:=Qc l m;have hl1:=hl.1;have hm1:=hm.1;obtain ⟨n,hn⟩:=u6t last first i hi k (j+1) (out.set j ⟨(rd out j).a,(rd out j).b,(rd out j).c,(rd out j).d,(rd out j).e,rd (Uv l m) (i+1)⟩) (by simp;omega) (by grind)
  refine ⟨n+1,fun N=> ?_⟩;have:=hn N;rw [u4k out j _ (by omega)] at this;rw [<-AO,Zw];simp (disch:=omega) only [Uh,Yg,Zt,Yb,Ym,Xc,Xi,Xn,Yf,Zm,Zk,Xr,Zj,Al,AA,Aq,Ar,Af];exact this
theorem v4o : ∀(k i:Nat) (out:List R6) (last:List R4) (first:Nat),k=(Uv l m).length - 1 - i->i<=(Uv l m).length ->out.length<=i*400->last.length<=400->first<=out.length->
  ∃n,Yw (Uh kind l m) n (.to (.h0 out last (first:Int) (i:Int)))=.ret (MB (K2 kind l m k i out last first))
 | 0,i,out,last,first,h,hi,ho,hla,hf=>by
  have hx:=Qc l m;have hl1:=hl.1;have hm1:=hm.1;refine ⟨1,?_⟩
  grind [Zw,Uh,Yg,Zm,Zh,K2,MB]
 | k+1,i,out,last,first,h,hi,ho,hla,hf=>by
  have hx:=Qc l m;have hl1:=hl.1;have hm1:=hm.1;have hi1:i+1<(Uv l m).length :=by omega
  have hbig:i*400<=160000*400:=AE _ (by omega);have a1:=fun z=>hl.2 z;have a2:=fun z=>hm.2 z;have w1: ∀z,PE l z=true:=fun z=>Aa (by omega);have w2: ∀z,PE m z=true:=fun z=>Aa (by omega);have w3: ∀k z,I6 k (CO l z) (CO m z)=true:=fun k z=>Aa (by grind);have w4: ∀k z,I6 k (CO l z) ([]:List R4)=true:=fun k z=>Aa (by grind);have w5: ∀k z,I6 k (CO m z) ([]:List R4)=true:=fun k z=>Aa (by grind);unfold K2;have hsec:EH kind l m (rd (Uv l m) i)=Cm kind (CO l (rd (Uv l m) i)) (CO m (rd (Uv l m) i)):=rfl;by_cases c1:400<(EH kind l m (rd (Uv l m) i)).length
  .refine ⟨1,?_⟩;have hb:F9 kind l m (rd (Uv l m) i)=true:=by grind [F9]
   rw [hb,Af,Zw];rw [hsec] at c1;simp (disch:=omega) only [Uh,Yg,Zt,Yb,Xv,Ym,Zm,Zk,Zj,w1,w2,w3,w4,w5,Aq,Af,Zh,MB]
  by_cases c2:400<(Cm 2 (CO l (rd (Uv l m) i)) []).length
  .refine ⟨1,?_⟩;have hb:F9 kind l m (rd (Uv l m) i)=true:=by grind [F9]
   rw [hb,Af,Zw];rw [hsec] at c1;simp (disch:=omega) only [Uh,Yg,Zt,Yb,Xv,Wz,Ym,Zm,Zk,Zj,w1,w2,w3,w4,w5,Aq,Af,Ab,Zh,MB]
  by_cases c3:400<(Cm 2 (CO m (rd (Uv l m) i)) []).length
  .refine ⟨1,?_⟩;have hb:F9 kind l m (rd (Uv l m) i)=true:=by grind [F9]
   rw [hb,Af,Zw];rw [hsec] at c1;simp (disch:=omega) only [Uh,Yg,Zt,Yb,Xv,Wz,Ym,Zm,Zk,Zj,w1,w2,w3,w4,w5,Aq,Af,Ab,Zh,MB]
  have hb:F9 kind l m (rd (Uv l m) i)=false:=by grind [F9]
  rw [hb,Ab];have w6:Ky (Cm kind (CO l (rd (Uv l m) i)) (CO m (rd (Uv l m) i))) last=true:=Aa (by grind);rcases Vr (decide (0<i)&&E6 (EH kind l m (rd (Uv l m) i)) last) with q | q
  .obtain ⟨n3,h3⟩:=u6t kind l m hl hm last first i hi1 (out.length - first) first out (by omega) (by omega)
   obtain ⟨n0,h0⟩:=v4o k (i+1) (Gh out first (rd (Uv l m) (i+1))) last first (by omega) (by omega) (by simp [Gh];omega) hla (by simp [Gh];omega)
   refine ⟨n0+n3+1,?_⟩;rw [q,Af,Zw];simp only [Ad,Ak] at q;obtain ⟨q1,q2⟩:=q;rw [hsec] at c1 q2;simp (disch:=omega) only [Uh,Yg,Zt,Yb,Xv,Wz,Ym,Zm,Zk,Zj,w1,w2,w3,w4,w5,w6,q2,Aq,Af,Ab]
   grind
  .obtain ⟨n2,h2⟩:=u6u kind l m hl hm (EH kind l m (rd (Uv l m) i)) (out.length:Int) i hi1 (EH kind l m (rd (Uv l m) i)) (by omega) (EH kind l m (rd (Uv l m) i)).length 0 out (Al _) (by omega);obtain ⟨n0,h0⟩:=v4o k (i+1) (out++Nf (rd (Uv l m) i) (rd (Uv l m) (i+1)) (EH kind l m (rd (Uv l m) i))) (EH kind l m (rd (Uv l m) i)) out.length (by omega) (by omega) (by simp [Nf];omega) (by omega) (by simp);refine ⟨n0+n2+1,?_⟩;rw [q,Ab,Zw];have h2':=h2 n0;simp only [AR,HM] at h2';have c1':=c1;rw [hsec] at c1';by_cases hi0:0<i
   .rw [Aa hi0,Ar,hsec] at q;simp (disch:=omega) only [Uh,Yg,Zt,Yb,Xv,Wz,Ym,Zm,Zk,Zj,w1,w2,w3,w4,w5,w6,q,Aq,Af,Ab]
    grind
   .simp (disch:=omega) only [Uh,Yg,Zt,Yb,Xv,Wz,Ym,Zm,Zk,Zj,w1,w2,w3,w4,w5,w6,Aq,Af,Ab]
    grind
end
theorem j0x (kind:Int) (l m:List R6) (h:RY kind l m=true): ∃N,Yw (Uh kind l m) N (VL kind l m)=.ret (MB (K1 kind l m)):=by obtain ⟨hl,hm⟩:=Jj h;have hl1:=hl.1;have hm1:=hm.1;obtain ⟨N,hN⟩:=v4o kind l m hl hm ((Uv l m).length - 1) 0 [] [] 0 rfl (AF _) (AF _) (AF _) (An _);refine ⟨N,?_⟩;have w1:V6 l m=true:=Aa ⟨by omega,by omega⟩;simp only [VL,Yg,Zt,w1,Af];exact hN
def fJs :List B3->Option (B3×Bool)
 | [.int .i64 x0,a1,a2]=>match Cc R6 a1,Cc R6 a2 with
  | some (L1,g1,n1),some (L2,g2,n2)=>some (.tup [.dat (EQ x0 L1 L2).length (Zz (EQ x0 L1 L2)),.bool (Im x0 L1 L2)],CT R6 n1 g1&&(CT R6 n2 g2&&(RY x0 L1 L2)))
  | _,_=>none
 | _=>none
theorem OU {S:B6} (hS:Zv prog S):Zv prog (S.with u7u fJs):=by
 refine GS hS (by kernel_rfl) fun args v h=> ?_;unfold fJs at h;split at h
 .rename_i x0 a1 a2;split at h
  .rename_i L1 g1 n1 L2 g2 n2 e1 e2;simp only [Ae,Ac,Ad] at h;obtain ⟨rfl,ho1,ho2,hw⟩:=h;obtain ⟨N,hN⟩:=j0x x0 L1 L2 hw;refine ⟨_,MB (K1 x0 L1 L2),(.cons (.refl _) (.cons (Xh e1 ho1) (.cons (Xh e2 ho2) .nil))),?_,u1d x0 L1 L2 N _ hN,3,?_⟩
   .unfold EQ Im;cases K1 x0 L1 L2 with
    | none=>exact fun ρ u hu=>Gn (.cons (Gv R6) (Ci.refl _)) ρ u hu
    | some out=>exact fun ρ u hu=>hu
   .cases K1 x0 L1 L2 <;> rfl
  .cases h
 .cases h
def T4 :B6:=T3.with u7u fJs
theorem Tk :Zv prog T4:=OU Ex
open Go.Sort Go.Shelf Go.RowKit Go.Lib
def N8 (x:E3):List Value:=FF x.1
theorem j5q (l:List R3) (h:Dr l=true):Go.Sort.flatK N8 3 (Dq l h).toArray =Go.Sort.flatK FF 3 l.toArray:=by
 have hl:=Qd l h;unfold Go.Sort.flatK;rw [show (Dq l h).toArray.size =l.toArray.size by simpa using hl];apply Array.ext
 .simp
 .intro t h1 h2;simp only [Array.getElem_map,Array.getElem_range];have ht:t<l.length*3:=by simpa using h1
  have hq:t / 3<l.length:=by omega
  congr 1
  rw [getElem!_pos (Dq l h).toArray (t / 3) (by simpa [hl] using hq),getElem!_pos l.toArray (t / 3) (by simpa using hq)];unfold N8
  congr 1
  have:=U2 l h;have e:=Au (fun z:List R3=>z[t / 3]?) this;simp only [BM] at e;rw [As (by rw [hl];exact hq),As hq] at e
  simpa using e
theorem u4b (d:Array E3):Go.Sort.flatK N8 3 d=Go.Sort.flatK FF 3 (d.toList.map Subtype.val).toArray :=by
 unfold Go.Sort.flatK;rw [show d.size=(d.toList.map Subtype.val).toArray.size by simp];apply Array.ext
 .simp
 .intro t h1 h2;simp only [Array.getElem_map,Array.getElem_range];have ht:t<d.size*3:=by simpa using h1
  have hq:t / 3<d.size:=by omega
  congr 1
  rw [getElem!_pos d (t / 3) hq,getElem!_pos (d.toList.map Subtype.val).toArray (t / 3) (by simpa using hq)];simp [N8]
theorem x7n (l:List R3):HN l.length (Cv (B4 l)).length =true:=Yc (by
 rw [Yg];by_cases h:Dr l=true
 .exact (PS l h).1.length_eq.symm
 .unfold Cv;rw [dif_neg h])
theorem isAgg3 : ∀w,(isAgg (Tryz.sortEnd_ren.t 24)).run prog w=.ok true w:=fun w=>by rfl
theorem SQ : ∀w,(Go.sizeOf (Tryz.sortEnd_ren.t 24)).run prog w=.ok 3 w:=fun w=>by rfl
theorem v3m :Gd prog u7q (WV R3 Cv Dr w6f):=by
 refine v7w (fun L=> ?_) (fun blk off cap L w hb hH fM hsz=> ?_) fun p cap fv w=>AnyF.slices_SortFunc_none Tryz.sortEnd p cap fv w
 .by_cases h:Dr L=true
  .exact (PS L h).1.length_eq
  .unfold Cv;rw [dif_neg h]
 .have eg: ∀args w,(callFunc 245 args).run prog w=.ok (.enter 245 args) w:=enters_of Tryz.func245 (by kernel_rfl) rfl;have hcmp:CmpLays prog 245 #[] N8 3 Oi blk off (Dq L hb).toArray.size w:=fun m os dk _ x y=>by have hx:=Av x.2;have hy:=Av y.2;exact Tryz.cmpEnd x.1.a x.1.b x.1.c y.1.a y.1.b y.1.c hx hy _
  have hH':HoldsK N8 3 w blk off (Dq L hb).toArray :=by unfold HoldsK;rw [j5q L hb];exact hH
  have hcon:=AnyQ.slices_SortFunc_eq Tryz.sortEnd 3 isAgg3 SQ N8 (fun x=>w3v x.1) (fun x v hv=>by
   obtain ⟨a,ha,rfl⟩:=BR.1 hv;have:MA a=true:=Ax.1 (Iq.num x.1) a ha;cases a <;> first | rfl | (simp [MA] at this;done)) Oi SN 245 #[] blk off cap (Dq L hb).toArray w eg hcmp hH' fM (by simpa [Qd] using hsz)
  have hs:(Dq L hb).toArray.size =L.length:=by simp [Qd]
  rw [hs] at hcon;refine Calls.mono hcon fun e w' ⟨he,n,os,hw⟩=>⟨he,n,os,?_⟩
  rw [hw];unfold sortWorldK putRowK;rw [u4b];unfold Cv;rw [dif_pos hb];rfl
def Qn (zs:List Int):List Int:=zs.mergeSort fun x y=>decide (x<=y)
theorem v3l :Gd prog KS (IK Qn):=
 j5s (fun zs=>List.length_mergeSort zs) (fun blk off cap zs w hH hb hz=>Tryz.slices_Sort_int blk off cap zs w hH hb hz) fun p cap w=>Tryz.slices_Sort_int_none p cap w
def Ca (zs:List Int):List Int:=compact zs++List.replicate (zs.length - (compact zs).length) 0
def GV (zs:List Int):Nat:=(compact zs).length
theorem X6 (zs:List Int):(Ca zs).length =zs.length:=by have:=compact_length_le zs;simp [Ca];omega
theorem x7o (n:Nat) (c:Nat->Int):HN n (Ca (Ws n c)).length =true:=Yc (by rw [X6];simp [Ws])
theorem v7a (w:World):grow w #[]=w:=by simp [grow]
theorem w4a :Gd prog w6g (IL Ca GV):=
 j5t (fun zs=>by have:=compact_length_le zs;simp [Ca];omega) (fun zs=>compact_length_le zs)
  (fun blk off cap zs w hH hb hz eM=>(Tryz.slices_Compact_int blk off cap zs w hH (by omega) eM).mono fun e w' ⟨he,q,hw⟩=>⟨he,q, #[],by rw [hw,v7a];rfl⟩)
  fun p cap w=>Tryz.slices_Compact_int_empty p cap w
def T5 :B6:=((T4.withE u7q (WV R3 Cv Dr w6f)).withE KS (IK Qn)).withE w6g (IL Ca GV)
theorem DA :Zv prog T5:=x2m (x2m (x2m Tk (by kernel_rfl) v3m) (by kernel_rfl) v3l) (by kernel_rfl) w4a
-- h2: index into an array (choices [true, true, false, false])
-- h2: index into an array (choices [true, false, true, false, false])
-- h2: index into an array (choices [true, false, false, true, true, false, false])
-- h2: index into an array (choices [true, false, false, true, false, false, false])
-- h2: index into an array (choices [true, false, false, false, false, false])
abbrev Vm (aK:List R2) (cD:Int) (v5:List R3) (v7:Int):=(aK++[(R2.mk cD (rd v5 (0+(tn v7))).a)])
abbrev I2 (aK:List R2) (cD:Int) (v5:List R3) (v7:Int):=(Zo (Zz aK) 0 aK.length 2 [(ii cD),(ii (rd v5 (0+(tn v7))).a)])
abbrev Z7 (v3:List R3) (l0:List R2) (v17:Int):=(v3++[(R3.mk (rd l0 (tn v17)).a 0 1),(R3.mk (rd l0 (tn v17)).b 0 (-1))])
def v3i (l0:List R2):CZ:=⟨⟨11,0,true⟩,(CV prog 200 [1,1,1,0] 1),(Zf prog 200 [1,1,1,0] 1),none,(Zy prog 10),Ye [(9,(.dat l0.length (Zz l0)))]⟩
inductive H1 where
 | h0 (v8:Int)
 | h1 (v3:List R3) (v17:Int)
 | h2 (v5:List R3) (v6:Int) (v7:Int) (aI:Int) (bL:Int) (cD:Int) (bU:Bool) (aK:List R2)
def MN (l0:List R2):H1->CG
 | .h0 v8=>⟨⟨19,0,true⟩,none,(Zf prog 242 [1,0,1,0,0] 0),none,(Zy prog 3),⟨Ye [(0,(.dat l0.length (Zz l0))),(1,(.fn 227 [])),(7,(ii (l0.length:Int))),(8,(ii v8))],Xs [] 0,0,[],true⟩,[⟨⟨9,0,true⟩,(CV prog 226 [1,0] 2),(Zf prog 226 [1,0] 1),none,(Zy prog 3),Ye [(5,(.dat l0.length (Zz l0))),(6,(.fn 227 []))]⟩,⟨⟨11,0,true⟩,(CV prog 200 [1,1,0,0] 1),(Zf prog 200 [1,1,0,0] 1),none,(Zy prog 10),Ye [(0,(.dat l0.length (Zz l0))),(7,(.dat l0.length (Zz l0)))]⟩],.leaf⟩
 | .h1 v3 v17=>⟨⟨38,0,true⟩,none,(Zf prog 233 [1,1,0,1,0,0,1,1,0,0,1,1,0,0] 0),none,(Zy prog 9),⟨Ye [(3,(.sla 7 3 0 v3.length (.un 3))),(4,(ii 0)),(8,(.sl 0 0 2 (.un 1))),(9,(ii 2)),(10,(ii 0)),(15,(.dat l0.length (Zz l0))),(16,(ii (l0.length:Int))),(17,(ii v17))],Xs [⟨[(.dat l0.length (Zz l0)),.nils],233,none⟩,⟨[(.fn 229 [])],245,none⟩,⟨[(ii 0),(ii 0)],307,none⟩,⟨[.nils],233,none⟩,⟨[(ii 0)],3,none⟩,⟨[(.bool false)],4,none⟩,⟨[(.fn 232 [(.ptr 5 0),(.ptr 4 0),(.ptr 3 0)])],180,none⟩,⟨rows v3.length (Zz v3),311,some ⟨3,v3.length,(Zz v3)⟩⟩] 0,8,[],true⟩,[⟨⟨42,0,true⟩,(CV prog 205 [1,1,1,1,1,0,0] 3),(Zf prog 205 [1,1,1,1,1,0,0] 1),none,(Zy prog 7),Ye [(5,(.ptr 1 0)),(6,.nils),(7,(.ptr 2 0)),(8,(.ptr 3 0)),(9,(.ptr 4 0)),(10,(.ptr 5 0)),(11,(.ptr 6 0)),(16,(.sl 0 0 2 (.un 1)))]⟩,(v3i l0)],.leaf⟩
 | .h2 v5 v6 v7 aI bL cD bU aK=>⟨⟨16,0,true⟩,none,(Zf prog 249 [1,0,0] 0),none,[],⟨Ye [(0,(.yld 0)),(5,(.sla 7 3 0 v5.length (.un 3))),(6,(ii v6)),(7,(ii v7))],Eh [(1,⟨[(.fn 229 [])],245,none⟩),(2,⟨[(ii aI),(ii bL)],307,none⟩),(3,⟨[(ii cD)],3,none⟩),(4,⟨[(.bool bU)],4,none⟩),(5,⟨[(.fn 232 [(.ptr 4 0),(.ptr 3 0),(.ptr 6 0)])],180,none⟩),(6,⟨[(.sla 8 2 0 aK.length (.un 2))],233,none⟩),(7,⟨rows v5.length (Zz v5),311,some ⟨3,v5.length,(Zz v5)⟩⟩),(8,⟨rows aK.length (Zz aK),260,some ⟨2,aK.length,(Zz aK)⟩⟩)],9,[],true⟩,[⟨⟨42,0,true⟩,none,(.inRangeFunc 0::(Zf prog 205 [1,1,1,1,1,0,1,0] 1)),none,(Zy prog 7),Ye [(6,.nils),(8,(.ptr 6 0))]⟩,(v3i l0)],(Ff [(0,⟨.ready,none,42,Ye [(5,(.ptr 1 0)),(7,(.ptr 2 0)),(9,(.ptr 3 0)),(10,(.ptr 4 0)),(11,(.ptr 5 0))],[18],(DI prog 205 [1,1,1,1,1,0,1,0,0]),(DI prog 205 [1,1,1,1,1,0,1,0,1])⟩)])⟩
def JB :List (Option (List Nat)):=[some [0,1,7,8],some [5,6],some [0,7]]
def JC :List (Option (List Nat)):=[]
def Rw :List (Option (List Nat)):=[some [3,4,8,9,10,15,16,17],some [5,6,7,8,9,10,11,16],some [9]]
def Rv :List (Option (List Nat)):=[]
def Fw :List (Option (List Nat)):=[some [0,5,6,7],some [6,8],some [9]]
def Fv :List (Option (List Nat)):=[some [5,7,9,10,11],none,none,none,none,none,none,none,none]
def Jq (l0:List R2):H1->Xj H1
 | .h0 v8=>(bif (decide (v8<(l0.length:Int))) then (bif ((decide (0<=v8/\v8<(l0.length:Int)))&&true) then (bif (decide ((rd l0 v8.toNat).a <(rd l0 v8.toNat).b)) then (bif (decide ((rd l0 v8.toNat).a >=(-1000000))) then (bif (!(decide ((rd l0 v8.toNat).b <=1000000))) then (bif (decide (v8>=0)) then (.ret [.nils,(.int .i64 8)]) else (.to (.h1 ([]:List R3) 0))) else (.to (.h0 (wrap .i64 (v8+1))))) else (bif (decide (v8>=0)) then (.ret [.nils,(.int .i64 8)]) else (.to (.h1 ([]:List R3) 0)))) else (bif (decide (v8>=0)) then (.ret [.nils,(.int .i64 8)]) else (.to (.h1 ([]:List R3) 0)))) else .stuck) else (.to (.h1 ([]:List R3) 0)))
 | .h1 v3 v17=>(bif (decide (v17<(l0.length:Int))) then (bif ((decide (0<=v17/\v17<(l0.length:Int)))&&true) then (bif (Nat.beq 3 3&&((decide (0+v3.length=v3.length))&&decide ((v3.length+2+1)*(24+1)<=Ve))) then (.to (.h1 (v3++[(R3.mk (rd l0 v17.toNat).a 0 1),(R3.mk (rd l0 v17.toNat).b 0 (-1))]) (wrap .i64 (v17+1)))) else .stuck) else .stuck) else (bif (Dr (B4 v3)) then (bif (decide (v3.length<4611686018427387904)) then (bif (decide (v3.length=v3.length)) then (.to (.h2 (Cv (B4 v3)) (v3.length:Int) 0 0 0 0 false ([]:List R2))) else .stuck) else .stuck) else .stuck))
 | .h2 v5 v6 v7 aI bL cD bU aK=>(bif (decide (v7<v6)) then (bif ((decide (0<=v7/\v7<(v5.length:Int)))&&true) then (bif (decide ((0+v7.toNat)<v5.length)) then (bif (!bU) then (bif (decide ((rd v5 (0+v7.toNat)).b =Int.ofNat 0)) then (.to (.h2 v5 v6 (wrap .i64 (v7+1)) (wrap .i64 (aI+(rd v5 (0+v7.toNat)).c)) bL (rd v5 (0+v7.toNat)).a (Eg (decide ((wrap .i64 (aI+(rd v5 (0+v7.toNat)).c))>0)) (decide (bL>0))) aK)) else (bif (decide ((rd v5 (0+v7.toNat)).b =Int.ofNat 1)) then (.to (.h2 v5 v6 (wrap .i64 (v7+1)) aI (wrap .i64 (bL+(rd v5 (0+v7.toNat)).c)) (rd v5 (0+v7.toNat)).a (Eg (decide (aI>0)) (decide ((wrap .i64 (bL+(rd v5 (0+v7.toNat)).c))>0))) aK)) else .stuck)) else (bif (cD == (rd v5 (0+v7.toNat)).a) then (bif (decide ((rd v5 (0+v7.toNat)).b =Int.ofNat 0)) then (.to (.h2 v5 v6 (wrap .i64 (v7+1)) (wrap .i64 (aI+(rd v5 (0+v7.toNat)).c)) bL (rd v5 (0+v7.toNat)).a (Eg (decide ((wrap .i64 (aI+(rd v5 (0+v7.toNat)).c))>0)) (decide (bL>0))) aK)) else (bif (decide ((rd v5 (0+v7.toNat)).b =Int.ofNat 1)) then (.to (.h2 v5 v6 (wrap .i64 (v7+1)) aI (wrap .i64 (bL+(rd v5 (0+v7.toNat)).c)) (rd v5 (0+v7.toNat)).a (Eg (decide (aI>0)) (decide ((wrap .i64 (bL+(rd v5 (0+v7.toNat)).c))>0))) aK)) else .stuck)) else (bif (decide ((aK.length:Int)>0)) then (bif ((decide (0<=(wrap .i64 ((aK.length:Int) - 1))/\(wrap .i64 ((aK.length:Int) - 1))<(aK.length:Int)))&&true) then (bif (decide ((0+(Int.toNat (wrap .i64 ((aK.length:Int) - 1))))<aK.length)) then (bif ((rd aK (0+(Int.toNat (wrap .i64 ((aK.length:Int) - 1))))).b == cD) then (bif (decide ((rd v5 (0+v7.toNat)).b =Int.ofNat 0)) then (.to (.h2 v5 v6 (wrap .i64 (v7+1)) (wrap .i64 (aI+(rd v5 (0+v7.toNat)).c)) bL (rd v5 (0+v7.toNat)).a (Eg (decide ((wrap .i64 (aI+(rd v5 (0+v7.toNat)).c))>0)) (decide (bL>0))) (aK.set (0+(Int.toNat (wrap .i64 ((aK.length:Int) - 1)))) (R2.mk (rd aK (0+(Int.toNat (wrap .i64 ((aK.length:Int) - 1))))).a (rd v5 (0+v7.toNat)).a)))) else (bif (decide ((rd v5 (0+v7.toNat)).b =Int.ofNat 1)) then (.to (.h2 v5 v6 (wrap .i64 (v7+1)) aI (wrap .i64 (bL+(rd v5 (0+v7.toNat)).c)) (rd v5 (0+v7.toNat)).a (Eg (decide (aI>0)) (decide ((wrap .i64 (bL+(rd v5 (0+v7.toNat)).c))>0))) (aK.set (0+(Int.toNat (wrap .i64 ((aK.length:Int) - 1)))) (R2.mk (rd aK (0+(Int.toNat (wrap .i64 ((aK.length:Int) - 1))))).a (rd v5 (0+v7.toNat)).a)))) else .stuck)) else (bif (Nat.beq 2 2&&((decide (0+aK.length=aK.length))&&decide ((aK.length+1+1)*(16+1)<=Ve))) then (bif (decide ((rd v5 (0+v7.toNat)).b =Int.ofNat 0)) then (.to (.h2 v5 v6 (wrap .i64 (v7+1)) (wrap .i64 (aI+(rd v5 (0+v7.toNat)).c)) bL (rd v5 (0+v7.toNat)).a (Eg (decide ((wrap .i64 (aI+(rd v5 (0+v7.toNat)).c))>0)) (decide (bL>0))) (aK++[(R2.mk cD (rd v5 (0+v7.toNat)).a)]))) else (bif (decide ((rd v5 (0+v7.toNat)).b =Int.ofNat 1)) then (.to (.h2 v5 v6 (wrap .i64 (v7+1)) aI (wrap .i64 (bL+(rd v5 (0+v7.toNat)).c)) (rd v5 (0+v7.toNat)).a (Eg (decide (aI>0)) (decide ((wrap .i64 (bL+(rd v5 (0+v7.toNat)).c))>0))) (aK++[(R2.mk cD (rd v5 (0+v7.toNat)).a)]))) else .stuck)) else .stuck)) else .stuck) else .stuck) else (bif (Nat.beq 2 2&&((decide (0+aK.length=aK.length))&&decide ((aK.length+1+1)*(16+1)<=Ve))) then (bif (decide ((rd v5 (0+v7.toNat)).b =Int.ofNat 0)) then (.to (.h2 v5 v6 (wrap .i64 (v7+1)) (wrap .i64 (aI+(rd v5 (0+v7.toNat)).c)) bL (rd v5 (0+v7.toNat)).a (Eg (decide ((wrap .i64 (aI+(rd v5 (0+v7.toNat)).c))>0)) (decide (bL>0))) (aK++[(R2.mk cD (rd v5 (0+v7.toNat)).a)]))) else (bif (decide ((rd v5 (0+v7.toNat)).b =Int.ofNat 1)) then (.to (.h2 v5 v6 (wrap .i64 (v7+1)) aI (wrap .i64 (bL+(rd v5 (0+v7.toNat)).c)) (rd v5 (0+v7.toNat)).a (Eg (decide (aI>0)) (decide ((wrap .i64 (bL+(rd v5 (0+v7.toNat)).c))>0))) (aK++[(R2.mk cD (rd v5 (0+v7.toNat)).a)]))) else .stuck)) else .stuck)))) else .stuck) else .stuck) else (.ret [(.dat aK.length (Zz aK)),(.int .i64 0)]))
def VW (l0:List R2):Xj H1:=(bif (decide ((l0.length:Int)>400)) then (.ret [.nils,(.int .i64 4)]) else (.to (.h0 0)))
theorem w8h (l0:List R2): ∀s,Wp prog (Zy prog 200) (MN l0) (MN l0 s) (Jq l0 s)
 | .h0 v8=>let b:=fl ([]:List R3) nn;(lb (fun k0=>(lo fun aG=>let a:=ww aG (tt k0 nn);(lb (fun k1=>(lb (fun k2=>let c:=tt k2 (tt k1 a);(lb (fun k3=>(lb (fun k4=>(lr 11 200 [1,1,0,1,0,0] 1 10 [(2,.nils),(3,(ii 8))] (sl DA 79 [] (b8 [2,3]) b7 (CE 9 []) (tt k4 (tt k3 c))))) (fun k4=>(sl DA 154 [(311,3,Zz ([]:List R3))] ⟨[8,2,3,4,5,6,7,9],[],Rw,Rv⟩ ⟨[(3,.grow 7 3)],[],[]⟩ (CE 8 (bl 2 2)) (pp b (tt k4 (tt k3 c))))))) (fun k3=>(sl DA 69 [] ⟨[],[],JB,JC⟩ b7 (CE 7 [false]) (tt k3 c))))) (fun k2=>let d:=tt k2 (tt k1 a);(lb (fun k3=>(lr 11 200 [1,1,0,1,0,0] 1 10 [(2,.nils),(3,(ii 8))] (sl DA 79 [] (b8 [2,3]) b7 (CE 4 (bl 5 24)) (tt k3 d)))) (fun k3=>(sl DA 154 [(311,3,Zz ([]:List R3))] ⟨[8,2,3,4,5,6,7,9],[],Rw,Rv⟩ ⟨[(3,.grow 7 3)],[],[]⟩ (CE 4 (bl 6 40)) (pp b (tt k3 d)))))))) (fun k1=>(lb (fun k2=>(lr 11 200 [1,1,0,1,0,0] 1 10 [(2,.nils),(3,(ii 8))] (sl DA 79 [] (b8 [2,3]) b7 (bl 9 385) (tt k2 (tt k1 a))))) (fun k2=>(sl DA 154 [(311,3,Zz ([]:List R3))] ⟨[8,2,3,4,5,6,7,9],[],Rw,Rv⟩ ⟨[(3,.grow 7 3)],[],[]⟩ (bl 10 641) (pp b (tt k2 (tt k1 a)))))))))) (fun k0=>(sl DA 98 [(311,3,Zz ([]:List R3))] ⟨[6,0,1,2,3,4,5,7],[],Rw,Rv⟩ ⟨[(3,.grow 7 3)],[],[]⟩ (bl 3 4) (pp b (tt k0 nn)))))
 | .h1 v3 v17=>(lb (fun k0=>(lo fun o0=>(lo fun o1=>let d:=xL (v3.length+2) (Z7 v3 l0 v17).length;let f:=Z7 v3 l0 v17;(sl DA 36 [] ⟨[0,1,2,3,4,5,6,10],[],Rw,Rv⟩ ⟨[(3,.len f.length)],(Hx 7 [.rowed 3 f.length (Zz f)]),[]⟩ [true] (pp d (pp d (pp (xS (v3.length+2) (Zo (Zz v3) 0 v3.length 3 [(ii (rd l0 (tn v17)).a),(ii 0),(ii 1),(ii (rd l0 (tn v17)).b),(ii 0),(ii (-1))]) (Zz (Z7 v3 l0 v17))) (pp (pp (xF (Zo (Zz v3) 0 v3.length 3 [(ii (rd l0 (tn v17)).a),(ii 0),(ii 1),(ii (rd l0 (tn v17)).b),(ii 0),(ii (-1))])) nn) (ww o1 (ww o0 (tt k0 nn))))))))))) (fun k0=>(lo fun o0=>(lo fun o1=>(lo fun o2=>let c:=xL v3.length (Cv (B4 v3)).length (by first | exact x7n _ | exact Yc rfl);let e:=Cv (B4 v3);let g:=xG (Nat.beq 3 3);(sl DA 92 [(260,2,Zz ([]:List R2))] ⟨[9,1,2,4,5,6,3,7,10],[],Fw,Fv⟩ ⟨[(5,.len e.length)],(Hx 6 [.cells [.grow 8 2],.rowed 3 e.length (Zz e),.keep]),[]⟩ (bl 4 2) (pp c (pp c (pp (xS v3.length (Zz (Cv (B4 v3))) (Zz (Cv (B4 v3)))) (pp (fl e (fl ([]:List R2) nn)) (pp (pp g (pp g (pp (xG (Nat.beq 0 0)) (pp (pp (xG (decide (v3.length=v3.length))) (pp (xr v3) (xG (decide (v3.length<4611686018427387904))))) (xG (Dr (B4 v3))))))) (tt k0 nn))))))))))))
 | .h2 v5 v6 v7 aI bL cD bU aK=>(lb (fun k0=>(lo fun aG=>(lo fun aU=>let i:=List.range 9;let j:=fl v5 (fl aK nn);let l:=ww aU (ww aG (tt k0 nn));(lb (fun k1=>(lb (fun k2=>(sl DA 62 [] ⟨i,[],Fw,Fv⟩ b7 (CE 5 (bl 3 0)) (pp j (ww k2 (tt k1 l))))) (fun k2=>(lb (fun k3=>(sl DA 62 [] ⟨i,[],Fw,Fv⟩ b7 (CE 6 (bl 4 2)) (pp j (ww k3 (tt k1 l))))) (fun k3=>trivial))))) (fun k1=>let d:=tt k1 l;(lb (fun k2=>(lb (fun k3=>(sl DA 62 [] ⟨i,[],Fw,Fv⟩ b7 (bl 8 17) (pp j (ww k3 (tt k2 d))))) (fun k3=>(lb (fun k4=>(sl DA 62 [] ⟨i,[],Fw,Fv⟩ b7 (bl 10 177) (pp j (ww k4 (tt k2 d))))) (fun k4=>trivial))))) (fun k2=>let r:=Vm aK cD v5 v7;let c:=Hx 6 [.cells [.len r.length],.keep,.rowed 2 r.length (Zz r)];(lb (fun k3=>(lo fun cU=>(lo fun dS=>let g:=ww dS (ww cU (tt k3 (tt k2 d)));(lb (fun k4=>let q:=tn (wr ((aK.length:Int) - 1));let b:=aK.set (0+q) (R2.mk (rd aK (0+q)).a (rd v5 (0+(tn v7))).a);let h:=Hx 6 [.cells [.len b.length],.keep,.rowed 2 b.length (Zz b)];let s:=ww dS (ww cU (tt k4 g));(lb (fun k5=>let f:=xL aK.length (aK.set (0+(tn (wr ((aK.length:Int) - 1)))) (R2.mk (rd aK (0+(tn (wr ((aK.length:Int) - 1))))).a (rd v5 (0+(tn v7))).a)).length;(sl DA 81 [] ⟨i,[],Fw,Fv⟩ ⟨[],h,[]⟩ (bl 17 16353) (pp f (pp f (pp (xS aK.length (Xw (Zz aK) (0+(tn (wr ((aK.length:Int) - 1)))) 1 [(ii (rd v5 (0+(tn v7))).a)]) (Zz (aK.set (0+(tn (wr ((aK.length:Int) - 1)))) (R2.mk (rd aK (0+(tn (wr ((aK.length:Int) - 1))))).a (rd v5 (0+(tn v7))).a)))) (pp (fl v5 (pp (xF (Xw (Zz aK) (0+(tn (wr ((aK.length:Int) - 1)))) 1 [(ii (rd v5 (0+(tn v7))).a)])) nn)) (ww k5 s))))))) (fun k5=>(lb (fun k6=>let e:=xL aK.length (aK.set (0+(tn (wr ((aK.length:Int) - 1)))) (R2.mk (rd aK (0+(tn (wr ((aK.length:Int) - 1))))).a (rd v5 (0+(tn v7))).a)).length;(sl DA 81 [] ⟨i,[],Fw,Fv⟩ ⟨[],h,[]⟩ (bl 19 98273) (pp e (pp e (pp (xS aK.length (Xw (Zz aK) (0+(tn (wr ((aK.length:Int) - 1)))) 1 [(ii (rd v5 (0+(tn v7))).a)]) (Zz (aK.set (0+(tn (wr ((aK.length:Int) - 1)))) (R2.mk (rd aK (0+(tn (wr ((aK.length:Int) - 1))))).a (rd v5 (0+(tn v7))).a)))) (pp (fl v5 (pp (xF (Xw (Zz aK) (0+(tn (wr ((aK.length:Int) - 1)))) 1 [(ii (rd v5 (0+(tn v7))).a)])) nn)) (ww k6 s))))))) (fun k6=>trivial))))) (fun k4=>(lo fun dI=>let u:=ww dI (tt k4 g);(lb (fun k5=>let n:=xL (aK.length+1) (Vm aK cD v5 v7).length;(sl DA 81 [] ⟨[0,1,2,3,4,5,6,7,12],[],Fw,Fv⟩ ⟨[],c,[]⟩ (bl 17 8161) (pp n (pp n (pp (xS (aK.length+1) (I2 aK cD v5 v7) (Zz (Vm aK cD v5 v7))) (pp (fl v5 (pp (xF (I2 aK cD v5 v7)) nn)) (ww k5 u))))))) (fun k5=>(lb (fun k6=>let p:=xL (aK.length+1) (Vm aK cD v5 v7).length;(sl DA 81 [] ⟨[0,1,2,3,4,5,6,7,12],[],Fw,Fv⟩ ⟨[],c,[]⟩ (bl 19 90081) (pp p (pp p (pp (xS (aK.length+1) (I2 aK cD v5 v7) (Zz (Vm aK cD v5 v7))) (pp (fl v5 (pp (xF (I2 aK cD v5 v7)) nn)) (ww k6 u))))))) (fun k6=>trivial)))))))))) (fun k3=>(lo fun cU=>let t:=ww cU (tt k3 (tt k2 d));(lb (fun k4=>let m:=xL (aK.length+1) (Vm aK cD v5 v7).length;(sl DA 81 [] ⟨[0,1,2,3,4,5,6,7,12],[],Fw,Fv⟩ ⟨[],c,[]⟩ (bl 17 1) (pp m (pp m (pp (xS (aK.length+1) (I2 aK cD v5 v7) (Zz (Vm aK cD v5 v7))) (pp (fl v5 (pp (xF (I2 aK cD v5 v7)) nn)) (ww k4 t))))))) (fun k4=>(lb (fun k5=>let o:=xL (aK.length+1) (Vm aK cD v5 v7).length;(sl DA 81 [] ⟨[0,1,2,3,4,5,6,7,12],[],Fw,Fv⟩ ⟨[],c,[]⟩ (bl 19 81921) (pp o (pp o (pp (xS (aK.length+1) (I2 aK cD v5 v7) (Zz (Vm aK cD v5 v7))) (pp (fl v5 (pp (xF (I2 aK cD v5 v7)) nn)) (ww k5 t))))))) (fun k5=>trivial)))))))))))))) (fun k0=>(lr 11 3 [1,1,1,1,1,1,0] 1 10 [(2,(.dat aK.length (Zz aK))),(3,(ii 0))] (sl DA 19 [] ⟨[],[8],[some [2,3]],[]⟩ ⟨[(2,.frz aK.length aK.length (Zz aK) (Zz aK))],[],[]⟩ [false] (pp (xZ (DW 2 2 0 aK.length aK.length (Zz aK)) aK.length (Zz aK)) (pp (xL aK.length aK.length) (pp (xS aK.length (Zz aK) (Zz aK)) (pp (fl aK nn) (tt k0 nn)))))))))
theorem x9t (l0:List R2):Wp prog (Zy prog 200) (MN l0) (Zg prog 200 [(.dat l0.length (Zz l0))] true []) (VW l0):=(lb (fun k0=>(lr 11 200 [1,0,1,0,0] 1 10 [(2,.nils),(3,(ii 4))] (sl DA 18 [] (b8 [2,3]) b7 [true] (tt k0 nn)))) (fun k0=>(sl DA 41 [] ⟨[],[],JB,JC⟩ b7 [false] (tt k0 nn))))
theorem v9r (l0:List R2) (n:Nat) (vs:List B3) (h:Yw (Jq l0) n (VW l0)=.ret vs):Kj prog (Zy prog 200) (Zg prog 200 [(.dat l0.length (Zz l0))] true []) vs:=by have:=Ze (w8h l0) n _ (x9t l0);rwa [h] at this
def Da (s:R2):Bool:=decide (s.a<s.b)&&(decide (s.a>= -1000000)&&decide (s.b<=1000000))
def Cq (l:List R2):List R3:=l.flatMap fun s=>[⟨s.a,0,1⟩,⟨s.b,0,-1⟩]
def E4 (out:List R2) (last:Int) (inn:Bool) (at':Int):List R2:=
 bif !inn then out else bif last == at' then out else
 bif decide (0<out.length)&&((rd out (out.length - 1)).b == last) then out.set (out.length - 1) ⟨(rd out (out.length - 1)).a,at'⟩ else out++[⟨last,at'⟩]
def Gk :List R3->Int->Int->Bool->List R2->List R2
 | [],_,_,_,out=>out
 | e::r,o,last,inn,out=>Gk r (o+e.c) e.a (decide (o+e.c>0)) (E4 out last inn e.a)
def Fk (l:List R2):List R2:=Gk (Cv (Cq l)) 0 0 false []
def Vv (l:List R2):List R2:=bif decide (400<l.length) then [] else bif l.all Da then Fk l else []
def u5t (l:List R2):Int:=bif decide (400<l.length) then 4 else bif l.all Da then 0 else 8
def ZH (l:List R2):Bool:=true
def Rr (l:List R2):List B3:=bif decide (400<l.length) then [.nils,.int .i64 4] else bif l.all Da then [.dat (Fk l).length (Zz (Fk l)),.int .i64 0] else [.nils,.int .i64 8]
theorem YA (l:List R2):(Cq l).length =2*l.length:=by
 induction l with
 | nil=>rfl
 | cons r l ih=>grind [Cq]
theorem y1b (out:List R2) (last:Int) (inn:Bool) (a:Int):(E4 out last inn a).length <=out.length+1:=by
 grind [E4]
theorem VX (e:R3) (r:List R3) (o last:Int) (inn:Bool) (out:List R2):Gk (e::r) o last inn out=Gk r (o+e.c) e.a (decide (o+e.c>0)) (E4 out last inn e.a):=rfl
theorem j2g {a:Int} (k:Nat) (h:a=(k:Int)):decide (a=Int.ofNat k)=true:=by grind
section
variable (l:List R2) (hl:l.length<=400)
include hl
theorem u5q (L:List R3) (hL:L.length<=800) (hE: ∀i,i<L.length->(rd L i).b =0/\((rd L i).c =1\/(rd L i).c = -1)): ∀(k i:Nat) (o last:Int) (inn:Bool) (out:List R2),i+k=L.length-> -(i:Int)<=o->o<=i->out.length<=i->
  ∃n,Yw (Jq l) n (.to (.h2 L (L.length:Int) (i:Int) o 0 last inn out))=.ret [.dat (Gk (L.drop i) o last inn out).length (Zz (Gk (L.drop i) o last inn out)),.int .i64 0]
 | 0,i,o,last,inn,out,h,ho1,ho2,hout=>by
  have _uhl:=hl;refine ⟨1,?_⟩
  grind [Zw,Jq,Zh,Gk]
 | k +1,i,o,last,inn,out,h,ho1,ho2,hout=>by
  obtain ⟨hb,hc⟩:=hE i (by omega);have hcl:=y1b out last inn (rd L i).a;obtain ⟨n,hn⟩:=u5q L hL hE k (i+1) (o+(rd L i).c) (rd L i).a (decide (o+(rd L i).c >0)) (E4 out last inn (rd L i).a) (by omega) (by grind) (by grind) (by omega);refine ⟨n+1,?_⟩;rw [Xx (show i<L.length by omega),Zw];have hf: ∀b,Eg b (decide ((0:Int)>0))=b:=fun b=>rfl;have hw:wrap .i64 (o+(rd L i).c)=o+(rd L i).c :=Zm (by grind);rw [VX];have hf': ∀b,Eg b false=b:=fun b=>rfl;have hz:=j2g 0 hb;unfold E4 at hn ⊢;cases inn with
  | false=>simp only [AD,Af] at hn ⊢;simp (disch:=omega) only [Jq,AD,hz,hw,hf,hf',Yb,Ym,Xc,Zm,Zk,Zj,Al,Aq,Af];exact hn
  | true=>
   simp only [Ay,Ab] at hn ⊢;rcases Vr (last == (rd L i).a) with q | q
   .rw [q] at hn ⊢;simp only [Af] at hn ⊢;simp (disch:=omega) only [Jq,Ay,q,hz,hw,hf,hf',Yb,Ym,Xc,Zm,Zk,Zj,Al,Aq,Af,Ab];exact hn
   .rw [q] at hn ⊢;simp only [Ab] at hn ⊢;by_cases h0:0<out.length
    .rw [Aa h0,Ar] at hn ⊢;rcases Vr ((rd out (out.length - 1)).b == last) with q2 | q2
     .rw [q2] at hn ⊢;simp only [Af] at hn ⊢;simp (disch:=omega) only [Jq,Ay,q,q2,hz,hw,hf,hf',Yb,Xv,Ym,Xc,Zm,Zk,Zj,Zs,Al,Aq,Af,Ab];exact hn
     .rw [q2] at hn ⊢;simp only [Ab] at hn ⊢;simp (disch:=omega) only [Jq,Ay,q,q2,hz,hw,hf,hf',Yb,Xv,Ym,Xc,Xn,Yf,Xr,AA,Zm,Zk,Zj,Zs,Al,Aq,Ar,Af,Ab];exact hn
    .rw [Ai h0,Bb] at hn ⊢;simp only [Ab] at hn ⊢;simp (disch:=omega) only [Jq,Ay,q,hz,hw,hf,hf',Yb,Wz,Ym,Xc,Xn,Yf,Xr,AA,Zm,Zk,Zj,Al,Aq,Ar,Af,Ab];exact hn
theorem v7u (h:l.all Da=true): ∀e∈Cq l,Ok e=true/\e.b=0/\(e.c=1\/e.c= -1):=by
 have _uhl:=hl;intro e he;obtain ⟨s,hs,h1⟩:=BD.1 he;have hv:=Ax.1 h s hs;simp only [Da,Ad,Ak] at hv;simp only [AP,List.not_mem_nil,or_false] at h1;rcases h1 with rfl | rfl
 .exact ⟨Aa (by grind),rfl,.inl rfl⟩
 .exact ⟨Aa (by grind),rfl,.inr rfl⟩
theorem u5r (hv:l.all Da=true): ∀(k i:Nat) (acc:List R3),i+k=l.length->acc=Cq (l.take i)-> ∃n,Yw (Jq l) n (.to (.h1 acc (i:Int)))=.ret [.dat (Fk l).length (Zz (Fk l)),.int .i64 0]
 | 0,i,acc,h,ha=>by
  have e:acc=Cq l:=by grind
  subst e;have hle:=YA l;have fB:=v7u l hl hv;have hb:Dr (Cq l)=true:=Ax.2 fun e he=>(fB e he).1;obtain ⟨hp,_⟩:=PS (Cq l) hb;have hpl:=hp.length_eq;obtain ⟨n,hn⟩:=u5q l hl (Cv (Cq l)) (by omega) (fun i hi=>by
   grind [Wb]) (Cv (Cq l)).length 0 0 0 false [] (Al _) (by omega) (by omega) (AF _)
  refine ⟨n+1,?_⟩;rw [Zw];simp (disch:=omega) only [Jq,Yg,Zt,hb,Yt,Xc,Xn,AA,Af,Ab];rw [<-hpl];simp only [HM,AR] at hn;exact hn
 | k+1,i,acc,h,ha=>by
  have hle:=YA (l.take i);have hacc:acc.length<=2*i:=by grind
  obtain ⟨n,hn⟩:=u5r hv k (i+1) (acc++Cq [rd l i]) (by omega) (by
   rw [ha,Bx]
   grind [Wb,Cq])
  refine ⟨n+1,?_⟩;rw [Zw];simp (disch:=omega) only [Jq,Yb,Ym,Xi,Xn,Yf,Xr,AA,Zm,Zk,Zj,Al,Aq,Ar,Af];exact hn
theorem u5s : ∀(k i:Nat),i+k=l.length->(∀s∈l.take i,Da s=true)-> ∃n,Yw (Jq l) n (.to (.h0 (i:Int)))=.ret (bif l.all Da then [.dat (Fk l).length (Zz (Fk l)),.int .i64 0] else [.nils,.int .i64 8])
 | 0,i,h,ht=>by
  have hv:l.all Da=true:=Ax.2 fun s hs=>ht s (by grind);obtain ⟨n,hn⟩:=u5r l hl hv l.length 0 [] (Al _) rfl;refine ⟨n+1,?_⟩
  grind [Zw,Jq]
 | k+1,i,h,ht=>by
  have hi:i<l.length:=by omega
  rcases Vr (Da (rd l i)) with q | q
  .obtain ⟨n,hn⟩:=u5s k (i+1) (by omega) (fun s hs=>by
    rw [Bx] at hs
    grind [Wb])
   refine ⟨n+1,?_⟩
   grind [Zw,Da,Jq,Zm]
  .have hv:l.all Da=false:=A8.2 fun e=>by
    grind [Wb]
   refine ⟨1,?_⟩;rw [Zw,hv,Ab];unfold Da at q;rcases Vr (decide ((rd l i).a <(rd l i).b)) with q1 | q1 <;> rcases Vr (decide ((rd l i).a >= -1000000)) with q2 | q2 <;> rcases Vr (decide ((rd l i).b <=1000000)) with q3 | q3 <;>
    rw [q1,q2,q3] at q <;> first
    | (exfalso;revert q;decide)
    | simp (disch:=omega) only [Jq,q1,q2,q3,Yb,EK,Ym,Zm,Zk,Zj,Ay,AD,Aq,Af,Ab,Zh]
end
theorem u9s (l:List R2): ∃n,Yw (Jq l) n (VW l)=.ret (Rr l):=by
 unfold VW Rr;by_cases h:400<l.length
 .refine ⟨0,?_⟩;rw [Aa h,Xv (show (l.length:Int)>400 by omega)];rfl
 .obtain ⟨n,hn⟩:=u5s l (by omega) l.length 0 (Al _) (fun s hs=>by simp at hs)
  grind
def OE :List B3->Option (B3×Bool)
 | [a1]=>match Cc R2 a1 with
  | some (L1,g1,n1)=>some (.tup [.dat (Vv L1).length (Zz (Vv L1)),.int .i64 (u5t L1)],CT R2 n1 g1&&ZH L1)
  | _=>none
 | _=>none
theorem j3z {S:B6} (hS:Zv prog S):Zv prog (S.with x7k OE):=by
 refine GS hS (by kernel_rfl) fun args v h=> ?_;unfold OE at h;split at h
 .rename_i a1;split at h
  .rename_i L1 g1 n1 e1;simp only [Ae,Ac,Ad] at h;obtain ⟨rfl,ho1,hw⟩:=h;obtain ⟨N,hN⟩:=u9s L1;refine ⟨_,Rr L1,(.cons (Xh e1 ho1) .nil),?_,v9r L1 N _ hN,3,?_⟩
   .unfold Vv u5t Rr;cases decide (400<L1.length) <;> simp only [Af,Ab]
    .cases L1.all Da <;> simp only [Af,Ab]
     .exact fun ρ u hu=>Gn (.cons (Gv R2) (Ci.refl _)) ρ u hu
     .exact fun ρ u hu=>hu
    .exact fun ρ u hu=>Gn (.cons (Gv R2) (Ci.refl _)) ρ u hu
   .unfold Rr;cases decide (400<L1.length) <;> simp only [Af,Ab]
    .cases L1.all Da <;> rfl
    .rfl
  .cases h
 .cases h
def T6 :B6:=T5.with x7k OE
theorem Qw :Zv prog T6:=j3z DA
theorem w4e {γ:Type} (a b:Bool) (x y:γ):(bif a&&b then x else y)=bif a then (bif b then x else y) else y:=by grind
theorem w4d {γ:Type} (a:Bool) (x y:γ):(bif !a then x else y)=bif a then y else x:=by grind
structure DQ (α β:Type) where
 lo:α->Int
 hi:α->Int
 pr:α->β
 put:Int->Int->β->α
 ext:Int->α->α
 mak:List β->List β
 same:List β->List β->Bool
structure Sw (α β:Type) where
 out:List α
 last:List β
 first:Nat
 fin:Int
def Li (zs:List Int):List Int:=compact (Qn zs)
theorem v8j (zs:List Int):GV (Qn zs)=(Li zs).length :=rfl
theorem UU (zs:List Int):(Qn zs).length =zs.length:=List.length_mergeSort zs
theorem x4o (zs:List Int):(Li zs).length <=zs.length:=by have:=compact_length_le (Qn zs);rw [UU] at this;exact this
theorem W4 (zs:List Int) (i:Nat) (h:i<(Li zs).length):rd (Ca (Qn zs)) i=rd (Li zs) i:=by
 change i<(compact (Qn zs)).length at h;show rd (compact (Qn zs)++_) i=rd (compact (Qn zs)) i
 grind [Wb]
theorem x1q (zs:List Int):Ws zs.length (DG (Zz (Qn zs)))=Qn zs:=by
 grind [X5,UU]
namespace DQ
variable {α β:Type} (D:DQ α β) (l:List α)
def ends :List Int:=l.flatMap fun r=>[D.lo r,D.hi r]
def cuts :List Int:=Li (D.ends l)
def inn (x:Int):List β:=(l.filter fun r=>decide (D.lo r<=x)&&decide (x<D.hi r)).map D.pr
def sec (x:Int):List β:=D.mak (D.inn l x)
def grow (out:List α) (k:Nat) (x:Int):List α:=out.take k++(out.drop k).map (D.ext x)
def one (x x':Int) (s:Sw α β):Sw α β:=
 bif decide (0<(D.sec l x).length)&&((s.fin == x)&&D.same s.last (D.sec l x)) then ⟨D.grow s.out s.first x',s.last,s.first,x'⟩
 else ⟨s.out++(D.sec l x).map (D.put x x'),D.sec l x,s.out.length,x'⟩
def go :Nat->Nat->Sw α β->Sw α β
 | 0,_,s=>s
 | k+1,i,s=>go k (i+1) (D.one l (rd (D.cuts l) i) (rd (D.cuts l) (i+1)) s)
def out :List α:=(D.go l ((D.cuts l).length - 1) 0 ⟨[],[],0,0⟩).out
theorem ends_length :(D.ends l).length =2*l.length:=by
 induction l with
 | nil=>rfl
 | cons r l ih=>show (_::_::D.ends l).length =_;grind
theorem cuts_length :(D.cuts l).length <=2*l.length:=by have:=x4o (D.ends l);rw [D.ends_length] at this;exact this
theorem ends_append (m:List α):D.ends (l++m)=D.ends l++D.ends m:=by simp [ends]
theorem inn_append (m:List α) (x:Int):D.inn (l++m) x=D.inn l x++D.inn m x:=by simp [inn]
theorem inn_length (x:Int):(D.inn l x).length <=l.length:=by grind [inn]
theorem inn_t (r:α) (x:Int) (h1:D.lo r<=x) (h2:x<D.hi r):D.inn [r] x=[D.pr r]:=by simp [inn,h1,h2]
theorem inn_f1 (r:α) (x:Int) (h1: ¬D.lo r<=x):D.inn [r] x=[]:=by simp [inn,h1]
theorem inn_f2 (r:α) (x:Int) (h1: ¬x<D.hi r):D.inn [r] x=[]:=by simp [inn,h1]
theorem grow_nil (out:List α) (k:Nat) (x:Int) (h:out.length<=k):D.grow out k x=out:=by unfold grow;rw [Aw h,List.map_nil,AL,A9 h]
theorem grow_length (out:List α) (k:Nat) (x:Int):(D.grow out k x).length =out.length:=by unfold grow;simp;omega
theorem grow_set [Xu α] (out:List α) (j:Nat) (x:Int) (h:j<out.length):D.grow (out.set j (D.ext x (rd out j))) (j+1) x=D.grow out j x:=by
 unfold grow;rw [Xx h,A5];have e1:(out.set j (D.ext x (rd out j))).take (j+1)=out.take j++[D.ext x (rd out j)]:=by
  apply Bo;all_goals grind
 have e2:(out.set j (D.ext x (rd out j))).drop (j+1)=out.drop (j+1):=by rw [List.drop_set];grind
 grind
theorem one_length (x x':Int) (s:Sw α β):(D.one l x x' s).out.length <=s.out.length+(D.sec l x).length :=by
 grind [one,grow_length]
end DQ
end Go.Am
end
