/- A part of a proof: several texts in one. -/
import Derived.Test.YthnnmgkacjjpeaaGreatDoorNh2
import Derived.Ground.SlsfProg
import Derived.Shelf.SlSortCmp.WholeK
import Derived.Shelf.Strings.Builder1
import Derived.Shelf.Strings.Builder2
import Derived.Shelf.Strings.OnBuilder
import Derived.Shelf.Small.Bits
import Derived.Shelf.Strconv.Atoi
import Derived.Shelf.Strconv.Itoa0
import Derived.Shelf.Strconv.Itoa1
import Derived.Shelf.LaysM
import Derived.Shelf.Strconv.Itoa2
import Derived.Shelf.Strconv.Itoa3
import Derived.Shelf.Strconv.AtoiErrFast
import Derived.Shelf.Strconv.ParseIntEmpty
import Derived.Shelf.Strconv.AtoiFail
import Derived.Shelf.Strconv.Clone
import Derived.Shelf.Strconv.SyntaxError
import Derived.Shelf.LaysC
import Derived.Shelf.Strconv.ToError
import Derived.Shelf.Strconv.Lower
import Derived.Shelf.Strconv.ParseUint10
import Derived.Shelf.Strconv.ParseUint10Empty
import Derived.Shelf.Strconv.ParseUint10Any
import Derived.Shelf.Strconv.ParseInt10
import Derived.Shelf.Strconv.AtoiLong
import Derived.Shelf.Strconv.AtoiInnerAll
import Derived.Shelf.Strconv.RangeError
import Derived.Shelf.Strconv.ToErrorRange
import Derived.Shelf.Strconv.AtoiAll
import Derived.Shelf.Strings.Search1
import Derived.Shelf.Strings.Search2
import Derived.Shelf.Strings.Search3
import Derived.Shelf.Strings.Cut
import Derived.Shelf.Strings.Count
import Derived.Shelf.Strings.Shaped
import Derived.Shelf.Sort.Plain
import Derived.Shelf.Strings.LastIndex
import Derived.Shelf.Strings.Prefix
import Derived.Shelf.Strings.Split
import Derived.Shelf.Unicode.DecodeSlow
import Derived.Ground.Names2Prog
import Derived.Shelf.Slices.ReverseS
import Derived.Shelf.Slices.CompactI
import Derived.Shelf.Slices.SearchI
import Derived.Shelf.Slices.Cells
import Derived.Shelf.Slices.In.SortNone
import Derived.Test.YthnnmgkacjjpeaaGreatDoorProg
import Derived.Below
import Derived.Sort.AssemblyPlain
import Derived.Lib.BitFns
import Derived.Shelf.GgSortFunc.InsertionK
import Derived.Shelf.SlSortCmp.NoneTotal
set_option maxRecDepth 1000000
set_option maxHeartbeats 8000000
set_option linter.unusedVariables false
set_option linter.unusedSimpArgs false
noncomputable section
namespace Go.Proofs
open Go.Proofs.Tryz
open Go.Shelf
def Tryz.lays169_ren :Go.Shelf.Ren:=⟨fun | 169=>75 | n=>n,fun | 70=>72 | 9=>9 | 0=>0 | 72=>75 | 37=>73 | 127=>181 | 3=>3 | 5=>5 | n=>n,fun | n=>n⟩
theorem Tryz.lays169 :Go.Proofs.Lays.n169 prog Tryz.lays169_ren:={
 mixed:=by kernel_rfl
 f169:=Tryz.func75.trans (congrArg some (by kernel_rfl))
 t0:=Tryz.underlying0
 a0:=Tryz.isAgg0
 z0:=Tryz.sizeOf0
 v0:=Tryz.zeroValue0
 t3:=Tryz.underlying3
 a3:=Tryz.isAgg3
 z3:=Tryz.sizeOf3
 v3:=Tryz.zeroValue3
 t9:=Tryz.underlying9
 a9:=Tryz.isAgg9
 z9:=Tryz.sizeOf9
 v9:=Tryz.zeroValue9
 t37:=Tryz.underlying73
 a37:=Tryz.isAgg73
 z37:=Tryz.sizeOf73
 v37:=Tryz.zeroValue73
 t70:=Tryz.underlying72
 a70:=Tryz.isAgg72
 z70:=Tryz.sizeOf72
 v70:=Tryz.zeroValue72
 t72:=Tryz.underlying75
 a72:=Tryz.isAgg75
 z72:=Tryz.sizeOf75
 v72:=Tryz.zeroValue75
 t127:=Tryz.underlying181
 a127:=Tryz.isAgg181
 z127:=Tryz.sizeOf181
 v127:=Tryz.zeroValue181}
theorem Tryz.Builder_Extra_169 :Builder.Extra prog Tryz.lays169_ren:={
 sizeBuilder:=by kernel_rfl
 liesBuilder:=by kernel_rfl
 t5:=Tryz.underlying5
 a5:=Tryz.isAgg5
 z5:=Tryz.sizeOf5
 v5:=Tryz.zeroValue5
 infoByte:=by kernel_rfl
 cellsByte:=by kernel_rfl
 sizeByte:=by kernel_rfl
 neB5:=by decide}
def Tryz.lays156_ren :Go.Shelf.Ren:=⟨fun | 156=>73 | 165=>111 | 166=>68 | 169=>75 | 240=>108 | 241=>147 | 276=>145 | 277=>179 | n=>n,fun | 31=>70 | 9=>9 | 3=>3 | 4=>4 | 0=>0 | 20=>20 | 72=>75 | 76=>125 | 70=>72 | 37=>73 | 75=>124 | 127=>181 | 164=>210 | 5=>5 | 80=>134 | n=>n,fun | n=>n⟩
theorem Tryz.lays156 :Go.Proofs.Lays.n156 prog Tryz.lays156_ren:={
 mixed:=by kernel_rfl
 f156:=Tryz.func73.trans (congrArg some (by kernel_rfl))
 f165:=Tryz.func111.trans (congrArg some (by kernel_rfl))
 f166:=Tryz.func68.trans (congrArg some (by kernel_rfl))
 f169:=Tryz.func75.trans (congrArg some (by kernel_rfl))
 f240:=Tryz.func108.trans (congrArg some (by kernel_rfl))
 f241:=Tryz.func147.trans (congrArg some (by kernel_rfl))
 f276:=Tryz.func145.trans (congrArg some (by kernel_rfl))
 f277:=Tryz.func179.trans (congrArg some (by kernel_rfl))
 t0:=Tryz.underlying0
 a0:=Tryz.isAgg0
 z0:=Tryz.sizeOf0
 v0:=Tryz.zeroValue0
 t3:=Tryz.underlying3
 a3:=Tryz.isAgg3
 z3:=Tryz.sizeOf3
 v3:=Tryz.zeroValue3
 t4:=Tryz.underlying4
 a4:=Tryz.isAgg4
 z4:=Tryz.sizeOf4
 v4:=Tryz.zeroValue4
 t9:=Tryz.underlying9
 a9:=Tryz.isAgg9
 z9:=Tryz.sizeOf9
 v9:=Tryz.zeroValue9
 t20:=Tryz.underlying20
 a20:=Tryz.isAgg20
 z20:=Tryz.sizeOf20
 v20:=Tryz.zeroValue20
 t31:=Tryz.underlying70
 a31:=Tryz.isAgg70
 z31:=Tryz.sizeOf70
 v31:=Tryz.zeroValue70
 t37:=Tryz.underlying73
 a37:=Tryz.isAgg73
 z37:=Tryz.sizeOf73
 v37:=Tryz.zeroValue73
 t70:=Tryz.underlying72
 a70:=Tryz.isAgg72
 z70:=Tryz.sizeOf72
 v70:=Tryz.zeroValue72
 t72:=Tryz.underlying75
 a72:=Tryz.isAgg75
 z72:=Tryz.sizeOf75
 v72:=Tryz.zeroValue75
 t75:=Tryz.underlying124
 a75:=Tryz.isAgg124
 z75:=Tryz.sizeOf124
 v75:=Tryz.zeroValue124
 t76:=Tryz.underlying125
 a76:=Tryz.isAgg125
 z76:=Tryz.sizeOf125
 v76:=Tryz.zeroValue125
 t127:=Tryz.underlying181
 a127:=Tryz.isAgg181
 z127:=Tryz.sizeOf181
 v127:=Tryz.zeroValue181
 t164:=Tryz.underlying210
 a164:=Tryz.isAgg210
 z164:=Tryz.sizeOf210
 v164:=Tryz.zeroValue210}
theorem Tryz.Builder_Extra_156 :Builder.Extra prog Tryz.lays156_ren:={
 sizeBuilder:=by kernel_rfl
 liesBuilder:=by kernel_rfl
 t5:=Tryz.underlying5
 a5:=Tryz.isAgg5
 z5:=Tryz.sizeOf5
 v5:=Tryz.zeroValue5
 infoByte:=by kernel_rfl
 cellsByte:=by kernel_rfl
 sizeByte:=by kernel_rfl
 neB5:=by decide}
def Tryz.laysM171_ren :Go.Shelf.Ren:=⟨fun | 171=>70 | 243=>109 | 246=>146 | 283=>175 | 284=>176 | 285=>177 | 286=>178 | 129=>207 | 317=>206 | 318=>208 | 319=>209 | 320=>210 | 337=>234 | 338=>235 | n=>n,fun | 3=>3 | 9=>9 | 2=>2 | 4=>4 | 171=>246 | 0=>0 | 53=>247 | 37=>73 | 5=>5 | 173=>250 | 212=>282 | 51=>283 | 20=>20 | 213=>284 | 46=>262 | 232=>324 | 233=>325 | n=>n,fun | 17=>3 | 18=>6 | 19=>7 | n=>n⟩
theorem Tryz.laysM171 :Go.Proofs.LaysM.n171 prog Tryz.laysM171_ren:={
 mixed:=by kernel_rfl
 f129:=Tryz.func207.trans (congrArg some (by kernel_rfl))
 f171:=Tryz.func70.trans (congrArg some (by kernel_rfl))
 f243:=Tryz.func109.trans (congrArg some (by kernel_rfl))
 f246:=Tryz.func146.trans (congrArg some (by kernel_rfl))
 f283:=Tryz.func175.trans (congrArg some (by kernel_rfl))
 f284:=Tryz.func176.trans (congrArg some (by kernel_rfl))
 f285:=Tryz.func177.trans (congrArg some (by kernel_rfl))
 f286:=Tryz.func178.trans (congrArg some (by kernel_rfl))
 f317:=Tryz.func206.trans (congrArg some (by kernel_rfl))
 f318:=Tryz.func208.trans (congrArg some (by kernel_rfl))
 f319:=Tryz.func209.trans (congrArg some (by kernel_rfl))
 f320:=Tryz.func210.trans (congrArg some (by kernel_rfl))
 f337:=Tryz.func234.trans (congrArg some (by kernel_rfl))
 f338:=Tryz.func235.trans (congrArg some (by kernel_rfl))
 t0:=Tryz.underlying0
 a0:=Tryz.isAgg0
 z0:=Tryz.sizeOf0
 v0:=Tryz.zeroValue0
 t2:=Tryz.underlying2
 a2:=Tryz.isAgg2
 z2:=Tryz.sizeOf2
 v2:=Tryz.zeroValue2
 t3:=Tryz.underlying3
 a3:=Tryz.isAgg3
 z3:=Tryz.sizeOf3
 v3:=Tryz.zeroValue3
 t4:=Tryz.underlying4
 a4:=Tryz.isAgg4
 z4:=Tryz.sizeOf4
 v4:=Tryz.zeroValue4
 t5:=Tryz.underlying5
 a5:=Tryz.isAgg5
 z5:=Tryz.sizeOf5
 v5:=Tryz.zeroValue5
 t9:=Tryz.underlying9
 a9:=Tryz.isAgg9
 z9:=Tryz.sizeOf9
 v9:=Tryz.zeroValue9
 t20:=Tryz.underlying20
 a20:=Tryz.isAgg20
 z20:=Tryz.sizeOf20
 v20:=Tryz.zeroValue20
 t37:=Tryz.underlying73
 a37:=Tryz.isAgg73
 z37:=Tryz.sizeOf73
 v37:=Tryz.zeroValue73
 t46:=Tryz.underlying262
 a46:=Tryz.isAgg262
 z46:=Tryz.sizeOf262
 v46:=Tryz.zeroValue262
 t51:=Tryz.underlying283
 a51:=Tryz.isAgg283
 z51:=Tryz.sizeOf283
 v51:=Tryz.zeroValue283
 t53:=Tryz.underlying247
 a53:=Tryz.isAgg247
 z53:=Tryz.sizeOf247
 v53:=Tryz.zeroValue247
 t171:=Tryz.underlying246
 a171:=Tryz.isAgg246
 z171:=Tryz.sizeOf246
 v171:=Tryz.zeroValue246
 t173:=Tryz.underlying250
 a173:=Tryz.isAgg250
 z173:=Tryz.sizeOf250
 v173:=Tryz.zeroValue250
 t212:=Tryz.underlying282
 a212:=Tryz.isAgg282
 z212:=Tryz.sizeOf282
 v212:=Tryz.zeroValue282
 t213:=Tryz.underlying284
 a213:=Tryz.isAgg284
 z213:=Tryz.sizeOf284
 t232:=Tryz.underlying324
 a232:=Tryz.isAgg324
 z232:=Tryz.sizeOf324
 v232:=Tryz.zeroValue324
 t233:=Tryz.underlying325
 a233:=Tryz.isAgg325
 z233:=Tryz.sizeOf325
 v233:=Tryz.zeroValue325
 g17:=by kernel_rfl
 g18:=by kernel_rfl
 g19:=by kernel_rfl
 i0:=by kernel_rfl
 i2:=by kernel_rfl
 i3:=by kernel_rfl
 i4:=by kernel_rfl
 i5:=by kernel_rfl
 i9:=by kernel_rfl
 i20:=by kernel_rfl
 i37:=by kernel_rfl
 i46:=by kernel_rfl
 i51:=by kernel_rfl
 i53:=by kernel_rfl
 i171:=by kernel_rfl
 i173:=by kernel_rfl
 i212:=by kernel_rfl
 i232:=by kernel_rfl
 i233:=by kernel_rfl
 m17:=by kernel_rfl
 m18:=by kernel_rfl
 m19:=by kernel_rfl}
def Tryz.laysC172_ren :Go.Shelf.Ren:=⟨fun | 172=>85 | 244=>123 | 245=>124 | 247=>156 | 279=>157 | 280=>158 | 281=>159 | 282=>160 | 287=>192 | 316=>193 | 171=>70 | 205=>194 | 321=>213 | 322=>214 | 243=>109 | 246=>146 | 283=>175 | 284=>176 | 285=>177 | 286=>178 | 129=>207 | 317=>206 | 318=>208 | 319=>209 | 320=>210 | 337=>234 | 338=>235 | n=>n,fun | 9=>9 | 3=>3 | 75=>124 | 76=>125 | 4=>4 | 5=>5 | 167=>219 | 37=>73 | 0=>0 | 85=>220 | 2=>2 | 168=>222 | 53=>247 | 175=>263 | 46=>262 | 210=>267 | 127=>181 | 145=>294 | 143=>292 | 21=>21 | 171=>246 | 173=>250 | 212=>282 | 51=>283 | 20=>20 | 213=>284 | 232=>324 | 233=>325 | 80=>134 | n=>n,fun | 15=>1 | 16=>2 | 17=>3 | 18=>6 | 19=>7 | n=>n⟩
theorem Tryz.laysC172 :Go.Proofs.LaysC.n172 prog Tryz.laysC172_ren:={
 mixed:=by kernel_rfl
 f129:=Tryz.func207.trans (congrArg some (by kernel_rfl))
 f171:=Tryz.func70.trans (congrArg some (by kernel_rfl))
 f172:=Tryz.func85.trans (congrArg some (by kernel_rfl))
 f205:=Tryz.func194.trans (congrArg some (by kernel_rfl))
 f243:=Tryz.func109.trans (congrArg some (by kernel_rfl))
 f244:=Tryz.func123.trans (congrArg some (by kernel_rfl))
 f245:=Tryz.func124.trans (congrArg some (by kernel_rfl))
 f246:=Tryz.func146.trans (congrArg some (by kernel_rfl))
 f247:=Tryz.func156.trans (congrArg some (by kernel_rfl))
 f279:=Tryz.func157.trans (congrArg some (by kernel_rfl))
 f280:=Tryz.func158.trans (congrArg some (by kernel_rfl))
 f281:=Tryz.func159.trans (congrArg some (by kernel_rfl))
 f282:=Tryz.func160.trans (congrArg some (by kernel_rfl))
 f283:=Tryz.func175.trans (congrArg some (by kernel_rfl))
 f284:=Tryz.func176.trans (congrArg some (by kernel_rfl))
 f285:=Tryz.func177.trans (congrArg some (by kernel_rfl))
 f286:=Tryz.func178.trans (congrArg some (by kernel_rfl))
 f287:=Tryz.func192.trans (congrArg some (by kernel_rfl))
 f316:=Tryz.func193.trans (congrArg some (by kernel_rfl))
 f317:=Tryz.func206.trans (congrArg some (by kernel_rfl))
 f318:=Tryz.func208.trans (congrArg some (by kernel_rfl))
 f319:=Tryz.func209.trans (congrArg some (by kernel_rfl))
 f320:=Tryz.func210.trans (congrArg some (by kernel_rfl))
 f321:=Tryz.func213.trans (congrArg some (by kernel_rfl))
 f322:=Tryz.func214.trans (congrArg some (by kernel_rfl))
 f337:=Tryz.func234.trans (congrArg some (by kernel_rfl))
 f338:=Tryz.func235.trans (congrArg some (by kernel_rfl))
 t0:=Tryz.underlying0
 a0:=Tryz.isAgg0
 z0:=Tryz.sizeOf0
 v0:=Tryz.zeroValue0
 t2:=Tryz.underlying2
 a2:=Tryz.isAgg2
 z2:=Tryz.sizeOf2
 v2:=Tryz.zeroValue2
 t3:=Tryz.underlying3
 a3:=Tryz.isAgg3
 z3:=Tryz.sizeOf3
 v3:=Tryz.zeroValue3
 t4:=Tryz.underlying4
 a4:=Tryz.isAgg4
 z4:=Tryz.sizeOf4
 v4:=Tryz.zeroValue4
 t5:=Tryz.underlying5
 a5:=Tryz.isAgg5
 z5:=Tryz.sizeOf5
 v5:=Tryz.zeroValue5
 t9:=Tryz.underlying9
 a9:=Tryz.isAgg9
 z9:=Tryz.sizeOf9
 v9:=Tryz.zeroValue9
 t20:=Tryz.underlying20
 a20:=Tryz.isAgg20
 z20:=Tryz.sizeOf20
 v20:=Tryz.zeroValue20
 t21:=Tryz.underlying21
 a21:=Tryz.isAgg21
 z21:=Tryz.sizeOf21
 v21:=Tryz.zeroValue21
 t37:=Tryz.underlying73
 a37:=Tryz.isAgg73
 z37:=Tryz.sizeOf73
 v37:=Tryz.zeroValue73
 t46:=Tryz.underlying262
 a46:=Tryz.isAgg262
 z46:=Tryz.sizeOf262
 v46:=Tryz.zeroValue262
 t51:=Tryz.underlying283
 a51:=Tryz.isAgg283
 z51:=Tryz.sizeOf283
 v51:=Tryz.zeroValue283
 t53:=Tryz.underlying247
 a53:=Tryz.isAgg247
 z53:=Tryz.sizeOf247
 v53:=Tryz.zeroValue247
 t75:=Tryz.underlying124
 a75:=Tryz.isAgg124
 z75:=Tryz.sizeOf124
 v75:=Tryz.zeroValue124
 t76:=Tryz.underlying125
 a76:=Tryz.isAgg125
 z76:=Tryz.sizeOf125
 v76:=Tryz.zeroValue125
 t85:=Tryz.underlying220
 a85:=Tryz.isAgg220
 z85:=Tryz.sizeOf220
 v85:=Tryz.zeroValue220
 t127:=Tryz.underlying181
 a127:=Tryz.isAgg181
 z127:=Tryz.sizeOf181
 v127:=Tryz.zeroValue181
 t143:=Tryz.underlying292
 a143:=Tryz.isAgg292
 z143:=Tryz.sizeOf292
 v143:=Tryz.zeroValue292
 t145:=Tryz.underlying294
 a145:=Tryz.isAgg294
 z145:=Tryz.sizeOf294
 v145:=Tryz.zeroValue294
 t167:=Tryz.underlying219
 a167:=Tryz.isAgg219
 z167:=Tryz.sizeOf219
 v167:=Tryz.zeroValue219
 t168:=Tryz.underlying222
 a168:=Tryz.isAgg222
 z168:=Tryz.sizeOf222
 v168:=Tryz.zeroValue222
 t171:=Tryz.underlying246
 a171:=Tryz.isAgg246
 z171:=Tryz.sizeOf246
 v171:=Tryz.zeroValue246
 t173:=Tryz.underlying250
 a173:=Tryz.isAgg250
 z173:=Tryz.sizeOf250
 v173:=Tryz.zeroValue250
 t175:=Tryz.underlying263
 a175:=Tryz.isAgg263
 z175:=Tryz.sizeOf263
 v175:=Tryz.zeroValue263
 t210:=Tryz.underlying267
 a210:=Tryz.isAgg267
 z210:=Tryz.sizeOf267
 v210:=Tryz.zeroValue267
 t212:=Tryz.underlying282
 a212:=Tryz.isAgg282
 z212:=Tryz.sizeOf282
 v212:=Tryz.zeroValue282
 t213:=Tryz.underlying284
 a213:=Tryz.isAgg284
 z213:=Tryz.sizeOf284
 t232:=Tryz.underlying324
 a232:=Tryz.isAgg324
 z232:=Tryz.sizeOf324
 v232:=Tryz.zeroValue324
 t233:=Tryz.underlying325
 a233:=Tryz.isAgg325
 z233:=Tryz.sizeOf325
 v233:=Tryz.zeroValue325
 g15:=by kernel_rfl
 g16:=by kernel_rfl
 g17:=by kernel_rfl
 g18:=by kernel_rfl
 g19:=by kernel_rfl
 t80:=Tryz.underlying134
 a80:=Tryz.isAgg134
 z80:=Tryz.sizeOf134
 v80:=Tryz.zeroValue134
 i0:=by kernel_rfl
 i2:=by kernel_rfl
 i3:=by kernel_rfl
 i4:=by kernel_rfl
 i5:=by kernel_rfl
 i9:=by kernel_rfl
 i20:=by kernel_rfl
 i21:=by kernel_rfl
 i37:=by kernel_rfl
 i46:=by kernel_rfl
 i51:=by kernel_rfl
 i53:=by kernel_rfl
 i75:=by kernel_rfl
 i76:=by kernel_rfl
 i80:=by kernel_rfl
 i85:=by kernel_rfl
 i127:=by kernel_rfl
 i143:=by kernel_rfl
 i145:=by kernel_rfl
 i167:=by kernel_rfl
 i168:=by kernel_rfl
 i171:=by kernel_rfl
 i173:=by kernel_rfl
 i175:=by kernel_rfl
 i210:=by kernel_rfl
 i212:=by kernel_rfl
 i232:=by kernel_rfl
 i233:=by kernel_rfl
 m15:=by kernel_rfl
 m16:=by kernel_rfl
 m17:=by kernel_rfl
 m18:=by kernel_rfl
 m19:=by kernel_rfl
 c0:=by kernel_rfl
 c2:=by kernel_rfl
 c3:=by kernel_rfl
 c4:=by kernel_rfl
 c5:=by kernel_rfl
 c9:=by kernel_rfl
 c20:=by kernel_rfl
 c21:=by kernel_rfl
 c37:=by kernel_rfl
 c46:=by kernel_rfl
 c51:=by kernel_rfl
 c53:=by kernel_rfl
 c75:=by kernel_rfl
 c76:=by kernel_rfl
 c80:=by kernel_rfl
 c85:=by kernel_rfl
 c127:=by kernel_rfl
 c143:=by kernel_rfl
 c145:=by kernel_rfl
 c167:=by kernel_rfl
 c168:=by kernel_rfl
 c171:=by kernel_rfl
 c173:=by kernel_rfl
 c175:=by kernel_rfl
 c210:=by kernel_rfl
 c212:=by kernel_rfl
 c213:=by kernel_rfl
 c232:=by kernel_rfl
 c233:=by kernel_rfl}
def Tryz.lays219_ren :Go.Shelf.Ren:=⟨fun | 219=>154 | 217=>188 | 225=>189 | 224=>190 | 267=>191 | 266=>211 | 314=>212 | n=>n,fun | 9=>9 | 3=>3 | 4=>4 | 5=>5 | 46=>262 | 146=>289 | 51=>283 | n=>n,fun | 1=>0 | n=>n⟩
theorem Tryz.lays219 :Go.Proofs.Lays.n219 prog Tryz.lays219_ren:={
 mixed:=by kernel_rfl
 f217:=Tryz.func188.trans (congrArg some (by kernel_rfl))
 f219:=Tryz.func154.trans (congrArg some (by kernel_rfl))
 f224:=Tryz.func190.trans (congrArg some (by kernel_rfl))
 f225:=Tryz.func189.trans (congrArg some (by kernel_rfl))
 f266:=Tryz.func211.trans (congrArg some (by kernel_rfl))
 f267:=Tryz.func191.trans (congrArg some (by kernel_rfl))
 f314:=Tryz.func212.trans (congrArg some (by kernel_rfl))
 t3:=Tryz.underlying3
 a3:=Tryz.isAgg3
 z3:=Tryz.sizeOf3
 v3:=Tryz.zeroValue3
 t4:=Tryz.underlying4
 a4:=Tryz.isAgg4
 z4:=Tryz.sizeOf4
 v4:=Tryz.zeroValue4
 t5:=Tryz.underlying5
 a5:=Tryz.isAgg5
 z5:=Tryz.sizeOf5
 v5:=Tryz.zeroValue5
 t9:=Tryz.underlying9
 a9:=Tryz.isAgg9
 z9:=Tryz.sizeOf9
 v9:=Tryz.zeroValue9
 t46:=Tryz.underlying262
 a46:=Tryz.isAgg262
 z46:=Tryz.sizeOf262
 v46:=Tryz.zeroValue262
 t51:=Tryz.underlying283
 a51:=Tryz.isAgg283
 z51:=Tryz.sizeOf283
 v51:=Tryz.zeroValue283
 t146:=Tryz.underlying289
 a146:=Tryz.isAgg289
 z146:=Tryz.sizeOf289
 v146:=Tryz.zeroValue289
 g1:=by kernel_rfl}
def Tryz.lays138_ren :Go.Shelf.Ren:=⟨fun | 138=>82 | 195=>119 | 218=>120 | 143=>118 | 219=>154 | 217=>188 | 225=>189 | 224=>190 | 267=>191 | 266=>211 | 314=>212 | n=>n,fun | 9=>9 | 3=>3 | 4=>4 | 5=>5 | 0=>0 | 46=>262 | 146=>289 | 51=>283 | n=>n,fun | 1=>0 | n=>n⟩
theorem Tryz.lays138 :Go.Proofs.Lays.n138 prog Tryz.lays138_ren:={
 mixed:=by kernel_rfl
 f138:=Tryz.func82.trans (congrArg some (by kernel_rfl))
 f143:=Tryz.func118.trans (congrArg some (by kernel_rfl))
 f195:=Tryz.func119.trans (congrArg some (by kernel_rfl))
 f217:=Tryz.func188.trans (congrArg some (by kernel_rfl))
 f218:=Tryz.func120.trans (congrArg some (by kernel_rfl))
 f219:=Tryz.func154.trans (congrArg some (by kernel_rfl))
 f224:=Tryz.func190.trans (congrArg some (by kernel_rfl))
 f225:=Tryz.func189.trans (congrArg some (by kernel_rfl))
 f266:=Tryz.func211.trans (congrArg some (by kernel_rfl))
 f267:=Tryz.func191.trans (congrArg some (by kernel_rfl))
 f314:=Tryz.func212.trans (congrArg some (by kernel_rfl))
 t0:=Tryz.underlying0
 a0:=Tryz.isAgg0
 z0:=Tryz.sizeOf0
 v0:=Tryz.zeroValue0
 t3:=Tryz.underlying3
 a3:=Tryz.isAgg3
 z3:=Tryz.sizeOf3
 v3:=Tryz.zeroValue3
 t4:=Tryz.underlying4
 a4:=Tryz.isAgg4
 z4:=Tryz.sizeOf4
 v4:=Tryz.zeroValue4
 t5:=Tryz.underlying5
 a5:=Tryz.isAgg5
 z5:=Tryz.sizeOf5
 v5:=Tryz.zeroValue5
 t9:=Tryz.underlying9
 a9:=Tryz.isAgg9
 z9:=Tryz.sizeOf9
 v9:=Tryz.zeroValue9
 t46:=Tryz.underlying262
 a46:=Tryz.isAgg262
 z46:=Tryz.sizeOf262
 v46:=Tryz.zeroValue262
 t51:=Tryz.underlying283
 a51:=Tryz.isAgg283
 z51:=Tryz.sizeOf283
 v51:=Tryz.zeroValue283
 t146:=Tryz.underlying289
 a146:=Tryz.isAgg289
 z146:=Tryz.sizeOf289
 v146:=Tryz.zeroValue289
 g1:=by kernel_rfl}
def Tryz.lays189_ren :Go.Shelf.Ren:=⟨fun | 189=>161 | 125=>196 | 257=>195 | 128=>224 | 129=>207 | 294=>215 | 295=>216 | 296=>217 | 297=>218 | 298=>219 | 299=>220 | 216=>221 | 300=>222 | 301=>223 | 328=>236 | 329=>237 | 330=>238 | 331=>239 | 332=>240 | 215=>241 | 343=>247 | n=>n,fun | 28=>83 | 3=>3 | 46=>262 | 0=>0 | 51=>283 | 53=>247 | 4=>4 | 183=>297 | 182=>296 | 131=>97 | 5=>5 | 9=>9 | 218=>312 | 222=>91 | 228=>326 | 229=>156 | n=>n,fun | n=>n⟩
theorem Tryz.lays189 :Go.Proofs.Lays.n189 prog Tryz.lays189_ren:={
 mixed:=by kernel_rfl
 f125:=Tryz.func196.trans (congrArg some (by kernel_rfl))
 f128:=Tryz.func224.trans (congrArg some (by kernel_rfl))
 f129:=Tryz.func207.trans (congrArg some (by kernel_rfl))
 f189:=Tryz.func161.trans (congrArg some (by kernel_rfl))
 f215:=Tryz.func241.trans (congrArg some (by kernel_rfl))
 f216:=Tryz.func221.trans (congrArg some (by kernel_rfl))
 f257:=Tryz.func195.trans (congrArg some (by kernel_rfl))
 f294:=Tryz.func215.trans (congrArg some (by kernel_rfl))
 f295:=Tryz.func216.trans (congrArg some (by kernel_rfl))
 f296:=Tryz.func217.trans (congrArg some (by kernel_rfl))
 f297:=Tryz.func218.trans (congrArg some (by kernel_rfl))
 f298:=Tryz.func219.trans (congrArg some (by kernel_rfl))
 f299:=Tryz.func220.trans (congrArg some (by kernel_rfl))
 f300:=Tryz.func222.trans (congrArg some (by kernel_rfl))
 f301:=Tryz.func223.trans (congrArg some (by kernel_rfl))
 f328:=Tryz.func236.trans (congrArg some (by kernel_rfl))
 f329:=Tryz.func237.trans (congrArg some (by kernel_rfl))
 f330:=Tryz.func238.trans (congrArg some (by kernel_rfl))
 f331:=Tryz.func239.trans (congrArg some (by kernel_rfl))
 f332:=Tryz.func240.trans (congrArg some (by kernel_rfl))
 f343:=Tryz.func247.trans (congrArg some (by kernel_rfl))
 t0:=Tryz.underlying0
 a0:=Tryz.isAgg0
 z0:=Tryz.sizeOf0
 v0:=Tryz.zeroValue0
 t3:=Tryz.underlying3
 a3:=Tryz.isAgg3
 z3:=Tryz.sizeOf3
 v3:=Tryz.zeroValue3
 t4:=Tryz.underlying4
 a4:=Tryz.isAgg4
 z4:=Tryz.sizeOf4
 v4:=Tryz.zeroValue4
 t5:=Tryz.underlying5
 a5:=Tryz.isAgg5
 z5:=Tryz.sizeOf5
 v5:=Tryz.zeroValue5
 t9:=Tryz.underlying9
 a9:=Tryz.isAgg9
 z9:=Tryz.sizeOf9
 v9:=Tryz.zeroValue9
 t28:=Tryz.underlying83
 a28:=Tryz.isAgg83
 z28:=Tryz.sizeOf83
 v28:=Tryz.zeroValue83
 t46:=Tryz.underlying262
 a46:=Tryz.isAgg262
 z46:=Tryz.sizeOf262
 v46:=Tryz.zeroValue262
 t51:=Tryz.underlying283
 a51:=Tryz.isAgg283
 z51:=Tryz.sizeOf283
 v51:=Tryz.zeroValue283
 t53:=Tryz.underlying247
 a53:=Tryz.isAgg247
 z53:=Tryz.sizeOf247
 v53:=Tryz.zeroValue247
 t131:=Tryz.underlying97
 a131:=Tryz.isAgg97
 z131:=Tryz.sizeOf97
 v131:=Tryz.zeroValue97
 t182:=Tryz.underlying296
 a182:=Tryz.isAgg296
 z182:=Tryz.sizeOf296
 v182:=Tryz.zeroValue296
 t183:=Tryz.underlying297
 a183:=Tryz.isAgg297
 z183:=Tryz.sizeOf297
 v183:=Tryz.zeroValue297
 t218:=Tryz.underlying312
 a218:=Tryz.isAgg312
 z218:=Tryz.sizeOf312
 v218:=Tryz.zeroValue312
 t222:=Tryz.underlying91
 a222:=Tryz.isAgg91
 z222:=Tryz.sizeOf91
 v222:=Tryz.zeroValue91
 t228:=Tryz.underlying326
 a228:=Tryz.isAgg326
 z228:=Tryz.sizeOf326
 v228:=Tryz.zeroValue326
 t229:=Tryz.underlying156
 a229:=Tryz.isAgg156
 z229:=Tryz.sizeOf156
 v229:=Tryz.zeroValue156}
open Go.Sort Go.RowKit in
theorem Tryz.slices_Sort_int (blk off cap:Nat) (zs:List Int) (w:World) (hH:Holds (Value.int .i64) w blk off zs.toArray) (dH:blk<w.heap.size) (hsz:zs.length<4611686018427387904):
  Calls prog 161 #[.slice (some ⟨blk,off,none⟩) zs.length cap] w fun e w'=>
   e=.returned (.tuple #[])/\ ∃n os,w'=grow (putRow (Value.int .i64) (Sort.ahead w n) blk off (zs.mergeSort fun x y=>decide (x<=y)).toArray) os:=Any.slices_Sort_int Tryz.lays189 blk off cap zs w hH dH hsz
def Tryz.lays146_ren :Go.Shelf.Ren:=⟨fun | 146=>44 | 221=>81 | 268=>117 | 138=>82 | 143=>118 | 195=>119 | 197=>153 | 218=>120 | 219=>154 | 260=>187 | 217=>188 | 225=>189 | 224=>190 | 267=>191 | 266=>211 | 314=>212 | n=>n,fun | 9=>9 | 31=>70 | 3=>3 | 4=>4 | 0=>0 | 105=>217 | 21=>21 | 5=>5 | 46=>262 | 119=>285 | 139=>288 | 138=>287 | 146=>289 | 51=>283 | n=>n,fun | 1=>0 | 3=>4 | 4=>5 | n=>n⟩
theorem Tryz.lays146 :Go.Proofs.Lays.n146 prog Tryz.lays146_ren:={
 mixed:=by kernel_rfl
 f138:=Tryz.func82.trans (congrArg some (by kernel_rfl))
 f143:=Tryz.func118.trans (congrArg some (by kernel_rfl))
 f146:=Tryz.func44.trans (congrArg some (by kernel_rfl))
 f195:=Tryz.func119.trans (congrArg some (by kernel_rfl))
 f197:=Tryz.func153.trans (congrArg some (by kernel_rfl))
 f217:=Tryz.func188.trans (congrArg some (by kernel_rfl))
 f218:=Tryz.func120.trans (congrArg some (by kernel_rfl))
 f219:=Tryz.func154.trans (congrArg some (by kernel_rfl))
 f221:=Tryz.func81.trans (congrArg some (by kernel_rfl))
 f224:=Tryz.func190.trans (congrArg some (by kernel_rfl))
 f225:=Tryz.func189.trans (congrArg some (by kernel_rfl))
 f260:=Tryz.func187.trans (congrArg some (by kernel_rfl))
 f266:=Tryz.func211.trans (congrArg some (by kernel_rfl))
 f267:=Tryz.func191.trans (congrArg some (by kernel_rfl))
 f268:=Tryz.func117.trans (congrArg some (by kernel_rfl))
 f314:=Tryz.func212.trans (congrArg some (by kernel_rfl))
 t0:=Tryz.underlying0
 a0:=Tryz.isAgg0
 z0:=Tryz.sizeOf0
 v0:=Tryz.zeroValue0
 t3:=Tryz.underlying3
 a3:=Tryz.isAgg3
 z3:=Tryz.sizeOf3
 v3:=Tryz.zeroValue3
 t4:=Tryz.underlying4
 a4:=Tryz.isAgg4
 z4:=Tryz.sizeOf4
 v4:=Tryz.zeroValue4
 t5:=Tryz.underlying5
 a5:=Tryz.isAgg5
 z5:=Tryz.sizeOf5
 v5:=Tryz.zeroValue5
 t9:=Tryz.underlying9
 a9:=Tryz.isAgg9
 z9:=Tryz.sizeOf9
 v9:=Tryz.zeroValue9
 t21:=Tryz.underlying21
 a21:=Tryz.isAgg21
 z21:=Tryz.sizeOf21
 v21:=Tryz.zeroValue21
 t31:=Tryz.underlying70
 a31:=Tryz.isAgg70
 z31:=Tryz.sizeOf70
 v31:=Tryz.zeroValue70
 t46:=Tryz.underlying262
 a46:=Tryz.isAgg262
 z46:=Tryz.sizeOf262
 v46:=Tryz.zeroValue262
 t51:=Tryz.underlying283
 a51:=Tryz.isAgg283
 z51:=Tryz.sizeOf283
 v51:=Tryz.zeroValue283
 t105:=Tryz.underlying217
 a105:=Tryz.isAgg217
 z105:=Tryz.sizeOf217
 v105:=Tryz.zeroValue217
 t119:=Tryz.underlying285
 a119:=Tryz.isAgg285
 z119:=Tryz.sizeOf285
 t138:=Tryz.underlying287
 a138:=Tryz.isAgg287
 z138:=Tryz.sizeOf287
 v138:=Tryz.zeroValue287
 t139:=Tryz.underlying288
 a139:=Tryz.isAgg288
 z139:=Tryz.sizeOf288
 v139:=Tryz.zeroValue288
 t146:=Tryz.underlying289
 a146:=Tryz.isAgg289
 z146:=Tryz.sizeOf289
 v146:=Tryz.zeroValue289
 g1:=by kernel_rfl
 g3:=by kernel_rfl
 g4:=by kernel_rfl}
def Tryz.laysNm220_ren :Go.Shelf.Ren:=⟨fun | 20=>162 | n=>n,fun | 22=>83 | 3=>3 | 4=>4 | 0=>0 | n=>n,fun | n=>n⟩
theorem Tryz.laysNm220 :Go.Proofs.Lays2.n20 prog Tryz.laysNm220_ren:={
 mixed:=by kernel_rfl
 f20:=Tryz.func162.trans (congrArg some (by kernel_rfl))
 t0:=Tryz.underlying0
 a0:=Tryz.isAgg0
 z0:=Tryz.sizeOf0
 v0:=Tryz.zeroValue0
 t3:=Tryz.underlying3
 a3:=Tryz.isAgg3
 z3:=Tryz.sizeOf3
 v3:=Tryz.zeroValue3
 t4:=Tryz.underlying4
 a4:=Tryz.isAgg4
 z4:=Tryz.sizeOf4
 v4:=Tryz.zeroValue4
 t22:=Tryz.underlying83
 a22:=Tryz.isAgg83
 z22:=Tryz.sizeOf83
 v22:=Tryz.zeroValue83
 i3:=by kernel_rfl}
open Go.RowKit Go.Lib Go.Sort in
theorem Tryz.slices_Compact_int (blk off cap:Nat) (zs:List Int) (w:World) (hH:Holds (Value.int .i64) w blk off zs.toArray) (hsz:zs.length<=9223372036854775807) (cJ:zs.length<=cap):
  Calls prog 162 #[.slice (some ⟨blk,off,none⟩) zs.length cap] w fun e w'=>e=.returned (.slice (some ⟨blk,off,none⟩) (Lib.compact zs).length cap)/\ ∃q,w'=putRow (Value.int .i64) (Sort.ahead w q) blk off (Lib.compact zs++List.replicate (zs.length - (Lib.compact zs).length) 0).toArray :=Any.slices_Compact_int Tryz.laysNm220 blk off cap zs w hH hsz cJ
open Go.RowKit Go.Lib Go.Sort in
theorem Tryz.slices_Compact_int_empty (a:Option Addr) (cap:Nat) (w:World):
  Calls prog 162 #[.slice a 0 cap] w fun e w'=>e=.returned (.slice a 0 cap)/\w'=w:=Any.slices_Compact_int_empty Tryz.laysNm220 a cap w
open Go.RowKit Go.Sort in
theorem Tryz.slices_Sort_int_none (p:Option Addr) (cap:Nat) (w:World):
  Calls prog 161 #[.slice p 0 cap] w fun e w'=>e=.returned (.tuple #[])/\w'=w:=Any.slices_Sort_int_none Tryz.lays189 p cap w
def Tryz.sortEnd_ren :Go.Shelf.Ren:=⟨fun | 6=>244 | 15=>196 | 14=>248 | 28=>224 | 29=>207 | 20=>250 | 21=>251 | 22=>252 | 23=>253 | 24=>254 | 25=>255 | 26=>256 | 27=>257 | 46=>258 | 47=>237 | 48=>238 | 49=>259 | 50=>260 | 57=>261 | n=>n,fun | 22=>319 | 24=>311 | 25=>321 | 3=>3 | 39=>262 | 0=>0 | 53=>283 | 55=>247 | 4=>4 | 46=>297 | 45=>296 | 50=>97 | 5=>5 | 9=>9 | 66=>312 | 70=>91 | 76=>326 | 77=>156 | n=>n,fun | n=>n⟩
theorem Tryz.sortEnd :Go.Proofs.SlLaysF0.n6 prog Tryz.sortEnd_ren:={
 mixed:=by kernel_rfl
 f6:=⟨Tryz.f244.name,by decide,Tryz.func244.trans (congrArg some (by kernel_rfl))⟩
 f14:=⟨Tryz.f248.name,by decide,Tryz.func248.trans (congrArg some (by kernel_rfl))⟩
 f15:=Tryz.func196.trans (congrArg some (by kernel_rfl))
 f20:=⟨Tryz.f250.name,by decide,Tryz.func250.trans (congrArg some (by kernel_rfl))⟩
 f21:=⟨Tryz.f251.name,by decide,Tryz.func251.trans (congrArg some (by kernel_rfl))⟩
 f22:=⟨Tryz.f252.name,by decide,Tryz.func252.trans (congrArg some (by kernel_rfl))⟩
 f23:=⟨Tryz.f253.name,by decide,Tryz.func253.trans (congrArg some (by kernel_rfl))⟩
 f24:=⟨Tryz.f254.name,by decide,Tryz.func254.trans (congrArg some (by kernel_rfl))⟩
 f25:=⟨Tryz.f255.name,by decide,Tryz.func255.trans (congrArg some (by kernel_rfl))⟩
 f26:=⟨Tryz.f256.name,by decide,Tryz.func256.trans (congrArg some (by kernel_rfl))⟩
 f27:=⟨Tryz.f257.name,by decide,Tryz.func257.trans (congrArg some (by kernel_rfl))⟩
 f28:=Tryz.func224.trans (congrArg some (by kernel_rfl))
 f29:=Tryz.func207.trans (congrArg some (by kernel_rfl))
 f46:=⟨Tryz.f258.name,by decide,Tryz.func258.trans (congrArg some (by kernel_rfl))⟩
 f47:=Tryz.func237.trans (congrArg some (by kernel_rfl))
 f48:=Tryz.func238.trans (congrArg some (by kernel_rfl))
 f49:=⟨Tryz.f259.name,by decide,Tryz.func259.trans (congrArg some (by kernel_rfl))⟩
 f50:=⟨Tryz.f260.name,by decide,Tryz.func260.trans (congrArg some (by kernel_rfl))⟩
 f57:=⟨Tryz.f261.name,by decide,Tryz.func261.trans (congrArg some (by kernel_rfl))⟩
 t0:=Tryz.underlying0
 a0:=Tryz.isAgg0
 z0:=Tryz.sizeOf0
 v0:=Tryz.zeroValue0
 t3:=Tryz.underlying3
 a3:=Tryz.isAgg3
 z3:=Tryz.sizeOf3
 v3:=Tryz.zeroValue3
 t4:=Tryz.underlying4
 a4:=Tryz.isAgg4
 z4:=Tryz.sizeOf4
 v4:=Tryz.zeroValue4
 t5:=Tryz.underlying5
 a5:=Tryz.isAgg5
 z5:=Tryz.sizeOf5
 v5:=Tryz.zeroValue5
 t9:=Tryz.underlying9
 a9:=Tryz.isAgg9
 z9:=Tryz.sizeOf9
 v9:=Tryz.zeroValue9
 t22:=Tryz.underlying319
 a22:=Tryz.isAgg319
 z22:=Tryz.sizeOf319
 v22:=Tryz.zeroValue319
 t25:=Tryz.underlying321
 a25:=Tryz.isAgg321
 z25:=Tryz.sizeOf321
 v25:=Tryz.zeroValue321
 t39:=Tryz.underlying262
 a39:=Tryz.isAgg262
 z39:=Tryz.sizeOf262
 v39:=Tryz.zeroValue262
 t45:=Tryz.underlying296
 a45:=Tryz.isAgg296
 z45:=Tryz.sizeOf296
 v45:=Tryz.zeroValue296
 t46:=Tryz.underlying297
 a46:=Tryz.isAgg297
 z46:=Tryz.sizeOf297
 v46:=Tryz.zeroValue297
 t50:=Tryz.underlying97
 a50:=Tryz.isAgg97
 z50:=Tryz.sizeOf97
 v50:=Tryz.zeroValue97
 t53:=Tryz.underlying283
 a53:=Tryz.isAgg283
 z53:=Tryz.sizeOf283
 v53:=Tryz.zeroValue283
 t55:=Tryz.underlying247
 a55:=Tryz.isAgg247
 z55:=Tryz.sizeOf247
 v55:=Tryz.zeroValue247
 t66:=Tryz.underlying312
 a66:=Tryz.isAgg312
 z66:=Tryz.sizeOf312
 v66:=Tryz.zeroValue312
 t70:=Tryz.underlying91
 a70:=Tryz.isAgg91
 z70:=Tryz.sizeOf91
 v70:=Tryz.zeroValue91
 t76:=Tryz.underlying326
 a76:=Tryz.isAgg326
 z76:=Tryz.sizeOf326
 v76:=Tryz.zeroValue326
 t77:=Tryz.underlying156
 a77:=Tryz.isAgg156
 z77:=Tryz.sizeOf156
 v77:=Tryz.zeroValue156}
def Tryz.lays240_ren :Go.Shelf.Ren:=⟨fun | 240=>108 | 276=>145 | n=>n,fun | 0=>0 | 4=>4 | 9=>9 | 20=>20 | 70=>72 | 72=>75 | 164=>210 | 37=>73 | n=>n,fun | n=>n⟩
theorem Tryz.lays240 :Go.Proofs.Lays.n240 prog Tryz.lays240_ren:={
 mixed:=by kernel_rfl
 f240:=Tryz.func108.trans (congrArg some (by kernel_rfl))
 f276:=Tryz.func145.trans (congrArg some (by kernel_rfl))
 t0:=Tryz.underlying0
 a0:=Tryz.isAgg0
 z0:=Tryz.sizeOf0
 v0:=Tryz.zeroValue0
 t4:=Tryz.underlying4
 a4:=Tryz.isAgg4
 z4:=Tryz.sizeOf4
 v4:=Tryz.zeroValue4
 t9:=Tryz.underlying9
 a9:=Tryz.isAgg9
 z9:=Tryz.sizeOf9
 v9:=Tryz.zeroValue9
 t20:=Tryz.underlying20
 a20:=Tryz.isAgg20
 z20:=Tryz.sizeOf20
 v20:=Tryz.zeroValue20
 t70:=Tryz.underlying72
 a70:=Tryz.isAgg72
 z70:=Tryz.sizeOf72
 v70:=Tryz.zeroValue72
 t72:=Tryz.underlying75
 a72:=Tryz.isAgg75
 z72:=Tryz.sizeOf75
 v72:=Tryz.zeroValue75
 t164:=Tryz.underlying210
 a164:=Tryz.isAgg210
 z164:=Tryz.sizeOf210
 v164:=Tryz.zeroValue210
}
theorem Tryz.Builder_X72_240 :Builder.X72 prog Tryz.lays240_ren where
 sizeBuilder:=by kernel_rfl
 liesBuilder:=by kernel_rfl
end Go.Proofs
namespace Go.Am
open IntKind (wrap)
open Go.Proofs.Tryz
open Go.Proofs
theorem Iz :NK prog:=fun _ b p v w l cC hbk hv=>by
 rcases hv with ⟨rfl,rfl⟩ | ⟨g,o,c,cur,rfl,hlc,hg,hn,hc⟩
 .refine (U0 Tryz.lays169 Tryz.Builder_Extra_169 b p w hbk).mono fun e w' ⟨he,hw⟩=>⟨he,?_⟩
  subst hw;exact ⟨Ak _,fun k o hk _=>hk,rfl,rfl,rfl⟩
 .cases l with
  | nil=>
   by_cases hc0:c=0
   .subst hc0;refine (Sc Tryz.lays169 Tryz.Builder_Extra_169 b p w g o cur hbk hg).mono fun e w' ⟨he,hw⟩=>⟨he,?_⟩
    subst hw;refine ⟨?_,fun k ob hk _=> ?_,rfl,rfl,rfl⟩
    .show w.heap.size<=(w.heap.push _).size;rw [Array.size_push];exact Bt _
    .show (w.heap.push _)[k]? =_;rw [Bo,At (AU (As.1 hk).1)];exact hk
   .refine (QqW Tryz.lays169 Tryz.Builder_Extra_169 b p w g o c hc0 hbk).mono fun e w' ⟨he,hw⟩=>⟨he,?_⟩
    subst hw;exact ⟨Ak _,fun k o hk _=>hk,rfl,rfl,rfl⟩
  | cons x r=>
   refine (SX Tryz.lays169 Tryz.Builder_Extra_169 b p w g o c cur (x::r) (by simp) hlc cC hbk hg (hn (by simp)) hc).mono fun e w' ⟨he,hw⟩=>⟨he,?_⟩
   subst hw;obtain ⟨f1,f2,f3,f4⟩:=SY w.drew ⟨g,o,none⟩ (x::r).length;exact ⟨Bv f1.symm,fun k ob hk hne=>(XC w.drew g o _ k (hne g o _ c rfl)).trans hk,f2,f3,f4⟩
def Gp (P:Program):Bool:=P.funcs.toList.all fun fn=>fn.body.isNone|| !(fn.name == "runtime.NumGoroutine")
theorem U4 {P:Program} (h:Gp P=true) (hs:NK P):CY P:=by
 refine ⟨fun f fn hf hb=> ?_,hs⟩;have hm:fn∈P.funcs.toList:=by rw [Array.mem_toList_iff];exact Array.mem_of_getElem? hf
 have:=Az.mp h fn hm;cases hbb:fn.body with
 | none=>rw [hbb] at hb;cases hb
 | some b=>simpa [hbb] using this
theorem Ke :CY prog:=U4 (by kernel_rfl) Iz
theorem mixed :prog.follows .mixedOrders =true:=by kernel_rfl
end Go.Am
namespace Go.Am
open IntKind (wrap)
open Go.Proofs.Tryz
open Go.Proofs
instance {α :Type} [Yc α]:Yc (List α) where
 w:=1
 d:=[]
 cells l:=[.dat l.length (Zz l)]
 of cs:=match cs.getD 0 .undef with
  | .dat n g=>B8 α n g
  | _=>[]
 len _:=rfl
 pos:=Ak 1
 flat _:=rfl
 sc _:=rfl
 back l:=Ze l
theorem Ti {α:Type} [Yc α] {L:List α} {n off sz:Nat} {cells:List BA} (hn:n=L.length) (hsz:sz=Yc.w α) (hc:(cells.drop off).take (n*sz)=(L.map Yc.cells).flatten):Vp n (La cells off sz) (Zz L)=true:=Ya fun i hi=>by
 have e:((((cells.drop off).take (n*sz)).drop (i*sz)).take sz)=(cells.drop (off+i*sz)).take sz:=by rw [List.drop_take,List.take_take,List.drop_drop,Nat.min_eq_left];have:=Av sz (show i+1<=n by omega);rw [AH,Bu] at this;omega
 have h:=Lz (sz:=sz) (L.map Yc.cells) i (fun x hx=>by obtain ⟨y,_,rfl⟩:=List.mem_map.1 hx;rw [Yc.len,hsz]) (by simpa using by omega);unfold La;rw [<-e,hc,h];simp only [Zz];rw [Vm (show i<L.length by omega),Bh,Bi,Ao (show i<L.length by omega)];rfl
theorem VS {G H:Nat->List BA} (h:G 0=H 0):Vp 1 G H=true:=Ya fun i hi=>by
 obtain rfl:i=0:=by omega
 exact h
theorem X5 {L:List BA} (s t:Nat) (h:L.all (pf 6)=true):Jb (fun k=>(L.drop (k*s)).take t)=true:=Ya fun i=>
 Az.2 fun v hv=>Az.1 h v (List.mem_of_mem_drop (List.mem_of_mem_take hv))
structure OB where
 b:Bool
 h:b=true
def nn :OB:=⟨true,rfl⟩
def pp (q r:OB):OB:=⟨q.b&&r.b,Hk q.h r.h⟩
def tt {c v:Bool} (k:c=v) (r:OB):OB:=⟨(c == v)&&r.b,Hk (Mu k) r.h⟩
def ww {c:Bool} (k:c=true) (r:OB):OB:=⟨c&&r.b,Hk k r.h⟩
def fl {α:Type} [Yc α] (L:List α) (r:OB):OB:=⟨Jb (Zz L)&&r.b,Hk (Yo L) r.h⟩
def xw {c:Bool} (k:c=true):OB:=⟨c,k⟩
def xI (α:Type) [Yc α] (n:Nat) (g:Nat->List BA) (h:BT α n g=true:=by first | with_reducible exact Jl _ _ | exact Jl _ _ | exact P7 _ | exact QD _ _ _ | assumption | exact w0j _ rfl | exact w0i _ rfl rfl):OB:=⟨BT α n g,h⟩
def xr {α:Type} [Yc α] (L:List α):OB:=⟨BT α L.length (Zz L),Jl L _⟩
def xL (a b:Nat) (h:Dr a b=true:=by first | exact Jj rfl | exact Jj (by simp only [AX,AY,List.length_nil,List.length_set,Ko,PJ,List.length_replicate] <;> omega) | assumption):OB:=⟨Dr a b,h⟩
def xS (n:Nat) (G H:Nat->List BA) (h:Vp n G H=true:=by
  repeat' (first | exact Mj _ _ | assumption | exact XB _ _ | exact VS rfl | exact YW | exact Ti rfl rfl rfl | rfl | (refine Pr ?_ ?_ rfl rfl rfl) | (refine Ps ?_ ?_ rfl) | exact XA _ _ _ | (refine VR ?_ ?_ ?_ (Nat.min_le_left _ _)) | exact YV (by repeat' (first | exact Mj _ _ | (refine Pr ?_ ?_ rfl rfl rfl) | (refine Ps ?_ ?_ rfl) | (simp only [AX,AY,List.length_nil,List.length_set,Ko];done) | omega)) (by assumption) | (refine Wl ?_ ?_ ?_ rfl) | exact W9 (Mj _ _) rfl | apply Tj | exact VT rfl rfl | exact Aj _ | (simp only [AX,AY,List.length_nil,List.length_set,Ko,PJ,List.length_replicate] <;> omega))):OB:=⟨Vp n G H,h⟩
def xF (G:Nat->List BA) (h:Jb G=true:=by
  repeat' (first | with_reducible exact Yo _ | apply WG | apply WJ | apply WH | apply WI | exact Yo _ | exact X4 | exact TE _ _ | exact X5 _ _ rfl | apply Ox | rfl | assumption)):OB:=⟨Jb G,h⟩
def xZ (v:BA) (n:Nat) (g:Nat->List BA) (h:Iq v n g=true:=by first | exact w0n _ _ _ | exact WK _ _):OB:=⟨Iq v n g,h⟩
def xG (c:Bool) (h:c=true:=by
  repeat' (first | with_reducible (first | assumption | exact Nat.beq_refl _ | exact UH _ | exact U5 _ | exact WU _ | exact w0z _ | exact WT _ | apply Hk | apply Mu) | rfl | exact w0k _ | exact XX _ _ rfl | exact XW _ _ _ rfl | exact WS _ _ rfl | exact YD rfl | exact VJ rfl rfl (fun _=>rfl) | (refine Sy ?_ (by assumption)) | (refine V8 ?_ rfl rfl rfl) | exact Jl _ _ | exact P7 _ | exact QD _ _ _ | exact Yo _ | apply Ox | apply Hk | apply Mu)):OB:=⟨c,h⟩
def EQ (n:Nat) (l:List BP):List BP:=Nat.rec l (fun _ r=>.keep ::r) n
abbrev tn (n:Int):Nat:=Int.toNat n
abbrev ii (n:Int):BA:=.int .i64 n
abbrev wr (n:Int):Int:=wrap .i64 n
def BQ (n:Nat) (l:List Bool):List Bool:=Nat.rec l (fun _ r=>true::r) n
abbrev a6:D9:=⟨[],[],[]⟩
abbrev a7 (l:List Nat):B1:=⟨[],[],[some l],[]⟩
theorem sl {S:BC} (hS:Zu prog S) (n:Nat) (gs:List (TypeId×Nat×(Nat->List BA))) (N:B1) (L:D9) (orc:List Bool) (ob:OB) {C C':BJ}
  (h:(((Ir prog S (Ek prog S 100000 4) n (C.withO orc)).map (K6 gs)).bind (Is prog N)).map (IJ L)=some (C'.withB ob.b):=by kernel_rfl) (hfl:IR C=true:=by rfl):Ua prog C C':=
 VY Ke mixed hS gs N L orc ob.b h ob.h hfl
def rC (n f:Nat) (p:List Nat) (j r:Nat) (env:List (Nat×BA)):BJ:=⟨⟨n,0,true⟩,none,Zk prog f p j,none,Zy prog r,⟨Xd env,Kf [] 0,0,[],true⟩,[],.leaf⟩
theorem lr {σ:Type} {cfg:σ->BJ} {C:BJ} {rs:List ResultVar} {vs:List BA} (n f:Nat) (p:List Nat) (j r:Nat) (env:List (Nat×BA)) (h:Ua prog C (rC n f p j r env)) (hf:De (rC n f p j r env)=true:=by rfl)
  (hr:aResults prog (rC n f p j r env).st rs=some vs:=by kernel_rfl):Wi prog rs cfg C (.ret vs):=w0f _ h hf hr
theorem lb {rs:List ResultVar} {σ:Type} {cfg:σ->BJ} {C:BJ} {c:Bool} {a b:Wn σ} (ha:c=true->Wi prog rs cfg C a) (hb:c=false->Wi prog rs cfg C b):Wi prog rs cfg C (bif c then a else b):=P8 ha hb
theorem lo {rs:List ResultVar} {σ:Type} {cfg:σ->BJ} {C:BJ} {c:Bool} {a:Wn σ} (ha:c=true->Wi prog rs cfg C a):Wi prog rs cfg C (bif c then a else .stuck):=w0g ha
def sOf :BA->List UInt8
 | .str s=>s
 | _=>[]
instance (priority :=high) instStr:Yc (List UInt8) where
 w:=1
 d:=[]
 cells s:=[.str s]
 of l:=sOf (l.getD 0 .undef)
 len _:=rfl
 pos:=Ak 1
 flat _:=rfl
 sc _:=rfl
 back _:=rfl
abbrev Gv :Nat:=154
abbrev JR :Nat:=79
abbrev H1 :Nat:=82
abbrev DJ :Nat:=73
abbrev JA :Nat:=44
abbrev JO :Nat:=70
abbrev JV :Nat:=85
abbrev JS :Nat:=108
abbrev JH :Nat:=12
abbrev Q9 :Nat:=180
abbrev R0 :Nat:=185
abbrev R8 :Nat:=186
abbrev R1 :Nat:=183
abbrev FV :Nat:=184
abbrev R9 :Nat:=151
abbrev SL :Nat:=181
abbrev SJ :Nat:=182
abbrev R5 :Nat:=149
abbrev Ra :Nat:=31
abbrev SM :Nat:=150
abbrev FW :Nat:=148
abbrev R7 :Nat:=113
abbrev Q7 :Nat:=76
abbrev JL :Nat:=203
abbrev JK :Nat:=168
abbrev JJ :Nat:=103
abbrev Rb :Nat:=244
abbrev Pf :Nat:=245
abbrev FU :Nat:=161
abbrev Pe :Nat:=162
abbrev JI :Nat:=229
abbrev QI :Nat:=200
abbrev Pg :Nat:=140
abbrev Q8 :Nat:=167
abbrev Ph :Nat:=166
abbrev Pi :Nat:=101
-- not there: gambrel/solid.contact
abbrev QH :Nat:=61
-- not there: gambrel/gambrelref28.insert
end Go.Am
namespace Go.Am
open IntKind (wrap)
open Go.Proofs Go.Sort
theorem Ut {P:Program} {S:BC} (hS:Zu P S) {f:FuncId} {F:List BA->Option (BA×Bool)} (hf:(P.funcs[f]?).any (fun fn=>fn.body.isSome)=true) (hF:IF P f F):Zu P (S.with f F):=by
 intro g G hg;unfold BC.with at hg;cases hgf:Nat.beq g f with
 | false=>rw [hgf] at hg;exact hS g G hg
 | true=>
  rw [hgf] at hg;obtain rfl:GT.val F=G:=Ac hg;obtain rfl:g=f:=Ae hgf;refine ⟨?_,hF⟩;cases hfn:P.funcs[g]? with
  | none=>rw [hfn] at hf;cases hf
  | some fn=>rw [hfn] at hf;exact ⟨fn,rfl,hf⟩
theorem XK {P:Program} {S:BC} (hS:Zu P S) {f:FuncId} {F:List BA->BH->Option (BA×Nat×BE×Bool)} (hf:(P.funcs[f]?).any (fun fn=>fn.body.isSome)=true) (hF:Db P f F):Zu P (fun g=>bif Nat.beq g f then some (.eff F) else S g):=by
 intro g G hg;cases hgf:Nat.beq g f with
 | false=>simp only [hgf,Ai] at hg;exact hS g G hg
 | true=>
  simp only [hgf,Ah] at hg;obtain rfl:GT.eff F=G:=Ac hg;obtain rfl:g=f:=Ae hgf;refine ⟨?_,hF⟩;cases hfn:P.funcs[g]? with
  | none=>rw [hfn] at hf;cases hf
  | some fn=>rw [hfn] at hf;exact ⟨fn,rfl,hf⟩
theorem Qg {P:Program} {f:FuncId} {F:List BA->Option (BA×Bool)}
  (h: ∀args v,F args=some (v,true)-> ∀(H:CX) (vals:Array Value) (w:World),Xo (Zb (Km H)) args vals.toList->(∀k o,H k=some o->w.heap[k]? =some o)->Glob H->Calls P f vals w fun e w'=> ∃u,e=.returned u/\Zb (Km H) v u/\RowKit.Below w.heap.size w w'):IF P f F:=
 fun args v hv H vals w cD hH hG=>(h args v hv H vals w cD hH hG).mono fun e w' ⟨u,he,hu,hb⟩=>⟨H,u,fun _ _ h=>h,fun k o e=>by rw [hb.block k (As.1 (hH k o e)).1];exact hH k o e,fun _ _=>rfl,he,hu,hb⟩
open Go.Proofs.Tryz
open Go.Lib
def HR (args:List BA) (mem:BH):Option (BA×Nat×BE×Bool):=match args with
 | [.ptr b 0]=>match Zs mem b with
  | some ⟨.obj .bld ::r,ty,none⟩=>some (.tup [],b,⟨.obj .bld ::r,ty,none⟩,Nat.beq ty CF)
  | _=>none
 | _=>none
theorem SZ {w:World} {k:Nat} {c:Array Value} {el:TypeId} {fz:Nat×Nat} (h:w.heap[k]? =some (.cells c el fz)) (v:Value):w.setCell ⟨k,0,none⟩ v=w.putObj k (.cells (c.setIfInBounds 0 v) el fz):=by
 unfold World.setCell World.putObj
 congr 1
 apply Array.ext_getElem?;intro i;rw [A5,Array.getElem?_setIfInBounds];split
 .rename_i e;subst e;have hlt:=(As.1 h).1;show Option.map _ w.heap[k]? =_;rw [h,AB hlt];rfl
 .rfl
theorem ZE :Db prog JS HR:=by
 intro args mem v b blk h dY ρ next floor vals w hfl cD cB
 unfold HR at h;split at h
 .rename_i b0;split at h
  .rename_i r ty hm;simp only [Ab,Aa] at h;obtain ⟨rfl,rfl,rfl,hty⟩:=h;obtain rfl:ty=CF:=Ae hty;obtain ⟨l,hl,dE⟩: ∃l,ρ b0=some l/\vals= #[.pointer (some ⟨l.blk,l.base+0,none⟩)]:=by
    obtain ⟨vl⟩:=vals;cases cD with
    | cons h1 h2=>
     cases h2;cases h1 with
     | ptr _ _ l e=>exact ⟨l,e,rfl⟩
   have hk:=cB.blk b0 l _ hl hm;cases hk with
   | plain k=>exact absurd k.noObj (by simp [BE.isObj])
   | obj o r' ty' e1 e2 e3=>
    simp only [BE.mk.injEq,Bc,BA.obj.injEq,and_true] at e1;obtain ⟨⟨rfl,rfl⟩,rfl⟩:=e1;obtain ⟨buf,v,p,rfl,hb,hv,hp⟩:=e3;have dK:l.base=0:=(by rw [e2]);rw [dK] at dE;subst dE;have hev: ∀p',(p'=none\/p'=some (⟨l.blk,0,none⟩:Addr))->Dl ρ CF l.blk [buf] .bld (some (.cells #[.pointer p',v] CF (0,0))):=fun p' h=>⟨buf,v,p',rfl,rfl,hv,h⟩
    rcases hp with rfl | rfl
    .refine (Any.Builder_copyCheck_fresh Tryz.lays240 Tryz.Builder_X72_240 l.blk w (by simp [World.cell?,hb]) (by simp [World.shape?,hb];rfl) (by simp [World.frozen?,hb])).mono fun e w' ⟨he,hw⟩=>⟨_,he,.tup [] #[] rfl (fun i h=>absurd h (AC _)),?_⟩
     rw [SZ hb] at hw;subst hw;exact ⟨cB.setObj hl hm rfl rfl _ (hev _ (.inr rfl)),Ev.ofObj cB hl hfl _ _⟩
    .refine (Any.Builder_copyCheck_used Tryz.lays240 Tryz.Builder_X72_240 l.blk w (by simp [World.cell?,hb])).mono fun e w' ⟨he,hw⟩=>⟨_,he,.tup [] #[] rfl (fun i h=>absurd h (AC _)),?_⟩
     subst hw;have dJ:w'.putObj l.blk (.cells #[.pointer (some ⟨l.blk,0,none⟩),v] CF (0,0))=w':=by
      have hlt:=(As.1 hb).1;have:w'.heap.setIfInBounds l.blk (.cells #[.pointer (some ⟨l.blk,0,none⟩),v] CF (0,0))=w'.heap:=by
       apply Array.ext_getElem?;intro i;rw [Array.getElem?_setIfInBounds];split
       .rename_i e;subst e;rw [hb]
       .rfl
      unfold World.putObj;rw [this]
     have A:=cB.setObj hl hm rfl rfl _ (hev _ (.inr rfl));have B:=Ev.ofObj cB hl hfl (some ⟨[.obj .bld,buf],CF,none⟩) (.cells #[.pointer (some ⟨l.blk,0,none⟩),v] CF (0,0));rw [dJ] at A B;exact ⟨A,B⟩
  .cases h
 .cases h
def Nh (n:Int):List UInt8:=itoa n
def WP (n:Int):Bool:=decide (-9223372036854775808<=n/\n<=9223372036854775807)
def HO :List BA->Option (BA×Bool)
 | [.int .i64 n]=>some (.str (Nh n),WP n)
 | _=>none
theorem Ss (w:World) (k:Nat) (os:Array Obj):RowKit.Below w.heap.size w (grow (w.drewN k) os):=
 ⟨rfl,rfl,rfl,by show _<=(w.heap++os).size;rw [Array.size_append];exact Nat.le_add_right _ _,fun k hk=>by show (w.heap++os)[k]? =_;rw [Array.getElem?_append_left hk]⟩
theorem WX {H:CX} {w:World} (hH: ∀k o,H k=some o->w.heap[k]? =some o) (hG:Glob H):Lib.TabIs prog w "internal/strconv.uint64pow10" .u64 Lib.pow10Tab:=by
 obtain ⟨el,fz,e⟩:=hG.pow (gpow.headD 0) (by decide);have h:prog.globalNamed "internal/strconv.uint64pow10" =some (gpow.headD 0):=by kernel_rfl
 unfold Lib.TabIs World.var?;rw [h];show (match w.heap[gpow.headD 0]? with | some (.cells cs _ _)=>some cs | _=>none)=_;rw [hH _ _ e];show some pow10A=_;unfold pow10A Lib.pow10Tab;rw [List.map_map];rfl
theorem Gu :IF prog JO HO:=Qg fun args v hv H vals w cD hH hG=>by
 unfold HO at hv;split at hv
 .rename_i n;simp only [Ab,Aa] at hv;obtain ⟨rfl,ho⟩:=hv;have ho: -9223372036854775808<=n/\n<=9223372036854775807:=AA ho;obtain rfl:vals= #[.int .i64 n]:=by
   obtain ⟨vl⟩:=vals;cases cD with
   | cons h1 h2=>cases h2;cases h1;rfl
  refine (Any.strconv_Itoa Tryz.laysM171 n ho.1 ho.2 w (WX hH hG)).mono fun e w' ⟨he,k,os,hw⟩=>⟨_,he,.str _,?_⟩
  subst hw;exact Ss w k os
 .cases hv
def B7 (s sep:List UInt8):List (List UInt8):=split s sep
def Qb (s sep:List UInt8):Bool:=Nat.beq sep.length 1&&decide (s.length<4294967281)
def HF :List BA->Option (BA×Bool)
 | [.str s,.str sep]=>some (.dat (B7 s sep).length (Zz (B7 s sep)),Qb s sep)
 | _=>none
theorem G6 :IF prog JA HF:=by
 intro args v hv H vals w cD hH hG;unfold HF at hv;split at hv
 .rename_i s sep;simp only [Ab,Aa] at hv;obtain ⟨rfl,ho⟩:=hv;unfold Qb at ho;rw [Ad] at ho;have h1:=Ae ho.1;have h2:s.length<4294967281:=AA ho.2;obtain ⟨b,rfl⟩: ∃b,sep=[b]:=by
   match sep,h1 with
   | [b],_=>exact ⟨b,rfl⟩
  obtain rfl:vals= #[.string ⟨s.toArray⟩,.string ⟨#[b]⟩]:=by
   obtain ⟨vl⟩:=vals;cases cD with
   | cons h1 h2=>cases h2 with
    | cons h2 h3=>cases h3;cases h1;cases h2;rfl
  refine (VU Tryz.lays146 (by kernel_rfl) ⟨s.toArray⟩ b w (by simpa [ByteArray.size] using h2)).mono fun e w' ⟨he,hw⟩=> ?_;subst hw;have hd:=Lib.splitB_data ⟨#[b]⟩ 0 (Lib.countB ⟨s.toArray⟩ ⟨#[b]⟩) ⟨s.toArray⟩;have hs:(Lib.splitB ⟨#[b]⟩ 0 (Lib.countB ⟨s.toArray⟩ ⟨#[b]⟩) ⟨s.toArray⟩).map (·.data.toList)=B7 s [b]:=hd;generalize hB:Lib.splitB ⟨#[b]⟩ 0 (Lib.countB ⟨s.toArray⟩ ⟨#[b]⟩) ⟨s.toArray⟩=B at he hs;have cC:B.length=Lib.countB ⟨s.toArray⟩ ⟨#[b]⟩+1:=by rw [<-hB];exact Lib.splitB_all ⟨#[b]⟩ (Ak 1) 0 _ _ rfl
  have hlenV:(B7 s [b]).length =B.length:=by rw [<-hs,List.length_map]
  have hnone:H w.heap.size=none:=by
   cases hh:H w.heap.size with
   | none=>rfl
   | some o=>exact absurd (As.1 (hH _ _ hh)).1 (Nat.lt_irrefl _)
  refine ⟨fun k=>if k=w.heap.size then some (.cells (B.map Value.string).toArray (Tryz.lays146_ren.t 9) (0,0)) else H k,_,fun k o hk=> ?_,fun k o hk=> ?_,fun k hk=>At (AU hk),he,?_,?_⟩
  .exact (At (by intro e;rw [e,hnone] at hk;cases hk)).trans hk
  .dsimp only at hk;split at hk
   .rename_i e;subst e;rw [<-hk];exact World.alloc_heap_new _ _
   .rename_i e;rw [RowKit.Below.heap_alloc _ _ _ (As.1 (hH _ _ hk)).1];exact hH _ _ hk
  .rw [<-cC,hlenV];have eD: ∀i,(hi:i<B.length)->Zz (B7 s [b]) i=[.str B[i].data.toList]:=fun i hi=>by
    show Yc.cells (rd (B7 s [b]) i)=_;have:rd (B7 s [b]) i=B[i].data.toList :=by rw [Vm (by rw [hlenV];exact hi)];simp only [<-hs,List.getElem_map]
    rw [this];rfl
   refine .dat B.length _ w.heap.size 0 1 B.length (fun i _=>.string (B.getD i ByteArray.empty)) (Ak _) (fun i hi=>by rw [eD i hi];rfl) (fun i j hi hj=> ?_) fun i j hi hj=> ?_
   .have e:=eD i hi;have hj0:j=0:=by rw [e] at hj;exact Nat.lt_one_iff.1 hj
    subst hj0;simp only [e,List.getElem_cons_zero];rw [Bh,Ao hi];exact .str _
   .have hj0:j=0:=Nat.lt_one_iff.1 hj;subst hj0;refine ⟨_,_,_,AB rfl,?_⟩;simp [Ao hi]
  .exact (RowKit.Below.refl _ w).alloc (Ak _) _
 .cases hv
def LY (s:List UInt8):Int:=match atoiAll s with
 | .ok v=>v
 | .range =>atoiSat s
 | _=>0
def LZ (s:List UInt8):Bool:=match atoiAll s with
 | .ok _=>true
 | _=>false
def V4 (s:List UInt8):Bool:=decide (s.length<=281474976710656)
def HT :List BA->Option (BA×Bool)
 | [.str s]=>some (.tup [.int .i64 (LY s),.ifb (LZ s)],V4 s)
 | _=>none
theorem G4 {ρ:BD} {a b:BA} {u v:Value} (h1:Zb ρ a u) (h2:Zb ρ b v):Zb ρ (.tup [a,b]) (.tuple #[u,v]):=.tup _ _ rfl fun i h h'=>by
 match i,h with
 | 0,_=>exact h1
 | 1,_=>exact h2
theorem RO {H:CX} {w:World} (hH: ∀k o,H k=some o->w.heap[k]? =some o) (hG:Glob H) {g:Nat} (hg:g∈globs): ∃ev,w.cell? ⟨g,0,none⟩=some ev/\(ev=.nilIface \/ ∃te pe,ev=.iface te pe):=by obtain ⟨v,⟨cs,el,fz,e1,e2⟩,h⟩:=hG.err g hg;exact ⟨v,by simp [World.cell?,hH _ _ e1,e2],h⟩
theorem Sr (w:World) (t:TypeId) (s:ByteArray):RowKit.Below w.heap.size w (bytesWorld w t s):=by
 refine ⟨?_,?_,?_,?_,fun k hk=> ?_⟩ <;> (unfold bytesWorld World.freeze;split)
 .rfl
 .rfl
 .rfl
 .rfl
 .rfl
 .rfl
 .simp [World.alloc]
 .simp [World.alloc]
 .simp [World.alloc,Bo,AU hk];rfl
 .simp [World.alloc,A5,Bo,AU hk,Ne.symm (AU hk)];rfl
theorem H5 :IF prog JV HT:=Qg fun args v hv H vals w cD hH hG=>by
 unfold HT at hv;split at hv
 .rename_i s;simp only [Ab,Aa] at hv;obtain ⟨rfl,ho⟩:=hv;have ho:s.length<=281474976710656:=AA ho;have hsz:(⟨s.toArray⟩:ByteArray).size =s.length:=by simp [ByteArray.size]
  obtain rfl:vals= #[.string ⟨s.toArray⟩]:=by
   obtain ⟨vl⟩:=vals;cases cD with
   | cons h1 h2=>cases h2;cases h1;rfl
  cases hA:atoiAll s
  .rename_i v;refine (Any.strconv_Atoi_ok Tryz.laysC172 ⟨s.toArray⟩ (by omega) v hA w).mono fun e w' ⟨he,hw⟩=>⟨_,he,?_,?_⟩
   .unfold LY LZ;rw [hA];exact G4 (.int _ _) .ifbt
   .rcases hw with rfl | ⟨t,rfl⟩
    .exact RowKit.Below.refl _ _
    .exact Sr _ _ _
  .obtain ⟨ev,h1,h2⟩:=RO hH hG (show Tryz.laysC172_ren.g 15∈globs by decide);refine (Any.strconv_Atoi_syntax Tryz.laysC172 ⟨s.toArray⟩ (by omega) hA ev w h1 h2).mono fun e w' ⟨N,he,_,_,hw⟩=>⟨_,he,?_,hw⟩
   unfold LY LZ;rw [hA];exact G4 (.int _ _) (.ifbf _ _)
  .obtain ⟨ev,h1,h2⟩:=RO hH hG (show Tryz.laysC172_ren.g 16∈globs by decide);refine (Any.strconv_Atoi_range Tryz.laysC172 ⟨s.toArray⟩ (by omega) hA ev w h1 h2).mono fun e w' ⟨N,he,_,_,hw⟩=>⟨_,he,?_,hw⟩
   unfold LY LZ;rw [hA];exact G4 (.int _ _) (.ifbf _ _)
 .cases hv
def SC0 :BC:=((CU.with JO HO).with JA HF).with JV HT
def SC :BC:=fun g=>bif Nat.beq g JS then some (.eff HR) else SC0 g
theorem Yw {a b:Int} (h:a<b):decide (a<b)=true:=Aq h
theorem Xy {a b:Int} (h: ¬a<b):decide (a<b)=false:=AN h
theorem Xf {a b:Int} (h:a<=b):decide (a<=b)=true:=Aq h
theorem Fb {a b:Int} (h: ¬a<=b):decide (a<=b)=false:=AN h
theorem Yt {a b:Int} (h:a>b):decide (a>b)=true:=Aq h
theorem Xq {a b:Int} (h: ¬a>b):decide (a>b)=false:=AN h
theorem JQ {a b:Int} (h:a>=b):decide (a>=b)=true:=Aq h
theorem Yd {a b:Nat} (h:a<b):decide (a<b)=true:=Aq h
theorem Yh {a b:Nat} (h:a<=b):decide (a<=b)=true:=Aq h
theorem Yb {a b:Nat} (h:a=b):decide (a=b)=true:=Aq h
theorem Yv {a b:Int} (h:0<=a/\a<b):decide (0<=a/\a<b)=true:=Aq h
theorem Zr {a:Nat} (h:a<=1099511627776):decide (a<=Kx)=true:=Aq h
theorem Za {n:Int} (h: -9223372036854775808<=n/\n<=9223372036854775807):wrap .i64 n=n:=NF h.1 h.2
theorem Dq :((0:Nat):Int)=0:=rfl
theorem Zw (i:Nat):(i:Int)+1=((i+1:Nat):Int):=rfl
theorem Zf (i:Nat):((i+1:Nat):Int) - 1=(i:Int):=by omega
theorem Un {a b:Int} (h:a≠b):(a != b)=true:=by simp [h]
theorem Uo {a b:Int} (h:a=b):(a != b)=false:=by simp [h]
theorem Ye (n:Nat):Nat.beq n n=true:=Nat.beq_refl n
theorem Zp (n:Nat):Int.toNat (n:Int)=n:=Int.toNat_natCast n
theorem Wc (b:Bool):b=true\/b=false:=by cases b <;> simp
theorem Ys {α:Type} [Yc α] {L:List α} {i:Nat} (h:i<L.length):L.drop i=rd L i::L.drop (i+1):=by rw [Vm h];exact Bk h
theorem CD {P:Program} {S:BC} (hS:Zu P S) {f:FuncId} {F:List BA->Option (BA×Bool)} (hf:(P.funcs[f]?).any (fun fn=>fn.body.isSome)=true)
  (hF: ∀args v,F args=some (v,true)-> ∃bs vs,Xo CI args bs/\Ud vs=v/\BV P (Zy P f) (startC P f bs true []) vs/\ ∃d,pf d v=true):Zu P (S.with f F):=ZB hS hf hF
inductive CT where
 | h0 (v3:List Int) (v4:Int)
 | h1 (v3:List Int) (v4:Int) (v5:Int)
def NB (l0:List Int):CT->BJ
 | .h0 v3 v4=>⟨⟨63,0,true⟩,none,(Zk prog 180 [1,1,0,1,0,0] 0),none,(Zy prog 9),⟨Xd [(0,(.dat l0.length (Zz l0))),(3,(.sla 0 1 0 v3.length (.un 1))),(4,(ii v4))],Kf [⟨rows v3.length (Zz v3),3,some ⟨1,v3.length,(Zz v3)⟩⟩] 0,1,[],true⟩,[],.leaf⟩
 | .h1 v3 v4 v5=>⟨⟨63,0,true⟩,none,(Zk prog 180 [1,1,0,1,0,0,1,0,0,1,0,0,0] 0),none,(Zy prog 9),⟨Xd [(0,(.dat l0.length (Zz l0))),(3,(.sla 0 1 0 v3.length (.un 1))),(4,(ii v4)),(5,(ii v5))],Kf [⟨rows v3.length (Zz v3),3,some ⟨1,v3.length,(Zz v3)⟩⟩] 0,1,[],true⟩,[],.leaf⟩
def LF :List (Option (List Nat)):=[some [0,3,4]]
def LE :List (Option (List Nat)):=[]
def RL :List (Option (List Nat)):=[some [0,3,4,5]]
def RK :List (Option (List Nat)):=[]
def Wq (l0:List Int):CT->Wn CT
 | .h0 v3 v4=>(bif (decide (v4<(l0.length:Int))) then (.to (.h1 v3 v4 (v3.length:Int))) else (.ret [(.dat v3.length (Zz v3))]))
 | .h1 v3 v4 v5=>(bif (decide (v5>0)) then (bif ((decide (0<=(wrap .i64 (v5 - 1))/\(wrap .i64 (v5 - 1))<(v3.length:Int)))&&true) then (bif (decide ((0+(Int.toNat (wrap .i64 (v5 - 1))))<v3.length)) then (bif ((decide (0<=v4/\v4<(l0.length:Int)))&&true) then (bif (decide ((rd v3 (0+(Int.toNat (wrap .i64 (v5 - 1)))))>(rd l0 v4.toNat))) then (.to (.h1 v3 v4 (wrap .i64 (v5 - 1)))) else (bif ((rd v3 (0+(Int.toNat (wrap .i64 (v5 - 1))))) == (rd l0 v4.toNat)) then (.to (.h0 v3 (wrap .i64 (v4+1)))) else (bif (Nat.beq 1 1&&((decide (0+v3.length=v3.length))&&decide ((v3.length+1+1)*(8+1)<=Kx))) then (bif (true&&((decide (0<=(wrap .i64 (v5+1))))&&(decide ((v3.length+1)<=(v3.length+1))&&decide ((Int.toNat (wrap .i64 (v5+1)))<=(v3.length+1))))) then (bif (true&&((decide (0<=v5))&&(decide ((v3.length+1)<=(v3.length+1))&&decide (v5.toNat<=(v3.length+1))))) then (bif (decide ((0+v5.toNat)+((v3.length+1) - v5.toNat)<=(v3.length+1))) then (bif (decide ((0+(Int.toNat (wrap .i64 (v5+1))))+((v3.length+1) - (Int.toNat (wrap .i64 (v5+1))))<=(v3.length+1))) then (bif ((decide (0<=v5/\v5<(((v3.length+1):Nat):Int)))&&true) then (bif (decide ((0+v5.toNat)<(v3.length+1))) then (.to (.h0 ((C8 (v3++[0]) (0+(Int.toNat (wrap .i64 (v5+1)))) (Nat.min ((v3.length+1) - v5.toNat) ((v3.length+1) - (Int.toNat (wrap .i64 (v5+1))))) (Uc (v3++[0]) (0+v5.toNat) ((v3.length+1) - v5.toNat))).set (0+v5.toNat) (rd l0 v4.toNat)) (wrap .i64 (v4+1)))) else .stuck) else .stuck) else .stuck) else .stuck) else .stuck) else .stuck) else .stuck))) else .stuck) else .stuck) else .stuck) else (bif (Nat.beq 1 1&&((decide (0+v3.length=v3.length))&&decide ((v3.length+1+1)*(8+1)<=Kx))) then (bif (true&&((decide (0<=(wrap .i64 (v5+1))))&&(decide ((v3.length+1)<=(v3.length+1))&&decide ((Int.toNat (wrap .i64 (v5+1)))<=(v3.length+1))))) then (bif (true&&((decide (0<=v5))&&(decide ((v3.length+1)<=(v3.length+1))&&decide (v5.toNat<=(v3.length+1))))) then (bif (decide ((0+v5.toNat)+((v3.length+1) - v5.toNat)<=(v3.length+1))) then (bif (decide ((0+(Int.toNat (wrap .i64 (v5+1))))+((v3.length+1) - (Int.toNat (wrap .i64 (v5+1))))<=(v3.length+1))) then (bif ((decide (0<=v4/\v4<(l0.length:Int)))&&true) then (bif ((decide (0<=v5/\v5<(((v3.length+1):Nat):Int)))&&true) then (bif (decide ((0+v5.toNat)<(v3.length+1))) then (.to (.h0 ((C8 (v3++[0]) (0+(Int.toNat (wrap .i64 (v5+1)))) (Nat.min ((v3.length+1) - v5.toNat) ((v3.length+1) - (Int.toNat (wrap .i64 (v5+1))))) (Uc (v3++[0]) (0+v5.toNat) ((v3.length+1) - v5.toNat))).set (0+v5.toNat) (rd l0 v4.toNat)) (wrap .i64 (v4+1)))) else .stuck) else .stuck) else .stuck) else .stuck) else .stuck) else .stuck) else .stuck) else .stuck))
def K3 (l0:List Int):Wn CT:=(.to (.h0 ([]:List Int) 0))
theorem UM (l0:List Int): ∀s,Wi prog (Zy prog 180) (NB l0) (NB l0 s) (Wq l0 s)
 | .h0 v3 v4=>(lb (fun k0=>(sl Zv 21 [] ⟨[0],[],RL,RK⟩ a6 [true] (pp (fl v3 nn) (tt k0 nn)))) (fun k0=>(lr 63 3 [1,1,1,1,1,1,0] 1 9 [(2,(.dat v3.length (Zz v3)))] (sl Zv 15 [] ⟨[],[0],[some [2]],[]⟩ ⟨[(2,.frz v3.length v3.length (Zz v3) (Zz v3))],[],[]⟩ [false] (pp (xZ (C7 1 1 0 v3.length v3.length (Zz v3)) v3.length (Zz v3)) (pp (xL v3.length v3.length) (pp (xS v3.length (Zz v3) (Zz v3)) (pp (fl v3 nn) (tt k0 nn)))))))))
 | .h1 v3 v4 v5=>let i:=v3.length+1;let j:=tn (wr (v5+1));let l:=i - (tn v5);let a:=C8 (v3++[0]) (0+j) (Nat.min l (i - j)) (Uc (v3++[0]) (0+(tn v5)) l);let d:=a.set (0+(tn v5)) (rd l0 (tn v4));(lb (fun k0=>(lo fun aF=>(lo fun aN=>(lo fun bM=>let h:=ww bM (ww aN (ww aF (tt k0 nn)));(lb (fun k1=>(sl Zv 13 [] ⟨[0],[],RL,RK⟩ a6 (BQ 11 []) (pp (fl v3 nn) (tt k1 h)))) (fun k1=>let e:=ww bM (ww aN (ww aF (tt k0 (tt k1 h))));(lb (fun k2=>(sl Zv 16 [] ⟨[0],[],LF,LE⟩ a6 (BQ 10 (bl 12 4094)) (pp (fl v3 nn) (tt k2 e)))) (fun k2=>(lo fun o0=>(lo fun o1=>(lo fun o2=>(lo fun o3=>(lo fun o4=>(lo fun o5=>(lo fun o6=>let b:=xL (v3.length+1) ((C8 (v3++[0]) (0+(tn (wr (v5+1)))) (Nat.min ((v3.length+1) - (tn v5)) ((v3.length+1) - (tn (wr (v5+1))))) (Uc (v3++[0]) (0+(tn v5)) ((v3.length+1) - (tn v5)))).set (0+(tn v5)) (rd l0 (tn v4))).length;let f:=xG (Nat.beq 1 1);(sl Zv 36 [] ⟨[2],[],LF,LE⟩ ⟨[(3,.len d.length)],[.rowed 1 d.length (Zz d)],[]⟩ (BQ 10 (bl 12 2046)) (pp b (pp b (pp (xS (v3.length+1) (Xa (Wg (Zn (Zz v3) 0 v3.length 1 [(ii 0)]) (0+(tn (wr (v5+1)))) (Nat.min ((v3.length+1) - (tn v5)) ((v3.length+1) - (tn (wr (v5+1))))) (fun k=>(Zn (Zz v3) 0 v3.length 1 [(ii 0)]) ((0+(tn v5))+k))) (0+(tn v5)) 0 [(ii (rd l0 (tn v4)))]) (Zz ((C8 (v3++[0]) (0+(tn (wr (v5+1)))) (Nat.min ((v3.length+1) - (tn v5)) ((v3.length+1) - (tn (wr (v5+1))))) (Uc (v3++[0]) (0+(tn v5)) ((v3.length+1) - (tn v5)))).set (0+(tn v5)) (rd l0 (tn v4))))) (pp (pp (xF (Xa (Wg (Zn (Zz v3) 0 v3.length 1 [(ii 0)]) (0+(tn (wr (v5+1)))) (Nat.min ((v3.length+1) - (tn v5)) ((v3.length+1) - (tn (wr (v5+1))))) (fun k=>(Zn (Zz v3) 0 v3.length 1 [(ii 0)]) ((0+(tn v5))+k))) (0+(tn v5)) 0 [(ii (rd l0 (tn v4)))])) nn) (ww o6 (ww o5 (ww bM (pp (pp f (pp f (pp (xw o4) (pp f (pp f (pp (xG (decide ((0+(tn v5))+((v3.length+1) - (tn v5))<=(v3.length+1)))) (xG (C9 1 ((v3.length+1) - (tn v5)) (fun k=>(Zn (Zz v3) 0 v3.length 1 [(ii 0)]) ((0+(tn v5))+k)))))))))) (ww o2 (ww o1 (ww o0 (tt k2 e)))))))))))))))))))))))))))) (fun k0=>(lo fun o0=>(lo fun o1=>(lo fun o2=>(lo fun o3=>(lo fun o4=>(lo fun o5=>(lo fun o6=>(lo fun o7=>let c:=xL (v3.length+1) ((C8 (v3++[0]) (0+(tn (wr (v5+1)))) (Nat.min ((v3.length+1) - (tn v5)) ((v3.length+1) - (tn (wr (v5+1))))) (Uc (v3++[0]) (0+(tn v5)) ((v3.length+1) - (tn v5)))).set (0+(tn v5)) (rd l0 (tn v4))).length;let g:=xG (Nat.beq 1 1);(sl Zv 36 [] ⟨[2],[],LF,LE⟩ ⟨[(3,.len d.length)],[.rowed 1 d.length (Zz d)],[]⟩ (bl 22 0) (pp c (pp c (pp (xS (v3.length+1) (Xa (Wg (Zn (Zz v3) 0 v3.length 1 [(ii 0)]) (0+(tn (wr (v5+1)))) (Nat.min ((v3.length+1) - (tn v5)) ((v3.length+1) - (tn (wr (v5+1))))) (fun k=>(Zn (Zz v3) 0 v3.length 1 [(ii 0)]) ((0+(tn v5))+k))) (0+(tn v5)) 0 [(ii (rd l0 (tn v4)))]) (Zz ((C8 (v3++[0]) (0+(tn (wr (v5+1)))) (Nat.min ((v3.length+1) - (tn v5)) ((v3.length+1) - (tn (wr (v5+1))))) (Uc (v3++[0]) (0+(tn v5)) ((v3.length+1) - (tn v5)))).set (0+(tn v5)) (rd l0 (tn v4))))) (pp (pp (xF (Xa (Wg (Zn (Zz v3) 0 v3.length 1 [(ii 0)]) (0+(tn (wr (v5+1)))) (Nat.min ((v3.length+1) - (tn v5)) ((v3.length+1) - (tn (wr (v5+1))))) (fun k=>(Zn (Zz v3) 0 v3.length 1 [(ii 0)]) ((0+(tn v5))+k))) (0+(tn v5)) 0 [(ii (rd l0 (tn v4)))])) nn) (ww o7 (ww o6 (ww o5 (pp (pp g (pp g (pp (xw o4) (pp g (pp g (pp (xG (decide ((0+(tn v5))+((v3.length+1) - (tn v5))<=(v3.length+1)))) (xG (C9 1 ((v3.length+1) - (tn v5)) (fun k=>(Zn (Zz v3) 0 v3.length 1 [(ii 0)]) ((0+(tn v5))+k)))))))))) (ww o2 (ww o1 (ww o0 (tt k0 (tt k0 nn))))))))))))))))))))))))
theorem UZ (l0:List Int):Wi prog (Zy prog 180) (NB l0) (startC prog 180 [(.dat l0.length (Zz l0))] true []) (K3 l0):=(sl Zv 15 [(3,1,Zz ([]:List Int))] ⟨[0],[],LF,LE⟩ ⟨[(3,.grow 0 1)],[],[]⟩ [] (pp (fl ([]:List Int) nn) nn))
theorem YR (l0:List Int) (n:Nat) (vs:List BA) (h:Yr (Wq l0) n (K3 l0)=.ret vs):BV prog (Zy prog 180) (startC prog 180 [(.dat l0.length (Zz l0))] true []) vs:=by have:=Yy (UM l0) n _ (UZ l0);rwa [h] at this
inductive Cx where
 | h0 (v5:List R2) (v6:Int)
def NV (l0:List Int) (l1:List Bool):Cx->BJ
 | .h0 v5 v6=>⟨⟨61,0,true⟩,none,(Zk prog 185 [1,1,0,1,0,0] 0),none,(Zy prog 3),⟨Xd [(0,(.dat l0.length (Zz l0))),(1,(.dat l1.length (Zz l1))),(5,(.sla 0 2 0 v5.length (.un 2))),(6,(ii v6))],Kf [⟨rows v5.length (Zz v5),260,some ⟨2,v5.length,(Zz v5)⟩⟩] 0,1,[],true⟩,[],.leaf⟩
def Ii :List (Option (List Nat)):=[some [0,1,5,6]]
def Ih :List (Option (List Nat)):=[]
def Uu (l0:List Int) (l1:List Bool):Cx->Wn Cx
 | .h0 v5 v6=>(bif (decide ((wrap .i64 (v6+1))<(l0.length:Int))) then (bif ((decide (0<=v6/\v6<(l1.length:Int)))&&true) then (bif (!(rd l1 v6.toNat)) then (.to (.h0 v5 (wrap .i64 (v6+1)))) else (bif (decide ((v5.length:Int)>0)) then (bif ((decide (0<=(wrap .i64 ((v5.length:Int) - 1))/\(wrap .i64 ((v5.length:Int) - 1))<(v5.length:Int)))&&true) then (bif (decide ((0+(Int.toNat (wrap .i64 ((v5.length:Int) - 1))))<v5.length)) then (bif ((decide (0<=v6/\v6<(l0.length:Int)))&&true) then (bif ((rd v5 (0+(Int.toNat (wrap .i64 ((v5.length:Int) - 1))))).b == (rd l0 v6.toNat)) then (bif ((decide (0<=(wrap .i64 (v6+1))/\(wrap .i64 (v6+1))<(l0.length:Int)))&&true) then (.to (.h0 (v5.set (0+(Int.toNat (wrap .i64 ((v5.length:Int) - 1)))) (R2.mk (rd v5 (0+(Int.toNat (wrap .i64 ((v5.length:Int) - 1))))).a (rd l0 (Int.toNat (wrap .i64 (v6+1)))))) (wrap .i64 (v6+1)))) else .stuck) else (bif ((decide (0<=(wrap .i64 (v6+1))/\(wrap .i64 (v6+1))<(l0.length:Int)))&&true) then (bif (Nat.beq 2 2&&((decide (0+v5.length=v5.length))&&decide ((v5.length+1+1)*(16+1)<=Kx))) then (.to (.h0 (v5++[(R2.mk (rd l0 v6.toNat) (rd l0 (Int.toNat (wrap .i64 (v6+1)))))]) (wrap .i64 (v6+1)))) else .stuck) else .stuck)) else .stuck) else .stuck) else .stuck) else (bif ((decide (0<=v6/\v6<(l0.length:Int)))&&true) then (bif ((decide (0<=(wrap .i64 (v6+1))/\(wrap .i64 (v6+1))<(l0.length:Int)))&&true) then (bif (Nat.beq 2 2&&((decide (0+v5.length=v5.length))&&decide ((v5.length+1+1)*(16+1)<=Kx))) then (.to (.h0 (v5++[(R2.mk (rd l0 v6.toNat) (rd l0 (Int.toNat (wrap .i64 (v6+1)))))]) (wrap .i64 (v6+1)))) else .stuck) else .stuck) else .stuck))) else .stuck) else (.ret [(.dat v5.length (Zz v5))]))
def KQ (l0:List Int) (l1:List Bool):Wn Cx:=(.to (.h0 ([]:List R2) 0))
theorem TT (l0:List Int) (l1:List Bool): ∀s,Wi prog (Zy prog 185) (NV l0 l1) (NV l0 l1 s) (Uu l0 l1 s)
 | .h0 v5 v6=>(lb (fun k0=>(lo fun aF=>let h:=ww aF (tt k0 nn);(lb (fun k1=>(sl Zv 30 [] ⟨[0],[],Ii,Ih⟩ a6 (bl 2 3) (pp (fl v5 nn) (tt k1 h)))) (fun k1=>let j:=rd l0 (tn (wr (v6+1)));let b:=v5++[(R2.mk (rd l0 (tn v6)) j)];(lb (fun k2=>(lo fun bU=>(lo fun bY=>(lo fun bZ=>let g:=ww bZ (ww bY (ww bU (tt k2 (tt k1 h))));(lb (fun k3=>(lo fun o0=>let i:=tn (wr ((v5.length:Int) - 1));let c:=v5.set (0+i) (R2.mk (rd v5 (0+i)).a j);let d:=xL v5.length (v5.set (0+(tn (wr ((v5.length:Int) - 1)))) (R2.mk (rd v5 (0+(tn (wr ((v5.length:Int) - 1))))).a (rd l0 (tn (wr (v6+1)))))).length;(sl Zv 53 [] ⟨[0],[],Ii,Ih⟩ ⟨[(5,.len c.length)],[.rowed 2 c.length (Zz c)],[]⟩ (bl 14 16381) (pp d (pp d (pp (xS v5.length (Xa (Zz v5) (0+(tn (wr ((v5.length:Int) - 1)))) 1 [(ii (rd l0 (tn (wr (v6+1)))))]) (Zz (v5.set (0+(tn (wr ((v5.length:Int) - 1)))) (R2.mk (rd v5 (0+(tn (wr ((v5.length:Int) - 1))))).a (rd l0 (tn (wr (v6+1)))))))) (pp (pp (xF (Xa (Zz v5) (0+(tn (wr ((v5.length:Int) - 1)))) 1 [(ii (rd l0 (tn (wr (v6+1)))))])) nn) (ww bY (ww bU (ww o0 (tt k3 g))))))))))) (fun k3=>(lo fun o0=>(lo fun o1=>let e:=xL (v5.length+1) (v5++[(R2.mk (rd l0 (tn v6)) (rd l0 (tn (wr (v6+1)))))]).length;(sl Zv 41 [] ⟨[2],[],Ii,Ih⟩ ⟨[(5,.len b.length)],[.rowed 2 b.length (Zz b)],[]⟩ (bl 14 8189) (pp e (pp e (pp (xS (v5.length+1) (Zn (Zz v5) 0 v5.length 2 [(ii (rd l0 (tn v6))),(ii (rd l0 (tn (wr (v6+1)))))]) (Zz (v5++[(R2.mk (rd l0 (tn v6)) (rd l0 (tn (wr (v6+1)))))]))) (pp (pp (xF (Zn (Zz v5) 0 v5.length 2 [(ii (rd l0 (tn v6))),(ii (rd l0 (tn (wr (v6+1)))))])) nn) (ww o1 (ww o0 (ww bZ (tt k3 g))))))))))))))))) (fun k2=>(lo fun o0=>(lo fun o1=>(lo fun o2=>let f:=xL (v5.length+1) (v5++[(R2.mk (rd l0 (tn v6)) (rd l0 (tn (wr (v6+1)))))]).length;(sl Zv 41 [] ⟨[2],[],Ii,Ih⟩ ⟨[(5,.len b.length)],[.rowed 2 b.length (Zz b)],[]⟩ (bl 14 1) (pp f (pp f (pp (xS (v5.length+1) (Zn (Zz v5) 0 v5.length 2 [(ii (rd l0 (tn v6))),(ii (rd l0 (tn (wr (v6+1)))))]) (Zz (v5++[(R2.mk (rd l0 (tn v6)) (rd l0 (tn (wr (v6+1)))))]))) (pp (pp (xF (Zn (Zz v5) 0 v5.length 2 [(ii (rd l0 (tn v6))),(ii (rd l0 (tn (wr (v6+1)))))])) nn) (ww o2 (ww o1 (ww o0 (tt k2 (tt k1 h))))))))))))))))))) (fun k0=>(lr 61 3 [1,1,1,1,1,1,0] 1 3 [(4,(.dat v5.length (Zz v5)))] (sl Zv 16 [] ⟨[],[0],[some [4]],[]⟩ ⟨[(4,.frz v5.length v5.length (Zz v5) (Zz v5))],[],[]⟩ [false] (pp (xZ (C7 2 2 0 v5.length v5.length (Zz v5)) v5.length (Zz v5)) (pp (xL v5.length v5.length) (pp (xS v5.length (Zz v5) (Zz v5)) (pp (fl v5 nn) (tt k0 nn)))))))))
theorem UI (l0:List Int) (l1:List Bool):Wi prog (Zy prog 185) (NV l0 l1) (startC prog 185 [(.dat l0.length (Zz l0)),(.dat l1.length (Zz l1))] true []) (KQ l0 l1):=(sl Zv 15 [(260,2,Zz ([]:List R2))] ⟨[0],[],Ii,Ih⟩ ⟨[(5,.grow 0 2)],[],[]⟩ [] (pp (fl ([]:List R2) nn) nn))
theorem WY (l0:List Int) (l1:List Bool) (n:Nat) (vs:List BA) (h:Yr (Uu l0 l1) n (KQ l0 l1)=.ret vs):BV prog (Zy prog 185) (startC prog 185 [(.dat l0.length (Zz l0)),(.dat l1.length (Zz l1))] true []) vs:=by have:=Yy (TT l0 l1) n _ (UI l0 l1);rwa [h] at this
inductive EE where
 | h0 (v5:Int)
def Gb (l0:List R2) (l1:List R2):EE->BJ
 | .h0 v5=>⟨⟨26,0,true⟩,none,(Zk prog 186 [1,1,0,1,0,0] 0),none,(Zy prog 3),⟨Xd [(0,(.dat l0.length (Zz l0))),(1,(.dat l1.length (Zz l1))),(5,(ii v5))],Kf [] 0,0,[],true⟩,[],.leaf⟩
def FH :List (Option (List Nat)):=[some [0,1,5]]
def FI :List (Option (List Nat)):=[]
def GB (l0:List R2) (l1:List R2):EE->Wn EE
 | .h0 v5=>(bif (decide (v5<(l0.length:Int))) then (bif ((decide (0<=v5/\v5<(l0.length:Int)))&&true) then (bif ((decide (0<=v5/\v5<(l1.length:Int)))&&true) then (bif (!(((rd l0 v5.toNat).a == (rd l1 v5.toNat).a)&&(((rd l0 v5.toNat).b == (rd l1 v5.toNat).b)&&true))) then (.ret [(.bool false)]) else (.to (.h0 (wrap .i64 (v5+1))))) else .stuck) else .stuck) else (.ret [(.bool true)]))
def I7 (l0:List R2) (l1:List R2):Wn EE:=(bif ((l0.length:Int) != (l1.length:Int)) then (.ret [(.bool false)]) else (.to (.h0 0)))
theorem YQ (l0:List R2) (l1:List R2): ∀s,Wi prog (Zy prog 186) (Gb l0 l1) (Gb l0 l1 s) (GB l0 l1 s)
 | .h0 v5=>(lb (fun k0=>(lo fun aF=>(lo fun aN=>let a:=ww aN (ww aF (tt k0 nn));(lb (fun k1=>(lr 26 186 [1,1,0,1,0,0,1,0,0,1,0,0] 1 3 [(4,(.bool false))] (sl Zv 19 [] (a7 [4]) a6 (bl 2 3) (tt k1 a)))) (fun k1=>(sl Zv 23 [] ⟨[],[],FH,FI⟩ a6 (bl 2 1) (tt k1 a))))))) (fun k0=>(lr 26 3 [1,1,1,1,1,1,0] 1 3 [(4,(.bool true))] (sl Zv 14 [] (a7 [4]) a6 [false] (tt k0 nn)))))
theorem Te (l0:List R2) (l1:List R2):Wi prog (Zy prog 186) (Gb l0 l1) (startC prog 186 [(.dat l0.length (Zz l0)),(.dat l1.length (Zz l1))] true []) (I7 l0 l1):=(lb (fun k0=>(lr 26 186 [1,0,1,0,0] 1 3 [(4,(.bool false))] (sl Zv 18 [] (a7 [4]) a6 [true] (tt k0 nn)))) (fun k0=>(sl Zv 22 [] ⟨[],[],FH,FI⟩ a6 [false] (tt k0 nn))))
theorem VM (l0:List R2) (l1:List R2) (n:Nat) (vs:List BA) (h:Yr (GB l0 l1) n (I7 l0 l1)=.ret vs):BV prog (Zy prog 186) (startC prog 186 [(.dat l0.length (Zz l0)),(.dat l1.length (Zz l1))] true []) vs:=by have:=Yy (YQ l0 l1) n _ (Te l0 l1);rwa [h] at this
inductive Cu where
 | h0 (v7:Int)
def NY (l0:List R4) (x1:Int) (x2:Int):Cu->BJ
 | .h0 v7=>⟨⟨48,0,true⟩,none,(Zk prog 184 [1,0,1,0,0] 0),none,(Zy prog 7),⟨Xd [(0,(.dat l0.length (Zz l0))),(1,(ii x1)),(2,(ii x2)),(7,(ii v7))],Kf [] 0,0,[],true⟩,[],.leaf⟩
def Im :List (Option (List Nat)):=[some [0,1,2,7]]
def Il :List (Option (List Nat)):=[]
def Hx (l0:List R4) (x1:Int) (x2:Int):Cu->Wn Cu
 | .h0 v7=>(bif (decide (v7<(l0.length:Int))) then (bif ((decide (0<=v7/\v7<(l0.length:Int)))&&true) then (bif (decide ((rd l0 v7.toNat).a <=x1)) then (bif (decide (x1<(rd l0 v7.toNat).c)) then (bif (decide ((rd l0 v7.toNat).b <=x2)) then (bif (decide (x2<(rd l0 v7.toNat).d)) then (.ret [(.bool true)]) else (.to (.h0 (wrap .i64 (v7+1))))) else (.to (.h0 (wrap .i64 (v7+1))))) else (.to (.h0 (wrap .i64 (v7+1))))) else (.to (.h0 (wrap .i64 (v7+1))))) else .stuck) else (.ret [(.bool false)]))
def KV (l0:List R4) (x1:Int) (x2:Int):Wn Cu:=(.to (.h0 0))
theorem TZ (l0:List R4) (x1:Int) (x2:Int): ∀s,Wi prog (Zy prog 184) (NY l0 x1 x2) (NY l0 x1 x2 s) (Hx l0 x1 x2 s)
 | .h0 v7=>(lb (fun k0=>(lo fun aF=>let c:=ww aF (tt k0 nn);(lb (fun k1=>let a:=ww aF (tt k1 c);(lb (fun k2=>let d:=ww aF (tt k2 a);(lb (fun k3=>let b:=ww aF (tt k3 d);(lb (fun k4=>(lr 48 184 [1,0,1,0,0,1,0,0,1,0,0] 1 7 [(6,(.bool true))] (sl Zv 54 [] (a7 [6]) a6 (BQ 23 []) (tt k4 b)))) (fun k4=>(sl Zv 58 [] ⟨[],[],Im,Il⟩ a6 (BQ 22 [false]) (tt k4 b))))) (fun k3=>(sl Zv 58 [] ⟨[],[],Im,Il⟩ a6 (BQ 15 (bl 8 0)) (tt k3 d))))) (fun k2=>(sl Zv 58 [] ⟨[],[],Im,Il⟩ a6 (BQ 8 (bl 15 0)) (tt k2 a))))) (fun k1=>(sl Zv 58 [] ⟨[],[],Im,Il⟩ a6 (bl 23 1) (tt k1 c)))))) (fun k0=>(lr 48 3 [1,1,1,1,1,1,0] 1 7 [(6,(.bool false))] (sl Zv 14 [] (a7 [6]) a6 [false] (tt k0 nn)))))
theorem UL (l0:List R4) (x1:Int) (x2:Int):Wi prog (Zy prog 184) (NY l0 x1 x2) (startC prog 184 [(.dat l0.length (Zz l0)),(.int .i64 x1),(.int .i64 x2)] true []) (KV l0 x1 x2):=(sl Zv 11 [] ⟨[],[],Im,Il⟩ a6 [] nn)
theorem W3 (l0:List R4) (x1:Int) (x2:Int) (n:Nat) (vs:List BA) (h:Yr (Hx l0 x1 x2) n (KV l0 x1 x2)=.ret vs):BV prog (Zy prog 184) (startC prog 184 [(.dat l0.length (Zz l0)),(.int .i64 x1),(.int .i64 x2)] true []) vs:=by have:=Yy (TZ l0 x1 x2) n _ (UL l0 x1 x2);rwa [h] at this
inductive ED where
 | h0 (v5:Int)
def Ga (l0:List R4) (l1:List R4):ED->BJ
 | .h0 v5=>⟨⟨26,0,true⟩,none,(Zk prog 151 [1,1,0,1,0,0] 0),none,(Zy prog 3),⟨Xd [(0,(.dat l0.length (Zz l0))),(1,(.dat l1.length (Zz l1))),(5,(ii v5))],Kf [] 0,0,[],true⟩,[],.leaf⟩
def FF :List (Option (List Nat)):=[some [0,1,5]]
def FG :List (Option (List Nat)):=[]
def GC (l0:List R4) (l1:List R4):ED->Wn ED
 | .h0 v5=>(bif (decide (v5<(l0.length:Int))) then (bif ((decide (0<=v5/\v5<(l0.length:Int)))&&true) then (bif ((decide (0<=v5/\v5<(l1.length:Int)))&&true) then (bif (!(((rd l0 v5.toNat).a == (rd l1 v5.toNat).a)&&(((rd l0 v5.toNat).b == (rd l1 v5.toNat).b)&&(((rd l0 v5.toNat).c == (rd l1 v5.toNat).c)&&(((rd l0 v5.toNat).d == (rd l1 v5.toNat).d)&&true))))) then (.ret [(.bool false)]) else (.to (.h0 (wrap .i64 (v5+1))))) else .stuck) else .stuck) else (.ret [(.bool true)]))
def I8 (l0:List R4) (l1:List R4):Wn ED:=(bif ((l0.length:Int) != (l1.length:Int)) then (.ret [(.bool false)]) else (.to (.h0 0)))
theorem YS (l0:List R4) (l1:List R4): ∀s,Wi prog (Zy prog 151) (Ga l0 l1) (Ga l0 l1 s) (GC l0 l1 s)
 | .h0 v5=>(lb (fun k0=>(lo fun aF=>(lo fun aN=>let a:=ww aN (ww aF (tt k0 nn));(lb (fun k1=>(lr 26 151 [1,1,0,1,0,0,1,0,0,1,0,0] 1 3 [(4,(.bool false))] (sl Zv 19 [] (a7 [4]) a6 (bl 2 3) (tt k1 a)))) (fun k1=>(sl Zv 23 [] ⟨[],[],FF,FG⟩ a6 (bl 2 1) (tt k1 a))))))) (fun k0=>(lr 26 3 [1,1,1,1,1,1,0] 1 3 [(4,(.bool true))] (sl Zv 14 [] (a7 [4]) a6 [false] (tt k0 nn)))))
theorem Tf (l0:List R4) (l1:List R4):Wi prog (Zy prog 151) (Ga l0 l1) (startC prog 151 [(.dat l0.length (Zz l0)),(.dat l1.length (Zz l1))] true []) (I8 l0 l1):=(lb (fun k0=>(lr 26 151 [1,0,1,0,0] 1 3 [(4,(.bool false))] (sl Zv 18 [] (a7 [4]) a6 [true] (tt k0 nn)))) (fun k0=>(sl Zv 22 [] ⟨[],[],FF,FG⟩ a6 [false] (tt k0 nn))))
theorem VN (l0:List R4) (l1:List R4) (n:Nat) (vs:List BA) (h:Yr (GC l0 l1) n (I8 l0 l1)=.ret vs):BV prog (Zy prog 151) (startC prog 151 [(.dat l0.length (Zz l0)),(.dat l1.length (Zz l1))] true []) vs:=by have:=Yy (YS l0 l1) n _ (Tf l0 l1);rwa [h] at this
inductive EF where
 | h0 (v5:Int)
def Gc (l0:List R6) (l1:List R6):EF->BJ
 | .h0 v5=>⟨⟨26,0,true⟩,none,(Zk prog 31 [1,1,0,1,0,0] 0),none,(Zy prog 3),⟨Xd [(0,(.dat l0.length (Zz l0))),(1,(.dat l1.length (Zz l1))),(5,(ii v5))],Kf [] 0,0,[],true⟩,[],.leaf⟩
def FJ :List (Option (List Nat)):=[some [0,1,5]]
def FK :List (Option (List Nat)):=[]
def GA (l0:List R6) (l1:List R6):EF->Wn EF
 | .h0 v5=>(bif (decide (v5<(l0.length:Int))) then (bif ((decide (0<=v5/\v5<(l0.length:Int)))&&true) then (bif ((decide (0<=v5/\v5<(l1.length:Int)))&&true) then (bif (!((((rd l0 v5.toNat).a == (rd l1 v5.toNat).a)&&(((rd l0 v5.toNat).b == (rd l1 v5.toNat).b)&&(((rd l0 v5.toNat).c == (rd l1 v5.toNat).c)&&true)))&&((((rd l0 v5.toNat).d == (rd l1 v5.toNat).d)&&(((rd l0 v5.toNat).e == (rd l1 v5.toNat).e)&&(((rd l0 v5.toNat).f == (rd l1 v5.toNat).f)&&true)))&&true))) then (.ret [(.bool false)]) else (.to (.h0 (wrap .i64 (v5+1))))) else .stuck) else .stuck) else (.ret [(.bool true)]))
def I6 (l0:List R6) (l1:List R6):Wn EF:=(bif ((l0.length:Int) != (l1.length:Int)) then (.ret [(.bool false)]) else (.to (.h0 0)))
theorem YP (l0:List R6) (l1:List R6): ∀s,Wi prog (Zy prog 31) (Gc l0 l1) (Gc l0 l1 s) (GA l0 l1 s)
 | .h0 v5=>(lb (fun k0=>(lo fun aF=>(lo fun aN=>let a:=ww aN (ww aF (tt k0 nn));(lb (fun k1=>(lr 26 31 [1,1,0,1,0,0,1,0,0,1,0,0] 1 3 [(4,(.bool false))] (sl Zv 19 [] (a7 [4]) a6 (bl 2 3) (tt k1 a)))) (fun k1=>(sl Zv 23 [] ⟨[],[],FJ,FK⟩ a6 (bl 2 1) (tt k1 a))))))) (fun k0=>(lr 26 3 [1,1,1,1,1,1,0] 1 3 [(4,(.bool true))] (sl Zv 14 [] (a7 [4]) a6 [false] (tt k0 nn)))))
theorem Td (l0:List R6) (l1:List R6):Wi prog (Zy prog 31) (Gc l0 l1) (startC prog 31 [(.dat l0.length (Zz l0)),(.dat l1.length (Zz l1))] true []) (I6 l0 l1):=(lb (fun k0=>(lr 26 31 [1,0,1,0,0] 1 3 [(4,(.bool false))] (sl Zv 18 [] (a7 [4]) a6 [true] (tt k0 nn)))) (fun k0=>(sl Zv 22 [] ⟨[],[],FJ,FK⟩ a6 [false] (tt k0 nn))))
theorem VL (l0:List R6) (l1:List R6) (n:Nat) (vs:List BA) (h:Yr (GA l0 l1) n (I6 l0 l1)=.ret vs):BV prog (Zy prog 31) (startC prog 31 [(.dat l0.length (Zz l0)),(.dat l1.length (Zz l1))] true []) vs:=by have:=Yy (YP l0 l1) n _ (Td l0 l1);rwa [h] at this
inductive EJ where
 | h0 (v5:List R4) (v6:Int)
def Gi (l0:List R6) (x1:Int):EJ->BJ
 | .h0 v5 v6=>⟨⟨60,0,true⟩,none,(Zk prog 150 [1,1,0,1,0,0] 0),none,(Zy prog 3),⟨Xd [(0,(.dat l0.length (Zz l0))),(1,(ii x1)),(5,(.sla 0 4 0 v5.length (.un 4))),(6,(ii v6))],Kf [⟨rows v5.length (Zz v5),168,some ⟨4,v5.length,(Zz v5)⟩⟩] 0,1,[],true⟩,[],.leaf⟩
def LS :List (Option (List Nat)):=[some [0,1,5,6]]
def LR :List (Option (List Nat)):=[]
def Fy (l0:List R6) (x1:Int):EJ->Wn EJ
 | .h0 v5 v6=>(bif (decide (v6<(l0.length:Int))) then (bif ((decide (0<=v6/\v6<(l0.length:Int)))&&true) then (bif (decide ((rd l0 v6.toNat).c <=x1)) then (bif (decide (x1<(rd l0 v6.toNat).f)) then (bif (Nat.beq 4 4&&((decide (0+v5.length=v5.length))&&decide ((v5.length+1+1)*(32+1)<=Kx))) then (.to (.h0 (v5++[(R4.mk (rd l0 v6.toNat).a (rd l0 v6.toNat).b (rd l0 v6.toNat).d (rd l0 v6.toNat).e)]) (wrap .i64 (v6+1)))) else .stuck) else (.to (.h0 v5 (wrap .i64 (v6+1))))) else (.to (.h0 v5 (wrap .i64 (v6+1))))) else .stuck) else (.ret [(.dat v5.length (Zz v5))]))
def KB (l0:List R6) (x1:Int):Wn EJ:=(.to (.h0 ([]:List R4) 0))
theorem YJ (l0:List R6) (x1:Int): ∀s,Wi prog (Zy prog 150) (Gi l0 x1) (Gi l0 x1 s) (Fy l0 x1 s)
 | .h0 v5 v6=>(lb (fun k0=>(lo fun aF=>let h:=ww aF (tt k0 nn);(lb (fun k1=>let i:=ww aF (tt k1 h);(lb (fun k2=>(lo fun o0=>let g:=rd l0 (tn v6);let c:=v5++[(R4.mk g.a g.b g.d g.e)];let f:=xL (v5.length+1) (v5++[(R4.mk (rd l0 (tn v6)).a (rd l0 (tn v6)).b (rd l0 (tn v6)).d (rd l0 (tn v6)).e)]).length;(sl Zv 42 [] ⟨[2],[],LS,LR⟩ ⟨[(5,.len c.length)],[.rowed 4 c.length (Zz c)],[]⟩ (BQ 10 []) (pp f (pp f (pp (xS (v5.length+1) (Zn (Zz v5) 0 v5.length 4 [(ii (rd l0 (tn v6)).a),(ii (rd l0 (tn v6)).b),(ii (rd l0 (tn v6)).d),(ii (rd l0 (tn v6)).e)]) (Zz (v5++[(R4.mk (rd l0 (tn v6)).a (rd l0 (tn v6)).b (rd l0 (tn v6)).d (rd l0 (tn v6)).e)]))) (pp (pp (xF (Zn (Zz v5) 0 v5.length 4 [(ii (rd l0 (tn v6)).a),(ii (rd l0 (tn v6)).b),(ii (rd l0 (tn v6)).d),(ii (rd l0 (tn v6)).e)])) nn) (ww o0 (ww aF (ww aF (ww aF (ww aF (tt k2 i))))))))))))) (fun k2=>(sl Zv 42 [] ⟨[0],[],LS,LR⟩ a6 (BQ 9 [false]) (pp (fl v5 nn) (tt k2 i)))))) (fun k1=>(sl Zv 42 [] ⟨[0],[],LS,LR⟩ a6 (bl 10 1) (pp (fl v5 nn) (tt k1 h))))))) (fun k0=>(lr 60 3 [1,1,1,1,1,1,0] 1 3 [(4,(.dat v5.length (Zz v5)))] (sl Zv 15 [] ⟨[],[0],[some [4]],[]⟩ ⟨[(4,.frz v5.length v5.length (Zz v5) (Zz v5))],[],[]⟩ [false] (pp (xZ (C7 4 4 0 v5.length v5.length (Zz v5)) v5.length (Zz v5)) (pp (xL v5.length v5.length) (pp (xS v5.length (Zz v5) (Zz v5)) (pp (fl v5 nn) (tt k0 nn)))))))))
theorem TS (l0:List R6) (x1:Int):Wi prog (Zy prog 150) (Gi l0 x1) (startC prog 150 [(.dat l0.length (Zz l0)),(.int .i64 x1)] true []) (KB l0 x1):=(sl Zv 15 [(168,4,Zz ([]:List R4))] ⟨[0],[],LS,LR⟩ ⟨[(5,.grow 0 4)],[],[]⟩ [] (pp (fl ([]:List R4) nn) nn))
theorem Ul (l0:List R6) (x1:Int) (n:Nat) (vs:List BA) (h:Yr (Fy l0 x1) n (KB l0 x1)=.ret vs):BV prog (Zy prog 150) (startC prog 150 [(.dat l0.length (Zz l0)),(.int .i64 x1)] true []) vs:=by have:=Yy (YJ l0 x1) n _ (TS l0 x1);rwa [h] at this
inductive E4 where
 | h0 (v13:Int)
def HY (l0:List R2) (l1:List R2):E4->BJ
 | .h0 v13=>⟨⟨26,0,true⟩,none,(Zk prog 203 [1,1,0,1,0,0] 0),none,(Zy prog 3),⟨Xd [(0,(.dat l0.length (Zz l0))),(1,(.dat l1.length (Zz l1))),(12,(ii (l0.length:Int))),(13,(ii v13))],Kf [] 0,0,[],true⟩,[],.leaf⟩
def F9 :List (Option (List Nat)):=[some [0,1,12,13]]
def Fa :List (Option (List Nat)):=[]
def Fu (l0:List R2) (l1:List R2):E4->Wn E4
 | .h0 v13=>(bif (decide (v13<(l0.length:Int))) then (bif ((decide (0<=v13/\v13<(l0.length:Int)))&&true) then (bif ((decide (0<=v13/\v13<(l1.length:Int)))&&true) then (bif (!(((rd l0 v13.toNat).a == (rd l1 v13.toNat).a)&&(((rd l0 v13.toNat).b == (rd l1 v13.toNat).b)&&true))) then (.ret [(.bool false)]) else (.to (.h0 (wrap .i64 (v13+1))))) else .stuck) else .stuck) else (.ret [(.bool true)]))
def IZ (l0:List R2) (l1:List R2):Wn E4:=(bif ((l0.length:Int) != (l1.length:Int)) then (.ret [(.bool false)]) else (.to (.h0 0)))
theorem XY (l0:List R2) (l1:List R2): ∀s,Wi prog (Zy prog 203) (HY l0 l1) (HY l0 l1 s) (Fu l0 l1 s)
 | .h0 v13=>(lb (fun k0=>(lo fun aF=>(lo fun aN=>let a:=ww aN (ww aF (tt k0 nn));(lb (fun k1=>(lr 26 203 [1,1,0,1,0,0,1,1,0,0,1,1,0,0] 1 3 [(4,(.bool false))] (sl Zv 21 [] (a7 [4]) a6 (bl 2 3) (tt k1 a)))) (fun k1=>(sl Zv 24 [] ⟨[],[],F9,Fa⟩ a6 (bl 2 1) (tt k1 a))))))) (fun k0=>(lr 26 3 [1,1,1,1,1,1,0] 1 3 [(4,(.bool true))] (sl Zv 11 [] (a7 [4]) a6 [false] (tt k0 nn)))))
theorem TB (l0:List R2) (l1:List R2):Wi prog (Zy prog 203) (HY l0 l1) (startC prog 203 [(.dat l0.length (Zz l0)),(.dat l1.length (Zz l1))] true []) (IZ l0 l1):=(lb (fun k0=>(lr 26 203 [1,0,1,0,0] 1 3 [(4,(.bool false))] (sl Zv 18 [] (a7 [4]) a6 [true] (tt k0 nn)))) (fun k0=>(sl Zv 24 [] ⟨[],[],F9,Fa⟩ a6 [false] (tt k0 nn))))
theorem w0y (l0:List R2) (l1:List R2) (n:Nat) (vs:List BA) (h:Yr (Fu l0 l1) n (IZ l0 l1)=.ret vs):BV prog (Zy prog 203) (startC prog 203 [(.dat l0.length (Zz l0)),(.dat l1.length (Zz l1))] true []) vs:=by have:=Yy (XY l0 l1) n _ (TB l0 l1);rwa [h] at this
inductive E2 where
 | h0 (v13:Int)
def HX (l0:List R4) (l1:List R4):E2->BJ
 | .h0 v13=>⟨⟨26,0,true⟩,none,(Zk prog 168 [1,1,0,1,0,0] 0),none,(Zy prog 3),⟨Xd [(0,(.dat l0.length (Zz l0))),(1,(.dat l1.length (Zz l1))),(12,(ii (l0.length:Int))),(13,(ii v13))],Kf [] 0,0,[],true⟩,[],.leaf⟩
def F7 :List (Option (List Nat)):=[some [0,1,12,13]]
def F8 :List (Option (List Nat)):=[]
def Fv (l0:List R4) (l1:List R4):E2->Wn E2
 | .h0 v13=>(bif (decide (v13<(l0.length:Int))) then (bif ((decide (0<=v13/\v13<(l0.length:Int)))&&true) then (bif ((decide (0<=v13/\v13<(l1.length:Int)))&&true) then (bif (!(((rd l0 v13.toNat).a == (rd l1 v13.toNat).a)&&(((rd l0 v13.toNat).b == (rd l1 v13.toNat).b)&&(((rd l0 v13.toNat).c == (rd l1 v13.toNat).c)&&(((rd l0 v13.toNat).d == (rd l1 v13.toNat).d)&&true))))) then (.ret [(.bool false)]) else (.to (.h0 (wrap .i64 (v13+1))))) else .stuck) else .stuck) else (.ret [(.bool true)]))
def I0 (l0:List R4) (l1:List R4):Wn E2:=(bif ((l0.length:Int) != (l1.length:Int)) then (.ret [(.bool false)]) else (.to (.h0 0)))
theorem XZ (l0:List R4) (l1:List R4): ∀s,Wi prog (Zy prog 168) (HX l0 l1) (HX l0 l1 s) (Fv l0 l1 s)
 | .h0 v13=>(lb (fun k0=>(lo fun aF=>(lo fun aN=>let a:=ww aN (ww aF (tt k0 nn));(lb (fun k1=>(lr 26 168 [1,1,0,1,0,0,1,1,0,0,1,1,0,0] 1 3 [(4,(.bool false))] (sl Zv 21 [] (a7 [4]) a6 (bl 2 3) (tt k1 a)))) (fun k1=>(sl Zv 24 [] ⟨[],[],F7,F8⟩ a6 (bl 2 1) (tt k1 a))))))) (fun k0=>(lr 26 3 [1,1,1,1,1,1,0] 1 3 [(4,(.bool true))] (sl Zv 11 [] (a7 [4]) a6 [false] (tt k0 nn)))))
theorem TC (l0:List R4) (l1:List R4):Wi prog (Zy prog 168) (HX l0 l1) (startC prog 168 [(.dat l0.length (Zz l0)),(.dat l1.length (Zz l1))] true []) (I0 l0 l1):=(lb (fun k0=>(lr 26 168 [1,0,1,0,0] 1 3 [(4,(.bool false))] (sl Zv 18 [] (a7 [4]) a6 [true] (tt k0 nn)))) (fun k0=>(sl Zv 24 [] ⟨[],[],F7,F8⟩ a6 [false] (tt k0 nn))))
theorem w0x (l0:List R4) (l1:List R4) (n:Nat) (vs:List BA) (h:Yr (Fv l0 l1) n (I0 l0 l1)=.ret vs):BV prog (Zy prog 168) (startC prog 168 [(.dat l0.length (Zz l0)),(.dat l1.length (Zz l1))] true []) vs:=by have:=Yy (XZ l0 l1) n _ (TC l0 l1);rwa [h] at this
inductive E1 where
 | h0 (v13:Int)
def HW (l0:List R6) (l1:List R6):E1->BJ
 | .h0 v13=>⟨⟨26,0,true⟩,none,(Zk prog 103 [1,1,0,1,0,0] 0),none,(Zy prog 3),⟨Xd [(0,(.dat l0.length (Zz l0))),(1,(.dat l1.length (Zz l1))),(12,(ii (l0.length:Int))),(13,(ii v13))],Kf [] 0,0,[],true⟩,[],.leaf⟩
def F5 :List (Option (List Nat)):=[some [0,1,12,13]]
def F6 :List (Option (List Nat)):=[]
def Fw (l0:List R6) (l1:List R6):E1->Wn E1
 | .h0 v13=>(bif (decide (v13<(l0.length:Int))) then (bif ((decide (0<=v13/\v13<(l0.length:Int)))&&true) then (bif ((decide (0<=v13/\v13<(l1.length:Int)))&&true) then (bif (!((((rd l0 v13.toNat).a == (rd l1 v13.toNat).a)&&(((rd l0 v13.toNat).b == (rd l1 v13.toNat).b)&&(((rd l0 v13.toNat).c == (rd l1 v13.toNat).c)&&true)))&&((((rd l0 v13.toNat).d == (rd l1 v13.toNat).d)&&(((rd l0 v13.toNat).e == (rd l1 v13.toNat).e)&&(((rd l0 v13.toNat).f == (rd l1 v13.toNat).f)&&true)))&&true))) then (.ret [(.bool false)]) else (.to (.h0 (wrap .i64 (v13+1))))) else .stuck) else .stuck) else (.ret [(.bool true)]))
def I1 (l0:List R6) (l1:List R6):Wn E1:=(bif ((l0.length:Int) != (l1.length:Int)) then (.ret [(.bool false)]) else (.to (.h0 0)))
theorem X0 (l0:List R6) (l1:List R6): ∀s,Wi prog (Zy prog 103) (HW l0 l1) (HW l0 l1 s) (Fw l0 l1 s)
 | .h0 v13=>(lb (fun k0=>(lo fun aF=>(lo fun aN=>let a:=ww aN (ww aF (tt k0 nn));(lb (fun k1=>(lr 26 103 [1,1,0,1,0,0,1,1,0,0,1,1,0,0] 1 3 [(4,(.bool false))] (sl Zv 21 [] (a7 [4]) a6 (bl 2 3) (tt k1 a)))) (fun k1=>(sl Zv 24 [] ⟨[],[],F5,F6⟩ a6 (bl 2 1) (tt k1 a))))))) (fun k0=>(lr 26 3 [1,1,1,1,1,1,0] 1 3 [(4,(.bool true))] (sl Zv 11 [] (a7 [4]) a6 [false] (tt k0 nn)))))
theorem TD (l0:List R6) (l1:List R6):Wi prog (Zy prog 103) (HW l0 l1) (startC prog 103 [(.dat l0.length (Zz l0)),(.dat l1.length (Zz l1))] true []) (I1 l0 l1):=(lb (fun k0=>(lr 26 103 [1,0,1,0,0] 1 3 [(4,(.bool false))] (sl Zv 18 [] (a7 [4]) a6 [true] (tt k0 nn)))) (fun k0=>(sl Zv 24 [] ⟨[],[],F5,F6⟩ a6 [false] (tt k0 nn))))
theorem w0w (l0:List R6) (l1:List R6) (n:Nat) (vs:List BA) (h:Yr (Fw l0 l1) n (I1 l0 l1)=.ret vs):BV prog (Zy prog 103) (startC prog 103 [(.dat l0.length (Zz l0)),(.dat l1.length (Zz l1))] true []) vs:=by have:=Yy (X0 l0 l1) n _ (TD l0 l1);rwa [h] at this
inductive ES where
def Gw (x0:Int) (x1:Bool) (x2:Bool):ES->BJ
 :=nofun
def MZ (x0:Int) (x1:Bool) (x2:Bool):ES->Wn ES
 :=nofun
def J9 (x0:Int) (x1:Bool) (x2:Bool):Wn ES:=(bif (x0 == 1) then (bif x1 then (.ret [(.bool x2)]) else (.ret [(.bool false)])) else (bif (x0 == 2) then (bif x1 then (.ret [(.bool true)]) else (.ret [(.bool x2)])) else (bif x1 then (.ret [(.bool (!x2))]) else (.ret [(.bool false)]))))
theorem X9 (x0:Int) (x1:Bool) (x2:Bool): ∀s,Wi prog (Zy prog 183) (Gw x0 x1 x2) (Gw x0 x1 x2 s) (MZ x0 x1 x2 s)
 :=nofun
theorem TI (x0:Int) (x1:Bool) (x2:Bool):Wi prog (Zy prog 183) (Gw x0 x1 x2) (startC prog 183 [(.int .i64 x0),(.bool x1),(.bool x2)] true []) (J9 x0 x1 x2):=(lb (fun k0=>(lb (fun k1=>(lr 24 183 [1,0,1,0,0] 1 7 [(6,(.bool x2))] (sl Zv 19 [] (a7 [6]) a6 (bl 2 3) (tt k1 (tt k0 nn))))) (fun k1=>(lr 24 183 [1,0,1,0,0] 1 7 [(6,(.bool false))] (sl Zv 19 [] (a7 [6]) a6 (bl 2 1) (tt k1 (tt k0 nn))))))) (fun k0=>(lb (fun k1=>let a:=tt k1 (tt k0 nn);(lb (fun k2=>(lr 24 183 [1,1,0,1,0,0] 1 7 [(6,(.bool true))] (sl Zv 27 [] (a7 [6]) a6 (bl 3 6) (tt k2 a)))) (fun k2=>(lr 24 183 [1,1,0,1,0,0] 1 7 [(6,(.bool x2))] (sl Zv 27 [] (a7 [6]) a6 (bl 3 2) (tt k2 a)))))) (fun k1=>let b:=tt k1 (tt k0 nn);(lb (fun k2=>(lr 24 3 [1,1,1,1,1,1,0] 1 7 [(6,(.bool (!x2)))] (sl Zv 29 [] (a7 [6]) a6 (bl 4 12) (tt k2 b)))) (fun k2=>(lr 24 3 [1,1,1,1,1,1,0] 1 7 [(6,(.bool false))] (sl Zv 29 [] (a7 [6]) a6 (bl 4 0) (tt k2 b)))))))))
theorem w0l (x0:Int) (x1:Bool) (x2:Bool) (n:Nat) (vs:List BA) (h:Yr (MZ x0 x1 x2) n (J9 x0 x1 x2)=.ret vs):BV prog (Zy prog 183) (startC prog 183 [(.int .i64 x0),(.bool x1),(.bool x2)] true []) vs:=by have:=Yy (X9 x0 x1 x2) n _ (TI x0 x1 x2);rwa [h] at this
inductive EU where
def Gy (x0:Bool) (x1:Bool):EU->BJ
 :=nofun
def MY (x0:Bool) (x1:Bool):EU->Wn EU
 :=nofun
def Ma (x0:Bool) (x1:Bool):Wn EU:=(.ret [(.bool x0)])
theorem X7 (x0:Bool) (x1:Bool): ∀s,Wi prog (Zy prog 229) (Gy x0 x1) (Gy x0 x1 s) (MY x0 x1 s)
 :=nofun
theorem TG (x0:Bool) (x1:Bool):Wi prog (Zy prog 229) (Gy x0 x1) (startC prog 229 [(.bool x0),(.bool x1)] true []) (Ma x0 x1):=(lr 6 3 [1,1,1,1,1,1,0] 1 3 [(4,(.bool x0))] (sl Zv 9 [] (a7 [4]) a6 [] nn))
theorem w0m (x0:Bool) (x1:Bool) (n:Nat) (vs:List BA) (h:Yr (MY x0 x1) n (Ma x0 x1)=.ret vs):BV prog (Zy prog 229) (startC prog 229 [(.bool x0),(.bool x1)] true []) vs:=by have:=Yy (X7 x0 x1) n _ (TG x0 x1);rwa [h] at this
def Du (out:List Int) (x:Int):Nat->Nat
 | 0=>0
 | k+1=>bif decide (rd out k>x) then Du out x k else k+1
def Cb (out:List Int) (x:Int):List Int:=
 match Du out x out.length with
 | 0=>x::out
 | k+1=>bif rd out k == x then out else out.take (k+1)++x::out.drop (k+1)
def BZ (l:List Int):List Int:=l.foldl Cb []
def Vs (l:List Int):Bool:=decide (l.length<=1000000)
theorem Oz (out:List Int) (x:Int):(Cb out x).length <=out.length+1:=by
 grind [Cb]
theorem QC (out:List Int) (x:Int) (k:Nat) (hk:k<=out.length):
  (C8 (out++[0]) (k+1) (Nat.min (out.length+1 - k) (out.length+1 - (k+1))) (Uc (out++[0]) k (out.length+1 - k))).set k x=out.take k++x::out.drop k:=by
 have hm:Nat.min (out.length+1 - k) (out.length+1 - (k+1))=out.length - k:=by
  grind
 rw [hm];apply Bl
 .simp [Ko];omega
 .intro i h1 h2;have hi:i<out.length+1:=by grind
  rw [<-Vm h1,<-Vm h2]
  grind [Rj,Vm,RD,L7,L8,Mg]
theorem Pq (l:List Int) (out:List Int) (i:Nat) (hi:i<l.length) (hl:l.length<=1000000) (ho:out.length<=i): ∀(k N:Nat),k<=out.length->
  (Du out (rd l i) out.length=Du out (rd l i) k)-> ∃m,∀N,Yr (Wq l) (N+m) (.to (.h1 out (i:Int) (k:Int)))=Yr (Wq l) N (.to (.h0 (Cb out (rd l i)) ((i+1:Nat):Int)))
 | 0,N,hk,hp=>by
  refine ⟨1,fun N=> ?_⟩;have hins:Cb out (rd l i)=(C8 (out++[0]) (0+1) (Nat.min (out.length+1 - 0) (out.length+1 - (0+1))) (Uc (out++[0]) 0 (out.length+1 - 0))).set 0 (rd l i):=by rw [QC out _ 0 (AD _)];unfold Cb;rw [hp];rfl
  rw [hins,Zj];simp (disch:=omega) only [Wq,Zr,Ar,Xq,Yw,Xf,Yd,Yh,Yb,Yv,Za,Zw,Ye,Zp,Aj,An,Ap,Ah,Ai]
 | k +1,N,hk,hp=>by
  rcases Wc (decide (rd out k>rd l i)) with h | h
  .have hp':Du out (rd l i) out.length=Du out (rd l i) k:=by grind [Du]
   obtain ⟨m,hm⟩:=Pq l out i hi hl ho k N (by omega) hp';refine ⟨m+1,fun N=> ?_⟩;rw [<-hm N,<-AF,Zj];simp (disch:=omega) only [Wq,Zf,h,Zr,Ar,Yt,Yw,Xf,Yd,Yh,Yb,Yv,Za,Zw,Ye,Zp,Aj,An,Ap,Ah,Ai]
  .have hpk:Du out (rd l i) out.length=k+1:=by rw [hp];unfold Du;rw [h];rfl
   refine ⟨1,fun N=> ?_⟩;rw [Zj];rcases Wc (rd out k == rd l i) with q | q
   .have hins:Cb out (rd l i)=out:=(by grind [Cb]);rw [hins];simp (disch:=omega) only [Wq,Zf,h,q,Zr,Ar,Yt,Yw,Xf,Yd,Yh,Yb,Yv,Za,Zw,Ye,Zp,Aj,An,Ap,Ah,Ai]
   .have hins:Cb out (rd l i)=(C8 (out++[0]) (k+1+1) (Nat.min (out.length+1 - (k+1)) (out.length+1 - (k+1+1))) (Uc (out++[0]) (k+1) (out.length+1 - (k+1)))).set (k+1) (rd l i):=by
     rw [QC out _ (k+1) hk]
     grind [Cb]
    rw [hins];simp (disch:=omega) only [Wq,Zf,h,q,Zr,Ar,Yt,Yw,Xf,Yd,Yh,Yb,Yv,Za,Zw,Ye,Zp,Aj,An,Ap,Ah,Ai]
theorem Pp (l:List Int) (hl:l.length<=1000000): ∀(k i:Nat) (out:List Int),i+k=l.length->out.length<=i-> ∃m,Yr (Wq l) m (.to (.h0 out (i:Int)))=.ret [.dat ((l.drop i).foldl Cb out).length (Zz ((l.drop i).foldl Cb out))]
 | 0,i,out,h,ho=>by refine ⟨1,?_⟩;rw [Zj];simp (disch:=omega) only [Wq,Xy,Ai];rw [Ay (by omega)];rfl
 | k+1,i,out,h,ho=>by
  obtain ⟨m1,h1⟩:=Pq l out i (by omega) hl ho out.length 0 (Ak _) rfl;obtain ⟨m2,h2⟩:=Pp l hl k (i+1) (Cb out (rd l i)) (by omega) (AE (Oz _ _) (by omega));refine ⟨m2+m1+1,?_⟩
  grind [Zj,Wq,Ys]
theorem W5 (l:List Int) (h:Vs l=true): ∃N,Yr (Wq l) N (K3 l)=.ret [.dat (BZ l).length (Zz (BZ l))]:=by
 have:=Pp l (AA h) l.length 0 [] (by omega) (Ak _)
 simpa [K3,BZ] using this
theorem Zg (n:Nat):Int.toNat ((n:Int) - 1)=n - 1:=by omega
theorem LO (x y:R2):((x.a == y.a)&&(x.b == y.b))=decide (x=y):=by
 obtain ⟨a,b⟩:=x;obtain ⟨c,d⟩:=y
 grind
theorem LP (x y:R4):((x.a == y.a)&&((x.b == y.b)&&((x.c == y.c)&&(x.d == y.d))))=decide (x=y):=by
 obtain ⟨a,b,c,d⟩:=x;obtain ⟨e,f,g,h⟩:=y
 grind
theorem LQ (x y:R6):(((x.a == y.a)&&((x.b == y.b)&&(x.c == y.c)))&&((x.d == y.d)&&((x.e == y.e)&&(x.f == y.f))))=decide (x=y):=by
 obtain ⟨a,b,c,d,e,f⟩:=x;obtain ⟨a',b',c',d',e',f'⟩:=y
 grind
def Jz (l m:List R2):Bool:=decide (l=m)
def Qw (l m:List R4):Bool:=decide (l=m)
def Jd (l m:List R6):Bool:=decide (l=m)
def Vx (l m:List R2):Bool:=decide (l.length<=1000000)
def Vy (l m:List R4):Bool:=decide (l.length<=1000000)
def Vz (l m:List R6):Bool:=decide (l.length<=1000000)
theorem Hr {α:Type} [DecidableEq α] (x y:α) (l m:List α):decide (x::l=y::m)=(decide (x=y)&&decide (l=m)):=by grind
theorem Rs (l m:List R2) (hl:l.length<=1000000) (hm:l.length=m.length): ∀(k i:Nat),i+k=l.length-> ∃N,Yr (GB l m) N (.to (.h0 (i:Int)))=.ret [.bool (decide (l.drop i=m.drop i))]
 | 0,i,h=>by refine ⟨1,?_⟩;rw [Zj,Ay (show l.length<=i by omega),Ay (show m.length<=i by omega)];simp (disch:=omega) only [GB,Xq,Yt,Yw,Xy,Xf,Yd,Yh,Yb,Yv,Za,Zr,Un,Uo,Ar,Zw,Zf,Zg,Ye,Zp,Aj,An,Ap,Ah,Ai,Ax,Aw,Zc]
 | k+1,i,h=>by
  obtain ⟨N,hN⟩:=Rs l m hl hm k (i+1) (by omega);refine ⟨N+1,?_⟩;rw [Zj,Ys (show i<l.length by omega),Ys (show i<m.length by omega),Hr];rcases Wc (decide (rd l i=rd m i)) with q | q
  .simp (disch:=omega) only [GB,LO,q,Xq,Yt,Yw,Xy,Xf,Yd,Yh,Yb,Yv,Za,Zr,Un,Uo,Ar,Zw,Zf,Zg,Ye,Zp,Aj,An,Ap,Ah,Ai,Ax,Aw,Zc];exact hN
  .simp (disch:=omega) only [GB,LO,q,Xq,Yt,Yw,Xy,Xf,Yd,Yh,Yb,Yv,Za,Zr,Un,Uo,Ar,Zw,Zf,Zg,Ye,Zp,Aj,An,Ap,Ah,Ai,Ax,Aw,Zc,A6]
theorem w4k (l m:List R2) (h:Vx l m=true): ∃N,Yr (GB l m) N (I7 l m)=.ret [.bool (Jz l m)]:=by
 have hl:l.length<=1000000:=AA h;by_cases hm:l.length=m.length
 .obtain ⟨N,hN⟩:=Rs l m hl hm l.length 0 (Aj _);refine ⟨N,?_⟩;unfold I7;rw [Uo (show (l.length:Int)=(m.length:Nat) by omega)];exact hN
 .refine ⟨0,?_⟩;unfold I7;rw [Un (show (l.length:Int)≠(m.length:Nat) by omega)];have:Jz l m=false:=AN fun e=>hm (by rw [e]);rw [this];rfl
theorem Rt (l m:List R4) (hl:l.length<=1000000) (hm:l.length=m.length): ∀(k i:Nat),i+k=l.length-> ∃N,Yr (GC l m) N (.to (.h0 (i:Int)))=.ret [.bool (decide (l.drop i=m.drop i))]
 | 0,i,h=>by refine ⟨1,?_⟩;rw [Zj,Ay (show l.length<=i by omega),Ay (show m.length<=i by omega)];simp (disch:=omega) only [GC,Xq,Yt,Yw,Xy,Xf,Yd,Yh,Yb,Yv,Za,Zr,Un,Uo,Ar,Zw,Zf,Zg,Ye,Zp,Aj,An,Ap,Ah,Ai,Ax,Aw,Zc]
 | k+1,i,h=>by
  obtain ⟨N,hN⟩:=Rt l m hl hm k (i+1) (by omega);refine ⟨N+1,?_⟩;rw [Zj,Ys (show i<l.length by omega),Ys (show i<m.length by omega),Hr];rcases Wc (decide (rd l i=rd m i)) with q | q
  .simp (disch:=omega) only [GC,LP,q,Xq,Yt,Yw,Xy,Xf,Yd,Yh,Yb,Yv,Za,Zr,Un,Uo,Ar,Zw,Zf,Zg,Ye,Zp,Aj,An,Ap,Ah,Ai,Ax,Aw,Zc];exact hN
  .simp (disch:=omega) only [GC,LP,q,Xq,Yt,Yw,Xy,Xf,Yd,Yh,Yb,Yv,Za,Zr,Un,Uo,Ar,Zw,Zf,Zg,Ye,Zp,Aj,An,Ap,Ah,Ai,Ax,Aw,Zc,A6]
theorem w4j (l m:List R4) (h:Vy l m=true): ∃N,Yr (GC l m) N (I8 l m)=.ret [.bool (Qw l m)]:=by
 have hl:l.length<=1000000:=AA h;by_cases hm:l.length=m.length
 .obtain ⟨N,hN⟩:=Rt l m hl hm l.length 0 (Aj _);refine ⟨N,?_⟩;unfold I8;rw [Uo (show (l.length:Int)=(m.length:Nat) by omega)];exact hN
 .refine ⟨0,?_⟩;unfold I8;rw [Un (show (l.length:Int)≠(m.length:Nat) by omega)];have:Qw l m=false:=AN fun e=>hm (by rw [e]);rw [this];rfl
theorem Rr (l m:List R6) (hl:l.length<=1000000) (hm:l.length=m.length): ∀(k i:Nat),i+k=l.length-> ∃N,Yr (GA l m) N (.to (.h0 (i:Int)))=.ret [.bool (decide (l.drop i=m.drop i))]
 | 0,i,h=>by refine ⟨1,?_⟩;rw [Zj,Ay (show l.length<=i by omega),Ay (show m.length<=i by omega)];simp (disch:=omega) only [GA,Xq,Yt,Yw,Xy,Xf,Yd,Yh,Yb,Yv,Za,Zr,Un,Uo,Ar,Zw,Zf,Zg,Ye,Zp,Aj,An,Ap,Ah,Ai,Ax,Aw,Zc]
 | k+1,i,h=>by
  obtain ⟨N,hN⟩:=Rr l m hl hm k (i+1) (by omega);refine ⟨N+1,?_⟩;rw [Zj,Ys (show i<l.length by omega),Ys (show i<m.length by omega),Hr];rcases Wc (decide (rd l i=rd m i)) with q | q
  .simp (disch:=omega) only [GA,LQ,q,Xq,Yt,Yw,Xy,Xf,Yd,Yh,Yb,Yv,Za,Zr,Un,Uo,Ar,Zw,Zf,Zg,Ye,Zp,Aj,An,Ap,Ah,Ai,Ax,Aw,Zc];exact hN
  .simp (disch:=omega) only [GA,LQ,q,Xq,Yt,Yw,Xy,Xf,Yd,Yh,Yb,Yv,Za,Zr,Un,Uo,Ar,Zw,Zf,Zg,Ye,Zp,Aj,An,Ap,Ah,Ai,Ax,Aw,Zc,A6]
theorem w4l (l m:List R6) (h:Vz l m=true): ∃N,Yr (GA l m) N (I6 l m)=.ret [.bool (Jd l m)]:=by
 have hl:l.length<=1000000:=AA h;by_cases hm:l.length=m.length
 .obtain ⟨N,hN⟩:=Rr l m hl hm l.length 0 (Aj _);refine ⟨N,?_⟩;unfold I6;rw [Uo (show (l.length:Int)=(m.length:Nat) by omega)];exact hN
 .refine ⟨0,?_⟩;unfold I6;rw [Un (show (l.length:Int)≠(m.length:Nat) by omega)];have:Jd l m=false:=AN fun e=>hm (by rw [e]);rw [this];rfl
theorem RR (l m:List R2) (hl:l.length<=1000000) (hm:l.length=m.length): ∀(k i:Nat),i+k=l.length-> ∃N,Yr (Fu l m) N (.to (.h0 (i:Int)))=.ret [.bool (decide (l.drop i=m.drop i))]
 | 0,i,h=>by refine ⟨1,?_⟩;rw [Zj,Ay (show l.length<=i by omega),Ay (show m.length<=i by omega)];simp (disch:=omega) only [Fu,Xq,Yt,Yw,Xy,Xf,Yd,Yh,Yb,Yv,Za,Zr,Un,Uo,Ar,Zw,Zf,Zg,Ye,Zp,Aj,An,Ap,Ah,Ai,Ax,Aw,Zc]
 | k+1,i,h=>by
  obtain ⟨N,hN⟩:=RR l m hl hm k (i+1) (by omega);refine ⟨N+1,?_⟩;rw [Zj,Ys (show i<l.length by omega),Ys (show i<m.length by omega),Hr];rcases Wc (decide (rd l i=rd m i)) with q | q
  .simp (disch:=omega) only [Fu,LO,q,Xq,Yt,Yw,Xy,Xf,Yd,Yh,Yb,Yv,Za,Zr,Un,Uo,Ar,Zw,Zf,Zg,Ye,Zp,Aj,An,Ap,Ah,Ai,Ax,Aw,Zc];exact hN
  .simp (disch:=omega) only [Fu,LO,q,Xq,Yt,Yw,Xy,Xf,Yd,Yh,Yb,Yv,Za,Zr,Un,Uo,Ar,Zw,Zf,Zg,Ye,Zp,Aj,An,Ap,Ah,Ai,Ax,Aw,Zc,A6]
theorem ZK (l m:List R2) (h:Vx l m=true): ∃N,Yr (Fu l m) N (IZ l m)=.ret [.bool (Jz l m)]:=by
 have hl:l.length<=1000000:=AA h;by_cases hm:l.length=m.length
 .obtain ⟨N,hN⟩:=RR l m hl hm l.length 0 (Aj _);refine ⟨N,?_⟩;unfold IZ;rw [Uo (show (l.length:Int)=(m.length:Nat) by omega)];exact hN
 .refine ⟨0,?_⟩;unfold IZ;rw [Un (show (l.length:Int)≠(m.length:Nat) by omega)];have:Jz l m=false:=AN fun e=>hm (by rw [e]);rw [this];rfl
theorem RS (l m:List R4) (hl:l.length<=1000000) (hm:l.length=m.length): ∀(k i:Nat),i+k=l.length-> ∃N,Yr (Fv l m) N (.to (.h0 (i:Int)))=.ret [.bool (decide (l.drop i=m.drop i))]
 | 0,i,h=>by refine ⟨1,?_⟩;rw [Zj,Ay (show l.length<=i by omega),Ay (show m.length<=i by omega)];simp (disch:=omega) only [Fv,Xq,Yt,Yw,Xy,Xf,Yd,Yh,Yb,Yv,Za,Zr,Un,Uo,Ar,Zw,Zf,Zg,Ye,Zp,Aj,An,Ap,Ah,Ai,Ax,Aw,Zc]
 | k+1,i,h=>by
  obtain ⟨N,hN⟩:=RS l m hl hm k (i+1) (by omega);refine ⟨N+1,?_⟩;rw [Zj,Ys (show i<l.length by omega),Ys (show i<m.length by omega),Hr];rcases Wc (decide (rd l i=rd m i)) with q | q
  .simp (disch:=omega) only [Fv,LP,q,Xq,Yt,Yw,Xy,Xf,Yd,Yh,Yb,Yv,Za,Zr,Un,Uo,Ar,Zw,Zf,Zg,Ye,Zp,Aj,An,Ap,Ah,Ai,Ax,Aw,Zc];exact hN
  .simp (disch:=omega) only [Fv,LP,q,Xq,Yt,Yw,Xy,Xf,Yd,Yh,Yb,Yv,Za,Zr,Un,Uo,Ar,Zw,Zf,Zg,Ye,Zp,Aj,An,Ap,Ah,Ai,Ax,Aw,Zc,A6]
theorem ZL (l m:List R4) (h:Vy l m=true): ∃N,Yr (Fv l m) N (I0 l m)=.ret [.bool (Qw l m)]:=by
 have hl:l.length<=1000000:=AA h;by_cases hm:l.length=m.length
 .obtain ⟨N,hN⟩:=RS l m hl hm l.length 0 (Aj _);refine ⟨N,?_⟩;unfold I0;rw [Uo (show (l.length:Int)=(m.length:Nat) by omega)];exact hN
 .refine ⟨0,?_⟩;unfold I0;rw [Un (show (l.length:Int)≠(m.length:Nat) by omega)];have:Qw l m=false:=AN fun e=>hm (by rw [e]);rw [this];rfl
theorem RT (l m:List R6) (hl:l.length<=1000000) (hm:l.length=m.length): ∀(k i:Nat),i+k=l.length-> ∃N,Yr (Fw l m) N (.to (.h0 (i:Int)))=.ret [.bool (decide (l.drop i=m.drop i))]
 | 0,i,h=>by refine ⟨1,?_⟩;rw [Zj,Ay (show l.length<=i by omega),Ay (show m.length<=i by omega)];simp (disch:=omega) only [Fw,Xq,Yt,Yw,Xy,Xf,Yd,Yh,Yb,Yv,Za,Zr,Un,Uo,Ar,Zw,Zf,Zg,Ye,Zp,Aj,An,Ap,Ah,Ai,Ax,Aw,Zc]
 | k+1,i,h=>by
  obtain ⟨N,hN⟩:=RT l m hl hm k (i+1) (by omega);refine ⟨N+1,?_⟩;rw [Zj,Ys (show i<l.length by omega),Ys (show i<m.length by omega),Hr];rcases Wc (decide (rd l i=rd m i)) with q | q
  .simp (disch:=omega) only [Fw,LQ,q,Xq,Yt,Yw,Xy,Xf,Yd,Yh,Yb,Yv,Za,Zr,Un,Uo,Ar,Zw,Zf,Zg,Ye,Zp,Aj,An,Ap,Ah,Ai,Ax,Aw,Zc];exact hN
  .simp (disch:=omega) only [Fw,LQ,q,Xq,Yt,Yw,Xy,Xf,Yd,Yh,Yb,Yv,Za,Zr,Un,Uo,Ar,Zw,Zf,Zg,Ye,Zp,Aj,An,Ap,Ah,Ai,Ax,Aw,Zc,A6]
theorem ZM (l m:List R6) (h:Vz l m=true): ∃N,Yr (Fw l m) N (I1 l m)=.ret [.bool (Jd l m)]:=by
 have hl:l.length<=1000000:=AA h;by_cases hm:l.length=m.length
 .obtain ⟨N,hN⟩:=RT l m hl hm l.length 0 (Aj _);refine ⟨N,?_⟩;unfold I1;rw [Uo (show (l.length:Int)=(m.length:Nat) by omega)];exact hN
 .refine ⟨0,?_⟩;unfold I1;rw [Un (show (l.length:Int)≠(m.length:Nat) by omega)];have:Jd l m=false:=AN fun e=>hm (by rw [e]);rw [this];rfl
def Ni (x y:Int) (r:R4):Bool:=decide (r.a<=x)&&(decide (x<r.c)&&(decide (r.b<=y)&&decide (y<r.d)))
def Uf (l:List R4) (x y:Int):Bool:=l.any (Ni x y)
def Um (l:List R4) (x y:Int):Bool:=decide (l.length<=1000000)
theorem RF (l:List R4) (x y:Int) (hl:l.length<=1000000): ∀(k i:Nat),i+k=l.length-> ∃N,Yr (Hx l x y) N (.to (.h0 (i:Int)))=.ret [.bool ((l.drop i).any (Ni x y))]
 | 0,i,h=>by refine ⟨1,?_⟩;rw [Zj,Ay (show l.length<=i by omega)];simp (disch:=omega) only [Hx,Xq,Yt,Yw,Xy,Xf,Yd,Yh,Yb,Yv,Za,Zr,Un,Uo,Ar,Zw,Zf,Zg,Ye,Zp,Aj,An,Ap,Ah,Ai,Ax,Aw,Zc];rfl
 | k+1,i,h=>by
  obtain ⟨N,hN⟩:=RF l x y hl k (i+1) (by omega);refine ⟨N+1,?_⟩;rw [Zj,Ys (show i<l.length by omega),List.any_cons];unfold Ni at hN ⊢;rcases Wc (decide ((rd l i).a <=x)) with q1 | q1 <;> rcases Wc (decide (x<(rd l i).c)) with q2 | q2 <;> rcases Wc (decide ((rd l i).b <=y)) with q3 | q3 <;> rcases Wc (decide (y<(rd l i).d)) with q4 | q4 <;>
   simp (disch:=omega) only [Hx,q1,q2,q3,q4,Xq,Yt,Yw,Xy,Xf,Yd,Yh,Yb,Yv,Za,Zr,Un,Uo,Ar,Zw,Zf,Zg,Ye,Zp,Aj,An,Ap,Ah,Ai,Ax,Aw,Zc,A6,Bool.and_false,Bool.false_or,Bool.true_or] <;> exact hN
theorem VG (l:List R4) (x y:Int) (h:Um l x y=true): ∃N,Yr (Hx l x y) N (KV l x y)=.ret [.bool (Uf l x y)]:=by
 have:=RF l x y (AA h) l.length 0 (Aj _)
 simpa [KV,Uf] using this
def Lf (z:Int) (b:R6):Bool:=decide (b.c<=z)&&decide (z<b.f)
def NP (b:R6):R4:=⟨b.a,b.b,b.d,b.e⟩
def BM (l:List R6) (z:Int):List R4:=(l.filter (Lf z)).map NP
def Hq (l:List R6) (z:Int):Bool:=decide (l.length<=1000000)
theorem Mx (l:List R6) (z:Int) (hl:l.length<=1000000): ∀(k i:Nat) (out:List R4),i+k=l.length->out.length<=i-> ∃N,Yr (Fy l z) N (.to (.h0 out (i:Int)))=.ret [.dat (out++BM (l.drop i) z).length (Zz (out++BM (l.drop i) z))]
 | 0,i,out,h,ho=>by refine ⟨1,?_⟩;rw [Zj,Ay (show l.length<=i by omega)];simp (disch:=omega) only [Fy,Xq,Yt,Yw,Xy,Xf,Yd,Yh,Yb,Yv,Za,Zr,Un,Uo,Ar,Zw,Zf,Zg,Ye,Zp,Aj,An,Ap,Ah,Ai,Ax,Aw,Zc,BM,List.filter_nil,List.map_nil,AL]
 | k+1,i,out,h,ho=>by
  rw [Ys (show i<l.length by omega)];have e:BM (rd l i::l.drop (i+1)) z=(bif Lf z (rd l i) then [NP (rd l i)] else [])++BM (l.drop (i+1)) z:=by
   grind [BM]
  rw [e,<-AG];rcases Wc (decide ((rd l i).c <=z)) with q1 | q1 <;> rcases Wc (decide (z<(rd l i).f)) with q2 | q2
  .obtain ⟨N,hN⟩:=Mx l z hl k (i+1) (out++[NP (rd l i)]) (by omega) (by simp;omega);refine ⟨N+1,?_⟩;rw [Zj];simp (disch:=omega) only [Fy,q1,q2,Lf,Xq,Yt,Yw,Xy,Xf,Yd,Yh,Yb,Yv,Za,Zr,Un,Uo,Ar,Zw,Zf,Zg,Ye,Zp,Aj,An,Ap,Ah,Ai,Ax,Aw,Zc];exact hN
  all_goals
   obtain ⟨N,hN⟩:=Mx l z hl k (i+1) out (by omega) (by omega);refine ⟨N+1,?_⟩;rw [Zj];simp (disch:=omega) only [Fy,q1,q2,Lf,Xq,Yt,Yw,Xy,Xf,Yd,Yh,Yb,Yv,Za,Zr,Un,Uo,Ar,Zw,Zf,Zg,Ye,Zp,Aj,An,Ap,Ah,Ai,Ax,Aw,Zc,A6,Bool.and_false,AL];exact hN
theorem w5d (l:List R6) (z:Int) (h:Hq l z=true): ∃N,Yr (Fy l z) N (KB l z)=.ret [.dat (BM l z).length (Zz (BM l z))]:=by
 have:=Mx l z (AA h) l.length 0 [] (Aj _) (Ak _)
 simpa [KB] using this
def Eg (cuts:List Int) (ins:List Bool):Nat->Nat->List R2->List R2
 | 0,_,out=>out
 | k+1,i,out=>Eg cuts ins k (i+1) (bif rd ins i then (bif decide (0<out.length)&&((rd out (out.length - 1)).b == rd cuts i) then out.set (out.length - 1) ⟨(rd out (out.length - 1)).a,rd cuts (i+1)⟩ else out++[⟨rd cuts i,rd cuts (i+1)⟩]) else out)
def CL (cuts:List Int) (ins:List Bool):List R2:=Eg cuts ins (cuts.length - 1) 0 []
def KO (cuts:List Int) (ins:List Bool):Bool:=decide (cuts.length<=1000000/\cuts.length<=ins.length+1)
theorem LD (cuts:List Int) (ins:List Bool) (hl:cuts.length<=1000000) (hi:cuts.length<=ins.length+1): ∀(k i:Nat) (out:List R2),k=cuts.length - 1 - i->i<=cuts.length->out.length<=i-> ∃N,Yr (Uu cuts ins) N (.to (.h0 out (i:Int)))=.ret [.dat (Eg cuts ins k i out).length (Zz (Eg cuts ins k i out))]
 | 0,i,out,h,hi2,ho=>by refine ⟨1,?_⟩;rw [Zj];simp (disch:=omega) only [Uu,Xq,Yt,Yw,Xy,Xf,Yd,Yh,Yb,Yv,Za,Zr,Un,Uo,Ar,Zw,Zf,Zg,Ye,Zp,Aj,An,Ap,Ah,Ai,Ax,Aw,Zc,Eg]
 | k+1,i,out,h,hi2,ho=>by
  unfold Eg;rcases Wc (rd ins i) with q | q
  .rcases Wc (decide (0<out.length)&&((rd out (out.length - 1)).b == rd cuts i)) with q2 | q2
   .obtain ⟨N,hN⟩:=LD cuts ins hl hi k (i+1) (out.set (out.length - 1) ⟨(rd out (out.length - 1)).a,rd cuts (i+1)⟩) (by omega) (by omega) (by simp;omega);refine ⟨N+1,?_⟩;rw [Zj,q,q2];simp only [Ad,Au] at q2;simp (disch:=omega) only [Uu,q,q2.2,Xq,Yt,Yw,Xy,Xf,Yd,Yh,Yb,Yv,Za,Zr,Un,Uo,Ar,Zw,Zf,Zg,Ye,Zp,Aj,An,Ap,Ah,Ai,Ax,Aw,Zc];exact hN
   .obtain ⟨N,hN⟩:=LD cuts ins hl hi k (i+1) (out++[⟨rd cuts i,rd cuts (i+1)⟩]) (by omega) (by omega) (by simp;omega);refine ⟨N+1,?_⟩;rw [Zj,q,q2];by_cases h0:0<out.length
    .rw [Aq h0,Ap] at q2;simp (disch:=omega) only [Uu,q,q2,Xq,Yt,Yw,Xy,Xf,Yd,Yh,Yb,Yv,Za,Zr,Un,Uo,Ar,Zw,Zf,Zg,Ye,Zp,Aj,An,Ap,Ah,Ai,Ax,Aw,Zc];exact hN
    .simp (disch:=omega) only [Uu,q,Xq,Yt,Yw,Xy,Xf,Yd,Yh,Yb,Yv,Za,Zr,Un,Uo,Ar,Zw,Zf,Zg,Ye,Zp,Aj,An,Ap,Ah,Ai,Ax,Aw,Zc];exact hN
  .obtain ⟨N,hN⟩:=LD cuts ins hl hi k (i+1) out (by omega) (by omega) (by omega);refine ⟨N+1,?_⟩;rw [Zj,q];simp (disch:=omega) only [Uu,q,Xq,Yt,Yw,Xy,Xf,Yd,Yh,Yb,Yv,Za,Zr,Un,Uo,Ar,Zw,Zf,Zg,Ye,Zp,Aj,An,Ap,Ah,Ai,Ax,Aw,Zc];exact hN
theorem VA (cuts:List Int) (ins:List Bool) (h:KO cuts ins=true): ∃N,Yr (Uu cuts ins) N (KQ cuts ins)=.ret [.dat (CL cuts ins).length (Zz (CL cuts ins))]:=by
 obtain ⟨h1,h2⟩:=AA h;have:=LD cuts ins h1 h2 (cuts.length - 1) 0 [] (by omega) (AD _) (Ak _)
 simpa [KQ,CL] using this
def Js (k:Int) (a b:Bool):Bool:=bif k == 1 then a&&b else bif k == 2 then a||b else a&& !b
def Cn (a b:Bool):Bool:=a
theorem Z3 (k:Int) (a b:Bool): ∃N,Yr (MZ k a b) N (J9 k a b)=.ret [.bool (Js k a b)]:=by
 refine ⟨0,?_⟩;unfold J9 Js;cases a <;> cases b <;> rcases Wc (k == 1) with q | q <;> rcases Wc (k == 2) with q2 | q2 <;> rw [q] <;> (try rw [q2]) <;> rfl
theorem Z2 (a b:Bool): ∃N,Yr (MY a b) N (Ma a b)=.ret [.bool (Cn a b)]:=⟨0,rfl⟩
def HD :List BA->Option (BA×Bool)
 | [a0]=>match B2 Int a0 with
  | some (L0,g0,n0)=>some (.dat (BZ L0).length (Zz (BZ L0)),BT Int n0 g0&&(Vs L0))
  | _=>none
 | _=>none
theorem ZX {S:BC} (hS:Zu prog S):Zu prog (S.with Q9 HD):=by
 refine CD hS (by kernel_rfl) fun args v h=> ?_;unfold HD at h;split at h
 .rename_i a0;split at h
  .rename_i L0 g0 n0 e0;simp only [Ab,Aa,Ad] at h;obtain ⟨rfl,ho0,hw⟩:=h;obtain ⟨N,hN⟩:=W5 L0 hw;exact ⟨_,_,(.cons (Xb e0 ho0) .nil),rfl,YR L0 N _ hN,3,rfl⟩
  .cases h
 .cases h
def HS :List BA->Option (BA×Bool)
 | [a0,a1]=>match B2 Int a0,B2 Bool a1 with
  | some (L0,g0,n0),some (L1,g1,n1)=>some (.dat (CL L0 L1).length (Zz (CL L0 L1)),BT Int n0 g0&&(BT Bool n1 g1&&(KO L0 L1)))
  | _,_=>none
 | _=>none
theorem ZO {S:BC} (hS:Zu prog S):Zu prog (S.with R0 HS):=by
 refine CD hS (by kernel_rfl) fun args v h=> ?_;unfold HS at h;split at h
 .rename_i a0 a1;split at h
  .rename_i L0 g0 n0 L1 g1 n1 e0 e1;simp only [Ab,Aa,Ad] at h;obtain ⟨rfl,ho0,ho1,hw⟩:=h;obtain ⟨N,hN⟩:=VA L0 L1 hw;exact ⟨_,_,(.cons (Xb e0 ho0) (.cons (Xb e1 ho1) .nil)),rfl,WY L0 L1 N _ hN,3,rfl⟩
  .cases h
 .cases h
def IE :List BA->Option (BA×Bool)
 | [a0,a1]=>match B2 R2 a0,B2 R2 a1 with
  | some (L0,g0,n0),some (L1,g1,n1)=>some (.bool (Jz L0 L1),BT R2 n0 g0&&(BT R2 n1 g1&&(Vx L0 L1)))
  | _,_=>none
 | _=>none
theorem WD {S:BC} (hS:Zu prog S):Zu prog (S.with R8 IE):=by
 refine CD hS (by kernel_rfl) fun args v h=> ?_;unfold IE at h;split at h
 .rename_i a0 a1;split at h
  .rename_i L0 g0 n0 L1 g1 n1 e0 e1;simp only [Ab,Aa,Ad] at h;obtain ⟨rfl,ho0,ho1,hw⟩:=h;obtain ⟨N,hN⟩:=w4k L0 L1 hw;exact ⟨_,_,(.cons (Xb e0 ho0) (.cons (Xb e1 ho1) .nil)),rfl,VM L0 L1 N _ hN,3,rfl⟩
  .cases h
 .cases h
def Hf :List BA->Option (BA×Bool)
 | [a0,a1]=>match B2 R4 a0,B2 R4 a1 with
  | some (L0,g0,n0),some (L1,g1,n1)=>some (.bool (Qw L0 L1),BT R4 n0 g0&&(BT R4 n1 g1&&(Vy L0 L1)))
  | _,_=>none
 | _=>none
theorem WE {S:BC} (hS:Zu prog S):Zu prog (S.with R9 Hf):=by
 refine CD hS (by kernel_rfl) fun args v h=> ?_;unfold Hf at h;split at h
 .rename_i a0 a1;split at h
  .rename_i L0 g0 n0 L1 g1 n1 e0 e1;simp only [Ab,Aa,Ad] at h;obtain ⟨rfl,ho0,ho1,hw⟩:=h;obtain ⟨N,hN⟩:=w4j L0 L1 hw;exact ⟨_,_,(.cons (Xb e0 ho0) (.cons (Xb e1 ho1) .nil)),rfl,VN L0 L1 N _ hN,3,rfl⟩
  .cases h
 .cases h
def Hg :List BA->Option (BA×Bool)
 | [a0,a1]=>match B2 R6 a0,B2 R6 a1 with
  | some (L0,g0,n0),some (L1,g1,n1)=>some (.bool (Jd L0 L1),BT R6 n0 g0&&(BT R6 n1 g1&&(Vz L0 L1)))
  | _,_=>none
 | _=>none
theorem WF {S:BC} (hS:Zu prog S):Zu prog (S.with Ra Hg):=by
 refine CD hS (by kernel_rfl) fun args v h=> ?_;unfold Hg at h;split at h
 .rename_i a0 a1;split at h
  .rename_i L0 g0 n0 L1 g1 n1 e0 e1;simp only [Ab,Aa,Ad] at h;obtain ⟨rfl,ho0,ho1,hw⟩:=h;obtain ⟨N,hN⟩:=w4l L0 L1 hw;exact ⟨_,_,(.cons (Xb e0 ho0) (.cons (Xb e1 ho1) .nil)),rfl,VL L0 L1 N _ hN,3,rfl⟩
  .cases h
 .cases h
def NO :List BA->Option (BA×Bool)
 | [a0,.int .i64 x1,.int .i64 x2]=>match B2 R4 a0 with
  | some (L0,g0,n0)=>some (.bool (Uf L0 x1 x2),BT R4 n0 g0&&(Um L0 x1 x2))
  | _=>none
 | _=>none
theorem w0s {S:BC} (hS:Zu prog S):Zu prog (S.with FV NO):=by
 refine CD hS (by kernel_rfl) fun args v h=> ?_;unfold NO at h;split at h
 .rename_i a0 x1 x2;split at h
  .rename_i L0 g0 n0 e0;simp only [Ab,Aa,Ad] at h;obtain ⟨rfl,ho0,hw⟩:=h;obtain ⟨N,hN⟩:=VG L0 x1 x2 hw;exact ⟨_,_,(.cons (Xb e0 ho0) (.cons (.refl _) (.cons (.refl _) .nil))),rfl,W3 L0 x1 x2 N _ hN,3,rfl⟩
  .cases h
 .cases h
def Np :List BA->Option (BA×Bool)
 | [a0,.int .i64 x1]=>match B2 R6 a0 with
  | some (L0,g0,n0)=>some (.dat (BM L0 x1).length (Zz (BM L0 x1)),BT R6 n0 g0&&(Hq L0 x1))
  | _=>none
 | _=>none
theorem HU {S:BC} (hS:Zu prog S):Zu prog (S.with SM Np):=by
 refine CD hS (by kernel_rfl) fun args v h=> ?_;unfold Np at h;split at h
 .rename_i a0 x1;split at h
  .rename_i L0 g0 n0 e0;simp only [Ab,Aa,Ad] at h;obtain ⟨rfl,ho0,hw⟩:=h;obtain ⟨N,hN⟩:=w5d L0 x1 hw;exact ⟨_,_,(.cons (Xb e0 ho0) (.cons (.refl _) .nil)),rfl,Ul L0 x1 N _ hN,3,rfl⟩
  .cases h
 .cases h
def Ms :List BA->Option (BA×Bool)
 | [.int .i64 x0,.bool b1,.bool b2]=>some (.bool (Js x0 b1 b2),true)
 | _=>none
theorem WC {S:BC} (hS:Zu prog S):Zu prog (S.with R1 Ms):=by
 refine CD hS (by kernel_rfl) fun args v h=> ?_;unfold Ms at h;split at h
 .rename_i x0 b1 b2;simp only [Ab,Aa,and_true] at h;subst h;obtain ⟨N,hN⟩:=Z3 x0 b1 b2;exact ⟨_,_,(.cons (.refl _) (.cons (.refl _) (.cons (.refl _) .nil))),rfl,w0l x0 b1 b2 N _ hN,3,rfl⟩
 .cases h
def HP :List BA->Option (BA×Bool)
 | [.bool b0,.bool b1]=>some (.bool (Cn b0 b1),true)
 | _=>none
theorem ZQ {S:BC} (hS:Zu prog S):Zu prog (S.with JI HP):=by
 refine CD hS (by kernel_rfl) fun args v h=> ?_;unfold HP at h;split at h
 .rename_i b0 b1;simp only [Ab,Aa,and_true] at h;subst h;obtain ⟨N,hN⟩:=Z2 b0 b1;exact ⟨_,_,(.cons (.refl _) (.cons (.refl _) .nil)),rfl,w0m b0 b1 N _ hN,3,rfl⟩
 .cases h
theorem X1 {S:BC} (hS:Zu prog S):Zu prog (S.with JL IE):=by
 refine CD hS (by kernel_rfl) fun args v h=> ?_;unfold IE at h;split at h
 .rename_i a0 a1;split at h
  .rename_i L0 g0 n0 L1 g1 n1 e0 e1;simp only [Ab,Aa,Ad] at h;obtain ⟨rfl,ho0,ho1,hw⟩:=h;obtain ⟨N,hN⟩:=ZK L0 L1 hw;exact ⟨_,_,(.cons (Xb e0 ho0) (.cons (Xb e1 ho1) .nil)),rfl,w0y L0 L1 N _ hN,3,rfl⟩
  .cases h
 .cases h
theorem X2 {S:BC} (hS:Zu prog S):Zu prog (S.with JK Hf):=by
 refine CD hS (by kernel_rfl) fun args v h=> ?_;unfold Hf at h;split at h
 .rename_i a0 a1;split at h
  .rename_i L0 g0 n0 L1 g1 n1 e0 e1;simp only [Ab,Aa,Ad] at h;obtain ⟨rfl,ho0,ho1,hw⟩:=h;obtain ⟨N,hN⟩:=ZL L0 L1 hw;exact ⟨_,_,(.cons (Xb e0 ho0) (.cons (Xb e1 ho1) .nil)),rfl,w0x L0 L1 N _ hN,3,rfl⟩
  .cases h
 .cases h
theorem X3 {S:BC} (hS:Zu prog S):Zu prog (S.with JJ Hg):=by
 refine CD hS (by kernel_rfl) fun args v h=> ?_;unfold Hg at h;split at h
 .rename_i a0 a1;split at h
  .rename_i L0 g0 n0 L1 g1 n1 e0 e1;simp only [Ab,Aa,Ad] at h;obtain ⟨rfl,ho0,ho1,hw⟩:=h;obtain ⟨N,hN⟩:=ZM L0 L1 hw;exact ⟨_,_,(.cons (Xb e0 ho0) (.cons (Xb e1 ho1) .nil)),rfl,w0w L0 L1 N _ hN,3,rfl⟩
  .cases h
 .cases h
def T1 :BC:=((((((((((((CU.with Q9 HD).with R0 HS).with R8 IE).with R9 Hf).with Ra Hg).with FV NO).with SM Np).with R1 Ms).with JI HP).with JL IE).with JK Hf).with JJ Hg)
theorem Qy :Zu prog T1:=X3 (X2 (X1 (ZQ (WC (HU (w0s (WF (WE (WD (ZO (ZX Zv)))))))))))
inductive EC where
 | h0 (v5:List Int) (v6:Int)
 | h1 (v5:List Int) (v7:Int)
def G9 (l0:List R4) (l1:List R4):EC->BJ
 | .h0 v5 v6=>⟨⟨48,0,true⟩,none,(Zk prog 181 [1,1,0,1,0,0] 0),none,(Zy prog 3),⟨Xd [(0,(.dat l0.length (Zz l0))),(1,(.dat l1.length (Zz l1))),(5,(.sla 0 1 0 v5.length (.un 1))),(6,(ii v6))],Kf [⟨rows v5.length (Zz v5),3,some ⟨1,v5.length,(Zz v5)⟩⟩] 0,1,[],true⟩,[],.leaf⟩
 | .h1 v5 v7=>⟨⟨48,0,true⟩,none,(Zk prog 181 [1,1,1,0,1,0,0] 0),none,(Zy prog 3),⟨Xd [(1,(.dat l1.length (Zz l1))),(5,(.sla 0 1 0 v5.length (.un 1))),(7,(ii v7))],Kf [⟨rows v5.length (Zz v5),3,some ⟨1,v5.length,(Zz v5)⟩⟩] 0,1,[],true⟩,[],.leaf⟩
def FC :List (Option (List Nat)):=[some [0,1,5,6]]
def FE :List (Option (List Nat)):=[]
def FB :List (Option (List Nat)):=[some [1,5,7]]
def FD :List (Option (List Nat)):=[]
def Kq (l0:List R4) (l1:List R4):EC->Wn EC
 | .h0 v5 v6=>(bif (decide (v6<(l0.length:Int))) then (bif ((decide (0<=v6/\v6<(l0.length:Int)))&&true) then (bif (Nat.beq 1 1&&((decide (0+v5.length=v5.length))&&decide ((v5.length+2+1)*(8+1)<=Kx))) then (.to (.h0 (v5++[(rd l0 v6.toNat).a,(rd l0 v6.toNat).c]) (wrap .i64 (v6+1)))) else .stuck) else .stuck) else (.to (.h1 v5 0)))
 | .h1 v5 v7=>(bif (decide (v7<(l1.length:Int))) then (bif ((decide (0<=v7/\v7<(l1.length:Int)))&&true) then (bif (Nat.beq 1 1&&((decide (0+v5.length=v5.length))&&decide ((v5.length+2+1)*(8+1)<=Kx))) then (.to (.h1 (v5++[(rd l1 v7.toNat).a,(rd l1 v7.toNat).c]) (wrap .i64 (v7+1)))) else .stuck) else .stuck) else (bif (Vs (BB v5)) then (.ret [(.dat (BZ (BB v5)).length (Zz (BZ (BB v5))))]) else .stuck))
def KF (l0:List R4) (l1:List R4):Wn EC:=(.to (.h0 ([]:List Int) 0))
theorem YT (l0:List R4) (l1:List R4): ∀s,Wi prog (Zy prog 181) (G9 l0 l1) (G9 l0 l1 s) (Kq l0 l1 s)
 | .h0 v5 v6=>(lb (fun k0=>(lo fun o0=>(lo fun o1=>let e:=rd l0 (tn v6);let b:=v5++[e.a,e.c];let d:=xL (v5.length+2) (v5++[(rd l0 (tn v6)).a,(rd l0 (tn v6)).c]).length;(sl Qy 20 [] ⟨[2],[],FC,FE⟩ ⟨[(5,.len b.length)],[.rowed 1 b.length (Zz b)],[]⟩ [true] (pp d (pp d (pp (xS (v5.length+2) (Zn (Zz v5) 0 v5.length 1 [(ii (rd l0 (tn v6)).a),(ii (rd l0 (tn v6)).c)]) (Zz (v5++[(rd l0 (tn v6)).a,(rd l0 (tn v6)).c]))) (pp (pp (xF (Zn (Zz v5) 0 v5.length 1 [(ii (rd l0 (tn v6)).a),(ii (rd l0 (tn v6)).c)])) nn) (ww o1 (ww o0 (ww o0 (tt k0 nn)))))))))))) (fun k0=>(sl Qy 17 [] ⟨[0],[],FB,FD⟩ a6 [false] (pp (fl v5 nn) (tt k0 nn)))))
 | .h1 v5 v7=>(lb (fun k0=>(lo fun o0=>(lo fun o1=>let e:=rd l1 (tn v7);let b:=v5++[e.a,e.c];let d:=xL (v5.length+2) (v5++[(rd l1 (tn v7)).a,(rd l1 (tn v7)).c]).length;(sl Qy 20 [] ⟨[2],[],FB,FD⟩ ⟨[(5,.len b.length)],[.rowed 1 b.length (Zz b)],[]⟩ [true] (pp d (pp d (pp (xS (v5.length+2) (Zn (Zz v5) 0 v5.length 1 [(ii (rd l1 (tn v7)).a),(ii (rd l1 (tn v7)).c)]) (Zz (v5++[(rd l1 (tn v7)).a,(rd l1 (tn v7)).c]))) (pp (pp (xF (Zn (Zz v5) 0 v5.length 1 [(ii (rd l1 (tn v7)).a),(ii (rd l1 (tn v7)).c)])) nn) (ww o1 (ww o0 (ww o0 (tt k0 nn)))))))))))) (fun k0=>(Jo (sl Qy (C':=⟨⟨48,0,true⟩,(Xv prog 181 [1,1,1,1,0] 1),(Zk prog 181 [1,1,1,1,0] 1),none,(Zy prog 3),⟨Xd [(46,(.dat v5.length (Zz v5)))],Kf [] 0,0,[],true⟩,[],.leaf⟩) 13 [] ⟨[],[0],[some [46]],[]⟩ ⟨[(46,.frz v5.length v5.length (Zz v5) (Zz v5))],[],[]⟩ [false] (pp (xZ (C7 1 1 0 v5.length v5.length (Zz v5)) v5.length (Zz v5)) (pp (xL v5.length v5.length) (pp (xS v5.length (Zz v5) (Zz v5)) (pp (fl v5 nn) (tt k0 nn)))))) (lo fun o0=>let f:=BZ (BB v5);(lr 48 3 [1,1,1,1,1,1,0] 1 3 [(4,(.dat f.length (Zz f)))] (sl Qy 3 [] (a7 [4]) a6 [] (pp (pp (xr v5) (xw o0)) nn)))))))
theorem Tg (l0:List R4) (l1:List R4):Wi prog (Zy prog 181) (G9 l0 l1) (startC prog 181 [(.dat l0.length (Zz l0)),(.dat l1.length (Zz l1))] true []) (KF l0 l1):=(sl Qy 15 [(3,1,Zz ([]:List Int))] ⟨[0],[],FC,FE⟩ ⟨[(5,.grow 0 1)],[],[]⟩ [] (pp (fl ([]:List Int) nn) nn))
theorem VO (l0:List R4) (l1:List R4) (n:Nat) (vs:List BA) (h:Yr (Kq l0 l1) n (KF l0 l1)=.ret vs):BV prog (Zy prog 181) (startC prog 181 [(.dat l0.length (Zz l0)),(.dat l1.length (Zz l1))] true []) vs:=by have:=Yy (YT l0 l1) n _ (Tg l0 l1);rwa [h] at this
inductive EB where
 | h0 (v5:List Int) (v6:Int)
 | h1 (v5:List Int) (v7:Int)
def G8 (l0:List R4) (l1:List R4):EB->BJ
 | .h0 v5 v6=>⟨⟨48,0,true⟩,none,(Zk prog 182 [1,1,0,1,0,0] 0),none,(Zy prog 3),⟨Xd [(0,(.dat l0.length (Zz l0))),(1,(.dat l1.length (Zz l1))),(5,(.sla 0 1 0 v5.length (.un 1))),(6,(ii v6))],Kf [⟨rows v5.length (Zz v5),3,some ⟨1,v5.length,(Zz v5)⟩⟩] 0,1,[],true⟩,[],.leaf⟩
 | .h1 v5 v7=>⟨⟨48,0,true⟩,none,(Zk prog 182 [1,1,1,0,1,0,0] 0),none,(Zy prog 3),⟨Xd [(1,(.dat l1.length (Zz l1))),(5,(.sla 0 1 0 v5.length (.un 1))),(7,(ii v7))],Kf [⟨rows v5.length (Zz v5),3,some ⟨1,v5.length,(Zz v5)⟩⟩] 0,1,[],true⟩,[],.leaf⟩
def Ey :List (Option (List Nat)):=[some [0,1,5,6]]
def FA :List (Option (List Nat)):=[]
def Ex :List (Option (List Nat)):=[some [1,5,7]]
def Ez :List (Option (List Nat)):=[]
def Kk (l0:List R4) (l1:List R4):EB->Wn EB
 | .h0 v5 v6=>(bif (decide (v6<(l0.length:Int))) then (bif ((decide (0<=v6/\v6<(l0.length:Int)))&&true) then (bif (Nat.beq 1 1&&((decide (0+v5.length=v5.length))&&decide ((v5.length+2+1)*(8+1)<=Kx))) then (.to (.h0 (v5++[(rd l0 v6.toNat).b,(rd l0 v6.toNat).d]) (wrap .i64 (v6+1)))) else .stuck) else .stuck) else (.to (.h1 v5 0)))
 | .h1 v5 v7=>(bif (decide (v7<(l1.length:Int))) then (bif ((decide (0<=v7/\v7<(l1.length:Int)))&&true) then (bif (Nat.beq 1 1&&((decide (0+v5.length=v5.length))&&decide ((v5.length+2+1)*(8+1)<=Kx))) then (.to (.h1 (v5++[(rd l1 v7.toNat).b,(rd l1 v7.toNat).d]) (wrap .i64 (v7+1)))) else .stuck) else .stuck) else (bif (Vs (BB v5)) then (.ret [(.dat (BZ (BB v5)).length (Zz (BZ (BB v5))))]) else .stuck))
def KG (l0:List R4) (l1:List R4):Wn EB:=(.to (.h0 ([]:List Int) 0))
theorem YU (l0:List R4) (l1:List R4): ∀s,Wi prog (Zy prog 182) (G8 l0 l1) (G8 l0 l1 s) (Kk l0 l1 s)
 | .h0 v5 v6=>(lb (fun k0=>(lo fun o0=>(lo fun o1=>let e:=rd l0 (tn v6);let a:=v5++[e.b,e.d];let c:=xL (v5.length+2) (v5++[(rd l0 (tn v6)).b,(rd l0 (tn v6)).d]).length;(sl Qy 20 [] ⟨[2],[],Ey,FA⟩ ⟨[(5,.len a.length)],[.rowed 1 a.length (Zz a)],[]⟩ [true] (pp c (pp c (pp (xS (v5.length+2) (Zn (Zz v5) 0 v5.length 1 [(ii (rd l0 (tn v6)).b),(ii (rd l0 (tn v6)).d)]) (Zz (v5++[(rd l0 (tn v6)).b,(rd l0 (tn v6)).d]))) (pp (pp (xF (Zn (Zz v5) 0 v5.length 1 [(ii (rd l0 (tn v6)).b),(ii (rd l0 (tn v6)).d)])) nn) (ww o1 (ww o0 (ww o0 (tt k0 nn)))))))))))) (fun k0=>(sl Qy 17 [] ⟨[0],[],Ex,Ez⟩ a6 [false] (pp (fl v5 nn) (tt k0 nn)))))
 | .h1 v5 v7=>(lb (fun k0=>(lo fun o0=>(lo fun o1=>let e:=rd l1 (tn v7);let a:=v5++[e.b,e.d];let c:=xL (v5.length+2) (v5++[(rd l1 (tn v7)).b,(rd l1 (tn v7)).d]).length;(sl Qy 20 [] ⟨[2],[],Ex,Ez⟩ ⟨[(5,.len a.length)],[.rowed 1 a.length (Zz a)],[]⟩ [true] (pp c (pp c (pp (xS (v5.length+2) (Zn (Zz v5) 0 v5.length 1 [(ii (rd l1 (tn v7)).b),(ii (rd l1 (tn v7)).d)]) (Zz (v5++[(rd l1 (tn v7)).b,(rd l1 (tn v7)).d]))) (pp (pp (xF (Zn (Zz v5) 0 v5.length 1 [(ii (rd l1 (tn v7)).b),(ii (rd l1 (tn v7)).d)])) nn) (ww o1 (ww o0 (ww o0 (tt k0 nn)))))))))))) (fun k0=>(Jo (sl Qy (C':=⟨⟨48,0,true⟩,(Xv prog 182 [1,1,1,1,0] 1),(Zk prog 182 [1,1,1,1,0] 1),none,(Zy prog 3),⟨Xd [(46,(.dat v5.length (Zz v5)))],Kf [] 0,0,[],true⟩,[],.leaf⟩) 13 [] ⟨[],[0],[some [46]],[]⟩ ⟨[(46,.frz v5.length v5.length (Zz v5) (Zz v5))],[],[]⟩ [false] (pp (xZ (C7 1 1 0 v5.length v5.length (Zz v5)) v5.length (Zz v5)) (pp (xL v5.length v5.length) (pp (xS v5.length (Zz v5) (Zz v5)) (pp (fl v5 nn) (tt k0 nn)))))) (lo fun o0=>let f:=BZ (BB v5);(lr 48 3 [1,1,1,1,1,1,0] 1 3 [(4,(.dat f.length (Zz f)))] (sl Qy 3 [] (a7 [4]) a6 [] (pp (pp (xr v5) (xw o0)) nn)))))))
theorem Th (l0:List R4) (l1:List R4):Wi prog (Zy prog 182) (G8 l0 l1) (startC prog 182 [(.dat l0.length (Zz l0)),(.dat l1.length (Zz l1))] true []) (KG l0 l1):=(sl Qy 15 [(3,1,Zz ([]:List Int))] ⟨[0],[],Ey,FA⟩ ⟨[(5,.grow 0 1)],[],[]⟩ [] (pp (fl ([]:List Int) nn) nn))
theorem VQ (l0:List R4) (l1:List R4) (n:Nat) (vs:List BA) (h:Yr (Kk l0 l1) n (KG l0 l1)=.ret vs):BV prog (Zy prog 182) (startC prog 182 [(.dat l0.length (Zz l0)),(.dat l1.length (Zz l1))] true []) vs:=by have:=Yy (YU l0 l1) n _ (Th l0 l1);rwa [h] at this
inductive Cv where
 | h0 (v5:List Int) (v6:Int)
 | h1 (v5:List Int) (v7:Int)
def NX (l0:List R6) (l1:List R6):Cv->BJ
 | .h0 v5 v6=>⟨⟨52,0,true⟩,none,(Zk prog 148 [1,1,0,1,0,0] 0),none,(Zy prog 3),⟨Xd [(0,(.dat l0.length (Zz l0))),(1,(.dat l1.length (Zz l1))),(5,(.sla 0 1 0 v5.length (.un 1))),(6,(ii v6))],Kf [⟨rows v5.length (Zz v5),3,some ⟨1,v5.length,(Zz v5)⟩⟩] 0,1,[],true⟩,[],.leaf⟩
 | .h1 v5 v7=>⟨⟨52,0,true⟩,none,(Zk prog 148 [1,1,1,0,1,0,0] 0),none,(Zy prog 3),⟨Xd [(1,(.dat l1.length (Zz l1))),(5,(.sla 0 1 0 v5.length (.un 1))),(7,(ii v7))],Kf [⟨rows v5.length (Zz v5),3,some ⟨1,v5.length,(Zz v5)⟩⟩] 0,1,[],true⟩,[],.leaf⟩
def Rh :List (Option (List Nat)):=[some [0,1,5,6]]
def Rf :List (Option (List Nat)):=[]
def Ri :List (Option (List Nat)):=[some [1,5,7]]
def Rg :List (Option (List Nat)):=[]
def Uv (l0:List R6) (l1:List R6):Cv->Wn Cv
 | .h0 v5 v6=>(bif (decide (v6<(l0.length:Int))) then (bif ((decide (0<=v6/\v6<(l0.length:Int)))&&true) then (bif (Nat.beq 1 1&&((decide (0+v5.length=v5.length))&&decide ((v5.length+2+1)*(8+1)<=Kx))) then (.to (.h0 (v5++[(rd l0 v6.toNat).c,(rd l0 v6.toNat).f]) (wrap .i64 (v6+1)))) else .stuck) else .stuck) else (.to (.h1 v5 0)))
 | .h1 v5 v7=>(bif (decide (v7<(l1.length:Int))) then (bif ((decide (0<=v7/\v7<(l1.length:Int)))&&true) then (bif (Nat.beq 1 1&&((decide (0+v5.length=v5.length))&&decide ((v5.length+2+1)*(8+1)<=Kx))) then (.to (.h1 (v5++[(rd l1 v7.toNat).c,(rd l1 v7.toNat).f]) (wrap .i64 (v7+1)))) else .stuck) else .stuck) else (bif (Vs (BB v5)) then (.ret [(.dat (BZ (BB v5)).length (Zz (BZ (BB v5))))]) else .stuck))
def KS (l0:List R6) (l1:List R6):Wn Cv:=(.to (.h0 ([]:List Int) 0))
theorem TV (l0:List R6) (l1:List R6): ∀s,Wi prog (Zy prog 148) (NX l0 l1) (NX l0 l1 s) (Uv l0 l1 s)
 | .h0 v5 v6=>(lb (fun k0=>(lo fun o0=>(lo fun o1=>let d:=rd l0 (tn v6);let a:=v5++[d.c,d.f];let b:=xL (v5.length+2) (v5++[(rd l0 (tn v6)).c,(rd l0 (tn v6)).f]).length;(sl Qy 20 [] ⟨[2],[],Rh,Rf⟩ ⟨[(5,.len a.length)],[.rowed 1 a.length (Zz a)],[]⟩ [true] (pp b (pp b (pp (xS (v5.length+2) (Zn (Zz v5) 0 v5.length 1 [(ii (rd l0 (tn v6)).c),(ii (rd l0 (tn v6)).f)]) (Zz (v5++[(rd l0 (tn v6)).c,(rd l0 (tn v6)).f]))) (pp (pp (xF (Zn (Zz v5) 0 v5.length 1 [(ii (rd l0 (tn v6)).c),(ii (rd l0 (tn v6)).f)])) nn) (ww o1 (ww o0 (ww o0 (tt k0 nn)))))))))))) (fun k0=>(sl Qy 17 [] ⟨[0],[],Ri,Rg⟩ a6 [false] (pp (fl v5 nn) (tt k0 nn)))))
 | .h1 v5 v7=>(lb (fun k0=>(lo fun o0=>(lo fun o1=>let d:=rd l1 (tn v7);let a:=v5++[d.c,d.f];let b:=xL (v5.length+2) (v5++[(rd l1 (tn v7)).c,(rd l1 (tn v7)).f]).length;(sl Qy 20 [] ⟨[2],[],Ri,Rg⟩ ⟨[(5,.len a.length)],[.rowed 1 a.length (Zz a)],[]⟩ [true] (pp b (pp b (pp (xS (v5.length+2) (Zn (Zz v5) 0 v5.length 1 [(ii (rd l1 (tn v7)).c),(ii (rd l1 (tn v7)).f)]) (Zz (v5++[(rd l1 (tn v7)).c,(rd l1 (tn v7)).f]))) (pp (pp (xF (Zn (Zz v5) 0 v5.length 1 [(ii (rd l1 (tn v7)).c),(ii (rd l1 (tn v7)).f)])) nn) (ww o1 (ww o0 (ww o0 (tt k0 nn)))))))))))) (fun k0=>(Jo (sl Qy (C':=⟨⟨52,0,true⟩,(Xv prog 148 [1,1,1,1,0] 1),(Zk prog 148 [1,1,1,1,0] 1),none,(Zy prog 3),⟨Xd [(50,(.dat v5.length (Zz v5)))],Kf [] 0,0,[],true⟩,[],.leaf⟩) 13 [] ⟨[],[0],[some [50]],[]⟩ ⟨[(50,.frz v5.length v5.length (Zz v5) (Zz v5))],[],[]⟩ [false] (pp (xZ (C7 1 1 0 v5.length v5.length (Zz v5)) v5.length (Zz v5)) (pp (xL v5.length v5.length) (pp (xS v5.length (Zz v5) (Zz v5)) (pp (fl v5 nn) (tt k0 nn)))))) (lo fun o0=>let e:=BZ (BB v5);(lr 52 3 [1,1,1,1,1,1,0] 1 3 [(4,(.dat e.length (Zz e)))] (sl Qy 3 [] (a7 [4]) a6 [] (pp (pp (xr v5) (xw o0)) nn)))))))
theorem UK (l0:List R6) (l1:List R6):Wi prog (Zy prog 148) (NX l0 l1) (startC prog 148 [(.dat l0.length (Zz l0)),(.dat l1.length (Zz l1))] true []) (KS l0 l1):=(sl Qy 15 [(3,1,Zz ([]:List Int))] ⟨[0],[],Rh,Rf⟩ ⟨[(5,.grow 0 1)],[],[]⟩ [] (pp (fl ([]:List Int) nn) nn))
theorem W1 (l0:List R6) (l1:List R6) (n:Nat) (vs:List BA) (h:Yr (Uv l0 l1) n (KS l0 l1)=.ret vs):BV prog (Zy prog 148) (startC prog 148 [(.dat l0.length (Zz l0)),(.dat l1.length (Zz l1))] true []) vs:=by have:=Yy (TV l0 l1) n _ (UK l0 l1);rwa [h] at this
def Qm (l:List R4):List Int:=l.flatMap fun r=>[r.a,r.c]
def Qq (l:List R4):List Int:=l.flatMap fun r=>[r.b,r.d]
def Qj (l:List R6):List Int:=l.flatMap fun r=>[r.c,r.f]
def BL (l m:List R4):List Int:=BZ (Qm l++Qm m)
def KL (l m:List R4):Bool:=decide (l.length<=10000/\m.length<=10000)
theorem Qp (l:List R4):(Qm l).length =2*l.length:=by
 induction l with
 | nil=>rfl
 | cons r l ih=>grind [Qm]
theorem Oh (l:List R4) (i:Nat) (h:i<l.length):Qm (l.drop i)=Qm [rd l i]++Qm (l.drop (i+1)):=by rw [Ys h];rfl
theorem Rv (l m:List R4) (hl:l.length<=10000) (hm:m.length<=10000): ∀(k i:Nat) (out:List Int),i+k=m.length->out.length=2*l.length+2*i-> ∃N,Yr (Kq l m) N (.to (.h1 out (i:Int)))=.ret [.dat (BZ (out++Qm (m.drop i))).length (Zz (BZ (out++Qm (m.drop i))))]
 | 0,i,out,h,ho=>by refine ⟨1,?_⟩;have hw:Vs out=true:=Aq (by omega);rw [Zj,Ay (show m.length<=i by omega),show Qm []=[] from rfl,AL];simp (disch:=omega) only [Kq,Xq,Yt,Yw,Xy,Xf,Yd,Yh,Yb,Yv,Za,Zr,Un,Uo,Ar,Zw,Zf,Zg,Ye,Zp,Aj,An,Ap,Ah,Ai,Ax,Aw,Zc,Zt,Ze,Wp,Yo,hw]
 | k+1,i,out,h,ho=>by obtain ⟨N,hN⟩:=Rv l m hl hm k (i+1) (out++Qm [rd m i]) (by omega) (by grind [Qp]);refine ⟨N+1,?_⟩;rw [Oh m i (by omega),<-AG,Zj];simp (disch:=omega) only [Kq,Xq,Yt,Yw,Xy,Xf,Yd,Yh,Yb,Yv,Za,Zr,Un,Uo,Ar,Zw,Zf,Zg,Ye,Zp,Aj,An,Ap,Ah,Ai,Ax,Aw,Zc,Zt,Ze,Wp,Yo];exact hN
theorem Ru (l m:List R4) (hl:l.length<=10000) (hm:m.length<=10000): ∀(k i:Nat) (out:List Int),i+k=l.length->out.length=2*i-> ∃N,Yr (Kq l m) N (.to (.h0 out (i:Int)))=.ret [.dat (BZ (out++Qm (l.drop i)++Qm m)).length (Zz (BZ (out++Qm (l.drop i)++Qm m)))]
 | 0,i,out,h,ho=>by obtain ⟨N,hN⟩:=Rv l m hl hm m.length 0 out (Aj _) (by omega);refine ⟨N+1,?_⟩;rw [Zj,Ay (show l.length<=i by omega),show Qm []=[] from rfl,AL];simp (disch:=omega) only [Kq,Xq,Yt,Yw,Xy,Xf,Yd,Yh,Yb,Yv,Za,Zr,Un,Uo,Ar,Zw,Zf,Zg,Ye,Zp,Aj,An,Ap,Ah,Ai,Ax,Aw,Zc,Zt,Ze,Wp,Yo];exact hN
 | k+1,i,out,h,ho=>by obtain ⟨N,hN⟩:=Ru l m hl hm k (i+1) (out++Qm [rd l i]) (by omega) (by grind [Qp]);refine ⟨N+1,?_⟩;rw [Oh l i (by omega),<-AG,Zj];simp (disch:=omega) only [Kq,Xq,Yt,Yw,Xy,Xf,Yd,Yh,Yb,Yv,Za,Zr,Un,Uo,Ar,Zw,Zf,Zg,Ye,Zp,Aj,An,Ap,Ah,Ai,Ax,Aw,Zc,Zt,Ze,Wp,Yo];exact hN
theorem w4i (l m:List R4) (h:KL l m=true): ∃N,Yr (Kq l m) N (KF l m)=.ret [.dat (BL l m).length (Zz (BL l m))]:=by
 obtain ⟨h1,h2⟩:=AA h;have:=Ru l m h1 h2 l.length 0 [] (Aj _) rfl
 simpa [KF,BL] using this
def BO (l m:List R4):List Int:=BZ (Qq l++Qq m)
def KM (l m:List R4):Bool:=decide (l.length<=10000/\m.length<=10000)
theorem Qk (l:List R4):(Qq l).length =2*l.length:=by
 induction l with
 | nil=>rfl
 | cons r l ih=>grind [Qq]
theorem Oi (l:List R4) (i:Nat) (h:i<l.length):Qq (l.drop i)=Qq [rd l i]++Qq (l.drop (i+1)):=by rw [Ys h];rfl
theorem Rx (l m:List R4) (hl:l.length<=10000) (hm:m.length<=10000): ∀(k i:Nat) (out:List Int),i+k=m.length->out.length=2*l.length+2*i-> ∃N,Yr (Kk l m) N (.to (.h1 out (i:Int)))=.ret [.dat (BZ (out++Qq (m.drop i))).length (Zz (BZ (out++Qq (m.drop i))))]
 | 0,i,out,h,ho=>by refine ⟨1,?_⟩;have hw:Vs out=true:=Aq (by omega);rw [Zj,Ay (show m.length<=i by omega),show Qq []=[] from rfl,AL];simp (disch:=omega) only [Kk,Xq,Yt,Yw,Xy,Xf,Yd,Yh,Yb,Yv,Za,Zr,Un,Uo,Ar,Zw,Zf,Zg,Ye,Zp,Aj,An,Ap,Ah,Ai,Ax,Aw,Zc,Zt,Ze,Wp,Yo,hw]
 | k+1,i,out,h,ho=>by obtain ⟨N,hN⟩:=Rx l m hl hm k (i+1) (out++Qq [rd m i]) (by omega) (by grind [Qk]);refine ⟨N+1,?_⟩;rw [Oi m i (by omega),<-AG,Zj];simp (disch:=omega) only [Kk,Xq,Yt,Yw,Xy,Xf,Yd,Yh,Yb,Yv,Za,Zr,Un,Uo,Ar,Zw,Zf,Zg,Ye,Zp,Aj,An,Ap,Ah,Ai,Ax,Aw,Zc,Zt,Ze,Wp,Yo];exact hN
theorem Rw (l m:List R4) (hl:l.length<=10000) (hm:m.length<=10000): ∀(k i:Nat) (out:List Int),i+k=l.length->out.length=2*i-> ∃N,Yr (Kk l m) N (.to (.h0 out (i:Int)))=.ret [.dat (BZ (out++Qq (l.drop i)++Qq m)).length (Zz (BZ (out++Qq (l.drop i)++Qq m)))]
 | 0,i,out,h,ho=>by obtain ⟨N,hN⟩:=Rx l m hl hm m.length 0 out (Aj _) (by omega);refine ⟨N+1,?_⟩;rw [Zj,Ay (show l.length<=i by omega),show Qq []=[] from rfl,AL];simp (disch:=omega) only [Kk,Xq,Yt,Yw,Xy,Xf,Yd,Yh,Yb,Yv,Za,Zr,Un,Uo,Ar,Zw,Zf,Zg,Ye,Zp,Aj,An,Ap,Ah,Ai,Ax,Aw,Zc,Zt,Ze,Wp,Yo];exact hN
 | k+1,i,out,h,ho=>by obtain ⟨N,hN⟩:=Rw l m hl hm k (i+1) (out++Qq [rd l i]) (by omega) (by grind [Qk]);refine ⟨N+1,?_⟩;rw [Oi l i (by omega),<-AG,Zj];simp (disch:=omega) only [Kk,Xq,Yt,Yw,Xy,Xf,Yd,Yh,Yb,Yv,Za,Zr,Un,Uo,Ar,Zw,Zf,Zg,Ye,Zp,Aj,An,Ap,Ah,Ai,Ax,Aw,Zc,Zt,Ze,Wp,Yo];exact hN
theorem w4h (l m:List R4) (h:KM l m=true): ∃N,Yr (Kk l m) N (KG l m)=.ret [.dat (BO l m).length (Zz (BO l m))]:=by
 obtain ⟨h1,h2⟩:=AA h;have:=Rw l m h1 h2 l.length 0 [] (Aj _) rfl
 simpa [KG,BO] using this
def Yu (l m:List R6):List Int:=BZ (Qj l++Qj m)
def KP (l m:List R6):Bool:=decide (l.length<=40000/\m.length<=40000)
theorem Qu (l:List R6):(Qj l).length =2*l.length:=by
 induction l with
 | nil=>rfl
 | cons r l ih=>grind [Qj]
theorem Ol (l:List R6) (i:Nat) (h:i<l.length):Qj (l.drop i)=Qj [rd l i]++Qj (l.drop (i+1)):=by rw [Ys h];rfl
theorem RC (l m:List R6) (hl:l.length<=40000) (hm:m.length<=40000): ∀(k i:Nat) (out:List Int),i+k=m.length->out.length=2*l.length+2*i-> ∃N,Yr (Uv l m) N (.to (.h1 out (i:Int)))=.ret [.dat (BZ (out++Qj (m.drop i))).length (Zz (BZ (out++Qj (m.drop i))))]
 | 0,i,out,h,ho=>by refine ⟨1,?_⟩;have hw:Vs out=true:=Aq (by omega);rw [Zj,Ay (show m.length<=i by omega),show Qj []=[] from rfl,AL];simp (disch:=omega) only [Uv,Xq,Yt,Yw,Xy,Xf,Yd,Yh,Yb,Yv,Za,Zr,Un,Uo,Ar,Zw,Zf,Zg,Ye,Zp,Aj,An,Ap,Ah,Ai,Ax,Aw,Zc,Zt,Ze,Wp,Yo,hw]
 | k+1,i,out,h,ho=>by obtain ⟨N,hN⟩:=RC l m hl hm k (i+1) (out++Qj [rd m i]) (by omega) (by grind [Qu]);refine ⟨N+1,?_⟩;rw [Ol m i (by omega),<-AG,Zj];simp (disch:=omega) only [Uv,Xq,Yt,Yw,Xy,Xf,Yd,Yh,Yb,Yv,Za,Zr,Un,Uo,Ar,Zw,Zf,Zg,Ye,Zp,Aj,An,Ap,Ah,Ai,Ax,Aw,Zc,Zt,Ze,Wp,Yo];exact hN
theorem RB (l m:List R6) (hl:l.length<=40000) (hm:m.length<=40000): ∀(k i:Nat) (out:List Int),i+k=l.length->out.length=2*i-> ∃N,Yr (Uv l m) N (.to (.h0 out (i:Int)))=.ret [.dat (BZ (out++Qj (l.drop i)++Qj m)).length (Zz (BZ (out++Qj (l.drop i)++Qj m)))]
 | 0,i,out,h,ho=>by obtain ⟨N,hN⟩:=RC l m hl hm m.length 0 out (Aj _) (by omega);refine ⟨N+1,?_⟩;rw [Zj,Ay (show l.length<=i by omega),show Qj []=[] from rfl,AL];simp (disch:=omega) only [Uv,Xq,Yt,Yw,Xy,Xf,Yd,Yh,Yb,Yv,Za,Zr,Un,Uo,Ar,Zw,Zf,Zg,Ye,Zp,Aj,An,Ap,Ah,Ai,Ax,Aw,Zc,Zt,Ze,Wp,Yo];exact hN
 | k+1,i,out,h,ho=>by obtain ⟨N,hN⟩:=RB l m hl hm k (i+1) (out++Qj [rd l i]) (by omega) (by grind [Qu]);refine ⟨N+1,?_⟩;rw [Ol l i (by omega),<-AG,Zj];simp (disch:=omega) only [Uv,Xq,Yt,Yw,Xy,Xf,Yd,Yh,Yb,Yv,Za,Zr,Un,Uo,Ar,Zw,Zf,Zg,Ye,Zp,Aj,An,Ap,Ah,Ai,Ax,Aw,Zc,Zt,Ze,Wp,Yo];exact hN
theorem VC (l m:List R6) (h:KP l m=true): ∃N,Yr (Uv l m) N (KS l m)=.ret [.dat (Yu l m).length (Zz (Yu l m))]:=by
 obtain ⟨h1,h2⟩:=AA h;have:=RB l m h1 h2 l.length 0 [] (Aj _) rfl
 simpa [KS,Yu] using this
def Nl :List BA->Option (BA×Bool)
 | [a0,a1]=>match B2 R4 a0,B2 R4 a1 with
  | some (L0,g0,n0),some (L1,g1,n1)=>some (.dat (BL L0 L1).length (Zz (BL L0 L1)),BT R4 n0 g0&&(BT R4 n1 g1&&(KL L0 L1)))
  | _,_=>none
 | _=>none
theorem HA {S:BC} (hS:Zu prog S):Zu prog (S.with SL Nl):=by
 refine CD hS (by kernel_rfl) fun args v h=> ?_;unfold Nl at h;split at h
 .rename_i a0 a1;split at h
  .rename_i L0 g0 n0 L1 g1 n1 e0 e1;simp only [Ab,Aa,Ad] at h;obtain ⟨rfl,ho0,ho1,hw⟩:=h;obtain ⟨N,hN⟩:=w4i L0 L1 hw;exact ⟨_,_,(.cons (Xb e0 ho0) (.cons (Xb e1 ho1) .nil)),rfl,VO L0 L1 N _ hN,3,rfl⟩
  .cases h
 .cases h
def Nk :List BA->Option (BA×Bool)
 | [a0,a1]=>match B2 R4 a0,B2 R4 a1 with
  | some (L0,g0,n0),some (L1,g1,n1)=>some (.dat (BO L0 L1).length (Zz (BO L0 L1)),BT R4 n0 g0&&(BT R4 n1 g1&&(KM L0 L1)))
  | _,_=>none
 | _=>none
theorem Gz {S:BC} (hS:Zu prog S):Zu prog (S.with SJ Nk):=by
 refine CD hS (by kernel_rfl) fun args v h=> ?_;unfold Nk at h;split at h
 .rename_i a0 a1;split at h
  .rename_i L0 g0 n0 L1 g1 n1 e0 e1;simp only [Ab,Aa,Ad] at h;obtain ⟨rfl,ho0,ho1,hw⟩:=h;obtain ⟨N,hN⟩:=w4h L0 L1 hw;exact ⟨_,_,(.cons (Xb e0 ho0) (.cons (Xb e1 ho1) .nil)),rfl,VQ L0 L1 N _ hN,3,rfl⟩
  .cases h
 .cases h
def NN :List BA->Option (BA×Bool)
 | [a0,a1]=>match B2 R6 a0,B2 R6 a1 with
  | some (L0,g0,n0),some (L1,g1,n1)=>some (.dat (Yu L0 L1).length (Zz (Yu L0 L1)),BT R6 n0 g0&&(BT R6 n1 g1&&(KP L0 L1)))
  | _,_=>none
 | _=>none
theorem w0t {S:BC} (hS:Zu prog S):Zu prog (S.with FW NN):=by
 refine CD hS (by kernel_rfl) fun args v h=> ?_;unfold NN at h;split at h
 .rename_i a0 a1;split at h
  .rename_i L0 g0 n0 L1 g1 n1 e0 e1;simp only [Ab,Aa,Ad] at h;obtain ⟨rfl,ho0,ho1,hw⟩:=h;obtain ⟨N,hN⟩:=VC L0 L1 hw;exact ⟨_,_,(.cons (Xb e0 ho0) (.cons (Xb e1 ho1) .nil)),rfl,W1 L0 L1 N _ hN,3,rfl⟩
  .cases h
 .cases h
def T2 :BC:=((T1.with SL Nl).with SJ Nk).with FW NN
theorem DA :Zu prog T2:=w0t (Gz (HA Qy))
inductive EH where
 | h0 (v9:List R4) (v10:List R2) (v11:Int) (v12:Int)
 | h1 (v9:List R4) (v10:List R2) (v11:Int) (v12:Int) (v13:List Bool) (v14:Int)
 | h2 (v9:List R4) (v10:List R2) (v11:Int) (v12:Int) (v15:List R2) (v17:Int)
 | h3 (v9:List R4) (v10:List R2) (v11:Int) (v12:Int) (v16:Int)
def Gf (x0:Int) (l1:List R4) (l2:List R4):EH->BJ
 | .h0 v9 v10 v11 v12=>⟨⟨121,0,true⟩,none,(Zk prog 149 [1,1,1,1,1,0,1,0,0] 0),none,(Zy prog 7),⟨Xd [(0,(ii x0)),(1,(.dat l1.length (Zz l1))),(2,(.dat l2.length (Zz l2))),(7,(.dat (BL (BB l1) (BB l2)).length (Zz (BL (BB l1) (BB l2))))),(8,(.dat (BO (BB l1) (BB l2)).length (Zz (BO (BB l1) (BB l2))))),(9,(.sla 0 4 0 v9.length (.un 4))),(10,(.dat v10.length (Zz v10))),(11,(ii v11)),(12,(ii v12))],Kf [⟨rows v9.length (Zz v9),168,some ⟨4,v9.length,(Zz v9)⟩⟩] 0,1,[],true⟩,[],.leaf⟩
 | .h1 v9 v10 v11 v12 v13 v14=>⟨⟨121,0,true⟩,none,(Zk prog 149 [1,1,1,1,1,0,1,0,0,1,0,0,1,0,1,0,0] 0),none,(Zy prog 7),⟨Xd [(0,(ii x0)),(1,(.dat l1.length (Zz l1))),(2,(.dat l2.length (Zz l2))),(7,(.dat (BL (BB l1) (BB l2)).length (Zz (BL (BB l1) (BB l2))))),(8,(.dat (BO (BB l1) (BB l2)).length (Zz (BO (BB l1) (BB l2))))),(9,(.sla 1 4 0 v9.length (.un 4))),(10,(.dat v10.length (Zz v10))),(11,(ii v11)),(12,(ii v12)),(13,(.sla 0 1 0 v13.length (.un 1))),(14,(ii v14))],Kf [⟨rows v13.length (Zz v13),4,some ⟨1,v13.length,(Zz v13)⟩⟩,⟨rows v9.length (Zz v9),168,some ⟨4,v9.length,(Zz v9)⟩⟩] 0,2,[],true⟩,[],.leaf⟩
 | .h2 v9 v10 v11 v12 v15 v17=>⟨⟨121,0,true⟩,none,(Zk prog 149 [1,1,1,1,1,0,1,0,0,1,0,0,1,1,1,1,1,1,0,0] 0),none,(Zy prog 7),⟨Xd [(0,(ii x0)),(1,(.dat l1.length (Zz l1))),(2,(.dat l2.length (Zz l2))),(7,(.dat (BL (BB l1) (BB l2)).length (Zz (BL (BB l1) (BB l2))))),(8,(.dat (BO (BB l1) (BB l2)).length (Zz (BO (BB l1) (BB l2))))),(9,(.sla 0 4 0 v9.length (.un 4))),(10,(.dat v10.length (Zz v10))),(11,(ii v11)),(12,(ii v12)),(15,(.dat v15.length (Zz v15))),(17,(ii v17))],Kf [⟨rows v9.length (Zz v9),168,some ⟨4,v9.length,(Zz v9)⟩⟩] 0,1,[],true⟩,[],.leaf⟩
 | .h3 v9 v10 v11 v12 v16=>⟨⟨121,0,true⟩,none,(Zk prog 149 [1,1,1,1,1,0,1,0,0,1,0,0,1,1,1,0,1,0,0,1,0,0] 0),none,(Zy prog 7),⟨Xd [(0,(ii x0)),(1,(.dat l1.length (Zz l1))),(2,(.dat l2.length (Zz l2))),(7,(.dat (BL (BB l1) (BB l2)).length (Zz (BL (BB l1) (BB l2))))),(8,(.dat (BO (BB l1) (BB l2)).length (Zz (BO (BB l1) (BB l2))))),(9,(.sla 0 4 0 v9.length (.un 4))),(10,(.dat v10.length (Zz v10))),(11,(ii v11)),(12,(ii v12)),(16,(ii v16))],Kf [⟨rows v9.length (Zz v9),168,some ⟨4,v9.length,(Zz v9)⟩⟩] 0,1,[],true⟩,[],.leaf⟩
def N1 :List (Option (List Nat)):=[some [0,1,2,7,8,9,10,11,12]]
def NZ :List (Option (List Nat)):=[]
def FO :List (Option (List Nat)):=[some [0,1,2,7,8,9,10,11,12,13,14]]
def FQ :List (Option (List Nat)):=[]
def N2 :List (Option (List Nat)):=[some [0,1,2,7,8,9,10,11,12,15,17]]
def N0 :List (Option (List Nat)):=[]
def FN :List (Option (List Nat)):=[some [0,1,2,7,8,9,10,11,12,16]]
def FP :List (Option (List Nat)):=[]
def Wz (x0:Int) (l1:List R4) (l2:List R4):EH->Wn EH
 | .h0 v9 v10 v11 v12=>(bif (decide ((wrap .i64 (v12+1))<(((BL (BB l1) (BB l2)).length :Nat):Int))) then (.to (.h1 v9 v10 v11 v12 ([]:List Bool) 0)) else (.ret [(.dat v9.length (Zz v9))]))
 | .h1 v9 v10 v11 v12 v13 v14=>(bif (decide (v14<(((BO (BB l1) (BB l2)).length :Nat):Int))) then (bif (Um (BB l1) (rd (BL (BB l1) (BB l2)) v12.toNat) (rd (BO (BB l1) (BB l2)) v14.toNat)) then (bif ((decide (0<=v12/\v12<(((BL (BB l1) (BB l2)).length :Nat):Int)))&&true) then (bif ((decide (0<=v14/\v14<(((BO (BB l1) (BB l2)).length :Nat):Int)))&&true) then (bif (Um (BB l2) (rd (BL (BB l1) (BB l2)) v12.toNat) (rd (BO (BB l1) (BB l2)) v14.toNat)) then (bif (Nat.beq 1 1&&((decide (0+v13.length=v13.length))&&decide ((v13.length+1+1)*(1+1)<=Kx))) then (.to (.h1 v9 v10 v11 v12 (v13++[(Js x0 (Uf (BB l1) (rd (BL (BB l1) (BB l2)) v12.toNat) (rd (BO (BB l1) (BB l2)) v14.toNat)) (Uf (BB l2) (rd (BL (BB l1) (BB l2)) v12.toNat) (rd (BO (BB l1) (BB l2)) v14.toNat)))]) (wrap .i64 (v14+1)))) else .stuck) else .stuck) else .stuck) else .stuck) else .stuck) else (bif (KO (BB (BO (BB l1) (BB l2))) (BB v13)) then (bif (decide (v12>0)) then (bif (Vx (BB (CL (BB (BO (BB l1) (BB l2))) (BB v13))) (BB v10)) then (bif (Jz (BB (CL (BB (BO (BB l1) (BB l2))) (BB v13))) (BB v10)) then (.to (.h3 v9 v10 v11 v12 v11)) else (.to (.h2 v9 (CL (BB (BO (BB l1) (BB l2))) (BB v13)) (v9.length:Int) v12 (CL (BB (BO (BB l1) (BB l2))) (BB v13)) 0))) else .stuck) else (.to (.h2 v9 (CL (BB (BO (BB l1) (BB l2))) (BB v13)) (v9.length:Int) v12 (CL (BB (BO (BB l1) (BB l2))) (BB v13)) 0))) else .stuck))
 | .h2 v9 v10 v11 v12 v15 v17=>(bif (decide (v17<(v15.length:Int))) then (bif ((decide (0<=v12/\v12<(((BL (BB l1) (BB l2)).length :Nat):Int)))&&true) then (bif ((decide (0<=(wrap .i64 (v12+1))/\(wrap .i64 (v12+1))<(((BL (BB l1) (BB l2)).length :Nat):Int)))&&true) then (bif ((decide (0<=v17/\v17<(v15.length:Int)))&&true) then (bif (Nat.beq 4 4&&((decide (0+v9.length=v9.length))&&decide ((v9.length+1+1)*(32+1)<=Kx))) then (.to (.h2 (v9++[(R4.mk (rd (BL (BB l1) (BB l2)) v12.toNat) (rd v15 v17.toNat).a (rd (BL (BB l1) (BB l2)) (Int.toNat (wrap .i64 (v12+1)))) (rd v15 v17.toNat).b)]) v10 v11 v12 v15 (wrap .i64 (v17+1)))) else .stuck) else .stuck) else .stuck) else .stuck) else (.to (.h0 v9 v10 v11 (wrap .i64 (v12+1)))))
 | .h3 v9 v10 v11 v12 v16=>(bif (decide (v16<(v9.length:Int))) then (bif ((decide (0<=(wrap .i64 (v12+1))/\(wrap .i64 (v12+1))<(((BL (BB l1) (BB l2)).length :Nat):Int)))&&true) then (bif ((decide (0<=v16/\v16<(v9.length:Int)))&&true) then (bif (decide ((0+v16.toNat)<v9.length)) then (.to (.h3 (v9.set (0+v16.toNat) (R4.mk (rd v9 (0+v16.toNat)).a (rd v9 (0+v16.toNat)).b (rd (BL (BB l1) (BB l2)) (Int.toNat (wrap .i64 (v12+1)))) (rd v9 (0+v16.toNat)).d)) v10 v11 v12 (wrap .i64 (v16+1)))) else .stuck) else .stuck) else .stuck) else (.to (.h0 v9 v10 v11 (wrap .i64 (v12+1)))))
def KC (x0:Int) (l1:List R4) (l2:List R4):Wn EH:=(bif (KL (BB l1) (BB l2)) then (bif (KM (BB l1) (BB l2)) then (.to (.h0 ([]:List R4) ([]:List R2) 0 0)) else .stuck) else .stuck)
theorem YN (x0:Int) (l1:List R4) (l2:List R4): ∀s,Wi prog (Zy prog 149) (Gf x0 l1 l2) (Gf x0 l1 l2 s) (Wz x0 l1 l2 s)
 | .h0 v9 v10 v11 v12=>(lb (fun k0=>(sl DA 24 [(4,1,Zz ([]:List Bool))] ⟨[1,0],[],FO,FQ⟩ ⟨[(13,.grow 0 1)],[],[]⟩ [true] (pp (fl ([]:List Bool) (fl v9 nn)) (tt k0 nn)))) (fun k0=>(lr 121 3 [1,1,1,1,1,1,0] 1 7 [(6,(.dat v9.length (Zz v9)))] (sl DA 16 [] ⟨[],[0],[some [6]],[]⟩ ⟨[(6,.frz v9.length v9.length (Zz v9) (Zz v9))],[],[]⟩ [false] (pp (xZ (C7 4 4 0 v9.length v9.length (Zz v9)) v9.length (Zz v9)) (pp (xL v9.length v9.length) (pp (xS v9.length (Zz v9) (Zz v9)) (pp (fl v9 nn) (tt k0 nn)))))))))
 | .h1 v9 v10 v11 v12 v13 v14=>let c:=BO (BB l1) (BB l2);let d:=BL (BB l1) (BB l2);(lb (fun k0=>(lo fun o0=>(lo fun o1=>(lo fun o2=>(lo fun o3=>(lo fun o4=>let g:=rd d (tn v12);let h:=rd c (tn v14);let a:=v13++[(Js x0 (Uf (BB l1) g h) (Uf (BB l2) g h))];let b:=xL (v13.length+1) (v13++[(Js x0 (Uf (BB l1) (rd (BL (BB l1) (BB l2)) (tn v12)) (rd (BO (BB l1) (BB l2)) (tn v14))) (Uf (BB l2) (rd (BL (BB l1) (BB l2)) (tn v12)) (rd (BO (BB l1) (BB l2)) (tn v14))))]).length;(sl DA 20 [] ⟨[3,1],[],FO,FQ⟩ ⟨[(13,.len a.length)],[.rowed 1 a.length (Zz a),.keep],[]⟩ [true] (pp b (pp b (pp (xS (v13.length+1) (Zn (Zz v13) 0 v13.length 1 [(.bool (Js x0 (Uf (BB l1) (rd (BL (BB l1) (BB l2)) (tn v12)) (rd (BO (BB l1) (BB l2)) (tn v14))) (Uf (BB l2) (rd (BL (BB l1) (BB l2)) (tn v12)) (rd (BO (BB l1) (BB l2)) (tn v14)))))]) (Zz (v13++[(Js x0 (Uf (BB l1) (rd (BL (BB l1) (BB l2)) (tn v12)) (rd (BO (BB l1) (BB l2)) (tn v14))) (Uf (BB l2) (rd (BL (BB l1) (BB l2)) (tn v12)) (rd (BO (BB l1) (BB l2)) (tn v14))))]))) (pp (pp (xF (Zn (Zz v13) 0 v13.length 1 [(.bool (Js x0 (Uf (BB l1) (rd (BL (BB l1) (BB l2)) (tn v12)) (rd (BO (BB l1) (BB l2)) (tn v14))) (Uf (BB l2) (rd (BL (BB l1) (BB l2)) (tn v12)) (rd (BO (BB l1) (BB l2)) (tn v14)))))])) (fl v9 nn)) (ww o4 (pp (pp (xr l2) (xw o3)) (ww o2 (ww o1 (pp (pp (xr l1) (xw o0)) (ww o2 (ww o1 (tt k0 nn))))))))))))))))))) (fun k0=>(Jo (sl DA (C':=⟨⟨121,0,true⟩,(Xv prog 149 [1,1,1,1,1,0,1,0,0,1,0,0,1,1,0] 2),(Zk prog 149 [1,1,1,1,1,0,1,0,0,1,0,0,1,1,0] 1),none,(Zy prog 7),⟨Xd [(0,(ii x0)),(1,(.dat l1.length (Zz l1))),(2,(.dat l2.length (Zz l2))),(7,(.dat d.length (Zz d))),(8,(.dat c.length (Zz c))),(9,(.sla 0 4 0 v9.length (.un 4))),(10,(.dat v10.length (Zz v10))),(11,(ii v11)),(12,(ii v12)),(62,(.dat c.length (Zz c))),(63,(.dat v13.length (Zz v13)))],Kf [⟨rows v9.length (Zz v9),168,some ⟨4,v9.length,(Zz v9)⟩⟩] 0,1,[],true⟩,[],.leaf⟩) 14 [] ⟨[1],[0],[some [0,1,2,7,8,9,10,11,12,62,63]],[]⟩ ⟨[(63,.frz v13.length v13.length (Zz v13) (Zz v13))],[],[]⟩ [false] (pp (xZ (C7 1 1 0 v13.length v13.length (Zz v13)) v13.length (Zz v13)) (pp (xL v13.length v13.length) (pp (xS v13.length (Zz v13) (Zz v13)) (pp (fl v9 nn) (pp (fl v13 nn) (tt k0 nn))))))) (lo fun aF=>let e:=pp (xr v13) (xw aF);(lb (fun k1=>(lo fun bS=>let f:=pp (xr v10) (xw bS);(lb (fun k2=>(sl DA 23 [] ⟨[0],[],FN,FP⟩ a6 (BQ 4 []) (pp (fl v9 nn) (tt k2 (pp (pp (xI R2 (CL (BB (BO (BB l1) (BB l2))) (BB v13)).length (Zz (CL (BB (BO (BB l1) (BB l2))) (BB v13)))) f) (tt k1 (pp (pp (xI Int (BO (BB l1) (BB l2)).length (Zz (BO (BB l1) (BB l2)))) e) nn))))))) (fun k2=>(sl DA 30 [] ⟨[0],[],N2,N0⟩ a6 (BQ 3 [false]) (pp (fl v9 nn) (tt k2 (pp (pp (xI R2 (CL (BB (BO (BB l1) (BB l2))) (BB v13)).length (Zz (CL (BB (BO (BB l1) (BB l2))) (BB v13)))) f) (tt k1 (pp (pp (xI Int (BO (BB l1) (BB l2)).length (Zz (BO (BB l1) (BB l2)))) e) nn)))))))))) (fun k1=>(sl DA 30 [] ⟨[0],[],N2,N0⟩ a6 (bl 4 0) (pp (fl v9 nn) (tt k1 (pp (pp (xI Int (BO (BB l1) (BB l2)).length (Zz (BO (BB l1) (BB l2)))) e) nn))))))))))
 | .h2 v9 v10 v11 v12 v15 v17=>(lb (fun k0=>(lo fun o0=>(lo fun o1=>(lo fun o2=>(lo fun o3=>let e:=BL (BB l1) (BB l2);let f:=rd v15 (tn v17);let c:=v9++[(R4.mk (rd e (tn v12)) f.a (rd e (tn (wr (v12+1)))) f.b)];let d:=xL (v9.length+1) (v9++[(R4.mk (rd (BL (BB l1) (BB l2)) (tn v12)) (rd v15 (tn v17)).a (rd (BL (BB l1) (BB l2)) (tn (wr (v12+1)))) (rd v15 (tn v17)).b)]).length;(sl DA 20 [] ⟨[2],[],N2,N0⟩ ⟨[(9,.len c.length)],[.rowed 4 c.length (Zz c)],[]⟩ [true] (pp d (pp d (pp (xS (v9.length+1) (Zn (Zz v9) 0 v9.length 4 [(ii (rd (BL (BB l1) (BB l2)) (tn v12))),(ii (rd v15 (tn v17)).a),(ii (rd (BL (BB l1) (BB l2)) (tn (wr (v12+1))))),(ii (rd v15 (tn v17)).b)]) (Zz (v9++[(R4.mk (rd (BL (BB l1) (BB l2)) (tn v12)) (rd v15 (tn v17)).a (rd (BL (BB l1) (BB l2)) (tn (wr (v12+1)))) (rd v15 (tn v17)).b)]))) (pp (pp (xF (Zn (Zz v9) 0 v9.length 4 [(ii (rd (BL (BB l1) (BB l2)) (tn v12))),(ii (rd v15 (tn v17)).a),(ii (rd (BL (BB l1) (BB l2)) (tn (wr (v12+1))))),(ii (rd v15 (tn v17)).b)])) nn) (ww o3 (ww o2 (ww o1 (ww o2 (ww o0 (tt k0 nn)))))))))))))))) (fun k0=>(sl DA 17 [] ⟨[0],[],N1,NZ⟩ a6 [false] (pp (fl v9 nn) (tt k0 nn)))))
 | .h3 v9 v10 v11 v12 v16=>(lb (fun k0=>(lo fun o0=>(lo fun o1=>(lo fun o2=>let f:=rd v9 (0+(tn v16));let c:=v9.set (0+(tn v16)) (R4.mk f.a f.b (rd (BL (BB l1) (BB l2)) (tn (wr (v12+1)))) f.d);let e:=xL v9.length (v9.set (0+(tn v16)) (R4.mk (rd v9 (0+(tn v16))).a (rd v9 (0+(tn v16))).b (rd (BL (BB l1) (BB l2)) (tn (wr (v12+1)))) (rd v9 (0+(tn v16))).d)).length;(sl DA 31 [] ⟨[0],[],FN,FP⟩ ⟨[(9,.len c.length)],[.rowed 4 c.length (Zz c)],[]⟩ [true] (pp e (pp e (pp (xS v9.length (Xa (Zz v9) (0+(tn v16)) 2 [(ii (rd (BL (BB l1) (BB l2)) (tn (wr (v12+1)))))]) (Zz (v9.set (0+(tn v16)) (R4.mk (rd v9 (0+(tn v16))).a (rd v9 (0+(tn v16))).b (rd (BL (BB l1) (BB l2)) (tn (wr (v12+1)))) (rd v9 (0+(tn v16))).d)))) (pp (pp (xF (Xa (Zz v9) (0+(tn v16)) 2 [(ii (rd (BL (BB l1) (BB l2)) (tn (wr (v12+1)))))])) nn) (ww o2 (ww o1 (ww o0 (tt k0 nn))))))))))))) (fun k0=>(sl DA 17 [] ⟨[0],[],N1,NZ⟩ a6 [false] (pp (fl v9 nn) (tt k0 nn)))))
theorem Ta (x0:Int) (l1:List R4) (l2:List R4):Wi prog (Zy prog 149) (Gf x0 l1 l2) (startC prog 149 [(.int .i64 x0),(.dat l1.length (Zz l1)),(.dat l2.length (Zz l2))] true []) (KC x0 l1 l2):=(lo fun o0=>(lo fun o1=>(sl DA 34 [(168,4,Zz ([]:List R4))] ⟨[0],[],N1,NZ⟩ ⟨[(9,.grow 0 4),(10,.list 0 (Zz ([]:List R2)))],[],[]⟩ [] (pp (fl ([]:List R4) nn) (pp (pp (xr l1) (pp (xr l2) (xw o1))) (pp (pp (xr l1) (pp (xr l2) (xw o0))) nn))))))
theorem VH (x0:Int) (l1:List R4) (l2:List R4) (n:Nat) (vs:List BA) (h:Yr (Wz x0 l1 l2) n (KC x0 l1 l2)=.ret vs):BV prog (Zy prog 149) (startC prog 149 [(.int .i64 x0),(.dat l1.length (Zz l1)),(.dat l2.length (Zz l2))] true []) vs:=by have:=Yy (YN x0 l1 l2) n _ (Ta x0 l1 l2);rwa [h] at this
theorem Jt : ∀(l out:List Int),(l.foldl Cb out).length <=out.length+l.length
 | [],out=>Ak _
 | x::l,out=>AE (Jt l (Cb out x)) (by have:=Oz out x;simp;omega)
theorem MP (l:List Int):(BZ l).length <=l.length:=by
 grind [Jt,BZ]
theorem Ov (cuts:List Int) (ins:List Bool): ∀(k i:Nat) (out:List R2),(Eg cuts ins k i out).length <=out.length+k
 | 0,_,out=>Ak _
 | k+1,i,out=>by
  unfold Eg;refine AE (Ov cuts ins k (i+1) _) ?_;cases rd ins i
  .simp only [Ai];omega
  .simp only [Ah];cases (decide (0<out.length)&&((rd out (out.length - 1)).b == rd cuts i)) <;> simp <;> omega
theorem Su (cuts:List Int) (ins:List Bool):(CL cuts ins).length <=cuts.length:=by
 grind [Ov,CL]
section
variable (kind:Int) (l m:List R4)
def GU (x:Int) (y:Int):Bool:=Js kind (Uf l x y) (Uf m x y)
def Di (x:Int):List R2:=CL (BO l m) ((BO l m).map (GU kind l m x))
def Df (out:List R4) (first:Nat) (x:Int):List R4:=out.take first++(out.drop first).map fun r=>⟨r.a,r.b,x,r.d⟩
def GY (x x':Int) (s:List R2):List R4:=s.map fun p=>⟨x,p.a,x',p.b⟩
def jF :Nat->Nat->List R4->List R2->Nat->List R4
 | 0,_,out,_,_=>out
 | k+1,i,out,last,first=>
  bif decide (0<i)&&Jz (Di kind l m (rd (BL l m) i)) last then jF k (i+1) (Df out first (rd (BL l m) (i+1))) last first
  else jF k (i+1) (out++GY (rd (BL l m) i) (rd (BL l m) (i+1)) (Di kind l m (rd (BL l m) i))) (Di kind l m (rd (BL l m) i)) out.length
def CB :List R4:=jF kind l m ((BL l m).length - 1) 0 [] [] 0
end
def Jk (_:Int) (l m:List R4):Bool:=decide (l.length<=10000/\m.length<=10000)
theorem Ve (l m:List R4):(BL l m).length <=2*l.length+2*m.length:=by
 refine AE (MP _) ?_
 grind [Qp]
theorem Ok (l m:List R4):(BO l m).length <=2*l.length+2*m.length:=by
 refine AE (MP _) ?_
 grind [Qk]
section
variable (kind:Int) (l m:List R4) (hl:l.length<=10000) (hm:m.length<=10000)
include hl hm
theorem Rl (out:List R4) (last:List R2) (first:Int) (i:Nat) (hi:i+1<(BL l m).length): ∀(k j:Nat) (acc:List Bool),j+k=(BO l m).length ->acc.length=j->
  ∃n,∀N,Yr (Wz kind l m) (N+n) (.to (.h1 out last first (i:Int) acc (j:Int)))=Yr (Wz kind l m) N (.to (.h1 out last first (i:Int) (acc++((BO l m).drop j).map (GU kind l m (rd (BL l m) i))) ((BO l m).length :Int)))
 | 0,j,acc,h,ha=>by
  refine ⟨0,fun N=> ?_⟩
  grind
 | k+1,j,acc,h,ha=>by
  have hx:=Ve l m;have hy:=Ok l m;obtain ⟨n,hn⟩:=Rl out last first i hi k (j+1) (acc++[GU kind l m (rd (BL l m) i) (rd (BO l m) j)]) (by omega) (by simp [ha])
  refine ⟨n+1,fun N=> ?_⟩;have w1: ∀x y,Um l x y=true:=fun x y=>Aq (by omega);have w2: ∀x y,Um m x y=true:=fun x y=>Aq (by omega);rw [Ys (show j<(BO l m).length by omega),AQ,<-AF,Zj];simp (disch:=omega) only [Wz,Zt,Ze,w1,w2,Yw,Yv,Yh,Yb,Zr,Za,Zw,Ye,Zp,Aj,Ar,An,Ap,Ah];have:=hn N;rw [AG] at this;exact this
theorem Rm (last:List R2) (first:Int) (i:Nat) (hi:i+1<(BL l m).length) (s:List R2) (hs:s.length<=1000000): ∀(k j:Nat) (out:List R4),j+k=s.length->out.length<=10000000000+j->
  ∃n,∀N,Yr (Wz kind l m) (N+n) (.to (.h2 out last first (i:Int) s (j:Int)))=Yr (Wz kind l m) N (.to (.h0 (out++GY (rd (BL l m) i) (rd (BL l m) (i+1)) (s.drop j)) last first ((i+1:Nat):Int)))
 | 0,j,out,h,ho=>by
  have hx:=Ve l m;refine ⟨1,fun N=> ?_⟩
  grind [Zj,Wz,Za,GY]
 | k+1,j,out,h,ho=>by
  have hx:=Ve l m;obtain ⟨n,hn⟩:=Rm last first i hi s hs k (j+1) (out++GY (rd (BL l m) i) (rd (BL l m) (i+1)) [rd s j]) (by omega) (by simp [GY];omega)
  refine ⟨n+1,fun N=> ?_⟩;have:=hn N;rw [Ys (show j<s.length by omega),<-AF,Zj];simp (disch:=omega) only [Wz,Zt,Ze,Yw,Yv,Yh,Yb,Zr,Za,Zw,Ye,Zp,Aj,Ar,An,Ap,Ah];rw [AG] at this;exact this
theorem w0v (out:List R4) (j:Nat) (x:Int) (h:j<out.length):Df (out.set j ⟨(rd out j).a,(rd out j).b,x,(rd out j).d⟩) (j+1) x=Df out j x:=by
 have _uhl:=hl;have _uhm:=hm;unfold Df;rw [Ys h,AQ];have e1:(out.set j ⟨(rd out j).a,(rd out j).b,x,(rd out j).d⟩).take (j+1)=out.take j++[⟨(rd out j).a,(rd out j).b,x,(rd out j).d⟩]:=by
  apply Bl;all_goals grind
 have e2:(out.set j ⟨(rd out j).a,(rd out j).b,x,(rd out j).d⟩).drop (j+1)=out.drop (j+1):=by rw [List.drop_set];grind
 grind
theorem Rn (last:List R2) (first:Int) (i:Nat) (hi:i+1<(BL l m).length): ∀(k j:Nat) (out:List R4),j+k=out.length->out.length<=10000000000->
  ∃n,∀N,Yr (Wz kind l m) (N+n) (.to (.h3 out last first (i:Int) (j:Int)))=Yr (Wz kind l m) N (.to (.h0 (Df out j (rd (BL l m) (i+1))) last first ((i+1:Nat):Int)))
 | 0,j,out,h,ho=>by
  have hx:=Ve l m;refine ⟨1,fun N=> ?_⟩;have e:Df out j (rd (BL l m) (i+1))=out:=by
   grind [Df]
  grind [Zj,Wz,Za]
 | k+1,j,out,h,ho=>by
  have hx:=Ve l m;obtain ⟨n,hn⟩:=Rn last first i hi k (j+1) (out.set j ⟨(rd out j).a,(rd out j).b,rd (BL l m) (i+1),(rd out j).d⟩) (by simp;omega) (by grind)
  refine ⟨n+1,fun N=> ?_⟩;have:=hn N;rw [w0v l m hl hm out j _ (by omega)] at this;rw [<-AF,Zj];simp (disch:=omega) only [Wz,Zt,Ze,Yw,Yv,Yd,Yh,Yb,Zr,Za,Zw,Ye,Zp,Aj,Ar,An,Ap,Ah];exact this
theorem Mz : ∀(k i:Nat) (out:List R4) (last:List R2) (first:Nat),k=(BL l m).length - 1 - i->i<=(BL l m).length ->out.length<=i*40000->last.length<=40000->first<=out.length->
  ∃n,Yr (Wz kind l m) n (.to (.h0 out last (first:Int) (i:Int)))=.ret [.dat (jF kind l m k i out last first).length (Zz (jF kind l m k i out last first))]
 | 0,i,out,last,first,h,hi,ho,hla,hf=>by
  have hx:=Ve l m;refine ⟨1,?_⟩
  grind [Zj,Wz,Zt,Za,Zc,jF]
 | k+1,i,out,last,first,h,hi,ho,hla,hf=>by
  have hx:=Ve l m;have hy:=Ok l m;have hi1:i+1<(BL l m).length :=by omega
  have hsl:(Di kind l m (rd (BL l m) i)).length <=40000:=AE (Su _ _) (by omega);have hbig:i*40000<=40000*40000:=Av _ (by omega);obtain ⟨n1,h1⟩:=Rl kind l m hl hm out last first i hi1 (BO l m).length 0 [] (Aj _) rfl
  simp only [AZ,Bg,Dq] at h1;have w3:KO (BO l m) ((BO l m).map (GU kind l m (rd (BL l m) i)))=true:=Aq ⟨by omega,by grind⟩;have w4:Vx (CL (BO l m) ((BO l m).map (GU kind l m (rd (BL l m) i)))) last=true:=Aq (AE hsl (by omega));have hy2:((BO l m).length :Int)=(((BO l m).length :Nat):Int):=rfl;unfold jF;rcases Wc (decide (0<i)&&Jz (Di kind l m (rd (BL l m) i)) last) with q | q
  .obtain ⟨n3,h3⟩:=Rn kind l m hl hm last first i hi1 (out.length - first) first out (by omega) (by omega)
   obtain ⟨n0,h0⟩:=Mz k (i+1) (Df out first (rd (BL l m) (i+1))) last first (by omega) (by omega) (by simp [Df];omega) hla (by simp [Df];omega)
   refine ⟨n0+n3+1+n1+1,?_⟩;rw [q,Ah,Zj];simp only [Ad,Au] at q;have q2:Jz (CL (BO l m) ((BO l m).map (GU kind l m (rd (BL l m) i)))) last=true:=q.2;simp (disch:=omega) only [Wz,Zt,Ze,Yw,Za,Zw,Ah];simp_all [Zj,Wz,Zt]
  .obtain ⟨n2,h2⟩:=Rm kind l m hl hm (Di kind l m (rd (BL l m) i)) (out.length:Int) i hi1 (Di kind l m (rd (BL l m) i)) (by omega) (Di kind l m (rd (BL l m) i)).length 0 out (Aj _) (by omega);obtain ⟨n0,h0⟩:=Mz k (i+1) (out++GY (rd (BL l m) i) (rd (BL l m) (i+1)) (Di kind l m (rd (BL l m) i))) (Di kind l m (rd (BL l m) i)) out.length (by omega) (by omega) (by simp [GY];omega) hsl (by simp);refine ⟨n0+n2+1+n1+1,?_⟩;rw [q,Ai,Zj];simp (disch:=omega) only [Wz,Zt,Ze,Yw,Za,Zw,Ah];have h1':=h1 (n0+n2+1);rw [h1',Zj];have h2':=h2 n0;simp only [AZ,Dq] at h2';by_cases hi0:0<i
   .rw [Aq hi0,Ap] at q;have q2:Jz (CL (BO l m) ((BO l m).map (GU kind l m (rd (BL l m) i)))) last=false:=q;simp (disch:=omega) only [Wz,Zt,Ze,Xy,Yt,q2,w3,w4,Ah,Ai];rw [<-h0];exact h2'
   .simp (disch:=omega) only [Wz,Zt,Ze,Xy,Xq,w3,w4,Ah,Ai];rw [<-h0];exact h2'
end
theorem w4r (kind:Int) (l m:List R4) (h:Jk kind l m=true): ∃N,Yr (Wz kind l m) N (KC kind l m)=.ret [.dat (CB kind l m).length (Zz (CB kind l m))]:=by obtain ⟨hl,hm⟩:=AA h;obtain ⟨N,hN⟩:=Mz kind l m hl hm ((BL l m).length - 1) 0 [] [] 0 rfl (AD _) (AD _) (AD _) (Ak _);refine ⟨N,?_⟩;have w1:KL l m=true:=Aq ⟨hl,hm⟩;have w2:KM l m=true:=Aq ⟨hl,hm⟩;simp only [KC,Zt,Ze,w1,w2,Ah];exact hN
theorem EW {P:Program} {S:BC} (hS:Zu P S) {f:FuncId} {F:List BA->Option (BA×Bool)} (hf:(P.funcs[f]?).any (fun fn=>fn.body.isSome)=true)
  (hF: ∀args v,F args=some (v,true)-> ∃bs vs,Xo CI args bs/\(∀(ρ:BD) (u:Value),Zb ρ (Ud vs) u->Zb ρ v u)/\BV P (Zy P f) (startC P f bs true []) vs/\ ∃d,pf d (Ud vs)=true):Zu P (S.with f F):=
 ZA hS hf fun args v h=>by obtain ⟨bs,vs,h1,h2,h3,d,h4⟩:=hF args v h;exact ⟨vs,h2,Px h1 h3,d,h4⟩
theorem Fq {cs cs':List BA} (h:B9 cs cs') (ρ:BD) (u:Value) (hv:Zb ρ (.tup cs) u):Zb ρ (.tup cs') u:=by
 cases hv with
 | tup _ vs hl hh=>exact .tup cs' vs (by rw [<-h.len];exact hl) fun i h1 h2=>h.sound i (by rw [h.len];exact h1) h1 (hh i (by rw [h.len];exact h1) h2)
theorem Fx (α:Type) [Yc α]:CI .nils (.dat ([]:List α).length (Zz ([]:List α))):=.nild _
def No :List BA->Option (BA×Bool)
 | [.int .i64 x0,a1,a2]=>match B2 R4 a1,B2 R4 a2 with
  | some (L1,g1,n1),some (L2,g2,n2)=>some (.dat (CB x0 L1 L2).length (Zz (CB x0 L1 L2)),BT R4 n1 g1&&(BT R4 n2 g2&&(Jk x0 L1 L2)))
  | _,_=>none
 | _=>none
theorem HN {S:BC} (hS:Zu prog S):Zu prog (S.with R5 No):=by
 refine CD hS (by kernel_rfl) fun args v h=> ?_;unfold No at h;split at h
 .rename_i x0 a1 a2;split at h
  .rename_i L1 g1 n1 L2 g2 n2 e1 e2;simp only [Ab,Aa,Ad] at h;obtain ⟨rfl,ho1,ho2,hw⟩:=h;obtain ⟨N,hN⟩:=w4r x0 L1 L2 hw;exact ⟨_,_,(.cons (.refl _) (.cons (Xb e1 ho1) (.cons (Xb e2 ho2) .nil))),rfl,VH x0 L1 L2 N _ hN,3,rfl⟩
  .cases h
 .cases h
def T3 :BC:=T2.with R5 No
theorem DB :Zu prog T3:=HN DA
def H4 (r:R3):Bool:=decide (-1000000000<=r.a/\r.a<=1000000000)
def C6 (l:List R3):Bool:=l.all H4
abbrev E3 :={r:R3 // H4 r=true}
instance : Inhabited E3:=⟨⟨⟨0,0,0⟩,rfl⟩⟩
def H2 (x y:E3):Int:=x.1.a - y.1.a
def EN (x y:E3):Bool:=decide (H2 x y<0)
theorem Iy :SWO EN where
 irrefl x:=by unfold EN H2;simp
 trans x y z h1 h2:=by unfold EN H2 at*;simp at*;omega
 ntrans x y z h1 h2:=by unfold EN H2 at*;simp at*;omega
def CV :(l:List R3)->C6 l=true->List E3
 | [],_=>[]
 | r::l,h=>⟨r,by simp [C6] at h;exact h.1⟩::CV l (by simp [C6] at h ⊢;exact h.2)
theorem J6 : ∀(l:List R3) (h:C6 l=true),(CV l h).map Subtype.val=l
 | [],_=>rfl
 | r::l,h=>by rw [CV,AQ,J6 l]
theorem Vi (l:List R3) (h:C6 l=true):(CV l h).length =l.length:=by
 have:=Al List.length (J6 l h)
 simpa using this
def CH (l:List R3):List R3:=if h:C6 l=true then (pdq EN (CV l h).toArray 0 l.length (Lib.bitLen l.length) true true).toList.map Subtype.val else l
theorem KY (l:List R3) (h:C6 l=true):(CH l).Perm l/\ ∀i j,i<j->j<(CH l).length ->(rd (CH l) i).a <=(rd (CH l) j).a :=by
 have hp:=pdq_sorts EN Iy (CV l h).toArray 0 l.length (Lib.bitLen l.length) true true (AD _) (by simp [Vi]) (Or.inl rfl);obtain ⟨⟨h1,h2,h3⟩,h4⟩:=hp;have e:CH l=(pdq EN (CV l h).toArray 0 l.length (Lib.bitLen l.length) true true).toList.map Subtype.val:=by unfold CH;rw [dif_pos h]
 generalize pdq EN (CV l h).toArray 0 l.length (Lib.bitLen l.length) true true=d at*;have hs:d.size=l.length:=by rw [h1];simp [Vi]
 constructor
 .rw [e];have x1:(d.extract 0 l.length).toList =d.toList:=by rw [<-hs];simp
  have x2:((CV l h).toArray.extract 0 l.length).toList =CV l h:=by rw [show l.length=(CV l h).toArray.size by simp [Vi]];simp
  rw [x1,x2] at h3;have:=h3.map Subtype.val;rw [J6] at this;exact this
 .intro i j hij hj;rw [e] at hj ⊢;have hj':j<d.size:=by simpa using hj
  have:=h4 i j (AD _) hij (by omega);rw [getElem!_pos d i (by omega),getElem!_pos d j hj'] at this;rw [Vm (by simp;omega),Vm hj];simp only [List.getElem_map,Array.getElem_toList];unfold EN H2 at this;have:=of_decide_eq_false this;omega
open Go.RowKit Go.Shelf
variable {P:Program} {ρ:BD}
def CS :BA->Value
 | .int k n=>.int k n
 | .bool b=>.bool b
 | _=>.tuple #[]
def GH :BA->Bool
 | .int _ _=>true
 | .bool _=>true
 | _=>false
theorem TP {α:Type} [Yc α] (L:List α) (n:Nat) (ty:TypeId) (a:Option CJ):(⟨Go.Am.rows n (Zz L),ty,a⟩:BE).isObj =false:=O7 (fun k v hv=>Az.1 (Yc.sc _) v hv) _ _
theorem XJ {a:BA} (h:GH a=true):Zb ρ a (CS a):=by
 cases a <;> first
  | exact .int _ _
  | exact .bool _
  | (simp [GH] at h;done)
theorem W2 {a:BA} {v:Value} (h:GH a=true) (hv:Zb ρ a v):v=CS a:=by
 cases hv <;> first
  | rfl
  | (simp [GH] at h;done)
class Ef (α:Type) extends Yc α where
 num: ∀a:α,(cells a).all GH=true
instance : Ef R2 where num _:=rfl
instance : Ef R3 where num _:=rfl
instance : Ef R4 where num _:=rfl
instance : Ef R6 where num _:=rfl
instance {α :Type} [Yc α]:Inhabited α:=⟨Yc.d⟩
section
variable {α:Type} [Ef α]
def DF (a:α):List Value:=(Yc.cells a).map CS
theorem Sz (a:α):(DF a).length =Yc.w α:=by rw [DF,List.length_map,Yc.len]
theorem P0 (L:List α) (t:Nat) (h:t<L.length*Yc.w α):(flatK DF (Yc.w α) L.toArray)[t]? =(Yc.cells (rd L (t / Yc.w α)))[t %Yc.w α]?.map CS:=by
 have hw:=Yc.pos (α:=α);have hq:t / Yc.w α<L.length:=AP (by grind);have hj:t %Yc.w α<Yc.w α:=A2 _ hw
 grind [flatK,DF,Vm,Yc.len]
theorem RI (L:List α) (N t:Nat) (h:t<N*Yc.w α):(rows N (Zz L))[t]? =(Yc.cells (rd L (t / Yc.w α)))[t %Yc.w α]? :=by have hw:=Yc.pos (α:=α);have:=Xc (get:=Zz L) (sz:=Yc.w α) N (fun _ _=>Yc.len _) (t / Yc.w α) (t %Yc.w α) (AP (by grind)) (A2 _ hw);rw [show t / Yc.w α*Yc.w α+t %Yc.w α=t by rw [Ba];exact A4 t _] at this;exact this
theorem KW (L:List α) (N:Nat):(rows N (Zz L)).length =N*Yc.w α:=Zh N fun _ _=>Yc.len _
theorem Ln (w:World) (n blk off:Nat) (d:Array Value) (os:Array Obj) (k:Nat) (hk:k<w.heap.size):
  (grow (putRow id (Go.Sort.ahead w n) blk off d) os).heap[k]? =if k=blk then (w.heap[k]?).map (onCells (putCells id off d)) else w.heap[k]? :=by
 show (((Go.Sort.ahead w n).heap.modify blk (onCells (putCells id off d)))++os)[k]? =_;rw [Array.getElem?_append_left (by simp_all),A5];show (if blk=k then _ else _)=_;by_cases h:k=blk
 .simp_all
 .rw [At (fun e=>h e.symm),At h];rfl
def K4 (α:Type) [Yc α] (srt:List α->List α) (bnd:List α->Bool) (g:FuncId) (args:List BA) (mem:BH):Option (BA×Nat×BE×Bool):=match args with
 | [.sla b sz off n cap,.fn f []]=>bif Nat.beq f g then match Zs mem b with
  | some ⟨_,ty,some A⟩=>some (.tup [],b,⟨rows A.n (Zz (srt (B8 α n A.get))),ty,some ⟨Yc.w α,A.n,Zz (srt (B8 α n A.get))⟩⟩,
    Nat.beq sz (Yc.w α)&&(Nat.beq A.sz (Yc.w α)&&(Nat.beq off 0&&((decide (n=A.n)&&(BT α n A.get&&decide (n<4611686018427387904)))&&bnd (B8 α n A.get)))))
  | _=>none
  else none
 | _=>none
theorem WA {f g:FuncId} {srt:List α->List α} {bnd:List α->Bool} (hsl: ∀L,(srt L).length =L.length)
  (hC: ∀(blk off cap:Nat) (L:List α) (w:World),bnd L=true->HoldsK DF (Yc.w α) w blk off L.toArray->blk<w.heap.size->L.length<4611686018427387904->
   Calls P f #[.slice (some ⟨blk,off,none⟩) L.length cap,.func (.func g) #[] #[]] w fun e w'=>e=.returned (.tuple #[])/\ ∃n os,w'=sortWorldK DF (Yc.w α) w blk off n (srt L).toArray os)
  (hN: ∀(p:Option Addr) (cap:Nat) (fv:Value) (w:World),Calls P f #[.slice p 0 cap,fv] w fun e w'=>e=.returned (.tuple #[])/\w'=w):Db P f (K4 α srt bnd g):=by
 intro args mem v b blk h dY ρ next floor vals w hfl cD cB
 have hw0:=Yc.pos (α:=α);unfold K4 at h;split at h
 .rename_i b0 sz off n cap f0;obtain ⟨hfg,h'⟩:=Vr h;clear h;obtain rfl:=Ae hfg;have h:=h';clear h';split at h
  .rename_i cells ty A hm;obtain ⟨asz,an,get⟩:=A;simp only [Ab,Aa,Ad] at h;obtain ⟨rfl,rfl,rfl,h1,h2,h3,⟨h4,h5,h6⟩,h7⟩:=h;have g1:=Ae h1;have g2:=Ae h2;have g3:=Ae h3;have g4:n=an:=AA h4;have h6:n<4611686018427387904:=AA h6;have g2:asz=Yc.w α:=g2;subst g1;subst g2;subst g3;subst g4;have h7:bnd (B8 α n get.get)=true:=h7;have cI:=P6 h5;have cI: ∀i,i<n->get.get i=Zz (B8 α n get.get) i:=cI;have hrows:rows n get.get=rows n (Zz (B8 α n get.get)):=MG n cI;obtain ⟨u,hu,dE⟩: ∃u,Zb ρ (.sla b0 (Yc.w α) 0 n cap) u/\vals= #[u,.func (.func f0) #[] #[]]:=by
    obtain ⟨vl⟩:=vals;cases cD with
    | cons q1 q2=>cases q2 with
     | cons q3 q4=>
      cases q4;cases q3 with
      | fn _ _ cvs hl _=>
       grind
   subst dE;have hlt:b0<next:=by
    rcases AS b0 next with q | q
    .exact q
    .have:=cB.bd b0 q;grind
   show Calls P f _ w _;have hAget:(CJ.get ⟨Yc.w α,n,get⟩)=get.get:=rfl;rw [hAget] at*;generalize hI:B8 α n get.get=I at*;have hIl:I.length=n:=by rw [<-hI];exact O6 _ _
   generalize hL:srt I=L;have hLl:L.length=n:=by grind
   have hnn:ρ b0=none-> ∀cs ty',Zs mem b0≠some ⟨cs,ty',none⟩:=fun _ cs ty' e=>by grind
   cases hu with
   | sla _ _ _ _ _ l cc e hc cC=>
    have hbk:=(cB.blk b0 l _ e hm).rows rfl;obtain ⟨har,_,_⟩:=hbk.arr _ rfl;have har:cells=rows n get.get:=har;rw [hrows] at har;subst har;obtain ⟨cur,el,hh,hsz,cG⟩:=hbk.cells;simp only [KW] at cG;have htot:=hbk.tot;have hln:=hbk.n;simp only [KW] at hln;have dD: ∀t,t<n*Yc.w α->cur[l.base+t]? =(Yc.cells (rd I (t / Yc.w α)))[t %Yc.w α]?.map CS:=fun t ht=>by
     obtain ⟨v,e1,e2⟩:=cG t ht;have hj:t %Yc.w α<Yc.w α:=A2 _ hw0;have hl2:t %Yc.w α<(Yc.cells (rd I (t / Yc.w α))).length :=by rw [Yc.len];exact hj
     have e3:=RI I n t ht
     grind [W2,Ef.num]
    have dH:=cB.real b0 l e;have hH:HoldsK DF (Yc.w α) w l.blk (l.base+0*Yc.w α) I.toArray:=fun j hj=>by
     have hj:j<n*Yc.w α:=(by simp_all);have hs:j<(flatK DF (Yc.w α) I.toArray).size :=(by grind);have e1:=P0 I j (by grind)
     grind [World.cell?,World.frozen?]
    have cO:=hC l.blk (l.base+0*Yc.w α) cc I w h7 hH dH (by omega);rw [hIl,hL] at cO;refine cO.mono fun e' w' ⟨he,q,os,hw'⟩=>⟨_,he,?_,?_,?_⟩
    .exact .tup [] #[] rfl fun i h1 h2=>absurd h1 (AC _)
    .subst hw';refine BF.setArr ?_ ⟨Yc.w α,n,.flat (Zz L)⟩ (TP _ _ _ _) rfl hw0 fun _ _=>Yc.len _;refine BF.rewritten cB e hm (by simp only [KW]) (fun k hk hne=> ?_) ?_ hbk.noObj ?_
     .exact (Ln _ _ _ _ _ _ _ hk).trans (At hne)
     .show _<=(((Go.Sort.ahead w q).heap.modify _ _)++os).size;simp_all
     .refine ⟨putCells id (l.base+0*Yc.w α) (flatK DF (Yc.w α) L.toArray) cur,el,?_,fun _ _ _=>hbk.typ _ _ _ hh,?_,fun i hi=> ?_⟩
      .refine (Ln _ _ _ _ _ _ _ dH).trans ?_;rw [AB rfl,hh];rfl
      .grind [putCells]
      .rw [KW] at hi;have hj:i %Yc.w α<Yc.w α:=A2 _ hw0;have hl2:i %Yc.w α<(Yc.cells (rd L (i / Yc.w α))).length :=by rw [Yc.len];exact hj
       have hl3:i %Yc.w α<(Yc.cells (rd I (i / Yc.w α))).length :=(by grind);have e1:=P0 L i (by grind);rw [Ao hl2,Br] at e1;have hs:i<(flatK DF (Yc.w α) L.toArray).size :=(by grind);rw [A8 hs] at e1;have e3:=RI L n i hi;rw [Ao (by grind),Ao hl2] at e3;refine ⟨CS (Yc.cells (rd L (i / Yc.w α)))[i %Yc.w α],?_,?_⟩
       .simp_all [putCells]
       grind [XJ,Ef.num]
    .subst hw';refine Ev.rewritten cB _ (fun l' _=>hfl) hnn (fun k hk hne=> ?_) ?_ rfl rfl rfl
     .exact (Ln _ _ _ _ _ _ _ hk).trans (At (hne l e))
     .show _<=(((Go.Sort.ahead w q).heap.modify _ _)++os).size;simp_all
   | slan=>
    have hI0:I=[]:=Bf hIl;have hL0:L=[]:=Bf hLl;refine (hN none 0 _ w).mono fun e' w' ⟨he,hw'⟩=>⟨_,he,?_,?_,?_⟩
    .exact .tup [] #[] rfl fun i h1 h2=>absurd h1 (AC _)
    .subst hw';refine cB.reblk hm fun l hρ hbk=> ?_;have hbk:=hbk.rows rfl;obtain ⟨har,dT,_⟩:=hbk.arr _ rfl;have har:cells=rows 0 get.get:=har;subst har;exact .plain ⟨hbk.typ,hbk.n,hbk.tot,fun B hB=>by obtain rfl:=Ac hB;exact ⟨rfl,hw0,fun i hi=>absurd hi (AC _)⟩,hbk.cells⟩
    grind [Ev.rewritten]
  .cases h
 .cases h
end
def BC.withE (S:BC) (f:FuncId) (F:List BA->BH->Option (BA×Nat×BE×Bool)):BC:=fun g=>bif Nat.beq g f then some (.eff F) else S g
theorem Mk {P:Program} {S:BC} (hS:Zu P S) {f:FuncId} {F:List BA->BH->Option (BA×Nat×BE×Bool)} (hf:(P.funcs[f]?).any (fun fn=>fn.body.isSome)=true) (hF:Db P f F):Zu P (S.withE f F):=by
 intro g G hg;unfold BC.withE at hg;cases hgf:Nat.beq g f with
 | false=>rw [hgf] at hg;exact hS g G hg
 | true=>
  rw [hgf] at hg;obtain rfl:GT.eff F=G:=Ac hg;obtain rfl:g=f:=Ae hgf;refine ⟨?_,hF⟩
  grind
end Go.Am
namespace Go.Proofs
open Go.Proofs.Tryz
open Go.Shelf Go.RowKit Go.Lib Go.Sort
theorem Tryz.cmpEnd (a b c a' b' c':Int) (h: -1000000000<=a/\a<=1000000000) (h': -1000000000<=a'/\a'<=1000000000) (W:World):
  Calls prog 245 #[.agg #[.int .i64 a,.int .i64 b,.int .i64 c],.agg #[.int .i64 a',.int .i64 b',.int .i64 c']] W fun e w'=>e=.returned (.int .i64 (a - a'))/\ ∃q os',w'=grow (W.drewN q) os':=by
 go_enter Tryz.func245,Tryz.ntmps245
 go_wp2
 go_ret
 exact ⟨rfl,0,_,by rw [alloc_eq_grow,alloc_eq_grow,grow_grow];rfl⟩
end Go.Proofs
namespace Go.Am
open IntKind (wrap)
open Go.Proofs.Tryz
open Go.Proofs
inductive EG where
 | h0 (v9:List R6) (v10:List R4) (v11:Int) (v12:Int)
 | h1 (v9:List R6) (v10:List R4) (v11:Int) (v12:Int) (v13:List R4) (v15:Int)
 | h2 (v9:List R6) (v10:List R4) (v11:Int) (v12:Int) (v14:Int)
def Ge (x0:Int) (l1:List R6) (l2:List R6):EG->BJ
 | .h0 v9 v10 v11 v12=>⟨⟨137,0,true⟩,none,(Zk prog 113 [1,1,1,1,1,0,1,0,0] 0),none,(Zy prog 104),⟨Xd [(0,(ii x0)),(1,(.dat l1.length (Zz l1))),(2,(.dat l2.length (Zz l2))),(8,(.dat (Yu (BB l1) (BB l2)).length (Zz (Yu (BB l1) (BB l2))))),(9,(.sla 0 6 0 v9.length (.un 6))),(10,(.dat v10.length (Zz v10))),(11,(ii v11)),(12,(ii v12))],Kf [⟨rows v9.length (Zz v9),79,some ⟨6,v9.length,(Zz v9)⟩⟩] 0,1,[],true⟩,[],.leaf⟩
 | .h1 v9 v10 v11 v12 v13 v15=>⟨⟨137,0,true⟩,none,(Zk prog 113 [1,1,1,1,1,0,1,0,0,1,0,0,1,1,1,1,1,0,0] 0),none,(Zy prog 104),⟨Xd [(0,(ii x0)),(1,(.dat l1.length (Zz l1))),(2,(.dat l2.length (Zz l2))),(8,(.dat (Yu (BB l1) (BB l2)).length (Zz (Yu (BB l1) (BB l2))))),(9,(.sla 0 6 0 v9.length (.un 6))),(10,(.dat v10.length (Zz v10))),(11,(ii v11)),(12,(ii v12)),(13,(.dat v13.length (Zz v13))),(15,(ii v15))],Kf [⟨rows v9.length (Zz v9),79,some ⟨6,v9.length,(Zz v9)⟩⟩] 0,1,[],true⟩,[],.leaf⟩
 | .h2 v9 v10 v11 v12 v14=>⟨⟨137,0,true⟩,none,(Zk prog 113 [1,1,1,1,1,0,1,0,0,1,0,0,1,1,0,1,0,0,1,0,0] 0),none,(Zy prog 104),⟨Xd [(0,(ii x0)),(1,(.dat l1.length (Zz l1))),(2,(.dat l2.length (Zz l2))),(8,(.dat (Yu (BB l1) (BB l2)).length (Zz (Yu (BB l1) (BB l2))))),(9,(.sla 0 6 0 v9.length (.un 6))),(10,(.dat v10.length (Zz v10))),(11,(ii v11)),(12,(ii v12)),(14,(ii v14))],Kf [⟨rows v9.length (Zz v9),79,some ⟨6,v9.length,(Zz v9)⟩⟩] 0,1,[],true⟩,[],.leaf⟩
def N5 :List (Option (List Nat)):=[some [0,1,2,8,9,10,11,12]]
def N3 :List (Option (List Nat)):=[]
def N6 :List (Option (List Nat)):=[some [0,1,2,8,9,10,11,12,13,15]]
def N4 :List (Option (List Nat)):=[]
def FL :List (Option (List Nat)):=[some [0,1,2,8,9,10,11,12,14]]
def FM :List (Option (List Nat)):=[]
def Wk (x0:Int) (l1:List R6) (l2:List R6):EG->Wn EG
 | .h0 v9 v10 v11 v12=>(bif (decide ((wrap .i64 (v12+1))<(((Yu (BB l1) (BB l2)).length :Nat):Int))) then (bif (Hq (BB l1) (rd (Yu (BB l1) (BB l2)) v12.toNat)) then (bif ((decide (0<=v12/\v12<(((Yu (BB l1) (BB l2)).length :Nat):Int)))&&true) then (bif (Hq (BB l2) (rd (Yu (BB l1) (BB l2)) v12.toNat)) then (bif (Jk x0 (BB (BM (BB l1) (rd (Yu (BB l1) (BB l2)) v12.toNat))) (BB (BM (BB l2) (rd (Yu (BB l1) (BB l2)) v12.toNat)))) then (bif (decide ((((CB x0 (BB (BM (BB l1) (rd (Yu (BB l1) (BB l2)) v12.toNat))) (BB (BM (BB l2) (rd (Yu (BB l1) (BB l2)) v12.toNat)))).length :Nat):Int)>400)) then (.ret [.nils,(.bool false)]) else (bif (Jk 2 (BB (BM (BB l1) (rd (Yu (BB l1) (BB l2)) v12.toNat))) ([]:List R4)) then (bif (decide ((((CB 2 (BB (BM (BB l1) (rd (Yu (BB l1) (BB l2)) v12.toNat))) ([]:List R4)).length :Nat):Int)>400)) then (.ret [.nils,(.bool false)]) else (bif (Jk 2 (BB (BM (BB l2) (rd (Yu (BB l1) (BB l2)) v12.toNat))) ([]:List R4)) then (bif (decide ((((CB 2 (BB (BM (BB l2) (rd (Yu (BB l1) (BB l2)) v12.toNat))) ([]:List R4)).length :Nat):Int)>400)) then (.ret [.nils,(.bool false)]) else (bif (decide (v12>0)) then (bif (Vy (BB (CB x0 (BB (BM (BB l1) (rd (Yu (BB l1) (BB l2)) v12.toNat))) (BB (BM (BB l2) (rd (Yu (BB l1) (BB l2)) v12.toNat))))) (BB v10)) then (bif (Qw (BB (CB x0 (BB (BM (BB l1) (rd (Yu (BB l1) (BB l2)) v12.toNat))) (BB (BM (BB l2) (rd (Yu (BB l1) (BB l2)) v12.toNat))))) (BB v10)) then (.to (.h2 v9 v10 v11 v12 v11)) else (.to (.h1 v9 (CB x0 (BB (BM (BB l1) (rd (Yu (BB l1) (BB l2)) v12.toNat))) (BB (BM (BB l2) (rd (Yu (BB l1) (BB l2)) v12.toNat)))) (v9.length:Int) v12 (CB x0 (BB (BM (BB l1) (rd (Yu (BB l1) (BB l2)) v12.toNat))) (BB (BM (BB l2) (rd (Yu (BB l1) (BB l2)) v12.toNat)))) 0))) else .stuck) else (.to (.h1 v9 (CB x0 (BB (BM (BB l1) (rd (Yu (BB l1) (BB l2)) v12.toNat))) (BB (BM (BB l2) (rd (Yu (BB l1) (BB l2)) v12.toNat)))) (v9.length:Int) v12 (CB x0 (BB (BM (BB l1) (rd (Yu (BB l1) (BB l2)) v12.toNat))) (BB (BM (BB l2) (rd (Yu (BB l1) (BB l2)) v12.toNat)))) 0)))) else .stuck)) else .stuck)) else .stuck) else .stuck) else .stuck) else .stuck) else (.ret [(.dat v9.length (Zz v9)),(.bool (decide ((v9.length:Int)<=400)))]))
 | .h1 v9 v10 v11 v12 v13 v15=>(bif (decide (v15<(v13.length:Int))) then (bif ((decide (0<=v12/\v12<(((Yu (BB l1) (BB l2)).length :Nat):Int)))&&true) then (bif ((decide (0<=v15/\v15<(v13.length:Int)))&&true) then (bif ((decide (0<=(wrap .i64 (v12+1))/\(wrap .i64 (v12+1))<(((Yu (BB l1) (BB l2)).length :Nat):Int)))&&true) then (bif (Nat.beq 6 6&&((decide (0+v9.length=v9.length))&&decide ((v9.length+1+1)*(48+1)<=Kx))) then (.to (.h1 (v9++[(R6.mk (rd v13 v15.toNat).a (rd v13 v15.toNat).b (rd (Yu (BB l1) (BB l2)) v12.toNat) (rd v13 v15.toNat).c (rd v13 v15.toNat).d (rd (Yu (BB l1) (BB l2)) (Int.toNat (wrap .i64 (v12+1)))))]) v10 v11 v12 v13 (wrap .i64 (v15+1)))) else .stuck) else .stuck) else .stuck) else .stuck) else (.to (.h0 v9 v10 v11 (wrap .i64 (v12+1)))))
 | .h2 v9 v10 v11 v12 v14=>(bif (decide (v14<(v9.length:Int))) then (bif ((decide (0<=(wrap .i64 (v12+1))/\(wrap .i64 (v12+1))<(((Yu (BB l1) (BB l2)).length :Nat):Int)))&&true) then (bif ((decide (0<=v14/\v14<(v9.length:Int)))&&true) then (bif (decide ((0+v14.toNat)<v9.length)) then (.to (.h2 (v9.set (0+v14.toNat) (R6.mk (rd v9 (0+v14.toNat)).a (rd v9 (0+v14.toNat)).b (rd v9 (0+v14.toNat)).c (rd v9 (0+v14.toNat)).d (rd v9 (0+v14.toNat)).e (rd (Yu (BB l1) (BB l2)) (Int.toNat (wrap .i64 (v12+1)))))) v10 v11 v12 (wrap .i64 (v14+1)))) else .stuck) else .stuck) else .stuck) else (.to (.h0 v9 v10 v11 (wrap .i64 (v12+1)))))
def KD (x0:Int) (l1:List R6) (l2:List R6):Wn EG:=(bif (KP (BB l1) (BB l2)) then (.to (.h0 ([]:List R6) ([]:List R4) 0 0)) else .stuck)
theorem YO (x0:Int) (l1:List R6) (l2:List R6): ∀s,Wi prog (Zy prog 113) (Ge x0 l1 l2) (Ge x0 l1 l2 s) (Wk x0 l1 l2 s)
 | .h0 v9 v10 v11 v12=>(lb (fun k0=>(lo fun aF=>(lo fun aN=>(lo fun bM=>(lo fun bV=>let l:=pp (xr l1) (xw aF);let m:=pp (xr l2) (xw bM);let a:=pp m (ww aN (pp l (ww aN (tt k0 nn))));(lb (fun k1=>(lr 137 113 [1,1,1,1,1,0,1,0,0,1,0,0,1,0,1,0,0] 1 104 [(6,.nils),(7,(.bool false))] (sl DB 50 [] (a7 [6,7]) a6 (BQ 20 []) (tt k1 (pp (pp (xI R4 (BM (BB l1) (rd (Yu (BB l1) (BB l2)) (tn v12))).length (Zz (BM (BB l1) (rd (Yu (BB l1) (BB l2)) (tn v12))))) (pp (xI R4 (BM (BB l2) (rd (Yu (BB l1) (BB l2)) (tn v12))).length (Zz (BM (BB l2) (rd (Yu (BB l1) (BB l2)) (tn v12))))) (xw bV))) a))))) (fun k1=>(lo fun bS=>(lb (fun k2=>let b:=xI R4 (BM (BB l1) (rd (Yu (BB l1) (BB l2)) (tn v12))).length (Zz (BM (BB l1) (rd (Yu (BB l1) (BB l2)) (tn v12))));(lr 137 113 [1,1,1,1,1,0,1,0,0,1,0,0,1,0,1,0,0] 1 104 [(6,.nils),(7,(.bool false))] (sl DB 50 [] (a7 [6,7]) a6 (bl 20 1047553) (tt k2 (pp (pp b (pp (xI R4 0 (fun _=>[])) (xw bS))) (pp l (ww aN (tt k1 (pp (pp b (pp (xI R4 (BM (BB l2) (rd (Yu (BB l1) (BB l2)) (tn v12))).length (Zz (BM (BB l2) (rd (Yu (BB l1) (BB l2)) (tn v12))))) (xw bV))) a))))))))) (fun k2=>(lo fun bU=>(lb (fun k3=>let c:=xI R4 (BM (BB l1) (rd (Yu (BB l1) (BB l2)) (tn v12))).length (Zz (BM (BB l1) (rd (Yu (BB l1) (BB l2)) (tn v12))));let g:=xI R4 (BM (BB l2) (rd (Yu (BB l1) (BB l2)) (tn v12))).length (Zz (BM (BB l2) (rd (Yu (BB l1) (BB l2)) (tn v12))));let o:=xI R4 0 (fun _=>[]);(lr 137 113 [1,1,1,1,1,0,1,0,0,1,0,0,1,0,1,0,0] 1 104 [(6,.nils),(7,(.bool false))] (sl DB 50 [] (a7 [6,7]) a6 (bl 20 524289) (tt k3 (pp (pp g (pp o (xw bU))) (pp m (ww aN (tt k2 (pp (pp c (pp o (xw bS))) (pp l (ww aN (tt k1 (pp (pp c (pp g (xw bV))) a))))))))))))) (fun k3=>(lb (fun k4=>(lo fun bX=>let r:=pp (xr v10) (xw bX);(lb (fun k5=>let d:=xI R4 (BM (BB l1) (rd (Yu (BB l1) (BB l2)) (tn v12))).length (Zz (BM (BB l1) (rd (Yu (BB l1) (BB l2)) (tn v12))));let h:=xI R4 (BM (BB l2) (rd (Yu (BB l1) (BB l2)) (tn v12))).length (Zz (BM (BB l2) (rd (Yu (BB l1) (BB l2)) (tn v12))));let p:=xI R4 0 (fun _=>[]);(sl DB 66 [] ⟨[0],[],FL,FM⟩ a6 (bl 24 15728641) (pp (fl v9 nn) (tt k5 (pp (pp (xI R4 (CB x0 (BB (BM (BB l1) (rd (Yu (BB l1) (BB l2)) (tn v12)))) (BB (BM (BB l2) (rd (Yu (BB l1) (BB l2)) (tn v12))))).length (Zz (CB x0 (BB (BM (BB l1) (rd (Yu (BB l1) (BB l2)) (tn v12)))) (BB (BM (BB l2) (rd (Yu (BB l1) (BB l2)) (tn v12))))))) r) (tt k4 (tt k3 (pp (pp h (pp p (xw bU))) (pp m (ww aN (tt k2 (pp (pp d (pp p (xw bS))) (pp l (ww aN (tt k1 (pp (pp d (pp h (xw bV))) a)))))))))))))))) (fun k5=>let e:=xI R4 (BM (BB l1) (rd (Yu (BB l1) (BB l2)) (tn v12))).length (Zz (BM (BB l1) (rd (Yu (BB l1) (BB l2)) (tn v12))));let j:=xI R4 (BM (BB l2) (rd (Yu (BB l1) (BB l2)) (tn v12))).length (Zz (BM (BB l2) (rd (Yu (BB l1) (BB l2)) (tn v12))));let q:=xI R4 0 (fun _=>[]);(sl DB 73 [] ⟨[0],[],N6,N4⟩ a6 (bl 24 7340033) (pp (fl v9 nn) (tt k5 (pp (pp (xI R4 (CB x0 (BB (BM (BB l1) (rd (Yu (BB l1) (BB l2)) (tn v12)))) (BB (BM (BB l2) (rd (Yu (BB l1) (BB l2)) (tn v12))))).length (Zz (CB x0 (BB (BM (BB l1) (rd (Yu (BB l1) (BB l2)) (tn v12)))) (BB (BM (BB l2) (rd (Yu (BB l1) (BB l2)) (tn v12))))))) r) (tt k4 (tt k3 (pp (pp j (pp q (xw bU))) (pp m (ww aN (tt k2 (pp (pp e (pp q (xw bS))) (pp l (ww aN (tt k1 (pp (pp e (pp j (xw bV))) a))))))))))))))))))) (fun k4=>let f:=xI R4 (BM (BB l1) (rd (Yu (BB l1) (BB l2)) (tn v12))).length (Zz (BM (BB l1) (rd (Yu (BB l1) (BB l2)) (tn v12))));let i:=xI R4 (BM (BB l2) (rd (Yu (BB l1) (BB l2)) (tn v12))).length (Zz (BM (BB l2) (rd (Yu (BB l1) (BB l2)) (tn v12))));let n:=xI R4 0 (fun _=>[]);(sl DB 73 [] ⟨[0],[],N6,N4⟩ a6 (bl 24 1) (pp (fl v9 nn) (tt k4 (tt k3 (pp (pp i (pp n (xw bU))) (pp m (ww aN (tt k2 (pp (pp f (pp n (xw bS))) (pp l (ww aN (tt k1 (pp (pp f (pp i (xw bV))) a)))))))))))))))))))))))))))) (fun k0=>(lr 137 3 [1,1,1,1,1,1,0] 1 104 [(6,(.dat v9.length (Zz v9))),(7,(.bool (decide ((v9.length:Int)<=400))))] (sl DB 20 [] ⟨[],[0],[some [6,7]],[]⟩ ⟨[(6,.frz v9.length v9.length (Zz v9) (Zz v9))],[],[]⟩ [false] (pp (xZ (C7 6 6 0 v9.length v9.length (Zz v9)) v9.length (Zz v9)) (pp (xL v9.length v9.length) (pp (xS v9.length (Zz v9) (Zz v9)) (pp (fl v9 nn) (tt k0 nn)))))))))
 | .h1 v9 v10 v11 v12 v13 v15=>(lb (fun k0=>(lo fun o0=>(lo fun o1=>(lo fun o2=>(lo fun o3=>let g:=rd v13 (tn v15);let h:=Yu (BB l1) (BB l2);let e:=v9++[(R6.mk g.a g.b (rd h (tn v12)) g.c g.d (rd h (tn (wr (v12+1)))))];let f:=xL (v9.length+1) (v9++[(R6.mk (rd v13 (tn v15)).a (rd v13 (tn v15)).b (rd (Yu (BB l1) (BB l2)) (tn v12)) (rd v13 (tn v15)).c (rd v13 (tn v15)).d (rd (Yu (BB l1) (BB l2)) (tn (wr (v12+1)))))]).length;(sl DB 20 [] ⟨[2],[],N6,N4⟩ ⟨[(9,.len e.length)],[.rowed 6 e.length (Zz e)],[]⟩ [true] (pp f (pp f (pp (xS (v9.length+1) (Zn (Zz v9) 0 v9.length 6 [(ii (rd v13 (tn v15)).a),(ii (rd v13 (tn v15)).b),(ii (rd (Yu (BB l1) (BB l2)) (tn v12))),(ii (rd v13 (tn v15)).c),(ii (rd v13 (tn v15)).d),(ii (rd (Yu (BB l1) (BB l2)) (tn (wr (v12+1)))))]) (Zz (v9++[(R6.mk (rd v13 (tn v15)).a (rd v13 (tn v15)).b (rd (Yu (BB l1) (BB l2)) (tn v12)) (rd v13 (tn v15)).c (rd v13 (tn v15)).d (rd (Yu (BB l1) (BB l2)) (tn (wr (v12+1)))))]))) (pp (pp (xF (Zn (Zz v9) 0 v9.length 6 [(ii (rd v13 (tn v15)).a),(ii (rd v13 (tn v15)).b),(ii (rd (Yu (BB l1) (BB l2)) (tn v12))),(ii (rd v13 (tn v15)).c),(ii (rd v13 (tn v15)).d),(ii (rd (Yu (BB l1) (BB l2)) (tn (wr (v12+1)))))])) nn) (ww o3 (ww o2 (ww o1 (ww o1 (ww o0 (ww o1 (ww o1 (tt k0 nn)))))))))))))))))) (fun k0=>(sl DB 17 [] ⟨[0],[],N5,N3⟩ a6 [false] (pp (fl v9 nn) (tt k0 nn)))))
 | .h2 v9 v10 v11 v12 v14=>(lb (fun k0=>(lo fun o0=>(lo fun o1=>(lo fun o2=>let h:=rd v9 (0+(tn v14));let f:=v9.set (0+(tn v14)) (R6.mk h.a h.b h.c h.d h.e (rd (Yu (BB l1) (BB l2)) (tn (wr (v12+1)))));let g:=xL v9.length (v9.set (0+(tn v14)) (R6.mk (rd v9 (0+(tn v14))).a (rd v9 (0+(tn v14))).b (rd v9 (0+(tn v14))).c (rd v9 (0+(tn v14))).d (rd v9 (0+(tn v14))).e (rd (Yu (BB l1) (BB l2)) (tn (wr (v12+1)))))).length;(sl DB 32 [] ⟨[0],[],FL,FM⟩ ⟨[(9,.len f.length)],[.rowed 6 f.length (Zz f)],[]⟩ [true] (pp g (pp g (pp (xS v9.length (Xa (Zz v9) (0+(tn v14)) 5 [(ii (rd (Yu (BB l1) (BB l2)) (tn (wr (v12+1)))))]) (Zz (v9.set (0+(tn v14)) (R6.mk (rd v9 (0+(tn v14))).a (rd v9 (0+(tn v14))).b (rd v9 (0+(tn v14))).c (rd v9 (0+(tn v14))).d (rd v9 (0+(tn v14))).e (rd (Yu (BB l1) (BB l2)) (tn (wr (v12+1)))))))) (pp (pp (xF (Xa (Zz v9) (0+(tn v14)) 5 [(ii (rd (Yu (BB l1) (BB l2)) (tn (wr (v12+1)))))])) nn) (ww o2 (ww o1 (ww o0 (tt k0 nn))))))))))))) (fun k0=>(sl DB 17 [] ⟨[0],[],N5,N3⟩ a6 [false] (pp (fl v9 nn) (tt k0 nn)))))
theorem Tb (x0:Int) (l1:List R6) (l2:List R6):Wi prog (Zy prog 113) (Ge x0 l1 l2) (startC prog 113 [(.int .i64 x0),(.dat l1.length (Zz l1)),(.dat l2.length (Zz l2))] true []) (KD x0 l1 l2):=(lo fun o0=>(sl DB 31 [(79,6,Zz ([]:List R6))] ⟨[0],[],N5,N3⟩ ⟨[(9,.grow 0 6),(10,.list 0 (Zz ([]:List R4)))],[],[]⟩ [] (pp (fl ([]:List R6) nn) (pp (pp (xr l1) (pp (xr l2) (xw o0))) nn))))
theorem VI (x0:Int) (l1:List R6) (l2:List R6) (n:Nat) (vs:List BA) (h:Yr (Wk x0 l1 l2) n (KD x0 l1 l2)=.ret vs):BV prog (Zy prog 113) (startC prog 113 [(.int .i64 x0),(.dat l1.length (Zz l1)),(.dat l2.length (Zz l2))] true []) vs:=by have:=Yy (YO x0 l1 l2) n _ (Tb x0 l1 l2);rwa [h] at this
theorem Vh (l m:List R6):(Yu l m).length <=2*l.length+2*m.length:=by
 refine AE (MP _) ?_
 grind [Qu]
theorem XU (l:List R6) (z:Int):(BM l z).length <=l.length:=by
 grind [BM]
def Dg (out:List R6) (first:Nat) (z:Int):List R6:=out.take first++(out.drop first).map fun r=>⟨r.a,r.b,r.c,r.d,r.e,z⟩
def GZ (z z':Int) (s:List R4):List R6:=s.map fun p=>⟨p.a,p.b,z,p.c,p.d,z'⟩
section
variable (kind:Int) (l m:List R6)
def DU (z:Int):List R4:=CB kind (BM l z) (BM m z)
def Ds (z:Int):Bool:=decide (400<(DU kind l m z).length)||(decide (400<(CB 2 (BM l z) []).length)||decide (400<(CB 2 (BM m z) []).length))
def IQ :Nat->Nat->List R6->List R4->Nat->Option (List R6)
 | 0,_,out,_,_=>some out
 | k+1,i,out,last,first=>
  bif Ds kind l m (rd (Yu l m) i) then none
  else bif decide (0<i)&&Qw (DU kind l m (rd (Yu l m) i)) last then IQ k (i+1) (Dg out first (rd (Yu l m) (i+1))) last first
  else IQ k (i+1) (out++GZ (rd (Yu l m) i) (rd (Yu l m) (i+1)) (DU kind l m (rd (Yu l m) i))) (DU kind l m (rd (Yu l m) i)) out.length
def IP :Option (List R6):=IQ kind l m ((Yu l m).length - 1) 0 [] [] 0
def GI :Option (List R6)->List BA
 | none=>[.nils,.bool false]
 | some out=>[.dat out.length (Zz out),.bool (decide ((out.length:Int)<=400))]
def Ck :List R6:=(IP kind l m).getD []
def GJ :Bool:=match IP kind l m with
 | none=>false
 | some out=>decide ((out.length:Int)<=400)
end
def JN (l:List R6):Prop:=l.length<=40000/\ ∀z,(BM l z).length <=5000
theorem RU {l:List R6} (h:l.length<=5000):JN l:=⟨by omega,fun z=>AE (XU l z) h⟩
def I2 (_:Int) (l m:List R6):Bool:=pd (JN l/\JN m)
theorem Gt {k:Int} {l m:List R6} (hl:l.length<=5000) (hm:m.length<=5000):I2 k l m=true:=Ya ⟨RU hl,RU hm⟩
section
variable (kind:Int) (l m:List R6) (hl:JN l) (hm:JN m)
include hl hm
theorem Ro (last:List R4) (first:Int) (i:Nat) (hi:i+1<(Yu l m).length) (s:List R4) (hs:s.length<=1000000): ∀(k j:Nat) (out:List R6),j+k=s.length->out.length<=10000000000+j->
  ∃n,∀N,Yr (Wk kind l m) (N+n) (.to (.h1 out last first (i:Int) s (j:Int)))=Yr (Wk kind l m) N (.to (.h0 (out++GZ (rd (Yu l m) i) (rd (Yu l m) (i+1)) (s.drop j)) last first ((i+1:Nat):Int)))
 | 0,j,out,h,ho=>by
  have hx:=Vh l m;have hl1:=hl.1;have hm1:=hm.1;refine ⟨1,fun N=> ?_⟩
  grind [Zj,Wk,Za,GZ]
 | k+1,j,out,h,ho=>by
  have hx:=Vh l m;have hl1:=hl.1;have hm1:=hm.1;obtain ⟨n,hn⟩:=Ro last first i hi s hs k (j+1) (out++GZ (rd (Yu l m) i) (rd (Yu l m) (i+1)) [rd s j]) (by omega) (by simp [GZ];omega)
  refine ⟨n+1,fun N=> ?_⟩;have:=hn N;rw [Ys (show j<s.length by omega),<-AF,Zj];simp (disch:=omega) only [Wk,Zt,Ze,Yw,Yv,Yh,Yb,Zr,Za,Zw,Ye,Zp,Aj,Ar,An,Ap,Ah];rw [AG] at this;exact this
omit hl hm in
theorem w0u (out:List R6) (j:Nat) (x:Int) (h:j<out.length):Dg (out.set j ⟨(rd out j).a,(rd out j).b,(rd out j).c,(rd out j).d,(rd out j).e,x⟩) (j+1) x=Dg out j x:=by
 unfold Dg;rw [Ys h,AQ];have e1:(out.set j ⟨(rd out j).a,(rd out j).b,(rd out j).c,(rd out j).d,(rd out j).e,x⟩).take (j+1)=out.take j++[⟨(rd out j).a,(rd out j).b,(rd out j).c,(rd out j).d,(rd out j).e,x⟩]:=by
  apply Bl
  .simp;omega
  .intro n h1 h2;simp only [List.getElem_take,List.getElem_set];by_cases e:j=n
   .subst e;rw [AB rfl,A7 (by simp only [List.length_take];omega)];simp
   .rw [At e,Bb (by simp at h1 ⊢;omega),List.getElem_take]
 have e2:(out.set j ⟨(rd out j).a,(rd out j).b,(rd out j).c,(rd out j).d,(rd out j).e,x⟩).drop (j+1)=out.drop (j+1):=by rw [List.drop_set];rw [AB (by omega)]
 rw [e1,e2,AG];rfl
theorem Rp (last:List R4) (first:Int) (i:Nat) (hi:i+1<(Yu l m).length): ∀(k j:Nat) (out:List R6),j+k=out.length->out.length<=10000000000->
  ∃n,∀N,Yr (Wk kind l m) (N+n) (.to (.h2 out last first (i:Int) (j:Int)))=Yr (Wk kind l m) N (.to (.h0 (Dg out j (rd (Yu l m) (i+1))) last first ((i+1:Nat):Int)))
 | 0,j,out,h,ho=>by
  have hx:=Vh l m;have hl1:=hl.1;have hm1:=hm.1;refine ⟨1,fun N=> ?_⟩;have e:Dg out j (rd (Yu l m) (i+1))=out:=by
   grind [Dg]
  grind [Zj,Wk,Za]
 | k+1,j,out,h,ho=>by
  have hx:=Vh l m;have hl1:=hl.1;have hm1:=hm.1;obtain ⟨n,hn⟩:=Rp last first i hi k (j+1) (out.set j ⟨(rd out j).a,(rd out j).b,(rd out j).c,(rd out j).d,(rd out j).e,rd (Yu l m) (i+1)⟩) (by simp;omega) (by grind)
  refine ⟨n+1,fun N=> ?_⟩;have:=hn N;rw [w0u out j _ (by omega)] at this;rw [<-AF,Zj];simp (disch:=omega) only [Wk,Zt,Ze,Yw,Yv,Yd,Yh,Yb,Zr,Za,Zw,Ye,Zp,Aj,Ar,An,Ap,Ah];exact this
theorem NA : ∀(k i:Nat) (out:List R6) (last:List R4) (first:Nat),k=(Yu l m).length - 1 - i->i<=(Yu l m).length ->out.length<=i*400->last.length<=400->first<=out.length->
  ∃n,Yr (Wk kind l m) n (.to (.h0 out last (first:Int) (i:Int)))=.ret (GI (IQ kind l m k i out last first))
 | 0,i,out,last,first,h,hi,ho,hla,hf=>by
  have hx:=Vh l m;have hl1:=hl.1;have hm1:=hm.1;refine ⟨1,?_⟩
  grind [Zj,Wk,Zt,Za,Zc,IQ,GI]
 | k+1,i,out,last,first,h,hi,ho,hla,hf=>by
  have hx:=Vh l m;have hl1:=hl.1;have hm1:=hm.1;have hi1:i+1<(Yu l m).length :=by omega
  have hbig:i*400<=160000*400:=Av _ (by omega);have a1:=fun z=>hl.2 z;have a2:=fun z=>hm.2 z;have w1: ∀z,Hq l z=true:=fun z=>Aq (by omega);have w2: ∀z,Hq m z=true:=fun z=>Aq (by omega);have w3: ∀k z,Jk k (BM l z) (BM m z)=true:=fun k z=>Aq (by grind);have w4: ∀k z,Jk k (BM l z) ([]:List R4)=true:=fun k z=>Aq (by grind);have w5: ∀k z,Jk k (BM m z) ([]:List R4)=true:=fun k z=>Aq (by grind);unfold IQ;have hsec:DU kind l m (rd (Yu l m) i)=CB kind (BM l (rd (Yu l m) i)) (BM m (rd (Yu l m) i)):=rfl;by_cases c1:400<(DU kind l m (rd (Yu l m) i)).length
  .refine ⟨1,?_⟩;have hb:Ds kind l m (rd (Yu l m) i)=true:=by grind [Ds]
   rw [hb,Ah,Zj];rw [hsec] at c1;simp (disch:=omega) only [Wk,Zt,Ze,Yw,Yt,Yv,Za,Zw,Zp,w1,w2,w3,w4,w5,An,Ah,Zc,GI]
  by_cases c2:400<(CB 2 (BM l (rd (Yu l m) i)) []).length
  .refine ⟨1,?_⟩;have hb:Ds kind l m (rd (Yu l m) i)=true:=by grind [Ds]
   rw [hb,Ah,Zj];rw [hsec] at c1;simp (disch:=omega) only [Wk,Zt,Ze,Yw,Yt,Xq,Yv,Za,Zw,Zp,w1,w2,w3,w4,w5,An,Ah,Ai,Zc,GI]
  by_cases c3:400<(CB 2 (BM m (rd (Yu l m) i)) []).length
  .refine ⟨1,?_⟩;have hb:Ds kind l m (rd (Yu l m) i)=true:=by grind [Ds]
   rw [hb,Ah,Zj];rw [hsec] at c1;simp (disch:=omega) only [Wk,Zt,Ze,Yw,Yt,Xq,Yv,Za,Zw,Zp,w1,w2,w3,w4,w5,An,Ah,Ai,Zc,GI]
  have hb:Ds kind l m (rd (Yu l m) i)=false:=by grind [Ds]
  rw [hb,Ai];have w6:Vy (CB kind (BM l (rd (Yu l m) i)) (BM m (rd (Yu l m) i))) last=true:=Aq (by grind);rcases Wc (decide (0<i)&&Qw (DU kind l m (rd (Yu l m) i)) last) with q | q
  .obtain ⟨n3,h3⟩:=Rp kind l m hl hm last first i hi1 (out.length - first) first out (by omega) (by omega)
   obtain ⟨n0,h0⟩:=NA k (i+1) (Dg out first (rd (Yu l m) (i+1))) last first (by omega) (by omega) (by simp [Dg];omega) hla (by simp [Dg];omega)
   refine ⟨n0+n3+1,?_⟩;rw [q,Ah,Zj];simp only [Ad,Au] at q;obtain ⟨q1,q2⟩:=q;rw [hsec] at c1 q2;simp (disch:=omega) only [Wk,Zt,Ze,Yw,Yt,Xq,Yv,Za,Zw,Zp,w1,w2,w3,w4,w5,w6,q2,An,Ah,Ai]
   grind
  .obtain ⟨n2,h2⟩:=Ro kind l m hl hm (DU kind l m (rd (Yu l m) i)) (out.length:Int) i hi1 (DU kind l m (rd (Yu l m) i)) (by omega) (DU kind l m (rd (Yu l m) i)).length 0 out (Aj _) (by omega);obtain ⟨n0,h0⟩:=NA k (i+1) (out++GZ (rd (Yu l m) i) (rd (Yu l m) (i+1)) (DU kind l m (rd (Yu l m) i))) (DU kind l m (rd (Yu l m) i)) out.length (by omega) (by omega) (by simp [GZ];omega) (by omega) (by simp);refine ⟨n0+n2+1,?_⟩;rw [q,Ai,Zj];have h2':=h2 n0;simp only [AZ,Dq] at h2';have c1':=c1;rw [hsec] at c1';by_cases hi0:0<i
   .rw [Aq hi0,Ap,hsec] at q;simp (disch:=omega) only [Wk,Zt,Ze,Yw,Yt,Xq,Yv,Za,Zw,Zp,w1,w2,w3,w4,w5,w6,q,An,Ah,Ai]
    grind
   .simp (disch:=omega) only [Wk,Zt,Ze,Yw,Yt,Xq,Yv,Za,Zw,Zp,w1,w2,w3,w4,w5,w6,An,Ah,Ai]
    grind
end
theorem w4m (kind:Int) (l m:List R6) (h:I2 kind l m=true): ∃N,Yr (Wk kind l m) N (KD kind l m)=.ret (GI (IP kind l m)):=by obtain ⟨hl,hm⟩:=Wr h;have hl1:=hl.1;have hm1:=hm.1;obtain ⟨N,hN⟩:=NA kind l m hl hm ((Yu l m).length - 1) 0 [] [] 0 rfl (AD _) (AD _) (AD _) (Ak _);refine ⟨N,?_⟩;have w1:KP l m=true:=Aq ⟨by omega,by omega⟩;simp only [KD,Zt,Ze,w1,Ah];exact hN
def Nn :List BA->Option (BA×Bool)
 | [.int .i64 x0,a1,a2]=>match B2 R6 a1,B2 R6 a2 with
  | some (L1,g1,n1),some (L2,g2,n2)=>some (.tup [.dat (Ck x0 L1 L2).length (Zz (Ck x0 L1 L2)),.bool (GJ x0 L1 L2)],BT R6 n1 g1&&(BT R6 n2 g2&&(I2 x0 L1 L2)))
  | _,_=>none
 | _=>none
theorem HM {S:BC} (hS:Zu prog S):Zu prog (S.with R7 Nn):=by
 refine EW hS (by kernel_rfl) fun args v h=> ?_;unfold Nn at h;split at h
 .rename_i x0 a1 a2;split at h
  .rename_i L1 g1 n1 L2 g2 n2 e1 e2;simp only [Ab,Aa,Ad] at h;obtain ⟨rfl,ho1,ho2,hw⟩:=h;obtain ⟨N,hN⟩:=w4m x0 L1 L2 hw;refine ⟨_,GI (IP x0 L1 L2),(.cons (.refl _) (.cons (Xb e1 ho1) (.cons (Xb e2 ho2) .nil))),?_,VI x0 L1 L2 N _ hN,3,?_⟩
   .unfold Ck GJ;cases IP x0 L1 L2 with
    | none=>exact fun ρ u hu=>Fq (.cons (Fx R6) (B9.refl _)) ρ u hu
    | some out=>exact fun ρ u hu=>hu
   .cases IP x0 L1 L2 <;> rfl
  .cases h
 .cases h
def T4 :BC:=T3.with R7 Nn
theorem J3 :Zu prog T4:=HM DB
open Go.Sort Go.Shelf Go.RowKit Go.Lib
def GV (x:E3):List Value:=DF x.1
theorem ZJ (l:List R3) (h:C6 l=true):Go.Sort.flatK GV 3 (CV l h).toArray =Go.Sort.flatK DF 3 l.toArray:=by
 have hl:=Vi l h;unfold Go.Sort.flatK;rw [show (CV l h).toArray.size =l.toArray.size by simpa using hl];apply Array.ext
 .simp
 .intro t h1 h2;simp only [Array.getElem_map,Array.getElem_range];have ht:t<l.length*3:=by simpa using h1
  have hq:t / 3<l.length:=by omega
  congr 1
  rw [getElem!_pos (CV l h).toArray (t / 3) (by simpa [hl] using hq),getElem!_pos l.toArray (t / 3) (by simpa using hq)];unfold GV
  congr 1
  have:=J6 l h;have e:=Al (fun z:List R3=>z[t / 3]?) this;simp only [Bi] at e;rw [Ao (by rw [hl];exact hq),Ao hq] at e
  simpa using e
theorem w0o (d:Array E3):Go.Sort.flatK GV 3 d=Go.Sort.flatK DF 3 (d.toList.map Subtype.val).toArray :=by
 unfold Go.Sort.flatK;rw [show d.size=(d.toList.map Subtype.val).toArray.size by simp];apply Array.ext
 .simp
 .intro t h1 h2;simp only [Array.getElem_map,Array.getElem_range];have ht:t<d.size*3:=by simpa using h1
  have hq:t / 3<d.size:=by omega
  congr 1
  rw [getElem!_pos d (t / 3) hq,getElem!_pos (d.toList.map Subtype.val).toArray (t / 3) (by simpa using hq)];simp [GV]
theorem UG (l:List R3):Dr l.length (CH (BB l)).length =true:=Jj (by
 rw [Zt];by_cases h:C6 l=true
 .exact (KY l h).1.length_eq.symm
 .unfold CH;rw [dif_neg h])
theorem isAgg3 : ∀w,(isAgg (Tryz.sortEnd_ren.t 24)).run prog w=.ok true w:=fun w=>by rfl
theorem JB : ∀w,(Go.sizeOf (Tryz.sortEnd_ren.t 24)).run prog w=.ok 3 w:=fun w=>by rfl
theorem XE :Db prog Rb (K4 R3 CH C6 Pf):=by
 refine WA (fun L=> ?_) (fun blk off cap L w hb hH dH hsz=> ?_) fun p cap fv w=>AnyF.slices_SortFunc_none Tryz.sortEnd p cap fv w
 .by_cases h:C6 L=true
  .exact (KY L h).1.length_eq
  .unfold CH;rw [dif_neg h]
 .have eg: ∀args w,(callFunc 245 args).run prog w=.ok (.enter 245 args) w:=enters_of Tryz.func245 (by kernel_rfl) rfl;have hcmp:CmpLays prog 245 #[] GV 3 H2 blk off (CV L hb).toArray.size w:=fun m os dk _ x y=>by have hx:=AA x.2;have hy:=AA y.2;exact Tryz.cmpEnd x.1.a x.1.b x.1.c y.1.a y.1.b y.1.c hx hy _
  have hH':HoldsK GV 3 w blk off (CV L hb).toArray :=by unfold HoldsK;rw [ZJ L hb];exact hH
  have hcon:=AnyQ.slices_SortFunc_eq Tryz.sortEnd 3 isAgg3 JB GV (fun x=>Sz x.1) (fun x v hv=>by
   obtain ⟨a,ha,rfl⟩:=List.mem_map.1 hv;have:GH a=true:=Az.1 (Ef.num x.1) a ha;cases a <;> first | rfl | (simp [GH] at this;done)) H2 Iy 245 #[] blk off cap (CV L hb).toArray w eg hcmp hH' dH (by simpa [Vi] using hsz)
  have hs:(CV L hb).toArray.size =L.length:=by simp [Vi]
  rw [hs] at hcon;refine Calls.mono hcon fun e w' ⟨he,n,os,hw⟩=>⟨he,n,os,?_⟩
  rw [hw];unfold sortWorldK putRowK;rw [w0o];unfold CH;rw [dif_pos hb];rfl
def Vc (zs:List Int):List Int:=zs.mergeSort fun x y=>decide (x<=y)
theorem XF :Db prog FU (EX Vc):=
 ZI (fun zs=>List.length_mergeSort zs) (fun blk off cap zs w hH hb hz=>Tryz.slices_Sort_int blk off cap zs w hH hb hz) fun p cap w=>Tryz.slices_Sort_int_none p cap w
def Uj (zs:List Int):List Int:=compact zs++List.replicate (zs.length - (compact zs).length) 0
def D5 (zs:List Int):Nat:=(compact zs).length
theorem MM (zs:List Int):(Uj zs).length =zs.length:=by have:=compact_length_le zs;simp [Uj];omega
theorem QG (n:Nat) (c:Nat->Int):Dr n (Uj (Yx n c)).length =true:=Jj (by rw [MM];simp [Yx])
theorem WM (w:World):grow w #[]=w:=by simp [grow]
theorem Sv :Db prog Pe (EZ Uj D5):=
 ZH (fun zs=>by have:=compact_length_le zs;simp [Uj];omega) (fun zs=>compact_length_le zs)
  (fun blk off cap zs w hH hb hz cJ=>(Tryz.slices_Compact_int blk off cap zs w hH (by omega) cJ).mono fun e w' ⟨he,q,hw⟩=>⟨he,q, #[],by rw [hw,WM];rfl⟩)
  fun p cap w=>Tryz.slices_Compact_int_empty p cap w
def T5 :BC:=((T4.withE Rb (K4 R3 CH C6 Pf)).withE FU (EX Vc)).withE Pe (EZ Uj D5)
theorem Up :Zu prog T5:=Mk (Mk (Mk J3 (by kernel_rfl) XE) (by kernel_rfl) XF) (by kernel_rfl) Sv
-- h2: index into an array (choices [true, true, false, false])
-- h2: index into an array (choices [true, false, true, false, false])
-- h2: index into an array (choices [true, false, false, true, true, false, false])
-- h2: index into an array (choices [true, false, false, true, false, false, false])
-- h2: index into an array (choices [true, false, false, false, false, false])
inductive Dz where
 | h0 (v8:Int)
 | h1 (v3:List R3) (v17:Int)
 | h2 (v5:List R3) (v6:Int) (v7:Int) (aC:Int) (aV:Int) (aM:Int) (aJ:Bool) (aA:List R2)
def G5 (l0:List R2):Dz->BJ
 | .h0 v8=>⟨⟨19,0,true⟩,none,(Zk prog 242 [1,0,1,0,0] 0),none,(Zy prog 3),⟨Xd [(0,(.dat l0.length (Zz l0))),(1,(.fn 227 [])),(7,(ii (l0.length:Int))),(8,(ii v8))],Kf [] 0,0,[],true⟩,[⟨⟨9,0,true⟩,(Xv prog 226 [1,0] 2),(Zk prog 226 [1,0] 1),none,(Zy prog 3),Xd [(5,(.dat l0.length (Zz l0))),(6,(.fn 227 []))]⟩,⟨⟨11,0,true⟩,(Xv prog 200 [1,1,0,0] 1),(Zk prog 200 [1,1,0,0] 1),none,(Zy prog 10),Xd [(0,(.dat l0.length (Zz l0))),(7,(.dat l0.length (Zz l0)))]⟩],.leaf⟩
 | .h1 v3 v17=>⟨⟨38,0,true⟩,none,(Zk prog 233 [1,1,0,1,0,0,1,1,0,0,1,1,0,0] 0),none,(Zy prog 9),⟨Xd [(3,(.sla 7 3 0 v3.length (.un 3))),(4,(ii 0)),(8,(.sl 0 0 2 (.un 1))),(9,(ii 2)),(10,(ii 0)),(15,(.dat l0.length (Zz l0))),(16,(ii (l0.length:Int))),(17,(ii v17))],Kf [⟨[(.dat l0.length (Zz l0)),.nils],233,none⟩,⟨[(.fn 229 [])],245,none⟩,⟨[(ii 0),(ii 0)],307,none⟩,⟨[.nils],233,none⟩,⟨[(ii 0)],3,none⟩,⟨[(.bool false)],4,none⟩,⟨[(.fn 232 [(.ptr 5 0),(.ptr 4 0),(.ptr 3 0)])],180,none⟩,⟨rows v3.length (Zz v3),311,some ⟨3,v3.length,(Zz v3)⟩⟩] 0,8,[],true⟩,[⟨⟨42,0,true⟩,(Xv prog 205 [1,1,1,1,1,0,0] 3),(Zk prog 205 [1,1,1,1,1,0,0] 1),none,(Zy prog 7),Xd [(5,(.ptr 1 0)),(6,.nils),(7,(.ptr 2 0)),(8,(.ptr 3 0)),(9,(.ptr 4 0)),(10,(.ptr 5 0)),(11,(.ptr 6 0)),(16,(.sl 0 0 2 (.un 1)))]⟩,⟨⟨11,0,true⟩,(Xv prog 200 [1,1,1,0] 1),(Zk prog 200 [1,1,1,0] 1),none,(Zy prog 10),Xd [(9,(.dat l0.length (Zz l0)))]⟩],.leaf⟩
 | .h2 v5 v6 v7 aC aV aM aJ aA=>⟨⟨16,0,true⟩,none,(Zk prog 249 [1,0,0] 0),none,[],⟨Xd [(0,(.yld 0)),(5,(.sla 7 3 0 v5.length (.un 3))),(6,(ii v6)),(7,(ii v7))],DT [(1,⟨[(.fn 229 [])],245,none⟩),(2,⟨[(ii aC),(ii aV)],307,none⟩),(3,⟨[(ii aM)],3,none⟩),(4,⟨[(.bool aJ)],4,none⟩),(5,⟨[(.fn 232 [(.ptr 4 0),(.ptr 3 0),(.ptr 6 0)])],180,none⟩),(6,⟨[(.sla 8 2 0 aA.length (.un 2))],233,none⟩),(7,⟨rows v5.length (Zz v5),311,some ⟨3,v5.length,(Zz v5)⟩⟩),(8,⟨rows aA.length (Zz aA),260,some ⟨2,aA.length,(Zz aA)⟩⟩)],9,[],true⟩,[⟨⟨42,0,true⟩,none,(.inRangeFunc 0::(Zk prog 205 [1,1,1,1,1,0,1,0] 1)),none,(Zy prog 7),Xd [(6,.nils),(8,(.ptr 6 0))]⟩,⟨⟨11,0,true⟩,(Xv prog 200 [1,1,1,0] 1),(Zk prog 200 [1,1,1,0] 1),none,(Zy prog 10),Xd [(9,(.dat l0.length (Zz l0)))]⟩],(DR [(0,⟨.ready,none,42,Xd [(5,(.ptr 1 0)),(7,(.ptr 2 0)),(9,(.ptr 3 0)),(10,(.ptr 4 0)),(11,(.ptr 5 0))],[18],(Wy prog 205 [1,1,1,1,1,0,1,0,0]),(Wy prog 205 [1,1,1,1,1,0,1,0,1])⟩)])⟩
def Eq :List (Option (List Nat)):=[some [0,1,7,8],some [5,6],some [0,7]]
def Er :List (Option (List Nat)):=[]
def Iv :List (Option (List Nat)):=[some [3,4,8,9,10,15,16,17],some [5,6,7,8,9,10,11,16],some [9]]
def Iu :List (Option (List Nat)):=[]
def DW :List (Option (List Nat)):=[some [0,5,6,7],some [6,8],some [9]]
def DV :List (Option (List Nat)):=[some [5,7,9,10,11],none,none,none,none,none,none,none,none]
def Wf (l0:List R2):Dz->Wn Dz
 | .h0 v8=>(bif (decide (v8<(l0.length:Int))) then (bif ((decide (0<=v8/\v8<(l0.length:Int)))&&true) then (bif (decide ((rd l0 v8.toNat).a <(rd l0 v8.toNat).b)) then (bif (decide ((rd l0 v8.toNat).a >=(-1000000))) then (bif (!(decide ((rd l0 v8.toNat).b <=1000000))) then (bif (decide (v8>=0)) then (.ret [.nils,(.int .i64 8)]) else (.to (.h1 ([]:List R3) 0))) else (.to (.h0 (wrap .i64 (v8+1))))) else (bif (decide (v8>=0)) then (.ret [.nils,(.int .i64 8)]) else (.to (.h1 ([]:List R3) 0)))) else (bif (decide (v8>=0)) then (.ret [.nils,(.int .i64 8)]) else (.to (.h1 ([]:List R3) 0)))) else .stuck) else (.to (.h1 ([]:List R3) 0)))
 | .h1 v3 v17=>(bif (decide (v17<(l0.length:Int))) then (bif ((decide (0<=v17/\v17<(l0.length:Int)))&&true) then (bif (Nat.beq 3 3&&((decide (0+v3.length=v3.length))&&decide ((v3.length+2+1)*(24+1)<=Kx))) then (.to (.h1 (v3++[(R3.mk (rd l0 v17.toNat).a 0 1),(R3.mk (rd l0 v17.toNat).b 0 (-1))]) (wrap .i64 (v17+1)))) else .stuck) else .stuck) else (bif (C6 (BB v3)) then (bif (decide (v3.length<4611686018427387904)) then (bif (decide (v3.length=v3.length)) then (.to (.h2 (CH (BB v3)) (v3.length:Int) 0 0 0 0 false ([]:List R2))) else .stuck) else .stuck) else .stuck))
 | .h2 v5 v6 v7 aC aV aM aJ aA=>(bif (decide (v7<v6)) then (bif ((decide (0<=v7/\v7<(v5.length:Int)))&&true) then (bif (decide ((0+v7.toNat)<v5.length)) then (bif (!aJ) then (bif (decide ((rd v5 (0+v7.toNat)).b =Int.ofNat 0)) then (.to (.h2 v5 v6 (wrap .i64 (v7+1)) (wrap .i64 (aC+(rd v5 (0+v7.toNat)).c)) aV (rd v5 (0+v7.toNat)).a (Cn (decide ((wrap .i64 (aC+(rd v5 (0+v7.toNat)).c))>0)) (decide (aV>0))) aA)) else (bif (decide ((rd v5 (0+v7.toNat)).b =Int.ofNat 1)) then (.to (.h2 v5 v6 (wrap .i64 (v7+1)) aC (wrap .i64 (aV+(rd v5 (0+v7.toNat)).c)) (rd v5 (0+v7.toNat)).a (Cn (decide (aC>0)) (decide ((wrap .i64 (aV+(rd v5 (0+v7.toNat)).c))>0))) aA)) else .stuck)) else (bif (aM == (rd v5 (0+v7.toNat)).a) then (bif (decide ((rd v5 (0+v7.toNat)).b =Int.ofNat 0)) then (.to (.h2 v5 v6 (wrap .i64 (v7+1)) (wrap .i64 (aC+(rd v5 (0+v7.toNat)).c)) aV (rd v5 (0+v7.toNat)).a (Cn (decide ((wrap .i64 (aC+(rd v5 (0+v7.toNat)).c))>0)) (decide (aV>0))) aA)) else (bif (decide ((rd v5 (0+v7.toNat)).b =Int.ofNat 1)) then (.to (.h2 v5 v6 (wrap .i64 (v7+1)) aC (wrap .i64 (aV+(rd v5 (0+v7.toNat)).c)) (rd v5 (0+v7.toNat)).a (Cn (decide (aC>0)) (decide ((wrap .i64 (aV+(rd v5 (0+v7.toNat)).c))>0))) aA)) else .stuck)) else (bif (decide ((aA.length:Int)>0)) then (bif ((decide (0<=(wrap .i64 ((aA.length:Int) - 1))/\(wrap .i64 ((aA.length:Int) - 1))<(aA.length:Int)))&&true) then (bif (decide ((0+(Int.toNat (wrap .i64 ((aA.length:Int) - 1))))<aA.length)) then (bif ((rd aA (0+(Int.toNat (wrap .i64 ((aA.length:Int) - 1))))).b == aM) then (bif (decide ((rd v5 (0+v7.toNat)).b =Int.ofNat 0)) then (.to (.h2 v5 v6 (wrap .i64 (v7+1)) (wrap .i64 (aC+(rd v5 (0+v7.toNat)).c)) aV (rd v5 (0+v7.toNat)).a (Cn (decide ((wrap .i64 (aC+(rd v5 (0+v7.toNat)).c))>0)) (decide (aV>0))) (aA.set (0+(Int.toNat (wrap .i64 ((aA.length:Int) - 1)))) (R2.mk (rd aA (0+(Int.toNat (wrap .i64 ((aA.length:Int) - 1))))).a (rd v5 (0+v7.toNat)).a)))) else (bif (decide ((rd v5 (0+v7.toNat)).b =Int.ofNat 1)) then (.to (.h2 v5 v6 (wrap .i64 (v7+1)) aC (wrap .i64 (aV+(rd v5 (0+v7.toNat)).c)) (rd v5 (0+v7.toNat)).a (Cn (decide (aC>0)) (decide ((wrap .i64 (aV+(rd v5 (0+v7.toNat)).c))>0))) (aA.set (0+(Int.toNat (wrap .i64 ((aA.length:Int) - 1)))) (R2.mk (rd aA (0+(Int.toNat (wrap .i64 ((aA.length:Int) - 1))))).a (rd v5 (0+v7.toNat)).a)))) else .stuck)) else (bif (Nat.beq 2 2&&((decide (0+aA.length=aA.length))&&decide ((aA.length+1+1)*(16+1)<=Kx))) then (bif (decide ((rd v5 (0+v7.toNat)).b =Int.ofNat 0)) then (.to (.h2 v5 v6 (wrap .i64 (v7+1)) (wrap .i64 (aC+(rd v5 (0+v7.toNat)).c)) aV (rd v5 (0+v7.toNat)).a (Cn (decide ((wrap .i64 (aC+(rd v5 (0+v7.toNat)).c))>0)) (decide (aV>0))) (aA++[(R2.mk aM (rd v5 (0+v7.toNat)).a)]))) else (bif (decide ((rd v5 (0+v7.toNat)).b =Int.ofNat 1)) then (.to (.h2 v5 v6 (wrap .i64 (v7+1)) aC (wrap .i64 (aV+(rd v5 (0+v7.toNat)).c)) (rd v5 (0+v7.toNat)).a (Cn (decide (aC>0)) (decide ((wrap .i64 (aV+(rd v5 (0+v7.toNat)).c))>0))) (aA++[(R2.mk aM (rd v5 (0+v7.toNat)).a)]))) else .stuck)) else .stuck)) else .stuck) else .stuck) else (bif (Nat.beq 2 2&&((decide (0+aA.length=aA.length))&&decide ((aA.length+1+1)*(16+1)<=Kx))) then (bif (decide ((rd v5 (0+v7.toNat)).b =Int.ofNat 0)) then (.to (.h2 v5 v6 (wrap .i64 (v7+1)) (wrap .i64 (aC+(rd v5 (0+v7.toNat)).c)) aV (rd v5 (0+v7.toNat)).a (Cn (decide ((wrap .i64 (aC+(rd v5 (0+v7.toNat)).c))>0)) (decide (aV>0))) (aA++[(R2.mk aM (rd v5 (0+v7.toNat)).a)]))) else (bif (decide ((rd v5 (0+v7.toNat)).b =Int.ofNat 1)) then (.to (.h2 v5 v6 (wrap .i64 (v7+1)) aC (wrap .i64 (aV+(rd v5 (0+v7.toNat)).c)) (rd v5 (0+v7.toNat)).a (Cn (decide (aC>0)) (decide ((wrap .i64 (aV+(rd v5 (0+v7.toNat)).c))>0))) (aA++[(R2.mk aM (rd v5 (0+v7.toNat)).a)]))) else .stuck)) else .stuck)))) else .stuck) else .stuck) else (.ret [(.dat aA.length (Zz aA)),(.int .i64 0)]))
def KI (l0:List R2):Wn Dz:=(bif (decide ((l0.length:Int)>400)) then (.ret [.nils,(.int .i64 4)]) else (.to (.h0 0)))
theorem Y1 (l0:List R2): ∀s,Wi prog (Zy prog 200) (G5 l0) (G5 l0 s) (Wf l0 s)
 | .h0 v8=>let b:=fl ([]:List R3) nn;(lb (fun k0=>(lo fun aF=>let a:=ww aF (tt k0 nn);(lb (fun k1=>(lb (fun k2=>let c:=tt k2 (tt k1 a);(lb (fun k3=>(lb (fun k4=>(lr 11 200 [1,1,0,1,0,0] 1 10 [(2,.nils),(3,(ii 8))] (sl Up 79 [] (a7 [2,3]) a6 (BQ 9 []) (tt k4 (tt k3 c))))) (fun k4=>(sl Up 154 [(311,3,Zz ([]:List R3))] ⟨[8,2,3,4,5,6,7,9],[],Iv,Iu⟩ ⟨[(3,.grow 7 3)],[],[]⟩ (BQ 8 (bl 2 2)) (pp b (tt k4 (tt k3 c))))))) (fun k3=>(sl Up 69 [] ⟨[],[],Eq,Er⟩ a6 (BQ 7 [false]) (tt k3 c))))) (fun k2=>let d:=tt k2 (tt k1 a);(lb (fun k3=>(lr 11 200 [1,1,0,1,0,0] 1 10 [(2,.nils),(3,(ii 8))] (sl Up 79 [] (a7 [2,3]) a6 (BQ 4 (bl 5 24)) (tt k3 d)))) (fun k3=>(sl Up 154 [(311,3,Zz ([]:List R3))] ⟨[8,2,3,4,5,6,7,9],[],Iv,Iu⟩ ⟨[(3,.grow 7 3)],[],[]⟩ (BQ 4 (bl 6 40)) (pp b (tt k3 d)))))))) (fun k1=>(lb (fun k2=>(lr 11 200 [1,1,0,1,0,0] 1 10 [(2,.nils),(3,(ii 8))] (sl Up 79 [] (a7 [2,3]) a6 (bl 9 385) (tt k2 (tt k1 a))))) (fun k2=>(sl Up 154 [(311,3,Zz ([]:List R3))] ⟨[8,2,3,4,5,6,7,9],[],Iv,Iu⟩ ⟨[(3,.grow 7 3)],[],[]⟩ (bl 10 641) (pp b (tt k2 (tt k1 a)))))))))) (fun k0=>(sl Up 98 [(311,3,Zz ([]:List R3))] ⟨[6,0,1,2,3,4,5,7],[],Iv,Iu⟩ ⟨[(3,.grow 7 3)],[],[]⟩ (bl 3 4) (pp b (tt k0 nn)))))
 | .h1 v3 v17=>(lb (fun k0=>(lo fun o0=>(lo fun o1=>let h:=rd l0 (tn v17);let c:=v3++[(R3.mk h.a 0 1),(R3.mk h.b 0 (-1))];let d:=xL (v3.length+2) (v3++[(R3.mk (rd l0 (tn v17)).a 0 1),(R3.mk (rd l0 (tn v17)).b 0 (-1))]).length;(sl Up 36 [] ⟨[0,1,2,3,4,5,6,10],[],Iv,Iu⟩ ⟨[(3,.len c.length)],(EQ 7 [.rowed 3 c.length (Zz c)]),[]⟩ [true] (pp d (pp d (pp (xS (v3.length+2) (Zn (Zz v3) 0 v3.length 3 [(ii (rd l0 (tn v17)).a),(ii 0),(ii 1),(ii (rd l0 (tn v17)).b),(ii 0),(ii (-1))]) (Zz (v3++[(R3.mk (rd l0 (tn v17)).a 0 1),(R3.mk (rd l0 (tn v17)).b 0 (-1))]))) (pp (pp (xF (Zn (Zz v3) 0 v3.length 3 [(ii (rd l0 (tn v17)).a),(ii 0),(ii 1),(ii (rd l0 (tn v17)).b),(ii 0),(ii (-1))])) nn) (ww o1 (ww o0 (tt k0 nn))))))))))) (fun k0=>(lo fun o0=>(lo fun o1=>(lo fun o2=>let e:=xL v3.length (CH (BB v3)).length (by first | exact UG _ | exact Jj rfl);let f:=CH (BB v3);let g:=xG (Nat.beq 3 3);(sl Up 92 [(260,2,Zz ([]:List R2))] ⟨[9,1,2,4,5,6,3,7,10],[],DW,DV⟩ ⟨[(5,.len f.length)],(EQ 6 [.cells [.grow 8 2],.rowed 3 f.length (Zz f),.keep]),[]⟩ (bl 4 2) (pp e (pp e (pp (xS v3.length (Zz (CH (BB v3))) (Zz (CH (BB v3)))) (pp (fl f (fl ([]:List R2) nn)) (pp (pp g (pp g (pp (xG (Nat.beq 0 0)) (pp (pp (xG (decide (v3.length=v3.length))) (pp (xr v3) (xG (decide (v3.length<4611686018427387904))))) (xG (C6 (BB v3))))))) (tt k0 nn))))))))))))
 | .h2 v5 v6 v7 aC aV aM aJ aA=>(lb (fun k0=>(lo fun aF=>(lo fun aN=>let o:=List.range 9;let p:=fl v5 (fl aA nn);let q:=ww aN (ww aF (tt k0 nn));(lb (fun k1=>(lb (fun k2=>(sl Up 62 [] ⟨o,[],DW,DV⟩ a6 (BQ 5 (bl 3 0)) (pp p (ww k2 (tt k1 q))))) (fun k2=>(lb (fun k3=>(sl Up 62 [] ⟨o,[],DW,DV⟩ a6 (BQ 6 (bl 4 2)) (pp p (ww k3 (tt k1 q))))) (fun k3=>trivial))))) (fun k1=>let d:=tt k1 q;(lb (fun k2=>(lb (fun k3=>(sl Up 62 [] ⟨o,[],DW,DV⟩ a6 (bl 8 17) (pp p (ww k3 (tt k2 d))))) (fun k3=>(lb (fun k4=>(sl Up 62 [] ⟨o,[],DW,DV⟩ a6 (bl 10 177) (pp p (ww k4 (tt k2 d))))) (fun k4=>trivial))))) (fun k2=>let u:=rd v5 (0+(tn v7));let h:=aA++[(R2.mk aM u.a)];let c:=EQ 6 [.cells [.len h.length],.keep,.rowed 2 h.length (Zz h)];(lb (fun k3=>(lo fun bT=>(lo fun bW=>let g:=ww bW (ww bT (tt k3 (tt k2 d)));(lb (fun k4=>let r:=tn (wr ((aA.length:Int) - 1));let b:=aA.set (0+r) (R2.mk (rd aA (0+r)).a u.a);let n:=EQ 6 [.cells [.len b.length],.keep,.rowed 2 b.length (Zz b)];let s:=ww bW (ww bT (tt k4 g));(lb (fun k5=>let f:=xL aA.length (aA.set (0+(tn (wr ((aA.length:Int) - 1)))) (R2.mk (rd aA (0+(tn (wr ((aA.length:Int) - 1))))).a (rd v5 (0+(tn v7))).a)).length;(sl Up 81 [] ⟨o,[],DW,DV⟩ ⟨[],n,[]⟩ (bl 17 16353) (pp f (pp f (pp (xS aA.length (Xa (Zz aA) (0+(tn (wr ((aA.length:Int) - 1)))) 1 [(ii (rd v5 (0+(tn v7))).a)]) (Zz (aA.set (0+(tn (wr ((aA.length:Int) - 1)))) (R2.mk (rd aA (0+(tn (wr ((aA.length:Int) - 1))))).a (rd v5 (0+(tn v7))).a)))) (pp (fl v5 (pp (xF (Xa (Zz aA) (0+(tn (wr ((aA.length:Int) - 1)))) 1 [(ii (rd v5 (0+(tn v7))).a)])) nn)) (ww k5 s))))))) (fun k5=>(lb (fun k6=>let e:=xL aA.length (aA.set (0+(tn (wr ((aA.length:Int) - 1)))) (R2.mk (rd aA (0+(tn (wr ((aA.length:Int) - 1))))).a (rd v5 (0+(tn v7))).a)).length;(sl Up 81 [] ⟨o,[],DW,DV⟩ ⟨[],n,[]⟩ (bl 19 98273) (pp e (pp e (pp (xS aA.length (Xa (Zz aA) (0+(tn (wr ((aA.length:Int) - 1)))) 1 [(ii (rd v5 (0+(tn v7))).a)]) (Zz (aA.set (0+(tn (wr ((aA.length:Int) - 1)))) (R2.mk (rd aA (0+(tn (wr ((aA.length:Int) - 1))))).a (rd v5 (0+(tn v7))).a)))) (pp (fl v5 (pp (xF (Xa (Zz aA) (0+(tn (wr ((aA.length:Int) - 1)))) 1 [(ii (rd v5 (0+(tn v7))).a)])) nn)) (ww k6 s))))))) (fun k6=>trivial))))) (fun k4=>(lo fun bX=>let v:=ww bX (tt k4 g);(lb (fun k5=>let i:=xL (aA.length+1) (aA++[(R2.mk aM (rd v5 (0+(tn v7))).a)]).length;(sl Up 81 [] ⟨[0,1,2,3,4,5,6,7,12],[],DW,DV⟩ ⟨[],c,[]⟩ (bl 17 8161) (pp i (pp i (pp (xS (aA.length+1) (Zn (Zz aA) 0 aA.length 2 [(ii aM),(ii (rd v5 (0+(tn v7))).a)]) (Zz (aA++[(R2.mk aM (rd v5 (0+(tn v7))).a)]))) (pp (fl v5 (pp (xF (Zn (Zz aA) 0 aA.length 2 [(ii aM),(ii (rd v5 (0+(tn v7))).a)])) nn)) (ww k5 v))))))) (fun k5=>(lb (fun k6=>let m:=xL (aA.length+1) (aA++[(R2.mk aM (rd v5 (0+(tn v7))).a)]).length;(sl Up 81 [] ⟨[0,1,2,3,4,5,6,7,12],[],DW,DV⟩ ⟨[],c,[]⟩ (bl 19 90081) (pp m (pp m (pp (xS (aA.length+1) (Zn (Zz aA) 0 aA.length 2 [(ii aM),(ii (rd v5 (0+(tn v7))).a)]) (Zz (aA++[(R2.mk aM (rd v5 (0+(tn v7))).a)]))) (pp (fl v5 (pp (xF (Zn (Zz aA) 0 aA.length 2 [(ii aM),(ii (rd v5 (0+(tn v7))).a)])) nn)) (ww k6 v))))))) (fun k6=>trivial)))))))))) (fun k3=>(lo fun bT=>let t:=ww bT (tt k3 (tt k2 d));(lb (fun k4=>let j:=xL (aA.length+1) (aA++[(R2.mk aM (rd v5 (0+(tn v7))).a)]).length;(sl Up 81 [] ⟨[0,1,2,3,4,5,6,7,12],[],DW,DV⟩ ⟨[],c,[]⟩ (bl 17 1) (pp j (pp j (pp (xS (aA.length+1) (Zn (Zz aA) 0 aA.length 2 [(ii aM),(ii (rd v5 (0+(tn v7))).a)]) (Zz (aA++[(R2.mk aM (rd v5 (0+(tn v7))).a)]))) (pp (fl v5 (pp (xF (Zn (Zz aA) 0 aA.length 2 [(ii aM),(ii (rd v5 (0+(tn v7))).a)])) nn)) (ww k4 t))))))) (fun k4=>(lb (fun k5=>let l:=xL (aA.length+1) (aA++[(R2.mk aM (rd v5 (0+(tn v7))).a)]).length;(sl Up 81 [] ⟨[0,1,2,3,4,5,6,7,12],[],DW,DV⟩ ⟨[],c,[]⟩ (bl 19 81921) (pp l (pp l (pp (xS (aA.length+1) (Zn (Zz aA) 0 aA.length 2 [(ii aM),(ii (rd v5 (0+(tn v7))).a)]) (Zz (aA++[(R2.mk aM (rd v5 (0+(tn v7))).a)]))) (pp (fl v5 (pp (xF (Zn (Zz aA) 0 aA.length 2 [(ii aM),(ii (rd v5 (0+(tn v7))).a)])) nn)) (ww k5 t))))))) (fun k5=>trivial)))))))))))))) (fun k0=>(lr 11 3 [1,1,1,1,1,1,0] 1 10 [(2,(.dat aA.length (Zz aA))),(3,(ii 0))] (sl Up 19 [] ⟨[],[8],[some [2,3]],[]⟩ ⟨[(2,.frz aA.length aA.length (Zz aA) (Zz aA))],[],[]⟩ [false] (pp (xZ (C7 2 2 0 aA.length aA.length (Zz aA)) aA.length (Zz aA)) (pp (xL aA.length aA.length) (pp (xS aA.length (Zz aA) (Zz aA)) (pp (fl aA nn) (tt k0 nn)))))))))
theorem Tn (l0:List R2):Wi prog (Zy prog 200) (G5 l0) (startC prog 200 [(.dat l0.length (Zz l0))] true []) (KI l0):=(lb (fun k0=>(lr 11 200 [1,0,1,0,0] 1 10 [(2,.nils),(3,(ii 4))] (sl Up 18 [] (a7 [2,3]) a6 [true] (tt k0 nn)))) (fun k0=>(sl Up 41 [] ⟨[],[],Eq,Er⟩ a6 [false] (tt k0 nn))))
theorem VX (l0:List R2) (n:Nat) (vs:List BA) (h:Yr (Wf l0) n (KI l0)=.ret vs):BV prog (Zy prog 200) (startC prog 200 [(.dat l0.length (Zz l0))] true []) vs:=by have:=Yy (Y1 l0) n _ (Tn l0);rwa [h] at this
end Go.Am
end
