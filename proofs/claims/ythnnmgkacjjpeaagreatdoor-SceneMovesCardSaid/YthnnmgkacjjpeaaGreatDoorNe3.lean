/- A part of a proof: several texts in one. -/
import Derived.Test.YthnnmgkacjjpeaaGreatDoorNe2
import Derived.Ground.SlsfProg
import Derived.Shelf.SlSortCmp.WholeK
import Derived.Shelf.Strings.Builder1
import Derived.Shelf.Strings.Builder2
import Derived.Shelf.Strings.OnBuilder
import Derived.Shelf.Small.Bits
import Derived.Shelf.Strconv.Atoi
import Derived.Shelf.Strconv.Itoa0
import Derived.Shelf.Strconv.Itoa1
import Derived.Shelf.LaysM
import Derived.Shelf.Strconv.Itoa2
import Derived.Shelf.Strconv.Itoa3
import Derived.Shelf.Strconv.AtoiErrFast
import Derived.Shelf.Strconv.ParseIntEmpty
import Derived.Shelf.Strconv.AtoiFail
import Derived.Shelf.Strconv.Clone
import Derived.Shelf.Strconv.SyntaxError
import Derived.Shelf.LaysC
import Derived.Shelf.Strconv.ToError
import Derived.Shelf.Strconv.Lower
import Derived.Shelf.Strconv.ParseUint10
import Derived.Shelf.Strconv.ParseUint10Empty
import Derived.Shelf.Strconv.ParseUint10Any
import Derived.Shelf.Strconv.ParseInt10
import Derived.Shelf.Strconv.AtoiLong
import Derived.Shelf.Strconv.AtoiInnerAll
import Derived.Shelf.Strconv.RangeError
import Derived.Shelf.Strconv.ToErrorRange
import Derived.Shelf.Strconv.AtoiAll
import Derived.Shelf.Strings.Search1
import Derived.Shelf.Strings.Search2
import Derived.Shelf.Strings.Search3
import Derived.Shelf.Strings.Cut
import Derived.Shelf.Strings.Count
import Derived.Shelf.Strings.Shaped
import Derived.Shelf.Sort.Plain
import Derived.Shelf.Strings.LastIndex
import Derived.Shelf.Strings.Prefix
import Derived.Shelf.Strings.Split
import Derived.Shelf.Unicode.DecodeSlow
import Derived.Ground.Names2Prog
import Derived.Shelf.Slices.ReverseS
import Derived.Shelf.Slices.CompactI
import Derived.Shelf.Slices.SearchI
import Derived.Shelf.Slices.Cells
import Derived.Shelf.Slices.In.SortNone
import Derived.Test.YthnnmgkacjjpeaaGreatDoorProg
import Derived.Below
import Derived.Sort.AssemblyPlain
import Derived.Lib.BitFns
import Derived.Shelf.GgSortFunc.InsertionK
import Derived.Shelf.SlSortCmp.NoneTotal
set_option maxRecDepth 1000000
set_option maxHeartbeats 8000000
set_option linter.unusedVariables false
set_option linter.unusedSimpArgs false
noncomputable section
namespace Go.Proofs
open Go.Proofs.Tryz
open Go.Shelf
def Tryz.lays169_ren :Go.Shelf.Ren:=⟨fun | 169=>75 | n=>n,fun | 70=>72 | 9=>9 | 0=>0 | 72=>75 | 37=>73 | 127=>181 | 3=>3 | 5=>5 | n=>n,fun | n=>n⟩
theorem Tryz.lays169 :Go.Proofs.Lays.n169 prog Tryz.lays169_ren:={
 mixed:=by kernel_rfl
 f169:=Tryz.func75.trans (congrArg some (by kernel_rfl))
 t0:=Tryz.underlying0
 a0:=Tryz.isAgg0
 z0:=Tryz.sizeOf0
 v0:=Tryz.zeroValue0
 t3:=Tryz.underlying3
 a3:=Tryz.isAgg3
 z3:=Tryz.sizeOf3
 v3:=Tryz.zeroValue3
 t9:=Tryz.underlying9
 a9:=Tryz.isAgg9
 z9:=Tryz.sizeOf9
 v9:=Tryz.zeroValue9
 t37:=Tryz.underlying73
 a37:=Tryz.isAgg73
 z37:=Tryz.sizeOf73
 v37:=Tryz.zeroValue73
 t70:=Tryz.underlying72
 a70:=Tryz.isAgg72
 z70:=Tryz.sizeOf72
 v70:=Tryz.zeroValue72
 t72:=Tryz.underlying75
 a72:=Tryz.isAgg75
 z72:=Tryz.sizeOf75
 v72:=Tryz.zeroValue75
 t127:=Tryz.underlying181
 a127:=Tryz.isAgg181
 z127:=Tryz.sizeOf181
 v127:=Tryz.zeroValue181}
theorem Tryz.Builder_Extra_169 :Builder.Extra prog Tryz.lays169_ren:={
 sizeBuilder:=by kernel_rfl
 liesBuilder:=by kernel_rfl
 t5:=Tryz.underlying5
 a5:=Tryz.isAgg5
 z5:=Tryz.sizeOf5
 v5:=Tryz.zeroValue5
 infoByte:=by kernel_rfl
 cellsByte:=by kernel_rfl
 sizeByte:=by kernel_rfl
 neB5:=by decide}
def Tryz.lays156_ren :Go.Shelf.Ren:=⟨fun | 156=>73 | 165=>111 | 166=>68 | 169=>75 | 240=>108 | 241=>147 | 276=>145 | 277=>179 | n=>n,fun | 31=>70 | 9=>9 | 3=>3 | 4=>4 | 0=>0 | 20=>20 | 72=>75 | 76=>125 | 70=>72 | 37=>73 | 75=>124 | 127=>181 | 164=>210 | 5=>5 | 80=>134 | n=>n,fun | n=>n⟩
theorem Tryz.lays156 :Go.Proofs.Lays.n156 prog Tryz.lays156_ren:={
 mixed:=by kernel_rfl
 f156:=Tryz.func73.trans (congrArg some (by kernel_rfl))
 f165:=Tryz.func111.trans (congrArg some (by kernel_rfl))
 f166:=Tryz.func68.trans (congrArg some (by kernel_rfl))
 f169:=Tryz.func75.trans (congrArg some (by kernel_rfl))
 f240:=Tryz.func108.trans (congrArg some (by kernel_rfl))
 f241:=Tryz.func147.trans (congrArg some (by kernel_rfl))
 f276:=Tryz.func145.trans (congrArg some (by kernel_rfl))
 f277:=Tryz.func179.trans (congrArg some (by kernel_rfl))
 t0:=Tryz.underlying0
 a0:=Tryz.isAgg0
 z0:=Tryz.sizeOf0
 v0:=Tryz.zeroValue0
 t3:=Tryz.underlying3
 a3:=Tryz.isAgg3
 z3:=Tryz.sizeOf3
 v3:=Tryz.zeroValue3
 t4:=Tryz.underlying4
 a4:=Tryz.isAgg4
 z4:=Tryz.sizeOf4
 v4:=Tryz.zeroValue4
 t9:=Tryz.underlying9
 a9:=Tryz.isAgg9
 z9:=Tryz.sizeOf9
 v9:=Tryz.zeroValue9
 t20:=Tryz.underlying20
 a20:=Tryz.isAgg20
 z20:=Tryz.sizeOf20
 v20:=Tryz.zeroValue20
 t31:=Tryz.underlying70
 a31:=Tryz.isAgg70
 z31:=Tryz.sizeOf70
 v31:=Tryz.zeroValue70
 t37:=Tryz.underlying73
 a37:=Tryz.isAgg73
 z37:=Tryz.sizeOf73
 v37:=Tryz.zeroValue73
 t70:=Tryz.underlying72
 a70:=Tryz.isAgg72
 z70:=Tryz.sizeOf72
 v70:=Tryz.zeroValue72
 t72:=Tryz.underlying75
 a72:=Tryz.isAgg75
 z72:=Tryz.sizeOf75
 v72:=Tryz.zeroValue75
 t75:=Tryz.underlying124
 a75:=Tryz.isAgg124
 z75:=Tryz.sizeOf124
 v75:=Tryz.zeroValue124
 t76:=Tryz.underlying125
 a76:=Tryz.isAgg125
 z76:=Tryz.sizeOf125
 v76:=Tryz.zeroValue125
 t127:=Tryz.underlying181
 a127:=Tryz.isAgg181
 z127:=Tryz.sizeOf181
 v127:=Tryz.zeroValue181
 t164:=Tryz.underlying210
 a164:=Tryz.isAgg210
 z164:=Tryz.sizeOf210
 v164:=Tryz.zeroValue210}
theorem Tryz.Builder_Extra_156 :Builder.Extra prog Tryz.lays156_ren:={
 sizeBuilder:=by kernel_rfl
 liesBuilder:=by kernel_rfl
 t5:=Tryz.underlying5
 a5:=Tryz.isAgg5
 z5:=Tryz.sizeOf5
 v5:=Tryz.zeroValue5
 infoByte:=by kernel_rfl
 cellsByte:=by kernel_rfl
 sizeByte:=by kernel_rfl
 neB5:=by decide}
def Tryz.laysM171_ren :Go.Shelf.Ren:=⟨fun | 171=>70 | 243=>109 | 246=>146 | 283=>175 | 284=>176 | 285=>177 | 286=>178 | 129=>207 | 317=>206 | 318=>208 | 319=>209 | 320=>210 | 337=>234 | 338=>235 | n=>n,fun | 3=>3 | 9=>9 | 2=>2 | 4=>4 | 171=>246 | 0=>0 | 53=>247 | 37=>73 | 5=>5 | 173=>250 | 212=>282 | 51=>283 | 20=>20 | 213=>284 | 46=>262 | 232=>324 | 233=>325 | n=>n,fun | 17=>3 | 18=>6 | 19=>7 | n=>n⟩
theorem Tryz.laysM171 :Go.Proofs.LaysM.n171 prog Tryz.laysM171_ren:={
 mixed:=by kernel_rfl
 f129:=Tryz.func207.trans (congrArg some (by kernel_rfl))
 f171:=Tryz.func70.trans (congrArg some (by kernel_rfl))
 f243:=Tryz.func109.trans (congrArg some (by kernel_rfl))
 f246:=Tryz.func146.trans (congrArg some (by kernel_rfl))
 f283:=Tryz.func175.trans (congrArg some (by kernel_rfl))
 f284:=Tryz.func176.trans (congrArg some (by kernel_rfl))
 f285:=Tryz.func177.trans (congrArg some (by kernel_rfl))
 f286:=Tryz.func178.trans (congrArg some (by kernel_rfl))
 f317:=Tryz.func206.trans (congrArg some (by kernel_rfl))
 f318:=Tryz.func208.trans (congrArg some (by kernel_rfl))
 f319:=Tryz.func209.trans (congrArg some (by kernel_rfl))
 f320:=Tryz.func210.trans (congrArg some (by kernel_rfl))
 f337:=Tryz.func234.trans (congrArg some (by kernel_rfl))
 f338:=Tryz.func235.trans (congrArg some (by kernel_rfl))
 t0:=Tryz.underlying0
 a0:=Tryz.isAgg0
 z0:=Tryz.sizeOf0
 v0:=Tryz.zeroValue0
 t2:=Tryz.underlying2
 a2:=Tryz.isAgg2
 z2:=Tryz.sizeOf2
 v2:=Tryz.zeroValue2
 t3:=Tryz.underlying3
 a3:=Tryz.isAgg3
 z3:=Tryz.sizeOf3
 v3:=Tryz.zeroValue3
 t4:=Tryz.underlying4
 a4:=Tryz.isAgg4
 z4:=Tryz.sizeOf4
 v4:=Tryz.zeroValue4
 t5:=Tryz.underlying5
 a5:=Tryz.isAgg5
 z5:=Tryz.sizeOf5
 v5:=Tryz.zeroValue5
 t9:=Tryz.underlying9
 a9:=Tryz.isAgg9
 z9:=Tryz.sizeOf9
 v9:=Tryz.zeroValue9
 t20:=Tryz.underlying20
 a20:=Tryz.isAgg20
 z20:=Tryz.sizeOf20
 v20:=Tryz.zeroValue20
 t37:=Tryz.underlying73
 a37:=Tryz.isAgg73
 z37:=Tryz.sizeOf73
 v37:=Tryz.zeroValue73
 t46:=Tryz.underlying262
 a46:=Tryz.isAgg262
 z46:=Tryz.sizeOf262
 v46:=Tryz.zeroValue262
 t51:=Tryz.underlying283
 a51:=Tryz.isAgg283
 z51:=Tryz.sizeOf283
 v51:=Tryz.zeroValue283
 t53:=Tryz.underlying247
 a53:=Tryz.isAgg247
 z53:=Tryz.sizeOf247
 v53:=Tryz.zeroValue247
 t171:=Tryz.underlying246
 a171:=Tryz.isAgg246
 z171:=Tryz.sizeOf246
 v171:=Tryz.zeroValue246
 t173:=Tryz.underlying250
 a173:=Tryz.isAgg250
 z173:=Tryz.sizeOf250
 v173:=Tryz.zeroValue250
 t212:=Tryz.underlying282
 a212:=Tryz.isAgg282
 z212:=Tryz.sizeOf282
 v212:=Tryz.zeroValue282
 t213:=Tryz.underlying284
 a213:=Tryz.isAgg284
 z213:=Tryz.sizeOf284
 t232:=Tryz.underlying324
 a232:=Tryz.isAgg324
 z232:=Tryz.sizeOf324
 v232:=Tryz.zeroValue324
 t233:=Tryz.underlying325
 a233:=Tryz.isAgg325
 z233:=Tryz.sizeOf325
 v233:=Tryz.zeroValue325
 g17:=by kernel_rfl
 g18:=by kernel_rfl
 g19:=by kernel_rfl
 i0:=by kernel_rfl
 i2:=by kernel_rfl
 i3:=by kernel_rfl
 i4:=by kernel_rfl
 i5:=by kernel_rfl
 i9:=by kernel_rfl
 i20:=by kernel_rfl
 i37:=by kernel_rfl
 i46:=by kernel_rfl
 i51:=by kernel_rfl
 i53:=by kernel_rfl
 i171:=by kernel_rfl
 i173:=by kernel_rfl
 i212:=by kernel_rfl
 i232:=by kernel_rfl
 i233:=by kernel_rfl
 m17:=by kernel_rfl
 m18:=by kernel_rfl
 m19:=by kernel_rfl}
def Tryz.laysC172_ren :Go.Shelf.Ren:=⟨fun | 172=>85 | 244=>123 | 245=>124 | 247=>156 | 279=>157 | 280=>158 | 281=>159 | 282=>160 | 287=>192 | 316=>193 | 171=>70 | 205=>194 | 321=>213 | 322=>214 | 243=>109 | 246=>146 | 283=>175 | 284=>176 | 285=>177 | 286=>178 | 129=>207 | 317=>206 | 318=>208 | 319=>209 | 320=>210 | 337=>234 | 338=>235 | n=>n,fun | 9=>9 | 3=>3 | 75=>124 | 76=>125 | 4=>4 | 5=>5 | 167=>219 | 37=>73 | 0=>0 | 85=>220 | 2=>2 | 168=>222 | 53=>247 | 175=>263 | 46=>262 | 210=>267 | 127=>181 | 145=>294 | 143=>292 | 21=>21 | 171=>246 | 173=>250 | 212=>282 | 51=>283 | 20=>20 | 213=>284 | 232=>324 | 233=>325 | 80=>134 | n=>n,fun | 15=>1 | 16=>2 | 17=>3 | 18=>6 | 19=>7 | n=>n⟩
theorem Tryz.laysC172 :Go.Proofs.LaysC.n172 prog Tryz.laysC172_ren:={
 mixed:=by kernel_rfl
 f129:=Tryz.func207.trans (congrArg some (by kernel_rfl))
 f171:=Tryz.func70.trans (congrArg some (by kernel_rfl))
 f172:=Tryz.func85.trans (congrArg some (by kernel_rfl))
 f205:=Tryz.func194.trans (congrArg some (by kernel_rfl))
 f243:=Tryz.func109.trans (congrArg some (by kernel_rfl))
 f244:=Tryz.func123.trans (congrArg some (by kernel_rfl))
 f245:=Tryz.func124.trans (congrArg some (by kernel_rfl))
 f246:=Tryz.func146.trans (congrArg some (by kernel_rfl))
 f247:=Tryz.func156.trans (congrArg some (by kernel_rfl))
 f279:=Tryz.func157.trans (congrArg some (by kernel_rfl))
 f280:=Tryz.func158.trans (congrArg some (by kernel_rfl))
 f281:=Tryz.func159.trans (congrArg some (by kernel_rfl))
 f282:=Tryz.func160.trans (congrArg some (by kernel_rfl))
 f283:=Tryz.func175.trans (congrArg some (by kernel_rfl))
 f284:=Tryz.func176.trans (congrArg some (by kernel_rfl))
 f285:=Tryz.func177.trans (congrArg some (by kernel_rfl))
 f286:=Tryz.func178.trans (congrArg some (by kernel_rfl))
 f287:=Tryz.func192.trans (congrArg some (by kernel_rfl))
 f316:=Tryz.func193.trans (congrArg some (by kernel_rfl))
 f317:=Tryz.func206.trans (congrArg some (by kernel_rfl))
 f318:=Tryz.func208.trans (congrArg some (by kernel_rfl))
 f319:=Tryz.func209.trans (congrArg some (by kernel_rfl))
 f320:=Tryz.func210.trans (congrArg some (by kernel_rfl))
 f321:=Tryz.func213.trans (congrArg some (by kernel_rfl))
 f322:=Tryz.func214.trans (congrArg some (by kernel_rfl))
 f337:=Tryz.func234.trans (congrArg some (by kernel_rfl))
 f338:=Tryz.func235.trans (congrArg some (by kernel_rfl))
 t0:=Tryz.underlying0
 a0:=Tryz.isAgg0
 z0:=Tryz.sizeOf0
 v0:=Tryz.zeroValue0
 t2:=Tryz.underlying2
 a2:=Tryz.isAgg2
 z2:=Tryz.sizeOf2
 v2:=Tryz.zeroValue2
 t3:=Tryz.underlying3
 a3:=Tryz.isAgg3
 z3:=Tryz.sizeOf3
 v3:=Tryz.zeroValue3
 t4:=Tryz.underlying4
 a4:=Tryz.isAgg4
 z4:=Tryz.sizeOf4
 v4:=Tryz.zeroValue4
 t5:=Tryz.underlying5
 a5:=Tryz.isAgg5
 z5:=Tryz.sizeOf5
 v5:=Tryz.zeroValue5
 t9:=Tryz.underlying9
 a9:=Tryz.isAgg9
 z9:=Tryz.sizeOf9
 v9:=Tryz.zeroValue9
 t20:=Tryz.underlying20
 a20:=Tryz.isAgg20
 z20:=Tryz.sizeOf20
 v20:=Tryz.zeroValue20
 t21:=Tryz.underlying21
 a21:=Tryz.isAgg21
 z21:=Tryz.sizeOf21
 v21:=Tryz.zeroValue21
 t37:=Tryz.underlying73
 a37:=Tryz.isAgg73
 z37:=Tryz.sizeOf73
 v37:=Tryz.zeroValue73
 t46:=Tryz.underlying262
 a46:=Tryz.isAgg262
 z46:=Tryz.sizeOf262
 v46:=Tryz.zeroValue262
 t51:=Tryz.underlying283
 a51:=Tryz.isAgg283
 z51:=Tryz.sizeOf283
 v51:=Tryz.zeroValue283
 t53:=Tryz.underlying247
 a53:=Tryz.isAgg247
 z53:=Tryz.sizeOf247
 v53:=Tryz.zeroValue247
 t75:=Tryz.underlying124
 a75:=Tryz.isAgg124
 z75:=Tryz.sizeOf124
 v75:=Tryz.zeroValue124
 t76:=Tryz.underlying125
 a76:=Tryz.isAgg125
 z76:=Tryz.sizeOf125
 v76:=Tryz.zeroValue125
 t85:=Tryz.underlying220
 a85:=Tryz.isAgg220
 z85:=Tryz.sizeOf220
 v85:=Tryz.zeroValue220
 t127:=Tryz.underlying181
 a127:=Tryz.isAgg181
 z127:=Tryz.sizeOf181
 v127:=Tryz.zeroValue181
 t143:=Tryz.underlying292
 a143:=Tryz.isAgg292
 z143:=Tryz.sizeOf292
 v143:=Tryz.zeroValue292
 t145:=Tryz.underlying294
 a145:=Tryz.isAgg294
 z145:=Tryz.sizeOf294
 v145:=Tryz.zeroValue294
 t167:=Tryz.underlying219
 a167:=Tryz.isAgg219
 z167:=Tryz.sizeOf219
 v167:=Tryz.zeroValue219
 t168:=Tryz.underlying222
 a168:=Tryz.isAgg222
 z168:=Tryz.sizeOf222
 v168:=Tryz.zeroValue222
 t171:=Tryz.underlying246
 a171:=Tryz.isAgg246
 z171:=Tryz.sizeOf246
 v171:=Tryz.zeroValue246
 t173:=Tryz.underlying250
 a173:=Tryz.isAgg250
 z173:=Tryz.sizeOf250
 v173:=Tryz.zeroValue250
 t175:=Tryz.underlying263
 a175:=Tryz.isAgg263
 z175:=Tryz.sizeOf263
 v175:=Tryz.zeroValue263
 t210:=Tryz.underlying267
 a210:=Tryz.isAgg267
 z210:=Tryz.sizeOf267
 v210:=Tryz.zeroValue267
 t212:=Tryz.underlying282
 a212:=Tryz.isAgg282
 z212:=Tryz.sizeOf282
 v212:=Tryz.zeroValue282
 t213:=Tryz.underlying284
 a213:=Tryz.isAgg284
 z213:=Tryz.sizeOf284
 t232:=Tryz.underlying324
 a232:=Tryz.isAgg324
 z232:=Tryz.sizeOf324
 v232:=Tryz.zeroValue324
 t233:=Tryz.underlying325
 a233:=Tryz.isAgg325
 z233:=Tryz.sizeOf325
 v233:=Tryz.zeroValue325
 g15:=by kernel_rfl
 g16:=by kernel_rfl
 g17:=by kernel_rfl
 g18:=by kernel_rfl
 g19:=by kernel_rfl
 t80:=Tryz.underlying134
 a80:=Tryz.isAgg134
 z80:=Tryz.sizeOf134
 v80:=Tryz.zeroValue134
 i0:=by kernel_rfl
 i2:=by kernel_rfl
 i3:=by kernel_rfl
 i4:=by kernel_rfl
 i5:=by kernel_rfl
 i9:=by kernel_rfl
 i20:=by kernel_rfl
 i21:=by kernel_rfl
 i37:=by kernel_rfl
 i46:=by kernel_rfl
 i51:=by kernel_rfl
 i53:=by kernel_rfl
 i75:=by kernel_rfl
 i76:=by kernel_rfl
 i80:=by kernel_rfl
 i85:=by kernel_rfl
 i127:=by kernel_rfl
 i143:=by kernel_rfl
 i145:=by kernel_rfl
 i167:=by kernel_rfl
 i168:=by kernel_rfl
 i171:=by kernel_rfl
 i173:=by kernel_rfl
 i175:=by kernel_rfl
 i210:=by kernel_rfl
 i212:=by kernel_rfl
 i232:=by kernel_rfl
 i233:=by kernel_rfl
 m15:=by kernel_rfl
 m16:=by kernel_rfl
 m17:=by kernel_rfl
 m18:=by kernel_rfl
 m19:=by kernel_rfl
 c0:=by kernel_rfl
 c2:=by kernel_rfl
 c3:=by kernel_rfl
 c4:=by kernel_rfl
 c5:=by kernel_rfl
 c9:=by kernel_rfl
 c20:=by kernel_rfl
 c21:=by kernel_rfl
 c37:=by kernel_rfl
 c46:=by kernel_rfl
 c51:=by kernel_rfl
 c53:=by kernel_rfl
 c75:=by kernel_rfl
 c76:=by kernel_rfl
 c80:=by kernel_rfl
 c85:=by kernel_rfl
 c127:=by kernel_rfl
 c143:=by kernel_rfl
 c145:=by kernel_rfl
 c167:=by kernel_rfl
 c168:=by kernel_rfl
 c171:=by kernel_rfl
 c173:=by kernel_rfl
 c175:=by kernel_rfl
 c210:=by kernel_rfl
 c212:=by kernel_rfl
 c213:=by kernel_rfl
 c232:=by kernel_rfl
 c233:=by kernel_rfl}
def Tryz.lays219_ren :Go.Shelf.Ren:=⟨fun | 219=>154 | 217=>188 | 225=>189 | 224=>190 | 267=>191 | 266=>211 | 314=>212 | n=>n,fun | 9=>9 | 3=>3 | 4=>4 | 5=>5 | 46=>262 | 146=>289 | 51=>283 | n=>n,fun | 1=>0 | n=>n⟩
theorem Tryz.lays219 :Go.Proofs.Lays.n219 prog Tryz.lays219_ren:={
 mixed:=by kernel_rfl
 f217:=Tryz.func188.trans (congrArg some (by kernel_rfl))
 f219:=Tryz.func154.trans (congrArg some (by kernel_rfl))
 f224:=Tryz.func190.trans (congrArg some (by kernel_rfl))
 f225:=Tryz.func189.trans (congrArg some (by kernel_rfl))
 f266:=Tryz.func211.trans (congrArg some (by kernel_rfl))
 f267:=Tryz.func191.trans (congrArg some (by kernel_rfl))
 f314:=Tryz.func212.trans (congrArg some (by kernel_rfl))
 t3:=Tryz.underlying3
 a3:=Tryz.isAgg3
 z3:=Tryz.sizeOf3
 v3:=Tryz.zeroValue3
 t4:=Tryz.underlying4
 a4:=Tryz.isAgg4
 z4:=Tryz.sizeOf4
 v4:=Tryz.zeroValue4
 t5:=Tryz.underlying5
 a5:=Tryz.isAgg5
 z5:=Tryz.sizeOf5
 v5:=Tryz.zeroValue5
 t9:=Tryz.underlying9
 a9:=Tryz.isAgg9
 z9:=Tryz.sizeOf9
 v9:=Tryz.zeroValue9
 t46:=Tryz.underlying262
 a46:=Tryz.isAgg262
 z46:=Tryz.sizeOf262
 v46:=Tryz.zeroValue262
 t51:=Tryz.underlying283
 a51:=Tryz.isAgg283
 z51:=Tryz.sizeOf283
 v51:=Tryz.zeroValue283
 t146:=Tryz.underlying289
 a146:=Tryz.isAgg289
 z146:=Tryz.sizeOf289
 v146:=Tryz.zeroValue289
 g1:=by kernel_rfl}
def Tryz.lays138_ren :Go.Shelf.Ren:=⟨fun | 138=>82 | 195=>119 | 218=>120 | 143=>118 | 219=>154 | 217=>188 | 225=>189 | 224=>190 | 267=>191 | 266=>211 | 314=>212 | n=>n,fun | 9=>9 | 3=>3 | 4=>4 | 5=>5 | 0=>0 | 46=>262 | 146=>289 | 51=>283 | n=>n,fun | 1=>0 | n=>n⟩
theorem Tryz.lays138 :Go.Proofs.Lays.n138 prog Tryz.lays138_ren:={
 mixed:=by kernel_rfl
 f138:=Tryz.func82.trans (congrArg some (by kernel_rfl))
 f143:=Tryz.func118.trans (congrArg some (by kernel_rfl))
 f195:=Tryz.func119.trans (congrArg some (by kernel_rfl))
 f217:=Tryz.func188.trans (congrArg some (by kernel_rfl))
 f218:=Tryz.func120.trans (congrArg some (by kernel_rfl))
 f219:=Tryz.func154.trans (congrArg some (by kernel_rfl))
 f224:=Tryz.func190.trans (congrArg some (by kernel_rfl))
 f225:=Tryz.func189.trans (congrArg some (by kernel_rfl))
 f266:=Tryz.func211.trans (congrArg some (by kernel_rfl))
 f267:=Tryz.func191.trans (congrArg some (by kernel_rfl))
 f314:=Tryz.func212.trans (congrArg some (by kernel_rfl))
 t0:=Tryz.underlying0
 a0:=Tryz.isAgg0
 z0:=Tryz.sizeOf0
 v0:=Tryz.zeroValue0
 t3:=Tryz.underlying3
 a3:=Tryz.isAgg3
 z3:=Tryz.sizeOf3
 v3:=Tryz.zeroValue3
 t4:=Tryz.underlying4
 a4:=Tryz.isAgg4
 z4:=Tryz.sizeOf4
 v4:=Tryz.zeroValue4
 t5:=Tryz.underlying5
 a5:=Tryz.isAgg5
 z5:=Tryz.sizeOf5
 v5:=Tryz.zeroValue5
 t9:=Tryz.underlying9
 a9:=Tryz.isAgg9
 z9:=Tryz.sizeOf9
 v9:=Tryz.zeroValue9
 t46:=Tryz.underlying262
 a46:=Tryz.isAgg262
 z46:=Tryz.sizeOf262
 v46:=Tryz.zeroValue262
 t51:=Tryz.underlying283
 a51:=Tryz.isAgg283
 z51:=Tryz.sizeOf283
 v51:=Tryz.zeroValue283
 t146:=Tryz.underlying289
 a146:=Tryz.isAgg289
 z146:=Tryz.sizeOf289
 v146:=Tryz.zeroValue289
 g1:=by kernel_rfl}
def Tryz.lays189_ren :Go.Shelf.Ren:=⟨fun | 189=>161 | 125=>196 | 257=>195 | 128=>224 | 129=>207 | 294=>215 | 295=>216 | 296=>217 | 297=>218 | 298=>219 | 299=>220 | 216=>221 | 300=>222 | 301=>223 | 328=>236 | 329=>237 | 330=>238 | 331=>239 | 332=>240 | 215=>241 | 343=>247 | n=>n,fun | 28=>83 | 3=>3 | 46=>262 | 0=>0 | 51=>283 | 53=>247 | 4=>4 | 183=>297 | 182=>296 | 131=>97 | 5=>5 | 9=>9 | 218=>312 | 222=>91 | 228=>326 | 229=>156 | n=>n,fun | n=>n⟩
theorem Tryz.lays189 :Go.Proofs.Lays.n189 prog Tryz.lays189_ren:={
 mixed:=by kernel_rfl
 f125:=Tryz.func196.trans (congrArg some (by kernel_rfl))
 f128:=Tryz.func224.trans (congrArg some (by kernel_rfl))
 f129:=Tryz.func207.trans (congrArg some (by kernel_rfl))
 f189:=Tryz.func161.trans (congrArg some (by kernel_rfl))
 f215:=Tryz.func241.trans (congrArg some (by kernel_rfl))
 f216:=Tryz.func221.trans (congrArg some (by kernel_rfl))
 f257:=Tryz.func195.trans (congrArg some (by kernel_rfl))
 f294:=Tryz.func215.trans (congrArg some (by kernel_rfl))
 f295:=Tryz.func216.trans (congrArg some (by kernel_rfl))
 f296:=Tryz.func217.trans (congrArg some (by kernel_rfl))
 f297:=Tryz.func218.trans (congrArg some (by kernel_rfl))
 f298:=Tryz.func219.trans (congrArg some (by kernel_rfl))
 f299:=Tryz.func220.trans (congrArg some (by kernel_rfl))
 f300:=Tryz.func222.trans (congrArg some (by kernel_rfl))
 f301:=Tryz.func223.trans (congrArg some (by kernel_rfl))
 f328:=Tryz.func236.trans (congrArg some (by kernel_rfl))
 f329:=Tryz.func237.trans (congrArg some (by kernel_rfl))
 f330:=Tryz.func238.trans (congrArg some (by kernel_rfl))
 f331:=Tryz.func239.trans (congrArg some (by kernel_rfl))
 f332:=Tryz.func240.trans (congrArg some (by kernel_rfl))
 f343:=Tryz.func247.trans (congrArg some (by kernel_rfl))
 t0:=Tryz.underlying0
 a0:=Tryz.isAgg0
 z0:=Tryz.sizeOf0
 v0:=Tryz.zeroValue0
 t3:=Tryz.underlying3
 a3:=Tryz.isAgg3
 z3:=Tryz.sizeOf3
 v3:=Tryz.zeroValue3
 t4:=Tryz.underlying4
 a4:=Tryz.isAgg4
 z4:=Tryz.sizeOf4
 v4:=Tryz.zeroValue4
 t5:=Tryz.underlying5
 a5:=Tryz.isAgg5
 z5:=Tryz.sizeOf5
 v5:=Tryz.zeroValue5
 t9:=Tryz.underlying9
 a9:=Tryz.isAgg9
 z9:=Tryz.sizeOf9
 v9:=Tryz.zeroValue9
 t28:=Tryz.underlying83
 a28:=Tryz.isAgg83
 z28:=Tryz.sizeOf83
 v28:=Tryz.zeroValue83
 t46:=Tryz.underlying262
 a46:=Tryz.isAgg262
 z46:=Tryz.sizeOf262
 v46:=Tryz.zeroValue262
 t51:=Tryz.underlying283
 a51:=Tryz.isAgg283
 z51:=Tryz.sizeOf283
 v51:=Tryz.zeroValue283
 t53:=Tryz.underlying247
 a53:=Tryz.isAgg247
 z53:=Tryz.sizeOf247
 v53:=Tryz.zeroValue247
 t131:=Tryz.underlying97
 a131:=Tryz.isAgg97
 z131:=Tryz.sizeOf97
 v131:=Tryz.zeroValue97
 t182:=Tryz.underlying296
 a182:=Tryz.isAgg296
 z182:=Tryz.sizeOf296
 v182:=Tryz.zeroValue296
 t183:=Tryz.underlying297
 a183:=Tryz.isAgg297
 z183:=Tryz.sizeOf297
 v183:=Tryz.zeroValue297
 t218:=Tryz.underlying312
 a218:=Tryz.isAgg312
 z218:=Tryz.sizeOf312
 v218:=Tryz.zeroValue312
 t222:=Tryz.underlying91
 a222:=Tryz.isAgg91
 z222:=Tryz.sizeOf91
 v222:=Tryz.zeroValue91
 t228:=Tryz.underlying326
 a228:=Tryz.isAgg326
 z228:=Tryz.sizeOf326
 v228:=Tryz.zeroValue326
 t229:=Tryz.underlying156
 a229:=Tryz.isAgg156
 z229:=Tryz.sizeOf156
 v229:=Tryz.zeroValue156}
open Go.Sort Go.RowKit in
theorem Tryz.slices_Sort_int (blk off cap:Nat) (zs:List Int) (w:World) (hH:Holds (Value.int .i64) w blk off zs.toArray) (fU:blk<w.heap.size) (hsz:zs.length<4611686018427387904):
  Calls prog 161 #[.slice (some ⟨blk,off,none⟩) zs.length cap] w fun e w'=>
   e=.returned (.tuple #[])/\ ∃n os,w'=grow (putRow (Value.int .i64) (Sort.ahead w n) blk off (zs.mergeSort fun x y=>decide (x<=y)).toArray) os:=Any.slices_Sort_int Tryz.lays189 blk off cap zs w hH fU hsz
def Tryz.lays146_ren :Go.Shelf.Ren:=⟨fun | 146=>44 | 221=>81 | 268=>117 | 138=>82 | 143=>118 | 195=>119 | 197=>153 | 218=>120 | 219=>154 | 260=>187 | 217=>188 | 225=>189 | 224=>190 | 267=>191 | 266=>211 | 314=>212 | n=>n,fun | 9=>9 | 31=>70 | 3=>3 | 4=>4 | 0=>0 | 105=>217 | 21=>21 | 5=>5 | 46=>262 | 119=>285 | 139=>288 | 138=>287 | 146=>289 | 51=>283 | n=>n,fun | 1=>0 | 3=>4 | 4=>5 | n=>n⟩
theorem Tryz.lays146 :Go.Proofs.Lays.n146 prog Tryz.lays146_ren:={
 mixed:=by kernel_rfl
 f138:=Tryz.func82.trans (congrArg some (by kernel_rfl))
 f143:=Tryz.func118.trans (congrArg some (by kernel_rfl))
 f146:=Tryz.func44.trans (congrArg some (by kernel_rfl))
 f195:=Tryz.func119.trans (congrArg some (by kernel_rfl))
 f197:=Tryz.func153.trans (congrArg some (by kernel_rfl))
 f217:=Tryz.func188.trans (congrArg some (by kernel_rfl))
 f218:=Tryz.func120.trans (congrArg some (by kernel_rfl))
 f219:=Tryz.func154.trans (congrArg some (by kernel_rfl))
 f221:=Tryz.func81.trans (congrArg some (by kernel_rfl))
 f224:=Tryz.func190.trans (congrArg some (by kernel_rfl))
 f225:=Tryz.func189.trans (congrArg some (by kernel_rfl))
 f260:=Tryz.func187.trans (congrArg some (by kernel_rfl))
 f266:=Tryz.func211.trans (congrArg some (by kernel_rfl))
 f267:=Tryz.func191.trans (congrArg some (by kernel_rfl))
 f268:=Tryz.func117.trans (congrArg some (by kernel_rfl))
 f314:=Tryz.func212.trans (congrArg some (by kernel_rfl))
 t0:=Tryz.underlying0
 a0:=Tryz.isAgg0
 z0:=Tryz.sizeOf0
 v0:=Tryz.zeroValue0
 t3:=Tryz.underlying3
 a3:=Tryz.isAgg3
 z3:=Tryz.sizeOf3
 v3:=Tryz.zeroValue3
 t4:=Tryz.underlying4
 a4:=Tryz.isAgg4
 z4:=Tryz.sizeOf4
 v4:=Tryz.zeroValue4
 t5:=Tryz.underlying5
 a5:=Tryz.isAgg5
 z5:=Tryz.sizeOf5
 v5:=Tryz.zeroValue5
 t9:=Tryz.underlying9
 a9:=Tryz.isAgg9
 z9:=Tryz.sizeOf9
 v9:=Tryz.zeroValue9
 t21:=Tryz.underlying21
 a21:=Tryz.isAgg21
 z21:=Tryz.sizeOf21
 v21:=Tryz.zeroValue21
 t31:=Tryz.underlying70
 a31:=Tryz.isAgg70
 z31:=Tryz.sizeOf70
 v31:=Tryz.zeroValue70
 t46:=Tryz.underlying262
 a46:=Tryz.isAgg262
 z46:=Tryz.sizeOf262
 v46:=Tryz.zeroValue262
 t51:=Tryz.underlying283
 a51:=Tryz.isAgg283
 z51:=Tryz.sizeOf283
 v51:=Tryz.zeroValue283
 t105:=Tryz.underlying217
 a105:=Tryz.isAgg217
 z105:=Tryz.sizeOf217
 v105:=Tryz.zeroValue217
 t119:=Tryz.underlying285
 a119:=Tryz.isAgg285
 z119:=Tryz.sizeOf285
 t138:=Tryz.underlying287
 a138:=Tryz.isAgg287
 z138:=Tryz.sizeOf287
 v138:=Tryz.zeroValue287
 t139:=Tryz.underlying288
 a139:=Tryz.isAgg288
 z139:=Tryz.sizeOf288
 v139:=Tryz.zeroValue288
 t146:=Tryz.underlying289
 a146:=Tryz.isAgg289
 z146:=Tryz.sizeOf289
 v146:=Tryz.zeroValue289
 g1:=by kernel_rfl
 g3:=by kernel_rfl
 g4:=by kernel_rfl}
def Tryz.laysNm220_ren :Go.Shelf.Ren:=⟨fun | 20=>162 | n=>n,fun | 22=>83 | 3=>3 | 4=>4 | 0=>0 | n=>n,fun | n=>n⟩
theorem Tryz.laysNm220 :Go.Proofs.Lays2.n20 prog Tryz.laysNm220_ren:={
 mixed:=by kernel_rfl
 f20:=Tryz.func162.trans (congrArg some (by kernel_rfl))
 t0:=Tryz.underlying0
 a0:=Tryz.isAgg0
 z0:=Tryz.sizeOf0
 v0:=Tryz.zeroValue0
 t3:=Tryz.underlying3
 a3:=Tryz.isAgg3
 z3:=Tryz.sizeOf3
 v3:=Tryz.zeroValue3
 t4:=Tryz.underlying4
 a4:=Tryz.isAgg4
 z4:=Tryz.sizeOf4
 v4:=Tryz.zeroValue4
 t22:=Tryz.underlying83
 a22:=Tryz.isAgg83
 z22:=Tryz.sizeOf83
 v22:=Tryz.zeroValue83
 i3:=by kernel_rfl}
open Go.RowKit Go.Lib Go.Sort in
theorem Tryz.slices_Compact_int (blk off cap:Nat) (zs:List Int) (w:World) (hH:Holds (Value.int .i64) w blk off zs.toArray) (hsz:zs.length<=9223372036854775807) (eT:zs.length<=cap):
  Calls prog 162 #[.slice (some ⟨blk,off,none⟩) zs.length cap] w fun e w'=>e=.returned (.slice (some ⟨blk,off,none⟩) (Lib.compact zs).length cap)/\ ∃q,w'=putRow (Value.int .i64) (Sort.ahead w q) blk off (Lib.compact zs++List.replicate (zs.length - (Lib.compact zs).length) 0).toArray :=Any.slices_Compact_int Tryz.laysNm220 blk off cap zs w hH hsz eT
open Go.RowKit Go.Lib Go.Sort in
theorem Tryz.slices_Compact_int_empty (a:Option Addr) (cap:Nat) (w:World):
  Calls prog 162 #[.slice a 0 cap] w fun e w'=>e=.returned (.slice a 0 cap)/\w'=w:=Any.slices_Compact_int_empty Tryz.laysNm220 a cap w
open Go.RowKit Go.Sort in
theorem Tryz.slices_Sort_int_none (p:Option Addr) (cap:Nat) (w:World):
  Calls prog 161 #[.slice p 0 cap] w fun e w'=>e=.returned (.tuple #[])/\w'=w:=Any.slices_Sort_int_none Tryz.lays189 p cap w
def Tryz.sortEnd_ren :Go.Shelf.Ren:=⟨fun | 6=>244 | 15=>196 | 14=>248 | 28=>224 | 29=>207 | 20=>250 | 21=>251 | 22=>252 | 23=>253 | 24=>254 | 25=>255 | 26=>256 | 27=>257 | 46=>258 | 47=>237 | 48=>238 | 49=>259 | 50=>260 | 57=>261 | n=>n,fun | 22=>319 | 24=>311 | 25=>321 | 3=>3 | 39=>262 | 0=>0 | 53=>283 | 55=>247 | 4=>4 | 46=>297 | 45=>296 | 50=>97 | 5=>5 | 9=>9 | 66=>312 | 70=>91 | 76=>326 | 77=>156 | n=>n,fun | n=>n⟩
theorem Tryz.sortEnd :Go.Proofs.SlLaysF0.n6 prog Tryz.sortEnd_ren:={
 mixed:=by kernel_rfl
 f6:=⟨Tryz.f244.name,by decide,Tryz.func244.trans (congrArg some (by kernel_rfl))⟩
 f14:=⟨Tryz.f248.name,by decide,Tryz.func248.trans (congrArg some (by kernel_rfl))⟩
 f15:=Tryz.func196.trans (congrArg some (by kernel_rfl))
 f20:=⟨Tryz.f250.name,by decide,Tryz.func250.trans (congrArg some (by kernel_rfl))⟩
 f21:=⟨Tryz.f251.name,by decide,Tryz.func251.trans (congrArg some (by kernel_rfl))⟩
 f22:=⟨Tryz.f252.name,by decide,Tryz.func252.trans (congrArg some (by kernel_rfl))⟩
 f23:=⟨Tryz.f253.name,by decide,Tryz.func253.trans (congrArg some (by kernel_rfl))⟩
 f24:=⟨Tryz.f254.name,by decide,Tryz.func254.trans (congrArg some (by kernel_rfl))⟩
 f25:=⟨Tryz.f255.name,by decide,Tryz.func255.trans (congrArg some (by kernel_rfl))⟩
 f26:=⟨Tryz.f256.name,by decide,Tryz.func256.trans (congrArg some (by kernel_rfl))⟩
 f27:=⟨Tryz.f257.name,by decide,Tryz.func257.trans (congrArg some (by kernel_rfl))⟩
 f28:=Tryz.func224.trans (congrArg some (by kernel_rfl))
 f29:=Tryz.func207.trans (congrArg some (by kernel_rfl))
 f46:=⟨Tryz.f258.name,by decide,Tryz.func258.trans (congrArg some (by kernel_rfl))⟩
 f47:=Tryz.func237.trans (congrArg some (by kernel_rfl))
 f48:=Tryz.func238.trans (congrArg some (by kernel_rfl))
 f49:=⟨Tryz.f259.name,by decide,Tryz.func259.trans (congrArg some (by kernel_rfl))⟩
 f50:=⟨Tryz.f260.name,by decide,Tryz.func260.trans (congrArg some (by kernel_rfl))⟩
 f57:=⟨Tryz.f261.name,by decide,Tryz.func261.trans (congrArg some (by kernel_rfl))⟩
 t0:=Tryz.underlying0
 a0:=Tryz.isAgg0
 z0:=Tryz.sizeOf0
 v0:=Tryz.zeroValue0
 t3:=Tryz.underlying3
 a3:=Tryz.isAgg3
 z3:=Tryz.sizeOf3
 v3:=Tryz.zeroValue3
 t4:=Tryz.underlying4
 a4:=Tryz.isAgg4
 z4:=Tryz.sizeOf4
 v4:=Tryz.zeroValue4
 t5:=Tryz.underlying5
 a5:=Tryz.isAgg5
 z5:=Tryz.sizeOf5
 v5:=Tryz.zeroValue5
 t9:=Tryz.underlying9
 a9:=Tryz.isAgg9
 z9:=Tryz.sizeOf9
 v9:=Tryz.zeroValue9
 t22:=Tryz.underlying319
 a22:=Tryz.isAgg319
 z22:=Tryz.sizeOf319
 v22:=Tryz.zeroValue319
 t25:=Tryz.underlying321
 a25:=Tryz.isAgg321
 z25:=Tryz.sizeOf321
 v25:=Tryz.zeroValue321
 t39:=Tryz.underlying262
 a39:=Tryz.isAgg262
 z39:=Tryz.sizeOf262
 v39:=Tryz.zeroValue262
 t45:=Tryz.underlying296
 a45:=Tryz.isAgg296
 z45:=Tryz.sizeOf296
 v45:=Tryz.zeroValue296
 t46:=Tryz.underlying297
 a46:=Tryz.isAgg297
 z46:=Tryz.sizeOf297
 v46:=Tryz.zeroValue297
 t50:=Tryz.underlying97
 a50:=Tryz.isAgg97
 z50:=Tryz.sizeOf97
 v50:=Tryz.zeroValue97
 t53:=Tryz.underlying283
 a53:=Tryz.isAgg283
 z53:=Tryz.sizeOf283
 v53:=Tryz.zeroValue283
 t55:=Tryz.underlying247
 a55:=Tryz.isAgg247
 z55:=Tryz.sizeOf247
 v55:=Tryz.zeroValue247
 t66:=Tryz.underlying312
 a66:=Tryz.isAgg312
 z66:=Tryz.sizeOf312
 v66:=Tryz.zeroValue312
 t70:=Tryz.underlying91
 a70:=Tryz.isAgg91
 z70:=Tryz.sizeOf91
 v70:=Tryz.zeroValue91
 t76:=Tryz.underlying326
 a76:=Tryz.isAgg326
 z76:=Tryz.sizeOf326
 v76:=Tryz.zeroValue326
 t77:=Tryz.underlying156
 a77:=Tryz.isAgg156
 z77:=Tryz.sizeOf156
 v77:=Tryz.zeroValue156}
def Tryz.lays240_ren :Go.Shelf.Ren:=⟨fun | 240=>108 | 276=>145 | n=>n,fun | 0=>0 | 4=>4 | 9=>9 | 20=>20 | 70=>72 | 72=>75 | 164=>210 | 37=>73 | n=>n,fun | n=>n⟩
theorem Tryz.lays240 :Go.Proofs.Lays.n240 prog Tryz.lays240_ren:={
 mixed:=by kernel_rfl
 f240:=Tryz.func108.trans (congrArg some (by kernel_rfl))
 f276:=Tryz.func145.trans (congrArg some (by kernel_rfl))
 t0:=Tryz.underlying0
 a0:=Tryz.isAgg0
 z0:=Tryz.sizeOf0
 v0:=Tryz.zeroValue0
 t4:=Tryz.underlying4
 a4:=Tryz.isAgg4
 z4:=Tryz.sizeOf4
 v4:=Tryz.zeroValue4
 t9:=Tryz.underlying9
 a9:=Tryz.isAgg9
 z9:=Tryz.sizeOf9
 v9:=Tryz.zeroValue9
 t20:=Tryz.underlying20
 a20:=Tryz.isAgg20
 z20:=Tryz.sizeOf20
 v20:=Tryz.zeroValue20
 t70:=Tryz.underlying72
 a70:=Tryz.isAgg72
 z70:=Tryz.sizeOf72
 v70:=Tryz.zeroValue72
 t72:=Tryz.underlying75
 a72:=Tryz.isAgg75
 z72:=Tryz.sizeOf75
 v72:=Tryz.zeroValue75
 t164:=Tryz.underlying210
 a164:=Tryz.isAgg210
 z164:=Tryz.sizeOf210
 v164:=Tryz.zeroValue210
}
theorem Tryz.Builder_X72_240 :Builder.X72 prog Tryz.lays240_ren where
 sizeBuilder:=by kernel_rfl
 liesBuilder:=by kernel_rfl
end Go.Proofs
namespace Go.Am
open IntKind (wrap)
open Go.Proofs.Tryz
open Go.Proofs
theorem To :j9q prog:=fun _ b p v w l eK hbk hv=>by
 rcases hv with ⟨rfl,rfl⟩ | ⟨g,o,c,cur,rfl,hlc,hg,hn,hc⟩
 .refine (x2r Tryz.lays169 Tryz.Builder_Extra_169 b p w hbk).mono fun e w' ⟨he,hw⟩=>⟨he,?_⟩
  subst hw;exact ⟨Aq _,fun k o hk _=>hk,rfl,rfl,rfl⟩
 .cases l with
  | nil=>
   by_cases hc0:c=0
   .subst hc0;refine (y3v Tryz.lays169 Tryz.Builder_Extra_169 b p w g o cur hbk hg).mono fun e w' ⟨he,hw⟩=>⟨he,?_⟩
    subst hw;refine ⟨?_,fun k ob hk _=> ?_,rfl,rfl,rfl⟩
    .show w.heap.size<=(w.heap.push _).size;rw [Array.size_push];exact B4 _
    .show (w.heap.push _)[k]? =_;rw [BY,Az (Bp (AC.1 hk).1)];exact hk
   .refine (y9r Tryz.lays169 Tryz.Builder_Extra_169 b p w g o c hc0 hbk).mono fun e w' ⟨he,hw⟩=>⟨he,?_⟩
    subst hw;exact ⟨Aq _,fun k o hk _=>hk,rfl,rfl,rfl⟩
  | cons x r=>
   refine (y9q Tryz.lays169 Tryz.Builder_Extra_169 b p w g o c cur (x::r) (by simp) hlc eK hbk hg (hn (by simp)) hc).mono fun e w' ⟨he,hw⟩=>⟨he,?_⟩
   subst hw;obtain ⟨f1,f2,f3,f4⟩:=y9p w.drew ⟨g,o,none⟩ (x::r).length;exact ⟨B6 f1.symm,fun k ob hk hne=>(v4i w.drew g o _ k (hne g o _ c rfl)).trans hk,f2,f3,f4⟩
def OL (P:Program):Bool:=P.funcs.toList.all fun fn=>fn.body.isNone|| !(fn.name == "runtime.NumGoroutine")
theorem u3z {P:Program} (h:OL P=true) (hs:j9q P):EL P:=by
 refine ⟨fun f fn hf hb=> ?_,hs⟩;have hm:fn∈P.funcs.toList:=by rw [Array.mem_toList_iff];exact Array.mem_of_getElem? hf
 have:=As.mp h fn hm;cases hbb:fn.body with
 | none=>rw [hbb] at hb;cases hb
 | some b=>simpa [hbb] using this
theorem NN :EL prog:=u3z (by kernel_rfl) To
theorem mixed :prog.follows .mixedOrders =true:=by kernel_rfl
end Go.Am
namespace Go.Am
open IntKind (wrap)
open Go.Proofs.Tryz
open Go.Proofs
instance {α :Type} [Xp α]:Xp (List α) where
 w:=1
 d:=[]
 cells l:=[.dat l.length (Zz l)]
 of cs:=match cs.getD 0 .undef with
  | .dat n g=>Cl α n g
  | _=>[]
 len _:=rfl
 pos:=Aq 1
 flat _:=rfl
 sc _:=rfl
 back l:=Zp l
theorem x9o {α:Type} [Xp α] {L:List α} {n off sz:Nat} {cells:zy} (hn:n=L.length) (hsz:sz=Xp.w α) (hc:(cells.drop off).take (n*sz)=(L.map Xp.cells).flatten):Kh n (ZR cells off sz) (Zz L)=true:=Xo fun i hi=>by
 have e:((((cells.drop off).take (n*sz)).drop (i*sz)).take sz)=(cells.drop (off+i*sz)).take sz:=by rw [List.drop_take,List.take_take,List.drop_drop,Nat.min_eq_left];have:=AE sz (show i+1<=n by omega);rw [AS,B5] at this;omega
 have h:=y2q (sz:=sz) (L.map Xp.cells) i (fun x hx=>by obtain ⟨y,_,rfl⟩:=A2.1 hx;rw [Xp.len,hsz]) (by simpa using by omega);unfold ZR;rw [<-e,hc,h];simp only [Zz];rw [Xm (show i<L.length by omega),Bk,BU,At (show i<L.length by omega)];rfl
theorem u1t {G H:Nat->zy} (h:G 0=H 0):Kh 1 G H=true:=Xo fun i hi=>by
 obtain rfl:i=0:=by omega
 exact h
theorem v1f {L:zy} (s t:Nat) (h:L.all (pf 6)=true):DR (fun k=>(L.drop (k*s)).take t)=true:=Xo fun i=>
 As.2 fun v hv=>As.1 h v (List.mem_of_mem_drop (List.mem_of_mem_take hv))
structure OB where
 b:Bool
 h:b=true
def nn :OB:=⟨true,rfl⟩
def pp (q r:OB):OB:=⟨q.b&&r.b,Mt q.h r.h⟩
def tt {c v:Bool} (k:c=v) (r:OB):OB:=⟨(c == v)&&r.b,Mt (v6f k) r.h⟩
def ww {c:Bool} (k:c=true) (r:OB):OB:=⟨c&&r.b,Mt k r.h⟩
def fl {α:Type} [Xp α] (L:List α) (r:OB):OB:=⟨DR (Zz L)&&r.b,Mt (Xc L) r.h⟩
theorem MI {a b:Int} (k:(a == b)=false):((a != b) == true)=true:=by unfold bne;rw [k];rfl
theorem GH {a b:Int} (k:(a != b)=true):((a == b) == false)=true:=by
 unfold bne at k;cases h:(a == b) with
 | true=>rw [h] at k;cases k
 | false=>rfl
theorem u6i {a b:Int} (k:(a != b)=false):((a == b) == true)=true:=by
 unfold bne at k;cases h:(a == b) with
 | true=>rfl
 | false=>rw [h] at k;cases k
def yt {c:Bool} (k:c=true) (r:OB):OB:=⟨c&&r.b,Mt k r.h⟩
def xw {c:Bool} (k:c=true):OB:=⟨c,k⟩
def xI (α:Type) [Xp α] (n:Nat) (g:Nat->zy) (h:CU α n g=true:=by first | with_reducible exact XF _ _ | exact XF _ _ | exact w6o _ | exact x6v _ _ _ | assumption | exact u4u _ rfl | exact u4t _ rfl rfl):OB:=⟨CU α n g,h⟩
def xr {α:Type} [Xp α] (L:List α):OB:=⟨CU α L.length (Zz L),XF L _⟩
def xL (a b:Nat) (h:H0 a b=true:=by first | exact Jj rfl | exact Jj (by simp +zetaDelta only [AO,Ba,List.length_nil,BT,WY,y3i,List.length_replicate] <;> omega) | assumption):OB:=⟨H0 a b,h⟩
def xS (n:Nat) (G H:Nat->zy) (h:Kh n G H=true:=by
  repeat' (first | exact x2s _ _ | assumption | exact v4j _ _ | exact u1t rfl | exact w8u | exact x9o rfl rfl rfl | rfl | (refine w5f ?_ ?_ rfl rfl rfl) | (refine w5e ?_ ?_ rfl) | exact v4k _ _ _ | (refine u1u ?_ ?_ ?_ (Nat.min_le_left _ _)) | exact w8v (by repeat' (first | exact x2s _ _ | (refine w5f ?_ ?_ rfl rfl rfl) | (refine w5e ?_ ?_ rfl) | (simp +zetaDelta only [AO,Ba,List.length_nil,BT,WY];done) | omega)) (by assumption) | (refine v4l ?_ ?_ ?_ rfl) | exact v4m (x2s _ _) rfl | apply x9n | exact u1s rfl rfl | exact Ah _ | (simp +zetaDelta only [AO,Ba,List.length_nil,BT,WY,y3i,List.length_replicate] <;> omega))):OB:=⟨Kh n G H,h⟩
def xF (G:Nat->zy) (h:DR G=true:=by
  repeat' (first | with_reducible exact Xc _ | apply v8e | apply v8b | apply v8d | apply v8c | exact Xc _ | exact v1g | exact w2w _ _ | exact v1f _ _ rfl | apply y7u | rfl | assumption)):OB:=⟨DR G,h⟩
def xZ (v:CA) (n:Nat) (g:Nat->zy) (h:Tc v n g=true:=by first | exact u5d _ _ _ | exact v7w _ _):OB:=⟨Tc v n g,h⟩
def xG (c:Bool) (h:c=true:=by
  repeat' (first | with_reducible (first | assumption | exact BR _ | exact x6l _ | exact u3y _ | exact v6k _ | exact u5v _ | exact v6n _ | apply Mt | apply v6f) | rfl | exact u4v _ | exact v1t _ _ rfl | exact v1u _ _ _ rfl | exact v7d _ _ rfl | exact v0p rfl | exact u2f rfl rfl (fun _=>rfl) | (refine w3n ?_ (by assumption)) | (refine v8z ?_ rfl rfl rfl) | exact XF _ _ | exact w6o _ | exact x6v _ _ _ | exact Xc _ | apply y7u | apply Mt | apply v6f)):OB:=⟨c,h⟩
def DN (n:Nat) (l:List BP):List BP:=Nat.rec l (fun _ r=>.keep ::r) n
abbrev tn (n:Int):Nat:=Int.toNat n
abbrev ii (n:Int):CA:=.int .i64 n
abbrev wr (n:Int):Int:=wrap .i64 n
def CL (n:Nat) (l:List Bool):List Bool:=Nat.rec l (fun _ r=>true::r) n
abbrev b7:Ge:=⟨[],[],[]⟩
abbrev b8 (l:zt):DB:=⟨[],[],[some l],[]⟩
theorem sl {S:CC} (hS:Zu prog S) (n:Nat) (gs:List (TypeId×Nat×(Nat->zy))) (N:DB) (L:Ge) (orc:List Bool) (ob:OB) {C C':CJ}
  (h:(((Td prog S (J2 prog S 100000 4) n (C.withO orc)).map (ZC gs)).bind (Tf prog N)).map (Rk L)=some (C'.withB ob.b):=by kernel_rfl) (hfl:Rq C=true:=by rfl):Cn prog C C':=
 u0m NN mixed hS gs N L orc ob.b h ob.h hfl
def rC (n f:Nat) (p:zt) (j r:Nat) (env:List (Nat×CA)):CJ:=⟨⟨n,0,true⟩,none,Zk prog f p j,none,Zy prog r,⟨Yy env,Wf [] 0,0,[],true⟩,[],.leaf⟩
theorem lr {σ:Type} {cfg:σ->CJ} {C:CJ} {rs:List ResultVar} {vs:zy} (n f:Nat) (p:zt) (j r:Nat) (env:List (Nat×CA)) (h:Cn prog C (rC n f p j r env)) (hf:Gh (rC n f p j r env)=true:=by rfl)
  (hr:Kk prog (rC n f p j r env).st rs=some vs:=by kernel_rfl):Xh prog rs cfg C (.ret vs):=Yh _ h hf hr
theorem lb {rs:List ResultVar} {σ:Type} {cfg:σ->CJ} {C:CJ} {c:Bool} {a b:Xk σ} (ha:c=true->Xh prog rs cfg C a) (hb:c=false->Xh prog rs cfg C b):Xh prog rs cfg C (bif c then a else b):=w6n ha hb
theorem lo {rs:List ResultVar} {σ:Type} {cfg:σ->CJ} {C:CJ} {c:Bool} {a:Xk σ} (ha:c=true->Xh prog rs cfg C a):Xh prog rs cfg C (bif c then a else .stuck):=u4m ha
def By :Type:=UInt8
def yI (b:By):Int:=((b:UInt8).toNat :Int)
def yB (n:Int):By:=UInt8.ofNat n.toNat
theorem S8 (b:By):yB (yI b)=b:=by show UInt8.ofNat (((b:UInt8).toNat :Int)).toNat =b;rw [Int.toNat_natCast];exact UInt8.ofNat_toNat
instance : Xp By where
 w:=1
 d:=(0:UInt8)
 cells b:=[.int .u8 (yI b)]
 of l:=yB (DG (l.getD 0 .undef))
 len _:=rfl
 pos:=Aq 1
 flat _:=rfl
 sc _:=rfl
 back b:=S8 b
def sOf :CA->zw
 | .str s=>s
 | _=>[]
instance (priority :=high) instStr:Xp zw where
 w:=1
 d:=[]
 cells s:=[.str s]
 of l:=sOf (l.getD 0 .undef)
 len _:=rfl
 pos:=Aq 1
 flat _:=rfl
 sc _:=rfl
 back _:=rfl
abbrev Ol :Nat:=154
abbrev U2 :Nat:=122
abbrev VJ :Nat:=79
abbrev Px :Nat:=82
abbrev F7 :Nat:=73
abbrev Tp :Nat:=44
abbrev U4 :Nat:=70
abbrev VO :Nat:=85
abbrev VK :Nat:=108
abbrev UQ :Nat:=67
abbrev U1 :Nat:=45
abbrev UX :Nat:=84
abbrev Tz :Nat:=77
abbrev UB :Nat:=50
abbrev Tv :Nat:=87
abbrev UF :Nat:=52
abbrev UJ :Nat:=36
abbrev Tt :Nat:=33
abbrev IN :Nat:=55
abbrev UM :Nat:=19
abbrev UN :Nat:=26
abbrev TZ :Nat:=29
abbrev Tx :Nat:=39
abbrev Tw :Nat:=38
abbrev U7 :Nat:=9
abbrev Tm :Nat:=63
abbrev VF :Nat:=56
abbrev VE :Nat:=126
abbrev VH :Nat:=90
abbrev PA :Nat:=93
abbrev Ul :Nat:=92
abbrev U9 :Nat:=57
abbrev Ot :Nat:=20
abbrev VI :Nat:=65
abbrev UC :Nat:=25
abbrev v6p :Nat:=180
abbrev j0j :Nat:=185
abbrev j0f :Nat:=186
abbrev j0i :Nat:=183
abbrev Lc :Nat:=184
abbrev j0e :Nat:=151
abbrev nXs :Nat:=181
abbrev nYs :Nat:=182
abbrev j0h :Nat:=149
abbrev j0d :Nat:=31
abbrev nAt :Nat:=150
abbrev Ld :Nat:=148
abbrev j0g :Nat:=113
abbrev v6s :Nat:=76
abbrev UV :Nat:=203
abbrev UU :Nat:=168
abbrev UT :Nat:=103
abbrev j0b :Nat:=244
abbrev w6g :Nat:=245
abbrev Lb :Nat:=161
abbrev w6h :Nat:=162
abbrev US :Nat:=229
abbrev x6n :Nat:=200
abbrev w6f :Nat:=140
abbrev v6r :Nat:=167
abbrev w6d :Nat:=166
abbrev w6c :Nat:=101
abbrev x6o :Nat:=61
abbrev w6b :Nat:=204
abbrev UR :Nat:=174
abbrev nSpU :Nat:=143
abbrev w6e :Nat:=201
abbrev nRgU :Nat:=105
abbrev nSlU :Nat:=64
abbrev v6q :Nat:=66
abbrev j0c :Nat:=27
end Go.Am
namespace Go.Am
open IntKind (wrap)
open Go.Proofs Go.Sort
theorem JG {P:Program} {S:CC} (hS:Zu P S) {f:FuncId} {F:zy->Option (CA×Bool)} (hf:(P.funcs[f]?).any (fun fn=>fn.body.isSome)=true) (hF:Rh P f F):Zu P (S.with f F):=by
 intro g G hg;unfold CC.with at hg;cases hgf:Nat.beq g f with
 | false=>rw [hgf] at hg;exact hS g G hg
 | true=>
  rw [hgf] at hg;obtain rfl:O8.val F=G:=Ag hg;obtain rfl:g=f:=Ai hgf;refine ⟨?_,hF⟩;cases hfn:P.funcs[g]? with
  | none=>rw [hfn] at hf;cases hf
  | some fn=>rw [hfn] at hf;exact ⟨fn,rfl,hf⟩
theorem v2u {P:Program} {S:CC} (hS:Zu P S) {f:FuncId} {F:zy->CI->Option (CA×Nat×CG×Bool)} (hf:(P.funcs[f]?).any (fun fn=>fn.body.isSome)=true) (hF:Gt P f F):Zu P (fun g=>bif Nat.beq g f then some (.eff F) else S g):=by
 intro g G hg;cases hgf:Nat.beq g f with
 | false=>simp only [hgf,Aa] at hg;exact hS g G hg
 | true=>
  simp only [hgf,Ab] at hg;obtain rfl:O8.eff F=G:=Ag hg;obtain rfl:g=f:=Ai hgf;refine ⟨?_,hF⟩;cases hfn:P.funcs[g]? with
  | none=>rw [hfn] at hf;cases hf
  | some fn=>rw [hfn] at hf;exact ⟨fn,rfl,hf⟩
theorem SZ {P:Program} {f:FuncId} {F:zy->Option (CA×Bool)}
  (h: ∀args v,F args=some (v,true)-> ∀(H:EK) (vals:Array Value) (w:World),Vf (VRel (rhoOf H)) args vals.toList->(∀k o,H k=some o->w.heap[k]? =some o)->Glob H->Calls P f vals w fun e w'=> ∃u,e=.returned u/\VRel (rhoOf H) v u/\RowKit.Below w.heap.size w w'):Rh P f F:=
 fun args v hv H vals w eN hH hG=>(h args v hv H vals w eN hH hG).mono fun e w' ⟨u,he,hu,hb⟩=>⟨H,u,fun _ _ h=>h,fun k o e=>by rw [hb.block k (AC.1 (hH k o e)).1];exact hH k o e,fun _ _=>rfl,he,hu,hb⟩
open Go.Proofs.Tryz
open Go.Lib
def Pm (args:zy) (mem:CI):Option (CA×Nat×CG×Bool):=match args with
 | [.ptr b 0]=>match Yi mem b with
  | some ⟨.obj .bld ::r,ty,none⟩=>some (.tup [],b,⟨.obj .bld ::r,ty,none⟩,Nat.beq ty D2)
  | _=>none
 | _=>none
theorem y9o {w:World} {k:Nat} {c:Array Value} {el:TypeId} {fz:Nat×Nat} (h:w.heap[k]? =some (.cells c el fz)) (v:Value):w.setCell ⟨k,0,none⟩ v=w.putObj k (.cells (c.setIfInBounds 0 v) el fz):=by
 unfold World.setCell World.putObj
 congr 1
 apply Array.ext_getElem?;intro i;rw [BE,Array.getElem?_setIfInBounds];split
 .rename_i e;subst e;have hlt:=(AC.1 h).1;show Option.map _ w.heap[k]? =_;rw [h,AF hlt];rfl
 .rfl
theorem j9j :Gt prog VK Pm:=by
 intro args mem v b blk h gL ρ next floor vals w hfl eN eI
 unfold Pm at h;split at h
 .rename_i b0;split at h
  .rename_i r ty hm;simp only [Ae,Ad] at h;obtain ⟨rfl,rfl,rfl,hty⟩:=h;obtain rfl:ty=D2:=Ai hty;obtain ⟨l,hl,fP⟩: ∃l,ρ b0=some l/\vals= #[.pointer (some ⟨l.blk,l.base+0,none⟩)]:=by
    obtain ⟨vl⟩:=vals;cases eN with
    | cons h1 h2=>
     cases h2;cases h1 with
     | ptr _ _ l e=>exact ⟨l,e,rfl⟩
   have hk:=eI.blk b0 l _ hl hm;cases hk with
   | plain k=>exact absurd k.noObj (by simp [CG.isObj])
   | obj o r' ty' e1 e2 e3=>
    simp only [CG.mk.injEq,Bn,CA.obj.injEq,B9] at e1;obtain ⟨⟨rfl,rfl⟩,rfl⟩:=e1;obtain ⟨buf,v,p,rfl,hb,hv,hp⟩:=e3;have fX:l.base=0:=(by rw [e2]);rw [fX] at fP;subst fP;have hev: ∀p',(p'=none\/p'=some (⟨l.blk,0,none⟩:Addr))->HU ρ D2 l.blk [buf] .bld (some (.cells #[.pointer p',v] D2 (0,0))):=fun p' h=>⟨buf,v,p',rfl,rfl,hv,h⟩
    rcases hp with rfl | rfl
    .refine (Any.Builder_copyCheck_fresh Tryz.lays240 Tryz.Builder_X72_240 l.blk w (by simp [World.cell?,hb]) (by simp [World.shape?,hb];rfl) (by simp [World.frozen?,hb])).mono fun e w' ⟨he,hw⟩=>⟨_,he,.tup [] #[] rfl (fun i h=>absurd h (AD _)),?_⟩
     rw [y9o hb] at hw;subst hw;exact ⟨eI.setObj hl hm rfl rfl _ (hev _ (.inr rfl)),Ev.ofObj eI hl hfl _ _⟩
    .refine (Any.Builder_copyCheck_used Tryz.lays240 Tryz.Builder_X72_240 l.blk w (by simp [World.cell?,hb])).mono fun e w' ⟨he,hw⟩=>⟨_,he,.tup [] #[] rfl (fun i h=>absurd h (AD _)),?_⟩
     subst hw;have fW:w'.putObj l.blk (.cells #[.pointer (some ⟨l.blk,0,none⟩),v] D2 (0,0))=w':=by
      have hlt:=(AC.1 hb).1;have:w'.heap.setIfInBounds l.blk (.cells #[.pointer (some ⟨l.blk,0,none⟩),v] D2 (0,0))=w'.heap:=by
       apply Array.ext_getElem?;intro i;rw [Array.getElem?_setIfInBounds];split
       .rename_i e;subst e;rw [hb]
       .rfl
      unfold World.putObj;rw [this]
     have A:=eI.setObj hl hm rfl rfl _ (hev _ (.inr rfl));have B:=Ev.ofObj eI hl hfl (some ⟨[.obj .bld,buf],D2,none⟩) (.cells #[.pointer (some ⟨l.blk,0,none⟩),v] D2 (0,0));rw [fW] at A B;exact ⟨A,B⟩
  .cases h
 .cases h
def De (n:Int):zw:=itoa n
def Wx (n:Int):Bool:=decide (-9223372036854775808<=n/\n<=9223372036854775807)
def Pb :zy->Option (CA×Bool)
 | [.int .i64 n]=>some (.str (De n),Wx n)
 | _=>none
theorem w3x (w:World) (k:Nat) (os:Array Obj):RowKit.Below w.heap.size w (grow (w.drewN k) os):=
 ⟨rfl,rfl,rfl,by show _<=(w.heap++os).size;rw [Array.size_append];exact B8 _ _,fun k hk=>by show (w.heap++os)[k]? =_;rw [Array.getElem?_append_left hk]⟩
theorem v6b {H:EK} {w:World} (hH: ∀k o,H k=some o->w.heap[k]? =some o) (hG:Glob H):Lib.TabIs prog w "internal/strconv.uint64pow10" .u64 Lib.pow10Tab:=by
 obtain ⟨el,fz,e⟩:=hG.pow (gpow.headD 0) (by decide);have h:prog.globalNamed "internal/strconv.uint64pow10" =some (gpow.headD 0):=by kernel_rfl
 unfold Lib.TabIs World.var?;rw [h];show (match w.heap[gpow.headD 0]? with | some (.cells cs _ _)=>some cs | _=>none)=_;rw [hH _ _ e];show some pow10A=_;unfold pow10A Lib.pow10Tab;rw [BW];rfl
theorem Ok :Rh prog U4 Pb:=SZ fun args v hv H vals w eN hH hG=>by
 unfold Pb at hv;split at hv
 .rename_i n;simp only [Ae,Ad] at hv;obtain ⟨rfl,ho⟩:=hv;have ho: -9223372036854775808<=n/\n<=9223372036854775807:=Ay ho;obtain rfl:vals= #[.int .i64 n]:=by
   obtain ⟨vl⟩:=vals;cases eN with
   | cons h1 h2=>cases h2;cases h1;rfl
  refine (Any.strconv_Itoa Tryz.laysM171 n ho.1 ho.2 w (v6b hH hG)).mono fun e w' ⟨he,k,os,hw⟩=>⟨_,he,.str _,?_⟩
  subst hw;exact w3x w k os
 .cases hv
def Yu (s sep:zw):List zw:=split s sep
def WM (s sep:zw):Bool:=Nat.beq sep.length 1&&decide (s.length<4294967281)
def PP :zy->Option (CA×Bool)
 | [.str s,.str sep]=>some (.dat (Yu s sep).length (Zz (Yu s sep)),WM s sep)
 | _=>none
theorem N0 :Rh prog Tp PP:=by
 intro args v hv H vals w eN hH hG;unfold PP at hv;split at hv
 .rename_i s sep;simp only [Ae,Ad] at hv;obtain ⟨rfl,ho⟩:=hv;unfold WM at ho;rw [Ac] at ho;have h1:=Ai ho.1;have h2:s.length<4294967281:=Ay ho.2;obtain ⟨b,rfl⟩: ∃b,sep=[b]:=by
   match sep,h1 with
   | [b],_=>exact ⟨b,rfl⟩
  obtain rfl:vals= #[.string ⟨s.toArray⟩,.string ⟨#[b]⟩]:=by
   obtain ⟨vl⟩:=vals;cases eN with
   | cons h1 h2=>cases h2 with
    | cons h2 h3=>cases h3;cases h1;cases h2;rfl
  refine (u1r Tryz.lays146 (by kernel_rfl) ⟨s.toArray⟩ b w (by simpa [ByteArray.size] using h2)).mono fun e w' ⟨he,hw⟩=> ?_;subst hw;have hd:=Lib.splitB_data ⟨#[b]⟩ 0 (Lib.countB ⟨s.toArray⟩ ⟨#[b]⟩) ⟨s.toArray⟩;have hs:(Lib.splitB ⟨#[b]⟩ 0 (Lib.countB ⟨s.toArray⟩ ⟨#[b]⟩) ⟨s.toArray⟩).map (·.data.toList)=Yu s [b]:=hd;generalize hB:Lib.splitB ⟨#[b]⟩ 0 (Lib.countB ⟨s.toArray⟩ ⟨#[b]⟩) ⟨s.toArray⟩=B at he hs;have eK:B.length=Lib.countB ⟨s.toArray⟩ ⟨#[b]⟩+1:=by rw [<-hB];exact Lib.splitB_all ⟨#[b]⟩ (Aq 1) 0 _ _ rfl
  have hlenV:(Yu s [b]).length =B.length:=by rw [<-hs,B3]
  have hnone:H w.heap.size=none:=by
   cases hh:H w.heap.size with
   | none=>rfl
   | some o=>exact absurd (AC.1 (hH _ _ hh)).1 (B1 _)
  refine ⟨fun k=>if k=w.heap.size then some (.cells (B.map Value.string).toArray (Tryz.lays146_ren.t 9) (0,0)) else H k,_,fun k o hk=> ?_,fun k o hk=> ?_,fun k hk=>Az (Bp hk),he,?_,?_⟩
  .exact (Az (by intro e;rw [e,hnone] at hk;cases hk)).trans hk
  .dsimp only at hk;split at hk
   .rename_i e;subst e;rw [<-hk];exact World.alloc_heap_new _ _
   .rename_i e;rw [RowKit.Below.heap_alloc _ _ _ (AC.1 (hH _ _ hk)).1];exact hH _ _ hk
  .rw [<-eK,hlenV];have fR: ∀i,(hi:i<B.length)->Zz (Yu s [b]) i=[.str B[i].data.toList]:=fun i hi=>by
    show Xp.cells (rd (Yu s [b]) i)=_;have:rd (Yu s [b]) i=B[i].data.toList :=by rw [Xm (by rw [hlenV];exact hi)];simp only [<-hs,B7]
    rw [this];rfl
   refine .dat B.length _ w.heap.size 0 1 B.length (fun i _=>.string (B.getD i ByteArray.empty)) (Aq _) (fun i hi=>by rw [fR i hi];rfl) (fun i j hi hj=> ?_) fun i j hi hj=> ?_
   .have e:=fR i hi;have hj0:j=0:=by rw [e] at hj;exact Nat.lt_one_iff.1 hj
    subst hj0;simp only [e,List.getElem_cons_zero];rw [Bk,At hi];exact .str _
   .have hj0:j=0:=Nat.lt_one_iff.1 hj;subst hj0;refine ⟨_,_,_,AF rfl,?_⟩;simp [At hi]
  .exact (RowKit.Below.refl _ w).alloc (Aq _) _
 .cases hv
def Zs (s:zw):Int:=match atoiAll s with
 | .ok v=>v
 | .range =>atoiSat s
 | _=>0
def Jh (s:zw):Bool:=match atoiAll s with
 | .ok _=>true
 | _=>false
def Wp (s:zw):Bool:=decide (s.length<=281474976710656)
def Po :zy->Option (CA×Bool)
 | [.str s]=>some (.tup [.int .i64 (Zs s),.ifb (Jh s)],Wp s)
 | _=>none
theorem NV {ρ:CF} {a b:CA} {u v:Value} (h1:VRel ρ a u) (h2:VRel ρ b v):VRel ρ (.tup [a,b]) (.tuple #[u,v]):=.tup _ _ rfl fun i h h'=>by
 match i,h with
 | 0,_=>exact h1
 | 1,_=>exact h2
theorem w7f {H:EK} {w:World} (hH: ∀k o,H k=some o->w.heap[k]? =some o) (hG:Glob H) {g:Nat} (hg:g∈globs): ∃ev,w.cell? ⟨g,0,none⟩=some ev/\(ev=.nilIface \/ ∃te pe,ev=.iface te pe):=by obtain ⟨v,⟨cs,el,fz,e1,e2⟩,h⟩:=hG.err g hg;exact ⟨v,by simp [World.cell?,hH _ _ e1,e2],h⟩
theorem w3y (w:World) (t:TypeId) (s:ByteArray):RowKit.Below w.heap.size w (bytesWorld w t s):=by
 refine ⟨?_,?_,?_,?_,fun k hk=> ?_⟩ <;> (unfold bytesWorld World.freeze;split)
 .rfl
 .rfl
 .rfl
 .rfl
 .rfl
 .rfl
 .simp [World.alloc]
 .simp [World.alloc]
 .simp [World.alloc,BY,Bp hk];rfl
 .simp [World.alloc,BE,BY,Bp hk,Ne.symm (Bp hk)];rfl
theorem QB :Rh prog VO Po:=SZ fun args v hv H vals w eN hH hG=>by
 unfold Po at hv;split at hv
 .rename_i s;simp only [Ae,Ad] at hv;obtain ⟨rfl,ho⟩:=hv;have ho:s.length<=281474976710656:=Ay ho;have hsz:(⟨s.toArray⟩:ByteArray).size =s.length:=by simp [ByteArray.size]
  obtain rfl:vals= #[.string ⟨s.toArray⟩]:=by
   obtain ⟨vl⟩:=vals;cases eN with
   | cons h1 h2=>cases h2;cases h1;rfl
  cases hA:atoiAll s
  .rename_i v;refine (Any.strconv_Atoi_ok Tryz.laysC172 ⟨s.toArray⟩ (by omega) v hA w).mono fun e w' ⟨he,hw⟩=>⟨_,he,?_,?_⟩
   .unfold Zs Jh;rw [hA];exact NV (.int _ _) .ifbt
   .rcases hw with rfl | ⟨t,rfl⟩
    .exact RowKit.Below.refl _ _
    .exact w3y _ _ _
  .obtain ⟨ev,h1,h2⟩:=w7f hH hG (show Tryz.laysC172_ren.g 15∈globs by decide);refine (Any.strconv_Atoi_syntax Tryz.laysC172 ⟨s.toArray⟩ (by omega) hA ev w h1 h2).mono fun e w' ⟨N,he,_,_,hw⟩=>⟨_,he,?_,hw⟩
   unfold Zs Jh;rw [hA];exact NV (.int _ _) (.ifbf _ _)
  .obtain ⟨ev,h1,h2⟩:=w7f hH hG (show Tryz.laysC172_ren.g 16∈globs by decide);refine (Any.strconv_Atoi_range Tryz.laysC172 ⟨s.toArray⟩ (by omega) hA ev w h1 h2).mono fun e w' ⟨N,he,_,_,hw⟩=>⟨_,he,?_,hw⟩
   unfold Zs Jh;rw [hA];exact NV (.int _ _) (.ifbf _ _)
 .cases hv
def SC0 :CC:=((Dy.with U4 Pb).with Tp PP).with VO Po
def SC :CC:=fun g=>bif Nat.beq g VK then some (.eff Pm) else SC0 g
theorem Zt {a b:Int} (h:a<b):decide (a<b)=true:=Af h
theorem Yc {a b:Int} (h: ¬a<b):decide (a<b)=false:=An h
theorem Xs {a b:Int} (h:a<=b):decide (a<=b)=true:=Af h
theorem EZ {a b:Int} (h: ¬a<=b):decide (a<=b)=false:=An h
theorem Yo {a b:Int} (h:a>b):decide (a>b)=true:=Af h
theorem Xb {a b:Int} (h: ¬a>b):decide (a>b)=false:=An h
theorem En {a b:Int} (h:a>=b):decide (a>=b)=true:=Af h
theorem Fk {a b:Int} (h: ¬a>=b):decide (a>=b)=false:=An h
theorem Yp {a b:Nat} (h:a<b):decide (a<b)=true:=Af h
theorem Yd {a b:Nat} (h:a<=b):decide (a<=b)=true:=Af h
theorem Yg {a b:Nat} (h:a=b):decide (a=b)=true:=Af h
theorem Zn {a b:Int} (h:0<=a/\a<b):decide (0<=a/\a<b)=true:=Af h
theorem Zh {a:Nat} (h:a<=1099511627776):decide (a<=Vg)=true:=Af h
theorem Zq {n:Int} (h: -9223372036854775808<=n/\n<=9223372036854775807):wrap .i64 n=n:=w_in h.1 h.2
theorem EB :((0:Nat):Int)=0:=rfl
theorem Zv (i:Nat):(i:Int)+1=((i+1:Nat):Int):=rfl
theorem Yx (i:Nat):((i+1:Nat):Int) - 1=(i:Int):=by omega
theorem Jy {a b:Int} (h:a≠b):(a != b)=true:=by simp [h]
theorem Vp {a b:Int} (h:a=b):(a != b)=false:=by simp [h]
theorem Mo {a b:Int} (h:a=b):(a == b)=true:=by simp [h]
theorem Mn {a b:Int} (h:a≠b):(a == b)=false:=by simp [h]
theorem Yb (n:Nat):Nat.beq n n=true:=BR n
theorem Zj (n:Nat):Int.toNat (n:Int)=n:=Int.toNat_natCast n
theorem Xw (b:Bool):b=true\/b=false:=by cases b <;> simp
theorem Yn {α:Type} [Xp α] {L:List α} {i:Nat} (h:i<L.length):L.drop i=rd L i::L.drop (i+1):=by rw [Xm h];exact AW h
theorem C3 {P:Program} {S:CC} (hS:Zu P S) {f:FuncId} {F:zy->Option (CA×Bool)} (hf:(P.funcs[f]?).any (fun fn=>fn.body.isSome)=true)
  (hF: ∀args v,F args=some (v,true)-> ∃bs vs,Vf D3 args bs/\Jd vs=v/\Ji P (Zy P f) (Zb P f bs true []) vs/\ ∃d,pf d v=true):Zu P (S.with f F):=w7r hS hf hF
abbrev S6 (v3:zq) (v5:Int) (l0:zq) (v4:Int):=((GP (v3++[0]) (0+(tn (wr (v5+1)))) (Nat.min ((v3.length+1) - (tn v5)) ((v3.length+1) - (tn (wr (v5+1))))) (Dl (v3++[0]) (0+(tn v5)) ((v3.length+1) - (tn v5)))).set (0+(tn v5)) (rd l0 (tn v4)))
abbrev S7 (v5:zp) (l0:zq) (v6:Int):=(v5++[(R2.mk (rd l0 (tn v6)) (rd l0 (tn (wr (v6+1)))))])
abbrev y2l (v5:zu) (l0:zx) (v6:Int):=(v5++[(R4.mk (rd l0 (tn v6)).a (rd l0 (tn v6)).b (rd l0 (tn v6)).d (rd l0 (tn v6)).e)])
abbrev Gk (v3:zq):=(Zr (Zz v3) 0 v3.length 1 [(ii 0)])
abbrev YP (v5:zp) (l0:zq) (v6:Int):=(Zr (Zz v5) 0 v5.length 2 [(ii (rd l0 (tn v6))),(ii (rd l0 (tn (wr (v6+1)))))])
abbrev YQ (v3:zq) (v5:Int):=(Nat.min ((v3.length+1) - (tn v5)) ((v3.length+1) - (tn (wr (v5+1)))))
inductive Dw where
 | h0 (v3:zq) (v4:Int)
 | h1 (v3:zq) (v4:Int) (v5:Int)
def v4t (l0:zq):Dw->CJ
 | .h0 v3 v4=>⟨⟨63,0,true⟩,none,(Zk prog 180 (pn 75) 0),none,(Zy prog 9),⟨Yy [(0,(dt l0)),(3,(.sla 0 1 0 v3.length (.un 1))),(4,(ii v4))],Wf [(rz v3 3 1)] 0,1,[],true⟩,[],.leaf⟩
 | .h1 v3 v4 v5=>⟨⟨63,0,true⟩,none,(Zk prog 180 (pn 8779) 0),none,(Zy prog 9),⟨Yy [(0,(dt l0)),(3,(.sla 0 1 0 v3.length (.un 1))),(4,(ii v4)),(5,(ii v5))],Wf [(rz v3 3 1)] 0,1,[],true⟩,[],.leaf⟩
def Y2 :List (Option zt):=[some [0,3,4]]
def Y1 :List (Option zt):=[]
def v4r :List (Option zt):=[some [0,3,4,5]]
def v4s :List (Option zt):=[]
def Ui (l0:zq):Dw->Xk Dw
 | .h0 v3 v4=>(bif (decide (v4<(l0.length:Int))) then (.to (.h1 v3 v4 (v3.length:Int))) else (.ret [(dt v3)]))
 | .h1 v3 v4 v5=>let a:=Dl (v3++[0]) (0+v5.toNat) ((v3.length+1) - v5.toNat);let b:=rd l0 v4.toNat;(bif (decide (v5>0)) then (bif ((decide (0<=(wrap .i64 (v5 - 1))/\(wrap .i64 (v5 - 1))<(v3.length:Int)))&&true) then (bif (decide ((0+(Int.toNat (wrap .i64 (v5 - 1))))<v3.length)) then (bif ((decide (0<=v4/\v4<(l0.length:Int)))&&true) then (bif (decide ((rd v3 (0+(Int.toNat (wrap .i64 (v5 - 1)))))>b)) then (.to (.h1 v3 v4 (wrap .i64 (v5 - 1)))) else (bif ((rd v3 (0+(Int.toNat (wrap .i64 (v5 - 1))))) == b) then (.to (.h0 v3 (wrap .i64 (v4+1)))) else (bif (Nat.beq 1 1&&((decide (0+v3.length=v3.length))&&decide ((v3.length+1+1)*(8+1)<=Vg))) then (bif (true&&((decide (0<=(wrap .i64 (v5+1))))&&(decide ((v3.length+1)<=(v3.length+1))&&decide ((Int.toNat (wrap .i64 (v5+1)))<=(v3.length+1))))) then (bif (true&&((decide (0<=v5))&&(decide ((v3.length+1)<=(v3.length+1))&&decide (v5.toNat<=(v3.length+1))))) then (bif (decide ((0+v5.toNat)+((v3.length+1) - v5.toNat)<=(v3.length+1))) then (bif (decide ((0+(Int.toNat (wrap .i64 (v5+1))))+((v3.length+1) - (Int.toNat (wrap .i64 (v5+1))))<=(v3.length+1))) then (bif ((decide (0<=v5/\v5<(((v3.length+1):Nat):Int)))&&true) then (bif (decide ((0+v5.toNat)<(v3.length+1))) then (.to (.h0 ((GP (v3++[0]) (0+(Int.toNat (wrap .i64 (v5+1)))) (Nat.min ((v3.length+1) - v5.toNat) ((v3.length+1) - (Int.toNat (wrap .i64 (v5+1))))) a).set (0+v5.toNat) b) (wrap .i64 (v4+1)))) else .stuck) else .stuck) else .stuck) else .stuck) else .stuck) else .stuck) else .stuck))) else .stuck) else .stuck) else .stuck) else (bif (Nat.beq 1 1&&((decide (0+v3.length=v3.length))&&decide ((v3.length+1+1)*(8+1)<=Vg))) then (bif (true&&((decide (0<=(wrap .i64 (v5+1))))&&(decide ((v3.length+1)<=(v3.length+1))&&decide ((Int.toNat (wrap .i64 (v5+1)))<=(v3.length+1))))) then (bif (true&&((decide (0<=v5))&&(decide ((v3.length+1)<=(v3.length+1))&&decide (v5.toNat<=(v3.length+1))))) then (bif (decide ((0+v5.toNat)+((v3.length+1) - v5.toNat)<=(v3.length+1))) then (bif (decide ((0+(Int.toNat (wrap .i64 (v5+1))))+((v3.length+1) - (Int.toNat (wrap .i64 (v5+1))))<=(v3.length+1))) then (bif ((decide (0<=v4/\v4<(l0.length:Int)))&&true) then (bif ((decide (0<=v5/\v5<(((v3.length+1):Nat):Int)))&&true) then (bif (decide ((0+v5.toNat)<(v3.length+1))) then (.to (.h0 ((GP (v3++[0]) (0+(Int.toNat (wrap .i64 (v5+1)))) (Nat.min ((v3.length+1) - v5.toNat) ((v3.length+1) - (Int.toNat (wrap .i64 (v5+1))))) a).set (0+v5.toNat) b) (wrap .i64 (v4+1)))) else .stuck) else .stuck) else .stuck) else .stuck) else .stuck) else .stuck) else .stuck) else .stuck))
def WV (l0:zq):Xk Dw:=(.to (.h0 ([]:zq) 0))
theorem x5q (l0:zq): ∀s,Xh prog (Zy prog 180) (v4t l0) (v4t l0 s) (Ui l0 s)
 | .h0 v3 v4=>(lb (fun k0=>(sl Zg 21 [] ⟨[0],[],v4r,v4s⟩ b7 [true] (pp (fl v3 nn) (tt k0 nn)))) (fun k0=>(lr 63 3 (pn 191) 1 9 [(2,(dt v3))] (sl Zg 15 [] ⟨[],[0],[some [2]],[]⟩ ⟨[(2,.frz v3.length v3.length (Zz v3) (Zz v3))],[],[]⟩ [false] (pp (xZ (DE 1 1 0 v3.length v3.length (Zz v3)) v3.length (Zz v3)) (pp (xL v3.length v3.length) (pp (xS v3.length (Zz v3) (Zz v3)) (pp (fl v3 nn) (tt k0 nn)))))))))
 | .h1 v3 v4 v5=>let i:=S6 v3 v5 l0 v4;let a:=i;let h:=v3.length+1;let j:=ii (rd l0 (tn v4));let l:=tn (wr (v5+1));let n:=h - (tn v5);let m:=decide ((0+(tn v5))+n<=h);let o:=Nat.beq 1 1;(lb (fun k0=>(lo fun aK=>(lo fun bH=>(lo fun cY=>let g:=ww cY (ww bH (ww aK (tt k0 nn)));(lb (fun k1=>(sl Zg 13 [] ⟨[0],[],v4r,v4s⟩ b7 (CL 11 []) (pp (fl v3 nn) (tt k1 g)))) (fun k1=>let b:=ww cY (ww bH (ww aK (tt k0 (tt k1 g))));(lb (fun k2=>(sl Zg 16 [] ⟨[0],[],Y2,Y1⟩ b7 (CL 10 (bl 12 4094)) (pp (fl v3 nn) (tt k2 b)))) (fun k2=>(lo fun o0=>(lo fun o1=>(lo fun o2=>(lo fun o3=>(lo fun o4=>(lo fun o5=>(lo fun o6=>let c:=xG o;let e:=xL h i.length;(sl Zg 36 [] ⟨[2],[],Y2,Y1⟩ ⟨[(3,.len a.length)],[.rowed 1 a.length (Zz a)],[]⟩ (CL 10 (bl 12 2046)) (pp e (pp e (pp (xS h (Xg (Ur (Gk v3) (0+l) (YQ v3 v5) (fun k=>(Gk v3) ((0+(tn v5))+k))) (0+(tn v5)) 0 [j]) (Zz i)) (pp (pp (xF (Xg (Ur (Gk v3) (0+l) (YQ v3 v5) (fun k=>(Gk v3) ((0+(tn v5))+k))) (0+(tn v5)) 0 [j])) nn) (ww o6 (ww o5 (ww cY (pp (pp c (pp c (pp (xw o4) (pp c (pp c (pp (xG m) (xG (EY 1 n (fun k=>(Gk v3) ((0+(tn v5))+k)))))))))) (ww o2 (ww o1 (ww o0 (tt k2 b)))))))))))))))))))))))))))) (fun k0=>(lo fun o0=>(lo fun o1=>(lo fun o2=>(lo fun o3=>(lo fun o4=>(lo fun o5=>(lo fun o6=>(lo fun o7=>let d:=xG o;let f:=xL h i.length;(sl Zg 36 [] ⟨[2],[],Y2,Y1⟩ ⟨[(3,.len a.length)],[.rowed 1 a.length (Zz a)],[]⟩ (bl 22 0) (pp f (pp f (pp (xS h (Xg (Ur (Gk v3) (0+l) (YQ v3 v5) (fun k=>(Gk v3) ((0+(tn v5))+k))) (0+(tn v5)) 0 [j]) (Zz i)) (pp (pp (xF (Xg (Ur (Gk v3) (0+l) (YQ v3 v5) (fun k=>(Gk v3) ((0+(tn v5))+k))) (0+(tn v5)) 0 [j])) nn) (ww o7 (ww o6 (ww o5 (pp (pp d (pp d (pp (xw o4) (pp d (pp d (pp (xG m) (xG (EY 1 n (fun k=>(Gk v3) ((0+(tn v5))+k)))))))))) (ww o2 (ww o1 (ww o0 (tt k0 (tt k0 nn))))))))))))))))))))))))
theorem x2v (l0:zq):Xh prog (Zy prog 180) (v4t l0) (Zb prog 180 [(dt l0)] true []) (WV l0):=(sl Zg 15 [(3,1,Zz ([]:zq))] ⟨[0],[],Y2,Y1⟩ ⟨[(3,.grow 0 1)],[],[]⟩ [] (pp (fl ([]:zq) nn) nn))
theorem w9a (l0:zq) (n:Nat) (vs:zy) (h:Yj (Ui l0) n (WV l0)=.ret vs):Ji prog (Zy prog 180) (Zb prog 180 [(dt l0)] true []) vs:=by have:=Zf (x5q l0) n _ (x2v l0);rwa [h] at this
inductive FE where
 | h0 (v5:zp) (v6:Int)
def j5e (l0:zq) (l1:List Bool):FE->CJ
 | .h0 v5 v6=>⟨⟨61,0,true⟩,none,(Zk prog 185 (pn 75) 0),none,(Zy prog 3),⟨Yy [(0,(dt l0)),(1,(dt l1)),(5,(.sla 0 2 0 v5.length (.un 2))),(6,(ii v6))],Wf [(rz v5 260 2)] 0,1,[],true⟩,[],.leaf⟩
def TO :List (Option zt):=[some [0,1,5,6]]
def TN :List (Option zt):=[]
def HQ (l0:zq) (l1:List Bool):FE->Xk FE
 | .h0 v5 v6=>let c:=rd l0 v6.toNat;(bif (decide ((wrap .i64 (v6+1))<(l0.length:Int))) then (bif ((decide (0<=v6/\v6<(l1.length:Int)))&&true) then (bif (!(rd l1 v6.toNat)) then (.to (.h0 v5 (wrap .i64 (v6+1)))) else (bif (decide ((v5.length:Int)>0)) then (bif ((decide (0<=(wrap .i64 ((v5.length:Int) - 1))/\(wrap .i64 ((v5.length:Int) - 1))<(v5.length:Int)))&&true) then (bif (decide ((0+(Int.toNat (wrap .i64 ((v5.length:Int) - 1))))<v5.length)) then (bif ((decide (0<=v6/\v6<(l0.length:Int)))&&true) then (bif ((rd v5 (0+(Int.toNat (wrap .i64 ((v5.length:Int) - 1))))).b == c) then (bif ((decide (0<=(wrap .i64 (v6+1))/\(wrap .i64 (v6+1))<(l0.length:Int)))&&true) then (.to (.h0 (v5.set (0+(Int.toNat (wrap .i64 ((v5.length:Int) - 1)))) (R2.mk (rd v5 (0+(Int.toNat (wrap .i64 ((v5.length:Int) - 1))))).a (rd l0 (Int.toNat (wrap .i64 (v6+1)))))) (wrap .i64 (v6+1)))) else .stuck) else (bif ((decide (0<=(wrap .i64 (v6+1))/\(wrap .i64 (v6+1))<(l0.length:Int)))&&true) then (bif (Nat.beq 2 2&&((decide (0+v5.length=v5.length))&&decide ((v5.length+1+1)*(16+1)<=Vg))) then (.to (.h0 (v5++[(R2.mk c (rd l0 (Int.toNat (wrap .i64 (v6+1)))))]) (wrap .i64 (v6+1)))) else .stuck) else .stuck)) else .stuck) else .stuck) else .stuck) else (bif ((decide (0<=v6/\v6<(l0.length:Int)))&&true) then (bif ((decide (0<=(wrap .i64 (v6+1))/\(wrap .i64 (v6+1))<(l0.length:Int)))&&true) then (bif (Nat.beq 2 2&&((decide (0+v5.length=v5.length))&&decide ((v5.length+1+1)*(16+1)<=Vg))) then (.to (.h0 (v5++[(R2.mk c (rd l0 (Int.toNat (wrap .i64 (v6+1)))))]) (wrap .i64 (v6+1)))) else .stuck) else .stuck) else .stuck))) else .stuck) else (.ret [(dt v5)]))
def WC (l0:zq) (l1:List Bool):Xk FE:=(.to (.h0 ([]:zp) 0))
theorem w0t (l0:zq) (l1:List Bool): ∀s,Xh prog (Zy prog 185) (j5e l0 l1) (j5e l0 l1 s) (HQ l0 l1 s)
 | .h0 v5 v6=>(lb (fun k0=>(lo fun aK=>let h:=ww aK (tt k0 nn);(lb (fun k1=>(sl Zg 30 [] ⟨[0],[],TO,TN⟩ b7 (bl 2 3) (pp (fl v5 nn) (tt k1 h)))) (fun k1=>let m:=S7 v5 l0 v6;let d:=m;let o:=v5.length+1;let p:=YP v5 l0 v6;(lb (fun k2=>(lo fun cT=>(lo fun eE=>(lo fun eG=>let e:=ww eG (ww eE (ww cT (tt k2 (tt k1 h))));(lb (fun k3=>(lo fun o0=>let j:=tn (wr ((v5.length:Int) - 1));let i:=j;let l:=rd l0 (tn (wr (v6+1)));let b:=v5.set (0+i) (R2.mk (rd v5 (0+i)).a l);let n:=v5.set (0+j) (R2.mk (rd v5 (0+j)).a l);let c:=xL v5.length n.length;let q:=Xg (Zz v5) (0+j) 1 [(ii l)];(sl Zg 53 [] ⟨[0],[],TO,TN⟩ ⟨[(5,.len b.length)],[.rowed 2 b.length (Zz b)],[]⟩ (bl 14 16381) (pp c (pp c (pp (xS v5.length q (Zz n)) (pp (pp (xF q) nn) (ww eE (ww cT (ww o0 (tt k3 e))))))))))) (fun k3=>(lo fun o0=>(lo fun o1=>let f:=xL o m.length;(sl Zg 41 [] ⟨[2],[],TO,TN⟩ ⟨[(5,.len d.length)],[.rowed 2 d.length (Zz d)],[]⟩ (bl 14 8189) (pp f (pp f (pp (xS o p (Zz m)) (pp (pp (xF p) nn) (ww o1 (ww o0 (ww eG (tt k3 e))))))))))))))))) (fun k2=>(lo fun o0=>(lo fun o1=>(lo fun o2=>let g:=xL o m.length;(sl Zg 41 [] ⟨[2],[],TO,TN⟩ ⟨[(5,.len d.length)],[.rowed 2 d.length (Zz d)],[]⟩ (bl 14 1) (pp g (pp g (pp (xS o p (Zz m)) (pp (pp (xF p) nn) (ww o2 (ww o1 (ww o0 (tt k2 (tt k1 h))))))))))))))))))) (fun k0=>(lr 61 3 (pn 191) 1 3 [(4,(dt v5))] (sl Zg 16 [] ⟨[],[0],[some [4]],[]⟩ ⟨[(4,.frz v5.length v5.length (Zz v5) (Zz v5))],[],[]⟩ [false] (pp (xZ (DE 2 2 0 v5.length v5.length (Zz v5)) v5.length (Zz v5)) (pp (xL v5.length v5.length) (pp (xS v5.length (Zz v5) (Zz v5)) (pp (fl v5 nn) (tt k0 nn)))))))))
theorem x6c (l0:zq) (l1:List Bool):Xh prog (Zy prog 185) (j5e l0 l1) (Zb prog 185 [(dt l0),(dt l1)] true []) (WC l0 l1):=(sl Zg 15 [(260,2,Zz ([]:zp))] ⟨[0],[],TO,TN⟩ ⟨[(5,.grow 0 2)],[],[]⟩ [] (pp (fl ([]:zp) nn) nn))
theorem v5w (l0:zq) (l1:List Bool) (n:Nat) (vs:zy) (h:Yj (HQ l0 l1) n (WC l0 l1)=.ret vs):Ji prog (Zy prog 185) (Zb prog 185 [(dt l0),(dt l1)] true []) vs:=by have:=Zf (w0t l0 l1) n _ (x6c l0 l1);rwa [h] at this
inductive Ho where
 | h0 (v5:Int)
def Nd (l0:zp) (l1:zp):Ho->CJ
 | .h0 v5=>⟨⟨26,0,true⟩,none,(Zk prog 186 (pn 75) 0),none,(Zy prog 3),⟨Yy [(0,(dt l0)),(1,(dt l1)),(5,(ii v5))],Wf [] 0,0,[],true⟩,[],.leaf⟩
def K7 :List (Option zt):=[some [0,1,5]]
def K8 :List (Option zt):=[]
def M5 (l0:zp) (l1:zp):Ho->Xk Ho
 | .h0 v5=>let c:=rd l1 v5.toNat;let d:=rd l0 v5.toNat;(bif (decide (v5<(l0.length:Int))) then (bif ((decide (0<=v5/\v5<(l0.length:Int)))&&true) then (bif ((decide (0<=v5/\v5<(l1.length:Int)))&&true) then (bif (!((d.a == c.a)&&((d.b == c.b)&&true))) then (.ret [(.bool false)]) else (.to (.h0 (wrap .i64 (v5+1))))) else .stuck) else .stuck) else (.ret [(.bool true)]))
def SJ (l0:zp) (l1:zp):Xk Ho:=(bif ((l0.length:Int) != (l1.length:Int)) then (.ret [(.bool false)]) else (.to (.h0 0)))
theorem w9b (l0:zp) (l1:zp): ∀s,Xh prog (Zy prog 186) (Nd l0 l1) (Nd l0 l1 s) (M5 l0 l1 s)
 | .h0 v5=>(lb (fun k0=>(lo fun aK=>(lo fun bH=>let a:=ww bH (ww aK (tt k0 nn));(lb (fun k1=>(lr 26 186 (pn 4683) 1 3 [(4,(.bool false))] (sl Zg 19 [] (b8 [4]) b7 (bl 2 3) (tt k1 a)))) (fun k1=>(sl Zg 23 [] ⟨[],[],K7,K8⟩ b7 (bl 2 1) (tt k1 a))))))) (fun k0=>(lr 26 3 (pn 191) 1 3 [(4,(.bool true))] (sl Zg 14 [] (b8 [4]) b7 [false] (tt k0 nn)))))
theorem x9u (l0:zp) (l1:zp):Xh prog (Zy prog 186) (Nd l0 l1) (Zb prog 186 [(dt l0),(dt l1)] true []) (SJ l0 l1):=(lb (fun k0=>(lr 26 186 (pn 37) 1 3 [(4,(.bool false))] (sl Zg 18 [] (b8 [4]) b7 [true] (tt k0 nn)))) (fun k0=>(sl Zg 22 [] ⟨[],[],K7,K8⟩ b7 [false] (tt k0 nn))))
theorem u1z (l0:zp) (l1:zp) (n:Nat) (vs:zy) (h:Yj (M5 l0 l1) n (SJ l0 l1)=.ret vs):Ji prog (Zy prog 186) (Zb prog 186 [(dt l0),(dt l1)] true []) vs:=by have:=Zf (w9b l0 l1) n _ (x9u l0 l1);rwa [h] at this
inductive FB where
 | h0 (v7:Int)
def j4r (l0:zu) (x1:Int) (x2:Int):FB->CJ
 | .h0 v7=>⟨⟨48,0,true⟩,none,(Zk prog 184 (pn 37) 0),none,(Zy prog 7),⟨Yy [(0,(dt l0)),(1,(ii x1)),(2,(ii x2)),(7,(ii v7))],Wf [] 0,0,[],true⟩,[],.leaf⟩
def TS :List (Option zt):=[some [0,1,2,7]]
def TR :List (Option zt):=[]
def Q1 (l0:zu) (x1:Int) (x2:Int):FB->Xk FB
 | .h0 v7=>let e:=rd l0 v7.toNat;(bif (decide (v7<(l0.length:Int))) then (bif ((decide (0<=v7/\v7<(l0.length:Int)))&&true) then (bif (decide (e.a <=x1)) then (bif (decide (x1<e.c)) then (bif (decide (e.b <=x2)) then (bif (decide (x2<e.d)) then (.ret [(.bool true)]) else (.to (.h0 (wrap .i64 (v7+1))))) else (.to (.h0 (wrap .i64 (v7+1))))) else (.to (.h0 (wrap .i64 (v7+1))))) else (.to (.h0 (wrap .i64 (v7+1))))) else .stuck) else (.ret [(.bool false)]))
def WH (l0:zu) (x1:Int) (x2:Int):Xk FB:=(.to (.h0 0))
theorem w0g (l0:zu) (x1:Int) (x2:Int): ∀s,Xh prog (Zy prog 184) (j4r l0 x1 x2) (j4r l0 x1 x2 s) (Q1 l0 x1 x2 s)
 | .h0 v7=>(lb (fun k0=>(lo fun aK=>let c:=ww aK (tt k0 nn);(lb (fun k1=>let a:=ww aK (tt k1 c);(lb (fun k2=>let d:=ww aK (tt k2 a);(lb (fun k3=>let b:=ww aK (tt k3 d);(lb (fun k4=>(lr 48 184 (pn 2341) 1 7 [(6,(.bool true))] (sl Zg 54 [] (b8 [6]) b7 (CL 23 []) (tt k4 b)))) (fun k4=>(sl Zg 58 [] ⟨[],[],TS,TR⟩ b7 (CL 22 [false]) (tt k4 b))))) (fun k3=>(sl Zg 58 [] ⟨[],[],TS,TR⟩ b7 (CL 15 (bl 8 0)) (tt k3 d))))) (fun k2=>(sl Zg 58 [] ⟨[],[],TS,TR⟩ b7 (CL 8 (bl 15 0)) (tt k2 a))))) (fun k1=>(sl Zg 58 [] ⟨[],[],TS,TR⟩ b7 (bl 23 1) (tt k1 c)))))) (fun k0=>(lr 48 3 (pn 191) 1 7 [(6,(.bool false))] (sl Zg 14 [] (b8 [6]) b7 [false] (tt k0 nn)))))
theorem x5t (l0:zu) (x1:Int) (x2:Int):Xh prog (Zy prog 184) (j4r l0 x1 x2) (Zb prog 184 [(dt l0),(.int .i64 x1),(.int .i64 x2)] true []) (WH l0 x1 x2):=(sl Zg 11 [] ⟨[],[],TS,TR⟩ b7 [] nn)
theorem v5d (l0:zu) (x1:Int) (x2:Int) (n:Nat) (vs:zy) (h:Yj (Q1 l0 x1 x2) n (WH l0 x1 x2)=.ret vs):Ji prog (Zy prog 184) (Zb prog 184 [(dt l0),(.int .i64 x1),(.int .i64 x2)] true []) vs:=by have:=Zf (w0g l0 x1 x2) n _ (x5t l0 x1 x2);rwa [h] at this
inductive Hn where
 | h0 (v5:Int)
def Nc (l0:zu) (l1:zu):Hn->CJ
 | .h0 v5=>⟨⟨26,0,true⟩,none,(Zk prog 151 (pn 75) 0),none,(Zy prog 3),⟨Yy [(0,(dt l0)),(1,(dt l1)),(5,(ii v5))],Wf [] 0,0,[],true⟩,[],.leaf⟩
def K5 :List (Option zt):=[some [0,1,5]]
def K6 :List (Option zt):=[]
def M6 (l0:zu) (l1:zu):Hn->Xk Hn
 | .h0 v5=>let e:=rd l1 v5.toNat;let f:=rd l0 v5.toNat;(bif (decide (v5<(l0.length:Int))) then (bif ((decide (0<=v5/\v5<(l0.length:Int)))&&true) then (bif ((decide (0<=v5/\v5<(l1.length:Int)))&&true) then (bif (!((f.a == e.a)&&((f.b == e.b)&&((f.c == e.c)&&((f.d == e.d)&&true))))) then (.ret [(.bool false)]) else (.to (.h0 (wrap .i64 (v5+1))))) else .stuck) else .stuck) else (.ret [(.bool true)]))
def SL (l0:zu) (l1:zu):Xk Hn:=(bif ((l0.length:Int) != (l1.length:Int)) then (.ret [(.bool false)]) else (.to (.h0 0)))
theorem w8z (l0:zu) (l1:zu): ∀s,Xh prog (Zy prog 151) (Nc l0 l1) (Nc l0 l1 s) (M6 l0 l1 s)
 | .h0 v5=>(lb (fun k0=>(lo fun aK=>(lo fun bH=>let a:=ww bH (ww aK (tt k0 nn));(lb (fun k1=>(lr 26 151 (pn 4683) 1 3 [(4,(.bool false))] (sl Zg 19 [] (b8 [4]) b7 (bl 2 3) (tt k1 a)))) (fun k1=>(sl Zg 23 [] ⟨[],[],K5,K6⟩ b7 (bl 2 1) (tt k1 a))))))) (fun k0=>(lr 26 3 (pn 191) 1 3 [(4,(.bool true))] (sl Zg 14 [] (b8 [4]) b7 [false] (tt k0 nn)))))
theorem x9t (l0:zu) (l1:zu):Xh prog (Zy prog 151) (Nc l0 l1) (Zb prog 151 [(dt l0),(dt l1)] true []) (SL l0 l1):=(lb (fun k0=>(lr 26 151 (pn 37) 1 3 [(4,(.bool false))] (sl Zg 18 [] (b8 [4]) b7 [true] (tt k0 nn)))) (fun k0=>(sl Zg 22 [] ⟨[],[],K5,K6⟩ b7 [false] (tt k0 nn))))
theorem u1y (l0:zu) (l1:zu) (n:Nat) (vs:zy) (h:Yj (M6 l0 l1) n (SL l0 l1)=.ret vs):Ji prog (Zy prog 151) (Zb prog 151 [(dt l0),(dt l1)] true []) vs:=by have:=Zf (w8z l0 l1) n _ (x9t l0 l1);rwa [h] at this
inductive Hq where
 | h0 (v5:Int)
def Ng (l0:zx) (l1:zx):Hq->CJ
 | .h0 v5=>⟨⟨26,0,true⟩,none,(Zk prog 31 (pn 75) 0),none,(Zy prog 3),⟨Yy [(0,(dt l0)),(1,(dt l1)),(5,(ii v5))],Wf [] 0,0,[],true⟩,[],.leaf⟩
def LC :List (Option zt):=[some [0,1,5]]
def LD :List (Option zt):=[]
def M4 (l0:zx) (l1:zx):Hq->Xk Hq
 | .h0 v5=>let g:=rd l1 v5.toNat;let h:=rd l0 v5.toNat;(bif (decide (v5<(l0.length:Int))) then (bif ((decide (0<=v5/\v5<(l0.length:Int)))&&true) then (bif ((decide (0<=v5/\v5<(l1.length:Int)))&&true) then (bif (!(((h.a == g.a)&&((h.b == g.b)&&((h.c == g.c)&&true)))&&(((h.d == g.d)&&((h.e == g.e)&&((h.f == g.f)&&true)))&&true))) then (.ret [(.bool false)]) else (.to (.h0 (wrap .i64 (v5+1))))) else .stuck) else .stuck) else (.ret [(.bool true)]))
def SI (l0:zx) (l1:zx):Xk Hq:=(bif ((l0.length:Int) != (l1.length:Int)) then (.ret [(.bool false)]) else (.to (.h0 0)))
theorem w9d (l0:zx) (l1:zx): ∀s,Xh prog (Zy prog 31) (Ng l0 l1) (Ng l0 l1 s) (M4 l0 l1 s)
 | .h0 v5=>(lb (fun k0=>(lo fun aK=>(lo fun bH=>let a:=ww bH (ww aK (tt k0 nn));(lb (fun k1=>(lr 26 31 (pn 4683) 1 3 [(4,(.bool false))] (sl Zg 19 [] (b8 [4]) b7 (bl 2 3) (tt k1 a)))) (fun k1=>(sl Zg 23 [] ⟨[],[],LC,LD⟩ b7 (bl 2 1) (tt k1 a))))))) (fun k0=>(lr 26 3 (pn 191) 1 3 [(4,(.bool true))] (sl Zg 14 [] (b8 [4]) b7 [false] (tt k0 nn)))))
theorem x9w (l0:zx) (l1:zx):Xh prog (Zy prog 31) (Ng l0 l1) (Zb prog 31 [(dt l0),(dt l1)] true []) (SI l0 l1):=(lb (fun k0=>(lr 26 31 (pn 37) 1 3 [(4,(.bool false))] (sl Zg 18 [] (b8 [4]) b7 [true] (tt k0 nn)))) (fun k0=>(sl Zg 22 [] ⟨[],[],LC,LD⟩ b7 [false] (tt k0 nn))))
theorem u2c (l0:zx) (l1:zx) (n:Nat) (vs:zy) (h:Yj (M4 l0 l1) n (SI l0 l1)=.ret vs):Ji prog (Zy prog 31) (Zb prog 31 [(dt l0),(dt l1)] true []) vs:=by have:=Zf (w9d l0 l1) n _ (x9w l0 l1);rwa [h] at this
inductive IE where
 | h0 (v5:zu) (v6:Int)
def Nt (l0:zx) (x1:Int):IE->CJ
 | .h0 v5 v6=>⟨⟨60,0,true⟩,none,(Zk prog 150 (pn 75) 0),none,(Zy prog 3),⟨Yy [(0,(dt l0)),(1,(ii x1)),(5,(.sla 0 4 0 v5.length (.un 4))),(6,(ii v6))],Wf [(rz v5 168 4)] 0,1,[],true⟩,[],.leaf⟩
def Z5 :List (Option zt):=[some [0,1,5,6]]
def Z4 :List (Option zt):=[]
def MZ (l0:zx) (x1:Int):IE->Xk IE
 | .h0 v5 v6=>let g:=rd l0 v6.toNat;(bif (decide (v6<(l0.length:Int))) then (bif ((decide (0<=v6/\v6<(l0.length:Int)))&&true) then (bif (decide (g.c <=x1)) then (bif (decide (x1<g.f)) then (bif (Nat.beq 4 4&&((decide (0+v5.length=v5.length))&&decide ((v5.length+1+1)*(32+1)<=Vg))) then (.to (.h0 (v5++[(R4.mk g.a g.b g.d g.e)]) (wrap .i64 (v6+1)))) else .stuck) else (.to (.h0 v5 (wrap .i64 (v6+1))))) else (.to (.h0 v5 (wrap .i64 (v6+1))))) else .stuck) else (.ret [(dt v5)]))
def XO (l0:zx) (x1:Int):Xk IE:=(.to (.h0 ([]:zu) 0))
theorem w9u (l0:zx) (x1:Int): ∀s,Xh prog (Zy prog 150) (Nt l0 x1) (Nt l0 x1 s) (MZ l0 x1 s)
 | .h0 v5 v6=>(lb (fun k0=>(lo fun aK=>let f:=ww aK (tt k0 nn);(lb (fun k1=>let h:=ww aK (tt k1 f);(lb (fun k2=>(lo fun o0=>let l:=y2l v5 l0 v6;let m:=v5.length+1;let c:=xL m l.length;let g:=l;let j:=rd l0 (tn v6);let i:=Zr (Zz v5) 0 v5.length 4 [(ii j.a),(ii j.b),(ii j.d),(ii j.e)];(sl Zg 42 [] ⟨[2],[],Z5,Z4⟩ ⟨[(5,.len g.length)],[.rowed 4 g.length (Zz g)],[]⟩ (CL 10 []) (pp c (pp c (pp (xS m i (Zz l)) (pp (pp (xF i) nn) (ww o0 (ww aK (ww aK (ww aK (ww aK (tt k2 h))))))))))))) (fun k2=>(sl Zg 42 [] ⟨[0],[],Z5,Z4⟩ b7 (CL 9 [false]) (pp (fl v5 nn) (tt k2 h)))))) (fun k1=>(sl Zg 42 [] ⟨[0],[],Z5,Z4⟩ b7 (bl 10 1) (pp (fl v5 nn) (tt k1 f))))))) (fun k0=>(lr 60 3 (pn 191) 1 3 [(4,(dt v5))] (sl Zg 15 [] ⟨[],[0],[some [4]],[]⟩ ⟨[(4,.frz v5.length v5.length (Zz v5) (Zz v5))],[],[]⟩ [false] (pp (xZ (DE 4 4 0 v5.length v5.length (Zz v5)) v5.length (Zz v5)) (pp (xL v5.length v5.length) (pp (xS v5.length (Zz v5) (Zz v5)) (pp (fl v5 nn) (tt k0 nn)))))))))
theorem w0u (l0:zx) (x1:Int):Xh prog (Zy prog 150) (Nt l0 x1) (Zb prog 150 [(dt l0),(.int .i64 x1)] true []) (XO l0 x1):=(sl Zg 15 [(168,4,Zz ([]:zu))] ⟨[0],[],Z5,Z4⟩ ⟨[(5,.grow 0 4)],[],[]⟩ [] (pp (fl ([]:zu) nn) nn))
theorem u3f (l0:zx) (x1:Int) (n:Nat) (vs:zy) (h:Yj (MZ l0 x1) n (XO l0 x1)=.ret vs):Ji prog (Zy prog 150) (Zb prog 150 [(dt l0),(.int .i64 x1)] true []) vs:=by have:=Zf (w9u l0 x1) n _ (w0u l0 x1);rwa [h] at this
inductive Ik where
 | h0 (v13:Int)
def Pt (l0:zp) (l1:zp):Ik->CJ
 | .h0 v13=>⟨⟨26,0,true⟩,none,(Zk prog 203 (pn 75) 0),none,(Zy prog 3),⟨Yy [(0,(dt l0)),(1,(dt l1)),(12,(ii (l0.length:Int))),(13,(ii v13))],Wf [] 0,0,[],true⟩,[],.leaf⟩
def ME :List (Option zt):=[some [0,1,12,13]]
def MF :List (Option zt):=[]
def MP (l0:zp) (l1:zp):Ik->Xk Ik
 | .h0 v13=>let c:=rd l1 v13.toNat;let d:=rd l0 v13.toNat;(bif (decide (v13<(l0.length:Int))) then (bif ((decide (0<=v13/\v13<(l0.length:Int)))&&true) then (bif ((decide (0<=v13/\v13<(l1.length:Int)))&&true) then (bif (!((d.a == c.a)&&((d.b == c.b)&&true))) then (.ret [(.bool false)]) else (.to (.h0 (wrap .i64 (v13+1))))) else .stuck) else .stuck) else (.ret [(.bool true)]))
def Su (l0:zp) (l1:zp):Xk Ik:=(bif ((l0.length:Int) != (l1.length:Int)) then (.ret [(.bool false)]) else (.to (.h0 0)))
theorem v1r (l0:zp) (l1:zp): ∀s,Xh prog (Zy prog 203) (Pt l0 l1) (Pt l0 l1 s) (MP l0 l1 s)
 | .h0 v13=>(lb (fun k0=>(lo fun aK=>(lo fun bH=>let a:=ww bH (ww aK (tt k0 nn));(lb (fun k1=>(lr 26 203 (pn 19659) 1 3 [(4,(.bool false))] (sl Zg 21 [] (b8 [4]) b7 (bl 2 3) (tt k1 a)))) (fun k1=>(sl Zg 24 [] ⟨[],[],ME,MF⟩ b7 (bl 2 1) (tt k1 a))))))) (fun k0=>(lr 26 3 (pn 191) 1 3 [(4,(.bool true))] (sl Zg 11 [] (b8 [4]) b7 [false] (tt k0 nn)))))
theorem w3j (l0:zp) (l1:zp):Xh prog (Zy prog 203) (Pt l0 l1) (Zb prog 203 [(dt l0),(dt l1)] true []) (Su l0 l1):=(lb (fun k0=>(lr 26 203 (pn 37) 1 3 [(4,(.bool false))] (sl Zg 18 [] (b8 [4]) b7 [true] (tt k0 nn)))) (fun k0=>(sl Zg 24 [] ⟨[],[],ME,MF⟩ b7 [false] (tt k0 nn))))
theorem u5u (l0:zp) (l1:zp) (n:Nat) (vs:zy) (h:Yj (MP l0 l1) n (Su l0 l1)=.ret vs):Ji prog (Zy prog 203) (Zb prog 203 [(dt l0),(dt l1)] true []) vs:=by have:=Zf (v1r l0 l1) n _ (w3j l0 l1);rwa [h] at this
inductive Ij where
 | h0 (v13:Int)
def Ps (l0:zu) (l1:zu):Ij->CJ
 | .h0 v13=>⟨⟨26,0,true⟩,none,(Zk prog 168 (pn 75) 0),none,(Zy prog 3),⟨Yy [(0,(dt l0)),(1,(dt l1)),(12,(ii (l0.length:Int))),(13,(ii v13))],Wf [] 0,0,[],true⟩,[],.leaf⟩
def MC :List (Option zt):=[some [0,1,12,13]]
def MD :List (Option zt):=[]
def MQ (l0:zu) (l1:zu):Ij->Xk Ij
 | .h0 v13=>let e:=rd l1 v13.toNat;let f:=rd l0 v13.toNat;(bif (decide (v13<(l0.length:Int))) then (bif ((decide (0<=v13/\v13<(l0.length:Int)))&&true) then (bif ((decide (0<=v13/\v13<(l1.length:Int)))&&true) then (bif (!((f.a == e.a)&&((f.b == e.b)&&((f.c == e.c)&&((f.d == e.d)&&true))))) then (.ret [(.bool false)]) else (.to (.h0 (wrap .i64 (v13+1))))) else .stuck) else .stuck) else (.ret [(.bool true)]))
def Sv (l0:zu) (l1:zu):Xk Ij:=(bif ((l0.length:Int) != (l1.length:Int)) then (.ret [(.bool false)]) else (.to (.h0 0)))
theorem v1q (l0:zu) (l1:zu): ∀s,Xh prog (Zy prog 168) (Ps l0 l1) (Ps l0 l1 s) (MQ l0 l1 s)
 | .h0 v13=>(lb (fun k0=>(lo fun aK=>(lo fun bH=>let a:=ww bH (ww aK (tt k0 nn));(lb (fun k1=>(lr 26 168 (pn 19659) 1 3 [(4,(.bool false))] (sl Zg 21 [] (b8 [4]) b7 (bl 2 3) (tt k1 a)))) (fun k1=>(sl Zg 24 [] ⟨[],[],MC,MD⟩ b7 (bl 2 1) (tt k1 a))))))) (fun k0=>(lr 26 3 (pn 191) 1 3 [(4,(.bool true))] (sl Zg 11 [] (b8 [4]) b7 [false] (tt k0 nn)))))
theorem w3i (l0:zu) (l1:zu):Xh prog (Zy prog 168) (Ps l0 l1) (Zb prog 168 [(dt l0),(dt l1)] true []) (Sv l0 l1):=(lb (fun k0=>(lr 26 168 (pn 37) 1 3 [(4,(.bool false))] (sl Zg 18 [] (b8 [4]) b7 [true] (tt k0 nn)))) (fun k0=>(sl Zg 24 [] ⟨[],[],MC,MD⟩ b7 [false] (tt k0 nn))))
theorem u5t (l0:zu) (l1:zu) (n:Nat) (vs:zy) (h:Yj (MQ l0 l1) n (Sv l0 l1)=.ret vs):Ji prog (Zy prog 168) (Zb prog 168 [(dt l0),(dt l1)] true []) vs:=by have:=Zf (v1q l0 l1) n _ (w3i l0 l1);rwa [h] at this
inductive Ii where
 | h0 (v13:Int)
def Pr (l0:zx) (l1:zx):Ii->CJ
 | .h0 v13=>⟨⟨26,0,true⟩,none,(Zk prog 103 (pn 75) 0),none,(Zy prog 3),⟨Yy [(0,(dt l0)),(1,(dt l1)),(12,(ii (l0.length:Int))),(13,(ii v13))],Wf [] 0,0,[],true⟩,[],.leaf⟩
def MA :List (Option zt):=[some [0,1,12,13]]
def MB :List (Option zt):=[]
def MR (l0:zx) (l1:zx):Ii->Xk Ii
 | .h0 v13=>let g:=rd l1 v13.toNat;let h:=rd l0 v13.toNat;(bif (decide (v13<(l0.length:Int))) then (bif ((decide (0<=v13/\v13<(l0.length:Int)))&&true) then (bif ((decide (0<=v13/\v13<(l1.length:Int)))&&true) then (bif (!(((h.a == g.a)&&((h.b == g.b)&&((h.c == g.c)&&true)))&&(((h.d == g.d)&&((h.e == g.e)&&((h.f == g.f)&&true)))&&true))) then (.ret [(.bool false)]) else (.to (.h0 (wrap .i64 (v13+1))))) else .stuck) else .stuck) else (.ret [(.bool true)]))
def Sx (l0:zx) (l1:zx):Xk Ii:=(bif ((l0.length:Int) != (l1.length:Int)) then (.ret [(.bool false)]) else (.to (.h0 0)))
theorem v1p (l0:zx) (l1:zx): ∀s,Xh prog (Zy prog 103) (Pr l0 l1) (Pr l0 l1 s) (MR l0 l1 s)
 | .h0 v13=>(lb (fun k0=>(lo fun aK=>(lo fun bH=>let a:=ww bH (ww aK (tt k0 nn));(lb (fun k1=>(lr 26 103 (pn 19659) 1 3 [(4,(.bool false))] (sl Zg 21 [] (b8 [4]) b7 (bl 2 3) (tt k1 a)))) (fun k1=>(sl Zg 24 [] ⟨[],[],MA,MB⟩ b7 (bl 2 1) (tt k1 a))))))) (fun k0=>(lr 26 3 (pn 191) 1 3 [(4,(.bool true))] (sl Zg 11 [] (b8 [4]) b7 [false] (tt k0 nn)))))
theorem w3h (l0:zx) (l1:zx):Xh prog (Zy prog 103) (Pr l0 l1) (Zb prog 103 [(dt l0),(dt l1)] true []) (Sx l0 l1):=(lb (fun k0=>(lr 26 103 (pn 37) 1 3 [(4,(.bool false))] (sl Zg 18 [] (b8 [4]) b7 [true] (tt k0 nn)))) (fun k0=>(sl Zg 24 [] ⟨[],[],MA,MB⟩ b7 [false] (tt k0 nn))))
theorem u5s (l0:zx) (l1:zx) (n:Nat) (vs:zy) (h:Yj (MR l0 l1) n (Sx l0 l1)=.ret vs):Ji prog (Zy prog 103) (Zb prog 103 [(dt l0),(dt l1)] true []) vs:=by have:=Zf (v1p l0 l1) n _ (w3h l0 l1);rwa [h] at this
inductive IZ where
def Om (x0:Int) (x1:Bool) (x2:Bool):IZ->CJ
 :=nofun
def w2i (x0:Int) (x1:Bool) (x2:Bool):IZ->Xk IZ
 :=nofun
def XE (x0:Int) (x1:Bool) (x2:Bool):Xk IZ:=(bif (x0 == 1) then (bif x1 then (.ret [(.bool x2)]) else (.ret [(.bool false)])) else (bif (x0 == 2) then (bif x1 then (.ret [(.bool true)]) else (.ret [(.bool x2)])) else (bif x1 then (.ret [(.bool (!x2))]) else (.ret [(.bool false)]))))
theorem v0x (x0:Int) (x1:Bool) (x2:Bool): ∀s,Xh prog (Zy prog 183) (Om x0 x1 x2) (Om x0 x1 x2 s) (w2i x0 x1 x2 s)
 :=nofun
theorem w2j (x0:Int) (x1:Bool) (x2:Bool):Xh prog (Zy prog 183) (Om x0 x1 x2) (Zb prog 183 [(.int .i64 x0),(.bool x1),(.bool x2)] true []) (XE x0 x1 x2):=(lb (fun k0=>(lb (fun k1=>(lr 24 183 (pn 37) 1 7 [(6,(.bool x2))] (sl Zg 19 [] (b8 [6]) b7 (bl 2 3) (tt k1 (tt k0 nn))))) (fun k1=>(lr 24 183 (pn 37) 1 7 [(6,(.bool false))] (sl Zg 19 [] (b8 [6]) b7 (bl 2 1) (tt k1 (tt k0 nn))))))) (fun k0=>(lb (fun k1=>let a:=tt k1 (tt k0 nn);(lb (fun k2=>(lr 24 183 (pn 75) 1 7 [(6,(.bool true))] (sl Zg 27 [] (b8 [6]) b7 (bl 3 6) (tt k2 a)))) (fun k2=>(lr 24 183 (pn 75) 1 7 [(6,(.bool x2))] (sl Zg 27 [] (b8 [6]) b7 (bl 3 2) (tt k2 a)))))) (fun k1=>let b:=tt k1 (tt k0 nn);(lb (fun k2=>(lr 24 3 (pn 191) 1 7 [(6,(.bool (!x2)))] (sl Zg 29 [] (b8 [6]) b7 (bl 4 12) (tt k2 b)))) (fun k2=>(lr 24 3 (pn 191) 1 7 [(6,(.bool false))] (sl Zg 29 [] (b8 [6]) b7 (bl 4 0) (tt k2 b)))))))))
theorem u4x (x0:Int) (x1:Bool) (x2:Bool) (n:Nat) (vs:zy) (h:Yj (w2i x0 x1 x2) n (XE x0 x1 x2)=.ret vs):Ji prog (Zy prog 183) (Zb prog 183 [(.int .i64 x0),(.bool x1),(.bool x2)] true []) vs:=by have:=Zf (v0x x0 x1 x2) n _ (w2j x0 x1 x2);rwa [h] at this
inductive I3 where
def Ow (x0:Bool) (x1:Bool):I3->CJ
 :=nofun
def w2q (x0:Bool) (x1:Bool):I3->Xk I3
 :=nofun
def x3z (x0:Bool) (x1:Bool):Xk I3:=(.ret [(.bool x0)])
theorem v1c (x0:Bool) (x1:Bool): ∀s,Xh prog (Zy prog 229) (Ow x0 x1) (Ow x0 x1 s) (w2q x0 x1 s)
 :=nofun
theorem w2r (x0:Bool) (x1:Bool):Xh prog (Zy prog 229) (Ow x0 x1) (Zb prog 229 [(.bool x0),(.bool x1)] true []) (x3z x0 x1):=(lr 6 3 (pn 191) 1 3 [(4,(.bool x0))] (sl Zg 9 [] (b8 [4]) b7 [] nn))
theorem u5c (x0:Bool) (x1:Bool) (n:Nat) (vs:zy) (h:Yj (w2q x0 x1) n (x3z x0 x1)=.ret vs):Ji prog (Zy prog 229) (Zb prog 229 [(.bool x0),(.bool x1)] true []) vs:=by have:=Zf (v1c x0 x1) n _ (w2r x0 x1);rwa [h] at this
def Ef (out:zq) (x:Int):Nat->Nat
 | 0=>0
 | k+1=>bif decide (rd out k>x) then Ef out x k else k+1
def Do (out:zq) (x:Int):zq:=
 match Ef out x out.length with
 | 0=>x::out
 | k+1=>bif rd out k == x then out else out.take (k+1)++x::out.drop (k+1)
def Cj (l:zq):zq:=l.foldl Do []
def Qn (l:zq):Bool:=decide (l.length<=1000000)
theorem y7o (out:zq) (x:Int):(Do out x).length <=out.length+1:=by
 grind [Do]
theorem x6w (out:zq) (x:Int) (k:Nat) (hk:k<=out.length):
  (GP (out++[0]) (k+1) (Nat.min (out.length+1 - k) (out.length+1 - (k+1))) (Dl (out++[0]) k (out.length+1 - k))).set k x=out.take k++x::out.drop k:=by
 have hm:Nat.min (out.length+1 - k) (out.length+1 - (k+1))=out.length - k:=by
  grind
 rw [hm];apply BO
 .simp [WY];omega
 .intro i h1 h2;have hi:i<out.length+1:=by grind
  rw [<-Xm h1,<-Xm h2]
  grind [v5n,Xm,v5o,ZO,ZP,x3f]
theorem w5h (l:zq) (out:zq) (i:Nat) (hi:i<l.length) (hl:l.length<=1000000) (ho:out.length<=i): ∀(k N:Nat),k<=out.length->
  (Ef out (rd l i) out.length=Ef out (rd l i) k)-> ∃m,∀N,Yj (Ui l) (N+m) (.to (.h1 out (i:Int) (k:Int)))=Yj (Ui l) N (.to (.h0 (Do out (rd l i)) ((i+1:Nat):Int)))
 | 0,N,hk,hp=>by
  refine ⟨1,fun N=> ?_⟩;have hins:Do out (rd l i)=(GP (out++[0]) (0+1) (Nat.min (out.length+1 - 0) (out.length+1 - (0+1))) (Dl (out++[0]) 0 (out.length+1 - 0))).set 0 (rd l i):=by rw [x6w out _ 0 (AA _)];unfold Do;rw [hp];rfl
  rw [hins,Zx];simp (disch:=omega) only [Ui,Zh,Au,Xb,Zt,Xs,Yp,Yd,Yg,Zn,Zq,Zv,Yb,Zj,Ah,Aj,Al,Ab,Aa]
 | k +1,N,hk,hp=>by
  rcases Xw (decide (rd out k>rd l i)) with h | h
  .have hp':Ef out (rd l i) out.length=Ef out (rd l i) k:=by grind [Ef]
   obtain ⟨m,hm⟩:=w5h l out i hi hl ho k N (by omega) hp';refine ⟨m+1,fun N=> ?_⟩;rw [<-hm N,<-AK,Zx];simp (disch:=omega) only [Ui,Yx,h,Zh,Au,Yo,Zt,Xs,Yp,Yd,Yg,Zn,Zq,Zv,Yb,Zj,Ah,Aj,Al,Ab,Aa]
  .have hpk:Ef out (rd l i) out.length=k+1:=by rw [hp];unfold Ef;rw [h];rfl
   refine ⟨1,fun N=> ?_⟩;rw [Zx];rcases Xw (rd out k == rd l i) with q | q
   .have hins:Do out (rd l i)=out:=(by grind [Do]);rw [hins];simp (disch:=omega) only [Ui,Yx,h,q,Zh,Au,Yo,Zt,Xs,Yp,Yd,Yg,Zn,Zq,Zv,Yb,Zj,Ah,Aj,Al,Ab,Aa]
   .have hins:Do out (rd l i)=(GP (out++[0]) (k+1+1) (Nat.min (out.length+1 - (k+1)) (out.length+1 - (k+1+1))) (Dl (out++[0]) (k+1) (out.length+1 - (k+1)))).set (k+1) (rd l i):=by
     rw [x6w out _ (k+1) hk]
     grind [Do]
    rw [hins];simp (disch:=omega) only [Ui,Yx,h,q,Zh,Au,Yo,Zt,Xs,Yp,Yd,Yg,Zn,Zq,Zv,Yb,Zj,Ah,Aj,Al,Ab,Aa]
theorem w5i (l:zq) (hl:l.length<=1000000): ∀(k i:Nat) (out:zq),i+k=l.length->out.length<=i-> ∃m,Yj (Ui l) m (.to (.h0 out (i:Int)))=.ret [.dat ((l.drop i).foldl Do out).length (Zz ((l.drop i).foldl Do out))]
 | 0,i,out,h,ho=>by refine ⟨1,?_⟩;rw [Zx];simp (disch:=omega) only [Ui,Yc,Aa];rw [Aw (by omega)];rfl
 | k+1,i,out,h,ho=>by
  obtain ⟨m1,h1⟩:=w5h l out i (by omega) hl ho out.length 0 (Aq _) rfl;obtain ⟨m2,h2⟩:=w5i l hl k (i+1) (Do out (rd l i)) (by omega) (AI (y7o _ _) (by omega));refine ⟨m2+m1+1,?_⟩
  grind [Zx,Ui,Yn]
theorem v4q (l:zq) (h:Qn l=true): ∃N,Yj (Ui l) N (WV l)=.ret [.dat (Cj l).length (Zz (Cj l))]:=by
 have:=w5i l (Ay h) l.length 0 [] (by omega) (Aq _)
 simpa [WV,Cj] using this
theorem Zo (n:Nat):Int.toNat ((n:Int) - 1)=n - 1:=by omega
theorem Z1 (x y:R2):((x.a == y.a)&&(x.b == y.b))=decide (x=y):=by
 obtain ⟨a,b⟩:=x;obtain ⟨c,d⟩:=y
 grind
theorem Z2 (x y:R4):((x.a == y.a)&&((x.b == y.b)&&((x.c == y.c)&&(x.d == y.d))))=decide (x=y):=by
 obtain ⟨a,b,c,d⟩:=x;obtain ⟨e,f,g,h⟩:=y
 grind
theorem Z3 (x y:R6):(((x.a == y.a)&&((x.b == y.b)&&(x.c == y.c)))&&((x.d == y.d)&&((x.e == y.e)&&(x.f == y.f))))=decide (x=y):=by
 obtain ⟨a,b,c,d,e,f⟩:=x;obtain ⟨a',b',c',d',e',f'⟩:=y
 grind
def Qr (l m:zp):Bool:=decide (l=m)
def Uh (l m:zu):Bool:=decide (l=m)
def Kx (l m:zx):Bool:=decide (l=m)
def Ug (l m:zp):Bool:=decide (l.length<=1000000)
def Wb (l m:zu):Bool:=decide (l.length<=1000000)
def Vm (l m:zx):Bool:=decide (l.length<=1000000)
theorem QS {α:Type} [DecidableEq α] (x y:α) (l m:List α):decide (x::l=y::m)=(decide (x=y)&&decide (l=m)):=by grind
theorem u8q (l m:zp) (hl:l.length<=1000000) (hm:l.length=m.length): ∀(k i:Nat),i+k=l.length-> ∃N,Yj (M5 l m) N (.to (.h0 (i:Int)))=.ret [.bool (decide (l.drop i=m.drop i))]
 | 0,i,h=>by refine ⟨1,?_⟩;rw [Zx,Aw (show l.length<=i by omega),Aw (show m.length<=i by omega)];simp (disch:=omega) only [M5,Xb,Yo,Zt,Yc,Xs,Yp,Yd,Yg,Zn,Zq,Zh,Jy,Vp,Au,Zv,Yx,Zo,Yb,Zj,Ah,Aj,Al,Ab,Aa,Ax,AB,Zc]
 | k+1,i,h=>by
  obtain ⟨N,hN⟩:=u8q l m hl hm k (i+1) (by omega);refine ⟨N+1,?_⟩;rw [Zx,Yn (show i<l.length by omega),Yn (show i<m.length by omega),QS];rcases Xw (decide (rd l i=rd m i)) with q | q
  .simp (disch:=omega) only [M5,Z1,q,Xb,Yo,Zt,Yc,Xs,Yp,Yd,Yg,Zn,Zq,Zh,Jy,Vp,Au,Zv,Yx,Zo,Yb,Zj,Ah,Aj,Al,Ab,Aa,Ax,AB,Zc];exact hN
  .simp (disch:=omega) only [M5,Z1,q,Xb,Yo,Zt,Yc,Xs,Yp,Yd,Yg,Zn,Zq,Zh,Jy,Vp,Au,Zv,Yx,Zo,Yb,Zj,Ah,Aj,Al,Ab,Aa,Ax,AB,Zc,AY]
theorem j3z (l m:zp) (h:Ug l m=true): ∃N,Yj (M5 l m) N (SJ l m)=.ret [.bool (Qr l m)]:=by
 have hl:l.length<=1000000:=Ay h;by_cases hm:l.length=m.length
 .obtain ⟨N,hN⟩:=u8q l m hl hm l.length 0 (Ah _);refine ⟨N,?_⟩;unfold SJ;rw [Vp (show (l.length:Int)=(m.length:Nat) by omega)];exact hN
 .refine ⟨0,?_⟩;unfold SJ;rw [Jy (show (l.length:Int)≠(m.length:Nat) by omega)];have:Qr l m=false:=An fun e=>hm (by rw [e]);rw [this];rfl
theorem u8p (l m:zu) (hl:l.length<=1000000) (hm:l.length=m.length): ∀(k i:Nat),i+k=l.length-> ∃N,Yj (M6 l m) N (.to (.h0 (i:Int)))=.ret [.bool (decide (l.drop i=m.drop i))]
 | 0,i,h=>by refine ⟨1,?_⟩;rw [Zx,Aw (show l.length<=i by omega),Aw (show m.length<=i by omega)];simp (disch:=omega) only [M6,Xb,Yo,Zt,Yc,Xs,Yp,Yd,Yg,Zn,Zq,Zh,Jy,Vp,Au,Zv,Yx,Zo,Yb,Zj,Ah,Aj,Al,Ab,Aa,Ax,AB,Zc]
 | k+1,i,h=>by
  obtain ⟨N,hN⟩:=u8p l m hl hm k (i+1) (by omega);refine ⟨N+1,?_⟩;rw [Zx,Yn (show i<l.length by omega),Yn (show i<m.length by omega),QS];rcases Xw (decide (rd l i=rd m i)) with q | q
  .simp (disch:=omega) only [M6,Z2,q,Xb,Yo,Zt,Yc,Xs,Yp,Yd,Yg,Zn,Zq,Zh,Jy,Vp,Au,Zv,Yx,Zo,Yb,Zj,Ah,Aj,Al,Ab,Aa,Ax,AB,Zc];exact hN
  .simp (disch:=omega) only [M6,Z2,q,Xb,Yo,Zt,Yc,Xs,Yp,Yd,Yg,Zn,Zq,Zh,Jy,Vp,Au,Zv,Yx,Zo,Yb,Zj,Ah,Aj,Al,Ab,Aa,Ax,AB,Zc,AY]
theorem j3y (l m:zu) (h:Wb l m=true): ∃N,Yj (M6 l m) N (SL l m)=.ret [.bool (Uh l m)]:=by
 have hl:l.length<=1000000:=Ay h;by_cases hm:l.length=m.length
 .obtain ⟨N,hN⟩:=u8p l m hl hm l.length 0 (Ah _);refine ⟨N,?_⟩;unfold SL;rw [Vp (show (l.length:Int)=(m.length:Nat) by omega)];exact hN
 .refine ⟨0,?_⟩;unfold SL;rw [Jy (show (l.length:Int)≠(m.length:Nat) by omega)];have:Uh l m=false:=An fun e=>hm (by rw [e]);rw [this];rfl
theorem u8u (l m:zx) (hl:l.length<=1000000) (hm:l.length=m.length): ∀(k i:Nat),i+k=l.length-> ∃N,Yj (M4 l m) N (.to (.h0 (i:Int)))=.ret [.bool (decide (l.drop i=m.drop i))]
 | 0,i,h=>by refine ⟨1,?_⟩;rw [Zx,Aw (show l.length<=i by omega),Aw (show m.length<=i by omega)];simp (disch:=omega) only [M4,Xb,Yo,Zt,Yc,Xs,Yp,Yd,Yg,Zn,Zq,Zh,Jy,Vp,Au,Zv,Yx,Zo,Yb,Zj,Ah,Aj,Al,Ab,Aa,Ax,AB,Zc]
 | k+1,i,h=>by
  obtain ⟨N,hN⟩:=u8u l m hl hm k (i+1) (by omega);refine ⟨N+1,?_⟩;rw [Zx,Yn (show i<l.length by omega),Yn (show i<m.length by omega),QS];rcases Xw (decide (rd l i=rd m i)) with q | q
  .simp (disch:=omega) only [M4,Z3,q,Xb,Yo,Zt,Yc,Xs,Yp,Yd,Yg,Zn,Zq,Zh,Jy,Vp,Au,Zv,Yx,Zo,Yb,Zj,Ah,Aj,Al,Ab,Aa,Ax,AB,Zc];exact hN
  .simp (disch:=omega) only [M4,Z3,q,Xb,Yo,Zt,Yc,Xs,Yp,Yd,Yg,Zn,Zq,Zh,Jy,Vp,Au,Zv,Yx,Zo,Yb,Zj,Ah,Aj,Al,Ab,Aa,Ax,AB,Zc,AY]
theorem j4d (l m:zx) (h:Vm l m=true): ∃N,Yj (M4 l m) N (SI l m)=.ret [.bool (Kx l m)]:=by
 have hl:l.length<=1000000:=Ay h;by_cases hm:l.length=m.length
 .obtain ⟨N,hN⟩:=u8u l m hl hm l.length 0 (Ah _);refine ⟨N,?_⟩;unfold SI;rw [Vp (show (l.length:Int)=(m.length:Nat) by omega)];exact hN
 .refine ⟨0,?_⟩;unfold SI;rw [Jy (show (l.length:Int)≠(m.length:Nat) by omega)];have:Kx l m=false:=An fun e=>hm (by rw [e]);rw [this];rfl
theorem j1g (l m:zp) (hl:l.length<=1000000) (hm:l.length=m.length): ∀(k i:Nat),i+k=l.length-> ∃N,Yj (MP l m) N (.to (.h0 (i:Int)))=.ret [.bool (decide (l.drop i=m.drop i))]
 | 0,i,h=>by refine ⟨1,?_⟩;rw [Zx,Aw (show l.length<=i by omega),Aw (show m.length<=i by omega)];simp (disch:=omega) only [MP,Xb,Yo,Zt,Yc,Xs,Yp,Yd,Yg,Zn,Zq,Zh,Jy,Vp,Au,Zv,Yx,Zo,Yb,Zj,Ah,Aj,Al,Ab,Aa,Ax,AB,Zc]
 | k+1,i,h=>by
  obtain ⟨N,hN⟩:=j1g l m hl hm k (i+1) (by omega);refine ⟨N+1,?_⟩;rw [Zx,Yn (show i<l.length by omega),Yn (show i<m.length by omega),QS];rcases Xw (decide (rd l i=rd m i)) with q | q
  .simp (disch:=omega) only [MP,Z1,q,Xb,Yo,Zt,Yc,Xs,Yp,Yd,Yg,Zn,Zq,Zh,Jy,Vp,Au,Zv,Yx,Zo,Yb,Zj,Ah,Aj,Al,Ab,Aa,Ax,AB,Zc];exact hN
  .simp (disch:=omega) only [MP,Z1,q,Xb,Yo,Zt,Yc,Xs,Yp,Yd,Yg,Zn,Zq,Zh,Jy,Vp,Au,Zv,Yx,Zo,Yb,Zj,Ah,Aj,Al,Ab,Aa,Ax,AB,Zc,AY]
theorem j9a (l m:zp) (h:Ug l m=true): ∃N,Yj (MP l m) N (Su l m)=.ret [.bool (Qr l m)]:=by
 have hl:l.length<=1000000:=Ay h;by_cases hm:l.length=m.length
 .obtain ⟨N,hN⟩:=j1g l m hl hm l.length 0 (Ah _);refine ⟨N,?_⟩;unfold Su;rw [Vp (show (l.length:Int)=(m.length:Nat) by omega)];exact hN
 .refine ⟨0,?_⟩;unfold Su;rw [Jy (show (l.length:Int)≠(m.length:Nat) by omega)];have:Qr l m=false:=An fun e=>hm (by rw [e]);rw [this];rfl
theorem j1f (l m:zu) (hl:l.length<=1000000) (hm:l.length=m.length): ∀(k i:Nat),i+k=l.length-> ∃N,Yj (MQ l m) N (.to (.h0 (i:Int)))=.ret [.bool (decide (l.drop i=m.drop i))]
 | 0,i,h=>by refine ⟨1,?_⟩;rw [Zx,Aw (show l.length<=i by omega),Aw (show m.length<=i by omega)];simp (disch:=omega) only [MQ,Xb,Yo,Zt,Yc,Xs,Yp,Yd,Yg,Zn,Zq,Zh,Jy,Vp,Au,Zv,Yx,Zo,Yb,Zj,Ah,Aj,Al,Ab,Aa,Ax,AB,Zc]
 | k+1,i,h=>by
  obtain ⟨N,hN⟩:=j1f l m hl hm k (i+1) (by omega);refine ⟨N+1,?_⟩;rw [Zx,Yn (show i<l.length by omega),Yn (show i<m.length by omega),QS];rcases Xw (decide (rd l i=rd m i)) with q | q
  .simp (disch:=omega) only [MQ,Z2,q,Xb,Yo,Zt,Yc,Xs,Yp,Yd,Yg,Zn,Zq,Zh,Jy,Vp,Au,Zv,Yx,Zo,Yb,Zj,Ah,Aj,Al,Ab,Aa,Ax,AB,Zc];exact hN
  .simp (disch:=omega) only [MQ,Z2,q,Xb,Yo,Zt,Yc,Xs,Yp,Yd,Yg,Zn,Zq,Zh,Jy,Vp,Au,Zv,Yx,Zo,Yb,Zj,Ah,Aj,Al,Ab,Aa,Ax,AB,Zc,AY]
theorem j8z (l m:zu) (h:Wb l m=true): ∃N,Yj (MQ l m) N (Sv l m)=.ret [.bool (Uh l m)]:=by
 have hl:l.length<=1000000:=Ay h;by_cases hm:l.length=m.length
 .obtain ⟨N,hN⟩:=j1f l m hl hm l.length 0 (Ah _);refine ⟨N,?_⟩;unfold Sv;rw [Vp (show (l.length:Int)=(m.length:Nat) by omega)];exact hN
 .refine ⟨0,?_⟩;unfold Sv;rw [Jy (show (l.length:Int)≠(m.length:Nat) by omega)];have:Uh l m=false:=An fun e=>hm (by rw [e]);rw [this];rfl
theorem j1e (l m:zx) (hl:l.length<=1000000) (hm:l.length=m.length): ∀(k i:Nat),i+k=l.length-> ∃N,Yj (MR l m) N (.to (.h0 (i:Int)))=.ret [.bool (decide (l.drop i=m.drop i))]
 | 0,i,h=>by refine ⟨1,?_⟩;rw [Zx,Aw (show l.length<=i by omega),Aw (show m.length<=i by omega)];simp (disch:=omega) only [MR,Xb,Yo,Zt,Yc,Xs,Yp,Yd,Yg,Zn,Zq,Zh,Jy,Vp,Au,Zv,Yx,Zo,Yb,Zj,Ah,Aj,Al,Ab,Aa,Ax,AB,Zc]
 | k+1,i,h=>by
  obtain ⟨N,hN⟩:=j1e l m hl hm k (i+1) (by omega);refine ⟨N+1,?_⟩;rw [Zx,Yn (show i<l.length by omega),Yn (show i<m.length by omega),QS];rcases Xw (decide (rd l i=rd m i)) with q | q
  .simp (disch:=omega) only [MR,Z3,q,Xb,Yo,Zt,Yc,Xs,Yp,Yd,Yg,Zn,Zq,Zh,Jy,Vp,Au,Zv,Yx,Zo,Yb,Zj,Ah,Aj,Al,Ab,Aa,Ax,AB,Zc];exact hN
  .simp (disch:=omega) only [MR,Z3,q,Xb,Yo,Zt,Yc,Xs,Yp,Yd,Yg,Zn,Zq,Zh,Jy,Vp,Au,Zv,Yx,Zo,Yb,Zj,Ah,Aj,Al,Ab,Aa,Ax,AB,Zc,AY]
theorem j8y (l m:zx) (h:Vm l m=true): ∃N,Yj (MR l m) N (Sx l m)=.ret [.bool (Kx l m)]:=by
 have hl:l.length<=1000000:=Ay h;by_cases hm:l.length=m.length
 .obtain ⟨N,hN⟩:=j1e l m hl hm l.length 0 (Ah _);refine ⟨N,?_⟩;unfold Sx;rw [Vp (show (l.length:Int)=(m.length:Nat) by omega)];exact hN
 .refine ⟨0,?_⟩;unfold Sx;rw [Jy (show (l.length:Int)≠(m.length:Nat) by omega)];have:Kx l m=false:=An fun e=>hm (by rw [e]);rw [this];rfl
def U6 (x y:Int) (r:R4):Bool:=decide (r.a<=x)&&(decide (x<r.c)&&(decide (r.b<=y)&&decide (y<r.d)))
def Ep (l:zu) (x y:Int):Bool:=l.any (U6 x y)
def RB (l:zu) (x y:Int):Bool:=decide (l.length<=1000000)
theorem v5c (l:zu) (x y:Int) (hl:l.length<=1000000): ∀(k i:Nat),i+k=l.length-> ∃N,Yj (Q1 l x y) N (.to (.h0 (i:Int)))=.ret [.bool ((l.drop i).any (U6 x y))]
 | 0,i,h=>by refine ⟨1,?_⟩;rw [Zx,Aw (show l.length<=i by omega)];simp (disch:=omega) only [Q1,Xb,Yo,Zt,Yc,Xs,Yp,Yd,Yg,Zn,Zq,Zh,Jy,Vp,Au,Zv,Yx,Zo,Yb,Zj,Ah,Aj,Al,Ab,Aa,Ax,AB,Zc];rfl
 | k+1,i,h=>by
  obtain ⟨N,hN⟩:=v5c l x y hl k (i+1) (by omega);refine ⟨N+1,?_⟩;rw [Zx,Yn (show i<l.length by omega),List.any_cons];unfold U6 at hN ⊢;rcases Xw (decide ((rd l i).a <=x)) with q1 | q1 <;> rcases Xw (decide (x<(rd l i).c)) with q2 | q2 <;> rcases Xw (decide ((rd l i).b <=y)) with q3 | q3 <;> rcases Xw (decide (y<(rd l i).d)) with q4 | q4 <;>
   simp (disch:=omega) only [Q1,q1,q2,q3,q4,Xb,Yo,Zt,Yc,Xs,Yp,Yd,Yg,Zn,Zq,Zh,Jy,Vp,Au,Zv,Yx,Zo,Yb,Zj,Ah,Aj,Al,Ab,Aa,Ax,AB,Zc,AY,A1,Bj,Bool.true_or] <;> exact hN
theorem u2m (l:zu) (x y:Int) (h:RB l x y=true): ∃N,Yj (Q1 l x y) N (WH l x y)=.ret [.bool (Ep l x y)]:=by
 have:=v5c l x y (Ay h) l.length 0 (Ah _)
 simpa [WH,Ep] using this
def on6 (z:Int) (b:R6):Bool:=decide (b.c<=z)&&decide (z<b.f)
def j7b (b:R6):R4:=⟨b.a,b.b,b.d,b.e⟩
def CV (l:zx) (z:Int):zu:=(l.filter (on6 z)).map j7b
def QR (l:zx) (z:Int):Bool:=decide (l.length<=1000000)
theorem v5x (l:zx) (z:Int) (hl:l.length<=1000000): ∀(k i:Nat) (out:zu),i+k=l.length->out.length<=i-> ∃N,Yj (MZ l z) N (.to (.h0 out (i:Int)))=.ret [.dat (out++CV (l.drop i) z).length (Zz (out++CV (l.drop i) z))]
 | 0,i,out,h,ho=>by refine ⟨1,?_⟩;rw [Zx,Aw (show l.length<=i by omega)];simp (disch:=omega) only [MZ,Xb,Yo,Zt,Yc,Xs,Yp,Yd,Yg,Zn,Zq,Zh,Jy,Vp,Au,Zv,Yx,Zo,Yb,Zj,Ah,Aj,Al,Ab,Aa,Ax,AB,Zc,CV,List.filter_nil,BL,AG]
 | k+1,i,out,h,ho=>by
  rw [Yn (show i<l.length by omega)];have e:CV (rd l i::l.drop (i+1)) z=(bif on6 z (rd l i) then [j7b (rd l i)] else [])++CV (l.drop (i+1)) z:=by
   grind [CV]
  rw [e,<-AH];rcases Xw (decide ((rd l i).c <=z)) with q1 | q1 <;> rcases Xw (decide (z<(rd l i).f)) with q2 | q2
  .obtain ⟨N,hN⟩:=v5x l z hl k (i+1) (out++[j7b (rd l i)]) (by omega) (by simp;omega);refine ⟨N+1,?_⟩;rw [Zx];simp (disch:=omega) only [MZ,q1,q2,on6,Xb,Yo,Zt,Yc,Xs,Yp,Yd,Yg,Zn,Zq,Zh,Jy,Vp,Au,Zv,Yx,Zo,Yb,Zj,Ah,Aj,Al,Ab,Aa,Ax,AB,Zc];exact hN
  all_goals
   obtain ⟨N,hN⟩:=v5x l z hl k (i+1) out (by omega) (by omega);refine ⟨N+1,?_⟩;rw [Zx];simp (disch:=omega) only [MZ,q1,q2,on6,Xb,Yo,Zt,Yc,Xs,Yp,Yd,Yg,Zn,Zq,Zh,Jy,Vp,Au,Zv,Yx,Zo,Yb,Zj,Ah,Aj,Al,Ab,Aa,Ax,AB,Zc,AY,A1,AG];exact hN
theorem j5f (l:zx) (z:Int) (h:QR l z=true): ∃N,Yj (MZ l z) N (XO l z)=.ret [.dat (CV l z).length (Zz (CV l z))]:=by
 have:=v5x l z (Ay h) l.length 0 [] (Ah _) (Aq _)
 simpa [XO] using this
def Fs (cuts:zq) (ins:List Bool):Nat->Nat->zp->zp
 | 0,_,out=>out
 | k+1,i,out=>Fs cuts ins k (i+1) (bif rd ins i then (bif decide (0<out.length)&&((rd out (out.length - 1)).b == rd cuts i) then out.set (out.length - 1) ⟨(rd out (out.length - 1)).a,rd cuts (i+1)⟩ else out++[⟨rd cuts i,rd cuts (i+1)⟩]) else out)
def DT (cuts:zq) (ins:List Bool):zp:=Fs cuts ins (cuts.length - 1) 0 []
def YH (cuts:zq) (ins:List Bool):Bool:=decide (cuts.length<=1000000/\cuts.length<=ins.length+1)
theorem YV (cuts:zq) (ins:List Bool) (hl:cuts.length<=1000000) (hi:cuts.length<=ins.length+1): ∀(k i:Nat) (out:zp),k=cuts.length - 1 - i->i<=cuts.length->out.length<=i-> ∃N,Yj (HQ cuts ins) N (.to (.h0 out (i:Int)))=.ret [.dat (Fs cuts ins k i out).length (Zz (Fs cuts ins k i out))]
 | 0,i,out,h,hi2,ho=>by refine ⟨1,?_⟩;rw [Zx];simp (disch:=omega) only [HQ,Xb,Yo,Zt,Yc,Xs,Yp,Yd,Yg,Zn,Zq,Zh,Jy,Vp,Au,Zv,Yx,Zo,Yb,Zj,Ah,Aj,Al,Ab,Aa,Ax,AB,Zc,Fs]
 | k+1,i,out,h,hi2,ho=>by
  unfold Fs;rcases Xw (rd ins i) with q | q
  .rcases Xw (decide (0<out.length)&&((rd out (out.length - 1)).b == rd cuts i)) with q2 | q2
   .obtain ⟨N,hN⟩:=YV cuts ins hl hi k (i+1) (out.set (out.length - 1) ⟨(rd out (out.length - 1)).a,rd cuts (i+1)⟩) (by omega) (by omega) (by simp;omega);refine ⟨N+1,?_⟩;rw [Zx,q,q2];simp only [Ac,Ao] at q2;simp (disch:=omega) only [HQ,q,q2.2,Xb,Yo,Zt,Yc,Xs,Yp,Yd,Yg,Zn,Zq,Zh,Jy,Vp,Au,Zv,Yx,Zo,Yb,Zj,Ah,Aj,Al,Ab,Aa,Ax,AB,Zc];exact hN
   .obtain ⟨N,hN⟩:=YV cuts ins hl hi k (i+1) (out++[⟨rd cuts i,rd cuts (i+1)⟩]) (by omega) (by omega) (by simp;omega);refine ⟨N+1,?_⟩;rw [Zx,q,q2];by_cases h0:0<out.length
    .rw [Af h0,Al] at q2;simp (disch:=omega) only [HQ,q,q2,Xb,Yo,Zt,Yc,Xs,Yp,Yd,Yg,Zn,Zq,Zh,Jy,Vp,Au,Zv,Yx,Zo,Yb,Zj,Ah,Aj,Al,Ab,Aa,Ax,AB,Zc];exact hN
    .simp (disch:=omega) only [HQ,q,Xb,Yo,Zt,Yc,Xs,Yp,Yd,Yg,Zn,Zq,Zh,Jy,Vp,Au,Zv,Yx,Zo,Yb,Zj,Ah,Aj,Al,Ab,Aa,Ax,AB,Zc];exact hN
  .obtain ⟨N,hN⟩:=YV cuts ins hl hi k (i+1) out (by omega) (by omega) (by omega);refine ⟨N+1,?_⟩;rw [Zx,q];simp (disch:=omega) only [HQ,q,Xb,Yo,Zt,Yc,Xs,Yp,Yd,Yg,Zn,Zq,Zh,Jy,Vp,Au,Zv,Yx,Zo,Yb,Zj,Ah,Aj,Al,Ab,Aa,Ax,AB,Zc];exact hN
theorem u3e (cuts:zq) (ins:List Bool) (h:YH cuts ins=true): ∃N,Yj (HQ cuts ins) N (WC cuts ins)=.ret [.dat (DT cuts ins).length (Zz (DT cuts ins))]:=by
 obtain ⟨h1,h2⟩:=Ay h;have:=YV cuts ins h1 h2 (cuts.length - 1) 0 [] (by omega) (AA _) (Aq _)
 simpa [WC,DT] using this
def Mr (k:Int) (a b:Bool):Bool:=bif k == 1 then a&&b else bif k == 2 then a||b else a&& !b
def Ex (a b:Bool):Bool:=a
theorem j6r (k:Int) (a b:Bool): ∃N,Yj (w2i k a b) N (XE k a b)=.ret [.bool (Mr k a b)]:=by
 refine ⟨0,?_⟩;unfold XE Mr;cases a <;> cases b <;> rcases Xw (k == 1) with q | q <;> rcases Xw (k == 2) with q2 | q2 <;> rw [q] <;> (try rw [q2]) <;> rfl
theorem j6x (a b:Bool): ∃N,Yj (w2q a b) N (x3z a b)=.ret [.bool (Ex a b)]:=⟨0,rfl⟩
def PN :zy->Option (CA×Bool)
 | [a0]=>match C4 Int a0 with
  | some (L0,g0,n0)=>some (.dat (Cj L0).length (Zz (Cj L0)),CU Int n0 g0&&(Qn L0))
  | _=>none
 | _=>none
theorem j7m {S:CC} (hS:Zu prog S):Zu prog (S.with v6p PN):=by
 refine C3 hS (by kernel_rfl) fun args v h=> ?_;unfold PN at h;split at h
 .rename_i a0;split at h
  .rename_i L0 g0 n0 e0;simp only [Ae,Ad,Ac] at h;obtain ⟨rfl,ho0,hw⟩:=h;obtain ⟨N,hN⟩:=v4q L0 hw;exact ⟨_,_,(.cons (Xy e0 ho0) .nil),rfl,w9a L0 N _ hN,3,rfl⟩
  .cases h
 .cases h
def Pn :zy->Option (CA×Bool)
 | [a0,a1]=>match C4 Int a0,C4 Bool a1 with
  | some (L0,g0,n0),some (L1,g1,n1)=>some (.dat (DT L0 L1).length (Zz (DT L0 L1)),CU Int n0 g0&&(CU Bool n1 g1&&(YH L0 L1)))
  | _,_=>none
 | _=>none
theorem j8w {S:CC} (hS:Zu prog S):Zu prog (S.with j0j Pn):=by
 refine C3 hS (by kernel_rfl) fun args v h=> ?_;unfold Pn at h;split at h
 .rename_i a0 a1;split at h
  .rename_i L0 g0 n0 L1 g1 n1 e0 e1;simp only [Ae,Ad,Ac] at h;obtain ⟨rfl,ho0,ho1,hw⟩:=h;obtain ⟨N,hN⟩:=u3e L0 L1 hw;exact ⟨_,_,(.cons (Xy e0 ho0) (.cons (Xy e1 ho1) .nil)),rfl,v5w L0 L1 N _ hN,3,rfl⟩
  .cases h
 .cases h
def RU :zy->Option (CA×Bool)
 | [a0,a1]=>match C4 R2 a0,C4 R2 a1 with
  | some (L0,g0,n0),some (L1,g1,n1)=>some (.bool (Qr L0 L1),CU R2 n0 g0&&(CU R2 n1 g1&&(Ug L0 L1)))
  | _,_=>none
 | _=>none
theorem v8j {S:CC} (hS:Zu prog S):Zu prog (S.with j0f RU):=by
 refine C3 hS (by kernel_rfl) fun args v h=> ?_;unfold RU at h;split at h
 .rename_i a0 a1;split at h
  .rename_i L0 g0 n0 L1 g1 n1 e0 e1;simp only [Ae,Ad,Ac] at h;obtain ⟨rfl,ho0,ho1,hw⟩:=h;obtain ⟨N,hN⟩:=j3z L0 L1 hw;exact ⟨_,_,(.cons (Xy e0 ho0) (.cons (Xy e1 ho1) .nil)),rfl,u1z L0 L1 N _ hN,3,rfl⟩
  .cases h
 .cases h
def RV :zy->Option (CA×Bool)
 | [a0,a1]=>match C4 R4 a0,C4 R4 a1 with
  | some (L0,g0,n0),some (L1,g1,n1)=>some (.bool (Uh L0 L1),CU R4 n0 g0&&(CU R4 n1 g1&&(Wb L0 L1)))
  | _,_=>none
 | _=>none
theorem v8i {S:CC} (hS:Zu prog S):Zu prog (S.with j0e RV):=by
 refine C3 hS (by kernel_rfl) fun args v h=> ?_;unfold RV at h;split at h
 .rename_i a0 a1;split at h
  .rename_i L0 g0 n0 L1 g1 n1 e0 e1;simp only [Ae,Ad,Ac] at h;obtain ⟨rfl,ho0,ho1,hw⟩:=h;obtain ⟨N,hN⟩:=j3y L0 L1 hw;exact ⟨_,_,(.cons (Xy e0 ho0) (.cons (Xy e1 ho1) .nil)),rfl,u1y L0 L1 N _ hN,3,rfl⟩
  .cases h
 .cases h
def RW :zy->Option (CA×Bool)
 | [a0,a1]=>match C4 R6 a0,C4 R6 a1 with
  | some (L0,g0,n0),some (L1,g1,n1)=>some (.bool (Kx L0 L1),CU R6 n0 g0&&(CU R6 n1 g1&&(Vm L0 L1)))
  | _,_=>none
 | _=>none
theorem v8h {S:CC} (hS:Zu prog S):Zu prog (S.with j0d RW):=by
 refine C3 hS (by kernel_rfl) fun args v h=> ?_;unfold RW at h;split at h
 .rename_i a0 a1;split at h
  .rename_i L0 g0 n0 L1 g1 n1 e0 e1;simp only [Ae,Ad,Ac] at h;obtain ⟨rfl,ho0,ho1,hw⟩:=h;obtain ⟨N,hN⟩:=j4d L0 L1 hw;exact ⟨_,_,(.cons (Xy e0 ho0) (.cons (Xy e1 ho1) .nil)),rfl,u2c L0 L1 N _ hN,3,rfl⟩
  .cases h
 .cases h
def j8l :zy->Option (CA×Bool)
 | [a0,.int .i64 x1,.int .i64 x2]=>match C4 R4 a0 with
  | some (L0,g0,n0)=>some (.bool (Ep L0 x1 x2),CU R4 n0 g0&&(RB L0 x1 x2))
  | _=>none
 | _=>none
theorem u5o {S:CC} (hS:Zu prog S):Zu prog (S.with Lc j8l):=by
 refine C3 hS (by kernel_rfl) fun args v h=> ?_;unfold j8l at h;split at h
 .rename_i a0 x1 x2;split at h
  .rename_i L0 g0 n0 e0;simp only [Ae,Ad,Ac] at h;obtain ⟨rfl,ho0,hw⟩:=h;obtain ⟨N,hN⟩:=u2m L0 x1 x2 hw;exact ⟨_,_,(.cons (Xy e0 ho0) (.cons (.refl _) (.cons (.refl _) .nil))),rfl,v5d L0 x1 x2 N _ hN,3,rfl⟩
  .cases h
 .cases h
def fAt :zy->Option (CA×Bool)
 | [a0,.int .i64 x1]=>match C4 R6 a0 with
  | some (L0,g0,n0)=>some (.dat (CV L0 x1).length (Zz (CV L0 x1)),CU R6 n0 g0&&(QR L0 x1))
  | _=>none
 | _=>none
theorem Pp {S:CC} (hS:Zu prog S):Zu prog (S.with nAt fAt):=by
 refine C3 hS (by kernel_rfl) fun args v h=> ?_;unfold fAt at h;split at h
 .rename_i a0 x1;split at h
  .rename_i L0 g0 n0 e0;simp only [Ae,Ad,Ac] at h;obtain ⟨rfl,ho0,hw⟩:=h;obtain ⟨N,hN⟩:=j5f L0 x1 hw;exact ⟨_,_,(.cons (Xy e0 ho0) (.cons (.refl _) .nil)),rfl,u3f L0 x1 N _ hN,3,rfl⟩
  .cases h
 .cases h
def v8o :zy->Option (CA×Bool)
 | [.int .i64 x0,.bool b1,.bool b2]=>some (.bool (Mr x0 b1 b2),true)
 | _=>none
theorem v8n {S:CC} (hS:Zu prog S):Zu prog (S.with j0i v8o):=by
 refine C3 hS (by kernel_rfl) fun args v h=> ?_;unfold v8o at h;split at h
 .rename_i x0 b1 b2;simp only [Ae,Ad,B9] at h;subst h;obtain ⟨N,hN⟩:=j6r x0 b1 b2;exact ⟨_,_,(.cons (.refl _) (.cons (.refl _) (.cons (.refl _) .nil))),rfl,u4x x0 b1 b2 N _ hN,3,rfl⟩
 .cases h
def Pe :zy->Option (CA×Bool)
 | [.bool b0,.bool b1]=>some (.bool (Ex b0 b1),true)
 | _=>none
theorem j8o {S:CC} (hS:Zu prog S):Zu prog (S.with US Pe):=by
 refine C3 hS (by kernel_rfl) fun args v h=> ?_;unfold Pe at h;split at h
 .rename_i b0 b1;simp only [Ae,Ad,B9] at h;subst h;obtain ⟨N,hN⟩:=j6x b0 b1;exact ⟨_,_,(.cons (.refl _) (.cons (.refl _) .nil)),rfl,u5c b0 b1 N _ hN,3,rfl⟩
 .cases h
theorem v1o {S:CC} (hS:Zu prog S):Zu prog (S.with UV RU):=by
 refine C3 hS (by kernel_rfl) fun args v h=> ?_;unfold RU at h;split at h
 .rename_i a0 a1;split at h
  .rename_i L0 g0 n0 L1 g1 n1 e0 e1;simp only [Ae,Ad,Ac] at h;obtain ⟨rfl,ho0,ho1,hw⟩:=h;obtain ⟨N,hN⟩:=j9a L0 L1 hw;exact ⟨_,_,(.cons (Xy e0 ho0) (.cons (Xy e1 ho1) .nil)),rfl,u5u L0 L1 N _ hN,3,rfl⟩
  .cases h
 .cases h
theorem v1n {S:CC} (hS:Zu prog S):Zu prog (S.with UU RV):=by
 refine C3 hS (by kernel_rfl) fun args v h=> ?_;unfold RV at h;split at h
 .rename_i a0 a1;split at h
  .rename_i L0 g0 n0 L1 g1 n1 e0 e1;simp only [Ae,Ad,Ac] at h;obtain ⟨rfl,ho0,ho1,hw⟩:=h;obtain ⟨N,hN⟩:=j8z L0 L1 hw;exact ⟨_,_,(.cons (Xy e0 ho0) (.cons (Xy e1 ho1) .nil)),rfl,u5t L0 L1 N _ hN,3,rfl⟩
  .cases h
 .cases h
theorem v1m {S:CC} (hS:Zu prog S):Zu prog (S.with UT RW):=by
 refine C3 hS (by kernel_rfl) fun args v h=> ?_;unfold RW at h;split at h
 .rename_i a0 a1;split at h
  .rename_i L0 g0 n0 L1 g1 n1 e0 e1;simp only [Ae,Ad,Ac] at h;obtain ⟨rfl,ho0,ho1,hw⟩:=h;obtain ⟨N,hN⟩:=j8y L0 L1 hw;exact ⟨_,_,(.cons (Xy e0 ho0) (.cons (Xy e1 ho1) .nil)),rfl,u5s L0 L1 N _ hN,3,rfl⟩
  .cases h
 .cases h
def T1 :CC:=((((((((((((Dy.with v6p PN).with j0j Pn).with j0f RU).with j0e RV).with j0d RW).with Lc j8l).with nAt fAt).with j0i v8o).with US Pe).with UV RU).with UU RV).with UT RW)
theorem Dt :Zu prog T1:=v1m (v1n (v1o (j8o (v8n (Pp (u5o (v8h (v8i (v8j (j8w (j7m Zg)))))))))))
inductive Hm where
 | h0 (v5:zq) (v6:Int)
 | h1 (v5:zq) (v7:Int)
def Na (l0:zu) (l1:zu):Hm->CJ
 | .h0 v5 v6=>⟨⟨48,0,true⟩,none,(Zk prog 181 (pn 75) 0),none,(Zy prog 3),⟨Yy [(0,(dt l0)),(1,(dt l1)),(5,(.sla 0 1 0 v5.length (.un 1))),(6,(ii v6))],Wf [(rz v5 3 1)] 0,1,[],true⟩,[],.leaf⟩
 | .h1 v5 v7=>⟨⟨48,0,true⟩,none,(Zk prog 181 (pn 151) 0),none,(Zy prog 3),⟨Yy [(1,(dt l1)),(5,(.sla 0 1 0 v5.length (.un 1))),(7,(ii v7))],Wf [(rz v5 3 1)] 0,1,[],true⟩,[],.leaf⟩
def K0 :List (Option zt):=[some [0,1,5,6]]
def K2 :List (Option zt):=[]
def KZ :List (Option zt):=[some [1,5,7]]
def K1 :List (Option zt):=[]
def HL (l0:zu) (l1:zu):Hm->Xk Hm
 | .h0 v5 v6=>let b:=rd l0 v6.toNat;(bif (decide (v6<(l0.length:Int))) then (bif ((decide (0<=v6/\v6<(l0.length:Int)))&&true) then (bif (Nat.beq 1 1&&((decide (0+v5.length=v5.length))&&decide ((v5.length+2+1)*(8+1)<=Vg))) then (.to (.h0 (v5++[b.a,b.c]) (wrap .i64 (v6+1)))) else .stuck) else .stuck) else (.to (.h1 v5 0)))
 | .h1 v5 v7=>let b:=rd l1 v7.toNat;(bif (decide (v7<(l1.length:Int))) then (bif ((decide (0<=v7/\v7<(l1.length:Int)))&&true) then (bif (Nat.beq 1 1&&((decide (0+v5.length=v5.length))&&decide ((v5.length+2+1)*(8+1)<=Vg))) then (.to (.h1 (v5++[b.a,b.c]) (wrap .i64 (v7+1)))) else .stuck) else .stuck) else (bif (Qn (CB v5)) then (.ret [(.dat (Cj (CB v5)).length (Zz (Cj (CB v5))))]) else .stuck))
def XY (l0:zu) (l1:zu):Xk Hm:=(.to (.h0 ([]:zq) 0))
theorem w8x (l0:zu) (l1:zu): ∀s,Xh prog (Zy prog 181) (Na l0 l1) (Na l0 l1 s) (HL l0 l1 s)
 | .h0 v5 v6=>(lb (fun k0=>(lo fun o0=>(lo fun o1=>let f:=rd l0 (tn v6);let e:=f;let b:=v5++[e.a,e.c];let h:=v5++[f.a,f.c];let i:=v5.length+2;let d:=xL i h.length;let g:=Zr (Zz v5) 0 v5.length 1 [(ii f.a),(ii f.c)];(sl Dt 20 [] ⟨[2],[],K0,K2⟩ ⟨[(5,.len b.length)],[.rowed 1 b.length (Zz b)],[]⟩ [true] (pp d (pp d (pp (xS i g (Zz h)) (pp (pp (xF g) nn) (ww o1 (ww o0 (ww o0 (tt k0 nn)))))))))))) (fun k0=>(sl Dt 17 [] ⟨[0],[],KZ,K1⟩ b7 [false] (pp (fl v5 nn) (tt k0 nn)))))
 | .h1 v5 v7=>(lb (fun k0=>(lo fun o0=>(lo fun o1=>let g:=rd l1 (tn v7);let e:=g;let b:=v5++[e.a,e.c];let i:=v5++[g.a,g.c];let j:=v5.length+2;let d:=xL j i.length;let h:=Zr (Zz v5) 0 v5.length 1 [(ii g.a),(ii g.c)];(sl Dt 20 [] ⟨[2],[],KZ,K1⟩ ⟨[(5,.len b.length)],[.rowed 1 b.length (Zz b)],[]⟩ [true] (pp d (pp d (pp (xS j h (Zz i)) (pp (pp (xF h) nn) (ww o1 (ww o0 (ww o0 (tt k0 nn)))))))))))) (fun k0=>(Un (sl Dt (C':=⟨⟨48,0,true⟩,(Wz prog 181 (pn 47) 1),(Zk prog 181 (pn 47) 1),none,(Zy prog 3),⟨Yy [(46,(dt v5))],Wf [] 0,0,[],true⟩,[],.leaf⟩) 13 [] ⟨[],[0],[some [46]],[]⟩ ⟨[(46,.frz v5.length v5.length (Zz v5) (Zz v5))],[],[]⟩ [false] (pp (xZ (DE 1 1 0 v5.length v5.length (Zz v5)) v5.length (Zz v5)) (pp (xL v5.length v5.length) (pp (xS v5.length (Zz v5) (Zz v5)) (pp (fl v5 nn) (tt k0 nn)))))) (lo fun o0=>let f:=Cj (CB v5);(lr 48 3 (pn 191) 1 3 [(4,(dt f))] (sl Dt 3 [] (b8 [4]) b7 [] (pp (pp (xr v5) (xw o0)) nn)))))))
theorem x9q (l0:zu) (l1:zu):Xh prog (Zy prog 181) (Na l0 l1) (Zb prog 181 [(dt l0),(dt l1)] true []) (XY l0 l1):=(sl Dt 15 [(3,1,Zz ([]:zq))] ⟨[0],[],K0,K2⟩ ⟨[(5,.grow 0 1)],[],[]⟩ [] (pp (fl ([]:zq) nn) nn))
theorem u1w (l0:zu) (l1:zu) (n:Nat) (vs:zy) (h:Yj (HL l0 l1) n (XY l0 l1)=.ret vs):Ji prog (Zy prog 181) (Zb prog 181 [(dt l0),(dt l1)] true []) vs:=by have:=Zf (w8x l0 l1) n _ (x9q l0 l1);rwa [h] at this
inductive Hl where
 | h0 (v5:zq) (v6:Int)
 | h1 (v5:zq) (v7:Int)
def N9 (l0:zu) (l1:zu):Hl->CJ
 | .h0 v5 v6=>⟨⟨48,0,true⟩,none,(Zk prog 182 (pn 75) 0),none,(Zy prog 3),⟨Yy [(0,(dt l0)),(1,(dt l1)),(5,(.sla 0 1 0 v5.length (.un 1))),(6,(ii v6))],Wf [(rz v5 3 1)] 0,1,[],true⟩,[],.leaf⟩
 | .h1 v5 v7=>⟨⟨48,0,true⟩,none,(Zk prog 182 (pn 151) 0),none,(Zy prog 3),⟨Yy [(1,(dt l1)),(5,(.sla 0 1 0 v5.length (.un 1))),(7,(ii v7))],Wf [(rz v5 3 1)] 0,1,[],true⟩,[],.leaf⟩
def KW :List (Option zt):=[some [0,1,5,6]]
def KY :List (Option zt):=[]
def KV :List (Option zt):=[some [1,5,7]]
def KX :List (Option zt):=[]
def HM (l0:zu) (l1:zu):Hl->Xk Hl
 | .h0 v5 v6=>let a:=rd l0 v6.toNat;(bif (decide (v6<(l0.length:Int))) then (bif ((decide (0<=v6/\v6<(l0.length:Int)))&&true) then (bif (Nat.beq 1 1&&((decide (0+v5.length=v5.length))&&decide ((v5.length+2+1)*(8+1)<=Vg))) then (.to (.h0 (v5++[a.b,a.d]) (wrap .i64 (v6+1)))) else .stuck) else .stuck) else (.to (.h1 v5 0)))
 | .h1 v5 v7=>let a:=rd l1 v7.toNat;(bif (decide (v7<(l1.length:Int))) then (bif ((decide (0<=v7/\v7<(l1.length:Int)))&&true) then (bif (Nat.beq 1 1&&((decide (0+v5.length=v5.length))&&decide ((v5.length+2+1)*(8+1)<=Vg))) then (.to (.h1 (v5++[a.b,a.d]) (wrap .i64 (v7+1)))) else .stuck) else .stuck) else (bif (Qn (CB v5)) then (.ret [(.dat (Cj (CB v5)).length (Zz (Cj (CB v5))))]) else .stuck))
def XZ (l0:zu) (l1:zu):Xk Hl:=(.to (.h0 ([]:zq) 0))
theorem w8w (l0:zu) (l1:zu): ∀s,Xh prog (Zy prog 182) (N9 l0 l1) (N9 l0 l1 s) (HM l0 l1 s)
 | .h0 v5 v6=>(lb (fun k0=>(lo fun o0=>(lo fun o1=>let f:=rd l0 (tn v6);let e:=f;let a:=v5++[e.b,e.d];let h:=v5++[f.b,f.d];let i:=v5.length+2;let c:=xL i h.length;let g:=Zr (Zz v5) 0 v5.length 1 [(ii f.b),(ii f.d)];(sl Dt 20 [] ⟨[2],[],KW,KY⟩ ⟨[(5,.len a.length)],[.rowed 1 a.length (Zz a)],[]⟩ [true] (pp c (pp c (pp (xS i g (Zz h)) (pp (pp (xF g) nn) (ww o1 (ww o0 (ww o0 (tt k0 nn)))))))))))) (fun k0=>(sl Dt 17 [] ⟨[0],[],KV,KX⟩ b7 [false] (pp (fl v5 nn) (tt k0 nn)))))
 | .h1 v5 v7=>(lb (fun k0=>(lo fun o0=>(lo fun o1=>let g:=rd l1 (tn v7);let e:=g;let a:=v5++[e.b,e.d];let i:=v5++[g.b,g.d];let j:=v5.length+2;let c:=xL j i.length;let h:=Zr (Zz v5) 0 v5.length 1 [(ii g.b),(ii g.d)];(sl Dt 20 [] ⟨[2],[],KV,KX⟩ ⟨[(5,.len a.length)],[.rowed 1 a.length (Zz a)],[]⟩ [true] (pp c (pp c (pp (xS j h (Zz i)) (pp (pp (xF h) nn) (ww o1 (ww o0 (ww o0 (tt k0 nn)))))))))))) (fun k0=>(Un (sl Dt (C':=⟨⟨48,0,true⟩,(Wz prog 182 (pn 47) 1),(Zk prog 182 (pn 47) 1),none,(Zy prog 3),⟨Yy [(46,(dt v5))],Wf [] 0,0,[],true⟩,[],.leaf⟩) 13 [] ⟨[],[0],[some [46]],[]⟩ ⟨[(46,.frz v5.length v5.length (Zz v5) (Zz v5))],[],[]⟩ [false] (pp (xZ (DE 1 1 0 v5.length v5.length (Zz v5)) v5.length (Zz v5)) (pp (xL v5.length v5.length) (pp (xS v5.length (Zz v5) (Zz v5)) (pp (fl v5 nn) (tt k0 nn)))))) (lo fun o0=>let f:=Cj (CB v5);(lr 48 3 (pn 191) 1 3 [(4,(dt f))] (sl Dt 3 [] (b8 [4]) b7 [] (pp (pp (xr v5) (xw o0)) nn)))))))
theorem x9p (l0:zu) (l1:zu):Xh prog (Zy prog 182) (N9 l0 l1) (Zb prog 182 [(dt l0),(dt l1)] true []) (XZ l0 l1):=(sl Dt 15 [(3,1,Zz ([]:zq))] ⟨[0],[],KW,KY⟩ ⟨[(5,.grow 0 1)],[],[]⟩ [] (pp (fl ([]:zq) nn) nn))
theorem u1v (l0:zu) (l1:zu) (n:Nat) (vs:zy) (h:Yj (HM l0 l1) n (XZ l0 l1)=.ret vs):Ji prog (Zy prog 182) (Zb prog 182 [(dt l0),(dt l1)] true []) vs:=by have:=Zf (w8w l0 l1) n _ (x9p l0 l1);rwa [h] at this
inductive FC where
 | h0 (v5:zq) (v6:Int)
 | h1 (v5:zq) (v7:Int)
def j5b (l0:zx) (l1:zx):FC->CJ
 | .h0 v5 v6=>⟨⟨52,0,true⟩,none,(Zk prog 148 (pn 75) 0),none,(Zy prog 3),⟨Yy [(0,(dt l0)),(1,(dt l1)),(5,(.sla 0 1 0 v5.length (.un 1))),(6,(ii v6))],Wf [(rz v5 3 1)] 0,1,[],true⟩,[],.leaf⟩
 | .h1 v5 v7=>⟨⟨52,0,true⟩,none,(Zk prog 148 (pn 151) 0),none,(Zy prog 3),⟨Yy [(1,(dt l1)),(5,(.sla 0 1 0 v5.length (.un 1))),(7,(ii v7))],Wf [(rz v5 3 1)] 0,1,[],true⟩,[],.leaf⟩
def u9p :List (Option zt):=[some [0,1,5,6]]
def u9r :List (Option zt):=[]
def u9o :List (Option zt):=[some [1,5,7]]
def u9q :List (Option zt):=[]
def HR (l0:zx) (l1:zx):FC->Xk FC
 | .h0 v5 v6=>let a:=rd l0 v6.toNat;(bif (decide (v6<(l0.length:Int))) then (bif ((decide (0<=v6/\v6<(l0.length:Int)))&&true) then (bif (Nat.beq 1 1&&((decide (0+v5.length=v5.length))&&decide ((v5.length+2+1)*(8+1)<=Vg))) then (.to (.h0 (v5++[a.c,a.f]) (wrap .i64 (v6+1)))) else .stuck) else .stuck) else (.to (.h1 v5 0)))
 | .h1 v5 v7=>let a:=rd l1 v7.toNat;(bif (decide (v7<(l1.length:Int))) then (bif ((decide (0<=v7/\v7<(l1.length:Int)))&&true) then (bif (Nat.beq 1 1&&((decide (0+v5.length=v5.length))&&decide ((v5.length+2+1)*(8+1)<=Vg))) then (.to (.h1 (v5++[a.c,a.f]) (wrap .i64 (v7+1)))) else .stuck) else .stuck) else (bif (Qn (CB v5)) then (.ret [(.dat (Cj (CB v5)).length (Zz (Cj (CB v5))))]) else .stuck))
def WF (l0:zx) (l1:zx):Xk FC:=(.to (.h0 ([]:zq) 0))
theorem w0p (l0:zx) (l1:zx): ∀s,Xh prog (Zy prog 148) (j5b l0 l1) (j5b l0 l1 s) (HR l0 l1 s)
 | .h0 v5 v6=>(lb (fun k0=>(lo fun o0=>(lo fun o1=>let e:=rd l0 (tn v6);let d:=e;let a:=v5++[d.c,d.f];let h:=v5++[e.c,e.f];let i:=v5.length+2;let b:=xL i h.length;let g:=Zr (Zz v5) 0 v5.length 1 [(ii e.c),(ii e.f)];(sl Dt 20 [] ⟨[2],[],u9p,u9r⟩ ⟨[(5,.len a.length)],[.rowed 1 a.length (Zz a)],[]⟩ [true] (pp b (pp b (pp (xS i g (Zz h)) (pp (pp (xF g) nn) (ww o1 (ww o0 (ww o0 (tt k0 nn)))))))))))) (fun k0=>(sl Dt 17 [] ⟨[0],[],u9o,u9q⟩ b7 [false] (pp (fl v5 nn) (tt k0 nn)))))
 | .h1 v5 v7=>(lb (fun k0=>(lo fun o0=>(lo fun o1=>let g:=rd l1 (tn v7);let d:=g;let a:=v5++[d.c,d.f];let i:=v5++[g.c,g.f];let j:=v5.length+2;let b:=xL j i.length;let h:=Zr (Zz v5) 0 v5.length 1 [(ii g.c),(ii g.f)];(sl Dt 20 [] ⟨[2],[],u9o,u9q⟩ ⟨[(5,.len a.length)],[.rowed 1 a.length (Zz a)],[]⟩ [true] (pp b (pp b (pp (xS j h (Zz i)) (pp (pp (xF h) nn) (ww o1 (ww o0 (ww o0 (tt k0 nn)))))))))))) (fun k0=>(Un (sl Dt (C':=⟨⟨52,0,true⟩,(Wz prog 148 (pn 47) 1),(Zk prog 148 (pn 47) 1),none,(Zy prog 3),⟨Yy [(50,(dt v5))],Wf [] 0,0,[],true⟩,[],.leaf⟩) 13 [] ⟨[],[0],[some [50]],[]⟩ ⟨[(50,.frz v5.length v5.length (Zz v5) (Zz v5))],[],[]⟩ [false] (pp (xZ (DE 1 1 0 v5.length v5.length (Zz v5)) v5.length (Zz v5)) (pp (xL v5.length v5.length) (pp (xS v5.length (Zz v5) (Zz v5)) (pp (fl v5 nn) (tt k0 nn)))))) (lo fun o0=>let e:=Cj (CB v5);(lr 52 3 (pn 191) 1 3 [(4,(dt e))] (sl Dt 3 [] (b8 [4]) b7 [] (pp (pp (xr v5) (xw o0)) nn)))))))
theorem x6a (l0:zx) (l1:zx):Xh prog (Zy prog 148) (j5b l0 l1) (Zb prog 148 [(dt l0),(dt l1)] true []) (WF l0 l1):=(sl Dt 15 [(3,1,Zz ([]:zq))] ⟨[0],[],u9p,u9r⟩ ⟨[(5,.grow 0 1)],[],[]⟩ [] (pp (fl ([]:zq) nn) nn))
theorem v5r (l0:zx) (l1:zx) (n:Nat) (vs:zy) (h:Yj (HR l0 l1) n (WF l0 l1)=.ret vs):Ji prog (Zy prog 148) (Zb prog 148 [(dt l0),(dt l1)] true []) vs:=by have:=Zf (w0p l0 l1) n _ (x6a l0 l1);rwa [h] at this
def EC (l:zu):zq:=l.flatMap fun r=>[r.a,r.c]
def Du (l:zu):zq:=l.flatMap fun r=>[r.b,r.d]
def ED (l:zx):zq:=l.flatMap fun r=>[r.c,r.f]
def CP (l m:zu):zq:=Cj (EC l++EC m)
def YE (l m:zu):Bool:=decide (l.length<=10000/\m.length<=10000)
theorem z4o (l:zu):(EC l).length =2*l.length:=by
 induction l with
 | nil=>rfl
 | cons r l ih=>grind [EC]
theorem x0j (l:zu) (i:Nat) (h:i<l.length):EC (l.drop i)=EC [rd l i]++EC (l.drop (i+1)):=by rw [Yn h];rfl
theorem u8k (l m:zu) (hl:l.length<=10000) (hm:m.length<=10000): ∀(k i:Nat) (out:zq),i+k=m.length->out.length=2*l.length+2*i-> ∃N,Yj (HL l m) N (.to (.h1 out (i:Int)))=.ret [.dat (Cj (out++EC (m.drop i))).length (Zz (Cj (out++EC (m.drop i))))]
 | 0,i,out,h,ho=>by refine ⟨1,?_⟩;have hw:Qn out=true:=Af (by omega);rw [Zx,Aw (show m.length<=i by omega),show EC []=[] from rfl,AG];simp (disch:=omega) only [HL,Xb,Yo,Zt,Yc,Xs,Yp,Yd,Yg,Zn,Zq,Zh,Jy,Vp,Au,Zv,Yx,Zo,Yb,Zj,Ah,Aj,Al,Ab,Aa,Ax,AB,Zc,Zd,Zp,Uj,Xc,hw]
 | k+1,i,out,h,ho=>by obtain ⟨N,hN⟩:=u8k l m hl hm k (i+1) (out++EC [rd m i]) (by omega) (by grind [z4o]);refine ⟨N+1,?_⟩;rw [x0j m i (by omega),<-AH,Zx];simp (disch:=omega) only [HL,Xb,Yo,Zt,Yc,Xs,Yp,Yd,Yg,Zn,Zq,Zh,Jy,Vp,Au,Zv,Yx,Zo,Yb,Zj,Ah,Aj,Al,Ab,Aa,Ax,AB,Zc,Zd,Zp,Uj,Xc];exact hN
theorem u8l (l m:zu) (hl:l.length<=10000) (hm:m.length<=10000): ∀(k i:Nat) (out:zq),i+k=l.length->out.length=2*i-> ∃N,Yj (HL l m) N (.to (.h0 out (i:Int)))=.ret [.dat (Cj (out++EC (l.drop i)++EC m)).length (Zz (Cj (out++EC (l.drop i)++EC m)))]
 | 0,i,out,h,ho=>by obtain ⟨N,hN⟩:=u8k l m hl hm m.length 0 out (Ah _) (by omega);refine ⟨N+1,?_⟩;rw [Zx,Aw (show l.length<=i by omega),show EC []=[] from rfl,AG];simp (disch:=omega) only [HL,Xb,Yo,Zt,Yc,Xs,Yp,Yd,Yg,Zn,Zq,Zh,Jy,Vp,Au,Zv,Yx,Zo,Yb,Zj,Ah,Aj,Al,Ab,Aa,Ax,AB,Zc,Zd,Zp,Uj,Xc];exact hN
 | k+1,i,out,h,ho=>by obtain ⟨N,hN⟩:=u8l l m hl hm k (i+1) (out++EC [rd l i]) (by omega) (by grind [z4o]);refine ⟨N+1,?_⟩;rw [x0j l i (by omega),<-AH,Zx];simp (disch:=omega) only [HL,Xb,Yo,Zt,Yc,Xs,Yp,Yd,Yg,Zn,Zq,Zh,Jy,Vp,Au,Zv,Yx,Zo,Yb,Zj,Ah,Aj,Al,Ab,Aa,Ax,AB,Zc,Zd,Zp,Uj,Xc];exact hN
theorem j3t (l m:zu) (h:YE l m=true): ∃N,Yj (HL l m) N (XY l m)=.ret [.dat (CP l m).length (Zz (CP l m))]:=by
 obtain ⟨h1,h2⟩:=Ay h;have:=u8l l m h1 h2 l.length 0 [] (Ah _) rfl
 simpa [XY,CP] using this
def C7 (l m:zu):zq:=Cj (Du l++Du m)
def YF (l m:zu):Bool:=decide (l.length<=10000/\m.length<=10000)
theorem z4n (l:zu):(Du l).length =2*l.length:=by
 induction l with
 | nil=>rfl
 | cons r l ih=>grind [Du]
theorem x0i (l:zu) (i:Nat) (h:i<l.length):Du (l.drop i)=Du [rd l i]++Du (l.drop (i+1)):=by rw [Yn h];rfl
theorem u8i (l m:zu) (hl:l.length<=10000) (hm:m.length<=10000): ∀(k i:Nat) (out:zq),i+k=m.length->out.length=2*l.length+2*i-> ∃N,Yj (HM l m) N (.to (.h1 out (i:Int)))=.ret [.dat (Cj (out++Du (m.drop i))).length (Zz (Cj (out++Du (m.drop i))))]
 | 0,i,out,h,ho=>by refine ⟨1,?_⟩;have hw:Qn out=true:=Af (by omega);rw [Zx,Aw (show m.length<=i by omega),show Du []=[] from rfl,AG];simp (disch:=omega) only [HM,Xb,Yo,Zt,Yc,Xs,Yp,Yd,Yg,Zn,Zq,Zh,Jy,Vp,Au,Zv,Yx,Zo,Yb,Zj,Ah,Aj,Al,Ab,Aa,Ax,AB,Zc,Zd,Zp,Uj,Xc,hw]
 | k+1,i,out,h,ho=>by obtain ⟨N,hN⟩:=u8i l m hl hm k (i+1) (out++Du [rd m i]) (by omega) (by grind [z4n]);refine ⟨N+1,?_⟩;rw [x0i m i (by omega),<-AH,Zx];simp (disch:=omega) only [HM,Xb,Yo,Zt,Yc,Xs,Yp,Yd,Yg,Zn,Zq,Zh,Jy,Vp,Au,Zv,Yx,Zo,Yb,Zj,Ah,Aj,Al,Ab,Aa,Ax,AB,Zc,Zd,Zp,Uj,Xc];exact hN
theorem u8j (l m:zu) (hl:l.length<=10000) (hm:m.length<=10000): ∀(k i:Nat) (out:zq),i+k=l.length->out.length=2*i-> ∃N,Yj (HM l m) N (.to (.h0 out (i:Int)))=.ret [.dat (Cj (out++Du (l.drop i)++Du m)).length (Zz (Cj (out++Du (l.drop i)++Du m)))]
 | 0,i,out,h,ho=>by obtain ⟨N,hN⟩:=u8i l m hl hm m.length 0 out (Ah _) (by omega);refine ⟨N+1,?_⟩;rw [Zx,Aw (show l.length<=i by omega),show Du []=[] from rfl,AG];simp (disch:=omega) only [HM,Xb,Yo,Zt,Yc,Xs,Yp,Yd,Yg,Zn,Zq,Zh,Jy,Vp,Au,Zv,Yx,Zo,Yb,Zj,Ah,Aj,Al,Ab,Aa,Ax,AB,Zc,Zd,Zp,Uj,Xc];exact hN
 | k+1,i,out,h,ho=>by obtain ⟨N,hN⟩:=u8j l m hl hm k (i+1) (out++Du [rd l i]) (by omega) (by grind [z4n]);refine ⟨N+1,?_⟩;rw [x0i l i (by omega),<-AH,Zx];simp (disch:=omega) only [HM,Xb,Yo,Zt,Yc,Xs,Yp,Yd,Yg,Zn,Zq,Zh,Jy,Vp,Au,Zv,Yx,Zo,Yb,Zj,Ah,Aj,Al,Ab,Aa,Ax,AB,Zc,Zd,Zp,Uj,Xc];exact hN
theorem j3s (l m:zu) (h:YF l m=true): ∃N,Yj (HM l m) N (XZ l m)=.ret [.dat (C7 l m).length (Zz (C7 l m))]:=by
 obtain ⟨h1,h2⟩:=Ay h;have:=u8j l m h1 h2 l.length 0 [] (Ah _) rfl
 simpa [XZ,C7] using this
def Vt (l m:zx):zq:=Cj (ED l++ED m)
def YK (l m:zx):Bool:=decide (l.length<=40000/\m.length<=40000)
theorem z4m (l:zx):(ED l).length =2*l.length:=by
 induction l with
 | nil=>rfl
 | cons r l ih=>grind [ED]
theorem x0f (l:zx) (i:Nat) (h:i<l.length):ED (l.drop i)=ED [rd l i]++ED (l.drop (i+1)):=by rw [Yn h];rfl
theorem v5p (l m:zx) (hl:l.length<=40000) (hm:m.length<=40000): ∀(k i:Nat) (out:zq),i+k=m.length->out.length=2*l.length+2*i-> ∃N,Yj (HR l m) N (.to (.h1 out (i:Int)))=.ret [.dat (Cj (out++ED (m.drop i))).length (Zz (Cj (out++ED (m.drop i))))]
 | 0,i,out,h,ho=>by refine ⟨1,?_⟩;have hw:Qn out=true:=Af (by omega);rw [Zx,Aw (show m.length<=i by omega),show ED []=[] from rfl,AG];simp (disch:=omega) only [HR,Xb,Yo,Zt,Yc,Xs,Yp,Yd,Yg,Zn,Zq,Zh,Jy,Vp,Au,Zv,Yx,Zo,Yb,Zj,Ah,Aj,Al,Ab,Aa,Ax,AB,Zc,Zd,Zp,Uj,Xc,hw]
 | k+1,i,out,h,ho=>by obtain ⟨N,hN⟩:=v5p l m hl hm k (i+1) (out++ED [rd m i]) (by omega) (by grind [z4m]);refine ⟨N+1,?_⟩;rw [x0f m i (by omega),<-AH,Zx];simp (disch:=omega) only [HR,Xb,Yo,Zt,Yc,Xs,Yp,Yd,Yg,Zn,Zq,Zh,Jy,Vp,Au,Zv,Yx,Zo,Yb,Zj,Ah,Aj,Al,Ab,Aa,Ax,AB,Zc,Zd,Zp,Uj,Xc];exact hN
theorem v5q (l m:zx) (hl:l.length<=40000) (hm:m.length<=40000): ∀(k i:Nat) (out:zq),i+k=l.length->out.length=2*i-> ∃N,Yj (HR l m) N (.to (.h0 out (i:Int)))=.ret [.dat (Cj (out++ED (l.drop i)++ED m)).length (Zz (Cj (out++ED (l.drop i)++ED m)))]
 | 0,i,out,h,ho=>by obtain ⟨N,hN⟩:=v5p l m hl hm m.length 0 out (Ah _) (by omega);refine ⟨N+1,?_⟩;rw [Zx,Aw (show l.length<=i by omega),show ED []=[] from rfl,AG];simp (disch:=omega) only [HR,Xb,Yo,Zt,Yc,Xs,Yp,Yd,Yg,Zn,Zq,Zh,Jy,Vp,Au,Zv,Yx,Zo,Yb,Zj,Ah,Aj,Al,Ab,Aa,Ax,AB,Zc,Zd,Zp,Uj,Xc];exact hN
 | k+1,i,out,h,ho=>by obtain ⟨N,hN⟩:=v5q l m hl hm k (i+1) (out++ED [rd l i]) (by omega) (by grind [z4m]);refine ⟨N+1,?_⟩;rw [x0f l i (by omega),<-AH,Zx];simp (disch:=omega) only [HR,Xb,Yo,Zt,Yc,Xs,Yp,Yd,Yg,Zn,Zq,Zh,Jy,Vp,Au,Zv,Yx,Zo,Yb,Zj,Ah,Aj,Al,Ab,Aa,Ax,AB,Zc,Zd,Zp,Uj,Xc];exact hN
theorem u2z (l m:zx) (h:YK l m=true): ∃N,Yj (HR l m) N (WF l m)=.ret [.dat (Vt l m).length (Zz (Vt l m))]:=by
 obtain ⟨h1,h2⟩:=Ay h;have:=v5q l m h1 h2 l.length 0 [] (Ah _) rfl
 simpa [WF,Vt] using this
def fXs :zy->Option (CA×Bool)
 | [a0,a1]=>match C4 R4 a0,C4 R4 a1 with
  | some (L0,g0,n0),some (L1,g1,n1)=>some (.dat (CP L0 L1).length (Zz (CP L0 L1)),CU R4 n0 g0&&(CU R4 n1 g1&&(YE L0 L1)))
  | _,_=>none
 | _=>none
theorem PH {S:CC} (hS:Zu prog S):Zu prog (S.with nXs fXs):=by
 refine C3 hS (by kernel_rfl) fun args v h=> ?_;unfold fXs at h;split at h
 .rename_i a0 a1;split at h
  .rename_i L0 g0 n0 L1 g1 n1 e0 e1;simp only [Ae,Ad,Ac] at h;obtain ⟨rfl,ho0,ho1,hw⟩:=h;obtain ⟨N,hN⟩:=j3t L0 L1 hw;exact ⟨_,_,(.cons (Xy e0 ho0) (.cons (Xy e1 ho1) .nil)),rfl,u1w L0 L1 N _ hN,3,rfl⟩
  .cases h
 .cases h
def fYs :zy->Option (CA×Bool)
 | [a0,a1]=>match C4 R4 a0,C4 R4 a1 with
  | some (L0,g0,n0),some (L1,g1,n1)=>some (.dat (C7 L0 L1).length (Zz (C7 L0 L1)),CU R4 n0 g0&&(CU R4 n1 g1&&(YF L0 L1)))
  | _,_=>none
 | _=>none
theorem PG {S:CC} (hS:Zu prog S):Zu prog (S.with nYs fYs):=by
 refine C3 hS (by kernel_rfl) fun args v h=> ?_;unfold fYs at h;split at h
 .rename_i a0 a1;split at h
  .rename_i L0 g0 n0 L1 g1 n1 e0 e1;simp only [Ae,Ad,Ac] at h;obtain ⟨rfl,ho0,ho1,hw⟩:=h;obtain ⟨N,hN⟩:=j3s L0 L1 hw;exact ⟨_,_,(.cons (Xy e0 ho0) (.cons (Xy e1 ho1) .nil)),rfl,u1v L0 L1 N _ hN,3,rfl⟩
  .cases h
 .cases h
def j8u :zy->Option (CA×Bool)
 | [a0,a1]=>match C4 R6 a0,C4 R6 a1 with
  | some (L0,g0,n0),some (L1,g1,n1)=>some (.dat (Vt L0 L1).length (Zz (Vt L0 L1)),CU R6 n0 g0&&(CU R6 n1 g1&&(YK L0 L1)))
  | _,_=>none
 | _=>none
theorem u5p {S:CC} (hS:Zu prog S):Zu prog (S.with Ld j8u):=by
 refine C3 hS (by kernel_rfl) fun args v h=> ?_;unfold j8u at h;split at h
 .rename_i a0 a1;split at h
  .rename_i L0 g0 n0 L1 g1 n1 e0 e1;simp only [Ae,Ad,Ac] at h;obtain ⟨rfl,ho0,ho1,hw⟩:=h;obtain ⟨N,hN⟩:=u2z L0 L1 hw;exact ⟨_,_,(.cons (Xy e0 ho0) (.cons (Xy e1 ho1) .nil)),rfl,v5r L0 L1 N _ hN,3,rfl⟩
  .cases h
 .cases h
def T2 :CC:=((T1.with nXs fXs).with nYs fYs).with Ld j8u
theorem FL :Zu prog T2:=u5p (PG (PH Dt))
abbrev SV (x0:Int) (l1:zu) (l2:zu) (v12:Int) (v14:Int):=(Mr x0 (Ep (CB l1) (rd (CP (CB l1) (CB l2)) (tn v12)) (rd (C7 (CB l1) (CB l2)) (tn v14))) (Ep (CB l2) (rd (CP (CB l1) (CB l2)) (tn v12)) (rd (C7 (CB l1) (CB l2)) (tn v14))))
abbrev y1q (v9:zu) (v16:Int) (l1:zu) (l2:zu) (v12:Int):=(v9.set (0+(tn v16)) (R4.mk (rd v9 (0+(tn v16))).a (rd v9 (0+(tn v16))).b (rd (CP (CB l1) (CB l2)) (tn (wr (v12+1)))) (rd v9 (0+(tn v16))).d))
abbrev y1p (v9:zu) (l1:zu) (l2:zu) (v12:Int) (v15:zp) (v17:Int):=(v9++[(R4.mk (rd (CP (CB l1) (CB l2)) (tn v12)) (rd v15 (tn v17)).a (rd (CP (CB l1) (CB l2)) (tn (wr (v12+1)))) (rd v15 (tn v17)).b)])
abbrev Jt (l1:zu) (l2:zu):=(C7 (CB l1) (CB l2))
def YW (l1:zu) (l2:zu):CA:=(.dat (CP (CB l1) (CB l2)).length (Zz (CP (CB l1) (CB l2))))
def YX (l1:zu) (l2:zu):CA:=(.dat (Jt l1 l2).length (Zz (Jt l1 l2)))
inductive Hv where
 | h0 (v9:zu) (v10:zp) (v11:Int) (v12:Int)
 | h1 (v9:zu) (v10:zp) (v11:Int) (v12:Int) (v13:List Bool) (v14:Int)
 | h2 (v9:zu) (v10:zp) (v11:Int) (v12:Int) (v15:zp) (v17:Int)
 | h3 (v9:zu) (v10:zp) (v11:Int) (v12:Int) (v16:Int)
def Nn (x0:Int) (l1:zu) (l2:zu):Hv->CJ
 | .h0 v9 v10 v11 v12=>⟨⟨121,0,true⟩,none,(Zk prog 149 (pn 607) 0),none,(Zy prog 7),⟨Yy [(0,(ii x0)),(1,(dt l1)),(2,(dt l2)),(7,(YW l1 l2)),(8,(YX l1 l2)),(9,(.sla 0 4 0 v9.length (.un 4))),(10,(dt v10)),(11,(ii v11)),(12,(ii v12))],Wf [(rz v9 168 4)] 0,1,[],true⟩,[],.leaf⟩
 | .h1 v9 v10 v11 v12 v13 v14=>⟨⟨121,0,true⟩,none,(Zk prog 149 (pn 152159) 0),none,(Zy prog 7),⟨Yy [(0,(ii x0)),(1,(dt l1)),(2,(dt l2)),(7,(YW l1 l2)),(8,(YX l1 l2)),(9,(.sla 1 4 0 v9.length (.un 4))),(10,(dt v10)),(11,(ii v11)),(12,(ii v12)),(13,(.sla 0 1 0 v13.length (.un 1))),(14,(ii v14))],Wf [(rz v13 4 1),(rz v9 168 4)] 0,2,[],true⟩,[],.leaf⟩
 | .h2 v9 v10 v11 v12 v15 v17=>⟨⟨121,0,true⟩,none,(Zk prog 149 (pn 1307231) 0),none,(Zy prog 7),⟨Yy [(0,(ii x0)),(1,(dt l1)),(2,(dt l2)),(7,(YW l1 l2)),(8,(YX l1 l2)),(9,(.sla 0 4 0 v9.length (.un 4))),(10,(dt v10)),(11,(ii v11)),(12,(ii v12)),(15,(dt v15)),(17,(ii v17))],Wf [(rz v9 168 4)] 0,1,[],true⟩,[],.leaf⟩
 | .h3 v9 v10 v11 v12 v16=>⟨⟨121,0,true⟩,none,(Zk prog 149 (pn 4813407) 0),none,(Zy prog 7),⟨Yy [(0,(ii x0)),(1,(dt l1)),(2,(dt l2)),(7,(YW l1 l2)),(8,(YX l1 l2)),(9,(.sla 0 4 0 v9.length (.un 4))),(10,(dt v10)),(11,(ii v11)),(12,(ii v12)),(16,(ii v16))],Wf [(rz v9 168 4)] 0,1,[],true⟩,[],.leaf⟩
def j4o :List (Option zt):=[some [0,1,2,7,8,9,10,11,12]]
def j4q :List (Option zt):=[]
def LM :List (Option zt):=[some [0,1,2,7,8,9,10,11,12,13,14]]
def LO :List (Option zt):=[]
def j4n :List (Option zt):=[some [0,1,2,7,8,9,10,11,12,15,17]]
def j4p :List (Option zt):=[]
def LL :List (Option zt):=[some [0,1,2,7,8,9,10,11,12,16]]
def LN :List (Option zt):=[]
def Uz (x0:Int) (l1:zu) (l2:zu):Hv->Xk Hv
 | .h0 v9 v10 v11 v12=>(bif (decide ((wrap .i64 (v12+1))<(((CP (CB l1) (CB l2)).length :Nat):Int))) then (.to (.h1 v9 v10 v11 v12 ([]:List Bool) 0)) else (.ret [(dt v9)]))
 | .h1 v9 v10 v11 v12 v13 v14=>let a:=C7 (CB l1) (CB l2);let b:=rd (CP (CB l1) (CB l2)) v12.toNat;let c:=DT (CB a) (CB v13);let d:=rd a v14.toNat;(bif (decide (v14<((a.length :Nat):Int))) then (bif (RB (CB l1) b d) then (bif ((decide (0<=v12/\v12<(((CP (CB l1) (CB l2)).length :Nat):Int)))&&true) then (bif ((decide (0<=v14/\v14<((a.length :Nat):Int)))&&true) then (bif (RB (CB l2) b d) then (bif (Nat.beq 1 1&&((decide (0+v13.length=v13.length))&&decide ((v13.length+1+1)*(1+1)<=Vg))) then (.to (.h1 v9 v10 v11 v12 (v13++[(Mr x0 (Ep (CB l1) b d) (Ep (CB l2) b d))]) (wrap .i64 (v14+1)))) else .stuck) else .stuck) else .stuck) else .stuck) else .stuck) else (bif (YH (CB a) (CB v13)) then (bif (decide (v12>0)) then (bif (Ug (CB c) (CB v10)) then (bif (Qr (CB c) (CB v10)) then (.to (.h3 v9 v10 v11 v12 v11)) else (.to (.h2 v9 c (v9.length:Int) v12 c 0))) else .stuck) else (.to (.h2 v9 c (v9.length:Int) v12 c 0))) else .stuck))
 | .h2 v9 v10 v11 v12 v15 v17=>let c:=CP (CB l1) (CB l2);let d:=rd v15 v17.toNat;(bif (decide (v17<(v15.length:Int))) then (bif ((decide (0<=v12/\v12<((c.length :Nat):Int)))&&true) then (bif ((decide (0<=(wrap .i64 (v12+1))/\(wrap .i64 (v12+1))<((c.length :Nat):Int)))&&true) then (bif ((decide (0<=v17/\v17<(v15.length:Int)))&&true) then (bif (Nat.beq 4 4&&((decide (0+v9.length=v9.length))&&decide ((v9.length+1+1)*(32+1)<=Vg))) then (.to (.h2 (v9++[(R4.mk (rd c v12.toNat) d.a (rd c (Int.toNat (wrap .i64 (v12+1)))) d.b)]) v10 v11 v12 v15 (wrap .i64 (v17+1)))) else .stuck) else .stuck) else .stuck) else .stuck) else (.to (.h0 v9 v10 v11 (wrap .i64 (v12+1)))))
 | .h3 v9 v10 v11 v12 v16=>let c:=rd v9 (0+v16.toNat);let e:=CP (CB l1) (CB l2);(bif (decide (v16<(v9.length:Int))) then (bif ((decide (0<=(wrap .i64 (v12+1))/\(wrap .i64 (v12+1))<((e.length :Nat):Int)))&&true) then (bif ((decide (0<=v16/\v16<(v9.length:Int)))&&true) then (bif (decide ((0+v16.toNat)<v9.length)) then (.to (.h3 (v9.set (0+v16.toNat) (R4.mk c.a c.b (rd e (Int.toNat (wrap .i64 (v12+1)))) c.d)) v10 v11 v12 (wrap .i64 (v16+1)))) else .stuck) else .stuck) else .stuck) else (.to (.h0 v9 v10 v11 (wrap .i64 (v12+1)))))
def XS (x0:Int) (l1:zu) (l2:zu):Xk Hv:=(bif (YE (CB l1) (CB l2)) then (bif (YF (CB l1) (CB l2)) then (.to (.h0 ([]:zu) ([]:zp) 0 0)) else .stuck) else .stuck)
theorem w9k (x0:Int) (l1:zu) (l2:zu): ∀s,Xh prog (Zy prog 149) (Nn x0 l1 l2) (Nn x0 l1 l2 s) (Uz x0 l1 l2 s)
 | .h0 v9 v10 v11 v12=>(lb (fun k0=>(sl FL 24 [(4,1,Zz ([]:List Bool))] ⟨[1,0],[],LM,LO⟩ ⟨[(13,.grow 0 1)],[],[]⟩ [true] (pp (fl ([]:List Bool) (fl v9 nn)) (tt k0 nn)))) (fun k0=>(lr 121 3 (pn 191) 1 7 [(6,(dt v9))] (sl FL 16 [] ⟨[],[0],[some [6]],[]⟩ ⟨[(6,.frz v9.length v9.length (Zz v9) (Zz v9))],[],[]⟩ [false] (pp (xZ (DE 4 4 0 v9.length v9.length (Zz v9)) v9.length (Zz v9)) (pp (xL v9.length v9.length) (pp (xS v9.length (Zz v9) (Zz v9)) (pp (fl v9 nn) (tt k0 nn)))))))))
 | .h1 v9 v10 v11 v12 v13 v14=>(lb (fun k0=>(lo fun o0=>(lo fun o1=>(lo fun o2=>(lo fun o3=>(lo fun o4=>let h:=SV x0 l1 l2 v12 v14;let a:=v13++[h];let l:=v13.length+1;let b:=xL l (v13++[h]).length;let i:=Zr (Zz v13) 0 v13.length 1 [(.bool h)];(sl FL 20 [] ⟨[3,1],[],LM,LO⟩ ⟨[(13,.len a.length)],[.rowed 1 a.length (Zz a),.keep],[]⟩ [true] (pp b (pp b (pp (xS l i (Zz (v13++[h]))) (pp (pp (xF i) (fl v9 nn)) (ww o4 (pp (pp (xr l2) (xw o3)) (ww o2 (ww o1 (pp (pp (xr l1) (xw o0)) (ww o2 (ww o1 (tt k0 nn))))))))))))))))))) (fun k0=>let d:=CP (CB l1) (CB l2);let j:=Zz (Jt l1 l2);let f:=j;(Un (sl FL (C':=⟨⟨121,0,true⟩,(Wz prog 149 (pn 45663) 2),(Zk prog 149 (pn 45663) 1),none,(Zy prog 7),⟨Yy [(0,(ii x0)),(1,(dt l1)),(2,(dt l2)),(7,(dt d)),(8,(.dat (Jt l1 l2).length f)),(9,(.sla 0 4 0 v9.length (.un 4))),(10,(dt v10)),(11,(ii v11)),(12,(ii v12)),(62,(.dat (Jt l1 l2).length f)),(63,(dt v13))],Wf [(rz v9 168 4)] 0,1,[],true⟩,[],.leaf⟩) 14 [] ⟨[1],[0],[some [0,1,2,7,8,9,10,11,12,62,63]],[]⟩ ⟨[(63,.frz v13.length v13.length (Zz v13) (Zz v13))],[],[]⟩ [false] (pp (xZ (DE 1 1 0 v13.length v13.length (Zz v13)) v13.length (Zz v13)) (pp (xL v13.length v13.length) (pp (xS v13.length (Zz v13) (Zz v13)) (pp (fl v9 nn) (pp (fl v13 nn) (tt k0 nn))))))) (lo fun aK=>let c:=pp (xr v13) (xw aK);(lb (fun k1=>(lo fun bS=>let e:=pp (xr v10) (xw bS);let g:=DT (CB (Jt l1 l2)) (CB v13);(lb (fun k2=>(sl FL 23 [] ⟨[0],[],LL,LN⟩ b7 (CL 4 []) (pp (fl v9 nn) (tt k2 (pp (pp (xI R2 g.length (Zz g)) e) (tt k1 (pp (pp (xI Int (Jt l1 l2).length j) c) nn))))))) (fun k2=>(sl FL 30 [] ⟨[0],[],j4n,j4p⟩ b7 (CL 3 [false]) (pp (fl v9 nn) (tt k2 (pp (pp (xI R2 g.length (Zz g)) e) (tt k1 (pp (pp (xI Int (Jt l1 l2).length j) c) nn)))))))))) (fun k1=>(sl FL 30 [] ⟨[0],[],j4n,j4p⟩ b7 (bl 4 0) (pp (fl v9 nn) (tt k1 (pp (pp (xI Int (Jt l1 l2).length j) c) nn))))))))))
 | .h2 v9 v10 v11 v12 v15 v17=>(lb (fun k0=>(lo fun o0=>(lo fun o1=>(lo fun o2=>(lo fun o3=>let f:=y1p v9 l1 l2 v12 v15 v17;let i:=v9.length+1;let c:=xL i f.length;let d:=f;let g:=CP (CB l1) (CB l2);let h:=rd v15 (tn v17);let e:=Zr (Zz v9) 0 v9.length 4 [(ii (rd g (tn v12))),(ii h.a),(ii (rd g (tn (wr (v12+1))))),(ii h.b)];(sl FL 20 [] ⟨[2],[],j4n,j4p⟩ ⟨[(9,.len d.length)],[.rowed 4 d.length (Zz d)],[]⟩ [true] (pp c (pp c (pp (xS i e (Zz f)) (pp (pp (xF e) nn) (ww o3 (ww o2 (ww o1 (ww o2 (ww o0 (tt k0 nn)))))))))))))))) (fun k0=>(sl FL 17 [] ⟨[0],[],j4o,j4q⟩ b7 [false] (pp (fl v9 nn) (tt k0 nn)))))
 | .h3 v9 v10 v11 v12 v16=>(lb (fun k0=>(lo fun o0=>(lo fun o1=>(lo fun o2=>let d:=y1q v9 v16 l1 l2 v12;let a:=xL v9.length d.length;let b:=d;let c:=Xg (Zz v9) (0+(tn v16)) 2 [(ii (rd (CP (CB l1) (CB l2)) (tn (wr (v12+1)))))];(sl FL 31 [] ⟨[0],[],LL,LN⟩ ⟨[(9,.len b.length)],[.rowed 4 b.length (Zz b)],[]⟩ [true] (pp a (pp a (pp (xS v9.length c (Zz d)) (pp (pp (xF c) nn) (ww o2 (ww o1 (ww o0 (tt k0 nn))))))))))))) (fun k0=>(sl FL 17 [] ⟨[0],[],j4o,j4q⟩ b7 [false] (pp (fl v9 nn) (tt k0 nn)))))
theorem w0e (x0:Int) (l1:zu) (l2:zu):Xh prog (Zy prog 149) (Nn x0 l1 l2) (Zb prog 149 [(.int .i64 x0),(dt l1),(dt l2)] true []) (XS x0 l1 l2):=(lo fun o0=>(lo fun o1=>(sl FL 34 [(168,4,Zz ([]:zu))] ⟨[0],[],j4o,j4q⟩ ⟨[(9,.grow 0 4),(10,.list 0 (Zz ([]:zp)))],[],[]⟩ [] (pp (fl ([]:zu) nn) (pp (pp (xr l1) (pp (xr l2) (xw o1))) (pp (pp (xr l1) (pp (xr l2) (xw o0))) nn))))))
theorem u2k (x0:Int) (l1:zu) (l2:zu) (n:Nat) (vs:zy) (h:Yj (Uz x0 l1 l2) n (XS x0 l1 l2)=.ret vs):Ji prog (Zy prog 149) (Zb prog 149 [(.int .i64 x0),(dt l1),(dt l2)] true []) vs:=by have:=Zf (w9k x0 l1 l2) n _ (w0e x0 l1 l2);rwa [h] at this
theorem z2t : ∀(l out:zq),(l.foldl Do out).length <=out.length+l.length
 | [],out=>Aq _
 | x::l,out=>AI (z2t l (Do out x)) (by have:=y7o out x;simp;omega)
theorem z7l (l:zq):(Cj l).length <=l.length:=by
 grind [z2t,Cj]
theorem y8i (cuts:zq) (ins:List Bool): ∀(k i:Nat) (out:zp),(Fs cuts ins k i out).length <=out.length+k
 | 0,_,out=>Aq _
 | k+1,i,out=>by
  unfold Fs;refine AI (y8i cuts ins k (i+1) _) ?_;cases rd ins i
  .simp only [Aa];omega
  .simp only [Ab];cases (decide (0<out.length)&&((rd out (out.length - 1)).b == rd cuts i)) <;> simp <;> omega
theorem w3v (cuts:zq) (ins:List Bool):(DT cuts ins).length <=cuts.length:=by
 grind [y8i,DT]
section
variable (kind:Int) (l m:zu)
def H9 (x:Int) (y:Int):Bool:=Mr kind (Ep l x y) (Ep m x y)
def Ey (x:Int):zp:=DT (C7 l m) ((C7 l m).map (H9 kind l m x))
def Gw (out:zu) (first:Nat) (x:Int):zu:=out.take first++(out.drop first).map fun r=>⟨r.a,r.b,x,r.d⟩
def Od (x x':Int) (s:zp):zu:=s.map fun p=>⟨x,p.a,x',p.b⟩
def jF :Nat->Nat->zu->zp->Nat->zu
 | 0,_,out,_,_=>out
 | k+1,i,out,last,first=>
  bif decide (0<i)&&Qr (Ey kind l m (rd (CP l m) i)) last then jF k (i+1) (Gw out first (rd (CP l m) (i+1))) last first
  else jF k (i+1) (out++Od (rd (CP l m) i) (rd (CP l m) (i+1)) (Ey kind l m (rd (CP l m) i))) (Ey kind l m (rd (CP l m) i)) out.length
def DF :zu:=jF kind l m ((CP l m).length - 1) 0 [] [] 0
end
def JC (_:Int) (l m:zu):Bool:=decide (l.length<=10000/\m.length<=10000)
theorem Qu (l m:zu):(CP l m).length <=2*l.length+2*m.length:=by
 refine AI (z7l _) ?_
 grind [z4o]
theorem x0g (l m:zu):(C7 l m).length <=2*l.length+2*m.length:=by
 refine AI (z7l _) ?_
 grind [z4n]
section
variable (kind:Int) (l m:zu) (hl:l.length<=10000) (hm:m.length<=10000)
include hl hm
theorem u9d (out:zu) (last:zp) (first:Int) (i:Nat) (hi:i+1<(CP l m).length): ∀(k j:Nat) (acc:List Bool),j+k=(C7 l m).length ->acc.length=j->
  ∃n,∀N,Yj (Uz kind l m) (N+n) (.to (.h1 out last first (i:Int) acc (j:Int)))=Yj (Uz kind l m) N (.to (.h1 out last first (i:Int) (acc++((C7 l m).drop j).map (H9 kind l m (rd (CP l m) i))) ((C7 l m).length :Int)))
 | 0,j,acc,h,ha=>by
  refine ⟨0,fun N=> ?_⟩
  grind
 | k+1,j,acc,h,ha=>by
  have hx:=Qu l m;have hy:=x0g l m;obtain ⟨n,hn⟩:=u9d out last first i hi k (j+1) (acc++[H9 kind l m (rd (CP l m) i) (rd (C7 l m) j)]) (by omega) (by simp [ha])
  refine ⟨n+1,fun N=> ?_⟩;have w1: ∀x y,RB l x y=true:=fun x y=>Af (by omega);have w2: ∀x y,RB m x y=true:=fun x y=>Af (by omega);rw [Yn (show j<(C7 l m).length by omega),AT,<-AK,Zx];simp (disch:=omega) only [Uz,Zd,Zp,w1,w2,Zt,Zn,Yd,Yg,Zh,Zq,Zv,Yb,Zj,Ah,Au,Aj,Al,Ab];have:=hn N;rw [AH] at this;exact this
theorem u9c (last:zp) (first:Int) (i:Nat) (hi:i+1<(CP l m).length) (s:zp) (hs:s.length<=1000000): ∀(k j:Nat) (out:zu),j+k=s.length->out.length<=10000000000+j->
  ∃n,∀N,Yj (Uz kind l m) (N+n) (.to (.h2 out last first (i:Int) s (j:Int)))=Yj (Uz kind l m) N (.to (.h0 (out++Od (rd (CP l m) i) (rd (CP l m) (i+1)) (s.drop j)) last first ((i+1:Nat):Int)))
 | 0,j,out,h,ho=>by
  have hx:=Qu l m;refine ⟨1,fun N=> ?_⟩
  grind [Zx,Uz,Zq,Od]
 | k+1,j,out,h,ho=>by
  have hx:=Qu l m;obtain ⟨n,hn⟩:=u9c last first i hi s hs k (j+1) (out++Od (rd (CP l m) i) (rd (CP l m) (i+1)) [rd s j]) (by omega) (by simp [Od];omega)
  refine ⟨n+1,fun N=> ?_⟩;have:=hn N;rw [Yn (show j<s.length by omega),<-AK,Zx];simp (disch:=omega) only [Uz,Zd,Zp,Zt,Zn,Yd,Yg,Zh,Zq,Zv,Yb,Zj,Ah,Au,Aj,Al,Ab];rw [AH] at this;exact this
theorem u5r (out:zu) (j:Nat) (x:Int) (h:j<out.length):Gw (out.set j ⟨(rd out j).a,(rd out j).b,x,(rd out j).d⟩) (j+1) x=Gw out j x:=by
 have _uhl:=hl;have _uhm:=hm;unfold Gw;rw [Yn h,AT];have e1:(out.set j ⟨(rd out j).a,(rd out j).b,x,(rd out j).d⟩).take (j+1)=out.take j++[⟨(rd out j).a,(rd out j).b,x,(rd out j).d⟩]:=by
  apply BO;all_goals grind
 have e2:(out.set j ⟨(rd out j).a,(rd out j).b,x,(rd out j).d⟩).drop (j+1)=out.drop (j+1):=by rw [List.drop_set];grind
 grind
theorem u9b (last:zp) (first:Int) (i:Nat) (hi:i+1<(CP l m).length): ∀(k j:Nat) (out:zu),j+k=out.length->out.length<=10000000000->
  ∃n,∀N,Yj (Uz kind l m) (N+n) (.to (.h3 out last first (i:Int) (j:Int)))=Yj (Uz kind l m) N (.to (.h0 (Gw out j (rd (CP l m) (i+1))) last first ((i+1:Nat):Int)))
 | 0,j,out,h,ho=>by
  have hx:=Qu l m;refine ⟨1,fun N=> ?_⟩;have e:Gw out j (rd (CP l m) (i+1))=out:=by
   grind [Gw]
  grind [Zx,Uz,Zq]
 | k+1,j,out,h,ho=>by
  have hx:=Qu l m;obtain ⟨n,hn⟩:=u9b last first i hi k (j+1) (out.set j ⟨(rd out j).a,(rd out j).b,rd (CP l m) (i+1),(rd out j).d⟩) (by simp;omega) (by grind)
  refine ⟨n+1,fun N=> ?_⟩;have:=hn N;rw [u5r l m hl hm out j _ (by omega)] at this;rw [<-AK,Zx];simp (disch:=omega) only [Uz,Zd,Zp,Zt,Zn,Yp,Yd,Yg,Zh,Zq,Zv,Yb,Zj,Ah,Au,Aj,Al,Ab];exact this
theorem v5b : ∀(k i:Nat) (out:zu) (last:zp) (first:Nat),k=(CP l m).length - 1 - i->i<=(CP l m).length ->out.length<=i*40000->last.length<=40000->first<=out.length->
  ∃n,Yj (Uz kind l m) n (.to (.h0 out last (first:Int) (i:Int)))=.ret [.dat (jF kind l m k i out last first).length (Zz (jF kind l m k i out last first))]
 | 0,i,out,last,first,h,hi,ho,hla,hf=>by
  have hx:=Qu l m;refine ⟨1,?_⟩
  grind [Zx,Uz,Zd,Zq,Zc,jF]
 | k+1,i,out,last,first,h,hi,ho,hla,hf=>by
  have hx:=Qu l m;have hy:=x0g l m;have hi1:i+1<(CP l m).length :=by omega
  have hsl:(Ey kind l m (rd (CP l m) i)).length <=40000:=AI (w3v _ _) (by omega);have hbig:i*40000<=40000*40000:=AE _ (by omega);obtain ⟨n1,h1⟩:=u9d kind l m hl hm out last first i hi1 (C7 l m).length 0 [] (Ah _) rfl
  simp only [AR,A0,EB] at h1;have w3:YH (C7 l m) ((C7 l m).map (H9 kind l m (rd (CP l m) i)))=true:=Af ⟨by omega,by grind⟩;have w4:Ug (DT (C7 l m) ((C7 l m).map (H9 kind l m (rd (CP l m) i)))) last=true:=Af (AI hsl (by omega));have hy2:((C7 l m).length :Int)=(((C7 l m).length :Nat):Int):=rfl;unfold jF;rcases Xw (decide (0<i)&&Qr (Ey kind l m (rd (CP l m) i)) last) with q | q
  .obtain ⟨n3,h3⟩:=u9b kind l m hl hm last first i hi1 (out.length - first) first out (by omega) (by omega)
   obtain ⟨n0,h0⟩:=v5b k (i+1) (Gw out first (rd (CP l m) (i+1))) last first (by omega) (by omega) (by simp [Gw];omega) hla (by simp [Gw];omega)
   refine ⟨n0+n3+1+n1+1,?_⟩;rw [q,Ab,Zx];simp only [Ac,Ao] at q;have q2:Qr (DT (C7 l m) ((C7 l m).map (H9 kind l m (rd (CP l m) i)))) last=true:=q.2;simp (disch:=omega) only [Uz,Zd,Zp,Zt,Zq,Zv,Ab];simp_all [Zx,Uz,Zd]
  .obtain ⟨n2,h2⟩:=u9c kind l m hl hm (Ey kind l m (rd (CP l m) i)) (out.length:Int) i hi1 (Ey kind l m (rd (CP l m) i)) (by omega) (Ey kind l m (rd (CP l m) i)).length 0 out (Ah _) (by omega);obtain ⟨n0,h0⟩:=v5b k (i+1) (out++Od (rd (CP l m) i) (rd (CP l m) (i+1)) (Ey kind l m (rd (CP l m) i))) (Ey kind l m (rd (CP l m) i)) out.length (by omega) (by omega) (by simp [Od];omega) hsl (by simp);refine ⟨n0+n2+1+n1+1,?_⟩;rw [q,Aa,Zx];simp (disch:=omega) only [Uz,Zd,Zp,Zt,Zq,Zv,Ab];have h1':=h1 (n0+n2+1);rw [h1',Zx];have h2':=h2 n0;simp only [AR,EB] at h2';by_cases hi0:0<i
   .rw [Af hi0,Al] at q;have q2:Qr (DT (C7 l m) ((C7 l m).map (H9 kind l m (rd (CP l m) i)))) last=false:=q;simp (disch:=omega) only [Uz,Zd,Zp,Yc,Yo,q2,w3,w4,Ab,Aa];rw [<-h0];exact h2'
   .simp (disch:=omega) only [Uz,Zd,Zp,Yc,Xb,w3,w4,Ab,Aa];rw [<-h0];exact h2'
end
theorem j4m (kind:Int) (l m:zu) (h:JC kind l m=true): ∃N,Yj (Uz kind l m) N (XS kind l m)=.ret [.dat (DF kind l m).length (Zz (DF kind l m))]:=by obtain ⟨hl,hm⟩:=Ay h;obtain ⟨N,hN⟩:=v5b kind l m hl hm ((CP l m).length - 1) 0 [] [] 0 rfl (AA _) (AA _) (AA _) (Aq _);refine ⟨N,?_⟩;have w1:YE l m=true:=Af ⟨hl,hm⟩;have w2:YF l m=true:=Af ⟨hl,hm⟩;simp only [XS,Zd,Zp,w1,w2,Ab];exact hN
theorem GR {P:Program} {S:CC} (hS:Zu P S) {f:FuncId} {F:zy->Option (CA×Bool)} (hf:(P.funcs[f]?).any (fun fn=>fn.body.isSome)=true)
  (hF: ∀args v,F args=some (v,true)-> ∃bs vs,Vf D3 args bs/\(∀(ρ:CF) (u:Value),VRel ρ (Jd vs) u->VRel ρ v u)/\Ji P (Zy P f) (Zb P f bs true []) vs/\ ∃d,pf d (Jd vs)=true):Zu P (S.with f F):=
 x0l hS hf fun args v h=>by obtain ⟨bs,vs,h1,h2,h3,d,h4⟩:=hF args v h;exact ⟨vs,h2,y7z h1 h3,d,h4⟩
theorem FJ {cs cs':zy} (h:DJ cs cs') (ρ:CF) (u:Value) (hv:VRel ρ (.tup cs) u):VRel ρ (.tup cs') u:=by
 cases hv with
 | tup _ vs hl hh=>exact .tup cs' vs (by rw [<-h.len];exact hl) fun i h1 h2=>h.sound i (by rw [h.len];exact h1) h1 (hh i (by rw [h.len];exact h1) h2)
theorem MY (α:Type) [Xp α]:D3 .nils (.dat ([]:List α).length (Zz ([]:List α))):=.nild _
def fJo :zy->Option (CA×Bool)
 | [.int .i64 x0,a1,a2]=>match C4 R4 a1,C4 R4 a2 with
  | some (L1,g1,n1),some (L2,g2,n2)=>some (.dat (DF x0 L1 L2).length (Zz (DF x0 L1 L2)),CU R4 n1 g1&&(CU R4 n2 g2&&(JC x0 L1 L2)))
  | _,_=>none
 | _=>none
theorem Pa {S:CC} (hS:Zu prog S):Zu prog (S.with j0h fJo):=by
 refine C3 hS (by kernel_rfl) fun args v h=> ?_;unfold fJo at h;split at h
 .rename_i x0 a1 a2;split at h
  .rename_i L1 g1 n1 L2 g2 n2 e1 e2;simp only [Ae,Ad,Ac] at h;obtain ⟨rfl,ho1,ho2,hw⟩:=h;obtain ⟨N,hN⟩:=j4m x0 L1 L2 hw;exact ⟨_,_,(.cons (.refl _) (.cons (Xy e1 ho1) (.cons (Xy e2 ho2) .nil))),rfl,u2k x0 L1 L2 N _ hN,3,rfl⟩
  .cases h
 .cases h
def T3 :CC:=T2.with j0h fJo
theorem FM :Zu prog T3:=Pa FL
def QA (r:R3):Bool:=decide (-1000000000<=r.a/\r.a<=1000000000)
def DS (l:zo):Bool:=l.all QA
abbrev E3 :={r:R3 // QA r=true}
instance : Inhabited E3:=⟨⟨⟨0,0,0⟩,rfl⟩⟩
def Py (x y:E3):Int:=x.1.a - y.1.a
def IU (x y:E3):Bool:=decide (Py x y<0)
theorem Tn :SWO IU where
 irrefl x:=by unfold IU Py;simp
 trans x y z h1 h2:=by unfold IU Py at*;simp at*;omega
 ntrans x y z h1 h2:=by unfold IU Py at*;simp at*;omega
def EE :(l:zo)->DS l=true->List E3
 | [],_=>[]
 | r::l,h=>⟨r,by simp [DS] at h;exact h.1⟩::EE l (by simp [DS] at h ⊢;exact h.2)
theorem W8 : ∀(l:zo) (h:DS l=true),(EE l h).map Subtype.val=l
 | [],_=>rfl
 | r::l,h=>by rw [EE,AT,W8 l]
theorem Qb (l:zo) (h:DS l=true):(EE l h).length =l.length:=by
 have:=Av List.length (W8 l h)
 simpa using this
def Ck (l:zo):zo:=if h:DS l=true then (pdq IU (EE l h).toArray 0 l.length (Lib.bitLen l.length) true true).toList.map Subtype.val else l
theorem Qo (l:zo) (h:DS l=true):(Ck l).Perm l/\ ∀i j,i<j->j<(Ck l).length ->(rd (Ck l) i).a <=(rd (Ck l) j).a :=by
 have hp:=pdq_sorts IU Tn (EE l h).toArray 0 l.length (Lib.bitLen l.length) true true (AA _) (by simp [Qb]) (Or.inl rfl);obtain ⟨⟨h1,h2,h3⟩,h4⟩:=hp;have e:Ck l=(pdq IU (EE l h).toArray 0 l.length (Lib.bitLen l.length) true true).toList.map Subtype.val:=by unfold Ck;rw [dif_pos h]
 generalize pdq IU (EE l h).toArray 0 l.length (Lib.bitLen l.length) true true=d at*;have hs:d.size=l.length:=by rw [h1];simp [Qb]
 constructor
 .rw [e];have x1:(d.extract 0 l.length).toList =d.toList:=by rw [<-hs];simp
  have x2:((EE l h).toArray.extract 0 l.length).toList =EE l h:=by rw [show l.length=(EE l h).toArray.size by simp [Qb]];simp
  rw [x1,x2] at h3;have:=h3.map Subtype.val;rw [W8] at this;exact this
 .intro i j hij hj;rw [e] at hj ⊢;have hj':j<d.size:=by simpa using hj
  have:=h4 i j (AA _) hij (by omega);rw [getElem!_pos d i (by omega),getElem!_pos d j hj'] at this;rw [Xm (by simp;omega),Xm hj];simp only [B7,Array.getElem_toList];unfold IU Py at this;have:=BF this;omega
open Go.RowKit Go.Shelf
variable {P:Program} {ρ:CF}
def Dq :CA->Value
 | .int k n=>.int k n
 | .bool b=>.bool b
 | _=>.tuple #[]
def NH :CA->Bool
 | .int _ _=>true
 | .bool _=>true
 | _=>false
theorem w1k {α:Type} [Xp α] (L:List α) (n:Nat) (ty:TypeId) (a:Option Da):(⟨Go.Am.rows n (Zz L),ty,a⟩:CG).isObj =false:=x1a (fun k v hv=>As.1 (Xp.sc _) v hv) _ _
theorem v3a {a:CA} (h:NH a=true):VRel ρ a (Dq a):=by
 cases a <;> first
  | exact .int _ _
  | exact .bool _
  | (simp [NH] at h;done)
theorem v5k {a:CA} {v:Value} (h:NH a=true) (hv:VRel ρ a v):v=Dq a:=by
 cases hv <;> first
  | rfl
  | (simp [NH] at h;done)
class j1r (α:Type) extends Xp α where
 num: ∀a:α,(cells a).all NH=true
instance : j1r R2 where num _:=rfl
instance : j1r R3 where num _:=rfl
instance : j1r R4 where num _:=rfl
instance : j1r R6 where num _:=rfl
instance {α :Type} [Xp α]:Inhabited α:=⟨Xp.d⟩
section
variable {α:Type} [j1r α]
def FS (a:α):List Value:=(Xp.cells a).map Dq
theorem w3l (a:α):(FS a).length =Xp.w α:=by rw [FS,B3,Xp.len]
theorem w7b (L:List α) (t:Nat) (h:t<L.length*Xp.w α):(flatK FS (Xp.w α) L.toArray)[t]? =(Xp.cells (rd L (t / Xp.w α)))[t %Xp.w α]?.map Dq:=by
 have hw:=Xp.pos (α:=α);have hq:t / Xp.w α<L.length:=Bl (by grind);have hj:t %Xp.w α<Xp.w α:=BA _ hw
 grind [flatK,FS,Xm,Xp.len]
theorem v4w (L:List α) (N t:Nat) (h:t<N*Xp.w α):(rows N (Zz L))[t]? =(Xp.cells (rd L (t / Xp.w α)))[t %Xp.w α]? :=by have hw:=Xp.pos (α:=α);have:=Vk (get:=Zz L) (sz:=Xp.w α) N (fun _ _=>Xp.len _) (t / Xp.w α) (t %Xp.w α) (Bl (by grind)) (BA _ hw);rw [show t / Xp.w α*Xp.w α+t %Xp.w α=t by rw [BJ];exact BB t _] at this;exact this
theorem WI (L:List α) (N:Nat):(rows N (Zz L)).length =N*Xp.w α:=Ym N fun _ _=>Xp.len _
theorem y7r (w:World) (n blk off:Nat) (d:Array Value) (os:Array Obj) (k:Nat) (hk:k<w.heap.size):
  (grow (putRow id (Go.Sort.ahead w n) blk off d) os).heap[k]? =if k=blk then (w.heap[k]?).map (onCells (putCells id off d)) else w.heap[k]? :=by
 show (((Go.Sort.ahead w n).heap.modify blk (onCells (putCells id off d)))++os)[k]? =_;rw [Array.getElem?_append_left (by simp_all),BE];show (if blk=k then _ else _)=_;by_cases h:k=blk
 .simp_all
 .rw [Az (fun e=>h e.symm),Az h];rfl
def ZA (α:Type) [Xp α] (srt:List α->List α) (bnd:List α->Bool) (g:FuncId) (args:zy) (mem:CI):Option (CA×Nat×CG×Bool):=match args with
 | [.sla b sz off n cap,.fn f []]=>bif Nat.beq f g then match Yi mem b with
  | some ⟨_,ty,some A⟩=>some (.tup [],b,⟨rows A.n (Zz (srt (Cl α n A.get))),ty,some ⟨Xp.w α,A.n,Zz (srt (Cl α n A.get))⟩⟩,
    Nat.beq sz (Xp.w α)&&(Nat.beq A.sz (Xp.w α)&&(Nat.beq off 0&&((decide (n=A.n)&&(CU α n A.get&&decide (n<4611686018427387904)))&&bnd (Cl α n A.get)))))
  | _=>none
  else none
 | _=>none
theorem v8v {f g:FuncId} {srt:List α->List α} {bnd:List α->Bool} (hsl: ∀L,(srt L).length =L.length)
  (hC: ∀(blk off cap:Nat) (L:List α) (w:World),bnd L=true->HoldsK FS (Xp.w α) w blk off L.toArray->blk<w.heap.size->L.length<4611686018427387904->
   Calls P f #[.slice (some ⟨blk,off,none⟩) L.length cap,.func (.func g) #[] #[]] w fun e w'=>e=.returned (.tuple #[])/\ ∃n os,w'=sortWorldK FS (Xp.w α) w blk off n (srt L).toArray os)
  (hN: ∀(p:Option Addr) (cap:Nat) (fv:Value) (w:World),Calls P f #[.slice p 0 cap,fv] w fun e w'=>e=.returned (.tuple #[])/\w'=w):Gt P f (ZA α srt bnd g):=by
 intro args mem v b blk h gL ρ next floor vals w hfl eN eI
 have hw0:=Xp.pos (α:=α);unfold ZA at h;split at h
 .rename_i b0 sz off n cap f0;obtain ⟨hfg,h'⟩:=Qi h;clear h;obtain rfl:=Ai hfg;have h:=h';clear h';split at h
  .rename_i cells ty A hm;obtain ⟨asz,an,get⟩:=A;simp only [Ae,Ad,Ac] at h;obtain ⟨rfl,rfl,rfl,h1,h2,h3,⟨h4,h5,h6⟩,h7⟩:=h;have g1:=Ai h1;have g2:=Ai h2;have g3:=Ai h3;have g4:n=an:=Ay h4;have h6:n<4611686018427387904:=Ay h6;have g2:asz=Xp.w α:=g2;subst g1;subst g2;subst g3;subst g4;have h7:bnd (Cl α n get.get)=true:=h7;have eU:=w6p h5;have eU: ∀i,i<n->get.get i=Zz (Cl α n get.get) i:=eU;have hrows:rows n get.get=rows n (Zz (Cl α n get.get)):=y1m n eU;obtain ⟨u,hu,fP⟩: ∃u,VRel ρ (.sla b0 (Xp.w α) 0 n cap) u/\vals= #[u,.func (.func f0) #[] #[]]:=by
    obtain ⟨vl⟩:=vals;cases eN with
    | cons q1 q2=>cases q2 with
     | cons q3 q4=>
      cases q4;cases q3 with
      | fn _ _ cvs hl _=>
       grind
   subst fP;have hlt:b0<next:=by
    rcases A8 b0 next with q | q
    .exact q
    .have:=eI.bd b0 q;grind
   show Calls P f _ w _;have hAget:(Da.get ⟨Xp.w α,n,get⟩)=get.get:=rfl;rw [hAget] at*;generalize hI:Cl α n get.get=I at*;have hIl:I.length=n:=by rw [<-hI];exact x1d _ _
   generalize hL:srt I=L;have hLl:L.length=n:=by grind
   have hnn:ρ b0=none-> ∀cs ty',Yi mem b0≠some ⟨cs,ty',none⟩:=fun _ cs ty' e=>by grind
   cases hu with
   | sla _ _ _ _ _ l cc e hc eK=>
    have hbk:=(eI.blk b0 l _ e hm).rows rfl;obtain ⟨har,_,_⟩:=hbk.arr _ rfl;have har:cells=rows n get.get:=har;rw [hrows] at har;subst har;obtain ⟨cur,el,hh,hsz,eQ⟩:=hbk.cells;simp only [WI] at eQ;have htot:=hbk.tot;have hln:=hbk.n;simp only [WI] at hln;have fG: ∀t,t<n*Xp.w α->cur[l.base+t]? =(Xp.cells (rd I (t / Xp.w α)))[t %Xp.w α]?.map Dq:=fun t ht=>by
     obtain ⟨v,e1,e2⟩:=eQ t ht;have hj:t %Xp.w α<Xp.w α:=BA _ hw0;have hl2:t %Xp.w α<(Xp.cells (rd I (t / Xp.w α))).length :=by rw [Xp.len];exact hj
     have e3:=v4w I n t ht
     grind [v5k,j1r.num]
    have fU:=eI.real b0 l e;have hH:HoldsK FS (Xp.w α) w l.blk (l.base+0*Xp.w α) I.toArray:=fun j hj=>by
     have hj:j<n*Xp.w α:=(by simp_all);have hs:j<(flatK FS (Xp.w α) I.toArray).size :=(by grind);have e1:=w7b I j (by grind)
     grind [World.cell?,World.frozen?]
    have eZ:=hC l.blk (l.base+0*Xp.w α) cc I w h7 hH fU (by omega);rw [hIl,hL] at eZ;refine eZ.mono fun e' w' ⟨he,q,os,hw'⟩=>⟨_,he,?_,?_,?_⟩
    .exact .tup [] #[] rfl fun i h1 h2=>absurd h1 (AD _)
    .subst hw';refine CH.setArr ?_ ⟨Xp.w α,n,.flat (Zz L)⟩ (w1k _ _ _ _) rfl hw0 fun _ _=>Xp.len _;refine CH.rewritten eI e hm (by simp only [WI]) (fun k hk hne=> ?_) ?_ hbk.noObj ?_
     .exact (y7r _ _ _ _ _ _ _ hk).trans (Az hne)
     .show _<=(((Go.Sort.ahead w q).heap.modify _ _)++os).size;simp_all
     .refine ⟨putCells id (l.base+0*Xp.w α) (flatK FS (Xp.w α) L.toArray) cur,el,?_,fun _ _ _=>hbk.typ _ _ _ hh,?_,fun i hi=> ?_⟩
      .refine (y7r _ _ _ _ _ _ _ fU).trans ?_;rw [AF rfl,hh];rfl
      .grind [putCells]
      .rw [WI] at hi;have hj:i %Xp.w α<Xp.w α:=BA _ hw0;have hl2:i %Xp.w α<(Xp.cells (rd L (i / Xp.w α))).length :=by rw [Xp.len];exact hj
       have hl3:i %Xp.w α<(Xp.cells (rd I (i / Xp.w α))).length :=(by grind);have e1:=w7b L i (by grind);rw [At hl2,B2] at e1;have hs:i<(flatK FS (Xp.w α) L.toArray).size :=(by grind);rw [BI hs] at e1;have e3:=v4w L n i hi;rw [At (by grind),At hl2] at e3;refine ⟨Dq (Xp.cells (rd L (i / Xp.w α)))[i %Xp.w α],?_,?_⟩
       .simp_all [putCells]
       grind [v3a,j1r.num]
    .subst hw';refine Ev.rewritten eI _ (fun l' _=>hfl) hnn (fun k hk hne=> ?_) ?_ rfl rfl rfl
     .exact (y7r _ _ _ _ _ _ _ hk).trans (Az (hne l e))
     .show _<=(((Go.Sort.ahead w q).heap.modify _ _)++os).size;simp_all
   | slan=>
    have hI0:I=[]:=BN hIl;have hL0:L=[]:=BN hLl;refine (hN none 0 _ w).mono fun e' w' ⟨he,hw'⟩=>⟨_,he,?_,?_,?_⟩
    .exact .tup [] #[] rfl fun i h1 h2=>absurd h1 (AD _)
    .subst hw';refine eI.reblk hm fun l hρ hbk=> ?_;have hbk:=hbk.rows rfl;obtain ⟨har,gG,_⟩:=hbk.arr _ rfl;have har:cells=rows 0 get.get:=har;subst har;exact .plain ⟨hbk.typ,hbk.n,hbk.tot,fun B hB=>by obtain rfl:=Ag hB;exact ⟨rfl,hw0,fun i hi=>absurd hi (AD _)⟩,hbk.cells⟩
    grind [Ev.rewritten]
  .cases h
 .cases h
end
def CC.withE (S:CC) (f:FuncId) (F:zy->CI->Option (CA×Nat×CG×Bool)):CC:=fun g=>bif Nat.beq g f then some (.eff F) else S g
theorem x2d {P:Program} {S:CC} (hS:Zu P S) {f:FuncId} {F:zy->CI->Option (CA×Nat×CG×Bool)} (hf:(P.funcs[f]?).any (fun fn=>fn.body.isSome)=true) (hF:Gt P f F):Zu P (S.withE f F):=by
 intro g G hg;unfold CC.withE at hg;cases hgf:Nat.beq g f with
 | false=>rw [hgf] at hg;exact hS g G hg
 | true=>
  rw [hgf] at hg;obtain rfl:O8.eff F=G:=Ag hg;obtain rfl:g=f:=Ai hgf;refine ⟨?_,hF⟩
  grind
end Go.Am
namespace Go.Proofs
open Go.Proofs.Tryz
open Go.Shelf Go.RowKit Go.Lib Go.Sort
theorem Tryz.cmpEnd (a b c a' b' c':Int) (h: -1000000000<=a/\a<=1000000000) (h': -1000000000<=a'/\a'<=1000000000) (W:World):
  Calls prog 245 #[.agg #[.int .i64 a,.int .i64 b,.int .i64 c],.agg #[.int .i64 a',.int .i64 b',.int .i64 c']] W fun e w'=>e=.returned (.int .i64 (a - a'))/\ ∃q os',w'=grow (W.drewN q) os':=by
 go_enter Tryz.func245,Tryz.ntmps245
 go_wp2
 go_ret
 exact ⟨rfl,0,_,by rw [alloc_eq_grow,alloc_eq_grow,grow_grow];rfl⟩
end Go.Proofs
namespace Go.Am
open IntKind (wrap)
open Go.Proofs.Tryz
open Go.Proofs
abbrev YY (l1:zx) (l2:zx) (v12:Int):=(rd (Vt (CB l1) (CB l2)) (tn v12))
abbrev y1o (v9:zx) (v14:Int) (l1:zx) (l2:zx) (v12:Int):=(v9.set (0+(tn v14)) (R6.mk (rd v9 (0+(tn v14))).a (rd v9 (0+(tn v14))).b (rd v9 (0+(tn v14))).c (rd v9 (0+(tn v14))).d (rd v9 (0+(tn v14))).e (rd (Vt (CB l1) (CB l2)) (tn (wr (v12+1))))))
abbrev y1n (v9:zx) (v13:zu) (v15:Int) (l1:zx) (l2:zx) (v12:Int):=(v9++[(R6.mk (rd v13 (tn v15)).a (rd v13 (tn v15)).b (YY l1 l2 v12) (rd v13 (tn v15)).c (rd v13 (tn v15)).d (rd (Vt (CB l1) (CB l2)) (tn (wr (v12+1)))))])
abbrev Ws (l1:zx) (l2:zx) (v12:Int):=(CV (CB l1) (YY l1 l2 v12))
abbrev Vq (l2:zx) (l1:zx) (v12:Int):=(CV (CB l2) (YY l1 l2 v12))
abbrev v5a (v9:zx) (v13:zu) (v15:Int) (l1:zx) (l2:zx) (v12:Int):=(Zr (Zz v9) 0 v9.length 6 [(ii (rd v13 (tn v15)).a),(ii (rd v13 (tn v15)).b),(ii (YY l1 l2 v12)),(ii (rd v13 (tn v15)).c),(ii (rd v13 (tn v15)).d),(ii (rd (Vt (CB l1) (CB l2)) (tn (wr (v12+1)))))])
def w0d (l1:zx) (l2:zx):CA:=(.dat (Vt (CB l1) (CB l2)).length (Zz (Vt (CB l1) (CB l2))))
inductive Hu where
 | h0 (v9:zx) (v10:zu) (v11:Int) (v12:Int)
 | h1 (v9:zx) (v10:zu) (v11:Int) (v12:Int) (v13:zu) (v15:Int)
 | h2 (v9:zx) (v10:zu) (v11:Int) (v12:Int) (v14:Int)
def Nm (x0:Int) (l1:zx) (l2:zx):Hu->CJ
 | .h0 v9 v10 v11 v12=>⟨⟨137,0,true⟩,none,(Zk prog 113 (pn 607) 0),none,(Zy prog 104),⟨Yy [(0,(ii x0)),(1,(dt l1)),(2,(dt l2)),(8,(w0d l1 l2)),(9,(.sla 0 6 0 v9.length (.un 6))),(10,(dt v10)),(11,(ii v11)),(12,(ii v12))],Wf [(rz v9 79 6)] 0,1,[],true⟩,[],.leaf⟩
 | .h1 v9 v10 v11 v12 v13 v15=>⟨⟨137,0,true⟩,none,(Zk prog 113 (pn 651871) 0),none,(Zy prog 104),⟨Yy [(0,(ii x0)),(1,(dt l1)),(2,(dt l2)),(8,(w0d l1 l2)),(9,(.sla 0 6 0 v9.length (.un 6))),(10,(dt v10)),(11,(ii v11)),(12,(ii v12)),(13,(dt v13)),(15,(ii v15))],Wf [(rz v9 79 6)] 0,1,[],true⟩,[],.leaf⟩
 | .h2 v9 v10 v11 v12 v14=>⟨⟨137,0,true⟩,none,(Zk prog 113 (pn 2404959) 0),none,(Zy prog 104),⟨Yy [(0,(ii x0)),(1,(dt l1)),(2,(dt l2)),(8,(w0d l1 l2)),(9,(.sla 0 6 0 v9.length (.un 6))),(10,(dt v10)),(11,(ii v11)),(12,(ii v12)),(14,(ii v14))],Wf [(rz v9 79 6)] 0,1,[],true⟩,[],.leaf⟩
def j4j :List (Option zt):=[some [0,1,2,8,9,10,11,12]]
def j4l :List (Option zt):=[]
def j4i :List (Option zt):=[some [0,1,2,8,9,10,11,12,13,15]]
def j4k :List (Option zt):=[]
def LJ :List (Option zt):=[some [0,1,2,8,9,10,11,12,14]]
def LK :List (Option zt):=[]
def Ue (x0:Int) (l1:zx) (l2:zx):Hu->Xk Hu
 | .h0 v9 v10 v11 v12=>let e:=Vt (CB l1) (CB l2);let a:=rd e v12.toNat;let c:=CB (CV (CB l2) a);let d:=CB (CV (CB l1) a);let b:=DF x0 d c;(bif (decide ((wrap .i64 (v12+1))<((e.length :Nat):Int))) then (bif (QR (CB l1) a) then (bif ((decide (0<=v12/\v12<((e.length :Nat):Int)))&&true) then (bif (QR (CB l2) a) then (bif (JC x0 d c) then (bif (decide (((b.length :Nat):Int)>400)) then (.ret [.nils,(.bool false)]) else (bif (JC 2 d ([]:zu)) then (bif (decide ((((DF 2 d ([]:zu)).length :Nat):Int)>400)) then (.ret [.nils,(.bool false)]) else (bif (JC 2 c ([]:zu)) then (bif (decide ((((DF 2 c ([]:zu)).length :Nat):Int)>400)) then (.ret [.nils,(.bool false)]) else (bif (decide (v12>0)) then (bif (Wb (CB b) (CB v10)) then (bif (Uh (CB b) (CB v10)) then (.to (.h2 v9 v10 v11 v12 v11)) else (.to (.h1 v9 b (v9.length:Int) v12 b 0))) else .stuck) else (.to (.h1 v9 b (v9.length:Int) v12 b 0)))) else .stuck)) else .stuck)) else .stuck) else .stuck) else .stuck) else .stuck) else (.ret [(dt v9),(.bool (decide ((v9.length:Int)<=400)))]))
 | .h1 v9 v10 v11 v12 v13 v15=>let e:=Vt (CB l1) (CB l2);let f:=rd v13 v15.toNat;(bif (decide (v15<(v13.length:Int))) then (bif ((decide (0<=v12/\v12<((e.length :Nat):Int)))&&true) then (bif ((decide (0<=v15/\v15<(v13.length:Int)))&&true) then (bif ((decide (0<=(wrap .i64 (v12+1))/\(wrap .i64 (v12+1))<((e.length :Nat):Int)))&&true) then (bif (Nat.beq 6 6&&((decide (0+v9.length=v9.length))&&decide ((v9.length+1+1)*(48+1)<=Vg))) then (.to (.h1 (v9++[(R6.mk f.a f.b (rd e v12.toNat) f.c f.d (rd e (Int.toNat (wrap .i64 (v12+1)))))]) v10 v11 v12 v13 (wrap .i64 (v15+1)))) else .stuck) else .stuck) else .stuck) else .stuck) else (.to (.h0 v9 v10 v11 (wrap .i64 (v12+1)))))
 | .h2 v9 v10 v11 v12 v14=>let f:=rd v9 (0+v14.toNat);let g:=Vt (CB l1) (CB l2);(bif (decide (v14<(v9.length:Int))) then (bif ((decide (0<=(wrap .i64 (v12+1))/\(wrap .i64 (v12+1))<((g.length :Nat):Int)))&&true) then (bif ((decide (0<=v14/\v14<(v9.length:Int)))&&true) then (bif (decide ((0+v14.toNat)<v9.length)) then (.to (.h2 (v9.set (0+v14.toNat) (R6.mk f.a f.b f.c f.d f.e (rd g (Int.toNat (wrap .i64 (v12+1)))))) v10 v11 v12 (wrap .i64 (v14+1)))) else .stuck) else .stuck) else .stuck) else (.to (.h0 v9 v10 v11 (wrap .i64 (v12+1)))))
def XT (x0:Int) (l1:zx) (l2:zx):Xk Hu:=(bif (YK (CB l1) (CB l2)) then (.to (.h0 ([]:zx) ([]:zu) 0 0)) else .stuck)
theorem w9j (x0:Int) (l1:zx) (l2:zx): ∀s,Xh prog (Zy prog 113) (Nm x0 l1 l2) (Nm x0 l1 l2 s) (Ue x0 l1 l2 s)
 | .h0 v9 v10 v11 v12=>(lb (fun k0=>(lo fun aK=>(lo fun bH=>(lo fun cY=>(lo fun dX=>let b:=pp (xr l1) (xw aK);let c:=pp (xr l2) (xw cY);let a:=pp c (ww bH (pp b (ww bH (tt k0 nn))));let s:=Ws l1 l2 v12;let t:=Vq l2 l1 v12;let v:=pn 152159;(lb (fun k1=>(lr 137 113 v 1 104 [(6,.nils),(7,(.bool false))] (sl FM 50 [] (b8 [6,7]) b7 (CL 20 []) (tt k1 (pp (pp (xI R4 s.length (Zz s)) (pp (xI R4 t.length (Zz t)) (xw dX))) a))))) (fun k1=>(lo fun bS=>(lb (fun k2=>let d:=xI R4 s.length (Zz s);(lr 137 113 v 1 104 [(6,.nils),(7,(.bool false))] (sl FM 50 [] (b8 [6,7]) b7 (bl 20 1047553) (tt k2 (pp (pp d (pp (xI R4 0 (fun _=>[])) (xw bS))) (pp b (ww bH (tt k1 (pp (pp d (pp (xI R4 t.length (Zz t)) (xw dX))) a))))))))) (fun k2=>(lo fun cT=>(lb (fun k3=>let e:=xI R4 s.length (Zz s);let j:=xI R4 t.length (Zz t);let o:=xI R4 0 (fun _=>[]);(lr 137 113 v 1 104 [(6,.nils),(7,(.bool false))] (sl FM 50 [] (b8 [6,7]) b7 (bl 20 524289) (tt k3 (pp (pp j (pp o (xw cT))) (pp c (ww bH (tt k2 (pp (pp e (pp o (xw bS))) (pp b (ww bH (tt k1 (pp (pp e (pp j (xw dX))) a))))))))))))) (fun k3=>(lb (fun k4=>(lo fun dC=>let r:=pp (xr v10) (xw dC);let u:=DF x0 (CB s) (CB t);(lb (fun k5=>let f:=xI R4 s.length (Zz s);let l:=xI R4 t.length (Zz t);let p:=xI R4 0 (fun _=>[]);(sl FM 66 [] ⟨[0],[],LJ,LK⟩ b7 (bl 24 15728641) (pp (fl v9 nn) (tt k5 (pp (pp (xI R4 u.length (Zz u)) r) (tt k4 (tt k3 (pp (pp l (pp p (xw cT))) (pp c (ww bH (tt k2 (pp (pp f (pp p (xw bS))) (pp b (ww bH (tt k1 (pp (pp f (pp l (xw dX))) a)))))))))))))))) (fun k5=>let g:=xI R4 s.length (Zz s);let m:=xI R4 t.length (Zz t);let q:=xI R4 0 (fun _=>[]);(sl FM 73 [] ⟨[0],[],j4i,j4k⟩ b7 (bl 24 7340033) (pp (fl v9 nn) (tt k5 (pp (pp (xI R4 u.length (Zz u)) r) (tt k4 (tt k3 (pp (pp m (pp q (xw cT))) (pp c (ww bH (tt k2 (pp (pp g (pp q (xw bS))) (pp b (ww bH (tt k1 (pp (pp g (pp m (xw dX))) a))))))))))))))))))) (fun k4=>let h:=xI R4 s.length (Zz s);let i:=xI R4 t.length (Zz t);let n:=xI R4 0 (fun _=>[]);(sl FM 73 [] ⟨[0],[],j4i,j4k⟩ b7 (bl 24 1) (pp (fl v9 nn) (tt k4 (tt k3 (pp (pp i (pp n (xw cT))) (pp c (ww bH (tt k2 (pp (pp h (pp n (xw bS))) (pp b (ww bH (tt k1 (pp (pp h (pp i (xw dX))) a)))))))))))))))))))))))))))) (fun k0=>(lr 137 3 (pn 191) 1 104 [(6,(dt v9)),(7,(.bool (decide ((v9.length:Int)<=400))))] (sl FM 20 [] ⟨[],[0],[some [6,7]],[]⟩ ⟨[(6,.frz v9.length v9.length (Zz v9) (Zz v9))],[],[]⟩ [false] (pp (xZ (DE 6 6 0 v9.length v9.length (Zz v9)) v9.length (Zz v9)) (pp (xL v9.length v9.length) (pp (xS v9.length (Zz v9) (Zz v9)) (pp (fl v9 nn) (tt k0 nn)))))))))
 | .h1 v9 v10 v11 v12 v13 v15=>(lb (fun k0=>(lo fun o0=>(lo fun o1=>(lo fun o2=>(lo fun o3=>let c:=y1n v9 v13 v15 l1 l2 v12;let e:=v9.length+1;let a:=xL e c.length;let b:=c;let d:=v5a v9 v13 v15 l1 l2 v12;(sl FM 20 [] ⟨[2],[],j4i,j4k⟩ ⟨[(9,.len b.length)],[.rowed 6 b.length (Zz b)],[]⟩ [true] (pp a (pp a (pp (xS e d (Zz c)) (pp (pp (xF d) nn) (ww o3 (ww o2 (ww o1 (ww o1 (ww o0 (ww o1 (ww o1 (tt k0 nn)))))))))))))))))) (fun k0=>(sl FM 17 [] ⟨[0],[],j4j,j4l⟩ b7 [false] (pp (fl v9 nn) (tt k0 nn)))))
 | .h2 v9 v10 v11 v12 v14=>(lb (fun k0=>(lo fun o0=>(lo fun o1=>(lo fun o2=>let d:=y1o v9 v14 l1 l2 v12;let a:=xL v9.length d.length;let b:=d;let c:=Xg (Zz v9) (0+(tn v14)) 5 [(ii (rd (Vt (CB l1) (CB l2)) (tn (wr (v12+1)))))];(sl FM 32 [] ⟨[0],[],LJ,LK⟩ ⟨[(9,.len b.length)],[.rowed 6 b.length (Zz b)],[]⟩ [true] (pp a (pp a (pp (xS v9.length c (Zz d)) (pp (pp (xF c) nn) (ww o2 (ww o1 (ww o0 (tt k0 nn))))))))))))) (fun k0=>(sl FM 17 [] ⟨[0],[],j4j,j4l⟩ b7 [false] (pp (fl v9 nn) (tt k0 nn)))))
theorem w0c (x0:Int) (l1:zx) (l2:zx):Xh prog (Zy prog 113) (Nm x0 l1 l2) (Zb prog 113 [(.int .i64 x0),(dt l1),(dt l2)] true []) (XT x0 l1 l2):=(lo fun o0=>(sl FM 31 [(79,6,Zz ([]:zx))] ⟨[0],[],j4j,j4l⟩ ⟨[(9,.grow 0 6),(10,.list 0 (Zz ([]:zu)))],[],[]⟩ [] (pp (fl ([]:zx) nn) (pp (pp (xr l1) (pp (xr l2) (xw o0))) nn))))
theorem u2j (x0:Int) (l1:zx) (l2:zx) (n:Nat) (vs:zy) (h:Yj (Ue x0 l1 l2) n (XT x0 l1 l2)=.ret vs):Ji prog (Zy prog 113) (Zb prog 113 [(.int .i64 x0),(dt l1),(dt l2)] true []) vs:=by have:=Zf (w9j x0 l1 l2) n _ (w0c x0 l1 l2);rwa [h] at this
theorem Qa (l m:zx):(Vt l m).length <=2*l.length+2*m.length:=by
 refine AI (z7l _) ?_
 grind [z4m]
theorem WP (l:zx) (z:Int):(CV l z).length <=l.length:=by
 grind [CV]
def Gx (out:zx) (first:Nat) (z:Int):zx:=out.take first++(out.drop first).map fun r=>⟨r.a,r.b,r.c,r.d,r.e,z⟩
def Oe (z z':Int) (s:zu):zx:=s.map fun p=>⟨p.a,p.b,z,p.c,p.d,z'⟩
section
variable (kind:Int) (l m:zx)
def EQ (z:Int):zu:=DF kind (CV l z) (CV m z)
def Fo (z:Int):Bool:=decide (400<(EQ kind l m z).length)||(decide (400<(DF 2 (CV l z) []).length)||decide (400<(DF 2 (CV m z) []).length))
def Lq :Nat->Nat->zx->zu->Nat->Option zx
 | 0,_,out,_,_=>some out
 | k+1,i,out,last,first=>
  bif Fo kind l m (rd (Vt l m) i) then none
  else bif decide (0<i)&&Uh (EQ kind l m (rd (Vt l m) i)) last then Lq k (i+1) (Gx out first (rd (Vt l m) (i+1))) last first
  else Lq k (i+1) (out++Oe (rd (Vt l m) i) (rd (Vt l m) (i+1)) (EQ kind l m (rd (Vt l m) i))) (EQ kind l m (rd (Vt l m) i)) out.length
def Lp :Option zx:=Lq kind l m ((Vt l m).length - 1) 0 [] [] 0
def NI :Option zx->zy
 | none=>[.nils,.bool false]
 | some out=>[.dat out.length (Zz out),.bool (decide ((out.length:Int)<=400))]
def E8 :zx:=(Lp kind l m).getD []
def JQ :Bool:=match Lp kind l m with
 | none=>false
 | some out=>decide ((out.length:Int)<=400)
end
def U3 (l:zx):Prop:=l.length<=40000/\ ∀z,(CV l z).length <=5000
theorem j0t {l:zx} (h:l.length<=5000):U3 l:=⟨by omega,fun z=>AI (WP l z) h⟩
def Ru (_:Int) (l m:zx):Bool:=pd (U3 l/\U3 m)
theorem O3 {k:Int} {l m:zx} (hl:l.length<=5000) (hm:m.length<=5000):Ru k l m=true:=Xo ⟨j0t hl,j0t hm⟩
section
variable (kind:Int) (l m:zx) (hl:U3 l) (hm:U3 m)
include hl hm
theorem u9a (last:zu) (first:Int) (i:Nat) (hi:i+1<(Vt l m).length) (s:zu) (hs:s.length<=1000000): ∀(k j:Nat) (out:zx),j+k=s.length->out.length<=10000000000+j->
  ∃n,∀N,Yj (Ue kind l m) (N+n) (.to (.h1 out last first (i:Int) s (j:Int)))=Yj (Ue kind l m) N (.to (.h0 (out++Oe (rd (Vt l m) i) (rd (Vt l m) (i+1)) (s.drop j)) last first ((i+1:Nat):Int)))
 | 0,j,out,h,ho=>by
  have hx:=Qa l m;have hl1:=hl.1;have hm1:=hm.1;refine ⟨1,fun N=> ?_⟩
  grind [Zx,Ue,Zq,Oe]
 | k+1,j,out,h,ho=>by
  have hx:=Qa l m;have hl1:=hl.1;have hm1:=hm.1;obtain ⟨n,hn⟩:=u9a last first i hi s hs k (j+1) (out++Oe (rd (Vt l m) i) (rd (Vt l m) (i+1)) [rd s j]) (by omega) (by simp [Oe];omega)
  refine ⟨n+1,fun N=> ?_⟩;have:=hn N;rw [Yn (show j<s.length by omega),<-AK,Zx];simp (disch:=omega) only [Ue,Zd,Zp,Zt,Zn,Yd,Yg,Zh,Zq,Zv,Yb,Zj,Ah,Au,Aj,Al,Ab];rw [AH] at this;exact this
omit hl hm in
theorem u5q (out:zx) (j:Nat) (x:Int) (h:j<out.length):Gx (out.set j ⟨(rd out j).a,(rd out j).b,(rd out j).c,(rd out j).d,(rd out j).e,x⟩) (j+1) x=Gx out j x:=by
 unfold Gx;rw [Yn h,AT];have e1:(out.set j ⟨(rd out j).a,(rd out j).b,(rd out j).c,(rd out j).d,(rd out j).e,x⟩).take (j+1)=out.take j++[⟨(rd out j).a,(rd out j).b,(rd out j).c,(rd out j).d,(rd out j).e,x⟩]:=by
  apply BO
  .simp;omega
  .intro n h1 h2;simp only [BM,List.getElem_set];by_cases e:j=n
   .subst e;rw [AF rfl,BH (by simp only [Bt];omega)];simp
   .rw [Az e,BK (by simp at h1 ⊢;omega),BM]
 have e2:(out.set j ⟨(rd out j).a,(rd out j).b,(rd out j).c,(rd out j).d,(rd out j).e,x⟩).drop (j+1)=out.drop (j+1):=by rw [List.drop_set];rw [AF (by omega)]
 rw [e1,e2,AH];rfl
theorem u8z (last:zu) (first:Int) (i:Nat) (hi:i+1<(Vt l m).length): ∀(k j:Nat) (out:zx),j+k=out.length->out.length<=10000000000->
  ∃n,∀N,Yj (Ue kind l m) (N+n) (.to (.h2 out last first (i:Int) (j:Int)))=Yj (Ue kind l m) N (.to (.h0 (Gx out j (rd (Vt l m) (i+1))) last first ((i+1:Nat):Int)))
 | 0,j,out,h,ho=>by
  have hx:=Qa l m;have hl1:=hl.1;have hm1:=hm.1;refine ⟨1,fun N=> ?_⟩;have e:Gx out j (rd (Vt l m) (i+1))=out:=by
   grind [Gx]
  grind [Zx,Ue,Zq]
 | k+1,j,out,h,ho=>by
  have hx:=Qa l m;have hl1:=hl.1;have hm1:=hm.1;obtain ⟨n,hn⟩:=u8z last first i hi k (j+1) (out.set j ⟨(rd out j).a,(rd out j).b,(rd out j).c,(rd out j).d,(rd out j).e,rd (Vt l m) (i+1)⟩) (by simp;omega) (by grind)
  refine ⟨n+1,fun N=> ?_⟩;have:=hn N;rw [u5q out j _ (by omega)] at this;rw [<-AK,Zx];simp (disch:=omega) only [Ue,Zd,Zp,Zt,Zn,Yp,Yd,Yg,Zh,Zq,Zv,Yb,Zj,Ah,Au,Aj,Al,Ab];exact this
theorem v4z : ∀(k i:Nat) (out:zx) (last:zu) (first:Nat),k=(Vt l m).length - 1 - i->i<=(Vt l m).length ->out.length<=i*400->last.length<=400->first<=out.length->
  ∃n,Yj (Ue kind l m) n (.to (.h0 out last (first:Int) (i:Int)))=.ret (NI (Lq kind l m k i out last first))
 | 0,i,out,last,first,h,hi,ho,hla,hf=>by
  have hx:=Qa l m;have hl1:=hl.1;have hm1:=hm.1;refine ⟨1,?_⟩
  grind [Zx,Ue,Zd,Zq,Zc,Lq,NI]
 | k+1,i,out,last,first,h,hi,ho,hla,hf=>by
  have hx:=Qa l m;have hl1:=hl.1;have hm1:=hm.1;have hi1:i+1<(Vt l m).length :=by omega
  have hbig:i*400<=160000*400:=AE _ (by omega);have a1:=fun z=>hl.2 z;have a2:=fun z=>hm.2 z;have w1: ∀z,QR l z=true:=fun z=>Af (by omega);have w2: ∀z,QR m z=true:=fun z=>Af (by omega);have w3: ∀k z,JC k (CV l z) (CV m z)=true:=fun k z=>Af (by grind);have w4: ∀k z,JC k (CV l z) ([]:zu)=true:=fun k z=>Af (by grind);have w5: ∀k z,JC k (CV m z) ([]:zu)=true:=fun k z=>Af (by grind);unfold Lq;have fQ:EQ kind l m (rd (Vt l m) i)=DF kind (CV l (rd (Vt l m) i)) (CV m (rd (Vt l m) i)):=rfl;by_cases c1:400<(EQ kind l m (rd (Vt l m) i)).length
  .refine ⟨1,?_⟩;have hb:Fo kind l m (rd (Vt l m) i)=true:=by grind [Fo]
   rw [hb,Ab,Zx];rw [fQ] at c1;simp (disch:=omega) only [Ue,Zd,Zp,Zt,Yo,Zn,Zq,Zv,Zj,w1,w2,w3,w4,w5,Aj,Ab,Zc,NI]
  by_cases c2:400<(DF 2 (CV l (rd (Vt l m) i)) []).length
  .refine ⟨1,?_⟩;have hb:Fo kind l m (rd (Vt l m) i)=true:=by grind [Fo]
   rw [hb,Ab,Zx];rw [fQ] at c1;simp (disch:=omega) only [Ue,Zd,Zp,Zt,Yo,Xb,Zn,Zq,Zv,Zj,w1,w2,w3,w4,w5,Aj,Ab,Aa,Zc,NI]
  by_cases c3:400<(DF 2 (CV m (rd (Vt l m) i)) []).length
  .refine ⟨1,?_⟩;have hb:Fo kind l m (rd (Vt l m) i)=true:=by grind [Fo]
   rw [hb,Ab,Zx];rw [fQ] at c1;simp (disch:=omega) only [Ue,Zd,Zp,Zt,Yo,Xb,Zn,Zq,Zv,Zj,w1,w2,w3,w4,w5,Aj,Ab,Aa,Zc,NI]
  have hb:Fo kind l m (rd (Vt l m) i)=false:=by grind [Fo]
  rw [hb,Aa];have w6:Wb (DF kind (CV l (rd (Vt l m) i)) (CV m (rd (Vt l m) i))) last=true:=Af (by grind);rcases Xw (decide (0<i)&&Uh (EQ kind l m (rd (Vt l m) i)) last) with q | q
  .obtain ⟨n3,h3⟩:=u8z kind l m hl hm last first i hi1 (out.length - first) first out (by omega) (by omega)
   obtain ⟨n0,h0⟩:=v4z k (i+1) (Gx out first (rd (Vt l m) (i+1))) last first (by omega) (by omega) (by simp [Gx];omega) hla (by simp [Gx];omega)
   refine ⟨n0+n3+1,?_⟩;rw [q,Ab,Zx];simp only [Ac,Ao] at q;obtain ⟨q1,q2⟩:=q;rw [fQ] at c1 q2;simp (disch:=omega) only [Ue,Zd,Zp,Zt,Yo,Xb,Zn,Zq,Zv,Zj,w1,w2,w3,w4,w5,w6,q2,Aj,Ab,Aa]
   grind
  .obtain ⟨n2,h2⟩:=u9a kind l m hl hm (EQ kind l m (rd (Vt l m) i)) (out.length:Int) i hi1 (EQ kind l m (rd (Vt l m) i)) (by omega) (EQ kind l m (rd (Vt l m) i)).length 0 out (Ah _) (by omega);obtain ⟨n0,h0⟩:=v4z k (i+1) (out++Oe (rd (Vt l m) i) (rd (Vt l m) (i+1)) (EQ kind l m (rd (Vt l m) i))) (EQ kind l m (rd (Vt l m) i)) out.length (by omega) (by omega) (by simp [Oe];omega) (by omega) (by simp);refine ⟨n0+n2+1,?_⟩;rw [q,Aa,Zx];have h2':=h2 n0;simp only [AR,EB] at h2';have c1':=c1;rw [fQ] at c1';by_cases hi0:0<i
   .rw [Af hi0,Al,fQ] at q;simp (disch:=omega) only [Ue,Zd,Zp,Zt,Yo,Xb,Zn,Zq,Zv,Zj,w1,w2,w3,w4,w5,w6,q,Aj,Ab,Aa]
    grind
   .simp (disch:=omega) only [Ue,Zd,Zp,Zt,Yo,Xb,Zn,Zq,Zv,Zj,w1,w2,w3,w4,w5,w6,Aj,Ab,Aa]
    grind
end
theorem j4h (kind:Int) (l m:zx) (h:Ru kind l m=true): ∃N,Yj (Ue kind l m) N (XT kind l m)=.ret (NI (Lp kind l m)):=by obtain ⟨hl,hm⟩:=Jo h;have hl1:=hl.1;have hm1:=hm.1;obtain ⟨N,hN⟩:=v4z kind l m hl hm ((Vt l m).length - 1) 0 [] [] 0 rfl (AA _) (AA _) (AA _) (Aq _);refine ⟨N,?_⟩;have w1:YK l m=true:=Af ⟨by omega,by omega⟩;simp only [XT,Zd,Zp,w1,Ab];exact hN
def fJs :zy->Option (CA×Bool)
 | [.int .i64 x0,a1,a2]=>match C4 R6 a1,C4 R6 a2 with
  | some (L1,g1,n1),some (L2,g2,n2)=>some (.tup [.dat (E8 x0 L1 L2).length (Zz (E8 x0 L1 L2)),.bool (JQ x0 L1 L2)],CU R6 n1 g1&&(CU R6 n2 g2&&(Ru x0 L1 L2)))
  | _,_=>none
 | _=>none
theorem P9 {S:CC} (hS:Zu prog S):Zu prog (S.with j0g fJs):=by
 refine GR hS (by kernel_rfl) fun args v h=> ?_;unfold fJs at h;split at h
 .rename_i x0 a1 a2;split at h
  .rename_i L1 g1 n1 L2 g2 n2 e1 e2;simp only [Ae,Ad,Ac] at h;obtain ⟨rfl,ho1,ho2,hw⟩:=h;obtain ⟨N,hN⟩:=j4h x0 L1 L2 hw;refine ⟨_,NI (Lp x0 L1 L2),(.cons (.refl _) (.cons (Xy e1 ho1) (.cons (Xy e2 ho2) .nil))),?_,u2j x0 L1 L2 N _ hN,3,?_⟩
   .unfold E8 JQ;cases Lp x0 L1 L2 with
    | none=>exact fun ρ u hu=>FJ (.cons (MY R6) (DJ.refl _)) ρ u hu
    | some out=>exact fun ρ u hu=>hu
   .cases Lp x0 L1 L2 <;> rfl
  .cases h
 .cases h
def T4 :CC:=T3.with j0g fJs
theorem VU :Zu prog T4:=P9 FM
open Go.Sort Go.Shelf Go.RowKit Go.Lib
def O9 (x:E3):List Value:=FS x.1
theorem j9b (l:zo) (h:DS l=true):Go.Sort.flatK O9 3 (EE l h).toArray =Go.Sort.flatK FS 3 l.toArray:=by
 have hl:=Qb l h;unfold Go.Sort.flatK;rw [show (EE l h).toArray.size =l.toArray.size by simpa using hl];apply Array.ext
 .simp
 .intro t h1 h2;simp only [Array.getElem_map,Array.getElem_range];have ht:t<l.length*3:=by simpa using h1
  have hq:t / 3<l.length:=by omega
  congr 1
  rw [getElem!_pos (EE l h).toArray (t / 3) (by simpa [hl] using hq),getElem!_pos l.toArray (t / 3) (by simpa using hq)];unfold O9
  congr 1
  have:=W8 l h;have e:=Av (fun z:zo=>z[t / 3]?) this;simp only [BU] at e;rw [At (by rw [hl];exact hq),At hq] at e
  simpa using e
theorem u5f (d:Array E3):Go.Sort.flatK O9 3 d=Go.Sort.flatK FS 3 (d.toList.map Subtype.val).toArray :=by
 unfold Go.Sort.flatK;rw [show d.size=(d.toList.map Subtype.val).toArray.size by simp];apply Array.ext
 .simp
 .intro t h1 h2;simp only [Array.getElem_map,Array.getElem_range];have ht:t<d.size*3:=by simpa using h1
  have hq:t / 3<d.size:=by omega
  congr 1
  rw [getElem!_pos d (t / 3) hq,getElem!_pos (d.toList.map Subtype.val).toArray (t / 3) (by simpa using hq)];simp [O9]
theorem z9v (l:zo):H0 l.length (Ck (CB l)).length =true:=Jj (by
 rw [Zd];by_cases h:DS l=true
 .exact (Qo l h).1.length_eq.symm
 .unfold Ck;rw [dif_neg h])
theorem isAgg3 : ∀w,(isAgg (Tryz.sortEnd_ren.t 24)).run prog w=.ok true w:=fun w=>by rfl
theorem Ts : ∀w,(Go.sizeOf (Tryz.sortEnd_ren.t 24)).run prog w=.ok 3 w:=fun w=>by rfl
theorem v3u :Gt prog j0b (ZA R3 Ck DS w6g):=by
 refine v8v (fun L=> ?_) (fun blk off cap L w hb hH fU hsz=> ?_) fun p cap fv w=>AnyF.slices_SortFunc_none Tryz.sortEnd p cap fv w
 .by_cases h:DS L=true
  .exact (Qo L h).1.length_eq
  .unfold Ck;rw [dif_neg h]
 .have eg: ∀args w,(callFunc 245 args).run prog w=.ok (.enter 245 args) w:=enters_of Tryz.func245 (by kernel_rfl) rfl;have hcmp:CmpLays prog 245 #[] O9 3 Py blk off (EE L hb).toArray.size w:=fun m os dk _ x y=>by have hx:=Ay x.2;have hy:=Ay y.2;exact Tryz.cmpEnd x.1.a x.1.b x.1.c y.1.a y.1.b y.1.c hx hy _
  have hH':HoldsK O9 3 w blk off (EE L hb).toArray :=by unfold HoldsK;rw [j9b L hb];exact hH
  have hcon:=AnyQ.slices_SortFunc_eq Tryz.sortEnd 3 isAgg3 Ts O9 (fun x=>w3l x.1) (fun x v hv=>by
   obtain ⟨a,ha,rfl⟩:=A2.1 hv;have:NH a=true:=As.1 (j1r.num x.1) a ha;cases a <;> first | rfl | (simp [NH] at this;done)) Py Tn 245 #[] blk off cap (EE L hb).toArray w eg hcmp hH' fU (by simpa [Qb] using hsz)
  have hs:(EE L hb).toArray.size =L.length:=by simp [Qb]
  rw [hs] at hcon;refine Calls.mono hcon fun e w' ⟨he,n,os,hw⟩=>⟨he,n,os,?_⟩
  rw [hw];unfold sortWorldK putRowK;rw [u5f];unfold Ck;rw [dif_pos hb];rfl
def Wj (zs:zq):zq:=zs.mergeSort fun x y=>decide (x<=y)
theorem v3t :Gt prog Lb (Ic Wj):=
 j9d (fun zs=>List.length_mergeSort zs) (fun blk off cap zs w hH hb hz=>Tryz.slices_Sort_int blk off cap zs w hH hb hz) fun p cap w=>Tryz.slices_Sort_int_none p cap w
def Wt (zs:zq):zq:=compact zs++List.replicate (zs.length - (compact zs).length) 0
def Ls (zs:zq):Nat:=(compact zs).length
theorem Qp (zs:zq):(Wt zs).length =zs.length:=by have:=compact_length_le zs;simp [Wt];omega
theorem SQ (n:Nat) (c:Nat->Int):H0 n (Wt (Yq n c)).length =true:=Jj (by rw [Qp];simp [Yq])
theorem v7s (w:World):grow w #[]=w:=by simp [grow]
theorem w3t :Gt prog w6h (Ig Wt Ls):=
 j9e (fun zs=>by have:=compact_length_le zs;simp [Wt];omega) (fun zs=>compact_length_le zs)
  (fun blk off cap zs w hH hb hz eT=>(Tryz.slices_Compact_int blk off cap zs w hH (by omega) eT).mono fun e w' ⟨he,q,hw⟩=>⟨he,q, #[],by rw [hw,v7s];rfl⟩)
  fun p cap w=>Tryz.slices_Compact_int_empty p cap w
def T5 :CC:=((T4.withE j0b (ZA R3 Ck DS w6g)).withE Lb (Ic Wj)).withE w6h (Ig Wt Ls)
theorem DW :Zu prog T5:=x2d (x2d (x2d VU (by kernel_rfl) v3u) (by kernel_rfl) v3t) (by kernel_rfl) w3t
abbrev Vj (aE:zp) (bA:Int) (v5:zo) (v7:Int):=(aE++[(R2.mk bA (rd v5 (0+(tn v7))).a)])
abbrev Iy (aE:zp) (bA:Int) (v5:zo) (v7:Int):=(Zr (Zz aE) 0 aE.length 2 [(ii bA),(ii (rd v5 (0+(tn v7))).a)])
abbrev y1f (v3:zo) (l0:zp) (v17:Int):=(v3++[(R3.mk (rd l0 (tn v17)).a 0 1),(R3.mk (rd l0 (tn v17)).b 0 (-1))])
def v3p (l0:zp):Cd:=⟨⟨11,0,true⟩,(Wz prog 200 (pn 23) 1),(Zk prog 200 (pn 23) 1),none,(Zy prog 10),Yy [(9,(.dat l0.length (Zz l0)))]⟩
inductive Hd where
 | h0 (v8:Int)
 | h1 (v3:zo) (v17:Int)
 | h2 (v5:zo) (v6:Int) (v7:Int) (aB:Int) (bM:Int) (bA:Int) (aG:Bool) (aE:zp)
def NZ (l0:zp):Hd->CJ
 | .h0 v8=>⟨⟨19,0,true⟩,none,(Zk prog 242 (pn 37) 0),none,(Zy prog 3),⟨Yy [(0,(dt l0)),(1,(.fn 227 [])),(7,(ii (l0.length:Int))),(8,(ii v8))],Wf [] 0,0,[],true⟩,[⟨⟨9,0,true⟩,(Wz prog 226 [1,0] 2),(Zk prog 226 [1,0] 1),none,(Zy prog 3),Yy [(5,(dt l0)),(6,(.fn 227 []))]⟩,⟨⟨11,0,true⟩,(Wz prog 200 (pn 19) 1),(Zk prog 200 (pn 19) 1),none,(Zy prog 10),Yy [(0,(dt l0)),(7,(dt l0))]⟩],.leaf⟩
 | .h1 v3 v17=>⟨⟨38,0,true⟩,none,(Zk prog 233 (pn 19659) 0),none,(Zy prog 9),⟨Yy [(3,(.sla 7 3 0 v3.length (.un 3))),(4,(ii 0)),(8,(.sl 0 0 2 (.un 1))),(9,(ii 2)),(10,(ii 0)),(15,(dt l0)),(16,(ii (l0.length:Int))),(17,(ii v17))],Wf [⟨[(dt l0),.nils],233,none⟩,⟨[(.fn 229 [])],245,none⟩,⟨[(ii 0),(ii 0)],307,none⟩,⟨[.nils],233,none⟩,⟨[(ii 0)],3,none⟩,⟨[(.bool false)],4,none⟩,⟨[(.fn 232 [(.ptr 5 0),(.ptr 4 0),(.ptr 3 0)])],180,none⟩,(rz v3 311 3)] 0,8,[],true⟩,[⟨⟨42,0,true⟩,(Wz prog 205 (pn 159) 3),(Zk prog 205 (pn 159) 1),none,(Zy prog 7),Yy [(5,(.ptr 1 0)),(6,.nils),(7,(.ptr 2 0)),(8,(.ptr 3 0)),(9,(.ptr 4 0)),(10,(.ptr 5 0)),(11,(.ptr 6 0)),(16,(.sl 0 0 2 (.un 1)))]⟩,(v3p l0)],.leaf⟩
 | .h2 v5 v6 v7 aB bM bA aG aE=>⟨⟨16,0,true⟩,none,(Zk prog 249 [1,0,0] 0),none,[],⟨Yy [(0,(.yld 0)),(5,(.sla 7 3 0 v5.length (.un 3))),(6,(ii v6)),(7,(ii v7))],Cs [(1,⟨[(.fn 229 [])],245,none⟩),(2,⟨[(ii aB),(ii bM)],307,none⟩),(3,⟨[(ii bA)],3,none⟩),(4,⟨[(.bool aG)],4,none⟩),(5,⟨[(.fn 232 [(.ptr 4 0),(.ptr 3 0),(.ptr 6 0)])],180,none⟩),(6,⟨[(.sla 8 2 0 aE.length (.un 2))],233,none⟩),(7,(rz v5 311 3)),(8,(rz aE 260 2))],9,[],true⟩,[⟨⟨42,0,true⟩,none,(.inRangeFunc 0::(Zk prog 205 (pn 351) 1)),none,(Zy prog 7),Yy [(6,.nils),(8,(.ptr 6 0))]⟩,(v3p l0)],(DA [(0,⟨.ready,none,42,Yy [(5,(.ptr 1 0)),(7,(.ptr 2 0)),(9,(.ptr 3 0)),(10,(.ptr 4 0)),(11,(.ptr 5 0))],[18],(Xt prog 205 [1,1,1,1,1,0,1,0,0]),(Xt prog 205 [1,1,1,1,1,0,1,0,1])⟩)])⟩
def J6 :List (Option zt):=[some [0,1,7,8],some [5,6],some [0,7]]
def J7 :List (Option zt):=[]
def Tj :List (Option zt):=[some [3,4,8,9,10,15,16,17],some [5,6,7,8,9,10,11,16],some [9]]
def Ti :List (Option zt):=[]
def GO :List (Option zt):=[some [0,5,6,7],some [6,8],some [9]]
def GN :List (Option zt):=[some [5,7,9,10,11],none,none,none,none,none,none,none,none]
def Jp (l0:zp):Hd->Xk Hd
 | .h0 v8=>let c:=rd l0 v8.toNat;(bif (decide (v8<(l0.length:Int))) then (bif ((decide (0<=v8/\v8<(l0.length:Int)))&&true) then (bif (decide (c.a <c.b)) then (bif (decide (c.a >=(-1000000))) then (bif (!(decide (c.b <=1000000))) then (bif (decide (v8>=0)) then (.ret [.nils,(.int .i64 8)]) else (.to (.h1 ([]:zo) 0))) else (.to (.h0 (wrap .i64 (v8+1))))) else (bif (decide (v8>=0)) then (.ret [.nils,(.int .i64 8)]) else (.to (.h1 ([]:zo) 0)))) else (bif (decide (v8>=0)) then (.ret [.nils,(.int .i64 8)]) else (.to (.h1 ([]:zo) 0)))) else .stuck) else (.to (.h1 ([]:zo) 0)))
 | .h1 v3 v17=>let c:=rd l0 v17.toNat;(bif (decide (v17<(l0.length:Int))) then (bif ((decide (0<=v17/\v17<(l0.length:Int)))&&true) then (bif (Nat.beq 3 3&&((decide (0+v3.length=v3.length))&&decide ((v3.length+2+1)*(24+1)<=Vg))) then (.to (.h1 (v3++[(R3.mk c.a 0 1),(R3.mk c.b 0 (-1))]) (wrap .i64 (v17+1)))) else .stuck) else .stuck) else (bif (DS (CB v3)) then (bif (decide (v3.length<4611686018427387904)) then (bif (decide (v3.length=v3.length)) then (.to (.h2 (Ck (CB v3)) (v3.length:Int) 0 0 0 0 false ([]:zp))) else .stuck) else .stuck) else .stuck))
 | .h2 v5 v6 v7 aB bM bA aG aE=>let d:=rd v5 (0+v7.toNat);(bif (decide (v7<v6)) then (bif ((decide (0<=v7/\v7<(v5.length:Int)))&&true) then (bif (decide ((0+v7.toNat)<v5.length)) then (bif (!aG) then (bif (decide (d.b =Int.ofNat 0)) then (.to (.h2 v5 v6 (wrap .i64 (v7+1)) (wrap .i64 (aB+d.c)) bM d.a (Ex (decide ((wrap .i64 (aB+d.c))>0)) (decide (bM>0))) aE)) else (bif (decide (d.b =Int.ofNat 1)) then (.to (.h2 v5 v6 (wrap .i64 (v7+1)) aB (wrap .i64 (bM+d.c)) d.a (Ex (decide (aB>0)) (decide ((wrap .i64 (bM+d.c))>0))) aE)) else .stuck)) else (bif (bA == d.a) then (bif (decide (d.b =Int.ofNat 0)) then (.to (.h2 v5 v6 (wrap .i64 (v7+1)) (wrap .i64 (aB+d.c)) bM d.a (Ex (decide ((wrap .i64 (aB+d.c))>0)) (decide (bM>0))) aE)) else (bif (decide (d.b =Int.ofNat 1)) then (.to (.h2 v5 v6 (wrap .i64 (v7+1)) aB (wrap .i64 (bM+d.c)) d.a (Ex (decide (aB>0)) (decide ((wrap .i64 (bM+d.c))>0))) aE)) else .stuck)) else (bif (decide ((aE.length:Int)>0)) then (bif ((decide (0<=(wrap .i64 ((aE.length:Int) - 1))/\(wrap .i64 ((aE.length:Int) - 1))<(aE.length:Int)))&&true) then (bif (decide ((0+(Int.toNat (wrap .i64 ((aE.length:Int) - 1))))<aE.length)) then (bif ((rd aE (0+(Int.toNat (wrap .i64 ((aE.length:Int) - 1))))).b == bA) then (bif (decide (d.b =Int.ofNat 0)) then (.to (.h2 v5 v6 (wrap .i64 (v7+1)) (wrap .i64 (aB+d.c)) bM d.a (Ex (decide ((wrap .i64 (aB+d.c))>0)) (decide (bM>0))) (aE.set (0+(Int.toNat (wrap .i64 ((aE.length:Int) - 1)))) (R2.mk (rd aE (0+(Int.toNat (wrap .i64 ((aE.length:Int) - 1))))).a d.a)))) else (bif (decide (d.b =Int.ofNat 1)) then (.to (.h2 v5 v6 (wrap .i64 (v7+1)) aB (wrap .i64 (bM+d.c)) d.a (Ex (decide (aB>0)) (decide ((wrap .i64 (bM+d.c))>0))) (aE.set (0+(Int.toNat (wrap .i64 ((aE.length:Int) - 1)))) (R2.mk (rd aE (0+(Int.toNat (wrap .i64 ((aE.length:Int) - 1))))).a d.a)))) else .stuck)) else (bif (Nat.beq 2 2&&((decide (0+aE.length=aE.length))&&decide ((aE.length+1+1)*(16+1)<=Vg))) then (bif (decide (d.b =Int.ofNat 0)) then (.to (.h2 v5 v6 (wrap .i64 (v7+1)) (wrap .i64 (aB+d.c)) bM d.a (Ex (decide ((wrap .i64 (aB+d.c))>0)) (decide (bM>0))) (aE++[(R2.mk bA d.a)]))) else (bif (decide (d.b =Int.ofNat 1)) then (.to (.h2 v5 v6 (wrap .i64 (v7+1)) aB (wrap .i64 (bM+d.c)) d.a (Ex (decide (aB>0)) (decide ((wrap .i64 (bM+d.c))>0))) (aE++[(R2.mk bA d.a)]))) else .stuck)) else .stuck)) else .stuck) else .stuck) else (bif (Nat.beq 2 2&&((decide (0+aE.length=aE.length))&&decide ((aE.length+1+1)*(16+1)<=Vg))) then (bif (decide (d.b =Int.ofNat 0)) then (.to (.h2 v5 v6 (wrap .i64 (v7+1)) (wrap .i64 (aB+d.c)) bM d.a (Ex (decide ((wrap .i64 (aB+d.c))>0)) (decide (bM>0))) (aE++[(R2.mk bA d.a)]))) else (bif (decide (d.b =Int.ofNat 1)) then (.to (.h2 v5 v6 (wrap .i64 (v7+1)) aB (wrap .i64 (bM+d.c)) d.a (Ex (decide (aB>0)) (decide ((wrap .i64 (bM+d.c))>0))) (aE++[(R2.mk bA d.a)]))) else .stuck)) else .stuck)))) else .stuck) else .stuck) else (.ret [(dt aE),(.int .i64 0)]))
def X8 (l0:zp):Xk Hd:=(bif (decide ((l0.length:Int)>400)) then (.ret [.nils,(.int .i64 4)]) else (.to (.h0 0)))
theorem w8f (l0:zp): ∀s,Xh prog (Zy prog 200) (NZ l0) (NZ l0 s) (Jp l0 s)
 | .h0 v8=>let b:=fl ([]:zo) nn;(lb (fun k0=>(lo fun aK=>let a:=ww aK (tt k0 nn);(lb (fun k1=>(lb (fun k2=>let c:=tt k2 (tt k1 a);(lb (fun k3=>(lb (fun k4=>(lr 11 200 (pn 75) 1 10 [(2,.nils),(3,(ii 8))] (sl DW 79 [] (b8 [2,3]) b7 (CL 9 []) (tt k4 (tt k3 c))))) (fun k4=>(sl DW 154 [(311,3,Zz ([]:zo))] ⟨[8,2,3,4,5,6,7,9],[],Tj,Ti⟩ ⟨[(3,.grow 7 3)],[],[]⟩ (CL 8 (bl 2 2)) (pp b (tt k4 (tt k3 c))))))) (fun k3=>(sl DW 69 [] ⟨[],[],J6,J7⟩ b7 (CL 7 [false]) (tt k3 c))))) (fun k2=>let d:=tt k2 (tt k1 a);(lb (fun k3=>(lr 11 200 (pn 75) 1 10 [(2,.nils),(3,(ii 8))] (sl DW 79 [] (b8 [2,3]) b7 (CL 4 (bl 5 24)) (tt k3 d)))) (fun k3=>(sl DW 154 [(311,3,Zz ([]:zo))] ⟨[8,2,3,4,5,6,7,9],[],Tj,Ti⟩ ⟨[(3,.grow 7 3)],[],[]⟩ (CL 4 (bl 6 40)) (pp b (tt k3 d)))))))) (fun k1=>(lb (fun k2=>(lr 11 200 (pn 75) 1 10 [(2,.nils),(3,(ii 8))] (sl DW 79 [] (b8 [2,3]) b7 (bl 9 385) (tt k2 (tt k1 a))))) (fun k2=>(sl DW 154 [(311,3,Zz ([]:zo))] ⟨[8,2,3,4,5,6,7,9],[],Tj,Ti⟩ ⟨[(3,.grow 7 3)],[],[]⟩ (bl 10 641) (pp b (tt k2 (tt k1 a)))))))))) (fun k0=>(sl DW 98 [(311,3,Zz ([]:zo))] ⟨[6,0,1,2,3,4,5,7],[],Tj,Ti⟩ ⟨[(3,.grow 7 3)],[],[]⟩ (bl 3 4) (pp b (tt k0 nn)))))
 | .h1 v3 v17=>(lb (fun k0=>(lo fun o0=>(lo fun o1=>let j:=y1f v3 l0 v17;let m:=v3.length+2;let d:=xL m j.length;let f:=j;let l:=rd l0 (tn v17);let h:=Zr (Zz v3) 0 v3.length 3 [(ii l.a),(ii 0),(ii 1),(ii l.b),(ii 0),(ii (-1))];(sl DW 36 [] ⟨[0,1,2,3,4,5,6,10],[],Tj,Ti⟩ ⟨[(3,.len f.length)],(DN 7 [.rowed 3 f.length (Zz f)]),[]⟩ [true] (pp d (pp d (pp (xS m h (Zz j)) (pp (pp (xF h) nn) (ww o1 (ww o0 (tt k0 nn))))))))))) (fun k0=>(lo fun o0=>(lo fun o1=>(lo fun o2=>let i:=Ck (CB v3);let c:=xL v3.length i.length (by first | exact z9v _ | exact Jj rfl);let e:=i;let g:=xG (Nat.beq 3 3);(sl DW 92 [(260,2,Zz ([]:zp))] ⟨[9,1,2,4,5,6,3,7,10],[],GO,GN⟩ ⟨[(5,.len e.length)],(DN 6 [.cells [.grow 8 2],.rowed 3 e.length (Zz e),.keep]),[]⟩ (bl 4 2) (pp c (pp c (pp (xS v3.length (Zz i) (Zz i)) (pp (fl e (fl ([]:zp) nn)) (pp (pp g (pp g (pp (xG (Nat.beq 0 0)) (pp (pp (xG (decide (v3.length=v3.length))) (pp (xr v3) (xG (decide (v3.length<4611686018427387904))))) (xG (DS (CB v3))))))) (tt k0 nn))))))))))))
 | .h2 v5 v6 v7 aB bM bA aG aE=>(lb (fun k0=>(lo fun aK=>(lo fun bH=>let i:=List.range 9;let j:=fl v5 (fl aE nn);let l:=ww bH (ww aK (tt k0 nn));(lb (fun k1=>(lb (fun k2=>(sl DW 62 [] ⟨i,[],GO,GN⟩ b7 (CL 5 (bl 3 0)) (pp j (ww k2 (tt k1 l))))) (fun k2=>(lb (fun k3=>(sl DW 62 [] ⟨i,[],GO,GN⟩ b7 (CL 6 (bl 4 2)) (pp j (ww k3 (tt k1 l))))) (fun k3=>trivial))))) (fun k1=>let d:=tt k1 l;(lb (fun k2=>(lb (fun k3=>(sl DW 62 [] ⟨i,[],GO,GN⟩ b7 (bl 8 17) (pp j (ww k3 (tt k2 d))))) (fun k3=>(lb (fun k4=>(sl DW 62 [] ⟨i,[],GO,GN⟩ b7 (bl 10 177) (pp j (ww k4 (tt k2 d))))) (fun k4=>trivial))))) (fun k2=>let y:=Vj aE bA v5 v7;let r:=y;let c:=DN 6 [.cells [.len r.length],.keep,.rowed 2 r.length (Zz r)];let z:=Iy aE bA v5 v7;let B:=aE.length+1;(lb (fun k3=>(lo fun cU=>(lo fun dR=>let g:=ww dR (ww cU (tt k3 (tt k2 d)));(lb (fun k4=>let A:=tn (wr ((aE.length:Int) - 1));let q:=A;let C:=rd v5 (0+(tn v7));let b:=aE.set (0+q) (R2.mk (rd aE (0+q)).a C.a);let h:=DN 6 [.cells [.len b.length],.keep,.rowed 2 b.length (Zz b)];let s:=ww dR (ww cU (tt k4 g));let v:=aE.set (0+A) (R2.mk (rd aE (0+A)).a C.a);let w:=Xg (Zz aE) (0+A) 1 [(ii C.a)];(lb (fun k5=>let f:=xL aE.length v.length;(sl DW 81 [] ⟨i,[],GO,GN⟩ ⟨[],h,[]⟩ (bl 17 16353) (pp f (pp f (pp (xS aE.length w (Zz v)) (pp (fl v5 (pp (xF w) nn)) (ww k5 s))))))) (fun k5=>(lb (fun k6=>let e:=xL aE.length v.length;(sl DW 81 [] ⟨i,[],GO,GN⟩ ⟨[],h,[]⟩ (bl 19 98273) (pp e (pp e (pp (xS aE.length w (Zz v)) (pp (fl v5 (pp (xF w) nn)) (ww k6 s))))))) (fun k6=>trivial))))) (fun k4=>(lo fun dC=>let u:=ww dC (tt k4 g);(lb (fun k5=>let n:=xL B y.length;(sl DW 81 [] ⟨[0,1,2,3,4,5,6,7,12],[],GO,GN⟩ ⟨[],c,[]⟩ (bl 17 8161) (pp n (pp n (pp (xS B z (Zz y)) (pp (fl v5 (pp (xF z) nn)) (ww k5 u))))))) (fun k5=>(lb (fun k6=>let p:=xL B y.length;(sl DW 81 [] ⟨[0,1,2,3,4,5,6,7,12],[],GO,GN⟩ ⟨[],c,[]⟩ (bl 19 90081) (pp p (pp p (pp (xS B z (Zz y)) (pp (fl v5 (pp (xF z) nn)) (ww k6 u))))))) (fun k6=>trivial)))))))))) (fun k3=>(lo fun cU=>let t:=ww cU (tt k3 (tt k2 d));(lb (fun k4=>let m:=xL B y.length;(sl DW 81 [] ⟨[0,1,2,3,4,5,6,7,12],[],GO,GN⟩ ⟨[],c,[]⟩ (bl 17 1) (pp m (pp m (pp (xS B z (Zz y)) (pp (fl v5 (pp (xF z) nn)) (ww k4 t))))))) (fun k4=>(lb (fun k5=>let o:=xL B y.length;(sl DW 81 [] ⟨[0,1,2,3,4,5,6,7,12],[],GO,GN⟩ ⟨[],c,[]⟩ (bl 19 81921) (pp o (pp o (pp (xS B z (Zz y)) (pp (fl v5 (pp (xF z) nn)) (ww k5 t))))))) (fun k5=>trivial)))))))))))))) (fun k0=>(lr 11 3 (pn 191) 1 10 [(2,(dt aE)),(3,(ii 0))] (sl DW 19 [] ⟨[],[8],[some [2,3]],[]⟩ ⟨[(2,.frz aE.length aE.length (Zz aE) (Zz aE))],[],[]⟩ [false] (pp (xZ (DE 2 2 0 aE.length aE.length (Zz aE)) aE.length (Zz aE)) (pp (xL aE.length aE.length) (pp (xS aE.length (Zz aE) (Zz aE)) (pp (fl aE nn) (tt k0 nn)))))))))
theorem x8y (l0:zp):Xh prog (Zy prog 200) (NZ l0) (Zb prog 200 [(dt l0)] true []) (X8 l0):=(lb (fun k0=>(lr 11 200 (pn 37) 1 10 [(2,.nils),(3,(ii 4))] (sl DW 18 [] (b8 [2,3]) b7 [true] (tt k0 nn)))) (fun k0=>(sl DW 41 [] ⟨[],[],J6,J7⟩ b7 [false] (tt k0 nn))))
theorem u0n (l0:zp) (n:Nat) (vs:zy) (h:Yj (Jp l0) n (X8 l0)=.ret vs):Ji prog (Zy prog 200) (Zb prog 200 [(dt l0)] true []) vs:=by have:=Zf (w8f l0) n _ (x8y l0);rwa [h] at this
def Ca (s:R2):Bool:=decide (s.a<s.b)&&(decide (s.a>= -1000000)&&decide (s.b<=1000000))
def DO (l:zp):zo:=l.flatMap fun s=>[⟨s.a,0,1⟩,⟨s.b,0,-1⟩]
def Us (out:zp) (last:Int) (inn:Bool) (at':Int):zp:=
 bif !inn then out else bif last == at' then out else
 bif decide (0<out.length)&&((rd out (out.length - 1)).b == last) then out.set (out.length - 1) ⟨(rd out (out.length - 1)).a,at'⟩ else out++[⟨last,at'⟩]
def Gz :zo->Int->Int->Bool->zp->zp
 | [],_,_,_,out=>out
 | e::r,o,last,inn,out=>Gz r (o+e.c) e.a (decide (o+e.c>0)) (Us out last inn e.a)
def FT (l:zp):zp:=Gz (Ck (DO l)) 0 0 false []
def Wk (l:zp):zp:=bif decide (400<l.length) then [] else bif l.all Ca then FT l else []
def u7c (l:zp):Int:=bif decide (400<l.length) then 4 else bif l.all Ca then 0 else 8
def y6f (l:zp):Bool:=true
def TU (l:zp):zy:=bif decide (400<l.length) then [.nils,.int .i64 4] else bif l.all Ca then [.dat (FT l).length (Zz (FT l)),.int .i64 0] else [.nils,.int .i64 8]
theorem z5r (l:zp):(DO l).length =2*l.length:=by
 induction l with
 | nil=>rfl
 | cons r l ih=>grind [DO]
theorem z3w (out:zp) (last:Int) (inn:Bool) (a:Int):(Us out last inn a).length <=out.length+1:=by
 grind [Us]
theorem Xl (e:R3) (r:zo) (o last:Int) (inn:Bool) (out:zp):Gz (e::r) o last inn out=Gz r (o+e.c) e.a (decide (o+e.c>0)) (Us out last inn e.a):=rfl
theorem j5r {a:Int} (k:Nat) (h:a=(k:Int)):decide (a=Int.ofNat k)=true:=by grind
section
variable (l:zp) (hl:l.length<=400)
include hl
theorem u6z (L:zo) (hL:L.length<=800) (hE: ∀i,i<L.length->(rd L i).b =0/\((rd L i).c =1\/(rd L i).c = -1)): ∀(k i:Nat) (o last:Int) (inn:Bool) (out:zp),i+k=L.length-> -(i:Int)<=o->o<=i->out.length<=i->
  ∃n,Yj (Jp l) n (.to (.h2 L (L.length:Int) (i:Int) o 0 last inn out))=.ret [.dat (Gz (L.drop i) o last inn out).length (Zz (Gz (L.drop i) o last inn out)),.int .i64 0]
 | 0,i,o,last,inn,out,h,ho1,ho2,hout=>by
  have _uhl:=hl;refine ⟨1,?_⟩
  grind [Zx,Jp,Zc,Gz]
 | k +1,i,o,last,inn,out,h,ho1,ho2,hout=>by
  obtain ⟨hb,hc⟩:=hE i (by omega);have hcl:=z3w out last inn (rd L i).a;obtain ⟨n,hn⟩:=u6z L hL hE k (i+1) (o+(rd L i).c) (rd L i).a (decide (o+(rd L i).c >0)) (Us out last inn (rd L i).a) (by omega) (by grind) (by grind) (by omega);refine ⟨n+1,?_⟩;rw [Yn (show i<L.length by omega),Zx];have hf: ∀b,Ex b (decide ((0:Int)>0))=b:=fun b=>rfl;have hw:wrap .i64 (o+(rd L i).c)=o+(rd L i).c :=Zq (by grind);rw [Xl];have hf': ∀b,Ex b false=b:=fun b=>rfl;have hz:=j5r 0 hb;unfold Us at hn ⊢;cases inn with
  | false=>simp only [AB,Ab] at hn ⊢;simp (disch:=omega) only [Jp,AB,hz,hw,hf,hf',Zt,Zn,Yp,Zq,Zv,Zj,Ah,Aj,Ab];exact hn
  | true=>
   simp only [Ax,Aa] at hn ⊢;rcases Xw (last == (rd L i).a) with q | q
   .rw [q] at hn ⊢;simp only [Ab] at hn ⊢;simp (disch:=omega) only [Jp,Ax,q,hz,hw,hf,hf',Zt,Zn,Yp,Zq,Zv,Zj,Ah,Aj,Ab,Aa];exact hn
   .rw [q] at hn ⊢;simp only [Aa] at hn ⊢;by_cases h0:0<out.length
    .rw [Af h0,Al] at hn ⊢;rcases Xw ((rd out (out.length - 1)).b == last) with q2 | q2
     .rw [q2] at hn ⊢;simp only [Ab] at hn ⊢;simp (disch:=omega) only [Jp,Ax,q,q2,hz,hw,hf,hf',Zt,Yo,Zn,Yp,Zq,Zv,Zj,Zo,Ah,Aj,Ab,Aa];exact hn
     .rw [q2] at hn ⊢;simp only [Aa] at hn ⊢;simp (disch:=omega) only [Jp,Ax,q,q2,hz,hw,hf,hf',Zt,Yo,Zn,Yp,Yg,Zh,Yb,Au,Zq,Zv,Zj,Zo,Ah,Aj,Al,Ab,Aa];exact hn
    .rw [An h0,AY] at hn ⊢;simp only [Aa] at hn ⊢;simp (disch:=omega) only [Jp,Ax,q,hz,hw,hf,hf',Zt,Xb,Zn,Yp,Yg,Zh,Yb,Au,Zq,Zv,Zj,Ah,Aj,Al,Ab,Aa];exact hn
theorem v8u (h:l.all Ca=true): ∀e∈DO l,QA e=true/\e.b=0/\(e.c=1\/e.c= -1):=by
 have _uhl:=hl;intro e he;obtain ⟨s,hs,h1⟩:=AM.1 he;have hv:=As.1 h s hs;simp only [Ca,Ac,Ao] at hv;simp only [AN,List.not_mem_nil,or_false] at h1;rcases h1 with rfl | rfl
 .exact ⟨Af (by grind),rfl,.inl rfl⟩
 .exact ⟨Af (by grind),rfl,.inr rfl⟩
theorem u7a (hv:l.all Ca=true): ∀(k i:Nat) (acc:zo),i+k=l.length->acc=DO (l.take i)-> ∃n,Yj (Jp l) n (.to (.h1 acc (i:Int)))=.ret [.dat (FT l).length (Zz (FT l)),.int .i64 0]
 | 0,i,acc,h,ha=>by
  have e:acc=DO l:=by grind
  subst e;have hle:=z5r l;have fJ:=v8u l hl hv;have hb:DS (DO l)=true:=As.2 fun e he=>(fJ e he).1;obtain ⟨hp,_⟩:=Qo (DO l) hb;have hpl:=hp.length_eq;obtain ⟨n,hn⟩:=u6z l hl (Ck (DO l)) (by omega) (fun i hi=>by
   grind [Xm]) (Ck (DO l)).length 0 0 0 false [] (Ah _) (by omega) (by omega) (AA _)
  refine ⟨n+1,?_⟩;rw [Zx];simp (disch:=omega) only [Jp,Zd,Zp,hb,Yc,Yp,Yg,Au,Ab,Aa];rw [<-hpl];simp only [EB,AR] at hn;exact hn
 | k+1,i,acc,h,ha=>by
  have hle:=z5r (l.take i);have gQ:acc.length<=2*i:=by grind
  obtain ⟨n,hn⟩:=u7a hv k (i+1) (acc++DO [rd l i]) (by omega) (by
   rw [ha,A4]
   grind [Xm,DO])
  refine ⟨n+1,?_⟩;rw [Zx];simp (disch:=omega) only [Jp,Zt,Zn,Yd,Yg,Zh,Yb,Au,Zq,Zv,Zj,Ah,Aj,Al,Ab];exact hn
theorem u7b : ∀(k i:Nat),i+k=l.length->(∀s∈l.take i,Ca s=true)-> ∃n,Yj (Jp l) n (.to (.h0 (i:Int)))=.ret (bif l.all Ca then [.dat (FT l).length (Zz (FT l)),.int .i64 0] else [.nils,.int .i64 8])
 | 0,i,h,ht=>by
  have hv:l.all Ca=true:=As.2 fun s hs=>ht s (by grind);obtain ⟨n,hn⟩:=u7a l hl hv l.length 0 [] (Ah _) rfl;refine ⟨n+1,?_⟩
  grind [Zx,Jp]
 | k+1,i,h,ht=>by
  have hi:i<l.length:=by omega
  rcases Xw (Ca (rd l i)) with q | q
  .obtain ⟨n,hn⟩:=u7b k (i+1) (by omega) (fun s hs=>by
    rw [A4] at hs
    grind [Xm])
   refine ⟨n+1,?_⟩
   grind [Zx,Ca,Jp,Zq]
  .have hv:l.all Ca=false:=A7.2 fun e=>by
    grind [Xm]
   refine ⟨1,?_⟩;rw [Zx,hv,Aa];unfold Ca at q;rcases Xw (decide ((rd l i).a <(rd l i).b)) with q1 | q1 <;> rcases Xw (decide ((rd l i).a >= -1000000)) with q2 | q2 <;> rcases Xw (decide ((rd l i).b <=1000000)) with q3 | q3 <;>
    rw [q1,q2,q3] at q <;> first
    | (exfalso;revert q;decide)
    | simp (disch:=omega) only [Jp,q1,q2,q3,Zt,En,Zn,Zq,Zv,Zj,Ax,AB,Aj,Ab,Aa,Zc]
end
theorem j2o (l:zp): ∃n,Yj (Jp l) n (X8 l)=.ret (TU l):=by
 unfold X8 TU;by_cases h:400<l.length
 .refine ⟨0,?_⟩;rw [Af h,Yo (show (l.length:Int)>400 by omega)];rfl
 .obtain ⟨n,hn⟩:=u7b l (by omega) l.length 0 (Ah _) (fun s hs=>by simp at hs)
  grind
def PO :zy->Option (CA×Bool)
 | [a1]=>match C4 R2 a1 with
  | some (L1,g1,n1)=>some (.tup [.dat (Wk L1).length (Zz (Wk L1)),.int .i64 (u7c L1)],CU R2 n1 g1&&y6f L1)
  | _=>none
 | _=>none
theorem j7n {S:CC} (hS:Zu prog S):Zu prog (S.with x6n PO):=by
 refine GR hS (by kernel_rfl) fun args v h=> ?_;unfold PO at h;split at h
 .rename_i a1;split at h
  .rename_i L1 g1 n1 e1;simp only [Ae,Ad,Ac] at h;obtain ⟨rfl,ho1,hw⟩:=h;obtain ⟨N,hN⟩:=j2o L1;refine ⟨_,TU L1,(.cons (Xy e1 ho1) .nil),?_,u0n L1 N _ hN,3,?_⟩
   .unfold Wk u7c TU;cases decide (400<L1.length) <;> simp only [Ab,Aa]
    .cases L1.all Ca <;> simp only [Ab,Aa]
     .exact fun ρ u hu=>FJ (.cons (MY R2) (DJ.refl _)) ρ u hu
     .exact fun ρ u hu=>hu
    .exact fun ρ u hu=>FJ (.cons (MY R2) (DJ.refl _)) ρ u hu
   .unfold TU;cases decide (400<L1.length) <;> simp only [Ab,Aa]
    .cases L1.all Ca <;> rfl
    .rfl
  .cases h
 .cases h
def T6 :CC:=T5.with x6n PO
theorem Kt :Zu prog T6:=j7n DW
theorem Se {γ:Type} (a b:Bool) (x y:γ):(bif a&&b then x else y)=bif a then (bif b then x else y) else y:=by grind
theorem RF {γ:Type} (a:Bool) (x y:γ):(bif !a then x else y)=bif a then y else x:=by grind
structure CM (α β:Type) where
 lo:α->Int
 hi:α->Int
 pr:α->β
 put:Int->Int->β->α
 ext:Int->α->α
 mak:List β->List β
 same:List β->List β->Bool
structure Sw (α β:Type) where
 out:List α
 last:List β
 first:Nat
 fin:Int
def Kr (zs:zq):zq:=compact (Wj zs)
theorem Sg (zs:zq):Ls (Wj zs)=(Kr zs).length :=rfl
theorem Kq (zs:zq):(Wj zs).length =zs.length:=List.length_mergeSort zs
theorem x4g (zs:zq):(Kr zs).length <=zs.length:=by have:=compact_length_le (Wj zs);rw [Kq] at this;exact this
theorem Gj (zs:zq) (i:Nat) (h:i<(Kr zs).length):rd (Wt (Wj zs)) i=rd (Kr zs) i:=by
 change i<(compact (Wj zs)).length at h;show rd (compact (Wj zs)++_) i=rd (compact (Wj zs)) i
 grind [Xm]
theorem S0 (zs:zq):Yq zs.length (CS (Zz (Wj zs)))=Wj zs:=by
 grind [Qm,Kq]
namespace CM
variable {α β:Type} (D:CM α β) (l:List α)
def ends :zq:=l.flatMap fun r=>[D.lo r,D.hi r]
def cuts :zq:=Kr (D.ends l)
def inn (x:Int):List β:=(l.filter fun r=>decide (D.lo r<=x)&&decide (x<D.hi r)).map D.pr
def sec (x:Int):List β:=D.mak (D.inn l x)
def grow (out:List α) (k:Nat) (x:Int):List α:=out.take k++(out.drop k).map (D.ext x)
def one (x x':Int) (s:Sw α β):Sw α β:=
 bif decide (0<(D.sec l x).length)&&((s.fin == x)&&D.same s.last (D.sec l x)) then ⟨D.grow s.out s.first x',s.last,s.first,x'⟩
 else ⟨s.out++(D.sec l x).map (D.put x x'),D.sec l x,s.out.length,x'⟩
def go :Nat->Nat->Sw α β->Sw α β
 | 0,_,s=>s
 | k+1,i,s=>go k (i+1) (D.one l (rd (D.cuts l) i) (rd (D.cuts l) (i+1)) s)
def out :List α:=(D.go l ((D.cuts l).length - 1) 0 ⟨[],[],0,0⟩).out
theorem ends_length :(D.ends l).length =2*l.length:=by
 induction l with
 | nil=>rfl
 | cons r l ih=>show (_::_::D.ends l).length =_;grind
theorem cuts_length :(D.cuts l).length <=2*l.length:=by have:=x4g (D.ends l);rw [D.ends_length] at this;exact this
theorem ends_append (m:List α):D.ends (l++m)=D.ends l++D.ends m:=by simp [ends]
theorem inn_append (m:List α) (x:Int):D.inn (l++m) x=D.inn l x++D.inn m x:=by simp [inn]
theorem inn_length (x:Int):(D.inn l x).length <=l.length:=by grind [inn]
theorem inn_t (r:α) (x:Int) (h1:D.lo r<=x) (h2:x<D.hi r):D.inn [r] x=[D.pr r]:=by simp [inn,h1,h2]
theorem inn_f1 (r:α) (x:Int) (h1: ¬D.lo r<=x):D.inn [r] x=[]:=by simp [inn,h1]
theorem inn_f2 (r:α) (x:Int) (h1: ¬x<D.hi r):D.inn [r] x=[]:=by simp [inn,h1]
theorem grow_nil (out:List α) (k:Nat) (x:Int) (h:out.length<=k):D.grow out k x=out:=by unfold grow;rw [Aw h,BL,AG,A6 h]
theorem grow_length (out:List α) (k:Nat) (x:Int):(D.grow out k x).length =out.length:=by unfold grow;simp;omega
theorem grow_set [Xp α] (out:List α) (j:Nat) (x:Int) (h:j<out.length):D.grow (out.set j (D.ext x (rd out j))) (j+1) x=D.grow out j x:=by
 unfold grow;rw [Yn h,AT];have e1:(out.set j (D.ext x (rd out j))).take (j+1)=out.take j++[D.ext x (rd out j)]:=by
  apply BO;all_goals grind
 have e2:(out.set j (D.ext x (rd out j))).drop (j+1)=out.drop (j+1):=by rw [List.drop_set];grind
 grind
theorem one_length (x x':Int) (s:Sw α β):(D.one l x x' s).out.length <=s.out.length+(D.sec l x).length :=by
 grind [one,grow_length]
end CM
def sOk (a b:zw):Bool:=Nat.ble (a.length+b.length) 9223372036854775807
theorem KU {a b:zw} (h:a.length+b.length<=1000000000000):sOk a b=true:=by unfold sOk;exact AX (by omega)
open Go.Proofs.Tryz
open Go.Proofs Go.Lib
theorem V6 :Zu prog SC:=v2u (JG (JG (JG Zg (by kernel_rfl) Ok) (by kernel_rfl) N0) (by kernel_rfl) QB) (by kernel_rfl) j9j
end Go.Am
end
