/- A part of a proof: several texts in one. -/
import Derived.Test.YthnnmgkacjjpeaaGreatDoorNd2
import Derived.Ground.SlsfProg
import Derived.Shelf.SlSortCmp.WholeK
import Derived.Shelf.Strings.Builder1
import Derived.Shelf.Strings.Builder2
import Derived.Shelf.Strings.OnBuilder
import Derived.Shelf.Small.Bits
import Derived.Shelf.Strconv.Atoi
import Derived.Shelf.Strconv.Itoa0
import Derived.Shelf.Strconv.Itoa1
import Derived.Shelf.LaysM
import Derived.Shelf.Strconv.Itoa2
import Derived.Shelf.Strconv.Itoa3
import Derived.Shelf.Strconv.AtoiErrFast
import Derived.Shelf.Strconv.ParseIntEmpty
import Derived.Shelf.Strconv.AtoiFail
import Derived.Shelf.Strconv.Clone
import Derived.Shelf.Strconv.SyntaxError
import Derived.Shelf.LaysC
import Derived.Shelf.Strconv.ToError
import Derived.Shelf.Strconv.Lower
import Derived.Shelf.Strconv.ParseUint10
import Derived.Shelf.Strconv.ParseUint10Empty
import Derived.Shelf.Strconv.ParseUint10Any
import Derived.Shelf.Strconv.ParseInt10
import Derived.Shelf.Strconv.AtoiLong
import Derived.Shelf.Strconv.AtoiInnerAll
import Derived.Shelf.Strconv.RangeError
import Derived.Shelf.Strconv.ToErrorRange
import Derived.Shelf.Strconv.AtoiAll
import Derived.Shelf.Strings.Search1
import Derived.Shelf.Strings.Search2
import Derived.Shelf.Strings.Search3
import Derived.Shelf.Strings.Cut
import Derived.Shelf.Strings.Count
import Derived.Shelf.Strings.Shaped
import Derived.Shelf.Sort.Plain
import Derived.Shelf.Strings.LastIndex
import Derived.Shelf.Strings.Prefix
import Derived.Shelf.Strings.Split
import Derived.Shelf.Unicode.DecodeSlow
import Derived.Ground.Names2Prog
import Derived.Shelf.Slices.ReverseS
import Derived.Shelf.Slices.CompactI
import Derived.Shelf.Slices.SearchI
import Derived.Shelf.Slices.Cells
import Derived.Shelf.Slices.In.SortNone
import Derived.Test.YthnnmgkacjjpeaaGreatDoorProg
import Derived.Below
import Derived.Sort.AssemblyPlain
import Derived.Lib.BitFns
import Derived.Shelf.GgSortFunc.InsertionK
import Derived.Shelf.SlSortCmp.NoneTotal
import Derived.Lib.SplitLaws
import Derived.Lib.ItoaLen
import Derived.Lib.AtoiAll
set_option maxRecDepth 1000000
set_option maxHeartbeats 8000000
set_option linter.unusedVariables false
set_option linter.unusedSimpArgs false
noncomputable section
namespace Go.Proofs
open Go.Proofs.Tryz
open Go.Shelf
def Tryz.lays169_ren :Go.Shelf.Ren:=⟨fun | 169=>75 | n=>n,fun | 70=>72 | 9=>9 | 0=>0 | 72=>75 | 37=>73 | 127=>181 | 3=>3 | 5=>5 | n=>n,fun | n=>n⟩
theorem Tryz.lays169 :Go.Proofs.Lays.n169 prog Tryz.lays169_ren:={
 mixed:=by kernel_rfl
 f169:=Tryz.func75.trans (congrArg some (by kernel_rfl))
 t0:=Tryz.underlying0
 a0:=Tryz.isAgg0
 z0:=Tryz.sizeOf0
 v0:=Tryz.zeroValue0
 t3:=Tryz.underlying3
 a3:=Tryz.isAgg3
 z3:=Tryz.sizeOf3
 v3:=Tryz.zeroValue3
 t9:=Tryz.underlying9
 a9:=Tryz.isAgg9
 z9:=Tryz.sizeOf9
 v9:=Tryz.zeroValue9
 t37:=Tryz.underlying73
 a37:=Tryz.isAgg73
 z37:=Tryz.sizeOf73
 v37:=Tryz.zeroValue73
 t70:=Tryz.underlying72
 a70:=Tryz.isAgg72
 z70:=Tryz.sizeOf72
 v70:=Tryz.zeroValue72
 t72:=Tryz.underlying75
 a72:=Tryz.isAgg75
 z72:=Tryz.sizeOf75
 v72:=Tryz.zeroValue75
 t127:=Tryz.underlying181
 a127:=Tryz.isAgg181
 z127:=Tryz.sizeOf181
 v127:=Tryz.zeroValue181}
theorem Tryz.Builder_Extra_169 :Builder.Extra prog Tryz.lays169_ren:={
 sizeBuilder:=by kernel_rfl
 liesBuilder:=by kernel_rfl
 t5:=Tryz.underlying5
 a5:=Tryz.isAgg5
 z5:=Tryz.sizeOf5
 v5:=Tryz.zeroValue5
 infoByte:=by kernel_rfl
 cellsByte:=by kernel_rfl
 sizeByte:=by kernel_rfl
 neB5:=by decide}
def Tryz.lays156_ren :Go.Shelf.Ren:=⟨fun | 156=>73 | 165=>111 | 166=>68 | 169=>75 | 240=>108 | 241=>147 | 276=>145 | 277=>179 | n=>n,fun | 31=>70 | 9=>9 | 3=>3 | 4=>4 | 0=>0 | 20=>20 | 72=>75 | 76=>125 | 70=>72 | 37=>73 | 75=>124 | 127=>181 | 164=>210 | 5=>5 | 80=>134 | n=>n,fun | n=>n⟩
theorem Tryz.lays156 :Go.Proofs.Lays.n156 prog Tryz.lays156_ren:={
 mixed:=by kernel_rfl
 f156:=Tryz.func73.trans (congrArg some (by kernel_rfl))
 f165:=Tryz.func111.trans (congrArg some (by kernel_rfl))
 f166:=Tryz.func68.trans (congrArg some (by kernel_rfl))
 f169:=Tryz.func75.trans (congrArg some (by kernel_rfl))
 f240:=Tryz.func108.trans (congrArg some (by kernel_rfl))
 f241:=Tryz.func147.trans (congrArg some (by kernel_rfl))
 f276:=Tryz.func145.trans (congrArg some (by kernel_rfl))
 f277:=Tryz.func179.trans (congrArg some (by kernel_rfl))
 t0:=Tryz.underlying0
 a0:=Tryz.isAgg0
 z0:=Tryz.sizeOf0
 v0:=Tryz.zeroValue0
 t3:=Tryz.underlying3
 a3:=Tryz.isAgg3
 z3:=Tryz.sizeOf3
 v3:=Tryz.zeroValue3
 t4:=Tryz.underlying4
 a4:=Tryz.isAgg4
 z4:=Tryz.sizeOf4
 v4:=Tryz.zeroValue4
 t9:=Tryz.underlying9
 a9:=Tryz.isAgg9
 z9:=Tryz.sizeOf9
 v9:=Tryz.zeroValue9
 t20:=Tryz.underlying20
 a20:=Tryz.isAgg20
 z20:=Tryz.sizeOf20
 v20:=Tryz.zeroValue20
 t31:=Tryz.underlying70
 a31:=Tryz.isAgg70
 z31:=Tryz.sizeOf70
 v31:=Tryz.zeroValue70
 t37:=Tryz.underlying73
 a37:=Tryz.isAgg73
 z37:=Tryz.sizeOf73
 v37:=Tryz.zeroValue73
 t70:=Tryz.underlying72
 a70:=Tryz.isAgg72
 z70:=Tryz.sizeOf72
 v70:=Tryz.zeroValue72
 t72:=Tryz.underlying75
 a72:=Tryz.isAgg75
 z72:=Tryz.sizeOf75
 v72:=Tryz.zeroValue75
 t75:=Tryz.underlying124
 a75:=Tryz.isAgg124
 z75:=Tryz.sizeOf124
 v75:=Tryz.zeroValue124
 t76:=Tryz.underlying125
 a76:=Tryz.isAgg125
 z76:=Tryz.sizeOf125
 v76:=Tryz.zeroValue125
 t127:=Tryz.underlying181
 a127:=Tryz.isAgg181
 z127:=Tryz.sizeOf181
 v127:=Tryz.zeroValue181
 t164:=Tryz.underlying210
 a164:=Tryz.isAgg210
 z164:=Tryz.sizeOf210
 v164:=Tryz.zeroValue210}
theorem Tryz.Builder_Extra_156 :Builder.Extra prog Tryz.lays156_ren:={
 sizeBuilder:=by kernel_rfl
 liesBuilder:=by kernel_rfl
 t5:=Tryz.underlying5
 a5:=Tryz.isAgg5
 z5:=Tryz.sizeOf5
 v5:=Tryz.zeroValue5
 infoByte:=by kernel_rfl
 cellsByte:=by kernel_rfl
 sizeByte:=by kernel_rfl
 neB5:=by decide}
def Tryz.laysM171_ren :Go.Shelf.Ren:=⟨fun | 171=>70 | 243=>109 | 246=>146 | 283=>175 | 284=>176 | 285=>177 | 286=>178 | 129=>207 | 317=>206 | 318=>208 | 319=>209 | 320=>210 | 337=>234 | 338=>235 | n=>n,fun | 3=>3 | 9=>9 | 2=>2 | 4=>4 | 171=>246 | 0=>0 | 53=>247 | 37=>73 | 5=>5 | 173=>250 | 212=>282 | 51=>283 | 20=>20 | 213=>284 | 46=>262 | 232=>324 | 233=>325 | n=>n,fun | 17=>3 | 18=>6 | 19=>7 | n=>n⟩
theorem Tryz.laysM171 :Go.Proofs.LaysM.n171 prog Tryz.laysM171_ren:={
 mixed:=by kernel_rfl
 f129:=Tryz.func207.trans (congrArg some (by kernel_rfl))
 f171:=Tryz.func70.trans (congrArg some (by kernel_rfl))
 f243:=Tryz.func109.trans (congrArg some (by kernel_rfl))
 f246:=Tryz.func146.trans (congrArg some (by kernel_rfl))
 f283:=Tryz.func175.trans (congrArg some (by kernel_rfl))
 f284:=Tryz.func176.trans (congrArg some (by kernel_rfl))
 f285:=Tryz.func177.trans (congrArg some (by kernel_rfl))
 f286:=Tryz.func178.trans (congrArg some (by kernel_rfl))
 f317:=Tryz.func206.trans (congrArg some (by kernel_rfl))
 f318:=Tryz.func208.trans (congrArg some (by kernel_rfl))
 f319:=Tryz.func209.trans (congrArg some (by kernel_rfl))
 f320:=Tryz.func210.trans (congrArg some (by kernel_rfl))
 f337:=Tryz.func234.trans (congrArg some (by kernel_rfl))
 f338:=Tryz.func235.trans (congrArg some (by kernel_rfl))
 t0:=Tryz.underlying0
 a0:=Tryz.isAgg0
 z0:=Tryz.sizeOf0
 v0:=Tryz.zeroValue0
 t2:=Tryz.underlying2
 a2:=Tryz.isAgg2
 z2:=Tryz.sizeOf2
 v2:=Tryz.zeroValue2
 t3:=Tryz.underlying3
 a3:=Tryz.isAgg3
 z3:=Tryz.sizeOf3
 v3:=Tryz.zeroValue3
 t4:=Tryz.underlying4
 a4:=Tryz.isAgg4
 z4:=Tryz.sizeOf4
 v4:=Tryz.zeroValue4
 t5:=Tryz.underlying5
 a5:=Tryz.isAgg5
 z5:=Tryz.sizeOf5
 v5:=Tryz.zeroValue5
 t9:=Tryz.underlying9
 a9:=Tryz.isAgg9
 z9:=Tryz.sizeOf9
 v9:=Tryz.zeroValue9
 t20:=Tryz.underlying20
 a20:=Tryz.isAgg20
 z20:=Tryz.sizeOf20
 v20:=Tryz.zeroValue20
 t37:=Tryz.underlying73
 a37:=Tryz.isAgg73
 z37:=Tryz.sizeOf73
 v37:=Tryz.zeroValue73
 t46:=Tryz.underlying262
 a46:=Tryz.isAgg262
 z46:=Tryz.sizeOf262
 v46:=Tryz.zeroValue262
 t51:=Tryz.underlying283
 a51:=Tryz.isAgg283
 z51:=Tryz.sizeOf283
 v51:=Tryz.zeroValue283
 t53:=Tryz.underlying247
 a53:=Tryz.isAgg247
 z53:=Tryz.sizeOf247
 v53:=Tryz.zeroValue247
 t171:=Tryz.underlying246
 a171:=Tryz.isAgg246
 z171:=Tryz.sizeOf246
 v171:=Tryz.zeroValue246
 t173:=Tryz.underlying250
 a173:=Tryz.isAgg250
 z173:=Tryz.sizeOf250
 v173:=Tryz.zeroValue250
 t212:=Tryz.underlying282
 a212:=Tryz.isAgg282
 z212:=Tryz.sizeOf282
 v212:=Tryz.zeroValue282
 t213:=Tryz.underlying284
 a213:=Tryz.isAgg284
 z213:=Tryz.sizeOf284
 t232:=Tryz.underlying324
 a232:=Tryz.isAgg324
 z232:=Tryz.sizeOf324
 v232:=Tryz.zeroValue324
 t233:=Tryz.underlying325
 a233:=Tryz.isAgg325
 z233:=Tryz.sizeOf325
 v233:=Tryz.zeroValue325
 g17:=by kernel_rfl
 g18:=by kernel_rfl
 g19:=by kernel_rfl
 i0:=by kernel_rfl
 i2:=by kernel_rfl
 i3:=by kernel_rfl
 i4:=by kernel_rfl
 i5:=by kernel_rfl
 i9:=by kernel_rfl
 i20:=by kernel_rfl
 i37:=by kernel_rfl
 i46:=by kernel_rfl
 i51:=by kernel_rfl
 i53:=by kernel_rfl
 i171:=by kernel_rfl
 i173:=by kernel_rfl
 i212:=by kernel_rfl
 i232:=by kernel_rfl
 i233:=by kernel_rfl
 m17:=by kernel_rfl
 m18:=by kernel_rfl
 m19:=by kernel_rfl}
def Tryz.laysC172_ren :Go.Shelf.Ren:=⟨fun | 172=>85 | 244=>123 | 245=>124 | 247=>156 | 279=>157 | 280=>158 | 281=>159 | 282=>160 | 287=>192 | 316=>193 | 171=>70 | 205=>194 | 321=>213 | 322=>214 | 243=>109 | 246=>146 | 283=>175 | 284=>176 | 285=>177 | 286=>178 | 129=>207 | 317=>206 | 318=>208 | 319=>209 | 320=>210 | 337=>234 | 338=>235 | n=>n,fun | 9=>9 | 3=>3 | 75=>124 | 76=>125 | 4=>4 | 5=>5 | 167=>219 | 37=>73 | 0=>0 | 85=>220 | 2=>2 | 168=>222 | 53=>247 | 175=>263 | 46=>262 | 210=>267 | 127=>181 | 145=>294 | 143=>292 | 21=>21 | 171=>246 | 173=>250 | 212=>282 | 51=>283 | 20=>20 | 213=>284 | 232=>324 | 233=>325 | 80=>134 | n=>n,fun | 15=>1 | 16=>2 | 17=>3 | 18=>6 | 19=>7 | n=>n⟩
theorem Tryz.laysC172 :Go.Proofs.LaysC.n172 prog Tryz.laysC172_ren:={
 mixed:=by kernel_rfl
 f129:=Tryz.func207.trans (congrArg some (by kernel_rfl))
 f171:=Tryz.func70.trans (congrArg some (by kernel_rfl))
 f172:=Tryz.func85.trans (congrArg some (by kernel_rfl))
 f205:=Tryz.func194.trans (congrArg some (by kernel_rfl))
 f243:=Tryz.func109.trans (congrArg some (by kernel_rfl))
 f244:=Tryz.func123.trans (congrArg some (by kernel_rfl))
 f245:=Tryz.func124.trans (congrArg some (by kernel_rfl))
 f246:=Tryz.func146.trans (congrArg some (by kernel_rfl))
 f247:=Tryz.func156.trans (congrArg some (by kernel_rfl))
 f279:=Tryz.func157.trans (congrArg some (by kernel_rfl))
 f280:=Tryz.func158.trans (congrArg some (by kernel_rfl))
 f281:=Tryz.func159.trans (congrArg some (by kernel_rfl))
 f282:=Tryz.func160.trans (congrArg some (by kernel_rfl))
 f283:=Tryz.func175.trans (congrArg some (by kernel_rfl))
 f284:=Tryz.func176.trans (congrArg some (by kernel_rfl))
 f285:=Tryz.func177.trans (congrArg some (by kernel_rfl))
 f286:=Tryz.func178.trans (congrArg some (by kernel_rfl))
 f287:=Tryz.func192.trans (congrArg some (by kernel_rfl))
 f316:=Tryz.func193.trans (congrArg some (by kernel_rfl))
 f317:=Tryz.func206.trans (congrArg some (by kernel_rfl))
 f318:=Tryz.func208.trans (congrArg some (by kernel_rfl))
 f319:=Tryz.func209.trans (congrArg some (by kernel_rfl))
 f320:=Tryz.func210.trans (congrArg some (by kernel_rfl))
 f321:=Tryz.func213.trans (congrArg some (by kernel_rfl))
 f322:=Tryz.func214.trans (congrArg some (by kernel_rfl))
 f337:=Tryz.func234.trans (congrArg some (by kernel_rfl))
 f338:=Tryz.func235.trans (congrArg some (by kernel_rfl))
 t0:=Tryz.underlying0
 a0:=Tryz.isAgg0
 z0:=Tryz.sizeOf0
 v0:=Tryz.zeroValue0
 t2:=Tryz.underlying2
 a2:=Tryz.isAgg2
 z2:=Tryz.sizeOf2
 v2:=Tryz.zeroValue2
 t3:=Tryz.underlying3
 a3:=Tryz.isAgg3
 z3:=Tryz.sizeOf3
 v3:=Tryz.zeroValue3
 t4:=Tryz.underlying4
 a4:=Tryz.isAgg4
 z4:=Tryz.sizeOf4
 v4:=Tryz.zeroValue4
 t5:=Tryz.underlying5
 a5:=Tryz.isAgg5
 z5:=Tryz.sizeOf5
 v5:=Tryz.zeroValue5
 t9:=Tryz.underlying9
 a9:=Tryz.isAgg9
 z9:=Tryz.sizeOf9
 v9:=Tryz.zeroValue9
 t20:=Tryz.underlying20
 a20:=Tryz.isAgg20
 z20:=Tryz.sizeOf20
 v20:=Tryz.zeroValue20
 t21:=Tryz.underlying21
 a21:=Tryz.isAgg21
 z21:=Tryz.sizeOf21
 v21:=Tryz.zeroValue21
 t37:=Tryz.underlying73
 a37:=Tryz.isAgg73
 z37:=Tryz.sizeOf73
 v37:=Tryz.zeroValue73
 t46:=Tryz.underlying262
 a46:=Tryz.isAgg262
 z46:=Tryz.sizeOf262
 v46:=Tryz.zeroValue262
 t51:=Tryz.underlying283
 a51:=Tryz.isAgg283
 z51:=Tryz.sizeOf283
 v51:=Tryz.zeroValue283
 t53:=Tryz.underlying247
 a53:=Tryz.isAgg247
 z53:=Tryz.sizeOf247
 v53:=Tryz.zeroValue247
 t75:=Tryz.underlying124
 a75:=Tryz.isAgg124
 z75:=Tryz.sizeOf124
 v75:=Tryz.zeroValue124
 t76:=Tryz.underlying125
 a76:=Tryz.isAgg125
 z76:=Tryz.sizeOf125
 v76:=Tryz.zeroValue125
 t85:=Tryz.underlying220
 a85:=Tryz.isAgg220
 z85:=Tryz.sizeOf220
 v85:=Tryz.zeroValue220
 t127:=Tryz.underlying181
 a127:=Tryz.isAgg181
 z127:=Tryz.sizeOf181
 v127:=Tryz.zeroValue181
 t143:=Tryz.underlying292
 a143:=Tryz.isAgg292
 z143:=Tryz.sizeOf292
 v143:=Tryz.zeroValue292
 t145:=Tryz.underlying294
 a145:=Tryz.isAgg294
 z145:=Tryz.sizeOf294
 v145:=Tryz.zeroValue294
 t167:=Tryz.underlying219
 a167:=Tryz.isAgg219
 z167:=Tryz.sizeOf219
 v167:=Tryz.zeroValue219
 t168:=Tryz.underlying222
 a168:=Tryz.isAgg222
 z168:=Tryz.sizeOf222
 v168:=Tryz.zeroValue222
 t171:=Tryz.underlying246
 a171:=Tryz.isAgg246
 z171:=Tryz.sizeOf246
 v171:=Tryz.zeroValue246
 t173:=Tryz.underlying250
 a173:=Tryz.isAgg250
 z173:=Tryz.sizeOf250
 v173:=Tryz.zeroValue250
 t175:=Tryz.underlying263
 a175:=Tryz.isAgg263
 z175:=Tryz.sizeOf263
 v175:=Tryz.zeroValue263
 t210:=Tryz.underlying267
 a210:=Tryz.isAgg267
 z210:=Tryz.sizeOf267
 v210:=Tryz.zeroValue267
 t212:=Tryz.underlying282
 a212:=Tryz.isAgg282
 z212:=Tryz.sizeOf282
 v212:=Tryz.zeroValue282
 t213:=Tryz.underlying284
 a213:=Tryz.isAgg284
 z213:=Tryz.sizeOf284
 t232:=Tryz.underlying324
 a232:=Tryz.isAgg324
 z232:=Tryz.sizeOf324
 v232:=Tryz.zeroValue324
 t233:=Tryz.underlying325
 a233:=Tryz.isAgg325
 z233:=Tryz.sizeOf325
 v233:=Tryz.zeroValue325
 g15:=by kernel_rfl
 g16:=by kernel_rfl
 g17:=by kernel_rfl
 g18:=by kernel_rfl
 g19:=by kernel_rfl
 t80:=Tryz.underlying134
 a80:=Tryz.isAgg134
 z80:=Tryz.sizeOf134
 v80:=Tryz.zeroValue134
 i0:=by kernel_rfl
 i2:=by kernel_rfl
 i3:=by kernel_rfl
 i4:=by kernel_rfl
 i5:=by kernel_rfl
 i9:=by kernel_rfl
 i20:=by kernel_rfl
 i21:=by kernel_rfl
 i37:=by kernel_rfl
 i46:=by kernel_rfl
 i51:=by kernel_rfl
 i53:=by kernel_rfl
 i75:=by kernel_rfl
 i76:=by kernel_rfl
 i80:=by kernel_rfl
 i85:=by kernel_rfl
 i127:=by kernel_rfl
 i143:=by kernel_rfl
 i145:=by kernel_rfl
 i167:=by kernel_rfl
 i168:=by kernel_rfl
 i171:=by kernel_rfl
 i173:=by kernel_rfl
 i175:=by kernel_rfl
 i210:=by kernel_rfl
 i212:=by kernel_rfl
 i232:=by kernel_rfl
 i233:=by kernel_rfl
 m15:=by kernel_rfl
 m16:=by kernel_rfl
 m17:=by kernel_rfl
 m18:=by kernel_rfl
 m19:=by kernel_rfl
 c0:=by kernel_rfl
 c2:=by kernel_rfl
 c3:=by kernel_rfl
 c4:=by kernel_rfl
 c5:=by kernel_rfl
 c9:=by kernel_rfl
 c20:=by kernel_rfl
 c21:=by kernel_rfl
 c37:=by kernel_rfl
 c46:=by kernel_rfl
 c51:=by kernel_rfl
 c53:=by kernel_rfl
 c75:=by kernel_rfl
 c76:=by kernel_rfl
 c80:=by kernel_rfl
 c85:=by kernel_rfl
 c127:=by kernel_rfl
 c143:=by kernel_rfl
 c145:=by kernel_rfl
 c167:=by kernel_rfl
 c168:=by kernel_rfl
 c171:=by kernel_rfl
 c173:=by kernel_rfl
 c175:=by kernel_rfl
 c210:=by kernel_rfl
 c212:=by kernel_rfl
 c213:=by kernel_rfl
 c232:=by kernel_rfl
 c233:=by kernel_rfl}
def Tryz.lays219_ren :Go.Shelf.Ren:=⟨fun | 219=>154 | 217=>188 | 225=>189 | 224=>190 | 267=>191 | 266=>211 | 314=>212 | n=>n,fun | 9=>9 | 3=>3 | 4=>4 | 5=>5 | 46=>262 | 146=>289 | 51=>283 | n=>n,fun | 1=>0 | n=>n⟩
theorem Tryz.lays219 :Go.Proofs.Lays.n219 prog Tryz.lays219_ren:={
 mixed:=by kernel_rfl
 f217:=Tryz.func188.trans (congrArg some (by kernel_rfl))
 f219:=Tryz.func154.trans (congrArg some (by kernel_rfl))
 f224:=Tryz.func190.trans (congrArg some (by kernel_rfl))
 f225:=Tryz.func189.trans (congrArg some (by kernel_rfl))
 f266:=Tryz.func211.trans (congrArg some (by kernel_rfl))
 f267:=Tryz.func191.trans (congrArg some (by kernel_rfl))
 f314:=Tryz.func212.trans (congrArg some (by kernel_rfl))
 t3:=Tryz.underlying3
 a3:=Tryz.isAgg3
 z3:=Tryz.sizeOf3
 v3:=Tryz.zeroValue3
 t4:=Tryz.underlying4
 a4:=Tryz.isAgg4
 z4:=Tryz.sizeOf4
 v4:=Tryz.zeroValue4
 t5:=Tryz.underlying5
 a5:=Tryz.isAgg5
 z5:=Tryz.sizeOf5
 v5:=Tryz.zeroValue5
 t9:=Tryz.underlying9
 a9:=Tryz.isAgg9
 z9:=Tryz.sizeOf9
 v9:=Tryz.zeroValue9
 t46:=Tryz.underlying262
 a46:=Tryz.isAgg262
 z46:=Tryz.sizeOf262
 v46:=Tryz.zeroValue262
 t51:=Tryz.underlying283
 a51:=Tryz.isAgg283
 z51:=Tryz.sizeOf283
 v51:=Tryz.zeroValue283
 t146:=Tryz.underlying289
 a146:=Tryz.isAgg289
 z146:=Tryz.sizeOf289
 v146:=Tryz.zeroValue289
 g1:=by kernel_rfl}
def Tryz.lays138_ren :Go.Shelf.Ren:=⟨fun | 138=>82 | 195=>119 | 218=>120 | 143=>118 | 219=>154 | 217=>188 | 225=>189 | 224=>190 | 267=>191 | 266=>211 | 314=>212 | n=>n,fun | 9=>9 | 3=>3 | 4=>4 | 5=>5 | 0=>0 | 46=>262 | 146=>289 | 51=>283 | n=>n,fun | 1=>0 | n=>n⟩
theorem Tryz.lays138 :Go.Proofs.Lays.n138 prog Tryz.lays138_ren:={
 mixed:=by kernel_rfl
 f138:=Tryz.func82.trans (congrArg some (by kernel_rfl))
 f143:=Tryz.func118.trans (congrArg some (by kernel_rfl))
 f195:=Tryz.func119.trans (congrArg some (by kernel_rfl))
 f217:=Tryz.func188.trans (congrArg some (by kernel_rfl))
 f218:=Tryz.func120.trans (congrArg some (by kernel_rfl))
 f219:=Tryz.func154.trans (congrArg some (by kernel_rfl))
 f224:=Tryz.func190.trans (congrArg some (by kernel_rfl))
 f225:=Tryz.func189.trans (congrArg some (by kernel_rfl))
 f266:=Tryz.func211.trans (congrArg some (by kernel_rfl))
 f267:=Tryz.func191.trans (congrArg some (by kernel_rfl))
 f314:=Tryz.func212.trans (congrArg some (by kernel_rfl))
 t0:=Tryz.underlying0
 a0:=Tryz.isAgg0
 z0:=Tryz.sizeOf0
 v0:=Tryz.zeroValue0
 t3:=Tryz.underlying3
 a3:=Tryz.isAgg3
 z3:=Tryz.sizeOf3
 v3:=Tryz.zeroValue3
 t4:=Tryz.underlying4
 a4:=Tryz.isAgg4
 z4:=Tryz.sizeOf4
 v4:=Tryz.zeroValue4
 t5:=Tryz.underlying5
 a5:=Tryz.isAgg5
 z5:=Tryz.sizeOf5
 v5:=Tryz.zeroValue5
 t9:=Tryz.underlying9
 a9:=Tryz.isAgg9
 z9:=Tryz.sizeOf9
 v9:=Tryz.zeroValue9
 t46:=Tryz.underlying262
 a46:=Tryz.isAgg262
 z46:=Tryz.sizeOf262
 v46:=Tryz.zeroValue262
 t51:=Tryz.underlying283
 a51:=Tryz.isAgg283
 z51:=Tryz.sizeOf283
 v51:=Tryz.zeroValue283
 t146:=Tryz.underlying289
 a146:=Tryz.isAgg289
 z146:=Tryz.sizeOf289
 v146:=Tryz.zeroValue289
 g1:=by kernel_rfl}
def Tryz.lays146_ren :Go.Shelf.Ren:=⟨fun | 146=>44 | 221=>81 | 268=>117 | 138=>82 | 143=>118 | 195=>119 | 197=>153 | 218=>120 | 219=>154 | 260=>187 | 217=>188 | 225=>189 | 224=>190 | 267=>191 | 266=>211 | 314=>212 | n=>n,fun | 9=>9 | 31=>70 | 3=>3 | 4=>4 | 0=>0 | 105=>217 | 21=>21 | 5=>5 | 46=>262 | 119=>285 | 139=>288 | 138=>287 | 146=>289 | 51=>283 | n=>n,fun | 1=>0 | 3=>4 | 4=>5 | n=>n⟩
theorem Tryz.lays146 :Go.Proofs.Lays.n146 prog Tryz.lays146_ren:={
 mixed:=by kernel_rfl
 f138:=Tryz.func82.trans (congrArg some (by kernel_rfl))
 f143:=Tryz.func118.trans (congrArg some (by kernel_rfl))
 f146:=Tryz.func44.trans (congrArg some (by kernel_rfl))
 f195:=Tryz.func119.trans (congrArg some (by kernel_rfl))
 f197:=Tryz.func153.trans (congrArg some (by kernel_rfl))
 f217:=Tryz.func188.trans (congrArg some (by kernel_rfl))
 f218:=Tryz.func120.trans (congrArg some (by kernel_rfl))
 f219:=Tryz.func154.trans (congrArg some (by kernel_rfl))
 f221:=Tryz.func81.trans (congrArg some (by kernel_rfl))
 f224:=Tryz.func190.trans (congrArg some (by kernel_rfl))
 f225:=Tryz.func189.trans (congrArg some (by kernel_rfl))
 f260:=Tryz.func187.trans (congrArg some (by kernel_rfl))
 f266:=Tryz.func211.trans (congrArg some (by kernel_rfl))
 f267:=Tryz.func191.trans (congrArg some (by kernel_rfl))
 f268:=Tryz.func117.trans (congrArg some (by kernel_rfl))
 f314:=Tryz.func212.trans (congrArg some (by kernel_rfl))
 t0:=Tryz.underlying0
 a0:=Tryz.isAgg0
 z0:=Tryz.sizeOf0
 v0:=Tryz.zeroValue0
 t3:=Tryz.underlying3
 a3:=Tryz.isAgg3
 z3:=Tryz.sizeOf3
 v3:=Tryz.zeroValue3
 t4:=Tryz.underlying4
 a4:=Tryz.isAgg4
 z4:=Tryz.sizeOf4
 v4:=Tryz.zeroValue4
 t5:=Tryz.underlying5
 a5:=Tryz.isAgg5
 z5:=Tryz.sizeOf5
 v5:=Tryz.zeroValue5
 t9:=Tryz.underlying9
 a9:=Tryz.isAgg9
 z9:=Tryz.sizeOf9
 v9:=Tryz.zeroValue9
 t21:=Tryz.underlying21
 a21:=Tryz.isAgg21
 z21:=Tryz.sizeOf21
 v21:=Tryz.zeroValue21
 t31:=Tryz.underlying70
 a31:=Tryz.isAgg70
 z31:=Tryz.sizeOf70
 v31:=Tryz.zeroValue70
 t46:=Tryz.underlying262
 a46:=Tryz.isAgg262
 z46:=Tryz.sizeOf262
 v46:=Tryz.zeroValue262
 t51:=Tryz.underlying283
 a51:=Tryz.isAgg283
 z51:=Tryz.sizeOf283
 v51:=Tryz.zeroValue283
 t105:=Tryz.underlying217
 a105:=Tryz.isAgg217
 z105:=Tryz.sizeOf217
 v105:=Tryz.zeroValue217
 t119:=Tryz.underlying285
 a119:=Tryz.isAgg285
 z119:=Tryz.sizeOf285
 t138:=Tryz.underlying287
 a138:=Tryz.isAgg287
 z138:=Tryz.sizeOf287
 v138:=Tryz.zeroValue287
 t139:=Tryz.underlying288
 a139:=Tryz.isAgg288
 z139:=Tryz.sizeOf288
 v139:=Tryz.zeroValue288
 t146:=Tryz.underlying289
 a146:=Tryz.isAgg289
 z146:=Tryz.sizeOf289
 v146:=Tryz.zeroValue289
 g1:=by kernel_rfl
 g3:=by kernel_rfl
 g4:=by kernel_rfl}
def Tryz.lays240_ren :Go.Shelf.Ren:=⟨fun | 240=>108 | 276=>145 | n=>n,fun | 0=>0 | 4=>4 | 9=>9 | 20=>20 | 70=>72 | 72=>75 | 164=>210 | 37=>73 | n=>n,fun | n=>n⟩
theorem Tryz.lays240 :Go.Proofs.Lays.n240 prog Tryz.lays240_ren:={
 mixed:=by kernel_rfl
 f240:=Tryz.func108.trans (congrArg some (by kernel_rfl))
 f276:=Tryz.func145.trans (congrArg some (by kernel_rfl))
 t0:=Tryz.underlying0
 a0:=Tryz.isAgg0
 z0:=Tryz.sizeOf0
 v0:=Tryz.zeroValue0
 t4:=Tryz.underlying4
 a4:=Tryz.isAgg4
 z4:=Tryz.sizeOf4
 v4:=Tryz.zeroValue4
 t9:=Tryz.underlying9
 a9:=Tryz.isAgg9
 z9:=Tryz.sizeOf9
 v9:=Tryz.zeroValue9
 t20:=Tryz.underlying20
 a20:=Tryz.isAgg20
 z20:=Tryz.sizeOf20
 v20:=Tryz.zeroValue20
 t70:=Tryz.underlying72
 a70:=Tryz.isAgg72
 z70:=Tryz.sizeOf72
 v70:=Tryz.zeroValue72
 t72:=Tryz.underlying75
 a72:=Tryz.isAgg75
 z72:=Tryz.sizeOf75
 v72:=Tryz.zeroValue75
 t164:=Tryz.underlying210
 a164:=Tryz.isAgg210
 z164:=Tryz.sizeOf210
 v164:=Tryz.zeroValue210
}
theorem Tryz.Builder_X72_240 :Builder.X72 prog Tryz.lays240_ren where
 sizeBuilder:=by kernel_rfl
 liesBuilder:=by kernel_rfl
end Go.Proofs
namespace Go.Am
open IntKind (wrap)
open Go.Proofs.Tryz
open Go.Proofs
theorem IB :Mn prog:=fun _ b p v w l cZ hbk hv=>by
 rcases hv with ⟨rfl,rfl⟩ | ⟨g,o,c,cur,rfl,hlc,hg,hn,hc⟩
 .refine (QT Tryz.lays169 Tryz.Builder_Extra_169 b p w hbk).mono fun e w' ⟨he,hw⟩=>⟨he,?_⟩
  subst hw;exact ⟨Ai _,fun k o hk _=>hk,rfl,rfl,rfl⟩
 .cases l with
  | nil=>
   by_cases hc0:c=0
   .subst hc0;refine (RG Tryz.lays169 Tryz.Builder_Extra_169 b p w g o cur hbk hg).mono fun e w' ⟨he,hw⟩=>⟨he,?_⟩
    subst hw;refine ⟨?_,fun k ob hk _=> ?_,rfl,rfl,rfl⟩
    .show w.heap.size<=(w.heap.push _).size;rw [Array.size_push];exact Bp _
    .show (w.heap.push _)[k]? =_;rw [Bj,At (AQ (As.1 hk).1)];exact hk
   .refine (Q1 Tryz.lays169 Tryz.Builder_Extra_169 b p w g o c hc0 hbk).mono fun e w' ⟨he,hw⟩=>⟨he,?_⟩
    subst hw;exact ⟨Ai _,fun k o hk _=>hk,rfl,rfl,rfl⟩
  | cons x r=>
   refine (Q2 Tryz.lays169 Tryz.Builder_Extra_169 b p w g o c cur (x::r) (by simp) hlc cZ hbk hg (hn (by simp)) hc).mono fun e w' ⟨he,hw⟩=>⟨he,?_⟩
   subst hw;obtain ⟨f1,f2,f3,f4⟩:=Q3 w.drew ⟨g,o,none⟩ (x::r).length;exact ⟨Bs f1.symm,fun k ob hk hne=>(WP w.drew g o _ k (hne g o _ c rfl)).trans hk,f2,f3,f4⟩
def GW (P:Program):Bool:=P.funcs.toList.all fun fn=>fn.body.isNone|| !(fn.name == "runtime.NumGoroutine")
theorem UT {P:Program} (h:GW P=true) (hs:Mn P):Qy P:=by
 refine ⟨fun f fn hf hb=> ?_,hs⟩;have hm:fn∈P.funcs.toList:=by rw [Array.mem_toList_iff];exact Array.mem_of_getElem? hf
 have:=Av.mp h fn hm;cases hbb:fn.body with
 | none=>rw [hbb] at hb;cases hb
 | some b=>simpa [hbb] using this
theorem FZ :Qy prog:=UT (by kernel_rfl) IB
theorem mixed :prog.follows .mixedOrders =true:=by kernel_rfl
end Go.Am
namespace Go.Am
open IntKind (wrap)
open Go.Proofs.Tryz
open Go.Proofs
instance {α :Type} [Ww α]:Ww (List α) where
 w:=1
 d:=[]
 cells l:=[.dat l.length (Zx l)]
 of cs:=match cs.getD 0 .undef with
  | .dat n g=>lst α n g
  | _=>[]
 len _:=rfl
 pos:=Ai 1
 flat _:=rfl
 sc _:=rfl
 back l:=LH l
theorem TA {α:Type} [Ww α] {L:List α} {n off sz:Nat} {cells:List BA} (hn:n=L.length) (hsz:sz=Ww.w α) (hc:(cells.drop off).take (n*sz)=(L.map Ww.cells).flatten):Wj n (K2 cells off sz) (Zx L)=true:=pd_true fun i hi=>by
 have e:((((cells.drop off).take (n*sz)).drop (i*sz)).take sz)=(cells.drop (off+i*sz)).take sz:=by rw [List.drop_take,List.take_take,List.drop_drop,Nat.min_eq_left];have:=Au sz (show i+1<=n by omega);rw [AA,Bq] at this;omega
 have h:=Lh (sz:=sz) (L.map Ww.cells) i (fun x hx=>by obtain ⟨y,_,rfl⟩:=List.mem_map.1 hx;rw [Ww.len,hsz]) (by simpa using by omega);unfold K2;rw [<-e,hc,h];simp only [Zx];rw [Je (show i<L.length by omega),A4,Br,Ak (show i<L.length by omega)];rfl
theorem VD {G H:Nat->List BA} (h:G 0=H 0):Wj 1 G H=true:=pd_true fun i hi=>by
 obtain rfl:i=0:=by omega
 exact h
theorem RX {L:List BA} (s t:Nat) (h:L.all (pf 6)=true):Uj (fun k=>(L.drop (k*s)).take t)=true:=pd_true fun i=>
 Av.2 fun v hv=>Av.1 h v (List.mem_of_mem_drop (List.mem_of_mem_take hv))
structure OB where
 b:Bool
 h:b=true
def nn :OB:=⟨true,rfl⟩
def pp (q r:OB):OB:=⟨q.b&&r.b,HL q.h r.h⟩
def tt {c v:Bool} (k:c=v) (r:OB):OB:=⟨(c == v)&&r.b,HL (M9 k) r.h⟩
def ww {c:Bool} (k:c=true) (r:OB):OB:=⟨c&&r.b,HL k r.h⟩
def fl {α:Type} [Ww α] (L:List α) (r:OB):OB:=⟨Uj (Zx L)&&r.b,HL (Jq L) r.h⟩
def xw {c:Bool} (k:c=true):OB:=⟨c,k⟩
def xI (α:Type) [Ww α] (n:Nat) (g:Nat->List BA) (h:CJ α n g=true:=by first | with_reducible exact J2 _ _ | exact J2 _ _ | exact Ob _ | exact PB _ _ _ | assumption | exact UI _ rfl | exact UJ _ rfl rfl):OB:=⟨CJ α n g,h⟩
def xr {α:Type} [Ww α] (L:List α):OB:=⟨CJ α L.length (Zx L),J2 L _⟩
def xL (a b:Nat) (h:FX a b=true:=by first | exact Zr rfl | exact Zr (by simp only [Al,Aq,Ay,List.length_set,Lu,Za,List.length_replicate] <;> omega) | assumption):OB:=⟨FX a b,h⟩
def xS (n:Nat) (G H:Nat->List BA) (h:Wj n G H=true:=by
  repeat' (first | exact Xy _ _ | assumption | exact WO _ _ | exact VD rfl | exact Wv | exact TA rfl rfl rfl | rfl | (refine Vp ?_ ?_ rfl rfl rfl) | (refine Oo ?_ ?_ rfl) | exact WN _ _ _ | (refine VC ?_ ?_ ?_ (Nat.min_le_left _ _)) | exact Rv (by repeat' (first | exact Xy _ _ | (refine Vp ?_ ?_ rfl rfl rfl) | (refine Oo ?_ ?_ rfl) | (simp only [Al,Aq,Ay,List.length_set,Lu];done) | omega)) (by assumption) | (refine Wt ?_ ?_ ?_ rfl) | exact Vz (Xy _ _) rfl | apply Xi | exact VE rfl rfl | exact Az _ | (simp only [Al,Aq,Ay,List.length_set,Lu,Za,List.length_replicate] <;> omega))):OB:=⟨Wj n G H,h⟩
def xF (G:Nat->List BA) (h:Uj G=true:=by
  repeat' (first | with_reducible exact Jq _ | apply VW | apply VZ | apply VX | apply VY | exact Jq _ | exact RW | exact Sb _ _ | exact RX _ _ rfl | apply OC | rfl | assumption)):OB:=⟨Uj G,h⟩
def xZ (v:BA) (n:Nat) (g:Nat->List BA) (h:Hv v n g=true:=by first | exact UG _ _ _ | exact V0 _ _):OB:=⟨Hv v n g,h⟩
def xG (c:Bool) (h:c=true:=by
  repeat' (first | with_reducible (first | assumption | exact Nat.beq_refl _ | exact TT _ | exact UU _ | exact WB _ | exact UD _ | exact WA _ | apply HL | apply M9) | rfl | exact UH _ | exact RS _ _ rfl | exact RR _ _ _ rfl | exact V6 _ _ rfl | exact Ra rfl | exact U6 rfl rfl (fun _=>rfl) | (refine SZ ?_ (by assumption)) | (refine VT ?_ rfl rfl rfl) | exact J2 _ _ | exact Ob _ | exact PB _ _ _ | exact Jq _ | apply OC | apply HL | apply M9)):OB:=⟨c,h⟩
abbrev tn (n:Int):Nat:=Int.toNat n
abbrev ii (n:Int):BA:=.int .i64 n
abbrev wr (n:Int):Int:=wrap .i64 n
def Bu (n:Nat) (l:List Bool):List Bool:=Nat.rec l (fun _ r=>true::r) n
abbrev a8:DX:=⟨[],[],[]⟩
abbrev b8 (l:List Nat):BY:=⟨[],[],[some l],[]⟩
theorem sl {S:BB} (hS:Zk prog S) (n:Nat) (gs:List (TypeId×Nat×(Nat->List BA))) (N:BY) (L:DX) (orc:List Bool) (ob:OB) {C C':BJ}
  (h:(((Hw prog S (E4 prog S 100000 4) n (C.withO orc)).map (KQ gs)).bind (Hy prog N)).map (HV L)=some (C'.withB ob.b):=by kernel_rfl) (hfl:H7 C=true:=by rfl):Qg prog C C':=
 VH FZ mixed hS gs N L orc ob.b h ob.h hfl
def rC (n f:Nat) (p:List Nat) (j r:Nat) (env:List (Nat×BA)):BJ:=⟨⟨n,0,true⟩,none,Yb prog f p j,none,Zy prog r,⟨Kk env,BV [] 0,0,[],true⟩,[],.leaf⟩
theorem lr {σ:Type} {cfg:σ->BJ} {C:BJ} {rs:List ResultVar} {vs:List BA} (n f:Nat) (p:List Nat) (j r:Nat) (env:List (Nat×BA)) (h:Qg prog C (rC n f p j r env)) (hf:Qd (rC n f p j r env)=true:=by rfl)
  (hr:Wg prog (rC n f p j r env).st rs=some vs:=by kernel_rfl):Uu prog rs cfg C (.ret vs):=UN _ h hf hr
theorem lb {rs:List ResultVar} {σ:Type} {cfg:σ->BJ} {C:BJ} {c:Bool} {a b:Vu σ} (ha:c=true->Uu prog rs cfg C a) (hb:c=false->Uu prog rs cfg C b):Uu prog rs cfg C (bif c then a else b):=Oc ha hb
theorem lo {rs:List ResultVar} {σ:Type} {cfg:σ->BJ} {C:BJ} {c:Bool} {a:Vu σ} (ha:c=true->Uu prog rs cfg C a):Uu prog rs cfg C (bif c then a else .stuck):=UM ha
def By :Type:=UInt8
def yI (b:By):Int:=((b:UInt8).toNat :Int)
def yB (n:Int):By:=UInt8.ofNat n.toNat
def BM (s:List UInt8):List By:=s
abbrev QO (s:List By):List UInt8:=s
theorem EV (b:By):yB (yI b)=b:=by show UInt8.ofNat (((b:UInt8).toNat :Int)).toNat =b;rw [Int.toNat_natCast];exact UInt8.ofNat_toNat
instance : Ww By where
 w:=1
 d:=(0:UInt8)
 cells b:=[.int .u8 (yI b)]
 of l:=yB (BZ (l.getD 0 .undef))
 len _:=rfl
 pos:=Ai 1
 flat _:=rfl
 sc _:=rfl
 back b:=EV b
def QL :BA->List UInt8
 | .str s=>s
 | _=>[]
instance (priority :=high) instStr:Ww (List UInt8) where
 w:=1
 d:=[]
 cells s:=[.str s]
 of l:=QL (l.getD 0 .undef)
 len _:=rfl
 pos:=Ai 1
 flat _:=rfl
 sc _:=rfl
 back _:=rfl
theorem VI (b:By):0<=yI b/\yI b<256:=by have:=UInt8.toNat_lt (b:UInt8);unfold yI;omega
theorem Uq (s:List UInt8):Wj s.length (Wu s) (Zx (BM s))=true:=pd_true fun i hi=>by have h:rd (BM s) i=s[i]'hi:=Je (L:=BM s) hi;show [BA.int .u8 (CN s i)]=[BA.int .u8 (yI (rd (BM s) i))];rw [h];simp [CN,yI,List.getD,Ak hi]
theorem SG (l:List By) (n:Nat) (hn:n=l.length):Cy n (Zx l)=QO l:=by
 subst hn;unfold Cy;refine List.ext_getElem (by rw [List.length_map,List.length_range];rfl) fun i h1 h2=> ?_;rw [List.getElem_map,List.getElem_range];have hi:i<l.length:=by rw [List.length_map,List.length_range] at h1;exact h1
 show FC (([BA.int .u8 (yI (rd l i))]).getD 0 .undef)=_;rw [Je hi];show FC (BA.int .u8 (yI l[i]))=_;exact EV _
theorem PA (b:By):EP (.int .u8 (yI b))=true:=by have h:=VI b;unfold EP;exact Ah h
theorem TS (l:List By) (n:Nat):Hb n (Zx l)=true:=Um fun k _=>⟨_,rfl,PA _⟩
theorem T1 (l:List By) (n:Nat):Hb n (fun k=>Zx l (0+k))=true:=Um fun k _=>⟨_,rfl,PA _⟩
def xY (n:Nat) (g:Nat->List BA) (h:Hb n g=true:=by first | exact T1 _ _ | exact TS _ _ | assumption):OB:=⟨Hb n g,h⟩
theorem TC (l:List By) (n:Nat) (hn:n=l.length):Cy n (fun k=>Zx l (0+k))=QO l:=by
 have:(fun k=>Zx l (0+k))=Zx l:=funext fun k=>by rw [Az]
 rw [this,SG l n hn]
theorem Zo (s:List UInt8):(BM s).length =s.length:=rfl
theorem Wi {α:Type} [Ww α] {L:List α} {n:Nat}:Wj n (Zx L) (Zx (Yg L 0 n))=true:=pd_true fun i hi=>by show Ww.cells (rd L i)=Ww.cells (rd (Yg L 0 n) i);rw [LM hi,Az]
abbrev Iz :Nat:=154
abbrev JK :Nat:=82
abbrev DQ :Nat:=73
abbrev IC :Nat:=44
abbrev Iw :Nat:=70
abbrev JN :Nat:=85
abbrev JJ :Nat:=108
abbrev EH :Nat:=78
abbrev I7 :Nat:=125
abbrev GY :Nat:=59
abbrev Fw :Nat:=21
abbrev Fi :Nat:=24
abbrev Il :Nat:=22
abbrev IX :Nat:=23
abbrev IM :Nat:=49
abbrev IF :Nat:=51
abbrev IG :Nat:=88
abbrev Pf :Nat:=58
abbrev Ej :Nat:=60
-- not there: (gambrel/mesh.view).faces
abbrev P3 :Nat:=97
-- not there: gambrel/gambrellaw19.alive
abbrev P2 :Nat:=95
-- not there: gambrel/gambrellaw19.fit
end Go.Am
namespace Go.Am
open IntKind (wrap)
open Go.Proofs Go.Sort
theorem Vf {P:Program} {S:BB} (hS:Zk P S) {f:FuncId} {F:List BA->Option (BA×Bool)} (hf:(P.funcs[f]?).any (fun fn=>fn.body.isSome)=true) (hF:H3 P f F):Zk P (S.with f F):=by
 intro g G hg;unfold BB.with at hg;cases hgf:Nat.beq g f with
 | false=>rw [hgf] at hg;exact hS g G hg
 | true=>
  rw [hgf] at hg;obtain rfl:Cs.val F=G:=Ab hg;obtain rfl:g=f:=Af hgf;refine ⟨?_,hF⟩;cases hfn:P.funcs[g]? with
  | none=>rw [hfn] at hf;cases hf
  | some fn=>rw [hfn] at hf;exact ⟨fn,rfl,hf⟩
theorem WS {P:Program} {S:BB} (hS:Zk P S) {f:FuncId} {F:List BA->BG->Option (BA×Nat×BD×Bool)} (hf:(P.funcs[f]?).any (fun fn=>fn.body.isSome)=true) (hF:Mi P f F):Zk P (fun g=>bif Nat.beq g f then some (.eff F) else S g):=by
 intro g G hg;cases hgf:Nat.beq g f with
 | false=>simp only [hgf,Aj] at hg;exact hS g G hg
 | true=>
  simp only [hgf,Ao] at hg;obtain rfl:Cs.eff F=G:=Ab hg;obtain rfl:g=f:=Af hgf;refine ⟨?_,hF⟩;cases hfn:P.funcs[g]? with
  | none=>rw [hfn] at hf;cases hf
  | some fn=>rw [hfn] at hf;exact ⟨fn,rfl,hf⟩
theorem Kq {P:Program} {f:FuncId} {F:List BA->Option (BA×Bool)}
  (h: ∀args v,F args=some (v,true)-> ∀(H:CK) (vals:Array Value) (w:World),Xq (Zp (Un H)) args vals.toList->(∀k o,H k=some o->w.heap[k]? =some o)->Glob H->Calls P f vals w fun e w'=> ∃u,e=.returned u/\Zp (Un H) v u/\RowKit.Below w.heap.size w w'):H3 P f F:=
 fun args v hv H vals w dB hH hG=>(h args v hv H vals w dB hH hG).mono fun e w' ⟨u,he,hu,hb⟩=>⟨H,u,fun _ _ h=>h,fun k o e=>by rw [hb.block k (As.1 (hH k o e)).1];exact hH k o e,fun _ _=>rfl,he,hu,hb⟩
open Go.Proofs.Tryz
open Go.Lib
def Gp (args:List BA) (mem:BG):Option (BA×Nat×BD×Bool):=match args with
 | [.ptr b 0]=>match Zf mem b with
  | some ⟨.obj .bld ::r,ty,none⟩=>some (.tup [],b,⟨.obj .bld ::r,ty,none⟩,Nat.beq ty Bv)
  | _=>none
 | _=>none
theorem Q4 {w:World} {k:Nat} {c:Array Value} {el:TypeId} {fz:Nat×Nat} (h:w.heap[k]? =some (.cells c el fz)) (v:Value):w.setCell ⟨k,0,none⟩ v=w.putObj k (.cells (c.setIfInBounds 0 v) el fz):=by
 unfold World.setCell World.putObj
 congr 1
 apply Array.ext_getElem?;intro i;rw [Array.getElem?_modify,Array.getElem?_setIfInBounds];split
 .rename_i e;subst e;have hlt:=(As.1 h).1;show Option.map _ w.heap[k]? =_;rw [h,Aw hlt];rfl
 .rfl
theorem W0 :Mi prog JJ Gp:=by
 intro args mem v b blk h hsome ρ next floor vals w hfl dB cY
 unfold Gp at h;split at h
 .rename_i b0;split at h
  .rename_i r ty hm;simp only [Ac,Aa] at h;obtain ⟨rfl,rfl,rfl,hty⟩:=h;obtain rfl:ty=Bv:=Af hty;obtain ⟨l,hl,hvals⟩: ∃l,ρ b0=some l/\vals= #[.pointer (some ⟨l.blk,l.base+0,none⟩)]:=by
    obtain ⟨vl⟩:=vals;cases dB with
    | cons h1 h2=>
     cases h2;cases h1 with
     | ptr _ _ l e=>exact ⟨l,e,rfl⟩
   have hk:=cY.blk b0 l _ hl hm;cases hk with
   | plain k=>exact absurd k.noObj (by simp [BD.isObj])
   | obj o r' ty' e1 e2 e3=>
    simp only [BD.mk.injEq,A9,BA.obj.injEq,and_true] at e1;obtain ⟨⟨rfl,rfl⟩,rfl⟩:=e1;obtain ⟨buf,v,p,rfl,hb,hv,hp⟩:=e3;have eG:l.base=0:=(by rw [e2]);rw [eG] at hvals;subst hvals;have hev: ∀p',(p'=none\/p'=some (⟨l.blk,0,none⟩:Addr))->D7 ρ Bv l.blk [buf] .bld (some (.cells #[.pointer p',v] Bv (0,0))):=fun p' h=>⟨buf,v,p',rfl,rfl,hv,h⟩
    rcases hp with rfl | rfl
    .refine (Any.Builder_copyCheck_fresh Tryz.lays240 Tryz.Builder_X72_240 l.blk w (by simp [World.cell?,hb]) (by simp [World.shape?,hb];rfl) (by simp [World.frozen?,hb])).mono fun e w' ⟨he,hw⟩=>⟨_,he,.tup [] #[] rfl (fun i h=>absurd h (Ax _)),?_⟩
     rw [Q4 hb] at hw;subst hw;exact ⟨cY.setObj hl hm rfl rfl _ (hev _ (.inr rfl)),Ev.ofObj cY hl hfl _ _⟩
    .refine (Any.Builder_copyCheck_used Tryz.lays240 Tryz.Builder_X72_240 l.blk w (by simp [World.cell?,hb])).mono fun e w' ⟨he,hw⟩=>⟨_,he,.tup [] #[] rfl (fun i h=>absurd h (Ax _)),?_⟩
     subst hw;have eE:w'.putObj l.blk (.cells #[.pointer (some ⟨l.blk,0,none⟩),v] Bv (0,0))=w':=by
      have hlt:=(As.1 hb).1;have:w'.heap.setIfInBounds l.blk (.cells #[.pointer (some ⟨l.blk,0,none⟩),v] Bv (0,0))=w'.heap:=by
       apply Array.ext_getElem?;intro i;rw [Array.getElem?_setIfInBounds];split
       .rename_i e;subst e;rw [hb]
       .rfl
      unfold World.putObj;rw [this]
     have A:=cY.setObj hl hm rfl rfl _ (hev _ (.inr rfl));have B:=Ev.ofObj cY hl hfl (some ⟨[.obj .bld,buf],Bv,none⟩) (.cells #[.pointer (some ⟨l.blk,0,none⟩),v] Bv (0,0));rw [eE] at A B;exact ⟨A,B⟩
  .cases h
 .cases h
def Ye (n:Int):List UInt8:=itoa n
def Zb (n:Int):Bool:=decide (-9223372036854775808<=n/\n<=9223372036854775807)
def Gj :List BA->Option (BA×Bool)
 | [.int .i64 n]=>some (.str (Ye n),Zb n)
 | _=>none
theorem SX (w:World) (k:Nat) (os:Array Obj):RowKit.Below w.heap.size w (grow (w.drewN k) os):=
 ⟨rfl,rfl,rfl,by show _<=(w.heap++os).size;rw [Array.size_append];exact Nat.le_add_right _ _,fun k hk=>by show (w.heap++os)[k]? =_;rw [Array.getElem?_append_left hk]⟩
theorem WH {H:CK} {w:World} (hH: ∀k o,H k=some o->w.heap[k]? =some o) (hG:Glob H):Lib.TabIs prog w "internal/strconv.uint64pow10" .u64 Lib.pow10Tab:=by
 obtain ⟨el,fz,e⟩:=hG.pow (gpow.headD 0) (by decide);have h:prog.globalNamed "internal/strconv.uint64pow10" =some (gpow.headD 0):=by kernel_rfl
 unfold Lib.TabIs World.var?;rw [h];show (match w.heap[gpow.headD 0]? with | some (.cells cs _ _)=>some cs | _=>none)=_;rw [hH _ _ e];show some pow10A=_;unfold pow10A Lib.pow10Tab;rw [List.map_map];rfl
theorem G5 :H3 prog Iw Gj:=Kq fun args v hv H vals w dB hH hG=>by
 unfold Gj at hv;split at hv
 .rename_i n;simp only [Ac,Aa] at hv;obtain ⟨rfl,ho⟩:=hv;have ho: -9223372036854775808<=n/\n<=9223372036854775807:=AB ho;obtain rfl:vals= #[.int .i64 n]:=by
   obtain ⟨vl⟩:=vals;cases dB with
   | cons h1 h2=>cases h2;cases h1;rfl
  refine (Any.strconv_Itoa Tryz.laysM171 n ho.1 ho.2 w (WH hH hG)).mono fun e w' ⟨he,k,os,hw⟩=>⟨_,he,.str _,?_⟩
  subst hw;exact SX w k os
 .cases hv
def Zu (s sep:List UInt8):List (List UInt8):=split s sep
def Xw (s sep:List UInt8):Bool:=Nat.beq sep.length 1&&decide (s.length<4294967281)
def Ga :List BA->Option (BA×Bool)
 | [.str s,.str sep]=>some (.dat (Zu s sep).length (Zx (Zu s sep)),Xw s sep)
 | _=>none
theorem Fj :H3 prog IC Ga:=by
 intro args v hv H vals w dB hH hG;unfold Ga at hv;split at hv
 .rename_i s sep;simp only [Ac,Aa] at hv;obtain ⟨rfl,ho⟩:=hv;unfold Xw at ho;rw [Ad] at ho;have h1:=Af ho.1;have h2:s.length<4294967281:=AB ho.2;obtain ⟨b,rfl⟩: ∃b,sep=[b]:=by
   match sep,h1 with
   | [b],_=>exact ⟨b,rfl⟩
  obtain rfl:vals= #[.string ⟨s.toArray⟩,.string ⟨#[b]⟩]:=by
   obtain ⟨vl⟩:=vals;cases dB with
   | cons h1 h2=>cases h2 with
    | cons h2 h3=>cases h3;cases h1;cases h2;rfl
  refine (VF Tryz.lays146 (by kernel_rfl) ⟨s.toArray⟩ b w (by simpa [ByteArray.size] using h2)).mono fun e w' ⟨he,hw⟩=> ?_;subst hw;have hd:=Lib.splitB_data ⟨#[b]⟩ 0 (Lib.countB ⟨s.toArray⟩ ⟨#[b]⟩) ⟨s.toArray⟩;have hs:(Lib.splitB ⟨#[b]⟩ 0 (Lib.countB ⟨s.toArray⟩ ⟨#[b]⟩) ⟨s.toArray⟩).map (·.data.toList)=Zu s [b]:=hd;generalize hB:Lib.splitB ⟨#[b]⟩ 0 (Lib.countB ⟨s.toArray⟩ ⟨#[b]⟩) ⟨s.toArray⟩=B at he hs;have cZ:B.length=Lib.countB ⟨s.toArray⟩ ⟨#[b]⟩+1:=by rw [<-hB];exact Lib.splitB_all ⟨#[b]⟩ (Ai 1) 0 _ _ rfl
  have hlenV:(Zu s [b]).length =B.length:=by rw [<-hs,List.length_map]
  have hnone:H w.heap.size=none:=by
   cases hh:H w.heap.size with
   | none=>rfl
   | some o=>exact absurd (As.1 (hH _ _ hh)).1 (Nat.lt_irrefl _)
  refine ⟨fun k=>if k=w.heap.size then some (.cells (B.map Value.string).toArray (Tryz.lays146_ren.t 9) (0,0)) else H k,_,fun k o hk=> ?_,fun k o hk=> ?_,fun k hk=>At (AQ hk),he,?_,?_⟩
  .exact (At (by intro e;rw [e,hnone] at hk;cases hk)).trans hk
  .dsimp only at hk;split at hk
   .rename_i e;subst e;rw [<-hk];exact World.alloc_heap_new _ _
   .rename_i e;rw [RowKit.Below.heap_alloc _ _ _ (As.1 (hH _ _ hk)).1];exact hH _ _ hk
  .rw [<-cZ,hlenV];have eX: ∀i,(hi:i<B.length)->Zx (Zu s [b]) i=[.str B[i].data.toList]:=fun i hi=>by
    show Ww.cells (rd (Zu s [b]) i)=_;have:rd (Zu s [b]) i=B[i].data.toList :=by rw [Je (by rw [hlenV];exact hi)];simp only [<-hs,List.getElem_map]
    rw [this];rfl
   refine .dat B.length _ w.heap.size 0 1 B.length (fun i _=>.string (B.getD i ByteArray.empty)) (Ai _) (fun i hi=>by rw [eX i hi];rfl) (fun i j hi hj=> ?_) fun i j hi hj=> ?_
   .have e:=eX i hi;have hj0:j=0:=by rw [e] at hj;exact Nat.lt_one_iff.1 hj
    subst hj0;simp only [e,List.getElem_cons_zero];rw [A4,Ak hi];exact .str _
   .have hj0:j=0:=Nat.lt_one_iff.1 hj;subst hj0;refine ⟨_,_,_,Aw rfl,?_⟩;simp [Ak hi]
  .exact (RowKit.Below.refl _ w).alloc (Ai _) _
 .cases hv
def Zw (s:List UInt8):Int:=match atoiAll s with
 | .ok v=>v
 | .range =>atoiSat s
 | _=>0
def Xj (s:List UInt8):Bool:=match atoiAll s with
 | .ok _=>true
 | _=>false
def Zn (s:List UInt8):Bool:=decide (s.length<=281474976710656)
def Gr :List BA->Option (BA×Bool)
 | [.str s]=>some (.tup [.int .i64 (Zw s),.ifb (Xj s)],Zn s)
 | _=>none
theorem Ff {ρ:BC} {a b:BA} {u v:Value} (h1:Zp ρ a u) (h2:Zp ρ b v):Zp ρ (.tup [a,b]) (.tuple #[u,v]):=.tup _ _ rfl fun i h h'=>by
 match i,h with
 | 0,_=>exact h1
 | 1,_=>exact h2
theorem O5 {H:CK} {w:World} (hH: ∀k o,H k=some o->w.heap[k]? =some o) (hG:Glob H) {g:Nat} (hg:g∈globs): ∃ev,w.cell? ⟨g,0,none⟩=some ev/\(ev=.nilIface \/ ∃te pe,ev=.iface te pe):=by obtain ⟨v,⟨cs,el,fz,e1,e2⟩,h⟩:=hG.err g hg;exact ⟨v,by simp [World.cell?,hH _ _ e1,e2],h⟩
theorem SW (w:World) (t:TypeId) (s:ByteArray):RowKit.Below w.heap.size w (bytesWorld w t s):=by
 refine ⟨?_,?_,?_,?_,fun k hk=> ?_⟩ <;> (unfold bytesWorld World.freeze;split)
 .rfl
 .rfl
 .rfl
 .rfl
 .rfl
 .rfl
 .simp [World.alloc]
 .simp [World.alloc]
 .simp [World.alloc,Bj,AQ hk];rfl
 .simp [World.alloc,Array.getElem?_modify,Bj,AQ hk,Ne.symm (AQ hk)];rfl
theorem Gx :H3 prog JN Gr:=Kq fun args v hv H vals w dB hH hG=>by
 unfold Gr at hv;split at hv
 .rename_i s;simp only [Ac,Aa] at hv;obtain ⟨rfl,ho⟩:=hv;have ho:s.length<=281474976710656:=AB ho;have hsz:(⟨s.toArray⟩:ByteArray).size =s.length:=by simp [ByteArray.size]
  obtain rfl:vals= #[.string ⟨s.toArray⟩]:=by
   obtain ⟨vl⟩:=vals;cases dB with
   | cons h1 h2=>cases h2;cases h1;rfl
  cases hA:atoiAll s
  .rename_i v;refine (Any.strconv_Atoi_ok Tryz.laysC172 ⟨s.toArray⟩ (by omega) v hA w).mono fun e w' ⟨he,hw⟩=>⟨_,he,?_,?_⟩
   .unfold Zw Xj;rw [hA];exact Ff (.int _ _) .ifbt
   .rcases hw with rfl | ⟨t,rfl⟩
    .exact RowKit.Below.refl _ _
    .exact SW _ _ _
  .obtain ⟨ev,h1,h2⟩:=O5 hH hG (show Tryz.laysC172_ren.g 15∈globs by decide);refine (Any.strconv_Atoi_syntax Tryz.laysC172 ⟨s.toArray⟩ (by omega) hA ev w h1 h2).mono fun e w' ⟨N,he,_,_,hw⟩=>⟨_,he,?_,hw⟩
   unfold Zw Xj;rw [hA];exact Ff (.int _ _) (.ifbf _ _)
  .obtain ⟨ev,h1,h2⟩:=O5 hH hG (show Tryz.laysC172_ren.g 16∈globs by decide);refine (Any.strconv_Atoi_range Tryz.laysC172 ⟨s.toArray⟩ (by omega) hA ev w h1 h2).mono fun e w' ⟨N,he,_,_,hw⟩=>⟨_,he,?_,hw⟩
   unfold Zw Xj;rw [hA];exact Ff (.int _ _) (.ifbf _ _)
 .cases hv
def X8 :BB:=((CG.with Iw Gj).with IC Ga).with JN Gr
def SC :BB:=fun g=>bif Nat.beq g JJ then some (.eff Gp) else X8 g
theorem DZ {a b:Int} (h:a<b):decide (a<b)=true:=Ah h
theorem D2 {a b:Int} (h: ¬a<b):decide (a<b)=false:=An h
theorem FS {a b:Int} (h:a<=b):decide (a<=b)=true:=Ah h
theorem Ep {a b:Int} (h: ¬a<=b):decide (a<=b)=false:=An h
theorem Df {a b:Int} (h:a>b):decide (a>b)=true:=Ah h
theorem EW {a b:Int} (h: ¬a>b):decide (a>b)=false:=An h
theorem JI {a b:Int} (h:a>=b):decide (a>=b)=true:=Ah h
theorem Hx {a b:Nat} (h:a<=b):decide (a<=b)=true:=Ah h
theorem FR {a b:Int} (h:0<=a/\a<b):decide (0<=a/\a<b)=true:=Ah h
theorem We {n:Int} (h: -9223372036854775808<=n/\n<=9223372036854775807):wrap .i64 n=n:=Mh h.1 h.2
theorem VO (i:Nat):(i:Int)+1=((i+1:Nat):Int):=rfl
theorem F6 {a b:Int} (h:a≠b):(a != b)=true:=by simp [h]
theorem Ca {a b:Int} (h:a=b):(a != b)=false:=by simp [h]
theorem M6 {a b:Int} (h:a=b):(a == b)=true:=by simp [h]
theorem M5 {a b:Int} (h:a≠b):(a == b)=false:=by simp [h]
theorem Uh (n:Nat):Int.toNat (n:Int)=n:=Int.toNat_natCast n
theorem JM (b:Bool):b=true\/b=false:=by cases b <;> simp
theorem FL {α:Type} [Ww α] {L:List α} {i:Nat} (h:i<L.length):L.drop i=rd L i::L.drop (i+1):=by rw [Je h];exact AX h
theorem Ci {P:Program} {S:BB} (hS:Zk P S) {f:FuncId} {F:List BA->Option (BA×Bool)} (hf:(P.funcs[f]?).any (fun fn=>fn.body.isSome)=true)
  (hF: ∀args v,F args=some (v,true)-> ∃bs vs,Xq Bz args bs/\Uz vs=v/\B5 P (Zy P f) (Yx P f bs true []) vs/\ ∃d,pf d v=true):Zk P (S.with f F):=SL hS hf hF
def Fk (l m:List R6):Bool:=decide (l=m)
def XT (z:Int) (b:R6):Bool:=decide (b.c<=z)&&decide (z<b.f)
def JE (b:R6):R4:=⟨b.a,b.b,b.d,b.e⟩
def X4 (l:List R6) (z:Int):List R4:=(l.filter (XT z)).map JE
theorem JF {P:Program} {S:BB} (hS:Zk P S) {f:FuncId} {F:List BA->Option (BA×Bool)} (hf:(P.funcs[f]?).any (fun fn=>fn.body.isSome)=true)
  (hF: ∀args v,F args=some (v,true)-> ∃bs vs,Xq Bz args bs/\(∀(ρ:BC) (u:Value),Zp ρ (Uz vs) u->Zp ρ v u)/\B5 P (Zy P f) (Yx P f bs true []) vs/\ ∃d,pf d (Uz vs)=true):Zk P (S.with f F):=
 SJ hS hf fun args v h=>by obtain ⟨bs,vs,h1,h2,h3,d,h4⟩:=hF args v h;exact ⟨vs,h2,Ow h1 h3,d,h4⟩
theorem Mf {cs cs':List BA} (h:CA cs cs') (ρ:BC) (u:Value) (hv:Zp ρ (.tup cs) u):Zp ρ (.tup cs') u:=by
 cases hv with
 | tup _ vs hl hh=>exact .tup cs' vs (by rw [<-h.len];exact hl) fun i h1 h2=>h.sound i (by rw [h.len];exact h1) h1 (hh i (by rw [h.len];exact h1) h2)
theorem MH (α:Type) [Ww α]:Bz .nils (.dat ([]:List α).length (Zx ([]:List α))):=.nild _
def NQ (r:R3):Bool:=decide (-1000000000<=r.a/\r.a<=1000000000)
abbrev E3 :={r:R3 // NQ r=true}
instance : Inhabited E3:=⟨⟨⟨0,0,0⟩,rfl⟩⟩
open Go.RowKit Go.Shelf
variable {P:Program} {ρ:BC}
def Ix :BA->Bool
 | .int _ _=>true
 | .bool _=>true
 | _=>false
class RowN (α:Type) extends Ww α where
 num: ∀a:α,(cells a).all Ix=true
instance : RowN R2 where num _:=rfl
instance : RowN R3 where num _:=rfl
instance : RowN R4 where num _:=rfl
instance : RowN R6 where num _:=rfl
instance {α :Type} [Ww α]:Inhabited α:=⟨Ww.d⟩
end Go.Am
namespace Go.Proofs
open Go.Shelf Go.RowKit Go.Lib Go.Sort
end Go.Proofs
namespace Go.Am
open IntKind (wrap)
open Go.Proofs
def X9 (l:List R6):Prop:=l.length<=40000/\ ∀z,(X4 l z).length <=5000
open Go.Sort Go.Shelf Go.RowKit Go.Lib
-- h2: index into an array (choices [true, true, false, false])
-- h2: index into an array (choices [true, false, true, false, false])
-- h2: index into an array (choices [true, false, false, true, true, false, false])
-- h2: index into an array (choices [true, false, false, true, false, false, false])
-- h2: index into an array (choices [true, false, false, false, false, false])
structure Xl (α β:Type) where
 lo:α->Int
 hi:α->Int
 pr:α->β
 put:Int->Int->β->α
 ext:Int->α->α
 mak:List β->List β
 same:List β->List β->Bool
def H6 (a b:List UInt8):Bool:=Nat.ble (a.length+b.length) 9223372036854775807
def Mv (a:List UInt8):Bool:=decide (a.length<=9223372036854775807)
theorem E9 {a b:List UInt8} (h:a.length+b.length<=1000000000000):H6 a b=true:=by unfold H6;exact AC (by omega)
theorem IE {a:List UInt8} (h:a.length<=1000000000000):Mv a=true:=by unfold Mv;exact Ah (by omega)
open Go.Proofs.Tryz
open Go.Proofs Go.Lib
theorem KX :Zk prog SC:=WS (Vf (Vf (Vf Lq (by kernel_rfl) G5) (by kernel_rfl) Fj) (by kernel_rfl) Gx) (by kernel_rfl) W0
def EF (n:Int):List UInt8:=[]
def LZ (n:Int):Bool:=false
def Ms :List BA->Option (BA×Bool)
 | [.int .i64 n]=>some (.str (EF n),LZ n)
 | _=>none
theorem W3 (args:List BA) (v:BA):Ms args≠some (v,true):=by intro h;unfold Ms at h;split at h <;> simp [LZ] at h
def X7 :BB:=SC.with EH Ms
theorem KN :Zk prog X7:=Vf KX (by kernel_rfl) fun args v h=>absurd h (W3 args v)
def EZ (n:Int):List UInt8:=itoa n
def KD (n:Int):Bool:=decide (0<=n/\n<=9223372036854775807)
def Eo :List BA->Option (BA×Bool)
 | [.int .i64 n]=>some (.str (EZ n),KD n)
 | _=>none
def X6 :BB:=SC.with EH Eo
def Wa (b:UInt8):List UInt8->List UInt8->List (List UInt8)
 | cur,[]=>[cur]
 | cur,x::r=>bif x == b then cur::Wa b [] r else Wa b (cur++[x]) r
theorem Li (b:UInt8): ∀(s cur:List UInt8),Wa b cur s=match Wa b [] s with
  | []=>[]
  | p::l=>(cur++p)::l
 | [],cur=>by simp [Wa]
 | x::r,cur=>by
  unfold Wa;cases x == b with
  | true=>simp
  | false=>
   rw [Aj,Aj,Li b r (cur++[x]),Li b r ([]++[x])];cases Wa b [] r with
   | nil=>rfl
   | cons p l=>simp
theorem MC (b:UInt8) (s cur:List UInt8):Wa b cur s≠ []:=by
 induction s generalizing cur with
 | nil=>simp [Wa]
 | cons x r ih=>
  unfold Wa;cases x == b with
  | true=>simp
  | false=>exact ih _
theorem Q5 {b x:UInt8} (h:x≠b) (k:Nat) (s:List UInt8):splitK [b] 0 k (x::s)=match splitK [b] 0 k s with
  | []=>[]
  | p::l=>(x::p)::l:=by
 have hp:([b]:List UInt8).isPrefixOf (x::s)=false:=by simp [List.isPrefixOf,Ne.symm h]
 have hix:index (x::s) [b]=if index s [b] == -1 then -1 else index s [b]+1:=by rw [index,hp];simp
 have hge:=index_ge s [b];cases k with
 | zero=>rfl
 | succ k=>
  unfold splitK;by_cases hm:index s [b]= -1
  .rw [hix,Aw (Bg.2 hm),Aw (by decide),Aw (Bg.2 hm)]
  .have h1: ¬(index s [b] == -1)=true:=fun e=>hm (Bg.1 e);have h2: ¬(index s [b]+1 == -1)=true:=fun e=>by have:=Bg.1 e;omega
   obtain ⟨j,hj⟩: ∃j:Nat,index s [b]=j:=⟨(index s [b]).toNat,by omega⟩
   rw [hix,At h1,At h1,At h2,hj];have e1:((j:Int)+1).toNat =j+1:=by omega
   have e2:(j:Int).toNat =j:=by omega
   rw [e1,e2];simp only [AD,A8,List.take_succ_cons];rw [show j+1+1=(j+1)+1 from rfl,List.drop_succ_cons]
theorem PN (b:UInt8): ∀s:List UInt8,split s [b]=Wa b [] s
 | []=>by unfold split;rw [count_one];rfl
 | x::r=>by
  have ih:=PN b r;unfold split at ih ⊢;by_cases h:x=b
  .subst h;rw [count_cons_eq,Nat.add_comm];have hix:index (x::r) [x]=0:=by rw [index];simp [List.isPrefixOf]
   rw [splitK,hix,At (by decide)];simp only [Int.toNat_zero,A8,List.take_zero,AD,Az,List.drop_succ_cons,Bt];rw [ih,Wa];simp
  .rw [count_cons_ne x b r h,Q5 h,ih,Wa];have hb:(x == b)=false:=by simpa using h
   rw [hb,Aj,Li b r ([]++[x])];cases Wa b [] r with
   | nil=>rfl
   | cons p l=>rfl
theorem MR (b:UInt8): ∀(s cur:List UInt8),Wa b cur (s++[b])=Wa b cur s++[[]]
 | [],cur=>by simp [Wa]
 | x::r,cur=>by
  rw [A5,Wa,Wa];cases x == b with
  | true=>rw [Ao,Ao,MR b r];rfl
  | false=>rw [Aj,Aj,MR b r]
theorem LY (b:UInt8): ∀(s cur:List UInt8),(Wa b cur s).getLast? =some []->(cur=[]/\s=[])\/ ∃t,s=t++[b]
 | [],cur,h=>by left;simp [Wa] at h;exact ⟨h,rfl⟩
 | x ::r,cur,h=>by
  rw [Wa] at h;by_cases hx:x=b
  .subst hx;right;rw [show (x == x)=true by simp,Ao,List.getLast?_cons] at h;have hne:=MC x r [];have h':(Wa x [] r).getLast? =some []:=by
    cases hc:Wa x [] r with
    | nil=>exact absurd hc hne
    | cons p l=>
     rw [hc] at h;rw [List.getLast?_cons] at h ⊢
     simpa using h
   rcases LY x r [] h' with ⟨_,rfl⟩ | ⟨t,rfl⟩
   .exact ⟨[],rfl⟩
   .exact ⟨x::t,rfl⟩
  .rw [show (x == b)=false by simpa using hx,Aj] at h;rcases LY b r _ h with ⟨e,_⟩ | ⟨t,rfl⟩
   .simp at e
   .exact .inr ⟨x::t,rfl⟩
theorem Lv (b:UInt8): ∀(s cur:List UInt8),(Wa b cur s).length <=s.length+1
 | [],cur=>by simp [Wa]
 | x::r,cur=>by
  rw [Wa,Aq];cases x == b with
  | true=>have:=Lv b r [];rw [Ao,Aq];omega
  | false=>have:=Lv b r (cur++[x]);rw [Aj];omega
theorem Qm (b:UInt8): ∀(s cur p:List UInt8),p∈Wa b cur s->p.length<=cur.length+s.length
 | [],cur,p,h=>by simp [Wa] at h;subst h;simp
 | x::r,cur,p,h=>by
  rw [Wa] at h;cases hx:x == b with
  | true=>
   rw [hx,Ao] at h;rcases AZ.1 h with rfl | h
   .simp
   .have:=Qm b r [] p h;simp at this ⊢;omega
  | false=>rw [hx,Aj] at h;have:=Qm b r _ p h;simp at this ⊢;omega
theorem FI {a:Nat} (h:a<=1099511627776):decide (a<=Xr)=true:=Ah h
theorem QF {z n m:Nat} (h:(n+1+1)*(m+1)<=1099511627776):(Nat.beq z z&&((decide (0+n=n))&&decide ((n+1+1)*(m+1)<=Xr)))=true:=by rw [Ad,Ad];exact ⟨Nat.beq_refl z,Ah (Az n),FI h⟩
open Go.Sort
def Cq (s sep:List UInt8):Int:=Lib.indexByte s (sep.headD 0)
def V2 (s sep:List UInt8):Bool:=Nat.beq sep.length 1
def Gk :List BA->Option (BA×Bool)
 | [.str s,.str sep]=>some (.int .i64 (Cq s sep),V2 s sep)
 | _=>none
theorem Oi {sep:List UInt8} (h:Nat.beq sep.length 1=true):sep=[sep.headD 0]:=by
 have h1:=Af h
 match sep,h1 with
 | [b],_=>rfl
theorem Wl {S:BB} (hS:Zk prog S):Zk prog (S.with Iz Gk):=Vf hS (by kernel_rfl) (Kq fun args v hv H vals w dB hH hG=>by
 unfold Gk at hv;split at hv
 .rename_i s sep;simp only [Ac,Aa] at hv;obtain ⟨rfl,ho⟩:=hv;have hs:=Oi ho;obtain rfl:vals= #[.string ⟨s.toArray⟩,.string ⟨sep.toArray⟩]:=by
   obtain ⟨vl⟩:=vals;cases dB with
   | cons h1 h2=>cases h2 with
    | cons h2 h3=>cases h3;cases h1;cases h2;rfl
  rw [hs];refine (Any.stringslite_Index_one Tryz.lays219 ⟨s.toArray⟩ (sep.headD 0) w).mono fun e w' ⟨he,hw⟩=>⟨_,he,.int _ _,?_⟩
  subst hw;exact RowKit.Below.refl _ _
 .cases hv)
def NN (s sep:List UInt8):Int:=((Lib.countByte s (sep.headD 0):Nat):Int)
def VQ (s sep:List UInt8):Bool:=Nat.beq sep.length 1
def Gq :List BA->Option (BA×Bool)
 | [.str s,.str sep]=>some (.int .i64 (NN s sep),VQ s sep)
 | _=>none
theorem W6 {S:BB} (hS:Zk prog S):Zk prog (S.with JK Gq):=Vf hS (by kernel_rfl) (Kq fun args v hv H vals w dB hH hG=>by
 unfold Gq at hv;split at hv
 .rename_i s sep;simp only [Ac,Aa] at hv;obtain ⟨rfl,ho⟩:=hv;have hs:=Oi ho;obtain rfl:vals= #[.string ⟨s.toArray⟩,.string ⟨sep.toArray⟩]:=by
   obtain ⟨vl⟩:=vals;cases dB with
   | cons h1 h2=>cases h2 with
    | cons h2 h3=>cases h3;cases h1;cases h2;rfl
  rw [hs];refine (Any.strings_Count_one Tryz.lays138 ⟨s.toArray⟩ (sep.headD 0) w).mono fun e w' ⟨he,hw⟩=>⟨_,he,.int _ _,?_⟩
  subst hw;exact RowKit.Below.refl _ _
 .cases hv)
def DP (L:List (List UInt8)) (sep:List UInt8):List UInt8:=Lib.join L sep
def L8 (L:List (List UInt8)) (sep:List UInt8):Bool:=decide (L.length<=1000000)&&decide ((DP L sep).length <=1000000)
def DR :List BA->Option (BA×Bool)
 | [a0,.str sep]=>match D1 (List UInt8) a0 with
  | some (L,g,n)=>some (.str (DP L sep),CJ (List UInt8) n g&&L8 L sep)
  | _=>none
 | _=>none
theorem XA {S:BB} (hS:Zk prog S):Zk prog (S.with DQ DR):=Vf hS (by kernel_rfl) (Kq fun args v hv H vals w dB hH hG=>by
 unfold DR at hv;split at hv
 .rename_i a0 sep;split at hv
  .rename_i L g n e0;simp only [Ac,Aa,Ad] at hv;obtain ⟨rfl,ht,ho⟩:=hv;unfold L8 at ho;rw [Ad,Ap,Ap] at ho;obtain ⟨v0,rfl,cY⟩: ∃v0,vals= #[v0,.string ⟨sep.toArray⟩]/\Zp (Un H) (.dat L.length (Zx L)) v0:=by
    obtain ⟨vl⟩:=vals;cases dB with
    | cons h1 h2=>cases h2 with
     | cons h2 h3=>cases h3;cases h2;exact ⟨_,rfl,(asL_le e0 ht).sound h1⟩
   have hmap:(L.map fun s=>(⟨s.toArray⟩:ByteArray)).map (·.data.toList)=L:=by rw [List.map_map];exact (List.map_congr_left fun s _=>rfl).trans (List.map_id L)
   have hlenm:(L.map fun s=>(⟨s.toArray⟩:ByteArray)).length =L.length:=List.length_map _;have none: ∀(a:Option Addr) (c:Nat),L.length=0->Calls prog DQ #[.slice a 0 c,.string ⟨sep.toArray⟩] w fun e w'=> ∃u,e=.returned u/\Zp (Un H) (.str (DP L sep)) u/\RowKit.Below w.heap.size w w':=fun a c h0=>by
    obtain rfl:=List.eq_nil_of_length_eq_zero h0;refine (Any.strings_Join_none Tryz.lays156 Tryz.Builder_Extra_156 a c ⟨sep.toArray⟩ w).mono fun e w' ⟨he,hw⟩=>⟨_,he,?_,?_⟩
    .exact .str _
    .subst hw;exact RowKit.Below.refl _ _
   generalize hn:L.length=m at cY;cases cY with
   | datn=>exact none _ _ hn
   | datz _ a c=>exact none _ _ hn
   | dat _ _ blk base sz cap val dF hsz hv hh=>
    by_cases h0:L.length=0
    .rw [<-hn,h0];exact none _ _ h0
    have eX: ∀i,(hi:i<L.length)->Zx L i=[.str L[i]]:=fun i hi=>by show Ww.cells (rd L i)=_;rw [Je hi];rfl
    have hsz1:sz=1:=by have:=hsz 0 (by omega);rw [eX 0 (by omega)] at this;exact this.symm
    subst hsz1;have dM: ∀i,(hi:i<L.length)->val i 0=.string ⟨L[i].toArray⟩:=fun i hi=>by have:=hv i 0 (by omega) (by rw [eX i hi];exact Nat.one_pos);simp only [eX i hi,List.getElem_cons_zero] at this;generalize val i 0=z at this;cases this;rfl
    have eD: ∀i,(hi:i<L.length)-> ∃cs el fz,w.heap[blk]? =some (.cells cs el fz)/\cs[base+i]? =some (.string ⟨L[i].toArray⟩):=fun i hi=>by obtain ⟨cs,el,fz,e1,e2⟩:=hh i 0 (by omega) Nat.one_pos;rw [dM i hi,Nat.mul_one,A8] at e2;exact ⟨cs,el,fz,hH _ _ e1,e2⟩
    have hJ:=Any.strings_Join Tryz.lays156 Tryz.Builder_Extra_156 blk base cap (L.map fun s=>(⟨s.toArray⟩:ByteArray)) ⟨sep.toArray⟩ w (fun j x hx=>by
      have hj:j<L.length:=by rw [<-hlenm];exact (AJ.1 hx).1
      obtain ⟨cs,el,fz,e1,e2⟩:=eD j hj;rw [Br,Ak hj] at hx;obtain rfl:=Ab hx;simp [World.cell?,e1,e2])
     (by obtain ⟨cs,el,fz,e1,_⟩:=eD 0 (by omega);exact (As.1 e1).1)
     (by rw [hlenm];omega) (by rw [hlenm];omega) (by rw [hmap];exact AI ho.2 (by omega))
    rw [hmap,hlenm,hn] at hJ;refine hJ.mono fun e w' ⟨he,hw⟩=>⟨_,he,?_,hw⟩
    exact .str _
  .cases hv
 .cases hv)
open Go.Shelf Go.RowKit
def En :List BA->Bool
 | [.str _]=>true
 | _=>false
def K3 :List BA->Option (BA×Bool)
 | [.dat n g,.str sep]=>some (.str (DP (lst (List UInt8) n g) sep),(List.range n).all (fun i=>En (g i))&&L8 (lst (List UInt8) n g) sep)
 | _=>none
theorem T6 {args:List BA} {v:BA} (h:K3 args=some (v,true)):DR args=some (v,true):=by
 unfold K3 at h;split at h
 .rename_i n g sep;simp only [Ac,Aa,Ad] at h;obtain ⟨rfl,h1,h2⟩:=h;have ht:CJ (List UInt8) n g=true:=pd_true fun i hi=>by
   have:=Av.1 h1 i (AH.2 hi);unfold En at this;split at this
   .rename_i s e;rw [e];rfl
   .cases this
  unfold DR D1;simp only [];rw [ht,h2];rfl
 .cases h
theorem UE {S:BB} (hS:Zk prog S):Zk prog (S.with DQ K3):=Vf hS (by kernel_rfl) fun args v hv=>by have:=(XA (Lq (P:=prog)) DQ (.val DR) (by kernel_rfl)).2;exact this args v (T6 hv)
def SK :BB:=((SC.with JK Gq).with Iz Gk).with DQ K3
theorem H2 :Zk prog SK:=UE (Wl (W6 KX))
def BA.z (n:Int):BA:=.int .i64 n
def zs (l:List Int):List BA:=l.map BA.z
def BA.az (l:List Int):BA:=.agg (zs l)
def bz (l:List Int) (t:TypeId):Option BD:=some ⟨zs l,t,none⟩
def bk (l:List BA) (t:TypeId):Option BD:=some ⟨l,t,none⟩
def T.u :T BA:=.node .undef .leaf .leaf
def T.k (l r:T BA):T BA:=.node .undef l r
def T.kl (r:T BA):T BA:=.node .undef .leaf r
def T.kr (l:T BA):T BA:=.node .undef l .leaf
def T.o (v:BA):T BA:=.node v .leaf .leaf
def T.m (v:Option BD):T (Option BD):=.node v .leaf .leaf
def CO :BJ:=Yx prog 15 [] false []
theorem N2 :Qg prog CO CO:=Qg.refl _
def N7 :BJ:=⟨⟨20,0,false⟩,none,(Yb prog 36 [1,0] 1),none,(Zy prog 3),⟨(.node (.sl 1 0 2 (.ex 2)) (.node (.z 1) .leaf (.o (.ptr 3 0))) (.kr (.o (.str [])))),(.node (bz [0,0,0,2,1,1] 79) (.node (bk [(.str [97]),(.z (-1)),(.int .u8 9),(.z 1),(.z 0),(.z 0),(.sl 0 0 1 (.ex 1)),(.str [98]),(.z 0),(.int .u8 0),(.z 2),(.z 0),(.z 0),.nils] 48) (.m (bk [.nils] 70)) .leaf) (.m (bk [(.obj (.mb [([97],true)]))] 121))),4,[],true⟩,[⟨⟨69,0,false⟩,(Jm prog 33 [1,1,1,1,0,1,0,0,1,1,0,0,1,1,0] 2),(Yb prog 33 [1,1,1,1,0,1,0,0,1,1,0,0,1,1,0] 1),none,(Zy prog 9),(.node (.sl 1 0 2 (.ex 2)) (.k (.k (.kl (.kl (.o (.sl 1 0 2 (.ex 2))))) (.kl (.o (.sl 1 0 2 (.ex 2))))) (.kl (.kl (.o (.z 1))))) (.k (.k (.kl (.kl (.o (.z 1)))) (.kl (.o (.z 2)))) (.o (.mapr 2))))⟩,⟨⟨76,0,false⟩,(Jm prog 10 [1,0,0] 1),(Yb prog 10 [1,0,0] 1),none,(Zy prog 10),(.node (.sl 1 0 2 (.ex 2)) .leaf (.kl (.kr (.o (.sl 1 0 2 (.ex 2))))))⟩,⟨⟨61,0,false⟩,(Jm prog 15 [1,0] 1),(Yb prog 15 [1,0] 1),none,(Zy prog 8),(.kl (.kl (.kr (.o (.sl 1 0 2 (.ex 2))))))⟩],.leaf⟩
theorem N1 :Qg prog CO N7:=N2.trans (HU FZ mixed H2 (n:=4000) (m:=100000) (d:=4) (N:=⟨[0,1,77,100],[],[some [0,1,4,5],some [0,6,27,28,29,55,56],some [0,10],some [10]],[none,none,none,none]⟩) (by kernel_rfl) rfl (by kernel_rfl)).1
def N6 :BJ:=⟨⟨26,0,false⟩,(Jm prog 203 [0] 0),(Yb prog 203 [0] 1),none,(Zy prog 3),⟨(.node .nils (.o (.sl 22 0 1 (.un 2))) .leaf),(.node (bz [0,0,0,2,1,1] 79) (.node (bk [(.str [97]),(.z (-1)),(.int .u8 9),(.z 1),(.z 0),(.z 0),(.sl 0 0 1 (.ex 1)),(.str [98]),(.z 0),(.int .u8 0),(.z 2),(.z 0),(.z 0),.nils] 48) (.node (bk [.nilf] 174) (.node (bk [(.sl 2 0 1 (.ex 1))] 194) (.m (bk [(.sl 12 0 1 (.un 4))] 195)) .leaf) (.m (bk [(.sl 12 0 1 (.un 4))] 195))) (.node (bk [(.z 0)] 24) (.node (bz [0,1] 3) (.m (bk [(.sl 18 0 2 (.un 1))] 83)) .leaf) (.node (bk [(.z 0),(.z 1),(.sl 11 0 1 (.ex 1))] 203) (.m (bz [0,1] 260)) .leaf))) (.node (bk [(.sl 0 0 1 (.ex 1))] 45) (.node (bk [.nils] 46) (.node (bk [(.sl 9 0 2 (.un 1))] 83) (.m (bk [(.sl 15 0 1 (.ex 1))] 201)) .leaf) (.node (bz [0,0,2,1] 168) (.m (bk [(.sl 21 0 1 (.un 2))] 233)) .leaf)) (.node (bk [.nils,.nils,(.z 0),(.z 0)] 198) (.node none (.m (bz [0,2] 3)) .leaf) (.node (bk [.nils,.nils,(.z 0),(.z 0)] 235) (.m (bz [0,1] 260)) .leaf)))),23,[],true⟩,[⟨⟨94,0,false⟩,(Jm prog 171 [0,0] 17),(Yb prog 171 [0,0] 1),none,[],(.node (.ptr 14 0) (.node (.z 0) (.node (.sl 22 0 1 (.un 2)) .leaf (.kl (.o (.sl 22 0 1 (.un 2))))) .leaf) (.node (.z 2) .leaf (.k (.kl (.o .nils)) (.kr (.o (.bool true))))))⟩,⟨⟨29,0,false⟩,(Jm prog 167 [1,1,0,1,0,1,0,1] 5),(Yb prog 167 [1,1,0,1,0,1,0,1] 1),(some 19),[],(.k (.k (.kr (.kl (.o (.z 2)))) (.kl (.kr (.o (.z 0))))) (.kr (.node (.ptr 14 0) (.kl (.o (.sl 22 0 1 (.un 2)))) .leaf)))⟩,⟨⟨76,0,false⟩,(Jm prog 225 [1,0,0,1,0,0,1,1,0] 2),(Yb prog 225 [1,0,0,1,0,0,1,1,0] 1),none,[],(.node (.yld 19) (.node (.ptr 17 0) .leaf (.kr (.kl (.kr (.kr (.o (.agg [(.z 0),(.z 2),(.sl 20 0 1 (.ex 1))]))))))) (.node (.ptr 16 0) (.node (.z 1) (.kl (.kr (.kr (.o (.yld 19))))) .leaf) .leaf))⟩,⟨⟨29,0,false⟩,none,(.inRangeFunc 19::(Yb prog 167 [1,1,0,1,0] 1)),none,(Zy prog 10),(.k (.kr (.o (.z 0))) (.node .nils (.o (.ptr 14 0)) .leaf))⟩,⟨⟨13,0,false⟩,(Jm prog 140 [1,1,1,0] 1),(Yb prog 140 [1,1,1,0] 1),none,(Zy prog 10),(.kr (.kl (.kr (.o (.sl 12 0 1 (.un 4))))))⟩,⟨⟨65,0,false⟩,(Jm prog 102 [1,1,0,1,0,1,0,0] 4),(Yb prog 102 [1,1,0,1,0,1,0,0] 1),(some 10),[],(.k (.k (.kr (.o (.ptr 13 0))) (.o (.ptr 5 0))) (.node (.ptr 3 0) (.node (.ptr 4 0) .leaf (.kr (.o (.sl 12 0 1 (.un 4))))) (.o (.ptr 6 0))))⟩,⟨⟨86,0,false⟩,(Jm prog 163 [1,0,0,1,0,0,1,1,0] 2),(Yb prog 163 [1,0,0,1,0,0,1,1,0] 1),none,[],(.node (.yld 10) (.node (.ptr 8 0) (.kl (.kr (.kl (.kr (.o (.agg [(.z 0),(.z 1),(.sl 11 0 1 (.ex 1))])))))) .leaf) (.node (.ptr 7 0) (.o (.z 1)) (.kr (.kr (.kl (.kr (.o (.yld 10))))))))⟩,⟨⟨65,0,false⟩,none,(.inRangeFunc 10::(Yb prog 102 [1,1,0,1,0] 1)),none,(Zy prog 102),(.k (.kl (.o (.ptr 5 0))) (.k (.o (.ptr 4 0)) (.o (.ptr 6 0))))⟩,⟨⟨25,0,false⟩,(Jm prog 61 [1,1,1,0,0] 3),(Yb prog 61 [1,1,1,0,0] 1),none,(Zy prog 9),(.node (.sl 0 0 1 (.ex 1)) (.k (.kl (.o (.agg [.nilf]))) (.kl (.o (.sl 2 0 1 (.ex 1))))) .leaf)⟩,⟨⟨69,0,false⟩,(Jm prog 33 [1,1,0,1,0,0,1,1,0,0,1,0] 2),(Yb prog 33 [1,1,0,1,0,0,1,1,0,0,1,0] 1),none,(Zy prog 9),(.node (.sl 1 0 2 (.ex 2)) (.k (.kr (.kr (.o (.z 0)))) (.kl (.o (.sl 1 0 2 (.ex 2))))) (.k (.kl (.kr (.o (.sl 0 0 1 (.ex 1))))) (.kl (.o (.z 2)))))⟩,⟨⟨19,0,false⟩,(Jm prog 54 [1,0,0] 1),(Yb prog 54 [1,0,0] 1),none,(Zy prog 3),(.node (.sl 1 0 2 (.ex 2)) (.o (.z 1)) (.kl (.o (.sl 1 0 2 (.ex 2)))))⟩,⟨⟨16,0,false⟩,(Jm prog 17 [1,0,0] 2),(Yb prog 17 [1,0,0] 1),none,(Zy prog 17),(.node (.sl 1 0 2 (.ex 2)) (.node (.z 1) (.kr (.o (.sl 1 0 2 (.ex 2)))) .leaf) (.kr (.kr (.o (.z 1)))))⟩,⟨⟨61,0,false⟩,(Jm prog 15 [1,1,0] 1),(Yb prog 15 [1,1,0] 1),none,(Zy prog 8),(.k (.node (.str [110,111,100,101,32,97,32,57,32,49,32,48,32,48,10,98,111,120,32,48,32,48,32,48,32,50,32,49,32,49,10,110,111,100,101,32,97,47,98,32,48,32,50,32,48,32,48,10]) (.kr (.kr (.o (.sl 1 0 2 (.ex 2))))) .leaf) (.o (.z 0)))⟩],(.node none (.node none (.node none .leaf (.node none (.node (some ⟨.busy,none,29,(.k (.k (.k (.k .u .u) (.kr .u)) (.k (.kr .u) (.kr .u))) (.k (.node (.ptr 14 0) (.k .u .u) (.kr .u)) (.k (.kr .u) (.kr .u)))),[11],(De prog 167 [1,1,0,1,0,0]),(De prog 167 [1,1,0,1,0,1])⟩) .leaf .leaf) .leaf)) .leaf) (.node none .leaf (.node none (.node (some ⟨.busy,none,65,(.k (.k (.k (.k (.k .u .u) (.k .u .u)) (.k (.k .u .u) (.kr .u))) (.node (.ptr 5 0) (.k (.k .u .u) (.k .u .u)) (.k (.k .u .u) (.kr .u)))) (.node (.ptr 3 0) (.node (.ptr 4 0) (.k (.k .u .u) (.k .u .u)) (.k (.k .u .u) (.kr .u))) (.node (.ptr 6 0) (.k (.k .u .u) (.kr .u)) (.k (.k .u .u) (.kr .u))))),[15],(De prog 102 [1,1,0,1,0,0]),(De prog 102 [1,1,0,1,0,1])⟩) .leaf .leaf) .leaf)))⟩
theorem N0 :Qg prog CO N6:=N1.trans (HU FZ mixed H2 (n:=4000) (m:=100000) (d:=4) (N:=⟨[97,98,104,105,106,107,108,109,110,113,114,116,119,120,123,124,125,126,129,130,132,135,158],[],[some [0,1],some [0,1,2,3,22,26,27],some [4,21,23,24],some [0,1,2,4,72,73],some [2,3,4],some [9],some [2,4,5,6,7,20],some [0,1,2,4,82,83],some [4,5,6],some [0,11,13],some [0,13,14,15,20],some [0,1,6],some [0,1,7,8],some [1,2,15]],[none,none,none,none,none,none,none,none,none,none,some [2,4,5,6,7,8,9,11,12,15,16,17,18,19,20,21,22,23,24,25,26,27,28,29,30,31,32,33,34,35,36,37,38,39,40,41,42,43,44,45,46,47,48,49,50,51,52,53,54,55,56,57],none,none,none,none,none,none,none,none,some [4,5,6,11,12,13,14,15,16,17,18,19,20,21,22,23,24],none,none,none]⟩) (by kernel_rfl) rfl (by kernel_rfl)).1
def N5 :BJ:=⟨⟨35,0,false⟩,(Jm prog 166 [1,0] 7),(Yb prog 166 [1,0] 1),none,(Zy prog 9),⟨(.k (.node (.ptr 15 0) .leaf (.kr (.o (.ptr 15 1)))) (.kr (.kr (.o (.bool true))))),(.node (bz [0,0,0,2,1,1] 79) (.node (bk [(.str [97]),(.z (-1)),(.int .u8 9),(.z 1),(.z 0),(.z 0),(.sl 0 0 1 (.ex 1)),(.str [98]),(.z 0),(.int .u8 0),(.z 2),(.z 0),(.z 0),.nils] 48) (.node (bk [(.sl 0 0 1 (.ex 1))] 45) (.node (bk [.nils,.nils,(.z 0),(.z 0)] 198) (.m (bz [0,0,2,1] 168)) .leaf) .leaf) (.node (bk [.nils] 46) (.m (bk [(.sl 10 0 2 (.un 1))] 83)) (.m (bz [0,0,2,1] 168)))) (.node (bk [(.int .u8 0),(.z 0),(.z 0),(.z 0)] 42) (.node (bk [.nilf] 174) (.m (bk [(.sl 3 0 1 (.ex 1))] 194)) (.m (bk [(.sl 13 0 1 (.un 4))] 195))) (.node (bk [(.z 0)] 24) (.m (bz [0,1] 3)) (.m (bk [(.z 0),(.z 1),(.sl 12 0 1 (.ex 1))] 203))))),16,[],true⟩,[⟨⟨6,0,false⟩,(Jm prog 165 [1,0] 1),(Yb prog 165 [1,0] 1),none,(Zy prog 9),(.kr (.kr (.o (.az [0,0,2,1]))))⟩,⟨⟨19,0,false⟩,(Jm prog 197 [1,0,1,0,0,1,1,0,0,1,0] 5),(Yb prog 197 [1,0,1,0,0,1,1,0,0,1,0] 1),none,(Zy prog 3),(.node (.sl 13 0 1 (.un 4)) (.node (.fn 165 []) (.k (.node (.z 1) (.o (.az [0,0,2,1])) .leaf) (.o (.fn 165 []))) (.o (.z 0))) (.kr (.kr (.o (.z 0)))))⟩,⟨⟨9,0,false⟩,(Jm prog 164 [1,0] 2),(Yb prog 164 [1,0] 1),none,(Zy prog 3),(.k (.kl (.o (.sl 13 0 1 (.un 4)))) (.kl (.o (.fn 165 []))))⟩,⟨⟨13,0,false⟩,(Jm prog 140 [1,1,0,0] 1),(Yb prog 140 [1,1,0,0] 1),none,(Zy prog 10),(.node (.sl 13 0 1 (.un 4)) (.kr (.kr (.o (.sl 13 0 1 (.un 4))))) .leaf)⟩,⟨⟨65,0,false⟩,(Jm prog 102 [1,1,0,1,0,1,0,0] 4),(Yb prog 102 [1,1,0,1,0,1,0,0] 1),(some 11),[],(.k (.k (.kr (.o (.ptr 14 0))) (.o (.ptr 6 0))) (.node (.ptr 4 0) (.node (.ptr 5 0) .leaf (.kr (.o (.sl 13 0 1 (.un 4))))) (.o (.ptr 7 0))))⟩,⟨⟨86,0,false⟩,(Jm prog 163 [1,0,0,1,0,0,1,1,0] 2),(Yb prog 163 [1,0,0,1,0,0,1,1,0] 1),none,[],(.node (.yld 11) (.node (.ptr 9 0) (.kl (.kr (.kl (.kr (.o (.agg [(.z 0),(.z 1),(.sl 12 0 1 (.ex 1))])))))) .leaf) (.node (.ptr 8 0) (.o (.z 1)) (.kr (.kr (.kl (.kr (.o (.yld 11))))))))⟩,⟨⟨65,0,false⟩,none,(.inRangeFunc 11::(Yb prog 102 [1,1,0,1,0] 1)),none,(Zy prog 102),(.k (.kl (.o (.ptr 6 0))) (.k (.o (.ptr 5 0)) (.o (.ptr 7 0))))⟩,⟨⟨25,0,false⟩,(Jm prog 61 [1,1,1,0,0] 3),(Yb prog 61 [1,1,1,0,0] 1),none,(Zy prog 9),(.node (.sl 0 0 1 (.ex 1)) (.k (.kl (.o (.agg [.nilf]))) (.kl (.o (.sl 3 0 1 (.ex 1))))) .leaf)⟩,⟨⟨69,0,false⟩,(Jm prog 33 [1,1,0,1,0,0,1,1,0,0,1,0] 2),(Yb prog 33 [1,1,0,1,0,0,1,1,0,0,1,0] 1),none,(Zy prog 9),(.node (.sl 1 0 2 (.ex 2)) (.k (.kr (.kr (.o (.z 0)))) (.kl (.o (.sl 1 0 2 (.ex 2))))) (.k (.kl (.kr (.o (.sl 0 0 1 (.ex 1))))) (.kl (.o (.z 2)))))⟩,⟨⟨19,0,false⟩,(Jm prog 54 [1,0,0] 1),(Yb prog 54 [1,0,0] 1),none,(Zy prog 3),(.node (.sl 1 0 2 (.ex 2)) (.o (.z 1)) (.kl (.o (.sl 1 0 2 (.ex 2)))))⟩,⟨⟨19,0,false⟩,(Jm prog 19 [1,0,0] 2),(Yb prog 19 [1,0,0] 1),none,(Zy prog 19),(.node (.sl 1 0 2 (.ex 2)) (.node (.z 1) (.kr (.o (.sl 1 0 2 (.ex 2)))) .leaf) (.kr (.node (.ptr 2 0) (.o (.z 1)) .leaf)))⟩,⟨⟨61,0,false⟩,(Jm prog 15 [1,1,1,0] 1),(Yb prog 15 [1,1,1,0] 1),none,(Zy prog 8),(.k (.node (.str [110,111,100,101,32,97,32,57,32,49,32,48,32,48,10,98,111,120,32,48,32,48,32,48,32,50,32,49,32,49,10,110,111,100,101,32,97,47,98,32,48,32,50,32,48,32,48,10]) (.o (.str [97,47,98])) .leaf) (.node (.z 0) (.node (.z 0) .leaf (.kr (.o (.sl 1 0 2 (.ex 2))))) .leaf))⟩],(.node none (.node none (.node none .leaf (.node (some ⟨.busy,none,65,(.k (.k (.k (.k (.k .u .u) (.k .u .u)) (.k (.k .u .u) (.kr .u))) (.node (.ptr 6 0) (.k (.k .u .u) (.k .u .u)) (.k (.k .u .u) (.kr .u)))) (.node (.ptr 4 0) (.node (.ptr 5 0) (.k (.k .u .u) (.k .u .u)) (.k (.k .u .u) (.kr .u))) (.node (.ptr 7 0) (.k (.k .u .u) (.kr .u)) (.k (.k .u .u) (.kr .u))))),[15],(De prog 102 [1,1,0,1,0,0]),(De prog 102 [1,1,0,1,0,1])⟩) .leaf .leaf)) .leaf) .leaf)⟩
theorem NZ :Qg prog CO N5:=N0.trans (HU FZ mixed H2 (n:=4000) (m:=100000) (d:=4) (N:=⟨[92,93,94,100,101,102,103,104,105,106,109,110,112,115,116,118],[],[some [1,8,9],some [3],some [0,1,5,7,8,11,15],some [5,6],some [0,7],some [2,4,5,6,7,20],some [0,1,2,4,82,83],some [4,5,6],some [0,11,13],some [0,13,14,15,20],some [0,1,6],some [0,1,4,7,8],some [1,2,3,4,20]],[none,none,none,none,none,none,none,none,none,none,none,some [2,4,5,6,7,8,9,11,12,15,16,17,18,19,20,21,22,23,24,25,26,27,28,29,30,31,32,33,34,35,36,37,38,39,40,41,42,43,44,45,46,47,48,49,50,51,52,53,54,55,56,57],none,none,none,none]⟩) (by kernel_rfl) rfl (by kernel_rfl)).1
def N4 :BJ:=⟨⟨44,0,false⟩,none,(Yb prog 67 [1,1,0] 1),none,(Zy prog 9),⟨.leaf,(.node (bz [0,0,0,2,1,1] 79) (.node (bk [(.str [97]),(.z (-1)),(.int .u8 9),(.z 1),(.z 0),(.z 0),(.sl 0 0 1 (.ex 1)),(.str [98]),(.z 0),(.int .u8 0),(.z 2),(.z 0),(.z 0),.nils] 48) (.m (bk [(.obj (.mb [([97],true)]))] 121)) .leaf) (.node (bk [(.int .u8 0),(.z 0),(.z 0),(.z 0)] 42) (.m (bk [(.z 0)] 24)) (.m (bk [(.str []),(.z 0)] 144)))),7,[],true⟩,[⟨⟨82,0,false⟩,(Jm prog 84 [1,1,0,0] 1),(Yb prog 84 [1,1,0,0] 1),none,(Zy prog 84),(.k (.kl (.o (.str []))) (.node (.ptr 6 0) (.o (.str [98])) (.node (.bool false) (.kr (.o (.str [98]))) .leaf)))⟩,⟨⟨24,0,false⟩,(Jm prog 45 [1,1,0,1,0,1,0,0] 1),(Yb prog 45 [1,1,0,1,0,1,0,0] 1),(some 5),[],(.kl (.node (.ptr 4 0) .leaf (.kr (.kr (.o (.str [98]))))))⟩,⟨⟨20,0,false⟩,(Jm prog 121 [1,0,0,1,0,1,1,0] 2),(Yb prog 121 [1,0,0,1,0,1,1,0] 1),none,[],(.node (.yld 5) (.k (.o (.str [])) (.kr (.kr (.o (.str [98]))))) (.kr (.node (.bool false) (.kr (.o (.yld 5))) .leaf)))⟩,⟨⟨24,0,false⟩,none,(.inRangeFunc 5::(Yb prog 45 [1,1,0,1,0] 1)),none,(Zy prog 45),(.kl (.o (.ptr 4 0)))⟩,⟨⟨69,0,false⟩,(Jm prog 33 [1,1,1,1,0,1,0,0,1,1,0,0,1,1,1,0,0] 5),(Yb prog 33 [1,1,1,1,0,1,0,0,1,1,0,0,1,1,1,0,0] 1),none,(Zy prog 9),(.node (.sl 1 0 2 (.ex 2)) (.k (.kl (.kl (.o (.sl 1 0 2 (.ex 2))))) (.k (.o (.str [97,47,98])) (.kl (.node (.z 1) .leaf (.o (.bool false)))))) (.k (.kl (.kl (.o (.z 2)))) (.node (.mapr 3) .leaf (.kl (.kl (.o (.str [97,47,98])))))))⟩,⟨⟨19,0,false⟩,(Jm prog 54 [1,0,0] 1),(Yb prog 54 [1,0,0] 1),none,(Zy prog 3),(.node (.sl 1 0 2 (.ex 2)) (.o (.z 1)) (.kl (.o (.sl 1 0 2 (.ex 2)))))⟩,⟨⟨19,0,false⟩,(Jm prog 19 [1,0,0] 2),(Yb prog 19 [1,0,0] 1),none,(Zy prog 19),(.node (.sl 1 0 2 (.ex 2)) (.node (.z 1) (.kr (.o (.sl 1 0 2 (.ex 2)))) .leaf) (.kr (.node (.ptr 2 0) (.o (.z 1)) .leaf)))⟩,⟨⟨61,0,false⟩,(Jm prog 15 [1,1,1,0] 1),(Yb prog 15 [1,1,1,0] 1),none,(Zy prog 8),(.k (.node (.str [110,111,100,101,32,97,32,57,32,49,32,48,32,48,10,98,111,120,32,48,32,48,32,48,32,50,32,49,32,49,10,110,111,100,101,32,97,47,98,32,48,32,50,32,48,32,48,10]) (.o (.str [97,47,98])) .leaf) (.node (.z 0) (.node (.z 0) .leaf (.kr (.o (.sl 1 0 2 (.ex 2))))) .leaf))⟩],(.node none (.node none .leaf (.node (some ⟨.busy,none,24,(.k (.k (.k (.kl .u) (.kr .u)) (.k (.kr .u) (.kr .u))) (.node (.ptr 4 0) (.k (.kr .u) (.kr .u)) (.k (.kr .u) (.kr .u)))),[16],(De prog 45 [1,1,0,1,0,0]),(De prog 45 [1,1,0,1,0,1])⟩) .leaf .leaf)) .leaf)⟩
theorem NY :Qg prog CO N4:=NZ.trans (HU FZ mixed H2 (n:=4000) (m:=100000) (d:=4) (N:=⟨[0,1,2,67,100,102,107],[],[some [],some [2,4,5,6,18],some [2,18],some [0,3,4,16,17],some [2],some [0,6,9,27,28,29,61,62],some [0,1,6],some [0,1,4,7,8],some [1,2,3,4,20]],[none,none,none,none,none,some [2,3,4,5,16,17,18,19,20,21,22,23],none]⟩) (by kernel_rfl) rfl (by kernel_rfl)).1
def N3 :BJ:=⟨⟨61,0,false⟩,(Jm prog 15 [1,1,1,1,1,0] 32),(Yb prog 15 [1,1,1,1,1,0] 1),none,(Zy prog 8),⟨(.k (.kr (.kl (.kl (.kl (.o (.bool true)))))) (.kr (.kr (.kl (.kl (.o (.bool true))))))),.leaf,0,[],true⟩,[],.leaf⟩
theorem NX :Qg prog CO N3:=NY.trans (HU FZ mixed H2 (n:=8777) (m:=100000) (d:=4) (N:=⟨[],[],[some [56,59]],[]⟩) (by kernel_rfl) rfl (by kernel_rfl)).1
def JP :BJ:=⟨⟨61,0,false⟩,none,(Yb prog 3 [1,1,1,1,1,1,0] 1),none,(Zy prog 8),⟨(.o (.bool true)),.leaf,0,[],true⟩,[],.leaf⟩
theorem NW :Qg prog CO JP:=NX.trans (HU FZ mixed H2 (n:=3) (m:=100000) (d:=4) (N:=⟨[],[],[some [0]],[]⟩) (by kernel_rfl) rfl (by kernel_rfl)).1
abbrev Gy :Nat:=15
abbrev JO :Nat:=Gy
def Gs :List BA->Option (BA×Bool)
 | []=>some (.bool true,true)
 | _=>none
theorem W5 {S:BB} (hS:Zk prog S):Zk prog (S.with JO Gs):=Vf hS (by kernel_rfl) fun args v hv H vals w dB hH hG=>by
 unfold Gs at hv;split at hv
 .simp only [Ac,Aa,and_true] at hv;subst hv;exact (goes_call (H:=H) (by kernel_rfl) NW (by kernel_rfl) (show Wg prog JP.st (Yx prog 15 [] false []).rs =some [.bool true] by kernel_rfl) dB hH hG).mono fun e w' ⟨ρ,u,he,ho⟩=>⟨ρ.fz,u,ho.le,ho.old,ho.same,he,Xs 4 _ u rfl ho.val,ho.below⟩
 .cases hv
inductive EG where
 | h0 (v0:Int) (v3:List UInt8)
def Gt (x0:Int):EG->BJ
 | .h0 v0 v3=>⟨⟨23,0,true⟩,none,(Yb prog 78 [1,1,1,0,0] 0),none,(Zy prog 9),⟨Kk [(0,(ii v0)),(3,(.str v3))],BV [] 0,0,[],true⟩,[],.leaf⟩
def Eq :List (Option (List Nat)):=[some [0,3]]
def Er :List (Option (List Nat)):=[]
def HP (x0:Int):EG->Vu EG
 | .h0 v0 v3=>(bif (decide (0<=(wrap IntKind.u8 (wrap .i64 (48+(Int.tmod v0 10))))/\(wrap IntKind.u8 (wrap .i64 (48+(Int.tmod v0 10))))<256)) then (bif (H6 ([UInt8.ofNat (Int.toNat (wrap IntKind.u8 (wrap .i64 (48+(Int.tmod v0 10)))))]:List UInt8) v3) then (bif ((wrap .i64 (Int.tdiv v0 10)) == 0) then (.ret [(.str (([UInt8.ofNat (Int.toNat (wrap IntKind.u8 (wrap .i64 (48+(Int.tmod v0 10)))))]:List UInt8)++v3))]) else (.to (.h0 (wrap .i64 (Int.tdiv v0 10)) (([UInt8.ofNat (Int.toNat (wrap IntKind.u8 (wrap .i64 (48+(Int.tmod v0 10)))))]:List UInt8)++v3)))) else .stuck) else .stuck)
def Hf (x0:Int):Vu EG:=(bif (decide (x0<0)) then (bif (LZ (wrap .i64 (0 - x0))) then (bif (H6 ([45]:List UInt8) (EF (wrap .i64 (0 - x0)))) then (.ret [(.str (([45]:List UInt8)++(EF (wrap .i64 (0 - x0)))))]) else .stuck) else .stuck) else (.to (.h0 x0 ([]:List UInt8))))
theorem RU (x0:Int): ∀s,Uu prog (Zy prog 78) (Gt x0) (Gt x0 s) (HP x0 s)
 | .h0 v0 v3=>(lo fun cG=>(lo fun cI=>let a:=ww cI (pp (pp (xw cG) nn) nn);(lb (fun k0=>(lr 23 78 [1,1,1,0,0,0,1,1,1,0,0] 1 9 [(2,(.str (([UInt8.ofNat (tn (wrap IntKind.u8 (wr (48+(Int.tmod v0 10)))))]:List UInt8)++v3)))] (sl KN 30 [] (b8 [2]) a8 [true] (tt k0 a)))) (fun k0=>(sl KN 28 [] ⟨[],[],Eq,Er⟩ a8 [false] (tt k0 a))))))
theorem S8 (x0:Int):Uu prog (Zy prog 78) (Gt x0) (Yx prog 78 [(.int .i64 x0)] true []) (Hf x0):=(lb (fun k0=>(lo fun o0=>(lo fun o1=>(lr 23 78 [1,0,1,0,0] 1 9 [(2,(.str (([45]:List UInt8)++(EF (wr (0 - x0))))))] (sl KN 19 [] (b8 [2]) a8 [true] (ww o1 (ww o0 (tt k0 nn)))))))) (fun k0=>(sl KN 18 [] ⟨[],[],Eq,Er⟩ a8 [false] (tt k0 nn))))
theorem O1 (x0:Int) (n:Nat) (vs:List BA) (h:Wx (HP x0) n (Hf x0)=.ret vs):B5 prog (Zy prog 78) (Yx prog 78 [(.int .i64 x0)] true []) vs:=by have:=Yo (RU x0) n _ (S8 x0);rwa [h] at this
theorem w8 (n:Int) (h:0<=n/\n<256):wrap .u8 n=n:=by unfold wrap;simp [IntKind.signed,IntKind.bits];omega
theorem Fg (u:Nat):Int.tmod (u:Int) 10=((u %10:Nat):Int):=rfl
theorem Fh (u:Nat):Int.tdiv (u:Int) 10=((u / 10:Nat):Int):=rfl
theorem W4 {x:Int} (u:Nat) (acc:List UInt8) (hu:u<=9223372036854775807) (ha:acc.length<=1000):
  HP x (.h0 (u:Int) acc)=bif (((u / 10:Nat):Int) == 0) then .ret [.str ([UInt8.ofNat (48+u %10)]++acc)] else .to (.h0 ((u / 10:Nat):Int) ([UInt8.ofNat (48+u %10)]++acc)):=by
 have e1:wrap .i64 (48+Int.tmod (u:Int) 10)=((48+u %10:Nat):Int):=by rw [Fg,We (by omega)];rfl
 have e2:wrap .u8 ((48+u %10:Nat):Int)=((48+u %10:Nat):Int):=w8 _ (by omega);have e3:wrap .i64 (Int.tdiv (u:Int) 10)=((u / 10:Nat):Int):=by rw [Fh,We (by omega)]
 unfold HP;simp only [e1,e2,e3,Uh];rw [Zd (Ah (by omega)),Zd (E9 (by simp only [AD];omega))]
theorem PW {x:Int}: ∀(k u:Nat) (acc:List UInt8),u<10 ^ (k+1)->k<=40->u<=9223372036854775807->acc.length+k<=1000-> ∃N,Wx (HP x) N (.to (.h0 (u:Int) acc))=.ret [.str (decDigits u++acc)]
 | k,u,acc,h,hk,hu,ha=>by
  have est:=W4 (x:=x) u acc hu (by omega);by_cases h0:u<10
  .refine ⟨1,?_⟩;have:u / 10=0:=by omega
   rw [Zs,est,this,Zd (by rfl),Yh,decDigits,dif_pos h0,Nat.mod_eq_of_lt h0]
  .have hb:(((u / 10:Nat):Int) == 0)=false:=M5 (by omega)
   match k,h,hk,ha with
   | 0,h,_,_=>omega
   | k+1,h,hk,ha=>obtain ⟨N,hN⟩:=PW (x:=x) k (u / 10) ([UInt8.ofNat (48+u %10)]++acc) (by rw [Nat.pow_succ] at h;omega) (by omega) (by omega) (by rw [Al,AD];omega);refine ⟨N+1,?_⟩;rw [Zs,est,hb,Aj,hN,decDigits.eq_def u,dif_neg h0,AP]
theorem O2 (n:Int) (h:KD n=true): ∃N,Wx (HP n) N (Hf n)=.ret [.str (EZ n)]:=by
 have h:0<=n/\n<=9223372036854775807:=AB h;obtain ⟨u,rfl⟩: ∃u:Nat,n=(u:Int):=⟨n.toNat,by omega⟩
 obtain ⟨N,hN⟩:=PW (x:=(u:Int)) 19 u [] (by omega) (by decide) (by omega) (by decide);refine ⟨N,?_⟩;have e:Hf (u:Int)=.to (.h0 (u:Int) []):=by unfold Hf;rw [An (by omega),Aj]
 rw [e,hN,List.append_nil];unfold EZ itoa;rw [At (by omega)];rfl
theorem KO :Zk prog X6:=Ci KX (by kernel_rfl) fun args v h=>by
 unfold Eo at h;split at h
 .rename_i n;simp only [Ac,Aa] at h;obtain ⟨rfl,ho⟩:=h;obtain ⟨N,hN⟩:=O2 n ho;exact ⟨_,_,.cons (.refl _) .nil,rfl,O1 n N _ hN,3,rfl⟩
 .cases h
inductive EI where
 | h0 (v0:Int) (v3:List UInt8)
def Gu (x0:Int):EI->BJ
 | .h0 v0 v3=>⟨⟨23,0,true⟩,none,(Yb prog 78 [1,1,1,0,0] 0),none,(Zy prog 9),⟨Kk [(0,(ii v0)),(3,(.str v3))],BV [] 0,0,[],true⟩,[],.leaf⟩
def Es :List (Option (List Nat)):=[some [0,3]]
def Et :List (Option (List Nat)):=[]
def Po (x0:Int):EI->Vu EI
 | .h0 v0 v3=>(bif (decide (0<=(wrap IntKind.u8 (wrap .i64 (48+(Int.tmod v0 10))))/\(wrap IntKind.u8 (wrap .i64 (48+(Int.tmod v0 10))))<256)) then (bif (H6 ([UInt8.ofNat (Int.toNat (wrap IntKind.u8 (wrap .i64 (48+(Int.tmod v0 10)))))]:List UInt8) v3) then (bif ((wrap .i64 (Int.tdiv v0 10)) == 0) then (.ret [(.str (([UInt8.ofNat (Int.toNat (wrap IntKind.u8 (wrap .i64 (48+(Int.tmod v0 10)))))]:List UInt8)++v3))]) else (.to (.h0 (wrap .i64 (Int.tdiv v0 10)) (([UInt8.ofNat (Int.toNat (wrap IntKind.u8 (wrap .i64 (48+(Int.tmod v0 10)))))]:List UInt8)++v3)))) else .stuck) else .stuck)
def JZ (x0:Int):Vu EI:=(bif (decide (x0<0)) then (bif (KD (wrap .i64 (0 - x0))) then (bif (H6 ([45]:List UInt8) (EZ (wrap .i64 (0 - x0)))) then (.ret [(.str (([45]:List UInt8)++(EZ (wrap .i64 (0 - x0)))))]) else .stuck) else .stuck) else (.to (.h0 x0 ([]:List UInt8))))
theorem RT (x0:Int): ∀s,Uu prog (Zy prog 78) (Gu x0) (Gu x0 s) (Po x0 s)
 | .h0 v0 v3=>(lo fun cG=>(lo fun cI=>let a:=ww cI (pp (pp (xw cG) nn) nn);(lb (fun k0=>(lr 23 78 [1,1,1,0,0,0,1,1,1,0,0] 1 9 [(2,(.str (([UInt8.ofNat (tn (wrap IntKind.u8 (wr (48+(Int.tmod v0 10)))))]:List UInt8)++v3)))] (sl KO 30 [] (b8 [2]) a8 [true] (tt k0 a)))) (fun k0=>(sl KO 28 [] ⟨[],[],Es,Et⟩ a8 [false] (tt k0 a))))))
theorem S0 (x0:Int):Uu prog (Zy prog 78) (Gu x0) (Yx prog 78 [(.int .i64 x0)] true []) (JZ x0):=(lb (fun k0=>(lo fun o0=>(lo fun o1=>(lr 23 78 [1,0,1,0,0] 1 9 [(2,(.str (([45]:List UInt8)++(EZ (wr (0 - x0))))))] (sl KO 19 [] (b8 [2]) a8 [true] (ww o1 (ww o0 (tt k0 nn)))))))) (fun k0=>(sl KO 18 [] ⟨[],[],Es,Et⟩ a8 [false] (tt k0 nn))))
theorem UB (x0:Int) (n:Nat) (vs:List BA) (h:Wx (Po x0) n (JZ x0)=.ret vs):B5 prog (Zy prog 78) (Yx prog 78 [(.int .i64 x0)] true []) vs:=by have:=Yo (RT x0) n _ (S0 x0);rwa [h] at this
structure R7 where
 (a b c d e f g:Int)
instance : Ww R7 where
 w:=7
 d:=⟨0,0,0,0,0,0,0⟩
 cells x:=[.int .u8 x.a,.int .i64 x.b,.int .i64 x.c,.int .i64 x.d,.int .i64 x.e,.int .i64 x.f,.int .i64 x.g]
 of l:=⟨BZ (l.getD 0 .undef),BZ (l.getD 1 .undef),BZ (l.getD 2 .undef),BZ (l.getD 3 .undef),BZ (l.getD 4 .undef),BZ (l.getD 5 .undef),BZ (l.getD 6 .undef)⟩
 len _:=rfl
 pos:=by decide
 flat _:=rfl
 sc _:=rfl
 back _:=rfl
def Di (n:Int):List UInt8:=itoa n
def Ko (n:Int):Bool:=decide (-9223372036854775807<=n/\n<=9223372036854775807)
def Gm :List BA->Option (BA×Bool)
 | [.int .i64 n]=>some (.str (Di n),Ko n)
 | _=>none
theorem S7 (n:Int) (h: -9223372036854775808<=n/\n<=9223372036854775807):(EZ n).length <=21:=itoa_length_le n h.1 h.2
theorem W8 {S:BB} (hS:Zk prog S):Zk prog (S.with EH Gm):=Ci hS (by kernel_rfl) fun args v h=>by
 unfold Gm at h;split at h
 .rename_i n;simp only [Ac,Aa] at h;obtain ⟨rfl,ho⟩:=h;have ho: -9223372036854775807<=n/\n<=9223372036854775807:=AB ho;by_cases hn:n<0
  .have e:JZ n=.ret [.str (Di n)]:=by unfold JZ;rw [Zd (Ah hn),We (by omega),Zd (show KD (0 - n)=true from Ah (by omega))];have:=S7 (0 - n) (by omega);rw [Zd (E9 (by simp only [AD];omega))];unfold EZ Di itoa;rw [At (by omega),Aw hn,show (0 - n).toNat =n.natAbs by omega];rfl
   exact ⟨_,_,.cons (.refl _) .nil,rfl,UB n 0 _ (by rw [e];rfl),3,rfl⟩
  .obtain ⟨N,hN⟩:=O2 n (Ah (by omega));exact ⟨_,_,.cons (.refl _) .nil,rfl,O1 n N _ hN,3,rfl⟩
 .cases h
def SD :BB:=SC.with EH Gm
theorem Qz :Zk prog SD:=W8 KX
inductive EB where
def G9 (aY:Int) (aV:Int) (aU:Int):EB->BJ
 :=nofun
def MD (aY:Int) (aV:Int) (aU:Int):EB->Vu EB
 :=nofun
def J0 (aY:Int) (aV:Int) (aU:Int):Vu EB:=(bif (decide ((C9 (C9 aY aV) aU)>=(-1000000))) then (.ret [(.bool (decide ((C8 (C8 aY aV) aU)<=1000000)))]) else (.ret [(.bool false)]))
theorem RV (aY:Int) (aV:Int) (aU:Int): ∀s,Uu prog (Zy prog 97) (G9 aY aV aU) (G9 aY aV aU s) (MD aY aV aU s)
 :=nofun
theorem Sa (aY:Int) (aV:Int) (aU:Int):Uu prog (Zy prog 97) (G9 aY aV aU) (Yx prog 97 [(.agg [(.int .i64 aY),(.int .i64 aV),(.int .i64 aU)])] true []) (J0 aY aV aU):=(lb (fun k0=>(lr 21 3 [1,1,1,1,1,1,0] 1 9 [(2,(.bool (decide ((C8 (C8 aY aV) aU)<=1000000))))] (sl Qz 27 [] (b8 [2]) a8 (Bu 8 []) (tt k0 nn)))) (fun k0=>(lr 21 3 [1,1,1,1,1,1,0] 1 9 [(2,(.bool false))] (sl Qz 27 [] (b8 [2]) a8 (bl 8 0) (tt k0 nn)))))
theorem UF (aY:Int) (aV:Int) (aU:Int) (n:Nat) (vs:List BA) (h:Wx (MD aY aV aU) n (J0 aY aV aU)=.ret vs):B5 prog (Zy prog 97) (Yx prog 97 [(.agg [(.int .i64 aY),(.int .i64 aV),(.int .i64 aU)])] true []) vs:=by have:=Yo (RV aY aV aU) n _ (Sa aY aV aU);rwa [h] at this
inductive Dq where
def Fr (aY:Int) (aV:Int) (aU:Int) (x1:Int):Dq->BJ
 :=nofun
def MJ (aY:Int) (aV:Int) (aU:Int) (x1:Int):Dq->Vu Dq
 :=nofun
def J5 (aY:Int) (aV:Int) (aU:Int) (x1:Int):Vu Dq:=(bif (decide (aY>=x1)) then (bif (decide (aV>=x1)) then (bif (decide (aU>=x1)) then (bif (decide (aY<=1000000)) then (bif (decide (aV<=1000000)) then (.ret [(.bool (decide (aU<=1000000)))]) else (.ret [(.bool false)])) else (.ret [(.bool false)])) else (.ret [(.bool false)])) else (.ret [(.bool false)])) else (.ret [(.bool false)]))
theorem Rq (aY:Int) (aV:Int) (aU:Int) (x1:Int): ∀s,Uu prog (Zy prog 60) (Fr aY aV aU x1) (Fr aY aV aU x1 s) (MJ aY aV aU x1 s)
 :=nofun
theorem Su (aY:Int) (aV:Int) (aU:Int) (x1:Int):Uu prog (Zy prog 60) (Fr aY aV aU x1) (Yx prog 60 [(.agg [(.int .i64 aY),(.int .i64 aV),(.int .i64 aU)]),(.int .i64 x1)] true []) (J5 aY aV aU x1):=(lb (fun k0=>(lb (fun k1=>let a:=tt k1 (tt k0 nn);(lb (fun k2=>(lb (fun k3=>let b:=tt k3 (tt k2 a);(lb (fun k4=>(lr 36 3 [1,1,1,1,1,1,0] 1 3 [(4,(.bool (decide (aU<=1000000))))] (sl Qz 40 [] (b8 [4]) a8 (Bu 17 []) (tt k4 b)))) (fun k4=>(lr 36 3 [1,1,1,1,1,1,0] 1 3 [(4,(.bool false))] (sl Qz 40 [] (b8 [4]) a8 (Bu 14 (bl 3 0)) (tt k4 b)))))) (fun k3=>(lr 36 3 [1,1,1,1,1,1,0] 1 3 [(4,(.bool false))] (sl Qz 40 [] (b8 [4]) a8 (Bu 11 (bl 6 0)) (tt k3 (tt k2 a))))))) (fun k2=>(lr 36 3 [1,1,1,1,1,1,0] 1 3 [(4,(.bool false))] (sl Qz 40 [] (b8 [4]) a8 (Bu 8 (bl 9 0)) (tt k2 a)))))) (fun k1=>(lr 36 3 [1,1,1,1,1,1,0] 1 3 [(4,(.bool false))] (sl Qz 40 [] (b8 [4]) a8 (Bu 4 (bl 13 0)) (tt k1 (tt k0 nn))))))) (fun k0=>(lr 36 3 [1,1,1,1,1,1,0] 1 3 [(4,(.bool false))] (sl Qz 40 [] (b8 [4]) a8 (bl 17 0) (tt k0 nn)))))
theorem U4 (aY:Int) (aV:Int) (aU:Int) (x1:Int) (n:Nat) (vs:List BA) (h:Wx (MJ aY aV aU x1) n (J5 aY aV aU x1)=.ret vs):B5 prog (Zy prog 60) (Yx prog 60 [(.agg [(.int .i64 aY),(.int .i64 aV),(.int .i64 aU)]),(.int .i64 x1)] true []) vs:=by have:=Yo (Rq aY aV aU x1) n _ (Su aY aV aU x1);rwa [h] at this
inductive EK where
def Gv (aY:Int) (aV:Int) (aU:Int) (x1:Int):EK->BJ
 :=nofun
def MB (aY:Int) (aV:Int) (aU:Int) (x1:Int):EK->Vu EK
 :=nofun
def JX (aY:Int) (aV:Int) (aU:Int) (x1:Int):Vu EK:=(bif (x1 == 0) then (.ret [(.int .i64 aY)]) else (bif (x1 == 1) then (.ret [(.int .i64 aV)]) else (.ret [(.int .i64 aU)])))
theorem RQ (aY:Int) (aV:Int) (aU:Int) (x1:Int): ∀s,Uu prog (Zy prog 95) (Gv aY aV aU x1) (Gv aY aV aU x1 s) (MB aY aV aU x1 s)
 :=nofun
theorem SY (aY:Int) (aV:Int) (aU:Int) (x1:Int):Uu prog (Zy prog 95) (Gv aY aV aU x1) (Yx prog 95 [(.agg [(.int .i64 aY),(.int .i64 aV),(.int .i64 aU)]),(.int .i64 x1)] true []) (JX aY aV aU x1):=(lb (fun k0=>(lr 15 95 [1,0,1,0,0] 1 3 [(4,(ii aY))] (sl Qz 18 [] (b8 [4]) a8 [true] (tt k0 nn)))) (fun k0=>(lb (fun k1=>(lr 15 95 [1,1,0,1,0,0] 1 3 [(4,(ii aV))] (sl Qz 26 [] (b8 [4]) a8 (bl 2 2) (tt k1 (tt k0 nn))))) (fun k1=>(lr 15 3 [1,1,1,1,1,1,0] 1 3 [(4,(ii aU))] (sl Qz 27 [] (b8 [4]) a8 (bl 2 0) (tt k1 (tt k0 nn))))))))
theorem Tz (aY:Int) (aV:Int) (aU:Int) (x1:Int) (n:Nat) (vs:List BA) (h:Wx (MB aY aV aU x1) n (JX aY aV aU x1)=.ret vs):B5 prog (Zy prog 95) (Yx prog 95 [(.agg [(.int .i64 aY),(.int .i64 aV),(.int .i64 aU)]),(.int .i64 x1)] true []) vs:=by have:=Yo (RQ aY aV aU x1) n _ (SY aY aV aU x1);rwa [h] at this
inductive Dm where
 | h0 (v5:Int)
def Fn (l0:List R7) (l1:List R7):Dm->BJ
 | .h0 v5=>⟨⟨26,0,true⟩,none,(Yb prog 24 [1,1,0,1,0,0] 0),none,(Zy prog 3),⟨Kk [(0,(.dat l0.length (Zx l0))),(1,(.dat l1.length (Zx l1))),(5,(ii v5))],BV [] 0,0,[],true⟩,[],.leaf⟩
def Ea :List (Option (List Nat)):=[some [0,1,5]]
def Eb :List (Option (List Nat)):=[]
def Qs (l0:List R7) (l1:List R7):Dm->Vu Dm
 | .h0 v5=>(bif (decide (v5<(l0.length:Int))) then (bif ((decide (0<=v5/\v5<(l0.length:Int)))&&true) then (bif ((decide (0<=v5/\v5<(l1.length:Int)))&&true) then (bif (!(((rd l0 v5.toNat).a == (rd l1 v5.toNat).a)&&((((rd l0 v5.toNat).b == (rd l1 v5.toNat).b)&&(((rd l0 v5.toNat).c == (rd l1 v5.toNat).c)&&(((rd l0 v5.toNat).d == (rd l1 v5.toNat).d)&&true)))&&((((rd l0 v5.toNat).e == (rd l1 v5.toNat).e)&&(((rd l0 v5.toNat).f == (rd l1 v5.toNat).f)&&(((rd l0 v5.toNat).g == (rd l1 v5.toNat).g)&&true)))&&true)))) then (.ret [(.bool false)]) else (.to (.h0 (wrap .i64 (v5+1))))) else .stuck) else .stuck) else (.ret [(.bool true)]))
def J9 (l0:List R7) (l1:List R7):Vu Dm:=(bif ((l0.length:Int) != (l1.length:Int)) then (.ret [(.bool false)]) else (.to (.h0 0)))
theorem Rt (l0:List R7) (l1:List R7): ∀s,Uu prog (Zy prog 24) (Fn l0 l1) (Fn l0 l1 s) (Qs l0 l1 s)
 | .h0 v5=>(lb (fun k0=>(lo fun aT=>(lo fun bG=>let a:=ww bG (ww aT (tt k0 nn));(lb (fun k1=>(lr 26 24 [1,1,0,1,0,0,1,0,0,1,0,0] 1 3 [(4,(.bool false))] (sl Qz 19 [] (b8 [4]) a8 (bl 2 3) (tt k1 a)))) (fun k1=>(sl Qz 23 [] ⟨[],[],Ea,Eb⟩ a8 (bl 2 1) (tt k1 a))))))) (fun k0=>(lr 26 3 [1,1,1,1,1,1,0] 1 3 [(4,(.bool true))] (sl Qz 14 [] (b8 [4]) a8 [false] (tt k0 nn)))))
theorem Sy (l0:List R7) (l1:List R7):Uu prog (Zy prog 24) (Fn l0 l1) (Yx prog 24 [(.dat l0.length (Zx l0)),(.dat l1.length (Zx l1))] true []) (J9 l0 l1):=(lb (fun k0=>(lr 26 24 [1,0,1,0,0] 1 3 [(4,(.bool false))] (sl Qz 18 [] (b8 [4]) a8 [true] (tt k0 nn)))) (fun k0=>(sl Qz 22 [] ⟨[],[],Ea,Eb⟩ a8 [false] (tt k0 nn))))
theorem VA (l0:List R7) (l1:List R7) (n:Nat) (vs:List BA) (h:Wx (Qs l0 l1) n (J9 l0 l1)=.ret vs):B5 prog (Zy prog 24) (Yx prog 24 [(.dat l0.length (Zx l0)),(.dat l1.length (Zx l1))] true []) vs:=by have:=Yo (Rt l0 l1) n _ (Sy l0 l1);rwa [h] at this
def C7 (x y z:Int):Bool:=decide (C9 (C9 x y) z>=(-1000000))&&decide (C8 (C8 x y) z<=1000000)
theorem XJ (x y z:Int): ∃N,Wx (MD x y z) N (J0 x y z)=.ret [.bool (C7 x y z)]:=⟨0,by
 unfold J0 C7;cases decide (C9 (C9 x y) z>=(-1000000)) <;> rfl⟩
def Gl :List BA->Option (BA×Bool)
 | [.agg [.int .i64 aY,.int .i64 aV,.int .i64 aU]]=>some (.bool (C7 aY aV aU),true)
 | _=>none
theorem W9 {S:BB} (hS:Zk prog S):Zk prog (S.with P3 Gl):=by
 refine Ci hS (by kernel_rfl) fun args v h=> ?_;unfold Gl at h;split at h
 .rename_i aY aV aU;simp only [Ac,Aa,and_true] at h;subst h;obtain ⟨N,hN⟩:=XJ aY aV aU;exact ⟨_,_,(.cons (.refl _) .nil),rfl,UF aY aV aU N _ hN,3,rfl⟩
 .cases h
def F7 (x y z lo:Int):Bool:=decide (x>=lo)&&(decide (y>=lo)&&(decide (z>=lo)&&(decide (x<=1000000)&&(decide (y<=1000000)&&decide (z<=1000000)))))
theorem To (x y z lo:Int): ∃N,Wx (MJ x y z lo) N (J5 x y z lo)=.ret [.bool (F7 x y z lo)]:=⟨0,by
 unfold J5 F7;cases decide (x>=lo) <;> cases decide (y>=lo) <;> cases decide (z>=lo) <;> cases decide (x<=1000000) <;> cases decide (y<=1000000) <;> rfl⟩
def Ge :List BA->Option (BA×Bool)
 | [.agg [.int .i64 x,.int .i64 y,.int .i64 z],.int .i64 lo]=>some (.bool (F7 x y z lo),true)
 | _=>none
theorem XF {S:BB} (hS:Zk prog S):Zk prog (S.with Ej Ge):=by
 refine Ci hS (by kernel_rfl) fun args v h=> ?_;unfold Ge at h;split at h
 .rename_i x y z lo;simp only [Ac,Aa,and_true] at h;subst h;obtain ⟨N,hN⟩:=To x y z lo;exact ⟨_,_,(.cons (.refl _) (.cons (.refl _) .nil)),rfl,U4 x y z lo N _ hN,3,rfl⟩
 .cases h
def B3 (x y z i:Int):Int:=bif i == 0 then x else bif i == 1 then y else z
theorem W1 (x y z i:Int): ∃N,Wx (MB x y z i) N (JX x y z i)=.ret [.int .i64 (B3 x y z i)]:=⟨0,by
 unfold JX B3;cases (i == 0) <;> cases (i == 1) <;> rfl⟩
def Gn :List BA->Option (BA×Bool)
 | [.agg [.int .i64 aY,.int .i64 aV,.int .i64 aU],.int .i64 x1]=>some (.int .i64 (B3 aY aV aU x1),true)
 | _=>none
theorem W7 {S:BB} (hS:Zk prog S):Zk prog (S.with P2 Gn):=by
 refine Ci hS (by kernel_rfl) fun args v h=> ?_;unfold Gn at h;split at h
 .rename_i aY aV aU x1;simp only [Ac,Aa,and_true] at h;subst h;obtain ⟨N,hN⟩:=W1 aY aV aU x1;exact ⟨_,_,(.cons (.refl _) (.cons (.refl _) .nil)),rfl,Tz aY aV aU x1 N _ hN,3,rfl⟩
 .cases h
instance : DecidableEq R7:=Classical.typeDecidableEq _
def Pc (l m:List R7):Bool:=decide (l=m)
def JG (r s:R7):Bool:=(r.a == s.a)&&(((r.b == s.b)&&((r.c == s.c)&&((r.d == s.d)&&true)))&&(((r.e == s.e)&&((r.f == s.f)&&((r.g == s.g)&&true)))&&true))
theorem Pp (r s:R7):JG r s=true↔r=s:=by obtain ⟨a,b,c,d,e,f,g⟩:=r;obtain ⟨a',b',c',d',e',f',g'⟩:=s;simp [JG,and_assoc]
def DL (l m:List R7):Bool:=Pc l m
def KK (l m:List R7):Bool:=decide (l.length<=1000000)
theorem Pb (l m:List R7) (hl:l.length<=1000000) (hm:l.length=m.length): ∀(k i:Nat),i+k=l.length-> ∃N,Wx (Qs l m) N (.to (.h0 (i:Int)))=.ret [.bool (decide (l.drop i=m.drop i))]
 | 0,i,h=>by
  refine ⟨1,?_⟩
  grind [Zs,Qs,Yh]
 | k+1,i,h=>by
  have hi:i<l.length:=by omega
  obtain ⟨N,hN⟩:=Pb l m hl hm k (i+1) (by omega);refine ⟨N+1,?_⟩;rw [Zs,FL hi,FL (show i<m.length by omega)];have e:Qs l m (.h0 (i:Int))=bif !(JG (rd l i) (rd m i)) then .ret [.bool false] else .to (.h0 ((i+1:Nat):Int)):=by
   grind [Qs,JG,We]
  rw [e];by_cases q:rd l i=rd m i
  .rw [(Pp _ _).2 q,Bm,Aj,hN];simp_all
  .rw [show JG (rd l i) (rd m i)=false from AS.2 fun h=>q ((Pp _ _).1 h),Bool.not_false,Ao,Yh];simp_all
theorem Tr (l m:List R7) (h:KK l m=true): ∃N,Wx (Qs l m) N (J9 l m)=.ret [.bool (DL l m)]:=by
 have hl:l.length<=1000000:=AB h;unfold J9;by_cases hm:l.length=m.length
 .obtain ⟨N,hN⟩:=Pb l m hl hm l.length 0 (Az _);refine ⟨N,?_⟩;rw [show ((l.length:Int) != (m.length:Int))=false by rw [hm];simp,Aj];exact hN
 .refine ⟨0,?_⟩;rw [show ((l.length:Int) != (m.length:Int))=true by simp;omega,Ao,Yh]
  congr 3
  exact (An fun e=>hm (by rw [e])).symm
def EC :List BA->Option (BA×Bool)
 | [a0,a1]=>match D1 R7 a0,D1 R7 a1 with
  | some (L0,g0,n0),some (L1,g1,n1)=>some (.bool (DL L0 L1),CJ R7 n0 g0&&(CJ R7 n1 g1&&(KK L0 L1)))
  | _,_=>none
 | _=>none
theorem Pt {S:BB} (hS:Zk prog S):Zk prog (S.with Fi EC):=by
 refine Ci hS (by kernel_rfl) fun args v h=> ?_;unfold EC at h;split at h
 .rename_i a0 a1;split at h
  .rename_i L0 g0 n0 L1 g1 n1 e0 e1;simp only [Ac,Aa,Ad] at h;obtain ⟨rfl,ho0,ho1,hw⟩:=h;obtain ⟨N,hN⟩:=Tr L0 L1 hw;exact ⟨_,_,(.cons (asL_le e0 ho0) (.cons (asL_le e1 ho1) .nil)),rfl,VA L0 L1 N _ hN,3,rfl⟩
  .cases h
 .cases h
def S1 :BB:=(((SD.with P3 Gl).with Ej Ge).with P2 Gn).with Fi EC
theorem Wd :Zk prog S1:=Pt (W7 (XF (W9 Qz)))
-- h0: index into an array (choices [true, false, false, false, false, false, false])
inductive Dy where
 | h0 (v14:Int)
def GZ (l0:List R7):Dy->BJ
 | .h0 v14=>⟨⟨70,0,true⟩,none,(Yb prog 59 [1,1,1,0,1,0,0] 0),none,(Zy prog 9),⟨Kk [(3,(.ptr 0 0)),(12,(.dat l0.length (Zx l0))),(13,(ii (l0.length:Int))),(14,(ii v14))],BV [⟨[(.fn 128 []),(.fn 129 []),(.fn 130 []),(.fn 131 []),(.fn 132 []),(.fn 133 []),(.fn 134 []),(.fn 135 []),(.fn 136 [])],164,none⟩] 0,1,[],true⟩,[],.leaf⟩
def K6 :List (Option (List Nat)):=[some [3,12,13,14]]
def K5 :List (Option (List Nat)):=[]
def FM (l0:List R7):Dy->Vu Dy
 | .h0 v14=>(bif (decide (v14<(l0.length:Int))) then (bif ((decide (0<=v14/\v14<(l0.length:Int)))&&true) then (bif (decide ((rd l0 v14.toNat).a >5)) then (.ret [(.int .i64 8)]) else (bif (!(C7 (rd l0 v14.toNat).b (rd l0 v14.toNat).c (rd l0 v14.toNat).d)) then (.ret [(.int .i64 8)]) else (bif (!(C7 (rd l0 v14.toNat).e (rd l0 v14.toNat).f (rd l0 v14.toNat).g)) then (.ret [(.int .i64 8)]) else (bif (decide ((wrap IntKind.u8 (Int.tdiv (rd l0 v14.toNat).a 2))=Int.ofNat 0)) then (bif ((rd l0 v14.toNat).b != (rd l0 v14.toNat).e) then (.ret [(.int .i64 8)]) else (bif (decide ((rd l0 v14.toNat).c >=(rd l0 v14.toNat).f)) then (.ret [(.int .i64 8)]) else (bif (decide ((rd l0 v14.toNat).d >=(rd l0 v14.toNat).g)) then (.ret [(.int .i64 8)]) else (.to (.h0 (wrap .i64 (v14+1))))))) else (bif (decide ((wrap IntKind.u8 (Int.tdiv (rd l0 v14.toNat).a 2))=Int.ofNat 1)) then (bif ((rd l0 v14.toNat).c != (rd l0 v14.toNat).f) then (.ret [(.int .i64 8)]) else (bif (decide ((rd l0 v14.toNat).b >=(rd l0 v14.toNat).e)) then (.ret [(.int .i64 8)]) else (bif (decide ((rd l0 v14.toNat).d >=(rd l0 v14.toNat).g)) then (.ret [(.int .i64 8)]) else (.to (.h0 (wrap .i64 (v14+1))))))) else (bif (decide ((wrap IntKind.u8 (Int.tdiv (rd l0 v14.toNat).a 2))=Int.ofNat 2)) then (bif ((rd l0 v14.toNat).d != (rd l0 v14.toNat).g) then (.ret [(.int .i64 8)]) else (bif (decide ((rd l0 v14.toNat).b >=(rd l0 v14.toNat).e)) then (.ret [(.int .i64 8)]) else (bif (decide ((rd l0 v14.toNat).c >=(rd l0 v14.toNat).f)) then (.ret [(.int .i64 8)]) else (.to (.h0 (wrap .i64 (v14+1))))))) else .stuck)))))) else .stuck) else (.ret [(.int .i64 0)]))
def J3 (l0:List R7):Vu Dy:=(bif (decide ((l0.length:Int)>3000)) then (.ret [(.int .i64 4)]) else (.to (.h0 0)))
theorem Rg (l0:List R7): ∀s,Uu prog (Zy prog 59) (GZ l0) (GZ l0 s) (FM l0 s)
 | .h0 v14=>(lb (fun k0=>(lo fun aT=>let b:=ww aT (tt k0 nn);(lb (fun k1=>(lr 70 59 [1,1,1,0,1,0,0,1,1,0,0,1,0,1,0,0] 1 9 [(2,(ii 8))] (sl Wd 40 [] (b8 [2]) a8 (Bu 10 []) (tt k1 b)))) (fun k1=>(lb (fun k2=>(lr 70 59 [1,1,1,0,1,0,0,1,1,0,0,1,0,1,0,0] 1 9 [(2,(ii 8))] (sl Wd 40 [] (b8 [2]) a8 (bl 10 993) (tt k2 (tt k1 b))))) (fun k2=>let f:=tt k2 (tt k1 b);(lb (fun k3=>(lr 70 59 [1,1,1,0,1,0,0,1,1,0,0,1,0,1,0,0] 1 9 [(2,(ii 8))] (sl Wd 40 [] (b8 [2]) a8 (bl 10 513) (tt k3 f)))) (fun k3=>let a:=tt k3 f;(lb (fun k4=>(lb (fun k5=>(lr 70 59 [1,1,1,0,1,0,0,1,1,0,0,1,1,1,1,1,0,0] 1 9 [(2,(ii 8))] (sl Wd 124 [] (b8 [2]) a8 (bl 22 4192257) (tt k5 (ww k4 a))))) (fun k5=>let c:=tt k5 (ww k4 a);(lb (fun k6=>(lr 70 59 [1,1,1,0,1,0,0,1,1,0,0,1,1,1,1,1,0,0] 1 9 [(2,(ii 8))] (sl Wd 124 [] (b8 [2]) a8 (bl 22 4128769) (tt k6 c)))) (fun k6=>(lb (fun k7=>(lr 70 59 [1,1,1,0,1,0,0,1,1,0,0,1,1,1,1,1,0,0] 1 9 [(2,(ii 8))] (sl Wd 124 [] (b8 [2]) a8 (bl 22 2097153) (tt k7 (tt k6 c))))) (fun k7=>(sl Wd 127 [] ⟨[0],[],K6,K5⟩ a8 (bl 22 1) (tt k7 (tt k6 c)))))))))) (fun k4=>(lb (fun k5=>(lb (fun k6=>(lr 70 59 [1,1,1,0,1,0,0,1,1,0,0,1,1,1,1,1,0,0] 1 9 [(2,(ii 8))] (sl Wd 124 [] (b8 [2]) a8 (bl 23 8385537) (tt k6 (ww k5 a))))) (fun k6=>let d:=tt k6 (ww k5 a);(lb (fun k7=>(lr 70 59 [1,1,1,0,1,0,0,1,1,0,0,1,1,1,1,1,0,0] 1 9 [(2,(ii 8))] (sl Wd 124 [] (b8 [2]) a8 (bl 23 8258561) (tt k7 d)))) (fun k7=>(lb (fun k8=>(lr 70 59 [1,1,1,0,1,0,0,1,1,0,0,1,1,1,1,1,0,0] 1 9 [(2,(ii 8))] (sl Wd 124 [] (b8 [2]) a8 (bl 23 4195329) (tt k8 (tt k7 d))))) (fun k8=>(sl Wd 127 [] ⟨[0],[],K6,K5⟩ a8 (bl 23 1025) (tt k8 (tt k7 d)))))))))) (fun k5=>(lb (fun k6=>(lb (fun k7=>(lr 70 59 [1,1,1,0,1,0,0,1,1,0,0,1,1,1,1,1,0,0] 1 9 [(2,(ii 8))] (sl Wd 124 [] (b8 [2]) a8 (bl 24 16772097) (tt k7 (ww k6 a))))) (fun k7=>let e:=tt k7 (ww k6 a);(lb (fun k8=>(lr 70 59 [1,1,1,0,1,0,0,1,1,0,0,1,1,1,1,1,0,0] 1 9 [(2,(ii 8))] (sl Wd 124 [] (b8 [2]) a8 (bl 24 16518145) (tt k8 e)))) (fun k8=>(lb (fun k9=>(lr 70 59 [1,1,1,0,1,0,0,1,1,0,0,1,1,1,1,1,0,0] 1 9 [(2,(ii 8))] (sl Wd 124 [] (b8 [2]) a8 (bl 24 8391681) (tt k9 (tt k8 e))))) (fun k9=>(sl Wd 127 [] ⟨[0],[],K6,K5⟩ a8 (bl 24 3073) (tt k9 (tt k8 e)))))))))) (fun k6=>trivial)))))))))))))) (fun k0=>(lr 70 3 [1,1,1,1,1,1,0] 1 9 [(2,(ii 0))] (sl Wd 11 [] (b8 [2]) a8 [false] (tt k0 nn)))))
theorem Si (l0:List R7):Uu prog (Zy prog 59) (GZ l0) (Yx prog 59 [(.dat l0.length (Zx l0))] true []) (J3 l0):=(lb (fun k0=>(lr 70 59 [1,0,1,0,0] 1 9 [(2,(ii 4))] (sl Wd 16 [] (b8 [2]) a8 [true] (tt k0 nn)))) (fun k0=>(sl Wd 41 [] ⟨[1],[],K6,K5⟩ a8 [false] (tt k0 nn))))
theorem UR (l0:List R7) (n:Nat) (vs:List BA) (h:Wx (FM l0) n (J3 l0)=.ret vs):B5 prog (Zy prog 59) (Yx prog 59 [(.dat l0.length (Zx l0))] true []) vs:=by have:=Yo (Rg l0) n _ (Si l0);rwa [h] at this
inductive DK where
def Fm (aY:Int) (aV:Int) (aU:Int) (bX:Int) (bY:Int) (bZ:Int) (cA:Int):DK->BJ
 :=nofun
def MN (aY:Int) (aV:Int) (aU:Int) (bX:Int) (bY:Int) (bZ:Int) (cA:Int):DK->Vu DK
 :=nofun
def Jl (aY:Int) (aV:Int) (aU:Int) (bX:Int) (bY:Int) (bZ:Int) (cA:Int):Vu DK:=(bif (decide (aY>5)) then (.ret [(.bool false)]) else (bif (!(F7 aV aU bX (-1000000))) then (.ret [(.bool false)]) else (bif (!(F7 bY bZ cA (-1000000))) then (.ret [(.bool false)]) else (bif ((wrap .i64 (Int.tdiv (wrap .i64 aY) 2)) == 0) then (bif ((B3 aV aU bX (wrap .i64 (Int.tdiv (wrap .i64 aY) 2))) == (B3 bY bZ cA (wrap .i64 (Int.tdiv (wrap .i64 aY) 2)))) then (bif (decide ((B3 aV aU bX 1)<(B3 bY bZ cA 1))) then (.ret [(.bool (decide ((B3 aV aU bX 2)<(B3 bY bZ cA 2))))]) else (.ret [(.bool false)])) else (.ret [(.bool false)])) else (bif ((wrap .i64 (Int.tdiv (wrap .i64 aY) 2)) == 1) then (bif ((B3 aV aU bX (wrap .i64 (Int.tdiv (wrap .i64 aY) 2))) == (B3 bY bZ cA (wrap .i64 (Int.tdiv (wrap .i64 aY) 2)))) then (bif (decide ((B3 aV aU bX 0)<(B3 bY bZ cA 0))) then (.ret [(.bool (decide ((B3 aV aU bX 2)<(B3 bY bZ cA 2))))]) else (.ret [(.bool false)])) else (.ret [(.bool false)])) else (bif ((B3 aV aU bX (wrap .i64 (Int.tdiv (wrap .i64 aY) 2))) == (B3 bY bZ cA (wrap .i64 (Int.tdiv (wrap .i64 aY) 2)))) then (bif (decide ((B3 aV aU bX 0)<(B3 bY bZ cA 0))) then (.ret [(.bool (decide ((B3 aV aU bX 1)<(B3 bY bZ cA 1))))]) else (.ret [(.bool false)])) else (.ret [(.bool false)])))))))
theorem Ru (aY:Int) (aV:Int) (aU:Int) (bX:Int) (bY:Int) (bZ:Int) (cA:Int): ∀s,Uu prog (Zy prog 58) (Fm aY aV aU bX bY bZ cA) (Fm aY aV aU bX bY bZ cA s) (MN aY aV aU bX bY bZ cA s)
 :=nofun
theorem Sz (aY:Int) (aV:Int) (aU:Int) (bX:Int) (bY:Int) (bZ:Int) (cA:Int):Uu prog (Zy prog 58) (Fm aY aV aU bX bY bZ cA) (Yx prog 58 [(.agg [(.int .u8 aY),(.int .i64 aV),(.int .i64 aU),(.int .i64 bX),(.int .i64 bY),(.int .i64 bZ),(.int .i64 cA)])] true []) (Jl aY aV aU bX bY bZ cA):=(lb (fun k0=>(lr 63 58 [1,0,1,0,0] 1 9 [(2,(.bool false))] (sl Wd 29 [] (b8 [2]) a8 (Bu 9 []) (tt k0 nn)))) (fun k0=>(lb (fun k1=>(lr 63 58 [1,0,1,0,0] 1 9 [(2,(.bool false))] (sl Wd 29 [] (b8 [2]) a8 (bl 9 496) (tt k1 (tt k0 nn))))) (fun k1=>let e:=tt k1 (tt k0 nn);(lb (fun k2=>(lr 63 58 [1,0,1,0,0] 1 9 [(2,(.bool false))] (sl Wd 29 [] (b8 [2]) a8 (bl 9 256) (tt k2 e)))) (fun k2=>let a:=tt k2 e;let b:=decide ((B3 aV aU bX 2)<(B3 bY bZ cA 2));(lb (fun k3=>(lb (fun k4=>let f:=tt k4 (tt k3 a);(lb (fun k5=>(lr 63 3 [1,1,1,1,1,1,0] 1 9 [(2,(.bool b))] (sl Wd 66 [] (b8 [2]) a8 (bl 28 268434944) (tt k5 f)))) (fun k5=>(lr 63 3 [1,1,1,1,1,1,0] 1 9 [(2,(.bool false))] (sl Wd 66 [] (b8 [2]) a8 (bl 28 523776) (tt k5 f)))))) (fun k4=>(lr 63 3 [1,1,1,1,1,1,0] 1 9 [(2,(.bool false))] (sl Wd 66 [] (b8 [2]) a8 (bl 28 512) (tt k4 (tt k3 a))))))) (fun k3=>(lb (fun k4=>let c:=tt k4 (tt k3 a);(lb (fun k5=>(lb (fun k6=>(lr 63 3 [1,1,1,1,1,1,0] 1 9 [(2,(.bool b))] (sl Wd 74 [] (b8 [2]) a8 (bl 29 536869888) (tt k6 (tt k5 c))))) (fun k6=>(lr 63 3 [1,1,1,1,1,1,0] 1 9 [(2,(.bool false))] (sl Wd 74 [] (b8 [2]) a8 (bl 29 1047552) (tt k6 (tt k5 c))))))) (fun k5=>(lr 63 3 [1,1,1,1,1,1,0] 1 9 [(2,(.bool false))] (sl Wd 74 [] (b8 [2]) a8 (bl 29 1024) (tt k5 c)))))) (fun k4=>let d:=tt k4 (tt k3 a);(lb (fun k5=>(lb (fun k6=>(lr 63 3 [1,1,1,1,1,1,0] 1 9 [(2,(.bool (decide ((B3 aV aU bX 1)<(B3 bY bZ cA 1)))))] (sl Wd 75 [] (b8 [2]) a8 (bl 29 536868864) (tt k6 (tt k5 d))))) (fun k6=>(lr 63 3 [1,1,1,1,1,1,0] 1 9 [(2,(.bool false))] (sl Wd 75 [] (b8 [2]) a8 (bl 29 1046528) (tt k6 (tt k5 d))))))) (fun k5=>(lr 63 3 [1,1,1,1,1,1,0] 1 9 [(2,(.bool false))] (sl Wd 75 [] (b8 [2]) a8 (bl 29 0) (tt k5 d)))))))))))))))
theorem VB (aY:Int) (aV:Int) (aU:Int) (bX:Int) (bY:Int) (bZ:Int) (cA:Int) (n:Nat) (vs:List BA) (h:Wx (MN aY aV aU bX bY bZ cA) n (Jl aY aV aU bX bY bZ cA)=.ret vs):B5 prog (Zy prog 58) (Yx prog 58 [(.agg [(.int .u8 aY),(.int .i64 aV),(.int .i64 aU),(.int .i64 bX),(.int .i64 bY),(.int .i64 bZ),(.int .i64 cA)])] true []) vs:=by have:=Yo (Ru aY aV aU bX bY bZ cA) n _ (Sz aY aV aU bX bY bZ cA);rwa [h] at this
def Cb (r:R7):Bool:=decide (r.a<=5)&&(C7 r.b r.c r.d&&(C7 r.e r.f r.g&&
 (bif decide (r.a<2) then (r.b == r.e)&&(decide (r.c<r.f)&&decide (r.d<r.g)) else bif decide (r.a<4) then (r.c == r.f)&&(decide (r.b<r.e)&&decide (r.d<r.g)) else (r.d == r.g)&&(decide (r.b<r.e)&&decide (r.c<r.f)))))
def Vc (L:List R7):Int:=bif decide (3000<L.length) then 4 else bif L.all Cb then 0 else 8
def Yk (L:List R7):Bool:=L.all fun r=>decide (0<=r.a)&&decide (r.a<256)
theorem M8 (a b:Int):decide (a>=b)= !decide (a<b):=by
 by_cases h:a<b
 .rw [Ah h];exact An (by omega)
 .rw [An h];exact Ah (by omega)
theorem Tu {a:Int} (h0:0<=a) (h5:a<=5):wrap IntKind.u8 (Int.tdiv a 2)=(if a<2 then 0 else if a<4 then 1 else 2):=by
 have:a=0\/a=1\/a=2\/a=3\/a=4\/a=5:=by omega
 rcases this with rfl | rfl | rfl | rfl | rfl | rfl <;> rfl
theorem P0 (L:List R7) (hl:L.length<=3000) (ho:Yk L=true): ∀(k i:Nat),i+k=L.length-> ∃N,Wx (FM L) N (.to (.h0 (i:Int)))=.ret [.int .i64 (bif (L.drop i).all Cb then 0 else 8)]
 | 0,i,h=>by refine ⟨1,?_⟩;rw [Zs,AL (by omega)];simp (disch:=omega) only [FM,D2,Aj];rfl
 | k +1,i,h=>by
  have hi:i<L.length:=by omega
  obtain ⟨N,hN⟩:=P0 L hl ho k (i+1) (by omega);have hb:0<=(rd L i).a /\(rd L i).a <256:=by
   have:=Av.1 ho (rd L i) (by rw [Je hi];exact AE hi)
   simpa using this
  refine ⟨N+1,?_⟩;rw [Zs,FL hi,Bl];have e:FM L (.h0 (i:Int))=bif Cb (rd L i) then .to (.h0 ((i+1:Nat):Int)) else .ret [.int .i64 8]:=by
   have hw:wrap .i64 ((i:Int)+1)=((i+1:Nat):Int):=We (by omega);simp (disch:=omega) only [FM,DZ,FR,hw,Uh,Bool.and_true,Ao];unfold Cb;by_cases h5:(rd L i).a <=5
   .rw [EW (by omega),FS h5,Aj,Tu hb.1 h5];cases C7 (rd L i).b (rd L i).c (rd L i).d <;> cases C7 (rd L i).e (rd L i).f (rd L i).g <;> try rfl
    by_cases h2:(rd L i).a <2
    .rw [Aw h2,DZ h2];simp only [M8,bne];cases ((rd L i).b == (rd L i).e) <;> cases decide ((rd L i).c <(rd L i).f) <;> cases decide ((rd L i).d <(rd L i).g) <;> rfl
    .rw [At h2,D2 h2];by_cases h4:(rd L i).a <4
     .rw [Aw h4,DZ h4];simp only [M8,bne];cases ((rd L i).c == (rd L i).f) <;> cases decide ((rd L i).b <(rd L i).e) <;> cases decide ((rd L i).d <(rd L i).g) <;> rfl
     .rw [At h4,D2 h4];simp only [M8,bne];cases ((rd L i).d == (rd L i).g) <;> cases decide ((rd L i).b <(rd L i).e) <;> cases decide ((rd L i).c <(rd L i).f) <;> rfl
   .rw [Df (by omega),Ep h5];rfl
  rw [e];rcases JM (Cb (rd L i)) with q | q
  .rw [q,Ao,Bn];exact hN
  .rw [q,Aj,Bool.false_and];exact Yh _ _ _
theorem T9 (L:List R7) (h:Yk L=true): ∃N,Wx (FM L) N (J3 L)=.ret [.int .i64 (Vc L)]:=by
 unfold J3 Vc;by_cases g:3000<L.length
 .refine ⟨0,?_⟩;rw [Df (by omega),Ah g];rfl
 .obtain ⟨N,hN⟩:=P0 L (by omega) h L.length 0 (Az _);refine ⟨N,?_⟩;rw [EW (by omega),An g];exact hN
def EE :List BA->Option (BA×Bool)
 | [a0]=>match D1 R7 a0 with
  | some (L0,g0,n0)=>some (.int .i64 (Vc L0),CJ R7 n0 g0&&(Yk L0))
  | _=>none
 | _=>none
theorem Pr {S:BB} (hS:Zk prog S):Zk prog (S.with GY EE):=by
 refine Ci hS (by kernel_rfl) fun args v h=> ?_;unfold EE at h;split at h
 .rename_i a0;split at h
  .rename_i L0 g0 n0 e0;simp only [Ac,Aa,Ad] at h;obtain ⟨rfl,ho0,hw⟩:=h;obtain ⟨N,hN⟩:=T9 L0 hw;exact ⟨_,_,(.cons (asL_le e0 ho0) .nil),rfl,UR L0 N _ hN,3,rfl⟩
  .cases h
 .cases h
def CH (x y z:Int):Prop:=(-1000000<=x/\x<=1000000)/\(-1000000<=y/\y<=1000000)/\(-1000000<=z/\z<=1000000)
theorem LD (x y z:Int):C7 x y z=true↔CH x y z:=by unfold C7 CH;rw [Ad,Ap,Ap,Px,Px,Pw,Pw];omega
theorem Pu (x y z:Int):F7 x y z (-1000000)=C7 x y z:=by rw [Ba,LD];unfold F7 CH;simp only [Ad,Ap];omega
def DJ (a b c d e f g:Int):Bool:=Cb ⟨a,b,c,d,e,f,g⟩
def KL (a b c d e f g:Int):Bool:=decide (0<=a)&&decide (a<256)
theorem Ts (a b c d e f g:Int) (h:KL a b c d e f g=true): ∃N,Wx (MN a b c d e f g) N (Jl a b c d e f g)=.ret [.bool (DJ a b c d e f g)]:=⟨0,by
 have h0:0<=a:=AB (Bool.and_eq_true_iff.1 h).1;unfold Jl DJ Cb;rw [Pu,Pu];by_cases h5:a<=5
 .rw [Ah h5,An (by omega: ¬a>5),Aj,Bn];cases C7 b c d
  .rfl
  cases C7 e f g
  .rfl
  have:a=0\/a=1\/a=2\/a=3\/a=4\/a=5:=by omega
  have two: ∀p q r:Bool,(bif p then (bif q then (Vu.ret [BA.bool r]:Vu DK) else .ret [.bool false]) else .ret [.bool false])=.ret [.bool (p&&(q&&r))]:=fun p q r=>by cases p <;> cases q <;> rfl
  rcases this with rfl | rfl | rfl | rfl | rfl | rfl <;> exact two _ _ _
 .rw [Ah (by omega:a>5),An h5];rfl⟩
def Gb :List BA->Option (BA×Bool)
 | [.agg [.int .u8 a,.int .i64 b,.int .i64 c,.int .i64 d,.int .i64 e,.int .i64 f,.int .i64 g]]=>some (.bool (DJ a b c d e f g),KL a b c d e f g)
 | _=>none
theorem XI {S:BB} (hS:Zk prog S):Zk prog (S.with Pf Gb):=by
 refine Ci hS (by kernel_rfl) fun args v h=> ?_;unfold Gb at h;split at h
 .rename_i a b c d e f g;simp only [Ac,Aa] at h;obtain ⟨rfl,hw⟩:=h;obtain ⟨N,hN⟩:=Ts a b c d e f g hw;exact ⟨_,_,(.cons (.refl _) .nil),rfl,VB a b c d e f g N _ hN,3,rfl⟩
 .cases h
def S2 :BB:=(S1.with GY EE).with Pf Gb
theorem H0 :Zk prog S2:=XI (Pr Wd)
inductive Ds where
 | h0 (v3:Int)
def Fx (l0:List R7):Ds->BJ
 | .h0 v3=>⟨⟨19,0,true⟩,none,(Yb prog 21 [1,1,0,1,0,0] 0),none,(Zy prog 9),⟨Kk [(0,(.dat l0.length (Zx l0))),(3,(ii v3))],BV [] 0,0,[],true⟩,[],.leaf⟩
def Ee :List (Option (List Nat)):=[some [0,3]]
def Ef :List (Option (List Nat)):=[]
def FN (l0:List R7):Ds->Vu Ds
 | .h0 v3=>(bif (decide (v3<(l0.length:Int))) then (bif ((decide (0<=v3/\v3<(l0.length:Int)))&&true) then (bif (KL (rd l0 v3.toNat).a (rd l0 v3.toNat).b (rd l0 v3.toNat).c (rd l0 v3.toNat).d (rd l0 v3.toNat).e (rd l0 v3.toNat).f (rd l0 v3.toNat).g) then (bif (!(DJ (rd l0 v3.toNat).a (rd l0 v3.toNat).b (rd l0 v3.toNat).c (rd l0 v3.toNat).d (rd l0 v3.toNat).e (rd l0 v3.toNat).f (rd l0 v3.toNat).g)) then (.ret [(.int .i64 8)]) else (.to (.h0 (wrap .i64 (v3+1))))) else .stuck) else .stuck) else (.ret [(.int .i64 0)]))
def J4 (l0:List R7):Vu Ds:=(bif (decide ((l0.length:Int)>3000)) then (.ret [(.int .i64 4)]) else (.to (.h0 0)))
theorem Rm (l0:List R7): ∀s,Uu prog (Zy prog 21) (Fx l0) (Fx l0 s) (FN l0 s)
 | .h0 v3=>(lb (fun k0=>(lo fun aT=>(lo fun bG=>let a:=ww bG (ww aT (tt k0 nn));(lb (fun k1=>(lr 19 21 [1,1,0,1,0,0,1,0,0,1,0,0] 1 9 [(2,(ii 8))] (sl H0 26 [] (b8 [2]) a8 (bl 2 3) (tt k1 a)))) (fun k1=>(sl H0 30 [] ⟨[],[],Ee,Ef⟩ a8 (bl 2 1) (tt k1 a))))))) (fun k0=>(lr 19 3 [1,1,1,1,1,1,0] 1 9 [(2,(ii 0))] (sl H0 14 [] (b8 [2]) a8 [false] (tt k0 nn)))))
theorem So (l0:List R7):Uu prog (Zy prog 21) (Fx l0) (Yx prog 21 [(.dat l0.length (Zx l0))] true []) (J4 l0):=(lb (fun k0=>(lr 19 21 [1,0,1,0,0] 1 9 [(2,(ii 4))] (sl H0 16 [] (b8 [2]) a8 [true] (tt k0 nn)))) (fun k0=>(sl H0 20 [] ⟨[],[],Ee,Ef⟩ a8 [false] (tt k0 nn))))
theorem U2 (l0:List R7) (n:Nat) (vs:List BA) (h:Wx (FN l0) n (J4 l0)=.ret vs):B5 prog (Zy prog 21) (Yx prog 21 [(.dat l0.length (Zx l0))] true []) vs:=by have:=Yo (Rm l0) n _ (So l0);rwa [h] at this
def DM (L:List R7):Int:=Vc L
def KH (L:List R7):Bool:=Yk L
theorem P7 {L:List R7} (hl:L.length<=3000) (hw:Yk L=true): ∀(k i:Nat),i+k=L.length-> ∃N,Wx (FN L) N (.to (.h0 (i:Int)))=.ret [.int .i64 (bif (L.drop i).all Cb then 0 else 8)]
 | 0,i,h=>by refine ⟨1,?_⟩;rw [Zs,AL (by omega)];simp (disch:=omega) only [FN,D2,Aj,Yh,List.all_nil,Ao]
 | k+1,i,h=>by
  have hi:i<L.length:=by omega
  obtain ⟨N,hN⟩:=P7 hl hw k (i+1) (by omega);refine ⟨N+1,?_⟩;have ho:=Av.1 hw (rd L i) (by rw [Je hi];exact AE hi);rw [Zs,FL hi,Bl];have e:FN L (.h0 (i:Int))=bif !(Cb (rd L i)) then .ret [.int .i64 8] else .to (.h0 ((i+1:Nat):Int)):=by simp (disch:=omega) only [FN,DZ,FR,We,VO,Uh,Bool.and_true,Ao,show KL (rd L i).a (rd L i).b (rd L i).c (rd L i).d (rd L i).e (rd L i).f (rd L i).g =true from ho,show DJ (rd L i).a (rd L i).b (rd L i).c (rd L i).d (rd L i).e (rd L i).f (rd L i).g =Cb (rd L i) from rfl]
  rw [e];cases Cb (rd L i) with
  | true=>rw [Bm,Aj,hN,Bn]
  | false=>rw [Bool.not_false,Ao,Yh,Bool.false_and,Aj]
theorem Tk (L:List R7) (h:KH L=true): ∃N,Wx (FN L) N (J4 L)=.ret [.int .i64 (DM L)]:=by
 unfold J4 DM Vc;by_cases g:3000<L.length
 .refine ⟨0,?_⟩;rw [Ah g,Ah (show (L.length:Int)>3000 by omega),Ao,Ao,Yh]
 .rw [An g,An (show ¬(L.length:Int)>3000 by omega),Aj,Aj];exact P7 (by omega) h L.length 0 (Az _)
def ED :List BA->Option (BA×Bool)
 | [a0]=>match D1 R7 a0 with
  | some (L0,g0,n0)=>some (.int .i64 (DM L0),CJ R7 n0 g0&&(KH L0))
  | _=>none
 | _=>none
theorem Ps {S:BB} (hS:Zk prog S):Zk prog (S.with Fw ED):=by
 refine Ci hS (by kernel_rfl) fun args v h=> ?_;unfold ED at h;split at h
 .rename_i a0;split at h
  .rename_i L0 g0 n0 e0;simp only [Ac,Aa,Ad] at h;obtain ⟨rfl,ho0,hw⟩:=h;obtain ⟨N,hN⟩:=Tk L0 hw;exact ⟨_,_,(.cons (asL_le e0 ho0) .nil),rfl,U2 L0 N _ hN,3,rfl⟩
  .cases h
 .cases h
def S3 :BB:=S2.with Fw ED
theorem Ws :Zk prog S3:=Ps H0
inductive Dx where
 | h0 (v15:Int) (aD:List By)
 | h1 (aQ:Int) (bA:Nat) (cB:List By) (aF:Int) (aW:Int) (aM:Int) (aI:Int) (aJ:Int) (aK:Int) (aG:Int)
 | h2 (aQ:Int) (aD:List By) (aF:Int) (aW:Int) (aM:Int) (aI:Int) (aJ:Int) (aK:Int) (aG:Int)
 | h3 (aQ:Int) (aD:List By) (aF:Int) (aW:Int) (aM:Int) (aI:Int) (aJ:Int) (aK:Int) (aG:Int)
 | h4 (aQ:Int) (aD:List By) (aF:Int) (aW:Int) (aM:Int) (aI:Int) (aJ:Int) (aK:Int) (aG:Int)
 | h5 (aQ:Int) (aD:List By) (aF:Int) (aW:Int) (aM:Int) (aI:Int) (aJ:Int) (aK:Int) (aG:Int)
 | h6 (aQ:Int) (aD:List By) (aF:Int) (aW:Int) (aM:Int) (aI:Int) (aJ:Int) (aK:Int) (aG:Int)
 | h7 (aQ:Int) (aD:List By) (aF:Int) (aW:Int) (aM:Int) (aI:Int) (aJ:Int) (aK:Int) (aG:Int)
 | h8 (aQ:Int) (aD:List By) (aF:Int) (aW:Int) (aM:Int) (aI:Int) (aJ:Int) (aK:Int) (aG:Int)
def EQ (l0:List R7) (aQ:Int):BS:=⟨⟨46,0,true⟩,(Jm prog 22 [1,1,1,0,1,0,0,1,1,0,0,1] 22),(Yb prog 22 [1,1,1,0,1,0,0,1,1,0,0,1] 1),none,(Zy prog 10),Kk [(5,(.ptr 0 0)),(13,(.dat l0.length (Zx l0))),(14,(ii (l0.length:Int))),(15,(ii aQ)),(40,(.sl 2 0 7 (.un 1)))]⟩
def ER (aD:List By):BD:=⟨[(.obj .bld),(.sla 1 1 0 aD.length (.un 1))],75,none⟩
def ES :=(Yb prog 35 [1,0,1,0,0] 0)
def ET (aF:Int) (aW:Int) (aM:Int) (aI:Int) (aJ:Int) (aK:Int) (aG:Int):BD:=⟨[(ii aF),(ii aW),(ii aM),(ii aI),(ii aJ),(ii aK),(ii aG)],3,none⟩
abbrev LP (cB:List By) (bA:Nat) (aF:Int):=(((Yg cB 0 bA)++[(yB 32)])++(BM (Ye aF)))
abbrev LQ (aD:List By) (aW:Int):=((aD++[(yB 32)])++(BM (Ye aW)))
abbrev LR (aD:List By) (aM:Int):=((aD++[(yB 32)])++(BM (Ye aM)))
abbrev LS (aD:List By) (aI:Int):=((aD++[(yB 32)])++(BM (Ye aI)))
abbrev LT (aD:List By) (aJ:Int):=((aD++[(yB 32)])++(BM (Ye aJ)))
abbrev LU (aD:List By) (aK:Int):=((aD++[(yB 32)])++(BM (Ye aK)))
abbrev Lp (aD:List By) (aG:Int):=((aD++[(yB 32)])++(BM (Ye aG)))
def GX (l0:List R7):Dx->BJ
 | .h0 v15 aD=>⟨⟨46,0,true⟩,none,(Yb prog 22 [1,1,1,0,1,0,0] 0),none,(Zy prog 10),⟨Kk [(5,(.ptr 0 0)),(13,(.dat l0.length (Zx l0))),(14,(ii (l0.length:Int))),(15,(ii v15))],BV [(ER aD),⟨rows aD.length (Zx aD),5,some ⟨1,aD.length,(Zx aD)⟩⟩] 0,2,[],true⟩,[],.leaf⟩
 | .h1 aQ bA cB aF aW aM aI aJ aK aG=>⟨⟨26,0,true⟩,none,ES,none,[],⟨Kk [(0,(.ptr 0 0)),(11,(.sl 2 0 7 (.un 1))),(12,(ii 7)),(13,(ii 0))],BV [⟨[(.obj .bld),(.sla 1 1 0 bA (.un 1))],75,none⟩,⟨rows cB.length (Zx cB),5,some ⟨1,cB.length,(Zx cB)⟩⟩,(ET aF aW aM aI aJ aK aG)] 0,3,[],true⟩,[(EQ l0 aQ)],.leaf⟩
 | .h2 aQ aD aF aW aM aI aJ aK aG=>⟨⟨26,0,true⟩,none,ES,none,[],⟨Kk [(0,(.ptr 0 0)),(11,(.sl 2 0 7 (.un 1))),(12,(ii 7)),(13,(ii 1))],BV [(ER aD),⟨rows aD.length (Zx aD),5,some ⟨1,aD.length,(Zx aD)⟩⟩,(ET aF aW aM aI aJ aK aG)] 0,3,[],true⟩,[(EQ l0 aQ)],.leaf⟩
 | .h3 aQ aD aF aW aM aI aJ aK aG=>⟨⟨26,0,true⟩,none,ES,none,[],⟨Kk [(0,(.ptr 0 0)),(11,(.sl 2 0 7 (.un 1))),(12,(ii 7)),(13,(ii 2))],BV [(ER aD),⟨rows aD.length (Zx aD),5,some ⟨1,aD.length,(Zx aD)⟩⟩,(ET aF aW aM aI aJ aK aG)] 0,3,[],true⟩,[(EQ l0 aQ)],.leaf⟩
 | .h4 aQ aD aF aW aM aI aJ aK aG=>⟨⟨26,0,true⟩,none,ES,none,[],⟨Kk [(0,(.ptr 0 0)),(11,(.sl 2 0 7 (.un 1))),(12,(ii 7)),(13,(ii 3))],BV [(ER aD),⟨rows aD.length (Zx aD),5,some ⟨1,aD.length,(Zx aD)⟩⟩,(ET aF aW aM aI aJ aK aG)] 0,3,[],true⟩,[(EQ l0 aQ)],.leaf⟩
 | .h5 aQ aD aF aW aM aI aJ aK aG=>⟨⟨26,0,true⟩,none,ES,none,[],⟨Kk [(0,(.ptr 0 0)),(11,(.sl 2 0 7 (.un 1))),(12,(ii 7)),(13,(ii 4))],BV [(ER aD),⟨rows aD.length (Zx aD),5,some ⟨1,aD.length,(Zx aD)⟩⟩,(ET aF aW aM aI aJ aK aG)] 0,3,[],true⟩,[(EQ l0 aQ)],.leaf⟩
 | .h6 aQ aD aF aW aM aI aJ aK aG=>⟨⟨26,0,true⟩,none,ES,none,[],⟨Kk [(0,(.ptr 0 0)),(11,(.sl 2 0 7 (.un 1))),(12,(ii 7)),(13,(ii 5))],BV [(ER aD),⟨rows aD.length (Zx aD),5,some ⟨1,aD.length,(Zx aD)⟩⟩,(ET aF aW aM aI aJ aK aG)] 0,3,[],true⟩,[(EQ l0 aQ)],.leaf⟩
 | .h7 aQ aD aF aW aM aI aJ aK aG=>⟨⟨26,0,true⟩,none,ES,none,[],⟨Kk [(0,(.ptr 0 0)),(11,(.sl 2 0 7 (.un 1))),(12,(ii 7)),(13,(ii 6))],BV [(ER aD),⟨rows aD.length (Zx aD),5,some ⟨1,aD.length,(Zx aD)⟩⟩,(ET aF aW aM aI aJ aK aG)] 0,3,[],true⟩,[(EQ l0 aQ)],.leaf⟩
 | .h8 aQ aD aF aW aM aI aJ aK aG=>⟨⟨26,0,true⟩,none,ES,none,[],⟨Kk [(0,(.ptr 0 0)),(11,(.sl 2 0 7 (.un 1))),(12,(ii 7)),(13,(ii 7))],BV [(ER aD),⟨rows aD.length (Zx aD),5,some ⟨1,aD.length,(Zx aD)⟩⟩,(ET aF aW aM aI aJ aK aG)] 0,3,[],true⟩,[(EQ l0 aQ)],.leaf⟩
def Ek :List (Option (List Nat)):=[some [5,13,14,15]]
def El :List (Option (List Nat)):=[]
def Ik :List (Option (List Nat)):=[some [0,11,12,13],some [5,13,14,15,40]]
def Iu :List (Option (List Nat)):=[]
def Ij :List (Option (List Nat)):=[some [0,11,12,13],some [5,13,14,15,40]]
def It :List (Option (List Nat)):=[]
def Ii :List (Option (List Nat)):=[some [0,11,12,13],some [5,13,14,15,40]]
def Is :List (Option (List Nat)):=[]
def Ih :List (Option (List Nat)):=[some [0,11,12,13],some [5,13,14,15,40]]
def Ir :List (Option (List Nat)):=[]
def Ig :List (Option (List Nat)):=[some [0,11,12,13],some [5,13,14,15,40]]
def Iq :List (Option (List Nat)):=[]
def If :List (Option (List Nat)):=[some [0,11,12,13],some [5,13,14,15,40]]
def Ip :List (Option (List Nat)):=[]
def Ie :List (Option (List Nat)):=[some [0,11,12,13],some [5,13,14,15,40]]
def Io :List (Option (List Nat)):=[]
def Id :List (Option (List Nat)):=[some [0,11,12,13],some [5,13,14,15,40]]
def Im :List (Option (List Nat)):=[]
def Yn (l0:List R7):Dx->Vu Dx
 | .h0 v15 aD=>(bif (decide (v15<(l0.length:Int))) then (bif ((decide (0<=v15/\v15<(l0.length:Int)))&&true) then (bif (decide ((aD.length+4+1)*(1+1)<=Xr)) then (bif (Nat.beq 1 1&&(Nat.beq 1 1&&decide (0+aD.length<=aD.length))) then (.to (.h1 v15 (aD.length+4) (aD++(BM ([113,117,97,100]:List UInt8))) (wrap .i64 (rd l0 v15.toNat).a) (rd l0 v15.toNat).b (rd l0 v15.toNat).c (rd l0 v15.toNat).d (rd l0 v15.toNat).e (rd l0 v15.toNat).f (rd l0 v15.toNat).g)) else .stuck) else .stuck) else .stuck) else (bif (decide ((aD.length:Int)>60000)) then (.ret [(.str []),(.int .i64 4)]) else (bif (decide (0+aD.length<=aD.length)) then (bif (Mv (Cy (aD.length) (fun k=>(Zx aD) (0+k)))) then (.ret [(.str (Cy (aD.length) (fun k=>(Zx aD) (0+k)))),(.int .i64 0)]) else .stuck) else .stuck)))
 | .h1 aQ bA cB aF aW aM aI aJ aK aG=>(bif (Nat.beq 1 1&&((decide (0+bA=cB.length))&&decide ((bA+1+1)*(1+1)<=Xr))) then (bif (Zb aF) then (bif (decide (((bA+1)+(Ye aF).length +1)*(1+1)<=Xr)) then (bif (Nat.beq 1 1&&(Nat.beq 1 1&&decide (0+(bA+1)<=(bA+1)))) then (.to (.h2 aQ (((Yg cB 0 bA)++[(yB 32)])++(BM (Ye aF))) aF aW aM aI aJ aK aG)) else .stuck) else .stuck) else .stuck) else .stuck)
 | .h2 aQ aD aF aW aM aI aJ aK aG=>(bif (Nat.beq 1 1&&((decide (0+aD.length=aD.length))&&decide ((aD.length+1+1)*(1+1)<=Xr))) then (bif (Zb aW) then (bif (decide (((aD.length+1)+(Ye aW).length +1)*(1+1)<=Xr)) then (bif (Nat.beq 1 1&&(Nat.beq 1 1&&decide (0+(aD.length+1)<=(aD.length+1)))) then (.to (.h3 aQ ((aD++[(yB 32)])++(BM (Ye aW))) aF aW aM aI aJ aK aG)) else .stuck) else .stuck) else .stuck) else .stuck)
 | .h3 aQ aD aF aW aM aI aJ aK aG=>(bif (Nat.beq 1 1&&((decide (0+aD.length=aD.length))&&decide ((aD.length+1+1)*(1+1)<=Xr))) then (bif (Zb aM) then (bif (decide (((aD.length+1)+(Ye aM).length +1)*(1+1)<=Xr)) then (bif (Nat.beq 1 1&&(Nat.beq 1 1&&decide (0+(aD.length+1)<=(aD.length+1)))) then (.to (.h4 aQ ((aD++[(yB 32)])++(BM (Ye aM))) aF aW aM aI aJ aK aG)) else .stuck) else .stuck) else .stuck) else .stuck)
 | .h4 aQ aD aF aW aM aI aJ aK aG=>(bif (Nat.beq 1 1&&((decide (0+aD.length=aD.length))&&decide ((aD.length+1+1)*(1+1)<=Xr))) then (bif (Zb aI) then (bif (decide (((aD.length+1)+(Ye aI).length +1)*(1+1)<=Xr)) then (bif (Nat.beq 1 1&&(Nat.beq 1 1&&decide (0+(aD.length+1)<=(aD.length+1)))) then (.to (.h5 aQ ((aD++[(yB 32)])++(BM (Ye aI))) aF aW aM aI aJ aK aG)) else .stuck) else .stuck) else .stuck) else .stuck)
 | .h5 aQ aD aF aW aM aI aJ aK aG=>(bif (Nat.beq 1 1&&((decide (0+aD.length=aD.length))&&decide ((aD.length+1+1)*(1+1)<=Xr))) then (bif (Zb aJ) then (bif (decide (((aD.length+1)+(Ye aJ).length +1)*(1+1)<=Xr)) then (bif (Nat.beq 1 1&&(Nat.beq 1 1&&decide (0+(aD.length+1)<=(aD.length+1)))) then (.to (.h6 aQ ((aD++[(yB 32)])++(BM (Ye aJ))) aF aW aM aI aJ aK aG)) else .stuck) else .stuck) else .stuck) else .stuck)
 | .h6 aQ aD aF aW aM aI aJ aK aG=>(bif (Nat.beq 1 1&&((decide (0+aD.length=aD.length))&&decide ((aD.length+1+1)*(1+1)<=Xr))) then (bif (Zb aK) then (bif (decide (((aD.length+1)+(Ye aK).length +1)*(1+1)<=Xr)) then (bif (Nat.beq 1 1&&(Nat.beq 1 1&&decide (0+(aD.length+1)<=(aD.length+1)))) then (.to (.h7 aQ ((aD++[(yB 32)])++(BM (Ye aK))) aF aW aM aI aJ aK aG)) else .stuck) else .stuck) else .stuck) else .stuck)
 | .h7 aQ aD aF aW aM aI aJ aK aG=>(bif (Nat.beq 1 1&&((decide (0+aD.length=aD.length))&&decide ((aD.length+1+1)*(1+1)<=Xr))) then (bif (Zb aG) then (bif (decide (((aD.length+1)+(Ye aG).length +1)*(1+1)<=Xr)) then (bif (Nat.beq 1 1&&(Nat.beq 1 1&&decide (0+(aD.length+1)<=(aD.length+1)))) then (.to (.h8 aQ ((aD++[(yB 32)])++(BM (Ye aG))) aF aW aM aI aJ aK aG)) else .stuck) else .stuck) else .stuck) else .stuck)
 | .h8 aQ aD aF aW aM aI aJ aK aG=>(bif (Nat.beq 1 1&&((decide (0+aD.length=aD.length))&&decide ((aD.length+1+1)*(1+1)<=Xr))) then (.to (.h0 (wrap .i64 (aQ+1)) (aD++[(yB 10)]))) else .stuck)
def Hh (l0:List R7):Vu Dx:=(bif (Yk (B4 l0)) then (bif ((Vc (B4 l0)) != 0) then (.ret [(.str []),(.int .i64 (Vc (B4 l0)))]) else (.to (.h0 0 ([]:List By)))) else .stuck)
theorem Rh (l0:List R7): ∀s,Uu prog (Zy prog 22) (GX l0) (GX l0 s) (Yn l0 s)
 | .h0 v15 aD=>(lb (fun k0=>(lo fun o0=>(lo fun o1=>(lo fun o2=>let a:=aD++(BM ([113,117,97,100]:List UInt8));(sl Ws 86 [] ⟨[0,4,3],[],Ik,Iu⟩ ⟨[],[.keep,.rowed 1 a.length (Zx a),.keep],[]⟩ [true] (pp (xL (aD.length+4) (aD++(BM ([113,117,97,100]:List UInt8))).length (by first | exact Zr rfl | exact Zr (by simp only [Zo,Al,Aq,Ay,Za] <;> omega) | assumption)) (pp (xS (aD.length+4) (Ys (fun k=>(Zx aD) (0+k)) aD.length (Wu ([113,117,97,100]:List UInt8))) (Zx (aD++(BM ([113,117,97,100]:List UInt8)))) (by repeat' (first | exact Xy _ _ | assumption | exact Wi | exact Wv | rfl | (refine Vp ?_ ?_ rfl rfl rfl) | (refine Wt ?_ ?_ ?_ rfl) | exact Vz (Xy _ _) rfl | apply Xi | exact Uq _ | exact Az _ | (simp only [Zo,Al,Aq,Ay,Za] <;> omega)))) (pp (pp (xF (Ys (fun k=>(Zx aD) (0+k)) aD.length (Wu ([113,117,97,100]:List UInt8)))) nn) (pp (pp (xw o2) (pp nn (xw o1))) (ww o0 (tt k0 nn))))))))))) (fun k0=>(lb (fun k1=>(lr 46 3 [1,1,1,1,1,1,0] 1 10 [(2,(.str [])),(3,(ii 4))] (sl Ws 48 [] (b8 [2,3]) a8 (bl 2 2) (tt k1 (tt k0 nn))))) (fun k1=>(lo fun o0=>(lo fun o1=>let b:=xG (Nat.beq 1 1);(lr 46 3 [1,1,1,1,1,1,0] 1 10 [(2,(.str (Cy (aD.length) (fun k=>(Zx aD) (0+k))))),(3,(ii 0))] (sl Ws 51 [] (b8 [2,3]) a8 (bl 2 0) (pp (pp (xw o1) (pp b (pp b (pp (xw o0) (xY (aD.length) (fun k=>(Zx aD) (0+k))))))) (tt k1 (tt k0 nn)))))))))))
 | .h1 aQ bA cB aF aW aM aI aJ aK aG=>(lo fun o0=>(lo fun o1=>(lo fun o2=>(lo fun o3=>let a:=xL ((bA+1)+(Ye aF).length) (LP cB bA aF).length (by first | exact Zr rfl | exact Zr (by simp only [Zo,Al,Aq,Ay,Za] <;> omega) | assumption);let b:=LP cB bA aF;(sl Ws 91 [] ⟨[0,5,2],[],Ij,It⟩ ⟨[],[.cells [.keep,.len b.length],.rowed 1 b.length (Zx b),.keep],[]⟩ [true] (pp a (pp a (pp (xS ((bA+1)+(Ye aF).length) (Ys (fun k=>(Zi (Zx cB) 0 bA 1 [(.int .u8 32)]) (0+k)) (bA+1) (Wu (Ye aF))) (Zx (LP cB bA aF)) (by repeat' (first | exact Xy _ _ | assumption | exact Wi | exact Wv | rfl | (refine Vp ?_ ?_ rfl rfl rfl) | (refine Wt ?_ ?_ ?_ rfl) | exact Vz (Xy _ _) rfl | apply Xi | exact Uq _ | exact Az _ | (simp only [Zo,Al,Aq,Ay,Za] <;> omega)))) (pp (pp (xF (Ys (fun k=>(Zi (Zx cB) 0 bA 1 [(.int .u8 32)]) (0+k)) (bA+1) (Wu (Ye aF)))) nn) (pp (pp (xw o3) (pp nn (xw o2))) (ww o1 (ww o0 nn))))))))))))
 | .h2 aQ aD aF aW aM aI aJ aK aG=>(lo fun o0=>(lo fun o1=>(lo fun o2=>(lo fun o3=>let a:=xL ((aD.length+1)+(Ye aW).length) (LQ aD aW).length (by first | exact Zr rfl | exact Zr (by simp only [Zo,Al,Aq,Ay,Za] <;> omega) | assumption);let b:=LQ aD aW;(sl Ws 91 [] ⟨[0,5,2],[],Ii,Is⟩ ⟨[],[.cells [.keep,.len b.length],.rowed 1 b.length (Zx b),.keep],[]⟩ [true] (pp a (pp a (pp (xS ((aD.length+1)+(Ye aW).length) (Ys (fun k=>(Zi (Zx aD) 0 aD.length 1 [(.int .u8 32)]) (0+k)) (aD.length+1) (Wu (Ye aW))) (Zx (LQ aD aW)) (by repeat' (first | exact Xy _ _ | assumption | exact Wi | exact Wv | rfl | (refine Vp ?_ ?_ rfl rfl rfl) | (refine Wt ?_ ?_ ?_ rfl) | exact Vz (Xy _ _) rfl | apply Xi | exact Uq _ | exact Az _ | (simp only [Zo,Al,Aq,Ay,Za] <;> omega)))) (pp (pp (xF (Ys (fun k=>(Zi (Zx aD) 0 aD.length 1 [(.int .u8 32)]) (0+k)) (aD.length+1) (Wu (Ye aW)))) nn) (pp (pp (xw o3) (pp nn (xw o2))) (ww o1 (ww o0 nn))))))))))))
 | .h3 aQ aD aF aW aM aI aJ aK aG=>(lo fun o0=>(lo fun o1=>(lo fun o2=>(lo fun o3=>let a:=xL ((aD.length+1)+(Ye aM).length) (LR aD aM).length (by first | exact Zr rfl | exact Zr (by simp only [Zo,Al,Aq,Ay,Za] <;> omega) | assumption);let b:=LR aD aM;(sl Ws 91 [] ⟨[0,5,2],[],Ih,Ir⟩ ⟨[],[.cells [.keep,.len b.length],.rowed 1 b.length (Zx b),.keep],[]⟩ [true] (pp a (pp a (pp (xS ((aD.length+1)+(Ye aM).length) (Ys (fun k=>(Zi (Zx aD) 0 aD.length 1 [(.int .u8 32)]) (0+k)) (aD.length+1) (Wu (Ye aM))) (Zx (LR aD aM)) (by repeat' (first | exact Xy _ _ | assumption | exact Wi | exact Wv | rfl | (refine Vp ?_ ?_ rfl rfl rfl) | (refine Wt ?_ ?_ ?_ rfl) | exact Vz (Xy _ _) rfl | apply Xi | exact Uq _ | exact Az _ | (simp only [Zo,Al,Aq,Ay,Za] <;> omega)))) (pp (pp (xF (Ys (fun k=>(Zi (Zx aD) 0 aD.length 1 [(.int .u8 32)]) (0+k)) (aD.length+1) (Wu (Ye aM)))) nn) (pp (pp (xw o3) (pp nn (xw o2))) (ww o1 (ww o0 nn))))))))))))
 | .h4 aQ aD aF aW aM aI aJ aK aG=>(lo fun o0=>(lo fun o1=>(lo fun o2=>(lo fun o3=>let a:=xL ((aD.length+1)+(Ye aI).length) (LS aD aI).length (by first | exact Zr rfl | exact Zr (by simp only [Zo,Al,Aq,Ay,Za] <;> omega) | assumption);let b:=LS aD aI;(sl Ws 91 [] ⟨[0,5,2],[],Ig,Iq⟩ ⟨[],[.cells [.keep,.len b.length],.rowed 1 b.length (Zx b),.keep],[]⟩ [true] (pp a (pp a (pp (xS ((aD.length+1)+(Ye aI).length) (Ys (fun k=>(Zi (Zx aD) 0 aD.length 1 [(.int .u8 32)]) (0+k)) (aD.length+1) (Wu (Ye aI))) (Zx (LS aD aI)) (by repeat' (first | exact Xy _ _ | assumption | exact Wi | exact Wv | rfl | (refine Vp ?_ ?_ rfl rfl rfl) | (refine Wt ?_ ?_ ?_ rfl) | exact Vz (Xy _ _) rfl | apply Xi | exact Uq _ | exact Az _ | (simp only [Zo,Al,Aq,Ay,Za] <;> omega)))) (pp (pp (xF (Ys (fun k=>(Zi (Zx aD) 0 aD.length 1 [(.int .u8 32)]) (0+k)) (aD.length+1) (Wu (Ye aI)))) nn) (pp (pp (xw o3) (pp nn (xw o2))) (ww o1 (ww o0 nn))))))))))))
 | .h5 aQ aD aF aW aM aI aJ aK aG=>(lo fun o0=>(lo fun o1=>(lo fun o2=>(lo fun o3=>let a:=xL ((aD.length+1)+(Ye aJ).length) (LT aD aJ).length (by first | exact Zr rfl | exact Zr (by simp only [Zo,Al,Aq,Ay,Za] <;> omega) | assumption);let b:=LT aD aJ;(sl Ws 91 [] ⟨[0,5,2],[],If,Ip⟩ ⟨[],[.cells [.keep,.len b.length],.rowed 1 b.length (Zx b),.keep],[]⟩ [true] (pp a (pp a (pp (xS ((aD.length+1)+(Ye aJ).length) (Ys (fun k=>(Zi (Zx aD) 0 aD.length 1 [(.int .u8 32)]) (0+k)) (aD.length+1) (Wu (Ye aJ))) (Zx (LT aD aJ)) (by repeat' (first | exact Xy _ _ | assumption | exact Wi | exact Wv | rfl | (refine Vp ?_ ?_ rfl rfl rfl) | (refine Wt ?_ ?_ ?_ rfl) | exact Vz (Xy _ _) rfl | apply Xi | exact Uq _ | exact Az _ | (simp only [Zo,Al,Aq,Ay,Za] <;> omega)))) (pp (pp (xF (Ys (fun k=>(Zi (Zx aD) 0 aD.length 1 [(.int .u8 32)]) (0+k)) (aD.length+1) (Wu (Ye aJ)))) nn) (pp (pp (xw o3) (pp nn (xw o2))) (ww o1 (ww o0 nn))))))))))))
 | .h6 aQ aD aF aW aM aI aJ aK aG=>(lo fun o0=>(lo fun o1=>(lo fun o2=>(lo fun o3=>let a:=xL ((aD.length+1)+(Ye aK).length) (LU aD aK).length (by first | exact Zr rfl | exact Zr (by simp only [Zo,Al,Aq,Ay,Za] <;> omega) | assumption);let b:=LU aD aK;(sl Ws 91 [] ⟨[0,5,2],[],Ie,Io⟩ ⟨[],[.cells [.keep,.len b.length],.rowed 1 b.length (Zx b),.keep],[]⟩ [true] (pp a (pp a (pp (xS ((aD.length+1)+(Ye aK).length) (Ys (fun k=>(Zi (Zx aD) 0 aD.length 1 [(.int .u8 32)]) (0+k)) (aD.length+1) (Wu (Ye aK))) (Zx (LU aD aK)) (by repeat' (first | exact Xy _ _ | assumption | exact Wi | exact Wv | rfl | (refine Vp ?_ ?_ rfl rfl rfl) | (refine Wt ?_ ?_ ?_ rfl) | exact Vz (Xy _ _) rfl | apply Xi | exact Uq _ | exact Az _ | (simp only [Zo,Al,Aq,Ay,Za] <;> omega)))) (pp (pp (xF (Ys (fun k=>(Zi (Zx aD) 0 aD.length 1 [(.int .u8 32)]) (0+k)) (aD.length+1) (Wu (Ye aK)))) nn) (pp (pp (xw o3) (pp nn (xw o2))) (ww o1 (ww o0 nn))))))))))))
 | .h7 aQ aD aF aW aM aI aJ aK aG=>(lo fun o0=>(lo fun o1=>(lo fun o2=>(lo fun o3=>let a:=xL ((aD.length+1)+(Ye aG).length) (Lp aD aG).length (by first | exact Zr rfl | exact Zr (by simp only [Zo,Al,Aq,Ay,Za] <;> omega) | assumption);let b:=Lp aD aG;(sl Ws 91 [] ⟨[0,5,2],[],Id,Im⟩ ⟨[],[.cells [.keep,.len b.length],.rowed 1 b.length (Zx b),.keep],[]⟩ [true] (pp a (pp a (pp (xS ((aD.length+1)+(Ye aG).length) (Ys (fun k=>(Zi (Zx aD) 0 aD.length 1 [(.int .u8 32)]) (0+k)) (aD.length+1) (Wu (Ye aG))) (Zx (Lp aD aG)) (by repeat' (first | exact Xy _ _ | assumption | exact Wi | exact Wv | rfl | (refine Vp ?_ ?_ rfl rfl rfl) | (refine Wt ?_ ?_ ?_ rfl) | exact Vz (Xy _ _) rfl | apply Xi | exact Uq _ | exact Az _ | (simp only [Zo,Al,Aq,Ay,Za] <;> omega)))) (pp (pp (xF (Ys (fun k=>(Zi (Zx aD) 0 aD.length 1 [(.int .u8 32)]) (0+k)) (aD.length+1) (Wu (Ye aG)))) nn) (pp (pp (xw o3) (pp nn (xw o2))) (ww o1 (ww o0 nn))))))))))))
 | .h8 aQ aD aF aW aM aI aJ aK aG=>(lo fun o0=>let a:=xL (aD.length+1) (aD++[(yB 10)]).length;let b:=aD++[(yB 10)];(sl Ws 47 [] ⟨[0,4],[],Ek,El⟩ ⟨[],[.cells [.keep,.len b.length],.rowed 1 b.length (Zx b)],[]⟩ [false] (pp a (pp a (pp (xS (aD.length+1) (Zi (Zx aD) 0 aD.length 1 [(.int .u8 10)]) (Zx (aD++[(yB 10)]))) (pp (pp (xF (Zi (Zx aD) 0 aD.length 1 [(.int .u8 10)])) nn) (ww o0 nn)))))))
theorem Sj (l0:List R7):Uu prog (Zy prog 22) (GX l0) (Yx prog 22 [(.dat l0.length (Zx l0))] true []) (Hh l0):=(lo fun cG=>let a:=pp (pp (xr l0) (xw cG)) nn;(lb (fun k0=>(lr 46 22 [1,0,1,1,0,0] 1 10 [(2,(.str [])),(3,(ii (Vc (B4 l0))))] (sl Ws 24 [] (b8 [2,3]) a8 [true] (tt k0 a)))) (fun k0=>(sl Ws 32 [(5,1,Zx ([]:List By))] ⟨[0,1],[],Ek,El⟩ ⟨[],[.cells [.keep,.grow 1 1],.keep],[]⟩ [false] (pp (fl ([]:List By) nn) (tt k0 a))))))
theorem US (l0:List R7) (n:Nat) (vs:List BA) (h:Wx (Yn l0) n (Hh l0)=.ret vs):B5 prog (Zy prog 22) (Yx prog 22 [(.dat l0.length (Zx l0))] true []) vs:=by have:=Yo (Rh l0) n _ (Sj l0);rwa [h] at this
def E7 :List Int->List UInt8
 | []=>[]
 | n::r=>32::(itoa n++E7 r)
def Cx (r:R7):List UInt8:=113::117::97::100::(E7 [r.a,r.b,r.c,r.d,r.e,r.f,r.g]++[10])
def Xf :List R7->List UInt8
 | []=>[]
 | r::l=>Cx r++Xf l
def Xe (L:List R7):List UInt8:=bif Vc L != 0 then [] else bif decide (60000<(Xf L).length) then [] else Xf L
def Jj (L:List R7):Int:=bif Vc L != 0 then Vc L else bif decide (60000<(Xf L).length) then 4 else 0
theorem Tv {r:R7} (h:Cb r=true) (h0:0<=r.a):(0<=r.a/\r.a<=5)/\CH r.b r.c r.d/\CH r.e r.f r.g:=by unfold Cb at h;rw [Ad,Ad,Ad] at h;exact ⟨⟨h0,AB h.1⟩,(LD _ _ _).1 h.2.1,(LD _ _ _).1 h.2.2.1⟩
theorem Jr {n:Int} (h: -1000000<=n/\n<=1000000):(itoa n).length <=21:=itoa_length_le n (by omega) (by omega)
theorem OR {r:R7} (h:(0<=r.a/\r.a<=5)/\CH r.b r.c r.d/\CH r.e r.f r.g):(Cx r).length <=200:=by obtain ⟨h1,⟨h2,h3,h4⟩,h5,h6,h7⟩:=h;have a1:=Jr (n:=r.a) (by omega);have a2:=Jr h2;have a3:=Jr h3;have a4:=Jr h4;have a5:=Jr h5;have a6:=Jr h6;have a7:=Jr h7;simp only [Cx,E7,Al,Aq,Ay];omega
theorem LI {L:List R7} (h:Vc L=0) (ho:Yk L=true):L.length<=3000/\ ∀r,r∈L->(0<=r.a/\r.a<=5)/\CH r.b r.c r.d/\CH r.e r.f r.g:=by
 unfold Vc at h;by_cases g:3000<L.length
 .rw [Ah g] at h;cases h
 .rw [An g,Aj] at h;refine ⟨by omega,fun r hr=> ?_⟩;cases hq:L.all Cb with
  | false=>rw [hq] at h;cases h
  | true=>have:=Av.1 ho r hr;rw [Ad,Ap,Ap] at this;exact Tv (Av.1 hq r hr) this.1
theorem WZ (s:List UInt8):(BM s).length =s.length:=rfl
theorem Ta {L:List R7} {i:Nat} {s:List UInt8} (hi:i<L.length) (hv:(0<=(rd L i).a /\(rd L i).a <=5)/\CH (rd L i).b (rd L i).c (rd L i).d /\CH (rd L i).e (rd L i).f (rd L i).g) (hl:L.length<=3000) (ha:s.length<=10000000) (N:Nat):
  Wx (Yn L) (N+9) (.to (.h0 (i:Int) (BM s)))=Wx (Yn L) N (.to (.h0 ((i+1:Nat):Int) (BM (s++Cx (rd L i))))):=by
 obtain ⟨h1,⟨h2,h3,h4⟩,h5,h6,h7⟩:=hv;have h1': -1000000<=(rd L i).a /\(rd L i).a <=1000000:=by omega
 have w1:wrap .i64 ((i:Int)+1)=((i+1:Nat):Int):=We (by omega);have w2:wrap .i64 (rd L i).a =(rd L i).a :=We (by omega);have e0: ∀t:List By,t.length<=10001000->Yn L (.h0 (i:Int) t)=.to (.h1 (i:Int) (t.length+4) (t++BM [113,117,97,100]) (rd L i).a (rd L i).b (rd L i).c (rd L i).d (rd L i).e (rd L i).f (rd L i).g):=fun t ht=>by unfold Yn;simp only [Uh,w2];rw [Zd (DZ (by omega)),Zd (Bool.and_eq_true_iff.2 ⟨FR (by omega),rfl⟩),Zd (FI (by omega)),Zd (by simp)]
 have ex: ∀(n:Int),(-1000000<=n/\n<=1000000)-> ∀(t:List By),t.length<=10001000->(Nat.beq 1 1&&((decide (0+t.length=t.length))&&decide ((t.length+1+1)*(1+1)<=Xr)))=true/\Zb n=true/\decide (((t.length+1)+(Ye n).length +1)*(1+1)<=Xr)=true/\(Nat.beq 1 1&&(Nat.beq 1 1&&decide (0+(t.length+1)<=(t.length+1))))=true:=fun n hn t ht=>by have hl:(Ye n).length <=21:=Jr hn;exact ⟨QF (by omega),Ah (by omega),FI (by omega),by simp⟩
 have p0: ∀t:List By,Yg t 0 t.length=t:=fun t=>by rw [Oj (show 0+t.length<=t.length by omega),Bt];exact List.take_length
 have e1: ∀(t:List By) (a b c d e f g:Int),t.length<=10001000->(-1000000<=a/\a<=1000000)->Yn L (.h1 (i:Int) t.length t a b c d e f g)=.to (.h2 (i:Int) ((t++[yB 32])++BM (Ye a)) a b c d e f g):=fun t a b c d e f g ht ha=>by obtain ⟨c1,c2,c3,c4⟩:=ex a ha t ht;unfold Yn;simp only [p0];rw [Zd c1,Zd c2,Zd c3,Zd c4]
 have e2: ∀(t:List By) (a b c d e f g:Int),t.length<=10001000->(-1000000<=b/\b<=1000000)->Yn L (.h2 (i:Int) t a b c d e f g)=.to (.h3 (i:Int) ((t++[yB 32])++BM (Ye b)) a b c d e f g):=fun t a b c d e f g ht ha=>by obtain ⟨c1,c2,c3,c4⟩:=ex b ha t ht;unfold Yn;simp only [];rw [Zd c1,Zd c2,Zd c3,Zd c4]
 have e3: ∀(t:List By) (a b c d e f g:Int),t.length<=10001000->(-1000000<=c/\c<=1000000)->Yn L (.h3 (i:Int) t a b c d e f g)=.to (.h4 (i:Int) ((t++[yB 32])++BM (Ye c)) a b c d e f g):=fun t a b c d e f g ht ha=>by obtain ⟨c1,c2,c3,c4⟩:=ex c ha t ht;unfold Yn;simp only [];rw [Zd c1,Zd c2,Zd c3,Zd c4]
 have e4: ∀(t:List By) (a b c d e f g:Int),t.length<=10001000->(-1000000<=d/\d<=1000000)->Yn L (.h4 (i:Int) t a b c d e f g)=.to (.h5 (i:Int) ((t++[yB 32])++BM (Ye d)) a b c d e f g):=fun t a b c d e f g ht ha=>by obtain ⟨c1,c2,c3,c4⟩:=ex d ha t ht;unfold Yn;simp only [];rw [Zd c1,Zd c2,Zd c3,Zd c4]
 have e5: ∀(t:List By) (a b c d e f g:Int),t.length<=10001000->(-1000000<=e/\e<=1000000)->Yn L (.h5 (i:Int) t a b c d e f g)=.to (.h6 (i:Int) ((t++[yB 32])++BM (Ye e)) a b c d e f g):=fun t a b c d e f g ht ha=>by obtain ⟨c1,c2,c3,c4⟩:=ex e ha t ht;unfold Yn;simp only [];rw [Zd c1,Zd c2,Zd c3,Zd c4]
 have e6: ∀(t:List By) (a b c d e f g:Int),t.length<=10001000->(-1000000<=f/\f<=1000000)->Yn L (.h6 (i:Int) t a b c d e f g)=.to (.h7 (i:Int) ((t++[yB 32])++BM (Ye f)) a b c d e f g):=fun t a b c d e f g ht ha=>by obtain ⟨c1,c2,c3,c4⟩:=ex f ha t ht;unfold Yn;simp only [];rw [Zd c1,Zd c2,Zd c3,Zd c4]
 have e7: ∀(t:List By) (a b c d e f g:Int),t.length<=10001000->(-1000000<=g/\g<=1000000)->Yn L (.h7 (i:Int) t a b c d e f g)=.to (.h8 (i:Int) ((t++[yB 32])++BM (Ye g)) a b c d e f g):=fun t a b c d e f g ht ha=>by obtain ⟨c1,c2,c3,c4⟩:=ex g ha t ht;unfold Yn;simp only [];rw [Zd c1,Zd c2,Zd c3,Zd c4]
 have e8: ∀(t:List By) (a b c d e f g:Int),t.length<=10001000->Yn L (.h8 (i:Int) t a b c d e f g)=.to (.h0 ((i+1:Nat):Int) (t++[yB 10])):=fun t a b c d e f g ht=>by
  obtain ⟨c1,_⟩:=ex 0 (by omega) t ht;unfold Yn;simp only [w1];repeat (first | rw [Zd c1] | rw [Zd (FI (by omega))] | rw [Zd (by simp)])
 have len: ∀(t:List By) (n:Int),(-1000000<=n/\n<=1000000)->((t++[yB 32])++BM (Ye n)).length <=t.length+22:=fun t n hn=>by have hl:(Ye n).length <=21:=Jr hn;rw [Al,Al,WZ,AD];omega
 have fin:((((((((((((((((BM s++BM [113,117,97,100])++[yB 32])++BM (Ye (rd L i).a))++[yB 32])++BM (Ye (rd L i).b))++[yB 32])++BM (Ye (rd L i).c))++[yB 32])++BM (Ye (rd L i).d))++[yB 32])++BM (Ye (rd L i).e))++[yB 32])++BM (Ye (rd L i).f))++[yB 32])++BM (Ye (rd L i).g))++[yB 10])=BM (s++Cx (rd L i)):=by show ((((((((((((((((s++[113,117,97,100])++[32])++itoa (rd L i).a)++[32])++itoa (rd L i).b)++[32])++itoa (rd L i).c)++[32])++itoa (rd L i).d)++[32])++itoa (rd L i).e)++[32])++itoa (rd L i).f)++[32])++itoa (rd L i).g)++[10]:List UInt8)=s++Cx (rd L i);simp [Cx,E7]
 have hs:(BM s).length <=10000000:=ha;generalize hq:BM (s++Cx (rd L i))=q at fin ⊢;generalize BM s=t0 at fin hs ⊢;have cZ:t0.length+4=(t0++BM [113,117,97,100]).length :=by rw [Al];rfl
 rw [Zs,e0 t0 (by omega),cZ];have b0:(t0++BM [113,117,97,100]).length <=10000004:=by rw [<-cZ];omega
 generalize t0++BM [113,117,97,100]=t1 at fin b0 ⊢;rw [Zs,e1 t1 _ _ _ _ _ _ _ (by omega) h1'];have b1:=len t1 (rd L i).a h1';generalize ((t1++[yB 32])++BM (Ye (rd L i).a))=t2 at fin b1 ⊢;rw [Zs,e2 t2 _ _ _ _ _ _ _ (by omega) h2];have b2:=len t2 (rd L i).b h2;generalize ((t2++[yB 32])++BM (Ye (rd L i).b))=t3 at fin b2 ⊢;rw [Zs,e3 t3 _ _ _ _ _ _ _ (by omega) h3];have b3:=len t3 (rd L i).c h3;generalize ((t3++[yB 32])++BM (Ye (rd L i).c))=t4 at fin b3 ⊢;rw [Zs,e4 t4 _ _ _ _ _ _ _ (by omega) h4];have b4:=len t4 (rd L i).d h4;generalize ((t4++[yB 32])++BM (Ye (rd L i).d))=t5 at fin b4 ⊢;rw [Zs,e5 t5 _ _ _ _ _ _ _ (by omega) h5];have b5:=len t5 (rd L i).e h5;generalize ((t5++[yB 32])++BM (Ye (rd L i).e))=t6 at fin b5 ⊢;rw [Zs,e6 t6 _ _ _ _ _ _ _ (by omega) h6];have b6:=len t6 (rd L i).f h6;generalize ((t6++[yB 32])++BM (Ye (rd L i).f))=t7 at fin b6 ⊢;rw [Zs,e7 t7 _ _ _ _ _ _ _ (by omega) h7];have b7:=len t7 (rd L i).g h7;generalize ((t7++[yB 32])++BM (Ye (rd L i).g))=t8 at fin b7 ⊢;rw [Zs,e8 t8 _ _ _ _ _ _ _ (by omega),fin]
theorem P1 {L:List R7} (hl:L.length<=3000) (hv: ∀r,r∈L->(0<=r.a/\r.a<=5)/\CH r.b r.c r.d/\CH r.e r.f r.g): ∀(k i:Nat) (acc:List UInt8),i+k=L.length->acc.length<=200*i->
  ∃N,Wx (Yn L) N (.to (.h0 (i:Int) (BM acc)))=.ret [.str (bif decide (60000<(acc++Xf (L.drop i)).length) then [] else acc++Xf (L.drop i)),.int .i64 (bif decide (60000<(acc++Xf (L.drop i)).length) then 4 else 0)]
 | 0,i,acc,h,ha=>by
  refine ⟨1,?_⟩;have e:Yn L (.h0 (i:Int) (BM acc))=bif decide ((acc.length:Int)>60000) then .ret [.str [],.int .i64 4] else .ret [.str acc,.int .i64 0]:=by
   unfold Yn;simp (disch:=omega) only [D2,Aj];have es:Cy (BM acc).length (fun k=>Zx (BM acc) (0+k))=acc:=TC (BM acc) acc.length rfl;have hb:(BM acc).length =acc.length:=rfl;rw [es,hb];by_cases g:60000<acc.length
   .rw [Ah (show (acc.length:Int)>60000 by omega)];rfl
   .rw [An (show ¬(acc.length:Int)>60000 by omega),Aj,Aj,Zd (Ah (by omega)),Zd (IE (by omega))]
  rw [Zs,AL (by omega),e];simp only [Xf,List.append_nil];by_cases g:60000<acc.length
  .rw [Ah g,Ah (show (acc.length:Int)>60000 by omega)];rfl
  .rw [An g,An (show ¬(acc.length:Int)>60000 by omega)];rfl
 | k+1,i,acc,h,ha=>by
  have hi:i<L.length:=by omega
  have hq:=hv (rd L i) (by rw [Je hi];exact AE hi);have hlq:=OR hq;obtain ⟨N,hN⟩:=P1 hl hv k (i+1) (acc++Cx (rd L i)) (by omega) (by rw [Al];omega);refine ⟨N+9,?_⟩;have ea:acc++Xf (rd L i::L.drop (i+1))=(acc++Cx (rd L i))++Xf (L.drop (i+1)):=by rw [Xf,AP]
  rw [Ta hi hq hl (by omega),FL hi,ea];exact hN
theorem Tb (L:List R7) (ho:Yk L=true): ∃N,Wx (Yn L) N (Hh L)=.ret [.str (Xe L),.int .i64 (Jj L)]:=by
 have e:Hh L=bif (Vc L != 0) then .ret [.str [],.int .i64 (Vc L)] else .to (.h0 0 (BM [])):=by unfold Hh;rw [PV,Zd ho];rfl
 rw [e];unfold Xe Jj;by_cases h:Vc L=0
 .rw [Ca h,Aj,Aj,Aj];obtain ⟨h1,h2⟩:=LI h ho;obtain ⟨N,hN⟩:=P1 h1 h2 L.length 0 [] (Az _) (AG _);refine ⟨N,?_⟩;rw [AU,Bt] at hN;exact hN
 .rw [F6 h,Ao,Ao,Ao];exact ⟨0,rfl⟩
inductive Dw where
 | h0 (v4:Int) (v5:Int) (v6:Int)
def GV (x0:List UInt8):Dw->BJ
 | .h0 v4 v5 v6=>⟨⟨61,0,true⟩,none,(Yb prog 125 [1,1,1,0,1,0,0] 0),none,(Zy prog 10),⟨Kk [(0,(.str x0)),(4,(ii v4)),(5,(ii v5)),(6,(ii v6))],BV [] 0,0,[],true⟩,[],.leaf⟩
def K8 :List (Option (List Nat)):=[some [0,4,5,6]]
def K7 :List (Option (List Nat)):=[]
def Kd (x0:List UInt8):Dw->Vu Dw
 | .h0 v4 v5 v6=>(bif (decide (v6<(x0.length:Int))) then (bif (decide (0<=v6/\v6<(x0.length:Int))) then (bif (decide ((CN x0 v6.toNat)<48)) then (.ret [(.int .i64 0),(.bool false)]) else (bif (decide ((CN x0 v6.toNat)>57)) then (.ret [(.int .i64 0),(.bool false)]) else (bif (decide (v6>(wrap .i64 (v4+9)))) then (.ret [(.int .i64 0),(.bool false)]) else (.to (.h0 v4 (wrap .i64 ((wrap .i64 (10*v5))+(wrap .i64 (wrap IntKind.u8 ((CN x0 v6.toNat) - 48))))) (wrap .i64 (v6+1))))))) else .stuck) else (bif (v4 == 1) then (bif (decide ((x0.length:Int)>v4)) then (bif (Ko (wrap .i64 (0 - v5))) then (.ret [(.int .i64 (wrap .i64 (0 - v5))),(.bool ((Di (wrap .i64 (0 - v5))) == x0))]) else .stuck) else (.ret [(.int .i64 (wrap .i64 (0 - v5))),(.bool false)])) else (bif (decide ((x0.length:Int)>v4)) then (bif (Ko v5) then (.ret [(.int .i64 v5),(.bool ((Di v5) == x0))]) else .stuck) else (.ret [(.int .i64 v5),(.bool false)]))))
def Hi (x0:List UInt8):Vu Dw:=(bif (decide ((x0.length:Int)>0)) then (bif (decide ((0:Int)<=0/\0<(x0.length:Int))) then (bif ((CN x0 0) == 45) then (.to (.h0 1 0 1)) else (.to (.h0 0 0 0))) else .stuck) else (.to (.h0 0 0 0)))
theorem Ri (x0:List UInt8): ∀s,Uu prog (Zy prog 125) (GV x0) (GV x0 s) (Kd x0 s)
 | .h0 v4 v5 v6=>(lb (fun k0=>(lo fun aT=>let c:=ww aT (tt k0 nn);(lb (fun k1=>(lr 61 125 [1,1,1,0,1,0,0,1,0,0,0,1,0,0] 1 10 [(2,(ii 0)),(3,(.bool false))] (sl Ws 38 [] (b8 [2,3]) a8 (Bu 10 []) (tt k1 c)))) (fun k1=>let a:=ww aT (tt k1 c);(lb (fun k2=>(lr 61 125 [1,1,1,0,1,0,0,1,0,0,0,1,0,0] 1 10 [(2,(ii 0)),(3,(.bool false))] (sl Ws 38 [] (b8 [2,3]) a8 (bl 10 993) (tt k2 a)))) (fun k2=>(lb (fun k3=>(lr 61 125 [1,1,1,0,1,0,0,1,0,0,0,1,0,0] 1 10 [(2,(ii 0)),(3,(.bool false))] (sl Ws 38 [] (b8 [2,3]) a8 (bl 10 513) (tt k3 (tt k2 a))))) (fun k3=>(sl Ws 52 [] ⟨[],[],K8,K7⟩ a8 (bl 10 1) (ww aT (tt k3 (tt k2 a)))))))))))) (fun k0=>(lb (fun k1=>let b:=wr (0 - v5);let d:=tt k1 (tt k0 nn);(lb (fun k2=>(lo fun o0=>(lr 61 3 [1,1,1,1,1,1,0] 1 10 [(2,(ii b)),(3,(.bool ((Di b) == x0)))] (sl Ws 38 [] (b8 [2,3]) a8 (bl 6 62) (ww o0 (tt k2 d)))))) (fun k2=>(lr 61 3 [1,1,1,1,1,1,0] 1 10 [(2,(ii b)),(3,(.bool false))] (sl Ws 38 [] (b8 [2,3]) a8 (bl 6 2) (tt k2 d)))))) (fun k1=>let e:=tt k1 (tt k0 nn);(lb (fun k2=>(lo fun o0=>(lr 61 3 [1,1,1,1,1,1,0] 1 10 [(2,(ii v5)),(3,(.bool ((Di v5) == x0)))] (sl Ws 34 [] (b8 [2,3]) a8 (bl 6 60) (ww o0 (tt k2 e)))))) (fun k2=>(lr 61 3 [1,1,1,1,1,1,0] 1 10 [(2,(ii v5)),(3,(.bool false))] (sl Ws 34 [] (b8 [2,3]) a8 (bl 6 0) (tt k2 e)))))))))
theorem Sl (x0:List UInt8):Uu prog (Zy prog 125) (GV x0) (Yx prog 125 [(.str x0)] true []) (Hi x0):=(lb (fun k0=>(lo fun aT=>let a:=ww aT (tt k0 nn);(lb (fun k1=>(sl Ws 34 [] ⟨[],[],K8,K7⟩ a8 (Bu 4 []) (tt k1 a))) (fun k1=>(sl Ws 32 [] ⟨[],[],K8,K7⟩ a8 (Bu 3 [false]) (tt k1 a)))))) (fun k0=>(sl Ws 32 [] ⟨[],[],K8,K7⟩ a8 (bl 4 0) (tt k0 nn))))
theorem UX (x0:List UInt8) (n:Nat) (vs:List BA) (h:Wx (Kd x0) n (Hi x0)=.ret vs):B5 prog (Zy prog 125) (Yx prog 125 [(.str x0)] true []) vs:=by have:=Yo (Ri x0) n _ (Sl x0);rwa [h] at this
inductive Dr where
 | h0 (v5:List (List UInt8)) (v6:Int) (v7:Int)
def Fu (x0:List UInt8) (x1:Int):Dr->BJ
 | .h0 v5 v6 v7=>⟨⟨35,0,true⟩,none,(Yb prog 49 [1,1,1,0,1,0,0] 0),none,(Zy prog 3),⟨Kk [(0,(.str x0)),(1,(.int .u8 x1)),(5,(.sla 0 1 0 v5.length (.un 1))),(6,(ii v6)),(7,(ii v7))],BV [⟨rows v5.length (Zx v5),9,some ⟨1,v5.length,(Zx v5)⟩⟩] 0,1,[],true⟩,[],.leaf⟩
def Kl :List (Option (List Nat)):=[some [0,1,5,6,7]]
def K9 :List (Option (List Nat)):=[]
def Uo (x0:List UInt8) (x1:Int):Dr->Vu Dr
 | .h0 v5 v6 v7=>(bif (decide (v7<=(x0.length:Int))) then (bif (v7 == (x0.length:Int)) then (bif (decide (v6.toNat<=v7.toNat)) then (bif (decide (v7.toNat<=x0.length)) then (bif (decide (0<=v6)) then (bif (decide (0<=v7)) then (bif (Nat.beq 1 1&&((decide (0+v5.length=v5.length))&&decide ((v5.length+1+1)*(16+1)<=Xr))) then (.to (.h0 (v5++[((x0.drop v6.toNat).take (v7.toNat - v6.toNat))]) (wrap .i64 (v7+1)) (wrap .i64 (v7+1)))) else .stuck) else .stuck) else .stuck) else .stuck) else .stuck) else (bif (decide (0<=v7/\v7<(x0.length:Int))) then (bif ((CN x0 v7.toNat) == x1) then (bif (decide (v6.toNat<=v7.toNat)) then (bif (decide (v7.toNat<=x0.length)) then (bif (decide (0<=v6)) then (bif (decide (0<=v7)) then (bif (Nat.beq 1 1&&((decide (0+v5.length=v5.length))&&decide ((v5.length+1+1)*(16+1)<=Xr))) then (.to (.h0 (v5++[((x0.drop v6.toNat).take (v7.toNat - v6.toNat))]) (wrap .i64 (v7+1)) (wrap .i64 (v7+1)))) else .stuck) else .stuck) else .stuck) else .stuck) else .stuck) else (.to (.h0 v5 v6 (wrap .i64 (v7+1))))) else .stuck)) else (.ret [(.dat v5.length (Zx v5))]))
def LL (x0:List UInt8) (x1:Int):Vu Dr:=(.to (.h0 ([]:List (List UInt8)) 0 0))
theorem Rn (x0:List UInt8) (x1:Int): ∀s,Uu prog (Zy prog 49) (Fu x0 x1) (Fu x0 x1 s) (Uo x0 x1 s)
 | .h0 v5 v6 v7=>(lb (fun k0=>let a:=v5++[((x0.drop (tn v6)).take ((tn v7) - (tn v6)))];(lb (fun k1=>(lo fun o0=>(lo fun o1=>(lo fun o2=>(lo fun o3=>(lo fun o4=>let b:=xL (v5.length+1) (v5++[((x0.drop (tn v6)).take ((tn v7) - (tn v6)))]).length;(sl Ws 50 [] ⟨[2],[],Kl,K9⟩ ⟨[(5,.len a.length)],[.rowed 1 a.length (Zx a)],[]⟩ (Bu 7 []) (pp b (pp b (pp (xS (v5.length+1) (Zi (Zx v5) 0 v5.length 1 [(.str ((x0.drop (tn v6)).take ((tn v7) - (tn v6))))]) (Zx (v5++[((x0.drop (tn v6)).take ((tn v7) - (tn v6)))]))) (pp (pp (xF (Zi (Zx v5) 0 v5.length 1 [(.str ((x0.drop (tn v6)).take ((tn v7) - (tn v6))))])) nn) (ww o4 (pp (pp (xw o3) (pp (xw o2) (pp (xG (decide ((tn v7)<=x0.length))) (xG (decide ((tn v6)<=(tn v7))))))) (tt k1 (tt k0 nn))))))))))))))) (fun k1=>(lo fun bQ=>let d:=ww bQ (tt k1 (tt k0 nn));(lb (fun k2=>(lo fun o0=>(lo fun o1=>(lo fun o2=>(lo fun o3=>(lo fun o4=>let c:=xL (v5.length+1) (v5++[((x0.drop (tn v6)).take ((tn v7) - (tn v6)))]).length;(sl Ws 50 [] ⟨[2],[],Kl,K9⟩ ⟨[(5,.len a.length)],[.rowed 1 a.length (Zx a)],[]⟩ (bl 7 65) (pp c (pp c (pp (xS (v5.length+1) (Zi (Zx v5) 0 v5.length 1 [(.str ((x0.drop (tn v6)).take ((tn v7) - (tn v6))))]) (Zx (v5++[((x0.drop (tn v6)).take ((tn v7) - (tn v6)))]))) (pp (pp (xF (Zi (Zx v5) 0 v5.length 1 [(.str ((x0.drop (tn v6)).take ((tn v7) - (tn v6))))])) nn) (ww o4 (pp (pp (xw o3) (pp (xw o2) (pp (xG (decide ((tn v7)<=x0.length))) (xG (decide ((tn v6)<=(tn v7))))))) (tt k2 d)))))))))))))) (fun k2=>(sl Ws 35 [] ⟨[0],[],Kl,K9⟩ a8 (bl 7 1) (pp (fl v5 nn) (tt k2 d))))))))) (fun k0=>(lr 35 3 [1,1,1,1,1,1,0] 1 3 [(4,(.dat v5.length (Zx v5)))] (sl Ws 15 [] ⟨[],[0],[some [4]],[]⟩ ⟨[(4,.frz v5.length v5.length (Zx v5) (Zx v5))],[],[]⟩ [false] (pp (xZ (Cr 1 1 0 v5.length v5.length (Zx v5)) v5.length (Zx v5)) (pp (xL v5.length v5.length) (pp (xS v5.length (Zx v5) (Zx v5)) (pp (fl v5 nn) (tt k0 nn)))))))))
theorem Sq (x0:List UInt8) (x1:Int):Uu prog (Zy prog 49) (Fu x0 x1) (Yx prog 49 [(.str x0),(.int .u8 x1)] true []) (LL x0 x1):=(sl Ws 19 [(9,1,Zx ([]:List (List UInt8)))] ⟨[0],[],Kl,K9⟩ ⟨[(5,.grow 0 1)],[],[]⟩ [] (pp (fl ([]:List (List UInt8)) nn) nn))
theorem U3 (x0:List UInt8) (x1:Int) (n:Nat) (vs:List BA) (h:Wx (Uo x0 x1) n (LL x0 x1)=.ret vs):B5 prog (Zy prog 49) (Yx prog 49 [(.str x0),(.int .u8 x1)] true []) vs:=by have:=Yo (Rn x0 x1) n _ (Sq x0 x1);rwa [h] at this
def B2 (s:List UInt8):Option Int:=match atoiAll s with
 | .ok v=>bif decide (itoa v=s/\ -9999999<=v/\v<=9999999) then some v else none
 | _=>none
def CR :List UInt8->Nat->Nat->Option Nat
 | [],_,n=>some n
 | c::r,j,n=>bif decide (c.toNat<48)||(decide (57<c.toNat)||decide (9<j)) then none else CR r (j+1) (10*n+(c.toNat - 48))
def DI (s:List UInt8):Bool:=match s with
 | c::_=>decide (c.toNat=45)
 | []=>false
def B7 (s:List UInt8):Nat:=bif DI s then 1 else 0
def Wo (s:List UInt8):Int:=match CR (s.drop (B7 s)) 0 0 with
 | some n=>bif DI s then -(n:Int) else n
 | none=>0
def Qc (s:List UInt8):Bool:=match CR (s.drop (B7 s)) 0 0 with
 | some n=>decide (B7 s<s.length)&&decide (itoa (bif DI s then -(n:Int) else n)=s)
 | none=>false
def EU (s:List UInt8):Bool:=bif decide (8<s.length) then false else Qc s&&(decide (-9999999<=Wo s)&&decide (Wo s<=9999999))
def Vm (s:List UInt8):Int:=bif decide (8<s.length) then 0 else Wo s
theorem KF (c:UInt8) (r:List UInt8) (j n:Nat):CR (c::r) j n=bif decide (c.toNat<48)||(decide (57<c.toNat)||decide (9<j)) then none else CR r (j+1) (10*n+(c.toNat - 48)):=rfl
def NS :NumEnd Nat:=parseUint10 0 [58]
theorem Lr (c:UInt8) (r:List UInt8) (n:Nat):parseUint10 n (c::r)=if 48<=c.toNat/\c.toNat<=57 then
   if 1844674407370955162<=n then .range
   else if 18446744073709551616<=n*10+(c.toNat - 48) then .range
   else parseUint10 (n*10+(c.toNat - 48)) r
  else NS:=by
 rw [parseUint10];rfl
theorem PH (n:Nat):parseUint10 n []=.ok n:=by rw [parseUint10]
theorem OJ : ∀(l m:List UInt8) (j n:Nat),CR (l++m) j n=match CR l j n with
  | none=>none
  | some v=>CR m (j+l.length) v
 | [],m,j,n=>rfl
 | c::r,m,j,n=>by
  rw [A5,KF,KF];cases decide (c.toNat<48)||(decide (57<c.toNat)||decide (9<j)) with
  | true=>rfl
  | false=>rw [Aj,Aj,OJ r m (j+1)];rw [Aq,show j+1+r.length=j+(r.length+1) by omega]
theorem Ug : ∀(l m:List UInt8) (n:Nat),parseUint10 n (l++m)=match parseUint10 n l with
  | .ok v=>parseUint10 v m
  | e=>e
 | [],m,n=>by rw [PH];rfl
 | c::r,m,n=>by
  rw [A5,Lr,Lr];split
  .split
   .rfl
   .split
    .rfl
    .exact Ug r m _
  .rfl
theorem Ux {u:Nat} (h:u<10):(UInt8.ofNat (48+u)).toNat =48+u:=by rw [UInt8.toNat_ofNat'];omega
theorem Vx : ∀(k u:Nat),u<10 ^ (k+1)->(decDigits u).length <=k+1
 | 0,u,h=>by rw [decDigits,dif_pos (by simpa using h)];exact Ai _
 | k+1,u,h=>by
  by_cases g:u<10
  .rw [decDigits,dif_pos g];simp
  .rw [decDigits,dif_neg g,Al,AD];have:=Vx k (u / 10) (by rw [Nat.pow_succ] at h;omega);omega
theorem OW (u:Nat):1<=(decDigits u).length :=by
 rw [decDigits];split
 .exact Ai _
 .rw [Al,AD];omega
theorem Oh {u j n:Nat} (h:u<10) (hj:j<=9):CR [UInt8.ofNat (48+u)] j n=some (10*n+u):=by rw [KF,Ux h,An (by omega),An (by omega),An (show ¬9<j by omega)];show some (10*n+(48+u - 48))=_;rw [show 48+u - 48=u by omega]
theorem PI {u n:Nat} (h:u<10) (hn:n<1000000000000):parseUint10 n [UInt8.ofNat (48+u)]=.ok (10*n+u):=by rw [Lr,Ux h,Aw (by omega),At (by omega),At (by omega),PH];rw [show n*10+(48+u - 48)=10*n+u by omega]
theorem LJ : ∀(k u:Nat),u<10 ^ (k+1)->k<=9->CR (decDigits u) 0 0=some u
 | k,u,h,hk=>by
  by_cases g:u<10
  .rw [decDigits,dif_pos g,Oh g (by omega)];simp
  .match k,h,hk with
   | 0,h,_=>omega
   | k+1,h,hk=>
    have hs:u / 10<10 ^ (k+1):=by rw [Nat.pow_succ] at h;omega
    have hl:=Vx k (u / 10) hs;rw [decDigits,dif_neg g,OJ,LJ k (u / 10) hs (by omega)];show CR _ (0+(decDigits (u / 10)).length) _=_;rw [Oh (by omega) (by omega),show 10*(u / 10)+u %10=u by omega]
theorem Lc : ∀(k u:Nat),u<10 ^ (k+1)->k<=9->parseUint10 0 (decDigits u)=.ok u
 | k,u,h,hk=>by
  by_cases g:u<10
  .rw [decDigits,dif_pos g,PI g (by omega)];simp
  .match k,h,hk with
   | 0,h,_=>omega
   | k+1,h,hk=>
    have hs:u / 10<10 ^ (k+1):=by rw [Nat.pow_succ] at h;omega
    have hb:(10:Nat) ^ (k+1)<=10 ^ 10:=Nat.pow_le_pow_right (by decide) (by omega);rw [decDigits,dif_neg g,Ug,Lc k (u / 10) hs (by omega)];show parseUint10 _ _=_;rw [PI (by omega) (by omega),show 10*(u / 10)+u %10=u by omega]
theorem QY : ∀(u:Nat),∃c r,decDigits u=c::r/\48<=c.toNat/\c.toNat<=57:=by
 intro u
 induction u using Nat.strongRecOn with
 | _ u ih=>
  by_cases g:u<10
  .refine ⟨_,[],by rw [decDigits,dif_pos g],?_⟩;rw [Ux g];omega
  .obtain ⟨c,r,e,h⟩:=ih (u / 10) (by omega);refine ⟨c,r++[UInt8.ofNat (48+u %10)],?_,h⟩;rw [decDigits,dif_neg g,e];rfl
theorem VN {n:Int} {s:List UInt8} (hs:itoa n=s) (h0: -9999999<=n) (h1:n<=9999999):
  atoiAll s=.ok n/\s.length<=8/\Qc s=true/\Wo s=n:=by
 by_cases hn:n<0
 .have hu : n.natAbs < 10 ^ (6 + 1) := by have:(10:Nat) ^ (6+1)=10000000:=by decide
                                          omega
  have e:s=45::decDigits n.natAbs:=by rw [<-hs];unfold itoa;rw [Aw hn]
  have hl:=Vx 6 _ hu;have hp:=OW n.natAbs;have h45:(45:UInt8).toNat =45:=rfl;have hsg:DI s=true:=by rw [e];rfl
  have hsn:B7 s=1:=by unfold B7;rw [hsg];rfl
  have hnl:CR (s.drop (B7 s)) 0 0=some n.natAbs:=by rw [hsn,e];exact LJ 6 _ hu (by decide)
  refine ⟨?_,by rw [e,Aq];omega,?_,?_⟩
  .rw [e];unfold atoiAll;simp only [h45,or_true,if_true];have hm:parseMag (decDigits n.natAbs)=.ok n.natAbs:=by unfold parseMag;rw [At (by intro hh;rw [hh] at hp;simp at hp),Lc 6 _ hu (by decide)]
   rw [hm];have: ¬9223372036854775808<n.natAbs:=by omega
   simp [this];omega
  .unfold Qc;rw [hnl,hsg,hsn];show (decide (1<s.length)&&decide (itoa (-(n.natAbs:Int))=s))=true;rw [Ah (by rw [e,Aq];omega),show (-(n.natAbs:Int))=n by omega,Ah hs];rfl
  .unfold Wo;rw [hnl,hsg];show -(n.natAbs:Int)=n;omega
 .have hu : n.toNat < 10 ^ (6 + 1) := by have:(10:Nat) ^ (6+1)=10000000:=by decide
                                         omega
  have e:s=decDigits n.toNat:=by rw [<-hs];unfold itoa;rw [At hn]
  have hl:=Vx 6 _ hu;have hp:=OW n.toNat;obtain ⟨c,r,ec,hc⟩:=QY n.toNat;have hsg:DI s=false:=by rw [e,ec];exact An (by omega)
  have hsn:B7 s=0:=by unfold B7;rw [hsg];rfl
  have hnl:CR (s.drop (B7 s)) 0 0=some n.toNat:=by rw [hsn,e];exact LJ 6 _ hu (by decide)
  refine ⟨?_,by rw [e];omega,?_,?_⟩
  .have hm:parseMag (decDigits n.toNat)=.ok n.toNat:=by unfold parseMag;rw [At (by intro hh;rw [hh] at hp;simp at hp),Lc 6 _ hu (by decide)]
   rw [e];rw [ec] at hm ⊢;unfold atoiAll;have g1: ¬(c.toNat=43\/c.toNat=45):=by omega
   have g2: ¬c.toNat=45:=by omega
   have g3: ¬9223372036854775808<=n.toNat:=by omega
   simp only [At g1,hm];simp [g2,g3];omega
  .unfold Qc;rw [hnl,hsg,hsn];show (decide (0<s.length)&&decide (itoa (n.toNat:Int)=s))=true;rw [Ah (by rw [e];omega),show ((n.toNat:Nat):Int)=n by omega,Ah hs];rfl
  .unfold Wo;rw [hnl,hsg];show (n.toNat:Int)=n;omega
theorem WD {n:Int} {s:List UInt8} (hs:itoa n=s) (h0: -9999999<=n) (h1:n<=9999999):B2 s=some n:=by unfold B2;rw [(VN hs h0 h1).1];show (bif decide _ then some n else none)=_;rw [Ah ⟨hs,h0,h1⟩];rfl
theorem WE {s:List UInt8} {n:Int} (h:B2 s=some n):itoa n=s/\ -9999999<=n/\n<=9999999:=by
 unfold B2 at h;split at h
 .rename_i v _;by_cases g:itoa v=s/\ -9999999<=v/\v<=9999999
  .rw [Ah g] at h;obtain rfl:=Ab h;exact g
  .rw [An g] at h;cases h
 .cases h
theorem Pk {s:List UInt8} {i:Nat} (h:i<s.length):CN s i=((s[i].toNat :Nat):Int):=by unfold CN;rw [A4,Ak h];rfl
theorem E5 (c:UInt8):c.toNat<256:=UInt8.toNat_lt c
def DN (s:List UInt8) (f:Nat):Option Nat->List BA
 | none=>[.int .i64 0,.bool false]
 | some m=>[.int .i64 (bif Nat.beq f 1 then -(m:Int) else m),.bool (decide (f<s.length)&&decide (itoa (bif Nat.beq f 1 then -(m:Int) else m)=s))]
theorem P4 {s:List UInt8} {f:Nat} (hf:f=0\/f=1) (hs:s.length<=1000000): ∀(k i n:Nat),i+k=s.length->f<=i->i - f<=10->n<10 ^ (i - f)->
  ∃N,Wx (Kd s) N (.to (.h0 (f:Int) (n:Int) (i:Int)))=.ret (DN s f (CR (s.drop i) (i - f) n))
 | 0,i,n,h,hfi,hj,hn=>by
  refine ⟨1,?_⟩;have hp:(10:Nat) ^ (i - f)<=10 ^ 10:=Nat.pow_le_pow_right (by decide) hj;have hd: ∀v:Int,(Di v == s)=decide (itoa v=s):=fun v=>by unfold Di;rw [Ba];simp
  rw [Zs,AL (by omega)];have e:Kd s (.h0 (f:Int) (n:Int) (i:Int))=.ret (DN s f (some n)):=by
   unfold Kd DN;simp only [];rw [D2 (by omega),Aj];have w:wrap .i64 (0 - (n:Int))= -(n:Int):=by rw [We (by omega)];omega
   rcases hf with rfl | rfl
   .rw [show (((0:Nat):Int) == 1)=false from rfl,Aj,show Nat.beq 0 1=false from rfl,Aj];by_cases g:0<s.length
    .rw [Df (by omega),Ao,Zd (show Ko (n:Int)=true from Ah (by omega)),hd,Ah g];rfl
    .rw [EW (by omega),Aj,An g];rfl
   .rw [show (((1:Nat):Int) == 1)=true from rfl,Ao,show Nat.beq 1 1=true from rfl,Ao,w];by_cases g:1<s.length
    .rw [Df (by omega),Ao,Zd (show Ko (-(n:Int))=true from Ah (by omega)),hd,Ah g];rfl
    .rw [EW (by omega),Aj,An g];rfl
  rw [e];rfl
 | k +1,i,n,h,hfi,hj,hn=>by
  have hi:i<s.length:=by omega
  have hp:(10:Nat) ^ (i - f)<=10 ^ 10:=Nat.pow_le_pow_right (by decide) hj;have hc:=E5 s[i];rw [AX hi,KF];have w1:wrap .i64 ((f:Int)+9)=(f:Int)+9:=We (by omega);have w2:wrap .i64 ((i:Int)+1)=((i+1:Nat):Int):=We (by omega);have e:Kd s (.h0 (f:Int) (n:Int) (i:Int))=bif decide (s[i].toNat <48)||(decide (57<s[i].toNat)||decide (9<i - f)) then .ret [.int .i64 0,.bool false] else .to (.h0 (f:Int) ((10*n+(s[i].toNat - 48):Nat):Int) ((i+1:Nat):Int)):=by
   unfold Kd;simp only [Uh,Pk hi,w1,w2];rw [Zd (DZ (by omega)),Zd (FR (by omega))];by_cases g1:s[i].toNat <48
   .rw [DZ (by omega),Ah g1];rfl
   .rw [D2 (by omega),An g1,Aj];by_cases g2:57<s[i].toNat
    .rw [Df (by omega),Ah g2];rfl
    .rw [EW (by omega),An g2,Aj];by_cases g3:9<i - f
     .rw [Df (by omega),Ah g3];rfl
     .rw [EW (by omega),An g3,Aj,w8 _ (by omega),We (n:=((s[i].toNat :Nat):Int) - 48) (by omega),We (n:=10*(n:Int)) (by omega),We (by omega)];show Vu.to _=Vu.to _
      congr 2
      omega
  by_cases g:(decide (s[i].toNat <48)||(decide (57<s[i].toNat)||decide (9<i - f)))=true
  .refine ⟨1,?_⟩;rw [Zs,e,g,Ao,Ao,Yh];rfl
  .have g':=AS.2 g;have g3:i - f<=9:=by simp only [A0,A1] at g';omega
   have g4:s[i].toNat <=57:=by simp only [A0,A1] at g';omega
   obtain ⟨N,hN⟩:=P4 hf hs k (i+1) (10*n+(s[i].toNat - 48)) (by omega) (by omega) (by omega) (by
    rw [show i+1 - f=(i - f)+1 by omega,Nat.pow_succ];omega)
   refine ⟨N+1,?_⟩;rw [Zs,e,g',Aj,Aj,hN,show i+1 - f=i - f+1 by omega]
def KG (s:List UInt8):Bool:=decide (s.length<=1000000)
theorem Tc (s:List UInt8):DN s (B7 s) (CR (s.drop (B7 s)) 0 0)=[.int .i64 (Wo s),.bool (Qc s)]:=by
 have hb:Nat.beq (B7 s) 1=DI s:=by unfold B7;cases DI s <;> rfl
 unfold Wo Qc;cases e:CR (s.drop (B7 s)) 0 0 with
 | none=>rfl
 | some m=>unfold DN;simp only [hb]
theorem Td (s:List UInt8) (h:KG s=true): ∃N,Wx (Kd s) N (Hi s)=.ret [.int .i64 (Wo s),.bool (Qc s)]:=by
 have hs:s.length<=1000000:=AB h;rw [<-Tc];have e:Hi s=.to (.h0 (B7 s:Int) ((0:Nat):Int) (B7 s:Int)):=by
  unfold Hi
  match s with
  | []=>rfl
  | c::r=>
   rw [Zd (Df (by rw [Aq];omega)),Zd (Ah ⟨Int.le_refl _,by rw [Aq];omega⟩)];have hb:(CN (c::r) 0 == 45)=DI (c::r):=by show (((c.toNat:Nat):Int) == 45)=decide (c.toNat=45);rw [Ba];simp;omega
   rw [hb];unfold B7;cases DI (c::r) <;> rfl
 rw [e];have hle:B7 s<=s.length:=by
  unfold B7
  match s with
  | []=>exact Ai _
  | c::r=>cases DI (c::r) <;> simp
 have h01:B7 s=0\/B7 s=1:=by unfold B7;cases DI s <;> simp
 obtain ⟨N,hN⟩:=P4 h01 hs (s.length - B7 s) (B7 s) 0 (by omega) (Ai _) (by omega) (by rw [Nat.sub_self];decide);rw [Nat.sub_self] at hN;exact ⟨N,hN⟩
def Gh :List BA->Option (BA×Bool)
 | [.str s]=>some (.tup [.int .i64 (Wo s),.bool (Qc s)],KG s)
 | _=>none
theorem XC {S:BB} (hS:Zk prog S):Zk prog (S.with I7 Gh):=Ci hS (by kernel_rfl) fun args v h=>by
 unfold Gh at h;split at h
 .rename_i s;simp only [Ac,Aa] at h;obtain ⟨rfl,ho⟩:=h;obtain ⟨N,hN⟩:=Td s ho;exact ⟨_,_,.cons (.refl _) .nil,rfl,UX s N _ hN,3,rfl⟩
 .cases h
def EJ (s:List UInt8) (b:Int):List (List UInt8):=Wa (UInt8.ofNat b.toNat) [] s
def LX (s:List UInt8) (b:Int):Bool:=decide (s.length<=1000000)&&decide (0<=b/\b<256)
theorem Mc {s:List UInt8} {b:Nat} (hb:b<256) (hs:s.length<=1000000): ∀(k i fr:Nat) (out:List (List UInt8)),i+k=s.length->fr<=i->out.length<=i->
  ∃N,Wx (Uo s (b:Int)) N (.to (.h0 out (fr:Int) (i:Int)))=.ret [.dat (out++Wa (UInt8.ofNat b) ((s.drop fr).take (i - fr)) (s.drop i)).length (Zx (out++Wa (UInt8.ofNat b) ((s.drop fr).take (i - fr)) (s.drop i)))]
 | 0,i,fr,out,h,hfi,ho=>by
  refine ⟨2,?_⟩;have w2:wrap .i64 ((i:Int)+1)=((i+1:Nat):Int):=We (by omega);have e:Uo s (b:Int) (.h0 out (fr:Int) (i:Int))=.to (.h0 (out++[(s.drop fr).take (i - fr)]) ((i+1:Nat):Int) ((i+1:Nat):Int)):=by unfold Uo;simp only [Uh,w2];rw [Zd (FS (by omega)),Zd (M6 (by omega)),Zd (Hx hfi),Zd (Hx (by omega)),Zd (FS (by omega)),Zd (FS (by omega)),Zd];rw [Ad,Ad];exact ⟨rfl,Ah (by omega),FI (by omega)⟩
  have e2: ∀o,Uo s (b:Int) (.h0 o ((i+1:Nat):Int) ((i+1:Nat):Int))=.ret [.dat o.length (Zx o)]:=fun o=>by unfold Uo;simp only [];rw [Ep (by omega),Aj]
  rw [Zs,e,Zs,e2,AL (show s.length<=i by omega)];rfl
 | k+1,i,fr,out,h,hfi,ho=>by
  have hi:i<s.length:=by omega
  have hc:=E5 s[i];have w2:wrap .i64 ((i:Int)+1)=((i+1:Nat):Int):=We (by omega);have hbb:((((s[i].toNat :Nat):Int)) == (b:Int))=(s[i] == UInt8.ofNat b):=by
   rw [Ba,Bg,Bg];constructor
   .intro h;apply UInt8.toNat_inj.1;rw [UInt8.toNat_ofNat'];omega
   .intro h;rw [h,UInt8.toNat_ofNat'];omega
  have e:Uo s (b:Int) (.h0 out (fr:Int) (i:Int))=bif s[i] == UInt8.ofNat b then .to (.h0 (out++[(s.drop fr).take (i - fr)]) ((i+1:Nat):Int) ((i+1:Nat):Int)) else .to (.h0 out (fr:Int) ((i+1:Nat):Int)):=by
   unfold Uo;simp only [Uh,w2,Pk hi,hbb];rw [Zd (FS (by omega)),M5 (by omega),Aj,Zd (FR (by omega))];have hr:(Nat.beq 1 1&&((decide (0+out.length=out.length))&&decide ((out.length+1+1)*(16+1)<=Xr)))=true:=by rw [Ad,Ad];exact ⟨rfl,Ah (by omega),FI (by omega)⟩
   rw [Zd (Hx hfi),Zd (Hx (by omega)),Zd (FS (by omega)),Zd (FS (by omega)),Zd hr]
  rw [AX hi,Wa];cases g:s[i] == UInt8.ofNat b with
  | true=>obtain ⟨N,hN⟩:=Mc hb hs k (i+1) (i+1) (out++[(s.drop fr).take (i - fr)]) (by omega) (Ai _) (by rw [Al,AD];omega);refine ⟨N+1,?_⟩;rw [Zs,e,g,Ao,Ao,hN,Nat.sub_self,List.take_zero,AP];rfl
  | false=>
   obtain ⟨N,hN⟩:=Mc hb hs k (i+1) fr out (by omega) (by omega) (by omega);refine ⟨N+1,?_⟩;have ht:(s.drop fr).take (i+1 - fr)=(s.drop fr).take (i - fr)++[s[i]]:=by
    rw [show i+1 - fr=(i - fr)+1 by omega,List.take_add_one]
    congr 1
    rw [List.getElem?_drop,show fr+(i - fr)=i by omega,Ak hi];rfl
   rw [Zs,e,g,Aj,Aj,hN,ht]
theorem Tl (s:List UInt8) (b:Int) (h:LX s b=true): ∃N,Wx (Uo s b) N (LL s b)=.ret [.dat (EJ s b).length (Zx (EJ s b))]:=by
 unfold LX at h;rw [Ad,Ap,Ap] at h;obtain ⟨n,rfl⟩: ∃n:Nat,b=(n:Int):=⟨b.toNat,by omega⟩
 obtain ⟨N,hN⟩:=Mc (b:=n) (by omega) h.1 s.length 0 0 [] (Az _) (Ai _) (Ai _);exact ⟨N,hN⟩
def Gf :List BA->Option (BA×Bool)
 | [.str s,.int .u8 b]=>some (.dat (EJ s b).length (Zx (EJ s b)),LX s b)
 | _=>none
theorem XE {S:BB} (hS:Zk prog S):Zk prog (S.with IM Gf):=Ci hS (by kernel_rfl) fun args v h=>by
 unfold Gf at h;split at h
 .rename_i s b;simp only [Ac,Aa] at h;obtain ⟨rfl,ho⟩:=h;obtain ⟨N,hN⟩:=Tl s b ho;exact ⟨_,_,.cons (.refl _) (.cons (.refl _) .nil),rfl,U3 s b N _ hN,3,rfl⟩
 .cases h
def S4 :BB:=(S3.with I7 Gh).with IM Gf
theorem Hu :Zk prog S4:=XE (XC Ws)
inductive Dp where
def Fq (x0:List UInt8):Dp->BJ
 :=nofun
def MK (x0:List UInt8):Dp->Vu Dp
 :=nofun
def J6 (x0:List UInt8):Vu Dp:=(bif (decide ((x0.length:Int)>8)) then (.ret [(.int .i64 0),(.bool false)]) else (bif (KG x0) then (bif (Qc x0) then (bif (decide ((Wo x0)>=(-9999999))) then (.ret [(.int .i64 (Wo x0)),(.bool (decide ((Wo x0)<=9999999)))]) else (.ret [(.int .i64 (Wo x0)),(.bool false)])) else (.ret [(.int .i64 (Wo x0)),(.bool false)])) else .stuck))
theorem Rr (x0:List UInt8): ∀s,Uu prog (Zy prog 88) (Fq x0) (Fq x0 s) (MK x0 s)
 :=nofun
theorem Sv (x0:List UInt8):Uu prog (Zy prog 88) (Fq x0) (Yx prog 88 [(.str x0)] true []) (J6 x0):=(lb (fun k0=>(lr 24 88 [1,0,1,0,0] 1 10 [(2,(ii 0)),(3,(.bool false))] (sl Hu 18 [] (b8 [2,3]) a8 [true] (tt k0 nn)))) (fun k0=>(lo fun aT=>let a:=ww aT (tt k0 nn);let b:=ii (Wo x0);(lb (fun k1=>(lb (fun k2=>(lr 24 3 [1,1,1,1,1,1,0] 1 10 [(2,b),(3,(.bool (decide ((Wo x0)<=9999999))))] (sl Hu 39 [] (b8 [2,3]) a8 (bl 5 30) (tt k2 (tt k1 a))))) (fun k2=>(lr 24 3 [1,1,1,1,1,1,0] 1 10 [(2,b),(3,(.bool false))] (sl Hu 39 [] (b8 [2,3]) a8 (bl 5 6) (tt k2 (tt k1 a))))))) (fun k1=>(lr 24 3 [1,1,1,1,1,1,0] 1 10 [(2,b),(3,(.bool false))] (sl Hu 39 [] (b8 [2,3]) a8 (bl 5 0) (tt k1 a))))))))
theorem U5 (x0:List UInt8) (n:Nat) (vs:List BA) (h:Wx (MK x0) n (J6 x0)=.ret vs):B5 prog (Zy prog 88) (Yx prog 88 [(.str x0)] true []) vs:=by have:=Yo (Rr x0) n _ (Sv x0);rwa [h] at this
def Ut (s:List UInt8):Bool:=decide (s.length<=1000000)
theorem Tp (s:List UInt8) (h:Ut s=true): ∃N,Wx (MK s) N (J6 s)=.ret [.int .i64 (Vm s),.bool (EU s)]:=⟨0,by
 have ho:KG s=true:=h;unfold J6 Vm EU;by_cases g:8<s.length
 .rw [Df (by omega),Ah g];rfl
 .rw [EW (by omega),An g,Aj,Aj,Aj,Zd ho];cases Qc s with
  | false=>rfl
  | true=>
   by_cases g1: -9999999<=Wo s
   .rw [Ah g1];rfl
   .rw [An g1];rfl⟩
def Gd :List BA->Option (BA×Bool)
 | [.str s]=>some (.tup [.int .i64 (Vm s),.bool (EU s)],Ut s)
 | _=>none
theorem XG {S:BB} (hS:Zk prog S):Zk prog (S.with IG Gd):=Ci hS (by kernel_rfl) fun args v h=>by
 unfold Gd at h;split at h
 .rename_i s;simp only [Ac,Aa] at h;obtain ⟨rfl,ho⟩:=h;obtain ⟨N,hN⟩:=Tp s ho;exact ⟨_,_,.cons (.refl _) .nil,rfl,U5 s N _ hN,3,rfl⟩
 .cases h
def S5 :BB:=S4.with IG Gd
theorem H1 :Zk prog S5:=XG Hu
inductive Dn where
 | h0 (v6:List Int) (v7:Int)
def Fo (l0:List (List UInt8)) (x1:Int):Dn->BJ
 | .h0 v6 v7=>⟨⟨35,0,true⟩,none,(Yb prog 51 [1,1,1,0,1,0,0] 0),none,(Zy prog 17),⟨Kk [(0,(.dat l0.length (Zx l0))),(6,(.sla 0 1 0 v6.length (.un 1))),(7,(ii v7))],BV [⟨rows v6.length (Zx v6),3,some ⟨1,v6.length,(Zx v6)⟩⟩] 0,1,[],true⟩,[],.leaf⟩
def Ec :List (Option (List Nat)):=[some [0,6,7]]
def Ed :List (Option (List Nat)):=[]
def Kg (l0:List (List UInt8)) (x1:Int):Dn->Vu Dn
 | .h0 v6 v7=>(bif (decide (v7<(l0.length:Int))) then (bif ((decide (0<=v7/\v7<(l0.length:Int)))&&true) then (bif (Ut (rd l0 v7.toNat)) then (bif (!(EU (rd l0 v7.toNat))) then (.ret [.nils,(.bool false)]) else (bif (Nat.beq 1 1&&((decide (0+v6.length=v6.length))&&decide ((v6.length+1+1)*(8+1)<=Xr))) then (.to (.h0 (v6++[(Vm (rd l0 v7.toNat))]) (wrap .i64 (v7+1)))) else .stuck)) else .stuck) else .stuck) else (.ret [(.dat v6.length (Zx v6)),(.bool true)]))
def J8 (l0:List (List UInt8)) (x1:Int):Vu Dn:=(bif ((l0.length:Int) != x1) then (.ret [.nils,(.bool false)]) else (.to (.h0 ([]:List Int) 0)))
theorem Rs (l0:List (List UInt8)) (x1:Int): ∀s,Uu prog (Zy prog 51) (Fo l0 x1) (Fo l0 x1 s) (Kg l0 x1 s)
 | .h0 v6 v7=>(lb (fun k0=>(lo fun aT=>(lo fun bG=>let c:=ww bG (ww aT (tt k0 nn));(lb (fun k1=>(lr 35 51 [1,1,1,0,1,0,0,1,0,0,1,0,1,0,0] 1 17 [(4,.nils),(5,(.bool false))] (sl H1 37 [] (b8 [4,5]) a8 (bl 2 3) (tt k1 c)))) (fun k1=>(lo fun o0=>let a:=v6++[(Vm (rd l0 (tn v7)))];let b:=xL (v6.length+1) (v6++[(Vm (rd l0 (tn v7)))]).length;(sl H1 47 [] ⟨[2],[],Ec,Ed⟩ ⟨[(6,.len a.length)],[.rowed 1 a.length (Zx a)],[]⟩ (bl 2 1) (pp b (pp b (pp (xS (v6.length+1) (Zi (Zx v6) 0 v6.length 1 [(ii (Vm (rd l0 (tn v7))))]) (Zx (v6++[(Vm (rd l0 (tn v7)))]))) (pp (pp (xF (Zi (Zx v6) 0 v6.length 1 [(ii (Vm (rd l0 (tn v7))))])) nn) (ww o0 (tt k1 c))))))))))))) (fun k0=>(lr 35 3 [1,1,1,1,1,1,0] 1 17 [(4,(.dat v6.length (Zx v6))),(5,(.bool true))] (sl H1 16 [] ⟨[],[0],[some [4,5]],[]⟩ ⟨[(4,.frz v6.length v6.length (Zx v6) (Zx v6))],[],[]⟩ [false] (pp (xZ (Cr 1 1 0 v6.length v6.length (Zx v6)) v6.length (Zx v6)) (pp (xL v6.length v6.length) (pp (xS v6.length (Zx v6) (Zx v6)) (pp (fl v6 nn) (tt k0 nn)))))))))
theorem Sx (l0:List (List UInt8)) (x1:Int):Uu prog (Zy prog 51) (Fo l0 x1) (Yx prog 51 [(.dat l0.length (Zx l0)),(.int .i64 x1)] true []) (J8 l0 x1):=(lb (fun k0=>(lr 35 51 [1,0,1,0,0] 1 17 [(4,.nils),(5,(.bool false))] (sl H1 19 [] (b8 [4,5]) a8 [true] (tt k0 nn)))) (fun k0=>(sl H1 26 [(3,1,Zx ([]:List Int))] ⟨[0],[],Ec,Ed⟩ ⟨[(6,.grow 0 1)],[],[]⟩ [false] (pp (fl ([]:List Int) nn) (tt k0 nn)))))
theorem Ul (l0:List (List UInt8)) (x1:Int) (n:Nat) (vs:List BA) (h:Wx (Kg l0 x1) n (J8 l0 x1)=.ret vs):B5 prog (Zy prog 51) (Yx prog 51 [(.dat l0.length (Zx l0)),(.int .i64 x1)] true []) vs:=by have:=Yo (Rs l0 x1) n _ (Sx l0 x1);rwa [h] at this
def Cl (L:List (List UInt8)) (m:Int):Bool:=decide ((L.length:Int)=m)&&L.all EU
def Md (L:List (List UInt8)) (m:Int):List Int:=bif Cl L m then L.map Vm else []
def P9 (L:List (List UInt8)) (m:Int):Bool:=Cl L m
def Ld (L:List (List UInt8)) (m:Int):Bool:=decide (L.length<=1000000)&&L.all Ut
def Do (ok:Bool) (L:List Int):List BA:=bif ok then [.dat L.length (Zx L),.bool true] else [.nils,.bool false]
theorem Pa {L:List (List UInt8)} {m:Int} (hl:L.length<=1000000) (ho:L.all Ut=true): ∀(k i:Nat) (out:List Int),i+k=L.length->out.length<=i->
  ∃N,Wx (Kg L m) N (.to (.h0 out (i:Int)))=.ret (Do ((L.drop i).all EU) (out++(L.drop i).map Vm))
 | 0,i,out,h,hi=>by
  refine ⟨1,?_⟩;have e:Kg L m (.h0 out (i:Int))=.ret [.dat out.length (Zx out),.bool true]:=by unfold Kg;simp only [];rw [D2 (by omega),Aj]
  rw [Zs,AL (by omega),e,List.map_nil,List.append_nil];rfl
 | k+1,i,out,h,hi'=>by
  have hi:i<L.length:=by omega
  have w2:wrap .i64 ((i:Int)+1)=((i+1:Nat):Int):=We (by omega);have hr:Ut (rd L i)=true:=Av.1 ho _ (by rw [Je hi];exact AE hi);have e:Kg L m (.h0 out (i:Int))=bif !(EU (rd L i)) then .ret [.nils,.bool false] else .to (.h0 (out++[Vm (rd L i)]) ((i+1:Nat):Int)):=by
   unfold Kg;simp only [Uh,w2,hr,Ao];have hr:(Nat.beq 1 1&&((decide (0+out.length=out.length))&&decide ((out.length+1+1)*(8+1)<=Xr)))=true:=by rw [Ad,Ad];exact ⟨rfl,Ah (by omega),FI (by omega)⟩
   rw [Zd (DZ (by omega)),Zd (Bool.and_eq_true_iff.2 ⟨FR (by omega),rfl⟩),Zd hr]
  rw [FL hi,Bl,AO];cases g:EU (rd L i) with
  | false=>refine ⟨1,?_⟩;rw [Zs,e,g,Bool.not_false,Ao,Yh];rfl
  | true=>obtain ⟨N,hN⟩:=Pa (m:=m) hl ho k (i+1) (out++[Vm (rd L i)]) (by omega) (by rw [Al,AD];omega);refine ⟨N+1,?_⟩;rw [Zs,e,g,Bm,Aj,hN,Bn,AP];rfl
theorem Tq (L:List (List UInt8)) (m:Int) (h:Ld L m=true): ∃N,Wx (Kg L m) N (J8 L m)=.ret (Do (Cl L m) (L.map Vm)):=by
 unfold Ld at h;rw [Ad,Ap] at h;unfold J8 Cl;by_cases g:(L.length:Int)=m
 .rw [Ca g,Aj,Ah g,Bn];obtain ⟨N,hN⟩:=Pa (m:=m) h.1 h.2 L.length 0 [] (Az _) (Ai _);exact ⟨N,hN⟩
 .rw [F6 g,Ao,An g];exact ⟨0,rfl⟩
def Gc :List BA->Option (BA×Bool)
 | [a0,.int .i64 m]=>match D1 (List UInt8) a0 with
  | some (L0,g0,n0)=>some (.tup [.dat (Md L0 m).length (Zx (Md L0 m)),.bool (P9 L0 m)],CJ (List UInt8) n0 g0&&Ld L0 m)
  | _=>none
 | _=>none
theorem XH {S:BB} (hS:Zk prog S):Zk prog (S.with IF Gc):=JF hS (by kernel_rfl) fun args v h=>by
 unfold Gc at h;split at h
 .rename_i a0 m;split at h
  .rename_i L0 g0 n0 e0;simp only [Ac,Aa,Ad] at h;obtain ⟨rfl,ho0,hw⟩:=h;obtain ⟨N,hN⟩:=Tq L0 m hw;refine ⟨_,_,(.cons (asL_le e0 ho0) (.cons (.refl _) .nil)),?_,Ul L0 m N _ hN,3,?_⟩
   .unfold Do Md P9;cases Cl L0 m with
    | true=>exact fun ρ u hu=>hu
    | false=>exact fun ρ u hu=>Mf (.cons (MH Int) (CA.refl _)) ρ u hu
   .unfold Do;cases Cl L0 m <;> rfl
  .cases h
 .cases h
def S6 :BB:=S5.with IF Gc
theorem Yq :Zk prog S6:=XH H1
def Wz :List (List UInt8)->Option (List Int)
 | []=>some []
 | w::r=>match B2 w with
  | none=>none
  | some n=>match Wz r with
   | none=>none
   | some l=>some (n::l)
def Kj :List UInt8:=[113,117,97,100]
def BO :List Int->Option R7
 | [a,b,c,d,e,f,g]=>bif decide (0<=a)&&decide (a<=5) then some ⟨a,b,c,d,e,f,g⟩ else none
 | _=>none
def Cg (x:List UInt8):Option R7:=match Wa 32 [] x with
 | w::r=>bif decide (w=Kj)&&decide (r.length=7) then (match Wz r with
  | some l=>BO l
  | none=>none) else none
 | []=>none
def Xp :List (List UInt8)->Option (List R7)
 | []=>some []
 | x::l=>match Cg x with
  | none=>none
  | some r=>match Xp l with
   | none=>none
   | some m=>some (r::m)
def Qt (s:List UInt8):Option (List (List UInt8)):=match (Wa 10 [] s).getLast? with
 | some []=>some (Wa 10 [] s).dropLast
 | _=>none
def DB (s:List UInt8):List R7×Int:=bif decide (60000<s.length) then ([],4) else match Qt s with
 | none=>([],12)
 | some ls=>match Xp ls with
  | none=>([],12)
  | some L=>bif Vc L != 0 then ([],Vc L) else (L,0)
def GH (ok:Bool) (L:List R7) (e:Int):List BA:=bif ok then [.dat L.length (Zx L),.int .i64 e] else [.nils,.int .i64 e]
theorem Rk {l:List Int} {r:R7} (h:BO l=some r):0<=r.a/\r.a<=5:=by
 unfold BO at h;split at h
 .rename_i a b c d e f g;cases k:decide (0<=a)&&decide (a<=5) with
  | false=>rw [k] at h;cases h
  | true=>rw [k] at h;obtain rfl:=Ab h;rw [Ad,Ap,Ap] at k;exact k
 .cases h
theorem Ng {x:List UInt8} {r:R7} (h:Cg x=some r):0<=r.a/\r.a<=5:=by
 unfold Cg at h;split at h
 .rename_i w l _;cases k:decide (w=Kj)&&decide (l.length=7) with
  | false=>rw [k] at h;cases h
  | true=>
   rw [k,Ao] at h;cases hn:Wz l with
   | none=>rw [hn] at h;cases h
   | some m=>rw [hn] at h;exact Rk h
 .cases h
theorem OG : ∀(l:List (List UInt8)) (m:List R7),Xp l=some m->Yk m=true/\m.length=l.length
 | [],m,h=>by obtain rfl:=Ab h;exact ⟨rfl,rfl⟩
 | x::l,m,h=>by
  unfold Xp at h;cases hx:Cg x with
  | none=>rw [hx] at h;cases h
  | some r=>
   rw [hx] at h;cases hl:Xp l with
   | none=>rw [hl] at h;cases h
   | some k=>rw [hl] at h;obtain rfl:=Ab h;obtain ⟨h1,h2⟩:=OG l k hl;have hr:=Ng hx;refine ⟨?_,by rw [Aq,Aq,h2]⟩;unfold Yk at h1 ⊢;rw [Bl,h1,Ah hr.1,Ah (by omega)];rfl
end Go.Am
end
