/- A part of a proof: several texts in one. -/
import Derived.Test.YtpddoeiakpbkbaaGreatLk2
import Derived.Shelf.Sort.Plain
import Derived.Ground.Names2Prog
import Derived.Shelf.Slices.CompactI
import Derived.Shelf.Slices.SearchI
import Derived.Shelf.Slices.Cells
import Derived.Shelf.Slices.In.SortNone
import Derived.Shelf.SlSortCmp.WholeK
import Derived.Ground.SlsfProg
import Derived.Test.YtpddoeiakpbkbaaGreatProg
import Derived.Shelf.SlSortCmp.NoneTotal
set_option maxRecDepth 1000000
set_option maxHeartbeats 8000000
set_option linter.unusedVariables false
set_option linter.unusedSimpArgs false
noncomputable section
namespace Go.Proofs
open Go.Proofs.Tryz
open Go.Shelf
def Tryz.lays189_ren :Go.Shelf.Ren:=⟨fun | 189=>111 | 125=>151 | 257=>150 | 128=>174 | 129=>175 | 294=>165 | 295=>166 | 296=>167 | 297=>168 | 298=>169 | 299=>170 | 216=>171 | 300=>172 | 301=>173 | 328=>185 | 329=>186 | 330=>187 | 331=>188 | 332=>189 | 215=>190 | 343=>196 | n=>n,fun | 28=>125 | 3=>3 | 46=>191 | 0=>0 | 51=>216 | 53=>218 | 4=>4 | 183=>208 | 182=>207 | 131=>213 | 5=>5 | 9=>9 | 218=>228 | 222=>232 | 228=>241 | 229=>119 | n=>n,fun | n=>n⟩
theorem Tryz.lays189 :Go.Proofs.Lays.n189 prog Tryz.lays189_ren:={
 mixed:=by kernel_rfl
 f125:=Tryz.func151.trans (congrArg some (by kernel_rfl))
 f128:=Tryz.func174.trans (congrArg some (by kernel_rfl))
 f129:=Tryz.func175.trans (congrArg some (by kernel_rfl))
 f189:=Tryz.func111.trans (congrArg some (by kernel_rfl))
 f215:=Tryz.func190.trans (congrArg some (by kernel_rfl))
 f216:=Tryz.func171.trans (congrArg some (by kernel_rfl))
 f257:=Tryz.func150.trans (congrArg some (by kernel_rfl))
 f294:=Tryz.func165.trans (congrArg some (by kernel_rfl))
 f295:=Tryz.func166.trans (congrArg some (by kernel_rfl))
 f296:=Tryz.func167.trans (congrArg some (by kernel_rfl))
 f297:=Tryz.func168.trans (congrArg some (by kernel_rfl))
 f298:=Tryz.func169.trans (congrArg some (by kernel_rfl))
 f299:=Tryz.func170.trans (congrArg some (by kernel_rfl))
 f300:=Tryz.func172.trans (congrArg some (by kernel_rfl))
 f301:=Tryz.func173.trans (congrArg some (by kernel_rfl))
 f328:=Tryz.func185.trans (congrArg some (by kernel_rfl))
 f329:=Tryz.func186.trans (congrArg some (by kernel_rfl))
 f330:=Tryz.func187.trans (congrArg some (by kernel_rfl))
 f331:=Tryz.func188.trans (congrArg some (by kernel_rfl))
 f332:=Tryz.func189.trans (congrArg some (by kernel_rfl))
 f343:=Tryz.func196.trans (congrArg some (by kernel_rfl))
 t0:=Tryz.underlying0
 a0:=Tryz.isAgg0
 z0:=Tryz.sizeOf0
 v0:=Tryz.zeroValue0
 t3:=Tryz.underlying3
 a3:=Tryz.isAgg3
 z3:=Tryz.sizeOf3
 v3:=Tryz.zeroValue3
 t4:=Tryz.underlying4
 a4:=Tryz.isAgg4
 z4:=Tryz.sizeOf4
 v4:=Tryz.zeroValue4
 t5:=Tryz.underlying5
 a5:=Tryz.isAgg5
 z5:=Tryz.sizeOf5
 v5:=Tryz.zeroValue5
 t9:=Tryz.underlying9
 a9:=Tryz.isAgg9
 z9:=Tryz.sizeOf9
 v9:=Tryz.zeroValue9
 t28:=Tryz.underlying125
 a28:=Tryz.isAgg125
 z28:=Tryz.sizeOf125
 v28:=Tryz.zeroValue125
 t46:=Tryz.underlying191
 a46:=Tryz.isAgg191
 z46:=Tryz.sizeOf191
 v46:=Tryz.zeroValue191
 t51:=Tryz.underlying216
 a51:=Tryz.isAgg216
 z51:=Tryz.sizeOf216
 v51:=Tryz.zeroValue216
 t53:=Tryz.underlying218
 a53:=Tryz.isAgg218
 z53:=Tryz.sizeOf218
 v53:=Tryz.zeroValue218
 t131:=Tryz.underlying213
 a131:=Tryz.isAgg213
 z131:=Tryz.sizeOf213
 v131:=Tryz.zeroValue213
 t182:=Tryz.underlying207
 a182:=Tryz.isAgg207
 z182:=Tryz.sizeOf207
 v182:=Tryz.zeroValue207
 t183:=Tryz.underlying208
 a183:=Tryz.isAgg208
 z183:=Tryz.sizeOf208
 v183:=Tryz.zeroValue208
 t218:=Tryz.underlying228
 a218:=Tryz.isAgg228
 z218:=Tryz.sizeOf228
 v218:=Tryz.zeroValue228
 t222:=Tryz.underlying232
 a222:=Tryz.isAgg232
 z222:=Tryz.sizeOf232
 v222:=Tryz.zeroValue232
 t228:=Tryz.underlying241
 a228:=Tryz.isAgg241
 z228:=Tryz.sizeOf241
 v228:=Tryz.zeroValue241
 t229:=Tryz.underlying119
 a229:=Tryz.isAgg119
 z229:=Tryz.sizeOf119
 v229:=Tryz.zeroValue119}
open Go.Sort Go.RowKit in
theorem Tryz.slices_Sort_int (blk off cap:Nat) (zs:List Int) (w:World) (hH:Holds (Value.int .i64) w blk off zs.toArray) (fC:blk<w.heap.size) (hsz:zs.length<4611686018427387904):
  Calls prog 111 #[.slice (some ⟨blk,off,none⟩) zs.length cap] w fun e w'=>
   e=.returned (.tuple #[])∧ ∃n os,w'=grow (putRow (Value.int .i64) (Sort.ahead w n) blk off (zs.mergeSort fun x y=>decide (x≤y)).toArray) os:=Any.slices_Sort_int Tryz.lays189 blk off cap zs w hH fC hsz
def Tryz.laysNm220_ren :Go.Shelf.Ren:=⟨fun | 20=>113 | n=>n,fun | 22=>125 | 3=>3 | 4=>4 | 0=>0 | n=>n,fun | n=>n⟩
theorem Tryz.laysNm220 :Go.Proofs.Lays2.n20 prog Tryz.laysNm220_ren:={
 mixed:=by kernel_rfl
 f20:=Tryz.func113.trans (congrArg some (by kernel_rfl))
 t0:=Tryz.underlying0
 a0:=Tryz.isAgg0
 z0:=Tryz.sizeOf0
 v0:=Tryz.zeroValue0
 t3:=Tryz.underlying3
 a3:=Tryz.isAgg3
 z3:=Tryz.sizeOf3
 v3:=Tryz.zeroValue3
 t4:=Tryz.underlying4
 a4:=Tryz.isAgg4
 z4:=Tryz.sizeOf4
 v4:=Tryz.zeroValue4
 t22:=Tryz.underlying125
 a22:=Tryz.isAgg125
 z22:=Tryz.sizeOf125
 v22:=Tryz.zeroValue125
 i3:=by kernel_rfl}
open Go.RowKit Go.Lib Go.Sort in
theorem Tryz.slices_Compact_int (blk off cap:Nat) (zs:List Int) (w:World) (hH:Holds (Value.int .i64) w blk off zs.toArray) (hsz:zs.length≤9223372036854775807) (dW:zs.length≤cap):
  Calls prog 113 #[.slice (some ⟨blk,off,none⟩) zs.length cap] w fun e w'=>e=.returned (.slice (some ⟨blk,off,none⟩) (Lib.compact zs).length cap)∧ ∃q,w'=putRow (Value.int .i64) (Sort.ahead w q) blk off (Lib.compact zs++List.replicate (zs.length - (Lib.compact zs).length) 0).toArray :=Any.slices_Compact_int Tryz.laysNm220 blk off cap zs w hH hsz dW
open Go.RowKit Go.Lib Go.Sort in
theorem Tryz.slices_Compact_int_empty (a:Option Addr) (cap:Nat) (w:World):
  Calls prog 113 #[.slice a 0 cap] w fun e w'=>e=.returned (.slice a 0 cap)∧w'=w:=Any.slices_Compact_int_empty Tryz.laysNm220 a cap w
open Go.RowKit Go.Sort in
theorem Tryz.slices_Sort_int_none (p:Option Addr) (cap:Nat) (w:World):
  Calls prog 111 #[.slice p 0 cap] w fun e w'=>e=.returned (.tuple #[])∧w'=w:=Any.slices_Sort_int_none Tryz.lays189 p cap w
def Tryz.sortEnd_ren :Go.Shelf.Ren:=⟨fun | 6=>193 | 15=>151 | 14=>197 | 28=>174 | 29=>175 | 20=>199 | 21=>200 | 22=>201 | 23=>202 | 24=>203 | 25=>204 | 26=>205 | 27=>206 | 46=>207 | 47=>186 | 48=>187 | 49=>208 | 50=>209 | 57=>210 | n=>n,fun | 22=>236 | 24=>227 | 25=>238 | 3=>3 | 39=>191 | 0=>0 | 53=>216 | 55=>218 | 4=>4 | 46=>208 | 45=>207 | 50=>213 | 5=>5 | 9=>9 | 66=>228 | 70=>232 | 76=>241 | 77=>119 | n=>n,fun | n=>n⟩
theorem Tryz.sortEnd :Go.Proofs.SlLaysF0.n6 prog Tryz.sortEnd_ren:={
 mixed:=by kernel_rfl
 f6:=⟨Tryz.f193.name,by decide,Tryz.func193.trans (congrArg some (by kernel_rfl))⟩
 f14:=⟨Tryz.f197.name,by decide,Tryz.func197.trans (congrArg some (by kernel_rfl))⟩
 f15:=Tryz.func151.trans (congrArg some (by kernel_rfl))
 f20:=⟨Tryz.f199.name,by decide,Tryz.func199.trans (congrArg some (by kernel_rfl))⟩
 f21:=⟨Tryz.f200.name,by decide,Tryz.func200.trans (congrArg some (by kernel_rfl))⟩
 f22:=⟨Tryz.f201.name,by decide,Tryz.func201.trans (congrArg some (by kernel_rfl))⟩
 f23:=⟨Tryz.f202.name,by decide,Tryz.func202.trans (congrArg some (by kernel_rfl))⟩
 f24:=⟨Tryz.f203.name,by decide,Tryz.func203.trans (congrArg some (by kernel_rfl))⟩
 f25:=⟨Tryz.f204.name,by decide,Tryz.func204.trans (congrArg some (by kernel_rfl))⟩
 f26:=⟨Tryz.f205.name,by decide,Tryz.func205.trans (congrArg some (by kernel_rfl))⟩
 f27:=⟨Tryz.f206.name,by decide,Tryz.func206.trans (congrArg some (by kernel_rfl))⟩
 f28:=Tryz.func174.trans (congrArg some (by kernel_rfl))
 f29:=Tryz.func175.trans (congrArg some (by kernel_rfl))
 f46:=⟨Tryz.f207.name,by decide,Tryz.func207.trans (congrArg some (by kernel_rfl))⟩
 f47:=Tryz.func186.trans (congrArg some (by kernel_rfl))
 f48:=Tryz.func187.trans (congrArg some (by kernel_rfl))
 f49:=⟨Tryz.f208.name,by decide,Tryz.func208.trans (congrArg some (by kernel_rfl))⟩
 f50:=⟨Tryz.f209.name,by decide,Tryz.func209.trans (congrArg some (by kernel_rfl))⟩
 f57:=⟨Tryz.f210.name,by decide,Tryz.func210.trans (congrArg some (by kernel_rfl))⟩
 t0:=Tryz.underlying0
 a0:=Tryz.isAgg0
 z0:=Tryz.sizeOf0
 v0:=Tryz.zeroValue0
 t3:=Tryz.underlying3
 a3:=Tryz.isAgg3
 z3:=Tryz.sizeOf3
 v3:=Tryz.zeroValue3
 t4:=Tryz.underlying4
 a4:=Tryz.isAgg4
 z4:=Tryz.sizeOf4
 v4:=Tryz.zeroValue4
 t5:=Tryz.underlying5
 a5:=Tryz.isAgg5
 z5:=Tryz.sizeOf5
 v5:=Tryz.zeroValue5
 t9:=Tryz.underlying9
 a9:=Tryz.isAgg9
 z9:=Tryz.sizeOf9
 v9:=Tryz.zeroValue9
 t22:=Tryz.underlying236
 a22:=Tryz.isAgg236
 z22:=Tryz.sizeOf236
 v22:=Tryz.zeroValue236
 t25:=Tryz.underlying238
 a25:=Tryz.isAgg238
 z25:=Tryz.sizeOf238
 v25:=Tryz.zeroValue238
 t39:=Tryz.underlying191
 a39:=Tryz.isAgg191
 z39:=Tryz.sizeOf191
 v39:=Tryz.zeroValue191
 t45:=Tryz.underlying207
 a45:=Tryz.isAgg207
 z45:=Tryz.sizeOf207
 v45:=Tryz.zeroValue207
 t46:=Tryz.underlying208
 a46:=Tryz.isAgg208
 z46:=Tryz.sizeOf208
 v46:=Tryz.zeroValue208
 t50:=Tryz.underlying213
 a50:=Tryz.isAgg213
 z50:=Tryz.sizeOf213
 v50:=Tryz.zeroValue213
 t53:=Tryz.underlying216
 a53:=Tryz.isAgg216
 z53:=Tryz.sizeOf216
 v53:=Tryz.zeroValue216
 t55:=Tryz.underlying218
 a55:=Tryz.isAgg218
 z55:=Tryz.sizeOf218
 v55:=Tryz.zeroValue218
 t66:=Tryz.underlying228
 a66:=Tryz.isAgg228
 z66:=Tryz.sizeOf228
 v66:=Tryz.zeroValue228
 t70:=Tryz.underlying232
 a70:=Tryz.isAgg232
 z70:=Tryz.sizeOf232
 v70:=Tryz.zeroValue232
 t76:=Tryz.underlying241
 a76:=Tryz.isAgg241
 z76:=Tryz.sizeOf241
 v76:=Tryz.zeroValue241
 t77:=Tryz.underlying119
 a77:=Tryz.isAgg119
 z77:=Tryz.sizeOf119
 v77:=Tryz.zeroValue119}
open Go.RowKit Go.Lib Go.Sort
theorem Tryz.cmpEnd (a b c a' b' c':Int) (h: -1000000000≤a∧a≤1000000000) (h': -1000000000≤a'∧a'≤1000000000) (W:World):
  Calls prog 194 #[.agg #[.int .i64 a,.int .i64 b,.int .i64 c],.agg #[.int .i64 a',.int .i64 b',.int .i64 c']] W fun e w'=>e=.returned (.int .i64 (a - a'))∧ ∃q os',w'=grow (W.drewN q) os':=by
 go_enter Tryz.func194,Tryz.ntmps194
 go_wp2
 go_ret
 exact ⟨rfl,0,_,by rw [alloc_eq_grow,alloc_eq_grow,grow_grow];rfl⟩
end Go.Proofs
namespace Go.Am
open IntKind (wrap)
open Go.Proofs.Tryz
open Go.Proofs
inductive rjsS where
 | h0 (v9:List R6) (v10:List R4) (v11:Int) (v12:Int)
 | h1 (v9:List R6) (v10:List R4) (v11:Int) (v12:Int) (v13:List R4) (v15:Int)
 | h2 (v9:List R6) (v10:List R4) (v11:Int) (v12:Int) (v14:Int)
abbrev w4t (l1:List R6) (l2:List R6) (v12:Int):=(rd (Vu (cvT l1) (cvT l2)) (tn v12))
abbrev x0k (v9:List R6) (v14:Int) (l1:List R6) (l2:List R6) (v12:Int):=(v9.set (0+(tn v14)) (R6.mk (rd v9 (0+(tn v14))).a (rd v9 (0+(tn v14))).b (rd v9 (0+(tn v14))).c (rd v9 (0+(tn v14))).d (rd v9 (0+(tn v14))).e (rd (Vu (cvT l1) (cvT l2)) (tn (wr (v12+1))))))
abbrev x0j (v9:List R6) (v13:List R4) (v15:Int) (l1:List R6) (l2:List R6) (v12:Int):=(v9++[(R6.mk (rd v13 (tn v15)).a (rd v13 (tn v15)).b (w4t l1 l2 v12) (rd v13 (tn v15)).c (rd v13 (tn v15)).d (rd (Vu (cvT l1) (cvT l2)) (tn (wr (v12+1)))))])
abbrev Vt (l1:List R6) (l2:List R6) (v12:Int):=(atV (cvT l1) (w4t l1 l2 v12))
abbrev Jy (l2:List R6) (l1:List R6) (v12:Int):=(atV (cvT l2) (w4t l1 l2 v12))
abbrev u9d (v9:List R6) (v13:List R4) (v15:Int) (l1:List R6) (l2:List R6) (v12:Int):=(Zr (Zz v9) 0 v9.length 6 [(ii (rd v13 (tn v15)).a),(ii (rd v13 (tn v15)).b),(ii (w4t l1 l2 v12)),(ii (rd v13 (tn v15)).c),(ii (rd v13 (tn v15)).d),(ii (rd (Vu (cvT l1) (cvT l2)) (tn (wr (v12+1)))))])
def v4r (l1:List R6) (l2:List R6):AVal:=(.dat (Vu (cvT l1) (cvT l2)).length (Zz (Vu (cvT l1) (cvT l2))))
def rjsC (x0:Int) (l1:List R6) (l2:List R6):rjsS→Cfg
 | .h0 v9 v10 v11 v12=>⟨⟨137,0,true⟩,none,(Zg prog 77 [1,1,1,1,1,0,1,0,0] 0),none,(Zy prog 10),⟨Yk [(0,(ii x0)),(1,(.dat l1.length (Zz l1))),(2,(.dat l2.length (Zz l2))),(8,(v4r l1 l2)),(9,(.sla 0 6 0 v9.length (.un 6))),(10,(.dat v10.length (Zz v10))),(11,(ii v11)),(12,(ii v12))],Vv [⟨Ym v9.length (Zz v9),57,some ⟨6,v9.length,(Zz v9)⟩⟩] 0,1,[],true⟩,[],.leaf⟩
 | .h1 v9 v10 v11 v12 v13 v15=>⟨⟨137,0,true⟩,none,(Zg prog 77 [1,1,1,1,1,0,1,0,0,1,0,0,1,1,1,1,1,0,0] 0),none,(Zy prog 10),⟨Yk [(0,(ii x0)),(1,(.dat l1.length (Zz l1))),(2,(.dat l2.length (Zz l2))),(8,(v4r l1 l2)),(9,(.sla 0 6 0 v9.length (.un 6))),(10,(.dat v10.length (Zz v10))),(11,(ii v11)),(12,(ii v12)),(13,(.dat v13.length (Zz v13))),(15,(ii v15))],Vv [⟨Ym v9.length (Zz v9),57,some ⟨6,v9.length,(Zz v9)⟩⟩] 0,1,[],true⟩,[],.leaf⟩
 | .h2 v9 v10 v11 v12 v14=>⟨⟨137,0,true⟩,none,(Zg prog 77 [1,1,1,1,1,0,1,0,0,1,0,0,1,1,0,1,0,0,1,0,0] 0),none,(Zy prog 10),⟨Yk [(0,(ii x0)),(1,(.dat l1.length (Zz l1))),(2,(.dat l2.length (Zz l2))),(8,(v4r l1 l2)),(9,(.sla 0 6 0 v9.length (.un 6))),(10,(.dat v10.length (Zz v10))),(11,(ii v11)),(12,(ii v12)),(14,(ii v14))],Vv [⟨Ym v9.length (Zz v9),57,some ⟨6,v9.length,(Zz v9)⟩⟩] 0,1,[],true⟩,[],.leaf⟩
def j4t :List (Option (List Nat)):=[some [0,1,2,8,9,10,11,12]]
def j4v :List (Option (List Nat)):=[]
def j4s :List (Option (List Nat)):=[some [0,1,2,8,9,10,11,12,13,15]]
def j4u :List (Option (List Nat)):=[]
def rjsN2 :List (Option (List Nat)):=[some [0,1,2,8,9,10,11,12,14]]
def rjsM2 :List (Option (List Nat)):=[]
def Ux (x0:Int) (l1:List R6) (l2:List R6):rjsS→Xw rjsS
 | .h0 v9 v10 v11 v12=>(bif (decide ((wrap .i64 (v12+1))<(((Vu (cvT l1) (cvT l2)).length :Nat):Int))) then (bif (z6k (cvT l1) (rd (Vu (cvT l1) (cvT l2)) v12.toNat)) then (bif ((decide (0≤v12∧v12<(((Vu (cvT l1) (cvT l2)).length :Nat):Int)))&&true) then (bif (z6k (cvT l2) (rd (Vu (cvT l1) (cvT l2)) v12.toNat)) then (bif (z2e x0 (cvT (atV (cvT l1) (rd (Vu (cvT l1) (cvT l2)) v12.toNat))) (cvT (atV (cvT l2) (rd (Vu (cvT l1) (cvT l2)) v12.toNat)))) then (bif (decide ((((joV x0 (cvT (atV (cvT l1) (rd (Vu (cvT l1) (cvT l2)) v12.toNat))) (cvT (atV (cvT l2) (rd (Vu (cvT l1) (cvT l2)) v12.toNat)))).length :Nat):Int)>400)) then (.ret [.nils,(.bool false)]) else (bif (z2e 2 (cvT (atV (cvT l1) (rd (Vu (cvT l1) (cvT l2)) v12.toNat))) ([]:List R4)) then (bif (decide ((((joV 2 (cvT (atV (cvT l1) (rd (Vu (cvT l1) (cvT l2)) v12.toNat))) ([]:List R4)).length :Nat):Int)>400)) then (.ret [.nils,(.bool false)]) else (bif (z2e 2 (cvT (atV (cvT l2) (rd (Vu (cvT l1) (cvT l2)) v12.toNat))) ([]:List R4)) then (bif (decide ((((joV 2 (cvT (atV (cvT l2) (rd (Vu (cvT l1) (cvT l2)) v12.toNat))) ([]:List R4)).length :Nat):Int)>400)) then (.ret [.nils,(.bool false)]) else (bif (decide (v12>0)) then (bif (Wv (cvT (joV x0 (cvT (atV (cvT l1) (rd (Vu (cvT l1) (cvT l2)) v12.toNat))) (cvT (atV (cvT l2) (rd (Vu (cvT l1) (cvT l2)) v12.toNat))))) (cvT v10)) then (bif (Vh (cvT (joV x0 (cvT (atV (cvT l1) (rd (Vu (cvT l1) (cvT l2)) v12.toNat))) (cvT (atV (cvT l2) (rd (Vu (cvT l1) (cvT l2)) v12.toNat))))) (cvT v10)) then (.to (.h2 v9 v10 v11 v12 v11)) else (.to (.h1 v9 (joV x0 (cvT (atV (cvT l1) (rd (Vu (cvT l1) (cvT l2)) v12.toNat))) (cvT (atV (cvT l2) (rd (Vu (cvT l1) (cvT l2)) v12.toNat)))) (v9.length:Int) v12 (joV x0 (cvT (atV (cvT l1) (rd (Vu (cvT l1) (cvT l2)) v12.toNat))) (cvT (atV (cvT l2) (rd (Vu (cvT l1) (cvT l2)) v12.toNat)))) 0))) else .stuck) else (.to (.h1 v9 (joV x0 (cvT (atV (cvT l1) (rd (Vu (cvT l1) (cvT l2)) v12.toNat))) (cvT (atV (cvT l2) (rd (Vu (cvT l1) (cvT l2)) v12.toNat)))) (v9.length:Int) v12 (joV x0 (cvT (atV (cvT l1) (rd (Vu (cvT l1) (cvT l2)) v12.toNat))) (cvT (atV (cvT l2) (rd (Vu (cvT l1) (cvT l2)) v12.toNat)))) 0)))) else .stuck)) else .stuck)) else .stuck) else .stuck) else .stuck) else .stuck) else (.ret [(.dat v9.length (Zz v9)),(.bool (decide ((v9.length:Int)≤400)))]))
 | .h1 v9 v10 v11 v12 v13 v15=>(bif (decide (v15<(v13.length:Int))) then (bif ((decide (0≤v12∧v12<(((Vu (cvT l1) (cvT l2)).length :Nat):Int)))&&true) then (bif ((decide (0≤v15∧v15<(v13.length:Int)))&&true) then (bif ((decide (0≤(wrap .i64 (v12+1))∧(wrap .i64 (v12+1))<(((Vu (cvT l1) (cvT l2)).length :Nat):Int)))&&true) then (bif (Nat.beq 6 6&&((decide (0+v9.length=v9.length))&&decide ((v9.length+1+1)*(48+1)≤Jo))) then (.to (.h1 (v9++[(R6.mk (rd v13 v15.toNat).a (rd v13 v15.toNat).b (rd (Vu (cvT l1) (cvT l2)) v12.toNat) (rd v13 v15.toNat).c (rd v13 v15.toNat).d (rd (Vu (cvT l1) (cvT l2)) (Int.toNat (wrap .i64 (v12+1)))))]) v10 v11 v12 v13 (wrap .i64 (v15+1)))) else .stuck) else .stuck) else .stuck) else .stuck) else (.to (.h0 v9 v10 v11 (wrap .i64 (v12+1)))))
 | .h2 v9 v10 v11 v12 v14=>(bif (decide (v14<(v9.length:Int))) then (bif ((decide (0≤(wrap .i64 (v12+1))∧(wrap .i64 (v12+1))<(((Vu (cvT l1) (cvT l2)).length :Nat):Int)))&&true) then (bif ((decide (0≤v14∧v14<(v9.length:Int)))&&true) then (bif (decide ((0+v14.toNat)<v9.length)) then (.to (.h2 (v9.set (0+v14.toNat) (R6.mk (rd v9 (0+v14.toNat)).a (rd v9 (0+v14.toNat)).b (rd v9 (0+v14.toNat)).c (rd v9 (0+v14.toNat)).d (rd v9 (0+v14.toNat)).e (rd (Vu (cvT l1) (cvT l2)) (Int.toNat (wrap .i64 (v12+1)))))) v10 v11 v12 (wrap .i64 (v14+1)))) else .stuck) else .stuck) else .stuck) else (.to (.h0 v9 v10 v11 (wrap .i64 (v12+1)))))
def y4l (x0:Int) (l1:List R6) (l2:List R6):Xw rjsS:=(bif (z9z (cvT l1) (cvT l2)) then (.to (.h0 ([]:List R6) ([]:List R4) 0 0)) else .stuck)
theorem w8t (x0:Int) (l1:List R6) (l2:List R6): ∀s,Xv prog (Zy prog 77) (rjsC x0 l1 l2) (rjsC x0 l1 l2 s) (Ux x0 l1 l2 s)
 | .h0 v9 v10 v11 v12=>(lb (fun k0=>(lo fun aI=>(lo fun bG=>(lo fun cP=>(lo fun dH=>(lb (fun k1=>(lr 137 77 [1,1,1,1,1,0,1,0,0,1,0,0,1,0,1,0,0] 1 10 [(6,.nils),(7,(.bool false))] (sl y2c 50 [] ⟨[],[],[some [6,7]],[]⟩ ⟨[],[],[]⟩ (trs 20 []) (tt k1 (pp (pp (xI R4 (Vt l1 l2 v12).length (Zz (Vt l1 l2 v12))) (pp (xI R4 (Jy l2 l1 v12).length (Zz (Jy l2 l1 v12))) (xw dH))) (pp (pp (xr l2) (xw cP)) (ww bG (pp (pp (xr l1) (xw aI)) (ww bG (tt k0 nn)))))))))) (fun k1=>(lo fun bX=>(lb (fun k2=>(lr 137 77 [1,1,1,1,1,0,1,0,0,1,0,0,1,0,1,0,0] 1 10 [(6,.nils),(7,(.bool false))] (sl y2c 50 [] ⟨[],[],[some [6,7]],[]⟩ ⟨[],[],[]⟩ (bl 20 1047553) (tt k2 (pp (pp (xI R4 (Vt l1 l2 v12).length (Zz (Vt l1 l2 v12))) (pp (xI R4 0 (fun _=>[])) (xw bX))) (pp (pp (xr l1) (xw aI)) (ww bG (tt k1 (pp (pp (xI R4 (Vt l1 l2 v12).length (Zz (Vt l1 l2 v12))) (pp (xI R4 (Jy l2 l1 v12).length (Zz (Jy l2 l1 v12))) (xw dH))) (pp (pp (xr l2) (xw cP)) (ww bG (pp (pp (xr l1) (xw aI)) (ww bG (tt k0 nn)))))))))))))) (fun k2=>(lo fun cA=>(lb (fun k3=>(lr 137 77 [1,1,1,1,1,0,1,0,0,1,0,0,1,0,1,0,0] 1 10 [(6,.nils),(7,(.bool false))] (sl y2c 50 [] ⟨[],[],[some [6,7]],[]⟩ ⟨[],[],[]⟩ (bl 20 524289) (tt k3 (pp (pp (xI R4 (Jy l2 l1 v12).length (Zz (Jy l2 l1 v12))) (pp (xI R4 0 (fun _=>[])) (xw cA))) (pp (pp (xr l2) (xw cP)) (ww bG (tt k2 (pp (pp (xI R4 (Vt l1 l2 v12).length (Zz (Vt l1 l2 v12))) (pp (xI R4 0 (fun _=>[])) (xw bX))) (pp (pp (xr l1) (xw aI)) (ww bG (tt k1 (pp (pp (xI R4 (Vt l1 l2 v12).length (Zz (Vt l1 l2 v12))) (pp (xI R4 (Jy l2 l1 v12).length (Zz (Jy l2 l1 v12))) (xw dH))) (pp (pp (xr l2) (xw cP)) (ww bG (pp (pp (xr l1) (xw aI)) (ww bG (tt k0 nn)))))))))))))))))) (fun k3=>(lb (fun k4=>(lo fun cL=>(lb (fun k5=>(sl y2c 66 [] ⟨[0],[],rjsN2,rjsM2⟩ ⟨[],[],[]⟩ (bl 24 15728641) (pp (fl v9 nn) (tt k5 (pp (pp (xI R4 (joV x0 (cvT (Vt l1 l2 v12)) (cvT (Jy l2 l1 v12))).length (Zz (joV x0 (cvT (Vt l1 l2 v12)) (cvT (Jy l2 l1 v12))))) (pp (xr v10) (xw cL))) (tt k4 (tt k3 (pp (pp (xI R4 (Jy l2 l1 v12).length (Zz (Jy l2 l1 v12))) (pp (xI R4 0 (fun _=>[])) (xw cA))) (pp (pp (xr l2) (xw cP)) (ww bG (tt k2 (pp (pp (xI R4 (Vt l1 l2 v12).length (Zz (Vt l1 l2 v12))) (pp (xI R4 0 (fun _=>[])) (xw bX))) (pp (pp (xr l1) (xw aI)) (ww bG (tt k1 (pp (pp (xI R4 (Vt l1 l2 v12).length (Zz (Vt l1 l2 v12))) (pp (xI R4 (Jy l2 l1 v12).length (Zz (Jy l2 l1 v12))) (xw dH))) (pp (pp (xr l2) (xw cP)) (ww bG (pp (pp (xr l1) (xw aI)) (ww bG (tt k0 nn))))))))))))))))))))) (fun k5=>(sl y2c 73 [] ⟨[0],[],j4s,j4u⟩ ⟨[],[],[]⟩ (bl 24 7340033) (pp (fl v9 nn) (tt k5 (pp (pp (xI R4 (joV x0 (cvT (Vt l1 l2 v12)) (cvT (Jy l2 l1 v12))).length (Zz (joV x0 (cvT (Vt l1 l2 v12)) (cvT (Jy l2 l1 v12))))) (pp (xr v10) (xw cL))) (tt k4 (tt k3 (pp (pp (xI R4 (Jy l2 l1 v12).length (Zz (Jy l2 l1 v12))) (pp (xI R4 0 (fun _=>[])) (xw cA))) (pp (pp (xr l2) (xw cP)) (ww bG (tt k2 (pp (pp (xI R4 (Vt l1 l2 v12).length (Zz (Vt l1 l2 v12))) (pp (xI R4 0 (fun _=>[])) (xw bX))) (pp (pp (xr l1) (xw aI)) (ww bG (tt k1 (pp (pp (xI R4 (Vt l1 l2 v12).length (Zz (Vt l1 l2 v12))) (pp (xI R4 (Jy l2 l1 v12).length (Zz (Jy l2 l1 v12))) (xw dH))) (pp (pp (xr l2) (xw cP)) (ww bG (pp (pp (xr l1) (xw aI)) (ww bG (tt k0 nn)))))))))))))))))))))))) (fun k4=>(sl y2c 73 [] ⟨[0],[],j4s,j4u⟩ ⟨[],[],[]⟩ (bl 24 1) (pp (fl v9 nn) (tt k4 (tt k3 (pp (pp (xI R4 (Jy l2 l1 v12).length (Zz (Jy l2 l1 v12))) (pp (xI R4 0 (fun _=>[])) (xw cA))) (pp (pp (xr l2) (xw cP)) (ww bG (tt k2 (pp (pp (xI R4 (Vt l1 l2 v12).length (Zz (Vt l1 l2 v12))) (pp (xI R4 0 (fun _=>[])) (xw bX))) (pp (pp (xr l1) (xw aI)) (ww bG (tt k1 (pp (pp (xI R4 (Vt l1 l2 v12).length (Zz (Vt l1 l2 v12))) (pp (xI R4 (Jy l2 l1 v12).length (Zz (Jy l2 l1 v12))) (xw dH))) (pp (pp (xr l2) (xw cP)) (ww bG (pp (pp (xr l1) (xw aI)) (ww bG (tt k0 nn))))))))))))))))))))))))))))))))) (fun k0=>(lr 137 3 [1,1,1,1,0] 1 10 [(6,(.dat v9.length (Zz v9))),(7,(.bool (decide ((v9.length:Int)≤400))))] (sl y2c 20 [] ⟨[],[0],[some [6,7]],[]⟩ ⟨[(6,.frz v9.length v9.length (Zz v9) (Zz v9))],[],[]⟩ [false] (pp (xZ (z4o 6 6 0 v9.length v9.length (Zz v9)) v9.length (Zz v9)) (pp (xL v9.length v9.length) (pp (xS v9.length (Zz v9) (Zz v9)) (pp (fl v9 nn) (tt k0 nn)))))))))
 | .h1 v9 v10 v11 v12 v13 v15=>(lb (fun k0=>(lo fun o0=>(lo fun o1=>(lo fun o2=>(lo fun o3=>(sl y2c 20 [] ⟨[2],[],j4s,j4u⟩ ⟨[(9,.len (x0j v9 v13 v15 l1 l2 v12).length)],[.rowed 6 (x0j v9 v13 v15 l1 l2 v12).length (Zz (x0j v9 v13 v15 l1 l2 v12))],[]⟩ [true] (pp (xL (v9.length+1) (x0j v9 v13 v15 l1 l2 v12).length) (pp (xL (v9.length+1) (x0j v9 v13 v15 l1 l2 v12).length) (pp (xS (v9.length+1) (u9d v9 v13 v15 l1 l2 v12) (Zz (x0j v9 v13 v15 l1 l2 v12))) (pp (pp (xF (u9d v9 v13 v15 l1 l2 v12)) nn) (ww o3 (ww o2 (ww o1 (ww o1 (ww o0 (ww o1 (ww o1 (tt k0 nn)))))))))))))))))) (fun k0=>(sl y2c 17 [] ⟨[0],[],j4t,j4v⟩ ⟨[],[],[]⟩ [false] (pp (fl v9 nn) (tt k0 nn)))))
 | .h2 v9 v10 v11 v12 v14=>(lb (fun k0=>(lo fun o0=>(lo fun o1=>(lo fun o2=>(sl y2c 32 [] ⟨[0],[],rjsN2,rjsM2⟩ ⟨[(9,.len (x0k v9 v14 l1 l2 v12).length)],[.rowed 6 (x0k v9 v14 l1 l2 v12).length (Zz (x0k v9 v14 l1 l2 v12))],[]⟩ [true] (pp (xL v9.length (x0k v9 v14 l1 l2 v12).length) (pp (xL v9.length (x0k v9 v14 l1 l2 v12).length) (pp (xS v9.length (Xm (Zz v9) (0+(tn v14)) 5 [(ii (rd (Vu (cvT l1) (cvT l2)) (tn (wr (v12+1)))))]) (Zz (x0k v9 v14 l1 l2 v12))) (pp (pp (xF (Xm (Zz v9) (0+(tn v14)) 5 [(ii (rd (Vu (cvT l1) (cvT l2)) (tn (wr (v12+1)))))])) nn) (ww o2 (ww o1 (ww o0 (tt k0 nn))))))))))))) (fun k0=>(sl y2c 17 [] ⟨[0],[],j4t,j4v⟩ ⟨[],[],[]⟩ [false] (pp (fl v9 nn) (tt k0 nn)))))
theorem x9p (x0:Int) (l1:List R6) (l2:List R6):Xv prog (Zy prog 77) (rjsC x0 l1 l2) (Za prog 77 [(.int .i64 x0),(.dat l1.length (Zz l1)),(.dat l2.length (Zz l2))] true []) (y4l x0 l1 l2):=(lo fun o0=>(sl y2c 31 [(57,6,Zz ([]:List R6))] ⟨[0],[],j4t,j4v⟩ ⟨[(9,.grow 0 6),(10,.list 0 (Zz ([]:List R4)))],[],[]⟩ [] (pp (fl ([]:List R6) nn) (pp (pp (xr l1) (pp (xr l2) (xw o0))) nn))))
theorem u2f (x0:Int) (l1:List R6) (l2:List R6) (n:Nat) (vs:List AVal) (h:Zt (Ux x0 l1 l2) n (y4l x0 l1 l2)=.ret vs):Uv prog (Zy prog 77) (Za prog 77 [(.int .i64 x0),(.dat l1.length (Zz l1)),(.dat l2.length (Zz l2))] true []) vs:=by have:=Ze (w8t x0 l1 l2) n _ (x9p x0 l1 l2);rwa [h] at this
theorem Qm (l m:List R6):(Vu l m).length ≤2*l.length+2*m.length:=by
 refine AE (z7a _) ?_
 grind [z4s]
theorem z6l (l:List R6) (z:Int):(atV l z).length ≤l.length:=by
 grind [atV]
def v9w (out:List R6) (first:Nat) (z:Int):List R6:=out.take first++(out.drop first).map fun r=>⟨r.a,r.b,r.c,r.d,r.e,z⟩
def j5r (z z':Int) (s:List R4):List R6:=s.map fun p=>⟨p.a,p.b,z,p.c,p.d,z'⟩
section
variable (kind:Int) (l m:List R6)
def y3d (z:Int):List R4:=joV kind (atV l z) (atV m z)
def z9i (z:Int):Bool:=decide (400<(y3d kind l m z).length)||(decide (400<(joV 2 (atV l z) []).length)||decide (400<(joV 2 (atV m z) []).length))
def jsF :Nat→Nat→List R6→List R4→Nat→Option (List R6)
 | 0,_,out,_,_=>some out
 | k+1,i,out,last,first=>
  bif z9i kind l m (rd (Vu l m) i) then none
  else bif decide (0<i)&&Vh (y3d kind l m (rd (Vu l m) i)) last then jsF k (i+1) (v9w out first (rd (Vu l m) (i+1))) last first
  else jsF k (i+1) (out++j5r (rd (Vu l m) i) (rd (Vu l m) (i+1)) (y3d kind l m (rd (Vu l m) i))) (y3d kind l m (rd (Vu l m) i)) out.length
def jsO :Option (List R6):=jsF kind l m ((Vu l m).length - 1) 0 [] [] 0
def w1l :Option (List R6)→List AVal
 | none=>[.nils,.bool false]
 | some out=>[.dat out.length (Zz out),.bool (decide ((out.length:Int)≤400))]
def z5m :List R6:=(jsO kind l m).getD []
def y8x :Bool:=match jsO kind l m with
 | none=>false
 | some out=>decide ((out.length:Int)≤400)
end
def jsZ (l:List R6):Prop:=l.length≤40000∧ ∀z,(atV l z).length ≤5000
theorem j1f {l:List R6} (h:l.length≤5000):jsZ l:=⟨by omega,fun z=>AE (z6l l z) h⟩
def z9n (_:Int) (l m:List R6):Bool:=pd (jsZ l∧jsZ m)
theorem jsV_ow {k:Int} {l m:List R6} (hl:l.length≤5000) (hm:m.length≤5000):z9n k l m=true:=Xy ⟨j1f hl,j1f hm⟩
section
variable (kind:Int) (l m:List R6) (hl:jsZ l) (hm:jsZ m)
include hl hm
theorem u9c (last:List R4) (first:Int) (i:Nat) (hi:i+1<(Vu l m).length) (s:List R4) (hs:s.length≤1000000): ∀(k j:Nat) (out:List R6),j+k=s.length→out.length≤10000000000+j→
  ∃n,∀N,Zt (Ux kind l m) (N+n) (.to (.h1 out last first (i:Int) s (j:Int)))=Zt (Ux kind l m) N (.to (.h0 (out++j5r (rd (Vu l m) i) (rd (Vu l m) (i+1)) (s.drop j)) last first ((i+1:Nat):Int)))
 | 0,j,out,h,ho=>by
  have hx:=Qm l m;have hl1:=hl.1;have hm1:=hm.1;refine ⟨1,fun N=> ?_⟩
  grind [Zw,Ux,Zk,j5r]
 | k+1,j,out,h,ho=>by
  have hx:=Qm l m;have hl1:=hl.1;have hm1:=hm.1;obtain ⟨n,hn⟩:=u9c last first i hi s hs k (j+1) (out++j5r (rd (Vu l m) i) (rd (Vu l m) (i+1)) [rd s j]) (by omega) (by simp [j5r];omega)
  refine ⟨n+1,fun N=> ?_⟩;have:=hn N;rw [Yg (show j<s.length by omega),←AD,Zw];simp (disch:=omega) only [Ux,Zc,Zq,Zs,Zo,Yc,Yj,Zf,Zk,Zx,Yb,Zj,Af,Ao,Ah,Ai,Ab];rw [AK] at this;exact this
omit hl hm in
theorem u5g (out:List R6) (j:Nat) (x:Int) (h:j<out.length):v9w (out.set j ⟨(rd out j).a,(rd out j).b,(rd out j).c,(rd out j).d,(rd out j).e,x⟩) (j+1) x=v9w out j x:=by
 unfold v9w;rw [Yg h,AU];have e1:(out.set j ⟨(rd out j).a,(rd out j).b,(rd out j).c,(rd out j).d,(rd out j).e,x⟩).take (j+1)=out.take j++[⟨(rd out j).a,(rd out j).b,(rd out j).c,(rd out j).d,(rd out j).e,x⟩]:=by
  apply BH
  ·simp;omega
  ·intro n h1 h2;simp only [BE,List.getElem_set];by_cases e:j=n
   ·subst e;rw [AL rfl,Bs (by simp only [List.length_take];omega)];simp
   ·rw [AF e,Bx (by simp at h1 ⊢;omega),BE]
 have e2:(out.set j ⟨(rd out j).a,(rd out j).b,(rd out j).c,(rd out j).d,(rd out j).e,x⟩).drop (j+1)=out.drop (j+1):=by rw [List.drop_set];rw [AL (by omega)]
 rw [e1,e2,AK];rfl
theorem u9b (last:List R4) (first:Int) (i:Nat) (hi:i+1<(Vu l m).length): ∀(k j:Nat) (out:List R6),j+k=out.length→out.length≤10000000000→
  ∃n,∀N,Zt (Ux kind l m) (N+n) (.to (.h2 out last first (i:Int) (j:Int)))=Zt (Ux kind l m) N (.to (.h0 (v9w out j (rd (Vu l m) (i+1))) last first ((i+1:Nat):Int)))
 | 0,j,out,h,ho=>by
  have hx:=Qm l m;have hl1:=hl.1;have hm1:=hm.1;refine ⟨1,fun N=> ?_⟩;have e:v9w out j (rd (Vu l m) (i+1))=out:=by
   grind [v9w]
  grind [Zw,Ux,Zk]
 | k+1,j,out,h,ho=>by
  have hx:=Qm l m;have hl1:=hl.1;have hm1:=hm.1;obtain ⟨n,hn⟩:=u9b last first i hi k (j+1) (out.set j ⟨(rd out j).a,(rd out j).b,(rd out j).c,(rd out j).d,(rd out j).e,rd (Vu l m) (i+1)⟩) (by simp;omega) (by grind)
  refine ⟨n+1,fun N=> ?_⟩;have:=hn N;rw [u5g out j _ (by omega)] at this;rw [←AD,Zw];simp (disch:=omega) only [Ux,Zc,Zq,Zs,Zo,Yv,Yc,Yj,Zf,Zk,Zx,Yb,Zj,Af,Ao,Ah,Ai,Ab];exact this
theorem v4q : ∀(k i:Nat) (out:List R6) (last:List R4) (first:Nat),k=(Vu l m).length - 1 - i→i≤(Vu l m).length →out.length≤i*400→last.length≤400→first≤out.length→
  ∃n,Zt (Ux kind l m) n (.to (.h0 out last (first:Int) (i:Int)))=.ret (w1l (jsF kind l m k i out last first))
 | 0,i,out,last,first,h,hi,ho,hla,hf=>by
  have hx:=Qm l m;have hl1:=hl.1;have hm1:=hm.1;refine ⟨1,?_⟩
  grind [Zw,Ux,Zc,Zk,Zp,jsF,w1l]
 | k+1,i,out,last,first,h,hi,ho,hla,hf=>by
  have hx:=Qm l m;have hl1:=hl.1;have hm1:=hm.1;have hi1:i+1<(Vu l m).length :=by omega
  have hbig:i*400≤160000*400:=AA _ (by omega);have a1:=fun z=>hl.2 z;have a2:=fun z=>hm.2 z;have w1: ∀z,z6k l z=true:=fun z=>An (by omega);have w2: ∀z,z6k m z=true:=fun z=>An (by omega);have w3: ∀k z,z2e k (atV l z) (atV m z)=true:=fun k z=>An (by grind);have w4: ∀k z,z2e k (atV l z) ([]:List R4)=true:=fun k z=>An (by grind);have w5: ∀k z,z2e k (atV m z) ([]:List R4)=true:=fun k z=>An (by grind);unfold jsF;have eX:y3d kind l m (rd (Vu l m) i)=joV kind (atV l (rd (Vu l m) i)) (atV m (rd (Vu l m) i)):=rfl;by_cases c1:400<(y3d kind l m (rd (Vu l m) i)).length
  ·refine ⟨1,?_⟩;have hb:z9i kind l m (rd (Vu l m) i)=true:=by grind [z9i]
   rw [hb,Ab,Zw];rw [eX] at c1;simp (disch:=omega) only [Ux,Zc,Zq,Zs,Ys,Zo,Zk,Zx,Zj,w1,w2,w3,w4,w5,Ah,Ab,Zp,w1l]
  by_cases c2:400<(joV 2 (atV l (rd (Vu l m) i)) []).length
  ·refine ⟨1,?_⟩;have hb:z9i kind l m (rd (Vu l m) i)=true:=by grind [z9i]
   rw [hb,Ab,Zw];rw [eX] at c1;simp (disch:=omega) only [Ux,Zc,Zq,Zs,Ys,Xt,Zo,Zk,Zx,Zj,w1,w2,w3,w4,w5,Ah,Ab,Aa,Zp,w1l]
  by_cases c3:400<(joV 2 (atV m (rd (Vu l m) i)) []).length
  ·refine ⟨1,?_⟩;have hb:z9i kind l m (rd (Vu l m) i)=true:=by grind [z9i]
   rw [hb,Ab,Zw];rw [eX] at c1;simp (disch:=omega) only [Ux,Zc,Zq,Zs,Ys,Xt,Zo,Zk,Zx,Zj,w1,w2,w3,w4,w5,Ah,Ab,Aa,Zp,w1l]
  have hb:z9i kind l m (rd (Vu l m) i)=false:=by grind [z9i]
  rw [hb,Aa];have w6:Wv (joV kind (atV l (rd (Vu l m) i)) (atV m (rd (Vu l m) i))) last=true:=An (by grind);rcases Yw (decide (0<i)&&Vh (y3d kind l m (rd (Vu l m) i)) last) with q | q
  ·obtain ⟨n3,h3⟩:=u9b kind l m hl hm last first i hi1 (out.length - first) first out (by omega) (by omega)
   obtain ⟨n0,h0⟩:=v4q k (i+1) (v9w out first (rd (Vu l m) (i+1))) last first (by omega) (by omega) (by simp [v9w];omega) hla (by simp [v9w];omega)
   refine ⟨n0+n3+1,?_⟩;rw [q,Ab,Zw];simp only [Ae,At] at q;obtain ⟨q1,q2⟩:=q;rw [eX] at c1 q2;simp (disch:=omega) only [Ux,Zc,Zq,Zs,Ys,Xt,Zo,Zk,Zx,Zj,w1,w2,w3,w4,w5,w6,q2,Ah,Ab,Aa]
   grind
  ·obtain ⟨n2,h2⟩:=u9c kind l m hl hm (y3d kind l m (rd (Vu l m) i)) (out.length:Int) i hi1 (y3d kind l m (rd (Vu l m) i)) (by omega) (y3d kind l m (rd (Vu l m) i)).length 0 out (Af _) (by omega);obtain ⟨n0,h0⟩:=v4q k (i+1) (out++j5r (rd (Vu l m) i) (rd (Vu l m) (i+1)) (y3d kind l m (rd (Vu l m) i))) (y3d kind l m (rd (Vu l m) i)) out.length (by omega) (by omega) (by simp [j5r];omega) (by omega) (by simp);refine ⟨n0+n2+1,?_⟩;rw [q,Aa,Zw];have h2':=h2 n0;simp only [AS,z4a] at h2';have c1':=c1;rw [eX] at c1';by_cases hi0:0<i
   ·rw [An hi0,Ai,eX] at q;simp (disch:=omega) only [Ux,Zc,Zq,Zs,Ys,Xt,Zo,Zk,Zx,Zj,w1,w2,w3,w4,w5,w6,q,Ah,Ab,Aa]
    grind
   ·simp (disch:=omega) only [Ux,Zc,Zq,Zs,Ys,Xt,Zo,Zk,Zx,Zj,w1,w2,w3,w4,w5,w6,Ah,Ab,Aa]
    grind
end
theorem j4r (kind:Int) (l m:List R6) (h:z9n kind l m=true): ∃N,Zt (Ux kind l m) N (y4l kind l m)=.ret (w1l (jsO kind l m)):=by obtain ⟨hl,hm⟩:=Jv h;have hl1:=hl.1;have hm1:=hm.1;obtain ⟨N,hN⟩:=v4q kind l m hl hm ((Vu l m).length - 1) 0 [] [] 0 rfl (Ay _) (Ay _) (Ay _) (Aq _);refine ⟨N,?_⟩;have w1:z9z l m=true:=An ⟨by omega,by omega⟩;simp only [y4l,Zc,Zq,w1,Ab];exact hN
def fJs :List AVal→Option (AVal×Bool)
 | [.int .i64 x0,a1,a2]=>match asL R6 a1,asL R6 a2 with
  | some (L1,g1,n1),some (L2,g2,n2)=>some (.tup [.dat (z5m x0 L1 L2).length (Zz (z5m x0 L1 L2)),.bool (y8x x0 L1 L2)],isT R6 n1 g1&&(isT R6 n2 g2&&(z9n x0 L1 L2)))
  | _,_=>none
 | _=>none
theorem fJs_ok {S:Specs} (hS:Zu prog S):Zu prog (S.with j0q fJs):=by
 refine w6l hS (by kernel_rfl) fun args v h=> ?_;unfold fJs at h;split at h
 ·rename_i x0 a1 a2;split at h
  ·rename_i L1 g1 n1 L2 g2 n2 e1 e2;simp only [Ad,Ac,Ae] at h;obtain ⟨rfl,ho1,ho2,hw⟩:=h;obtain ⟨N,hN⟩:=j4r x0 L1 L2 hw;refine ⟨_,w1l (jsO x0 L1 L2),(.cons (.refl _) (.cons (Yh e1 ho1) (.cons (Yh e2 ho2) .nil))),?_,u2f x0 L1 L2 N _ hN,3,?_⟩
   ·unfold z5m y8x;cases jsO x0 L1 L2 with
    | none=>exact fun ρ u hu=>z6o (.cons (z2m R6) (RLe.refl _)) ρ u hu
    | some out=>exact fun ρ u hu=>hu
   ·cases jsO x0 L1 L2 <;> rfl
  ·cases h
 ·cases h
def T4 :Specs:=T3.with j0q fJs
theorem T4_ok :Zu prog T4:=fJs_ok y2c
open Go.Sort Go.Shelf Go.RowKit Go.Lib
def j9f (x:E3):List Value:=v0s x.1
theorem j9e (l:List R3) (h:y3e l=true):Go.Sort.flatK j9f 3 (x4q l h).toArray =Go.Sort.flatK v0s 3 l.toArray:=by
 have hl:=Qg l h;unfold Go.Sort.flatK;rw [show (x4q l h).toArray.size =l.toArray.size by simpa using hl];apply Array.ext
 ·simp
 ·intro t h1 h2;simp only [Array.getElem_map,Array.getElem_range];have ht:t<l.length*3:=by simpa using h1
  have hq:t / 3<l.length:=by omega
  congr 1
  rw [getElem!_pos (x4q l h).toArray (t / 3) (by simpa [hl] using hq),getElem!_pos l.toArray (t / 3) (by simpa using hq)];unfold j9f
  congr 1
  have:=y5m l h;have e:=AQ (fun z:List R3=>z[t / 3]?) this;simp only [List.getElem?_map] at e;rw [Au (by rw [hl];exact hq),Au hq] at e
  simpa using e
theorem u4w (d:Array E3):Go.Sort.flatK j9f 3 d=Go.Sort.flatK v0s 3 (d.toList.map Subtype.val).toArray :=by
 unfold Go.Sort.flatK;rw [show d.size=(d.toList.map Subtype.val).toArray.size by simp];apply Array.ext
 ·simp
 ·intro t h1 h2;simp only [Array.getElem_map,Array.getElem_range];have ht:t<d.size*3:=by simpa using h1
  have hq:t / 3<d.size:=by omega
  congr 1
  rw [getElem!_pos d (t / 3) hq,getElem!_pos (d.toList.map Subtype.val).toArray (t / 3) (by simpa using hq)];simp [j9f]
theorem z9l (l:List R3):x3l l.length (z2k (cvT l)).length =true:=Vo (by
 rw [Zc];by_cases h:y3e l=true
 ·exact (Qo l h).1.length_eq.symm
 ·unfold z2k;rw [dif_neg h])
theorem isAgg3 : ∀w,(isAgg (Tryz.sortEnd_ren.t 24)).run prog w=.ok true w:=fun w=>by rfl
theorem size3 : ∀w,(Go.sizeOf (Tryz.sortEnd_ren.t 24)).run prog w=.ok 3 w:=fun w=>by rfl
theorem v3h :x7q prog j0g (w6m R3 z2k y3e w5p):=by
 refine v8g (fun L=> ?_) (fun blk off cap L w hb hH fC hsz=> ?_) fun p cap fv w=>AnyF.slices_SortFunc_none Tryz.sortEnd p cap fv w
 ·by_cases h:y3e L=true
  ·exact (Qo L h).1.length_eq
  ·unfold z2k;rw [dif_neg h]
 ·have eg: ∀args w,(callFunc 194 args).run prog w=.ok (.enter 194 args) w:=enters_of Tryz.func194 (by kernel_rfl) rfl;have hcmp:CmpLays prog 194 #[] j9f 3 cf3 blk off (x4q L hb).toArray.size w:=fun m os dk _ x y=>by have hx:=Av x.2;have hy:=Av y.2;exact Tryz.cmpEnd x.1.a x.1.b x.1.c y.1.a y.1.b y.1.c hx hy _
  have hH':HoldsK j9f 3 w blk off (x4q L hb).toArray :=by unfold HoldsK;rw [j9e L hb];exact hH
  have hcon:=AnyQ.slices_SortFunc_eq Tryz.sortEnd 3 isAgg3 size3 j9f (fun x=>w2p x.1) (fun x v hv=>by
   obtain ⟨a,ha,rfl⟩:=AO.1 hv;have:w1n a=true:=Ar.1 (j1t.num x.1) a ha;cases a <;> first | rfl | (simp [w1n] at this;done)) cf3 swo3 194 #[] blk off cap (x4q L hb).toArray w eg hcmp hH' fC (by simpa [Qg] using hsz)
  have hs:(x4q L hb).toArray.size =L.length:=by simp [Qg]
  rw [hs] at hcon;refine Calls.mono hcon fun e w' ⟨he,n,os,hw⟩=>⟨he,n,os,?_⟩
  rw [hw];unfold sortWorldK putRowK;rw [u4w];unfold z2k;rw [dif_pos hb];rfl
def Xk (zs:List Int):List Int:=zs.mergeSort fun x y=>decide (x≤y)
theorem v3g :x7q prog nSort (fRow Xk):=
 j9g (fun zs=>List.length_mergeSort zs) (fun blk off cap zs w hH hb hz=>Tryz.slices_Sort_int blk off cap zs w hH hb hz) fun p cap w=>Tryz.slices_Sort_int_none p cap w
def Wy (zs:List Int):List Int:=compact zs++List.replicate (zs.length - (compact zs).length) 0
def v1y (zs:List Int):Nat:=(compact zs).length
theorem Uw (zs:List Int):(Wy zs).length =zs.length:=by have:=compact_length_le zs;simp [Wy];omega
theorem z1d (n:Nat) (c:Nat→Int):x3l n (Wy (Yq n c)).length =true:=Vo (by rw [Uw];simp [Yq])
theorem v7i (w:World):grow w #[]=w:=by simp [grow]
theorem w2z :x7q prog w5r (fCut Wy v1y):=
 j9h (fun zs=>by have:=compact_length_le zs;simp [Wy];omega) (fun zs=>compact_length_le zs)
  (fun blk off cap zs w hH hb hz dW=>(Tryz.slices_Compact_int blk off cap zs w hH (by omega) dW).mono fun e w' ⟨he,q,hw⟩=>⟨he,q, #[],by rw [hw,v7i];rfl⟩)
  fun p cap w=>Tryz.slices_Compact_int_empty p cap w
def T5 :Specs:=((T4.withE j0g (w6m R3 z2k y3e w5p)).withE nSort (fRow Xk)).withE w5r (fCut Wy v1y)
theorem z0u :Zu prog T5:=x2b (x2b (x2b T4_ok (by kernel_rfl) v3h) (by kernel_rfl) v3g) (by kernel_rfl) w2z
-- h2: index into an array (choices [true, true, false, false])
-- h2: index into an array (choices [true, false, true, false, false])
-- h2: index into an array (choices [true, false, false, true, true, false, false])
-- h2: index into an array (choices [true, false, false, true, false, false, false])
-- h2: index into an array (choices [true, false, false, false, false, false])
inductive spmS where
 | h0 (v8:Int)
 | h1 (v3:List R3) (v17:Int)
 | h2 (v5:List R3) (v6:Int) (v7:Int) (aD:Int) (bQ:Int) (aX:Int) (aG:Bool) (aB:List R2)
abbrev Us (aB:List R2) (aX:Int) (v5:List R3) (v7:Int):=(aB++[(R2.mk aX (rd v5 (0+(tn v7))).a)])
abbrev y2i (aB:List R2) (aX:Int) (v5:List R3) (v7:Int):=(Zr (Zz aB) 0 aB.length 2 [(ii aX),(ii (rd v5 (0+(tn v7))).a)])
abbrev y9p (v3:List R3) (l0:List R2) (v17:Int):=(v3++[(R3.mk (rd l0 (tn v17)).a 0 1),(R3.mk (rd l0 (tn v17)).b 0 (-1))])
def u6v (l0:List R2):AFr:=⟨⟨11,0,true⟩,(Wr prog 156 [1,1,1,0] 1),(Zg prog 156 [1,1,1,0] 1),none,(Zy prog 14),Yk [(9,(.dat l0.length (Zz l0)))]⟩
def spmC (l0:List R2):spmS→Cfg
 | .h0 v8=>⟨⟨19,0,true⟩,none,(Zg prog 191 [1,0,1,0,0] 0),none,(Zy prog 6),⟨Yk [(0,(.dat l0.length (Zz l0))),(1,(.fn 178 [])),(7,(ii (l0.length:Int))),(8,(ii v8))],Vv [] 0,0,[],true⟩,[⟨⟨9,0,true⟩,(Wr prog 177 [1,0] 2),(Zg prog 177 [1,0] 1),none,(Zy prog 6),Yk [(5,(.dat l0.length (Zz l0))),(6,(.fn 178 []))]⟩,⟨⟨11,0,true⟩,(Wr prog 156 [1,1,0,0] 1),(Zg prog 156 [1,1,0,0] 1),none,(Zy prog 14),Yk [(0,(.dat l0.length (Zz l0))),(7,(.dat l0.length (Zz l0)))]⟩],.leaf⟩
 | .h1 v3 v17=>⟨⟨38,0,true⟩,none,(Zg prog 184 [1,1,0,1,0,0,1,1,0,0,1,1,0,0] 0),none,(Zy prog 9),⟨Yk [(3,(.sla 7 3 0 v3.length (.un 3))),(4,(ii 0)),(8,(.sl 0 0 2 (.un 1))),(9,(ii 2)),(10,(ii 0)),(15,(.dat l0.length (Zz l0))),(16,(ii (l0.length:Int))),(17,(ii v17))],Vv [⟨[(.dat l0.length (Zz l0)),.nils],155,none⟩,⟨[(.fn 180 [])],167,none⟩,⟨[(ii 0),(ii 0)],222,none⟩,⟨[.nils],155,none⟩,⟨[(ii 0)],3,none⟩,⟨[(.bool false)],4,none⟩,⟨[(.fn 183 [(.ptr 5 0),(.ptr 4 0),(.ptr 3 0)])],223,none⟩,⟨Ym v3.length (Zz v3),227,some ⟨3,v3.length,(Zz v3)⟩⟩] 0,8,[],true⟩,[⟨⟨42,0,true⟩,(Wr prog 161 [1,1,1,1,1,0,0] 3),(Zg prog 161 [1,1,1,1,1,0,0] 1),none,(Zy prog 3),Yk [(5,(.ptr 1 0)),(6,.nils),(7,(.ptr 2 0)),(8,(.ptr 3 0)),(9,(.ptr 4 0)),(10,(.ptr 5 0)),(11,(.ptr 6 0)),(16,(.sl 0 0 2 (.un 1)))]⟩,(u6v l0)],.leaf⟩
 | .h2 v5 v6 v7 aD bQ aX aG aB=>⟨⟨16,0,true⟩,none,(Zg prog 198 [1,0,0] 0),none,[],⟨Yk [(0,(.yld 0)),(5,(.sla 7 3 0 v5.length (.un 3))),(6,(ii v6)),(7,(ii v7))],z5j [(1,⟨[(.fn 180 [])],167,none⟩),(2,⟨[(ii aD),(ii bQ)],222,none⟩),(3,⟨[(ii aX)],3,none⟩),(4,⟨[(.bool aG)],4,none⟩),(5,⟨[(.fn 183 [(.ptr 4 0),(.ptr 3 0),(.ptr 6 0)])],223,none⟩),(6,⟨[(.sla 8 2 0 aB.length (.un 2))],155,none⟩),(7,⟨Ym v5.length (Zz v5),227,some ⟨3,v5.length,(Zz v5)⟩⟩),(8,⟨Ym aB.length (Zz aB),176,some ⟨2,aB.length,(Zz aB)⟩⟩)],9,[],true⟩,[⟨⟨42,0,true⟩,none,(.inRangeFunc 0::(Zg prog 161 [1,1,1,1,1,0,1,0] 1)),none,(Zy prog 3),Yk [(6,.nils),(8,(.ptr 6 0))]⟩,(u6v l0)],(z9k [(0,⟨.ready,none,42,Yk [(5,(.ptr 1 0)),(7,(.ptr 2 0)),(9,(.ptr 3 0)),(10,(.ptr 4 0)),(11,(.ptr 5 0))],[18],(Wq prog 161 [1,1,1,1,1,0,1,0,0]),(Wq prog 161 [1,1,1,1,1,0,1,0,1])⟩)])⟩
def spmN0 :List (Option (List Nat)):=[some [0,1,7,8],some [5,6],some [0,7]]
def spmM0 :List (Option (List Nat)):=[]
def v3c :List (Option (List Nat)):=[some [3,4,8,9,10,15,16,17],some [5,6,7,8,9,10,11,16],some [9]]
def v3d :List (Option (List Nat)):=[]
def y6a :List (Option (List Nat)):=[some [0,5,6,7],some [6,8],some [9]]
def y6b :List (Option (List Nat)):=[some [5,7,9,10,11],none,none,none,none,none,none,none,none]
def Jj (l0:List R2):spmS→Xw spmS
 | .h0 v8=>(bif (decide (v8<(l0.length:Int))) then (bif ((decide (0≤v8∧v8<(l0.length:Int)))&&true) then (bif (decide ((rd l0 v8.toNat).a <(rd l0 v8.toNat).b)) then (bif (decide ((rd l0 v8.toNat).a ≥(-1000000))) then (bif (!(decide ((rd l0 v8.toNat).b ≤1000000))) then (bif (decide (v8≥0)) then (.ret [.nils,(.int .i64 8)]) else (.to (.h1 ([]:List R3) 0))) else (.to (.h0 (wrap .i64 (v8+1))))) else (bif (decide (v8≥0)) then (.ret [.nils,(.int .i64 8)]) else (.to (.h1 ([]:List R3) 0)))) else (bif (decide (v8≥0)) then (.ret [.nils,(.int .i64 8)]) else (.to (.h1 ([]:List R3) 0)))) else .stuck) else (.to (.h1 ([]:List R3) 0)))
 | .h1 v3 v17=>(bif (decide (v17<(l0.length:Int))) then (bif ((decide (0≤v17∧v17<(l0.length:Int)))&&true) then (bif (Nat.beq 3 3&&((decide (0+v3.length=v3.length))&&decide ((v3.length+2+1)*(24+1)≤Jo))) then (.to (.h1 (v3++[(R3.mk (rd l0 v17.toNat).a 0 1),(R3.mk (rd l0 v17.toNat).b 0 (-1))]) (wrap .i64 (v17+1)))) else .stuck) else .stuck) else (bif (y3e (cvT v3)) then (bif (decide (v3.length<4611686018427387904)) then (bif (decide (v3.length=v3.length)) then (.to (.h2 (z2k (cvT v3)) (v3.length:Int) 0 0 0 0 false ([]:List R2))) else .stuck) else .stuck) else .stuck))
 | .h2 v5 v6 v7 aD bQ aX aG aB=>(bif (decide (v7<v6)) then (bif ((decide (0≤v7∧v7<(v5.length:Int)))&&true) then (bif (decide ((0+v7.toNat)<v5.length)) then (bif (!aG) then (bif (decide ((rd v5 (0+v7.toNat)).b =Int.ofNat 0)) then (.to (.h2 v5 v6 (wrap .i64 (v7+1)) (wrap .i64 (aD+(rd v5 (0+v7.toNat)).c)) bQ (rd v5 (0+v7.toNat)).a (w6g (decide ((wrap .i64 (aD+(rd v5 (0+v7.toNat)).c))>0)) (decide (bQ>0))) aB)) else (bif (decide ((rd v5 (0+v7.toNat)).b =Int.ofNat 1)) then (.to (.h2 v5 v6 (wrap .i64 (v7+1)) aD (wrap .i64 (bQ+(rd v5 (0+v7.toNat)).c)) (rd v5 (0+v7.toNat)).a (w6g (decide (aD>0)) (decide ((wrap .i64 (bQ+(rd v5 (0+v7.toNat)).c))>0))) aB)) else .stuck)) else (bif (aX == (rd v5 (0+v7.toNat)).a) then (bif (decide ((rd v5 (0+v7.toNat)).b =Int.ofNat 0)) then (.to (.h2 v5 v6 (wrap .i64 (v7+1)) (wrap .i64 (aD+(rd v5 (0+v7.toNat)).c)) bQ (rd v5 (0+v7.toNat)).a (w6g (decide ((wrap .i64 (aD+(rd v5 (0+v7.toNat)).c))>0)) (decide (bQ>0))) aB)) else (bif (decide ((rd v5 (0+v7.toNat)).b =Int.ofNat 1)) then (.to (.h2 v5 v6 (wrap .i64 (v7+1)) aD (wrap .i64 (bQ+(rd v5 (0+v7.toNat)).c)) (rd v5 (0+v7.toNat)).a (w6g (decide (aD>0)) (decide ((wrap .i64 (bQ+(rd v5 (0+v7.toNat)).c))>0))) aB)) else .stuck)) else (bif (decide ((aB.length:Int)>0)) then (bif ((decide (0≤(wrap .i64 ((aB.length:Int) - 1))∧(wrap .i64 ((aB.length:Int) - 1))<(aB.length:Int)))&&true) then (bif (decide ((0+(Int.toNat (wrap .i64 ((aB.length:Int) - 1))))<aB.length)) then (bif ((rd aB (0+(Int.toNat (wrap .i64 ((aB.length:Int) - 1))))).b == aX) then (bif (decide ((rd v5 (0+v7.toNat)).b =Int.ofNat 0)) then (.to (.h2 v5 v6 (wrap .i64 (v7+1)) (wrap .i64 (aD+(rd v5 (0+v7.toNat)).c)) bQ (rd v5 (0+v7.toNat)).a (w6g (decide ((wrap .i64 (aD+(rd v5 (0+v7.toNat)).c))>0)) (decide (bQ>0))) (aB.set (0+(Int.toNat (wrap .i64 ((aB.length:Int) - 1)))) (R2.mk (rd aB (0+(Int.toNat (wrap .i64 ((aB.length:Int) - 1))))).a (rd v5 (0+v7.toNat)).a)))) else (bif (decide ((rd v5 (0+v7.toNat)).b =Int.ofNat 1)) then (.to (.h2 v5 v6 (wrap .i64 (v7+1)) aD (wrap .i64 (bQ+(rd v5 (0+v7.toNat)).c)) (rd v5 (0+v7.toNat)).a (w6g (decide (aD>0)) (decide ((wrap .i64 (bQ+(rd v5 (0+v7.toNat)).c))>0))) (aB.set (0+(Int.toNat (wrap .i64 ((aB.length:Int) - 1)))) (R2.mk (rd aB (0+(Int.toNat (wrap .i64 ((aB.length:Int) - 1))))).a (rd v5 (0+v7.toNat)).a)))) else .stuck)) else (bif (Nat.beq 2 2&&((decide (0+aB.length=aB.length))&&decide ((aB.length+1+1)*(16+1)≤Jo))) then (bif (decide ((rd v5 (0+v7.toNat)).b =Int.ofNat 0)) then (.to (.h2 v5 v6 (wrap .i64 (v7+1)) (wrap .i64 (aD+(rd v5 (0+v7.toNat)).c)) bQ (rd v5 (0+v7.toNat)).a (w6g (decide ((wrap .i64 (aD+(rd v5 (0+v7.toNat)).c))>0)) (decide (bQ>0))) (aB++[(R2.mk aX (rd v5 (0+v7.toNat)).a)]))) else (bif (decide ((rd v5 (0+v7.toNat)).b =Int.ofNat 1)) then (.to (.h2 v5 v6 (wrap .i64 (v7+1)) aD (wrap .i64 (bQ+(rd v5 (0+v7.toNat)).c)) (rd v5 (0+v7.toNat)).a (w6g (decide (aD>0)) (decide ((wrap .i64 (bQ+(rd v5 (0+v7.toNat)).c))>0))) (aB++[(R2.mk aX (rd v5 (0+v7.toNat)).a)]))) else .stuck)) else .stuck)) else .stuck) else .stuck) else (bif (Nat.beq 2 2&&((decide (0+aB.length=aB.length))&&decide ((aB.length+1+1)*(16+1)≤Jo))) then (bif (decide ((rd v5 (0+v7.toNat)).b =Int.ofNat 0)) then (.to (.h2 v5 v6 (wrap .i64 (v7+1)) (wrap .i64 (aD+(rd v5 (0+v7.toNat)).c)) bQ (rd v5 (0+v7.toNat)).a (w6g (decide ((wrap .i64 (aD+(rd v5 (0+v7.toNat)).c))>0)) (decide (bQ>0))) (aB++[(R2.mk aX (rd v5 (0+v7.toNat)).a)]))) else (bif (decide ((rd v5 (0+v7.toNat)).b =Int.ofNat 1)) then (.to (.h2 v5 v6 (wrap .i64 (v7+1)) aD (wrap .i64 (bQ+(rd v5 (0+v7.toNat)).c)) (rd v5 (0+v7.toNat)).a (w6g (decide (aD>0)) (decide ((wrap .i64 (bQ+(rd v5 (0+v7.toNat)).c))>0))) (aB++[(R2.mk aX (rd v5 (0+v7.toNat)).a)]))) else .stuck)) else .stuck)))) else .stuck) else .stuck) else (.ret [(.dat aB.length (Zz aB)),(.int .i64 0)]))
def y3r (l0:List R2):Xw spmS:=(bif (decide ((l0.length:Int)>400)) then (.ret [.nils,(.int .i64 4)]) else (.to (.h0 0)))
theorem w7p (l0:List R2): ∀s,Xv prog (Zy prog 156) (spmC l0) (spmC l0 s) (Jj l0 s)
 | .h0 v8=>(lb (fun k0=>(lo fun aI=>(lb (fun k1=>(lb (fun k2=>(lb (fun k3=>(lb (fun k4=>(lr 11 156 [1,1,0,1,0,0] 1 14 [(2,.nils),(3,(ii 8))] (sl z0u 79 [] ⟨[],[],[some [2,3]],[]⟩ ⟨[],[],[]⟩ (trs 9 []) (tt k4 (tt k3 (tt k2 (tt k1 (ww aI (tt k0 nn))))))))) (fun k4=>(sl z0u 154 [(227,3,Zz ([]:List R3))] ⟨[8,2,3,4,5,6,7,9],[],v3c,v3d⟩ ⟨[(3,.grow 7 3)],[],[]⟩ (trs 8 (bl 2 2)) (pp (fl ([]:List R3) nn) (tt k4 (tt k3 (tt k2 (tt k1 (ww aI (tt k0 nn))))))))))) (fun k3=>(sl z0u 69 [] ⟨[],[],spmN0,spmM0⟩ ⟨[],[],[]⟩ (trs 7 [false]) (tt k3 (tt k2 (tt k1 (ww aI (tt k0 nn))))))))) (fun k2=>(lb (fun k3=>(lr 11 156 [1,1,0,1,0,0] 1 14 [(2,.nils),(3,(ii 8))] (sl z0u 79 [] ⟨[],[],[some [2,3]],[]⟩ ⟨[],[],[]⟩ (trs 4 (bl 5 24)) (tt k3 (tt k2 (tt k1 (ww aI (tt k0 nn)))))))) (fun k3=>(sl z0u 154 [(227,3,Zz ([]:List R3))] ⟨[8,2,3,4,5,6,7,9],[],v3c,v3d⟩ ⟨[(3,.grow 7 3)],[],[]⟩ (trs 4 (bl 6 40)) (pp (fl ([]:List R3) nn) (tt k3 (tt k2 (tt k1 (ww aI (tt k0 nn)))))))))))) (fun k1=>(lb (fun k2=>(lr 11 156 [1,1,0,1,0,0] 1 14 [(2,.nils),(3,(ii 8))] (sl z0u 79 [] ⟨[],[],[some [2,3]],[]⟩ ⟨[],[],[]⟩ (bl 9 385) (tt k2 (tt k1 (ww aI (tt k0 nn))))))) (fun k2=>(sl z0u 154 [(227,3,Zz ([]:List R3))] ⟨[8,2,3,4,5,6,7,9],[],v3c,v3d⟩ ⟨[(3,.grow 7 3)],[],[]⟩ (bl 10 641) (pp (fl ([]:List R3) nn) (tt k2 (tt k1 (ww aI (tt k0 nn)))))))))))) (fun k0=>(sl z0u 98 [(227,3,Zz ([]:List R3))] ⟨[6,0,1,2,3,4,5,7],[],v3c,v3d⟩ ⟨[(3,.grow 7 3)],[],[]⟩ (bl 3 4) (pp (fl ([]:List R3) nn) (tt k0 nn)))))
 | .h1 v3 v17=>(lb (fun k0=>(lo fun o0=>(lo fun o1=>(sl z0u 36 [] ⟨[0,1,2,3,4,5,6,10],[],v3c,v3d⟩ ⟨[(3,.len (y9p v3 l0 v17).length)],(kpB 7 [.rowed 3 (y9p v3 l0 v17).length (Zz (y9p v3 l0 v17))]),[]⟩ [true] (pp (xL (v3.length+2) (y9p v3 l0 v17).length) (pp (xL (v3.length+2) (y9p v3 l0 v17).length) (pp (xS (v3.length+2) (Zr (Zz v3) 0 v3.length 3 [(ii (rd l0 (tn v17)).a),(ii 0),(ii 1),(ii (rd l0 (tn v17)).b),(ii 0),(ii (-1))]) (Zz (y9p v3 l0 v17))) (pp (pp (xF (Zr (Zz v3) 0 v3.length 3 [(ii (rd l0 (tn v17)).a),(ii 0),(ii 1),(ii (rd l0 (tn v17)).b),(ii 0),(ii (-1))])) nn) (ww o1 (ww o0 (tt k0 nn))))))))))) (fun k0=>(lo fun o0=>(lo fun o1=>(lo fun o2=>(sl z0u 92 [(176,2,Zz ([]:List R2))] ⟨[9,1,2,4,5,6,3,7,10],[],y6a,y6b⟩ ⟨[(5,.len (z2k (cvT v3)).length)],(kpB 6 [.cells [.grow 8 2],.rowed 3 (z2k (cvT v3)).length (Zz (z2k (cvT v3))),.keep]),[]⟩ (bl 4 2) (pp (xL v3.length (z2k (cvT v3)).length (by first | exact z9l _ | exact Vo rfl)) (pp (xL v3.length (z2k (cvT v3)).length (by first | exact z9l _ | exact Vo rfl)) (pp (xS v3.length (Zz (z2k (cvT v3))) (Zz (z2k (cvT v3)))) (pp (fl (z2k (cvT v3)) (fl ([]:List R2) nn)) (pp (pp (xG (Nat.beq 3 3)) (pp (xG (Nat.beq 3 3)) (pp (xG (Nat.beq 0 0)) (pp (pp (xG (decide (v3.length=v3.length))) (pp (xr v3) (xG (decide (v3.length<4611686018427387904))))) (xG (y3e (cvT v3))))))) (tt k0 nn))))))))))))
 | .h2 v5 v6 v7 aD bQ aX aG aB=>(lb (fun k0=>(lo fun aI=>(lo fun bG=>(lb (fun k1=>(lb (fun k2=>(sl z0u 62 [] ⟨(List.range 9),[],y6a,y6b⟩ ⟨[],[],[]⟩ (trs 5 (bl 3 0)) (pp (fl v5 (fl aB nn)) (ww k2 (tt k1 (ww bG (ww aI (tt k0 nn)))))))) (fun k2=>(lb (fun k3=>(sl z0u 62 [] ⟨(List.range 9),[],y6a,y6b⟩ ⟨[],[],[]⟩ (trs 6 (bl 4 2)) (pp (fl v5 (fl aB nn)) (ww k3 (tt k1 (ww bG (ww aI (tt k0 nn)))))))) (fun k3=>trivial))))) (fun k1=>(lb (fun k2=>(lb (fun k3=>(sl z0u 62 [] ⟨(List.range 9),[],y6a,y6b⟩ ⟨[],[],[]⟩ (bl 8 17) (pp (fl v5 (fl aB nn)) (ww k3 (tt k2 (tt k1 (ww bG (ww aI (tt k0 nn))))))))) (fun k3=>(lb (fun k4=>(sl z0u 62 [] ⟨(List.range 9),[],y6a,y6b⟩ ⟨[],[],[]⟩ (bl 10 177) (pp (fl v5 (fl aB nn)) (ww k4 (tt k2 (tt k1 (ww bG (ww aI (tt k0 nn))))))))) (fun k4=>trivial))))) (fun k2=>(lb (fun k3=>(lo fun cC=>(lo fun dE=>(lb (fun k4=>(lb (fun k5=>(sl z0u 81 [] ⟨(List.range 9),[],y6a,y6b⟩ ⟨[],(kpB 6 [.cells [.len (aB.set (0+(tn (wr ((aB.length:Int) - 1)))) (R2.mk (rd aB (0+(tn (wr ((aB.length:Int) - 1))))).a (rd v5 (0+(tn v7))).a)).length],.keep,.rowed 2 (aB.set (0+(tn (wr ((aB.length:Int) - 1)))) (R2.mk (rd aB (0+(tn (wr ((aB.length:Int) - 1))))).a (rd v5 (0+(tn v7))).a)).length (Zz (aB.set (0+(tn (wr ((aB.length:Int) - 1)))) (R2.mk (rd aB (0+(tn (wr ((aB.length:Int) - 1))))).a (rd v5 (0+(tn v7))).a)))]),[]⟩ (bl 17 16353) (pp (xL aB.length (aB.set (0+(tn (wr ((aB.length:Int) - 1)))) (R2.mk (rd aB (0+(tn (wr ((aB.length:Int) - 1))))).a (rd v5 (0+(tn v7))).a)).length) (pp (xL aB.length (aB.set (0+(tn (wr ((aB.length:Int) - 1)))) (R2.mk (rd aB (0+(tn (wr ((aB.length:Int) - 1))))).a (rd v5 (0+(tn v7))).a)).length) (pp (xS aB.length (Xm (Zz aB) (0+(tn (wr ((aB.length:Int) - 1)))) 1 [(ii (rd v5 (0+(tn v7))).a)]) (Zz (aB.set (0+(tn (wr ((aB.length:Int) - 1)))) (R2.mk (rd aB (0+(tn (wr ((aB.length:Int) - 1))))).a (rd v5 (0+(tn v7))).a)))) (pp (fl v5 (pp (xF (Xm (Zz aB) (0+(tn (wr ((aB.length:Int) - 1)))) 1 [(ii (rd v5 (0+(tn v7))).a)])) nn)) (ww k5 (ww dE (ww cC (tt k4 (ww dE (ww cC (tt k3 (tt k2 (tt k1 (ww bG (ww aI (tt k0 nn)))))))))))))))))) (fun k5=>(lb (fun k6=>(sl z0u 81 [] ⟨(List.range 9),[],y6a,y6b⟩ ⟨[],(kpB 6 [.cells [.len (aB.set (0+(tn (wr ((aB.length:Int) - 1)))) (R2.mk (rd aB (0+(tn (wr ((aB.length:Int) - 1))))).a (rd v5 (0+(tn v7))).a)).length],.keep,.rowed 2 (aB.set (0+(tn (wr ((aB.length:Int) - 1)))) (R2.mk (rd aB (0+(tn (wr ((aB.length:Int) - 1))))).a (rd v5 (0+(tn v7))).a)).length (Zz (aB.set (0+(tn (wr ((aB.length:Int) - 1)))) (R2.mk (rd aB (0+(tn (wr ((aB.length:Int) - 1))))).a (rd v5 (0+(tn v7))).a)))]),[]⟩ (bl 19 98273) (pp (xL aB.length (aB.set (0+(tn (wr ((aB.length:Int) - 1)))) (R2.mk (rd aB (0+(tn (wr ((aB.length:Int) - 1))))).a (rd v5 (0+(tn v7))).a)).length) (pp (xL aB.length (aB.set (0+(tn (wr ((aB.length:Int) - 1)))) (R2.mk (rd aB (0+(tn (wr ((aB.length:Int) - 1))))).a (rd v5 (0+(tn v7))).a)).length) (pp (xS aB.length (Xm (Zz aB) (0+(tn (wr ((aB.length:Int) - 1)))) 1 [(ii (rd v5 (0+(tn v7))).a)]) (Zz (aB.set (0+(tn (wr ((aB.length:Int) - 1)))) (R2.mk (rd aB (0+(tn (wr ((aB.length:Int) - 1))))).a (rd v5 (0+(tn v7))).a)))) (pp (fl v5 (pp (xF (Xm (Zz aB) (0+(tn (wr ((aB.length:Int) - 1)))) 1 [(ii (rd v5 (0+(tn v7))).a)])) nn)) (ww k6 (ww dE (ww cC (tt k4 (ww dE (ww cC (tt k3 (tt k2 (tt k1 (ww bG (ww aI (tt k0 nn)))))))))))))))))) (fun k6=>trivial))))) (fun k4=>(lo fun cL=>(lb (fun k5=>(sl z0u 81 [] ⟨[0,1,2,3,4,5,6,7,12],[],y6a,y6b⟩ ⟨[],(kpB 6 [.cells [.len (Us aB aX v5 v7).length],.keep,.rowed 2 (Us aB aX v5 v7).length (Zz (Us aB aX v5 v7))]),[]⟩ (bl 17 8161) (pp (xL (aB.length+1) (Us aB aX v5 v7).length) (pp (xL (aB.length+1) (Us aB aX v5 v7).length) (pp (xS (aB.length+1) (y2i aB aX v5 v7) (Zz (Us aB aX v5 v7))) (pp (fl v5 (pp (xF (y2i aB aX v5 v7)) nn)) (ww k5 (ww cL (tt k4 (ww dE (ww cC (tt k3 (tt k2 (tt k1 (ww bG (ww aI (tt k0 nn))))))))))))))))) (fun k5=>(lb (fun k6=>(sl z0u 81 [] ⟨[0,1,2,3,4,5,6,7,12],[],y6a,y6b⟩ ⟨[],(kpB 6 [.cells [.len (Us aB aX v5 v7).length],.keep,.rowed 2 (Us aB aX v5 v7).length (Zz (Us aB aX v5 v7))]),[]⟩ (bl 19 90081) (pp (xL (aB.length+1) (Us aB aX v5 v7).length) (pp (xL (aB.length+1) (Us aB aX v5 v7).length) (pp (xS (aB.length+1) (y2i aB aX v5 v7) (Zz (Us aB aX v5 v7))) (pp (fl v5 (pp (xF (y2i aB aX v5 v7)) nn)) (ww k6 (ww cL (tt k4 (ww dE (ww cC (tt k3 (tt k2 (tt k1 (ww bG (ww aI (tt k0 nn))))))))))))))))) (fun k6=>trivial)))))))))) (fun k3=>(lo fun cC=>(lb (fun k4=>(sl z0u 81 [] ⟨[0,1,2,3,4,5,6,7,12],[],y6a,y6b⟩ ⟨[],(kpB 6 [.cells [.len (Us aB aX v5 v7).length],.keep,.rowed 2 (Us aB aX v5 v7).length (Zz (Us aB aX v5 v7))]),[]⟩ (bl 17 1) (pp (xL (aB.length+1) (Us aB aX v5 v7).length) (pp (xL (aB.length+1) (Us aB aX v5 v7).length) (pp (xS (aB.length+1) (y2i aB aX v5 v7) (Zz (Us aB aX v5 v7))) (pp (fl v5 (pp (xF (y2i aB aX v5 v7)) nn)) (ww k4 (ww cC (tt k3 (tt k2 (tt k1 (ww bG (ww aI (tt k0 nn)))))))))))))) (fun k4=>(lb (fun k5=>(sl z0u 81 [] ⟨[0,1,2,3,4,5,6,7,12],[],y6a,y6b⟩ ⟨[],(kpB 6 [.cells [.len (Us aB aX v5 v7).length],.keep,.rowed 2 (Us aB aX v5 v7).length (Zz (Us aB aX v5 v7))]),[]⟩ (bl 19 81921) (pp (xL (aB.length+1) (Us aB aX v5 v7).length) (pp (xL (aB.length+1) (Us aB aX v5 v7).length) (pp (xS (aB.length+1) (y2i aB aX v5 v7) (Zz (Us aB aX v5 v7))) (pp (fl v5 (pp (xF (y2i aB aX v5 v7)) nn)) (ww k5 (ww cC (tt k3 (tt k2 (tt k1 (ww bG (ww aI (tt k0 nn)))))))))))))) (fun k5=>trivial)))))))))))))) (fun k0=>(lr 11 3 [1,1,1,1,0] 1 14 [(2,(.dat aB.length (Zz aB))),(3,(ii 0))] (sl z0u 19 [] ⟨[],[8],[some [2,3]],[]⟩ ⟨[(2,.frz aB.length aB.length (Zz aB) (Zz aB))],[],[]⟩ [false] (pp (xZ (z4o 2 2 0 aB.length aB.length (Zz aB)) aB.length (Zz aB)) (pp (xL aB.length aB.length) (pp (xS aB.length (Zz aB) (Zz aB)) (pp (fl aB nn) (tt k0 nn)))))))))
theorem x8l (l0:List R2):Xv prog (Zy prog 156) (spmC l0) (Za prog 156 [(.dat l0.length (Zz l0))] true []) (y3r l0):=(lb (fun k0=>(lr 11 156 [1,0,1,0,0] 1 14 [(2,.nils),(3,(ii 4))] (sl z0u 18 [] ⟨[],[],[some [2,3]],[]⟩ ⟨[],[],[]⟩ [true] (tt k0 nn)))) (fun k0=>(sl z0u 41 [] ⟨[],[],spmN0,spmM0⟩ ⟨[],[],[]⟩ [false] (tt k0 nn))))
theorem u0k (l0:List R2) (n:Nat) (vs:List AVal) (h:Zt (Jj l0) n (y3r l0)=.ret vs):Uv prog (Zy prog 156) (Za prog 156 [(.dat l0.length (Zz l0))] true []) vs:=by have:=Ze (w7p l0) n _ (x8l l0);rwa [h] at this
def z1n (s:R2):Bool:=decide (s.a<s.b)&&(decide (s.a≥ -1000000)&&decide (s.b≤1000000))
def z0a (l:List R2):List R3:=l.flatMap fun s=>[⟨s.a,0,1⟩,⟨s.b,0,-1⟩]
def Ug (out:List R2) (last:Int) (inn:Bool) (at':Int):List R2:=
 bif !inn then out else bif last == at' then out else
 bif decide (0<out.length)&&((rd out (out.length - 1)).b == last) then out.set (out.length - 1) ⟨(rd out (out.length - 1)).a,at'⟩ else out++[⟨last,at'⟩]
def swF :List R3→Int→Int→Bool→List R2→List R2
 | [],_,_,_,out=>out
 | e::r,o,last,inn,out=>swF r (o+e.c) e.a (decide (o+e.c>0)) (Ug out last inn e.a)
def swV (l:List R2):List R2:=swF (z2k (z0a l)) 0 0 false []
def Xr (l:List R2):List R2:=bif decide (400<l.length) then [] else bif l.all z1n then swV l else []
def u6w (l:List R2):Int:=bif decide (400<l.length) then 4 else bif l.all z1n then 0 else 8
def y5z (l:List R2):Bool:=true
def x4x (l:List R2):List AVal:=bif decide (400<l.length) then [.nils,.int .i64 4] else bif l.all z1n then [.dat (swV l).length (Zz (swV l)),.int .i64 0] else [.nils,.int .i64 8]
theorem z5q (l:List R2):(z0a l).length =2*l.length:=by
 induction l with
 | nil=>rfl
 | cons r l ih=>grind [z0a]
theorem z3z (out:List R2) (last:Int) (inn:Bool) (a:Int):(Ug out last inn a).length ≤out.length+1:=by
 grind [Ug]
theorem y3o (e:R3) (r:List R3) (o last:Int) (inn:Bool) (out:List R2):swF (e::r) o last inn out=swF r (o+e.c) e.a (decide (o+e.c>0)) (Ug out last inn e.a):=rfl
theorem j5y {a:Int} (k:Nat) (h:a=(k:Int)):decide (a=Int.ofNat k)=true:=by grind
section
variable (l:List R2) (hl:l.length≤400)
include hl
theorem u6s (L:List R3) (hL:L.length≤800) (hE: ∀i,i<L.length→(rd L i).b =0∧((rd L i).c =1∨(rd L i).c = -1)): ∀(k i:Nat) (o last:Int) (inn:Bool) (out:List R2),i+k=L.length→ -(i:Int)≤o→o≤i→out.length≤i→
  ∃n,Zt (Jj l) n (.to (.h2 L (L.length:Int) (i:Int) o 0 last inn out))=.ret [.dat (swF (L.drop i) o last inn out).length (Zz (swF (L.drop i) o last inn out)),.int .i64 0]
 | 0,i,o,last,inn,out,h,ho1,ho2,hout=>by
  have _uhl:=hl;refine ⟨1,?_⟩
  grind [Zw,Jj,Zp,swF]
 | k +1,i,o,last,inn,out,h,ho1,ho2,hout=>by
  obtain ⟨hb,hc⟩:=hE i (by omega);have hcl:=z3z out last inn (rd L i).a;obtain ⟨n,hn⟩:=u6s L hL hE k (i+1) (o+(rd L i).c) (rd L i).a (decide (o+(rd L i).c >0)) (Ug out last inn (rd L i).a) (by omega) (by grind) (by grind) (by omega);refine ⟨n+1,?_⟩;rw [Yg (show i<L.length by omega),Zw];have hf: ∀b,w6g b (decide ((0:Int)>0))=b:=fun b=>rfl;have hw:wrap .i64 (o+(rd L i).c)=o+(rd L i).c :=Zk (by grind);rw [y3o];have hf': ∀b,w6g b false=b:=fun b=>rfl;have hz:=j5y 0 hb;unfold Ug at hn ⊢;cases inn with
  | false=>simp only [Az,Ab] at hn ⊢;simp (disch:=omega) only [Jj,Az,hz,hw,hf,hf',Zs,Zo,Yv,Zk,Zx,Zj,Af,Ah,Ab];exact hn
  | true=>
   simp only [Aw,Aa] at hn ⊢;rcases Yw (last == (rd L i).a) with q | q
   ·rw [q] at hn ⊢;simp only [Ab] at hn ⊢;simp (disch:=omega) only [Jj,Aw,q,hz,hw,hf,hf',Zs,Zo,Yv,Zk,Zx,Zj,Af,Ah,Ab,Aa];exact hn
   ·rw [q] at hn ⊢;simp only [Aa] at hn ⊢;by_cases h0:0<out.length
    ·rw [An h0,Ai] at hn ⊢;rcases Yw ((rd out (out.length - 1)).b == last) with q2 | q2
     ·rw [q2] at hn ⊢;simp only [Ab] at hn ⊢;simp (disch:=omega) only [Jj,Aw,q,q2,hz,hw,hf,hf',Zs,Ys,Zo,Yv,Zk,Zx,Zj,Zi,Af,Ah,Ab,Aa];exact hn
     ·rw [q2] at hn ⊢;simp only [Aa] at hn ⊢;simp (disch:=omega) only [Jj,Aw,q,q2,hz,hw,hf,hf',Zs,Ys,Zo,Yv,Yj,Zf,Yb,Ao,Zk,Zx,Zj,Zi,Af,Ah,Ai,Ab,Aa];exact hn
    ·rw [AB h0,Bd] at hn ⊢;simp only [Aa] at hn ⊢;simp (disch:=omega) only [Jj,Aw,q,hz,hw,hf,hf',Zs,Xt,Zo,Yv,Yj,Zf,Yb,Ao,Zk,Zx,Zj,Af,Ah,Ai,Ab,Aa];exact hn
theorem v8f (h:l.all z1n=true): ∀e∈z0a l,bnd3 e=true∧e.b=0∧(e.c=1∨e.c= -1):=by
 have _uhl:=hl;intro e he;obtain ⟨s,hs,h1⟩:=AJ.1 he;have hv:=Ar.1 h s hs;simp only [z1n,Ae,At] at hv;simp only [AI,Bl,BS] at h1;rcases h1 with rfl | rfl
 ·exact ⟨An (by grind),rfl,.inl rfl⟩
 ·exact ⟨An (by grind),rfl,.inr rfl⟩
theorem u6t (hv:l.all z1n=true): ∀(k i:Nat) (acc:List R3),i+k=l.length→acc=z0a (l.take i)→ ∃n,Zt (Jj l) n (.to (.h1 acc (i:Int)))=.ret [.dat (swV l).length (Zz (swV l)),.int .i64 0]
 | 0,i,acc,h,ha=>by
  have e:acc=z0a l:=by grind
  subst e;have hle:=z5q l;have eY:=v8f l hl hv;have hb:y3e (z0a l)=true:=Ar.2 fun e he=>(eY e he).1;obtain ⟨hp,_⟩:=Qo (z0a l) hb;have hpl:=hp.length_eq;obtain ⟨n,hn⟩:=u6s l hl (z2k (z0a l)) (by omega) (fun i hi=>by
   grind [Yr]) (z2k (z0a l)).length 0 0 0 false [] (Af _) (by omega) (by omega) (Ay _)
  refine ⟨n+1,?_⟩;rw [Zw];simp (disch:=omega) only [Jj,Zc,Zq,hb,Ye,Yv,Yj,Ao,Ab,Aa];rw [←hpl];simp only [z4a,AS] at hn;exact hn
 | k+1,i,acc,h,ha=>by
  have hle:=z5q (l.take i);have fX:acc.length≤2*i:=by grind
  obtain ⟨n,hn⟩:=u6t hv k (i+1) (acc++z0a [rd l i]) (by omega) (by
   rw [ha,AX]
   grind [Yr,z0a])
  refine ⟨n+1,?_⟩;rw [Zw];simp (disch:=omega) only [Jj,Zs,Zo,Yc,Yj,Zf,Yb,Ao,Zk,Zx,Zj,Af,Ah,Ai,Ab];exact hn
theorem u6u : ∀(k i:Nat),i+k=l.length→(∀s∈l.take i,z1n s=true)→ ∃n,Zt (Jj l) n (.to (.h0 (i:Int)))=.ret (bif l.all z1n then [.dat (swV l).length (Zz (swV l)),.int .i64 0] else [.nils,.int .i64 8])
 | 0,i,h,ht=>by
  have hv:l.all z1n=true:=Ar.2 fun s hs=>ht s (by grind);obtain ⟨n,hn⟩:=u6t l hl hv l.length 0 [] (Af _) rfl;refine ⟨n+1,?_⟩
  grind [Zw,Jj]
 | k+1,i,h,ht=>by
  have hi:i<l.length:=by omega
  rcases Yw (z1n (rd l i)) with q | q
  ·obtain ⟨n,hn⟩:=u6u k (i+1) (by omega) (fun s hs=>by
    rw [AX] at hs
    grind [Yr])
   refine ⟨n+1,?_⟩
   grind [Zw,z1n,Jj,Zk]
  ·have hv:l.all z1n=false:=A0.2 fun e=>by
    grind [Yr]
   refine ⟨1,?_⟩;rw [Zw,hv,Aa];unfold z1n at q;rcases Yw (decide ((rd l i).a <(rd l i).b)) with q1 | q1 <;> rcases Yw (decide ((rd l i).a ≥ -1000000)) with q2 | q2 <;> rcases Yw (decide ((rd l i).b ≤1000000)) with q3 | q3 <;>
    rw [q1,q2,q3] at q <;> first
    | (exfalso;revert q;decide)
    | simp (disch:=omega) only [Jj,q1,q2,q3,Zs,dge_t,Zo,Zk,Zx,Zj,Aw,Az,Ah,Ab,Aa,Zp]
end
theorem j2s (l:List R2): ∃n,Zt (Jj l) n (y3r l)=.ret (x4x l):=by
 unfold y3r x4x;by_cases h:400<l.length
 ·refine ⟨0,?_⟩;rw [An h,Ys (show (l.length:Int)>400 by omega)];rfl
 ·obtain ⟨n,hn⟩:=u6u l (by omega) l.length 0 (Af _) (fun s hs=>by simp at hs)
  grind
def fSpm :List AVal→Option (AVal×Bool)
 | [a1]=>match asL R2 a1 with
  | some (L1,g1,n1)=>some (.tup [.dat (Xr L1).length (Zz (Xr L1)),.int .i64 (u6w L1)],isT R2 n1 g1&&y5z L1)
  | _=>none
 | _=>none
theorem j7o {S:Specs} (hS:Zu prog S):Zu prog (S.with x5z fSpm):=by
 refine w6l hS (by kernel_rfl) fun args v h=> ?_;unfold fSpm at h;split at h
 ·rename_i a1;split at h
  ·rename_i L1 g1 n1 e1;simp only [Ad,Ac,Ae] at h;obtain ⟨rfl,ho1,hw⟩:=h;obtain ⟨N,hN⟩:=j2s L1;refine ⟨_,x4x L1,(.cons (Yh e1 ho1) .nil),?_,u0k L1 N _ hN,3,?_⟩
   ·unfold Xr u6w x4x;cases decide (400<L1.length) <;> simp only [Ab,Aa]
    ·cases L1.all z1n <;> simp only [Ab,Aa]
     ·exact fun ρ u hu=>z6o (.cons (z2m R2) (RLe.refl _)) ρ u hu
     ·exact fun ρ u hu=>hu
    ·exact fun ρ u hu=>z6o (.cons (z2m R2) (RLe.refl _)) ρ u hu
   ·unfold x4x;cases decide (400<L1.length) <;> simp only [Ab,Aa]
    ·cases L1.all z1n <;> rfl
    ·rfl
  ·cases h
 ·cases h
def T6 :Specs:=T5.with x5z fSpm
theorem Kt :Zu prog T6:=j7o z0u
theorem y1v {γ:Type} (a b:Bool) (x y:γ):(bif a&&b then x else y)=bif a then (bif b then x else y) else y:=by grind
theorem y1u {γ:Type} (a:Bool) (x y:γ):(bif !a then x else y)=bif a then y else x:=by grind
structure Dim (α β:Type) where
 lo:α→Int
 hi:α→Int
 pr:α→β
 put:Int→Int→β→α
 ext:Int→α→α
 mak:List β→List β
 same:List β→List β→Bool
structure Sw (α β:Type) where
 out:List α
 last:List β
 first:Nat
 fin:Int
def Jg (zs:List Int):List Int:=compact (Xk zs)
theorem z7w (zs:List Int):v1y (Xk zs)=(Jg zs).length :=rfl
theorem Vg (zs:List Int):(Xk zs).length =zs.length:=List.length_mergeSort zs
theorem x3v (zs:List Int):(Jg zs).length ≤zs.length:=by have:=compact_length_le (Xk zs);rw [Vg] at this;exact this
theorem z4n (zs:List Int) (i:Nat) (h:i<(Jg zs).length):rd (Wy (Xk zs)) i=rd (Jg zs) i:=by
 change i<(compact (Xk zs)).length at h;show rd (compact (Xk zs)++_) i=rd (compact (Xk zs)) i
 grind [Yr]
theorem Qq (zs:List Int):Yq zs.length (cOf (Zz (Xk zs)))=Xk zs:=by
 grind [Jq,Vg]
namespace Dim
variable {α β:Type} (D:Dim α β) (l:List α)
def ends :List Int:=l.flatMap fun r=>[D.lo r,D.hi r]
def cuts :List Int:=Jg (D.ends l)
def inn (x:Int):List β:=(l.filter fun r=>decide (D.lo r≤x)&&decide (x<D.hi r)).map D.pr
def sec (x:Int):List β:=D.mak (D.inn l x)
def grow (out:List α) (k:Nat) (x:Int):List α:=out.take k++(out.drop k).map (D.ext x)
def one (x x':Int) (s:Sw α β):Sw α β:=
 bif decide (0<(D.sec l x).length)&&((s.fin == x)&&D.same s.last (D.sec l x)) then ⟨D.grow s.out s.first x',s.last,s.first,x'⟩
 else ⟨s.out++(D.sec l x).map (D.put x x'),D.sec l x,s.out.length,x'⟩
def go :Nat→Nat→Sw α β→Sw α β
 | 0,_,s=>s
 | k+1,i,s=>go k (i+1) (D.one l (rd (D.cuts l) i) (rd (D.cuts l) (i+1)) s)
def out :List α:=(D.go l ((D.cuts l).length - 1) 0 ⟨[],[],0,0⟩).out
theorem ends_length :(D.ends l).length =2*l.length:=by
 induction l with
 | nil=>rfl
 | cons r l ih=>show (_::_::D.ends l).length =_;grind
theorem cuts_length :(D.cuts l).length ≤2*l.length:=by have:=x3v (D.ends l);rw [D.ends_length] at this;exact this
theorem ends_append (m:List α):D.ends (l++m)=D.ends l++D.ends m:=by simp [ends]
theorem inn_append (m:List α) (x:Int):D.inn (l++m) x=D.inn l x++D.inn m x:=by simp [inn]
theorem inn_length (x:Int):(D.inn l x).length ≤l.length:=by grind [inn]
theorem inn_t (r:α) (x:Int) (h1:D.lo r≤x) (h2:x<D.hi r):D.inn [r] x=[D.pr r]:=by simp [inn,h1,h2]
theorem inn_f1 (r:α) (x:Int) (h1: ¬D.lo r≤x):D.inn [r] x=[]:=by simp [inn,h1]
theorem inn_f2 (r:α) (x:Int) (h1: ¬x<D.hi r):D.inn [r] x=[]:=by simp [inn,h1]
theorem grow_nil (out:List α) (k:Nat) (x:Int) (h:out.length≤k):D.grow out k x=out:=by unfold grow;rw [As h,BA,AC,A2 h]
theorem grow_length (out:List α) (k:Nat) (x:Int):(D.grow out k x).length =out.length:=by unfold grow;simp;omega
theorem grow_set [Xa α] (out:List α) (j:Nat) (x:Int) (h:j<out.length):D.grow (out.set j (D.ext x (rd out j))) (j+1) x=D.grow out j x:=by
 unfold grow;rw [Yg h,AU];have e1:(out.set j (D.ext x (rd out j))).take (j+1)=out.take j++[D.ext x (rd out j)]:=by
  apply BH;all_goals grind
 have e2:(out.set j (D.ext x (rd out j))).drop (j+1)=out.drop (j+1):=by rw [List.drop_set];grind
 grind
theorem one_length (x x':Int) (s:Sw α β):(D.one l x x' s).out.length ≤s.out.length+(D.sec l x).length :=by
 grind [one,grow_length]
end Dim
open Go.Proofs.Tryz
open Go.Proofs
inductive vl4S where
def vl4C (aJ:Int) (aO:Int) (aN:Int) (aQ:Int):vl4S→Cfg
 :=nofun
def x7w (aJ:Int) (aO:Int) (aN:Int) (aQ:Int):vl4S→Xw vl4S
 :=nofun
def y3m (aJ:Int) (aO:Int) (aN:Int) (aQ:Int):Xw vl4S:=(bif (decide (aJ<aN)) then (bif (decide (aO<aQ)) then (bif (decide (aJ≥(-1000000))) then (bif (decide (aJ≤1000000)) then (bif (decide (aN≥(-1000000))) then (bif (decide (aN≤1000000)) then (bif (decide (aO≥(-1000000))) then (bif (decide (aO≤1000000)) then (bif (decide (aQ≥(-1000000))) then (.ret [(.bool (decide (aQ≤1000000)))]) else (.ret [(.bool false)])) else (.ret [(.bool false)])) else (.ret [(.bool false)])) else (.ret [(.bool false)])) else (.ret [(.bool false)])) else (.ret [(.bool false)])) else (.ret [(.bool false)])) else (.ret [(.bool false)])) else (.ret [(.bool false)]))
theorem w7c (aJ:Int) (aO:Int) (aN:Int) (aQ:Int): ∀s,Xv prog (Zy prog 116) (vl4C aJ aO aN aQ) (vl4C aJ aO aN aQ s) (x7w aJ aO aN aQ s)
 :=nofun
theorem x7x (aJ:Int) (aO:Int) (aN:Int) (aQ:Int):Xv prog (Zy prog 116) (vl4C aJ aO aN aQ) (Za prog 116 [(.agg [(.int .i64 aJ),(.int .i64 aO),(.int .i64 aN),(.int .i64 aQ)])] true []) (y3m aJ aO aN aQ):=(lb (fun k0=>(lb (fun k1=>(lb (fun k2=>(lb (fun k3=>(lb (fun k4=>(lb (fun k5=>(lb (fun k6=>(lb (fun k7=>(lb (fun k8=>(lr 35 3 [1,1,1,1,0] 1 9 [(2,(.bool (decide (aQ≤1000000))))] (sl Kt 101 [] ⟨[],[],[some [2]],[]⟩ ⟨[],[],[]⟩ (trs 25 []) (tt k8 (tt k7 (tt k6 (tt k5 (tt k4 (tt k3 (tt k2 (tt k1 (tt k0 nn)))))))))))) (fun k8=>(lr 35 3 [1,1,1,1,0] 1 9 [(2,(.bool false))] (sl Kt 101 [] ⟨[],[],[some [2]],[]⟩ ⟨[],[],[]⟩ (trs 23 [false,false]) (tt k8 (tt k7 (tt k6 (tt k5 (tt k4 (tt k3 (tt k2 (tt k1 (tt k0 nn)))))))))))))) (fun k7=>(lr 35 3 [1,1,1,1,0] 1 9 [(2,(.bool false))] (sl Kt 86 [] ⟨[],[],[some [2]],[]⟩ ⟨[],[],[]⟩ (trs 20 [false,false,false]) (tt k7 (tt k6 (tt k5 (tt k4 (tt k3 (tt k2 (tt k1 (tt k0 nn))))))))))))) (fun k6=>(lr 35 3 [1,1,1,1,0] 1 9 [(2,(.bool false))] (sl Kt 86 [] ⟨[],[],[some [2]],[]⟩ ⟨[],[],[]⟩ (trs 18 [false,false,false,false,false]) (tt k6 (tt k5 (tt k4 (tt k3 (tt k2 (tt k1 (tt k0 nn)))))))))))) (fun k5=>(lr 35 3 [1,1,1,1,0] 1 9 [(2,(.bool false))] (sl Kt 71 [] ⟨[],[],[some [2]],[]⟩ ⟨[],[],[]⟩ (trs 15 [false,false,false,false,false,false]) (tt k5 (tt k4 (tt k3 (tt k2 (tt k1 (tt k0 nn))))))))))) (fun k4=>(lr 35 3 [1,1,1,1,0] 1 9 [(2,(.bool false))] (sl Kt 71 [] ⟨[],[],[some [2]],[]⟩ ⟨[],[],[]⟩ (trs 13 [false,false,false,false,false,false,false,false]) (tt k4 (tt k3 (tt k2 (tt k1 (tt k0 nn)))))))))) (fun k3=>(lr 35 3 [1,1,1,1,0] 1 9 [(2,(.bool false))] (sl Kt 56 [] ⟨[],[],[some [2]],[]⟩ ⟨[],[],[]⟩ (trs 10 [false,false,false,false,false,false,false,false,false]) (tt k3 (tt k2 (tt k1 (tt k0 nn))))))))) (fun k2=>(lr 35 3 [1,1,1,1,0] 1 9 [(2,(.bool false))] (sl Kt 56 [] ⟨[],[],[some [2]],[]⟩ ⟨[],[],[]⟩ (trs 8 [false,false,false,false,false,false,false,false,false,false,false]) (tt k2 (tt k1 (tt k0 nn)))))))) (fun k1=>(lr 35 3 [1,1,1,1,0] 1 9 [(2,(.bool false))] (sl Kt 41 [] ⟨[],[],[some [2]],[]⟩ ⟨[],[],[]⟩ (trs 5 [false,false,false,false,false,false,false,false,false,false,false,false]) (tt k1 (tt k0 nn))))))) (fun k0=>(lr 35 3 [1,1,1,1,0] 1 9 [(2,(.bool false))] (sl Kt 41 [] ⟨[],[],[some [2]],[]⟩ ⟨[],[],[]⟩ [false,false,false,false,false,false,false,false,false,false,false,false,false,false,false,false,false] (tt k0 nn)))))
theorem u0c (aJ:Int) (aO:Int) (aN:Int) (aQ:Int) (n:Nat) (vs:List AVal) (h:Zt (x7w aJ aO aN aQ) n (y3m aJ aO aN aQ)=.ret vs):Uv prog (Zy prog 116) (Za prog 116 [(.agg [(.int .i64 aJ),(.int .i64 aO),(.int .i64 aN),(.int .i64 aQ)])] true []) vs:=by have:=Ze (w7c aJ aO aN aQ) n _ (x7x aJ aO aN aQ);rwa [h] at this
inductive madS where
 | h0 (v16:Int) (aD:List Int)
 | h1 (v4:Int) (bM:List R4) (cH:List R2) (cN:Int) (cO:Int) (bJ:Nat) (bO:List Int)
 | h2 (v4:Int) (v38:Int) (bM:List R4) (cH:List R2) (cN:Int) (cO:Int) (bJ:Nat) (bO:List Int) (aB:Int) (cW:Int) (aM:List R2)
 | h3 (v1:Int) (v2:Int) (v71:List R2) (v72:Int) (v73:Int) (cF:List R2) (aY:Int) (aC:List R4) (bH:List R2) (bE:Int) (bJ:Nat) (bO:List Int) (aB:List R2)
 | h4 (v2:Int) (v8:Int) (cZ:Int) (cF:List R2) (aY:Int) (aC:List R4) (bH:List R2) (bE:Int) (bT:Int) (cQ:Nat) (cY:List Int) (aM:List R2)
abbrev x1c (aC:List R4) (v8:Int) (v2:Int):=(aC.set (0+(tn v8)) (R4.mk (rd aC (0+(tn v8))).a (rd aC (0+(tn v8))).b v2 (rd aC (0+(tn v8))).d))
abbrev x1b (aD:List Int):=(Wy (Yq aD.length (cOf (Zz (Xk (Yq aD.length (cOf (Zz aD))))))))
def j1b :AFr:=⟨⟨29,0,true⟩,none,(.inRangeFunc 0::(Zg prog 117 [1,1,0,1,0] 1)),none,(Zy prog 14),Yk [(2,.nils),(3,(ii 0)),(4,(.ptr 1 0))]⟩
def j1a :=(z9k [(0,⟨.ready,none,29,Yk [(4,(.ptr 1 0))],[11],(Wq prog 117 [1,1,0,1,0,0]),(Wq prog 117 [1,1,0,1,0,1])⟩)])
abbrev x1a (aM:List R2) (l0:List R4) (v38:Int):=(aM++[(R2.mk (rd l0 (tn v38)).b (rd l0 (tn v38)).d)])
abbrev x0z (aC:List R4) (v1:Int) (v71:List R2) (v73:Int) (v2:Int):=(aC++[(R4.mk v1 (rd v71 (tn v73)).a v2 (rd v71 (tn v73)).b)])
def x6b (l0:List R4):ABlk:=⟨[(.dat l0.length (Zz l0))],80,none⟩
abbrev x0y (aD:List Int) (l0:List R4) (v16:Int):=(aD++[(rd l0 (tn v16)).a,(rd l0 (tn v16)).c])
def madC (l0:List R4):madS→Cfg
 | .h0 v16 aD=>⟨⟨34,0,true⟩,none,(Zg prog 155 [1,1,0,1,0,0,1,1,0,0,1,1,0,0] 0),none,(Zy prog 9),⟨Yk [(1,(.ptr 0 0)),(3,(.ptr 2 0)),(8,(.sl 1 0 1 (.un 1))),(9,(ii 1)),(10,(ii 0)),(14,(.dat l0.length (Zz l0))),(15,(ii (l0.length:Int))),(16,(ii v16))],Vv [⟨[(.sl 1 0 1 (.un 1))],182,none⟩,(x6b l0),⟨[(.sla 4 1 0 aD.length (.un 1))],125,none⟩,⟨[.nils,.nils,(ii 0),(ii 0)],157,none⟩,⟨Ym aD.length (Zz aD),3,some ⟨1,aD.length,(Zz aD)⟩⟩] 0,5,[],true⟩,[⟨⟨29,0,true⟩,(Wr prog 117 [1,1,0,0] 2),(Zg prog 117 [1,1,0,0] 1),none,(Zy prog 14),Yk [(2,.nils),(3,(ii 0)),(4,(.ptr 3 0)),(9,(.sl 1 0 1 (.un 1)))]⟩],.leaf⟩
 | .h1 v4 bM cH cN cO bJ bO=>⟨⟨76,0,true⟩,none,(Zg prog 176 [1,0,0] 0),none,[],⟨Yk [(0,(.yld 0)),(1,(.ptr 2 0)),(2,(.ptr 4 0)),(4,(ii v4))],z5j [(1,⟨[(.sla 6 4 0 bM.length (.un 4)),(.dat cH.length (Zz cH)),(ii cN),(ii cO)],157,none⟩),(2,⟨[(.sla 3 1 0 bJ (.un 1))],125,none⟩),(3,⟨Ym bO.length (Zz bO),3,some ⟨1,bO.length,(Zz bO)⟩⟩),(4,⟨[(.sl 5 0 1 (.un 1))],182,none⟩),(5,(x6b l0)),(6,⟨Ym bM.length (Zz bM),116,some ⟨4,bM.length,(Zz bM)⟩⟩)],7,[],true⟩,[j1b],j1a⟩
 | .h2 v4 v38 bM cH cN cO bJ bO aB cW aM=>⟨⟨76,0,true⟩,none,(Zg prog 176 [1,0,0,1,0,0,1,0,1,0,0,1,1,0,0,1,1,0,0] 0),none,[],⟨Yk [(0,(.yld 0)),(1,(.ptr 2 0)),(2,(.ptr 4 0)),(4,(ii v4)),(5,(.ptr 6 0)),(6,(ii 0)),(29,(.sl 5 0 1 (.un 1))),(30,(ii 1)),(31,(ii 0)),(36,(.dat l0.length (Zz l0))),(37,(ii (l0.length:Int))),(38,(ii v38))],z5j [(1,⟨[(.sla 9 4 0 bM.length (.un 4)),(.dat cH.length (Zz cH)),(ii cN),(ii cO)],157,none⟩),(2,⟨[(.sla 3 1 0 bJ (.un 1))],125,none⟩),(3,⟨Ym bO.length (Zz bO),3,some ⟨1,bO.length,(Zz bO)⟩⟩),(4,⟨[(.sl 5 0 1 (.un 1))],182,none⟩),(5,(x6b l0)),(6,⟨[(ii aB),(ii cW),(.sl 7 0 1 (.ex 1))],162,none⟩),(7,⟨[(.sla 8 2 0 aM.length (.un 2))],155,none⟩),(8,⟨Ym aM.length (Zz aM),176,some ⟨2,aM.length,(Zz aM)⟩⟩),(9,⟨Ym bM.length (Zz bM),116,some ⟨4,bM.length,(Zz bM)⟩⟩)],10,[],true⟩,[j1b],j1a⟩
 | .h3 v1 v2 v71 v72 v73 cF aY aC bH bE bJ bO aB=>⟨⟨94,0,true⟩,none,(Zg prog 120 [1,1,1,0,0] 0),none,[],⟨Yk [(0,(.ptr 0 0)),(1,(ii v1)),(2,(ii v2)),(71,(.dat v71.length (Zz v71))),(72,(ii v72)),(73,(ii v73))],z5j [(0,⟨[(.sla 7 4 0 aC.length (.un 4)),(.dat bH.length (Zz bH)),(ii bE),(ii v2)],157,none⟩),(2,⟨[(.sla 3 1 0 bJ (.un 1))],125,none⟩),(3,⟨Ym bO.length (Zz bO),3,some ⟨1,bO.length,(Zz bO)⟩⟩),(4,⟨[(.sl 5 0 1 (.un 1))],182,none⟩),(5,(x6b l0)),(6,⟨[(.dat aB.length (Zz aB))],155,none⟩),(7,⟨Ym aC.length (Zz aC),116,some ⟨4,aC.length,(Zz aC)⟩⟩)],8,[],true⟩,[⟨⟨29,0,true⟩,(Wr prog 117 [1,1,0,1,0,1,0,1] 5),(Zg prog 117 [1,1,0,1,0,1,0,1] 1),(some 1),[],Yk [(4,(.ptr 0 0)),(21,(ii v1)),(23,(ii v2)),(24,(.dat cF.length (Zz cF)))]⟩,⟨⟨76,0,true⟩,(Wr prog 176 [1,0,0,1,0,0,1,1,0] 2),(Zg prog 176 [1,0,0,1,0,0,1,1,0] 1),none,[],Yk [(0,(.yld 1)),(1,(.ptr 2 0)),(2,(.ptr 4 0)),(4,(ii aY)),(72,(.yld 1)),(73,(.agg [(ii v1),(ii v2),(.sl 6 0 1 (.ex 1))]))]⟩,⟨⟨29,0,true⟩,none,(.inRangeFunc 1::(Zg prog 117 [1,1,0,1,0] 1)),none,(Zy prog 14),Yk [(2,.nils),(3,(ii 0)),(4,(.ptr 0 0))]⟩],(z9k [(1,⟨.busy,none,29,Yk [(4,(.ptr 0 0))],[11],(Wq prog 117 [1,1,0,1,0,0]),(Wq prog 117 [1,1,0,1,0,1])⟩)])⟩
 | .h4 v2 v8 cZ cF aY aC bH bE bT cQ cY aM=>⟨⟨94,0,true⟩,none,(Zg prog 120 [0,1,0,0,1,0,0] 0),none,[],⟨Yk [(0,(.ptr 0 0)),(2,(ii v2)),(8,(ii v8))],z5j [(0,⟨[(.sla 1 4 0 aC.length (.un 4)),(.dat bH.length (Zz bH)),(ii bE),(ii bT)],157,none⟩),(1,⟨Ym aC.length (Zz aC),116,some ⟨4,aC.length,(Zz aC)⟩⟩),(3,⟨[(.sla 4 1 0 cQ (.un 1))],125,none⟩),(4,⟨Ym cY.length (Zz cY),3,some ⟨1,cY.length,(Zz cY)⟩⟩),(5,⟨[(.sl 6 0 1 (.un 1))],182,none⟩),(6,(x6b l0)),(7,⟨[(.dat aM.length (Zz aM))],155,none⟩)],8,[],true⟩,[⟨⟨29,0,true⟩,(Wr prog 117 [1,1,0,1,0,1,0,1] 5),(Zg prog 117 [1,1,0,1,0,1,0,1] 1),(some 2),[],Yk [(4,(.ptr 0 0)),(21,(ii cZ)),(23,(ii v2)),(24,(.dat cF.length (Zz cF)))]⟩,⟨⟨76,0,true⟩,(Wr prog 176 [1,0,0,1,0,0,1,1,0] 2),(Zg prog 176 [1,0,0,1,0,0,1,1,0] 1),none,[],Yk [(0,(.yld 2)),(1,(.ptr 3 0)),(2,(.ptr 5 0)),(4,(ii aY)),(72,(.yld 2)),(73,(.agg [(ii cZ),(ii v2),(.sl 7 0 1 (.ex 1))]))]⟩,⟨⟨29,0,true⟩,none,(.inRangeFunc 2::(Zg prog 117 [1,1,0,1,0] 1)),none,(Zy prog 14),Yk [(2,.nils),(3,(ii 0)),(4,(.ptr 0 0))]⟩],(z9k [(2,⟨.busy,none,29,Yk [(4,(.ptr 0 0))],[11],(Wq prog 117 [1,1,0,1,0,0]),(Wq prog 117 [1,1,0,1,0,1])⟩)])⟩
def madN0 :List (Option (List Nat)):=[some [1,3,8,9,10,14,15,16],some [2,3,4,9]]
def madM0 :List (Option (List Nat)):=[]
def j6k :List (Option (List Nat)):=[some [0,1,2,4],some [2,3,4]]
def j6l :List (Option (List Nat)):=[some [4],none,none,none,none,none,none]
def u4c :List (Option (List Nat)):=[some [0,1,2,4,5,6,29,30,31,36,37,38],some [2,3,4]]
def u4e :List (Option (List Nat)):=[some [4],none,none,none,none,none,none,none,none,none]
def u4b :List (Option (List Nat)):=[some [0,1,2,71,72,73],some [4,21,23,24],some [0,1,2,4,72,73],some [2,3,4]]
def u4d :List (Option (List Nat)):=[none,some [4],none,none,none,none,none,none]
def madN4 :List (Option (List Nat)):=[some [0,2,8],some [4,21,23,24],some [0,1,2,4,72,73],some [2,3,4]]
def madM4 :List (Option (List Nat)):=[none,none,some [4],none,none,none,none,none]
def Wu (l0:List R4):madS→Xw madS
 | .h0 v16 aD=>(bif (decide (v16<(l0.length:Int))) then (bif ((decide (0≤v16∧v16<(l0.length:Int)))&&true) then (bif (Nat.beq 1 1&&((decide (0+aD.length=aD.length))&&decide ((aD.length+2+1)*(8+1)≤Jo))) then (.to (.h0 (wrap .i64 (v16+1)) (aD++[(rd l0 v16.toNat).a,(rd l0 v16.toNat).c]))) else .stuck) else .stuck) else (bif (decide (aD.length<4611686018427387904)) then (bif (decide (aD.length=aD.length)) then (.to (.h1 1 ([]:List R4) ([]:List R2) 0 0 (v1y (Yq aD.length (cOf (Zz (Xk (Yq aD.length (cOf (Zz aD)))))))) (Wy (Yq aD.length (cOf (Zz (Xk (Yq aD.length (cOf (Zz aD)))))))))) else .stuck) else .stuck))
 | .h1 v4 bM cH cN cO bJ bO=>(bif (decide (v4<((bJ:Nat):Int))) then (bif ((decide (0≤(wrap .i64 (v4 - 1))∧(wrap .i64 (v4 - 1))<((bJ:Nat):Int)))&&true) then (bif (decide ((0+(Int.toNat (wrap .i64 (v4 - 1))))<bO.length)) then (bif ((decide (0≤v4∧v4<((bJ:Nat):Int)))&&true) then (bif (decide ((0+v4.toNat)<bO.length)) then (.to (.h2 v4 0 bM cH cN cO bJ bO (rd bO (0+(Int.toNat (wrap .i64 (v4 - 1))))) (rd bO (0+v4.toNat)) ([]:List R2))) else .stuck) else .stuck) else .stuck) else .stuck) else (bif (decide ((bM.length:Int)>400)) then (.ret [.nils,(.int .i64 4)]) else (.ret [(.dat bM.length (Zz bM)),(.int .i64 0)])))
 | .h2 v4 v38 bM cH cN cO bJ bO aB cW aM=>(bif (decide (v38<(l0.length:Int))) then (bif ((decide (0≤v38∧v38<(l0.length:Int)))&&true) then (bif (decide ((rd l0 v38.toNat).a ≤aB)) then (bif (decide (aB<(rd l0 v38.toNat).c)) then (bif (Nat.beq 2 2&&((decide (0+aM.length=aM.length))&&decide ((aM.length+1+1)*(16+1)≤Jo))) then (.to (.h2 v4 (wrap .i64 (v38+1)) bM cH cN cO bJ bO aB cW (aM++[(R2.mk (rd l0 v38.toNat).b (rd l0 v38.toNat).d)]))) else .stuck) else (.to (.h2 v4 (wrap .i64 (v38+1)) bM cH cN cO bJ bO aB cW aM))) else (.to (.h2 v4 (wrap .i64 (v38+1)) bM cH cN cO bJ bO aB cW aM))) else .stuck) else (bif (y5z (cvT aM)) then (bif (decide ((((Xr (cvT aM)).length :Nat):Int)>0)) then (bif (cO == aB) then (bif (Uy (cvT cH) (cvT (Xr (cvT aM)))) then (bif (Qr (cvT cH) (cvT (Xr (cvT aM)))) then (.to (.h4 cW cN aB (Xr (cvT aM)) v4 bM cH cN cO bJ bO aM)) else (.to (.h3 aB cW (Xr (cvT aM)) (((Xr (cvT aM)).length :Nat):Int) 0 (Xr (cvT aM)) v4 bM (Xr (cvT aM)) (bM.length:Int) bJ bO aM))) else .stuck) else (.to (.h3 aB cW (Xr (cvT aM)) (((Xr (cvT aM)).length :Nat):Int) 0 (Xr (cvT aM)) v4 bM (Xr (cvT aM)) (bM.length:Int) bJ bO aM))) else (.to (.h3 aB cW (Xr (cvT aM)) (((Xr (cvT aM)).length :Nat):Int) 0 (Xr (cvT aM)) v4 bM (Xr (cvT aM)) (bM.length:Int) bJ bO aM))) else .stuck))
 | .h3 v1 v2 v71 v72 v73 cF aY aC bH bE bJ bO aB=>(bif (decide (v73<v72)) then (bif ((decide (0≤v73∧v73<(v71.length:Int)))&&true) then (bif (Nat.beq 4 4&&((decide (0+aC.length=aC.length))&&decide ((aC.length+1+1)*(32+1)≤Jo))) then (.to (.h3 v1 v2 v71 v72 (wrap .i64 (v73+1)) cF aY (aC++[(R4.mk v1 (rd v71 v73.toNat).a v2 (rd v71 v73.toNat).b)]) bH bE bJ bO aB)) else .stuck) else .stuck) else (.to (.h1 (wrap .i64 (aY+1)) aC bH bE v2 bJ bO)))
 | .h4 v2 v8 cZ cF aY aC bH bE bT cQ cY aM=>(bif (decide (v8<(aC.length:Int))) then (bif ((decide (0≤v8∧v8<(aC.length:Int)))&&true) then (bif (decide ((0+v8.toNat)<aC.length)) then (.to (.h4 v2 (wrap .i64 (v8+1)) cZ cF aY (aC.set (0+v8.toNat) (R4.mk (rd aC (0+v8.toNat)).a (rd aC (0+v8.toNat)).b v2 (rd aC (0+v8.toNat)).d)) bH bE bT cQ cY aM)) else .stuck) else .stuck) else (.to (.h1 (wrap .i64 (aY+1)) aC bH bE v2 cQ cY)))
def x3g (l0:List R4):Xw madS:=(.to (.h0 0 ([]:List Int)))
theorem w9p (l0:List R4): ∀s,Xv prog (Zy prog 117) (madC l0) (madC l0 s) (Wu l0 s)
 | .h0 v16 aD=>(lb (fun k0=>(lo fun o0=>(lo fun o1=>(sl Kt 32 [] ⟨[0,1,2,3,7],[],madN0,madM0⟩ ⟨[],[.keep,.keep,.cells [.len (x0y aD l0 v16).length],.keep,.rowed 1 (x0y aD l0 v16).length (Zz (x0y aD l0 v16))],[]⟩ [true] (pp (xL (aD.length+2) (x0y aD l0 v16).length) (pp (xL (aD.length+2) (x0y aD l0 v16).length) (pp (xS (aD.length+2) (Zr (Zz aD) 0 aD.length 1 [(ii (rd l0 (tn v16)).a),(ii (rd l0 (tn v16)).c)]) (Zz (x0y aD l0 v16))) (pp (pp (xF (Zr (Zz aD) 0 aD.length 1 [(ii (rd l0 (tn v16)).a),(ii (rd l0 (tn v16)).c)])) nn) (ww o1 (ww o0 (tt k0 nn))))))))))) (fun k0=>(lo fun o0=>(lo fun o1=>(sl Kt 46 [(116,4,Zz ([]:List R4))] ⟨[5,3,2,4,0,1,6],[],j6k,j6l⟩ ⟨[],[.keep,.cells [.grow 6 4,.list 0 (Zz ([]:List R2)),.keep,.keep],.keep,.rowed 1 (x1b aD).length (Zz (x1b aD)),.keep,.keep,.keep],[]⟩ (bl 2 0) (pp (xL aD.length (x1b aD).length (by first | exact z1d _ _ | exact Vo rfl)) (pp (xS aD.length (Zz (x1b aD)) (Zz (x1b aD))) (pp (fl (x1b aD) (fl ([]:List R4) nn)) (pp (pp (xG (Nat.beq 1 1)) (pp (xG (Nat.beq 1 1)) (pp (xG (Nat.beq 0 0)) (pp (xG (decide (aD.length=aD.length))) (pp (xG (isI (Zz (Xk (Yq aD.length (cOf (Zz aD))))))) (xG (decide (aD.length<4611686018427387904)))))))) (pp (pp (xG (Nat.beq 1 1)) (pp (xG (Nat.beq 1 1)) (pp (xG (Nat.beq 0 0)) (pp (xG (decide (aD.length=aD.length))) (pp (xG (isI (Zz aD))) (xG (decide (aD.length<4611686018427387904)))))))) (tt k0 nn)))))))))))
 | .h1 v4 bM cH cN cO bJ bO=>(lb (fun k0=>(lo fun o0=>(lo fun o1=>(lo fun o2=>(lo fun o3=>(sl Kt 48 [(176,2,Zz ([]:List R2))] ⟨[0,1,2,3,4,5,7,8,9,6],[],u4c,u4e⟩ ⟨[],(kpB 7 [.cells [.grow 8 2],.keep,.keep]),[]⟩ (trs 3 []) (pp (fl bO (fl ([]:List R2) (fl bM nn))) (ww o3 (ww o2 (ww o1 (ww o0 (tt k0 nn)))))))))))) (fun k0=>(lb (fun k1=>(lr 29 3 [1,1,1,1,0] 1 14 [(2,.nils),(3,(ii 4))] (sl Kt 43 [] ⟨[],[],[some [2,3]],[]⟩ ⟨[],[],[]⟩ (bl 2 2) (tt k1 (tt k0 nn))))) (fun k1=>(lr 29 3 [1,1,1,1,0] 1 14 [(2,(.dat bM.length (Zz bM))),(3,(ii 0))] (sl Kt 48 [] ⟨[],[6],[some [2,3]],[]⟩ ⟨[(2,.frz bM.length bM.length (Zz bM) (Zz bM))],[],[]⟩ (bl 2 0) (pp (xZ (z4o 4 4 0 bM.length bM.length (Zz bM)) bM.length (Zz bM)) (pp (xL bM.length bM.length) (pp (xS bM.length (Zz bM) (Zz bM)) (pp (fl bM nn) (tt k1 (tt k0 nn))))))))))))
 | .h2 v4 v38 bM cH cN cO bJ bO aB cW aM=>(lb (fun k0=>(lo fun aI=>(lb (fun k1=>(lb (fun k2=>(lo fun o0=>(sl Kt 39 [] ⟨[0,1,2,3,4,5,6,7,12,9],[],u4c,u4e⟩ ⟨[],(kpB 7 [.cells [.len (x1a aM l0 v38).length],.rowed 2 (x1a aM l0 v38).length (Zz (x1a aM l0 v38)),.keep]),[]⟩ (trs 7 []) (pp (xL (aM.length+1) (x1a aM l0 v38).length) (pp (xL (aM.length+1) (x1a aM l0 v38).length) (pp (xS (aM.length+1) (Zr (Zz aM) 0 aM.length 2 [(ii (rd l0 (tn v38)).b),(ii (rd l0 (tn v38)).d)]) (Zz (x1a aM l0 v38))) (pp (fl bO (pp (xF (Zr (Zz aM) 0 aM.length 2 [(ii (rd l0 (tn v38)).b),(ii (rd l0 (tn v38)).d)])) (fl bM nn))) (ww o0 (tt k2 (tt k1 (ww aI (tt k0 nn)))))))))))) (fun k2=>(sl Kt 39 [] ⟨(List.range 10),[],u4c,u4e⟩ ⟨[],[],[]⟩ (trs 6 [false]) (pp (fl bO (fl aM (fl bM nn))) (tt k2 (tt k1 (ww aI (tt k0 nn))))))))) (fun k1=>(sl Kt 39 [] ⟨(List.range 10),[],u4c,u4e⟩ ⟨[],[],[]⟩ (bl 7 1) (pp (fl bO (fl aM (fl bM nn))) (tt k1 (ww aI (tt k0 nn))))))))) (fun k0=>(Xd (sl Kt (C':=⟨⟨29,0,true⟩,(Wr prog 117 [1,1,0,1,0,1,0,0] 4),(Zg prog 117 [1,1,0,1,0,1,0,0] 1),(some 0),[],⟨Yk [(4,(.ptr 1 0)),(5,(.ptr 3 0)),(16,(.dat aM.length (Zz aM)))],z5j [(1,⟨[(.sla 2 4 0 bM.length (.un 4)),(.dat cH.length (Zz cH)),(ii cN),(ii cO)],157,none⟩),(2,⟨Ym bM.length (Zz bM),116,some ⟨4,bM.length,(Zz bM)⟩⟩),(3,⟨[(ii aB),(ii cW),(.sl 4 0 1 (.ex 1))],162,none⟩),(4,⟨[(.dat aM.length (Zz aM))],155,none⟩),(5,⟨[(.sla 6 1 0 bJ (.un 1))],125,none⟩),(6,⟨Ym bO.length (Zz bO),3,some ⟨1,bO.length,(Zz bO)⟩⟩),(7,⟨[(.sl 8 0 1 (.un 1))],182,none⟩),(8,⟨[(.dat l0.length (Zz l0))],80,none⟩)],9,[],true⟩,[⟨⟨76,0,true⟩,(Wr prog 176 [1,0,0,1,0,0,1,1,0] 2),(Zg prog 176 [1,0,0,1,0,0,1,1,0] 1),none,[],Yk [(0,(.yld 0)),(1,(.ptr 5 0)),(2,(.ptr 7 0)),(4,(ii v4)),(72,(.yld 0)),(73,(.agg [(ii aB),(ii cW),(.sl 4 0 1 (.ex 1))]))]⟩,⟨⟨29,0,true⟩,none,(.inRangeFunc 0::(Zg prog 117 [1,1,0,1,0] 1)),none,(Zy prog 14),Yk [(2,.nils),(3,(ii 0)),(4,(.ptr 1 0))]⟩],(z9k [(0,⟨.busy,none,29,Yk [(4,(.ptr 1 0))],[11],(Wq prog 117 [1,1,0,1,0,0]),(Wq prog 117 [1,1,0,1,0,1])⟩)])⟩) 37 [] ⟨[0,1,9,10,7,2,3,4,5],[8],[some [4,5,16],some [0,1,2,4,72,73],some [2,3,4]],[some [4],none,none,none,none,none,none,none,none]⟩ ⟨[(16,.frz aM.length aM.length (Zz aM) (Zz aM))],[.keep,.keep,.keep,.keep,.cells [.frz aM.length aM.length (Zz aM) (Zz aM)],.keep,.keep,.keep,.keep],[]⟩ (bl 2 0) (pp (xZ (z4o 2 2 0 aM.length aM.length (Zz aM)) aM.length (Zz aM)) (pp (xL aM.length aM.length) (pp (xS aM.length (Zz aM) (Zz aM)) (pp (xZ (z4o 2 2 0 aM.length aM.length (Zz aM)) aM.length (Zz aM)) (pp (xL aM.length aM.length) (pp (xS aM.length (Zz aM) (Zz aM)) (pp (fl bM (fl bO nn)) (pp (fl aM nn) (tt k0 nn)))))))))) (lo fun aI=>(lb (fun k1=>(lb (fun k2=>(lo fun cA=>(lb (fun k3=>(sl Kt 49 [] ⟨[1,2,0,5,6,7,8,4],[],madN4,madM4⟩ ⟨[],[],[]⟩ (trs 13 []) (pp (fl bM (fl bO nn)) (tt k3 (pp (pp (xr cH) (pp (xI R2 (Xr (cvT aM)).length (Zz (Xr (cvT aM)))) (xw cA))) (tt k2 (tt k1 (pp (pp (xr aM) (xw aI)) nn)))))))) (fun k3=>(sl Kt 69 [] ⟨[1,0,5,6,7,8,4,2],[],u4b,u4d⟩ ⟨[],[],[]⟩ (trs 12 [false]) (pp (fl bO (fl bM nn)) (tt k3 (pp (pp (xr cH) (pp (xI R2 (Xr (cvT aM)).length (Zz (Xr (cvT aM)))) (xw cA))) (tt k2 (tt k1 (pp (pp (xr aM) (xw aI)) nn))))))))))) (fun k2=>(sl Kt 69 [] ⟨[1,0,5,6,7,8,4,2],[],u4b,u4d⟩ ⟨[],[],[]⟩ (trs 6 (bl 7 0)) (pp (fl bO (fl bM nn)) (tt k2 (tt k1 (pp (pp (xr aM) (xw aI)) nn)))))))) (fun k1=>(sl Kt 69 [] ⟨[1,0,5,6,7,8,4,2],[],u4b,u4d⟩ ⟨[],[],[]⟩ (bl 13 0) (pp (fl bO (fl bM nn)) (tt k1 (pp (pp (xr aM) (xw aI)) nn))))))))))
 | .h3 v1 v2 v71 v72 v73 cF aY aC bH bE bJ bO aB=>(lb (fun k0=>(lo fun o0=>(lo fun o1=>(sl Kt 23 [] ⟨[0,1,2,3,4,5,6,10],[],u4b,u4d⟩ ⟨[],[.cells [.len (x0z aC v1 v71 v73 v2).length,.keep,.keep,.keep],.keep,.keep,.keep,.keep,.keep,.keep,.rowed 4 (x0z aC v1 v71 v73 v2).length (Zz (x0z aC v1 v71 v73 v2))],[]⟩ [true] (pp (xL (aC.length+1) (x0z aC v1 v71 v73 v2).length) (pp (xL (aC.length+1) (x0z aC v1 v71 v73 v2).length) (pp (xS (aC.length+1) (Zr (Zz aC) 0 aC.length 4 [(ii v1),(ii (rd v71 (tn v73)).a),(ii v2),(ii (rd v71 (tn v73)).b)]) (Zz (x0z aC v1 v71 v73 v2))) (pp (fl bO (pp (xF (Zr (Zz aC) 0 aC.length 4 [(ii v1),(ii (rd v71 (tn v73)).a),(ii v2),(ii (rd v71 (tn v73)).b)])) nn)) (ww o1 (ww o0 (tt k0 nn))))))))))) (fun k0=>(sl Kt 22 [] ⟨[1,0,2,3,4,5,7],[],j6k,j6l⟩ ⟨[],[],[]⟩ (bl 2 0) (pp (fl bO (fl aC nn)) (tt k0 nn)))))
 | .h4 v2 v8 cZ cF aY aC bH bE bT cQ cY aM=>(lb (fun k0=>(lo fun o0=>(lo fun o1=>(sl Kt 33 [] ⟨(List.range 8),[],madN4,madM4⟩ ⟨[],[.cells [.len (x1c aC v8 v2).length,.keep,.keep,.keep],.rowed 4 (x1c aC v8 v2).length (Zz (x1c aC v8 v2)),.keep,.keep,.keep,.keep,.keep,.keep],[]⟩ [true] (pp (xL aC.length (x1c aC v8 v2).length) (pp (xL aC.length (x1c aC v8 v2).length) (pp (xS aC.length (Xm (Zz aC) (0+(tn v8)) 2 [(ii v2)]) (Zz (x1c aC v8 v2))) (pp (pp (xF (Xm (Zz aC) (0+(tn v8)) 2 [(ii v2)])) (fl cY nn)) (ww o1 (ww o0 (tt k0 nn))))))))))) (fun k0=>(sl Kt 36 [] ⟨[2,0,3,4,5,6,1],[],j6k,j6l⟩ ⟨[],[],[]⟩ (bl 2 0) (pp (fl cY (fl aC nn)) (tt k0 nn)))))
theorem w0z (l0:List R4):Xv prog (Zy prog 117) (madC l0) (Za prog 117 [(.dat l0.length (Zz l0))] true []) (x3g l0):=(sl Kt 56 [(3,1,Zz ([]:List Int))] ⟨[2,1,3,0,4],[],madN0,madM0⟩ ⟨[],[.keep,.keep,.cells [.grow 4 1],.keep,.keep],[]⟩ [true] (pp (fl ([]:List Int) nn) nn))
theorem u4a (l0:List R4) (n:Nat) (vs:List AVal) (h:Zt (Wu l0) n (x3g l0)=.ret vs):Uv prog (Zy prog 117) (Za prog 117 [(.dat l0.length (Zz l0))] true []) vs:=by have:=Ze (w9p l0) n _ (w0z l0);rwa [h] at this
open Go.Sort Go.Shelf Go.RowKit Go.Lib
theorem x6u {i n:Nat} (h:i<n):decide ((i:Int)<(n:Int))=true:=by grind
theorem z5n {σ:Type} (step:σ→Xw σ) (a b:Nat) (s:Xw σ):Zt step (a+b) s=Zt step a (Zt step b s):=by
 induction b generalizing s with
 | zero=>cases s <;> simp [Zt]
 | succ b ih=>cases s with
  | to s=>exact ih (step s)
  | ret vs=>simp only [Zp]
  | stuck=>cases a <;> cases b <;> rfl
theorem w6o {i:Nat}:decide ((i:Int)≥0)=true:=by grind
def Qw {α:Type} [Xa α] (out:List α):List AVal:=bif decide ((out.length:Int)>400) then [.nils,.int .i64 4] else [.dat out.length (Zz out),.int .i64 0]
def z8w {α:Type} [Xa α] (e:Int) (L:List α):List AVal:=bif e != 0 then [.nils,.int .i64 e] else [.dat L.length (Zz L),.int .i64 0]
def y7s {α:Type} (e:Int) (L:List α):List α:=bif e != 0 then [] else L
theorem z0n {α:Type} [Xa α] (e:Int) (L:List α) (ρ:Rho) (u:Value) (hu:Yy ρ (Up (z8w e L)) u):Yy ρ (.tup [.dat (y7s e L).length (Zz (y7s e L)),.int .i64 e]) u:=by
 unfold z8w at hu;unfold y7s;by_cases h:e=0
 ·subst h;exact hu
 ·have h:(e != 0)=true:=by simpa using h
  rw [h] at hu ⊢;exact z6o (.cons (z2m α) (RLe.refl _)) ρ u hu
theorem z5f {α:Type} [Xa α] (e:Int) (L:List α):pf 3 (Up (z8w e L))=true:=by unfold z8w;cases (e != 0) <;> rfl
def y5j (n:Nat):Int:=bif decide ((n:Int)>400) then 4 else 0
theorem y0c {α:Type} [Xa α] (L:List α):Qw L=z8w (y5j L.length) L:=by
 grind [Qw,z8w,y5j]
theorem Vn {α:Type} [Xa α] {e:Int} (L:List α) (h:(e != 0)=true):z8w e L=[.nils,.int .i64 e]:=by unfold z8w;rw [h];rfl
theorem y9k : ∀(L:List R3) (o last:Int) (inn:Bool) (out:List R2),(swF L o last inn out).length ≤out.length+L.length
 | [],_,_,_,out=>Aq _
 | e::r,o,last,inn,out=>by rw [y3o];have:=y9k r (o+e.c) e.a (decide (o+e.c>0)) (Ug out last inn e.a);have:=z3z out last inn e.a;simp only [Br];omega
theorem y5y (l:List R3):(z2k l).length =l.length:=by
 by_cases h:y3e l=true
 ·exact (Qo l h).1.length_eq
 ·unfold z2k;grind
theorem x8m (l:List R2):(Xr l).length ≤800:=by
 grind [Xr,swV,y9k,y5y,z5q]
def Vi (r:R4):Bool:=decide (r.a<r.c)&&(decide (r.b<r.d)&&(decide (r.a≥ -1000000)&&(decide (r.a≤1000000)&&(decide (r.c≥ -1000000)&&(decide (r.c≤1000000)&&(decide (r.b≥ -1000000)&&(decide (r.b≤1000000)&&(decide (r.d≥ -1000000)&&decide (r.d≤1000000)))))))))
def D4 :Dim R4 R2:=⟨R4.a,R4.c,fun r=>⟨r.b,r.d⟩,fun x x' s=>⟨x,s.a,x',s.b⟩,fun x r=>⟨r.a,r.b,x,r.d⟩,Xr,Qr⟩
theorem D4_sec (l:List R4) (x:Int):(D4.sec l x).length ≤1000:=AE (x8m _) (by omega)
section
variable (l:List R4) (hl:l.length≤400)
include hl
theorem j0y (i:Nat) (out:List R4) (last:List R2) (first fin x x':Int): ∀(k j:Nat) (acc:List R2),j+k=l.length→acc.length≤j→
  ∃n,∀N,Zt (Wu l) (N+n) (.to (.h2 (i:Int) (j:Int) out last first fin ((D4.cuts l).length) (Wy (Xk (D4.ends l))) x x' acc))=Zt (Wu l) N (.to (.h2 (i:Int) (l.length:Int) out last first fin ((D4.cuts l).length) (Wy (Xk (D4.ends l))) x x' (acc++D4.inn (l.drop j) x)))
 | 0,j,acc,h,ha=>by refine ⟨0,fun N=> ?_⟩;rw [As (by omega),show D4.inn ([]:List R4) x=[] from rfl,AC,Bg,show j=l.length by omega]
 | k+1,j,acc,h,ha=>by
  have hj:j<l.length:=by omega
  obtain ⟨n,hn⟩:=j0y i out last first fin x x' k (j+1) (acc++D4.inn [rd l j] x) (by omega) (by have:=D4.inn_length [rd l j] x;grind)
  refine ⟨n+1,fun N=> ?_⟩;have e:D4.inn (l.drop j) x=D4.inn [rd l j] x++D4.inn (l.drop (j+1)) x:=by rw [Yg hj,←D4.inn_append];rfl
  rw [e,←AD,Zw,←AK,←hn N];by_cases h1:D4.lo (rd l j)≤x
  ·by_cases h2:x<D4.hi (rd l j)
   ·rw [D4.inn_t _ _ h1 h2];simp only [D4] at h1 h2 ⊢;simp (disch:=omega) only [Wu,Wz,Zc,Zq,Zs,Zo,Yc,Yv,Yj,Zf,Zk,Zx,Yb,Zj,Af,Ao,Ah,Ai,Ab,Aa]
   ·rw [D4.inn_f2 _ _ h2,AC];simp only [D4] at h1 h2;simp (disch:=omega) only [Wu,Wz,Ye,Zc,Zq,Zs,Zo,Yc,Yv,Yj,Zf,Zk,Zx,Yb,Zj,Af,Ao,Ah,Ai,Ab,Aa]
  ·rw [D4.inn_f1 _ _ h1,AC];simp only [D4] at h1;simp (disch:=omega) only [Wu,w2s,Zc,Zq,Zs,Zo,Yc,Yv,Yj,Zf,Zk,Zx,Yb,Zj,Af,Ao,Ah,Ai,Ab,Aa]
theorem j0x (i:Nat) (hi:i≤1000) (x x':Int) (s last:List R2) (first:Int) (inn:List R2) (hs:s.length≤1000): ∀(k j:Nat) (out:List R4),j+k=s.length→out.length≤10000000+j→
  ∃n,∀N,Zt (Wu l) (N+n) (.to (.h3 x x' s (s.length:Int) (j:Int) s (i:Int) out last first ((D4.cuts l).length) (Wy (Xk (D4.ends l))) inn))=Zt (Wu l) N (.to (.h1 ((i+1:Nat):Int) (out++(s.drop j).map (D4.put x x')) last first x' ((D4.cuts l).length) (Wy (Xk (D4.ends l)))))
 | 0,j,out,h,ho=>by
  have _u:=hl;refine ⟨1,fun N=> ?_⟩
  grind [Zw,Wu,Zk]
 | k+1,j,out,h,ho=>by
  obtain ⟨n,hn⟩:=j0x i hi x x' s last first inn hs k (j+1) (out++[D4.put x x' (rd s j)]) (by omega) (by simp;omega)
  refine ⟨n+1,fun N=> ?_⟩;have:=hn N;rw [Yg (show j<s.length by omega),AU,←AD,Zw];simp (disch:=omega) only [Wu,Zc,Zq,Zs,Zo,Yc,Yv,Yj,Zf,Zk,Zx,Yb,Zj,Af,Ao,Ah,Ai,Ab,Aa];rw [AK] at this;exact this
theorem j0w (i:Nat) (hi:i≤1000) (x x' fin:Int) (s last:List R2) (first:Int) (inn:List R2): ∀(k j:Nat) (out:List R4),j+k=out.length→out.length≤10000000→
  ∃n,∀N,Zt (Wu l) (N+n) (.to (.h4 x' (j:Int) x s (i:Int) out last first fin ((D4.cuts l).length) (Wy (Xk (D4.ends l))) inn))=Zt (Wu l) N (.to (.h1 ((i+1:Nat):Int) (D4.grow out j x') last first x' ((D4.cuts l).length) (Wy (Xk (D4.ends l)))))
 | 0,j,out,h,ho=>by
  have _u:=hl;refine ⟨1,fun N=> ?_⟩;rw [D4.grow_nil _ _ _ (by omega),Zw]
  grind [Wu,Zk]
 | k+1,j,out,h,ho=>by
  obtain ⟨n,hn⟩:=j0w i hi x x' fin s last first inn k (j+1) (out.set j (D4.ext x' (rd out j))) (by simp;omega) (by grind)
  refine ⟨n+1,fun N=> ?_⟩;have:=hn N;rw [D4.grow_set out j _ (by omega)] at this;rw [←AD,Zw];simp (disch:=omega) only [Wu,Zc,Zq,Zs,Zo,Yc,Yv,Yj,Zf,Zk,Zx,Yb,Zj,Af,Ao,Ah,Ai,Ab,Aa];exact this
theorem v6x : ∀(k i:Nat) (s:Sw R4 R2),k=(D4.cuts l).length - 1 - i→i≤(D4.cuts l).length →s.out.length≤i*1000→s.last.length≤1000→s.first≤s.out.length→
  ∃n,Zt (Wu l) n (.to (.h1 ((i+1:Nat):Int) s.out s.last (s.first:Int) s.fin ((D4.cuts l).length) (Wy (Xk (D4.ends l)))))=.ret (Qw (D4.go l k i s).out)
 | 0,i,s,h,hi,ho,hla,hf=>by
  have hc:=D4.cuts_length l;refine ⟨1,?_⟩;rw [Zw,show D4.go l 0 i s=s from rfl]
  grind [Qw,Wu,Zp]
 | k +1,i,s,h,hi,ho,hla,hf=>by
  have hc:=D4.cuts_length l;have hi1:i+1<(D4.cuts l).length :=by omega
  have hpl:(Wy (Xk (D4.ends l))).length =2*l.length:=by rw [Uw,Vg,D4.ends_length]
  have r0:rd (Wy (Xk (D4.ends l))) i=rd (D4.cuts l) i:=z4n _ _ (by show i<(D4.cuts l).length;omega);have r1:rd (Wy (Xk (D4.ends l))) (i+1)=rd (D4.cuts l) (i+1):=z4n _ _ (by show i+1<(D4.cuts l).length;omega);have hbig:i*1000≤1000*1000:=AA _ (by omega);have hsl:=D4_sec l (rd (D4.cuts l) i);have hsd:D4.sec l (rd (D4.cuts l) i)=Xr (D4.inn l (rd (D4.cuts l) i)):=rfl;obtain ⟨n3,h3⟩:=j0y l hl (i+1) s.out s.last (s.first:Int) s.fin (rd (D4.cuts l) i) (rd (D4.cuts l) (i+1)) l.length 0 [] (Af _) (Aq _);simp only [AS,A9,z4a] at h3;have w1:y5z (D4.inn l (rd (D4.cuts l) i))=true:=rfl;have w2:Uy s.last (Xr (D4.inn l (rd (D4.cuts l) i)))=true:=An (by omega);have ol:=D4.one_length l (rd (D4.cuts l) i) (rd (D4.cuts l) (i+1)) s;have st0: ∀N,Zt (Wu l) (N+n3+1) (.to (.h1 ((i+1:Nat):Int) s.out s.last (s.first:Int) s.fin ((D4.cuts l).length) (Wy (Xk (D4.ends l)))))=Zt (Wu l) N (.to (.h2 ((i+1:Nat):Int) (l.length:Int) s.out s.last (s.first:Int) s.fin ((D4.cuts l).length) (Wy (Xk (D4.ends l))) (rd (D4.cuts l) i) (rd (D4.cuts l) (i+1)) (D4.inn l (rd (D4.cuts l) i)))):=fun N=>by
   rw [←h3 N,Zw];have e1:wrap .i64 (((i+1:Nat):Int) - 1)=(i:Int):=by rw [Yz];exact Zk (by omega)
   simp (disch:=omega) only [Wu,e1,r0,r1,Zc,Zq,Zs,Zo,Yc,Yv,Yj,Zf,Zk,Zx,Yb,Zj,Af,Ao,Ah,Ai,Ab,Aa]
  rcases Yw (decide (0<(D4.sec l (rd (D4.cuts l) i)).length)&&((s.fin == rd (D4.cuts l) i)&&D4.same s.last (D4.sec l (rd (D4.cuts l) i)))) with q | q
  ·obtain ⟨n5,h5⟩:=j0w l hl (i+1) (by omega) (rd (D4.cuts l) i) (rd (D4.cuts l) (i+1)) s.fin (D4.sec l (rd (D4.cuts l) i)) s.last (s.first:Int) (D4.inn l (rd (D4.cuts l) i)) (s.out.length - s.first) s.first s.out (by omega) (by omega)
   have e:D4.one l (rd (D4.cuts l) i) (rd (D4.cuts l) (i+1)) s=⟨D4.grow s.out s.first (rd (D4.cuts l) (i+1)),s.last,s.first,rd (D4.cuts l) (i+1)⟩:=by unfold Dim.one;rw [q];rfl
   obtain ⟨n0,h0⟩:=v6x k (i+1) (D4.one l (rd (D4.cuts l) i) (rd (D4.cuts l) (i+1)) s) (by omega) (by omega) (by omega) (by grind) (by grind [Dim.grow_length]);refine ⟨n0+n5+1+n3+1,?_⟩;rw [st0 (n0+n5+1),Zw];simp only [Ae,At] at q;obtain ⟨q1,q2,q3⟩:=q;have q3':Qr s.last (Xr (D4.inn l (rd (D4.cuts l) i)))=true:=q3
   grind [Wu,Zc,Dim.go]
  ·obtain ⟨n4,h4⟩:=j0x l hl (i+1) (by omega) (rd (D4.cuts l) i) (rd (D4.cuts l) (i+1)) (D4.sec l (rd (D4.cuts l) i)) (D4.sec l (rd (D4.cuts l) i)) (s.out.length:Int) (D4.inn l (rd (D4.cuts l) i)) hsl (D4.sec l (rd (D4.cuts l) i)).length 0 s.out (Af _) (by omega);simp only [AS,z4a] at h4;have e:D4.one l (rd (D4.cuts l) i) (rd (D4.cuts l) (i+1)) s=⟨s.out++(D4.sec l (rd (D4.cuts l) i)).map (D4.put (rd (D4.cuts l) i) (rd (D4.cuts l) (i+1))),D4.sec l (rd (D4.cuts l) i),s.out.length,rd (D4.cuts l) (i+1)⟩:=by unfold Dim.one;rw [q];rfl
   obtain ⟨n0,h0⟩:=v6x k (i+1) (D4.one l (rd (D4.cuts l) i) (rd (D4.cuts l) (i+1)) s) (by omega) (by omega) (by omega) (by grind) (by rw [e];simp);have hg:Zt (Wu l) 1 (.to (.h2 ((i+1:Nat):Int) (l.length:Int) s.out s.last (s.first:Int) s.fin ((D4.cuts l).length) (Wy (Xk (D4.ends l))) (rd (D4.cuts l) i) (rd (D4.cuts l) (i+1)) (D4.inn l (rd (D4.cuts l) i))))=.to (.h3 (rd (D4.cuts l) i) (rd (D4.cuts l) (i+1)) (D4.sec l (rd (D4.cuts l) i)) ((D4.sec l (rd (D4.cuts l) i)).length :Int) 0 (D4.sec l (rd (D4.cuts l) i)) ((i+1:Nat):Int) s.out (D4.sec l (rd (D4.cuts l) i)) (s.out.length:Int) ((D4.cuts l).length) (Wy (Xk (D4.ends l))) (D4.inn l (rd (D4.cuts l) i))):=by
    rw [show (1:Nat)=0+1 from rfl,Zw];rw [hsd] at q ⊢;have e3:D4.same s.last (Xr (D4.inn l (rd (D4.cuts l) i)))=Qr s.last (Xr (D4.inn l (rd (D4.cuts l) i))):=rfl;rw [e3] at q;by_cases q1:0<(Xr (D4.inn l (rd (D4.cuts l) i))).length
    ·rw [An q1,Ai] at q;rcases Yw (s.fin == rd (D4.cuts l) i) with q2 | q2
     ·rw [q2,Ai] at q;simp (disch:=omega) only [Wu,Zc,Zq,Ye,Ys,q2,q,w1,w2,Ab,Aa];rfl
     ·simp (disch:=omega) only [Wu,Zc,Zq,Ye,Ys,q2,w1,w2,Ab,Aa];rfl
    ·simp (disch:=omega) only [Wu,Zc,Zq,Ye,Xt,w1,w2,Ab,Aa];rfl
   refine ⟨n0+n4+1+n3+1,?_⟩;simp_all [z5n,Dim.go]
theorem j0z : ∀(k i:Nat) (acc:List Int),i+k=l.length→acc=D4.ends (l.take i)→ ∃n,Zt (Wu l) n (.to (.h0 (i:Int) acc))=.ret (Qw (D4.go l ((D4.cuts l).length - 1) 0 ⟨[],[],0,0⟩).out)
 | 0,i,acc,h,ha=>by
  have e:acc=D4.ends l:=by grind
  subst e;have hle:=D4.ends_length l;obtain ⟨n,hn⟩:=v6x l hl ((D4.cuts l).length - 1) 0 ⟨[],[],0,0⟩ (by omega) (Ay _) (Ay _) (Ay _) (Ay _);refine ⟨n+1,?_⟩;rw [Zw];simp (disch:=omega) only [Wu,Jq,Qq,z7w,Ye,Yv,Yj,Ao,Ab,Aa];exact hn
 | k+1,i,acc,h,ha=>by
  have hle:=D4.ends_length (l.take i);have fX:acc.length≤2*i:=by grind
  obtain ⟨n,hn⟩:=j0z k (i+1) (acc++D4.ends [rd l i]) (by omega) (by
   rw [ha,AX];have:l[i]? =some (rd l i):=by grind [Yr]
   rw [this,D4.ends_append];rfl)
  refine ⟨n+1,?_⟩;rw [Zw];simp (disch:=omega) only [Wu,Zc,Zq,Zs,Zo,Yc,Yv,Yj,Zf,Zk,Zx,Yb,Zj,Af,Ao,Ah,Ai,Ab,Aa];exact hn
end
def j1c (l:List R4):Int:=y5j (D4.out l).length
def Wc (l:List R4):List R4:=y7s (j1c l) (D4.out l)
def z2c (l:List R4):Int:=j1c l
def Qt (l:List R4):Bool:=decide (l.length≤400)
theorem j6j (l:List R4) (h:Qt l=true): ∃n,Zt (Wu l) n (x3g l)=.ret (z8w (j1c l) (D4.out l)):=by rw [show z8w (j1c l) (D4.out l)=Qw (D4.out l) from (y0c _).symm];exact j0z l (Av h) l.length 0 [] (Af _) rfl
def j2a (a b c d:Int):Bool:=Vi ⟨a,b,c,d⟩
theorem j1z (a b c d:Int): ∃N,Zt (x7w a b c d) N (y3m a b c d)=.ret [.bool (j2a a b c d)]:=⟨0,by
 unfold y3m j2a Vi;simp only [y1v];cases decide (a<c) <;> cases decide (b<d) <;> cases decide (a≥ -1000000) <;> cases decide (a≤1000000) <;> cases decide (c≥ -1000000) <;> cases decide (c≤1000000) <;> cases decide (b≥ -1000000) <;> cases decide (b≤1000000) <;> cases decide (d≥ -1000000) <;> rfl⟩
def fVl4 :List AVal→Option (AVal×Bool)
 | [.agg [.int .i64 aJ,.int .i64 aO,.int .i64 aN,.int .i64 aQ]]=>some (.bool (j2a aJ aO aN aQ),true)
 | _=>none
theorem j7i {S:Specs} (hS:Zu prog S):Zu prog (S.with w5l fVl4):=by
 refine z0k hS (by kernel_rfl) fun args v h=> ?_;unfold fVl4 at h;split at h
 ·rename_i aJ aO aN aQ;simp only [Ad,Ac,Bk] at h;subst h;obtain ⟨N,hN⟩:=j1z aJ aO aN aQ;exact ⟨_,_,(.cons (.refl _) .nil),rfl,u0c aJ aO aN aQ N _ hN,3,rfl⟩
 ·cases h
def fMad :List AVal→Option (AVal×Bool)
 | [a0]=>match asL R4 a0 with
  | some (L0,g0,n0)=>some (.tup [.dat (Wc L0).length (Zz (Wc L0)),.int .i64 (z2c L0)],isT R4 n0 g0&&(Qt L0))
  | _=>none
 | _=>none
theorem j8l {S:Specs} (hS:Zu prog S):Zu prog (S.with v6p fMad):=by
 refine w6l hS (by kernel_rfl) fun args v h=> ?_;unfold fMad at h;split at h
 ·rename_i a0;split at h
  ·rename_i L0 g0 n0 e0;simp only [Ad,Ac,Ae] at h;obtain ⟨rfl,ho0,hw⟩:=h;obtain ⟨N,hN⟩:=j6j L0 hw;exact ⟨_,_,(.cons (Yh e0 ho0) .nil),z0n _ _,u4a L0 N _ hN,3,z5f _ _⟩
  ·cases h
 ·cases h
def T6v :Specs:=(T6.with w5l fVl4)
theorem T6v_ok :Zu prog T6v:=(j7i Kt)
def T6m :Specs:=(T6v.with v6p fMad)
theorem y8o :Zu prog T6m:=(j8l T6v_ok)
inductive rgmS where
 | h0 (v8:Int)
def rgmC (l0:List R4):rgmS→Cfg
 | .h0 v8=>⟨⟨19,0,true⟩,none,(Zg prog 153 [1,0,1,0,0] 0),none,(Zy prog 6),⟨Yk [(0,(.dat l0.length (Zz l0))),(1,(.fn 115 [])),(7,(ii (l0.length:Int))),(8,(ii v8))],Vv [] 0,0,[],true⟩,[⟨⟨9,0,true⟩,(Wr prog 114 [1,0] 2),(Zg prog 114 [1,0] 1),none,(Zy prog 6),Yk [(5,(.dat l0.length (Zz l0))),(6,(.fn 115 []))]⟩,⟨⟨13,0,true⟩,(Wr prog 83 [1,1,0,0] 1),(Zg prog 83 [1,1,0,0] 1),none,(Zy prog 14),Yk [(0,(.dat l0.length (Zz l0))),(7,(.dat l0.length (Zz l0)))]⟩],.leaf⟩
def rgmN0 :List (Option (List Nat)):=[some [0,1,7,8],some [5,6],some [0,7]]
def rgmM0 :List (Option (List Nat)):=[]
def z5d (l0:List R4):rgmS→Xw rgmS
 | .h0 v8=>(bif (decide (v8<(l0.length:Int))) then (bif ((decide (0≤v8∧v8<(l0.length:Int)))&&true) then (bif (!(j2a (rd l0 v8.toNat).a (rd l0 v8.toNat).b (rd l0 v8.toNat).c (rd l0 v8.toNat).d)) then (bif (decide (v8≥0)) then (.ret [.nils,(.int .i64 8)]) else (bif (Qt (cvT l0)) then (.ret [(.dat (Wc (cvT l0)).length (Zz (Wc (cvT l0)))),(.int .i64 (z2c (cvT l0)))]) else .stuck)) else (.to (.h0 (wrap .i64 (v8+1))))) else .stuck) else (bif (Qt (cvT l0)) then (.ret [(.dat (Wc (cvT l0)).length (Zz (Wc (cvT l0)))),(.int .i64 (z2c (cvT l0)))]) else .stuck))
def z8t (l0:List R4):Xw rgmS:=(bif (decide ((l0.length:Int)>400)) then (.ret [.nils,(.int .i64 4)]) else (.to (.h0 0)))
theorem w8y (l0:List R4): ∀s,Xv prog (Zy prog 83) (rgmC l0) (rgmC l0 s) (z5d l0 s)
 | .h0 v8=>(lb (fun k0=>(lo fun aI=>(lb (fun k1=>(lb (fun k2=>(lr 13 83 [1,1,0,1,0,0] 1 14 [(2,.nils),(3,(ii 8))] (sl y8o 54 [] ⟨[],[],[some [2,3]],[]⟩ ⟨[],[],[]⟩ (trs 3 []) (tt k2 (tt k1 (ww aI (tt k0 nn))))))) (fun k2=>(lo fun o0=>(lr 13 3 [1,1,1,1,0] 1 14 [(2,(.dat (Wc (cvT l0)).length (Zz (Wc (cvT l0))))),(3,(ii (z2c (cvT l0))))] (sl y8o 59 [] ⟨[],[],[some [2,3]],[]⟩ ⟨[],[],[]⟩ (bl 3 3) (pp (pp (xr l0) (xw o0)) (tt k2 (tt k1 (ww aI (tt k0 nn))))))))))) (fun k1=>(sl y8o 44 [] ⟨[],[],rgmN0,rgmM0⟩ ⟨[],[],[]⟩ (bl 2 1) (tt k1 (ww aI (tt k0 nn)))))))) (fun k0=>(lo fun o0=>(lr 13 3 [1,1,1,1,0] 1 14 [(2,(.dat (Wc (cvT l0)).length (Zz (Wc (cvT l0))))),(3,(ii (z2c (cvT l0))))] (sl y8o 28 [] ⟨[],[],[some [2,3]],[]⟩ ⟨[],[],[]⟩ (bl 2 0) (pp (pp (xr l0) (xw o0)) (tt k0 nn)))))))
theorem w0a (l0:List R4):Xv prog (Zy prog 83) (rgmC l0) (Za prog 83 [(.dat l0.length (Zz l0))] true []) (z8t l0):=(lb (fun k0=>(lr 13 83 [1,0,1,0,0] 1 14 [(2,.nils),(3,(ii 4))] (sl y8o 18 [] ⟨[],[],[some [2,3]],[]⟩ ⟨[],[],[]⟩ [true] (tt k0 nn)))) (fun k0=>(sl y8o 41 [] ⟨[],[],rgmN0,rgmM0⟩ ⟨[],[],[]⟩ [false] (tt k0 nn))))
theorem u2n (l0:List R4) (n:Nat) (vs:List AVal) (h:Zt (z5d l0) n (z8t l0)=.ret vs):Uv prog (Zy prog 83) (Za prog 83 [(.dat l0.length (Zz l0))] true []) vs:=by have:=Ze (w8y l0) n _ (w0a l0);rwa [h] at this
theorem u9i (l:List R4) (hl:l.length≤400): ∀(k i:Nat),i+k=l.length→(∀s∈l.take i,Vi s=true)→ ∃n,Zt (z5d l) n (.to (.h0 (i:Int)))=.ret (bif l.all Vi then [.dat (Wc l).length (Zz (Wc l)),.int .i64 (z2c l)] else [.nils,.int .i64 8])
 | 0,i,h,ht=>by
  have hv:l.all Vi=true:=Ar.2 fun s hs=>ht s (by grind);have w:Qt l=true:=An hl;refine ⟨1,?_⟩
  grind [Zw,z5d,Zc,Zp]
 | k+1,i,h,ht=>by
  have hi:i<l.length:=by omega
  have hs:z5d l (.h0 (i:Int))=bif Vi (rd l i) then .to (.h0 ((i+1:Nat):Int)) else .ret [.nils,.int .i64 8]:=by have e:j2a (rd l i).a (rd l i).b (rd l i).c (rd l i).d =Vi (rd l i):=rfl;simp (disch:=omega) only [z5d,e,y1u,x6u,w6o,Zo,Zk,Zx,Zj,Ah,Ab,Aa]
  rcases Yw (Vi (rd l i)) with q | q
  ·obtain ⟨n,hn⟩:=u9i l hl k (i+1) (by omega) (fun s hs=>by
    rw [AX] at hs
    grind [Yr])
   refine ⟨n+1,?_⟩
   grind [Zw]
  ·have hv:l.all Vi=false:=A0.2 fun e=>by
    grind [Yr]
   refine ⟨1,?_⟩
   grind [Zw,Zp]
theorem u2m (l:List R4): ∃n,Zt (z5d l) n (z8t l)=.ret (bif decide (400<l.length) then [.nils,.int .i64 4] else bif l.all Vi then [.dat (Wc l).length (Zz (Wc l)),.int .i64 (z2c l)] else [.nils,.int .i64 8]):=by
 unfold z8t;by_cases h:400<l.length
 ·refine ⟨0,?_⟩;rw [An h,Ys (show (l.length:Int)>400 by omega)];rfl
 ·obtain ⟨n,hn⟩:=u9i l (by omega) l.length 0 (Af _) (fun s hs=>by simp at hs)
  grind
def Zm (l:List R4):List R4:=bif decide (400<l.length) then [] else bif l.all Vi then (bif decide (((D4.out l).length :Int)>400) then [] else D4.out l) else []
def Yo (l:List R4):Int:=bif decide (400<l.length) then 4 else bif l.all Vi then (bif decide (((D4.out l).length :Int)>400) then 4 else 0) else 8
def Uq (l:List R4):Bool:=true
theorem j5f (l:List R4) (h:Uq l=true): ∃n,Zt (z5d l) n (z8t l)=.ret (bif decide (400<l.length) then [.nils,.int .i64 4] else bif l.all Vi then [.dat (Zm l).length (Zz (Zm l)),.int .i64 (Yo l)] else [.nils,.int .i64 8]):=by
 obtain ⟨n,hn⟩:=u2m l
 grind [Wc,Zm,j1c,y7s,y5j,z2c,Yo]
def fRgm :List AVal→Option (AVal×Bool)
 | [a0]=>match asL R4 a0 with
  | some (L0,g0,n0)=>some (.tup [.dat (Zm L0).length (Zz (Zm L0)),.int .i64 (Yo L0)],isT R4 n0 g0&&(Uq L0))
  | _=>none
 | _=>none
theorem j8c {S:Specs} (hS:Zu prog S):Zu prog (S.with w5n fRgm):=by
 refine w6l hS (by kernel_rfl) fun args v h=> ?_;unfold fRgm at h;split at h
 ·rename_i a0;split at h
  ·rename_i L0 g0 n0 e0;simp only [Ad,Ac,Ae] at h;obtain ⟨rfl,ho0,hw⟩:=h;obtain ⟨N,hN⟩:=j5f L0 hw;refine ⟨_,_,(.cons (Yh e0 ho0) .nil),?_,u2n L0 N _ hN,3,?_⟩
   ·cases h1:decide (400<L0.length) <;> cases h2:L0.all Vi <;> simp only [Zm,Yo,h1,h2,Ab,Aa]
    ·exact fun ρ u hu=>z6o (.cons (z2m R4) (RLe.refl _)) ρ u hu
    ·exact fun ρ u hu=>hu
    ·exact fun ρ u hu=>z6o (.cons (z2m R4) (RLe.refl _)) ρ u hu
    ·exact fun ρ u hu=>z6o (.cons (z2m R4) (RLe.refl _)) ρ u hu
   ·cases decide (400<L0.length) <;> cases L0.all Vi <;> rfl
  ·cases h
 ·cases h
def T7 :Specs:=(T6m.with w5n fRgm)
theorem x7n :Zu prog T7:=(j8c y8o)
inductive vl6S where
def vl6C (aJ:Int) (aO:Int) (aN:Int) (aQ:Int) (aW:Int) (aV:Int):vl6S→Cfg
 :=nofun
def x7u (aJ:Int) (aO:Int) (aN:Int) (aQ:Int) (aW:Int) (aV:Int):vl6S→Xw vl6S
 :=nofun
def y3l (aJ:Int) (aO:Int) (aN:Int) (aQ:Int) (aW:Int) (aV:Int):Xw vl6S:=(bif (decide (aJ<aQ)) then (bif (decide (aO<aW)) then (bif (decide (aN<aV)) then (bif (decide ((Ke (Ke aJ aO) aN)≥(-1000000))) then (bif (decide ((Kf (Kf aJ aO) aN)≤1000000)) then (bif (decide ((Ke (Ke aQ aW) aV)≥(-1000000))) then (.ret [(.bool (decide ((Kf (Kf aQ aW) aV)≤1000000)))]) else (.ret [(.bool false)])) else (.ret [(.bool false)])) else (.ret [(.bool false)])) else (.ret [(.bool false)])) else (.ret [(.bool false)])) else (.ret [(.bool false)]))
theorem w7b (aJ:Int) (aO:Int) (aN:Int) (aQ:Int) (aW:Int) (aV:Int): ∀s,Xv prog (Zy prog 92) (vl6C aJ aO aN aQ aW aV) (vl6C aJ aO aN aQ aW aV s) (x7u aJ aO aN aQ aW aV s)
 :=nofun
theorem x7v (aJ:Int) (aO:Int) (aN:Int) (aQ:Int) (aW:Int) (aV:Int):Xv prog (Zy prog 92) (vl6C aJ aO aN aQ aW aV) (Za prog 92 [(.agg [(.int .i64 aJ),(.int .i64 aO),(.int .i64 aN),(.int .i64 aQ),(.int .i64 aW),(.int .i64 aV)])] true []) (y3l aJ aO aN aQ aW aV):=(lb (fun k0=>(lb (fun k1=>(lb (fun k2=>(lb (fun k3=>(lb (fun k4=>(lb (fun k5=>(lr 38 3 [1,1,1,1,0] 1 9 [(2,(.bool (decide ((Kf (Kf aQ aW) aV)≤1000000))))] (sl x7n 100 [] ⟨[],[],[some [2]],[]⟩ ⟨[],[],[]⟩ (trs 36 []) (tt k5 (tt k4 (tt k3 (tt k2 (tt k1 (tt k0 nn))))))))) (fun k5=>(lr 38 3 [1,1,1,1,0] 1 9 [(2,(.bool false))] (sl x7n 100 [] ⟨[],[],[some [2]],[]⟩ ⟨[],[],[]⟩ (trs 28 [false,false,false,false,false,false,false,false]) (tt k5 (tt k4 (tt k3 (tt k2 (tt k1 (tt k0 nn))))))))))) (fun k4=>(lr 38 3 [1,1,1,1,0] 1 9 [(2,(.bool false))] (sl x7n 72 [] ⟨[],[],[some [2]],[]⟩ ⟨[],[],[]⟩ (trs 25 [false,false,false]) (tt k4 (tt k3 (tt k2 (tt k1 (tt k0 nn)))))))))) (fun k3=>(lr 38 3 [1,1,1,1,0] 1 9 [(2,(.bool false))] (sl x7n 72 [] ⟨[],[],[some [2]],[]⟩ ⟨[],[],[]⟩ (trs 17 [false,false,false,false,false,false,false,false,false,false,false]) (tt k3 (tt k2 (tt k1 (tt k0 nn))))))))) (fun k2=>(lr 38 3 [1,1,1,1,0] 1 9 [(2,(.bool false))] (sl x7n 44 [] ⟨[],[],[some [2]],[]⟩ ⟨[],[],[]⟩ (trs 14 [false,false,false,false,false,false]) (tt k2 (tt k1 (tt k0 nn)))))))) (fun k1=>(lr 38 3 [1,1,1,1,0] 1 9 [(2,(.bool false))] (sl x7n 44 [] ⟨[],[],[some [2]],[]⟩ ⟨[],[],[]⟩ (trs 7 [false,false,false,false,false,false,false,false,false,false,false,false,false]) (tt k1 (tt k0 nn))))))) (fun k0=>(lr 38 3 [1,1,1,1,0] 1 9 [(2,(.bool false))] (sl x7n 44 [] ⟨[],[],[some [2]],[]⟩ ⟨[],[],[]⟩ [false,false,false,false,false,false,false,false,false,false,false,false,false,false,false,false,false,false,false,false] (tt k0 nn)))))
theorem u0b (aJ:Int) (aO:Int) (aN:Int) (aQ:Int) (aW:Int) (aV:Int) (n:Nat) (vs:List AVal) (h:Zt (x7u aJ aO aN aQ aW aV) n (y3l aJ aO aN aQ aW aV)=.ret vs):Uv prog (Zy prog 92) (Za prog 92 [(.agg [(.int .i64 aJ),(.int .i64 aO),(.int .i64 aN),(.int .i64 aQ),(.int .i64 aW),(.int .i64 aV)])] true []) vs:=by have:=Ze (w7b aJ aO aN aQ aW aV) n _ (x7v aJ aO aN aQ aW aV);rwa [h] at this
def Qf (r:R6):Bool:=decide (r.a<r.d)&&(decide (r.b<r.e)&&(decide (r.c<r.f)&&(decide ((Ke (Ke r.a r.b) r.c)≥(-1000000))&&(decide ((Kf (Kf r.a r.b) r.c)≤1000000)&&(decide ((Ke (Ke r.d r.e) r.f)≥(-1000000))&&decide ((Kf (Kf r.d r.e) r.f)≤1000000))))))
def j1y (a b c d e f:Int):Bool:=Qf ⟨a,b,c,d,e,f⟩
theorem j1x (a b c d e f:Int): ∃N,Zt (x7u a b c d e f) N (y3l a b c d e f)=.ret [.bool (j1y a b c d e f)]:=⟨0,by
 unfold y3l j1y Qf;simp only [y1v];cases decide (a<d) <;> cases decide (b<e) <;> cases decide (c<f) <;> cases decide ((Ke (Ke a b) c)≥(-1000000)) <;> cases decide ((Kf (Kf a b) c)≤1000000) <;> cases decide ((Ke (Ke d e) f)≥(-1000000)) <;> rfl⟩
def fVl6 :List AVal→Option (AVal×Bool)
 | [.agg [.int .i64 aJ,.int .i64 aO,.int .i64 aN,.int .i64 aQ,.int .i64 aW,.int .i64 aV]]=>some (.bool (j1y aJ aO aN aQ aW aV),true)
 | _=>none
theorem j7h {S:Specs} (hS:Zu prog S):Zu prog (S.with w5j fVl6):=by
 refine z0k hS (by kernel_rfl) fun args v h=> ?_;unfold fVl6 at h;split at h
 ·rename_i aJ aO aN aQ aW aV;simp only [Ad,Ac,Bk] at h;subst h;obtain ⟨N,hN⟩:=j1x aJ aO aN aQ aW aV;exact ⟨_,_,(.cons (.refl _) .nil),rfl,u0b aJ aO aN aQ aW aV N _ hN,3,rfl⟩
 ·cases h
def T7v :Specs:=(T7.with w5j fVl6)
theorem Uz :Zu prog T7v:=(j7h x7n)
inductive sckS where
 | h0 (v8:Int)
 | h1 (v16:Int) (aD:List Int)
 | h2 (v4:Int) (aG:List R6) (aR:List R4) (bC:Int) (bD:Int) (aE:Nat) (aK:List Int)
 | h3 (v4:Int) (v38:Int) (aG:List R6) (aR:List R4) (bC:Int) (bD:Int) (aE:Nat) (aK:List Int) (aF:Int) (aZ:Int) (aA:List R4)
 | h4 (v1:Int) (v2:Int) (v72:List R4) (v73:Int) (v74:Int) (bN:List R4) (aY:Int) (aC:List R6) (bH:List R4) (bE:Int) (aE:Nat) (aK:List Int) (aF:List R4)
 | h5 (v2:Int) (v8:Int) (bZ:Int) (bN:List R4) (aY:Int) (aC:List R6) (bH:List R4) (bE:Int) (bT:Int) (bL:Nat) (bS:List Int) (aA:List R4)
abbrev x0i (aC:List R6) (v8:Int) (v2:Int):=(aC.set (0+(tn v8)) (R6.mk (rd aC (0+(tn v8))).a (rd aC (0+(tn v8))).b (rd aC (0+(tn v8))).c (rd aC (0+(tn v8))).d (rd aC (0+(tn v8))).e v2))
def v3w (l0:List R6):AFr:=⟨⟨25,0,true⟩,(Wr prog 52 [1,1,1,0,0] 3),(Zg prog 52 [1,1,1,0,0] 1),none,(Zy prog 9),Yk [(0,(.dat l0.length (Zz l0))),(11,(.agg [.nilf])),(13,(.sl 8 0 1 (.un 1)))]⟩
abbrev x0h (aD:List Int):=(Wy (Yq aD.length (cOf (Zz (Xk (Yq aD.length (cOf (Zz aD))))))))
abbrev x0g (aA:List R4) (l0:List R6) (v38:Int):=(aA++[(R4.mk (rd l0 (tn v38)).a (rd l0 (tn v38)).b (rd l0 (tn v38)).d (rd l0 (tn v38)).e)])
abbrev x0f (aC:List R6) (v72:List R4) (v74:Int) (v1:Int) (v2:Int):=(aC++[(R6.mk (rd v72 (tn v74)).a (rd v72 (tn v74)).b v1 (rd v72 (tn v74)).c (rd v72 (tn v74)).d v2)])
def u8j :=(z9k [(0,⟨.ready,none,65,Yk [(2,(.ptr 1 0)),(4,(.ptr 2 0)),(5,(.ptr 3 0)),(6,(.ptr 4 0))],[15],(Wq prog 93 [1,1,0,1,0,0]),(Wq prog 93 [1,1,0,1,0,1])⟩)])
def z2s (l0:List R6):AVal:=(.dat l0.length (Zz l0))
def u8i :AFr:=⟨⟨65,0,true⟩,none,(.inRangeFunc 0::(Zg prog 93 [1,1,0,1,0] 1)),none,(Zy prog 93),Yk [(4,(.ptr 2 0)),(5,(.ptr 3 0)),(6,(.ptr 4 0))]⟩
abbrev x0e (aD:List Int) (l0:List R6) (v16:Int):=(aD++[(rd l0 (tn v16)).c,(rd l0 (tn v16)).f])
def sckC (l0:List R6):sckS→Cfg
 | .h0 v8=>⟨⟨19,0,true⟩,none,(Zg prog 95 [1,0,1,0,0] 0),none,(Zy prog 6),⟨Yk [(0,(z2s l0)),(1,(.fn 91 [])),(7,(ii (l0.length:Int))),(8,(ii v8))],Vv [] 0,0,[],true⟩,[⟨⟨9,0,true⟩,(Wr prog 57 [1,0] 2),(Zg prog 57 [1,0] 1),none,(Zy prog 6),Yk [(5,(z2s l0)),(6,(.fn 91 []))]⟩,⟨⟨25,0,true⟩,(Wr prog 52 [1,1,0,0] 1),(Zg prog 52 [1,1,0,0] 1),none,(Zy prog 9),Yk [(0,(z2s l0)),(8,(z2s l0))]⟩],.leaf⟩
 | .h1 v16 aD=>⟨⟨36,0,true⟩,none,(Zg prog 135 [1,1,0,1,0,0,1,1,0,0,1,1,0,0] 0),none,(Zy prog 9),⟨Yk [(1,(.ptr 0 0)),(3,(.ptr 2 0)),(8,(.sl 1 0 1 (.un 1))),(9,(ii 1)),(10,(ii 0)),(14,(z2s l0)),(15,(ii (l0.length:Int))),(16,(ii v16))],Vv [⟨[(.sl 1 0 1 (.un 1))],177,none⟩,⟨[(z2s l0)],32,none⟩,⟨[(.sla 7 1 0 aD.length (.un 1))],125,none⟩,⟨[.nilf],101,none⟩,⟨[.nils],33,none⟩,⟨[(ii 0)],24,none⟩,⟨[.nils,.nils,(ii 0),(ii 0)],179,none⟩,⟨Ym aD.length (Zz aD),3,some ⟨1,aD.length,(Zz aD)⟩⟩] 0,8,[],true⟩,[⟨⟨65,0,true⟩,(Wr prog 93 [1,1,0,0] 1),(Zg prog 93 [1,1,0,0] 1),none,(Zy prog 93),Yk [(2,(.ptr 3 0)),(4,(.ptr 4 0)),(5,(.ptr 5 0)),(6,(.ptr 6 0)),(13,(.sl 1 0 1 (.un 1)))]⟩,⟨⟨25,0,true⟩,(Wr prog 52 [1,1,1,0,0] 3),(Zg prog 52 [1,1,1,0,0] 1),none,(Zy prog 9),Yk [(0,(z2s l0)),(11,(.agg [.nilf])),(13,(.sl 1 0 1 (.un 1)))]⟩],.leaf⟩
 | .h2 v4 aG aR bC bD aE aK=>⟨⟨86,0,true⟩,none,(Zg prog 162 [1,0,0] 0),none,[],⟨Yk [(0,(.yld 0)),(1,(.ptr 5 0)),(2,(.ptr 7 0)),(4,(ii v4))],z5j [(1,⟨[.nilf],101,none⟩),(2,⟨[.nils],33,none⟩),(3,⟨[(ii 0)],24,none⟩),(4,⟨[(.sla 9 6 0 aG.length (.un 6)),(.dat aR.length (Zz aR)),(ii bC),(ii bD)],179,none⟩),(5,⟨[(.sla 6 1 0 aE (.un 1))],125,none⟩),(6,⟨Ym aK.length (Zz aK),3,some ⟨1,aK.length,(Zz aK)⟩⟩),(7,⟨[(.sl 8 0 1 (.un 1))],177,none⟩),(8,⟨[(z2s l0)],32,none⟩),(9,⟨Ym aG.length (Zz aG),57,some ⟨6,aG.length,(Zz aG)⟩⟩)],10,[],true⟩,[u8i,(v3w l0)],u8j⟩
 | .h3 v4 v38 aG aR bC bD aE aK aF aZ aA=>⟨⟨86,0,true⟩,none,(Zg prog 162 [1,0,0,1,0,0,1,0,1,0,0,1,1,0,0,1,1,0,0] 0),none,[],⟨Yk [(0,(.yld 0)),(1,(.ptr 5 0)),(2,(.ptr 7 0)),(4,(ii v4)),(5,(.ptr 9 0)),(6,(ii 0)),(29,(.sl 8 0 1 (.un 1))),(30,(ii 1)),(31,(ii 0)),(36,(z2s l0)),(37,(ii (l0.length:Int))),(38,(ii v38))],z5j [(1,⟨[.nilf],101,none⟩),(2,⟨[.nils],33,none⟩),(3,⟨[(ii 0)],24,none⟩),(4,⟨[(.sla 12 6 0 aG.length (.un 6)),(.dat aR.length (Zz aR)),(ii bC),(ii bD)],179,none⟩),(5,⟨[(.sla 6 1 0 aE (.un 1))],125,none⟩),(6,⟨Ym aK.length (Zz aK),3,some ⟨1,aK.length,(Zz aK)⟩⟩),(7,⟨[(.sl 8 0 1 (.un 1))],177,none⟩),(8,⟨[(z2s l0)],32,none⟩),(9,⟨[(ii aF),(ii aZ),(.sl 10 0 1 (.ex 1))],184,none⟩),(10,⟨[(.sla 11 4 0 aA.length (.un 4))],80,none⟩),(11,⟨Ym aA.length (Zz aA),116,some ⟨4,aA.length,(Zz aA)⟩⟩),(12,⟨Ym aG.length (Zz aG),57,some ⟨6,aG.length,(Zz aG)⟩⟩)],13,[],true⟩,[u8i,(v3w l0)],u8j⟩
 | .h4 v1 v2 v72 v73 v74 bN aY aC bH bE aE aK aF=>⟨⟨101,0,true⟩,none,(Zg prog 136 [1,1,1,0,0] 0),none,[],⟨Yk [(0,(.ptr 0 0)),(1,(ii v1)),(2,(ii v2)),(72,(.dat v72.length (Zz v72))),(73,(ii v73)),(74,(ii v74))],z5j [(0,⟨[(.sla 10 6 0 aC.length (.un 6)),(.dat bH.length (Zz bH)),(ii bE),(ii v2)],179,none⟩),(2,⟨[.nilf],101,none⟩),(3,⟨[.nils],33,none⟩),(4,⟨[(ii 0)],24,none⟩),(5,⟨[(.sla 6 1 0 aE (.un 1))],125,none⟩),(6,⟨Ym aK.length (Zz aK),3,some ⟨1,aK.length,(Zz aK)⟩⟩),(7,⟨[(.sl 8 0 1 (.un 1))],177,none⟩),(8,⟨[(z2s l0)],32,none⟩),(9,⟨[(.dat aF.length (Zz aF))],80,none⟩),(10,⟨Ym aC.length (Zz aC),57,some ⟨6,aC.length,(Zz aC)⟩⟩)],11,[],true⟩,[⟨⟨65,0,true⟩,(Wr prog 93 [1,1,0,1,0,1,0,1,1,1] 5),(Zg prog 93 [1,1,0,1,0,1,0,1,1,1] 1),(some 1),[],Yk [(6,(.ptr 0 0)),(54,(ii v1)),(56,(ii v2)),(57,(.dat bN.length (Zz bN)))]⟩,⟨⟨86,0,true⟩,(Wr prog 162 [1,0,0,1,0,0,1,1,0] 2),(Zg prog 162 [1,0,0,1,0,0,1,1,0] 1),none,[],Yk [(0,(.yld 1)),(1,(.ptr 5 0)),(2,(.ptr 7 0)),(4,(ii aY)),(82,(.yld 1)),(83,(.agg [(ii v1),(ii v2),(.sl 9 0 1 (.ex 1))]))]⟩,⟨⟨65,0,true⟩,none,(.inRangeFunc 1::(Zg prog 93 [1,1,0,1,0] 1)),none,(Zy prog 93),Yk [(4,(.ptr 3 0)),(5,(.ptr 4 0)),(6,(.ptr 0 0))]⟩,(v3w l0)],(z9k [(1,⟨.busy,none,65,Yk [(2,(.ptr 2 0)),(4,(.ptr 3 0)),(5,(.ptr 4 0)),(6,(.ptr 0 0))],[15],(Wq prog 93 [1,1,0,1,0,0]),(Wq prog 93 [1,1,0,1,0,1])⟩)])⟩
 | .h5 v2 v8 bZ bN aY aC bH bE bT bL bS aA=>⟨⟨101,0,true⟩,none,(Zg prog 136 [0,1,0,0,1,0,0] 0),none,[],⟨Yk [(0,(.ptr 0 0)),(2,(ii v2)),(8,(ii v8))],z5j [(0,⟨[(.sla 1 6 0 aC.length (.un 6)),(.dat bH.length (Zz bH)),(ii bE),(ii bT)],179,none⟩),(1,⟨Ym aC.length (Zz aC),57,some ⟨6,aC.length,(Zz aC)⟩⟩),(3,⟨[.nilf],101,none⟩),(4,⟨[.nils],33,none⟩),(5,⟨[(ii 0)],24,none⟩),(6,⟨[(.sla 7 1 0 bL (.un 1))],125,none⟩),(7,⟨Ym bS.length (Zz bS),3,some ⟨1,bS.length,(Zz bS)⟩⟩),(8,⟨[(.sl 9 0 1 (.un 1))],177,none⟩),(9,⟨[(z2s l0)],32,none⟩),(10,⟨[(.dat aA.length (Zz aA))],80,none⟩)],11,[],true⟩,[⟨⟨65,0,true⟩,(Wr prog 93 [1,1,0,1,0,1,0,1,1,1] 5),(Zg prog 93 [1,1,0,1,0,1,0,1,1,1] 1),(some 2),[],Yk [(6,(.ptr 0 0)),(54,(ii bZ)),(56,(ii v2)),(57,(.dat bN.length (Zz bN)))]⟩,⟨⟨86,0,true⟩,(Wr prog 162 [1,0,0,1,0,0,1,1,0] 2),(Zg prog 162 [1,0,0,1,0,0,1,1,0] 1),none,[],Yk [(0,(.yld 2)),(1,(.ptr 6 0)),(2,(.ptr 8 0)),(4,(ii aY)),(82,(.yld 2)),(83,(.agg [(ii bZ),(ii v2),(.sl 10 0 1 (.ex 1))]))]⟩,⟨⟨65,0,true⟩,none,(.inRangeFunc 2::(Zg prog 93 [1,1,0,1,0] 1)),none,(Zy prog 93),Yk [(4,(.ptr 4 0)),(5,(.ptr 5 0)),(6,(.ptr 0 0))]⟩,⟨⟨25,0,true⟩,(Wr prog 52 [1,1,1,0,0] 3),(Zg prog 52 [1,1,1,0,0] 1),none,(Zy prog 9),Yk [(0,(z2s l0)),(11,(.agg [.nilf])),(13,(.sl 9 0 1 (.un 1)))]⟩],(z9k [(2,⟨.busy,none,65,Yk [(2,(.ptr 3 0)),(4,(.ptr 4 0)),(5,(.ptr 5 0)),(6,(.ptr 0 0))],[15],(Wq prog 93 [1,1,0,1,0,0]),(Wq prog 93 [1,1,0,1,0,1])⟩)])⟩
def sckN0 :List (Option (List Nat)):=[some [0,1,7,8],some [5,6],some [0,8]]
def sckM0 :List (Option (List Nat)):=[]
def j4b :List (Option (List Nat)):=[some [1,3,8,9,10,14,15,16],some [2,4,5,6,13],some [0,11,13]]
def j4d :List (Option (List Nat)):=[]
def j4a :List (Option (List Nat)):=[some [0,1,2,4],some [4,5,6],some [0,11,13]]
def j4c :List (Option (List Nat)):=[some [2,4,5,6],none,none,none,none,none,none,none,none,none]
def u1m :List (Option (List Nat)):=[some [0,1,2,4,5,6,29,30,31,36,37,38],some [4,5,6],some [0,11,13]]
def u1o :List (Option (List Nat)):=[some [2,4,5,6],none,none,none,none,none,none,none,none,none,none,none,none]
def u1l :List (Option (List Nat)):=[some [0,1,2,72,73,74],some [6,54,56,57],some [0,1,2,4,82,83],some [4,5,6],some [0,11,13]]
def u1n :List (Option (List Nat)):=[none,some [2,4,5,6],none,none,none,none,none,none,none,none,none]
def sckN5 :List (Option (List Nat)):=[some [0,2,8],some [6,54,56,57],some [0,1,2,4,82,83],some [4,5,6],some [0,11,13]]
def sckM5 :List (Option (List Nat)):=[none,none,some [2,4,5,6],none,none,none,none,none,none,none,none]
def Xc (l0:List R6):sckS→Xw sckS
 | .h0 v8=>(bif (decide (v8<(l0.length:Int))) then (bif ((decide (0≤v8∧v8<(l0.length:Int)))&&true) then (bif (!(j1y (rd l0 v8.toNat).a (rd l0 v8.toNat).b (rd l0 v8.toNat).c (rd l0 v8.toNat).d (rd l0 v8.toNat).e (rd l0 v8.toNat).f)) then (bif (decide (v8≥0)) then (.ret [(.int .i64 8)]) else (.to (.h1 0 ([]:List Int)))) else (.to (.h0 (wrap .i64 (v8+1))))) else .stuck) else (.to (.h1 0 ([]:List Int))))
 | .h1 v16 aD=>(bif (decide (v16<(l0.length:Int))) then (bif ((decide (0≤v16∧v16<(l0.length:Int)))&&true) then (bif (Nat.beq 1 1&&((decide (0+aD.length=aD.length))&&decide ((aD.length+2+1)*(8+1)≤Jo))) then (.to (.h1 (wrap .i64 (v16+1)) (aD++[(rd l0 v16.toNat).c,(rd l0 v16.toNat).f]))) else .stuck) else .stuck) else (bif (decide (aD.length<4611686018427387904)) then (bif (decide (aD.length=aD.length)) then (.to (.h2 1 ([]:List R6) ([]:List R4) 0 0 (v1y (Yq aD.length (cOf (Zz (Xk (Yq aD.length (cOf (Zz aD)))))))) (Wy (Yq aD.length (cOf (Zz (Xk (Yq aD.length (cOf (Zz aD)))))))))) else .stuck) else .stuck))
 | .h2 v4 aG aR bC bD aE aK=>(bif (decide (v4<((aE:Nat):Int))) then (bif ((decide (0≤(wrap .i64 (v4 - 1))∧(wrap .i64 (v4 - 1))<((aE:Nat):Int)))&&true) then (bif (decide ((0+(Int.toNat (wrap .i64 (v4 - 1))))<aK.length)) then (bif ((decide (0≤v4∧v4<((aE:Nat):Int)))&&true) then (bif (decide ((0+v4.toNat)<aK.length)) then (.to (.h3 v4 0 aG aR bC bD aE aK (rd aK (0+(Int.toNat (wrap .i64 (v4 - 1))))) (rd aK (0+v4.toNat)) ([]:List R4))) else .stuck) else .stuck) else .stuck) else .stuck) else (bif (decide ((aG.length:Int)>400)) then (.ret [(.int .i64 8)]) else (bif (Nat.beq 6 6&&(decide (0+aG.length≤aG.length)&&z1e (Zz aG))) then (bif (Vz (lst R6 (aG.length) (fun k=>(Zz aG) (0+k))) (cvT l0)) then (bif (!(Ka (lst R6 (aG.length) (fun k=>(Zz aG) (0+k))) (cvT l0))) then (.ret [(.int .i64 8)]) else (.ret [(.int .i64 0)])) else .stuck) else .stuck)))
 | .h3 v4 v38 aG aR bC bD aE aK aF aZ aA=>(bif (decide (v38<(l0.length:Int))) then (bif ((decide (0≤v38∧v38<(l0.length:Int)))&&true) then (bif (decide ((rd l0 v38.toNat).c ≤aF)) then (bif (decide (aF<(rd l0 v38.toNat).f)) then (bif (Nat.beq 4 4&&((decide (0+aA.length=aA.length))&&decide ((aA.length+1+1)*(32+1)≤Jo))) then (.to (.h3 v4 (wrap .i64 (v38+1)) aG aR bC bD aE aK aF aZ (aA++[(R4.mk (rd l0 v38.toNat).a (rd l0 v38.toNat).b (rd l0 v38.toNat).d (rd l0 v38.toNat).e)]))) else .stuck) else (.to (.h3 v4 (wrap .i64 (v38+1)) aG aR bC bD aE aK aF aZ aA))) else (.to (.h3 v4 (wrap .i64 (v38+1)) aG aR bC bD aE aK aF aZ aA))) else .stuck) else (bif (Uq (cvT aA)) then (bif ((Yo (cvT aA)) != 0) then (.ret [(.int .i64 8)]) else (bif (decide ((((Zm (cvT aA)).length :Nat):Int)>0)) then (bif (bD == aF) then (bif (Wv (cvT aR) (cvT (Zm (cvT aA)))) then (bif (Vh (cvT aR) (cvT (Zm (cvT aA)))) then (.to (.h5 aZ bC aF (Zm (cvT aA)) v4 aG aR bC bD aE aK aA)) else (.to (.h4 aF aZ (Zm (cvT aA)) (((Zm (cvT aA)).length :Nat):Int) 0 (Zm (cvT aA)) v4 aG (Zm (cvT aA)) (aG.length:Int) aE aK aA))) else .stuck) else (.to (.h4 aF aZ (Zm (cvT aA)) (((Zm (cvT aA)).length :Nat):Int) 0 (Zm (cvT aA)) v4 aG (Zm (cvT aA)) (aG.length:Int) aE aK aA))) else (.to (.h4 aF aZ (Zm (cvT aA)) (((Zm (cvT aA)).length :Nat):Int) 0 (Zm (cvT aA)) v4 aG (Zm (cvT aA)) (aG.length:Int) aE aK aA)))) else .stuck))
 | .h4 v1 v2 v72 v73 v74 bN aY aC bH bE aE aK aF=>(bif (decide (v74<v73)) then (bif ((decide (0≤v74∧v74<(v72.length:Int)))&&true) then (bif (Nat.beq 6 6&&((decide (0+aC.length=aC.length))&&decide ((aC.length+1+1)*(48+1)≤Jo))) then (.to (.h4 v1 v2 v72 v73 (wrap .i64 (v74+1)) bN aY (aC++[(R6.mk (rd v72 v74.toNat).a (rd v72 v74.toNat).b v1 (rd v72 v74.toNat).c (rd v72 v74.toNat).d v2)]) bH bE aE aK aF)) else .stuck) else .stuck) else (.to (.h2 (wrap .i64 (aY+1)) aC bH bE v2 aE aK)))
 | .h5 v2 v8 bZ bN aY aC bH bE bT bL bS aA=>(bif (decide (v8<(aC.length:Int))) then (bif ((decide (0≤v8∧v8<(aC.length:Int)))&&true) then (bif (decide ((0+v8.toNat)<aC.length)) then (.to (.h5 v2 (wrap .i64 (v8+1)) bZ bN aY (aC.set (0+v8.toNat) (R6.mk (rd aC (0+v8.toNat)).a (rd aC (0+v8.toNat)).b (rd aC (0+v8.toNat)).c (rd aC (0+v8.toNat)).d (rd aC (0+v8.toNat)).e v2)) bH bE bT bL bS aA)) else .stuck) else .stuck) else (.to (.h2 (wrap .i64 (aY+1)) aC bH bE v2 bL bS)))
def y3z (l0:List R6):Xw sckS:=(bif (decide ((l0.length:Int)>400)) then (.ret [(.int .i64 4)]) else (.to (.h0 0)))
theorem w8c (l0:List R6): ∀s,Xv prog (Zy prog 52) (sckC l0) (sckC l0 s) (Xc l0 s)
 | .h0 v8=>(lb (fun k0=>(lo fun aI=>(lb (fun k1=>(lb (fun k2=>(lr 25 52 [1,1,0,1,0,0] 1 9 [(2,(ii 8))] (sl Uz 53 [] ⟨[],[],[some [2]],[]⟩ ⟨[],[],[]⟩ (trs 3 []) (tt k2 (tt k1 (ww aI (tt k0 nn))))))) (fun k2=>(sl Uz 113 [(3,1,Zz ([]:List Int))] ⟨[6,1,7,2,3,4,5,8],[],j4b,j4d⟩ ⟨[],[.keep,.keep,.cells [.grow 7 1],.keep,.keep,.keep,.keep,.keep],[]⟩ (bl 4 11) (pp (fl ([]:List Int) nn) (tt k2 (tt k1 (ww aI (tt k0 nn))))))))) (fun k1=>(sl Uz 44 [] ⟨[],[],sckN0,sckM0⟩ ⟨[],[],[]⟩ (bl 2 1) (tt k1 (ww aI (tt k0 nn)))))))) (fun k0=>(sl Uz 82 [(3,1,Zz ([]:List Int))] ⟨[5,0,6,1,2,3,4,7],[],j4b,j4d⟩ ⟨[],[.keep,.keep,.cells [.grow 7 1],.keep,.keep,.keep,.keep,.keep],[]⟩ (bl 3 4) (pp (fl ([]:List Int) nn) (tt k0 nn)))))
 | .h1 v16 aD=>(lb (fun k0=>(lo fun o0=>(lo fun o1=>(sl Uz 34 [] ⟨[0,1,2,3,4,5,6,10],[],j4b,j4d⟩ ⟨[],[.keep,.keep,.cells [.len (x0e aD l0 v16).length],.keep,.keep,.keep,.keep,.rowed 1 (x0e aD l0 v16).length (Zz (x0e aD l0 v16))],[]⟩ [true] (pp (xL (aD.length+2) (x0e aD l0 v16).length) (pp (xL (aD.length+2) (x0e aD l0 v16).length) (pp (xS (aD.length+2) (Zr (Zz aD) 0 aD.length 1 [(ii (rd l0 (tn v16)).c),(ii (rd l0 (tn v16)).f)]) (Zz (x0e aD l0 v16))) (pp (pp (xF (Zr (Zz aD) 0 aD.length 1 [(ii (rd l0 (tn v16)).c),(ii (rd l0 (tn v16)).f)])) nn) (ww o1 (ww o0 (tt k0 nn))))))))))) (fun k0=>(lo fun o0=>(lo fun o1=>(sl Uz 46 [(57,6,Zz ([]:List R6))] ⟨[8,3,4,5,6,2,7,0,1,9],[],j4a,j4c⟩ ⟨[],(kpB 4 [.cells [.grow 9 6,.list 0 (Zz ([]:List R4)),.keep,.keep],.keep,.rowed 1 (x0h aD).length (Zz (x0h aD)),.keep,.keep,.keep]),[]⟩ (bl 2 0) (pp (xL aD.length (x0h aD).length (by first | exact z1d _ _ | exact Vo rfl)) (pp (xS aD.length (Zz (x0h aD)) (Zz (x0h aD))) (pp (fl (x0h aD) (fl ([]:List R6) nn)) (pp (pp (xG (Nat.beq 1 1)) (pp (xG (Nat.beq 1 1)) (pp (xG (Nat.beq 0 0)) (pp (xG (decide (aD.length=aD.length))) (pp (xG (isI (Zz (Xk (Yq aD.length (cOf (Zz aD))))))) (xG (decide (aD.length<4611686018427387904)))))))) (pp (pp (xG (Nat.beq 1 1)) (pp (xG (Nat.beq 1 1)) (pp (xG (Nat.beq 0 0)) (pp (xG (decide (aD.length=aD.length))) (pp (xG (isI (Zz aD))) (xG (decide (aD.length<4611686018427387904)))))))) (tt k0 nn)))))))))))
 | .h2 v4 aG aR bC bD aE aK=>(lb (fun k0=>(lo fun o0=>(lo fun o1=>(lo fun o2=>(lo fun o3=>(sl Uz 48 [(116,4,Zz ([]:List R4))] ⟨[0,1,2,3,4,5,6,7,8,10,11,12,9],[],u1m,u1o⟩ ⟨[],(kpB 10 [.cells [.grow 11 4],.keep,.keep]),[]⟩ (trs 3 []) (pp (fl aK (fl ([]:List R4) (fl aG nn))) (ww o3 (ww o2 (ww o1 (ww o0 (tt k0 nn)))))))))))) (fun k0=>(lb (fun k1=>(lr 25 52 [1,1,1,0,1,1,0,0] 1 9 [(2,(ii 8))] (sl Uz 50 [] ⟨[],[],[some [2]],[]⟩ ⟨[],[],[]⟩ (bl 7 126) (tt k1 (tt k0 nn))))) (fun k1=>(lo fun bX=>(lo fun dM=>(lb (fun k2=>(lr 25 52 [1,1,1,0,1,1,0,0] 1 9 [(2,(ii 8))] (sl Uz 53 [] ⟨[],[],[some [2]],[]⟩ ⟨[],[],[]⟩ (bl 7 64) (tt k2 (pp (pp (pp (xw bX) (pp nn nn)) (pp (xI R6 (aG.length) (fun k=>(Zz aG) (0+k))) (pp (xr l0) (xw dM)))) (tt k1 (tt k0 nn))))))) (fun k2=>(lr 25 3 [1,1,1,1,0] 1 9 [(2,(ii 0))] (sl Uz 54 [] ⟨[],[],[some [2]],[]⟩ ⟨[],[],[]⟩ (bl 7 0) (tt k2 (pp (pp (pp (xw bX) (pp nn nn)) (pp (xI R6 (aG.length) (fun k=>(Zz aG) (0+k))) (pp (xr l0) (xw dM)))) (tt k1 (tt k0 nn))))))))))))))
 | .h3 v4 v38 aG aR bC bD aE aK aF aZ aA=>(lb (fun k0=>(lo fun aI=>(lb (fun k1=>(lb (fun k2=>(lo fun o0=>(sl Uz 41 [] ⟨[0,1,2,3,4,5,6,7,8,9,10,15,12],[],u1m,u1o⟩ ⟨[],(kpB 10 [.cells [.len (x0g aA l0 v38).length],.rowed 4 (x0g aA l0 v38).length (Zz (x0g aA l0 v38)),.keep]),[]⟩ (trs 8 []) (pp (xL (aA.length+1) (x0g aA l0 v38).length) (pp (xL (aA.length+1) (x0g aA l0 v38).length) (pp (xS (aA.length+1) (Zr (Zz aA) 0 aA.length 4 [(ii (rd l0 (tn v38)).a),(ii (rd l0 (tn v38)).b),(ii (rd l0 (tn v38)).d),(ii (rd l0 (tn v38)).e)]) (Zz (x0g aA l0 v38))) (pp (fl aK (pp (xF (Zr (Zz aA) 0 aA.length 4 [(ii (rd l0 (tn v38)).a),(ii (rd l0 (tn v38)).b),(ii (rd l0 (tn v38)).d),(ii (rd l0 (tn v38)).e)])) (fl aG nn))) (ww o0 (tt k2 (tt k1 (ww aI (tt k0 nn)))))))))))) (fun k2=>(sl Uz 41 [] ⟨(List.range 13),[],u1m,u1o⟩ ⟨[],[],[]⟩ (trs 7 [false]) (pp (fl aK (fl aA (fl aG nn))) (tt k2 (tt k1 (ww aI (tt k0 nn))))))))) (fun k1=>(sl Uz 41 [] ⟨(List.range 13),[],u1m,u1o⟩ ⟨[],[],[]⟩ (bl 8 1) (pp (fl aK (fl aA (fl aG nn))) (tt k1 (ww aI (tt k0 nn))))))))) (fun k0=>(Xd (sl Uz (C':=⟨⟨65,0,true⟩,(Wr prog 93 [1,1,0,1,0,1,0,0] 4),(Zg prog 93 [1,1,0,1,0,1,0,0] 1),(some 0),[],⟨Yk [(2,(.ptr 1 0)),(4,(.ptr 2 0)),(5,(.ptr 3 0)),(6,(.ptr 4 0)),(7,(.ptr 6 0)),(20,(.dat aA.length (Zz aA)))],z5j [(1,⟨[.nilf],101,none⟩),(2,⟨[.nils],33,none⟩),(3,⟨[(ii 0)],24,none⟩),(4,⟨[(.sla 5 6 0 aG.length (.un 6)),(.dat aR.length (Zz aR)),(ii bC),(ii bD)],179,none⟩),(5,⟨Ym aG.length (Zz aG),57,some ⟨6,aG.length,(Zz aG)⟩⟩),(6,⟨[(ii aF),(ii aZ),(.sl 7 0 1 (.ex 1))],184,none⟩),(7,⟨[(.dat aA.length (Zz aA))],80,none⟩),(8,⟨[(.sla 9 1 0 aE (.un 1))],125,none⟩),(9,⟨Ym aK.length (Zz aK),3,some ⟨1,aK.length,(Zz aK)⟩⟩),(10,⟨[(.sl 11 0 1 (.un 1))],177,none⟩),(11,⟨[(.dat l0.length (Zz l0))],32,none⟩)],12,[],true⟩,[⟨⟨86,0,true⟩,(Wr prog 162 [1,0,0,1,0,0,1,1,0] 2),(Zg prog 162 [1,0,0,1,0,0,1,1,0] 1),none,[],Yk [(0,(.yld 0)),(1,(.ptr 8 0)),(2,(.ptr 10 0)),(4,(ii v4)),(82,(.yld 0)),(83,(.agg [(ii aF),(ii aZ),(.sl 7 0 1 (.ex 1))]))]⟩,⟨⟨65,0,true⟩,none,(.inRangeFunc 0::(Zg prog 93 [1,1,0,1,0] 1)),none,(Zy prog 93),Yk [(4,(.ptr 2 0)),(5,(.ptr 3 0)),(6,(.ptr 4 0))]⟩,⟨⟨25,0,true⟩,(Wr prog 52 [1,1,1,0,0] 3),(Zg prog 52 [1,1,1,0,0] 1),none,(Zy prog 9),Yk [(0,(.dat l0.length (Zz l0))),(11,(.agg [.nilf])),(13,(.sl 11 0 1 (.un 1)))]⟩],(z9k [(0,⟨.busy,none,65,Yk [(2,(.ptr 1 0)),(4,(.ptr 2 0)),(5,(.ptr 3 0)),(6,(.ptr 4 0))],[15],(Wq prog 93 [1,1,0,1,0,0]),(Wq prog 93 [1,1,0,1,0,1])⟩)])⟩) 37 [] ⟨[0,1,2,3,4,12,13,10,5,6,7,8],[11],[some [2,4,5,6,7,20],some [0,1,2,4,82,83],some [4,5,6],some [0,11,13]],[some [2,4,5,6],none,none,none,none,none,none,none,none,none,none,none]⟩ ⟨[(20,.frz aA.length aA.length (Zz aA) (Zz aA))],[.keep,.keep,.keep,.keep,.keep,.keep,.keep,.cells [.frz aA.length aA.length (Zz aA) (Zz aA)],.keep,.keep,.keep,.keep],[]⟩ (bl 2 0) (pp (xZ (z4o 4 4 0 aA.length aA.length (Zz aA)) aA.length (Zz aA)) (pp (xL aA.length aA.length) (pp (xS aA.length (Zz aA) (Zz aA)) (pp (xZ (z4o 4 4 0 aA.length aA.length (Zz aA)) aA.length (Zz aA)) (pp (xL aA.length aA.length) (pp (xS aA.length (Zz aA) (Zz aA)) (pp (fl aG (fl aK nn)) (pp (fl aA nn) (tt k0 nn)))))))))) (lo fun aI=>(lb (fun k1=>(lr 25 52 [1,1,1,0,1,1,0,0] 1 9 [(2,(ii 8))] (sl Uz 67 [] ⟨[],[],[some [2]],[]⟩ ⟨[],[],[]⟩ (bl 8 254) (tt k1 (tt k1 (pp (pp (xr aA) (xw aI)) nn)))))) (fun k1=>(lb (fun k2=>(lb (fun k3=>(lo fun cC=>(lb (fun k4=>(sl Uz 75 [] ⟨[4,5,0,1,2,3,8,9,10,11,7],[],sckN5,sckM5⟩ ⟨[],[],[]⟩ (bl 15 32764) (pp (fl aG (fl aK nn)) (tt k4 (pp (pp (xr aR) (pp (xI R4 (Zm (cvT aA)).length (Zz (Zm (cvT aA)))) (xw cC))) (tt k3 (tt k2 (tt k1 (pp (pp (xr aA) (xw aI)) nn))))))))) (fun k4=>(sl Uz 95 [] ⟨[4,0,1,2,3,8,9,10,11,7,5],[],u1l,u1n⟩ ⟨[],[],[]⟩ (bl 15 16380) (pp (fl aK (fl aG nn)) (tt k4 (pp (pp (xr aR) (pp (xI R4 (Zm (cvT aA)).length (Zz (Zm (cvT aA)))) (xw cC))) (tt k3 (tt k2 (tt k1 (pp (pp (xr aA) (xw aI)) nn)))))))))))) (fun k3=>(sl Uz 95 [] ⟨[4,0,1,2,3,8,9,10,11,7,5],[],u1l,u1n⟩ ⟨[],[],[]⟩ (bl 15 252) (pp (fl aK (fl aG nn)) (tt k3 (tt k2 (tt k1 (pp (pp (xr aA) (xw aI)) nn))))))))) (fun k2=>(sl Uz 95 [] ⟨[4,0,1,2,3,8,9,10,11,7,5],[],u1l,u1n⟩ ⟨[],[],[]⟩ (bl 15 0) (pp (fl aK (fl aG nn)) (tt k2 (tt k1 (pp (pp (xr aA) (xw aI)) nn)))))))))))))
 | .h4 v1 v2 v72 v73 v74 bN aY aC bH bE aE aK aF=>(lb (fun k0=>(lo fun o0=>(lo fun o1=>(sl Uz 23 [] ⟨[0,1,2,3,4,5,6,7,8,9,13],[],u1l,u1n⟩ ⟨[],[.cells [.len (x0f aC v72 v74 v1 v2).length,.keep,.keep,.keep],.keep,.keep,.keep,.keep,.keep,.keep,.keep,.keep,.keep,.rowed 6 (x0f aC v72 v74 v1 v2).length (Zz (x0f aC v72 v74 v1 v2))],[]⟩ [true] (pp (xL (aC.length+1) (x0f aC v72 v74 v1 v2).length) (pp (xL (aC.length+1) (x0f aC v72 v74 v1 v2).length) (pp (xS (aC.length+1) (Zr (Zz aC) 0 aC.length 6 [(ii (rd v72 (tn v74)).a),(ii (rd v72 (tn v74)).b),(ii v1),(ii (rd v72 (tn v74)).c),(ii (rd v72 (tn v74)).d),(ii v2)]) (Zz (x0f aC v72 v74 v1 v2))) (pp (fl aK (pp (xF (Zr (Zz aC) 0 aC.length 6 [(ii (rd v72 (tn v74)).a),(ii (rd v72 (tn v74)).b),(ii v1),(ii (rd v72 (tn v74)).c),(ii (rd v72 (tn v74)).d),(ii v2)])) nn)) (ww o1 (ww o0 (tt k0 nn))))))))))) (fun k0=>(sl Uz 22 [] ⟨[1,2,3,4,0,5,6,7,8,10],[],j4a,j4c⟩ ⟨[],[],[]⟩ (bl 2 0) (pp (fl aK (fl aC nn)) (tt k0 nn)))))
 | .h5 v2 v8 bZ bN aY aC bH bE bT bL bS aA=>(lb (fun k0=>(lo fun o0=>(lo fun o1=>(sl Uz 34 [] ⟨(List.range 11),[],sckN5,sckM5⟩ ⟨[],[.cells [.len (x0i aC v8 v2).length,.keep,.keep,.keep],.rowed 6 (x0i aC v8 v2).length (Zz (x0i aC v8 v2)),.keep,.keep,.keep,.keep,.keep,.keep,.keep,.keep,.keep],[]⟩ [true] (pp (xL aC.length (x0i aC v8 v2).length) (pp (xL aC.length (x0i aC v8 v2).length) (pp (xS aC.length (Xm (Zz aC) (0+(tn v8)) 5 [(ii v2)]) (Zz (x0i aC v8 v2))) (pp (pp (xF (Xm (Zz aC) (0+(tn v8)) 5 [(ii v2)])) (fl bS nn)) (ww o1 (ww o0 (tt k0 nn))))))))))) (fun k0=>(sl Uz 36 [] ⟨[2,3,4,5,0,6,7,8,9,1],[],j4a,j4c⟩ ⟨[],[],[]⟩ (bl 2 0) (pp (fl bS (fl aC nn)) (tt k0 nn)))))
theorem x8y (l0:List R6):Xv prog (Zy prog 52) (sckC l0) (Za prog 52 [(.dat l0.length (Zz l0))] true []) (y3z l0):=(lb (fun k0=>(lr 25 52 [1,0,1,0,0] 1 9 [(2,(ii 4))] (sl Uz 16 [] ⟨[],[],[some [2]],[]⟩ ⟨[],[],[]⟩ [true] (tt k0 nn)))) (fun k0=>(sl Uz 40 [] ⟨[],[],sckN0,sckM0⟩ ⟨[],[],[]⟩ [false] (tt k0 nn))))
theorem u1k (l0:List R6) (n:Nat) (vs:List AVal) (h:Zt (Xc l0) n (y3z l0)=.ret vs):Uv prog (Zy prog 52) (Za prog 52 [(.dat l0.length (Zz l0))] true []) vs:=by have:=Ze (w8c l0) n _ (x8y l0);rwa [h] at this
theorem w0b (l:List R4):(Zm l).length ≤400:=by
 grind [Zm]
def D6 :Dim R6 R4:=⟨R6.c,R6.f,fun r=>⟨r.a,r.b,r.d,r.e⟩,fun x x' s=>⟨s.a,s.b,x,s.c,s.d,x'⟩,fun x r=>⟨r.a,r.b,r.c,r.d,r.e,x⟩,Zm,Vh⟩
theorem j1v (l:List R6) (x:Int):(D6.sec l x).length ≤1000:=AE (w0b _) (by omega)
def sckErr :List AVal:=[.int .i64 8]
def x4z (l out:List R6):List AVal:=bif decide ((out.length:Int)>400) then [.int .i64 8] else bif Ka out l then [.int .i64 0] else [.int .i64 8]
def v2a (l:List R6) (x:Int):Bool:=Yo (D6.inn l x) != 0
def okF (l:List R6):Nat→Nat→Bool
 | 0,_=>true
 | k+1,i=>bif v2a l (rd (D6.cuts l) i) then false else okF l k (i+1)
section
variable (l:List R6) (hl:l.length≤400)
include hl
theorem u8e (i:Nat) (out:List R6) (last:List R4) (first fin x x':Int): ∀(k j:Nat) (acc:List R4),j+k=l.length→acc.length≤j→
  ∃n,∀N,Zt (Xc l) (N+n) (.to (.h3 (i:Int) (j:Int) out last first fin ((D6.cuts l).length) (Wy (Xk (D6.ends l))) x x' acc))=Zt (Xc l) N (.to (.h3 (i:Int) (l.length:Int) out last first fin ((D6.cuts l).length) (Wy (Xk (D6.ends l))) x x' (acc++D6.inn (l.drop j) x)))
 | 0,j,acc,h,ha=>by refine ⟨0,fun N=> ?_⟩;rw [As (by omega),show D6.inn ([]:List R6) x=[] from rfl,AC,Bg,show j=l.length by omega]
 | k+1,j,acc,h,ha=>by
  have hj:j<l.length:=by omega
  obtain ⟨n,hn⟩:=u8e i out last first fin x x' k (j+1) (acc++D6.inn [rd l j] x) (by omega) (by have:=D6.inn_length [rd l j] x;grind)
  refine ⟨n+1,fun N=> ?_⟩;have e:D6.inn (l.drop j) x=D6.inn [rd l j] x++D6.inn (l.drop (j+1)) x:=by rw [Yg hj,←D6.inn_append];rfl
  rw [e,←AD,Zw,←AK,←hn N];by_cases h1:D6.lo (rd l j)≤x
  ·by_cases h2:x<D6.hi (rd l j)
   ·rw [D6.inn_t _ _ h1 h2];simp only [D6] at h1 h2 ⊢;simp (disch:=omega) only [Xc,Wz,Zc,Zq,Zs,Zo,Yc,Yv,Yj,Zf,Zk,Zx,Yb,Zj,Af,Ao,Ah,Ai,Ab,Aa]
   ·rw [D6.inn_f2 _ _ h2,AC];simp only [D6] at h1 h2;simp (disch:=omega) only [Xc,Wz,Ye,Zc,Zq,Zs,Zo,Yc,Yv,Yj,Zf,Zk,Zx,Yb,Zj,Af,Ao,Ah,Ai,Ab,Aa]
  ·rw [D6.inn_f1 _ _ h1,AC];simp only [D6] at h1;simp (disch:=omega) only [Xc,w2s,Zc,Zq,Zs,Zo,Yc,Yv,Yj,Zf,Zk,Zx,Yb,Zj,Af,Ao,Ah,Ai,Ab,Aa]
theorem u8d (i:Nat) (hi:i≤1000) (x x':Int) (s last:List R4) (first:Int) (inn:List R4) (hs:s.length≤1000): ∀(k j:Nat) (out:List R6),j+k=s.length→out.length≤10000000+j→
  ∃n,∀N,Zt (Xc l) (N+n) (.to (.h4 x x' s (s.length:Int) (j:Int) s (i:Int) out last first ((D6.cuts l).length) (Wy (Xk (D6.ends l))) inn))=Zt (Xc l) N (.to (.h2 ((i+1:Nat):Int) (out++(s.drop j).map (D6.put x x')) last first x' ((D6.cuts l).length) (Wy (Xk (D6.ends l)))))
 | 0,j,out,h,ho=>by
  have _u:=hl;refine ⟨1,fun N=> ?_⟩
  grind [Zw,Xc,Zk]
 | k+1,j,out,h,ho=>by
  obtain ⟨n,hn⟩:=u8d i hi x x' s last first inn hs k (j+1) (out++[D6.put x x' (rd s j)]) (by omega) (by simp;omega)
  refine ⟨n+1,fun N=> ?_⟩;have:=hn N;rw [Yg (show j<s.length by omega),AU,←AD,Zw];simp (disch:=omega) only [Xc,Zc,Zq,Zs,Zo,Yc,Yv,Yj,Zf,Zk,Zx,Yb,Zj,Af,Ao,Ah,Ai,Ab,Aa];rw [AK] at this;exact this
theorem u8c (i:Nat) (hi:i≤1000) (x x' fin:Int) (s last:List R4) (first:Int) (inn:List R4): ∀(k j:Nat) (out:List R6),j+k=out.length→out.length≤10000000→
  ∃n,∀N,Zt (Xc l) (N+n) (.to (.h5 x' (j:Int) x s (i:Int) out last first fin ((D6.cuts l).length) (Wy (Xk (D6.ends l))) inn))=Zt (Xc l) N (.to (.h2 ((i+1:Nat):Int) (D6.grow out j x') last first x' ((D6.cuts l).length) (Wy (Xk (D6.ends l)))))
 | 0,j,out,h,ho=>by
  have _u:=hl;refine ⟨1,fun N=> ?_⟩;rw [D6.grow_nil _ _ _ (by omega),Zw]
  grind [Xc,Zk]
 | k+1,j,out,h,ho=>by
  obtain ⟨n,hn⟩:=u8c i hi x x' fin s last first inn k (j+1) (out.set j (D6.ext x' (rd out j))) (by simp;omega) (by grind)
  refine ⟨n+1,fun N=> ?_⟩;have:=hn N;rw [D6.grow_set out j _ (by omega)] at this;rw [←AD,Zw];simp (disch:=omega) only [Xc,Zc,Zq,Zs,Zo,Yc,Yv,Yj,Zf,Zk,Zx,Yb,Zj,Af,Ao,Ah,Ai,Ab,Aa];exact this
theorem v3v : ∀(k i:Nat) (s:Sw R6 R4),k=(D6.cuts l).length - 1 - i→i≤(D6.cuts l).length →s.out.length≤i*1000→s.last.length≤1000→s.first≤s.out.length→
  ∃n,Zt (Xc l) n (.to (.h2 ((i+1:Nat):Int) s.out s.last (s.first:Int) s.fin ((D6.cuts l).length) (Wy (Xk (D6.ends l)))))=.ret ((bif okF l k i then x4z l (D6.go l k i s).out else sckErr))
 | 0,i,s,h,hi,ho,hla,hf=>by
  have hc:=D6.cuts_length l;refine ⟨1,?_⟩;rw [Zw,show D6.go l 0 i s=s from rfl,show okF l 0 i=true from rfl,Ab];unfold x4z;by_cases q:(s.out.length:Int)>400
  ·grind [Xc,Zp]
  ·have e:lst R6 s.out.length (fun k=>(Zz s.out) k)=s.out:=Zq s.out;have w:Vz s.out l=true:=An (by omega);have f:z1e (Zz s.out)=true:=Xf _;rcases Yw (Ka s.out l) with q2 | q2 <;>
   simp (disch:=omega) only [Xc,Zc,e,w,f,q2,Ye,Xt,Yc,Yb,Af,Aw,Az,Ah,Ab,Aa,Zp]
 | k +1,i,s,h,hi,ho,hla,hf=>by
  have hc:=D6.cuts_length l;have hi1:i+1<(D6.cuts l).length :=by omega
  have hpl:(Wy (Xk (D6.ends l))).length =2*l.length:=by rw [Uw,Vg,D6.ends_length]
  have r0:rd (Wy (Xk (D6.ends l))) i=rd (D6.cuts l) i:=z4n _ _ (by show i<(D6.cuts l).length;omega);have r1:rd (Wy (Xk (D6.ends l))) (i+1)=rd (D6.cuts l) (i+1):=z4n _ _ (by show i+1<(D6.cuts l).length;omega);have hbig:i*1000≤1000*1000:=AA _ (by omega);have hsl:=j1v l (rd (D6.cuts l) i);have hsd:D6.sec l (rd (D6.cuts l) i)=Zm (D6.inn l (rd (D6.cuts l) i)):=rfl;obtain ⟨n3,h3⟩:=u8e l hl (i+1) s.out s.last (s.first:Int) s.fin (rd (D6.cuts l) i) (rd (D6.cuts l) (i+1)) l.length 0 [] (Af _) (Aq _);simp only [AS,A9,z4a] at h3;have w1:Uq (D6.inn l (rd (D6.cuts l) i))=true:=rfl;have w2:Wv s.last (Zm (D6.inn l (rd (D6.cuts l) i)))=true:=An (by omega);have ol:=D6.one_length l (rd (D6.cuts l) i) (rd (D6.cuts l) (i+1)) s;have st0: ∀N,Zt (Xc l) (N+n3+1) (.to (.h2 ((i+1:Nat):Int) s.out s.last (s.first:Int) s.fin ((D6.cuts l).length) (Wy (Xk (D6.ends l)))))=Zt (Xc l) N (.to (.h3 ((i+1:Nat):Int) (l.length:Int) s.out s.last (s.first:Int) s.fin ((D6.cuts l).length) (Wy (Xk (D6.ends l))) (rd (D6.cuts l) i) (rd (D6.cuts l) (i+1)) (D6.inn l (rd (D6.cuts l) i)))):=fun N=>by
   rw [←h3 N,Zw];have e1:wrap .i64 (((i+1:Nat):Int) - 1)=(i:Int):=by rw [Yz];exact Zk (by omega)
   simp (disch:=omega) only [Xc,e1,r0,r1,Zc,Zq,Zs,Zo,Yc,Yv,Yj,Zf,Zk,Zx,Yb,Zj,Af,Ao,Ah,Ai,Ab,Aa]
  rcases Yw (v2a l (rd (D6.cuts l) i)) with q0 | q0
  ·refine ⟨1+n3+1,?_⟩;rw [st0 1,Zw];simp only [okF,q0,Ab,Aa];have q0':(Yo (D6.inn l (rd (D6.cuts l) i)) != 0)=true:=q0;simp (disch:=omega) only [Xc,Zc,Zq,Ye,q0',w1,Ab,Aa,Zp];rfl
  have q0':(Yo (D6.inn l (rd (D6.cuts l) i)) != 0)=false:=q0;rcases Yw (decide (0<(D6.sec l (rd (D6.cuts l) i)).length)&&((s.fin == rd (D6.cuts l) i)&&D6.same s.last (D6.sec l (rd (D6.cuts l) i)))) with q | q
  ·obtain ⟨n5,h5⟩:=u8c l hl (i+1) (by omega) (rd (D6.cuts l) i) (rd (D6.cuts l) (i+1)) s.fin (D6.sec l (rd (D6.cuts l) i)) s.last (s.first:Int) (D6.inn l (rd (D6.cuts l) i)) (s.out.length - s.first) s.first s.out (by omega) (by omega)
   have e:D6.one l (rd (D6.cuts l) i) (rd (D6.cuts l) (i+1)) s=⟨D6.grow s.out s.first (rd (D6.cuts l) (i+1)),s.last,s.first,rd (D6.cuts l) (i+1)⟩:=by unfold Dim.one;rw [q];rfl
   obtain ⟨n0,h0⟩:=v3v k (i+1) (D6.one l (rd (D6.cuts l) i) (rd (D6.cuts l) (i+1)) s) (by omega) (by omega) (by omega) (by grind) (by grind [Dim.grow_length]);refine ⟨n0+n5+1+n3+1,?_⟩;rw [st0 (n0+n5+1),Zw];simp only [Ae,At] at q;obtain ⟨q1,q2,q3⟩:=q;have q3':Vh s.last (Zm (D6.inn l (rd (D6.cuts l) i)))=true:=q3
   grind [Xc,Zc,okF,Dim.go]
  ·obtain ⟨n4,h4⟩:=u8d l hl (i+1) (by omega) (rd (D6.cuts l) i) (rd (D6.cuts l) (i+1)) (D6.sec l (rd (D6.cuts l) i)) (D6.sec l (rd (D6.cuts l) i)) (s.out.length:Int) (D6.inn l (rd (D6.cuts l) i)) hsl (D6.sec l (rd (D6.cuts l) i)).length 0 s.out (Af _) (by omega);simp only [AS,z4a] at h4;have e:D6.one l (rd (D6.cuts l) i) (rd (D6.cuts l) (i+1)) s=⟨s.out++(D6.sec l (rd (D6.cuts l) i)).map (D6.put (rd (D6.cuts l) i) (rd (D6.cuts l) (i+1))),D6.sec l (rd (D6.cuts l) i),s.out.length,rd (D6.cuts l) (i+1)⟩:=by unfold Dim.one;rw [q];rfl
   obtain ⟨n0,h0⟩:=v3v k (i+1) (D6.one l (rd (D6.cuts l) i) (rd (D6.cuts l) (i+1)) s) (by omega) (by omega) (by omega) (by grind) (by rw [e];simp);have hg:Zt (Xc l) 1 (.to (.h3 ((i+1:Nat):Int) (l.length:Int) s.out s.last (s.first:Int) s.fin ((D6.cuts l).length) (Wy (Xk (D6.ends l))) (rd (D6.cuts l) i) (rd (D6.cuts l) (i+1)) (D6.inn l (rd (D6.cuts l) i))))=.to (.h4 (rd (D6.cuts l) i) (rd (D6.cuts l) (i+1)) (D6.sec l (rd (D6.cuts l) i)) ((D6.sec l (rd (D6.cuts l) i)).length :Int) 0 (D6.sec l (rd (D6.cuts l) i)) ((i+1:Nat):Int) s.out (D6.sec l (rd (D6.cuts l) i)) (s.out.length:Int) ((D6.cuts l).length) (Wy (Xk (D6.ends l))) (D6.inn l (rd (D6.cuts l) i))):=by
    rw [show (1:Nat)=0+1 from rfl,Zw];rw [hsd] at q ⊢;have e3:D6.same s.last (Zm (D6.inn l (rd (D6.cuts l) i)))=Vh s.last (Zm (D6.inn l (rd (D6.cuts l) i))):=rfl;rw [e3] at q;by_cases q1:0<(Zm (D6.inn l (rd (D6.cuts l) i))).length
    ·rw [An q1,Ai] at q;rcases Yw (s.fin == rd (D6.cuts l) i) with q2 | q2
     ·rw [q2,Ai] at q;simp (disch:=omega) only [Xc,Zc,Zq,Ye,Ys,q0',q2,q,w1,w2,Ab,Aa];rfl
     ·simp (disch:=omega) only [Xc,Zc,Zq,Ye,Ys,q0',q2,w1,w2,Ab,Aa];rfl
    ·simp (disch:=omega) only [Xc,Zc,Zq,Ye,Xt,q0',w1,w2,Ab,Aa];rfl
   refine ⟨n0+n4+1+n3+1,?_⟩;simp_all [z5n,okF,Dim.go]
theorem u8f : ∀(k i:Nat) (acc:List Int),i+k=l.length→acc=D6.ends (l.take i)→ ∃n,Zt (Xc l) n (.to (.h1 (i:Int) acc))=.ret ((bif okF l ((D6.cuts l).length - 1) 0 then x4z l (D6.go l ((D6.cuts l).length - 1) 0 ⟨[],[],0,0⟩).out else sckErr))
 | 0,i,acc,h,ha=>by
  have e:acc=D6.ends l:=by grind
  subst e;have hle:=D6.ends_length l;obtain ⟨n,hn⟩:=v3v l hl ((D6.cuts l).length - 1) 0 ⟨[],[],0,0⟩ (by omega) (Ay _) (Ay _) (Ay _) (Ay _);refine ⟨n+1,?_⟩;rw [Zw];simp (disch:=omega) only [Xc,Jq,Qq,z7w,Ye,Yv,Yj,Ao,Ab,Aa];exact hn
 | k+1,i,acc,h,ha=>by
  have hle:=D6.ends_length (l.take i);have fX:acc.length≤2*i:=by grind
  obtain ⟨n,hn⟩:=u8f k (i+1) (acc++D6.ends [rd l i]) (by omega) (by
   rw [ha,AX];have:l[i]? =some (rd l i):=by grind [Yr]
   rw [this,D6.ends_append];rfl)
  refine ⟨n+1,?_⟩;rw [Zw];simp (disch:=omega) only [Xc,Zc,Zq,Zs,Zo,Yc,Yv,Yj,Zf,Zk,Zx,Yb,Zj,Af,Ao,Ah,Ai,Ab,Aa];exact hn
theorem u8g : ∀(k i:Nat),i+k=l.length→(∀s∈l.take i,Qf s=true)→ ∃n,Zt (Xc l) n (.to (.h0 (i:Int)))=.ret (bif l.all Qf then (bif okF l ((D6.cuts l).length - 1) 0 then x4z l (D6.go l ((D6.cuts l).length - 1) 0 ⟨[],[],0,0⟩).out else sckErr) else sckErr)
 | 0,i,h,ht=>by
  have hv:l.all Qf=true:=Ar.2 fun s hs=>ht s (by grind);obtain ⟨n,hn⟩:=u8f l hl l.length 0 [] (Af _) rfl;refine ⟨n+1,?_⟩
  grind [Zw,Xc]
 | k+1,i,h,ht=>by
  have hi:i<l.length:=by omega
  have hs:Xc l (.h0 (i:Int))=bif Qf (rd l i) then .to (.h0 ((i+1:Nat):Int)) else .ret sckErr:=by have e:j1y (rd l i).a (rd l i).b (rd l i).c (rd l i).d (rd l i).e (rd l i).f =Qf (rd l i):=rfl;simp (disch:=omega) only [Xc,e,y1u,x6u,w6o,Zo,Zk,Zx,Zj,Ah,Ab,Aa];rfl
  rcases Yw (Qf (rd l i)) with q | q
  ·obtain ⟨n,hn⟩:=u8g k (i+1) (by omega) (fun s hs=>by
    rw [AX] at hs
    grind [Yr])
   refine ⟨n+1,?_⟩
   grind [Zw]
  ·have hv:l.all Qf=false:=A0.2 fun e=>by
    grind [Yr]
   refine ⟨1,?_⟩
   grind [Zw,Zp]
end
def Zh (l:List R6):Int:=bif decide (400<l.length) then 4 else bif l.all Qf then (bif okF l ((D6.cuts l).length - 1) 0 then (bif decide (((D6.out l).length :Int)>400) then 8 else bif Ka (D6.out l) l then 0 else 8) else 8) else 8
def v3x (l:List R6):Bool:=true
theorem j3x (l:List R6): ∃n,Zt (Xc l) n (y3z l)=.ret [.int .i64 (Zh l)]:=by
 unfold y3z Zh;by_cases h:400<l.length
 ·refine ⟨0,?_⟩;rw [An h,Ys (show (l.length:Int)>400 by omega)];rfl
 ·obtain ⟨n,hn⟩:=u8g l (by omega) l.length 0 (Af _) (fun s hs=>by simp at hs);refine ⟨n,?_⟩;rw [AB h,Xt (show ¬(l.length:Int)>400 by omega),Aa,Aa];rw [z4a] at hn;rw [hn];unfold sckErr x4z;cases l.all Qf <;> simp only [Ab,Aa];cases okF l ((D6.cuts l).length - 1) 0 <;> simp only [Ab,Aa];show Xw.ret (bif decide (((D6.out l).length :Int)>400) then _ else bif Ka (D6.out l) l then _ else _)=_
  grind
def fSck :List AVal→Option (AVal×Bool)
 | [a1]=>match asL R6 a1 with
  | some (L1,g1,n1)=>some (.int .i64 (Zh L1),isT R6 n1 g1&&v3x L1)
  | _=>none
 | _=>none
theorem j7u {S:Specs} (hS:Zu prog S):Zu prog (S.with x6a fSck):=by
 refine z0k hS (by kernel_rfl) fun args v h=> ?_;unfold fSck at h;split at h
 ·rename_i a1;split at h
  ·rename_i L1 g1 n1 e1;simp only [Ad,Ac,Ae] at h;obtain ⟨rfl,ho1,hw⟩:=h;obtain ⟨N,hN⟩:=j3x L1;exact ⟨_,_,(.cons (Yh e1 ho1) .nil),rfl,u1k L1 N _ hN,3,rfl⟩
  ·cases h
 ·cases h
def T8 :Specs:=T7v.with x6a fSck
theorem z1r :Zu prog T8:=j7u Uz
def Wt (l:List R6):Bool:=true
def y6p (l:List R6):Bool:=true
inductive rchkS where
 | h0 (v3:Int)
def j5n (l0:List R6):rchkS→Cfg
 | .h0 v3=>⟨⟨34,0,true⟩,none,(Zg prog 59 [1,1,0,1,0,0] 0),none,(Zy prog 9),⟨Yk [(0,(.dat l0.length (Zz l0))),(3,(ii v3))],Vv [] 0,0,[],true⟩,[],.leaf⟩
def u9w :List (Option (List Nat)):=[some [0,3]]
def u9x :List (Option (List Nat)):=[]
def z1x (l0:List R6):rchkS→Xw rchkS
 | .h0 v3=>(bif (decide (v3<(l0.length:Int))) then (bif ((decide (0≤v3∧v3<(l0.length:Int)))&&true) then (bif (decide ((rd l0 v3.toNat).a ≥(-1000000))) then (bif (decide ((rd l0 v3.toNat).b ≥(-1000000))) then (bif (decide ((rd l0 v3.toNat).c ≥(-1000000))) then (bif (decide ((rd l0 v3.toNat).a ≤1000000)) then (bif (decide ((rd l0 v3.toNat).b ≤1000000)) then (bif (decide ((rd l0 v3.toNat).c ≤1000000)) then (bif (decide ((rd l0 v3.toNat).d ≥(-1000000))) then (bif (decide ((rd l0 v3.toNat).e ≥(-1000000))) then (bif (decide ((rd l0 v3.toNat).f ≥(-1000000))) then (bif (decide ((rd l0 v3.toNat).d ≤1000000)) then (bif (decide ((rd l0 v3.toNat).e ≤1000000)) then (bif (decide ((rd l0 v3.toNat).f ≤1000000)) then (bif (decide ((rd l0 v3.toNat).a <(rd l0 v3.toNat).d)) then (bif (decide ((rd l0 v3.toNat).b <(rd l0 v3.toNat).e)) then (bif (!(decide ((rd l0 v3.toNat).c <(rd l0 v3.toNat).f))) then (.ret [(.int .i64 8)]) else (.to (.h0 (wrap .i64 (v3+1))))) else (.ret [(.int .i64 8)])) else (.ret [(.int .i64 8)])) else (.ret [(.int .i64 8)])) else (.ret [(.int .i64 8)])) else (.ret [(.int .i64 8)])) else (.ret [(.int .i64 8)])) else (.ret [(.int .i64 8)])) else (.ret [(.int .i64 8)])) else (.ret [(.int .i64 8)])) else (.ret [(.int .i64 8)])) else (.ret [(.int .i64 8)])) else (.ret [(.int .i64 8)])) else (.ret [(.int .i64 8)])) else (.ret [(.int .i64 8)])) else .stuck) else (bif (z9n 2 (cvT l0) ([]:List R6)) then (bif (!(y8x 2 (cvT l0) ([]:List R6))) then (.ret [(.int .i64 8)]) else (bif (Vz (cvT (z5m 2 (cvT l0) ([]:List R6))) (cvT l0)) then (bif (!(Ka (cvT (z5m 2 (cvT l0) ([]:List R6))) (cvT l0))) then (.ret [(.int .i64 8)]) else (.ret [(.int .i64 0)])) else .stuck)) else .stuck))
def z9a (l0:List R6):Xw rchkS:=(bif (decide ((l0.length:Int)>400)) then (.ret [(.int .i64 4)]) else (.to (.h0 0)))
theorem w0k (l0:List R6): ∀s,Xv prog (Zy prog 59) (j5n l0) (j5n l0 s) (z1x l0 s)
 | .h0 v3=>(lb (fun k0=>(lo fun aI=>(lb (fun k1=>(lb (fun k2=>(lb (fun k3=>(lb (fun k4=>(lb (fun k5=>(lb (fun k6=>(lb (fun k7=>(lb (fun k8=>(lb (fun k9=>(lb (fun k10=>(lb (fun k11=>(lb (fun k12=>(lb (fun k13=>(lb (fun k14=>(lb (fun k15=>(lr 34 59 [1,1,0,1,0,0,1,0,0,1,0,0] 1 9 [(2,(ii 8))] (sl z1r 158 [] ⟨[],[],[some [2]],[]⟩ ⟨[],[],[]⟩ (trs 60 []) (tt k15 (tt k14 (tt k13 (tt k12 (tt k11 (tt k10 (tt k9 (tt k8 (tt k7 (tt k6 (tt k5 (tt k4 (tt k3 (tt k2 (tt k1 (ww aI (tt k0 nn)))))))))))))))))))) (fun k15=>(sl z1r 162 [] ⟨[],[],u9w,u9x⟩ ⟨[],[],[]⟩ (trs 59 [false]) (tt k15 (tt k14 (tt k13 (tt k12 (tt k11 (tt k10 (tt k9 (tt k8 (tt k7 (tt k6 (tt k5 (tt k4 (tt k3 (tt k2 (tt k1 (ww aI (tt k0 nn))))))))))))))))))))) (fun k14=>(lr 34 59 [1,1,0,1,0,0,1,0,0,1,0,0] 1 9 [(2,(ii 8))] (sl z1r 158 [] ⟨[],[],[some [2]],[]⟩ ⟨[],[],[]⟩ (trs 52 (bl 8 128)) (tt k14 (tt k13 (tt k12 (tt k11 (tt k10 (tt k9 (tt k8 (tt k7 (tt k6 (tt k5 (tt k4 (tt k3 (tt k2 (tt k1 (ww aI (tt k0 nn))))))))))))))))))))) (fun k13=>(lr 34 59 [1,1,0,1,0,0,1,0,0,1,0,0] 1 9 [(2,(ii 8))] (sl z1r 158 [] ⟨[],[],[some [2]],[]⟩ ⟨[],[],[]⟩ (trs 45 (bl 15 16384)) (tt k13 (tt k12 (tt k11 (tt k10 (tt k9 (tt k8 (tt k7 (tt k6 (tt k5 (tt k4 (tt k3 (tt k2 (tt k1 (ww aI (tt k0 nn)))))))))))))))))))) (fun k12=>(lr 34 59 [1,1,0,1,0,0,1,0,0,1,0,0] 1 9 [(2,(ii 8))] (sl z1r 158 [] ⟨[],[],[some [2]],[]⟩ ⟨[],[],[]⟩ (trs 38 (bl 22 2097152)) (tt k12 (tt k11 (tt k10 (tt k9 (tt k8 (tt k7 (tt k6 (tt k5 (tt k4 (tt k3 (tt k2 (tt k1 (ww aI (tt k0 nn))))))))))))))))))) (fun k11=>(lr 34 59 [1,1,0,1,0,0,1,0,0,1,0,0] 1 9 [(2,(ii 8))] (sl z1r 158 [] ⟨[],[],[some [2]],[]⟩ ⟨[],[],[]⟩ (trs 35 (bl 25 16777216)) (tt k11 (tt k10 (tt k9 (tt k8 (tt k7 (tt k6 (tt k5 (tt k4 (tt k3 (tt k2 (tt k1 (ww aI (tt k0 nn)))))))))))))))))) (fun k10=>(lr 34 59 [1,1,0,1,0,0,1,0,0,1,0,0] 1 9 [(2,(ii 8))] (sl z1r 158 [] ⟨[],[],[some [2]],[]⟩ ⟨[],[],[]⟩ (trs 32 (bl 28 134217728)) (tt k10 (tt k9 (tt k8 (tt k7 (tt k6 (tt k5 (tt k4 (tt k3 (tt k2 (tt k1 (ww aI (tt k0 nn))))))))))))))))) (fun k9=>(lr 34 59 [1,1,0,1,0,0,1,0,0,1,0,0] 1 9 [(2,(ii 8))] (sl z1r 158 [] ⟨[],[],[some [2]],[]⟩ ⟨[],[],[]⟩ (trs 29 (bl 31 1073741824)) (tt k9 (tt k8 (tt k7 (tt k6 (tt k5 (tt k4 (tt k3 (tt k2 (tt k1 (ww aI (tt k0 nn)))))))))))))))) (fun k8=>(lr 34 59 [1,1,0,1,0,0,1,0,0,1,0,0] 1 9 [(2,(ii 8))] (sl z1r 158 [] ⟨[],[],[some [2]],[]⟩ ⟨[],[],[]⟩ (trs 25 (bl 35 17179869184)) (tt k8 (tt k7 (tt k6 (tt k5 (tt k4 (tt k3 (tt k2 (tt k1 (ww aI (tt k0 nn))))))))))))))) (fun k7=>(lr 34 59 [1,1,0,1,0,0,1,0,0,1,0,0] 1 9 [(2,(ii 8))] (sl z1r 158 [] ⟨[],[],[some [2]],[]⟩ ⟨[],[],[]⟩ (trs 21 (bl 39 274877906944)) (tt k7 (tt k6 (tt k5 (tt k4 (tt k3 (tt k2 (tt k1 (ww aI (tt k0 nn)))))))))))))) (fun k6=>(lr 34 59 [1,1,0,1,0,0,1,0,0,1,0,0] 1 9 [(2,(ii 8))] (sl z1r 117 [] ⟨[],[],[some [2]],[]⟩ ⟨[],[],[]⟩ (trs 18 (bl 25 16777216)) (tt k6 (tt k5 (tt k4 (tt k3 (tt k2 (tt k1 (ww aI (tt k0 nn))))))))))))) (fun k5=>(lr 34 59 [1,1,0,1,0,0,1,0,0,1,0,0] 1 9 [(2,(ii 8))] (sl z1r 117 [] ⟨[],[],[some [2]],[]⟩ ⟨[],[],[]⟩ (trs 15 (bl 28 134217728)) (tt k5 (tt k4 (tt k3 (tt k2 (tt k1 (ww aI (tt k0 nn)))))))))))) (fun k4=>(lr 34 59 [1,1,0,1,0,0,1,0,0,1,0,0] 1 9 [(2,(ii 8))] (sl z1r 117 [] ⟨[],[],[some [2]],[]⟩ ⟨[],[],[]⟩ (trs 12 (bl 31 1073741824)) (tt k4 (tt k3 (tt k2 (tt k1 (ww aI (tt k0 nn))))))))))) (fun k3=>(lr 34 59 [1,1,0,1,0,0,1,0,0,1,0,0] 1 9 [(2,(ii 8))] (sl z1r 117 [] ⟨[],[],[some [2]],[]⟩ ⟨[],[],[]⟩ (trs 9 (bl 34 8589934592)) (tt k3 (tt k2 (tt k1 (ww aI (tt k0 nn)))))))))) (fun k2=>(lr 34 59 [1,1,0,1,0,0,1,0,0,1,0,0] 1 9 [(2,(ii 8))] (sl z1r 117 [] ⟨[],[],[some [2]],[]⟩ ⟨[],[],[]⟩ (trs 5 (bl 38 137438953472)) (tt k2 (tt k1 (ww aI (tt k0 nn))))))))) (fun k1=>(lr 34 59 [1,1,0,1,0,0,1,0,0,1,0,0] 1 9 [(2,(ii 8))] (sl z1r 117 [] ⟨[],[],[some [2]],[]⟩ ⟨[],[],[]⟩ (bl 43 4398046511105) (tt k1 (ww aI (tt k0 nn))))))))) (fun k0=>(lo fun aI=>(lb (fun k1=>(lr 34 59 [1,1,1,1,0,1,0,0] 1 9 [(2,(ii 8))] (sl z1r 37 [] ⟨[],[],[some [2]],[]⟩ ⟨[],[],[]⟩ (bl 6 62) (tt k1 (pp (pp (xr l0) (pp (xI R6 0 (fun _=>[])) (xw aI))) (tt k0 nn)))))) (fun k1=>(lo fun bX=>(lb (fun k2=>(lr 34 59 [1,1,1,1,0,1,0,0] 1 9 [(2,(ii 8))] (sl z1r 37 [] ⟨[],[],[some [2]],[]⟩ ⟨[],[],[]⟩ (bl 6 32) (tt k2 (pp (pp (xI R6 (z5m 2 (cvT l0) ([]:List R6)).length (Zz (z5m 2 (cvT l0) ([]:List R6)))) (pp (xr l0) (xw bX))) (tt k1 (pp (pp (xr l0) (pp (xI R6 0 (fun _=>[])) (xw aI))) (tt k0 nn)))))))) (fun k2=>(lr 34 3 [1,1,1,1,0] 1 9 [(2,(ii 0))] (sl z1r 38 [] ⟨[],[],[some [2]],[]⟩ ⟨[],[],[]⟩ (bl 6 0) (tt k2 (pp (pp (xI R6 (z5m 2 (cvT l0) ([]:List R6)).length (Zz (z5m 2 (cvT l0) ([]:List R6)))) (pp (xr l0) (xw bX))) (tt k1 (pp (pp (xr l0) (pp (xI R6 0 (fun _=>[])) (xw aI))) (tt k0 nn)))))))))))))))
theorem x5m (l0:List R6):Xv prog (Zy prog 59) (j5n l0) (Za prog 59 [(.dat l0.length (Zz l0))] true []) (z9a l0):=(lb (fun k0=>(lr 34 59 [1,0,1,0,0] 1 9 [(2,(ii 4))] (sl z1r 16 [] ⟨[],[],[some [2]],[]⟩ ⟨[],[],[]⟩ [true] (tt k0 nn)))) (fun k0=>(sl z1r 20 [] ⟨[],[],u9w,u9x⟩ ⟨[],[],[]⟩ [false] (tt k0 nn))))
theorem v5n (l0:List R6) (n:Nat) (vs:List AVal) (h:Zt (z1x l0) n (z9a l0)=.ret vs):Uv prog (Zy prog 59) (Za prog 59 [(.dat l0.length (Zz l0))] true []) vs:=by have:=Ze (w0k l0) n _ (x5m l0);rwa [h] at this
def x7r (r:R6):Bool:=decide (r.a≥ -1000000)&&(decide (r.b≥ -1000000)&&(decide (r.c≥ -1000000)&&(decide (r.a≤1000000)&&(decide (r.b≤1000000)&&(decide (r.c≤1000000)&&(decide (r.d≥ -1000000)&&(decide (r.e≥ -1000000)&&(decide (r.f≥ -1000000)&&(decide (r.d≤1000000)&&(decide (r.e≤1000000)&&(decide (r.f≤1000000)&&(decide (r.a<r.d)&&(decide (r.b<r.e)&&decide (r.c<r.f))))))))))))))
def rckF (l:List R6):Int:=bif y8x 2 l [] then (bif Ka (z5m 2 l []) l then 0 else 8) else 8
def z1w (l:List R6):Int:=bif decide (400<l.length) then 4 else bif l.all x7r then rckF l else 8
def v5l (l:List R6):Bool:=true
theorem v0b (k:Int) (l m:List R6):(z5m k l m).length ≤400∨y8x k l m=false:=by
 grind [z5m,y8x]
section
variable (l:List R6) (hl:l.length≤400)
include hl
theorem v5m : ∀(k i:Nat),i+k=l.length→(∀s∈l.take i,x7r s=true)→ ∃n,Zt (z1x l) n (.to (.h0 (i:Int)))=.ret [.int .i64 (bif l.all x7r then rckF l else 8)]
 | 0,i,h,ht=>by
  have hv:l.all x7r=true:=Ar.2 fun s hs=>ht s (by grind);have w1:z9n 2 l []=true:=jsV_ow (by omega) (by simp);refine ⟨1,?_⟩;rw [Zw,hv,Ab];unfold rckF;rcases Yw (y8x 2 l []) with q | q
  ·have w2:Vz (z5m 2 l []) l=true:=An (by
    grind [v0b])
   rcases Yw (Ka (z5m 2 l []) l) with q2 | q2 <;>
   simp (disch:=omega) only [z1x,Zc,Ye,q,q2,w1,w2,Aw,Az,Ab,Aa,Zp]
  grind [z1x,Zc,Zp]
 | k+1,i,h,ht=>by
  have hi:i<l.length:=by omega
  have hs:z1x l (.h0 (i:Int))=bif x7r (rd l i) then .to (.h0 ((i+1:Nat):Int)) else .ret [.int .i64 8]:=by simp (disch:=omega) only [z1x,x7r,y1v,y1u,x6u,Zo,Zk,Zx,Zj,Ah,Ab,Aa]
  rcases Yw (x7r (rd l i)) with q | q
  ·obtain ⟨n,hn⟩:=v5m k (i+1) (by omega) (fun s hs=>by
    rw [AX] at hs
    grind [Yr])
   refine ⟨n+1,?_⟩
   grind [Zw]
  ·have hv:l.all x7r=false:=A0.2 fun e=>by
    grind [Yr]
   refine ⟨1,?_⟩
   grind [Zw,Zp]
end
theorem u3c (l:List R6): ∃n,Zt (z1x l) n (z9a l)=.ret [.int .i64 (z1w l)]:=by
 unfold z9a z1w;by_cases h:400<l.length
 ·refine ⟨0,?_⟩;rw [An h,Ys (show (l.length:Int)>400 by omega)];rfl
 ·obtain ⟨n,hn⟩:=v5m l (by omega) l.length 0 (Af _) (fun s hs=>by simp at hs)
  grind
def fRck :List AVal→Option (AVal×Bool)
 | [a1]=>match asL R6 a1 with
  | some (L1,g1,n1)=>some (.int .i64 (z1w L1),isT R6 n1 g1&&v5l L1)
  | _=>none
 | _=>none
theorem j8f {S:Specs} (hS:Zu prog S):Zu prog (S.with v6q fRck):=by
 refine z0k hS (by kernel_rfl) fun args v h=> ?_;unfold fRck at h;split at h
 ·rename_i a1;split at h
  ·rename_i L1 g1 n1 e1;simp only [Ad,Ac,Ae] at h;obtain ⟨rfl,ho1,hw⟩:=h;obtain ⟨N,hN⟩:=u3c L1;exact ⟨_,_,(.cons (Yh e1 ho1) .nil),rfl,v5n L1 N _ hN,3,rfl⟩
  ·cases h
 ·cases h
def T9 :Specs:=T8.with v6q fRck
theorem z6n :Zu prog T9:=j8f z1r
def pt (L:List R2) (y:Int):Prop:= ∃s∈L,s.a≤y∧y<s.b
structure Can (L:List R2):Prop where
 pos: ∀s∈L,s.a<s.b
 sep:L.Pairwise fun s t=>s.b<t.a
theorem Can.nil :Can []:=⟨by simp,.nil⟩
theorem Can.tail {s:R2} {L:List R2} (h:Can (s::L)):Can L:=⟨fun t ht=>h.pos t (List.mem_cons_of_mem _ ht),(AR.1 h.sep).2⟩
theorem Can.head {s:R2} {L:List R2} (h:Can (s::L)): ∀t∈L,s.b<t.a:=(AR.1 h.sep).1
theorem j1p {s:R2} {L:List R2} (h:Can (s::L)) {y:Int} (hy:pt (s::L) y):s.a≤y:=by
 obtain ⟨t,ht,h1,h2⟩:=hy;rcases AI.1 ht with rfl | ht
 ·exact h1
 ·have:=h.head t ht;have:=h.pos s (by simp);omega
theorem w6t : ∀(L M:List R2),Can L→Can M→(∀y,pt L y↔pt M y)→L=M
 | [],[],_,_,_=>rfl
 | [],t::M,_,hM,h=>by have:=(h t.a).2 ⟨t,by simp,A3 _,hM.pos t (by simp)⟩;obtain ⟨s,hs,_⟩:=this;cases hs
 | s::L,[],hL,_,h=>by have:=(h s.a).1 ⟨s,by simp,A3 _,hL.pos s (by simp)⟩;obtain ⟨s,hs,_⟩:=this;cases hs
 | s::L,t::M,hL,hM,h=>by
  have p1:=hL.pos s (by simp);have p2:=hM.pos t (by simp);have a1:t.a≤s.a:=j1p hM ((h s.a).1 ⟨s,by simp,A3 _,p1⟩);have a2:s.a≤t.a:=j1p hL ((h t.a).2 ⟨t,by simp,A3 _,p2⟩);have b1: ¬s.b<t.b:=fun hb=>by
   obtain ⟨u,hu,h1,h2⟩:=(h s.b).2 ⟨t,by simp,by omega,hb⟩;rcases AI.1 hu with rfl | hu
   ·omega
   ·have:=hL.head u hu;omega
  have b2: ¬t.b<s.b:=fun hb=>by
   obtain ⟨u,hu,h1,h2⟩:=(h t.b).1 ⟨s,by simp,by omega,hb⟩;rcases AI.1 hu with rfl | hu
   ·omega
   ·have:=hM.head u hu;omega
  have e:s=t:=by
   obtain ⟨sa,sb⟩:=s;obtain ⟨ta,tb⟩:=t;simp only at a1 a2 b1 b2;have:sa=ta:=by omega
   have:sb=tb:=by omega
   subst_vars;rfl
  subst e
  congr 1
  refine w6t L M hL.tail hM.tail fun y=>⟨fun hy=> ?_,fun hy=> ?_⟩
  ·obtain ⟨u,hu,h1,h2⟩:=hy;have g:=hL.head u hu;obtain ⟨v,hv,h3,h4⟩:=(h y).1 ⟨u,by simp [hu],h1,h2⟩;rcases AI.1 hv with rfl | hv
   ·omega
   ·exact ⟨v,hv,h3,h4⟩
  ·obtain ⟨u,hu,h1,h2⟩:=hy;have g:=hM.head u hu;obtain ⟨v,hv,h3,h4⟩:=(h y).2 ⟨u,by simp [hu],h1,h2⟩;rcases AI.1 hv with rfl | hv
   ·omega
   ·exact ⟨v,hv,h3,h4⟩
def push (out:List R2) (x x':Int):List R2:=
 bif decide (0<out.length)&&((rd out (out.length - 1)).b == x) then out.set (out.length - 1) ⟨(rd out (out.length - 1)).a,x'⟩ else out++[⟨x,x'⟩]
theorem v5q (out:List R2) (s:R2) (x x':Int):push (out++[s]) x x'=bif s.b == x then out++[⟨s.a,x'⟩] else out++[s]++[⟨x,x'⟩]:=by
 grind [rd,push]
theorem w5d {out:List R2} {x x':Int} (hc:Can out) (hb: ∀s∈out,s.b≤x) (hx:x<x'):
  Can (push out x x')∧(∀s∈push out x x',s.b≤x')∧ ∀y,pt (push out x x') y↔pt out y∨(x≤y∧y<x'):=by
 rcases List.eq_nil_or_concat out with rfl | ⟨L,s,rfl⟩
 ·refine ⟨⟨?_,?_⟩,?_,fun y=> ?_⟩;all_goals simp_all [push,pt]
 ·rw [List.concat_eq_append] at*;rw [v5q];have hs:=hb s (by simp);have hp:=hc.pos s (by simp);have sep:=By.1 hc.sep;rcases Yw (s.b == x) with q | q
  ·rw [q,Ab];have q:s.b=x:=by simpa using q
   refine ⟨⟨?_,?_⟩,?_,fun y=> ?_⟩
   ·intro t ht;rcases AH.1 ht with ht | ht
    ·exact hc.pos t (by simp [ht])
    grind
   ·grind
   ·grind
   ·constructor
    ·rintro ⟨t,ht,h1,h2⟩;rcases AH.1 ht with ht | ht
     ·exact .inl ⟨t,by simp [ht],h1,h2⟩
     ·rw [BL.1 ht] at h1 h2;by_cases hy:y<s.b
      ·exact .inl ⟨s,by simp,h1,hy⟩
      grind
    ·rintro (⟨t,ht,h1,h2⟩ | ⟨h1,h2⟩)
     ·rcases AH.1 ht with ht | ht
      ·exact ⟨t,by simp [ht],h1,h2⟩
      ·rw [BL.1 ht] at h1 h2;exact ⟨⟨s.a,x'⟩,by simp,h1,by grind⟩
     ·exact ⟨⟨s.a,x'⟩,by simp,by grind,h2⟩
  ·rw [q,Aa];have q:s.b≠x:=by simpa using q
   refine ⟨⟨?_,?_⟩,?_,fun y=> ?_⟩
   ·intro t ht;rcases AH.1 ht with ht | ht
    ·exact hc.pos t ht
    grind
   ·grind
   ·grind
   ·constructor
    ·rintro ⟨t,ht,h1,h2⟩;rcases AH.1 ht with ht | ht
     ·exact .inl ⟨t,ht,h1,h2⟩
     grind
    ·rintro (⟨t,ht,h1,h2⟩ | ⟨h1,h2⟩)
     ·exact ⟨t,AH.2 (.inl ht),h1,h2⟩
     ·exact ⟨⟨x,x'⟩,by simp,h1,h2⟩
theorem x3h {l:List Int} (h:l.Pairwise (· < ·)) {i j:Nat} (hij:i<j) (hj:j<l.length):rd l i<rd l j:=by rw [Yr (by omega),Yr hj];exact A1.1 h i j (by omega) hj hij
theorem x4b (cuts:List Int) (ins:List Bool) (hc:cuts.Pairwise (· < ·)): ∀(k i:Nat) (out:List R2),i+k<cuts.length∨k=0→Can out→(∀s∈out,s.b≤rd cuts i)→
  Can (v1z cuts ins k i out)∧ ∀y,pt (v1z cuts ins k i out) y↔pt out y∨ ∃j,i≤j∧j<i+k∧rd ins j=true∧rd cuts j≤y∧y<rd cuts (j+1)
 | 0,i,out,h,ho,hb=>⟨ho,fun y=>⟨.inl,fun hy=>hy.elim id fun ⟨j,h1,h2,_⟩=>by omega⟩⟩
 | k +1,i,out,h,ho,hb=>by
  have hlt:rd cuts i<rd cuts (i+1):=x3h hc (BO _) (by omega);obtain ⟨p1,p2,p3⟩:=w5d ho hb hlt;have e:v1z cuts ins (k+1) i out=v1z cuts ins k (i+1) (bif rd ins i then push out (rd cuts i) (rd cuts (i+1)) else out):=rfl;rw [e];rcases Yw (rd ins i) with q | q
  ·rw [q,Ab];obtain ⟨r1,r2⟩:=x4b cuts ins hc k (i+1) (push out (rd cuts i) (rd cuts (i+1))) (by omega) p1 p2;refine ⟨r1,fun y=> ?_⟩;rw [r2,p3];constructor
   ·rintro ((h | h) | ⟨j,h1,h2,h3⟩)
    ·exact .inl h
    ·exact .inr ⟨i,Aq _,by omega,q,h⟩
    ·exact .inr ⟨j,by omega,by omega,h3⟩
   ·rintro (h | ⟨j,h1,h2,h3⟩)
    ·exact .inl (.inl h)
    ·rcases A4 h1 with rfl | h1
     ·exact .inl (.inr h3.2)
     ·exact .inr ⟨j,h1,by omega,h3⟩
  ·rw [q,Aa];obtain ⟨r1,r2⟩:=x4b cuts ins hc k (i+1) out (by omega) ho (fun s hs=>by have:=hb s hs;omega);refine ⟨r1,fun y=> ?_⟩;rw [r2];constructor
   ·rintro (h | ⟨j,h1,h2,h3⟩)
    ·exact .inl h
    ·exact .inr ⟨j,by omega,by omega,h3⟩
   ·rintro (h | ⟨j,h1,h2,h3⟩)
    ·exact .inl h
    ·rcases A4 h1 with rfl | h1
     ·rw [q] at h3;cases h3.1
     ·exact .inr ⟨j,h1,by omega,h3⟩
theorem w3d {cuts:List Int}: ∀(k:Nat),k<cuts.length→ ∀y,rd cuts 0≤y→y<rd cuts k→ ∃j,j<k∧rd cuts j≤y∧y<rd cuts (j+1)
 | 0,_,y,h1,h2=>by omega
 | k+1,hk,y,h1,h2=>by
  by_cases h:rd cuts k≤y
  ·exact ⟨k,BO _,h,h2⟩
  ·obtain ⟨j,h3,h4⟩:=w3d k (by omega) y h1 (by omega);exact ⟨j,by omega,h4⟩
theorem w6u (cuts:List Int) (hc:cuts.Pairwise (· < ·)) (P:Int→Bool) (S:List R2) (hS: ∀s∈S,s.a∈cuts∧s.b∈cuts) (hP: ∀y,P y=true↔pt S y):
  Can (y2w cuts (cuts.map P))∧ ∀y,pt (y2w cuts (cuts.map P)) y↔pt S y:=by
 obtain ⟨r1,r2⟩:=x4b cuts (cuts.map P) hc (cuts.length - 1) 0 [] (by omega) .nil (by simp);refine ⟨r1,fun y=> ?_⟩;unfold y2w;rw [r2];have hin: ∀x,x∈cuts→ ∃i,i<cuts.length∧rd cuts i=x:=fun x hx=>by obtain ⟨i,hi,h⟩:=AN hx;exact ⟨i,hi,by rw [Yr hi];exact h⟩
 have hmap: ∀j,j<cuts.length→rd (cuts.map P) j=P (rd cuts j):=fun j hj=>by
  grind [Yr]
 have le_of: ∀i j,i<cuts.length→j<cuts.length→i≤j→rd cuts i≤rd cuts j:=fun i j hi hj hij=>by
  rcases A4 hij with rfl | h
  ·grind
  ·exact Int.le_of_lt (x3h hc h hj)
 constructor
 ·rintro (⟨s,hs,_⟩ | ⟨j,h1,h2,h3,h4,h5⟩)
  ·cases hs
  ·have hj:j+1<cuts.length:=by omega
   rw [hmap j (by omega)] at h3;obtain ⟨s,hs,a1,a2⟩:=(hP _).1 h3;obtain ⟨ca,cb⟩:=hS s hs;obtain ⟨m,hm,em⟩:=hin s.b cb;refine ⟨s,hs,by omega,?_⟩
   grind
 ·rintro ⟨s,hs,a1,a2⟩;right;obtain ⟨ca,cb⟩:=hS s hs;obtain ⟨n,hn,en⟩:=hin s.a ca;obtain ⟨m,hm,em⟩:=hin s.b cb;have h0:=le_of 0 n (by omega) hn (Ay _);obtain ⟨j,h1,h2,h3⟩:=w3d m hm y (by omega) (by omega);refine ⟨j,Ay _,by omega,?_,h2,h3⟩;rw [hmap j (by omega),hP];refine ⟨s,hs,?_,?_⟩;all_goals grind
def net (E:List R3) (y:Int):Int:=(E.map fun e=>if e.a≤y then e.c else 0).sum
theorem z2b (e:R3) (E:List R3) (y:Int):net (e::E) y=(if e.a≤y then e.c else 0)+net E y:=by simp [net]
theorem u3p {E F:List R3} (h:E.Perm F) (y:Int):net E y=net F y:=by
 induction h with
 | nil=>rfl
 | cons e _ ih=>rw [z2b,z2b,ih]
 | swap a b l=>simp only [z2b];omega
 | trans _ _ i1 i2=>rw [i1,i2]
theorem w5h (E:List R3) (y:Int) (h: ∀e∈E,y<e.a):net E y=0:=by
 induction E with
 | nil=>rfl
 | cons e E ih=>
  grind [z2b]
theorem v8t (out:List R2) (last:Int) (inn:Bool) (x:Int):Ug out last inn x=bif inn&& !(last == x) then push out last x else out:=by
 grind [Ug,push]
theorem x1u {out:List R2} {last x:Int} (inn:Bool) (hc:Can out) (hb: ∀s∈out,s.b≤last) (hx:last≤x):
  Can (Ug out last inn x)∧(∀s∈Ug out last inn x,s.b≤x)∧ ∀y,pt (Ug out last inn x) y↔pt out y∨(inn=true∧last≤y∧y<x):=by
 rw [v8t];rcases Yw (inn&& !(last == x)) with q | q;all_goals grind [w5d]
def Asc (E:List R3):Prop:=E.Pairwise fun e f=>e.a≤f.a
theorem v2m : ∀(E:List R3) (o last:Int) (out:List R2),Asc E→(∀e∈E,last≤e.a)→Can out→(∀s∈out,s.b≤last)→
  Can (swF E o last (decide (o>0)) out)∧ ∀y,pt (swF E o last (decide (o>0)) out) y↔pt out y∨(last≤y∧0<o+net E y∧ ∃e∈E,y<e.a)
 | [],o,last,out,_,_,hc,_=>⟨hc,fun y=>⟨.inl,fun h=>h.elim id fun ⟨_,_,e,he,_⟩=>by cases he⟩⟩
 | e ::r,o,last,out,hE,hl,hc,hb=>by
  have he:=hl e (by simp);have hr:=AR.1 hE;obtain ⟨p1,p2,p3⟩:=x1u (decide (o>0)) hc hb he;obtain ⟨q1,q2⟩:=v2m r (o+e.c) e.a (Ug out last (decide (o>0)) e.a) hr.2 hr.1 p1 p2;rw [y3o];refine ⟨q1,fun y=> ?_⟩;rw [q2,p3,z2b];constructor
  ·rintro ((h | ⟨h1,h2,h3⟩) | ⟨h1,h2,f,hf,h3⟩)
   ·exact .inl h
   ·right;have h1:=Av h1;refine ⟨h2,?_,e,by simp,h3⟩;rw [AF (by omega),w5h r y fun f hf=>by have:=hr.1 f hf;omega];omega
   ·right;refine ⟨by omega,?_,f,by simp [hf],h3⟩;rw [AL h1];omega
  ·rintro (h | ⟨h1,h2,f,hf,h3⟩)
   ·exact .inl (.inl h)
   ·by_cases hy:e.a≤y
    ·right;rw [AL hy] at h2;refine ⟨hy,by omega,f,?_,h3⟩;rcases AI.1 hf with rfl | hf
     ·omega
     ·exact hf
    ·left;right;rw [AF hy,w5h r y fun f hf=>by have:=hr.1 f hf;omega] at h2;exact ⟨An (by omega),h1,by omega⟩
theorem u3q (l:List R2) (hv: ∀s∈l,s.a<s.b) (y:Int):0≤net (z0a l) y∧(0<net (z0a l) y↔pt l y):=by
 induction l with
 | nil=>grind [net,z0a,pt]
 | cons s l ih=>
  obtain ⟨i1,i2⟩:=ih fun t ht=>hv t (by simp [ht]);have hs:=hv s (by simp);have e:net (z0a (s::l)) y=(if s.a≤y∧y<s.b then 1 else 0)+net (z0a l) y:=by
   grind [z0a,z2b]
  rw [e];by_cases h:s.a≤y∧y<s.b
  ·rw [AL h];exact ⟨by omega,⟨fun _=>⟨s,by simp,h⟩,fun _=>by omega⟩⟩
  ·rw [AF h];refine ⟨by omega,?_⟩;rw [BN,i2];constructor
   ·rintro ⟨t,ht,h2⟩;exact ⟨t,by simp [ht],h2⟩
   ·rintro ⟨t,ht,h2⟩;rcases AI.1 ht with rfl | ht
    ·grind
    ·exact ⟨t,ht,h2⟩
theorem y7u {l:List R2} {s:R2} (h:s∈l):(⟨s.b,0,-1⟩:R3)∈z0a l∧(⟨s.a,0,1⟩:R3)∈z0a l:=
 ⟨AJ.2 ⟨s,h,by simp⟩,AJ.2 ⟨s,h,by simp⟩⟩
theorem w4g (l:List R3) (h:y3e l=true):Asc (z2k l):=by
 refine A1.2 fun i j hi hj hij=> ?_
 grind [Qo,Yr]
theorem y0o (l:List R2) (hv:l.all z1n=true):Can (swV l)∧ ∀y,pt (swV l) y↔pt l y:=by
 have hb:y3e (z0a l)=true:=Ar.2 fun e he=>by obtain ⟨s,hs,h1⟩:=AJ.1 he;have hv:=Ar.1 hv s hs;simp only [z1n,Ae,At] at hv;simp only [AI,Bl,BS] at h1;rcases h1 with rfl | rfl <;> exact An (by grind)
 have hpos: ∀s∈l,s.a<s.b:=fun s hs=>by
  grind [z1n]
 obtain ⟨hp,_⟩:=Qo (z0a l) hb;have ha:=w4g (z0a l) hb;have hn: ∀y,net (z2k (z0a l)) y=net (z0a l) y:=fun y=>u3p hp y;unfold swV;generalize z2k (z0a l)=E at hp ha hn;cases E with
 | nil=>refine ⟨.nil,fun y=>⟨fun ⟨s,hs,_⟩=>(by cases hs),fun ⟨s,hs,_⟩=> ?_⟩⟩;have:=hp.mem_iff.2 (y7u hs).1;cases this
 | cons e r=>
  have hr:=AR.1 ha;rw [y3o,BN];have e0:Ug [] 0 false e.a=[]:=rfl;rw [e0];obtain ⟨q1,q2⟩:=v2m r e.c e.a [] hr.2 hr.1 .nil (by simp);refine ⟨q1,fun y=> ?_⟩;rw [q2];obtain ⟨n1,n2⟩:=u3q l hpos y;rw [←n2,←hn,z2b];constructor
  ·rintro (⟨s,hs,_⟩ | ⟨h1,h2,_⟩);all_goals grind
  ·intro h;have hpt:=n2.1 (by rw [←hn,z2b];exact h);obtain ⟨s,hs,s1,s2⟩:=hpt;have m1:=hp.mem_iff.2 (y7u hs).1
   grind [y7u]
theorem x5r (out:List Int) (hs:out.Pairwise (· < ·)) (x:Int): ∀k,k≤out.length→w0o out x k≤k∧(∀i,w0o out x k≤i→i<k→x<rd out i)∧(0<w0o out x k→rd out (w0o out x k - 1)≤x)
 | 0,_=>⟨Aq _,fun i h1 h2=>by omega,fun h=>by simp [w0o] at h⟩
 | k+1,hk=>by
  unfold w0o;rcases Yw (decide (rd out k>x)) with q | q
  ·rw [q,Ab];obtain ⟨h1,h2,h3⟩:=x5r out hs x k (by omega);refine ⟨by omega,fun i a b=> ?_,h3⟩;rcases A4 (Nat.le_of_lt_succ b) with rfl | b
   ·exact Av q
   ·exact h2 i a b
  ·rw [q,Aa];exact ⟨Aq _,fun i a b=>by omega,fun _=>by have:=Bb q;simp only [Nat.add_sub_cancel];omega⟩
theorem v7g (out:List Int) (hs:out.Pairwise (· < ·)) (x:Int):(x1j out x).Pairwise (· < ·)∧ ∀y,y∈x1j out x↔y∈out∨y=x:=by
 obtain ⟨h1,h2,h3⟩:=x5r out hs x out.length (Aq _);unfold x1j;split
 ·rename_i h0;rw [h0] at h2;refine ⟨AR.2 ⟨fun y hy=> ?_,hs⟩,fun y=>by grind⟩;obtain ⟨i,hi,rfl⟩:=AN hy
  grind [Yr]
 ·rename_i k hk;rw [hk] at h1 h2 h3;have h3:rd out k≤x:=h3 (Nat.succ_pos _);have hkl:k<out.length:=by omega
  rcases Yw (rd out k == x) with q | q
  ·grind [Yr]
  ·rw [q,Aa];have q:rd out k≠x:=by simpa using q
   refine ⟨?_,fun y=> ?_⟩
   ·have st:(out.take (k+1)).Pairwise (· < ·):=hs.sublist (List.take_sublist _ _);have sd:(out.drop (k+1)).Pairwise (· < ·):=hs.sublist (List.drop_sublist _ _);have ht: ∀y∈out.take (k+1),y<x:=fun y hy=>by
     obtain ⟨i,hi,rfl⟩:=AN hy;have hi':i<k+1:=(by grind);rw [BE];have:rd out i≤rd out k:=by
      rcases A4 (Nat.le_of_lt_succ hi') with rfl | h
      ·grind
      ·exact Int.le_of_lt (x3h hs h hkl)
     grind [Yr]
    have hd: ∀y∈out.drop (k+1),x<y:=fun y hy=>by obtain ⟨i,hi,rfl⟩:=AN hy;simp_all [Yr]
    refine By.2 ⟨st,AR.2 ⟨hd,sd⟩,fun a ha b hb=> ?_⟩
    grind
   ·rw [AH,AI];constructor
    ·grind
    ·rintro (h | h)
     ·rw [←List.take_append_drop (k+1) out,AH] at h
      grind
     grind
theorem Wx (l:List Int):(z3j l).Pairwise (· < ·)∧ ∀y,y∈z3j l↔y∈l:=by
 have: ∀(l out:List Int),out.Pairwise (· < ·)→(l.foldl x1j out).Pairwise (· < ·)∧ ∀y,y∈l.foldl x1j out↔y∈out∨y∈l:=by
  intro l
  induction l with
  | nil=>grind
  | cons x l ih=>
   grind [v7g]
 simp_all [z3j]
theorem y2t : ∀(l m:List Int),l.Pairwise (· < ·)→m.Pairwise (· < ·)→(∀x,x∈l↔x∈m)→l=m
 | [],[],_,_,_=>rfl
 | [],b::m,_,_,h=>by have:=(h b).2 (by simp);cases this
 | a::l,[],_,_,h=>by have:=(h a).1 (by simp);cases this
 | a::l,b::m,hl,hm,h=>by
  obtain ⟨a1,a2⟩:=AR.1 hl;obtain ⟨b1,b2⟩:=AR.1 hm;have e:a=b:=by
   have x1:=(h a).1 (by simp);have x2:=(h b).2 (by simp);rcases AI.1 x1 with x1 | x1
   ·exact x1
   rcases AI.1 x2 with x2 | x2
   ·exact x2.symm
   have:=b1 a x1;have:=a1 b x2;omega
  subst e
  congr 1
  refine y2t l m a2 b2 fun x=>⟨fun hx=> ?_,fun hx=> ?_⟩
  ·rcases AI.1 ((h x).1 (by simp [hx])) with e | e
   ·have:=a1 x hx;omega
   ·exact e
  ·rcases AI.1 ((h x).2 (by simp [hx])) with e | e
   ·have:=b1 x hx;omega
   ·exact e
theorem y2v (zs:List Int) (hs:zs.Pairwise (· ≤ ·)): ∀m,m≤zs.length→(compactUpTo zs.toArray m).Pairwise (· < ·)∧ ∀x,x∈compactUpTo zs.toArray m↔x∈zs.take m
 | 0,_=>by simp [compactUpTo]
 | m +1,h=>by
  obtain ⟨h1,h2⟩:=y2v zs hs m (by omega);have hg: ∀j (hj:j<zs.length),zs.toArray[j]! =zs[j]:=fun j hj=>by simp [hj]
  have hle: ∀i j (hi:i<zs.length) (hj:j<zs.length),i<j→zs[i]≤zs[j]:=fun i j hi hj hij=>A1.1 hs i j hi hj hij;have hm:m<zs.length:=by omega
  rw [compactUpTo_succ,hg m hm,List.take_succ_eq_append_getElem hm];by_cases hk:keeps zs.toArray m=true
  ·rw [AL hk];refine ⟨By.2 ⟨h1,List.pairwise_singleton _ _,fun x hx y hy=> ?_⟩,fun x=>by rw [AH,AH,h2 x]⟩;rw [BL.1 hy];obtain ⟨i,hi,rfl⟩:=AN ((h2 x).1 hx);have hi':i<m:=by simp at hi;omega
   rw [BE];simp only [keeps,At] at hk;rcases hk with hk | hk
   ·omega
   ·rw [hg m hm,hg (m - 1) (by omega)] at hk;have k1:zs[i]≤zs[m - 1]:=by
     rcases A6 i (m - 1) with q | q
     ·exact hle i (m - 1) _ _ q
     ·have e:i=m - 1:=(by omega);subst e;exact A3 _
    have k2:=hle (m - 1) m (by omega) hm (by omega);omega
  ·rw [AF hk,AC];refine ⟨h1,fun x=> ?_⟩;rw [h2 x,AH,BL];refine ⟨.inl,fun hx=>hx.elim id fun e=> ?_⟩;simp only [keeps,At,not_or,Decidable.not_not] at hk;rw [hg m hm,hg (m - 1) (by omega)] at hk;rw [e,hk.2];have:m - 1<(zs.take m).length :=by simp;omega
   have e2:(zs.take m)[m - 1]=zs[m - 1]:=BE;rw [←e2];exact AZ this
theorem srt_le (zs:List Int):(Xk zs).Pairwise (· ≤ ·):=by have:=List.pairwise_mergeSort (le:=fun x y:Int=>decide (x≤y)) (fun a b c h1 h2=>by grind) (fun a b=>by simp;omega) zs;exact this.imp fun h=>by simpa using h
theorem j2p (zs:List Int) (x:Int):x∈Xk zs↔x∈zs:=List.mem_mergeSort
theorem Js (zs:List Int):Jg zs=z3j zs:=by obtain ⟨h1,h2⟩:=y2v (Xk zs) (srt_le zs) (Xk zs).length (Aq _);obtain ⟨s1,s2⟩:=Wx zs;refine y2t _ _ h1 s1 fun x=> ?_;rw [show Jg zs=compactUpTo (Xk zs).toArray (Xk zs).length from rfl,h2 x,List.take_length,j2p,s2]
namespace Dim
variable {α β:Type} (D:Dim α β)
def ref (sec:Int→List β) (cs:List Int):Nat→Nat→List α→List β→Nat→List α
 | 0,_,out,_,_=>out
 | k+1,i,out,last,first=>
  bif decide (0<i)&&D.same (sec (rd cs i)) last then ref sec cs k (i+1) (D.grow out first (rd cs (i+1))) last first
  else ref sec cs k (i+1) (out++(sec (rd cs i)).map (D.put (rd cs i) (rd cs (i+1)))) (sec (rd cs i)) out.length
theorem ref_eq (hs: ∀a b,D.same a b=true↔a=b) (l:List α): ∀(k i:Nat) (s:Sw α β) (out:List α) (last:List β) (first:Nat),
  s.out=out→s.last=last→(last≠ []→s.first=first)→(last=[]→out.length≤first)→(0<i→s.fin=rd (D.cuts l) i)→(i=0→last=[])→
  (D.go l k i s).out =D.ref (D.sec l) (D.cuts l) k i out last first
 | 0,i,s,out,last,first,h1,h2,h3,h4,h5,h6=>h1
 | k +1,i,s,out,last,first,h1,h2,h3,h4,h5,h6=>by
  subst h1 h2;have e1:D.go l (k+1) i s=D.go l k (i+1) (D.one l (rd (D.cuts l) i) (rd (D.cuts l) (i+1)) s):=rfl;rw [e1];unfold ref;rcases Yw (decide (0<(D.sec l (rd (D.cuts l) i)).length)&&((s.fin == rd (D.cuts l) i)&&D.same s.last (D.sec l (rd (D.cuts l) i)))) with q | q
  ·have e:D.one l (rd (D.cuts l) i) (rd (D.cuts l) (i+1)) s=⟨D.grow s.out s.first (rd (D.cuts l) (i+1)),s.last,s.first,rd (D.cuts l) (i+1)⟩:=by unfold one;rw [q];rfl
   simp only [Ae,At] at q;obtain ⟨q1,q2,q3⟩:=q;have q3:=(hs _ _).1 q3;have hne:s.last≠ []:=fun h=>by rw [h] at q3;rw [←q3] at q1;exact BQ _ q1
   have hi:0<i:=Nat.pos_of_ne_zero fun h=>hne (h6 h);have e2:(decide (0<i)&&D.same (D.sec l (rd (D.cuts l) i)) s.last)=true:=by rw [An hi,Ai,hs,q3]
   rw [e2,Ab,e];refine ref_eq hs l k (i+1) _ _ _ _ ?_ rfl h3 (fun h=>absurd h hne) (fun _=>rfl) (fun h=>by omega);rw [h3 hne]
  ·have e:D.one l (rd (D.cuts l) i) (rd (D.cuts l) (i+1)) s=⟨s.out++(D.sec l (rd (D.cuts l) i)).map (D.put (rd (D.cuts l) i) (rd (D.cuts l) (i+1))),D.sec l (rd (D.cuts l) i),s.out.length,rd (D.cuts l) (i+1)⟩:=by unfold one;rw [q];rfl
   rcases Yw (decide (0<i)&&D.same (D.sec l (rd (D.cuts l) i)) s.last) with q2 | q2
   ·rw [q2,Ab,e];simp only [Ae,At] at q2;obtain ⟨hi,q3⟩:=q2;have q3:=(hs _ _).1 q3;rw [(hs s.last (D.sec l (rd (D.cuts l) i))).2 q3.symm,Ah,h5 hi] at q;have hz:D.sec l (rd (D.cuts l) i)=[]:=by
     cases h:D.sec l (rd (D.cuts l) i) with
     | nil=>rfl
     | cons a b=>rw [h] at q;simp at q
    have hl:s.last=[]:=(by rw [←q3,hz]);have hf:=h4 hl;rw [hz,BA,AC];refine ref_eq hs l k (i+1) _ _ _ _ ?_ hl.symm (fun h=>absurd hl h) (fun _=> ?_) (fun _=>rfl) (fun h=>by omega)
    ·exact (D.grow_nil _ _ _ hf).symm
    ·rw [D.grow_length];exact hf
   ·rw [q2,Aa,e];exact ref_eq hs l k (i+1) _ _ _ _ rfl rfl (fun _=>rfl) (fun h=>by rw [h];simp) (fun _=>rfl) (fun h=>by omega)
theorem out_eq (hs: ∀a b,D.same a b=true↔a=b) (l:List α):D.out l=D.ref (D.sec l) (D.cuts l) ((D.cuts l).length - 1) 0 [] [] 0:=
 D.ref_eq hs l _ 0 _ [] [] 0 rfl rfl (fun _=>rfl) (fun _=>Aq _) (fun h=>absurd h (BQ _)) (fun _=>rfl)
end Dim
theorem v9s (l:List R4):D4.cuts l=xsV l []:=by unfold Dim.cuts xsV;rw [Js,show z3h ([]:List R4)=[] from rfl,AC];rfl
theorem v8r (l:List R4) (x y:Int):v9y 2 l [] x y=z4q l x y:=by
 grind [v9y,y2s,z4q]
theorem z7n {l:List R4} {x:Int} {s:R2} (h:s∈D4.inn l x): ∃r∈l,r.a≤x∧x<r.c∧s=⟨r.b,r.d⟩:=by obtain ⟨r,hr,e⟩:=AO.1 h;obtain ⟨h1,h2⟩:=AV.1 hr;simp only [Ae,At] at h2;exact ⟨r,h1,h2.1,h2.2,e.symm⟩
theorem v6w {l:List R4} {x:Int} {r:R4} (h:r∈l) (h1:r.a≤x) (h2:x<r.c):(⟨r.b,r.d⟩:R2)∈D4.inn l x:=by refine AO.2 ⟨r,AV.2 ⟨h,?_⟩,rfl⟩;simp only [Ae,At];exact ⟨h1,h2⟩
theorem sec_eq (l:List R4) (hv:l.all Vi=true) (hl:l.length≤400) (x:Int):D4.sec l x=x0b 2 l [] x:=by
 have hin:=D4.inn_length l x;have hvi:(D4.inn l x).all z1n=true:=Ar.2 fun s hs=>by
  grind [z7n,Vi,z1n]
 have e1:D4.sec l x=swV (D4.inn l x):=by
  show Xr (D4.inn l x)=_
  grind [Xr]
 obtain ⟨c1,c2⟩:=y0o _ hvi;obtain ⟨y1,y2⟩:=Wx (z1m l++z1m []);have e2:x0b 2 l [] x=y2w (ysV l []) ((ysV l []).map fun y=>z4q l x y):=by
  unfold x0b
  congr 1
  simp_all [v8r]
 obtain ⟨d1,d2⟩:=w6u (ysV l []) y1 (fun y=>z4q l x y) (D4.inn l x) (fun s hs=>by
  obtain ⟨r,hr,_,_,rfl⟩:=z7n hs;unfold ysV;exact ⟨(y2 _).2 (AH.2 (.inl (AJ.2 ⟨r,hr,by simp⟩))),(y2 _).2 (AH.2 (.inl (AJ.2 ⟨r,hr,by simp⟩)))⟩) (fun y=>by
  unfold z4q;rw [List.any_eq_true];constructor
  ·rintro ⟨r,hr,h⟩;simp only [in4,Ae,At] at h;exact ⟨_,v6w hr h.1 h.2.1,h.2.2.1,h.2.2.2⟩
  ·rintro ⟨s,hs,h1,h2⟩
   grind [z7n,in4])
 grind [w6t]
theorem w5z (l:List R4): ∀(k i:Nat) (out:List R4) (last:List R2) (first:Nat),jF 2 l [] k i out last first=D4.ref (x0b 2 l []) (xsV l []) k i out last first
 | 0,_,_,_,_=>rfl
 | k+1,i,out,last,first=>by unfold jF Dim.ref;rw [w5z l k,w5z l k];rfl
theorem joV_eq (l:List R4) (hv:l.all Vi=true) (hl:l.length≤400):D4.out l=joV 2 l []:=by
 rw [D4.out_eq (fun a b=>Be) l,joV,w5z,←v9s]
 congr 1
 funext x
 exact sec_eq l hv hl x
theorem w4b (l:List R6):D6.cuts l=Vu l []:=by unfold Dim.cuts Vu;rw [Js,show z3g ([]:List R6)=[] from rfl,AC];rfl
theorem j1w (l:List R6) (z:Int):D6.inn l z=atV l z:=rfl
theorem y9i (r:R6):Qf r=x7r r:=by
 unfold Qf x7r;simp only [w1u,w1v];rw [Bool.eq_iff_iff];simp only [Ae,At];have m1: ∀x y z:Int,x≤min y z↔x≤y∧x≤z:=fun x y z=>by omega
 have m2: ∀x y z:Int,max y z≤x↔y≤x∧z≤x:=fun x y z=>by omega
 simp only [ge_iff_le,m1,m2]
 grind
theorem v9e (l:List R6) (hv:l.all Qf=true) (z:Int):(atV l z).all Vi=true:=Ar.2 fun s hs=>by
 obtain ⟨r,hr,rfl⟩:=AO.1 hs;have:=Ar.1 hv r (AV.1 hr).1;rw [y9i] at this;simp only [x7r,Ae,At] at this;show Vi ⟨r.a,r.b,r.d,r.e⟩=true
 grind [Vi]
section
variable (l:List R6) (hv:l.all Qf=true) (hl:l.length≤400)
include hv hl
theorem j1s (z:Int):D4.out (atV l z)=joV 2 (atV l z) []:=joV_eq _ (v9e l hv z) (AE (z6l l z) hl)
theorem j1r (z:Int):v2a l z=z9i 2 l [] z:=by
 have h1:=j1s l hv hl z;have h2:=z6l l z;have e:joV 2 (atV [] z) []=[]:=rfl
 grind [v2a,z9i,y3d,atV,j1w,Yo,v9e]
theorem j3t (z:Int) (h:v2a l z=false):D6.sec l z=y3d 2 l [] z:=by
 have h1:=j1s l hv hl z;have h2:=z6l l z;rw [j1r l hv hl] at h;show Zm (D6.inn l z)=joV 2 (atV l z) (atV [] z)
 grind [j1w,Zm,atV,z9i,v9e]
theorem w1m : ∀(k i:Nat) (out:List R6) (last:List R4) (first:Nat),jsF 2 l [] k i out last first=bif okF l k i then some (D6.ref (D6.sec l) (D6.cuts l) k i out last first) else none
 | 0,_,_,_,_=>rfl
 | k+1,i,out,last,first=>by
  unfold jsF okF Dim.ref;rw [←w4b,←j1r l hv hl];rcases Yw (v2a l (rd (D6.cuts l) i)) with q | q
  ·rw [q];rfl
  ·have:=j3t l hv hl _ q;rw [q,Aa,Aa,this,w1m k,w1m k];have e:D6.same (y3d 2 l [] (rd (D6.cuts l) i)) last=Vh (y3d 2 l [] (rd (D6.cuts l) i)) last:=rfl;rw [e];cases (decide (0<i)&&Vh (y3d 2 l [] (rd (D6.cuts l) i)) last) <;> rfl
theorem jsO_eq :jsO 2 l []=bif okF l ((D6.cuts l).length - 1) 0 then some (D6.out l) else none:=by unfold jsO;rw [w1m l hv hl,←w4b,D6.out_eq (fun a b=>Be) l]
end
theorem w6s (l:List R6):Zh l=z1w l:=by
 unfold Zh z1w;by_cases h:400<l.length
 ·grind
 ·rw [AB h,Aa,Aa,show l.all x7r=l.all Qf from by grind [y9i]];rcases Yw (l.all Qf) with hv | hv
  ·rw [hv,Ab,Ab];unfold rckF y8x z5m;rw [jsO_eq l hv (by omega)]
   grind
  grind
def Cg (x y:Int):Prop:=(18446744073709551616:Int)∣x - y
theorem Cg.refl (x:Int):Cg x x:=by grind [Cg]
theorem Cg.trans {x y z:Int} (h:Cg x y) (k:Cg y z):Cg x z:=by unfold Cg at*;omega
theorem Cg.add {x y u v:Int} (h:Cg x y) (k:Cg u v):Cg (x+u) (y+v):=by unfold Cg at*;omega
theorem Cg.mul {x y u v:Int} (h:Cg x y) (k:Cg u v):Cg (x*u) (y*v):=by
 unfold Cg at*;have:x*u - y*v=(x - y)*u+y*(u - v):=by grind
 rw [this];exact Int.dvd_add (Int.dvd_mul_of_dvd_left h) (Int.dvd_mul_of_dvd_right k)
theorem Cg.wrap (x:Int):Cg (IntKind.wrap .i64 x) x:=by rw [w64];unfold Cg;omega
theorem Cg.eq {x y:Int} (h:Cg x y):IntKind.wrap .i64 x=IntKind.wrap .i64 y:=by rw [w64,w64];unfold Cg at h;omega
theorem Cg.w {x y:Int} (h:Cg x y):Cg (IntKind.wrap .i64 x) y:=(Cg.wrap x).trans h
def bxV (r:R6):Int:=(r.d - r.a)*(r.e - r.b)*(r.f - r.c)
def sm {α:Type} (l:List α) (f:α→Int):Int:=(l.map f).sum
theorem u7b {α:Type} (f:α→Int):sm ([]:List α) f=0:=rfl
theorem v3i {α:Type} (x:α) (l:List α) (f:α→Int):sm (x::l) f=f x+sm l f:=by simp [sm]
open Go.Proofs Go.Sort Go.Shelf Go.RowKit Go.Lib
namespace Dim
variable {α β:Type} (D:Dim α β)
structure Fair :Prop where
 lo_put: ∀x x' b,D.lo (D.put x x' b)=x
 hi_put: ∀x x' b,D.hi (D.put x x' b)=x'
 pr_put: ∀x x' b,D.pr (D.put x x' b)=b
 ext_put: ∀x x' x'' b,D.ext x'' (D.put x x' b)=D.put x x'' b
def Ap (R:β→β→Prop) (a b:α):Prop:=D.hi a≤D.lo b∨D.hi b≤D.lo a∨R (D.pr a) (D.pr b)
theorem v5g {D:Dim α β} (hD:D.Fair) (R:β→β→Prop) (sec:Int→List β) (cs:List Int) (hc:cs.Pairwise (· < ·)) (eX: ∀x,(sec x).Pairwise R):
  ∀(k i:Nat) (pre:List α) (last:List β) (x0:Int),(i+k<cs.length∨k=0)→pre.Pairwise (D.Ap R)→(∀a∈pre,D.hi a≤x0)→(last≠ []→x0≤rd cs i)→(last=[]→x0≤rd cs i)→last.Pairwise R→
  (D.ref sec cs k i (pre++last.map (D.put x0 (rd cs i))) last pre.length).Pairwise (D.Ap R):=by
 have fin: ∀(pre:List α) (last:List β) (x0 x':Int),pre.Pairwise (D.Ap R)→(∀a∈pre,D.hi a≤x0)→last.Pairwise R→(pre++last.map (D.put x0 x')).Pairwise (D.Ap R):=fun pre last x0 x' h1 h2 h3=>by
  refine By.2 ⟨h1,?_,fun a ha b hb=> ?_⟩
  ·refine List.pairwise_map.2 (h3.imp fun {a b} h=>.inr (.inr ?_));rw [hD.pr_put,hD.pr_put];exact h
  ·obtain ⟨c,_,rfl⟩:=AO.1 hb;exact .inl (by rw [hD.lo_put];exact h2 a ha)
 intro k
 induction k with
 | zero=>intro i pre last x0 _ h1 h2 _ _ h3;exact fin pre last x0 _ h1 h2 h3
 | succ k ih=>
  intro i pre last x0 hk h1 h2 h4 h5 h3;have hlt:rd cs i<rd cs (i+1):=x3h hc (BO _) (by omega);unfold ref;cases hq:(decide (0<i)&&D.same (sec (rd cs i)) last) with
  | true=>
   rw [Ab];have e:D.grow (pre++last.map (D.put x0 (rd cs i))) pre.length (rd cs (i+1))=pre++last.map (D.put x0 (rd cs (i+1))):=by
    unfold grow;rw [List.take_left,List.drop_left,List.map_map]
    congr 1
    exact List.map_congr_left fun b _=>hD.ext_put _ _ _ _
   rw [e];exact ih (i+1) pre last x0 (by omega) h1 h2 (fun h=>by grind) (fun h=>by grind) h3
  | false=>
   rw [Aa];refine ih (i+1) (pre++last.map (D.put x0 (rd cs i))) (sec (rd cs i)) (rd cs i) (by omega) (fin pre last x0 _ h1 h2 h3) (fun a ha=> ?_) (fun _=>by omega) (fun _=>by omega) (eX _);rcases AH.1 ha with ha | ha
   ·grind
   ·obtain ⟨c,_,rfl⟩:=AO.1 ha;rw [hD.hi_put];grind
theorem out_apart {D:Dim α β} (hD:D.Fair) (R:β→β→Prop) (hs: ∀a b,D.same a b=true↔a=b) (l:List α) (eX: ∀x,(D.sec l x).Pairwise R):(D.out l).Pairwise (D.Ap R):=by
 rw [D.out_eq hs l];have hc:(D.cuts l).Pairwise (· < ·):=by show (Jg (D.ends l)).Pairwise (· < ·);rw [Js];exact (Wx _).1
 have:=v5g hD R (D.sec l) (D.cuts l) hc eX ((D.cuts l).length - 1) 0 [] [] (rd (D.cuts l) 0) (by omega) .nil (by simp) (fun _=>A3 _) (fun _=>A3 _) .nil;exact this
end Dim
theorem z1h :D4.Fair:=⟨fun _ _ _=>rfl,fun _ _ _=>rfl,fun _ _ _=>rfl,fun _ _ _ _=>rfl⟩
theorem z2q :D6.Fair:=⟨fun _ _ _=>rfl,fun _ _ _=>rfl,fun _ _ _=>rfl,fun _ _ _ _=>rfl⟩
def Ap2 (s t:R2):Prop:=s.b≤t.a∨t.b≤s.a
def Ap4 (s t:R4):Prop:=s.c≤t.a∨t.c≤s.a∨s.d≤t.b∨t.d≤s.b
def Ap6 (s t:R6):Prop:=s.d≤t.a∨t.d≤s.a∨s.e≤t.b∨t.e≤s.b∨s.f≤t.c∨t.f≤s.c
theorem v3b (l:List R2):(Xr l).Pairwise Ap2:=by
 unfold Xr;by_cases h:400<l.length
 ·simp_all
 ·rw [AB h,Aa];cases hv:l.all z1n with
  | false=>exact .nil
  | true=>rw [Ab];exact (y0o l hv).1.sep.imp fun {s t} h=>.inl (by omega)
theorem v4w (l:List R4):(Zm l).Pairwise Ap4:=by
 have key:(D4.out l).Pairwise Ap4:=(Dim.out_apart z1h Ap2 (fun a b=>Be) l fun x=>v3b _).imp fun {s t} h=>by
  rcases h with h | h | h | h
  ·exact .inl h
  ·exact .inr (.inl h)
  ·exact .inr (.inr (.inl h))
  ·exact .inr (.inr (.inr h))
 unfold Zm;by_cases h:400<l.length
 ·simp_all
 ·rw [AB h,Aa];cases l.all Vi with
  | false=>exact .nil
  | true=>
   rw [Ab];cases decide (((D4.out l).length :Int)>400) with
   | true=>exact .nil
   | false=>exact key
theorem Vk {l:List R6} (h:Zh l=0):l.length≤400∧(∀r∈l,Qf r=true)∧l=D6.out l∧l.Pairwise Ap6:=by
 unfold Zh at h;by_cases h1:400<l.length
 ·grind
 ·rw [AB h1,Aa] at h;cases hv:l.all Qf with
  | false=>grind
  | true=>
   rw [hv,Ab] at h;cases ho:okF l ((D6.cuts l).length - 1) 0 with
   | false=>grind
   | true=>
    rw [ho,Ab] at h;cases h2:decide (((D6.out l).length :Int)>400) with
    | true=>grind
    | false=>
     rw [h2,Aa] at h;cases h3:Ka (D6.out l) l with
     | false=>grind
     | true=>
      have e:D6.out l=l:=Av h3;refine ⟨by omega,fun r hr=>Ar.1 hv r hr,e.symm,?_⟩;have:=(Dim.out_apart z2q Ap4 (fun a b=>Be) l fun x=>v4w _).imp (S:=Ap6) fun {s t} h=>by
       rcases h with h | h | h | h | h | h
       ·exact .inr (.inr (.inr (.inr (.inl h))))
       ·exact .inr (.inr (.inr (.inr (.inr h))))
       ·exact .inl h
       ·exact .inr (.inl h)
       ·exact .inr (.inr (.inl h))
       ·exact .inr (.inr (.inr (.inl h)))
      grind
theorem Ju {r:R6} (h:Qf r=true):r.a<r.d∧r.b<r.e∧r.c<r.f∧ -1000000≤r.a∧ -1000000≤r.b∧ -1000000≤r.c∧r.d≤1000000∧r.e≤1000000∧r.f≤1000000:=by
 grind [y9i,x7r]
open Go.Proofs Go.Sort Go.Shelf Go.RowKit Go.Lib
structure Qe (β:Type) where
 a:Int
 b:Int
 s:List β
def ptL {β γ:Type} (inB:β→γ→Prop) (s:List β) (q:γ):Prop:= ∃r∈s,inB r q
theorem z7j {β γ:Type} (inB:β→γ→Prop) (q:γ): ¬ptL inB [] q:=fun ⟨_,h,_⟩=>by cases h
structure Sem (β γ:Type) where
 can:List β→Prop
 inB:β→γ→Prop
 uniq: ∀s t,can s→can t→(∀q,ptL inB s q↔ptL inB t q)→s=t
 some: ∀s,can s→s≠ []→ ∃q,ptL inB s q
 nil:can []
section
variable {β γ:Type} (M:Sem β γ)
def OkS (g:Qe β):Prop:=g.a<g.b∧M.can g.s∧g.s≠ []
def Nxt (g h:Qe β):Prop:=g.b≤h.a∧(g.b=h.a→g.s≠h.s)
inductive z1t :List (Qe β)→Prop
 | nil:z1t []
 | one (g:Qe β) (h:OkS M g):z1t [g]
 | cons (g h:Qe β) (r:List (Qe β)) (ok:OkS M g) (nx:Nxt g h) (k:z1t (h::r)):z1t (g::h::r)
def ptG (G:List (Qe β)) (x:Int) (q:γ):Prop:= ∃g∈G,g.a≤x∧x<g.b∧ptL M.inB g.s q
variable {M}
theorem z1t.head {g:Qe β} {r:List (Qe β)} (h:z1t M (g::r)):OkS M g:=by cases h <;> assumption
theorem z1t.tail {g:Qe β} {r:List (Qe β)} (h:z1t M (g::r)):z1t M r:=by
 cases h with
 | one=>exact .nil
 | cons _ _ _ _ _ k=>exact k
theorem z1t.later {g:Qe β} {r:List (Qe β)} (h:z1t M (g::r)): ∀k∈r,g.b≤k.a:=by
 induction r generalizing g with
 | nil=>grind
 | cons k r ih=>
  cases h with
  | cons _ _ _ ok nx kk=>
   intro m hm;rcases AI.1 hm with rfl | hm
   ·exact nx.1
   ·have h1:=ih kk m hm;have h2:=kk.head.1;have h3:=nx.1;omega
theorem z1t.all {G:List (Qe β)} (h:z1t M G): ∀g∈G,OkS M g:=by
 induction G with
 | nil=>grind
 | cons k r ih=>
  intro g hg;rcases AI.1 hg with rfl | hg
  ·exact h.head
  ·exact ih h.tail g hg
theorem z1t.before {G:List (Qe β)} {g:Qe β} (k:z1t M (G++[g])): ∀m∈G,m.b≤g.a:=by
 induction G with
 | nil=>grind
 | cons m r ih=>
  intro n hn;rcases AI.1 hn with rfl | hn
  ·exact k.later g (by simp)
  ·exact ih k.tail n hn
theorem z1t.snoc {G:List (Qe β)} {g h:Qe β} (k:z1t M (G++[g])) (ok:OkS M h) (nx:Nxt g h):z1t M (G++[g]++[h]):=by
 induction G with
 | nil=>exact .cons g h [] k.head nx (.one h ok)
 | cons m r ih=>
  have i:=ih k.tail;cases r with
  | nil=>
   cases k with
   | cons _ _ _ ok1 nx1 k1=>exact .cons m g [h] ok1 nx1 i
  | cons m2 r=>
   cases k with
   | cons _ _ _ ok1 nx1 k1=>exact .cons m m2 _ ok1 nx1 i
theorem z1t.stretch {G:List (Qe β)} {g:Qe β} {x:Int} (k:z1t M (G++[g])) (hx:g.b≤x):z1t M (G++[⟨g.a,x,g.s⟩]):=by
 induction G with
 | nil=>have:=k.head;exact .one _ ⟨by have:=this.1;grind,this.2⟩
 | cons m r ih=>
  have i:=ih k.tail;cases r with
  | nil=>
   cases k with
   | cons _ _ _ ok1 nx1 k1=>exact .cons m _ [] ok1 nx1 i
  | cons m2 r=>
   cases k with
   | cons _ _ _ ok1 nx1 k1=>exact .cons m m2 _ ok1 nx1 i
theorem z9c (g:Qe β) (G:List (Qe β)) (x:Int) (q:γ):ptG M (g::G) x q↔(g.a≤x∧x<g.b∧ptL M.inB g.s q)∨ptG M G x q:=by
 constructor
 ·rintro ⟨k,hk,h⟩;rcases AI.1 hk with rfl | hk
  ·exact .inl h
  ·exact .inr ⟨k,hk,h⟩
 ·rintro (h | ⟨k,hk,h⟩)
  ·exact ⟨g,by simp,h⟩
  ·exact ⟨k,by simp [hk],h⟩
theorem x0u (G H:List (Qe β)) (x:Int) (q:γ):ptG M (G++H) x q↔ptG M G x q∨ptG M H x q:=by
 constructor
 ·rintro ⟨k,hk,h⟩;rcases AH.1 hk with hk | hk
  ·exact .inl ⟨k,hk,h⟩
  ·exact .inr ⟨k,hk,h⟩
 ·rintro (⟨k,hk,h⟩ | ⟨k,hk,h⟩)
  ·exact ⟨k,AH.2 (.inl hk),h⟩
  ·exact ⟨k,AH.2 (.inr hk),h⟩
theorem z1t.low {g:Qe β} {r:List (Qe β)} (h:z1t M (g::r)) {x:Int} {q:γ} (hp:ptG M (g::r) x q):g.a≤x:=by
 rcases (z9c g r x q).1 hp with hp | ⟨k,hk,h1,_⟩
 ·exact hp.1
 ·have:=h.later k hk;have:=h.head.1;omega
theorem z1t.rest {g:Qe β} {r:List (Qe β)} (h:z1t M (g::r)) (x:Int) (q:γ):ptG M r x q↔g.b≤x∧ptG M (g::r) x q:=by
 constructor
 ·rintro ⟨k,hk,h1,h2⟩;have:=h.later k hk;exact ⟨by omega,k,by simp [hk],h1,h2⟩
 grind [z9c]
theorem z1t.sec0 {g:Qe β} {r:List (Qe β)} (h:z1t M (g::r)) {x:Int} (hx:g.a≤x∧x<g.b) (q:γ):ptG M (g::r) x q↔ptL M.inB g.s q:=by
 rw [z9c];constructor
 ·rintro (h1 | ⟨k,hk,h1,_⟩)
  ·exact h1.2.2
  ·have:=h.later k hk;omega
 grind
theorem x6x : ∀(G H:List (Qe β)),z1t M G→z1t M H→(∀x q,ptG M G x q↔ptG M H x q)→G=H
 | [],[],_,_,_=>rfl
 | [],h::H,_,hH,e=>by obtain ⟨q,hq⟩:=M.some _ hH.head.2.1 hH.head.2.2;have:=(e h.a q).2 ((hH.sec0 ⟨A3 _,hH.head.1⟩ q).2 hq);obtain ⟨k,hk,_⟩:=this;cases hk
 | g::G,[],hG,_,e=>by obtain ⟨q,hq⟩:=M.some _ hG.head.2.1 hG.head.2.2;have:=(e g.a q).1 ((hG.sec0 ⟨A3 _,hG.head.1⟩ q).2 hq);obtain ⟨k,hk,_⟩:=this;cases hk
 | g::G,h::H,hG,hH,e=>by
  have og:=hG.head;have oh:=hH.head;obtain ⟨q,hq⟩:=M.some _ og.2.1 og.2.2;obtain ⟨p,hp⟩:=M.some _ oh.2.1 oh.2.2;have a1:h.a≤g.a:=hH.low ((e g.a q).1 ((hG.sec0 ⟨A3 _,og.1⟩ q).2 hq));have a2:g.a≤h.a:=hG.low ((e h.a p).2 ((hH.sec0 ⟨A3 _,oh.1⟩ p).2 hp));have a3:g.a=h.a:=by omega
  have s1:g.s=h.s:=M.uniq _ _ og.2.1 oh.2.1 fun q=>by rw [←hG.sec0 (x:=g.a) ⟨A3 _,og.1⟩,e,hH.sec0 (x:=g.a) ⟨by omega,by have:=oh.1;omega⟩]
  have key: ∀(g h:Qe β) (G H:List (Qe β)),z1t M (g::G)→z1t M (h::H)→(∀x q,ptG M (g::G) x q↔ptG M (h::H) x q)→g.a=h.a→g.s=h.s→ ¬g.b<h.b:=fun g h G H hG hH e ea es hlt=>by
   have og:=hG.head;have oh:=hH.head;have at_: ∀q,ptG M (g::G) g.b q↔ptL M.inB h.s q:=fun q=>by rw [e,hH.sec0 ⟨by have:=og.1;omega,hlt⟩]
   obtain ⟨q,hq⟩:=M.some _ oh.2.1 oh.2.2;have:=(hG.rest g.b q).2 ⟨A3 _,(at_ q).2 hq⟩;cases hG with
   | one=>obtain ⟨k,hk,_⟩:=this;cases hk
   | cons _ k r ok nx kk=>
    have hk:k.a≤g.b:=kk.low this;have hk2:g.b=k.a:=by have:=nx.1;omega
    refine nx.2 hk2 ?_;rw [es];refine M.uniq _ _ oh.2.1 kk.head.2.1 fun p=> ?_;rw [←at_,←kk.sec0 (x:=g.b) ⟨by omega,by have:=kk.head.1;omega⟩];constructor
    ·exact fun hp=>((z1t.cons g k r ok nx kk).rest g.b p).2 ⟨A3 _,hp⟩
    ·exact fun hp=>(((z1t.cons g k r ok nx kk).rest g.b p).1 hp).2
  have b1:=key g h G H hG hH e a3 s1;have b2:=key h g H G hH hG (fun x q=>(e x q).symm) a3.symm s1.symm;have b3:g.b=h.b:=by omega
  have eg:g=h:=by
   obtain ⟨ga,gb,gs⟩:=g;obtain ⟨ha,hb,hs⟩:=h;simp only at a3 b3 s1
   subst_vars;rfl
  subst eg
  congr 1
  exact x6x G H hG.tail hH.tail fun x q=>by rw [hG.rest,hH.rest,e]
end
namespace Dim
variable {α β:Type} (D:Dim α β)
def flat (G:List (Qe β)):List α:=G.flatMap fun g=>g.s.map (D.put g.a g.b)
theorem flat_append (G H:List (Qe β)):D.flat (G++H)=D.flat G++D.flat H:=by simp [flat]
theorem flat_one (g:Qe β):D.flat [g]=g.s.map (D.put g.a g.b):=by simp [flat]
def inA {γ:Type} (inB:β→γ→Prop) (r:α) (p:Int×γ):Prop:=D.lo r≤p.1∧p.1<D.hi r∧inB (D.pr r) p.2
variable {D}
theorem flat_pt (hD:D.Fair) {γ:Type} (M:Sem β γ) (G:List (Qe β)) (x:Int) (q:γ):ptL (D.inA M.inB) (D.flat G) (x,q)↔ptG M G x q:=by
 constructor
 ·rintro ⟨r,hr,h⟩;obtain ⟨g,hg,hr⟩:=AJ.1 hr;obtain ⟨b,hb,rfl⟩:=AO.1 hr;unfold inA at h;rw [hD.lo_put,hD.hi_put,hD.pr_put] at h;exact ⟨g,hg,h.1,h.2.1,b,hb,h.2.2⟩
 ·rintro ⟨g,hg,h1,h2,b,hb,h3⟩;refine ⟨D.put g.a g.b b,AJ.2 ⟨g,hg,AO.2 ⟨b,hb,rfl⟩⟩,?_⟩;unfold inA;rw [hD.lo_put,hD.hi_put,hD.pr_put]
  grind
def can {γ:Type} (M:Sem β γ) (l:List α):Prop:= ∃G,z1t M G∧l=D.flat G
def sem (hD:D.Fair) {γ:Type} (M:Sem β γ):Sem α (Int×γ) where
 can:=D.can M
 inB:=D.inA M.inB
 uniq:=fun s t ⟨G,hG,e1⟩ ⟨H,hH,e2⟩ h=>by subst e1 e2;rw [x6x G H hG hH fun x q=>by simp_all [flat_pt]]
 some:=fun s ⟨G,hG,e1⟩ hs=>by
  subst e1;cases G with
  | nil=>exact absurd rfl hs
  | cons g G=>obtain ⟨q,hq⟩:=M.some _ hG.head.2.1 hG.head.2.2;exact ⟨(g.a,q),(flat_pt hD M _ _ _).2 ((hG.sec0 ⟨A3 _,hG.head.1⟩ q).2 hq)⟩
 nil:=⟨[],.nil,rfl⟩
variable (D)
def oneS (sec:List β) (x x':Int) (s:Sw α β):Sw α β:=
 bif decide (0<sec.length)&&((s.fin == x)&&D.same s.last sec) then ⟨D.grow s.out s.first x',s.last,s.first,x'⟩
 else ⟨s.out++sec.map (D.put x x'),sec,s.out.length,x'⟩
def goS (sec:Int→List β) (cs:List Int):Nat→Nat→Sw α β→Sw α β
 | 0,_,s=>s
 | k+1,i,s=>goS sec cs k (i+1) (D.oneS (sec (rd cs i)) (rd cs i) (rd cs (i+1)) s)
theorem go_goS (l:List α): ∀(k i:Nat) (s:Sw α β),D.go l k i s=D.goS (D.sec l) (D.cuts l) k i s
 | 0,_,_=>rfl
 | k+1,i,s=>go_goS l k (i+1) _
variable {D}
structure Inv {γ:Type} (M:Sem β γ) (sec:Int→List β) (cs:List Int) (i:Nat) (s:Sw α β) (G:List (Qe β)):Prop where
 can:z1t M G
 out:s.out=D.flat G
 gap:s.last=[]→ ∀g∈G,g.b<rd cs i
 end_ : s.last ≠ [] → ∃ Gp g, G = Gp ++ [g] ∧ g.s = s.last ∧ g.b = rd cs i ∧ s.fin = rd cs i ∧ s.first = (D.flat Gp).length
 pts: ∀x q,ptG M G x q↔ ∃j,j<i∧rd cs j≤x∧x<rd cs (j+1)∧ptL M.inB (sec (rd cs j)) q
theorem u4p (hD:D.Fair) (hs: ∀a b,D.same a b=true↔a=b) {γ:Type} (M:Sem β γ) {sec:Int→List β} {cs:List Int} (hc:cs.Pairwise (· < ·)) (eX: ∀x,M.can (sec x)) {i:Nat} (hi:i+1<cs.length) {s:Sw α β} {G:List (Qe β)} (h:Inv (D:=D) M sec cs i s G):
  ∃G',Inv (D:=D) M sec cs (i+1) (D.oneS (sec (rd cs i)) (rd cs i) (rd cs (i+1)) s) G':=by
 have hlt:rd cs i<rd cs (i+1):=x3h hc (BO _) hi;unfold oneS;rcases Yw (decide (0<(sec (rd cs i)).length)&&((s.fin == rd cs i)&&D.same s.last (sec (rd cs i)))) with q | q
 ·rw [q,Ab];simp only [Ae,At] at q;obtain ⟨q1,q2,q3⟩:=q;have q3:=(hs _ _).1 q3;have hne:s.last≠ []:=fun e=>by grind
  obtain ⟨Gp,g,e1,e2,e3,e4,e5⟩:=h.end_ hne;subst e1;refine ⟨Gp++[⟨g.a,rd cs (i+1),g.s⟩],h.can.stretch (by omega),?_,fun e=>absurd e hne,fun _=>⟨Gp,_,rfl,e2,rfl,rfl,e5⟩,fun x p=> ?_⟩
  ·show D.grow s.out s.first (rd cs (i+1))=_
   rw [h.out,e5];unfold grow;rw [D.flat_append,D.flat_append,D.flat_one,D.flat_one,List.take_left,List.drop_left,List.map_map]
   congr 1
   exact List.map_congr_left fun b _=>hD.ext_put _ _ _ _
  ·have hp:=h.pts x p;rw [x0u,z9c] at hp ⊢;have z: ¬ptG M ([]:List (Qe β)) x p:=fun ⟨_,hk,_⟩=>by cases hk
   constructor
   ·grind
   ·rintro ⟨j,j1,j2,j3,j4⟩;rcases A4 (Nat.le_of_lt_succ j1) with rfl | j1
    ·refine .inr (.inl ⟨?_,j3,?_⟩)
     ·have:=(h.can.all g (by simp)).1;grind
     grind
    grind
 ·rw [q,Aa];by_cases he:sec (rd cs i)=[]
  ·rw [he];refine ⟨G,h.can,?_,fun _ g hg=> ?_,fun e=>absurd rfl e,fun x p=> ?_⟩
   ·show s.out++[].map _=_;rw [BA,AC,h.out]
   ·by_cases hl:s.last=[]
    ·have:=h.gap hl g hg;omega
    ·obtain ⟨Gp,g',e1,e2,e3,_⟩:=h.end_ hl;subst e1;rcases AH.1 hg with hg | hg
     ·have:=h.can.before g hg;have:=(h.can.all g' (by simp)).1;omega
     grind
   ·rw [h.pts]
    grind [z7j]
  ·have ok:OkS M (⟨rd cs i,rd cs (i+1),sec (rd cs i)⟩:Qe β):=⟨hlt,eX _,he⟩
   have hcan:z1t M (G++[⟨rd cs i,rd cs (i+1),sec (rd cs i)⟩]):=by
    rcases List.eq_nil_or_concat G with rfl | ⟨Gp,g,rfl⟩
    ·exact .one _ ok
    ·rw [List.concat_eq_append] at*;refine h.can.snoc ok ?_;by_cases hl:s.last=[]
     ·have:=h.gap hl g (by simp);exact ⟨by grind,fun e=>by grind⟩
     ·obtain ⟨Gp',g',e1,e2,e3,e4,_⟩:=h.end_ hl;obtain ⟨rfl,e⟩:=List.append_inj' e1 rfl;obtain rfl:g=g':=by simpa using e
      refine ⟨by grind,fun _ e=> ?_⟩;rw [An (show 0<(sec (rd cs i)).length from List.length_pos_iff.2 he),e4,(hs _ _).2 (e2.symm.trans e)] at q;simp at q
   refine ⟨_,hcan,?_,fun e=>absurd e he,fun _=>⟨G,_,rfl,rfl,rfl,rfl,by show s.out.length=_;rw [h.out]⟩,fun x p=> ?_⟩
   ·show s.out++_=_;rw [D.flat_append,D.flat_one,h.out]
   ·rw [x0u,z9c,h.pts]
    grind [ptG]
theorem j1g (hD:D.Fair) (hs: ∀a b,D.same a b=true↔a=b) {γ:Type} (M:Sem β γ) {sec:Int→List β} {cs:List Int} (hc:cs.Pairwise (· < ·)) (eX: ∀x,M.can (sec x)): ∀(k i:Nat) (s:Sw α β) (G:List (Qe β)),i+k<cs.length∨k=0→Inv (D:=D) M sec cs i s G→
  ∃G',Inv (D:=D) M sec cs (i+k) (D.goS sec cs k i s) G'
 | 0,i,s,G,_,h=>⟨G,h⟩
 | k+1,i,s,G,hk,h=>by obtain ⟨G1,h1⟩:=u4p hD hs M hc eX (show i+1<cs.length by omega) h;obtain ⟨G2,h2⟩:=j1g hD hs M hc eX k (i+1) _ G1 (by omega) h1;exact ⟨G2,by rw [show i+(k+1)=i+1+k by omega];exact h2⟩
theorem goS_can (hD:D.Fair) (hs: ∀a b,D.same a b=true↔a=b) {γ:Type} (M:Sem β γ) {sec:Int→List β} {cs:List Int} (hc:cs.Pairwise (· < ·)) (eX: ∀x,M.can (sec x)):
  (D.sem hD M).can (D.goS sec cs (cs.length - 1) 0 ⟨[],[],0,0⟩).out ∧ ∀x q,ptL (D.sem hD M).inB (D.goS sec cs (cs.length - 1) 0 ⟨[],[],0,0⟩).out (x,q)↔ ∃j,j+1<cs.length∧rd cs j≤x∧x<rd cs (j+1)∧ptL M.inB (sec (rd cs j)) q:=by
 obtain ⟨G,h⟩:=j1g hD hs M hc eX (cs.length - 1) 0 ⟨[],[],0,0⟩ [] (by omega) ⟨.nil,rfl,fun _ g hg=>by (cases hg),fun e=>absurd rfl e,fun x q=>⟨fun ⟨_,hg,_⟩=>(by cases hg),fun ⟨j,hj,_⟩=>absurd hj (AG _)⟩⟩;refine ⟨⟨G,h.can,h.out⟩,fun x q=> ?_⟩;rw [h.out];rw [show ptL (D.sem hD M).inB (D.flat G) (x,q)↔ptG M G x q from flat_pt hD M G x q,h.pts]
 grind
end Dim
open Go.Proofs Go.Sort Go.Shelf Go.RowKit Go.Lib
def z4r :Sem R2 Int where
 can:=Can
 inB s y:=s.a≤y∧y<s.b
 uniq:=w6t
 some s hs hn:=by
  cases s with
  | nil=>grind
  | cons r l=>exact ⟨r.a,r,by simp,A3 _,hs.pos r (by simp)⟩
 nil:=.nil
def Xi :Sem R4 (Int×Int):=Dim.sem z1h z4r
def z1p :Sem R6 (Int×Int×Int):=Dim.sem z2q Xi
namespace Dim
variable {α β:Type} {D:Dim α β}
theorem inn_slab (l m:List α) (hl: ∀r∈m,r∈l) {j:Nat} (hj:j+1<(D.cuts l).length) {x:Int} (h1:rd (D.cuts l) j≤x) (h2:x<rd (D.cuts l) (j+1)):D.inn m (rd (D.cuts l) j)=D.inn m x:=by
 have hc:(D.cuts l).Pairwise (· < ·):=by show (Jg (D.ends l)).Pairwise (· < ·);rw [Js];exact (Wx _).1
 have hmem: ∀r∈m,D.lo r∈D.cuts l∧D.hi r∈D.cuts l:=fun r hr=>by show D.lo r∈Jg (D.ends l)∧D.hi r∈Jg (D.ends l);rw [Js,(Wx _).2,(Wx _).2];exact ⟨AJ.2 ⟨r,hl r hr,by simp⟩,AJ.2 ⟨r,hl r hr,by simp⟩⟩
 have side: ∀c,c∈D.cuts l→(c≤rd (D.cuts l) j↔c≤x):=fun c hcm=>by
  obtain ⟨i,hi,rfl⟩:=AN hcm;rw [←Yr hi];rcases A6 j i with h | h
  ·have:rd (D.cuts l) (j+1)≤rd (D.cuts l) i:=by
    rcases A4 (show j+1≤i from h) with e | e
    ·grind
    ·exact Int.le_of_lt (x3h hc e hi)
   grind
  ·have:rd (D.cuts l) i≤rd (D.cuts l) j:=by
    rcases A4 h with e | e
    ·grind
    ·exact Int.le_of_lt (x3h hc e (by omega))
   grind
 unfold inn
 congr 1
 refine List.filter_congr fun r hr=> ?_
 grind
theorem inn_out (l m:List α) (hl: ∀r∈m,r∈l) {x:Int} (h: ∀j,j+1<(D.cuts l).length → ¬(rd (D.cuts l) j≤x∧x<rd (D.cuts l) (j+1))):D.inn m x=[]:=by
 unfold inn;rw [List.map_eq_nil_iff,List.filter_eq_nil_iff];intro r hr hb;simp only [Ae,At] at hb;have hmem:D.lo r∈D.cuts l∧D.hi r∈D.cuts l:=by show D.lo r∈Jg (D.ends l)∧D.hi r∈Jg (D.ends l);rw [Js,(Wx _).2,(Wx _).2];exact ⟨AJ.2 ⟨r,hl r hr,by simp⟩,AJ.2 ⟨r,hl r hr,by simp⟩⟩
 have hc:(D.cuts l).Pairwise (· < ·):=by show (Jg (D.ends l)).Pairwise (· < ·);rw [Js];exact (Wx _).1
 obtain ⟨i,hi,e1⟩:=AN hmem.1;obtain ⟨k,hk,e2⟩:=AN hmem.2;rw [←Yr hi] at e1;rw [←Yr hk] at e2;have h0:rd (D.cuts l) 0≤rd (D.cuts l) i:=by
  rcases A4 (Ay i) with e | e
  ·grind
  ·exact Int.le_of_lt (x3h hc e hi)
 obtain ⟨j,j1,j2,j3⟩:=w3d k hk x (by omega) (by omega)
 grind
theorem goJ_can (hD:D.Fair) (hs: ∀a b,D.same a b=true↔a=b) {γ:Type} (M:Sem β γ) (a b:List α) (J:List β→List β→List β) (hJ: ∀x,M.can (J (D.inn a x) (D.inn b x))) (h0:J [] []=[]):
  (D.sem hD M).can (D.goS (fun x=>J (D.inn a x) (D.inn b x)) (D.cuts (a++b)) ((D.cuts (a++b)).length - 1) 0 ⟨[],[],0,0⟩).out ∧
  ∀x q,ptL (D.sem hD M).inB (D.goS (fun x=>J (D.inn a x) (D.inn b x)) (D.cuts (a++b)) ((D.cuts (a++b)).length - 1) 0 ⟨[],[],0,0⟩).out (x,q)↔ptL M.inB (J (D.inn a x) (D.inn b x)) q:=by
 have hc:(D.cuts (a++b)).Pairwise (· < ·):=by show (Jg (D.ends (a++b))).Pairwise (· < ·);rw [Js];exact (Wx _).1
 obtain ⟨h1,h2⟩:=goS_can hD hs M (cs:=D.cuts (a++b)) hc hJ;refine ⟨h1,fun x q=> ?_⟩;rw [h2];constructor
 ·grind [inn_slab]
 ·intro hp;by_cases hx: ∃j,j+1<(D.cuts (a++b)).length ∧rd (D.cuts (a++b)) j≤x∧x<rd (D.cuts (a++b)) (j+1)
  ·grind [inn_slab]
  ·have hx': ∀j,j+1<(D.cuts (a++b)).length → ¬(rd (D.cuts (a++b)) j≤x∧x<rd (D.cuts (a++b)) (j+1)):=fun j j1 j2=>hx ⟨j,j1,j2⟩;rw [inn_out (a++b) a (fun r hr=>AH.2 (.inl hr)) hx',inn_out (a++b) b (fun r hr=>AH.2 (.inr hr)) hx',h0] at hp;exact absurd hp (z7j _ _)
theorem pt_inn {γ:Type} (inB:β→γ→Prop) (l:List α) (x:Int) (q:γ):ptL inB (D.inn l x) q↔ptL (D.inA inB) l (x,q):=by
 constructor
 ·rintro ⟨b,hb,h⟩;obtain ⟨r,hr,rfl⟩:=AO.1 hb;obtain ⟨h1,h2⟩:=AV.1 hr;simp only [Ae,At] at h2;exact ⟨r,h1,h2.1,h2.2,h⟩
 ·rintro ⟨r,hr,h1,h2,h3⟩;refine ⟨D.pr r,AO.2 ⟨r,AV.2 ⟨hr,?_⟩,rfl⟩,h3⟩
  grind
theorem out_goJ (l:List α):D.out l=(D.goS (fun x=>D.mak (D.inn l x)) (D.cuts (l++[])) ((D.cuts (l++[])).length - 1) 0 ⟨[],[],0,0⟩).out :=by rw [AC];unfold out;rw [go_goS];rfl
end Dim
theorem z2t (a b:List R4):D6.same a b=true↔a=b:=Be
theorem z8i (a b:List R2):D4.same a b=true↔a=b:=Be
theorem Jf {l:List R4} (h: ∀r∈l,Vi r=true) (x:Int):(D4.inn l x).all z1n=true:=Ar.2 fun s hs=>by
 grind [z7n,Vi,z1n]
theorem v3a {l:List R2} (hv:l.all z1n=true) (hl:l.length≤400):z4r.can (Xr l)∧ ∀y,ptL z4r.inB (Xr l) y↔ptL z4r.inB l y:=by
 obtain ⟨c1,c2⟩:=y0o l hv;have e:Xr l=swV l:=by grind [Xr]
 rw [e];exact ⟨c1,c2⟩
theorem z0w {β γ:Type} (M:Sem β γ) {l:List β} (h:M.can l) (hp: ∀q,¬ptL M.inB l q):l=[]:=A8 fun hn=>by obtain ⟨q,hq⟩:=M.some l h hn;exact hp q hq
theorem j2t :Xr []=[]:=by
 grind [v3a,z0w,z7j]
theorem Dim.out_nil {α β:Type} (D:Dim α β):D.out []=[]:=by
 have h:(D.cuts []).length ≤2*0:=D.cuts_length [];have e:(D.cuts []).length - 1=0:=by omega
 unfold Dim.out;rw [e];rfl
theorem j5g :Zm []=[]:=by
 grind [Zm,Dim.out_nil]
theorem Kn {l:List R4} (hv: ∀r∈l,Vi r=true) (hl:l.length≤400):Xi.can (D4.out l)∧ ∀p,ptL Xi.inB (D4.out l) p↔ptL Xi.inB l p:=by rw [Dim.out_goJ];have hs: ∀x,z4r.can (D4.mak (D4.inn l x))∧ ∀y,ptL z4r.inB (D4.mak (D4.inn l x)) y↔ptL z4r.inB (D4.inn l x) y:=fun x=>v3a (Jf hv x) (AE (D4.inn_length l x) hl);obtain ⟨h1,h2⟩:=Dim.goJ_can z1h z8i z4r l [] (fun s _=>D4.mak s) (fun x=>(hs x).1) j2t;refine ⟨h1,fun ⟨x,y⟩=> ?_⟩;rw [show ptL Xi.inB _ (x,y)↔_ from h2 x y,(hs x).2,Dim.pt_inn];rfl
theorem z5r {l:List R6} (hv: ∀r∈l,Qf r=true) (z:Int): ∀r∈D6.inn l z,Vi r=true:=fun r hr=>by
 obtain ⟨s,hs,rfl⟩:=AO.1 hr;have:=Ju (hv s (AV.1 hs).1);show Vi ⟨s.a,s.b,s.d,s.e⟩=true
 grind [Vi]
def Secs (l:List R6):Prop:= ∀z,(D4.out (D6.inn l z)).length ≤400
theorem Qd {l:List R4} (hv: ∀r∈l,Vi r=true) (hl:l.length≤400) (h:(D4.out l).length ≤400):Zm l=D4.out l∧Yo l=0:=by
 grind [Zm,Yo]
theorem j2w {l:List R6} (hv: ∀r∈l,Qf r=true) (hl:l.length≤400) (hs:Secs l):z1p.can (D6.out l)∧ ∀p,ptL z1p.inB (D6.out l) p↔ptL z1p.inB l p:=by
 rw [Dim.out_goJ];have hq: ∀z,Xi.can (D6.mak (D6.inn l z))∧ ∀p,ptL Xi.inB (D6.mak (D6.inn l z)) p↔ptL Xi.inB (D6.inn l z) p:=fun z=>by show Xi.can (Zm (D6.inn l z))∧ ∀p,ptL Xi.inB (Zm (D6.inn l z)) p↔_;rw [(Qd (z5r hv z) (AE (D6.inn_length l z) hl) (hs z)).1];exact Kn (z5r hv z) (AE (D6.inn_length l z) hl)
 obtain ⟨h1,h2⟩:=Dim.goJ_can z2q z2t Xi l [] (fun s _=>D6.mak s) (fun x=>(hq x).1) j5g;refine ⟨h1,fun ⟨z,p⟩=> ?_⟩;rw [show ptL z1p.inB _ (z,p)↔_ from h2 z p,(hq z).2,Dim.pt_inn];rfl
open Go.Proofs Go.Sort Go.Shelf Go.RowKit Go.Lib
def opB (k:Nat) (a b:Bool):Bool:=match k with
 | 0=>a||b
 | 1=>a&&b
 | _=>a&& !b
theorem j0b (k:Nat):opB k false false=false:=by
 match k with
 | 0=>rfl
 | 1=>rfl
 | _+2=>rfl
def Wn (i:Int) (l:List R2):List R3:=l.flatMap fun s=>[⟨s.a,i,1⟩,⟨s.b,i,-1⟩]
def z6r (i:Int) (E:List R3) (y:Int):Int:=(E.map fun e=>if e.b=i∧e.a≤y then e.c else 0).sum
theorem Qs (i:Int) (e:R3) (E:List R3) (y:Int):z6r i (e::E) y=(if e.b=i∧e.a≤y then e.c else 0)+z6r i E y:=by simp [z6r]
theorem y6z (i:Int) (E F:List R3) (y:Int):z6r i (E++F) y=z6r i E y+z6r i F y:=by simp [z6r]
theorem x5w (i:Int) {E F:List R3} (h:E.Perm F) (y:Int):z6r i E y=z6r i F y:=by
 induction h with
 | nil=>rfl
 | cons e _ ih=>rw [Qs,Qs,ih]
 | swap a b l=>simp only [Qs];omega
 | trans _ _ i1 i2=>rw [i1,i2]
theorem v6g (i:Int) (E:List R3) (y:Int) (h: ∀e∈E,y<e.a):z6r i E y=0:=by
 induction E with
 | nil=>rfl
 | cons e E ih=>
  grind [Qs]
theorem v6h (i:Int) (l:List R2) (hv: ∀s∈l,s.a<s.b) (y:Int):0≤z6r i (Wn i l) y∧(0<z6r i (Wn i l) y↔pt l y):=by
 induction l with
 | nil=>grind [z6r,Wn,pt]
 | cons s l ih=>
  obtain ⟨i1,i2⟩:=ih fun t ht=>hv t (by simp [ht]);have hs:=hv s (by simp);have e:z6r i (Wn i (s::l)) y=(if s.a≤y∧y<s.b then 1 else 0)+z6r i (Wn i l) y:=by
   grind [Wn,Qs]
  rw [e];by_cases h:s.a≤y∧y<s.b
  ·rw [AL h];exact ⟨by omega,⟨fun _=>⟨s,by simp,h⟩,fun _=>by omega⟩⟩
  ·rw [AF h];refine ⟨by omega,?_⟩;rw [BN,i2];constructor
   ·rintro ⟨t,ht,h2⟩;exact ⟨t,by simp [ht],h2⟩
   ·rintro ⟨t,ht,h2⟩;rcases AI.1 ht with rfl | ht
    ·grind
    ·exact ⟨t,ht,h2⟩
theorem x0x (i j:Int) (hij:i≠j) (l:List R2) (y:Int):z6r i (Wn j l) y=0:=by
 induction l with
 | nil=>rfl
 | cons s l ih=>
  show z6r i (⟨s.a,j,1⟩::⟨s.b,j,-1⟩::Wn j l) y=0
  grind [Qs]
def sw2 (f:Bool→Bool→Bool):List R3→Int→Int→Int→Bool→List R2→List R2
 | [],_,_,_,_,out=>out
 | e::r,o,p,last,inn,out=>
  sw2 f r (bif e.b == 0 then o+e.c else o) (bif e.b == 0 then p else p+e.c) e.a (f (decide ((bif e.b == 0 then o+e.c else o)>0)) (decide ((bif e.b == 0 then p else p+e.c)>0))) (Ug out last inn e.a)
def Two (E:List R3):Prop:= ∀e∈E,e.b=0∨e.b=1
theorem v2n (f:Bool→Bool→Bool): ∀(E:List R3) (o p last:Int) (out:List R2),Asc E→Two E→(∀e∈E,last≤e.a)→Can out→(∀s∈out,s.b≤last)→
  Can (sw2 f E o p last (f (decide (o>0)) (decide (p>0))) out)∧ ∀y,pt (sw2 f E o p last (f (decide (o>0)) (decide (p>0))) out) y↔pt out y∨(last≤y∧f (decide (o+z6r 0 E y>0)) (decide (p+z6r 1 E y>0))=true∧ ∃e∈E,y<e.a)
 | [],o,p,last,out,_,_,_,hc,_=>⟨hc,fun y=>⟨.inl,fun h=>h.elim id fun ⟨_,_,e,he,_⟩=>by cases he⟩⟩
 | e ::r,o,p,last,out,hE,ht,hl,hc,hb=>by
  have he:=hl e (by simp);have hr:=AR.1 hE;obtain ⟨p1,p2,p3⟩:=x1u (f (decide (o>0)) (decide (p>0))) hc hb he;have hz: ∀y,y<e.a→ ∀i,z6r i (e::r) y=0:=fun y hy i=>v6g i _ _ fun g hg=>by
   grind
  have main: ∀(o' p':Int),(∀y,e.a≤y→o'+z6r 0 r y=o+z6r 0 (e::r) y∧p'+z6r 1 r y=p+z6r 1 (e::r) y)→
    Can (sw2 f r o' p' e.a (f (decide (o'>0)) (decide (p'>0))) (Ug out last (f (decide (o>0)) (decide (p>0))) e.a))∧
    ∀y,pt (sw2 f r o' p' e.a (f (decide (o'>0)) (decide (p'>0))) (Ug out last (f (decide (o>0)) (decide (p>0))) e.a)) y↔pt out y∨(last≤y∧f (decide (o+z6r 0 (e::r) y>0)) (decide (p+z6r 1 (e::r) y>0))=true∧ ∃g∈e::r,y<g.a):=fun o' p' hop=>by
   obtain ⟨q1,q2⟩:=v2n f r o' p' e.a (Ug out last (f (decide (o>0)) (decide (p>0))) e.a) hr.2 (fun g hg=>ht g (by simp [hg])) hr.1 p1 p2;refine ⟨q1,fun y=> ?_⟩;rw [q2,p3];constructor
   ·rintro ((h | ⟨h1,h2,h3⟩) | ⟨h1,h2,g,hg,h3⟩)
    ·exact .inl h
    ·simp_all
    ·refine .inr ⟨by omega,?_,g,by simp [hg],h3⟩;simp_all
   ·rintro (h | ⟨h1,h2,g,hg,h3⟩)
    ·grind
    ·by_cases hy:e.a≤y
     ·right;obtain ⟨e1,e2⟩:=hop y hy;refine ⟨hy,by simp_all,g,?_,h3⟩
      grind
     simp_all
  show Can (sw2 f r _ _ _ _ _)∧ ∀y,pt (sw2 f r _ _ _ _ _) y↔_;rcases ht e (by simp) with h0 | h0
  ·have hb0:(e.b == 0)=true:=by rw [h0];rfl
   rw [hb0,Ab,Ab];refine main _ _ fun y hy=>⟨?_,?_⟩
   all_goals grind [Qs]
  ·have hb0:(e.b == 0)=false:=by rw [h0];rfl
   rw [hb0,Aa,Aa];refine main _ _ fun y hy=>⟨?_,?_⟩
   all_goals grind [Qs]
instance ptDec (l:List R2) (y:Int):Decidable (pt l y):=Classical.propDecidable _
theorem j2k (f:Bool→Bool→Bool) (hf:f false false=false) (a b:List R2) (ha: ∀s∈a,s.a<s.b) (hb: ∀s∈b,s.a<s.b) (E:List R3) (hp:E.Perm (Wn 0 a++Wn 1 b)) (hE:Asc E):
  Can (sw2 f E 0 0 0 false [])∧ ∀y,pt (sw2 f E 0 0 0 false []) y↔f (decide (pt a y)) (decide (pt b y))=true:=by
 have hn: ∀y,z6r 0 E y=z6r 0 (Wn 0 a) y∧z6r 1 E y=z6r 1 (Wn 1 b) y:=fun y=>by rw [x5w 0 hp,x5w 1 hp,y6z,y6z,x0x 0 1 (by decide),x0x 1 0 (by decide)];omega
 have hd: ∀y,decide (z6r 0 E y>0)=decide (pt a y)∧decide (z6r 1 E y>0)=decide (pt b y):=fun y=>by simp_all [v6h]
 have ht:Two E:=fun e he=>by
  rcases AH.1 (hp.mem_iff.1 he) with h | h
  ·obtain ⟨s,_,h⟩:=AJ.1 h
   grind
  ·obtain ⟨s,_,h⟩:=AJ.1 h
   grind
 have cover: ∀y,f (decide (pt a y)) (decide (pt b y))=true→ ∃e∈E,y<e.a∧ ∃g∈E,g.a≤y:=fun y hy=>by
  by_cases h1:pt a y
  ·obtain ⟨s,hs,s1,s2⟩:=h1;exact ⟨⟨s.b,0,-1⟩,hp.mem_iff.2 (AH.2 (.inl (AJ.2 ⟨s,hs,by simp⟩))),s2,⟨s.a,0,1⟩,hp.mem_iff.2 (AH.2 (.inl (AJ.2 ⟨s,hs,by simp⟩))),s1⟩
  ·by_cases h2:pt b y
   ·obtain ⟨s,hs,s1,s2⟩:=h2;exact ⟨⟨s.b,1,-1⟩,hp.mem_iff.2 (AH.2 (.inr (AJ.2 ⟨s,hs,by simp⟩))),s2,⟨s.a,1,1⟩,hp.mem_iff.2 (AH.2 (.inr (AJ.2 ⟨s,hs,by simp⟩))),s1⟩
   grind
 cases E with
 | nil=>
  refine ⟨.nil,fun y=>⟨fun ⟨s,hs,_⟩=>(by cases hs),fun hy=> ?_⟩⟩
  grind
 | cons e r=>
  have hr:=AR.1 hE;have hz0:f (decide ((0:Int)>0)) (decide ((0:Int)>0))=false:=hf;have e0:sw2 f (e::r) 0 0 0 false []=sw2 f (e::r) 0 0 e.a (f (decide ((0:Int)>0)) (decide ((0:Int)>0))) []:=by
   grind [sw2,Ug]
  rw [e0];obtain ⟨q1,q2⟩:=v2n f (e::r) 0 0 e.a [] hE ht (fun g hg=>by
   grind) .nil (by simp)
  refine ⟨q1,fun y=> ?_⟩;rw [q2,BN,BN,(hd y).1,(hd y).2];constructor
  ·rintro (⟨s,hs,_⟩ | ⟨_,h2,_⟩);all_goals grind
  grind
def tri :Nat→Nat
 | 0=>0
 | k+1=>tri k+k
theorem v2i : ∀n,tri (n+1)+tri n=n*n
 | 0=>rfl
 | n+1=>by have:=v2i n;show tri (n+1)+(n+1)+(tri n+n)=(n+1)*(n+1);rw [AT,Nat.mul_add];omega
def hat (n:Nat):Nat→Nat
 | 0=>0
 | v+1=>hat n v+min v (2*n - v)
theorem v7h (n:Nat): ∀v,v≤n+1→hat n v=tri v
 | 0,_=>rfl
 | v+1,h=>by show hat n v+min v (2*n - v)=tri v+v;rw [v7h n v (by omega)];omega
theorem y5b (n:Nat): ∀j,j≤n→hat n (n+1+j)+tri (n - j)=n*n
 | 0,_=>by grind [v7h,v2i]
 | j+1,h=>by
  have:=y5b n j (by omega);show hat n (n+1+j)+min (n+1+j) (2*n - (n+1+j))+tri (n - (j+1))=_;have e:tri (n - j)=tri (n - (j+1))+(n - (j+1)):=by rw [show n - j=(n - (j+1))+1 by omega];rfl
  omega
theorem hat_le (n v:Nat):hat n v≤n*n:=by
 by_cases h1:v≤2*n+1
 ·by_cases h2:v≤n+1
  ·have h3:=y5b n 0 (Ay _);have mono: ∀k v,hat n v≤hat n (v+k):=fun k v=>by
    induction k with
    | zero=>grind
    | succ k ih=>exact AE ih (Nat.le_add_right _ _)
   have:=mono (n+1 - v) v
   grind
  ·have:=y5b n (v - (n+1)) (by omega)
   grind
 ·have h3:hat n (2*n+1)≤n*n:=by
   have:=y5b n n (Aq _)
   grind
  have: ∀k,hat n (2*n+1+k)=hat n (2*n+1):=fun k=>by
   induction k with
   | zero=>rfl
   | succ k ih=>
    grind [hat]
  have h4:=this (v - (2*n+1))
  grind
theorem w6e (n:Nat) (E:Nat→Nat): ∀k,(∀i,i+1<k→E i<E (i+1))→((List.range k).map fun i=>min (E i) (2*n - E i)).sum ≤(match k with | 0=>0 | k+1=>hat n (E k+1))
 | 0,_=>Aq _
 | k+1,h=>by
  rw [BD,Bj,BB];have ih:=w6e n E k fun i hi=>h i (by omega);have mono: ∀k v,hat n v≤hat n (v+k):=fun k v=>by
   induction k with
   | zero=>grind
   | succ k ih=>exact AE ih (Nat.le_add_right _ _)
  simp only [AU,BA,BK,List.sum_nil,Bg];show _≤hat n (E k)+min (E k) (2*n - E k);cases k with
  | zero=>
   grind
  | succ k=>
   have h1:=h k (by omega);have h2:=mono (E (k+1) - (E k+1)) (E k+1)
   grind
def x7t (p:Int→Bool) (l:List Int):Nat:=(l.filter p).length
theorem y0a (p:Int→Bool) (x:Int) (l:List Int):x7t p (x::l)=(if p x=true then 1 else 0)+x7t p l:=by
 grind [x7t]
theorem j9q (p:Int→Bool) (l:List Int):x7t p l≤l.length:=List.length_filter_le _ _
theorem v8s {p q:Int→Bool} (h: ∀x,p x=true→q x=true) (l:List Int):x7t p l≤x7t q l:=by
 induction l with
 | nil=>exact Aq _
 | cons x l ih=>
  grind [y0a]
theorem j9p {p q:Int→Bool} (h: ∀x,p x=true→q x=true) {l:List Int} {y:Int} (hy:y∈l) (hq:q y=true) (hp:p y=false):x7t p l<x7t q l:=by
 induction l with
 | nil=>cases hy
 | cons x l ih=>
  rw [y0a,y0a];rcases AI.1 hy with rfl | hy
  ·have:=v8s h l
   grind
  grind
namespace Dim
variable {α β:Type} {D:Dim α β}
theorem inn_min (l:List α) (x:Int) (hv: ∀r∈l,D.lo r<D.hi r):(D.inn l x).length ≤min (x7t (fun y=>decide (y≤x)) (D.ends l)) (2*l.length - x7t (fun y=>decide (y≤x)) (D.ends l)):=by
 induction l with
 | nil=>exact Ay _
 | cons r l ih=>
  have ih:=ih fun s hs=>hv s (by simp [hs]);have hr:=hv r (by simp);have hc:=j9q (fun y=>decide (y≤x)) (D.ends l);rw [D.ends_length] at hc;have e:x7t (fun y=>decide (y≤x)) (D.ends (r::l))=(if D.lo r≤x then 1 else 0)+((if D.hi r≤x then 1 else 0)+x7t (fun y=>decide (y≤x)) (D.ends l)):=by
   show x7t _ (D.lo r::D.hi r::D.ends l)=_
   grind [y0a]
  grind [inn]
theorem open_sum (l:List α) (hv: ∀r∈l,D.lo r<D.hi r): ∀k,k≤(D.cuts l).length →((List.range k).map fun i=>(D.inn l (rd (D.cuts l) i)).length).sum ≤l.length*l.length:=fun k hk=>by
 have hc:(D.cuts l).Pairwise (· < ·):=by show (Jg (D.ends l)).Pairwise (· < ·);rw [Js];exact (Wx _).1
 have hm: ∀i,i<(D.cuts l).length →rd (D.cuts l) i∈D.ends l:=fun i hi=>by
  have:rd (D.cuts l) i∈Jg (D.ends l):=by rw [Yr hi];exact AZ hi
  grind [Js,Wx]
 have h1:((List.range k).map fun i=>(D.inn l (rd (D.cuts l) i)).length).sum ≤((List.range k).map fun i=>min (x7t (fun y=>decide (y≤rd (D.cuts l) i)) (D.ends l)) (2*l.length - x7t (fun y=>decide (y≤rd (D.cuts l) i)) (D.ends l))).sum :=by
  induction k with
  | zero=>grind
  | succ k ih=>
   rw [BD,Bj,Bj,BB,BB];have:=ih (by omega);have h2:=D.inn_min l (rd (D.cuts l) k) hv
   grind
 refine AE h1 ?_;have h2:=w6e l.length (fun i=>x7t (fun y=>decide (y≤rd (D.cuts l) i)) (D.ends l)) k fun i hi=>by
  have hlt:=x3h hc (show i<i+1 by omega) (show i+1<_ by omega);refine j9p (fun x hx=> ?_) (hm (i+1) (by omega)) (An (A3 _)) (AB (by omega))
  grind
 grind [hat_le]
theorem goS_length (sec:Int→List β) (cs:List Int): ∀(k i:Nat) (s:Sw α β),(D.goS sec cs k i s).out.length ≤s.out.length+((List.range k).map fun j=>(sec (rd cs (i+j))).length).sum
 | 0,i,s=>Aq _
 | k+1,i,s=>by
  have h1:=goS_length sec cs k (i+1) (D.oneS (sec (rd cs i)) (rd cs i) (rd cs (i+1)) s);have h2:(D.oneS (sec (rd cs i)) (rd cs i) (rd cs (i+1)) s).out.length ≤s.out.length+(sec (rd cs i)).length :=by
   unfold oneS;cases (decide (0<(sec (rd cs i)).length)&&((s.fin == rd cs i)&&D.same s.last (sec (rd cs i)))) with
   | true=>rw [Ab,D.grow_length];omega
   | false=>rw [Aa];simp
  rw [List.range_succ_eq_map,AU,List.map_map,BK,show rd cs (i+0)=rd cs i from rfl];have e:((fun j=>(sec (rd cs (i+j))).length)∘Nat.succ)=fun j=>(sec (rd cs (i+1+j))).length :=by
   funext j;simp only [Function.comp];rw [show i+j.succ=i+1+j by omega]
  rw [e];show (D.goS sec cs k (i+1) _).out.length ≤_;omega
theorem goJ_length (a b:List α) (J:List β→List β→List β) (hJ: ∀x,(J (D.inn a x) (D.inn b x)).length ≤(D.inn a x).length +(D.inn b x).length) (hv: ∀r∈a++b,D.lo r<D.hi r):
  (D.goS (fun x=>J (D.inn a x) (D.inn b x)) (D.cuts (a++b)) ((D.cuts (a++b)).length - 1) 0 ⟨[],[],0,0⟩).out.length ≤(a.length+b.length)*(a.length+b.length):=by
 have h1:=D.goS_length (fun x=>J (D.inn a x) (D.inn b x)) (D.cuts (a++b)) ((D.cuts (a++b)).length - 1) 0 ⟨[],[],0,0⟩;have h2:=D.open_sum (a++b) hv ((D.cuts (a++b)).length - 1) (Nat.sub_le _ _);rw [AP] at h2;refine AE h1 (AE ?_ h2);simp only [List.length_nil,Af];generalize (D.cuts (a++b)).length - 1=k
 induction k with
 | zero=>grind
 | succ k ih=>rw [BD,Bj,Bj,BB,BB];have:=hJ (rd (D.cuts (a++b)) k);simp only [AU,BA,BK,List.sum_nil];rw [D.inn_append,AP];omega
end Dim
open Go.Proofs Go.Sort Go.Shelf Go.RowKit Go.Lib
def spJ (k:Nat) (a b:List R2):List R2:=sw2 (opB k) (z2k (Wn 0 a++Wn 1 b)) 0 0 0 false []
theorem x6t (i:Int) (l:List R2) (hv:l.all z1n=true):y3e (Wn i l)=true:=Ar.2 fun e he=>by obtain ⟨s,hs,h1⟩:=AJ.1 he;have hv:=Ar.1 hv s hs;simp only [z1n,Ae,At] at hv;simp only [AI,Bl,BS] at h1;rcases h1 with rfl | rfl <;> exact An (by grind)
theorem w4c {l:List R2} (hv:l.all z1n=true): ∀s∈l,s.a<s.b:=fun s hs=>by
 grind [z1n]
theorem y0t (k:Nat) {a b:List R2} (ha:a.all z1n=true) (hb:b.all z1n=true):z4r.can (spJ k a b)∧ ∀y,ptL z4r.inB (spJ k a b) y↔opB k (decide (pt a y)) (decide (pt b y))=true:=by
 have hbnd:y3e (Wn 0 a++Wn 1 b)=true:=by
  grind [x6t,y3e]
 obtain ⟨hp,_⟩:=Qo _ hbnd;exact j2k (opB k) (j0b k) a b (w4c ha) (w4c hb) _ hp (w4g _ hbnd)
theorem w5g : ∀(l S:List Int),l.Pairwise (· < ·)→(∀x∈l,x∈S)→l.length≤S.length
 | [],S,_,_=>Ay _
 | x::l,S,h,hs=>by
  obtain ⟨h1,h2⟩:=AR.1 h;have hx:=hs x (by simp);have:=w5g l (S.erase x) h2 fun y hy=>(List.mem_erase_of_ne (by grind)).2 (hs y (by simp [hy]))
  grind
def y0g (L:List R2):List Int:=L.flatMap fun s=>[s.a,s.b]
theorem z2g (L:List R2):(y0g L).length =2*L.length:=by
 induction L with
 | nil=>rfl
 | cons r l ih=>grind [y0g]
theorem y0f {L:List R2} (h:Can L):(y0g L).Pairwise (· < ·):=by
 induction L with
 | nil=>exact .nil
 | cons s L ih=>
  have hp:=h.pos s (by simp);have hn: ∀y∈y0g L,s.b<y:=fun y hy=>by
   obtain ⟨t,ht,h1⟩:=AJ.1 hy;have:=h.head t ht;have:=h.pos t (by simp [ht])
   grind
  show (s.a::s.b::y0g L).Pairwise (· < ·);refine AR.2 ⟨fun y hy=> ?_,AR.2 ⟨hn,ih h.tail⟩⟩
  grind
theorem v1d {L:List R2} (h:Can L) (S:List Int) (hS: ∀y,y ∉ S→(pt L (y - 1)↔pt L y)):2*L.length≤S.length:=by
 rw [←z2g];refine w5g _ S (y0f h) fun y hy=>A8 fun hn=> ?_;obtain ⟨s,hs,h1⟩:=AJ.1 hy;have hp:=h.pos s hs;have sepL: ∀t∈L,t=s∨t.b<s.a∨s.b<t.a:=fun t ht=>by
  obtain ⟨i,hi,ei⟩:=AN hs;obtain ⟨j,hj,ej⟩:=AN ht;have pw:=A1.1 h.sep
  grind
 simp only [AI,Bl,BS] at h1;rcases h1 with rfl | rfl
 ·obtain ⟨t,ht,t1,t2⟩:=(hS _ hn).2 ⟨s,hs,A3 _,hp⟩
  grind
 ·obtain ⟨t,ht,t1,t2⟩:=(hS _ hn).1 ⟨s,hs,by omega,by omega⟩
  grind
theorem x3c {l:List R2} {y:Int} (h:y ∉ y0g l):pt l (y - 1)↔pt l y:=by
 constructor
 ·rintro ⟨s,hs,h1,h2⟩;refine ⟨s,hs,by omega,?_⟩;have:y≠s.b:=fun e=>h (AJ.2 ⟨s,hs,by simp [e]⟩);omega
 ·rintro ⟨s,hs,h1,h2⟩;refine ⟨s,hs,?_,by omega⟩;have:y≠s.a:=fun e=>h (AJ.2 ⟨s,hs,by simp [e]⟩);omega
theorem z5v (k:Nat) {a b:List R2} (ha:a.all z1n=true) (hb:b.all z1n=true):(spJ k a b).length ≤a.length+b.length:=by
 obtain ⟨h1,h2⟩:=y0t k ha hb;have:=v1d h1 (y0g a++y0g b) fun y hy=>by
  rw [AH,not_or] at hy;have e1:decide (pt a (y - 1))=decide (pt a y):=decide_eq_decide.2 (x3c hy.1);have e2:decide (pt b (y - 1))=decide (pt b y):=decide_eq_decide.2 (x3c hy.2);have q1:pt (spJ k a b) (y - 1)↔_:=h2 (y - 1);have q2:pt (spJ k a b) y↔_:=h2 y
  grind
 grind [z2g]
def rgJ (k:Nat) (a b:List R4):List R4:=(D4.goS (fun x=>spJ k (D4.inn a x) (D4.inn b x)) (D4.cuts (a++b)) ((D4.cuts (a++b)).length - 1) 0 ⟨[],[],0,0⟩).out
theorem j2v (k:Nat):spJ k [] []=[]:=by have:=z5v k (a:=[]) (b:=[]) rfl rfl;simp_all
instance ptDec4 (l:List R4) (p:Int×Int):Decidable (ptL Xi.inB l p):=Classical.propDecidable _
theorem y1g (l:List R4) (x y:Int):pt (D4.inn l x) y↔ptL Xi.inB l (x,y):=Dim.pt_inn (D:=D4) z4r.inB l x y
theorem Qj (k:Nat) {a b:List R4} (ha: ∀r∈a,Vi r=true) (hb: ∀r∈b,Vi r=true):
  Xi.can (rgJ k a b)∧(∀p,ptL Xi.inB (rgJ k a b) p↔opB k (decide (ptL Xi.inB a p)) (decide (ptL Xi.inB b p))=true)∧(rgJ k a b).length ≤(a.length+b.length)*(a.length+b.length):=by
 have hs: ∀x,z4r.can (spJ k (D4.inn a x) (D4.inn b x))∧ ∀y,ptL z4r.inB (spJ k (D4.inn a x) (D4.inn b x)) y↔opB k (decide (pt (D4.inn a x) y)) (decide (pt (D4.inn b x) y))=true:=fun x=>y0t k (Jf ha x) (Jf hb x);obtain ⟨h1,h2⟩:=Dim.goJ_can z1h z8i z4r a b (spJ k) (fun x=>(hs x).1) (j2v k);refine ⟨h1,fun ⟨x,y⟩=> ?_,?_⟩
 ·rw [show ptL Xi.inB (rgJ k a b) (x,y)↔_ from h2 x y,(hs x).2]
  grind [y1g]
 ·refine Dim.goJ_length a b (spJ k) (fun x=>z5v k (Jf ha x) (Jf hb x)) fun r hr=> ?_;have hv:Vi r=true:=by
   grind
  simp only [Vi,Ae,At] at hv;exact hv.1
end Go.Am
end
