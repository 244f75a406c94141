/- A part of a proof: several texts in one. -/
import Derived.Test.YtpddoeiakpbkbaaGreatLm2
import Derived.Shelf.Sort.Plain
import Derived.Ground.Names2Prog
import Derived.Shelf.Slices.CompactI
import Derived.Shelf.Slices.SearchI
import Derived.Shelf.Slices.Cells
import Derived.Shelf.Slices.In.SortNone
import Derived.Shelf.SlSortCmp.WholeK
import Derived.Ground.SlsfProg
import Derived.Test.YtpddoeiakpbkbaaGreatProg
import Derived.Shelf.SlSortCmp.NoneTotal
set_option maxRecDepth 1000000
set_option maxHeartbeats 8000000
set_option linter.unusedVariables false
set_option linter.unusedSimpArgs false
noncomputable section
namespace Go.Proofs
open Go.Proofs.Tryz
open Go.Shelf
def Tryz.lays189_ren :Go.Shelf.Ren:=⟨fun | 189=>111 | 125=>151 | 257=>150 | 128=>174 | 129=>175 | 294=>165 | 295=>166 | 296=>167 | 297=>168 | 298=>169 | 299=>170 | 216=>171 | 300=>172 | 301=>173 | 328=>185 | 329=>186 | 330=>187 | 331=>188 | 332=>189 | 215=>190 | 343=>196 | n=>n,fun | 28=>125 | 3=>3 | 46=>191 | 0=>0 | 51=>216 | 53=>218 | 4=>4 | 183=>208 | 182=>207 | 131=>213 | 5=>5 | 9=>9 | 218=>228 | 222=>232 | 228=>241 | 229=>119 | n=>n,fun | n=>n⟩
theorem Tryz.lays189 :Go.Proofs.Lays.n189 prog Tryz.lays189_ren:={
 mixed:=by kernel_rfl
 f125:=Tryz.func151.trans (congrArg some (by kernel_rfl))
 f128:=Tryz.func174.trans (congrArg some (by kernel_rfl))
 f129:=Tryz.func175.trans (congrArg some (by kernel_rfl))
 f189:=Tryz.func111.trans (congrArg some (by kernel_rfl))
 f215:=Tryz.func190.trans (congrArg some (by kernel_rfl))
 f216:=Tryz.func171.trans (congrArg some (by kernel_rfl))
 f257:=Tryz.func150.trans (congrArg some (by kernel_rfl))
 f294:=Tryz.func165.trans (congrArg some (by kernel_rfl))
 f295:=Tryz.func166.trans (congrArg some (by kernel_rfl))
 f296:=Tryz.func167.trans (congrArg some (by kernel_rfl))
 f297:=Tryz.func168.trans (congrArg some (by kernel_rfl))
 f298:=Tryz.func169.trans (congrArg some (by kernel_rfl))
 f299:=Tryz.func170.trans (congrArg some (by kernel_rfl))
 f300:=Tryz.func172.trans (congrArg some (by kernel_rfl))
 f301:=Tryz.func173.trans (congrArg some (by kernel_rfl))
 f328:=Tryz.func185.trans (congrArg some (by kernel_rfl))
 f329:=Tryz.func186.trans (congrArg some (by kernel_rfl))
 f330:=Tryz.func187.trans (congrArg some (by kernel_rfl))
 f331:=Tryz.func188.trans (congrArg some (by kernel_rfl))
 f332:=Tryz.func189.trans (congrArg some (by kernel_rfl))
 f343:=Tryz.func196.trans (congrArg some (by kernel_rfl))
 t0:=Tryz.underlying0
 a0:=Tryz.isAgg0
 z0:=Tryz.sizeOf0
 v0:=Tryz.zeroValue0
 t3:=Tryz.underlying3
 a3:=Tryz.isAgg3
 z3:=Tryz.sizeOf3
 v3:=Tryz.zeroValue3
 t4:=Tryz.underlying4
 a4:=Tryz.isAgg4
 z4:=Tryz.sizeOf4
 v4:=Tryz.zeroValue4
 t5:=Tryz.underlying5
 a5:=Tryz.isAgg5
 z5:=Tryz.sizeOf5
 v5:=Tryz.zeroValue5
 t9:=Tryz.underlying9
 a9:=Tryz.isAgg9
 z9:=Tryz.sizeOf9
 v9:=Tryz.zeroValue9
 t28:=Tryz.underlying125
 a28:=Tryz.isAgg125
 z28:=Tryz.sizeOf125
 v28:=Tryz.zeroValue125
 t46:=Tryz.underlying191
 a46:=Tryz.isAgg191
 z46:=Tryz.sizeOf191
 v46:=Tryz.zeroValue191
 t51:=Tryz.underlying216
 a51:=Tryz.isAgg216
 z51:=Tryz.sizeOf216
 v51:=Tryz.zeroValue216
 t53:=Tryz.underlying218
 a53:=Tryz.isAgg218
 z53:=Tryz.sizeOf218
 v53:=Tryz.zeroValue218
 t131:=Tryz.underlying213
 a131:=Tryz.isAgg213
 z131:=Tryz.sizeOf213
 v131:=Tryz.zeroValue213
 t182:=Tryz.underlying207
 a182:=Tryz.isAgg207
 z182:=Tryz.sizeOf207
 v182:=Tryz.zeroValue207
 t183:=Tryz.underlying208
 a183:=Tryz.isAgg208
 z183:=Tryz.sizeOf208
 v183:=Tryz.zeroValue208
 t218:=Tryz.underlying228
 a218:=Tryz.isAgg228
 z218:=Tryz.sizeOf228
 v218:=Tryz.zeroValue228
 t222:=Tryz.underlying232
 a222:=Tryz.isAgg232
 z222:=Tryz.sizeOf232
 v222:=Tryz.zeroValue232
 t228:=Tryz.underlying241
 a228:=Tryz.isAgg241
 z228:=Tryz.sizeOf241
 v228:=Tryz.zeroValue241
 t229:=Tryz.underlying119
 a229:=Tryz.isAgg119
 z229:=Tryz.sizeOf119
 v229:=Tryz.zeroValue119}
open Go.Sort Go.RowKit in
theorem Tryz.slices_Sort_int (blk off cap:Nat) (zs:List Int) (w:World) (hH:Holds (Value.int .i64) w blk off zs.toArray) (eW:blk<w.heap.size) (hsz:zs.length<4611686018427387904):
  Calls prog 111 #[.slice (some ⟨blk,off,none⟩) zs.length cap] w fun e w'=>
   e=.returned (.tuple #[])∧ ∃n os,w'=grow (putRow (Value.int .i64) (Sort.ahead w n) blk off (zs.mergeSort fun x y=>decide (x≤y)).toArray) os:=Any.slices_Sort_int Tryz.lays189 blk off cap zs w hH eW hsz
def Tryz.laysNm220_ren :Go.Shelf.Ren:=⟨fun | 20=>113 | n=>n,fun | 22=>125 | 3=>3 | 4=>4 | 0=>0 | n=>n,fun | n=>n⟩
theorem Tryz.laysNm220 :Go.Proofs.Lays2.n20 prog Tryz.laysNm220_ren:={
 mixed:=by kernel_rfl
 f20:=Tryz.func113.trans (congrArg some (by kernel_rfl))
 t0:=Tryz.underlying0
 a0:=Tryz.isAgg0
 z0:=Tryz.sizeOf0
 v0:=Tryz.zeroValue0
 t3:=Tryz.underlying3
 a3:=Tryz.isAgg3
 z3:=Tryz.sizeOf3
 v3:=Tryz.zeroValue3
 t4:=Tryz.underlying4
 a4:=Tryz.isAgg4
 z4:=Tryz.sizeOf4
 v4:=Tryz.zeroValue4
 t22:=Tryz.underlying125
 a22:=Tryz.isAgg125
 z22:=Tryz.sizeOf125
 v22:=Tryz.zeroValue125
 i3:=by kernel_rfl}
open Go.RowKit Go.Lib Go.Sort in
theorem Tryz.slices_Compact_int (blk off cap:Nat) (zs:List Int) (w:World) (hH:Holds (Value.int .i64) w blk off zs.toArray) (hsz:zs.length≤9223372036854775807) (dR:zs.length≤cap):
  Calls prog 113 #[.slice (some ⟨blk,off,none⟩) zs.length cap] w fun e w'=>e=.returned (.slice (some ⟨blk,off,none⟩) (Lib.compact zs).length cap)∧ ∃q,w'=putRow (Value.int .i64) (Sort.ahead w q) blk off (Lib.compact zs++List.replicate (zs.length - (Lib.compact zs).length) 0).toArray :=Any.slices_Compact_int Tryz.laysNm220 blk off cap zs w hH hsz dR
open Go.RowKit Go.Lib Go.Sort in
theorem Tryz.slices_Compact_int_empty (a:Option Addr) (cap:Nat) (w:World):
  Calls prog 113 #[.slice a 0 cap] w fun e w'=>e=.returned (.slice a 0 cap)∧w'=w:=Any.slices_Compact_int_empty Tryz.laysNm220 a cap w
open Go.RowKit Go.Sort in
theorem Tryz.slices_Sort_int_none (p:Option Addr) (cap:Nat) (w:World):
  Calls prog 111 #[.slice p 0 cap] w fun e w'=>e=.returned (.tuple #[])∧w'=w:=Any.slices_Sort_int_none Tryz.lays189 p cap w
def Tryz.sortEnd_ren :Go.Shelf.Ren:=⟨fun | 6=>193 | 15=>151 | 14=>197 | 28=>174 | 29=>175 | 20=>199 | 21=>200 | 22=>201 | 23=>202 | 24=>203 | 25=>204 | 26=>205 | 27=>206 | 46=>207 | 47=>186 | 48=>187 | 49=>208 | 50=>209 | 57=>210 | n=>n,fun | 22=>236 | 24=>227 | 25=>238 | 3=>3 | 39=>191 | 0=>0 | 53=>216 | 55=>218 | 4=>4 | 46=>208 | 45=>207 | 50=>213 | 5=>5 | 9=>9 | 66=>228 | 70=>232 | 76=>241 | 77=>119 | n=>n,fun | n=>n⟩
theorem Tryz.sortEnd :Go.Proofs.SlLaysF0.n6 prog Tryz.sortEnd_ren:={
 mixed:=by kernel_rfl
 f6:=⟨Tryz.f193.name,by decide,Tryz.func193.trans (congrArg some (by kernel_rfl))⟩
 f14:=⟨Tryz.f197.name,by decide,Tryz.func197.trans (congrArg some (by kernel_rfl))⟩
 f15:=Tryz.func151.trans (congrArg some (by kernel_rfl))
 f20:=⟨Tryz.f199.name,by decide,Tryz.func199.trans (congrArg some (by kernel_rfl))⟩
 f21:=⟨Tryz.f200.name,by decide,Tryz.func200.trans (congrArg some (by kernel_rfl))⟩
 f22:=⟨Tryz.f201.name,by decide,Tryz.func201.trans (congrArg some (by kernel_rfl))⟩
 f23:=⟨Tryz.f202.name,by decide,Tryz.func202.trans (congrArg some (by kernel_rfl))⟩
 f24:=⟨Tryz.f203.name,by decide,Tryz.func203.trans (congrArg some (by kernel_rfl))⟩
 f25:=⟨Tryz.f204.name,by decide,Tryz.func204.trans (congrArg some (by kernel_rfl))⟩
 f26:=⟨Tryz.f205.name,by decide,Tryz.func205.trans (congrArg some (by kernel_rfl))⟩
 f27:=⟨Tryz.f206.name,by decide,Tryz.func206.trans (congrArg some (by kernel_rfl))⟩
 f28:=Tryz.func174.trans (congrArg some (by kernel_rfl))
 f29:=Tryz.func175.trans (congrArg some (by kernel_rfl))
 f46:=⟨Tryz.f207.name,by decide,Tryz.func207.trans (congrArg some (by kernel_rfl))⟩
 f47:=Tryz.func186.trans (congrArg some (by kernel_rfl))
 f48:=Tryz.func187.trans (congrArg some (by kernel_rfl))
 f49:=⟨Tryz.f208.name,by decide,Tryz.func208.trans (congrArg some (by kernel_rfl))⟩
 f50:=⟨Tryz.f209.name,by decide,Tryz.func209.trans (congrArg some (by kernel_rfl))⟩
 f57:=⟨Tryz.f210.name,by decide,Tryz.func210.trans (congrArg some (by kernel_rfl))⟩
 t0:=Tryz.underlying0
 a0:=Tryz.isAgg0
 z0:=Tryz.sizeOf0
 v0:=Tryz.zeroValue0
 t3:=Tryz.underlying3
 a3:=Tryz.isAgg3
 z3:=Tryz.sizeOf3
 v3:=Tryz.zeroValue3
 t4:=Tryz.underlying4
 a4:=Tryz.isAgg4
 z4:=Tryz.sizeOf4
 v4:=Tryz.zeroValue4
 t5:=Tryz.underlying5
 a5:=Tryz.isAgg5
 z5:=Tryz.sizeOf5
 v5:=Tryz.zeroValue5
 t9:=Tryz.underlying9
 a9:=Tryz.isAgg9
 z9:=Tryz.sizeOf9
 v9:=Tryz.zeroValue9
 t22:=Tryz.underlying236
 a22:=Tryz.isAgg236
 z22:=Tryz.sizeOf236
 v22:=Tryz.zeroValue236
 t25:=Tryz.underlying238
 a25:=Tryz.isAgg238
 z25:=Tryz.sizeOf238
 v25:=Tryz.zeroValue238
 t39:=Tryz.underlying191
 a39:=Tryz.isAgg191
 z39:=Tryz.sizeOf191
 v39:=Tryz.zeroValue191
 t45:=Tryz.underlying207
 a45:=Tryz.isAgg207
 z45:=Tryz.sizeOf207
 v45:=Tryz.zeroValue207
 t46:=Tryz.underlying208
 a46:=Tryz.isAgg208
 z46:=Tryz.sizeOf208
 v46:=Tryz.zeroValue208
 t50:=Tryz.underlying213
 a50:=Tryz.isAgg213
 z50:=Tryz.sizeOf213
 v50:=Tryz.zeroValue213
 t53:=Tryz.underlying216
 a53:=Tryz.isAgg216
 z53:=Tryz.sizeOf216
 v53:=Tryz.zeroValue216
 t55:=Tryz.underlying218
 a55:=Tryz.isAgg218
 z55:=Tryz.sizeOf218
 v55:=Tryz.zeroValue218
 t66:=Tryz.underlying228
 a66:=Tryz.isAgg228
 z66:=Tryz.sizeOf228
 v66:=Tryz.zeroValue228
 t70:=Tryz.underlying232
 a70:=Tryz.isAgg232
 z70:=Tryz.sizeOf232
 v70:=Tryz.zeroValue232
 t76:=Tryz.underlying241
 a76:=Tryz.isAgg241
 z76:=Tryz.sizeOf241
 v76:=Tryz.zeroValue241
 t77:=Tryz.underlying119
 a77:=Tryz.isAgg119
 z77:=Tryz.sizeOf119
 v77:=Tryz.zeroValue119}
open Go.RowKit Go.Lib Go.Sort
theorem Tryz.cmpEnd (a b c a' b' c':Int) (h: -1000000000≤a∧a≤1000000000) (h': -1000000000≤a'∧a'≤1000000000) (W:World):
  Calls prog 194 #[.agg #[.int .i64 a,.int .i64 b,.int .i64 c],.agg #[.int .i64 a',.int .i64 b',.int .i64 c']] W fun e w'=>e=.returned (.int .i64 (a - a'))∧ ∃q os',w'=grow (W.drewN q) os':=by
 go_enter Tryz.func194,Tryz.ntmps194
 go_wp2
 go_ret
 exact ⟨rfl,0,_,by rw [alloc_eq_grow,alloc_eq_grow,grow_grow];rfl⟩
end Go.Proofs
namespace Go.Am
open IntKind (wrap)
open Go.Proofs.Tryz
open Go.Proofs
inductive rjsS where
 | h0 (v9:List R6) (v10:List R4) (v11:Int) (v12:Int)
 | h1 (v9:List R6) (v10:List R4) (v11:Int) (v12:Int) (v13:List R4) (v15:Int)
 | h2 (v9:List R6) (v10:List R4) (v11:Int) (v12:Int) (v14:Int)
abbrev w5c (l1:List R6) (l2:List R6) (v12:Int):=(rd (Vq (cvT l1) (cvT l2)) (tn v12))
abbrev x0i (v9:List R6) (v14:Int) (l1:List R6) (l2:List R6) (v12:Int):=(v9.set (0+(tn v14)) (R6.mk (rd v9 (0+(tn v14))).a (rd v9 (0+(tn v14))).b (rd v9 (0+(tn v14))).c (rd v9 (0+(tn v14))).d (rd v9 (0+(tn v14))).e (rd (Vq (cvT l1) (cvT l2)) (tn (wr (v12+1))))))
abbrev x0h (v9:List R6) (v13:List R4) (v15:Int) (l1:List R6) (l2:List R6) (v12:Int):=(v9++[(R6.mk (rd v13 (tn v15)).a (rd v13 (tn v15)).b (w5c l1 l2 v12) (rd v13 (tn v15)).c (rd v13 (tn v15)).d (rd (Vq (cvT l1) (cvT l2)) (tn (wr (v12+1)))))])
abbrev Vo (l1:List R6) (l2:List R6) (v12:Int):=(atV (cvT l1) (w5c l1 l2 v12))
abbrev Us (l2:List R6) (l1:List R6) (v12:Int):=(atV (cvT l2) (w5c l1 l2 v12))
abbrev u9d (v9:List R6) (v13:List R4) (v15:Int) (l1:List R6) (l2:List R6) (v12:Int):=(Zo (Zz v9) 0 v9.length 6 [(ii (rd v13 (tn v15)).a),(ii (rd v13 (tn v15)).b),(ii (w5c l1 l2 v12)),(ii (rd v13 (tn v15)).c),(ii (rd v13 (tn v15)).d),(ii (rd (Vq (cvT l1) (cvT l2)) (tn (wr (v12+1)))))])
def v4v (l1:List R6) (l2:List R6):AVal:=(.dat (Vq (cvT l1) (cvT l2)).length (Zz (Vq (cvT l1) (cvT l2))))
def rjsC (x0:Int) (l1:List R6) (l2:List R6):rjsS→Cfg
 | .h0 v9 v10 v11 v12=>⟨⟨137,0,true⟩,none,(Zb prog 77 [1,1,1,1,1,0,1,0,0] 0),none,(Zy prog 10),⟨Yg [(0,(ii x0)),(1,(.dat l1.length (Zz l1))),(2,(.dat l2.length (Zz l2))),(8,(v4v l1 l2)),(9,(.sla 0 6 0 v9.length (.un 6))),(10,(.dat v10.length (Zz v10))),(11,(ii v11)),(12,(ii v12))],Vj [⟨Ym v9.length (Zz v9),57,some ⟨6,v9.length,(Zz v9)⟩⟩] 0,1,[],true⟩,[],.leaf⟩
 | .h1 v9 v10 v11 v12 v13 v15=>⟨⟨137,0,true⟩,none,(Zb prog 77 [1,1,1,1,1,0,1,0,0,1,0,0,1,1,1,1,1,0,0] 0),none,(Zy prog 10),⟨Yg [(0,(ii x0)),(1,(.dat l1.length (Zz l1))),(2,(.dat l2.length (Zz l2))),(8,(v4v l1 l2)),(9,(.sla 0 6 0 v9.length (.un 6))),(10,(.dat v10.length (Zz v10))),(11,(ii v11)),(12,(ii v12)),(13,(.dat v13.length (Zz v13))),(15,(ii v15))],Vj [⟨Ym v9.length (Zz v9),57,some ⟨6,v9.length,(Zz v9)⟩⟩] 0,1,[],true⟩,[],.leaf⟩
 | .h2 v9 v10 v11 v12 v14=>⟨⟨137,0,true⟩,none,(Zb prog 77 [1,1,1,1,1,0,1,0,0,1,0,0,1,1,0,1,0,0,1,0,0] 0),none,(Zy prog 10),⟨Yg [(0,(ii x0)),(1,(.dat l1.length (Zz l1))),(2,(.dat l2.length (Zz l2))),(8,(v4v l1 l2)),(9,(.sla 0 6 0 v9.length (.un 6))),(10,(.dat v10.length (Zz v10))),(11,(ii v11)),(12,(ii v12)),(14,(ii v14))],Vj [⟨Ym v9.length (Zz v9),57,some ⟨6,v9.length,(Zz v9)⟩⟩] 0,1,[],true⟩,[],.leaf⟩
def j4n :List (Option (List Nat)):=[some [0,1,2,8,9,10,11,12]]
def j4p :List (Option (List Nat)):=[]
def j4m :List (Option (List Nat)):=[some [0,1,2,8,9,10,11,12,13,15]]
def j4o :List (Option (List Nat)):=[]
def rjsN2 :List (Option (List Nat)):=[some [0,1,2,8,9,10,11,12,14]]
def rjsM2 :List (Option (List Nat)):=[]
def Vt (x0:Int) (l1:List R6) (l2:List R6):rjsS→Xw rjsS
 | .h0 v9 v10 v11 v12=>(bif (decide ((wrap .i64 (v12+1))<(((Vq (cvT l1) (cvT l2)).length :Nat):Int))) then (bif (z6i (cvT l1) (rd (Vq (cvT l1) (cvT l2)) v12.toNat)) then (bif ((decide (0≤v12∧v12<(((Vq (cvT l1) (cvT l2)).length :Nat):Int)))&&true) then (bif (z6i (cvT l2) (rd (Vq (cvT l1) (cvT l2)) v12.toNat)) then (bif (z1t x0 (cvT (atV (cvT l1) (rd (Vq (cvT l1) (cvT l2)) v12.toNat))) (cvT (atV (cvT l2) (rd (Vq (cvT l1) (cvT l2)) v12.toNat)))) then (bif (decide ((((joV x0 (cvT (atV (cvT l1) (rd (Vq (cvT l1) (cvT l2)) v12.toNat))) (cvT (atV (cvT l2) (rd (Vq (cvT l1) (cvT l2)) v12.toNat)))).length :Nat):Int)>400)) then (.ret [.nils,(.bool false)]) else (bif (z1t 2 (cvT (atV (cvT l1) (rd (Vq (cvT l1) (cvT l2)) v12.toNat))) ([]:List R4)) then (bif (decide ((((joV 2 (cvT (atV (cvT l1) (rd (Vq (cvT l1) (cvT l2)) v12.toNat))) ([]:List R4)).length :Nat):Int)>400)) then (.ret [.nils,(.bool false)]) else (bif (z1t 2 (cvT (atV (cvT l2) (rd (Vq (cvT l1) (cvT l2)) v12.toNat))) ([]:List R4)) then (bif (decide ((((joV 2 (cvT (atV (cvT l2) (rd (Vq (cvT l1) (cvT l2)) v12.toNat))) ([]:List R4)).length :Nat):Int)>400)) then (.ret [.nils,(.bool false)]) else (bif (decide (v12>0)) then (bif (We (cvT (joV x0 (cvT (atV (cvT l1) (rd (Vq (cvT l1) (cvT l2)) v12.toNat))) (cvT (atV (cvT l2) (rd (Vq (cvT l1) (cvT l2)) v12.toNat))))) (cvT v10)) then (bif (Ur (cvT (joV x0 (cvT (atV (cvT l1) (rd (Vq (cvT l1) (cvT l2)) v12.toNat))) (cvT (atV (cvT l2) (rd (Vq (cvT l1) (cvT l2)) v12.toNat))))) (cvT v10)) then (.to (.h2 v9 v10 v11 v12 v11)) else (.to (.h1 v9 (joV x0 (cvT (atV (cvT l1) (rd (Vq (cvT l1) (cvT l2)) v12.toNat))) (cvT (atV (cvT l2) (rd (Vq (cvT l1) (cvT l2)) v12.toNat)))) (v9.length:Int) v12 (joV x0 (cvT (atV (cvT l1) (rd (Vq (cvT l1) (cvT l2)) v12.toNat))) (cvT (atV (cvT l2) (rd (Vq (cvT l1) (cvT l2)) v12.toNat)))) 0))) else .stuck) else (.to (.h1 v9 (joV x0 (cvT (atV (cvT l1) (rd (Vq (cvT l1) (cvT l2)) v12.toNat))) (cvT (atV (cvT l2) (rd (Vq (cvT l1) (cvT l2)) v12.toNat)))) (v9.length:Int) v12 (joV x0 (cvT (atV (cvT l1) (rd (Vq (cvT l1) (cvT l2)) v12.toNat))) (cvT (atV (cvT l2) (rd (Vq (cvT l1) (cvT l2)) v12.toNat)))) 0)))) else .stuck)) else .stuck)) else .stuck) else .stuck) else .stuck) else .stuck) else (.ret [(.dat v9.length (Zz v9)),(.bool (decide ((v9.length:Int)≤400)))]))
 | .h1 v9 v10 v11 v12 v13 v15=>(bif (decide (v15<(v13.length:Int))) then (bif ((decide (0≤v12∧v12<(((Vq (cvT l1) (cvT l2)).length :Nat):Int)))&&true) then (bif ((decide (0≤v15∧v15<(v13.length:Int)))&&true) then (bif ((decide (0≤(wrap .i64 (v12+1))∧(wrap .i64 (v12+1))<(((Vq (cvT l1) (cvT l2)).length :Nat):Int)))&&true) then (bif (Nat.beq 6 6&&((decide (0+v9.length=v9.length))&&decide ((v9.length+1+1)*(48+1)≤room))) then (.to (.h1 (v9++[(R6.mk (rd v13 v15.toNat).a (rd v13 v15.toNat).b (rd (Vq (cvT l1) (cvT l2)) v12.toNat) (rd v13 v15.toNat).c (rd v13 v15.toNat).d (rd (Vq (cvT l1) (cvT l2)) (Int.toNat (wrap .i64 (v12+1)))))]) v10 v11 v12 v13 (wrap .i64 (v15+1)))) else .stuck) else .stuck) else .stuck) else .stuck) else (.to (.h0 v9 v10 v11 (wrap .i64 (v12+1)))))
 | .h2 v9 v10 v11 v12 v14=>(bif (decide (v14<(v9.length:Int))) then (bif ((decide (0≤(wrap .i64 (v12+1))∧(wrap .i64 (v12+1))<(((Vq (cvT l1) (cvT l2)).length :Nat):Int)))&&true) then (bif ((decide (0≤v14∧v14<(v9.length:Int)))&&true) then (bif (decide ((0+v14.toNat)<v9.length)) then (.to (.h2 (v9.set (0+v14.toNat) (R6.mk (rd v9 (0+v14.toNat)).a (rd v9 (0+v14.toNat)).b (rd v9 (0+v14.toNat)).c (rd v9 (0+v14.toNat)).d (rd v9 (0+v14.toNat)).e (rd (Vq (cvT l1) (cvT l2)) (Int.toNat (wrap .i64 (v12+1)))))) v10 v11 v12 (wrap .i64 (v14+1)))) else .stuck) else .stuck) else .stuck) else (.to (.h0 v9 v10 v11 (wrap .i64 (v12+1)))))
def y4i (x0:Int) (l1:List R6) (l2:List R6):Xw rjsS:=(bif (z9s (cvT l1) (cvT l2)) then (.to (.h0 ([]:List R6) ([]:List R4) 0 0)) else .stuck)
theorem w8z (x0:Int) (l1:List R6) (l2:List R6): ∀s,Yt prog (Zy prog 77) (rjsC x0 l1 l2) (rjsC x0 l1 l2 s) (Vt x0 l1 l2 s)
 | .h0 v9 v10 v11 v12=>(lb (fun k0=>(lo fun aJ=>(lo fun bC=>(lo fun cK=>(lo fun dH=>(lb (fun k1=>(lr 137 77 [1,1,1,1,1,0,1,0,0,1,0,0,1,0,1,0,0] 1 10 [(6,.nils),(7,(.bool false))] (sl y1v 50 [] ⟨[],[],[some [6,7]],[]⟩ ⟨[],[],[]⟩ (trs 20 []) (tt k1 (pp (pp (xI R4 (Vo l1 l2 v12).length (Zz (Vo l1 l2 v12))) (pp (xI R4 (Us l2 l1 v12).length (Zz (Us l2 l1 v12))) (xw dH))) (pp (pp (xr l2) (xw cK)) (ww bC (pp (pp (xr l1) (xw aJ)) (ww bC (tt k0 nn)))))))))) (fun k1=>(lo fun bX=>(lb (fun k2=>(lr 137 77 [1,1,1,1,1,0,1,0,0,1,0,0,1,0,1,0,0] 1 10 [(6,.nils),(7,(.bool false))] (sl y1v 50 [] ⟨[],[],[some [6,7]],[]⟩ ⟨[],[],[]⟩ (bl 20 1047553) (tt k2 (pp (pp (xI R4 (Vo l1 l2 v12).length (Zz (Vo l1 l2 v12))) (pp (xI R4 0 (fun _=>[])) (xw bX))) (pp (pp (xr l1) (xw aJ)) (ww bC (tt k1 (pp (pp (xI R4 (Vo l1 l2 v12).length (Zz (Vo l1 l2 v12))) (pp (xI R4 (Us l2 l1 v12).length (Zz (Us l2 l1 v12))) (xw dH))) (pp (pp (xr l2) (xw cK)) (ww bC (pp (pp (xr l1) (xw aJ)) (ww bC (tt k0 nn)))))))))))))) (fun k2=>(lo fun cC=>(lb (fun k3=>(lr 137 77 [1,1,1,1,1,0,1,0,0,1,0,0,1,0,1,0,0] 1 10 [(6,.nils),(7,(.bool false))] (sl y1v 50 [] ⟨[],[],[some [6,7]],[]⟩ ⟨[],[],[]⟩ (bl 20 524289) (tt k3 (pp (pp (xI R4 (Us l2 l1 v12).length (Zz (Us l2 l1 v12))) (pp (xI R4 0 (fun _=>[])) (xw cC))) (pp (pp (xr l2) (xw cK)) (ww bC (tt k2 (pp (pp (xI R4 (Vo l1 l2 v12).length (Zz (Vo l1 l2 v12))) (pp (xI R4 0 (fun _=>[])) (xw bX))) (pp (pp (xr l1) (xw aJ)) (ww bC (tt k1 (pp (pp (xI R4 (Vo l1 l2 v12).length (Zz (Vo l1 l2 v12))) (pp (xI R4 (Us l2 l1 v12).length (Zz (Us l2 l1 v12))) (xw dH))) (pp (pp (xr l2) (xw cK)) (ww bC (pp (pp (xr l1) (xw aJ)) (ww bC (tt k0 nn)))))))))))))))))) (fun k3=>(lb (fun k4=>(lo fun cT=>(lb (fun k5=>(sl y1v 66 [] ⟨[0],[],rjsN2,rjsM2⟩ ⟨[],[],[]⟩ (bl 24 15728641) (pp (fl v9 nn) (tt k5 (pp (pp (xI R4 (joV x0 (cvT (Vo l1 l2 v12)) (cvT (Us l2 l1 v12))).length (Zz (joV x0 (cvT (Vo l1 l2 v12)) (cvT (Us l2 l1 v12))))) (pp (xr v10) (xw cT))) (tt k4 (tt k3 (pp (pp (xI R4 (Us l2 l1 v12).length (Zz (Us l2 l1 v12))) (pp (xI R4 0 (fun _=>[])) (xw cC))) (pp (pp (xr l2) (xw cK)) (ww bC (tt k2 (pp (pp (xI R4 (Vo l1 l2 v12).length (Zz (Vo l1 l2 v12))) (pp (xI R4 0 (fun _=>[])) (xw bX))) (pp (pp (xr l1) (xw aJ)) (ww bC (tt k1 (pp (pp (xI R4 (Vo l1 l2 v12).length (Zz (Vo l1 l2 v12))) (pp (xI R4 (Us l2 l1 v12).length (Zz (Us l2 l1 v12))) (xw dH))) (pp (pp (xr l2) (xw cK)) (ww bC (pp (pp (xr l1) (xw aJ)) (ww bC (tt k0 nn))))))))))))))))))))) (fun k5=>(sl y1v 73 [] ⟨[0],[],j4m,j4o⟩ ⟨[],[],[]⟩ (bl 24 7340033) (pp (fl v9 nn) (tt k5 (pp (pp (xI R4 (joV x0 (cvT (Vo l1 l2 v12)) (cvT (Us l2 l1 v12))).length (Zz (joV x0 (cvT (Vo l1 l2 v12)) (cvT (Us l2 l1 v12))))) (pp (xr v10) (xw cT))) (tt k4 (tt k3 (pp (pp (xI R4 (Us l2 l1 v12).length (Zz (Us l2 l1 v12))) (pp (xI R4 0 (fun _=>[])) (xw cC))) (pp (pp (xr l2) (xw cK)) (ww bC (tt k2 (pp (pp (xI R4 (Vo l1 l2 v12).length (Zz (Vo l1 l2 v12))) (pp (xI R4 0 (fun _=>[])) (xw bX))) (pp (pp (xr l1) (xw aJ)) (ww bC (tt k1 (pp (pp (xI R4 (Vo l1 l2 v12).length (Zz (Vo l1 l2 v12))) (pp (xI R4 (Us l2 l1 v12).length (Zz (Us l2 l1 v12))) (xw dH))) (pp (pp (xr l2) (xw cK)) (ww bC (pp (pp (xr l1) (xw aJ)) (ww bC (tt k0 nn)))))))))))))))))))))))) (fun k4=>(sl y1v 73 [] ⟨[0],[],j4m,j4o⟩ ⟨[],[],[]⟩ (bl 24 1) (pp (fl v9 nn) (tt k4 (tt k3 (pp (pp (xI R4 (Us l2 l1 v12).length (Zz (Us l2 l1 v12))) (pp (xI R4 0 (fun _=>[])) (xw cC))) (pp (pp (xr l2) (xw cK)) (ww bC (tt k2 (pp (pp (xI R4 (Vo l1 l2 v12).length (Zz (Vo l1 l2 v12))) (pp (xI R4 0 (fun _=>[])) (xw bX))) (pp (pp (xr l1) (xw aJ)) (ww bC (tt k1 (pp (pp (xI R4 (Vo l1 l2 v12).length (Zz (Vo l1 l2 v12))) (pp (xI R4 (Us l2 l1 v12).length (Zz (Us l2 l1 v12))) (xw dH))) (pp (pp (xr l2) (xw cK)) (ww bC (pp (pp (xr l1) (xw aJ)) (ww bC (tt k0 nn))))))))))))))))))))))))))))))))) (fun k0=>(lr 137 3 [1,1,1,1,0] 1 10 [(6,(.dat v9.length (Zz v9))),(7,(.bool (decide ((v9.length:Int)≤400))))] (sl y1v 20 [] ⟨[],[0],[some [6,7]],[]⟩ ⟨[(6,.frz v9.length v9.length (Zz v9) (Zz v9))],[],[]⟩ [false] (pp (xZ (z6e 6 6 0 v9.length v9.length (Zz v9)) v9.length (Zz v9)) (pp (xL v9.length v9.length) (pp (xS v9.length (Zz v9) (Zz v9)) (pp (fl v9 nn) (tt k0 nn)))))))))
 | .h1 v9 v10 v11 v12 v13 v15=>(lb (fun k0=>(lo fun o0=>(lo fun o1=>(lo fun o2=>(lo fun o3=>(sl y1v 20 [] ⟨[2],[],j4m,j4o⟩ ⟨[(9,.len (x0h v9 v13 v15 l1 l2 v12).length)],[.rowed 6 (x0h v9 v13 v15 l1 l2 v12).length (Zz (x0h v9 v13 v15 l1 l2 v12))],[]⟩ [true] (pp (xL (v9.length+1) (x0h v9 v13 v15 l1 l2 v12).length) (pp (xL (v9.length+1) (x0h v9 v13 v15 l1 l2 v12).length) (pp (xS (v9.length+1) (u9d v9 v13 v15 l1 l2 v12) (Zz (x0h v9 v13 v15 l1 l2 v12))) (pp (pp (xF (u9d v9 v13 v15 l1 l2 v12)) nn) (ww o3 (ww o2 (ww o1 (ww o1 (ww o0 (ww o1 (ww o1 (tt k0 nn)))))))))))))))))) (fun k0=>(sl y1v 17 [] ⟨[0],[],j4n,j4p⟩ ⟨[],[],[]⟩ [false] (pp (fl v9 nn) (tt k0 nn)))))
 | .h2 v9 v10 v11 v12 v14=>(lb (fun k0=>(lo fun o0=>(lo fun o1=>(lo fun o2=>(sl y1v 32 [] ⟨[0],[],rjsN2,rjsM2⟩ ⟨[(9,.len (x0i v9 v14 l1 l2 v12).length)],[.rowed 6 (x0i v9 v14 l1 l2 v12).length (Zz (x0i v9 v14 l1 l2 v12))],[]⟩ [true] (pp (xL v9.length (x0i v9 v14 l1 l2 v12).length) (pp (xL v9.length (x0i v9 v14 l1 l2 v12).length) (pp (xS v9.length (Xt (Zz v9) (0+(tn v14)) 5 [(ii (rd (Vq (cvT l1) (cvT l2)) (tn (wr (v12+1)))))]) (Zz (x0i v9 v14 l1 l2 v12))) (pp (pp (xF (Xt (Zz v9) (0+(tn v14)) 5 [(ii (rd (Vq (cvT l1) (cvT l2)) (tn (wr (v12+1)))))])) nn) (ww o2 (ww o1 (ww o0 (tt k0 nn))))))))))))) (fun k0=>(sl y1v 17 [] ⟨[0],[],j4n,j4p⟩ ⟨[],[],[]⟩ [false] (pp (fl v9 nn) (tt k0 nn)))))
theorem x9x (x0:Int) (l1:List R6) (l2:List R6):Yt prog (Zy prog 77) (rjsC x0 l1 l2) (Zg prog 77 [(.int .i64 x0),(.dat l1.length (Zz l1)),(.dat l2.length (Zz l2))] true []) (y4i x0 l1 l2):=(lo fun o0=>(sl y1v 31 [(57,6,Zz ([]:List R6))] ⟨[0],[],j4n,j4p⟩ ⟨[(9,.grow 0 6),(10,.list 0 (Zz ([]:List R4)))],[],[]⟩ [] (pp (fl ([]:List R6) nn) (pp (pp (xr l1) (pp (xr l2) (xw o0))) nn))))
theorem u2c (x0:Int) (l1:List R6) (l2:List R6) (n:Nat) (vs:List AVal) (h:Zr (Vt x0 l1 l2) n (y4i x0 l1 l2)=.ret vs):Jy prog (Zy prog 77) (Zg prog 77 [(.int .i64 x0),(.dat l1.length (Zz l1)),(.dat l2.length (Zz l2))] true []) vs:=by have:=Zd (w8z x0 l1 l2) n _ (x9x x0 l1 l2);rwa [h] at this
theorem Qj (l m:List R6):(Vq l m).length ≤2*l.length+2*m.length:=by
 refine Av (z6w _) ?_
 grind [z4j]
theorem z6j (l:List R6) (z:Int):(atV l z).length ≤l.length:=by
 grind [atV]
def u0c (out:List R6) (first:Nat) (z:Int):List R6:=out.take first++(out.drop first).map fun r=>⟨r.a,r.b,r.c,r.d,r.e,z⟩
def j5l (z z':Int) (s:List R4):List R6:=s.map fun p=>⟨p.a,p.b,z,p.c,p.d,z'⟩
section
variable (kind:Int) (l m:List R6)
def y3a (z:Int):List R4:=joV kind (atV l z) (atV m z)
def z9b (z:Int):Bool:=decide (400<(y3a kind l m z).length)||(decide (400<(joV 2 (atV l z) []).length)||decide (400<(joV 2 (atV m z) []).length))
def jsF :Nat→Nat→List R6→List R4→Nat→Option (List R6)
 | 0,_,out,_,_=>some out
 | k+1,i,out,last,first=>
  bif z9b kind l m (rd (Vq l m) i) then none
  else bif decide (0<i)&&Ur (y3a kind l m (rd (Vq l m) i)) last then jsF k (i+1) (u0c out first (rd (Vq l m) (i+1))) last first
  else jsF k (i+1) (out++j5l (rd (Vq l m) i) (rd (Vq l m) (i+1)) (y3a kind l m (rd (Vq l m) i))) (y3a kind l m (rd (Vq l m) i)) out.length
def jsO :Option (List R6):=jsF kind l m ((Vq l m).length - 1) 0 [] [] 0
def w2a :Option (List R6)→List AVal
 | none=>[.nils,.bool false]
 | some out=>[.dat out.length (Zz out),.bool (decide ((out.length:Int)≤400))]
def z5h :List R6:=(jsO kind l m).getD []
def y8w :Bool:=match jsO kind l m with
 | none=>false
 | some out=>decide ((out.length:Int)≤400)
end
def jsZ (l:List R6):Prop:=l.length≤40000∧ ∀z,(atV l z).length ≤5000
theorem j1l {l:List R6} (h:l.length≤5000):jsZ l:=⟨by omega,fun z=>Av (z6j l z) h⟩
def z9f (_:Int) (l m:List R6):Bool:=pd (jsZ l∧jsZ m)
theorem jsV_ow {k:Int} {l m:List R6} (hl:l.length≤5000) (hm:m.length≤5000):z9f k l m=true:=Xy ⟨j1l hl,j1l hm⟩
section
variable (kind:Int) (l m:List R6) (hl:jsZ l) (hm:jsZ m)
include hl hm
theorem u9c (last:List R4) (first:Int) (i:Nat) (hi:i+1<(Vq l m).length) (s:List R4) (hs:s.length≤1000000): ∀(k j:Nat) (out:List R6),j+k=s.length→out.length≤10000000000+j→
  ∃n,∀N,Zr (Vt kind l m) (N+n) (.to (.h1 out last first (i:Int) s (j:Int)))=Zr (Vt kind l m) N (.to (.h0 (out++j5l (rd (Vq l m) i) (rd (Vq l m) (i+1)) (s.drop j)) last first ((i+1:Nat):Int)))
 | 0,j,out,h,ho=>by
  have hx:=Qj l m;have hl1:=hl.1;have hm1:=hm.1;refine ⟨1,fun N=> ?_⟩
  grind [Zw,Vt,Zk,j5l]
 | k+1,j,out,h,ho=>by
  have hx:=Qj l m;have hl1:=hl.1;have hm1:=hm.1;obtain ⟨n,hn⟩:=u9c last first i hi s hs k (j+1) (out++j5l (rd (Vq l m) i) (rd (Vq l m) (i+1)) [rd s j]) (by omega) (by simp [j5l];omega)
  refine ⟨n+1,fun N=> ?_⟩;have:=hn N;rw [Yq (show j<s.length by omega),←Ay,Zw];simp (disch:=omega) only [Vt,Zc,Zq,Yz,Zt,Yc,Yj,Zf,Zk,Zx,Yd,Zj,Af,Ao,Ah,Aj,Ab];rw [AJ] at this;exact this
omit hl hm in
theorem u5k (out:List R6) (j:Nat) (x:Int) (h:j<out.length):u0c (out.set j ⟨(rd out j).a,(rd out j).b,(rd out j).c,(rd out j).d,(rd out j).e,x⟩) (j+1) x=u0c out j x:=by
 unfold u0c;rw [Yq h,AU];have e1:(out.set j ⟨(rd out j).a,(rd out j).b,(rd out j).c,(rd out j).d,(rd out j).e,x⟩).take (j+1)=out.take j++[⟨(rd out j).a,(rd out j).b,(rd out j).c,(rd out j).d,(rd out j).e,x⟩]:=by
  apply BH
  ·simp;omega
  ·intro n h1 h2;simp only [Bz,List.getElem_set];by_cases e:j=n
   ·subst e;rw [AL rfl,Bq (by simp only [List.length_take];omega)];simp
   ·rw [AF e,Bv (by simp at h1 ⊢;omega),Bz]
 have e2:(out.set j ⟨(rd out j).a,(rd out j).b,(rd out j).c,(rd out j).d,(rd out j).e,x⟩).drop (j+1)=out.drop (j+1):=by rw [List.drop_set];rw [AL (by omega)]
 rw [e1,e2,AJ];rfl
theorem u9b (last:List R4) (first:Int) (i:Nat) (hi:i+1<(Vq l m).length): ∀(k j:Nat) (out:List R6),j+k=out.length→out.length≤10000000000→
  ∃n,∀N,Zr (Vt kind l m) (N+n) (.to (.h2 out last first (i:Int) (j:Int)))=Zr (Vt kind l m) N (.to (.h0 (u0c out j (rd (Vq l m) (i+1))) last first ((i+1:Nat):Int)))
 | 0,j,out,h,ho=>by
  have hx:=Qj l m;have hl1:=hl.1;have hm1:=hm.1;refine ⟨1,fun N=> ?_⟩;have e:u0c out j (rd (Vq l m) (i+1))=out:=by
   grind [u0c]
  grind [Zw,Vt,Zk]
 | k+1,j,out,h,ho=>by
  have hx:=Qj l m;have hl1:=hl.1;have hm1:=hm.1;obtain ⟨n,hn⟩:=u9b last first i hi k (j+1) (out.set j ⟨(rd out j).a,(rd out j).b,(rd out j).c,(rd out j).d,(rd out j).e,rd (Vq l m) (i+1)⟩) (by simp;omega) (by grind)
  refine ⟨n+1,fun N=> ?_⟩;have:=hn N;rw [u5k out j _ (by omega)] at this;rw [←Ay,Zw];simp (disch:=omega) only [Vt,Zc,Zq,Yz,Zt,Yv,Yc,Yj,Zf,Zk,Zx,Yd,Zj,Af,Ao,Ah,Aj,Ab];exact this
theorem v4u : ∀(k i:Nat) (out:List R6) (last:List R4) (first:Nat),k=(Vq l m).length - 1 - i→i≤(Vq l m).length →out.length≤i*400→last.length≤400→first≤out.length→
  ∃n,Zr (Vt kind l m) n (.to (.h0 out last (first:Int) (i:Int)))=.ret (w2a (jsF kind l m k i out last first))
 | 0,i,out,last,first,h,hi,ho,hla,hf=>by
  have hx:=Qj l m;have hl1:=hl.1;have hm1:=hm.1;refine ⟨1,?_⟩
  grind [Zw,Vt,Zc,Zk,Zp,jsF,w2a]
 | k+1,i,out,last,first,h,hi,ho,hla,hf=>by
  have hx:=Qj l m;have hl1:=hl.1;have hm1:=hm.1;have hi1:i+1<(Vq l m).length :=by omega
  have hbig:i*400≤160000*400:=AA _ (by omega);have a1:=fun z=>hl.2 z;have a2:=fun z=>hm.2 z;have w1: ∀z,z6i l z=true:=fun z=>An (by omega);have w2: ∀z,z6i m z=true:=fun z=>An (by omega);have w3: ∀k z,z1t k (atV l z) (atV m z)=true:=fun k z=>An (by grind);have w4: ∀k z,z1t k (atV l z) ([]:List R4)=true:=fun k z=>An (by grind);have w5: ∀k z,z1t k (atV m z) ([]:List R4)=true:=fun k z=>An (by grind);unfold jsF;have eQ:y3a kind l m (rd (Vq l m) i)=joV kind (atV l (rd (Vq l m) i)) (atV m (rd (Vq l m) i)):=rfl;by_cases c1:400<(y3a kind l m (rd (Vq l m) i)).length
  ·refine ⟨1,?_⟩;have hb:z9b kind l m (rd (Vq l m) i)=true:=by grind [z9b]
   rw [hb,Ab,Zw];rw [eQ] at c1;simp (disch:=omega) only [Vt,Zc,Zq,Yz,Xv,Zt,Zk,Zx,Zj,w1,w2,w3,w4,w5,Ah,Ab,Zp,w2a]
  by_cases c2:400<(joV 2 (atV l (rd (Vq l m) i)) []).length
  ·refine ⟨1,?_⟩;have hb:z9b kind l m (rd (Vq l m) i)=true:=by grind [z9b]
   rw [hb,Ab,Zw];rw [eQ] at c1;simp (disch:=omega) only [Vt,Zc,Zq,Yz,Xv,Wk,Zt,Zk,Zx,Zj,w1,w2,w3,w4,w5,Ah,Ab,Aa,Zp,w2a]
  by_cases c3:400<(joV 2 (atV m (rd (Vq l m) i)) []).length
  ·refine ⟨1,?_⟩;have hb:z9b kind l m (rd (Vq l m) i)=true:=by grind [z9b]
   rw [hb,Ab,Zw];rw [eQ] at c1;simp (disch:=omega) only [Vt,Zc,Zq,Yz,Xv,Wk,Zt,Zk,Zx,Zj,w1,w2,w3,w4,w5,Ah,Ab,Aa,Zp,w2a]
  have hb:z9b kind l m (rd (Vq l m) i)=false:=by grind [z9b]
  rw [hb,Aa];have w6:We (joV kind (atV l (rd (Vq l m) i)) (atV m (rd (Vq l m) i))) last=true:=An (by grind);rcases Yp (decide (0<i)&&Ur (y3a kind l m (rd (Vq l m) i)) last) with q | q
  ·obtain ⟨n3,h3⟩:=u9b kind l m hl hm last first i hi1 (out.length - first) first out (by omega) (by omega)
   obtain ⟨n0,h0⟩:=v4u k (i+1) (u0c out first (rd (Vq l m) (i+1))) last first (by omega) (by omega) (by simp [u0c];omega) hla (by simp [u0c];omega)
   refine ⟨n0+n3+1,?_⟩;rw [q,Ab,Zw];simp only [Ae,As] at q;obtain ⟨q1,q2⟩:=q;rw [eQ] at c1 q2;simp (disch:=omega) only [Vt,Zc,Zq,Yz,Xv,Wk,Zt,Zk,Zx,Zj,w1,w2,w3,w4,w5,w6,q2,Ah,Ab,Aa]
   grind
  ·obtain ⟨n2,h2⟩:=u9c kind l m hl hm (y3a kind l m (rd (Vq l m) i)) (out.length:Int) i hi1 (y3a kind l m (rd (Vq l m) i)) (by omega) (y3a kind l m (rd (Vq l m) i)).length 0 out (Af _) (by omega);obtain ⟨n0,h0⟩:=v4u k (i+1) (out++j5l (rd (Vq l m) i) (rd (Vq l m) (i+1)) (y3a kind l m (rd (Vq l m) i))) (y3a kind l m (rd (Vq l m) i)) out.length (by omega) (by omega) (by simp [j5l];omega) (by omega) (by simp);refine ⟨n0+n2+1,?_⟩;rw [q,Aa,Zw];have h2':=h2 n0;simp only [AT,z7u] at h2';have c1':=c1;rw [eQ] at c1';by_cases hi0:0<i
   ·rw [An hi0,Aj,eQ] at q;simp (disch:=omega) only [Vt,Zc,Zq,Yz,Xv,Wk,Zt,Zk,Zx,Zj,w1,w2,w3,w4,w5,w6,q,Ah,Ab,Aa]
    grind
   ·simp (disch:=omega) only [Vt,Zc,Zq,Yz,Xv,Wk,Zt,Zk,Zx,Zj,w1,w2,w3,w4,w5,w6,Ah,Ab,Aa]
    grind
end
theorem j4l (kind:Int) (l m:List R6) (h:z9f kind l m=true): ∃N,Zr (Vt kind l m) N (y4i kind l m)=.ret (w2a (jsO kind l m)):=by obtain ⟨hl,hm⟩:=Jv h;have hl1:=hl.1;have hm1:=hm.1;obtain ⟨N,hN⟩:=v4u kind l m hl hm ((Vq l m).length - 1) 0 [] [] 0 rfl (AC _) (AC _) (AC _) (Aq _);refine ⟨N,?_⟩;have w1:z9s l m=true:=An ⟨by omega,by omega⟩;simp only [y4i,Zc,Zq,w1,Ab];exact hN
def fJs :List AVal→Option (AVal×Bool)
 | [.int .i64 x0,a1,a2]=>match asL R6 a1,asL R6 a2 with
  | some (L1,g1,n1),some (L2,g2,n2)=>some (.tup [.dat (z5h x0 L1 L2).length (Zz (z5h x0 L1 L2)),.bool (y8w x0 L1 L2)],isT R6 n1 g1&&(isT R6 n2 g2&&(z9f x0 L1 L2)))
  | _,_=>none
 | _=>none
theorem fJs_ok {S:Specs} (hS:Zu prog S):Zu prog (S.with j0p fJs):=by
 refine w6t hS (by kernel_rfl) fun args v h=> ?_;unfold fJs at h;split at h
 ·rename_i x0 a1 a2;split at h
  ·rename_i L1 g1 n1 L2 g2 n2 e1 e2;simp only [Ad,Ac,Ae] at h;obtain ⟨rfl,ho1,ho2,hw⟩:=h;obtain ⟨N,hN⟩:=j4l x0 L1 L2 hw;refine ⟨_,w2a (jsO x0 L1 L2),(.cons (.refl _) (.cons (Yh e1 ho1) (.cons (Yh e2 ho2) .nil))),?_,u2c x0 L1 L2 N _ hN,3,?_⟩
   ·unfold z5h y8w;cases jsO x0 L1 L2 with
    | none=>exact fun ρ u hu=>z6m (.cons (z7h R6) (RLe.refl _)) ρ u hu
    | some out=>exact fun ρ u hu=>hu
   ·cases jsO x0 L1 L2 <;> rfl
  ·cases h
 ·cases h
def T4 :Specs:=T3.with j0p fJs
theorem T4_ok :Zu prog T4:=fJs_ok y1v
open Go.Sort Go.Shelf Go.RowKit Go.Lib
def j9c (x:E3):List Value:=v1b x.1
theorem j9b (l:List R3) (h:y3c l=true):Go.Sort.flatK j9c 3 (x4w l h).toArray =Go.Sort.flatK v1b 3 l.toArray:=by
 have hl:=Qk l h;unfold Go.Sort.flatK;rw [show (x4w l h).toArray.size =l.toArray.size by simpa using hl];apply Array.ext
 ·simp
 ·intro t h1 h2;simp only [Array.getElem_map,Array.getElem_range];have ht:t<l.length*3:=by simpa using h1
  have hq:t / 3<l.length:=by omega
  congr 1
  rw [getElem!_pos (x4w l h).toArray (t / 3) (by simpa [hl] using hq),getElem!_pos l.toArray (t / 3) (by simpa using hq)];unfold j9c
  congr 1
  have:=y5j l h;have e:=AQ (fun z:List R3=>z[t / 3]?) this;simp only [List.getElem?_map] at e;rw [Au (by rw [hl];exact hq),Au hq] at e
  simpa using e
theorem u5b (d:Array E3):Go.Sort.flatK j9c 3 d=Go.Sort.flatK v1b 3 (d.toList.map Subtype.val).toArray :=by
 unfold Go.Sort.flatK;rw [show d.size=(d.toList.map Subtype.val).toArray.size by simp];apply Array.ext
 ·simp
 ·intro t h1 h2;simp only [Array.getElem_map,Array.getElem_range];have ht:t<d.size*3:=by simpa using h1
  have hq:t / 3<d.size:=by omega
  congr 1
  rw [getElem!_pos d (t / 3) hq,getElem!_pos (d.toList.map Subtype.val).toArray (t / 3) (by simpa using hq)];simp [j9c]
theorem z9d (l:List R3):x3t l.length (z2b (cvT l)).length =true:=Uy (by
 rw [Zc];by_cases h:y3c l=true
 ·exact (Qe l h).1.length_eq.symm
 ·unfold z2b;rw [dif_neg h])
theorem isAgg3 : ∀w,(isAgg (Tryz.sortEnd_ren.t 24)).run prog w=.ok true w:=fun w=>by rfl
theorem size3 : ∀w,(Go.sizeOf (Tryz.sortEnd_ren.t 24)).run prog w=.ok 3 w:=fun w=>by rfl
theorem v3m :x7y prog j0e (w6u R3 z2b y3c w5x):=by
 refine v8m (fun L=> ?_) (fun blk off cap L w hb hH eW hsz=> ?_) fun p cap fv w=>AnyF.slices_SortFunc_none Tryz.sortEnd p cap fv w
 ·by_cases h:y3c L=true
  ·exact (Qe L h).1.length_eq
  ·unfold z2b;rw [dif_neg h]
 ·have eg: ∀args w,(callFunc 194 args).run prog w=.ok (.enter 194 args) w:=enters_of Tryz.func194 (by kernel_rfl) rfl;have hcmp:CmpLays prog 194 #[] j9c 3 cf3 blk off (x4w L hb).toArray.size w:=fun m os dk _ x y=>by have hx:=Aw x.2;have hy:=Aw y.2;exact Tryz.cmpEnd x.1.a x.1.b x.1.c y.1.a y.1.b y.1.c hx hy _
  have hH':HoldsK j9c 3 w blk off (x4w L hb).toArray :=by unfold HoldsK;rw [j9b L hb];exact hH
  have hcon:=AnyQ.slices_SortFunc_eq Tryz.sortEnd 3 isAgg3 size3 j9c (fun x=>w3a x.1) (fun x v hv=>by
   obtain ⟨a,ha,rfl⟩:=AP.1 hv;have:w2c a=true:=At.1 (j1y.num x.1) a ha;cases a <;> first | rfl | (simp [w2c] at this;done)) cf3 swo3 194 #[] blk off cap (x4w L hb).toArray w eg hcmp hH' eW (by simpa [Qk] using hsz)
  have hs:(x4w L hb).toArray.size =L.length:=by simp [Qk]
  rw [hs] at hcon;refine Calls.mono hcon fun e w' ⟨he,n,os,hw⟩=>⟨he,n,os,?_⟩
  rw [hw];unfold sortWorldK putRowK;rw [u5b];unfold z2b;rw [dif_pos hb];rfl
def Xp (zs:List Int):List Int:=zs.mergeSort fun x y=>decide (x≤y)
theorem v3l :x7y prog nSort (fRow Xp):=
 j9d (fun zs=>List.length_mergeSort zs) (fun blk off cap zs w hH hb hz=>Tryz.slices_Sort_int blk off cap zs w hH hb hz) fun p cap w=>Tryz.slices_Sort_int_none p cap w
def Wu (zs:List Int):List Int:=compact zs++List.replicate (zs.length - (compact zs).length) 0
def v1h (zs:List Int):Nat:=(compact zs).length
theorem Vf (zs:List Int):(Wu zs).length =zs.length:=by have:=compact_length_le zs;simp [Wu];omega
theorem z0z (n:Nat) (c:Nat→Int):x3t n (Wu (Yu n c)).length =true:=Uy (by rw [Vf];simp [Yu])
theorem v7m (w:World):grow w #[]=w:=by simp [grow]
theorem w3k :x7y prog w5z (fCut Wu v1h):=
 j9e (fun zs=>by have:=compact_length_le zs;simp [Wu];omega) (fun zs=>compact_length_le zs)
  (fun blk off cap zs w hH hb hz dR=>(Tryz.slices_Compact_int blk off cap zs w hH (by omega) dR).mono fun e w' ⟨he,q,hw⟩=>⟨he,q, #[],by rw [hw,v7m];rfl⟩)
  fun p cap w=>Tryz.slices_Compact_int_empty p cap w
def T5 :Specs:=((T4.withE j0e (w6u R3 z2b y3c w5x)).withE nSort (fRow Xp)).withE w5z (fCut Wu v1h)
theorem z0p :Zu prog T5:=x2a (x2a (x2a T4_ok (by kernel_rfl) v3m) (by kernel_rfl) v3l) (by kernel_rfl) w3k
-- h2: index into an array (choices [true, true, false, false])
-- h2: index into an array (choices [true, false, true, false, false])
-- h2: index into an array (choices [true, false, false, true, true, false, false])
-- h2: index into an array (choices [true, false, false, true, false, false, false])
-- h2: index into an array (choices [true, false, false, false, false, false])
inductive spmS where
 | h0 (v8:Int)
 | h1 (v3:List R3) (v17:Int)
 | h2 (v5:List R3) (v6:Int) (v7:Int) (aC:Int) (bP:Int) (aX:Int) (aK:Bool) (aA:List R2)
abbrev Ui (aA:List R2) (aX:Int) (v5:List R3) (v7:Int):=(aA++[(R2.mk aX (rd v5 (0+(tn v7))).a)])
abbrev y2c (aA:List R2) (aX:Int) (v5:List R3) (v7:Int):=(Zo (Zz aA) 0 aA.length 2 [(ii aX),(ii (rd v5 (0+(tn v7))).a)])
abbrev y9m (v3:List R3) (l0:List R2) (v17:Int):=(v3++[(R3.mk (rd l0 (tn v17)).a 0 1),(R3.mk (rd l0 (tn v17)).b 0 (-1))])
def u6z (l0:List R2):AFr:=⟨⟨11,0,true⟩,(Vm prog 156 [1,1,1,0] 1),(Zb prog 156 [1,1,1,0] 1),none,(Zy prog 14),Yg [(9,(.dat l0.length (Zz l0)))]⟩
def spmC (l0:List R2):spmS→Cfg
 | .h0 v8=>⟨⟨19,0,true⟩,none,(Zb prog 191 [1,0,1,0,0] 0),none,(Zy prog 6),⟨Yg [(0,(.dat l0.length (Zz l0))),(1,(.fn 178 [])),(7,(ii (l0.length:Int))),(8,(ii v8))],Vj [] 0,0,[],true⟩,[⟨⟨9,0,true⟩,(Vm prog 177 [1,0] 2),(Zb prog 177 [1,0] 1),none,(Zy prog 6),Yg [(5,(.dat l0.length (Zz l0))),(6,(.fn 178 []))]⟩,⟨⟨11,0,true⟩,(Vm prog 156 [1,1,0,0] 1),(Zb prog 156 [1,1,0,0] 1),none,(Zy prog 14),Yg [(0,(.dat l0.length (Zz l0))),(7,(.dat l0.length (Zz l0)))]⟩],.leaf⟩
 | .h1 v3 v17=>⟨⟨38,0,true⟩,none,(Zb prog 184 [1,1,0,1,0,0,1,1,0,0,1,1,0,0] 0),none,(Zy prog 9),⟨Yg [(3,(.sla 7 3 0 v3.length (.un 3))),(4,(ii 0)),(8,(.sl 0 0 2 (.un 1))),(9,(ii 2)),(10,(ii 0)),(15,(.dat l0.length (Zz l0))),(16,(ii (l0.length:Int))),(17,(ii v17))],Vj [⟨[(.dat l0.length (Zz l0)),.nils],155,none⟩,⟨[(.fn 180 [])],167,none⟩,⟨[(ii 0),(ii 0)],222,none⟩,⟨[.nils],155,none⟩,⟨[(ii 0)],3,none⟩,⟨[(.bool false)],4,none⟩,⟨[(.fn 183 [(.ptr 5 0),(.ptr 4 0),(.ptr 3 0)])],223,none⟩,⟨Ym v3.length (Zz v3),227,some ⟨3,v3.length,(Zz v3)⟩⟩] 0,8,[],true⟩,[⟨⟨42,0,true⟩,(Vm prog 161 [1,1,1,1,1,0,0] 3),(Zb prog 161 [1,1,1,1,1,0,0] 1),none,(Zy prog 3),Yg [(5,(.ptr 1 0)),(6,.nils),(7,(.ptr 2 0)),(8,(.ptr 3 0)),(9,(.ptr 4 0)),(10,(.ptr 5 0)),(11,(.ptr 6 0)),(16,(.sl 0 0 2 (.un 1)))]⟩,(u6z l0)],.leaf⟩
 | .h2 v5 v6 v7 aC bP aX aK aA=>⟨⟨16,0,true⟩,none,(Zb prog 198 [1,0,0] 0),none,[],⟨Yg [(0,(.yld 0)),(5,(.sla 7 3 0 v5.length (.un 3))),(6,(ii v6)),(7,(ii v7))],z6q [(1,⟨[(.fn 180 [])],167,none⟩),(2,⟨[(ii aC),(ii bP)],222,none⟩),(3,⟨[(ii aX)],3,none⟩),(4,⟨[(.bool aK)],4,none⟩),(5,⟨[(.fn 183 [(.ptr 4 0),(.ptr 3 0),(.ptr 6 0)])],223,none⟩),(6,⟨[(.sla 8 2 0 aA.length (.un 2))],155,none⟩),(7,⟨Ym v5.length (Zz v5),227,some ⟨3,v5.length,(Zz v5)⟩⟩),(8,⟨Ym aA.length (Zz aA),176,some ⟨2,aA.length,(Zz aA)⟩⟩)],9,[],true⟩,[⟨⟨42,0,true⟩,none,(.inRangeFunc 0::(Zb prog 161 [1,1,1,1,1,0,1,0] 1)),none,(Zy prog 3),Yg [(6,.nils),(8,(.ptr 6 0))]⟩,(u6z l0)],(y2m [(0,⟨.ready,none,42,Yg [(5,(.ptr 1 0)),(7,(.ptr 2 0)),(9,(.ptr 3 0)),(10,(.ptr 4 0)),(11,(.ptr 5 0))],[18],(Wt prog 161 [1,1,1,1,1,0,1,0,0]),(Wt prog 161 [1,1,1,1,1,0,1,0,1])⟩)])⟩
def spmN0 :List (Option (List Nat)):=[some [0,1,7,8],some [5,6],some [0,7]]
def spmM0 :List (Option (List Nat)):=[]
def v3h :List (Option (List Nat)):=[some [3,4,8,9,10,15,16,17],some [5,6,7,8,9,10,11,16],some [9]]
def v3i :List (Option (List Nat)):=[]
def y5w :List (Option (List Nat)):=[some [0,5,6,7],some [6,8],some [9]]
def y5x :List (Option (List Nat)):=[some [5,7,9,10,11],none,none,none,none,none,none,none,none]
def Jx (l0:List R2):spmS→Xw spmS
 | .h0 v8=>(bif (decide (v8<(l0.length:Int))) then (bif ((decide (0≤v8∧v8<(l0.length:Int)))&&true) then (bif (decide ((rd l0 v8.toNat).a <(rd l0 v8.toNat).b)) then (bif (decide ((rd l0 v8.toNat).a ≥(-1000000))) then (bif (!(decide ((rd l0 v8.toNat).b ≤1000000))) then (bif (decide (v8≥0)) then (.ret [.nils,(.int .i64 8)]) else (.to (.h1 ([]:List R3) 0))) else (.to (.h0 (wrap .i64 (v8+1))))) else (bif (decide (v8≥0)) then (.ret [.nils,(.int .i64 8)]) else (.to (.h1 ([]:List R3) 0)))) else (bif (decide (v8≥0)) then (.ret [.nils,(.int .i64 8)]) else (.to (.h1 ([]:List R3) 0)))) else .stuck) else (.to (.h1 ([]:List R3) 0)))
 | .h1 v3 v17=>(bif (decide (v17<(l0.length:Int))) then (bif ((decide (0≤v17∧v17<(l0.length:Int)))&&true) then (bif (Nat.beq 3 3&&((decide (0+v3.length=v3.length))&&decide ((v3.length+2+1)*(24+1)≤room))) then (.to (.h1 (v3++[(R3.mk (rd l0 v17.toNat).a 0 1),(R3.mk (rd l0 v17.toNat).b 0 (-1))]) (wrap .i64 (v17+1)))) else .stuck) else .stuck) else (bif (y3c (cvT v3)) then (bif (decide (v3.length<4611686018427387904)) then (bif (decide (v3.length=v3.length)) then (.to (.h2 (z2b (cvT v3)) (v3.length:Int) 0 0 0 0 false ([]:List R2))) else .stuck) else .stuck) else .stuck))
 | .h2 v5 v6 v7 aC bP aX aK aA=>(bif (decide (v7<v6)) then (bif ((decide (0≤v7∧v7<(v5.length:Int)))&&true) then (bif (decide ((0+v7.toNat)<v5.length)) then (bif (!aK) then (bif (decide ((rd v5 (0+v7.toNat)).b =Int.ofNat 0)) then (.to (.h2 v5 v6 (wrap .i64 (v7+1)) (wrap .i64 (aC+(rd v5 (0+v7.toNat)).c)) bP (rd v5 (0+v7.toNat)).a (w6o (decide ((wrap .i64 (aC+(rd v5 (0+v7.toNat)).c))>0)) (decide (bP>0))) aA)) else (bif (decide ((rd v5 (0+v7.toNat)).b =Int.ofNat 1)) then (.to (.h2 v5 v6 (wrap .i64 (v7+1)) aC (wrap .i64 (bP+(rd v5 (0+v7.toNat)).c)) (rd v5 (0+v7.toNat)).a (w6o (decide (aC>0)) (decide ((wrap .i64 (bP+(rd v5 (0+v7.toNat)).c))>0))) aA)) else .stuck)) else (bif (aX == (rd v5 (0+v7.toNat)).a) then (bif (decide ((rd v5 (0+v7.toNat)).b =Int.ofNat 0)) then (.to (.h2 v5 v6 (wrap .i64 (v7+1)) (wrap .i64 (aC+(rd v5 (0+v7.toNat)).c)) bP (rd v5 (0+v7.toNat)).a (w6o (decide ((wrap .i64 (aC+(rd v5 (0+v7.toNat)).c))>0)) (decide (bP>0))) aA)) else (bif (decide ((rd v5 (0+v7.toNat)).b =Int.ofNat 1)) then (.to (.h2 v5 v6 (wrap .i64 (v7+1)) aC (wrap .i64 (bP+(rd v5 (0+v7.toNat)).c)) (rd v5 (0+v7.toNat)).a (w6o (decide (aC>0)) (decide ((wrap .i64 (bP+(rd v5 (0+v7.toNat)).c))>0))) aA)) else .stuck)) else (bif (decide ((aA.length:Int)>0)) then (bif ((decide (0≤(wrap .i64 ((aA.length:Int) - 1))∧(wrap .i64 ((aA.length:Int) - 1))<(aA.length:Int)))&&true) then (bif (decide ((0+(Int.toNat (wrap .i64 ((aA.length:Int) - 1))))<aA.length)) then (bif ((rd aA (0+(Int.toNat (wrap .i64 ((aA.length:Int) - 1))))).b == aX) then (bif (decide ((rd v5 (0+v7.toNat)).b =Int.ofNat 0)) then (.to (.h2 v5 v6 (wrap .i64 (v7+1)) (wrap .i64 (aC+(rd v5 (0+v7.toNat)).c)) bP (rd v5 (0+v7.toNat)).a (w6o (decide ((wrap .i64 (aC+(rd v5 (0+v7.toNat)).c))>0)) (decide (bP>0))) (aA.set (0+(Int.toNat (wrap .i64 ((aA.length:Int) - 1)))) (R2.mk (rd aA (0+(Int.toNat (wrap .i64 ((aA.length:Int) - 1))))).a (rd v5 (0+v7.toNat)).a)))) else (bif (decide ((rd v5 (0+v7.toNat)).b =Int.ofNat 1)) then (.to (.h2 v5 v6 (wrap .i64 (v7+1)) aC (wrap .i64 (bP+(rd v5 (0+v7.toNat)).c)) (rd v5 (0+v7.toNat)).a (w6o (decide (aC>0)) (decide ((wrap .i64 (bP+(rd v5 (0+v7.toNat)).c))>0))) (aA.set (0+(Int.toNat (wrap .i64 ((aA.length:Int) - 1)))) (R2.mk (rd aA (0+(Int.toNat (wrap .i64 ((aA.length:Int) - 1))))).a (rd v5 (0+v7.toNat)).a)))) else .stuck)) else (bif (Nat.beq 2 2&&((decide (0+aA.length=aA.length))&&decide ((aA.length+1+1)*(16+1)≤room))) then (bif (decide ((rd v5 (0+v7.toNat)).b =Int.ofNat 0)) then (.to (.h2 v5 v6 (wrap .i64 (v7+1)) (wrap .i64 (aC+(rd v5 (0+v7.toNat)).c)) bP (rd v5 (0+v7.toNat)).a (w6o (decide ((wrap .i64 (aC+(rd v5 (0+v7.toNat)).c))>0)) (decide (bP>0))) (aA++[(R2.mk aX (rd v5 (0+v7.toNat)).a)]))) else (bif (decide ((rd v5 (0+v7.toNat)).b =Int.ofNat 1)) then (.to (.h2 v5 v6 (wrap .i64 (v7+1)) aC (wrap .i64 (bP+(rd v5 (0+v7.toNat)).c)) (rd v5 (0+v7.toNat)).a (w6o (decide (aC>0)) (decide ((wrap .i64 (bP+(rd v5 (0+v7.toNat)).c))>0))) (aA++[(R2.mk aX (rd v5 (0+v7.toNat)).a)]))) else .stuck)) else .stuck)) else .stuck) else .stuck) else (bif (Nat.beq 2 2&&((decide (0+aA.length=aA.length))&&decide ((aA.length+1+1)*(16+1)≤room))) then (bif (decide ((rd v5 (0+v7.toNat)).b =Int.ofNat 0)) then (.to (.h2 v5 v6 (wrap .i64 (v7+1)) (wrap .i64 (aC+(rd v5 (0+v7.toNat)).c)) bP (rd v5 (0+v7.toNat)).a (w6o (decide ((wrap .i64 (aC+(rd v5 (0+v7.toNat)).c))>0)) (decide (bP>0))) (aA++[(R2.mk aX (rd v5 (0+v7.toNat)).a)]))) else (bif (decide ((rd v5 (0+v7.toNat)).b =Int.ofNat 1)) then (.to (.h2 v5 v6 (wrap .i64 (v7+1)) aC (wrap .i64 (bP+(rd v5 (0+v7.toNat)).c)) (rd v5 (0+v7.toNat)).a (w6o (decide (aC>0)) (decide ((wrap .i64 (bP+(rd v5 (0+v7.toNat)).c))>0))) (aA++[(R2.mk aX (rd v5 (0+v7.toNat)).a)]))) else .stuck)) else .stuck)))) else .stuck) else .stuck) else (.ret [(.dat aA.length (Zz aA)),(.int .i64 0)]))
def y3p (l0:List R2):Xw spmS:=(bif (decide ((l0.length:Int)>400)) then (.ret [.nils,(.int .i64 4)]) else (.to (.h0 0)))
theorem w7x (l0:List R2): ∀s,Yt prog (Zy prog 156) (spmC l0) (spmC l0 s) (Jx l0 s)
 | .h0 v8=>(lb (fun k0=>(lo fun aJ=>(lb (fun k1=>(lb (fun k2=>(lb (fun k3=>(lb (fun k4=>(lr 11 156 [1,1,0,1,0,0] 1 14 [(2,.nils),(3,(ii 8))] (sl z0p 79 [] ⟨[],[],[some [2,3]],[]⟩ ⟨[],[],[]⟩ (trs 9 []) (tt k4 (tt k3 (tt k2 (tt k1 (ww aJ (tt k0 nn))))))))) (fun k4=>(sl z0p 154 [(227,3,Zz ([]:List R3))] ⟨[8,2,3,4,5,6,7,9],[],v3h,v3i⟩ ⟨[(3,.grow 7 3)],[],[]⟩ (trs 8 (bl 2 2)) (pp (fl ([]:List R3) nn) (tt k4 (tt k3 (tt k2 (tt k1 (ww aJ (tt k0 nn))))))))))) (fun k3=>(sl z0p 69 [] ⟨[],[],spmN0,spmM0⟩ ⟨[],[],[]⟩ (trs 7 [false]) (tt k3 (tt k2 (tt k1 (ww aJ (tt k0 nn))))))))) (fun k2=>(lb (fun k3=>(lr 11 156 [1,1,0,1,0,0] 1 14 [(2,.nils),(3,(ii 8))] (sl z0p 79 [] ⟨[],[],[some [2,3]],[]⟩ ⟨[],[],[]⟩ (trs 4 (bl 5 24)) (tt k3 (tt k2 (tt k1 (ww aJ (tt k0 nn)))))))) (fun k3=>(sl z0p 154 [(227,3,Zz ([]:List R3))] ⟨[8,2,3,4,5,6,7,9],[],v3h,v3i⟩ ⟨[(3,.grow 7 3)],[],[]⟩ (trs 4 (bl 6 40)) (pp (fl ([]:List R3) nn) (tt k3 (tt k2 (tt k1 (ww aJ (tt k0 nn)))))))))))) (fun k1=>(lb (fun k2=>(lr 11 156 [1,1,0,1,0,0] 1 14 [(2,.nils),(3,(ii 8))] (sl z0p 79 [] ⟨[],[],[some [2,3]],[]⟩ ⟨[],[],[]⟩ (bl 9 385) (tt k2 (tt k1 (ww aJ (tt k0 nn))))))) (fun k2=>(sl z0p 154 [(227,3,Zz ([]:List R3))] ⟨[8,2,3,4,5,6,7,9],[],v3h,v3i⟩ ⟨[(3,.grow 7 3)],[],[]⟩ (bl 10 641) (pp (fl ([]:List R3) nn) (tt k2 (tt k1 (ww aJ (tt k0 nn)))))))))))) (fun k0=>(sl z0p 98 [(227,3,Zz ([]:List R3))] ⟨[6,0,1,2,3,4,5,7],[],v3h,v3i⟩ ⟨[(3,.grow 7 3)],[],[]⟩ (bl 3 4) (pp (fl ([]:List R3) nn) (tt k0 nn)))))
 | .h1 v3 v17=>(lb (fun k0=>(lo fun o0=>(lo fun o1=>(sl z0p 36 [] ⟨[0,1,2,3,4,5,6,10],[],v3h,v3i⟩ ⟨[(3,.len (y9m v3 l0 v17).length)],(kpB 7 [.rowed 3 (y9m v3 l0 v17).length (Zz (y9m v3 l0 v17))]),[]⟩ [true] (pp (xL (v3.length+2) (y9m v3 l0 v17).length) (pp (xL (v3.length+2) (y9m v3 l0 v17).length) (pp (xS (v3.length+2) (Zo (Zz v3) 0 v3.length 3 [(ii (rd l0 (tn v17)).a),(ii 0),(ii 1),(ii (rd l0 (tn v17)).b),(ii 0),(ii (-1))]) (Zz (y9m v3 l0 v17))) (pp (pp (xF (Zo (Zz v3) 0 v3.length 3 [(ii (rd l0 (tn v17)).a),(ii 0),(ii 1),(ii (rd l0 (tn v17)).b),(ii 0),(ii (-1))])) nn) (ww o1 (ww o0 (tt k0 nn))))))))))) (fun k0=>(lo fun o0=>(lo fun o1=>(lo fun o2=>(sl z0p 92 [(176,2,Zz ([]:List R2))] ⟨[9,1,2,4,5,6,3,7,10],[],y5w,y5x⟩ ⟨[(5,.len (z2b (cvT v3)).length)],(kpB 6 [.cells [.grow 8 2],.rowed 3 (z2b (cvT v3)).length (Zz (z2b (cvT v3))),.keep]),[]⟩ (bl 4 2) (pp (xL v3.length (z2b (cvT v3)).length (by first | exact z9d _ | exact Uy rfl)) (pp (xL v3.length (z2b (cvT v3)).length (by first | exact z9d _ | exact Uy rfl)) (pp (xS v3.length (Zz (z2b (cvT v3))) (Zz (z2b (cvT v3)))) (pp (fl (z2b (cvT v3)) (fl ([]:List R2) nn)) (pp (pp (xG (Nat.beq 3 3)) (pp (xG (Nat.beq 3 3)) (pp (xG (Nat.beq 0 0)) (pp (pp (xG (decide (v3.length=v3.length))) (pp (xr v3) (xG (decide (v3.length<4611686018427387904))))) (xG (y3c (cvT v3))))))) (tt k0 nn))))))))))))
 | .h2 v5 v6 v7 aC bP aX aK aA=>(lb (fun k0=>(lo fun aJ=>(lo fun bC=>(lb (fun k1=>(lb (fun k2=>(sl z0p 62 [] ⟨(List.range 9),[],y5w,y5x⟩ ⟨[],[],[]⟩ (trs 5 (bl 3 0)) (pp (fl v5 (fl aA nn)) (ww k2 (tt k1 (ww bC (ww aJ (tt k0 nn)))))))) (fun k2=>(lb (fun k3=>(sl z0p 62 [] ⟨(List.range 9),[],y5w,y5x⟩ ⟨[],[],[]⟩ (trs 6 (bl 4 2)) (pp (fl v5 (fl aA nn)) (ww k3 (tt k1 (ww bC (ww aJ (tt k0 nn)))))))) (fun k3=>trivial))))) (fun k1=>(lb (fun k2=>(lb (fun k3=>(sl z0p 62 [] ⟨(List.range 9),[],y5w,y5x⟩ ⟨[],[],[]⟩ (bl 8 17) (pp (fl v5 (fl aA nn)) (ww k3 (tt k2 (tt k1 (ww bC (ww aJ (tt k0 nn))))))))) (fun k3=>(lb (fun k4=>(sl z0p 62 [] ⟨(List.range 9),[],y5w,y5x⟩ ⟨[],[],[]⟩ (bl 10 177) (pp (fl v5 (fl aA nn)) (ww k4 (tt k2 (tt k1 (ww bC (ww aJ (tt k0 nn))))))))) (fun k4=>trivial))))) (fun k2=>(lb (fun k3=>(lo fun cD=>(lo fun dD=>(lb (fun k4=>(lb (fun k5=>(sl z0p 81 [] ⟨(List.range 9),[],y5w,y5x⟩ ⟨[],(kpB 6 [.cells [.len (aA.set (0+(tn (wr ((aA.length:Int) - 1)))) (R2.mk (rd aA (0+(tn (wr ((aA.length:Int) - 1))))).a (rd v5 (0+(tn v7))).a)).length],.keep,.rowed 2 (aA.set (0+(tn (wr ((aA.length:Int) - 1)))) (R2.mk (rd aA (0+(tn (wr ((aA.length:Int) - 1))))).a (rd v5 (0+(tn v7))).a)).length (Zz (aA.set (0+(tn (wr ((aA.length:Int) - 1)))) (R2.mk (rd aA (0+(tn (wr ((aA.length:Int) - 1))))).a (rd v5 (0+(tn v7))).a)))]),[]⟩ (bl 17 16353) (pp (xL aA.length (aA.set (0+(tn (wr ((aA.length:Int) - 1)))) (R2.mk (rd aA (0+(tn (wr ((aA.length:Int) - 1))))).a (rd v5 (0+(tn v7))).a)).length) (pp (xL aA.length (aA.set (0+(tn (wr ((aA.length:Int) - 1)))) (R2.mk (rd aA (0+(tn (wr ((aA.length:Int) - 1))))).a (rd v5 (0+(tn v7))).a)).length) (pp (xS aA.length (Xt (Zz aA) (0+(tn (wr ((aA.length:Int) - 1)))) 1 [(ii (rd v5 (0+(tn v7))).a)]) (Zz (aA.set (0+(tn (wr ((aA.length:Int) - 1)))) (R2.mk (rd aA (0+(tn (wr ((aA.length:Int) - 1))))).a (rd v5 (0+(tn v7))).a)))) (pp (fl v5 (pp (xF (Xt (Zz aA) (0+(tn (wr ((aA.length:Int) - 1)))) 1 [(ii (rd v5 (0+(tn v7))).a)])) nn)) (ww k5 (ww dD (ww cD (tt k4 (ww dD (ww cD (tt k3 (tt k2 (tt k1 (ww bC (ww aJ (tt k0 nn)))))))))))))))))) (fun k5=>(lb (fun k6=>(sl z0p 81 [] ⟨(List.range 9),[],y5w,y5x⟩ ⟨[],(kpB 6 [.cells [.len (aA.set (0+(tn (wr ((aA.length:Int) - 1)))) (R2.mk (rd aA (0+(tn (wr ((aA.length:Int) - 1))))).a (rd v5 (0+(tn v7))).a)).length],.keep,.rowed 2 (aA.set (0+(tn (wr ((aA.length:Int) - 1)))) (R2.mk (rd aA (0+(tn (wr ((aA.length:Int) - 1))))).a (rd v5 (0+(tn v7))).a)).length (Zz (aA.set (0+(tn (wr ((aA.length:Int) - 1)))) (R2.mk (rd aA (0+(tn (wr ((aA.length:Int) - 1))))).a (rd v5 (0+(tn v7))).a)))]),[]⟩ (bl 19 98273) (pp (xL aA.length (aA.set (0+(tn (wr ((aA.length:Int) - 1)))) (R2.mk (rd aA (0+(tn (wr ((aA.length:Int) - 1))))).a (rd v5 (0+(tn v7))).a)).length) (pp (xL aA.length (aA.set (0+(tn (wr ((aA.length:Int) - 1)))) (R2.mk (rd aA (0+(tn (wr ((aA.length:Int) - 1))))).a (rd v5 (0+(tn v7))).a)).length) (pp (xS aA.length (Xt (Zz aA) (0+(tn (wr ((aA.length:Int) - 1)))) 1 [(ii (rd v5 (0+(tn v7))).a)]) (Zz (aA.set (0+(tn (wr ((aA.length:Int) - 1)))) (R2.mk (rd aA (0+(tn (wr ((aA.length:Int) - 1))))).a (rd v5 (0+(tn v7))).a)))) (pp (fl v5 (pp (xF (Xt (Zz aA) (0+(tn (wr ((aA.length:Int) - 1)))) 1 [(ii (rd v5 (0+(tn v7))).a)])) nn)) (ww k6 (ww dD (ww cD (tt k4 (ww dD (ww cD (tt k3 (tt k2 (tt k1 (ww bC (ww aJ (tt k0 nn)))))))))))))))))) (fun k6=>trivial))))) (fun k4=>(lo fun cT=>(lb (fun k5=>(sl z0p 81 [] ⟨[0,1,2,3,4,5,6,7,12],[],y5w,y5x⟩ ⟨[],(kpB 6 [.cells [.len (Ui aA aX v5 v7).length],.keep,.rowed 2 (Ui aA aX v5 v7).length (Zz (Ui aA aX v5 v7))]),[]⟩ (bl 17 8161) (pp (xL (aA.length+1) (Ui aA aX v5 v7).length) (pp (xL (aA.length+1) (Ui aA aX v5 v7).length) (pp (xS (aA.length+1) (y2c aA aX v5 v7) (Zz (Ui aA aX v5 v7))) (pp (fl v5 (pp (xF (y2c aA aX v5 v7)) nn)) (ww k5 (ww cT (tt k4 (ww dD (ww cD (tt k3 (tt k2 (tt k1 (ww bC (ww aJ (tt k0 nn))))))))))))))))) (fun k5=>(lb (fun k6=>(sl z0p 81 [] ⟨[0,1,2,3,4,5,6,7,12],[],y5w,y5x⟩ ⟨[],(kpB 6 [.cells [.len (Ui aA aX v5 v7).length],.keep,.rowed 2 (Ui aA aX v5 v7).length (Zz (Ui aA aX v5 v7))]),[]⟩ (bl 19 90081) (pp (xL (aA.length+1) (Ui aA aX v5 v7).length) (pp (xL (aA.length+1) (Ui aA aX v5 v7).length) (pp (xS (aA.length+1) (y2c aA aX v5 v7) (Zz (Ui aA aX v5 v7))) (pp (fl v5 (pp (xF (y2c aA aX v5 v7)) nn)) (ww k6 (ww cT (tt k4 (ww dD (ww cD (tt k3 (tt k2 (tt k1 (ww bC (ww aJ (tt k0 nn))))))))))))))))) (fun k6=>trivial)))))))))) (fun k3=>(lo fun cD=>(lb (fun k4=>(sl z0p 81 [] ⟨[0,1,2,3,4,5,6,7,12],[],y5w,y5x⟩ ⟨[],(kpB 6 [.cells [.len (Ui aA aX v5 v7).length],.keep,.rowed 2 (Ui aA aX v5 v7).length (Zz (Ui aA aX v5 v7))]),[]⟩ (bl 17 1) (pp (xL (aA.length+1) (Ui aA aX v5 v7).length) (pp (xL (aA.length+1) (Ui aA aX v5 v7).length) (pp (xS (aA.length+1) (y2c aA aX v5 v7) (Zz (Ui aA aX v5 v7))) (pp (fl v5 (pp (xF (y2c aA aX v5 v7)) nn)) (ww k4 (ww cD (tt k3 (tt k2 (tt k1 (ww bC (ww aJ (tt k0 nn)))))))))))))) (fun k4=>(lb (fun k5=>(sl z0p 81 [] ⟨[0,1,2,3,4,5,6,7,12],[],y5w,y5x⟩ ⟨[],(kpB 6 [.cells [.len (Ui aA aX v5 v7).length],.keep,.rowed 2 (Ui aA aX v5 v7).length (Zz (Ui aA aX v5 v7))]),[]⟩ (bl 19 81921) (pp (xL (aA.length+1) (Ui aA aX v5 v7).length) (pp (xL (aA.length+1) (Ui aA aX v5 v7).length) (pp (xS (aA.length+1) (y2c aA aX v5 v7) (Zz (Ui aA aX v5 v7))) (pp (fl v5 (pp (xF (y2c aA aX v5 v7)) nn)) (ww k5 (ww cD (tt k3 (tt k2 (tt k1 (ww bC (ww aJ (tt k0 nn)))))))))))))) (fun k5=>trivial)))))))))))))) (fun k0=>(lr 11 3 [1,1,1,1,0] 1 14 [(2,(.dat aA.length (Zz aA))),(3,(ii 0))] (sl z0p 19 [] ⟨[],[8],[some [2,3]],[]⟩ ⟨[(2,.frz aA.length aA.length (Zz aA) (Zz aA))],[],[]⟩ [false] (pp (xZ (z6e 2 2 0 aA.length aA.length (Zz aA)) aA.length (Zz aA)) (pp (xL aA.length aA.length) (pp (xS aA.length (Zz aA) (Zz aA)) (pp (fl aA nn) (tt k0 nn)))))))))
theorem x8x (l0:List R2):Yt prog (Zy prog 156) (spmC l0) (Zg prog 156 [(.dat l0.length (Zz l0))] true []) (y3p l0):=(lb (fun k0=>(lr 11 156 [1,0,1,0,0] 1 14 [(2,.nils),(3,(ii 4))] (sl z0p 18 [] ⟨[],[],[some [2,3]],[]⟩ ⟨[],[],[]⟩ [true] (tt k0 nn)))) (fun k0=>(sl z0p 41 [] ⟨[],[],spmN0,spmM0⟩ ⟨[],[],[]⟩ [false] (tt k0 nn))))
theorem u0o (l0:List R2) (n:Nat) (vs:List AVal) (h:Zr (Jx l0) n (y3p l0)=.ret vs):Jy prog (Zy prog 156) (Zg prog 156 [(.dat l0.length (Zz l0))] true []) vs:=by have:=Zd (w7x l0) n _ (x8x l0);rwa [h] at this
def z1h (s:R2):Bool:=decide (s.a<s.b)&&(decide (s.a≥ -1000000)&&decide (s.b≤1000000))
def Qr (l:List R2):List R3:=l.flatMap fun s=>[⟨s.a,0,1⟩,⟨s.b,0,-1⟩]
def Uk (out:List R2) (last:Int) (inn:Bool) (at':Int):List R2:=
 bif !inn then out else bif last == at' then out else
 bif decide (0<out.length)&&((rd out (out.length - 1)).b == last) then out.set (out.length - 1) ⟨(rd out (out.length - 1)).a,at'⟩ else out++[⟨last,at'⟩]
def swF :List R3→Int→Int→Bool→List R2→List R2
 | [],_,_,_,out=>out
 | e::r,o,last,inn,out=>swF r (o+e.c) e.a (decide (o+e.c>0)) (Uk out last inn e.a)
def swV (l:List R2):List R2:=swF (z2b (Qr l)) 0 0 false []
def Xn (l:List R2):List R2:=bif decide (400<l.length) then [] else bif l.all z1h then swV l else []
def u7a (l:List R2):Int:=bif decide (400<l.length) then 4 else bif l.all z1h then 0 else 8
def y5v (l:List R2):Bool:=true
def x5f (l:List R2):List AVal:=bif decide (400<l.length) then [.nils,.int .i64 4] else bif l.all z1h then [.dat (swV l).length (Zz (swV l)),.int .i64 0] else [.nils,.int .i64 8]
theorem z5l (l:List R2):(Qr l).length =2*l.length:=by
 induction l with
 | nil=>rfl
 | cons r l ih=>grind [Qr]
theorem z3s (out:List R2) (last:Int) (inn:Bool) (a:Int):(Uk out last inn a).length ≤out.length+1:=by
 grind [Uk]
theorem y3m (e:R3) (r:List R3) (o last:Int) (inn:Bool) (out:List R2):swF (e::r) o last inn out=swF r (o+e.c) e.a (decide (o+e.c>0)) (Uk out last inn e.a):=rfl
theorem j5q {a:Int} (k:Nat) (h:a=(k:Int)):decide (a=Int.ofNat k)=true:=by grind
section
variable (l:List R2) (hl:l.length≤400)
include hl
theorem u6w (L:List R3) (hL:L.length≤800) (hE: ∀i,i<L.length→(rd L i).b =0∧((rd L i).c =1∨(rd L i).c = -1)): ∀(k i:Nat) (o last:Int) (inn:Bool) (out:List R2),i+k=L.length→ -(i:Int)≤o→o≤i→out.length≤i→
  ∃n,Zr (Jx l) n (.to (.h2 L (L.length:Int) (i:Int) o 0 last inn out))=.ret [.dat (swF (L.drop i) o last inn out).length (Zz (swF (L.drop i) o last inn out)),.int .i64 0]
 | 0,i,o,last,inn,out,h,ho1,ho2,hout=>by
  have _uhl:=hl;refine ⟨1,?_⟩
  grind [Zw,Jx,Zp,swF]
 | k +1,i,o,last,inn,out,h,ho1,ho2,hout=>by
  obtain ⟨hb,hc⟩:=hE i (by omega);have hcl:=z3s out last inn (rd L i).a;obtain ⟨n,hn⟩:=u6w L hL hE k (i+1) (o+(rd L i).c) (rd L i).a (decide (o+(rd L i).c >0)) (Uk out last inn (rd L i).a) (by omega) (by grind) (by grind) (by omega);refine ⟨n+1,?_⟩;rw [Yq (show i<L.length by omega),Zw];have hf: ∀b,w6o b (decide ((0:Int)>0))=b:=fun b=>rfl;have hw:wrap .i64 (o+(rd L i).c)=o+(rd L i).c :=Zk (by grind);rw [y3m];have hf': ∀b,w6o b false=b:=fun b=>rfl;have hz:=j5q 0 hb;unfold Uk at hn ⊢;cases inn with
  | false=>simp only [AE,Ab] at hn ⊢;simp (disch:=omega) only [Jx,AE,hz,hw,hf,hf',Yz,Zt,Yv,Zk,Zx,Zj,Af,Ah,Ab];exact hn
  | true=>
   simp only [Az,Aa] at hn ⊢;rcases Yp (last == (rd L i).a) with q | q
   ·rw [q] at hn ⊢;simp only [Ab] at hn ⊢;simp (disch:=omega) only [Jx,Az,q,hz,hw,hf,hf',Yz,Zt,Yv,Zk,Zx,Zj,Af,Ah,Ab,Aa];exact hn
   ·rw [q] at hn ⊢;simp only [Aa] at hn ⊢;by_cases h0:0<out.length
    ·rw [An h0,Aj] at hn ⊢;rcases Yp ((rd out (out.length - 1)).b == last) with q2 | q2
     ·rw [q2] at hn ⊢;simp only [Ab] at hn ⊢;simp (disch:=omega) only [Jx,Az,q,q2,hz,hw,hf,hf',Yz,Xv,Zt,Yv,Zk,Zx,Zj,Zh,Af,Ah,Ab,Aa];exact hn
     ·rw [q2] at hn ⊢;simp only [Aa] at hn ⊢;simp (disch:=omega) only [Jx,Az,q,q2,hz,hw,hf,hf',Yz,Xv,Zt,Yv,Yj,Zf,Yd,Ao,Zk,Zx,Zj,Zh,Af,Ah,Aj,Ab,Aa];exact hn
    ·rw [AB h0,Bc] at hn ⊢;simp only [Aa] at hn ⊢;simp (disch:=omega) only [Jx,Az,q,hz,hw,hf,hf',Yz,Wk,Zt,Yv,Yj,Zf,Yd,Ao,Zk,Zx,Zj,Af,Ah,Aj,Ab,Aa];exact hn
theorem v8l (h:l.all z1h=true): ∀e∈Qr l,bnd3 e=true∧e.b=0∧(e.c=1∨e.c= -1):=by
 have _uhl:=hl;intro e he;obtain ⟨s,hs,h1⟩:=AK.1 he;have hv:=At.1 h s hs;simp only [z1h,Ae,As] at hv;simp only [AI,Bm,BU] at h1;rcases h1 with rfl | rfl
 ·exact ⟨An (by grind),rfl,.inl rfl⟩
 ·exact ⟨An (by grind),rfl,.inr rfl⟩
theorem u6x (hv:l.all z1h=true): ∀(k i:Nat) (acc:List R3),i+k=l.length→acc=Qr (l.take i)→ ∃n,Zr (Jx l) n (.to (.h1 acc (i:Int)))=.ret [.dat (swV l).length (Zz (swV l)),.int .i64 0]
 | 0,i,acc,h,ha=>by
  have e:acc=Qr l:=by grind
  subst e;have hle:=z5l l;have eR:=v8l l hl hv;have hb:y3c (Qr l)=true:=At.2 fun e he=>(eR e he).1;obtain ⟨hp,_⟩:=Qe (Qr l) hb;have hpl:=hp.length_eq;obtain ⟨n,hn⟩:=u6w l hl (z2b (Qr l)) (by omega) (fun i hi=>by
   grind [Yo]) (z2b (Qr l)).length 0 0 0 false [] (Af _) (by omega) (by omega) (AC _)
  refine ⟨n+1,?_⟩;rw [Zw];simp (disch:=omega) only [Jx,Zc,Zq,hb,Yf,Yv,Yj,Ao,Ab,Aa];rw [←hpl];simp only [z7u,AT] at hn;exact hn
 | k+1,i,acc,h,ha=>by
  have hle:=z5l (l.take i);have hacc:acc.length≤2*i:=by grind
  obtain ⟨n,hn⟩:=u6x hv k (i+1) (acc++Qr [rd l i]) (by omega) (by
   rw [ha,AY]
   grind [Yo,Qr])
  refine ⟨n+1,?_⟩;rw [Zw];simp (disch:=omega) only [Jx,Yz,Zt,Yc,Yj,Zf,Yd,Ao,Zk,Zx,Zj,Af,Ah,Aj,Ab];exact hn
theorem u6y : ∀(k i:Nat),i+k=l.length→(∀s∈l.take i,z1h s=true)→ ∃n,Zr (Jx l) n (.to (.h0 (i:Int)))=.ret (bif l.all z1h then [.dat (swV l).length (Zz (swV l)),.int .i64 0] else [.nils,.int .i64 8])
 | 0,i,h,ht=>by
  have hv:l.all z1h=true:=At.2 fun s hs=>ht s (by grind);obtain ⟨n,hn⟩:=u6x l hl hv l.length 0 [] (Af _) rfl;refine ⟨n+1,?_⟩
  grind [Zw,Jx]
 | k+1,i,h,ht=>by
  have hi:i<l.length:=by omega
  rcases Yp (z1h (rd l i)) with q | q
  ·obtain ⟨n,hn⟩:=u6y k (i+1) (by omega) (fun s hs=>by
    rw [AY] at hs
    grind [Yo])
   refine ⟨n+1,?_⟩
   grind [Zw,z1h,Jx,Zk]
  ·have hv:l.all z1h=false:=A2.2 fun e=>by
    grind [Yo]
   refine ⟨1,?_⟩;rw [Zw,hv,Aa];unfold z1h at q;rcases Yp (decide ((rd l i).a <(rd l i).b)) with q1 | q1 <;> rcases Yp (decide ((rd l i).a ≥ -1000000)) with q2 | q2 <;> rcases Yp (decide ((rd l i).b ≤1000000)) with q3 | q3 <;>
    rw [q1,q2,q3] at q <;> first
    | (exfalso;revert q;decide)
    | simp (disch:=omega) only [Jx,q1,q2,q3,Yz,dge_t,Zt,Zk,Zx,Zj,Az,AE,Ah,Ab,Aa,Zp]
end
theorem j2x (l:List R2): ∃n,Zr (Jx l) n (y3p l)=.ret (x5f l):=by
 unfold y3p x5f;by_cases h:400<l.length
 ·refine ⟨0,?_⟩;rw [An h,Xv (show (l.length:Int)>400 by omega)];rfl
 ·obtain ⟨n,hn⟩:=u6y l (by omega) l.length 0 (Af _) (fun s hs=>by simp at hs)
  grind
def fSpm :List AVal→Option (AVal×Bool)
 | [a1]=>match asL R2 a1 with
  | some (L1,g1,n1)=>some (.tup [.dat (Xn L1).length (Zz (Xn L1)),.int .i64 (u7a L1)],isT R2 n1 g1&&y5v L1)
  | _=>none
 | _=>none
theorem j7m {S:Specs} (hS:Zu prog S):Zu prog (S.with x6g fSpm):=by
 refine w6t hS (by kernel_rfl) fun args v h=> ?_;unfold fSpm at h;split at h
 ·rename_i a1;split at h
  ·rename_i L1 g1 n1 e1;simp only [Ad,Ac,Ae] at h;obtain ⟨rfl,ho1,hw⟩:=h;obtain ⟨N,hN⟩:=j2x L1;refine ⟨_,x5f L1,(.cons (Yh e1 ho1) .nil),?_,u0o L1 N _ hN,3,?_⟩
   ·unfold Xn u7a x5f;cases decide (400<L1.length) <;> simp only [Ab,Aa]
    ·cases L1.all z1h <;> simp only [Ab,Aa]
     ·exact fun ρ u hu=>z6m (.cons (z7h R2) (RLe.refl _)) ρ u hu
     ·exact fun ρ u hu=>hu
    ·exact fun ρ u hu=>z6m (.cons (z7h R2) (RLe.refl _)) ρ u hu
   ·unfold x5f;cases decide (400<L1.length) <;> simp only [Ab,Aa]
    ·cases L1.all z1h <;> rfl
    ·rfl
  ·cases h
 ·cases h
def T6 :Specs:=T5.with x6g fSpm
theorem Ko :Zu prog T6:=j7m z0p
theorem y1n {γ:Type} (a b:Bool) (x y:γ):(bif a&&b then x else y)=bif a then (bif b then x else y) else y:=by grind
theorem y7y {γ:Type} (a:Bool) (x y:γ):(bif !a then x else y)=bif a then y else x:=by grind
structure Dim (α β:Type) where
 lo:α→Int
 hi:α→Int
 pr:α→β
 put:Int→Int→β→α
 ext:Int→α→α
 mak:List β→List β
 same:List β→List β→Bool
structure Sw (α β:Type) where
 out:List α
 last:List β
 first:Nat
 fin:Int
def Jn (zs:List Int):List Int:=compact (Xp zs)
theorem z7t (zs:List Int):v1h (Xp zs)=(Jn zs).length :=rfl
theorem Vy (zs:List Int):(Xp zs).length =zs.length:=List.length_mergeSort zs
theorem x4f (zs:List Int):(Jn zs).length ≤zs.length:=by have:=compact_length_le (Xp zs);rw [Vy] at this;exact this
theorem z5a (zs:List Int) (i:Nat) (h:i<(Jn zs).length):rd (Wu (Xp zs)) i=rd (Jn zs) i:=by
 change i<(compact (Xp zs)).length at h;show rd (compact (Xp zs)++_) i=rd (compact (Xp zs)) i
 grind [Yo]
theorem Qv (zs:List Int):Yu zs.length (cOf (Zz (Xp zs)))=Xp zs:=by
 grind [Jj,Vy]
namespace Dim
variable {α β:Type} (D:Dim α β) (l:List α)
def ends :List Int:=l.flatMap fun r=>[D.lo r,D.hi r]
def cuts :List Int:=Jn (D.ends l)
def inn (x:Int):List β:=(l.filter fun r=>decide (D.lo r≤x)&&decide (x<D.hi r)).map D.pr
def sec (x:Int):List β:=D.mak (D.inn l x)
def grow (out:List α) (k:Nat) (x:Int):List α:=out.take k++(out.drop k).map (D.ext x)
def one (x x':Int) (s:Sw α β):Sw α β:=
 bif decide (0<(D.sec l x).length)&&((s.fin == x)&&D.same s.last (D.sec l x)) then ⟨D.grow s.out s.first x',s.last,s.first,x'⟩
 else ⟨s.out++(D.sec l x).map (D.put x x'),D.sec l x,s.out.length,x'⟩
def go :Nat→Nat→Sw α β→Sw α β
 | 0,_,s=>s
 | k+1,i,s=>go k (i+1) (D.one l (rd (D.cuts l) i) (rd (D.cuts l) (i+1)) s)
def out :List α:=(D.go l ((D.cuts l).length - 1) 0 ⟨[],[],0,0⟩).out
theorem ends_length :(D.ends l).length =2*l.length:=by
 induction l with
 | nil=>rfl
 | cons r l ih=>show (_::_::D.ends l).length =_;grind
theorem cuts_length :(D.cuts l).length ≤2*l.length:=by have:=x4f (D.ends l);rw [D.ends_length] at this;exact this
theorem ends_append (m:List α):D.ends (l++m)=D.ends l++D.ends m:=by simp [ends]
theorem inn_append (m:List α) (x:Int):D.inn (l++m) x=D.inn l x++D.inn m x:=by simp [inn]
theorem inn_length (x:Int):(D.inn l x).length ≤l.length:=by grind [inn]
theorem inn_t (r:α) (x:Int) (h1:D.lo r≤x) (h2:x<D.hi r):D.inn [r] x=[D.pr r]:=by simp [inn,h1,h2]
theorem inn_f1 (r:α) (x:Int) (h1: ¬D.lo r≤x):D.inn [r] x=[]:=by simp [inn,h1]
theorem inn_f2 (r:α) (x:Int) (h1: ¬x<D.hi r):D.inn [r] x=[]:=by simp [inn,h1]
theorem grow_nil (out:List α) (k:Nat) (x:Int) (h:out.length≤k):D.grow out k x=out:=by unfold grow;rw [Ar h,Bx,AD,A6 h]
theorem grow_length (out:List α) (k:Nat) (x:Int):(D.grow out k x).length =out.length:=by unfold grow;simp;omega
theorem grow_set [Xq α] (out:List α) (j:Nat) (x:Int) (h:j<out.length):D.grow (out.set j (D.ext x (rd out j))) (j+1) x=D.grow out j x:=by
 unfold grow;rw [Yq h,AU];have e1:(out.set j (D.ext x (rd out j))).take (j+1)=out.take j++[D.ext x (rd out j)]:=by
  apply BH;all_goals grind
 have e2:(out.set j (D.ext x (rd out j))).drop (j+1)=out.drop (j+1):=by rw [List.drop_set];grind
 grind
theorem one_length (x x':Int) (s:Sw α β):(D.one l x x' s).out.length ≤s.out.length+(D.sec l x).length :=by
 grind [one,grow_length]
end Dim
open Go.Proofs.Tryz
open Go.Proofs
inductive vl4S where
def vl4C (aH:Int) (aO:Int) (aN:Int) (aR:Int):vl4S→Cfg
 :=nofun
def x8g (aH:Int) (aO:Int) (aN:Int) (aR:Int):vl4S→Xw vl4S
 :=nofun
def y3k (aH:Int) (aO:Int) (aN:Int) (aR:Int):Xw vl4S:=(bif (decide (aH<aN)) then (bif (decide (aO<aR)) then (bif (decide (aH≥(-1000000))) then (bif (decide (aH≤1000000)) then (bif (decide (aN≥(-1000000))) then (bif (decide (aN≤1000000)) then (bif (decide (aO≥(-1000000))) then (bif (decide (aO≤1000000)) then (bif (decide (aR≥(-1000000))) then (.ret [(.bool (decide (aR≤1000000)))]) else (.ret [(.bool false)])) else (.ret [(.bool false)])) else (.ret [(.bool false)])) else (.ret [(.bool false)])) else (.ret [(.bool false)])) else (.ret [(.bool false)])) else (.ret [(.bool false)])) else (.ret [(.bool false)])) else (.ret [(.bool false)]))
theorem w7k (aH:Int) (aO:Int) (aN:Int) (aR:Int): ∀s,Yt prog (Zy prog 116) (vl4C aH aO aN aR) (vl4C aH aO aN aR s) (x8g aH aO aN aR s)
 :=nofun
theorem x8h (aH:Int) (aO:Int) (aN:Int) (aR:Int):Yt prog (Zy prog 116) (vl4C aH aO aN aR) (Zg prog 116 [(.agg [(.int .i64 aH),(.int .i64 aO),(.int .i64 aN),(.int .i64 aR)])] true []) (y3k aH aO aN aR):=(lb (fun k0=>(lb (fun k1=>(lb (fun k2=>(lb (fun k3=>(lb (fun k4=>(lb (fun k5=>(lb (fun k6=>(lb (fun k7=>(lb (fun k8=>(lr 35 3 [1,1,1,1,0] 1 9 [(2,(.bool (decide (aR≤1000000))))] (sl Ko 101 [] ⟨[],[],[some [2]],[]⟩ ⟨[],[],[]⟩ (trs 25 []) (tt k8 (tt k7 (tt k6 (tt k5 (tt k4 (tt k3 (tt k2 (tt k1 (tt k0 nn)))))))))))) (fun k8=>(lr 35 3 [1,1,1,1,0] 1 9 [(2,(.bool false))] (sl Ko 101 [] ⟨[],[],[some [2]],[]⟩ ⟨[],[],[]⟩ (trs 23 [false,false]) (tt k8 (tt k7 (tt k6 (tt k5 (tt k4 (tt k3 (tt k2 (tt k1 (tt k0 nn)))))))))))))) (fun k7=>(lr 35 3 [1,1,1,1,0] 1 9 [(2,(.bool false))] (sl Ko 86 [] ⟨[],[],[some [2]],[]⟩ ⟨[],[],[]⟩ (trs 20 [false,false,false]) (tt k7 (tt k6 (tt k5 (tt k4 (tt k3 (tt k2 (tt k1 (tt k0 nn))))))))))))) (fun k6=>(lr 35 3 [1,1,1,1,0] 1 9 [(2,(.bool false))] (sl Ko 86 [] ⟨[],[],[some [2]],[]⟩ ⟨[],[],[]⟩ (trs 18 [false,false,false,false,false]) (tt k6 (tt k5 (tt k4 (tt k3 (tt k2 (tt k1 (tt k0 nn)))))))))))) (fun k5=>(lr 35 3 [1,1,1,1,0] 1 9 [(2,(.bool false))] (sl Ko 71 [] ⟨[],[],[some [2]],[]⟩ ⟨[],[],[]⟩ (trs 15 [false,false,false,false,false,false]) (tt k5 (tt k4 (tt k3 (tt k2 (tt k1 (tt k0 nn))))))))))) (fun k4=>(lr 35 3 [1,1,1,1,0] 1 9 [(2,(.bool false))] (sl Ko 71 [] ⟨[],[],[some [2]],[]⟩ ⟨[],[],[]⟩ (trs 13 [false,false,false,false,false,false,false,false]) (tt k4 (tt k3 (tt k2 (tt k1 (tt k0 nn)))))))))) (fun k3=>(lr 35 3 [1,1,1,1,0] 1 9 [(2,(.bool false))] (sl Ko 56 [] ⟨[],[],[some [2]],[]⟩ ⟨[],[],[]⟩ (trs 10 [false,false,false,false,false,false,false,false,false]) (tt k3 (tt k2 (tt k1 (tt k0 nn))))))))) (fun k2=>(lr 35 3 [1,1,1,1,0] 1 9 [(2,(.bool false))] (sl Ko 56 [] ⟨[],[],[some [2]],[]⟩ ⟨[],[],[]⟩ (trs 8 [false,false,false,false,false,false,false,false,false,false,false]) (tt k2 (tt k1 (tt k0 nn)))))))) (fun k1=>(lr 35 3 [1,1,1,1,0] 1 9 [(2,(.bool false))] (sl Ko 41 [] ⟨[],[],[some [2]],[]⟩ ⟨[],[],[]⟩ (trs 5 [false,false,false,false,false,false,false,false,false,false,false,false]) (tt k1 (tt k0 nn))))))) (fun k0=>(lr 35 3 [1,1,1,1,0] 1 9 [(2,(.bool false))] (sl Ko 41 [] ⟨[],[],[some [2]],[]⟩ ⟨[],[],[]⟩ [false,false,false,false,false,false,false,false,false,false,false,false,false,false,false,false,false] (tt k0 nn)))))
theorem u0h (aH:Int) (aO:Int) (aN:Int) (aR:Int) (n:Nat) (vs:List AVal) (h:Zr (x8g aH aO aN aR) n (y3k aH aO aN aR)=.ret vs):Jy prog (Zy prog 116) (Zg prog 116 [(.agg [(.int .i64 aH),(.int .i64 aO),(.int .i64 aN),(.int .i64 aR)])] true []) vs:=by have:=Zd (w7k aH aO aN aR) n _ (x8h aH aO aN aR);rwa [h] at this
inductive madS where
 | h0 (v16:Int) (aC:List Int)
 | h1 (v4:Int) (bM:List R4) (cJ:List R2) (cM:Int) (cN:Int) (bK:Nat) (bO:List Int)
 | h2 (v4:Int) (v38:Int) (bM:List R4) (cJ:List R2) (cM:Int) (cN:Int) (bK:Nat) (bO:List Int) (aA:Int) (cU:Int) (aM:List R2)
 | h3 (v1:Int) (v2:Int) (v71:List R2) (v72:Int) (v73:Int) (cG:List R2) (bF:Int) (aD:List R4) (bL:List R2) (bG:Int) (bK:Nat) (bO:List Int) (aA:List R2)
 | h4 (v2:Int) (v8:Int) (cY:Int) (cG:List R2) (bF:Int) (aD:List R4) (bL:List R2) (bG:Int) (bW:Int) (cO:Nat) (cX:List Int) (aM:List R2)
abbrev x1a (aD:List R4) (v8:Int) (v2:Int):=(aD.set (0+(tn v8)) (R4.mk (rd aD (0+(tn v8))).a (rd aD (0+(tn v8))).b v2 (rd aD (0+(tn v8))).d))
abbrev x0z (aC:List Int):=(Wu (Yu aC.length (cOf (Zz (Xp (Yu aC.length (cOf (Zz aC))))))))
def j1i :AFr:=⟨⟨29,0,true⟩,none,(.inRangeFunc 0::(Zb prog 117 [1,1,0,1,0] 1)),none,(Zy prog 14),Yg [(2,.nils),(3,(ii 0)),(4,(.ptr 1 0))]⟩
def j1h :=(y2m [(0,⟨.ready,none,29,Yg [(4,(.ptr 1 0))],[11],(Wt prog 117 [1,1,0,1,0,0]),(Wt prog 117 [1,1,0,1,0,1])⟩)])
abbrev x0y (aM:List R2) (l0:List R4) (v38:Int):=(aM++[(R2.mk (rd l0 (tn v38)).b (rd l0 (tn v38)).d)])
abbrev x0x (aD:List R4) (v1:Int) (v71:List R2) (v73:Int) (v2:Int):=(aD++[(R4.mk v1 (rd v71 (tn v73)).a v2 (rd v71 (tn v73)).b)])
def x6i (l0:List R4):ABlk:=⟨[(.dat l0.length (Zz l0))],80,none⟩
abbrev x0w (aC:List Int) (l0:List R4) (v16:Int):=(aC++[(rd l0 (tn v16)).a,(rd l0 (tn v16)).c])
def madC (l0:List R4):madS→Cfg
 | .h0 v16 aC=>⟨⟨34,0,true⟩,none,(Zb prog 155 [1,1,0,1,0,0,1,1,0,0,1,1,0,0] 0),none,(Zy prog 9),⟨Yg [(1,(.ptr 0 0)),(3,(.ptr 2 0)),(8,(.sl 1 0 1 (.un 1))),(9,(ii 1)),(10,(ii 0)),(14,(.dat l0.length (Zz l0))),(15,(ii (l0.length:Int))),(16,(ii v16))],Vj [⟨[(.sl 1 0 1 (.un 1))],182,none⟩,(x6i l0),⟨[(.sla 4 1 0 aC.length (.un 1))],125,none⟩,⟨[.nils,.nils,(ii 0),(ii 0)],157,none⟩,⟨Ym aC.length (Zz aC),3,some ⟨1,aC.length,(Zz aC)⟩⟩] 0,5,[],true⟩,[⟨⟨29,0,true⟩,(Vm prog 117 [1,1,0,0] 2),(Zb prog 117 [1,1,0,0] 1),none,(Zy prog 14),Yg [(2,.nils),(3,(ii 0)),(4,(.ptr 3 0)),(9,(.sl 1 0 1 (.un 1)))]⟩],.leaf⟩
 | .h1 v4 bM cJ cM cN bK bO=>⟨⟨76,0,true⟩,none,(Zb prog 176 [1,0,0] 0),none,[],⟨Yg [(0,(.yld 0)),(1,(.ptr 2 0)),(2,(.ptr 4 0)),(4,(ii v4))],z6q [(1,⟨[(.sla 6 4 0 bM.length (.un 4)),(.dat cJ.length (Zz cJ)),(ii cM),(ii cN)],157,none⟩),(2,⟨[(.sla 3 1 0 bK (.un 1))],125,none⟩),(3,⟨Ym bO.length (Zz bO),3,some ⟨1,bO.length,(Zz bO)⟩⟩),(4,⟨[(.sl 5 0 1 (.un 1))],182,none⟩),(5,(x6i l0)),(6,⟨Ym bM.length (Zz bM),116,some ⟨4,bM.length,(Zz bM)⟩⟩)],7,[],true⟩,[j1i],j1h⟩
 | .h2 v4 v38 bM cJ cM cN bK bO aA cU aM=>⟨⟨76,0,true⟩,none,(Zb prog 176 [1,0,0,1,0,0,1,0,1,0,0,1,1,0,0,1,1,0,0] 0),none,[],⟨Yg [(0,(.yld 0)),(1,(.ptr 2 0)),(2,(.ptr 4 0)),(4,(ii v4)),(5,(.ptr 6 0)),(6,(ii 0)),(29,(.sl 5 0 1 (.un 1))),(30,(ii 1)),(31,(ii 0)),(36,(.dat l0.length (Zz l0))),(37,(ii (l0.length:Int))),(38,(ii v38))],z6q [(1,⟨[(.sla 9 4 0 bM.length (.un 4)),(.dat cJ.length (Zz cJ)),(ii cM),(ii cN)],157,none⟩),(2,⟨[(.sla 3 1 0 bK (.un 1))],125,none⟩),(3,⟨Ym bO.length (Zz bO),3,some ⟨1,bO.length,(Zz bO)⟩⟩),(4,⟨[(.sl 5 0 1 (.un 1))],182,none⟩),(5,(x6i l0)),(6,⟨[(ii aA),(ii cU),(.sl 7 0 1 (.ex 1))],162,none⟩),(7,⟨[(.sla 8 2 0 aM.length (.un 2))],155,none⟩),(8,⟨Ym aM.length (Zz aM),176,some ⟨2,aM.length,(Zz aM)⟩⟩),(9,⟨Ym bM.length (Zz bM),116,some ⟨4,bM.length,(Zz bM)⟩⟩)],10,[],true⟩,[j1i],j1h⟩
 | .h3 v1 v2 v71 v72 v73 cG bF aD bL bG bK bO aA=>⟨⟨94,0,true⟩,none,(Zb prog 120 [1,1,1,0,0] 0),none,[],⟨Yg [(0,(.ptr 0 0)),(1,(ii v1)),(2,(ii v2)),(71,(.dat v71.length (Zz v71))),(72,(ii v72)),(73,(ii v73))],z6q [(0,⟨[(.sla 7 4 0 aD.length (.un 4)),(.dat bL.length (Zz bL)),(ii bG),(ii v2)],157,none⟩),(2,⟨[(.sla 3 1 0 bK (.un 1))],125,none⟩),(3,⟨Ym bO.length (Zz bO),3,some ⟨1,bO.length,(Zz bO)⟩⟩),(4,⟨[(.sl 5 0 1 (.un 1))],182,none⟩),(5,(x6i l0)),(6,⟨[(.dat aA.length (Zz aA))],155,none⟩),(7,⟨Ym aD.length (Zz aD),116,some ⟨4,aD.length,(Zz aD)⟩⟩)],8,[],true⟩,[⟨⟨29,0,true⟩,(Vm prog 117 [1,1,0,1,0,1,0,1] 5),(Zb prog 117 [1,1,0,1,0,1,0,1] 1),(some 1),[],Yg [(4,(.ptr 0 0)),(21,(ii v1)),(23,(ii v2)),(24,(.dat cG.length (Zz cG)))]⟩,⟨⟨76,0,true⟩,(Vm prog 176 [1,0,0,1,0,0,1,1,0] 2),(Zb prog 176 [1,0,0,1,0,0,1,1,0] 1),none,[],Yg [(0,(.yld 1)),(1,(.ptr 2 0)),(2,(.ptr 4 0)),(4,(ii bF)),(72,(.yld 1)),(73,(.agg [(ii v1),(ii v2),(.sl 6 0 1 (.ex 1))]))]⟩,⟨⟨29,0,true⟩,none,(.inRangeFunc 1::(Zb prog 117 [1,1,0,1,0] 1)),none,(Zy prog 14),Yg [(2,.nils),(3,(ii 0)),(4,(.ptr 0 0))]⟩],(y2m [(1,⟨.busy,none,29,Yg [(4,(.ptr 0 0))],[11],(Wt prog 117 [1,1,0,1,0,0]),(Wt prog 117 [1,1,0,1,0,1])⟩)])⟩
 | .h4 v2 v8 cY cG bF aD bL bG bW cO cX aM=>⟨⟨94,0,true⟩,none,(Zb prog 120 [0,1,0,0,1,0,0] 0),none,[],⟨Yg [(0,(.ptr 0 0)),(2,(ii v2)),(8,(ii v8))],z6q [(0,⟨[(.sla 1 4 0 aD.length (.un 4)),(.dat bL.length (Zz bL)),(ii bG),(ii bW)],157,none⟩),(1,⟨Ym aD.length (Zz aD),116,some ⟨4,aD.length,(Zz aD)⟩⟩),(3,⟨[(.sla 4 1 0 cO (.un 1))],125,none⟩),(4,⟨Ym cX.length (Zz cX),3,some ⟨1,cX.length,(Zz cX)⟩⟩),(5,⟨[(.sl 6 0 1 (.un 1))],182,none⟩),(6,(x6i l0)),(7,⟨[(.dat aM.length (Zz aM))],155,none⟩)],8,[],true⟩,[⟨⟨29,0,true⟩,(Vm prog 117 [1,1,0,1,0,1,0,1] 5),(Zb prog 117 [1,1,0,1,0,1,0,1] 1),(some 2),[],Yg [(4,(.ptr 0 0)),(21,(ii cY)),(23,(ii v2)),(24,(.dat cG.length (Zz cG)))]⟩,⟨⟨76,0,true⟩,(Vm prog 176 [1,0,0,1,0,0,1,1,0] 2),(Zb prog 176 [1,0,0,1,0,0,1,1,0] 1),none,[],Yg [(0,(.yld 2)),(1,(.ptr 3 0)),(2,(.ptr 5 0)),(4,(ii bF)),(72,(.yld 2)),(73,(.agg [(ii cY),(ii v2),(.sl 7 0 1 (.ex 1))]))]⟩,⟨⟨29,0,true⟩,none,(.inRangeFunc 2::(Zb prog 117 [1,1,0,1,0] 1)),none,(Zy prog 14),Yg [(2,.nils),(3,(ii 0)),(4,(.ptr 0 0))]⟩],(y2m [(2,⟨.busy,none,29,Yg [(4,(.ptr 0 0))],[11],(Wt prog 117 [1,1,0,1,0,0]),(Wt prog 117 [1,1,0,1,0,1])⟩)])⟩
def madN0 :List (Option (List Nat)):=[some [1,3,8,9,10,14,15,16],some [2,3,4,9]]
def madM0 :List (Option (List Nat)):=[]
def j6h :List (Option (List Nat)):=[some [0,1,2,4],some [2,3,4]]
def j6i :List (Option (List Nat)):=[some [4],none,none,none,none,none,none]
def u4h :List (Option (List Nat)):=[some [0,1,2,4,5,6,29,30,31,36,37,38],some [2,3,4]]
def u4j :List (Option (List Nat)):=[some [4],none,none,none,none,none,none,none,none,none]
def u4g :List (Option (List Nat)):=[some [0,1,2,71,72,73],some [4,21,23,24],some [0,1,2,4,72,73],some [2,3,4]]
def u4i :List (Option (List Nat)):=[none,some [4],none,none,none,none,none,none]
def madN4 :List (Option (List Nat)):=[some [0,2,8],some [4,21,23,24],some [0,1,2,4,72,73],some [2,3,4]]
def madM4 :List (Option (List Nat)):=[none,none,some [4],none,none,none,none,none]
def Wy (l0:List R4):madS→Xw madS
 | .h0 v16 aC=>(bif (decide (v16<(l0.length:Int))) then (bif ((decide (0≤v16∧v16<(l0.length:Int)))&&true) then (bif (Nat.beq 1 1&&((decide (0+aC.length=aC.length))&&decide ((aC.length+2+1)*(8+1)≤room))) then (.to (.h0 (wrap .i64 (v16+1)) (aC++[(rd l0 v16.toNat).a,(rd l0 v16.toNat).c]))) else .stuck) else .stuck) else (bif (decide (aC.length<4611686018427387904)) then (bif (decide (aC.length=aC.length)) then (.to (.h1 1 ([]:List R4) ([]:List R2) 0 0 (v1h (Yu aC.length (cOf (Zz (Xp (Yu aC.length (cOf (Zz aC)))))))) (Wu (Yu aC.length (cOf (Zz (Xp (Yu aC.length (cOf (Zz aC)))))))))) else .stuck) else .stuck))
 | .h1 v4 bM cJ cM cN bK bO=>(bif (decide (v4<((bK:Nat):Int))) then (bif ((decide (0≤(wrap .i64 (v4 - 1))∧(wrap .i64 (v4 - 1))<((bK:Nat):Int)))&&true) then (bif (decide ((0+(Int.toNat (wrap .i64 (v4 - 1))))<bO.length)) then (bif ((decide (0≤v4∧v4<((bK:Nat):Int)))&&true) then (bif (decide ((0+v4.toNat)<bO.length)) then (.to (.h2 v4 0 bM cJ cM cN bK bO (rd bO (0+(Int.toNat (wrap .i64 (v4 - 1))))) (rd bO (0+v4.toNat)) ([]:List R2))) else .stuck) else .stuck) else .stuck) else .stuck) else (bif (decide ((bM.length:Int)>400)) then (.ret [.nils,(.int .i64 4)]) else (.ret [(.dat bM.length (Zz bM)),(.int .i64 0)])))
 | .h2 v4 v38 bM cJ cM cN bK bO aA cU aM=>(bif (decide (v38<(l0.length:Int))) then (bif ((decide (0≤v38∧v38<(l0.length:Int)))&&true) then (bif (decide ((rd l0 v38.toNat).a ≤aA)) then (bif (decide (aA<(rd l0 v38.toNat).c)) then (bif (Nat.beq 2 2&&((decide (0+aM.length=aM.length))&&decide ((aM.length+1+1)*(16+1)≤room))) then (.to (.h2 v4 (wrap .i64 (v38+1)) bM cJ cM cN bK bO aA cU (aM++[(R2.mk (rd l0 v38.toNat).b (rd l0 v38.toNat).d)]))) else .stuck) else (.to (.h2 v4 (wrap .i64 (v38+1)) bM cJ cM cN bK bO aA cU aM))) else (.to (.h2 v4 (wrap .i64 (v38+1)) bM cJ cM cN bK bO aA cU aM))) else .stuck) else (bif (y5v (cvT aM)) then (bif (decide ((((Xn (cvT aM)).length :Nat):Int)>0)) then (bif (cN == aA) then (bif (Vs (cvT cJ) (cvT (Xn (cvT aM)))) then (bif (Qi (cvT cJ) (cvT (Xn (cvT aM)))) then (.to (.h4 cU cM aA (Xn (cvT aM)) v4 bM cJ cM cN bK bO aM)) else (.to (.h3 aA cU (Xn (cvT aM)) (((Xn (cvT aM)).length :Nat):Int) 0 (Xn (cvT aM)) v4 bM (Xn (cvT aM)) (bM.length:Int) bK bO aM))) else .stuck) else (.to (.h3 aA cU (Xn (cvT aM)) (((Xn (cvT aM)).length :Nat):Int) 0 (Xn (cvT aM)) v4 bM (Xn (cvT aM)) (bM.length:Int) bK bO aM))) else (.to (.h3 aA cU (Xn (cvT aM)) (((Xn (cvT aM)).length :Nat):Int) 0 (Xn (cvT aM)) v4 bM (Xn (cvT aM)) (bM.length:Int) bK bO aM))) else .stuck))
 | .h3 v1 v2 v71 v72 v73 cG bF aD bL bG bK bO aA=>(bif (decide (v73<v72)) then (bif ((decide (0≤v73∧v73<(v71.length:Int)))&&true) then (bif (Nat.beq 4 4&&((decide (0+aD.length=aD.length))&&decide ((aD.length+1+1)*(32+1)≤room))) then (.to (.h3 v1 v2 v71 v72 (wrap .i64 (v73+1)) cG bF (aD++[(R4.mk v1 (rd v71 v73.toNat).a v2 (rd v71 v73.toNat).b)]) bL bG bK bO aA)) else .stuck) else .stuck) else (.to (.h1 (wrap .i64 (bF+1)) aD bL bG v2 bK bO)))
 | .h4 v2 v8 cY cG bF aD bL bG bW cO cX aM=>(bif (decide (v8<(aD.length:Int))) then (bif ((decide (0≤v8∧v8<(aD.length:Int)))&&true) then (bif (decide ((0+v8.toNat)<aD.length)) then (.to (.h4 v2 (wrap .i64 (v8+1)) cY cG bF (aD.set (0+v8.toNat) (R4.mk (rd aD (0+v8.toNat)).a (rd aD (0+v8.toNat)).b v2 (rd aD (0+v8.toNat)).d)) bL bG bW cO cX aM)) else .stuck) else .stuck) else (.to (.h1 (wrap .i64 (bF+1)) aD bL bG v2 cO cX)))
def x3o (l0:List R4):Xw madS:=(.to (.h0 0 ([]:List Int)))
theorem w9y (l0:List R4): ∀s,Yt prog (Zy prog 117) (madC l0) (madC l0 s) (Wy l0 s)
 | .h0 v16 aC=>(lb (fun k0=>(lo fun o0=>(lo fun o1=>(sl Ko 32 [] ⟨[0,1,2,3,7],[],madN0,madM0⟩ ⟨[],[.keep,.keep,.cells [.len (x0w aC l0 v16).length],.keep,.rowed 1 (x0w aC l0 v16).length (Zz (x0w aC l0 v16))],[]⟩ [true] (pp (xL (aC.length+2) (x0w aC l0 v16).length) (pp (xL (aC.length+2) (x0w aC l0 v16).length) (pp (xS (aC.length+2) (Zo (Zz aC) 0 aC.length 1 [(ii (rd l0 (tn v16)).a),(ii (rd l0 (tn v16)).c)]) (Zz (x0w aC l0 v16))) (pp (pp (xF (Zo (Zz aC) 0 aC.length 1 [(ii (rd l0 (tn v16)).a),(ii (rd l0 (tn v16)).c)])) nn) (ww o1 (ww o0 (tt k0 nn))))))))))) (fun k0=>(lo fun o0=>(lo fun o1=>(sl Ko 46 [(116,4,Zz ([]:List R4))] ⟨[5,3,2,4,0,1,6],[],j6h,j6i⟩ ⟨[],[.keep,.cells [.grow 6 4,.list 0 (Zz ([]:List R2)),.keep,.keep],.keep,.rowed 1 (x0z aC).length (Zz (x0z aC)),.keep,.keep,.keep],[]⟩ (bl 2 0) (pp (xL aC.length (x0z aC).length (by first | exact z0z _ _ | exact Uy rfl)) (pp (xS aC.length (Zz (x0z aC)) (Zz (x0z aC))) (pp (fl (x0z aC) (fl ([]:List R4) nn)) (pp (pp (xG (Nat.beq 1 1)) (pp (xG (Nat.beq 1 1)) (pp (xG (Nat.beq 0 0)) (pp (xG (decide (aC.length=aC.length))) (pp (xG (isI (Zz (Xp (Yu aC.length (cOf (Zz aC))))))) (xG (decide (aC.length<4611686018427387904)))))))) (pp (pp (xG (Nat.beq 1 1)) (pp (xG (Nat.beq 1 1)) (pp (xG (Nat.beq 0 0)) (pp (xG (decide (aC.length=aC.length))) (pp (xG (isI (Zz aC))) (xG (decide (aC.length<4611686018427387904)))))))) (tt k0 nn)))))))))))
 | .h1 v4 bM cJ cM cN bK bO=>(lb (fun k0=>(lo fun o0=>(lo fun o1=>(lo fun o2=>(lo fun o3=>(sl Ko 48 [(176,2,Zz ([]:List R2))] ⟨[0,1,2,3,4,5,7,8,9,6],[],u4h,u4j⟩ ⟨[],(kpB 7 [.cells [.grow 8 2],.keep,.keep]),[]⟩ (trs 3 []) (pp (fl bO (fl ([]:List R2) (fl bM nn))) (ww o3 (ww o2 (ww o1 (ww o0 (tt k0 nn)))))))))))) (fun k0=>(lb (fun k1=>(lr 29 3 [1,1,1,1,0] 1 14 [(2,.nils),(3,(ii 4))] (sl Ko 43 [] ⟨[],[],[some [2,3]],[]⟩ ⟨[],[],[]⟩ (bl 2 2) (tt k1 (tt k0 nn))))) (fun k1=>(lr 29 3 [1,1,1,1,0] 1 14 [(2,(.dat bM.length (Zz bM))),(3,(ii 0))] (sl Ko 48 [] ⟨[],[6],[some [2,3]],[]⟩ ⟨[(2,.frz bM.length bM.length (Zz bM) (Zz bM))],[],[]⟩ (bl 2 0) (pp (xZ (z6e 4 4 0 bM.length bM.length (Zz bM)) bM.length (Zz bM)) (pp (xL bM.length bM.length) (pp (xS bM.length (Zz bM) (Zz bM)) (pp (fl bM nn) (tt k1 (tt k0 nn))))))))))))
 | .h2 v4 v38 bM cJ cM cN bK bO aA cU aM=>(lb (fun k0=>(lo fun aJ=>(lb (fun k1=>(lb (fun k2=>(lo fun o0=>(sl Ko 39 [] ⟨[0,1,2,3,4,5,6,7,12,9],[],u4h,u4j⟩ ⟨[],(kpB 7 [.cells [.len (x0y aM l0 v38).length],.rowed 2 (x0y aM l0 v38).length (Zz (x0y aM l0 v38)),.keep]),[]⟩ (trs 7 []) (pp (xL (aM.length+1) (x0y aM l0 v38).length) (pp (xL (aM.length+1) (x0y aM l0 v38).length) (pp (xS (aM.length+1) (Zo (Zz aM) 0 aM.length 2 [(ii (rd l0 (tn v38)).b),(ii (rd l0 (tn v38)).d)]) (Zz (x0y aM l0 v38))) (pp (fl bO (pp (xF (Zo (Zz aM) 0 aM.length 2 [(ii (rd l0 (tn v38)).b),(ii (rd l0 (tn v38)).d)])) (fl bM nn))) (ww o0 (tt k2 (tt k1 (ww aJ (tt k0 nn)))))))))))) (fun k2=>(sl Ko 39 [] ⟨(List.range 10),[],u4h,u4j⟩ ⟨[],[],[]⟩ (trs 6 [false]) (pp (fl bO (fl aM (fl bM nn))) (tt k2 (tt k1 (ww aJ (tt k0 nn))))))))) (fun k1=>(sl Ko 39 [] ⟨(List.range 10),[],u4h,u4j⟩ ⟨[],[],[]⟩ (bl 7 1) (pp (fl bO (fl aM (fl bM nn))) (tt k1 (ww aJ (tt k0 nn))))))))) (fun k0=>(Xa (sl Ko (C':=⟨⟨29,0,true⟩,(Vm prog 117 [1,1,0,1,0,1,0,0] 4),(Zb prog 117 [1,1,0,1,0,1,0,0] 1),(some 0),[],⟨Yg [(4,(.ptr 1 0)),(5,(.ptr 3 0)),(16,(.dat aM.length (Zz aM)))],z6q [(1,⟨[(.sla 2 4 0 bM.length (.un 4)),(.dat cJ.length (Zz cJ)),(ii cM),(ii cN)],157,none⟩),(2,⟨Ym bM.length (Zz bM),116,some ⟨4,bM.length,(Zz bM)⟩⟩),(3,⟨[(ii aA),(ii cU),(.sl 4 0 1 (.ex 1))],162,none⟩),(4,⟨[(.dat aM.length (Zz aM))],155,none⟩),(5,⟨[(.sla 6 1 0 bK (.un 1))],125,none⟩),(6,⟨Ym bO.length (Zz bO),3,some ⟨1,bO.length,(Zz bO)⟩⟩),(7,⟨[(.sl 8 0 1 (.un 1))],182,none⟩),(8,⟨[(.dat l0.length (Zz l0))],80,none⟩)],9,[],true⟩,[⟨⟨76,0,true⟩,(Vm prog 176 [1,0,0,1,0,0,1,1,0] 2),(Zb prog 176 [1,0,0,1,0,0,1,1,0] 1),none,[],Yg [(0,(.yld 0)),(1,(.ptr 5 0)),(2,(.ptr 7 0)),(4,(ii v4)),(72,(.yld 0)),(73,(.agg [(ii aA),(ii cU),(.sl 4 0 1 (.ex 1))]))]⟩,⟨⟨29,0,true⟩,none,(.inRangeFunc 0::(Zb prog 117 [1,1,0,1,0] 1)),none,(Zy prog 14),Yg [(2,.nils),(3,(ii 0)),(4,(.ptr 1 0))]⟩],(y2m [(0,⟨.busy,none,29,Yg [(4,(.ptr 1 0))],[11],(Wt prog 117 [1,1,0,1,0,0]),(Wt prog 117 [1,1,0,1,0,1])⟩)])⟩) 37 [] ⟨[0,1,9,10,7,2,3,4,5],[8],[some [4,5,16],some [0,1,2,4,72,73],some [2,3,4]],[some [4],none,none,none,none,none,none,none,none]⟩ ⟨[(16,.frz aM.length aM.length (Zz aM) (Zz aM))],[.keep,.keep,.keep,.keep,.cells [.frz aM.length aM.length (Zz aM) (Zz aM)],.keep,.keep,.keep,.keep],[]⟩ (bl 2 0) (pp (xZ (z6e 2 2 0 aM.length aM.length (Zz aM)) aM.length (Zz aM)) (pp (xL aM.length aM.length) (pp (xS aM.length (Zz aM) (Zz aM)) (pp (xZ (z6e 2 2 0 aM.length aM.length (Zz aM)) aM.length (Zz aM)) (pp (xL aM.length aM.length) (pp (xS aM.length (Zz aM) (Zz aM)) (pp (fl bM (fl bO nn)) (pp (fl aM nn) (tt k0 nn)))))))))) (lo fun aJ=>(lb (fun k1=>(lb (fun k2=>(lo fun cC=>(lb (fun k3=>(sl Ko 49 [] ⟨[1,2,0,5,6,7,8,4],[],madN4,madM4⟩ ⟨[],[],[]⟩ (trs 13 []) (pp (fl bM (fl bO nn)) (tt k3 (pp (pp (xr cJ) (pp (xI R2 (Xn (cvT aM)).length (Zz (Xn (cvT aM)))) (xw cC))) (tt k2 (tt k1 (pp (pp (xr aM) (xw aJ)) nn)))))))) (fun k3=>(sl Ko 69 [] ⟨[1,0,5,6,7,8,4,2],[],u4g,u4i⟩ ⟨[],[],[]⟩ (trs 12 [false]) (pp (fl bO (fl bM nn)) (tt k3 (pp (pp (xr cJ) (pp (xI R2 (Xn (cvT aM)).length (Zz (Xn (cvT aM)))) (xw cC))) (tt k2 (tt k1 (pp (pp (xr aM) (xw aJ)) nn))))))))))) (fun k2=>(sl Ko 69 [] ⟨[1,0,5,6,7,8,4,2],[],u4g,u4i⟩ ⟨[],[],[]⟩ (trs 6 (bl 7 0)) (pp (fl bO (fl bM nn)) (tt k2 (tt k1 (pp (pp (xr aM) (xw aJ)) nn)))))))) (fun k1=>(sl Ko 69 [] ⟨[1,0,5,6,7,8,4,2],[],u4g,u4i⟩ ⟨[],[],[]⟩ (bl 13 0) (pp (fl bO (fl bM nn)) (tt k1 (pp (pp (xr aM) (xw aJ)) nn))))))))))
 | .h3 v1 v2 v71 v72 v73 cG bF aD bL bG bK bO aA=>(lb (fun k0=>(lo fun o0=>(lo fun o1=>(sl Ko 23 [] ⟨[0,1,2,3,4,5,6,10],[],u4g,u4i⟩ ⟨[],[.cells [.len (x0x aD v1 v71 v73 v2).length,.keep,.keep,.keep],.keep,.keep,.keep,.keep,.keep,.keep,.rowed 4 (x0x aD v1 v71 v73 v2).length (Zz (x0x aD v1 v71 v73 v2))],[]⟩ [true] (pp (xL (aD.length+1) (x0x aD v1 v71 v73 v2).length) (pp (xL (aD.length+1) (x0x aD v1 v71 v73 v2).length) (pp (xS (aD.length+1) (Zo (Zz aD) 0 aD.length 4 [(ii v1),(ii (rd v71 (tn v73)).a),(ii v2),(ii (rd v71 (tn v73)).b)]) (Zz (x0x aD v1 v71 v73 v2))) (pp (fl bO (pp (xF (Zo (Zz aD) 0 aD.length 4 [(ii v1),(ii (rd v71 (tn v73)).a),(ii v2),(ii (rd v71 (tn v73)).b)])) nn)) (ww o1 (ww o0 (tt k0 nn))))))))))) (fun k0=>(sl Ko 22 [] ⟨[1,0,2,3,4,5,7],[],j6h,j6i⟩ ⟨[],[],[]⟩ (bl 2 0) (pp (fl bO (fl aD nn)) (tt k0 nn)))))
 | .h4 v2 v8 cY cG bF aD bL bG bW cO cX aM=>(lb (fun k0=>(lo fun o0=>(lo fun o1=>(sl Ko 33 [] ⟨(List.range 8),[],madN4,madM4⟩ ⟨[],[.cells [.len (x1a aD v8 v2).length,.keep,.keep,.keep],.rowed 4 (x1a aD v8 v2).length (Zz (x1a aD v8 v2)),.keep,.keep,.keep,.keep,.keep,.keep],[]⟩ [true] (pp (xL aD.length (x1a aD v8 v2).length) (pp (xL aD.length (x1a aD v8 v2).length) (pp (xS aD.length (Xt (Zz aD) (0+(tn v8)) 2 [(ii v2)]) (Zz (x1a aD v8 v2))) (pp (pp (xF (Xt (Zz aD) (0+(tn v8)) 2 [(ii v2)])) (fl cX nn)) (ww o1 (ww o0 (tt k0 nn))))))))))) (fun k0=>(sl Ko 36 [] ⟨[2,0,3,4,5,6,1],[],j6h,j6i⟩ ⟨[],[],[]⟩ (bl 2 0) (pp (fl cX (fl aD nn)) (tt k0 nn)))))
theorem w1n (l0:List R4):Yt prog (Zy prog 117) (madC l0) (Zg prog 117 [(.dat l0.length (Zz l0))] true []) (x3o l0):=(sl Ko 56 [(3,1,Zz ([]:List Int))] ⟨[2,1,3,0,4],[],madN0,madM0⟩ ⟨[],[.keep,.keep,.cells [.grow 4 1],.keep,.keep],[]⟩ [true] (pp (fl ([]:List Int) nn) nn))
theorem u4f (l0:List R4) (n:Nat) (vs:List AVal) (h:Zr (Wy l0) n (x3o l0)=.ret vs):Jy prog (Zy prog 117) (Zg prog 117 [(.dat l0.length (Zz l0))] true []) vs:=by have:=Zd (w9y l0) n _ (w1n l0);rwa [h] at this
open Go.Sort Go.Shelf Go.RowKit Go.Lib
theorem w6w {i n:Nat} (h:i<n):decide ((i:Int)<(n:Int))=true:=by grind
theorem z9h {σ:Type} (step:σ→Xw σ) (a b:Nat) (s:Xw σ):Zr step (a+b) s=Zr step a (Zr step b s):=by
 induction b generalizing s with
 | zero=>cases s <;> simp [Zr]
 | succ b ih=>cases s with
  | to s=>exact ih (step s)
  | ret vs=>simp only [Zp]
  | stuck=>cases a <;> cases b <;> rfl
theorem v8p {i:Nat}:decide ((i:Int)≥0)=true:=by grind
def z1w {α:Type} [Xq α] (out:List α):List AVal:=bif decide ((out.length:Int)>400) then [.nils,.int .i64 4] else [.dat out.length (Zz out),.int .i64 0]
def z7y {α:Type} [Xq α] (e:Int) (L:List α):List AVal:=bif e != 0 then [.nils,.int .i64 e] else [.dat L.length (Zz L),.int .i64 0]
def y8o {α:Type} (e:Int) (L:List α):List α:=bif e != 0 then [] else L
theorem z0i {α:Type} [Xq α] (e:Int) (L:List α) (ρ:Rho) (u:Value) (hu:Yx ρ (Ku (z7y e L)) u):Yx ρ (.tup [.dat (y8o e L).length (Zz (y8o e L)),.int .i64 e]) u:=by
 unfold z7y at hu;unfold y8o;by_cases h:e=0
 ·subst h;exact hu
 ·have h:(e != 0)=true:=by simpa using h
  rw [h] at hu ⊢;exact z6m (.cons (z7h α) (RLe.refl _)) ρ u hu
theorem z4y {α:Type} [Xq α] (e:Int) (L:List α):pf 3 (Ku (z7y e L))=true:=by unfold z7y;cases (e != 0) <;> rfl
def x7e (n:Nat):Int:=bif decide ((n:Int)>400) then 4 else 0
theorem y7u {α:Type} [Xq α] (L:List α):z1w L=z7y (x7e L.length) L:=by
 grind [z1w,z7y,x7e]
theorem Uz {α:Type} [Xq α] {e:Int} (L:List α) (h:(e != 0)=true):z7y e L=[.nils,.int .i64 e]:=by unfold z7y;rw [h];rfl
theorem y9h : ∀(L:List R3) (o last:Int) (inn:Bool) (out:List R2),(swF L o last inn out).length ≤out.length+L.length
 | [],_,_,_,out=>Aq _
 | e::r,o,last,inn,out=>by rw [y3m];have:=y9h r (o+e.c) e.a (decide (o+e.c>0)) (Uk out last inn e.a);have:=z3s out last inn e.a;simp only [Bb];omega
theorem y5u (l:List R3):(z2b l).length =l.length:=by
 by_cases h:y3c l=true
 ·exact (Qe l h).1.length_eq
 ·unfold z2b;grind
theorem x8y (l:List R2):(Xn l).length ≤800:=by
 grind [Xn,swV,y9h,y5u,z5l]
def Uf (r:R4):Bool:=decide (r.a<r.c)&&(decide (r.b<r.d)&&(decide (r.a≥ -1000000)&&(decide (r.a≤1000000)&&(decide (r.c≥ -1000000)&&(decide (r.c≤1000000)&&(decide (r.b≥ -1000000)&&(decide (r.b≤1000000)&&(decide (r.d≥ -1000000)&&decide (r.d≤1000000)))))))))
def D4 :Dim R4 R2:=⟨R4.a,R4.c,fun r=>⟨r.b,r.d⟩,fun x x' s=>⟨x,s.a,x',s.b⟩,fun x r=>⟨r.a,r.b,x,r.d⟩,Xn,Qi⟩
theorem D4_sec (l:List R4) (x:Int):(D4.sec l x).length ≤1000:=Av (x8y _) (by omega)
section
variable (l:List R4) (hl:l.length≤400)
include hl
theorem j1f (i:Nat) (out:List R4) (last:List R2) (first fin x x':Int): ∀(k j:Nat) (acc:List R2),j+k=l.length→acc.length≤j→
  ∃n,∀N,Zr (Wy l) (N+n) (.to (.h2 (i:Int) (j:Int) out last first fin ((D4.cuts l).length) (Wu (Xp (D4.ends l))) x x' acc))=Zr (Wy l) N (.to (.h2 (i:Int) (l.length:Int) out last first fin ((D4.cuts l).length) (Wu (Xp (D4.ends l))) x x' (acc++D4.inn (l.drop j) x)))
 | 0,j,acc,h,ha=>by refine ⟨0,fun N=> ?_⟩;rw [Ar (by omega),show D4.inn ([]:List R4) x=[] from rfl,AD,Bl,show j=l.length by omega]
 | k+1,j,acc,h,ha=>by
  have hj:j<l.length:=by omega
  obtain ⟨n,hn⟩:=j1f i out last first fin x x' k (j+1) (acc++D4.inn [rd l j] x) (by omega) (by have:=D4.inn_length [rd l j] x;grind)
  refine ⟨n+1,fun N=> ?_⟩;have e:D4.inn (l.drop j) x=D4.inn [rd l j] x++D4.inn (l.drop (j+1)) x:=by rw [Yq hj,←D4.inn_append];rfl
  rw [e,←Ay,Zw,←AJ,←hn N];by_cases h1:D4.lo (rd l j)≤x
  ·by_cases h2:x<D4.hi (rd l j)
   ·rw [D4.inn_t _ _ h1 h2];simp only [D4] at h1 h2 ⊢;simp (disch:=omega) only [Wy,Xs,Zc,Zq,Yz,Zt,Yc,Yv,Yj,Zf,Zk,Zx,Yd,Zj,Af,Ao,Ah,Aj,Ab,Aa]
   ·rw [D4.inn_f2 _ _ h2,AD];simp only [D4] at h1 h2;simp (disch:=omega) only [Wy,Xs,Yf,Zc,Zq,Yz,Zt,Yc,Yv,Yj,Zf,Zk,Zx,Yd,Zj,Af,Ao,Ah,Aj,Ab,Aa]
  ·rw [D4.inn_f1 _ _ h1,AD];simp only [D4] at h1;simp (disch:=omega) only [Wy,w3b,Zc,Zq,Yz,Zt,Yc,Yv,Yj,Zf,Zk,Zx,Yd,Zj,Af,Ao,Ah,Aj,Ab,Aa]
theorem j1e (i:Nat) (hi:i≤1000) (x x':Int) (s last:List R2) (first:Int) (inn:List R2) (hs:s.length≤1000): ∀(k j:Nat) (out:List R4),j+k=s.length→out.length≤10000000+j→
  ∃n,∀N,Zr (Wy l) (N+n) (.to (.h3 x x' s (s.length:Int) (j:Int) s (i:Int) out last first ((D4.cuts l).length) (Wu (Xp (D4.ends l))) inn))=Zr (Wy l) N (.to (.h1 ((i+1:Nat):Int) (out++(s.drop j).map (D4.put x x')) last first x' ((D4.cuts l).length) (Wu (Xp (D4.ends l)))))
 | 0,j,out,h,ho=>by
  have _u:=hl;refine ⟨1,fun N=> ?_⟩
  grind [Zw,Wy,Zk]
 | k+1,j,out,h,ho=>by
  obtain ⟨n,hn⟩:=j1e i hi x x' s last first inn hs k (j+1) (out++[D4.put x x' (rd s j)]) (by omega) (by simp;omega)
  refine ⟨n+1,fun N=> ?_⟩;have:=hn N;rw [Yq (show j<s.length by omega),AU,←Ay,Zw];simp (disch:=omega) only [Wy,Zc,Zq,Yz,Zt,Yc,Yv,Yj,Zf,Zk,Zx,Yd,Zj,Af,Ao,Ah,Aj,Ab,Aa];rw [AJ] at this;exact this
theorem j1d (i:Nat) (hi:i≤1000) (x x' fin:Int) (s last:List R2) (first:Int) (inn:List R2): ∀(k j:Nat) (out:List R4),j+k=out.length→out.length≤10000000→
  ∃n,∀N,Zr (Wy l) (N+n) (.to (.h4 x' (j:Int) x s (i:Int) out last first fin ((D4.cuts l).length) (Wu (Xp (D4.ends l))) inn))=Zr (Wy l) N (.to (.h1 ((i+1:Nat):Int) (D4.grow out j x') last first x' ((D4.cuts l).length) (Wu (Xp (D4.ends l)))))
 | 0,j,out,h,ho=>by
  have _u:=hl;refine ⟨1,fun N=> ?_⟩;rw [D4.grow_nil _ _ _ (by omega),Zw]
  grind [Wy,Zk]
 | k+1,j,out,h,ho=>by
  obtain ⟨n,hn⟩:=j1d i hi x x' fin s last first inn k (j+1) (out.set j (D4.ext x' (rd out j))) (by simp;omega) (by grind)
  refine ⟨n+1,fun N=> ?_⟩;have:=hn N;rw [D4.grow_set out j _ (by omega)] at this;rw [←Ay,Zw];simp (disch:=omega) only [Wy,Zc,Zq,Yz,Zt,Yc,Yv,Yj,Zf,Zk,Zx,Yd,Zj,Af,Ao,Ah,Aj,Ab,Aa];exact this
theorem v6y : ∀(k i:Nat) (s:Sw R4 R2),k=(D4.cuts l).length - 1 - i→i≤(D4.cuts l).length →s.out.length≤i*1000→s.last.length≤1000→s.first≤s.out.length→
  ∃n,Zr (Wy l) n (.to (.h1 ((i+1:Nat):Int) s.out s.last (s.first:Int) s.fin ((D4.cuts l).length) (Wu (Xp (D4.ends l)))))=.ret (z1w (D4.go l k i s).out)
 | 0,i,s,h,hi,ho,hla,hf=>by
  have hc:=D4.cuts_length l;refine ⟨1,?_⟩;rw [Zw,show D4.go l 0 i s=s from rfl]
  grind [z1w,Wy,Zp]
 | k +1,i,s,h,hi,ho,hla,hf=>by
  have hc:=D4.cuts_length l;have hi1:i+1<(D4.cuts l).length :=by omega
  have hpl:(Wu (Xp (D4.ends l))).length =2*l.length:=by rw [Vf,Vy,D4.ends_length]
  have r0:rd (Wu (Xp (D4.ends l))) i=rd (D4.cuts l) i:=z5a _ _ (by show i<(D4.cuts l).length;omega);have r1:rd (Wu (Xp (D4.ends l))) (i+1)=rd (D4.cuts l) (i+1):=z5a _ _ (by show i+1<(D4.cuts l).length;omega);have hbig:i*1000≤1000*1000:=AA _ (by omega);have hsl:=D4_sec l (rd (D4.cuts l) i);have hsd:D4.sec l (rd (D4.cuts l) i)=Xn (D4.inn l (rd (D4.cuts l) i)):=rfl;obtain ⟨n3,h3⟩:=j1f l hl (i+1) s.out s.last (s.first:Int) s.fin (rd (D4.cuts l) i) (rd (D4.cuts l) (i+1)) l.length 0 [] (Af _) (Aq _);simp only [AT,A8,z7u] at h3;have w1:y5v (D4.inn l (rd (D4.cuts l) i))=true:=rfl;have w2:Vs s.last (Xn (D4.inn l (rd (D4.cuts l) i)))=true:=An (by omega);have ol:=D4.one_length l (rd (D4.cuts l) i) (rd (D4.cuts l) (i+1)) s;have st0: ∀N,Zr (Wy l) (N+n3+1) (.to (.h1 ((i+1:Nat):Int) s.out s.last (s.first:Int) s.fin ((D4.cuts l).length) (Wu (Xp (D4.ends l)))))=Zr (Wy l) N (.to (.h2 ((i+1:Nat):Int) (l.length:Int) s.out s.last (s.first:Int) s.fin ((D4.cuts l).length) (Wu (Xp (D4.ends l))) (rd (D4.cuts l) i) (rd (D4.cuts l) (i+1)) (D4.inn l (rd (D4.cuts l) i)))):=fun N=>by
   rw [←h3 N,Zw];have e1:wrap .i64 (((i+1:Nat):Int) - 1)=(i:Int):=by rw [Yy];exact Zk (by omega)
   simp (disch:=omega) only [Wy,e1,r0,r1,Zc,Zq,Yz,Zt,Yc,Yv,Yj,Zf,Zk,Zx,Yd,Zj,Af,Ao,Ah,Aj,Ab,Aa]
  rcases Yp (decide (0<(D4.sec l (rd (D4.cuts l) i)).length)&&((s.fin == rd (D4.cuts l) i)&&D4.same s.last (D4.sec l (rd (D4.cuts l) i)))) with q | q
  ·obtain ⟨n5,h5⟩:=j1d l hl (i+1) (by omega) (rd (D4.cuts l) i) (rd (D4.cuts l) (i+1)) s.fin (D4.sec l (rd (D4.cuts l) i)) s.last (s.first:Int) (D4.inn l (rd (D4.cuts l) i)) (s.out.length - s.first) s.first s.out (by omega) (by omega)
   have e:D4.one l (rd (D4.cuts l) i) (rd (D4.cuts l) (i+1)) s=⟨D4.grow s.out s.first (rd (D4.cuts l) (i+1)),s.last,s.first,rd (D4.cuts l) (i+1)⟩:=by unfold Dim.one;rw [q];rfl
   obtain ⟨n0,h0⟩:=v6y k (i+1) (D4.one l (rd (D4.cuts l) i) (rd (D4.cuts l) (i+1)) s) (by omega) (by omega) (by omega) (by grind) (by grind [Dim.grow_length]);refine ⟨n0+n5+1+n3+1,?_⟩;rw [st0 (n0+n5+1),Zw];simp only [Ae,As] at q;obtain ⟨q1,q2,q3⟩:=q;have q3':Qi s.last (Xn (D4.inn l (rd (D4.cuts l) i)))=true:=q3
   grind [Wy,Zc,Dim.go]
  ·obtain ⟨n4,h4⟩:=j1e l hl (i+1) (by omega) (rd (D4.cuts l) i) (rd (D4.cuts l) (i+1)) (D4.sec l (rd (D4.cuts l) i)) (D4.sec l (rd (D4.cuts l) i)) (s.out.length:Int) (D4.inn l (rd (D4.cuts l) i)) hsl (D4.sec l (rd (D4.cuts l) i)).length 0 s.out (Af _) (by omega);simp only [AT,z7u] at h4;have e:D4.one l (rd (D4.cuts l) i) (rd (D4.cuts l) (i+1)) s=⟨s.out++(D4.sec l (rd (D4.cuts l) i)).map (D4.put (rd (D4.cuts l) i) (rd (D4.cuts l) (i+1))),D4.sec l (rd (D4.cuts l) i),s.out.length,rd (D4.cuts l) (i+1)⟩:=by unfold Dim.one;rw [q];rfl
   obtain ⟨n0,h0⟩:=v6y k (i+1) (D4.one l (rd (D4.cuts l) i) (rd (D4.cuts l) (i+1)) s) (by omega) (by omega) (by omega) (by grind) (by rw [e];simp);have hg:Zr (Wy l) 1 (.to (.h2 ((i+1:Nat):Int) (l.length:Int) s.out s.last (s.first:Int) s.fin ((D4.cuts l).length) (Wu (Xp (D4.ends l))) (rd (D4.cuts l) i) (rd (D4.cuts l) (i+1)) (D4.inn l (rd (D4.cuts l) i))))=.to (.h3 (rd (D4.cuts l) i) (rd (D4.cuts l) (i+1)) (D4.sec l (rd (D4.cuts l) i)) ((D4.sec l (rd (D4.cuts l) i)).length :Int) 0 (D4.sec l (rd (D4.cuts l) i)) ((i+1:Nat):Int) s.out (D4.sec l (rd (D4.cuts l) i)) (s.out.length:Int) ((D4.cuts l).length) (Wu (Xp (D4.ends l))) (D4.inn l (rd (D4.cuts l) i))):=by
    rw [show (1:Nat)=0+1 from rfl,Zw];rw [hsd] at q ⊢;have e3:D4.same s.last (Xn (D4.inn l (rd (D4.cuts l) i)))=Qi s.last (Xn (D4.inn l (rd (D4.cuts l) i))):=rfl;rw [e3] at q;by_cases q1:0<(Xn (D4.inn l (rd (D4.cuts l) i))).length
    ·rw [An q1,Aj] at q;rcases Yp (s.fin == rd (D4.cuts l) i) with q2 | q2
     ·rw [q2,Aj] at q;simp (disch:=omega) only [Wy,Zc,Zq,Yf,Xv,q2,q,w1,w2,Ab,Aa];rfl
     ·simp (disch:=omega) only [Wy,Zc,Zq,Yf,Xv,q2,w1,w2,Ab,Aa];rfl
    ·simp (disch:=omega) only [Wy,Zc,Zq,Yf,Wk,w1,w2,Ab,Aa];rfl
   refine ⟨n0+n4+1+n3+1,?_⟩;simp_all [z9h,Dim.go]
theorem j1g : ∀(k i:Nat) (acc:List Int),i+k=l.length→acc=D4.ends (l.take i)→ ∃n,Zr (Wy l) n (.to (.h0 (i:Int) acc))=.ret (z1w (D4.go l ((D4.cuts l).length - 1) 0 ⟨[],[],0,0⟩).out)
 | 0,i,acc,h,ha=>by
  have e:acc=D4.ends l:=by grind
  subst e;have hle:=D4.ends_length l;obtain ⟨n,hn⟩:=v6y l hl ((D4.cuts l).length - 1) 0 ⟨[],[],0,0⟩ (by omega) (AC _) (AC _) (AC _) (AC _);refine ⟨n+1,?_⟩;rw [Zw];simp (disch:=omega) only [Wy,Jj,Qv,z7t,Yf,Yv,Yj,Ao,Ab,Aa];exact hn
 | k+1,i,acc,h,ha=>by
  have hle:=D4.ends_length (l.take i);have hacc:acc.length≤2*i:=by grind
  obtain ⟨n,hn⟩:=j1g k (i+1) (acc++D4.ends [rd l i]) (by omega) (by
   rw [ha,AY];have:l[i]? =some (rd l i):=by grind [Yo]
   rw [this,D4.ends_append];rfl)
  refine ⟨n+1,?_⟩;rw [Zw];simp (disch:=omega) only [Wy,Zc,Zq,Yz,Zt,Yc,Yv,Yj,Zf,Zk,Zx,Yd,Zj,Af,Ao,Ah,Aj,Ab,Aa];exact hn
end
def j6j (l:List R4):Int:=x7e (D4.out l).length
def Wo (l:List R4):List R4:=y8o (j6j l) (D4.out l)
def z2p (l:List R4):Int:=j6j l
def Qo (l:List R4):Bool:=decide (l.length≤400)
theorem j6g (l:List R4) (h:Qo l=true): ∃n,Zr (Wy l) n (x3o l)=.ret (z7y (j6j l) (D4.out l)):=by rw [show z7y (j6j l) (D4.out l)=z1w (D4.out l) from (y7u _).symm];exact j1g l (Aw h) l.length 0 [] (Af _) rfl
def j2d (a b c d:Int):Bool:=Uf ⟨a,b,c,d⟩
theorem j2c (a b c d:Int): ∃N,Zr (x8g a b c d) N (y3k a b c d)=.ret [.bool (j2d a b c d)]:=⟨0,by
 unfold y3k j2d Uf;simp only [y1n];cases decide (a<c) <;> cases decide (b<d) <;> cases decide (a≥ -1000000) <;> cases decide (a≤1000000) <;> cases decide (c≥ -1000000) <;> cases decide (c≤1000000) <;> cases decide (b≥ -1000000) <;> cases decide (b≤1000000) <;> cases decide (d≥ -1000000) <;> rfl⟩
def fVl4 :List AVal→Option (AVal×Bool)
 | [.agg [.int .i64 aH,.int .i64 aO,.int .i64 aN,.int .i64 aR]]=>some (.bool (j2d aH aO aN aR),true)
 | _=>none
theorem j7g {S:Specs} (hS:Zu prog S):Zu prog (S.with w5t fVl4):=by
 refine z0f hS (by kernel_rfl) fun args v h=> ?_;unfold fVl4 at h;split at h
 ·rename_i aH aO aN aR;simp only [Ad,Ac,Bk] at h;subst h;obtain ⟨N,hN⟩:=j2c aH aO aN aR;exact ⟨_,_,(.cons (.refl _) .nil),rfl,u0h aH aO aN aR N _ hN,3,rfl⟩
 ·cases h
def fMad :List AVal→Option (AVal×Bool)
 | [a0]=>match asL R4 a0 with
  | some (L0,g0,n0)=>some (.tup [.dat (Wo L0).length (Zz (Wo L0)),.int .i64 (z2p L0)],isT R4 n0 g0&&(Qo L0))
  | _=>none
 | _=>none
theorem j8k {S:Specs} (hS:Zu prog S):Zu prog (S.with v6l fMad):=by
 refine w6t hS (by kernel_rfl) fun args v h=> ?_;unfold fMad at h;split at h
 ·rename_i a0;split at h
  ·rename_i L0 g0 n0 e0;simp only [Ad,Ac,Ae] at h;obtain ⟨rfl,ho0,hw⟩:=h;obtain ⟨N,hN⟩:=j6g L0 hw;exact ⟨_,_,(.cons (Yh e0 ho0) .nil),z0i _ _,u4f L0 N _ hN,3,z4y _ _⟩
  ·cases h
 ·cases h
def T6v :Specs:=(T6.with w5t fVl4)
theorem T6v_ok :Zu prog T6v:=(j7g Ko)
def T6m :Specs:=(T6v.with v6l fMad)
theorem y8m :Zu prog T6m:=(j8k T6v_ok)
inductive rgmS where
 | h0 (v8:Int)
def rgmC (l0:List R4):rgmS→Cfg
 | .h0 v8=>⟨⟨19,0,true⟩,none,(Zb prog 153 [1,0,1,0,0] 0),none,(Zy prog 6),⟨Yg [(0,(.dat l0.length (Zz l0))),(1,(.fn 115 [])),(7,(ii (l0.length:Int))),(8,(ii v8))],Vj [] 0,0,[],true⟩,[⟨⟨9,0,true⟩,(Vm prog 114 [1,0] 2),(Zb prog 114 [1,0] 1),none,(Zy prog 6),Yg [(5,(.dat l0.length (Zz l0))),(6,(.fn 115 []))]⟩,⟨⟨13,0,true⟩,(Vm prog 83 [1,1,0,0] 1),(Zb prog 83 [1,1,0,0] 1),none,(Zy prog 14),Yg [(0,(.dat l0.length (Zz l0))),(7,(.dat l0.length (Zz l0)))]⟩],.leaf⟩
def rgmN0 :List (Option (List Nat)):=[some [0,1,7,8],some [5,6],some [0,7]]
def rgmM0 :List (Option (List Nat)):=[]
def z4w (l0:List R4):rgmS→Xw rgmS
 | .h0 v8=>(bif (decide (v8<(l0.length:Int))) then (bif ((decide (0≤v8∧v8<(l0.length:Int)))&&true) then (bif (!(j2d (rd l0 v8.toNat).a (rd l0 v8.toNat).b (rd l0 v8.toNat).c (rd l0 v8.toNat).d)) then (bif (decide (v8≥0)) then (.ret [.nils,(.int .i64 8)]) else (bif (Qo (cvT l0)) then (.ret [(.dat (Wo (cvT l0)).length (Zz (Wo (cvT l0)))),(.int .i64 (z2p (cvT l0)))]) else .stuck)) else (.to (.h0 (wrap .i64 (v8+1))))) else .stuck) else (bif (Qo (cvT l0)) then (.ret [(.dat (Wo (cvT l0)).length (Zz (Wo (cvT l0)))),(.int .i64 (z2p (cvT l0)))]) else .stuck))
def z8n (l0:List R4):Xw rgmS:=(bif (decide ((l0.length:Int)>400)) then (.ret [.nils,(.int .i64 4)]) else (.to (.h0 0)))
theorem w9e (l0:List R4): ∀s,Yt prog (Zy prog 83) (rgmC l0) (rgmC l0 s) (z4w l0 s)
 | .h0 v8=>(lb (fun k0=>(lo fun aJ=>(lb (fun k1=>(lb (fun k2=>(lr 13 83 [1,1,0,1,0,0] 1 14 [(2,.nils),(3,(ii 8))] (sl y8m 54 [] ⟨[],[],[some [2,3]],[]⟩ ⟨[],[],[]⟩ (trs 3 []) (tt k2 (tt k1 (ww aJ (tt k0 nn))))))) (fun k2=>(lo fun o0=>(lr 13 3 [1,1,1,1,0] 1 14 [(2,(.dat (Wo (cvT l0)).length (Zz (Wo (cvT l0))))),(3,(ii (z2p (cvT l0))))] (sl y8m 59 [] ⟨[],[],[some [2,3]],[]⟩ ⟨[],[],[]⟩ (bl 3 3) (pp (pp (xr l0) (xw o0)) (tt k2 (tt k1 (ww aJ (tt k0 nn))))))))))) (fun k1=>(sl y8m 44 [] ⟨[],[],rgmN0,rgmM0⟩ ⟨[],[],[]⟩ (bl 2 1) (tt k1 (ww aJ (tt k0 nn)))))))) (fun k0=>(lo fun o0=>(lr 13 3 [1,1,1,1,0] 1 14 [(2,(.dat (Wo (cvT l0)).length (Zz (Wo (cvT l0))))),(3,(ii (z2p (cvT l0))))] (sl y8m 28 [] ⟨[],[],[some [2,3]],[]⟩ ⟨[],[],[]⟩ (bl 2 0) (pp (pp (xr l0) (xw o0)) (tt k0 nn)))))))
theorem w0i (l0:List R4):Yt prog (Zy prog 83) (rgmC l0) (Zg prog 83 [(.dat l0.length (Zz l0))] true []) (z8n l0):=(lb (fun k0=>(lr 13 83 [1,0,1,0,0] 1 14 [(2,.nils),(3,(ii 4))] (sl y8m 18 [] ⟨[],[],[some [2,3]],[]⟩ ⟨[],[],[]⟩ [true] (tt k0 nn)))) (fun k0=>(sl y8m 41 [] ⟨[],[],rgmN0,rgmM0⟩ ⟨[],[],[]⟩ [false] (tt k0 nn))))
theorem u2k (l0:List R4) (n:Nat) (vs:List AVal) (h:Zr (z4w l0) n (z8n l0)=.ret vs):Jy prog (Zy prog 83) (Zg prog 83 [(.dat l0.length (Zz l0))] true []) vs:=by have:=Zd (w9e l0) n _ (w0i l0);rwa [h] at this
theorem u9i (l:List R4) (hl:l.length≤400): ∀(k i:Nat),i+k=l.length→(∀s∈l.take i,Uf s=true)→ ∃n,Zr (z4w l) n (.to (.h0 (i:Int)))=.ret (bif l.all Uf then [.dat (Wo l).length (Zz (Wo l)),.int .i64 (z2p l)] else [.nils,.int .i64 8])
 | 0,i,h,ht=>by
  have hv:l.all Uf=true:=At.2 fun s hs=>ht s (by grind);have w:Qo l=true:=An hl;refine ⟨1,?_⟩
  grind [Zw,z4w,Zc,Zp]
 | k+1,i,h,ht=>by
  have hi:i<l.length:=by omega
  have hs:z4w l (.h0 (i:Int))=bif Uf (rd l i) then .to (.h0 ((i+1:Nat):Int)) else .ret [.nils,.int .i64 8]:=by have e:j2d (rd l i).a (rd l i).b (rd l i).c (rd l i).d =Uf (rd l i):=rfl;simp (disch:=omega) only [z4w,e,y7y,w6w,v8p,Zt,Zk,Zx,Zj,Ah,Ab,Aa]
  rcases Yp (Uf (rd l i)) with q | q
  ·obtain ⟨n,hn⟩:=u9i l hl k (i+1) (by omega) (fun s hs=>by
    rw [AY] at hs
    grind [Yo])
   refine ⟨n+1,?_⟩
   grind [Zw]
  ·have hv:l.all Uf=false:=A2.2 fun e=>by
    grind [Yo]
   refine ⟨1,?_⟩
   grind [Zw,Zp]
theorem u2j (l:List R4): ∃n,Zr (z4w l) n (z8n l)=.ret (bif decide (400<l.length) then [.nils,.int .i64 4] else bif l.all Uf then [.dat (Wo l).length (Zz (Wo l)),.int .i64 (z2p l)] else [.nils,.int .i64 8]):=by
 unfold z8n;by_cases h:400<l.length
 ·refine ⟨0,?_⟩;rw [An h,Xv (show (l.length:Int)>400 by omega)];rfl
 ·obtain ⟨n,hn⟩:=u9i l (by omega) l.length 0 (Af _) (fun s hs=>by simp at hs)
  grind
def Ze (l:List R4):List R4:=bif decide (400<l.length) then [] else bif l.all Uf then (bif decide (((D4.out l).length :Int)>400) then [] else D4.out l) else []
def Ww (l:List R4):Int:=bif decide (400<l.length) then 4 else bif l.all Uf then (bif decide (((D4.out l).length :Int)>400) then 4 else 0) else 8
def Uv (l:List R4):Bool:=true
theorem j4z (l:List R4) (h:Uv l=true): ∃n,Zr (z4w l) n (z8n l)=.ret (bif decide (400<l.length) then [.nils,.int .i64 4] else bif l.all Uf then [.dat (Ze l).length (Zz (Ze l)),.int .i64 (Ww l)] else [.nils,.int .i64 8]):=by
 obtain ⟨n,hn⟩:=u2j l
 grind [Wo,Ze,j6j,y8o,x7e,z2p,Ww]
def fRgm :List AVal→Option (AVal×Bool)
 | [a0]=>match asL R4 a0 with
  | some (L0,g0,n0)=>some (.tup [.dat (Ze L0).length (Zz (Ze L0)),.int .i64 (Ww L0)],isT R4 n0 g0&&(Uv L0))
  | _=>none
 | _=>none
theorem j7y {S:Specs} (hS:Zu prog S):Zu prog (S.with w5v fRgm):=by
 refine w6t hS (by kernel_rfl) fun args v h=> ?_;unfold fRgm at h;split at h
 ·rename_i a0;split at h
  ·rename_i L0 g0 n0 e0;simp only [Ad,Ac,Ae] at h;obtain ⟨rfl,ho0,hw⟩:=h;obtain ⟨N,hN⟩:=j4z L0 hw;refine ⟨_,_,(.cons (Yh e0 ho0) .nil),?_,u2k L0 N _ hN,3,?_⟩
   ·cases h1:decide (400<L0.length) <;> cases h2:L0.all Uf <;> simp only [Ze,Ww,h1,h2,Ab,Aa]
    ·exact fun ρ u hu=>z6m (.cons (z7h R4) (RLe.refl _)) ρ u hu
    ·exact fun ρ u hu=>hu
    ·exact fun ρ u hu=>z6m (.cons (z7h R4) (RLe.refl _)) ρ u hu
    ·exact fun ρ u hu=>z6m (.cons (z7h R4) (RLe.refl _)) ρ u hu
   ·cases decide (400<L0.length) <;> cases L0.all Uf <;> rfl
  ·cases h
 ·cases h
def T7 :Specs:=(T6m.with w5v fRgm)
theorem x7v :Zu prog T7:=(j7y y8m)
inductive vl6S where
def vl6C (aH:Int) (aO:Int) (aN:Int) (aR:Int) (aW:Int) (aV:Int):vl6S→Cfg
 :=nofun
def x8e (aH:Int) (aO:Int) (aN:Int) (aR:Int) (aW:Int) (aV:Int):vl6S→Xw vl6S
 :=nofun
def y3j (aH:Int) (aO:Int) (aN:Int) (aR:Int) (aW:Int) (aV:Int):Xw vl6S:=(bif (decide (aH<aR)) then (bif (decide (aO<aW)) then (bif (decide (aN<aV)) then (bif (decide ((z0r (z0r aH aO) aN)≥(-1000000))) then (bif (decide ((z0s (z0s aH aO) aN)≤1000000)) then (bif (decide ((z0r (z0r aR aW) aV)≥(-1000000))) then (.ret [(.bool (decide ((z0s (z0s aR aW) aV)≤1000000)))]) else (.ret [(.bool false)])) else (.ret [(.bool false)])) else (.ret [(.bool false)])) else (.ret [(.bool false)])) else (.ret [(.bool false)])) else (.ret [(.bool false)]))
theorem w7j (aH:Int) (aO:Int) (aN:Int) (aR:Int) (aW:Int) (aV:Int): ∀s,Yt prog (Zy prog 92) (vl6C aH aO aN aR aW aV) (vl6C aH aO aN aR aW aV s) (x8e aH aO aN aR aW aV s)
 :=nofun
theorem x8f (aH:Int) (aO:Int) (aN:Int) (aR:Int) (aW:Int) (aV:Int):Yt prog (Zy prog 92) (vl6C aH aO aN aR aW aV) (Zg prog 92 [(.agg [(.int .i64 aH),(.int .i64 aO),(.int .i64 aN),(.int .i64 aR),(.int .i64 aW),(.int .i64 aV)])] true []) (y3j aH aO aN aR aW aV):=(lb (fun k0=>(lb (fun k1=>(lb (fun k2=>(lb (fun k3=>(lb (fun k4=>(lb (fun k5=>(lr 38 3 [1,1,1,1,0] 1 9 [(2,(.bool (decide ((z0s (z0s aR aW) aV)≤1000000))))] (sl x7v 100 [] ⟨[],[],[some [2]],[]⟩ ⟨[],[],[]⟩ (trs 36 []) (tt k5 (tt k4 (tt k3 (tt k2 (tt k1 (tt k0 nn))))))))) (fun k5=>(lr 38 3 [1,1,1,1,0] 1 9 [(2,(.bool false))] (sl x7v 100 [] ⟨[],[],[some [2]],[]⟩ ⟨[],[],[]⟩ (trs 28 [false,false,false,false,false,false,false,false]) (tt k5 (tt k4 (tt k3 (tt k2 (tt k1 (tt k0 nn))))))))))) (fun k4=>(lr 38 3 [1,1,1,1,0] 1 9 [(2,(.bool false))] (sl x7v 72 [] ⟨[],[],[some [2]],[]⟩ ⟨[],[],[]⟩ (trs 25 [false,false,false]) (tt k4 (tt k3 (tt k2 (tt k1 (tt k0 nn)))))))))) (fun k3=>(lr 38 3 [1,1,1,1,0] 1 9 [(2,(.bool false))] (sl x7v 72 [] ⟨[],[],[some [2]],[]⟩ ⟨[],[],[]⟩ (trs 17 [false,false,false,false,false,false,false,false,false,false,false]) (tt k3 (tt k2 (tt k1 (tt k0 nn))))))))) (fun k2=>(lr 38 3 [1,1,1,1,0] 1 9 [(2,(.bool false))] (sl x7v 44 [] ⟨[],[],[some [2]],[]⟩ ⟨[],[],[]⟩ (trs 14 [false,false,false,false,false,false]) (tt k2 (tt k1 (tt k0 nn)))))))) (fun k1=>(lr 38 3 [1,1,1,1,0] 1 9 [(2,(.bool false))] (sl x7v 44 [] ⟨[],[],[some [2]],[]⟩ ⟨[],[],[]⟩ (trs 7 [false,false,false,false,false,false,false,false,false,false,false,false,false]) (tt k1 (tt k0 nn))))))) (fun k0=>(lr 38 3 [1,1,1,1,0] 1 9 [(2,(.bool false))] (sl x7v 44 [] ⟨[],[],[some [2]],[]⟩ ⟨[],[],[]⟩ [false,false,false,false,false,false,false,false,false,false,false,false,false,false,false,false,false,false,false,false] (tt k0 nn)))))
theorem u0g (aH:Int) (aO:Int) (aN:Int) (aR:Int) (aW:Int) (aV:Int) (n:Nat) (vs:List AVal) (h:Zr (x8e aH aO aN aR aW aV) n (y3j aH aO aN aR aW aV)=.ret vs):Jy prog (Zy prog 92) (Zg prog 92 [(.agg [(.int .i64 aH),(.int .i64 aO),(.int .i64 aN),(.int .i64 aR),(.int .i64 aW),(.int .i64 aV)])] true []) vs:=by have:=Zd (w7j aH aO aN aR aW aV) n _ (x8f aH aO aN aR aW aV);rwa [h] at this
def z4g (r:R6):Bool:=decide (r.a<r.d)&&(decide (r.b<r.e)&&(decide (r.c<r.f)&&(decide ((z0r (z0r r.a r.b) r.c)≥(-1000000))&&(decide ((z0s (z0s r.a r.b) r.c)≤1000000)&&(decide ((z0r (z0r r.d r.e) r.f)≥(-1000000))&&decide ((z0s (z0s r.d r.e) r.f)≤1000000))))))
def vl6V (a b c d e f:Int):Bool:=z4g ⟨a,b,c,d,e,f⟩
theorem j2b (a b c d e f:Int): ∃N,Zr (x8e a b c d e f) N (y3j a b c d e f)=.ret [.bool (vl6V a b c d e f)]:=⟨0,by
 unfold y3j vl6V z4g;simp only [y1n];cases decide (a<d) <;> cases decide (b<e) <;> cases decide (c<f) <;> cases decide ((z0r (z0r a b) c)≥(-1000000)) <;> cases decide ((z0s (z0s a b) c)≤1000000) <;> cases decide ((z0r (z0r d e) f)≥(-1000000)) <;> rfl⟩
def fVl6 :List AVal→Option (AVal×Bool)
 | [.agg [.int .i64 aH,.int .i64 aO,.int .i64 aN,.int .i64 aR,.int .i64 aW,.int .i64 aV]]=>some (.bool (vl6V aH aO aN aR aW aV),true)
 | _=>none
theorem j7f {S:Specs} (hS:Zu prog S):Zu prog (S.with w5r fVl6):=by
 refine z0f hS (by kernel_rfl) fun args v h=> ?_;unfold fVl6 at h;split at h
 ·rename_i aH aO aN aR aW aV;simp only [Ad,Ac,Bk] at h;subst h;obtain ⟨N,hN⟩:=j2b aH aO aN aR aW aV;exact ⟨_,_,(.cons (.refl _) .nil),rfl,u0g aH aO aN aR aW aV N _ hN,3,rfl⟩
 ·cases h
def T7v :Specs:=(T7.with w5r fVl6)
theorem Vr :Zu prog T7v:=(j7f x7v)
inductive sckS where
 | h0 (v8:Int)
 | h1 (v16:Int) (aC:List Int)
 | h2 (v4:Int) (aK:List R6) (aY:List R4) (bI:Int) (bJ:Int) (aI:Nat) (aL:List Int)
 | h3 (v4:Int) (v38:Int) (aK:List R6) (aY:List R4) (bI:Int) (bJ:Int) (aI:Nat) (aL:List Int) (aF:Int) (bE:Int) (aB:List R4)
 | h4 (v1:Int) (v2:Int) (v72:List R4) (v73:Int) (v74:Int) (cB:List R4) (bF:Int) (aD:List R6) (bL:List R4) (bG:Int) (aI:Nat) (aL:List Int) (aF:List R4)
 | h5 (v2:Int) (v8:Int) (cH:Int) (cB:List R4) (bF:Int) (aD:List R6) (bL:List R4) (bG:Int) (bW:Int) (bR:Nat) (bY:List Int) (aB:List R4)
abbrev x0f (aD:List R6) (v8:Int) (v2:Int):=(aD.set (0+(tn v8)) (R6.mk (rd aD (0+(tn v8))).a (rd aD (0+(tn v8))).b (rd aD (0+(tn v8))).c (rd aD (0+(tn v8))).d (rd aD (0+(tn v8))).e v2))
def v4a (l0:List R6):AFr:=⟨⟨25,0,true⟩,(Vm prog 52 [1,1,1,0,0] 3),(Zb prog 52 [1,1,1,0,0] 1),none,(Zy prog 9),Yg [(0,(.dat l0.length (Zz l0))),(11,(.agg [.nilf])),(13,(.sl 8 0 1 (.un 1)))]⟩
abbrev x0e (aC:List Int):=(Wu (Yu aC.length (cOf (Zz (Xp (Yu aC.length (cOf (Zz aC))))))))
abbrev x0d (aB:List R4) (l0:List R6) (v38:Int):=(aB++[(R4.mk (rd l0 (tn v38)).a (rd l0 (tn v38)).b (rd l0 (tn v38)).d (rd l0 (tn v38)).e)])
abbrev x0c (aD:List R6) (v72:List R4) (v74:Int) (v1:Int) (v2:Int):=(aD++[(R6.mk (rd v72 (tn v74)).a (rd v72 (tn v74)).b v1 (rd v72 (tn v74)).c (rd v72 (tn v74)).d v2)])
def u8i :=(y2m [(0,⟨.ready,none,65,Yg [(2,(.ptr 1 0)),(4,(.ptr 2 0)),(5,(.ptr 3 0)),(6,(.ptr 4 0))],[15],(Wt prog 93 [1,1,0,1,0,0]),(Wt prog 93 [1,1,0,1,0,1])⟩)])
def z2j (l0:List R6):AVal:=(.dat l0.length (Zz l0))
def u8h :AFr:=⟨⟨65,0,true⟩,none,(.inRangeFunc 0::(Zb prog 93 [1,1,0,1,0] 1)),none,(Zy prog 93),Yg [(4,(.ptr 2 0)),(5,(.ptr 3 0)),(6,(.ptr 4 0))]⟩
abbrev x0b (aC:List Int) (l0:List R6) (v16:Int):=(aC++[(rd l0 (tn v16)).c,(rd l0 (tn v16)).f])
def sckC (l0:List R6):sckS→Cfg
 | .h0 v8=>⟨⟨19,0,true⟩,none,(Zb prog 95 [1,0,1,0,0] 0),none,(Zy prog 6),⟨Yg [(0,(z2j l0)),(1,(.fn 91 [])),(7,(ii (l0.length:Int))),(8,(ii v8))],Vj [] 0,0,[],true⟩,[⟨⟨9,0,true⟩,(Vm prog 57 [1,0] 2),(Zb prog 57 [1,0] 1),none,(Zy prog 6),Yg [(5,(z2j l0)),(6,(.fn 91 []))]⟩,⟨⟨25,0,true⟩,(Vm prog 52 [1,1,0,0] 1),(Zb prog 52 [1,1,0,0] 1),none,(Zy prog 9),Yg [(0,(z2j l0)),(8,(z2j l0))]⟩],.leaf⟩
 | .h1 v16 aC=>⟨⟨36,0,true⟩,none,(Zb prog 135 [1,1,0,1,0,0,1,1,0,0,1,1,0,0] 0),none,(Zy prog 9),⟨Yg [(1,(.ptr 0 0)),(3,(.ptr 2 0)),(8,(.sl 1 0 1 (.un 1))),(9,(ii 1)),(10,(ii 0)),(14,(z2j l0)),(15,(ii (l0.length:Int))),(16,(ii v16))],Vj [⟨[(.sl 1 0 1 (.un 1))],177,none⟩,⟨[(z2j l0)],32,none⟩,⟨[(.sla 7 1 0 aC.length (.un 1))],125,none⟩,⟨[.nilf],101,none⟩,⟨[.nils],33,none⟩,⟨[(ii 0)],24,none⟩,⟨[.nils,.nils,(ii 0),(ii 0)],179,none⟩,⟨Ym aC.length (Zz aC),3,some ⟨1,aC.length,(Zz aC)⟩⟩] 0,8,[],true⟩,[⟨⟨65,0,true⟩,(Vm prog 93 [1,1,0,0] 1),(Zb prog 93 [1,1,0,0] 1),none,(Zy prog 93),Yg [(2,(.ptr 3 0)),(4,(.ptr 4 0)),(5,(.ptr 5 0)),(6,(.ptr 6 0)),(13,(.sl 1 0 1 (.un 1)))]⟩,⟨⟨25,0,true⟩,(Vm prog 52 [1,1,1,0,0] 3),(Zb prog 52 [1,1,1,0,0] 1),none,(Zy prog 9),Yg [(0,(z2j l0)),(11,(.agg [.nilf])),(13,(.sl 1 0 1 (.un 1)))]⟩],.leaf⟩
 | .h2 v4 aK aY bI bJ aI aL=>⟨⟨86,0,true⟩,none,(Zb prog 162 [1,0,0] 0),none,[],⟨Yg [(0,(.yld 0)),(1,(.ptr 5 0)),(2,(.ptr 7 0)),(4,(ii v4))],z6q [(1,⟨[.nilf],101,none⟩),(2,⟨[.nils],33,none⟩),(3,⟨[(ii 0)],24,none⟩),(4,⟨[(.sla 9 6 0 aK.length (.un 6)),(.dat aY.length (Zz aY)),(ii bI),(ii bJ)],179,none⟩),(5,⟨[(.sla 6 1 0 aI (.un 1))],125,none⟩),(6,⟨Ym aL.length (Zz aL),3,some ⟨1,aL.length,(Zz aL)⟩⟩),(7,⟨[(.sl 8 0 1 (.un 1))],177,none⟩),(8,⟨[(z2j l0)],32,none⟩),(9,⟨Ym aK.length (Zz aK),57,some ⟨6,aK.length,(Zz aK)⟩⟩)],10,[],true⟩,[u8h,(v4a l0)],u8i⟩
 | .h3 v4 v38 aK aY bI bJ aI aL aF bE aB=>⟨⟨86,0,true⟩,none,(Zb prog 162 [1,0,0,1,0,0,1,0,1,0,0,1,1,0,0,1,1,0,0] 0),none,[],⟨Yg [(0,(.yld 0)),(1,(.ptr 5 0)),(2,(.ptr 7 0)),(4,(ii v4)),(5,(.ptr 9 0)),(6,(ii 0)),(29,(.sl 8 0 1 (.un 1))),(30,(ii 1)),(31,(ii 0)),(36,(z2j l0)),(37,(ii (l0.length:Int))),(38,(ii v38))],z6q [(1,⟨[.nilf],101,none⟩),(2,⟨[.nils],33,none⟩),(3,⟨[(ii 0)],24,none⟩),(4,⟨[(.sla 12 6 0 aK.length (.un 6)),(.dat aY.length (Zz aY)),(ii bI),(ii bJ)],179,none⟩),(5,⟨[(.sla 6 1 0 aI (.un 1))],125,none⟩),(6,⟨Ym aL.length (Zz aL),3,some ⟨1,aL.length,(Zz aL)⟩⟩),(7,⟨[(.sl 8 0 1 (.un 1))],177,none⟩),(8,⟨[(z2j l0)],32,none⟩),(9,⟨[(ii aF),(ii bE),(.sl 10 0 1 (.ex 1))],184,none⟩),(10,⟨[(.sla 11 4 0 aB.length (.un 4))],80,none⟩),(11,⟨Ym aB.length (Zz aB),116,some ⟨4,aB.length,(Zz aB)⟩⟩),(12,⟨Ym aK.length (Zz aK),57,some ⟨6,aK.length,(Zz aK)⟩⟩)],13,[],true⟩,[u8h,(v4a l0)],u8i⟩
 | .h4 v1 v2 v72 v73 v74 cB bF aD bL bG aI aL aF=>⟨⟨101,0,true⟩,none,(Zb prog 136 [1,1,1,0,0] 0),none,[],⟨Yg [(0,(.ptr 0 0)),(1,(ii v1)),(2,(ii v2)),(72,(.dat v72.length (Zz v72))),(73,(ii v73)),(74,(ii v74))],z6q [(0,⟨[(.sla 10 6 0 aD.length (.un 6)),(.dat bL.length (Zz bL)),(ii bG),(ii v2)],179,none⟩),(2,⟨[.nilf],101,none⟩),(3,⟨[.nils],33,none⟩),(4,⟨[(ii 0)],24,none⟩),(5,⟨[(.sla 6 1 0 aI (.un 1))],125,none⟩),(6,⟨Ym aL.length (Zz aL),3,some ⟨1,aL.length,(Zz aL)⟩⟩),(7,⟨[(.sl 8 0 1 (.un 1))],177,none⟩),(8,⟨[(z2j l0)],32,none⟩),(9,⟨[(.dat aF.length (Zz aF))],80,none⟩),(10,⟨Ym aD.length (Zz aD),57,some ⟨6,aD.length,(Zz aD)⟩⟩)],11,[],true⟩,[⟨⟨65,0,true⟩,(Vm prog 93 [1,1,0,1,0,1,0,1,1,1] 5),(Zb prog 93 [1,1,0,1,0,1,0,1,1,1] 1),(some 1),[],Yg [(6,(.ptr 0 0)),(54,(ii v1)),(56,(ii v2)),(57,(.dat cB.length (Zz cB)))]⟩,⟨⟨86,0,true⟩,(Vm prog 162 [1,0,0,1,0,0,1,1,0] 2),(Zb prog 162 [1,0,0,1,0,0,1,1,0] 1),none,[],Yg [(0,(.yld 1)),(1,(.ptr 5 0)),(2,(.ptr 7 0)),(4,(ii bF)),(82,(.yld 1)),(83,(.agg [(ii v1),(ii v2),(.sl 9 0 1 (.ex 1))]))]⟩,⟨⟨65,0,true⟩,none,(.inRangeFunc 1::(Zb prog 93 [1,1,0,1,0] 1)),none,(Zy prog 93),Yg [(4,(.ptr 3 0)),(5,(.ptr 4 0)),(6,(.ptr 0 0))]⟩,(v4a l0)],(y2m [(1,⟨.busy,none,65,Yg [(2,(.ptr 2 0)),(4,(.ptr 3 0)),(5,(.ptr 4 0)),(6,(.ptr 0 0))],[15],(Wt prog 93 [1,1,0,1,0,0]),(Wt prog 93 [1,1,0,1,0,1])⟩)])⟩
 | .h5 v2 v8 cH cB bF aD bL bG bW bR bY aB=>⟨⟨101,0,true⟩,none,(Zb prog 136 [0,1,0,0,1,0,0] 0),none,[],⟨Yg [(0,(.ptr 0 0)),(2,(ii v2)),(8,(ii v8))],z6q [(0,⟨[(.sla 1 6 0 aD.length (.un 6)),(.dat bL.length (Zz bL)),(ii bG),(ii bW)],179,none⟩),(1,⟨Ym aD.length (Zz aD),57,some ⟨6,aD.length,(Zz aD)⟩⟩),(3,⟨[.nilf],101,none⟩),(4,⟨[.nils],33,none⟩),(5,⟨[(ii 0)],24,none⟩),(6,⟨[(.sla 7 1 0 bR (.un 1))],125,none⟩),(7,⟨Ym bY.length (Zz bY),3,some ⟨1,bY.length,(Zz bY)⟩⟩),(8,⟨[(.sl 9 0 1 (.un 1))],177,none⟩),(9,⟨[(z2j l0)],32,none⟩),(10,⟨[(.dat aB.length (Zz aB))],80,none⟩)],11,[],true⟩,[⟨⟨65,0,true⟩,(Vm prog 93 [1,1,0,1,0,1,0,1,1,1] 5),(Zb prog 93 [1,1,0,1,0,1,0,1,1,1] 1),(some 2),[],Yg [(6,(.ptr 0 0)),(54,(ii cH)),(56,(ii v2)),(57,(.dat cB.length (Zz cB)))]⟩,⟨⟨86,0,true⟩,(Vm prog 162 [1,0,0,1,0,0,1,1,0] 2),(Zb prog 162 [1,0,0,1,0,0,1,1,0] 1),none,[],Yg [(0,(.yld 2)),(1,(.ptr 6 0)),(2,(.ptr 8 0)),(4,(ii bF)),(82,(.yld 2)),(83,(.agg [(ii cH),(ii v2),(.sl 10 0 1 (.ex 1))]))]⟩,⟨⟨65,0,true⟩,none,(.inRangeFunc 2::(Zb prog 93 [1,1,0,1,0] 1)),none,(Zy prog 93),Yg [(4,(.ptr 4 0)),(5,(.ptr 5 0)),(6,(.ptr 0 0))]⟩,⟨⟨25,0,true⟩,(Vm prog 52 [1,1,1,0,0] 3),(Zb prog 52 [1,1,1,0,0] 1),none,(Zy prog 9),Yg [(0,(z2j l0)),(11,(.agg [.nilf])),(13,(.sl 9 0 1 (.un 1)))]⟩],(y2m [(2,⟨.busy,none,65,Yg [(2,(.ptr 3 0)),(4,(.ptr 4 0)),(5,(.ptr 5 0)),(6,(.ptr 0 0))],[15],(Wt prog 93 [1,1,0,1,0,0]),(Wt prog 93 [1,1,0,1,0,1])⟩)])⟩
def sckN0 :List (Option (List Nat)):=[some [0,1,7,8],some [5,6],some [0,8]]
def sckM0 :List (Option (List Nat)):=[]
def j3v :List (Option (List Nat)):=[some [1,3,8,9,10,14,15,16],some [2,4,5,6,13],some [0,11,13]]
def j3x :List (Option (List Nat)):=[]
def j3u :List (Option (List Nat)):=[some [0,1,2,4],some [4,5,6],some [0,11,13]]
def j3w :List (Option (List Nat)):=[some [2,4,5,6],none,none,none,none,none,none,none,none,none]
def u1i :List (Option (List Nat)):=[some [0,1,2,4,5,6,29,30,31,36,37,38],some [4,5,6],some [0,11,13]]
def u1k :List (Option (List Nat)):=[some [2,4,5,6],none,none,none,none,none,none,none,none,none,none,none,none]
def u1h :List (Option (List Nat)):=[some [0,1,2,72,73,74],some [6,54,56,57],some [0,1,2,4,82,83],some [4,5,6],some [0,11,13]]
def u1j :List (Option (List Nat)):=[none,some [2,4,5,6],none,none,none,none,none,none,none,none,none]
def sckN5 :List (Option (List Nat)):=[some [0,2,8],some [6,54,56,57],some [0,1,2,4,82,83],some [4,5,6],some [0,11,13]]
def sckM5 :List (Option (List Nat)):=[none,none,some [2,4,5,6],none,none,none,none,none,none,none,none]
def Xg (l0:List R6):sckS→Xw sckS
 | .h0 v8=>(bif (decide (v8<(l0.length:Int))) then (bif ((decide (0≤v8∧v8<(l0.length:Int)))&&true) then (bif (!(vl6V (rd l0 v8.toNat).a (rd l0 v8.toNat).b (rd l0 v8.toNat).c (rd l0 v8.toNat).d (rd l0 v8.toNat).e (rd l0 v8.toNat).f)) then (bif (decide (v8≥0)) then (.ret [(.int .i64 8)]) else (.to (.h1 0 ([]:List Int)))) else (.to (.h0 (wrap .i64 (v8+1))))) else .stuck) else (.to (.h1 0 ([]:List Int))))
 | .h1 v16 aC=>(bif (decide (v16<(l0.length:Int))) then (bif ((decide (0≤v16∧v16<(l0.length:Int)))&&true) then (bif (Nat.beq 1 1&&((decide (0+aC.length=aC.length))&&decide ((aC.length+2+1)*(8+1)≤room))) then (.to (.h1 (wrap .i64 (v16+1)) (aC++[(rd l0 v16.toNat).c,(rd l0 v16.toNat).f]))) else .stuck) else .stuck) else (bif (decide (aC.length<4611686018427387904)) then (bif (decide (aC.length=aC.length)) then (.to (.h2 1 ([]:List R6) ([]:List R4) 0 0 (v1h (Yu aC.length (cOf (Zz (Xp (Yu aC.length (cOf (Zz aC)))))))) (Wu (Yu aC.length (cOf (Zz (Xp (Yu aC.length (cOf (Zz aC)))))))))) else .stuck) else .stuck))
 | .h2 v4 aK aY bI bJ aI aL=>(bif (decide (v4<((aI:Nat):Int))) then (bif ((decide (0≤(wrap .i64 (v4 - 1))∧(wrap .i64 (v4 - 1))<((aI:Nat):Int)))&&true) then (bif (decide ((0+(Int.toNat (wrap .i64 (v4 - 1))))<aL.length)) then (bif ((decide (0≤v4∧v4<((aI:Nat):Int)))&&true) then (bif (decide ((0+v4.toNat)<aL.length)) then (.to (.h3 v4 0 aK aY bI bJ aI aL (rd aL (0+(Int.toNat (wrap .i64 (v4 - 1))))) (rd aL (0+v4.toNat)) ([]:List R4))) else .stuck) else .stuck) else .stuck) else .stuck) else (bif (decide ((aK.length:Int)>400)) then (.ret [(.int .i64 8)]) else (bif (Nat.beq 6 6&&(decide (0+aK.length≤aK.length)&&z1a (Zz aK))) then (bif (Vw (lst R6 (aK.length) (fun k=>(Zz aK) (0+k))) (cvT l0)) then (bif (!(Jf (lst R6 (aK.length) (fun k=>(Zz aK) (0+k))) (cvT l0))) then (.ret [(.int .i64 8)]) else (.ret [(.int .i64 0)])) else .stuck) else .stuck)))
 | .h3 v4 v38 aK aY bI bJ aI aL aF bE aB=>(bif (decide (v38<(l0.length:Int))) then (bif ((decide (0≤v38∧v38<(l0.length:Int)))&&true) then (bif (decide ((rd l0 v38.toNat).c ≤aF)) then (bif (decide (aF<(rd l0 v38.toNat).f)) then (bif (Nat.beq 4 4&&((decide (0+aB.length=aB.length))&&decide ((aB.length+1+1)*(32+1)≤room))) then (.to (.h3 v4 (wrap .i64 (v38+1)) aK aY bI bJ aI aL aF bE (aB++[(R4.mk (rd l0 v38.toNat).a (rd l0 v38.toNat).b (rd l0 v38.toNat).d (rd l0 v38.toNat).e)]))) else .stuck) else (.to (.h3 v4 (wrap .i64 (v38+1)) aK aY bI bJ aI aL aF bE aB))) else (.to (.h3 v4 (wrap .i64 (v38+1)) aK aY bI bJ aI aL aF bE aB))) else .stuck) else (bif (Uv (cvT aB)) then (bif ((Ww (cvT aB)) != 0) then (.ret [(.int .i64 8)]) else (bif (decide ((((Ze (cvT aB)).length :Nat):Int)>0)) then (bif (bJ == aF) then (bif (We (cvT aY) (cvT (Ze (cvT aB)))) then (bif (Ur (cvT aY) (cvT (Ze (cvT aB)))) then (.to (.h5 bE bI aF (Ze (cvT aB)) v4 aK aY bI bJ aI aL aB)) else (.to (.h4 aF bE (Ze (cvT aB)) (((Ze (cvT aB)).length :Nat):Int) 0 (Ze (cvT aB)) v4 aK (Ze (cvT aB)) (aK.length:Int) aI aL aB))) else .stuck) else (.to (.h4 aF bE (Ze (cvT aB)) (((Ze (cvT aB)).length :Nat):Int) 0 (Ze (cvT aB)) v4 aK (Ze (cvT aB)) (aK.length:Int) aI aL aB))) else (.to (.h4 aF bE (Ze (cvT aB)) (((Ze (cvT aB)).length :Nat):Int) 0 (Ze (cvT aB)) v4 aK (Ze (cvT aB)) (aK.length:Int) aI aL aB)))) else .stuck))
 | .h4 v1 v2 v72 v73 v74 cB bF aD bL bG aI aL aF=>(bif (decide (v74<v73)) then (bif ((decide (0≤v74∧v74<(v72.length:Int)))&&true) then (bif (Nat.beq 6 6&&((decide (0+aD.length=aD.length))&&decide ((aD.length+1+1)*(48+1)≤room))) then (.to (.h4 v1 v2 v72 v73 (wrap .i64 (v74+1)) cB bF (aD++[(R6.mk (rd v72 v74.toNat).a (rd v72 v74.toNat).b v1 (rd v72 v74.toNat).c (rd v72 v74.toNat).d v2)]) bL bG aI aL aF)) else .stuck) else .stuck) else (.to (.h2 (wrap .i64 (bF+1)) aD bL bG v2 aI aL)))
 | .h5 v2 v8 cH cB bF aD bL bG bW bR bY aB=>(bif (decide (v8<(aD.length:Int))) then (bif ((decide (0≤v8∧v8<(aD.length:Int)))&&true) then (bif (decide ((0+v8.toNat)<aD.length)) then (.to (.h5 v2 (wrap .i64 (v8+1)) cH cB bF (aD.set (0+v8.toNat) (R6.mk (rd aD (0+v8.toNat)).a (rd aD (0+v8.toNat)).b (rd aD (0+v8.toNat)).c (rd aD (0+v8.toNat)).d (rd aD (0+v8.toNat)).e v2)) bL bG bW bR bY aB)) else .stuck) else .stuck) else (.to (.h2 (wrap .i64 (bF+1)) aD bL bG v2 bR bY)))
def y3v (l0:List R6):Xw sckS:=(bif (decide ((l0.length:Int)>400)) then (.ret [(.int .i64 4)]) else (.to (.h0 0)))
theorem w8i (l0:List R6): ∀s,Yt prog (Zy prog 52) (sckC l0) (sckC l0 s) (Xg l0 s)
 | .h0 v8=>(lb (fun k0=>(lo fun aJ=>(lb (fun k1=>(lb (fun k2=>(lr 25 52 [1,1,0,1,0,0] 1 9 [(2,(ii 8))] (sl Vr 53 [] ⟨[],[],[some [2]],[]⟩ ⟨[],[],[]⟩ (trs 3 []) (tt k2 (tt k1 (ww aJ (tt k0 nn))))))) (fun k2=>(sl Vr 113 [(3,1,Zz ([]:List Int))] ⟨[6,1,7,2,3,4,5,8],[],j3v,j3x⟩ ⟨[],[.keep,.keep,.cells [.grow 7 1],.keep,.keep,.keep,.keep,.keep],[]⟩ (bl 4 11) (pp (fl ([]:List Int) nn) (tt k2 (tt k1 (ww aJ (tt k0 nn))))))))) (fun k1=>(sl Vr 44 [] ⟨[],[],sckN0,sckM0⟩ ⟨[],[],[]⟩ (bl 2 1) (tt k1 (ww aJ (tt k0 nn)))))))) (fun k0=>(sl Vr 82 [(3,1,Zz ([]:List Int))] ⟨[5,0,6,1,2,3,4,7],[],j3v,j3x⟩ ⟨[],[.keep,.keep,.cells [.grow 7 1],.keep,.keep,.keep,.keep,.keep],[]⟩ (bl 3 4) (pp (fl ([]:List Int) nn) (tt k0 nn)))))
 | .h1 v16 aC=>(lb (fun k0=>(lo fun o0=>(lo fun o1=>(sl Vr 34 [] ⟨[0,1,2,3,4,5,6,10],[],j3v,j3x⟩ ⟨[],[.keep,.keep,.cells [.len (x0b aC l0 v16).length],.keep,.keep,.keep,.keep,.rowed 1 (x0b aC l0 v16).length (Zz (x0b aC l0 v16))],[]⟩ [true] (pp (xL (aC.length+2) (x0b aC l0 v16).length) (pp (xL (aC.length+2) (x0b aC l0 v16).length) (pp (xS (aC.length+2) (Zo (Zz aC) 0 aC.length 1 [(ii (rd l0 (tn v16)).c),(ii (rd l0 (tn v16)).f)]) (Zz (x0b aC l0 v16))) (pp (pp (xF (Zo (Zz aC) 0 aC.length 1 [(ii (rd l0 (tn v16)).c),(ii (rd l0 (tn v16)).f)])) nn) (ww o1 (ww o0 (tt k0 nn))))))))))) (fun k0=>(lo fun o0=>(lo fun o1=>(sl Vr 46 [(57,6,Zz ([]:List R6))] ⟨[8,3,4,5,6,2,7,0,1,9],[],j3u,j3w⟩ ⟨[],(kpB 4 [.cells [.grow 9 6,.list 0 (Zz ([]:List R4)),.keep,.keep],.keep,.rowed 1 (x0e aC).length (Zz (x0e aC)),.keep,.keep,.keep]),[]⟩ (bl 2 0) (pp (xL aC.length (x0e aC).length (by first | exact z0z _ _ | exact Uy rfl)) (pp (xS aC.length (Zz (x0e aC)) (Zz (x0e aC))) (pp (fl (x0e aC) (fl ([]:List R6) nn)) (pp (pp (xG (Nat.beq 1 1)) (pp (xG (Nat.beq 1 1)) (pp (xG (Nat.beq 0 0)) (pp (xG (decide (aC.length=aC.length))) (pp (xG (isI (Zz (Xp (Yu aC.length (cOf (Zz aC))))))) (xG (decide (aC.length<4611686018427387904)))))))) (pp (pp (xG (Nat.beq 1 1)) (pp (xG (Nat.beq 1 1)) (pp (xG (Nat.beq 0 0)) (pp (xG (decide (aC.length=aC.length))) (pp (xG (isI (Zz aC))) (xG (decide (aC.length<4611686018427387904)))))))) (tt k0 nn)))))))))))
 | .h2 v4 aK aY bI bJ aI aL=>(lb (fun k0=>(lo fun o0=>(lo fun o1=>(lo fun o2=>(lo fun o3=>(sl Vr 48 [(116,4,Zz ([]:List R4))] ⟨[0,1,2,3,4,5,6,7,8,10,11,12,9],[],u1i,u1k⟩ ⟨[],(kpB 10 [.cells [.grow 11 4],.keep,.keep]),[]⟩ (trs 3 []) (pp (fl aL (fl ([]:List R4) (fl aK nn))) (ww o3 (ww o2 (ww o1 (ww o0 (tt k0 nn)))))))))))) (fun k0=>(lb (fun k1=>(lr 25 52 [1,1,1,0,1,1,0,0] 1 9 [(2,(ii 8))] (sl Vr 50 [] ⟨[],[],[some [2]],[]⟩ ⟨[],[],[]⟩ (bl 7 126) (tt k1 (tt k0 nn))))) (fun k1=>(lo fun bX=>(lo fun dI=>(lb (fun k2=>(lr 25 52 [1,1,1,0,1,1,0,0] 1 9 [(2,(ii 8))] (sl Vr 53 [] ⟨[],[],[some [2]],[]⟩ ⟨[],[],[]⟩ (bl 7 64) (tt k2 (pp (pp (pp (xw bX) (pp nn nn)) (pp (xI R6 (aK.length) (fun k=>(Zz aK) (0+k))) (pp (xr l0) (xw dI)))) (tt k1 (tt k0 nn))))))) (fun k2=>(lr 25 3 [1,1,1,1,0] 1 9 [(2,(ii 0))] (sl Vr 54 [] ⟨[],[],[some [2]],[]⟩ ⟨[],[],[]⟩ (bl 7 0) (tt k2 (pp (pp (pp (xw bX) (pp nn nn)) (pp (xI R6 (aK.length) (fun k=>(Zz aK) (0+k))) (pp (xr l0) (xw dI)))) (tt k1 (tt k0 nn))))))))))))))
 | .h3 v4 v38 aK aY bI bJ aI aL aF bE aB=>(lb (fun k0=>(lo fun aJ=>(lb (fun k1=>(lb (fun k2=>(lo fun o0=>(sl Vr 41 [] ⟨[0,1,2,3,4,5,6,7,8,9,10,15,12],[],u1i,u1k⟩ ⟨[],(kpB 10 [.cells [.len (x0d aB l0 v38).length],.rowed 4 (x0d aB l0 v38).length (Zz (x0d aB l0 v38)),.keep]),[]⟩ (trs 8 []) (pp (xL (aB.length+1) (x0d aB l0 v38).length) (pp (xL (aB.length+1) (x0d aB l0 v38).length) (pp (xS (aB.length+1) (Zo (Zz aB) 0 aB.length 4 [(ii (rd l0 (tn v38)).a),(ii (rd l0 (tn v38)).b),(ii (rd l0 (tn v38)).d),(ii (rd l0 (tn v38)).e)]) (Zz (x0d aB l0 v38))) (pp (fl aL (pp (xF (Zo (Zz aB) 0 aB.length 4 [(ii (rd l0 (tn v38)).a),(ii (rd l0 (tn v38)).b),(ii (rd l0 (tn v38)).d),(ii (rd l0 (tn v38)).e)])) (fl aK nn))) (ww o0 (tt k2 (tt k1 (ww aJ (tt k0 nn)))))))))))) (fun k2=>(sl Vr 41 [] ⟨(List.range 13),[],u1i,u1k⟩ ⟨[],[],[]⟩ (trs 7 [false]) (pp (fl aL (fl aB (fl aK nn))) (tt k2 (tt k1 (ww aJ (tt k0 nn))))))))) (fun k1=>(sl Vr 41 [] ⟨(List.range 13),[],u1i,u1k⟩ ⟨[],[],[]⟩ (bl 8 1) (pp (fl aL (fl aB (fl aK nn))) (tt k1 (ww aJ (tt k0 nn))))))))) (fun k0=>(Xa (sl Vr (C':=⟨⟨65,0,true⟩,(Vm prog 93 [1,1,0,1,0,1,0,0] 4),(Zb prog 93 [1,1,0,1,0,1,0,0] 1),(some 0),[],⟨Yg [(2,(.ptr 1 0)),(4,(.ptr 2 0)),(5,(.ptr 3 0)),(6,(.ptr 4 0)),(7,(.ptr 6 0)),(20,(.dat aB.length (Zz aB)))],z6q [(1,⟨[.nilf],101,none⟩),(2,⟨[.nils],33,none⟩),(3,⟨[(ii 0)],24,none⟩),(4,⟨[(.sla 5 6 0 aK.length (.un 6)),(.dat aY.length (Zz aY)),(ii bI),(ii bJ)],179,none⟩),(5,⟨Ym aK.length (Zz aK),57,some ⟨6,aK.length,(Zz aK)⟩⟩),(6,⟨[(ii aF),(ii bE),(.sl 7 0 1 (.ex 1))],184,none⟩),(7,⟨[(.dat aB.length (Zz aB))],80,none⟩),(8,⟨[(.sla 9 1 0 aI (.un 1))],125,none⟩),(9,⟨Ym aL.length (Zz aL),3,some ⟨1,aL.length,(Zz aL)⟩⟩),(10,⟨[(.sl 11 0 1 (.un 1))],177,none⟩),(11,⟨[(.dat l0.length (Zz l0))],32,none⟩)],12,[],true⟩,[⟨⟨86,0,true⟩,(Vm prog 162 [1,0,0,1,0,0,1,1,0] 2),(Zb prog 162 [1,0,0,1,0,0,1,1,0] 1),none,[],Yg [(0,(.yld 0)),(1,(.ptr 8 0)),(2,(.ptr 10 0)),(4,(ii v4)),(82,(.yld 0)),(83,(.agg [(ii aF),(ii bE),(.sl 7 0 1 (.ex 1))]))]⟩,⟨⟨65,0,true⟩,none,(.inRangeFunc 0::(Zb prog 93 [1,1,0,1,0] 1)),none,(Zy prog 93),Yg [(4,(.ptr 2 0)),(5,(.ptr 3 0)),(6,(.ptr 4 0))]⟩,⟨⟨25,0,true⟩,(Vm prog 52 [1,1,1,0,0] 3),(Zb prog 52 [1,1,1,0,0] 1),none,(Zy prog 9),Yg [(0,(.dat l0.length (Zz l0))),(11,(.agg [.nilf])),(13,(.sl 11 0 1 (.un 1)))]⟩],(y2m [(0,⟨.busy,none,65,Yg [(2,(.ptr 1 0)),(4,(.ptr 2 0)),(5,(.ptr 3 0)),(6,(.ptr 4 0))],[15],(Wt prog 93 [1,1,0,1,0,0]),(Wt prog 93 [1,1,0,1,0,1])⟩)])⟩) 37 [] ⟨[0,1,2,3,4,12,13,10,5,6,7,8],[11],[some [2,4,5,6,7,20],some [0,1,2,4,82,83],some [4,5,6],some [0,11,13]],[some [2,4,5,6],none,none,none,none,none,none,none,none,none,none,none]⟩ ⟨[(20,.frz aB.length aB.length (Zz aB) (Zz aB))],[.keep,.keep,.keep,.keep,.keep,.keep,.keep,.cells [.frz aB.length aB.length (Zz aB) (Zz aB)],.keep,.keep,.keep,.keep],[]⟩ (bl 2 0) (pp (xZ (z6e 4 4 0 aB.length aB.length (Zz aB)) aB.length (Zz aB)) (pp (xL aB.length aB.length) (pp (xS aB.length (Zz aB) (Zz aB)) (pp (xZ (z6e 4 4 0 aB.length aB.length (Zz aB)) aB.length (Zz aB)) (pp (xL aB.length aB.length) (pp (xS aB.length (Zz aB) (Zz aB)) (pp (fl aK (fl aL nn)) (pp (fl aB nn) (tt k0 nn)))))))))) (lo fun aJ=>(lb (fun k1=>(lr 25 52 [1,1,1,0,1,1,0,0] 1 9 [(2,(ii 8))] (sl Vr 67 [] ⟨[],[],[some [2]],[]⟩ ⟨[],[],[]⟩ (bl 8 254) (tt k1 (tt k1 (pp (pp (xr aB) (xw aJ)) nn)))))) (fun k1=>(lb (fun k2=>(lb (fun k3=>(lo fun cD=>(lb (fun k4=>(sl Vr 75 [] ⟨[4,5,0,1,2,3,8,9,10,11,7],[],sckN5,sckM5⟩ ⟨[],[],[]⟩ (bl 15 32764) (pp (fl aK (fl aL nn)) (tt k4 (pp (pp (xr aY) (pp (xI R4 (Ze (cvT aB)).length (Zz (Ze (cvT aB)))) (xw cD))) (tt k3 (tt k2 (tt k1 (pp (pp (xr aB) (xw aJ)) nn))))))))) (fun k4=>(sl Vr 95 [] ⟨[4,0,1,2,3,8,9,10,11,7,5],[],u1h,u1j⟩ ⟨[],[],[]⟩ (bl 15 16380) (pp (fl aL (fl aK nn)) (tt k4 (pp (pp (xr aY) (pp (xI R4 (Ze (cvT aB)).length (Zz (Ze (cvT aB)))) (xw cD))) (tt k3 (tt k2 (tt k1 (pp (pp (xr aB) (xw aJ)) nn)))))))))))) (fun k3=>(sl Vr 95 [] ⟨[4,0,1,2,3,8,9,10,11,7,5],[],u1h,u1j⟩ ⟨[],[],[]⟩ (bl 15 252) (pp (fl aL (fl aK nn)) (tt k3 (tt k2 (tt k1 (pp (pp (xr aB) (xw aJ)) nn))))))))) (fun k2=>(sl Vr 95 [] ⟨[4,0,1,2,3,8,9,10,11,7,5],[],u1h,u1j⟩ ⟨[],[],[]⟩ (bl 15 0) (pp (fl aL (fl aK nn)) (tt k2 (tt k1 (pp (pp (xr aB) (xw aJ)) nn)))))))))))))
 | .h4 v1 v2 v72 v73 v74 cB bF aD bL bG aI aL aF=>(lb (fun k0=>(lo fun o0=>(lo fun o1=>(sl Vr 23 [] ⟨[0,1,2,3,4,5,6,7,8,9,13],[],u1h,u1j⟩ ⟨[],[.cells [.len (x0c aD v72 v74 v1 v2).length,.keep,.keep,.keep],.keep,.keep,.keep,.keep,.keep,.keep,.keep,.keep,.keep,.rowed 6 (x0c aD v72 v74 v1 v2).length (Zz (x0c aD v72 v74 v1 v2))],[]⟩ [true] (pp (xL (aD.length+1) (x0c aD v72 v74 v1 v2).length) (pp (xL (aD.length+1) (x0c aD v72 v74 v1 v2).length) (pp (xS (aD.length+1) (Zo (Zz aD) 0 aD.length 6 [(ii (rd v72 (tn v74)).a),(ii (rd v72 (tn v74)).b),(ii v1),(ii (rd v72 (tn v74)).c),(ii (rd v72 (tn v74)).d),(ii v2)]) (Zz (x0c aD v72 v74 v1 v2))) (pp (fl aL (pp (xF (Zo (Zz aD) 0 aD.length 6 [(ii (rd v72 (tn v74)).a),(ii (rd v72 (tn v74)).b),(ii v1),(ii (rd v72 (tn v74)).c),(ii (rd v72 (tn v74)).d),(ii v2)])) nn)) (ww o1 (ww o0 (tt k0 nn))))))))))) (fun k0=>(sl Vr 22 [] ⟨[1,2,3,4,0,5,6,7,8,10],[],j3u,j3w⟩ ⟨[],[],[]⟩ (bl 2 0) (pp (fl aL (fl aD nn)) (tt k0 nn)))))
 | .h5 v2 v8 cH cB bF aD bL bG bW bR bY aB=>(lb (fun k0=>(lo fun o0=>(lo fun o1=>(sl Vr 34 [] ⟨(List.range 11),[],sckN5,sckM5⟩ ⟨[],[.cells [.len (x0f aD v8 v2).length,.keep,.keep,.keep],.rowed 6 (x0f aD v8 v2).length (Zz (x0f aD v8 v2)),.keep,.keep,.keep,.keep,.keep,.keep,.keep,.keep,.keep],[]⟩ [true] (pp (xL aD.length (x0f aD v8 v2).length) (pp (xL aD.length (x0f aD v8 v2).length) (pp (xS aD.length (Xt (Zz aD) (0+(tn v8)) 5 [(ii v2)]) (Zz (x0f aD v8 v2))) (pp (pp (xF (Xt (Zz aD) (0+(tn v8)) 5 [(ii v2)])) (fl bY nn)) (ww o1 (ww o0 (tt k0 nn))))))))))) (fun k0=>(sl Vr 36 [] ⟨[2,3,4,5,0,6,7,8,9,1],[],j3u,j3w⟩ ⟨[],[],[]⟩ (bl 2 0) (pp (fl bY (fl aD nn)) (tt k0 nn)))))
theorem x9g (l0:List R6):Yt prog (Zy prog 52) (sckC l0) (Zg prog 52 [(.dat l0.length (Zz l0))] true []) (y3v l0):=(lb (fun k0=>(lr 25 52 [1,0,1,0,0] 1 9 [(2,(ii 4))] (sl Vr 16 [] ⟨[],[],[some [2]],[]⟩ ⟨[],[],[]⟩ [true] (tt k0 nn)))) (fun k0=>(sl Vr 40 [] ⟨[],[],sckN0,sckM0⟩ ⟨[],[],[]⟩ [false] (tt k0 nn))))
theorem u1g (l0:List R6) (n:Nat) (vs:List AVal) (h:Zr (Xg l0) n (y3v l0)=.ret vs):Jy prog (Zy prog 52) (Zg prog 52 [(.dat l0.length (Zz l0))] true []) vs:=by have:=Zd (w8i l0) n _ (x9g l0);rwa [h] at this
theorem w0j (l:List R4):(Ze l).length ≤400:=by
 grind [Ze]
def D6 :Dim R6 R4:=⟨R6.c,R6.f,fun r=>⟨r.a,r.b,r.d,r.e⟩,fun x x' s=>⟨s.a,s.b,x,s.c,s.d,x'⟩,fun x r=>⟨r.a,r.b,r.c,r.d,r.e,x⟩,Ze,Ur⟩
theorem D6_sec (l:List R6) (x:Int):(D6.sec l x).length ≤1000:=Av (w0j _) (by omega)
def sckErr :List AVal:=[.int .i64 8]
def x5i (l out:List R6):List AVal:=bif decide ((out.length:Int)>400) then [.int .i64 8] else bif Jf out l then [.int .i64 0] else [.int .i64 8]
def badS (l:List R6) (x:Int):Bool:=Ww (D6.inn l x) != 0
def okF (l:List R6):Nat→Nat→Bool
 | 0,_=>true
 | k+1,i=>bif badS l (rd (D6.cuts l) i) then false else okF l k (i+1)
section
variable (l:List R6) (hl:l.length≤400)
include hl
theorem u8d (i:Nat) (out:List R6) (last:List R4) (first fin x x':Int): ∀(k j:Nat) (acc:List R4),j+k=l.length→acc.length≤j→
  ∃n,∀N,Zr (Xg l) (N+n) (.to (.h3 (i:Int) (j:Int) out last first fin ((D6.cuts l).length) (Wu (Xp (D6.ends l))) x x' acc))=Zr (Xg l) N (.to (.h3 (i:Int) (l.length:Int) out last first fin ((D6.cuts l).length) (Wu (Xp (D6.ends l))) x x' (acc++D6.inn (l.drop j) x)))
 | 0,j,acc,h,ha=>by refine ⟨0,fun N=> ?_⟩;rw [Ar (by omega),show D6.inn ([]:List R6) x=[] from rfl,AD,Bl,show j=l.length by omega]
 | k+1,j,acc,h,ha=>by
  have hj:j<l.length:=by omega
  obtain ⟨n,hn⟩:=u8d i out last first fin x x' k (j+1) (acc++D6.inn [rd l j] x) (by omega) (by have:=D6.inn_length [rd l j] x;grind)
  refine ⟨n+1,fun N=> ?_⟩;have e:D6.inn (l.drop j) x=D6.inn [rd l j] x++D6.inn (l.drop (j+1)) x:=by rw [Yq hj,←D6.inn_append];rfl
  rw [e,←Ay,Zw,←AJ,←hn N];by_cases h1:D6.lo (rd l j)≤x
  ·by_cases h2:x<D6.hi (rd l j)
   ·rw [D6.inn_t _ _ h1 h2];simp only [D6] at h1 h2 ⊢;simp (disch:=omega) only [Xg,Xs,Zc,Zq,Yz,Zt,Yc,Yv,Yj,Zf,Zk,Zx,Yd,Zj,Af,Ao,Ah,Aj,Ab,Aa]
   ·rw [D6.inn_f2 _ _ h2,AD];simp only [D6] at h1 h2;simp (disch:=omega) only [Xg,Xs,Yf,Zc,Zq,Yz,Zt,Yc,Yv,Yj,Zf,Zk,Zx,Yd,Zj,Af,Ao,Ah,Aj,Ab,Aa]
  ·rw [D6.inn_f1 _ _ h1,AD];simp only [D6] at h1;simp (disch:=omega) only [Xg,w3b,Zc,Zq,Yz,Zt,Yc,Yv,Yj,Zf,Zk,Zx,Yd,Zj,Af,Ao,Ah,Aj,Ab,Aa]
theorem u8c (i:Nat) (hi:i≤1000) (x x':Int) (s last:List R4) (first:Int) (inn:List R4) (hs:s.length≤1000): ∀(k j:Nat) (out:List R6),j+k=s.length→out.length≤10000000+j→
  ∃n,∀N,Zr (Xg l) (N+n) (.to (.h4 x x' s (s.length:Int) (j:Int) s (i:Int) out last first ((D6.cuts l).length) (Wu (Xp (D6.ends l))) inn))=Zr (Xg l) N (.to (.h2 ((i+1:Nat):Int) (out++(s.drop j).map (D6.put x x')) last first x' ((D6.cuts l).length) (Wu (Xp (D6.ends l)))))
 | 0,j,out,h,ho=>by
  have _u:=hl;refine ⟨1,fun N=> ?_⟩
  grind [Zw,Xg,Zk]
 | k+1,j,out,h,ho=>by
  obtain ⟨n,hn⟩:=u8c i hi x x' s last first inn hs k (j+1) (out++[D6.put x x' (rd s j)]) (by omega) (by simp;omega)
  refine ⟨n+1,fun N=> ?_⟩;have:=hn N;rw [Yq (show j<s.length by omega),AU,←Ay,Zw];simp (disch:=omega) only [Xg,Zc,Zq,Yz,Zt,Yc,Yv,Yj,Zf,Zk,Zx,Yd,Zj,Af,Ao,Ah,Aj,Ab,Aa];rw [AJ] at this;exact this
theorem u8b (i:Nat) (hi:i≤1000) (x x' fin:Int) (s last:List R4) (first:Int) (inn:List R4): ∀(k j:Nat) (out:List R6),j+k=out.length→out.length≤10000000→
  ∃n,∀N,Zr (Xg l) (N+n) (.to (.h5 x' (j:Int) x s (i:Int) out last first fin ((D6.cuts l).length) (Wu (Xp (D6.ends l))) inn))=Zr (Xg l) N (.to (.h2 ((i+1:Nat):Int) (D6.grow out j x') last first x' ((D6.cuts l).length) (Wu (Xp (D6.ends l)))))
 | 0,j,out,h,ho=>by
  have _u:=hl;refine ⟨1,fun N=> ?_⟩;rw [D6.grow_nil _ _ _ (by omega),Zw]
  grind [Xg,Zk]
 | k+1,j,out,h,ho=>by
  obtain ⟨n,hn⟩:=u8b i hi x x' fin s last first inn k (j+1) (out.set j (D6.ext x' (rd out j))) (by simp;omega) (by grind)
  refine ⟨n+1,fun N=> ?_⟩;have:=hn N;rw [D6.grow_set out j _ (by omega)] at this;rw [←Ay,Zw];simp (disch:=omega) only [Xg,Zc,Zq,Yz,Zt,Yc,Yv,Yj,Zf,Zk,Zx,Yd,Zj,Af,Ao,Ah,Aj,Ab,Aa];exact this
theorem v3z : ∀(k i:Nat) (s:Sw R6 R4),k=(D6.cuts l).length - 1 - i→i≤(D6.cuts l).length →s.out.length≤i*1000→s.last.length≤1000→s.first≤s.out.length→
  ∃n,Zr (Xg l) n (.to (.h2 ((i+1:Nat):Int) s.out s.last (s.first:Int) s.fin ((D6.cuts l).length) (Wu (Xp (D6.ends l)))))=.ret ((bif okF l k i then x5i l (D6.go l k i s).out else sckErr))
 | 0,i,s,h,hi,ho,hla,hf=>by
  have hc:=D6.cuts_length l;refine ⟨1,?_⟩;rw [Zw,show D6.go l 0 i s=s from rfl,show okF l 0 i=true from rfl,Ab];unfold x5i;by_cases q:(s.out.length:Int)>400
  ·grind [Xg,Zp]
  ·have e:lst R6 s.out.length (fun k=>(Zz s.out) k)=s.out:=Zq s.out;have w:Vw s.out l=true:=An (by omega);have f:z1a (Zz s.out)=true:=Xe _;rcases Yp (Jf s.out l) with q2 | q2 <;>
   simp (disch:=omega) only [Xg,Zc,e,w,f,q2,Yf,Wk,Yc,Yd,Af,Az,AE,Ah,Ab,Aa,Zp]
 | k +1,i,s,h,hi,ho,hla,hf=>by
  have hc:=D6.cuts_length l;have hi1:i+1<(D6.cuts l).length :=by omega
  have hpl:(Wu (Xp (D6.ends l))).length =2*l.length:=by rw [Vf,Vy,D6.ends_length]
  have r0:rd (Wu (Xp (D6.ends l))) i=rd (D6.cuts l) i:=z5a _ _ (by show i<(D6.cuts l).length;omega);have r1:rd (Wu (Xp (D6.ends l))) (i+1)=rd (D6.cuts l) (i+1):=z5a _ _ (by show i+1<(D6.cuts l).length;omega);have hbig:i*1000≤1000*1000:=AA _ (by omega);have hsl:=D6_sec l (rd (D6.cuts l) i);have hsd:D6.sec l (rd (D6.cuts l) i)=Ze (D6.inn l (rd (D6.cuts l) i)):=rfl;obtain ⟨n3,h3⟩:=u8d l hl (i+1) s.out s.last (s.first:Int) s.fin (rd (D6.cuts l) i) (rd (D6.cuts l) (i+1)) l.length 0 [] (Af _) (Aq _);simp only [AT,A8,z7u] at h3;have w1:Uv (D6.inn l (rd (D6.cuts l) i))=true:=rfl;have w2:We s.last (Ze (D6.inn l (rd (D6.cuts l) i)))=true:=An (by omega);have ol:=D6.one_length l (rd (D6.cuts l) i) (rd (D6.cuts l) (i+1)) s;have st0: ∀N,Zr (Xg l) (N+n3+1) (.to (.h2 ((i+1:Nat):Int) s.out s.last (s.first:Int) s.fin ((D6.cuts l).length) (Wu (Xp (D6.ends l)))))=Zr (Xg l) N (.to (.h3 ((i+1:Nat):Int) (l.length:Int) s.out s.last (s.first:Int) s.fin ((D6.cuts l).length) (Wu (Xp (D6.ends l))) (rd (D6.cuts l) i) (rd (D6.cuts l) (i+1)) (D6.inn l (rd (D6.cuts l) i)))):=fun N=>by
   rw [←h3 N,Zw];have e1:wrap .i64 (((i+1:Nat):Int) - 1)=(i:Int):=by rw [Yy];exact Zk (by omega)
   simp (disch:=omega) only [Xg,e1,r0,r1,Zc,Zq,Yz,Zt,Yc,Yv,Yj,Zf,Zk,Zx,Yd,Zj,Af,Ao,Ah,Aj,Ab,Aa]
  rcases Yp (badS l (rd (D6.cuts l) i)) with q0 | q0
  ·refine ⟨1+n3+1,?_⟩;rw [st0 1,Zw];simp only [okF,q0,Ab,Aa];have q0':(Ww (D6.inn l (rd (D6.cuts l) i)) != 0)=true:=q0;simp (disch:=omega) only [Xg,Zc,Zq,Yf,q0',w1,Ab,Aa,Zp];rfl
  have q0':(Ww (D6.inn l (rd (D6.cuts l) i)) != 0)=false:=q0;rcases Yp (decide (0<(D6.sec l (rd (D6.cuts l) i)).length)&&((s.fin == rd (D6.cuts l) i)&&D6.same s.last (D6.sec l (rd (D6.cuts l) i)))) with q | q
  ·obtain ⟨n5,h5⟩:=u8b l hl (i+1) (by omega) (rd (D6.cuts l) i) (rd (D6.cuts l) (i+1)) s.fin (D6.sec l (rd (D6.cuts l) i)) s.last (s.first:Int) (D6.inn l (rd (D6.cuts l) i)) (s.out.length - s.first) s.first s.out (by omega) (by omega)
   have e:D6.one l (rd (D6.cuts l) i) (rd (D6.cuts l) (i+1)) s=⟨D6.grow s.out s.first (rd (D6.cuts l) (i+1)),s.last,s.first,rd (D6.cuts l) (i+1)⟩:=by unfold Dim.one;rw [q];rfl
   obtain ⟨n0,h0⟩:=v3z k (i+1) (D6.one l (rd (D6.cuts l) i) (rd (D6.cuts l) (i+1)) s) (by omega) (by omega) (by omega) (by grind) (by grind [Dim.grow_length]);refine ⟨n0+n5+1+n3+1,?_⟩;rw [st0 (n0+n5+1),Zw];simp only [Ae,As] at q;obtain ⟨q1,q2,q3⟩:=q;have q3':Ur s.last (Ze (D6.inn l (rd (D6.cuts l) i)))=true:=q3
   grind [Xg,Zc,okF,Dim.go]
  ·obtain ⟨n4,h4⟩:=u8c l hl (i+1) (by omega) (rd (D6.cuts l) i) (rd (D6.cuts l) (i+1)) (D6.sec l (rd (D6.cuts l) i)) (D6.sec l (rd (D6.cuts l) i)) (s.out.length:Int) (D6.inn l (rd (D6.cuts l) i)) hsl (D6.sec l (rd (D6.cuts l) i)).length 0 s.out (Af _) (by omega);simp only [AT,z7u] at h4;have e:D6.one l (rd (D6.cuts l) i) (rd (D6.cuts l) (i+1)) s=⟨s.out++(D6.sec l (rd (D6.cuts l) i)).map (D6.put (rd (D6.cuts l) i) (rd (D6.cuts l) (i+1))),D6.sec l (rd (D6.cuts l) i),s.out.length,rd (D6.cuts l) (i+1)⟩:=by unfold Dim.one;rw [q];rfl
   obtain ⟨n0,h0⟩:=v3z k (i+1) (D6.one l (rd (D6.cuts l) i) (rd (D6.cuts l) (i+1)) s) (by omega) (by omega) (by omega) (by grind) (by rw [e];simp);have hg:Zr (Xg l) 1 (.to (.h3 ((i+1:Nat):Int) (l.length:Int) s.out s.last (s.first:Int) s.fin ((D6.cuts l).length) (Wu (Xp (D6.ends l))) (rd (D6.cuts l) i) (rd (D6.cuts l) (i+1)) (D6.inn l (rd (D6.cuts l) i))))=.to (.h4 (rd (D6.cuts l) i) (rd (D6.cuts l) (i+1)) (D6.sec l (rd (D6.cuts l) i)) ((D6.sec l (rd (D6.cuts l) i)).length :Int) 0 (D6.sec l (rd (D6.cuts l) i)) ((i+1:Nat):Int) s.out (D6.sec l (rd (D6.cuts l) i)) (s.out.length:Int) ((D6.cuts l).length) (Wu (Xp (D6.ends l))) (D6.inn l (rd (D6.cuts l) i))):=by
    rw [show (1:Nat)=0+1 from rfl,Zw];rw [hsd] at q ⊢;have e3:D6.same s.last (Ze (D6.inn l (rd (D6.cuts l) i)))=Ur s.last (Ze (D6.inn l (rd (D6.cuts l) i))):=rfl;rw [e3] at q;by_cases q1:0<(Ze (D6.inn l (rd (D6.cuts l) i))).length
    ·rw [An q1,Aj] at q;rcases Yp (s.fin == rd (D6.cuts l) i) with q2 | q2
     ·rw [q2,Aj] at q;simp (disch:=omega) only [Xg,Zc,Zq,Yf,Xv,q0',q2,q,w1,w2,Ab,Aa];rfl
     ·simp (disch:=omega) only [Xg,Zc,Zq,Yf,Xv,q0',q2,w1,w2,Ab,Aa];rfl
    ·simp (disch:=omega) only [Xg,Zc,Zq,Yf,Wk,q0',w1,w2,Ab,Aa];rfl
   refine ⟨n0+n4+1+n3+1,?_⟩;simp_all [z9h,okF,Dim.go]
theorem u8e : ∀(k i:Nat) (acc:List Int),i+k=l.length→acc=D6.ends (l.take i)→ ∃n,Zr (Xg l) n (.to (.h1 (i:Int) acc))=.ret ((bif okF l ((D6.cuts l).length - 1) 0 then x5i l (D6.go l ((D6.cuts l).length - 1) 0 ⟨[],[],0,0⟩).out else sckErr))
 | 0,i,acc,h,ha=>by
  have e:acc=D6.ends l:=by grind
  subst e;have hle:=D6.ends_length l;obtain ⟨n,hn⟩:=v3z l hl ((D6.cuts l).length - 1) 0 ⟨[],[],0,0⟩ (by omega) (AC _) (AC _) (AC _) (AC _);refine ⟨n+1,?_⟩;rw [Zw];simp (disch:=omega) only [Xg,Jj,Qv,z7t,Yf,Yv,Yj,Ao,Ab,Aa];exact hn
 | k+1,i,acc,h,ha=>by
  have hle:=D6.ends_length (l.take i);have hacc:acc.length≤2*i:=by grind
  obtain ⟨n,hn⟩:=u8e k (i+1) (acc++D6.ends [rd l i]) (by omega) (by
   rw [ha,AY];have:l[i]? =some (rd l i):=by grind [Yo]
   rw [this,D6.ends_append];rfl)
  refine ⟨n+1,?_⟩;rw [Zw];simp (disch:=omega) only [Xg,Zc,Zq,Yz,Zt,Yc,Yv,Yj,Zf,Zk,Zx,Yd,Zj,Af,Ao,Ah,Aj,Ab,Aa];exact hn
theorem u8f : ∀(k i:Nat),i+k=l.length→(∀s∈l.take i,z4g s=true)→ ∃n,Zr (Xg l) n (.to (.h0 (i:Int)))=.ret (bif l.all z4g then (bif okF l ((D6.cuts l).length - 1) 0 then x5i l (D6.go l ((D6.cuts l).length - 1) 0 ⟨[],[],0,0⟩).out else sckErr) else sckErr)
 | 0,i,h,ht=>by
  have hv:l.all z4g=true:=At.2 fun s hs=>ht s (by grind);obtain ⟨n,hn⟩:=u8e l hl l.length 0 [] (Af _) rfl;refine ⟨n+1,?_⟩
  grind [Zw,Xg]
 | k+1,i,h,ht=>by
  have hi:i<l.length:=by omega
  have hs:Xg l (.h0 (i:Int))=bif z4g (rd l i) then .to (.h0 ((i+1:Nat):Int)) else .ret sckErr:=by have e:vl6V (rd l i).a (rd l i).b (rd l i).c (rd l i).d (rd l i).e (rd l i).f =z4g (rd l i):=rfl;simp (disch:=omega) only [Xg,e,y7y,w6w,v8p,Zt,Zk,Zx,Zj,Ah,Ab,Aa];rfl
  rcases Yp (z4g (rd l i)) with q | q
  ·obtain ⟨n,hn⟩:=u8f k (i+1) (by omega) (fun s hs=>by
    rw [AY] at hs
    grind [Yo])
   refine ⟨n+1,?_⟩
   grind [Zw]
  ·have hv:l.all z4g=false:=A2.2 fun e=>by
    grind [Yo]
   refine ⟨1,?_⟩
   grind [Zw,Zp]
end
def Zn (l:List R6):Int:=bif decide (400<l.length) then 4 else bif l.all z4g then (bif okF l ((D6.cuts l).length - 1) 0 then (bif decide (((D6.out l).length :Int)>400) then 8 else bif Jf (D6.out l) l then 0 else 8) else 8) else 8
def v4b (l:List R6):Bool:=true
theorem j3t (l:List R6): ∃n,Zr (Xg l) n (y3v l)=.ret [.int .i64 (Zn l)]:=by
 unfold y3v Zn;by_cases h:400<l.length
 ·refine ⟨0,?_⟩;rw [An h,Xv (show (l.length:Int)>400 by omega)];rfl
 ·obtain ⟨n,hn⟩:=u8f l (by omega) l.length 0 (Af _) (fun s hs=>by simp at hs);refine ⟨n,?_⟩;rw [AB h,Wk (show ¬(l.length:Int)>400 by omega),Aa,Aa];rw [z7u] at hn;rw [hn];unfold sckErr x5i;cases l.all z4g <;> simp only [Ab,Aa];cases okF l ((D6.cuts l).length - 1) 0 <;> simp only [Ab,Aa];show Xw.ret (bif decide (((D6.out l).length :Int)>400) then _ else bif Jf (D6.out l) l then _ else _)=_
  grind
def fSck :List AVal→Option (AVal×Bool)
 | [a1]=>match asL R6 a1 with
  | some (L1,g1,n1)=>some (.int .i64 (Zn L1),isT R6 n1 g1&&v4b L1)
  | _=>none
 | _=>none
theorem j7q {S:Specs} (hS:Zu prog S):Zu prog (S.with x6h fSck):=by
 refine z0f hS (by kernel_rfl) fun args v h=> ?_;unfold fSck at h;split at h
 ·rename_i a1;split at h
  ·rename_i L1 g1 n1 e1;simp only [Ad,Ac,Ae] at h;obtain ⟨rfl,ho1,hw⟩:=h;obtain ⟨N,hN⟩:=j3t L1;exact ⟨_,_,(.cons (Yh e1 ho1) .nil),rfl,u1g L1 N _ hN,3,rfl⟩
  ·cases h
 ·cases h
def T8 :Specs:=T7v.with x6h fSck
theorem z1i :Zu prog T8:=j7q Vr
def Vx (l:List R6):Bool:=true
def y6l (l:List R6):Bool:=true
inductive rchkS where
 | h0 (v3:Int)
def j5h (l0:List R6):rchkS→Cfg
 | .h0 v3=>⟨⟨34,0,true⟩,none,(Zb prog 59 [1,1,0,1,0,0] 0),none,(Zy prog 9),⟨Yg [(0,(.dat l0.length (Zz l0))),(3,(ii v3))],Vj [] 0,0,[],true⟩,[],.leaf⟩
def u9x :List (Option (List Nat)):=[some [0,3]]
def u9y :List (Option (List Nat)):=[]
def z1o (l0:List R6):rchkS→Xw rchkS
 | .h0 v3=>(bif (decide (v3<(l0.length:Int))) then (bif ((decide (0≤v3∧v3<(l0.length:Int)))&&true) then (bif (decide ((rd l0 v3.toNat).a ≥(-1000000))) then (bif (decide ((rd l0 v3.toNat).b ≥(-1000000))) then (bif (decide ((rd l0 v3.toNat).c ≥(-1000000))) then (bif (decide ((rd l0 v3.toNat).a ≤1000000)) then (bif (decide ((rd l0 v3.toNat).b ≤1000000)) then (bif (decide ((rd l0 v3.toNat).c ≤1000000)) then (bif (decide ((rd l0 v3.toNat).d ≥(-1000000))) then (bif (decide ((rd l0 v3.toNat).e ≥(-1000000))) then (bif (decide ((rd l0 v3.toNat).f ≥(-1000000))) then (bif (decide ((rd l0 v3.toNat).d ≤1000000)) then (bif (decide ((rd l0 v3.toNat).e ≤1000000)) then (bif (decide ((rd l0 v3.toNat).f ≤1000000)) then (bif (decide ((rd l0 v3.toNat).a <(rd l0 v3.toNat).d)) then (bif (decide ((rd l0 v3.toNat).b <(rd l0 v3.toNat).e)) then (bif (!(decide ((rd l0 v3.toNat).c <(rd l0 v3.toNat).f))) then (.ret [(.int .i64 8)]) else (.to (.h0 (wrap .i64 (v3+1))))) else (.ret [(.int .i64 8)])) else (.ret [(.int .i64 8)])) else (.ret [(.int .i64 8)])) else (.ret [(.int .i64 8)])) else (.ret [(.int .i64 8)])) else (.ret [(.int .i64 8)])) else (.ret [(.int .i64 8)])) else (.ret [(.int .i64 8)])) else (.ret [(.int .i64 8)])) else (.ret [(.int .i64 8)])) else (.ret [(.int .i64 8)])) else (.ret [(.int .i64 8)])) else (.ret [(.int .i64 8)])) else (.ret [(.int .i64 8)])) else .stuck) else (bif (z9f 2 (cvT l0) ([]:List R6)) then (bif (!(y8w 2 (cvT l0) ([]:List R6))) then (.ret [(.int .i64 8)]) else (bif (Vw (cvT (z5h 2 (cvT l0) ([]:List R6))) (cvT l0)) then (bif (!(Jf (cvT (z5h 2 (cvT l0) ([]:List R6))) (cvT l0))) then (.ret [(.int .i64 8)]) else (.ret [(.int .i64 0)])) else .stuck)) else .stuck))
def z8s (l0:List R6):Xw rchkS:=(bif (decide ((l0.length:Int)>400)) then (.ret [(.int .i64 4)]) else (.to (.h0 0)))
theorem w0s (l0:List R6): ∀s,Yt prog (Zy prog 59) (j5h l0) (j5h l0 s) (z1o l0 s)
 | .h0 v3=>(lb (fun k0=>(lo fun aJ=>(lb (fun k1=>(lb (fun k2=>(lb (fun k3=>(lb (fun k4=>(lb (fun k5=>(lb (fun k6=>(lb (fun k7=>(lb (fun k8=>(lb (fun k9=>(lb (fun k10=>(lb (fun k11=>(lb (fun k12=>(lb (fun k13=>(lb (fun k14=>(lb (fun k15=>(lr 34 59 [1,1,0,1,0,0,1,0,0,1,0,0] 1 9 [(2,(ii 8))] (sl z1i 158 [] ⟨[],[],[some [2]],[]⟩ ⟨[],[],[]⟩ (trs 60 []) (tt k15 (tt k14 (tt k13 (tt k12 (tt k11 (tt k10 (tt k9 (tt k8 (tt k7 (tt k6 (tt k5 (tt k4 (tt k3 (tt k2 (tt k1 (ww aJ (tt k0 nn)))))))))))))))))))) (fun k15=>(sl z1i 162 [] ⟨[],[],u9x,u9y⟩ ⟨[],[],[]⟩ (trs 59 [false]) (tt k15 (tt k14 (tt k13 (tt k12 (tt k11 (tt k10 (tt k9 (tt k8 (tt k7 (tt k6 (tt k5 (tt k4 (tt k3 (tt k2 (tt k1 (ww aJ (tt k0 nn))))))))))))))))))))) (fun k14=>(lr 34 59 [1,1,0,1,0,0,1,0,0,1,0,0] 1 9 [(2,(ii 8))] (sl z1i 158 [] ⟨[],[],[some [2]],[]⟩ ⟨[],[],[]⟩ (trs 52 (bl 8 128)) (tt k14 (tt k13 (tt k12 (tt k11 (tt k10 (tt k9 (tt k8 (tt k7 (tt k6 (tt k5 (tt k4 (tt k3 (tt k2 (tt k1 (ww aJ (tt k0 nn))))))))))))))))))))) (fun k13=>(lr 34 59 [1,1,0,1,0,0,1,0,0,1,0,0] 1 9 [(2,(ii 8))] (sl z1i 158 [] ⟨[],[],[some [2]],[]⟩ ⟨[],[],[]⟩ (trs 45 (bl 15 16384)) (tt k13 (tt k12 (tt k11 (tt k10 (tt k9 (tt k8 (tt k7 (tt k6 (tt k5 (tt k4 (tt k3 (tt k2 (tt k1 (ww aJ (tt k0 nn)))))))))))))))))))) (fun k12=>(lr 34 59 [1,1,0,1,0,0,1,0,0,1,0,0] 1 9 [(2,(ii 8))] (sl z1i 158 [] ⟨[],[],[some [2]],[]⟩ ⟨[],[],[]⟩ (trs 38 (bl 22 2097152)) (tt k12 (tt k11 (tt k10 (tt k9 (tt k8 (tt k7 (tt k6 (tt k5 (tt k4 (tt k3 (tt k2 (tt k1 (ww aJ (tt k0 nn))))))))))))))))))) (fun k11=>(lr 34 59 [1,1,0,1,0,0,1,0,0,1,0,0] 1 9 [(2,(ii 8))] (sl z1i 158 [] ⟨[],[],[some [2]],[]⟩ ⟨[],[],[]⟩ (trs 35 (bl 25 16777216)) (tt k11 (tt k10 (tt k9 (tt k8 (tt k7 (tt k6 (tt k5 (tt k4 (tt k3 (tt k2 (tt k1 (ww aJ (tt k0 nn)))))))))))))))))) (fun k10=>(lr 34 59 [1,1,0,1,0,0,1,0,0,1,0,0] 1 9 [(2,(ii 8))] (sl z1i 158 [] ⟨[],[],[some [2]],[]⟩ ⟨[],[],[]⟩ (trs 32 (bl 28 134217728)) (tt k10 (tt k9 (tt k8 (tt k7 (tt k6 (tt k5 (tt k4 (tt k3 (tt k2 (tt k1 (ww aJ (tt k0 nn))))))))))))))))) (fun k9=>(lr 34 59 [1,1,0,1,0,0,1,0,0,1,0,0] 1 9 [(2,(ii 8))] (sl z1i 158 [] ⟨[],[],[some [2]],[]⟩ ⟨[],[],[]⟩ (trs 29 (bl 31 1073741824)) (tt k9 (tt k8 (tt k7 (tt k6 (tt k5 (tt k4 (tt k3 (tt k2 (tt k1 (ww aJ (tt k0 nn)))))))))))))))) (fun k8=>(lr 34 59 [1,1,0,1,0,0,1,0,0,1,0,0] 1 9 [(2,(ii 8))] (sl z1i 158 [] ⟨[],[],[some [2]],[]⟩ ⟨[],[],[]⟩ (trs 25 (bl 35 17179869184)) (tt k8 (tt k7 (tt k6 (tt k5 (tt k4 (tt k3 (tt k2 (tt k1 (ww aJ (tt k0 nn))))))))))))))) (fun k7=>(lr 34 59 [1,1,0,1,0,0,1,0,0,1,0,0] 1 9 [(2,(ii 8))] (sl z1i 158 [] ⟨[],[],[some [2]],[]⟩ ⟨[],[],[]⟩ (trs 21 (bl 39 274877906944)) (tt k7 (tt k6 (tt k5 (tt k4 (tt k3 (tt k2 (tt k1 (ww aJ (tt k0 nn)))))))))))))) (fun k6=>(lr 34 59 [1,1,0,1,0,0,1,0,0,1,0,0] 1 9 [(2,(ii 8))] (sl z1i 117 [] ⟨[],[],[some [2]],[]⟩ ⟨[],[],[]⟩ (trs 18 (bl 25 16777216)) (tt k6 (tt k5 (tt k4 (tt k3 (tt k2 (tt k1 (ww aJ (tt k0 nn))))))))))))) (fun k5=>(lr 34 59 [1,1,0,1,0,0,1,0,0,1,0,0] 1 9 [(2,(ii 8))] (sl z1i 117 [] ⟨[],[],[some [2]],[]⟩ ⟨[],[],[]⟩ (trs 15 (bl 28 134217728)) (tt k5 (tt k4 (tt k3 (tt k2 (tt k1 (ww aJ (tt k0 nn)))))))))))) (fun k4=>(lr 34 59 [1,1,0,1,0,0,1,0,0,1,0,0] 1 9 [(2,(ii 8))] (sl z1i 117 [] ⟨[],[],[some [2]],[]⟩ ⟨[],[],[]⟩ (trs 12 (bl 31 1073741824)) (tt k4 (tt k3 (tt k2 (tt k1 (ww aJ (tt k0 nn))))))))))) (fun k3=>(lr 34 59 [1,1,0,1,0,0,1,0,0,1,0,0] 1 9 [(2,(ii 8))] (sl z1i 117 [] ⟨[],[],[some [2]],[]⟩ ⟨[],[],[]⟩ (trs 9 (bl 34 8589934592)) (tt k3 (tt k2 (tt k1 (ww aJ (tt k0 nn)))))))))) (fun k2=>(lr 34 59 [1,1,0,1,0,0,1,0,0,1,0,0] 1 9 [(2,(ii 8))] (sl z1i 117 [] ⟨[],[],[some [2]],[]⟩ ⟨[],[],[]⟩ (trs 5 (bl 38 137438953472)) (tt k2 (tt k1 (ww aJ (tt k0 nn))))))))) (fun k1=>(lr 34 59 [1,1,0,1,0,0,1,0,0,1,0,0] 1 9 [(2,(ii 8))] (sl z1i 117 [] ⟨[],[],[some [2]],[]⟩ ⟨[],[],[]⟩ (bl 43 4398046511105) (tt k1 (ww aJ (tt k0 nn))))))))) (fun k0=>(lo fun aJ=>(lb (fun k1=>(lr 34 59 [1,1,1,1,0,1,0,0] 1 9 [(2,(ii 8))] (sl z1i 37 [] ⟨[],[],[some [2]],[]⟩ ⟨[],[],[]⟩ (bl 6 62) (tt k1 (pp (pp (xr l0) (pp (xI R6 0 (fun _=>[])) (xw aJ))) (tt k0 nn)))))) (fun k1=>(lo fun bX=>(lb (fun k2=>(lr 34 59 [1,1,1,1,0,1,0,0] 1 9 [(2,(ii 8))] (sl z1i 37 [] ⟨[],[],[some [2]],[]⟩ ⟨[],[],[]⟩ (bl 6 32) (tt k2 (pp (pp (xI R6 (z5h 2 (cvT l0) ([]:List R6)).length (Zz (z5h 2 (cvT l0) ([]:List R6)))) (pp (xr l0) (xw bX))) (tt k1 (pp (pp (xr l0) (pp (xI R6 0 (fun _=>[])) (xw aJ))) (tt k0 nn)))))))) (fun k2=>(lr 34 3 [1,1,1,1,0] 1 9 [(2,(ii 0))] (sl z1i 38 [] ⟨[],[],[some [2]],[]⟩ ⟨[],[],[]⟩ (bl 6 0) (tt k2 (pp (pp (xI R6 (z5h 2 (cvT l0) ([]:List R6)).length (Zz (z5h 2 (cvT l0) ([]:List R6)))) (pp (xr l0) (xw bX))) (tt k1 (pp (pp (xr l0) (pp (xI R6 0 (fun _=>[])) (xw aJ))) (tt k0 nn)))))))))))))))
theorem x5u (l0:List R6):Yt prog (Zy prog 59) (j5h l0) (Zg prog 59 [(.dat l0.length (Zz l0))] true []) (z8s l0):=(lb (fun k0=>(lr 34 59 [1,0,1,0,0] 1 9 [(2,(ii 4))] (sl z1i 16 [] ⟨[],[],[some [2]],[]⟩ ⟨[],[],[]⟩ [true] (tt k0 nn)))) (fun k0=>(sl z1i 20 [] ⟨[],[],u9x,u9y⟩ ⟨[],[],[]⟩ [false] (tt k0 nn))))
theorem v5o (l0:List R6) (n:Nat) (vs:List AVal) (h:Zr (z1o l0) n (z8s l0)=.ret vs):Jy prog (Zy prog 59) (Zg prog 59 [(.dat l0.length (Zz l0))] true []) vs:=by have:=Zd (w0s l0) n _ (x5u l0);rwa [h] at this
def x8k (r:R6):Bool:=decide (r.a≥ -1000000)&&(decide (r.b≥ -1000000)&&(decide (r.c≥ -1000000)&&(decide (r.a≤1000000)&&(decide (r.b≤1000000)&&(decide (r.c≤1000000)&&(decide (r.d≥ -1000000)&&(decide (r.e≥ -1000000)&&(decide (r.f≥ -1000000)&&(decide (r.d≤1000000)&&(decide (r.e≤1000000)&&(decide (r.f≤1000000)&&(decide (r.a<r.d)&&(decide (r.b<r.e)&&decide (r.c<r.f))))))))))))))
def rckF (l:List R6):Int:=bif y8w 2 l [] then (bif Jf (z5h 2 l []) l then 0 else 8) else 8
def z1n (l:List R6):Int:=bif decide (400<l.length) then 4 else bif l.all x8k then rckF l else 8
def v5m (l:List R6):Bool:=true
theorem v0k (k:Int) (l m:List R6):(z5h k l m).length ≤400∨y8w k l m=false:=by
 grind [z5h,y8w]
section
variable (l:List R6) (hl:l.length≤400)
include hl
theorem v5n : ∀(k i:Nat),i+k=l.length→(∀s∈l.take i,x8k s=true)→ ∃n,Zr (z1o l) n (.to (.h0 (i:Int)))=.ret [.int .i64 (bif l.all x8k then rckF l else 8)]
 | 0,i,h,ht=>by
  have hv:l.all x8k=true:=At.2 fun s hs=>ht s (by grind);have w1:z9f 2 l []=true:=jsV_ow (by omega) (by simp);refine ⟨1,?_⟩;rw [Zw,hv,Ab];unfold rckF;rcases Yp (y8w 2 l []) with q | q
  ·have w2:Vw (z5h 2 l []) l=true:=An (by
    grind [v0k])
   rcases Yp (Jf (z5h 2 l []) l) with q2 | q2 <;>
   simp (disch:=omega) only [z1o,Zc,Yf,q,q2,w1,w2,Az,AE,Ab,Aa,Zp]
  grind [z1o,Zc,Zp]
 | k+1,i,h,ht=>by
  have hi:i<l.length:=by omega
  have hs:z1o l (.h0 (i:Int))=bif x8k (rd l i) then .to (.h0 ((i+1:Nat):Int)) else .ret [.int .i64 8]:=by simp (disch:=omega) only [z1o,x8k,y1n,y7y,w6w,Zt,Zk,Zx,Zj,Ah,Ab,Aa]
  rcases Yp (x8k (rd l i)) with q | q
  ·obtain ⟨n,hn⟩:=v5n k (i+1) (by omega) (fun s hs=>by
    rw [AY] at hs
    grind [Yo])
   refine ⟨n+1,?_⟩
   grind [Zw]
  ·have hv:l.all x8k=false:=A2.2 fun e=>by
    grind [Yo]
   refine ⟨1,?_⟩
   grind [Zw,Zp]
end
theorem u2z (l:List R6): ∃n,Zr (z1o l) n (z8s l)=.ret [.int .i64 (z1n l)]:=by
 unfold z8s z1n;by_cases h:400<l.length
 ·refine ⟨0,?_⟩;rw [An h,Xv (show (l.length:Int)>400 by omega)];rfl
 ·obtain ⟨n,hn⟩:=v5n l (by omega) l.length 0 (Af _) (fun s hs=>by simp at hs)
  grind
def fRck :List AVal→Option (AVal×Bool)
 | [a1]=>match asL R6 a1 with
  | some (L1,g1,n1)=>some (.int .i64 (z1n L1),isT R6 n1 g1&&v5m L1)
  | _=>none
 | _=>none
theorem j8b {S:Specs} (hS:Zu prog S):Zu prog (S.with v6m fRck):=by
 refine z0f hS (by kernel_rfl) fun args v h=> ?_;unfold fRck at h;split at h
 ·rename_i a1;split at h
  ·rename_i L1 g1 n1 e1;simp only [Ad,Ac,Ae] at h;obtain ⟨rfl,ho1,hw⟩:=h;obtain ⟨N,hN⟩:=u2z L1;exact ⟨_,_,(.cons (Yh e1 ho1) .nil),rfl,v5o L1 N _ hN,3,rfl⟩
  ·cases h
 ·cases h
def T9 :Specs:=T8.with v6m fRck
theorem z6l :Zu prog T9:=j8b z1i
def pt (L:List R2) (y:Int):Prop:= ∃s∈L,s.a≤y∧y<s.b
structure Can (L:List R2):Prop where
 pos: ∀s∈L,s.a<s.b
 sep:L.Pairwise fun s t=>s.b<t.a
theorem Can.nil :Can []:=⟨by simp,.nil⟩
theorem Can.tail {s:R2} {L:List R2} (h:Can (s::L)):Can L:=⟨fun t ht=>h.pos t (List.mem_cons_of_mem _ ht),(AR.1 h.sep).2⟩
theorem Can.head {s:R2} {L:List R2} (h:Can (s::L)): ∀t∈L,s.b<t.a:=(AR.1 h.sep).1
theorem j1u {s:R2} {L:List R2} (h:Can (s::L)) {y:Int} (hy:pt (s::L) y):s.a≤y:=by
 obtain ⟨t,ht,h1,h2⟩:=hy;rcases AI.1 ht with rfl | ht
 ·exact h1
 ·have:=h.head t ht;have:=h.pos s (by simp);omega
theorem w7a : ∀(L M:List R2),Can L→Can M→(∀y,pt L y↔pt M y)→L=M
 | [],[],_,_,_=>rfl
 | [],t::M,_,hM,h=>by have:=(h t.a).2 ⟨t,by simp,A0 _,hM.pos t (by simp)⟩;obtain ⟨s,hs,_⟩:=this;cases hs
 | s::L,[],hL,_,h=>by have:=(h s.a).1 ⟨s,by simp,A0 _,hL.pos s (by simp)⟩;obtain ⟨s,hs,_⟩:=this;cases hs
 | s::L,t::M,hL,hM,h=>by
  have p1:=hL.pos s (by simp);have p2:=hM.pos t (by simp);have a1:t.a≤s.a:=j1u hM ((h s.a).1 ⟨s,by simp,A0 _,p1⟩);have a2:s.a≤t.a:=j1u hL ((h t.a).2 ⟨t,by simp,A0 _,p2⟩);have b1: ¬s.b<t.b:=fun hb=>by
   obtain ⟨u,hu,h1,h2⟩:=(h s.b).2 ⟨t,by simp,by omega,hb⟩;rcases AI.1 hu with rfl | hu
   ·omega
   ·have:=hL.head u hu;omega
  have b2: ¬t.b<s.b:=fun hb=>by
   obtain ⟨u,hu,h1,h2⟩:=(h t.b).1 ⟨s,by simp,by omega,hb⟩;rcases AI.1 hu with rfl | hu
   ·omega
   ·have:=hM.head u hu;omega
  have e:s=t:=by
   obtain ⟨sa,sb⟩:=s;obtain ⟨ta,tb⟩:=t;simp only at a1 a2 b1 b2;have:sa=ta:=by omega
   have:sb=tb:=by omega
   subst_vars;rfl
  subst e
  congr 1
  refine w7a L M hL.tail hM.tail fun y=>⟨fun hy=> ?_,fun hy=> ?_⟩
  ·obtain ⟨u,hu,h1,h2⟩:=hy;have g:=hL.head u hu;obtain ⟨v,hv,h3,h4⟩:=(h y).1 ⟨u,by simp [hu],h1,h2⟩;rcases AI.1 hv with rfl | hv
   ·omega
   ·exact ⟨v,hv,h3,h4⟩
  ·obtain ⟨u,hu,h1,h2⟩:=hy;have g:=hM.head u hu;obtain ⟨v,hv,h3,h4⟩:=(h y).2 ⟨u,by simp [hu],h1,h2⟩;rcases AI.1 hv with rfl | hv
   ·omega
   ·exact ⟨v,hv,h3,h4⟩
def push (out:List R2) (x x':Int):List R2:=
 bif decide (0<out.length)&&((rd out (out.length - 1)).b == x) then out.set (out.length - 1) ⟨(rd out (out.length - 1)).a,x'⟩ else out++[⟨x,x'⟩]
theorem v5r (out:List R2) (s:R2) (x x':Int):push (out++[s]) x x'=bif s.b == x then out++[⟨s.a,x'⟩] else out++[s]++[⟨x,x'⟩]:=by
 grind [rd,push]
theorem w5m {out:List R2} {x x':Int} (hc:Can out) (hb: ∀s∈out,s.b≤x) (hx:x<x'):
  Can (push out x x')∧(∀s∈push out x x',s.b≤x')∧ ∀y,pt (push out x x') y↔pt out y∨(x≤y∧y<x'):=by
 rcases List.eq_nil_or_concat out with rfl | ⟨L,s,rfl⟩
 ·refine ⟨⟨?_,?_⟩,?_,fun y=> ?_⟩;all_goals simp_all [push,pt]
 ·rw [List.concat_eq_append] at*;rw [v5r];have hs:=hb s (by simp);have hp:=hc.pos s (by simp);have sep:=Bw.1 hc.sep;rcases Yp (s.b == x) with q | q
  ·rw [q,Ab];have q:s.b=x:=by simpa using q
   refine ⟨⟨?_,?_⟩,?_,fun y=> ?_⟩
   ·intro t ht;rcases AM.1 ht with ht | ht
    ·exact hc.pos t (by simp [ht])
    grind
   ·grind
   ·grind
   ·constructor
    ·rintro ⟨t,ht,h1,h2⟩;rcases AM.1 ht with ht | ht
     ·exact .inl ⟨t,by simp [ht],h1,h2⟩
     ·rw [BL.1 ht] at h1 h2;by_cases hy:y<s.b
      ·exact .inl ⟨s,by simp,h1,hy⟩
      grind
    ·rintro (⟨t,ht,h1,h2⟩ | ⟨h1,h2⟩)
     ·rcases AM.1 ht with ht | ht
      ·exact ⟨t,by simp [ht],h1,h2⟩
      ·rw [BL.1 ht] at h1 h2;exact ⟨⟨s.a,x'⟩,by simp,h1,by grind⟩
     ·exact ⟨⟨s.a,x'⟩,by simp,by grind,h2⟩
  ·rw [q,Aa];have q:s.b≠x:=by simpa using q
   refine ⟨⟨?_,?_⟩,?_,fun y=> ?_⟩
   ·intro t ht;rcases AM.1 ht with ht | ht
    ·exact hc.pos t ht
    grind
   ·grind
   ·grind
   ·constructor
    ·rintro ⟨t,ht,h1,h2⟩;rcases AM.1 ht with ht | ht
     ·exact .inl ⟨t,ht,h1,h2⟩
     grind
    ·rintro (⟨t,ht,h1,h2⟩ | ⟨h1,h2⟩)
     ·exact ⟨t,AM.2 (.inl ht),h1,h2⟩
     ·exact ⟨⟨x,x'⟩,by simp,h1,h2⟩
theorem x3p {l:List Int} (h:l.Pairwise (· < ·)) {i j:Nat} (hij:i<j) (hj:j<l.length):rd l i<rd l j:=by rw [Yo (by omega),Yo hj];exact AZ.1 h i j (by omega) hj hij
theorem x4i (cuts:List Int) (ins:List Bool) (hc:cuts.Pairwise (· < ·)): ∀(k i:Nat) (out:List R2),i+k<cuts.length∨k=0→Can out→(∀s∈out,s.b≤rd cuts i)→
  Can (v2i cuts ins k i out)∧ ∀y,pt (v2i cuts ins k i out) y↔pt out y∨ ∃j,i≤j∧j<i+k∧rd ins j=true∧rd cuts j≤y∧y<rd cuts (j+1)
 | 0,i,out,h,ho,hb=>⟨ho,fun y=>⟨.inl,fun hy=>hy.elim id fun ⟨j,h1,h2,_⟩=>by omega⟩⟩
 | k +1,i,out,h,ho,hb=>by
  have hlt:rd cuts i<rd cuts (i+1):=x3p hc (BQ _) (by omega);obtain ⟨p1,p2,p3⟩:=w5m ho hb hlt;have e:v2i cuts ins (k+1) i out=v2i cuts ins k (i+1) (bif rd ins i then push out (rd cuts i) (rd cuts (i+1)) else out):=rfl;rw [e];rcases Yp (rd ins i) with q | q
  ·rw [q,Ab];obtain ⟨r1,r2⟩:=x4i cuts ins hc k (i+1) (push out (rd cuts i) (rd cuts (i+1))) (by omega) p1 p2;refine ⟨r1,fun y=> ?_⟩;rw [r2,p3];constructor
   ·rintro ((h | h) | ⟨j,h1,h2,h3⟩)
    ·exact .inl h
    ·exact .inr ⟨i,Aq _,by omega,q,h⟩
    ·exact .inr ⟨j,by omega,by omega,h3⟩
   ·rintro (h | ⟨j,h1,h2,h3⟩)
    ·exact .inl (.inl h)
    ·rcases A7 h1 with rfl | h1
     ·exact .inl (.inr h3.2)
     ·exact .inr ⟨j,h1,by omega,h3⟩
  ·rw [q,Aa];obtain ⟨r1,r2⟩:=x4i cuts ins hc k (i+1) out (by omega) ho (fun s hs=>by have:=hb s hs;omega);refine ⟨r1,fun y=> ?_⟩;rw [r2];constructor
   ·rintro (h | ⟨j,h1,h2,h3⟩)
    ·exact .inl h
    ·exact .inr ⟨j,by omega,by omega,h3⟩
   ·rintro (h | ⟨j,h1,h2,h3⟩)
    ·exact .inl h
    ·rcases A7 h1 with rfl | h1
     ·rw [q] at h3;cases h3.1
     ·exact .inr ⟨j,h1,by omega,h3⟩
theorem w3m {cuts:List Int}: ∀(k:Nat),k<cuts.length→ ∀y,rd cuts 0≤y→y<rd cuts k→ ∃j,j<k∧rd cuts j≤y∧y<rd cuts (j+1)
 | 0,_,y,h1,h2=>by omega
 | k+1,hk,y,h1,h2=>by
  by_cases h:rd cuts k≤y
  ·exact ⟨k,BQ _,h,h2⟩
  ·obtain ⟨j,h3,h4⟩:=w3m k (by omega) y h1 (by omega);exact ⟨j,by omega,h4⟩
theorem w7b (cuts:List Int) (hc:cuts.Pairwise (· < ·)) (P:Int→Bool) (S:List R2) (hS: ∀s∈S,s.a∈cuts∧s.b∈cuts) (hP: ∀y,P y=true↔pt S y):
  Can (y2t cuts (cuts.map P))∧ ∀y,pt (y2t cuts (cuts.map P)) y↔pt S y:=by
 obtain ⟨r1,r2⟩:=x4i cuts (cuts.map P) hc (cuts.length - 1) 0 [] (by omega) .nil (by simp);refine ⟨r1,fun y=> ?_⟩;unfold y2t;rw [r2];have hin: ∀x,x∈cuts→ ∃i,i<cuts.length∧rd cuts i=x:=fun x hx=>by obtain ⟨i,hi,h⟩:=AN hx;exact ⟨i,hi,by rw [Yo hi];exact h⟩
 have hmap: ∀j,j<cuts.length→rd (cuts.map P) j=P (rd cuts j):=fun j hj=>by
  grind [Yo]
 have le_of: ∀i j,i<cuts.length→j<cuts.length→i≤j→rd cuts i≤rd cuts j:=fun i j hi hj hij=>by
  rcases A7 hij with rfl | h
  ·grind
  ·exact Int.le_of_lt (x3p hc h hj)
 constructor
 ·rintro (⟨s,hs,_⟩ | ⟨j,h1,h2,h3,h4,h5⟩)
  ·cases hs
  ·have hj:j+1<cuts.length:=by omega
   rw [hmap j (by omega)] at h3;obtain ⟨s,hs,a1,a2⟩:=(hP _).1 h3;obtain ⟨ca,cb⟩:=hS s hs;obtain ⟨m,hm,em⟩:=hin s.b cb;refine ⟨s,hs,by omega,?_⟩
   grind
 ·rintro ⟨s,hs,a1,a2⟩;right;obtain ⟨ca,cb⟩:=hS s hs;obtain ⟨n,hn,en⟩:=hin s.a ca;obtain ⟨m,hm,em⟩:=hin s.b cb;have h0:=le_of 0 n (by omega) hn (AC _);obtain ⟨j,h1,h2,h3⟩:=w3m m hm y (by omega) (by omega);refine ⟨j,AC _,by omega,?_,h2,h3⟩;rw [hmap j (by omega),hP];refine ⟨s,hs,?_,?_⟩;all_goals grind
def net (E:List R3) (y:Int):Int:=(E.map fun e=>if e.a≤y then e.c else 0).sum
theorem z1s (e:R3) (E:List R3) (y:Int):net (e::E) y=(if e.a≤y then e.c else 0)+net E y:=by simp [net]
theorem u3n {E F:List R3} (h:E.Perm F) (y:Int):net E y=net F y:=by
 induction h with
 | nil=>rfl
 | cons e _ ih=>rw [z1s,z1s,ih]
 | swap a b l=>simp only [z1s];omega
 | trans _ _ i1 i2=>rw [i1,i2]
theorem w5p (E:List R3) (y:Int) (h: ∀e∈E,y<e.a):net E y=0:=by
 induction E with
 | nil=>rfl
 | cons e E ih=>
  grind [z1s]
theorem v9b (out:List R2) (last:Int) (inn:Bool) (x:Int):Uk out last inn x=bif inn&& !(last == x) then push out last x else out:=by
 grind [Uk,push]
theorem x1t {out:List R2} {last x:Int} (inn:Bool) (hc:Can out) (hb: ∀s∈out,s.b≤last) (hx:last≤x):
  Can (Uk out last inn x)∧(∀s∈Uk out last inn x,s.b≤x)∧ ∀y,pt (Uk out last inn x) y↔pt out y∨(inn=true∧last≤y∧y<x):=by
 rw [v9b];rcases Yp (inn&& !(last == x)) with q | q;all_goals grind [w5m]
def Asc (E:List R3):Prop:=E.Pairwise fun e f=>e.a≤f.a
theorem v2r : ∀(E:List R3) (o last:Int) (out:List R2),Asc E→(∀e∈E,last≤e.a)→Can out→(∀s∈out,s.b≤last)→
  Can (swF E o last (decide (o>0)) out)∧ ∀y,pt (swF E o last (decide (o>0)) out) y↔pt out y∨(last≤y∧0<o+net E y∧ ∃e∈E,y<e.a)
 | [],o,last,out,_,_,hc,_=>⟨hc,fun y=>⟨.inl,fun h=>h.elim id fun ⟨_,_,e,he,_⟩=>by cases he⟩⟩
 | e ::r,o,last,out,hE,hl,hc,hb=>by
  have he:=hl e (by simp);have hr:=AR.1 hE;obtain ⟨p1,p2,p3⟩:=x1t (decide (o>0)) hc hb he;obtain ⟨q1,q2⟩:=v2r r (o+e.c) e.a (Uk out last (decide (o>0)) e.a) hr.2 hr.1 p1 p2;rw [y3m];refine ⟨q1,fun y=> ?_⟩;rw [q2,p3,z1s];constructor
  ·rintro ((h | ⟨h1,h2,h3⟩) | ⟨h1,h2,f,hf,h3⟩)
   ·exact .inl h
   ·right;have h1:=Aw h1;refine ⟨h2,?_,e,by simp,h3⟩;rw [AF (by omega),w5p r y fun f hf=>by have:=hr.1 f hf;omega];omega
   ·right;refine ⟨by omega,?_,f,by simp [hf],h3⟩;rw [AL h1];omega
  ·rintro (h | ⟨h1,h2,f,hf,h3⟩)
   ·exact .inl (.inl h)
   ·by_cases hy:e.a≤y
    ·right;rw [AL hy] at h2;refine ⟨hy,by omega,f,?_,h3⟩;rcases AI.1 hf with rfl | hf
     ·omega
     ·exact hf
    ·left;right;rw [AF hy,w5p r y fun f hf=>by have:=hr.1 f hf;omega] at h2;exact ⟨An (by omega),h1,by omega⟩
theorem u3o (l:List R2) (hv: ∀s∈l,s.a<s.b) (y:Int):0≤net (Qr l) y∧(0<net (Qr l) y↔pt l y):=by
 induction l with
 | nil=>grind [net,Qr,pt]
 | cons s l ih=>
  obtain ⟨i1,i2⟩:=ih fun t ht=>hv t (by simp [ht]);have hs:=hv s (by simp);have e:net (Qr (s::l)) y=(if s.a≤y∧y<s.b then 1 else 0)+net (Qr l) y:=by
   grind [Qr,z1s]
  rw [e];by_cases h:s.a≤y∧y<s.b
  ·rw [AL h];exact ⟨by omega,⟨fun _=>⟨s,by simp,h⟩,fun _=>by omega⟩⟩
  ·rw [AF h];refine ⟨by omega,?_⟩;rw [BO,i2];constructor
   ·rintro ⟨t,ht,h2⟩;exact ⟨t,by simp [ht],h2⟩
   ·rintro ⟨t,ht,h2⟩;rcases AI.1 ht with rfl | ht
    ·grind
    ·exact ⟨t,ht,h2⟩
theorem y7q {l:List R2} {s:R2} (h:s∈l):(⟨s.b,0,-1⟩:R3)∈Qr l∧(⟨s.a,0,1⟩:R3)∈Qr l:=
 ⟨AK.2 ⟨s,h,by simp⟩,AK.2 ⟨s,h,by simp⟩⟩
theorem w4q (l:List R3) (h:y3c l=true):Asc (z2b l):=by
 refine AZ.2 fun i j hi hj hij=> ?_
 grind [Qe,Yo]
theorem y0f (l:List R2) (hv:l.all z1h=true):Can (swV l)∧ ∀y,pt (swV l) y↔pt l y:=by
 have hb:y3c (Qr l)=true:=At.2 fun e he=>by obtain ⟨s,hs,h1⟩:=AK.1 he;have hv:=At.1 hv s hs;simp only [z1h,Ae,As] at hv;simp only [AI,Bm,BU] at h1;rcases h1 with rfl | rfl <;> exact An (by grind)
 have hpos: ∀s∈l,s.a<s.b:=fun s hs=>by
  grind [z1h]
 obtain ⟨hp,_⟩:=Qe (Qr l) hb;have ha:=w4q (Qr l) hb;have hn: ∀y,net (z2b (Qr l)) y=net (Qr l) y:=fun y=>u3n hp y;unfold swV;generalize z2b (Qr l)=E at hp ha hn;cases E with
 | nil=>refine ⟨.nil,fun y=>⟨fun ⟨s,hs,_⟩=>(by cases hs),fun ⟨s,hs,_⟩=> ?_⟩⟩;have:=hp.mem_iff.2 (y7q hs).1;cases this
 | cons e r=>
  have hr:=AR.1 ha;rw [y3m,BO];have e0:Uk [] 0 false e.a=[]:=rfl;rw [e0];obtain ⟨q1,q2⟩:=v2r r e.c e.a [] hr.2 hr.1 .nil (by simp);refine ⟨q1,fun y=> ?_⟩;rw [q2];obtain ⟨n1,n2⟩:=u3o l hpos y;rw [←n2,←hn,z1s];constructor
  ·rintro (⟨s,hs,_⟩ | ⟨h1,h2,_⟩);all_goals grind
  ·intro h;have hpt:=n2.1 (by rw [←hn,z1s];exact h);obtain ⟨s,hs,s1,s2⟩:=hpt;have m1:=hp.mem_iff.2 (y7q hs).1
   grind [y7q]
theorem x5z (out:List Int) (hs:out.Pairwise (· < ·)) (x:Int): ∀k,k≤out.length→w0w out x k≤k∧(∀i,w0w out x k≤i→i<k→x<rd out i)∧(0<w0w out x k→rd out (w0w out x k - 1)≤x)
 | 0,_=>⟨Aq _,fun i h1 h2=>by omega,fun h=>by simp [w0w] at h⟩
 | k+1,hk=>by
  unfold w0w;rcases Yp (decide (rd out k>x)) with q | q
  ·rw [q,Ab];obtain ⟨h1,h2,h3⟩:=x5z out hs x k (by omega);refine ⟨by omega,fun i a b=> ?_,h3⟩;rcases A7 (Nat.le_of_lt_succ b) with rfl | b
   ·exact Aw q
   ·exact h2 i a b
  ·rw [q,Aa];exact ⟨Aq _,fun i a b=>by omega,fun _=>by have:=of_decide_eq_false q;simp only [Nat.add_sub_cancel];omega⟩
theorem v7i (out:List Int) (hs:out.Pairwise (· < ·)) (x:Int):(x1h out x).Pairwise (· < ·)∧ ∀y,y∈x1h out x↔y∈out∨y=x:=by
 obtain ⟨h1,h2,h3⟩:=x5z out hs x out.length (Aq _);unfold x1h;split
 ·rename_i h0;rw [h0] at h2;refine ⟨AR.2 ⟨fun y hy=> ?_,hs⟩,fun y=>by grind⟩;obtain ⟨i,hi,rfl⟩:=AN hy
  grind [Yo]
 ·rename_i k hk;rw [hk] at h1 h2 h3;have h3:rd out k≤x:=h3 (Nat.succ_pos _);have hkl:k<out.length:=by omega
  rcases Yp (rd out k == x) with q | q
  ·grind [Yo]
  ·rw [q,Aa];have q:rd out k≠x:=by simpa using q
   refine ⟨?_,fun y=> ?_⟩
   ·have st:(out.take (k+1)).Pairwise (· < ·):=hs.sublist (List.take_sublist _ _);have sd:(out.drop (k+1)).Pairwise (· < ·):=hs.sublist (List.drop_sublist _ _);have ht: ∀y∈out.take (k+1),y<x:=fun y hy=>by
     obtain ⟨i,hi,rfl⟩:=AN hy;have hi':i<k+1:=(by grind);rw [Bz];have:rd out i≤rd out k:=by
      rcases A7 (Nat.le_of_lt_succ hi') with rfl | h
      ·grind
      ·exact Int.le_of_lt (x3p hs h hkl)
     grind [Yo]
    have hd: ∀y∈out.drop (k+1),x<y:=fun y hy=>by obtain ⟨i,hi,rfl⟩:=AN hy;simp_all [Yo]
    refine Bw.2 ⟨st,AR.2 ⟨hd,sd⟩,fun a ha b hb=> ?_⟩
    grind
   ·rw [AM,AI];constructor
    ·grind
    ·rintro (h | h)
     ·rw [←List.take_append_drop (k+1) out,AM] at h
      grind
     grind
theorem Wg (l:List Int):(z3b l).Pairwise (· < ·)∧ ∀y,y∈z3b l↔y∈l:=by
 have: ∀(l out:List Int),out.Pairwise (· < ·)→(l.foldl x1h out).Pairwise (· < ·)∧ ∀y,y∈l.foldl x1h out↔y∈out∨y∈l:=by
  intro l
  induction l with
  | nil=>grind
  | cons x l ih=>
   grind [v7i]
 simp_all [z3b]
theorem y2q : ∀(l m:List Int),l.Pairwise (· < ·)→m.Pairwise (· < ·)→(∀x,x∈l↔x∈m)→l=m
 | [],[],_,_,_=>rfl
 | [],b::m,_,_,h=>by have:=(h b).2 (by simp);cases this
 | a::l,[],_,_,h=>by have:=(h a).1 (by simp);cases this
 | a::l,b::m,hl,hm,h=>by
  obtain ⟨a1,a2⟩:=AR.1 hl;obtain ⟨b1,b2⟩:=AR.1 hm;have e:a=b:=by
   have x1:=(h a).1 (by simp);have x2:=(h b).2 (by simp);rcases AI.1 x1 with x1 | x1
   ·exact x1
   rcases AI.1 x2 with x2 | x2
   ·exact x2.symm
   have:=b1 a x1;have:=a1 b x2;omega
  subst e
  congr 1
  refine y2q l m a2 b2 fun x=>⟨fun hx=> ?_,fun hx=> ?_⟩
  ·rcases AI.1 ((h x).1 (by simp [hx])) with e | e
   ·have:=a1 x hx;omega
   ·exact e
  ·rcases AI.1 ((h x).2 (by simp [hx])) with e | e
   ·have:=b1 x hx;omega
   ·exact e
theorem y2s (zs:List Int) (hs:zs.Pairwise (· ≤ ·)): ∀m,m≤zs.length→(compactUpTo zs.toArray m).Pairwise (· < ·)∧ ∀x,x∈compactUpTo zs.toArray m↔x∈zs.take m
 | 0,_=>by simp [compactUpTo]
 | m +1,h=>by
  obtain ⟨h1,h2⟩:=y2s zs hs m (by omega);have hg: ∀j (hj:j<zs.length),zs.toArray[j]! =zs[j]:=fun j hj=>by simp [hj]
  have hle: ∀i j (hi:i<zs.length) (hj:j<zs.length),i<j→zs[i]≤zs[j]:=fun i j hi hj hij=>AZ.1 hs i j hi hj hij;have hm:m<zs.length:=by omega
  rw [compactUpTo_succ,hg m hm,List.take_succ_eq_append_getElem hm];by_cases hk:keeps zs.toArray m=true
  ·rw [AL hk];refine ⟨Bw.2 ⟨h1,List.pairwise_singleton _ _,fun x hx y hy=> ?_⟩,fun x=>by rw [AM,AM,h2 x]⟩;rw [BL.1 hy];obtain ⟨i,hi,rfl⟩:=AN ((h2 x).1 hx);have hi':i<m:=by simp at hi;omega
   rw [Bz];simp only [keeps,As] at hk;rcases hk with hk | hk
   ·omega
   ·rw [hg m hm,hg (m - 1) (by omega)] at hk;have k1:zs[i]≤zs[m - 1]:=by
     rcases A4 i (m - 1) with q | q
     ·exact hle i (m - 1) _ _ q
     ·have e:i=m - 1:=(by omega);subst e;exact A0 _
    have k2:=hle (m - 1) m (by omega) hm (by omega);omega
  ·rw [AF hk,AD];refine ⟨h1,fun x=> ?_⟩;rw [h2 x,AM,BL];refine ⟨.inl,fun hx=>hx.elim id fun e=> ?_⟩;simp only [keeps,As,not_or,Decidable.not_not] at hk;rw [hg m hm,hg (m - 1) (by omega)] at hk;rw [e,hk.2];have:m - 1<(zs.take m).length :=by simp;omega
   have e2:(zs.take m)[m - 1]=zs[m - 1]:=Bz;rw [←e2];exact A1 this
theorem srt_le (zs:List Int):(Xp zs).Pairwise (· ≤ ·):=by have:=List.pairwise_mergeSort (le:=fun x y:Int=>decide (x≤y)) (fun a b c h1 h2=>by grind) (fun a b=>by simp;omega) zs;exact this.imp fun h=>by simpa using h
theorem j2u (zs:List Int) (x:Int):x∈Xp zs↔x∈zs:=List.mem_mergeSort
theorem Kh (zs:List Int):Jn zs=z3b zs:=by obtain ⟨h1,h2⟩:=y2s (Xp zs) (srt_le zs) (Xp zs).length (Aq _);obtain ⟨s1,s2⟩:=Wg zs;refine y2q _ _ h1 s1 fun x=> ?_;rw [show Jn zs=compactUpTo (Xp zs).toArray (Xp zs).length from rfl,h2 x,List.take_length,j2u,s2]
namespace Dim
variable {α β:Type} (D:Dim α β)
def ref (sec:Int→List β) (cs:List Int):Nat→Nat→List α→List β→Nat→List α
 | 0,_,out,_,_=>out
 | k+1,i,out,last,first=>
  bif decide (0<i)&&D.same (sec (rd cs i)) last then ref sec cs k (i+1) (D.grow out first (rd cs (i+1))) last first
  else ref sec cs k (i+1) (out++(sec (rd cs i)).map (D.put (rd cs i) (rd cs (i+1)))) (sec (rd cs i)) out.length
theorem ref_eq (hs: ∀a b,D.same a b=true↔a=b) (l:List α): ∀(k i:Nat) (s:Sw α β) (out:List α) (last:List β) (first:Nat),
  s.out=out→s.last=last→(last≠ []→s.first=first)→(last=[]→out.length≤first)→(0<i→s.fin=rd (D.cuts l) i)→(i=0→last=[])→
  (D.go l k i s).out =D.ref (D.sec l) (D.cuts l) k i out last first
 | 0,i,s,out,last,first,h1,h2,h3,h4,h5,h6=>h1
 | k +1,i,s,out,last,first,h1,h2,h3,h4,h5,h6=>by
  subst h1 h2;have e1:D.go l (k+1) i s=D.go l k (i+1) (D.one l (rd (D.cuts l) i) (rd (D.cuts l) (i+1)) s):=rfl;rw [e1];unfold ref;rcases Yp (decide (0<(D.sec l (rd (D.cuts l) i)).length)&&((s.fin == rd (D.cuts l) i)&&D.same s.last (D.sec l (rd (D.cuts l) i)))) with q | q
  ·have e:D.one l (rd (D.cuts l) i) (rd (D.cuts l) (i+1)) s=⟨D.grow s.out s.first (rd (D.cuts l) (i+1)),s.last,s.first,rd (D.cuts l) (i+1)⟩:=by unfold one;rw [q];rfl
   simp only [Ae,As] at q;obtain ⟨q1,q2,q3⟩:=q;have q3:=(hs _ _).1 q3;have hne:s.last≠ []:=fun h=>by rw [h] at q3;rw [←q3] at q1;exact BS _ q1
   have hi:0<i:=Nat.pos_of_ne_zero fun h=>hne (h6 h);have e2:(decide (0<i)&&D.same (D.sec l (rd (D.cuts l) i)) s.last)=true:=by rw [An hi,Aj,hs,q3]
   rw [e2,Ab,e];refine ref_eq hs l k (i+1) _ _ _ _ ?_ rfl h3 (fun h=>absurd h hne) (fun _=>rfl) (fun h=>by omega);rw [h3 hne]
  ·have e:D.one l (rd (D.cuts l) i) (rd (D.cuts l) (i+1)) s=⟨s.out++(D.sec l (rd (D.cuts l) i)).map (D.put (rd (D.cuts l) i) (rd (D.cuts l) (i+1))),D.sec l (rd (D.cuts l) i),s.out.length,rd (D.cuts l) (i+1)⟩:=by unfold one;rw [q];rfl
   rcases Yp (decide (0<i)&&D.same (D.sec l (rd (D.cuts l) i)) s.last) with q2 | q2
   ·rw [q2,Ab,e];simp only [Ae,As] at q2;obtain ⟨hi,q3⟩:=q2;have q3:=(hs _ _).1 q3;rw [(hs s.last (D.sec l (rd (D.cuts l) i))).2 q3.symm,Ah,h5 hi] at q;have hz:D.sec l (rd (D.cuts l) i)=[]:=by
     cases h:D.sec l (rd (D.cuts l) i) with
     | nil=>rfl
     | cons a b=>rw [h] at q;simp at q
    have hl:s.last=[]:=(by rw [←q3,hz]);have hf:=h4 hl;rw [hz,Bx,AD];refine ref_eq hs l k (i+1) _ _ _ _ ?_ hl.symm (fun h=>absurd hl h) (fun _=> ?_) (fun _=>rfl) (fun h=>by omega)
    ·exact (D.grow_nil _ _ _ hf).symm
    ·rw [D.grow_length];exact hf
   ·rw [q2,Aa,e];exact ref_eq hs l k (i+1) _ _ _ _ rfl rfl (fun _=>rfl) (fun h=>by rw [h];simp) (fun _=>rfl) (fun h=>by omega)
theorem out_eq (hs: ∀a b,D.same a b=true↔a=b) (l:List α):D.out l=D.ref (D.sec l) (D.cuts l) ((D.cuts l).length - 1) 0 [] [] 0:=
 D.ref_eq hs l _ 0 _ [] [] 0 rfl rfl (fun _=>rfl) (fun _=>Aq _) (fun h=>absurd h (BS _)) (fun _=>rfl)
end Dim
theorem v9y (l:List R4):D4.cuts l=xsV l []:=by unfold Dim.cuts xsV;rw [Kh,show z2z ([]:List R4)=[] from rfl,AD];rfl
theorem v8z (l:List R4) (x y:Int):u0f 2 l [] x y=z4h l x y:=by
 grind [u0f,y2p,z4h]
theorem z7k {l:List R4} {x:Int} {s:R2} (h:s∈D4.inn l x): ∃r∈l,r.a≤x∧x<r.c∧s=⟨r.b,r.d⟩:=by obtain ⟨r,hr,e⟩:=AP.1 h;obtain ⟨h1,h2⟩:=AV.1 hr;simp only [Ae,As] at h2;exact ⟨r,h1,h2.1,h2.2,e.symm⟩
theorem v6w {l:List R4} {x:Int} {r:R4} (h:r∈l) (h1:r.a≤x) (h2:x<r.c):(⟨r.b,r.d⟩:R2)∈D4.inn l x:=by refine AP.2 ⟨r,AV.2 ⟨h,?_⟩,rfl⟩;simp only [Ae,As];exact ⟨h1,h2⟩
theorem sec_eq (l:List R4) (hv:l.all Uf=true) (hl:l.length≤400) (x:Int):D4.sec l x=y9y 2 l [] x:=by
 have hin:=D4.inn_length l x;have hvi:(D4.inn l x).all z1h=true:=At.2 fun s hs=>by
  grind [z7k,Uf,z1h]
 have e1:D4.sec l x=swV (D4.inn l x):=by
  show Xn (D4.inn l x)=_
  grind [Xn]
 obtain ⟨c1,c2⟩:=y0f _ hvi;obtain ⟨y1,y2⟩:=Wg (z1g l++z1g []);have e2:y9y 2 l [] x=y2t (ysV l []) ((ysV l []).map fun y=>z4h l x y):=by
  unfold y9y
  congr 1
  simp_all [v8z]
 obtain ⟨d1,d2⟩:=w7b (ysV l []) y1 (fun y=>z4h l x y) (D4.inn l x) (fun s hs=>by
  obtain ⟨r,hr,_,_,rfl⟩:=z7k hs;unfold ysV;exact ⟨(y2 _).2 (AM.2 (.inl (AK.2 ⟨r,hr,by simp⟩))),(y2 _).2 (AM.2 (.inl (AK.2 ⟨r,hr,by simp⟩)))⟩) (fun y=>by
  unfold z4h;rw [List.any_eq_true];constructor
  ·rintro ⟨r,hr,h⟩;simp only [in4,Ae,As] at h;exact ⟨_,v6w hr h.1 h.2.1,h.2.2.1,h.2.2.2⟩
  ·rintro ⟨s,hs,h1,h2⟩
   grind [z7k,in4])
 grind [w7a]
theorem w6h (l:List R4): ∀(k i:Nat) (out:List R4) (last:List R2) (first:Nat),jF 2 l [] k i out last first=D4.ref (y9y 2 l []) (xsV l []) k i out last first
 | 0,_,_,_,_=>rfl
 | k+1,i,out,last,first=>by unfold jF Dim.ref;rw [w6h l k,w6h l k];rfl
theorem joV_eq (l:List R4) (hv:l.all Uf=true) (hl:l.length≤400):D4.out l=joV 2 l []:=by
 rw [D4.out_eq (fun a b=>BB) l,joV,w6h,←v9y]
 congr 1
 funext x
 exact sec_eq l hv hl x
theorem w4l (l:List R6):D6.cuts l=Vq l []:=by unfold Dim.cuts Vq;rw [Kh,show z2y ([]:List R6)=[] from rfl,AD];rfl
theorem j2a (l:List R6) (z:Int):D6.inn l z=atV l z:=rfl
theorem x4z (r:R6):z4g r=x8k r:=by
 unfold z4g x8k;simp only [x3y,x3z];rw [Bool.eq_iff_iff];simp only [Ae,As];have m1: ∀x y z:Int,x≤min y z↔x≤y∧x≤z:=fun x y z=>by omega
 have m2: ∀x y z:Int,max y z≤x↔y≤x∧z≤x:=fun x y z=>by omega
 simp only [ge_iff_le,m1,m2]
 grind
theorem v9k (l:List R6) (hv:l.all z4g=true) (z:Int):(atV l z).all Uf=true:=At.2 fun s hs=>by
 obtain ⟨r,hr,rfl⟩:=AP.1 hs;have:=At.1 hv r (AV.1 hr).1;rw [x4z] at this;simp only [x8k,Ae,As] at this;show Uf ⟨r.a,r.b,r.d,r.e⟩=true
 grind [Uf]
section
variable (l:List R6) (hv:l.all z4g=true) (hl:l.length≤400)
include hv hl
theorem j1x (z:Int):D4.out (atV l z)=joV 2 (atV l z) []:=joV_eq _ (v9k l hv z) (Av (z6j l z) hl)
theorem j1w (z:Int):badS l z=z9b 2 l [] z:=by
 have h1:=j1x l hv hl z;have h2:=z6j l z;have e:joV 2 (atV [] z) []=[]:=rfl
 grind [badS,z9b,y3a,atV,j2a,Ww,v9k]
theorem j3r (z:Int) (h:badS l z=false):D6.sec l z=y3a 2 l [] z:=by
 have h1:=j1x l hv hl z;have h2:=z6j l z;rw [j1w l hv hl] at h;show Ze (D6.inn l z)=joV 2 (atV l z) (atV [] z)
 grind [j2a,Ze,atV,z9b,v9k]
theorem w2b : ∀(k i:Nat) (out:List R6) (last:List R4) (first:Nat),jsF 2 l [] k i out last first=bif okF l k i then some (D6.ref (D6.sec l) (D6.cuts l) k i out last first) else none
 | 0,_,_,_,_=>rfl
 | k+1,i,out,last,first=>by
  unfold jsF okF Dim.ref;rw [←w4l,←j1w l hv hl];rcases Yp (badS l (rd (D6.cuts l) i)) with q | q
  ·rw [q];rfl
  ·have:=j3r l hv hl _ q;rw [q,Aa,Aa,this,w2b k,w2b k];have e:D6.same (y3a 2 l [] (rd (D6.cuts l) i)) last=Ur (y3a 2 l [] (rd (D6.cuts l) i)) last:=rfl;rw [e];cases (decide (0<i)&&Ur (y3a 2 l [] (rd (D6.cuts l) i)) last) <;> rfl
theorem jsO_eq :jsO 2 l []=bif okF l ((D6.cuts l).length - 1) 0 then some (D6.out l) else none:=by unfold jsO;rw [w2b l hv hl,←w4l,D6.out_eq (fun a b=>BB) l]
end
theorem w6z (l:List R6):Zn l=z1n l:=by
 unfold Zn z1n;by_cases h:400<l.length
 ·grind
 ·rw [AB h,Aa,Aa,show l.all x8k=l.all z4g from by grind [x4z]];rcases Yp (l.all z4g) with hv | hv
  ·rw [hv,Ab,Ab];unfold rckF y8w z5h;rw [jsO_eq l hv (by omega)]
   grind
  grind
def Cg (x y:Int):Prop:=(18446744073709551616:Int)∣x - y
theorem Cg.refl (x:Int):Cg x x:=by grind [Cg]
theorem Cg.trans {x y z:Int} (h:Cg x y) (k:Cg y z):Cg x z:=by unfold Cg at*;omega
theorem Cg.add {x y u v:Int} (h:Cg x y) (k:Cg u v):Cg (x+u) (y+v):=by unfold Cg at*;omega
theorem Cg.mul {x y u v:Int} (h:Cg x y) (k:Cg u v):Cg (x*u) (y*v):=by
 unfold Cg at*;have:x*u - y*v=(x - y)*u+y*(u - v):=by grind
 rw [this];exact Int.dvd_add (Int.dvd_mul_of_dvd_left h) (Int.dvd_mul_of_dvd_right k)
theorem Cg.wrap (x:Int):Cg (IntKind.wrap .i64 x) x:=by rw [w64];unfold Cg;omega
theorem Cg.eq {x y:Int} (h:Cg x y):IntKind.wrap .i64 x=IntKind.wrap .i64 y:=by rw [w64,w64];unfold Cg at h;omega
theorem Cg.w {x y:Int} (h:Cg x y):Cg (IntKind.wrap .i64 x) y:=(Cg.wrap x).trans h
def bxV (r:R6):Int:=(r.d - r.a)*(r.e - r.b)*(r.f - r.c)
def sm {α:Type} (l:List α) (f:α→Int):Int:=(l.map f).sum
theorem u7g {α:Type} (f:α→Int):sm ([]:List α) f=0:=rfl
theorem v3n {α:Type} (x:α) (l:List α) (f:α→Int):sm (x::l) f=f x+sm l f:=by simp [sm]
open Go.Proofs Go.Sort Go.Shelf Go.RowKit Go.Lib
namespace Dim
variable {α β:Type} (D:Dim α β)
structure Fair :Prop where
 lo_put: ∀x x' b,D.lo (D.put x x' b)=x
 hi_put: ∀x x' b,D.hi (D.put x x' b)=x'
 pr_put: ∀x x' b,D.pr (D.put x x' b)=b
 ext_put: ∀x x' x'' b,D.ext x'' (D.put x x' b)=D.put x x'' b
def Ap (R:β→β→Prop) (a b:α):Prop:=D.hi a≤D.lo b∨D.hi b≤D.lo a∨R (D.pr a) (D.pr b)
theorem v5h {D:Dim α β} (hD:D.Fair) (R:β→β→Prop) (sec:Int→List β) (cs:List Int) (hc:cs.Pairwise (· < ·)) (eQ: ∀x,(sec x).Pairwise R):
  ∀(k i:Nat) (pre:List α) (last:List β) (x0:Int),(i+k<cs.length∨k=0)→pre.Pairwise (D.Ap R)→(∀a∈pre,D.hi a≤x0)→(last≠ []→x0≤rd cs i)→(last=[]→x0≤rd cs i)→last.Pairwise R→
  (D.ref sec cs k i (pre++last.map (D.put x0 (rd cs i))) last pre.length).Pairwise (D.Ap R):=by
 have fin: ∀(pre:List α) (last:List β) (x0 x':Int),pre.Pairwise (D.Ap R)→(∀a∈pre,D.hi a≤x0)→last.Pairwise R→(pre++last.map (D.put x0 x')).Pairwise (D.Ap R):=fun pre last x0 x' h1 h2 h3=>by
  refine Bw.2 ⟨h1,?_,fun a ha b hb=> ?_⟩
  ·refine List.pairwise_map.2 (h3.imp fun {a b} h=>.inr (.inr ?_));rw [hD.pr_put,hD.pr_put];exact h
  ·obtain ⟨c,_,rfl⟩:=AP.1 hb;exact .inl (by rw [hD.lo_put];exact h2 a ha)
 intro k
 induction k with
 | zero=>intro i pre last x0 _ h1 h2 _ _ h3;exact fin pre last x0 _ h1 h2 h3
 | succ k ih=>
  intro i pre last x0 hk h1 h2 h4 h5 h3;have hlt:rd cs i<rd cs (i+1):=x3p hc (BQ _) (by omega);unfold ref;cases hq:(decide (0<i)&&D.same (sec (rd cs i)) last) with
  | true=>
   rw [Ab];have e:D.grow (pre++last.map (D.put x0 (rd cs i))) pre.length (rd cs (i+1))=pre++last.map (D.put x0 (rd cs (i+1))):=by
    unfold grow;rw [List.take_left,List.drop_left,List.map_map]
    congr 1
    exact BI fun b _=>hD.ext_put _ _ _ _
   rw [e];exact ih (i+1) pre last x0 (by omega) h1 h2 (fun h=>by grind) (fun h=>by grind) h3
  | false=>
   rw [Aa];refine ih (i+1) (pre++last.map (D.put x0 (rd cs i))) (sec (rd cs i)) (rd cs i) (by omega) (fin pre last x0 _ h1 h2 h3) (fun a ha=> ?_) (fun _=>by omega) (fun _=>by omega) (eQ _);rcases AM.1 ha with ha | ha
   ·grind
   ·obtain ⟨c,_,rfl⟩:=AP.1 ha;rw [hD.hi_put];grind
theorem out_apart {D:Dim α β} (hD:D.Fair) (R:β→β→Prop) (hs: ∀a b,D.same a b=true↔a=b) (l:List α) (eQ: ∀x,(D.sec l x).Pairwise R):(D.out l).Pairwise (D.Ap R):=by
 rw [D.out_eq hs l];have hc:(D.cuts l).Pairwise (· < ·):=by show (Jn (D.ends l)).Pairwise (· < ·);rw [Kh];exact (Wg _).1
 have:=v5h hD R (D.sec l) (D.cuts l) hc eQ ((D.cuts l).length - 1) 0 [] [] (rd (D.cuts l) 0) (by omega) .nil (by simp) (fun _=>A0 _) (fun _=>A0 _) .nil;exact this
end Dim
theorem z2g :D4.Fair:=⟨fun _ _ _=>rfl,fun _ _ _=>rfl,fun _ _ _=>rfl,fun _ _ _ _=>rfl⟩
theorem z7w :D6.Fair:=⟨fun _ _ _=>rfl,fun _ _ _=>rfl,fun _ _ _=>rfl,fun _ _ _ _=>rfl⟩
def Ap2 (s t:R2):Prop:=s.b≤t.a∨t.b≤s.a
def Ap4 (s t:R4):Prop:=s.c≤t.a∨t.c≤s.a∨s.d≤t.b∨t.d≤s.b
def Ap6 (s t:R6):Prop:=s.d≤t.a∨t.d≤s.a∨s.e≤t.b∨t.e≤s.b∨s.f≤t.c∨t.f≤s.c
theorem v3g (l:List R2):(Xn l).Pairwise Ap2:=by
 unfold Xn;by_cases h:400<l.length
 ·simp_all
 ·rw [AB h,Aa];cases hv:l.all z1h with
  | false=>exact .nil
  | true=>rw [Ab];exact (y0f l hv).1.sep.imp fun {s t} h=>.inl (by omega)
theorem v4z (l:List R4):(Ze l).Pairwise Ap4:=by
 have key:(D4.out l).Pairwise Ap4:=(Dim.out_apart z2g Ap2 (fun a b=>BB) l fun x=>v3g _).imp fun {s t} h=>by
  rcases h with h | h | h | h
  ·exact .inl h
  ·exact .inr (.inl h)
  ·exact .inr (.inr (.inl h))
  ·exact .inr (.inr (.inr h))
 unfold Ze;by_cases h:400<l.length
 ·simp_all
 ·rw [AB h,Aa];cases l.all Uf with
  | false=>exact .nil
  | true=>
   rw [Ab];cases decide (((D4.out l).length :Int)>400) with
   | true=>exact .nil
   | false=>exact key
theorem Vh {l:List R6} (h:Zn l=0):l.length≤400∧(∀r∈l,z4g r=true)∧l=D6.out l∧l.Pairwise Ap6:=by
 unfold Zn at h;by_cases h1:400<l.length
 ·grind
 ·rw [AB h1,Aa] at h;cases hv:l.all z4g with
  | false=>grind
  | true=>
   rw [hv,Ab] at h;cases ho:okF l ((D6.cuts l).length - 1) 0 with
   | false=>grind
   | true=>
    rw [ho,Ab] at h;cases h2:decide (((D6.out l).length :Int)>400) with
    | true=>grind
    | false=>
     rw [h2,Aa] at h;cases h3:Jf (D6.out l) l with
     | false=>grind
     | true=>
      have e:D6.out l=l:=Aw h3;refine ⟨by omega,fun r hr=>At.1 hv r hr,e.symm,?_⟩;have:=(Dim.out_apart z7w Ap4 (fun a b=>BB) l fun x=>v4z _).imp (S:=Ap6) fun {s t} h=>by
       rcases h with h | h | h | h | h | h
       ·exact .inr (.inr (.inr (.inr (.inl h))))
       ·exact .inr (.inr (.inr (.inr (.inr h))))
       ·exact .inl h
       ·exact .inr (.inl h)
       ·exact .inr (.inr (.inl h))
       ·exact .inr (.inr (.inr (.inl h)))
      grind
theorem Ka {r:R6} (h:z4g r=true):r.a<r.d∧r.b<r.e∧r.c<r.f∧ -1000000≤r.a∧ -1000000≤r.b∧ -1000000≤r.c∧r.d≤1000000∧r.e≤1000000∧r.f≤1000000:=by
 grind [x4z,x8k]
open Go.Proofs Go.Sort Go.Shelf Go.RowKit Go.Lib
structure Qg (β:Type) where
 a:Int
 b:Int
 s:List β
def ptL {β γ:Type} (inB:β→γ→Prop) (s:List β) (q:γ):Prop:= ∃r∈s,inB r q
theorem y6m {β γ:Type} (inB:β→γ→Prop) (q:γ): ¬ptL inB [] q:=fun ⟨_,h,_⟩=>by cases h
structure Sem (β γ:Type) where
 can:List β→Prop
 inB:β→γ→Prop
 uniq: ∀s t,can s→can t→(∀q,ptL inB s q↔ptL inB t q)→s=t
 some: ∀s,can s→s≠ []→ ∃q,ptL inB s q
 nil:can []
section
variable {β γ:Type} (M:Sem β γ)
def OkS (g:Qg β):Prop:=g.a<g.b∧M.can g.s∧g.s≠ []
def Nxt (g h:Qg β):Prop:=g.b≤h.a∧(g.b=h.a→g.s≠h.s)
inductive z1k :List (Qg β)→Prop
 | nil:z1k []
 | one (g:Qg β) (h:OkS M g):z1k [g]
 | cons (g h:Qg β) (r:List (Qg β)) (ok:OkS M g) (nx:Nxt g h) (k:z1k (h::r)):z1k (g::h::r)
def ptG (G:List (Qg β)) (x:Int) (q:γ):Prop:= ∃g∈G,g.a≤x∧x<g.b∧ptL M.inB g.s q
variable {M}
theorem z1k.head {g:Qg β} {r:List (Qg β)} (h:z1k M (g::r)):OkS M g:=by cases h <;> assumption
theorem z1k.tail {g:Qg β} {r:List (Qg β)} (h:z1k M (g::r)):z1k M r:=by
 cases h with
 | one=>exact .nil
 | cons _ _ _ _ _ k=>exact k
theorem z1k.later {g:Qg β} {r:List (Qg β)} (h:z1k M (g::r)): ∀k∈r,g.b≤k.a:=by
 induction r generalizing g with
 | nil=>grind
 | cons k r ih=>
  cases h with
  | cons _ _ _ ok nx kk=>
   intro m hm;rcases AI.1 hm with rfl | hm
   ·exact nx.1
   ·have h1:=ih kk m hm;have h2:=kk.head.1;have h3:=nx.1;omega
theorem z1k.all {G:List (Qg β)} (h:z1k M G): ∀g∈G,OkS M g:=by
 induction G with
 | nil=>grind
 | cons k r ih=>
  intro g hg;rcases AI.1 hg with rfl | hg
  ·exact h.head
  ·exact ih h.tail g hg
theorem z1k.before {G:List (Qg β)} {g:Qg β} (k:z1k M (G++[g])): ∀m∈G,m.b≤g.a:=by
 induction G with
 | nil=>grind
 | cons m r ih=>
  intro n hn;rcases AI.1 hn with rfl | hn
  ·exact k.later g (by simp)
  ·exact ih k.tail n hn
theorem z1k.snoc {G:List (Qg β)} {g h:Qg β} (k:z1k M (G++[g])) (ok:OkS M h) (nx:Nxt g h):z1k M (G++[g]++[h]):=by
 induction G with
 | nil=>exact .cons g h [] k.head nx (.one h ok)
 | cons m r ih=>
  have i:=ih k.tail;cases r with
  | nil=>
   cases k with
   | cons _ _ _ ok1 nx1 k1=>exact .cons m g [h] ok1 nx1 i
  | cons m2 r=>
   cases k with
   | cons _ _ _ ok1 nx1 k1=>exact .cons m m2 _ ok1 nx1 i
theorem z1k.stretch {G:List (Qg β)} {g:Qg β} {x:Int} (k:z1k M (G++[g])) (hx:g.b≤x):z1k M (G++[⟨g.a,x,g.s⟩]):=by
 induction G with
 | nil=>have:=k.head;exact .one _ ⟨by have:=this.1;grind,this.2⟩
 | cons m r ih=>
  have i:=ih k.tail;cases r with
  | nil=>
   cases k with
   | cons _ _ _ ok1 nx1 k1=>exact .cons m _ [] ok1 nx1 i
  | cons m2 r=>
   cases k with
   | cons _ _ _ ok1 nx1 k1=>exact .cons m m2 _ ok1 nx1 i
theorem z8u (g:Qg β) (G:List (Qg β)) (x:Int) (q:γ):ptG M (g::G) x q↔(g.a≤x∧x<g.b∧ptL M.inB g.s q)∨ptG M G x q:=by
 constructor
 ·rintro ⟨k,hk,h⟩;rcases AI.1 hk with rfl | hk
  ·exact .inl h
  ·exact .inr ⟨k,hk,h⟩
 ·rintro (h | ⟨k,hk,h⟩)
  ·exact ⟨g,by simp,h⟩
  ·exact ⟨k,by simp [hk],h⟩
theorem x0s (G H:List (Qg β)) (x:Int) (q:γ):ptG M (G++H) x q↔ptG M G x q∨ptG M H x q:=by
 constructor
 ·rintro ⟨k,hk,h⟩;rcases AM.1 hk with hk | hk
  ·exact .inl ⟨k,hk,h⟩
  ·exact .inr ⟨k,hk,h⟩
 ·rintro (⟨k,hk,h⟩ | ⟨k,hk,h⟩)
  ·exact ⟨k,AM.2 (.inl hk),h⟩
  ·exact ⟨k,AM.2 (.inr hk),h⟩
theorem z1k.low {g:Qg β} {r:List (Qg β)} (h:z1k M (g::r)) {x:Int} {q:γ} (hp:ptG M (g::r) x q):g.a≤x:=by
 rcases (z8u g r x q).1 hp with hp | ⟨k,hk,h1,_⟩
 ·exact hp.1
 ·have:=h.later k hk;have:=h.head.1;omega
theorem z1k.rest {g:Qg β} {r:List (Qg β)} (h:z1k M (g::r)) (x:Int) (q:γ):ptG M r x q↔g.b≤x∧ptG M (g::r) x q:=by
 constructor
 ·rintro ⟨k,hk,h1,h2⟩;have:=h.later k hk;exact ⟨by omega,k,by simp [hk],h1,h2⟩
 grind [z8u]
theorem z1k.sec0 {g:Qg β} {r:List (Qg β)} (h:z1k M (g::r)) {x:Int} (hx:g.a≤x∧x<g.b) (q:γ):ptG M (g::r) x q↔ptL M.inB g.s q:=by
 rw [z8u];constructor
 ·rintro (h1 | ⟨k,hk,h1,_⟩)
  ·exact h1.2.2
  ·have:=h.later k hk;omega
 grind
theorem x7f : ∀(G H:List (Qg β)),z1k M G→z1k M H→(∀x q,ptG M G x q↔ptG M H x q)→G=H
 | [],[],_,_,_=>rfl
 | [],h::H,_,hH,e=>by obtain ⟨q,hq⟩:=M.some _ hH.head.2.1 hH.head.2.2;have:=(e h.a q).2 ((hH.sec0 ⟨A0 _,hH.head.1⟩ q).2 hq);obtain ⟨k,hk,_⟩:=this;cases hk
 | g::G,[],hG,_,e=>by obtain ⟨q,hq⟩:=M.some _ hG.head.2.1 hG.head.2.2;have:=(e g.a q).1 ((hG.sec0 ⟨A0 _,hG.head.1⟩ q).2 hq);obtain ⟨k,hk,_⟩:=this;cases hk
 | g::G,h::H,hG,hH,e=>by
  have og:=hG.head;have oh:=hH.head;obtain ⟨q,hq⟩:=M.some _ og.2.1 og.2.2;obtain ⟨p,hp⟩:=M.some _ oh.2.1 oh.2.2;have a1:h.a≤g.a:=hH.low ((e g.a q).1 ((hG.sec0 ⟨A0 _,og.1⟩ q).2 hq));have a2:g.a≤h.a:=hG.low ((e h.a p).2 ((hH.sec0 ⟨A0 _,oh.1⟩ p).2 hp));have a3:g.a=h.a:=by omega
  have s1:g.s=h.s:=M.uniq _ _ og.2.1 oh.2.1 fun q=>by rw [←hG.sec0 (x:=g.a) ⟨A0 _,og.1⟩,e,hH.sec0 (x:=g.a) ⟨by omega,by have:=oh.1;omega⟩]
  have key: ∀(g h:Qg β) (G H:List (Qg β)),z1k M (g::G)→z1k M (h::H)→(∀x q,ptG M (g::G) x q↔ptG M (h::H) x q)→g.a=h.a→g.s=h.s→ ¬g.b<h.b:=fun g h G H hG hH e ea es hlt=>by
   have og:=hG.head;have oh:=hH.head;have at_: ∀q,ptG M (g::G) g.b q↔ptL M.inB h.s q:=fun q=>by rw [e,hH.sec0 ⟨by have:=og.1;omega,hlt⟩]
   obtain ⟨q,hq⟩:=M.some _ oh.2.1 oh.2.2;have:=(hG.rest g.b q).2 ⟨A0 _,(at_ q).2 hq⟩;cases hG with
   | one=>obtain ⟨k,hk,_⟩:=this;cases hk
   | cons _ k r ok nx kk=>
    have hk:k.a≤g.b:=kk.low this;have hk2:g.b=k.a:=by have:=nx.1;omega
    refine nx.2 hk2 ?_;rw [es];refine M.uniq _ _ oh.2.1 kk.head.2.1 fun p=> ?_;rw [←at_,←kk.sec0 (x:=g.b) ⟨by omega,by have:=kk.head.1;omega⟩];constructor
    ·exact fun hp=>((z1k.cons g k r ok nx kk).rest g.b p).2 ⟨A0 _,hp⟩
    ·exact fun hp=>(((z1k.cons g k r ok nx kk).rest g.b p).1 hp).2
  have b1:=key g h G H hG hH e a3 s1;have b2:=key h g H G hH hG (fun x q=>(e x q).symm) a3.symm s1.symm;have b3:g.b=h.b:=by omega
  have eg:g=h:=by
   obtain ⟨ga,gb,gs⟩:=g;obtain ⟨ha,hb,hs⟩:=h;simp only at a3 b3 s1
   subst_vars;rfl
  subst eg
  congr 1
  exact x7f G H hG.tail hH.tail fun x q=>by rw [hG.rest,hH.rest,e]
end
namespace Dim
variable {α β:Type} (D:Dim α β)
def flat (G:List (Qg β)):List α:=G.flatMap fun g=>g.s.map (D.put g.a g.b)
theorem flat_append (G H:List (Qg β)):D.flat (G++H)=D.flat G++D.flat H:=by simp [flat]
theorem flat_one (g:Qg β):D.flat [g]=g.s.map (D.put g.a g.b):=by simp [flat]
def inA {γ:Type} (inB:β→γ→Prop) (r:α) (p:Int×γ):Prop:=D.lo r≤p.1∧p.1<D.hi r∧inB (D.pr r) p.2
variable {D}
theorem flat_pt (hD:D.Fair) {γ:Type} (M:Sem β γ) (G:List (Qg β)) (x:Int) (q:γ):ptL (D.inA M.inB) (D.flat G) (x,q)↔ptG M G x q:=by
 constructor
 ·rintro ⟨r,hr,h⟩;obtain ⟨g,hg,hr⟩:=AK.1 hr;obtain ⟨b,hb,rfl⟩:=AP.1 hr;unfold inA at h;rw [hD.lo_put,hD.hi_put,hD.pr_put] at h;exact ⟨g,hg,h.1,h.2.1,b,hb,h.2.2⟩
 ·rintro ⟨g,hg,h1,h2,b,hb,h3⟩;refine ⟨D.put g.a g.b b,AK.2 ⟨g,hg,AP.2 ⟨b,hb,rfl⟩⟩,?_⟩;unfold inA;rw [hD.lo_put,hD.hi_put,hD.pr_put]
  grind
def can {γ:Type} (M:Sem β γ) (l:List α):Prop:= ∃G,z1k M G∧l=D.flat G
def sem (hD:D.Fair) {γ:Type} (M:Sem β γ):Sem α (Int×γ) where
 can:=D.can M
 inB:=D.inA M.inB
 uniq:=fun s t ⟨G,hG,e1⟩ ⟨H,hH,e2⟩ h=>by subst e1 e2;rw [x7f G H hG hH fun x q=>by simp_all [flat_pt]]
 some:=fun s ⟨G,hG,e1⟩ hs=>by
  subst e1;cases G with
  | nil=>exact absurd rfl hs
  | cons g G=>obtain ⟨q,hq⟩:=M.some _ hG.head.2.1 hG.head.2.2;exact ⟨(g.a,q),(flat_pt hD M _ _ _).2 ((hG.sec0 ⟨A0 _,hG.head.1⟩ q).2 hq)⟩
 nil:=⟨[],.nil,rfl⟩
variable (D)
def oneS (sec:List β) (x x':Int) (s:Sw α β):Sw α β:=
 bif decide (0<sec.length)&&((s.fin == x)&&D.same s.last sec) then ⟨D.grow s.out s.first x',s.last,s.first,x'⟩
 else ⟨s.out++sec.map (D.put x x'),sec,s.out.length,x'⟩
def goS (sec:Int→List β) (cs:List Int):Nat→Nat→Sw α β→Sw α β
 | 0,_,s=>s
 | k+1,i,s=>goS sec cs k (i+1) (D.oneS (sec (rd cs i)) (rd cs i) (rd cs (i+1)) s)
theorem j1p (l:List α): ∀(k i:Nat) (s:Sw α β),D.go l k i s=D.goS (D.sec l) (D.cuts l) k i s
 | 0,_,_=>rfl
 | k+1,i,s=>j1p l k (i+1) _
variable {D}
structure Inv {γ:Type} (M:Sem β γ) (sec:Int→List β) (cs:List Int) (i:Nat) (s:Sw α β) (G:List (Qg β)):Prop where
 can:z1k M G
 out:s.out=D.flat G
 gap:s.last=[]→ ∀g∈G,g.b<rd cs i
 end_ : s.last ≠ [] → ∃ Gp g, G = Gp ++ [g] ∧ g.s = s.last ∧ g.b = rd cs i ∧ s.fin = rd cs i ∧ s.first = (D.flat Gp).length
 pts: ∀x q,ptG M G x q↔ ∃j,j<i∧rd cs j≤x∧x<rd cs (j+1)∧ptL M.inB (sec (rd cs j)) q
theorem u4u (hD:D.Fair) (hs: ∀a b,D.same a b=true↔a=b) {γ:Type} (M:Sem β γ) {sec:Int→List β} {cs:List Int} (hc:cs.Pairwise (· < ·)) (eQ: ∀x,M.can (sec x)) {i:Nat} (hi:i+1<cs.length) {s:Sw α β} {G:List (Qg β)} (h:Inv (D:=D) M sec cs i s G):
  ∃G',Inv (D:=D) M sec cs (i+1) (D.oneS (sec (rd cs i)) (rd cs i) (rd cs (i+1)) s) G':=by
 have hlt:rd cs i<rd cs (i+1):=x3p hc (BQ _) hi;unfold oneS;rcases Yp (decide (0<(sec (rd cs i)).length)&&((s.fin == rd cs i)&&D.same s.last (sec (rd cs i)))) with q | q
 ·rw [q,Ab];simp only [Ae,As] at q;obtain ⟨q1,q2,q3⟩:=q;have q3:=(hs _ _).1 q3;have hne:s.last≠ []:=fun e=>by grind
  obtain ⟨Gp,g,e1,e2,e3,e4,e5⟩:=h.end_ hne;subst e1;refine ⟨Gp++[⟨g.a,rd cs (i+1),g.s⟩],h.can.stretch (by omega),?_,fun e=>absurd e hne,fun _=>⟨Gp,_,rfl,e2,rfl,rfl,e5⟩,fun x p=> ?_⟩
  ·show D.grow s.out s.first (rd cs (i+1))=_
   rw [h.out,e5];unfold grow;rw [D.flat_append,D.flat_append,D.flat_one,D.flat_one,List.take_left,List.drop_left,List.map_map]
   congr 1
   exact BI fun b _=>hD.ext_put _ _ _ _
  ·have hp:=h.pts x p;rw [x0s,z8u] at hp ⊢;have z: ¬ptG M ([]:List (Qg β)) x p:=fun ⟨_,hk,_⟩=>by cases hk
   constructor
   ·grind
   ·rintro ⟨j,j1,j2,j3,j4⟩;rcases A7 (Nat.le_of_lt_succ j1) with rfl | j1
    ·refine .inr (.inl ⟨?_,j3,?_⟩)
     ·have:=(h.can.all g (by simp)).1;grind
     grind
    grind
 ·rw [q,Aa];by_cases he:sec (rd cs i)=[]
  ·rw [he];refine ⟨G,h.can,?_,fun _ g hg=> ?_,fun e=>absurd rfl e,fun x p=> ?_⟩
   ·show s.out++[].map _=_;rw [Bx,AD,h.out]
   ·by_cases hl:s.last=[]
    ·have:=h.gap hl g hg;omega
    ·obtain ⟨Gp,g',e1,e2,e3,_⟩:=h.end_ hl;subst e1;rcases AM.1 hg with hg | hg
     ·have:=h.can.before g hg;have:=(h.can.all g' (by simp)).1;omega
     grind
   ·rw [h.pts]
    grind [y6m]
  ·have ok:OkS M (⟨rd cs i,rd cs (i+1),sec (rd cs i)⟩:Qg β):=⟨hlt,eQ _,he⟩
   have hcan:z1k M (G++[⟨rd cs i,rd cs (i+1),sec (rd cs i)⟩]):=by
    rcases List.eq_nil_or_concat G with rfl | ⟨Gp,g,rfl⟩
    ·exact .one _ ok
    ·rw [List.concat_eq_append] at*;refine h.can.snoc ok ?_;by_cases hl:s.last=[]
     ·have:=h.gap hl g (by simp);exact ⟨by grind,fun e=>by grind⟩
     ·obtain ⟨Gp',g',e1,e2,e3,e4,_⟩:=h.end_ hl;obtain ⟨rfl,e⟩:=List.append_inj' e1 rfl;obtain rfl:g=g':=by simpa using e
      refine ⟨by grind,fun _ e=> ?_⟩;rw [An (show 0<(sec (rd cs i)).length from List.length_pos_iff.2 he),e4,(hs _ _).2 (e2.symm.trans e)] at q;simp at q
   refine ⟨_,hcan,?_,fun e=>absurd e he,fun _=>⟨G,_,rfl,rfl,rfl,rfl,by show s.out.length=_;rw [h.out]⟩,fun x p=> ?_⟩
   ·show s.out++_=_;rw [D.flat_append,D.flat_one,h.out]
   ·rw [x0s,z8u,h.pts]
    grind [ptG]
theorem j1m (hD:D.Fair) (hs: ∀a b,D.same a b=true↔a=b) {γ:Type} (M:Sem β γ) {sec:Int→List β} {cs:List Int} (hc:cs.Pairwise (· < ·)) (eQ: ∀x,M.can (sec x)): ∀(k i:Nat) (s:Sw α β) (G:List (Qg β)),i+k<cs.length∨k=0→Inv (D:=D) M sec cs i s G→
  ∃G',Inv (D:=D) M sec cs (i+k) (D.goS sec cs k i s) G'
 | 0,i,s,G,_,h=>⟨G,h⟩
 | k+1,i,s,G,hk,h=>by obtain ⟨G1,h1⟩:=u4u hD hs M hc eQ (show i+1<cs.length by omega) h;obtain ⟨G2,h2⟩:=j1m hD hs M hc eQ k (i+1) _ G1 (by omega) h1;exact ⟨G2,by rw [show i+(k+1)=i+1+k by omega];exact h2⟩
theorem j6w (hD:D.Fair) (hs: ∀a b,D.same a b=true↔a=b) {γ:Type} (M:Sem β γ) {sec:Int→List β} {cs:List Int} (hc:cs.Pairwise (· < ·)) (eQ: ∀x,M.can (sec x)):
  (D.sem hD M).can (D.goS sec cs (cs.length - 1) 0 ⟨[],[],0,0⟩).out ∧ ∀x q,ptL (D.sem hD M).inB (D.goS sec cs (cs.length - 1) 0 ⟨[],[],0,0⟩).out (x,q)↔ ∃j,j+1<cs.length∧rd cs j≤x∧x<rd cs (j+1)∧ptL M.inB (sec (rd cs j)) q:=by
 obtain ⟨G,h⟩:=j1m hD hs M hc eQ (cs.length - 1) 0 ⟨[],[],0,0⟩ [] (by omega) ⟨.nil,rfl,fun _ g hg=>by (cases hg),fun e=>absurd rfl e,fun x q=>⟨fun ⟨_,hg,_⟩=>(by cases hg),fun ⟨j,hj,_⟩=>absurd hj (AG _)⟩⟩;refine ⟨⟨G,h.can,h.out⟩,fun x q=> ?_⟩;rw [h.out];rw [show ptL (D.sem hD M).inB (D.flat G) (x,q)↔ptG M G x q from flat_pt hD M G x q,h.pts]
 grind
end Dim
open Go.Proofs Go.Sort Go.Shelf Go.RowKit Go.Lib
def z5s :Sem R2 Int where
 can:=Can
 inB s y:=s.a≤y∧y<s.b
 uniq:=w7a
 some s hs hn:=by
  cases s with
  | nil=>grind
  | cons r l=>exact ⟨r.a,r,by simp,A0 _,hs.pos r (by simp)⟩
 nil:=.nil
def Wr :Sem R4 (Int×Int):=Dim.sem z2g z5s
def x5h :Sem R6 (Int×Int×Int):=Dim.sem z7w Wr
namespace Dim
variable {α β:Type} {D:Dim α β}
theorem w6l (l m:List α) (hl: ∀r∈m,r∈l) {j:Nat} (hj:j+1<(D.cuts l).length) {x:Int} (h1:rd (D.cuts l) j≤x) (h2:x<rd (D.cuts l) (j+1)):D.inn m (rd (D.cuts l) j)=D.inn m x:=by
 have hc:(D.cuts l).Pairwise (· < ·):=by show (Jn (D.ends l)).Pairwise (· < ·);rw [Kh];exact (Wg _).1
 have hmem: ∀r∈m,D.lo r∈D.cuts l∧D.hi r∈D.cuts l:=fun r hr=>by show D.lo r∈Jn (D.ends l)∧D.hi r∈Jn (D.ends l);rw [Kh,(Wg _).2,(Wg _).2];exact ⟨AK.2 ⟨r,hl r hr,by simp⟩,AK.2 ⟨r,hl r hr,by simp⟩⟩
 have side: ∀c,c∈D.cuts l→(c≤rd (D.cuts l) j↔c≤x):=fun c hcm=>by
  obtain ⟨i,hi,rfl⟩:=AN hcm;rw [←Yo hi];rcases A4 j i with h | h
  ·have:rd (D.cuts l) (j+1)≤rd (D.cuts l) i:=by
    rcases A7 (show j+1≤i from h) with e | e
    ·grind
    ·exact Int.le_of_lt (x3p hc e hi)
   grind
  ·have:rd (D.cuts l) i≤rd (D.cuts l) j:=by
    rcases A7 h with e | e
    ·grind
    ·exact Int.le_of_lt (x3p hc e (by omega))
   grind
 unfold inn
 congr 1
 refine List.filter_congr fun r hr=> ?_
 grind
theorem v7j (l m:List α) (hl: ∀r∈m,r∈l) {x:Int} (h: ∀j,j+1<(D.cuts l).length → ¬(rd (D.cuts l) j≤x∧x<rd (D.cuts l) (j+1))):D.inn m x=[]:=by
 unfold inn;rw [List.map_eq_nil_iff,List.filter_eq_nil_iff];intro r hr hb;simp only [Ae,As] at hb;have hmem:D.lo r∈D.cuts l∧D.hi r∈D.cuts l:=by show D.lo r∈Jn (D.ends l)∧D.hi r∈Jn (D.ends l);rw [Kh,(Wg _).2,(Wg _).2];exact ⟨AK.2 ⟨r,hl r hr,by simp⟩,AK.2 ⟨r,hl r hr,by simp⟩⟩
 have hc:(D.cuts l).Pairwise (· < ·):=by show (Jn (D.ends l)).Pairwise (· < ·);rw [Kh];exact (Wg _).1
 obtain ⟨i,hi,e1⟩:=AN hmem.1;obtain ⟨k,hk,e2⟩:=AN hmem.2;rw [←Yo hi] at e1;rw [←Yo hk] at e2;have h0:rd (D.cuts l) 0≤rd (D.cuts l) i:=by
  rcases A7 (AC i) with e | e
  ·grind
  ·exact Int.le_of_lt (x3p hc e hi)
 obtain ⟨j,j1,j2,j3⟩:=w3m k hk x (by omega) (by omega)
 grind
theorem goJ_can (hD:D.Fair) (hs: ∀a b,D.same a b=true↔a=b) {γ:Type} (M:Sem β γ) (a b:List α) (J:List β→List β→List β) (hJ: ∀x,M.can (J (D.inn a x) (D.inn b x))) (h0:J [] []=[]):
  (D.sem hD M).can (D.goS (fun x=>J (D.inn a x) (D.inn b x)) (D.cuts (a++b)) ((D.cuts (a++b)).length - 1) 0 ⟨[],[],0,0⟩).out ∧
  ∀x q,ptL (D.sem hD M).inB (D.goS (fun x=>J (D.inn a x) (D.inn b x)) (D.cuts (a++b)) ((D.cuts (a++b)).length - 1) 0 ⟨[],[],0,0⟩).out (x,q)↔ptL M.inB (J (D.inn a x) (D.inn b x)) q:=by
 have hc:(D.cuts (a++b)).Pairwise (· < ·):=by show (Jn (D.ends (a++b))).Pairwise (· < ·);rw [Kh];exact (Wg _).1
 obtain ⟨h1,h2⟩:=j6w hD hs M (cs:=D.cuts (a++b)) hc hJ;refine ⟨h1,fun x q=> ?_⟩;rw [h2];constructor
 ·grind [w6l]
 ·intro hp;by_cases hx: ∃j,j+1<(D.cuts (a++b)).length ∧rd (D.cuts (a++b)) j≤x∧x<rd (D.cuts (a++b)) (j+1)
  ·grind [w6l]
  ·have hx': ∀j,j+1<(D.cuts (a++b)).length → ¬(rd (D.cuts (a++b)) j≤x∧x<rd (D.cuts (a++b)) (j+1)):=fun j j1 j2=>hx ⟨j,j1,j2⟩;rw [v7j (a++b) a (fun r hr=>AM.2 (.inl hr)) hx',v7j (a++b) b (fun r hr=>AM.2 (.inr hr)) hx',h0] at hp;exact absurd hp (y6m _ _)
theorem pt_inn {γ:Type} (inB:β→γ→Prop) (l:List α) (x:Int) (q:γ):ptL inB (D.inn l x) q↔ptL (D.inA inB) l (x,q):=by
 constructor
 ·rintro ⟨b,hb,h⟩;obtain ⟨r,hr,rfl⟩:=AP.1 hb;obtain ⟨h1,h2⟩:=AV.1 hr;simp only [Ae,As] at h2;exact ⟨r,h1,h2.1,h2.2,h⟩
 ·rintro ⟨r,hr,h1,h2,h3⟩;refine ⟨D.pr r,AP.2 ⟨r,AV.2 ⟨hr,?_⟩,rfl⟩,h3⟩
  grind
theorem out_goJ (l:List α):D.out l=(D.goS (fun x=>D.mak (D.inn l x)) (D.cuts (l++[])) ((D.cuts (l++[])).length - 1) 0 ⟨[],[],0,0⟩).out :=by rw [AD];unfold out;rw [j1p];rfl
end Dim
theorem z8c (a b:List R4):D6.same a b=true↔a=b:=BB
theorem z8d (a b:List R2):D4.same a b=true↔a=b:=BB
theorem Jt {l:List R4} (h: ∀r∈l,Uf r=true) (x:Int):(D4.inn l x).all z1h=true:=At.2 fun s hs=>by
 grind [z7k,Uf,z1h]
theorem v3f {l:List R2} (hv:l.all z1h=true) (hl:l.length≤400):z5s.can (Xn l)∧ ∀y,ptL z5s.inB (Xn l) y↔ptL z5s.inB l y:=by
 obtain ⟨c1,c2⟩:=y0f l hv;have e:Xn l=swV l:=by grind [Xn]
 rw [e];exact ⟨c1,c2⟩
theorem y1a {β γ:Type} (M:Sem β γ) {l:List β} (h:M.can l) (hp: ∀q,¬ptL M.inB l q):l=[]:=Bj fun hn=>by obtain ⟨q,hq⟩:=M.some l h hn;exact hp q hq
theorem j2y :Xn []=[]:=by
 grind [v3f,y1a,y6m]
theorem Dim.out_nil {α β:Type} (D:Dim α β):D.out []=[]:=by
 have h:(D.cuts []).length ≤2*0:=D.cuts_length [];have e:(D.cuts []).length - 1=0:=by omega
 unfold Dim.out;rw [e];rfl
theorem j5a :Ze []=[]:=by
 grind [Ze,Dim.out_nil]
theorem z3f {l:List R4} (hv: ∀r∈l,Uf r=true) (hl:l.length≤400):Wr.can (D4.out l)∧ ∀p,ptL Wr.inB (D4.out l) p↔ptL Wr.inB l p:=by rw [Dim.out_goJ];have hs: ∀x,z5s.can (D4.mak (D4.inn l x))∧ ∀y,ptL z5s.inB (D4.mak (D4.inn l x)) y↔ptL z5s.inB (D4.inn l x) y:=fun x=>v3f (Jt hv x) (Av (D4.inn_length l x) hl);obtain ⟨h1,h2⟩:=Dim.goJ_can z2g z8d z5s l [] (fun s _=>D4.mak s) (fun x=>(hs x).1) j2y;refine ⟨h1,fun ⟨x,y⟩=> ?_⟩;rw [show ptL Wr.inB _ (x,y)↔_ from h2 x y,(hs x).2,Dim.pt_inn];rfl
theorem y1o {l:List R6} (hv: ∀r∈l,z4g r=true) (z:Int): ∀r∈D6.inn l z,Uf r=true:=fun r hr=>by
 obtain ⟨s,hs,rfl⟩:=AP.1 hr;have:=Ka (hv s (AV.1 hs).1);show Uf ⟨s.a,s.b,s.d,s.e⟩=true
 grind [Uf]
def Secs (l:List R6):Prop:= ∀z,(D4.out (D6.inn l z)).length ≤400
theorem z1m {l:List R4} (hv: ∀r∈l,Uf r=true) (hl:l.length≤400) (h:(D4.out l).length ≤400):Ze l=D4.out l∧Ww l=0:=by
 grind [Ze,Ww]
theorem j3b {l:List R6} (hv: ∀r∈l,z4g r=true) (hl:l.length≤400) (hs:Secs l):x5h.can (D6.out l)∧ ∀p,ptL x5h.inB (D6.out l) p↔ptL x5h.inB l p:=by
 rw [Dim.out_goJ];have hq: ∀z,Wr.can (D6.mak (D6.inn l z))∧ ∀p,ptL Wr.inB (D6.mak (D6.inn l z)) p↔ptL Wr.inB (D6.inn l z) p:=fun z=>by show Wr.can (Ze (D6.inn l z))∧ ∀p,ptL Wr.inB (Ze (D6.inn l z)) p↔_;rw [(z1m (y1o hv z) (Av (D6.inn_length l z) hl) (hs z)).1];exact z3f (y1o hv z) (Av (D6.inn_length l z) hl)
 obtain ⟨h1,h2⟩:=Dim.goJ_can z7w z8c Wr l [] (fun s _=>D6.mak s) (fun x=>(hq x).1) j5a;refine ⟨h1,fun ⟨z,p⟩=> ?_⟩;rw [show ptL x5h.inB _ (z,p)↔_ from h2 z p,(hq z).2,Dim.pt_inn];rfl
open Go.Proofs Go.Sort Go.Shelf Go.RowKit Go.Lib
def opB (k:Nat) (a b:Bool):Bool:=match k with
 | 0=>a||b
 | 1=>a&&b
 | _=>a&& !b
theorem opB_ff (k:Nat):opB k false false=false:=by
 match k with
 | 0=>rfl
 | 1=>rfl
 | _+2=>rfl
def Wh (i:Int) (l:List R2):List R3:=l.flatMap fun s=>[⟨s.a,i,1⟩,⟨s.b,i,-1⟩]
def z6p (i:Int) (E:List R3) (y:Int):Int:=(E.map fun e=>if e.b=i∧e.a≤y then e.c else 0).sum
theorem Qn (i:Int) (e:R3) (E:List R3) (y:Int):z6p i (e::E) y=(if e.b=i∧e.a≤y then e.c else 0)+z6p i E y:=by simp [z6p]
theorem y6u (i:Int) (E F:List R3) (y:Int):z6p i (E++F) y=z6p i E y+z6p i F y:=by simp [z6p]
theorem x6e (i:Int) {E F:List R3} (h:E.Perm F) (y:Int):z6p i E y=z6p i F y:=by
 induction h with
 | nil=>rfl
 | cons e _ ih=>rw [Qn,Qn,ih]
 | swap a b l=>simp only [Qn];omega
 | trans _ _ i1 i2=>rw [i1,i2]
theorem v6d (i:Int) (E:List R3) (y:Int) (h: ∀e∈E,y<e.a):z6p i E y=0:=by
 induction E with
 | nil=>rfl
 | cons e E ih=>
  grind [Qn]
theorem v6e (i:Int) (l:List R2) (hv: ∀s∈l,s.a<s.b) (y:Int):0≤z6p i (Wh i l) y∧(0<z6p i (Wh i l) y↔pt l y):=by
 induction l with
 | nil=>grind [z6p,Wh,pt]
 | cons s l ih=>
  obtain ⟨i1,i2⟩:=ih fun t ht=>hv t (by simp [ht]);have hs:=hv s (by simp);have e:z6p i (Wh i (s::l)) y=(if s.a≤y∧y<s.b then 1 else 0)+z6p i (Wh i l) y:=by
   grind [Wh,Qn]
  rw [e];by_cases h:s.a≤y∧y<s.b
  ·rw [AL h];exact ⟨by omega,⟨fun _=>⟨s,by simp,h⟩,fun _=>by omega⟩⟩
  ·rw [AF h];refine ⟨by omega,?_⟩;rw [BO,i2];constructor
   ·rintro ⟨t,ht,h2⟩;exact ⟨t,by simp [ht],h2⟩
   ·rintro ⟨t,ht,h2⟩;rcases AI.1 ht with rfl | ht
    ·grind
    ·exact ⟨t,ht,h2⟩
theorem x0v (i j:Int) (hij:i≠j) (l:List R2) (y:Int):z6p i (Wh j l) y=0:=by
 induction l with
 | nil=>rfl
 | cons s l ih=>
  show z6p i (⟨s.a,j,1⟩::⟨s.b,j,-1⟩::Wh j l) y=0
  grind [Qn]
def sw2 (f:Bool→Bool→Bool):List R3→Int→Int→Int→Bool→List R2→List R2
 | [],_,_,_,_,out=>out
 | e::r,o,p,last,inn,out=>
  sw2 f r (bif e.b == 0 then o+e.c else o) (bif e.b == 0 then p else p+e.c) e.a (f (decide ((bif e.b == 0 then o+e.c else o)>0)) (decide ((bif e.b == 0 then p else p+e.c)>0))) (Uk out last inn e.a)
def Two (E:List R3):Prop:= ∀e∈E,e.b=0∨e.b=1
theorem v2s (f:Bool→Bool→Bool): ∀(E:List R3) (o p last:Int) (out:List R2),Asc E→Two E→(∀e∈E,last≤e.a)→Can out→(∀s∈out,s.b≤last)→
  Can (sw2 f E o p last (f (decide (o>0)) (decide (p>0))) out)∧ ∀y,pt (sw2 f E o p last (f (decide (o>0)) (decide (p>0))) out) y↔pt out y∨(last≤y∧f (decide (o+z6p 0 E y>0)) (decide (p+z6p 1 E y>0))=true∧ ∃e∈E,y<e.a)
 | [],o,p,last,out,_,_,_,hc,_=>⟨hc,fun y=>⟨.inl,fun h=>h.elim id fun ⟨_,_,e,he,_⟩=>by cases he⟩⟩
 | e ::r,o,p,last,out,hE,ht,hl,hc,hb=>by
  have he:=hl e (by simp);have hr:=AR.1 hE;obtain ⟨p1,p2,p3⟩:=x1t (f (decide (o>0)) (decide (p>0))) hc hb he;have hz: ∀y,y<e.a→ ∀i,z6p i (e::r) y=0:=fun y hy i=>v6d i _ _ fun g hg=>by
   grind
  have main: ∀(o' p':Int),(∀y,e.a≤y→o'+z6p 0 r y=o+z6p 0 (e::r) y∧p'+z6p 1 r y=p+z6p 1 (e::r) y)→
    Can (sw2 f r o' p' e.a (f (decide (o'>0)) (decide (p'>0))) (Uk out last (f (decide (o>0)) (decide (p>0))) e.a))∧
    ∀y,pt (sw2 f r o' p' e.a (f (decide (o'>0)) (decide (p'>0))) (Uk out last (f (decide (o>0)) (decide (p>0))) e.a)) y↔pt out y∨(last≤y∧f (decide (o+z6p 0 (e::r) y>0)) (decide (p+z6p 1 (e::r) y>0))=true∧ ∃g∈e::r,y<g.a):=fun o' p' hop=>by
   obtain ⟨q1,q2⟩:=v2s f r o' p' e.a (Uk out last (f (decide (o>0)) (decide (p>0))) e.a) hr.2 (fun g hg=>ht g (by simp [hg])) hr.1 p1 p2;refine ⟨q1,fun y=> ?_⟩;rw [q2,p3];constructor
   ·rintro ((h | ⟨h1,h2,h3⟩) | ⟨h1,h2,g,hg,h3⟩)
    ·exact .inl h
    ·simp_all
    ·refine .inr ⟨by omega,?_,g,by simp [hg],h3⟩;simp_all
   ·rintro (h | ⟨h1,h2,g,hg,h3⟩)
    ·grind
    ·by_cases hy:e.a≤y
     ·right;obtain ⟨e1,e2⟩:=hop y hy;refine ⟨hy,by simp_all,g,?_,h3⟩
      grind
     simp_all
  show Can (sw2 f r _ _ _ _ _)∧ ∀y,pt (sw2 f r _ _ _ _ _) y↔_;rcases ht e (by simp) with h0 | h0
  ·have hb0:(e.b == 0)=true:=by rw [h0];rfl
   rw [hb0,Ab,Ab];refine main _ _ fun y hy=>⟨?_,?_⟩
   all_goals grind [Qn]
  ·have hb0:(e.b == 0)=false:=by rw [h0];rfl
   rw [hb0,Aa,Aa];refine main _ _ fun y hy=>⟨?_,?_⟩
   all_goals grind [Qn]
instance ptDec (l:List R2) (y:Int):Decidable (pt l y):=Classical.propDecidable _
theorem j2p (f:Bool→Bool→Bool) (hf:f false false=false) (a b:List R2) (ha: ∀s∈a,s.a<s.b) (hb: ∀s∈b,s.a<s.b) (E:List R3) (hp:E.Perm (Wh 0 a++Wh 1 b)) (hE:Asc E):
  Can (sw2 f E 0 0 0 false [])∧ ∀y,pt (sw2 f E 0 0 0 false []) y↔f (decide (pt a y)) (decide (pt b y))=true:=by
 have hn: ∀y,z6p 0 E y=z6p 0 (Wh 0 a) y∧z6p 1 E y=z6p 1 (Wh 1 b) y:=fun y=>by rw [x6e 0 hp,x6e 1 hp,y6u,y6u,x0v 0 1 (by decide),x0v 1 0 (by decide)];omega
 have hd: ∀y,decide (z6p 0 E y>0)=decide (pt a y)∧decide (z6p 1 E y>0)=decide (pt b y):=fun y=>by simp_all [v6e]
 have ht:Two E:=fun e he=>by
  rcases AM.1 (hp.mem_iff.1 he) with h | h
  ·obtain ⟨s,_,h⟩:=AK.1 h
   grind
  ·obtain ⟨s,_,h⟩:=AK.1 h
   grind
 have cover: ∀y,f (decide (pt a y)) (decide (pt b y))=true→ ∃e∈E,y<e.a∧ ∃g∈E,g.a≤y:=fun y hy=>by
  by_cases h1:pt a y
  ·obtain ⟨s,hs,s1,s2⟩:=h1;exact ⟨⟨s.b,0,-1⟩,hp.mem_iff.2 (AM.2 (.inl (AK.2 ⟨s,hs,by simp⟩))),s2,⟨s.a,0,1⟩,hp.mem_iff.2 (AM.2 (.inl (AK.2 ⟨s,hs,by simp⟩))),s1⟩
  ·by_cases h2:pt b y
   ·obtain ⟨s,hs,s1,s2⟩:=h2;exact ⟨⟨s.b,1,-1⟩,hp.mem_iff.2 (AM.2 (.inr (AK.2 ⟨s,hs,by simp⟩))),s2,⟨s.a,1,1⟩,hp.mem_iff.2 (AM.2 (.inr (AK.2 ⟨s,hs,by simp⟩))),s1⟩
   grind
 cases E with
 | nil=>
  refine ⟨.nil,fun y=>⟨fun ⟨s,hs,_⟩=>(by cases hs),fun hy=> ?_⟩⟩
  grind
 | cons e r=>
  have hr:=AR.1 hE;have hz0:f (decide ((0:Int)>0)) (decide ((0:Int)>0))=false:=hf;have e0:sw2 f (e::r) 0 0 0 false []=sw2 f (e::r) 0 0 e.a (f (decide ((0:Int)>0)) (decide ((0:Int)>0))) []:=by
   grind [sw2,Uk]
  rw [e0];obtain ⟨q1,q2⟩:=v2s f (e::r) 0 0 e.a [] hE ht (fun g hg=>by
   grind) .nil (by simp)
  refine ⟨q1,fun y=> ?_⟩;rw [q2,BO,BO,(hd y).1,(hd y).2];constructor
  ·rintro (⟨s,hs,_⟩ | ⟨_,h2,_⟩);all_goals grind
  grind
def tri :Nat→Nat
 | 0=>0
 | k+1=>tri k+k
theorem v2p : ∀n,tri (n+1)+tri n=n*n
 | 0=>rfl
 | n+1=>by have:=v2p n;show tri (n+1)+(n+1)+(tri n+n)=(n+1)*(n+1);rw [AS,Nat.mul_add];omega
def hat (n:Nat):Nat→Nat
 | 0=>0
 | v+1=>hat n v+min v (2*n - v)
theorem v7l (n:Nat): ∀v,v≤n+1→hat n v=tri v
 | 0,_=>rfl
 | v+1,h=>by show hat n v+min v (2*n - v)=tri v+v;rw [v7l n v (by omega)];omega
theorem y4z (n:Nat): ∀j,j≤n→hat n (n+1+j)+tri (n - j)=n*n
 | 0,_=>by grind [v7l,v2p]
 | j+1,h=>by
  have:=y4z n j (by omega);show hat n (n+1+j)+min (n+1+j) (2*n - (n+1+j))+tri (n - (j+1))=_;have e:tri (n - j)=tri (n - (j+1))+(n - (j+1)):=by rw [show n - j=(n - (j+1))+1 by omega];rfl
  omega
theorem hat_le (n v:Nat):hat n v≤n*n:=by
 by_cases h1:v≤2*n+1
 ·by_cases h2:v≤n+1
  ·have h3:=y4z n 0 (AC _);have mono: ∀k v,hat n v≤hat n (v+k):=fun k v=>by
    induction k with
    | zero=>grind
    | succ k ih=>exact Av ih (Nat.le_add_right _ _)
   have:=mono (n+1 - v) v
   grind
  ·have:=y4z n (v - (n+1)) (by omega)
   grind
 ·have h3:hat n (2*n+1)≤n*n:=by
   have:=y4z n n (Aq _)
   grind
  have: ∀k,hat n (2*n+1+k)=hat n (2*n+1):=fun k=>by
   induction k with
   | zero=>rfl
   | succ k ih=>
    grind [hat]
  have h4:=this (v - (2*n+1))
  grind
theorem w6m (n:Nat) (E:Nat→Nat): ∀k,(∀i,i+1<k→E i<E (i+1))→((List.range k).map fun i=>min (E i) (2*n - E i)).sum ≤(match k with | 0=>0 | k+1=>hat n (E k+1))
 | 0,_=>Aq _
 | k+1,h=>by
  rw [BC,Bh,By];have ih:=w6m n E k fun i hi=>h i (by omega);have mono: ∀k v,hat n v≤hat n (v+k):=fun k v=>by
   induction k with
   | zero=>grind
   | succ k ih=>exact Av ih (Nat.le_add_right _ _)
  simp only [AU,Bx,BD,List.sum_nil,Bl];show _≤hat n (E k)+min (E k) (2*n - E k);cases k with
  | zero=>
   grind
  | succ k=>
   have h1:=h k (by omega);have h2:=mono (E (k+1) - (E k+1)) (E k+1)
   grind
def x8c (p:Int→Bool) (l:List Int):Nat:=(l.filter p).length
theorem z9t (p:Int→Bool) (x:Int) (l:List Int):x8c p (x::l)=(if p x=true then 1 else 0)+x8c p l:=by
 grind [x8c]
theorem j9o (p:Int→Bool) (l:List Int):x8c p l≤l.length:=List.length_filter_le _ _
theorem v9a {p q:Int→Bool} (h: ∀x,p x=true→q x=true) (l:List Int):x8c p l≤x8c q l:=by
 induction l with
 | nil=>exact Aq _
 | cons x l ih=>
  grind [z9t]
theorem j9n {p q:Int→Bool} (h: ∀x,p x=true→q x=true) {l:List Int} {y:Int} (hy:y∈l) (hq:q y=true) (hp:p y=false):x8c p l<x8c q l:=by
 induction l with
 | nil=>cases hy
 | cons x l ih=>
  rw [z9t,z9t];rcases AI.1 hy with rfl | hy
  ·have:=v9a h l
   grind
  grind
namespace Dim
variable {α β:Type} {D:Dim α β}
theorem inn_min (l:List α) (x:Int) (hv: ∀r∈l,D.lo r<D.hi r):(D.inn l x).length ≤min (x8c (fun y=>decide (y≤x)) (D.ends l)) (2*l.length - x8c (fun y=>decide (y≤x)) (D.ends l)):=by
 induction l with
 | nil=>exact AC _
 | cons r l ih=>
  have ih:=ih fun s hs=>hv s (by simp [hs]);have hr:=hv r (by simp);have hc:=j9o (fun y=>decide (y≤x)) (D.ends l);rw [D.ends_length] at hc;have e:x8c (fun y=>decide (y≤x)) (D.ends (r::l))=(if D.lo r≤x then 1 else 0)+((if D.hi r≤x then 1 else 0)+x8c (fun y=>decide (y≤x)) (D.ends l)):=by
   show x8c _ (D.lo r::D.hi r::D.ends l)=_
   grind [z9t]
  grind [inn]
theorem open_sum (l:List α) (hv: ∀r∈l,D.lo r<D.hi r): ∀k,k≤(D.cuts l).length →((List.range k).map fun i=>(D.inn l (rd (D.cuts l) i)).length).sum ≤l.length*l.length:=fun k hk=>by
 have hc:(D.cuts l).Pairwise (· < ·):=by show (Jn (D.ends l)).Pairwise (· < ·);rw [Kh];exact (Wg _).1
 have hm: ∀i,i<(D.cuts l).length →rd (D.cuts l) i∈D.ends l:=fun i hi=>by
  have:rd (D.cuts l) i∈Jn (D.ends l):=by rw [Yo hi];exact A1 hi
  grind [Kh,Wg]
 have h1:((List.range k).map fun i=>(D.inn l (rd (D.cuts l) i)).length).sum ≤((List.range k).map fun i=>min (x8c (fun y=>decide (y≤rd (D.cuts l) i)) (D.ends l)) (2*l.length - x8c (fun y=>decide (y≤rd (D.cuts l) i)) (D.ends l))).sum :=by
  induction k with
  | zero=>grind
  | succ k ih=>
   rw [BC,Bh,Bh,By,By];have:=ih (by omega);have h2:=D.inn_min l (rd (D.cuts l) k) hv
   grind
 refine Av h1 ?_;have h2:=w6m l.length (fun i=>x8c (fun y=>decide (y≤rd (D.cuts l) i)) (D.ends l)) k fun i hi=>by
  have hlt:=x3p hc (show i<i+1 by omega) (show i+1<_ by omega);refine j9n (fun x hx=> ?_) (hm (i+1) (by omega)) (An (A0 _)) (AB (by omega))
  grind
 grind [hat_le]
theorem goS_length (sec:Int→List β) (cs:List Int): ∀(k i:Nat) (s:Sw α β),(D.goS sec cs k i s).out.length ≤s.out.length+((List.range k).map fun j=>(sec (rd cs (i+j))).length).sum
 | 0,i,s=>Aq _
 | k+1,i,s=>by
  have h1:=goS_length sec cs k (i+1) (D.oneS (sec (rd cs i)) (rd cs i) (rd cs (i+1)) s);have h2:(D.oneS (sec (rd cs i)) (rd cs i) (rd cs (i+1)) s).out.length ≤s.out.length+(sec (rd cs i)).length :=by
   unfold oneS;cases (decide (0<(sec (rd cs i)).length)&&((s.fin == rd cs i)&&D.same s.last (sec (rd cs i)))) with
   | true=>rw [Ab,D.grow_length];omega
   | false=>rw [Aa];simp
  rw [List.range_succ_eq_map,AU,List.map_map,BD,show rd cs (i+0)=rd cs i from rfl];have e:((fun j=>(sec (rd cs (i+j))).length)∘Nat.succ)=fun j=>(sec (rd cs (i+1+j))).length :=by
   funext j;simp only [Function.comp];rw [show i+j.succ=i+1+j by omega]
  rw [e];show (D.goS sec cs k (i+1) _).out.length ≤_;omega
theorem goJ_length (a b:List α) (J:List β→List β→List β) (hJ: ∀x,(J (D.inn a x) (D.inn b x)).length ≤(D.inn a x).length +(D.inn b x).length) (hv: ∀r∈a++b,D.lo r<D.hi r):
  (D.goS (fun x=>J (D.inn a x) (D.inn b x)) (D.cuts (a++b)) ((D.cuts (a++b)).length - 1) 0 ⟨[],[],0,0⟩).out.length ≤(a.length+b.length)*(a.length+b.length):=by
 have h1:=D.goS_length (fun x=>J (D.inn a x) (D.inn b x)) (D.cuts (a++b)) ((D.cuts (a++b)).length - 1) 0 ⟨[],[],0,0⟩;have h2:=D.open_sum (a++b) hv ((D.cuts (a++b)).length - 1) (Nat.sub_le _ _);rw [AH] at h2;refine Av h1 (Av ?_ h2);simp only [List.length_nil,Af];generalize (D.cuts (a++b)).length - 1=k
 induction k with
 | zero=>grind
 | succ k ih=>rw [BC,Bh,Bh,By,By];have:=hJ (rd (D.cuts (a++b)) k);simp only [AU,Bx,BD,List.sum_nil];rw [D.inn_append,AH];omega
end Dim
open Go.Proofs Go.Sort Go.Shelf Go.RowKit Go.Lib
def spJ (k:Nat) (a b:List R2):List R2:=sw2 (opB k) (z2b (Wh 0 a++Wh 1 b)) 0 0 0 false []
theorem x7a (i:Int) (l:List R2) (hv:l.all z1h=true):y3c (Wh i l)=true:=At.2 fun e he=>by obtain ⟨s,hs,h1⟩:=AK.1 he;have hv:=At.1 hv s hs;simp only [z1h,Ae,As] at hv;simp only [AI,Bm,BU] at h1;rcases h1 with rfl | rfl <;> exact An (by grind)
theorem w4m {l:List R2} (hv:l.all z1h=true): ∀s∈l,s.a<s.b:=fun s hs=>by
 grind [z1h]
theorem y6a (k:Nat) {a b:List R2} (ha:a.all z1h=true) (hb:b.all z1h=true):z5s.can (spJ k a b)∧ ∀y,ptL z5s.inB (spJ k a b) y↔opB k (decide (pt a y)) (decide (pt b y))=true:=by
 have hbnd:y3c (Wh 0 a++Wh 1 b)=true:=by
  grind [x7a,y3c]
 obtain ⟨hp,_⟩:=Qe _ hbnd;exact j2p (opB k) (opB_ff k) a b (w4m ha) (w4m hb) _ hp (w4q _ hbnd)
theorem w5o : ∀(l S:List Int),l.Pairwise (· < ·)→(∀x∈l,x∈S)→l.length≤S.length
 | [],S,_,_=>AC _
 | x::l,S,h,hs=>by
  obtain ⟨h1,h2⟩:=AR.1 h;have hx:=hs x (by simp);have:=w5o l (S.erase x) h2 fun y hy=>(List.mem_erase_of_ne (by grind)).2 (hs y (by simp [hy]))
  grind
def z9w (L:List R2):List Int:=L.flatMap fun s=>[s.a,s.b]
theorem z1x (L:List R2):(z9w L).length =2*L.length:=by
 induction L with
 | nil=>rfl
 | cons r l ih=>grind [z9w]
theorem z9v {L:List R2} (h:Can L):(z9w L).Pairwise (· < ·):=by
 induction L with
 | nil=>exact .nil
 | cons s L ih=>
  have hp:=h.pos s (by simp);have hn: ∀y∈z9w L,s.b<y:=fun y hy=>by
   obtain ⟨t,ht,h1⟩:=AK.1 hy;have:=h.head t ht;have:=h.pos t (by simp [ht])
   grind
  show (s.a::s.b::z9w L).Pairwise (· < ·);refine AR.2 ⟨fun y hy=> ?_,AR.2 ⟨hn,ih h.tail⟩⟩
  grind
theorem v1k {L:List R2} (h:Can L) (S:List Int) (hS: ∀y,y ∉ S→(pt L (y - 1)↔pt L y)):2*L.length≤S.length:=by
 rw [←z1x];refine w5o _ S (z9v h) fun y hy=>Bj fun hn=> ?_;obtain ⟨s,hs,h1⟩:=AK.1 hy;have hp:=h.pos s hs;have sepL: ∀t∈L,t=s∨t.b<s.a∨s.b<t.a:=fun t ht=>by
  obtain ⟨i,hi,ei⟩:=AN hs;obtain ⟨j,hj,ej⟩:=AN ht;have pw:=AZ.1 h.sep
  grind
 simp only [AI,Bm,BU] at h1;rcases h1 with rfl | rfl
 ·obtain ⟨t,ht,t1,t2⟩:=(hS _ hn).2 ⟨s,hs,A0 _,hp⟩
  grind
 ·obtain ⟨t,ht,t1,t2⟩:=(hS _ hn).1 ⟨s,hs,by omega,by omega⟩
  grind
theorem x3e {l:List R2} {y:Int} (h:y ∉ z9w l):pt l (y - 1)↔pt l y:=by
 constructor
 ·rintro ⟨s,hs,h1,h2⟩;refine ⟨s,hs,by omega,?_⟩;have:y≠s.b:=fun e=>h (AK.2 ⟨s,hs,by simp [e]⟩);omega
 ·rintro ⟨s,hs,h1,h2⟩;refine ⟨s,hs,?_,by omega⟩;have:y≠s.a:=fun e=>h (AK.2 ⟨s,hs,by simp [e]⟩);omega
theorem z5r (k:Nat) {a b:List R2} (ha:a.all z1h=true) (hb:b.all z1h=true):(spJ k a b).length ≤a.length+b.length:=by
 obtain ⟨h1,h2⟩:=y6a k ha hb;have:=v1k h1 (z9w a++z9w b) fun y hy=>by
  rw [AM,not_or] at hy;have e1:decide (pt a (y - 1))=decide (pt a y):=decide_eq_decide.2 (x3e hy.1);have e2:decide (pt b (y - 1))=decide (pt b y):=decide_eq_decide.2 (x3e hy.2);have q1:pt (spJ k a b) (y - 1)↔_:=h2 (y - 1);have q2:pt (spJ k a b) y↔_:=h2 y
  grind
 grind [z1x]
def rgJ (k:Nat) (a b:List R4):List R4:=(D4.goS (fun x=>spJ k (D4.inn a x) (D4.inn b x)) (D4.cuts (a++b)) ((D4.cuts (a++b)).length - 1) 0 ⟨[],[],0,0⟩).out
theorem j3a (k:Nat):spJ k [] []=[]:=by have:=z5r k (a:=[]) (b:=[]) rfl rfl;simp_all
instance ptDec4 (l:List R4) (p:Int×Int):Decidable (ptL Wr.inB l p):=Classical.propDecidable _
theorem x3f (l:List R4) (x y:Int):pt (D4.inn l x) y↔ptL Wr.inB l (x,y):=Dim.pt_inn (D:=D4) z5s.inB l x y
theorem z0w (k:Nat) {a b:List R4} (ha: ∀r∈a,Uf r=true) (hb: ∀r∈b,Uf r=true):
  Wr.can (rgJ k a b)∧(∀p,ptL Wr.inB (rgJ k a b) p↔opB k (decide (ptL Wr.inB a p)) (decide (ptL Wr.inB b p))=true)∧(rgJ k a b).length ≤(a.length+b.length)*(a.length+b.length):=by
 have hs: ∀x,z5s.can (spJ k (D4.inn a x) (D4.inn b x))∧ ∀y,ptL z5s.inB (spJ k (D4.inn a x) (D4.inn b x)) y↔opB k (decide (pt (D4.inn a x) y)) (decide (pt (D4.inn b x) y))=true:=fun x=>y6a k (Jt ha x) (Jt hb x);obtain ⟨h1,h2⟩:=Dim.goJ_can z2g z8d z5s a b (spJ k) (fun x=>(hs x).1) (j3a k);refine ⟨h1,fun ⟨x,y⟩=> ?_,?_⟩
 ·rw [show ptL Wr.inB (rgJ k a b) (x,y)↔_ from h2 x y,(hs x).2]
  grind [x3f]
 ·refine Dim.goJ_length a b (spJ k) (fun x=>z5r k (Jt ha x) (Jt hb x)) fun r hr=> ?_;have hv:Uf r=true:=by
   grind
  simp only [Uf,Ae,As] at hv;exact hv.1
end Go.Am
end
