/- A part of a proof: several texts in one. -/
import Derived.Test.YtpddoeiakpbkbaaGreatLj2
import Derived.Shelf.Sort.Plain
import Derived.Ground.Names2Prog
import Derived.Shelf.Slices.CompactI
import Derived.Shelf.Slices.SearchI
import Derived.Shelf.Slices.Cells
import Derived.Shelf.Slices.In.SortNone
import Derived.Shelf.SlSortCmp.WholeK
import Derived.Ground.SlsfProg
import Derived.Test.YtpddoeiakpbkbaaGreatProg
import Derived.Shelf.SlSortCmp.NoneTotal
set_option maxRecDepth 1000000
set_option maxHeartbeats 8000000
set_option linter.unusedVariables false
set_option linter.unusedSimpArgs false
noncomputable section
namespace Go.Proofs
open Go.Proofs.Tryz
open Go.Shelf
def Tryz.lays189_ren :Go.Shelf.Ren:=⟨fun | 189=>111 | 125=>151 | 257=>150 | 128=>174 | 129=>175 | 294=>165 | 295=>166 | 296=>167 | 297=>168 | 298=>169 | 299=>170 | 216=>171 | 300=>172 | 301=>173 | 328=>185 | 329=>186 | 330=>187 | 331=>188 | 332=>189 | 215=>190 | 343=>196 | n=>n,fun | 28=>125 | 3=>3 | 46=>191 | 0=>0 | 51=>216 | 53=>218 | 4=>4 | 183=>208 | 182=>207 | 131=>213 | 5=>5 | 9=>9 | 218=>228 | 222=>232 | 228=>241 | 229=>119 | n=>n,fun | n=>n⟩
theorem Tryz.lays189 :Go.Proofs.Lays.n189 prog Tryz.lays189_ren:={
 mixed:=by kernel_rfl
 f125:=Tryz.func151.trans (congrArg some (by kernel_rfl))
 f128:=Tryz.func174.trans (congrArg some (by kernel_rfl))
 f129:=Tryz.func175.trans (congrArg some (by kernel_rfl))
 f189:=Tryz.func111.trans (congrArg some (by kernel_rfl))
 f215:=Tryz.func190.trans (congrArg some (by kernel_rfl))
 f216:=Tryz.func171.trans (congrArg some (by kernel_rfl))
 f257:=Tryz.func150.trans (congrArg some (by kernel_rfl))
 f294:=Tryz.func165.trans (congrArg some (by kernel_rfl))
 f295:=Tryz.func166.trans (congrArg some (by kernel_rfl))
 f296:=Tryz.func167.trans (congrArg some (by kernel_rfl))
 f297:=Tryz.func168.trans (congrArg some (by kernel_rfl))
 f298:=Tryz.func169.trans (congrArg some (by kernel_rfl))
 f299:=Tryz.func170.trans (congrArg some (by kernel_rfl))
 f300:=Tryz.func172.trans (congrArg some (by kernel_rfl))
 f301:=Tryz.func173.trans (congrArg some (by kernel_rfl))
 f328:=Tryz.func185.trans (congrArg some (by kernel_rfl))
 f329:=Tryz.func186.trans (congrArg some (by kernel_rfl))
 f330:=Tryz.func187.trans (congrArg some (by kernel_rfl))
 f331:=Tryz.func188.trans (congrArg some (by kernel_rfl))
 f332:=Tryz.func189.trans (congrArg some (by kernel_rfl))
 f343:=Tryz.func196.trans (congrArg some (by kernel_rfl))
 t0:=Tryz.underlying0
 a0:=Tryz.isAgg0
 z0:=Tryz.sizeOf0
 v0:=Tryz.zeroValue0
 t3:=Tryz.underlying3
 a3:=Tryz.isAgg3
 z3:=Tryz.sizeOf3
 v3:=Tryz.zeroValue3
 t4:=Tryz.underlying4
 a4:=Tryz.isAgg4
 z4:=Tryz.sizeOf4
 v4:=Tryz.zeroValue4
 t5:=Tryz.underlying5
 a5:=Tryz.isAgg5
 z5:=Tryz.sizeOf5
 v5:=Tryz.zeroValue5
 t9:=Tryz.underlying9
 a9:=Tryz.isAgg9
 z9:=Tryz.sizeOf9
 v9:=Tryz.zeroValue9
 t28:=Tryz.underlying125
 a28:=Tryz.isAgg125
 z28:=Tryz.sizeOf125
 v28:=Tryz.zeroValue125
 t46:=Tryz.underlying191
 a46:=Tryz.isAgg191
 z46:=Tryz.sizeOf191
 v46:=Tryz.zeroValue191
 t51:=Tryz.underlying216
 a51:=Tryz.isAgg216
 z51:=Tryz.sizeOf216
 v51:=Tryz.zeroValue216
 t53:=Tryz.underlying218
 a53:=Tryz.isAgg218
 z53:=Tryz.sizeOf218
 v53:=Tryz.zeroValue218
 t131:=Tryz.underlying213
 a131:=Tryz.isAgg213
 z131:=Tryz.sizeOf213
 v131:=Tryz.zeroValue213
 t182:=Tryz.underlying207
 a182:=Tryz.isAgg207
 z182:=Tryz.sizeOf207
 v182:=Tryz.zeroValue207
 t183:=Tryz.underlying208
 a183:=Tryz.isAgg208
 z183:=Tryz.sizeOf208
 v183:=Tryz.zeroValue208
 t218:=Tryz.underlying228
 a218:=Tryz.isAgg228
 z218:=Tryz.sizeOf228
 v218:=Tryz.zeroValue228
 t222:=Tryz.underlying232
 a222:=Tryz.isAgg232
 z222:=Tryz.sizeOf232
 v222:=Tryz.zeroValue232
 t228:=Tryz.underlying241
 a228:=Tryz.isAgg241
 z228:=Tryz.sizeOf241
 v228:=Tryz.zeroValue241
 t229:=Tryz.underlying119
 a229:=Tryz.isAgg119
 z229:=Tryz.sizeOf119
 v229:=Tryz.zeroValue119}
open Go.Sort Go.RowKit in
theorem Tryz.slices_Sort_int (blk off cap:Nat) (zs:List Int) (w:World) (hH:Holds (Value.int .i64) w blk off zs.toArray) (fF:blk<w.heap.size) (hsz:zs.length<4611686018427387904):
  Calls prog 111 #[.slice (some ⟨blk,off,none⟩) zs.length cap] w fun e w'=>
   e=.returned (.tuple #[])∧ ∃n os,w'=grow (putRow (Value.int .i64) (Sort.ahead w n) blk off (zs.mergeSort fun x y=>decide (x≤y)).toArray) os:=Any.slices_Sort_int Tryz.lays189 blk off cap zs w hH fF hsz
def Tryz.laysNm220_ren :Go.Shelf.Ren:=⟨fun | 20=>113 | n=>n,fun | 22=>125 | 3=>3 | 4=>4 | 0=>0 | n=>n,fun | n=>n⟩
theorem Tryz.laysNm220 :Go.Proofs.Lays2.n20 prog Tryz.laysNm220_ren:={
 mixed:=by kernel_rfl
 f20:=Tryz.func113.trans (congrArg some (by kernel_rfl))
 t0:=Tryz.underlying0
 a0:=Tryz.isAgg0
 z0:=Tryz.sizeOf0
 v0:=Tryz.zeroValue0
 t3:=Tryz.underlying3
 a3:=Tryz.isAgg3
 z3:=Tryz.sizeOf3
 v3:=Tryz.zeroValue3
 t4:=Tryz.underlying4
 a4:=Tryz.isAgg4
 z4:=Tryz.sizeOf4
 v4:=Tryz.zeroValue4
 t22:=Tryz.underlying125
 a22:=Tryz.isAgg125
 z22:=Tryz.sizeOf125
 v22:=Tryz.zeroValue125
 i3:=by kernel_rfl}
open Go.RowKit Go.Lib Go.Sort in
theorem Tryz.slices_Compact_int (blk off cap:Nat) (zs:List Int) (w:World) (hH:Holds (Value.int .i64) w blk off zs.toArray) (hsz:zs.length≤9223372036854775807) (eA:zs.length≤cap):
  Calls prog 113 #[.slice (some ⟨blk,off,none⟩) zs.length cap] w fun e w'=>e=.returned (.slice (some ⟨blk,off,none⟩) (Lib.compact zs).length cap)∧ ∃q,w'=putRow (Value.int .i64) (Sort.ahead w q) blk off (Lib.compact zs++List.replicate (zs.length - (Lib.compact zs).length) 0).toArray :=Any.slices_Compact_int Tryz.laysNm220 blk off cap zs w hH hsz eA
open Go.RowKit Go.Lib Go.Sort in
theorem Tryz.slices_Compact_int_empty (a:Option Addr) (cap:Nat) (w:World):
  Calls prog 113 #[.slice a 0 cap] w fun e w'=>e=.returned (.slice a 0 cap)∧w'=w:=Any.slices_Compact_int_empty Tryz.laysNm220 a cap w
open Go.RowKit Go.Sort in
theorem Tryz.slices_Sort_int_none (p:Option Addr) (cap:Nat) (w:World):
  Calls prog 111 #[.slice p 0 cap] w fun e w'=>e=.returned (.tuple #[])∧w'=w:=Any.slices_Sort_int_none Tryz.lays189 p cap w
def Tryz.sortEnd_ren :Go.Shelf.Ren:=⟨fun | 6=>193 | 15=>151 | 14=>197 | 28=>174 | 29=>175 | 20=>199 | 21=>200 | 22=>201 | 23=>202 | 24=>203 | 25=>204 | 26=>205 | 27=>206 | 46=>207 | 47=>186 | 48=>187 | 49=>208 | 50=>209 | 57=>210 | n=>n,fun | 22=>236 | 24=>227 | 25=>238 | 3=>3 | 39=>191 | 0=>0 | 53=>216 | 55=>218 | 4=>4 | 46=>208 | 45=>207 | 50=>213 | 5=>5 | 9=>9 | 66=>228 | 70=>232 | 76=>241 | 77=>119 | n=>n,fun | n=>n⟩
theorem Tryz.sortEnd :Go.Proofs.SlLaysF0.n6 prog Tryz.sortEnd_ren:={
 mixed:=by kernel_rfl
 f6:=⟨Tryz.f193.name,by decide,Tryz.func193.trans (congrArg some (by kernel_rfl))⟩
 f14:=⟨Tryz.f197.name,by decide,Tryz.func197.trans (congrArg some (by kernel_rfl))⟩
 f15:=Tryz.func151.trans (congrArg some (by kernel_rfl))
 f20:=⟨Tryz.f199.name,by decide,Tryz.func199.trans (congrArg some (by kernel_rfl))⟩
 f21:=⟨Tryz.f200.name,by decide,Tryz.func200.trans (congrArg some (by kernel_rfl))⟩
 f22:=⟨Tryz.f201.name,by decide,Tryz.func201.trans (congrArg some (by kernel_rfl))⟩
 f23:=⟨Tryz.f202.name,by decide,Tryz.func202.trans (congrArg some (by kernel_rfl))⟩
 f24:=⟨Tryz.f203.name,by decide,Tryz.func203.trans (congrArg some (by kernel_rfl))⟩
 f25:=⟨Tryz.f204.name,by decide,Tryz.func204.trans (congrArg some (by kernel_rfl))⟩
 f26:=⟨Tryz.f205.name,by decide,Tryz.func205.trans (congrArg some (by kernel_rfl))⟩
 f27:=⟨Tryz.f206.name,by decide,Tryz.func206.trans (congrArg some (by kernel_rfl))⟩
 f28:=Tryz.func174.trans (congrArg some (by kernel_rfl))
 f29:=Tryz.func175.trans (congrArg some (by kernel_rfl))
 f46:=⟨Tryz.f207.name,by decide,Tryz.func207.trans (congrArg some (by kernel_rfl))⟩
 f47:=Tryz.func186.trans (congrArg some (by kernel_rfl))
 f48:=Tryz.func187.trans (congrArg some (by kernel_rfl))
 f49:=⟨Tryz.f208.name,by decide,Tryz.func208.trans (congrArg some (by kernel_rfl))⟩
 f50:=⟨Tryz.f209.name,by decide,Tryz.func209.trans (congrArg some (by kernel_rfl))⟩
 f57:=⟨Tryz.f210.name,by decide,Tryz.func210.trans (congrArg some (by kernel_rfl))⟩
 t0:=Tryz.underlying0
 a0:=Tryz.isAgg0
 z0:=Tryz.sizeOf0
 v0:=Tryz.zeroValue0
 t3:=Tryz.underlying3
 a3:=Tryz.isAgg3
 z3:=Tryz.sizeOf3
 v3:=Tryz.zeroValue3
 t4:=Tryz.underlying4
 a4:=Tryz.isAgg4
 z4:=Tryz.sizeOf4
 v4:=Tryz.zeroValue4
 t5:=Tryz.underlying5
 a5:=Tryz.isAgg5
 z5:=Tryz.sizeOf5
 v5:=Tryz.zeroValue5
 t9:=Tryz.underlying9
 a9:=Tryz.isAgg9
 z9:=Tryz.sizeOf9
 v9:=Tryz.zeroValue9
 t22:=Tryz.underlying236
 a22:=Tryz.isAgg236
 z22:=Tryz.sizeOf236
 v22:=Tryz.zeroValue236
 t25:=Tryz.underlying238
 a25:=Tryz.isAgg238
 z25:=Tryz.sizeOf238
 v25:=Tryz.zeroValue238
 t39:=Tryz.underlying191
 a39:=Tryz.isAgg191
 z39:=Tryz.sizeOf191
 v39:=Tryz.zeroValue191
 t45:=Tryz.underlying207
 a45:=Tryz.isAgg207
 z45:=Tryz.sizeOf207
 v45:=Tryz.zeroValue207
 t46:=Tryz.underlying208
 a46:=Tryz.isAgg208
 z46:=Tryz.sizeOf208
 v46:=Tryz.zeroValue208
 t50:=Tryz.underlying213
 a50:=Tryz.isAgg213
 z50:=Tryz.sizeOf213
 v50:=Tryz.zeroValue213
 t53:=Tryz.underlying216
 a53:=Tryz.isAgg216
 z53:=Tryz.sizeOf216
 v53:=Tryz.zeroValue216
 t55:=Tryz.underlying218
 a55:=Tryz.isAgg218
 z55:=Tryz.sizeOf218
 v55:=Tryz.zeroValue218
 t66:=Tryz.underlying228
 a66:=Tryz.isAgg228
 z66:=Tryz.sizeOf228
 v66:=Tryz.zeroValue228
 t70:=Tryz.underlying232
 a70:=Tryz.isAgg232
 z70:=Tryz.sizeOf232
 v70:=Tryz.zeroValue232
 t76:=Tryz.underlying241
 a76:=Tryz.isAgg241
 z76:=Tryz.sizeOf241
 v76:=Tryz.zeroValue241
 t77:=Tryz.underlying119
 a77:=Tryz.isAgg119
 z77:=Tryz.sizeOf119
 v77:=Tryz.zeroValue119}
open Go.RowKit Go.Lib Go.Sort
theorem Tryz.cmpEnd (a b c a' b' c':Int) (h: -1000000000≤a∧a≤1000000000) (h': -1000000000≤a'∧a'≤1000000000) (W:World):
  Calls prog 194 #[.agg #[.int .i64 a,.int .i64 b,.int .i64 c],.agg #[.int .i64 a',.int .i64 b',.int .i64 c']] W fun e w'=>e=.returned (.int .i64 (a - a'))∧ ∃q os',w'=grow (W.drewN q) os':=by
 go_enter Tryz.func194,Tryz.ntmps194
 go_wp2
 go_ret
 exact ⟨rfl,0,_,by rw [alloc_eq_grow,alloc_eq_grow,grow_grow];rfl⟩
end Go.Proofs
namespace Go.Am
open IntKind (wrap)
open Go.Proofs.Tryz
open Go.Proofs
inductive rjsS where
 | h0 (v9:List R6) (v10:List R4) (v11:Int) (v12:Int)
 | h1 (v9:List R6) (v10:List R4) (v11:Int) (v12:Int) (v13:List R4) (v15:Int)
 | h2 (v9:List R6) (v10:List R4) (v11:Int) (v12:Int) (v14:Int)
abbrev w3w (l1:List R6) (l2:List R6) (v12:Int):=(rd (Vy (cvT l1) (cvT l2)) (tn v12))
abbrev y9n (v9:List R6) (v14:Int) (l1:List R6) (l2:List R6) (v12:Int):=(v9.set (0+(tn v14)) (R6.mk (rd v9 (0+(tn v14))).a (rd v9 (0+(tn v14))).b (rd v9 (0+(tn v14))).c (rd v9 (0+(tn v14))).d (rd v9 (0+(tn v14))).e (rd (Vy (cvT l1) (cvT l2)) (tn (wr (v12+1))))))
abbrev y9m (v9:List R6) (v13:List R4) (v15:Int) (l1:List R6) (l2:List R6) (v12:Int):=(v9++[(R6.mk (rd v13 (tn v15)).a (rd v13 (tn v15)).b (w3w l1 l2 v12) (rd v13 (tn v15)).c (rd v13 (tn v15)).d (rd (Vy (cvT l1) (cvT l2)) (tn (wr (v12+1)))))])
abbrev Vq (l1:List R6) (l2:List R6) (v12:Int):=(atV (cvT l1) (w3w l1 l2 v12))
abbrev Uh (l2:List R6) (l1:List R6) (v12:Int):=(atV (cvT l2) (w3w l1 l2 v12))
abbrev u7q (v9:List R6) (v13:List R4) (v15:Int) (l1:List R6) (l2:List R6) (v12:Int):=(Yy (Zz v9) 0 v9.length 6 [(ii (rd v13 (tn v15)).a),(ii (rd v13 (tn v15)).b),(ii (w3w l1 l2 v12)),(ii (rd v13 (tn v15)).c),(ii (rd v13 (tn v15)).d),(ii (rd (Vy (cvT l1) (cvT l2)) (tn (wr (v12+1)))))])
def v3m (l1:List R6) (l2:List R6):AVal:=(.dat (Vy (cvT l1) (cvT l2)).length (Zz (Vy (cvT l1) (cvT l2))))
def rjsC (x0:Int) (l1:List R6) (l2:List R6):rjsS→Cfg
 | .h0 v9 v10 v11 v12=>⟨⟨137,0,true⟩,none,(Zb prog 77 [1,1,1,1,1,0,1,0,0] 0),none,(Zy prog 10),⟨Yg [(0,(ii x0)),(1,(.dat l1.length (Zz l1))),(2,(.dat l2.length (Zz l2))),(8,(v3m l1 l2)),(9,(.sla 0 6 0 v9.length (.un 6))),(10,(.dat v10.length (Zz v10))),(11,(ii v11)),(12,(ii v12))],Wt [⟨Ym v9.length (Zz v9),57,some ⟨6,v9.length,(Zz v9)⟩⟩] 0,1,[],true⟩,[],.leaf⟩
 | .h1 v9 v10 v11 v12 v13 v15=>⟨⟨137,0,true⟩,none,(Zb prog 77 [1,1,1,1,1,0,1,0,0,1,0,0,1,1,1,1,1,0,0] 0),none,(Zy prog 10),⟨Yg [(0,(ii x0)),(1,(.dat l1.length (Zz l1))),(2,(.dat l2.length (Zz l2))),(8,(v3m l1 l2)),(9,(.sla 0 6 0 v9.length (.un 6))),(10,(.dat v10.length (Zz v10))),(11,(ii v11)),(12,(ii v12)),(13,(.dat v13.length (Zz v13))),(15,(ii v15))],Wt [⟨Ym v9.length (Zz v9),57,some ⟨6,v9.length,(Zz v9)⟩⟩] 0,1,[],true⟩,[],.leaf⟩
 | .h2 v9 v10 v11 v12 v14=>⟨⟨137,0,true⟩,none,(Zb prog 77 [1,1,1,1,1,0,1,0,0,1,0,0,1,1,0,1,0,0,1,0,0] 0),none,(Zy prog 10),⟨Yg [(0,(ii x0)),(1,(.dat l1.length (Zz l1))),(2,(.dat l2.length (Zz l2))),(8,(v3m l1 l2)),(9,(.sla 0 6 0 v9.length (.un 6))),(10,(.dat v10.length (Zz v10))),(11,(ii v11)),(12,(ii v12)),(14,(ii v14))],Wt [⟨Ym v9.length (Zz v9),57,some ⟨6,v9.length,(Zz v9)⟩⟩] 0,1,[],true⟩,[],.leaf⟩
def j2s :List (Option (List Nat)):=[some [0,1,2,8,9,10,11,12]]
def j2u :List (Option (List Nat)):=[]
def j2r :List (Option (List Nat)):=[some [0,1,2,8,9,10,11,12,13,15]]
def j2t :List (Option (List Nat)):=[]
def rjsN2 :List (Option (List Nat)):=[some [0,1,2,8,9,10,11,12,14]]
def rjsM2 :List (Option (List Nat)):=[]
def Vf (x0:Int) (l1:List R6) (l2:List R6):rjsS→Xw rjsS
 | .h0 v9 v10 v11 v12=>(bif (decide ((wrap .i64 (v12+1))<(((Vy (cvT l1) (cvT l2)).length :Nat):Int))) then (bif (z5s (cvT l1) (rd (Vy (cvT l1) (cvT l2)) v12.toNat)) then (bif ((decide (0≤v12∧v12<(((Vy (cvT l1) (cvT l2)).length :Nat):Int)))&&true) then (bif (z5s (cvT l2) (rd (Vy (cvT l1) (cvT l2)) v12.toNat)) then (bif (z1r x0 (cvT (atV (cvT l1) (rd (Vy (cvT l1) (cvT l2)) v12.toNat))) (cvT (atV (cvT l2) (rd (Vy (cvT l1) (cvT l2)) v12.toNat)))) then (bif (decide ((((joV x0 (cvT (atV (cvT l1) (rd (Vy (cvT l1) (cvT l2)) v12.toNat))) (cvT (atV (cvT l2) (rd (Vy (cvT l1) (cvT l2)) v12.toNat)))).length :Nat):Int)>400)) then (.ret [.nils,(.bool false)]) else (bif (z1r 2 (cvT (atV (cvT l1) (rd (Vy (cvT l1) (cvT l2)) v12.toNat))) ([]:List R4)) then (bif (decide ((((joV 2 (cvT (atV (cvT l1) (rd (Vy (cvT l1) (cvT l2)) v12.toNat))) ([]:List R4)).length :Nat):Int)>400)) then (.ret [.nils,(.bool false)]) else (bif (z1r 2 (cvT (atV (cvT l2) (rd (Vy (cvT l1) (cvT l2)) v12.toNat))) ([]:List R4)) then (bif (decide ((((joV 2 (cvT (atV (cvT l2) (rd (Vy (cvT l1) (cvT l2)) v12.toNat))) ([]:List R4)).length :Nat):Int)>400)) then (.ret [.nils,(.bool false)]) else (bif (decide (v12>0)) then (bif (Wm (cvT (joV x0 (cvT (atV (cvT l1) (rd (Vy (cvT l1) (cvT l2)) v12.toNat))) (cvT (atV (cvT l2) (rd (Vy (cvT l1) (cvT l2)) v12.toNat))))) (cvT v10)) then (bif (Uf (cvT (joV x0 (cvT (atV (cvT l1) (rd (Vy (cvT l1) (cvT l2)) v12.toNat))) (cvT (atV (cvT l2) (rd (Vy (cvT l1) (cvT l2)) v12.toNat))))) (cvT v10)) then (.to (.h2 v9 v10 v11 v12 v11)) else (.to (.h1 v9 (joV x0 (cvT (atV (cvT l1) (rd (Vy (cvT l1) (cvT l2)) v12.toNat))) (cvT (atV (cvT l2) (rd (Vy (cvT l1) (cvT l2)) v12.toNat)))) (v9.length:Int) v12 (joV x0 (cvT (atV (cvT l1) (rd (Vy (cvT l1) (cvT l2)) v12.toNat))) (cvT (atV (cvT l2) (rd (Vy (cvT l1) (cvT l2)) v12.toNat)))) 0))) else .stuck) else (.to (.h1 v9 (joV x0 (cvT (atV (cvT l1) (rd (Vy (cvT l1) (cvT l2)) v12.toNat))) (cvT (atV (cvT l2) (rd (Vy (cvT l1) (cvT l2)) v12.toNat)))) (v9.length:Int) v12 (joV x0 (cvT (atV (cvT l1) (rd (Vy (cvT l1) (cvT l2)) v12.toNat))) (cvT (atV (cvT l2) (rd (Vy (cvT l1) (cvT l2)) v12.toNat)))) 0)))) else .stuck)) else .stuck)) else .stuck) else .stuck) else .stuck) else .stuck) else (.ret [(.dat v9.length (Zz v9)),(.bool (decide ((v9.length:Int)≤400)))]))
 | .h1 v9 v10 v11 v12 v13 v15=>(bif (decide (v15<(v13.length:Int))) then (bif ((decide (0≤v12∧v12<(((Vy (cvT l1) (cvT l2)).length :Nat):Int)))&&true) then (bif ((decide (0≤v15∧v15<(v13.length:Int)))&&true) then (bif ((decide (0≤(wrap .i64 (v12+1))∧(wrap .i64 (v12+1))<(((Vy (cvT l1) (cvT l2)).length :Nat):Int)))&&true) then (bif (Nat.beq 6 6&&((decide (0+v9.length=v9.length))&&decide ((v9.length+1+1)*(48+1)≤Kj))) then (.to (.h1 (v9++[(R6.mk (rd v13 v15.toNat).a (rd v13 v15.toNat).b (rd (Vy (cvT l1) (cvT l2)) v12.toNat) (rd v13 v15.toNat).c (rd v13 v15.toNat).d (rd (Vy (cvT l1) (cvT l2)) (Int.toNat (wrap .i64 (v12+1)))))]) v10 v11 v12 v13 (wrap .i64 (v15+1)))) else .stuck) else .stuck) else .stuck) else .stuck) else (.to (.h0 v9 v10 v11 (wrap .i64 (v12+1)))))
 | .h2 v9 v10 v11 v12 v14=>(bif (decide (v14<(v9.length:Int))) then (bif ((decide (0≤(wrap .i64 (v12+1))∧(wrap .i64 (v12+1))<(((Vy (cvT l1) (cvT l2)).length :Nat):Int)))&&true) then (bif ((decide (0≤v14∧v14<(v9.length:Int)))&&true) then (bif (decide ((0+v14.toNat)<v9.length)) then (.to (.h2 (v9.set (0+v14.toNat) (R6.mk (rd v9 (0+v14.toNat)).a (rd v9 (0+v14.toNat)).b (rd v9 (0+v14.toNat)).c (rd v9 (0+v14.toNat)).d (rd v9 (0+v14.toNat)).e (rd (Vy (cvT l1) (cvT l2)) (Int.toNat (wrap .i64 (v12+1)))))) v10 v11 v12 (wrap .i64 (v14+1)))) else .stuck) else .stuck) else .stuck) else (.to (.h0 v9 v10 v11 (wrap .i64 (v12+1)))))
def y3o (x0:Int) (l1:List R6) (l2:List R6):Xw rjsS:=(bif (z9f (cvT l1) (cvT l2)) then (.to (.h0 ([]:List R6) ([]:List R4) 0 0)) else .stuck)
theorem w7o (x0:Int) (l1:List R6) (l2:List R6): ∀s,Xu prog (Zy prog 77) (rjsC x0 l1 l2) (rjsC x0 l1 l2 s) (Vf x0 l1 l2 s)
 | .h0 v9 v10 v11 v12=>(lb (fun k0=>(lo fun aE=>(lo fun bE=>(lo fun dA=>(lo fun dQ=>(lb (fun k1=>(lr 137 77 [1,1,1,1,1,0,1,0,0,1,0,0,1,0,1,0,0] 1 10 [(6,.nils),(7,(.bool false))] (sl y1g 50 [] ⟨[],[],[some [6,7]],[]⟩ ⟨[],[],[]⟩ (trs 20 []) (tt k1 (pp (pp (xI R4 (Vq l1 l2 v12).length (Zz (Vq l1 l2 v12))) (pp (xI R4 (Uh l2 l1 v12).length (Zz (Uh l2 l1 v12))) (xw dQ))) (pp (pp (xr l2) (xw dA)) (ww bE (pp (pp (xr l1) (xw aE)) (ww bE (tt k0 nn)))))))))) (fun k1=>(lo fun bU=>(lb (fun k2=>(lr 137 77 [1,1,1,1,1,0,1,0,0,1,0,0,1,0,1,0,0] 1 10 [(6,.nils),(7,(.bool false))] (sl y1g 50 [] ⟨[],[],[some [6,7]],[]⟩ ⟨[],[],[]⟩ (bl 20 1047553) (tt k2 (pp (pp (xI R4 (Vq l1 l2 v12).length (Zz (Vq l1 l2 v12))) (pp (xI R4 0 (fun _=>[])) (xw bU))) (pp (pp (xr l1) (xw aE)) (ww bE (tt k1 (pp (pp (xI R4 (Vq l1 l2 v12).length (Zz (Vq l1 l2 v12))) (pp (xI R4 (Uh l2 l1 v12).length (Zz (Uh l2 l1 v12))) (xw dQ))) (pp (pp (xr l2) (xw dA)) (ww bE (pp (pp (xr l1) (xw aE)) (ww bE (tt k0 nn)))))))))))))) (fun k2=>(lo fun bZ=>(lb (fun k3=>(lr 137 77 [1,1,1,1,1,0,1,0,0,1,0,0,1,0,1,0,0] 1 10 [(6,.nils),(7,(.bool false))] (sl y1g 50 [] ⟨[],[],[some [6,7]],[]⟩ ⟨[],[],[]⟩ (bl 20 524289) (tt k3 (pp (pp (xI R4 (Uh l2 l1 v12).length (Zz (Uh l2 l1 v12))) (pp (xI R4 0 (fun _=>[])) (xw bZ))) (pp (pp (xr l2) (xw dA)) (ww bE (tt k2 (pp (pp (xI R4 (Vq l1 l2 v12).length (Zz (Vq l1 l2 v12))) (pp (xI R4 0 (fun _=>[])) (xw bU))) (pp (pp (xr l1) (xw aE)) (ww bE (tt k1 (pp (pp (xI R4 (Vq l1 l2 v12).length (Zz (Vq l1 l2 v12))) (pp (xI R4 (Uh l2 l1 v12).length (Zz (Uh l2 l1 v12))) (xw dQ))) (pp (pp (xr l2) (xw dA)) (ww bE (pp (pp (xr l1) (xw aE)) (ww bE (tt k0 nn)))))))))))))))))) (fun k3=>(lb (fun k4=>(lo fun cZ=>(lb (fun k5=>(sl y1g 66 [] ⟨[0],[],rjsN2,rjsM2⟩ ⟨[],[],[]⟩ (bl 24 15728641) (pp (fl v9 nn) (tt k5 (pp (pp (xI R4 (joV x0 (cvT (Vq l1 l2 v12)) (cvT (Uh l2 l1 v12))).length (Zz (joV x0 (cvT (Vq l1 l2 v12)) (cvT (Uh l2 l1 v12))))) (pp (xr v10) (xw cZ))) (tt k4 (tt k3 (pp (pp (xI R4 (Uh l2 l1 v12).length (Zz (Uh l2 l1 v12))) (pp (xI R4 0 (fun _=>[])) (xw bZ))) (pp (pp (xr l2) (xw dA)) (ww bE (tt k2 (pp (pp (xI R4 (Vq l1 l2 v12).length (Zz (Vq l1 l2 v12))) (pp (xI R4 0 (fun _=>[])) (xw bU))) (pp (pp (xr l1) (xw aE)) (ww bE (tt k1 (pp (pp (xI R4 (Vq l1 l2 v12).length (Zz (Vq l1 l2 v12))) (pp (xI R4 (Uh l2 l1 v12).length (Zz (Uh l2 l1 v12))) (xw dQ))) (pp (pp (xr l2) (xw dA)) (ww bE (pp (pp (xr l1) (xw aE)) (ww bE (tt k0 nn))))))))))))))))))))) (fun k5=>(sl y1g 73 [] ⟨[0],[],j2r,j2t⟩ ⟨[],[],[]⟩ (bl 24 7340033) (pp (fl v9 nn) (tt k5 (pp (pp (xI R4 (joV x0 (cvT (Vq l1 l2 v12)) (cvT (Uh l2 l1 v12))).length (Zz (joV x0 (cvT (Vq l1 l2 v12)) (cvT (Uh l2 l1 v12))))) (pp (xr v10) (xw cZ))) (tt k4 (tt k3 (pp (pp (xI R4 (Uh l2 l1 v12).length (Zz (Uh l2 l1 v12))) (pp (xI R4 0 (fun _=>[])) (xw bZ))) (pp (pp (xr l2) (xw dA)) (ww bE (tt k2 (pp (pp (xI R4 (Vq l1 l2 v12).length (Zz (Vq l1 l2 v12))) (pp (xI R4 0 (fun _=>[])) (xw bU))) (pp (pp (xr l1) (xw aE)) (ww bE (tt k1 (pp (pp (xI R4 (Vq l1 l2 v12).length (Zz (Vq l1 l2 v12))) (pp (xI R4 (Uh l2 l1 v12).length (Zz (Uh l2 l1 v12))) (xw dQ))) (pp (pp (xr l2) (xw dA)) (ww bE (pp (pp (xr l1) (xw aE)) (ww bE (tt k0 nn)))))))))))))))))))))))) (fun k4=>(sl y1g 73 [] ⟨[0],[],j2r,j2t⟩ ⟨[],[],[]⟩ (bl 24 1) (pp (fl v9 nn) (tt k4 (tt k3 (pp (pp (xI R4 (Uh l2 l1 v12).length (Zz (Uh l2 l1 v12))) (pp (xI R4 0 (fun _=>[])) (xw bZ))) (pp (pp (xr l2) (xw dA)) (ww bE (tt k2 (pp (pp (xI R4 (Vq l1 l2 v12).length (Zz (Vq l1 l2 v12))) (pp (xI R4 0 (fun _=>[])) (xw bU))) (pp (pp (xr l1) (xw aE)) (ww bE (tt k1 (pp (pp (xI R4 (Vq l1 l2 v12).length (Zz (Vq l1 l2 v12))) (pp (xI R4 (Uh l2 l1 v12).length (Zz (Uh l2 l1 v12))) (xw dQ))) (pp (pp (xr l2) (xw dA)) (ww bE (pp (pp (xr l1) (xw aE)) (ww bE (tt k0 nn))))))))))))))))))))))))))))))))) (fun k0=>(lr 137 3 [1,1,1,1,0] 1 10 [(6,(.dat v9.length (Zz v9))),(7,(.bool (decide ((v9.length:Int)≤400))))] (sl y1g 20 [] ⟨[],[0],[some [6,7]],[]⟩ ⟨[(6,.frz v9.length v9.length (Zz v9) (Zz v9))],[],[]⟩ [false] (pp (xZ (z7j 6 6 0 v9.length v9.length (Zz v9)) v9.length (Zz v9)) (pp (xL v9.length v9.length) (pp (xS v9.length (Zz v9) (Zz v9)) (pp (fl v9 nn) (tt k0 nn)))))))))
 | .h1 v9 v10 v11 v12 v13 v15=>(lb (fun k0=>(lo fun o0=>(lo fun o1=>(lo fun o2=>(lo fun o3=>(sl y1g 20 [] ⟨[2],[],j2r,j2t⟩ ⟨[(9,.len (y9m v9 v13 v15 l1 l2 v12).length)],[.rowed 6 (y9m v9 v13 v15 l1 l2 v12).length (Zz (y9m v9 v13 v15 l1 l2 v12))],[]⟩ [true] (pp (xL (v9.length+1) (y9m v9 v13 v15 l1 l2 v12).length) (pp (xL (v9.length+1) (y9m v9 v13 v15 l1 l2 v12).length) (pp (xS (v9.length+1) (u7q v9 v13 v15 l1 l2 v12) (Zz (y9m v9 v13 v15 l1 l2 v12))) (pp (pp (xF (u7q v9 v13 v15 l1 l2 v12)) nn) (ww o3 (ww o2 (ww o1 (ww o1 (ww o0 (ww o1 (ww o1 (tt k0 nn)))))))))))))))))) (fun k0=>(sl y1g 17 [] ⟨[0],[],j2s,j2u⟩ ⟨[],[],[]⟩ [false] (pp (fl v9 nn) (tt k0 nn)))))
 | .h2 v9 v10 v11 v12 v14=>(lb (fun k0=>(lo fun o0=>(lo fun o1=>(lo fun o2=>(sl y1g 32 [] ⟨[0],[],rjsN2,rjsM2⟩ ⟨[(9,.len (y9n v9 v14 l1 l2 v12).length)],[.rowed 6 (y9n v9 v14 l1 l2 v12).length (Zz (y9n v9 v14 l1 l2 v12))],[]⟩ [true] (pp (xL v9.length (y9n v9 v14 l1 l2 v12).length) (pp (xL v9.length (y9n v9 v14 l1 l2 v12).length) (pp (xS v9.length (Xh (Zz v9) (0+(tn v14)) 5 [(ii (rd (Vy (cvT l1) (cvT l2)) (tn (wr (v12+1)))))]) (Zz (y9n v9 v14 l1 l2 v12))) (pp (pp (xF (Xh (Zz v9) (0+(tn v14)) 5 [(ii (rd (Vy (cvT l1) (cvT l2)) (tn (wr (v12+1)))))])) nn) (ww o2 (ww o1 (ww o0 (tt k0 nn))))))))))))) (fun k0=>(sl y1g 17 [] ⟨[0],[],j2s,j2u⟩ ⟨[],[],[]⟩ [false] (pp (fl v9 nn) (tt k0 nn)))))
theorem x8s (x0:Int) (l1:List R6) (l2:List R6):Xu prog (Zy prog 77) (rjsC x0 l1 l2) (Za prog 77 [(.int .i64 x0),(.dat l1.length (Zz l1)),(.dat l2.length (Zz l2))] true []) (y3o x0 l1 l2):=(lo fun o0=>(sl y1g 31 [(57,6,Zz ([]:List R6))] ⟨[0],[],j2s,j2u⟩ ⟨[(9,.grow 0 6),(10,.list 0 (Zz ([]:List R4)))],[],[]⟩ [] (pp (fl ([]:List R6) nn) (pp (pp (xr l1) (pp (xr l2) (xw o0))) nn))))
theorem u0t (x0:Int) (l1:List R6) (l2:List R6) (n:Nat) (vs:List AVal) (h:Yx (Vf x0 l1 l2) n (y3o x0 l1 l2)=.ret vs):Ur prog (Zy prog 77) (Za prog 77 [(.int .i64 x0),(.dat l1.length (Zz l1)),(.dat l2.length (Zz l2))] true []) vs:=by have:=Zc (w7o x0 l1 l2) n _ (x8s x0 l1 l2);rwa [h] at this
theorem Kr (l m:List R6):(Vy l m).length ≤2*l.length+2*m.length:=by
 refine AE (z6i _) ?_
 grind [z4f]
theorem z5t (l:List R6) (z:Int):(atV l z).length ≤l.length:=by
 grind [atV]
def v8q (out:List R6) (first:Nat) (z:Int):List R6:=out.take first++(out.drop first).map fun r=>⟨r.a,r.b,r.c,r.d,r.e,z⟩
def j3s (z z':Int) (s:List R4):List R6:=s.map fun p=>⟨p.a,p.b,z,p.c,p.d,z'⟩
section
variable (kind:Int) (l m:List R6)
def y2h (z:Int):List R4:=joV kind (atV l z) (atV m z)
def z8o (z:Int):Bool:=decide (400<(y2h kind l m z).length)||(decide (400<(joV 2 (atV l z) []).length)||decide (400<(joV 2 (atV m z) []).length))
def jsF :Nat→Nat→List R6→List R4→Nat→Option (List R6)
 | 0,_,out,_,_=>some out
 | k+1,i,out,last,first=>
  bif z8o kind l m (rd (Vy l m) i) then none
  else bif decide (0<i)&&Uf (y2h kind l m (rd (Vy l m) i)) last then jsF k (i+1) (v8q out first (rd (Vy l m) (i+1))) last first
  else jsF k (i+1) (out++j3s (rd (Vy l m) i) (rd (Vy l m) (i+1)) (y2h kind l m (rd (Vy l m) i))) (y2h kind l m (rd (Vy l m) i)) out.length
def jsO :Option (List R6):=jsF kind l m ((Vy l m).length - 1) 0 [] [] 0
def w0u :Option (List R6)→List AVal
 | none=>[.nils,.bool false]
 | some out=>[.dat out.length (Zz out),.bool (decide ((out.length:Int)≤400))]
def z4x :List R6:=(jsO kind l m).getD []
def y8a :Bool:=match jsO kind l m with
 | none=>false
 | some out=>decide ((out.length:Int)≤400)
end
def jsZ (l:List R6):Prop:=l.length≤40000∧ ∀z,(atV l z).length ≤5000
theorem u9n {l:List R6} (h:l.length≤5000):jsZ l:=⟨by omega,fun z=>AE (z5t l z) h⟩
def z8s (_:Int) (l m:List R6):Bool:=pd (jsZ l∧jsZ m)
theorem jsV_ow {k:Int} {l m:List R6} (hl:l.length≤5000) (hm:m.length≤5000):z8s k l m=true:=Xz ⟨u9n hl,u9n hm⟩
section
variable (kind:Int) (l m:List R6) (hl:jsZ l) (hm:jsZ m)
include hl hm
theorem u7p (last:List R4) (first:Int) (i:Nat) (hi:i+1<(Vy l m).length) (s:List R4) (hs:s.length≤1000000): ∀(k j:Nat) (out:List R6),j+k=s.length→out.length≤10000000000+j→
  ∃n,∀N,Yx (Vf kind l m) (N+n) (.to (.h1 out last first (i:Int) s (j:Int)))=Yx (Vf kind l m) N (.to (.h0 (out++j3s (rd (Vy l m) i) (rd (Vy l m) (i+1)) (s.drop j)) last first ((i+1:Nat):Int)))
 | 0,j,out,h,ho=>by
  have hx:=Kr l m;have hl1:=hl.1;have hm1:=hm.1;refine ⟨1,fun N=> ?_⟩
  grind [Zw,Vf,Zk,j3s]
 | k+1,j,out,h,ho=>by
  have hx:=Kr l m;have hl1:=hl.1;have hm1:=hm.1;obtain ⟨n,hn⟩:=u7p last first i hi s hs k (j+1) (out++j3s (rd (Vy l m) i) (rd (Vy l m) (i+1)) [rd s j]) (by omega) (by simp [j3s];omega)
  refine ⟨n+1,fun N=> ?_⟩;have:=hn N;rw [Yq (show j<s.length by omega),←AC,Zw];simp (disch:=omega) only [Vf,Zd,Zq,Zs,Zt,Yb,Yu,Zf,Zk,Zx,Yc,Zj,Af,Ao,Ah,Ak,Ae];rw [AN] at this;exact this
omit hl hm in
theorem u3z (out:List R6) (j:Nat) (x:Int) (h:j<out.length):v8q (out.set j ⟨(rd out j).a,(rd out j).b,(rd out j).c,(rd out j).d,(rd out j).e,x⟩) (j+1) x=v8q out j x:=by
 unfold v8q;rw [Yq h,AU];have e1:(out.set j ⟨(rd out j).a,(rd out j).b,(rd out j).c,(rd out j).d,(rd out j).e,x⟩).take (j+1)=out.take j++[⟨(rd out j).a,(rd out j).b,(rd out j).c,(rd out j).d,(rd out j).e,x⟩]:=by
  apply BF
  ·simp;omega
  ·intro n h1 h2;simp only [BB,List.getElem_set];by_cases e:j=n
   ·subst e;rw [AI rfl,Bo (by simp only [List.length_take];omega)];simp
   ·rw [AD e,Bt (by simp at h1 ⊢;omega),BB]
 have e2:(out.set j ⟨(rd out j).a,(rd out j).b,(rd out j).c,(rd out j).d,(rd out j).e,x⟩).drop (j+1)=out.drop (j+1):=by rw [List.drop_set];rw [AI (by omega)]
 rw [e1,e2,AN];rfl
theorem u7o (last:List R4) (first:Int) (i:Nat) (hi:i+1<(Vy l m).length): ∀(k j:Nat) (out:List R6),j+k=out.length→out.length≤10000000000→
  ∃n,∀N,Yx (Vf kind l m) (N+n) (.to (.h2 out last first (i:Int) (j:Int)))=Yx (Vf kind l m) N (.to (.h0 (v8q out j (rd (Vy l m) (i+1))) last first ((i+1:Nat):Int)))
 | 0,j,out,h,ho=>by
  have hx:=Kr l m;have hl1:=hl.1;have hm1:=hm.1;refine ⟨1,fun N=> ?_⟩;have e:v8q out j (rd (Vy l m) (i+1))=out:=by
   grind [v8q]
  grind [Zw,Vf,Zk]
 | k+1,j,out,h,ho=>by
  have hx:=Kr l m;have hl1:=hl.1;have hm1:=hm.1;obtain ⟨n,hn⟩:=u7o last first i hi k (j+1) (out.set j ⟨(rd out j).a,(rd out j).b,(rd out j).c,(rd out j).d,(rd out j).e,rd (Vy l m) (i+1)⟩) (by simp;omega) (by grind)
  refine ⟨n+1,fun N=> ?_⟩;have:=hn N;rw [u3z out j _ (by omega)] at this;rw [←AC,Zw];simp (disch:=omega) only [Vf,Zd,Zq,Zs,Zt,Yw,Yb,Yu,Zf,Zk,Zx,Yc,Zj,Af,Ao,Ah,Ak,Ae];exact this
theorem v3l : ∀(k i:Nat) (out:List R6) (last:List R4) (first:Nat),k=(Vy l m).length - 1 - i→i≤(Vy l m).length →out.length≤i*400→last.length≤400→first≤out.length→
  ∃n,Yx (Vf kind l m) n (.to (.h0 out last (first:Int) (i:Int)))=.ret (w0u (jsF kind l m k i out last first))
 | 0,i,out,last,first,h,hi,ho,hla,hf=>by
  have hx:=Kr l m;have hl1:=hl.1;have hm1:=hm.1;refine ⟨1,?_⟩
  grind [Zw,Vf,Zd,Zk,Zp,jsF,w0u]
 | k+1,i,out,last,first,h,hi,ho,hla,hf=>by
  have hx:=Kr l m;have hl1:=hl.1;have hm1:=hm.1;have hi1:i+1<(Vy l m).length :=by omega
  have hbig:i*400≤160000*400:=Az _ (by omega);have a1:=fun z=>hl.2 z;have a2:=fun z=>hm.2 z;have w1: ∀z,z5s l z=true:=fun z=>An (by omega);have w2: ∀z,z5s m z=true:=fun z=>An (by omega);have w3: ∀k z,z1r k (atV l z) (atV m z)=true:=fun k z=>An (by grind);have w4: ∀k z,z1r k (atV l z) ([]:List R4)=true:=fun k z=>An (by grind);have w5: ∀k z,z1r k (atV m z) ([]:List R4)=true:=fun k z=>An (by grind);unfold jsF;have fA:y2h kind l m (rd (Vy l m) i)=joV kind (atV l (rd (Vy l m) i)) (atV m (rd (Vy l m) i)):=rfl;by_cases c1:400<(y2h kind l m (rd (Vy l m) i)).length
  ·refine ⟨1,?_⟩;have hb:z8o kind l m (rd (Vy l m) i)=true:=by grind [z8o]
   rw [hb,Ae,Zw];rw [fA] at c1;simp (disch:=omega) only [Vf,Zd,Zq,Zs,Xy,Zt,Zk,Zx,Zj,w1,w2,w3,w4,w5,Ah,Ae,Zp,w0u]
  by_cases c2:400<(joV 2 (atV l (rd (Vy l m) i)) []).length
  ·refine ⟨1,?_⟩;have hb:z8o kind l m (rd (Vy l m) i)=true:=by grind [z8o]
   rw [hb,Ae,Zw];rw [fA] at c1;simp (disch:=omega) only [Vf,Zd,Zq,Zs,Xy,Xt,Zt,Zk,Zx,Zj,w1,w2,w3,w4,w5,Ah,Ae,Ac,Zp,w0u]
  by_cases c3:400<(joV 2 (atV m (rd (Vy l m) i)) []).length
  ·refine ⟨1,?_⟩;have hb:z8o kind l m (rd (Vy l m) i)=true:=by grind [z8o]
   rw [hb,Ae,Zw];rw [fA] at c1;simp (disch:=omega) only [Vf,Zd,Zq,Zs,Xy,Xt,Zt,Zk,Zx,Zj,w1,w2,w3,w4,w5,Ah,Ae,Ac,Zp,w0u]
  have hb:z8o kind l m (rd (Vy l m) i)=false:=by grind [z8o]
  rw [hb,Ac];have w6:Wm (joV kind (atV l (rd (Vy l m) i)) (atV m (rd (Vy l m) i))) last=true:=An (by grind);rcases Yk (decide (0<i)&&Uf (y2h kind l m (rd (Vy l m) i)) last) with q | q
  ·obtain ⟨n3,h3⟩:=u7o kind l m hl hm last first i hi1 (out.length - first) first out (by omega) (by omega)
   obtain ⟨n0,h0⟩:=v3l k (i+1) (v8q out first (rd (Vy l m) (i+1))) last first (by omega) (by omega) (by simp [v8q];omega) hla (by simp [v8q];omega)
   refine ⟨n0+n3+1,?_⟩;rw [q,Ae,Zw];simp only [Ad,Ar] at q;obtain ⟨q1,q2⟩:=q;rw [fA] at c1 q2;simp (disch:=omega) only [Vf,Zd,Zq,Zs,Xy,Xt,Zt,Zk,Zx,Zj,w1,w2,w3,w4,w5,w6,q2,Ah,Ae,Ac]
   grind
  ·obtain ⟨n2,h2⟩:=u7p kind l m hl hm (y2h kind l m (rd (Vy l m) i)) (out.length:Int) i hi1 (y2h kind l m (rd (Vy l m) i)) (by omega) (y2h kind l m (rd (Vy l m) i)).length 0 out (Af _) (by omega);obtain ⟨n0,h0⟩:=v3l k (i+1) (out++j3s (rd (Vy l m) i) (rd (Vy l m) (i+1)) (y2h kind l m (rd (Vy l m) i))) (y2h kind l m (rd (Vy l m) i)) out.length (by omega) (by omega) (by simp [j3s];omega) (by omega) (by simp);refine ⟨n0+n2+1,?_⟩;rw [q,Ac,Zw];have h2':=h2 n0;simp only [AT,z7e] at h2';have c1':=c1;rw [fA] at c1';by_cases hi0:0<i
   ·rw [An hi0,Ak,fA] at q;simp (disch:=omega) only [Vf,Zd,Zq,Zs,Xy,Xt,Zt,Zk,Zx,Zj,w1,w2,w3,w4,w5,w6,q,Ah,Ae,Ac]
    grind
   ·simp (disch:=omega) only [Vf,Zd,Zq,Zs,Xy,Xt,Zt,Zk,Zx,Zj,w1,w2,w3,w4,w5,w6,Ah,Ae,Ac]
    grind
end
theorem j2q (kind:Int) (l m:List R6) (h:z8s kind l m=true): ∃N,Yx (Vf kind l m) N (y3o kind l m)=.ret (w0u (jsO kind l m)):=by obtain ⟨hl,hm⟩:=Jz h;have hl1:=hl.1;have hm1:=hm.1;obtain ⟨N,hN⟩:=v3l kind l m hl hm ((Vy l m).length - 1) 0 [] [] 0 rfl (AB _) (AB _) (AB _) (Aq _);refine ⟨N,?_⟩;have w1:z9f l m=true:=An ⟨by omega,by omega⟩;simp only [y3o,Zd,Zq,w1,Ae];exact hN
def fJs :List AVal→Option (AVal×Bool)
 | [.int .i64 x0,a1,a2]=>match asL R6 a1,asL R6 a2 with
  | some (L1,g1,n1),some (L2,g2,n2)=>some (.tup [.dat (z4x x0 L1 L2).length (Zz (z4x x0 L1 L2)),.bool (y8a x0 L1 L2)],isT R6 n1 g1&&(isT R6 n2 g2&&(z8s x0 L1 L2)))
  | _,_=>none
 | _=>none
theorem fJs_ok {S:Specs} (hS:Zu prog S):Zu prog (S.with u8z fJs):=by
 refine v6j hS (by kernel_rfl) fun args v h=> ?_;unfold fJs at h;split at h
 ·rename_i x0 a1 a2;split at h
  ·rename_i L1 g1 n1 L2 g2 n2 e1 e2;simp only [Ab,Aa,Ad] at h;obtain ⟨rfl,ho1,ho2,hw⟩:=h;obtain ⟨N,hN⟩:=j2q x0 L1 L2 hw;refine ⟨_,w0u (jsO x0 L1 L2),(.cons (.refl _) (.cons (Yi e1 ho1) (.cons (Yi e2 ho2) .nil))),?_,u0t x0 L1 L2 N _ hN,3,?_⟩
   ·unfold z4x y8a;cases jsO x0 L1 L2 with
    | none=>exact fun ρ u hu=>y4w (.cons (z6u R6) (RLe.refl _)) ρ u hu
    | some out=>exact fun ρ u hu=>hu
   ·cases jsO x0 L1 L2 <;> rfl
  ·cases h
 ·cases h
def T4 :Specs:=T3.with u8z fJs
theorem T4_ok :Zu prog T4:=fJs_ok y1g
open Go.Sort Go.Shelf Go.RowKit Go.Lib
def j6z (x:E3):List Value:=w9q x.1
theorem j6y (l:List R3) (h:y2j l=true):Go.Sort.flatK j6z 3 (x3x l h).toArray =Go.Sort.flatK w9q 3 l.toArray:=by
 have hl:=Ks l h;unfold Go.Sort.flatK;rw [show (x3x l h).toArray.size =l.toArray.size by simpa using hl];apply Array.ext
 ·simp
 ·intro t h1 h2;simp only [Array.getElem_map,Array.getElem_range];have ht:t<l.length*3:=by simpa using h1
  have hq:t / 3<l.length:=by omega
  congr 1
  rw [getElem!_pos (x3x l h).toArray (t / 3) (by simpa [hl] using hq),getElem!_pos l.toArray (t / 3) (by simpa using hq)];unfold j6z
  congr 1
  have:=y4q l h;have e:=AP (fun z:List R3=>z[t / 3]?) this;simp only [List.getElem?_map] at e;rw [Au (by rw [hl];exact hq),Au hq] at e
  simpa using e
theorem u3o (d:Array E3):Go.Sort.flatK j6z 3 d=Go.Sort.flatK w9q 3 (d.toList.map Subtype.val).toArray :=by
 unfold Go.Sort.flatK;rw [show d.size=(d.toList.map Subtype.val).toArray.size by simp];apply Array.ext
 ·simp
 ·intro t h1 h2;simp only [Array.getElem_map,Array.getElem_range];have ht:t<d.size*3:=by simpa using h1
  have hq:t / 3<d.size:=by omega
  congr 1
  rw [getElem!_pos d (t / 3) hq,getElem!_pos (d.toList.map Subtype.val).toArray (t / 3) (by simpa using hq)];simp [j6z]
theorem z8q (l:List R3):x2t l.length (z1y (cvT l)).length =true:=Un (by
 rw [Zd];by_cases h:y2j l=true
 ·exact (Qq l h).1.length_eq.symm
 ·unfold z1y;rw [dif_neg h])
theorem isAgg3 : ∀w,(isAgg (Tryz.sortEnd_ren.t 24)).run prog w=.ok true w:=fun w=>by rfl
theorem size3 : ∀w,(Go.sizeOf (Tryz.sortEnd_ren.t 24)).run prog w=.ok 3 w:=fun w=>by rfl
theorem v2c :x6x prog u8q (w5k R3 z1y y2j w4q):=by
 refine v6z (fun L=> ?_) (fun blk off cap L w hb hH fF hsz=> ?_) fun p cap fv w=>AnyF.slices_SortFunc_none Tryz.sortEnd p cap fv w
 ·by_cases h:y2j L=true
  ·exact (Qq L h).1.length_eq
  ·unfold z1y;rw [dif_neg h]
 ·have eg: ∀args w,(callFunc 194 args).run prog w=.ok (.enter 194 args) w:=enters_of Tryz.func194 (by kernel_rfl) rfl;have hcmp:CmpLays prog 194 #[] j6z 3 cf3 blk off (x3x L hb).toArray.size w:=fun m os dk _ x y=>by have hx:=Aw x.2;have hy:=Aw y.2;exact Tryz.cmpEnd x.1.a x.1.b x.1.c y.1.a y.1.b y.1.c hx hy _
  have hH':HoldsK j6z 3 w blk off (x3x L hb).toArray :=by unfold HoldsK;rw [j6y L hb];exact hH
  have hcon:=AnyQ.slices_SortFunc_eq Tryz.sortEnd 3 isAgg3 size3 j6z (fun x=>w1u x.1) (fun x v hv=>by
   obtain ⟨a,ha,rfl⟩:=AO.1 hv;have:w0w a=true:=At.1 (j0d.num x.1) a ha;cases a <;> first | rfl | (simp [w0w] at this;done)) cf3 swo3 194 #[] blk off cap (x3x L hb).toArray w eg hcmp hH' fF (by simpa [Ks] using hsz)
  have hs:(x3x L hb).toArray.size =L.length:=by simp [Ks]
  rw [hs] at hcon;refine Calls.mono hcon fun e w' ⟨he,n,os,hw⟩=>⟨he,n,os,?_⟩
  rw [hw];unfold sortWorldK putRowK;rw [u3o];unfold z1y;rw [dif_pos hb];rfl
def Xa (zs:List Int):List Int:=zs.mergeSort fun x y=>decide (x≤y)
theorem v2b :x6x prog nSort (fRow Xa):=
 j7a (fun zs=>List.length_mergeSort zs) (fun blk off cap zs w hH hb hz=>Tryz.slices_Sort_int blk off cap zs w hH hb hz) fun p cap w=>Tryz.slices_Sort_int_none p cap w
def Wn (zs:List Int):List Int:=compact zs++List.replicate (zs.length - (compact zs).length) 0
def v7q (zs:List Int):Nat:=(compact zs).length
theorem Jy (zs:List Int):(Wn zs).length =zs.length:=by have:=compact_length_le zs;simp [Wn];omega
theorem z2p (n:Nat) (c:Nat→Int):x2t n (Wn (Yd n c)).length =true:=Un (by rw [Jy];simp [Yd])
theorem v5x (w:World):grow w #[]=w:=by simp [grow]
theorem w2d :x6x prog w4s (fCut Wn v7q):=
 j7b (fun zs=>by have:=compact_length_le zs;simp [Wn];omega) (fun zs=>compact_length_le zs)
  (fun blk off cap zs w hH hb hz eA=>(Tryz.slices_Compact_int blk off cap zs w hH (by omega) eA).mono fun e w' ⟨he,q,hw⟩=>⟨he,q, #[],by rw [hw,v5x];rfl⟩)
  fun p cap w=>Tryz.slices_Compact_int_empty p cap w
def T5 :Specs:=((T4.withE u8q (w5k R3 z1y y2j w4q)).withE nSort (fRow Xa)).withE w4s (fCut Wn v7q)
theorem z0l :Zu prog T5:=x1d (x1d (x1d T4_ok (by kernel_rfl) v2c) (by kernel_rfl) v2b) (by kernel_rfl) w2d
-- h2: index into an array (choices [true, true, false, false])
-- h2: index into an array (choices [true, false, true, false, false])
-- h2: index into an array (choices [true, false, false, true, true, false, false])
-- h2: index into an array (choices [true, false, false, true, false, false, false])
-- h2: index into an array (choices [true, false, false, false, false, false])
inductive spmS where
 | h0 (v8:Int)
 | h1 (v3:List R3) (v17:Int)
 | h2 (v5:List R3) (v6:Int) (v7:Int) (aC:Int) (bM:Int) (aW:Int) (aJ:Bool) (aA:List R2)
abbrev Um (aA:List R2) (aW:Int) (v5:List R3) (v7:Int):=(aA++[(R2.mk aW (rd v5 (0+(tn v7))).a)])
abbrev y1m (aA:List R2) (aW:Int) (v5:List R3) (v7:Int):=(Yy (Zz aA) 0 aA.length 2 [(ii aW),(ii (rd v5 (0+(tn v7))).a)])
abbrev y8r (v3:List R3) (l0:List R2) (v17:Int):=(v3++[(R3.mk (rd l0 (tn v17)).a 0 1),(R3.mk (rd l0 (tn v17)).b 0 (-1))])
def u5p (l0:List R2):AFr:=⟨⟨11,0,true⟩,(Vj prog 156 [1,1,1,0] 1),(Zb prog 156 [1,1,1,0] 1),none,(Zy prog 14),Yg [(9,(.dat l0.length (Zz l0)))]⟩
def spmC (l0:List R2):spmS→Cfg
 | .h0 v8=>⟨⟨19,0,true⟩,none,(Zb prog 191 [1,0,1,0,0] 0),none,(Zy prog 6),⟨Yg [(0,(.dat l0.length (Zz l0))),(1,(.fn 178 [])),(7,(ii (l0.length:Int))),(8,(ii v8))],Wt [] 0,0,[],true⟩,[⟨⟨9,0,true⟩,(Vj prog 177 [1,0] 2),(Zb prog 177 [1,0] 1),none,(Zy prog 6),Yg [(5,(.dat l0.length (Zz l0))),(6,(.fn 178 []))]⟩,⟨⟨11,0,true⟩,(Vj prog 156 [1,1,0,0] 1),(Zb prog 156 [1,1,0,0] 1),none,(Zy prog 14),Yg [(0,(.dat l0.length (Zz l0))),(7,(.dat l0.length (Zz l0)))]⟩],.leaf⟩
 | .h1 v3 v17=>⟨⟨38,0,true⟩,none,(Zb prog 184 [1,1,0,1,0,0,1,1,0,0,1,1,0,0] 0),none,(Zy prog 9),⟨Yg [(3,(.sla 7 3 0 v3.length (.un 3))),(4,(ii 0)),(8,(.sl 0 0 2 (.un 1))),(9,(ii 2)),(10,(ii 0)),(15,(.dat l0.length (Zz l0))),(16,(ii (l0.length:Int))),(17,(ii v17))],Wt [⟨[(.dat l0.length (Zz l0)),.nils],155,none⟩,⟨[(.fn 180 [])],167,none⟩,⟨[(ii 0),(ii 0)],222,none⟩,⟨[.nils],155,none⟩,⟨[(ii 0)],3,none⟩,⟨[(.bool false)],4,none⟩,⟨[(.fn 183 [(.ptr 5 0),(.ptr 4 0),(.ptr 3 0)])],223,none⟩,⟨Ym v3.length (Zz v3),227,some ⟨3,v3.length,(Zz v3)⟩⟩] 0,8,[],true⟩,[⟨⟨42,0,true⟩,(Vj prog 161 [1,1,1,1,1,0,0] 3),(Zb prog 161 [1,1,1,1,1,0,0] 1),none,(Zy prog 3),Yg [(5,(.ptr 1 0)),(6,.nils),(7,(.ptr 2 0)),(8,(.ptr 3 0)),(9,(.ptr 4 0)),(10,(.ptr 5 0)),(11,(.ptr 6 0)),(16,(.sl 0 0 2 (.un 1)))]⟩,(u5p l0)],.leaf⟩
 | .h2 v5 v6 v7 aC bM aW aJ aA=>⟨⟨16,0,true⟩,none,(Zb prog 198 [1,0,0] 0),none,[],⟨Yg [(0,(.yld 0)),(5,(.sla 7 3 0 v5.length (.un 3))),(6,(ii v6)),(7,(ii v7))],z7i [(1,⟨[(.fn 180 [])],167,none⟩),(2,⟨[(ii aC),(ii bM)],222,none⟩),(3,⟨[(ii aW)],3,none⟩),(4,⟨[(.bool aJ)],4,none⟩),(5,⟨[(.fn 183 [(.ptr 4 0),(.ptr 3 0),(.ptr 6 0)])],223,none⟩),(6,⟨[(.sla 8 2 0 aA.length (.un 2))],155,none⟩),(7,⟨Ym v5.length (Zz v5),227,some ⟨3,v5.length,(Zz v5)⟩⟩),(8,⟨Ym aA.length (Zz aA),176,some ⟨2,aA.length,(Zz aA)⟩⟩)],9,[],true⟩,[⟨⟨42,0,true⟩,none,(.inRangeFunc 0::(Zb prog 161 [1,1,1,1,1,0,1,0] 1)),none,(Zy prog 3),Yg [(6,.nils),(8,(.ptr 6 0))]⟩,(u5p l0)],(y4a [(0,⟨.ready,none,42,Yg [(5,(.ptr 1 0)),(7,(.ptr 2 0)),(9,(.ptr 3 0)),(10,(.ptr 4 0)),(11,(.ptr 5 0))],[18],(Wo prog 161 [1,1,1,1,1,0,1,0,0]),(Wo prog 161 [1,1,1,1,1,0,1,0,1])⟩)])⟩
def spmN0 :List (Option (List Nat)):=[some [0,1,7,8],some [5,6],some [0,7]]
def spmM0 :List (Option (List Nat)):=[]
def v1x :List (Option (List Nat)):=[some [3,4,8,9,10,15,16,17],some [5,6,7,8,9,10,11,16],some [9]]
def v1y :List (Option (List Nat)):=[]
def y5e :List (Option (List Nat)):=[some [0,5,6,7],some [6,8],some [9]]
def y5f :List (Option (List Nat)):=[some [5,7,9,10,11],none,none,none,none,none,none,none,none]
def Us (l0:List R2):spmS→Xw spmS
 | .h0 v8=>(bif (decide (v8<(l0.length:Int))) then (bif ((decide (0≤v8∧v8<(l0.length:Int)))&&true) then (bif (decide ((rd l0 v8.toNat).a <(rd l0 v8.toNat).b)) then (bif (decide ((rd l0 v8.toNat).a ≥(-1000000))) then (bif (!(decide ((rd l0 v8.toNat).b ≤1000000))) then (bif (decide (v8≥0)) then (.ret [.nils,(.int .i64 8)]) else (.to (.h1 ([]:List R3) 0))) else (.to (.h0 (wrap .i64 (v8+1))))) else (bif (decide (v8≥0)) then (.ret [.nils,(.int .i64 8)]) else (.to (.h1 ([]:List R3) 0)))) else (bif (decide (v8≥0)) then (.ret [.nils,(.int .i64 8)]) else (.to (.h1 ([]:List R3) 0)))) else .stuck) else (.to (.h1 ([]:List R3) 0)))
 | .h1 v3 v17=>(bif (decide (v17<(l0.length:Int))) then (bif ((decide (0≤v17∧v17<(l0.length:Int)))&&true) then (bif (Nat.beq 3 3&&((decide (0+v3.length=v3.length))&&decide ((v3.length+2+1)*(24+1)≤Kj))) then (.to (.h1 (v3++[(R3.mk (rd l0 v17.toNat).a 0 1),(R3.mk (rd l0 v17.toNat).b 0 (-1))]) (wrap .i64 (v17+1)))) else .stuck) else .stuck) else (bif (y2j (cvT v3)) then (bif (decide (v3.length<4611686018427387904)) then (bif (decide (v3.length=v3.length)) then (.to (.h2 (z1y (cvT v3)) (v3.length:Int) 0 0 0 0 false ([]:List R2))) else .stuck) else .stuck) else .stuck))
 | .h2 v5 v6 v7 aC bM aW aJ aA=>(bif (decide (v7<v6)) then (bif ((decide (0≤v7∧v7<(v5.length:Int)))&&true) then (bif (decide ((0+v7.toNat)<v5.length)) then (bif (!aJ) then (bif (decide ((rd v5 (0+v7.toNat)).b =Int.ofNat 0)) then (.to (.h2 v5 v6 (wrap .i64 (v7+1)) (wrap .i64 (aC+(rd v5 (0+v7.toNat)).c)) bM (rd v5 (0+v7.toNat)).a (w5f (decide ((wrap .i64 (aC+(rd v5 (0+v7.toNat)).c))>0)) (decide (bM>0))) aA)) else (bif (decide ((rd v5 (0+v7.toNat)).b =Int.ofNat 1)) then (.to (.h2 v5 v6 (wrap .i64 (v7+1)) aC (wrap .i64 (bM+(rd v5 (0+v7.toNat)).c)) (rd v5 (0+v7.toNat)).a (w5f (decide (aC>0)) (decide ((wrap .i64 (bM+(rd v5 (0+v7.toNat)).c))>0))) aA)) else .stuck)) else (bif (aW == (rd v5 (0+v7.toNat)).a) then (bif (decide ((rd v5 (0+v7.toNat)).b =Int.ofNat 0)) then (.to (.h2 v5 v6 (wrap .i64 (v7+1)) (wrap .i64 (aC+(rd v5 (0+v7.toNat)).c)) bM (rd v5 (0+v7.toNat)).a (w5f (decide ((wrap .i64 (aC+(rd v5 (0+v7.toNat)).c))>0)) (decide (bM>0))) aA)) else (bif (decide ((rd v5 (0+v7.toNat)).b =Int.ofNat 1)) then (.to (.h2 v5 v6 (wrap .i64 (v7+1)) aC (wrap .i64 (bM+(rd v5 (0+v7.toNat)).c)) (rd v5 (0+v7.toNat)).a (w5f (decide (aC>0)) (decide ((wrap .i64 (bM+(rd v5 (0+v7.toNat)).c))>0))) aA)) else .stuck)) else (bif (decide ((aA.length:Int)>0)) then (bif ((decide (0≤(wrap .i64 ((aA.length:Int) - 1))∧(wrap .i64 ((aA.length:Int) - 1))<(aA.length:Int)))&&true) then (bif (decide ((0+(Int.toNat (wrap .i64 ((aA.length:Int) - 1))))<aA.length)) then (bif ((rd aA (0+(Int.toNat (wrap .i64 ((aA.length:Int) - 1))))).b == aW) then (bif (decide ((rd v5 (0+v7.toNat)).b =Int.ofNat 0)) then (.to (.h2 v5 v6 (wrap .i64 (v7+1)) (wrap .i64 (aC+(rd v5 (0+v7.toNat)).c)) bM (rd v5 (0+v7.toNat)).a (w5f (decide ((wrap .i64 (aC+(rd v5 (0+v7.toNat)).c))>0)) (decide (bM>0))) (aA.set (0+(Int.toNat (wrap .i64 ((aA.length:Int) - 1)))) (R2.mk (rd aA (0+(Int.toNat (wrap .i64 ((aA.length:Int) - 1))))).a (rd v5 (0+v7.toNat)).a)))) else (bif (decide ((rd v5 (0+v7.toNat)).b =Int.ofNat 1)) then (.to (.h2 v5 v6 (wrap .i64 (v7+1)) aC (wrap .i64 (bM+(rd v5 (0+v7.toNat)).c)) (rd v5 (0+v7.toNat)).a (w5f (decide (aC>0)) (decide ((wrap .i64 (bM+(rd v5 (0+v7.toNat)).c))>0))) (aA.set (0+(Int.toNat (wrap .i64 ((aA.length:Int) - 1)))) (R2.mk (rd aA (0+(Int.toNat (wrap .i64 ((aA.length:Int) - 1))))).a (rd v5 (0+v7.toNat)).a)))) else .stuck)) else (bif (Nat.beq 2 2&&((decide (0+aA.length=aA.length))&&decide ((aA.length+1+1)*(16+1)≤Kj))) then (bif (decide ((rd v5 (0+v7.toNat)).b =Int.ofNat 0)) then (.to (.h2 v5 v6 (wrap .i64 (v7+1)) (wrap .i64 (aC+(rd v5 (0+v7.toNat)).c)) bM (rd v5 (0+v7.toNat)).a (w5f (decide ((wrap .i64 (aC+(rd v5 (0+v7.toNat)).c))>0)) (decide (bM>0))) (aA++[(R2.mk aW (rd v5 (0+v7.toNat)).a)]))) else (bif (decide ((rd v5 (0+v7.toNat)).b =Int.ofNat 1)) then (.to (.h2 v5 v6 (wrap .i64 (v7+1)) aC (wrap .i64 (bM+(rd v5 (0+v7.toNat)).c)) (rd v5 (0+v7.toNat)).a (w5f (decide (aC>0)) (decide ((wrap .i64 (bM+(rd v5 (0+v7.toNat)).c))>0))) (aA++[(R2.mk aW (rd v5 (0+v7.toNat)).a)]))) else .stuck)) else .stuck)) else .stuck) else .stuck) else (bif (Nat.beq 2 2&&((decide (0+aA.length=aA.length))&&decide ((aA.length+1+1)*(16+1)≤Kj))) then (bif (decide ((rd v5 (0+v7.toNat)).b =Int.ofNat 0)) then (.to (.h2 v5 v6 (wrap .i64 (v7+1)) (wrap .i64 (aC+(rd v5 (0+v7.toNat)).c)) bM (rd v5 (0+v7.toNat)).a (w5f (decide ((wrap .i64 (aC+(rd v5 (0+v7.toNat)).c))>0)) (decide (bM>0))) (aA++[(R2.mk aW (rd v5 (0+v7.toNat)).a)]))) else (bif (decide ((rd v5 (0+v7.toNat)).b =Int.ofNat 1)) then (.to (.h2 v5 v6 (wrap .i64 (v7+1)) aC (wrap .i64 (bM+(rd v5 (0+v7.toNat)).c)) (rd v5 (0+v7.toNat)).a (w5f (decide (aC>0)) (decide ((wrap .i64 (bM+(rd v5 (0+v7.toNat)).c))>0))) (aA++[(R2.mk aW (rd v5 (0+v7.toNat)).a)]))) else .stuck)) else .stuck)))) else .stuck) else .stuck) else (.ret [(.dat aA.length (Zz aA)),(.int .i64 0)]))
def y2w (l0:List R2):Xw spmS:=(bif (decide ((l0.length:Int)>400)) then (.ret [.nils,(.int .i64 4)]) else (.to (.h0 0)))
theorem w6m (l0:List R2): ∀s,Xu prog (Zy prog 156) (spmC l0) (spmC l0 s) (Us l0 s)
 | .h0 v8=>(lb (fun k0=>(lo fun aE=>(lb (fun k1=>(lb (fun k2=>(lb (fun k3=>(lb (fun k4=>(lr 11 156 [1,1,0,1,0,0] 1 14 [(2,.nils),(3,(ii 8))] (sl z0l 79 [] ⟨[],[],[some [2,3]],[]⟩ ⟨[],[],[]⟩ (trs 9 []) (tt k4 (tt k3 (tt k2 (tt k1 (ww aE (tt k0 nn))))))))) (fun k4=>(sl z0l 154 [(227,3,Zz ([]:List R3))] ⟨[8,2,3,4,5,6,7,9],[],v1x,v1y⟩ ⟨[(3,.grow 7 3)],[],[]⟩ (trs 8 (bl 2 2)) (pp (fl ([]:List R3) nn) (tt k4 (tt k3 (tt k2 (tt k1 (ww aE (tt k0 nn))))))))))) (fun k3=>(sl z0l 69 [] ⟨[],[],spmN0,spmM0⟩ ⟨[],[],[]⟩ (trs 7 [false]) (tt k3 (tt k2 (tt k1 (ww aE (tt k0 nn))))))))) (fun k2=>(lb (fun k3=>(lr 11 156 [1,1,0,1,0,0] 1 14 [(2,.nils),(3,(ii 8))] (sl z0l 79 [] ⟨[],[],[some [2,3]],[]⟩ ⟨[],[],[]⟩ (trs 4 (bl 5 24)) (tt k3 (tt k2 (tt k1 (ww aE (tt k0 nn)))))))) (fun k3=>(sl z0l 154 [(227,3,Zz ([]:List R3))] ⟨[8,2,3,4,5,6,7,9],[],v1x,v1y⟩ ⟨[(3,.grow 7 3)],[],[]⟩ (trs 4 (bl 6 40)) (pp (fl ([]:List R3) nn) (tt k3 (tt k2 (tt k1 (ww aE (tt k0 nn)))))))))))) (fun k1=>(lb (fun k2=>(lr 11 156 [1,1,0,1,0,0] 1 14 [(2,.nils),(3,(ii 8))] (sl z0l 79 [] ⟨[],[],[some [2,3]],[]⟩ ⟨[],[],[]⟩ (bl 9 385) (tt k2 (tt k1 (ww aE (tt k0 nn))))))) (fun k2=>(sl z0l 154 [(227,3,Zz ([]:List R3))] ⟨[8,2,3,4,5,6,7,9],[],v1x,v1y⟩ ⟨[(3,.grow 7 3)],[],[]⟩ (bl 10 641) (pp (fl ([]:List R3) nn) (tt k2 (tt k1 (ww aE (tt k0 nn)))))))))))) (fun k0=>(sl z0l 98 [(227,3,Zz ([]:List R3))] ⟨[6,0,1,2,3,4,5,7],[],v1x,v1y⟩ ⟨[(3,.grow 7 3)],[],[]⟩ (bl 3 4) (pp (fl ([]:List R3) nn) (tt k0 nn)))))
 | .h1 v3 v17=>(lb (fun k0=>(lo fun o0=>(lo fun o1=>(sl z0l 36 [] ⟨[0,1,2,3,4,5,6,10],[],v1x,v1y⟩ ⟨[(3,.len (y8r v3 l0 v17).length)],(kpB 7 [.rowed 3 (y8r v3 l0 v17).length (Zz (y8r v3 l0 v17))]),[]⟩ [true] (pp (xL (v3.length+2) (y8r v3 l0 v17).length) (pp (xL (v3.length+2) (y8r v3 l0 v17).length) (pp (xS (v3.length+2) (Yy (Zz v3) 0 v3.length 3 [(ii (rd l0 (tn v17)).a),(ii 0),(ii 1),(ii (rd l0 (tn v17)).b),(ii 0),(ii (-1))]) (Zz (y8r v3 l0 v17))) (pp (pp (xF (Yy (Zz v3) 0 v3.length 3 [(ii (rd l0 (tn v17)).a),(ii 0),(ii 1),(ii (rd l0 (tn v17)).b),(ii 0),(ii (-1))])) nn) (ww o1 (ww o0 (tt k0 nn))))))))))) (fun k0=>(lo fun o0=>(lo fun o1=>(lo fun o2=>(sl z0l 92 [(176,2,Zz ([]:List R2))] ⟨[9,1,2,4,5,6,3,7,10],[],y5e,y5f⟩ ⟨[(5,.len (z1y (cvT v3)).length)],(kpB 6 [.cells [.grow 8 2],.rowed 3 (z1y (cvT v3)).length (Zz (z1y (cvT v3))),.keep]),[]⟩ (bl 4 2) (pp (xL v3.length (z1y (cvT v3)).length (by first | exact z8q _ | exact Un rfl)) (pp (xL v3.length (z1y (cvT v3)).length (by first | exact z8q _ | exact Un rfl)) (pp (xS v3.length (Zz (z1y (cvT v3))) (Zz (z1y (cvT v3)))) (pp (fl (z1y (cvT v3)) (fl ([]:List R2) nn)) (pp (pp (xG (Nat.beq 3 3)) (pp (xG (Nat.beq 3 3)) (pp (xG (Nat.beq 0 0)) (pp (pp (xG (decide (v3.length=v3.length))) (pp (xr v3) (xG (decide (v3.length<4611686018427387904))))) (xG (y2j (cvT v3))))))) (tt k0 nn))))))))))))
 | .h2 v5 v6 v7 aC bM aW aJ aA=>(lb (fun k0=>(lo fun aE=>(lo fun bE=>(lb (fun k1=>(lb (fun k2=>(sl z0l 62 [] ⟨(List.range 9),[],y5e,y5f⟩ ⟨[],[],[]⟩ (trs 5 (bl 3 0)) (pp (fl v5 (fl aA nn)) (ww k2 (tt k1 (ww bE (ww aE (tt k0 nn)))))))) (fun k2=>(lb (fun k3=>(sl z0l 62 [] ⟨(List.range 9),[],y5e,y5f⟩ ⟨[],[],[]⟩ (trs 6 (bl 4 2)) (pp (fl v5 (fl aA nn)) (ww k3 (tt k1 (ww bE (ww aE (tt k0 nn)))))))) (fun k3=>trivial))))) (fun k1=>(lb (fun k2=>(lb (fun k3=>(sl z0l 62 [] ⟨(List.range 9),[],y5e,y5f⟩ ⟨[],[],[]⟩ (bl 8 17) (pp (fl v5 (fl aA nn)) (ww k3 (tt k2 (tt k1 (ww bE (ww aE (tt k0 nn))))))))) (fun k3=>(lb (fun k4=>(sl z0l 62 [] ⟨(List.range 9),[],y5e,y5f⟩ ⟨[],[],[]⟩ (bl 10 177) (pp (fl v5 (fl aA nn)) (ww k4 (tt k2 (tt k1 (ww bE (ww aE (tt k0 nn))))))))) (fun k4=>trivial))))) (fun k2=>(lb (fun k3=>(lo fun cD=>(lo fun dL=>(lb (fun k4=>(lb (fun k5=>(sl z0l 81 [] ⟨(List.range 9),[],y5e,y5f⟩ ⟨[],(kpB 6 [.cells [.len (aA.set (0+(tn (wr ((aA.length:Int) - 1)))) (R2.mk (rd aA (0+(tn (wr ((aA.length:Int) - 1))))).a (rd v5 (0+(tn v7))).a)).length],.keep,.rowed 2 (aA.set (0+(tn (wr ((aA.length:Int) - 1)))) (R2.mk (rd aA (0+(tn (wr ((aA.length:Int) - 1))))).a (rd v5 (0+(tn v7))).a)).length (Zz (aA.set (0+(tn (wr ((aA.length:Int) - 1)))) (R2.mk (rd aA (0+(tn (wr ((aA.length:Int) - 1))))).a (rd v5 (0+(tn v7))).a)))]),[]⟩ (bl 17 16353) (pp (xL aA.length (aA.set (0+(tn (wr ((aA.length:Int) - 1)))) (R2.mk (rd aA (0+(tn (wr ((aA.length:Int) - 1))))).a (rd v5 (0+(tn v7))).a)).length) (pp (xL aA.length (aA.set (0+(tn (wr ((aA.length:Int) - 1)))) (R2.mk (rd aA (0+(tn (wr ((aA.length:Int) - 1))))).a (rd v5 (0+(tn v7))).a)).length) (pp (xS aA.length (Xh (Zz aA) (0+(tn (wr ((aA.length:Int) - 1)))) 1 [(ii (rd v5 (0+(tn v7))).a)]) (Zz (aA.set (0+(tn (wr ((aA.length:Int) - 1)))) (R2.mk (rd aA (0+(tn (wr ((aA.length:Int) - 1))))).a (rd v5 (0+(tn v7))).a)))) (pp (fl v5 (pp (xF (Xh (Zz aA) (0+(tn (wr ((aA.length:Int) - 1)))) 1 [(ii (rd v5 (0+(tn v7))).a)])) nn)) (ww k5 (ww dL (ww cD (tt k4 (ww dL (ww cD (tt k3 (tt k2 (tt k1 (ww bE (ww aE (tt k0 nn)))))))))))))))))) (fun k5=>(lb (fun k6=>(sl z0l 81 [] ⟨(List.range 9),[],y5e,y5f⟩ ⟨[],(kpB 6 [.cells [.len (aA.set (0+(tn (wr ((aA.length:Int) - 1)))) (R2.mk (rd aA (0+(tn (wr ((aA.length:Int) - 1))))).a (rd v5 (0+(tn v7))).a)).length],.keep,.rowed 2 (aA.set (0+(tn (wr ((aA.length:Int) - 1)))) (R2.mk (rd aA (0+(tn (wr ((aA.length:Int) - 1))))).a (rd v5 (0+(tn v7))).a)).length (Zz (aA.set (0+(tn (wr ((aA.length:Int) - 1)))) (R2.mk (rd aA (0+(tn (wr ((aA.length:Int) - 1))))).a (rd v5 (0+(tn v7))).a)))]),[]⟩ (bl 19 98273) (pp (xL aA.length (aA.set (0+(tn (wr ((aA.length:Int) - 1)))) (R2.mk (rd aA (0+(tn (wr ((aA.length:Int) - 1))))).a (rd v5 (0+(tn v7))).a)).length) (pp (xL aA.length (aA.set (0+(tn (wr ((aA.length:Int) - 1)))) (R2.mk (rd aA (0+(tn (wr ((aA.length:Int) - 1))))).a (rd v5 (0+(tn v7))).a)).length) (pp (xS aA.length (Xh (Zz aA) (0+(tn (wr ((aA.length:Int) - 1)))) 1 [(ii (rd v5 (0+(tn v7))).a)]) (Zz (aA.set (0+(tn (wr ((aA.length:Int) - 1)))) (R2.mk (rd aA (0+(tn (wr ((aA.length:Int) - 1))))).a (rd v5 (0+(tn v7))).a)))) (pp (fl v5 (pp (xF (Xh (Zz aA) (0+(tn (wr ((aA.length:Int) - 1)))) 1 [(ii (rd v5 (0+(tn v7))).a)])) nn)) (ww k6 (ww dL (ww cD (tt k4 (ww dL (ww cD (tt k3 (tt k2 (tt k1 (ww bE (ww aE (tt k0 nn)))))))))))))))))) (fun k6=>trivial))))) (fun k4=>(lo fun cZ=>(lb (fun k5=>(sl z0l 81 [] ⟨[0,1,2,3,4,5,6,7,12],[],y5e,y5f⟩ ⟨[],(kpB 6 [.cells [.len (Um aA aW v5 v7).length],.keep,.rowed 2 (Um aA aW v5 v7).length (Zz (Um aA aW v5 v7))]),[]⟩ (bl 17 8161) (pp (xL (aA.length+1) (Um aA aW v5 v7).length) (pp (xL (aA.length+1) (Um aA aW v5 v7).length) (pp (xS (aA.length+1) (y1m aA aW v5 v7) (Zz (Um aA aW v5 v7))) (pp (fl v5 (pp (xF (y1m aA aW v5 v7)) nn)) (ww k5 (ww cZ (tt k4 (ww dL (ww cD (tt k3 (tt k2 (tt k1 (ww bE (ww aE (tt k0 nn))))))))))))))))) (fun k5=>(lb (fun k6=>(sl z0l 81 [] ⟨[0,1,2,3,4,5,6,7,12],[],y5e,y5f⟩ ⟨[],(kpB 6 [.cells [.len (Um aA aW v5 v7).length],.keep,.rowed 2 (Um aA aW v5 v7).length (Zz (Um aA aW v5 v7))]),[]⟩ (bl 19 90081) (pp (xL (aA.length+1) (Um aA aW v5 v7).length) (pp (xL (aA.length+1) (Um aA aW v5 v7).length) (pp (xS (aA.length+1) (y1m aA aW v5 v7) (Zz (Um aA aW v5 v7))) (pp (fl v5 (pp (xF (y1m aA aW v5 v7)) nn)) (ww k6 (ww cZ (tt k4 (ww dL (ww cD (tt k3 (tt k2 (tt k1 (ww bE (ww aE (tt k0 nn))))))))))))))))) (fun k6=>trivial)))))))))) (fun k3=>(lo fun cD=>(lb (fun k4=>(sl z0l 81 [] ⟨[0,1,2,3,4,5,6,7,12],[],y5e,y5f⟩ ⟨[],(kpB 6 [.cells [.len (Um aA aW v5 v7).length],.keep,.rowed 2 (Um aA aW v5 v7).length (Zz (Um aA aW v5 v7))]),[]⟩ (bl 17 1) (pp (xL (aA.length+1) (Um aA aW v5 v7).length) (pp (xL (aA.length+1) (Um aA aW v5 v7).length) (pp (xS (aA.length+1) (y1m aA aW v5 v7) (Zz (Um aA aW v5 v7))) (pp (fl v5 (pp (xF (y1m aA aW v5 v7)) nn)) (ww k4 (ww cD (tt k3 (tt k2 (tt k1 (ww bE (ww aE (tt k0 nn)))))))))))))) (fun k4=>(lb (fun k5=>(sl z0l 81 [] ⟨[0,1,2,3,4,5,6,7,12],[],y5e,y5f⟩ ⟨[],(kpB 6 [.cells [.len (Um aA aW v5 v7).length],.keep,.rowed 2 (Um aA aW v5 v7).length (Zz (Um aA aW v5 v7))]),[]⟩ (bl 19 81921) (pp (xL (aA.length+1) (Um aA aW v5 v7).length) (pp (xL (aA.length+1) (Um aA aW v5 v7).length) (pp (xS (aA.length+1) (y1m aA aW v5 v7) (Zz (Um aA aW v5 v7))) (pp (fl v5 (pp (xF (y1m aA aW v5 v7)) nn)) (ww k5 (ww cD (tt k3 (tt k2 (tt k1 (ww bE (ww aE (tt k0 nn)))))))))))))) (fun k5=>trivial)))))))))))))) (fun k0=>(lr 11 3 [1,1,1,1,0] 1 14 [(2,(.dat aA.length (Zz aA))),(3,(ii 0))] (sl z0l 19 [] ⟨[],[8],[some [2,3]],[]⟩ ⟨[(2,.frz aA.length aA.length (Zz aA) (Zz aA))],[],[]⟩ [false] (pp (xZ (z7j 2 2 0 aA.length aA.length (Zz aA)) aA.length (Zz aA)) (pp (xL aA.length aA.length) (pp (xS aA.length (Zz aA) (Zz aA)) (pp (fl aA nn) (tt k0 nn)))))))))
theorem x7r (l0:List R2):Xu prog (Zy prog 156) (spmC l0) (Za prog 156 [(.dat l0.length (Zz l0))] true []) (y2w l0):=(lb (fun k0=>(lr 11 156 [1,0,1,0,0] 1 14 [(2,.nils),(3,(ii 4))] (sl z0l 18 [] ⟨[],[],[some [2,3]],[]⟩ ⟨[],[],[]⟩ [true] (tt k0 nn)))) (fun k0=>(sl z0l 41 [] ⟨[],[],spmN0,spmM0⟩ ⟨[],[],[]⟩ [false] (tt k0 nn))))
theorem v9e (l0:List R2) (n:Nat) (vs:List AVal) (h:Yx (Us l0) n (y2w l0)=.ret vs):Ur prog (Zy prog 156) (Za prog 156 [(.dat l0.length (Zz l0))] true []) vs:=by have:=Zc (w6m l0) n _ (x7r l0);rwa [h] at this
def z1e (s:R2):Bool:=decide (s.a<s.b)&&(decide (s.a≥ -1000000)&&decide (s.b≤1000000))
def Qe (l:List R2):List R3:=l.flatMap fun s=>[⟨s.a,0,1⟩,⟨s.b,0,-1⟩]
def Uy (out:List R2) (last:Int) (inn:Bool) (at':Int):List R2:=
 bif !inn then out else bif last == at' then out else
 bif decide (0<out.length)&&((rd out (out.length - 1)).b == last) then out.set (out.length - 1) ⟨(rd out (out.length - 1)).a,at'⟩ else out++[⟨last,at'⟩]
def swF :List R3→Int→Int→Bool→List R2→List R2
 | [],_,_,_,out=>out
 | e::r,o,last,inn,out=>swF r (o+e.c) e.a (decide (o+e.c>0)) (Uy out last inn e.a)
def swV (l:List R2):List R2:=swF (z1y (Qe l)) 0 0 false []
def Xc (l:List R2):List R2:=bif decide (400<l.length) then [] else bif l.all z1e then swV l else []
def u5q (l:List R2):Int:=bif decide (400<l.length) then 4 else bif l.all z1e then 0 else 8
def y5d (l:List R2):Bool:=true
def x4g (l:List R2):List AVal:=bif decide (400<l.length) then [.nils,.int .i64 4] else bif l.all z1e then [.dat (swV l).length (Zz (swV l)),.int .i64 0] else [.nils,.int .i64 8]
theorem z5a (l:List R2):(Qe l).length =2*l.length:=by
 induction l with
 | nil=>rfl
 | cons r l ih=>grind [Qe]
theorem z3p (out:List R2) (last:Int) (inn:Bool) (a:Int):(Uy out last inn a).length ≤out.length+1:=by
 grind [Uy]
theorem y2t (e:R3) (r:List R3) (o last:Int) (inn:Bool) (out:List R2):swF (e::r) o last inn out=swF r (o+e.c) e.a (decide (o+e.c>0)) (Uy out last inn e.a):=rfl
theorem j3x {a:Int} (k:Nat) (h:a=(k:Int)):decide (a=Int.ofNat k)=true:=by grind
section
variable (l:List R2) (hl:l.length≤400)
include hl
theorem u5m (L:List R3) (hL:L.length≤800) (hE: ∀i,i<L.length→(rd L i).b =0∧((rd L i).c =1∨(rd L i).c = -1)): ∀(k i:Nat) (o last:Int) (inn:Bool) (out:List R2),i+k=L.length→ -(i:Int)≤o→o≤i→out.length≤i→
  ∃n,Yx (Us l) n (.to (.h2 L (L.length:Int) (i:Int) o 0 last inn out))=.ret [.dat (swF (L.drop i) o last inn out).length (Zz (swF (L.drop i) o last inn out)),.int .i64 0]
 | 0,i,o,last,inn,out,h,ho1,ho2,hout=>by
  have _uhl:=hl;refine ⟨1,?_⟩
  grind [Zw,Us,Zp,swF]
 | k +1,i,o,last,inn,out,h,ho1,ho2,hout=>by
  obtain ⟨hb,hc⟩:=hE i (by omega);have hcl:=z3p out last inn (rd L i).a;obtain ⟨n,hn⟩:=u5m L hL hE k (i+1) (o+(rd L i).c) (rd L i).a (decide (o+(rd L i).c >0)) (Uy out last inn (rd L i).a) (by omega) (by grind) (by grind) (by omega);refine ⟨n+1,?_⟩;rw [Yq (show i<L.length by omega),Zw];have hf: ∀b,w5f b (decide ((0:Int)>0))=b:=fun b=>rfl;have hw:wrap .i64 (o+(rd L i).c)=o+(rd L i).c :=Zk (by grind);rw [y2t];have hf': ∀b,w5f b false=b:=fun b=>rfl;have hz:=j3x 0 hb;unfold Uy at hn ⊢;cases inn with
  | false=>simp only [AA,Ae] at hn ⊢;simp (disch:=omega) only [Us,AA,hz,hw,hf,hf',Zs,Zt,Yw,Zk,Zx,Zj,Af,Ah,Ae];exact hn
  | true=>
   simp only [Av,Ac] at hn ⊢;rcases Yk (last == (rd L i).a) with q | q
   ·rw [q] at hn ⊢;simp only [Ae] at hn ⊢;simp (disch:=omega) only [Us,Av,q,hz,hw,hf,hf',Zs,Zt,Yw,Zk,Zx,Zj,Af,Ah,Ae,Ac];exact hn
   ·rw [q] at hn ⊢;simp only [Ac] at hn ⊢;by_cases h0:0<out.length
    ·rw [An h0,Ak] at hn ⊢;rcases Yk ((rd out (out.length - 1)).b == last) with q2 | q2
     ·rw [q2] at hn ⊢;simp only [Ae] at hn ⊢;simp (disch:=omega) only [Us,Av,q,q2,hz,hw,hf,hf',Zs,Xy,Zt,Yw,Zk,Zx,Zj,Zh,Af,Ah,Ae,Ac];exact hn
     ·rw [q2] at hn ⊢;simp only [Ac] at hn ⊢;simp (disch:=omega) only [Us,Av,q,q2,hz,hw,hf,hf',Zs,Xy,Zt,Yw,Yu,Zf,Yc,Ao,Zk,Zx,Zj,Zh,Af,Ah,Ak,Ae,Ac];exact hn
    ·rw [Ay h0,Be] at hn ⊢;simp only [Ac] at hn ⊢;simp (disch:=omega) only [Us,Av,q,hz,hw,hf,hf',Zs,Xt,Zt,Yw,Yu,Zf,Yc,Ao,Zk,Zx,Zj,Af,Ah,Ak,Ae,Ac];exact hn
theorem v6y (h:l.all z1e=true): ∀e∈Qe l,bnd3 e=true∧e.b=0∧(e.c=1∨e.c= -1):=by
 have _uhl:=hl;intro e he;obtain ⟨s,hs,h1⟩:=AJ.1 he;have hv:=At.1 h s hs;simp only [z1e,Ad,Ar] at hv;simp only [AG,Bi,BR] at h1;rcases h1 with rfl | rfl
 ·exact ⟨An (by grind),rfl,.inl rfl⟩
 ·exact ⟨An (by grind),rfl,.inr rfl⟩
theorem u5n (hv:l.all z1e=true): ∀(k i:Nat) (acc:List R3),i+k=l.length→acc=Qe (l.take i)→ ∃n,Yx (Us l) n (.to (.h1 acc (i:Int)))=.ret [.dat (swV l).length (Zz (swV l)),.int .i64 0]
 | 0,i,acc,h,ha=>by
  have e:acc=Qe l:=by grind
  subst e;have hle:=z5a l;have fB:=v6y l hl hv;have hb:y2j (Qe l)=true:=At.2 fun e he=>(fB e he).1;obtain ⟨hp,_⟩:=Qq (Qe l) hb;have hpl:=hp.length_eq;obtain ⟨n,hn⟩:=u5m l hl (z1y (Qe l)) (by omega) (fun i hi=>by
   grind [Yo]) (z1y (Qe l)).length 0 0 0 false [] (Af _) (by omega) (by omega) (AB _)
  refine ⟨n+1,?_⟩;rw [Zw];simp (disch:=omega) only [Us,Zd,Zq,hb,Yf,Yw,Yu,Ao,Ae,Ac];rw [←hpl];simp only [z7e,AT] at hn;exact hn
 | k+1,i,acc,h,ha=>by
  have hle:=z5a (l.take i);have hacc:acc.length≤2*i:=by grind
  obtain ⟨n,hn⟩:=u5n hv k (i+1) (acc++Qe [rd l i]) (by omega) (by
   rw [ha,A2]
   grind [Yo,Qe])
  refine ⟨n+1,?_⟩;rw [Zw];simp (disch:=omega) only [Us,Zs,Zt,Yb,Yu,Zf,Yc,Ao,Zk,Zx,Zj,Af,Ah,Ak,Ae];exact hn
theorem u5o : ∀(k i:Nat),i+k=l.length→(∀s∈l.take i,z1e s=true)→ ∃n,Yx (Us l) n (.to (.h0 (i:Int)))=.ret (bif l.all z1e then [.dat (swV l).length (Zz (swV l)),.int .i64 0] else [.nils,.int .i64 8])
 | 0,i,h,ht=>by
  have hv:l.all z1e=true:=At.2 fun s hs=>ht s (by grind);obtain ⟨n,hn⟩:=u5n l hl hv l.length 0 [] (Af _) rfl;refine ⟨n+1,?_⟩
  grind [Zw,Us]
 | k+1,i,h,ht=>by
  have hi:i<l.length:=by omega
  rcases Yk (z1e (rd l i)) with q | q
  ·obtain ⟨n,hn⟩:=u5o k (i+1) (by omega) (fun s hs=>by
    rw [A2] at hs
    grind [Yo])
   refine ⟨n+1,?_⟩
   grind [Zw,z1e,Us,Zk]
  ·have hv:l.all z1e=false:=A1.2 fun e=>by
    grind [Yo]
   refine ⟨1,?_⟩;rw [Zw,hv,Ac];unfold z1e at q;rcases Yk (decide ((rd l i).a <(rd l i).b)) with q1 | q1 <;> rcases Yk (decide ((rd l i).a ≥ -1000000)) with q2 | q2 <;> rcases Yk (decide ((rd l i).b ≤1000000)) with q3 | q3 <;>
    rw [q1,q2,q3] at q <;> first
    | (exfalso;revert q;decide)
    | simp (disch:=omega) only [Us,q1,q2,q3,Zs,dge_t,Zt,Zk,Zx,Zj,Av,AA,Ah,Ae,Ac,Zp]
end
theorem j1b (l:List R2): ∃n,Yx (Us l) n (y2w l)=.ret (x4g l):=by
 unfold y2w x4g;by_cases h:400<l.length
 ·refine ⟨0,?_⟩;rw [An h,Xy (show (l.length:Int)>400 by omega)];rfl
 ·obtain ⟨n,hn⟩:=u5o l (by omega) l.length 0 (Af _) (fun s hs=>by simp at hs)
  grind
def fSpm :List AVal→Option (AVal×Bool)
 | [a1]=>match asL R2 a1 with
  | some (L1,g1,n1)=>some (.tup [.dat (Xc L1).length (Zz (Xc L1)),.int .i64 (u5q L1)],isT R2 n1 g1&&y5d L1)
  | _=>none
 | _=>none
theorem j5n {S:Specs} (hS:Zu prog S):Zu prog (S.with x5f fSpm):=by
 refine v6j hS (by kernel_rfl) fun args v h=> ?_;unfold fSpm at h;split at h
 ·rename_i a1;split at h
  ·rename_i L1 g1 n1 e1;simp only [Ab,Aa,Ad] at h;obtain ⟨rfl,ho1,hw⟩:=h;obtain ⟨N,hN⟩:=j1b L1;refine ⟨_,x4g L1,(.cons (Yi e1 ho1) .nil),?_,v9e L1 N _ hN,3,?_⟩
   ·unfold Xc u5q x4g;cases decide (400<L1.length) <;> simp only [Ae,Ac]
    ·cases L1.all z1e <;> simp only [Ae,Ac]
     ·exact fun ρ u hu=>y4w (.cons (z6u R2) (RLe.refl _)) ρ u hu
     ·exact fun ρ u hu=>hu
    ·exact fun ρ u hu=>y4w (.cons (z6u R2) (RLe.refl _)) ρ u hu
   ·unfold x4g;cases decide (400<L1.length) <;> simp only [Ae,Ac]
    ·cases L1.all z1e <;> rfl
    ·rfl
  ·cases h
 ·cases h
def T6 :Specs:=T5.with x5f fSpm
theorem Kb :Zu prog T6:=j5n z0l
theorem y0y {γ:Type} (a b:Bool) (x y:γ):(bif a&&b then x else y)=bif a then (bif b then x else y) else y:=by grind
theorem y7d {γ:Type} (a:Bool) (x y:γ):(bif !a then x else y)=bif a then y else x:=by grind
structure Dim (α β:Type) where
 lo:α→Int
 hi:α→Int
 pr:α→β
 put:Int→Int→β→α
 ext:Int→α→α
 mak:List β→List β
 same:List β→List β→Bool
structure Sw (α β:Type) where
 out:List α
 last:List β
 first:Nat
 fin:Int
def Je (zs:List Int):List Int:=compact (Xa zs)
theorem y0w (zs:List Int):v7q (Xa zs)=(Je zs).length :=rfl
theorem Vm (zs:List Int):(Xa zs).length =zs.length:=List.length_mergeSort zs
theorem x3g (zs:List Int):(Je zs).length ≤zs.length:=by have:=compact_length_le (Xa zs);rw [Vm] at this;exact this
theorem z5z (zs:List Int) (i:Nat) (h:i<(Je zs).length):rd (Wn (Xa zs)) i=rd (Je zs) i:=by
 change i<(compact (Xa zs)).length at h;show rd (compact (Xa zs)++_) i=rd (compact (Xa zs)) i
 grind [Yo]
theorem z0n (zs:List Int):Yd zs.length (cOf (Zz (Xa zs)))=Xa zs:=by
 grind [Jo,Vm]
namespace Dim
variable {α β:Type} (D:Dim α β) (l:List α)
def ends :List Int:=l.flatMap fun r=>[D.lo r,D.hi r]
def cuts :List Int:=Je (D.ends l)
def inn (x:Int):List β:=(l.filter fun r=>decide (D.lo r≤x)&&decide (x<D.hi r)).map D.pr
def sec (x:Int):List β:=D.mak (D.inn l x)
def grow (out:List α) (k:Nat) (x:Int):List α:=out.take k++(out.drop k).map (D.ext x)
def one (x x':Int) (s:Sw α β):Sw α β:=
 bif decide (0<(D.sec l x).length)&&((s.fin == x)&&D.same s.last (D.sec l x)) then ⟨D.grow s.out s.first x',s.last,s.first,x'⟩
 else ⟨s.out++(D.sec l x).map (D.put x x'),D.sec l x,s.out.length,x'⟩
def go :Nat→Nat→Sw α β→Sw α β
 | 0,_,s=>s
 | k+1,i,s=>go k (i+1) (D.one l (rd (D.cuts l) i) (rd (D.cuts l) (i+1)) s)
def out :List α:=(D.go l ((D.cuts l).length - 1) 0 ⟨[],[],0,0⟩).out
theorem ends_length :(D.ends l).length =2*l.length:=by
 induction l with
 | nil=>rfl
 | cons r l ih=>show (_::_::D.ends l).length =_;grind
theorem cuts_length :(D.cuts l).length ≤2*l.length:=by have:=x3g (D.ends l);rw [D.ends_length] at this;exact this
theorem ends_append (m:List α):D.ends (l++m)=D.ends l++D.ends m:=by simp [ends]
theorem inn_append (m:List α) (x:Int):D.inn (l++m) x=D.inn l x++D.inn m x:=by simp [inn]
theorem inn_length (x:Int):(D.inn l x).length ≤l.length:=by grind [inn]
theorem inn_t (r:α) (x:Int) (h1:D.lo r≤x) (h2:x<D.hi r):D.inn [r] x=[D.pr r]:=by simp [inn,h1,h2]
theorem inn_f1 (r:α) (x:Int) (h1: ¬D.lo r≤x):D.inn [r] x=[]:=by simp [inn,h1]
theorem inn_f2 (r:α) (x:Int) (h1: ¬x<D.hi r):D.inn [r] x=[]:=by simp [inn,h1]
theorem grow_nil (out:List α) (k:Nat) (x:Int) (h:out.length≤k):D.grow out k x=out:=by unfold grow;rw [As h,By,AF,A9 h]
theorem grow_length (out:List α) (k:Nat) (x:Int):(D.grow out k x).length =out.length:=by unfold grow;simp;omega
theorem grow_set [Xk α] (out:List α) (j:Nat) (x:Int) (h:j<out.length):D.grow (out.set j (D.ext x (rd out j))) (j+1) x=D.grow out j x:=by
 unfold grow;rw [Yq h,AU];have e1:(out.set j (D.ext x (rd out j))).take (j+1)=out.take j++[D.ext x (rd out j)]:=by
  apply BF;all_goals grind
 have e2:(out.set j (D.ext x (rd out j))).drop (j+1)=out.drop (j+1):=by rw [List.drop_set];grind
 grind
theorem one_length (x x':Int) (s:Sw α β):(D.one l x x' s).out.length ≤s.out.length+(D.sec l x).length :=by
 grind [one,grow_length]
end Dim
open Go.Proofs.Tryz
open Go.Proofs
inductive vl4S where
def vl4C (aH:Int) (aO:Int) (aN:Int) (aT:Int):vl4S→Cfg
 :=nofun
def x7b (aH:Int) (aO:Int) (aN:Int) (aT:Int):vl4S→Xw vl4S
 :=nofun
def y2r (aH:Int) (aO:Int) (aN:Int) (aT:Int):Xw vl4S:=(bif (decide (aH<aN)) then (bif (decide (aO<aT)) then (bif (decide (aH≥(-1000000))) then (bif (decide (aH≤1000000)) then (bif (decide (aN≥(-1000000))) then (bif (decide (aN≤1000000)) then (bif (decide (aO≥(-1000000))) then (bif (decide (aO≤1000000)) then (bif (decide (aT≥(-1000000))) then (.ret [(.bool (decide (aT≤1000000)))]) else (.ret [(.bool false)])) else (.ret [(.bool false)])) else (.ret [(.bool false)])) else (.ret [(.bool false)])) else (.ret [(.bool false)])) else (.ret [(.bool false)])) else (.ret [(.bool false)])) else (.ret [(.bool false)])) else (.ret [(.bool false)]))
theorem w5z (aH:Int) (aO:Int) (aN:Int) (aT:Int): ∀s,Xu prog (Zy prog 116) (vl4C aH aO aN aT) (vl4C aH aO aN aT s) (x7b aH aO aN aT s)
 :=nofun
theorem x7c (aH:Int) (aO:Int) (aN:Int) (aT:Int):Xu prog (Zy prog 116) (vl4C aH aO aN aT) (Za prog 116 [(.agg [(.int .i64 aH),(.int .i64 aO),(.int .i64 aN),(.int .i64 aT)])] true []) (y2r aH aO aN aT):=(lb (fun k0=>(lb (fun k1=>(lb (fun k2=>(lb (fun k3=>(lb (fun k4=>(lb (fun k5=>(lb (fun k6=>(lb (fun k7=>(lb (fun k8=>(lr 35 3 [1,1,1,1,0] 1 9 [(2,(.bool (decide (aT≤1000000))))] (sl Kb 101 [] ⟨[],[],[some [2]],[]⟩ ⟨[],[],[]⟩ (trs 25 []) (tt k8 (tt k7 (tt k6 (tt k5 (tt k4 (tt k3 (tt k2 (tt k1 (tt k0 nn)))))))))))) (fun k8=>(lr 35 3 [1,1,1,1,0] 1 9 [(2,(.bool false))] (sl Kb 101 [] ⟨[],[],[some [2]],[]⟩ ⟨[],[],[]⟩ (trs 23 [false,false]) (tt k8 (tt k7 (tt k6 (tt k5 (tt k4 (tt k3 (tt k2 (tt k1 (tt k0 nn)))))))))))))) (fun k7=>(lr 35 3 [1,1,1,1,0] 1 9 [(2,(.bool false))] (sl Kb 86 [] ⟨[],[],[some [2]],[]⟩ ⟨[],[],[]⟩ (trs 20 [false,false,false]) (tt k7 (tt k6 (tt k5 (tt k4 (tt k3 (tt k2 (tt k1 (tt k0 nn))))))))))))) (fun k6=>(lr 35 3 [1,1,1,1,0] 1 9 [(2,(.bool false))] (sl Kb 86 [] ⟨[],[],[some [2]],[]⟩ ⟨[],[],[]⟩ (trs 18 [false,false,false,false,false]) (tt k6 (tt k5 (tt k4 (tt k3 (tt k2 (tt k1 (tt k0 nn)))))))))))) (fun k5=>(lr 35 3 [1,1,1,1,0] 1 9 [(2,(.bool false))] (sl Kb 71 [] ⟨[],[],[some [2]],[]⟩ ⟨[],[],[]⟩ (trs 15 [false,false,false,false,false,false]) (tt k5 (tt k4 (tt k3 (tt k2 (tt k1 (tt k0 nn))))))))))) (fun k4=>(lr 35 3 [1,1,1,1,0] 1 9 [(2,(.bool false))] (sl Kb 71 [] ⟨[],[],[some [2]],[]⟩ ⟨[],[],[]⟩ (trs 13 [false,false,false,false,false,false,false,false]) (tt k4 (tt k3 (tt k2 (tt k1 (tt k0 nn)))))))))) (fun k3=>(lr 35 3 [1,1,1,1,0] 1 9 [(2,(.bool false))] (sl Kb 56 [] ⟨[],[],[some [2]],[]⟩ ⟨[],[],[]⟩ (trs 10 [false,false,false,false,false,false,false,false,false]) (tt k3 (tt k2 (tt k1 (tt k0 nn))))))))) (fun k2=>(lr 35 3 [1,1,1,1,0] 1 9 [(2,(.bool false))] (sl Kb 56 [] ⟨[],[],[some [2]],[]⟩ ⟨[],[],[]⟩ (trs 8 [false,false,false,false,false,false,false,false,false,false,false]) (tt k2 (tt k1 (tt k0 nn)))))))) (fun k1=>(lr 35 3 [1,1,1,1,0] 1 9 [(2,(.bool false))] (sl Kb 41 [] ⟨[],[],[some [2]],[]⟩ ⟨[],[],[]⟩ (trs 5 [false,false,false,false,false,false,false,false,false,false,false,false]) (tt k1 (tt k0 nn))))))) (fun k0=>(lr 35 3 [1,1,1,1,0] 1 9 [(2,(.bool false))] (sl Kb 41 [] ⟨[],[],[some [2]],[]⟩ ⟨[],[],[]⟩ [false,false,false,false,false,false,false,false,false,false,false,false,false,false,false,false,false] (tt k0 nn)))))
theorem v8u (aH:Int) (aO:Int) (aN:Int) (aT:Int) (n:Nat) (vs:List AVal) (h:Yx (x7b aH aO aN aT) n (y2r aH aO aN aT)=.ret vs):Ur prog (Zy prog 116) (Za prog 116 [(.agg [(.int .i64 aH),(.int .i64 aO),(.int .i64 aN),(.int .i64 aT)])] true []) vs:=by have:=Zc (w5z aH aO aN aT) n _ (x7c aH aO aN aT);rwa [h] at this
inductive madS where
 | h0 (v16:Int) (aC:List Int)
 | h1 (v4:Int) (bK:List R4) (cJ:List R2) (cO:Int) (cP:Int) (bI:Nat) (bL:List Int)
 | h2 (v4:Int) (v38:Int) (bK:List R4) (cJ:List R2) (cO:Int) (cP:Int) (bI:Nat) (bL:List Int) (aA:Int) (cX:Int) (aM:List R2)
 | h3 (v1:Int) (v2:Int) (v71:List R2) (v72:Int) (v73:Int) (cG:List R2) (bD:Int) (aD:List R4) (bJ:List R2) (bF:Int) (bI:Nat) (bL:List Int) (aA:List R2)
 | h4 (v2:Int) (v8:Int) (dC:Int) (cG:List R2) (bD:Int) (aD:List R4) (bJ:List R2) (bF:Int) (bT:Int) (cQ:Nat) (dB:List Int) (aM:List R2)
abbrev x0e (aD:List R4) (v8:Int) (v2:Int):=(aD.set (0+(tn v8)) (R4.mk (rd aD (0+(tn v8))).a (rd aD (0+(tn v8))).b v2 (rd aD (0+(tn v8))).d))
abbrev x0d (aC:List Int):=(Wn (Yd aC.length (cOf (Zz (Xa (Yd aC.length (cOf (Zz aC))))))))
def u9l :AFr:=⟨⟨29,0,true⟩,none,(.inRangeFunc 0::(Zb prog 117 [1,1,0,1,0] 1)),none,(Zy prog 14),Yg [(2,.nils),(3,(ii 0)),(4,(.ptr 1 0))]⟩
def u9k :=(y4a [(0,⟨.ready,none,29,Yg [(4,(.ptr 1 0))],[11],(Wo prog 117 [1,1,0,1,0,0]),(Wo prog 117 [1,1,0,1,0,1])⟩)])
abbrev x0c (aM:List R2) (l0:List R4) (v38:Int):=(aM++[(R2.mk (rd l0 (tn v38)).b (rd l0 (tn v38)).d)])
abbrev x0b (aD:List R4) (v1:Int) (v71:List R2) (v73:Int) (v2:Int):=(aD++[(R4.mk v1 (rd v71 (tn v73)).a v2 (rd v71 (tn v73)).b)])
def x5h (l0:List R4):ABlk:=⟨[(.dat l0.length (Zz l0))],80,none⟩
abbrev x0a (aC:List Int) (l0:List R4) (v16:Int):=(aC++[(rd l0 (tn v16)).a,(rd l0 (tn v16)).c])
def madC (l0:List R4):madS→Cfg
 | .h0 v16 aC=>⟨⟨34,0,true⟩,none,(Zb prog 155 [1,1,0,1,0,0,1,1,0,0,1,1,0,0] 0),none,(Zy prog 9),⟨Yg [(1,(.ptr 0 0)),(3,(.ptr 2 0)),(8,(.sl 1 0 1 (.un 1))),(9,(ii 1)),(10,(ii 0)),(14,(.dat l0.length (Zz l0))),(15,(ii (l0.length:Int))),(16,(ii v16))],Wt [⟨[(.sl 1 0 1 (.un 1))],182,none⟩,(x5h l0),⟨[(.sla 4 1 0 aC.length (.un 1))],125,none⟩,⟨[.nils,.nils,(ii 0),(ii 0)],157,none⟩,⟨Ym aC.length (Zz aC),3,some ⟨1,aC.length,(Zz aC)⟩⟩] 0,5,[],true⟩,[⟨⟨29,0,true⟩,(Vj prog 117 [1,1,0,0] 2),(Zb prog 117 [1,1,0,0] 1),none,(Zy prog 14),Yg [(2,.nils),(3,(ii 0)),(4,(.ptr 3 0)),(9,(.sl 1 0 1 (.un 1)))]⟩],.leaf⟩
 | .h1 v4 bK cJ cO cP bI bL=>⟨⟨76,0,true⟩,none,(Zb prog 176 [1,0,0] 0),none,[],⟨Yg [(0,(.yld 0)),(1,(.ptr 2 0)),(2,(.ptr 4 0)),(4,(ii v4))],z7i [(1,⟨[(.sla 6 4 0 bK.length (.un 4)),(.dat cJ.length (Zz cJ)),(ii cO),(ii cP)],157,none⟩),(2,⟨[(.sla 3 1 0 bI (.un 1))],125,none⟩),(3,⟨Ym bL.length (Zz bL),3,some ⟨1,bL.length,(Zz bL)⟩⟩),(4,⟨[(.sl 5 0 1 (.un 1))],182,none⟩),(5,(x5h l0)),(6,⟨Ym bK.length (Zz bK),116,some ⟨4,bK.length,(Zz bK)⟩⟩)],7,[],true⟩,[u9l],u9k⟩
 | .h2 v4 v38 bK cJ cO cP bI bL aA cX aM=>⟨⟨76,0,true⟩,none,(Zb prog 176 [1,0,0,1,0,0,1,0,1,0,0,1,1,0,0,1,1,0,0] 0),none,[],⟨Yg [(0,(.yld 0)),(1,(.ptr 2 0)),(2,(.ptr 4 0)),(4,(ii v4)),(5,(.ptr 6 0)),(6,(ii 0)),(29,(.sl 5 0 1 (.un 1))),(30,(ii 1)),(31,(ii 0)),(36,(.dat l0.length (Zz l0))),(37,(ii (l0.length:Int))),(38,(ii v38))],z7i [(1,⟨[(.sla 9 4 0 bK.length (.un 4)),(.dat cJ.length (Zz cJ)),(ii cO),(ii cP)],157,none⟩),(2,⟨[(.sla 3 1 0 bI (.un 1))],125,none⟩),(3,⟨Ym bL.length (Zz bL),3,some ⟨1,bL.length,(Zz bL)⟩⟩),(4,⟨[(.sl 5 0 1 (.un 1))],182,none⟩),(5,(x5h l0)),(6,⟨[(ii aA),(ii cX),(.sl 7 0 1 (.ex 1))],162,none⟩),(7,⟨[(.sla 8 2 0 aM.length (.un 2))],155,none⟩),(8,⟨Ym aM.length (Zz aM),176,some ⟨2,aM.length,(Zz aM)⟩⟩),(9,⟨Ym bK.length (Zz bK),116,some ⟨4,bK.length,(Zz bK)⟩⟩)],10,[],true⟩,[u9l],u9k⟩
 | .h3 v1 v2 v71 v72 v73 cG bD aD bJ bF bI bL aA=>⟨⟨94,0,true⟩,none,(Zb prog 120 [1,1,1,0,0] 0),none,[],⟨Yg [(0,(.ptr 0 0)),(1,(ii v1)),(2,(ii v2)),(71,(.dat v71.length (Zz v71))),(72,(ii v72)),(73,(ii v73))],z7i [(0,⟨[(.sla 7 4 0 aD.length (.un 4)),(.dat bJ.length (Zz bJ)),(ii bF),(ii v2)],157,none⟩),(2,⟨[(.sla 3 1 0 bI (.un 1))],125,none⟩),(3,⟨Ym bL.length (Zz bL),3,some ⟨1,bL.length,(Zz bL)⟩⟩),(4,⟨[(.sl 5 0 1 (.un 1))],182,none⟩),(5,(x5h l0)),(6,⟨[(.dat aA.length (Zz aA))],155,none⟩),(7,⟨Ym aD.length (Zz aD),116,some ⟨4,aD.length,(Zz aD)⟩⟩)],8,[],true⟩,[⟨⟨29,0,true⟩,(Vj prog 117 [1,1,0,1,0,1,0,1] 5),(Zb prog 117 [1,1,0,1,0,1,0,1] 1),(some 1),[],Yg [(4,(.ptr 0 0)),(21,(ii v1)),(23,(ii v2)),(24,(.dat cG.length (Zz cG)))]⟩,⟨⟨76,0,true⟩,(Vj prog 176 [1,0,0,1,0,0,1,1,0] 2),(Zb prog 176 [1,0,0,1,0,0,1,1,0] 1),none,[],Yg [(0,(.yld 1)),(1,(.ptr 2 0)),(2,(.ptr 4 0)),(4,(ii bD)),(72,(.yld 1)),(73,(.agg [(ii v1),(ii v2),(.sl 6 0 1 (.ex 1))]))]⟩,⟨⟨29,0,true⟩,none,(.inRangeFunc 1::(Zb prog 117 [1,1,0,1,0] 1)),none,(Zy prog 14),Yg [(2,.nils),(3,(ii 0)),(4,(.ptr 0 0))]⟩],(y4a [(1,⟨.busy,none,29,Yg [(4,(.ptr 0 0))],[11],(Wo prog 117 [1,1,0,1,0,0]),(Wo prog 117 [1,1,0,1,0,1])⟩)])⟩
 | .h4 v2 v8 dC cG bD aD bJ bF bT cQ dB aM=>⟨⟨94,0,true⟩,none,(Zb prog 120 [0,1,0,0,1,0,0] 0),none,[],⟨Yg [(0,(.ptr 0 0)),(2,(ii v2)),(8,(ii v8))],z7i [(0,⟨[(.sla 1 4 0 aD.length (.un 4)),(.dat bJ.length (Zz bJ)),(ii bF),(ii bT)],157,none⟩),(1,⟨Ym aD.length (Zz aD),116,some ⟨4,aD.length,(Zz aD)⟩⟩),(3,⟨[(.sla 4 1 0 cQ (.un 1))],125,none⟩),(4,⟨Ym dB.length (Zz dB),3,some ⟨1,dB.length,(Zz dB)⟩⟩),(5,⟨[(.sl 6 0 1 (.un 1))],182,none⟩),(6,(x5h l0)),(7,⟨[(.dat aM.length (Zz aM))],155,none⟩)],8,[],true⟩,[⟨⟨29,0,true⟩,(Vj prog 117 [1,1,0,1,0,1,0,1] 5),(Zb prog 117 [1,1,0,1,0,1,0,1] 1),(some 2),[],Yg [(4,(.ptr 0 0)),(21,(ii dC)),(23,(ii v2)),(24,(.dat cG.length (Zz cG)))]⟩,⟨⟨76,0,true⟩,(Vj prog 176 [1,0,0,1,0,0,1,1,0] 2),(Zb prog 176 [1,0,0,1,0,0,1,1,0] 1),none,[],Yg [(0,(.yld 2)),(1,(.ptr 3 0)),(2,(.ptr 5 0)),(4,(ii bD)),(72,(.yld 2)),(73,(.agg [(ii dC),(ii v2),(.sl 7 0 1 (.ex 1))]))]⟩,⟨⟨29,0,true⟩,none,(.inRangeFunc 2::(Zb prog 117 [1,1,0,1,0] 1)),none,(Zy prog 14),Yg [(2,.nils),(3,(ii 0)),(4,(.ptr 0 0))]⟩],(y4a [(2,⟨.busy,none,29,Yg [(4,(.ptr 0 0))],[11],(Wo prog 117 [1,1,0,1,0,0]),(Wo prog 117 [1,1,0,1,0,1])⟩)])⟩
def madN0 :List (Option (List Nat)):=[some [1,3,8,9,10,14,15,16],some [2,3,4,9]]
def madM0 :List (Option (List Nat)):=[]
def j4h :List (Option (List Nat)):=[some [0,1,2,4],some [2,3,4]]
def j4i :List (Option (List Nat)):=[some [4],none,none,none,none,none,none]
def u2u :List (Option (List Nat)):=[some [0,1,2,4,5,6,29,30,31,36,37,38],some [2,3,4]]
def u2w :List (Option (List Nat)):=[some [4],none,none,none,none,none,none,none,none,none]
def u2t :List (Option (List Nat)):=[some [0,1,2,71,72,73],some [4,21,23,24],some [0,1,2,4,72,73],some [2,3,4]]
def u2v :List (Option (List Nat)):=[none,some [4],none,none,none,none,none,none]
def madN4 :List (Option (List Nat)):=[some [0,2,8],some [4,21,23,24],some [0,1,2,4,72,73],some [2,3,4]]
def madM4 :List (Option (List Nat)):=[none,none,some [4],none,none,none,none,none]
def Xn (l0:List R4):madS→Xw madS
 | .h0 v16 aC=>(bif (decide (v16<(l0.length:Int))) then (bif ((decide (0≤v16∧v16<(l0.length:Int)))&&true) then (bif (Nat.beq 1 1&&((decide (0+aC.length=aC.length))&&decide ((aC.length+2+1)*(8+1)≤Kj))) then (.to (.h0 (wrap .i64 (v16+1)) (aC++[(rd l0 v16.toNat).a,(rd l0 v16.toNat).c]))) else .stuck) else .stuck) else (bif (decide (aC.length<4611686018427387904)) then (bif (decide (aC.length=aC.length)) then (.to (.h1 1 ([]:List R4) ([]:List R2) 0 0 (v7q (Yd aC.length (cOf (Zz (Xa (Yd aC.length (cOf (Zz aC)))))))) (Wn (Yd aC.length (cOf (Zz (Xa (Yd aC.length (cOf (Zz aC)))))))))) else .stuck) else .stuck))
 | .h1 v4 bK cJ cO cP bI bL=>(bif (decide (v4<((bI:Nat):Int))) then (bif ((decide (0≤(wrap .i64 (v4 - 1))∧(wrap .i64 (v4 - 1))<((bI:Nat):Int)))&&true) then (bif (decide ((0+(Int.toNat (wrap .i64 (v4 - 1))))<bL.length)) then (bif ((decide (0≤v4∧v4<((bI:Nat):Int)))&&true) then (bif (decide ((0+v4.toNat)<bL.length)) then (.to (.h2 v4 0 bK cJ cO cP bI bL (rd bL (0+(Int.toNat (wrap .i64 (v4 - 1))))) (rd bL (0+v4.toNat)) ([]:List R2))) else .stuck) else .stuck) else .stuck) else .stuck) else (bif (decide ((bK.length:Int)>400)) then (.ret [.nils,(.int .i64 4)]) else (.ret [(.dat bK.length (Zz bK)),(.int .i64 0)])))
 | .h2 v4 v38 bK cJ cO cP bI bL aA cX aM=>(bif (decide (v38<(l0.length:Int))) then (bif ((decide (0≤v38∧v38<(l0.length:Int)))&&true) then (bif (decide ((rd l0 v38.toNat).a ≤aA)) then (bif (decide (aA<(rd l0 v38.toNat).c)) then (bif (Nat.beq 2 2&&((decide (0+aM.length=aM.length))&&decide ((aM.length+1+1)*(16+1)≤Kj))) then (.to (.h2 v4 (wrap .i64 (v38+1)) bK cJ cO cP bI bL aA cX (aM++[(R2.mk (rd l0 v38.toNat).b (rd l0 v38.toNat).d)]))) else .stuck) else (.to (.h2 v4 (wrap .i64 (v38+1)) bK cJ cO cP bI bL aA cX aM))) else (.to (.h2 v4 (wrap .i64 (v38+1)) bK cJ cO cP bI bL aA cX aM))) else .stuck) else (bif (y5d (cvT aM)) then (bif (decide ((((Xc (cvT aM)).length :Nat):Int)>0)) then (bif (cP == aA) then (bif (Ve (cvT cJ) (cvT (Xc (cvT aM)))) then (bif (Qm (cvT cJ) (cvT (Xc (cvT aM)))) then (.to (.h4 cX cO aA (Xc (cvT aM)) v4 bK cJ cO cP bI bL aM)) else (.to (.h3 aA cX (Xc (cvT aM)) (((Xc (cvT aM)).length :Nat):Int) 0 (Xc (cvT aM)) v4 bK (Xc (cvT aM)) (bK.length:Int) bI bL aM))) else .stuck) else (.to (.h3 aA cX (Xc (cvT aM)) (((Xc (cvT aM)).length :Nat):Int) 0 (Xc (cvT aM)) v4 bK (Xc (cvT aM)) (bK.length:Int) bI bL aM))) else (.to (.h3 aA cX (Xc (cvT aM)) (((Xc (cvT aM)).length :Nat):Int) 0 (Xc (cvT aM)) v4 bK (Xc (cvT aM)) (bK.length:Int) bI bL aM))) else .stuck))
 | .h3 v1 v2 v71 v72 v73 cG bD aD bJ bF bI bL aA=>(bif (decide (v73<v72)) then (bif ((decide (0≤v73∧v73<(v71.length:Int)))&&true) then (bif (Nat.beq 4 4&&((decide (0+aD.length=aD.length))&&decide ((aD.length+1+1)*(32+1)≤Kj))) then (.to (.h3 v1 v2 v71 v72 (wrap .i64 (v73+1)) cG bD (aD++[(R4.mk v1 (rd v71 v73.toNat).a v2 (rd v71 v73.toNat).b)]) bJ bF bI bL aA)) else .stuck) else .stuck) else (.to (.h1 (wrap .i64 (bD+1)) aD bJ bF v2 bI bL)))
 | .h4 v2 v8 dC cG bD aD bJ bF bT cQ dB aM=>(bif (decide (v8<(aD.length:Int))) then (bif ((decide (0≤v8∧v8<(aD.length:Int)))&&true) then (bif (decide ((0+v8.toNat)<aD.length)) then (.to (.h4 v2 (wrap .i64 (v8+1)) dC cG bD (aD.set (0+v8.toNat) (R4.mk (rd aD (0+v8.toNat)).a (rd aD (0+v8.toNat)).b v2 (rd aD (0+v8.toNat)).d)) bJ bF bT cQ dB aM)) else .stuck) else .stuck) else (.to (.h1 (wrap .i64 (bD+1)) aD bJ bF v2 cQ dB)))
def x2o (l0:List R4):Xw madS:=(.to (.h0 0 ([]:List Int)))
theorem w8n (l0:List R4): ∀s,Xu prog (Zy prog 117) (madC l0) (madC l0 s) (Xn l0 s)
 | .h0 v16 aC=>(lb (fun k0=>(lo fun o0=>(lo fun o1=>(sl Kb 32 [] ⟨[0,1,2,3,7],[],madN0,madM0⟩ ⟨[],[.keep,.keep,.cells [.len (x0a aC l0 v16).length],.keep,.rowed 1 (x0a aC l0 v16).length (Zz (x0a aC l0 v16))],[]⟩ [true] (pp (xL (aC.length+2) (x0a aC l0 v16).length) (pp (xL (aC.length+2) (x0a aC l0 v16).length) (pp (xS (aC.length+2) (Yy (Zz aC) 0 aC.length 1 [(ii (rd l0 (tn v16)).a),(ii (rd l0 (tn v16)).c)]) (Zz (x0a aC l0 v16))) (pp (pp (xF (Yy (Zz aC) 0 aC.length 1 [(ii (rd l0 (tn v16)).a),(ii (rd l0 (tn v16)).c)])) nn) (ww o1 (ww o0 (tt k0 nn))))))))))) (fun k0=>(lo fun o0=>(lo fun o1=>(sl Kb 46 [(116,4,Zz ([]:List R4))] ⟨[5,3,2,4,0,1,6],[],j4h,j4i⟩ ⟨[],[.keep,.cells [.grow 6 4,.list 0 (Zz ([]:List R2)),.keep,.keep],.keep,.rowed 1 (x0d aC).length (Zz (x0d aC)),.keep,.keep,.keep],[]⟩ (bl 2 0) (pp (xL aC.length (x0d aC).length (by first | exact z2p _ _ | exact Un rfl)) (pp (xS aC.length (Zz (x0d aC)) (Zz (x0d aC))) (pp (fl (x0d aC) (fl ([]:List R4) nn)) (pp (pp (xG (Nat.beq 1 1)) (pp (xG (Nat.beq 1 1)) (pp (xG (Nat.beq 0 0)) (pp (xG (decide (aC.length=aC.length))) (pp (xG (isI (Zz (Xa (Yd aC.length (cOf (Zz aC))))))) (xG (decide (aC.length<4611686018427387904)))))))) (pp (pp (xG (Nat.beq 1 1)) (pp (xG (Nat.beq 1 1)) (pp (xG (Nat.beq 0 0)) (pp (xG (decide (aC.length=aC.length))) (pp (xG (isI (Zz aC))) (xG (decide (aC.length<4611686018427387904)))))))) (tt k0 nn)))))))))))
 | .h1 v4 bK cJ cO cP bI bL=>(lb (fun k0=>(lo fun o0=>(lo fun o1=>(lo fun o2=>(lo fun o3=>(sl Kb 48 [(176,2,Zz ([]:List R2))] ⟨[0,1,2,3,4,5,7,8,9,6],[],u2u,u2w⟩ ⟨[],(kpB 7 [.cells [.grow 8 2],.keep,.keep]),[]⟩ (trs 3 []) (pp (fl bL (fl ([]:List R2) (fl bK nn))) (ww o3 (ww o2 (ww o1 (ww o0 (tt k0 nn)))))))))))) (fun k0=>(lb (fun k1=>(lr 29 3 [1,1,1,1,0] 1 14 [(2,.nils),(3,(ii 4))] (sl Kb 43 [] ⟨[],[],[some [2,3]],[]⟩ ⟨[],[],[]⟩ (bl 2 2) (tt k1 (tt k0 nn))))) (fun k1=>(lr 29 3 [1,1,1,1,0] 1 14 [(2,(.dat bK.length (Zz bK))),(3,(ii 0))] (sl Kb 48 [] ⟨[],[6],[some [2,3]],[]⟩ ⟨[(2,.frz bK.length bK.length (Zz bK) (Zz bK))],[],[]⟩ (bl 2 0) (pp (xZ (z7j 4 4 0 bK.length bK.length (Zz bK)) bK.length (Zz bK)) (pp (xL bK.length bK.length) (pp (xS bK.length (Zz bK) (Zz bK)) (pp (fl bK nn) (tt k1 (tt k0 nn))))))))))))
 | .h2 v4 v38 bK cJ cO cP bI bL aA cX aM=>(lb (fun k0=>(lo fun aE=>(lb (fun k1=>(lb (fun k2=>(lo fun o0=>(sl Kb 39 [] ⟨[0,1,2,3,4,5,6,7,12,9],[],u2u,u2w⟩ ⟨[],(kpB 7 [.cells [.len (x0c aM l0 v38).length],.rowed 2 (x0c aM l0 v38).length (Zz (x0c aM l0 v38)),.keep]),[]⟩ (trs 7 []) (pp (xL (aM.length+1) (x0c aM l0 v38).length) (pp (xL (aM.length+1) (x0c aM l0 v38).length) (pp (xS (aM.length+1) (Yy (Zz aM) 0 aM.length 2 [(ii (rd l0 (tn v38)).b),(ii (rd l0 (tn v38)).d)]) (Zz (x0c aM l0 v38))) (pp (fl bL (pp (xF (Yy (Zz aM) 0 aM.length 2 [(ii (rd l0 (tn v38)).b),(ii (rd l0 (tn v38)).d)])) (fl bK nn))) (ww o0 (tt k2 (tt k1 (ww aE (tt k0 nn)))))))))))) (fun k2=>(sl Kb 39 [] ⟨(List.range 10),[],u2u,u2w⟩ ⟨[],[],[]⟩ (trs 6 [false]) (pp (fl bL (fl aM (fl bK nn))) (tt k2 (tt k1 (ww aE (tt k0 nn))))))))) (fun k1=>(sl Kb 39 [] ⟨(List.range 10),[],u2u,u2w⟩ ⟨[],[],[]⟩ (bl 7 1) (pp (fl bL (fl aM (fl bK nn))) (tt k1 (ww aE (tt k0 nn))))))))) (fun k0=>(Xd (sl Kb (C':=⟨⟨29,0,true⟩,(Vj prog 117 [1,1,0,1,0,1,0,0] 4),(Zb prog 117 [1,1,0,1,0,1,0,0] 1),(some 0),[],⟨Yg [(4,(.ptr 1 0)),(5,(.ptr 3 0)),(16,(.dat aM.length (Zz aM)))],z7i [(1,⟨[(.sla 2 4 0 bK.length (.un 4)),(.dat cJ.length (Zz cJ)),(ii cO),(ii cP)],157,none⟩),(2,⟨Ym bK.length (Zz bK),116,some ⟨4,bK.length,(Zz bK)⟩⟩),(3,⟨[(ii aA),(ii cX),(.sl 4 0 1 (.ex 1))],162,none⟩),(4,⟨[(.dat aM.length (Zz aM))],155,none⟩),(5,⟨[(.sla 6 1 0 bI (.un 1))],125,none⟩),(6,⟨Ym bL.length (Zz bL),3,some ⟨1,bL.length,(Zz bL)⟩⟩),(7,⟨[(.sl 8 0 1 (.un 1))],182,none⟩),(8,⟨[(.dat l0.length (Zz l0))],80,none⟩)],9,[],true⟩,[⟨⟨76,0,true⟩,(Vj prog 176 [1,0,0,1,0,0,1,1,0] 2),(Zb prog 176 [1,0,0,1,0,0,1,1,0] 1),none,[],Yg [(0,(.yld 0)),(1,(.ptr 5 0)),(2,(.ptr 7 0)),(4,(ii v4)),(72,(.yld 0)),(73,(.agg [(ii aA),(ii cX),(.sl 4 0 1 (.ex 1))]))]⟩,⟨⟨29,0,true⟩,none,(.inRangeFunc 0::(Zb prog 117 [1,1,0,1,0] 1)),none,(Zy prog 14),Yg [(2,.nils),(3,(ii 0)),(4,(.ptr 1 0))]⟩],(y4a [(0,⟨.busy,none,29,Yg [(4,(.ptr 1 0))],[11],(Wo prog 117 [1,1,0,1,0,0]),(Wo prog 117 [1,1,0,1,0,1])⟩)])⟩) 37 [] ⟨[0,1,9,10,7,2,3,4,5],[8],[some [4,5,16],some [0,1,2,4,72,73],some [2,3,4]],[some [4],none,none,none,none,none,none,none,none]⟩ ⟨[(16,.frz aM.length aM.length (Zz aM) (Zz aM))],[.keep,.keep,.keep,.keep,.cells [.frz aM.length aM.length (Zz aM) (Zz aM)],.keep,.keep,.keep,.keep],[]⟩ (bl 2 0) (pp (xZ (z7j 2 2 0 aM.length aM.length (Zz aM)) aM.length (Zz aM)) (pp (xL aM.length aM.length) (pp (xS aM.length (Zz aM) (Zz aM)) (pp (xZ (z7j 2 2 0 aM.length aM.length (Zz aM)) aM.length (Zz aM)) (pp (xL aM.length aM.length) (pp (xS aM.length (Zz aM) (Zz aM)) (pp (fl bK (fl bL nn)) (pp (fl aM nn) (tt k0 nn)))))))))) (lo fun aE=>(lb (fun k1=>(lb (fun k2=>(lo fun bZ=>(lb (fun k3=>(sl Kb 49 [] ⟨[1,2,0,5,6,7,8,4],[],madN4,madM4⟩ ⟨[],[],[]⟩ (trs 13 []) (pp (fl bK (fl bL nn)) (tt k3 (pp (pp (xr cJ) (pp (xI R2 (Xc (cvT aM)).length (Zz (Xc (cvT aM)))) (xw bZ))) (tt k2 (tt k1 (pp (pp (xr aM) (xw aE)) nn)))))))) (fun k3=>(sl Kb 69 [] ⟨[1,0,5,6,7,8,4,2],[],u2t,u2v⟩ ⟨[],[],[]⟩ (trs 12 [false]) (pp (fl bL (fl bK nn)) (tt k3 (pp (pp (xr cJ) (pp (xI R2 (Xc (cvT aM)).length (Zz (Xc (cvT aM)))) (xw bZ))) (tt k2 (tt k1 (pp (pp (xr aM) (xw aE)) nn))))))))))) (fun k2=>(sl Kb 69 [] ⟨[1,0,5,6,7,8,4,2],[],u2t,u2v⟩ ⟨[],[],[]⟩ (trs 6 (bl 7 0)) (pp (fl bL (fl bK nn)) (tt k2 (tt k1 (pp (pp (xr aM) (xw aE)) nn)))))))) (fun k1=>(sl Kb 69 [] ⟨[1,0,5,6,7,8,4,2],[],u2t,u2v⟩ ⟨[],[],[]⟩ (bl 13 0) (pp (fl bL (fl bK nn)) (tt k1 (pp (pp (xr aM) (xw aE)) nn))))))))))
 | .h3 v1 v2 v71 v72 v73 cG bD aD bJ bF bI bL aA=>(lb (fun k0=>(lo fun o0=>(lo fun o1=>(sl Kb 23 [] ⟨[0,1,2,3,4,5,6,10],[],u2t,u2v⟩ ⟨[],[.cells [.len (x0b aD v1 v71 v73 v2).length,.keep,.keep,.keep],.keep,.keep,.keep,.keep,.keep,.keep,.rowed 4 (x0b aD v1 v71 v73 v2).length (Zz (x0b aD v1 v71 v73 v2))],[]⟩ [true] (pp (xL (aD.length+1) (x0b aD v1 v71 v73 v2).length) (pp (xL (aD.length+1) (x0b aD v1 v71 v73 v2).length) (pp (xS (aD.length+1) (Yy (Zz aD) 0 aD.length 4 [(ii v1),(ii (rd v71 (tn v73)).a),(ii v2),(ii (rd v71 (tn v73)).b)]) (Zz (x0b aD v1 v71 v73 v2))) (pp (fl bL (pp (xF (Yy (Zz aD) 0 aD.length 4 [(ii v1),(ii (rd v71 (tn v73)).a),(ii v2),(ii (rd v71 (tn v73)).b)])) nn)) (ww o1 (ww o0 (tt k0 nn))))))))))) (fun k0=>(sl Kb 22 [] ⟨[1,0,2,3,4,5,7],[],j4h,j4i⟩ ⟨[],[],[]⟩ (bl 2 0) (pp (fl bL (fl aD nn)) (tt k0 nn)))))
 | .h4 v2 v8 dC cG bD aD bJ bF bT cQ dB aM=>(lb (fun k0=>(lo fun o0=>(lo fun o1=>(sl Kb 33 [] ⟨(List.range 8),[],madN4,madM4⟩ ⟨[],[.cells [.len (x0e aD v8 v2).length,.keep,.keep,.keep],.rowed 4 (x0e aD v8 v2).length (Zz (x0e aD v8 v2)),.keep,.keep,.keep,.keep,.keep,.keep],[]⟩ [true] (pp (xL aD.length (x0e aD v8 v2).length) (pp (xL aD.length (x0e aD v8 v2).length) (pp (xS aD.length (Xh (Zz aD) (0+(tn v8)) 2 [(ii v2)]) (Zz (x0e aD v8 v2))) (pp (pp (xF (Xh (Zz aD) (0+(tn v8)) 2 [(ii v2)])) (fl dB nn)) (ww o1 (ww o0 (tt k0 nn))))))))))) (fun k0=>(sl Kb 36 [] ⟨[2,0,3,4,5,6,1],[],j4h,j4i⟩ ⟨[],[],[]⟩ (bl 2 0) (pp (fl dB (fl aD nn)) (tt k0 nn)))))
theorem w0h (l0:List R4):Xu prog (Zy prog 117) (madC l0) (Za prog 117 [(.dat l0.length (Zz l0))] true []) (x2o l0):=(sl Kb 56 [(3,1,Zz ([]:List Int))] ⟨[2,1,3,0,4],[],madN0,madM0⟩ ⟨[],[.keep,.keep,.cells [.grow 4 1],.keep,.keep],[]⟩ [true] (pp (fl ([]:List Int) nn) nn))
theorem u2s (l0:List R4) (n:Nat) (vs:List AVal) (h:Yx (Xn l0) n (x2o l0)=.ret vs):Ur prog (Zy prog 117) (Za prog 117 [(.dat l0.length (Zz l0))] true []) vs:=by have:=Zc (w8n l0) n _ (w0h l0);rwa [h] at this
open Go.Sort Go.Shelf Go.RowKit Go.Lib
theorem w5m {i n:Nat} (h:i<n):decide ((i:Int)<(n:Int))=true:=by grind
theorem z8u {σ:Type} (step:σ→Xw σ) (a b:Nat) (s:Xw σ):Yx step (a+b) s=Yx step a (Yx step b s):=by
 induction b generalizing s with
 | zero=>cases s <;> simp [Yx]
 | succ b ih=>cases s with
  | to s=>exact ih (step s)
  | ret vs=>simp only [Zp]
  | stuck=>cases a <;> cases b <;> rfl
theorem v7b {i:Nat}:decide ((i:Int)≥0)=true:=by grind
def z1t {α:Type} [Xk α] (out:List α):List AVal:=bif decide ((out.length:Int)>400) then [.nils,.int .i64 4] else [.dat out.length (Zz out),.int .i64 0]
def z9p {α:Type} [Xk α] (e:Int) (L:List α):List AVal:=bif e != 0 then [.nils,.int .i64 e] else [.dat L.length (Zz L),.int .i64 0]
def y8b {α:Type} (e:Int) (L:List α):List α:=bif e != 0 then [] else L
theorem z1k {α:Type} [Xk α] (e:Int) (L:List α) (ρ:Rho) (u:Value) (hu:VRel ρ (z0c (z9p e L)) u):VRel ρ (.tup [.dat (y8b e L).length (Zz (y8b e L)),.int .i64 e]) u:=by
 unfold z9p at hu;unfold y8b;by_cases h:e=0
 ·subst h;exact hu
 ·have h:(e != 0)=true:=by simpa using h
  rw [h] at hu ⊢;exact y4w (.cons (z6u α) (RLe.refl _)) ρ u hu
theorem z6q {α:Type} [Xk α] (e:Int) (L:List α):pf 3 (z0c (z9p e L))=true:=by unfold z9p;cases (e != 0) <;> rfl
def x6c (n:Nat):Int:=bif decide ((n:Int)>400) then 4 else 0
theorem y6z {α:Type} [Xk α] (L:List α):z1t L=z9p (x6c L.length) L:=by
 grind [z1t,z9p,x6c]
theorem Vh {α:Type} [Xk α] {e:Int} (L:List α) (h:(e != 0)=true):z9p e L=[.nils,.int .i64 e]:=by unfold z9p;rw [h];rfl
theorem y8m : ∀(L:List R3) (o last:Int) (inn:Bool) (out:List R2),(swF L o last inn out).length ≤out.length+L.length
 | [],_,_,_,out=>Aq _
 | e::r,o,last,inn,out=>by rw [y2t];have:=y8m r (o+e.c) e.a (decide (o+e.c>0)) (Uy out last inn e.a);have:=z3p out last inn e.a;simp only [Bn];omega
theorem y5c (l:List R3):(z1y l).length =l.length:=by
 by_cases h:y2j l=true
 ·exact (Qq l h).1.length_eq
 ·unfold z1y;grind
theorem x7s (l:List R2):(Xc l).length ≤800:=by
 grind [Xc,swV,y8m,y5c,z5a]
def Uk (r:R4):Bool:=decide (r.a<r.c)&&(decide (r.b<r.d)&&(decide (r.a≥ -1000000)&&(decide (r.a≤1000000)&&(decide (r.c≥ -1000000)&&(decide (r.c≤1000000)&&(decide (r.b≥ -1000000)&&(decide (r.b≤1000000)&&(decide (r.d≥ -1000000)&&decide (r.d≤1000000)))))))))
def D4 :Dim R4 R2:=⟨R4.a,R4.c,fun r=>⟨r.b,r.d⟩,fun x x' s=>⟨x,s.a,x',s.b⟩,fun x r=>⟨r.a,r.b,x,r.d⟩,Xc,Qm⟩
theorem D4_sec (l:List R4) (x:Int):(D4.sec l x).length ≤1000:=AE (x7s _) (by omega)
section
variable (l:List R4) (hl:l.length≤400)
include hl
theorem u9i (i:Nat) (out:List R4) (last:List R2) (first fin x x':Int): ∀(k j:Nat) (acc:List R2),j+k=l.length→acc.length≤j→
  ∃n,∀N,Yx (Xn l) (N+n) (.to (.h2 (i:Int) (j:Int) out last first fin ((D4.cuts l).length) (Wn (Xa (D4.ends l))) x x' acc))=Yx (Xn l) N (.to (.h2 (i:Int) (l.length:Int) out last first fin ((D4.cuts l).length) (Wn (Xa (D4.ends l))) x x' (acc++D4.inn (l.drop j) x)))
 | 0,j,acc,h,ha=>by refine ⟨0,fun N=> ?_⟩;rw [As (by omega),show D4.inn ([]:List R4) x=[] from rfl,AF,A7,show j=l.length by omega]
 | k+1,j,acc,h,ha=>by
  have hj:j<l.length:=by omega
  obtain ⟨n,hn⟩:=u9i i out last first fin x x' k (j+1) (acc++D4.inn [rd l j] x) (by omega) (by have:=D4.inn_length [rd l j] x;grind)
  refine ⟨n+1,fun N=> ?_⟩;have e:D4.inn (l.drop j) x=D4.inn [rd l j] x++D4.inn (l.drop (j+1)) x:=by rw [Yq hj,←D4.inn_append];rfl
  rw [e,←AC,Zw,←AN,←hn N];by_cases h1:D4.lo (rd l j)≤x
  ·by_cases h2:x<D4.hi (rd l j)
   ·rw [D4.inn_t _ _ h1 h2];simp only [D4] at h1 h2 ⊢;simp (disch:=omega) only [Xn,Xo,Zd,Zq,Zs,Zt,Yb,Yw,Yu,Zf,Zk,Zx,Yc,Zj,Af,Ao,Ah,Ak,Ae,Ac]
   ·rw [D4.inn_f2 _ _ h2,AF];simp only [D4] at h1 h2;simp (disch:=omega) only [Xn,Xo,Yf,Zd,Zq,Zs,Zt,Yb,Yw,Yu,Zf,Zk,Zx,Yc,Zj,Af,Ao,Ah,Ak,Ae,Ac]
  ·rw [D4.inn_f1 _ _ h1,AF];simp only [D4] at h1;simp (disch:=omega) only [Xn,w9t,Zd,Zq,Zs,Zt,Yb,Yw,Yu,Zf,Zk,Zx,Yc,Zj,Af,Ao,Ah,Ak,Ae,Ac]
theorem u9h (i:Nat) (hi:i≤1000) (x x':Int) (s last:List R2) (first:Int) (inn:List R2) (hs:s.length≤1000): ∀(k j:Nat) (out:List R4),j+k=s.length→out.length≤10000000+j→
  ∃n,∀N,Yx (Xn l) (N+n) (.to (.h3 x x' s (s.length:Int) (j:Int) s (i:Int) out last first ((D4.cuts l).length) (Wn (Xa (D4.ends l))) inn))=Yx (Xn l) N (.to (.h1 ((i+1:Nat):Int) (out++(s.drop j).map (D4.put x x')) last first x' ((D4.cuts l).length) (Wn (Xa (D4.ends l)))))
 | 0,j,out,h,ho=>by
  have _u:=hl;refine ⟨1,fun N=> ?_⟩
  grind [Zw,Xn,Zk]
 | k+1,j,out,h,ho=>by
  obtain ⟨n,hn⟩:=u9h i hi x x' s last first inn hs k (j+1) (out++[D4.put x x' (rd s j)]) (by omega) (by simp;omega)
  refine ⟨n+1,fun N=> ?_⟩;have:=hn N;rw [Yq (show j<s.length by omega),AU,←AC,Zw];simp (disch:=omega) only [Xn,Zd,Zq,Zs,Zt,Yb,Yw,Yu,Zf,Zk,Zx,Yc,Zj,Af,Ao,Ah,Ak,Ae,Ac];rw [AN] at this;exact this
theorem u9g (i:Nat) (hi:i≤1000) (x x' fin:Int) (s last:List R2) (first:Int) (inn:List R2): ∀(k j:Nat) (out:List R4),j+k=out.length→out.length≤10000000→
  ∃n,∀N,Yx (Xn l) (N+n) (.to (.h4 x' (j:Int) x s (i:Int) out last first fin ((D4.cuts l).length) (Wn (Xa (D4.ends l))) inn))=Yx (Xn l) N (.to (.h1 ((i+1:Nat):Int) (D4.grow out j x') last first x' ((D4.cuts l).length) (Wn (Xa (D4.ends l)))))
 | 0,j,out,h,ho=>by
  have _u:=hl;refine ⟨1,fun N=> ?_⟩;rw [D4.grow_nil _ _ _ (by omega),Zw]
  grind [Xn,Zk]
 | k+1,j,out,h,ho=>by
  obtain ⟨n,hn⟩:=u9g i hi x x' fin s last first inn k (j+1) (out.set j (D4.ext x' (rd out j))) (by simp;omega) (by grind)
  refine ⟨n+1,fun N=> ?_⟩;have:=hn N;rw [D4.grow_set out j _ (by omega)] at this;rw [←AC,Zw];simp (disch:=omega) only [Xn,Zd,Zq,Zs,Zt,Yb,Yw,Yu,Zf,Zk,Zx,Yc,Zj,Af,Ao,Ah,Ak,Ae,Ac];exact this
theorem v5k : ∀(k i:Nat) (s:Sw R4 R2),k=(D4.cuts l).length - 1 - i→i≤(D4.cuts l).length →s.out.length≤i*1000→s.last.length≤1000→s.first≤s.out.length→
  ∃n,Yx (Xn l) n (.to (.h1 ((i+1:Nat):Int) s.out s.last (s.first:Int) s.fin ((D4.cuts l).length) (Wn (Xa (D4.ends l)))))=.ret (z1t (D4.go l k i s).out)
 | 0,i,s,h,hi,ho,hla,hf=>by
  have hc:=D4.cuts_length l;refine ⟨1,?_⟩;rw [Zw,show D4.go l 0 i s=s from rfl]
  grind [z1t,Xn,Zp]
 | k +1,i,s,h,hi,ho,hla,hf=>by
  have hc:=D4.cuts_length l;have hi1:i+1<(D4.cuts l).length :=by omega
  have hpl:(Wn (Xa (D4.ends l))).length =2*l.length:=by rw [Jy,Vm,D4.ends_length]
  have r0:rd (Wn (Xa (D4.ends l))) i=rd (D4.cuts l) i:=z5z _ _ (by show i<(D4.cuts l).length;omega);have r1:rd (Wn (Xa (D4.ends l))) (i+1)=rd (D4.cuts l) (i+1):=z5z _ _ (by show i+1<(D4.cuts l).length;omega);have hbig:i*1000≤1000*1000:=Az _ (by omega);have hsl:=D4_sec l (rd (D4.cuts l) i);have hsd:D4.sec l (rd (D4.cuts l) i)=Xc (D4.inn l (rd (D4.cuts l) i)):=rfl;obtain ⟨n3,h3⟩:=u9i l hl (i+1) s.out s.last (s.first:Int) s.fin (rd (D4.cuts l) i) (rd (D4.cuts l) (i+1)) l.length 0 [] (Af _) (Aq _);simp only [AT,A8,z7e] at h3;have w1:y5d (D4.inn l (rd (D4.cuts l) i))=true:=rfl;have w2:Ve s.last (Xc (D4.inn l (rd (D4.cuts l) i)))=true:=An (by omega);have ol:=D4.one_length l (rd (D4.cuts l) i) (rd (D4.cuts l) (i+1)) s;have st0: ∀N,Yx (Xn l) (N+n3+1) (.to (.h1 ((i+1:Nat):Int) s.out s.last (s.first:Int) s.fin ((D4.cuts l).length) (Wn (Xa (D4.ends l)))))=Yx (Xn l) N (.to (.h2 ((i+1:Nat):Int) (l.length:Int) s.out s.last (s.first:Int) s.fin ((D4.cuts l).length) (Wn (Xa (D4.ends l))) (rd (D4.cuts l) i) (rd (D4.cuts l) (i+1)) (D4.inn l (rd (D4.cuts l) i)))):=fun N=>by
   rw [←h3 N,Zw];have e1:wrap .i64 (((i+1:Nat):Int) - 1)=(i:Int):=by rw [Zn];exact Zk (by omega)
   simp (disch:=omega) only [Xn,e1,r0,r1,Zd,Zq,Zs,Zt,Yb,Yw,Yu,Zf,Zk,Zx,Yc,Zj,Af,Ao,Ah,Ak,Ae,Ac]
  rcases Yk (decide (0<(D4.sec l (rd (D4.cuts l) i)).length)&&((s.fin == rd (D4.cuts l) i)&&D4.same s.last (D4.sec l (rd (D4.cuts l) i)))) with q | q
  ·obtain ⟨n5,h5⟩:=u9g l hl (i+1) (by omega) (rd (D4.cuts l) i) (rd (D4.cuts l) (i+1)) s.fin (D4.sec l (rd (D4.cuts l) i)) s.last (s.first:Int) (D4.inn l (rd (D4.cuts l) i)) (s.out.length - s.first) s.first s.out (by omega) (by omega)
   have e:D4.one l (rd (D4.cuts l) i) (rd (D4.cuts l) (i+1)) s=⟨D4.grow s.out s.first (rd (D4.cuts l) (i+1)),s.last,s.first,rd (D4.cuts l) (i+1)⟩:=by unfold Dim.one;rw [q];rfl
   obtain ⟨n0,h0⟩:=v5k k (i+1) (D4.one l (rd (D4.cuts l) i) (rd (D4.cuts l) (i+1)) s) (by omega) (by omega) (by omega) (by grind) (by grind [Dim.grow_length]);refine ⟨n0+n5+1+n3+1,?_⟩;rw [st0 (n0+n5+1),Zw];simp only [Ad,Ar] at q;obtain ⟨q1,q2,q3⟩:=q;have q3':Qm s.last (Xc (D4.inn l (rd (D4.cuts l) i)))=true:=q3
   grind [Xn,Zd,Dim.go]
  ·obtain ⟨n4,h4⟩:=u9h l hl (i+1) (by omega) (rd (D4.cuts l) i) (rd (D4.cuts l) (i+1)) (D4.sec l (rd (D4.cuts l) i)) (D4.sec l (rd (D4.cuts l) i)) (s.out.length:Int) (D4.inn l (rd (D4.cuts l) i)) hsl (D4.sec l (rd (D4.cuts l) i)).length 0 s.out (Af _) (by omega);simp only [AT,z7e] at h4;have e:D4.one l (rd (D4.cuts l) i) (rd (D4.cuts l) (i+1)) s=⟨s.out++(D4.sec l (rd (D4.cuts l) i)).map (D4.put (rd (D4.cuts l) i) (rd (D4.cuts l) (i+1))),D4.sec l (rd (D4.cuts l) i),s.out.length,rd (D4.cuts l) (i+1)⟩:=by unfold Dim.one;rw [q];rfl
   obtain ⟨n0,h0⟩:=v5k k (i+1) (D4.one l (rd (D4.cuts l) i) (rd (D4.cuts l) (i+1)) s) (by omega) (by omega) (by omega) (by grind) (by rw [e];simp);have hg:Yx (Xn l) 1 (.to (.h2 ((i+1:Nat):Int) (l.length:Int) s.out s.last (s.first:Int) s.fin ((D4.cuts l).length) (Wn (Xa (D4.ends l))) (rd (D4.cuts l) i) (rd (D4.cuts l) (i+1)) (D4.inn l (rd (D4.cuts l) i))))=.to (.h3 (rd (D4.cuts l) i) (rd (D4.cuts l) (i+1)) (D4.sec l (rd (D4.cuts l) i)) ((D4.sec l (rd (D4.cuts l) i)).length :Int) 0 (D4.sec l (rd (D4.cuts l) i)) ((i+1:Nat):Int) s.out (D4.sec l (rd (D4.cuts l) i)) (s.out.length:Int) ((D4.cuts l).length) (Wn (Xa (D4.ends l))) (D4.inn l (rd (D4.cuts l) i))):=by
    rw [show (1:Nat)=0+1 from rfl,Zw];rw [hsd] at q ⊢;have e3:D4.same s.last (Xc (D4.inn l (rd (D4.cuts l) i)))=Qm s.last (Xc (D4.inn l (rd (D4.cuts l) i))):=rfl;rw [e3] at q;by_cases q1:0<(Xc (D4.inn l (rd (D4.cuts l) i))).length
    ·rw [An q1,Ak] at q;rcases Yk (s.fin == rd (D4.cuts l) i) with q2 | q2
     ·rw [q2,Ak] at q;simp (disch:=omega) only [Xn,Zd,Zq,Yf,Xy,q2,q,w1,w2,Ae,Ac];rfl
     ·simp (disch:=omega) only [Xn,Zd,Zq,Yf,Xy,q2,w1,w2,Ae,Ac];rfl
    ·simp (disch:=omega) only [Xn,Zd,Zq,Yf,Xt,w1,w2,Ae,Ac];rfl
   refine ⟨n0+n4+1+n3+1,?_⟩;simp_all [z8u,Dim.go]
theorem u9j : ∀(k i:Nat) (acc:List Int),i+k=l.length→acc=D4.ends (l.take i)→ ∃n,Yx (Xn l) n (.to (.h0 (i:Int) acc))=.ret (z1t (D4.go l ((D4.cuts l).length - 1) 0 ⟨[],[],0,0⟩).out)
 | 0,i,acc,h,ha=>by
  have e:acc=D4.ends l:=by grind
  subst e;have hle:=D4.ends_length l;obtain ⟨n,hn⟩:=v5k l hl ((D4.cuts l).length - 1) 0 ⟨[],[],0,0⟩ (by omega) (AB _) (AB _) (AB _) (AB _);refine ⟨n+1,?_⟩;rw [Zw];simp (disch:=omega) only [Xn,Jo,z0n,y0w,Yf,Yw,Yu,Ao,Ae,Ac];exact hn
 | k+1,i,acc,h,ha=>by
  have hle:=D4.ends_length (l.take i);have hacc:acc.length≤2*i:=by grind
  obtain ⟨n,hn⟩:=u9j k (i+1) (acc++D4.ends [rd l i]) (by omega) (by
   rw [ha,A2];have:l[i]? =some (rd l i):=by grind [Yo]
   rw [this,D4.ends_append];rfl)
  refine ⟨n+1,?_⟩;rw [Zw];simp (disch:=omega) only [Xn,Zd,Zq,Zs,Zt,Yb,Yw,Yu,Zf,Zk,Zx,Yc,Zj,Af,Ao,Ah,Ak,Ae,Ac];exact hn
end
def j4j (l:List R4):Int:=x6c (D4.out l).length
def Wf (l:List R4):List R4:=y8b (j4j l) (D4.out l)
def z2o (l:List R4):Int:=j4j l
def Qd (l:List R4):Bool:=decide (l.length≤400)
theorem j4g (l:List R4) (h:Qd l=true): ∃n,Yx (Xn l) n (x2o l)=.ret (z9p (j4j l) (D4.out l)):=by rw [show z9p (j4j l) (D4.out l)=z1t (D4.out l) from (y6z _).symm];exact u9j l (Aw h) l.length 0 [] (Af _) rfl
def j0i (a b c d:Int):Bool:=Uk ⟨a,b,c,d⟩
theorem j0h (a b c d:Int): ∃N,Yx (x7b a b c d) N (y2r a b c d)=.ret [.bool (j0i a b c d)]:=⟨0,by
 unfold y2r j0i Uk;simp only [y0y];cases decide (a<c) <;> cases decide (b<d) <;> cases decide (a≥ -1000000) <;> cases decide (a≤1000000) <;> cases decide (c≥ -1000000) <;> cases decide (c≤1000000) <;> cases decide (b≥ -1000000) <;> cases decide (b≤1000000) <;> cases decide (d≥ -1000000) <;> rfl⟩
def fVl4 :List AVal→Option (AVal×Bool)
 | [.agg [.int .i64 aH,.int .i64 aO,.int .i64 aN,.int .i64 aT]]=>some (.bool (j0i aH aO aN aT),true)
 | _=>none
theorem j5h {S:Specs} (hS:Zu prog S):Zu prog (S.with w4m fVl4):=by
 refine Qi hS (by kernel_rfl) fun args v h=> ?_;unfold fVl4 at h;split at h
 ·rename_i aH aO aN aT;simp only [Ab,Aa,Bd] at h;subst h;obtain ⟨N,hN⟩:=j0h aH aO aN aT;exact ⟨_,_,(.cons (.refl _) .nil),rfl,v8u aH aO aN aT N _ hN,3,rfl⟩
 ·cases h
def fMad :List AVal→Option (AVal×Bool)
 | [a0]=>match asL R4 a0 with
  | some (L0,g0,n0)=>some (.tup [.dat (Wf L0).length (Zz (Wf L0)),.int .i64 (z2o L0)],isT R4 n0 g0&&(Qd L0))
  | _=>none
 | _=>none
theorem j6g {S:Specs} (hS:Zu prog S):Zu prog (S.with v5d fMad):=by
 refine v6j hS (by kernel_rfl) fun args v h=> ?_;unfold fMad at h;split at h
 ·rename_i a0;split at h
  ·rename_i L0 g0 n0 e0;simp only [Ab,Aa,Ad] at h;obtain ⟨rfl,ho0,hw⟩:=h;obtain ⟨N,hN⟩:=j4g L0 hw;exact ⟨_,_,(.cons (Yi e0 ho0) .nil),z1k _ _,u2s L0 N _ hN,3,z6q _ _⟩
  ·cases h
 ·cases h
def T6v :Specs:=(T6.with w4m fVl4)
theorem T6v_ok :Zu prog T6v:=(j5h Kb)
def T6m :Specs:=(T6v.with v5d fMad)
theorem y7r :Zu prog T6m:=(j6g T6v_ok)
inductive rgmS where
 | h0 (v8:Int)
def rgmC (l0:List R4):rgmS→Cfg
 | .h0 v8=>⟨⟨19,0,true⟩,none,(Zb prog 153 [1,0,1,0,0] 0),none,(Zy prog 6),⟨Yg [(0,(.dat l0.length (Zz l0))),(1,(.fn 115 [])),(7,(ii (l0.length:Int))),(8,(ii v8))],Wt [] 0,0,[],true⟩,[⟨⟨9,0,true⟩,(Vj prog 114 [1,0] 2),(Zb prog 114 [1,0] 1),none,(Zy prog 6),Yg [(5,(.dat l0.length (Zz l0))),(6,(.fn 115 []))]⟩,⟨⟨13,0,true⟩,(Vj prog 83 [1,1,0,0] 1),(Zb prog 83 [1,1,0,0] 1),none,(Zy prog 14),Yg [(0,(.dat l0.length (Zz l0))),(7,(.dat l0.length (Zz l0)))]⟩],.leaf⟩
def rgmN0 :List (Option (List Nat)):=[some [0,1,7,8],some [5,6],some [0,7]]
def rgmM0 :List (Option (List Nat)):=[]
def z4q (l0:List R4):rgmS→Xw rgmS
 | .h0 v8=>(bif (decide (v8<(l0.length:Int))) then (bif ((decide (0≤v8∧v8<(l0.length:Int)))&&true) then (bif (!(j0i (rd l0 v8.toNat).a (rd l0 v8.toNat).b (rd l0 v8.toNat).c (rd l0 v8.toNat).d)) then (bif (decide (v8≥0)) then (.ret [.nils,(.int .i64 8)]) else (bif (Qd (cvT l0)) then (.ret [(.dat (Wf (cvT l0)).length (Zz (Wf (cvT l0)))),(.int .i64 (z2o (cvT l0)))]) else .stuck)) else (.to (.h0 (wrap .i64 (v8+1))))) else .stuck) else (bif (Qd (cvT l0)) then (.ret [(.dat (Wf (cvT l0)).length (Zz (Wf (cvT l0)))),(.int .i64 (z2o (cvT l0)))]) else .stuck))
def z8a (l0:List R4):Xw rgmS:=(bif (decide ((l0.length:Int)>400)) then (.ret [.nils,(.int .i64 4)]) else (.to (.h0 0)))
theorem w7t (l0:List R4): ∀s,Xu prog (Zy prog 83) (rgmC l0) (rgmC l0 s) (z4q l0 s)
 | .h0 v8=>(lb (fun k0=>(lo fun aE=>(lb (fun k1=>(lb (fun k2=>(lr 13 83 [1,1,0,1,0,0] 1 14 [(2,.nils),(3,(ii 8))] (sl y7r 54 [] ⟨[],[],[some [2,3]],[]⟩ ⟨[],[],[]⟩ (trs 3 []) (tt k2 (tt k1 (ww aE (tt k0 nn))))))) (fun k2=>(lo fun o0=>(lr 13 3 [1,1,1,1,0] 1 14 [(2,(.dat (Wf (cvT l0)).length (Zz (Wf (cvT l0))))),(3,(ii (z2o (cvT l0))))] (sl y7r 59 [] ⟨[],[],[some [2,3]],[]⟩ ⟨[],[],[]⟩ (bl 3 3) (pp (pp (xr l0) (xw o0)) (tt k2 (tt k1 (ww aE (tt k0 nn))))))))))) (fun k1=>(sl y7r 44 [] ⟨[],[],rgmN0,rgmM0⟩ ⟨[],[],[]⟩ (bl 2 1) (tt k1 (ww aE (tt k0 nn)))))))) (fun k0=>(lo fun o0=>(lr 13 3 [1,1,1,1,0] 1 14 [(2,(.dat (Wf (cvT l0)).length (Zz (Wf (cvT l0))))),(3,(ii (z2o (cvT l0))))] (sl y7r 28 [] ⟨[],[],[some [2,3]],[]⟩ ⟨[],[],[]⟩ (bl 2 0) (pp (pp (xr l0) (xw o0)) (tt k0 nn)))))))
theorem x9d (l0:List R4):Xu prog (Zy prog 83) (rgmC l0) (Za prog 83 [(.dat l0.length (Zz l0))] true []) (z8a l0):=(lb (fun k0=>(lr 13 83 [1,0,1,0,0] 1 14 [(2,.nils),(3,(ii 4))] (sl y7r 18 [] ⟨[],[],[some [2,3]],[]⟩ ⟨[],[],[]⟩ [true] (tt k0 nn)))) (fun k0=>(sl y7r 41 [] ⟨[],[],rgmN0,rgmM0⟩ ⟨[],[],[]⟩ [false] (tt k0 nn))))
theorem u1c (l0:List R4) (n:Nat) (vs:List AVal) (h:Yx (z4q l0) n (z8a l0)=.ret vs):Ur prog (Zy prog 83) (Za prog 83 [(.dat l0.length (Zz l0))] true []) vs:=by have:=Zc (w7t l0) n _ (x9d l0);rwa [h] at this
theorem u7v (l:List R4) (hl:l.length≤400): ∀(k i:Nat),i+k=l.length→(∀s∈l.take i,Uk s=true)→ ∃n,Yx (z4q l) n (.to (.h0 (i:Int)))=.ret (bif l.all Uk then [.dat (Wf l).length (Zz (Wf l)),.int .i64 (z2o l)] else [.nils,.int .i64 8])
 | 0,i,h,ht=>by
  have hv:l.all Uk=true:=At.2 fun s hs=>ht s (by grind);have w:Qd l=true:=An hl;refine ⟨1,?_⟩
  grind [Zw,z4q,Zd,Zp]
 | k+1,i,h,ht=>by
  have hi:i<l.length:=by omega
  have hs:z4q l (.h0 (i:Int))=bif Uk (rd l i) then .to (.h0 ((i+1:Nat):Int)) else .ret [.nils,.int .i64 8]:=by have e:j0i (rd l i).a (rd l i).b (rd l i).c (rd l i).d =Uk (rd l i):=rfl;simp (disch:=omega) only [z4q,e,y7d,w5m,v7b,Zt,Zk,Zx,Zj,Ah,Ae,Ac]
  rcases Yk (Uk (rd l i)) with q | q
  ·obtain ⟨n,hn⟩:=u7v l hl k (i+1) (by omega) (fun s hs=>by
    rw [A2] at hs
    grind [Yo])
   refine ⟨n+1,?_⟩
   grind [Zw]
  ·have hv:l.all Uk=false:=A1.2 fun e=>by
    grind [Yo]
   refine ⟨1,?_⟩
   grind [Zw,Zp]
theorem u1b (l:List R4): ∃n,Yx (z4q l) n (z8a l)=.ret (bif decide (400<l.length) then [.nils,.int .i64 4] else bif l.all Uk then [.dat (Wf l).length (Zz (Wf l)),.int .i64 (z2o l)] else [.nils,.int .i64 8]):=by
 unfold z8a;by_cases h:400<l.length
 ·refine ⟨0,?_⟩;rw [An h,Xy (show (l.length:Int)>400 by omega)];rfl
 ·obtain ⟨n,hn⟩:=u7v l (by omega) l.length 0 (Af _) (fun s hs=>by simp at hs)
  grind
def Ze (l:List R4):List R4:=bif decide (400<l.length) then [] else bif l.all Uk then (bif decide (((D4.out l).length :Int)>400) then [] else D4.out l) else []
def We (l:List R4):Int:=bif decide (400<l.length) then 4 else bif l.all Uk then (bif decide (((D4.out l).length :Int)>400) then 4 else 0) else 8
def Jc (l:List R4):Bool:=true
theorem j3f (l:List R4) (h:Jc l=true): ∃n,Yx (z4q l) n (z8a l)=.ret (bif decide (400<l.length) then [.nils,.int .i64 4] else bif l.all Uk then [.dat (Ze l).length (Zz (Ze l)),.int .i64 (We l)] else [.nils,.int .i64 8]):=by
 obtain ⟨n,hn⟩:=u1b l
 grind [Wf,Ze,j4j,y8b,x6c,z2o,We]
def fRgm :List AVal→Option (AVal×Bool)
 | [a0]=>match asL R4 a0 with
  | some (L0,g0,n0)=>some (.tup [.dat (Ze L0).length (Zz (Ze L0)),.int .i64 (We L0)],isT R4 n0 g0&&(Jc L0))
  | _=>none
 | _=>none
theorem j5w {S:Specs} (hS:Zu prog S):Zu prog (S.with w4o fRgm):=by
 refine v6j hS (by kernel_rfl) fun args v h=> ?_;unfold fRgm at h;split at h
 ·rename_i a0;split at h
  ·rename_i L0 g0 n0 e0;simp only [Ab,Aa,Ad] at h;obtain ⟨rfl,ho0,hw⟩:=h;obtain ⟨N,hN⟩:=j3f L0 hw;refine ⟨_,_,(.cons (Yi e0 ho0) .nil),?_,u1c L0 N _ hN,3,?_⟩
   ·cases h1:decide (400<L0.length) <;> cases h2:L0.all Uk <;> simp only [Ze,We,h1,h2,Ae,Ac]
    ·exact fun ρ u hu=>y4w (.cons (z6u R4) (RLe.refl _)) ρ u hu
    ·exact fun ρ u hu=>hu
    ·exact fun ρ u hu=>y4w (.cons (z6u R4) (RLe.refl _)) ρ u hu
    ·exact fun ρ u hu=>y4w (.cons (z6u R4) (RLe.refl _)) ρ u hu
   ·cases decide (400<L0.length) <;> cases L0.all Uk <;> rfl
  ·cases h
 ·cases h
def T7 :Specs:=(T6m.with w4o fRgm)
theorem x6t :Zu prog T7:=(j5w y7r)
inductive vl6S where
def vl6C (aH:Int) (aO:Int) (aN:Int) (aT:Int) (aV:Int) (aU:Int):vl6S→Cfg
 :=nofun
def x6z (aH:Int) (aO:Int) (aN:Int) (aT:Int) (aV:Int) (aU:Int):vl6S→Xw vl6S
 :=nofun
def y2q (aH:Int) (aO:Int) (aN:Int) (aT:Int) (aV:Int) (aU:Int):Xw vl6S:=(bif (decide (aH<aT)) then (bif (decide (aO<aV)) then (bif (decide (aN<aU)) then (bif (decide ((z0o (z0o aH aO) aN)≥(-1000000))) then (bif (decide ((Qh (Qh aH aO) aN)≤1000000)) then (bif (decide ((z0o (z0o aT aV) aU)≥(-1000000))) then (.ret [(.bool (decide ((Qh (Qh aT aV) aU)≤1000000)))]) else (.ret [(.bool false)])) else (.ret [(.bool false)])) else (.ret [(.bool false)])) else (.ret [(.bool false)])) else (.ret [(.bool false)])) else (.ret [(.bool false)]))
theorem w5y (aH:Int) (aO:Int) (aN:Int) (aT:Int) (aV:Int) (aU:Int): ∀s,Xu prog (Zy prog 92) (vl6C aH aO aN aT aV aU) (vl6C aH aO aN aT aV aU s) (x6z aH aO aN aT aV aU s)
 :=nofun
theorem x7a (aH:Int) (aO:Int) (aN:Int) (aT:Int) (aV:Int) (aU:Int):Xu prog (Zy prog 92) (vl6C aH aO aN aT aV aU) (Za prog 92 [(.agg [(.int .i64 aH),(.int .i64 aO),(.int .i64 aN),(.int .i64 aT),(.int .i64 aV),(.int .i64 aU)])] true []) (y2q aH aO aN aT aV aU):=(lb (fun k0=>(lb (fun k1=>(lb (fun k2=>(lb (fun k3=>(lb (fun k4=>(lb (fun k5=>(lr 38 3 [1,1,1,1,0] 1 9 [(2,(.bool (decide ((Qh (Qh aT aV) aU)≤1000000))))] (sl x6t 100 [] ⟨[],[],[some [2]],[]⟩ ⟨[],[],[]⟩ (trs 36 []) (tt k5 (tt k4 (tt k3 (tt k2 (tt k1 (tt k0 nn))))))))) (fun k5=>(lr 38 3 [1,1,1,1,0] 1 9 [(2,(.bool false))] (sl x6t 100 [] ⟨[],[],[some [2]],[]⟩ ⟨[],[],[]⟩ (trs 28 [false,false,false,false,false,false,false,false]) (tt k5 (tt k4 (tt k3 (tt k2 (tt k1 (tt k0 nn))))))))))) (fun k4=>(lr 38 3 [1,1,1,1,0] 1 9 [(2,(.bool false))] (sl x6t 72 [] ⟨[],[],[some [2]],[]⟩ ⟨[],[],[]⟩ (trs 25 [false,false,false]) (tt k4 (tt k3 (tt k2 (tt k1 (tt k0 nn)))))))))) (fun k3=>(lr 38 3 [1,1,1,1,0] 1 9 [(2,(.bool false))] (sl x6t 72 [] ⟨[],[],[some [2]],[]⟩ ⟨[],[],[]⟩ (trs 17 [false,false,false,false,false,false,false,false,false,false,false]) (tt k3 (tt k2 (tt k1 (tt k0 nn))))))))) (fun k2=>(lr 38 3 [1,1,1,1,0] 1 9 [(2,(.bool false))] (sl x6t 44 [] ⟨[],[],[some [2]],[]⟩ ⟨[],[],[]⟩ (trs 14 [false,false,false,false,false,false]) (tt k2 (tt k1 (tt k0 nn)))))))) (fun k1=>(lr 38 3 [1,1,1,1,0] 1 9 [(2,(.bool false))] (sl x6t 44 [] ⟨[],[],[some [2]],[]⟩ ⟨[],[],[]⟩ (trs 7 [false,false,false,false,false,false,false,false,false,false,false,false,false]) (tt k1 (tt k0 nn))))))) (fun k0=>(lr 38 3 [1,1,1,1,0] 1 9 [(2,(.bool false))] (sl x6t 44 [] ⟨[],[],[some [2]],[]⟩ ⟨[],[],[]⟩ [false,false,false,false,false,false,false,false,false,false,false,false,false,false,false,false,false,false,false,false] (tt k0 nn)))))
theorem v8t (aH:Int) (aO:Int) (aN:Int) (aT:Int) (aV:Int) (aU:Int) (n:Nat) (vs:List AVal) (h:Yx (x6z aH aO aN aT aV aU) n (y2q aH aO aN aT aV aU)=.ret vs):Ur prog (Zy prog 92) (Za prog 92 [(.agg [(.int .i64 aH),(.int .i64 aO),(.int .i64 aN),(.int .i64 aT),(.int .i64 aV),(.int .i64 aU)])] true []) vs:=by have:=Zc (w5y aH aO aN aT aV aU) n _ (x7a aH aO aN aT aV aU);rwa [h] at this
def z4e (r:R6):Bool:=decide (r.a<r.d)&&(decide (r.b<r.e)&&(decide (r.c<r.f)&&(decide ((z0o (z0o r.a r.b) r.c)≥(-1000000))&&(decide ((Qh (Qh r.a r.b) r.c)≤1000000)&&(decide ((z0o (z0o r.d r.e) r.f)≥(-1000000))&&decide ((Qh (Qh r.d r.e) r.f)≤1000000))))))
def vl6V (a b c d e f:Int):Bool:=z4e ⟨a,b,c,d,e,f⟩
theorem j0g (a b c d e f:Int): ∃N,Yx (x6z a b c d e f) N (y2q a b c d e f)=.ret [.bool (vl6V a b c d e f)]:=⟨0,by
 unfold y2q vl6V z4e;simp only [y0y];cases decide (a<d) <;> cases decide (b<e) <;> cases decide (c<f) <;> cases decide ((z0o (z0o a b) c)≥(-1000000)) <;> cases decide ((Qh (Qh a b) c)≤1000000) <;> cases decide ((z0o (z0o d e) f)≥(-1000000)) <;> rfl⟩
def fVl6 :List AVal→Option (AVal×Bool)
 | [.agg [.int .i64 aH,.int .i64 aO,.int .i64 aN,.int .i64 aT,.int .i64 aV,.int .i64 aU]]=>some (.bool (vl6V aH aO aN aT aV aU),true)
 | _=>none
theorem j5g {S:Specs} (hS:Zu prog S):Zu prog (S.with w4k fVl6):=by
 refine Qi hS (by kernel_rfl) fun args v h=> ?_;unfold fVl6 at h;split at h
 ·rename_i aH aO aN aT aV aU;simp only [Ab,Aa,Bd] at h;subst h;obtain ⟨N,hN⟩:=j0g aH aO aN aT aV aU;exact ⟨_,_,(.cons (.refl _) .nil),rfl,v8t aH aO aN aT aV aU N _ hN,3,rfl⟩
 ·cases h
def T7v :Specs:=(T7.with w4k fVl6)
theorem Vp :Zu prog T7v:=(j5g x6t)
inductive sckS where
 | h0 (v8:Int)
 | h1 (v16:Int) (aC:List Int)
 | h2 (v4:Int) (aJ:List R6) (aX:List R4) (bG:Int) (bH:Int) (aI:Nat) (aL:List Int)
 | h3 (v4:Int) (v38:Int) (aJ:List R6) (aX:List R4) (bG:Int) (bH:Int) (aI:Nat) (aL:List Int) (aF:Int) (bC:Int) (aB:List R4)
 | h4 (v1:Int) (v2:Int) (v72:List R4) (v73:Int) (v74:Int) (bX:List R4) (bD:Int) (aD:List R6) (bJ:List R4) (bF:Int) (aI:Nat) (aL:List Int) (aF:List R4)
 | h5 (v2:Int) (v8:Int) (cH:Int) (bX:List R4) (bD:Int) (aD:List R6) (bJ:List R4) (bF:Int) (bT:Int) (bP:Nat) (bW:List Int) (aB:List R4)
abbrev y9k (aD:List R6) (v8:Int) (v2:Int):=(aD.set (0+(tn v8)) (R6.mk (rd aD (0+(tn v8))).a (rd aD (0+(tn v8))).b (rd aD (0+(tn v8))).c (rd aD (0+(tn v8))).d (rd aD (0+(tn v8))).e v2))
def v2r (l0:List R6):AFr:=⟨⟨25,0,true⟩,(Vj prog 52 [1,1,1,0,0] 3),(Zb prog 52 [1,1,1,0,0] 1),none,(Zy prog 9),Yg [(0,(.dat l0.length (Zz l0))),(11,(.agg [.nilf])),(13,(.sl 8 0 1 (.un 1)))]⟩
abbrev y9j (aC:List Int):=(Wn (Yd aC.length (cOf (Zz (Xa (Yd aC.length (cOf (Zz aC))))))))
abbrev y9i (aB:List R4) (l0:List R6) (v38:Int):=(aB++[(R4.mk (rd l0 (tn v38)).a (rd l0 (tn v38)).b (rd l0 (tn v38)).d (rd l0 (tn v38)).e)])
abbrev y9h (aD:List R6) (v72:List R4) (v74:Int) (v1:Int) (v2:Int):=(aD++[(R6.mk (rd v72 (tn v74)).a (rd v72 (tn v74)).b v1 (rd v72 (tn v74)).c (rd v72 (tn v74)).d v2)])
def u6w :=(y4a [(0,⟨.ready,none,65,Yg [(2,(.ptr 1 0)),(4,(.ptr 2 0)),(5,(.ptr 3 0)),(6,(.ptr 4 0))],[15],(Wo prog 93 [1,1,0,1,0,0]),(Wo prog 93 [1,1,0,1,0,1])⟩)])
def z2i (l0:List R6):AVal:=(.dat l0.length (Zz l0))
def u6v :AFr:=⟨⟨65,0,true⟩,none,(.inRangeFunc 0::(Zb prog 93 [1,1,0,1,0] 1)),none,(Zy prog 93),Yg [(4,(.ptr 2 0)),(5,(.ptr 3 0)),(6,(.ptr 4 0))]⟩
abbrev y9g (aC:List Int) (l0:List R6) (v16:Int):=(aC++[(rd l0 (tn v16)).c,(rd l0 (tn v16)).f])
def sckC (l0:List R6):sckS→Cfg
 | .h0 v8=>⟨⟨19,0,true⟩,none,(Zb prog 95 [1,0,1,0,0] 0),none,(Zy prog 6),⟨Yg [(0,(z2i l0)),(1,(.fn 91 [])),(7,(ii (l0.length:Int))),(8,(ii v8))],Wt [] 0,0,[],true⟩,[⟨⟨9,0,true⟩,(Vj prog 57 [1,0] 2),(Zb prog 57 [1,0] 1),none,(Zy prog 6),Yg [(5,(z2i l0)),(6,(.fn 91 []))]⟩,⟨⟨25,0,true⟩,(Vj prog 52 [1,1,0,0] 1),(Zb prog 52 [1,1,0,0] 1),none,(Zy prog 9),Yg [(0,(z2i l0)),(8,(z2i l0))]⟩],.leaf⟩
 | .h1 v16 aC=>⟨⟨36,0,true⟩,none,(Zb prog 135 [1,1,0,1,0,0,1,1,0,0,1,1,0,0] 0),none,(Zy prog 9),⟨Yg [(1,(.ptr 0 0)),(3,(.ptr 2 0)),(8,(.sl 1 0 1 (.un 1))),(9,(ii 1)),(10,(ii 0)),(14,(z2i l0)),(15,(ii (l0.length:Int))),(16,(ii v16))],Wt [⟨[(.sl 1 0 1 (.un 1))],177,none⟩,⟨[(z2i l0)],32,none⟩,⟨[(.sla 7 1 0 aC.length (.un 1))],125,none⟩,⟨[.nilf],101,none⟩,⟨[.nils],33,none⟩,⟨[(ii 0)],24,none⟩,⟨[.nils,.nils,(ii 0),(ii 0)],179,none⟩,⟨Ym aC.length (Zz aC),3,some ⟨1,aC.length,(Zz aC)⟩⟩] 0,8,[],true⟩,[⟨⟨65,0,true⟩,(Vj prog 93 [1,1,0,0] 1),(Zb prog 93 [1,1,0,0] 1),none,(Zy prog 93),Yg [(2,(.ptr 3 0)),(4,(.ptr 4 0)),(5,(.ptr 5 0)),(6,(.ptr 6 0)),(13,(.sl 1 0 1 (.un 1)))]⟩,⟨⟨25,0,true⟩,(Vj prog 52 [1,1,1,0,0] 3),(Zb prog 52 [1,1,1,0,0] 1),none,(Zy prog 9),Yg [(0,(z2i l0)),(11,(.agg [.nilf])),(13,(.sl 1 0 1 (.un 1)))]⟩],.leaf⟩
 | .h2 v4 aJ aX bG bH aI aL=>⟨⟨86,0,true⟩,none,(Zb prog 162 [1,0,0] 0),none,[],⟨Yg [(0,(.yld 0)),(1,(.ptr 5 0)),(2,(.ptr 7 0)),(4,(ii v4))],z7i [(1,⟨[.nilf],101,none⟩),(2,⟨[.nils],33,none⟩),(3,⟨[(ii 0)],24,none⟩),(4,⟨[(.sla 9 6 0 aJ.length (.un 6)),(.dat aX.length (Zz aX)),(ii bG),(ii bH)],179,none⟩),(5,⟨[(.sla 6 1 0 aI (.un 1))],125,none⟩),(6,⟨Ym aL.length (Zz aL),3,some ⟨1,aL.length,(Zz aL)⟩⟩),(7,⟨[(.sl 8 0 1 (.un 1))],177,none⟩),(8,⟨[(z2i l0)],32,none⟩),(9,⟨Ym aJ.length (Zz aJ),57,some ⟨6,aJ.length,(Zz aJ)⟩⟩)],10,[],true⟩,[u6v,(v2r l0)],u6w⟩
 | .h3 v4 v38 aJ aX bG bH aI aL aF bC aB=>⟨⟨86,0,true⟩,none,(Zb prog 162 [1,0,0,1,0,0,1,0,1,0,0,1,1,0,0,1,1,0,0] 0),none,[],⟨Yg [(0,(.yld 0)),(1,(.ptr 5 0)),(2,(.ptr 7 0)),(4,(ii v4)),(5,(.ptr 9 0)),(6,(ii 0)),(29,(.sl 8 0 1 (.un 1))),(30,(ii 1)),(31,(ii 0)),(36,(z2i l0)),(37,(ii (l0.length:Int))),(38,(ii v38))],z7i [(1,⟨[.nilf],101,none⟩),(2,⟨[.nils],33,none⟩),(3,⟨[(ii 0)],24,none⟩),(4,⟨[(.sla 12 6 0 aJ.length (.un 6)),(.dat aX.length (Zz aX)),(ii bG),(ii bH)],179,none⟩),(5,⟨[(.sla 6 1 0 aI (.un 1))],125,none⟩),(6,⟨Ym aL.length (Zz aL),3,some ⟨1,aL.length,(Zz aL)⟩⟩),(7,⟨[(.sl 8 0 1 (.un 1))],177,none⟩),(8,⟨[(z2i l0)],32,none⟩),(9,⟨[(ii aF),(ii bC),(.sl 10 0 1 (.ex 1))],184,none⟩),(10,⟨[(.sla 11 4 0 aB.length (.un 4))],80,none⟩),(11,⟨Ym aB.length (Zz aB),116,some ⟨4,aB.length,(Zz aB)⟩⟩),(12,⟨Ym aJ.length (Zz aJ),57,some ⟨6,aJ.length,(Zz aJ)⟩⟩)],13,[],true⟩,[u6v,(v2r l0)],u6w⟩
 | .h4 v1 v2 v72 v73 v74 bX bD aD bJ bF aI aL aF=>⟨⟨101,0,true⟩,none,(Zb prog 136 [1,1,1,0,0] 0),none,[],⟨Yg [(0,(.ptr 0 0)),(1,(ii v1)),(2,(ii v2)),(72,(.dat v72.length (Zz v72))),(73,(ii v73)),(74,(ii v74))],z7i [(0,⟨[(.sla 10 6 0 aD.length (.un 6)),(.dat bJ.length (Zz bJ)),(ii bF),(ii v2)],179,none⟩),(2,⟨[.nilf],101,none⟩),(3,⟨[.nils],33,none⟩),(4,⟨[(ii 0)],24,none⟩),(5,⟨[(.sla 6 1 0 aI (.un 1))],125,none⟩),(6,⟨Ym aL.length (Zz aL),3,some ⟨1,aL.length,(Zz aL)⟩⟩),(7,⟨[(.sl 8 0 1 (.un 1))],177,none⟩),(8,⟨[(z2i l0)],32,none⟩),(9,⟨[(.dat aF.length (Zz aF))],80,none⟩),(10,⟨Ym aD.length (Zz aD),57,some ⟨6,aD.length,(Zz aD)⟩⟩)],11,[],true⟩,[⟨⟨65,0,true⟩,(Vj prog 93 [1,1,0,1,0,1,0,1,1,1] 5),(Zb prog 93 [1,1,0,1,0,1,0,1,1,1] 1),(some 1),[],Yg [(6,(.ptr 0 0)),(54,(ii v1)),(56,(ii v2)),(57,(.dat bX.length (Zz bX)))]⟩,⟨⟨86,0,true⟩,(Vj prog 162 [1,0,0,1,0,0,1,1,0] 2),(Zb prog 162 [1,0,0,1,0,0,1,1,0] 1),none,[],Yg [(0,(.yld 1)),(1,(.ptr 5 0)),(2,(.ptr 7 0)),(4,(ii bD)),(82,(.yld 1)),(83,(.agg [(ii v1),(ii v2),(.sl 9 0 1 (.ex 1))]))]⟩,⟨⟨65,0,true⟩,none,(.inRangeFunc 1::(Zb prog 93 [1,1,0,1,0] 1)),none,(Zy prog 93),Yg [(4,(.ptr 3 0)),(5,(.ptr 4 0)),(6,(.ptr 0 0))]⟩,(v2r l0)],(y4a [(1,⟨.busy,none,65,Yg [(2,(.ptr 2 0)),(4,(.ptr 3 0)),(5,(.ptr 4 0)),(6,(.ptr 0 0))],[15],(Wo prog 93 [1,1,0,1,0,0]),(Wo prog 93 [1,1,0,1,0,1])⟩)])⟩
 | .h5 v2 v8 cH bX bD aD bJ bF bT bP bW aB=>⟨⟨101,0,true⟩,none,(Zb prog 136 [0,1,0,0,1,0,0] 0),none,[],⟨Yg [(0,(.ptr 0 0)),(2,(ii v2)),(8,(ii v8))],z7i [(0,⟨[(.sla 1 6 0 aD.length (.un 6)),(.dat bJ.length (Zz bJ)),(ii bF),(ii bT)],179,none⟩),(1,⟨Ym aD.length (Zz aD),57,some ⟨6,aD.length,(Zz aD)⟩⟩),(3,⟨[.nilf],101,none⟩),(4,⟨[.nils],33,none⟩),(5,⟨[(ii 0)],24,none⟩),(6,⟨[(.sla 7 1 0 bP (.un 1))],125,none⟩),(7,⟨Ym bW.length (Zz bW),3,some ⟨1,bW.length,(Zz bW)⟩⟩),(8,⟨[(.sl 9 0 1 (.un 1))],177,none⟩),(9,⟨[(z2i l0)],32,none⟩),(10,⟨[(.dat aB.length (Zz aB))],80,none⟩)],11,[],true⟩,[⟨⟨65,0,true⟩,(Vj prog 93 [1,1,0,1,0,1,0,1,1,1] 5),(Zb prog 93 [1,1,0,1,0,1,0,1,1,1] 1),(some 2),[],Yg [(6,(.ptr 0 0)),(54,(ii cH)),(56,(ii v2)),(57,(.dat bX.length (Zz bX)))]⟩,⟨⟨86,0,true⟩,(Vj prog 162 [1,0,0,1,0,0,1,1,0] 2),(Zb prog 162 [1,0,0,1,0,0,1,1,0] 1),none,[],Yg [(0,(.yld 2)),(1,(.ptr 6 0)),(2,(.ptr 8 0)),(4,(ii bD)),(82,(.yld 2)),(83,(.agg [(ii cH),(ii v2),(.sl 10 0 1 (.ex 1))]))]⟩,⟨⟨65,0,true⟩,none,(.inRangeFunc 2::(Zb prog 93 [1,1,0,1,0] 1)),none,(Zy prog 93),Yg [(4,(.ptr 4 0)),(5,(.ptr 5 0)),(6,(.ptr 0 0))]⟩,⟨⟨25,0,true⟩,(Vj prog 52 [1,1,1,0,0] 3),(Zb prog 52 [1,1,1,0,0] 1),none,(Zy prog 9),Yg [(0,(z2i l0)),(11,(.agg [.nilf])),(13,(.sl 9 0 1 (.un 1)))]⟩],(y4a [(2,⟨.busy,none,65,Yg [(2,(.ptr 3 0)),(4,(.ptr 4 0)),(5,(.ptr 5 0)),(6,(.ptr 0 0))],[15],(Wo prog 93 [1,1,0,1,0,0]),(Wo prog 93 [1,1,0,1,0,1])⟩)])⟩
def sckN0 :List (Option (List Nat)):=[some [0,1,7,8],some [5,6],some [0,8]]
def sckM0 :List (Option (List Nat)):=[]
def j2a :List (Option (List Nat)):=[some [1,3,8,9,10,14,15,16],some [2,4,5,6,13],some [0,11,13]]
def j2c :List (Option (List Nat)):=[]
def j1z :List (Option (List Nat)):=[some [0,1,2,4],some [4,5,6],some [0,11,13]]
def j2b :List (Option (List Nat)):=[some [2,4,5,6],none,none,none,none,none,none,none,none,none]
def u0a :List (Option (List Nat)):=[some [0,1,2,4,5,6,29,30,31,36,37,38],some [4,5,6],some [0,11,13]]
def u0c :List (Option (List Nat)):=[some [2,4,5,6],none,none,none,none,none,none,none,none,none,none,none,none]
def v9z :List (Option (List Nat)):=[some [0,1,2,72,73,74],some [6,54,56,57],some [0,1,2,4,82,83],some [4,5,6],some [0,11,13]]
def u0b :List (Option (List Nat)):=[none,some [2,4,5,6],none,none,none,none,none,none,none,none,none]
def sckN5 :List (Option (List Nat)):=[some [0,2,8],some [6,54,56,57],some [0,1,2,4,82,83],some [4,5,6],some [0,11,13]]
def sckM5 :List (Option (List Nat)):=[none,none,some [2,4,5,6],none,none,none,none,none,none,none,none]
def Xq (l0:List R6):sckS→Xw sckS
 | .h0 v8=>(bif (decide (v8<(l0.length:Int))) then (bif ((decide (0≤v8∧v8<(l0.length:Int)))&&true) then (bif (!(vl6V (rd l0 v8.toNat).a (rd l0 v8.toNat).b (rd l0 v8.toNat).c (rd l0 v8.toNat).d (rd l0 v8.toNat).e (rd l0 v8.toNat).f)) then (bif (decide (v8≥0)) then (.ret [(.int .i64 8)]) else (.to (.h1 0 ([]:List Int)))) else (.to (.h0 (wrap .i64 (v8+1))))) else .stuck) else (.to (.h1 0 ([]:List Int))))
 | .h1 v16 aC=>(bif (decide (v16<(l0.length:Int))) then (bif ((decide (0≤v16∧v16<(l0.length:Int)))&&true) then (bif (Nat.beq 1 1&&((decide (0+aC.length=aC.length))&&decide ((aC.length+2+1)*(8+1)≤Kj))) then (.to (.h1 (wrap .i64 (v16+1)) (aC++[(rd l0 v16.toNat).c,(rd l0 v16.toNat).f]))) else .stuck) else .stuck) else (bif (decide (aC.length<4611686018427387904)) then (bif (decide (aC.length=aC.length)) then (.to (.h2 1 ([]:List R6) ([]:List R4) 0 0 (v7q (Yd aC.length (cOf (Zz (Xa (Yd aC.length (cOf (Zz aC)))))))) (Wn (Yd aC.length (cOf (Zz (Xa (Yd aC.length (cOf (Zz aC)))))))))) else .stuck) else .stuck))
 | .h2 v4 aJ aX bG bH aI aL=>(bif (decide (v4<((aI:Nat):Int))) then (bif ((decide (0≤(wrap .i64 (v4 - 1))∧(wrap .i64 (v4 - 1))<((aI:Nat):Int)))&&true) then (bif (decide ((0+(Int.toNat (wrap .i64 (v4 - 1))))<aL.length)) then (bif ((decide (0≤v4∧v4<((aI:Nat):Int)))&&true) then (bif (decide ((0+v4.toNat)<aL.length)) then (.to (.h3 v4 0 aJ aX bG bH aI aL (rd aL (0+(Int.toNat (wrap .i64 (v4 - 1))))) (rd aL (0+v4.toNat)) ([]:List R4))) else .stuck) else .stuck) else .stuck) else .stuck) else (bif (decide ((aJ.length:Int)>400)) then (.ret [(.int .i64 8)]) else (bif (Nat.beq 6 6&&(decide (0+aJ.length≤aJ.length)&&z0v (Zz aJ))) then (bif (Vd (lst R6 (aJ.length) (fun k=>(Zz aJ) (0+k))) (cvT l0)) then (bif (!(Ke (lst R6 (aJ.length) (fun k=>(Zz aJ) (0+k))) (cvT l0))) then (.ret [(.int .i64 8)]) else (.ret [(.int .i64 0)])) else .stuck) else .stuck)))
 | .h3 v4 v38 aJ aX bG bH aI aL aF bC aB=>(bif (decide (v38<(l0.length:Int))) then (bif ((decide (0≤v38∧v38<(l0.length:Int)))&&true) then (bif (decide ((rd l0 v38.toNat).c ≤aF)) then (bif (decide (aF<(rd l0 v38.toNat).f)) then (bif (Nat.beq 4 4&&((decide (0+aB.length=aB.length))&&decide ((aB.length+1+1)*(32+1)≤Kj))) then (.to (.h3 v4 (wrap .i64 (v38+1)) aJ aX bG bH aI aL aF bC (aB++[(R4.mk (rd l0 v38.toNat).a (rd l0 v38.toNat).b (rd l0 v38.toNat).d (rd l0 v38.toNat).e)]))) else .stuck) else (.to (.h3 v4 (wrap .i64 (v38+1)) aJ aX bG bH aI aL aF bC aB))) else (.to (.h3 v4 (wrap .i64 (v38+1)) aJ aX bG bH aI aL aF bC aB))) else .stuck) else (bif (Jc (cvT aB)) then (bif ((We (cvT aB)) != 0) then (.ret [(.int .i64 8)]) else (bif (decide ((((Ze (cvT aB)).length :Nat):Int)>0)) then (bif (bH == aF) then (bif (Wm (cvT aX) (cvT (Ze (cvT aB)))) then (bif (Uf (cvT aX) (cvT (Ze (cvT aB)))) then (.to (.h5 bC bG aF (Ze (cvT aB)) v4 aJ aX bG bH aI aL aB)) else (.to (.h4 aF bC (Ze (cvT aB)) (((Ze (cvT aB)).length :Nat):Int) 0 (Ze (cvT aB)) v4 aJ (Ze (cvT aB)) (aJ.length:Int) aI aL aB))) else .stuck) else (.to (.h4 aF bC (Ze (cvT aB)) (((Ze (cvT aB)).length :Nat):Int) 0 (Ze (cvT aB)) v4 aJ (Ze (cvT aB)) (aJ.length:Int) aI aL aB))) else (.to (.h4 aF bC (Ze (cvT aB)) (((Ze (cvT aB)).length :Nat):Int) 0 (Ze (cvT aB)) v4 aJ (Ze (cvT aB)) (aJ.length:Int) aI aL aB)))) else .stuck))
 | .h4 v1 v2 v72 v73 v74 bX bD aD bJ bF aI aL aF=>(bif (decide (v74<v73)) then (bif ((decide (0≤v74∧v74<(v72.length:Int)))&&true) then (bif (Nat.beq 6 6&&((decide (0+aD.length=aD.length))&&decide ((aD.length+1+1)*(48+1)≤Kj))) then (.to (.h4 v1 v2 v72 v73 (wrap .i64 (v74+1)) bX bD (aD++[(R6.mk (rd v72 v74.toNat).a (rd v72 v74.toNat).b v1 (rd v72 v74.toNat).c (rd v72 v74.toNat).d v2)]) bJ bF aI aL aF)) else .stuck) else .stuck) else (.to (.h2 (wrap .i64 (bD+1)) aD bJ bF v2 aI aL)))
 | .h5 v2 v8 cH bX bD aD bJ bF bT bP bW aB=>(bif (decide (v8<(aD.length:Int))) then (bif ((decide (0≤v8∧v8<(aD.length:Int)))&&true) then (bif (decide ((0+v8.toNat)<aD.length)) then (.to (.h5 v2 (wrap .i64 (v8+1)) cH bX bD (aD.set (0+v8.toNat) (R6.mk (rd aD (0+v8.toNat)).a (rd aD (0+v8.toNat)).b (rd aD (0+v8.toNat)).c (rd aD (0+v8.toNat)).d (rd aD (0+v8.toNat)).e v2)) bJ bF bT bP bW aB)) else .stuck) else .stuck) else (.to (.h2 (wrap .i64 (bD+1)) aD bJ bF v2 bP bW)))
def y3c (l0:List R6):Xw sckS:=(bif (decide ((l0.length:Int)>400)) then (.ret [(.int .i64 4)]) else (.to (.h0 0)))
theorem w6x (l0:List R6): ∀s,Xu prog (Zy prog 52) (sckC l0) (sckC l0 s) (Xq l0 s)
 | .h0 v8=>(lb (fun k0=>(lo fun aE=>(lb (fun k1=>(lb (fun k2=>(lr 25 52 [1,1,0,1,0,0] 1 9 [(2,(ii 8))] (sl Vp 53 [] ⟨[],[],[some [2]],[]⟩ ⟨[],[],[]⟩ (trs 3 []) (tt k2 (tt k1 (ww aE (tt k0 nn))))))) (fun k2=>(sl Vp 113 [(3,1,Zz ([]:List Int))] ⟨[6,1,7,2,3,4,5,8],[],j2a,j2c⟩ ⟨[],[.keep,.keep,.cells [.grow 7 1],.keep,.keep,.keep,.keep,.keep],[]⟩ (bl 4 11) (pp (fl ([]:List Int) nn) (tt k2 (tt k1 (ww aE (tt k0 nn))))))))) (fun k1=>(sl Vp 44 [] ⟨[],[],sckN0,sckM0⟩ ⟨[],[],[]⟩ (bl 2 1) (tt k1 (ww aE (tt k0 nn)))))))) (fun k0=>(sl Vp 82 [(3,1,Zz ([]:List Int))] ⟨[5,0,6,1,2,3,4,7],[],j2a,j2c⟩ ⟨[],[.keep,.keep,.cells [.grow 7 1],.keep,.keep,.keep,.keep,.keep],[]⟩ (bl 3 4) (pp (fl ([]:List Int) nn) (tt k0 nn)))))
 | .h1 v16 aC=>(lb (fun k0=>(lo fun o0=>(lo fun o1=>(sl Vp 34 [] ⟨[0,1,2,3,4,5,6,10],[],j2a,j2c⟩ ⟨[],[.keep,.keep,.cells [.len (y9g aC l0 v16).length],.keep,.keep,.keep,.keep,.rowed 1 (y9g aC l0 v16).length (Zz (y9g aC l0 v16))],[]⟩ [true] (pp (xL (aC.length+2) (y9g aC l0 v16).length) (pp (xL (aC.length+2) (y9g aC l0 v16).length) (pp (xS (aC.length+2) (Yy (Zz aC) 0 aC.length 1 [(ii (rd l0 (tn v16)).c),(ii (rd l0 (tn v16)).f)]) (Zz (y9g aC l0 v16))) (pp (pp (xF (Yy (Zz aC) 0 aC.length 1 [(ii (rd l0 (tn v16)).c),(ii (rd l0 (tn v16)).f)])) nn) (ww o1 (ww o0 (tt k0 nn))))))))))) (fun k0=>(lo fun o0=>(lo fun o1=>(sl Vp 46 [(57,6,Zz ([]:List R6))] ⟨[8,3,4,5,6,2,7,0,1,9],[],j1z,j2b⟩ ⟨[],(kpB 4 [.cells [.grow 9 6,.list 0 (Zz ([]:List R4)),.keep,.keep],.keep,.rowed 1 (y9j aC).length (Zz (y9j aC)),.keep,.keep,.keep]),[]⟩ (bl 2 0) (pp (xL aC.length (y9j aC).length (by first | exact z2p _ _ | exact Un rfl)) (pp (xS aC.length (Zz (y9j aC)) (Zz (y9j aC))) (pp (fl (y9j aC) (fl ([]:List R6) nn)) (pp (pp (xG (Nat.beq 1 1)) (pp (xG (Nat.beq 1 1)) (pp (xG (Nat.beq 0 0)) (pp (xG (decide (aC.length=aC.length))) (pp (xG (isI (Zz (Xa (Yd aC.length (cOf (Zz aC))))))) (xG (decide (aC.length<4611686018427387904)))))))) (pp (pp (xG (Nat.beq 1 1)) (pp (xG (Nat.beq 1 1)) (pp (xG (Nat.beq 0 0)) (pp (xG (decide (aC.length=aC.length))) (pp (xG (isI (Zz aC))) (xG (decide (aC.length<4611686018427387904)))))))) (tt k0 nn)))))))))))
 | .h2 v4 aJ aX bG bH aI aL=>(lb (fun k0=>(lo fun o0=>(lo fun o1=>(lo fun o2=>(lo fun o3=>(sl Vp 48 [(116,4,Zz ([]:List R4))] ⟨[0,1,2,3,4,5,6,7,8,10,11,12,9],[],u0a,u0c⟩ ⟨[],(kpB 10 [.cells [.grow 11 4],.keep,.keep]),[]⟩ (trs 3 []) (pp (fl aL (fl ([]:List R4) (fl aJ nn))) (ww o3 (ww o2 (ww o1 (ww o0 (tt k0 nn)))))))))))) (fun k0=>(lb (fun k1=>(lr 25 52 [1,1,1,0,1,1,0,0] 1 9 [(2,(ii 8))] (sl Vp 50 [] ⟨[],[],[some [2]],[]⟩ ⟨[],[],[]⟩ (bl 7 126) (tt k1 (tt k0 nn))))) (fun k1=>(lo fun bU=>(lo fun dS=>(lb (fun k2=>(lr 25 52 [1,1,1,0,1,1,0,0] 1 9 [(2,(ii 8))] (sl Vp 53 [] ⟨[],[],[some [2]],[]⟩ ⟨[],[],[]⟩ (bl 7 64) (tt k2 (pp (pp (pp (xw bU) (pp nn nn)) (pp (xI R6 (aJ.length) (fun k=>(Zz aJ) (0+k))) (pp (xr l0) (xw dS)))) (tt k1 (tt k0 nn))))))) (fun k2=>(lr 25 3 [1,1,1,1,0] 1 9 [(2,(ii 0))] (sl Vp 54 [] ⟨[],[],[some [2]],[]⟩ ⟨[],[],[]⟩ (bl 7 0) (tt k2 (pp (pp (pp (xw bU) (pp nn nn)) (pp (xI R6 (aJ.length) (fun k=>(Zz aJ) (0+k))) (pp (xr l0) (xw dS)))) (tt k1 (tt k0 nn))))))))))))))
 | .h3 v4 v38 aJ aX bG bH aI aL aF bC aB=>(lb (fun k0=>(lo fun aE=>(lb (fun k1=>(lb (fun k2=>(lo fun o0=>(sl Vp 41 [] ⟨[0,1,2,3,4,5,6,7,8,9,10,15,12],[],u0a,u0c⟩ ⟨[],(kpB 10 [.cells [.len (y9i aB l0 v38).length],.rowed 4 (y9i aB l0 v38).length (Zz (y9i aB l0 v38)),.keep]),[]⟩ (trs 8 []) (pp (xL (aB.length+1) (y9i aB l0 v38).length) (pp (xL (aB.length+1) (y9i aB l0 v38).length) (pp (xS (aB.length+1) (Yy (Zz aB) 0 aB.length 4 [(ii (rd l0 (tn v38)).a),(ii (rd l0 (tn v38)).b),(ii (rd l0 (tn v38)).d),(ii (rd l0 (tn v38)).e)]) (Zz (y9i aB l0 v38))) (pp (fl aL (pp (xF (Yy (Zz aB) 0 aB.length 4 [(ii (rd l0 (tn v38)).a),(ii (rd l0 (tn v38)).b),(ii (rd l0 (tn v38)).d),(ii (rd l0 (tn v38)).e)])) (fl aJ nn))) (ww o0 (tt k2 (tt k1 (ww aE (tt k0 nn)))))))))))) (fun k2=>(sl Vp 41 [] ⟨(List.range 13),[],u0a,u0c⟩ ⟨[],[],[]⟩ (trs 7 [false]) (pp (fl aL (fl aB (fl aJ nn))) (tt k2 (tt k1 (ww aE (tt k0 nn))))))))) (fun k1=>(sl Vp 41 [] ⟨(List.range 13),[],u0a,u0c⟩ ⟨[],[],[]⟩ (bl 8 1) (pp (fl aL (fl aB (fl aJ nn))) (tt k1 (ww aE (tt k0 nn))))))))) (fun k0=>(Xd (sl Vp (C':=⟨⟨65,0,true⟩,(Vj prog 93 [1,1,0,1,0,1,0,0] 4),(Zb prog 93 [1,1,0,1,0,1,0,0] 1),(some 0),[],⟨Yg [(2,(.ptr 1 0)),(4,(.ptr 2 0)),(5,(.ptr 3 0)),(6,(.ptr 4 0)),(7,(.ptr 6 0)),(20,(.dat aB.length (Zz aB)))],z7i [(1,⟨[.nilf],101,none⟩),(2,⟨[.nils],33,none⟩),(3,⟨[(ii 0)],24,none⟩),(4,⟨[(.sla 5 6 0 aJ.length (.un 6)),(.dat aX.length (Zz aX)),(ii bG),(ii bH)],179,none⟩),(5,⟨Ym aJ.length (Zz aJ),57,some ⟨6,aJ.length,(Zz aJ)⟩⟩),(6,⟨[(ii aF),(ii bC),(.sl 7 0 1 (.ex 1))],184,none⟩),(7,⟨[(.dat aB.length (Zz aB))],80,none⟩),(8,⟨[(.sla 9 1 0 aI (.un 1))],125,none⟩),(9,⟨Ym aL.length (Zz aL),3,some ⟨1,aL.length,(Zz aL)⟩⟩),(10,⟨[(.sl 11 0 1 (.un 1))],177,none⟩),(11,⟨[(.dat l0.length (Zz l0))],32,none⟩)],12,[],true⟩,[⟨⟨86,0,true⟩,(Vj prog 162 [1,0,0,1,0,0,1,1,0] 2),(Zb prog 162 [1,0,0,1,0,0,1,1,0] 1),none,[],Yg [(0,(.yld 0)),(1,(.ptr 8 0)),(2,(.ptr 10 0)),(4,(ii v4)),(82,(.yld 0)),(83,(.agg [(ii aF),(ii bC),(.sl 7 0 1 (.ex 1))]))]⟩,⟨⟨65,0,true⟩,none,(.inRangeFunc 0::(Zb prog 93 [1,1,0,1,0] 1)),none,(Zy prog 93),Yg [(4,(.ptr 2 0)),(5,(.ptr 3 0)),(6,(.ptr 4 0))]⟩,⟨⟨25,0,true⟩,(Vj prog 52 [1,1,1,0,0] 3),(Zb prog 52 [1,1,1,0,0] 1),none,(Zy prog 9),Yg [(0,(.dat l0.length (Zz l0))),(11,(.agg [.nilf])),(13,(.sl 11 0 1 (.un 1)))]⟩],(y4a [(0,⟨.busy,none,65,Yg [(2,(.ptr 1 0)),(4,(.ptr 2 0)),(5,(.ptr 3 0)),(6,(.ptr 4 0))],[15],(Wo prog 93 [1,1,0,1,0,0]),(Wo prog 93 [1,1,0,1,0,1])⟩)])⟩) 37 [] ⟨[0,1,2,3,4,12,13,10,5,6,7,8],[11],[some [2,4,5,6,7,20],some [0,1,2,4,82,83],some [4,5,6],some [0,11,13]],[some [2,4,5,6],none,none,none,none,none,none,none,none,none,none,none]⟩ ⟨[(20,.frz aB.length aB.length (Zz aB) (Zz aB))],[.keep,.keep,.keep,.keep,.keep,.keep,.keep,.cells [.frz aB.length aB.length (Zz aB) (Zz aB)],.keep,.keep,.keep,.keep],[]⟩ (bl 2 0) (pp (xZ (z7j 4 4 0 aB.length aB.length (Zz aB)) aB.length (Zz aB)) (pp (xL aB.length aB.length) (pp (xS aB.length (Zz aB) (Zz aB)) (pp (xZ (z7j 4 4 0 aB.length aB.length (Zz aB)) aB.length (Zz aB)) (pp (xL aB.length aB.length) (pp (xS aB.length (Zz aB) (Zz aB)) (pp (fl aJ (fl aL nn)) (pp (fl aB nn) (tt k0 nn)))))))))) (lo fun aE=>(lb (fun k1=>(lr 25 52 [1,1,1,0,1,1,0,0] 1 9 [(2,(ii 8))] (sl Vp 67 [] ⟨[],[],[some [2]],[]⟩ ⟨[],[],[]⟩ (bl 8 254) (tt k1 (tt k1 (pp (pp (xr aB) (xw aE)) nn)))))) (fun k1=>(lb (fun k2=>(lb (fun k3=>(lo fun cD=>(lb (fun k4=>(sl Vp 75 [] ⟨[4,5,0,1,2,3,8,9,10,11,7],[],sckN5,sckM5⟩ ⟨[],[],[]⟩ (bl 15 32764) (pp (fl aJ (fl aL nn)) (tt k4 (pp (pp (xr aX) (pp (xI R4 (Ze (cvT aB)).length (Zz (Ze (cvT aB)))) (xw cD))) (tt k3 (tt k2 (tt k1 (pp (pp (xr aB) (xw aE)) nn))))))))) (fun k4=>(sl Vp 95 [] ⟨[4,0,1,2,3,8,9,10,11,7,5],[],v9z,u0b⟩ ⟨[],[],[]⟩ (bl 15 16380) (pp (fl aL (fl aJ nn)) (tt k4 (pp (pp (xr aX) (pp (xI R4 (Ze (cvT aB)).length (Zz (Ze (cvT aB)))) (xw cD))) (tt k3 (tt k2 (tt k1 (pp (pp (xr aB) (xw aE)) nn)))))))))))) (fun k3=>(sl Vp 95 [] ⟨[4,0,1,2,3,8,9,10,11,7,5],[],v9z,u0b⟩ ⟨[],[],[]⟩ (bl 15 252) (pp (fl aL (fl aJ nn)) (tt k3 (tt k2 (tt k1 (pp (pp (xr aB) (xw aE)) nn))))))))) (fun k2=>(sl Vp 95 [] ⟨[4,0,1,2,3,8,9,10,11,7,5],[],v9z,u0b⟩ ⟨[],[],[]⟩ (bl 15 0) (pp (fl aL (fl aJ nn)) (tt k2 (tt k1 (pp (pp (xr aB) (xw aE)) nn)))))))))))))
 | .h4 v1 v2 v72 v73 v74 bX bD aD bJ bF aI aL aF=>(lb (fun k0=>(lo fun o0=>(lo fun o1=>(sl Vp 23 [] ⟨[0,1,2,3,4,5,6,7,8,9,13],[],v9z,u0b⟩ ⟨[],[.cells [.len (y9h aD v72 v74 v1 v2).length,.keep,.keep,.keep],.keep,.keep,.keep,.keep,.keep,.keep,.keep,.keep,.keep,.rowed 6 (y9h aD v72 v74 v1 v2).length (Zz (y9h aD v72 v74 v1 v2))],[]⟩ [true] (pp (xL (aD.length+1) (y9h aD v72 v74 v1 v2).length) (pp (xL (aD.length+1) (y9h aD v72 v74 v1 v2).length) (pp (xS (aD.length+1) (Yy (Zz aD) 0 aD.length 6 [(ii (rd v72 (tn v74)).a),(ii (rd v72 (tn v74)).b),(ii v1),(ii (rd v72 (tn v74)).c),(ii (rd v72 (tn v74)).d),(ii v2)]) (Zz (y9h aD v72 v74 v1 v2))) (pp (fl aL (pp (xF (Yy (Zz aD) 0 aD.length 6 [(ii (rd v72 (tn v74)).a),(ii (rd v72 (tn v74)).b),(ii v1),(ii (rd v72 (tn v74)).c),(ii (rd v72 (tn v74)).d),(ii v2)])) nn)) (ww o1 (ww o0 (tt k0 nn))))))))))) (fun k0=>(sl Vp 22 [] ⟨[1,2,3,4,0,5,6,7,8,10],[],j1z,j2b⟩ ⟨[],[],[]⟩ (bl 2 0) (pp (fl aL (fl aD nn)) (tt k0 nn)))))
 | .h5 v2 v8 cH bX bD aD bJ bF bT bP bW aB=>(lb (fun k0=>(lo fun o0=>(lo fun o1=>(sl Vp 34 [] ⟨(List.range 11),[],sckN5,sckM5⟩ ⟨[],[.cells [.len (y9k aD v8 v2).length,.keep,.keep,.keep],.rowed 6 (y9k aD v8 v2).length (Zz (y9k aD v8 v2)),.keep,.keep,.keep,.keep,.keep,.keep,.keep,.keep,.keep],[]⟩ [true] (pp (xL aD.length (y9k aD v8 v2).length) (pp (xL aD.length (y9k aD v8 v2).length) (pp (xS aD.length (Xh (Zz aD) (0+(tn v8)) 5 [(ii v2)]) (Zz (y9k aD v8 v2))) (pp (pp (xF (Xh (Zz aD) (0+(tn v8)) 5 [(ii v2)])) (fl bW nn)) (ww o1 (ww o0 (tt k0 nn))))))))))) (fun k0=>(sl Vp 36 [] ⟨[2,3,4,5,0,6,7,8,9,1],[],j1z,j2b⟩ ⟨[],[],[]⟩ (bl 2 0) (pp (fl bW (fl aD nn)) (tt k0 nn)))))
theorem x8a (l0:List R6):Xu prog (Zy prog 52) (sckC l0) (Za prog 52 [(.dat l0.length (Zz l0))] true []) (y3c l0):=(lb (fun k0=>(lr 25 52 [1,0,1,0,0] 1 9 [(2,(ii 4))] (sl Vp 16 [] ⟨[],[],[some [2]],[]⟩ ⟨[],[],[]⟩ [true] (tt k0 nn)))) (fun k0=>(sl Vp 40 [] ⟨[],[],sckN0,sckM0⟩ ⟨[],[],[]⟩ [false] (tt k0 nn))))
theorem v9y (l0:List R6) (n:Nat) (vs:List AVal) (h:Yx (Xq l0) n (y3c l0)=.ret vs):Ur prog (Zy prog 52) (Za prog 52 [(.dat l0.length (Zz l0))] true []) vs:=by have:=Zc (w6x l0) n _ (x8a l0);rwa [h] at this
theorem x9e (l:List R4):(Ze l).length ≤400:=by
 grind [Ze]
def D6 :Dim R6 R4:=⟨R6.c,R6.f,fun r=>⟨r.a,r.b,r.d,r.e⟩,fun x x' s=>⟨s.a,s.b,x,s.c,s.d,x'⟩,fun x r=>⟨r.a,r.b,r.c,r.d,r.e,x⟩,Ze,Uf⟩
theorem D6_sec (l:List R6) (x:Int):(D6.sec l x).length ≤1000:=AE (x9e _) (by omega)
def sckErr :List AVal:=[.int .i64 8]
def x4i (l out:List R6):List AVal:=bif decide ((out.length:Int)>400) then [.int .i64 8] else bif Ke out l then [.int .i64 0] else [.int .i64 8]
def badS (l:List R6) (x:Int):Bool:=We (D6.inn l x) != 0
def okF (l:List R6):Nat→Nat→Bool
 | 0,_=>true
 | k+1,i=>bif badS l (rd (D6.cuts l) i) then false else okF l k (i+1)
section
variable (l:List R6) (hl:l.length≤400)
include hl
theorem u6r (i:Nat) (out:List R6) (last:List R4) (first fin x x':Int): ∀(k j:Nat) (acc:List R4),j+k=l.length→acc.length≤j→
  ∃n,∀N,Yx (Xq l) (N+n) (.to (.h3 (i:Int) (j:Int) out last first fin ((D6.cuts l).length) (Wn (Xa (D6.ends l))) x x' acc))=Yx (Xq l) N (.to (.h3 (i:Int) (l.length:Int) out last first fin ((D6.cuts l).length) (Wn (Xa (D6.ends l))) x x' (acc++D6.inn (l.drop j) x)))
 | 0,j,acc,h,ha=>by refine ⟨0,fun N=> ?_⟩;rw [As (by omega),show D6.inn ([]:List R6) x=[] from rfl,AF,A7,show j=l.length by omega]
 | k+1,j,acc,h,ha=>by
  have hj:j<l.length:=by omega
  obtain ⟨n,hn⟩:=u6r i out last first fin x x' k (j+1) (acc++D6.inn [rd l j] x) (by omega) (by have:=D6.inn_length [rd l j] x;grind)
  refine ⟨n+1,fun N=> ?_⟩;have e:D6.inn (l.drop j) x=D6.inn [rd l j] x++D6.inn (l.drop (j+1)) x:=by rw [Yq hj,←D6.inn_append];rfl
  rw [e,←AC,Zw,←AN,←hn N];by_cases h1:D6.lo (rd l j)≤x
  ·by_cases h2:x<D6.hi (rd l j)
   ·rw [D6.inn_t _ _ h1 h2];simp only [D6] at h1 h2 ⊢;simp (disch:=omega) only [Xq,Xo,Zd,Zq,Zs,Zt,Yb,Yw,Yu,Zf,Zk,Zx,Yc,Zj,Af,Ao,Ah,Ak,Ae,Ac]
   ·rw [D6.inn_f2 _ _ h2,AF];simp only [D6] at h1 h2;simp (disch:=omega) only [Xq,Xo,Yf,Zd,Zq,Zs,Zt,Yb,Yw,Yu,Zf,Zk,Zx,Yc,Zj,Af,Ao,Ah,Ak,Ae,Ac]
  ·rw [D6.inn_f1 _ _ h1,AF];simp only [D6] at h1;simp (disch:=omega) only [Xq,w9t,Zd,Zq,Zs,Zt,Yb,Yw,Yu,Zf,Zk,Zx,Yc,Zj,Af,Ao,Ah,Ak,Ae,Ac]
theorem u6q (i:Nat) (hi:i≤1000) (x x':Int) (s last:List R4) (first:Int) (inn:List R4) (hs:s.length≤1000): ∀(k j:Nat) (out:List R6),j+k=s.length→out.length≤10000000+j→
  ∃n,∀N,Yx (Xq l) (N+n) (.to (.h4 x x' s (s.length:Int) (j:Int) s (i:Int) out last first ((D6.cuts l).length) (Wn (Xa (D6.ends l))) inn))=Yx (Xq l) N (.to (.h2 ((i+1:Nat):Int) (out++(s.drop j).map (D6.put x x')) last first x' ((D6.cuts l).length) (Wn (Xa (D6.ends l)))))
 | 0,j,out,h,ho=>by
  have _u:=hl;refine ⟨1,fun N=> ?_⟩
  grind [Zw,Xq,Zk]
 | k+1,j,out,h,ho=>by
  obtain ⟨n,hn⟩:=u6q i hi x x' s last first inn hs k (j+1) (out++[D6.put x x' (rd s j)]) (by omega) (by simp;omega)
  refine ⟨n+1,fun N=> ?_⟩;have:=hn N;rw [Yq (show j<s.length by omega),AU,←AC,Zw];simp (disch:=omega) only [Xq,Zd,Zq,Zs,Zt,Yb,Yw,Yu,Zf,Zk,Zx,Yc,Zj,Af,Ao,Ah,Ak,Ae,Ac];rw [AN] at this;exact this
theorem u6p (i:Nat) (hi:i≤1000) (x x' fin:Int) (s last:List R4) (first:Int) (inn:List R4): ∀(k j:Nat) (out:List R6),j+k=out.length→out.length≤10000000→
  ∃n,∀N,Yx (Xq l) (N+n) (.to (.h5 x' (j:Int) x s (i:Int) out last first fin ((D6.cuts l).length) (Wn (Xa (D6.ends l))) inn))=Yx (Xq l) N (.to (.h2 ((i+1:Nat):Int) (D6.grow out j x') last first x' ((D6.cuts l).length) (Wn (Xa (D6.ends l)))))
 | 0,j,out,h,ho=>by
  have _u:=hl;refine ⟨1,fun N=> ?_⟩;rw [D6.grow_nil _ _ _ (by omega),Zw]
  grind [Xq,Zk]
 | k+1,j,out,h,ho=>by
  obtain ⟨n,hn⟩:=u6p i hi x x' fin s last first inn k (j+1) (out.set j (D6.ext x' (rd out j))) (by simp;omega) (by grind)
  refine ⟨n+1,fun N=> ?_⟩;have:=hn N;rw [D6.grow_set out j _ (by omega)] at this;rw [←AC,Zw];simp (disch:=omega) only [Xq,Zd,Zq,Zs,Zt,Yb,Yw,Yu,Zf,Zk,Zx,Yc,Zj,Af,Ao,Ah,Ak,Ae,Ac];exact this
theorem v2q : ∀(k i:Nat) (s:Sw R6 R4),k=(D6.cuts l).length - 1 - i→i≤(D6.cuts l).length →s.out.length≤i*1000→s.last.length≤1000→s.first≤s.out.length→
  ∃n,Yx (Xq l) n (.to (.h2 ((i+1:Nat):Int) s.out s.last (s.first:Int) s.fin ((D6.cuts l).length) (Wn (Xa (D6.ends l)))))=.ret ((bif okF l k i then x4i l (D6.go l k i s).out else sckErr))
 | 0,i,s,h,hi,ho,hla,hf=>by
  have hc:=D6.cuts_length l;refine ⟨1,?_⟩;rw [Zw,show D6.go l 0 i s=s from rfl,show okF l 0 i=true from rfl,Ae];unfold x4i;by_cases q:(s.out.length:Int)>400
  ·grind [Xq,Zp]
  ·have e:lst R6 s.out.length (fun k=>(Zz s.out) k)=s.out:=Zq s.out;have w:Vd s.out l=true:=An (by omega);have f:z0v (Zz s.out)=true:=Xm _;rcases Yk (Ke s.out l) with q2 | q2 <;>
   simp (disch:=omega) only [Xq,Zd,e,w,f,q2,Yf,Xt,Yb,Yc,Af,Av,AA,Ah,Ae,Ac,Zp]
 | k +1,i,s,h,hi,ho,hla,hf=>by
  have hc:=D6.cuts_length l;have hi1:i+1<(D6.cuts l).length :=by omega
  have hpl:(Wn (Xa (D6.ends l))).length =2*l.length:=by rw [Jy,Vm,D6.ends_length]
  have r0:rd (Wn (Xa (D6.ends l))) i=rd (D6.cuts l) i:=z5z _ _ (by show i<(D6.cuts l).length;omega);have r1:rd (Wn (Xa (D6.ends l))) (i+1)=rd (D6.cuts l) (i+1):=z5z _ _ (by show i+1<(D6.cuts l).length;omega);have hbig:i*1000≤1000*1000:=Az _ (by omega);have hsl:=D6_sec l (rd (D6.cuts l) i);have hsd:D6.sec l (rd (D6.cuts l) i)=Ze (D6.inn l (rd (D6.cuts l) i)):=rfl;obtain ⟨n3,h3⟩:=u6r l hl (i+1) s.out s.last (s.first:Int) s.fin (rd (D6.cuts l) i) (rd (D6.cuts l) (i+1)) l.length 0 [] (Af _) (Aq _);simp only [AT,A8,z7e] at h3;have w1:Jc (D6.inn l (rd (D6.cuts l) i))=true:=rfl;have w2:Wm s.last (Ze (D6.inn l (rd (D6.cuts l) i)))=true:=An (by omega);have ol:=D6.one_length l (rd (D6.cuts l) i) (rd (D6.cuts l) (i+1)) s;have st0: ∀N,Yx (Xq l) (N+n3+1) (.to (.h2 ((i+1:Nat):Int) s.out s.last (s.first:Int) s.fin ((D6.cuts l).length) (Wn (Xa (D6.ends l)))))=Yx (Xq l) N (.to (.h3 ((i+1:Nat):Int) (l.length:Int) s.out s.last (s.first:Int) s.fin ((D6.cuts l).length) (Wn (Xa (D6.ends l))) (rd (D6.cuts l) i) (rd (D6.cuts l) (i+1)) (D6.inn l (rd (D6.cuts l) i)))):=fun N=>by
   rw [←h3 N,Zw];have e1:wrap .i64 (((i+1:Nat):Int) - 1)=(i:Int):=by rw [Zn];exact Zk (by omega)
   simp (disch:=omega) only [Xq,e1,r0,r1,Zd,Zq,Zs,Zt,Yb,Yw,Yu,Zf,Zk,Zx,Yc,Zj,Af,Ao,Ah,Ak,Ae,Ac]
  rcases Yk (badS l (rd (D6.cuts l) i)) with q0 | q0
  ·refine ⟨1+n3+1,?_⟩;rw [st0 1,Zw];simp only [okF,q0,Ae,Ac];have q0':(We (D6.inn l (rd (D6.cuts l) i)) != 0)=true:=q0;simp (disch:=omega) only [Xq,Zd,Zq,Yf,q0',w1,Ae,Ac,Zp];rfl
  have q0':(We (D6.inn l (rd (D6.cuts l) i)) != 0)=false:=q0;rcases Yk (decide (0<(D6.sec l (rd (D6.cuts l) i)).length)&&((s.fin == rd (D6.cuts l) i)&&D6.same s.last (D6.sec l (rd (D6.cuts l) i)))) with q | q
  ·obtain ⟨n5,h5⟩:=u6p l hl (i+1) (by omega) (rd (D6.cuts l) i) (rd (D6.cuts l) (i+1)) s.fin (D6.sec l (rd (D6.cuts l) i)) s.last (s.first:Int) (D6.inn l (rd (D6.cuts l) i)) (s.out.length - s.first) s.first s.out (by omega) (by omega)
   have e:D6.one l (rd (D6.cuts l) i) (rd (D6.cuts l) (i+1)) s=⟨D6.grow s.out s.first (rd (D6.cuts l) (i+1)),s.last,s.first,rd (D6.cuts l) (i+1)⟩:=by unfold Dim.one;rw [q];rfl
   obtain ⟨n0,h0⟩:=v2q k (i+1) (D6.one l (rd (D6.cuts l) i) (rd (D6.cuts l) (i+1)) s) (by omega) (by omega) (by omega) (by grind) (by grind [Dim.grow_length]);refine ⟨n0+n5+1+n3+1,?_⟩;rw [st0 (n0+n5+1),Zw];simp only [Ad,Ar] at q;obtain ⟨q1,q2,q3⟩:=q;have q3':Uf s.last (Ze (D6.inn l (rd (D6.cuts l) i)))=true:=q3
   grind [Xq,Zd,okF,Dim.go]
  ·obtain ⟨n4,h4⟩:=u6q l hl (i+1) (by omega) (rd (D6.cuts l) i) (rd (D6.cuts l) (i+1)) (D6.sec l (rd (D6.cuts l) i)) (D6.sec l (rd (D6.cuts l) i)) (s.out.length:Int) (D6.inn l (rd (D6.cuts l) i)) hsl (D6.sec l (rd (D6.cuts l) i)).length 0 s.out (Af _) (by omega);simp only [AT,z7e] at h4;have e:D6.one l (rd (D6.cuts l) i) (rd (D6.cuts l) (i+1)) s=⟨s.out++(D6.sec l (rd (D6.cuts l) i)).map (D6.put (rd (D6.cuts l) i) (rd (D6.cuts l) (i+1))),D6.sec l (rd (D6.cuts l) i),s.out.length,rd (D6.cuts l) (i+1)⟩:=by unfold Dim.one;rw [q];rfl
   obtain ⟨n0,h0⟩:=v2q k (i+1) (D6.one l (rd (D6.cuts l) i) (rd (D6.cuts l) (i+1)) s) (by omega) (by omega) (by omega) (by grind) (by rw [e];simp);have hg:Yx (Xq l) 1 (.to (.h3 ((i+1:Nat):Int) (l.length:Int) s.out s.last (s.first:Int) s.fin ((D6.cuts l).length) (Wn (Xa (D6.ends l))) (rd (D6.cuts l) i) (rd (D6.cuts l) (i+1)) (D6.inn l (rd (D6.cuts l) i))))=.to (.h4 (rd (D6.cuts l) i) (rd (D6.cuts l) (i+1)) (D6.sec l (rd (D6.cuts l) i)) ((D6.sec l (rd (D6.cuts l) i)).length :Int) 0 (D6.sec l (rd (D6.cuts l) i)) ((i+1:Nat):Int) s.out (D6.sec l (rd (D6.cuts l) i)) (s.out.length:Int) ((D6.cuts l).length) (Wn (Xa (D6.ends l))) (D6.inn l (rd (D6.cuts l) i))):=by
    rw [show (1:Nat)=0+1 from rfl,Zw];rw [hsd] at q ⊢;have e3:D6.same s.last (Ze (D6.inn l (rd (D6.cuts l) i)))=Uf s.last (Ze (D6.inn l (rd (D6.cuts l) i))):=rfl;rw [e3] at q;by_cases q1:0<(Ze (D6.inn l (rd (D6.cuts l) i))).length
    ·rw [An q1,Ak] at q;rcases Yk (s.fin == rd (D6.cuts l) i) with q2 | q2
     ·rw [q2,Ak] at q;simp (disch:=omega) only [Xq,Zd,Zq,Yf,Xy,q0',q2,q,w1,w2,Ae,Ac];rfl
     ·simp (disch:=omega) only [Xq,Zd,Zq,Yf,Xy,q0',q2,w1,w2,Ae,Ac];rfl
    ·simp (disch:=omega) only [Xq,Zd,Zq,Yf,Xt,q0',w1,w2,Ae,Ac];rfl
   refine ⟨n0+n4+1+n3+1,?_⟩;simp_all [z8u,okF,Dim.go]
theorem u6s : ∀(k i:Nat) (acc:List Int),i+k=l.length→acc=D6.ends (l.take i)→ ∃n,Yx (Xq l) n (.to (.h1 (i:Int) acc))=.ret ((bif okF l ((D6.cuts l).length - 1) 0 then x4i l (D6.go l ((D6.cuts l).length - 1) 0 ⟨[],[],0,0⟩).out else sckErr))
 | 0,i,acc,h,ha=>by
  have e:acc=D6.ends l:=by grind
  subst e;have hle:=D6.ends_length l;obtain ⟨n,hn⟩:=v2q l hl ((D6.cuts l).length - 1) 0 ⟨[],[],0,0⟩ (by omega) (AB _) (AB _) (AB _) (AB _);refine ⟨n+1,?_⟩;rw [Zw];simp (disch:=omega) only [Xq,Jo,z0n,y0w,Yf,Yw,Yu,Ao,Ae,Ac];exact hn
 | k+1,i,acc,h,ha=>by
  have hle:=D6.ends_length (l.take i);have hacc:acc.length≤2*i:=by grind
  obtain ⟨n,hn⟩:=u6s k (i+1) (acc++D6.ends [rd l i]) (by omega) (by
   rw [ha,A2];have:l[i]? =some (rd l i):=by grind [Yo]
   rw [this,D6.ends_append];rfl)
  refine ⟨n+1,?_⟩;rw [Zw];simp (disch:=omega) only [Xq,Zd,Zq,Zs,Zt,Yb,Yw,Yu,Zf,Zk,Zx,Yc,Zj,Af,Ao,Ah,Ak,Ae,Ac];exact hn
theorem u6t : ∀(k i:Nat),i+k=l.length→(∀s∈l.take i,z4e s=true)→ ∃n,Yx (Xq l) n (.to (.h0 (i:Int)))=.ret (bif l.all z4e then (bif okF l ((D6.cuts l).length - 1) 0 then x4i l (D6.go l ((D6.cuts l).length - 1) 0 ⟨[],[],0,0⟩).out else sckErr) else sckErr)
 | 0,i,h,ht=>by
  have hv:l.all z4e=true:=At.2 fun s hs=>ht s (by grind);obtain ⟨n,hn⟩:=u6s l hl l.length 0 [] (Af _) rfl;refine ⟨n+1,?_⟩
  grind [Zw,Xq]
 | k+1,i,h,ht=>by
  have hi:i<l.length:=by omega
  have hs:Xq l (.h0 (i:Int))=bif z4e (rd l i) then .to (.h0 ((i+1:Nat):Int)) else .ret sckErr:=by have e:vl6V (rd l i).a (rd l i).b (rd l i).c (rd l i).d (rd l i).e (rd l i).f =z4e (rd l i):=rfl;simp (disch:=omega) only [Xq,e,y7d,w5m,v7b,Zt,Zk,Zx,Zj,Ah,Ae,Ac];rfl
  rcases Yk (z4e (rd l i)) with q | q
  ·obtain ⟨n,hn⟩:=u6t k (i+1) (by omega) (fun s hs=>by
    rw [A2] at hs
    grind [Yo])
   refine ⟨n+1,?_⟩
   grind [Zw]
  ·have hv:l.all z4e=false:=A1.2 fun e=>by
    grind [Yo]
   refine ⟨1,?_⟩
   grind [Zw,Zp]
end
def Zr (l:List R6):Int:=bif decide (400<l.length) then 4 else bif l.all z4e then (bif okF l ((D6.cuts l).length - 1) 0 then (bif decide (((D6.out l).length :Int)>400) then 8 else bif Ke (D6.out l) l then 0 else 8) else 8) else 8
def v2s (l:List R6):Bool:=true
theorem j1y (l:List R6): ∃n,Yx (Xq l) n (y3c l)=.ret [.int .i64 (Zr l)]:=by
 unfold y3c Zr;by_cases h:400<l.length
 ·refine ⟨0,?_⟩;rw [An h,Xy (show (l.length:Int)>400 by omega)];rfl
 ·obtain ⟨n,hn⟩:=u6t l (by omega) l.length 0 (Af _) (fun s hs=>by simp at hs);refine ⟨n,?_⟩;rw [Ay h,Xt (show ¬(l.length:Int)>400 by omega),Ac,Ac];rw [z7e] at hn;rw [hn];unfold sckErr x4i;cases l.all z4e <;> simp only [Ae,Ac];cases okF l ((D6.cuts l).length - 1) 0 <;> simp only [Ae,Ac];show Xw.ret (bif decide (((D6.out l).length :Int)>400) then _ else bif Ke (D6.out l) l then _ else _)=_
  grind
def fSck :List AVal→Option (AVal×Bool)
 | [a1]=>match asL R6 a1 with
  | some (L1,g1,n1)=>some (.int .i64 (Zr L1),isT R6 n1 g1&&v2s L1)
  | _=>none
 | _=>none
theorem j5r {S:Specs} (hS:Zu prog S):Zu prog (S.with x5g fSck):=by
 refine Qi hS (by kernel_rfl) fun args v h=> ?_;unfold fSck at h;split at h
 ·rename_i a1;split at h
  ·rename_i L1 g1 n1 e1;simp only [Ab,Aa,Ad] at h;obtain ⟨rfl,ho1,hw⟩:=h;obtain ⟨N,hN⟩:=j1y L1;exact ⟨_,_,(.cons (Yi e1 ho1) .nil),rfl,v9y L1 N _ hN,3,rfl⟩
  ·cases h
 ·cases h
def T8 :Specs:=T7v.with x5g fSck
theorem z1f :Zu prog T8:=j5r Vp
def Vg (l:List R6):Bool:=true
def y5t (l:List R6):Bool:=true
inductive rchkS where
 | h0 (v3:Int)
def j3o (l0:List R6):rchkS→Cfg
 | .h0 v3=>⟨⟨34,0,true⟩,none,(Zb prog 59 [1,1,0,1,0,0] 0),none,(Zy prog 9),⟨Yg [(0,(.dat l0.length (Zz l0))),(3,(ii v3))],Wt [] 0,0,[],true⟩,[],.leaf⟩
def u8k :List (Option (List Nat)):=[some [0,3]]
def u8l :List (Option (List Nat)):=[]
def z1m (l0:List R6):rchkS→Xw rchkS
 | .h0 v3=>(bif (decide (v3<(l0.length:Int))) then (bif ((decide (0≤v3∧v3<(l0.length:Int)))&&true) then (bif (decide ((rd l0 v3.toNat).a ≥(-1000000))) then (bif (decide ((rd l0 v3.toNat).b ≥(-1000000))) then (bif (decide ((rd l0 v3.toNat).c ≥(-1000000))) then (bif (decide ((rd l0 v3.toNat).a ≤1000000)) then (bif (decide ((rd l0 v3.toNat).b ≤1000000)) then (bif (decide ((rd l0 v3.toNat).c ≤1000000)) then (bif (decide ((rd l0 v3.toNat).d ≥(-1000000))) then (bif (decide ((rd l0 v3.toNat).e ≥(-1000000))) then (bif (decide ((rd l0 v3.toNat).f ≥(-1000000))) then (bif (decide ((rd l0 v3.toNat).d ≤1000000)) then (bif (decide ((rd l0 v3.toNat).e ≤1000000)) then (bif (decide ((rd l0 v3.toNat).f ≤1000000)) then (bif (decide ((rd l0 v3.toNat).a <(rd l0 v3.toNat).d)) then (bif (decide ((rd l0 v3.toNat).b <(rd l0 v3.toNat).e)) then (bif (!(decide ((rd l0 v3.toNat).c <(rd l0 v3.toNat).f))) then (.ret [(.int .i64 8)]) else (.to (.h0 (wrap .i64 (v3+1))))) else (.ret [(.int .i64 8)])) else (.ret [(.int .i64 8)])) else (.ret [(.int .i64 8)])) else (.ret [(.int .i64 8)])) else (.ret [(.int .i64 8)])) else (.ret [(.int .i64 8)])) else (.ret [(.int .i64 8)])) else (.ret [(.int .i64 8)])) else (.ret [(.int .i64 8)])) else (.ret [(.int .i64 8)])) else (.ret [(.int .i64 8)])) else (.ret [(.int .i64 8)])) else (.ret [(.int .i64 8)])) else (.ret [(.int .i64 8)])) else .stuck) else (bif (z8s 2 (cvT l0) ([]:List R6)) then (bif (!(y8a 2 (cvT l0) ([]:List R6))) then (.ret [(.int .i64 8)]) else (bif (Vd (cvT (z4x 2 (cvT l0) ([]:List R6))) (cvT l0)) then (bif (!(Ke (cvT (z4x 2 (cvT l0) ([]:List R6))) (cvT l0))) then (.ret [(.int .i64 8)]) else (.ret [(.int .i64 0)])) else .stuck)) else .stuck))
def z8g (l0:List R6):Xw rchkS:=(bif (decide ((l0.length:Int)>400)) then (.ret [(.int .i64 4)]) else (.to (.h0 0)))
theorem x9o (l0:List R6): ∀s,Xu prog (Zy prog 59) (j3o l0) (j3o l0 s) (z1m l0 s)
 | .h0 v3=>(lb (fun k0=>(lo fun aE=>(lb (fun k1=>(lb (fun k2=>(lb (fun k3=>(lb (fun k4=>(lb (fun k5=>(lb (fun k6=>(lb (fun k7=>(lb (fun k8=>(lb (fun k9=>(lb (fun k10=>(lb (fun k11=>(lb (fun k12=>(lb (fun k13=>(lb (fun k14=>(lb (fun k15=>(lr 34 59 [1,1,0,1,0,0,1,0,0,1,0,0] 1 9 [(2,(ii 8))] (sl z1f 158 [] ⟨[],[],[some [2]],[]⟩ ⟨[],[],[]⟩ (trs 60 []) (tt k15 (tt k14 (tt k13 (tt k12 (tt k11 (tt k10 (tt k9 (tt k8 (tt k7 (tt k6 (tt k5 (tt k4 (tt k3 (tt k2 (tt k1 (ww aE (tt k0 nn)))))))))))))))))))) (fun k15=>(sl z1f 162 [] ⟨[],[],u8k,u8l⟩ ⟨[],[],[]⟩ (trs 59 [false]) (tt k15 (tt k14 (tt k13 (tt k12 (tt k11 (tt k10 (tt k9 (tt k8 (tt k7 (tt k6 (tt k5 (tt k4 (tt k3 (tt k2 (tt k1 (ww aE (tt k0 nn))))))))))))))))))))) (fun k14=>(lr 34 59 [1,1,0,1,0,0,1,0,0,1,0,0] 1 9 [(2,(ii 8))] (sl z1f 158 [] ⟨[],[],[some [2]],[]⟩ ⟨[],[],[]⟩ (trs 52 (bl 8 128)) (tt k14 (tt k13 (tt k12 (tt k11 (tt k10 (tt k9 (tt k8 (tt k7 (tt k6 (tt k5 (tt k4 (tt k3 (tt k2 (tt k1 (ww aE (tt k0 nn))))))))))))))))))))) (fun k13=>(lr 34 59 [1,1,0,1,0,0,1,0,0,1,0,0] 1 9 [(2,(ii 8))] (sl z1f 158 [] ⟨[],[],[some [2]],[]⟩ ⟨[],[],[]⟩ (trs 45 (bl 15 16384)) (tt k13 (tt k12 (tt k11 (tt k10 (tt k9 (tt k8 (tt k7 (tt k6 (tt k5 (tt k4 (tt k3 (tt k2 (tt k1 (ww aE (tt k0 nn)))))))))))))))))))) (fun k12=>(lr 34 59 [1,1,0,1,0,0,1,0,0,1,0,0] 1 9 [(2,(ii 8))] (sl z1f 158 [] ⟨[],[],[some [2]],[]⟩ ⟨[],[],[]⟩ (trs 38 (bl 22 2097152)) (tt k12 (tt k11 (tt k10 (tt k9 (tt k8 (tt k7 (tt k6 (tt k5 (tt k4 (tt k3 (tt k2 (tt k1 (ww aE (tt k0 nn))))))))))))))))))) (fun k11=>(lr 34 59 [1,1,0,1,0,0,1,0,0,1,0,0] 1 9 [(2,(ii 8))] (sl z1f 158 [] ⟨[],[],[some [2]],[]⟩ ⟨[],[],[]⟩ (trs 35 (bl 25 16777216)) (tt k11 (tt k10 (tt k9 (tt k8 (tt k7 (tt k6 (tt k5 (tt k4 (tt k3 (tt k2 (tt k1 (ww aE (tt k0 nn)))))))))))))))))) (fun k10=>(lr 34 59 [1,1,0,1,0,0,1,0,0,1,0,0] 1 9 [(2,(ii 8))] (sl z1f 158 [] ⟨[],[],[some [2]],[]⟩ ⟨[],[],[]⟩ (trs 32 (bl 28 134217728)) (tt k10 (tt k9 (tt k8 (tt k7 (tt k6 (tt k5 (tt k4 (tt k3 (tt k2 (tt k1 (ww aE (tt k0 nn))))))))))))))))) (fun k9=>(lr 34 59 [1,1,0,1,0,0,1,0,0,1,0,0] 1 9 [(2,(ii 8))] (sl z1f 158 [] ⟨[],[],[some [2]],[]⟩ ⟨[],[],[]⟩ (trs 29 (bl 31 1073741824)) (tt k9 (tt k8 (tt k7 (tt k6 (tt k5 (tt k4 (tt k3 (tt k2 (tt k1 (ww aE (tt k0 nn)))))))))))))))) (fun k8=>(lr 34 59 [1,1,0,1,0,0,1,0,0,1,0,0] 1 9 [(2,(ii 8))] (sl z1f 158 [] ⟨[],[],[some [2]],[]⟩ ⟨[],[],[]⟩ (trs 25 (bl 35 17179869184)) (tt k8 (tt k7 (tt k6 (tt k5 (tt k4 (tt k3 (tt k2 (tt k1 (ww aE (tt k0 nn))))))))))))))) (fun k7=>(lr 34 59 [1,1,0,1,0,0,1,0,0,1,0,0] 1 9 [(2,(ii 8))] (sl z1f 158 [] ⟨[],[],[some [2]],[]⟩ ⟨[],[],[]⟩ (trs 21 (bl 39 274877906944)) (tt k7 (tt k6 (tt k5 (tt k4 (tt k3 (tt k2 (tt k1 (ww aE (tt k0 nn)))))))))))))) (fun k6=>(lr 34 59 [1,1,0,1,0,0,1,0,0,1,0,0] 1 9 [(2,(ii 8))] (sl z1f 117 [] ⟨[],[],[some [2]],[]⟩ ⟨[],[],[]⟩ (trs 18 (bl 25 16777216)) (tt k6 (tt k5 (tt k4 (tt k3 (tt k2 (tt k1 (ww aE (tt k0 nn))))))))))))) (fun k5=>(lr 34 59 [1,1,0,1,0,0,1,0,0,1,0,0] 1 9 [(2,(ii 8))] (sl z1f 117 [] ⟨[],[],[some [2]],[]⟩ ⟨[],[],[]⟩ (trs 15 (bl 28 134217728)) (tt k5 (tt k4 (tt k3 (tt k2 (tt k1 (ww aE (tt k0 nn)))))))))))) (fun k4=>(lr 34 59 [1,1,0,1,0,0,1,0,0,1,0,0] 1 9 [(2,(ii 8))] (sl z1f 117 [] ⟨[],[],[some [2]],[]⟩ ⟨[],[],[]⟩ (trs 12 (bl 31 1073741824)) (tt k4 (tt k3 (tt k2 (tt k1 (ww aE (tt k0 nn))))))))))) (fun k3=>(lr 34 59 [1,1,0,1,0,0,1,0,0,1,0,0] 1 9 [(2,(ii 8))] (sl z1f 117 [] ⟨[],[],[some [2]],[]⟩ ⟨[],[],[]⟩ (trs 9 (bl 34 8589934592)) (tt k3 (tt k2 (tt k1 (ww aE (tt k0 nn)))))))))) (fun k2=>(lr 34 59 [1,1,0,1,0,0,1,0,0,1,0,0] 1 9 [(2,(ii 8))] (sl z1f 117 [] ⟨[],[],[some [2]],[]⟩ ⟨[],[],[]⟩ (trs 5 (bl 38 137438953472)) (tt k2 (tt k1 (ww aE (tt k0 nn))))))))) (fun k1=>(lr 34 59 [1,1,0,1,0,0,1,0,0,1,0,0] 1 9 [(2,(ii 8))] (sl z1f 117 [] ⟨[],[],[some [2]],[]⟩ ⟨[],[],[]⟩ (bl 43 4398046511105) (tt k1 (ww aE (tt k0 nn))))))))) (fun k0=>(lo fun aE=>(lb (fun k1=>(lr 34 59 [1,1,1,1,0,1,0,0] 1 9 [(2,(ii 8))] (sl z1f 37 [] ⟨[],[],[some [2]],[]⟩ ⟨[],[],[]⟩ (bl 6 62) (tt k1 (pp (pp (xr l0) (pp (xI R6 0 (fun _=>[])) (xw aE))) (tt k0 nn)))))) (fun k1=>(lo fun bU=>(lb (fun k2=>(lr 34 59 [1,1,1,1,0,1,0,0] 1 9 [(2,(ii 8))] (sl z1f 37 [] ⟨[],[],[some [2]],[]⟩ ⟨[],[],[]⟩ (bl 6 32) (tt k2 (pp (pp (xI R6 (z4x 2 (cvT l0) ([]:List R6)).length (Zz (z4x 2 (cvT l0) ([]:List R6)))) (pp (xr l0) (xw bU))) (tt k1 (pp (pp (xr l0) (pp (xI R6 0 (fun _=>[])) (xw aE))) (tt k0 nn)))))))) (fun k2=>(lr 34 3 [1,1,1,1,0] 1 9 [(2,(ii 0))] (sl z1f 38 [] ⟨[],[],[some [2]],[]⟩ ⟨[],[],[]⟩ (bl 6 0) (tt k2 (pp (pp (xI R6 (z4x 2 (cvT l0) ([]:List R6)).length (Zz (z4x 2 (cvT l0) ([]:List R6)))) (pp (xr l0) (xw bU))) (tt k1 (pp (pp (xr l0) (pp (xI R6 0 (fun _=>[])) (xw aE))) (tt k0 nn)))))))))))))))
theorem x4u (l0:List R6):Xu prog (Zy prog 59) (j3o l0) (Za prog 59 [(.dat l0.length (Zz l0))] true []) (z8g l0):=(lb (fun k0=>(lr 34 59 [1,0,1,0,0] 1 9 [(2,(ii 4))] (sl z1f 16 [] ⟨[],[],[some [2]],[]⟩ ⟨[],[],[]⟩ [true] (tt k0 nn)))) (fun k0=>(sl z1f 20 [] ⟨[],[],u8k,u8l⟩ ⟨[],[],[]⟩ [false] (tt k0 nn))))
theorem v4f (l0:List R6) (n:Nat) (vs:List AVal) (h:Yx (z1m l0) n (z8g l0)=.ret vs):Ur prog (Zy prog 59) (Za prog 59 [(.dat l0.length (Zz l0))] true []) vs:=by have:=Zc (x9o l0) n _ (x4u l0);rwa [h] at this
def x7f (r:R6):Bool:=decide (r.a≥ -1000000)&&(decide (r.b≥ -1000000)&&(decide (r.c≥ -1000000)&&(decide (r.a≤1000000)&&(decide (r.b≤1000000)&&(decide (r.c≤1000000)&&(decide (r.d≥ -1000000)&&(decide (r.e≥ -1000000)&&(decide (r.f≥ -1000000)&&(decide (r.d≤1000000)&&(decide (r.e≤1000000)&&(decide (r.f≤1000000)&&(decide (r.a<r.d)&&(decide (r.b<r.e)&&decide (r.c<r.f))))))))))))))
def rckF (l:List R6):Int:=bif y8a 2 l [] then (bif Ke (z4x 2 l []) l then 0 else 8) else 8
def z1l (l:List R6):Int:=bif decide (400<l.length) then 4 else bif l.all x7f then rckF l else 8
def v4d (l:List R6):Bool:=true
theorem w8z (k:Int) (l m:List R6):(z4x k l m).length ≤400∨y8a k l m=false:=by
 grind [z4x,y8a]
section
variable (l:List R6) (hl:l.length≤400)
include hl
theorem v4e : ∀(k i:Nat),i+k=l.length→(∀s∈l.take i,x7f s=true)→ ∃n,Yx (z1m l) n (.to (.h0 (i:Int)))=.ret [.int .i64 (bif l.all x7f then rckF l else 8)]
 | 0,i,h,ht=>by
  have hv:l.all x7f=true:=At.2 fun s hs=>ht s (by grind);have w1:z8s 2 l []=true:=jsV_ow (by omega) (by simp);refine ⟨1,?_⟩;rw [Zw,hv,Ae];unfold rckF;rcases Yk (y8a 2 l []) with q | q
  ·have w2:Vd (z4x 2 l []) l=true:=An (by
    grind [w8z])
   rcases Yk (Ke (z4x 2 l []) l) with q2 | q2 <;>
   simp (disch:=omega) only [z1m,Zd,Yf,q,q2,w1,w2,Av,AA,Ae,Ac,Zp]
  grind [z1m,Zd,Zp]
 | k+1,i,h,ht=>by
  have hi:i<l.length:=by omega
  have hs:z1m l (.h0 (i:Int))=bif x7f (rd l i) then .to (.h0 ((i+1:Nat):Int)) else .ret [.int .i64 8]:=by simp (disch:=omega) only [z1m,x7f,y0y,y7d,w5m,Zt,Zk,Zx,Zj,Ah,Ae,Ac]
  rcases Yk (x7f (rd l i)) with q | q
  ·obtain ⟨n,hn⟩:=v4e k (i+1) (by omega) (fun s hs=>by
    rw [A2] at hs
    grind [Yo])
   refine ⟨n+1,?_⟩
   grind [Zw]
  ·have hv:l.all x7f=false:=A1.2 fun e=>by
    grind [Yo]
   refine ⟨1,?_⟩
   grind [Zw,Zp]
end
theorem u1r (l:List R6): ∃n,Yx (z1m l) n (z8g l)=.ret [.int .i64 (z1l l)]:=by
 unfold z8g z1l;by_cases h:400<l.length
 ·refine ⟨0,?_⟩;rw [An h,Xy (show (l.length:Int)>400 by omega)];rfl
 ·obtain ⟨n,hn⟩:=v4e l (by omega) l.length 0 (Af _) (fun s hs=>by simp at hs)
  grind
def fRck :List AVal→Option (AVal×Bool)
 | [a1]=>match asL R6 a1 with
  | some (L1,g1,n1)=>some (.int .i64 (z1l L1),isT R6 n1 g1&&v4d L1)
  | _=>none
 | _=>none
theorem j6a {S:Specs} (hS:Zu prog S):Zu prog (S.with v5e fRck):=by
 refine Qi hS (by kernel_rfl) fun args v h=> ?_;unfold fRck at h;split at h
 ·rename_i a1;split at h
  ·rename_i L1 g1 n1 e1;simp only [Ab,Aa,Ad] at h;obtain ⟨rfl,ho1,hw⟩:=h;obtain ⟨N,hN⟩:=u1r L1;exact ⟨_,_,(.cons (Yi e1 ho1) .nil),rfl,v4f L1 N _ hN,3,rfl⟩
  ·cases h
 ·cases h
def T9 :Specs:=T8.with v5e fRck
theorem z5w :Zu prog T9:=j6a z1f
def pt (L:List R2) (y:Int):Prop:= ∃s∈L,s.a≤y∧y<s.b
structure Can (L:List R2):Prop where
 pos: ∀s∈L,s.a<s.b
 sep:L.Pairwise fun s t=>s.b<t.a
theorem Can.nil :Can []:=⟨by simp,.nil⟩
theorem Can.tail {s:R2} {L:List R2} (h:Can (s::L)):Can L:=⟨fun t ht=>h.pos t (List.mem_cons_of_mem _ ht),(AR.1 h.sep).2⟩
theorem Can.head {s:R2} {L:List R2} (h:Can (s::L)): ∀t∈L,s.b<t.a:=(AR.1 h.sep).1
theorem u9z {s:R2} {L:List R2} (h:Can (s::L)) {y:Int} (hy:pt (s::L) y):s.a≤y:=by
 obtain ⟨t,ht,h1,h2⟩:=hy;rcases AG.1 ht with rfl | ht
 ·exact h1
 ·have:=h.head t ht;have:=h.pos s (by simp);omega
theorem w5q : ∀(L M:List R2),Can L→Can M→(∀y,pt L y↔pt M y)→L=M
 | [],[],_,_,_=>rfl
 | [],t::M,_,hM,h=>by have:=(h t.a).2 ⟨t,by simp,AZ _,hM.pos t (by simp)⟩;obtain ⟨s,hs,_⟩:=this;cases hs
 | s::L,[],hL,_,h=>by have:=(h s.a).1 ⟨s,by simp,AZ _,hL.pos s (by simp)⟩;obtain ⟨s,hs,_⟩:=this;cases hs
 | s::L,t::M,hL,hM,h=>by
  have p1:=hL.pos s (by simp);have p2:=hM.pos t (by simp);have a1:t.a≤s.a:=u9z hM ((h s.a).1 ⟨s,by simp,AZ _,p1⟩);have a2:s.a≤t.a:=u9z hL ((h t.a).2 ⟨t,by simp,AZ _,p2⟩);have b1: ¬s.b<t.b:=fun hb=>by
   obtain ⟨u,hu,h1,h2⟩:=(h s.b).2 ⟨t,by simp,by omega,hb⟩;rcases AG.1 hu with rfl | hu
   ·omega
   ·have:=hL.head u hu;omega
  have b2: ¬t.b<s.b:=fun hb=>by
   obtain ⟨u,hu,h1,h2⟩:=(h t.b).1 ⟨s,by simp,by omega,hb⟩;rcases AG.1 hu with rfl | hu
   ·omega
   ·have:=hM.head u hu;omega
  have e:s=t:=by
   obtain ⟨sa,sb⟩:=s;obtain ⟨ta,tb⟩:=t;simp only at a1 a2 b1 b2;have:sa=ta:=by omega
   have:sb=tb:=by omega
   subst_vars;rfl
  subst e
  congr 1
  refine w5q L M hL.tail hM.tail fun y=>⟨fun hy=> ?_,fun hy=> ?_⟩
  ·obtain ⟨u,hu,h1,h2⟩:=hy;have g:=hL.head u hu;obtain ⟨v,hv,h3,h4⟩:=(h y).1 ⟨u,by simp [hu],h1,h2⟩;rcases AG.1 hv with rfl | hv
   ·omega
   ·exact ⟨v,hv,h3,h4⟩
  ·obtain ⟨u,hu,h1,h2⟩:=hy;have g:=hM.head u hu;obtain ⟨v,hv,h3,h4⟩:=(h y).2 ⟨u,by simp [hu],h1,h2⟩;rcases AG.1 hv with rfl | hv
   ·omega
   ·exact ⟨v,hv,h3,h4⟩
def push (out:List R2) (x x':Int):List R2:=
 bif decide (0<out.length)&&((rd out (out.length - 1)).b == x) then out.set (out.length - 1) ⟨(rd out (out.length - 1)).a,x'⟩ else out++[⟨x,x'⟩]
theorem v4i (out:List R2) (s:R2) (x x':Int):push (out++[s]) x x'=bif s.b == x then out++[⟨s.a,x'⟩] else out++[s]++[⟨x,x'⟩]:=by
 grind [rd,push]
theorem w4f {out:List R2} {x x':Int} (hc:Can out) (hb: ∀s∈out,s.b≤x) (hx:x<x'):
  Can (push out x x')∧(∀s∈push out x x',s.b≤x')∧ ∀y,pt (push out x x') y↔pt out y∨(x≤y∧y<x'):=by
 rcases List.eq_nil_or_concat out with rfl | ⟨L,s,rfl⟩
 ·refine ⟨⟨?_,?_⟩,?_,fun y=> ?_⟩;all_goals simp_all [push,pt]
 ·rw [List.concat_eq_append] at*;rw [v4i];have hs:=hb s (by simp);have hp:=hc.pos s (by simp);have sep:=Bu.1 hc.sep;rcases Yk (s.b == x) with q | q
  ·rw [q,Ae];have q:s.b=x:=by simpa using q
   refine ⟨⟨?_,?_⟩,?_,fun y=> ?_⟩
   ·intro t ht;rcases AM.1 ht with ht | ht
    ·exact hc.pos t (by simp [ht])
    grind
   ·grind
   ·grind
   ·constructor
    ·rintro ⟨t,ht,h1,h2⟩;rcases AM.1 ht with ht | ht
     ·exact .inl ⟨t,by simp [ht],h1,h2⟩
     ·rw [List.mem_singleton.1 ht] at h1 h2;by_cases hy:y<s.b
      ·exact .inl ⟨s,by simp,h1,hy⟩
      grind
    ·rintro (⟨t,ht,h1,h2⟩ | ⟨h1,h2⟩)
     ·rcases AM.1 ht with ht | ht
      ·exact ⟨t,by simp [ht],h1,h2⟩
      ·rw [List.mem_singleton.1 ht] at h1 h2;exact ⟨⟨s.a,x'⟩,by simp,h1,by grind⟩
     ·exact ⟨⟨s.a,x'⟩,by simp,by grind,h2⟩
  ·rw [q,Ac];have q:s.b≠x:=by simpa using q
   refine ⟨⟨?_,?_⟩,?_,fun y=> ?_⟩
   ·intro t ht;rcases AM.1 ht with ht | ht
    ·exact hc.pos t ht
    grind
   ·grind
   ·grind
   ·constructor
    ·rintro ⟨t,ht,h1,h2⟩;rcases AM.1 ht with ht | ht
     ·exact .inl ⟨t,ht,h1,h2⟩
     grind
    ·rintro (⟨t,ht,h1,h2⟩ | ⟨h1,h2⟩)
     ·exact ⟨t,AM.2 (.inl ht),h1,h2⟩
     ·exact ⟨⟨x,x'⟩,by simp,h1,h2⟩
theorem x2p {l:List Int} (h:l.Pairwise (· < ·)) {i j:Nat} (hij:i<j) (hj:j<l.length):rd l i<rd l j:=by rw [Yo (by omega),Yo hj];exact AY.1 h i j (by omega) hj hij
theorem x3j (cuts:List Int) (ins:List Bool) (hc:cuts.Pairwise (· < ·)): ∀(k i:Nat) (out:List R2),i+k<cuts.length∨k=0→Can out→(∀s∈out,s.b≤rd cuts i)→
  Can (v0w cuts ins k i out)∧ ∀y,pt (v0w cuts ins k i out) y↔pt out y∨ ∃j,i≤j∧j<i+k∧rd ins j=true∧rd cuts j≤y∧y<rd cuts (j+1)
 | 0,i,out,h,ho,hb=>⟨ho,fun y=>⟨.inl,fun hy=>hy.elim id fun ⟨j,h1,h2,_⟩=>by omega⟩⟩
 | k +1,i,out,h,ho,hb=>by
  have hlt:rd cuts i<rd cuts (i+1):=x2p hc (BN _) (by omega);obtain ⟨p1,p2,p3⟩:=w4f ho hb hlt;have e:v0w cuts ins (k+1) i out=v0w cuts ins k (i+1) (bif rd ins i then push out (rd cuts i) (rd cuts (i+1)) else out):=rfl;rw [e];rcases Yk (rd ins i) with q | q
  ·rw [q,Ae];obtain ⟨r1,r2⟩:=x3j cuts ins hc k (i+1) (push out (rd cuts i) (rd cuts (i+1))) (by omega) p1 p2;refine ⟨r1,fun y=> ?_⟩;rw [r2,p3];constructor
   ·rintro ((h | h) | ⟨j,h1,h2,h3⟩)
    ·exact .inl h
    ·exact .inr ⟨i,Aq _,by omega,q,h⟩
    ·exact .inr ⟨j,by omega,by omega,h3⟩
   ·rintro (h | ⟨j,h1,h2,h3⟩)
    ·exact .inl (.inl h)
    ·rcases A6 h1 with rfl | h1
     ·exact .inl (.inr h3.2)
     ·exact .inr ⟨j,h1,by omega,h3⟩
  ·rw [q,Ac];obtain ⟨r1,r2⟩:=x3j cuts ins hc k (i+1) out (by omega) ho (fun s hs=>by have:=hb s hs;omega);refine ⟨r1,fun y=> ?_⟩;rw [r2];constructor
   ·rintro (h | ⟨j,h1,h2,h3⟩)
    ·exact .inl h
    ·exact .inr ⟨j,by omega,by omega,h3⟩
   ·rintro (h | ⟨j,h1,h2,h3⟩)
    ·exact .inl h
    ·rcases A6 h1 with rfl | h1
     ·rw [q] at h3;cases h3.1
     ·exact .inr ⟨j,h1,by omega,h3⟩
theorem w2f {cuts:List Int}: ∀(k:Nat),k<cuts.length→ ∀y,rd cuts 0≤y→y<rd cuts k→ ∃j,j<k∧rd cuts j≤y∧y<rd cuts (j+1)
 | 0,_,y,h1,h2=>by omega
 | k+1,hk,y,h1,h2=>by
  by_cases h:rd cuts k≤y
  ·exact ⟨k,BN _,h,h2⟩
  ·obtain ⟨j,h3,h4⟩:=w2f k (by omega) y h1 (by omega);exact ⟨j,by omega,h4⟩
theorem w5r (cuts:List Int) (hc:cuts.Pairwise (· < ·)) (P:Int→Bool) (S:List R2) (hS: ∀s∈S,s.a∈cuts∧s.b∈cuts) (hP: ∀y,P y=true↔pt S y):
  Can (y1z cuts (cuts.map P))∧ ∀y,pt (y1z cuts (cuts.map P)) y↔pt S y:=by
 obtain ⟨r1,r2⟩:=x3j cuts (cuts.map P) hc (cuts.length - 1) 0 [] (by omega) .nil (by simp);refine ⟨r1,fun y=> ?_⟩;unfold y1z;rw [r2];have hin: ∀x,x∈cuts→ ∃i,i<cuts.length∧rd cuts i=x:=fun x hx=>by obtain ⟨i,hi,h⟩:=AK hx;exact ⟨i,hi,by rw [Yo hi];exact h⟩
 have hmap: ∀j,j<cuts.length→rd (cuts.map P) j=P (rd cuts j):=fun j hj=>by
  grind [Yo]
 have le_of: ∀i j,i<cuts.length→j<cuts.length→i≤j→rd cuts i≤rd cuts j:=fun i j hi hj hij=>by
  rcases A6 hij with rfl | h
  ·grind
  ·exact Int.le_of_lt (x2p hc h hj)
 constructor
 ·rintro (⟨s,hs,_⟩ | ⟨j,h1,h2,h3,h4,h5⟩)
  ·cases hs
  ·have hj:j+1<cuts.length:=by omega
   rw [hmap j (by omega)] at h3;obtain ⟨s,hs,a1,a2⟩:=(hP _).1 h3;obtain ⟨ca,cb⟩:=hS s hs;obtain ⟨m,hm,em⟩:=hin s.b cb;refine ⟨s,hs,by omega,?_⟩
   grind
 ·rintro ⟨s,hs,a1,a2⟩;right;obtain ⟨ca,cb⟩:=hS s hs;obtain ⟨n,hn,en⟩:=hin s.a ca;obtain ⟨m,hm,em⟩:=hin s.b cb;have h0:=le_of 0 n (by omega) hn (AB _);obtain ⟨j,h1,h2,h3⟩:=w2f m hm y (by omega) (by omega);refine ⟨j,AB _,by omega,?_,h2,h3⟩;rw [hmap j (by omega),hP];refine ⟨s,hs,?_,?_⟩;all_goals grind
def net (E:List R3) (y:Int):Int:=(E.map fun e=>if e.a≤y then e.c else 0).sum
theorem z1q (e:R3) (E:List R3) (y:Int):net (e::E) y=(if e.a≤y then e.c else 0)+net E y:=by simp [net]
theorem u2f {E F:List R3} (h:E.Perm F) (y:Int):net E y=net F y:=by
 induction h with
 | nil=>rfl
 | cons e _ ih=>rw [z1q,z1q,ih]
 | swap a b l=>simp only [z1q];omega
 | trans _ _ i1 i2=>rw [i1,i2]
theorem w4i (E:List R3) (y:Int) (h: ∀e∈E,y<e.a):net E y=0:=by
 induction E with
 | nil=>rfl
 | cons e E ih=>
  grind [z1q]
theorem v7r (out:List R2) (last:Int) (inn:Bool) (x:Int):Uy out last inn x=bif inn&& !(last == x) then push out last x else out:=by
 grind [Uy,push]
theorem x0x {out:List R2} {last x:Int} (inn:Bool) (hc:Can out) (hb: ∀s∈out,s.b≤last) (hx:last≤x):
  Can (Uy out last inn x)∧(∀s∈Uy out last inn x,s.b≤x)∧ ∀y,pt (Uy out last inn x) y↔pt out y∨(inn=true∧last≤y∧y<x):=by
 rw [v7r];rcases Yk (inn&& !(last == x)) with q | q;all_goals grind [w4f]
def Asc (E:List R3):Prop:=E.Pairwise fun e f=>e.a≤f.a
theorem v1i : ∀(E:List R3) (o last:Int) (out:List R2),Asc E→(∀e∈E,last≤e.a)→Can out→(∀s∈out,s.b≤last)→
  Can (swF E o last (decide (o>0)) out)∧ ∀y,pt (swF E o last (decide (o>0)) out) y↔pt out y∨(last≤y∧0<o+net E y∧ ∃e∈E,y<e.a)
 | [],o,last,out,_,_,hc,_=>⟨hc,fun y=>⟨.inl,fun h=>h.elim id fun ⟨_,_,e,he,_⟩=>by cases he⟩⟩
 | e ::r,o,last,out,hE,hl,hc,hb=>by
  have he:=hl e (by simp);have hr:=AR.1 hE;obtain ⟨p1,p2,p3⟩:=x0x (decide (o>0)) hc hb he;obtain ⟨q1,q2⟩:=v1i r (o+e.c) e.a (Uy out last (decide (o>0)) e.a) hr.2 hr.1 p1 p2;rw [y2t];refine ⟨q1,fun y=> ?_⟩;rw [q2,p3,z1q];constructor
  ·rintro ((h | ⟨h1,h2,h3⟩) | ⟨h1,h2,f,hf,h3⟩)
   ·exact .inl h
   ·right;have h1:=Aw h1;refine ⟨h2,?_,e,by simp,h3⟩;rw [AD (by omega),w4i r y fun f hf=>by have:=hr.1 f hf;omega];omega
   ·right;refine ⟨by omega,?_,f,by simp [hf],h3⟩;rw [AI h1];omega
  ·rintro (h | ⟨h1,h2,f,hf,h3⟩)
   ·exact .inl (.inl h)
   ·by_cases hy:e.a≤y
    ·right;rw [AI hy] at h2;refine ⟨hy,by omega,f,?_,h3⟩;rcases AG.1 hf with rfl | hf
     ·omega
     ·exact hf
    ·left;right;rw [AD hy,w4i r y fun f hf=>by have:=hr.1 f hf;omega] at h2;exact ⟨An (by omega),h1,by omega⟩
theorem u2g (l:List R2) (hv: ∀s∈l,s.a<s.b) (y:Int):0≤net (Qe l) y∧(0<net (Qe l) y↔pt l y):=by
 induction l with
 | nil=>grind [net,Qe,pt]
 | cons s l ih=>
  obtain ⟨i1,i2⟩:=ih fun t ht=>hv t (by simp [ht]);have hs:=hv s (by simp);have e:net (Qe (s::l)) y=(if s.a≤y∧y<s.b then 1 else 0)+net (Qe l) y:=by
   grind [Qe,z1q]
  rw [e];by_cases h:s.a≤y∧y<s.b
  ·rw [AI h];exact ⟨by omega,⟨fun _=>⟨s,by simp,h⟩,fun _=>by omega⟩⟩
  ·rw [AD h];refine ⟨by omega,?_⟩;rw [BM,i2];constructor
   ·rintro ⟨t,ht,h2⟩;exact ⟨t,by simp [ht],h2⟩
   ·rintro ⟨t,ht,h2⟩;rcases AG.1 ht with rfl | ht
    ·grind
    ·exact ⟨t,ht,h2⟩
theorem y6w {l:List R2} {s:R2} (h:s∈l):(⟨s.b,0,-1⟩:R3)∈Qe l∧(⟨s.a,0,1⟩:R3)∈Qe l:=
 ⟨AJ.2 ⟨s,h,by simp⟩,AJ.2 ⟨s,h,by simp⟩⟩
theorem w3k (l:List R3) (h:y2j l=true):Asc (z1y l):=by
 refine AY.2 fun i j hi hj hij=> ?_
 grind [Qq,Yo]
theorem z9s (l:List R2) (hv:l.all z1e=true):Can (swV l)∧ ∀y,pt (swV l) y↔pt l y:=by
 have hb:y2j (Qe l)=true:=At.2 fun e he=>by obtain ⟨s,hs,h1⟩:=AJ.1 he;have hv:=At.1 hv s hs;simp only [z1e,Ad,Ar] at hv;simp only [AG,Bi,BR] at h1;rcases h1 with rfl | rfl <;> exact An (by grind)
 have hpos: ∀s∈l,s.a<s.b:=fun s hs=>by
  grind [z1e]
 obtain ⟨hp,_⟩:=Qq (Qe l) hb;have ha:=w3k (Qe l) hb;have hn: ∀y,net (z1y (Qe l)) y=net (Qe l) y:=fun y=>u2f hp y;unfold swV;generalize z1y (Qe l)=E at hp ha hn;cases E with
 | nil=>refine ⟨.nil,fun y=>⟨fun ⟨s,hs,_⟩=>(by cases hs),fun ⟨s,hs,_⟩=> ?_⟩⟩;have:=hp.mem_iff.2 (y6w hs).1;cases this
 | cons e r=>
  have hr:=AR.1 ha;rw [y2t,BM];have e0:Uy [] 0 false e.a=[]:=rfl;rw [e0];obtain ⟨q1,q2⟩:=v1i r e.c e.a [] hr.2 hr.1 .nil (by simp);refine ⟨q1,fun y=> ?_⟩;rw [q2];obtain ⟨n1,n2⟩:=u2g l hpos y;rw [←n2,←hn,z1q];constructor
  ·rintro (⟨s,hs,_⟩ | ⟨h1,h2,_⟩);all_goals grind
  ·intro h;have hpt:=n2.1 (by rw [←hn,z1q];exact h);obtain ⟨s,hs,s1,s2⟩:=hpt;have m1:=hp.mem_iff.2 (y6w hs).1
   grind [y6w]
theorem x4z (out:List Int) (hs:out.Pairwise (· < ·)) (x:Int): ∀k,k≤out.length→x9s out x k≤k∧(∀i,x9s out x k≤i→i<k→x<rd out i)∧(0<x9s out x k→rd out (x9s out x k - 1)≤x)
 | 0,_=>⟨Aq _,fun i h1 h2=>by omega,fun h=>by simp [x9s] at h⟩
 | k+1,hk=>by
  unfold x9s;rcases Yk (decide (rd out k>x)) with q | q
  ·rw [q,Ae];obtain ⟨h1,h2,h3⟩:=x4z out hs x k (by omega);refine ⟨by omega,fun i a b=> ?_,h3⟩;rcases A6 (Nat.le_of_lt_succ b) with rfl | b
   ·exact Aw q
   ·exact h2 i a b
  ·rw [q,Ac];exact ⟨Aq _,fun i a b=>by omega,fun _=>by have:=of_decide_eq_false q;simp only [Nat.add_sub_cancel];omega⟩
theorem v5u (out:List Int) (hs:out.Pairwise (· < ·)) (x:Int):(x0l out x).Pairwise (· < ·)∧ ∀y,y∈x0l out x↔y∈out∨y=x:=by
 obtain ⟨h1,h2,h3⟩:=x4z out hs x out.length (Aq _);unfold x0l;split
 ·rename_i h0;rw [h0] at h2;refine ⟨AR.2 ⟨fun y hy=> ?_,hs⟩,fun y=>by grind⟩;obtain ⟨i,hi,rfl⟩:=AK hy
  grind [Yo]
 ·rename_i k hk;rw [hk] at h1 h2 h3;have h3:rd out k≤x:=h3 (Nat.succ_pos _);have hkl:k<out.length:=by omega
  rcases Yk (rd out k == x) with q | q
  ·grind [Yo]
  ·rw [q,Ac];have q:rd out k≠x:=by simpa using q
   refine ⟨?_,fun y=> ?_⟩
   ·have st:(out.take (k+1)).Pairwise (· < ·):=hs.sublist (List.take_sublist _ _);have sd:(out.drop (k+1)).Pairwise (· < ·):=hs.sublist (List.drop_sublist _ _);have ht: ∀y∈out.take (k+1),y<x:=fun y hy=>by
     obtain ⟨i,hi,rfl⟩:=AK hy;have hi':i<k+1:=(by grind);rw [BB];have:rd out i≤rd out k:=by
      rcases A6 (Nat.le_of_lt_succ hi') with rfl | h
      ·grind
      ·exact Int.le_of_lt (x2p hs h hkl)
     grind [Yo]
    have hd: ∀y∈out.drop (k+1),x<y:=fun y hy=>by obtain ⟨i,hi,rfl⟩:=AK hy;simp_all [Yo]
    refine Bu.2 ⟨st,AR.2 ⟨hd,sd⟩,fun a ha b hb=> ?_⟩
    grind
   ·rw [AM,AG];constructor
    ·grind
    ·rintro (h | h)
     ·rw [←List.take_append_drop (k+1) out,AM] at h
      grind
     grind
theorem Wv (l:List Int):(z3b l).Pairwise (· < ·)∧ ∀y,y∈z3b l↔y∈l:=by
 have: ∀(l out:List Int),out.Pairwise (· < ·)→(l.foldl x0l out).Pairwise (· < ·)∧ ∀y,y∈l.foldl x0l out↔y∈out∨y∈l:=by
  intro l
  induction l with
  | nil=>grind
  | cons x l ih=>
   grind [v5u]
 simp_all [z3b]
theorem y1w : ∀(l m:List Int),l.Pairwise (· < ·)→m.Pairwise (· < ·)→(∀x,x∈l↔x∈m)→l=m
 | [],[],_,_,_=>rfl
 | [],b::m,_,_,h=>by have:=(h b).2 (by simp);cases this
 | a::l,[],_,_,h=>by have:=(h a).1 (by simp);cases this
 | a::l,b::m,hl,hm,h=>by
  obtain ⟨a1,a2⟩:=AR.1 hl;obtain ⟨b1,b2⟩:=AR.1 hm;have e:a=b:=by
   have x1:=(h a).1 (by simp);have x2:=(h b).2 (by simp);rcases AG.1 x1 with x1 | x1
   ·exact x1
   rcases AG.1 x2 with x2 | x2
   ·exact x2.symm
   have:=b1 a x1;have:=a1 b x2;omega
  subst e
  congr 1
  refine y1w l m a2 b2 fun x=>⟨fun hx=> ?_,fun hx=> ?_⟩
  ·rcases AG.1 ((h x).1 (by simp [hx])) with e | e
   ·have:=a1 x hx;omega
   ·exact e
  ·rcases AG.1 ((h x).2 (by simp [hx])) with e | e
   ·have:=b1 x hx;omega
   ·exact e
theorem y1y (zs:List Int) (hs:zs.Pairwise (· ≤ ·)): ∀m,m≤zs.length→(compactUpTo zs.toArray m).Pairwise (· < ·)∧ ∀x,x∈compactUpTo zs.toArray m↔x∈zs.take m
 | 0,_=>by simp [compactUpTo]
 | m +1,h=>by
  obtain ⟨h1,h2⟩:=y1y zs hs m (by omega);have hg: ∀j (hj:j<zs.length),zs.toArray[j]! =zs[j]:=fun j hj=>by simp [hj]
  have hle: ∀i j (hi:i<zs.length) (hj:j<zs.length),i<j→zs[i]≤zs[j]:=fun i j hi hj hij=>AY.1 hs i j hi hj hij;have hm:m<zs.length:=by omega
  rw [compactUpTo_succ,hg m hm,List.take_succ_eq_append_getElem hm];by_cases hk:keeps zs.toArray m=true
  ·rw [AI hk];refine ⟨Bu.2 ⟨h1,List.pairwise_singleton _ _,fun x hx y hy=> ?_⟩,fun x=>by rw [AM,AM,h2 x]⟩;rw [List.mem_singleton.1 hy];obtain ⟨i,hi,rfl⟩:=AK ((h2 x).1 hx);have hi':i<m:=by simp at hi;omega
   rw [BB];simp only [keeps,Ar] at hk;rcases hk with hk | hk
   ·omega
   ·rw [hg m hm,hg (m - 1) (by omega)] at hk;have k1:zs[i]≤zs[m - 1]:=by
     rcases A4 i (m - 1) with q | q
     ·exact hle i (m - 1) _ _ q
     ·have e:i=m - 1:=(by omega);subst e;exact AZ _
    have k2:=hle (m - 1) m (by omega) hm (by omega);omega
  ·rw [AD hk,AF];refine ⟨h1,fun x=> ?_⟩;rw [h2 x,AM,List.mem_singleton];refine ⟨.inl,fun hx=>hx.elim id fun e=> ?_⟩;simp only [keeps,Ar,not_or,Decidable.not_not] at hk;rw [hg m hm,hg (m - 1) (by omega)] at hk;rw [e,hk.2];have:m - 1<(zs.take m).length :=by simp;omega
   have e2:(zs.take m)[m - 1]=zs[m - 1]:=BB;rw [←e2];exact A0 this
theorem srt_le (zs:List Int):(Xa zs).Pairwise (· ≤ ·):=by have:=List.pairwise_mergeSort (le:=fun x y:Int=>decide (x≤y)) (fun a b c h1 h2=>by grind) (fun a b=>by simp;omega) zs;exact this.imp fun h=>by simpa using h
theorem j0y (zs:List Int) (x:Int):x∈Xa zs↔x∈zs:=List.mem_mergeSort
theorem Km (zs:List Int):Je zs=z3b zs:=by obtain ⟨h1,h2⟩:=y1y (Xa zs) (srt_le zs) (Xa zs).length (Aq _);obtain ⟨s1,s2⟩:=Wv zs;refine y1w _ _ h1 s1 fun x=> ?_;rw [show Je zs=compactUpTo (Xa zs).toArray (Xa zs).length from rfl,h2 x,List.take_length,j0y,s2]
namespace Dim
variable {α β:Type} (D:Dim α β)
def ref (sec:Int→List β) (cs:List Int):Nat→Nat→List α→List β→Nat→List α
 | 0,_,out,_,_=>out
 | k+1,i,out,last,first=>
  bif decide (0<i)&&D.same (sec (rd cs i)) last then ref sec cs k (i+1) (D.grow out first (rd cs (i+1))) last first
  else ref sec cs k (i+1) (out++(sec (rd cs i)).map (D.put (rd cs i) (rd cs (i+1)))) (sec (rd cs i)) out.length
theorem ref_eq (hs: ∀a b,D.same a b=true↔a=b) (l:List α): ∀(k i:Nat) (s:Sw α β) (out:List α) (last:List β) (first:Nat),
  s.out=out→s.last=last→(last≠ []→s.first=first)→(last=[]→out.length≤first)→(0<i→s.fin=rd (D.cuts l) i)→(i=0→last=[])→
  (D.go l k i s).out =D.ref (D.sec l) (D.cuts l) k i out last first
 | 0,i,s,out,last,first,h1,h2,h3,h4,h5,h6=>h1
 | k +1,i,s,out,last,first,h1,h2,h3,h4,h5,h6=>by
  subst h1 h2;have e1:D.go l (k+1) i s=D.go l k (i+1) (D.one l (rd (D.cuts l) i) (rd (D.cuts l) (i+1)) s):=rfl;rw [e1];unfold ref;rcases Yk (decide (0<(D.sec l (rd (D.cuts l) i)).length)&&((s.fin == rd (D.cuts l) i)&&D.same s.last (D.sec l (rd (D.cuts l) i)))) with q | q
  ·have e:D.one l (rd (D.cuts l) i) (rd (D.cuts l) (i+1)) s=⟨D.grow s.out s.first (rd (D.cuts l) (i+1)),s.last,s.first,rd (D.cuts l) (i+1)⟩:=by unfold one;rw [q];rfl
   simp only [Ad,Ar] at q;obtain ⟨q1,q2,q3⟩:=q;have q3:=(hs _ _).1 q3;have hne:s.last≠ []:=fun h=>by rw [h] at q3;rw [←q3] at q1;exact BO _ q1
   have hi:0<i:=Nat.pos_of_ne_zero fun h=>hne (h6 h);have e2:(decide (0<i)&&D.same (D.sec l (rd (D.cuts l) i)) s.last)=true:=by rw [An hi,Ak,hs,q3]
   rw [e2,Ae,e];refine ref_eq hs l k (i+1) _ _ _ _ ?_ rfl h3 (fun h=>absurd h hne) (fun _=>rfl) (fun h=>by omega);rw [h3 hne]
  ·have e:D.one l (rd (D.cuts l) i) (rd (D.cuts l) (i+1)) s=⟨s.out++(D.sec l (rd (D.cuts l) i)).map (D.put (rd (D.cuts l) i) (rd (D.cuts l) (i+1))),D.sec l (rd (D.cuts l) i),s.out.length,rd (D.cuts l) (i+1)⟩:=by unfold one;rw [q];rfl
   rcases Yk (decide (0<i)&&D.same (D.sec l (rd (D.cuts l) i)) s.last) with q2 | q2
   ·rw [q2,Ae,e];simp only [Ad,Ar] at q2;obtain ⟨hi,q3⟩:=q2;have q3:=(hs _ _).1 q3;rw [(hs s.last (D.sec l (rd (D.cuts l) i))).2 q3.symm,Ah,h5 hi] at q;have hz:D.sec l (rd (D.cuts l) i)=[]:=by
     cases h:D.sec l (rd (D.cuts l) i) with
     | nil=>rfl
     | cons a b=>rw [h] at q;simp at q
    have hl:s.last=[]:=(by rw [←q3,hz]);have hf:=h4 hl;rw [hz,By,AF];refine ref_eq hs l k (i+1) _ _ _ _ ?_ hl.symm (fun h=>absurd hl h) (fun _=> ?_) (fun _=>rfl) (fun h=>by omega)
    ·exact (D.grow_nil _ _ _ hf).symm
    ·rw [D.grow_length];exact hf
   ·rw [q2,Ac,e];exact ref_eq hs l k (i+1) _ _ _ _ rfl rfl (fun _=>rfl) (fun h=>by rw [h];simp) (fun _=>rfl) (fun h=>by omega)
theorem out_eq (hs: ∀a b,D.same a b=true↔a=b) (l:List α):D.out l=D.ref (D.sec l) (D.cuts l) ((D.cuts l).length - 1) 0 [] [] 0:=
 D.ref_eq hs l _ 0 _ [] [] 0 rfl rfl (fun _=>rfl) (fun _=>Aq _) (fun h=>absurd h (BO _)) (fun _=>rfl)
end Dim
theorem v8k (l:List R4):D4.cuts l=xsV l []:=by unfold Dim.cuts xsV;rw [Km,show z2z ([]:List R4)=[] from rfl,AF];rfl
theorem v7l (l:List R4) (x y:Int):v8s 2 l [] x y=z4d l x y:=by
 grind [v8s,y1v,z4d]
theorem z6w {l:List R4} {x:Int} {s:R2} (h:s∈D4.inn l x): ∃r∈l,r.a≤x∧x<r.c∧s=⟨r.b,r.d⟩:=by obtain ⟨r,hr,e⟩:=AO.1 h;obtain ⟨h1,h2⟩:=AV.1 hr;simp only [Ad,Ar] at h2;exact ⟨r,h1,h2.1,h2.2,e.symm⟩
theorem v5j {l:List R4} {x:Int} {r:R4} (h:r∈l) (h1:r.a≤x) (h2:x<r.c):(⟨r.b,r.d⟩:R2)∈D4.inn l x:=by refine AO.2 ⟨r,AV.2 ⟨h,?_⟩,rfl⟩;simp only [Ad,Ar];exact ⟨h1,h2⟩
theorem sec_eq (l:List R4) (hv:l.all Uk=true) (hl:l.length≤400) (x:Int):D4.sec l x=y9d 2 l [] x:=by
 have hin:=D4.inn_length l x;have hvi:(D4.inn l x).all z1e=true:=At.2 fun s hs=>by
  grind [z6w,Uk,z1e]
 have e1:D4.sec l x=swV (D4.inn l x):=by
  show Xc (D4.inn l x)=_
  grind [Xc]
 obtain ⟨c1,c2⟩:=z9s _ hvi;obtain ⟨y1,y2⟩:=Wv (z1d l++z1d []);have e2:y9d 2 l [] x=y1z (ysV l []) ((ysV l []).map fun y=>z4d l x y):=by
  unfold y9d
  congr 1
  simp_all [v7l]
 obtain ⟨d1,d2⟩:=w5r (ysV l []) y1 (fun y=>z4d l x y) (D4.inn l x) (fun s hs=>by
  obtain ⟨r,hr,_,_,rfl⟩:=z6w hs;unfold ysV;exact ⟨(y2 _).2 (AM.2 (.inl (AJ.2 ⟨r,hr,by simp⟩))),(y2 _).2 (AM.2 (.inl (AJ.2 ⟨r,hr,by simp⟩)))⟩) (fun y=>by
  unfold z4d;rw [List.any_eq_true];constructor
  ·rintro ⟨r,hr,h⟩;simp only [in4,Ad,Ar] at h;exact ⟨_,v5j hr h.1 h.2.1,h.2.2.1,h.2.2.2⟩
  ·rintro ⟨s,hs,h1,h2⟩
   grind [z6w,in4])
 grind [w5q]
theorem w4y (l:List R4): ∀(k i:Nat) (out:List R4) (last:List R2) (first:Nat),jF 2 l [] k i out last first=D4.ref (y9d 2 l []) (xsV l []) k i out last first
 | 0,_,_,_,_=>rfl
 | k+1,i,out,last,first=>by unfold jF Dim.ref;rw [w4y l k,w4y l k];rfl
theorem joV_eq (l:List R4) (hv:l.all Uk=true) (hl:l.length≤400):D4.out l=joV 2 l []:=by
 rw [D4.out_eq (fun a b=>Bz) l,joV,w4y,←v8k]
 congr 1
 funext x
 exact sec_eq l hv hl x
theorem w3e (l:List R6):D6.cuts l=Vy l []:=by unfold Dim.cuts Vy;rw [Km,show z2y ([]:List R6)=[] from rfl,AF];rfl
theorem j0f (l:List R6) (z:Int):D6.inn l z=atV l z:=rfl
theorem x4a (r:R6):z4e r=x7f r:=by
 unfold z4e x7f;simp only [x3a,y6q];rw [Bool.eq_iff_iff];simp only [Ad,Ar];have m1: ∀x y z:Int,x≤min y z↔x≤y∧x≤z:=fun x y z=>by omega
 have m2: ∀x y z:Int,max y z≤x↔y≤x∧z≤x:=fun x y z=>by omega
 simp only [ge_iff_le,m1,m2]
 grind
theorem v7x (l:List R6) (hv:l.all z4e=true) (z:Int):(atV l z).all Uk=true:=At.2 fun s hs=>by
 obtain ⟨r,hr,rfl⟩:=AO.1 hs;have:=At.1 hv r (AV.1 hr).1;rw [x4a] at this;simp only [x7f,Ad,Ar] at this;show Uk ⟨r.a,r.b,r.d,r.e⟩=true
 grind [Uk]
section
variable (l:List R6) (hv:l.all z4e=true) (hl:l.length≤400)
include hv hl
theorem j0c (z:Int):D4.out (atV l z)=joV 2 (atV l z) []:=joV_eq _ (v7x l hv z) (AE (z5t l z) hl)
theorem j0b (z:Int):badS l z=z8o 2 l [] z:=by
 have h1:=j0c l hv hl z;have h2:=z5t l z;have e:joV 2 (atV [] z) []=[]:=rfl
 grind [badS,z8o,y2h,atV,j0f,We,v7x]
theorem j1w (z:Int) (h:badS l z=false):D6.sec l z=y2h 2 l [] z:=by
 have h1:=j0c l hv hl z;have h2:=z5t l z;rw [j0b l hv hl] at h;show Ze (D6.inn l z)=joV 2 (atV l z) (atV [] z)
 grind [j0f,Ze,atV,z8o,v7x]
theorem w0v : ∀(k i:Nat) (out:List R6) (last:List R4) (first:Nat),jsF 2 l [] k i out last first=bif okF l k i then some (D6.ref (D6.sec l) (D6.cuts l) k i out last first) else none
 | 0,_,_,_,_=>rfl
 | k+1,i,out,last,first=>by
  unfold jsF okF Dim.ref;rw [←w3e,←j0b l hv hl];rcases Yk (badS l (rd (D6.cuts l) i)) with q | q
  ·rw [q];rfl
  ·have:=j1w l hv hl _ q;rw [q,Ac,Ac,this,w0v k,w0v k];have e:D6.same (y2h 2 l [] (rd (D6.cuts l) i)) last=Uf (y2h 2 l [] (rd (D6.cuts l) i)) last:=rfl;rw [e];cases (decide (0<i)&&Uf (y2h 2 l [] (rd (D6.cuts l) i)) last) <;> rfl
theorem jsO_eq :jsO 2 l []=bif okF l ((D6.cuts l).length - 1) 0 then some (D6.out l) else none:=by unfold jsO;rw [w0v l hv hl,←w3e,D6.out_eq (fun a b=>Bz) l]
end
theorem w5p (l:List R6):Zr l=z1l l:=by
 unfold Zr z1l;by_cases h:400<l.length
 ·grind
 ·rw [Ay h,Ac,Ac,show l.all x7f=l.all z4e from by grind [x4a]];rcases Yk (l.all z4e) with hv | hv
  ·rw [hv,Ae,Ae];unfold rckF y8a z4x;rw [jsO_eq l hv (by omega)]
   grind
  grind
def Cg (x y:Int):Prop:=(18446744073709551616:Int)∣x - y
theorem Cg.refl (x:Int):Cg x x:=by grind [Cg]
theorem Cg.trans {x y z:Int} (h:Cg x y) (k:Cg y z):Cg x z:=by unfold Cg at*;omega
theorem Cg.add {x y u v:Int} (h:Cg x y) (k:Cg u v):Cg (x+u) (y+v):=by unfold Cg at*;omega
theorem Cg.mul {x y u v:Int} (h:Cg x y) (k:Cg u v):Cg (x*u) (y*v):=by
 unfold Cg at*;have:x*u - y*v=(x - y)*u+y*(u - v):=by grind
 rw [this];exact Int.dvd_add (Int.dvd_mul_of_dvd_left h) (Int.dvd_mul_of_dvd_right k)
theorem Cg.wrap (x:Int):Cg (IntKind.wrap .i64 x) x:=by rw [w64];unfold Cg;omega
theorem Cg.eq {x y:Int} (h:Cg x y):IntKind.wrap .i64 x=IntKind.wrap .i64 y:=by rw [w64,w64];unfold Cg at h;omega
theorem Cg.w {x y:Int} (h:Cg x y):Cg (IntKind.wrap .i64 x) y:=(Cg.wrap x).trans h
def bxV (r:R6):Int:=(r.d - r.a)*(r.e - r.b)*(r.f - r.c)
def sm {α:Type} (l:List α) (f:α→Int):Int:=(l.map f).sum
theorem u5v {α:Type} (f:α→Int):sm ([]:List α) f=0:=rfl
theorem v2d {α:Type} (x:α) (l:List α) (f:α→Int):sm (x::l) f=f x+sm l f:=by simp [sm]
open Go.Proofs Go.Sort Go.Shelf Go.RowKit Go.Lib
namespace Dim
variable {α β:Type} (D:Dim α β)
structure Fair :Prop where
 lo_put: ∀x x' b,D.lo (D.put x x' b)=x
 hi_put: ∀x x' b,D.hi (D.put x x' b)=x'
 pr_put: ∀x x' b,D.pr (D.put x x' b)=b
 ext_put: ∀x x' x'' b,D.ext x'' (D.put x x' b)=D.put x x'' b
def Ap (R:β→β→Prop) (a b:α):Prop:=D.hi a≤D.lo b∨D.hi b≤D.lo a∨R (D.pr a) (D.pr b)
theorem v3x {D:Dim α β} (hD:D.Fair) (R:β→β→Prop) (sec:Int→List β) (cs:List Int) (hc:cs.Pairwise (· < ·)) (fA: ∀x,(sec x).Pairwise R):
  ∀(k i:Nat) (pre:List α) (last:List β) (x0:Int),(i+k<cs.length∨k=0)→pre.Pairwise (D.Ap R)→(∀a∈pre,D.hi a≤x0)→(last≠ []→x0≤rd cs i)→(last=[]→x0≤rd cs i)→last.Pairwise R→
  (D.ref sec cs k i (pre++last.map (D.put x0 (rd cs i))) last pre.length).Pairwise (D.Ap R):=by
 have fin: ∀(pre:List α) (last:List β) (x0 x':Int),pre.Pairwise (D.Ap R)→(∀a∈pre,D.hi a≤x0)→last.Pairwise R→(pre++last.map (D.put x0 x')).Pairwise (D.Ap R):=fun pre last x0 x' h1 h2 h3=>by
  refine Bu.2 ⟨h1,?_,fun a ha b hb=> ?_⟩
  ·refine List.pairwise_map.2 (h3.imp fun {a b} h=>.inr (.inr ?_));rw [hD.pr_put,hD.pr_put];exact h
  ·obtain ⟨c,_,rfl⟩:=AO.1 hb;exact .inl (by rw [hD.lo_put];exact h2 a ha)
 intro k
 induction k with
 | zero=>intro i pre last x0 _ h1 h2 _ _ h3;exact fin pre last x0 _ h1 h2 h3
 | succ k ih=>
  intro i pre last x0 hk h1 h2 h4 h5 h3;have hlt:rd cs i<rd cs (i+1):=x2p hc (BN _) (by omega);unfold ref;cases hq:(decide (0<i)&&D.same (sec (rd cs i)) last) with
  | true=>
   rw [Ae];have e:D.grow (pre++last.map (D.put x0 (rd cs i))) pre.length (rd cs (i+1))=pre++last.map (D.put x0 (rd cs (i+1))):=by
    unfold grow;rw [List.take_left,List.drop_left,List.map_map]
    congr 1
    exact List.map_congr_left fun b _=>hD.ext_put _ _ _ _
   rw [e];exact ih (i+1) pre last x0 (by omega) h1 h2 (fun h=>by grind) (fun h=>by grind) h3
  | false=>
   rw [Ac];refine ih (i+1) (pre++last.map (D.put x0 (rd cs i))) (sec (rd cs i)) (rd cs i) (by omega) (fin pre last x0 _ h1 h2 h3) (fun a ha=> ?_) (fun _=>by omega) (fun _=>by omega) (fA _);rcases AM.1 ha with ha | ha
   ·grind
   ·obtain ⟨c,_,rfl⟩:=AO.1 ha;rw [hD.hi_put];grind
theorem out_apart {D:Dim α β} (hD:D.Fair) (R:β→β→Prop) (hs: ∀a b,D.same a b=true↔a=b) (l:List α) (fA: ∀x,(D.sec l x).Pairwise R):(D.out l).Pairwise (D.Ap R):=by
 rw [D.out_eq hs l];have hc:(D.cuts l).Pairwise (· < ·):=by show (Je (D.ends l)).Pairwise (· < ·);rw [Km];exact (Wv _).1
 have:=v3x hD R (D.sec l) (D.cuts l) hc fA ((D.cuts l).length - 1) 0 [] [] (rd (D.cuts l) 0) (by omega) .nil (by simp) (fun _=>AZ _) (fun _=>AZ _) .nil;exact this
end Dim
theorem z2d :D4.Fair:=⟨fun _ _ _=>rfl,fun _ _ _=>rfl,fun _ _ _=>rfl,fun _ _ _ _=>rfl⟩
theorem z7g :D6.Fair:=⟨fun _ _ _=>rfl,fun _ _ _=>rfl,fun _ _ _=>rfl,fun _ _ _ _=>rfl⟩
def Ap2 (s t:R2):Prop:=s.b≤t.a∨t.b≤s.a
def Ap4 (s t:R4):Prop:=s.c≤t.a∨t.c≤s.a∨s.d≤t.b∨t.d≤s.b
def Ap6 (s t:R6):Prop:=s.d≤t.a∨t.d≤s.a∨s.e≤t.b∨t.e≤s.b∨s.f≤t.c∨t.f≤s.c
theorem v1w (l:List R2):(Xc l).Pairwise Ap2:=by
 unfold Xc;by_cases h:400<l.length
 ·simp_all
 ·rw [Ay h,Ac];cases hv:l.all z1e with
  | false=>exact .nil
  | true=>rw [Ae];exact (z9s l hv).1.sep.imp fun {s t} h=>.inl (by omega)
theorem x4o (l:List R4):(Ze l).Pairwise Ap4:=by
 have key:(D4.out l).Pairwise Ap4:=(Dim.out_apart z2d Ap2 (fun a b=>Bz) l fun x=>v1w _).imp fun {s t} h=>by
  rcases h with h | h | h | h
  ·exact .inl h
  ·exact .inr (.inl h)
  ·exact .inr (.inr (.inl h))
  ·exact .inr (.inr (.inr h))
 unfold Ze;by_cases h:400<l.length
 ·simp_all
 ·rw [Ay h,Ac];cases l.all Uk with
  | false=>exact .nil
  | true=>
   rw [Ae];cases decide (((D4.out l).length :Int)>400) with
   | true=>exact .nil
   | false=>exact key
theorem Qy {l:List R6} (h:Zr l=0):l.length≤400∧(∀r∈l,z4e r=true)∧l=D6.out l∧l.Pairwise Ap6:=by
 unfold Zr at h;by_cases h1:400<l.length
 ·grind
 ·rw [Ay h1,Ac] at h;cases hv:l.all z4e with
  | false=>grind
  | true=>
   rw [hv,Ae] at h;cases ho:okF l ((D6.cuts l).length - 1) 0 with
   | false=>grind
   | true=>
    rw [ho,Ae] at h;cases h2:decide (((D6.out l).length :Int)>400) with
    | true=>grind
    | false=>
     rw [h2,Ac] at h;cases h3:Ke (D6.out l) l with
     | false=>grind
     | true=>
      have e:D6.out l=l:=Aw h3;refine ⟨by omega,fun r hr=>At.1 hv r hr,e.symm,?_⟩;have:=(Dim.out_apart z7g Ap4 (fun a b=>Bz) l fun x=>x4o _).imp (S:=Ap6) fun {s t} h=>by
       rcases h with h | h | h | h | h | h
       ·exact .inr (.inr (.inr (.inr (.inl h))))
       ·exact .inr (.inr (.inr (.inr (.inr h))))
       ·exact .inl h
       ·exact .inr (.inl h)
       ·exact .inr (.inr (.inl h))
       ·exact .inr (.inr (.inr (.inl h)))
      grind
theorem z2e {r:R6} (h:z4e r=true):r.a<r.d∧r.b<r.e∧r.c<r.f∧ -1000000≤r.a∧ -1000000≤r.b∧ -1000000≤r.c∧r.d≤1000000∧r.e≤1000000∧r.f≤1000000:=by
 grind [x4a,x7f]
open Go.Proofs Go.Sort Go.Shelf Go.RowKit Go.Lib
structure Qw (β:Type) where
 a:Int
 b:Int
 s:List β
def ptL {β γ:Type} (inB:β→γ→Prop) (s:List β) (q:γ):Prop:= ∃r∈s,inB r q
theorem y0i {β γ:Type} (inB:β→γ→Prop) (q:γ): ¬ptL inB [] q:=fun ⟨_,h,_⟩=>by cases h
structure Sem (β γ:Type) where
 can:List β→Prop
 inB:β→γ→Prop
 uniq: ∀s t,can s→can t→(∀q,ptL inB s q↔ptL inB t q)→s=t
 some: ∀s,can s→s≠ []→ ∃q,ptL inB s q
 nil:can []
section
variable {β γ:Type} (M:Sem β γ)
def OkS (g:Qw β):Prop:=g.a<g.b∧M.can g.s∧g.s≠ []
def Nxt (g h:Qw β):Prop:=g.b≤h.a∧(g.b=h.a→g.s≠h.s)
inductive z1h :List (Qw β)→Prop
 | nil:z1h []
 | one (g:Qw β) (h:OkS M g):z1h [g]
 | cons (g h:Qw β) (r:List (Qw β)) (ok:OkS M g) (nx:Nxt g h) (k:z1h (h::r)):z1h (g::h::r)
def ptG (G:List (Qw β)) (x:Int) (q:γ):Prop:= ∃g∈G,g.a≤x∧x<g.b∧ptL M.inB g.s q
variable {M}
theorem z1h.head {g:Qw β} {r:List (Qw β)} (h:z1h M (g::r)):OkS M g:=by cases h <;> assumption
theorem z1h.tail {g:Qw β} {r:List (Qw β)} (h:z1h M (g::r)):z1h M r:=by
 cases h with
 | one=>exact .nil
 | cons _ _ _ _ _ k=>exact k
theorem z1h.later {g:Qw β} {r:List (Qw β)} (h:z1h M (g::r)): ∀k∈r,g.b≤k.a:=by
 induction r generalizing g with
 | nil=>grind
 | cons k r ih=>
  cases h with
  | cons _ _ _ ok nx kk=>
   intro m hm;rcases AG.1 hm with rfl | hm
   ·exact nx.1
   ·have h1:=ih kk m hm;have h2:=kk.head.1;have h3:=nx.1;omega
theorem z1h.all {G:List (Qw β)} (h:z1h M G): ∀g∈G,OkS M g:=by
 induction G with
 | nil=>grind
 | cons k r ih=>
  intro g hg;rcases AG.1 hg with rfl | hg
  ·exact h.head
  ·exact ih h.tail g hg
theorem z1h.before {G:List (Qw β)} {g:Qw β} (k:z1h M (G++[g])): ∀m∈G,m.b≤g.a:=by
 induction G with
 | nil=>grind
 | cons m r ih=>
  intro n hn;rcases AG.1 hn with rfl | hn
  ·exact k.later g (by simp)
  ·exact ih k.tail n hn
theorem z1h.snoc {G:List (Qw β)} {g h:Qw β} (k:z1h M (G++[g])) (ok:OkS M h) (nx:Nxt g h):z1h M (G++[g]++[h]):=by
 induction G with
 | nil=>exact .cons g h [] k.head nx (.one h ok)
 | cons m r ih=>
  have i:=ih k.tail;cases r with
  | nil=>
   cases k with
   | cons _ _ _ ok1 nx1 k1=>exact .cons m g [h] ok1 nx1 i
  | cons m2 r=>
   cases k with
   | cons _ _ _ ok1 nx1 k1=>exact .cons m m2 _ ok1 nx1 i
theorem z1h.stretch {G:List (Qw β)} {g:Qw β} {x:Int} (k:z1h M (G++[g])) (hx:g.b≤x):z1h M (G++[⟨g.a,x,g.s⟩]):=by
 induction G with
 | nil=>have:=k.head;exact .one _ ⟨by have:=this.1;grind,this.2⟩
 | cons m r ih=>
  have i:=ih k.tail;cases r with
  | nil=>
   cases k with
   | cons _ _ _ ok1 nx1 k1=>exact .cons m _ [] ok1 nx1 i
  | cons m2 r=>
   cases k with
   | cons _ _ _ ok1 nx1 k1=>exact .cons m m2 _ ok1 nx1 i
theorem z8i (g:Qw β) (G:List (Qw β)) (x:Int) (q:γ):ptG M (g::G) x q↔(g.a≤x∧x<g.b∧ptL M.inB g.s q)∨ptG M G x q:=by
 constructor
 ·rintro ⟨k,hk,h⟩;rcases AG.1 hk with rfl | hk
  ·exact .inl h
  ·exact .inr ⟨k,hk,h⟩
 ·rintro (h | ⟨k,hk,h⟩)
  ·exact ⟨g,by simp,h⟩
  ·exact ⟨k,by simp [hk],h⟩
theorem y9w (G H:List (Qw β)) (x:Int) (q:γ):ptG M (G++H) x q↔ptG M G x q∨ptG M H x q:=by
 constructor
 ·rintro ⟨k,hk,h⟩;rcases AM.1 hk with hk | hk
  ·exact .inl ⟨k,hk,h⟩
  ·exact .inr ⟨k,hk,h⟩
 ·rintro (⟨k,hk,h⟩ | ⟨k,hk,h⟩)
  ·exact ⟨k,AM.2 (.inl hk),h⟩
  ·exact ⟨k,AM.2 (.inr hk),h⟩
theorem z1h.low {g:Qw β} {r:List (Qw β)} (h:z1h M (g::r)) {x:Int} {q:γ} (hp:ptG M (g::r) x q):g.a≤x:=by
 rcases (z8i g r x q).1 hp with hp | ⟨k,hk,h1,_⟩
 ·exact hp.1
 ·have:=h.later k hk;have:=h.head.1;omega
theorem z1h.rest {g:Qw β} {r:List (Qw β)} (h:z1h M (g::r)) (x:Int) (q:γ):ptG M r x q↔g.b≤x∧ptG M (g::r) x q:=by
 constructor
 ·rintro ⟨k,hk,h1,h2⟩;have:=h.later k hk;exact ⟨by omega,k,by simp [hk],h1,h2⟩
 grind [z8i]
theorem z1h.sec0 {g:Qw β} {r:List (Qw β)} (h:z1h M (g::r)) {x:Int} (hx:g.a≤x∧x<g.b) (q:γ):ptG M (g::r) x q↔ptL M.inB g.s q:=by
 rw [z8i];constructor
 ·rintro (h1 | ⟨k,hk,h1,_⟩)
  ·exact h1.2.2
  ·have:=h.later k hk;omega
 grind
theorem x6d : ∀(G H:List (Qw β)),z1h M G→z1h M H→(∀x q,ptG M G x q↔ptG M H x q)→G=H
 | [],[],_,_,_=>rfl
 | [],h::H,_,hH,e=>by obtain ⟨q,hq⟩:=M.some _ hH.head.2.1 hH.head.2.2;have:=(e h.a q).2 ((hH.sec0 ⟨AZ _,hH.head.1⟩ q).2 hq);obtain ⟨k,hk,_⟩:=this;cases hk
 | g::G,[],hG,_,e=>by obtain ⟨q,hq⟩:=M.some _ hG.head.2.1 hG.head.2.2;have:=(e g.a q).1 ((hG.sec0 ⟨AZ _,hG.head.1⟩ q).2 hq);obtain ⟨k,hk,_⟩:=this;cases hk
 | g::G,h::H,hG,hH,e=>by
  have og:=hG.head;have oh:=hH.head;obtain ⟨q,hq⟩:=M.some _ og.2.1 og.2.2;obtain ⟨p,hp⟩:=M.some _ oh.2.1 oh.2.2;have a1:h.a≤g.a:=hH.low ((e g.a q).1 ((hG.sec0 ⟨AZ _,og.1⟩ q).2 hq));have a2:g.a≤h.a:=hG.low ((e h.a p).2 ((hH.sec0 ⟨AZ _,oh.1⟩ p).2 hp));have a3:g.a=h.a:=by omega
  have s1:g.s=h.s:=M.uniq _ _ og.2.1 oh.2.1 fun q=>by rw [←hG.sec0 (x:=g.a) ⟨AZ _,og.1⟩,e,hH.sec0 (x:=g.a) ⟨by omega,by have:=oh.1;omega⟩]
  have key: ∀(g h:Qw β) (G H:List (Qw β)),z1h M (g::G)→z1h M (h::H)→(∀x q,ptG M (g::G) x q↔ptG M (h::H) x q)→g.a=h.a→g.s=h.s→ ¬g.b<h.b:=fun g h G H hG hH e ea es hlt=>by
   have og:=hG.head;have oh:=hH.head;have at_: ∀q,ptG M (g::G) g.b q↔ptL M.inB h.s q:=fun q=>by rw [e,hH.sec0 ⟨by have:=og.1;omega,hlt⟩]
   obtain ⟨q,hq⟩:=M.some _ oh.2.1 oh.2.2;have:=(hG.rest g.b q).2 ⟨AZ _,(at_ q).2 hq⟩;cases hG with
   | one=>obtain ⟨k,hk,_⟩:=this;cases hk
   | cons _ k r ok nx kk=>
    have hk:k.a≤g.b:=kk.low this;have hk2:g.b=k.a:=by have:=nx.1;omega
    refine nx.2 hk2 ?_;rw [es];refine M.uniq _ _ oh.2.1 kk.head.2.1 fun p=> ?_;rw [←at_,←kk.sec0 (x:=g.b) ⟨by omega,by have:=kk.head.1;omega⟩];constructor
    ·exact fun hp=>((z1h.cons g k r ok nx kk).rest g.b p).2 ⟨AZ _,hp⟩
    ·exact fun hp=>(((z1h.cons g k r ok nx kk).rest g.b p).1 hp).2
  have b1:=key g h G H hG hH e a3 s1;have b2:=key h g H G hH hG (fun x q=>(e x q).symm) a3.symm s1.symm;have b3:g.b=h.b:=by omega
  have eg:g=h:=by
   obtain ⟨ga,gb,gs⟩:=g;obtain ⟨ha,hb,hs⟩:=h;simp only at a3 b3 s1
   subst_vars;rfl
  subst eg
  congr 1
  exact x6d G H hG.tail hH.tail fun x q=>by rw [hG.rest,hH.rest,e]
end
namespace Dim
variable {α β:Type} (D:Dim α β)
def flat (G:List (Qw β)):List α:=G.flatMap fun g=>g.s.map (D.put g.a g.b)
theorem flat_append (G H:List (Qw β)):D.flat (G++H)=D.flat G++D.flat H:=by simp [flat]
theorem flat_one (g:Qw β):D.flat [g]=g.s.map (D.put g.a g.b):=by simp [flat]
def inA {γ:Type} (inB:β→γ→Prop) (r:α) (p:Int×γ):Prop:=D.lo r≤p.1∧p.1<D.hi r∧inB (D.pr r) p.2
variable {D}
theorem flat_pt (hD:D.Fair) {γ:Type} (M:Sem β γ) (G:List (Qw β)) (x:Int) (q:γ):ptL (D.inA M.inB) (D.flat G) (x,q)↔ptG M G x q:=by
 constructor
 ·rintro ⟨r,hr,h⟩;obtain ⟨g,hg,hr⟩:=AJ.1 hr;obtain ⟨b,hb,rfl⟩:=AO.1 hr;unfold inA at h;rw [hD.lo_put,hD.hi_put,hD.pr_put] at h;exact ⟨g,hg,h.1,h.2.1,b,hb,h.2.2⟩
 ·rintro ⟨g,hg,h1,h2,b,hb,h3⟩;refine ⟨D.put g.a g.b b,AJ.2 ⟨g,hg,AO.2 ⟨b,hb,rfl⟩⟩,?_⟩;unfold inA;rw [hD.lo_put,hD.hi_put,hD.pr_put]
  grind
def can {γ:Type} (M:Sem β γ) (l:List α):Prop:= ∃G,z1h M G∧l=D.flat G
def sem (hD:D.Fair) {γ:Type} (M:Sem β γ):Sem α (Int×γ) where
 can:=D.can M
 inB:=D.inA M.inB
 uniq:=fun s t ⟨G,hG,e1⟩ ⟨H,hH,e2⟩ h=>by subst e1 e2;rw [x6d G H hG hH fun x q=>by simp_all [flat_pt]]
 some:=fun s ⟨G,hG,e1⟩ hs=>by
  subst e1;cases G with
  | nil=>exact absurd rfl hs
  | cons g G=>obtain ⟨q,hq⟩:=M.some _ hG.head.2.1 hG.head.2.2;exact ⟨(g.a,q),(flat_pt hD M _ _ _).2 ((hG.sec0 ⟨AZ _,hG.head.1⟩ q).2 hq)⟩
 nil:=⟨[],.nil,rfl⟩
variable (D)
def oneS (sec:List β) (x x':Int) (s:Sw α β):Sw α β:=
 bif decide (0<sec.length)&&((s.fin == x)&&D.same s.last sec) then ⟨D.grow s.out s.first x',s.last,s.first,x'⟩
 else ⟨s.out++sec.map (D.put x x'),sec,s.out.length,x'⟩
def goS (sec:Int→List β) (cs:List Int):Nat→Nat→Sw α β→Sw α β
 | 0,_,s=>s
 | k+1,i,s=>goS sec cs k (i+1) (D.oneS (sec (rd cs i)) (rd cs i) (rd cs (i+1)) s)
theorem u9q (l:List α): ∀(k i:Nat) (s:Sw α β),D.go l k i s=D.goS (D.sec l) (D.cuts l) k i s
 | 0,_,_=>rfl
 | k+1,i,s=>u9q l k (i+1) _
variable {D}
structure Inv {γ:Type} (M:Sem β γ) (sec:Int→List β) (cs:List Int) (i:Nat) (s:Sw α β) (G:List (Qw β)):Prop where
 can:z1h M G
 out:s.out=D.flat G
 gap:s.last=[]→ ∀g∈G,g.b<rd cs i
 end_ : s.last ≠ [] → ∃ Gp g, G = Gp ++ [g] ∧ g.s = s.last ∧ g.b = rd cs i ∧ s.fin = rd cs i ∧ s.first = (D.flat Gp).length
 pts: ∀x q,ptG M G x q↔ ∃j,j<i∧rd cs j≤x∧x<rd cs (j+1)∧ptL M.inB (sec (rd cs j)) q
theorem u3h (hD:D.Fair) (hs: ∀a b,D.same a b=true↔a=b) {γ:Type} (M:Sem β γ) {sec:Int→List β} {cs:List Int} (hc:cs.Pairwise (· < ·)) (fA: ∀x,M.can (sec x)) {i:Nat} (hi:i+1<cs.length) {s:Sw α β} {G:List (Qw β)} (h:Inv (D:=D) M sec cs i s G):
  ∃G',Inv (D:=D) M sec cs (i+1) (D.oneS (sec (rd cs i)) (rd cs i) (rd cs (i+1)) s) G':=by
 have hlt:rd cs i<rd cs (i+1):=x2p hc (BN _) hi;unfold oneS;rcases Yk (decide (0<(sec (rd cs i)).length)&&((s.fin == rd cs i)&&D.same s.last (sec (rd cs i)))) with q | q
 ·rw [q,Ae];simp only [Ad,Ar] at q;obtain ⟨q1,q2,q3⟩:=q;have q3:=(hs _ _).1 q3;have hne:s.last≠ []:=fun e=>by grind
  obtain ⟨Gp,g,e1,e2,e3,e4,e5⟩:=h.end_ hne;subst e1;refine ⟨Gp++[⟨g.a,rd cs (i+1),g.s⟩],h.can.stretch (by omega),?_,fun e=>absurd e hne,fun _=>⟨Gp,_,rfl,e2,rfl,rfl,e5⟩,fun x p=> ?_⟩
  ·show D.grow s.out s.first (rd cs (i+1))=_
   rw [h.out,e5];unfold grow;rw [D.flat_append,D.flat_append,D.flat_one,D.flat_one,List.take_left,List.drop_left,List.map_map]
   congr 1
   exact List.map_congr_left fun b _=>hD.ext_put _ _ _ _
  ·have hp:=h.pts x p;rw [y9w,z8i] at hp ⊢;have z: ¬ptG M ([]:List (Qw β)) x p:=fun ⟨_,hk,_⟩=>by cases hk
   constructor
   ·grind
   ·rintro ⟨j,j1,j2,j3,j4⟩;rcases A6 (Nat.le_of_lt_succ j1) with rfl | j1
    ·refine .inr (.inl ⟨?_,j3,?_⟩)
     ·have:=(h.can.all g (by simp)).1;grind
     grind
    grind
 ·rw [q,Ac];by_cases he:sec (rd cs i)=[]
  ·rw [he];refine ⟨G,h.can,?_,fun _ g hg=> ?_,fun e=>absurd rfl e,fun x p=> ?_⟩
   ·show s.out++[].map _=_;rw [By,AF,h.out]
   ·by_cases hl:s.last=[]
    ·have:=h.gap hl g hg;omega
    ·obtain ⟨Gp,g',e1,e2,e3,_⟩:=h.end_ hl;subst e1;rcases AM.1 hg with hg | hg
     ·have:=h.can.before g hg;have:=(h.can.all g' (by simp)).1;omega
     grind
   ·rw [h.pts]
    grind [y0i]
  ·have ok:OkS M (⟨rd cs i,rd cs (i+1),sec (rd cs i)⟩:Qw β):=⟨hlt,fA _,he⟩
   have hcan:z1h M (G++[⟨rd cs i,rd cs (i+1),sec (rd cs i)⟩]):=by
    rcases List.eq_nil_or_concat G with rfl | ⟨Gp,g,rfl⟩
    ·exact .one _ ok
    ·rw [List.concat_eq_append] at*;refine h.can.snoc ok ?_;by_cases hl:s.last=[]
     ·have:=h.gap hl g (by simp);exact ⟨by grind,fun e=>by grind⟩
     ·obtain ⟨Gp',g',e1,e2,e3,e4,_⟩:=h.end_ hl;obtain ⟨rfl,e⟩:=List.append_inj' e1 rfl;obtain rfl:g=g':=by simpa using e
      refine ⟨by grind,fun _ e=> ?_⟩;rw [An (show 0<(sec (rd cs i)).length from List.length_pos_iff.2 he),e4,(hs _ _).2 (e2.symm.trans e)] at q;simp at q
   refine ⟨_,hcan,?_,fun e=>absurd e he,fun _=>⟨G,_,rfl,rfl,rfl,rfl,by show s.out.length=_;rw [h.out]⟩,fun x p=> ?_⟩
   ·show s.out++_=_;rw [D.flat_append,D.flat_one,h.out]
   ·rw [y9w,z8i,h.pts]
    grind [ptG]
theorem u9o (hD:D.Fair) (hs: ∀a b,D.same a b=true↔a=b) {γ:Type} (M:Sem β γ) {sec:Int→List β} {cs:List Int} (hc:cs.Pairwise (· < ·)) (fA: ∀x,M.can (sec x)): ∀(k i:Nat) (s:Sw α β) (G:List (Qw β)),i+k<cs.length∨k=0→Inv (D:=D) M sec cs i s G→
  ∃G',Inv (D:=D) M sec cs (i+k) (D.goS sec cs k i s) G'
 | 0,i,s,G,_,h=>⟨G,h⟩
 | k+1,i,s,G,hk,h=>by obtain ⟨G1,h1⟩:=u3h hD hs M hc fA (show i+1<cs.length by omega) h;obtain ⟨G2,h2⟩:=u9o hD hs M hc fA k (i+1) _ G1 (by omega) h1;exact ⟨G2,by rw [show i+(k+1)=i+1+k by omega];exact h2⟩
theorem j4w (hD:D.Fair) (hs: ∀a b,D.same a b=true↔a=b) {γ:Type} (M:Sem β γ) {sec:Int→List β} {cs:List Int} (hc:cs.Pairwise (· < ·)) (fA: ∀x,M.can (sec x)):
  (D.sem hD M).can (D.goS sec cs (cs.length - 1) 0 ⟨[],[],0,0⟩).out ∧ ∀x q,ptL (D.sem hD M).inB (D.goS sec cs (cs.length - 1) 0 ⟨[],[],0,0⟩).out (x,q)↔ ∃j,j+1<cs.length∧rd cs j≤x∧x<rd cs (j+1)∧ptL M.inB (sec (rd cs j)) q:=by
 obtain ⟨G,h⟩:=u9o hD hs M hc fA (cs.length - 1) 0 ⟨[],[],0,0⟩ [] (by omega) ⟨.nil,rfl,fun _ g hg=>by (cases hg),fun e=>absurd rfl e,fun x q=>⟨fun ⟨_,hg,_⟩=>(by cases hg),fun ⟨j,hj,_⟩=>absurd hj (AH _)⟩⟩;refine ⟨⟨G,h.can,h.out⟩,fun x q=> ?_⟩;rw [h.out];rw [show ptL (D.sem hD M).inB (D.flat G) (x,q)↔ptG M G x q from flat_pt hD M G x q,h.pts]
 grind
end Dim
open Go.Proofs Go.Sort Go.Shelf Go.RowKit Go.Lib
def z5e :Sem R2 Int where
 can:=Can
 inB s y:=s.a≤y∧y<s.b
 uniq:=w5q
 some s hs hn:=by
  cases s with
  | nil=>grind
  | cons r l=>exact ⟨r.a,r,by simp,AZ _,hs.pos r (by simp)⟩
 nil:=.nil
def Wu :Sem R4 (Int×Int):=Dim.sem z2d z5e
def x7y :Sem R6 (Int×Int×Int):=Dim.sem z7g Wu
namespace Dim
variable {α β:Type} {D:Dim α β}
theorem w5c (l m:List α) (hl: ∀r∈m,r∈l) {j:Nat} (hj:j+1<(D.cuts l).length) {x:Int} (h1:rd (D.cuts l) j≤x) (h2:x<rd (D.cuts l) (j+1)):D.inn m (rd (D.cuts l) j)=D.inn m x:=by
 have hc:(D.cuts l).Pairwise (· < ·):=by show (Je (D.ends l)).Pairwise (· < ·);rw [Km];exact (Wv _).1
 have hmem: ∀r∈m,D.lo r∈D.cuts l∧D.hi r∈D.cuts l:=fun r hr=>by show D.lo r∈Je (D.ends l)∧D.hi r∈Je (D.ends l);rw [Km,(Wv _).2,(Wv _).2];exact ⟨AJ.2 ⟨r,hl r hr,by simp⟩,AJ.2 ⟨r,hl r hr,by simp⟩⟩
 have side: ∀c,c∈D.cuts l→(c≤rd (D.cuts l) j↔c≤x):=fun c hcm=>by
  obtain ⟨i,hi,rfl⟩:=AK hcm;rw [←Yo hi];rcases A4 j i with h | h
  ·have:rd (D.cuts l) (j+1)≤rd (D.cuts l) i:=by
    rcases A6 (show j+1≤i from h) with e | e
    ·grind
    ·exact Int.le_of_lt (x2p hc e hi)
   grind
  ·have:rd (D.cuts l) i≤rd (D.cuts l) j:=by
    rcases A6 h with e | e
    ·grind
    ·exact Int.le_of_lt (x2p hc e (by omega))
   grind
 unfold inn
 congr 1
 refine List.filter_congr fun r hr=> ?_
 grind
theorem v5v (l m:List α) (hl: ∀r∈m,r∈l) {x:Int} (h: ∀j,j+1<(D.cuts l).length → ¬(rd (D.cuts l) j≤x∧x<rd (D.cuts l) (j+1))):D.inn m x=[]:=by
 unfold inn;rw [List.map_eq_nil_iff,List.filter_eq_nil_iff];intro r hr hb;simp only [Ad,Ar] at hb;have hmem:D.lo r∈D.cuts l∧D.hi r∈D.cuts l:=by show D.lo r∈Je (D.ends l)∧D.hi r∈Je (D.ends l);rw [Km,(Wv _).2,(Wv _).2];exact ⟨AJ.2 ⟨r,hl r hr,by simp⟩,AJ.2 ⟨r,hl r hr,by simp⟩⟩
 have hc:(D.cuts l).Pairwise (· < ·):=by show (Je (D.ends l)).Pairwise (· < ·);rw [Km];exact (Wv _).1
 obtain ⟨i,hi,e1⟩:=AK hmem.1;obtain ⟨k,hk,e2⟩:=AK hmem.2;rw [←Yo hi] at e1;rw [←Yo hk] at e2;have h0:rd (D.cuts l) 0≤rd (D.cuts l) i:=by
  rcases A6 (AB i) with e | e
  ·grind
  ·exact Int.le_of_lt (x2p hc e hi)
 obtain ⟨j,j1,j2,j3⟩:=w2f k hk x (by omega) (by omega)
 grind
theorem goJ_can (hD:D.Fair) (hs: ∀a b,D.same a b=true↔a=b) {γ:Type} (M:Sem β γ) (a b:List α) (J:List β→List β→List β) (hJ: ∀x,M.can (J (D.inn a x) (D.inn b x))) (h0:J [] []=[]):
  (D.sem hD M).can (D.goS (fun x=>J (D.inn a x) (D.inn b x)) (D.cuts (a++b)) ((D.cuts (a++b)).length - 1) 0 ⟨[],[],0,0⟩).out ∧
  ∀x q,ptL (D.sem hD M).inB (D.goS (fun x=>J (D.inn a x) (D.inn b x)) (D.cuts (a++b)) ((D.cuts (a++b)).length - 1) 0 ⟨[],[],0,0⟩).out (x,q)↔ptL M.inB (J (D.inn a x) (D.inn b x)) q:=by
 have hc:(D.cuts (a++b)).Pairwise (· < ·):=by show (Je (D.ends (a++b))).Pairwise (· < ·);rw [Km];exact (Wv _).1
 obtain ⟨h1,h2⟩:=j4w hD hs M (cs:=D.cuts (a++b)) hc hJ;refine ⟨h1,fun x q=> ?_⟩;rw [h2];constructor
 ·grind [w5c]
 ·intro hp;by_cases hx: ∃j,j+1<(D.cuts (a++b)).length ∧rd (D.cuts (a++b)) j≤x∧x<rd (D.cuts (a++b)) (j+1)
  ·grind [w5c]
  ·have hx': ∀j,j+1<(D.cuts (a++b)).length → ¬(rd (D.cuts (a++b)) j≤x∧x<rd (D.cuts (a++b)) (j+1)):=fun j j1 j2=>hx ⟨j,j1,j2⟩;rw [v5v (a++b) a (fun r hr=>AM.2 (.inl hr)) hx',v5v (a++b) b (fun r hr=>AM.2 (.inr hr)) hx',h0] at hp;exact absurd hp (y0i _ _)
theorem pt_inn {γ:Type} (inB:β→γ→Prop) (l:List α) (x:Int) (q:γ):ptL inB (D.inn l x) q↔ptL (D.inA inB) l (x,q):=by
 constructor
 ·rintro ⟨b,hb,h⟩;obtain ⟨r,hr,rfl⟩:=AO.1 hb;obtain ⟨h1,h2⟩:=AV.1 hr;simp only [Ad,Ar] at h2;exact ⟨r,h1,h2.1,h2.2,h⟩
 ·rintro ⟨r,hr,h1,h2,h3⟩;refine ⟨D.pr r,AO.2 ⟨r,AV.2 ⟨hr,?_⟩,rfl⟩,h3⟩
  grind
theorem out_goJ (l:List α):D.out l=(D.goS (fun x=>D.mak (D.inn l x)) (D.cuts (l++[])) ((D.cuts (l++[])).length - 1) 0 ⟨[],[],0,0⟩).out :=by rw [AF];unfold out;rw [u9q];rfl
end Dim
theorem z7o (a b:List R4):D6.same a b=true↔a=b:=Bz
theorem z7p (a b:List R2):D4.same a b=true↔a=b:=Bz
theorem Jn {l:List R4} (h: ∀r∈l,Uk r=true) (x:Int):(D4.inn l x).all z1e=true:=At.2 fun s hs=>by
 grind [z6w,Uk,z1e]
theorem v1v {l:List R2} (hv:l.all z1e=true) (hl:l.length≤400):z5e.can (Xc l)∧ ∀y,ptL z5e.inB (Xc l) y↔ptL z5e.inB l y:=by
 obtain ⟨c1,c2⟩:=z9s l hv;have e:Xc l=swV l:=by grind [Xc]
 rw [e];exact ⟨c1,c2⟩
theorem y0m {β γ:Type} (M:Sem β γ) {l:List β} (h:M.can l) (hp: ∀q,¬ptL M.inB l q):l=[]:=Bb fun hn=>by obtain ⟨q,hq⟩:=M.some l h hn;exact hp q hq
theorem j1c :Xc []=[]:=by
 grind [v1v,y0m,y0i]
theorem Dim.out_nil {α β:Type} (D:Dim α β):D.out []=[]:=by
 have h:(D.cuts []).length ≤2*0:=D.cuts_length [];have e:(D.cuts []).length - 1=0:=by omega
 unfold Dim.out;rw [e];rfl
theorem j3g :Ze []=[]:=by
 grind [Ze,Dim.out_nil]
theorem z1z {l:List R4} (hv: ∀r∈l,Uk r=true) (hl:l.length≤400):Wu.can (D4.out l)∧ ∀p,ptL Wu.inB (D4.out l) p↔ptL Wu.inB l p:=by rw [Dim.out_goJ];have hs: ∀x,z5e.can (D4.mak (D4.inn l x))∧ ∀y,ptL z5e.inB (D4.mak (D4.inn l x)) y↔ptL z5e.inB (D4.inn l x) y:=fun x=>v1v (Jn hv x) (AE (D4.inn_length l x) hl);obtain ⟨h1,h2⟩:=Dim.goJ_can z2d z7p z5e l [] (fun s _=>D4.mak s) (fun x=>(hs x).1) j1c;refine ⟨h1,fun ⟨x,y⟩=> ?_⟩;rw [show ptL Wu.inB _ (x,y)↔_ from h2 x y,(hs x).2,Dim.pt_inn];rfl
theorem y0z {l:List R6} (hv: ∀r∈l,z4e r=true) (z:Int): ∀r∈D6.inn l z,Uk r=true:=fun r hr=>by
 obtain ⟨s,hs,rfl⟩:=AO.1 hr;have:=z2e (hv s (AV.1 hs).1);show Uk ⟨s.a,s.b,s.d,s.e⟩=true
 grind [Uk]
def Secs (l:List R6):Prop:= ∀z,(D4.out (D6.inn l z)).length ≤400
theorem z1j {l:List R4} (hv: ∀r∈l,Uk r=true) (hl:l.length≤400) (h:(D4.out l).length ≤400):Ze l=D4.out l∧We l=0:=by
 grind [Ze,We]
theorem j1f {l:List R6} (hv: ∀r∈l,z4e r=true) (hl:l.length≤400) (hs:Secs l):x7y.can (D6.out l)∧ ∀p,ptL x7y.inB (D6.out l) p↔ptL x7y.inB l p:=by
 rw [Dim.out_goJ];have hq: ∀z,Wu.can (D6.mak (D6.inn l z))∧ ∀p,ptL Wu.inB (D6.mak (D6.inn l z)) p↔ptL Wu.inB (D6.inn l z) p:=fun z=>by show Wu.can (Ze (D6.inn l z))∧ ∀p,ptL Wu.inB (Ze (D6.inn l z)) p↔_;rw [(z1j (y0z hv z) (AE (D6.inn_length l z) hl) (hs z)).1];exact z1z (y0z hv z) (AE (D6.inn_length l z) hl)
 obtain ⟨h1,h2⟩:=Dim.goJ_can z7g z7o Wu l [] (fun s _=>D6.mak s) (fun x=>(hq x).1) j3g;refine ⟨h1,fun ⟨z,p⟩=> ?_⟩;rw [show ptL x7y.inB _ (z,p)↔_ from h2 z p,(hq z).2,Dim.pt_inn];rfl
open Go.Proofs Go.Sort Go.Shelf Go.RowKit Go.Lib
def opB (k:Nat) (a b:Bool):Bool:=match k with
 | 0=>a||b
 | 1=>a&&b
 | _=>a&& !b
theorem opB_ff (k:Nat):opB k false false=false:=by
 match k with
 | 0=>rfl
 | 1=>rfl
 | _+2=>rfl
def Wa (i:Int) (l:List R2):List R3:=l.flatMap fun s=>[⟨s.a,i,1⟩,⟨s.b,i,-1⟩]
def z6a (i:Int) (E:List R3) (y:Int):Int:=(E.map fun e=>if e.b=i∧e.a≤y then e.c else 0).sum
theorem Qc (i:Int) (e:R3) (E:List R3) (y:Int):z6a i (e::E) y=(if e.b=i∧e.a≤y then e.c else 0)+z6a i E y:=by simp [z6a]
theorem y6b (i:Int) (E F:List R3) (y:Int):z6a i (E++F) y=z6a i E y+z6a i F y:=by simp [z6a]
theorem x5d (i:Int) {E F:List R3} (h:E.Perm F) (y:Int):z6a i E y=z6a i F y:=by
 induction h with
 | nil=>rfl
 | cons e _ ih=>rw [Qc,Qc,ih]
 | swap a b l=>simp only [Qc];omega
 | trans _ _ i1 i2=>rw [i1,i2]
theorem v4t (i:Int) (E:List R3) (y:Int) (h: ∀e∈E,y<e.a):z6a i E y=0:=by
 induction E with
 | nil=>rfl
 | cons e E ih=>
  grind [Qc]
theorem v4u (i:Int) (l:List R2) (hv: ∀s∈l,s.a<s.b) (y:Int):0≤z6a i (Wa i l) y∧(0<z6a i (Wa i l) y↔pt l y):=by
 induction l with
 | nil=>grind [z6a,Wa,pt]
 | cons s l ih=>
  obtain ⟨i1,i2⟩:=ih fun t ht=>hv t (by simp [ht]);have hs:=hv s (by simp);have e:z6a i (Wa i (s::l)) y=(if s.a≤y∧y<s.b then 1 else 0)+z6a i (Wa i l) y:=by
   grind [Wa,Qc]
  rw [e];by_cases h:s.a≤y∧y<s.b
  ·rw [AI h];exact ⟨by omega,⟨fun _=>⟨s,by simp,h⟩,fun _=>by omega⟩⟩
  ·rw [AD h];refine ⟨by omega,?_⟩;rw [BM,i2];constructor
   ·rintro ⟨t,ht,h2⟩;exact ⟨t,by simp [ht],h2⟩
   ·rintro ⟨t,ht,h2⟩;rcases AG.1 ht with rfl | ht
    ·grind
    ·exact ⟨t,ht,h2⟩
theorem y9z (i j:Int) (hij:i≠j) (l:List R2) (y:Int):z6a i (Wa j l) y=0:=by
 induction l with
 | nil=>rfl
 | cons s l ih=>
  show z6a i (⟨s.a,j,1⟩::⟨s.b,j,-1⟩::Wa j l) y=0
  grind [Qc]
def sw2 (f:Bool→Bool→Bool):List R3→Int→Int→Int→Bool→List R2→List R2
 | [],_,_,_,_,out=>out
 | e::r,o,p,last,inn,out=>
  sw2 f r (bif e.b == 0 then o+e.c else o) (bif e.b == 0 then p else p+e.c) e.a (f (decide ((bif e.b == 0 then o+e.c else o)>0)) (decide ((bif e.b == 0 then p else p+e.c)>0))) (Uy out last inn e.a)
def Two (E:List R3):Prop:= ∀e∈E,e.b=0∨e.b=1
theorem v1j (f:Bool→Bool→Bool): ∀(E:List R3) (o p last:Int) (out:List R2),Asc E→Two E→(∀e∈E,last≤e.a)→Can out→(∀s∈out,s.b≤last)→
  Can (sw2 f E o p last (f (decide (o>0)) (decide (p>0))) out)∧ ∀y,pt (sw2 f E o p last (f (decide (o>0)) (decide (p>0))) out) y↔pt out y∨(last≤y∧f (decide (o+z6a 0 E y>0)) (decide (p+z6a 1 E y>0))=true∧ ∃e∈E,y<e.a)
 | [],o,p,last,out,_,_,_,hc,_=>⟨hc,fun y=>⟨.inl,fun h=>h.elim id fun ⟨_,_,e,he,_⟩=>by cases he⟩⟩
 | e ::r,o,p,last,out,hE,ht,hl,hc,hb=>by
  have he:=hl e (by simp);have hr:=AR.1 hE;obtain ⟨p1,p2,p3⟩:=x0x (f (decide (o>0)) (decide (p>0))) hc hb he;have hz: ∀y,y<e.a→ ∀i,z6a i (e::r) y=0:=fun y hy i=>v4t i _ _ fun g hg=>by
   grind
  have main: ∀(o' p':Int),(∀y,e.a≤y→o'+z6a 0 r y=o+z6a 0 (e::r) y∧p'+z6a 1 r y=p+z6a 1 (e::r) y)→
    Can (sw2 f r o' p' e.a (f (decide (o'>0)) (decide (p'>0))) (Uy out last (f (decide (o>0)) (decide (p>0))) e.a))∧
    ∀y,pt (sw2 f r o' p' e.a (f (decide (o'>0)) (decide (p'>0))) (Uy out last (f (decide (o>0)) (decide (p>0))) e.a)) y↔pt out y∨(last≤y∧f (decide (o+z6a 0 (e::r) y>0)) (decide (p+z6a 1 (e::r) y>0))=true∧ ∃g∈e::r,y<g.a):=fun o' p' hop=>by
   obtain ⟨q1,q2⟩:=v1j f r o' p' e.a (Uy out last (f (decide (o>0)) (decide (p>0))) e.a) hr.2 (fun g hg=>ht g (by simp [hg])) hr.1 p1 p2;refine ⟨q1,fun y=> ?_⟩;rw [q2,p3];constructor
   ·rintro ((h | ⟨h1,h2,h3⟩) | ⟨h1,h2,g,hg,h3⟩)
    ·exact .inl h
    ·simp_all
    ·refine .inr ⟨by omega,?_,g,by simp [hg],h3⟩;simp_all
   ·rintro (h | ⟨h1,h2,g,hg,h3⟩)
    ·grind
    ·by_cases hy:e.a≤y
     ·right;obtain ⟨e1,e2⟩:=hop y hy;refine ⟨hy,by simp_all,g,?_,h3⟩
      grind
     simp_all
  show Can (sw2 f r _ _ _ _ _)∧ ∀y,pt (sw2 f r _ _ _ _ _) y↔_;rcases ht e (by simp) with h0 | h0
  ·have hb0:(e.b == 0)=true:=by rw [h0];rfl
   rw [hb0,Ae,Ae];refine main _ _ fun y hy=>⟨?_,?_⟩
   all_goals grind [Qc]
  ·have hb0:(e.b == 0)=false:=by rw [h0];rfl
   rw [hb0,Ac,Ac];refine main _ _ fun y hy=>⟨?_,?_⟩
   all_goals grind [Qc]
instance ptDec (l:List R2) (y:Int):Decidable (pt l y):=Classical.propDecidable _
theorem j0s (f:Bool→Bool→Bool) (hf:f false false=false) (a b:List R2) (ha: ∀s∈a,s.a<s.b) (hb: ∀s∈b,s.a<s.b) (E:List R3) (hp:E.Perm (Wa 0 a++Wa 1 b)) (hE:Asc E):
  Can (sw2 f E 0 0 0 false [])∧ ∀y,pt (sw2 f E 0 0 0 false []) y↔f (decide (pt a y)) (decide (pt b y))=true:=by
 have hn: ∀y,z6a 0 E y=z6a 0 (Wa 0 a) y∧z6a 1 E y=z6a 1 (Wa 1 b) y:=fun y=>by rw [x5d 0 hp,x5d 1 hp,y6b,y6b,y9z 0 1 (by decide),y9z 1 0 (by decide)];omega
 have hd: ∀y,decide (z6a 0 E y>0)=decide (pt a y)∧decide (z6a 1 E y>0)=decide (pt b y):=fun y=>by simp_all [v4u]
 have ht:Two E:=fun e he=>by
  rcases AM.1 (hp.mem_iff.1 he) with h | h
  ·obtain ⟨s,_,h⟩:=AJ.1 h
   grind
  ·obtain ⟨s,_,h⟩:=AJ.1 h
   grind
 have cover: ∀y,f (decide (pt a y)) (decide (pt b y))=true→ ∃e∈E,y<e.a∧ ∃g∈E,g.a≤y:=fun y hy=>by
  by_cases h1:pt a y
  ·obtain ⟨s,hs,s1,s2⟩:=h1;exact ⟨⟨s.b,0,-1⟩,hp.mem_iff.2 (AM.2 (.inl (AJ.2 ⟨s,hs,by simp⟩))),s2,⟨s.a,0,1⟩,hp.mem_iff.2 (AM.2 (.inl (AJ.2 ⟨s,hs,by simp⟩))),s1⟩
  ·by_cases h2:pt b y
   ·obtain ⟨s,hs,s1,s2⟩:=h2;exact ⟨⟨s.b,1,-1⟩,hp.mem_iff.2 (AM.2 (.inr (AJ.2 ⟨s,hs,by simp⟩))),s2,⟨s.a,1,1⟩,hp.mem_iff.2 (AM.2 (.inr (AJ.2 ⟨s,hs,by simp⟩))),s1⟩
   grind
 cases E with
 | nil=>
  refine ⟨.nil,fun y=>⟨fun ⟨s,hs,_⟩=>(by cases hs),fun hy=> ?_⟩⟩
  grind
 | cons e r=>
  have hr:=AR.1 hE;have hz0:f (decide ((0:Int)>0)) (decide ((0:Int)>0))=false:=hf;have e0:sw2 f (e::r) 0 0 0 false []=sw2 f (e::r) 0 0 e.a (f (decide ((0:Int)>0)) (decide ((0:Int)>0))) []:=by
   grind [sw2,Uy]
  rw [e0];obtain ⟨q1,q2⟩:=v1j f (e::r) 0 0 e.a [] hE ht (fun g hg=>by
   grind) .nil (by simp)
  refine ⟨q1,fun y=> ?_⟩;rw [q2,BM,BM,(hd y).1,(hd y).2];constructor
  ·rintro (⟨s,hs,_⟩ | ⟨_,h2,_⟩);all_goals grind
  grind
def tri :Nat→Nat
 | 0=>0
 | k+1=>tri k+k
theorem v1e : ∀n,tri (n+1)+tri n=n*n
 | 0=>rfl
 | n+1=>by have:=v1e n;show tri (n+1)+(n+1)+(tri n+n)=(n+1)*(n+1);rw [AS,Nat.mul_add];omega
def hat (n:Nat):Nat→Nat
 | 0=>0
 | v+1=>hat n v+min v (2*n - v)
theorem v5w (n:Nat): ∀v,v≤n+1→hat n v=tri v
 | 0,_=>rfl
 | v+1,h=>by show hat n v+min v (2*n - v)=tri v+v;rw [v5w n v (by omega)];omega
theorem y4f (n:Nat): ∀j,j≤n→hat n (n+1+j)+tri (n - j)=n*n
 | 0,_=>by grind [v5w,v1e]
 | j+1,h=>by
  have:=y4f n j (by omega);show hat n (n+1+j)+min (n+1+j) (2*n - (n+1+j))+tri (n - (j+1))=_;have e:tri (n - j)=tri (n - (j+1))+(n - (j+1)):=by rw [show n - j=(n - (j+1))+1 by omega];rfl
  omega
theorem hat_le (n v:Nat):hat n v≤n*n:=by
 by_cases h1:v≤2*n+1
 ·by_cases h2:v≤n+1
  ·have h3:=y4f n 0 (AB _);have mono: ∀k v,hat n v≤hat n (v+k):=fun k v=>by
    induction k with
    | zero=>grind
    | succ k ih=>exact AE ih (Nat.le_add_right _ _)
   have:=mono (n+1 - v) v
   grind
  ·have:=y4f n (v - (n+1)) (by omega)
   grind
 ·have h3:hat n (2*n+1)≤n*n:=by
   have:=y4f n n (Aq _)
   grind
  have: ∀k,hat n (2*n+1+k)=hat n (2*n+1):=fun k=>by
   induction k with
   | zero=>rfl
   | succ k ih=>
    grind [hat]
  have h4:=this (v - (2*n+1))
  grind
theorem w5d (n:Nat) (E:Nat→Nat): ∀k,(∀i,i+1<k→E i<E (i+1))→((List.range k).map fun i=>min (E i) (2*n - E i)).sum ≤(match k with | 0=>0 | k+1=>hat n (E k+1))
 | 0,_=>Aq _
 | k+1,h=>by
  rw [BA,Bl,Bv];have ih:=w5d n E k fun i hi=>h i (by omega);have mono: ∀k v,hat n v≤hat n (v+k):=fun k v=>by
   induction k with
   | zero=>grind
   | succ k ih=>exact AE ih (Nat.le_add_right _ _)
  simp only [AU,By,BJ,List.sum_nil,A7];show _≤hat n (E k)+min (E k) (2*n - E k);cases k with
  | zero=>
   grind
  | succ k=>
   have h1:=h k (by omega);have h2:=mono (E (k+1) - (E k+1)) (E k+1)
   grind
def x6y (p:Int→Bool) (l:List Int):Nat:=(l.filter p).length
theorem z9g (p:Int→Bool) (x:Int) (l:List Int):x6y p (x::l)=(if p x=true then 1 else 0)+x6y p l:=by
 grind [x6y]
theorem j7l (p:Int→Bool) (l:List Int):x6y p l≤l.length:=List.length_filter_le _ _
theorem v7p {p q:Int→Bool} (h: ∀x,p x=true→q x=true) (l:List Int):x6y p l≤x6y q l:=by
 induction l with
 | nil=>exact Aq _
 | cons x l ih=>
  grind [z9g]
theorem j7k {p q:Int→Bool} (h: ∀x,p x=true→q x=true) {l:List Int} {y:Int} (hy:y∈l) (hq:q y=true) (hp:p y=false):x6y p l<x6y q l:=by
 induction l with
 | nil=>cases hy
 | cons x l ih=>
  rw [z9g,z9g];rcases AG.1 hy with rfl | hy
  ·have:=v7p h l
   grind
  grind
namespace Dim
variable {α β:Type} {D:Dim α β}
theorem inn_min (l:List α) (x:Int) (hv: ∀r∈l,D.lo r<D.hi r):(D.inn l x).length ≤min (x6y (fun y=>decide (y≤x)) (D.ends l)) (2*l.length - x6y (fun y=>decide (y≤x)) (D.ends l)):=by
 induction l with
 | nil=>exact AB _
 | cons r l ih=>
  have ih:=ih fun s hs=>hv s (by simp [hs]);have hr:=hv r (by simp);have hc:=j7l (fun y=>decide (y≤x)) (D.ends l);rw [D.ends_length] at hc;have e:x6y (fun y=>decide (y≤x)) (D.ends (r::l))=(if D.lo r≤x then 1 else 0)+((if D.hi r≤x then 1 else 0)+x6y (fun y=>decide (y≤x)) (D.ends l)):=by
   show x6y _ (D.lo r::D.hi r::D.ends l)=_
   grind [z9g]
  grind [inn]
theorem open_sum (l:List α) (hv: ∀r∈l,D.lo r<D.hi r): ∀k,k≤(D.cuts l).length →((List.range k).map fun i=>(D.inn l (rd (D.cuts l) i)).length).sum ≤l.length*l.length:=fun k hk=>by
 have hc:(D.cuts l).Pairwise (· < ·):=by show (Je (D.ends l)).Pairwise (· < ·);rw [Km];exact (Wv _).1
 have hm: ∀i,i<(D.cuts l).length →rd (D.cuts l) i∈D.ends l:=fun i hi=>by
  have:rd (D.cuts l) i∈Je (D.ends l):=by rw [Yo hi];exact A0 hi
  grind [Km,Wv]
 have h1:((List.range k).map fun i=>(D.inn l (rd (D.cuts l) i)).length).sum ≤((List.range k).map fun i=>min (x6y (fun y=>decide (y≤rd (D.cuts l) i)) (D.ends l)) (2*l.length - x6y (fun y=>decide (y≤rd (D.cuts l) i)) (D.ends l))).sum :=by
  induction k with
  | zero=>grind
  | succ k ih=>
   rw [BA,Bl,Bl,Bv,Bv];have:=ih (by omega);have h2:=D.inn_min l (rd (D.cuts l) k) hv
   grind
 refine AE h1 ?_;have h2:=w5d l.length (fun i=>x6y (fun y=>decide (y≤rd (D.cuts l) i)) (D.ends l)) k fun i hi=>by
  have hlt:=x2p hc (show i<i+1 by omega) (show i+1<_ by omega);refine j7k (fun x hx=> ?_) (hm (i+1) (by omega)) (An (AZ _)) (Ay (by omega))
  grind
 grind [hat_le]
theorem goS_length (sec:Int→List β) (cs:List Int): ∀(k i:Nat) (s:Sw α β),(D.goS sec cs k i s).out.length ≤s.out.length+((List.range k).map fun j=>(sec (rd cs (i+j))).length).sum
 | 0,i,s=>Aq _
 | k+1,i,s=>by
  have h1:=goS_length sec cs k (i+1) (D.oneS (sec (rd cs i)) (rd cs i) (rd cs (i+1)) s);have h2:(D.oneS (sec (rd cs i)) (rd cs i) (rd cs (i+1)) s).out.length ≤s.out.length+(sec (rd cs i)).length :=by
   unfold oneS;cases (decide (0<(sec (rd cs i)).length)&&((s.fin == rd cs i)&&D.same s.last (sec (rd cs i)))) with
   | true=>rw [Ae,D.grow_length];omega
   | false=>rw [Ac];simp
  rw [List.range_succ_eq_map,AU,List.map_map,BJ,show rd cs (i+0)=rd cs i from rfl];have e:((fun j=>(sec (rd cs (i+j))).length)∘Nat.succ)=fun j=>(sec (rd cs (i+1+j))).length :=by
   funext j;simp only [Function.comp];rw [show i+j.succ=i+1+j by omega]
  rw [e];show (D.goS sec cs k (i+1) _).out.length ≤_;omega
theorem goJ_length (a b:List α) (J:List β→List β→List β) (hJ: ∀x,(J (D.inn a x) (D.inn b x)).length ≤(D.inn a x).length +(D.inn b x).length) (hv: ∀r∈a++b,D.lo r<D.hi r):
  (D.goS (fun x=>J (D.inn a x) (D.inn b x)) (D.cuts (a++b)) ((D.cuts (a++b)).length - 1) 0 ⟨[],[],0,0⟩).out.length ≤(a.length+b.length)*(a.length+b.length):=by
 have h1:=D.goS_length (fun x=>J (D.inn a x) (D.inn b x)) (D.cuts (a++b)) ((D.cuts (a++b)).length - 1) 0 ⟨[],[],0,0⟩;have h2:=D.open_sum (a++b) hv ((D.cuts (a++b)).length - 1) (Nat.sub_le _ _);rw [AQ] at h2;refine AE h1 (AE ?_ h2);simp only [List.length_nil,Af];generalize (D.cuts (a++b)).length - 1=k
 induction k with
 | zero=>grind
 | succ k ih=>rw [BA,Bl,Bl,Bv,Bv];have:=hJ (rd (D.cuts (a++b)) k);simp only [AU,By,BJ,List.sum_nil];rw [D.inn_append,AQ];omega
end Dim
open Go.Proofs Go.Sort Go.Shelf Go.RowKit Go.Lib
def spJ (k:Nat) (a b:List R2):List R2:=sw2 (opB k) (z1y (Wa 0 a++Wa 1 b)) 0 0 0 false []
theorem x5y (i:Int) (l:List R2) (hv:l.all z1e=true):y2j (Wa i l)=true:=At.2 fun e he=>by obtain ⟨s,hs,h1⟩:=AJ.1 he;have hv:=At.1 hv s hs;simp only [z1e,Ad,Ar] at hv;simp only [AG,Bi,BR] at h1;rcases h1 with rfl | rfl <;> exact An (by grind)
theorem w3f {l:List R2} (hv:l.all z1e=true): ∀s∈l,s.a<s.b:=fun s hs=>by
 grind [z1e]
theorem y5i (k:Nat) {a b:List R2} (ha:a.all z1e=true) (hb:b.all z1e=true):z5e.can (spJ k a b)∧ ∀y,ptL z5e.inB (spJ k a b) y↔opB k (decide (pt a y)) (decide (pt b y))=true:=by
 have hbnd:y2j (Wa 0 a++Wa 1 b)=true:=by
  grind [x5y,y2j]
 obtain ⟨hp,_⟩:=Qq _ hbnd;exact j0s (opB k) (opB_ff k) a b (w3f ha) (w3f hb) _ hp (w3k _ hbnd)
theorem w4h : ∀(l S:List Int),l.Pairwise (· < ·)→(∀x∈l,x∈S)→l.length≤S.length
 | [],S,_,_=>AB _
 | x::l,S,h,hs=>by
  obtain ⟨h1,h2⟩:=AR.1 h;have hx:=hs x (by simp);have:=w4h l (S.erase x) h2 fun y hy=>(List.mem_erase_of_ne (by grind)).2 (hs y (by simp [hy]))
  grind
def z9k (L:List R2):List Int:=L.flatMap fun s=>[s.a,s.b]
theorem z1u (L:List R2):(z9k L).length =2*L.length:=by
 induction L with
 | nil=>rfl
 | cons r l ih=>grind [z9k]
theorem z9j {L:List R2} (h:Can L):(z9k L).Pairwise (· < ·):=by
 induction L with
 | nil=>exact .nil
 | cons s L ih=>
  have hp:=h.pos s (by simp);have hn: ∀y∈z9k L,s.b<y:=fun y hy=>by
   obtain ⟨t,ht,h1⟩:=AJ.1 hy;have:=h.head t ht;have:=h.pos t (by simp [ht])
   grind
  show (s.a::s.b::z9k L).Pairwise (· < ·);refine AR.2 ⟨fun y hy=> ?_,AR.2 ⟨hn,ih h.tail⟩⟩
  grind
theorem v0a {L:List R2} (h:Can L) (S:List Int) (hS: ∀y,y ∉ S→(pt L (y - 1)↔pt L y)):2*L.length≤S.length:=by
 rw [←z1u];refine w4h _ S (z9j h) fun y hy=>Bb fun hn=> ?_;obtain ⟨s,hs,h1⟩:=AJ.1 hy;have hp:=h.pos s hs;have sepL: ∀t∈L,t=s∨t.b<s.a∨s.b<t.a:=fun t ht=>by
  obtain ⟨i,hi,ei⟩:=AK hs;obtain ⟨j,hj,ej⟩:=AK ht;have pw:=AY.1 h.sep
  grind
 simp only [AG,Bi,BR] at h1;rcases h1 with rfl | rfl
 ·obtain ⟨t,ht,t1,t2⟩:=(hS _ hn).2 ⟨s,hs,AZ _,hp⟩
  grind
 ·obtain ⟨t,ht,t1,t2⟩:=(hS _ hn).1 ⟨s,hs,by omega,by omega⟩
  grind
theorem x2h {l:List R2} {y:Int} (h:y ∉ z9k l):pt l (y - 1)↔pt l y:=by
 constructor
 ·rintro ⟨s,hs,h1,h2⟩;refine ⟨s,hs,by omega,?_⟩;have:y≠s.b:=fun e=>h (AJ.2 ⟨s,hs,by simp [e]⟩);omega
 ·rintro ⟨s,hs,h1,h2⟩;refine ⟨s,hs,?_,by omega⟩;have:y≠s.a:=fun e=>h (AJ.2 ⟨s,hs,by simp [e]⟩);omega
theorem z5d (k:Nat) {a b:List R2} (ha:a.all z1e=true) (hb:b.all z1e=true):(spJ k a b).length ≤a.length+b.length:=by
 obtain ⟨h1,h2⟩:=y5i k ha hb;have:=v0a h1 (z9k a++z9k b) fun y hy=>by
  rw [AM,not_or] at hy;have e1:decide (pt a (y - 1))=decide (pt a y):=decide_eq_decide.2 (x2h hy.1);have e2:decide (pt b (y - 1))=decide (pt b y):=decide_eq_decide.2 (x2h hy.2);have q1:pt (spJ k a b) (y - 1)↔_:=h2 (y - 1);have q2:pt (spJ k a b) y↔_:=h2 y
  grind
 grind [z1u]
def rgJ (k:Nat) (a b:List R4):List R4:=(D4.goS (fun x=>spJ k (D4.inn a x) (D4.inn b x)) (D4.cuts (a++b)) ((D4.cuts (a++b)).length - 1) 0 ⟨[],[],0,0⟩).out
theorem j1e (k:Nat):spJ k [] []=[]:=by have:=z5d k (a:=[]) (b:=[]) rfl rfl;simp_all
instance ptDec4 (l:List R4) (p:Int×Int):Decidable (ptL Wu.inB l p):=Classical.propDecidable _
theorem x2i (l:List R4) (x y:Int):pt (D4.inn l x) y↔ptL Wu.inB l (x,y):=Dim.pt_inn (D:=D4) z5e.inB l x y
theorem z0s (k:Nat) {a b:List R4} (ha: ∀r∈a,Uk r=true) (hb: ∀r∈b,Uk r=true):
  Wu.can (rgJ k a b)∧(∀p,ptL Wu.inB (rgJ k a b) p↔opB k (decide (ptL Wu.inB a p)) (decide (ptL Wu.inB b p))=true)∧(rgJ k a b).length ≤(a.length+b.length)*(a.length+b.length):=by
 have hs: ∀x,z5e.can (spJ k (D4.inn a x) (D4.inn b x))∧ ∀y,ptL z5e.inB (spJ k (D4.inn a x) (D4.inn b x)) y↔opB k (decide (pt (D4.inn a x) y)) (decide (pt (D4.inn b x) y))=true:=fun x=>y5i k (Jn ha x) (Jn hb x);obtain ⟨h1,h2⟩:=Dim.goJ_can z2d z7p z5e a b (spJ k) (fun x=>(hs x).1) (j1e k);refine ⟨h1,fun ⟨x,y⟩=> ?_,?_⟩
 ·rw [show ptL Wu.inB (rgJ k a b) (x,y)↔_ from h2 x y,(hs x).2]
  grind [x2i]
 ·refine Dim.goJ_length a b (spJ k) (fun x=>z5d k (Jn ha x) (Jn hb x)) fun r hr=> ?_;have hv:Uk r=true:=by
   grind
  simp only [Uk,Ad,Ar] at hv;exact hv.1
end Go.Am
end
