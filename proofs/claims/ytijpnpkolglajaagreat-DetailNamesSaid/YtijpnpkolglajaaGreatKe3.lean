/- A part of a proof: several texts in one. -/
import Derived.Test.YtijpnpkolglajaaGreatKe2
import Derived.Shelf.Sort.Plain
import Derived.Ground.Names2Prog
import Derived.Shelf.Slices.CompactI
import Derived.Shelf.Slices.SearchI
import Derived.Shelf.Slices.Cells
import Derived.Shelf.Slices.In.SortNone
import Derived.Shelf.SlSortCmp.WholeK
import Derived.Ground.SlsfProg
import Derived.Test.YtijpnpkolglajaaGreatProg
import Derived.Shelf.SlSortCmp.NoneTotal
set_option maxRecDepth 1000000
set_option maxHeartbeats 8000000
set_option linter.unusedVariables false
set_option linter.unusedSimpArgs false
noncomputable section
namespace Go.Proofs
open Go.Proofs.Tryz
open Go.Shelf
def Tryz.lays189_ren : Go.Shelf.Ren := ⟨fun | 189 => 119 | 125 => 142 | 257 => 141 | 128 => 164 | 129 => 165 | 294 => 155 | 295 => 156 | 296 => 157 | 297 => 158 | 298 => 159 | 299 => 160 | 216 => 161 | 300 => 162 | 301 => 163 | 328 => 175 | 329 => 176 | 330 => 177 | 331 => 178 | 332 => 179 | 215 => 180 | 343 => 190 | n => n, fun | 28 => 47 | 3 => 3 | 46 => 165 | 0 => 0 | 51 => 213 | 53 => 215 | 4 => 4 | 183 => 205 | 182 => 204 | 131 => 210 | 5 => 5 | 9 => 9 | 218 => 227 | 222 => 231 | 228 => 242 | 229 => 27 | n => n, fun | n => n⟩
theorem Tryz.lays189 : Go.Proofs.Lays.n189 prog Tryz.lays189_ren := {
 mixed := by kernel_rfl
 f125 := Tryz.func142.trans (congrArg some (by kernel_rfl))
 f128 := Tryz.func164.trans (congrArg some (by kernel_rfl))
 f129 := Tryz.func165.trans (congrArg some (by kernel_rfl))
 f189 := Tryz.func119.trans (congrArg some (by kernel_rfl))
 f215 := Tryz.func180.trans (congrArg some (by kernel_rfl))
 f216 := Tryz.func161.trans (congrArg some (by kernel_rfl))
 f257 := Tryz.func141.trans (congrArg some (by kernel_rfl))
 f294 := Tryz.func155.trans (congrArg some (by kernel_rfl))
 f295 := Tryz.func156.trans (congrArg some (by kernel_rfl))
 f296 := Tryz.func157.trans (congrArg some (by kernel_rfl))
 f297 := Tryz.func158.trans (congrArg some (by kernel_rfl))
 f298 := Tryz.func159.trans (congrArg some (by kernel_rfl))
 f299 := Tryz.func160.trans (congrArg some (by kernel_rfl))
 f300 := Tryz.func162.trans (congrArg some (by kernel_rfl))
 f301 := Tryz.func163.trans (congrArg some (by kernel_rfl))
 f328 := Tryz.func175.trans (congrArg some (by kernel_rfl))
 f329 := Tryz.func176.trans (congrArg some (by kernel_rfl))
 f330 := Tryz.func177.trans (congrArg some (by kernel_rfl))
 f331 := Tryz.func178.trans (congrArg some (by kernel_rfl))
 f332 := Tryz.func179.trans (congrArg some (by kernel_rfl))
 f343 := Tryz.func190.trans (congrArg some (by kernel_rfl))
 t0 := Tryz.underlying0
 a0 := Tryz.isAgg0
 z0 := Tryz.sizeOf0
 v0 := Tryz.zeroValue0
 t3 := Tryz.underlying3
 a3 := Tryz.isAgg3
 z3 := Tryz.sizeOf3
 v3 := Tryz.zeroValue3
 t4 := Tryz.underlying4
 a4 := Tryz.isAgg4
 z4 := Tryz.sizeOf4
 v4 := Tryz.zeroValue4
 t5 := Tryz.underlying5
 a5 := Tryz.isAgg5
 z5 := Tryz.sizeOf5
 v5 := Tryz.zeroValue5
 t9 := Tryz.underlying9
 a9 := Tryz.isAgg9
 z9 := Tryz.sizeOf9
 v9 := Tryz.zeroValue9
 t28 := Tryz.underlying47
 a28 := Tryz.isAgg47
 z28 := Tryz.sizeOf47
 v28 := Tryz.zeroValue47
 t46 := Tryz.underlying165
 a46 := Tryz.isAgg165
 z46 := Tryz.sizeOf165
 v46 := Tryz.zeroValue165
 t51 := Tryz.underlying213
 a51 := Tryz.isAgg213
 z51 := Tryz.sizeOf213
 v51 := Tryz.zeroValue213
 t53 := Tryz.underlying215
 a53 := Tryz.isAgg215
 z53 := Tryz.sizeOf215
 v53 := Tryz.zeroValue215
 t131 := Tryz.underlying210
 a131 := Tryz.isAgg210
 z131 := Tryz.sizeOf210
 v131 := Tryz.zeroValue210
 t182 := Tryz.underlying204
 a182 := Tryz.isAgg204
 z182 := Tryz.sizeOf204
 v182 := Tryz.zeroValue204
 t183 := Tryz.underlying205
 a183 := Tryz.isAgg205
 z183 := Tryz.sizeOf205
 v183 := Tryz.zeroValue205
 t218 := Tryz.underlying227
 a218 := Tryz.isAgg227
 z218 := Tryz.sizeOf227
 v218 := Tryz.zeroValue227
 t222 := Tryz.underlying231
 a222 := Tryz.isAgg231
 z222 := Tryz.sizeOf231
 v222 := Tryz.zeroValue231
 t228 := Tryz.underlying242
 a228 := Tryz.isAgg242
 z228 := Tryz.sizeOf242
 v228 := Tryz.zeroValue242
 t229 := Tryz.underlying27
 a229 := Tryz.isAgg27
 z229 := Tryz.sizeOf27
 v229 := Tryz.zeroValue27 }
open Go.Sort Go.RowKit in
theorem Tryz.slices_Sort_int (blk off cap : Nat) (zs : List Int) (w : World) (hH : Holds (Value.int .i64) w blk off zs.toArray) (fF : blk < w.heap.size) (hsz : zs.length < 4611686018427387904) :
  Calls prog 119 #[.slice (some ⟨blk, off, none⟩) zs.length cap] w fun e w' =>
   e = .returned (.tuple #[]) ∧ ∃ n os, w' = grow (putRow (Value.int .i64) (Sort.ahead w n) blk off (zs.mergeSort fun x y => decide (x ≤ y)).toArray) os := Any.slices_Sort_int Tryz.lays189 blk off cap zs w hH fF hsz
def Tryz.laysNm220_ren : Go.Shelf.Ren := ⟨fun | 20 => 120 | n => n, fun | 22 => 47 | 3 => 3 | 4 => 4 | 0 => 0 | n => n, fun | n => n⟩
theorem Tryz.laysNm220 : Go.Proofs.Lays2.n20 prog Tryz.laysNm220_ren := {
 mixed := by kernel_rfl
 f20 := Tryz.func120.trans (congrArg some (by kernel_rfl))
 t0 := Tryz.underlying0
 a0 := Tryz.isAgg0
 z0 := Tryz.sizeOf0
 v0 := Tryz.zeroValue0
 t3 := Tryz.underlying3
 a3 := Tryz.isAgg3
 z3 := Tryz.sizeOf3
 v3 := Tryz.zeroValue3
 t4 := Tryz.underlying4
 a4 := Tryz.isAgg4
 z4 := Tryz.sizeOf4
 v4 := Tryz.zeroValue4
 t22 := Tryz.underlying47
 a22 := Tryz.isAgg47
 z22 := Tryz.sizeOf47
 v22 := Tryz.zeroValue47
 i3 := by kernel_rfl }
open Go.RowKit Go.Lib Go.Sort in
theorem Tryz.slices_Compact_int (blk off cap : Nat) (zs : List Int) (w : World) (hH : Holds (Value.int .i64) w blk off zs.toArray) (hsz : zs.length ≤ 9223372036854775807) (eC : zs.length ≤ cap) :
  Calls prog 120 #[.slice (some ⟨blk, off, none⟩) zs.length cap] w fun e w' => e = .returned (.slice (some ⟨blk, off, none⟩) (Lib.compact zs).length cap) ∧ ∃ q, w' = putRow (Value.int .i64) (Sort.ahead w q) blk off (Lib.compact zs ++ List.replicate (zs.length - (Lib.compact zs).length) 0).toArray := Any.slices_Compact_int Tryz.laysNm220 blk off cap zs w hH hsz eC
open Go.RowKit Go.Lib Go.Sort in
theorem Tryz.slices_Compact_int_empty (a : Option Addr) (cap : Nat) (w : World) :
  Calls prog 120 #[.slice a 0 cap] w fun e w' => e = .returned (.slice a 0 cap) ∧ w' = w := Any.slices_Compact_int_empty Tryz.laysNm220 a cap w
open Go.RowKit Go.Sort in
theorem Tryz.slices_Sort_int_none (p : Option Addr) (cap : Nat) (w : World) :
  Calls prog 119 #[.slice p 0 cap] w fun e w' => e = .returned (.tuple #[]) ∧ w' = w := Any.slices_Sort_int_none Tryz.lays189 p cap w
def Tryz.sortEnd_ren : Go.Shelf.Ren := ⟨fun | 6 => 192 | 15 => 142 | 14 => 196 | 28 => 164 | 29 => 165 | 20 => 198 | 21 => 199 | 22 => 200 | 23 => 201 | 24 => 202 | 25 => 203 | 26 => 204 | 27 => 205 | 46 => 206 | 47 => 176 | 48 => 177 | 49 => 207 | 50 => 208 | 57 => 209 | n => n, fun | 22 => 245 | 24 => 240 | 25 => 247 | 3 => 3 | 39 => 165 | 0 => 0 | 53 => 213 | 55 => 215 | 4 => 4 | 46 => 205 | 45 => 204 | 50 => 210 | 5 => 5 | 9 => 9 | 66 => 227 | 70 => 231 | 76 => 242 | 77 => 27 | n => n, fun | n => n⟩
theorem Tryz.sortEnd : Go.Proofs.SlLaysF0.n6 prog Tryz.sortEnd_ren := {
 mixed := by kernel_rfl
 f6 := ⟨Tryz.f192.name, by decide, Tryz.func192.trans (congrArg some (by kernel_rfl))⟩
 f14 := ⟨Tryz.f196.name, by decide, Tryz.func196.trans (congrArg some (by kernel_rfl))⟩
 f15 := Tryz.func142.trans (congrArg some (by kernel_rfl))
 f20 := ⟨Tryz.f198.name, by decide, Tryz.func198.trans (congrArg some (by kernel_rfl))⟩
 f21 := ⟨Tryz.f199.name, by decide, Tryz.func199.trans (congrArg some (by kernel_rfl))⟩
 f22 := ⟨Tryz.f200.name, by decide, Tryz.func200.trans (congrArg some (by kernel_rfl))⟩
 f23 := ⟨Tryz.f201.name, by decide, Tryz.func201.trans (congrArg some (by kernel_rfl))⟩
 f24 := ⟨Tryz.f202.name, by decide, Tryz.func202.trans (congrArg some (by kernel_rfl))⟩
 f25 := ⟨Tryz.f203.name, by decide, Tryz.func203.trans (congrArg some (by kernel_rfl))⟩
 f26 := ⟨Tryz.f204.name, by decide, Tryz.func204.trans (congrArg some (by kernel_rfl))⟩
 f27 := ⟨Tryz.f205.name, by decide, Tryz.func205.trans (congrArg some (by kernel_rfl))⟩
 f28 := Tryz.func164.trans (congrArg some (by kernel_rfl))
 f29 := Tryz.func165.trans (congrArg some (by kernel_rfl))
 f46 := ⟨Tryz.f206.name, by decide, Tryz.func206.trans (congrArg some (by kernel_rfl))⟩
 f47 := Tryz.func176.trans (congrArg some (by kernel_rfl))
 f48 := Tryz.func177.trans (congrArg some (by kernel_rfl))
 f49 := ⟨Tryz.f207.name, by decide, Tryz.func207.trans (congrArg some (by kernel_rfl))⟩
 f50 := ⟨Tryz.f208.name, by decide, Tryz.func208.trans (congrArg some (by kernel_rfl))⟩
 f57 := ⟨Tryz.f209.name, by decide, Tryz.func209.trans (congrArg some (by kernel_rfl))⟩
 t0 := Tryz.underlying0
 a0 := Tryz.isAgg0
 z0 := Tryz.sizeOf0
 v0 := Tryz.zeroValue0
 t3 := Tryz.underlying3
 a3 := Tryz.isAgg3
 z3 := Tryz.sizeOf3
 v3 := Tryz.zeroValue3
 t4 := Tryz.underlying4
 a4 := Tryz.isAgg4
 z4 := Tryz.sizeOf4
 v4 := Tryz.zeroValue4
 t5 := Tryz.underlying5
 a5 := Tryz.isAgg5
 z5 := Tryz.sizeOf5
 v5 := Tryz.zeroValue5
 t9 := Tryz.underlying9
 a9 := Tryz.isAgg9
 z9 := Tryz.sizeOf9
 v9 := Tryz.zeroValue9
 t22 := Tryz.underlying245
 a22 := Tryz.isAgg245
 z22 := Tryz.sizeOf245
 v22 := Tryz.zeroValue245
 t25 := Tryz.underlying247
 a25 := Tryz.isAgg247
 z25 := Tryz.sizeOf247
 v25 := Tryz.zeroValue247
 t39 := Tryz.underlying165
 a39 := Tryz.isAgg165
 z39 := Tryz.sizeOf165
 v39 := Tryz.zeroValue165
 t45 := Tryz.underlying204
 a45 := Tryz.isAgg204
 z45 := Tryz.sizeOf204
 v45 := Tryz.zeroValue204
 t46 := Tryz.underlying205
 a46 := Tryz.isAgg205
 z46 := Tryz.sizeOf205
 v46 := Tryz.zeroValue205
 t50 := Tryz.underlying210
 a50 := Tryz.isAgg210
 z50 := Tryz.sizeOf210
 v50 := Tryz.zeroValue210
 t53 := Tryz.underlying213
 a53 := Tryz.isAgg213
 z53 := Tryz.sizeOf213
 v53 := Tryz.zeroValue213
 t55 := Tryz.underlying215
 a55 := Tryz.isAgg215
 z55 := Tryz.sizeOf215
 v55 := Tryz.zeroValue215
 t66 := Tryz.underlying227
 a66 := Tryz.isAgg227
 z66 := Tryz.sizeOf227
 v66 := Tryz.zeroValue227
 t70 := Tryz.underlying231
 a70 := Tryz.isAgg231
 z70 := Tryz.sizeOf231
 v70 := Tryz.zeroValue231
 t76 := Tryz.underlying242
 a76 := Tryz.isAgg242
 z76 := Tryz.sizeOf242
 v76 := Tryz.zeroValue242
 t77 := Tryz.underlying27
 a77 := Tryz.isAgg27
 z77 := Tryz.sizeOf27
 v77 := Tryz.zeroValue27 }
end Go.Proofs
namespace Go.Proofs
open Go.Proofs.Tryz
open Go.Shelf Go.RowKit Go.Lib Go.Sort
theorem Tryz.cmpEnd (a b c a' b' c' : Int) (h : -1000000000 ≤ a ∧ a ≤ 1000000000) (h' : -1000000000 ≤ a' ∧ a' ≤ 1000000000) (W : World) :
  Calls prog 193 #[.agg #[.int .i64 a, .int .i64 b, .int .i64 c], .agg #[.int .i64 a', .int .i64 b', .int .i64 c']] W fun e w' => e = .returned (.int .i64 (a - a')) ∧ ∃ q os', w' = grow (W.drewN q) os' := by
 go_enter Tryz.func193, Tryz.ntmps193
 go_wp2
 go_ret
 exact ⟨rfl, 0, _, by rw [alloc_eq_grow, alloc_eq_grow, grow_grow]; rfl⟩
end Go.Proofs
namespace Go.Am
open Go.Proofs.Tryz
open Go.Proofs
inductive rjsS where
 | h0 (v9 : List R6) (v10 : List R4) (v11 : Int) (v12 : Int)
 | h1 (v9 : List R6) (v10 : List R4) (v11 : Int) (v12 : Int) (v13 : List R4) (v15 : Int)
 | h2 (v9 : List R6) (v10 : List R4) (v11 : Int) (v12 : Int) (v14 : Int)
def rjsC (x0 : Int) (l1 : List R6) (l2 : List R6) : rjsS → Cfg
 | .h0 v9 v10 v11 v12 => ⟨⟨137, 0, true⟩, none, (Zg prog 79 [1, 1, 1, 1, 1, 0, 1, 0, 0] 0), none, (Zy prog 23), ⟨Yj [(0, (ii x0)), (1, (.dat l1.length (Zz l1))), (2, (.dat l2.length (Zz l2))), (8, (.dat (Ys (cvT l1) (cvT l2)).length (Zz (Ys (cvT l1) (cvT l2))))), (9, (.sla 0 6 0 v9.length (.un 6))), (10, (.dat v10.length (Zz v10))), (11, (ii v11)), (12, (ii v12))], Vf [⟨rows v9.length (Zz v9), 68, some ⟨6, v9.length, (Zz v9)⟩⟩] 0, 1, [], true⟩, [], .leaf⟩
 | .h1 v9 v10 v11 v12 v13 v15 => ⟨⟨137, 0, true⟩, none, (Zg prog 79 [1, 1, 1, 1, 1, 0, 1, 0, 0, 1, 0, 0, 1, 1, 1, 1, 1, 0, 0] 0), none, (Zy prog 23), ⟨Yj [(0, (ii x0)), (1, (.dat l1.length (Zz l1))), (2, (.dat l2.length (Zz l2))), (8, (.dat (Ys (cvT l1) (cvT l2)).length (Zz (Ys (cvT l1) (cvT l2))))), (9, (.sla 0 6 0 v9.length (.un 6))), (10, (.dat v10.length (Zz v10))), (11, (ii v11)), (12, (ii v12)), (13, (.dat v13.length (Zz v13))), (15, (ii v15))], Vf [⟨rows v9.length (Zz v9), 68, some ⟨6, v9.length, (Zz v9)⟩⟩] 0, 1, [], true⟩, [], .leaf⟩
 | .h2 v9 v10 v11 v12 v14 => ⟨⟨137, 0, true⟩, none, (Zg prog 79 [1, 1, 1, 1, 1, 0, 1, 0, 0, 1, 0, 0, 1, 1, 0, 1, 0, 0, 1, 0, 0] 0), none, (Zy prog 23), ⟨Yj [(0, (ii x0)), (1, (.dat l1.length (Zz l1))), (2, (.dat l2.length (Zz l2))), (8, (.dat (Ys (cvT l1) (cvT l2)).length (Zz (Ys (cvT l1) (cvT l2))))), (9, (.sla 0 6 0 v9.length (.un 6))), (10, (.dat v10.length (Zz v10))), (11, (ii v11)), (12, (ii v12)), (14, (ii v14))], Vf [⟨rows v9.length (Zz v9), 68, some ⟨6, v9.length, (Zz v9)⟩⟩] 0, 1, [], true⟩, [], .leaf⟩
def v1w : List (Option (List Nat)) := [some [0, 1, 2, 8, 9, 10, 11, 12]]
def v1y : List (Option (List Nat)) := []
def v1v : List (Option (List Nat)) := [some [0, 1, 2, 8, 9, 10, 11, 12, 13, 15]]
def v1x : List (Option (List Nat)) := []
def rjsN2 : List (Option (List Nat)) := [some [0, 1, 2, 8, 9, 10, 11, 12, 14]]
def rjsM2 : List (Option (List Nat)) := []
def Vp (x0 : Int) (l1 : List R6) (l2 : List R6) : rjsS → Xd rjsS
 | .h0 v9 v10 v11 v12 => (bif (decide ((IntKind.wrap .i64 (v12 + 1)) < (((Ys (cvT l1) (cvT l2)).length : Nat) : Int))) then (bif (z2t (cvT l1) (rd (Ys (cvT l1) (cvT l2)) v12.toNat)) then (bif ((decide (0 ≤ v12 ∧ v12 < (((Ys (cvT l1) (cvT l2)).length : Nat) : Int))) && true) then (bif (z2t (cvT l2) (rd (Ys (cvT l1) (cvT l2)) v12.toNat)) then (bif (Qm x0 (cvT (atV (cvT l1) (rd (Ys (cvT l1) (cvT l2)) v12.toNat))) (cvT (atV (cvT l2) (rd (Ys (cvT l1) (cvT l2)) v12.toNat)))) then (bif (decide ((((joV x0 (cvT (atV (cvT l1) (rd (Ys (cvT l1) (cvT l2)) v12.toNat))) (cvT (atV (cvT l2) (rd (Ys (cvT l1) (cvT l2)) v12.toNat)))).length : Nat) : Int) > 400)) then (.ret [.nils, (.bool false)]) else (bif (Qm 2 (cvT (atV (cvT l1) (rd (Ys (cvT l1) (cvT l2)) v12.toNat))) ([] : List R4)) then (bif (decide ((((joV 2 (cvT (atV (cvT l1) (rd (Ys (cvT l1) (cvT l2)) v12.toNat))) ([] : List R4)).length : Nat) : Int) > 400)) then (.ret [.nils, (.bool false)]) else (bif (Qm 2 (cvT (atV (cvT l2) (rd (Ys (cvT l1) (cvT l2)) v12.toNat))) ([] : List R4)) then (bif (decide ((((joV 2 (cvT (atV (cvT l2) (rd (Ys (cvT l1) (cvT l2)) v12.toNat))) ([] : List R4)).length : Nat) : Int) > 400)) then (.ret [.nils, (.bool false)]) else (bif (decide (v12 > 0)) then (bif (Wc (cvT (joV x0 (cvT (atV (cvT l1) (rd (Ys (cvT l1) (cvT l2)) v12.toNat))) (cvT (atV (cvT l2) (rd (Ys (cvT l1) (cvT l2)) v12.toNat))))) (cvT v10)) then (bif (Ua (cvT (joV x0 (cvT (atV (cvT l1) (rd (Ys (cvT l1) (cvT l2)) v12.toNat))) (cvT (atV (cvT l2) (rd (Ys (cvT l1) (cvT l2)) v12.toNat))))) (cvT v10)) then (.to (.h2 v9 v10 v11 v12 v11)) else (.to (.h1 v9 (joV x0 (cvT (atV (cvT l1) (rd (Ys (cvT l1) (cvT l2)) v12.toNat))) (cvT (atV (cvT l2) (rd (Ys (cvT l1) (cvT l2)) v12.toNat)))) (v9.length : Int) v12 (joV x0 (cvT (atV (cvT l1) (rd (Ys (cvT l1) (cvT l2)) v12.toNat))) (cvT (atV (cvT l2) (rd (Ys (cvT l1) (cvT l2)) v12.toNat)))) 0))) else .stuck) else (.to (.h1 v9 (joV x0 (cvT (atV (cvT l1) (rd (Ys (cvT l1) (cvT l2)) v12.toNat))) (cvT (atV (cvT l2) (rd (Ys (cvT l1) (cvT l2)) v12.toNat)))) (v9.length : Int) v12 (joV x0 (cvT (atV (cvT l1) (rd (Ys (cvT l1) (cvT l2)) v12.toNat))) (cvT (atV (cvT l2) (rd (Ys (cvT l1) (cvT l2)) v12.toNat)))) 0)))) else .stuck)) else .stuck)) else .stuck) else .stuck) else .stuck) else .stuck) else (.ret [(.dat v9.length (Zz v9)), (.bool (decide ((v9.length : Int) ≤ 400)))]))
 | .h1 v9 v10 v11 v12 v13 v15 => (bif (decide (v15 < (v13.length : Int))) then (bif ((decide (0 ≤ v12 ∧ v12 < (((Ys (cvT l1) (cvT l2)).length : Nat) : Int))) && true) then (bif ((decide (0 ≤ v15 ∧ v15 < (v13.length : Int))) && true) then (bif ((decide (0 ≤ (IntKind.wrap .i64 (v12 + 1)) ∧ (IntKind.wrap .i64 (v12 + 1)) < (((Ys (cvT l1) (cvT l2)).length : Nat) : Int))) && true) then (bif (Nat.beq 6 6 && ((decide (0 + v9.length = v9.length)) && decide ((v9.length + 1 + 1) * (48 + 1) ≤ Jb))) then (.to (.h1 (v9 ++ [(R6.mk (rd v13 v15.toNat).a (rd v13 v15.toNat).b (rd (Ys (cvT l1) (cvT l2)) v12.toNat) (rd v13 v15.toNat).c (rd v13 v15.toNat).d (rd (Ys (cvT l1) (cvT l2)) (Int.toNat (IntKind.wrap .i64 (v12 + 1)))))]) v10 v11 v12 v13 (IntKind.wrap .i64 (v15 + 1)))) else .stuck) else .stuck) else .stuck) else .stuck) else (.to (.h0 v9 v10 v11 (IntKind.wrap .i64 (v12 + 1)))))
 | .h2 v9 v10 v11 v12 v14 => (bif (decide (v14 < (v9.length : Int))) then (bif ((decide (0 ≤ (IntKind.wrap .i64 (v12 + 1)) ∧ (IntKind.wrap .i64 (v12 + 1)) < (((Ys (cvT l1) (cvT l2)).length : Nat) : Int))) && true) then (bif ((decide (0 ≤ v14 ∧ v14 < (v9.length : Int))) && true) then (bif (decide ((0 + v14.toNat) < v9.length)) then (.to (.h2 (v9.set (0 + v14.toNat) (R6.mk (rd v9 (0 + v14.toNat)).a (rd v9 (0 + v14.toNat)).b (rd v9 (0 + v14.toNat)).c (rd v9 (0 + v14.toNat)).d (rd v9 (0 + v14.toNat)).e (rd (Ys (cvT l1) (cvT l2)) (Int.toNat (IntKind.wrap .i64 (v12 + 1)))))) v10 v11 v12 (IntKind.wrap .i64 (v14 + 1)))) else .stuck) else .stuck) else .stuck) else (.to (.h0 v9 v10 v11 (IntKind.wrap .i64 (v12 + 1)))))
def z8a (x0 : Int) (l1 : List R6) (l2 : List R6) : Xd rjsS := (bif (z5h (cvT l1) (cvT l2)) then (.to (.h0 ([] : List R6) ([] : List R4) 0 0)) else .stuck)
theorem x4e (x0 : Int) (l1 : List R6) (l2 : List R6) : ∀ s, Wj prog (Zy prog 79) (rjsC x0 l1 l2) (rjsC x0 l1 l2 s) (Vp x0 l1 l2 s)
 | .h0 v9 v10 v11 v12 => (lb (fun k0 => (lo fun aH => (lo fun bG => (lo fun cF => (lo fun dC => (lb (fun k1 => (lr 137 79 [1, 1, 1, 1, 1, 0, 1, 0, 0, 1, 0, 0, 1, 0, 1, 0, 0] 1 23 [(6, .nils), (7, (.bool false))] (sl z6k 50 [] ⟨[], [], [some [6, 7]], []⟩ ⟨[], [], []⟩ (trs 20 []) (tt k1 (pp (pp (xI R4 (atV (cvT l1) (rd (Ys (cvT l1) (cvT l2)) (tn v12))).length (Zz (atV (cvT l1) (rd (Ys (cvT l1) (cvT l2)) (tn v12))))) (pp (xI R4 (atV (cvT l2) (rd (Ys (cvT l1) (cvT l2)) (tn v12))).length (Zz (atV (cvT l2) (rd (Ys (cvT l1) (cvT l2)) (tn v12))))) (xw dC))) (pp (pp (xr l2) (xw cF)) (ww bG (pp (pp (xr l1) (xw aH)) (ww bG (tt k0 nn)))))))))) (fun k1 => (lo fun cL => (lb (fun k2 => (lr 137 79 [1, 1, 1, 1, 1, 0, 1, 0, 0, 1, 0, 0, 1, 0, 1, 0, 0] 1 23 [(6, .nils), (7, (.bool false))] (sl z6k 50 [] ⟨[], [], [some [6, 7]], []⟩ ⟨[], [], []⟩ [true, false, false, false, false, false, false, false, false, false, true, true, true, true, true, true, true, true, true, true] (tt k2 (pp (pp (xI R4 (atV (cvT l1) (rd (Ys (cvT l1) (cvT l2)) (tn v12))).length (Zz (atV (cvT l1) (rd (Ys (cvT l1) (cvT l2)) (tn v12))))) (pp (xI R4 0 (fun _ => [])) (xw cL))) (pp (pp (xr l1) (xw aH)) (ww bG (tt k1 (pp (pp (xI R4 (atV (cvT l1) (rd (Ys (cvT l1) (cvT l2)) (tn v12))).length (Zz (atV (cvT l1) (rd (Ys (cvT l1) (cvT l2)) (tn v12))))) (pp (xI R4 (atV (cvT l2) (rd (Ys (cvT l1) (cvT l2)) (tn v12))).length (Zz (atV (cvT l2) (rd (Ys (cvT l1) (cvT l2)) (tn v12))))) (xw dC))) (pp (pp (xr l2) (xw cF)) (ww bG (pp (pp (xr l1) (xw aH)) (ww bG (tt k0 nn)))))))))))))) (fun k2 => (lo fun cU => (lb (fun k3 => (lr 137 79 [1, 1, 1, 1, 1, 0, 1, 0, 0, 1, 0, 0, 1, 0, 1, 0, 0] 1 23 [(6, .nils), (7, (.bool false))] (sl z6k 50 [] ⟨[], [], [some [6, 7]], []⟩ ⟨[], [], []⟩ [true, false, false, false, false, false, false, false, false, false, false, false, false, false, false, false, false, false, false, true] (tt k3 (pp (pp (xI R4 (atV (cvT l2) (rd (Ys (cvT l1) (cvT l2)) (tn v12))).length (Zz (atV (cvT l2) (rd (Ys (cvT l1) (cvT l2)) (tn v12))))) (pp (xI R4 0 (fun _ => [])) (xw cU))) (pp (pp (xr l2) (xw cF)) (ww bG (tt k2 (pp (pp (xI R4 (atV (cvT l1) (rd (Ys (cvT l1) (cvT l2)) (tn v12))).length (Zz (atV (cvT l1) (rd (Ys (cvT l1) (cvT l2)) (tn v12))))) (pp (xI R4 0 (fun _ => [])) (xw cL))) (pp (pp (xr l1) (xw aH)) (ww bG (tt k1 (pp (pp (xI R4 (atV (cvT l1) (rd (Ys (cvT l1) (cvT l2)) (tn v12))).length (Zz (atV (cvT l1) (rd (Ys (cvT l1) (cvT l2)) (tn v12))))) (pp (xI R4 (atV (cvT l2) (rd (Ys (cvT l1) (cvT l2)) (tn v12))).length (Zz (atV (cvT l2) (rd (Ys (cvT l1) (cvT l2)) (tn v12))))) (xw dC))) (pp (pp (xr l2) (xw cF)) (ww bG (pp (pp (xr l1) (xw aH)) (ww bG (tt k0 nn)))))))))))))))))) (fun k3 => (lb (fun k4 => (lo fun dP => (lb (fun k5 => (sl z6k 66 [] ⟨[0], [], rjsN2, rjsM2⟩ ⟨[], [], []⟩ [true, false, false, false, false, false, false, false, false, false, false, false, false, false, false, false, false, false, false, false, true, true, true, true] (pp (fl v9 nn) (tt k5 (pp (pp (xI R4 (joV x0 (cvT (atV (cvT l1) (rd (Ys (cvT l1) (cvT l2)) (tn v12)))) (cvT (atV (cvT l2) (rd (Ys (cvT l1) (cvT l2)) (tn v12))))).length (Zz (joV x0 (cvT (atV (cvT l1) (rd (Ys (cvT l1) (cvT l2)) (tn v12)))) (cvT (atV (cvT l2) (rd (Ys (cvT l1) (cvT l2)) (tn v12))))))) (pp (xr v10) (xw dP))) (tt k4 (tt k3 (pp (pp (xI R4 (atV (cvT l2) (rd (Ys (cvT l1) (cvT l2)) (tn v12))).length (Zz (atV (cvT l2) (rd (Ys (cvT l1) (cvT l2)) (tn v12))))) (pp (xI R4 0 (fun _ => [])) (xw cU))) (pp (pp (xr l2) (xw cF)) (ww bG (tt k2 (pp (pp (xI R4 (atV (cvT l1) (rd (Ys (cvT l1) (cvT l2)) (tn v12))).length (Zz (atV (cvT l1) (rd (Ys (cvT l1) (cvT l2)) (tn v12))))) (pp (xI R4 0 (fun _ => [])) (xw cL))) (pp (pp (xr l1) (xw aH)) (ww bG (tt k1 (pp (pp (xI R4 (atV (cvT l1) (rd (Ys (cvT l1) (cvT l2)) (tn v12))).length (Zz (atV (cvT l1) (rd (Ys (cvT l1) (cvT l2)) (tn v12))))) (pp (xI R4 (atV (cvT l2) (rd (Ys (cvT l1) (cvT l2)) (tn v12))).length (Zz (atV (cvT l2) (rd (Ys (cvT l1) (cvT l2)) (tn v12))))) (xw dC))) (pp (pp (xr l2) (xw cF)) (ww bG (pp (pp (xr l1) (xw aH)) (ww bG (tt k0 nn))))))))))))))))))))) (fun k5 => (sl z6k 73 [] ⟨[0], [], v1v, v1x⟩ ⟨[], [], []⟩ [true, false, false, false, false, false, false, false, false, false, false, false, false, false, false, false, false, false, false, false, true, true, true, false] (pp (fl v9 nn) (tt k5 (pp (pp (xI R4 (joV x0 (cvT (atV (cvT l1) (rd (Ys (cvT l1) (cvT l2)) (tn v12)))) (cvT (atV (cvT l2) (rd (Ys (cvT l1) (cvT l2)) (tn v12))))).length (Zz (joV x0 (cvT (atV (cvT l1) (rd (Ys (cvT l1) (cvT l2)) (tn v12)))) (cvT (atV (cvT l2) (rd (Ys (cvT l1) (cvT l2)) (tn v12))))))) (pp (xr v10) (xw dP))) (tt k4 (tt k3 (pp (pp (xI R4 (atV (cvT l2) (rd (Ys (cvT l1) (cvT l2)) (tn v12))).length (Zz (atV (cvT l2) (rd (Ys (cvT l1) (cvT l2)) (tn v12))))) (pp (xI R4 0 (fun _ => [])) (xw cU))) (pp (pp (xr l2) (xw cF)) (ww bG (tt k2 (pp (pp (xI R4 (atV (cvT l1) (rd (Ys (cvT l1) (cvT l2)) (tn v12))).length (Zz (atV (cvT l1) (rd (Ys (cvT l1) (cvT l2)) (tn v12))))) (pp (xI R4 0 (fun _ => [])) (xw cL))) (pp (pp (xr l1) (xw aH)) (ww bG (tt k1 (pp (pp (xI R4 (atV (cvT l1) (rd (Ys (cvT l1) (cvT l2)) (tn v12))).length (Zz (atV (cvT l1) (rd (Ys (cvT l1) (cvT l2)) (tn v12))))) (pp (xI R4 (atV (cvT l2) (rd (Ys (cvT l1) (cvT l2)) (tn v12))).length (Zz (atV (cvT l2) (rd (Ys (cvT l1) (cvT l2)) (tn v12))))) (xw dC))) (pp (pp (xr l2) (xw cF)) (ww bG (pp (pp (xr l1) (xw aH)) (ww bG (tt k0 nn)))))))))))))))))))))))) (fun k4 => (sl z6k 73 [] ⟨[0], [], v1v, v1x⟩ ⟨[], [], []⟩ [true, false, false, false, false, false, false, false, false, false, false, false, false, false, false, false, false, false, false, false, false, false, false, false] (pp (fl v9 nn) (tt k4 (tt k3 (pp (pp (xI R4 (atV (cvT l2) (rd (Ys (cvT l1) (cvT l2)) (tn v12))).length (Zz (atV (cvT l2) (rd (Ys (cvT l1) (cvT l2)) (tn v12))))) (pp (xI R4 0 (fun _ => [])) (xw cU))) (pp (pp (xr l2) (xw cF)) (ww bG (tt k2 (pp (pp (xI R4 (atV (cvT l1) (rd (Ys (cvT l1) (cvT l2)) (tn v12))).length (Zz (atV (cvT l1) (rd (Ys (cvT l1) (cvT l2)) (tn v12))))) (pp (xI R4 0 (fun _ => [])) (xw cL))) (pp (pp (xr l1) (xw aH)) (ww bG (tt k1 (pp (pp (xI R4 (atV (cvT l1) (rd (Ys (cvT l1) (cvT l2)) (tn v12))).length (Zz (atV (cvT l1) (rd (Ys (cvT l1) (cvT l2)) (tn v12))))) (pp (xI R4 (atV (cvT l2) (rd (Ys (cvT l1) (cvT l2)) (tn v12))).length (Zz (atV (cvT l2) (rd (Ys (cvT l1) (cvT l2)) (tn v12))))) (xw dC))) (pp (pp (xr l2) (xw cF)) (ww bG (pp (pp (xr l1) (xw aH)) (ww bG (tt k0 nn))))))))))))))))))))))))))))))))) (fun k0 => (lr 137 3 [1, 1, 1, 1, 1, 1, 0] 1 23 [(6, (.dat v9.length (Zz v9))), (7, (.bool (decide ((v9.length : Int) ≤ 400))))] (sl z6k 20 [] ⟨[], [0], [some [6, 7]], []⟩ ⟨[(6, .frz v9.length v9.length (Zz v9) (Zz v9))], [], []⟩ [false] (pp (xZ (z4w 6 6 0 v9.length v9.length (Zz v9)) v9.length (Zz v9)) (pp (xL v9.length v9.length) (pp (xS v9.length (Zz v9) (Zz v9)) (pp (fl v9 nn) (tt k0 nn)))))))))
 | .h1 v9 v10 v11 v12 v13 v15 => (lb (fun k0 => (lo fun o0 => (lo fun o1 => (lo fun o2 => (lo fun o3 => (sl z6k 20 [] ⟨[2], [], v1v, v1x⟩ ⟨[(9, .len (v9 ++ [(R6.mk (rd v13 (tn v15)).a (rd v13 (tn v15)).b (rd (Ys (cvT l1) (cvT l2)) (tn v12)) (rd v13 (tn v15)).c (rd v13 (tn v15)).d (rd (Ys (cvT l1) (cvT l2)) (tn (wr (v12 + 1)))))]).length)], [.rowed 6 (v9 ++ [(R6.mk (rd v13 (tn v15)).a (rd v13 (tn v15)).b (rd (Ys (cvT l1) (cvT l2)) (tn v12)) (rd v13 (tn v15)).c (rd v13 (tn v15)).d (rd (Ys (cvT l1) (cvT l2)) (tn (wr (v12 + 1)))))]).length (Zz (v9 ++ [(R6.mk (rd v13 (tn v15)).a (rd v13 (tn v15)).b (rd (Ys (cvT l1) (cvT l2)) (tn v12)) (rd v13 (tn v15)).c (rd v13 (tn v15)).d (rd (Ys (cvT l1) (cvT l2)) (tn (wr (v12 + 1)))))]))], []⟩ [true] (pp (xL (v9.length + 1) (v9 ++ [(R6.mk (rd v13 (tn v15)).a (rd v13 (tn v15)).b (rd (Ys (cvT l1) (cvT l2)) (tn v12)) (rd v13 (tn v15)).c (rd v13 (tn v15)).d (rd (Ys (cvT l1) (cvT l2)) (tn (wr (v12 + 1)))))]).length) (pp (xL (v9.length + 1) (v9 ++ [(R6.mk (rd v13 (tn v15)).a (rd v13 (tn v15)).b (rd (Ys (cvT l1) (cvT l2)) (tn v12)) (rd v13 (tn v15)).c (rd v13 (tn v15)).d (rd (Ys (cvT l1) (cvT l2)) (tn (wr (v12 + 1)))))]).length) (pp (xS (v9.length + 1) (Ze (Zz v9) 0 v9.length 6 [(ii (rd v13 (tn v15)).a), (ii (rd v13 (tn v15)).b), (ii (rd (Ys (cvT l1) (cvT l2)) (tn v12))), (ii (rd v13 (tn v15)).c), (ii (rd v13 (tn v15)).d), (ii (rd (Ys (cvT l1) (cvT l2)) (tn (wr (v12 + 1)))))]) (Zz (v9 ++ [(R6.mk (rd v13 (tn v15)).a (rd v13 (tn v15)).b (rd (Ys (cvT l1) (cvT l2)) (tn v12)) (rd v13 (tn v15)).c (rd v13 (tn v15)).d (rd (Ys (cvT l1) (cvT l2)) (tn (wr (v12 + 1)))))]))) (pp (pp (xF (Ze (Zz v9) 0 v9.length 6 [(ii (rd v13 (tn v15)).a), (ii (rd v13 (tn v15)).b), (ii (rd (Ys (cvT l1) (cvT l2)) (tn v12))), (ii (rd v13 (tn v15)).c), (ii (rd v13 (tn v15)).d), (ii (rd (Ys (cvT l1) (cvT l2)) (tn (wr (v12 + 1)))))])) nn) (ww o3 (ww o2 (ww o1 (ww o1 (ww o0 (ww o1 (ww o1 (tt k0 nn)))))))))))))))))) (fun k0 => (sl z6k 17 [] ⟨[0], [], v1w, v1y⟩ ⟨[], [], []⟩ [false] (pp (fl v9 nn) (tt k0 nn)))))
 | .h2 v9 v10 v11 v12 v14 => (lb (fun k0 => (lo fun o0 => (lo fun o1 => (lo fun o2 => (sl z6k 32 [] ⟨[0], [], rjsN2, rjsM2⟩ ⟨[(9, .len (v9.set (0 + (tn v14)) (R6.mk (rd v9 (0 + (tn v14))).a (rd v9 (0 + (tn v14))).b (rd v9 (0 + (tn v14))).c (rd v9 (0 + (tn v14))).d (rd v9 (0 + (tn v14))).e (rd (Ys (cvT l1) (cvT l2)) (tn (wr (v12 + 1)))))).length)], [.rowed 6 (v9.set (0 + (tn v14)) (R6.mk (rd v9 (0 + (tn v14))).a (rd v9 (0 + (tn v14))).b (rd v9 (0 + (tn v14))).c (rd v9 (0 + (tn v14))).d (rd v9 (0 + (tn v14))).e (rd (Ys (cvT l1) (cvT l2)) (tn (wr (v12 + 1)))))).length (Zz (v9.set (0 + (tn v14)) (R6.mk (rd v9 (0 + (tn v14))).a (rd v9 (0 + (tn v14))).b (rd v9 (0 + (tn v14))).c (rd v9 (0 + (tn v14))).d (rd v9 (0 + (tn v14))).e (rd (Ys (cvT l1) (cvT l2)) (tn (wr (v12 + 1)))))))], []⟩ [true] (pp (xL v9.length (v9.set (0 + (tn v14)) (R6.mk (rd v9 (0 + (tn v14))).a (rd v9 (0 + (tn v14))).b (rd v9 (0 + (tn v14))).c (rd v9 (0 + (tn v14))).d (rd v9 (0 + (tn v14))).e (rd (Ys (cvT l1) (cvT l2)) (tn (wr (v12 + 1)))))).length) (pp (xL v9.length (v9.set (0 + (tn v14)) (R6.mk (rd v9 (0 + (tn v14))).a (rd v9 (0 + (tn v14))).b (rd v9 (0 + (tn v14))).c (rd v9 (0 + (tn v14))).d (rd v9 (0 + (tn v14))).e (rd (Ys (cvT l1) (cvT l2)) (tn (wr (v12 + 1)))))).length) (pp (xS v9.length (Xf (Zz v9) (0 + (tn v14)) 5 [(ii (rd (Ys (cvT l1) (cvT l2)) (tn (wr (v12 + 1)))))]) (Zz (v9.set (0 + (tn v14)) (R6.mk (rd v9 (0 + (tn v14))).a (rd v9 (0 + (tn v14))).b (rd v9 (0 + (tn v14))).c (rd v9 (0 + (tn v14))).d (rd v9 (0 + (tn v14))).e (rd (Ys (cvT l1) (cvT l2)) (tn (wr (v12 + 1)))))))) (pp (pp (xF (Xf (Zz v9) (0 + (tn v14)) 5 [(ii (rd (Ys (cvT l1) (cvT l2)) (tn (wr (v12 + 1)))))])) nn) (ww o2 (ww o1 (ww o0 (tt k0 nn))))))))))))) (fun k0 => (sl z6k 17 [] ⟨[0], [], v1w, v1y⟩ ⟨[], [], []⟩ [false] (pp (fl v9 nn) (tt k0 nn)))))
theorem y8i (x0 : Int) (l1 : List R6) (l2 : List R6) : Wj prog (Zy prog 79) (rjsC x0 l1 l2) (Zf prog 79 [(.int .i64 x0), (.dat l1.length (Zz l1)), (.dat l2.length (Zz l2))] true []) (z8a x0 l1 l2) := (lo fun o0 => (sl z6k 31 [(68, 6, Zz ([] : List R6))] ⟨[0], [], v1w, v1y⟩ ⟨[(9, .grow 0 6), (10, .list 0 (Zz ([] : List R4)))], [], []⟩ [] (pp (fl ([] : List R6) nn) (pp (pp (xr l1) (pp (xr l2) (xw o0))) nn))))
theorem w2y (x0 : Int) (l1 : List R6) (l2 : List R6) (n : Nat) (vs : List AVal) (h : Yv (Vp x0 l1 l2) n (z8a x0 l1 l2) = .ret vs) : Jo prog (Zy prog 79) (Zf prog 79 [(.int .i64 x0), (.dat l1.length (Zz l1)), (.dat l2.length (Zz l2))] true []) vs := by
 have := Zo (x4e x0 l1 l2) n _ (y8i x0 l1 l2)
 rwa [h] at this
end Go.Am
namespace Go.Am
open Go.Proofs.Tryz
open Go.Proofs
theorem Jm (l m : List R6) : (Ys l m).length ≤ 2 * l.length + 2 * m.length := by
 refine Nat.le_trans (z3g _) ?_
 rw [List.length_append, Qw, Qw]; omega
theorem z0i (l : List R6) (z : Int) : (atV l z).length ≤ l.length := by
 unfold atV
 rw [List.length_map]
 exact List.length_filter_le _ _
def w1v (out : List R6) (first : Nat) (z : Int) : List R6 := out.take first ++ (out.drop first).map fun r => ⟨r.a, r.b, r.c, r.d, r.e, z⟩
def v2m (z z' : Int) (s : List R4) : List R6 := s.map fun p => ⟨p.a, p.b, z, p.c, p.d, z'⟩
section
variable (kind : Int) (l m : List R6)
def y4n (z : Int) : List R4 := joV kind (atV l z) (atV m z)
def z7e (z : Int) : Bool := decide (400 < (y4n kind l m z).length) || (decide (400 < (joV 2 (atV l z) []).length) || decide (400 < (joV 2 (atV m z) []).length))
def jsF : Nat → Nat → List R6 → List R4 → Nat → Option (List R6)
 | 0, _, out, _, _ => some out
 | k + 1, i, out, last, first =>
  bif z7e kind l m (rd (Ys l m) i) then none
  else bif decide (0 < i) && Ua (y4n kind l m (rd (Ys l m) i)) last then jsF k (i + 1) (w1v out first (rd (Ys l m) (i + 1))) last first
  else jsF k (i + 1) (out ++ v2m (rd (Ys l m) i) (rd (Ys l m) (i + 1)) (y4n kind l m (rd (Ys l m) i))) (y4n kind l m (rd (Ys l m) i)) out.length
def jsO : Option (List R6) := jsF kind l m ((Ys l m).length - 1) 0 [] [] 0
def y9m : Option (List R6) → List AVal
 | none => [.nils, .bool false]
 | some out => [.dat out.length (Zz out), .bool (decide ((out.length : Int) ≤ 400))]
def z3p : List R6 := (jsO kind l m).getD []
def y6d : Bool := match jsO kind l m with
 | none => false
 | some out => decide ((out.length : Int) ≤ 400)
end
def z8i (_ : Int) (l m : List R6) : Bool := decide (l.length ≤ 5000 ∧ m.length ≤ 5000)
section
variable (kind : Int) (l m : List R6) (hl : l.length ≤ 5000) (hm : m.length ≤ 5000)
include hl hm
theorem w8b (last : List R4) (first : Int) (i : Nat) (hi : i + 1 < (Ys l m).length) (s : List R4) (hs : s.length ≤ 1000000) : ∀ (k j : Nat) (out : List R6), j + k = s.length → out.length ≤ 10000000000 + j →
  ∃ n, ∀ N, Yv (Vp kind l m) (N + n) (.to (.h1 out last first (i : Int) s (j : Int))) = Yv (Vp kind l m) N (.to (.h0 (out ++ v2m (rd (Ys l m) i) (rd (Ys l m) (i + 1)) (s.drop j)) last first ((i + 1 : Nat) : Int)))
 | 0, j, out, h, ho => by
  have hx := Jm l m
  refine ⟨1, fun N => ?_⟩
  rw [List.drop_eq_nil_of_le (by omega), Zv]
  simp (disch := omega) only [Vp, Zb, Zk, Yz, Zq, Zx, cond_false, v2m, List.map_nil, List.append_nil]
 | k + 1, j, out, h, ho => by
  have hx := Jm l m
  obtain ⟨n, hn⟩ := w8b last first i hi s hs k (j + 1) (out ++ v2m (rd (Ys l m) i) (rd (Ys l m) (i + 1)) [rd s j]) (by omega) (by simp [v2m]; omega)
  refine ⟨n + 1, fun N => ?_⟩
  have := hn N
  rw [Yf (show j < s.length by omega), ← Nat.add_assoc, Zv]
  simp (disch := omega) only [Vp, Zb, Zk, Zs, Zt, Yx, Yp, Zh, Zq, Zx, Ya, Zj, Nat.zero_add, decide_true, Bool.and_true, Bool.true_and, cond_true]
  rw [List.append_assoc] at this
  exact this
omit hl hm in
theorem w5m (out : List R6) (j : Nat) (x : Int) (h : j < out.length) : w1v (out.set j ⟨(rd out j).a, (rd out j).b, (rd out j).c, (rd out j).d, (rd out j).e, x⟩) (j + 1) x = w1v out j x := by
 unfold w1v
 rw [Yf h, List.map_cons]
 have e1 : (out.set j ⟨(rd out j).a, (rd out j).b, (rd out j).c, (rd out j).d, (rd out j).e, x⟩).take (j + 1) = out.take j ++ [⟨(rd out j).a, (rd out j).b, (rd out j).c, (rd out j).d, (rd out j).e, x⟩] := by
  apply List.ext_getElem
  ·simp; omega
  ·intro n h1 h2
   simp only [List.getElem_take, List.getElem_set]
   by_cases e : j = n
   ·subst e
    rw [if_pos rfl, List.getElem_append_right (by simp only [List.length_take]; omega)]
    simp
   ·rw [if_neg e, List.getElem_append_left (by simp at h1 ⊢; omega), List.getElem_take]
 have e2 : (out.set j ⟨(rd out j).a, (rd out j).b, (rd out j).c, (rd out j).d, (rd out j).e, x⟩).drop (j + 1) = out.drop (j + 1) := by
  rw [List.drop_set]; rw [if_pos (by omega)]
 rw [e1, e2, List.append_assoc]; rfl
theorem w8a (last : List R4) (first : Int) (i : Nat) (hi : i + 1 < (Ys l m).length) : ∀ (k j : Nat) (out : List R6), j + k = out.length → out.length ≤ 10000000000 →
  ∃ n, ∀ N, Yv (Vp kind l m) (N + n) (.to (.h2 out last first (i : Int) (j : Int))) = Yv (Vp kind l m) N (.to (.h0 (w1v out j (rd (Ys l m) (i + 1))) last first ((i + 1 : Nat) : Int)))
 | 0, j, out, h, ho => by
  have hx := Jm l m
  refine ⟨1, fun N => ?_⟩
  have e : w1v out j (rd (Ys l m) (i + 1)) = out := by
   unfold w1v; rw [List.drop_eq_nil_of_le (by omega), List.map_nil, List.append_nil, List.take_of_length_le (by omega)]
  rw [e, Zv]
  simp (disch := omega) only [Vp, Zb, Zk, Yz, Zq, Zx, cond_false]
 | k + 1, j, out, h, ho => by
  have hx := Jm l m
  obtain ⟨n, hn⟩ := w8a last first i hi k (j + 1) (out.set j ⟨(rd out j).a, (rd out j).b, (rd out j).c, (rd out j).d, (rd out j).e, rd (Ys l m) (i + 1)⟩) (by simp; omega) (by simpa using ho)
  refine ⟨n + 1, fun N => ?_⟩
  have := hn N
  rw [w5m out j _ (by omega)] at this
  rw [← Nat.add_assoc, Zv]
  simp (disch := omega) only [Vp, Zb, Zk, Zs, Zt, Yq, Yx, Yp, Zh, Zq, Zx, Ya, Zj, Nat.zero_add, decide_true, Bool.and_true, Bool.true_and, cond_true]
  exact this
theorem x7y : ∀ (k i : Nat) (out : List R6) (last : List R4) (first : Nat), k = (Ys l m).length - 1 - i → i ≤ (Ys l m).length → out.length ≤ i * 400 → last.length ≤ 400 → first ≤ out.length →
  ∃ n, Yv (Vp kind l m) n (.to (.h0 out last (first : Int) (i : Int))) = .ret (y9m (jsF kind l m k i out last first))
 | 0, i, out, last, first, h, hi, ho, hla, hf => by
  have hx := Jm l m
  refine ⟨1, ?_⟩
  rw [Zv]
  simp (disch := omega) only [Vp, Zb, Zk, Yz, Zq, Zx, cond_false, Zm, jsF, y9m]
 | k + 1, i, out, last, first, h, hi, ho, hla, hf => by
  have hx := Jm l m
  have hi1 : i + 1 < (Ys l m).length := by omega
  have hbig : i * 400 ≤ 20000 * 400 := Nat.mul_le_mul_right _ (by omega)
  have a1 := fun z => z0i l z
  have a2 := fun z => z0i m z
  have w1 : ∀ z, z2t l z = true := fun z => decide_eq_true (by omega)
  have w2 : ∀ z, z2t m z = true := fun z => decide_eq_true (by omega)
  have w3 : ∀ k z, Qm k (atV l z) (atV m z) = true := fun k z => decide_eq_true (by have := a1 z; have := a2 z; omega)
  have w4 : ∀ k z, Qm k (atV l z) ([] : List R4) = true := fun k z => decide_eq_true (by have := a1 z; simp; omega)
  have w5 : ∀ k z, Qm k (atV m z) ([] : List R4) = true := fun k z => decide_eq_true (by have := a2 z; simp; omega)
  unfold jsF
  have fT : y4n kind l m (rd (Ys l m) i) = joV kind (atV l (rd (Ys l m) i)) (atV m (rd (Ys l m) i)) := rfl
  by_cases c1 : 400 < (y4n kind l m (rd (Ys l m) i)).length
  ·refine ⟨1, ?_⟩
   have hb : z7e kind l m (rd (Ys l m) i) = true := by unfold z7e; rw [decide_eq_true c1]; rfl
   rw [hb, cond_true, Zv]
   rw [fT] at c1
   simp (disch := omega) only [Vp, Zb, Zk, Zs, Yr, Zt, Zq, Zx, Zj, w1, w2, w3, w4, w5, Bool.and_true, cond_true, Zm, y9m]
  by_cases c2 : 400 < (joV 2 (atV l (rd (Ys l m) i)) []).length
  ·refine ⟨1, ?_⟩
   have hb : z7e kind l m (rd (Ys l m) i) = true := by unfold z7e; rw [decide_eq_true c2, Bool.true_or, Bool.or_true]
   rw [hb, cond_true, Zv]
   rw [fT] at c1
   simp (disch := omega) only [Vp, Zb, Zk, Zs, Yr, Xk, Zt, Zq, Zx, Zj, w1, w2, w3, w4, w5, Bool.and_true, cond_true, cond_false, Zm, y9m]
  by_cases c3 : 400 < (joV 2 (atV m (rd (Ys l m) i)) []).length
  ·refine ⟨1, ?_⟩
   have hb : z7e kind l m (rd (Ys l m) i) = true := by unfold z7e; rw [decide_eq_true c3, Bool.or_true, Bool.or_true]
   rw [hb, cond_true, Zv]
   rw [fT] at c1
   simp (disch := omega) only [Vp, Zb, Zk, Zs, Yr, Xk, Zt, Zq, Zx, Zj, w1, w2, w3, w4, w5, Bool.and_true, cond_true, cond_false, Zm, y9m]
  have hb : z7e kind l m (rd (Ys l m) i) = false := by unfold z7e; rw [decide_eq_false c1, decide_eq_false c2, decide_eq_false c3]; rfl
  rw [hb, cond_false]
  have w6 : Wc (joV kind (atV l (rd (Ys l m) i)) (atV m (rd (Ys l m) i))) last = true := decide_eq_true (by rw [← fT]; omega)
  rcases Yg (decide (0 < i) && Ua (y4n kind l m (rd (Ys l m) i)) last) with q | q
  ·obtain ⟨n3, h3⟩ := w8a kind l m hl hm last first i hi1 (out.length - first) first out (by omega) (by omega)
   obtain ⟨n0, h0⟩ := x7y k (i + 1) (w1v out first (rd (Ys l m) (i + 1))) last first (by omega) (by omega) (by simp [w1v]; omega) hla (by simp [w1v]; omega)
   refine ⟨n0 + n3 + 1, ?_⟩
   rw [q, cond_true, Zv]
   simp only [Bool.and_eq_true, decide_eq_true_eq] at q
   obtain ⟨q1, q2⟩ := q
   rw [fT] at c1 q2
   simp (disch := omega) only [Vp, Zb, Zk, Zs, Yr, Xk, Zt, Zq, Zx, Zj, w1, w2, w3, w4, w5, w6, q2, Bool.and_true, cond_true, cond_false]
   rw [h3 n0, h0]
  ·obtain ⟨n2, h2⟩ := w8b kind l m hl hm (y4n kind l m (rd (Ys l m) i)) (out.length : Int) i hi1 (y4n kind l m (rd (Ys l m) i)) (by omega) (y4n kind l m (rd (Ys l m) i)).length 0 out (Nat.zero_add _) (by omega)
   obtain ⟨n0, h0⟩ := x7y k (i + 1) (out ++ v2m (rd (Ys l m) i) (rd (Ys l m) (i + 1)) (y4n kind l m (rd (Ys l m) i))) (y4n kind l m (rd (Ys l m) i)) out.length (by omega) (by omega) (by simp [v2m]; omega) (by omega) (by simp)
   refine ⟨n0 + n2 + 1, ?_⟩
   rw [q, cond_false, Zv]
   have h2' := h2 n0
   simp only [List.drop_zero, z0y] at h2'
   have c1' := c1
   rw [fT] at c1'
   by_cases hi0 : 0 < i
   ·rw [decide_eq_true hi0, Bool.true_and, fT] at q
    simp (disch := omega) only [Vp, Zb, Zk, Zs, Yr, Xk, Zt, Zq, Zx, Zj, w1, w2, w3, w4, w5, w6, q, Bool.and_true, cond_true, cond_false]
    rw [← h0]; exact h2'
   ·simp (disch := omega) only [Vp, Zb, Zk, Zs, Yr, Xk, Zt, Zq, Zx, Zj, w1, w2, w3, w4, w5, w6, Bool.and_true, cond_true, cond_false]
    rw [← h0]; exact h2'
end
theorem v1u (kind : Int) (l m : List R6) (h : z8i kind l m = true) : ∃ N, Yv (Vp kind l m) N (z8a kind l m) = .ret (y9m (jsO kind l m)) := by
 obtain ⟨hl, hm⟩ := of_decide_eq_true h
 obtain ⟨N, hN⟩ := x7y kind l m hl hm ((Ys l m).length - 1) 0 [] [] 0 rfl (Nat.zero_le _) (Nat.zero_le _) (Nat.zero_le _) (Nat.le_refl _)
 refine ⟨N, ?_⟩
 have w1 : z5h l m = true := decide_eq_true ⟨by omega, by omega⟩
 simp only [z8a, Zb, Zk, w1, cond_true]
 exact hN
def fJs : List AVal → Option (AVal × Bool)
 | [.int .i64 x0, a1, a2] => match asL R6 a1, asL R6 a2 with
  | some (L1, g1, n1), some (L2, g2, n2) => some (.tup [.dat (z3p x0 L1 L2).length (Zz (z3p x0 L1 L2)), .bool (y6d x0 L1 L2)], isT R6 n1 g1 && (isT R6 n2 g2 && (z8i x0 L1 L2)))
  | _, _ => none
 | _ => none
theorem fJs_ok {S : Specs} (hS : Zu prog S) : Zu prog (S.with w8y fJs) := by
 refine w9v hS (by kernel_rfl) fun args v h => ?_
 unfold fJs at h
 split at h
 ·rename_i x0 a1 a2
  split at h
  ·rename_i L1 g1 n1 L2 g2 n2 e1 e2
   simp only [Option.some.injEq, Prod.mk.injEq, Bool.and_eq_true] at h
   obtain ⟨rfl, ho1, ho2, hw⟩ := h
   obtain ⟨N, hN⟩ := v1u x0 L1 L2 hw
   refine ⟨_, y9m (jsO x0 L1 L2), (.cons (.refl _) (.cons (Yh e1 ho1) (.cons (Yh e2 ho2) .nil))), ?_, w2y x0 L1 L2 N _ hN, 3, ?_⟩
   ·unfold z3p y6d
    cases jsO x0 L1 L2 with
    | none => exact fun ρ u hu => z3y (.cons (z0u R6) (RLe.refl _)) ρ u hu
    | some out => exact fun ρ u hu => hu
   ·cases jsO x0 L1 L2 <;> rfl
  ·cases h
 ·cases h
def T4 : Specs := T3.with w8y fJs
theorem T4_ok : Zu prog T4 := fJs_ok z6k
end Go.Am
namespace Go.Am
open Go.Proofs.Tryz
open Go.Proofs Go.Sort Go.Shelf Go.RowKit Go.Lib
def v5d (x : E3) : List Value := y2i x.1
theorem v5c (l : List R3) (h : y4p l = true) : Go.Sort.flatK v5d 3 (y4q l h).toArray = Go.Sort.flatK y2i 3 l.toArray := by
 have hl := Jg l h
 unfold Go.Sort.flatK
 rw [show (y4q l h).toArray.size = l.toArray.size by simpa using hl]
 apply Array.ext
 ·simp
 ·intro t h1 h2
  simp only [Array.getElem_map, Array.getElem_range]
  have ht : t < l.length * 3 := by simpa using h1
  have hq : t / 3 < l.length := by omega
  congr 1
  rw [getElem!_pos (y4q l h).toArray (t / 3) (by simpa [hl] using hq), getElem!_pos l.toArray (t / 3) (by simpa using hq)]
  unfold v5d
  congr 1
  have := z8t l h
  have e := congrArg (fun z : List R3 => z[t / 3]?) this
  simp only [List.getElem?_map] at e
  rw [List.getElem?_eq_getElem (by rw [hl]; exact hq), List.getElem?_eq_getElem hq] at e
  simpa using e
theorem w5e (d : Array E3) : Go.Sort.flatK v5d 3 d = Go.Sort.flatK y2i 3 (d.toList.map Subtype.val).toArray := by
 unfold Go.Sort.flatK
 rw [show d.size = (d.toList.map Subtype.val).toArray.size by simp]
 apply Array.ext
 ·simp
 ·intro t h1 h2
  simp only [Array.getElem_map, Array.getElem_range]
  have ht : t < d.size * 3 := by simpa using h1
  have hq : t / 3 < d.size := by omega
  congr 1
  rw [getElem!_pos d (t / 3) hq, getElem!_pos (d.toList.map Subtype.val).toArray (t / 3) (by simpa using hq)]
  simp [v5d]
theorem y5z (l : List R3) : y3m l.length (z3w (cvT l)).length = true := Uv (by
 rw [Zb]
 by_cases h : y4p l = true
 ·exact (Qn l h).1.length_eq.symm
 ·unfold z3w; rw [dif_neg h])
theorem isAgg3 : ∀ w, (isAgg (Tryz.sortEnd_ren.t 24)).run prog w = .ok true w := fun w => by rfl
theorem size3 : ∀ w, (Go.sizeOf (Tryz.sortEnd_ren.t 24)).run prog w = .ok 3 w := fun w => by rfl
theorem x7d : y7h prog w8t (x2w R3 z3w y4p x2e) := by
 refine w0r (fun L => ?_) (fun blk off cap L w hb hH fF hsz => ?_) fun p cap fv w => AnyF.slices_SortFunc_none Tryz.sortEnd p cap fv w
 ·by_cases h : y4p L = true
  ·exact (Qn L h).1.length_eq
  ·unfold z3w; rw [dif_neg h]
 ·have eg : ∀ args w, (callFunc 193 args).run prog w = .ok (.enter 193 args) w := enters_of Tryz.func193 (by kernel_rfl) rfl
  have hcmp : CmpLays prog 193 #[] v5d 3 cf3 blk off (y4q L hb).toArray.size w := fun m os dk _ x y => by
   have hx := of_decide_eq_true x.2
   have hy := of_decide_eq_true y.2
   exact Tryz.cmpEnd x.1.a x.1.b x.1.c y.1.a y.1.b y.1.c hx hy _
  have hH' : HoldsK v5d 3 w blk off (y4q L hb).toArray := by
   unfold HoldsK
   rw [v5c L hb]; exact hH
  have hcon := AnyQ.slices_SortFunc_eq Tryz.sortEnd 3 isAgg3 size3 v5d (fun x => y0h x.1) (fun x v hv => by
   obtain ⟨a, ha, rfl⟩ := List.mem_map.1 hv
   have : y9o a = true := List.all_eq_true.1 (v0m.num x.1) a ha
   cases a <;> first | rfl | (simp [y9o] at this; done)) cf3 swo3 193 #[] blk off cap (y4q L hb).toArray w eg hcmp hH' fF (by simpa [Jg] using hsz)
  have hs : (y4q L hb).toArray.size = L.length := by simp [Jg]
  rw [hs] at hcon
  refine Calls.mono hcon fun e w' ⟨he, n, os, hw⟩ => ⟨he, n, os, ?_⟩
  rw [hw]
  unfold sortWorldK putRowK
  rw [w5e]
  unfold z3w
  rw [dif_pos hb]
  rfl
def Yo (zs : List Int) : List Int := zs.mergeSort fun x y => decide (x ≤ y)
theorem x7c : y7h prog nSort (fRow Yo) :=
 v5e (fun zs => List.length_mergeSort zs) (fun blk off cap zs w hH hb hz => Tryz.slices_Sort_int blk off cap zs w hH hb hz) fun p cap w => Tryz.slices_Sort_int_none p cap w
def Xv (zs : List Int) : List Int := compact zs ++ List.replicate (zs.length - (compact zs).length) 0
def w6q (zs : List Int) : Nat := (compact zs).length
theorem Wr (zs : List Int) : (Xv zs).length = zs.length := by have := compact_length_le zs; simp [Xv]; omega
theorem z0b (n : Nat) (c : Nat → Int) : y3m n (Xv (Za n c)).length = true := Uv (by rw [Wr]; simp [Za])
theorem w0d (w : World) : grow w #[] = w := by simp [grow]
theorem x0s : y7h prog x2g (fCut Xv w6q) :=
 v5f (fun zs => by have := compact_length_le zs; simp [Xv]; omega) (fun zs => compact_length_le zs)
  (fun blk off cap zs w hH hb hz eC => (Tryz.slices_Compact_int blk off cap zs w hH (by omega) eC).mono fun e w' ⟨he, q, hw⟩ => ⟨he, q, #[], by rw [hw, w0d]; rfl⟩)
  fun p cap w => Tryz.slices_Compact_int_empty p cap w
def T5 : Specs := ((T4.withE w8t (x2w R3 z3w y4p x2e)).withE nSort (fRow Yo)).withE x2g (fCut Xv w6q)
theorem Kp : Zu prog T5 := y2q (y2q (y2q T4_ok (by kernel_rfl) x7d) (by kernel_rfl) x7c) (by kernel_rfl) x0s
end Go.Am
namespace Go.Am
open Go.Proofs.Tryz
open Go.Proofs
-- h2: index into an array (choices [true, true, false, false])
-- h2: index into an array (choices [true, false, true, false, false])
-- h2: index into an array (choices [true, false, false, true, true, false, false])
-- h2: index into an array (choices [true, false, false, true, false, false, false])
-- h2: index into an array (choices [true, false, false, false, false, false])
inductive spmS where
 | h0 (v8 : Int)
 | h1 (v3 : List R3) (v17 : Int)
 | h2 (v5 : List R3) (v6 : Int) (v7 : Int) (aA : Int) (cG : Int) (aB : Int) (aC : Bool) (aE : List R2)
def spmC (l0 : List R2) : spmS → Cfg
 | .h0 v8 => ⟨⟨19, 0, true⟩, none, (Zg prog 195 [1, 0, 1, 0, 0] 0), none, (Zy prog 3), ⟨Yj [(0, (.dat l0.length (Zz l0))), (1, (.fn 188 [])), (7, (ii (l0.length : Int))), (8, (ii v8))], Vf [] 0, 0, [], true⟩, [⟨⟨9, 0, true⟩, (Vv prog 187 [1, 0] 2), (Zg prog 187 [1, 0] 1), none, (Zy prog 3), Yj [(5, (.dat l0.length (Zz l0))), (6, (.fn 188 []))]⟩, ⟨⟨11, 0, true⟩, (Vv prog 174 [1, 1, 0, 0] 1), (Zg prog 174 [1, 1, 0, 0] 1), none, (Zy prog 77), Yj [(0, (.dat l0.length (Zz l0))), (7, (.dat l0.length (Zz l0)))]⟩], .leaf⟩
 | .h1 v3 v17 => ⟨⟨38, 0, true⟩, none, (Zg prog 185 [1, 1, 0, 1, 0, 0, 1, 1, 0, 0, 1, 1, 0, 0] 0), none, (Zy prog 15), ⟨Yj [(3, (.sla 7 3 0 v3.length (.un 3))), (4, (ii 0)), (8, (.sl 0 0 2 (.un 1))), (9, (ii 2)), (10, (ii 0)), (15, (.dat l0.length (Zz l0))), (16, (ii (l0.length : Int))), (17, (ii v17))], Vf [⟨[(.dat l0.length (Zz l0)), .nils], 158, none⟩, ⟨[(.fn 189 [])], 198, none⟩, ⟨[(ii 0), (ii 0)], 235, none⟩, ⟨[.nils], 158, none⟩, ⟨[(ii 0)], 3, none⟩, ⟨[(.bool false)], 4, none⟩, ⟨[(.fn 184 [(.ptr 5 0), (.ptr 4 0), (.ptr 3 0)])], 236, none⟩, ⟨rows v3.length (Zz v3), 240, some ⟨3, v3.length, (Zz v3)⟩⟩] 0, 8, [], true⟩, [⟨⟨42, 0, true⟩, (Vv prog 170 [1, 1, 1, 1, 1, 0, 0] 3), (Zg prog 170 [1, 1, 1, 1, 1, 0, 0] 1), none, (Zy prog 4), Yj [(5, (.ptr 1 0)), (6, .nils), (7, (.ptr 2 0)), (8, (.ptr 3 0)), (9, (.ptr 4 0)), (10, (.ptr 5 0)), (11, (.ptr 6 0)), (16, (.sl 0 0 2 (.un 1)))]⟩, ⟨⟨11, 0, true⟩, (Vv prog 174 [1, 1, 1, 0] 1), (Zg prog 174 [1, 1, 1, 0] 1), none, (Zy prog 77), Yj [(9, (.dat l0.length (Zz l0)))]⟩], .leaf⟩
 | .h2 v5 v6 v7 aA cG aB aC aE => ⟨⟨16, 0, true⟩, none, (Zg prog 197 [1, 0, 0] 0), none, [], ⟨Yj [(0, (.yld 0)), (5, (.sla 7 3 0 v5.length (.un 3))), (6, (ii v6)), (7, (ii v7))], z4r [(1, ⟨[(.fn 189 [])], 198, none⟩), (2, ⟨[(ii aA), (ii cG)], 235, none⟩), (3, ⟨[(ii aB)], 3, none⟩), (4, ⟨[(.bool aC)], 4, none⟩), (5, ⟨[(.fn 184 [(.ptr 4 0), (.ptr 3 0), (.ptr 6 0)])], 236, none⟩), (6, ⟨[(.sla 8 2 0 aE.length (.un 2))], 158, none⟩), (7, ⟨rows v5.length (Zz v5), 240, some ⟨3, v5.length, (Zz v5)⟩⟩), (8, ⟨rows aE.length (Zz aE), 110, some ⟨2, aE.length, (Zz aE)⟩⟩)], 9, [], true⟩, [⟨⟨42, 0, true⟩, none, (.inRangeFunc 0 :: (Zg prog 170 [1, 1, 1, 1, 1, 0, 1, 0] 1)), none, (Zy prog 4), Yj [(6, .nils), (8, (.ptr 6 0))]⟩, ⟨⟨11, 0, true⟩, (Vv prog 174 [1, 1, 1, 0] 1), (Zg prog 174 [1, 1, 1, 0] 1), none, (Zy prog 77), Yj [(9, (.dat l0.length (Zz l0)))]⟩], (z4t [(0, ⟨.ready, none, 42, Yj [(5, (.ptr 1 0)), (7, (.ptr 2 0)), (9, (.ptr 3 0)), (10, (.ptr 4 0)), (11, (.ptr 5 0))], [18], (Xn prog 170 [1, 1, 1, 1, 1, 0, 1, 0, 0]), (Xn prog 170 [1, 1, 1, 1, 1, 0, 1, 0, 1])⟩)])⟩
def spmN0 : List (Option (List Nat)) := [some [0, 1, 7, 8], some [5, 6], some [0, 7]]
def spmM0 : List (Option (List Nat)) := []
def x7a : List (Option (List Nat)) := [some [3, 4, 8, 9, 10, 15, 16, 17], some [5, 6, 7, 8, 9, 10, 11, 16], some [9]]
def x7b : List (Option (List Nat)) := []
def z9c : List (Option (List Nat)) := [some [0, 5, 6, 7], some [6, 8], some [9]]
def z9d : List (Option (List Nat)) := [some [5, 7, 9, 10, 11], none, none, none, none, none, none, none, none]
def Vn (l0 : List R2) : spmS → Xd spmS
 | .h0 v8 => (bif (decide (v8 < (l0.length : Int))) then (bif ((decide (0 ≤ v8 ∧ v8 < (l0.length : Int))) && true) then (bif (decide ((rd l0 v8.toNat).a < (rd l0 v8.toNat).b)) then (bif (decide ((rd l0 v8.toNat).a ≥ (-1000000))) then (bif (!(decide ((rd l0 v8.toNat).b ≤ 1000000))) then (bif (decide (v8 ≥ 0)) then (.ret [.nils, (.int .i64 8)]) else (.to (.h1 ([] : List R3) 0))) else (.to (.h0 (IntKind.wrap .i64 (v8 + 1))))) else (bif (decide (v8 ≥ 0)) then (.ret [.nils, (.int .i64 8)]) else (.to (.h1 ([] : List R3) 0)))) else (bif (decide (v8 ≥ 0)) then (.ret [.nils, (.int .i64 8)]) else (.to (.h1 ([] : List R3) 0)))) else .stuck) else (.to (.h1 ([] : List R3) 0)))
 | .h1 v3 v17 => (bif (decide (v17 < (l0.length : Int))) then (bif ((decide (0 ≤ v17 ∧ v17 < (l0.length : Int))) && true) then (bif (Nat.beq 3 3 && ((decide (0 + v3.length = v3.length)) && decide ((v3.length + 2 + 1) * (24 + 1) ≤ Jb))) then (.to (.h1 (v3 ++ [(R3.mk (rd l0 v17.toNat).a 0 1), (R3.mk (rd l0 v17.toNat).b 0 (-1))]) (IntKind.wrap .i64 (v17 + 1)))) else .stuck) else .stuck) else (bif (y4p (cvT v3)) then (bif (decide (v3.length < 4611686018427387904)) then (bif (decide (v3.length = v3.length)) then (.to (.h2 (z3w (cvT v3)) (v3.length : Int) 0 0 0 0 false ([] : List R2))) else .stuck) else .stuck) else .stuck))
 | .h2 v5 v6 v7 aA cG aB aC aE => (bif (decide (v7 < v6)) then (bif ((decide (0 ≤ v7 ∧ v7 < (v5.length : Int))) && true) then (bif (decide ((0 + v7.toNat) < v5.length)) then (bif (!aC) then (bif (decide ((rd v5 (0 + v7.toNat)).b = Int.ofNat 0)) then (.to (.h2 v5 v6 (IntKind.wrap .i64 (v7 + 1)) (IntKind.wrap .i64 (aA + (rd v5 (0 + v7.toNat)).c)) cG (rd v5 (0 + v7.toNat)).a (x2s (decide ((IntKind.wrap .i64 (aA + (rd v5 (0 + v7.toNat)).c)) > 0)) (decide (cG > 0))) aE)) else (bif (decide ((rd v5 (0 + v7.toNat)).b = Int.ofNat 1)) then (.to (.h2 v5 v6 (IntKind.wrap .i64 (v7 + 1)) aA (IntKind.wrap .i64 (cG + (rd v5 (0 + v7.toNat)).c)) (rd v5 (0 + v7.toNat)).a (x2s (decide (aA > 0)) (decide ((IntKind.wrap .i64 (cG + (rd v5 (0 + v7.toNat)).c)) > 0))) aE)) else .stuck)) else (bif (aB == (rd v5 (0 + v7.toNat)).a) then (bif (decide ((rd v5 (0 + v7.toNat)).b = Int.ofNat 0)) then (.to (.h2 v5 v6 (IntKind.wrap .i64 (v7 + 1)) (IntKind.wrap .i64 (aA + (rd v5 (0 + v7.toNat)).c)) cG (rd v5 (0 + v7.toNat)).a (x2s (decide ((IntKind.wrap .i64 (aA + (rd v5 (0 + v7.toNat)).c)) > 0)) (decide (cG > 0))) aE)) else (bif (decide ((rd v5 (0 + v7.toNat)).b = Int.ofNat 1)) then (.to (.h2 v5 v6 (IntKind.wrap .i64 (v7 + 1)) aA (IntKind.wrap .i64 (cG + (rd v5 (0 + v7.toNat)).c)) (rd v5 (0 + v7.toNat)).a (x2s (decide (aA > 0)) (decide ((IntKind.wrap .i64 (cG + (rd v5 (0 + v7.toNat)).c)) > 0))) aE)) else .stuck)) else (bif (decide ((aE.length : Int) > 0)) then (bif ((decide (0 ≤ (IntKind.wrap .i64 ((aE.length : Int) - 1)) ∧ (IntKind.wrap .i64 ((aE.length : Int) - 1)) < (aE.length : Int))) && true) then (bif (decide ((0 + (Int.toNat (IntKind.wrap .i64 ((aE.length : Int) - 1)))) < aE.length)) then (bif ((rd aE (0 + (Int.toNat (IntKind.wrap .i64 ((aE.length : Int) - 1))))).b == aB) then (bif (decide ((rd v5 (0 + v7.toNat)).b = Int.ofNat 0)) then (.to (.h2 v5 v6 (IntKind.wrap .i64 (v7 + 1)) (IntKind.wrap .i64 (aA + (rd v5 (0 + v7.toNat)).c)) cG (rd v5 (0 + v7.toNat)).a (x2s (decide ((IntKind.wrap .i64 (aA + (rd v5 (0 + v7.toNat)).c)) > 0)) (decide (cG > 0))) (aE.set (0 + (Int.toNat (IntKind.wrap .i64 ((aE.length : Int) - 1)))) (R2.mk (rd aE (0 + (Int.toNat (IntKind.wrap .i64 ((aE.length : Int) - 1))))).a (rd v5 (0 + v7.toNat)).a)))) else (bif (decide ((rd v5 (0 + v7.toNat)).b = Int.ofNat 1)) then (.to (.h2 v5 v6 (IntKind.wrap .i64 (v7 + 1)) aA (IntKind.wrap .i64 (cG + (rd v5 (0 + v7.toNat)).c)) (rd v5 (0 + v7.toNat)).a (x2s (decide (aA > 0)) (decide ((IntKind.wrap .i64 (cG + (rd v5 (0 + v7.toNat)).c)) > 0))) (aE.set (0 + (Int.toNat (IntKind.wrap .i64 ((aE.length : Int) - 1)))) (R2.mk (rd aE (0 + (Int.toNat (IntKind.wrap .i64 ((aE.length : Int) - 1))))).a (rd v5 (0 + v7.toNat)).a)))) else .stuck)) else (bif (Nat.beq 2 2 && ((decide (0 + aE.length = aE.length)) && decide ((aE.length + 1 + 1) * (16 + 1) ≤ Jb))) then (bif (decide ((rd v5 (0 + v7.toNat)).b = Int.ofNat 0)) then (.to (.h2 v5 v6 (IntKind.wrap .i64 (v7 + 1)) (IntKind.wrap .i64 (aA + (rd v5 (0 + v7.toNat)).c)) cG (rd v5 (0 + v7.toNat)).a (x2s (decide ((IntKind.wrap .i64 (aA + (rd v5 (0 + v7.toNat)).c)) > 0)) (decide (cG > 0))) (aE ++ [(R2.mk aB (rd v5 (0 + v7.toNat)).a)]))) else (bif (decide ((rd v5 (0 + v7.toNat)).b = Int.ofNat 1)) then (.to (.h2 v5 v6 (IntKind.wrap .i64 (v7 + 1)) aA (IntKind.wrap .i64 (cG + (rd v5 (0 + v7.toNat)).c)) (rd v5 (0 + v7.toNat)).a (x2s (decide (aA > 0)) (decide ((IntKind.wrap .i64 (cG + (rd v5 (0 + v7.toNat)).c)) > 0))) (aE ++ [(R2.mk aB (rd v5 (0 + v7.toNat)).a)]))) else .stuck)) else .stuck)) else .stuck) else .stuck) else (bif (Nat.beq 2 2 && ((decide (0 + aE.length = aE.length)) && decide ((aE.length + 1 + 1) * (16 + 1) ≤ Jb))) then (bif (decide ((rd v5 (0 + v7.toNat)).b = Int.ofNat 0)) then (.to (.h2 v5 v6 (IntKind.wrap .i64 (v7 + 1)) (IntKind.wrap .i64 (aA + (rd v5 (0 + v7.toNat)).c)) cG (rd v5 (0 + v7.toNat)).a (x2s (decide ((IntKind.wrap .i64 (aA + (rd v5 (0 + v7.toNat)).c)) > 0)) (decide (cG > 0))) (aE ++ [(R2.mk aB (rd v5 (0 + v7.toNat)).a)]))) else (bif (decide ((rd v5 (0 + v7.toNat)).b = Int.ofNat 1)) then (.to (.h2 v5 v6 (IntKind.wrap .i64 (v7 + 1)) aA (IntKind.wrap .i64 (cG + (rd v5 (0 + v7.toNat)).c)) (rd v5 (0 + v7.toNat)).a (x2s (decide (aA > 0)) (decide ((IntKind.wrap .i64 (cG + (rd v5 (0 + v7.toNat)).c)) > 0))) (aE ++ [(R2.mk aB (rd v5 (0 + v7.toNat)).a)]))) else .stuck)) else .stuck)))) else .stuck) else .stuck) else (.ret [(.dat aE.length (Zz aE)), (.int .i64 0)]))
def z7s (l0 : List R2) : Xd spmS := (bif (decide ((l0.length : Int) > 400)) then (.ret [.nils, (.int .i64 4)]) else (.to (.h0 0)))
theorem x3o (l0 : List R2) : ∀ s, Wj prog (Zy prog 174) (spmC l0) (spmC l0 s) (Vn l0 s)
 | .h0 v8 => (lb (fun k0 => (lo fun aH => (lb (fun k1 => (lb (fun k2 => (lb (fun k3 => (lb (fun k4 => (lr 11 174 [1, 1, 0, 1, 0, 0] 1 77 [(2, .nils), (3, (ii 8))] (sl Kp 79 [] ⟨[], [], [some [2, 3]], []⟩ ⟨[], [], []⟩ (trs 9 []) (tt k4 (tt k3 (tt k2 (tt k1 (ww aH (tt k0 nn))))))))) (fun k4 => (sl Kp 154 [(240, 3, Zz ([] : List R3))] ⟨[8, 2, 3, 4, 5, 6, 7, 9], [], x7a, x7b⟩ ⟨[(3, .grow 7 3)], [], []⟩ (trs 8 [false, true]) (pp (fl ([] : List R3) nn) (tt k4 (tt k3 (tt k2 (tt k1 (ww aH (tt k0 nn))))))))))) (fun k3 => (sl Kp 69 [] ⟨[], [], spmN0, spmM0⟩ ⟨[], [], []⟩ (trs 7 [false]) (tt k3 (tt k2 (tt k1 (ww aH (tt k0 nn))))))))) (fun k2 => (lb (fun k3 => (lr 11 174 [1, 1, 0, 1, 0, 0] 1 77 [(2, .nils), (3, (ii 8))] (sl Kp 79 [] ⟨[], [], [some [2, 3]], []⟩ ⟨[], [], []⟩ (trs 4 [false, false, false, true, true]) (tt k3 (tt k2 (tt k1 (ww aH (tt k0 nn)))))))) (fun k3 => (sl Kp 154 [(240, 3, Zz ([] : List R3))] ⟨[8, 2, 3, 4, 5, 6, 7, 9], [], x7a, x7b⟩ ⟨[(3, .grow 7 3)], [], []⟩ (trs 4 [false, false, false, true, false, true]) (pp (fl ([] : List R3) nn) (tt k3 (tt k2 (tt k1 (ww aH (tt k0 nn)))))))))))) (fun k1 => (lb (fun k2 => (lr 11 174 [1, 1, 0, 1, 0, 0] 1 77 [(2, .nils), (3, (ii 8))] (sl Kp 79 [] ⟨[], [], [some [2, 3]], []⟩ ⟨[], [], []⟩ [true, false, false, false, false, false, false, true, true] (tt k2 (tt k1 (ww aH (tt k0 nn))))))) (fun k2 => (sl Kp 154 [(240, 3, Zz ([] : List R3))] ⟨[8, 2, 3, 4, 5, 6, 7, 9], [], x7a, x7b⟩ ⟨[(3, .grow 7 3)], [], []⟩ [true, false, false, false, false, false, false, true, false, true] (pp (fl ([] : List R3) nn) (tt k2 (tt k1 (ww aH (tt k0 nn)))))))))))) (fun k0 => (sl Kp 98 [(240, 3, Zz ([] : List R3))] ⟨[6, 0, 1, 2, 3, 4, 5, 7], [], x7a, x7b⟩ ⟨[(3, .grow 7 3)], [], []⟩ [false, false, true] (pp (fl ([] : List R3) nn) (tt k0 nn)))))
 | .h1 v3 v17 => (lb (fun k0 => (lo fun o0 => (lo fun o1 => (sl Kp 36 [] ⟨[0, 1, 2, 3, 4, 5, 6, 10], [], x7a, x7b⟩ ⟨[(3, .len (v3 ++ [(R3.mk (rd l0 (tn v17)).a 0 1), (R3.mk (rd l0 (tn v17)).b 0 (-1))]).length)], (kpB 7 [.rowed 3 (v3 ++ [(R3.mk (rd l0 (tn v17)).a 0 1), (R3.mk (rd l0 (tn v17)).b 0 (-1))]).length (Zz (v3 ++ [(R3.mk (rd l0 (tn v17)).a 0 1), (R3.mk (rd l0 (tn v17)).b 0 (-1))]))]), []⟩ [true] (pp (xL (v3.length + 2) (v3 ++ [(R3.mk (rd l0 (tn v17)).a 0 1), (R3.mk (rd l0 (tn v17)).b 0 (-1))]).length) (pp (xL (v3.length + 2) (v3 ++ [(R3.mk (rd l0 (tn v17)).a 0 1), (R3.mk (rd l0 (tn v17)).b 0 (-1))]).length) (pp (xS (v3.length + 2) (Ze (Zz v3) 0 v3.length 3 [(ii (rd l0 (tn v17)).a), (ii 0), (ii 1), (ii (rd l0 (tn v17)).b), (ii 0), (ii (-1))]) (Zz (v3 ++ [(R3.mk (rd l0 (tn v17)).a 0 1), (R3.mk (rd l0 (tn v17)).b 0 (-1))]))) (pp (pp (xF (Ze (Zz v3) 0 v3.length 3 [(ii (rd l0 (tn v17)).a), (ii 0), (ii 1), (ii (rd l0 (tn v17)).b), (ii 0), (ii (-1))])) nn) (ww o1 (ww o0 (tt k0 nn))))))))))) (fun k0 => (lo fun o0 => (lo fun o1 => (lo fun o2 => (sl Kp 92 [(110, 2, Zz ([] : List R2))] ⟨[9, 1, 2, 4, 5, 6, 3, 7, 10], [], z9c, z9d⟩ ⟨[(5, .len (z3w (cvT v3)).length)], (kpB 6 [.cells [.grow 8 2], .rowed 3 (z3w (cvT v3)).length (Zz (z3w (cvT v3))), .keep]), []⟩ [false, true, false, false] (pp (xL v3.length (z3w (cvT v3)).length (by first | exact y5z _ | exact Uv rfl)) (pp (xL v3.length (z3w (cvT v3)).length (by first | exact y5z _ | exact Uv rfl)) (pp (xS v3.length (Zz (z3w (cvT v3))) (Zz (z3w (cvT v3)))) (pp (fl (z3w (cvT v3)) (fl ([] : List R2) nn)) (pp (pp (xG (Nat.beq 3 3)) (pp (xG (Nat.beq 3 3)) (pp (xG (Nat.beq 0 0)) (pp (pp (xG (decide (v3.length = v3.length))) (pp (xr v3) (xG (decide (v3.length < 4611686018427387904))))) (xG (y4p (cvT v3))))))) (tt k0 nn))))))))))))
 | .h2 v5 v6 v7 aA cG aB aC aE => (lb (fun k0 => (lo fun aH => (lo fun bG => (lb (fun k1 => (lb (fun k2 => (sl Kp 62 [] ⟨(List.range 9), [], z9c, z9d⟩ ⟨[], [], []⟩ (trs 5 [false, false, false]) (pp (fl v5 (fl aE nn)) (ww k2 (tt k1 (ww bG (ww aH (tt k0 nn)))))))) (fun k2 => (lb (fun k3 => (sl Kp 62 [] ⟨(List.range 9), [], z9c, z9d⟩ ⟨[], [], []⟩ (trs 6 [false, true, false, false]) (pp (fl v5 (fl aE nn)) (ww k3 (tt k1 (ww bG (ww aH (tt k0 nn)))))))) (fun k3 => trivial))))) (fun k1 => (lb (fun k2 => (lb (fun k3 => (sl Kp 62 [] ⟨(List.range 9), [], z9c, z9d⟩ ⟨[], [], []⟩ [true, false, false, false, true, false, false, false] (pp (fl v5 (fl aE nn)) (ww k3 (tt k2 (tt k1 (ww bG (ww aH (tt k0 nn))))))))) (fun k3 => (lb (fun k4 => (sl Kp 62 [] ⟨(List.range 9), [], z9c, z9d⟩ ⟨[], [], []⟩ [true, false, false, false, true, true, false, true, false, false] (pp (fl v5 (fl aE nn)) (ww k4 (tt k2 (tt k1 (ww bG (ww aH (tt k0 nn))))))))) (fun k4 => trivial))))) (fun k2 => (lb (fun k3 => (lo fun cD => (lo fun dO => (lb (fun k4 => (lb (fun k5 => (sl Kp 81 [] ⟨(List.range 9), [], z9c, z9d⟩ ⟨[], (kpB 6 [.cells [.len (aE.set (0 + (tn (wr ((aE.length : Int) - 1)))) (R2.mk (rd aE (0 + (tn (wr ((aE.length : Int) - 1))))).a (rd v5 (0 + (tn v7))).a)).length], .keep, .rowed 2 (aE.set (0 + (tn (wr ((aE.length : Int) - 1)))) (R2.mk (rd aE (0 + (tn (wr ((aE.length : Int) - 1))))).a (rd v5 (0 + (tn v7))).a)).length (Zz (aE.set (0 + (tn (wr ((aE.length : Int) - 1)))) (R2.mk (rd aE (0 + (tn (wr ((aE.length : Int) - 1))))).a (rd v5 (0 + (tn v7))).a)))]), []⟩ [true, false, false, false, false, true, true, true, true, true, true, true, true, true, false, false, false] (pp (xL aE.length (aE.set (0 + (tn (wr ((aE.length : Int) - 1)))) (R2.mk (rd aE (0 + (tn (wr ((aE.length : Int) - 1))))).a (rd v5 (0 + (tn v7))).a)).length) (pp (xL aE.length (aE.set (0 + (tn (wr ((aE.length : Int) - 1)))) (R2.mk (rd aE (0 + (tn (wr ((aE.length : Int) - 1))))).a (rd v5 (0 + (tn v7))).a)).length) (pp (xS aE.length (Xf (Zz aE) (0 + (tn (wr ((aE.length : Int) - 1)))) 1 [(ii (rd v5 (0 + (tn v7))).a)]) (Zz (aE.set (0 + (tn (wr ((aE.length : Int) - 1)))) (R2.mk (rd aE (0 + (tn (wr ((aE.length : Int) - 1))))).a (rd v5 (0 + (tn v7))).a)))) (pp (fl v5 (pp (xF (Xf (Zz aE) (0 + (tn (wr ((aE.length : Int) - 1)))) 1 [(ii (rd v5 (0 + (tn v7))).a)])) nn)) (ww k5 (ww dO (ww cD (tt k4 (ww dO (ww cD (tt k3 (tt k2 (tt k1 (ww bG (ww aH (tt k0 nn)))))))))))))))))) (fun k5 => (lb (fun k6 => (sl Kp 81 [] ⟨(List.range 9), [], z9c, z9d⟩ ⟨[], (kpB 6 [.cells [.len (aE.set (0 + (tn (wr ((aE.length : Int) - 1)))) (R2.mk (rd aE (0 + (tn (wr ((aE.length : Int) - 1))))).a (rd v5 (0 + (tn v7))).a)).length], .keep, .rowed 2 (aE.set (0 + (tn (wr ((aE.length : Int) - 1)))) (R2.mk (rd aE (0 + (tn (wr ((aE.length : Int) - 1))))).a (rd v5 (0 + (tn v7))).a)).length (Zz (aE.set (0 + (tn (wr ((aE.length : Int) - 1)))) (R2.mk (rd aE (0 + (tn (wr ((aE.length : Int) - 1))))).a (rd v5 (0 + (tn v7))).a)))]), []⟩ [true, false, false, false, false, true, true, true, true, true, true, true, true, true, true, false, true, false, false] (pp (xL aE.length (aE.set (0 + (tn (wr ((aE.length : Int) - 1)))) (R2.mk (rd aE (0 + (tn (wr ((aE.length : Int) - 1))))).a (rd v5 (0 + (tn v7))).a)).length) (pp (xL aE.length (aE.set (0 + (tn (wr ((aE.length : Int) - 1)))) (R2.mk (rd aE (0 + (tn (wr ((aE.length : Int) - 1))))).a (rd v5 (0 + (tn v7))).a)).length) (pp (xS aE.length (Xf (Zz aE) (0 + (tn (wr ((aE.length : Int) - 1)))) 1 [(ii (rd v5 (0 + (tn v7))).a)]) (Zz (aE.set (0 + (tn (wr ((aE.length : Int) - 1)))) (R2.mk (rd aE (0 + (tn (wr ((aE.length : Int) - 1))))).a (rd v5 (0 + (tn v7))).a)))) (pp (fl v5 (pp (xF (Xf (Zz aE) (0 + (tn (wr ((aE.length : Int) - 1)))) 1 [(ii (rd v5 (0 + (tn v7))).a)])) nn)) (ww k6 (ww dO (ww cD (tt k4 (ww dO (ww cD (tt k3 (tt k2 (tt k1 (ww bG (ww aH (tt k0 nn)))))))))))))))))) (fun k6 => trivial))))) (fun k4 => (lo fun dP => (lb (fun k5 => (sl Kp 81 [] ⟨[0, 1, 2, 3, 4, 5, 6, 7, 12], [], z9c, z9d⟩ ⟨[], (kpB 6 [.cells [.len (aE ++ [(R2.mk aB (rd v5 (0 + (tn v7))).a)]).length], .keep, .rowed 2 (aE ++ [(R2.mk aB (rd v5 (0 + (tn v7))).a)]).length (Zz (aE ++ [(R2.mk aB (rd v5 (0 + (tn v7))).a)]))]), []⟩ [true, false, false, false, false, true, true, true, true, true, true, true, true, false, false, false, false] (pp (xL (aE.length + 1) (aE ++ [(R2.mk aB (rd v5 (0 + (tn v7))).a)]).length) (pp (xL (aE.length + 1) (aE ++ [(R2.mk aB (rd v5 (0 + (tn v7))).a)]).length) (pp (xS (aE.length + 1) (Ze (Zz aE) 0 aE.length 2 [(ii aB), (ii (rd v5 (0 + (tn v7))).a)]) (Zz (aE ++ [(R2.mk aB (rd v5 (0 + (tn v7))).a)]))) (pp (fl v5 (pp (xF (Ze (Zz aE) 0 aE.length 2 [(ii aB), (ii (rd v5 (0 + (tn v7))).a)])) nn)) (ww k5 (ww dP (tt k4 (ww dO (ww cD (tt k3 (tt k2 (tt k1 (ww bG (ww aH (tt k0 nn))))))))))))))))) (fun k5 => (lb (fun k6 => (sl Kp 81 [] ⟨[0, 1, 2, 3, 4, 5, 6, 7, 12], [], z9c, z9d⟩ ⟨[], (kpB 6 [.cells [.len (aE ++ [(R2.mk aB (rd v5 (0 + (tn v7))).a)]).length], .keep, .rowed 2 (aE ++ [(R2.mk aB (rd v5 (0 + (tn v7))).a)]).length (Zz (aE ++ [(R2.mk aB (rd v5 (0 + (tn v7))).a)]))]), []⟩ [true, false, false, false, false, true, true, true, true, true, true, true, true, false, true, false, true, false, false] (pp (xL (aE.length + 1) (aE ++ [(R2.mk aB (rd v5 (0 + (tn v7))).a)]).length) (pp (xL (aE.length + 1) (aE ++ [(R2.mk aB (rd v5 (0 + (tn v7))).a)]).length) (pp (xS (aE.length + 1) (Ze (Zz aE) 0 aE.length 2 [(ii aB), (ii (rd v5 (0 + (tn v7))).a)]) (Zz (aE ++ [(R2.mk aB (rd v5 (0 + (tn v7))).a)]))) (pp (fl v5 (pp (xF (Ze (Zz aE) 0 aE.length 2 [(ii aB), (ii (rd v5 (0 + (tn v7))).a)])) nn)) (ww k6 (ww dP (tt k4 (ww dO (ww cD (tt k3 (tt k2 (tt k1 (ww bG (ww aH (tt k0 nn))))))))))))))))) (fun k6 => trivial)))))))))) (fun k3 => (lo fun cD => (lb (fun k4 => (sl Kp 81 [] ⟨[0, 1, 2, 3, 4, 5, 6, 7, 12], [], z9c, z9d⟩ ⟨[], (kpB 6 [.cells [.len (aE ++ [(R2.mk aB (rd v5 (0 + (tn v7))).a)]).length], .keep, .rowed 2 (aE ++ [(R2.mk aB (rd v5 (0 + (tn v7))).a)]).length (Zz (aE ++ [(R2.mk aB (rd v5 (0 + (tn v7))).a)]))]), []⟩ [true, false, false, false, false, false, false, false, false, false, false, false, false, false, false, false, false] (pp (xL (aE.length + 1) (aE ++ [(R2.mk aB (rd v5 (0 + (tn v7))).a)]).length) (pp (xL (aE.length + 1) (aE ++ [(R2.mk aB (rd v5 (0 + (tn v7))).a)]).length) (pp (xS (aE.length + 1) (Ze (Zz aE) 0 aE.length 2 [(ii aB), (ii (rd v5 (0 + (tn v7))).a)]) (Zz (aE ++ [(R2.mk aB (rd v5 (0 + (tn v7))).a)]))) (pp (fl v5 (pp (xF (Ze (Zz aE) 0 aE.length 2 [(ii aB), (ii (rd v5 (0 + (tn v7))).a)])) nn)) (ww k4 (ww cD (tt k3 (tt k2 (tt k1 (ww bG (ww aH (tt k0 nn)))))))))))))) (fun k4 => (lb (fun k5 => (sl Kp 81 [] ⟨[0, 1, 2, 3, 4, 5, 6, 7, 12], [], z9c, z9d⟩ ⟨[], (kpB 6 [.cells [.len (aE ++ [(R2.mk aB (rd v5 (0 + (tn v7))).a)]).length], .keep, .rowed 2 (aE ++ [(R2.mk aB (rd v5 (0 + (tn v7))).a)]).length (Zz (aE ++ [(R2.mk aB (rd v5 (0 + (tn v7))).a)]))]), []⟩ [true, false, false, false, false, false, false, false, false, false, false, false, false, false, true, false, true, false, false] (pp (xL (aE.length + 1) (aE ++ [(R2.mk aB (rd v5 (0 + (tn v7))).a)]).length) (pp (xL (aE.length + 1) (aE ++ [(R2.mk aB (rd v5 (0 + (tn v7))).a)]).length) (pp (xS (aE.length + 1) (Ze (Zz aE) 0 aE.length 2 [(ii aB), (ii (rd v5 (0 + (tn v7))).a)]) (Zz (aE ++ [(R2.mk aB (rd v5 (0 + (tn v7))).a)]))) (pp (fl v5 (pp (xF (Ze (Zz aE) 0 aE.length 2 [(ii aB), (ii (rd v5 (0 + (tn v7))).a)])) nn)) (ww k5 (ww cD (tt k3 (tt k2 (tt k1 (ww bG (ww aH (tt k0 nn)))))))))))))) (fun k5 => trivial)))))))))))))) (fun k0 => (lr 11 3 [1, 1, 1, 1, 1, 1, 0] 1 77 [(2, (.dat aE.length (Zz aE))), (3, (ii 0))] (sl Kp 19 [] ⟨[], [8], [some [2, 3]], []⟩ ⟨[(2, .frz aE.length aE.length (Zz aE) (Zz aE))], [], []⟩ [false] (pp (xZ (z4w 2 2 0 aE.length aE.length (Zz aE)) aE.length (Zz aE)) (pp (xL aE.length aE.length) (pp (xS aE.length (Zz aE) (Zz aE)) (pp (fl aE nn) (tt k0 nn)))))))))
theorem y7s (l0 : List R2) : Wj prog (Zy prog 174) (spmC l0) (Zf prog 174 [(.dat l0.length (Zz l0))] true []) (z7s l0) := (lb (fun k0 => (lr 11 174 [1, 0, 1, 0, 0] 1 77 [(2, .nils), (3, (ii 4))] (sl Kp 18 [] ⟨[], [], [some [2, 3]], []⟩ ⟨[], [], []⟩ [true] (tt k0 nn)))) (fun k0 => (sl Kp 41 [] ⟨[], [], spmN0, spmM0⟩ ⟨[], [], []⟩ [false] (tt k0 nn))))
theorem w2b (l0 : List R2) (n : Nat) (vs : List AVal) (h : Yv (Vn l0) n (z7s l0) = .ret vs) : Jo prog (Zy prog 174) (Zf prog 174 [(.dat l0.length (Zz l0))] true []) vs := by
 have := Zo (x3o l0) n _ (y7s l0)
 rwa [h] at this
end Go.Am
namespace Go.Am
open Go.Proofs
def y1d (s : R2) : Bool := decide (s.a < s.b) && (decide (s.a ≥ -1000000) && decide (s.b ≤ 1000000))
def Jx (l : List R2) : List R3 := l.flatMap fun s => [⟨s.a, 0, 1⟩, ⟨s.b, 0, -1⟩]
def Qb (out : List R2) (last : Int) (inn : Bool) (at' : Int) : List R2 :=
 bif !inn then out else bif last == at' then out else
 bif decide (0 < out.length) && ((rd out (out.length - 1)).b == last) then out.set (out.length - 1) ⟨(rd out (out.length - 1)).a, at'⟩ else out ++ [⟨last, at'⟩]
def swF : List R3 → Int → Int → Bool → List R2 → List R2
 | [], _, _, _, out => out
 | e :: r, o, last, inn, out => swF r (o + e.c) e.a (decide (o + e.c > 0)) (Qb out last inn e.a)
def swV (l : List R2) : List R2 := swF (z3w (Jx l)) 0 0 false []
def Wy (l : List R2) : List R2 := bif decide (400 < l.length) then [] else bif l.all y1d then swV l else []
def w7d (l : List R2) : Int := bif decide (400 < l.length) then 4 else bif l.all y1d then 0 else 8
def z9b (l : List R2) : Bool := true
def y4w (l : List R2) : List AVal := bif decide (400 < l.length) then [.nils, .int .i64 4] else bif l.all y1d then [.dat (swV l).length (Zz (swV l)), .int .i64 0] else [.nils, .int .i64 8]
theorem z1z (l : List R2) : (Jx l).length = 2 * l.length := by
 induction l with
 | nil => rfl
 | cons r l ih => show (_ :: _ :: Jx l).length = _; simp only [List.length_cons, ih]; omega
theorem z5i (out : List R2) (last : Int) (inn : Bool) (a : Int) : (Qb out last inn a).length ≤ out.length + 1 := by
 unfold Qb
 cases inn <;> simp only [Bool.not_true, Bool.not_false, cond_true, cond_false]
 ·omega
 ·cases (last == a) <;> simp only [cond_true, cond_false]
  ·cases (decide (0 < out.length) && ((rd out (out.length - 1)).b == last)) <;> simp
  ·omega
theorem z7r (e : R3) (r : List R3) (o last : Int) (inn : Bool) (out : List R2) : swF (e :: r) o last inn out = swF r (o + e.c) e.a (decide (o + e.c > 0)) (Qb out last inn e.a) := rfl
theorem v2q {a : Int} (k : Nat) (h : a = (k : Int)) : decide (a = Int.ofNat k) = true := decide_eq_true h
section
variable (l : List R2) (hl : l.length ≤ 400)
include hl
theorem w7a (L : List R3) (hL : L.length ≤ 800) (hE : ∀ i, i < L.length → (rd L i).b = 0 ∧ ((rd L i).c = 1 ∨ (rd L i).c = -1)) : ∀ (k i : Nat) (o last : Int) (inn : Bool) (out : List R2), i + k = L.length → -(i : Int) ≤ o → o ≤ i → out.length ≤ i →
  ∃ n, Yv (Vn l) n (.to (.h2 L (L.length : Int) (i : Int) o 0 last inn out)) = .ret [.dat (swF (L.drop i) o last inn out).length (Zz (swF (L.drop i) o last inn out)), .int .i64 0]
 | 0, i, o, last, inn, out, h, ho1, ho2, hout => by
  have _uhl := hl
  refine ⟨1, ?_⟩
  rw [Zv, List.drop_eq_nil_of_le (by omega)]
  simp (disch := omega) only [Vn, Yz, cond_false, Zm, swF]
 | k + 1, i, o, last, inn, out, h, ho1, ho2, hout => by
  obtain ⟨hb, hc⟩ := hE i (by omega)
  have hcl := z5i out last inn (rd L i).a
  obtain ⟨n, hn⟩ := w7a L hL hE k (i + 1) (o + (rd L i).c) (rd L i).a (decide (o + (rd L i).c > 0)) (Qb out last inn (rd L i).a) (by omega) (by rcases hc with hc | hc <;> omega) (by rcases hc with hc | hc <;> omega) (by omega)
  refine ⟨n + 1, ?_⟩
  rw [Yf (show i < L.length by omega), Zv]
  have hf : ∀ b, x2s b (decide ((0 : Int) > 0)) = b := fun b => rfl
  have hw : IntKind.wrap .i64 (o + (rd L i).c) = o + (rd L i).c := Zq (by rcases hc with hc | hc <;> omega)
  rw [z7r]
  have hf' : ∀ b, x2s b false = b := fun b => rfl
  have hz := v2q 0 hb
  unfold Qb at hn ⊢
  cases inn with
  | false =>
   simp only [Bool.not_false, cond_true] at hn ⊢
   simp (disch := omega) only [Vn, Bool.not_false, hz, hw, hf, hf', Zs, Zt, Yq, Zq, Zx, Zj, Nat.zero_add, Bool.and_true, cond_true]
   exact hn
  | true =>
   simp only [Bool.not_true, cond_false] at hn ⊢
   rcases Yg (last == (rd L i).a) with q | q
   ·rw [q] at hn ⊢
    simp only [cond_true] at hn ⊢
    simp (disch := omega) only [Vn, Bool.not_true, q, hz, hw, hf, hf', Zs, Zt, Yq, Zq, Zx, Zj, Nat.zero_add, Bool.and_true, cond_true, cond_false]
    exact hn
   ·rw [q] at hn ⊢
    simp only [cond_false] at hn ⊢
    by_cases h0 : 0 < out.length
    ·rw [decide_eq_true h0, Bool.true_and] at hn ⊢
     rcases Yg ((rd out (out.length - 1)).b == last) with q2 | q2
     ·rw [q2] at hn ⊢
      simp only [cond_true] at hn ⊢
      simp (disch := omega) only [Vn, Bool.not_true, q, q2, hz, hw, hf, hf', Zs, Yr, Zt, Yq, Zq, Zx, Zj, Zn, Nat.zero_add, Bool.and_true, cond_true, cond_false]
      exact hn
     ·rw [q2] at hn ⊢
      simp only [cond_false] at hn ⊢
      simp (disch := omega) only [Vn, Bool.not_true, q, q2, hz, hw, hf, hf', Zs, Yr, Zt, Yq, Yp, Zh, Ya, decide_true, Zq, Zx, Zj, Zn, Nat.zero_add, Bool.and_true, Bool.true_and, cond_true, cond_false]
      exact hn
    ·rw [decide_eq_false h0, Bool.false_and] at hn ⊢
     simp only [cond_false] at hn ⊢
     simp (disch := omega) only [Vn, Bool.not_true, q, hz, hw, hf, hf', Zs, Xk, Zt, Yq, Yp, Zh, Ya, decide_true, Zq, Zx, Zj, Nat.zero_add, Bool.and_true, Bool.true_and, cond_true, cond_false]
     exact hn
theorem w0q (h : l.all y1d = true) : ∀ e ∈ Jx l, bnd3 e = true ∧ e.b = 0 ∧ (e.c = 1 ∨ e.c = -1) := by
 have _uhl := hl
 intro e he
 obtain ⟨s, hs, h1⟩ := List.mem_flatMap.1 he
 have hv := List.all_eq_true.1 h s hs
 simp only [y1d, Bool.and_eq_true, decide_eq_true_eq] at hv
 simp only [List.mem_cons, List.not_mem_nil, or_false] at h1
 rcases h1 with rfl | rfl
 ·exact ⟨decide_eq_true (by simp only; omega), rfl, .inl rfl⟩
 ·exact ⟨decide_eq_true (by simp only; omega), rfl, .inr rfl⟩
theorem w7b (hv : l.all y1d = true) : ∀ (k i : Nat) (acc : List R3), i + k = l.length → acc = Jx (l.take i) → ∃ n, Yv (Vn l) n (.to (.h1 acc (i : Int))) = .ret [.dat (swV l).length (Zz (swV l)), .int .i64 0]
 | 0, i, acc, h, ha => by
  have e : acc = Jx l := by rw [ha, List.take_of_length_le (by omega)]
  subst e
  have hle := z1z l
  have eY := w0q l hl hv
  have hb : y4p (Jx l) = true := List.all_eq_true.2 fun e he => (eY e he).1
  obtain ⟨hp, _⟩ := Qn (Jx l) hb
  have hpl := hp.length_eq
  obtain ⟨n, hn⟩ := w7a l hl (z3w (Jx l)) (by omega) (fun i hi => by
   rw [Ww hi]
   exact (eY _ (hp.mem_iff.1 (List.getElem_mem hi))).2) (z3w (Jx l)).length 0 0 0 false [] (Nat.zero_add _) (by omega) (by omega) (Nat.zero_le _)
  refine ⟨n + 1, ?_⟩
  rw [Zv]
  simp (disch := omega) only [Vn, Zb, Zk, hb, Yz, Yq, Yp, decide_true, cond_true, cond_false]
  rw [← hpl]
  simp only [z0y, List.drop_zero] at hn
  exact hn
 | k + 1, i, acc, h, ha => by
  have hle := z1z (l.take i)
  have fK : acc.length ≤ 2 * i := by rw [ha, hle]; simp; omega
  obtain ⟨n, hn⟩ := w7b hv k (i + 1) (acc ++ Jx [rd l i]) (by omega) (by
   rw [ha, List.take_add_one]
   have : l[i]? = some (rd l i) := by rw [Ww (show i < l.length by omega)]; exact List.getElem?_eq_getElem _
   rw [this]
   simp [Jx])
  refine ⟨n + 1, ?_⟩
  rw [Zv]
  simp (disch := omega) only [Vn, Zs, Zt, Yx, Yp, Zh, Ya, decide_true, Zq, Zx, Zj, Nat.zero_add, Bool.and_true, Bool.true_and, cond_true]
  exact hn
theorem w7c : ∀ (k i : Nat), i + k = l.length → (∀ s ∈ l.take i, y1d s = true) → ∃ n, Yv (Vn l) n (.to (.h0 (i : Int))) = .ret (bif l.all y1d then [.dat (swV l).length (Zz (swV l)), .int .i64 0] else [.nils, .int .i64 8])
 | 0, i, h, ht => by
  have hv : l.all y1d = true := List.all_eq_true.2 fun s hs => ht s (by rw [List.take_of_length_le (by omega)]; exact hs)
  obtain ⟨n, hn⟩ := w7b l hl hv l.length 0 [] (Nat.zero_add _) rfl
  refine ⟨n + 1, ?_⟩
  rw [Zv, hv, cond_true]
  simp (disch := omega) only [Vn, Yz, cond_false]
  exact hn
 | k + 1, i, h, ht => by
  have hi : i < l.length := by omega
  rcases Yg (y1d (rd l i)) with q | q
  ·obtain ⟨n, hn⟩ := w7c k (i + 1) (by omega) (fun s hs => by
    rw [List.take_add_one] at hs
    have e : l[i]? = some (rd l i) := by rw [Ww hi]; exact List.getElem?_eq_getElem _
    rw [e] at hs
    simp only [Option.toList_some, List.mem_append, List.mem_singleton] at hs
    rcases hs with hs | rfl
    ·exact ht s hs
    ·exact q)
   refine ⟨n + 1, ?_⟩
   rw [Zv]
   simp only [y1d, Bool.and_eq_true, decide_eq_true_eq] at q
   simp (disch := omega) only [Vn, Zs, Xa, w5x, Zt, Zq, Zx, Zj, Bool.not_true, Bool.and_true, cond_true, cond_false]
   exact hn
  ·have hv : l.all y1d = false := Bool.eq_false_iff.2 fun e => by
    have := List.all_eq_true.1 e (rd l i) (by rw [Ww hi]; exact List.getElem_mem hi)
    rw [this] at q; cases q
   refine ⟨1, ?_⟩
   rw [Zv, hv, cond_false]
   unfold y1d at q
   rcases Yg (decide ((rd l i).a < (rd l i).b)) with q1 | q1 <;> rcases Yg (decide ((rd l i).a ≥ -1000000)) with q2 | q2 <;> rcases Yg (decide ((rd l i).b ≤ 1000000)) with q3 | q3 <;>
    rw [q1, q2, q3] at q <;> first
    | (exfalso; revert q; decide)
    | simp (disch := omega) only [Vn, q1, q2, q3, Zs, w5x, Zt, Zq, Zx, Zj, Bool.not_true, Bool.not_false, Bool.and_true, cond_true, cond_false, Zm]
end
theorem v0x (l : List R2) : ∃ n, Yv (Vn l) n (z7s l) = .ret (y4w l) := by
 unfold z7s y4w
 by_cases h : 400 < l.length
 ·refine ⟨0, ?_⟩
  rw [decide_eq_true h, Yr (show (l.length : Int) > 400 by omega)]; rfl
 ·obtain ⟨n, hn⟩ := w7c l (by omega) l.length 0 (Nat.zero_add _) (fun s hs => by simp at hs)
  refine ⟨n, ?_⟩
  rw [decide_eq_false h, Xk (show ¬ (l.length : Int) > 400 by omega), cond_false, cond_false]
  exact hn
end Go.Am
namespace Go.Am
open Go.Proofs.Tryz
open Go.Proofs
def fSpm : List AVal → Option (AVal × Bool)
 | [a1] => match asL R2 a1 with
  | some (L1, g1, n1) => some (.tup [.dat (Wy L1).length (Zz (Wy L1)), .int .i64 (w7d L1)], isT R2 n1 g1 && z9b L1)
  | _ => none
 | _ => none
theorem v3w {S : Specs} (hS : Zu prog S) : Zu prog (S.with y5u fSpm) := by
 refine w9v hS (by kernel_rfl) fun args v h => ?_
 unfold fSpm at h
 split at h
 ·rename_i a1
  split at h
  ·rename_i L1 g1 n1 e1
   simp only [Option.some.injEq, Prod.mk.injEq, Bool.and_eq_true] at h
   obtain ⟨rfl, ho1, hw⟩ := h
   obtain ⟨N, hN⟩ := v0x L1
   refine ⟨_, y4w L1, (.cons (Yh e1 ho1) .nil), ?_, w2b L1 N _ hN, 3, ?_⟩
   ·unfold Wy w7d y4w
    cases decide (400 < L1.length) <;> simp only [cond_true, cond_false]
    ·cases L1.all y1d <;> simp only [cond_true, cond_false]
     ·exact fun ρ u hu => z3y (.cons (z0u R2) (RLe.refl _)) ρ u hu
     ·exact fun ρ u hu => hu
    ·exact fun ρ u hu => z3y (.cons (z0u R2) (RLe.refl _)) ρ u hu
   ·unfold y4w
    cases decide (400 < L1.length) <;> simp only [cond_true, cond_false]
    ·cases L1.all y1d <;> rfl
    ·rfl
  ·cases h
 ·cases h
def T6 : Specs := T5.with y5u fSpm
theorem Jz : Zu prog T6 := v3w Kp
end Go.Am
namespace Go.Am
open Go.Proofs Go.Sort Go.Shelf Go.RowKit Go.Lib
theorem x0x {γ : Type} (a b : Bool) (x y : γ) : (bif a && b then x else y) = bif a then (bif b then x else y) else y := by cases a <;> rfl
theorem y4a {γ : Type} (a : Bool) (x y : γ) : (bif !a then x else y) = bif a then y else x := by cases a <;> rfl
structure Dim (α β : Type) where
 lo : α → Int
 hi : α → Int
 pr : α → β
 put : Int → Int → β → α
 ext : Int → α → α
 mak : List β → List β
 same : List β → List β → Bool
structure Sw (α β : Type) where
 out : List α
 last : List β
 first : Nat
 fin : Int
def z5g (zs : List Int) : List Int := compact (Yo zs)
theorem z6e (zs : List Int) : w6q (Yo zs) = (z5g zs).length := rfl
theorem Wb (zs : List Int) : (Yo zs).length = zs.length := List.length_mergeSort zs
theorem z5f (zs : List Int) : (z5g zs).length ≤ zs.length := by
 have := compact_length_le (Yo zs)
 rw [Wb] at this
 exact this
theorem Jv (zs : List Int) (i : Nat) (h : i < (z5g zs).length) : rd (Xv (Yo zs)) i = rd (z5g zs) i := by
 change i < (compact (Yo zs)).length at h
 show rd (compact (Yo zs) ++ _) i = rd (compact (Yo zs)) i
 rw [Ww (by rw [List.length_append]; exact Nat.lt_add_right _ h), Ww h, List.getElem_append_left h]
theorem Kg (zs : List Int) : Za zs.length (cOf (Zz (Yo zs))) = Yo zs := by
 have := Uu (Yo zs)
 rw [Wb] at this
 exact this
namespace Dim
variable {α β : Type} (D : Dim α β) (l : List α)
def ends : List Int := l.flatMap fun r => [D.lo r, D.hi r]
def cuts : List Int := z5g (D.ends l)
def inn (x : Int) : List β := (l.filter fun r => decide (D.lo r ≤ x) && decide (x < D.hi r)).map D.pr
def sec (x : Int) : List β := D.mak (D.inn l x)
def grow (out : List α) (k : Nat) (x : Int) : List α := out.take k ++ (out.drop k).map (D.ext x)
def one (x x' : Int) (s : Sw α β) : Sw α β :=
 bif decide (0 < (D.sec l x).length) && ((s.fin == x) && D.same s.last (D.sec l x)) then ⟨D.grow s.out s.first x', s.last, s.first, x'⟩
 else ⟨s.out ++ (D.sec l x).map (D.put x x'), D.sec l x, s.out.length, x'⟩
def go : Nat → Nat → Sw α β → Sw α β
 | 0, _, s => s
 | k + 1, i, s => go k (i + 1) (D.one l (rd (D.cuts l) i) (rd (D.cuts l) (i + 1)) s)
def out : List α := (D.go l ((D.cuts l).length - 1) 0 ⟨[], [], 0, 0⟩).out
theorem ends_length : (D.ends l).length = 2 * l.length := by
 induction l with
 | nil => rfl
 | cons r l ih => show (_ :: _ :: D.ends l).length = _; simp only [List.length_cons, ih]; omega
theorem cuts_length : (D.cuts l).length ≤ 2 * l.length := by
 have := z5f (D.ends l)
 rw [D.ends_length] at this
 exact this
theorem ends_append (m : List α) : D.ends (l ++ m) = D.ends l ++ D.ends m := by simp [ends]
theorem inn_append (m : List α) (x : Int) : D.inn (l ++ m) x = D.inn l x ++ D.inn m x := by simp [inn]
theorem inn_length (x : Int) : (D.inn l x).length ≤ l.length := by simpa [inn] using List.length_filter_le _ l
theorem inn_t (r : α) (x : Int) (h1 : D.lo r ≤ x) (h2 : x < D.hi r) : D.inn [r] x = [D.pr r] := by simp [inn, h1, h2]
theorem inn_f1 (r : α) (x : Int) (h1 : ¬ D.lo r ≤ x) : D.inn [r] x = [] := by simp [inn, h1]
theorem inn_f2 (r : α) (x : Int) (h1 : ¬ x < D.hi r) : D.inn [r] x = [] := by simp [inn, h1]
theorem grow_nil (out : List α) (k : Nat) (x : Int) (h : out.length ≤ k) : D.grow out k x = out := by
 unfold grow; rw [List.drop_eq_nil_of_le h, List.map_nil, List.append_nil, List.take_of_length_le h]
theorem grow_length (out : List α) (k : Nat) (x : Int) : (D.grow out k x).length = out.length := by
 unfold grow; simp; omega
theorem grow_set [Xy α] (out : List α) (j : Nat) (x : Int) (h : j < out.length) : D.grow (out.set j (D.ext x (rd out j))) (j + 1) x = D.grow out j x := by
 unfold grow
 rw [Yf h, List.map_cons]
 have e1 : (out.set j (D.ext x (rd out j))).take (j + 1) = out.take j ++ [D.ext x (rd out j)] := by
  apply List.ext_getElem
  ·simp; omega
  ·intro n h1 h2
   simp only [List.getElem_take, List.getElem_set]
   by_cases e : j = n
   ·subst e
    rw [if_pos rfl, List.getElem_append_right (by simp only [List.length_take]; omega)]
    simp
   ·rw [if_neg e, List.getElem_append_left (by simp at h1 ⊢; omega), List.getElem_take]
 have e2 : (out.set j (D.ext x (rd out j))).drop (j + 1) = out.drop (j + 1) := by
  rw [List.drop_set]; rw [if_pos (by omega)]
 rw [e1, e2, List.append_assoc]; rfl
theorem one_length (x x' : Int) (s : Sw α β) : (D.one l x x' s).out.length ≤ s.out.length + (D.sec l x).length := by
 unfold one
 cases (decide (0 < (D.sec l x).length) && ((s.fin == x) && D.same s.last (D.sec l x))) <;> simp [grow_length]
end Dim
end Go.Am
namespace Go.Am
open Go.Proofs.Tryz
open Go.Proofs
inductive vl4S where
def vl4C (aS : Int) (aR : Int) (aO : Int) (bA : Int) : vl4S → Cfg
 := nofun
def y7l (aS : Int) (aR : Int) (aO : Int) (bA : Int) : vl4S → Xd vl4S
 := nofun
def z7p (aS : Int) (aR : Int) (aO : Int) (bA : Int) : Xd vl4S := (bif (decide (aS < aO)) then (bif (decide (aR < bA)) then (bif (decide (aS ≥ (-1000000))) then (bif (decide (aS ≤ 1000000)) then (bif (decide (aO ≥ (-1000000))) then (bif (decide (aO ≤ 1000000)) then (bif (decide (aR ≥ (-1000000))) then (bif (decide (aR ≤ 1000000)) then (bif (decide (bA ≥ (-1000000))) then (.ret [(.bool (decide (bA ≤ 1000000)))]) else (.ret [(.bool false)])) else (.ret [(.bool false)])) else (.ret [(.bool false)])) else (.ret [(.bool false)])) else (.ret [(.bool false)])) else (.ret [(.bool false)])) else (.ret [(.bool false)])) else (.ret [(.bool false)])) else (.ret [(.bool false)]))
theorem x3g (aS : Int) (aR : Int) (aO : Int) (bA : Int) : ∀ s, Wj prog (Zy prog 153) (vl4C aS aR aO bA) (vl4C aS aR aO bA s) (y7l aS aR aO bA s)
 := nofun
theorem y7m (aS : Int) (aR : Int) (aO : Int) (bA : Int) : Wj prog (Zy prog 153) (vl4C aS aR aO bA) (Zf prog 153 [(.agg [(.int .i64 aS), (.int .i64 aR), (.int .i64 aO), (.int .i64 bA)])] true []) (z7p aS aR aO bA) := (lb (fun k0 => (lb (fun k1 => (lb (fun k2 => (lb (fun k3 => (lb (fun k4 => (lb (fun k5 => (lb (fun k6 => (lb (fun k7 => (lb (fun k8 => (lr 35 3 [1, 1, 1, 1, 1, 1, 0] 1 15 [(2, (.bool (decide (bA ≤ 1000000))))] (sl Jz 101 [] ⟨[], [], [some [2]], []⟩ ⟨[], [], []⟩ (trs 25 []) (tt k8 (tt k7 (tt k6 (tt k5 (tt k4 (tt k3 (tt k2 (tt k1 (tt k0 nn)))))))))))) (fun k8 => (lr 35 3 [1, 1, 1, 1, 1, 1, 0] 1 15 [(2, (.bool false))] (sl Jz 101 [] ⟨[], [], [some [2]], []⟩ ⟨[], [], []⟩ (trs 23 [false, false]) (tt k8 (tt k7 (tt k6 (tt k5 (tt k4 (tt k3 (tt k2 (tt k1 (tt k0 nn)))))))))))))) (fun k7 => (lr 35 3 [1, 1, 1, 1, 1, 1, 0] 1 15 [(2, (.bool false))] (sl Jz 86 [] ⟨[], [], [some [2]], []⟩ ⟨[], [], []⟩ (trs 20 [false, false, false]) (tt k7 (tt k6 (tt k5 (tt k4 (tt k3 (tt k2 (tt k1 (tt k0 nn))))))))))))) (fun k6 => (lr 35 3 [1, 1, 1, 1, 1, 1, 0] 1 15 [(2, (.bool false))] (sl Jz 86 [] ⟨[], [], [some [2]], []⟩ ⟨[], [], []⟩ (trs 18 [false, false, false, false, false]) (tt k6 (tt k5 (tt k4 (tt k3 (tt k2 (tt k1 (tt k0 nn)))))))))))) (fun k5 => (lr 35 3 [1, 1, 1, 1, 1, 1, 0] 1 15 [(2, (.bool false))] (sl Jz 71 [] ⟨[], [], [some [2]], []⟩ ⟨[], [], []⟩ (trs 15 [false, false, false, false, false, false]) (tt k5 (tt k4 (tt k3 (tt k2 (tt k1 (tt k0 nn))))))))))) (fun k4 => (lr 35 3 [1, 1, 1, 1, 1, 1, 0] 1 15 [(2, (.bool false))] (sl Jz 71 [] ⟨[], [], [some [2]], []⟩ ⟨[], [], []⟩ (trs 13 [false, false, false, false, false, false, false, false]) (tt k4 (tt k3 (tt k2 (tt k1 (tt k0 nn)))))))))) (fun k3 => (lr 35 3 [1, 1, 1, 1, 1, 1, 0] 1 15 [(2, (.bool false))] (sl Jz 56 [] ⟨[], [], [some [2]], []⟩ ⟨[], [], []⟩ (trs 10 [false, false, false, false, false, false, false, false, false]) (tt k3 (tt k2 (tt k1 (tt k0 nn))))))))) (fun k2 => (lr 35 3 [1, 1, 1, 1, 1, 1, 0] 1 15 [(2, (.bool false))] (sl Jz 56 [] ⟨[], [], [some [2]], []⟩ ⟨[], [], []⟩ (trs 8 [false, false, false, false, false, false, false, false, false, false, false]) (tt k2 (tt k1 (tt k0 nn)))))))) (fun k1 => (lr 35 3 [1, 1, 1, 1, 1, 1, 0] 1 15 [(2, (.bool false))] (sl Jz 41 [] ⟨[], [], [some [2]], []⟩ ⟨[], [], []⟩ (trs 5 [false, false, false, false, false, false, false, false, false, false, false, false]) (tt k1 (tt k0 nn))))))) (fun k0 => (lr 35 3 [1, 1, 1, 1, 1, 1, 0] 1 15 [(2, (.bool false))] (sl Jz 41 [] ⟨[], [], [some [2]], []⟩ ⟨[], [], []⟩ [false, false, false, false, false, false, false, false, false, false, false, false, false, false, false, false, false] (tt k0 nn)))))
theorem w1y (aS : Int) (aR : Int) (aO : Int) (bA : Int) (n : Nat) (vs : List AVal) (h : Yv (y7l aS aR aO bA) n (z7p aS aR aO bA) = .ret vs) : Jo prog (Zy prog 153) (Zf prog 153 [(.agg [(.int .i64 aS), (.int .i64 aR), (.int .i64 aO), (.int .i64 bA)])] true []) vs := by
 have := Zo (x3g aS aR aO bA) n _ (y7m aS aR aO bA)
 rwa [h] at this
inductive madS where
 | h0 (v16 : Int) (aA : List Int)
 | h1 (v4 : Int) (aG : List R4) (cK : List R2) (cQ : Int) (cR : Int) (aV : Nat) (bI : List Int)
 | h2 (v4 : Int) (v38 : Int) (aG : List R4) (cK : List R2) (cQ : Int) (cR : Int) (aV : Nat) (bI : List Int) (aE : Int) (cW : Int) (aK : List R2)
 | h3 (v1 : Int) (v2 : Int) (v71 : List R2) (v72 : Int) (v73 : Int) (cI : List R2) (bD : Int) (aF : List R4) (bL : List R2) (bS : Int) (aV : Nat) (bI : List Int) (aE : List R2)
 | h4 (v2 : Int) (v8 : Int) (dB : Int) (cI : List R2) (bD : Int) (aF : List R4) (bL : List R2) (bS : Int) (cN : Int) (cT : Nat) (cZ : List Int) (aK : List R2)
def madC (l0 : List R4) : madS → Cfg
 | .h0 v16 aA => ⟨⟨34, 0, true⟩, none, (Zg prog 173 [1, 1, 0, 1, 0, 0, 1, 1, 0, 0, 1, 1, 0, 0] 0), none, (Zy prog 15), ⟨Yj [(1, (.ptr 0 0)), (3, (.ptr 2 0)), (8, (.sl 1 0 1 (.un 1))), (9, (ii 1)), (10, (ii 0)), (14, (.dat l0.length (Zz l0))), (15, (ii (l0.length : Int))), (16, (ii v16))], Vf [⟨[(.sl 1 0 1 (.un 1))], 173, none⟩, ⟨[(.dat l0.length (Zz l0))], 105, none⟩, ⟨[(.sla 4 1 0 aA.length (.un 1))], 47, none⟩, ⟨[.nils, .nils, (ii 0), (ii 0)], 188, none⟩, ⟨rows aA.length (Zz aA), 3, some ⟨1, aA.length, (Zz aA)⟩⟩] 0, 5, [], true⟩, [⟨⟨29, 0, true⟩, (Vv prog 154 [1, 1, 0, 0] 2), (Zg prog 154 [1, 1, 0, 0] 1), none, (Zy prog 77), Yj [(2, .nils), (3, (ii 0)), (4, (.ptr 3 0)), (9, (.sl 1 0 1 (.un 1)))]⟩], .leaf⟩
 | .h1 v4 aG cK cQ cR aV bI => ⟨⟨76, 0, true⟩, none, (Zg prog 186 [1, 0, 0] 0), none, [], ⟨Yj [(0, (.yld 0)), (1, (.ptr 2 0)), (2, (.ptr 4 0)), (4, (ii v4))], z4r [(1, ⟨[(.sla 6 4 0 aG.length (.un 4)), (.dat cK.length (Zz cK)), (ii cQ), (ii cR)], 188, none⟩), (2, ⟨[(.sla 3 1 0 aV (.un 1))], 47, none⟩), (3, ⟨rows bI.length (Zz bI), 3, some ⟨1, bI.length, (Zz bI)⟩⟩), (4, ⟨[(.sl 5 0 1 (.un 1))], 173, none⟩), (5, ⟨[(.dat l0.length (Zz l0))], 105, none⟩), (6, ⟨rows aG.length (Zz aG), 114, some ⟨4, aG.length, (Zz aG)⟩⟩)], 7, [], true⟩, [⟨⟨29, 0, true⟩, none, (.inRangeFunc 0 :: (Zg prog 154 [1, 1, 0, 1, 0] 1)), none, (Zy prog 77), Yj [(2, .nils), (3, (ii 0)), (4, (.ptr 1 0))]⟩], (z4t [(0, ⟨.ready, none, 29, Yj [(4, (.ptr 1 0))], [11], (Xn prog 154 [1, 1, 0, 1, 0, 0]), (Xn prog 154 [1, 1, 0, 1, 0, 1])⟩)])⟩
 | .h2 v4 v38 aG cK cQ cR aV bI aE cW aK => ⟨⟨76, 0, true⟩, none, (Zg prog 186 [1, 0, 0, 1, 0, 0, 1, 0, 1, 0, 0, 1, 1, 0, 0, 1, 1, 0, 0] 0), none, [], ⟨Yj [(0, (.yld 0)), (1, (.ptr 2 0)), (2, (.ptr 4 0)), (4, (ii v4)), (5, (.ptr 6 0)), (6, (ii 0)), (29, (.sl 5 0 1 (.un 1))), (30, (ii 1)), (31, (ii 0)), (36, (.dat l0.length (Zz l0))), (37, (ii (l0.length : Int))), (38, (ii v38))], z4r [(1, ⟨[(.sla 9 4 0 aG.length (.un 4)), (.dat cK.length (Zz cK)), (ii cQ), (ii cR)], 188, none⟩), (2, ⟨[(.sla 3 1 0 aV (.un 1))], 47, none⟩), (3, ⟨rows bI.length (Zz bI), 3, some ⟨1, bI.length, (Zz bI)⟩⟩), (4, ⟨[(.sl 5 0 1 (.un 1))], 173, none⟩), (5, ⟨[(.dat l0.length (Zz l0))], 105, none⟩), (6, ⟨[(ii aE), (ii cW), (.sl 7 0 1 (.ex 1))], 193, none⟩), (7, ⟨[(.sla 8 2 0 aK.length (.un 2))], 158, none⟩), (8, ⟨rows aK.length (Zz aK), 110, some ⟨2, aK.length, (Zz aK)⟩⟩), (9, ⟨rows aG.length (Zz aG), 114, some ⟨4, aG.length, (Zz aG)⟩⟩)], 10, [], true⟩, [⟨⟨29, 0, true⟩, none, (.inRangeFunc 0 :: (Zg prog 154 [1, 1, 0, 1, 0] 1)), none, (Zy prog 77), Yj [(2, .nils), (3, (ii 0)), (4, (.ptr 1 0))]⟩], (z4t [(0, ⟨.ready, none, 29, Yj [(4, (.ptr 1 0))], [11], (Xn prog 154 [1, 1, 0, 1, 0, 0]), (Xn prog 154 [1, 1, 0, 1, 0, 1])⟩)])⟩
 | .h3 v1 v2 v71 v72 v73 cI bD aF bL bS aV bI aE => ⟨⟨94, 0, true⟩, none, (Zg prog 146 [1, 1, 1, 0, 0] 0), none, [], ⟨Yj [(0, (.ptr 0 0)), (1, (ii v1)), (2, (ii v2)), (71, (.dat v71.length (Zz v71))), (72, (ii v72)), (73, (ii v73))], z4r [(0, ⟨[(.sla 7 4 0 aF.length (.un 4)), (.dat bL.length (Zz bL)), (ii bS), (ii v2)], 188, none⟩), (2, ⟨[(.sla 3 1 0 aV (.un 1))], 47, none⟩), (3, ⟨rows bI.length (Zz bI), 3, some ⟨1, bI.length, (Zz bI)⟩⟩), (4, ⟨[(.sl 5 0 1 (.un 1))], 173, none⟩), (5, ⟨[(.dat l0.length (Zz l0))], 105, none⟩), (6, ⟨[(.dat aE.length (Zz aE))], 158, none⟩), (7, ⟨rows aF.length (Zz aF), 114, some ⟨4, aF.length, (Zz aF)⟩⟩)], 8, [], true⟩, [⟨⟨29, 0, true⟩, (Vv prog 154 [1, 1, 0, 1, 0, 1, 0, 1] 5), (Zg prog 154 [1, 1, 0, 1, 0, 1, 0, 1] 1), (some 1), [], Yj [(4, (.ptr 0 0)), (21, (ii v1)), (23, (ii v2)), (24, (.dat cI.length (Zz cI)))]⟩, ⟨⟨76, 0, true⟩, (Vv prog 186 [1, 0, 0, 1, 0, 0, 1, 1, 0] 2), (Zg prog 186 [1, 0, 0, 1, 0, 0, 1, 1, 0] 1), none, [], Yj [(0, (.yld 1)), (1, (.ptr 2 0)), (2, (.ptr 4 0)), (4, (ii bD)), (72, (.yld 1)), (73, (.agg [(ii v1), (ii v2), (.sl 6 0 1 (.ex 1))]))]⟩, ⟨⟨29, 0, true⟩, none, (.inRangeFunc 1 :: (Zg prog 154 [1, 1, 0, 1, 0] 1)), none, (Zy prog 77), Yj [(2, .nils), (3, (ii 0)), (4, (.ptr 0 0))]⟩], (z4t [(1, ⟨.busy, none, 29, Yj [(4, (.ptr 0 0))], [11], (Xn prog 154 [1, 1, 0, 1, 0, 0]), (Xn prog 154 [1, 1, 0, 1, 0, 1])⟩)])⟩
 | .h4 v2 v8 dB cI bD aF bL bS cN cT cZ aK => ⟨⟨94, 0, true⟩, none, (Zg prog 146 [0, 1, 0, 0, 1, 0, 0] 0), none, [], ⟨Yj [(0, (.ptr 0 0)), (2, (ii v2)), (8, (ii v8))], z4r [(0, ⟨[(.sla 1 4 0 aF.length (.un 4)), (.dat bL.length (Zz bL)), (ii bS), (ii cN)], 188, none⟩), (1, ⟨rows aF.length (Zz aF), 114, some ⟨4, aF.length, (Zz aF)⟩⟩), (3, ⟨[(.sla 4 1 0 cT (.un 1))], 47, none⟩), (4, ⟨rows cZ.length (Zz cZ), 3, some ⟨1, cZ.length, (Zz cZ)⟩⟩), (5, ⟨[(.sl 6 0 1 (.un 1))], 173, none⟩), (6, ⟨[(.dat l0.length (Zz l0))], 105, none⟩), (7, ⟨[(.dat aK.length (Zz aK))], 158, none⟩)], 8, [], true⟩, [⟨⟨29, 0, true⟩, (Vv prog 154 [1, 1, 0, 1, 0, 1, 0, 1] 5), (Zg prog 154 [1, 1, 0, 1, 0, 1, 0, 1] 1), (some 2), [], Yj [(4, (.ptr 0 0)), (21, (ii dB)), (23, (ii v2)), (24, (.dat cI.length (Zz cI)))]⟩, ⟨⟨76, 0, true⟩, (Vv prog 186 [1, 0, 0, 1, 0, 0, 1, 1, 0] 2), (Zg prog 186 [1, 0, 0, 1, 0, 0, 1, 1, 0] 1), none, [], Yj [(0, (.yld 2)), (1, (.ptr 3 0)), (2, (.ptr 5 0)), (4, (ii bD)), (72, (.yld 2)), (73, (.agg [(ii dB), (ii v2), (.sl 7 0 1 (.ex 1))]))]⟩, ⟨⟨29, 0, true⟩, none, (.inRangeFunc 2 :: (Zg prog 154 [1, 1, 0, 1, 0] 1)), none, (Zy prog 77), Yj [(2, .nils), (3, (ii 0)), (4, (.ptr 0 0))]⟩], (z4t [(2, ⟨.busy, none, 29, Yj [(4, (.ptr 0 0))], [11], (Xn prog 154 [1, 1, 0, 1, 0, 0]), (Xn prog 154 [1, 1, 0, 1, 0, 1])⟩)])⟩
def madN0 : List (Option (List Nat)) := [some [1, 3, 8, 9, 10, 14, 15, 16], some [2, 3, 4, 9]]
def madM0 : List (Option (List Nat)) := []
def v2w : List (Option (List Nat)) := [some [0, 1, 2, 4], some [2, 3, 4]]
def v2x : List (Option (List Nat)) := [some [4], none, none, none, none, none, none]
def w4a : List (Option (List Nat)) := [some [0, 1, 2, 4, 5, 6, 29, 30, 31, 36, 37, 38], some [2, 3, 4]]
def w4c : List (Option (List Nat)) := [some [4], none, none, none, none, none, none, none, none, none]
def w3z : List (Option (List Nat)) := [some [0, 1, 2, 71, 72, 73], some [4, 21, 23, 24], some [0, 1, 2, 4, 72, 73], some [2, 3, 4]]
def w4b : List (Option (List Nat)) := [none, some [4], none, none, none, none, none, none]
def madN4 : List (Option (List Nat)) := [some [0, 2, 8], some [4, 21, 23, 24], some [0, 1, 2, 4, 72, 73], some [2, 3, 4]]
def madM4 : List (Option (List Nat)) := [none, none, some [4], none, none, none, none, none]
def Xb (l0 : List R4) : madS → Xd madS
 | .h0 v16 aA => (bif (decide (v16 < (l0.length : Int))) then (bif ((decide (0 ≤ v16 ∧ v16 < (l0.length : Int))) && true) then (bif (Nat.beq 1 1 && ((decide (0 + aA.length = aA.length)) && decide ((aA.length + 2 + 1) * (8 + 1) ≤ Jb))) then (.to (.h0 (IntKind.wrap .i64 (v16 + 1)) (aA ++ [(rd l0 v16.toNat).a, (rd l0 v16.toNat).c]))) else .stuck) else .stuck) else (bif (decide (aA.length < 4611686018427387904)) then (bif (decide (aA.length = aA.length)) then (.to (.h1 1 ([] : List R4) ([] : List R2) 0 0 (w6q (Za aA.length (cOf (Zz (Yo (Za aA.length (cOf (Zz aA)))))))) (Xv (Za aA.length (cOf (Zz (Yo (Za aA.length (cOf (Zz aA)))))))))) else .stuck) else .stuck))
 | .h1 v4 aG cK cQ cR aV bI => (bif (decide (v4 < ((aV : Nat) : Int))) then (bif ((decide (0 ≤ (IntKind.wrap .i64 (v4 - 1)) ∧ (IntKind.wrap .i64 (v4 - 1)) < ((aV : Nat) : Int))) && true) then (bif (decide ((0 + (Int.toNat (IntKind.wrap .i64 (v4 - 1)))) < bI.length)) then (bif ((decide (0 ≤ v4 ∧ v4 < ((aV : Nat) : Int))) && true) then (bif (decide ((0 + v4.toNat) < bI.length)) then (.to (.h2 v4 0 aG cK cQ cR aV bI (rd bI (0 + (Int.toNat (IntKind.wrap .i64 (v4 - 1))))) (rd bI (0 + v4.toNat)) ([] : List R2))) else .stuck) else .stuck) else .stuck) else .stuck) else (bif (decide ((aG.length : Int) > 400)) then (.ret [.nils, (.int .i64 4)]) else (.ret [(.dat aG.length (Zz aG)), (.int .i64 0)])))
 | .h2 v4 v38 aG cK cQ cR aV bI aE cW aK => (bif (decide (v38 < (l0.length : Int))) then (bif ((decide (0 ≤ v38 ∧ v38 < (l0.length : Int))) && true) then (bif (decide ((rd l0 v38.toNat).a ≤ aE)) then (bif (decide (aE < (rd l0 v38.toNat).c)) then (bif (Nat.beq 2 2 && ((decide (0 + aK.length = aK.length)) && decide ((aK.length + 1 + 1) * (16 + 1) ≤ Jb))) then (.to (.h2 v4 (IntKind.wrap .i64 (v38 + 1)) aG cK cQ cR aV bI aE cW (aK ++ [(R2.mk (rd l0 v38.toNat).b (rd l0 v38.toNat).d)]))) else .stuck) else (.to (.h2 v4 (IntKind.wrap .i64 (v38 + 1)) aG cK cQ cR aV bI aE cW aK))) else (.to (.h2 v4 (IntKind.wrap .i64 (v38 + 1)) aG cK cQ cR aV bI aE cW aK))) else .stuck) else (bif (z9b (cvT aK)) then (bif (decide ((((Wy (cvT aK)).length : Nat) : Int) > 0)) then (bif (cR == aE) then (bif (Vq (cvT cK) (cvT (Wy (cvT aK)))) then (bif (Jf (cvT cK) (cvT (Wy (cvT aK)))) then (.to (.h4 cW cQ aE (Wy (cvT aK)) v4 aG cK cQ cR aV bI aK)) else (.to (.h3 aE cW (Wy (cvT aK)) (((Wy (cvT aK)).length : Nat) : Int) 0 (Wy (cvT aK)) v4 aG (Wy (cvT aK)) (aG.length : Int) aV bI aK))) else .stuck) else (.to (.h3 aE cW (Wy (cvT aK)) (((Wy (cvT aK)).length : Nat) : Int) 0 (Wy (cvT aK)) v4 aG (Wy (cvT aK)) (aG.length : Int) aV bI aK))) else (.to (.h3 aE cW (Wy (cvT aK)) (((Wy (cvT aK)).length : Nat) : Int) 0 (Wy (cvT aK)) v4 aG (Wy (cvT aK)) (aG.length : Int) aV bI aK))) else .stuck))
 | .h3 v1 v2 v71 v72 v73 cI bD aF bL bS aV bI aE => (bif (decide (v73 < v72)) then (bif ((decide (0 ≤ v73 ∧ v73 < (v71.length : Int))) && true) then (bif (Nat.beq 4 4 && ((decide (0 + aF.length = aF.length)) && decide ((aF.length + 1 + 1) * (32 + 1) ≤ Jb))) then (.to (.h3 v1 v2 v71 v72 (IntKind.wrap .i64 (v73 + 1)) cI bD (aF ++ [(R4.mk v1 (rd v71 v73.toNat).a v2 (rd v71 v73.toNat).b)]) bL bS aV bI aE)) else .stuck) else .stuck) else (.to (.h1 (IntKind.wrap .i64 (bD + 1)) aF bL bS v2 aV bI)))
 | .h4 v2 v8 dB cI bD aF bL bS cN cT cZ aK => (bif (decide (v8 < (aF.length : Int))) then (bif ((decide (0 ≤ v8 ∧ v8 < (aF.length : Int))) && true) then (bif (decide ((0 + v8.toNat) < aF.length)) then (.to (.h4 v2 (IntKind.wrap .i64 (v8 + 1)) dB cI bD (aF.set (0 + v8.toNat) (R4.mk (rd aF (0 + v8.toNat)).a (rd aF (0 + v8.toNat)).b v2 (rd aF (0 + v8.toNat)).d)) bL bS cN cT cZ aK)) else .stuck) else .stuck) else (.to (.h1 (IntKind.wrap .i64 (bD + 1)) aF bL bS v2 cT cZ)))
def y3i (l0 : List R4) : Xd madS := (.to (.h0 0 ([] : List Int)))
theorem x4r (l0 : List R4) : ∀ s, Wj prog (Zy prog 154) (madC l0) (madC l0 s) (Xb l0 s)
 | .h0 v16 aA => (lb (fun k0 => (lo fun o0 => (lo fun o1 => (sl Jz 32 [] ⟨[0, 1, 2, 3, 7], [], madN0, madM0⟩ ⟨[], [.keep, .keep, .cells [.len (aA ++ [(rd l0 (tn v16)).a, (rd l0 (tn v16)).c]).length], .keep, .rowed 1 (aA ++ [(rd l0 (tn v16)).a, (rd l0 (tn v16)).c]).length (Zz (aA ++ [(rd l0 (tn v16)).a, (rd l0 (tn v16)).c]))], []⟩ [true] (pp (xL (aA.length + 2) (aA ++ [(rd l0 (tn v16)).a, (rd l0 (tn v16)).c]).length) (pp (xL (aA.length + 2) (aA ++ [(rd l0 (tn v16)).a, (rd l0 (tn v16)).c]).length) (pp (xS (aA.length + 2) (Ze (Zz aA) 0 aA.length 1 [(ii (rd l0 (tn v16)).a), (ii (rd l0 (tn v16)).c)]) (Zz (aA ++ [(rd l0 (tn v16)).a, (rd l0 (tn v16)).c]))) (pp (pp (xF (Ze (Zz aA) 0 aA.length 1 [(ii (rd l0 (tn v16)).a), (ii (rd l0 (tn v16)).c)])) nn) (ww o1 (ww o0 (tt k0 nn))))))))))) (fun k0 => (lo fun o0 => (lo fun o1 => (sl Jz 46 [(114, 4, Zz ([] : List R4))] ⟨[5, 3, 2, 4, 0, 1, 6], [], v2w, v2x⟩ ⟨[], [.keep, .cells [.grow 6 4, .list 0 (Zz ([] : List R2)), .keep, .keep], .keep, .rowed 1 (Xv (Za aA.length (cOf (Zz (Yo (Za aA.length (cOf (Zz aA)))))))).length (Zz (Xv (Za aA.length (cOf (Zz (Yo (Za aA.length (cOf (Zz aA))))))))), .keep, .keep, .keep], []⟩ [false, false] (pp (xL aA.length (Xv (Za aA.length (cOf (Zz (Yo (Za aA.length (cOf (Zz aA)))))))).length (by first | exact z0b _ _ | exact Uv rfl)) (pp (xS aA.length (Zz (Xv (Za aA.length (cOf (Zz (Yo (Za aA.length (cOf (Zz aA))))))))) (Zz (Xv (Za aA.length (cOf (Zz (Yo (Za aA.length (cOf (Zz aA)))))))))) (pp (fl (Xv (Za aA.length (cOf (Zz (Yo (Za aA.length (cOf (Zz aA)))))))) (fl ([] : List R4) nn)) (pp (pp (xG (Nat.beq 1 1)) (pp (xG (Nat.beq 1 1)) (pp (xG (Nat.beq 0 0)) (pp (xG (decide (aA.length = aA.length))) (pp (xG (isI (Zz (Yo (Za aA.length (cOf (Zz aA))))))) (xG (decide (aA.length < 4611686018427387904)))))))) (pp (pp (xG (Nat.beq 1 1)) (pp (xG (Nat.beq 1 1)) (pp (xG (Nat.beq 0 0)) (pp (xG (decide (aA.length = aA.length))) (pp (xG (isI (Zz aA))) (xG (decide (aA.length < 4611686018427387904)))))))) (tt k0 nn)))))))))))
 | .h1 v4 aG cK cQ cR aV bI => (lb (fun k0 => (lo fun o0 => (lo fun o1 => (lo fun o2 => (lo fun o3 => (sl Jz 48 [(110, 2, Zz ([] : List R2))] ⟨[0, 1, 2, 3, 4, 5, 7, 8, 9, 6], [], w4a, w4c⟩ ⟨[], (kpB 7 [.cells [.grow 8 2], .keep, .keep]), []⟩ (trs 3 []) (pp (fl bI (fl ([] : List R2) (fl aG nn))) (ww o3 (ww o2 (ww o1 (ww o0 (tt k0 nn)))))))))))) (fun k0 => (lb (fun k1 => (lr 29 3 [1, 1, 1, 1, 1, 1, 0] 1 77 [(2, .nils), (3, (ii 4))] (sl Jz 43 [] ⟨[], [], [some [2, 3]], []⟩ ⟨[], [], []⟩ [false, true] (tt k1 (tt k0 nn))))) (fun k1 => (lr 29 3 [1, 1, 1, 1, 1, 1, 0] 1 77 [(2, (.dat aG.length (Zz aG))), (3, (ii 0))] (sl Jz 48 [] ⟨[], [6], [some [2, 3]], []⟩ ⟨[(2, .frz aG.length aG.length (Zz aG) (Zz aG))], [], []⟩ [false, false] (pp (xZ (z4w 4 4 0 aG.length aG.length (Zz aG)) aG.length (Zz aG)) (pp (xL aG.length aG.length) (pp (xS aG.length (Zz aG) (Zz aG)) (pp (fl aG nn) (tt k1 (tt k0 nn))))))))))))
 | .h2 v4 v38 aG cK cQ cR aV bI aE cW aK => (lb (fun k0 => (lo fun aH => (lb (fun k1 => (lb (fun k2 => (lo fun o0 => (sl Jz 39 [] ⟨[0, 1, 2, 3, 4, 5, 6, 7, 12, 9], [], w4a, w4c⟩ ⟨[], (kpB 7 [.cells [.len (aK ++ [(R2.mk (rd l0 (tn v38)).b (rd l0 (tn v38)).d)]).length], .rowed 2 (aK ++ [(R2.mk (rd l0 (tn v38)).b (rd l0 (tn v38)).d)]).length (Zz (aK ++ [(R2.mk (rd l0 (tn v38)).b (rd l0 (tn v38)).d)])), .keep]), []⟩ (trs 7 []) (pp (xL (aK.length + 1) (aK ++ [(R2.mk (rd l0 (tn v38)).b (rd l0 (tn v38)).d)]).length) (pp (xL (aK.length + 1) (aK ++ [(R2.mk (rd l0 (tn v38)).b (rd l0 (tn v38)).d)]).length) (pp (xS (aK.length + 1) (Ze (Zz aK) 0 aK.length 2 [(ii (rd l0 (tn v38)).b), (ii (rd l0 (tn v38)).d)]) (Zz (aK ++ [(R2.mk (rd l0 (tn v38)).b (rd l0 (tn v38)).d)]))) (pp (fl bI (pp (xF (Ze (Zz aK) 0 aK.length 2 [(ii (rd l0 (tn v38)).b), (ii (rd l0 (tn v38)).d)])) (fl aG nn))) (ww o0 (tt k2 (tt k1 (ww aH (tt k0 nn)))))))))))) (fun k2 => (sl Jz 39 [] ⟨(List.range 10), [], w4a, w4c⟩ ⟨[], [], []⟩ (trs 6 [false]) (pp (fl bI (fl aK (fl aG nn))) (tt k2 (tt k1 (ww aH (tt k0 nn))))))))) (fun k1 => (sl Jz 39 [] ⟨(List.range 10), [], w4a, w4c⟩ ⟨[], [], []⟩ [true, false, false, false, false, false, false] (pp (fl bI (fl aK (fl aG nn))) (tt k1 (ww aH (tt k0 nn))))))))) (fun k0 => (Xi (sl Jz (C' := ⟨⟨29, 0, true⟩, (Vv prog 154 [1, 1, 0, 1, 0, 1, 0, 0] 4), (Zg prog 154 [1, 1, 0, 1, 0, 1, 0, 0] 1), (some 0), [], ⟨Yj [(4, (.ptr 1 0)), (5, (.ptr 3 0)), (16, (.dat aK.length (Zz aK)))], z4r [(1, ⟨[(.sla 2 4 0 aG.length (.un 4)), (.dat cK.length (Zz cK)), (ii cQ), (ii cR)], 188, none⟩), (2, ⟨rows aG.length (Zz aG), 114, some ⟨4, aG.length, (Zz aG)⟩⟩), (3, ⟨[(ii aE), (ii cW), (.sl 4 0 1 (.ex 1))], 193, none⟩), (4, ⟨[(.dat aK.length (Zz aK))], 158, none⟩), (5, ⟨[(.sla 6 1 0 aV (.un 1))], 47, none⟩), (6, ⟨rows bI.length (Zz bI), 3, some ⟨1, bI.length, (Zz bI)⟩⟩), (7, ⟨[(.sl 8 0 1 (.un 1))], 173, none⟩), (8, ⟨[(.dat l0.length (Zz l0))], 105, none⟩)], 9, [], true⟩, [⟨⟨76, 0, true⟩, (Vv prog 186 [1, 0, 0, 1, 0, 0, 1, 1, 0] 2), (Zg prog 186 [1, 0, 0, 1, 0, 0, 1, 1, 0] 1), none, [], Yj [(0, (.yld 0)), (1, (.ptr 5 0)), (2, (.ptr 7 0)), (4, (ii v4)), (72, (.yld 0)), (73, (.agg [(ii aE), (ii cW), (.sl 4 0 1 (.ex 1))]))]⟩, ⟨⟨29, 0, true⟩, none, (.inRangeFunc 0 :: (Zg prog 154 [1, 1, 0, 1, 0] 1)), none, (Zy prog 77), Yj [(2, .nils), (3, (ii 0)), (4, (.ptr 1 0))]⟩], (z4t [(0, ⟨.busy, none, 29, Yj [(4, (.ptr 1 0))], [11], (Xn prog 154 [1, 1, 0, 1, 0, 0]), (Xn prog 154 [1, 1, 0, 1, 0, 1])⟩)])⟩) 37 [] ⟨[0, 1, 9, 10, 7, 2, 3, 4, 5], [8], [some [4, 5, 16], some [0, 1, 2, 4, 72, 73], some [2, 3, 4]], [some [4], none, none, none, none, none, none, none, none]⟩ ⟨[(16, .frz aK.length aK.length (Zz aK) (Zz aK))], [.keep, .keep, .keep, .keep, .cells [.frz aK.length aK.length (Zz aK) (Zz aK)], .keep, .keep, .keep, .keep], []⟩ [false, false] (pp (xZ (z4w 2 2 0 aK.length aK.length (Zz aK)) aK.length (Zz aK)) (pp (xL aK.length aK.length) (pp (xS aK.length (Zz aK) (Zz aK)) (pp (xZ (z4w 2 2 0 aK.length aK.length (Zz aK)) aK.length (Zz aK)) (pp (xL aK.length aK.length) (pp (xS aK.length (Zz aK) (Zz aK)) (pp (fl aG (fl bI nn)) (pp (fl aK nn) (tt k0 nn)))))))))) (lo fun aH => (lb (fun k1 => (lb (fun k2 => (lo fun cU => (lb (fun k3 => (sl Jz 49 [] ⟨[1, 2, 0, 5, 6, 7, 8, 4], [], madN4, madM4⟩ ⟨[], [], []⟩ (trs 13 []) (pp (fl aG (fl bI nn)) (tt k3 (pp (pp (xr cK) (pp (xI R2 (Wy (cvT aK)).length (Zz (Wy (cvT aK)))) (xw cU))) (tt k2 (tt k1 (pp (pp (xr aK) (xw aH)) nn)))))))) (fun k3 => (sl Jz 69 [] ⟨[1, 0, 5, 6, 7, 8, 4, 2], [], w3z, w4b⟩ ⟨[], [], []⟩ (trs 12 [false]) (pp (fl bI (fl aG nn)) (tt k3 (pp (pp (xr cK) (pp (xI R2 (Wy (cvT aK)).length (Zz (Wy (cvT aK)))) (xw cU))) (tt k2 (tt k1 (pp (pp (xr aK) (xw aH)) nn))))))))))) (fun k2 => (sl Jz 69 [] ⟨[1, 0, 5, 6, 7, 8, 4, 2], [], w3z, w4b⟩ ⟨[], [], []⟩ (trs 6 [false, false, false, false, false, false, false]) (pp (fl bI (fl aG nn)) (tt k2 (tt k1 (pp (pp (xr aK) (xw aH)) nn)))))))) (fun k1 => (sl Jz 69 [] ⟨[1, 0, 5, 6, 7, 8, 4, 2], [], w3z, w4b⟩ ⟨[], [], []⟩ [false, false, false, false, false, false, false, false, false, false, false, false, false] (pp (fl bI (fl aG nn)) (tt k1 (pp (pp (xr aK) (xw aH)) nn))))))))))
 | .h3 v1 v2 v71 v72 v73 cI bD aF bL bS aV bI aE => (lb (fun k0 => (lo fun o0 => (lo fun o1 => (sl Jz 23 [] ⟨[0, 1, 2, 3, 4, 5, 6, 10], [], w3z, w4b⟩ ⟨[], [.cells [.len (aF ++ [(R4.mk v1 (rd v71 (tn v73)).a v2 (rd v71 (tn v73)).b)]).length, .keep, .keep, .keep], .keep, .keep, .keep, .keep, .keep, .keep, .rowed 4 (aF ++ [(R4.mk v1 (rd v71 (tn v73)).a v2 (rd v71 (tn v73)).b)]).length (Zz (aF ++ [(R4.mk v1 (rd v71 (tn v73)).a v2 (rd v71 (tn v73)).b)]))], []⟩ [true] (pp (xL (aF.length + 1) (aF ++ [(R4.mk v1 (rd v71 (tn v73)).a v2 (rd v71 (tn v73)).b)]).length) (pp (xL (aF.length + 1) (aF ++ [(R4.mk v1 (rd v71 (tn v73)).a v2 (rd v71 (tn v73)).b)]).length) (pp (xS (aF.length + 1) (Ze (Zz aF) 0 aF.length 4 [(ii v1), (ii (rd v71 (tn v73)).a), (ii v2), (ii (rd v71 (tn v73)).b)]) (Zz (aF ++ [(R4.mk v1 (rd v71 (tn v73)).a v2 (rd v71 (tn v73)).b)]))) (pp (fl bI (pp (xF (Ze (Zz aF) 0 aF.length 4 [(ii v1), (ii (rd v71 (tn v73)).a), (ii v2), (ii (rd v71 (tn v73)).b)])) nn)) (ww o1 (ww o0 (tt k0 nn))))))))))) (fun k0 => (sl Jz 22 [] ⟨[1, 0, 2, 3, 4, 5, 7], [], v2w, v2x⟩ ⟨[], [], []⟩ [false, false] (pp (fl bI (fl aF nn)) (tt k0 nn)))))
 | .h4 v2 v8 dB cI bD aF bL bS cN cT cZ aK => (lb (fun k0 => (lo fun o0 => (lo fun o1 => (sl Jz 33 [] ⟨(List.range 8), [], madN4, madM4⟩ ⟨[], [.cells [.len (aF.set (0 + (tn v8)) (R4.mk (rd aF (0 + (tn v8))).a (rd aF (0 + (tn v8))).b v2 (rd aF (0 + (tn v8))).d)).length, .keep, .keep, .keep], .rowed 4 (aF.set (0 + (tn v8)) (R4.mk (rd aF (0 + (tn v8))).a (rd aF (0 + (tn v8))).b v2 (rd aF (0 + (tn v8))).d)).length (Zz (aF.set (0 + (tn v8)) (R4.mk (rd aF (0 + (tn v8))).a (rd aF (0 + (tn v8))).b v2 (rd aF (0 + (tn v8))).d))), .keep, .keep, .keep, .keep, .keep, .keep], []⟩ [true] (pp (xL aF.length (aF.set (0 + (tn v8)) (R4.mk (rd aF (0 + (tn v8))).a (rd aF (0 + (tn v8))).b v2 (rd aF (0 + (tn v8))).d)).length) (pp (xL aF.length (aF.set (0 + (tn v8)) (R4.mk (rd aF (0 + (tn v8))).a (rd aF (0 + (tn v8))).b v2 (rd aF (0 + (tn v8))).d)).length) (pp (xS aF.length (Xf (Zz aF) (0 + (tn v8)) 2 [(ii v2)]) (Zz (aF.set (0 + (tn v8)) (R4.mk (rd aF (0 + (tn v8))).a (rd aF (0 + (tn v8))).b v2 (rd aF (0 + (tn v8))).d)))) (pp (pp (xF (Xf (Zz aF) (0 + (tn v8)) 2 [(ii v2)])) (fl cZ nn)) (ww o1 (ww o0 (tt k0 nn))))))))))) (fun k0 => (sl Jz 36 [] ⟨[2, 0, 3, 4, 5, 6, 1], [], v2w, v2x⟩ ⟨[], [], []⟩ [false, false] (pp (fl cZ (fl aF nn)) (tt k0 nn)))))
theorem y9e (l0 : List R4) : Wj prog (Zy prog 154) (madC l0) (Zf prog 154 [(.dat l0.length (Zz l0))] true []) (y3i l0) := (sl Jz 56 [(3, 1, Zz ([] : List Int))] ⟨[2, 1, 3, 0, 4], [], madN0, madM0⟩ ⟨[], [.keep, .keep, .cells [.grow 4 1], .keep, .keep], []⟩ [true] (pp (fl ([] : List Int) nn) nn))
theorem w3y (l0 : List R4) (n : Nat) (vs : List AVal) (h : Yv (Xb l0) n (y3i l0) = .ret vs) : Jo prog (Zy prog 154) (Zf prog 154 [(.dat l0.length (Zz l0))] true []) vs := by
 have := Zo (x4r l0) n _ (y9e l0)
 rwa [h] at this
end Go.Am
namespace Go.Am
open Go.Proofs.Tryz
open Go.Proofs Go.Sort Go.Shelf Go.RowKit Go.Lib
theorem x2y {i n : Nat} (h : i < n) : decide ((i : Int) < (n : Int)) = true := decide_eq_true (by omega)
theorem z9z {σ : Type} (step : σ → Xd σ) (a b : Nat) (s : Xd σ) : Yv step (a + b) s = Yv step a (Yv step b s) := by
 induction b generalizing s with
 | zero => cases s <;> simp [Yv]
 | succ b ih => cases s with
  | to s => exact ih (step s)
  | ret vs => simp only [Zm]
  | stuck => cases a <;> cases b <;> rfl
theorem w0s {i : Nat} : decide ((i : Int) ≥ 0) = true := decide_eq_true (by omega)
def z1j {α : Type} [Xy α] (out : List α) : List AVal := bif decide ((out.length : Int) > 400) then [.nils, .int .i64 4] else [.dat out.length (Zz out), .int .i64 0]
def x6j {α : Type} [Xy α] (e : Int) (L : List α) : List AVal := bif e != 0 then [.nils, .int .i64 e] else [.dat L.length (Zz L), .int .i64 0]
def w9w {α : Type} (e : Int) (L : List α) : List α := bif e != 0 then [] else L
theorem y3a {α : Type} [Xy α] (e : Int) (L : List α) (ρ : Rho) (u : Value) (hu : Yw ρ (Kf (x6j e L)) u) : Yw ρ (.tup [.dat (w9w e L).length (Zz (w9w e L)), .int .i64 e]) u := by
 unfold x6j at hu
 unfold w9w
 by_cases h : e = 0
 ·subst h; exact hu
 ·have h : (e != 0) = true := by simpa using h
  rw [h] at hu ⊢
  exact z3y (.cons (z0u α) (RLe.refl _)) ρ u hu
theorem y8o {α : Type} [Xy α] (e : Int) (L : List α) : pf 3 (Kf (x6j e L)) = true := by
 unfold x6j
 cases (e != 0) <;> rfl
def v0f (n : Nat) : Int := bif decide ((n : Int) > 400) then 4 else 0
theorem y0m {α : Type} [Xy α] (L : List α) : z1j L = x6j (v0f L.length) L := by
 unfold z1j x6j v0f
 cases decide ((L.length : Int) > 400) <;> rfl
theorem x1s {α : Type} [Xy α] {e : Int} (L : List α) (h : (e != 0) = true) : x6j e L = [.nils, .int .i64 e] := by unfold x6j; rw [h]; rfl
theorem y1s : ∀ (L : List R3) (o last : Int) (inn : Bool) (out : List R2), (swF L o last inn out).length ≤ out.length + L.length
 | [], _, _, _, out => Nat.le_refl _
 | e :: r, o, last, inn, out => by
  rw [z7r]
  have := y1s r (o + e.c) e.a (decide (o + e.c > 0)) (Qb out last inn e.a)
  have := z5i out last inn e.a
  simp only [List.length_cons]; omega
theorem y7q (l : List R3) : (z3w l).length = l.length := by
 by_cases h : y4p l = true
 ·exact (Qn l h).1.length_eq
 ·unfold z3w; rw [dif_neg h]
theorem y7t (l : List R2) : (Wy l).length ≤ 800 := by
 unfold Wy
 by_cases h : 400 < l.length
 ·rw [decide_eq_true h]; exact Nat.zero_le _
 ·rw [decide_eq_false h]
  cases l.all y1d
  ·exact Nat.zero_le _
  ·show (swV l).length ≤ 800
   have h1 := y1s (z3w (Jx l)) 0 0 false []
   rw [y7q, z1z] at h1
   simp only [List.length_nil] at h1
   unfold swV; omega
def z7q (r : R4) : Bool := decide (r.a < r.c) && (decide (r.b < r.d) && (decide (r.a ≥ -1000000) && (decide (r.a ≤ 1000000) && (decide (r.c ≥ -1000000) && (decide (r.c ≤ 1000000) && (decide (r.b ≥ -1000000) && (decide (r.b ≤ 1000000) && (decide (r.d ≥ -1000000) && decide (r.d ≤ 1000000)))))))))
def D4 : Dim R4 R2 := ⟨R4.a, R4.c, fun r => ⟨r.b, r.d⟩, fun x x' s => ⟨x, s.a, x', s.b⟩, fun x r => ⟨r.a, r.b, x, r.d⟩, Wy, Jf⟩
theorem D4_sec (l : List R4) (x : Int) : (D4.sec l x).length ≤ 1000 := Nat.le_trans (y7t _) (by omega)
section
variable (l : List R4) (hl : l.length ≤ 400)
include hl
theorem w9h (i : Nat) (out : List R4) (last : List R2) (first fin x x' : Int) : ∀ (k j : Nat) (acc : List R2), j + k = l.length → acc.length ≤ j →
  ∃ n, ∀ N, Yv (Xb l) (N + n) (.to (.h2 (i : Int) (j : Int) out last first fin ((D4.cuts l).length) (Xv (Yo (D4.ends l))) x x' acc)) = Yv (Xb l) N (.to (.h2 (i : Int) (l.length : Int) out last first fin ((D4.cuts l).length) (Xv (Yo (D4.ends l))) x x' (acc ++ D4.inn (l.drop j) x)))
 | 0, j, acc, h, ha => by
  refine ⟨0, fun N => ?_⟩
  rw [List.drop_eq_nil_of_le (by omega), show D4.inn ([] : List R4) x = [] from rfl, List.append_nil, Nat.add_zero, show j = l.length by omega]
 | k + 1, j, acc, h, ha => by
  have hj : j < l.length := by omega
  obtain ⟨n, hn⟩ := w9h i out last first fin x x' k (j + 1) (acc ++ D4.inn [rd l j] x) (by omega) (by have := D4.inn_length [rd l j] x; simp only [List.length_append, List.length_singleton] at *; omega)
  refine ⟨n + 1, fun N => ?_⟩
  have e : D4.inn (l.drop j) x = D4.inn [rd l j] x ++ D4.inn (l.drop (j + 1)) x := by
   rw [Yf hj, ← D4.inn_append]; rfl
  rw [e, ← Nat.add_assoc, Zv, ← List.append_assoc, ← hn N]
  by_cases h1 : D4.lo (rd l j) ≤ x
  ·by_cases h2 : x < D4.hi (rd l j)
   ·rw [D4.inn_t _ _ h1 h2]
    simp only [D4] at h1 h2 ⊢
    simp (disch := omega) only [Xb, Xa, Zb, Zk, Zs, Zt, Yx, Yq, Yp, Zh, Zq, Zx, Ya, Zj, Nat.zero_add, decide_true, Bool.and_true, Bool.true_and, cond_true, cond_false]
   ·rw [D4.inn_f2 _ _ h2, List.append_nil]
    simp only [D4] at h1 h2
    simp (disch := omega) only [Xb, Xa, Yz, Zb, Zk, Zs, Zt, Yx, Yq, Yp, Zh, Zq, Zx, Ya, Zj, Nat.zero_add, decide_true, Bool.and_true, Bool.true_and, cond_true, cond_false]
  ·rw [D4.inn_f1 _ _ h1, List.append_nil]
   simp only [D4] at h1
   simp (disch := omega) only [Xb, v5i, Zb, Zk, Zs, Zt, Yx, Yq, Yp, Zh, Zq, Zx, Ya, Zj, Nat.zero_add, decide_true, Bool.and_true, Bool.true_and, cond_true, cond_false]
theorem w9g (i : Nat) (hi : i ≤ 1000) (x x' : Int) (s last : List R2) (first : Int) (inn : List R2) (hs : s.length ≤ 1000) : ∀ (k j : Nat) (out : List R4), j + k = s.length → out.length ≤ 10000000 + j →
  ∃ n, ∀ N, Yv (Xb l) (N + n) (.to (.h3 x x' s (s.length : Int) (j : Int) s (i : Int) out last first ((D4.cuts l).length) (Xv (Yo (D4.ends l))) inn)) = Yv (Xb l) N (.to (.h1 ((i + 1 : Nat) : Int) (out ++ (s.drop j).map (D4.put x x')) last first x' ((D4.cuts l).length) (Xv (Yo (D4.ends l)))))
 | 0, j, out, h, ho => by
  have _u := hl
  refine ⟨1, fun N => ?_⟩
  rw [List.drop_eq_nil_of_le (by omega), Zv]
  simp (disch := omega) only [Xb, Yz, Zq, Zx, cond_false, List.map_nil, List.append_nil]
 | k + 1, j, out, h, ho => by
  obtain ⟨n, hn⟩ := w9g i hi x x' s last first inn hs k (j + 1) (out ++ [D4.put x x' (rd s j)]) (by omega) (by simp; omega)
  refine ⟨n + 1, fun N => ?_⟩
  have := hn N
  rw [Yf (show j < s.length by omega), List.map_cons, ← Nat.add_assoc, Zv]
  simp (disch := omega) only [Xb, Zb, Zk, Zs, Zt, Yx, Yq, Yp, Zh, Zq, Zx, Ya, Zj, Nat.zero_add, decide_true, Bool.and_true, Bool.true_and, cond_true, cond_false]
  rw [List.append_assoc] at this
  exact this
theorem w9f (i : Nat) (hi : i ≤ 1000) (x x' fin : Int) (s last : List R2) (first : Int) (inn : List R2) : ∀ (k j : Nat) (out : List R4), j + k = out.length → out.length ≤ 10000000 →
  ∃ n, ∀ N, Yv (Xb l) (N + n) (.to (.h4 x' (j : Int) x s (i : Int) out last first fin ((D4.cuts l).length) (Xv (Yo (D4.ends l))) inn)) = Yv (Xb l) N (.to (.h1 ((i + 1 : Nat) : Int) (D4.grow out j x') last first x' ((D4.cuts l).length) (Xv (Yo (D4.ends l)))))
 | 0, j, out, h, ho => by
  have _u := hl
  refine ⟨1, fun N => ?_⟩
  rw [D4.grow_nil _ _ _ (by omega), Zv]
  simp (disch := omega) only [Xb, Yz, Zq, Zx, cond_false]
 | k + 1, j, out, h, ho => by
  obtain ⟨n, hn⟩ := w9f i hi x x' fin s last first inn k (j + 1) (out.set j (D4.ext x' (rd out j))) (by simp; omega) (by simpa using ho)
  refine ⟨n + 1, fun N => ?_⟩
  have := hn N
  rw [D4.grow_set out j _ (by omega)] at this
  rw [← Nat.add_assoc, Zv]
  simp (disch := omega) only [Xb, Zb, Zk, Zs, Zt, Yx, Yq, Yp, Zh, Zq, Zx, Ya, Zj, Nat.zero_add, decide_true, Bool.and_true, Bool.true_and, cond_true, cond_false]
  exact this
theorem x9s : ∀ (k i : Nat) (s : Sw R4 R2), k = (D4.cuts l).length - 1 - i → i ≤ (D4.cuts l).length → s.out.length ≤ i * 1000 → s.last.length ≤ 1000 → s.first ≤ s.out.length →
  ∃ n, Yv (Xb l) n (.to (.h1 ((i + 1 : Nat) : Int) s.out s.last (s.first : Int) s.fin ((D4.cuts l).length) (Xv (Yo (D4.ends l))))) = .ret (z1j (D4.go l k i s).out)
 | 0, i, s, h, hi, ho, hla, hf => by
  have hc := D4.cuts_length l
  refine ⟨1, ?_⟩
  rw [Zv, show D4.go l 0 i s = s from rfl]
  unfold z1j
  by_cases q : (s.out.length : Int) > 400
  ·simp (disch := omega) only [Xb, Yz, Yr, cond_true, cond_false, Zm]
  ·simp (disch := omega) only [Xb, Yz, Xk, cond_true, cond_false, Zm]
 | k + 1, i, s, h, hi, ho, hla, hf => by
  have hc := D4.cuts_length l
  have hi1 : i + 1 < (D4.cuts l).length := by omega
  have hpl : (Xv (Yo (D4.ends l))).length = 2 * l.length := by rw [Wr, Wb, D4.ends_length]
  have r0 : rd (Xv (Yo (D4.ends l))) i = rd (D4.cuts l) i := Jv _ _ (by show i < (D4.cuts l).length; omega)
  have r1 : rd (Xv (Yo (D4.ends l))) (i + 1) = rd (D4.cuts l) (i + 1) := Jv _ _ (by show i + 1 < (D4.cuts l).length; omega)
  have hbig : i * 1000 ≤ 1000 * 1000 := Nat.mul_le_mul_right _ (by omega)
  have hsl := D4_sec l (rd (D4.cuts l) i)
  have hsd : D4.sec l (rd (D4.cuts l) i) = Wy (D4.inn l (rd (D4.cuts l) i)) := rfl
  obtain ⟨n3, h3⟩ := w9h l hl (i + 1) s.out s.last (s.first : Int) s.fin (rd (D4.cuts l) i) (rd (D4.cuts l) (i + 1)) l.length 0 [] (Nat.zero_add _) (Nat.le_refl _)
  simp only [List.drop_zero, List.nil_append, z0y] at h3
  have w1 : z9b (D4.inn l (rd (D4.cuts l) i)) = true := rfl
  have w2 : Vq s.last (Wy (D4.inn l (rd (D4.cuts l) i))) = true := decide_eq_true (by omega)
  have ol := D4.one_length l (rd (D4.cuts l) i) (rd (D4.cuts l) (i + 1)) s
  have st0 : ∀ N, Yv (Xb l) (N + n3 + 1) (.to (.h1 ((i + 1 : Nat) : Int) s.out s.last (s.first : Int) s.fin ((D4.cuts l).length) (Xv (Yo (D4.ends l))))) = Yv (Xb l) N (.to (.h2 ((i + 1 : Nat) : Int) (l.length : Int) s.out s.last (s.first : Int) s.fin ((D4.cuts l).length) (Xv (Yo (D4.ends l))) (rd (D4.cuts l) i) (rd (D4.cuts l) (i + 1)) (D4.inn l (rd (D4.cuts l) i)))) := fun N => by
   rw [← h3 N, Zv]
   have e1 : IntKind.wrap .i64 (((i + 1 : Nat) : Int) - 1) = (i : Int) := by rw [Zd]; exact Zq (by omega)
   simp (disch := omega) only [Xb, e1, r0, r1, Zb, Zk, Zs, Zt, Yx, Yq, Yp, Zh, Zq, Zx, Ya, Zj, Nat.zero_add, decide_true, Bool.and_true, Bool.true_and, cond_true, cond_false]
  rcases Yg (decide (0 < (D4.sec l (rd (D4.cuts l) i)).length) && ((s.fin == rd (D4.cuts l) i) && D4.same s.last (D4.sec l (rd (D4.cuts l) i)))) with q | q
  ·obtain ⟨n5, h5⟩ := w9f l hl (i + 1) (by omega) (rd (D4.cuts l) i) (rd (D4.cuts l) (i + 1)) s.fin (D4.sec l (rd (D4.cuts l) i)) s.last (s.first : Int) (D4.inn l (rd (D4.cuts l) i)) (s.out.length - s.first) s.first s.out (by omega) (by omega)
   have e : D4.one l (rd (D4.cuts l) i) (rd (D4.cuts l) (i + 1)) s = ⟨D4.grow s.out s.first (rd (D4.cuts l) (i + 1)), s.last, s.first, rd (D4.cuts l) (i + 1)⟩ := by unfold Dim.one; rw [q]; rfl
   obtain ⟨n0, h0⟩ := x9s k (i + 1) (D4.one l (rd (D4.cuts l) i) (rd (D4.cuts l) (i + 1)) s) (by omega) (by omega) (by omega) (by rw [e]; exact hla) (by rw [e]; simpa [Dim.grow_length] using hf)
   refine ⟨n0 + n5 + 1 + n3 + 1, ?_⟩
   rw [st0 (n0 + n5 + 1), Zv]
   simp only [Bool.and_eq_true, decide_eq_true_eq] at q
   obtain ⟨q1, q2, q3⟩ := q
   have q3' : Jf s.last (Wy (D4.inn l (rd (D4.cuts l) i))) = true := q3
   rw [hsd] at q1
   simp (disch := omega) only [Xb, Zb, Zk, Yz, Yr, q2, q3', w1, w2, cond_true, cond_false]
   rw [← hsd, h5 n0]
   simp only [Dim.go]
   rw [e] at h0 ⊢
   exact h0
  ·obtain ⟨n4, h4⟩ := w9g l hl (i + 1) (by omega) (rd (D4.cuts l) i) (rd (D4.cuts l) (i + 1)) (D4.sec l (rd (D4.cuts l) i)) (D4.sec l (rd (D4.cuts l) i)) (s.out.length : Int) (D4.inn l (rd (D4.cuts l) i)) hsl (D4.sec l (rd (D4.cuts l) i)).length 0 s.out (Nat.zero_add _) (by omega)
   simp only [List.drop_zero, z0y] at h4
   have e : D4.one l (rd (D4.cuts l) i) (rd (D4.cuts l) (i + 1)) s = ⟨s.out ++ (D4.sec l (rd (D4.cuts l) i)).map (D4.put (rd (D4.cuts l) i) (rd (D4.cuts l) (i + 1))), D4.sec l (rd (D4.cuts l) i), s.out.length, rd (D4.cuts l) (i + 1)⟩ := by unfold Dim.one; rw [q]; rfl
   obtain ⟨n0, h0⟩ := x9s k (i + 1) (D4.one l (rd (D4.cuts l) i) (rd (D4.cuts l) (i + 1)) s) (by omega) (by omega) (by omega) (by rw [e]; exact hsl) (by rw [e]; simp)
   have hg : Yv (Xb l) 1 (.to (.h2 ((i + 1 : Nat) : Int) (l.length : Int) s.out s.last (s.first : Int) s.fin ((D4.cuts l).length) (Xv (Yo (D4.ends l))) (rd (D4.cuts l) i) (rd (D4.cuts l) (i + 1)) (D4.inn l (rd (D4.cuts l) i)))) = .to (.h3 (rd (D4.cuts l) i) (rd (D4.cuts l) (i + 1)) (D4.sec l (rd (D4.cuts l) i)) ((D4.sec l (rd (D4.cuts l) i)).length : Int) 0 (D4.sec l (rd (D4.cuts l) i)) ((i + 1 : Nat) : Int) s.out (D4.sec l (rd (D4.cuts l) i)) (s.out.length : Int) ((D4.cuts l).length) (Xv (Yo (D4.ends l))) (D4.inn l (rd (D4.cuts l) i))) := by
    rw [show (1 : Nat) = 0 + 1 from rfl, Zv]
    rw [hsd] at q ⊢
    have e3 : D4.same s.last (Wy (D4.inn l (rd (D4.cuts l) i))) = Jf s.last (Wy (D4.inn l (rd (D4.cuts l) i))) := rfl
    rw [e3] at q
    by_cases q1 : 0 < (Wy (D4.inn l (rd (D4.cuts l) i))).length
    ·rw [decide_eq_true q1, Bool.true_and] at q
     rcases Yg (s.fin == rd (D4.cuts l) i) with q2 | q2
     ·rw [q2, Bool.true_and] at q
      simp (disch := omega) only [Xb, Zb, Zk, Yz, Yr, q2, q, w1, w2, cond_true, cond_false]
      rfl
     ·simp (disch := omega) only [Xb, Zb, Zk, Yz, Yr, q2, w1, w2, cond_true, cond_false]
      rfl
    ·simp (disch := omega) only [Xb, Zb, Zk, Yz, Xk, w1, w2, cond_true, cond_false]
     rfl
   refine ⟨n0 + n4 + 1 + n3 + 1, ?_⟩
   rw [st0 (n0 + n4 + 1), z9z _ (n0 + n4) 1, hg, h4 n0]
   simp only [Dim.go]
   rw [e] at h0 ⊢
   exact h0
theorem w9i : ∀ (k i : Nat) (acc : List Int), i + k = l.length → acc = D4.ends (l.take i) → ∃ n, Yv (Xb l) n (.to (.h0 (i : Int) acc)) = .ret (z1j (D4.go l ((D4.cuts l).length - 1) 0 ⟨[], [], 0, 0⟩).out)
 | 0, i, acc, h, ha => by
  have e : acc = D4.ends l := by rw [ha, List.take_of_length_le (by omega)]
  subst e
  have hle := D4.ends_length l
  obtain ⟨n, hn⟩ := x9s l hl ((D4.cuts l).length - 1) 0 ⟨[], [], 0, 0⟩ (by omega) (Nat.zero_le _) (Nat.zero_le _) (Nat.zero_le _) (Nat.zero_le _)
  refine ⟨n + 1, ?_⟩
  rw [Zv]
  simp (disch := omega) only [Xb, Uu, Kg, z6e, Yz, Yq, Yp, decide_true, cond_true, cond_false]
  exact hn
 | k + 1, i, acc, h, ha => by
  have hle := D4.ends_length (l.take i)
  have fK : acc.length ≤ 2 * i := by rw [ha, hle]; simp; omega
  obtain ⟨n, hn⟩ := w9i k (i + 1) (acc ++ D4.ends [rd l i]) (by omega) (by
   rw [ha, List.take_add_one]
   have : l[i]? = some (rd l i) := by rw [Ww (show i < l.length by omega)]; exact List.getElem?_eq_getElem _
   rw [this, D4.ends_append]; rfl)
  refine ⟨n + 1, ?_⟩
  rw [Zv]
  simp (disch := omega) only [Xb, Zb, Zk, Zs, Zt, Yx, Yq, Yp, Zh, Zq, Zx, Ya, Zj, Nat.zero_add, decide_true, Bool.and_true, Bool.true_and, cond_true, cond_false]
  exact hn
end
def madE (l : List R4) : Int := v0f (D4.out l).length
def Jt (l : List R4) : List R4 := w9w (madE l) (D4.out l)
def z4s (l : List R4) : Int := madE l
def z1w (l : List R4) : Bool := decide (l.length ≤ 400)
theorem v2v (l : List R4) (h : z1w l = true) : ∃ n, Yv (Xb l) n (y3i l) = .ret (x6j (madE l) (D4.out l)) := by
 rw [show x6j (madE l) (D4.out l) = z1j (D4.out l) from (y0m _).symm]
 exact w9i l (of_decide_eq_true h) l.length 0 [] (Nat.zero_add _) rfl
def vl4V (a b c d : Int) : Bool := z7q ⟨a, b, c, d⟩
theorem v0r (a b c d : Int) : ∃ N, Yv (y7l a b c d) N (z7p a b c d) = .ret [.bool (vl4V a b c d)] := ⟨0, by
 unfold z7p vl4V z7q
 simp only [x0x]
 cases decide (a < c) <;> cases decide (b < d) <;> cases decide (a ≥ -1000000) <;> cases decide (a ≤ 1000000) <;> cases decide (c ≥ -1000000) <;> cases decide (c ≤ 1000000) <;> cases decide (b ≥ -1000000) <;> cases decide (b ≤ 1000000) <;> cases decide (d ≥ -1000000) <;> rfl⟩
def fVl4 : List AVal → Option (AVal × Bool)
 | [.agg [.int .i64 aS, .int .i64 aR, .int .i64 aO, .int .i64 bA]] => some (.bool (vl4V aS aR aO bA), true)
 | _ => none
theorem v3u {S : Specs} (hS : Zu prog S) : Zu prog (S.with x2b fVl4) := by
 refine z1m hS (by kernel_rfl) fun args v h => ?_
 unfold fVl4 at h
 split at h
 ·rename_i aS aR aO bA
  simp only [Option.some.injEq, Prod.mk.injEq, and_true] at h
  subst h
  obtain ⟨N, hN⟩ := v0r aS aR aO bA
  exact ⟨_, _, (.cons (.refl _) .nil), rfl, w1y aS aR aO bA N _ hN, 3, rfl⟩
 ·cases h
def fMad : List AVal → Option (AVal × Bool)
 | [a0] => match asL R4 a0 with
  | some (L0, g0, n0) => some (.tup [.dat (Jt L0).length (Zz (Jt L0)), .int .i64 (z4s L0)], isT R4 n0 g0 && (z1w L0))
  | _ => none
 | _ => none
theorem v4i {S : Specs} (hS : Zu prog S) : Zu prog (S.with x9i fMad) := by
 refine w9v hS (by kernel_rfl) fun args v h => ?_
 unfold fMad at h
 split at h
 ·rename_i a0
  split at h
  ·rename_i L0 g0 n0 e0
   simp only [Option.some.injEq, Prod.mk.injEq, Bool.and_eq_true] at h
   obtain ⟨rfl, ho0, hw⟩ := h
   obtain ⟨N, hN⟩ := v2v L0 hw
   exact ⟨_, _, (.cons (Yh e0 ho0) .nil), y3a _ _, w3y L0 N _ hN, 3, y8o _ _⟩
  ·cases h
 ·cases h
def T6v : Specs := (T6.with x2b fVl4)
theorem T6v_ok : Zu prog T6v := (v3u Jz)
def T6m : Specs := (T6v.with x9i fMad)
theorem y1a : Zu prog T6m := (v4i T6v_ok)
end Go.Am
namespace Go.Am
open Go.Proofs.Tryz
open Go.Proofs
inductive rgmS where
 | h0 (v8 : Int)
def rgmC (l0 : List R4) : rgmS → Cfg
 | .h0 v8 => ⟨⟨19, 0, true⟩, none, (Zg prog 171 [1, 0, 1, 0, 0] 0), none, (Zy prog 3), ⟨Yj [(0, (.dat l0.length (Zz l0))), (1, (.fn 152 [])), (7, (ii (l0.length : Int))), (8, (ii v8))], Vf [] 0, 0, [], true⟩, [⟨⟨9, 0, true⟩, (Vv prog 151 [1, 0] 2), (Zg prog 151 [1, 0] 1), none, (Zy prog 3), Yj [(5, (.dat l0.length (Zz l0))), (6, (.fn 152 []))]⟩, ⟨⟨13, 0, true⟩, (Vv prog 130 [1, 1, 0, 0] 1), (Zg prog 130 [1, 1, 0, 0] 1), none, (Zy prog 77), Yj [(0, (.dat l0.length (Zz l0))), (7, (.dat l0.length (Zz l0)))]⟩], .leaf⟩
def rgmN0 : List (Option (List Nat)) := [some [0, 1, 7, 8], some [5, 6], some [0, 7]]
def rgmM0 : List (Option (List Nat)) := []
def z1q (l0 : List R4) : rgmS → Xd rgmS
 | .h0 v8 => (bif (decide (v8 < (l0.length : Int))) then (bif ((decide (0 ≤ v8 ∧ v8 < (l0.length : Int))) && true) then (bif (!(vl4V (rd l0 v8.toNat).a (rd l0 v8.toNat).b (rd l0 v8.toNat).c (rd l0 v8.toNat).d)) then (bif (decide (v8 ≥ 0)) then (.ret [.nils, (.int .i64 8)]) else (bif (z1w (cvT l0)) then (.ret [(.dat (Jt (cvT l0)).length (Zz (Jt (cvT l0)))), (.int .i64 (z4s (cvT l0)))]) else .stuck)) else (.to (.h0 (IntKind.wrap .i64 (v8 + 1))))) else .stuck) else (bif (z1w (cvT l0)) then (.ret [(.dat (Jt (cvT l0)).length (Zz (Jt (cvT l0)))), (.int .i64 (z4s (cvT l0)))]) else .stuck))
def z4i (l0 : List R4) : Xd rgmS := (bif (decide ((l0.length : Int) > 400)) then (.ret [.nils, (.int .i64 4)]) else (.to (.h0 0)))
theorem x4g (l0 : List R4) : ∀ s, Wj prog (Zy prog 130) (rgmC l0) (rgmC l0 s) (z1q l0 s)
 | .h0 v8 => (lb (fun k0 => (lo fun aH => (lb (fun k1 => (lb (fun k2 => (lr 13 130 [1, 1, 0, 1, 0, 0] 1 77 [(2, .nils), (3, (ii 8))] (sl y1a 54 [] ⟨[], [], [some [2, 3]], []⟩ ⟨[], [], []⟩ (trs 3 []) (tt k2 (tt k1 (ww aH (tt k0 nn))))))) (fun k2 => (lo fun o0 => (lr 13 3 [1, 1, 1, 1, 1, 1, 0] 1 77 [(2, (.dat (Jt (cvT l0)).length (Zz (Jt (cvT l0))))), (3, (ii (z4s (cvT l0))))] (sl y1a 59 [] ⟨[], [], [some [2, 3]], []⟩ ⟨[], [], []⟩ [true, true, false] (pp (pp (xr l0) (xw o0)) (tt k2 (tt k1 (ww aH (tt k0 nn))))))))))) (fun k1 => (sl y1a 44 [] ⟨[], [], rgmN0, rgmM0⟩ ⟨[], [], []⟩ [true, false] (tt k1 (ww aH (tt k0 nn)))))))) (fun k0 => (lo fun o0 => (lr 13 3 [1, 1, 1, 1, 1, 1, 0] 1 77 [(2, (.dat (Jt (cvT l0)).length (Zz (Jt (cvT l0))))), (3, (ii (z4s (cvT l0))))] (sl y1a 28 [] ⟨[], [], [some [2, 3]], []⟩ ⟨[], [], []⟩ [false, false] (pp (pp (xr l0) (xw o0)) (tt k0 nn)))))))
theorem y8m (l0 : List R4) : Wj prog (Zy prog 130) (rgmC l0) (Zf prog 130 [(.dat l0.length (Zz l0))] true []) (z4i l0) := (lb (fun k0 => (lr 13 130 [1, 0, 1, 0, 0] 1 77 [(2, .nils), (3, (ii 4))] (sl y1a 18 [] ⟨[], [], [some [2, 3]], []⟩ ⟨[], [], []⟩ [true] (tt k0 nn)))) (fun k0 => (sl y1a 41 [] ⟨[], [], rgmN0, rgmM0⟩ ⟨[], [], []⟩ [false] (tt k0 nn))))
theorem w3c (l0 : List R4) (n : Nat) (vs : List AVal) (h : Yv (z1q l0) n (z4i l0) = .ret vs) : Jo prog (Zy prog 130) (Zf prog 130 [(.dat l0.length (Zz l0))] true []) vs := by
 have := Zo (x4g l0) n _ (y8m l0)
 rwa [h] at this
end Go.Am
namespace Go.Am
open Go.Proofs.Tryz
open Go.Proofs
open Go.Sort Go.Shelf Go.RowKit Go.Lib
theorem w8f (l : List R4) (hl : l.length ≤ 400) : ∀ (k i : Nat), i + k = l.length → (∀ s ∈ l.take i, z7q s = true) → ∃ n, Yv (z1q l) n (.to (.h0 (i : Int))) = .ret (bif l.all z7q then [.dat (Jt l).length (Zz (Jt l)), .int .i64 (z4s l)] else [.nils, .int .i64 8])
 | 0, i, h, ht => by
  have hv : l.all z7q = true := List.all_eq_true.2 fun s hs => ht s (by rw [List.take_of_length_le (by omega)]; exact hs)
  have w : z1w l = true := decide_eq_true hl
  refine ⟨1, ?_⟩
  rw [Zv, hv, cond_true]
  simp (disch := omega) only [z1q, Zb, w, Yz, cond_true, cond_false, Zm]
 | k + 1, i, h, ht => by
  have hi : i < l.length := by omega
  have hs : z1q l (.h0 (i : Int)) = bif z7q (rd l i) then .to (.h0 ((i + 1 : Nat) : Int)) else .ret [.nils, .int .i64 8] := by
   have e : vl4V (rd l i).a (rd l i).b (rd l i).c (rd l i).d = z7q (rd l i) := rfl
   simp (disch := omega) only [z1q, e, y4a, x2y, w0s, Zt, Zq, Zx, Zj, Bool.and_true, cond_true, cond_false]
  rcases Yg (z7q (rd l i)) with q | q
  ·obtain ⟨n, hn⟩ := w8f l hl k (i + 1) (by omega) (fun s hs => by
    rw [List.take_add_one] at hs
    have e : l[i]? = some (rd l i) := by rw [Ww hi]; exact List.getElem?_eq_getElem _
    rw [e] at hs
    simp only [Option.toList_some, List.mem_append, List.mem_singleton] at hs
    rcases hs with hs | rfl
    ·exact ht s hs
    ·exact q)
   refine ⟨n + 1, ?_⟩
   rw [Zv, hs, q, cond_true]
   exact hn
  ·have hv : l.all z7q = false := Bool.eq_false_iff.2 fun e => by
    have := List.all_eq_true.1 e (rd l i) (by rw [Ww hi]; exact List.getElem_mem hi)
    rw [this] at q; cases q
   refine ⟨1, ?_⟩
   rw [Zv, hv, cond_false, hs, q, cond_false, Zm]
theorem w3b (l : List R4) : ∃ n, Yv (z1q l) n (z4i l) = .ret (bif decide (400 < l.length) then [.nils, .int .i64 4] else bif l.all z7q then [.dat (Jt l).length (Zz (Jt l)), .int .i64 (z4s l)] else [.nils, .int .i64 8]) := by
 unfold z4i
 by_cases h : 400 < l.length
 ·refine ⟨0, ?_⟩
  rw [decide_eq_true h, Yr (show (l.length : Int) > 400 by omega)]; rfl
 ·obtain ⟨n, hn⟩ := w8f l (by omega) l.length 0 (Nat.zero_add _) (fun s hs => by simp at hs)
  refine ⟨n, ?_⟩
  rw [decide_eq_false h, Xk (show ¬ (l.length : Int) > 400 by omega), cond_false, cond_false]
  exact hn
def Yc (l : List R4) : List R4 := bif decide (400 < l.length) then [] else bif l.all z7q then (bif decide (((D4.out l).length : Int) > 400) then [] else D4.out l) else []
def Js (l : List R4) : Int := bif decide (400 < l.length) then 4 else bif l.all z7q then (bif decide (((D4.out l).length : Int) > 400) then 4 else 0) else 8
def Qs (l : List R4) : Bool := true
theorem v2f (l : List R4) (h : Qs l = true) : ∃ n, Yv (z1q l) n (z4i l) = .ret (bif decide (400 < l.length) then [.nils, .int .i64 4] else bif l.all z7q then [.dat (Yc l).length (Zz (Yc l)), .int .i64 (Js l)] else [.nils, .int .i64 8]) := by
 obtain ⟨n, hn⟩ := w3b l
 refine ⟨n, hn.trans ?_⟩
 cases h1 : decide (400 < l.length) <;> cases h2 : l.all z7q <;> simp only [cond_true, cond_false]
 have e0 : Jt l = Yc l := by
  unfold Jt madE w9w v0f Yc
  rw [h1, h2]
  cases decide (((D4.out l).length : Int) > 400) <;> rfl
 have e1 : z4s l = Js l := by
  unfold z4s madE v0f Js
  rw [h1, h2]; rfl
 rw [e0, e1]
def fRgm : List AVal → Option (AVal × Bool)
 | [a0] => match asL R4 a0 with
  | some (L0, g0, n0) => some (.tup [.dat (Yc L0).length (Zz (Yc L0)), .int .i64 (Js L0)], isT R4 n0 g0 && (Qs L0))
  | _ => none
 | _ => none
theorem v4b {S : Specs} (hS : Zu prog S) : Zu prog (S.with x2c fRgm) := by
 refine w9v hS (by kernel_rfl) fun args v h => ?_
 unfold fRgm at h
 split at h
 ·rename_i a0
  split at h
  ·rename_i L0 g0 n0 e0
   simp only [Option.some.injEq, Prod.mk.injEq, Bool.and_eq_true] at h
   obtain ⟨rfl, ho0, hw⟩ := h
   obtain ⟨N, hN⟩ := v2f L0 hw
   refine ⟨_, _, (.cons (Yh e0 ho0) .nil), ?_, w3c L0 N _ hN, 3, ?_⟩
   ·cases h1 : decide (400 < L0.length) <;> cases h2 : L0.all z7q <;> simp only [Yc, Js, h1, h2, cond_true, cond_false]
    ·exact fun ρ u hu => z3y (.cons (z0u R4) (RLe.refl _)) ρ u hu
    ·exact fun ρ u hu => hu
    ·exact fun ρ u hu => z3y (.cons (z0u R4) (RLe.refl _)) ρ u hu
    ·exact fun ρ u hu => z3y (.cons (z0u R4) (RLe.refl _)) ρ u hu
   ·cases decide (400 < L0.length) <;> cases L0.all z7q <;> rfl
  ·cases h
 ·cases h
def T7 : Specs := (T6m.with x2c fRgm)
theorem y7e : Zu prog T7 := (v4b y1a)
end Go.Am
namespace Go.Am
open Go.Proofs.Tryz
open Go.Proofs
inductive vl6S where
def vl6C (aS : Int) (aR : Int) (aO : Int) (bA : Int) (bK : Int) (bC : Int) : vl6S → Cfg
 := nofun
def y7j (aS : Int) (aR : Int) (aO : Int) (bA : Int) (bK : Int) (bC : Int) : vl6S → Xd vl6S
 := nofun
def z7o (aS : Int) (aR : Int) (aO : Int) (bA : Int) (bK : Int) (bC : Int) : Xd vl6S := (bif (decide (aS < bA)) then (bif (decide (aR < bK)) then (bif (decide (aO < bC)) then (bif (decide ((Kz (Kz aS aR) aO) ≥ (-1000000))) then (bif (decide ((Wt (Wt aS aR) aO) ≤ 1000000)) then (bif (decide ((Kz (Kz bA bK) bC) ≥ (-1000000))) then (.ret [(.bool (decide ((Wt (Wt bA bK) bC) ≤ 1000000)))]) else (.ret [(.bool false)])) else (.ret [(.bool false)])) else (.ret [(.bool false)])) else (.ret [(.bool false)])) else (.ret [(.bool false)])) else (.ret [(.bool false)]))
theorem x3f (aS : Int) (aR : Int) (aO : Int) (bA : Int) (bK : Int) (bC : Int) : ∀ s, Wj prog (Zy prog 107) (vl6C aS aR aO bA bK bC) (vl6C aS aR aO bA bK bC s) (y7j aS aR aO bA bK bC s)
 := nofun
theorem y7k (aS : Int) (aR : Int) (aO : Int) (bA : Int) (bK : Int) (bC : Int) : Wj prog (Zy prog 107) (vl6C aS aR aO bA bK bC) (Zf prog 107 [(.agg [(.int .i64 aS), (.int .i64 aR), (.int .i64 aO), (.int .i64 bA), (.int .i64 bK), (.int .i64 bC)])] true []) (z7o aS aR aO bA bK bC) := (lb (fun k0 => (lb (fun k1 => (lb (fun k2 => (lb (fun k3 => (lb (fun k4 => (lb (fun k5 => (lr 38 3 [1, 1, 1, 1, 1, 1, 0] 1 15 [(2, (.bool (decide ((Wt (Wt bA bK) bC) ≤ 1000000))))] (sl y7e 100 [] ⟨[], [], [some [2]], []⟩ ⟨[], [], []⟩ (trs 36 []) (tt k5 (tt k4 (tt k3 (tt k2 (tt k1 (tt k0 nn))))))))) (fun k5 => (lr 38 3 [1, 1, 1, 1, 1, 1, 0] 1 15 [(2, (.bool false))] (sl y7e 100 [] ⟨[], [], [some [2]], []⟩ ⟨[], [], []⟩ (trs 28 [false, false, false, false, false, false, false, false]) (tt k5 (tt k4 (tt k3 (tt k2 (tt k1 (tt k0 nn))))))))))) (fun k4 => (lr 38 3 [1, 1, 1, 1, 1, 1, 0] 1 15 [(2, (.bool false))] (sl y7e 72 [] ⟨[], [], [some [2]], []⟩ ⟨[], [], []⟩ (trs 25 [false, false, false]) (tt k4 (tt k3 (tt k2 (tt k1 (tt k0 nn)))))))))) (fun k3 => (lr 38 3 [1, 1, 1, 1, 1, 1, 0] 1 15 [(2, (.bool false))] (sl y7e 72 [] ⟨[], [], [some [2]], []⟩ ⟨[], [], []⟩ (trs 17 [false, false, false, false, false, false, false, false, false, false, false]) (tt k3 (tt k2 (tt k1 (tt k0 nn))))))))) (fun k2 => (lr 38 3 [1, 1, 1, 1, 1, 1, 0] 1 15 [(2, (.bool false))] (sl y7e 44 [] ⟨[], [], [some [2]], []⟩ ⟨[], [], []⟩ (trs 14 [false, false, false, false, false, false]) (tt k2 (tt k1 (tt k0 nn)))))))) (fun k1 => (lr 38 3 [1, 1, 1, 1, 1, 1, 0] 1 15 [(2, (.bool false))] (sl y7e 44 [] ⟨[], [], [some [2]], []⟩ ⟨[], [], []⟩ (trs 7 [false, false, false, false, false, false, false, false, false, false, false, false, false]) (tt k1 (tt k0 nn))))))) (fun k0 => (lr 38 3 [1, 1, 1, 1, 1, 1, 0] 1 15 [(2, (.bool false))] (sl y7e 44 [] ⟨[], [], [some [2]], []⟩ ⟨[], [], []⟩ [false, false, false, false, false, false, false, false, false, false, false, false, false, false, false, false, false, false, false, false] (tt k0 nn)))))
theorem w1x (aS : Int) (aR : Int) (aO : Int) (bA : Int) (bK : Int) (bC : Int) (n : Nat) (vs : List AVal) (h : Yv (y7j aS aR aO bA bK bC) n (z7o aS aR aO bA bK bC) = .ret vs) : Jo prog (Zy prog 107) (Zf prog 107 [(.agg [(.int .i64 aS), (.int .i64 aR), (.int .i64 aO), (.int .i64 bA), (.int .i64 bK), (.int .i64 bC)])] true []) vs := by
 have := Zo (x3f aS aR aO bA bK bC) n _ (y7k aS aR aO bA bK bC)
 rwa [h] at this
end Go.Am
namespace Go.Am
open Go.Proofs.Tryz
open Go.Proofs
open Go.Sort Go.Shelf Go.RowKit Go.Lib
def z2x (r : R6) : Bool := decide (r.a < r.d) && (decide (r.b < r.e) && (decide (r.c < r.f) && (decide ((Kz (Kz r.a r.b) r.c) ≥ (-1000000)) && (decide ((Wt (Wt r.a r.b) r.c) ≤ 1000000) && (decide ((Kz (Kz r.d r.e) r.f) ≥ (-1000000)) && decide ((Wt (Wt r.d r.e) r.f) ≤ 1000000))))))
def v0q (a b c d e f : Int) : Bool := z2x ⟨a, b, c, d, e, f⟩
theorem v0p (a b c d e f : Int) : ∃ N, Yv (y7j a b c d e f) N (z7o a b c d e f) = .ret [.bool (v0q a b c d e f)] := ⟨0, by
 unfold z7o v0q z2x
 simp only [x0x]
 cases decide (a < d) <;> cases decide (b < e) <;> cases decide (c < f) <;> cases decide ((Kz (Kz a b) c) ≥ (-1000000)) <;> cases decide ((Wt (Wt a b) c) ≤ 1000000) <;> cases decide ((Kz (Kz d e) f) ≥ (-1000000)) <;> rfl⟩
def fVl6 : List AVal → Option (AVal × Bool)
 | [.agg [.int .i64 aS, .int .i64 aR, .int .i64 aO, .int .i64 bA, .int .i64 bK, .int .i64 bC]] => some (.bool (v0q aS aR aO bA bK bC), true)
 | _ => none
theorem v3t {S : Specs} (hS : Zu prog S) : Zu prog (S.with x2a fVl6) := by
 refine z1m hS (by kernel_rfl) fun args v h => ?_
 unfold fVl6 at h
 split at h
 ·rename_i aS aR aO bA bK bC
  simp only [Option.some.injEq, Prod.mk.injEq, and_true] at h
  subst h
  obtain ⟨N, hN⟩ := v0p aS aR aO bA bK bC
  exact ⟨_, _, (.cons (.refl _) .nil), rfl, w1x aS aR aO bA bK bC N _ hN, 3, rfl⟩
 ·cases h
def T7v : Specs := (T7.with x2a fVl6)
theorem Vu : Zu prog T7v := (v3t y7e)
end Go.Am
namespace Go.Am
open Go.Proofs.Tryz
open Go.Proofs
inductive sckS where
 | h0 (v8 : Int)
 | h1 (v16 : Int) (aA : List Int)
 | h2 (v4 : Int) (aC : List R6) (bP : List R4) (bY : Int) (bZ : Int) (aJ : Nat) (aM : List Int)
 | h3 (v4 : Int) (v38 : Int) (aC : List R6) (bP : List R4) (bY : Int) (bZ : Int) (aJ : Nat) (aM : List Int) (bM : Int) (cE : Int) (aD : List R4)
 | h4 (v1 : Int) (v2 : Int) (v72 : List R4) (v73 : Int) (v74 : Int) (bN : List R4) (bD : Int) (aF : List R6) (bL : List R4) (bS : Int) (aJ : Nat) (aM : List Int) (bM : List R4)
 | h5 (v2 : Int) (v8 : Int) (cJ : Int) (bN : List R4) (bD : Int) (aF : List R6) (bL : List R4) (bS : Int) (cN : Int) (cA : Nat) (cH : List Int) (aD : List R4)
def sckC (l0 : List R6) : sckS → Cfg
 | .h0 v8 => ⟨⟨19, 0, true⟩, none, (Zg prog 124 [1, 0, 1, 0, 0] 0), none, (Zy prog 3), ⟨Yj [(0, (.dat l0.length (Zz l0))), (1, (.fn 106 [])), (7, (ii (l0.length : Int))), (8, (ii v8))], Vf [] 0, 0, [], true⟩, [⟨⟨9, 0, true⟩, (Vv prog 86 [1, 0] 2), (Zg prog 86 [1, 0] 1), none, (Zy prog 3), Yj [(5, (.dat l0.length (Zz l0))), (6, (.fn 106 []))]⟩, ⟨⟨25, 0, true⟩, (Vv prog 72 [1, 1, 0, 0] 1), (Zg prog 72 [1, 1, 0, 0] 1), none, (Zy prog 15), Yj [(0, (.dat l0.length (Zz l0))), (8, (.dat l0.length (Zz l0)))]⟩], .leaf⟩
 | .h1 v16 aA => ⟨⟨36, 0, true⟩, none, (Zg prog 129 [1, 1, 0, 1, 0, 0, 1, 1, 0, 0, 1, 1, 0, 0] 0), none, (Zy prog 15), ⟨Yj [(1, (.ptr 0 0)), (3, (.ptr 2 0)), (8, (.sl 1 0 1 (.un 1))), (9, (ii 1)), (10, (ii 0)), (14, (.dat l0.length (Zz l0))), (15, (ii (l0.length : Int))), (16, (ii v16))], Vf [⟨[(.sl 1 0 1 (.un 1))], 168, none⟩, ⟨[(.dat l0.length (Zz l0))], 22, none⟩, ⟨[(.sla 7 1 0 aA.length (.un 1))], 47, none⟩, ⟨[.nilf], 124, none⟩, ⟨[.nils], 30, none⟩, ⟨[(ii 0)], 24, none⟩, ⟨[.nils, .nils, (ii 0), (ii 0)], 170, none⟩, ⟨rows aA.length (Zz aA), 3, some ⟨1, aA.length, (Zz aA)⟩⟩] 0, 8, [], true⟩, [⟨⟨65, 0, true⟩, (Vv prog 108 [1, 1, 0, 0] 1), (Zg prog 108 [1, 1, 0, 0] 1), none, (Zy prog 36), Yj [(2, (.ptr 3 0)), (4, (.ptr 4 0)), (5, (.ptr 5 0)), (6, (.ptr 6 0)), (13, (.sl 1 0 1 (.un 1)))]⟩, ⟨⟨25, 0, true⟩, (Vv prog 72 [1, 1, 1, 0, 0] 3), (Zg prog 72 [1, 1, 1, 0, 0] 1), none, (Zy prog 15), Yj [(0, (.dat l0.length (Zz l0))), (11, (.agg [.nilf])), (13, (.sl 1 0 1 (.un 1)))]⟩], .leaf⟩
 | .h2 v4 aC bP bY bZ aJ aM => ⟨⟨86, 0, true⟩, none, (Zg prog 150 [1, 0, 0] 0), none, [], ⟨Yj [(0, (.yld 0)), (1, (.ptr 5 0)), (2, (.ptr 7 0)), (4, (ii v4))], z4r [(1, ⟨[.nilf], 124, none⟩), (2, ⟨[.nils], 30, none⟩), (3, ⟨[(ii 0)], 24, none⟩), (4, ⟨[(.sla 9 6 0 aC.length (.un 6)), (.dat bP.length (Zz bP)), (ii bY), (ii bZ)], 170, none⟩), (5, ⟨[(.sla 6 1 0 aJ (.un 1))], 47, none⟩), (6, ⟨rows aM.length (Zz aM), 3, some ⟨1, aM.length, (Zz aM)⟩⟩), (7, ⟨[(.sl 8 0 1 (.un 1))], 168, none⟩), (8, ⟨[(.dat l0.length (Zz l0))], 22, none⟩), (9, ⟨rows aC.length (Zz aC), 68, some ⟨6, aC.length, (Zz aC)⟩⟩)], 10, [], true⟩, [⟨⟨65, 0, true⟩, none, (.inRangeFunc 0 :: (Zg prog 108 [1, 1, 0, 1, 0] 1)), none, (Zy prog 36), Yj [(4, (.ptr 2 0)), (5, (.ptr 3 0)), (6, (.ptr 4 0))]⟩, ⟨⟨25, 0, true⟩, (Vv prog 72 [1, 1, 1, 0, 0] 3), (Zg prog 72 [1, 1, 1, 0, 0] 1), none, (Zy prog 15), Yj [(0, (.dat l0.length (Zz l0))), (11, (.agg [.nilf])), (13, (.sl 8 0 1 (.un 1)))]⟩], (z4t [(0, ⟨.ready, none, 65, Yj [(2, (.ptr 1 0)), (4, (.ptr 2 0)), (5, (.ptr 3 0)), (6, (.ptr 4 0))], [15], (Xn prog 108 [1, 1, 0, 1, 0, 0]), (Xn prog 108 [1, 1, 0, 1, 0, 1])⟩)])⟩
 | .h3 v4 v38 aC bP bY bZ aJ aM bM cE aD => ⟨⟨86, 0, true⟩, none, (Zg prog 150 [1, 0, 0, 1, 0, 0, 1, 0, 1, 0, 0, 1, 1, 0, 0, 1, 1, 0, 0] 0), none, [], ⟨Yj [(0, (.yld 0)), (1, (.ptr 5 0)), (2, (.ptr 7 0)), (4, (ii v4)), (5, (.ptr 9 0)), (6, (ii 0)), (29, (.sl 8 0 1 (.un 1))), (30, (ii 1)), (31, (ii 0)), (36, (.dat l0.length (Zz l0))), (37, (ii (l0.length : Int))), (38, (ii v38))], z4r [(1, ⟨[.nilf], 124, none⟩), (2, ⟨[.nils], 30, none⟩), (3, ⟨[(ii 0)], 24, none⟩), (4, ⟨[(.sla 12 6 0 aC.length (.un 6)), (.dat bP.length (Zz bP)), (ii bY), (ii bZ)], 170, none⟩), (5, ⟨[(.sla 6 1 0 aJ (.un 1))], 47, none⟩), (6, ⟨rows aM.length (Zz aM), 3, some ⟨1, aM.length, (Zz aM)⟩⟩), (7, ⟨[(.sl 8 0 1 (.un 1))], 168, none⟩), (8, ⟨[(.dat l0.length (Zz l0))], 22, none⟩), (9, ⟨[(ii bM), (ii cE), (.sl 10 0 1 (.ex 1))], 175, none⟩), (10, ⟨[(.sla 11 4 0 aD.length (.un 4))], 105, none⟩), (11, ⟨rows aD.length (Zz aD), 114, some ⟨4, aD.length, (Zz aD)⟩⟩), (12, ⟨rows aC.length (Zz aC), 68, some ⟨6, aC.length, (Zz aC)⟩⟩)], 13, [], true⟩, [⟨⟨65, 0, true⟩, none, (.inRangeFunc 0 :: (Zg prog 108 [1, 1, 0, 1, 0] 1)), none, (Zy prog 36), Yj [(4, (.ptr 2 0)), (5, (.ptr 3 0)), (6, (.ptr 4 0))]⟩, ⟨⟨25, 0, true⟩, (Vv prog 72 [1, 1, 1, 0, 0] 3), (Zg prog 72 [1, 1, 1, 0, 0] 1), none, (Zy prog 15), Yj [(0, (.dat l0.length (Zz l0))), (11, (.agg [.nilf])), (13, (.sl 8 0 1 (.un 1)))]⟩], (z4t [(0, ⟨.ready, none, 65, Yj [(2, (.ptr 1 0)), (4, (.ptr 2 0)), (5, (.ptr 3 0)), (6, (.ptr 4 0))], [15], (Xn prog 108 [1, 1, 0, 1, 0, 0]), (Xn prog 108 [1, 1, 0, 1, 0, 1])⟩)])⟩
 | .h4 v1 v2 v72 v73 v74 bN bD aF bL bS aJ aM bM => ⟨⟨101, 0, true⟩, none, (Zg prog 131 [1, 1, 1, 0, 0] 0), none, [], ⟨Yj [(0, (.ptr 0 0)), (1, (ii v1)), (2, (ii v2)), (72, (.dat v72.length (Zz v72))), (73, (ii v73)), (74, (ii v74))], z4r [(0, ⟨[(.sla 10 6 0 aF.length (.un 6)), (.dat bL.length (Zz bL)), (ii bS), (ii v2)], 170, none⟩), (2, ⟨[.nilf], 124, none⟩), (3, ⟨[.nils], 30, none⟩), (4, ⟨[(ii 0)], 24, none⟩), (5, ⟨[(.sla 6 1 0 aJ (.un 1))], 47, none⟩), (6, ⟨rows aM.length (Zz aM), 3, some ⟨1, aM.length, (Zz aM)⟩⟩), (7, ⟨[(.sl 8 0 1 (.un 1))], 168, none⟩), (8, ⟨[(.dat l0.length (Zz l0))], 22, none⟩), (9, ⟨[(.dat bM.length (Zz bM))], 105, none⟩), (10, ⟨rows aF.length (Zz aF), 68, some ⟨6, aF.length, (Zz aF)⟩⟩)], 11, [], true⟩, [⟨⟨65, 0, true⟩, (Vv prog 108 [1, 1, 0, 1, 0, 1, 0, 1, 1, 1] 5), (Zg prog 108 [1, 1, 0, 1, 0, 1, 0, 1, 1, 1] 1), (some 1), [], Yj [(6, (.ptr 0 0)), (54, (ii v1)), (56, (ii v2)), (57, (.dat bN.length (Zz bN)))]⟩, ⟨⟨86, 0, true⟩, (Vv prog 150 [1, 0, 0, 1, 0, 0, 1, 1, 0] 2), (Zg prog 150 [1, 0, 0, 1, 0, 0, 1, 1, 0] 1), none, [], Yj [(0, (.yld 1)), (1, (.ptr 5 0)), (2, (.ptr 7 0)), (4, (ii bD)), (82, (.yld 1)), (83, (.agg [(ii v1), (ii v2), (.sl 9 0 1 (.ex 1))]))]⟩, ⟨⟨65, 0, true⟩, none, (.inRangeFunc 1 :: (Zg prog 108 [1, 1, 0, 1, 0] 1)), none, (Zy prog 36), Yj [(4, (.ptr 3 0)), (5, (.ptr 4 0)), (6, (.ptr 0 0))]⟩, ⟨⟨25, 0, true⟩, (Vv prog 72 [1, 1, 1, 0, 0] 3), (Zg prog 72 [1, 1, 1, 0, 0] 1), none, (Zy prog 15), Yj [(0, (.dat l0.length (Zz l0))), (11, (.agg [.nilf])), (13, (.sl 8 0 1 (.un 1)))]⟩], (z4t [(1, ⟨.busy, none, 65, Yj [(2, (.ptr 2 0)), (4, (.ptr 3 0)), (5, (.ptr 4 0)), (6, (.ptr 0 0))], [15], (Xn prog 108 [1, 1, 0, 1, 0, 0]), (Xn prog 108 [1, 1, 0, 1, 0, 1])⟩)])⟩
 | .h5 v2 v8 cJ bN bD aF bL bS cN cA cH aD => ⟨⟨101, 0, true⟩, none, (Zg prog 131 [0, 1, 0, 0, 1, 0, 0] 0), none, [], ⟨Yj [(0, (.ptr 0 0)), (2, (ii v2)), (8, (ii v8))], z4r [(0, ⟨[(.sla 1 6 0 aF.length (.un 6)), (.dat bL.length (Zz bL)), (ii bS), (ii cN)], 170, none⟩), (1, ⟨rows aF.length (Zz aF), 68, some ⟨6, aF.length, (Zz aF)⟩⟩), (3, ⟨[.nilf], 124, none⟩), (4, ⟨[.nils], 30, none⟩), (5, ⟨[(ii 0)], 24, none⟩), (6, ⟨[(.sla 7 1 0 cA (.un 1))], 47, none⟩), (7, ⟨rows cH.length (Zz cH), 3, some ⟨1, cH.length, (Zz cH)⟩⟩), (8, ⟨[(.sl 9 0 1 (.un 1))], 168, none⟩), (9, ⟨[(.dat l0.length (Zz l0))], 22, none⟩), (10, ⟨[(.dat aD.length (Zz aD))], 105, none⟩)], 11, [], true⟩, [⟨⟨65, 0, true⟩, (Vv prog 108 [1, 1, 0, 1, 0, 1, 0, 1, 1, 1] 5), (Zg prog 108 [1, 1, 0, 1, 0, 1, 0, 1, 1, 1] 1), (some 2), [], Yj [(6, (.ptr 0 0)), (54, (ii cJ)), (56, (ii v2)), (57, (.dat bN.length (Zz bN)))]⟩, ⟨⟨86, 0, true⟩, (Vv prog 150 [1, 0, 0, 1, 0, 0, 1, 1, 0] 2), (Zg prog 150 [1, 0, 0, 1, 0, 0, 1, 1, 0] 1), none, [], Yj [(0, (.yld 2)), (1, (.ptr 6 0)), (2, (.ptr 8 0)), (4, (ii bD)), (82, (.yld 2)), (83, (.agg [(ii cJ), (ii v2), (.sl 10 0 1 (.ex 1))]))]⟩, ⟨⟨65, 0, true⟩, none, (.inRangeFunc 2 :: (Zg prog 108 [1, 1, 0, 1, 0] 1)), none, (Zy prog 36), Yj [(4, (.ptr 4 0)), (5, (.ptr 5 0)), (6, (.ptr 0 0))]⟩, ⟨⟨25, 0, true⟩, (Vv prog 72 [1, 1, 1, 0, 0] 3), (Zg prog 72 [1, 1, 1, 0, 0] 1), none, (Zy prog 15), Yj [(0, (.dat l0.length (Zz l0))), (11, (.agg [.nilf])), (13, (.sl 9 0 1 (.un 1)))]⟩], (z4t [(2, ⟨.busy, none, 65, Yj [(2, (.ptr 3 0)), (4, (.ptr 4 0)), (5, (.ptr 5 0)), (6, (.ptr 0 0))], [15], (Xn prog 108 [1, 1, 0, 1, 0, 0]), (Xn prog 108 [1, 1, 0, 1, 0, 1])⟩)])⟩
def sckN0 : List (Option (List Nat)) := [some [0, 1, 7, 8], some [5, 6], some [0, 8]]
def sckM0 : List (Option (List Nat)) := []
def v1j : List (Option (List Nat)) := [some [1, 3, 8, 9, 10, 14, 15, 16], some [2, 4, 5, 6, 13], some [0, 11, 13]]
def v1l : List (Option (List Nat)) := []
def v1i : List (Option (List Nat)) := [some [0, 1, 2, 4], some [4, 5, 6], some [0, 11, 13]]
def v1k : List (Option (List Nat)) := [some [2, 4, 5, 6], none, none, none, none, none, none, none, none, none]
def w2k : List (Option (List Nat)) := [some [0, 1, 2, 4, 5, 6, 29, 30, 31, 36, 37, 38], some [4, 5, 6], some [0, 11, 13]]
def w2m : List (Option (List Nat)) := [some [2, 4, 5, 6], none, none, none, none, none, none, none, none, none, none, none, none]
def w2j : List (Option (List Nat)) := [some [0, 1, 2, 72, 73, 74], some [6, 54, 56, 57], some [0, 1, 2, 4, 82, 83], some [4, 5, 6], some [0, 11, 13]]
def w2l : List (Option (List Nat)) := [none, some [2, 4, 5, 6], none, none, none, none, none, none, none, none, none]
def sckN5 : List (Option (List Nat)) := [some [0, 2, 8], some [6, 54, 56, 57], some [0, 1, 2, 4, 82, 83], some [4, 5, 6], some [0, 11, 13]]
def sckM5 : List (Option (List Nat)) := [none, none, some [2, 4, 5, 6], none, none, none, none, none, none, none, none]
def Xw (l0 : List R6) : sckS → Xd sckS
 | .h0 v8 => (bif (decide (v8 < (l0.length : Int))) then (bif ((decide (0 ≤ v8 ∧ v8 < (l0.length : Int))) && true) then (bif (!(v0q (rd l0 v8.toNat).a (rd l0 v8.toNat).b (rd l0 v8.toNat).c (rd l0 v8.toNat).d (rd l0 v8.toNat).e (rd l0 v8.toNat).f)) then (bif (decide (v8 ≥ 0)) then (.ret [(.int .i64 8)]) else (.to (.h1 0 ([] : List Int)))) else (.to (.h0 (IntKind.wrap .i64 (v8 + 1))))) else .stuck) else (.to (.h1 0 ([] : List Int))))
 | .h1 v16 aA => (bif (decide (v16 < (l0.length : Int))) then (bif ((decide (0 ≤ v16 ∧ v16 < (l0.length : Int))) && true) then (bif (Nat.beq 1 1 && ((decide (0 + aA.length = aA.length)) && decide ((aA.length + 2 + 1) * (8 + 1) ≤ Jb))) then (.to (.h1 (IntKind.wrap .i64 (v16 + 1)) (aA ++ [(rd l0 v16.toNat).c, (rd l0 v16.toNat).f]))) else .stuck) else .stuck) else (bif (decide (aA.length < 4611686018427387904)) then (bif (decide (aA.length = aA.length)) then (.to (.h2 1 ([] : List R6) ([] : List R4) 0 0 (w6q (Za aA.length (cOf (Zz (Yo (Za aA.length (cOf (Zz aA)))))))) (Xv (Za aA.length (cOf (Zz (Yo (Za aA.length (cOf (Zz aA)))))))))) else .stuck) else .stuck))
 | .h2 v4 aC bP bY bZ aJ aM => (bif (decide (v4 < ((aJ : Nat) : Int))) then (bif ((decide (0 ≤ (IntKind.wrap .i64 (v4 - 1)) ∧ (IntKind.wrap .i64 (v4 - 1)) < ((aJ : Nat) : Int))) && true) then (bif (decide ((0 + (Int.toNat (IntKind.wrap .i64 (v4 - 1)))) < aM.length)) then (bif ((decide (0 ≤ v4 ∧ v4 < ((aJ : Nat) : Int))) && true) then (bif (decide ((0 + v4.toNat) < aM.length)) then (.to (.h3 v4 0 aC bP bY bZ aJ aM (rd aM (0 + (Int.toNat (IntKind.wrap .i64 (v4 - 1))))) (rd aM (0 + v4.toNat)) ([] : List R4))) else .stuck) else .stuck) else .stuck) else .stuck) else (bif (decide ((aC.length : Int) > 400)) then (.ret [(.int .i64 8)]) else (bif (Nat.beq 6 6 && (decide (0 + aC.length ≤ aC.length) && Qe (Zz aC))) then (bif (Vk (lst R6 (aC.length) (fun k => (Zz aC) (0 + k))) (cvT l0)) then (bif (!(Jw (lst R6 (aC.length) (fun k => (Zz aC) (0 + k))) (cvT l0))) then (.ret [(.int .i64 8)]) else (.ret [(.int .i64 0)])) else .stuck) else .stuck)))
 | .h3 v4 v38 aC bP bY bZ aJ aM bM cE aD => (bif (decide (v38 < (l0.length : Int))) then (bif ((decide (0 ≤ v38 ∧ v38 < (l0.length : Int))) && true) then (bif (decide ((rd l0 v38.toNat).c ≤ bM)) then (bif (decide (bM < (rd l0 v38.toNat).f)) then (bif (Nat.beq 4 4 && ((decide (0 + aD.length = aD.length)) && decide ((aD.length + 1 + 1) * (32 + 1) ≤ Jb))) then (.to (.h3 v4 (IntKind.wrap .i64 (v38 + 1)) aC bP bY bZ aJ aM bM cE (aD ++ [(R4.mk (rd l0 v38.toNat).a (rd l0 v38.toNat).b (rd l0 v38.toNat).d (rd l0 v38.toNat).e)]))) else .stuck) else (.to (.h3 v4 (IntKind.wrap .i64 (v38 + 1)) aC bP bY bZ aJ aM bM cE aD))) else (.to (.h3 v4 (IntKind.wrap .i64 (v38 + 1)) aC bP bY bZ aJ aM bM cE aD))) else .stuck) else (bif (Qs (cvT aD)) then (bif ((Js (cvT aD)) != 0) then (.ret [(.int .i64 8)]) else (bif (decide ((((Yc (cvT aD)).length : Nat) : Int) > 0)) then (bif (bZ == bM) then (bif (Wc (cvT bP) (cvT (Yc (cvT aD)))) then (bif (Ua (cvT bP) (cvT (Yc (cvT aD)))) then (.to (.h5 cE bY bM (Yc (cvT aD)) v4 aC bP bY bZ aJ aM aD)) else (.to (.h4 bM cE (Yc (cvT aD)) (((Yc (cvT aD)).length : Nat) : Int) 0 (Yc (cvT aD)) v4 aC (Yc (cvT aD)) (aC.length : Int) aJ aM aD))) else .stuck) else (.to (.h4 bM cE (Yc (cvT aD)) (((Yc (cvT aD)).length : Nat) : Int) 0 (Yc (cvT aD)) v4 aC (Yc (cvT aD)) (aC.length : Int) aJ aM aD))) else (.to (.h4 bM cE (Yc (cvT aD)) (((Yc (cvT aD)).length : Nat) : Int) 0 (Yc (cvT aD)) v4 aC (Yc (cvT aD)) (aC.length : Int) aJ aM aD)))) else .stuck))
 | .h4 v1 v2 v72 v73 v74 bN bD aF bL bS aJ aM bM => (bif (decide (v74 < v73)) then (bif ((decide (0 ≤ v74 ∧ v74 < (v72.length : Int))) && true) then (bif (Nat.beq 6 6 && ((decide (0 + aF.length = aF.length)) && decide ((aF.length + 1 + 1) * (48 + 1) ≤ Jb))) then (.to (.h4 v1 v2 v72 v73 (IntKind.wrap .i64 (v74 + 1)) bN bD (aF ++ [(R6.mk (rd v72 v74.toNat).a (rd v72 v74.toNat).b v1 (rd v72 v74.toNat).c (rd v72 v74.toNat).d v2)]) bL bS aJ aM bM)) else .stuck) else .stuck) else (.to (.h2 (IntKind.wrap .i64 (bD + 1)) aF bL bS v2 aJ aM)))
 | .h5 v2 v8 cJ bN bD aF bL bS cN cA cH aD => (bif (decide (v8 < (aF.length : Int))) then (bif ((decide (0 ≤ v8 ∧ v8 < (aF.length : Int))) && true) then (bif (decide ((0 + v8.toNat) < aF.length)) then (.to (.h5 v2 (IntKind.wrap .i64 (v8 + 1)) cJ bN bD (aF.set (0 + v8.toNat) (R6.mk (rd aF (0 + v8.toNat)).a (rd aF (0 + v8.toNat)).b (rd aF (0 + v8.toNat)).c (rd aF (0 + v8.toNat)).d (rd aF (0 + v8.toNat)).e v2)) bL bS cN cA cH aD)) else .stuck) else .stuck) else (.to (.h2 (IntKind.wrap .i64 (bD + 1)) aF bL bS v2 cA cH)))
def z7v (l0 : List R6) : Xd sckS := (bif (decide ((l0.length : Int) > 400)) then (.ret [(.int .i64 4)]) else (.to (.h0 0)))
theorem x3r (l0 : List R6) : ∀ s, Wj prog (Zy prog 72) (sckC l0) (sckC l0 s) (Xw l0 s)
 | .h0 v8 => (lb (fun k0 => (lo fun aH => (lb (fun k1 => (lb (fun k2 => (lr 25 72 [1, 1, 0, 1, 0, 0] 1 15 [(2, (ii 8))] (sl Vu 53 [] ⟨[], [], [some [2]], []⟩ ⟨[], [], []⟩ (trs 3 []) (tt k2 (tt k1 (ww aH (tt k0 nn))))))) (fun k2 => (sl Vu 113 [(3, 1, Zz ([] : List Int))] ⟨[6, 1, 7, 2, 3, 4, 5, 8], [], v1j, v1l⟩ ⟨[], [.keep, .keep, .cells [.grow 7 1], .keep, .keep, .keep, .keep, .keep], []⟩ [true, true, false, true] (pp (fl ([] : List Int) nn) (tt k2 (tt k1 (ww aH (tt k0 nn))))))))) (fun k1 => (sl Vu 44 [] ⟨[], [], sckN0, sckM0⟩ ⟨[], [], []⟩ [true, false] (tt k1 (ww aH (tt k0 nn)))))))) (fun k0 => (sl Vu 82 [(3, 1, Zz ([] : List Int))] ⟨[5, 0, 6, 1, 2, 3, 4, 7], [], v1j, v1l⟩ ⟨[], [.keep, .keep, .cells [.grow 7 1], .keep, .keep, .keep, .keep, .keep], []⟩ [false, false, true] (pp (fl ([] : List Int) nn) (tt k0 nn)))))
 | .h1 v16 aA => (lb (fun k0 => (lo fun o0 => (lo fun o1 => (sl Vu 34 [] ⟨[0, 1, 2, 3, 4, 5, 6, 10], [], v1j, v1l⟩ ⟨[], [.keep, .keep, .cells [.len (aA ++ [(rd l0 (tn v16)).c, (rd l0 (tn v16)).f]).length], .keep, .keep, .keep, .keep, .rowed 1 (aA ++ [(rd l0 (tn v16)).c, (rd l0 (tn v16)).f]).length (Zz (aA ++ [(rd l0 (tn v16)).c, (rd l0 (tn v16)).f]))], []⟩ [true] (pp (xL (aA.length + 2) (aA ++ [(rd l0 (tn v16)).c, (rd l0 (tn v16)).f]).length) (pp (xL (aA.length + 2) (aA ++ [(rd l0 (tn v16)).c, (rd l0 (tn v16)).f]).length) (pp (xS (aA.length + 2) (Ze (Zz aA) 0 aA.length 1 [(ii (rd l0 (tn v16)).c), (ii (rd l0 (tn v16)).f)]) (Zz (aA ++ [(rd l0 (tn v16)).c, (rd l0 (tn v16)).f]))) (pp (pp (xF (Ze (Zz aA) 0 aA.length 1 [(ii (rd l0 (tn v16)).c), (ii (rd l0 (tn v16)).f)])) nn) (ww o1 (ww o0 (tt k0 nn))))))))))) (fun k0 => (lo fun o0 => (lo fun o1 => (sl Vu 46 [(68, 6, Zz ([] : List R6))] ⟨[8, 3, 4, 5, 6, 2, 7, 0, 1, 9], [], v1i, v1k⟩ ⟨[], (kpB 4 [.cells [.grow 9 6, .list 0 (Zz ([] : List R4)), .keep, .keep], .keep, .rowed 1 (Xv (Za aA.length (cOf (Zz (Yo (Za aA.length (cOf (Zz aA)))))))).length (Zz (Xv (Za aA.length (cOf (Zz (Yo (Za aA.length (cOf (Zz aA))))))))), .keep, .keep, .keep]), []⟩ [false, false] (pp (xL aA.length (Xv (Za aA.length (cOf (Zz (Yo (Za aA.length (cOf (Zz aA)))))))).length (by first | exact z0b _ _ | exact Uv rfl)) (pp (xS aA.length (Zz (Xv (Za aA.length (cOf (Zz (Yo (Za aA.length (cOf (Zz aA))))))))) (Zz (Xv (Za aA.length (cOf (Zz (Yo (Za aA.length (cOf (Zz aA)))))))))) (pp (fl (Xv (Za aA.length (cOf (Zz (Yo (Za aA.length (cOf (Zz aA)))))))) (fl ([] : List R6) nn)) (pp (pp (xG (Nat.beq 1 1)) (pp (xG (Nat.beq 1 1)) (pp (xG (Nat.beq 0 0)) (pp (xG (decide (aA.length = aA.length))) (pp (xG (isI (Zz (Yo (Za aA.length (cOf (Zz aA))))))) (xG (decide (aA.length < 4611686018427387904)))))))) (pp (pp (xG (Nat.beq 1 1)) (pp (xG (Nat.beq 1 1)) (pp (xG (Nat.beq 0 0)) (pp (xG (decide (aA.length = aA.length))) (pp (xG (isI (Zz aA))) (xG (decide (aA.length < 4611686018427387904)))))))) (tt k0 nn)))))))))))
 | .h2 v4 aC bP bY bZ aJ aM => (lb (fun k0 => (lo fun o0 => (lo fun o1 => (lo fun o2 => (lo fun o3 => (sl Vu 48 [(114, 4, Zz ([] : List R4))] ⟨[0, 1, 2, 3, 4, 5, 6, 7, 8, 10, 11, 12, 9], [], w2k, w2m⟩ ⟨[], (kpB 10 [.cells [.grow 11 4], .keep, .keep]), []⟩ (trs 3 []) (pp (fl aM (fl ([] : List R4) (fl aC nn))) (ww o3 (ww o2 (ww o1 (ww o0 (tt k0 nn)))))))))))) (fun k0 => (lb (fun k1 => (lr 25 72 [1, 1, 1, 0, 1, 1, 0, 0] 1 15 [(2, (ii 8))] (sl Vu 50 [] ⟨[], [], [some [2]], []⟩ ⟨[], [], []⟩ [false, true, true, true, true, true, true] (tt k1 (tt k0 nn))))) (fun k1 => (lo fun cL => (lo fun dK => (lb (fun k2 => (lr 25 72 [1, 1, 1, 0, 1, 1, 0, 0] 1 15 [(2, (ii 8))] (sl Vu 53 [] ⟨[], [], [some [2]], []⟩ ⟨[], [], []⟩ [false, false, false, false, false, false, true] (tt k2 (pp (pp (pp (xw cL) (pp nn nn)) (pp (xI R6 (aC.length) (fun k => (Zz aC) (0 + k))) (pp (xr l0) (xw dK)))) (tt k1 (tt k0 nn))))))) (fun k2 => (lr 25 3 [1, 1, 1, 1, 1, 1, 0] 1 15 [(2, (ii 0))] (sl Vu 54 [] ⟨[], [], [some [2]], []⟩ ⟨[], [], []⟩ [false, false, false, false, false, false, false] (tt k2 (pp (pp (pp (xw cL) (pp nn nn)) (pp (xI R6 (aC.length) (fun k => (Zz aC) (0 + k))) (pp (xr l0) (xw dK)))) (tt k1 (tt k0 nn))))))))))))))
 | .h3 v4 v38 aC bP bY bZ aJ aM bM cE aD => (lb (fun k0 => (lo fun aH => (lb (fun k1 => (lb (fun k2 => (lo fun o0 => (sl Vu 41 [] ⟨[0, 1, 2, 3, 4, 5, 6, 7, 8, 9, 10, 15, 12], [], w2k, w2m⟩ ⟨[], (kpB 10 [.cells [.len (aD ++ [(R4.mk (rd l0 (tn v38)).a (rd l0 (tn v38)).b (rd l0 (tn v38)).d (rd l0 (tn v38)).e)]).length], .rowed 4 (aD ++ [(R4.mk (rd l0 (tn v38)).a (rd l0 (tn v38)).b (rd l0 (tn v38)).d (rd l0 (tn v38)).e)]).length (Zz (aD ++ [(R4.mk (rd l0 (tn v38)).a (rd l0 (tn v38)).b (rd l0 (tn v38)).d (rd l0 (tn v38)).e)])), .keep]), []⟩ (trs 8 []) (pp (xL (aD.length + 1) (aD ++ [(R4.mk (rd l0 (tn v38)).a (rd l0 (tn v38)).b (rd l0 (tn v38)).d (rd l0 (tn v38)).e)]).length) (pp (xL (aD.length + 1) (aD ++ [(R4.mk (rd l0 (tn v38)).a (rd l0 (tn v38)).b (rd l0 (tn v38)).d (rd l0 (tn v38)).e)]).length) (pp (xS (aD.length + 1) (Ze (Zz aD) 0 aD.length 4 [(ii (rd l0 (tn v38)).a), (ii (rd l0 (tn v38)).b), (ii (rd l0 (tn v38)).d), (ii (rd l0 (tn v38)).e)]) (Zz (aD ++ [(R4.mk (rd l0 (tn v38)).a (rd l0 (tn v38)).b (rd l0 (tn v38)).d (rd l0 (tn v38)).e)]))) (pp (fl aM (pp (xF (Ze (Zz aD) 0 aD.length 4 [(ii (rd l0 (tn v38)).a), (ii (rd l0 (tn v38)).b), (ii (rd l0 (tn v38)).d), (ii (rd l0 (tn v38)).e)])) (fl aC nn))) (ww o0 (tt k2 (tt k1 (ww aH (tt k0 nn)))))))))))) (fun k2 => (sl Vu 41 [] ⟨(List.range 13), [], w2k, w2m⟩ ⟨[], [], []⟩ (trs 7 [false]) (pp (fl aM (fl aD (fl aC nn))) (tt k2 (tt k1 (ww aH (tt k0 nn))))))))) (fun k1 => (sl Vu 41 [] ⟨(List.range 13), [], w2k, w2m⟩ ⟨[], [], []⟩ [true, false, false, false, false, false, false, false] (pp (fl aM (fl aD (fl aC nn))) (tt k1 (ww aH (tt k0 nn))))))))) (fun k0 => (Xi (sl Vu (C' := ⟨⟨65, 0, true⟩, (Vv prog 108 [1, 1, 0, 1, 0, 1, 0, 0] 4), (Zg prog 108 [1, 1, 0, 1, 0, 1, 0, 0] 1), (some 0), [], ⟨Yj [(2, (.ptr 1 0)), (4, (.ptr 2 0)), (5, (.ptr 3 0)), (6, (.ptr 4 0)), (7, (.ptr 6 0)), (20, (.dat aD.length (Zz aD)))], z4r [(1, ⟨[.nilf], 124, none⟩), (2, ⟨[.nils], 30, none⟩), (3, ⟨[(ii 0)], 24, none⟩), (4, ⟨[(.sla 5 6 0 aC.length (.un 6)), (.dat bP.length (Zz bP)), (ii bY), (ii bZ)], 170, none⟩), (5, ⟨rows aC.length (Zz aC), 68, some ⟨6, aC.length, (Zz aC)⟩⟩), (6, ⟨[(ii bM), (ii cE), (.sl 7 0 1 (.ex 1))], 175, none⟩), (7, ⟨[(.dat aD.length (Zz aD))], 105, none⟩), (8, ⟨[(.sla 9 1 0 aJ (.un 1))], 47, none⟩), (9, ⟨rows aM.length (Zz aM), 3, some ⟨1, aM.length, (Zz aM)⟩⟩), (10, ⟨[(.sl 11 0 1 (.un 1))], 168, none⟩), (11, ⟨[(.dat l0.length (Zz l0))], 22, none⟩)], 12, [], true⟩, [⟨⟨86, 0, true⟩, (Vv prog 150 [1, 0, 0, 1, 0, 0, 1, 1, 0] 2), (Zg prog 150 [1, 0, 0, 1, 0, 0, 1, 1, 0] 1), none, [], Yj [(0, (.yld 0)), (1, (.ptr 8 0)), (2, (.ptr 10 0)), (4, (ii v4)), (82, (.yld 0)), (83, (.agg [(ii bM), (ii cE), (.sl 7 0 1 (.ex 1))]))]⟩, ⟨⟨65, 0, true⟩, none, (.inRangeFunc 0 :: (Zg prog 108 [1, 1, 0, 1, 0] 1)), none, (Zy prog 36), Yj [(4, (.ptr 2 0)), (5, (.ptr 3 0)), (6, (.ptr 4 0))]⟩, ⟨⟨25, 0, true⟩, (Vv prog 72 [1, 1, 1, 0, 0] 3), (Zg prog 72 [1, 1, 1, 0, 0] 1), none, (Zy prog 15), Yj [(0, (.dat l0.length (Zz l0))), (11, (.agg [.nilf])), (13, (.sl 11 0 1 (.un 1)))]⟩], (z4t [(0, ⟨.busy, none, 65, Yj [(2, (.ptr 1 0)), (4, (.ptr 2 0)), (5, (.ptr 3 0)), (6, (.ptr 4 0))], [15], (Xn prog 108 [1, 1, 0, 1, 0, 0]), (Xn prog 108 [1, 1, 0, 1, 0, 1])⟩)])⟩) 37 [] ⟨[0, 1, 2, 3, 4, 12, 13, 10, 5, 6, 7, 8], [11], [some [2, 4, 5, 6, 7, 20], some [0, 1, 2, 4, 82, 83], some [4, 5, 6], some [0, 11, 13]], [some [2, 4, 5, 6], none, none, none, none, none, none, none, none, none, none, none]⟩ ⟨[(20, .frz aD.length aD.length (Zz aD) (Zz aD))], [.keep, .keep, .keep, .keep, .keep, .keep, .keep, .cells [.frz aD.length aD.length (Zz aD) (Zz aD)], .keep, .keep, .keep, .keep], []⟩ [false, false] (pp (xZ (z4w 4 4 0 aD.length aD.length (Zz aD)) aD.length (Zz aD)) (pp (xL aD.length aD.length) (pp (xS aD.length (Zz aD) (Zz aD)) (pp (xZ (z4w 4 4 0 aD.length aD.length (Zz aD)) aD.length (Zz aD)) (pp (xL aD.length aD.length) (pp (xS aD.length (Zz aD) (Zz aD)) (pp (fl aC (fl aM nn)) (pp (fl aD nn) (tt k0 nn)))))))))) (lo fun aH => (lb (fun k1 => (lr 25 72 [1, 1, 1, 0, 1, 1, 0, 0] 1 15 [(2, (ii 8))] (sl Vu 67 [] ⟨[], [], [some [2]], []⟩ ⟨[], [], []⟩ [false, true, true, true, true, true, true, true] (tt k1 (tt k1 (pp (pp (xr aD) (xw aH)) nn)))))) (fun k1 => (lb (fun k2 => (lb (fun k3 => (lo fun cD => (lb (fun k4 => (sl Vu 75 [] ⟨[4, 5, 0, 1, 2, 3, 8, 9, 10, 11, 7], [], sckN5, sckM5⟩ ⟨[], [], []⟩ [false, false, true, true, true, true, true, true, true, true, true, true, true, true, true] (pp (fl aC (fl aM nn)) (tt k4 (pp (pp (xr bP) (pp (xI R4 (Yc (cvT aD)).length (Zz (Yc (cvT aD)))) (xw cD))) (tt k3 (tt k2 (tt k1 (pp (pp (xr aD) (xw aH)) nn))))))))) (fun k4 => (sl Vu 95 [] ⟨[4, 0, 1, 2, 3, 8, 9, 10, 11, 7, 5], [], w2j, w2l⟩ ⟨[], [], []⟩ [false, false, true, true, true, true, true, true, true, true, true, true, true, true, false] (pp (fl aM (fl aC nn)) (tt k4 (pp (pp (xr bP) (pp (xI R4 (Yc (cvT aD)).length (Zz (Yc (cvT aD)))) (xw cD))) (tt k3 (tt k2 (tt k1 (pp (pp (xr aD) (xw aH)) nn)))))))))))) (fun k3 => (sl Vu 95 [] ⟨[4, 0, 1, 2, 3, 8, 9, 10, 11, 7, 5], [], w2j, w2l⟩ ⟨[], [], []⟩ [false, false, true, true, true, true, true, true, false, false, false, false, false, false, false] (pp (fl aM (fl aC nn)) (tt k3 (tt k2 (tt k1 (pp (pp (xr aD) (xw aH)) nn))))))))) (fun k2 => (sl Vu 95 [] ⟨[4, 0, 1, 2, 3, 8, 9, 10, 11, 7, 5], [], w2j, w2l⟩ ⟨[], [], []⟩ [false, false, false, false, false, false, false, false, false, false, false, false, false, false, false] (pp (fl aM (fl aC nn)) (tt k2 (tt k1 (pp (pp (xr aD) (xw aH)) nn)))))))))))))
 | .h4 v1 v2 v72 v73 v74 bN bD aF bL bS aJ aM bM => (lb (fun k0 => (lo fun o0 => (lo fun o1 => (sl Vu 23 [] ⟨[0, 1, 2, 3, 4, 5, 6, 7, 8, 9, 13], [], w2j, w2l⟩ ⟨[], [.cells [.len (aF ++ [(R6.mk (rd v72 (tn v74)).a (rd v72 (tn v74)).b v1 (rd v72 (tn v74)).c (rd v72 (tn v74)).d v2)]).length, .keep, .keep, .keep], .keep, .keep, .keep, .keep, .keep, .keep, .keep, .keep, .keep, .rowed 6 (aF ++ [(R6.mk (rd v72 (tn v74)).a (rd v72 (tn v74)).b v1 (rd v72 (tn v74)).c (rd v72 (tn v74)).d v2)]).length (Zz (aF ++ [(R6.mk (rd v72 (tn v74)).a (rd v72 (tn v74)).b v1 (rd v72 (tn v74)).c (rd v72 (tn v74)).d v2)]))], []⟩ [true] (pp (xL (aF.length + 1) (aF ++ [(R6.mk (rd v72 (tn v74)).a (rd v72 (tn v74)).b v1 (rd v72 (tn v74)).c (rd v72 (tn v74)).d v2)]).length) (pp (xL (aF.length + 1) (aF ++ [(R6.mk (rd v72 (tn v74)).a (rd v72 (tn v74)).b v1 (rd v72 (tn v74)).c (rd v72 (tn v74)).d v2)]).length) (pp (xS (aF.length + 1) (Ze (Zz aF) 0 aF.length 6 [(ii (rd v72 (tn v74)).a), (ii (rd v72 (tn v74)).b), (ii v1), (ii (rd v72 (tn v74)).c), (ii (rd v72 (tn v74)).d), (ii v2)]) (Zz (aF ++ [(R6.mk (rd v72 (tn v74)).a (rd v72 (tn v74)).b v1 (rd v72 (tn v74)).c (rd v72 (tn v74)).d v2)]))) (pp (fl aM (pp (xF (Ze (Zz aF) 0 aF.length 6 [(ii (rd v72 (tn v74)).a), (ii (rd v72 (tn v74)).b), (ii v1), (ii (rd v72 (tn v74)).c), (ii (rd v72 (tn v74)).d), (ii v2)])) nn)) (ww o1 (ww o0 (tt k0 nn))))))))))) (fun k0 => (sl Vu 22 [] ⟨[1, 2, 3, 4, 0, 5, 6, 7, 8, 10], [], v1i, v1k⟩ ⟨[], [], []⟩ [false, false] (pp (fl aM (fl aF nn)) (tt k0 nn)))))
 | .h5 v2 v8 cJ bN bD aF bL bS cN cA cH aD => (lb (fun k0 => (lo fun o0 => (lo fun o1 => (sl Vu 34 [] ⟨(List.range 11), [], sckN5, sckM5⟩ ⟨[], [.cells [.len (aF.set (0 + (tn v8)) (R6.mk (rd aF (0 + (tn v8))).a (rd aF (0 + (tn v8))).b (rd aF (0 + (tn v8))).c (rd aF (0 + (tn v8))).d (rd aF (0 + (tn v8))).e v2)).length, .keep, .keep, .keep], .rowed 6 (aF.set (0 + (tn v8)) (R6.mk (rd aF (0 + (tn v8))).a (rd aF (0 + (tn v8))).b (rd aF (0 + (tn v8))).c (rd aF (0 + (tn v8))).d (rd aF (0 + (tn v8))).e v2)).length (Zz (aF.set (0 + (tn v8)) (R6.mk (rd aF (0 + (tn v8))).a (rd aF (0 + (tn v8))).b (rd aF (0 + (tn v8))).c (rd aF (0 + (tn v8))).d (rd aF (0 + (tn v8))).e v2))), .keep, .keep, .keep, .keep, .keep, .keep, .keep, .keep, .keep], []⟩ [true] (pp (xL aF.length (aF.set (0 + (tn v8)) (R6.mk (rd aF (0 + (tn v8))).a (rd aF (0 + (tn v8))).b (rd aF (0 + (tn v8))).c (rd aF (0 + (tn v8))).d (rd aF (0 + (tn v8))).e v2)).length) (pp (xL aF.length (aF.set (0 + (tn v8)) (R6.mk (rd aF (0 + (tn v8))).a (rd aF (0 + (tn v8))).b (rd aF (0 + (tn v8))).c (rd aF (0 + (tn v8))).d (rd aF (0 + (tn v8))).e v2)).length) (pp (xS aF.length (Xf (Zz aF) (0 + (tn v8)) 5 [(ii v2)]) (Zz (aF.set (0 + (tn v8)) (R6.mk (rd aF (0 + (tn v8))).a (rd aF (0 + (tn v8))).b (rd aF (0 + (tn v8))).c (rd aF (0 + (tn v8))).d (rd aF (0 + (tn v8))).e v2)))) (pp (pp (xF (Xf (Zz aF) (0 + (tn v8)) 5 [(ii v2)])) (fl cH nn)) (ww o1 (ww o0 (tt k0 nn))))))))))) (fun k0 => (sl Vu 36 [] ⟨[2, 3, 4, 5, 0, 6, 7, 8, 9, 1], [], v1i, v1k⟩ ⟨[], [], []⟩ [false, false] (pp (fl cH (fl aF nn)) (tt k0 nn)))))
theorem y7v (l0 : List R6) : Wj prog (Zy prog 72) (sckC l0) (Zf prog 72 [(.dat l0.length (Zz l0))] true []) (z7v l0) := (lb (fun k0 => (lr 25 72 [1, 0, 1, 0, 0] 1 15 [(2, (ii 4))] (sl Vu 16 [] ⟨[], [], [some [2]], []⟩ ⟨[], [], []⟩ [true] (tt k0 nn)))) (fun k0 => (sl Vu 40 [] ⟨[], [], sckN0, sckM0⟩ ⟨[], [], []⟩ [false] (tt k0 nn))))
theorem w2i (l0 : List R6) (n : Nat) (vs : List AVal) (h : Yv (Xw l0) n (z7v l0) = .ret vs) : Jo prog (Zy prog 72) (Zf prog 72 [(.dat l0.length (Zz l0))] true []) vs := by
 have := Zo (x3r l0) n _ (y7v l0)
 rwa [h] at this
end Go.Am
namespace Go.Am
open Go.Proofs.Tryz
open Go.Proofs Go.Sort Go.Shelf Go.RowKit Go.Lib
theorem y8n (l : List R4) : (Yc l).length ≤ 400 := by
 unfold Yc
 by_cases h : 400 < l.length
 ·rw [decide_eq_true h]; exact Nat.zero_le _
 ·rw [decide_eq_false h]
  cases l.all z7q
  ·exact Nat.zero_le _
  ·show (bif decide (((D4.out l).length : Int) > 400) then [] else D4.out l).length ≤ 400
   by_cases h2 : ((D4.out l).length : Int) > 400
   ·rw [decide_eq_true h2]; exact Nat.zero_le _
   ·rw [decide_eq_false h2]; show (D4.out l).length ≤ 400; omega
def D6 : Dim R6 R4 := ⟨R6.c, R6.f, fun r => ⟨r.a, r.b, r.d, r.e⟩, fun x x' s => ⟨s.a, s.b, x, s.c, s.d, x'⟩, fun x r => ⟨r.a, r.b, r.c, r.d, r.e, x⟩, Yc, Ua⟩
theorem v0n (l : List R6) (x : Int) : (D6.sec l x).length ≤ 1000 := Nat.le_trans (y8n _) (by omega)
def sckErr : List AVal := [.int .i64 8]
def y4x (l out : List R6) : List AVal := bif decide ((out.length : Int) > 400) then [.int .i64 8] else bif Jw out l then [.int .i64 0] else [.int .i64 8]
def w6t (l : List R6) (x : Int) : Bool := Js (D6.inn l x) != 0
def okF (l : List R6) : Nat → Nat → Bool
 | 0, _ => true
 | k + 1, i => bif w6t l (rd (D6.cuts l) i) then false else okF l k (i + 1)
section
variable (l : List R6) (hl : l.length ≤ 400)
include hl
theorem w7l (i : Nat) (out : List R6) (last : List R4) (first fin x x' : Int) : ∀ (k j : Nat) (acc : List R4), j + k = l.length → acc.length ≤ j →
  ∃ n, ∀ N, Yv (Xw l) (N + n) (.to (.h3 (i : Int) (j : Int) out last first fin ((D6.cuts l).length) (Xv (Yo (D6.ends l))) x x' acc)) = Yv (Xw l) N (.to (.h3 (i : Int) (l.length : Int) out last first fin ((D6.cuts l).length) (Xv (Yo (D6.ends l))) x x' (acc ++ D6.inn (l.drop j) x)))
 | 0, j, acc, h, ha => by
  refine ⟨0, fun N => ?_⟩
  rw [List.drop_eq_nil_of_le (by omega), show D6.inn ([] : List R6) x = [] from rfl, List.append_nil, Nat.add_zero, show j = l.length by omega]
 | k + 1, j, acc, h, ha => by
  have hj : j < l.length := by omega
  obtain ⟨n, hn⟩ := w7l i out last first fin x x' k (j + 1) (acc ++ D6.inn [rd l j] x) (by omega) (by have := D6.inn_length [rd l j] x; simp only [List.length_append, List.length_singleton] at *; omega)
  refine ⟨n + 1, fun N => ?_⟩
  have e : D6.inn (l.drop j) x = D6.inn [rd l j] x ++ D6.inn (l.drop (j + 1)) x := by
   rw [Yf hj, ← D6.inn_append]; rfl
  rw [e, ← Nat.add_assoc, Zv, ← List.append_assoc, ← hn N]
  by_cases h1 : D6.lo (rd l j) ≤ x
  ·by_cases h2 : x < D6.hi (rd l j)
   ·rw [D6.inn_t _ _ h1 h2]
    simp only [D6] at h1 h2 ⊢
    simp (disch := omega) only [Xw, Xa, Zb, Zk, Zs, Zt, Yx, Yq, Yp, Zh, Zq, Zx, Ya, Zj, Nat.zero_add, decide_true, Bool.and_true, Bool.true_and, cond_true, cond_false]
   ·rw [D6.inn_f2 _ _ h2, List.append_nil]
    simp only [D6] at h1 h2
    simp (disch := omega) only [Xw, Xa, Yz, Zb, Zk, Zs, Zt, Yx, Yq, Yp, Zh, Zq, Zx, Ya, Zj, Nat.zero_add, decide_true, Bool.and_true, Bool.true_and, cond_true, cond_false]
  ·rw [D6.inn_f1 _ _ h1, List.append_nil]
   simp only [D6] at h1
   simp (disch := omega) only [Xw, v5i, Zb, Zk, Zs, Zt, Yx, Yq, Yp, Zh, Zq, Zx, Ya, Zj, Nat.zero_add, decide_true, Bool.and_true, Bool.true_and, cond_true, cond_false]
theorem w7k (i : Nat) (hi : i ≤ 1000) (x x' : Int) (s last : List R4) (first : Int) (inn : List R4) (hs : s.length ≤ 1000) : ∀ (k j : Nat) (out : List R6), j + k = s.length → out.length ≤ 10000000 + j →
  ∃ n, ∀ N, Yv (Xw l) (N + n) (.to (.h4 x x' s (s.length : Int) (j : Int) s (i : Int) out last first ((D6.cuts l).length) (Xv (Yo (D6.ends l))) inn)) = Yv (Xw l) N (.to (.h2 ((i + 1 : Nat) : Int) (out ++ (s.drop j).map (D6.put x x')) last first x' ((D6.cuts l).length) (Xv (Yo (D6.ends l)))))
 | 0, j, out, h, ho => by
  have _u := hl
  refine ⟨1, fun N => ?_⟩
  rw [List.drop_eq_nil_of_le (by omega), Zv]
  simp (disch := omega) only [Xw, Yz, Zq, Zx, cond_false, List.map_nil, List.append_nil]
 | k + 1, j, out, h, ho => by
  obtain ⟨n, hn⟩ := w7k i hi x x' s last first inn hs k (j + 1) (out ++ [D6.put x x' (rd s j)]) (by omega) (by simp; omega)
  refine ⟨n + 1, fun N => ?_⟩
  have := hn N
  rw [Yf (show j < s.length by omega), List.map_cons, ← Nat.add_assoc, Zv]
  simp (disch := omega) only [Xw, Zb, Zk, Zs, Zt, Yx, Yq, Yp, Zh, Zq, Zx, Ya, Zj, Nat.zero_add, decide_true, Bool.and_true, Bool.true_and, cond_true, cond_false]
  rw [List.append_assoc] at this
  exact this
theorem w7j (i : Nat) (hi : i ≤ 1000) (x x' fin : Int) (s last : List R4) (first : Int) (inn : List R4) : ∀ (k j : Nat) (out : List R6), j + k = out.length → out.length ≤ 10000000 →
  ∃ n, ∀ N, Yv (Xw l) (N + n) (.to (.h5 x' (j : Int) x s (i : Int) out last first fin ((D6.cuts l).length) (Xv (Yo (D6.ends l))) inn)) = Yv (Xw l) N (.to (.h2 ((i + 1 : Nat) : Int) (D6.grow out j x') last first x' ((D6.cuts l).length) (Xv (Yo (D6.ends l)))))
 | 0, j, out, h, ho => by
  have _u := hl
  refine ⟨1, fun N => ?_⟩
  rw [D6.grow_nil _ _ _ (by omega), Zv]
  simp (disch := omega) only [Xw, Yz, Zq, Zx, cond_false]
 | k + 1, j, out, h, ho => by
  obtain ⟨n, hn⟩ := w7j i hi x x' fin s last first inn k (j + 1) (out.set j (D6.ext x' (rd out j))) (by simp; omega) (by simpa using ho)
  refine ⟨n + 1, fun N => ?_⟩
  have := hn N
  rw [D6.grow_set out j _ (by omega)] at this
  rw [← Nat.add_assoc, Zv]
  simp (disch := omega) only [Xw, Zb, Zk, Zs, Zt, Yx, Yq, Yp, Zh, Zq, Zx, Ya, Zj, Nat.zero_add, decide_true, Bool.and_true, Bool.true_and, cond_true, cond_false]
  exact this
theorem x7f : ∀ (k i : Nat) (s : Sw R6 R4), k = (D6.cuts l).length - 1 - i → i ≤ (D6.cuts l).length → s.out.length ≤ i * 1000 → s.last.length ≤ 1000 → s.first ≤ s.out.length →
  ∃ n, Yv (Xw l) n (.to (.h2 ((i + 1 : Nat) : Int) s.out s.last (s.first : Int) s.fin ((D6.cuts l).length) (Xv (Yo (D6.ends l))))) = .ret ((bif okF l k i then y4x l (D6.go l k i s).out else sckErr))
 | 0, i, s, h, hi, ho, hla, hf => by
  have hc := D6.cuts_length l
  refine ⟨1, ?_⟩
  rw [Zv, show D6.go l 0 i s = s from rfl, show okF l 0 i = true from rfl, cond_true]
  unfold y4x
  by_cases q : (s.out.length : Int) > 400
  ·simp (disch := omega) only [Xw, Yz, Yr, cond_true, cond_false, Zm]
  ·have e : lst R6 s.out.length (fun k => (Zz s.out) k) = s.out := Zk s.out
   have w : Vk s.out l = true := decide_eq_true (by omega)
   have f : Qe (Zz s.out) = true := Xp _
   rcases Yg (Jw s.out l) with q2 | q2 <;>
   simp (disch := omega) only [Xw, Zb, e, w, f, q2, Yz, Xk, Yx, Ya, Nat.zero_add, Bool.not_true, Bool.not_false, Bool.and_true, cond_true, cond_false, Zm]
 | k + 1, i, s, h, hi, ho, hla, hf => by
  have hc := D6.cuts_length l
  have hi1 : i + 1 < (D6.cuts l).length := by omega
  have hpl : (Xv (Yo (D6.ends l))).length = 2 * l.length := by rw [Wr, Wb, D6.ends_length]
  have r0 : rd (Xv (Yo (D6.ends l))) i = rd (D6.cuts l) i := Jv _ _ (by show i < (D6.cuts l).length; omega)
  have r1 : rd (Xv (Yo (D6.ends l))) (i + 1) = rd (D6.cuts l) (i + 1) := Jv _ _ (by show i + 1 < (D6.cuts l).length; omega)
  have hbig : i * 1000 ≤ 1000 * 1000 := Nat.mul_le_mul_right _ (by omega)
  have hsl := v0n l (rd (D6.cuts l) i)
  have hsd : D6.sec l (rd (D6.cuts l) i) = Yc (D6.inn l (rd (D6.cuts l) i)) := rfl
  obtain ⟨n3, h3⟩ := w7l l hl (i + 1) s.out s.last (s.first : Int) s.fin (rd (D6.cuts l) i) (rd (D6.cuts l) (i + 1)) l.length 0 [] (Nat.zero_add _) (Nat.le_refl _)
  simp only [List.drop_zero, List.nil_append, z0y] at h3
  have w1 : Qs (D6.inn l (rd (D6.cuts l) i)) = true := rfl
  have w2 : Wc s.last (Yc (D6.inn l (rd (D6.cuts l) i))) = true := decide_eq_true (by omega)
  have ol := D6.one_length l (rd (D6.cuts l) i) (rd (D6.cuts l) (i + 1)) s
  have st0 : ∀ N, Yv (Xw l) (N + n3 + 1) (.to (.h2 ((i + 1 : Nat) : Int) s.out s.last (s.first : Int) s.fin ((D6.cuts l).length) (Xv (Yo (D6.ends l))))) = Yv (Xw l) N (.to (.h3 ((i + 1 : Nat) : Int) (l.length : Int) s.out s.last (s.first : Int) s.fin ((D6.cuts l).length) (Xv (Yo (D6.ends l))) (rd (D6.cuts l) i) (rd (D6.cuts l) (i + 1)) (D6.inn l (rd (D6.cuts l) i)))) := fun N => by
   rw [← h3 N, Zv]
   have e1 : IntKind.wrap .i64 (((i + 1 : Nat) : Int) - 1) = (i : Int) := by rw [Zd]; exact Zq (by omega)
   simp (disch := omega) only [Xw, e1, r0, r1, Zb, Zk, Zs, Zt, Yx, Yq, Yp, Zh, Zq, Zx, Ya, Zj, Nat.zero_add, decide_true, Bool.and_true, Bool.true_and, cond_true, cond_false]
  rcases Yg (w6t l (rd (D6.cuts l) i)) with q0 | q0
  ·refine ⟨1 + n3 + 1, ?_⟩
   rw [st0 1, Zv]
   simp only [okF, q0, cond_true, cond_false]
   have q0' : (Js (D6.inn l (rd (D6.cuts l) i)) != 0) = true := q0
   simp (disch := omega) only [Xw, Zb, Zk, Yz, q0', w1, cond_true, cond_false, Zm]
   rfl
  have q0' : (Js (D6.inn l (rd (D6.cuts l) i)) != 0) = false := q0
  rcases Yg (decide (0 < (D6.sec l (rd (D6.cuts l) i)).length) && ((s.fin == rd (D6.cuts l) i) && D6.same s.last (D6.sec l (rd (D6.cuts l) i)))) with q | q
  ·obtain ⟨n5, h5⟩ := w7j l hl (i + 1) (by omega) (rd (D6.cuts l) i) (rd (D6.cuts l) (i + 1)) s.fin (D6.sec l (rd (D6.cuts l) i)) s.last (s.first : Int) (D6.inn l (rd (D6.cuts l) i)) (s.out.length - s.first) s.first s.out (by omega) (by omega)
   have e : D6.one l (rd (D6.cuts l) i) (rd (D6.cuts l) (i + 1)) s = ⟨D6.grow s.out s.first (rd (D6.cuts l) (i + 1)), s.last, s.first, rd (D6.cuts l) (i + 1)⟩ := by unfold Dim.one; rw [q]; rfl
   obtain ⟨n0, h0⟩ := x7f k (i + 1) (D6.one l (rd (D6.cuts l) i) (rd (D6.cuts l) (i + 1)) s) (by omega) (by omega) (by omega) (by rw [e]; exact hla) (by rw [e]; simpa [Dim.grow_length] using hf)
   refine ⟨n0 + n5 + 1 + n3 + 1, ?_⟩
   rw [st0 (n0 + n5 + 1), Zv]
   simp only [Bool.and_eq_true, decide_eq_true_eq] at q
   obtain ⟨q1, q2, q3⟩ := q
   have q3' : Ua s.last (Yc (D6.inn l (rd (D6.cuts l) i))) = true := q3
   rw [hsd] at q1
   simp (disch := omega) only [Xw, Zb, Zk, Yz, Yr, q0', q2, q3', w1, w2, cond_true, cond_false]
   rw [← hsd, h5 n0]
   simp only [okF, q0, cond_false]; simp only [Dim.go]
   rw [e] at h0 ⊢
   exact h0
  ·obtain ⟨n4, h4⟩ := w7k l hl (i + 1) (by omega) (rd (D6.cuts l) i) (rd (D6.cuts l) (i + 1)) (D6.sec l (rd (D6.cuts l) i)) (D6.sec l (rd (D6.cuts l) i)) (s.out.length : Int) (D6.inn l (rd (D6.cuts l) i)) hsl (D6.sec l (rd (D6.cuts l) i)).length 0 s.out (Nat.zero_add _) (by omega)
   simp only [List.drop_zero, z0y] at h4
   have e : D6.one l (rd (D6.cuts l) i) (rd (D6.cuts l) (i + 1)) s = ⟨s.out ++ (D6.sec l (rd (D6.cuts l) i)).map (D6.put (rd (D6.cuts l) i) (rd (D6.cuts l) (i + 1))), D6.sec l (rd (D6.cuts l) i), s.out.length, rd (D6.cuts l) (i + 1)⟩ := by unfold Dim.one; rw [q]; rfl
   obtain ⟨n0, h0⟩ := x7f k (i + 1) (D6.one l (rd (D6.cuts l) i) (rd (D6.cuts l) (i + 1)) s) (by omega) (by omega) (by omega) (by rw [e]; exact hsl) (by rw [e]; simp)
   have hg : Yv (Xw l) 1 (.to (.h3 ((i + 1 : Nat) : Int) (l.length : Int) s.out s.last (s.first : Int) s.fin ((D6.cuts l).length) (Xv (Yo (D6.ends l))) (rd (D6.cuts l) i) (rd (D6.cuts l) (i + 1)) (D6.inn l (rd (D6.cuts l) i)))) = .to (.h4 (rd (D6.cuts l) i) (rd (D6.cuts l) (i + 1)) (D6.sec l (rd (D6.cuts l) i)) ((D6.sec l (rd (D6.cuts l) i)).length : Int) 0 (D6.sec l (rd (D6.cuts l) i)) ((i + 1 : Nat) : Int) s.out (D6.sec l (rd (D6.cuts l) i)) (s.out.length : Int) ((D6.cuts l).length) (Xv (Yo (D6.ends l))) (D6.inn l (rd (D6.cuts l) i))) := by
    rw [show (1 : Nat) = 0 + 1 from rfl, Zv]
    rw [hsd] at q ⊢
    have e3 : D6.same s.last (Yc (D6.inn l (rd (D6.cuts l) i))) = Ua s.last (Yc (D6.inn l (rd (D6.cuts l) i))) := rfl
    rw [e3] at q
    by_cases q1 : 0 < (Yc (D6.inn l (rd (D6.cuts l) i))).length
    ·rw [decide_eq_true q1, Bool.true_and] at q
     rcases Yg (s.fin == rd (D6.cuts l) i) with q2 | q2
     ·rw [q2, Bool.true_and] at q
      simp (disch := omega) only [Xw, Zb, Zk, Yz, Yr, q0', q2, q, w1, w2, cond_true, cond_false]
      rfl
     ·simp (disch := omega) only [Xw, Zb, Zk, Yz, Yr, q0', q2, w1, w2, cond_true, cond_false]
      rfl
    ·simp (disch := omega) only [Xw, Zb, Zk, Yz, Xk, q0', w1, w2, cond_true, cond_false]
     rfl
   refine ⟨n0 + n4 + 1 + n3 + 1, ?_⟩
   rw [st0 (n0 + n4 + 1), z9z _ (n0 + n4) 1, hg, h4 n0]
   simp only [okF, q0, cond_false]; simp only [Dim.go]
   rw [e] at h0 ⊢
   exact h0
theorem w7m : ∀ (k i : Nat) (acc : List Int), i + k = l.length → acc = D6.ends (l.take i) → ∃ n, Yv (Xw l) n (.to (.h1 (i : Int) acc)) = .ret ((bif okF l ((D6.cuts l).length - 1) 0 then y4x l (D6.go l ((D6.cuts l).length - 1) 0 ⟨[], [], 0, 0⟩).out else sckErr))
 | 0, i, acc, h, ha => by
  have e : acc = D6.ends l := by rw [ha, List.take_of_length_le (by omega)]
  subst e
  have hle := D6.ends_length l
  obtain ⟨n, hn⟩ := x7f l hl ((D6.cuts l).length - 1) 0 ⟨[], [], 0, 0⟩ (by omega) (Nat.zero_le _) (Nat.zero_le _) (Nat.zero_le _) (Nat.zero_le _)
  refine ⟨n + 1, ?_⟩
  rw [Zv]
  simp (disch := omega) only [Xw, Uu, Kg, z6e, Yz, Yq, Yp, decide_true, cond_true, cond_false]
  exact hn
 | k + 1, i, acc, h, ha => by
  have hle := D6.ends_length (l.take i)
  have fK : acc.length ≤ 2 * i := by rw [ha, hle]; simp; omega
  obtain ⟨n, hn⟩ := w7m k (i + 1) (acc ++ D6.ends [rd l i]) (by omega) (by
   rw [ha, List.take_add_one]
   have : l[i]? = some (rd l i) := by rw [Ww (show i < l.length by omega)]; exact List.getElem?_eq_getElem _
   rw [this, D6.ends_append]; rfl)
  refine ⟨n + 1, ?_⟩
  rw [Zv]
  simp (disch := omega) only [Xw, Zb, Zk, Zs, Zt, Yx, Yq, Yp, Zh, Zq, Zx, Ya, Zj, Nat.zero_add, decide_true, Bool.and_true, Bool.true_and, cond_true, cond_false]
  exact hn
theorem w7n : ∀ (k i : Nat), i + k = l.length → (∀ s ∈ l.take i, z2x s = true) → ∃ n, Yv (Xw l) n (.to (.h0 (i : Int))) = .ret (bif l.all z2x then (bif okF l ((D6.cuts l).length - 1) 0 then y4x l (D6.go l ((D6.cuts l).length - 1) 0 ⟨[], [], 0, 0⟩).out else sckErr) else sckErr)
 | 0, i, h, ht => by
  have hv : l.all z2x = true := List.all_eq_true.2 fun s hs => ht s (by rw [List.take_of_length_le (by omega)]; exact hs)
  obtain ⟨n, hn⟩ := w7m l hl l.length 0 [] (Nat.zero_add _) rfl
  refine ⟨n + 1, ?_⟩
  rw [Zv, hv, cond_true]
  simp (disch := omega) only [Xw, Yz, cond_false]
  exact hn
 | k + 1, i, h, ht => by
  have hi : i < l.length := by omega
  have hs : Xw l (.h0 (i : Int)) = bif z2x (rd l i) then .to (.h0 ((i + 1 : Nat) : Int)) else .ret sckErr := by
   have e : v0q (rd l i).a (rd l i).b (rd l i).c (rd l i).d (rd l i).e (rd l i).f = z2x (rd l i) := rfl
   simp (disch := omega) only [Xw, e, y4a, x2y, w0s, Zt, Zq, Zx, Zj, Bool.and_true, cond_true, cond_false]
   rfl
  rcases Yg (z2x (rd l i)) with q | q
  ·obtain ⟨n, hn⟩ := w7n k (i + 1) (by omega) (fun s hs => by
    rw [List.take_add_one] at hs
    have e : l[i]? = some (rd l i) := by rw [Ww hi]; exact List.getElem?_eq_getElem _
    rw [e] at hs
    simp only [Option.toList_some, List.mem_append, List.mem_singleton] at hs
    rcases hs with hs | rfl
    ·exact ht s hs
    ·exact q)
   refine ⟨n + 1, ?_⟩
   rw [Zv, hs, q, cond_true]
   exact hn
  ·have hv : l.all z2x = false := Bool.eq_false_iff.2 fun e => by
    have := List.all_eq_true.1 e (rd l i) (by rw [Ww hi]; exact List.getElem_mem hi)
    rw [this] at q; cases q
   refine ⟨1, ?_⟩
   rw [Zv, hv, cond_false, hs, q, cond_false, Zm]
end
def Zr (l : List R6) : Int := bif decide (400 < l.length) then 4 else bif l.all z2x then (bif okF l ((D6.cuts l).length - 1) 0 then (bif decide (((D6.out l).length : Int) > 400) then 8 else bif Jw (D6.out l) l then 0 else 8) else 8) else 8
def x7g (l : List R6) : Bool := true
theorem v1h (l : List R6) : ∃ n, Yv (Xw l) n (z7v l) = .ret [.int .i64 (Zr l)] := by
 unfold z7v Zr
 by_cases h : 400 < l.length
 ·refine ⟨0, ?_⟩
  rw [decide_eq_true h, Yr (show (l.length : Int) > 400 by omega)]; rfl
 ·obtain ⟨n, hn⟩ := w7n l (by omega) l.length 0 (Nat.zero_add _) (fun s hs => by simp at hs)
  refine ⟨n, ?_⟩
  rw [decide_eq_false h, Xk (show ¬ (l.length : Int) > 400 by omega), cond_false, cond_false]
  rw [z0y] at hn
  rw [hn]
  unfold sckErr y4x
  cases l.all z2x <;> simp only [cond_true, cond_false]
  cases okF l ((D6.cuts l).length - 1) 0 <;> simp only [cond_true, cond_false]
  show Xd.ret (bif decide (((D6.out l).length : Int) > 400) then _ else bif Jw (D6.out l) l then _ else _) = _
  cases decide (((D6.out l).length : Int) > 400) <;> simp only [cond_true, cond_false]
  cases Jw (D6.out l) l <;> rfl
def fSck : List AVal → Option (AVal × Bool)
 | [a1] => match asL R6 a1 with
  | some (L1, g1, n1) => some (.int .i64 (Zr L1), isT R6 n1 g1 && x7g L1)
  | _ => none
 | _ => none
theorem v3y {S : Specs} (hS : Zu prog S) : Zu prog (S.with y5v fSck) := by
 refine z1m hS (by kernel_rfl) fun args v h => ?_
 unfold fSck at h
 split at h
 ·rename_i a1
  split at h
  ·rename_i L1 g1 n1 e1
   simp only [Option.some.injEq, Prod.mk.injEq, Bool.and_eq_true] at h
   obtain ⟨rfl, ho1, hw⟩ := h
   obtain ⟨N, hN⟩ := v1h L1
   exact ⟨_, _, (.cons (Yh e1 ho1) .nil), rfl, w2i L1 N _ hN, 3, rfl⟩
  ·cases h
 ·cases h
def T8 : Specs := T7v.with y5v fSck
theorem Qz : Zu prog T8 := v3y Vu
end Go.Am
namespace Go.Am
open Go.Proofs.Tryz
open Go.Proofs
inductive rchkS where
 | h0 (v3 : Int)
def v2i (l0 : List R6) : rchkS → Cfg
 | .h0 v3 => ⟨⟨34, 0, true⟩, none, (Zg prog 64 [1, 1, 0, 1, 0, 0] 0), none, (Zy prog 15), ⟨Yj [(0, (.dat l0.length (Zz l0))), (3, (ii v3))], Vf [] 0, 0, [], true⟩, [], .leaf⟩
def w8m : List (Option (List Nat)) := [some [0, 3]]
def w8n : List (Option (List Nat)) := []
def Qj (l0 : List R6) : rchkS → Xd rchkS
 | .h0 v3 => (bif (decide (v3 < (l0.length : Int))) then (bif ((decide (0 ≤ v3 ∧ v3 < (l0.length : Int))) && true) then (bif (decide ((rd l0 v3.toNat).a ≥ (-1000000))) then (bif (decide ((rd l0 v3.toNat).b ≥ (-1000000))) then (bif (decide ((rd l0 v3.toNat).c ≥ (-1000000))) then (bif (decide ((rd l0 v3.toNat).a ≤ 1000000)) then (bif (decide ((rd l0 v3.toNat).b ≤ 1000000)) then (bif (decide ((rd l0 v3.toNat).c ≤ 1000000)) then (bif (decide ((rd l0 v3.toNat).d ≥ (-1000000))) then (bif (decide ((rd l0 v3.toNat).e ≥ (-1000000))) then (bif (decide ((rd l0 v3.toNat).f ≥ (-1000000))) then (bif (decide ((rd l0 v3.toNat).d ≤ 1000000)) then (bif (decide ((rd l0 v3.toNat).e ≤ 1000000)) then (bif (decide ((rd l0 v3.toNat).f ≤ 1000000)) then (bif (decide ((rd l0 v3.toNat).a < (rd l0 v3.toNat).d)) then (bif (decide ((rd l0 v3.toNat).b < (rd l0 v3.toNat).e)) then (bif (!(decide ((rd l0 v3.toNat).c < (rd l0 v3.toNat).f))) then (.ret [(.int .i64 8)]) else (.to (.h0 (IntKind.wrap .i64 (v3 + 1))))) else (.ret [(.int .i64 8)])) else (.ret [(.int .i64 8)])) else (.ret [(.int .i64 8)])) else (.ret [(.int .i64 8)])) else (.ret [(.int .i64 8)])) else (.ret [(.int .i64 8)])) else (.ret [(.int .i64 8)])) else (.ret [(.int .i64 8)])) else (.ret [(.int .i64 8)])) else (.ret [(.int .i64 8)])) else (.ret [(.int .i64 8)])) else (.ret [(.int .i64 8)])) else (.ret [(.int .i64 8)])) else (.ret [(.int .i64 8)])) else .stuck) else (bif (z8i 2 (cvT l0) ([] : List R6)) then (bif (!(y6d 2 (cvT l0) ([] : List R6))) then (.ret [(.int .i64 8)]) else (bif (Vk (cvT (z3p 2 (cvT l0) ([] : List R6))) (cvT l0)) then (bif (!(Jw (cvT (z3p 2 (cvT l0) ([] : List R6))) (cvT l0))) then (.ret [(.int .i64 8)]) else (.ret [(.int .i64 0)])) else .stuck)) else .stuck))
def z4l (l0 : List R6) : Xd rchkS := (bif (decide ((l0.length : Int) > 400)) then (.ret [(.int .i64 4)]) else (.to (.h0 0)))
theorem y8u (l0 : List R6) : ∀ s, Wj prog (Zy prog 64) (v2i l0) (v2i l0 s) (Qj l0 s)
 | .h0 v3 => (lb (fun k0 => (lo fun aH => (lb (fun k1 => (lb (fun k2 => (lb (fun k3 => (lb (fun k4 => (lb (fun k5 => (lb (fun k6 => (lb (fun k7 => (lb (fun k8 => (lb (fun k9 => (lb (fun k10 => (lb (fun k11 => (lb (fun k12 => (lb (fun k13 => (lb (fun k14 => (lb (fun k15 => (lr 34 64 [1, 1, 0, 1, 0, 0, 1, 0, 0, 1, 0, 0] 1 15 [(2, (ii 8))] (sl Qz 158 [] ⟨[], [], [some [2]], []⟩ ⟨[], [], []⟩ (trs 60 []) (tt k15 (tt k14 (tt k13 (tt k12 (tt k11 (tt k10 (tt k9 (tt k8 (tt k7 (tt k6 (tt k5 (tt k4 (tt k3 (tt k2 (tt k1 (ww aH (tt k0 nn)))))))))))))))))))) (fun k15 => (sl Qz 162 [] ⟨[], [], w8m, w8n⟩ ⟨[], [], []⟩ (trs 59 [false]) (tt k15 (tt k14 (tt k13 (tt k12 (tt k11 (tt k10 (tt k9 (tt k8 (tt k7 (tt k6 (tt k5 (tt k4 (tt k3 (tt k2 (tt k1 (ww aH (tt k0 nn))))))))))))))))))))) (fun k14 => (lr 34 64 [1, 1, 0, 1, 0, 0, 1, 0, 0, 1, 0, 0] 1 15 [(2, (ii 8))] (sl Qz 158 [] ⟨[], [], [some [2]], []⟩ ⟨[], [], []⟩ (trs 52 [false, false, false, false, false, false, false, true]) (tt k14 (tt k13 (tt k12 (tt k11 (tt k10 (tt k9 (tt k8 (tt k7 (tt k6 (tt k5 (tt k4 (tt k3 (tt k2 (tt k1 (ww aH (tt k0 nn))))))))))))))))))))) (fun k13 => (lr 34 64 [1, 1, 0, 1, 0, 0, 1, 0, 0, 1, 0, 0] 1 15 [(2, (ii 8))] (sl Qz 158 [] ⟨[], [], [some [2]], []⟩ ⟨[], [], []⟩ (trs 45 [false, false, false, false, false, false, false, false, false, false, false, false, false, false, true]) (tt k13 (tt k12 (tt k11 (tt k10 (tt k9 (tt k8 (tt k7 (tt k6 (tt k5 (tt k4 (tt k3 (tt k2 (tt k1 (ww aH (tt k0 nn)))))))))))))))))))) (fun k12 => (lr 34 64 [1, 1, 0, 1, 0, 0, 1, 0, 0, 1, 0, 0] 1 15 [(2, (ii 8))] (sl Qz 158 [] ⟨[], [], [some [2]], []⟩ ⟨[], [], []⟩ (trs 38 [false, false, false, false, false, false, false, false, false, false, false, false, false, false, false, false, false, false, false, false, false, true]) (tt k12 (tt k11 (tt k10 (tt k9 (tt k8 (tt k7 (tt k6 (tt k5 (tt k4 (tt k3 (tt k2 (tt k1 (ww aH (tt k0 nn))))))))))))))))))) (fun k11 => (lr 34 64 [1, 1, 0, 1, 0, 0, 1, 0, 0, 1, 0, 0] 1 15 [(2, (ii 8))] (sl Qz 158 [] ⟨[], [], [some [2]], []⟩ ⟨[], [], []⟩ (trs 35 [false, false, false, false, false, false, false, false, false, false, false, false, false, false, false, false, false, false, false, false, false, false, false, false, true]) (tt k11 (tt k10 (tt k9 (tt k8 (tt k7 (tt k6 (tt k5 (tt k4 (tt k3 (tt k2 (tt k1 (ww aH (tt k0 nn)))))))))))))))))) (fun k10 => (lr 34 64 [1, 1, 0, 1, 0, 0, 1, 0, 0, 1, 0, 0] 1 15 [(2, (ii 8))] (sl Qz 158 [] ⟨[], [], [some [2]], []⟩ ⟨[], [], []⟩ (trs 32 [false, false, false, false, false, false, false, false, false, false, false, false, false, false, false, false, false, false, false, false, false, false, false, false, false, false, false, true]) (tt k10 (tt k9 (tt k8 (tt k7 (tt k6 (tt k5 (tt k4 (tt k3 (tt k2 (tt k1 (ww aH (tt k0 nn))))))))))))))))) (fun k9 => (lr 34 64 [1, 1, 0, 1, 0, 0, 1, 0, 0, 1, 0, 0] 1 15 [(2, (ii 8))] (sl Qz 158 [] ⟨[], [], [some [2]], []⟩ ⟨[], [], []⟩ (trs 29 [false, false, false, false, false, false, false, false, false, false, false, false, false, false, false, false, false, false, false, false, false, false, false, false, false, false, false, false, false, false, true]) (tt k9 (tt k8 (tt k7 (tt k6 (tt k5 (tt k4 (tt k3 (tt k2 (tt k1 (ww aH (tt k0 nn)))))))))))))))) (fun k8 => (lr 34 64 [1, 1, 0, 1, 0, 0, 1, 0, 0, 1, 0, 0] 1 15 [(2, (ii 8))] (sl Qz 158 [] ⟨[], [], [some [2]], []⟩ ⟨[], [], []⟩ (trs 25 [false, false, false, false, false, false, false, false, false, false, false, false, false, false, false, false, false, false, false, false, false, false, false, false, false, false, false, false, false, false, false, false, false, false, true]) (tt k8 (tt k7 (tt k6 (tt k5 (tt k4 (tt k3 (tt k2 (tt k1 (ww aH (tt k0 nn))))))))))))))) (fun k7 => (lr 34 64 [1, 1, 0, 1, 0, 0, 1, 0, 0, 1, 0, 0] 1 15 [(2, (ii 8))] (sl Qz 158 [] ⟨[], [], [some [2]], []⟩ ⟨[], [], []⟩ (trs 21 [false, false, false, false, false, false, false, false, false, false, false, false, false, false, false, false, false, false, false, false, false, false, false, false, false, false, false, false, false, false, false, false, false, false, false, false, false, false, true]) (tt k7 (tt k6 (tt k5 (tt k4 (tt k3 (tt k2 (tt k1 (ww aH (tt k0 nn)))))))))))))) (fun k6 => (lr 34 64 [1, 1, 0, 1, 0, 0, 1, 0, 0, 1, 0, 0] 1 15 [(2, (ii 8))] (sl Qz 117 [] ⟨[], [], [some [2]], []⟩ ⟨[], [], []⟩ (trs 18 [false, false, false, false, false, false, false, false, false, false, false, false, false, false, false, false, false, false, false, false, false, false, false, false, true]) (tt k6 (tt k5 (tt k4 (tt k3 (tt k2 (tt k1 (ww aH (tt k0 nn))))))))))))) (fun k5 => (lr 34 64 [1, 1, 0, 1, 0, 0, 1, 0, 0, 1, 0, 0] 1 15 [(2, (ii 8))] (sl Qz 117 [] ⟨[], [], [some [2]], []⟩ ⟨[], [], []⟩ (trs 15 [false, false, false, false, false, false, false, false, false, false, false, false, false, false, false, false, false, false, false, false, false, false, false, false, false, false, false, true]) (tt k5 (tt k4 (tt k3 (tt k2 (tt k1 (ww aH (tt k0 nn)))))))))))) (fun k4 => (lr 34 64 [1, 1, 0, 1, 0, 0, 1, 0, 0, 1, 0, 0] 1 15 [(2, (ii 8))] (sl Qz 117 [] ⟨[], [], [some [2]], []⟩ ⟨[], [], []⟩ (trs 12 [false, false, false, false, false, false, false, false, false, false, false, false, false, false, false, false, false, false, false, false, false, false, false, false, false, false, false, false, false, false, true]) (tt k4 (tt k3 (tt k2 (tt k1 (ww aH (tt k0 nn))))))))))) (fun k3 => (lr 34 64 [1, 1, 0, 1, 0, 0, 1, 0, 0, 1, 0, 0] 1 15 [(2, (ii 8))] (sl Qz 117 [] ⟨[], [], [some [2]], []⟩ ⟨[], [], []⟩ (trs 9 [false, false, false, false, false, false, false, false, false, false, false, false, false, false, false, false, false, false, false, false, false, false, false, false, false, false, false, false, false, false, false, false, false, true]) (tt k3 (tt k2 (tt k1 (ww aH (tt k0 nn)))))))))) (fun k2 => (lr 34 64 [1, 1, 0, 1, 0, 0, 1, 0, 0, 1, 0, 0] 1 15 [(2, (ii 8))] (sl Qz 117 [] ⟨[], [], [some [2]], []⟩ ⟨[], [], []⟩ (trs 5 [false, false, false, false, false, false, false, false, false, false, false, false, false, false, false, false, false, false, false, false, false, false, false, false, false, false, false, false, false, false, false, false, false, false, false, false, false, true]) (tt k2 (tt k1 (ww aH (tt k0 nn))))))))) (fun k1 => (lr 34 64 [1, 1, 0, 1, 0, 0, 1, 0, 0, 1, 0, 0] 1 15 [(2, (ii 8))] (sl Qz 117 [] ⟨[], [], [some [2]], []⟩ ⟨[], [], []⟩ [true, false, false, false, false, false, false, false, false, false, false, false, false, false, false, false, false, false, false, false, false, false, false, false, false, false, false, false, false, false, false, false, false, false, false, false, false, false, false, false, false, false, true] (tt k1 (ww aH (tt k0 nn))))))))) (fun k0 => (lo fun aH => (lb (fun k1 => (lr 34 64 [1, 1, 1, 1, 0, 1, 0, 0] 1 15 [(2, (ii 8))] (sl Qz 37 [] ⟨[], [], [some [2]], []⟩ ⟨[], [], []⟩ [false, true, true, true, true, true] (tt k1 (pp (pp (xr l0) (pp (xI R6 0 (fun _ => [])) (xw aH))) (tt k0 nn)))))) (fun k1 => (lo fun cL => (lb (fun k2 => (lr 34 64 [1, 1, 1, 1, 0, 1, 0, 0] 1 15 [(2, (ii 8))] (sl Qz 37 [] ⟨[], [], [some [2]], []⟩ ⟨[], [], []⟩ [false, false, false, false, false, true] (tt k2 (pp (pp (xI R6 (z3p 2 (cvT l0) ([] : List R6)).length (Zz (z3p 2 (cvT l0) ([] : List R6)))) (pp (xr l0) (xw cL))) (tt k1 (pp (pp (xr l0) (pp (xI R6 0 (fun _ => [])) (xw aH))) (tt k0 nn)))))))) (fun k2 => (lr 34 3 [1, 1, 1, 1, 1, 1, 0] 1 15 [(2, (ii 0))] (sl Qz 38 [] ⟨[], [], [some [2]], []⟩ ⟨[], [], []⟩ [false, false, false, false, false, false] (tt k2 (pp (pp (xI R6 (z3p 2 (cvT l0) ([] : List R6)).length (Zz (z3p 2 (cvT l0) ([] : List R6)))) (pp (xr l0) (xw cL))) (tt k1 (pp (pp (xr l0) (pp (xI R6 0 (fun _ => [])) (xw aH))) (tt k0 nn)))))))))))))))
theorem y5k (l0 : List R6) : Wj prog (Zy prog 64) (v2i l0) (Zf prog 64 [(.dat l0.length (Zz l0))] true []) (z4l l0) := (lb (fun k0 => (lr 34 64 [1, 0, 1, 0, 0] 1 15 [(2, (ii 4))] (sl Qz 16 [] ⟨[], [], [some [2]], []⟩ ⟨[], [], []⟩ [true] (tt k0 nn)))) (fun k0 => (sl Qz 20 [] ⟨[], [], w8m, w8n⟩ ⟨[], [], []⟩ [false] (tt k0 nn))))
theorem x8p (l0 : List R6) (n : Nat) (vs : List AVal) (h : Yv (Qj l0) n (z4l l0) = .ret vs) : Jo prog (Zy prog 64) (Zf prog 64 [(.dat l0.length (Zz l0))] true []) vs := by
 have := Zo (y8u l0) n _ (y5k l0)
 rwa [h] at this
end Go.Am
namespace Go.Am
open Go.Proofs.Tryz
open Go.Proofs
def x3h (r : R6) : Bool := decide (r.a ≥ -1000000) && (decide (r.b ≥ -1000000) && (decide (r.c ≥ -1000000) && (decide (r.a ≤ 1000000) && (decide (r.b ≤ 1000000) && (decide (r.c ≤ 1000000) && (decide (r.d ≥ -1000000) && (decide (r.e ≥ -1000000) && (decide (r.f ≥ -1000000) && (decide (r.d ≤ 1000000) && (decide (r.e ≤ 1000000) && (decide (r.f ≤ 1000000) && (decide (r.a < r.d) && (decide (r.b < r.e) && decide (r.c < r.f))))))))))))))
def rckF (l : List R6) : Int := bif y6d 2 l [] then (bif Jw (z3p 2 l []) l then 0 else 8) else 8
def Wv (l : List R6) : Int := bif decide (400 < l.length) then 4 else bif l.all x3h then rckF l else 8
def x8n (l : List R6) : Bool := true
theorem x5b (k : Int) (l m : List R6) : (z3p k l m).length ≤ 400 ∨ y6d k l m = false := by
 unfold z3p y6d
 cases jsO k l m with
 | none => exact .inl (Nat.zero_le _)
 | some out =>
  by_cases h : (out.length : Int) ≤ 400
  ·left; show out.length ≤ 400; omega
  ·right; exact decide_eq_false h
section
variable (l : List R6) (hl : l.length ≤ 400)
include hl
theorem x8o : ∀ (k i : Nat), i + k = l.length → (∀ s ∈ l.take i, x3h s = true) → ∃ n, Yv (Qj l) n (.to (.h0 (i : Int))) = .ret [.int .i64 (bif l.all x3h then rckF l else 8)]
 | 0, i, h, ht => by
  have hv : l.all x3h = true := List.all_eq_true.2 fun s hs => ht s (by rw [List.take_of_length_le (by omega)]; exact hs)
  have w1 : z8i 2 l [] = true := decide_eq_true ⟨by omega, by simp⟩
  refine ⟨1, ?_⟩
  rw [Zv, hv, cond_true]
  unfold rckF
  rcases Yg (y6d 2 l []) with q | q
  ·have w2 : Vk (z3p 2 l []) l = true := decide_eq_true (by
    rcases x5b 2 l [] with h | h
    ·omega
    ·rw [h] at q; cases q)
   rcases Yg (Jw (z3p 2 l []) l) with q2 | q2 <;>
   simp (disch := omega) only [Qj, Zb, Yz, q, q2, w1, w2, Bool.not_true, Bool.not_false, cond_true, cond_false, Zm]
  ·simp (disch := omega) only [Qj, Zb, Yz, q, w1, Bool.not_true, Bool.not_false, cond_true, cond_false, Zm]
 | k + 1, i, h, ht => by
  have hi : i < l.length := by omega
  have hs : Qj l (.h0 (i : Int)) = bif x3h (rd l i) then .to (.h0 ((i + 1 : Nat) : Int)) else .ret [.int .i64 8] := by
   simp (disch := omega) only [Qj, x3h, x0x, y4a, x2y, Zt, Zq, Zx, Zj, Bool.and_true, cond_true, cond_false]
  rcases Yg (x3h (rd l i)) with q | q
  ·obtain ⟨n, hn⟩ := x8o k (i + 1) (by omega) (fun s hs => by
    rw [List.take_add_one] at hs
    have e : l[i]? = some (rd l i) := by rw [Ww hi]; exact List.getElem?_eq_getElem _
    rw [e] at hs
    simp only [Option.toList_some, List.mem_append, List.mem_singleton] at hs
    rcases hs with hs | rfl
    ·exact ht s hs
    ·exact q)
   refine ⟨n + 1, ?_⟩
   rw [Zv, hs, q, cond_true]
   exact hn
  ·have hv : l.all x3h = false := Bool.eq_false_iff.2 fun e => by
    have := List.all_eq_true.1 e (rd l i) (by rw [Ww hi]; exact List.getElem_mem hi)
    rw [this] at q; cases q
   refine ⟨1, ?_⟩
   rw [Zv, hv, cond_false, hs, q, cond_false, Zm]
end
theorem w3f (l : List R6) : ∃ n, Yv (Qj l) n (z4l l) = .ret [.int .i64 (Wv l)] := by
 unfold z4l Wv
 by_cases h : 400 < l.length
 ·refine ⟨0, ?_⟩
  rw [decide_eq_true h, Yr (show (l.length : Int) > 400 by omega)]; rfl
 ·obtain ⟨n, hn⟩ := x8o l (by omega) l.length 0 (Nat.zero_add _) (fun s hs => by simp at hs)
  refine ⟨n, ?_⟩
  rw [decide_eq_false h, Xk (show ¬ (l.length : Int) > 400 by omega), cond_false, cond_false]
  exact hn
def fRck : List AVal → Option (AVal × Bool)
 | [a1] => match asL R6 a1 with
  | some (L1, g1, n1) => some (.int .i64 (Wv L1), isT R6 n1 g1 && x8n L1)
  | _ => none
 | _ => none
theorem v4d {S : Specs} (hS : Zu prog S) : Zu prog (S.with x9j fRck) := by
 refine z1m hS (by kernel_rfl) fun args v h => ?_
 unfold fRck at h
 split at h
 ·rename_i a1
  split at h
  ·rename_i L1 g1 n1 e1
   simp only [Option.some.injEq, Prod.mk.injEq, Bool.and_eq_true] at h
   obtain ⟨rfl, ho1, hw⟩ := h
   obtain ⟨N, hN⟩ := w3f L1
   exact ⟨_, _, (.cons (Yh e1 ho1) .nil), rfl, x8p L1 N _ hN, 3, rfl⟩
  ·cases h
 ·cases h
def T9 : Specs := T8.with x9j fRck
theorem v5u : Zu prog T9 := v4d Qz
end Go.Am
namespace Go.Am
open Go.Proofs
def gA (x : Int) (c B : R6) : R6 := ⟨Wt (IntKind.wrap .i64 (c.a - x)) B.a, Wt (IntKind.wrap .i64 (c.b - x)) B.b, Wt (IntKind.wrap .i64 (c.c - x)) B.c, Kz (IntKind.wrap .i64 (c.d + x)) B.d, Kz (IntKind.wrap .i64 (c.e + x)) B.e, Kz (IntKind.wrap .i64 (c.f + x)) B.f⟩
def x6l (r : R6) : Bool := decide (r.a ≥ r.d) || (decide (r.b ≥ r.e) || decide (r.c ≥ r.f))
def cvp1 (G B : R6) : R6 := ⟨B.a, B.b, B.c, G.a, B.e, B.f⟩
def cvp2 (G B : R6) : R6 := ⟨G.d, B.b, B.c, B.d, B.e, B.f⟩
def cvp3 (G B : R6) : R6 := ⟨G.a, B.b, B.c, G.d, G.b, B.f⟩
def cvp4 (G B : R6) : R6 := ⟨G.a, G.e, B.c, G.d, B.e, B.f⟩
def cvp5 (G B : R6) : R6 := ⟨G.a, G.b, B.c, G.d, G.e, G.c⟩
def cvp6 (G B : R6) : R6 := ⟨G.a, G.b, G.f, G.d, G.e, B.f⟩
def covB (x : Int) : List R6 → R6 → Bool
 | [], _ => false
 | c :: l, B => bif x6l (gA x c B) then covB x l B else
  (x6l (cvp1 (gA x c B) B) || covB x l (cvp1 (gA x c B) B)) && ((x6l (cvp2 (gA x c B) B) || covB x l (cvp2 (gA x c B) B)) && ((x6l (cvp3 (gA x c B) B) || covB x l (cvp3 (gA x c B) B)) &&
   ((x6l (cvp4 (gA x c B) B) || covB x l (cvp4 (gA x c B) B)) && ((x6l (cvp5 (gA x c B) B) || covB x l (cvp5 (gA x c B) B)) && (x6l (cvp6 (gA x c B) B) || covB x l (cvp6 (gA x c B) B))))))
def x6m (a b c d e f : Int) (L : List R6) (x : Int) : Bool := covB x L ⟨a, b, c, d, e, f⟩
def Vc (q : Nat) (a b c d e f : Int) (L : List R6) (x : Int) : Bool := decide (L.length < q) && decide (L.length ≤ 100000)
def fCov (q : Nat) : List AVal → Option (AVal × Bool)
 | [.agg [.int .i64 aS, .int .i64 aR, .int .i64 aO, .int .i64 bA, .int .i64 bK, .int .i64 bC], a1, .int .i64 x2] => match asL R6 a1 with
  | some (L1, g1, n1) => some (.bool (x6m aS aR aO bA bK bC L1 x2), isT R6 n1 g1 && (Vc q aS aR aO bA bK bC L1 x2))
  | _ => none
 | _ => none
def Tcv (q : Nat) : Specs := T9.with z8f (fCov q)
theorem z2p (L : List R6) {k : Nat} (h : k ≤ L.length) : lst R6 (L.length - k) (fun j => (Zz L) (k + j)) = L.drop k := by
 rw [x2i L (by omega), List.take_of_length_le (by simp)]
end Go.Am
namespace Go.Am
open Go.Proofs.Tryz
open Go.Proofs
inductive cvdS where
 | h0 (v14 : Int)
 | h1 (aZ : Int) (cX : Int) (aG : Int) (aB : Int) (bR : Int) (bJ : Int) (cS : Int) (bQ : Int) (aY : Int)
 | h2 (aU : Int) (aG : Int) (aB : Int) (bR : Int) (bJ : Int) (bQ : Int) (aY : Int)
 | h3 (aU : Int) (aZ : Int) (bT : Int) (aG : Int) (bJ : Int) (bQ : Int) (aY : Int)
 | h4 (aU : Int) (bU : Int) (aZ : Int) (aG : Int) (bR : Int) (bJ : Int) (aY : Int)
 | h5 (aU : Int) (bU : Int) (aZ : Int) (bT : Int) (dG : Int) (aG : Int) (aY : Int)
 | h6 (aU : Int) (bU : Int) (dH : Int) (aZ : Int) (bT : Int) (aG : Int)
def cvdC (aS : Int) (aR : Int) (aO : Int) (bA : Int) (bK : Int) (bC : Int) (l1 : List R6) (x2 : Int) : cvdS → Cfg
 | .h0 v14 => ⟨⟨200, 0, true⟩, none, (Zg prog 95 [1, 0, 1, 0, 0] 0), none, (Zy prog 4), ⟨Yj [(3, (.ptr 0 0)), (4, (.ptr 1 0)), (5, (.ptr 2 0)), (12, (.dat l1.length (Zz l1))), (13, (ii (l1.length : Int))), (14, (ii v14))], Vf [⟨[(ii aS), (ii aR), (ii aO), (ii bA), (ii bK), (ii bC)], 68, none⟩, ⟨[(.dat l1.length (Zz l1))], 22, none⟩, ⟨[(ii x2)], 3, none⟩] 0, 3, [], true⟩, [], .leaf⟩
 | .h1 aZ cX aG aB bR bJ cS bQ aY => ⟨⟨38, 0, true⟩, none, (Zg prog 127 [] 0), none, (Zy prog 127), ⟨Yj [(0, (.agg [(ii aS), (ii aR), (ii aO)])), (1, (.agg [(ii aZ), (ii bK), (ii bC)])), (2, (.ptr 0 0)), (3, (.ptr 1 0)), (4, (.ptr 2 0))], Vf [⟨[(.dat l1.length (Zz l1))], 22, none⟩, ⟨[(ii aG)], 3, none⟩, ⟨[(ii x2)], 3, none⟩, ⟨[(ii aB), (ii bR), (ii bJ), (ii cS), (ii bQ), (ii aY)], 68, none⟩, ⟨[(ii aS), (ii aR), (ii aO)], 65, none⟩, ⟨[(ii bA), (ii bK), (ii bC)], 65, none⟩] 0, 6, [], true⟩, [⟨⟨200, 0, true⟩, (Vv prog 95 [1, 0, 1, 0, 0, 1, 1, 0, 0, 1, 1, 1, 1, 1, 1, 0, 0] 10), (Zg prog 95 [1, 0, 1, 0, 0, 1, 1, 0, 0, 1, 1, 1, 1, 1, 1, 0, 0] 1), none, (Zy prog 4), Yj [(8, (.ptr 3 0)), (9, (.fn 127 [(.ptr 0 0), (.ptr 1 0), (.ptr 2 0)])), (10, (.ptr 4 0)), (11, (.ptr 5 0)), (107, (.fn 127 [(.ptr 0 0), (.ptr 1 0), (.ptr 2 0)])), (108, (.agg [(ii aS), (ii aR), (ii aO)])), (116, (.agg [(ii cX), (ii bK), (ii bC)]))]⟩], .leaf⟩
 | .h2 aU aG aB bR bJ bQ aY => ⟨⟨38, 0, true⟩, none, (Zg prog 127 [] 0), none, (Zy prog 127), ⟨Yj [(0, (.agg [(ii aU), (ii aR), (ii aO)])), (1, (.agg [(ii bA), (ii bK), (ii bC)])), (2, (.ptr 0 0)), (3, (.ptr 1 0)), (4, (.ptr 2 0))], Vf [⟨[(.dat l1.length (Zz l1))], 22, none⟩, ⟨[(ii aG)], 3, none⟩, ⟨[(ii x2)], 3, none⟩, ⟨[(ii aB), (ii bR), (ii bJ), (ii aU), (ii bQ), (ii aY)], 68, none⟩, ⟨[(ii aS), (ii aR), (ii aO)], 65, none⟩, ⟨[(ii bA), (ii bK), (ii bC)], 65, none⟩] 0, 6, [], true⟩, [⟨⟨200, 0, true⟩, (Vv prog 95 [1, 0, 1, 0, 0, 1, 1, 0, 0, 1, 1, 1, 1, 1, 1, 0, 0] 23), (Zg prog 95 [1, 0, 1, 0, 0, 1, 1, 0, 0, 1, 1, 1, 1, 1, 1, 0, 0] 1), none, (Zy prog 4), Yj [(8, (.ptr 3 0)), (9, (.fn 127 [(.ptr 0 0), (.ptr 1 0), (.ptr 2 0)])), (10, (.ptr 4 0)), (11, (.ptr 5 0)), (119, (.bool false)), (120, (.fn 127 [(.ptr 0 0), (.ptr 1 0), (.ptr 2 0)])), (128, (.agg [(ii aU), (ii aR), (ii aO)])), (129, (.agg [(ii bA), (ii bK), (ii bC)]))]⟩], .leaf⟩
 | .h3 aU aZ bT aG bJ bQ aY => ⟨⟨38, 0, true⟩, none, (Zg prog 127 [] 0), none, (Zy prog 127), ⟨Yj [(0, (.agg [(ii aU), (ii aR), (ii aO)])), (1, (.agg [(ii aZ), (ii bT), (ii bC)])), (2, (.ptr 0 0)), (3, (.ptr 1 0)), (4, (.ptr 2 0))], Vf [⟨[(.dat l1.length (Zz l1))], 22, none⟩, ⟨[(ii aG)], 3, none⟩, ⟨[(ii x2)], 3, none⟩, ⟨[(ii aU), (ii bT), (ii bJ), (ii aZ), (ii bQ), (ii aY)], 68, none⟩, ⟨[(ii aU), (ii aR), (ii aO)], 65, none⟩, ⟨[(ii aZ), (ii bK), (ii bC)], 65, none⟩] 0, 6, [], true⟩, [⟨⟨200, 0, true⟩, (Vv prog 95 [1, 0, 1, 0, 0, 1, 1, 0, 0, 1, 1, 1, 1, 1, 1, 1, 1, 0, 0] 10), (Zg prog 95 [1, 0, 1, 0, 0, 1, 1, 0, 0, 1, 1, 1, 1, 1, 1, 1, 1, 0, 0] 1), none, (Zy prog 4), Yj [(8, (.ptr 3 0)), (9, (.fn 127 [(.ptr 0 0), (.ptr 1 0), (.ptr 2 0)])), (10, (.ptr 4 0)), (11, (.ptr 5 0)), (141, (.fn 127 [(.ptr 0 0), (.ptr 1 0), (.ptr 2 0)])), (142, (.agg [(ii aU), (ii aR), (ii aO)])), (150, (.agg [(ii aZ), (ii bT), (ii bC)]))]⟩], .leaf⟩
 | .h4 aU bU aZ aG bR bJ aY => ⟨⟨38, 0, true⟩, none, (Zg prog 127 [] 0), none, (Zy prog 127), ⟨Yj [(0, (.agg [(ii aU), (ii bU), (ii aO)])), (1, (.agg [(ii aZ), (ii bK), (ii bC)])), (2, (.ptr 0 0)), (3, (.ptr 1 0)), (4, (.ptr 2 0))], Vf [⟨[(.dat l1.length (Zz l1))], 22, none⟩, ⟨[(ii aG)], 3, none⟩, ⟨[(ii x2)], 3, none⟩, ⟨[(ii aU), (ii bR), (ii bJ), (ii aZ), (ii bU), (ii aY)], 68, none⟩, ⟨[(ii aU), (ii aR), (ii aO)], 65, none⟩, ⟨[(ii aZ), (ii bK), (ii bC)], 65, none⟩] 0, 6, [], true⟩, [⟨⟨200, 0, true⟩, (Vv prog 95 [1, 0, 1, 0, 0, 1, 1, 0, 0, 1, 1, 1, 1, 1, 1, 1, 1, 0, 0] 23), (Zg prog 95 [1, 0, 1, 0, 0, 1, 1, 0, 0, 1, 1, 1, 1, 1, 1, 1, 1, 0, 0] 1), none, (Zy prog 4), Yj [(8, (.ptr 3 0)), (9, (.fn 127 [(.ptr 0 0), (.ptr 1 0), (.ptr 2 0)])), (10, (.ptr 4 0)), (11, (.ptr 5 0)), (153, (.bool false)), (154, (.fn 127 [(.ptr 0 0), (.ptr 1 0), (.ptr 2 0)])), (162, (.agg [(ii aU), (ii bU), (ii aO)])), (163, (.agg [(ii aZ), (ii bK), (ii bC)]))]⟩], .leaf⟩
 | .h5 aU bU aZ bT dG aG aY => ⟨⟨38, 0, true⟩, none, (Zg prog 127 [] 0), none, (Zy prog 127), ⟨Yj [(0, (.agg [(ii aU), (ii bU), (ii aO)])), (1, (.agg [(ii aZ), (ii bT), (ii dG)])), (2, (.ptr 0 0)), (3, (.ptr 1 0)), (4, (.ptr 2 0))], Vf [⟨[(.dat l1.length (Zz l1))], 22, none⟩, ⟨[(ii aG)], 3, none⟩, ⟨[(ii x2)], 3, none⟩, ⟨[(ii aU), (ii bU), (ii dG), (ii aZ), (ii bT), (ii aY)], 68, none⟩, ⟨[(ii aU), (ii bU), (ii aO)], 65, none⟩, ⟨[(ii aZ), (ii bT), (ii bC)], 65, none⟩] 0, 6, [], true⟩, [⟨⟨200, 0, true⟩, (Vv prog 95 [1, 0, 1, 0, 0, 1, 1, 0, 0, 1, 1, 1, 1, 1, 1, 1, 1, 1, 1, 0] 10), (Zg prog 95 [1, 0, 1, 0, 0, 1, 1, 0, 0, 1, 1, 1, 1, 1, 1, 1, 1, 1, 1, 0] 1), none, (Zy prog 4), Yj [(8, (.ptr 3 0)), (9, (.fn 127 [(.ptr 0 0), (.ptr 1 0), (.ptr 2 0)])), (10, (.ptr 4 0)), (11, (.ptr 5 0)), (175, (.fn 127 [(.ptr 0 0), (.ptr 1 0), (.ptr 2 0)])), (176, (.agg [(ii aU), (ii bU), (ii aO)])), (184, (.agg [(ii aZ), (ii bT), (ii dG)]))]⟩], .leaf⟩
 | .h6 aU bU dH aZ bT aG => ⟨⟨38, 0, true⟩, none, (Zg prog 127 [] 0), none, (Zy prog 127), ⟨Yj [(0, (.agg [(ii aU), (ii bU), (ii dH)])), (1, (.agg [(ii aZ), (ii bT), (ii bC)])), (2, (.ptr 0 0)), (3, (.ptr 1 0)), (4, (.ptr 2 0))], Vf [⟨[(.dat l1.length (Zz l1))], 22, none⟩, ⟨[(ii aG)], 3, none⟩, ⟨[(ii x2)], 3, none⟩] 0, 3, [], true⟩, [⟨⟨200, 0, true⟩, (Vv prog 95 [1, 0, 1, 0, 0, 1, 1, 0, 0, 1, 1, 1, 1, 1, 1, 1, 1, 1, 1, 0] 22), (Zg prog 95 [1, 0, 1, 0, 0, 1, 1, 0, 0, 1, 1, 1, 1, 1, 1, 1, 1, 1, 1, 0] 1), none, (Zy prog 4), Yj [(186, (.bool true)), (187, (.fn 127 [(.ptr 0 0), (.ptr 1 0), (.ptr 2 0)])), (195, (.agg [(ii aU), (ii bU), (ii dH)])), (196, (.agg [(ii aZ), (ii bT), (ii bC)]))]⟩], .leaf⟩
def w6f : List (Option (List Nat)) := [some [3, 4, 5, 12, 13, 14]]
def w6l : List (Option (List Nat)) := []
def cvdN1 : List (Option (List Nat)) := [some [0, 1, 2, 3, 4], some [8, 9, 10, 11, 107, 108, 116]]
def cvdM1 : List (Option (List Nat)) := []
def w6e : List (Option (List Nat)) := [some [0, 1, 2, 3, 4], some [8, 9, 10, 11, 119, 120, 128, 129]]
def w6k : List (Option (List Nat)) := []
def w6d : List (Option (List Nat)) := [some [0, 1, 2, 3, 4], some [8, 9, 10, 11, 141, 142, 150]]
def w6j : List (Option (List Nat)) := []
def w6c : List (Option (List Nat)) := [some [0, 1, 2, 3, 4], some [8, 9, 10, 11, 153, 154, 162, 163]]
def w6i : List (Option (List Nat)) := []
def w6b : List (Option (List Nat)) := [some [0, 1, 2, 3, 4], some [8, 9, 10, 11, 175, 176, 184]]
def w6h : List (Option (List Nat)) := []
def w6a : List (Option (List Nat)) := [some [0, 1, 2, 3, 4], some [186, 187, 195, 196]]
def w6g : List (Option (List Nat)) := []
def Ws (q : Nat) (aS : Int) (aR : Int) (aO : Int) (bA : Int) (bK : Int) (bC : Int) (l1 : List R6) (x2 : Int) : cvdS → Xd cvdS
 | .h0 v14 => (bif (decide (v14 < (l1.length : Int))) then (bif ((decide (0 ≤ v14 ∧ v14 < (l1.length : Int))) && true) then (bif (decide ((Wt (IntKind.wrap .i64 ((rd l1 v14.toNat).a - x2)) aS) ≥ (Kz (IntKind.wrap .i64 ((rd l1 v14.toNat).d + x2)) bA))) then (.to (.h0 (IntKind.wrap .i64 (v14 + 1)))) else (bif (decide ((Wt (IntKind.wrap .i64 ((rd l1 v14.toNat).b - x2)) aR) ≥ (Kz (IntKind.wrap .i64 ((rd l1 v14.toNat).e + x2)) bK))) then (.to (.h0 (IntKind.wrap .i64 (v14 + 1)))) else (bif (decide ((Wt (IntKind.wrap .i64 ((rd l1 v14.toNat).c - x2)) aO) ≥ (Kz (IntKind.wrap .i64 ((rd l1 v14.toNat).f + x2)) bC))) then (.to (.h0 (IntKind.wrap .i64 (v14 + 1)))) else (.to (.h1 (Wt (IntKind.wrap .i64 ((rd l1 v14.toNat).a - x2)) aS) (Wt (IntKind.wrap .i64 ((rd l1 v14.toNat).a - x2)) aS) v14 (Wt (IntKind.wrap .i64 ((rd l1 v14.toNat).a - x2)) aS) (Wt (IntKind.wrap .i64 ((rd l1 v14.toNat).b - x2)) aR) (Wt (IntKind.wrap .i64 ((rd l1 v14.toNat).c - x2)) aO) (Kz (IntKind.wrap .i64 ((rd l1 v14.toNat).d + x2)) bA) (Kz (IntKind.wrap .i64 ((rd l1 v14.toNat).e + x2)) bK) (Kz (IntKind.wrap .i64 ((rd l1 v14.toNat).f + x2)) bC)))))) else .stuck) else (.ret [(.bool false)]))
 | .h1 aZ cX aG aB bR bJ cS bQ aY => (bif (decide (aS ≥ aZ)) then (.to (.h2 cS aG aB bR bJ bQ aY)) else (bif (decide (aR ≥ bK)) then (.to (.h2 cS aG aB bR bJ bQ aY)) else (bif (decide (aO ≥ bC)) then (.to (.h2 cS aG aB bR bJ bQ aY)) else (bif (decide ((Int.toNat (IntKind.wrap .i64 (aG + 1))) ≤ l1.length)) then (bif (decide (l1.length ≤ l1.length)) then (bif (decide (0 ≤ (IntKind.wrap .i64 (aG + 1)))) then (bif (Vc q aS aR aO aZ bK bC (lst R6 (l1.length - (Int.toNat (IntKind.wrap .i64 (aG + 1)))) (fun k => (Zz l1) ((Int.toNat (IntKind.wrap .i64 (aG + 1))) + k))) x2) then (bif (!(x6m aS aR aO aZ bK bC (lst R6 (l1.length - (Int.toNat (IntKind.wrap .i64 (aG + 1)))) (fun k => (Zz l1) ((Int.toNat (IntKind.wrap .i64 (aG + 1))) + k))) x2)) then (.ret [(.bool false)]) else (.to (.h2 cS aG aB bR bJ bQ aY))) else .stuck) else .stuck) else .stuck) else .stuck))))
 | .h2 aU aG aB bR bJ bQ aY => (bif (decide (aU ≥ bA)) then (.to (.h3 aB aU bR aG bJ bQ aY)) else (bif (decide (aR ≥ bK)) then (.to (.h3 aB aU bR aG bJ bQ aY)) else (bif (decide (aO ≥ bC)) then (.to (.h3 aB aU bR aG bJ bQ aY)) else (bif (decide ((Int.toNat (IntKind.wrap .i64 (aG + 1))) ≤ l1.length)) then (bif (decide (l1.length ≤ l1.length)) then (bif (decide (0 ≤ (IntKind.wrap .i64 (aG + 1)))) then (bif (Vc q aU aR aO bA bK bC (lst R6 (l1.length - (Int.toNat (IntKind.wrap .i64 (aG + 1)))) (fun k => (Zz l1) ((Int.toNat (IntKind.wrap .i64 (aG + 1))) + k))) x2) then (bif (!(x6m aU aR aO bA bK bC (lst R6 (l1.length - (Int.toNat (IntKind.wrap .i64 (aG + 1)))) (fun k => (Zz l1) ((Int.toNat (IntKind.wrap .i64 (aG + 1))) + k))) x2)) then (.ret [(.bool false)]) else (.to (.h3 aB aU bR aG bJ bQ aY))) else .stuck) else .stuck) else .stuck) else .stuck))))
 | .h3 aU aZ bT aG bJ bQ aY => (bif (decide (aU ≥ aZ)) then (.to (.h4 aU bQ aZ aG bT bJ aY)) else (bif (decide (aR ≥ bT)) then (.to (.h4 aU bQ aZ aG bT bJ aY)) else (bif (decide (aO ≥ bC)) then (.to (.h4 aU bQ aZ aG bT bJ aY)) else (bif (decide ((Int.toNat (IntKind.wrap .i64 (aG + 1))) ≤ l1.length)) then (bif (decide (l1.length ≤ l1.length)) then (bif (decide (0 ≤ (IntKind.wrap .i64 (aG + 1)))) then (bif (Vc q aU aR aO aZ bT bC (lst R6 (l1.length - (Int.toNat (IntKind.wrap .i64 (aG + 1)))) (fun k => (Zz l1) ((Int.toNat (IntKind.wrap .i64 (aG + 1))) + k))) x2) then (bif (!(x6m aU aR aO aZ bT bC (lst R6 (l1.length - (Int.toNat (IntKind.wrap .i64 (aG + 1)))) (fun k => (Zz l1) ((Int.toNat (IntKind.wrap .i64 (aG + 1))) + k))) x2)) then (.ret [(.bool false)]) else (.to (.h4 aU bQ aZ aG bT bJ aY))) else .stuck) else .stuck) else .stuck) else .stuck))))
 | .h4 aU bU aZ aG bR bJ aY => (bif (decide (aU ≥ aZ)) then (.to (.h5 aU bR aZ bU bJ aG aY)) else (bif (decide (bU ≥ bK)) then (.to (.h5 aU bR aZ bU bJ aG aY)) else (bif (decide (aO ≥ bC)) then (.to (.h5 aU bR aZ bU bJ aG aY)) else (bif (decide ((Int.toNat (IntKind.wrap .i64 (aG + 1))) ≤ l1.length)) then (bif (decide (l1.length ≤ l1.length)) then (bif (decide (0 ≤ (IntKind.wrap .i64 (aG + 1)))) then (bif (Vc q aU bU aO aZ bK bC (lst R6 (l1.length - (Int.toNat (IntKind.wrap .i64 (aG + 1)))) (fun k => (Zz l1) ((Int.toNat (IntKind.wrap .i64 (aG + 1))) + k))) x2) then (bif (!(x6m aU bU aO aZ bK bC (lst R6 (l1.length - (Int.toNat (IntKind.wrap .i64 (aG + 1)))) (fun k => (Zz l1) ((Int.toNat (IntKind.wrap .i64 (aG + 1))) + k))) x2)) then (.ret [(.bool false)]) else (.to (.h5 aU bR aZ bU bJ aG aY))) else .stuck) else .stuck) else .stuck) else .stuck))))
 | .h5 aU bU aZ bT dG aG aY => (bif (decide (aU ≥ aZ)) then (.to (.h6 aU bU aY aZ bT aG)) else (bif (decide (bU ≥ bT)) then (.to (.h6 aU bU aY aZ bT aG)) else (bif (decide (aO ≥ dG)) then (.to (.h6 aU bU aY aZ bT aG)) else (bif (decide ((Int.toNat (IntKind.wrap .i64 (aG + 1))) ≤ l1.length)) then (bif (decide (l1.length ≤ l1.length)) then (bif (decide (0 ≤ (IntKind.wrap .i64 (aG + 1)))) then (bif (Vc q aU bU aO aZ bT dG (lst R6 (l1.length - (Int.toNat (IntKind.wrap .i64 (aG + 1)))) (fun k => (Zz l1) ((Int.toNat (IntKind.wrap .i64 (aG + 1))) + k))) x2) then (bif (x6m aU bU aO aZ bT dG (lst R6 (l1.length - (Int.toNat (IntKind.wrap .i64 (aG + 1)))) (fun k => (Zz l1) ((Int.toNat (IntKind.wrap .i64 (aG + 1))) + k))) x2) then (.to (.h6 aU bU aY aZ bT aG)) else (.ret [(.bool false)])) else .stuck) else .stuck) else .stuck) else .stuck))))
 | .h6 aU bU dH aZ bT aG => (bif (decide (aU ≥ aZ)) then (.ret [(.bool true)]) else (bif (decide (bU ≥ bT)) then (.ret [(.bool true)]) else (bif (decide (dH ≥ bC)) then (.ret [(.bool true)]) else (bif (decide ((Int.toNat (IntKind.wrap .i64 (aG + 1))) ≤ l1.length)) then (bif (decide (l1.length ≤ l1.length)) then (bif (decide (0 ≤ (IntKind.wrap .i64 (aG + 1)))) then (bif (Vc q aU bU dH aZ bT bC (lst R6 (l1.length - (Int.toNat (IntKind.wrap .i64 (aG + 1)))) (fun k => (Zz l1) ((Int.toNat (IntKind.wrap .i64 (aG + 1))) + k))) x2) then (.ret [(.bool (x6m aU bU dH aZ bT bC (lst R6 (l1.length - (Int.toNat (IntKind.wrap .i64 (aG + 1)))) (fun k => (Zz l1) ((Int.toNat (IntKind.wrap .i64 (aG + 1))) + k))) x2))]) else .stuck) else .stuck) else .stuck) else .stuck))))
def y3t (aS : Int) (aR : Int) (aO : Int) (bA : Int) (bK : Int) (bC : Int) (l1 : List R6) (x2 : Int) : Xd cvdS := (.to (.h0 0))
theorem x5x {q : Nat} (hq : Zu prog (Tcv q)) (aS : Int) (aR : Int) (aO : Int) (bA : Int) (bK : Int) (bC : Int) (l1 : List R6) (x2 : Int) : ∀ s, Wj prog (Zy prog 95) (cvdC aS aR aO bA bK bC l1 x2) (cvdC aS aR aO bA bK bC l1 x2 s) (Ws q aS aR aO bA bK bC l1 x2 s)
 | .h0 v14 => (lb (fun k0 => (lo fun aH => (lb (fun k1 => (sl hq 121 [] ⟨[0, 1, 2], [], w6f, w6l⟩ ⟨[], [], []⟩ (trs 16 []) (tt k1 (ww aH (tt k0 nn))))) (fun k1 => (lb (fun k2 => (sl hq 121 [] ⟨[0, 1, 2], [], w6f, w6l⟩ ⟨[], [], []⟩ [true, false, false, false, false, false, false, false, true, true, true, true, true, true, true, true] (tt k2 (tt k1 (ww aH (tt k0 nn)))))) (fun k2 => (lb (fun k3 => (sl hq 121 [] ⟨[0, 1, 2], [], w6f, w6l⟩ ⟨[], [], []⟩ [true, false, false, false, false, false, false, false, false, false, false, false, false, false, false, true] (tt k3 (tt k2 (tt k1 (ww aH (tt k0 nn))))))) (fun k3 => (sl hq 137 [] ⟨[1, 3, 2, 4, 5, 6], [], cvdN1, cvdM1⟩ ⟨[], [], []⟩ [true, false, false, false, false, false, false, false, false, false, false, false, false, false, false, false] (tt k3 (tt k2 (tt k1 (ww aH (tt k0 nn)))))))))))))) (fun k0 => (lr 200 3 [1, 1, 1, 1, 1, 1, 0] 1 4 [(6, (.bool false))] (sl hq 11 [] ⟨[], [], [some [6]], []⟩ ⟨[], [], []⟩ [false] (tt k0 nn)))))
 | .h1 aZ cX aG aB bR bJ cS bQ aY => (lb (fun k0 => (sl hq 22 [] ⟨(List.range 6), [], w6e, w6k⟩ ⟨[], [], []⟩ (trs 19 [false, false, false, false, false, false, false, false, false, false, false]) (tt k0 nn))) (fun k0 => (lb (fun k1 => (sl hq 22 [] ⟨(List.range 6), [], w6e, w6k⟩ ⟨[], [], []⟩ [false, false, false, false, false, true, true, true, true, true, true, true, true, true, true, true, true, true, true, false, false, false, false, false, false, false, false, false, false, false] (tt k1 (tt k0 nn)))) (fun k1 => (lb (fun k2 => (sl hq 22 [] ⟨(List.range 6), [], w6e, w6k⟩ ⟨[], [], []⟩ [false, false, false, false, false, false, false, false, false, false, true, true, true, true, true, true, true, true, true, false, false, false, false, false, false, false, false, false, false, false] (tt k2 (tt k1 (tt k0 nn))))) (fun k2 => (lo fun cU => (lo fun dJ => (lo fun cY => (lo fun dE => (lb (fun k3 => (lr 200 95 [1, 0, 1, 0, 0, 1, 1, 0, 0, 1, 1, 1, 1, 1, 1, 0, 1, 0, 0] 1 4 [(6, (.bool false))] (sl hq 30 [] ⟨[], [], [some [6]], []⟩ ⟨[], [], []⟩ [false, false, false, false, false, false, false, false, false, false, false, false, false, false, false, false, false, false, false, true, true, true, true, true, true, true, true, true, true, true, true, true] (tt k3 (pp (pp (xI R6 (l1.length - (tn (wr (aG + 1)))) (fun k => (Zz l1) ((tn (wr (aG + 1))) + k))) (xw dE)) (pp (pp nn (pp (xw cY) (pp (xG (decide (l1.length ≤ l1.length))) (pp (xG (decide ((tn (wr (aG + 1))) ≤ l1.length))) (xG (y4o l1.length (Zz l1) 6)))))) (tt k2 (tt k1 (tt k0 nn))))))))) (fun k3 => (sl hq 22 [] ⟨(List.range 6), [], w6e, w6k⟩ ⟨[], [], []⟩ [false, false, false, false, false, false, false, false, false, false, false, false, false, false, false, false, false, false, false, false, false, false, false, false, false, false, false, false, false, false] (tt k3 (pp (pp (xI R6 (l1.length - (tn (wr (aG + 1)))) (fun k => (Zz l1) ((tn (wr (aG + 1))) + k))) (xw dE)) (pp (pp nn (pp (xw cY) (pp (xG (decide (l1.length ≤ l1.length))) (pp (xG (decide ((tn (wr (aG + 1))) ≤ l1.length))) (xG (y4o l1.length (Zz l1) 6)))))) (tt k2 (tt k1 (tt k0 nn)))))))))))))))))))
 | .h2 aU aG aB bR bJ bQ aY => (lb (fun k0 => (sl hq 30 [] ⟨(List.range 6), [], w6d, w6j⟩ ⟨[], [], []⟩ (trs 19 [false, false]) (tt k0 nn))) (fun k0 => (lb (fun k1 => (sl hq 30 [] ⟨(List.range 6), [], w6d, w6j⟩ ⟨[], [], []⟩ [false, false, false, false, false, true, true, true, true, true, true, true, true, true, true, true, true, true, true, false, false] (tt k1 (tt k0 nn)))) (fun k1 => (lb (fun k2 => (sl hq 30 [] ⟨(List.range 6), [], w6d, w6j⟩ ⟨[], [], []⟩ [false, false, false, false, false, false, false, false, false, false, true, true, true, true, true, true, true, true, true, false, false] (tt k2 (tt k1 (tt k0 nn))))) (fun k2 => (lo fun cU => (lo fun dJ => (lo fun cY => (lo fun dE => (lb (fun k3 => (lr 200 95 [1, 0, 1, 0, 0, 1, 1, 0, 0, 1, 1, 1, 1, 1, 1, 0, 1, 0, 0] 1 4 [(6, (.bool false))] (sl hq 17 [] ⟨[], [], [some [6]], []⟩ ⟨[], [], []⟩ [false, false, false, false, false, false, false, false, false, false, false, false, false, false, false, false, false, false, false, false, true] (tt k3 (pp (pp (xI R6 (l1.length - (tn (wr (aG + 1)))) (fun k => (Zz l1) ((tn (wr (aG + 1))) + k))) (xw dE)) (pp (pp nn (pp (xw cY) (pp (xG (decide (l1.length ≤ l1.length))) (pp (xG (decide ((tn (wr (aG + 1))) ≤ l1.length))) (xG (y4o l1.length (Zz l1) 6)))))) (tt k2 (tt k1 (tt k0 nn))))))))) (fun k3 => (sl hq 30 [] ⟨(List.range 6), [], w6d, w6j⟩ ⟨[], [], []⟩ [false, false, false, false, false, false, false, false, false, false, false, false, false, false, false, false, false, false, false, false, false] (tt k3 (pp (pp (xI R6 (l1.length - (tn (wr (aG + 1)))) (fun k => (Zz l1) ((tn (wr (aG + 1))) + k))) (xw dE)) (pp (pp nn (pp (xw cY) (pp (xG (decide (l1.length ≤ l1.length))) (pp (xG (decide ((tn (wr (aG + 1))) ≤ l1.length))) (xG (y4o l1.length (Zz l1) 6)))))) (tt k2 (tt k1 (tt k0 nn)))))))))))))))))))
 | .h3 aU aZ bT aG bJ bQ aY => (lb (fun k0 => (sl hq 22 [] ⟨(List.range 6), [], w6c, w6i⟩ ⟨[], [], []⟩ (trs 19 [false, false, false, false, false, false, false, false, false, false, false]) (tt k0 nn))) (fun k0 => (lb (fun k1 => (sl hq 22 [] ⟨(List.range 6), [], w6c, w6i⟩ ⟨[], [], []⟩ [false, false, false, false, false, true, true, true, true, true, true, true, true, true, true, true, true, true, true, false, false, false, false, false, false, false, false, false, false, false] (tt k1 (tt k0 nn)))) (fun k1 => (lb (fun k2 => (sl hq 22 [] ⟨(List.range 6), [], w6c, w6i⟩ ⟨[], [], []⟩ [false, false, false, false, false, false, false, false, false, false, true, true, true, true, true, true, true, true, true, false, false, false, false, false, false, false, false, false, false, false] (tt k2 (tt k1 (tt k0 nn))))) (fun k2 => (lo fun cU => (lo fun dJ => (lo fun cY => (lo fun dE => (lb (fun k3 => (lr 200 95 [1, 0, 1, 0, 0, 1, 1, 0, 0, 1, 1, 1, 1, 1, 1, 1, 1, 0, 1, 0, 0] 1 4 [(6, (.bool false))] (sl hq 30 [] ⟨[], [], [some [6]], []⟩ ⟨[], [], []⟩ [false, false, false, false, false, false, false, false, false, false, false, false, false, false, false, false, false, false, false, true, true, true, true, true, true, true, true, true, true, true, true, true] (tt k3 (pp (pp (xI R6 (l1.length - (tn (wr (aG + 1)))) (fun k => (Zz l1) ((tn (wr (aG + 1))) + k))) (xw dE)) (pp (pp nn (pp (xw cY) (pp (xG (decide (l1.length ≤ l1.length))) (pp (xG (decide ((tn (wr (aG + 1))) ≤ l1.length))) (xG (y4o l1.length (Zz l1) 6)))))) (tt k2 (tt k1 (tt k0 nn))))))))) (fun k3 => (sl hq 22 [] ⟨(List.range 6), [], w6c, w6i⟩ ⟨[], [], []⟩ [false, false, false, false, false, false, false, false, false, false, false, false, false, false, false, false, false, false, false, false, false, false, false, false, false, false, false, false, false, false] (tt k3 (pp (pp (xI R6 (l1.length - (tn (wr (aG + 1)))) (fun k => (Zz l1) ((tn (wr (aG + 1))) + k))) (xw dE)) (pp (pp nn (pp (xw cY) (pp (xG (decide (l1.length ≤ l1.length))) (pp (xG (decide ((tn (wr (aG + 1))) ≤ l1.length))) (xG (y4o l1.length (Zz l1) 6)))))) (tt k2 (tt k1 (tt k0 nn)))))))))))))))))))
 | .h4 aU bU aZ aG bR bJ aY => (lb (fun k0 => (sl hq 29 [] ⟨(List.range 6), [], w6b, w6h⟩ ⟨[], [], []⟩ (trs 19 [false, false]) (tt k0 nn))) (fun k0 => (lb (fun k1 => (sl hq 29 [] ⟨(List.range 6), [], w6b, w6h⟩ ⟨[], [], []⟩ [false, false, false, false, false, true, true, true, true, true, true, true, true, true, true, true, true, true, true, false, false] (tt k1 (tt k0 nn)))) (fun k1 => (lb (fun k2 => (sl hq 29 [] ⟨(List.range 6), [], w6b, w6h⟩ ⟨[], [], []⟩ [false, false, false, false, false, false, false, false, false, false, true, true, true, true, true, true, true, true, true, false, false] (tt k2 (tt k1 (tt k0 nn))))) (fun k2 => (lo fun cU => (lo fun dJ => (lo fun cY => (lo fun dE => (lb (fun k3 => (lr 200 95 [1, 0, 1, 0, 0, 1, 1, 0, 0, 1, 1, 1, 1, 1, 1, 1, 1, 0, 1, 0, 0] 1 4 [(6, (.bool false))] (sl hq 17 [] ⟨[], [], [some [6]], []⟩ ⟨[], [], []⟩ [false, false, false, false, false, false, false, false, false, false, false, false, false, false, false, false, false, false, false, false, true] (tt k3 (pp (pp (xI R6 (l1.length - (tn (wr (aG + 1)))) (fun k => (Zz l1) ((tn (wr (aG + 1))) + k))) (xw dE)) (pp (pp nn (pp (xw cY) (pp (xG (decide (l1.length ≤ l1.length))) (pp (xG (decide ((tn (wr (aG + 1))) ≤ l1.length))) (xG (y4o l1.length (Zz l1) 6)))))) (tt k2 (tt k1 (tt k0 nn))))))))) (fun k3 => (sl hq 29 [] ⟨(List.range 6), [], w6b, w6h⟩ ⟨[], [], []⟩ [false, false, false, false, false, false, false, false, false, false, false, false, false, false, false, false, false, false, false, false, false] (tt k3 (pp (pp (xI R6 (l1.length - (tn (wr (aG + 1)))) (fun k => (Zz l1) ((tn (wr (aG + 1))) + k))) (xw dE)) (pp (pp nn (pp (xw cY) (pp (xG (decide (l1.length ≤ l1.length))) (pp (xG (decide ((tn (wr (aG + 1))) ≤ l1.length))) (xG (y4o l1.length (Zz l1) 6)))))) (tt k2 (tt k1 (tt k0 nn)))))))))))))))))))
 | .h5 aU bU aZ bT dG aG aY => (lb (fun k0 => (sl hq 21 [] ⟨[0, 1, 2], [], w6a, w6g⟩ ⟨[], [], []⟩ (trs 30 []) (tt k0 nn))) (fun k0 => (lb (fun k1 => (sl hq 21 [] ⟨[0, 1, 2], [], w6a, w6g⟩ ⟨[], [], []⟩ [false, false, false, false, false, true, true, true, true, true, true, true, true, true, true, true, true, true, true, true, true, true, true, true, true, true, true, true, true, true] (tt k1 (tt k0 nn)))) (fun k1 => (lb (fun k2 => (sl hq 21 [] ⟨[0, 1, 2], [], w6a, w6g⟩ ⟨[], [], []⟩ [false, false, false, false, false, false, false, false, false, false, true, true, true, true, true, true, true, true, true, true, true, true, true, true, true, true, true, true, true, true] (tt k2 (tt k1 (tt k0 nn))))) (fun k2 => (lo fun cU => (lo fun dJ => (lo fun cY => (lo fun dE => (lb (fun k3 => (sl hq 21 [] ⟨[0, 1, 2], [], w6a, w6g⟩ ⟨[], [], []⟩ [false, false, false, false, false, false, false, false, false, false, false, false, false, false, false, false, false, false, false, true, true, true, true, true, true, true, true, true, true, true] (tt k3 (pp (pp (xI R6 (l1.length - (tn (wr (aG + 1)))) (fun k => (Zz l1) ((tn (wr (aG + 1))) + k))) (xw dE)) (pp (pp nn (pp (xw cY) (pp (xG (decide (l1.length ≤ l1.length))) (pp (xG (decide ((tn (wr (aG + 1))) ≤ l1.length))) (xG (y4o l1.length (Zz l1) 6)))))) (tt k2 (tt k1 (tt k0 nn)))))))) (fun k3 => (lr 200 95 [1, 0, 1, 0, 0, 1, 1, 0, 0, 1, 1, 1, 1, 1, 1, 1, 1, 1, 1, 0] 1 4 [(6, (.bool false))] (sl hq 24 [] ⟨[], [], [some [6]], []⟩ ⟨[], [], []⟩ [false, false, false, false, false, false, false, false, false, false, false, false, false, false, false, false, false, false, false, false, false, false, false, false, false, false, false, false, false, false] (tt k3 (pp (pp (xI R6 (l1.length - (tn (wr (aG + 1)))) (fun k => (Zz l1) ((tn (wr (aG + 1))) + k))) (xw dE)) (pp (pp nn (pp (xw cY) (pp (xG (decide (l1.length ≤ l1.length))) (pp (xG (decide ((tn (wr (aG + 1))) ≤ l1.length))) (xG (y4o l1.length (Zz l1) 6)))))) (tt k2 (tt k1 (tt k0 nn))))))))))))))))))))
 | .h6 aU bU dH aZ bT aG => (lb (fun k0 => (lr 200 95 [1, 0, 1, 0, 0, 1, 1, 0, 0, 1, 1, 1, 1, 1, 1, 1, 1, 1, 1, 0] 1 4 [(6, (.bool true))] (sl hq 12 [] ⟨[], [], [some [6]], []⟩ ⟨[], [], []⟩ (trs 19 []) (tt k0 nn)))) (fun k0 => (lb (fun k1 => (lr 200 95 [1, 0, 1, 0, 0, 1, 1, 0, 0, 1, 1, 1, 1, 1, 1, 1, 1, 1, 1, 0] 1 4 [(6, (.bool true))] (sl hq 12 [] ⟨[], [], [some [6]], []⟩ ⟨[], [], []⟩ [false, false, false, false, false, true, true, true, true, true, true, true, true, true, true, true, true, true, true] (tt k1 (tt k0 nn))))) (fun k1 => (lb (fun k2 => (lr 200 95 [1, 0, 1, 0, 0, 1, 1, 0, 0, 1, 1, 1, 1, 1, 1, 1, 1, 1, 1, 0] 1 4 [(6, (.bool true))] (sl hq 12 [] ⟨[], [], [some [6]], []⟩ ⟨[], [], []⟩ [false, false, false, false, false, false, false, false, false, false, true, true, true, true, true, true, true, true, true] (tt k2 (tt k1 (tt k0 nn)))))) (fun k2 => (lo fun o0 => (lo fun o1 => (lo fun o2 => (lo fun o3 => (lr 200 95 [1, 0, 1, 0, 0, 1, 1, 0, 0, 1, 1, 1, 1, 1, 1, 1, 1, 1, 1, 0] 1 4 [(6, (.bool (x6m aU bU dH aZ bT bC (lst R6 (l1.length - (tn (wr (aG + 1)))) (fun k => (Zz l1) ((tn (wr (aG + 1))) + k))) x2)))] (sl hq 12 [] ⟨[], [], [some [6]], []⟩ ⟨[], [], []⟩ [false, false, false, false, false, false, false, false, false, false, false, false, false, false, false, false, false, false, false] (pp (pp (xI R6 (l1.length - (tn (wr (aG + 1)))) (fun k => (Zz l1) ((tn (wr (aG + 1))) + k))) (xw o3)) (pp (pp nn (pp (xw o2) (pp (xG (decide (l1.length ≤ l1.length))) (pp (xG (decide ((tn (wr (aG + 1))) ≤ l1.length))) (xG (y4o l1.length (Zz l1) 6)))))) (tt k2 (tt k1 (tt k0 nn)))))))))))))))))
theorem x0p {q : Nat} (hq : Zu prog (Tcv q)) (aS : Int) (aR : Int) (aO : Int) (bA : Int) (bK : Int) (bC : Int) (l1 : List R6) (x2 : Int) : Wj prog (Zy prog 95) (cvdC aS aR aO bA bK bC l1 x2) (Zf prog 95 [(.agg [(.int .i64 aS), (.int .i64 aR), (.int .i64 aO), (.int .i64 bA), (.int .i64 bK), (.int .i64 bC)]), (.dat l1.length (Zz l1)), (.int .i64 x2)] true []) (y3t aS aR aO bA bK bC l1 x2) := (sl hq 16 [] ⟨[0, 1, 2], [], w6f, w6l⟩ ⟨[], [], []⟩ [] nn)
theorem w5z {q : Nat} (hq : Zu prog (Tcv q)) (aS : Int) (aR : Int) (aO : Int) (bA : Int) (bK : Int) (bC : Int) (l1 : List R6) (x2 : Int) (n : Nat) (vs : List AVal) (h : Yv (Ws q aS aR aO bA bK bC l1 x2) n (y3t aS aR aO bA bK bC l1 x2) = .ret vs) : Jo prog (Zy prog 95) (Zf prog 95 [(.agg [(.int .i64 aS), (.int .i64 aR), (.int .i64 aO), (.int .i64 bA), (.int .i64 bK), (.int .i64 bC)]), (.dat l1.length (Zz l1)), (.int .i64 x2)] true []) vs := by
 have := Zo (x5x hq aS aR aO bA bK bC l1 x2) n _ (x0p hq aS aR aO bA bK bC l1 x2)
 rwa [h] at this
end Go.Am
namespace Go.Am
open Go.Proofs.Tryz
open Go.Proofs
def cvq (x : Int) (L : List R6) (i : Nat) (p : R6) : Bool := x6l p || covB x (L.drop (i + 1)) p
theorem y2j {x : Int} {L : List R6} {i : Nat} {a b c d e f : Int} : cvq x L i ⟨a, b, c, d, e, f⟩ = bif decide (a ≥ d) then true else bif decide (b ≥ e) then true else bif decide (c ≥ f) then true else x6m a b c d e f (L.drop (i + 1)) x := by
 unfold cvq x6l x6m
 cases decide (a ≥ d) <;> cases decide (b ≥ e) <;> cases decide (c ≥ f) <;> rfl
theorem cvo {q : Nat} {L : List R6} (hL : L.length ≤ q) (hl : L.length ≤ 100000) {i : Nat} (hi : i < L.length) (a b c d e f x : Int) : Vc q a b c d e f (L.drop (i + 1)) x = true := by
 unfold Vc
 rw [List.length_drop, Yq (by omega), Yx (by omega)]; rfl
theorem cv_fin {σ : Type} {step : σ → Xd σ} {N : Nat} {s : σ} {W t1 t2 t3 V : Bool} (h : Yv step N (.to s) = .ret [.bool W]) :
  Yv step N (bif t1 then .to s else bif t2 then .to s else bif t3 then .to s else bif V then .to s else .ret [.bool false]) = .ret [.bool ((bif t1 then true else bif t2 then true else bif t3 then true else V) && W)] := by
 cases t1 <;> cases t2 <;> cases t3 <;> cases V <;> first | exact Zm _ _ _ | (simp only [cond_true, cond_false, Bool.true_and]; exact h)
theorem y3u {σ : Type} {step : σ → Xd σ} {N : Nat} {s : σ} {W t1 t2 t3 V : Bool} (h : Yv step N (.to s) = .ret [.bool W]) :
  Yv step N (bif t1 then .to s else bif t2 then .to s else bif t3 then .to s else bif !V then .ret [.bool false] else .to s) = .ret [.bool ((bif t1 then true else bif t2 then true else bif t3 then true else V) && W)] := by
 cases t1 <;> cases t2 <;> cases t3 <;> cases V <;> first | exact Zm _ _ _ | (simp only [Bool.not_true, Bool.not_false, cond_true, cond_false, Bool.true_and]; exact h)
theorem cv_or {α : Type} {t1 t2 t3 : Bool} {a b : α} : (bif t1 then a else bif t2 then a else bif t3 then a else b) = bif (t1 || (t2 || t3)) then a else b := by
 cases t1 <;> cases t2 <;> cases t3 <;> rfl
theorem w4z {σ : Type} {step : σ → Xd σ} {N : Nat} {c : Bool} {a b : Xd σ} : Yv step N (bif c then a else b) = bif c then Yv step N a else Yv step N b := by cases c <;> rfl
theorem cvd_h6 {q : Nat} {B : R6} {L : List R6} {x : Int} (hL : L.length ≤ q) (hl : L.length ≤ 100000) {i : Nat} (hi : i < L.length) (aU bU dH aZ bT : Int) : ∃ N, Yv (Ws q B.a B.b B.c B.d B.e B.f L x) N (.to (.h6 aU bU dH aZ bT (i : Int))) = .ret [.bool (cvq x L i ⟨aU, bU, dH, aZ, bT, B.f⟩)] := by
 have hw : IntKind.wrap .i64 ((i : Int) + 1) = ((i + 1 : Nat) : Int) := Zq (by omega)
 have e1 : decide (i + 1 ≤ L.length) = true := Yx hi
 have e2 : ∀ {X Y : Xd cvdS}, (bif decide (L.length ≤ L.length) then X else Y) = X := fun {X Y} => by rw [Yx (Nat.le_refl _)]; rfl
 have e3 : ∀ {X Y : Xd cvdS}, (bif decide (0 ≤ ((i + 1 : Nat) : Int)) then X else Y) = X := fun {X Y} => by rw [Xa (by omega)]; rfl
 refine ⟨1, ?_⟩
 rw [Zv, y2j]
 simp only [Ws, hw, e2, e3, Zj, e1, z2p L (show i + 1 ≤ L.length from hi), cvo hL hl hi, cond_true]
 cases decide (aU ≥ aZ) <;> cases decide (bU ≥ bT) <;> cases decide (dH ≥ B.f) <;> rfl
theorem cvd_h5 {q : Nat} {B : R6} {L : List R6} {x : Int} (hL : L.length ≤ q) (hl : L.length ≤ 100000) {i : Nat} (hi : i < L.length) (aU bU aZ bT dG aY : Int) : ∃ N, Yv (Ws q B.a B.b B.c B.d B.e B.f L x) N (.to (.h5 aU bU aZ bT dG (i : Int) aY)) = .ret [.bool (cvq x L i ⟨aU, bU, B.c, aZ, bT, dG⟩ && (cvq x L i ⟨aU, bU, aY, aZ, bT, B.f⟩))] := by
 have hw : IntKind.wrap .i64 ((i : Int) + 1) = ((i + 1 : Nat) : Int) := Zq (by omega)
 have e1 : decide (i + 1 ≤ L.length) = true := Yx hi
 have e2 : ∀ {X Y : Xd cvdS}, (bif decide (L.length ≤ L.length) then X else Y) = X := fun {X Y} => by rw [Yx (Nat.le_refl _)]; rfl
 have e3 : ∀ {X Y : Xd cvdS}, (bif decide (0 ≤ ((i + 1 : Nat) : Int)) then X else Y) = X := fun {X Y} => by rw [Xa (by omega)]; rfl
 obtain ⟨N, hN⟩ := cvd_h6 (B := B) (x := x) hL hl hi aU bU aY aZ bT
 refine ⟨N + 1, ?_⟩
 rw [Zv, show cvq x L i ⟨aU, bU, B.c, aZ, bT, dG⟩ = _ from y2j]
 simp only [Ws, hw, e2, e3, Zj, e1, z2p L (show i + 1 ≤ L.length from hi), cvo hL hl hi, cond_true]
 exact cv_fin hN
theorem cvd_h4 {q : Nat} {B : R6} {L : List R6} {x : Int} (hL : L.length ≤ q) (hl : L.length ≤ 100000) {i : Nat} (hi : i < L.length) (aU bU aZ bR bJ aY : Int) : ∃ N, Yv (Ws q B.a B.b B.c B.d B.e B.f L x) N (.to (.h4 aU bU aZ (i : Int) bR bJ aY)) = .ret [.bool (cvq x L i ⟨aU, bU, B.c, aZ, B.e, B.f⟩ && (cvq x L i ⟨aU, bR, B.c, aZ, bU, bJ⟩ && cvq x L i ⟨aU, bR, aY, aZ, bU, B.f⟩))] := by
 have hw : IntKind.wrap .i64 ((i : Int) + 1) = ((i + 1 : Nat) : Int) := Zq (by omega)
 have e1 : decide (i + 1 ≤ L.length) = true := Yx hi
 have e2 : ∀ {X Y : Xd cvdS}, (bif decide (L.length ≤ L.length) then X else Y) = X := fun {X Y} => by rw [Yx (Nat.le_refl _)]; rfl
 have e3 : ∀ {X Y : Xd cvdS}, (bif decide (0 ≤ ((i + 1 : Nat) : Int)) then X else Y) = X := fun {X Y} => by rw [Xa (by omega)]; rfl
 obtain ⟨N, hN⟩ := cvd_h5 (B := B) (x := x) hL hl hi aU bR aZ bU bJ aY
 refine ⟨N + 1, ?_⟩
 rw [Zv, show cvq x L i ⟨aU, bU, B.c, aZ, B.e, B.f⟩ = _ from y2j]
 simp only [Ws, hw, e2, e3, Zj, e1, z2p L (show i + 1 ≤ L.length from hi), cvo hL hl hi, cond_true]
 exact y3u hN
theorem cvd_h3 {q : Nat} {B : R6} {L : List R6} {x : Int} (hL : L.length ≤ q) (hl : L.length ≤ 100000) {i : Nat} (hi : i < L.length) (aU aZ bT bJ bQ aY : Int) : ∃ N, Yv (Ws q B.a B.b B.c B.d B.e B.f L x) N (.to (.h3 aU aZ bT (i : Int) bJ bQ aY)) = .ret [.bool (cvq x L i ⟨aU, B.b, B.c, aZ, bT, B.f⟩ && (cvq x L i ⟨aU, bQ, B.c, aZ, B.e, B.f⟩ && (cvq x L i ⟨aU, bT, B.c, aZ, bQ, bJ⟩ && cvq x L i ⟨aU, bT, aY, aZ, bQ, B.f⟩)))] := by
 have hw : IntKind.wrap .i64 ((i : Int) + 1) = ((i + 1 : Nat) : Int) := Zq (by omega)
 have e1 : decide (i + 1 ≤ L.length) = true := Yx hi
 have e2 : ∀ {X Y : Xd cvdS}, (bif decide (L.length ≤ L.length) then X else Y) = X := fun {X Y} => by rw [Yx (Nat.le_refl _)]; rfl
 have e3 : ∀ {X Y : Xd cvdS}, (bif decide (0 ≤ ((i + 1 : Nat) : Int)) then X else Y) = X := fun {X Y} => by rw [Xa (by omega)]; rfl
 obtain ⟨N, hN⟩ := cvd_h4 (B := B) (x := x) hL hl hi aU bQ aZ bT bJ aY
 refine ⟨N + 1, ?_⟩
 rw [Zv, show cvq x L i ⟨aU, B.b, B.c, aZ, bT, B.f⟩ = _ from y2j]
 simp only [Ws, hw, e2, e3, Zj, e1, z2p L (show i + 1 ≤ L.length from hi), cvo hL hl hi, cond_true]
 exact y3u hN
theorem cvd_h2 {q : Nat} {B : R6} {L : List R6} {x : Int} (hL : L.length ≤ q) (hl : L.length ≤ 100000) {i : Nat} (hi : i < L.length) (aU aB bR bJ bQ aY : Int) : ∃ N, Yv (Ws q B.a B.b B.c B.d B.e B.f L x) N (.to (.h2 aU (i : Int) aB bR bJ bQ aY)) = .ret [.bool (cvq x L i ⟨aU, B.b, B.c, B.d, B.e, B.f⟩ && (cvq x L i ⟨aB, B.b, B.c, aU, bR, B.f⟩ && (cvq x L i ⟨aB, bQ, B.c, aU, B.e, B.f⟩ && (cvq x L i ⟨aB, bR, B.c, aU, bQ, bJ⟩ && cvq x L i ⟨aB, bR, aY, aU, bQ, B.f⟩))))] := by
 have hw : IntKind.wrap .i64 ((i : Int) + 1) = ((i + 1 : Nat) : Int) := Zq (by omega)
 have e1 : decide (i + 1 ≤ L.length) = true := Yx hi
 have e2 : ∀ {X Y : Xd cvdS}, (bif decide (L.length ≤ L.length) then X else Y) = X := fun {X Y} => by rw [Yx (Nat.le_refl _)]; rfl
 have e3 : ∀ {X Y : Xd cvdS}, (bif decide (0 ≤ ((i + 1 : Nat) : Int)) then X else Y) = X := fun {X Y} => by rw [Xa (by omega)]; rfl
 obtain ⟨N, hN⟩ := cvd_h3 (B := B) (x := x) hL hl hi aB aU bR bJ bQ aY
 refine ⟨N + 1, ?_⟩
 rw [Zv, show cvq x L i ⟨aU, B.b, B.c, B.d, B.e, B.f⟩ = _ from y2j]
 simp only [Ws, hw, e2, e3, Zj, e1, z2p L (show i + 1 ≤ L.length from hi), cvo hL hl hi, cond_true]
 exact y3u hN
theorem cvd_h1 {q : Nat} {B : R6} {L : List R6} {x : Int} (hL : L.length ≤ q) (hl : L.length ≤ 100000) {i : Nat} (hi : i < L.length) (aZ w aB bR bJ cS bQ aY : Int) : ∃ N, Yv (Ws q B.a B.b B.c B.d B.e B.f L x) N (.to (.h1 aZ w (i : Int) aB bR bJ cS bQ aY)) = .ret [.bool (cvq x L i ⟨B.a, B.b, B.c, aZ, B.e, B.f⟩ && (cvq x L i ⟨cS, B.b, B.c, B.d, B.e, B.f⟩ && (cvq x L i ⟨aB, B.b, B.c, cS, bR, B.f⟩ && (cvq x L i ⟨aB, bQ, B.c, cS, B.e, B.f⟩ && (cvq x L i ⟨aB, bR, B.c, cS, bQ, bJ⟩ && cvq x L i ⟨aB, bR, aY, cS, bQ, B.f⟩)))))] := by
 have hw : IntKind.wrap .i64 ((i : Int) + 1) = ((i + 1 : Nat) : Int) := Zq (by omega)
 have e1 : decide (i + 1 ≤ L.length) = true := Yx hi
 have e2 : ∀ {X Y : Xd cvdS}, (bif decide (L.length ≤ L.length) then X else Y) = X := fun {X Y} => by rw [Yx (Nat.le_refl _)]; rfl
 have e3 : ∀ {X Y : Xd cvdS}, (bif decide (0 ≤ ((i + 1 : Nat) : Int)) then X else Y) = X := fun {X Y} => by rw [Xa (by omega)]; rfl
 obtain ⟨N, hN⟩ := cvd_h2 (B := B) (x := x) hL hl hi cS aB bR bJ bQ aY
 refine ⟨N + 1, ?_⟩
 rw [Zv, show cvq x L i ⟨B.a, B.b, B.c, aZ, B.e, B.f⟩ = _ from y2j]
 simp only [Ws, hw, e2, e3, Zj, e1, z2p L (show i + 1 ≤ L.length from hi), cvo hL hl hi, cond_true]
 exact y3u hN
theorem v0a {q : Nat} {B : R6} {L : List R6} {x : Int} (hL : L.length ≤ q) (hl : L.length ≤ 100000) : ∀ (k i : Nat), i + k = L.length → ∃ N, Yv (Ws q B.a B.b B.c B.d B.e B.f L x) N (.to (.h0 (i : Int))) = .ret [.bool (covB x (L.drop i) B)]
 | 0, i, h => by
  refine ⟨1, ?_⟩
  rw [Zv, List.drop_eq_nil_of_le (by omega)]
  simp (disch := omega) only [Ws, Yz, cond_false]; rfl
 | k + 1, i, h => by
  have hi : i < L.length := by omega
  have hw : IntKind.wrap .i64 ((i : Int) + 1) = ((i + 1 : Nat) : Int) := Zq (by omega)
  obtain ⟨N, hN⟩ := v0a (B := B) (x := x) hL hl k (i + 1) (by omega)
  obtain ⟨M, hM⟩ := cvd_h1 (B := B) (x := x) hL hl hi (gA x (rd L i) B).a (gA x (rd L i) B).a (gA x (rd L i) B).a (gA x (rd L i) B).b (gA x (rd L i) B).c (gA x (rd L i) B).d (gA x (rd L i) B).e (gA x (rd L i) B).f
  rw [Yf hi]
  have key : ∀ K, Yv (Ws q B.a B.b B.c B.d B.e B.f L x) (K + 1) (.to (.h0 (i : Int))) = bif x6l (gA x (rd L i) B) then Yv (Ws q B.a B.b B.c B.d B.e B.f L x) K (.to (.h0 ((i + 1 : Nat) : Int))) else Yv (Ws q B.a B.b B.c B.d B.e B.f L x) K (.to (.h1 (gA x (rd L i) B).a (gA x (rd L i) B).a (i : Int) (gA x (rd L i) B).a (gA x (rd L i) B).b (gA x (rd L i) B).c (gA x (rd L i) B).d (gA x (rd L i) B).e (gA x (rd L i) B).f)) := fun K => by
   rw [Zv]
   simp (disch := omega) only [Ws, Zs, Zt, hw, Zj, Bool.and_true, cond_true]
   exact (congrArg (Yv _ K) cv_or).trans w4z
  show ∃ N, Yv _ N _ = Xd.ret [.bool (bif x6l (gA x (rd L i) B) then covB x (L.drop (i + 1)) B else (cvq x L i (cvp1 (gA x (rd L i) B) B)) && ((cvq x L i (cvp2 (gA x (rd L i) B) B)) && ((cvq x L i (cvp3 (gA x (rd L i) B) B)) && ((cvq x L i (cvp4 (gA x (rd L i) B) B)) && ((cvq x L i (cvp5 (gA x (rd L i) B) B)) && (cvq x L i (cvp6 (gA x (rd L i) B) B)))))))]
  rcases Yg (x6l (gA x (rd L i) B)) with he | he
  ·refine ⟨N + 1, ?_⟩
   rw [key, he, cond_true, cond_true]; exact hN
  ·refine ⟨M + 1, ?_⟩
   rw [key, he, cond_false, cond_false]; exact hM
theorem v5k {q : Nat} (a b c d e f : Int) (L : List R6) (x : Int) (hL : L.length ≤ q) (hl : L.length ≤ 100000) : ∃ N, Yv (Ws q a b c d e f L x) N (y3t a b c d e f L x) = .ret [.bool (x6m a b c d e f L x)] :=
 v0a (B := ⟨a, b, c, d, e, f⟩) hL hl L.length 0 (Nat.zero_add _)
theorem y6m {S : Specs} (hS : Zu prog S) {q : Nat} (hq : Zu prog (Tcv q)) (F : List AVal → Option (AVal × Bool)) (hF : ∀ args v, F args = some (v, true) → fCov (q + 1) args = some (v, true)) : Zu prog (S.with z8f F) := by
 refine z1m hS (by kernel_rfl) fun args v h => ?_
 replace h := hF args v h
 unfold fCov at h
 split at h
 ·rename_i aS aR aO bA bK bC a1 x2
  split at h
  ·rename_i L1 g1 n1 e1
   simp only [Option.some.injEq, Prod.mk.injEq, Bool.and_eq_true, Vc, decide_eq_true_eq] at h
   obtain ⟨rfl, ho1, hw1, hw2⟩ := h
   obtain ⟨N, hN⟩ := v5k (q := q) aS aR aO bA bK bC L1 x2 (by omega) hw2
   exact ⟨_, _, (.cons (.refl _) (.cons (Yh e1 ho1) (.cons (.refl _) .nil))), rfl, w5z hq aS aR aO bA bK bC L1 x2 N _ hN, 3, rfl⟩
  ·cases h
 ·cases h
theorem v0l : ∀ q, Zu prog (Tcv q)
 | 0 => by
  refine z1m v5u (by kernel_rfl) fun args v h => ?_
  unfold fCov at h
  split at h
  ·split at h
   ·simp only [Option.some.injEq, Prod.mk.injEq, Bool.and_eq_true, Vc, decide_eq_true_eq] at h
    exact absurd h.2.2.1 (Nat.not_lt_zero _)
   ·cases h
  ·cases h
 | q + 1 => y6m v5u (v0l q) _ fun _ _ h => h
def cvdV (a b c d e f : Int) (L : List R6) (x : Int) : Bool := x6m a b c d e f L x
def z5e (a b c d e f : Int) (L : List R6) (x : Int) : Bool := decide (L.length ≤ 100000)
def fCvd : List AVal → Option (AVal × Bool)
 | [.agg [.int .i64 aS, .int .i64 aR, .int .i64 aO, .int .i64 bA, .int .i64 bK, .int .i64 bC], a1, .int .i64 x2] => match asL R6 a1 with
  | some (L1, g1, n1) => some (.bool (cvdV aS aR aO bA bK bC L1 x2), isT R6 n1 g1 && (z5e aS aR aO bA bK bC L1 x2))
  | _ => none
 | _ => none
theorem v4u {S : Specs} (hS : Zu prog S) : Zu prog (S.with z8f fCvd) := y6m hS (v0l 100000) _ fun args v h => by
 unfold fCvd at h
 split at h
 ·split at h
  ·rename_i e1
   simp only [Option.some.injEq, Prod.mk.injEq, Bool.and_eq_true, z5e, decide_eq_true_eq] at h
   obtain ⟨rfl, ho1, hw⟩ := h
   unfold fCov
   simp only [e1, ho1, Bool.true_and, Vc]
   rw [Yq (by omega), Yx hw]; rfl
  ·cases h
 ·cases h
def Da : Specs := T9.with z8f fCvd
theorem y1c : Zu prog Da := v4u v5u
end Go.Am
namespace Go.Am
open Go.Proofs.Tryz
open Go.Proofs
inductive rchS where
 | h0 (v5 : Int) (v6 : Int)
 | h1 (v8 : Int) (dD : Int) (dI : Int) (dA : Int) (dF : Int) (aG : Int)
def rchC (l0 : List R6) (l1 : List R6) : rchS → Cfg
 | .h0 v5 v6 => ⟨⟨26, 0, true⟩, none, (Zg prog 92 [1, 1, 0, 0, 0] 0), none, (Zy prog 3), ⟨Yj [(1, (.fn 93 [(.ptr 0 0), (.ptr 1 0)])), (5, (ii v5)), (6, (ii v6))], Vf [⟨[(.dat l0.length (Zz l0))], 30, none⟩, ⟨[(.dat l1.length (Zz l1))], 30, none⟩] 0, 2, [], true⟩, [⟨⟨7, 0, true⟩, (Vv prog 57 [1, 0] 1), (Zg prog 57 [1, 0] 1), none, (Zy prog 3), Yj [(5, (.fn 93 [(.ptr 0 0), (.ptr 1 0)]))]⟩], .leaf⟩
 | .h1 v8 dD dI dA dF aG => ⟨⟨19, 0, true⟩, none, (Zg prog 124 [1, 0, 1, 0, 0] 0), none, (Zy prog 3), ⟨Yj [(0, (.dat l0.length (Zz l0))), (1, (.fn 94 [(.ptr 0 0), (.ptr 1 0)])), (7, (ii (l0.length : Int))), (8, (ii v8))], Vf [⟨[(.dat l1.length (Zz l1))], 30, none⟩, ⟨[(ii aG)], 3, none⟩, ⟨[(.dat l0.length (Zz l0))], 30, none⟩] 0, 3, [], true⟩, [⟨⟨9, 0, true⟩, (Vv prog 86 [1, 0] 2), (Zg prog 86 [1, 0] 1), none, (Zy prog 3), Yj [(5, (.dat l0.length (Zz l0))), (6, (.fn 94 [(.ptr 0 0), (.ptr 1 0)]))]⟩, ⟨⟨9, 0, true⟩, (Vv prog 93 [1, 0] 2), (Zg prog 93 [1, 0] 1), none, (Zy prog 3), Yj [(5, (.dat l0.length (Zz l0))), (6, (.fn 94 [(.ptr 0 0), (.ptr 1 0)]))]⟩, ⟨⟨26, 0, true⟩, (Vv prog 92 [1, 1, 0, 0, 0, 1, 0, 1, 0] 2), (Zg prog 92 [1, 1, 0, 0, 0, 1, 0, 1, 0] 1), none, (Zy prog 3), Yj [(1, (.fn 93 [(.ptr 2 0), (.ptr 0 0)])), (5, (ii dD)), (6, (ii dI)), (7, (ii dA)), (18, (.fn 93 [(.ptr 2 0), (.ptr 0 0)])), (19, (ii dF))]⟩, ⟨⟨7, 0, true⟩, (Vv prog 57 [1, 0] 1), (Zg prog 57 [1, 0] 1), none, (Zy prog 3), Yj [(5, (.fn 93 [(.ptr 2 0), (.ptr 0 0)]))]⟩], .leaf⟩
def w3h : List (Option (List Nat)) := [some [1, 5, 6], some [5]]
def w3i : List (Option (List Nat)) := []
def rchN1 : List (Option (List Nat)) := [some [0, 1, 7, 8], some [5, 6], some [5, 6], some [1, 5, 6, 7, 18, 19], some [5]]
def rchM1 : List (Option (List Nat)) := []
def Jq (l0 : List R6) (l1 : List R6) : rchS → Xd rchS
 | .h0 v5 v6 => (bif (decide (v5 < v6)) then (.to (.h1 0 v5 v6 (IntKind.wrap .i64 (Int.fdiv (IntKind.wrap IntKind.u64 (IntKind.wrap .i64 (v5 + v6))) 2)) (IntKind.wrap .i64 (Int.fdiv (IntKind.wrap IntKind.u64 (IntKind.wrap .i64 (v5 + v6))) 2)) (IntKind.wrap .i64 (Int.fdiv (IntKind.wrap IntKind.u64 (IntKind.wrap .i64 (v5 + v6))) 2)))) else (.ret [(.int .i64 v5)]))
 | .h1 v8 dD dI dA dF aG => (bif (decide (v8 < (l0.length : Int))) then (bif ((decide (0 ≤ v8 ∧ v8 < (l0.length : Int))) && true) then (bif (z5e (rd l0 v8.toNat).a (rd l0 v8.toNat).b (rd l0 v8.toNat).c (rd l0 v8.toNat).d (rd l0 v8.toNat).e (rd l0 v8.toNat).f (cvT l1) aG) then (bif (!(cvdV (rd l0 v8.toNat).a (rd l0 v8.toNat).b (rd l0 v8.toNat).c (rd l0 v8.toNat).d (rd l0 v8.toNat).e (rd l0 v8.toNat).f (cvT l1) aG)) then (bif (!(!(decide (v8 ≥ 0)))) then (.to (.h0 (IntKind.wrap .i64 (dA + 1)) dI)) else (.to (.h0 dD dA))) else (.to (.h1 (IntKind.wrap .i64 (v8 + 1)) dD dI dA dF aG))) else .stuck) else .stuck) else (.to (.h0 dD dA)))
def y3e (l0 : List R6) (l1 : List R6) : Xd rchS := (.to (.h0 0 2000000))
theorem x4l (l0 : List R6) (l1 : List R6) : ∀ s, Wj prog (Zy prog 57) (rchC l0 l1) (rchC l0 l1 s) (Jq l0 l1 s)
 | .h0 v5 v6 => (lb (fun k0 => (sl y1c 57 [] ⟨[1, 2, 0], [], rchN1, rchM1⟩ ⟨[], [], []⟩ [true] (tt k0 nn))) (fun k0 => (lr 7 3 [1, 1, 1, 1, 1, 1, 0] 1 3 [(4, (ii v5))] (sl y1c 17 [] ⟨[], [], [some [4]], []⟩ ⟨[], [], []⟩ [false] (tt k0 nn)))))
 | .h1 v8 dD dI dA dF aG => (lb (fun k0 => (lo fun aH => (lo fun bG => (lb (fun k1 => (lb (fun k2 => (sl y1c 63 [] ⟨[2, 0], [], w3h, w3i⟩ ⟨[], [], []⟩ (trs 3 []) (tt k2 (tt k1 (pp (pp (xr l1) (xw bG)) (ww aH (tt k0 nn))))))) (fun k2 => (sl y1c 62 [] ⟨[2, 0], [], w3h, w3i⟩ ⟨[], [], []⟩ [true, true, false] (tt k2 (tt k1 (pp (pp (xr l1) (xw bG)) (ww aH (tt k0 nn))))))))) (fun k1 => (sl y1c 46 [] ⟨[0, 1, 2], [], rchN1, rchM1⟩ ⟨[], [], []⟩ [true, false] (tt k1 (pp (pp (xr l1) (xw bG)) (ww aH (tt k0 nn)))))))))) (fun k0 => (sl y1c 29 [] ⟨[2, 0], [], w3h, w3i⟩ ⟨[], [], []⟩ [false, false] (tt k0 nn))))
theorem y8t (l0 : List R6) (l1 : List R6) : Wj prog (Zy prog 57) (rchC l0 l1) (Zf prog 57 [(.dat l0.length (Zz l0)), (.dat l1.length (Zz l1))] true []) (y3e l0 l1) := (sl y1c 23 [] ⟨[0, 1], [], w3h, w3i⟩ ⟨[], [], []⟩ [] nn)
theorem w3g (l0 : List R6) (l1 : List R6) (n : Nat) (vs : List AVal) (h : Yv (Jq l0 l1) n (y3e l0 l1) = .ret vs) : Jo prog (Zy prog 57) (Zf prog 57 [(.dat l0.length (Zz l0)), (.dat l1.length (Zz l1))] true []) vs := by
 have := Zo (x4l l0 l1) n _ (y8t l0 l1)
 rwa [h] at this
inductive frmS where
 | h0 (v5 : Int) (v6 : Int)
def frmC (aS : Int) (aR : Int) (aO : Int) (l1 : List R6) : frmS → Cfg
 | .h0 v5 v6 => ⟨⟨27, 0, true⟩, none, (Zg prog 49 [1, 1, 0, 1, 0, 0] 0), none, (Zy prog 3), ⟨Yj [(1, (.dat l1.length (Zz l1))), (2, (.ptr 0 0)), (5, (ii v5)), (6, (ii v6))], Vf [⟨[(ii aS), (ii aR), (ii aO)], 65, none⟩] 0, 1, [], true⟩, [], .leaf⟩
def frmN0 : List (Option (List Nat)) := [some [1, 2, 5, 6]]
def frmM0 : List (Option (List Nat)) := []
def z6b (aS : Int) (aR : Int) (aO : Int) (l1 : List R6) : frmS → Xd frmS
 | .h0 v5 v6 => (bif (decide (v6 < (l1.length : Int))) then (bif ((decide (0 ≤ v6 ∧ v6 < (l1.length : Int))) && true) then (.to (.h0 (Kz v5 (Wt (Wt (Wt (Wt (Wt (Wt 0 (IntKind.wrap .i64 ((rd l1 v6.toNat).a - aS))) (IntKind.wrap .i64 ((IntKind.wrap .i64 (aS - (rd l1 v6.toNat).d)) + 1))) (IntKind.wrap .i64 ((rd l1 v6.toNat).b - aR))) (IntKind.wrap .i64 ((IntKind.wrap .i64 (aR - (rd l1 v6.toNat).e)) + 1))) (IntKind.wrap .i64 ((rd l1 v6.toNat).c - aO))) (IntKind.wrap .i64 ((IntKind.wrap .i64 (aO - (rd l1 v6.toNat).f)) + 1)))) (IntKind.wrap .i64 (v6 + 1)))) else .stuck) else (.ret [(.int .i64 v5)]))
def z8n (aS : Int) (aR : Int) (aO : Int) (l1 : List R6) : Xd frmS := (bif ((decide ((0 : Int) ≤ 0 ∧ 0 < (l1.length : Int))) && true) then (.to (.h0 (Wt (Wt (Wt (Wt (Wt (Wt 0 (IntKind.wrap .i64 ((rd l1 0).a - aS))) (IntKind.wrap .i64 ((IntKind.wrap .i64 (aS - (rd l1 0).d)) + 1))) (IntKind.wrap .i64 ((rd l1 0).b - aR))) (IntKind.wrap .i64 ((IntKind.wrap .i64 (aR - (rd l1 0).e)) + 1))) (IntKind.wrap .i64 ((rd l1 0).c - aO))) (IntKind.wrap .i64 ((IntKind.wrap .i64 (aO - (rd l1 0).f)) + 1))) 1)) else .stuck)
theorem x5i (aS : Int) (aR : Int) (aO : Int) (l1 : List R6) : ∀ s, Wj prog (Zy prog 49) (frmC aS aR aO l1) (frmC aS aR aO l1 s) (z6b aS aR aO l1 s)
 | .h0 v5 v6 => (lb (fun k0 => (lo fun o0 => (sl y1c 20 [] ⟨[0], [], frmN0, frmM0⟩ ⟨[], [], []⟩ [true] (ww o0 (tt k0 nn))))) (fun k0 => (lr 27 3 [1, 1, 1, 1, 1, 1, 0] 1 3 [(4, (ii v5))] (sl y1c 15 [] ⟨[], [], [some [4]], []⟩ ⟨[], [], []⟩ [false] (tt k0 nn)))))
theorem y9x (aS : Int) (aR : Int) (aO : Int) (l1 : List R6) : Wj prog (Zy prog 49) (frmC aS aR aO l1) (Zf prog 49 [(.agg [(.int .i64 aS), (.int .i64 aR), (.int .i64 aO)]), (.dat l1.length (Zz l1))] true []) (z8n aS aR aO l1) := (lo fun o0 => (sl y1c 14 [] ⟨[0], [], frmN0, frmM0⟩ ⟨[], [], []⟩ [] (ww o0 nn)))
theorem w5d (aS : Int) (aR : Int) (aO : Int) (l1 : List R6) (n : Nat) (vs : List AVal) (h : Yv (z6b aS aR aO l1) n (z8n aS aR aO l1) = .ret vs) : Jo prog (Zy prog 49) (Zf prog 49 [(.agg [(.int .i64 aS), (.int .i64 aR), (.int .i64 aO)]), (.dat l1.length (Zz l1))] true []) vs := by
 have := Zo (x5i aS aR aO l1) n _ (y9x aS aR aO l1)
 rwa [h] at this
end Go.Am
namespace Go.Am
open Go.Proofs.Tryz
open Go.Proofs
def allC (L1 : List R6) (d : Int) (L0 : List R6) : Bool := L0.all fun r => cvdV r.a r.b r.c r.d r.e r.f L1 d
def v0v (F : Int → Bool) : Nat → Int → Int → Int
 | 0, i, _ => i
 | n + 1, i, j => bif decide (i < j) then (bif F ((i + j) / 2) then v0v F n i ((i + j) / 2) else v0v F n ((i + j) / 2 + 1) j) else i
def x4m (L0 L1 : List R6) : Int := v0v (fun d => allC L1 d L0) 22 0 2000000
def Un (L0 L1 : List R6) : Bool := decide (L0.length ≤ 100000) && decide (L1.length ≤ 100000)
theorem cvd_o {a b c d e f : Int} {L : List R6} {x : Int} (h : L.length ≤ 100000) : z5e a b c d e f L x = true := decide_eq_true h
theorem w8o {L0 L1 : List R6} (h0 : L0.length ≤ 100000) (h1 : L1.length ≤ 100000) (v5 v6 v7 v19 d : Int) : ∀ (k i : Nat), i + k = L0.length → ∃ N, ∀ M, Yv (Jq L0 L1) (M + N) (.to (.h1 (i : Int) v5 v6 v7 v19 d)) = Yv (Jq L0 L1) M (bif allC L1 d (L0.drop i) then .to (.h0 v5 v7) else .to (.h0 (IntKind.wrap .i64 (v7 + 1)) v6))
 | 0, i, h => by
  refine ⟨1, fun M => ?_⟩
  rw [Zv, List.drop_eq_nil_of_le (by omega)]
  simp (disch := omega) only [Jq, Yz, cond_false]; rfl
 | k + 1, i, h => by
  have hi : i < L0.length := by omega
  obtain ⟨N, hN⟩ := w8o h0 h1 v5 v6 v7 v19 d k (i + 1) (by omega)
  have hw : IntKind.wrap .i64 ((i : Int) + 1) = ((i + 1 : Nat) : Int) := Zq (by omega)
  rcases Yg (cvdV (rd L0 i).a (rd L0 i).b (rd L0 i).c (rd L0 i).d (rd L0 i).e (rd L0 i).f L1 d) with q | q
  ·refine ⟨N + 1, fun M => ?_⟩
   rw [← Nat.add_assoc, Zv, Yf hi]
   simp (disch := omega) only [Jq, Zs, Zt, w5x, hw, Zj, Zb, cvd_o h1, q, Bool.and_true, Bool.true_and, Bool.not_true, Bool.not_false, cond_true, cond_false, allC, List.all_cons]
   exact hN M
  ·refine ⟨1, fun M => ?_⟩
   rw [Zv, Yf hi]
   simp (disch := omega) only [Jq, Zs, Zt, w5x, hw, Zj, Zb, cvd_o h1, q, Bool.and_true, Bool.false_and, Bool.not_true, Bool.not_false, cond_true, cond_false, allC, List.all_cons]
theorem x1k {i j : Int} (hi : 0 ≤ i) (hj : j ≤ 2000000) (hij : i ≤ j) : IntKind.wrap .i64 (Int.fdiv (IntKind.wrap IntKind.u64 (IntKind.wrap .i64 (i + j))) 2) = (i + j) / 2 := by
 rw [Zq (n := i + j) (by omega)]
 have e : IntKind.wrap IntKind.u64 (i + j) = i + j := by
  show (i + j) % 18446744073709551616 = i + j
  omega
 rw [e, Int.fdiv_eq_ediv_of_nonneg _ (by omega), Zq (by omega)]
theorem x8q {L0 L1 : List R6} (h0 : L0.length ≤ 100000) (h1 : L1.length ≤ 100000) : ∀ (n : Nat) (i j : Int), 0 ≤ i → i ≤ j → j ≤ 2000000 → j - i < 2 ^ n → ∃ N, Yv (Jq L0 L1) N (.to (.h0 i j)) = .ret [.int .i64 (v0v (fun d => allC L1 d L0) n i j)]
 | 0, i, j, hi, hij, hj, hn => by
  refine ⟨1, ?_⟩
  have : i = j := by simp at hn; omega
  rw [Zv]
  simp (disch := omega) only [Jq, Yz, cond_false, Zm, v0v]
 | n + 1, i, j, hi, hij, hj, hn => by
  by_cases hlt : i < j
  ·have hp : (2 : Int) ^ (n + 1) = 2 * 2 ^ n := by rw [Int.pow_succ, Int.mul_comm]
   rw [hp] at hn
   generalize hP : (2 : Int) ^ n = p at hn
   obtain ⟨N, hN⟩ := w8o h0 h1 i j ((i + j) / 2) ((i + j) / 2) ((i + j) / 2) L0.length 0 (Nat.zero_add _)
   unfold v0v
   rw [Zs hlt, cond_true]
   have hw : IntKind.wrap .i64 ((i + j) / 2 + 1) = (i + j) / 2 + 1 := Zq (by omega)
   rcases Yg (allC L1 ((i + j) / 2) L0) with q | q
   ·obtain ⟨M, hM⟩ := x8q h0 h1 n i ((i + j) / 2) hi (by omega) (by omega) (by rw [hP]; omega)
    refine ⟨M + N + 1, ?_⟩
    rw [Zv]
    simp only [Jq, Zs hlt, cond_true, x1k hi hj hij]
    rw [show (0 : Int) = ((0 : Nat) : Int) from rfl, hN, List.drop_zero, q, cond_true, hM]; rfl
   ·obtain ⟨M, hM⟩ := x8q h0 h1 n ((i + j) / 2 + 1) j (by omega) (by omega) hj (by rw [hP]; omega)
    refine ⟨M + N + 1, ?_⟩
    rw [Zv]
    simp only [Jq, Zs hlt, cond_true, x1k hi hj hij]
    rw [show (0 : Int) = ((0 : Nat) : Int) from rfl, hN, List.drop_zero, q, cond_false, hw, hM]; rfl
  ·refine ⟨1, ?_⟩
   rw [Zv]
   simp (disch := omega) only [Jq, Yz, cond_false, Zm, v0v]
theorem v2j (L0 L1 : List R6) (h : Un L0 L1 = true) : ∃ N, Yv (Jq L0 L1) N (y3e L0 L1) = .ret [.int .i64 (x4m L0 L1)] := by
 simp only [Un, Bool.and_eq_true, decide_eq_true_eq] at h
 exact x8q h.1 h.2 22 0 2000000 (by omega) (by omega) (by omega) (by decide)
def far1 (x y z : Int) (r : R6) : Int := Wt (Wt (Wt (Wt (Wt (Wt 0 (IntKind.wrap .i64 (r.a - x))) (IntKind.wrap .i64 (IntKind.wrap .i64 (x - r.d) + 1))) (IntKind.wrap .i64 (r.b - y))) (IntKind.wrap .i64 (IntKind.wrap .i64 (y - r.e) + 1))) (IntKind.wrap .i64 (r.c - z))) (IntKind.wrap .i64 (IntKind.wrap .i64 (z - r.f) + 1))
def frmF (x y z : Int) : List R6 → Int → Int
 | [], d => d
 | r :: l, d => frmF x y z l (Kz d (far1 x y z r))
def frmV (x y z : Int) (L : List R6) : Int := frmF x y z (L.drop 1) (far1 x y z (rd L 0))
def z0e (x y z : Int) (L : List R6) : Bool := decide (0 < L.length) && decide (L.length ≤ 100000)
theorem w9u {x y z : Int} {L : List R6} (hl : L.length ≤ 100000) : ∀ (k i : Nat) (d : Int), i + k = L.length → ∃ N, Yv (z6b x y z L) N (.to (.h0 d (i : Int))) = .ret [.int .i64 (frmF x y z (L.drop i) d)]
 | 0, i, d, h => by
  refine ⟨1, ?_⟩
  rw [Zv, List.drop_eq_nil_of_le (by omega)]
  simp (disch := omega) only [z6b, Yz, cond_false]; rfl
 | k + 1, i, d, h => by
  have hi : i < L.length := by omega
  obtain ⟨N, hN⟩ := w9u hl k (i + 1) (Kz d (far1 x y z (rd L i))) (by omega)
  have hw : IntKind.wrap .i64 ((i : Int) + 1) = ((i + 1 : Nat) : Int) := Zq (by omega)
  refine ⟨N + 1, ?_⟩
  rw [Zv, Yf hi]
  simp (disch := omega) only [z6b, frmF, Zs, Zt, hw, Zj, Bool.and_true, cond_true]
  exact hN
theorem v3q (x y z : Int) (L : List R6) (h : z0e x y z L = true) : ∃ N, Yv (z6b x y z L) N (z8n x y z L) = .ret [.int .i64 (frmV x y z L)] := by
 simp only [z0e, Bool.and_eq_true, decide_eq_true_eq] at h
 obtain ⟨N, hN⟩ := w9u (x := x) (y := y) (z := z) h.2 (L.length - 1) 1 (far1 x y z (rd L 0)) (by omega)
 refine ⟨N, ?_⟩
 simp (disch := omega) only [z8n, Zt, Bool.and_true, cond_true]
 exact hN
def fRch : List AVal → Option (AVal × Bool)
 | [a0, a1] => match asL R6 a0, asL R6 a1 with
  | some (L0, g0, n0), some (L1, g1, n1) => some (.int .i64 (x4m L0 L1), isT R6 n0 g0 && (isT R6 n1 g1 && (Un L0 L1)))
  | _, _ => none
 | _ => none
theorem v4e {S : Specs} (hS : Zu prog S) : Zu prog (S.with x2f fRch) := by
 refine z1m hS (by kernel_rfl) fun args v h => ?_
 unfold fRch at h
 split at h
 ·rename_i a0 a1
  split at h
  ·rename_i L0 g0 n0 L1 g1 n1 e0 e1
   simp only [Option.some.injEq, Prod.mk.injEq, Bool.and_eq_true] at h
   obtain ⟨rfl, ho0, ho1, hw⟩ := h
   obtain ⟨N, hN⟩ := v2j L0 L1 hw
   exact ⟨_, _, (.cons (Yh e0 ho0) (.cons (Yh e1 ho1) .nil)), rfl, w3g L0 L1 N _ hN, 3, rfl⟩
  ·cases h
 ·cases h
def fFrm : List AVal → Option (AVal × Bool)
 | [.agg [.int .i64 aS, .int .i64 aR, .int .i64 aO], a1] => match asL R6 a1 with
  | some (L1, g1, n1) => some (.int .i64 (frmV aS aR aO L1), isT R6 n1 g1 && (z0e aS aR aO L1))
  | _ => none
 | _ => none
theorem v4p {S : Specs} (hS : Zu prog S) : Zu prog (S.with x9l fFrm) := by
 refine z1m hS (by kernel_rfl) fun args v h => ?_
 unfold fFrm at h
 split at h
 ·rename_i aS aR aO a1
  split at h
  ·rename_i L1 g1 n1 e1
   simp only [Option.some.injEq, Prod.mk.injEq, Bool.and_eq_true] at h
   obtain ⟨rfl, ho1, hw⟩ := h
   obtain ⟨N, hN⟩ := v3q aS aR aO L1 hw
   exact ⟨_, _, (.cons (.refl _) (.cons (Yh e1 ho1) .nil)), rfl, w5d aS aR aO L1 N _ hN, 3, rfl⟩
  ·cases h
 ·cases h
def Db : Specs := ((Da.with x2f fRch).with x9l fFrm)
theorem z1p : Zu prog Db := (v4p (v4e y1c))
end Go.Am
end
