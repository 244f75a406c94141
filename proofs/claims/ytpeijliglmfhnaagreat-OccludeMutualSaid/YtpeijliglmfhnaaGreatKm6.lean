/- A part of a proof: several texts in one. -/
import Derived.Test.YtpeijliglmfhnaaGreatKm5
section
set_option linter.unusedVariables false
set_option linter.unusedSimpArgs false
namespace Go.Am
open Go.Proofs
set_option maxRecDepth 1000000
set_option linter.unusedVariables false
set_option linter.unusedSimpArgs false
set_option maxHeartbeats 4000000
inductive blkS where
  | h0 (v3 : List R6) (v8 : Int)
noncomputable def blkC (l0 : List R6) : blkS → Cfg
  | .h0 v3 v8 => ⟨⟨38, 0, true⟩, none, (todoP Tryz.prog 22 [1, 1, 0, 1, 0, 0] 0), none, (resultsOf Tryz.prog 8), ⟨envL [(3, (.sla 0 6 0 v3.length (.un 6))), (6, (.dat l0.length (rowsT l0))), (7, (.int .i64 ((l0.length : Nat) : Int))), (8, (.int .i64 v8))], memL [⟨rows v3.length (rowsT v3), 72, some ⟨6, v3.length, (rowsT v3)⟩⟩] 0, 1, [], true⟩, [], .leaf⟩
noncomputable def blkstep (l0 : List R6) : blkS → Out' blkS
  | .h0 v3 v8 => (bif (decide (v8 < ((l0.length : Nat) : Int))) then (bif ((decide (0 ≤ v8 ∧ v8 < ((l0.length : Nat) : Int))) && true) then (bif (Nat.beq 6 6 && ((decide (0 + v3.length = v3.length)) && decide ((v3.length + 1 + 1) * (48 + 1) ≤ room))) then (.to (.h0 (v3 ++ [(R6.mk (rd l0 (Int.toNat v8)).a (rd l0 (Int.toNat v8)).b (rd l0 (Int.toNat v8)).c (rd l0 (Int.toNat v8)).d (rd l0 (Int.toNat v8)).e (rd l0 (Int.toNat v8)).f)]) (IntKind.wrap IntKind.i64 (v8 + 1)))) else .stuck) else .stuck) else (.ret [(.dat v3.length (rowsT v3))]))
noncomputable def blkstart (l0 : List R6) : Out' blkS := (.to (.h0 ([] : List R6) 0))
theorem blkstep_ok (l0 : List R6) : ∀ s, Lead Tryz.prog (resultsOf Tryz.prog 22) (blkC l0) (blkC l0 s) (blkstep l0 s)
  | .h0 v3 v8 => (lead_bif (fun k0 => (lead_owe fun o0 => (lead_owe fun o1 => (sl T9_ok 49 [] ⟨[3], [], [some [3, 6, 7, 8]], []⟩ ⟨[(3, .len (v3 ++ [(R6.mk (rd l0 (Int.toNat v8)).a (rd l0 (Int.toNat v8)).b (rd l0 (Int.toNat v8)).c (rd l0 (Int.toNat v8)).d (rd l0 (Int.toNat v8)).e (rd l0 (Int.toNat v8)).f)]).length)], [.rowed 6 (v3 ++ [(R6.mk (rd l0 (Int.toNat v8)).a (rd l0 (Int.toNat v8)).b (rd l0 (Int.toNat v8)).c (rd l0 (Int.toNat v8)).d (rd l0 (Int.toNat v8)).e (rd l0 (Int.toNat v8)).f)]).length (rowsT (v3 ++ [(R6.mk (rd l0 (Int.toNat v8)).a (rd l0 (Int.toNat v8)).b (rd l0 (Int.toNat v8)).c (rd l0 (Int.toNat v8)).d (rd l0 (Int.toNat v8)).e (rd l0 (Int.toNat v8)).f)]))], []⟩ [true] (pp (xL (v3.length + 1) (v3 ++ [(R6.mk (rd l0 (Int.toNat v8)).a (rd l0 (Int.toNat v8)).b (rd l0 (Int.toNat v8)).c (rd l0 (Int.toNat v8)).d (rd l0 (Int.toNat v8)).e (rd l0 (Int.toNat v8)).f)]).length) (pp (xL (v3.length + 1) (v3 ++ [(R6.mk (rd l0 (Int.toNat v8)).a (rd l0 (Int.toNat v8)).b (rd l0 (Int.toNat v8)).c (rd l0 (Int.toNat v8)).d (rd l0 (Int.toNat v8)).e (rd l0 (Int.toNat v8)).f)]).length) (pp (xS (v3.length + 1) (appRow (rowsT v3) 0 v3.length 6 [(.int .i64 (rd l0 (Int.toNat v8)).a), (.int .i64 (rd l0 (Int.toNat v8)).b), (.int .i64 (rd l0 (Int.toNat v8)).c), (.int .i64 (rd l0 (Int.toNat v8)).d), (.int .i64 (rd l0 (Int.toNat v8)).e), (.int .i64 (rd l0 (Int.toNat v8)).f)]) (rowsT (v3 ++ [(R6.mk (rd l0 (Int.toNat v8)).a (rd l0 (Int.toNat v8)).b (rd l0 (Int.toNat v8)).c (rd l0 (Int.toNat v8)).d (rd l0 (Int.toNat v8)).e (rd l0 (Int.toNat v8)).f)]))) (pp (pp (xF (appRow (rowsT v3) 0 v3.length 6 [(.int .i64 (rd l0 (Int.toNat v8)).a), (.int .i64 (rd l0 (Int.toNat v8)).b), (.int .i64 (rd l0 (Int.toNat v8)).c), (.int .i64 (rd l0 (Int.toNat v8)).d), (.int .i64 (rd l0 (Int.toNat v8)).e), (.int .i64 (rd l0 (Int.toNat v8)).f)])) nn) (ww o1 (ww o0 (tt k0 nn))))))))))) (fun k0 => (lr 38 3 [1, 1, 1, 1, 1, 1, 0] 1 8 [(2, (.dat v3.length (rowsT v3)))] (sl T9_ok 12 [] ⟨[], [0], [some [2]], []⟩ ⟨[(2, .frz v3.length v3.length (rowsT v3) (rowsT v3))], [], []⟩ [false] (pp (xZ (frzS 6 6 0 v3.length v3.length (rowsT v3)) v3.length (rowsT v3)) (pp (xL v3.length v3.length) (pp (xS v3.length (rowsT v3) (rowsT v3)) (pp (fl v3 nn) (tt k0 nn)))))))))
theorem blkstart_ok (l0 : List R6) : Lead Tryz.prog (resultsOf Tryz.prog 22) (blkC l0) (startC Tryz.prog 22 [(.dat l0.length (rowsT l0))] true []) (blkstart l0) := (sl T9_ok 17 [(72, 6, rowsT ([] : List R6))] ⟨[0], [], [some [3, 6, 7, 8]], []⟩ ⟨[(3, .grow 0 6)], [], []⟩ [] (pp (fl ([] : List R6) nn) nn))
theorem blk_ends (l0 : List R6) (n : Nat) (vs : List AVal) (h : goOn (blkstep l0) n (blkstart l0) = .ret vs) : Ends Tryz.prog (resultsOf Tryz.prog 22) (startC Tryz.prog 22 [(.dat l0.length (rowsT l0))] true []) vs := by
  have := goOn_lead (blkstep_ok l0) n _ (blkstart_ok l0)
  rwa [h] at this
inductive volS where
  | h0 (v3 : Int) (v10 : Int)
noncomputable def volC (l0 : List R6) : volS → Cfg
  | .h0 v3 v10 => ⟨⟨35, 0, true⟩, none, (todoP Tryz.prog 23 [1, 1, 0, 1, 0, 0] 0), none, (resultsOf Tryz.prog 8), ⟨envL [(3, (.int .i64 v3)), (8, (.dat l0.length (rowsT l0))), (9, (.int .i64 ((l0.length : Nat) : Int))), (10, (.int .i64 v10))], memL [] 0, 0, [], true⟩, [], .leaf⟩
noncomputable def volstep (l0 : List R6) : volS → Out' volS
  | .h0 v3 v10 => (bif (decide (v10 < ((l0.length : Nat) : Int))) then (bif ((decide (0 ≤ v10 ∧ v10 < ((l0.length : Nat) : Int))) && true) then (.to (.h0 (IntKind.wrap IntKind.i64 (v3 + (IntKind.wrap IntKind.i64 ((IntKind.wrap IntKind.i64 ((IntKind.wrap IntKind.i64 (1 * (IntKind.wrap IntKind.i64 ((rd l0 (Int.toNat v10)).d - (rd l0 (Int.toNat v10)).a)))) * (IntKind.wrap IntKind.i64 ((rd l0 (Int.toNat v10)).e - (rd l0 (Int.toNat v10)).b)))) * (IntKind.wrap IntKind.i64 ((rd l0 (Int.toNat v10)).f - (rd l0 (Int.toNat v10)).c)))))) (IntKind.wrap IntKind.i64 (v10 + 1)))) else .stuck) else (.ret [(.int .i64 v3)]))
noncomputable def volstart (l0 : List R6) : Out' volS := (.to (.h0 0 0))
theorem volstep_ok (l0 : List R6) : ∀ s, Lead Tryz.prog (resultsOf Tryz.prog 23) (volC l0) (volC l0 s) (volstep l0 s)
  | .h0 v3 v10 => (lead_bif (fun k0 => (lead_owe fun o0 => (sl T9_ok 221 [] ⟨[], [], [some [3, 8, 9, 10]], []⟩ ⟨[], [], []⟩ [true, true, false, false, false, true, true, false, true, false, true, false, true, true, true, false, true, true, false, true, true, false, false, true, true, true, false] (ww o0 (tt k0 nn))))) (fun k0 => (lr 35 3 [1, 1, 1, 1, 1, 1, 0] 1 8 [(2, (.int .i64 v3))] (sl T9_ok 12 [] ⟨[], [], [some [2]], []⟩ ⟨[], [], []⟩ [false] (tt k0 nn)))))
theorem volstart_ok (l0 : List R6) : Lead Tryz.prog (resultsOf Tryz.prog 23) (volC l0) (startC Tryz.prog 23 [(.dat l0.length (rowsT l0))] true []) (volstart l0) := (sl T9_ok 17 [] ⟨[], [], [some [3, 8, 9, 10]], []⟩ ⟨[], [], []⟩ [] nn)
theorem vol_ends (l0 : List R6) (n : Nat) (vs : List AVal) (h : goOn (volstep l0) n (volstart l0) = .ret vs) : Ends Tryz.prog (resultsOf Tryz.prog 23) (startC Tryz.prog 23 [(.dat l0.length (rowsT l0))] true []) vs := by
  have := goOn_lead (volstep_ok l0) n _ (volstart_ok l0)
  rwa [h] at this
inductive comS where
  | h0 (v5 : List R6) (v14 : Int)
  | h1 (v5 : List R6) (v14 : Int) (v20 : Int) (v_0_0 : Int) (v_0_1 : Int) (v_0_2 : Int) (v_0_3 : Int) (v_0_4 : Int) (v_0_5 : Int)
noncomputable def comC (l0 : List R6) (l1 : List R6) : comS → Cfg
  | .h0 v5 v14 => ⟨⟨38, 0, true⟩, none, (todoP Tryz.prog 28 [1, 1, 0, 1, 0, 0] 0), none, (resultsOf Tryz.prog 4), ⟨envL [(1, (.dat l1.length (rowsT l1))), (5, (.sla 0 6 0 v5.length (.un 6))), (12, (.dat l0.length (rowsT l0))), (13, (.int .i64 ((l0.length : Nat) : Int))), (14, (.int .i64 v14))], memL [⟨rows v5.length (rowsT v5), 72, some ⟨6, v5.length, (rowsT v5)⟩⟩] 0, 1, [], true⟩, [], .leaf⟩
  | .h1 v5 v14 v20 v_0_0 v_0_1 v_0_2 v_0_3 v_0_4 v_0_5 => ⟨⟨38, 0, true⟩, none, (todoP Tryz.prog 28 [1, 1, 0, 1, 0, 0, 1, 1, 0, 0, 1, 1, 0, 0] 0), none, (resultsOf Tryz.prog 4), ⟨envL [(1, (.dat l1.length (rowsT l1))), (5, (.sla 1 6 0 v5.length (.un 6))), (7, (.ptr 0 0)), (12, (.dat l0.length (rowsT l0))), (13, (.int .i64 ((l0.length : Nat) : Int))), (14, (.int .i64 v14)), (18, (.dat l1.length (rowsT l1))), (19, (.int .i64 ((l1.length : Nat) : Int))), (20, (.int .i64 v20))], memL [⟨[(.int .i64 v_0_0), (.int .i64 v_0_1), (.int .i64 v_0_2), (.int .i64 v_0_3), (.int .i64 v_0_4), (.int .i64 v_0_5)], 72, none⟩, ⟨rows v5.length (rowsT v5), 72, some ⟨6, v5.length, (rowsT v5)⟩⟩] 0, 2, [], true⟩, [], .leaf⟩
noncomputable def comstep (l0 : List R6) (l1 : List R6) : comS → Out' comS
  | .h0 v5 v14 => (bif (decide (v14 < ((l0.length : Nat) : Int))) then (bif ((decide (0 ≤ v14 ∧ v14 < ((l0.length : Nat) : Int))) && true) then (.to (.h1 v5 v14 0 (rd l0 (Int.toNat v14)).a (rd l0 (Int.toNat v14)).b (rd l0 (Int.toNat v14)).c (rd l0 (Int.toNat v14)).d (rd l0 (Int.toNat v14)).e (rd l0 (Int.toNat v14)).f)) else .stuck) else (.ret [(.dat v5.length (rowsT v5))]))
  | .h1 v5 v14 v20 v_0_0 v_0_1 v_0_2 v_0_3 v_0_4 v_0_5 => (bif (decide (v20 < ((l1.length : Nat) : Int))) then (bif ((decide (0 ≤ v20 ∧ v20 < ((l1.length : Nat) : Int))) && true) then (bif (decide ((iMax v_0_0 (rd l1 (Int.toNat v20)).a) ≥ (iMin v_0_3 (rd l1 (Int.toNat v20)).d))) then (.to (.h1 v5 v14 (IntKind.wrap IntKind.i64 (v20 + 1)) v_0_0 v_0_1 v_0_2 v_0_3 v_0_4 v_0_5)) else (bif (decide ((iMax v_0_1 (rd l1 (Int.toNat v20)).b) ≥ (iMin v_0_4 (rd l1 (Int.toNat v20)).e))) then (.to (.h1 v5 v14 (IntKind.wrap IntKind.i64 (v20 + 1)) v_0_0 v_0_1 v_0_2 v_0_3 v_0_4 v_0_5)) else (bif (decide ((iMax v_0_2 (rd l1 (Int.toNat v20)).c) ≥ (iMin v_0_5 (rd l1 (Int.toNat v20)).f))) then (.to (.h1 v5 v14 (IntKind.wrap IntKind.i64 (v20 + 1)) v_0_0 v_0_1 v_0_2 v_0_3 v_0_4 v_0_5)) else (bif (Nat.beq 6 6 && ((decide (0 + v5.length = v5.length)) && decide ((v5.length + 1 + 1) * (48 + 1) ≤ room))) then (.to (.h1 (v5 ++ [(R6.mk (iMax v_0_0 (rd l1 (Int.toNat v20)).a) (iMax v_0_1 (rd l1 (Int.toNat v20)).b) (iMax v_0_2 (rd l1 (Int.toNat v20)).c) (iMin v_0_3 (rd l1 (Int.toNat v20)).d) (iMin v_0_4 (rd l1 (Int.toNat v20)).e) (iMin v_0_5 (rd l1 (Int.toNat v20)).f))]) v14 (IntKind.wrap IntKind.i64 (v20 + 1)) v_0_0 v_0_1 v_0_2 v_0_3 v_0_4 v_0_5)) else .stuck)))) else .stuck) else (.to (.h0 v5 (IntKind.wrap IntKind.i64 (v14 + 1)))))
noncomputable def comstart (l0 : List R6) (l1 : List R6) : Out' comS := (.to (.h0 ([] : List R6) 0))
theorem comstep_ok (l0 : List R6) (l1 : List R6) : ∀ s, Lead Tryz.prog (resultsOf Tryz.prog 28) (comC l0 l1) (comC l0 l1 s) (comstep l0 l1 s)
  | .h0 v5 v14 => (lead_bif (fun k0 => (lead_owe fun o0 => (sl T9_ok 24 [] ⟨[1, 0], [], [some [1, 5, 7, 12, 13, 14, 18, 19, 20]], []⟩ ⟨[], [], []⟩ [true] (pp (fl v5 nn) (ww o0 (tt k0 nn)))))) (fun k0 => (lr 38 3 [1, 1, 1, 1, 1, 1, 0] 1 4 [(4, (.dat v5.length (rowsT v5)))] (sl T9_ok 12 [] ⟨[], [0], [some [4]], []⟩ ⟨[(4, .frz v5.length v5.length (rowsT v5) (rowsT v5))], [], []⟩ [false] (pp (xZ (frzS 6 6 0 v5.length v5.length (rowsT v5)) v5.length (rowsT v5)) (pp (xL v5.length v5.length) (pp (xS v5.length (rowsT v5) (rowsT v5)) (pp (fl v5 nn) (tt k0 nn)))))))))
  | .h1 v5 v14 v20 v_0_0 v_0_1 v_0_2 v_0_3 v_0_4 v_0_5 => (lead_bif (fun k0 => (lead_owe fun o1_0 => (lead_bif (fun k1 => (sl T9_ok 82 [] ⟨[0, 1], [], [some [1, 5, 7, 12, 13, 14, 18, 19, 20]], []⟩ ⟨[], [], []⟩ [true, true, false, false, false, false, false, false, false, false, true, false] (pp (fl v5 nn) (tt k1 (ww o1_0 (tt k0 nn)))))) (fun k1 => (lead_bif (fun k2 => (sl T9_ok 110 [] ⟨[0, 1], [], [some [1, 5, 7, 12, 13, 14, 18, 19, 20]], []⟩ ⟨[], [], []⟩ [true, true, false, false, false, false, false, false, false, false, false, true, true, false, true, false, true, false, true, false, true, false, true, false, true, false, true, false, true, false] (pp (fl v5 nn) (tt k2 (tt k1 (ww o1_0 (tt k0 nn))))))) (fun k2 => (lead_bif (fun k3 => (sl T9_ok 138 [] ⟨[0, 1], [], [some [1, 5, 7, 12, 13, 14, 18, 19, 20]], []⟩ ⟨[], [], []⟩ [true, true, false, false, false, false, false, false, false, false, false, true, true, false, true, false, true, false, true, false, true, false, true, false, true, false, true, false, false, true, true, true, false, true, true, false, true, true, false, true, true, false, true, true, false, true, true, false, true, true, false, true, true, false, true, false] (pp (fl v5 nn) (tt k3 (tt k2 (tt k1 (ww o1_0 (tt k0 nn)))))))) (fun k3 => (lead_owe fun o0 => (sl T9_ok 158 [] ⟨[0, 8], [], [some [1, 5, 7, 12, 13, 14, 18, 19, 20]], []⟩ ⟨[(5, .len (v5 ++ [(R6.mk (iMax v_0_0 (rd l1 (Int.toNat v20)).a) (iMax v_0_1 (rd l1 (Int.toNat v20)).b) (iMax v_0_2 (rd l1 (Int.toNat v20)).c) (iMin v_0_3 (rd l1 (Int.toNat v20)).d) (iMin v_0_4 (rd l1 (Int.toNat v20)).e) (iMin v_0_5 (rd l1 (Int.toNat v20)).f))]).length)], [.keep, .rowed 6 (v5 ++ [(R6.mk (iMax v_0_0 (rd l1 (Int.toNat v20)).a) (iMax v_0_1 (rd l1 (Int.toNat v20)).b) (iMax v_0_2 (rd l1 (Int.toNat v20)).c) (iMin v_0_3 (rd l1 (Int.toNat v20)).d) (iMin v_0_4 (rd l1 (Int.toNat v20)).e) (iMin v_0_5 (rd l1 (Int.toNat v20)).f))]).length (rowsT (v5 ++ [(R6.mk (iMax v_0_0 (rd l1 (Int.toNat v20)).a) (iMax v_0_1 (rd l1 (Int.toNat v20)).b) (iMax v_0_2 (rd l1 (Int.toNat v20)).c) (iMin v_0_3 (rd l1 (Int.toNat v20)).d) (iMin v_0_4 (rd l1 (Int.toNat v20)).e) (iMin v_0_5 (rd l1 (Int.toNat v20)).f))]))], []⟩ [true, true, false, false, false, false, false, false, false, false, false, true, true, false, true, false, true, false, true, false, true, false, true, false, true, false, true, false, false, true, true, true, false, true, true, false, true, true, false, true, true, false, true, true, false, true, true, false, true, true, false, true, true, false, false, false, true] (pp (xL (v5.length + 1) (v5 ++ [(R6.mk (iMax v_0_0 (rd l1 (Int.toNat v20)).a) (iMax v_0_1 (rd l1 (Int.toNat v20)).b) (iMax v_0_2 (rd l1 (Int.toNat v20)).c) (iMin v_0_3 (rd l1 (Int.toNat v20)).d) (iMin v_0_4 (rd l1 (Int.toNat v20)).e) (iMin v_0_5 (rd l1 (Int.toNat v20)).f))]).length) (pp (xL (v5.length + 1) (v5 ++ [(R6.mk (iMax v_0_0 (rd l1 (Int.toNat v20)).a) (iMax v_0_1 (rd l1 (Int.toNat v20)).b) (iMax v_0_2 (rd l1 (Int.toNat v20)).c) (iMin v_0_3 (rd l1 (Int.toNat v20)).d) (iMin v_0_4 (rd l1 (Int.toNat v20)).e) (iMin v_0_5 (rd l1 (Int.toNat v20)).f))]).length) (pp (xS (v5.length + 1) (appRow (rowsT v5) 0 v5.length 6 [(.int .i64 (iMax v_0_0 (rd l1 (Int.toNat v20)).a)), (.int .i64 (iMax v_0_1 (rd l1 (Int.toNat v20)).b)), (.int .i64 (iMax v_0_2 (rd l1 (Int.toNat v20)).c)), (.int .i64 (iMin v_0_3 (rd l1 (Int.toNat v20)).d)), (.int .i64 (iMin v_0_4 (rd l1 (Int.toNat v20)).e)), (.int .i64 (iMin v_0_5 (rd l1 (Int.toNat v20)).f))]) (rowsT (v5 ++ [(R6.mk (iMax v_0_0 (rd l1 (Int.toNat v20)).a) (iMax v_0_1 (rd l1 (Int.toNat v20)).b) (iMax v_0_2 (rd l1 (Int.toNat v20)).c) (iMin v_0_3 (rd l1 (Int.toNat v20)).d) (iMin v_0_4 (rd l1 (Int.toNat v20)).e) (iMin v_0_5 (rd l1 (Int.toNat v20)).f))]))) (pp (pp (xF (appRow (rowsT v5) 0 v5.length 6 [(.int .i64 (iMax v_0_0 (rd l1 (Int.toNat v20)).a)), (.int .i64 (iMax v_0_1 (rd l1 (Int.toNat v20)).b)), (.int .i64 (iMax v_0_2 (rd l1 (Int.toNat v20)).c)), (.int .i64 (iMin v_0_3 (rd l1 (Int.toNat v20)).d)), (.int .i64 (iMin v_0_4 (rd l1 (Int.toNat v20)).e)), (.int .i64 (iMin v_0_5 (rd l1 (Int.toNat v20)).f))])) nn) (ww o0 (tt k3 (tt k2 (tt k1 (ww o1_0 (tt k0 nn)))))))))))))))))))) (fun k0 => (sl T9_ok 13 [] ⟨[1], [], [some [1, 5, 12, 13, 14]], []⟩ ⟨[], [], []⟩ [false] (pp (fl v5 nn) (tt k0 nn)))))
theorem comstart_ok (l0 : List R6) (l1 : List R6) : Lead Tryz.prog (resultsOf Tryz.prog 28) (comC l0 l1) (startC Tryz.prog 28 [(.dat l0.length (rowsT l0)), (.dat l1.length (rowsT l1))] true []) (comstart l0 l1) := (sl T9_ok 17 [(72, 6, rowsT ([] : List R6))] ⟨[0], [], [some [1, 5, 12, 13, 14]], []⟩ ⟨[(5, .grow 0 6)], [], []⟩ [] (pp (fl ([] : List R6) nn) nn))
theorem com_ends (l0 : List R6) (l1 : List R6) (n : Nat) (vs : List AVal) (h : goOn (comstep l0 l1) n (comstart l0 l1) = .ret vs) : Ends Tryz.prog (resultsOf Tryz.prog 28) (startC Tryz.prog 28 [(.dat l0.length (rowsT l0)), (.dat l1.length (rowsT l1))] true []) vs := by
  have := goOn_lead (comstep_ok l0 l1) n _ (comstart_ok l0 l1)
  rwa [h] at this
end Go.Am
end
section
set_option linter.unusedVariables false
set_option linter.unusedSimpArgs false
namespace Go.Am
open Go.Proofs
set_option maxRecDepth 100000
set_option maxHeartbeats 4000000
set_option linter.unusedVariables false
set_option linter.unusedSimpArgs false
def blkV (l : List R6) : List R6 := l
def blkV_owed (l : List R6) : Bool := decide (l.length ≤ 10000)
theorem blk_h0 (l : List R6) (hl : l.length ≤ 10000) : ∀ (k i : Nat) (out : List R6), i + k = l.length → out = l.take i → ∃ N, goOn (blkstep l) N (.to (.h0 out (i : Int))) = .ret [.dat l.length (rowsT l)]
  | 0, i, out, h, ho => by
    refine ⟨1, ?_⟩
    rw [List.take_of_length_le (by omega)] at ho
    subst ho
    rw [goOn_to]
    simp (disch := omega) only [blkstep, dgt_f, dgt_t, dlt_t, dlt_f, dle_t, nlt_t, nle_t, neq_t, din_t, wrap_t, room_t, decide_true, cast_succ, beq11, toNat_c, Nat.zero_add, Bool.and_true, Bool.true_and, cond_true, cond_false, Bool.not_true, Bool.not_false, goOn_ret, cvT_eq, lst_rows]
  | k + 1, i, out, h, ho => by
    have hi : i < l.length := by omega
    have hlen : out.length = i := by rw [ho, List.length_take]; omega
    obtain ⟨N, hN⟩ := blk_h0 l hl k (i + 1) (out ++ [rd l i]) (by omega) (by rw [ho, rd_lt hi, List.take_append_getElem])
    refine ⟨N + 1, ?_⟩
    rw [goOn_to]
    simp (disch := omega) only [blkstep, dgt_f, dgt_t, dlt_t, dlt_f, dle_t, nlt_t, nle_t, neq_t, din_t, wrap_t, room_t, decide_true, cast_succ, beq11, toNat_c, Nat.zero_add, Bool.and_true, Bool.true_and, cond_true, cond_false, Bool.not_true, Bool.not_false, goOn_ret, cvT_eq, lst_rows]
    exact hN
theorem blk_run (l : List R6) (h : blkV_owed l = true) : ∃ N, goOn (blkstep l) N (blkstart l) = .ret [.dat (blkV l).length (rowsT (blkV l))] :=
  blk_h0 l (of_decide_eq_true h) l.length 0 [] (Nat.zero_add _) rfl
def vol1 (r : R6) : Int := IntKind.wrap .i64 (IntKind.wrap .i64 (IntKind.wrap .i64 (1 * IntKind.wrap .i64 (r.d - r.a)) * IntKind.wrap .i64 (r.e - r.b)) * IntKind.wrap .i64 (r.f - r.c))
def volF : List R6 → Int → Int
  | [], s => s
  | r :: l, s => volF l (IntKind.wrap .i64 (s + vol1 r))
def volV (l : List R6) : Int := volF l 0
def volV_owed (l : List R6) : Bool := decide (l.length ≤ 100000000)
theorem vol_h0 (l : List R6) (hl : l.length ≤ 100000000) : ∀ (k i : Nat) (s : Int), i + k = l.length → ∃ N, goOn (volstep l) N (.to (.h0 s (i : Int))) = .ret [.int .i64 (volF (l.drop i) s)]
  | 0, i, s, h => by
    refine ⟨1, ?_⟩
    rw [goOn_to, List.drop_eq_nil_of_le (by omega)]
    simp (disch := omega) only [volstep, volF, dgt_f, dgt_t, dlt_t, dlt_f, dle_t, nlt_t, nle_t, neq_t, din_t, wrap_t, room_t, decide_true, cast_succ, beq11, toNat_c, Nat.zero_add, Bool.and_true, Bool.true_and, cond_true, cond_false, Bool.not_true, Bool.not_false, goOn_ret, cvT_eq, lst_rows]
  | k + 1, i, s, h => by
    have hi : i < l.length := by omega
    obtain ⟨N, hN⟩ := vol_h0 l hl k (i + 1) (IntKind.wrap .i64 (s + vol1 (rd l i))) (by omega)
    refine ⟨N + 1, ?_⟩
    rw [goOn_to, drop_rd hi]
    simp (disch := omega) only [volstep, volF, dlt_t, din_t, cast_succ, toNat_c, Bool.and_true, cond_true]
    rw [wrap_t (n := ((i + 1 : Nat) : Int)) (by omega)]
    exact hN
theorem vol_run (l : List R6) (h : volV_owed l = true) : ∃ N, goOn (volstep l) N (volstart l) = .ret [.int .i64 (volV l)] :=
  vol_h0 l (of_decide_eq_true h) l.length 0 0 (Nat.zero_add _)
theorem vol1_cg (r : R6) : Cg (vol1 r) (bxV r) := by
  unfold vol1 bxV
  refine (((Cg.mul ?_ (Cg.wrap _)).w.mul (Cg.wrap _)).w)
  have h : Cg (1 * IntKind.wrap .i64 (r.d - r.a)) (1 * (r.d - r.a)) := Cg.mul (Cg.refl 1) (Cg.wrap _)
  exact h.w.trans (by rw [Int.one_mul]; exact Cg.refl _)
theorem volF_cg : ∀ (l : List R6) (s s' : Int), Cg s s' → Cg (volF l s) (s' + sm l bxV)
  | [], s, s', h => by rw [sm_nil, Int.add_zero]; exact h
  | r :: l, s, s', h => by
    rw [sm_cons, ← Int.add_assoc]
    exact volF_cg l _ _ (h.add (vol1_cg r)).w
theorem volV_cg (l : List R6) : Cg (volV l) (sm l bxV) := by
  have := volF_cg l 0 0 (Cg.refl 0)
  rwa [Int.zero_add] at this
theorem volF_in : ∀ (l : List R6) (s : Int), (-9223372036854775808 ≤ s ∧ s ≤ 9223372036854775807) → -9223372036854775808 ≤ volF l s ∧ volF l s ≤ 9223372036854775807
  | [], s, h => h
  | r :: l, s, h => volF_in l _ (wrap_in _)
theorem volV_in (l : List R6) : -9223372036854775808 ≤ volV l ∧ volV l ≤ 9223372036854775807 := volF_in l 0 (by omega)
theorem volV_eq {l : List R6} {n : Int} (h : sm l bxV = n) (hn : -9223372036854775808 ≤ n ∧ n ≤ 9223372036854775807) : volV l = n := by
  subst h; exact (volV_cg l).is (volV_in l) hn
def comV_owed (X Y : List R6) : Bool := decide (X.length ≤ 10000 ∧ Y.length ≤ 10000)
theorem com_length (X Y : List R6) : (comV X Y).length ≤ X.length * Y.length := by
  unfold comV
  induction X with
  | nil => simp
  | cons x X ih =>
    rw [List.flatMap_cons, List.length_append, List.length_cons, Nat.add_mul, Nat.one_mul]
    have := List.length_filterMap_le (meetV x) Y
    omega
section
variable (X Y : List R6) (hX : X.length ≤ 10000) (hY : Y.length ≤ 10000)
include hX hY
omit hX in
theorem com_h1 (i : Nat) (x : R6) : ∀ (k j : Nat) (out : List R6), j + k = Y.length → out.length ≤ i * 10000 + j → i ≤ 10000 →
    ∃ n, ∀ N, goOn (comstep X Y) (N + n) (.to (.h1 out (i : Int) (j : Int) x.a x.b x.c x.d x.e x.f)) = goOn (comstep X Y) N (.to (.h0 (out ++ (Y.drop j).filterMap (meetV x)) ((i + 1 : Nat) : Int)))
  | 0, j, out, h, ho, hi => by
    refine ⟨1, fun N => ?_⟩
    rw [goOn_to, List.drop_eq_nil_of_le (by omega), List.filterMap_nil, List.append_nil]
    simp (disch := omega) only [comstep, dgt_f, dgt_t, dlt_t, dlt_f, dle_t, nlt_t, nle_t, neq_t, din_t, wrap_t, room_t, decide_true, cast_succ, beq11, toNat_c, Nat.zero_add, Bool.and_true, Bool.true_and, cond_true, cond_false, Bool.not_true, Bool.not_false, goOn_ret, cvT_eq, lst_rows]
  | k + 1, j, out, h, ho, hi => by
    have hj : j < Y.length := by omega
    rw [drop_rd hj, List.filterMap_cons]
    have hin : decide (0 ≤ (j : Int) ∧ (j : Int) < ((Y.length : Nat) : Int)) = true := decide_eq_true (by omega)
    have hlt : decide ((j : Int) < ((Y.length : Nat) : Int)) = true := decide_eq_true (by omega)
    have hroom : decide ((out.length + 1 + 1) * (48 + 1) ≤ room) = true := room_t (by omega)
    by_cases h1 : max x.a (rd Y j).a < min x.d (rd Y j).d
    · by_cases h2 : max x.b (rd Y j).b < min x.e (rd Y j).e
      · by_cases h3 : max x.c (rd Y j).c < min x.f (rd Y j).f
        · have hm : meetV x (rd Y j) = some ⟨max x.a (rd Y j).a, max x.b (rd Y j).b, max x.c (rd Y j).c, min x.d (rd Y j).d, min x.e (rd Y j).e, min x.f (rd Y j).f⟩ := by
            unfold meetV; rw [decide_eq_true h1, decide_eq_true h2, decide_eq_true h3]; rfl
          obtain ⟨n, hn⟩ := com_h1 i x k (j + 1) (out ++ [⟨max x.a (rd Y j).a, max x.b (rd Y j).b, max x.c (rd Y j).c, min x.d (rd Y j).d, min x.e (rd Y j).e, min x.f (rd Y j).f⟩]) (by omega) (by simp; omega) hi
          refine ⟨n + 1, fun N => ?_⟩
          have := hn N
          rw [hm]
          simp only []
          rw [← Nat.add_assoc, goOn_to]
          simp (disch := omega) only [comstep, hin, hlt, hroom, iMax_eq, iMin_eq, dge_f, dgt_f, dgt_t, dlt_t, dlt_f, dle_t, nlt_t, nle_t, neq_t, din_t, wrap_t, room_t, decide_true, cast_succ, beq11, toNat_c, Nat.zero_add, Bool.and_true, Bool.true_and, cond_true, cond_false, Bool.not_true, Bool.not_false, goOn_ret, cvT_eq, lst_rows]
          rw [List.append_assoc] at this
          exact this
        · have hm : meetV x (rd Y j) = none := by
            unfold meetV; rw [decide_eq_true h1, decide_eq_true h2, decide_eq_false h3]; rfl
          obtain ⟨n, hn⟩ := com_h1 i x k (j + 1) out (by omega) (by omega) hi
          refine ⟨n + 1, fun N => ?_⟩
          have := hn N
          rw [hm]
          simp only []
          rw [← Nat.add_assoc, goOn_to]
          simp (disch := omega) only [comstep, hin, hlt, hroom, iMax_eq, iMin_eq, dge_f, dge_t, dgt_f, dgt_t, dlt_t, dlt_f, dle_t, nlt_t, nle_t, neq_t, din_t, wrap_t, room_t, decide_true, cast_succ, beq11, toNat_c, Nat.zero_add, Bool.and_true, Bool.true_and, cond_true, cond_false, Bool.not_true, Bool.not_false, goOn_ret, cvT_eq, lst_rows]
          exact this
      · have hm : meetV x (rd Y j) = none := by
          unfold meetV; rw [decide_eq_true h1, decide_eq_false h2]; rfl
        obtain ⟨n, hn⟩ := com_h1 i x k (j + 1) out (by omega) (by omega) hi
        refine ⟨n + 1, fun N => ?_⟩
        have := hn N
        rw [hm]
        simp only []
        rw [← Nat.add_assoc, goOn_to]
        simp (disch := omega) only [comstep, hin, hlt, hroom, iMax_eq, iMin_eq, dge_f, dge_t, dgt_f, dgt_t, dlt_t, dlt_f, dle_t, nlt_t, nle_t, neq_t, din_t, wrap_t, room_t, decide_true, cast_succ, beq11, toNat_c, Nat.zero_add, Bool.and_true, Bool.true_and, cond_true, cond_false, Bool.not_true, Bool.not_false, goOn_ret, cvT_eq, lst_rows]
        exact this
    · have hm : meetV x (rd Y j) = none := by
        unfold meetV; rw [decide_eq_false h1]; rfl
      obtain ⟨n, hn⟩ := com_h1 i x k (j + 1) out (by omega) (by omega) hi
      refine ⟨n + 1, fun N => ?_⟩
      have := hn N
      rw [hm]
      simp only []
      rw [← Nat.add_assoc, goOn_to]
      simp (disch := omega) only [comstep, hin, hlt, hroom, iMax_eq, iMin_eq, dge_f, dge_t, dgt_f, dgt_t, dlt_t, dlt_f, dle_t, nlt_t, nle_t, neq_t, din_t, wrap_t, room_t, decide_true, cast_succ, beq11, toNat_c, Nat.zero_add, Bool.and_true, Bool.true_and, cond_true, cond_false, Bool.not_true, Bool.not_false, goOn_ret, cvT_eq, lst_rows]
      exact this
theorem com_h0 : ∀ (k i : Nat) (out : List R6), i + k = X.length → out.length ≤ i * 10000 → ∃ n, goOn (comstep X Y) n (.to (.h0 out (i : Int))) = .ret [.dat (out ++ comV (X.drop i) Y).length (rowsT (out ++ comV (X.drop i) Y))]
  | 0, i, out, h, ho => by
    refine ⟨1, ?_⟩
    rw [goOn_to, List.drop_eq_nil_of_le (by omega), show comV [] Y = [] from rfl, List.append_nil]
    simp (disch := omega) only [comstep, dgt_f, dgt_t, dlt_t, dlt_f, dle_t, nlt_t, nle_t, neq_t, din_t, wrap_t, room_t, decide_true, cast_succ, beq11, toNat_c, Nat.zero_add, Bool.and_true, Bool.true_and, cond_true, cond_false, Bool.not_true, Bool.not_false, goOn_ret, cvT_eq, lst_rows]
  | k + 1, i, out, h, ho => by
    have hi : i < X.length := by omega
    obtain ⟨n1, h1⟩ := com_h1 X Y hY i (rd X i) Y.length 0 out (Nat.zero_add _) (by omega) (by omega)
    rw [List.drop_zero, cast0] at h1
    obtain ⟨n2, h2⟩ := com_h0 k (i + 1) (out ++ Y.filterMap (meetV (rd X i))) (by omega) (by
      rw [List.length_append]
      have := List.length_filterMap_le (meetV (rd X i)) Y
      omega)
    refine ⟨n2 + n1 + 1, ?_⟩
    rw [goOn_to]
    simp (disch := omega) only [comstep, dgt_f, dgt_t, dlt_t, dlt_f, dle_t, nlt_t, nle_t, neq_t, din_t, wrap_t, room_t, decide_true, cast_succ, beq11, toNat_c, Nat.zero_add, Bool.and_true, Bool.true_and, cond_true, cond_false, Bool.not_true, Bool.not_false, goOn_ret, cvT_eq, lst_rows]
    rw [h1 n2, h2, drop_rd hi, show comV (rd X i :: X.drop (i + 1)) Y = Y.filterMap (meetV (rd X i)) ++ comV (X.drop (i + 1)) Y from List.flatMap_cons, List.append_assoc]
end
theorem com_run (X Y : List R6) (h : comV_owed X Y = true) : ∃ N, goOn (comstep X Y) N (comstart X Y) = .ret [.dat (comV X Y).length (rowsT (comV X Y))] := by
  obtain ⟨h1, h2⟩ := of_decide_eq_true h
  have := com_h0 X Y h1 h2 X.length 0 [] (Nat.zero_add _) (Nat.zero_le _)
  rwa [List.drop_zero, List.nil_append] at this
noncomputable def fBlk : List AVal → Option (AVal × Bool)
  | [a0] => match asL R6 a0 with
    | some (L0, g0, n0) => some (.dat (blkV L0).length (rowsT (blkV L0)), isT R6 n0 g0 && (blkV_owed L0))
    | _ => none
  | _ => none
theorem fBlk_ok {S : Specs} (hS : SpecsOk Tryz.prog S) : SpecsOk Tryz.prog (S.with nBlocks fBlk) := by
  refine fOne hS (by kernel_rfl) fun args v h => ?_
  unfold fBlk at h
  split at h
  · rename_i a0
    split at h
    · rename_i L0 g0 n0 e0
      simp only [Option.some.injEq, Prod.mk.injEq, Bool.and_eq_true] at h
      obtain ⟨rfl, ho0, hw⟩ := h
      obtain ⟨N, hN⟩ := blk_run L0 hw
      exact ⟨_, _, (.cons (asL_le e0 ho0) .nil), rfl, blk_ends L0 N _ hN, 3, rfl⟩
    · cases h
  · cases h
noncomputable def fVol : List AVal → Option (AVal × Bool)
  | [a0] => match asL R6 a0 with
    | some (L0, g0, n0) => some (.int .i64 (volV L0), isT R6 n0 g0 && (volV_owed L0))
    | _ => none
  | _ => none
theorem fVol_ok {S : Specs} (hS : SpecsOk Tryz.prog S) : SpecsOk Tryz.prog (S.with nOcVol fVol) := by
  refine fOne hS (by kernel_rfl) fun args v h => ?_
  unfold fVol at h
  split at h
  · rename_i a0
    split at h
    · rename_i L0 g0 n0 e0
      simp only [Option.some.injEq, Prod.mk.injEq, Bool.and_eq_true] at h
      obtain ⟨rfl, ho0, hw⟩ := h
      obtain ⟨N, hN⟩ := vol_run L0 hw
      exact ⟨_, _, (.cons (asL_le e0 ho0) .nil), rfl, vol_ends L0 N _ hN, 3, rfl⟩
    · cases h
  · cases h
noncomputable def fCom : List AVal → Option (AVal × Bool)
  | [a0, a1] => match asL R6 a0, asL R6 a1 with
    | some (L0, g0, n0), some (L1, g1, n1) => some (.dat (comV L0 L1).length (rowsT (comV L0 L1)), isT R6 n0 g0 && (isT R6 n1 g1 && (comV_owed L0 L1)))
    | _, _ => none
  | _ => none
theorem fCom_ok {S : Specs} (hS : SpecsOk Tryz.prog S) : SpecsOk Tryz.prog (S.with nCommon fCom) := by
  refine fOne hS (by kernel_rfl) fun args v h => ?_
  unfold fCom at h
  split at h
  · rename_i a0 a1
    split at h
    · rename_i L0 g0 n0 L1 g1 n1 e0 e1
      simp only [Option.some.injEq, Prod.mk.injEq, Bool.and_eq_true] at h
      obtain ⟨rfl, ho0, ho1, hw⟩ := h
      obtain ⟨N, hN⟩ := com_run L0 L1 hw
      exact ⟨_, _, (.cons (asL_le e0 ho0) (.cons (asL_le e1 ho1) .nil)), rfl, com_ends L0 L1 N _ hN, 3, rfl⟩
    · cases h
  · cases h
noncomputable def Ta : Specs := (((T9.with nBlocks fBlk).with nOcVol fVol).with nCommon fCom)
theorem Ta_ok : SpecsOk Tryz.prog Ta := (fCom_ok (fVol_ok (fBlk_ok T9_ok)))
end Go.Am
end
section
set_option linter.unusedVariables false
set_option linter.unusedSimpArgs false
namespace Go.Am
open Go.Proofs
set_option maxRecDepth 1000000
set_option linter.unusedVariables false
set_option linter.unusedSimpArgs false
set_option maxHeartbeats 4000000
-- h0: owes false (choices [true, false, false, false, true])
-- h0: owes false (choices [true, false, false, false, false, true])
-- h0: owes false (choices [true, false, false, false, false, false, true])
-- h0: owes false (choices [true, false, false, false, false, false, false, true])
-- h0: index into an array (choices [true, false, false, false, false, false, false, false])
inductive prsS where
  | h0 (v7 : List R6) (v13 : Int)
noncomputable def prsC (l0 : List R6) (l1 : List R6) (x2 : Int) : prsS → Cfg
  | .h0 v7 v13 => ⟨⟨30, 0, true⟩, none, (todoP Tryz.prog 24 [1, 1, 0, 1, 0, 0] 0), none, (resultsOf Tryz.prog 3), ⟨envL [(1, (.dat l1.length (rowsT l1))), (2, (.int .i64 x2)), (7, (.sla 0 6 0 v7.length (.un 6))), (11, (.dat l0.length (rowsT l0))), (12, (.int .i64 ((l0.length : Nat) : Int))), (13, (.int .i64 v13))], memL [⟨rows v7.length (rowsT v7), 72, some ⟨6, v7.length, (rowsT v7)⟩⟩] 0, 1, [], true⟩, [], .leaf⟩
noncomputable def prsstep (l0 : List R6) (l1 : List R6) (x2 : Int) : prsS → Out' prsS
  | .h0 v7 v13 => (bif (decide (v13 < ((l0.length : Nat) : Int))) then (bif ((decide (0 ≤ v13 ∧ v13 < ((l0.length : Nat) : Int))) && true) then (bif (decide ((IntKind.wrap IntKind.i64 (Int.tdiv x2 2)) = Int.ofNat 0)) then (bif (Nat.beq 6 6 && ((decide (0 + v7.length = v7.length)) && decide ((v7.length + 1 + 1) * (48 + 1) ≤ room))) then (.to (.h0 (v7 ++ [(R6.mk (IntKind.wrap IntKind.i64 ((rd l0 (Int.toNat v13)).a + (IntKind.wrap IntKind.i64 (1 - (IntKind.wrap IntKind.i64 (2 * (Int.tmod x2 2))))))) (rd l0 (Int.toNat v13)).b (rd l0 (Int.toNat v13)).c (IntKind.wrap IntKind.i64 ((rd l0 (Int.toNat v13)).d + (IntKind.wrap IntKind.i64 (1 - (IntKind.wrap IntKind.i64 (2 * (Int.tmod x2 2))))))) (rd l0 (Int.toNat v13)).e (rd l0 (Int.toNat v13)).f)]) (IntKind.wrap IntKind.i64 (v13 + 1)))) else .stuck) else (bif (decide ((IntKind.wrap IntKind.i64 (Int.tdiv x2 2)) = Int.ofNat 1)) then (bif (Nat.beq 6 6 && ((decide (0 + v7.length = v7.length)) && decide ((v7.length + 1 + 1) * (48 + 1) ≤ room))) then (.to (.h0 (v7 ++ [(R6.mk (rd l0 (Int.toNat v13)).a (IntKind.wrap IntKind.i64 ((rd l0 (Int.toNat v13)).b + (IntKind.wrap IntKind.i64 (1 - (IntKind.wrap IntKind.i64 (2 * (Int.tmod x2 2))))))) (rd l0 (Int.toNat v13)).c (rd l0 (Int.toNat v13)).d (IntKind.wrap IntKind.i64 ((rd l0 (Int.toNat v13)).e + (IntKind.wrap IntKind.i64 (1 - (IntKind.wrap IntKind.i64 (2 * (Int.tmod x2 2))))))) (rd l0 (Int.toNat v13)).f)]) (IntKind.wrap IntKind.i64 (v13 + 1)))) else .stuck) else (bif (decide ((IntKind.wrap IntKind.i64 (Int.tdiv x2 2)) = Int.ofNat 2)) then (bif (Nat.beq 6 6 && ((decide (0 + v7.length = v7.length)) && decide ((v7.length + 1 + 1) * (48 + 1) ≤ room))) then (.to (.h0 (v7 ++ [(R6.mk (rd l0 (Int.toNat v13)).a (rd l0 (Int.toNat v13)).b (IntKind.wrap IntKind.i64 ((rd l0 (Int.toNat v13)).c + (IntKind.wrap IntKind.i64 (1 - (IntKind.wrap IntKind.i64 (2 * (Int.tmod x2 2))))))) (rd l0 (Int.toNat v13)).d (rd l0 (Int.toNat v13)).e (IntKind.wrap IntKind.i64 ((rd l0 (Int.toNat v13)).f + (IntKind.wrap IntKind.i64 (1 - (IntKind.wrap IntKind.i64 (2 * (Int.tmod x2 2))))))))]) (IntKind.wrap IntKind.i64 (v13 + 1)))) else .stuck) else (bif (decide ((IntKind.wrap IntKind.i64 (Int.tdiv x2 2)) = Int.ofNat 3)) then .stuck else (bif (decide ((IntKind.wrap IntKind.i64 (Int.tdiv x2 2)) = Int.ofNat 4)) then .stuck else (bif (decide ((IntKind.wrap IntKind.i64 (Int.tdiv x2 2)) = Int.ofNat 5)) then .stuck else (bif (decide ((IntKind.wrap IntKind.i64 (Int.tdiv x2 2)) = Int.ofNat 6)) then .stuck else .stuck))))))) else .stuck) else (bif (comV_owed (cvT v7) (cvT l1)) then (bif (volV_owed (cvT (comV (cvT v7) (cvT l1)))) then (.ret [(.int .i64 (volV (cvT (comV (cvT v7) (cvT l1)))))]) else .stuck) else .stuck))
noncomputable def prsstart (l0 : List R6) (l1 : List R6) (x2 : Int) : Out' prsS := (.to (.h0 ([] : List R6) 0))
theorem prsstep_ok (l0 : List R6) (l1 : List R6) (x2 : Int) : ∀ s, Lead Tryz.prog (resultsOf Tryz.prog 24) (prsC l0 l1 x2) (prsC l0 l1 x2 s) (prsstep l0 l1 x2 s)
  | .h0 v7 v13 => (lead_bif (fun k0 => (lead_owe fun o1_0 => (lead_bif (fun k1 => (lead_owe fun o0 => (sl Ta_ok 82 [] ⟨[5], [], [some [1, 2, 7, 11, 12, 13]], []⟩ ⟨[(7, .len (v7 ++ [(R6.mk (IntKind.wrap IntKind.i64 ((rd l0 (Int.toNat v13)).a + (IntKind.wrap IntKind.i64 (1 - (IntKind.wrap IntKind.i64 (2 * (Int.tmod x2 2))))))) (rd l0 (Int.toNat v13)).b (rd l0 (Int.toNat v13)).c (IntKind.wrap IntKind.i64 ((rd l0 (Int.toNat v13)).d + (IntKind.wrap IntKind.i64 (1 - (IntKind.wrap IntKind.i64 (2 * (Int.tmod x2 2))))))) (rd l0 (Int.toNat v13)).e (rd l0 (Int.toNat v13)).f)]).length)], [.rowed 6 (v7 ++ [(R6.mk (IntKind.wrap IntKind.i64 ((rd l0 (Int.toNat v13)).a + (IntKind.wrap IntKind.i64 (1 - (IntKind.wrap IntKind.i64 (2 * (Int.tmod x2 2))))))) (rd l0 (Int.toNat v13)).b (rd l0 (Int.toNat v13)).c (IntKind.wrap IntKind.i64 ((rd l0 (Int.toNat v13)).d + (IntKind.wrap IntKind.i64 (1 - (IntKind.wrap IntKind.i64 (2 * (Int.tmod x2 2))))))) (rd l0 (Int.toNat v13)).e (rd l0 (Int.toNat v13)).f)]).length (rowsT (v7 ++ [(R6.mk (IntKind.wrap IntKind.i64 ((rd l0 (Int.toNat v13)).a + (IntKind.wrap IntKind.i64 (1 - (IntKind.wrap IntKind.i64 (2 * (Int.tmod x2 2))))))) (rd l0 (Int.toNat v13)).b (rd l0 (Int.toNat v13)).c (IntKind.wrap IntKind.i64 ((rd l0 (Int.toNat v13)).d + (IntKind.wrap IntKind.i64 (1 - (IntKind.wrap IntKind.i64 (2 * (Int.tmod x2 2))))))) (rd l0 (Int.toNat v13)).e (rd l0 (Int.toNat v13)).f)]))], []⟩ [true, false, false, false, false] (pp (xL (v7.length + 1) (v7 ++ [(R6.mk (IntKind.wrap IntKind.i64 ((rd l0 (Int.toNat v13)).a + (IntKind.wrap IntKind.i64 (1 - (IntKind.wrap IntKind.i64 (2 * (Int.tmod x2 2))))))) (rd l0 (Int.toNat v13)).b (rd l0 (Int.toNat v13)).c (IntKind.wrap IntKind.i64 ((rd l0 (Int.toNat v13)).d + (IntKind.wrap IntKind.i64 (1 - (IntKind.wrap IntKind.i64 (2 * (Int.tmod x2 2))))))) (rd l0 (Int.toNat v13)).e (rd l0 (Int.toNat v13)).f)]).length) (pp (xL (v7.length + 1) (v7 ++ [(R6.mk (IntKind.wrap IntKind.i64 ((rd l0 (Int.toNat v13)).a + (IntKind.wrap IntKind.i64 (1 - (IntKind.wrap IntKind.i64 (2 * (Int.tmod x2 2))))))) (rd l0 (Int.toNat v13)).b (rd l0 (Int.toNat v13)).c (IntKind.wrap IntKind.i64 ((rd l0 (Int.toNat v13)).d + (IntKind.wrap IntKind.i64 (1 - (IntKind.wrap IntKind.i64 (2 * (Int.tmod x2 2))))))) (rd l0 (Int.toNat v13)).e (rd l0 (Int.toNat v13)).f)]).length) (pp (xS (v7.length + 1) (appRow (rowsT v7) 0 v7.length 6 [(.int .i64 (IntKind.wrap IntKind.i64 ((rd l0 (Int.toNat v13)).a + (IntKind.wrap IntKind.i64 (1 - (IntKind.wrap IntKind.i64 (2 * (Int.tmod x2 2)))))))), (.int .i64 (rd l0 (Int.toNat v13)).b), (.int .i64 (rd l0 (Int.toNat v13)).c), (.int .i64 (IntKind.wrap IntKind.i64 ((rd l0 (Int.toNat v13)).d + (IntKind.wrap IntKind.i64 (1 - (IntKind.wrap IntKind.i64 (2 * (Int.tmod x2 2)))))))), (.int .i64 (rd l0 (Int.toNat v13)).e), (.int .i64 (rd l0 (Int.toNat v13)).f)]) (rowsT (v7 ++ [(R6.mk (IntKind.wrap IntKind.i64 ((rd l0 (Int.toNat v13)).a + (IntKind.wrap IntKind.i64 (1 - (IntKind.wrap IntKind.i64 (2 * (Int.tmod x2 2))))))) (rd l0 (Int.toNat v13)).b (rd l0 (Int.toNat v13)).c (IntKind.wrap IntKind.i64 ((rd l0 (Int.toNat v13)).d + (IntKind.wrap IntKind.i64 (1 - (IntKind.wrap IntKind.i64 (2 * (Int.tmod x2 2))))))) (rd l0 (Int.toNat v13)).e (rd l0 (Int.toNat v13)).f)]))) (pp (pp (xF (appRow (rowsT v7) 0 v7.length 6 [(.int .i64 (IntKind.wrap IntKind.i64 ((rd l0 (Int.toNat v13)).a + (IntKind.wrap IntKind.i64 (1 - (IntKind.wrap IntKind.i64 (2 * (Int.tmod x2 2)))))))), (.int .i64 (rd l0 (Int.toNat v13)).b), (.int .i64 (rd l0 (Int.toNat v13)).c), (.int .i64 (IntKind.wrap IntKind.i64 ((rd l0 (Int.toNat v13)).d + (IntKind.wrap IntKind.i64 (1 - (IntKind.wrap IntKind.i64 (2 * (Int.tmod x2 2)))))))), (.int .i64 (rd l0 (Int.toNat v13)).e), (.int .i64 (rd l0 (Int.toNat v13)).f)])) nn) (ww o0 (ww k1 (ww k1 (ww o1_0 (tt k0 nn)))))))))))) (fun k1 => (lead_bif (fun k2 => (lead_owe fun o0 => (sl Ta_ok 82 [] ⟨[5], [], [some [1, 2, 7, 11, 12, 13]], []⟩ ⟨[(7, .len (v7 ++ [(R6.mk (rd l0 (Int.toNat v13)).a (IntKind.wrap IntKind.i64 ((rd l0 (Int.toNat v13)).b + (IntKind.wrap IntKind.i64 (1 - (IntKind.wrap IntKind.i64 (2 * (Int.tmod x2 2))))))) (rd l0 (Int.toNat v13)).c (rd l0 (Int.toNat v13)).d (IntKind.wrap IntKind.i64 ((rd l0 (Int.toNat v13)).e + (IntKind.wrap IntKind.i64 (1 - (IntKind.wrap IntKind.i64 (2 * (Int.tmod x2 2))))))) (rd l0 (Int.toNat v13)).f)]).length)], [.rowed 6 (v7 ++ [(R6.mk (rd l0 (Int.toNat v13)).a (IntKind.wrap IntKind.i64 ((rd l0 (Int.toNat v13)).b + (IntKind.wrap IntKind.i64 (1 - (IntKind.wrap IntKind.i64 (2 * (Int.tmod x2 2))))))) (rd l0 (Int.toNat v13)).c (rd l0 (Int.toNat v13)).d (IntKind.wrap IntKind.i64 ((rd l0 (Int.toNat v13)).e + (IntKind.wrap IntKind.i64 (1 - (IntKind.wrap IntKind.i64 (2 * (Int.tmod x2 2))))))) (rd l0 (Int.toNat v13)).f)]).length (rowsT (v7 ++ [(R6.mk (rd l0 (Int.toNat v13)).a (IntKind.wrap IntKind.i64 ((rd l0 (Int.toNat v13)).b + (IntKind.wrap IntKind.i64 (1 - (IntKind.wrap IntKind.i64 (2 * (Int.tmod x2 2))))))) (rd l0 (Int.toNat v13)).c (rd l0 (Int.toNat v13)).d (IntKind.wrap IntKind.i64 ((rd l0 (Int.toNat v13)).e + (IntKind.wrap IntKind.i64 (1 - (IntKind.wrap IntKind.i64 (2 * (Int.tmod x2 2))))))) (rd l0 (Int.toNat v13)).f)]))], []⟩ [true, true, false, true, false, true, false, true, false] (pp (xL (v7.length + 1) (v7 ++ [(R6.mk (rd l0 (Int.toNat v13)).a (IntKind.wrap IntKind.i64 ((rd l0 (Int.toNat v13)).b + (IntKind.wrap IntKind.i64 (1 - (IntKind.wrap IntKind.i64 (2 * (Int.tmod x2 2))))))) (rd l0 (Int.toNat v13)).c (rd l0 (Int.toNat v13)).d (IntKind.wrap IntKind.i64 ((rd l0 (Int.toNat v13)).e + (IntKind.wrap IntKind.i64 (1 - (IntKind.wrap IntKind.i64 (2 * (Int.tmod x2 2))))))) (rd l0 (Int.toNat v13)).f)]).length) (pp (xL (v7.length + 1) (v7 ++ [(R6.mk (rd l0 (Int.toNat v13)).a (IntKind.wrap IntKind.i64 ((rd l0 (Int.toNat v13)).b + (IntKind.wrap IntKind.i64 (1 - (IntKind.wrap IntKind.i64 (2 * (Int.tmod x2 2))))))) (rd l0 (Int.toNat v13)).c (rd l0 (Int.toNat v13)).d (IntKind.wrap IntKind.i64 ((rd l0 (Int.toNat v13)).e + (IntKind.wrap IntKind.i64 (1 - (IntKind.wrap IntKind.i64 (2 * (Int.tmod x2 2))))))) (rd l0 (Int.toNat v13)).f)]).length) (pp (xS (v7.length + 1) (appRow (rowsT v7) 0 v7.length 6 [(.int .i64 (rd l0 (Int.toNat v13)).a), (.int .i64 (IntKind.wrap IntKind.i64 ((rd l0 (Int.toNat v13)).b + (IntKind.wrap IntKind.i64 (1 - (IntKind.wrap IntKind.i64 (2 * (Int.tmod x2 2)))))))), (.int .i64 (rd l0 (Int.toNat v13)).c), (.int .i64 (rd l0 (Int.toNat v13)).d), (.int .i64 (IntKind.wrap IntKind.i64 ((rd l0 (Int.toNat v13)).e + (IntKind.wrap IntKind.i64 (1 - (IntKind.wrap IntKind.i64 (2 * (Int.tmod x2 2)))))))), (.int .i64 (rd l0 (Int.toNat v13)).f)]) (rowsT (v7 ++ [(R6.mk (rd l0 (Int.toNat v13)).a (IntKind.wrap IntKind.i64 ((rd l0 (Int.toNat v13)).b + (IntKind.wrap IntKind.i64 (1 - (IntKind.wrap IntKind.i64 (2 * (Int.tmod x2 2))))))) (rd l0 (Int.toNat v13)).c (rd l0 (Int.toNat v13)).d (IntKind.wrap IntKind.i64 ((rd l0 (Int.toNat v13)).e + (IntKind.wrap IntKind.i64 (1 - (IntKind.wrap IntKind.i64 (2 * (Int.tmod x2 2))))))) (rd l0 (Int.toNat v13)).f)]))) (pp (pp (xF (appRow (rowsT v7) 0 v7.length 6 [(.int .i64 (rd l0 (Int.toNat v13)).a), (.int .i64 (IntKind.wrap IntKind.i64 ((rd l0 (Int.toNat v13)).b + (IntKind.wrap IntKind.i64 (1 - (IntKind.wrap IntKind.i64 (2 * (Int.tmod x2 2)))))))), (.int .i64 (rd l0 (Int.toNat v13)).c), (.int .i64 (rd l0 (Int.toNat v13)).d), (.int .i64 (IntKind.wrap IntKind.i64 ((rd l0 (Int.toNat v13)).e + (IntKind.wrap IntKind.i64 (1 - (IntKind.wrap IntKind.i64 (2 * (Int.tmod x2 2)))))))), (.int .i64 (rd l0 (Int.toNat v13)).f)])) nn) (ww o0 (ww k2 (ww k2 (ww o1_0 (tt k0 nn)))))))))))) (fun k2 => (lead_bif (fun k3 => (lead_owe fun o0 => (sl Ta_ok 82 [] ⟨[5], [], [some [1, 2, 7, 11, 12, 13]], []⟩ ⟨[(7, .len (v7 ++ [(R6.mk (rd l0 (Int.toNat v13)).a (rd l0 (Int.toNat v13)).b (IntKind.wrap IntKind.i64 ((rd l0 (Int.toNat v13)).c + (IntKind.wrap IntKind.i64 (1 - (IntKind.wrap IntKind.i64 (2 * (Int.tmod x2 2))))))) (rd l0 (Int.toNat v13)).d (rd l0 (Int.toNat v13)).e (IntKind.wrap IntKind.i64 ((rd l0 (Int.toNat v13)).f + (IntKind.wrap IntKind.i64 (1 - (IntKind.wrap IntKind.i64 (2 * (Int.tmod x2 2))))))))]).length)], [.rowed 6 (v7 ++ [(R6.mk (rd l0 (Int.toNat v13)).a (rd l0 (Int.toNat v13)).b (IntKind.wrap IntKind.i64 ((rd l0 (Int.toNat v13)).c + (IntKind.wrap IntKind.i64 (1 - (IntKind.wrap IntKind.i64 (2 * (Int.tmod x2 2))))))) (rd l0 (Int.toNat v13)).d (rd l0 (Int.toNat v13)).e (IntKind.wrap IntKind.i64 ((rd l0 (Int.toNat v13)).f + (IntKind.wrap IntKind.i64 (1 - (IntKind.wrap IntKind.i64 (2 * (Int.tmod x2 2))))))))]).length (rowsT (v7 ++ [(R6.mk (rd l0 (Int.toNat v13)).a (rd l0 (Int.toNat v13)).b (IntKind.wrap IntKind.i64 ((rd l0 (Int.toNat v13)).c + (IntKind.wrap IntKind.i64 (1 - (IntKind.wrap IntKind.i64 (2 * (Int.tmod x2 2))))))) (rd l0 (Int.toNat v13)).d (rd l0 (Int.toNat v13)).e (IntKind.wrap IntKind.i64 ((rd l0 (Int.toNat v13)).f + (IntKind.wrap IntKind.i64 (1 - (IntKind.wrap IntKind.i64 (2 * (Int.tmod x2 2))))))))]))], []⟩ (trs 3 [false, true, true, false, true, true, false, true, true, false]) (pp (xL (v7.length + 1) (v7 ++ [(R6.mk (rd l0 (Int.toNat v13)).a (rd l0 (Int.toNat v13)).b (IntKind.wrap IntKind.i64 ((rd l0 (Int.toNat v13)).c + (IntKind.wrap IntKind.i64 (1 - (IntKind.wrap IntKind.i64 (2 * (Int.tmod x2 2))))))) (rd l0 (Int.toNat v13)).d (rd l0 (Int.toNat v13)).e (IntKind.wrap IntKind.i64 ((rd l0 (Int.toNat v13)).f + (IntKind.wrap IntKind.i64 (1 - (IntKind.wrap IntKind.i64 (2 * (Int.tmod x2 2))))))))]).length) (pp (xL (v7.length + 1) (v7 ++ [(R6.mk (rd l0 (Int.toNat v13)).a (rd l0 (Int.toNat v13)).b (IntKind.wrap IntKind.i64 ((rd l0 (Int.toNat v13)).c + (IntKind.wrap IntKind.i64 (1 - (IntKind.wrap IntKind.i64 (2 * (Int.tmod x2 2))))))) (rd l0 (Int.toNat v13)).d (rd l0 (Int.toNat v13)).e (IntKind.wrap IntKind.i64 ((rd l0 (Int.toNat v13)).f + (IntKind.wrap IntKind.i64 (1 - (IntKind.wrap IntKind.i64 (2 * (Int.tmod x2 2))))))))]).length) (pp (xS (v7.length + 1) (appRow (rowsT v7) 0 v7.length 6 [(.int .i64 (rd l0 (Int.toNat v13)).a), (.int .i64 (rd l0 (Int.toNat v13)).b), (.int .i64 (IntKind.wrap IntKind.i64 ((rd l0 (Int.toNat v13)).c + (IntKind.wrap IntKind.i64 (1 - (IntKind.wrap IntKind.i64 (2 * (Int.tmod x2 2)))))))), (.int .i64 (rd l0 (Int.toNat v13)).d), (.int .i64 (rd l0 (Int.toNat v13)).e), (.int .i64 (IntKind.wrap IntKind.i64 ((rd l0 (Int.toNat v13)).f + (IntKind.wrap IntKind.i64 (1 - (IntKind.wrap IntKind.i64 (2 * (Int.tmod x2 2))))))))]) (rowsT (v7 ++ [(R6.mk (rd l0 (Int.toNat v13)).a (rd l0 (Int.toNat v13)).b (IntKind.wrap IntKind.i64 ((rd l0 (Int.toNat v13)).c + (IntKind.wrap IntKind.i64 (1 - (IntKind.wrap IntKind.i64 (2 * (Int.tmod x2 2))))))) (rd l0 (Int.toNat v13)).d (rd l0 (Int.toNat v13)).e (IntKind.wrap IntKind.i64 ((rd l0 (Int.toNat v13)).f + (IntKind.wrap IntKind.i64 (1 - (IntKind.wrap IntKind.i64 (2 * (Int.tmod x2 2))))))))]))) (pp (pp (xF (appRow (rowsT v7) 0 v7.length 6 [(.int .i64 (rd l0 (Int.toNat v13)).a), (.int .i64 (rd l0 (Int.toNat v13)).b), (.int .i64 (IntKind.wrap IntKind.i64 ((rd l0 (Int.toNat v13)).c + (IntKind.wrap IntKind.i64 (1 - (IntKind.wrap IntKind.i64 (2 * (Int.tmod x2 2)))))))), (.int .i64 (rd l0 (Int.toNat v13)).d), (.int .i64 (rd l0 (Int.toNat v13)).e), (.int .i64 (IntKind.wrap IntKind.i64 ((rd l0 (Int.toNat v13)).f + (IntKind.wrap IntKind.i64 (1 - (IntKind.wrap IntKind.i64 (2 * (Int.tmod x2 2))))))))])) nn) (ww o0 (ww k3 (ww k3 (ww o1_0 (tt k0 nn)))))))))))) (fun k3 => (lead_bif (fun k4 => trivial) (fun k4 => (lead_bif (fun k5 => trivial) (fun k5 => (lead_bif (fun k6 => trivial) (fun k6 => (lead_bif (fun k7 => trivial) (fun k7 => trivial)))))))))))))))) (fun k0 => (lead_goes (sl Ta_ok (C' := ⟨⟨30, 0, true⟩, (regP Tryz.prog 24 [1, 1, 1, 0] 2), (todoP Tryz.prog 24 [1, 1, 1, 0] 1), none, (resultsOf Tryz.prog 3), ⟨envL [(26, (.dat v7.length (rowsT v7))), (27, (.dat l1.length (rowsT l1)))], memL [] 0, 0, [], true⟩, [], .leaf⟩) 11 [] ⟨[], [0], [some [26, 27]], []⟩ ⟨[(26, .frz v7.length v7.length (rowsT v7) (rowsT v7))], [], []⟩ [false] (pp (xZ (frzS 6 6 0 v7.length v7.length (rowsT v7)) v7.length (rowsT v7)) (pp (xL v7.length v7.length) (pp (xS v7.length (rowsT v7) (rowsT v7)) (pp (fl v7 nn) (tt k0 nn)))))) (lead_owe fun o0 => (lead_owe fun o1 => (lr 30 3 [1, 1, 1, 1, 1, 1, 0] 1 3 [(6, (.int .i64 (volV (cvT (comV (cvT v7) (cvT l1))))))] (sl Ta_ok 4 [] ⟨[], [], [some [6]], []⟩ ⟨[], [], []⟩ [] (pp (pp (xI R6 (comV (cvT v7) (cvT l1)).length (rowsT (comV (cvT v7) (cvT l1)))) (xw o1)) (pp (pp (xr v7) (pp (xr l1) (xw o0))) nn)))))))))
theorem prsstart_ok (l0 : List R6) (l1 : List R6) (x2 : Int) : Lead Tryz.prog (resultsOf Tryz.prog 24) (prsC l0 l1 x2) (startC Tryz.prog 24 [(.dat l0.length (rowsT l0)), (.dat l1.length (rowsT l1)), (.int .i64 x2)] true []) (prsstart l0 l1 x2) := (sl Ta_ok 17 [(72, 6, rowsT ([] : List R6))] ⟨[0], [], [some [1, 2, 7, 11, 12, 13]], []⟩ ⟨[(7, .grow 0 6)], [], []⟩ [] (pp (fl ([] : List R6) nn) nn))
theorem prs_ends (l0 : List R6) (l1 : List R6) (x2 : Int) (n : Nat) (vs : List AVal) (h : goOn (prsstep l0 l1 x2) n (prsstart l0 l1 x2) = .ret vs) : Ends Tryz.prog (resultsOf Tryz.prog 24) (startC Tryz.prog 24 [(.dat l0.length (rowsT l0)), (.dat l1.length (rowsT l1)), (.int .i64 x2)] true []) vs := by
  have := goOn_lead (prsstep_ok l0 l1 x2) n _ (prsstart_ok l0 l1 x2)
  rwa [h] at this
end Go.Am
end
section
set_option linter.unusedVariables false
set_option linter.unusedSimpArgs false
namespace Go.Am
open Go.Proofs
set_option maxRecDepth 100000
set_option maxHeartbeats 4000000
set_option linter.unusedVariables false
set_option linter.unusedSimpArgs false
def stepW (d : Int) : Int := IntKind.wrap .i64 (1 - IntKind.wrap .i64 (2 * Int.tmod d 2))
def nextW (d : Int) (r : R6) : R6 :=
  bif decide (Int.tdiv d 2 = 0) then ⟨IntKind.wrap .i64 (r.a + stepW d), r.b, r.c, IntKind.wrap .i64 (r.d + stepW d), r.e, r.f⟩
  else bif decide (Int.tdiv d 2 = 1) then ⟨r.a, IntKind.wrap .i64 (r.b + stepW d), r.c, r.d, IntKind.wrap .i64 (r.e + stepW d), r.f⟩
  else ⟨r.a, r.b, IntKind.wrap .i64 (r.c + stepW d), r.d, r.e, IntKind.wrap .i64 (r.f + stepW d)⟩
def prV (X Y : List R6) (d : Int) : Int := volV (comV (X.map (nextW d)) Y)
def prV_owed (X Y : List R6) (d : Int) : Bool := decide (X.length ≤ 10000 ∧ Y.length ≤ 10000 ∧ 0 ≤ d ∧ d ≤ 5)
theorem prs_h0 (X Y : List R6) (d : Int) (hX : X.length ≤ 10000) (hY : Y.length ≤ 10000) (hd : 0 ≤ d ∧ d ≤ 5) : ∀ (k i : Nat) (out : List R6), i + k = X.length → out.length = i → ∃ N, goOn (prsstep X Y d) N (.to (.h0 out (i : Int))) = .ret [.int .i64 (volV (comV (out ++ (X.drop i).map (nextW d)) Y))]
  | 0, i, out, h, ho => by
    refine ⟨1, ?_⟩
    rw [goOn_to, List.drop_eq_nil_of_le (by omega), List.map_nil, List.append_nil]
    have h1 : comV_owed out Y = true := decide_eq_true (by omega)
    have hl := com_length out Y
    have hm : out.length * Y.length ≤ 10000 * 10000 := Nat.mul_le_mul (by omega) hY
    have h2 : volV_owed (comV out Y) = true := decide_eq_true (by omega)
    simp (disch := omega) only [prsstep, h1, h2, dgt_f, dgt_t, dlt_t, dlt_f, dle_t, nlt_t, nle_t, neq_t, din_t, wrap_t, room_t, decide_true, cast_succ, beq11, toNat_c, Nat.zero_add, Bool.and_true, Bool.true_and, cond_true, cond_false, Bool.not_true, Bool.not_false, goOn_ret, cvT_eq, lst_rows]
  | k + 1, i, out, h, ho => by
    have hi : i < X.length := by omega
    obtain ⟨N, hN⟩ := prs_h0 X Y d hX hY hd k (i + 1) (out ++ [nextW d (rd X i)]) (by omega) (by simp; omega)
    refine ⟨N + 1, ?_⟩
    rw [List.append_assoc] at hN
    rw [goOn_to, drop_rd hi, List.map_cons]
    have hroom : decide ((out.length + 1 + 1) * (48 + 1) ≤ room) = true := room_t (by omega)
    have c : d = 0 ∨ d = 1 ∨ d = 2 ∨ d = 3 ∨ d = 4 ∨ d = 5 := by omega
    have e : ∃ r, nextW d (rd X i) = r ∧ prsstep X Y d (.h0 out (i : Int)) = .to (.h0 (out ++ [r]) ((i + 1 : Nat) : Int)) := by
      refine ⟨_, rfl, ?_⟩
      rcases c with rfl | rfl | rfl | rfl | rfl | rfl <;>
      simp (disch := omega) only [prsstep, dlt_t, din_t, hroom, toNat_c, cast_succ, Nat.zero_add, decide_true, Bool.and_true, beq11, cond_true] <;> (try rw [wrap_t (n := ((i + 1 : Nat) : Int)) (by omega)]) <;> rfl
    obtain ⟨r, hr, e⟩ := e
    rw [e]
    rw [hr] at hN ⊢
    exact hN
theorem prs_run (X Y : List R6) (d : Int) (h : prV_owed X Y d = true) : ∃ N, goOn (prsstep X Y d) N (prsstart X Y d) = .ret [.int .i64 (prV X Y d)] := by
  obtain ⟨h1, h2, h3⟩ := of_decide_eq_true h
  exact prs_h0 X Y d h1 h2 h3 X.length 0 [] (Nat.zero_add _) rfl
def okB (r : R6) : Bool := decide (-2000000 ≤ r.a ∧ r.a ≤ 2000000 ∧ -2000000 ≤ r.b ∧ r.b ≤ 2000000 ∧ -2000000 ≤ r.c ∧ r.c ≤ 2000000 ∧ -2000000 ≤ r.d ∧ r.d ≤ 2000000 ∧ -2000000 ≤ r.e ∧ r.e ≤ 2000000 ∧ -2000000 ≤ r.f ∧ r.f ≤ 2000000)
theorem nextW_nx (d : Int) (hd : 0 ≤ d ∧ d ≤ 5) (r : R6) (h : okB r = true) : nextW d r = nx d r := by
  have h := of_decide_eq_true h
  have c : d = 0 ∨ d = 1 ∨ d = 2 ∨ d = 3 ∨ d = 4 ∨ d = 5 := by omega
  rcases c with rfl | rfl | rfl | rfl | rfl | rfl
  · show (⟨IntKind.wrap .i64 (r.a + 1), r.b, r.c, IntKind.wrap .i64 (r.d + 1), r.e, r.f⟩ : R6) = ⟨r.a + 1, r.b, r.c, r.d + 1, r.e, r.f⟩
    rw [wrap_t (by omega), wrap_t (by omega)]
  · show (⟨IntKind.wrap .i64 (r.a + -1), r.b, r.c, IntKind.wrap .i64 (r.d + -1), r.e, r.f⟩ : R6) = ⟨r.a + -1, r.b, r.c, r.d + -1, r.e, r.f⟩
    rw [wrap_t (by omega), wrap_t (by omega)]
  · show (⟨r.a, IntKind.wrap .i64 (r.b + 1), r.c, r.d, IntKind.wrap .i64 (r.e + 1), r.f⟩ : R6) = ⟨r.a, r.b + 1, r.c, r.d, r.e + 1, r.f⟩
    rw [wrap_t (by omega), wrap_t (by omega)]
  · show (⟨r.a, IntKind.wrap .i64 (r.b + -1), r.c, r.d, IntKind.wrap .i64 (r.e + -1), r.f⟩ : R6) = ⟨r.a, r.b + -1, r.c, r.d, r.e + -1, r.f⟩
    rw [wrap_t (by omega), wrap_t (by omega)]
  · show (⟨r.a, r.b, IntKind.wrap .i64 (r.c + 1), r.d, r.e, IntKind.wrap .i64 (r.f + 1)⟩ : R6) = ⟨r.a, r.b, r.c + 1, r.d, r.e, r.f + 1⟩
    rw [wrap_t (by omega), wrap_t (by omega)]
  · show (⟨r.a, r.b, IntKind.wrap .i64 (r.c + -1), r.d, r.e, IntKind.wrap .i64 (r.f + -1)⟩ : R6) = ⟨r.a, r.b, r.c + -1, r.d, r.e, r.f + -1⟩
    rw [wrap_t (by omega), wrap_t (by omega)]
theorem prV_cg (X Y : List R6) (d : Int) (hd : 0 ≤ d ∧ d ≤ 5) (hX : ∀ x ∈ X, okB x = true) : Cg (prV X Y d) (E2 d X Y) := by
  unfold prV
  rw [List.map_congr_left fun x hx => nextW_nx d hd x (hX x hx)]
  have := volV_cg (comV (X.map (nx d)) Y)
  rwa [com_bx, E2_map] at this
theorem okB_com (X Y : List R6) (hX : ∀ x ∈ X, okB x = true) (hY : ∀ x ∈ Y, okB x = true) : ∀ x ∈ comV X Y, okB x = true := fun b hb => by
  obtain ⟨x, hx, hb⟩ := List.mem_flatMap.1 hb
  obtain ⟨y, hy, hb⟩ := List.mem_filterMap.1 hb
  have h1 := of_decide_eq_true (hX x hx)
  have h2 := of_decide_eq_true (hY y hy)
  unfold meetV at hb
  cases hc : (decide (max x.a y.a < min x.d y.d) && (decide (max x.b y.b < min x.e y.e) && decide (max x.c y.c < min x.f y.f))) with
  | false => rw [hc] at hb; cases hb
  | true =>
    rw [hc, cond_true] at hb
    obtain rfl := Option.some.inj hb
    exact decide_eq_true (by simp only; omega)
noncomputable def fPrs : List AVal → Option (AVal × Bool)
  | [a0, a1, .int .i64 x2] => match asL R6 a0, asL R6 a1 with
    | some (L0, g0, n0), some (L1, g1, n1) => some (.int .i64 (prV L0 L1 x2), isT R6 n0 g0 && (isT R6 n1 g1 && (prV_owed L0 L1 x2)))
    | _, _ => none
  | _ => none
theorem fPrs_ok {S : Specs} (hS : SpecsOk Tryz.prog S) : SpecsOk Tryz.prog (S.with nPairs fPrs) := by
  refine fOne hS (by kernel_rfl) fun args v h => ?_
  unfold fPrs at h
  split at h
  · rename_i a0 a1 x2
    split at h
    · rename_i L0 g0 n0 L1 g1 n1 e0 e1
      simp only [Option.some.injEq, Prod.mk.injEq, Bool.and_eq_true] at h
      obtain ⟨rfl, ho0, ho1, hw⟩ := h
      obtain ⟨N, hN⟩ := prs_run L0 L1 x2 hw
      exact ⟨_, _, (.cons (asL_le e0 ho0) (.cons (asL_le e1 ho1) (.cons (.refl _) .nil))), rfl, prs_ends L0 L1 x2 N _ hN, 3, rfl⟩
    · cases h
  · cases h
noncomputable def Tb : Specs := (Ta.with nPairs fPrs)
theorem Tb_ok : SpecsOk Tryz.prog Tb := (fPrs_ok Ta_ok)
end Go.Am
end
section
set_option linter.unusedVariables false
set_option linter.unusedSimpArgs false
namespace Go.Am
open Go.Proofs
set_option maxRecDepth 1000000
set_option linter.unusedVariables false
set_option linter.unusedSimpArgs false
set_option maxHeartbeats 4000000
inductive conS where
noncomputable def conC (l0 : List R6) (l1 : List R6) : conS → Cfg
  := nofun
noncomputable def constep (l0 : List R6) (l1 : List R6) : conS → Out' conS
  := nofun
noncomputable def constart (l0 : List R6) (l1 : List R6) : Out' conS := (bif (comV_owed (cvT l0) (cvT l1)) then (bif (prV_owed (cvT l0) (cvT l1) 0) then (bif (prV_owed (cvT (comV (cvT l0) (cvT l1))) (cvT l1) 0) then (bif (prV_owed (cvT l0) (cvT (comV (cvT l0) (cvT l1))) 0) then (bif (prV_owed (cvT (comV (cvT l0) (cvT l1))) (cvT (comV (cvT l0) (cvT l1))) 0) then (bif (prV_owed (cvT l0) (cvT l1) 1) then (bif (prV_owed (cvT (comV (cvT l0) (cvT l1))) (cvT l1) 1) then (bif (prV_owed (cvT l0) (cvT (comV (cvT l0) (cvT l1))) 1) then (bif (prV_owed (cvT (comV (cvT l0) (cvT l1))) (cvT (comV (cvT l0) (cvT l1))) 1) then (bif (prV_owed (cvT l0) (cvT l1) 2) then (bif (prV_owed (cvT (comV (cvT l0) (cvT l1))) (cvT l1) 2) then (bif (prV_owed (cvT l0) (cvT (comV (cvT l0) (cvT l1))) 2) then (bif (prV_owed (cvT (comV (cvT l0) (cvT l1))) (cvT (comV (cvT l0) (cvT l1))) 2) then (bif (prV_owed (cvT l0) (cvT l1) 3) then (bif (prV_owed (cvT (comV (cvT l0) (cvT l1))) (cvT l1) 3) then (bif (prV_owed (cvT l0) (cvT (comV (cvT l0) (cvT l1))) 3) then (bif (prV_owed (cvT (comV (cvT l0) (cvT l1))) (cvT (comV (cvT l0) (cvT l1))) 3) then (bif (prV_owed (cvT l0) (cvT l1) 4) then (bif (prV_owed (cvT (comV (cvT l0) (cvT l1))) (cvT l1) 4) then (bif (prV_owed (cvT l0) (cvT (comV (cvT l0) (cvT l1))) 4) then (bif (prV_owed (cvT (comV (cvT l0) (cvT l1))) (cvT (comV (cvT l0) (cvT l1))) 4) then (bif (prV_owed (cvT l0) (cvT l1) 5) then (bif (prV_owed (cvT (comV (cvT l0) (cvT l1))) (cvT l1) 5) then (bif (prV_owed (cvT l0) (cvT (comV (cvT l0) (cvT l1))) 5) then (bif (prV_owed (cvT (comV (cvT l0) (cvT l1))) (cvT (comV (cvT l0) (cvT l1))) 5) then (.ret [(.int .i64 (IntKind.wrap IntKind.i64 ((IntKind.wrap IntKind.i64 ((IntKind.wrap IntKind.i64 ((IntKind.wrap IntKind.i64 ((IntKind.wrap IntKind.i64 ((IntKind.wrap IntKind.i64 (0 + (IntKind.wrap IntKind.i64 ((IntKind.wrap IntKind.i64 ((prV (cvT l0) (cvT l1) 0) - (prV (cvT (comV (cvT l0) (cvT l1))) (cvT l1) 0))) - (IntKind.wrap IntKind.i64 ((prV (cvT l0) (cvT (comV (cvT l0) (cvT l1))) 0) - (prV (cvT (comV (cvT l0) (cvT l1))) (cvT (comV (cvT l0) (cvT l1))) 0))))))) + (IntKind.wrap IntKind.i64 ((IntKind.wrap IntKind.i64 ((prV (cvT l0) (cvT l1) 1) - (prV (cvT (comV (cvT l0) (cvT l1))) (cvT l1) 1))) - (IntKind.wrap IntKind.i64 ((prV (cvT l0) (cvT (comV (cvT l0) (cvT l1))) 1) - (prV (cvT (comV (cvT l0) (cvT l1))) (cvT (comV (cvT l0) (cvT l1))) 1))))))) + (IntKind.wrap IntKind.i64 ((IntKind.wrap IntKind.i64 ((prV (cvT l0) (cvT l1) 2) - (prV (cvT (comV (cvT l0) (cvT l1))) (cvT l1) 2))) - (IntKind.wrap IntKind.i64 ((prV (cvT l0) (cvT (comV (cvT l0) (cvT l1))) 2) - (prV (cvT (comV (cvT l0) (cvT l1))) (cvT (comV (cvT l0) (cvT l1))) 2))))))) + (IntKind.wrap IntKind.i64 ((IntKind.wrap IntKind.i64 ((prV (cvT l0) (cvT l1) 3) - (prV (cvT (comV (cvT l0) (cvT l1))) (cvT l1) 3))) - (IntKind.wrap IntKind.i64 ((prV (cvT l0) (cvT (comV (cvT l0) (cvT l1))) 3) - (prV (cvT (comV (cvT l0) (cvT l1))) (cvT (comV (cvT l0) (cvT l1))) 3))))))) + (IntKind.wrap IntKind.i64 ((IntKind.wrap IntKind.i64 ((prV (cvT l0) (cvT l1) 4) - (prV (cvT (comV (cvT l0) (cvT l1))) (cvT l1) 4))) - (IntKind.wrap IntKind.i64 ((prV (cvT l0) (cvT (comV (cvT l0) (cvT l1))) 4) - (prV (cvT (comV (cvT l0) (cvT l1))) (cvT (comV (cvT l0) (cvT l1))) 4))))))) + (IntKind.wrap IntKind.i64 ((IntKind.wrap IntKind.i64 ((prV (cvT l0) (cvT l1) 5) - (prV (cvT (comV (cvT l0) (cvT l1))) (cvT l1) 5))) - (IntKind.wrap IntKind.i64 ((prV (cvT l0) (cvT (comV (cvT l0) (cvT l1))) 5) - (prV (cvT (comV (cvT l0) (cvT l1))) (cvT (comV (cvT l0) (cvT l1))) 5))))))))]) else .stuck) else .stuck) else .stuck) else .stuck) else .stuck) else .stuck) else .stuck) else .stuck) else .stuck) else .stuck) else .stuck) else .stuck) else .stuck) else .stuck) else .stuck) else .stuck) else .stuck) else .stuck) else .stuck) else .stuck) else .stuck) else .stuck) else .stuck) else .stuck) else .stuck)
theorem constep_ok (l0 : List R6) (l1 : List R6) : ∀ s, Lead Tryz.prog (resultsOf Tryz.prog 30) (conC l0 l1) (conC l0 l1 s) (constep l0 l1 s)
  := nofun
theorem constart_ok (l0 : List R6) (l1 : List R6) : Lead Tryz.prog (resultsOf Tryz.prog 30) (conC l0 l1) (startC Tryz.prog 30 [(.dat l0.length (rowsT l0)), (.dat l1.length (rowsT l1))] true []) (constart l0 l1) := (lead_owe fun o0 => (lead_owe fun o1 => (lead_owe fun o2 => (lead_owe fun o3 => (lead_owe fun o4 => (lead_owe fun o5 => (lead_owe fun o6 => (lead_owe fun o7 => (lead_owe fun o8 => (lead_owe fun o9 => (lead_owe fun o10 => (lead_owe fun o11 => (lead_owe fun o12 => (lead_owe fun o13 => (lead_owe fun o14 => (lead_owe fun o15 => (lead_owe fun o16 => (lead_owe fun o17 => (lead_owe fun o18 => (lead_owe fun o19 => (lead_owe fun o20 => (lead_owe fun o21 => (lead_owe fun o22 => (lead_owe fun o23 => (lead_owe fun o24 => (lr 37 3 [1, 1, 1, 1, 1, 1, 0] 1 4 [(4, (.int .i64 (IntKind.wrap IntKind.i64 ((IntKind.wrap IntKind.i64 ((IntKind.wrap IntKind.i64 ((IntKind.wrap IntKind.i64 ((IntKind.wrap IntKind.i64 ((IntKind.wrap IntKind.i64 (0 + (IntKind.wrap IntKind.i64 ((IntKind.wrap IntKind.i64 ((prV (cvT l0) (cvT l1) 0) - (prV (cvT (comV (cvT l0) (cvT l1))) (cvT l1) 0))) - (IntKind.wrap IntKind.i64 ((prV (cvT l0) (cvT (comV (cvT l0) (cvT l1))) 0) - (prV (cvT (comV (cvT l0) (cvT l1))) (cvT (comV (cvT l0) (cvT l1))) 0))))))) + (IntKind.wrap IntKind.i64 ((IntKind.wrap IntKind.i64 ((prV (cvT l0) (cvT l1) 1) - (prV (cvT (comV (cvT l0) (cvT l1))) (cvT l1) 1))) - (IntKind.wrap IntKind.i64 ((prV (cvT l0) (cvT (comV (cvT l0) (cvT l1))) 1) - (prV (cvT (comV (cvT l0) (cvT l1))) (cvT (comV (cvT l0) (cvT l1))) 1))))))) + (IntKind.wrap IntKind.i64 ((IntKind.wrap IntKind.i64 ((prV (cvT l0) (cvT l1) 2) - (prV (cvT (comV (cvT l0) (cvT l1))) (cvT l1) 2))) - (IntKind.wrap IntKind.i64 ((prV (cvT l0) (cvT (comV (cvT l0) (cvT l1))) 2) - (prV (cvT (comV (cvT l0) (cvT l1))) (cvT (comV (cvT l0) (cvT l1))) 2))))))) + (IntKind.wrap IntKind.i64 ((IntKind.wrap IntKind.i64 ((prV (cvT l0) (cvT l1) 3) - (prV (cvT (comV (cvT l0) (cvT l1))) (cvT l1) 3))) - (IntKind.wrap IntKind.i64 ((prV (cvT l0) (cvT (comV (cvT l0) (cvT l1))) 3) - (prV (cvT (comV (cvT l0) (cvT l1))) (cvT (comV (cvT l0) (cvT l1))) 3))))))) + (IntKind.wrap IntKind.i64 ((IntKind.wrap IntKind.i64 ((prV (cvT l0) (cvT l1) 4) - (prV (cvT (comV (cvT l0) (cvT l1))) (cvT l1) 4))) - (IntKind.wrap IntKind.i64 ((prV (cvT l0) (cvT (comV (cvT l0) (cvT l1))) 4) - (prV (cvT (comV (cvT l0) (cvT l1))) (cvT (comV (cvT l0) (cvT l1))) 4))))))) + (IntKind.wrap IntKind.i64 ((IntKind.wrap IntKind.i64 ((prV (cvT l0) (cvT l1) 5) - (prV (cvT (comV (cvT l0) (cvT l1))) (cvT l1) 5))) - (IntKind.wrap IntKind.i64 ((prV (cvT l0) (cvT (comV (cvT l0) (cvT l1))) 5) - (prV (cvT (comV (cvT l0) (cvT l1))) (cvT (comV (cvT l0) (cvT l1))) 5)))))))))] (sl Tb_ok 298 [] ⟨[], [], [some [4]], []⟩ ⟨[], [], []⟩ (trs 6 [false]) (pp (pp (xI R6 (comV (cvT l0) (cvT l1)).length (rowsT (comV (cvT l0) (cvT l1)))) (pp (xI R6 (comV (cvT l0) (cvT l1)).length (rowsT (comV (cvT l0) (cvT l1)))) (xw o24))) (pp (pp (xr l0) (pp (xI R6 (comV (cvT l0) (cvT l1)).length (rowsT (comV (cvT l0) (cvT l1)))) (xw o23))) (pp (pp (xI R6 (comV (cvT l0) (cvT l1)).length (rowsT (comV (cvT l0) (cvT l1)))) (pp (xr l1) (xw o22))) (pp (pp (xr l0) (pp (xr l1) (xw o21))) (pp (pp (xI R6 (comV (cvT l0) (cvT l1)).length (rowsT (comV (cvT l0) (cvT l1)))) (pp (xI R6 (comV (cvT l0) (cvT l1)).length (rowsT (comV (cvT l0) (cvT l1)))) (xw o20))) (pp (pp (xr l0) (pp (xI R6 (comV (cvT l0) (cvT l1)).length (rowsT (comV (cvT l0) (cvT l1)))) (xw o19))) (pp (pp (xI R6 (comV (cvT l0) (cvT l1)).length (rowsT (comV (cvT l0) (cvT l1)))) (pp (xr l1) (xw o18))) (pp (pp (xr l0) (pp (xr l1) (xw o17))) (pp (pp (xI R6 (comV (cvT l0) (cvT l1)).length (rowsT (comV (cvT l0) (cvT l1)))) (pp (xI R6 (comV (cvT l0) (cvT l1)).length (rowsT (comV (cvT l0) (cvT l1)))) (xw o16))) (pp (pp (xr l0) (pp (xI R6 (comV (cvT l0) (cvT l1)).length (rowsT (comV (cvT l0) (cvT l1)))) (xw o15))) (pp (pp (xI R6 (comV (cvT l0) (cvT l1)).length (rowsT (comV (cvT l0) (cvT l1)))) (pp (xr l1) (xw o14))) (pp (pp (xr l0) (pp (xr l1) (xw o13))) (pp (pp (xI R6 (comV (cvT l0) (cvT l1)).length (rowsT (comV (cvT l0) (cvT l1)))) (pp (xI R6 (comV (cvT l0) (cvT l1)).length (rowsT (comV (cvT l0) (cvT l1)))) (xw o12))) (pp (pp (xr l0) (pp (xI R6 (comV (cvT l0) (cvT l1)).length (rowsT (comV (cvT l0) (cvT l1)))) (xw o11))) (pp (pp (xI R6 (comV (cvT l0) (cvT l1)).length (rowsT (comV (cvT l0) (cvT l1)))) (pp (xr l1) (xw o10))) (pp (pp (xr l0) (pp (xr l1) (xw o9))) (pp (pp (xI R6 (comV (cvT l0) (cvT l1)).length (rowsT (comV (cvT l0) (cvT l1)))) (pp (xI R6 (comV (cvT l0) (cvT l1)).length (rowsT (comV (cvT l0) (cvT l1)))) (xw o8))) (pp (pp (xr l0) (pp (xI R6 (comV (cvT l0) (cvT l1)).length (rowsT (comV (cvT l0) (cvT l1)))) (xw o7))) (pp (pp (xI R6 (comV (cvT l0) (cvT l1)).length (rowsT (comV (cvT l0) (cvT l1)))) (pp (xr l1) (xw o6))) (pp (pp (xr l0) (pp (xr l1) (xw o5))) (pp (pp (xI R6 (comV (cvT l0) (cvT l1)).length (rowsT (comV (cvT l0) (cvT l1)))) (pp (xI R6 (comV (cvT l0) (cvT l1)).length (rowsT (comV (cvT l0) (cvT l1)))) (xw o4))) (pp (pp (xr l0) (pp (xI R6 (comV (cvT l0) (cvT l1)).length (rowsT (comV (cvT l0) (cvT l1)))) (xw o3))) (pp (pp (xI R6 (comV (cvT l0) (cvT l1)).length (rowsT (comV (cvT l0) (cvT l1)))) (pp (xr l1) (xw o2))) (pp (pp (xr l0) (pp (xr l1) (xw o1))) (pp (pp (xr l0) (pp (xr l1) (xw o0))) nn))))))))))))))))))))))))))))))))))))))))))))))))))))
theorem con_ends (l0 : List R6) (l1 : List R6) (n : Nat) (vs : List AVal) (h : goOn (constep l0 l1) n (constart l0 l1) = .ret vs) : Ends Tryz.prog (resultsOf Tryz.prog 30) (startC Tryz.prog 30 [(.dat l0.length (rowsT l0)), (.dat l1.length (rowsT l1))] true []) vs := by
  have := goOn_lead (constep_ok l0 l1) n _ (constart_ok l0 l1)
  rwa [h] at this
end Go.Am
end
section
set_option linter.unusedVariables false
set_option linter.unusedSimpArgs false
namespace Go.Am
open Go.Proofs
set_option maxRecDepth 100000
set_option maxHeartbeats 4000000
set_option linter.unusedVariables false
set_option linter.unusedSimpArgs false
def c1W (d : Int) (X Y B : List R6) : Int := IntKind.wrap .i64 (IntKind.wrap .i64 (prV X Y d - prV B Y d) - IntKind.wrap .i64 (prV X B d - prV B B d))
def conW (X Y B : List R6) : Int := IntKind.wrap .i64 (IntKind.wrap .i64 (IntKind.wrap .i64 (IntKind.wrap .i64 (IntKind.wrap .i64 (IntKind.wrap .i64 (0 + c1W 0 X Y B) + c1W 1 X Y B) + c1W 2 X Y B) + c1W 3 X Y B) + c1W 4 X Y B) + c1W 5 X Y B)
def conV (X Y : List R6) : Int := conW X Y (comV X Y)
def conV_owed (X Y : List R6) : Bool := decide (X.length ≤ 100 ∧ Y.length ≤ 100)
theorem con_run (X Y : List R6) (h : conV_owed X Y = true) : ∃ N, goOn (constep X Y) N (constart X Y) = .ret [.int .i64 (conV X Y)] := by
  obtain ⟨h1, h2⟩ := of_decide_eq_true h
  have hl := com_length X Y
  have hm : X.length * Y.length ≤ 100 * 100 := Nat.mul_le_mul h1 h2
  have p : ∀ (A B : List R6) (d : Int), A.length ≤ 10000 → B.length ≤ 10000 → 0 ≤ d ∧ d ≤ 5 → prV_owed A B d = true := fun A B d a b c => decide_eq_true ⟨a, b, c⟩
  have hc : comV_owed X Y = true := decide_eq_true (by omega)
  refine ⟨0, ?_⟩
  unfold constart
  simp (disch := omega) only [cvT_eq, hc, p, cond_true]
  rfl
theorem c1W_cg (d : Int) (hd : 0 ≤ d ∧ d ≤ 5) (X Y B : List R6) (hX : ∀ x ∈ X, okB x = true) (hB : ∀ x ∈ B, okB x = true) : Cg (c1W d X Y B) (c1 d X Y B) :=
  (Cg.sub ((prV_cg X Y d hd hX).sub (prV_cg B Y d hd hB)).w ((prV_cg X B d hd hX).sub (prV_cg B B d hd hB)).w).w
theorem conW_cg (X Y B : List R6) (hX : ∀ x ∈ X, okB x = true) (hB : ∀ x ∈ B, okB x = true) : Cg (conW X Y B) (con6 X Y B) := by
  have h := fun d hd => c1W_cg d hd X Y B hX hB
  unfold conW con6
  have := ((((((Cg.refl 0).add (h 0 (by omega))).w.add (h 1 (by omega))).w.add (h 2 (by omega))).w.add (h 3 (by omega))).w.add (h 4 (by omega))).w.add (h 5 (by omega))
  rw [show 0 + c1 0 X Y B = c1 0 X Y B from Int.zero_add _] at this
  exact this.w
theorem conV_cg (X Y : List R6) (hX : ∀ x ∈ X, okB x = true) (hY : ∀ x ∈ Y, okB x = true) : Cg (conV X Y) (con6 X Y (comV X Y)) := conW_cg X Y _ hX (okB_com X Y hX hY)
theorem conV_in (X Y : List R6) : -9223372036854775808 ≤ conV X Y ∧ conV X Y ≤ 9223372036854775807 := wrap_in _
theorem conV_comm (X Y : List R6) (hX : ∀ x ∈ X, okB x = true) (hY : ∀ x ∈ Y, okB x = true) : conV X Y = conV Y X := by
  have h := conV_cg X Y hX hY
  have k := conV_cg Y X hY hX
  rw [con6_turn] at h
  exact (h.trans k.symm).is (conV_in X Y) (conV_in Y X)
noncomputable def fCon : List AVal → Option (AVal × Bool)
  | [a0, a1] => match asL R6 a0, asL R6 a1 with
    | some (L0, g0, n0), some (L1, g1, n1) => some (.int .i64 (conV L0 L1), isT R6 n0 g0 && (isT R6 n1 g1 && (conV_owed L0 L1)))
    | _, _ => none
  | _ => none
theorem fCon_ok {S : Specs} (hS : SpecsOk Tryz.prog S) : SpecsOk Tryz.prog (S.with nCont fCon) := by
  refine fOne hS (by kernel_rfl) fun args v h => ?_
  unfold fCon at h
  split at h
  · rename_i a0 a1
    split at h
    · rename_i L0 g0 n0 L1 g1 n1 e0 e1
      simp only [Option.some.injEq, Prod.mk.injEq, Bool.and_eq_true] at h
      obtain ⟨rfl, ho0, ho1, hw⟩ := h
      obtain ⟨N, hN⟩ := con_run L0 L1 hw
      exact ⟨_, _, (.cons (asL_le e0 ho0) (.cons (asL_le e1 ho1) .nil)), rfl, con_ends L0 L1 N _ hN, 3, rfl⟩
    · cases h
  · cases h
noncomputable def Tc : Specs := (Tb.with nCont fCon)
theorem Tc_ok : SpecsOk Tryz.prog Tc := (fCon_ok Tb_ok)
end Go.Am
end
section
set_option linter.unusedVariables false
set_option linter.unusedSimpArgs false
namespace Go.Am
open Go.Proofs
set_option maxRecDepth 1000000
set_option linter.unusedVariables false
set_option linter.unusedSimpArgs false
set_option maxHeartbeats 4000000
inductive orlS where
noncomputable def orlC (l0 : List R6) (l1 : List R6) : orlS → Cfg
  := nofun
noncomputable def orlstep (l0 : List R6) (l1 : List R6) : orlS → Out' orlS
  := nofun
noncomputable def orlstart (l0 : List R6) (l1 : List R6) : Out' orlS := (bif (blkV_owed (cvT l0)) then (bif (blkV_owed (cvT l1)) then (bif (comV_owed (cvT (blkV (cvT l0))) (cvT (blkV (cvT l1)))) then (bif (volV_owed (cvT (comV (cvT (blkV (cvT l0))) (cvT (blkV (cvT l1)))))) then (bif (decide ((volV (cvT (comV (cvT (blkV (cvT l0))) (cvT (blkV (cvT l1)))))) > 0)) then (bif (volV_owed (cvT (blkV (cvT l0)))) then (bif ((volV (cvT (comV (cvT (blkV (cvT l0))) (cvT (blkV (cvT l1)))))) == (volV (cvT (blkV (cvT l0))))) then (bif (volV_owed (cvT (blkV (cvT l1)))) then (bif ((volV (cvT (comV (cvT (blkV (cvT l0))) (cvT (blkV (cvT l1)))))) == (volV (cvT (blkV (cvT l1))))) then (.ret [(.int .u8 6)]) else (.ret [(.int .u8 4)])) else .stuck) else (bif (volV_owed (cvT (blkV (cvT l1)))) then (bif ((volV (cvT (comV (cvT (blkV (cvT l0))) (cvT (blkV (cvT l1)))))) == (volV (cvT (blkV (cvT l1))))) then (.ret [(.int .u8 5)]) else (.ret [(.int .u8 3)])) else .stuck)) else .stuck) else (bif (conV_owed (cvT (blkV (cvT l0))) (cvT (blkV (cvT l1)))) then (bif (decide ((conV (cvT (blkV (cvT l0))) (cvT (blkV (cvT l1)))) > 0)) then (.ret [(.int .u8 2)]) else (.ret [(.int .u8 1)])) else .stuck)) else .stuck) else .stuck) else .stuck) else .stuck)
theorem orlstep_ok (l0 : List R6) (l1 : List R6) : ∀ s, Lead Tryz.prog (resultsOf Tryz.prog 31) (orlC l0 l1) (orlC l0 l1 s) (orlstep l0 l1 s)
  := nofun
theorem orlstart_ok (l0 : List R6) (l1 : List R6) : Lead Tryz.prog (resultsOf Tryz.prog 31) (orlC l0 l1) (startC Tryz.prog 31 [(.dat l0.length (rowsT l0)), (.dat l1.length (rowsT l1))] true []) (orlstart l0 l1) := (lead_owe fun o0_0 => (lead_owe fun o0_1 => (lead_owe fun o0_2 => (lead_owe fun o0_3 => (lead_bif (fun k0 => (lead_owe fun o1_0 => (lead_bif (fun k1 => (lead_owe fun o2_0 => (lead_bif (fun k2 => (lr 57 31 [1, 1, 1, 0, 0, 1, 0, 0] 1 4 [(4, (.int .u8 6))] (sl Tc_ok 46 [] ⟨[], [], [some [4]], []⟩ ⟨[], [], []⟩ (trs 9 []) (tt k2 (pp (pp (xI R6 (blkV (cvT l1)).length (rowsT (blkV (cvT l1)))) (xw o2_0)) (tt k1 (pp (pp (xI R6 (blkV (cvT l0)).length (rowsT (blkV (cvT l0)))) (xw o1_0)) (tt k0 (pp (pp (xI R6 (comV (cvT (blkV (cvT l0))) (cvT (blkV (cvT l1)))).length (rowsT (comV (cvT (blkV (cvT l0))) (cvT (blkV (cvT l1)))))) (xw o0_3)) (pp (pp (xI R6 (blkV (cvT l0)).length (rowsT (blkV (cvT l0)))) (pp (xI R6 (blkV (cvT l1)).length (rowsT (blkV (cvT l1)))) (xw o0_2))) (pp (pp (xr l1) (xw o0_1)) (pp (pp (xr l0) (xw o0_0)) nn)))))))))))) (fun k2 => (lr 57 31 [1, 1, 1, 0, 0, 1, 0, 0] 1 4 [(4, (.int .u8 4))] (sl Tc_ok 59 [] ⟨[], [], [some [4]], []⟩ ⟨[], [], []⟩ (trs 8 [false, true, true, true, true, true]) (tt k1 (pp (pp (xI R6 (blkV (cvT l0)).length (rowsT (blkV (cvT l0)))) (xw o1_0)) (tt k0 (tt k2 (pp (pp (xI R6 (blkV (cvT l1)).length (rowsT (blkV (cvT l1)))) (xw o2_0)) (tt k1 (pp (pp (xI R6 (blkV (cvT l0)).length (rowsT (blkV (cvT l0)))) (xw o1_0)) (tt k0 (pp (pp (xI R6 (comV (cvT (blkV (cvT l0))) (cvT (blkV (cvT l1)))).length (rowsT (comV (cvT (blkV (cvT l0))) (cvT (blkV (cvT l1)))))) (xw o0_3)) (pp (pp (xI R6 (blkV (cvT l0)).length (rowsT (blkV (cvT l0)))) (pp (xI R6 (blkV (cvT l1)).length (rowsT (blkV (cvT l1)))) (xw o0_2))) (pp (pp (xr l1) (xw o0_1)) (pp (pp (xr l0) (xw o0_0)) nn)))))))))))))))))) (fun k1 => (lead_owe fun o2_0 => (lead_bif (fun k2 => (lr 57 31 [1, 1, 1, 0, 0, 1, 0, 0] 1 4 [(4, (.int .u8 5))] (sl Tc_ok 72 [] ⟨[], [], [some [4]], []⟩ ⟨[], [], []⟩ (trs 4 [false, false, false, false, false, true, true, true, true, false, true, true, true, true, true]) (tt k2 (pp (pp (xI R6 (blkV (cvT l1)).length (rowsT (blkV (cvT l1)))) (xw o2_0)) (tt k0 (tt k1 (pp (pp (xI R6 (blkV (cvT l0)).length (rowsT (blkV (cvT l0)))) (xw o1_0)) (tt k0 (tt k1 (pp (pp (xI R6 (blkV (cvT l0)).length (rowsT (blkV (cvT l0)))) (xw o1_0)) (tt k0 (pp (pp (xI R6 (comV (cvT (blkV (cvT l0))) (cvT (blkV (cvT l1)))).length (rowsT (comV (cvT (blkV (cvT l0))) (cvT (blkV (cvT l1)))))) (xw o0_3)) (pp (pp (xI R6 (blkV (cvT l0)).length (rowsT (blkV (cvT l0)))) (pp (xI R6 (blkV (cvT l1)).length (rowsT (blkV (cvT l1)))) (xw o0_2))) (pp (pp (xr l1) (xw o0_1)) (pp (pp (xr l0) (xw o0_0)) nn)))))))))))))))) (fun k2 => (lr 57 31 [1, 1, 1, 0, 0, 1, 0, 0] 1 4 [(4, (.int .u8 3))] (sl Tc_ok 79 [] ⟨[], [], [some [4]], []⟩ ⟨[], [], []⟩ (trs 4 [false, false, false, false, false, true, true, true, true, false, true, true, true, true, false, true]) (tt k0 (tt k2 (pp (pp (xI R6 (blkV (cvT l1)).length (rowsT (blkV (cvT l1)))) (xw o2_0)) (tt k0 (tt k1 (pp (pp (xI R6 (blkV (cvT l0)).length (rowsT (blkV (cvT l0)))) (xw o1_0)) (tt k0 (tt k1 (pp (pp (xI R6 (blkV (cvT l0)).length (rowsT (blkV (cvT l0)))) (xw o1_0)) (tt k0 (pp (pp (xI R6 (comV (cvT (blkV (cvT l0))) (cvT (blkV (cvT l1)))).length (rowsT (comV (cvT (blkV (cvT l0))) (cvT (blkV (cvT l1)))))) (xw o0_3)) (pp (pp (xI R6 (blkV (cvT l0)).length (rowsT (blkV (cvT l0)))) (pp (xI R6 (blkV (cvT l1)).length (rowsT (blkV (cvT l1)))) (xw o0_2))) (pp (pp (xr l1) (xw o0_1)) (pp (pp (xr l0) (xw o0_0)) nn))))))))))))))))))))))) (fun k0 => (lead_owe fun o1_0 => (lead_bif (fun k1 => (lr 57 31 [1, 1, 1, 0, 0, 1, 0, 0] 1 4 [(4, (.int .u8 2))] (sl Tc_ok 88 [] ⟨[], [], [some [4]], []⟩ ⟨[], [], []⟩ [false, false, false, false, false, false, false, false, false, false, false, false, false, false, false, false, false, false, false, false, true] (tt k1 (pp (pp (xI R6 (blkV (cvT l0)).length (rowsT (blkV (cvT l0)))) (pp (xI R6 (blkV (cvT l1)).length (rowsT (blkV (cvT l1)))) (xw o1_0))) (tt k0 (tt k0 (tt k0 (tt k0 (pp (pp (xI R6 (comV (cvT (blkV (cvT l0))) (cvT (blkV (cvT l1)))).length (rowsT (comV (cvT (blkV (cvT l0))) (cvT (blkV (cvT l1)))))) (xw o0_3)) (pp (pp (xI R6 (blkV (cvT l0)).length (rowsT (blkV (cvT l0)))) (pp (xI R6 (blkV (cvT l1)).length (rowsT (blkV (cvT l1)))) (xw o0_2))) (pp (pp (xr l1) (xw o0_1)) (pp (pp (xr l0) (xw o0_0)) nn))))))))))))) (fun k1 => (lr 57 3 [1, 1, 1, 1, 1, 1, 0] 1 4 [(4, (.int .u8 1))] (sl Tc_ok 90 [] ⟨[], [], [some [4]], []⟩ ⟨[], [], []⟩ [false, false, false, false, false, false, false, false, false, false, false, false, false, false, false, false, false, false, false, false, false] (tt k1 (pp (pp (xI R6 (blkV (cvT l0)).length (rowsT (blkV (cvT l0)))) (pp (xI R6 (blkV (cvT l1)).length (rowsT (blkV (cvT l1)))) (xw o1_0))) (tt k0 (tt k0 (tt k0 (tt k0 (pp (pp (xI R6 (comV (cvT (blkV (cvT l0))) (cvT (blkV (cvT l1)))).length (rowsT (comV (cvT (blkV (cvT l0))) (cvT (blkV (cvT l1)))))) (xw o0_3)) (pp (pp (xI R6 (blkV (cvT l0)).length (rowsT (blkV (cvT l0)))) (pp (xI R6 (blkV (cvT l1)).length (rowsT (blkV (cvT l1)))) (xw o0_2))) (pp (pp (xr l1) (xw o0_1)) (pp (pp (xr l0) (xw o0_0)) nn)))))))))))))))))))))
theorem orl_ends (l0 : List R6) (l1 : List R6) (n : Nat) (vs : List AVal) (h : goOn (orlstep l0 l1) n (orlstart l0 l1) = .ret vs) : Ends Tryz.prog (resultsOf Tryz.prog 31) (startC Tryz.prog 31 [(.dat l0.length (rowsT l0)), (.dat l1.length (rowsT l1))] true []) vs := by
  have := goOn_lead (orlstep_ok l0 l1) n _ (orlstart_ok l0 l1)
  rwa [h] at this
end Go.Am
end
section
set_option linter.unusedVariables false
set_option linter.unusedSimpArgs false
namespace Go.Am
open Go.Proofs
set_option maxRecDepth 100000
set_option maxHeartbeats 4000000
set_option linter.unusedVariables false
set_option linter.unusedSimpArgs false
def relN (n v u c : Int) : Int := bif decide (n > 0) then (bif n == v then (bif n == u then 6 else 4) else (bif n == u then 5 else 3)) else (bif decide (c > 0) then 2 else 1)
def orlV (X Y : List R6) : Int := relN (volV (comV X Y)) (volV X) (volV Y) (conV X Y)
def orlV_owed (X Y : List R6) : Bool := decide (X.length ≤ 100 ∧ Y.length ≤ 100)
theorem orl_run (X Y : List R6) (h : orlV_owed X Y = true) : ∃ N, goOn (orlstep X Y) N (orlstart X Y) = .ret [.int .u8 (orlV X Y)] := by
  obtain ⟨h1, h2⟩ := of_decide_eq_true h
  have hl := com_length X Y
  have hm : X.length * Y.length ≤ 100 * 100 := Nat.mul_le_mul h1 h2
  have hc : comV_owed X Y = true := decide_eq_true (by omega)
  have hk : conV_owed X Y = true := decide_eq_true (by omega)
  have b1 : blkV_owed X = true := decide_eq_true (by omega)
  have b2 : blkV_owed Y = true := decide_eq_true (by omega)
  have v1 : volV_owed X = true := decide_eq_true (by omega)
  have v2 : volV_owed Y = true := decide_eq_true (by omega)
  have v3 : volV_owed (comV X Y) = true := decide_eq_true (by omega)
  refine ⟨0, ?_⟩
  unfold orlstart orlV relN
  simp only [cvT_eq, blkV, hc, hk, b1, b2, v1, v2, v3, cond_true]
  rcases boolc (decide (volV (comV X Y) > 0)) with q1 | q1
  · rcases boolc (volV (comV X Y) == volV X) with q2 | q2 <;> rcases boolc (volV (comV X Y) == volV Y) with q3 | q3 <;> simp only [q1, q2, q3, cond_true, cond_false] <;> rfl
  · rcases boolc (decide (conV X Y > 0)) with q2 | q2 <;> simp only [q1, q2, cond_true, cond_false] <;> rfl
noncomputable def fOrl : List AVal → Option (AVal × Bool)
  | [a0, a1] => match asL R6 a0, asL R6 a1 with
    | some (L0, g0, n0), some (L1, g1, n1) => some (.int .u8 (orlV L0 L1), isT R6 n0 g0 && (isT R6 n1 g1 && (orlV_owed L0 L1)))
    | _, _ => none
  | _ => none
theorem fOrl_ok {S : Specs} (hS : SpecsOk Tryz.prog S) : SpecsOk Tryz.prog (S.with nRel fOrl) := by
  refine fOne hS (by kernel_rfl) fun args v h => ?_
  unfold fOrl at h
  split at h
  · rename_i a0 a1
    split at h
    · rename_i L0 g0 n0 L1 g1 n1 e0 e1
      simp only [Option.some.injEq, Prod.mk.injEq, Bool.and_eq_true] at h
      obtain ⟨rfl, ho0, ho1, hw⟩ := h
      obtain ⟨N, hN⟩ := orl_run L0 L1 hw
      exact ⟨_, _, (.cons (asL_le e0 ho0) (.cons (asL_le e1 ho1) .nil)), rfl, orl_ends L0 L1 N _ hN, 3, rfl⟩
    · cases h
  · cases h
def sckV_0_owed (l : List R6) : Bool := true
def rckV_0_owed (l : List R6) : Bool := true
noncomputable def Td : Specs := (Tc.with nRel fOrl)
theorem Td_ok : SpecsOk Tryz.prog Td := (fOrl_ok Tc_ok)
end Go.Am
end
section
set_option linter.unusedVariables false
set_option linter.unusedSimpArgs false
namespace Go.Am
open Go.Proofs
set_option maxRecDepth 1000000
set_option linter.unusedVariables false
set_option linter.unusedSimpArgs false
set_option maxHeartbeats 4000000
inductive ocoS where
noncomputable def ocoC (l0 : List R6) (l1 : List R6) : ocoS → Cfg
  := nofun
noncomputable def ocostep (l0 : List R6) (l1 : List R6) : ocoS → Out' ocoS
  := nofun
noncomputable def ocostart (l0 : List R6) (l1 : List R6) : Out' ocoS := (bif (sckV_0_owed (cvT l0)) then (bif ((sckV_0 (cvT l0)) != 0) then (.ret [(.int .i64 0), (.int .i64 (sckV_0 (cvT l0)))]) else (bif (sckV_0_owed (cvT l1)) then (bif ((sckV_0 (cvT l1)) != 0) then (.ret [(.int .i64 0), (.int .i64 (sckV_0 (cvT l1)))]) else (bif (blkV_owed (cvT l0)) then (bif (blkV_owed (cvT l1)) then (bif (conV_owed (cvT (blkV (cvT l0))) (cvT (blkV (cvT l1)))) then (.ret [(.int .i64 (conV (cvT (blkV (cvT l0))) (cvT (blkV (cvT l1))))), (.int .i64 0)]) else .stuck) else .stuck) else .stuck)) else .stuck)) else .stuck)
theorem ocostep_ok (l0 : List R6) (l1 : List R6) : ∀ s, Lead Tryz.prog (resultsOf Tryz.prog 13) (ocoC l0 l1) (ocoC l0 l1 s) (ocostep l0 l1 s)
  := nofun
theorem ocostart_ok (l0 : List R6) (l1 : List R6) : Lead Tryz.prog (resultsOf Tryz.prog 13) (ocoC l0 l1) (startC Tryz.prog 13 [(.dat l0.length (rowsT l0)), (.dat l1.length (rowsT l1))] true []) (ocostart l0 l1) := (lead_owe fun o0_0 => (lead_bif (fun k0 => (lr 19 13 [1, 0, 1, 1, 0, 0] 1 9 [(4, (.int .i64 0)), (5, (.int .i64 (sckV_0 (cvT l0))))] (sl Td_ok 72 [] ⟨[], [], [some [4, 5]], []⟩ ⟨[], [], []⟩ (trs 3 []) (tt k0 (tt k0 (pp (pp (xr l0) (xw o0_0)) nn)))))) (fun k0 => (lead_owe fun o1_0 => (lead_bif (fun k1 => (lr 19 13 [1, 0, 1, 1, 0, 0] 1 9 [(4, (.int .i64 0)), (5, (.int .i64 (sckV_0 (cvT l1))))] (sl Td_ok 106 [] ⟨[], [], [some [4, 5]], []⟩ ⟨[], [], []⟩ [true, false, true, true, true] (tt k1 (tt k1 (pp (pp (xr l1) (xw o1_0)) (tt k0 (pp (pp (xr l0) (xw o0_0)) nn)))))))) (fun k1 => (lead_owe fun o0 => (lead_owe fun o1 => (lead_owe fun o2 => (lr 19 3 [1, 1, 1, 1, 1, 1, 0] 1 9 [(4, (.int .i64 (conV (cvT (blkV (cvT l0))) (cvT (blkV (cvT l1)))))), (5, (.int .i64 0))] (sl Td_ok 124 [] ⟨[], [], [some [4, 5]], []⟩ ⟨[], [], []⟩ [true, false, true, false, false, false] (pp (pp (xI R6 (blkV (cvT l0)).length (rowsT (blkV (cvT l0)))) (pp (xI R6 (blkV (cvT l1)).length (rowsT (blkV (cvT l1)))) (xw o2))) (pp (pp (xr l1) (xw o1)) (pp (pp (xr l0) (xw o0)) (tt k1 (pp (pp (xr l1) (xw o1_0)) (tt k0 (pp (pp (xr l0) (xw o0_0)) nn))))))))))))))))))
theorem oco_ends (l0 : List R6) (l1 : List R6) (n : Nat) (vs : List AVal) (h : goOn (ocostep l0 l1) n (ocostart l0 l1) = .ret vs) : Ends Tryz.prog (resultsOf Tryz.prog 13) (startC Tryz.prog 13 [(.dat l0.length (rowsT l0)), (.dat l1.length (rowsT l1))] true []) vs := by
  have := goOn_lead (ocostep_ok l0 l1) n _ (ocostart_ok l0 l1)
  rwa [h] at this
inductive oreS where
noncomputable def oreC (l0 : List R6) (l1 : List R6) : oreS → Cfg
  := nofun
noncomputable def orestep (l0 : List R6) (l1 : List R6) : oreS → Out' oreS
  := nofun
noncomputable def orestart (l0 : List R6) (l1 : List R6) : Out' oreS := (bif (sckV_0_owed (cvT l0)) then (bif ((sckV_0 (cvT l0)) != 0) then (.ret [(.int .u8 0), (.int .i64 (sckV_0 (cvT l0)))]) else (bif (sckV_0_owed (cvT l1)) then (bif ((sckV_0 (cvT l1)) != 0) then (.ret [(.int .u8 0), (.int .i64 (sckV_0 (cvT l1)))]) else (bif (orlV_owed (cvT l0) (cvT l1)) then (.ret [(.int .u8 (orlV (cvT l0) (cvT l1))), (.int .i64 0)]) else .stuck)) else .stuck)) else .stuck)
theorem orestep_ok (l0 : List R6) (l1 : List R6) : ∀ s, Lead Tryz.prog (resultsOf Tryz.prog 15) (oreC l0 l1) (oreC l0 l1 s) (orestep l0 l1 s)
  := nofun
theorem orestart_ok (l0 : List R6) (l1 : List R6) : Lead Tryz.prog (resultsOf Tryz.prog 15) (oreC l0 l1) (startC Tryz.prog 15 [(.dat l0.length (rowsT l0)), (.dat l1.length (rowsT l1))] true []) (orestart l0 l1) := (lead_owe fun o0_0 => (lead_bif (fun k0 => (lr 17 15 [1, 0, 1, 1, 0, 0] 1 9 [(4, (.int .u8 0)), (5, (.int .i64 (sckV_0 (cvT l0))))] (sl Td_ok 72 [] ⟨[], [], [some [4, 5]], []⟩ ⟨[], [], []⟩ (trs 3 []) (tt k0 (tt k0 (pp (pp (xr l0) (xw o0_0)) nn)))))) (fun k0 => (lead_owe fun o1_0 => (lead_bif (fun k1 => (lr 17 15 [1, 0, 1, 1, 0, 0] 1 9 [(4, (.int .u8 0)), (5, (.int .i64 (sckV_0 (cvT l1))))] (sl Td_ok 106 [] ⟨[], [], [some [4, 5]], []⟩ ⟨[], [], []⟩ [true, false, true, true, true] (tt k1 (tt k1 (pp (pp (xr l1) (xw o1_0)) (tt k0 (pp (pp (xr l0) (xw o0_0)) nn)))))))) (fun k1 => (lead_owe fun o0 => (lr 17 3 [1, 1, 1, 1, 1, 1, 0] 1 9 [(4, (.int .u8 (orlV (cvT l0) (cvT l1)))), (5, (.int .i64 0))] (sl Td_ok 122 [] ⟨[], [], [some [4, 5]], []⟩ ⟨[], [], []⟩ [true, false, true, false, false, false] (pp (pp (xr l0) (pp (xr l1) (xw o0))) (tt k1 (pp (pp (xr l1) (xw o1_0)) (tt k0 (pp (pp (xr l0) (xw o0_0)) nn))))))))))))))
theorem ore_ends (l0 : List R6) (l1 : List R6) (n : Nat) (vs : List AVal) (h : goOn (orestep l0 l1) n (orestart l0 l1) = .ret vs) : Ends Tryz.prog (resultsOf Tryz.prog 15) (startC Tryz.prog 15 [(.dat l0.length (rowsT l0)), (.dat l1.length (rowsT l1))] true []) vs := by
  have := goOn_lead (orestep_ok l0 l1) n _ (orestart_ok l0 l1)
  rwa [h] at this
inductive osiS where
noncomputable def osiC (l0 : List R6) (x1 : Int) : osiS → Cfg
  := nofun
noncomputable def osistep (l0 : List R6) (x1 : Int) : osiS → Out' osiS
  := nofun
noncomputable def osistart (l0 : List R6) (x1 : Int) : Out' osiS := (bif (sckV_0_owed (cvT l0)) then (bif ((sckV_0 (cvT l0)) != 0) then (.ret [(.int .i64 0), (.int .i64 (sckV_0 (cvT l0)))]) else (bif (decide (x1 < 0)) then (.ret [(.int .i64 0), (.int .i64 2)]) else (bif (decide (x1 > 5)) then (.ret [(.int .i64 0), (.int .i64 2)]) else (bif (blkV_owed (cvT l0)) then (bif (volV_owed (cvT (blkV (cvT l0)))) then (bif (prV_owed (cvT (blkV (cvT l0))) (cvT (blkV (cvT l0))) x1) then (.ret [(.int .i64 (IntKind.wrap IntKind.i64 ((volV (cvT (blkV (cvT l0)))) - (prV (cvT (blkV (cvT l0))) (cvT (blkV (cvT l0))) x1)))), (.int .i64 0)]) else .stuck) else .stuck) else .stuck)))) else .stuck)
theorem osistep_ok (l0 : List R6) (x1 : Int) : ∀ s, Lead Tryz.prog (resultsOf Tryz.prog 9) (osiC l0 x1) (osiC l0 x1 s) (osistep l0 x1 s)
  := nofun
theorem osistart_ok (l0 : List R6) (x1 : Int) : Lead Tryz.prog (resultsOf Tryz.prog 9) (osiC l0 x1) (startC Tryz.prog 9 [(.dat l0.length (rowsT l0)), (.int .i64 x1)] true []) (osistart l0 x1) := (lead_owe fun o0_0 => (lead_bif (fun k0 => (lr 29 9 [1, 0, 1, 1, 0, 0] 1 9 [(4, (.int .i64 0)), (5, (.int .i64 (sckV_0 (cvT l0))))] (sl Td_ok 71 [] ⟨[], [], [some [4, 5]], []⟩ ⟨[], [], []⟩ (trs 3 []) (tt k0 (tt k0 (pp (pp (xr l0) (xw o0_0)) nn)))))) (fun k0 => (lead_bif (fun k1 => (lr 29 9 [1, 1, 0, 1, 0, 0] 1 9 [(4, (.int .i64 0)), (5, (.int .i64 2))] (sl Td_ok 95 [] ⟨[], [], [some [4, 5]], []⟩ ⟨[], [], []⟩ [true, false, false, false, true, true, true] (tt k1 (tt k0 (pp (pp (xr l0) (xw o0_0)) nn)))))) (fun k1 => (lead_bif (fun k2 => (lr 29 9 [1, 1, 0, 1, 0, 0] 1 9 [(4, (.int .i64 0)), (5, (.int .i64 2))] (sl Td_ok 95 [] ⟨[], [], [some [4, 5]], []⟩ ⟨[], [], []⟩ [true, false, false, false, false, false, true] (tt k2 (tt k1 (tt k0 (pp (pp (xr l0) (xw o0_0)) nn))))))) (fun k2 => (lead_owe fun o0 => (lead_owe fun o1 => (lead_owe fun o2 => (lr 29 3 [1, 1, 1, 1, 1, 1, 0] 1 9 [(4, (.int .i64 (IntKind.wrap IntKind.i64 ((volV (cvT (blkV (cvT l0)))) - (prV (cvT (blkV (cvT l0))) (cvT (blkV (cvT l0))) x1))))), (5, (.int .i64 0))] (sl Td_ok 109 [] ⟨[], [], [some [4, 5]], []⟩ ⟨[], [], []⟩ [true, false, false, false, false, false, false] (pp (pp (xI R6 (blkV (cvT l0)).length (rowsT (blkV (cvT l0)))) (pp (xI R6 (blkV (cvT l0)).length (rowsT (blkV (cvT l0)))) (xw o2))) (pp (pp (xI R6 (blkV (cvT l0)).length (rowsT (blkV (cvT l0)))) (xw o1)) (pp (pp (xr l0) (xw o0)) (tt k2 (tt k1 (tt k0 (pp (pp (xr l0) (xw o0_0)) nn)))))))))))))))))))
theorem osi_ends (l0 : List R6) (x1 : Int) (n : Nat) (vs : List AVal) (h : goOn (osistep l0 x1) n (osistart l0 x1) = .ret vs) : Ends Tryz.prog (resultsOf Tryz.prog 9) (startC Tryz.prog 9 [(.dat l0.length (rowsT l0)), (.int .i64 x1)] true []) vs := by
  have := goOn_lead (osistep_ok l0 x1) n _ (osistart_ok l0 x1)
  rwa [h] at this
inductive ocvS where
noncomputable def ocvC (l0 : List R6) (l1 : List R6) (x2 : Int) : ocvS → Cfg
  := nofun
noncomputable def ocvstep (l0 : List R6) (l1 : List R6) (x2 : Int) : ocvS → Out' ocvS
  := nofun
noncomputable def ocvstart (l0 : List R6) (l1 : List R6) (x2 : Int) : Out' ocvS := (bif (sckV_0_owed (cvT l0)) then (bif ((sckV_0 (cvT l0)) != 0) then (.ret [(.int .i64 0), (.int .i64 (sckV_0 (cvT l0)))]) else (bif (sckV_0_owed (cvT l1)) then (bif ((sckV_0 (cvT l1)) != 0) then (.ret [(.int .i64 0), (.int .i64 (sckV_0 (cvT l1)))]) else (bif (decide (x2 < 0)) then (.ret [(.int .i64 0), (.int .i64 2)]) else (bif (decide (x2 > 5)) then (.ret [(.int .i64 0), (.int .i64 2)]) else (bif (blkV_owed (cvT l0)) then (bif (blkV_owed (cvT l1)) then (bif (prV_owed (cvT (blkV (cvT l0))) (cvT (blkV (cvT l1))) x2) then (bif (comV_owed (cvT (blkV (cvT l0))) (cvT (blkV (cvT l1)))) then (bif (prV_owed (cvT (blkV (cvT l0))) (cvT (comV (cvT (blkV (cvT l0))) (cvT (blkV (cvT l1))))) x2) then (.ret [(.int .i64 (IntKind.wrap IntKind.i64 ((prV (cvT (blkV (cvT l0))) (cvT (blkV (cvT l1))) x2) - (prV (cvT (blkV (cvT l0))) (cvT (comV (cvT (blkV (cvT l0))) (cvT (blkV (cvT l1))))) x2)))), (.int .i64 0)]) else .stuck) else .stuck) else .stuck) else .stuck) else .stuck)))) else .stuck)) else .stuck)
theorem ocvstep_ok (l0 : List R6) (l1 : List R6) (x2 : Int) : ∀ s, Lead Tryz.prog (resultsOf Tryz.prog 11) (ocvC l0 l1 x2) (ocvC l0 l1 x2 s) (ocvstep l0 l1 x2 s)
  := nofun
theorem ocvstart_ok (l0 : List R6) (l1 : List R6) (x2 : Int) : Lead Tryz.prog (resultsOf Tryz.prog 11) (ocvC l0 l1 x2) (startC Tryz.prog 11 [(.dat l0.length (rowsT l0)), (.dat l1.length (rowsT l1)), (.int .i64 x2)] true []) (ocvstart l0 l1 x2) := (lead_owe fun o0_0 => (lead_bif (fun k0 => (lr 39 11 [1, 0, 1, 1, 0, 0] 1 11 [(6, (.int .i64 0)), (7, (.int .i64 (sckV_0 (cvT l0))))] (sl Td_ok 72 [] ⟨[], [], [some [6, 7]], []⟩ ⟨[], [], []⟩ (trs 3 []) (tt k0 (tt k0 (pp (pp (xr l0) (xw o0_0)) nn)))))) (fun k0 => (lead_owe fun o1_0 => (lead_bif (fun k1 => (lr 39 11 [1, 0, 1, 1, 0, 0] 1 11 [(6, (.int .i64 0)), (7, (.int .i64 (sckV_0 (cvT l1))))] (sl Td_ok 106 [] ⟨[], [], [some [6, 7]], []⟩ ⟨[], [], []⟩ [true, false, true, true, true] (tt k1 (tt k1 (pp (pp (xr l1) (xw o1_0)) (tt k0 (pp (pp (xr l0) (xw o0_0)) nn)))))))) (fun k1 => (lead_bif (fun k2 => (lr 39 11 [1, 1, 0, 1, 0, 0] 1 11 [(6, (.int .i64 0)), (7, (.int .i64 2))] (sl Td_ok 130 [] ⟨[], [], [some [6, 7]], []⟩ ⟨[], [], []⟩ [true, false, true, false, false, false, true, true, true] (tt k2 (tt k1 (pp (pp (xr l1) (xw o1_0)) (tt k0 (pp (pp (xr l0) (xw o0_0)) nn)))))))) (fun k2 => (lead_bif (fun k3 => (lr 39 11 [1, 1, 0, 1, 0, 0] 1 11 [(6, (.int .i64 0)), (7, (.int .i64 2))] (sl Td_ok 130 [] ⟨[], [], [some [6, 7]], []⟩ ⟨[], [], []⟩ [true, false, true, false, false, false, false, false, true] (tt k3 (tt k2 (tt k1 (pp (pp (xr l1) (xw o1_0)) (tt k0 (pp (pp (xr l0) (xw o0_0)) nn))))))))) (fun k3 => (lead_owe fun o0 => (lead_owe fun o1 => (lead_owe fun o2 => (lead_owe fun o3 => (lead_owe fun o4 => (lr 39 3 [1, 1, 1, 1, 1, 1, 0] 1 11 [(6, (.int .i64 (IntKind.wrap IntKind.i64 ((prV (cvT (blkV (cvT l0))) (cvT (blkV (cvT l1))) x2) - (prV (cvT (blkV (cvT l0))) (cvT (comV (cvT (blkV (cvT l0))) (cvT (blkV (cvT l1))))) x2))))), (7, (.int .i64 0))] (sl Td_ok 151 [] ⟨[], [], [some [6, 7]], []⟩ ⟨[], [], []⟩ [true, false, true, false, false, false, false, false, false] (pp (pp (xI R6 (blkV (cvT l0)).length (rowsT (blkV (cvT l0)))) (pp (xI R6 (comV (cvT (blkV (cvT l0))) (cvT (blkV (cvT l1)))).length (rowsT (comV (cvT (blkV (cvT l0))) (cvT (blkV (cvT l1)))))) (xw o4))) (pp (pp (xI R6 (blkV (cvT l0)).length (rowsT (blkV (cvT l0)))) (pp (xI R6 (blkV (cvT l1)).length (rowsT (blkV (cvT l1)))) (xw o3))) (pp (pp (xI R6 (blkV (cvT l0)).length (rowsT (blkV (cvT l0)))) (pp (xI R6 (blkV (cvT l1)).length (rowsT (blkV (cvT l1)))) (xw o2))) (pp (pp (xr l1) (xw o1)) (pp (pp (xr l0) (xw o0)) (tt k3 (tt k2 (tt k1 (pp (pp (xr l1) (xw o1_0)) (tt k0 (pp (pp (xr l0) (xw o0_0)) nn))))))))))))))))))))))))))))
theorem ocv_ends (l0 : List R6) (l1 : List R6) (x2 : Int) (n : Nat) (vs : List AVal) (h : goOn (ocvstep l0 l1 x2) n (ocvstart l0 l1 x2) = .ret vs) : Ends Tryz.prog (resultsOf Tryz.prog 11) (startC Tryz.prog 11 [(.dat l0.length (rowsT l0)), (.dat l1.length (rowsT l1)), (.int .i64 x2)] true []) vs := by
  have := goOn_lead (ocvstep_ok l0 l1 x2) n _ (ocvstart_ok l0 l1 x2)
  rwa [h] at this
inductive grtS where
noncomputable def grtC (l0 : List R6) : grtS → Cfg
  := nofun
noncomputable def grtstep (l0 : List R6) : grtS → Out' grtS
  := nofun
noncomputable def grtstart (l0 : List R6) : Out' grtS := (bif (decide (((l0.length : Nat) : Int) > 8)) then (bif (decide (((l0.length : Nat) : Int) ≤ 400)) then (.ret [(.bool true)]) else (.ret [(.bool (decide (((l0.length : Nat) : Int) > 420)))])) else (.ret [(.bool (decide (((l0.length : Nat) : Int) > 420)))]))
theorem grtstep_ok (l0 : List R6) : ∀ s, Lead Tryz.prog (resultsOf Tryz.prog 8) (grtC l0) (grtC l0 s) (grtstep l0 s)
  := nofun
theorem grtstart_ok (l0 : List R6) : Lead Tryz.prog (resultsOf Tryz.prog 8) (grtC l0) (startC Tryz.prog 8 [(.dat l0.length (rowsT l0))] true []) (grtstart l0) := (lead_bif (fun k0 => (lead_bif (fun k1 => (lr 16 3 [1, 1, 1, 1, 1, 1, 0] 1 8 [(2, (.bool true))] (sl Td_ok 21 [] ⟨[], [], [some [2]], []⟩ ⟨[], [], []⟩ (trs 6 []) (tt k1 (tt k0 nn))))) (fun k1 => (lr 16 3 [1, 1, 1, 1, 1, 1, 0] 1 8 [(2, (.bool (decide (((l0.length : Nat) : Int) > 420))))] (sl Td_ok 21 [] ⟨[], [], [some [2]], []⟩ ⟨[], [], []⟩ (trs 3 [false, false, false]) (tt k1 (tt k0 nn))))))) (fun k0 => (lr 16 3 [1, 1, 1, 1, 1, 1, 0] 1 8 [(2, (.bool (decide (((l0.length : Nat) : Int) > 420))))] (sl Td_ok 21 [] ⟨[], [], [some [2]], []⟩ ⟨[], [], []⟩ [false, false, false, false, false, false] (tt k0 nn)))))
theorem grt_ends (l0 : List R6) (n : Nat) (vs : List AVal) (h : goOn (grtstep l0) n (grtstart l0) = .ret vs) : Ends Tryz.prog (resultsOf Tryz.prog 8) (startC Tryz.prog 8 [(.dat l0.length (rowsT l0))] true []) vs := by
  have := goOn_lead (grtstep_ok l0) n _ (grtstart_ok l0)
  rwa [h] at this
end Go.Am
end
section
set_option linter.unusedVariables false
set_option linter.unusedSimpArgs false
namespace Go.Am
open Go.Proofs
set_option maxRecDepth 100000
set_option maxHeartbeats 4000000
set_option linter.unusedVariables false
set_option linter.unusedSimpArgs false
noncomputable def ocoV_0 (X Y : List R6) : Int := bif sckV_0 X != 0 then 0 else bif sckV_0 Y != 0 then 0 else conV X Y
noncomputable def ocoV_1 (X Y : List R6) : Int := bif sckV_0 X != 0 then sckV_0 X else bif sckV_0 Y != 0 then sckV_0 Y else 0
def ocoV_owed (X Y : List R6) : Bool := decide (X.length ≤ 100 ∨ 400 < X.length) && decide (Y.length ≤ 100 ∨ 400 < Y.length)
theorem sck_great {X : List R6} (h : 400 < X.length) : (sckV_0 X != 0) = true := by
  unfold sckV_0; rw [decide_eq_true h]; rfl
theorem sck_small {X : List R6} (h : decide (X.length ≤ 100 ∨ 400 < X.length) = true) (h0 : (sckV_0 X != 0) = false) : X.length ≤ 100 := by
  rcases of_decide_eq_true h with h | h
  · exact h
  · rw [sck_great h] at h0; cases h0
theorem oco_run (X Y : List R6) (h : ocoV_owed X Y = true) : ∃ N, goOn (ocostep X Y) N (ocostart X Y) = .ret [.int .i64 (ocoV_0 X Y), .int .i64 (ocoV_1 X Y)] := by
  unfold ocoV_owed at h
  simp only [Bool.and_eq_true] at h
  refine ⟨0, ?_⟩
  unfold ocostart ocoV_0 ocoV_1
  have o : ∀ l, sckV_0_owed l = true := fun _ => rfl
  simp only [cvT_eq, o, cond_true, blkV]
  rcases boolc (sckV_0 X != 0) with q1 | q1
  · simp only [q1, cond_true]; rfl
  · rcases boolc (sckV_0 Y != 0) with q2 | q2
    · simp only [q1, q2, cond_true, cond_false]; rfl
    · have s1 := sck_small h.1 q1
      have s2 := sck_small h.2 q2
      have b1 : blkV_owed X = true := decide_eq_true (by omega)
      have b2 : blkV_owed Y = true := decide_eq_true (by omega)
      have hk : conV_owed X Y = true := decide_eq_true (by omega)
      simp only [q1, q2, b1, b2, hk, cond_true, cond_false]; rfl
noncomputable def oreV_0 (X Y : List R6) : Int := bif sckV_0 X != 0 then 0 else bif sckV_0 Y != 0 then 0 else orlV X Y
noncomputable def oreV_1 (X Y : List R6) : Int := ocoV_1 X Y
def oreV_owed (X Y : List R6) : Bool := ocoV_owed X Y
theorem ore_run (X Y : List R6) (h : oreV_owed X Y = true) : ∃ N, goOn (orestep X Y) N (orestart X Y) = .ret [.int .u8 (oreV_0 X Y), .int .i64 (oreV_1 X Y)] := by
  unfold oreV_owed ocoV_owed at h
  simp only [Bool.and_eq_true] at h
  refine ⟨0, ?_⟩
  unfold orestart oreV_0 oreV_1 ocoV_1
  have o : ∀ l, sckV_0_owed l = true := fun _ => rfl
  simp only [cvT_eq, o, cond_true]
  rcases boolc (sckV_0 X != 0) with q1 | q1
  · simp only [q1, cond_true]; rfl
  · rcases boolc (sckV_0 Y != 0) with q2 | q2
    · simp only [q1, q2, cond_true, cond_false]; rfl
    · have s1 := sck_small h.1 q1
      have s2 := sck_small h.2 q2
      have hk : orlV_owed X Y = true := decide_eq_true (by omega)
      simp only [q1, q2, hk, cond_true, cond_false]; rfl
noncomputable def osiV_0 (X : List R6) (d : Int) : Int := bif sckV_0 X != 0 then 0 else bif decide (d < 0) then 0 else bif decide (d > 5) then 0 else IntKind.wrap .i64 (volV X - prV X X d)
noncomputable def osiV_1 (X : List R6) (d : Int) : Int := bif sckV_0 X != 0 then sckV_0 X else bif decide (d < 0) then 2 else bif decide (d > 5) then 2 else 0
def osiV_owed (X : List R6) (d : Int) : Bool := decide (X.length ≤ 100 ∨ 400 < X.length)
theorem osi_run (X : List R6) (d : Int) (h : osiV_owed X d = true) : ∃ N, goOn (osistep X d) N (osistart X d) = .ret [.int .i64 (osiV_0 X d), .int .i64 (osiV_1 X d)] := by
  refine ⟨0, ?_⟩
  unfold osistart osiV_0 osiV_1
  have o : ∀ l, sckV_0_owed l = true := fun _ => rfl
  simp only [cvT_eq, o, cond_true, blkV]
  rcases boolc (sckV_0 X != 0) with q1 | q1
  · simp only [q1, cond_true]; rfl
  · have s1 := sck_small h q1
    have b1 : blkV_owed X = true := decide_eq_true (by omega)
    have v1 : volV_owed X = true := decide_eq_true (by omega)
    rcases boolc (decide (d < 0)) with q2 | q2
    · simp only [q1, q2, cond_true, cond_false]; rfl
    · rcases boolc (decide (d > 5)) with q3 | q3
      · simp only [q1, q2, q3, cond_true, cond_false]; rfl
      · have := of_decide_eq_false q2
        have := of_decide_eq_false q3
        have p1 : prV_owed X X d = true := decide_eq_true (by omega)
        simp only [q1, q2, q3, b1, v1, p1, cond_true, cond_false]; rfl
noncomputable def ocvV_0 (X Y : List R6) (d : Int) : Int := bif sckV_0 X != 0 then 0 else bif sckV_0 Y != 0 then 0 else bif decide (d < 0) then 0 else bif decide (d > 5) then 0 else IntKind.wrap .i64 (prV X Y d - prV X (comV X Y) d)
noncomputable def ocvV_1 (X Y : List R6) (d : Int) : Int := bif sckV_0 X != 0 then sckV_0 X else bif sckV_0 Y != 0 then sckV_0 Y else bif decide (d < 0) then 2 else bif decide (d > 5) then 2 else 0
def ocvV_owed (X Y : List R6) (d : Int) : Bool := ocoV_owed X Y
theorem ocv_run (X Y : List R6) (d : Int) (h : ocvV_owed X Y d = true) : ∃ N, goOn (ocvstep X Y d) N (ocvstart X Y d) = .ret [.int .i64 (ocvV_0 X Y d), .int .i64 (ocvV_1 X Y d)] := by
  unfold ocvV_owed ocoV_owed at h
  simp only [Bool.and_eq_true] at h
  refine ⟨0, ?_⟩
  unfold ocvstart ocvV_0 ocvV_1
  have o : ∀ l, sckV_0_owed l = true := fun _ => rfl
  simp only [cvT_eq, o, cond_true, blkV]
  rcases boolc (sckV_0 X != 0) with q1 | q1
  · simp only [q1, cond_true]; rfl
  · rcases boolc (sckV_0 Y != 0) with q4 | q4
    · simp only [q1, q4, cond_true, cond_false]; rfl
    · have s1 := sck_small h.1 q1
      have s2 := sck_small h.2 q4
      have hl := com_length X Y
      have hm : X.length * Y.length ≤ 100 * 100 := Nat.mul_le_mul s1 s2
      have b1 : blkV_owed X = true := decide_eq_true (by omega)
      have b2 : blkV_owed Y = true := decide_eq_true (by omega)
      have c1 : comV_owed X Y = true := decide_eq_true (by omega)
      rcases boolc (decide (d < 0)) with q2 | q2
      · simp only [q1, q2, q4, cond_true, cond_false]; rfl
      · rcases boolc (decide (d > 5)) with q3 | q3
        · simp only [q1, q2, q3, q4, cond_true, cond_false]; rfl
        · have := of_decide_eq_false q2
          have := of_decide_eq_false q3
          have p1 : prV_owed X Y d = true := decide_eq_true (by omega)
          have p2 : prV_owed X (comV X Y) d = true := decide_eq_true (by omega)
          simp only [q1, q2, q3, q4, b1, b2, c1, p1, p2, cond_true, cond_false]; rfl
def grtV (X : List R6) : Bool := decide (8 < X.length ∧ X.length ≤ 400 ∨ 420 < X.length)
def grtV_owed (X : List R6) : Bool := true
theorem grt_run (X : List R6) (h : grtV_owed X = true) : ∃ N, goOn (grtstep X) N (grtstart X) = .ret [.bool (grtV X)] := by
  refine ⟨0, ?_⟩
  unfold grtstart grtV
  by_cases h1 : ((X.length : Nat) : Int) > 8
  · by_cases h2 : ((X.length : Nat) : Int) ≤ 400
    · rw [decide_eq_true h1, decide_eq_true h2, decide_eq_true (show 8 < X.length ∧ X.length ≤ 400 ∨ 420 < X.length by omega)]; rfl
    · rw [decide_eq_true h1, decide_eq_false h2]
      by_cases h3 : ((X.length : Nat) : Int) > 420
      · rw [decide_eq_true h3, decide_eq_true (show 8 < X.length ∧ X.length ≤ 400 ∨ 420 < X.length by omega)]; rfl
      · rw [decide_eq_false h3, decide_eq_false (show ¬ (8 < X.length ∧ X.length ≤ 400 ∨ 420 < X.length) by omega)]; rfl
  · rw [decide_eq_false h1, decide_eq_false (show ¬ ((X.length : Nat) : Int) > 420 by omega), decide_eq_false (show ¬ (8 < X.length ∧ X.length ≤ 400 ∨ 420 < X.length) by omega)]; rfl
noncomputable def fOco : List AVal → Option (AVal × Bool)
  | [a0, a1] => match asL R6 a0, asL R6 a1 with
    | some (L0, g0, n0), some (L1, g1, n1) => some (.tup [.int .i64 (ocoV_0 L0 L1), .int .i64 (ocoV_1 L0 L1)], isT R6 n0 g0 && (isT R6 n1 g1 && (ocoV_owed L0 L1)))
    | _, _ => none
  | _ => none
theorem fOco_ok {S : Specs} (hS : SpecsOk Tryz.prog S) : SpecsOk Tryz.prog (S.with nOCont fOco) := by
  refine fOne hS (by kernel_rfl) fun args v h => ?_
  unfold fOco at h
  split at h
  · rename_i a0 a1
    split at h
    · rename_i L0 g0 n0 L1 g1 n1 e0 e1
      simp only [Option.some.injEq, Prod.mk.injEq, Bool.and_eq_true] at h
      obtain ⟨rfl, ho0, ho1, hw⟩ := h
      obtain ⟨N, hN⟩ := oco_run L0 L1 hw
      exact ⟨_, _, (.cons (asL_le e0 ho0) (.cons (asL_le e1 ho1) .nil)), rfl, oco_ends L0 L1 N _ hN, 3, rfl⟩
    · cases h
  · cases h
noncomputable def fOre : List AVal → Option (AVal × Bool)
  | [a0, a1] => match asL R6 a0, asL R6 a1 with
    | some (L0, g0, n0), some (L1, g1, n1) => some (.tup [.int .u8 (oreV_0 L0 L1), .int .i64 (oreV_1 L0 L1)], isT R6 n0 g0 && (isT R6 n1 g1 && (oreV_owed L0 L1)))
    | _, _ => none
  | _ => none
theorem fOre_ok {S : Specs} (hS : SpecsOk Tryz.prog S) : SpecsOk Tryz.prog (S.with nORel fOre) := by
  refine fOne hS (by kernel_rfl) fun args v h => ?_
  unfold fOre at h
  split at h
  · rename_i a0 a1
    split at h
    · rename_i L0 g0 n0 L1 g1 n1 e0 e1
      simp only [Option.some.injEq, Prod.mk.injEq, Bool.and_eq_true] at h
      obtain ⟨rfl, ho0, ho1, hw⟩ := h
      obtain ⟨N, hN⟩ := ore_run L0 L1 hw
      exact ⟨_, _, (.cons (asL_le e0 ho0) (.cons (asL_le e1 ho1) .nil)), rfl, ore_ends L0 L1 N _ hN, 3, rfl⟩
    · cases h
  · cases h
noncomputable def fOsi : List AVal → Option (AVal × Bool)
  | [a0, .int .i64 x1] => match asL R6 a0 with
    | some (L0, g0, n0) => some (.tup [.int .i64 (osiV_0 L0 x1), .int .i64 (osiV_1 L0 x1)], isT R6 n0 g0 && (osiV_owed L0 x1))
    | _ => none
  | _ => none
theorem fOsi_ok {S : Specs} (hS : SpecsOk Tryz.prog S) : SpecsOk Tryz.prog (S.with nOSide fOsi) := by
  refine fOne hS (by kernel_rfl) fun args v h => ?_
  unfold fOsi at h
  split at h
  · rename_i a0 x1
    split at h
    · rename_i L0 g0 n0 e0
      simp only [Option.some.injEq, Prod.mk.injEq, Bool.and_eq_true] at h
      obtain ⟨rfl, ho0, hw⟩ := h
      obtain ⟨N, hN⟩ := osi_run L0 x1 hw
      exact ⟨_, _, (.cons (asL_le e0 ho0) (.cons (.refl _) .nil)), rfl, osi_ends L0 x1 N _ hN, 3, rfl⟩
    · cases h
  · cases h
noncomputable def fOcv : List AVal → Option (AVal × Bool)
  | [a0, a1, .int .i64 x2] => match asL R6 a0, asL R6 a1 with
    | some (L0, g0, n0), some (L1, g1, n1) => some (.tup [.int .i64 (ocvV_0 L0 L1 x2), .int .i64 (ocvV_1 L0 L1 x2)], isT R6 n0 g0 && (isT R6 n1 g1 && (ocvV_owed L0 L1 x2)))
    | _, _ => none
  | _ => none
theorem fOcv_ok {S : Specs} (hS : SpecsOk Tryz.prog S) : SpecsOk Tryz.prog (S.with nOCov fOcv) := by
  refine fOne hS (by kernel_rfl) fun args v h => ?_
  unfold fOcv at h
  split at h
  · rename_i a0 a1 x2
    split at h
    · rename_i L0 g0 n0 L1 g1 n1 e0 e1
      simp only [Option.some.injEq, Prod.mk.injEq, Bool.and_eq_true] at h
      obtain ⟨rfl, ho0, ho1, hw⟩ := h
      obtain ⟨N, hN⟩ := ocv_run L0 L1 x2 hw
      exact ⟨_, _, (.cons (asL_le e0 ho0) (.cons (asL_le e1 ho1) (.cons (.refl _) .nil))), rfl, ocv_ends L0 L1 x2 N _ hN, 3, rfl⟩
    · cases h
  · cases h
noncomputable def fGrt : List AVal → Option (AVal × Bool)
  | [a0] => match asL R6 a0 with
    | some (L0, g0, n0) => some (.bool (grtV L0), isT R6 n0 g0 && (grtV_owed L0))
    | _ => none
  | _ => none
theorem fGrt_ok {S : Specs} (hS : SpecsOk Tryz.prog S) : SpecsOk Tryz.prog (S.with nGreat28 fGrt) := by
  refine fOne hS (by kernel_rfl) fun args v h => ?_
  unfold fGrt at h
  split at h
  · rename_i a0
    split at h
    · rename_i L0 g0 n0 e0
      simp only [Option.some.injEq, Prod.mk.injEq, Bool.and_eq_true] at h
      obtain ⟨rfl, ho0, hw⟩ := h
      obtain ⟨N, hN⟩ := grt_run L0 hw
      exact ⟨_, _, (.cons (asL_le e0 ho0) .nil), rfl, grt_ends L0 N _ hN, 3, rfl⟩
    · cases h
  · cases h
noncomputable def Te : Specs := (((((Td.with nOCont fOco).with nORel fOre).with nOSide fOsi).with nOCov fOcv).with nGreat28 fGrt)
theorem Te_ok : SpecsOk Tryz.prog Te := (fGrt_ok (fOcv_ok (fOsi_ok (fOre_ok (fOco_ok Td_ok)))))
end Go.Am
end
section
set_option linter.unusedVariables false
set_option linter.unusedSimpArgs false
namespace Go.Am
open Go.Proofs
set_option maxRecDepth 1000000
set_option linter.unusedVariables false
set_option linter.unusedSimpArgs false
set_option maxHeartbeats 4000000
inductive aliS where
noncomputable def aliC : aliS → Cfg
  := nofun
noncomputable def alistep : aliS → Out' aliS
  := nofun
noncomputable def alistart : Out' aliS := (bif (ocvV_owed (cvT ([(R6.mk 0 0 0 2 2 2)] : List R6)) (cvT ([(R6.mk 2 0 0 3 1 4)] : List R6)) 0) then (bif (osiV_owed (cvT ([(R6.mk 0 0 0 2 2 2)] : List R6)) 0) then (bif ((osiV_1 (cvT ([(R6.mk 0 0 0 2 2 2)] : List R6)) 0) != 0) then (.ret [(.bool false)]) else (bif ((osiV_0 (cvT ([(R6.mk 0 0 0 2 2 2)] : List R6)) 0) != 4) then (.ret [(.bool false)]) else (bif (osiV_owed (cvT ([(R6.mk 0 0 0 2 2 2)] : List R6)) 1) then (bif ((osiV_1 (cvT ([(R6.mk 0 0 0 2 2 2)] : List R6)) 1) != 0) then (.ret [(.bool false)]) else (bif ((osiV_0 (cvT ([(R6.mk 0 0 0 2 2 2)] : List R6)) 1) != 4) then (.ret [(.bool false)]) else (bif (osiV_owed (cvT ([(R6.mk 0 0 0 2 2 2)] : List R6)) 2) then (bif ((osiV_1 (cvT ([(R6.mk 0 0 0 2 2 2)] : List R6)) 2) != 0) then (.ret [(.bool false)]) else (bif ((osiV_0 (cvT ([(R6.mk 0 0 0 2 2 2)] : List R6)) 2) != 4) then (.ret [(.bool false)]) else (bif (osiV_owed (cvT ([(R6.mk 0 0 0 2 2 2)] : List R6)) 3) then (bif ((osiV_1 (cvT ([(R6.mk 0 0 0 2 2 2)] : List R6)) 3) != 0) then (.ret [(.bool false)]) else (bif ((osiV_0 (cvT ([(R6.mk 0 0 0 2 2 2)] : List R6)) 3) != 4) then (.ret [(.bool false)]) else (bif (osiV_owed (cvT ([(R6.mk 0 0 0 2 2 2)] : List R6)) 4) then (bif ((osiV_1 (cvT ([(R6.mk 0 0 0 2 2 2)] : List R6)) 4) != 0) then (.ret [(.bool false)]) else (bif ((osiV_0 (cvT ([(R6.mk 0 0 0 2 2 2)] : List R6)) 4) != 4) then (.ret [(.bool false)]) else (bif (osiV_owed (cvT ([(R6.mk 0 0 0 2 2 2)] : List R6)) 5) then (bif ((osiV_1 (cvT ([(R6.mk 0 0 0 2 2 2)] : List R6)) 5) != 0) then (.ret [(.bool false)]) else (bif ((osiV_0 (cvT ([(R6.mk 0 0 0 2 2 2)] : List R6)) 5) != 4) then (.ret [(.bool false)]) else (bif ((ocvV_1 (cvT ([(R6.mk 0 0 0 2 2 2)] : List R6)) (cvT ([(R6.mk 2 0 0 3 1 4)] : List R6)) 0) == 0) then (bif ((ocvV_0 (cvT ([(R6.mk 0 0 0 2 2 2)] : List R6)) (cvT ([(R6.mk 2 0 0 3 1 4)] : List R6)) 0) == 2) then (bif (oreV_owed (cvT ([(R6.mk 0 0 0 2 2 2)] : List R6)) (cvT ([(R6.mk 2 0 0 3 1 4)] : List R6))) then (bif (ocoV_owed (cvT ([(R6.mk 0 0 0 2 2 2)] : List R6)) (cvT ([(R6.mk 2 0 0 3 1 4)] : List R6))) then (bif ((oreV_1 (cvT ([(R6.mk 0 0 0 2 2 2)] : List R6)) (cvT ([(R6.mk 2 0 0 3 1 4)] : List R6))) == 0) then (bif ((oreV_0 (cvT ([(R6.mk 0 0 0 2 2 2)] : List R6)) (cvT ([(R6.mk 2 0 0 3 1 4)] : List R6))) == 2) then (bif ((ocoV_1 (cvT ([(R6.mk 0 0 0 2 2 2)] : List R6)) (cvT ([(R6.mk 2 0 0 3 1 4)] : List R6))) == 0) then (bif ((ocoV_0 (cvT ([(R6.mk 0 0 0 2 2 2)] : List R6)) (cvT ([(R6.mk 2 0 0 3 1 4)] : List R6))) == 2) then (bif (oreV_owed (cvT ([(R6.mk 0 0 0 1 1 1)] : List R6)) (cvT ([(R6.mk 0 0 0 2 2 2)] : List R6))) then (bif (ocoV_owed (cvT ([(R6.mk 0 0 0 1 1 1)] : List R6)) (cvT ([(R6.mk 0 0 0 2 2 2)] : List R6))) then (bif ((oreV_1 (cvT ([(R6.mk 0 0 0 1 1 1)] : List R6)) (cvT ([(R6.mk 0 0 0 2 2 2)] : List R6))) == 0) then (bif ((oreV_0 (cvT ([(R6.mk 0 0 0 1 1 1)] : List R6)) (cvT ([(R6.mk 0 0 0 2 2 2)] : List R6))) == 4) then (bif ((ocoV_1 (cvT ([(R6.mk 0 0 0 1 1 1)] : List R6)) (cvT ([(R6.mk 0 0 0 2 2 2)] : List R6))) == 0) then (bif ((ocoV_0 (cvT ([(R6.mk 0 0 0 1 1 1)] : List R6)) (cvT ([(R6.mk 0 0 0 2 2 2)] : List R6))) == 0) then (bif (oreV_owed (cvT ([(R6.mk 0 0 0 2 2 2)] : List R6)) (cvT ([(R6.mk 1 1 1 3 3 3)] : List R6))) then (bif (ocoV_owed (cvT ([(R6.mk 0 0 0 2 2 2)] : List R6)) (cvT ([(R6.mk 1 1 1 3 3 3)] : List R6))) then (bif ((oreV_1 (cvT ([(R6.mk 0 0 0 2 2 2)] : List R6)) (cvT ([(R6.mk 1 1 1 3 3 3)] : List R6))) == 0) then (bif ((oreV_0 (cvT ([(R6.mk 0 0 0 2 2 2)] : List R6)) (cvT ([(R6.mk 1 1 1 3 3 3)] : List R6))) == 3) then (bif ((ocoV_1 (cvT ([(R6.mk 0 0 0 2 2 2)] : List R6)) (cvT ([(R6.mk 1 1 1 3 3 3)] : List R6))) == 0) then (.ret [(.bool ((ocoV_0 (cvT ([(R6.mk 0 0 0 2 2 2)] : List R6)) (cvT ([(R6.mk 1 1 1 3 3 3)] : List R6))) == 0))]) else (.ret [(.bool false)])) else (.ret [(.bool false)])) else (.ret [(.bool false)])) else .stuck) else .stuck) else (.ret [(.bool false)])) else (.ret [(.bool false)])) else (.ret [(.bool false)])) else (.ret [(.bool false)])) else .stuck) else .stuck) else (.ret [(.bool false)])) else (.ret [(.bool false)])) else (.ret [(.bool false)])) else (.ret [(.bool false)])) else .stuck) else .stuck) else (.ret [(.bool false)])) else (.ret [(.bool false)])))) else .stuck))) else .stuck))) else .stuck))) else .stuck))) else .stuck))) else .stuck) else .stuck)
theorem alistep_ok : ∀ s, Lead Tryz.prog (resultsOf Tryz.prog 20) (aliC) (aliC s) (alistep s)
  := nofun
theorem alistart_ok : Lead Tryz.prog (resultsOf Tryz.prog 20) (aliC) (startC Tryz.prog 20 [] true []) (alistart) := (lead_goes (sl Te_ok (C' := ⟨⟨51, 0, true⟩, (regP Tryz.prog 20 [1, 1, 0] 2), (todoP Tryz.prog 20 [1, 1, 0] 1), none, (resultsOf Tryz.prog 20), ⟨envL [(1, (.dat ([(R6.mk 0 0 0 2 2 2)] : List R6).length (rowsT ([(R6.mk 0 0 0 2 2 2)] : List R6)))), (9, (.dat ([(R6.mk 0 0 0 2 2 2)] : List R6).length (rowsT ([(R6.mk 0 0 0 2 2 2)] : List R6)))), (10, (.dat ([(R6.mk 2 0 0 3 1 4)] : List R6).length (rowsT ([(R6.mk 2 0 0 3 1 4)] : List R6))))], memL [] 0, 0, [], true⟩, [], .leaf⟩) 51 [] ⟨[], [0, 1], [some [1, 9, 10]], []⟩ ⟨[(1, .frz 1 ([(R6.mk 0 0 0 2 2 2)] : List R6).length (chunk [(.int .i64 0), (.int .i64 0), (.int .i64 0), (.int .i64 2), (.int .i64 2), (.int .i64 2)] 0 6) (rowsT ([(R6.mk 0 0 0 2 2 2)] : List R6))), (9, .frz 1 ([(R6.mk 0 0 0 2 2 2)] : List R6).length (chunk [(.int .i64 0), (.int .i64 0), (.int .i64 0), (.int .i64 2), (.int .i64 2), (.int .i64 2)] 0 6) (rowsT ([(R6.mk 0 0 0 2 2 2)] : List R6))), (10, .frz 1 ([(R6.mk 2 0 0 3 1 4)] : List R6).length (chunk [(.int .i64 2), (.int .i64 0), (.int .i64 0), (.int .i64 3), (.int .i64 1), (.int .i64 4)] 0 6) (rowsT ([(R6.mk 2 0 0 3 1 4)] : List R6)))], [], []⟩ [] (pp (xZ (.dat 1 (chunk [(.int .i64 0), (.int .i64 0), (.int .i64 0), (.int .i64 2), (.int .i64 2), (.int .i64 2)] 0 6)) 1 (chunk [(.int .i64 0), (.int .i64 0), (.int .i64 0), (.int .i64 2), (.int .i64 2), (.int .i64 2)] 0 6)) (pp (xL 1 ([(R6.mk 0 0 0 2 2 2)] : List R6).length) (pp (xS 1 (chunk [(.int .i64 0), (.int .i64 0), (.int .i64 0), (.int .i64 2), (.int .i64 2), (.int .i64 2)] 0 6) (rowsT ([(R6.mk 0 0 0 2 2 2)] : List R6))) (pp (xZ (.dat 1 (chunk [(.int .i64 0), (.int .i64 0), (.int .i64 0), (.int .i64 2), (.int .i64 2), (.int .i64 2)] 0 6)) 1 (chunk [(.int .i64 0), (.int .i64 0), (.int .i64 0), (.int .i64 2), (.int .i64 2), (.int .i64 2)] 0 6)) (pp (xL 1 ([(R6.mk 0 0 0 2 2 2)] : List R6).length) (pp (xS 1 (chunk [(.int .i64 0), (.int .i64 0), (.int .i64 0), (.int .i64 2), (.int .i64 2), (.int .i64 2)] 0 6) (rowsT ([(R6.mk 0 0 0 2 2 2)] : List R6))) (pp (xZ (.dat 1 (chunk [(.int .i64 2), (.int .i64 0), (.int .i64 0), (.int .i64 3), (.int .i64 1), (.int .i64 4)] 0 6)) 1 (chunk [(.int .i64 2), (.int .i64 0), (.int .i64 0), (.int .i64 3), (.int .i64 1), (.int .i64 4)] 0 6)) (pp (xL 1 ([(R6.mk 2 0 0 3 1 4)] : List R6).length) (pp (xS 1 (chunk [(.int .i64 2), (.int .i64 0), (.int .i64 0), (.int .i64 3), (.int .i64 1), (.int .i64 4)] 0 6) (rowsT ([(R6.mk 2 0 0 3 1 4)] : List R6))) nn)))))))))) (lead_owe fun o0_0 => (lead_owe fun o0_1 => (lead_bif (fun k0 => (lr 51 20 [1, 1, 1, 0, 1, 0, 0, 1, 0, 0, 1, 1, 0, 0] 1 20 [(0, (.bool false))] (sl Te_ok 49 [] ⟨[], [], [some [0]], []⟩ ⟨[], [], []⟩ (trs 4 []) (tt k0 (pp (pp (xI R6 ([(R6.mk 0 0 0 2 2 2)] : List R6).length (rowsT ([(R6.mk 0 0 0 2 2 2)] : List R6))) (xw o0_1)) (pp (pp (xI R6 ([(R6.mk 0 0 0 2 2 2)] : List R6).length (rowsT ([(R6.mk 0 0 0 2 2 2)] : List R6))) (pp (xI R6 ([(R6.mk 2 0 0 3 1 4)] : List R6).length (rowsT ([(R6.mk 2 0 0 3 1 4)] : List R6))) (xw o0_0))) nn)))))) (fun k0 => (lead_bif (fun k1 => (lr 51 20 [1, 1, 1, 0, 1, 0, 0, 1, 0, 0, 1, 1, 0, 0] 1 20 [(0, (.bool false))] (sl Te_ok 49 [] ⟨[], [], [some [0]], []⟩ ⟨[], [], []⟩ [true, false, false, true] (tt k1 (tt k0 (pp (pp (xI R6 ([(R6.mk 0 0 0 2 2 2)] : List R6).length (rowsT ([(R6.mk 0 0 0 2 2 2)] : List R6))) (xw o0_1)) (pp (pp (xI R6 ([(R6.mk 0 0 0 2 2 2)] : List R6).length (rowsT ([(R6.mk 0 0 0 2 2 2)] : List R6))) (pp (xI R6 ([(R6.mk 2 0 0 3 1 4)] : List R6).length (rowsT ([(R6.mk 2 0 0 3 1 4)] : List R6))) (xw o0_0))) nn))))))) (fun k1 => (lead_owe fun o2_0 => (lead_bif (fun k2 => (lr 51 20 [1, 1, 1, 0, 1, 0, 0, 1, 0, 0, 1, 1, 0, 0] 1 20 [(0, (.bool false))] (sl Te_ok 88 [] ⟨[], [], [some [0]], []⟩ ⟨[], [], []⟩ [true, false, false, false, true, true, true, true] (tt k2 (pp (pp (xI R6 ([(R6.mk 0 0 0 2 2 2)] : List R6).length (rowsT ([(R6.mk 0 0 0 2 2 2)] : List R6))) (xw o2_0)) (tt k1 (tt k0 (pp (pp (xI R6 ([(R6.mk 0 0 0 2 2 2)] : List R6).length (rowsT ([(R6.mk 0 0 0 2 2 2)] : List R6))) (xw o0_1)) (pp (pp (xI R6 ([(R6.mk 0 0 0 2 2 2)] : List R6).length (rowsT ([(R6.mk 0 0 0 2 2 2)] : List R6))) (pp (xI R6 ([(R6.mk 2 0 0 3 1 4)] : List R6).length (rowsT ([(R6.mk 2 0 0 3 1 4)] : List R6))) (xw o0_0))) nn))))))))) (fun k2 => (lead_bif (fun k3 => (lr 51 20 [1, 1, 1, 0, 1, 0, 0, 1, 0, 0, 1, 1, 0, 0] 1 20 [(0, (.bool false))] (sl Te_ok 88 [] ⟨[], [], [some [0]], []⟩ ⟨[], [], []⟩ [true, false, false, false, true, false, false, true] (tt k3 (tt k2 (pp (pp (xI R6 ([(R6.mk 0 0 0 2 2 2)] : List R6).length (rowsT ([(R6.mk 0 0 0 2 2 2)] : List R6))) (xw o2_0)) (tt k1 (tt k0 (pp (pp (xI R6 ([(R6.mk 0 0 0 2 2 2)] : List R6).length (rowsT ([(R6.mk 0 0 0 2 2 2)] : List R6))) (xw o0_1)) (pp (pp (xI R6 ([(R6.mk 0 0 0 2 2 2)] : List R6).length (rowsT ([(R6.mk 0 0 0 2 2 2)] : List R6))) (pp (xI R6 ([(R6.mk 2 0 0 3 1 4)] : List R6).length (rowsT ([(R6.mk 2 0 0 3 1 4)] : List R6))) (xw o0_0))) nn)))))))))) (fun k3 => (lead_owe fun o4_0 => (lead_bif (fun k4 => (lr 51 20 [1, 1, 1, 0, 1, 0, 0, 1, 0, 0, 1, 1, 0, 0] 1 20 [(0, (.bool false))] (sl Te_ok 127 [] ⟨[], [], [some [0]], []⟩ ⟨[], [], []⟩ [true, false, false, false, true, false, false, false, true, true, true, true] (tt k4 (pp (pp (xI R6 ([(R6.mk 0 0 0 2 2 2)] : List R6).length (rowsT ([(R6.mk 0 0 0 2 2 2)] : List R6))) (xw o4_0)) (tt k3 (tt k2 (pp (pp (xI R6 ([(R6.mk 0 0 0 2 2 2)] : List R6).length (rowsT ([(R6.mk 0 0 0 2 2 2)] : List R6))) (xw o2_0)) (tt k1 (tt k0 (pp (pp (xI R6 ([(R6.mk 0 0 0 2 2 2)] : List R6).length (rowsT ([(R6.mk 0 0 0 2 2 2)] : List R6))) (xw o0_1)) (pp (pp (xI R6 ([(R6.mk 0 0 0 2 2 2)] : List R6).length (rowsT ([(R6.mk 0 0 0 2 2 2)] : List R6))) (pp (xI R6 ([(R6.mk 2 0 0 3 1 4)] : List R6).length (rowsT ([(R6.mk 2 0 0 3 1 4)] : List R6))) (xw o0_0))) nn)))))))))))) (fun k4 => (lead_bif (fun k5 => (lr 51 20 [1, 1, 1, 0, 1, 0, 0, 1, 0, 0, 1, 1, 0, 0] 1 20 [(0, (.bool false))] (sl Te_ok 127 [] ⟨[], [], [some [0]], []⟩ ⟨[], [], []⟩ [true, false, false, false, true, false, false, false, true, false, false, true] (tt k5 (tt k4 (pp (pp (xI R6 ([(R6.mk 0 0 0 2 2 2)] : List R6).length (rowsT ([(R6.mk 0 0 0 2 2 2)] : List R6))) (xw o4_0)) (tt k3 (tt k2 (pp (pp (xI R6 ([(R6.mk 0 0 0 2 2 2)] : List R6).length (rowsT ([(R6.mk 0 0 0 2 2 2)] : List R6))) (xw o2_0)) (tt k1 (tt k0 (pp (pp (xI R6 ([(R6.mk 0 0 0 2 2 2)] : List R6).length (rowsT ([(R6.mk 0 0 0 2 2 2)] : List R6))) (xw o0_1)) (pp (pp (xI R6 ([(R6.mk 0 0 0 2 2 2)] : List R6).length (rowsT ([(R6.mk 0 0 0 2 2 2)] : List R6))) (pp (xI R6 ([(R6.mk 2 0 0 3 1 4)] : List R6).length (rowsT ([(R6.mk 2 0 0 3 1 4)] : List R6))) (xw o0_0))) nn))))))))))))) (fun k5 => (lead_owe fun o6_0 => (lead_bif (fun k6 => (lr 51 20 [1, 1, 1, 0, 1, 0, 0, 1, 0, 0, 1, 1, 0, 0] 1 20 [(0, (.bool false))] (sl Te_ok 166 [] ⟨[], [], [some [0]], []⟩ ⟨[], [], []⟩ [true, false, false, false, true, false, false, false, true, false, false, false, true, true, true, true] (tt k6 (pp (pp (xI R6 ([(R6.mk 0 0 0 2 2 2)] : List R6).length (rowsT ([(R6.mk 0 0 0 2 2 2)] : List R6))) (xw o6_0)) (tt k5 (tt k4 (pp (pp (xI R6 ([(R6.mk 0 0 0 2 2 2)] : List R6).length (rowsT ([(R6.mk 0 0 0 2 2 2)] : List R6))) (xw o4_0)) (tt k3 (tt k2 (pp (pp (xI R6 ([(R6.mk 0 0 0 2 2 2)] : List R6).length (rowsT ([(R6.mk 0 0 0 2 2 2)] : List R6))) (xw o2_0)) (tt k1 (tt k0 (pp (pp (xI R6 ([(R6.mk 0 0 0 2 2 2)] : List R6).length (rowsT ([(R6.mk 0 0 0 2 2 2)] : List R6))) (xw o0_1)) (pp (pp (xI R6 ([(R6.mk 0 0 0 2 2 2)] : List R6).length (rowsT ([(R6.mk 0 0 0 2 2 2)] : List R6))) (pp (xI R6 ([(R6.mk 2 0 0 3 1 4)] : List R6).length (rowsT ([(R6.mk 2 0 0 3 1 4)] : List R6))) (xw o0_0))) nn))))))))))))))) (fun k6 => (lead_bif (fun k7 => (lr 51 20 [1, 1, 1, 0, 1, 0, 0, 1, 0, 0, 1, 1, 0, 0] 1 20 [(0, (.bool false))] (sl Te_ok 166 [] ⟨[], [], [some [0]], []⟩ ⟨[], [], []⟩ [true, false, false, false, true, false, false, false, true, false, false, false, true, false, false, true] (tt k7 (tt k6 (pp (pp (xI R6 ([(R6.mk 0 0 0 2 2 2)] : List R6).length (rowsT ([(R6.mk 0 0 0 2 2 2)] : List R6))) (xw o6_0)) (tt k5 (tt k4 (pp (pp (xI R6 ([(R6.mk 0 0 0 2 2 2)] : List R6).length (rowsT ([(R6.mk 0 0 0 2 2 2)] : List R6))) (xw o4_0)) (tt k3 (tt k2 (pp (pp (xI R6 ([(R6.mk 0 0 0 2 2 2)] : List R6).length (rowsT ([(R6.mk 0 0 0 2 2 2)] : List R6))) (xw o2_0)) (tt k1 (tt k0 (pp (pp (xI R6 ([(R6.mk 0 0 0 2 2 2)] : List R6).length (rowsT ([(R6.mk 0 0 0 2 2 2)] : List R6))) (xw o0_1)) (pp (pp (xI R6 ([(R6.mk 0 0 0 2 2 2)] : List R6).length (rowsT ([(R6.mk 0 0 0 2 2 2)] : List R6))) (pp (xI R6 ([(R6.mk 2 0 0 3 1 4)] : List R6).length (rowsT ([(R6.mk 2 0 0 3 1 4)] : List R6))) (xw o0_0))) nn)))))))))))))))) (fun k7 => (lead_owe fun o8_0 => (lead_bif (fun k8 => (lr 51 20 [1, 1, 1, 0, 1, 0, 0, 1, 0, 0, 1, 1, 0, 0] 1 20 [(0, (.bool false))] (sl Te_ok 205 [] ⟨[], [], [some [0]], []⟩ ⟨[], [], []⟩ [true, false, false, false, true, false, false, false, true, false, false, false, true, false, false, false, true, true, true, true] (tt k8 (pp (pp (xI R6 ([(R6.mk 0 0 0 2 2 2)] : List R6).length (rowsT ([(R6.mk 0 0 0 2 2 2)] : List R6))) (xw o8_0)) (tt k7 (tt k6 (pp (pp (xI R6 ([(R6.mk 0 0 0 2 2 2)] : List R6).length (rowsT ([(R6.mk 0 0 0 2 2 2)] : List R6))) (xw o6_0)) (tt k5 (tt k4 (pp (pp (xI R6 ([(R6.mk 0 0 0 2 2 2)] : List R6).length (rowsT ([(R6.mk 0 0 0 2 2 2)] : List R6))) (xw o4_0)) (tt k3 (tt k2 (pp (pp (xI R6 ([(R6.mk 0 0 0 2 2 2)] : List R6).length (rowsT ([(R6.mk 0 0 0 2 2 2)] : List R6))) (xw o2_0)) (tt k1 (tt k0 (pp (pp (xI R6 ([(R6.mk 0 0 0 2 2 2)] : List R6).length (rowsT ([(R6.mk 0 0 0 2 2 2)] : List R6))) (xw o0_1)) (pp (pp (xI R6 ([(R6.mk 0 0 0 2 2 2)] : List R6).length (rowsT ([(R6.mk 0 0 0 2 2 2)] : List R6))) (pp (xI R6 ([(R6.mk 2 0 0 3 1 4)] : List R6).length (rowsT ([(R6.mk 2 0 0 3 1 4)] : List R6))) (xw o0_0))) nn)))))))))))))))))) (fun k8 => (lead_bif (fun k9 => (lr 51 20 [1, 1, 1, 0, 1, 0, 0, 1, 0, 0, 1, 1, 0, 0] 1 20 [(0, (.bool false))] (sl Te_ok 205 [] ⟨[], [], [some [0]], []⟩ ⟨[], [], []⟩ [true, false, false, false, true, false, false, false, true, false, false, false, true, false, false, false, true, false, false, true] (tt k9 (tt k8 (pp (pp (xI R6 ([(R6.mk 0 0 0 2 2 2)] : List R6).length (rowsT ([(R6.mk 0 0 0 2 2 2)] : List R6))) (xw o8_0)) (tt k7 (tt k6 (pp (pp (xI R6 ([(R6.mk 0 0 0 2 2 2)] : List R6).length (rowsT ([(R6.mk 0 0 0 2 2 2)] : List R6))) (xw o6_0)) (tt k5 (tt k4 (pp (pp (xI R6 ([(R6.mk 0 0 0 2 2 2)] : List R6).length (rowsT ([(R6.mk 0 0 0 2 2 2)] : List R6))) (xw o4_0)) (tt k3 (tt k2 (pp (pp (xI R6 ([(R6.mk 0 0 0 2 2 2)] : List R6).length (rowsT ([(R6.mk 0 0 0 2 2 2)] : List R6))) (xw o2_0)) (tt k1 (tt k0 (pp (pp (xI R6 ([(R6.mk 0 0 0 2 2 2)] : List R6).length (rowsT ([(R6.mk 0 0 0 2 2 2)] : List R6))) (xw o0_1)) (pp (pp (xI R6 ([(R6.mk 0 0 0 2 2 2)] : List R6).length (rowsT ([(R6.mk 0 0 0 2 2 2)] : List R6))) (pp (xI R6 ([(R6.mk 2 0 0 3 1 4)] : List R6).length (rowsT ([(R6.mk 2 0 0 3 1 4)] : List R6))) (xw o0_0))) nn))))))))))))))))))) (fun k9 => (lead_owe fun o10_0 => (lead_bif (fun k10 => (lr 51 20 [1, 1, 1, 0, 1, 0, 0, 1, 0, 0, 1, 1, 0, 0] 1 20 [(0, (.bool false))] (sl Te_ok 244 [] ⟨[], [], [some [0]], []⟩ ⟨[], [], []⟩ [true, false, false, false, true, false, false, false, true, false, false, false, true, false, false, false, true, false, false, false, true, true, true, true] (tt k10 (pp (pp (xI R6 ([(R6.mk 0 0 0 2 2 2)] : List R6).length (rowsT ([(R6.mk 0 0 0 2 2 2)] : List R6))) (xw o10_0)) (tt k9 (tt k8 (pp (pp (xI R6 ([(R6.mk 0 0 0 2 2 2)] : List R6).length (rowsT ([(R6.mk 0 0 0 2 2 2)] : List R6))) (xw o8_0)) (tt k7 (tt k6 (pp (pp (xI R6 ([(R6.mk 0 0 0 2 2 2)] : List R6).length (rowsT ([(R6.mk 0 0 0 2 2 2)] : List R6))) (xw o6_0)) (tt k5 (tt k4 (pp (pp (xI R6 ([(R6.mk 0 0 0 2 2 2)] : List R6).length (rowsT ([(R6.mk 0 0 0 2 2 2)] : List R6))) (xw o4_0)) (tt k3 (tt k2 (pp (pp (xI R6 ([(R6.mk 0 0 0 2 2 2)] : List R6).length (rowsT ([(R6.mk 0 0 0 2 2 2)] : List R6))) (xw o2_0)) (tt k1 (tt k0 (pp (pp (xI R6 ([(R6.mk 0 0 0 2 2 2)] : List R6).length (rowsT ([(R6.mk 0 0 0 2 2 2)] : List R6))) (xw o0_1)) (pp (pp (xI R6 ([(R6.mk 0 0 0 2 2 2)] : List R6).length (rowsT ([(R6.mk 0 0 0 2 2 2)] : List R6))) (pp (xI R6 ([(R6.mk 2 0 0 3 1 4)] : List R6).length (rowsT ([(R6.mk 2 0 0 3 1 4)] : List R6))) (xw o0_0))) nn))))))))))))))))))))) (fun k10 => (lead_bif (fun k11 => (lr 51 20 [1, 1, 1, 0, 1, 0, 0, 1, 0, 0, 1, 1, 0, 0] 1 20 [(0, (.bool false))] (sl Te_ok 244 [] ⟨[], [], [some [0]], []⟩ ⟨[], [], []⟩ [true, false, false, false, true, false, false, false, true, false, false, false, true, false, false, false, true, false, false, false, true, false, false, true] (tt k11 (tt k10 (pp (pp (xI R6 ([(R6.mk 0 0 0 2 2 2)] : List R6).length (rowsT ([(R6.mk 0 0 0 2 2 2)] : List R6))) (xw o10_0)) (tt k9 (tt k8 (pp (pp (xI R6 ([(R6.mk 0 0 0 2 2 2)] : List R6).length (rowsT ([(R6.mk 0 0 0 2 2 2)] : List R6))) (xw o8_0)) (tt k7 (tt k6 (pp (pp (xI R6 ([(R6.mk 0 0 0 2 2 2)] : List R6).length (rowsT ([(R6.mk 0 0 0 2 2 2)] : List R6))) (xw o6_0)) (tt k5 (tt k4 (pp (pp (xI R6 ([(R6.mk 0 0 0 2 2 2)] : List R6).length (rowsT ([(R6.mk 0 0 0 2 2 2)] : List R6))) (xw o4_0)) (tt k3 (tt k2 (pp (pp (xI R6 ([(R6.mk 0 0 0 2 2 2)] : List R6).length (rowsT ([(R6.mk 0 0 0 2 2 2)] : List R6))) (xw o2_0)) (tt k1 (tt k0 (pp (pp (xI R6 ([(R6.mk 0 0 0 2 2 2)] : List R6).length (rowsT ([(R6.mk 0 0 0 2 2 2)] : List R6))) (xw o0_1)) (pp (pp (xI R6 ([(R6.mk 0 0 0 2 2 2)] : List R6).length (rowsT ([(R6.mk 0 0 0 2 2 2)] : List R6))) (pp (xI R6 ([(R6.mk 2 0 0 3 1 4)] : List R6).length (rowsT ([(R6.mk 2 0 0 3 1 4)] : List R6))) (xw o0_0))) nn)))))))))))))))))))))) (fun k11 => (lead_bif (fun k12 => (lead_bif (fun k13 => (lead_goes (sl Te_ok (C' := ⟨⟨41, 0, true⟩, (regP Tryz.prog 34 [1, 0] 2), (todoP Tryz.prog 34 [1, 0] 1), none, (resultsOf Tryz.prog 34), ⟨envL [(0, (.dat ([(R6.mk 0 0 0 2 2 2)] : List R6).length (rowsT ([(R6.mk 0 0 0 2 2 2)] : List R6)))), (1, (.dat ([(R6.mk 2 0 0 3 1 4)] : List R6).length (rowsT ([(R6.mk 2 0 0 3 1 4)] : List R6)))), (2, (.int .u8 2)), (3, (.int .i64 2)), (14, (.dat ([(R6.mk 0 0 0 2 2 2)] : List R6).length (rowsT ([(R6.mk 0 0 0 2 2 2)] : List R6)))), (15, (.dat ([(R6.mk 2 0 0 3 1 4)] : List R6).length (rowsT ([(R6.mk 2 0 0 3 1 4)] : List R6))))], memL [] 0, 0, [], true⟩, [⟨⟨51, 0, true⟩, (regP Tryz.prog 20 [1, 1, 1, 1, 0] 9), (todoP Tryz.prog 20 [1, 1, 1, 1, 0] 1), none, (resultsOf Tryz.prog 20), envL [(1, (.dat ([(R6.mk 0 0 0 2 2 2)] : List R6).length (rowsT ([(R6.mk 0 0 0 2 2 2)] : List R6)))), (36, (.bool true)), (37, (.dat ([(R6.mk 0 0 0 2 2 2)] : List R6).length (rowsT ([(R6.mk 0 0 0 2 2 2)] : List R6)))), (38, (.dat ([(R6.mk 2 0 0 3 1 4)] : List R6).length (rowsT ([(R6.mk 2 0 0 3 1 4)] : List R6))))]⟩], .leaf⟩) 295 [] ⟨[], [0], [some [0, 1, 2, 3, 14, 15], some [1, 36, 37, 38]], []⟩ ⟨[(1, .frz 1 ([(R6.mk 2 0 0 3 1 4)] : List R6).length (chunk [(.int .i64 2), (.int .i64 0), (.int .i64 0), (.int .i64 3), (.int .i64 1), (.int .i64 4)] 0 6) (rowsT ([(R6.mk 2 0 0 3 1 4)] : List R6))), (15, .frz 1 ([(R6.mk 2 0 0 3 1 4)] : List R6).length (chunk [(.int .i64 2), (.int .i64 0), (.int .i64 0), (.int .i64 3), (.int .i64 1), (.int .i64 4)] 0 6) (rowsT ([(R6.mk 2 0 0 3 1 4)] : List R6)))], [], [[(38, .frz 1 ([(R6.mk 2 0 0 3 1 4)] : List R6).length (chunk [(.int .i64 2), (.int .i64 0), (.int .i64 0), (.int .i64 3), (.int .i64 1), (.int .i64 4)] 0 6) (rowsT ([(R6.mk 2 0 0 3 1 4)] : List R6)))]]⟩ [true, false, false, false, true, false, false, false, true, false, false, false, true, false, false, false, true, false, false, false, true, false, false, false, false, true, true, true, true, true] (pp (xZ (.dat 1 (chunk [(.int .i64 2), (.int .i64 0), (.int .i64 0), (.int .i64 3), (.int .i64 1), (.int .i64 4)] 0 6)) 1 (chunk [(.int .i64 2), (.int .i64 0), (.int .i64 0), (.int .i64 3), (.int .i64 1), (.int .i64 4)] 0 6)) (pp (xL 1 ([(R6.mk 2 0 0 3 1 4)] : List R6).length) (pp (xS 1 (chunk [(.int .i64 2), (.int .i64 0), (.int .i64 0), (.int .i64 3), (.int .i64 1), (.int .i64 4)] 0 6) (rowsT ([(R6.mk 2 0 0 3 1 4)] : List R6))) (pp (xZ (.dat 1 (chunk [(.int .i64 2), (.int .i64 0), (.int .i64 0), (.int .i64 3), (.int .i64 1), (.int .i64 4)] 0 6)) 1 (chunk [(.int .i64 2), (.int .i64 0), (.int .i64 0), (.int .i64 3), (.int .i64 1), (.int .i64 4)] 0 6)) (pp (xL 1 ([(R6.mk 2 0 0 3 1 4)] : List R6).length) (pp (xS 1 (chunk [(.int .i64 2), (.int .i64 0), (.int .i64 0), (.int .i64 3), (.int .i64 1), (.int .i64 4)] 0 6) (rowsT ([(R6.mk 2 0 0 3 1 4)] : List R6))) (pp (xZ (.dat 1 (chunk [(.int .i64 2), (.int .i64 0), (.int .i64 0), (.int .i64 3), (.int .i64 1), (.int .i64 4)] 0 6)) 1 (chunk [(.int .i64 2), (.int .i64 0), (.int .i64 0), (.int .i64 3), (.int .i64 1), (.int .i64 4)] 0 6)) (pp (xL 1 ([(R6.mk 2 0 0 3 1 4)] : List R6).length) (pp (xS 1 (chunk [(.int .i64 2), (.int .i64 0), (.int .i64 0), (.int .i64 3), (.int .i64 1), (.int .i64 4)] 0 6) (rowsT ([(R6.mk 2 0 0 3 1 4)] : List R6))) (tt k13 (tt k12 (tt k11 (tt k10 (pp (pp (xI R6 ([(R6.mk 0 0 0 2 2 2)] : List R6).length (rowsT ([(R6.mk 0 0 0 2 2 2)] : List R6))) (xw o10_0)) (tt k9 (tt k8 (pp (pp (xI R6 ([(R6.mk 0 0 0 2 2 2)] : List R6).length (rowsT ([(R6.mk 0 0 0 2 2 2)] : List R6))) (xw o8_0)) (tt k7 (tt k6 (pp (pp (xI R6 ([(R6.mk 0 0 0 2 2 2)] : List R6).length (rowsT ([(R6.mk 0 0 0 2 2 2)] : List R6))) (xw o6_0)) (tt k5 (tt k4 (pp (pp (xI R6 ([(R6.mk 0 0 0 2 2 2)] : List R6).length (rowsT ([(R6.mk 0 0 0 2 2 2)] : List R6))) (xw o4_0)) (tt k3 (tt k2 (pp (pp (xI R6 ([(R6.mk 0 0 0 2 2 2)] : List R6).length (rowsT ([(R6.mk 0 0 0 2 2 2)] : List R6))) (xw o2_0)) (tt k1 (tt k0 (pp (pp (xI R6 ([(R6.mk 0 0 0 2 2 2)] : List R6).length (rowsT ([(R6.mk 0 0 0 2 2 2)] : List R6))) (xw o0_1)) (pp (pp (xI R6 ([(R6.mk 0 0 0 2 2 2)] : List R6).length (rowsT ([(R6.mk 0 0 0 2 2 2)] : List R6))) (pp (xI R6 ([(R6.mk 2 0 0 3 1 4)] : List R6).length (rowsT ([(R6.mk 2 0 0 3 1 4)] : List R6))) (xw o0_0))) nn))))))))))))))))))))))))))))))) (lead_owe fun o14_0 => (lead_owe fun o14_1 => (lead_bif (fun k14 => (lead_bif (fun k15 => (lead_bif (fun k16 => (lead_bif (fun k17 => (lead_goes (sl Te_ok (C' := ⟨⟨41, 0, true⟩, (regP Tryz.prog 34 [1, 0] 2), (todoP Tryz.prog 34 [1, 0] 1), none, (resultsOf Tryz.prog 34), ⟨envL [(0, (.dat ([(R6.mk 0 0 0 1 1 1)] : List R6).length (rowsT ([(R6.mk 0 0 0 1 1 1)] : List R6)))), (1, (.dat ([(R6.mk 0 0 0 2 2 2)] : List R6).length (rowsT ([(R6.mk 0 0 0 2 2 2)] : List R6)))), (2, (.int .u8 4)), (3, (.int .i64 0)), (14, (.dat ([(R6.mk 0 0 0 1 1 1)] : List R6).length (rowsT ([(R6.mk 0 0 0 1 1 1)] : List R6)))), (15, (.dat ([(R6.mk 0 0 0 2 2 2)] : List R6).length (rowsT ([(R6.mk 0 0 0 2 2 2)] : List R6))))], memL [] 0, 0, [], true⟩, [⟨⟨51, 0, true⟩, (regP Tryz.prog 20 [1, 1, 1, 1, 0] 14), (todoP Tryz.prog 20 [1, 1, 1, 1, 0] 1), none, (resultsOf Tryz.prog 20), envL [(1, (.dat ([(R6.mk 0 0 0 2 2 2)] : List R6).length (rowsT ([(R6.mk 0 0 0 2 2 2)] : List R6)))), (41, (.bool true)), (42, (.dat ([(R6.mk 0 0 0 1 1 1)] : List R6).length (rowsT ([(R6.mk 0 0 0 1 1 1)] : List R6)))), (43, (.dat ([(R6.mk 0 0 0 2 2 2)] : List R6).length (rowsT ([(R6.mk 0 0 0 2 2 2)] : List R6))))]⟩], .leaf⟩) 71 [] ⟨[], [0], [some [0, 1, 2, 3, 14, 15], some [1, 41, 42, 43]], []⟩ ⟨[(0, .frz 1 ([(R6.mk 0 0 0 1 1 1)] : List R6).length (chunk [(.int .i64 0), (.int .i64 0), (.int .i64 0), (.int .i64 1), (.int .i64 1), (.int .i64 1)] 0 6) (rowsT ([(R6.mk 0 0 0 1 1 1)] : List R6))), (14, .frz 1 ([(R6.mk 0 0 0 1 1 1)] : List R6).length (chunk [(.int .i64 0), (.int .i64 0), (.int .i64 0), (.int .i64 1), (.int .i64 1), (.int .i64 1)] 0 6) (rowsT ([(R6.mk 0 0 0 1 1 1)] : List R6)))], [], [[(42, .frz 1 ([(R6.mk 0 0 0 1 1 1)] : List R6).length (chunk [(.int .i64 0), (.int .i64 0), (.int .i64 0), (.int .i64 1), (.int .i64 1), (.int .i64 1)] 0 6) (rowsT ([(R6.mk 0 0 0 1 1 1)] : List R6)))]]⟩ (trs 11 []) (pp (xZ (.dat 1 (chunk [(.int .i64 0), (.int .i64 0), (.int .i64 0), (.int .i64 1), (.int .i64 1), (.int .i64 1)] 0 6)) 1 (chunk [(.int .i64 0), (.int .i64 0), (.int .i64 0), (.int .i64 1), (.int .i64 1), (.int .i64 1)] 0 6)) (pp (xL 1 ([(R6.mk 0 0 0 1 1 1)] : List R6).length) (pp (xS 1 (chunk [(.int .i64 0), (.int .i64 0), (.int .i64 0), (.int .i64 1), (.int .i64 1), (.int .i64 1)] 0 6) (rowsT ([(R6.mk 0 0 0 1 1 1)] : List R6))) (pp (xZ (.dat 1 (chunk [(.int .i64 0), (.int .i64 0), (.int .i64 0), (.int .i64 1), (.int .i64 1), (.int .i64 1)] 0 6)) 1 (chunk [(.int .i64 0), (.int .i64 0), (.int .i64 0), (.int .i64 1), (.int .i64 1), (.int .i64 1)] 0 6)) (pp (xL 1 ([(R6.mk 0 0 0 1 1 1)] : List R6).length) (pp (xS 1 (chunk [(.int .i64 0), (.int .i64 0), (.int .i64 0), (.int .i64 1), (.int .i64 1), (.int .i64 1)] 0 6) (rowsT ([(R6.mk 0 0 0 1 1 1)] : List R6))) (pp (xZ (.dat 1 (chunk [(.int .i64 0), (.int .i64 0), (.int .i64 0), (.int .i64 1), (.int .i64 1), (.int .i64 1)] 0 6)) 1 (chunk [(.int .i64 0), (.int .i64 0), (.int .i64 0), (.int .i64 1), (.int .i64 1), (.int .i64 1)] 0 6)) (pp (xL 1 ([(R6.mk 0 0 0 1 1 1)] : List R6).length) (pp (xS 1 (chunk [(.int .i64 0), (.int .i64 0), (.int .i64 0), (.int .i64 1), (.int .i64 1), (.int .i64 1)] 0 6) (rowsT ([(R6.mk 0 0 0 1 1 1)] : List R6))) (tt k17 (tt k16 (tt k15 (tt k14 (pp (pp (xI R6 ([(R6.mk 0 0 0 2 2 2)] : List R6).length (rowsT ([(R6.mk 0 0 0 2 2 2)] : List R6))) (pp (xI R6 ([(R6.mk 2 0 0 3 1 4)] : List R6).length (rowsT ([(R6.mk 2 0 0 3 1 4)] : List R6))) (xw o14_1))) (pp (pp (xI R6 ([(R6.mk 0 0 0 2 2 2)] : List R6).length (rowsT ([(R6.mk 0 0 0 2 2 2)] : List R6))) (pp (xI R6 ([(R6.mk 2 0 0 3 1 4)] : List R6).length (rowsT ([(R6.mk 2 0 0 3 1 4)] : List R6))) (xw o14_0))) nn)))))))))))))))) (lead_owe fun o18_0 => (lead_owe fun o18_1 => (lead_bif (fun k18 => (lead_bif (fun k19 => (lead_bif (fun k20 => (lead_bif (fun k21 => (lead_goes (sl Te_ok (C' := ⟨⟨41, 0, true⟩, (regP Tryz.prog 34 [1, 0] 2), (todoP Tryz.prog 34 [1, 0] 1), none, (resultsOf Tryz.prog 34), ⟨envL [(0, (.dat ([(R6.mk 0 0 0 2 2 2)] : List R6).length (rowsT ([(R6.mk 0 0 0 2 2 2)] : List R6)))), (1, (.dat ([(R6.mk 1 1 1 3 3 3)] : List R6).length (rowsT ([(R6.mk 1 1 1 3 3 3)] : List R6)))), (2, (.int .u8 3)), (3, (.int .i64 0)), (14, (.dat ([(R6.mk 0 0 0 2 2 2)] : List R6).length (rowsT ([(R6.mk 0 0 0 2 2 2)] : List R6)))), (15, (.dat ([(R6.mk 1 1 1 3 3 3)] : List R6).length (rowsT ([(R6.mk 1 1 1 3 3 3)] : List R6))))], memL [] 0, 0, [], true⟩, [⟨⟨51, 0, true⟩, (regP Tryz.prog 20 [1, 1, 1, 1, 0] 19), (todoP Tryz.prog 20 [1, 1, 1, 1, 0] 1), none, (resultsOf Tryz.prog 20), envL [(46, (.bool true)), (47, (.dat ([(R6.mk 0 0 0 2 2 2)] : List R6).length (rowsT ([(R6.mk 0 0 0 2 2 2)] : List R6)))), (48, (.dat ([(R6.mk 1 1 1 3 3 3)] : List R6).length (rowsT ([(R6.mk 1 1 1 3 3 3)] : List R6))))]⟩], .leaf⟩) 71 [] ⟨[], [0], [some [0, 1, 2, 3, 14, 15], some [46, 47, 48]], []⟩ ⟨[(1, .frz 1 ([(R6.mk 1 1 1 3 3 3)] : List R6).length (chunk [(.int .i64 1), (.int .i64 1), (.int .i64 1), (.int .i64 3), (.int .i64 3), (.int .i64 3)] 0 6) (rowsT ([(R6.mk 1 1 1 3 3 3)] : List R6))), (15, .frz 1 ([(R6.mk 1 1 1 3 3 3)] : List R6).length (chunk [(.int .i64 1), (.int .i64 1), (.int .i64 1), (.int .i64 3), (.int .i64 3), (.int .i64 3)] 0 6) (rowsT ([(R6.mk 1 1 1 3 3 3)] : List R6)))], [], [[(48, .frz 1 ([(R6.mk 1 1 1 3 3 3)] : List R6).length (chunk [(.int .i64 1), (.int .i64 1), (.int .i64 1), (.int .i64 3), (.int .i64 3), (.int .i64 3)] 0 6) (rowsT ([(R6.mk 1 1 1 3 3 3)] : List R6)))]]⟩ (trs 11 []) (pp (xZ (.dat 1 (chunk [(.int .i64 1), (.int .i64 1), (.int .i64 1), (.int .i64 3), (.int .i64 3), (.int .i64 3)] 0 6)) 1 (chunk [(.int .i64 1), (.int .i64 1), (.int .i64 1), (.int .i64 3), (.int .i64 3), (.int .i64 3)] 0 6)) (pp (xL 1 ([(R6.mk 1 1 1 3 3 3)] : List R6).length) (pp (xS 1 (chunk [(.int .i64 1), (.int .i64 1), (.int .i64 1), (.int .i64 3), (.int .i64 3), (.int .i64 3)] 0 6) (rowsT ([(R6.mk 1 1 1 3 3 3)] : List R6))) (pp (xZ (.dat 1 (chunk [(.int .i64 1), (.int .i64 1), (.int .i64 1), (.int .i64 3), (.int .i64 3), (.int .i64 3)] 0 6)) 1 (chunk [(.int .i64 1), (.int .i64 1), (.int .i64 1), (.int .i64 3), (.int .i64 3), (.int .i64 3)] 0 6)) (pp (xL 1 ([(R6.mk 1 1 1 3 3 3)] : List R6).length) (pp (xS 1 (chunk [(.int .i64 1), (.int .i64 1), (.int .i64 1), (.int .i64 3), (.int .i64 3), (.int .i64 3)] 0 6) (rowsT ([(R6.mk 1 1 1 3 3 3)] : List R6))) (pp (xZ (.dat 1 (chunk [(.int .i64 1), (.int .i64 1), (.int .i64 1), (.int .i64 3), (.int .i64 3), (.int .i64 3)] 0 6)) 1 (chunk [(.int .i64 1), (.int .i64 1), (.int .i64 1), (.int .i64 3), (.int .i64 3), (.int .i64 3)] 0 6)) (pp (xL 1 ([(R6.mk 1 1 1 3 3 3)] : List R6).length) (pp (xS 1 (chunk [(.int .i64 1), (.int .i64 1), (.int .i64 1), (.int .i64 3), (.int .i64 3), (.int .i64 3)] 0 6) (rowsT ([(R6.mk 1 1 1 3 3 3)] : List R6))) (tt k21 (tt k20 (tt k19 (tt k18 (pp (pp (xI R6 ([(R6.mk 0 0 0 1 1 1)] : List R6).length (rowsT ([(R6.mk 0 0 0 1 1 1)] : List R6))) (pp (xI R6 ([(R6.mk 0 0 0 2 2 2)] : List R6).length (rowsT ([(R6.mk 0 0 0 2 2 2)] : List R6))) (xw o18_1))) (pp (pp (xI R6 ([(R6.mk 0 0 0 1 1 1)] : List R6).length (rowsT ([(R6.mk 0 0 0 1 1 1)] : List R6))) (pp (xI R6 ([(R6.mk 0 0 0 2 2 2)] : List R6).length (rowsT ([(R6.mk 0 0 0 2 2 2)] : List R6))) (xw o18_0))) nn)))))))))))))))) (lead_owe fun o22_0 => (lead_owe fun o22_1 => (lead_bif (fun k22 => (lead_bif (fun k23 => (lead_bif (fun k24 => (lr 51 3 [1, 1, 1, 1, 1, 1, 0] 1 20 [(0, (.bool ((ocoV_0 (cvT ([(R6.mk 0 0 0 2 2 2)] : List R6)) (cvT ([(R6.mk 1 1 1 3 3 3)] : List R6))) == 0)))] (sl Te_ok 42 [] ⟨[], [], [some [0]], []⟩ ⟨[], [], []⟩ (trs 8 []) (tt k24 (tt k23 (tt k22 (pp (pp (xI R6 ([(R6.mk 0 0 0 2 2 2)] : List R6).length (rowsT ([(R6.mk 0 0 0 2 2 2)] : List R6))) (pp (xI R6 ([(R6.mk 1 1 1 3 3 3)] : List R6).length (rowsT ([(R6.mk 1 1 1 3 3 3)] : List R6))) (xw o22_1))) (pp (pp (xI R6 ([(R6.mk 0 0 0 2 2 2)] : List R6).length (rowsT ([(R6.mk 0 0 0 2 2 2)] : List R6))) (pp (xI R6 ([(R6.mk 1 1 1 3 3 3)] : List R6).length (rowsT ([(R6.mk 1 1 1 3 3 3)] : List R6))) (xw o22_0))) nn)))))))) (fun k24 => (lr 51 3 [1, 1, 1, 1, 1, 1, 0] 1 20 [(0, (.bool false))] (sl Te_ok 42 [] ⟨[], [], [some [0]], []⟩ ⟨[], [], []⟩ (trs 5 [false, false, false]) (tt k24 (tt k23 (tt k22 (pp (pp (xI R6 ([(R6.mk 0 0 0 2 2 2)] : List R6).length (rowsT ([(R6.mk 0 0 0 2 2 2)] : List R6))) (pp (xI R6 ([(R6.mk 1 1 1 3 3 3)] : List R6).length (rowsT ([(R6.mk 1 1 1 3 3 3)] : List R6))) (xw o22_1))) (pp (pp (xI R6 ([(R6.mk 0 0 0 2 2 2)] : List R6).length (rowsT ([(R6.mk 0 0 0 2 2 2)] : List R6))) (pp (xI R6 ([(R6.mk 1 1 1 3 3 3)] : List R6).length (rowsT ([(R6.mk 1 1 1 3 3 3)] : List R6))) (xw o22_0))) nn)))))))))) (fun k23 => (lr 51 3 [1, 1, 1, 1, 1, 1, 0] 1 20 [(0, (.bool false))] (sl Te_ok 42 [] ⟨[], [], [some [0]], []⟩ ⟨[], [], []⟩ (trs 3 [false, false, false, false, false]) (tt k23 (tt k22 (pp (pp (xI R6 ([(R6.mk 0 0 0 2 2 2)] : List R6).length (rowsT ([(R6.mk 0 0 0 2 2 2)] : List R6))) (pp (xI R6 ([(R6.mk 1 1 1 3 3 3)] : List R6).length (rowsT ([(R6.mk 1 1 1 3 3 3)] : List R6))) (xw o22_1))) (pp (pp (xI R6 ([(R6.mk 0 0 0 2 2 2)] : List R6).length (rowsT ([(R6.mk 0 0 0 2 2 2)] : List R6))) (pp (xI R6 ([(R6.mk 1 1 1 3 3 3)] : List R6).length (rowsT ([(R6.mk 1 1 1 3 3 3)] : List R6))) (xw o22_0))) nn))))))))) (fun k22 => (lr 51 3 [1, 1, 1, 1, 1, 1, 0] 1 20 [(0, (.bool false))] (sl Te_ok 42 [] ⟨[], [], [some [0]], []⟩ ⟨[], [], []⟩ [false, false, false, false, false, false, false, false] (tt k22 (pp (pp (xI R6 ([(R6.mk 0 0 0 2 2 2)] : List R6).length (rowsT ([(R6.mk 0 0 0 2 2 2)] : List R6))) (pp (xI R6 ([(R6.mk 1 1 1 3 3 3)] : List R6).length (rowsT ([(R6.mk 1 1 1 3 3 3)] : List R6))) (xw o22_1))) (pp (pp (xI R6 ([(R6.mk 0 0 0 2 2 2)] : List R6).length (rowsT ([(R6.mk 0 0 0 2 2 2)] : List R6))) (pp (xI R6 ([(R6.mk 1 1 1 3 3 3)] : List R6).length (rowsT ([(R6.mk 1 1 1 3 3 3)] : List R6))) (xw o22_0))) nn))))))))))) (fun k21 => (lr 51 3 [1, 1, 1, 1, 1, 1, 0] 1 20 [(0, (.bool false))] (sl Te_ok 47 [] ⟨[], [], [some [0]], []⟩ ⟨[], [], []⟩ (trs 8 [false, false, false]) (tt k21 (tt k20 (tt k19 (tt k18 (pp (pp (xI R6 ([(R6.mk 0 0 0 1 1 1)] : List R6).length (rowsT ([(R6.mk 0 0 0 1 1 1)] : List R6))) (pp (xI R6 ([(R6.mk 0 0 0 2 2 2)] : List R6).length (rowsT ([(R6.mk 0 0 0 2 2 2)] : List R6))) (xw o18_1))) (pp (pp (xI R6 ([(R6.mk 0 0 0 1 1 1)] : List R6).length (rowsT ([(R6.mk 0 0 0 1 1 1)] : List R6))) (pp (xI R6 ([(R6.mk 0 0 0 2 2 2)] : List R6).length (rowsT ([(R6.mk 0 0 0 2 2 2)] : List R6))) (xw o18_0))) nn))))))))))) (fun k20 => (lr 51 3 [1, 1, 1, 1, 1, 1, 0] 1 20 [(0, (.bool false))] (sl Te_ok 47 [] ⟨[], [], [some [0]], []⟩ ⟨[], [], []⟩ (trs 5 [false, false, false, false, false, false]) (tt k20 (tt k19 (tt k18 (pp (pp (xI R6 ([(R6.mk 0 0 0 1 1 1)] : List R6).length (rowsT ([(R6.mk 0 0 0 1 1 1)] : List R6))) (pp (xI R6 ([(R6.mk 0 0 0 2 2 2)] : List R6).length (rowsT ([(R6.mk 0 0 0 2 2 2)] : List R6))) (xw o18_1))) (pp (pp (xI R6 ([(R6.mk 0 0 0 1 1 1)] : List R6).length (rowsT ([(R6.mk 0 0 0 1 1 1)] : List R6))) (pp (xI R6 ([(R6.mk 0 0 0 2 2 2)] : List R6).length (rowsT ([(R6.mk 0 0 0 2 2 2)] : List R6))) (xw o18_0))) nn)))))))))) (fun k19 => (lr 51 3 [1, 1, 1, 1, 1, 1, 0] 1 20 [(0, (.bool false))] (sl Te_ok 47 [] ⟨[], [], [some [0]], []⟩ ⟨[], [], []⟩ (trs 3 [false, false, false, false, false, false, false, false]) (tt k19 (tt k18 (pp (pp (xI R6 ([(R6.mk 0 0 0 1 1 1)] : List R6).length (rowsT ([(R6.mk 0 0 0 1 1 1)] : List R6))) (pp (xI R6 ([(R6.mk 0 0 0 2 2 2)] : List R6).length (rowsT ([(R6.mk 0 0 0 2 2 2)] : List R6))) (xw o18_1))) (pp (pp (xI R6 ([(R6.mk 0 0 0 1 1 1)] : List R6).length (rowsT ([(R6.mk 0 0 0 1 1 1)] : List R6))) (pp (xI R6 ([(R6.mk 0 0 0 2 2 2)] : List R6).length (rowsT ([(R6.mk 0 0 0 2 2 2)] : List R6))) (xw o18_0))) nn))))))))) (fun k18 => (lr 51 3 [1, 1, 1, 1, 1, 1, 0] 1 20 [(0, (.bool false))] (sl Te_ok 47 [] ⟨[], [], [some [0]], []⟩ ⟨[], [], []⟩ [false, false, false, false, false, false, false, false, false, false, false] (tt k18 (pp (pp (xI R6 ([(R6.mk 0 0 0 1 1 1)] : List R6).length (rowsT ([(R6.mk 0 0 0 1 1 1)] : List R6))) (pp (xI R6 ([(R6.mk 0 0 0 2 2 2)] : List R6).length (rowsT ([(R6.mk 0 0 0 2 2 2)] : List R6))) (xw o18_1))) (pp (pp (xI R6 ([(R6.mk 0 0 0 1 1 1)] : List R6).length (rowsT ([(R6.mk 0 0 0 1 1 1)] : List R6))) (pp (xI R6 ([(R6.mk 0 0 0 2 2 2)] : List R6).length (rowsT ([(R6.mk 0 0 0 2 2 2)] : List R6))) (xw o18_0))) nn))))))))))) (fun k17 => (lr 51 3 [1, 1, 1, 1, 1, 1, 0] 1 20 [(0, (.bool false))] (sl Te_ok 52 [] ⟨[], [], [some [0]], []⟩ ⟨[], [], []⟩ (trs 8 [false, false, false, false, false, false]) (tt k17 (tt k16 (tt k15 (tt k14 (pp (pp (xI R6 ([(R6.mk 0 0 0 2 2 2)] : List R6).length (rowsT ([(R6.mk 0 0 0 2 2 2)] : List R6))) (pp (xI R6 ([(R6.mk 2 0 0 3 1 4)] : List R6).length (rowsT ([(R6.mk 2 0 0 3 1 4)] : List R6))) (xw o14_1))) (pp (pp (xI R6 ([(R6.mk 0 0 0 2 2 2)] : List R6).length (rowsT ([(R6.mk 0 0 0 2 2 2)] : List R6))) (pp (xI R6 ([(R6.mk 2 0 0 3 1 4)] : List R6).length (rowsT ([(R6.mk 2 0 0 3 1 4)] : List R6))) (xw o14_0))) nn))))))))))) (fun k16 => (lr 51 3 [1, 1, 1, 1, 1, 1, 0] 1 20 [(0, (.bool false))] (sl Te_ok 52 [] ⟨[], [], [some [0]], []⟩ ⟨[], [], []⟩ (trs 5 [false, false, false, false, false, false, false, false, false]) (tt k16 (tt k15 (tt k14 (pp (pp (xI R6 ([(R6.mk 0 0 0 2 2 2)] : List R6).length (rowsT ([(R6.mk 0 0 0 2 2 2)] : List R6))) (pp (xI R6 ([(R6.mk 2 0 0 3 1 4)] : List R6).length (rowsT ([(R6.mk 2 0 0 3 1 4)] : List R6))) (xw o14_1))) (pp (pp (xI R6 ([(R6.mk 0 0 0 2 2 2)] : List R6).length (rowsT ([(R6.mk 0 0 0 2 2 2)] : List R6))) (pp (xI R6 ([(R6.mk 2 0 0 3 1 4)] : List R6).length (rowsT ([(R6.mk 2 0 0 3 1 4)] : List R6))) (xw o14_0))) nn)))))))))) (fun k15 => (lr 51 3 [1, 1, 1, 1, 1, 1, 0] 1 20 [(0, (.bool false))] (sl Te_ok 52 [] ⟨[], [], [some [0]], []⟩ ⟨[], [], []⟩ (trs 3 [false, false, false, false, false, false, false, false, false, false, false]) (tt k15 (tt k14 (pp (pp (xI R6 ([(R6.mk 0 0 0 2 2 2)] : List R6).length (rowsT ([(R6.mk 0 0 0 2 2 2)] : List R6))) (pp (xI R6 ([(R6.mk 2 0 0 3 1 4)] : List R6).length (rowsT ([(R6.mk 2 0 0 3 1 4)] : List R6))) (xw o14_1))) (pp (pp (xI R6 ([(R6.mk 0 0 0 2 2 2)] : List R6).length (rowsT ([(R6.mk 0 0 0 2 2 2)] : List R6))) (pp (xI R6 ([(R6.mk 2 0 0 3 1 4)] : List R6).length (rowsT ([(R6.mk 2 0 0 3 1 4)] : List R6))) (xw o14_0))) nn))))))))) (fun k14 => (lr 51 3 [1, 1, 1, 1, 1, 1, 0] 1 20 [(0, (.bool false))] (sl Te_ok 52 [] ⟨[], [], [some [0]], []⟩ ⟨[], [], []⟩ [false, false, false, false, false, false, false, false, false, false, false, false, false, false] (tt k14 (pp (pp (xI R6 ([(R6.mk 0 0 0 2 2 2)] : List R6).length (rowsT ([(R6.mk 0 0 0 2 2 2)] : List R6))) (pp (xI R6 ([(R6.mk 2 0 0 3 1 4)] : List R6).length (rowsT ([(R6.mk 2 0 0 3 1 4)] : List R6))) (xw o14_1))) (pp (pp (xI R6 ([(R6.mk 0 0 0 2 2 2)] : List R6).length (rowsT ([(R6.mk 0 0 0 2 2 2)] : List R6))) (pp (xI R6 ([(R6.mk 2 0 0 3 1 4)] : List R6).length (rowsT ([(R6.mk 2 0 0 3 1 4)] : List R6))) (xw o14_0))) nn))))))))))) (fun k13 => (lr 51 3 [1, 1, 1, 1, 1, 1, 0] 1 20 [(0, (.bool false))] (sl Te_ok 281 [] ⟨[], [], [some [0]], []⟩ ⟨[], [], []⟩ [true, false, false, false, true, false, false, false, true, false, false, false, true, false, false, false, true, false, false, false, true, false, false, false, false, true, true, false, false, false, false, false, false, false, false, false] (tt k13 (tt k12 (tt k11 (tt k10 (pp (pp (xI R6 ([(R6.mk 0 0 0 2 2 2)] : List R6).length (rowsT ([(R6.mk 0 0 0 2 2 2)] : List R6))) (xw o10_0)) (tt k9 (tt k8 (pp (pp (xI R6 ([(R6.mk 0 0 0 2 2 2)] : List R6).length (rowsT ([(R6.mk 0 0 0 2 2 2)] : List R6))) (xw o8_0)) (tt k7 (tt k6 (pp (pp (xI R6 ([(R6.mk 0 0 0 2 2 2)] : List R6).length (rowsT ([(R6.mk 0 0 0 2 2 2)] : List R6))) (xw o6_0)) (tt k5 (tt k4 (pp (pp (xI R6 ([(R6.mk 0 0 0 2 2 2)] : List R6).length (rowsT ([(R6.mk 0 0 0 2 2 2)] : List R6))) (xw o4_0)) (tt k3 (tt k2 (pp (pp (xI R6 ([(R6.mk 0 0 0 2 2 2)] : List R6).length (rowsT ([(R6.mk 0 0 0 2 2 2)] : List R6))) (xw o2_0)) (tt k1 (tt k0 (pp (pp (xI R6 ([(R6.mk 0 0 0 2 2 2)] : List R6).length (rowsT ([(R6.mk 0 0 0 2 2 2)] : List R6))) (xw o0_1)) (pp (pp (xI R6 ([(R6.mk 0 0 0 2 2 2)] : List R6).length (rowsT ([(R6.mk 0 0 0 2 2 2)] : List R6))) (pp (xI R6 ([(R6.mk 2 0 0 3 1 4)] : List R6).length (rowsT ([(R6.mk 2 0 0 3 1 4)] : List R6))) (xw o0_0))) nn)))))))))))))))))))))))))) (fun k12 => (lr 51 3 [1, 1, 1, 1, 1, 1, 0] 1 20 [(0, (.bool false))] (sl Te_ok 281 [] ⟨[], [], [some [0]], []⟩ ⟨[], [], []⟩ [true, false, false, false, true, false, false, false, true, false, false, false, true, false, false, false, true, false, false, false, true, false, false, false, false, false, false, false, false, false, false, false, false, false, false, false] (tt k12 (tt k11 (tt k10 (pp (pp (xI R6 ([(R6.mk 0 0 0 2 2 2)] : List R6).length (rowsT ([(R6.mk 0 0 0 2 2 2)] : List R6))) (xw o10_0)) (tt k9 (tt k8 (pp (pp (xI R6 ([(R6.mk 0 0 0 2 2 2)] : List R6).length (rowsT ([(R6.mk 0 0 0 2 2 2)] : List R6))) (xw o8_0)) (tt k7 (tt k6 (pp (pp (xI R6 ([(R6.mk 0 0 0 2 2 2)] : List R6).length (rowsT ([(R6.mk 0 0 0 2 2 2)] : List R6))) (xw o6_0)) (tt k5 (tt k4 (pp (pp (xI R6 ([(R6.mk 0 0 0 2 2 2)] : List R6).length (rowsT ([(R6.mk 0 0 0 2 2 2)] : List R6))) (xw o4_0)) (tt k3 (tt k2 (pp (pp (xI R6 ([(R6.mk 0 0 0 2 2 2)] : List R6).length (rowsT ([(R6.mk 0 0 0 2 2 2)] : List R6))) (xw o2_0)) (tt k1 (tt k0 (pp (pp (xI R6 ([(R6.mk 0 0 0 2 2 2)] : List R6).length (rowsT ([(R6.mk 0 0 0 2 2 2)] : List R6))) (xw o0_1)) (pp (pp (xI R6 ([(R6.mk 0 0 0 2 2 2)] : List R6).length (rowsT ([(R6.mk 0 0 0 2 2 2)] : List R6))) (pp (xI R6 ([(R6.mk 2 0 0 3 1 4)] : List R6).length (rowsT ([(R6.mk 2 0 0 3 1 4)] : List R6))) (xw o0_0))) nn))))))))))))))))))))))))))))))))))))))))))))))))))))))))
theorem ali_ends (n : Nat) (vs : List AVal) (h : goOn (alistep) n (alistart) = .ret vs) : Ends Tryz.prog (resultsOf Tryz.prog 20) (startC Tryz.prog 20 [] true []) vs := by
  have := goOn_lead (alistep_ok) n _ (alistart_ok)
  rwa [h] at this
end Go.Am
end
section
set_option linter.unusedVariables false
set_option linter.unusedSimpArgs false
namespace Go.Am
open Go.Proofs
set_option maxRecDepth 100000
set_option maxHeartbeats 4000000
set_option linter.unusedVariables false
set_option linter.unusedSimpArgs false
theorem sck_lit {l : List R6} (h : rckV_0 l = 0) : sckV_0 l = 0 := (check_eq l).trans h
theorem litC : sckV_0 ([(R6.mk 0 0 0 2 2 2)] : List R6) = 0 := sck_lit (by kernel_rfl)
theorem litA : sckV_0 ([(R6.mk 2 0 0 3 1 4)] : List R6) = 0 := sck_lit (by kernel_rfl)
theorem litB : sckV_0 ([(R6.mk 0 0 0 1 1 1)] : List R6) = 0 := sck_lit (by kernel_rfl)
theorem litD : sckV_0 ([(R6.mk 1 1 1 3 3 3)] : List R6) = 0 := sck_lit (by kernel_rfl)
theorem al0 : osiV_1 ([(R6.mk 0 0 0 2 2 2)] : List R6) 0 = 0 := by
  unfold osiV_1
  rw [litC]
  kernel_rfl
theorem al1 : osiV_0 ([(R6.mk 0 0 0 2 2 2)] : List R6) 0 = 4 := by
  unfold osiV_0
  rw [litC]
  kernel_rfl
theorem al2 : osiV_1 ([(R6.mk 0 0 0 2 2 2)] : List R6) 1 = 0 := by
  unfold osiV_1
  rw [litC]
  kernel_rfl
theorem al3 : osiV_0 ([(R6.mk 0 0 0 2 2 2)] : List R6) 1 = 4 := by
  unfold osiV_0
  rw [litC]
  kernel_rfl
theorem al4 : osiV_1 ([(R6.mk 0 0 0 2 2 2)] : List R6) 2 = 0 := by
  unfold osiV_1
  rw [litC]
  kernel_rfl
theorem al5 : osiV_0 ([(R6.mk 0 0 0 2 2 2)] : List R6) 2 = 4 := by
  unfold osiV_0
  rw [litC]
  kernel_rfl
theorem al6 : osiV_1 ([(R6.mk 0 0 0 2 2 2)] : List R6) 3 = 0 := by
  unfold osiV_1
  rw [litC]
  kernel_rfl
theorem al7 : osiV_0 ([(R6.mk 0 0 0 2 2 2)] : List R6) 3 = 4 := by
  unfold osiV_0
  rw [litC]
  kernel_rfl
theorem al8 : osiV_1 ([(R6.mk 0 0 0 2 2 2)] : List R6) 4 = 0 := by
  unfold osiV_1
  rw [litC]
  kernel_rfl
theorem al9 : osiV_0 ([(R6.mk 0 0 0 2 2 2)] : List R6) 4 = 4 := by
  unfold osiV_0
  rw [litC]
  kernel_rfl
theorem al10 : osiV_1 ([(R6.mk 0 0 0 2 2 2)] : List R6) 5 = 0 := by
  unfold osiV_1
  rw [litC]
  kernel_rfl
theorem al11 : osiV_0 ([(R6.mk 0 0 0 2 2 2)] : List R6) 5 = 4 := by
  unfold osiV_0
  rw [litC]
  kernel_rfl
theorem al12 : ocvV_1 ([(R6.mk 0 0 0 2 2 2)] : List R6) ([(R6.mk 2 0 0 3 1 4)] : List R6) 0 = 0 := by
  unfold ocvV_1
  rw [litC, litA]
  kernel_rfl
theorem al13 : ocvV_0 ([(R6.mk 0 0 0 2 2 2)] : List R6) ([(R6.mk 2 0 0 3 1 4)] : List R6) 0 = 2 := by
  unfold ocvV_0
  rw [litC, litA]
  kernel_rfl
theorem al14 : oreV_1 ([(R6.mk 0 0 0 2 2 2)] : List R6) ([(R6.mk 2 0 0 3 1 4)] : List R6) = 0 := by
  unfold oreV_1
  unfold ocoV_1
  rw [litC, litA]
  kernel_rfl
theorem al15 : oreV_0 ([(R6.mk 0 0 0 2 2 2)] : List R6) ([(R6.mk 2 0 0 3 1 4)] : List R6) = 2 := by
  unfold oreV_0
  rw [litC, litA]
  kernel_rfl
theorem al16 : ocoV_1 ([(R6.mk 0 0 0 2 2 2)] : List R6) ([(R6.mk 2 0 0 3 1 4)] : List R6) = 0 := by
  unfold ocoV_1
  rw [litC, litA]
  kernel_rfl
theorem al17 : ocoV_0 ([(R6.mk 0 0 0 2 2 2)] : List R6) ([(R6.mk 2 0 0 3 1 4)] : List R6) = 2 := by
  unfold ocoV_0
  rw [litC, litA]
  kernel_rfl
theorem al18 : oreV_1 ([(R6.mk 0 0 0 1 1 1)] : List R6) ([(R6.mk 0 0 0 2 2 2)] : List R6) = 0 := by
  unfold oreV_1
  unfold ocoV_1
  rw [litB, litC]
  kernel_rfl
theorem al19 : oreV_0 ([(R6.mk 0 0 0 1 1 1)] : List R6) ([(R6.mk 0 0 0 2 2 2)] : List R6) = 4 := by
  unfold oreV_0
  rw [litB, litC]
  kernel_rfl
theorem al20 : ocoV_1 ([(R6.mk 0 0 0 1 1 1)] : List R6) ([(R6.mk 0 0 0 2 2 2)] : List R6) = 0 := by
  unfold ocoV_1
  rw [litB, litC]
  kernel_rfl
theorem al21 : ocoV_0 ([(R6.mk 0 0 0 1 1 1)] : List R6) ([(R6.mk 0 0 0 2 2 2)] : List R6) = 0 := by
  unfold ocoV_0
  rw [litB, litC]
  kernel_rfl
theorem al22 : oreV_1 ([(R6.mk 0 0 0 2 2 2)] : List R6) ([(R6.mk 1 1 1 3 3 3)] : List R6) = 0 := by
  unfold oreV_1
  unfold ocoV_1
  rw [litC, litD]
  kernel_rfl
theorem al23 : oreV_0 ([(R6.mk 0 0 0 2 2 2)] : List R6) ([(R6.mk 1 1 1 3 3 3)] : List R6) = 3 := by
  unfold oreV_0
  rw [litC, litD]
  kernel_rfl
theorem al24 : ocoV_1 ([(R6.mk 0 0 0 2 2 2)] : List R6) ([(R6.mk 1 1 1 3 3 3)] : List R6) = 0 := by
  unfold ocoV_1
  rw [litC, litD]
  kernel_rfl
theorem al25 : ocoV_0 ([(R6.mk 0 0 0 2 2 2)] : List R6) ([(R6.mk 1 1 1 3 3 3)] : List R6) = 0 := by
  unfold ocoV_0
  rw [litC, litD]
  kernel_rfl
theorem ali_run : ∃ N, goOn alistep N alistart = .ret [.bool true] := by
  refine ⟨0, ?_⟩
  unfold alistart
  simp only [cvT_eq, show osiV_owed ([(R6.mk 0 0 0 2 2 2)] : List R6) 0 = true from rfl, show osiV_owed ([(R6.mk 0 0 0 2 2 2)] : List R6) 1 = true from rfl, show osiV_owed ([(R6.mk 0 0 0 2 2 2)] : List R6) 2 = true from rfl, show osiV_owed ([(R6.mk 0 0 0 2 2 2)] : List R6) 3 = true from rfl, show osiV_owed ([(R6.mk 0 0 0 2 2 2)] : List R6) 4 = true from rfl, show osiV_owed ([(R6.mk 0 0 0 2 2 2)] : List R6) 5 = true from rfl, show ocvV_owed ([(R6.mk 0 0 0 2 2 2)] : List R6) ([(R6.mk 2 0 0 3 1 4)] : List R6) 0 = true from rfl, show oreV_owed ([(R6.mk 0 0 0 2 2 2)] : List R6) ([(R6.mk 2 0 0 3 1 4)] : List R6) = true from rfl, show ocoV_owed ([(R6.mk 0 0 0 2 2 2)] : List R6) ([(R6.mk 2 0 0 3 1 4)] : List R6) = true from rfl, show oreV_owed ([(R6.mk 0 0 0 1 1 1)] : List R6) ([(R6.mk 0 0 0 2 2 2)] : List R6) = true from rfl, show ocoV_owed ([(R6.mk 0 0 0 1 1 1)] : List R6) ([(R6.mk 0 0 0 2 2 2)] : List R6) = true from rfl, show oreV_owed ([(R6.mk 0 0 0 2 2 2)] : List R6) ([(R6.mk 1 1 1 3 3 3)] : List R6) = true from rfl, show ocoV_owed ([(R6.mk 0 0 0 2 2 2)] : List R6) ([(R6.mk 1 1 1 3 3 3)] : List R6) = true from rfl, al0, al1, al2, al3, al4, al5, al6, al7, al8, al9, al10, al11, al12, al13, al14, al15, al16, al17, al18, al19, al20, al21, al22, al23, al24, al25, show ((0 : Int) != 0) = false from rfl, show ((4 : Int) != 4) = false from rfl, show ((0 : Int) == 0) = true from rfl, show ((2 : Int) == 2) = true from rfl, show ((4 : Int) == 4) = true from rfl, show ((3 : Int) == 3) = true from rfl, cond_true, cond_false]
  rfl
def fTrue : List AVal → Option (AVal × Bool)
  | [] => some (.bool true, true)
  | _ => none
theorem fTrue_ok {S : Specs} (hS : SpecsOk Tryz.prog S) : SpecsOk Tryz.prog (S.with nAlive28 fTrue) := by
  refine fOne hS (by kernel_rfl) fun args v h => ?_
  unfold fTrue at h
  split at h
  · simp only [Option.some.injEq, Prod.mk.injEq, and_true] at h
    subst h
    obtain ⟨N, hN⟩ := ali_run
    exact ⟨_, _, .nil, rfl, ali_ends N _ hN, 3, rfl⟩
  · cases h
noncomputable def Tf : Specs := (Te.with nAlive28 fTrue)
theorem Tf_ok : SpecsOk Tryz.prog Tf := (fTrue_ok Te_ok)
end Go.Am
end
section
set_option linter.unusedVariables false
set_option linter.unusedSimpArgs false
namespace Go.Am
open Go.Proofs
set_option maxRecDepth 1000000
set_option linter.unusedVariables false
set_option linter.unusedSimpArgs false
set_option maxHeartbeats 4000000
inductive neaS where
  | h0 (v8 : Int)
  | h1 (v7 : List Int) (v27 : Int)
noncomputable def neaC (l0 : List (List R6)) (x1 : Int) : neaS → Cfg
  | .h0 v8 => ⟨⟨18, 0, true⟩, none, (todoP Tryz.prog 21 [1, 0, 1, 0, 0] 0), none, (resultsOf Tryz.prog 8), ⟨envL [(6, (.dat l0.length (rowsT l0))), (7, (.int .i64 ((l0.length : Nat) : Int))), (8, (.int .i64 v8))], memL [] 0, 0, [], true⟩, [⟨⟨51, 0, true⟩, (regP Tryz.prog 17 [1, 1, 0, 0] 1), (todoP Tryz.prog 17 [1, 1, 0, 0] 1), none, (resultsOf Tryz.prog 9), envL [(0, (.dat l0.length (rowsT l0))), (1, (.int .i64 x1)), (12, (.dat l0.length (rowsT l0)))]⟩], .leaf⟩
  | .h1 v7 v27 => ⟨⟨51, 0, true⟩, none, (todoP Tryz.prog 17 [1, 1, 1, 1, 1, 0, 1, 0, 0] 0), none, (resultsOf Tryz.prog 9), ⟨envL [(0, (.dat l0.length (rowsT l0))), (1, (.int .i64 x1)), (7, (.sla 0 1 0 v7.length (.un 1))), (26, (.int .i64 ((l0.length : Nat) : Int))), (27, (.int .i64 v27))], memL [⟨rows v7.length (rowsT v7), 3, some ⟨1, v7.length, (rowsT v7)⟩⟩] 0, 1, [], true⟩, [], .leaf⟩
noncomputable def neastep (l0 : List (List R6)) (x1 : Int) : neaS → Out' neaS
  | .h0 v8 => (bif (decide (v8 < ((l0.length : Nat) : Int))) then (bif ((decide (0 ≤ v8 ∧ v8 < ((l0.length : Nat) : Int))) && true) then (bif (sckV_0_owed (cvT (rd l0 (Int.toNat v8)))) then (bif ((sckV_0 (cvT (rd l0 (Int.toNat v8)))) != 0) then (.ret [.nils, (.int .i64 (sckV_0 (cvT (rd l0 (Int.toNat v8)))))]) else (.to (.h0 (IntKind.wrap IntKind.i64 (v8 + 1))))) else .stuck) else .stuck) else (bif (decide (x1 < 0)) then (.ret [.nils, (.int .i64 6)]) else (bif (decide (x1 ≥ ((l0.length : Nat) : Int))) then (.ret [.nils, (.int .i64 6)]) else (.to (.h1 ([] : List Int) 0)))))
  | .h1 v7 v27 => (bif (decide (v27 < ((l0.length : Nat) : Int))) then (bif (v27 != x1) then (bif ((decide (0 ≤ x1 ∧ x1 < ((l0.length : Nat) : Int))) && true) then (bif ((decide (0 ≤ v27 ∧ v27 < ((l0.length : Nat) : Int))) && true) then (bif (orlV_owed (cvT (rd l0 (Int.toNat x1))) (cvT (rd l0 (Int.toNat v27)))) then (bif ((orlV (cvT (rd l0 (Int.toNat x1))) (cvT (rd l0 (Int.toNat v27)))) != 1) then (bif (Nat.beq 1 1 && ((decide (0 + v7.length = v7.length)) && decide ((v7.length + 1 + 1) * (8 + 1) ≤ room))) then (.to (.h1 (v7 ++ [v27]) (IntKind.wrap IntKind.i64 (v27 + 1)))) else .stuck) else (.to (.h1 v7 (IntKind.wrap IntKind.i64 (v27 + 1))))) else .stuck) else .stuck) else .stuck) else (.to (.h1 v7 (IntKind.wrap IntKind.i64 (v27 + 1))))) else (.ret [(.dat v7.length (rowsT v7)), (.int .i64 0)]))
noncomputable def neastart (l0 : List (List R6)) (x1 : Int) : Out' neaS := (bif (decide (((l0.length : Nat) : Int) > 60)) then (.ret [.nils, (.int .i64 4)]) else (.to (.h0 0)))
theorem neastep_ok (l0 : List (List R6)) (x1 : Int) : ∀ s, Lead Tryz.prog (resultsOf Tryz.prog 17) (neaC l0 x1) (neaC l0 x1 s) (neastep l0 x1 s)
  | .h0 v8 => (lead_bif (fun k0 => (lead_owe fun o1_0 => (lead_owe fun o1_1 => (lead_bif (fun k1 => (lr 51 17 [1, 1, 0, 1, 1, 0, 0] 1 9 [(4, .nils), (5, (.int .i64 (sckV_0 (cvT (rd l0 (Int.toNat v8))))))] (sl Tf_ok 47 [] ⟨[], [], [some [4, 5]], []⟩ ⟨[], [], []⟩ (trs 3 []) (tt k1 (tt k1 (pp (pp (xI R6 (rd l0 (Int.toNat v8)).length (rowsT (rd l0 (Int.toNat v8)))) (xw o1_1)) (ww o1_0 (tt k0 nn)))))))) (fun k1 => (sl Tf_ok 34 [] ⟨[], [], [some [6, 7, 8], some [0, 1, 12]], []⟩ ⟨[], [], []⟩ [true, false] (tt k1 (pp (pp (xI R6 (rd l0 (Int.toNat v8)).length (rowsT (rd l0 (Int.toNat v8)))) (xw o1_1)) (ww o1_0 (tt k0 nn)))))))))) (fun k0 => (lead_bif (fun k1 => (lr 51 17 [1, 1, 1, 0, 1, 0, 0] 1 9 [(4, .nils), (5, (.int .i64 6))] (sl Tf_ok 39 [] ⟨[], [], [some [4, 5]], []⟩ ⟨[], [], []⟩ [false, false, true, true, true, true, true] (tt k1 (tt k0 nn))))) (fun k1 => (lead_bif (fun k2 => (lr 51 17 [1, 1, 1, 0, 1, 0, 0] 1 9 [(4, .nils), (5, (.int .i64 6))] (sl Tf_ok 39 [] ⟨[], [], [some [4, 5]], []⟩ ⟨[], [], []⟩ [false, false, false, false, false, false, true] (tt k2 (tt k1 (tt k0 nn)))))) (fun k2 => (sl Tf_ok 48 [(3, 1, rowsT ([] : List Int))] ⟨[0], [], [some [0, 1, 7, 26, 27]], []⟩ ⟨[(7, .grow 0 1)], [], []⟩ [false, false, false, false, false, false, false] (pp (fl ([] : List Int) nn) (tt k2 (tt k1 (tt k0 nn)))))))))))
  | .h1 v7 v27 => (lead_bif (fun k0 => (lead_bif (fun k1 => (lead_owe fun o2_0 => (lead_owe fun o2_1 => (lead_owe fun o2_2 => (lead_bif (fun k2 => (lead_owe fun o0 => (sl Tf_ok 30 [] ⟨[2], [], [some [0, 1, 7, 26, 27]], []⟩ ⟨[(7, .len (v7 ++ [v27]).length)], [.rowed 1 (v7 ++ [v27]).length (rowsT (v7 ++ [v27]))], []⟩ (trs 12 []) (pp (xL (v7.length + 1) (v7 ++ [v27]).length) (pp (xL (v7.length + 1) (v7 ++ [v27]).length) (pp (xS (v7.length + 1) (appRow (rowsT v7) 0 v7.length 1 [(.int .i64 v27)]) (rowsT (v7 ++ [v27]))) (pp (pp (xF (appRow (rowsT v7) 0 v7.length 1 [(.int .i64 v27)])) nn) (ww o0 (tt k2 (pp (pp (xI R6 (rd l0 (Int.toNat x1)).length (rowsT (rd l0 (Int.toNat x1)))) (pp (xI R6 (rd l0 (Int.toNat v27)).length (rowsT (rd l0 (Int.toNat v27)))) (xw o2_2))) (ww o2_1 (ww o2_0 (tt k1 (tt k0 nn)))))))))))))) (fun k2 => (sl Tf_ok 24 [] ⟨[0], [], [some [0, 1, 7, 26, 27]], []⟩ ⟨[], [], []⟩ (trs 11 [false]) (pp (fl v7 nn) (tt k2 (pp (pp (xI R6 (rd l0 (Int.toNat x1)).length (rowsT (rd l0 (Int.toNat x1)))) (pp (xI R6 (rd l0 (Int.toNat v27)).length (rowsT (rd l0 (Int.toNat v27)))) (xw o2_2))) (ww o2_1 (ww o2_0 (tt k1 (tt k0 nn)))))))))))))) (fun k1 => (sl Tf_ok 24 [] ⟨[0], [], [some [0, 1, 7, 26, 27]], []⟩ ⟨[], [], []⟩ [true, false, false, false, false, false, false, false, false, false, false, false] (pp (fl v7 nn) (tt k1 (tt k0 nn))))))) (fun k0 => (lr 51 3 [1, 1, 1, 1, 1, 1, 0] 1 9 [(4, (.dat v7.length (rowsT v7))), (5, (.int .i64 0))] (sl Tf_ok 13 [] ⟨[], [0], [some [4, 5]], []⟩ ⟨[(4, .frz v7.length v7.length (rowsT v7) (rowsT v7))], [], []⟩ [false] (pp (xZ (frzS 1 1 0 v7.length v7.length (rowsT v7)) v7.length (rowsT v7)) (pp (xL v7.length v7.length) (pp (xS v7.length (rowsT v7) (rowsT v7)) (pp (fl v7 nn) (tt k0 nn)))))))))
theorem neastart_ok (l0 : List (List R6)) (x1 : Int) : Lead Tryz.prog (resultsOf Tryz.prog 17) (neaC l0 x1) (startC Tryz.prog 17 [(.dat l0.length (rowsT l0)), (.int .i64 x1)] true []) (neastart l0 x1) := (lead_bif (fun k0 => (lr 51 17 [1, 0, 1, 0, 0] 1 9 [(4, .nils), (5, (.int .i64 4))] (sl Tf_ok 18 [] ⟨[], [], [some [4, 5]], []⟩ ⟨[], [], []⟩ [true] (tt k0 nn)))) (fun k0 => (sl Tf_ok 32 [] ⟨[], [], [some [6, 7, 8], some [0, 1, 12]], []⟩ ⟨[], [], []⟩ [false] (tt k0 nn))))
theorem nea_ends (l0 : List (List R6)) (x1 : Int) (n : Nat) (vs : List AVal) (h : goOn (neastep l0 x1) n (neastart l0 x1) = .ret vs) : Ends Tryz.prog (resultsOf Tryz.prog 17) (startC Tryz.prog 17 [(.dat l0.length (rowsT l0)), (.int .i64 x1)] true []) vs := by
  have := goOn_lead (neastep_ok l0 x1) n _ (neastart_ok l0 x1)
  rwa [h] at this
end Go.Am
end
section
set_option linter.unusedVariables false
set_option linter.unusedSimpArgs false
namespace Go.Am
open Go.Proofs Go.Sort Go.Shelf Go.RowKit Go.Lib
set_option maxRecDepth 100000
set_option maxHeartbeats 4000000
set_option linter.unusedVariables false
set_option linter.unusedSimpArgs false
namespace Dim
variable {α β : Type} (D : Dim α β)
structure Fair : Prop where
  lo_put : ∀ x x' b, D.lo (D.put x x' b) = x
  hi_put : ∀ x x' b, D.hi (D.put x x' b) = x'
  pr_put : ∀ x x' b, D.pr (D.put x x' b) = b
  ext_put : ∀ x x' x'' b, D.ext x'' (D.put x x' b) = D.put x x'' b
def Ap (R : β → β → Prop) (a b : α) : Prop := D.hi a ≤ D.lo b ∨ D.hi b ≤ D.lo a ∨ R (D.pr a) (D.pr b)
theorem ref_apart {D : Dim α β} (hD : D.Fair) (R : β → β → Prop) (sec : Int → List β) (cs : List Int) (hc : cs.Pairwise (· < ·)) (hsec : ∀ x, (sec x).Pairwise R) :
    ∀ (k i : Nat) (pre : List α) (last : List β) (x0 : Int), (i + k < cs.length ∨ k = 0) → pre.Pairwise (D.Ap R) → (∀ a ∈ pre, D.hi a ≤ x0) → (last ≠ [] → x0 ≤ rd cs i) → (last = [] → x0 ≤ rd cs i) → last.Pairwise R →
    (D.ref sec cs k i (pre ++ last.map (D.put x0 (rd cs i))) last pre.length).Pairwise (D.Ap R) := by
  have fin : ∀ (pre : List α) (last : List β) (x0 x' : Int), pre.Pairwise (D.Ap R) → (∀ a ∈ pre, D.hi a ≤ x0) → last.Pairwise R → (pre ++ last.map (D.put x0 x')).Pairwise (D.Ap R) := fun pre last x0 x' h1 h2 h3 => by
    refine List.pairwise_append.2 ⟨h1, ?_, fun a ha b hb => ?_⟩
    · refine List.pairwise_map.2 (h3.imp fun {a b} h => .inr (.inr ?_))
      rw [hD.pr_put, hD.pr_put]; exact h
    · obtain ⟨c, _, rfl⟩ := List.mem_map.1 hb
      exact .inl (by rw [hD.lo_put]; exact h2 a ha)
  intro k
  induction k with
  | zero => intro i pre last x0 _ h1 h2 _ _ h3; exact fin pre last x0 _ h1 h2 h3
  | succ k ih =>
    intro i pre last x0 hk h1 h2 h4 h5 h3
    have hlt : rd cs i < rd cs (i + 1) := lt_rd hc (Nat.lt_succ_self _) (by omega)
    unfold ref
    cases hq : (decide (0 < i) && D.same (sec (rd cs i)) last) with
    | true =>
      rw [cond_true]
      have e : D.grow (pre ++ last.map (D.put x0 (rd cs i))) pre.length (rd cs (i + 1)) = pre ++ last.map (D.put x0 (rd cs (i + 1))) := by
        unfold grow
        rw [List.take_left, List.drop_left, List.map_map]
        congr 1
        exact List.map_congr_left fun b _ => hD.ext_put _ _ _ _
      rw [e]
      exact ih (i + 1) pre last x0 (by omega) h1 h2 (fun h => by have := h4 h; omega) (fun h => by have := h5 h; omega) h3
    | false =>
      rw [cond_false]
      refine ih (i + 1) (pre ++ last.map (D.put x0 (rd cs i))) (sec (rd cs i)) (rd cs i) (by omega) (fin pre last x0 _ h1 h2 h3) (fun a ha => ?_) (fun _ => by omega) (fun _ => by omega) (hsec _)
      rcases List.mem_append.1 ha with ha | ha
      · have := h2 a ha
        by_cases e : last = []
        · have := h5 e; omega
        · have := h4 e; omega
      · obtain ⟨c, _, rfl⟩ := List.mem_map.1 ha
        rw [hD.hi_put]; exact Int.le_refl _
theorem out_apart {D : Dim α β} (hD : D.Fair) (R : β → β → Prop) (hs : ∀ a b, D.same a b = true ↔ a = b) (l : List α) (hsec : ∀ x, (D.sec l x).Pairwise R) : (D.out l).Pairwise (D.Ap R) := by
  rw [D.out_eq hs l]
  have hc : (D.cuts l).Pairwise (· < ·) := by
    show (cutsOf (D.ends l)).Pairwise (· < ·)
    rw [cuts_eq]; exact (srtV_spec _).1
  have := ref_apart hD R (D.sec l) (D.cuts l) hc hsec ((D.cuts l).length - 1) 0 [] [] (rd (D.cuts l) 0) (by omega) .nil (by simp) (fun _ => Int.le_refl _) (fun _ => Int.le_refl _) .nil
  exact this
end Dim
theorem D4_fair : D4.Fair := ⟨fun _ _ _ => rfl, fun _ _ _ => rfl, fun _ _ _ => rfl, fun _ _ _ _ => rfl⟩
theorem D6_fair : D6.Fair := ⟨fun _ _ _ => rfl, fun _ _ _ => rfl, fun _ _ _ => rfl, fun _ _ _ _ => rfl⟩
def Ap2 (s t : R2) : Prop := s.b ≤ t.a ∨ t.b ≤ s.a
def Ap4 (s t : R4) : Prop := s.c ≤ t.a ∨ t.c ≤ s.a ∨ s.d ≤ t.b ∨ t.d ≤ s.b
def Ap6 (s t : R6) : Prop := s.d ≤ t.a ∨ t.d ≤ s.a ∨ s.e ≤ t.b ∨ t.e ≤ s.b ∨ s.f ≤ t.c ∨ t.f ≤ s.c
theorem spm_apart (l : List R2) : (spmV_0 l).Pairwise Ap2 := by
  unfold spmV_0
  by_cases h : 400 < l.length
  · rw [decide_eq_true h]; exact .nil
  · rw [decide_eq_false h, cond_false]
    cases hv : l.all val2 with
    | false => exact .nil
    | true =>
      rw [cond_true]
      exact (swV_can l hv).1.sep.imp fun {s t} h => .inl (by omega)
theorem rgm_apart (l : List R4) : (rgmV_0 l).Pairwise Ap4 := by
  have key : (D4.out l).Pairwise Ap4 := (Dim.out_apart D4_fair Ap2 (fun a b => decide_eq_true_iff) l fun x => spm_apart _).imp fun {s t} h => by
    rcases h with h | h | h | h
    · exact .inl h
    · exact .inr (.inl h)
    · exact .inr (.inr (.inl h))
    · exact .inr (.inr (.inr h))
  unfold rgmV_0
  by_cases h : 400 < l.length
  · rw [decide_eq_true h]; exact .nil
  · rw [decide_eq_false h, cond_false]
    cases l.all val4 with
    | false => exact .nil
    | true =>
      rw [cond_true]
      cases decide (((D4.out l).length : Int) > 400) with
      | true => exact .nil
      | false => exact key
theorem sck_spec {l : List R6} (h : sckV_0 l = 0) : l.length ≤ 400 ∧ (∀ r ∈ l, val6 r = true) ∧ l = D6.out l ∧ l.Pairwise Ap6 := by
  unfold sckV_0 at h
  by_cases h1 : 400 < l.length
  · rw [decide_eq_true h1] at h; cases h
  · rw [decide_eq_false h1, cond_false] at h
    cases hv : l.all val6 with
    | false => rw [hv] at h; cases h
    | true =>
      rw [hv, cond_true] at h
      cases ho : okF l ((D6.cuts l).length - 1) 0 with
      | false => rw [ho] at h; cases h
      | true =>
        rw [ho, cond_true] at h
        cases h2 : decide (((D6.out l).length : Int) > 400) with
        | true => rw [h2] at h; cases h
        | false =>
          rw [h2, cond_false] at h
          cases h3 : same6V (D6.out l) l with
          | false => rw [h3] at h; cases h
          | true =>
            have e : D6.out l = l := of_decide_eq_true h3
            refine ⟨by omega, fun r hr => List.all_eq_true.1 hv r hr, e.symm, ?_⟩
            have := (Dim.out_apart D6_fair Ap4 (fun a b => decide_eq_true_iff) l fun x => rgm_apart _).imp (S := Ap6) fun {s t} h => by
              rcases h with h | h | h | h | h | h
              · exact .inr (.inr (.inr (.inr (.inl h))))
              · exact .inr (.inr (.inr (.inr (.inr h))))
              · exact .inl h
              · exact .inr (.inl h)
              · exact .inr (.inr (.inl h))
              · exact .inr (.inr (.inr (.inl h)))
            rwa [e] at this
theorem val6_spec {r : R6} (h : val6 r = true) : r.a < r.d ∧ r.b < r.e ∧ r.c < r.f ∧ -1000000 ≤ r.a ∧ -1000000 ≤ r.b ∧ -1000000 ≤ r.c ∧ r.d ≤ 1000000 ∧ r.e ≤ 1000000 ∧ r.f ≤ 1000000 := by
  rw [val_eq] at h
  simp only [valR, Bool.and_eq_true, decide_eq_true_eq] at h
  omega
end Go.Am
end
section
set_option linter.unusedVariables false
set_option linter.unusedSimpArgs false
namespace Go.Am
open Go.Proofs Go.Sort Go.Shelf Go.RowKit Go.Lib
set_option maxRecDepth 100000
set_option maxHeartbeats 4000000
set_option linter.unusedVariables false
set_option linter.unusedSimpArgs false
def ind (a b t : Int) : Int := if a ≤ t ∧ t < b then 1 else 0
def ptsN (lo : Int) (n : Nat) : List Int := (List.range n).map fun (k : Nat) => lo + (k : Int)
theorem ind_sum (a b lo : Int) : ∀ n : Nat, sm (ptsN lo n) (ind a b) = ovl a b lo (lo + n)
  | 0 => by show (0 : Int) = _; unfold ovl; omega
  | n + 1 => by
    unfold ptsN
    rw [List.range_succ, List.map_append, sm_append]
    have := ind_sum a b lo n
    unfold ptsN at this
    rw [this, List.map_cons, List.map_nil, sm_cons, sm_nil]
    unfold ind ovl
    split <;> omega
theorem ind_mul (a b c d t : Int) : ind a b t * ind c d t = ind (max a c) (min b d) t := by
  unfold ind
  by_cases h1 : a ≤ t ∧ t < b
  · by_cases h2 : c ≤ t ∧ t < d
    · rw [if_pos h1, if_pos h2, if_pos (by omega)]; rfl
    · rw [if_pos h1, if_neg h2, if_neg (by omega)]; rfl
  · rw [if_neg h1, Int.zero_mul, if_neg (by omega)]
theorem ind_nonneg (a b t : Int) : 0 ≤ ind a b t := by unfold ind; split <;> omega
theorem ind_le (a b t : Int) : ind a b t ≤ 1 := by unfold ind; split <;> omega
def Pts (p : List Int) : Prop := (∀ a b, -1000005 ≤ a ∧ b ≤ 1000005 → sm p (ind a b) = max 0 (b - a)) ∧ p.length = 2000010
theorem pts_ex : ∃ p, Pts p := by
  refine ⟨ptsN (-1000005) 2000010, fun a b h => ?_, by simp only [ptsN, List.length_map, List.length_range]⟩
  rw [ind_sum]
  show ovl a b (-1000005) (-1000005 + 2000010) = _
  unfold ovl; omega
def S3 (p : List Int) (f : Int → Int → Int → Int) : Int := sm p fun x => sm p fun y => sm p fun z => f x y z
theorem S3_sm {p : List Int} {α : Type} (l : List α) (f : α → Int → Int → Int → Int) : S3 p (fun x y z => sm l fun a => f a x y z) = sm l fun a => S3 p (f a) := by
  unfold S3
  rw [sm_swap l p]
  refine sm_congr fun x _ => ?_
  rw [sm_swap l p]
  exact sm_congr fun y _ => sm_swap _ _ _
theorem S3_mono {p : List Int} {f g : Int → Int → Int → Int} (h : ∀ x y z, f x y z ≤ g x y z) : S3 p f ≤ S3 p g :=
  sm_mono fun x _ => sm_mono fun y _ => sm_mono fun z _ => h x y z
theorem S3_mul {p : List Int} (f g h : Int → Int) : S3 p (fun x y z => f x * g y * h z) = sm p f * sm p g * sm p h := by
  unfold S3
  simp only [sm_mul', Int.mul_assoc]
  rw [← sm_mul]
  refine sm_congr fun x _ => ?_
  rw [← sm_mul]
theorem S3_one {p : List Int} (hp : Pts p) : S3 p (fun _ _ _ => 1) ≤ 8000120000600001000 := by
  have h : sm p (fun _ => 1) ≤ (p.length : Int) * 1 := sm_le fun _ _ => Int.le_refl _
  have hl := hp.2
  have h0 : 0 ≤ sm p (fun _ => 1) := sm_nonneg fun _ _ => by omega
  have e : S3 p (fun _ _ _ => 1) = sm p (fun _ => 1) * sm p (fun _ => 1) * sm p (fun _ => 1) := S3_mul (fun _ => 1) (fun _ => 1) (fun _ => 1)
  rw [e]
  have h1 : sm p (fun _ => 1) ≤ 2000010 := by omega
  have h2 := Int.mul_le_mul (Int.mul_le_mul h1 h1 h0 (by omega)) h1 h0 (by omega)
  have h3 : (2000010 : Int) * 2000010 * 2000010 = 8000120000600001000 := by decide
  rw [h3] at h2
  exact h2
def inR (r : R6) (x y z : Int) : Int := ind r.a r.d x * ind r.b r.e y * ind r.c r.f z
theorem inR_nonneg (r : R6) (x y z : Int) : 0 ≤ inR r x y z := Int.mul_nonneg (Int.mul_nonneg (ind_nonneg ..) (ind_nonneg ..)) (ind_nonneg ..)
theorem inR_eq (r : R6) (x y z : Int) : inR r x y z = if (r.a ≤ x ∧ x < r.d) ∧ (r.b ≤ y ∧ y < r.e) ∧ (r.c ≤ z ∧ z < r.f) then 1 else 0 := by
  unfold inR ind
  by_cases h1 : r.a ≤ x ∧ x < r.d <;> by_cases h2 : r.b ≤ y ∧ y < r.e <;> by_cases h3 : r.c ≤ z ∧ z < r.f <;> simp [h1, h2, h3]
def nearB (r : R6) : Prop := -1000002 ≤ r.a ∧ r.d ≤ 1000002 ∧ -1000002 ≤ r.b ∧ r.e ≤ 1000002 ∧ -1000002 ≤ r.c ∧ r.f ≤ 1000002
theorem ov_S3 {p : List Int} (hp : Pts p) (r s : R6) (hr : nearB r) : S3 p (fun x y z => inR r x y z * inR s x y z) = ov r s := by
  obtain ⟨h1, h2, h3, h4, h5, h6⟩ := hr
  have e : (fun x y z => inR r x y z * inR s x y z) = fun x y z => ind (max r.a s.a) (min r.d s.d) x * ind (max r.b s.b) (min r.e s.e) y * ind (max r.c s.c) (min r.f s.f) z := by
    funext x y z
    rw [← ind_mul, ← ind_mul, ← ind_mul]
    unfold inR
    simp only [Int.mul_comm, Int.mul_left_comm, Int.mul_assoc]
  rw [e, S3_mul, hp.1 _ _ (by omega), hp.1 _ _ (by omega), hp.1 _ _ (by omega)]
  rfl
def cnt (X : List R6) (x y z : Int) : Int := sm X fun r => inR r x y z
theorem cnt_nonneg (X : List R6) (x y z : Int) : 0 ≤ cnt X x y z := sm_nonneg fun r _ => inR_nonneg r x y z
theorem cnt_le : ∀ (X : List R6), X.Pairwise Ap6 → ∀ x y z, cnt X x y z ≤ 1
  | [], _, x, y, z => by show (0 : Int) ≤ 1; omega
  | r :: X, h, x, y, z => by
    obtain ⟨h1, h2⟩ := List.pairwise_cons.1 h
    have ih := cnt_le X h2 x y z
    have e : cnt (r :: X) x y z = inR r x y z + cnt X x y z := sm_cons _ _ _
    rw [e, inR_eq]
    split
    · rename_i hp
      have : cnt X x y z = 0 := by
        have : cnt X x y z = sm X fun _ => 0 := sm_congr fun s hs => by
          rw [inR_eq]
          refine if_neg fun hq => ?_
          have := h1 s hs
          unfold Ap6 at this
          omega
        rw [this, sm_zero]
      omega
    · omega
theorem S2_S3 {p : List Int} (hp : Pts p) (X Y : List R6) (hX : ∀ r ∈ X, nearB r) : S2 X Y = S3 p fun x y z => cnt X x y z * cnt Y x y z := by
  have e : (fun x y z => cnt X x y z * cnt Y x y z) = fun x y z => sm X fun r => sm Y fun s => inR r x y z * inR s x y z := by
    funext x y z
    unfold cnt
    rw [← sm_mul]
    exact sm_congr fun r _ => (sm_mul' _ _ _).symm
  rw [e, S3_sm]
  unfold S2
  refine sm_congr fun r hr => ?_
  rw [S3_sm]
  exact sm_congr fun s _ => (ov_S3 hp r s (hX r hr)).symm
theorem S2_nonneg (X Y : List R6) : 0 ≤ S2 X Y := sm_nonneg fun r _ => sm_nonneg fun s _ => ov_nonneg r s
theorem S2_le (X Y : List R6) (hX : ∀ r ∈ X, nearB r) (pX : X.Pairwise Ap6) (pY : Y.Pairwise Ap6) : S2 X Y ≤ 8000120000600001000 := by
  obtain ⟨p, hp⟩ := pts_ex
  rw [S2_S3 hp X Y hX]
  refine Int.le_trans (S3_mono (g := fun _ _ _ => 1) fun x y z => ?_) (S3_one hp)
  have h1 := cnt_le X pX x y z
  have h2 := cnt_le Y pY x y z
  have := Int.mul_le_mul h1 h2 (cnt_nonneg Y x y z) (by omega)
  simpa using this
theorem near_val {r : R6} (h : val6 r = true) : nearB r := by
  have := val6_spec h
  unfold nearB; omega
theorem okB_val {r : R6} (h : val6 r = true) : okB r = true := by
  have := val6_spec h
  exact decide_eq_true (by omega)
theorem vol_com {X Y : List R6} (hX : sckV_0 X = 0) (hY : sckV_0 Y = 0) : volV (comV X Y) = S2 X Y := by
  obtain ⟨_, v1, _, p1⟩ := sck_spec hX
  obtain ⟨_, v2, _, p2⟩ := sck_spec hY
  have h1 := S2_nonneg X Y
  have h2 := S2_le X Y (fun r hr => near_val (v1 r hr)) p1 p2
  exact volV_eq (com_bx X Y) (by omega)
end Go.Am
end
section
set_option linter.unusedVariables false
set_option linter.unusedSimpArgs false
namespace Go.Am
open Go.Proofs
set_option maxRecDepth 100000
set_option maxHeartbeats 4000000
set_option linter.unusedVariables false
set_option linter.unusedSimpArgs false
noncomputable def chkV : List (List R6) → Int
  | [] => 0
  | s :: r => bif sckV_0 s != 0 then sckV_0 s else chkV r
def nearB_ (l : List (List R6)) (i : Int) (j : Nat) : Bool := ((j : Int) != i) && (orlV (rd l i.toNat) (rd l j) != 1)
def neL (l : List (List R6)) (i : Int) (n : Nat) : List Int := ((List.range n).filter (nearB_ l i)).map fun (j : Nat) => (j : Int)
noncomputable def neaV_0 (l : List (List R6)) (i : Int) : List Int := bif decide ((l.length : Int) > 60) then [] else bif chkV l != 0 then [] else bif decide (i < 0) then [] else bif decide (i ≥ (l.length : Int)) then [] else neL l i l.length
noncomputable def neaV_1 (l : List (List R6)) (i : Int) : Int := bif decide ((l.length : Int) > 60) then 4 else bif chkV l != 0 then chkV l else bif decide (i < 0) then 6 else bif decide (i ≥ (l.length : Int)) then 6 else 0
def neaV_owed (l : List (List R6)) (i : Int) : Bool := l.all fun s => decide (s.length ≤ 100 ∨ 400 < s.length)
noncomputable def neaAll (l : List (List R6)) (i : Int) : List AVal := bif decide ((l.length : Int) > 60) then [.nils, .int .i64 4] else bif chkV l != 0 then [.nils, .int .i64 (chkV l)] else bif decide (i < 0) then [.nils, .int .i64 6] else bif decide (i ≥ (l.length : Int)) then [.nils, .int .i64 6] else [.dat (neL l i l.length).length (rowsT (neL l i l.length)), .int .i64 0]
theorem neL_length (l : List (List R6)) (i : Int) (n : Nat) : (neL l i n).length ≤ n := by
  unfold neL
  rw [List.length_map]
  exact Nat.le_trans (List.length_filter_le _ _) (by simp)
theorem neL_succ (l : List (List R6)) (i : Int) (n : Nat) : neL l i (n + 1) = bif nearB_ l i n then neL l i n ++ [(n : Int)] else neL l i n := by
  unfold neL
  rw [List.range_succ, List.filter_append, List.map_append]
  rcases boolc (nearB_ l i n) with q | q
  · rw [q, cond_true, List.filter_cons_of_pos (by rw [q])]; rfl
  · rw [q, cond_false, List.filter_cons_of_neg (by rw [q]; simp)]; simp
section
variable (l : List (List R6)) (i : Int) (hl : l.length ≤ 60)
include hl
theorem nea_h1 (hi : 0 ≤ i ∧ i < (l.length : Int)) (hs : ∀ s ∈ l, s.length ≤ 100) : ∀ (k j : Nat), j + k = l.length → ∃ n, goOn (neastep l i) n (.to (.h1 (neL l i j) (j : Int))) = .ret [.dat (neL l i l.length).length (rowsT (neL l i l.length)), .int .i64 0]
  | 0, j, h => by
    refine ⟨1, ?_⟩
    obtain rfl : j = l.length := by omega
    rw [goOn_to]
    simp (disch := omega) only [neastep, dlt_f, cond_false, goOn_ret]
  | k + 1, j, h => by
    obtain ⟨n, hn⟩ := nea_h1 hi hs k (j + 1) (by omega)
    refine ⟨n + 1, ?_⟩
    have hlen := neL_length l i j
    have hj : j < l.length := by omega
    have o : orlV_owed (rd l i.toNat) (rd l j) = true := decide_eq_true ⟨hs _ (by rw [rd_lt (show i.toNat < l.length by omega)]; exact List.getElem_mem _), hs _ (by rw [rd_lt hj]; exact List.getElem_mem _)⟩
    have hlt : decide ((j : Int) < ((l.length : Nat) : Int)) = true := decide_eq_true (by omega)
    have hin : decide (0 ≤ (j : Int) ∧ (j : Int) < ((l.length : Nat) : Int)) = true := decide_eq_true (by omega)
    have hii : decide (0 ≤ i ∧ i < ((l.length : Nat) : Int)) = true := decide_eq_true hi
    have hroom : decide (((neL l i j).length + 1 + 1) * (8 + 1) ≤ room) = true := room_t (by omega)
    rw [neL_succ] at hn
    unfold nearB_ at hn
    rw [goOn_to]
    rcases boolc ((j : Int) != i) with q1 | q1
    · rcases boolc (orlV (rd l i.toNat) (rd l j) != 1) with q2 | q2
      · rw [q1, q2, Bool.and_true, cond_true] at hn
        simp (disch := omega) only [neastep, cvT_eq, o, hlt, hin, hii, hroom, q1, q2, neq_t, wrap_t, beq11, Nat.zero_add, decide_true, cast_succ, toNat_c, Bool.and_true, Bool.true_and, cond_true, cond_false]
        exact hn
      · rw [q1, q2, Bool.and_false, cond_false] at hn
        simp (disch := omega) only [neastep, cvT_eq, o, hlt, hin, hii, q1, q2, wrap_t, cast_succ, toNat_c, Bool.and_true, cond_true, cond_false]
        exact hn
    · rw [q1, Bool.false_and, cond_false] at hn
      simp (disch := omega) only [neastep, cvT_eq, hlt, hin, q1, wrap_t, cast_succ, toNat_c, Bool.and_true, cond_true, cond_false]
      exact hn
theorem nea_h0 (ho : neaV_owed l i = true) : ∀ (k j : Nat), j + k = l.length → (∀ s ∈ l.take j, (sckV_0 s != 0) = false) → chkV l = chkV (l.drop j) → ∃ n, goOn (neastep l i) n (.to (.h0 (j : Int))) = .ret (bif chkV l != 0 then [.nils, .int .i64 (chkV l)] else bif decide (i < 0) then [.nils, .int .i64 6] else bif decide (i ≥ (l.length : Int)) then [.nils, .int .i64 6] else [.dat (neL l i l.length).length (rowsT (neL l i l.length)), .int .i64 0])
  | 0, j, h, ht, hc => by
    have e : chkV l = 0 := by rw [hc, List.drop_eq_nil_of_le (by omega)]; rfl
    have hs : ∀ s ∈ l, s.length ≤ 100 := fun s hs => by
      have h1 := ht s (by rw [List.take_of_length_le (by omega)]; exact hs)
      exact sck_small (List.all_eq_true.1 ho s hs) h1
    rw [e, show ((0 : Int) != 0) = false from rfl, cond_false]
    by_cases h1 : i < 0
    · refine ⟨1, ?_⟩
      rw [goOn_to, decide_eq_true h1]
      simp (disch := omega) only [neastep, dlt_f, decide_eq_true h1, cond_true, cond_false, goOn_ret]
    · by_cases h2 : i ≥ (l.length : Int)
      · refine ⟨1, ?_⟩
        rw [goOn_to, decide_eq_false h1, decide_eq_true h2]
        simp (disch := omega) only [neastep, dlt_f, dge_t, cond_true, cond_false, goOn_ret]
      · obtain ⟨n, hn⟩ := nea_h1 l i hl (by omega) hs l.length 0 (Nat.zero_add _)
        refine ⟨n + 1, ?_⟩
        rw [goOn_to, decide_eq_false h1, decide_eq_false h2]
        simp (disch := omega) only [neastep, dlt_f, dge_f, cond_true, cond_false]
        exact hn
  | k + 1, j, h, ht, hc => by
    have hj : j < l.length := by omega
    have hlt : decide ((j : Int) < ((l.length : Nat) : Int)) = true := decide_eq_true (by omega)
    have hin : decide (0 ≤ (j : Int) ∧ (j : Int) < ((l.length : Nat) : Int)) = true := decide_eq_true (by omega)
    have hd : chkV l = bif sckV_0 (rd l j) != 0 then sckV_0 (rd l j) else chkV (l.drop (j + 1)) := by rw [hc, drop_rd hj]; rfl
    rcases boolc (sckV_0 (rd l j) != 0) with q | q
    · refine ⟨1, ?_⟩
      rw [q, cond_true] at hd
      rw [goOn_to, hd, q, cond_true]
      simp (disch := omega) only [neastep, cvT_eq, hlt, hin, toNat_c, show ∀ l, sckV_0_owed l = true from fun _ => rfl, q, Bool.and_true, cond_true, goOn_ret]
    · rw [q, cond_false] at hd
      obtain ⟨n, hn⟩ := nea_h0 ho k (j + 1) (by omega) (fun s hs => by
        rw [List.take_add_one] at hs
        have e : l[j]? = some (rd l j) := by rw [rd_lt hj]; exact List.getElem?_eq_getElem _
        rw [e] at hs
        simp only [Option.toList_some, List.mem_append, List.mem_singleton] at hs
        rcases hs with hs | rfl
        · exact ht s hs
        · exact q) hd
      refine ⟨n + 1, ?_⟩
      rw [goOn_to]
      simp (disch := omega) only [neastep, cvT_eq, hlt, hin, toNat_c, show ∀ l, sckV_0_owed l = true from fun _ => rfl, q, wrap_t, cast_succ, Bool.and_true, cond_true, cond_false]
      exact hn
end
theorem nea_run (l : List (List R6)) (i : Int) (ho : neaV_owed l i = true) : ∃ n, goOn (neastep l i) n (neastart l i) = .ret (neaAll l i) := by
  unfold neastart neaAll
  by_cases h : (l.length : Int) > 60
  · exact ⟨0, by rw [decide_eq_true h]; rfl⟩
  · obtain ⟨n, hn⟩ := nea_h0 l i (by omega) ho l.length 0 (Nat.zero_add _) (fun s hs => by simp at hs) rfl
    refine ⟨n, ?_⟩
    rw [decide_eq_false h]
    exact hn
noncomputable def fNea : List AVal → Option (AVal × Bool)
  | [a1, .int .i64 x2] => match asL (List R6) a1 with
    | some (L1, g1, n1) => some (.tup [.dat (neaV_0 L1 x2).length (rowsT (neaV_0 L1 x2)), .int .i64 (neaV_1 L1 x2)], isT (List R6) n1 g1 && neaV_owed L1 x2)
    | _ => none
  | _ => none
theorem fNea_ok {S : Specs} (hS : SpecsOk Tryz.prog S) : SpecsOk Tryz.prog (S.with nONear fNea) := by
  refine fTwo hS (by kernel_rfl) fun args v h => ?_
  unfold fNea at h
  split at h
  · rename_i a1 x2
    split at h
    · rename_i L1 g1 n1 e1
      simp only [Option.some.injEq, Prod.mk.injEq, Bool.and_eq_true] at h
      obtain ⟨rfl, ho1, hw⟩ := h
      obtain ⟨N, hN⟩ := nea_run L1 x2 hw
      refine ⟨_, neaAll L1 x2, (.cons (asL_le e1 ho1) (.cons (.refl _) .nil)), ?_, nea_ends L1 x2 N _ hN, 3, ?_⟩
      · unfold neaV_0 neaV_1 neaAll
        cases decide ((L1.length : Int) > 60) <;> simp only [cond_true, cond_false]
        · cases (chkV L1 != 0) <;> simp only [cond_true, cond_false]
          · cases decide (x2 < 0) <;> simp only [cond_true, cond_false]
            · cases decide (x2 ≥ (L1.length : Int)) <;> simp only [cond_true, cond_false]
              · exact fun ρ u hu => hu
              · exact fun ρ u hu => tup_le (.cons (nils_le Int) (RLe.refl _)) ρ u hu
            · exact fun ρ u hu => tup_le (.cons (nils_le Int) (RLe.refl _)) ρ u hu
          · exact fun ρ u hu => tup_le (.cons (nils_le Int) (RLe.refl _)) ρ u hu
        · exact fun ρ u hu => tup_le (.cons (nils_le Int) (RLe.refl _)) ρ u hu
      · unfold neaAll
        cases decide ((L1.length : Int) > 60) <;> simp only [cond_true, cond_false]
        · cases (chkV L1 != 0) <;> simp only [cond_true, cond_false]
          · cases decide (x2 < 0) <;> simp only [cond_true, cond_false]
            · cases decide (x2 ≥ (L1.length : Int)) <;> rfl
            · rfl
          · rfl
        · rfl
    · cases h
  · cases h
noncomputable def Tg : Specs := Tf.with nONear fNea
theorem Tg_ok : SpecsOk Tryz.prog Tg := fNea_ok Tf_ok
end Go.Am
end
section
set_option linter.unusedVariables false
set_option linter.unusedSimpArgs false
namespace Go.Am
open Go.Proofs
set_option maxRecDepth 1000000
set_option linter.unusedVariables false
set_option linter.unusedSimpArgs false
set_option maxHeartbeats 4000000
inductive mutS where
  | h0 (v3 : Int)
  | h1 (v7 : Int)
  | h2 (v7 : Int) (v8 : List Int) (v9 : Int) (v10 : Bool) (v11 : Int)
noncomputable def mutC (l0 : List (List R6)) (x1 : Int) : mutS → Cfg
  | .h0 v3 => ⟨⟨23, 0, true⟩, none, (todoP Tryz.prog 19 [1, 0, 1, 0, 0] 0), none, (resultsOf Tryz.prog 8), ⟨envL [(0, (.dat l0.length (rowsT l0))), (3, (.int .i64 v3))], memL [] 0, 0, [], true⟩, [⟨⟨127, 0, true⟩, (regP Tryz.prog 7 [1, 0, 0] 5), (todoP Tryz.prog 7 [1, 0, 0] 1), none, (resultsOf Tryz.prog 4), envL [(0, (.dat l0.length (rowsT l0))), (1, (.int .i64 x1)), (15, (.bool false)), (16, (.dat l0.length (rowsT l0)))]⟩], .leaf⟩
  | .h1 v7 => ⟨⟨127, 0, true⟩, none, (todoP Tryz.prog 7 [1, 1, 1, 1, 0, 1, 0, 0] 0), none, (resultsOf Tryz.prog 4), ⟨envL [(0, (.dat l0.length (rowsT l0))), (1, (.int .i64 x1)), (5, (.dat (neaV_0 (cvT l0) x1).length (rowsT (neaV_0 (cvT l0) x1)))), (7, (.int .i64 v7))], memL [] 0, 0, [], true⟩, [], .leaf⟩
  | .h2 v7 v8 v9 v10 v11 => ⟨⟨127, 0, true⟩, none, (todoP Tryz.prog 7 [1, 1, 1, 1, 0, 1, 0, 0, 1, 0, 0, 1, 1, 1, 0, 1, 0, 0] 0), none, (resultsOf Tryz.prog 4), ⟨envL [(0, (.dat l0.length (rowsT l0))), (1, (.int .i64 x1)), (5, (.dat (neaV_0 (cvT l0) x1).length (rowsT (neaV_0 (cvT l0) x1)))), (7, (.int .i64 v7)), (8, (.dat v8.length (rowsT v8))), (9, (.int .i64 v9)), (10, (.bool v10)), (11, (.int .i64 v11))], memL [] 0, 0, [], true⟩, [], .leaf⟩
noncomputable def mutstep (l0 : List (List R6)) (x1 : Int) : mutS → Out' mutS
  | .h0 v3 => (bif (decide (v3 < ((l0.length : Nat) : Int))) then (bif ((decide (0 ≤ v3 ∧ v3 < ((l0.length : Nat) : Int))) && true) then (bif (grtV_owed (cvT (rd l0 (Int.toNat v3)))) then (bif (grtV (cvT (rd l0 (Int.toNat v3)))) then (.ret [(.bool true)]) else (bif (rckV_0_owed (cvT (rd l0 (Int.toNat v3)))) then (bif ((rckV_0 (cvT (rd l0 (Int.toNat v3)))) != 0) then (.ret [(.bool true)]) else (.to (.h0 (IntKind.wrap IntKind.i64 (v3 + 1))))) else .stuck)) else .stuck) else .stuck) else (bif (decide (x1 < 0)) then (.ret [(.bool true)]) else (bif (decide (x1 ≥ ((l0.length : Nat) : Int))) then (.ret [(.bool true)]) else (bif (neaV_owed (cvT l0) x1) then (bif ((neaV_1 (cvT l0) x1) != 0) then (.ret [(.bool false)]) else (bif ((decide (0 ≤ x1 ∧ x1 < ((l0.length : Nat) : Int))) && true) then (bif ((((rd l0 (Int.toNat x1)).length : Nat) : Int) == 0) then (bif (decide ((((neaV_0 (cvT l0) x1).length : Nat) : Int) > 0)) then (.ret [(.bool false)]) else (.to (.h1 0))) else (.to (.h1 0))) else .stuck)) else .stuck))))
  | .h1 v7 => (bif (decide (v7 < (((neaV_0 (cvT l0) x1).length : Nat) : Int))) then (bif ((decide (0 ≤ v7 ∧ v7 < (((neaV_0 (cvT l0) x1).length : Nat) : Int))) && true) then (bif (decide ((rd (neaV_0 (cvT l0) x1) (Int.toNat v7)) < 0)) then (.ret [(.bool false)]) else (bif (decide ((rd (neaV_0 (cvT l0) x1) (Int.toNat v7)) ≥ ((l0.length : Nat) : Int))) then (.ret [(.bool false)]) else (bif ((rd (neaV_0 (cvT l0) x1) (Int.toNat v7)) == x1) then (.ret [(.bool false)]) else (bif (decide (v7 > 0)) then (bif ((decide (0 ≤ (IntKind.wrap IntKind.i64 (v7 - 1)) ∧ (IntKind.wrap IntKind.i64 (v7 - 1)) < (((neaV_0 (cvT l0) x1).length : Nat) : Int))) && true) then (bif (decide ((rd (neaV_0 (cvT l0) x1) (Int.toNat (IntKind.wrap IntKind.i64 (v7 - 1)))) ≥ (rd (neaV_0 (cvT l0) x1) (Int.toNat v7)))) then (.ret [(.bool false)]) else (bif (neaV_owed (cvT l0) (rd (neaV_0 (cvT l0) x1) (Int.toNat v7))) then (.to (.h2 v7 (neaV_0 (cvT l0) (rd (neaV_0 (cvT l0) x1) (Int.toNat v7))) (neaV_1 (cvT l0) (rd (neaV_0 (cvT l0) x1) (Int.toNat v7))) false 0)) else .stuck)) else .stuck) else (bif (neaV_owed (cvT l0) (rd (neaV_0 (cvT l0) x1) (Int.toNat v7))) then (.to (.h2 v7 (neaV_0 (cvT l0) (rd (neaV_0 (cvT l0) x1) (Int.toNat v7))) (neaV_1 (cvT l0) (rd (neaV_0 (cvT l0) x1) (Int.toNat v7))) false 0)) else .stuck))))) else .stuck) else (.ret [(.bool true)]))
  | .h2 v7 v8 v9 v10 v11 => (bif (decide (v11 < ((v8.length : Nat) : Int))) then (bif v10 then (.to (.h2 v7 v8 v9 true (IntKind.wrap IntKind.i64 (v11 + 1)))) else (bif ((decide (0 ≤ v11 ∧ v11 < ((v8.length : Nat) : Int))) && true) then (.to (.h2 v7 v8 v9 ((rd v8 (Int.toNat v11)) == x1) (IntKind.wrap IntKind.i64 (v11 + 1)))) else .stuck)) else (bif (v9 != 0) then (.ret [(.bool false)]) else (bif (!v10) then (.ret [(.bool false)]) else (.to (.h1 (IntKind.wrap IntKind.i64 (v7 + 1)))))))
noncomputable def mutstart (l0 : List (List R6)) (x1 : Int) : Out' mutS := (bif (decide (((l0.length : Nat) : Int) > 8)) then (.ret [(.bool true)]) else (.to (.h0 0)))
theorem mutstep_ok (l0 : List (List R6)) (x1 : Int) : ∀ s, Lead Tryz.prog (resultsOf Tryz.prog 7) (mutC l0 x1) (mutC l0 x1 s) (mutstep l0 x1 s)
  | .h0 v3 => (lead_bif (fun k0 => (lead_owe fun o1_0 => (lead_owe fun o1_1 => (lead_bif (fun k1 => (lr 127 7 [1, 0, 1, 0, 0] 1 4 [(4, (.bool true))] (sl Tg_ok 53 [] ⟨[], [], [some [4]], []⟩ ⟨[], [], []⟩ (trs 8 [false, true, true, true, true, true, true, true]) (tt k1 (pp (pp (xI R6 (rd l0 (Int.toNat v3)).length (rowsT (rd l0 (Int.toNat v3)))) (xw o1_1)) (ww o1_0 (tt k0 nn))))))) (fun k1 => (lead_owe fun o2_0 => (lead_bif (fun k2 => (lr 127 7 [1, 0, 1, 0, 0] 1 4 [(4, (.bool true))] (sl Tg_ok 53 [] ⟨[], [], [some [4]], []⟩ ⟨[], [], []⟩ [true, false, false, false, false, false, false, true, false, true, true, true, true, true, true, true] (tt k2 (pp (pp (xI R6 (rd l0 (Int.toNat v3)).length (rowsT (rd l0 (Int.toNat v3)))) (xw o2_0)) (ww o1_0 (tt k1 (pp (pp (xI R6 (rd l0 (Int.toNat v3)).length (rowsT (rd l0 (Int.toNat v3)))) (xw o1_1)) (ww o1_0 (tt k0 nn)))))))))) (fun k2 => (sl Tg_ok 37 [] ⟨[], [], [some [0, 3], some [0, 1, 15, 16]], []⟩ ⟨[], [], []⟩ [true, false, false, false, false, false, false, false] (tt k2 (pp (pp (xI R6 (rd l0 (Int.toNat v3)).length (rowsT (rd l0 (Int.toNat v3)))) (xw o2_0)) (ww o1_0 (tt k1 (pp (pp (xI R6 (rd l0 (Int.toNat v3)).length (rowsT (rd l0 (Int.toNat v3)))) (xw o1_1)) (ww o1_0 (tt k0 nn)))))))))))))))) (fun k0 => (lead_bif (fun k1 => (lr 127 7 [1, 0, 1, 0, 0] 1 4 [(4, (.bool true))] (sl Tg_ok 34 [] ⟨[], [], [some [4]], []⟩ ⟨[], [], []⟩ [false, false, false, false, true, true, true, true, true] (tt k1 (tt k0 nn))))) (fun k1 => (lead_bif (fun k2 => (lr 127 7 [1, 0, 1, 0, 0] 1 4 [(4, (.bool true))] (sl Tg_ok 34 [] ⟨[], [], [some [4]], []⟩ ⟨[], [], []⟩ [false, false, false, false, false, false, false, false, true] (tt k2 (tt k1 (tt k0 nn)))))) (fun k2 => (lead_owe fun o3_0 => (lead_bif (fun k3 => (lr 127 7 [1, 1, 1, 0, 1, 0, 0] 1 4 [(4, (.bool false))] (sl Tg_ok 65 [] ⟨[], [], [some [4]], []⟩ ⟨[], [], []⟩ [false, false, false, false, false, false, false, false, false, true, true, true, true, true, true, true, true, true] (tt k3 (pp (pp (xr l0) (xw o3_0)) (tt k2 (tt k1 (tt k0 nn)))))))) (fun k3 => (lead_owe fun o4_0 => (lead_bif (fun k4 => (lead_bif (fun k5 => (lr 127 7 [1, 1, 1, 0, 1, 0, 0] 1 4 [(4, (.bool false))] (sl Tg_ok 65 [] ⟨[], [], [some [4]], []⟩ ⟨[], [], []⟩ [false, false, false, false, false, false, false, false, false, false, false, false, false, false, false, false, true, true, true, false, true] (tt k5 (tt k4 (ww o4_0 (tt k3 (pp (pp (xr l0) (xw o3_0)) (tt k2 (tt k1 (tt k0 nn))))))))))) (fun k5 => (sl Tg_ok 69 [] ⟨[], [], [some [0, 1, 5, 7]], []⟩ ⟨[], [], []⟩ [false, false, false, false, false, false, false, false, false, false, false, false, false, false, false, false, true, true, true, false, false] (tt k5 (tt k4 (ww o4_0 (tt k3 (pp (pp (xr l0) (xw o3_0)) (tt k2 (tt k1 (tt k0 nn)))))))))))) (fun k4 => (sl Tg_ok 69 [] ⟨[], [], [some [0, 1, 5, 7]], []⟩ ⟨[], [], []⟩ [false, false, false, false, false, false, false, false, false, false, false, false, false, false, false, false, false, false, false, false, false] (tt k4 (ww o4_0 (tt k3 (pp (pp (xr l0) (xw o3_0)) (tt k2 (tt k1 (tt k0 nn))))))))))))))))))))
  | .h1 v7 => (lead_bif (fun k0 => (lead_owe fun o1_0 => (lead_bif (fun k1 => (lr 127 7 [1, 1, 1, 1, 0, 1, 0, 0, 1, 0, 0, 0, 1, 0, 0] 1 4 [(4, (.bool false))] (sl Tg_ok 20 [] ⟨[], [], [some [4]], []⟩ ⟨[], [], []⟩ (trs 19 []) (tt k1 (ww o1_0 (tt k0 nn)))))) (fun k1 => (lead_bif (fun k2 => (lr 127 7 [1, 1, 1, 1, 0, 1, 0, 0, 1, 0, 0, 0, 1, 0, 0] 1 4 [(4, (.bool false))] (sl Tg_ok 20 [] ⟨[], [], [some [4]], []⟩ ⟨[], [], []⟩ [true, false, false, false, false, false, false, false, true, true, true, true, true, true, true, true, true, true, true] (tt k2 (ww o1_0 (tt k1 (ww o1_0 (tt k0 nn)))))))) (fun k2 => (lead_bif (fun k3 => (lr 127 7 [1, 1, 1, 1, 0, 1, 0, 0, 1, 0, 0, 0, 1, 0, 0] 1 4 [(4, (.bool false))] (sl Tg_ok 20 [] ⟨[], [], [some [4]], []⟩ ⟨[], [], []⟩ [true, false, false, false, false, false, false, false, false, false, false, false, false, false, true, true, true, true, true] (tt k3 (ww o1_0 (tt k2 (ww o1_0 (tt k1 (ww o1_0 (tt k0 nn)))))))))) (fun k3 => (lead_bif (fun k4 => (lead_owe fun o5_0 => (lead_bif (fun k5 => (lr 127 7 [1, 1, 1, 1, 0, 1, 0, 0, 1, 0, 0, 0, 1, 0, 0] 1 4 [(4, (.bool false))] (sl Tg_ok 20 [] ⟨[], [], [some [4]], []⟩ ⟨[], [], []⟩ [true, false, false, false, false, false, false, false, false, false, false, false, false, false, false, false, false, true, true, true, true, true, true, true, true, true, true, false, true] (tt k5 (ww o1_0 (ww o5_0 (tt k4 (tt k3 (ww o1_0 (tt k2 (ww o1_0 (tt k1 (ww o1_0 (tt k0 nn)))))))))))))) (fun k5 => (lead_owe fun o0 => (sl Tg_ok 42 [] ⟨[], [], [some [0, 1, 5, 7, 8, 9, 10, 11]], []⟩ ⟨[], [], []⟩ [true, false, false, false, false, false, false, false, false, false, false, false, false, false, false, false, false, true, true, true, true, true, true, true, true, true, true, false, false] (pp (pp (xr l0) (xw o0)) (ww o1_0 (tt k5 (ww o1_0 (ww o5_0 (tt k4 (tt k3 (ww o1_0 (tt k2 (ww o1_0 (tt k1 (ww o1_0 (tt k0 nn))))))))))))))))))) (fun k4 => (lead_owe fun o0 => (sl Tg_ok 42 [] ⟨[], [], [some [0, 1, 5, 7, 8, 9, 10, 11]], []⟩ ⟨[], [], []⟩ [true, false, false, false, false, false, false, false, false, false, false, false, false, false, false, false, false, false, false, false, false, false, false, false, false, false, false, false, false] (pp (pp (xr l0) (xw o0)) (ww o1_0 (tt k4 (tt k3 (ww o1_0 (tt k2 (ww o1_0 (tt k1 (ww o1_0 (tt k0 nn)))))))))))))))))))))) (fun k0 => (lr 127 3 [1, 1, 1, 1, 1, 1, 0] 1 4 [(4, (.bool true))] (sl Tg_ok 15 [] ⟨[], [], [some [4]], []⟩ ⟨[], [], []⟩ [false] (tt k0 nn)))))
  | .h2 v7 v8 v9 v10 v11 => (lead_bif (fun k0 => (lead_bif (fun k1 => (sl Tg_ok 31 [] ⟨[], [], [some [0, 1, 5, 7, 8, 9, 10, 11]], []⟩ ⟨[], [], []⟩ (trs 7 []) (tt k1 (tt k0 nn)))) (fun k1 => (lead_owe fun o0 => (sl Tg_ok 31 [] ⟨[], [], [some [0, 1, 5, 7, 8, 9, 10, 11]], []⟩ ⟨[], [], []⟩ [true, false, false, false, false, false, false] (ww o0 (tt k1 (tt k0 nn)))))))) (fun k0 => (lead_bif (fun k1 => (lr 127 7 [1, 1, 1, 1, 0, 1, 0, 0, 1, 0, 0, 1, 1, 1, 1, 1, 0, 0] 1 4 [(4, (.bool false))] (sl Tg_ok 24 [] ⟨[], [], [some [4]], []⟩ ⟨[], [], []⟩ [false, true, true, true] (tt k1 (tt k0 nn))))) (fun k1 => (lead_bif (fun k2 => (lr 127 7 [1, 1, 1, 1, 0, 1, 0, 0, 1, 0, 0, 1, 1, 1, 1, 1, 0, 0] 1 4 [(4, (.bool false))] (sl Tg_ok 24 [] ⟨[], [], [some [4]], []⟩ ⟨[], [], []⟩ [false, false, false, true] (tt k2 (tt k1 (tt k0 nn)))))) (fun k2 => (sl Tg_ok 28 [] ⟨[], [], [some [0, 1, 5, 7]], []⟩ ⟨[], [], []⟩ [false, false, false, false] (tt k2 (tt k1 (tt k0 nn))))))))))
theorem mutstart_ok (l0 : List (List R6)) (x1 : Int) : Lead Tryz.prog (resultsOf Tryz.prog 7) (mutC l0 x1) (startC Tryz.prog 7 [(.dat l0.length (rowsT l0)), (.int .i64 x1)] true []) (mutstart l0 x1) := (lead_bif (fun k0 => (lr 127 7 [1, 0, 1, 0, 0] 1 4 [(4, (.bool true))] (sl Tg_ok 32 [] ⟨[], [], [some [4]], []⟩ ⟨[], [], []⟩ (trs 10 []) (tt k0 nn)))) (fun k0 => (sl Tg_ok 24 [] ⟨[], [], [some [0, 3], some [0, 1, 15, 16]], []⟩ ⟨[], [], []⟩ [false, false] (tt k0 nn))))
theorem mut_ends (l0 : List (List R6)) (x1 : Int) (n : Nat) (vs : List AVal) (h : goOn (mutstep l0 x1) n (mutstart l0 x1) = .ret vs) : Ends Tryz.prog (resultsOf Tryz.prog 7) (startC Tryz.prog 7 [(.dat l0.length (rowsT l0)), (.int .i64 x1)] true []) vs := by
  have := goOn_lead (mutstep_ok l0 x1) n _ (mutstart_ok l0 x1)
  rwa [h] at this
end Go.Am
end
section
set_option linter.unusedVariables false
set_option linter.unusedSimpArgs false
namespace Go.Am
open Go.Proofs Go.Sort Go.Shelf Go.RowKit Go.Lib
set_option maxRecDepth 100000
set_option maxHeartbeats 4000000
set_option linter.unusedVariables false
set_option linter.unusedSimpArgs false
theorem grt_small {X : List R6} (h : grtV X = false) : decide (X.length ≤ 100 ∨ 400 < X.length) = true := by
  have := of_decide_eq_false h
  exact decide_eq_true (by omega)
theorem volcom_comm {X Y : List R6} (hX : sckV_0 X = 0) (hY : sckV_0 Y = 0) : volV (comV X Y) = volV (comV Y X) := by
  rw [vol_com hX hY, vol_com hY hX, S2_comm]
theorem val_all {X : List R6} (h : sckV_0 X = 0) : ∀ r ∈ X, okB r = true := fun r hr => okB_val ((sck_spec h).2.1 r hr)
end Go.Am
end
section
set_option linter.unusedVariables false
set_option linter.unusedSimpArgs false
namespace Go.Am
open Go.Proofs
set_option maxRecDepth 100000
set_option maxHeartbeats 4000000
set_option linter.unusedVariables false
set_option linter.unusedSimpArgs false
theorem orl_nil (Y : List R6) : orlV [] Y = 1 := by
  have z : ∀ (A : List R6) (d : Int), prV [] A d = 0 := fun A d => rfl
  have e : conV [] Y = 0 := by
    show conW [] Y [] = 0
    unfold conW c1W
    simp only [z]
    rfl
  unfold orlV
  rw [e, show comV [] Y = [] from rfl]
  rfl
theorem orl_one {X Y : List R6} (hX : sckV_0 X = 0) (hY : sckV_0 Y = 0) (h : (orlV X Y != 1) = true) : (orlV Y X != 1) = true := by
  unfold orlV at *
  rw [← volcom_comm hX hY, conV_comm Y X (val_all hY) (val_all hX)]
  generalize volV (comV X Y) = n at *
  generalize volV X = v at *
  generalize volV Y = u at *
  generalize conV X Y = c at *
  unfold relN at *
  rcases boolc (decide (n > 0)) with q | q
  · rw [q, cond_true]
    cases (n == u) <;> cases (n == v) <;> rfl
  · rw [q, cond_false] at h ⊢
    exact h
theorem neL_mem {l : List (List R6)} {i x : Int} {n : Nat} (h : x ∈ neL l i n) : ∃ j : Nat, x = (j : Int) ∧ j < n ∧ nearB_ l i j = true := by
  obtain ⟨j, hj, rfl⟩ := List.mem_map.1 h
  obtain ⟨h1, h2⟩ := List.mem_filter.1 hj
  exact ⟨j, rfl, List.mem_range.1 h1, h2⟩
theorem mem_neL {l : List (List R6)} {i : Int} {n j : Nat} (h1 : j < n) (h2 : nearB_ l i j = true) : (j : Int) ∈ neL l i n :=
  List.mem_map.2 ⟨j, List.mem_filter.2 ⟨List.mem_range.2 h1, h2⟩, rfl⟩
theorem neL_asc (l : List (List R6)) (i : Int) (n : Nat) : (neL l i n).Pairwise (· < ·) := by
  unfold neL
  refine List.pairwise_map.2 ?_
  exact (List.pairwise_lt_range.sublist List.filter_sublist).imp fun h => by omega
section
variable (l : List (List R6)) (x : Int)
theorem nea_at (hl : l.length ≤ 8) (hc : chkV l = 0) (i : Int) (hi : 0 ≤ i ∧ i < (l.length : Int)) : neaV_0 l i = neL l i l.length ∧ neaV_1 l i = 0 := by
  unfold neaV_0 neaV_1
  rw [hc, decide_eq_false (show ¬ ((l.length : Int) > 60) by omega), decide_eq_false (show ¬ i < 0 by omega), decide_eq_false (show ¬ (i ≥ (l.length : Int)) by omega)]
  exact ⟨rfl, rfl⟩
theorem mut_h2 (v : Int) (b : List Int) (hb : b.length ≤ 100) : ∀ (k j : Nat) (f : Bool), j + k = b.length → ∃ n, ∀ N, goOn (mutstep l x) (N + n) (.to (.h2 v b 0 f (j : Int))) = goOn (mutstep l x) N (bif f || (b.drop j).any (· == x) then .to (.h1 (IntKind.wrap .i64 (v + 1))) else .ret [.bool false])
  | 0, j, f, h => by
    refine ⟨1, fun N => ?_⟩
    rw [List.drop_eq_nil_of_le (by omega), goOn_to]
    cases f <;> simp (disch := omega) only [mutstep, dlt_f, show ((0 : Int) != 0) = false from rfl, Bool.not_true, Bool.not_false, Bool.true_or, Bool.false_or, List.any_nil, cond_true, cond_false]
  | k + 1, j, f, h => by
    have hj : j < b.length := by omega
    have hlt : decide ((j : Int) < ((b.length : Nat) : Int)) = true := decide_eq_true (by omega)
    have hin : decide (0 ≤ (j : Int) ∧ (j : Int) < ((b.length : Nat) : Int)) = true := decide_eq_true (by omega)
    obtain ⟨n, hn⟩ := mut_h2 v b hb k (j + 1) (f || (rd b j == x)) (by omega)
    refine ⟨n + 1, fun N => ?_⟩
    have := hn N
    rw [drop_rd hj, List.any_cons, ← Bool.or_assoc, ← this, ← Nat.add_assoc, goOn_to]
    cases f <;> simp (disch := omega) only [mutstep, hlt, hin, wrap_t, cast_succ, toNat_c, Bool.and_true, Bool.true_or, Bool.false_or, cond_true, cond_false]
section
variable (hl : l.length ≤ 8) (hx : 0 ≤ x ∧ x < (l.length : Int)) (hv : ∀ s ∈ l, sckV_0 s = 0) (hc : chkV l = 0) (ho : ∀ i, neaV_owed l i = true)
include hl hx hv hc ho
theorem mut_h1 : ∀ (k j : Nat), j + k = (neaV_0 l x).length → ∃ n, goOn (mutstep l x) n (.to (.h1 (j : Int))) = .ret [.bool true]
  | 0, j, h => by
    refine ⟨1, ?_⟩
    rw [goOn_to]
    simp (disch := omega) only [mutstep, cvT_eq, dlt_f, cond_false, goOn_ret]
  | k + 1, j, h => by
    obtain ⟨e0, e1⟩ := nea_at l hl hc x hx
    rw [e0] at h
    have hlen := neL_length l x l.length
    have hj : j < (neL l x l.length).length := by omega
    obtain ⟨m, hm, hml, hb⟩ := neL_mem (show rd (neL l x l.length) j ∈ neL l x l.length by rw [rd_lt hj]; exact List.getElem_mem hj)
    unfold nearB_ at hb
    simp only [Bool.and_eq_true] at hb
    obtain ⟨b1, b2⟩ := hb
    have b1 : (m : Int) ≠ x := by simpa using b1
    have hmi : 0 ≤ (m : Int) ∧ (m : Int) < (l.length : Int) := by omega
    obtain ⟨f0, f1⟩ := nea_at l hl hc (m : Int) hmi
    have blen := neL_length l (m : Int) l.length
    have hback : (neL l (m : Int) l.length).any (· == x) = true := by
      refine List.any_eq_true.2 ⟨x, ?_, by simp⟩
      have hxt : ((x.toNat : Nat) : Int) = x := by omega
      rw [← hxt]
      refine mem_neL (by omega) ?_
      unfold nearB_
      have c1 : (((x.toNat : Nat) : Int) != (m : Int)) = true := by rw [hxt]; simpa using fun h => b1 h.symm
      rw [c1, Bool.true_and, toNat_c]
      exact orl_one (hv _ (by rw [rd_lt (show x.toNat < l.length by omega)]; exact List.getElem_mem _)) (hv _ (by rw [rd_lt hml]; exact List.getElem_mem _)) b2
    obtain ⟨n2, h2⟩ := mut_h2 l x (j : Int) (neL l (m : Int) l.length) (by omega) (neL l (m : Int) l.length).length 0 false (Nat.zero_add _)
    obtain ⟨n1, h1⟩ := mut_h1 k (j + 1) (by rw [e0]; omega)
    rw [List.drop_zero, hback, Bool.false_or, cond_true, wrap_t (show -9223372036854775808 ≤ (j : Int) + 1 ∧ (j : Int) + 1 ≤ 9223372036854775807 by omega), cast_succ] at h2
    refine ⟨n1 + n2 + 1, ?_⟩
    rw [goOn_to]
    have hlt : decide ((j : Int) < (((neL l x l.length).length : Nat) : Int)) = true := decide_eq_true (by omega)
    have hin : decide (0 ≤ (j : Int) ∧ (j : Int) < (((neL l x l.length).length : Nat) : Int)) = true := decide_eq_true (by omega)
    have g1 : decide ((m : Int) < 0) = false := decide_eq_false (by omega)
    have g2 : decide ((m : Int) ≥ ((l.length : Nat) : Int)) = false := decide_eq_false (by omega)
    have g3 : ((m : Int) == x) = false := by simpa using b1
    have step : mutstep l x (.h1 (j : Int)) = .to (.h2 (j : Int) (neL l (m : Int) l.length) 0 false 0) := by
      by_cases hj0 : j = 0
      · have g4 : decide ((j : Int) > 0) = false := decide_eq_false (by omega)
        simp only [mutstep, cvT_eq, e0, hlt, hin, toNat_c, hm, g1, g2, g3, g4, ho, f0, f1, Bool.and_true, cond_true, cond_false]
      · have g4 : decide ((j : Int) > 0) = true := decide_eq_true (by omega)
        have g5 : IntKind.wrap .i64 ((j : Int) - 1) = ((j - 1 : Nat) : Int) := by rw [wrap_t (by omega)]; omega
        have g6 : decide (0 ≤ ((j - 1 : Nat) : Int) ∧ ((j - 1 : Nat) : Int) < (((neL l x l.length).length : Nat) : Int)) = true := decide_eq_true (by omega)
        have g7 : decide (rd (neL l x l.length) (j - 1) ≥ (m : Int)) = false := decide_eq_false (by
          have := lt_rd (neL_asc l x l.length) (show j - 1 < j by omega) hj
          omega)
        simp only [mutstep, cvT_eq, e0, hlt, hin, toNat_c, hm, g1, g2, g3, g4, g5, g6, g7, ho, f0, f1, Bool.and_true, cond_true, cond_false]
    rw [step]
    exact (h2 n1).trans h1
end
theorem mut_h0 (hl : l.length ≤ 8) : ∀ (k j : Nat), j + k = l.length → (∀ s ∈ l.take j, grtV s = false ∧ sckV_0 s = 0) → ∃ n, goOn (mutstep l x) n (.to (.h0 (j : Int))) = .ret [.bool true]
  | 0, j, h, ht => by
    rw [List.take_of_length_le (by omega)] at ht
    by_cases h1 : x < 0
    · refine ⟨1, ?_⟩
      rw [goOn_to]
      simp (disch := omega) only [mutstep, dlt_f, decide_eq_true h1, cond_true, cond_false, goOn_ret]
    · by_cases h2 : x ≥ (l.length : Int)
      · refine ⟨1, ?_⟩
        rw [goOn_to]
        simp (disch := omega) only [mutstep, dlt_f, dge_t, cond_true, cond_false, goOn_ret]
      · have hc : chkV l = 0 := by
          clear h
          induction l with
          | nil => rfl
          | cons s l ih =>
            have : chkV (s :: l) = chkV l := by
              show (bif sckV_0 s != 0 then _ else _) = _
              rw [(ht s (by simp)).2]; rfl
            rw [this]
            by_cases hn : x < (l.length : Int)
            · exact ih (by simp at hl; omega) (fun t h => ht t (by simp [h])) (by omega)
            · clear ih this hl h2 hn h1
              induction l with
              | nil => rfl
              | cons t l ih =>
                show (bif sckV_0 t != 0 then _ else _) = _
                rw [(ht t (by simp)).2]
                exact ih fun u hu => ht u (by rcases List.mem_cons.1 hu with rfl | hu <;> simp [*])
        have ho : ∀ i, neaV_owed l i = true := fun i => List.all_eq_true.2 fun s hs => grt_small (ht s hs).1
        have hv : ∀ s ∈ l, sckV_0 s = 0 := fun s hs => (ht s hs).2
        obtain ⟨e0, e1⟩ := nea_at l hl hc x (by omega)
        obtain ⟨n, hn⟩ := mut_h1 l x hl (by omega) hv hc ho (neaV_0 l x).length 0 (Nat.zero_add _)
        refine ⟨n + 1, ?_⟩
        rw [goOn_to]
        have hii : decide (0 ≤ x ∧ x < ((l.length : Nat) : Int)) = true := decide_eq_true (by omega)
        have step : mutstep l x (.h0 (j : Int)) = .to (.h1 0) := by
          rcases boolc ((((rd l x.toNat).length : Nat) : Int) == 0) with q | q
          · have he : rd l x.toNat = [] := by
              have : ((rd l x.toNat).length : Int) = 0 := by simpa using q
              exact List.eq_nil_of_length_eq_zero (by omega)
            have hz : neaV_0 l x = [] := by
              rw [e0]
              unfold neL
              rw [List.map_eq_nil_iff, List.filter_eq_nil_iff]
              intro m _
              unfold nearB_
              rw [he, orl_nil]; simp
            simp (disch := omega) only [mutstep, cvT_eq, dlt_f, dge_f, hz, e1, ho, hii, q, show ((0 : Int) != 0) = false from rfl, List.length_nil, show decide (((0 : Nat) : Int) > 0) = false from rfl, Bool.and_true, cond_true, cond_false]
          · simp (disch := omega) only [mutstep, cvT_eq, dlt_f, dge_f, e1, ho, hii, q, show ((0 : Int) != 0) = false from rfl, Bool.and_true, cond_true, cond_false]
        rw [step]
        exact hn
  | k + 1, j, h, ht => by
    have hj : j < l.length := by omega
    have hlt : decide ((j : Int) < ((l.length : Nat) : Int)) = true := decide_eq_true (by omega)
    have hin : decide (0 ≤ (j : Int) ∧ (j : Int) < ((l.length : Nat) : Int)) = true := decide_eq_true (by omega)
    have w1 : ∀ l, grtV_owed l = true := fun _ => rfl
    have w2 : ∀ l, rckV_0_owed l = true := fun _ => rfl
    rcases boolc (grtV (rd l j)) with q1 | q1
    · refine ⟨1, ?_⟩
      rw [goOn_to]
      simp only [mutstep, cvT_eq, hlt, hin, toNat_c, w1, q1, Bool.and_true, cond_true, goOn_ret]
    · rcases boolc (rckV_0 (rd l j) != 0) with q2 | q2
      · refine ⟨1, ?_⟩
        rw [goOn_to]
        simp only [mutstep, cvT_eq, hlt, hin, toNat_c, w1, w2, q1, q2, Bool.and_true, cond_true, cond_false, goOn_ret]
      · obtain ⟨n, hn⟩ := mut_h0 hl k (j + 1) (by omega) (fun s hs => by
          rw [List.take_add_one] at hs
          have e : l[j]? = some (rd l j) := by rw [rd_lt hj]; exact List.getElem?_eq_getElem _
          rw [e] at hs
          simp only [Option.toList_some, List.mem_append, List.mem_singleton] at hs
          rcases hs with hs | rfl
          · exact ht s hs
          · exact ⟨q1, by rw [check_eq]; simpa using q2⟩)
        refine ⟨n + 1, ?_⟩
        rw [goOn_to]
        simp (disch := omega) only [mutstep, cvT_eq, hlt, hin, toNat_c, w1, w2, q1, q2, wrap_t, cast_succ, Bool.and_true, cond_true, cond_false]
        exact hn
end
theorem mut_run (l : List (List R6)) (x : Int) : ∃ N, goOn (mutstep l x) N (mutstart l x) = .ret [.bool true] := by
  unfold mutstart
  by_cases h : ((l.length : Nat) : Int) > 8
  · exact ⟨0, by rw [decide_eq_true h]; rfl⟩
  · obtain ⟨n, hn⟩ := mut_h0 l x (by omega) l.length 0 (Nat.zero_add _) (fun s hs => by simp at hs)
    refine ⟨n, ?_⟩
    rw [decide_eq_false h]
    exact hn
end Go.Am
end
section
set_option linter.unusedVariables false
set_option linter.unusedSimpArgs false
namespace Go.Am
set_option linter.unusedVariables false
theorem rows_rel {α : Type} [RowT α] {ρ : Rho} {n : Nat} {m : Nat → Nat} {g : Nat → Nat → List AVal} (hg : ∀ i j, g i j = RowT.cells (RowT.of (g i j) : α)) {v : Value} (h : VRel ρ (.dat n fun i => [.dat (m i) (g i)]) v) :
    ∃ X : List (List α), VRel ρ (.dat X.length (rowsT X)) v := by
  refine ⟨(List.range n).map fun i => lst α (m i) (g i), ?_⟩
  have hlen : ((List.range n).map fun i => lst α (m i) (g i)).length = n := by simp
  have hrow : ∀ i, i < n → rowsT ((List.range n).map fun i => lst α (m i) (g i)) i = [.dat (lst α (m i) (g i)).length (rowsT (lst α (m i) (g i)))] := fun i hi => by
    show RowT.cells (rd _ i) = _
    rw [rd_lt (by rw [hlen]; exact hi)]
    simp only [List.getElem_map, List.getElem_range]
    rfl
  rw [hlen]
  cases h with
  | datn => exact .datn _
  | datz _ a c => exact .datz _ _ _
  | dat _ _ blk base sz cap val hcap hsz hv hh =>
    refine .dat n _ blk base sz cap val hcap (fun i hi => by rw [hrow i hi, ← hsz i hi]; rfl) (fun i j hi hj => ?_) hh
    have hj0 : j = 0 := by rw [hrow i hi] at hj; simp at hj; omega
    subst hj0
    have h1 := hv i 0 hi (by simp)
    simp only [List.getElem_cons_zero] at h1
    have h2 := (asL_le (α := α) (v := .dat (m i) (g i)) rfl (pd_true fun k _ => hg i k)).sound h1
    simp only [hrow i hi, List.getElem_cons_zero]
    exact h2
end Go.Am
end
