/- A part of a proof: several texts in one. -/
import Derived.Test.YtpeijliglmfhnaaGreatKu5
section
namespace Go.Am
open Go.Proofs
set_option maxRecDepth 1000000
set_option linter.unusedVariables false
set_option linter.unusedSimpArgs false
set_option maxHeartbeats 4000000
inductive blkS where
  | h0 (v3 : List R6) (v8 : Int)
noncomputable def blkC (l0 : List R6) : blkS → Cfg
  | .h0 v3 v8 => ⟨⟨38, 0, true⟩, none, (todoP Tryz.prog 22 [1, 1, 0, 1, 0, 0] 0), none, (resultsOf Tryz.prog 8), ⟨envL [(3, (.sla 0 6 0 v3.length (.un 6))), (6, (.dat l0.length (rowsT l0))), (7, (.int .i64 ((l0.length : Nat) : Int))), (8, (.int .i64 v8))], memL [⟨rows v3.length (rowsT v3), 72, some ⟨6, v3.length, (rowsT v3)⟩⟩] 0, 1, [], true⟩, [], .leaf⟩
noncomputable def blkstep (l0 : List R6) : blkS → Out' blkS
  | .h0 v3 v8 => (bif (decide (v8 < ((l0.length : Nat) : Int))) then (bif ((decide (0 ≤ v8 ∧ v8 < ((l0.length : Nat) : Int))) && true) then (bif (Nat.beq 6 6 && ((decide (0 + v3.length = v3.length)) && decide ((v3.length + 1 + 1) * (48 + 1) ≤ room))) then (.to (.h0 (v3 ++ [(R6.mk (rd l0 (Int.toNat v8)).a (rd l0 (Int.toNat v8)).b (rd l0 (Int.toNat v8)).c (rd l0 (Int.toNat v8)).d (rd l0 (Int.toNat v8)).e (rd l0 (Int.toNat v8)).f)]) (IntKind.wrap IntKind.i64 (v8 + 1)))) else .stuck) else .stuck) else (.ret [(.dat v3.length (rowsT v3))]))
noncomputable def blkstart (l0 : List R6) : Out' blkS := (.to (.h0 ([] : List R6) 0))
theorem blkstep_ok (l0 : List R6) : ∀ s, Lead Tryz.prog (resultsOf Tryz.prog 22) (blkC l0) (blkC l0 s) (blkstep l0 s)
  | .h0 v3 v8 => (lead_bif (fun k0 => (lead_owe fun o0 => (lead_owe fun o1 => (sl T9_ok 49 [] ⟨[3], [], [some [3, 6, 7, 8]], []⟩ ⟨[(3, .len (v3 ++ [(R6.mk (rd l0 (Int.toNat v8)).a (rd l0 (Int.toNat v8)).b (rd l0 (Int.toNat v8)).c (rd l0 (Int.toNat v8)).d (rd l0 (Int.toNat v8)).e (rd l0 (Int.toNat v8)).f)]).length)], [.rowed 6 (v3 ++ [(R6.mk (rd l0 (Int.toNat v8)).a (rd l0 (Int.toNat v8)).b (rd l0 (Int.toNat v8)).c (rd l0 (Int.toNat v8)).d (rd l0 (Int.toNat v8)).e (rd l0 (Int.toNat v8)).f)]).length (rowsT (v3 ++ [(R6.mk (rd l0 (Int.toNat v8)).a (rd l0 (Int.toNat v8)).b (rd l0 (Int.toNat v8)).c (rd l0 (Int.toNat v8)).d (rd l0 (Int.toNat v8)).e (rd l0 (Int.toNat v8)).f)]))], []⟩ [true] (pp (xL (v3.length + 1) (v3 ++ [(R6.mk (rd l0 (Int.toNat v8)).a (rd l0 (Int.toNat v8)).b (rd l0 (Int.toNat v8)).c (rd l0 (Int.toNat v8)).d (rd l0 (Int.toNat v8)).e (rd l0 (Int.toNat v8)).f)]).length) (pp (xL (v3.length + 1) (v3 ++ [(R6.mk (rd l0 (Int.toNat v8)).a (rd l0 (Int.toNat v8)).b (rd l0 (Int.toNat v8)).c (rd l0 (Int.toNat v8)).d (rd l0 (Int.toNat v8)).e (rd l0 (Int.toNat v8)).f)]).length) (pp (xS (v3.length + 1) (appRow (rowsT v3) 0 v3.length 6 [(.int .i64 (rd l0 (Int.toNat v8)).a), (.int .i64 (rd l0 (Int.toNat v8)).b), (.int .i64 (rd l0 (Int.toNat v8)).c), (.int .i64 (rd l0 (Int.toNat v8)).d), (.int .i64 (rd l0 (Int.toNat v8)).e), (.int .i64 (rd l0 (Int.toNat v8)).f)]) (rowsT (v3 ++ [(R6.mk (rd l0 (Int.toNat v8)).a (rd l0 (Int.toNat v8)).b (rd l0 (Int.toNat v8)).c (rd l0 (Int.toNat v8)).d (rd l0 (Int.toNat v8)).e (rd l0 (Int.toNat v8)).f)]))) (pp (pp (xF (appRow (rowsT v3) 0 v3.length 6 [(.int .i64 (rd l0 (Int.toNat v8)).a), (.int .i64 (rd l0 (Int.toNat v8)).b), (.int .i64 (rd l0 (Int.toNat v8)).c), (.int .i64 (rd l0 (Int.toNat v8)).d), (.int .i64 (rd l0 (Int.toNat v8)).e), (.int .i64 (rd l0 (Int.toNat v8)).f)])) nn) (ww o1 (ww o0 (tt k0 nn))))))))))) (fun k0 => (lr 38 3 [1, 1, 1, 1, 1, 1, 0] 1 8 [(2, (.dat v3.length (rowsT v3)))] (sl T9_ok 12 [] ⟨[], [0], [some [2]], []⟩ ⟨[(2, .frz v3.length v3.length (rowsT v3) (rowsT v3))], [], []⟩ [false] (pp (xZ (frzS 6 6 0 v3.length v3.length (rowsT v3)) v3.length (rowsT v3)) (pp (xL v3.length v3.length) (pp (xS v3.length (rowsT v3) (rowsT v3)) (pp (fl v3 nn) (tt k0 nn)))))))))
theorem blkstart_ok (l0 : List R6) : Lead Tryz.prog (resultsOf Tryz.prog 22) (blkC l0) (startC Tryz.prog 22 [(.dat l0.length (rowsT l0))] true []) (blkstart l0) := (sl T9_ok 17 [(72, 6, rowsT ([] : List R6))] ⟨[0], [], [some [3, 6, 7, 8]], []⟩ ⟨[(3, .grow 0 6)], [], []⟩ [] (pp (fl ([] : List R6) nn) nn))
theorem blk_ends (l0 : List R6) (n : Nat) (vs : List AVal) (h : goOn (blkstep l0) n (blkstart l0) = .ret vs) : Ends Tryz.prog (resultsOf Tryz.prog 22) (startC Tryz.prog 22 [(.dat l0.length (rowsT l0))] true []) vs := by
  have := goOn_lead (blkstep_ok l0) n _ (blkstart_ok l0)
  rwa [h] at this
inductive volS where
  | h0 (v3 : Int) (v10 : Int)
noncomputable def volC (l0 : List R6) : volS → Cfg
  | .h0 v3 v10 => ⟨⟨35, 0, true⟩, none, (todoP Tryz.prog 23 [1, 1, 0, 1, 0, 0] 0), none, (resultsOf Tryz.prog 8), ⟨envL [(3, (.int .i64 v3)), (8, (.dat l0.length (rowsT l0))), (9, (.int .i64 ((l0.length : Nat) : Int))), (10, (.int .i64 v10))], memL [] 0, 0, [], true⟩, [], .leaf⟩
noncomputable def volstep (l0 : List R6) : volS → Out' volS
  | .h0 v3 v10 => (bif (decide (v10 < ((l0.length : Nat) : Int))) then (bif ((decide (0 ≤ v10 ∧ v10 < ((l0.length : Nat) : Int))) && true) then (.to (.h0 (IntKind.wrap IntKind.i64 (v3 + (IntKind.wrap IntKind.i64 ((IntKind.wrap IntKind.i64 ((IntKind.wrap IntKind.i64 (1 * (IntKind.wrap IntKind.i64 ((rd l0 (Int.toNat v10)).d - (rd l0 (Int.toNat v10)).a)))) * (IntKind.wrap IntKind.i64 ((rd l0 (Int.toNat v10)).e - (rd l0 (Int.toNat v10)).b)))) * (IntKind.wrap IntKind.i64 ((rd l0 (Int.toNat v10)).f - (rd l0 (Int.toNat v10)).c)))))) (IntKind.wrap IntKind.i64 (v10 + 1)))) else .stuck) else (.ret [(.int .i64 v3)]))
noncomputable def volstart (l0 : List R6) : Out' volS := (.to (.h0 0 0))
theorem volstep_ok (l0 : List R6) : ∀ s, Lead Tryz.prog (resultsOf Tryz.prog 23) (volC l0) (volC l0 s) (volstep l0 s)
  | .h0 v3 v10 => (lead_bif (fun k0 => (lead_owe fun o0 => (sl T9_ok 221 [] ⟨[], [], [some [3, 8, 9, 10]], []⟩ ⟨[], [], []⟩ [true, true, false, false, false, true, true, false, true, false, true, false, true, true, true, false, true, true, false, true, true, false, false, true, true, true, false] (ww o0 (tt k0 nn))))) (fun k0 => (lr 35 3 [1, 1, 1, 1, 1, 1, 0] 1 8 [(2, (.int .i64 v3))] (sl T9_ok 12 [] ⟨[], [], [some [2]], []⟩ ⟨[], [], []⟩ [false] (tt k0 nn)))))
theorem volstart_ok (l0 : List R6) : Lead Tryz.prog (resultsOf Tryz.prog 23) (volC l0) (startC Tryz.prog 23 [(.dat l0.length (rowsT l0))] true []) (volstart l0) := (sl T9_ok 17 [] ⟨[], [], [some [3, 8, 9, 10]], []⟩ ⟨[], [], []⟩ [] nn)
theorem vol_ends (l0 : List R6) (n : Nat) (vs : List AVal) (h : goOn (volstep l0) n (volstart l0) = .ret vs) : Ends Tryz.prog (resultsOf Tryz.prog 23) (startC Tryz.prog 23 [(.dat l0.length (rowsT l0))] true []) vs := by
  have := goOn_lead (volstep_ok l0) n _ (volstart_ok l0)
  rwa [h] at this
inductive comS where
  | h0 (v5 : List R6) (v14 : Int)
  | h1 (v5 : List R6) (v14 : Int) (v20 : Int) (v_0_0 : Int) (v_0_1 : Int) (v_0_2 : Int) (v_0_3 : Int) (v_0_4 : Int) (v_0_5 : Int)
noncomputable def comC (l0 : List R6) (l1 : List R6) : comS → Cfg
  | .h0 v5 v14 => ⟨⟨38, 0, true⟩, none, (todoP Tryz.prog 28 [1, 1, 0, 1, 0, 0] 0), none, (resultsOf Tryz.prog 4), ⟨envL [(1, (.dat l1.length (rowsT l1))), (5, (.sla 0 6 0 v5.length (.un 6))), (12, (.dat l0.length (rowsT l0))), (13, (.int .i64 ((l0.length : Nat) : Int))), (14, (.int .i64 v14))], memL [⟨rows v5.length (rowsT v5), 72, some ⟨6, v5.length, (rowsT v5)⟩⟩] 0, 1, [], true⟩, [], .leaf⟩
  | .h1 v5 v14 v20 v_0_0 v_0_1 v_0_2 v_0_3 v_0_4 v_0_5 => ⟨⟨38, 0, true⟩, none, (todoP Tryz.prog 28 [1, 1, 0, 1, 0, 0, 1, 1, 0, 0, 1, 1, 0, 0] 0), none, (resultsOf Tryz.prog 4), ⟨envL [(1, (.dat l1.length (rowsT l1))), (5, (.sla 1 6 0 v5.length (.un 6))), (7, (.ptr 0 0)), (12, (.dat l0.length (rowsT l0))), (13, (.int .i64 ((l0.length : Nat) : Int))), (14, (.int .i64 v14)), (18, (.dat l1.length (rowsT l1))), (19, (.int .i64 ((l1.length : Nat) : Int))), (20, (.int .i64 v20))], memL [⟨[(.int .i64 v_0_0), (.int .i64 v_0_1), (.int .i64 v_0_2), (.int .i64 v_0_3), (.int .i64 v_0_4), (.int .i64 v_0_5)], 72, none⟩, ⟨rows v5.length (rowsT v5), 72, some ⟨6, v5.length, (rowsT v5)⟩⟩] 0, 2, [], true⟩, [], .leaf⟩
noncomputable def comstep (l0 : List R6) (l1 : List R6) : comS → Out' comS
  | .h0 v5 v14 => (bif (decide (v14 < ((l0.length : Nat) : Int))) then (bif ((decide (0 ≤ v14 ∧ v14 < ((l0.length : Nat) : Int))) && true) then (.to (.h1 v5 v14 0 (rd l0 (Int.toNat v14)).a (rd l0 (Int.toNat v14)).b (rd l0 (Int.toNat v14)).c (rd l0 (Int.toNat v14)).d (rd l0 (Int.toNat v14)).e (rd l0 (Int.toNat v14)).f)) else .stuck) else (.ret [(.dat v5.length (rowsT v5))]))
  | .h1 v5 v14 v20 v_0_0 v_0_1 v_0_2 v_0_3 v_0_4 v_0_5 => (bif (decide (v20 < ((l1.length : Nat) : Int))) then (bif ((decide (0 ≤ v20 ∧ v20 < ((l1.length : Nat) : Int))) && true) then (bif (decide ((iMax v_0_0 (rd l1 (Int.toNat v20)).a) ≥ (iMin v_0_3 (rd l1 (Int.toNat v20)).d))) then (.to (.h1 v5 v14 (IntKind.wrap IntKind.i64 (v20 + 1)) v_0_0 v_0_1 v_0_2 v_0_3 v_0_4 v_0_5)) else (bif (decide ((iMax v_0_1 (rd l1 (Int.toNat v20)).b) ≥ (iMin v_0_4 (rd l1 (Int.toNat v20)).e))) then (.to (.h1 v5 v14 (IntKind.wrap IntKind.i64 (v20 + 1)) v_0_0 v_0_1 v_0_2 v_0_3 v_0_4 v_0_5)) else (bif (decide ((iMax v_0_2 (rd l1 (Int.toNat v20)).c) ≥ (iMin v_0_5 (rd l1 (Int.toNat v20)).f))) then (.to (.h1 v5 v14 (IntKind.wrap IntKind.i64 (v20 + 1)) v_0_0 v_0_1 v_0_2 v_0_3 v_0_4 v_0_5)) else (bif (Nat.beq 6 6 && ((decide (0 + v5.length = v5.length)) && decide ((v5.length + 1 + 1) * (48 + 1) ≤ room))) then (.to (.h1 (v5 ++ [(R6.mk (iMax v_0_0 (rd l1 (Int.toNat v20)).a) (iMax v_0_1 (rd l1 (Int.toNat v20)).b) (iMax v_0_2 (rd l1 (Int.toNat v20)).c) (iMin v_0_3 (rd l1 (Int.toNat v20)).d) (iMin v_0_4 (rd l1 (Int.toNat v20)).e) (iMin v_0_5 (rd l1 (Int.toNat v20)).f))]) v14 (IntKind.wrap IntKind.i64 (v20 + 1)) v_0_0 v_0_1 v_0_2 v_0_3 v_0_4 v_0_5)) else .stuck)))) else .stuck) else (.to (.h0 v5 (IntKind.wrap IntKind.i64 (v14 + 1)))))
noncomputable def comstart (l0 : List R6) (l1 : List R6) : Out' comS := (.to (.h0 ([] : List R6) 0))
theorem comstep_ok (l0 : List R6) (l1 : List R6) : ∀ s, Lead Tryz.prog (resultsOf Tryz.prog 28) (comC l0 l1) (comC l0 l1 s) (comstep l0 l1 s)
  | .h0 v5 v14 => (lead_bif (fun k0 => (lead_owe fun o0 => (sl T9_ok 24 [] ⟨[1, 0], [], [some [1, 5, 7, 12, 13, 14, 18, 19, 20]], []⟩ ⟨[], [], []⟩ [true] (pp (fl v5 nn) (ww o0 (tt k0 nn)))))) (fun k0 => (lr 38 3 [1, 1, 1, 1, 1, 1, 0] 1 4 [(4, (.dat v5.length (rowsT v5)))] (sl T9_ok 12 [] ⟨[], [0], [some [4]], []⟩ ⟨[(4, .frz v5.length v5.length (rowsT v5) (rowsT v5))], [], []⟩ [false] (pp (xZ (frzS 6 6 0 v5.length v5.length (rowsT v5)) v5.length (rowsT v5)) (pp (xL v5.length v5.length) (pp (xS v5.length (rowsT v5) (rowsT v5)) (pp (fl v5 nn) (tt k0 nn)))))))))
  | .h1 v5 v14 v20 v_0_0 v_0_1 v_0_2 v_0_3 v_0_4 v_0_5 => (lead_bif (fun k0 => (lead_owe fun o1_0 => (lead_bif (fun k1 => (sl T9_ok 82 [] ⟨[0, 1], [], [some [1, 5, 7, 12, 13, 14, 18, 19, 20]], []⟩ ⟨[], [], []⟩ [true, true, false, false, false, false, false, false, false, false, true, false] (pp (fl v5 nn) (tt k1 (ww o1_0 (tt k0 nn)))))) (fun k1 => (lead_bif (fun k2 => (sl T9_ok 110 [] ⟨[0, 1], [], [some [1, 5, 7, 12, 13, 14, 18, 19, 20]], []⟩ ⟨[], [], []⟩ [true, true, false, false, false, false, false, false, false, false, false, true, true, false, true, false, true, false, true, false, true, false, true, false, true, false, true, false, true, false] (pp (fl v5 nn) (tt k2 (tt k1 (ww o1_0 (tt k0 nn))))))) (fun k2 => (lead_bif (fun k3 => (sl T9_ok 138 [] ⟨[0, 1], [], [some [1, 5, 7, 12, 13, 14, 18, 19, 20]], []⟩ ⟨[], [], []⟩ [true, true, false, false, false, false, false, false, false, false, false, true, true, false, true, false, true, false, true, false, true, false, true, false, true, false, true, false, false, true, true, true, false, true, true, false, true, true, false, true, true, false, true, true, false, true, true, false, true, true, false, true, true, false, true, false] (pp (fl v5 nn) (tt k3 (tt k2 (tt k1 (ww o1_0 (tt k0 nn)))))))) (fun k3 => (lead_owe fun o0 => (sl T9_ok 158 [] ⟨[0, 8], [], [some [1, 5, 7, 12, 13, 14, 18, 19, 20]], []⟩ ⟨[(5, .len (v5 ++ [(R6.mk (iMax v_0_0 (rd l1 (Int.toNat v20)).a) (iMax v_0_1 (rd l1 (Int.toNat v20)).b) (iMax v_0_2 (rd l1 (Int.toNat v20)).c) (iMin v_0_3 (rd l1 (Int.toNat v20)).d) (iMin v_0_4 (rd l1 (Int.toNat v20)).e) (iMin v_0_5 (rd l1 (Int.toNat v20)).f))]).length)], [.keep, .rowed 6 (v5 ++ [(R6.mk (iMax v_0_0 (rd l1 (Int.toNat v20)).a) (iMax v_0_1 (rd l1 (Int.toNat v20)).b) (iMax v_0_2 (rd l1 (Int.toNat v20)).c) (iMin v_0_3 (rd l1 (Int.toNat v20)).d) (iMin v_0_4 (rd l1 (Int.toNat v20)).e) (iMin v_0_5 (rd l1 (Int.toNat v20)).f))]).length (rowsT (v5 ++ [(R6.mk (iMax v_0_0 (rd l1 (Int.toNat v20)).a) (iMax v_0_1 (rd l1 (Int.toNat v20)).b) (iMax v_0_2 (rd l1 (Int.toNat v20)).c) (iMin v_0_3 (rd l1 (Int.toNat v20)).d) (iMin v_0_4 (rd l1 (Int.toNat v20)).e) (iMin v_0_5 (rd l1 (Int.toNat v20)).f))]))], []⟩ [true, true, false, false, false, false, false, false, false, false, false, true, true, false, true, false, true, false, true, false, true, false, true, false, true, false, true, false, false, true, true, true, false, true, true, false, true, true, false, true, true, false, true, true, false, true, true, false, true, true, false, true, true, false, false, false, true] (pp (xL (v5.length + 1) (v5 ++ [(R6.mk (iMax v_0_0 (rd l1 (Int.toNat v20)).a) (iMax v_0_1 (rd l1 (Int.toNat v20)).b) (iMax v_0_2 (rd l1 (Int.toNat v20)).c) (iMin v_0_3 (rd l1 (Int.toNat v20)).d) (iMin v_0_4 (rd l1 (Int.toNat v20)).e) (iMin v_0_5 (rd l1 (Int.toNat v20)).f))]).length) (pp (xL (v5.length + 1) (v5 ++ [(R6.mk (iMax v_0_0 (rd l1 (Int.toNat v20)).a) (iMax v_0_1 (rd l1 (Int.toNat v20)).b) (iMax v_0_2 (rd l1 (Int.toNat v20)).c) (iMin v_0_3 (rd l1 (Int.toNat v20)).d) (iMin v_0_4 (rd l1 (Int.toNat v20)).e) (iMin v_0_5 (rd l1 (Int.toNat v20)).f))]).length) (pp (xS (v5.length + 1) (appRow (rowsT v5) 0 v5.length 6 [(.int .i64 (iMax v_0_0 (rd l1 (Int.toNat v20)).a)), (.int .i64 (iMax v_0_1 (rd l1 (Int.toNat v20)).b)), (.int .i64 (iMax v_0_2 (rd l1 (Int.toNat v20)).c)), (.int .i64 (iMin v_0_3 (rd l1 (Int.toNat v20)).d)), (.int .i64 (iMin v_0_4 (rd l1 (Int.toNat v20)).e)), (.int .i64 (iMin v_0_5 (rd l1 (Int.toNat v20)).f))]) (rowsT (v5 ++ [(R6.mk (iMax v_0_0 (rd l1 (Int.toNat v20)).a) (iMax v_0_1 (rd l1 (Int.toNat v20)).b) (iMax v_0_2 (rd l1 (Int.toNat v20)).c) (iMin v_0_3 (rd l1 (Int.toNat v20)).d) (iMin v_0_4 (rd l1 (Int.toNat v20)).e) (iMin v_0_5 (rd l1 (Int.toNat v20)).f))]))) (pp (pp (xF (appRow (rowsT v5) 0 v5.length 6 [(.int .i64 (iMax v_0_0 (rd l1 (Int.toNat v20)).a)), (.int .i64 (iMax v_0_1 (rd l1 (Int.toNat v20)).b)), (.int .i64 (iMax v_0_2 (rd l1 (Int.toNat v20)).c)), (.int .i64 (iMin v_0_3 (rd l1 (Int.toNat v20)).d)), (.int .i64 (iMin v_0_4 (rd l1 (Int.toNat v20)).e)), (.int .i64 (iMin v_0_5 (rd l1 (Int.toNat v20)).f))])) nn) (ww o0 (tt k3 (tt k2 (tt k1 (ww o1_0 (tt k0 nn)))))))))))))))))))) (fun k0 => (sl T9_ok 13 [] ⟨[1], [], [some [1, 5, 12, 13, 14]], []⟩ ⟨[], [], []⟩ [false] (pp (fl v5 nn) (tt k0 nn)))))
theorem comstart_ok (l0 : List R6) (l1 : List R6) : Lead Tryz.prog (resultsOf Tryz.prog 28) (comC l0 l1) (startC Tryz.prog 28 [(.dat l0.length (rowsT l0)), (.dat l1.length (rowsT l1))] true []) (comstart l0 l1) := (sl T9_ok 17 [(72, 6, rowsT ([] : List R6))] ⟨[0], [], [some [1, 5, 12, 13, 14]], []⟩ ⟨[(5, .grow 0 6)], [], []⟩ [] (pp (fl ([] : List R6) nn) nn))
theorem com_ends (l0 : List R6) (l1 : List R6) (n : Nat) (vs : List AVal) (h : goOn (comstep l0 l1) n (comstart l0 l1) = .ret vs) : Ends Tryz.prog (resultsOf Tryz.prog 28) (startC Tryz.prog 28 [(.dat l0.length (rowsT l0)), (.dat l1.length (rowsT l1))] true []) vs := by
  have := goOn_lead (comstep_ok l0 l1) n _ (comstart_ok l0 l1)
  rwa [h] at this
end Go.Am
end
section
namespace Go.Am
open Go.Proofs
set_option maxRecDepth 100000
set_option maxHeartbeats 4000000
set_option linter.unusedVariables false
set_option linter.unusedSimpArgs false
def blkV (l : List R6) : List R6 := l
def blkV_owed (l : List R6) : Bool := decide (l.length ≤ 10000)
theorem blk_h0 (l : List R6) (hl : l.length ≤ 10000) : ∀ (k i : Nat) (out : List R6), i + k = l.length → out = l.take i → ∃ N, goOn (blkstep l) N (.to (.h0 out (i : Int))) = .ret [.dat l.length (rowsT l)]
  | 0, i, out, h, ho => by
    refine ⟨1, ?_⟩
    rw [List.take_of_length_le (by omega)] at ho
    subst ho
    rw [goOn_to]
    simp (disch := omega) only [blkstep, dgt_f, dgt_t, dlt_t, dlt_f, dle_t, nlt_t, nle_t, neq_t, din_t, wrap_t, room_t, decide_true, cast_succ, beq11, toNat_c, Nat.zero_add, Bool.and_true, Bool.true_and, cond_true, cond_false, Bool.not_true, Bool.not_false, goOn_ret, cvT_eq, lst_rows]
  | k + 1, i, out, h, ho => by
    have hi : i < l.length := by omega
    have hlen : out.length = i := by rw [ho, List.length_take]; omega
    obtain ⟨N, hN⟩ := blk_h0 l hl k (i + 1) (out ++ [rd l i]) (by omega) (by rw [ho, rd_lt hi, List.take_append_getElem])
    refine ⟨N + 1, ?_⟩
    rw [goOn_to]
    simp (disch := omega) only [blkstep, dgt_f, dgt_t, dlt_t, dlt_f, dle_t, nlt_t, nle_t, neq_t, din_t, wrap_t, room_t, decide_true, cast_succ, beq11, toNat_c, Nat.zero_add, Bool.and_true, Bool.true_and, cond_true, cond_false, Bool.not_true, Bool.not_false, goOn_ret, cvT_eq, lst_rows]
    exact hN
theorem blk_run (l : List R6) (h : blkV_owed l = true) : ∃ N, goOn (blkstep l) N (blkstart l) = .ret [.dat (blkV l).length (rowsT (blkV l))] :=
  blk_h0 l (of_decide_eq_true h) l.length 0 [] (Nat.zero_add _) rfl
def vol1 (r : R6) : Int := IntKind.wrap .i64 (IntKind.wrap .i64 (IntKind.wrap .i64 (1 * IntKind.wrap .i64 (r.d - r.a)) * IntKind.wrap .i64 (r.e - r.b)) * IntKind.wrap .i64 (r.f - r.c))
def volF : List R6 → Int → Int
  | [], s => s
  | r :: l, s => volF l (IntKind.wrap .i64 (s + vol1 r))
def volV (l : List R6) : Int := volF l 0
def volV_owed (l : List R6) : Bool := decide (l.length ≤ 100000000)
theorem vol_h0 (l : List R6) (hl : l.length ≤ 100000000) : ∀ (k i : Nat) (s : Int), i + k = l.length → ∃ N, goOn (volstep l) N (.to (.h0 s (i : Int))) = .ret [.int .i64 (volF (l.drop i) s)]
  | 0, i, s, h => by
    refine ⟨1, ?_⟩
    rw [goOn_to, List.drop_eq_nil_of_le (by omega)]
    simp (disch := omega) only [volstep, volF, dgt_f, dgt_t, dlt_t, dlt_f, dle_t, nlt_t, nle_t, neq_t, din_t, wrap_t, room_t, decide_true, cast_succ, beq11, toNat_c, Nat.zero_add, Bool.and_true, Bool.true_and, cond_true, cond_false, Bool.not_true, Bool.not_false, goOn_ret, cvT_eq, lst_rows]
  | k + 1, i, s, h => by
    have hi : i < l.length := by omega
    obtain ⟨N, hN⟩ := vol_h0 l hl k (i + 1) (IntKind.wrap .i64 (s + vol1 (rd l i))) (by omega)
    refine ⟨N + 1, ?_⟩
    rw [goOn_to, drop_rd hi]
    simp (disch := omega) only [volstep, volF, dlt_t, din_t, cast_succ, toNat_c, Bool.and_true, cond_true]
    rw [wrap_t (n := ((i + 1 : Nat) : Int)) (by omega)]
    exact hN
theorem vol_run (l : List R6) (h : volV_owed l = true) : ∃ N, goOn (volstep l) N (volstart l) = .ret [.int .i64 (volV l)] :=
  vol_h0 l (of_decide_eq_true h) l.length 0 0 (Nat.zero_add _)
theorem vol1_cg (r : R6) : Cg (vol1 r) (bxV r) := by
  unfold vol1 bxV
  refine (((Cg.mul ?_ (Cg.wrap _)).w.mul (Cg.wrap _)).w)
  have h : Cg (1 * IntKind.wrap .i64 (r.d - r.a)) (1 * (r.d - r.a)) := Cg.mul (Cg.refl 1) (Cg.wrap _)
  exact h.w.trans (by rw [Int.one_mul]; exact Cg.refl _)
theorem volF_cg : ∀ (l : List R6) (s s' : Int), Cg s s' → Cg (volF l s) (s' + sm l bxV)
  | [], s, s', h => by rw [sm_nil, Int.add_zero]; exact h
  | r :: l, s, s', h => by
    rw [sm_cons, ← Int.add_assoc]
    exact volF_cg l _ _ (h.add (vol1_cg r)).w
theorem volV_cg (l : List R6) : Cg (volV l) (sm l bxV) := by
  have := volF_cg l 0 0 (Cg.refl 0)
  rwa [Int.zero_add] at this
theorem volF_in : ∀ (l : List R6) (s : Int), (-9223372036854775808 ≤ s ∧ s ≤ 9223372036854775807) → -9223372036854775808 ≤ volF l s ∧ volF l s ≤ 9223372036854775807
  | [], s, h => h
  | r :: l, s, h => volF_in l _ (wrap_in _)
theorem volV_in (l : List R6) : -9223372036854775808 ≤ volV l ∧ volV l ≤ 9223372036854775807 := volF_in l 0 (by omega)
theorem volV_eq {l : List R6} {n : Int} (h : sm l bxV = n) (hn : -9223372036854775808 ≤ n ∧ n ≤ 9223372036854775807) : volV l = n := by
  subst h; exact (volV_cg l).is (volV_in l) hn
def comV_owed (X Y : List R6) : Bool := decide (X.length ≤ 10000 ∧ Y.length ≤ 10000)
theorem com_length (X Y : List R6) : (comV X Y).length ≤ X.length * Y.length := by
  unfold comV
  induction X with
  | nil => simp
  | cons x X ih =>
    rw [List.flatMap_cons, List.length_append, List.length_cons, Nat.add_mul, Nat.one_mul]
    have := List.length_filterMap_le (meetV x) Y
    omega
section
variable (X Y : List R6) (hX : X.length ≤ 10000) (hY : Y.length ≤ 10000)
include hX hY
omit hX in
theorem com_h1 (i : Nat) (x : R6) : ∀ (k j : Nat) (out : List R6), j + k = Y.length → out.length ≤ i * 10000 + j → i ≤ 10000 →
    ∃ n, ∀ N, goOn (comstep X Y) (N + n) (.to (.h1 out (i : Int) (j : Int) x.a x.b x.c x.d x.e x.f)) = goOn (comstep X Y) N (.to (.h0 (out ++ (Y.drop j).filterMap (meetV x)) ((i + 1 : Nat) : Int)))
  | 0, j, out, h, ho, hi => by
    refine ⟨1, fun N => ?_⟩
    rw [goOn_to, List.drop_eq_nil_of_le (by omega), List.filterMap_nil, List.append_nil]
    simp (disch := omega) only [comstep, dgt_f, dgt_t, dlt_t, dlt_f, dle_t, nlt_t, nle_t, neq_t, din_t, wrap_t, room_t, decide_true, cast_succ, beq11, toNat_c, Nat.zero_add, Bool.and_true, Bool.true_and, cond_true, cond_false, Bool.not_true, Bool.not_false, goOn_ret, cvT_eq, lst_rows]
  | k + 1, j, out, h, ho, hi => by
    have hj : j < Y.length := by omega
    rw [drop_rd hj, List.filterMap_cons]
    have hin : decide (0 ≤ (j : Int) ∧ (j : Int) < ((Y.length : Nat) : Int)) = true := decide_eq_true (by omega)
    have hlt : decide ((j : Int) < ((Y.length : Nat) : Int)) = true := decide_eq_true (by omega)
    have hroom : decide ((out.length + 1 + 1) * (48 + 1) ≤ room) = true := room_t (by omega)
    by_cases h1 : max x.a (rd Y j).a < min x.d (rd Y j).d
    · by_cases h2 : max x.b (rd Y j).b < min x.e (rd Y j).e
      · by_cases h3 : max x.c (rd Y j).c < min x.f (rd Y j).f
        · have hm : meetV x (rd Y j) = some ⟨max x.a (rd Y j).a, max x.b (rd Y j).b, max x.c (rd Y j).c, min x.d (rd Y j).d, min x.e (rd Y j).e, min x.f (rd Y j).f⟩ := by
            unfold meetV; rw [decide_eq_true h1, decide_eq_true h2, decide_eq_true h3]; rfl
          obtain ⟨n, hn⟩ := com_h1 i x k (j + 1) (out ++ [⟨max x.a (rd Y j).a, max x.b (rd Y j).b, max x.c (rd Y j).c, min x.d (rd Y j).d, min x.e (rd Y j).e, min x.f (rd Y j).f⟩]) (by omega) (by simp; omega) hi
          refine ⟨n + 1, fun N => ?_⟩
          have := hn N
          rw [hm]
          simp only []
          rw [← Nat.add_assoc, goOn_to]
          simp (disch := omega) only [comstep, hin, hlt, hroom, iMax_eq, iMin_eq, dge_f, dgt_f, dgt_t, dlt_t, dlt_f, dle_t, nlt_t, nle_t, neq_t, din_t, wrap_t, room_t, decide_true, cast_succ, beq11, toNat_c, Nat.zero_add, Bool.and_true, Bool.true_and, cond_true, cond_false, Bool.not_true, Bool.not_false, goOn_ret, cvT_eq, lst_rows]
          rw [List.append_assoc] at this
          exact this
        · have hm : meetV x (rd Y j) = none := by
            unfold meetV; rw [decide_eq_true h1, decide_eq_true h2, decide_eq_false h3]; rfl
          obtain ⟨n, hn⟩ := com_h1 i x k (j + 1) out (by omega) (by omega) hi
          refine ⟨n + 1, fun N => ?_⟩
          have := hn N
          rw [hm]
          simp only []
          rw [← Nat.add_assoc, goOn_to]
          simp (disch := omega) only [comstep, hin, hlt, hroom, iMax_eq, iMin_eq, dge_f, dge_t, dgt_f, dgt_t, dlt_t, dlt_f, dle_t, nlt_t, nle_t, neq_t, din_t, wrap_t, room_t, decide_true, cast_succ, beq11, toNat_c, Nat.zero_add, Bool.and_true, Bool.true_and, cond_true, cond_false, Bool.not_true, Bool.not_false, goOn_ret, cvT_eq, lst_rows]
          exact this
      · have hm : meetV x (rd Y j) = none := by
          unfold meetV; rw [decide_eq_true h1, decide_eq_false h2]; rfl
        obtain ⟨n, hn⟩ := com_h1 i x k (j + 1) out (by omega) (by omega) hi
        refine ⟨n + 1, fun N => ?_⟩
        have := hn N
        rw [hm]
        simp only []
        rw [← Nat.add_assoc, goOn_to]
        simp (disch := omega) only [comstep, hin, hlt, hroom, iMax_eq, iMin_eq, dge_f, dge_t, dgt_f, dgt_t, dlt_t, dlt_f, dle_t, nlt_t, nle_t, neq_t, din_t, wrap_t, room_t, decide_true, cast_succ, beq11, toNat_c, Nat.zero_add, Bool.and_true, Bool.true_and, cond_true, cond_false, Bool.not_true, Bool.not_false, goOn_ret, cvT_eq, lst_rows]
        exact this
    · have hm : meetV x (rd Y j) = none := by
        unfold meetV; rw [decide_eq_false h1]; rfl
      obtain ⟨n, hn⟩ := com_h1 i x k (j + 1) out (by omega) (by omega) hi
      refine ⟨n + 1, fun N => ?_⟩
      have := hn N
      rw [hm]
      simp only []
      rw [← Nat.add_assoc, goOn_to]
      simp (disch := omega) only [comstep, hin, hlt, hroom, iMax_eq, iMin_eq, dge_f, dge_t, dgt_f, dgt_t, dlt_t, dlt_f, dle_t, nlt_t, nle_t, neq_t, din_t, wrap_t, room_t, decide_true, cast_succ, beq11, toNat_c, Nat.zero_add, Bool.and_true, Bool.true_and, cond_true, cond_false, Bool.not_true, Bool.not_false, goOn_ret, cvT_eq, lst_rows]
      exact this
theorem com_h0 : ∀ (k i : Nat) (out : List R6), i + k = X.length → out.length ≤ i * 10000 → ∃ n, goOn (comstep X Y) n (.to (.h0 out (i : Int))) = .ret [.dat (out ++ comV (X.drop i) Y).length (rowsT (out ++ comV (X.drop i) Y))]
  | 0, i, out, h, ho => by
    refine ⟨1, ?_⟩
    rw [goOn_to, List.drop_eq_nil_of_le (by omega), show comV [] Y = [] from rfl, List.append_nil]
    simp (disch := omega) only [comstep, dgt_f, dgt_t, dlt_t, dlt_f, dle_t, nlt_t, nle_t, neq_t, din_t, wrap_t, room_t, decide_true, cast_succ, beq11, toNat_c, Nat.zero_add, Bool.and_true, Bool.true_and, cond_true, cond_false, Bool.not_true, Bool.not_false, goOn_ret, cvT_eq, lst_rows]
  | k + 1, i, out, h, ho => by
    have hi : i < X.length := by omega
    obtain ⟨n1, h1⟩ := com_h1 X Y hY i (rd X i) Y.length 0 out (Nat.zero_add _) (by omega) (by omega)
    rw [List.drop_zero, cast0] at h1
    obtain ⟨n2, h2⟩ := com_h0 k (i + 1) (out ++ Y.filterMap (meetV (rd X i))) (by omega) (by
      rw [List.length_append]
      have := List.length_filterMap_le (meetV (rd X i)) Y
      omega)
    refine ⟨n2 + n1 + 1, ?_⟩
    rw [goOn_to]
    simp (disch := omega) only [comstep, dgt_f, dgt_t, dlt_t, dlt_f, dle_t, nlt_t, nle_t, neq_t, din_t, wrap_t, room_t, decide_true, cast_succ, beq11, toNat_c, Nat.zero_add, Bool.and_true, Bool.true_and, cond_true, cond_false, Bool.not_true, Bool.not_false, goOn_ret, cvT_eq, lst_rows]
    rw [h1 n2, h2, drop_rd hi, show comV (rd X i :: X.drop (i + 1)) Y = Y.filterMap (meetV (rd X i)) ++ comV (X.drop (i + 1)) Y from List.flatMap_cons, List.append_assoc]
end
theorem com_run (X Y : List R6) (h : comV_owed X Y = true) : ∃ N, goOn (comstep X Y) N (comstart X Y) = .ret [.dat (comV X Y).length (rowsT (comV X Y))] := by
  obtain ⟨h1, h2⟩ := of_decide_eq_true h
  have := com_h0 X Y h1 h2 X.length 0 [] (Nat.zero_add _) (Nat.zero_le _)
  rwa [List.drop_zero, List.nil_append] at this
noncomputable def fBlk : List AVal → Option (AVal × Bool)
  | [a0] => match asL R6 a0 with
    | some (L0, g0, n0) => some (.dat (blkV L0).length (rowsT (blkV L0)), isT R6 n0 g0 && (blkV_owed L0))
    | _ => none
  | _ => none
theorem fBlk_ok {S : Specs} (hS : SpecsOk Tryz.prog S) : SpecsOk Tryz.prog (S.with nBlocks fBlk) := by
  refine fOne hS (by kernel_rfl) fun args v h => ?_
  unfold fBlk at h
  split at h
  · rename_i a0
    split at h
    · rename_i L0 g0 n0 e0
      simp only [Option.some.injEq, Prod.mk.injEq, Bool.and_eq_true] at h
      obtain ⟨rfl, ho0, hw⟩ := h
      obtain ⟨N, hN⟩ := blk_run L0 hw
      exact ⟨_, _, (.cons (asL_le e0 ho0) .nil), rfl, blk_ends L0 N _ hN, 3, rfl⟩
    · cases h
  · cases h
noncomputable def fVol : List AVal → Option (AVal × Bool)
  | [a0] => match asL R6 a0 with
    | some (L0, g0, n0) => some (.int .i64 (volV L0), isT R6 n0 g0 && (volV_owed L0))
    | _ => none
  | _ => none
theorem fVol_ok {S : Specs} (hS : SpecsOk Tryz.prog S) : SpecsOk Tryz.prog (S.with nOcVol fVol) := by
  refine fOne hS (by kernel_rfl) fun args v h => ?_
  unfold fVol at h
  split at h
  · rename_i a0
    split at h
    · rename_i L0 g0 n0 e0
      simp only [Option.some.injEq, Prod.mk.injEq, Bool.and_eq_true] at h
      obtain ⟨rfl, ho0, hw⟩ := h
      obtain ⟨N, hN⟩ := vol_run L0 hw
      exact ⟨_, _, (.cons (asL_le e0 ho0) .nil), rfl, vol_ends L0 N _ hN, 3, rfl⟩
    · cases h
  · cases h
noncomputable def fCom : List AVal → Option (AVal × Bool)
  | [a0, a1] => match asL R6 a0, asL R6 a1 with
    | some (L0, g0, n0), some (L1, g1, n1) => some (.dat (comV L0 L1).length (rowsT (comV L0 L1)), isT R6 n0 g0 && (isT R6 n1 g1 && (comV_owed L0 L1)))
    | _, _ => none
  | _ => none
theorem fCom_ok {S : Specs} (hS : SpecsOk Tryz.prog S) : SpecsOk Tryz.prog (S.with nCommon fCom) := by
  refine fOne hS (by kernel_rfl) fun args v h => ?_
  unfold fCom at h
  split at h
  · rename_i a0 a1
    split at h
    · rename_i L0 g0 n0 L1 g1 n1 e0 e1
      simp only [Option.some.injEq, Prod.mk.injEq, Bool.and_eq_true] at h
      obtain ⟨rfl, ho0, ho1, hw⟩ := h
      obtain ⟨N, hN⟩ := com_run L0 L1 hw
      exact ⟨_, _, (.cons (asL_le e0 ho0) (.cons (asL_le e1 ho1) .nil)), rfl, com_ends L0 L1 N _ hN, 3, rfl⟩
    · cases h
  · cases h
noncomputable def Ta : Specs := (((T9.with nBlocks fBlk).with nOcVol fVol).with nCommon fCom)
theorem Ta_ok : SpecsOk Tryz.prog Ta := (fCom_ok (fVol_ok (fBlk_ok T9_ok)))
end Go.Am
end
section
namespace Go.Am
open Go.Proofs
set_option maxRecDepth 1000000
set_option linter.unusedVariables false
set_option linter.unusedSimpArgs false
set_option maxHeartbeats 4000000
-- h0: owes false (choices [true, false, false, false, true])
-- h0: owes false (choices [true, false, false, false, false, true])
-- h0: owes false (choices [true, false, false, false, false, false, true])
-- h0: owes false (choices [true, false, false, false, false, false, false, true])
-- h0: index into an array (choices [true, false, false, false, false, false, false, false])
inductive prsS where
  | h0 (v7 : List R6) (v13 : Int)
noncomputable def prsC (l0 : List R6) (l1 : List R6) (x2 : Int) : prsS → Cfg
  | .h0 v7 v13 => ⟨⟨30, 0, true⟩, none, (todoP Tryz.prog 24 [1, 1, 0, 1, 0, 0] 0), none, (resultsOf Tryz.prog 3), ⟨envL [(1, (.dat l1.length (rowsT l1))), (2, (.int .i64 x2)), (7, (.sla 0 6 0 v7.length (.un 6))), (11, (.dat l0.length (rowsT l0))), (12, (.int .i64 ((l0.length : Nat) : Int))), (13, (.int .i64 v13))], memL [⟨rows v7.length (rowsT v7), 72, some ⟨6, v7.length, (rowsT v7)⟩⟩] 0, 1, [], true⟩, [], .leaf⟩
noncomputable def prsstep (l0 : List R6) (l1 : List R6) (x2 : Int) : prsS → Out' prsS
  | .h0 v7 v13 => (bif (decide (v13 < ((l0.length : Nat) : Int))) then (bif ((decide (0 ≤ v13 ∧ v13 < ((l0.length : Nat) : Int))) && true) then (bif (decide ((IntKind.wrap IntKind.i64 (Int.tdiv x2 2)) = Int.ofNat 0)) then (bif (Nat.beq 6 6 && ((decide (0 + v7.length = v7.length)) && decide ((v7.length + 1 + 1) * (48 + 1) ≤ room))) then (.to (.h0 (v7 ++ [(R6.mk (IntKind.wrap IntKind.i64 ((rd l0 (Int.toNat v13)).a + (IntKind.wrap IntKind.i64 (1 - (IntKind.wrap IntKind.i64 (2 * (Int.tmod x2 2))))))) (rd l0 (Int.toNat v13)).b (rd l0 (Int.toNat v13)).c (IntKind.wrap IntKind.i64 ((rd l0 (Int.toNat v13)).d + (IntKind.wrap IntKind.i64 (1 - (IntKind.wrap IntKind.i64 (2 * (Int.tmod x2 2))))))) (rd l0 (Int.toNat v13)).e (rd l0 (Int.toNat v13)).f)]) (IntKind.wrap IntKind.i64 (v13 + 1)))) else .stuck) else (bif (decide ((IntKind.wrap IntKind.i64 (Int.tdiv x2 2)) = Int.ofNat 1)) then (bif (Nat.beq 6 6 && ((decide (0 + v7.length = v7.length)) && decide ((v7.length + 1 + 1) * (48 + 1) ≤ room))) then (.to (.h0 (v7 ++ [(R6.mk (rd l0 (Int.toNat v13)).a (IntKind.wrap IntKind.i64 ((rd l0 (Int.toNat v13)).b + (IntKind.wrap IntKind.i64 (1 - (IntKind.wrap IntKind.i64 (2 * (Int.tmod x2 2))))))) (rd l0 (Int.toNat v13)).c (rd l0 (Int.toNat v13)).d (IntKind.wrap IntKind.i64 ((rd l0 (Int.toNat v13)).e + (IntKind.wrap IntKind.i64 (1 - (IntKind.wrap IntKind.i64 (2 * (Int.tmod x2 2))))))) (rd l0 (Int.toNat v13)).f)]) (IntKind.wrap IntKind.i64 (v13 + 1)))) else .stuck) else (bif (decide ((IntKind.wrap IntKind.i64 (Int.tdiv x2 2)) = Int.ofNat 2)) then (bif (Nat.beq 6 6 && ((decide (0 + v7.length = v7.length)) && decide ((v7.length + 1 + 1) * (48 + 1) ≤ room))) then (.to (.h0 (v7 ++ [(R6.mk (rd l0 (Int.toNat v13)).a (rd l0 (Int.toNat v13)).b (IntKind.wrap IntKind.i64 ((rd l0 (Int.toNat v13)).c + (IntKind.wrap IntKind.i64 (1 - (IntKind.wrap IntKind.i64 (2 * (Int.tmod x2 2))))))) (rd l0 (Int.toNat v13)).d (rd l0 (Int.toNat v13)).e (IntKind.wrap IntKind.i64 ((rd l0 (Int.toNat v13)).f + (IntKind.wrap IntKind.i64 (1 - (IntKind.wrap IntKind.i64 (2 * (Int.tmod x2 2))))))))]) (IntKind.wrap IntKind.i64 (v13 + 1)))) else .stuck) else (bif (decide ((IntKind.wrap IntKind.i64 (Int.tdiv x2 2)) = Int.ofNat 3)) then .stuck else (bif (decide ((IntKind.wrap IntKind.i64 (Int.tdiv x2 2)) = Int.ofNat 4)) then .stuck else (bif (decide ((IntKind.wrap IntKind.i64 (Int.tdiv x2 2)) = Int.ofNat 5)) then .stuck else (bif (decide ((IntKind.wrap IntKind.i64 (Int.tdiv x2 2)) = Int.ofNat 6)) then .stuck else .stuck))))))) else .stuck) else (bif (comV_owed (cvT v7) (cvT l1)) then (bif (volV_owed (cvT (comV (cvT v7) (cvT l1)))) then (.ret [(.int .i64 (volV (cvT (comV (cvT v7) (cvT l1)))))]) else .stuck) else .stuck))
noncomputable def prsstart (l0 : List R6) (l1 : List R6) (x2 : Int) : Out' prsS := (.to (.h0 ([] : List R6) 0))
theorem prsstep_ok (l0 : List R6) (l1 : List R6) (x2 : Int) : ∀ s, Lead Tryz.prog (resultsOf Tryz.prog 24) (prsC l0 l1 x2) (prsC l0 l1 x2 s) (prsstep l0 l1 x2 s)
  | .h0 v7 v13 => (lead_bif (fun k0 => (lead_owe fun o1_0 => (lead_bif (fun k1 => (lead_owe fun o0 => (sl Ta_ok 82 [] ⟨[5], [], [some [1, 2, 7, 11, 12, 13]], []⟩ ⟨[(7, .len (v7 ++ [(R6.mk (IntKind.wrap IntKind.i64 ((rd l0 (Int.toNat v13)).a + (IntKind.wrap IntKind.i64 (1 - (IntKind.wrap IntKind.i64 (2 * (Int.tmod x2 2))))))) (rd l0 (Int.toNat v13)).b (rd l0 (Int.toNat v13)).c (IntKind.wrap IntKind.i64 ((rd l0 (Int.toNat v13)).d + (IntKind.wrap IntKind.i64 (1 - (IntKind.wrap IntKind.i64 (2 * (Int.tmod x2 2))))))) (rd l0 (Int.toNat v13)).e (rd l0 (Int.toNat v13)).f)]).length)], [.rowed 6 (v7 ++ [(R6.mk (IntKind.wrap IntKind.i64 ((rd l0 (Int.toNat v13)).a + (IntKind.wrap IntKind.i64 (1 - (IntKind.wrap IntKind.i64 (2 * (Int.tmod x2 2))))))) (rd l0 (Int.toNat v13)).b (rd l0 (Int.toNat v13)).c (IntKind.wrap IntKind.i64 ((rd l0 (Int.toNat v13)).d + (IntKind.wrap IntKind.i64 (1 - (IntKind.wrap IntKind.i64 (2 * (Int.tmod x2 2))))))) (rd l0 (Int.toNat v13)).e (rd l0 (Int.toNat v13)).f)]).length (rowsT (v7 ++ [(R6.mk (IntKind.wrap IntKind.i64 ((rd l0 (Int.toNat v13)).a + (IntKind.wrap IntKind.i64 (1 - (IntKind.wrap IntKind.i64 (2 * (Int.tmod x2 2))))))) (rd l0 (Int.toNat v13)).b (rd l0 (Int.toNat v13)).c (IntKind.wrap IntKind.i64 ((rd l0 (Int.toNat v13)).d + (IntKind.wrap IntKind.i64 (1 - (IntKind.wrap IntKind.i64 (2 * (Int.tmod x2 2))))))) (rd l0 (Int.toNat v13)).e (rd l0 (Int.toNat v13)).f)]))], []⟩ [true, false, false, false, false] (pp (xL (v7.length + 1) (v7 ++ [(R6.mk (IntKind.wrap IntKind.i64 ((rd l0 (Int.toNat v13)).a + (IntKind.wrap IntKind.i64 (1 - (IntKind.wrap IntKind.i64 (2 * (Int.tmod x2 2))))))) (rd l0 (Int.toNat v13)).b (rd l0 (Int.toNat v13)).c (IntKind.wrap IntKind.i64 ((rd l0 (Int.toNat v13)).d + (IntKind.wrap IntKind.i64 (1 - (IntKind.wrap IntKind.i64 (2 * (Int.tmod x2 2))))))) (rd l0 (Int.toNat v13)).e (rd l0 (Int.toNat v13)).f)]).length) (pp (xL (v7.length + 1) (v7 ++ [(R6.mk (IntKind.wrap IntKind.i64 ((rd l0 (Int.toNat v13)).a + (IntKind.wrap IntKind.i64 (1 - (IntKind.wrap IntKind.i64 (2 * (Int.tmod x2 2))))))) (rd l0 (Int.toNat v13)).b (rd l0 (Int.toNat v13)).c (IntKind.wrap IntKind.i64 ((rd l0 (Int.toNat v13)).d + (IntKind.wrap IntKind.i64 (1 - (IntKind.wrap IntKind.i64 (2 * (Int.tmod x2 2))))))) (rd l0 (Int.toNat v13)).e (rd l0 (Int.toNat v13)).f)]).length) (pp (xS (v7.length + 1) (appRow (rowsT v7) 0 v7.length 6 [(.int .i64 (IntKind.wrap IntKind.i64 ((rd l0 (Int.toNat v13)).a + (IntKind.wrap IntKind.i64 (1 - (IntKind.wrap IntKind.i64 (2 * (Int.tmod x2 2)))))))), (.int .i64 (rd l0 (Int.toNat v13)).b), (.int .i64 (rd l0 (Int.toNat v13)).c), (.int .i64 (IntKind.wrap IntKind.i64 ((rd l0 (Int.toNat v13)).d + (IntKind.wrap IntKind.i64 (1 - (IntKind.wrap IntKind.i64 (2 * (Int.tmod x2 2)))))))), (.int .i64 (rd l0 (Int.toNat v13)).e), (.int .i64 (rd l0 (Int.toNat v13)).f)]) (rowsT (v7 ++ [(R6.mk (IntKind.wrap IntKind.i64 ((rd l0 (Int.toNat v13)).a + (IntKind.wrap IntKind.i64 (1 - (IntKind.wrap IntKind.i64 (2 * (Int.tmod x2 2))))))) (rd l0 (Int.toNat v13)).b (rd l0 (Int.toNat v13)).c (IntKind.wrap IntKind.i64 ((rd l0 (Int.toNat v13)).d + (IntKind.wrap IntKind.i64 (1 - (IntKind.wrap IntKind.i64 (2 * (Int.tmod x2 2))))))) (rd l0 (Int.toNat v13)).e (rd l0 (Int.toNat v13)).f)]))) (pp (pp (xF (appRow (rowsT v7) 0 v7.length 6 [(.int .i64 (IntKind.wrap IntKind.i64 ((rd l0 (Int.toNat v13)).a + (IntKind.wrap IntKind.i64 (1 - (IntKind.wrap IntKind.i64 (2 * (Int.tmod x2 2)))))))), (.int .i64 (rd l0 (Int.toNat v13)).b), (.int .i64 (rd l0 (Int.toNat v13)).c), (.int .i64 (IntKind.wrap IntKind.i64 ((rd l0 (Int.toNat v13)).d + (IntKind.wrap IntKind.i64 (1 - (IntKind.wrap IntKind.i64 (2 * (Int.tmod x2 2)))))))), (.int .i64 (rd l0 (Int.toNat v13)).e), (.int .i64 (rd l0 (Int.toNat v13)).f)])) nn) (ww o0 (ww k1 (ww k1 (ww o1_0 (tt k0 nn)))))))))))) (fun k1 => (lead_bif (fun k2 => (lead_owe fun o0 => (sl Ta_ok 82 [] ⟨[5], [], [some [1, 2, 7, 11, 12, 13]], []⟩ ⟨[(7, .len (v7 ++ [(R6.mk (rd l0 (Int.toNat v13)).a (IntKind.wrap IntKind.i64 ((rd l0 (Int.toNat v13)).b + (IntKind.wrap IntKind.i64 (1 - (IntKind.wrap IntKind.i64 (2 * (Int.tmod x2 2))))))) (rd l0 (Int.toNat v13)).c (rd l0 (Int.toNat v13)).d (IntKind.wrap IntKind.i64 ((rd l0 (Int.toNat v13)).e + (IntKind.wrap IntKind.i64 (1 - (IntKind.wrap IntKind.i64 (2 * (Int.tmod x2 2))))))) (rd l0 (Int.toNat v13)).f)]).length)], [.rowed 6 (v7 ++ [(R6.mk (rd l0 (Int.toNat v13)).a (IntKind.wrap IntKind.i64 ((rd l0 (Int.toNat v13)).b + (IntKind.wrap IntKind.i64 (1 - (IntKind.wrap IntKind.i64 (2 * (Int.tmod x2 2))))))) (rd l0 (Int.toNat v13)).c (rd l0 (Int.toNat v13)).d (IntKind.wrap IntKind.i64 ((rd l0 (Int.toNat v13)).e + (IntKind.wrap IntKind.i64 (1 - (IntKind.wrap IntKind.i64 (2 * (Int.tmod x2 2))))))) (rd l0 (Int.toNat v13)).f)]).length (rowsT (v7 ++ [(R6.mk (rd l0 (Int.toNat v13)).a (IntKind.wrap IntKind.i64 ((rd l0 (Int.toNat v13)).b + (IntKind.wrap IntKind.i64 (1 - (IntKind.wrap IntKind.i64 (2 * (Int.tmod x2 2))))))) (rd l0 (Int.toNat v13)).c (rd l0 (Int.toNat v13)).d (IntKind.wrap IntKind.i64 ((rd l0 (Int.toNat v13)).e + (IntKind.wrap IntKind.i64 (1 - (IntKind.wrap IntKind.i64 (2 * (Int.tmod x2 2))))))) (rd l0 (Int.toNat v13)).f)]))], []⟩ [true, true, false, true, false, true, false, true, false] (pp (xL (v7.length + 1) (v7 ++ [(R6.mk (rd l0 (Int.toNat v13)).a (IntKind.wrap IntKind.i64 ((rd l0 (Int.toNat v13)).b + (IntKind.wrap IntKind.i64 (1 - (IntKind.wrap IntKind.i64 (2 * (Int.tmod x2 2))))))) (rd l0 (Int.toNat v13)).c (rd l0 (Int.toNat v13)).d (IntKind.wrap IntKind.i64 ((rd l0 (Int.toNat v13)).e + (IntKind.wrap IntKind.i64 (1 - (IntKind.wrap IntKind.i64 (2 * (Int.tmod x2 2))))))) (rd l0 (Int.toNat v13)).f)]).length) (pp (xL (v7.length + 1) (v7 ++ [(R6.mk (rd l0 (Int.toNat v13)).a (IntKind.wrap IntKind.i64 ((rd l0 (Int.toNat v13)).b + (IntKind.wrap IntKind.i64 (1 - (IntKind.wrap IntKind.i64 (2 * (Int.tmod x2 2))))))) (rd l0 (Int.toNat v13)).c (rd l0 (Int.toNat v13)).d (IntKind.wrap IntKind.i64 ((rd l0 (Int.toNat v13)).e + (IntKind.wrap IntKind.i64 (1 - (IntKind.wrap IntKind.i64 (2 * (Int.tmod x2 2))))))) (rd l0 (Int.toNat v13)).f)]).length) (pp (xS (v7.length + 1) (appRow (rowsT v7) 0 v7.length 6 [(.int .i64 (rd l0 (Int.toNat v13)).a), (.int .i64 (IntKind.wrap IntKind.i64 ((rd l0 (Int.toNat v13)).b + (IntKind.wrap IntKind.i64 (1 - (IntKind.wrap IntKind.i64 (2 * (Int.tmod x2 2)))))))), (.int .i64 (rd l0 (Int.toNat v13)).c), (.int .i64 (rd l0 (Int.toNat v13)).d), (.int .i64 (IntKind.wrap IntKind.i64 ((rd l0 (Int.toNat v13)).e + (IntKind.wrap IntKind.i64 (1 - (IntKind.wrap IntKind.i64 (2 * (Int.tmod x2 2)))))))), (.int .i64 (rd l0 (Int.toNat v13)).f)]) (rowsT (v7 ++ [(R6.mk (rd l0 (Int.toNat v13)).a (IntKind.wrap IntKind.i64 ((rd l0 (Int.toNat v13)).b + (IntKind.wrap IntKind.i64 (1 - (IntKind.wrap IntKind.i64 (2 * (Int.tmod x2 2))))))) (rd l0 (Int.toNat v13)).c (rd l0 (Int.toNat v13)).d (IntKind.wrap IntKind.i64 ((rd l0 (Int.toNat v13)).e + (IntKind.wrap IntKind.i64 (1 - (IntKind.wrap IntKind.i64 (2 * (Int.tmod x2 2))))))) (rd l0 (Int.toNat v13)).f)]))) (pp (pp (xF (appRow (rowsT v7) 0 v7.length 6 [(.int .i64 (rd l0 (Int.toNat v13)).a), (.int .i64 (IntKind.wrap IntKind.i64 ((rd l0 (Int.toNat v13)).b + (IntKind.wrap IntKind.i64 (1 - (IntKind.wrap IntKind.i64 (2 * (Int.tmod x2 2)))))))), (.int .i64 (rd l0 (Int.toNat v13)).c), (.int .i64 (rd l0 (Int.toNat v13)).d), (.int .i64 (IntKind.wrap IntKind.i64 ((rd l0 (Int.toNat v13)).e + (IntKind.wrap IntKind.i64 (1 - (IntKind.wrap IntKind.i64 (2 * (Int.tmod x2 2)))))))), (.int .i64 (rd l0 (Int.toNat v13)).f)])) nn) (ww o0 (ww k2 (ww k2 (ww o1_0 (tt k0 nn)))))))))))) (fun k2 => (lead_bif (fun k3 => (lead_owe fun o0 => (sl Ta_ok 82 [] ⟨[5], [], [some [1, 2, 7, 11, 12, 13]], []⟩ ⟨[(7, .len (v7 ++ [(R6.mk (rd l0 (Int.toNat v13)).a (rd l0 (Int.toNat v13)).b (IntKind.wrap IntKind.i64 ((rd l0 (Int.toNat v13)).c + (IntKind.wrap IntKind.i64 (1 - (IntKind.wrap IntKind.i64 (2 * (Int.tmod x2 2))))))) (rd l0 (Int.toNat v13)).d (rd l0 (Int.toNat v13)).e (IntKind.wrap IntKind.i64 ((rd l0 (Int.toNat v13)).f + (IntKind.wrap IntKind.i64 (1 - (IntKind.wrap IntKind.i64 (2 * (Int.tmod x2 2))))))))]).length)], [.rowed 6 (v7 ++ [(R6.mk (rd l0 (Int.toNat v13)).a (rd l0 (Int.toNat v13)).b (IntKind.wrap IntKind.i64 ((rd l0 (Int.toNat v13)).c + (IntKind.wrap IntKind.i64 (1 - (IntKind.wrap IntKind.i64 (2 * (Int.tmod x2 2))))))) (rd l0 (Int.toNat v13)).d (rd l0 (Int.toNat v13)).e (IntKind.wrap IntKind.i64 ((rd l0 (Int.toNat v13)).f + (IntKind.wrap IntKind.i64 (1 - (IntKind.wrap IntKind.i64 (2 * (Int.tmod x2 2))))))))]).length (rowsT (v7 ++ [(R6.mk (rd l0 (Int.toNat v13)).a (rd l0 (Int.toNat v13)).b (IntKind.wrap IntKind.i64 ((rd l0 (Int.toNat v13)).c + (IntKind.wrap IntKind.i64 (1 - (IntKind.wrap IntKind.i64 (2 * (Int.tmod x2 2))))))) (rd l0 (Int.toNat v13)).d (rd l0 (Int.toNat v13)).e (IntKind.wrap IntKind.i64 ((rd l0 (Int.toNat v13)).f + (IntKind.wrap IntKind.i64 (1 - (IntKind.wrap IntKind.i64 (2 * (Int.tmod x2 2))))))))]))], []⟩ (trs 3 [false, true, true, false, true, true, false, true, true, false]) (pp (xL (v7.length + 1) (v7 ++ [(R6.mk (rd l0 (Int.toNat v13)).a (rd l0 (Int.toNat v13)).b (IntKind.wrap IntKind.i64 ((rd l0 (Int.toNat v13)).c + (IntKind.wrap IntKind.i64 (1 - (IntKind.wrap IntKind.i64 (2 * (Int.tmod x2 2))))))) (rd l0 (Int.toNat v13)).d (rd l0 (Int.toNat v13)).e (IntKind.wrap IntKind.i64 ((rd l0 (Int.toNat v13)).f + (IntKind.wrap IntKind.i64 (1 - (IntKind.wrap IntKind.i64 (2 * (Int.tmod x2 2))))))))]).length) (pp (xL (v7.length + 1) (v7 ++ [(R6.mk (rd l0 (Int.toNat v13)).a (rd l0 (Int.toNat v13)).b (IntKind.wrap IntKind.i64 ((rd l0 (Int.toNat v13)).c + (IntKind.wrap IntKind.i64 (1 - (IntKind.wrap IntKind.i64 (2 * (Int.tmod x2 2))))))) (rd l0 (Int.toNat v13)).d (rd l0 (Int.toNat v13)).e (IntKind.wrap IntKind.i64 ((rd l0 (Int.toNat v13)).f + (IntKind.wrap IntKind.i64 (1 - (IntKind.wrap IntKind.i64 (2 * (Int.tmod x2 2))))))))]).length) (pp (xS (v7.length + 1) (appRow (rowsT v7) 0 v7.length 6 [(.int .i64 (rd l0 (Int.toNat v13)).a), (.int .i64 (rd l0 (Int.toNat v13)).b), (.int .i64 (IntKind.wrap IntKind.i64 ((rd l0 (Int.toNat v13)).c + (IntKind.wrap IntKind.i64 (1 - (IntKind.wrap IntKind.i64 (2 * (Int.tmod x2 2)))))))), (.int .i64 (rd l0 (Int.toNat v13)).d), (.int .i64 (rd l0 (Int.toNat v13)).e), (.int .i64 (IntKind.wrap IntKind.i64 ((rd l0 (Int.toNat v13)).f + (IntKind.wrap IntKind.i64 (1 - (IntKind.wrap IntKind.i64 (2 * (Int.tmod x2 2))))))))]) (rowsT (v7 ++ [(R6.mk (rd l0 (Int.toNat v13)).a (rd l0 (Int.toNat v13)).b (IntKind.wrap IntKind.i64 ((rd l0 (Int.toNat v13)).c + (IntKind.wrap IntKind.i64 (1 - (IntKind.wrap IntKind.i64 (2 * (Int.tmod x2 2))))))) (rd l0 (Int.toNat v13)).d (rd l0 (Int.toNat v13)).e (IntKind.wrap IntKind.i64 ((rd l0 (Int.toNat v13)).f + (IntKind.wrap IntKind.i64 (1 - (IntKind.wrap IntKind.i64 (2 * (Int.tmod x2 2))))))))]))) (pp (pp (xF (appRow (rowsT v7) 0 v7.length 6 [(.int .i64 (rd l0 (Int.toNat v13)).a), (.int .i64 (rd l0 (Int.toNat v13)).b), (.int .i64 (IntKind.wrap IntKind.i64 ((rd l0 (Int.toNat v13)).c + (IntKind.wrap IntKind.i64 (1 - (IntKind.wrap IntKind.i64 (2 * (Int.tmod x2 2)))))))), (.int .i64 (rd l0 (Int.toNat v13)).d), (.int .i64 (rd l0 (Int.toNat v13)).e), (.int .i64 (IntKind.wrap IntKind.i64 ((rd l0 (Int.toNat v13)).f + (IntKind.wrap IntKind.i64 (1 - (IntKind.wrap IntKind.i64 (2 * (Int.tmod x2 2))))))))])) nn) (ww o0 (ww k3 (ww k3 (ww o1_0 (tt k0 nn)))))))))))) (fun k3 => (lead_bif (fun k4 => trivial) (fun k4 => (lead_bif (fun k5 => trivial) (fun k5 => (lead_bif (fun k6 => trivial) (fun k6 => (lead_bif (fun k7 => trivial) (fun k7 => trivial)))))))))))))))) (fun k0 => (lead_goes (sl Ta_ok (C' := ⟨⟨30, 0, true⟩, (regP Tryz.prog 24 [1, 1, 1, 0] 2), (todoP Tryz.prog 24 [1, 1, 1, 0] 1), none, (resultsOf Tryz.prog 3), ⟨envL [(26, (.dat v7.length (rowsT v7))), (27, (.dat l1.length (rowsT l1)))], memL [] 0, 0, [], true⟩, [], .leaf⟩) 11 [] ⟨[], [0], [some [26, 27]], []⟩ ⟨[(26, .frz v7.length v7.length (rowsT v7) (rowsT v7))], [], []⟩ [false] (pp (xZ (frzS 6 6 0 v7.length v7.length (rowsT v7)) v7.length (rowsT v7)) (pp (xL v7.length v7.length) (pp (xS v7.length (rowsT v7) (rowsT v7)) (pp (fl v7 nn) (tt k0 nn)))))) (lead_owe fun o0 => (lead_owe fun o1 => (lr 30 3 [1, 1, 1, 1, 1, 1, 0] 1 3 [(6, (.int .i64 (volV (cvT (comV (cvT v7) (cvT l1))))))] (sl Ta_ok 4 [] ⟨[], [], [some [6]], []⟩ ⟨[], [], []⟩ [] (pp (pp (xI R6 (comV (cvT v7) (cvT l1)).length (rowsT (comV (cvT v7) (cvT l1)))) (xw o1)) (pp (pp (xr v7) (pp (xr l1) (xw o0))) nn)))))))))
theorem prsstart_ok (l0 : List R6) (l1 : List R6) (x2 : Int) : Lead Tryz.prog (resultsOf Tryz.prog 24) (prsC l0 l1 x2) (startC Tryz.prog 24 [(.dat l0.length (rowsT l0)), (.dat l1.length (rowsT l1)), (.int .i64 x2)] true []) (prsstart l0 l1 x2) := (sl Ta_ok 17 [(72, 6, rowsT ([] : List R6))] ⟨[0], [], [some [1, 2, 7, 11, 12, 13]], []⟩ ⟨[(7, .grow 0 6)], [], []⟩ [] (pp (fl ([] : List R6) nn) nn))
theorem prs_ends (l0 : List R6) (l1 : List R6) (x2 : Int) (n : Nat) (vs : List AVal) (h : goOn (prsstep l0 l1 x2) n (prsstart l0 l1 x2) = .ret vs) : Ends Tryz.prog (resultsOf Tryz.prog 24) (startC Tryz.prog 24 [(.dat l0.length (rowsT l0)), (.dat l1.length (rowsT l1)), (.int .i64 x2)] true []) vs := by
  have := goOn_lead (prsstep_ok l0 l1 x2) n _ (prsstart_ok l0 l1 x2)
  rwa [h] at this
end Go.Am
end
section
namespace Go.Am
open Go.Proofs
set_option maxRecDepth 100000
set_option maxHeartbeats 4000000
set_option linter.unusedVariables false
set_option linter.unusedSimpArgs false
def stepW (d : Int) : Int := IntKind.wrap .i64 (1 - IntKind.wrap .i64 (2 * Int.tmod d 2))
def nextW (d : Int) (r : R6) : R6 :=
  bif decide (Int.tdiv d 2 = 0) then ⟨IntKind.wrap .i64 (r.a + stepW d), r.b, r.c, IntKind.wrap .i64 (r.d + stepW d), r.e, r.f⟩
  else bif decide (Int.tdiv d 2 = 1) then ⟨r.a, IntKind.wrap .i64 (r.b + stepW d), r.c, r.d, IntKind.wrap .i64 (r.e + stepW d), r.f⟩
  else ⟨r.a, r.b, IntKind.wrap .i64 (r.c + stepW d), r.d, r.e, IntKind.wrap .i64 (r.f + stepW d)⟩
def prV (X Y : List R6) (d : Int) : Int := volV (comV (X.map (nextW d)) Y)
def prV_owed (X Y : List R6) (d : Int) : Bool := decide (X.length ≤ 10000 ∧ Y.length ≤ 10000 ∧ 0 ≤ d ∧ d ≤ 5)
theorem prs_h0 (X Y : List R6) (d : Int) (hX : X.length ≤ 10000) (hY : Y.length ≤ 10000) (hd : 0 ≤ d ∧ d ≤ 5) : ∀ (k i : Nat) (out : List R6), i + k = X.length → out.length = i → ∃ N, goOn (prsstep X Y d) N (.to (.h0 out (i : Int))) = .ret [.int .i64 (volV (comV (out ++ (X.drop i).map (nextW d)) Y))]
  | 0, i, out, h, ho => by
    refine ⟨1, ?_⟩
    rw [goOn_to, List.drop_eq_nil_of_le (by omega), List.map_nil, List.append_nil]
    have h1 : comV_owed out Y = true := decide_eq_true (by omega)
    have hl := com_length out Y
    have hm : out.length * Y.length ≤ 10000 * 10000 := Nat.mul_le_mul (by omega) hY
    have h2 : volV_owed (comV out Y) = true := decide_eq_true (by omega)
    simp (disch := omega) only [prsstep, h1, h2, dgt_f, dgt_t, dlt_t, dlt_f, dle_t, nlt_t, nle_t, neq_t, din_t, wrap_t, room_t, decide_true, cast_succ, beq11, toNat_c, Nat.zero_add, Bool.and_true, Bool.true_and, cond_true, cond_false, Bool.not_true, Bool.not_false, goOn_ret, cvT_eq, lst_rows]
  | k + 1, i, out, h, ho => by
    have hi : i < X.length := by omega
    obtain ⟨N, hN⟩ := prs_h0 X Y d hX hY hd k (i + 1) (out ++ [nextW d (rd X i)]) (by omega) (by simp; omega)
    refine ⟨N + 1, ?_⟩
    rw [List.append_assoc] at hN
    rw [goOn_to, drop_rd hi, List.map_cons]
    have hroom : decide ((out.length + 1 + 1) * (48 + 1) ≤ room) = true := room_t (by omega)
    have c : d = 0 ∨ d = 1 ∨ d = 2 ∨ d = 3 ∨ d = 4 ∨ d = 5 := by omega
    have e : ∃ r, nextW d (rd X i) = r ∧ prsstep X Y d (.h0 out (i : Int)) = .to (.h0 (out ++ [r]) ((i + 1 : Nat) : Int)) := by
      refine ⟨_, rfl, ?_⟩
      rcases c with rfl | rfl | rfl | rfl | rfl | rfl <;>
      simp (disch := omega) only [prsstep, dlt_t, din_t, hroom, toNat_c, cast_succ, Nat.zero_add, decide_true, Bool.and_true, beq11, cond_true] <;> (try rw [wrap_t (n := ((i + 1 : Nat) : Int)) (by omega)]) <;> rfl
    obtain ⟨r, hr, e⟩ := e
    rw [e]
    rw [hr] at hN ⊢
    exact hN
theorem prs_run (X Y : List R6) (d : Int) (h : prV_owed X Y d = true) : ∃ N, goOn (prsstep X Y d) N (prsstart X Y d) = .ret [.int .i64 (prV X Y d)] := by
  obtain ⟨h1, h2, h3⟩ := of_decide_eq_true h
  exact prs_h0 X Y d h1 h2 h3 X.length 0 [] (Nat.zero_add _) rfl
def okB (r : R6) : Bool := decide (-2000000 ≤ r.a ∧ r.a ≤ 2000000 ∧ -2000000 ≤ r.b ∧ r.b ≤ 2000000 ∧ -2000000 ≤ r.c ∧ r.c ≤ 2000000 ∧ -2000000 ≤ r.d ∧ r.d ≤ 2000000 ∧ -2000000 ≤ r.e ∧ r.e ≤ 2000000 ∧ -2000000 ≤ r.f ∧ r.f ≤ 2000000)
theorem nextW_nx (d : Int) (hd : 0 ≤ d ∧ d ≤ 5) (r : R6) (h : okB r = true) : nextW d r = nx d r := by
  have h := of_decide_eq_true h
  have c : d = 0 ∨ d = 1 ∨ d = 2 ∨ d = 3 ∨ d = 4 ∨ d = 5 := by omega
  rcases c with rfl | rfl | rfl | rfl | rfl | rfl
  · show (⟨IntKind.wrap .i64 (r.a + 1), r.b, r.c, IntKind.wrap .i64 (r.d + 1), r.e, r.f⟩ : R6) = ⟨r.a + 1, r.b, r.c, r.d + 1, r.e, r.f⟩
    rw [wrap_t (by omega), wrap_t (by omega)]
  · show (⟨IntKind.wrap .i64 (r.a + -1), r.b, r.c, IntKind.wrap .i64 (r.d + -1), r.e, r.f⟩ : R6) = ⟨r.a + -1, r.b, r.c, r.d + -1, r.e, r.f⟩
    rw [wrap_t (by omega), wrap_t (by omega)]
  · show (⟨r.a, IntKind.wrap .i64 (r.b + 1), r.c, r.d, IntKind.wrap .i64 (r.e + 1), r.f⟩ : R6) = ⟨r.a, r.b + 1, r.c, r.d, r.e + 1, r.f⟩
    rw [wrap_t (by omega), wrap_t (by omega)]
  · show (⟨r.a, IntKind.wrap .i64 (r.b + -1), r.c, r.d, IntKind.wrap .i64 (r.e + -1), r.f⟩ : R6) = ⟨r.a, r.b + -1, r.c, r.d, r.e + -1, r.f⟩
    rw [wrap_t (by omega), wrap_t (by omega)]
  · show (⟨r.a, r.b, IntKind.wrap .i64 (r.c + 1), r.d, r.e, IntKind.wrap .i64 (r.f + 1)⟩ : R6) = ⟨r.a, r.b, r.c + 1, r.d, r.e, r.f + 1⟩
    rw [wrap_t (by omega), wrap_t (by omega)]
  · show (⟨r.a, r.b, IntKind.wrap .i64 (r.c + -1), r.d, r.e, IntKind.wrap .i64 (r.f + -1)⟩ : R6) = ⟨r.a, r.b, r.c + -1, r.d, r.e, r.f + -1⟩
    rw [wrap_t (by omega), wrap_t (by omega)]
theorem prV_cg (X Y : List R6) (d : Int) (hd : 0 ≤ d ∧ d ≤ 5) (hX : ∀ x ∈ X, okB x = true) : Cg (prV X Y d) (E2 d X Y) := by
  unfold prV
  rw [List.map_congr_left fun x hx => nextW_nx d hd x (hX x hx)]
  have := volV_cg (comV (X.map (nx d)) Y)
  rwa [com_bx, E2_map] at this
theorem okB_com (X Y : List R6) (hX : ∀ x ∈ X, okB x = true) (hY : ∀ x ∈ Y, okB x = true) : ∀ x ∈ comV X Y, okB x = true := fun b hb => by
  obtain ⟨x, hx, hb⟩ := List.mem_flatMap.1 hb
  obtain ⟨y, hy, hb⟩ := List.mem_filterMap.1 hb
  have h1 := of_decide_eq_true (hX x hx)
  have h2 := of_decide_eq_true (hY y hy)
  unfold meetV at hb
  cases hc : (decide (max x.a y.a < min x.d y.d) && (decide (max x.b y.b < min x.e y.e) && decide (max x.c y.c < min x.f y.f))) with
  | false => rw [hc] at hb; cases hb
  | true =>
    rw [hc, cond_true] at hb
    obtain rfl := Option.some.inj hb
    exact decide_eq_true (by simp only; omega)
noncomputable def fPrs : List AVal → Option (AVal × Bool)
  | [a0, a1, .int .i64 x2] => match asL R6 a0, asL R6 a1 with
    | some (L0, g0, n0), some (L1, g1, n1) => some (.int .i64 (prV L0 L1 x2), isT R6 n0 g0 && (isT R6 n1 g1 && (prV_owed L0 L1 x2)))
    | _, _ => none
  | _ => none
theorem fPrs_ok {S : Specs} (hS : SpecsOk Tryz.prog S) : SpecsOk Tryz.prog (S.with nPairs fPrs) := by
  refine fOne hS (by kernel_rfl) fun args v h => ?_
  unfold fPrs at h
  split at h
  · rename_i a0 a1 x2
    split at h
    · rename_i L0 g0 n0 L1 g1 n1 e0 e1
      simp only [Option.some.injEq, Prod.mk.injEq, Bool.and_eq_true] at h
      obtain ⟨rfl, ho0, ho1, hw⟩ := h
      obtain ⟨N, hN⟩ := prs_run L0 L1 x2 hw
      exact ⟨_, _, (.cons (asL_le e0 ho0) (.cons (asL_le e1 ho1) (.cons (.refl _) .nil))), rfl, prs_ends L0 L1 x2 N _ hN, 3, rfl⟩
    · cases h
  · cases h
noncomputable def Tb : Specs := (Ta.with nPairs fPrs)
theorem Tb_ok : SpecsOk Tryz.prog Tb := (fPrs_ok Ta_ok)
end Go.Am
end
section
namespace Go.Am
open Go.Proofs
set_option maxRecDepth 1000000
set_option linter.unusedVariables false
set_option linter.unusedSimpArgs false
set_option maxHeartbeats 4000000
inductive conS where
noncomputable def conC (l0 : List R6) (l1 : List R6) : conS → Cfg
  := nofun
noncomputable def constep (l0 : List R6) (l1 : List R6) : conS → Out' conS
  := nofun
noncomputable def constart (l0 : List R6) (l1 : List R6) : Out' conS := (bif (comV_owed (cvT l0) (cvT l1)) then (bif (prV_owed (cvT l0) (cvT l1) 0) then (bif (prV_owed (cvT (comV (cvT l0) (cvT l1))) (cvT l1) 0) then (bif (prV_owed (cvT l0) (cvT (comV (cvT l0) (cvT l1))) 0) then (bif (prV_owed (cvT (comV (cvT l0) (cvT l1))) (cvT (comV (cvT l0) (cvT l1))) 0) then (bif (prV_owed (cvT l0) (cvT l1) 1) then (bif (prV_owed (cvT (comV (cvT l0) (cvT l1))) (cvT l1) 1) then (bif (prV_owed (cvT l0) (cvT (comV (cvT l0) (cvT l1))) 1) then (bif (prV_owed (cvT (comV (cvT l0) (cvT l1))) (cvT (comV (cvT l0) (cvT l1))) 1) then (bif (prV_owed (cvT l0) (cvT l1) 2) then (bif (prV_owed (cvT (comV (cvT l0) (cvT l1))) (cvT l1) 2) then (bif (prV_owed (cvT l0) (cvT (comV (cvT l0) (cvT l1))) 2) then (bif (prV_owed (cvT (comV (cvT l0) (cvT l1))) (cvT (comV (cvT l0) (cvT l1))) 2) then (bif (prV_owed (cvT l0) (cvT l1) 3) then (bif (prV_owed (cvT (comV (cvT l0) (cvT l1))) (cvT l1) 3) then (bif (prV_owed (cvT l0) (cvT (comV (cvT l0) (cvT l1))) 3) then (bif (prV_owed (cvT (comV (cvT l0) (cvT l1))) (cvT (comV (cvT l0) (cvT l1))) 3) then (bif (prV_owed (cvT l0) (cvT l1) 4) then (bif (prV_owed (cvT (comV (cvT l0) (cvT l1))) (cvT l1) 4) then (bif (prV_owed (cvT l0) (cvT (comV (cvT l0) (cvT l1))) 4) then (bif (prV_owed (cvT (comV (cvT l0) (cvT l1))) (cvT (comV (cvT l0) (cvT l1))) 4) then (bif (prV_owed (cvT l0) (cvT l1) 5) then (bif (prV_owed (cvT (comV (cvT l0) (cvT l1))) (cvT l1) 5) then (bif (prV_owed (cvT l0) (cvT (comV (cvT l0) (cvT l1))) 5) then (bif (prV_owed (cvT (comV (cvT l0) (cvT l1))) (cvT (comV (cvT l0) (cvT l1))) 5) then (.ret [(.int .i64 (IntKind.wrap IntKind.i64 ((IntKind.wrap IntKind.i64 ((IntKind.wrap IntKind.i64 ((IntKind.wrap IntKind.i64 ((IntKind.wrap IntKind.i64 ((IntKind.wrap IntKind.i64 (0 + (IntKind.wrap IntKind.i64 ((IntKind.wrap IntKind.i64 ((prV (cvT l0) (cvT l1) 0) - (prV (cvT (comV (cvT l0) (cvT l1))) (cvT l1) 0))) - (IntKind.wrap IntKind.i64 ((prV (cvT l0) (cvT (comV (cvT l0) (cvT l1))) 0) - (prV (cvT (comV (cvT l0) (cvT l1))) (cvT (comV (cvT l0) (cvT l1))) 0))))))) + (IntKind.wrap IntKind.i64 ((IntKind.wrap IntKind.i64 ((prV (cvT l0) (cvT l1) 1) - (prV (cvT (comV (cvT l0) (cvT l1))) (cvT l1) 1))) - (IntKind.wrap IntKind.i64 ((prV (cvT l0) (cvT (comV (cvT l0) (cvT l1))) 1) - (prV (cvT (comV (cvT l0) (cvT l1))) (cvT (comV (cvT l0) (cvT l1))) 1))))))) + (IntKind.wrap IntKind.i64 ((IntKind.wrap IntKind.i64 ((prV (cvT l0) (cvT l1) 2) - (prV (cvT (comV (cvT l0) (cvT l1))) (cvT l1) 2))) - (IntKind.wrap IntKind.i64 ((prV (cvT l0) (cvT (comV (cvT l0) (cvT l1))) 2) - (prV (cvT (comV (cvT l0) (cvT l1))) (cvT (comV (cvT l0) (cvT l1))) 2))))))) + (IntKind.wrap IntKind.i64 ((IntKind.wrap IntKind.i64 ((prV (cvT l0) (cvT l1) 3) - (prV (cvT (comV (cvT l0) (cvT l1))) (cvT l1) 3))) - (IntKind.wrap IntKind.i64 ((prV (cvT l0) (cvT (comV (cvT l0) (cvT l1))) 3) - (prV (cvT (comV (cvT l0) (cvT l1))) (cvT (comV (cvT l0) (cvT l1))) 3))))))) + (IntKind.wrap IntKind.i64 ((IntKind.wrap IntKind.i64 ((prV (cvT l0) (cvT l1) 4) - (prV (cvT (comV (cvT l0) (cvT l1))) (cvT l1) 4))) - (IntKind.wrap IntKind.i64 ((prV (cvT l0) (cvT (comV (cvT l0) (cvT l1))) 4) - (prV (cvT (comV (cvT l0) (cvT l1))) (cvT (comV (cvT l0) (cvT l1))) 4))))))) + (IntKind.wrap IntKind.i64 ((IntKind.wrap IntKind.i64 ((prV (cvT l0) (cvT l1) 5) - (prV (cvT (comV (cvT l0) (cvT l1))) (cvT l1) 5))) - (IntKind.wrap IntKind.i64 ((prV (cvT l0) (cvT (comV (cvT l0) (cvT l1))) 5) - (prV (cvT (comV (cvT l0) (cvT l1))) (cvT (comV (cvT l0) (cvT l1))) 5))))))))]) else .stuck) else .stuck) else .stuck) else .stuck) else .stuck) else .stuck) else .stuck) else .stuck) else .stuck) else .stuck) else .stuck) else .stuck) else .stuck) else .stuck) else .stuck) else .stuck) else .stuck) else .stuck) else .stuck) else .stuck) else .stuck) else .stuck) else .stuck) else .stuck) else .stuck)
theorem constep_ok (l0 : List R6) (l1 : List R6) : ∀ s, Lead Tryz.prog (resultsOf Tryz.prog 30) (conC l0 l1) (conC l0 l1 s) (constep l0 l1 s)
  := nofun
theorem constart_ok (l0 : List R6) (l1 : List R6) : Lead Tryz.prog (resultsOf Tryz.prog 30) (conC l0 l1) (startC Tryz.prog 30 [(.dat l0.length (rowsT l0)), (.dat l1.length (rowsT l1))] true []) (constart l0 l1) := (lead_owe fun o0 => (lead_owe fun o1 => (lead_owe fun o2 => (lead_owe fun o3 => (lead_owe fun o4 => (lead_owe fun o5 => (lead_owe fun o6 => (lead_owe fun o7 => (lead_owe fun o8 => (lead_owe fun o9 => (lead_owe fun o10 => (lead_owe fun o11 => (lead_owe fun o12 => (lead_owe fun o13 => (lead_owe fun o14 => (lead_owe fun o15 => (lead_owe fun o16 => (lead_owe fun o17 => (lead_owe fun o18 => (lead_owe fun o19 => (lead_owe fun o20 => (lead_owe fun o21 => (lead_owe fun o22 => (lead_owe fun o23 => (lead_owe fun o24 => (lr 37 3 [1, 1, 1, 1, 1, 1, 0] 1 4 [(4, (.int .i64 (IntKind.wrap IntKind.i64 ((IntKind.wrap IntKind.i64 ((IntKind.wrap IntKind.i64 ((IntKind.wrap IntKind.i64 ((IntKind.wrap IntKind.i64 ((IntKind.wrap IntKind.i64 (0 + (IntKind.wrap IntKind.i64 ((IntKind.wrap IntKind.i64 ((prV (cvT l0) (cvT l1) 0) - (prV (cvT (comV (cvT l0) (cvT l1))) (cvT l1) 0))) - (IntKind.wrap IntKind.i64 ((prV (cvT l0) (cvT (comV (cvT l0) (cvT l1))) 0) - (prV (cvT (comV (cvT l0) (cvT l1))) (cvT (comV (cvT l0) (cvT l1))) 0))))))) + (IntKind.wrap IntKind.i64 ((IntKind.wrap IntKind.i64 ((prV (cvT l0) (cvT l1) 1) - (prV (cvT (comV (cvT l0) (cvT l1))) (cvT l1) 1))) - (IntKind.wrap IntKind.i64 ((prV (cvT l0) (cvT (comV (cvT l0) (cvT l1))) 1) - (prV (cvT (comV (cvT l0) (cvT l1))) (cvT (comV (cvT l0) (cvT l1))) 1))))))) + (IntKind.wrap IntKind.i64 ((IntKind.wrap IntKind.i64 ((prV (cvT l0) (cvT l1) 2) - (prV (cvT (comV (cvT l0) (cvT l1))) (cvT l1) 2))) - (IntKind.wrap IntKind.i64 ((prV (cvT l0) (cvT (comV (cvT l0) (cvT l1))) 2) - (prV (cvT (comV (cvT l0) (cvT l1))) (cvT (comV (cvT l0) (cvT l1))) 2))))))) + (IntKind.wrap IntKind.i64 ((IntKind.wrap IntKind.i64 ((prV (cvT l0) (cvT l1) 3) - (prV (cvT (comV (cvT l0) (cvT l1))) (cvT l1) 3))) - (IntKind.wrap IntKind.i64 ((prV (cvT l0) (cvT (comV (cvT l0) (cvT l1))) 3) - (prV (cvT (comV (cvT l0) (cvT l1))) (cvT (comV (cvT l0) (cvT l1))) 3))))))) + (IntKind.wrap IntKind.i64 ((IntKind.wrap IntKind.i64 ((prV (cvT l0) (cvT l1) 4) - (prV (cvT (comV (cvT l0) (cvT l1))) (cvT l1) 4))) - (IntKind.wrap IntKind.i64 ((prV (cvT l0) (cvT (comV (cvT l0) (cvT l1))) 4) - (prV (cvT (comV (cvT l0) (cvT l1))) (cvT (comV (cvT l0) (cvT l1))) 4))))))) + (IntKind.wrap IntKind.i64 ((IntKind.wrap IntKind.i64 ((prV (cvT l0) (cvT l1) 5) - (prV (cvT (comV (cvT l0) (cvT l1))) (cvT l1) 5))) - (IntKind.wrap IntKind.i64 ((prV (cvT l0) (cvT (comV (cvT l0) (cvT l1))) 5) - (prV (cvT (comV (cvT l0) (cvT l1))) (cvT (comV (cvT l0) (cvT l1))) 5)))))))))] (sl Tb_ok 298 [] ⟨[], [], [some [4]], []⟩ ⟨[], [], []⟩ (trs 6 [false]) (pp (pp (xI R6 (comV (cvT l0) (cvT l1)).length (rowsT (comV (cvT l0) (cvT l1)))) (pp (xI R6 (comV (cvT l0) (cvT l1)).length (rowsT (comV (cvT l0) (cvT l1)))) (xw o24))) (pp (pp (xr l0) (pp (xI R6 (comV (cvT l0) (cvT l1)).length (rowsT (comV (cvT l0) (cvT l1)))) (xw o23))) (pp (pp (xI R6 (comV (cvT l0) (cvT l1)).length (rowsT (comV (cvT l0) (cvT l1)))) (pp (xr l1) (xw o22))) (pp (pp (xr l0) (pp (xr l1) (xw o21))) (pp (pp (xI R6 (comV (cvT l0) (cvT l1)).length (rowsT (comV (cvT l0) (cvT l1)))) (pp (xI R6 (comV (cvT l0) (cvT l1)).length (rowsT (comV (cvT l0) (cvT l1)))) (xw o20))) (pp (pp (xr l0) (pp (xI R6 (comV (cvT l0) (cvT l1)).length (rowsT (comV (cvT l0) (cvT l1)))) (xw o19))) (pp (pp (xI R6 (comV (cvT l0) (cvT l1)).length (rowsT (comV (cvT l0) (cvT l1)))) (pp (xr l1) (xw o18))) (pp (pp (xr l0) (pp (xr l1) (xw o17))) (pp (pp (xI R6 (comV (cvT l0) (cvT l1)).length (rowsT (comV (cvT l0) (cvT l1)))) (pp (xI R6 (comV (cvT l0) (cvT l1)).length (rowsT (comV (cvT l0) (cvT l1)))) (xw o16))) (pp (pp (xr l0) (pp (xI R6 (comV (cvT l0) (cvT l1)).length (rowsT (comV (cvT l0) (cvT l1)))) (xw o15))) (pp (pp (xI R6 (comV (cvT l0) (cvT l1)).length (rowsT (comV (cvT l0) (cvT l1)))) (pp (xr l1) (xw o14))) (pp (pp (xr l0) (pp (xr l1) (xw o13))) (pp (pp (xI R6 (comV (cvT l0) (cvT l1)).length (rowsT (comV (cvT l0) (cvT l1)))) (pp (xI R6 (comV (cvT l0) (cvT l1)).length (rowsT (comV (cvT l0) (cvT l1)))) (xw o12))) (pp (pp (xr l0) (pp (xI R6 (comV (cvT l0) (cvT l1)).length (rowsT (comV (cvT l0) (cvT l1)))) (xw o11))) (pp (pp (xI R6 (comV (cvT l0) (cvT l1)).length (rowsT (comV (cvT l0) (cvT l1)))) (pp (xr l1) (xw o10))) (pp (pp (xr l0) (pp (xr l1) (xw o9))) (pp (pp (xI R6 (comV (cvT l0) (cvT l1)).length (rowsT (comV (cvT l0) (cvT l1)))) (pp (xI R6 (comV (cvT l0) (cvT l1)).length (rowsT (comV (cvT l0) (cvT l1)))) (xw o8))) (pp (pp (xr l0) (pp (xI R6 (comV (cvT l0) (cvT l1)).length (rowsT (comV (cvT l0) (cvT l1)))) (xw o7))) (pp (pp (xI R6 (comV (cvT l0) (cvT l1)).length (rowsT (comV (cvT l0) (cvT l1)))) (pp (xr l1) (xw o6))) (pp (pp (xr l0) (pp (xr l1) (xw o5))) (pp (pp (xI R6 (comV (cvT l0) (cvT l1)).length (rowsT (comV (cvT l0) (cvT l1)))) (pp (xI R6 (comV (cvT l0) (cvT l1)).length (rowsT (comV (cvT l0) (cvT l1)))) (xw o4))) (pp (pp (xr l0) (pp (xI R6 (comV (cvT l0) (cvT l1)).length (rowsT (comV (cvT l0) (cvT l1)))) (xw o3))) (pp (pp (xI R6 (comV (cvT l0) (cvT l1)).length (rowsT (comV (cvT l0) (cvT l1)))) (pp (xr l1) (xw o2))) (pp (pp (xr l0) (pp (xr l1) (xw o1))) (pp (pp (xr l0) (pp (xr l1) (xw o0))) nn))))))))))))))))))))))))))))))))))))))))))))))))))))
theorem con_ends (l0 : List R6) (l1 : List R6) (n : Nat) (vs : List AVal) (h : goOn (constep l0 l1) n (constart l0 l1) = .ret vs) : Ends Tryz.prog (resultsOf Tryz.prog 30) (startC Tryz.prog 30 [(.dat l0.length (rowsT l0)), (.dat l1.length (rowsT l1))] true []) vs := by
  have := goOn_lead (constep_ok l0 l1) n _ (constart_ok l0 l1)
  rwa [h] at this
end Go.Am
end
section
namespace Go.Am
open Go.Proofs
set_option maxRecDepth 100000
set_option maxHeartbeats 4000000
set_option linter.unusedVariables false
set_option linter.unusedSimpArgs false
def c1W (d : Int) (X Y B : List R6) : Int := IntKind.wrap .i64 (IntKind.wrap .i64 (prV X Y d - prV B Y d) - IntKind.wrap .i64 (prV X B d - prV B B d))
def conW (X Y B : List R6) : Int := IntKind.wrap .i64 (IntKind.wrap .i64 (IntKind.wrap .i64 (IntKind.wrap .i64 (IntKind.wrap .i64 (IntKind.wrap .i64 (0 + c1W 0 X Y B) + c1W 1 X Y B) + c1W 2 X Y B) + c1W 3 X Y B) + c1W 4 X Y B) + c1W 5 X Y B)
def conV (X Y : List R6) : Int := conW X Y (comV X Y)
def conV_owed (X Y : List R6) : Bool := decide (X.length ≤ 100 ∧ Y.length ≤ 100)
theorem con_run (X Y : List R6) (h : conV_owed X Y = true) : ∃ N, goOn (constep X Y) N (constart X Y) = .ret [.int .i64 (conV X Y)] := by
  obtain ⟨h1, h2⟩ := of_decide_eq_true h
  have hl := com_length X Y
  have hm : X.length * Y.length ≤ 100 * 100 := Nat.mul_le_mul h1 h2
  have p : ∀ (A B : List R6) (d : Int), A.length ≤ 10000 → B.length ≤ 10000 → 0 ≤ d ∧ d ≤ 5 → prV_owed A B d = true := fun A B d a b c => decide_eq_true ⟨a, b, c⟩
  have hc : comV_owed X Y = true := decide_eq_true (by omega)
  refine ⟨0, ?_⟩
  unfold constart
  simp (disch := omega) only [cvT_eq, hc, p, cond_true]
  rfl
theorem c1W_cg (d : Int) (hd : 0 ≤ d ∧ d ≤ 5) (X Y B : List R6) (hX : ∀ x ∈ X, okB x = true) (hB : ∀ x ∈ B, okB x = true) : Cg (c1W d X Y B) (c1 d X Y B) :=
  (Cg.sub ((prV_cg X Y d hd hX).sub (prV_cg B Y d hd hB)).w ((prV_cg X B d hd hX).sub (prV_cg B B d hd hB)).w).w
theorem conW_cg (X Y B : List R6) (hX : ∀ x ∈ X, okB x = true) (hB : ∀ x ∈ B, okB x = true) : Cg (conW X Y B) (con6 X Y B) := by
  have h := fun d hd => c1W_cg d hd X Y B hX hB
  unfold conW con6
  have := ((((((Cg.refl 0).add (h 0 (by omega))).w.add (h 1 (by omega))).w.add (h 2 (by omega))).w.add (h 3 (by omega))).w.add (h 4 (by omega))).w.add (h 5 (by omega))
  rw [show 0 + c1 0 X Y B = c1 0 X Y B from Int.zero_add _] at this
  exact this.w
theorem conV_cg (X Y : List R6) (hX : ∀ x ∈ X, okB x = true) (hY : ∀ x ∈ Y, okB x = true) : Cg (conV X Y) (con6 X Y (comV X Y)) := conW_cg X Y _ hX (okB_com X Y hX hY)
theorem conV_in (X Y : List R6) : -9223372036854775808 ≤ conV X Y ∧ conV X Y ≤ 9223372036854775807 := wrap_in _
theorem conV_comm (X Y : List R6) (hX : ∀ x ∈ X, okB x = true) (hY : ∀ x ∈ Y, okB x = true) : conV X Y = conV Y X := by
  have h := conV_cg X Y hX hY
  have k := conV_cg Y X hY hX
  rw [con6_turn] at h
  exact (h.trans k.symm).is (conV_in X Y) (conV_in Y X)
noncomputable def fCon : List AVal → Option (AVal × Bool)
  | [a0, a1] => match asL R6 a0, asL R6 a1 with
    | some (L0, g0, n0), some (L1, g1, n1) => some (.int .i64 (conV L0 L1), isT R6 n0 g0 && (isT R6 n1 g1 && (conV_owed L0 L1)))
    | _, _ => none
  | _ => none
theorem fCon_ok {S : Specs} (hS : SpecsOk Tryz.prog S) : SpecsOk Tryz.prog (S.with nCont fCon) := by
  refine fOne hS (by kernel_rfl) fun args v h => ?_
  unfold fCon at h
  split at h
  · rename_i a0 a1
    split at h
    · rename_i L0 g0 n0 L1 g1 n1 e0 e1
      simp only [Option.some.injEq, Prod.mk.injEq, Bool.and_eq_true] at h
      obtain ⟨rfl, ho0, ho1, hw⟩ := h
      obtain ⟨N, hN⟩ := con_run L0 L1 hw
      exact ⟨_, _, (.cons (asL_le e0 ho0) (.cons (asL_le e1 ho1) .nil)), rfl, con_ends L0 L1 N _ hN, 3, rfl⟩
    · cases h
  · cases h
noncomputable def Tc : Specs := (Tb.with nCont fCon)
theorem Tc_ok : SpecsOk Tryz.prog Tc := (fCon_ok Tb_ok)
end Go.Am
end
section
namespace Go.Am
open Go.Proofs
set_option maxRecDepth 1000000
set_option linter.unusedVariables false
set_option linter.unusedSimpArgs false
set_option maxHeartbeats 4000000
inductive orlS where
noncomputable def orlC (l0 : List R6) (l1 : List R6) : orlS → Cfg
  := nofun
noncomputable def orlstep (l0 : List R6) (l1 : List R6) : orlS → Out' orlS
  := nofun
noncomputable def orlstart (l0 : List R6) (l1 : List R6) : Out' orlS := (bif (blkV_owed (cvT l0)) then (bif (blkV_owed (cvT l1)) then (bif (comV_owed (cvT (blkV (cvT l0))) (cvT (blkV (cvT l1)))) then (bif (volV_owed (cvT (comV (cvT (blkV (cvT l0))) (cvT (blkV (cvT l1)))))) then (bif (decide ((volV (cvT (comV (cvT (blkV (cvT l0))) (cvT (blkV (cvT l1)))))) > 0)) then (bif (volV_owed (cvT (blkV (cvT l0)))) then (bif ((volV (cvT (comV (cvT (blkV (cvT l0))) (cvT (blkV (cvT l1)))))) == (volV (cvT (blkV (cvT l0))))) then (bif (volV_owed (cvT (blkV (cvT l1)))) then (bif ((volV (cvT (comV (cvT (blkV (cvT l0))) (cvT (blkV (cvT l1)))))) == (volV (cvT (blkV (cvT l1))))) then (.ret [(.int .u8 6)]) else (.ret [(.int .u8 4)])) else .stuck) else (bif (volV_owed (cvT (blkV (cvT l1)))) then (bif ((volV (cvT (comV (cvT (blkV (cvT l0))) (cvT (blkV (cvT l1)))))) == (volV (cvT (blkV (cvT l1))))) then (.ret [(.int .u8 5)]) else (.ret [(.int .u8 3)])) else .stuck)) else .stuck) else (bif (conV_owed (cvT (blkV (cvT l0))) (cvT (blkV (cvT l1)))) then (bif (decide ((conV (cvT (blkV (cvT l0))) (cvT (blkV (cvT l1)))) > 0)) then (.ret [(.int .u8 2)]) else (.ret [(.int .u8 1)])) else .stuck)) else .stuck) else .stuck) else .stuck) else .stuck)
theorem orlstep_ok (l0 : List R6) (l1 : List R6) : ∀ s, Lead Tryz.prog (resultsOf Tryz.prog 31) (orlC l0 l1) (orlC l0 l1 s) (orlstep l0 l1 s)
  := nofun
theorem orlstart_ok (l0 : List R6) (l1 : List R6) : Lead Tryz.prog (resultsOf Tryz.prog 31) (orlC l0 l1) (startC Tryz.prog 31 [(.dat l0.length (rowsT l0)), (.dat l1.length (rowsT l1))] true []) (orlstart l0 l1) := (lead_owe fun o0_0 => (lead_owe fun o0_1 => (lead_owe fun o0_2 => (lead_owe fun o0_3 => (lead_bif (fun k0 => (lead_owe fun o1_0 => (lead_bif (fun k1 => (lead_owe fun o2_0 => (lead_bif (fun k2 => (lr 57 31 [1, 1, 1, 0, 0, 1, 0, 0] 1 4 [(4, (.int .u8 6))] (sl Tc_ok 46 [] ⟨[], [], [some [4]], []⟩ ⟨[], [], []⟩ (trs 9 []) (tt k2 (pp (pp (xI R6 (blkV (cvT l1)).length (rowsT (blkV (cvT l1)))) (xw o2_0)) (tt k1 (pp (pp (xI R6 (blkV (cvT l0)).length (rowsT (blkV (cvT l0)))) (xw o1_0)) (tt k0 (pp (pp (xI R6 (comV (cvT (blkV (cvT l0))) (cvT (blkV (cvT l1)))).length (rowsT (comV (cvT (blkV (cvT l0))) (cvT (blkV (cvT l1)))))) (xw o0_3)) (pp (pp (xI R6 (blkV (cvT l0)).length (rowsT (blkV (cvT l0)))) (pp (xI R6 (blkV (cvT l1)).length (rowsT (blkV (cvT l1)))) (xw o0_2))) (pp (pp (xr l1) (xw o0_1)) (pp (pp (xr l0) (xw o0_0)) nn)))))))))))) (fun k2 => (lr 57 31 [1, 1, 1, 0, 0, 1, 0, 0] 1 4 [(4, (.int .u8 4))] (sl Tc_ok 59 [] ⟨[], [], [some [4]], []⟩ ⟨[], [], []⟩ (trs 8 [false, true, true, true, true, true]) (tt k1 (pp (pp (xI R6 (blkV (cvT l0)).length (rowsT (blkV (cvT l0)))) (xw o1_0)) (tt k0 (tt k2 (pp (pp (xI R6 (blkV (cvT l1)).length (rowsT (blkV (cvT l1)))) (xw o2_0)) (tt k1 (pp (pp (xI R6 (blkV (cvT l0)).length (rowsT (blkV (cvT l0)))) (xw o1_0)) (tt k0 (pp (pp (xI R6 (comV (cvT (blkV (cvT l0))) (cvT (blkV (cvT l1)))).length (rowsT (comV (cvT (blkV (cvT l0))) (cvT (blkV (cvT l1)))))) (xw o0_3)) (pp (pp (xI R6 (blkV (cvT l0)).length (rowsT (blkV (cvT l0)))) (pp (xI R6 (blkV (cvT l1)).length (rowsT (blkV (cvT l1)))) (xw o0_2))) (pp (pp (xr l1) (xw o0_1)) (pp (pp (xr l0) (xw o0_0)) nn)))))))))))))))))) (fun k1 => (lead_owe fun o2_0 => (lead_bif (fun k2 => (lr 57 31 [1, 1, 1, 0, 0, 1, 0, 0] 1 4 [(4, (.int .u8 5))] (sl Tc_ok 72 [] ⟨[], [], [some [4]], []⟩ ⟨[], [], []⟩ (trs 4 [false, false, false, false, false, true, true, true, true, false, true, true, true, true, true]) (tt k2 (pp (pp (xI R6 (blkV (cvT l1)).length (rowsT (blkV (cvT l1)))) (xw o2_0)) (tt k0 (tt k1 (pp (pp (xI R6 (blkV (cvT l0)).length (rowsT (blkV (cvT l0)))) (xw o1_0)) (tt k0 (tt k1 (pp (pp (xI R6 (blkV (cvT l0)).length (rowsT (blkV (cvT l0)))) (xw o1_0)) (tt k0 (pp (pp (xI R6 (comV (cvT (blkV (cvT l0))) (cvT (blkV (cvT l1)))).length (rowsT (comV (cvT (blkV (cvT l0))) (cvT (blkV (cvT l1)))))) (xw o0_3)) (pp (pp (xI R6 (blkV (cvT l0)).length (rowsT (blkV (cvT l0)))) (pp (xI R6 (blkV (cvT l1)).length (rowsT (blkV (cvT l1)))) (xw o0_2))) (pp (pp (xr l1) (xw o0_1)) (pp (pp (xr l0) (xw o0_0)) nn)))))))))))))))) (fun k2 => (lr 57 31 [1, 1, 1, 0, 0, 1, 0, 0] 1 4 [(4, (.int .u8 3))] (sl Tc_ok 79 [] ⟨[], [], [some [4]], []⟩ ⟨[], [], []⟩ (trs 4 [false, false, false, false, false, true, true, true, true, false, true, true, true, true, false, true]) (tt k0 (tt k2 (pp (pp (xI R6 (blkV (cvT l1)).length (rowsT (blkV (cvT l1)))) (xw o2_0)) (tt k0 (tt k1 (pp (pp (xI R6 (blkV (cvT l0)).length (rowsT (blkV (cvT l0)))) (xw o1_0)) (tt k0 (tt k1 (pp (pp (xI R6 (blkV (cvT l0)).length (rowsT (blkV (cvT l0)))) (xw o1_0)) (tt k0 (pp (pp (xI R6 (comV (cvT (blkV (cvT l0))) (cvT (blkV (cvT l1)))).length (rowsT (comV (cvT (blkV (cvT l0))) (cvT (blkV (cvT l1)))))) (xw o0_3)) (pp (pp (xI R6 (blkV (cvT l0)).length (rowsT (blkV (cvT l0)))) (pp (xI R6 (blkV (cvT l1)).length (rowsT (blkV (cvT l1)))) (xw o0_2))) (pp (pp (xr l1) (xw o0_1)) (pp (pp (xr l0) (xw o0_0)) nn))))))))))))))))))))))) (fun k0 => (lead_owe fun o1_0 => (lead_bif (fun k1 => (lr 57 31 [1, 1, 1, 0, 0, 1, 0, 0] 1 4 [(4, (.int .u8 2))] (sl Tc_ok 88 [] ⟨[], [], [some [4]], []⟩ ⟨[], [], []⟩ [false, false, false, false, false, false, false, false, false, false, false, false, false, false, false, false, false, false, false, false, true] (tt k1 (pp (pp (xI R6 (blkV (cvT l0)).length (rowsT (blkV (cvT l0)))) (pp (xI R6 (blkV (cvT l1)).length (rowsT (blkV (cvT l1)))) (xw o1_0))) (tt k0 (tt k0 (tt k0 (tt k0 (pp (pp (xI R6 (comV (cvT (blkV (cvT l0))) (cvT (blkV (cvT l1)))).length (rowsT (comV (cvT (blkV (cvT l0))) (cvT (blkV (cvT l1)))))) (xw o0_3)) (pp (pp (xI R6 (blkV (cvT l0)).length (rowsT (blkV (cvT l0)))) (pp (xI R6 (blkV (cvT l1)).length (rowsT (blkV (cvT l1)))) (xw o0_2))) (pp (pp (xr l1) (xw o0_1)) (pp (pp (xr l0) (xw o0_0)) nn))))))))))))) (fun k1 => (lr 57 3 [1, 1, 1, 1, 1, 1, 0] 1 4 [(4, (.int .u8 1))] (sl Tc_ok 90 [] ⟨[], [], [some [4]], []⟩ ⟨[], [], []⟩ [false, false, false, false, false, false, false, false, false, false, false, false, false, false, false, false, false, false, false, false, false] (tt k1 (pp (pp (xI R6 (blkV (cvT l0)).length (rowsT (blkV (cvT l0)))) (pp (xI R6 (blkV (cvT l1)).length (rowsT (blkV (cvT l1)))) (xw o1_0))) (tt k0 (tt k0 (tt k0 (tt k0 (pp (pp (xI R6 (comV (cvT (blkV (cvT l0))) (cvT (blkV (cvT l1)))).length (rowsT (comV (cvT (blkV (cvT l0))) (cvT (blkV (cvT l1)))))) (xw o0_3)) (pp (pp (xI R6 (blkV (cvT l0)).length (rowsT (blkV (cvT l0)))) (pp (xI R6 (blkV (cvT l1)).length (rowsT (blkV (cvT l1)))) (xw o0_2))) (pp (pp (xr l1) (xw o0_1)) (pp (pp (xr l0) (xw o0_0)) nn)))))))))))))))))))))
theorem orl_ends (l0 : List R6) (l1 : List R6) (n : Nat) (vs : List AVal) (h : goOn (orlstep l0 l1) n (orlstart l0 l1) = .ret vs) : Ends Tryz.prog (resultsOf Tryz.prog 31) (startC Tryz.prog 31 [(.dat l0.length (rowsT l0)), (.dat l1.length (rowsT l1))] true []) vs := by
  have := goOn_lead (orlstep_ok l0 l1) n _ (orlstart_ok l0 l1)
  rwa [h] at this
end Go.Am
end
section
namespace Go.Am
open Go.Proofs
set_option maxRecDepth 100000
set_option maxHeartbeats 4000000
set_option linter.unusedVariables false
set_option linter.unusedSimpArgs false
def relN (n v u c : Int) : Int := bif decide (n > 0) then (bif n == v then (bif n == u then 6 else 4) else (bif n == u then 5 else 3)) else (bif decide (c > 0) then 2 else 1)
def orlV (X Y : List R6) : Int := relN (volV (comV X Y)) (volV X) (volV Y) (conV X Y)
def orlV_owed (X Y : List R6) : Bool := decide (X.length ≤ 100 ∧ Y.length ≤ 100)
theorem orl_run (X Y : List R6) (h : orlV_owed X Y = true) : ∃ N, goOn (orlstep X Y) N (orlstart X Y) = .ret [.int .u8 (orlV X Y)] := by
  obtain ⟨h1, h2⟩ := of_decide_eq_true h
  have hl := com_length X Y
  have hm : X.length * Y.length ≤ 100 * 100 := Nat.mul_le_mul h1 h2
  have hc : comV_owed X Y = true := decide_eq_true (by omega)
  have hk : conV_owed X Y = true := decide_eq_true (by omega)
  have b1 : blkV_owed X = true := decide_eq_true (by omega)
  have b2 : blkV_owed Y = true := decide_eq_true (by omega)
  have v1 : volV_owed X = true := decide_eq_true (by omega)
  have v2 : volV_owed Y = true := decide_eq_true (by omega)
  have v3 : volV_owed (comV X Y) = true := decide_eq_true (by omega)
  refine ⟨0, ?_⟩
  unfold orlstart orlV relN
  simp only [cvT_eq, blkV, hc, hk, b1, b2, v1, v2, v3, cond_true]
  rcases boolc (decide (volV (comV X Y) > 0)) with q1 | q1
  · rcases boolc (volV (comV X Y) == volV X) with q2 | q2 <;> rcases boolc (volV (comV X Y) == volV Y) with q3 | q3 <;> simp only [q1, q2, q3, cond_true, cond_false] <;> rfl
  · rcases boolc (decide (conV X Y > 0)) with q2 | q2 <;> simp only [q1, q2, cond_true, cond_false] <;> rfl
noncomputable def fOrl : List AVal → Option (AVal × Bool)
  | [a0, a1] => match asL R6 a0, asL R6 a1 with
    | some (L0, g0, n0), some (L1, g1, n1) => some (.int .u8 (orlV L0 L1), isT R6 n0 g0 && (isT R6 n1 g1 && (orlV_owed L0 L1)))
    | _, _ => none
  | _ => none
theorem fOrl_ok {S : Specs} (hS : SpecsOk Tryz.prog S) : SpecsOk Tryz.prog (S.with nRel fOrl) := by
  refine fOne hS (by kernel_rfl) fun args v h => ?_
  unfold fOrl at h
  split at h
  · rename_i a0 a1
    split at h
    · rename_i L0 g0 n0 L1 g1 n1 e0 e1
      simp only [Option.some.injEq, Prod.mk.injEq, Bool.and_eq_true] at h
      obtain ⟨rfl, ho0, ho1, hw⟩ := h
      obtain ⟨N, hN⟩ := orl_run L0 L1 hw
      exact ⟨_, _, (.cons (asL_le e0 ho0) (.cons (asL_le e1 ho1) .nil)), rfl, orl_ends L0 L1 N _ hN, 3, rfl⟩
    · cases h
  · cases h
def sckV_0_owed (l : List R6) : Bool := true
def rckV_0_owed (l : List R6) : Bool := true
noncomputable def Td : Specs := (Tc.with nRel fOrl)
theorem Td_ok : SpecsOk Tryz.prog Td := (fOrl_ok Tc_ok)
end Go.Am
end
section
namespace Go.Am
open Go.Proofs
set_option maxRecDepth 1000000
set_option linter.unusedVariables false
set_option linter.unusedSimpArgs false
set_option maxHeartbeats 4000000
inductive ocoS where
noncomputable def ocoC (l0 : List R6) (l1 : List R6) : ocoS → Cfg
  := nofun
noncomputable def ocostep (l0 : List R6) (l1 : List R6) : ocoS → Out' ocoS
  := nofun
noncomputable def ocostart (l0 : List R6) (l1 : List R6) : Out' ocoS := (bif (sckV_0_owed (cvT l0)) then (bif ((sckV_0 (cvT l0)) != 0) then (.ret [(.int .i64 0), (.int .i64 (sckV_0 (cvT l0)))]) else (bif (sckV_0_owed (cvT l1)) then (bif ((sckV_0 (cvT l1)) != 0) then (.ret [(.int .i64 0), (.int .i64 (sckV_0 (cvT l1)))]) else (bif (blkV_owed (cvT l0)) then (bif (blkV_owed (cvT l1)) then (bif (conV_owed (cvT (blkV (cvT l0))) (cvT (blkV (cvT l1)))) then (.ret [(.int .i64 (conV (cvT (blkV (cvT l0))) (cvT (blkV (cvT l1))))), (.int .i64 0)]) else .stuck) else .stuck) else .stuck)) else .stuck)) else .stuck)
theorem ocostep_ok (l0 : List R6) (l1 : List R6) : ∀ s, Lead Tryz.prog (resultsOf Tryz.prog 13) (ocoC l0 l1) (ocoC l0 l1 s) (ocostep l0 l1 s)
  := nofun
theorem ocostart_ok (l0 : List R6) (l1 : List R6) : Lead Tryz.prog (resultsOf Tryz.prog 13) (ocoC l0 l1) (startC Tryz.prog 13 [(.dat l0.length (rowsT l0)), (.dat l1.length (rowsT l1))] true []) (ocostart l0 l1) := (lead_owe fun o0_0 => (lead_bif (fun k0 => (lr 19 13 [1, 0, 1, 1, 0, 0] 1 9 [(4, (.int .i64 0)), (5, (.int .i64 (sckV_0 (cvT l0))))] (sl Td_ok 72 [] ⟨[], [], [some [4, 5]], []⟩ ⟨[], [], []⟩ (trs 3 []) (tt k0 (tt k0 (pp (pp (xr l0) (xw o0_0)) nn)))))) (fun k0 => (lead_owe fun o1_0 => (lead_bif (fun k1 => (lr 19 13 [1, 0, 1, 1, 0, 0] 1 9 [(4, (.int .i64 0)), (5, (.int .i64 (sckV_0 (cvT l1))))] (sl Td_ok 106 [] ⟨[], [], [some [4, 5]], []⟩ ⟨[], [], []⟩ [true, false, true, true, true] (tt k1 (tt k1 (pp (pp (xr l1) (xw o1_0)) (tt k0 (pp (pp (xr l0) (xw o0_0)) nn)))))))) (fun k1 => (lead_owe fun o0 => (lead_owe fun o1 => (lead_owe fun o2 => (lr 19 3 [1, 1, 1, 1, 1, 1, 0] 1 9 [(4, (.int .i64 (conV (cvT (blkV (cvT l0))) (cvT (blkV (cvT l1)))))), (5, (.int .i64 0))] (sl Td_ok 124 [] ⟨[], [], [some [4, 5]], []⟩ ⟨[], [], []⟩ [true, false, true, false, false, false] (pp (pp (xI R6 (blkV (cvT l0)).length (rowsT (blkV (cvT l0)))) (pp (xI R6 (blkV (cvT l1)).length (rowsT (blkV (cvT l1)))) (xw o2))) (pp (pp (xr l1) (xw o1)) (pp (pp (xr l0) (xw o0)) (tt k1 (pp (pp (xr l1) (xw o1_0)) (tt k0 (pp (pp (xr l0) (xw o0_0)) nn))))))))))))))))))
theorem oco_ends (l0 : List R6) (l1 : List R6) (n : Nat) (vs : List AVal) (h : goOn (ocostep l0 l1) n (ocostart l0 l1) = .ret vs) : Ends Tryz.prog (resultsOf Tryz.prog 13) (startC Tryz.prog 13 [(.dat l0.length (rowsT l0)), (.dat l1.length (rowsT l1))] true []) vs := by
  have := goOn_lead (ocostep_ok l0 l1) n _ (ocostart_ok l0 l1)
  rwa [h] at this
inductive oreS where
noncomputable def oreC (l0 : List R6) (l1 : List R6) : oreS → Cfg
  := nofun
noncomputable def orestep (l0 : List R6) (l1 : List R6) : oreS → Out' oreS
  := nofun
noncomputable def orestart (l0 : List R6) (l1 : List R6) : Out' oreS := (bif (sckV_0_owed (cvT l0)) then (bif ((sckV_0 (cvT l0)) != 0) then (.ret [(.int .u8 0), (.int .i64 (sckV_0 (cvT l0)))]) else (bif (sckV_0_owed (cvT l1)) then (bif ((sckV_0 (cvT l1)) != 0) then (.ret [(.int .u8 0), (.int .i64 (sckV_0 (cvT l1)))]) else (bif (orlV_owed (cvT l0) (cvT l1)) then (.ret [(.int .u8 (orlV (cvT l0) (cvT l1))), (.int .i64 0)]) else .stuck)) else .stuck)) else .stuck)
theorem orestep_ok (l0 : List R6) (l1 : List R6) : ∀ s, Lead Tryz.prog (resultsOf Tryz.prog 15) (oreC l0 l1) (oreC l0 l1 s) (orestep l0 l1 s)
  := nofun
theorem orestart_ok (l0 : List R6) (l1 : List R6) : Lead Tryz.prog (resultsOf Tryz.prog 15) (oreC l0 l1) (startC Tryz.prog 15 [(.dat l0.length (rowsT l0)), (.dat l1.length (rowsT l1))] true []) (orestart l0 l1) := (lead_owe fun o0_0 => (lead_bif (fun k0 => (lr 17 15 [1, 0, 1, 1, 0, 0] 1 9 [(4, (.int .u8 0)), (5, (.int .i64 (sckV_0 (cvT l0))))] (sl Td_ok 72 [] ⟨[], [], [some [4, 5]], []⟩ ⟨[], [], []⟩ (trs 3 []) (tt k0 (tt k0 (pp (pp (xr l0) (xw o0_0)) nn)))))) (fun k0 => (lead_owe fun o1_0 => (lead_bif (fun k1 => (lr 17 15 [1, 0, 1, 1, 0, 0] 1 9 [(4, (.int .u8 0)), (5, (.int .i64 (sckV_0 (cvT l1))))] (sl Td_ok 106 [] ⟨[], [], [some [4, 5]], []⟩ ⟨[], [], []⟩ [true, false, true, true, true] (tt k1 (tt k1 (pp (pp (xr l1) (xw o1_0)) (tt k0 (pp (pp (xr l0) (xw o0_0)) nn)))))))) (fun k1 => (lead_owe fun o0 => (lr 17 3 [1, 1, 1, 1, 1, 1, 0] 1 9 [(4, (.int .u8 (orlV (cvT l0) (cvT l1)))), (5, (.int .i64 0))] (sl Td_ok 122 [] ⟨[], [], [some [4, 5]], []⟩ ⟨[], [], []⟩ [true, false, true, false, false, false] (pp (pp (xr l0) (pp (xr l1) (xw o0))) (tt k1 (pp (pp (xr l1) (xw o1_0)) (tt k0 (pp (pp (xr l0) (xw o0_0)) nn))))))))))))))
theorem ore_ends (l0 : List R6) (l1 : List R6) (n : Nat) (vs : List AVal) (h : goOn (orestep l0 l1) n (orestart l0 l1) = .ret vs) : Ends Tryz.prog (resultsOf Tryz.prog 15) (startC Tryz.prog 15 [(.dat l0.length (rowsT l0)), (.dat l1.length (rowsT l1))] true []) vs := by
  have := goOn_lead (orestep_ok l0 l1) n _ (orestart_ok l0 l1)
  rwa [h] at this
inductive osiS where
noncomputable def osiC (l0 : List R6) (x1 : Int) : osiS → Cfg
  := nofun
noncomputable def osistep (l0 : List R6) (x1 : Int) : osiS → Out' osiS
  := nofun
noncomputable def osistart (l0 : List R6) (x1 : Int) : Out' osiS := (bif (sckV_0_owed (cvT l0)) then (bif ((sckV_0 (cvT l0)) != 0) then (.ret [(.int .i64 0), (.int .i64 (sckV_0 (cvT l0)))]) else (bif (decide (x1 < 0)) then (.ret [(.int .i64 0), (.int .i64 2)]) else (bif (decide (x1 > 5)) then (.ret [(.int .i64 0), (.int .i64 2)]) else (bif (blkV_owed (cvT l0)) then (bif (volV_owed (cvT (blkV (cvT l0)))) then (bif (prV_owed (cvT (blkV (cvT l0))) (cvT (blkV (cvT l0))) x1) then (.ret [(.int .i64 (IntKind.wrap IntKind.i64 ((volV (cvT (blkV (cvT l0)))) - (prV (cvT (blkV (cvT l0))) (cvT (blkV (cvT l0))) x1)))), (.int .i64 0)]) else .stuck) else .stuck) else .stuck)))) else .stuck)
theorem osistep_ok (l0 : List R6) (x1 : Int) : ∀ s, Lead Tryz.prog (resultsOf Tryz.prog 9) (osiC l0 x1) (osiC l0 x1 s) (osistep l0 x1 s)
  := nofun
theorem osistart_ok (l0 : List R6) (x1 : Int) : Lead Tryz.prog (resultsOf Tryz.prog 9) (osiC l0 x1) (startC Tryz.prog 9 [(.dat l0.length (rowsT l0)), (.int .i64 x1)] true []) (osistart l0 x1) := (lead_owe fun o0_0 => (lead_bif (fun k0 => (lr 29 9 [1, 0, 1, 1, 0, 0] 1 9 [(4, (.int .i64 0)), (5, (.int .i64 (sckV_0 (cvT l0))))] (sl Td_ok 71 [] ⟨[], [], [some [4, 5]], []⟩ ⟨[], [], []⟩ (trs 3 []) (tt k0 (tt k0 (pp (pp (xr l0) (xw o0_0)) nn)))))) (fun k0 => (lead_bif (fun k1 => (lr 29 9 [1, 1, 0, 1, 0, 0] 1 9 [(4, (.int .i64 0)), (5, (.int .i64 2))] (sl Td_ok 95 [] ⟨[], [], [some [4, 5]], []⟩ ⟨[], [], []⟩ [true, false, false, false, true, true, true] (tt k1 (tt k0 (pp (pp (xr l0) (xw o0_0)) nn)))))) (fun k1 => (lead_bif (fun k2 => (lr 29 9 [1, 1, 0, 1, 0, 0] 1 9 [(4, (.int .i64 0)), (5, (.int .i64 2))] (sl Td_ok 95 [] ⟨[], [], [some [4, 5]], []⟩ ⟨[], [], []⟩ [true, false, false, false, false, false, true] (tt k2 (tt k1 (tt k0 (pp (pp (xr l0) (xw o0_0)) nn))))))) (fun k2 => (lead_owe fun o0 => (lead_owe fun o1 => (lead_owe fun o2 => (lr 29 3 [1, 1, 1, 1, 1, 1, 0] 1 9 [(4, (.int .i64 (IntKind.wrap IntKind.i64 ((volV (cvT (blkV (cvT l0)))) - (prV (cvT (blkV (cvT l0))) (cvT (blkV (cvT l0))) x1))))), (5, (.int .i64 0))] (sl Td_ok 109 [] ⟨[], [], [some [4, 5]], []⟩ ⟨[], [], []⟩ [true, false, false, false, false, false, false] (pp (pp (xI R6 (blkV (cvT l0)).length (rowsT (blkV (cvT l0)))) (pp (xI R6 (blkV (cvT l0)).length (rowsT (blkV (cvT l0)))) (xw o2))) (pp (pp (xI R6 (blkV (cvT l0)).length (rowsT (blkV (cvT l0)))) (xw o1)) (pp (pp (xr l0) (xw o0)) (tt k2 (tt k1 (tt k0 (pp (pp (xr l0) (xw o0_0)) nn)))))))))))))))))))
theorem osi_ends (l0 : List R6) (x1 : Int) (n : Nat) (vs : List AVal) (h : goOn (osistep l0 x1) n (osistart l0 x1) = .ret vs) : Ends Tryz.prog (resultsOf Tryz.prog 9) (startC Tryz.prog 9 [(.dat l0.length (rowsT l0)), (.int .i64 x1)] true []) vs := by
  have := goOn_lead (osistep_ok l0 x1) n _ (osistart_ok l0 x1)
  rwa [h] at this
inductive ocvS where
noncomputable def ocvC (l0 : List R6) (l1 : List R6) (x2 : Int) : ocvS → Cfg
  := nofun
noncomputable def ocvstep (l0 : List R6) (l1 : List R6) (x2 : Int) : ocvS → Out' ocvS
  := nofun
noncomputable def ocvstart (l0 : List R6) (l1 : List R6) (x2 : Int) : Out' ocvS := (bif (sckV_0_owed (cvT l0)) then (bif ((sckV_0 (cvT l0)) != 0) then (.ret [(.int .i64 0), (.int .i64 (sckV_0 (cvT l0)))]) else (bif (sckV_0_owed (cvT l1)) then (bif ((sckV_0 (cvT l1)) != 0) then (.ret [(.int .i64 0), (.int .i64 (sckV_0 (cvT l1)))]) else (bif (decide (x2 < 0)) then (.ret [(.int .i64 0), (.int .i64 2)]) else (bif (decide (x2 > 5)) then (.ret [(.int .i64 0), (.int .i64 2)]) else (bif (blkV_owed (cvT l0)) then (bif (blkV_owed (cvT l1)) then (bif (prV_owed (cvT (blkV (cvT l0))) (cvT (blkV (cvT l1))) x2) then (bif (comV_owed (cvT (blkV (cvT l0))) (cvT (blkV (cvT l1)))) then (bif (prV_owed (cvT (blkV (cvT l0))) (cvT (comV (cvT (blkV (cvT l0))) (cvT (blkV (cvT l1))))) x2) then (.ret [(.int .i64 (IntKind.wrap IntKind.i64 ((prV (cvT (blkV (cvT l0))) (cvT (blkV (cvT l1))) x2) - (prV (cvT (blkV (cvT l0))) (cvT (comV (cvT (blkV (cvT l0))) (cvT (blkV (cvT l1))))) x2)))), (.int .i64 0)]) else .stuck) else .stuck) else .stuck) else .stuck) else .stuck)))) else .stuck)) else .stuck)
theorem ocvstep_ok (l0 : List R6) (l1 : List R6) (x2 : Int) : ∀ s, Lead Tryz.prog (resultsOf Tryz.prog 11) (ocvC l0 l1 x2) (ocvC l0 l1 x2 s) (ocvstep l0 l1 x2 s)
  := nofun
theorem ocvstart_ok (l0 : List R6) (l1 : List R6) (x2 : Int) : Lead Tryz.prog (resultsOf Tryz.prog 11) (ocvC l0 l1 x2) (startC Tryz.prog 11 [(.dat l0.length (rowsT l0)), (.dat l1.length (rowsT l1)), (.int .i64 x2)] true []) (ocvstart l0 l1 x2) := (lead_owe fun o0_0 => (lead_bif (fun k0 => (lr 39 11 [1, 0, 1, 1, 0, 0] 1 11 [(6, (.int .i64 0)), (7, (.int .i64 (sckV_0 (cvT l0))))] (sl Td_ok 72 [] ⟨[], [], [some [6, 7]], []⟩ ⟨[], [], []⟩ (trs 3 []) (tt k0 (tt k0 (pp (pp (xr l0) (xw o0_0)) nn)))))) (fun k0 => (lead_owe fun o1_0 => (lead_bif (fun k1 => (lr 39 11 [1, 0, 1, 1, 0, 0] 1 11 [(6, (.int .i64 0)), (7, (.int .i64 (sckV_0 (cvT l1))))] (sl Td_ok 106 [] ⟨[], [], [some [6, 7]], []⟩ ⟨[], [], []⟩ [true, false, true, true, true] (tt k1 (tt k1 (pp (pp (xr l1) (xw o1_0)) (tt k0 (pp (pp (xr l0) (xw o0_0)) nn)))))))) (fun k1 => (lead_bif (fun k2 => (lr 39 11 [1, 1, 0, 1, 0, 0] 1 11 [(6, (.int .i64 0)), (7, (.int .i64 2))] (sl Td_ok 130 [] ⟨[], [], [some [6, 7]], []⟩ ⟨[], [], []⟩ [true, false, true, false, false, false, true, true, true] (tt k2 (tt k1 (pp (pp (xr l1) (xw o1_0)) (tt k0 (pp (pp (xr l0) (xw o0_0)) nn)))))))) (fun k2 => (lead_bif (fun k3 => (lr 39 11 [1, 1, 0, 1, 0, 0] 1 11 [(6, (.int .i64 0)), (7, (.int .i64 2))] (sl Td_ok 130 [] ⟨[], [], [some [6, 7]], []⟩ ⟨[], [], []⟩ [true, false, true, false, false, false, false, false, true] (tt k3 (tt k2 (tt k1 (pp (pp (xr l1) (xw o1_0)) (tt k0 (pp (pp (xr l0) (xw o0_0)) nn))))))))) (fun k3 => (lead_owe fun o0 => (lead_owe fun o1 => (lead_owe fun o2 => (lead_owe fun o3 => (lead_owe fun o4 => (lr 39 3 [1, 1, 1, 1, 1, 1, 0] 1 11 [(6, (.int .i64 (IntKind.wrap IntKind.i64 ((prV (cvT (blkV (cvT l0))) (cvT (blkV (cvT l1))) x2) - (prV (cvT (blkV (cvT l0))) (cvT (comV (cvT (blkV (cvT l0))) (cvT (blkV (cvT l1))))) x2))))), (7, (.int .i64 0))] (sl Td_ok 151 [] ⟨[], [], [some [6, 7]], []⟩ ⟨[], [], []⟩ [true, false, true, false, false, false, false, false, false] (pp (pp (xI R6 (blkV (cvT l0)).length (rowsT (blkV (cvT l0)))) (pp (xI R6 (comV (cvT (blkV (cvT l0))) (cvT (blkV (cvT l1)))).length (rowsT (comV (cvT (blkV (cvT l0))) (cvT (blkV (cvT l1)))))) (xw o4))) (pp (pp (xI R6 (blkV (cvT l0)).length (rowsT (blkV (cvT l0)))) (pp (xI R6 (blkV (cvT l1)).length (rowsT (blkV (cvT l1)))) (xw o3))) (pp (pp (xI R6 (blkV (cvT l0)).length (rowsT (blkV (cvT l0)))) (pp (xI R6 (blkV (cvT l1)).length (rowsT (blkV (cvT l1)))) (xw o2))) (pp (pp (xr l1) (xw o1)) (pp (pp (xr l0) (xw o0)) (tt k3 (tt k2 (tt k1 (pp (pp (xr l1) (xw o1_0)) (tt k0 (pp (pp (xr l0) (xw o0_0)) nn))))))))))))))))))))))))))))
theorem ocv_ends (l0 : List R6) (l1 : List R6) (x2 : Int) (n : Nat) (vs : List AVal) (h : goOn (ocvstep l0 l1 x2) n (ocvstart l0 l1 x2) = .ret vs) : Ends Tryz.prog (resultsOf Tryz.prog 11) (startC Tryz.prog 11 [(.dat l0.length (rowsT l0)), (.dat l1.length (rowsT l1)), (.int .i64 x2)] true []) vs := by
  have := goOn_lead (ocvstep_ok l0 l1 x2) n _ (ocvstart_ok l0 l1 x2)
  rwa [h] at this
inductive grtS where
noncomputable def grtC (l0 : List R6) : grtS → Cfg
  := nofun
noncomputable def grtstep (l0 : List R6) : grtS → Out' grtS
  := nofun
noncomputable def grtstart (l0 : List R6) : Out' grtS := (bif (decide (((l0.length : Nat) : Int) > 8)) then (bif (decide (((l0.length : Nat) : Int) ≤ 400)) then (.ret [(.bool true)]) else (.ret [(.bool (decide (((l0.length : Nat) : Int) > 420)))])) else (.ret [(.bool (decide (((l0.length : Nat) : Int) > 420)))]))
theorem grtstep_ok (l0 : List R6) : ∀ s, Lead Tryz.prog (resultsOf Tryz.prog 8) (grtC l0) (grtC l0 s) (grtstep l0 s)
  := nofun
theorem grtstart_ok (l0 : List R6) : Lead Tryz.prog (resultsOf Tryz.prog 8) (grtC l0) (startC Tryz.prog 8 [(.dat l0.length (rowsT l0))] true []) (grtstart l0) := (lead_bif (fun k0 => (lead_bif (fun k1 => (lr 16 3 [1, 1, 1, 1, 1, 1, 0] 1 8 [(2, (.bool true))] (sl Td_ok 21 [] ⟨[], [], [some [2]], []⟩ ⟨[], [], []⟩ (trs 6 []) (tt k1 (tt k0 nn))))) (fun k1 => (lr 16 3 [1, 1, 1, 1, 1, 1, 0] 1 8 [(2, (.bool (decide (((l0.length : Nat) : Int) > 420))))] (sl Td_ok 21 [] ⟨[], [], [some [2]], []⟩ ⟨[], [], []⟩ (trs 3 [false, false, false]) (tt k1 (tt k0 nn))))))) (fun k0 => (lr 16 3 [1, 1, 1, 1, 1, 1, 0] 1 8 [(2, (.bool (decide (((l0.length : Nat) : Int) > 420))))] (sl Td_ok 21 [] ⟨[], [], [some [2]], []⟩ ⟨[], [], []⟩ [false, false, false, false, false, false] (tt k0 nn)))))
theorem grt_ends (l0 : List R6) (n : Nat) (vs : List AVal) (h : goOn (grtstep l0) n (grtstart l0) = .ret vs) : Ends Tryz.prog (resultsOf Tryz.prog 8) (startC Tryz.prog 8 [(.dat l0.length (rowsT l0))] true []) vs := by
  have := goOn_lead (grtstep_ok l0) n _ (grtstart_ok l0)
  rwa [h] at this
end Go.Am
end
section
namespace Go.Am
open Go.Proofs
set_option maxRecDepth 100000
set_option maxHeartbeats 4000000
set_option linter.unusedVariables false
set_option linter.unusedSimpArgs false
noncomputable def ocoV_0 (X Y : List R6) : Int := bif sckV_0 X != 0 then 0 else bif sckV_0 Y != 0 then 0 else conV X Y
noncomputable def ocoV_1 (X Y : List R6) : Int := bif sckV_0 X != 0 then sckV_0 X else bif sckV_0 Y != 0 then sckV_0 Y else 0
def ocoV_owed (X Y : List R6) : Bool := decide (X.length ≤ 100 ∨ 400 < X.length) && decide (Y.length ≤ 100 ∨ 400 < Y.length)
theorem sck_great {X : List R6} (h : 400 < X.length) : (sckV_0 X != 0) = true := by
  unfold sckV_0; rw [decide_eq_true h]; rfl
theorem sck_small {X : List R6} (h : decide (X.length ≤ 100 ∨ 400 < X.length) = true) (h0 : (sckV_0 X != 0) = false) : X.length ≤ 100 := by
  rcases of_decide_eq_true h with h | h
  · exact h
  · rw [sck_great h] at h0; cases h0
theorem oco_run (X Y : List R6) (h : ocoV_owed X Y = true) : ∃ N, goOn (ocostep X Y) N (ocostart X Y) = .ret [.int .i64 (ocoV_0 X Y), .int .i64 (ocoV_1 X Y)] := by
  unfold ocoV_owed at h
  simp only [Bool.and_eq_true] at h
  refine ⟨0, ?_⟩
  unfold ocostart ocoV_0 ocoV_1
  have o : ∀ l, sckV_0_owed l = true := fun _ => rfl
  simp only [cvT_eq, o, cond_true, blkV]
  rcases boolc (sckV_0 X != 0) with q1 | q1
  · simp only [q1, cond_true]; rfl
  · rcases boolc (sckV_0 Y != 0) with q2 | q2
    · simp only [q1, q2, cond_true, cond_false]; rfl
    · have s1 := sck_small h.1 q1
      have s2 := sck_small h.2 q2
      have b1 : blkV_owed X = true := decide_eq_true (by omega)
      have b2 : blkV_owed Y = true := decide_eq_true (by omega)
      have hk : conV_owed X Y = true := decide_eq_true (by omega)
      simp only [q1, q2, b1, b2, hk, cond_true, cond_false]; rfl
noncomputable def oreV_0 (X Y : List R6) : Int := bif sckV_0 X != 0 then 0 else bif sckV_0 Y != 0 then 0 else orlV X Y
noncomputable def oreV_1 (X Y : List R6) : Int := ocoV_1 X Y
def oreV_owed (X Y : List R6) : Bool := ocoV_owed X Y
theorem ore_run (X Y : List R6) (h : oreV_owed X Y = true) : ∃ N, goOn (orestep X Y) N (orestart X Y) = .ret [.int .u8 (oreV_0 X Y), .int .i64 (oreV_1 X Y)] := by
  unfold oreV_owed ocoV_owed at h
  simp only [Bool.and_eq_true] at h
  refine ⟨0, ?_⟩
  unfold orestart oreV_0 oreV_1 ocoV_1
  have o : ∀ l, sckV_0_owed l = true := fun _ => rfl
  simp only [cvT_eq, o, cond_true]
  rcases boolc (sckV_0 X != 0) with q1 | q1
  · simp only [q1, cond_true]; rfl
  · rcases boolc (sckV_0 Y != 0) with q2 | q2
    · simp only [q1, q2, cond_true, cond_false]; rfl
    · have s1 := sck_small h.1 q1
      have s2 := sck_small h.2 q2
      have hk : orlV_owed X Y = true := decide_eq_true (by omega)
      simp only [q1, q2, hk, cond_true, cond_false]; rfl
noncomputable def osiV_0 (X : List R6) (d : Int) : Int := bif sckV_0 X != 0 then 0 else bif decide (d < 0) then 0 else bif decide (d > 5) then 0 else IntKind.wrap .i64 (volV X - prV X X d)
noncomputable def osiV_1 (X : List R6) (d : Int) : Int := bif sckV_0 X != 0 then sckV_0 X else bif decide (d < 0) then 2 else bif decide (d > 5) then 2 else 0
def osiV_owed (X : List R6) (d : Int) : Bool := decide (X.length ≤ 100 ∨ 400 < X.length)
theorem osi_run (X : List R6) (d : Int) (h : osiV_owed X d = true) : ∃ N, goOn (osistep X d) N (osistart X d) = .ret [.int .i64 (osiV_0 X d), .int .i64 (osiV_1 X d)] := by
  refine ⟨0, ?_⟩
  unfold osistart osiV_0 osiV_1
  have o : ∀ l, sckV_0_owed l = true := fun _ => rfl
  simp only [cvT_eq, o, cond_true, blkV]
  rcases boolc (sckV_0 X != 0) with q1 | q1
  · simp only [q1, cond_true]; rfl
  · have s1 := sck_small h q1
    have b1 : blkV_owed X = true := decide_eq_true (by omega)
    have v1 : volV_owed X = true := decide_eq_true (by omega)
    rcases boolc (decide (d < 0)) with q2 | q2
    · simp only [q1, q2, cond_true, cond_false]; rfl
    · rcases boolc (decide (d > 5)) with q3 | q3
      · simp only [q1, q2, q3, cond_true, cond_false]; rfl
      · have := of_decide_eq_false q2
        have := of_decide_eq_false q3
        have p1 : prV_owed X X d = true := decide_eq_true (by omega)
        simp only [q1, q2, q3, b1, v1, p1, cond_true, cond_false]; rfl
noncomputable def ocvV_0 (X Y : List R6) (d : Int) : Int := bif sckV_0 X != 0 then 0 else bif sckV_0 Y != 0 then 0 else bif decide (d < 0) then 0 else bif decide (d > 5) then 0 else IntKind.wrap .i64 (prV X Y d - prV X (comV X Y) d)
noncomputable def ocvV_1 (X Y : List R6) (d : Int) : Int := bif sckV_0 X != 0 then sckV_0 X else bif sckV_0 Y != 0 then sckV_0 Y else bif decide (d < 0) then 2 else bif decide (d > 5) then 2 else 0
def ocvV_owed (X Y : List R6) (d : Int) : Bool := ocoV_owed X Y
theorem ocv_run (X Y : List R6) (d : Int) (h : ocvV_owed X Y d = true) : ∃ N, goOn (ocvstep X Y d) N (ocvstart X Y d) = .ret [.int .i64 (ocvV_0 X Y d), .int .i64 (ocvV_1 X Y d)] := by
  unfold ocvV_owed ocoV_owed at h
  simp only [Bool.and_eq_true] at h
  refine ⟨0, ?_⟩
  unfold ocvstart ocvV_0 ocvV_1
  have o : ∀ l, sckV_0_owed l = true := fun _ => rfl
  simp only [cvT_eq, o, cond_true, blkV]
  rcases boolc (sckV_0 X != 0) with q1 | q1
  · simp only [q1, cond_true]; rfl
  · rcases boolc (sckV_0 Y != 0) with q4 | q4
    · simp only [q1, q4, cond_true, cond_false]; rfl
    · have s1 := sck_small h.1 q1
      have s2 := sck_small h.2 q4
      have hl := com_length X Y
      have hm : X.length * Y.length ≤ 100 * 100 := Nat.mul_le_mul s1 s2
      have b1 : blkV_owed X = true := decide_eq_true (by omega)
      have b2 : blkV_owed Y = true := decide_eq_true (by omega)
      have c1 : comV_owed X Y = true := decide_eq_true (by omega)
      rcases boolc (decide (d < 0)) with q2 | q2
      · simp only [q1, q2, q4, cond_true, cond_false]; rfl
      · rcases boolc (decide (d > 5)) with q3 | q3
        · simp only [q1, q2, q3, q4, cond_true, cond_false]; rfl
        · have := of_decide_eq_false q2
          have := of_decide_eq_false q3
          have p1 : prV_owed X Y d = true := decide_eq_true (by omega)
          have p2 : prV_owed X (comV X Y) d = true := decide_eq_true (by omega)
          simp only [q1, q2, q3, q4, b1, b2, c1, p1, p2, cond_true, cond_false]; rfl
def grtV (X : List R6) : Bool := decide (8 < X.length ∧ X.length ≤ 400 ∨ 420 < X.length)
def grtV_owed (X : List R6) : Bool := true
theorem grt_run (X : List R6) (h : grtV_owed X = true) : ∃ N, goOn (grtstep X) N (grtstart X) = .ret [.bool (grtV X)] := by
  refine ⟨0, ?_⟩
  unfold grtstart grtV
  by_cases h1 : ((X.length : Nat) : Int) > 8
  · by_cases h2 : ((X.length : Nat) : Int) ≤ 400
    · rw [decide_eq_true h1, decide_eq_true h2, decide_eq_true (show 8 < X.length ∧ X.length ≤ 400 ∨ 420 < X.length by omega)]; rfl
    · rw [decide_eq_true h1, decide_eq_false h2]
      by_cases h3 : ((X.length : Nat) : Int) > 420
      · rw [decide_eq_true h3, decide_eq_true (show 8 < X.length ∧ X.length ≤ 400 ∨ 420 < X.length by omega)]; rfl
      · rw [decide_eq_false h3, decide_eq_false (show ¬ (8 < X.length ∧ X.length ≤ 400 ∨ 420 < X.length) by omega)]; rfl
  · rw [decide_eq_false h1, decide_eq_false (show ¬ ((X.length : Nat) : Int) > 420 by omega), decide_eq_false (show ¬ (8 < X.length ∧ X.length ≤ 400 ∨ 420 < X.length) by omega)]; rfl
noncomputable def fOco : List AVal → Option (AVal × Bool)
  | [a0, a1] => match asL R6 a0, asL R6 a1 with
    | some (L0, g0, n0), some (L1, g1, n1) => some (.tup [.int .i64 (ocoV_0 L0 L1), .int .i64 (ocoV_1 L0 L1)], isT R6 n0 g0 && (isT R6 n1 g1 && (ocoV_owed L0 L1)))
    | _, _ => none
  | _ => none
theorem fOco_ok {S : Specs} (hS : SpecsOk Tryz.prog S) : SpecsOk Tryz.prog (S.with nOCont fOco) := by
  refine fOne hS (by kernel_rfl) fun args v h => ?_
  unfold fOco at h
  split at h
  · rename_i a0 a1
    split at h
    · rename_i L0 g0 n0 L1 g1 n1 e0 e1
      simp only [Option.some.injEq, Prod.mk.injEq, Bool.and_eq_true] at h
      obtain ⟨rfl, ho0, ho1, hw⟩ := h
      obtain ⟨N, hN⟩ := oco_run L0 L1 hw
      exact ⟨_, _, (.cons (asL_le e0 ho0) (.cons (asL_le e1 ho1) .nil)), rfl, oco_ends L0 L1 N _ hN, 3, rfl⟩
    · cases h
  · cases h
noncomputable def fOre : List AVal → Option (AVal × Bool)
  | [a0, a1] => match asL R6 a0, asL R6 a1 with
    | some (L0, g0, n0), some (L1, g1, n1) => some (.tup [.int .u8 (oreV_0 L0 L1), .int .i64 (oreV_1 L0 L1)], isT R6 n0 g0 && (isT R6 n1 g1 && (oreV_owed L0 L1)))
    | _, _ => none
  | _ => none
theorem fOre_ok {S : Specs} (hS : SpecsOk Tryz.prog S) : SpecsOk Tryz.prog (S.with nORel fOre) := by
  refine fOne hS (by kernel_rfl) fun args v h => ?_
  unfold fOre at h
  split at h
  · rename_i a0 a1
    split at h
    · rename_i L0 g0 n0 L1 g1 n1 e0 e1
      simp only [Option.some.injEq, Prod.mk.injEq, Bool.and_eq_true] at h
      obtain ⟨rfl, ho0, ho1, hw⟩ := h
      obtain ⟨N, hN⟩ := ore_run L0 L1 hw
      exact ⟨_, _, (.cons (asL_le e0 ho0) (.cons (asL_le e1 ho1) .nil)), rfl, ore_ends L0 L1 N _ hN, 3, rfl⟩
    · cases h
  · cases h
noncomputable def fOsi : List AVal → Option (AVal × Bool)
  | [a0, .int .i64 x1] => match asL R6 a0 with
    | some (L0, g0, n0) => some (.tup [.int .i64 (osiV_0 L0 x1), .int .i64 (osiV_1 L0 x1)], isT R6 n0 g0 && (osiV_owed L0 x1))
    | _ => none
  | _ => none
theorem fOsi_ok {S : Specs} (hS : SpecsOk Tryz.prog S) : SpecsOk Tryz.prog (S.with nOSide fOsi) := by
  refine fOne hS (by kernel_rfl) fun args v h => ?_
  unfold fOsi at h
  split at h
  · rename_i a0 x1
    split at h
    · rename_i L0 g0 n0 e0
      simp only [Option.some.injEq, Prod.mk.injEq, Bool.and_eq_true] at h
      obtain ⟨rfl, ho0, hw⟩ := h
      obtain ⟨N, hN⟩ := osi_run L0 x1 hw
      exact ⟨_, _, (.cons (asL_le e0 ho0) (.cons (.refl _) .nil)), rfl, osi_ends L0 x1 N _ hN, 3, rfl⟩
    · cases h
  · cases h
noncomputable def fOcv : List AVal → Option (AVal × Bool)
  | [a0, a1, .int .i64 x2] => match asL R6 a0, asL R6 a1 with
    | some (L0, g0, n0), some (L1, g1, n1) => some (.tup [.int .i64 (ocvV_0 L0 L1 x2), .int .i64 (ocvV_1 L0 L1 x2)], isT R6 n0 g0 && (isT R6 n1 g1 && (ocvV_owed L0 L1 x2)))
    | _, _ => none
  | _ => none
theorem fOcv_ok {S : Specs} (hS : SpecsOk Tryz.prog S) : SpecsOk Tryz.prog (S.with nOCov fOcv) := by
  refine fOne hS (by kernel_rfl) fun args v h => ?_
  unfold fOcv at h
  split at h
  · rename_i a0 a1 x2
    split at h
    · rename_i L0 g0 n0 L1 g1 n1 e0 e1
      simp only [Option.some.injEq, Prod.mk.injEq, Bool.and_eq_true] at h
      obtain ⟨rfl, ho0, ho1, hw⟩ := h
      obtain ⟨N, hN⟩ := ocv_run L0 L1 x2 hw
      exact ⟨_, _, (.cons (asL_le e0 ho0) (.cons (asL_le e1 ho1) (.cons (.refl _) .nil))), rfl, ocv_ends L0 L1 x2 N _ hN, 3, rfl⟩
    · cases h
  · cases h
noncomputable def fGrt : List AVal → Option (AVal × Bool)
  | [a0] => match asL R6 a0 with
    | some (L0, g0, n0) => some (.bool (grtV L0), isT R6 n0 g0 && (grtV_owed L0))
    | _ => none
  | _ => none
theorem fGrt_ok {S : Specs} (hS : SpecsOk Tryz.prog S) : SpecsOk Tryz.prog (S.with nGreat28 fGrt) := by
  refine fOne hS (by kernel_rfl) fun args v h => ?_
  unfold fGrt at h
  split at h
  · rename_i a0
    split at h
    · rename_i L0 g0 n0 e0
      simp only [Option.some.injEq, Prod.mk.injEq, Bool.and_eq_true] at h
      obtain ⟨rfl, ho0, hw⟩ := h
      obtain ⟨N, hN⟩ := grt_run L0 hw
      exact ⟨_, _, (.cons (asL_le e0 ho0) .nil), rfl, grt_ends L0 N _ hN, 3, rfl⟩
    · cases h
  · cases h
noncomputable def Te : Specs := (((((Td.with nOCont fOco).with nORel fOre).with nOSide fOsi).with nOCov fOcv).with nGreat28 fGrt)
theorem Te_ok : SpecsOk Tryz.prog Te := (fGrt_ok (fOcv_ok (fOsi_ok (fOre_ok (fOco_ok Td_ok)))))
end Go.Am
end
section
namespace Go.Am
open Go.Proofs
set_option maxRecDepth 1000000
set_option linter.unusedVariables false
set_option linter.unusedSimpArgs false
set_option maxHeartbeats 4000000
inductive aliS where
noncomputable def aliC : aliS → Cfg
  := nofun
noncomputable def alistep : aliS → Out' aliS
  := nofun
noncomputable def alistart : Out' aliS := (bif (ocvV_owed (cvT ([(R6.mk 0 0 0 2 2 2)] : List R6)) (cvT ([(R6.mk 2 0 0 3 1 4)] : List R6)) 0) then (bif (osiV_owed (cvT ([(R6.mk 0 0 0 2 2 2)] : List R6)) 0) then (bif ((osiV_1 (cvT ([(R6.mk 0 0 0 2 2 2)] : List R6)) 0) != 0) then (.ret [(.bool false)]) else (bif ((osiV_0 (cvT ([(R6.mk 0 0 0 2 2 2)] : List R6)) 0) != 4) then (.ret [(.bool false)]) else (bif (osiV_owed (cvT ([(R6.mk 0 0 0 2 2 2)] : List R6)) 1) then (bif ((osiV_1 (cvT ([(R6.mk 0 0 0 2 2 2)] : List R6)) 1) != 0) then (.ret [(.bool false)]) else (bif ((osiV_0 (cvT ([(R6.mk 0 0 0 2 2 2)] : List R6)) 1) != 4) then (.ret [(.bool false)]) else (bif (osiV_owed (cvT ([(R6.mk 0 0 0 2 2 2)] : List R6)) 2) then (bif ((osiV_1 (cvT ([(R6.mk 0 0 0 2 2 2)] : List R6)) 2) != 0) then (.ret [(.bool false)]) else (bif ((osiV_0 (cvT ([(R6.mk 0 0 0 2 2 2)] : List R6)) 2) != 4) then (.ret [(.bool false)]) else (bif (osiV_owed (cvT ([(R6.mk 0 0 0 2 2 2)] : List R6)) 3) then (bif ((osiV_1 (cvT ([(R6.mk 0 0 0 2 2 2)] : List R6)) 3) != 0) then (.ret [(.bool false)]) else (bif ((osiV_0 (cvT ([(R6.mk 0 0 0 2 2 2)] : List R6)) 3) != 4) then (.ret [(.bool false)]) else (bif (osiV_owed (cvT ([(R6.mk 0 0 0 2 2 2)] : List R6)) 4) then (bif ((osiV_1 (cvT ([(R6.mk 0 0 0 2 2 2)] : List R6)) 4) != 0) then (.ret [(.bool false)]) else (bif ((osiV_0 (cvT ([(R6.mk 0 0 0 2 2 2)] : List R6)) 4) != 4) then (.ret [(.bool false)]) else (bif (osiV_owed (cvT ([(R6.mk 0 0 0 2 2 2)] : List R6)) 5) then (bif ((osiV_1 (cvT ([(R6.mk 0 0 0 2 2 2)] : List R6)) 5) != 0) then (.ret [(.bool false)]) else (bif ((osiV_0 (cvT ([(R6.mk 0 0 0 2 2 2)] : List R6)) 5) != 4) then (.ret [(.bool false)]) else (bif ((ocvV_1 (cvT ([(R6.mk 0 0 0 2 2 2)] : List R6)) (cvT ([(R6.mk 2 0 0 3 1 4)] : List R6)) 0) == 0) then (bif ((ocvV_0 (cvT ([(R6.mk 0 0 0 2 2 2)] : List R6)) (cvT ([(R6.mk 2 0 0 3 1 4)] : List R6)) 0) == 2) then (bif (oreV_owed (cvT ([(R6.mk 0 0 0 2 2 2)] : List R6)) (cvT ([(R6.mk 2 0 0 3 1 4)] : List R6))) then (bif (ocoV_owed (cvT ([(R6.mk 0 0 0 2 2 2)] : List R6)) (cvT ([(R6.mk 2 0 0 3 1 4)] : List R6))) then (bif ((oreV_1 (cvT ([(R6.mk 0 0 0 2 2 2)] : List R6)) (cvT ([(R6.mk 2 0 0 3 1 4)] : List R6))) == 0) then (bif ((oreV_0 (cvT ([(R6.mk 0 0 0 2 2 2)] : List R6)) (cvT ([(R6.mk 2 0 0 3 1 4)] : List R6))) == 2) then (bif ((ocoV_1 (cvT ([(R6.mk 0 0 0 2 2 2)] : List R6)) (cvT ([(R6.mk 2 0 0 3 1 4)] : List R6))) == 0) then (bif ((ocoV_0 (cvT ([(R6.mk 0 0 0 2 2 2)] : List R6)) (cvT ([(R6.mk 2 0 0 3 1 4)] : List R6))) == 2) then (bif (oreV_owed (cvT ([(R6.mk 0 0 0 1 1 1)] : List R6)) (cvT ([(R6.mk 0 0 0 2 2 2)] : List R6))) then (bif (ocoV_owed (cvT ([(R6.mk 0 0 0 1 1 1)] : List R6)) (cvT ([(R6.mk 0 0 0 2 2 2)] : List R6))) then (bif ((oreV_1 (cvT ([(R6.mk 0 0 0 1 1 1)] : List R6)) (cvT ([(R6.mk 0 0 0 2 2 2)] : List R6))) == 0) then (bif ((oreV_0 (cvT ([(R6.mk 0 0 0 1 1 1)] : List R6)) (cvT ([(R6.mk 0 0 0 2 2 2)] : List R6))) == 4) then (bif ((ocoV_1 (cvT ([(R6.mk 0 0 0 1 1 1)] : List R6)) (cvT ([(R6.mk 0 0 0 2 2 2)] : List R6))) == 0) then (bif ((ocoV_0 (cvT ([(R6.mk 0 0 0 1 1 1)] : List R6)) (cvT ([(R6.mk 0 0 0 2 2 2)] : List R6))) == 0) then (bif (oreV_owed (cvT ([(R6.mk 0 0 0 2 2 2)] : List R6)) (cvT ([(R6.mk 1 1 1 3 3 3)] : List R6))) then (bif (ocoV_owed (cvT ([(R6.mk 0 0 0 2 2 2)] : List R6)) (cvT ([(R6.mk 1 1 1 3 3 3)] : List R6))) then (bif ((oreV_1 (cvT ([(R6.mk 0 0 0 2 2 2)] : List R6)) (cvT ([(R6.mk 1 1 1 3 3 3)] : List R6))) == 0) then (bif ((oreV_0 (cvT ([(R6.mk 0 0 0 2 2 2)] : List R6)) (cvT ([(R6.mk 1 1 1 3 3 3)] : List R6))) == 3) then (bif ((ocoV_1 (cvT ([(R6.mk 0 0 0 2 2 2)] : List R6)) (cvT ([(R6.mk 1 1 1 3 3 3)] : List R6))) == 0) then (.ret [(.bool ((ocoV_0 (cvT ([(R6.mk 0 0 0 2 2 2)] : List R6)) (cvT ([(R6.mk 1 1 1 3 3 3)] : List R6))) == 0))]) else (.ret [(.bool false)])) else (.ret [(.bool false)])) else (.ret [(.bool false)])) else .stuck) else .stuck) else (.ret [(.bool false)])) else (.ret [(.bool false)])) else (.ret [(.bool false)])) else (.ret [(.bool false)])) else .stuck) else .stuck) else (.ret [(.bool false)])) else (.ret [(.bool false)])) else (.ret [(.bool false)])) else (.ret [(.bool false)])) else .stuck) else .stuck) else (.ret [(.bool false)])) else (.ret [(.bool false)])))) else .stuck))) else .stuck))) else .stuck))) else .stuck))) else .stuck))) else .stuck) else .stuck)
theorem alistep_ok : ∀ s, Lead Tryz.prog (resultsOf Tryz.prog 20) (aliC) (aliC s) (alistep s)
  := nofun
theorem alistart_ok : Lead Tryz.prog (resultsOf Tryz.prog 20) (aliC) (startC Tryz.prog 20 [] true []) (alistart) := (lead_goes (sl Te_ok (C' := ⟨⟨51, 0, true⟩, (regP Tryz.prog 20 [1, 1, 0] 2), (todoP Tryz.prog 20 [1, 1, 0] 1), none, (resultsOf Tryz.prog 20), ⟨envL [(1, (.dat ([(R6.mk 0 0 0 2 2 2)] : List R6).length (rowsT ([(R6.mk 0 0 0 2 2 2)] : List R6)))), (9, (.dat ([(R6.mk 0 0 0 2 2 2)] : List R6).length (rowsT ([(R6.mk 0 0 0 2 2 2)] : List R6)))), (10, (.dat ([(R6.mk 2 0 0 3 1 4)] : List R6).length (rowsT ([(R6.mk 2 0 0 3 1 4)] : List R6))))], memL [] 0, 0, [], true⟩, [], .leaf⟩) 51 [] ⟨[], [0, 1], [some [1, 9, 10]], []⟩ ⟨[(1, .frz 1 ([(R6.mk 0 0 0 2 2 2)] : List R6).length (chunk [(.int .i64 0), (.int .i64 0), (.int .i64 0), (.int .i64 2), (.int .i64 2), (.int .i64 2)] 0 6) (rowsT ([(R6.mk 0 0 0 2 2 2)] : List R6))), (9, .frz 1 ([(R6.mk 0 0 0 2 2 2)] : List R6).length (chunk [(.int .i64 0), (.int .i64 0), (.int .i64 0), (.int .i64 2), (.int .i64 2), (.int .i64 2)] 0 6) (rowsT ([(R6.mk 0 0 0 2 2 2)] : List R6))), (10, .frz 1 ([(R6.mk 2 0 0 3 1 4)] : List R6).length (chunk [(.int .i64 2), (.int .i64 0), (.int .i64 0), (.int .i64 3), (.int .i64 1), (.int .i64 4)] 0 6) (rowsT ([(R6.mk 2 0 0 3 1 4)] : List R6)))], [], []⟩ [] (pp (xZ (.dat 1 (chunk [(.int .i64 0), (.int .i64 0), (.int .i64 0), (.int .i64 2), (.int .i64 2), (.int .i64 2)] 0 6)) 1 (chunk [(.int .i64 0), (.int .i64 0), (.int .i64 0), (.int .i64 2), (.int .i64 2), (.int .i64 2)] 0 6)) (pp (xL 1 ([(R6.mk 0 0 0 2 2 2)] : List R6).length) (pp (xS 1 (chunk [(.int .i64 0), (.int .i64 0), (.int .i64 0), (.int .i64 2), (.int .i64 2), (.int .i64 2)] 0 6) (rowsT ([(R6.mk 0 0 0 2 2 2)] : List R6))) (pp (xZ (.dat 1 (chunk [(.int .i64 0), (.int .i64 0), (.int .i64 0), (.int .i64 2), (.int .i64 2), (.int .i64 2)] 0 6)) 1 (chunk [(.int .i64 0), (.int .i64 0), (.int .i64 0), (.int .i64 2), (.int .i64 2), (.int .i64 2)] 0 6)) (pp (xL 1 ([(R6.mk 0 0 0 2 2 2)] : List R6).length) (pp (xS 1 (chunk [(.int .i64 0), (.int .i64 0), (.int .i64 0), (.int .i64 2), (.int .i64 2), (.int .i64 2)] 0 6) (rowsT ([(R6.mk 0 0 0 2 2 2)] : List R6))) (pp (xZ (.dat 1 (chunk [(.int .i64 2), (.int .i64 0), (.int .i64 0), (.int .i64 3), (.int .i64 1), (.int .i64 4)] 0 6)) 1 (chunk [(.int .i64 2), (.int .i64 0), (.int .i64 0), (.int .i64 3), (.int .i64 1), (.int .i64 4)] 0 6)) (pp (xL 1 ([(R6.mk 2 0 0 3 1 4)] : List R6).length) (pp (xS 1 (chunk [(.int .i64 2), (.int .i64 0), (.int .i64 0), (.int .i64 3), (.int .i64 1), (.int .i64 4)] 0 6) (rowsT ([(R6.mk 2 0 0 3 1 4)] : List R6))) nn)))))))))) (lead_owe fun o0_0 => (lead_owe fun o0_1 => (lead_bif (fun k0 => (lr 51 20 [1, 1, 1, 0, 1, 0, 0, 1, 0, 0, 1, 1, 0, 0] 1 20 [(0, (.bool false))] (sl Te_ok 49 [] ⟨[], [], [some [0]], []⟩ ⟨[], [], []⟩ (trs 4 []) (tt k0 (pp (pp (xI R6 ([(R6.mk 0 0 0 2 2 2)] : List R6).length (rowsT ([(R6.mk 0 0 0 2 2 2)] : List R6))) (xw o0_1)) (pp (pp (xI R6 ([(R6.mk 0 0 0 2 2 2)] : List R6).length (rowsT ([(R6.mk 0 0 0 2 2 2)] : List R6))) (pp (xI R6 ([(R6.mk 2 0 0 3 1 4)] : List R6).length (rowsT ([(R6.mk 2 0 0 3 1 4)] : List R6))) (xw o0_0))) nn)))))) (fun k0 => (lead_bif (fun k1 => (lr 51 20 [1, 1, 1, 0, 1, 0, 0, 1, 0, 0, 1, 1, 0, 0] 1 20 [(0, (.bool false))] (sl Te_ok 49 [] ⟨[], [], [some [0]], []⟩ ⟨[], [], []⟩ [true, false, false, true] (tt k1 (tt k0 (pp (pp (xI R6 ([(R6.mk 0 0 0 2 2 2)] : List R6).length (rowsT ([(R6.mk 0 0 0 2 2 2)] : List R6))) (xw o0_1)) (pp (pp (xI R6 ([(R6.mk 0 0 0 2 2 2)] : List R6).length (rowsT ([(R6.mk 0 0 0 2 2 2)] : List R6))) (pp (xI R6 ([(R6.mk 2 0 0 3 1 4)] : List R6).length (rowsT ([(R6.mk 2 0 0 3 1 4)] : List R6))) (xw o0_0))) nn))))))) (fun k1 => (lead_owe fun o2_0 => (lead_bif (fun k2 => (lr 51 20 [1, 1, 1, 0, 1, 0, 0, 1, 0, 0, 1, 1, 0, 0] 1 20 [(0, (.bool false))] (sl Te_ok 88 [] ⟨[], [], [some [0]], []⟩ ⟨[], [], []⟩ [true, false, false, false, true, true, true, true] (tt k2 (pp (pp (xI R6 ([(R6.mk 0 0 0 2 2 2)] : List R6).length (rowsT ([(R6.mk 0 0 0 2 2 2)] : List R6))) (xw o2_0)) (tt k1 (tt k0 (pp (pp (xI R6 ([(R6.mk 0 0 0 2 2 2)] : List R6).length (rowsT ([(R6.mk 0 0 0 2 2 2)] : List R6))) (xw o0_1)) (pp (pp (xI R6 ([(R6.mk 0 0 0 2 2 2)] : List R6).length (rowsT ([(R6.mk 0 0 0 2 2 2)] : List R6))) (pp (xI R6 ([(R6.mk 2 0 0 3 1 4)] : List R6).length (rowsT ([(R6.mk 2 0 0 3 1 4)] : List R6))) (xw o0_0))) nn))))))))) (fun k2 => (lead_bif (fun k3 => (lr 51 20 [1, 1, 1, 0, 1, 0, 0, 1, 0, 0, 1, 1, 0, 0] 1 20 [(0, (.bool false))] (sl Te_ok 88 [] ⟨[], [], [some [0]], []⟩ ⟨[], [], []⟩ [true, false, false, false, true, false, false, true] (tt k3 (tt k2 (pp (pp (xI R6 ([(R6.mk 0 0 0 2 2 2)] : List R6).length (rowsT ([(R6.mk 0 0 0 2 2 2)] : List R6))) (xw o2_0)) (tt k1 (tt k0 (pp (pp (xI R6 ([(R6.mk 0 0 0 2 2 2)] : List R6).length (rowsT ([(R6.mk 0 0 0 2 2 2)] : List R6))) (xw o0_1)) (pp (pp (xI R6 ([(R6.mk 0 0 0 2 2 2)] : List R6).length (rowsT ([(R6.mk 0 0 0 2 2 2)] : List R6))) (pp (xI R6 ([(R6.mk 2 0 0 3 1 4)] : List R6).length (rowsT ([(R6.mk 2 0 0 3 1 4)] : List R6))) (xw o0_0))) nn)))))))))) (fun k3 => (lead_owe fun o4_0 => (lead_bif (fun k4 => (lr 51 20 [1, 1, 1, 0, 1, 0, 0, 1, 0, 0, 1, 1, 0, 0] 1 20 [(0, (.bool false))] (sl Te_ok 127 [] ⟨[], [], [some [0]], []⟩ ⟨[], [], []⟩ [true, false, false, false, true, false, false, false, true, true, true, true] (tt k4 (pp (pp (xI R6 ([(R6.mk 0 0 0 2 2 2)] : List R6).length (rowsT ([(R6.mk 0 0 0 2 2 2)] : List R6))) (xw o4_0)) (tt k3 (tt k2 (pp (pp (xI R6 ([(R6.mk 0 0 0 2 2 2)] : List R6).length (rowsT ([(R6.mk 0 0 0 2 2 2)] : List R6))) (xw o2_0)) (tt k1 (tt k0 (pp (pp (xI R6 ([(R6.mk 0 0 0 2 2 2)] : List R6).length (rowsT ([(R6.mk 0 0 0 2 2 2)] : List R6))) (xw o0_1)) (pp (pp (xI R6 ([(R6.mk 0 0 0 2 2 2)] : List R6).length (rowsT ([(R6.mk 0 0 0 2 2 2)] : List R6))) (pp (xI R6 ([(R6.mk 2 0 0 3 1 4)] : List R6).length (rowsT ([(R6.mk 2 0 0 3 1 4)] : List R6))) (xw o0_0))) nn)))))))))))) (fun k4 => (lead_bif (fun k5 => (lr 51 20 [1, 1, 1, 0, 1, 0, 0, 1, 0, 0, 1, 1, 0, 0] 1 20 [(0, (.bool false))] (sl Te_ok 127 [] ⟨[], [], [some [0]], []⟩ ⟨[], [], []⟩ [true, false, false, false, true, false, false, false, true, false, false, true] (tt k5 (tt k4 (pp (pp (xI R6 ([(R6.mk 0 0 0 2 2 2)] : List R6).length (rowsT ([(R6.mk 0 0 0 2 2 2)] : List R6))) (xw o4_0)) (tt k3 (tt k2 (pp (pp (xI R6 ([(R6.mk 0 0 0 2 2 2)] : List R6).length (rowsT ([(R6.mk 0 0 0 2 2 2)] : List R6))) (xw o2_0)) (tt k1 (tt k0 (pp (pp (xI R6 ([(R6.mk 0 0 0 2 2 2)] : List R6).length (rowsT ([(R6.mk 0 0 0 2 2 2)] : List R6))) (xw o0_1)) (pp (pp (xI R6 ([(R6.mk 0 0 0 2 2 2)] : List R6).length (rowsT ([(R6.mk 0 0 0 2 2 2)] : List R6))) (pp (xI R6 ([(R6.mk 2 0 0 3 1 4)] : List R6).length (rowsT ([(R6.mk 2 0 0 3 1 4)] : List R6))) (xw o0_0))) nn))))))))))))) (fun k5 => (lead_owe fun o6_0 => (lead_bif (fun k6 => (lr 51 20 [1, 1, 1, 0, 1, 0, 0, 1, 0, 0, 1, 1, 0, 0] 1 20 [(0, (.bool false))] (sl Te_ok 166 [] ⟨[], [], [some [0]], []⟩ ⟨[], [], []⟩ [true, false, false, false, true, false, false, false, true, false, false, false, true, true, true, true] (tt k6 (pp (pp (xI R6 ([(R6.mk 0 0 0 2 2 2)] : List R6).length (rowsT ([(R6.mk 0 0 0 2 2 2)] : List R6))) (xw o6_0)) (tt k5 (tt k4 (pp (pp (xI R6 ([(R6.mk 0 0 0 2 2 2)] : List R6).length (rowsT ([(R6.mk 0 0 0 2 2 2)] : List R6))) (xw o4_0)) (tt k3 (tt k2 (pp (pp (xI R6 ([(R6.mk 0 0 0 2 2 2)] : List R6).length (rowsT ([(R6.mk 0 0 0 2 2 2)] : List R6))) (xw o2_0)) (tt k1 (tt k0 (pp (pp (xI R6 ([(R6.mk 0 0 0 2 2 2)] : List R6).length (rowsT ([(R6.mk 0 0 0 2 2 2)] : List R6))) (xw o0_1)) (pp (pp (xI R6 ([(R6.mk 0 0 0 2 2 2)] : List R6).length (rowsT ([(R6.mk 0 0 0 2 2 2)] : List R6))) (pp (xI R6 ([(R6.mk 2 0 0 3 1 4)] : List R6).length (rowsT ([(R6.mk 2 0 0 3 1 4)] : List R6))) (xw o0_0))) nn))))))))))))))) (fun k6 => (lead_bif (fun k7 => (lr 51 20 [1, 1, 1, 0, 1, 0, 0, 1, 0, 0, 1, 1, 0, 0] 1 20 [(0, (.bool false))] (sl Te_ok 166 [] ⟨[], [], [some [0]], []⟩ ⟨[], [], []⟩ [true, false, false, false, true, false, false, false, true, false, false, false, true, false, false, true] (tt k7 (tt k6 (pp (pp (xI R6 ([(R6.mk 0 0 0 2 2 2)] : List R6).length (rowsT ([(R6.mk 0 0 0 2 2 2)] : List R6))) (xw o6_0)) (tt k5 (tt k4 (pp (pp (xI R6 ([(R6.mk 0 0 0 2 2 2)] : List R6).length (rowsT ([(R6.mk 0 0 0 2 2 2)] : List R6))) (xw o4_0)) (tt k3 (tt k2 (pp (pp (xI R6 ([(R6.mk 0 0 0 2 2 2)] : List R6).length (rowsT ([(R6.mk 0 0 0 2 2 2)] : List R6))) (xw o2_0)) (tt k1 (tt k0 (pp (pp (xI R6 ([(R6.mk 0 0 0 2 2 2)] : List R6).length (rowsT ([(R6.mk 0 0 0 2 2 2)] : List R6))) (xw o0_1)) (pp (pp (xI R6 ([(R6.mk 0 0 0 2 2 2)] : List R6).length (rowsT ([(R6.mk 0 0 0 2 2 2)] : List R6))) (pp (xI R6 ([(R6.mk 2 0 0 3 1 4)] : List R6).length (rowsT ([(R6.mk 2 0 0 3 1 4)] : List R6))) (xw o0_0))) nn)))))))))))))))) (fun k7 => (lead_owe fun o8_0 => (lead_bif (fun k8 => (lr 51 20 [1, 1, 1, 0, 1, 0, 0, 1, 0, 0, 1, 1, 0, 0] 1 20 [(0, (.bool false))] (sl Te_ok 205 [] ⟨[], [], [some [0]], []⟩ ⟨[], [], []⟩ [true, false, false, false, true, false, false, false, true, false, false, false, true, false, false, false, true, true, true, true] (tt k8 (pp (pp (xI R6 ([(R6.mk 0 0 0 2 2 2)] : List R6).length (rowsT ([(R6.mk 0 0 0 2 2 2)] : List R6))) (xw o8_0)) (tt k7 (tt k6 (pp (pp (xI R6 ([(R6.mk 0 0 0 2 2 2)] : List R6).length (rowsT ([(R6.mk 0 0 0 2 2 2)] : List R6))) (xw o6_0)) (tt k5 (tt k4 (pp (pp (xI R6 ([(R6.mk 0 0 0 2 2 2)] : List R6).length (rowsT ([(R6.mk 0 0 0 2 2 2)] : List R6))) (xw o4_0)) (tt k3 (tt k2 (pp (pp (xI R6 ([(R6.mk 0 0 0 2 2 2)] : List R6).length (rowsT ([(R6.mk 0 0 0 2 2 2)] : List R6))) (xw o2_0)) (tt k1 (tt k0 (pp (pp (xI R6 ([(R6.mk 0 0 0 2 2 2)] : List R6).length (rowsT ([(R6.mk 0 0 0 2 2 2)] : List R6))) (xw o0_1)) (pp (pp (xI R6 ([(R6.mk 0 0 0 2 2 2)] : List R6).length (rowsT ([(R6.mk 0 0 0 2 2 2)] : List R6))) (pp (xI R6 ([(R6.mk 2 0 0 3 1 4)] : List R6).length (rowsT ([(R6.mk 2 0 0 3 1 4)] : List R6))) (xw o0_0))) nn)))))))))))))))))) (fun k8 => (lead_bif (fun k9 => (lr 51 20 [1, 1, 1, 0, 1, 0, 0, 1, 0, 0, 1, 1, 0, 0] 1 20 [(0, (.bool false))] (sl Te_ok 205 [] ⟨[], [], [some [0]], []⟩ ⟨[], [], []⟩ [true, false, false, false, true, false, false, false, true, false, false, false, true, false, false, false, true, false, false, true] (tt k9 (tt k8 (pp (pp (xI R6 ([(R6.mk 0 0 0 2 2 2)] : List R6).length (rowsT ([(R6.mk 0 0 0 2 2 2)] : List R6))) (xw o8_0)) (tt k7 (tt k6 (pp (pp (xI R6 ([(R6.mk 0 0 0 2 2 2)] : List R6).length (rowsT ([(R6.mk 0 0 0 2 2 2)] : List R6))) (xw o6_0)) (tt k5 (tt k4 (pp (pp (xI R6 ([(R6.mk 0 0 0 2 2 2)] : List R6).length (rowsT ([(R6.mk 0 0 0 2 2 2)] : List R6))) (xw o4_0)) (tt k3 (tt k2 (pp (pp (xI R6 ([(R6.mk 0 0 0 2 2 2)] : List R6).length (rowsT ([(R6.mk 0 0 0 2 2 2)] : List R6))) (xw o2_0)) (tt k1 (tt k0 (pp (pp (xI R6 ([(R6.mk 0 0 0 2 2 2)] : List R6).length (rowsT ([(R6.mk 0 0 0 2 2 2)] : List R6))) (xw o0_1)) (pp (pp (xI R6 ([(R6.mk 0 0 0 2 2 2)] : List R6).length (rowsT ([(R6.mk 0 0 0 2 2 2)] : List R6))) (pp (xI R6 ([(R6.mk 2 0 0 3 1 4)] : List R6).length (rowsT ([(R6.mk 2 0 0 3 1 4)] : List R6))) (xw o0_0))) nn))))))))))))))))))) (fun k9 => (lead_owe fun o10_0 => (lead_bif (fun k10 => (lr 51 20 [1, 1, 1, 0, 1, 0, 0, 1, 0, 0, 1, 1, 0, 0] 1 20 [(0, (.bool false))] (sl Te_ok 244 [] ⟨[], [], [some [0]], []⟩ ⟨[], [], []⟩ [true, false, false, false, true, false, false, false, true, false, false, false, true, false, false, false, true, false, false, false, true, true, true, true] (tt k10 (pp (pp (xI R6 ([(R6.mk 0 0 0 2 2 2)] : List R6).length (rowsT ([(R6.mk 0 0 0 2 2 2)] : List R6))) (xw o10_0)) (tt k9 (tt k8 (pp (pp (xI R6 ([(R6.mk 0 0 0 2 2 2)] : List R6).length (rowsT ([(R6.mk 0 0 0 2 2 2)] : List R6))) (xw o8_0)) (tt k7 (tt k6 (pp (pp (xI R6 ([(R6.mk 0 0 0 2 2 2)] : List R6).length (rowsT ([(R6.mk 0 0 0 2 2 2)] : List R6))) (xw o6_0)) (tt k5 (tt k4 (pp (pp (xI R6 ([(R6.mk 0 0 0 2 2 2)] : List R6).length (rowsT ([(R6.mk 0 0 0 2 2 2)] : List R6))) (xw o4_0)) (tt k3 (tt k2 (pp (pp (xI R6 ([(R6.mk 0 0 0 2 2 2)] : List R6).length (rowsT ([(R6.mk 0 0 0 2 2 2)] : List R6))) (xw o2_0)) (tt k1 (tt k0 (pp (pp (xI R6 ([(R6.mk 0 0 0 2 2 2)] : List R6).length (rowsT ([(R6.mk 0 0 0 2 2 2)] : List R6))) (xw o0_1)) (pp (pp (xI R6 ([(R6.mk 0 0 0 2 2 2)] : List R6).length (rowsT ([(R6.mk 0 0 0 2 2 2)] : List R6))) (pp (xI R6 ([(R6.mk 2 0 0 3 1 4)] : List R6).length (rowsT ([(R6.mk 2 0 0 3 1 4)] : List R6))) (xw o0_0))) nn))))))))))))))))))))) (fun k10 => (lead_bif (fun k11 => (lr 51 20 [1, 1, 1, 0, 1, 0, 0, 1, 0, 0, 1, 1, 0, 0] 1 20 [(0, (.bool false))] (sl Te_ok 244 [] ⟨[], [], [some [0]], []⟩ ⟨[], [], []⟩ [true, false, false, false, true, false, false, false, true, false, false, false, true, false, false, false, true, false, false, false, true, false, false, true] (tt k11 (tt k10 (pp (pp (xI R6 ([(R6.mk 0 0 0 2 2 2)] : List R6).length (rowsT ([(R6.mk 0 0 0 2 2 2)] : List R6))) (xw o10_0)) (tt k9 (tt k8 (pp (pp (xI R6 ([(R6.mk 0 0 0 2 2 2)] : List R6).length (rowsT ([(R6.mk 0 0 0 2 2 2)] : List R6))) (xw o8_0)) (tt k7 (tt k6 (pp (pp (xI R6 ([(R6.mk 0 0 0 2 2 2)] : List R6).length (rowsT ([(R6.mk 0 0 0 2 2 2)] : List R6))) (xw o6_0)) (tt k5 (tt k4 (pp (pp (xI R6 ([(R6.mk 0 0 0 2 2 2)] : List R6).length (rowsT ([(R6.mk 0 0 0 2 2 2)] : List R6))) (xw o4_0)) (tt k3 (tt k2 (pp (pp (xI R6 ([(R6.mk 0 0 0 2 2 2)] : List R6).length (rowsT ([(R6.mk 0 0 0 2 2 2)] : List R6))) (xw o2_0)) (tt k1 (tt k0 (pp (pp (xI R6 ([(R6.mk 0 0 0 2 2 2)] : List R6).length (rowsT ([(R6.mk 0 0 0 2 2 2)] : List R6))) (xw o0_1)) (pp (pp (xI R6 ([(R6.mk 0 0 0 2 2 2)] : List R6).length (rowsT ([(R6.mk 0 0 0 2 2 2)] : List R6))) (pp (xI R6 ([(R6.mk 2 0 0 3 1 4)] : List R6).length (rowsT ([(R6.mk 2 0 0 3 1 4)] : List R6))) (xw o0_0))) nn)))))))))))))))))))))) (fun k11 => (lead_bif (fun k12 => (lead_bif (fun k13 => (lead_goes (sl Te_ok (C' := ⟨⟨41, 0, true⟩, (regP Tryz.prog 34 [1, 0] 2), (todoP Tryz.prog 34 [1, 0] 1), none, (resultsOf Tryz.prog 34), ⟨envL [(0, (.dat ([(R6.mk 0 0 0 2 2 2)] : List R6).length (rowsT ([(R6.mk 0 0 0 2 2 2)] : List R6)))), (1, (.dat ([(R6.mk 2 0 0 3 1 4)] : List R6).length (rowsT ([(R6.mk 2 0 0 3 1 4)] : List R6)))), (2, (.int .u8 2)), (3, (.int .i64 2)), (14, (.dat ([(R6.mk 0 0 0 2 2 2)] : List R6).length (rowsT ([(R6.mk 0 0 0 2 2 2)] : List R6)))), (15, (.dat ([(R6.mk 2 0 0 3 1 4)] : List R6).length (rowsT ([(R6.mk 2 0 0 3 1 4)] : List R6))))], memL [] 0, 0, [], true⟩, [⟨⟨51, 0, true⟩, (regP Tryz.prog 20 [1, 1, 1, 1, 0] 9), (todoP Tryz.prog 20 [1, 1, 1, 1, 0] 1), none, (resultsOf Tryz.prog 20), envL [(1, (.dat ([(R6.mk 0 0 0 2 2 2)] : List R6).length (rowsT ([(R6.mk 0 0 0 2 2 2)] : List R6)))), (36, (.bool true)), (37, (.dat ([(R6.mk 0 0 0 2 2 2)] : List R6).length (rowsT ([(R6.mk 0 0 0 2 2 2)] : List R6)))), (38, (.dat ([(R6.mk 2 0 0 3 1 4)] : List R6).length (rowsT ([(R6.mk 2 0 0 3 1 4)] : List R6))))]⟩], .leaf⟩) 295 [] ⟨[], [0], [some [0, 1, 2, 3, 14, 15], some [1, 36, 37, 38]], []⟩ ⟨[(1, .frz 1 ([(R6.mk 2 0 0 3 1 4)] : List R6).length (chunk [(.int .i64 2), (.int .i64 0), (.int .i64 0), (.int .i64 3), (.int .i64 1), (.int .i64 4)] 0 6) (rowsT ([(R6.mk 2 0 0 3 1 4)] : List R6))), (15, .frz 1 ([(R6.mk 2 0 0 3 1 4)] : List R6).length (chunk [(.int .i64 2), (.int .i64 0), (.int .i64 0), (.int .i64 3), (.int .i64 1), (.int .i64 4)] 0 6) (rowsT ([(R6.mk 2 0 0 3 1 4)] : List R6)))], [], [[(38, .frz 1 ([(R6.mk 2 0 0 3 1 4)] : List R6).length (chunk [(.int .i64 2), (.int .i64 0), (.int .i64 0), (.int .i64 3), (.int .i64 1), (.int .i64 4)] 0 6) (rowsT ([(R6.mk 2 0 0 3 1 4)] : List R6)))]]⟩ [true, false, false, false, true, false, false, false, true, false, false, false, true, false, false, false, true, false, false, false, true, false, false, false, false, true, true, true, true, true] (pp (xZ (.dat 1 (chunk [(.int .i64 2), (.int .i64 0), (.int .i64 0), (.int .i64 3), (.int .i64 1), (.int .i64 4)] 0 6)) 1 (chunk [(.int .i64 2), (.int .i64 0), (.int .i64 0), (.int .i64 3), (.int .i64 1), (.int .i64 4)] 0 6)) (pp (xL 1 ([(R6.mk 2 0 0 3 1 4)] : List R6).length) (pp (xS 1 (chunk [(.int .i64 2), (.int .i64 0), (.int .i64 0), (.int .i64 3), (.int .i64 1), (.int .i64 4)] 0 6) (rowsT ([(R6.mk 2 0 0 3 1 4)] : List R6))) (pp (xZ (.dat 1 (chunk [(.int .i64 2), (.int .i64 0), (.int .i64 0), (.int .i64 3), (.int .i64 1), (.int .i64 4)] 0 6)) 1 (chunk [(.int .i64 2), (.int .i64 0), (.int .i64 0), (.int .i64 3), (.int .i64 1), (.int .i64 4)] 0 6)) (pp (xL 1 ([(R6.mk 2 0 0 3 1 4)] : List R6).length) (pp (xS 1 (chunk [(.int .i64 2), (.int .i64 0), (.int .i64 0), (.int .i64 3), (.int .i64 1), (.int .i64 4)] 0 6) (rowsT ([(R6.mk 2 0 0 3 1 4)] : List R6))) (pp (xZ (.dat 1 (chunk [(.int .i64 2), (.int .i64 0), (.int .i64 0), (.int .i64 3), (.int .i64 1), (.int .i64 4)] 0 6)) 1 (chunk [(.int .i64 2), (.int .i64 0), (.int .i64 0), (.int .i64 3), (.int .i64 1), (.int .i64 4)] 0 6)) (pp (xL 1 ([(R6.mk 2 0 0 3 1 4)] : List R6).length) (pp (xS 1 (chunk [(.int .i64 2), (.int .i64 0), (.int .i64 0), (.int .i64 3), (.int .i64 1), (.int .i64 4)] 0 6) (rowsT ([(R6.mk 2 0 0 3 1 4)] : List R6))) (tt k13 (tt k12 (tt k11 (tt k10 (pp (pp (xI R6 ([(R6.mk 0 0 0 2 2 2)] : List R6).length (rowsT ([(R6.mk 0 0 0 2 2 2)] : List R6))) (xw o10_0)) (tt k9 (tt k8 (pp (pp (xI R6 ([(R6.mk 0 0 0 2 2 2)] : List R6).length (rowsT ([(R6.mk 0 0 0 2 2 2)] : List R6))) (xw o8_0)) (tt k7 (tt k6 (pp (pp (xI R6 ([(R6.mk 0 0 0 2 2 2)] : List R6).length (rowsT ([(R6.mk 0 0 0 2 2 2)] : List R6))) (xw o6_0)) (tt k5 (tt k4 (pp (pp (xI R6 ([(R6.mk 0 0 0 2 2 2)] : List R6).length (rowsT ([(R6.mk 0 0 0 2 2 2)] : List R6))) (xw o4_0)) (tt k3 (tt k2 (pp (pp (xI R6 ([(R6.mk 0 0 0 2 2 2)] : List R6).length (rowsT ([(R6.mk 0 0 0 2 2 2)] : List R6))) (xw o2_0)) (tt k1 (tt k0 (pp (pp (xI R6 ([(R6.mk 0 0 0 2 2 2)] : List R6).length (rowsT ([(R6.mk 0 0 0 2 2 2)] : List R6))) (xw o0_1)) (pp (pp (xI R6 ([(R6.mk 0 0 0 2 2 2)] : List R6).length (rowsT ([(R6.mk 0 0 0 2 2 2)] : List R6))) (pp (xI R6 ([(R6.mk 2 0 0 3 1 4)] : List R6).length (rowsT ([(R6.mk 2 0 0 3 1 4)] : List R6))) (xw o0_0))) nn))))))))))))))))))))))))))))))) (lead_owe fun o14_0 => (lead_owe fun o14_1 => (lead_bif (fun k14 => (lead_bif (fun k15 => (lead_bif (fun k16 => (lead_bif (fun k17 => (lead_goes (sl Te_ok (C' := ⟨⟨41, 0, true⟩, (regP Tryz.prog 34 [1, 0] 2), (todoP Tryz.prog 34 [1, 0] 1), none, (resultsOf Tryz.prog 34), ⟨envL [(0, (.dat ([(R6.mk 0 0 0 1 1 1)] : List R6).length (rowsT ([(R6.mk 0 0 0 1 1 1)] : List R6)))), (1, (.dat ([(R6.mk 0 0 0 2 2 2)] : List R6).length (rowsT ([(R6.mk 0 0 0 2 2 2)] : List R6)))), (2, (.int .u8 4)), (3, (.int .i64 0)), (14, (.dat ([(R6.mk 0 0 0 1 1 1)] : List R6).length (rowsT ([(R6.mk 0 0 0 1 1 1)] : List R6)))), (15, (.dat ([(R6.mk 0 0 0 2 2 2)] : List R6).length (rowsT ([(R6.mk 0 0 0 2 2 2)] : List R6))))], memL [] 0, 0, [], true⟩, [⟨⟨51, 0, true⟩, (regP Tryz.prog 20 [1, 1, 1, 1, 0] 14), (todoP Tryz.prog 20 [1, 1, 1, 1, 0] 1), none, (resultsOf Tryz.prog 20), envL [(1, (.dat ([(R6.mk 0 0 0 2 2 2)] : List R6).length (rowsT ([(R6.mk 0 0 0 2 2 2)] : List R6)))), (41, (.bool true)), (42, (.dat ([(R6.mk 0 0 0 1 1 1)] : List R6).length (rowsT ([(R6.mk 0 0 0 1 1 1)] : List R6)))), (43, (.dat ([(R6.mk 0 0 0 2 2 2)] : List R6).length (rowsT ([(R6.mk 0 0 0 2 2 2)] : List R6))))]⟩], .leaf⟩) 71 [] ⟨[], [0], [some [0, 1, 2, 3, 14, 15], some [1, 41, 42, 43]], []⟩ ⟨[(0, .frz 1 ([(R6.mk 0 0 0 1 1 1)] : List R6).length (chunk [(.int .i64 0), (.int .i64 0), (.int .i64 0), (.int .i64 1), (.int .i64 1), (.int .i64 1)] 0 6) (rowsT ([(R6.mk 0 0 0 1 1 1)] : List R6))), (14, .frz 1 ([(R6.mk 0 0 0 1 1 1)] : List R6).length (chunk [(.int .i64 0), (.int .i64 0), (.int .i64 0), (.int .i64 1), (.int .i64 1), (.int .i64 1)] 0 6) (rowsT ([(R6.mk 0 0 0 1 1 1)] : List R6)))], [], [[(42, .frz 1 ([(R6.mk 0 0 0 1 1 1)] : List R6).length (chunk [(.int .i64 0), (.int .i64 0), (.int .i64 0), (.int .i64 1), (.int .i64 1), (.int .i64 1)] 0 6) (rowsT ([(R6.mk 0 0 0 1 1 1)] : List R6)))]]⟩ (trs 11 []) (pp (xZ (.dat 1 (chunk [(.int .i64 0), (.int .i64 0), (.int .i64 0), (.int .i64 1), (.int .i64 1), (.int .i64 1)] 0 6)) 1 (chunk [(.int .i64 0), (.int .i64 0), (.int .i64 0), (.int .i64 1), (.int .i64 1), (.int .i64 1)] 0 6)) (pp (xL 1 ([(R6.mk 0 0 0 1 1 1)] : List R6).length) (pp (xS 1 (chunk [(.int .i64 0), (.int .i64 0), (.int .i64 0), (.int .i64 1), (.int .i64 1), (.int .i64 1)] 0 6) (rowsT ([(R6.mk 0 0 0 1 1 1)] : List R6))) (pp (xZ (.dat 1 (chunk [(.int .i64 0), (.int .i64 0), (.int .i64 0), (.int .i64 1), (.int .i64 1), (.int .i64 1)] 0 6)) 1 (chunk [(.int .i64 0), (.int .i64 0), (.int .i64 0), (.int .i64 1), (.int .i64 1), (.int .i64 1)] 0 6)) (pp (xL 1 ([(R6.mk 0 0 0 1 1 1)] : List R6).length) (pp (xS 1 (chunk [(.int .i64 0), (.int .i64 0), (.int .i64 0), (.int .i64 1), (.int .i64 1), (.int .i64 1)] 0 6) (rowsT ([(R6.mk 0 0 0 1 1 1)] : List R6))) (pp (xZ (.dat 1 (chunk [(.int .i64 0), (.int .i64 0), (.int .i64 0), (.int .i64 1), (.int .i64 1), (.int .i64 1)] 0 6)) 1 (chunk [(.int .i64 0), (.int .i64 0), (.int .i64 0), (.int .i64 1), (.int .i64 1), (.int .i64 1)] 0 6)) (pp (xL 1 ([(R6.mk 0 0 0 1 1 1)] : List R6).length) (pp (xS 1 (chunk [(.int .i64 0), (.int .i64 0), (.int .i64 0), (.int .i64 1), (.int .i64 1), (.int .i64 1)] 0 6) (rowsT ([(R6.mk 0 0 0 1 1 1)] : List R6))) (tt k17 (tt k16 (tt k15 (tt k14 (pp (pp (xI R6 ([(R6.mk 0 0 0 2 2 2)] : List R6).length (rowsT ([(R6.mk 0 0 0 2 2 2)] : List R6))) (pp (xI R6 ([(R6.mk 2 0 0 3 1 4)] : List R6).length (rowsT ([(R6.mk 2 0 0 3 1 4)] : List R6))) (xw o14_1))) (pp (pp (xI R6 ([(R6.mk 0 0 0 2 2 2)] : List R6).length (rowsT ([(R6.mk 0 0 0 2 2 2)] : List R6))) (pp (xI R6 ([(R6.mk 2 0 0 3 1 4)] : List R6).length (rowsT ([(R6.mk 2 0 0 3 1 4)] : List R6))) (xw o14_0))) nn)))))))))))))))) (lead_owe fun o18_0 => (lead_owe fun o18_1 => (lead_bif (fun k18 => (lead_bif (fun k19 => (lead_bif (fun k20 => (lead_bif (fun k21 => (lead_goes (sl Te_ok (C' := ⟨⟨41, 0, true⟩, (regP Tryz.prog 34 [1, 0] 2), (todoP Tryz.prog 34 [1, 0] 1), none, (resultsOf Tryz.prog 34), ⟨envL [(0, (.dat ([(R6.mk 0 0 0 2 2 2)] : List R6).length (rowsT ([(R6.mk 0 0 0 2 2 2)] : List R6)))), (1, (.dat ([(R6.mk 1 1 1 3 3 3)] : List R6).length (rowsT ([(R6.mk 1 1 1 3 3 3)] : List R6)))), (2, (.int .u8 3)), (3, (.int .i64 0)), (14, (.dat ([(R6.mk 0 0 0 2 2 2)] : List R6).length (rowsT ([(R6.mk 0 0 0 2 2 2)] : List R6)))), (15, (.dat ([(R6.mk 1 1 1 3 3 3)] : List R6).length (rowsT ([(R6.mk 1 1 1 3 3 3)] : List R6))))], memL [] 0, 0, [], true⟩, [⟨⟨51, 0, true⟩, (regP Tryz.prog 20 [1, 1, 1, 1, 0] 19), (todoP Tryz.prog 20 [1, 1, 1, 1, 0] 1), none, (resultsOf Tryz.prog 20), envL [(46, (.bool true)), (47, (.dat ([(R6.mk 0 0 0 2 2 2)] : List R6).length (rowsT ([(R6.mk 0 0 0 2 2 2)] : List R6)))), (48, (.dat ([(R6.mk 1 1 1 3 3 3)] : List R6).length (rowsT ([(R6.mk 1 1 1 3 3 3)] : List R6))))]⟩], .leaf⟩) 71 [] ⟨[], [0], [some [0, 1, 2, 3, 14, 15], some [46, 47, 48]], []⟩ ⟨[(1, .frz 1 ([(R6.mk 1 1 1 3 3 3)] : List R6).length (chunk [(.int .i64 1), (.int .i64 1), (.int .i64 1), (.int .i64 3), (.int .i64 3), (.int .i64 3)] 0 6) (rowsT ([(R6.mk 1 1 1 3 3 3)] : List R6))), (15, .frz 1 ([(R6.mk 1 1 1 3 3 3)] : List R6).length (chunk [(.int .i64 1), (.int .i64 1), (.int .i64 1), (.int .i64 3), (.int .i64 3), (.int .i64 3)] 0 6) (rowsT ([(R6.mk 1 1 1 3 3 3)] : List R6)))], [], [[(48, .frz 1 ([(R6.mk 1 1 1 3 3 3)] : List R6).length (chunk [(.int .i64 1), (.int .i64 1), (.int .i64 1), (.int .i64 3), (.int .i64 3), (.int .i64 3)] 0 6) (rowsT ([(R6.mk 1 1 1 3 3 3)] : List R6)))]]⟩ (trs 11 []) (pp (xZ (.dat 1 (chunk [(.int .i64 1), (.int .i64 1), (.int .i64 1), (.int .i64 3), (.int .i64 3), (.int .i64 3)] 0 6)) 1 (chunk [(.int .i64 1), (.int .i64 1), (.int .i64 1), (.int .i64 3), (.int .i64 3), (.int .i64 3)] 0 6)) (pp (xL 1 ([(R6.mk 1 1 1 3 3 3)] : List R6).length) (pp (xS 1 (chunk [(.int .i64 1), (.int .i64 1), (.int .i64 1), (.int .i64 3), (.int .i64 3), (.int .i64 3)] 0 6) (rowsT ([(R6.mk 1 1 1 3 3 3)] : List R6))) (pp (xZ (.dat 1 (chunk [(.int .i64 1), (.int .i64 1), (.int .i64 1), (.int .i64 3), (.int .i64 3), (.int .i64 3)] 0 6)) 1 (chunk [(.int .i64 1), (.int .i64 1), (.int .i64 1), (.int .i64 3), (.int .i64 3), (.int .i64 3)] 0 6)) (pp (xL 1 ([(R6.mk 1 1 1 3 3 3)] : List R6).length) (pp (xS 1 (chunk [(.int .i64 1), (.int .i64 1), (.int .i64 1), (.int .i64 3), (.int .i64 3), (.int .i64 3)] 0 6) (rowsT ([(R6.mk 1 1 1 3 3 3)] : List R6))) (pp (xZ (.dat 1 (chunk [(.int .i64 1), (.int .i64 1), (.int .i64 1), (.int .i64 3), (.int .i64 3), (.int .i64 3)] 0 6)) 1 (chunk [(.int .i64 1), (.int .i64 1), (.int .i64 1), (.int .i64 3), (.int .i64 3), (.int .i64 3)] 0 6)) (pp (xL 1 ([(R6.mk 1 1 1 3 3 3)] : List R6).length) (pp (xS 1 (chunk [(.int .i64 1), (.int .i64 1), (.int .i64 1), (.int .i64 3), (.int .i64 3), (.int .i64 3)] 0 6) (rowsT ([(R6.mk 1 1 1 3 3 3)] : List R6))) (tt k21 (tt k20 (tt k19 (tt k18 (pp (pp (xI R6 ([(R6.mk 0 0 0 1 1 1)] : List R6).length (rowsT ([(R6.mk 0 0 0 1 1 1)] : List R6))) (pp (xI R6 ([(R6.mk 0 0 0 2 2 2)] : List R6).length (rowsT ([(R6.mk 0 0 0 2 2 2)] : List R6))) (xw o18_1))) (pp (pp (xI R6 ([(R6.mk 0 0 0 1 1 1)] : List R6).length (rowsT ([(R6.mk 0 0 0 1 1 1)] : List R6))) (pp (xI R6 ([(R6.mk 0 0 0 2 2 2)] : List R6).length (rowsT ([(R6.mk 0 0 0 2 2 2)] : List R6))) (xw o18_0))) nn)))))))))))))))) (lead_owe fun o22_0 => (lead_owe fun o22_1 => (lead_bif (fun k22 => (lead_bif (fun k23 => (lead_bif (fun k24 => (lr 51 3 [1, 1, 1, 1, 1, 1, 0] 1 20 [(0, (.bool ((ocoV_0 (cvT ([(R6.mk 0 0 0 2 2 2)] : List R6)) (cvT ([(R6.mk 1 1 1 3 3 3)] : List R6))) == 0)))] (sl Te_ok 42 [] ⟨[], [], [some [0]], []⟩ ⟨[], [], []⟩ (trs 8 []) (tt k24 (tt k23 (tt k22 (pp (pp (xI R6 ([(R6.mk 0 0 0 2 2 2)] : List R6).length (rowsT ([(R6.mk 0 0 0 2 2 2)] : List R6))) (pp (xI R6 ([(R6.mk 1 1 1 3 3 3)] : List R6).length (rowsT ([(R6.mk 1 1 1 3 3 3)] : List R6))) (xw o22_1))) (pp (pp (xI R6 ([(R6.mk 0 0 0 2 2 2)] : List R6).length (rowsT ([(R6.mk 0 0 0 2 2 2)] : List R6))) (pp (xI R6 ([(R6.mk 1 1 1 3 3 3)] : List R6).length (rowsT ([(R6.mk 1 1 1 3 3 3)] : List R6))) (xw o22_0))) nn)))))))) (fun k24 => (lr 51 3 [1, 1, 1, 1, 1, 1, 0] 1 20 [(0, (.bool false))] (sl Te_ok 42 [] ⟨[], [], [some [0]], []⟩ ⟨[], [], []⟩ (trs 5 [false, false, false]) (tt k24 (tt k23 (tt k22 (pp (pp (xI R6 ([(R6.mk 0 0 0 2 2 2)] : List R6).length (rowsT ([(R6.mk 0 0 0 2 2 2)] : List R6))) (pp (xI R6 ([(R6.mk 1 1 1 3 3 3)] : List R6).length (rowsT ([(R6.mk 1 1 1 3 3 3)] : List R6))) (xw o22_1))) (pp (pp (xI R6 ([(R6.mk 0 0 0 2 2 2)] : List R6).length (rowsT ([(R6.mk 0 0 0 2 2 2)] : List R6))) (pp (xI R6 ([(R6.mk 1 1 1 3 3 3)] : List R6).length (rowsT ([(R6.mk 1 1 1 3 3 3)] : List R6))) (xw o22_0))) nn)))))))))) (fun k23 => (lr 51 3 [1, 1, 1, 1, 1, 1, 0] 1 20 [(0, (.bool false))] (sl Te_ok 42 [] ⟨[], [], [some [0]], []⟩ ⟨[], [], []⟩ (trs 3 [false, false, false, false, false]) (tt k23 (tt k22 (pp (pp (xI R6 ([(R6.mk 0 0 0 2 2 2)] : List R6).length (rowsT ([(R6.mk 0 0 0 2 2 2)] : List R6))) (pp (xI R6 ([(R6.mk 1 1 1 3 3 3)] : List R6).length (rowsT ([(R6.mk 1 1 1 3 3 3)] : List R6))) (xw o22_1))) (pp (pp (xI R6 ([(R6.mk 0 0 0 2 2 2)] : List R6).length (rowsT ([(R6.mk 0 0 0 2 2 2)] : List R6))) (pp (xI R6 ([(R6.mk 1 1 1 3 3 3)] : List R6).length (rowsT ([(R6.mk 1 1 1 3 3 3)] : List R6))) (xw o22_0))) nn))))))))) (fun k22 => (lr 51 3 [1, 1, 1, 1, 1, 1, 0] 1 20 [(0, (.bool false))] (sl Te_ok 42 [] ⟨[], [], [some [0]], []⟩ ⟨[], [], []⟩ [false, false, false, false, false, false, false, false] (tt k22 (pp (pp (xI R6 ([(R6.mk 0 0 0 2 2 2)] : List R6).length (rowsT ([(R6.mk 0 0 0 2 2 2)] : List R6))) (pp (xI R6 ([(R6.mk 1 1 1 3 3 3)] : List R6).length (rowsT ([(R6.mk 1 1 1 3 3 3)] : List R6))) (xw o22_1))) (pp (pp (xI R6 ([(R6.mk 0 0 0 2 2 2)] : List R6).length (rowsT ([(R6.mk 0 0 0 2 2 2)] : List R6))) (pp (xI R6 ([(R6.mk 1 1 1 3 3 3)] : List R6).length (rowsT ([(R6.mk 1 1 1 3 3 3)] : List R6))) (xw o22_0))) nn))))))))))) (fun k21 => (lr 51 3 [1, 1, 1, 1, 1, 1, 0] 1 20 [(0, (.bool false))] (sl Te_ok 47 [] ⟨[], [], [some [0]], []⟩ ⟨[], [], []⟩ (trs 8 [false, false, false]) (tt k21 (tt k20 (tt k19 (tt k18 (pp (pp (xI R6 ([(R6.mk 0 0 0 1 1 1)] : List R6).length (rowsT ([(R6.mk 0 0 0 1 1 1)] : List R6))) (pp (xI R6 ([(R6.mk 0 0 0 2 2 2)] : List R6).length (rowsT ([(R6.mk 0 0 0 2 2 2)] : List R6))) (xw o18_1))) (pp (pp (xI R6 ([(R6.mk 0 0 0 1 1 1)] : List R6).length (rowsT ([(R6.mk 0 0 0 1 1 1)] : List R6))) (pp (xI R6 ([(R6.mk 0 0 0 2 2 2)] : List R6).length (rowsT ([(R6.mk 0 0 0 2 2 2)] : List R6))) (xw o18_0))) nn))))))))))) (fun k20 => (lr 51 3 [1, 1, 1, 1, 1, 1, 0] 1 20 [(0, (.bool false))] (sl Te_ok 47 [] ⟨[], [], [some [0]], []⟩ ⟨[], [], []⟩ (trs 5 [false, false, false, false, false, false]) (tt k20 (tt k19 (tt k18 (pp (pp (xI R6 ([(R6.mk 0 0 0 1 1 1)] : List R6).length (rowsT ([(R6.mk 0 0 0 1 1 1)] : List R6))) (pp (xI R6 ([(R6.mk 0 0 0 2 2 2)] : List R6).length (rowsT ([(R6.mk 0 0 0 2 2 2)] : List R6))) (xw o18_1))) (pp (pp (xI R6 ([(R6.mk 0 0 0 1 1 1)] : List R6).length (rowsT ([(R6.mk 0 0 0 1 1 1)] : List R6))) (pp (xI R6 ([(R6.mk 0 0 0 2 2 2)] : List R6).length (rowsT ([(R6.mk 0 0 0 2 2 2)] : List R6))) (xw o18_0))) nn)))))))))) (fun k19 => (lr 51 3 [1, 1, 1, 1, 1, 1, 0] 1 20 [(0, (.bool false))] (sl Te_ok 47 [] ⟨[], [], [some [0]], []⟩ ⟨[], [], []⟩ (trs 3 [false, false, false, false, false, false, false, false]) (tt k19 (tt k18 (pp (pp (xI R6 ([(R6.mk 0 0 0 1 1 1)] : List R6).length (rowsT ([(R6.mk 0 0 0 1 1 1)] : List R6))) (pp (xI R6 ([(R6.mk 0 0 0 2 2 2)] : List R6).length (rowsT ([(R6.mk 0 0 0 2 2 2)] : List R6))) (xw o18_1))) (pp (pp (xI R6 ([(R6.mk 0 0 0 1 1 1)] : List R6).length (rowsT ([(R6.mk 0 0 0 1 1 1)] : List R6))) (pp (xI R6 ([(R6.mk 0 0 0 2 2 2)] : List R6).length (rowsT ([(R6.mk 0 0 0 2 2 2)] : List R6))) (xw o18_0))) nn))))))))) (fun k18 => (lr 51 3 [1, 1, 1, 1, 1, 1, 0] 1 20 [(0, (.bool false))] (sl Te_ok 47 [] ⟨[], [], [some [0]], []⟩ ⟨[], [], []⟩ [false, false, false, false, false, false, false, false, false, false, false] (tt k18 (pp (pp (xI R6 ([(R6.mk 0 0 0 1 1 1)] : List R6).length (rowsT ([(R6.mk 0 0 0 1 1 1)] : List R6))) (pp (xI R6 ([(R6.mk 0 0 0 2 2 2)] : List R6).length (rowsT ([(R6.mk 0 0 0 2 2 2)] : List R6))) (xw o18_1))) (pp (pp (xI R6 ([(R6.mk 0 0 0 1 1 1)] : List R6).length (rowsT ([(R6.mk 0 0 0 1 1 1)] : List R6))) (pp (xI R6 ([(R6.mk 0 0 0 2 2 2)] : List R6).length (rowsT ([(R6.mk 0 0 0 2 2 2)] : List R6))) (xw o18_0))) nn))))))))))) (fun k17 => (lr 51 3 [1, 1, 1, 1, 1, 1, 0] 1 20 [(0, (.bool false))] (sl Te_ok 52 [] ⟨[], [], [some [0]], []⟩ ⟨[], [], []⟩ (trs 8 [false, false, false, false, false, false]) (tt k17 (tt k16 (tt k15 (tt k14 (pp (pp (xI R6 ([(R6.mk 0 0 0 2 2 2)] : List R6).length (rowsT ([(R6.mk 0 0 0 2 2 2)] : List R6))) (pp (xI R6 ([(R6.mk 2 0 0 3 1 4)] : List R6).length (rowsT ([(R6.mk 2 0 0 3 1 4)] : List R6))) (xw o14_1))) (pp (pp (xI R6 ([(R6.mk 0 0 0 2 2 2)] : List R6).length (rowsT ([(R6.mk 0 0 0 2 2 2)] : List R6))) (pp (xI R6 ([(R6.mk 2 0 0 3 1 4)] : List R6).length (rowsT ([(R6.mk 2 0 0 3 1 4)] : List R6))) (xw o14_0))) nn))))))))))) (fun k16 => (lr 51 3 [1, 1, 1, 1, 1, 1, 0] 1 20 [(0, (.bool false))] (sl Te_ok 52 [] ⟨[], [], [some [0]], []⟩ ⟨[], [], []⟩ (trs 5 [false, false, false, false, false, false, false, false, false]) (tt k16 (tt k15 (tt k14 (pp (pp (xI R6 ([(R6.mk 0 0 0 2 2 2)] : List R6).length (rowsT ([(R6.mk 0 0 0 2 2 2)] : List R6))) (pp (xI R6 ([(R6.mk 2 0 0 3 1 4)] : List R6).length (rowsT ([(R6.mk 2 0 0 3 1 4)] : List R6))) (xw o14_1))) (pp (pp (xI R6 ([(R6.mk 0 0 0 2 2 2)] : List R6).length (rowsT ([(R6.mk 0 0 0 2 2 2)] : List R6))) (pp (xI R6 ([(R6.mk 2 0 0 3 1 4)] : List R6).length (rowsT ([(R6.mk 2 0 0 3 1 4)] : List R6))) (xw o14_0))) nn)))))))))) (fun k15 => (lr 51 3 [1, 1, 1, 1, 1, 1, 0] 1 20 [(0, (.bool false))] (sl Te_ok 52 [] ⟨[], [], [some [0]], []⟩ ⟨[], [], []⟩ (trs 3 [false, false, false, false, false, false, false, false, false, false, false]) (tt k15 (tt k14 (pp (pp (xI R6 ([(R6.mk 0 0 0 2 2 2)] : List R6).length (rowsT ([(R6.mk 0 0 0 2 2 2)] : List R6))) (pp (xI R6 ([(R6.mk 2 0 0 3 1 4)] : List R6).length (rowsT ([(R6.mk 2 0 0 3 1 4)] : List R6))) (xw o14_1))) (pp (pp (xI R6 ([(R6.mk 0 0 0 2 2 2)] : List R6).length (rowsT ([(R6.mk 0 0 0 2 2 2)] : List R6))) (pp (xI R6 ([(R6.mk 2 0 0 3 1 4)] : List R6).length (rowsT ([(R6.mk 2 0 0 3 1 4)] : List R6))) (xw o14_0))) nn))))))))) (fun k14 => (lr 51 3 [1, 1, 1, 1, 1, 1, 0] 1 20 [(0, (.bool false))] (sl Te_ok 52 [] ⟨[], [], [some [0]], []⟩ ⟨[], [], []⟩ [false, false, false, false, false, false, false, false, false, false, false, false, false, false] (tt k14 (pp (pp (xI R6 ([(R6.mk 0 0 0 2 2 2)] : List R6).length (rowsT ([(R6.mk 0 0 0 2 2 2)] : List R6))) (pp (xI R6 ([(R6.mk 2 0 0 3 1 4)] : List R6).length (rowsT ([(R6.mk 2 0 0 3 1 4)] : List R6))) (xw o14_1))) (pp (pp (xI R6 ([(R6.mk 0 0 0 2 2 2)] : List R6).length (rowsT ([(R6.mk 0 0 0 2 2 2)] : List R6))) (pp (xI R6 ([(R6.mk 2 0 0 3 1 4)] : List R6).length (rowsT ([(R6.mk 2 0 0 3 1 4)] : List R6))) (xw o14_0))) nn))))))))))) (fun k13 => (lr 51 3 [1, 1, 1, 1, 1, 1, 0] 1 20 [(0, (.bool false))] (sl Te_ok 281 [] ⟨[], [], [some [0]], []⟩ ⟨[], [], []⟩ [true, false, false, false, true, false, false, false, true, false, false, false, true, false, false, false, true, false, false, false, true, false, false, false, false, true, true, false, false, false, false, false, false, false, false, false] (tt k13 (tt k12 (tt k11 (tt k10 (pp (pp (xI R6 ([(R6.mk 0 0 0 2 2 2)] : List R6).length (rowsT ([(R6.mk 0 0 0 2 2 2)] : List R6))) (xw o10_0)) (tt k9 (tt k8 (pp (pp (xI R6 ([(R6.mk 0 0 0 2 2 2)] : List R6).length (rowsT ([(R6.mk 0 0 0 2 2 2)] : List R6))) (xw o8_0)) (tt k7 (tt k6 (pp (pp (xI R6 ([(R6.mk 0 0 0 2 2 2)] : List R6).length (rowsT ([(R6.mk 0 0 0 2 2 2)] : List R6))) (xw o6_0)) (tt k5 (tt k4 (pp (pp (xI R6 ([(R6.mk 0 0 0 2 2 2)] : List R6).length (rowsT ([(R6.mk 0 0 0 2 2 2)] : List R6))) (xw o4_0)) (tt k3 (tt k2 (pp (pp (xI R6 ([(R6.mk 0 0 0 2 2 2)] : List R6).length (rowsT ([(R6.mk 0 0 0 2 2 2)] : List R6))) (xw o2_0)) (tt k1 (tt k0 (pp (pp (xI R6 ([(R6.mk 0 0 0 2 2 2)] : List R6).length (rowsT ([(R6.mk 0 0 0 2 2 2)] : List R6))) (xw o0_1)) (pp (pp (xI R6 ([(R6.mk 0 0 0 2 2 2)] : List R6).length (rowsT ([(R6.mk 0 0 0 2 2 2)] : List R6))) (pp (xI R6 ([(R6.mk 2 0 0 3 1 4)] : List R6).length (rowsT ([(R6.mk 2 0 0 3 1 4)] : List R6))) (xw o0_0))) nn)))))))))))))))))))))))))) (fun k12 => (lr 51 3 [1, 1, 1, 1, 1, 1, 0] 1 20 [(0, (.bool false))] (sl Te_ok 281 [] ⟨[], [], [some [0]], []⟩ ⟨[], [], []⟩ [true, false, false, false, true, false, false, false, true, false, false, false, true, false, false, false, true, false, false, false, true, false, false, false, false, false, false, false, false, false, false, false, false, false, false, false] (tt k12 (tt k11 (tt k10 (pp (pp (xI R6 ([(R6.mk 0 0 0 2 2 2)] : List R6).length (rowsT ([(R6.mk 0 0 0 2 2 2)] : List R6))) (xw o10_0)) (tt k9 (tt k8 (pp (pp (xI R6 ([(R6.mk 0 0 0 2 2 2)] : List R6).length (rowsT ([(R6.mk 0 0 0 2 2 2)] : List R6))) (xw o8_0)) (tt k7 (tt k6 (pp (pp (xI R6 ([(R6.mk 0 0 0 2 2 2)] : List R6).length (rowsT ([(R6.mk 0 0 0 2 2 2)] : List R6))) (xw o6_0)) (tt k5 (tt k4 (pp (pp (xI R6 ([(R6.mk 0 0 0 2 2 2)] : List R6).length (rowsT ([(R6.mk 0 0 0 2 2 2)] : List R6))) (xw o4_0)) (tt k3 (tt k2 (pp (pp (xI R6 ([(R6.mk 0 0 0 2 2 2)] : List R6).length (rowsT ([(R6.mk 0 0 0 2 2 2)] : List R6))) (xw o2_0)) (tt k1 (tt k0 (pp (pp (xI R6 ([(R6.mk 0 0 0 2 2 2)] : List R6).length (rowsT ([(R6.mk 0 0 0 2 2 2)] : List R6))) (xw o0_1)) (pp (pp (xI R6 ([(R6.mk 0 0 0 2 2 2)] : List R6).length (rowsT ([(R6.mk 0 0 0 2 2 2)] : List R6))) (pp (xI R6 ([(R6.mk 2 0 0 3 1 4)] : List R6).length (rowsT ([(R6.mk 2 0 0 3 1 4)] : List R6))) (xw o0_0))) nn))))))))))))))))))))))))))))))))))))))))))))))))))))))))
theorem ali_ends (n : Nat) (vs : List AVal) (h : goOn (alistep) n (alistart) = .ret vs) : Ends Tryz.prog (resultsOf Tryz.prog 20) (startC Tryz.prog 20 [] true []) vs := by
  have := goOn_lead (alistep_ok) n _ (alistart_ok)
  rwa [h] at this
end Go.Am
end
section
namespace Go.Am
open Go.Proofs
set_option maxRecDepth 100000
set_option maxHeartbeats 4000000
set_option linter.unusedVariables false
set_option linter.unusedSimpArgs false
theorem sck_lit {l : List R6} (h : rckV_0 l = 0) : sckV_0 l = 0 := (check_eq l).trans h
theorem litC : sckV_0 ([(R6.mk 0 0 0 2 2 2)] : List R6) = 0 := sck_lit (by kernel_rfl)
theorem litA : sckV_0 ([(R6.mk 2 0 0 3 1 4)] : List R6) = 0 := sck_lit (by kernel_rfl)
theorem litB : sckV_0 ([(R6.mk 0 0 0 1 1 1)] : List R6) = 0 := sck_lit (by kernel_rfl)
theorem litD : sckV_0 ([(R6.mk 1 1 1 3 3 3)] : List R6) = 0 := sck_lit (by kernel_rfl)
theorem al0 : osiV_1 ([(R6.mk 0 0 0 2 2 2)] : List R6) 0 = 0 := by
  unfold osiV_1
  rw [litC]
  kernel_rfl
theorem al1 : osiV_0 ([(R6.mk 0 0 0 2 2 2)] : List R6) 0 = 4 := by
  unfold osiV_0
  rw [litC]
  kernel_rfl
theorem al2 : osiV_1 ([(R6.mk 0 0 0 2 2 2)] : List R6) 1 = 0 := by
  unfold osiV_1
  rw [litC]
  kernel_rfl
theorem al3 : osiV_0 ([(R6.mk 0 0 0 2 2 2)] : List R6) 1 = 4 := by
  unfold osiV_0
  rw [litC]
  kernel_rfl
theorem al4 : osiV_1 ([(R6.mk 0 0 0 2 2 2)] : List R6) 2 = 0 := by
  unfold osiV_1
  rw [litC]
  kernel_rfl
theorem al5 : osiV_0 ([(R6.mk 0 0 0 2 2 2)] : List R6) 2 = 4 := by
  unfold osiV_0
  rw [litC]
  kernel_rfl
theorem al6 : osiV_1 ([(R6.mk 0 0 0 2 2 2)] : List R6) 3 = 0 := by
  unfold osiV_1
  rw [litC]
  kernel_rfl
theorem al7 : osiV_0 ([(R6.mk 0 0 0 2 2 2)] : List R6) 3 = 4 := by
  unfold osiV_0
  rw [litC]
  kernel_rfl
theorem al8 : osiV_1 ([(R6.mk 0 0 0 2 2 2)] : List R6) 4 = 0 := by
  unfold osiV_1
  rw [litC]
  kernel_rfl
theorem al9 : osiV_0 ([(R6.mk 0 0 0 2 2 2)] : List R6) 4 = 4 := by
  unfold osiV_0
  rw [litC]
  kernel_rfl
theorem al10 : osiV_1 ([(R6.mk 0 0 0 2 2 2)] : List R6) 5 = 0 := by
  unfold osiV_1
  rw [litC]
  kernel_rfl
theorem al11 : osiV_0 ([(R6.mk 0 0 0 2 2 2)] : List R6) 5 = 4 := by
  unfold osiV_0
  rw [litC]
  kernel_rfl
theorem al12 : ocvV_1 ([(R6.mk 0 0 0 2 2 2)] : List R6) ([(R6.mk 2 0 0 3 1 4)] : List R6) 0 = 0 := by
  unfold ocvV_1
  rw [litC, litA]
  kernel_rfl
theorem al13 : ocvV_0 ([(R6.mk 0 0 0 2 2 2)] : List R6) ([(R6.mk 2 0 0 3 1 4)] : List R6) 0 = 2 := by
  unfold ocvV_0
  rw [litC, litA]
  kernel_rfl
theorem al14 : oreV_1 ([(R6.mk 0 0 0 2 2 2)] : List R6) ([(R6.mk 2 0 0 3 1 4)] : List R6) = 0 := by
  unfold oreV_1
  unfold ocoV_1
  rw [litC, litA]
  kernel_rfl
theorem al15 : oreV_0 ([(R6.mk 0 0 0 2 2 2)] : List R6) ([(R6.mk 2 0 0 3 1 4)] : List R6) = 2 := by
  unfold oreV_0
  rw [litC, litA]
  kernel_rfl
theorem al16 : ocoV_1 ([(R6.mk 0 0 0 2 2 2)] : List R6) ([(R6.mk 2 0 0 3 1 4)] : List R6) = 0 := by
  unfold ocoV_1
  rw [litC, litA]
  kernel_rfl
theorem al17 : ocoV_0 ([(R6.mk 0 0 0 2 2 2)] : List R6) ([(R6.mk 2 0 0 3 1 4)] : List R6) = 2 := by
  unfold ocoV_0
  rw [litC, litA]
  kernel_rfl
theorem al18 : oreV_1 ([(R6.mk 0 0 0 1 1 1)] : List R6) ([(R6.mk 0 0 0 2 2 2)] : List R6) = 0 := by
  unfold oreV_1
  unfold ocoV_1
  rw [litB, litC]
  kernel_rfl
theorem al19 : oreV_0 ([(R6.mk 0 0 0 1 1 1)] : List R6) ([(R6.mk 0 0 0 2 2 2)] : List R6) = 4 := by
  unfold oreV_0
  rw [litB, litC]
  kernel_rfl
theorem al20 : ocoV_1 ([(R6.mk 0 0 0 1 1 1)] : List R6) ([(R6.mk 0 0 0 2 2 2)] : List R6) = 0 := by
  unfold ocoV_1
  rw [litB, litC]
  kernel_rfl
theorem al21 : ocoV_0 ([(R6.mk 0 0 0 1 1 1)] : List R6) ([(R6.mk 0 0 0 2 2 2)] : List R6) = 0 := by
  unfold ocoV_0
  rw [litB, litC]
  kernel_rfl
theorem al22 : oreV_1 ([(R6.mk 0 0 0 2 2 2)] : List R6) ([(R6.mk 1 1 1 3 3 3)] : List R6) = 0 := by
  unfold oreV_1
  unfold ocoV_1
  rw [litC, litD]
  kernel_rfl
theorem al23 : oreV_0 ([(R6.mk 0 0 0 2 2 2)] : List R6) ([(R6.mk 1 1 1 3 3 3)] : List R6) = 3 := by
  unfold oreV_0
  rw [litC, litD]
  kernel_rfl
theorem al24 : ocoV_1 ([(R6.mk 0 0 0 2 2 2)] : List R6) ([(R6.mk 1 1 1 3 3 3)] : List R6) = 0 := by
  unfold ocoV_1
  rw [litC, litD]
  kernel_rfl
theorem al25 : ocoV_0 ([(R6.mk 0 0 0 2 2 2)] : List R6) ([(R6.mk 1 1 1 3 3 3)] : List R6) = 0 := by
  unfold ocoV_0
  rw [litC, litD]
  kernel_rfl
theorem ali_run : ∃ N, goOn alistep N alistart = .ret [.bool true] := by
  refine ⟨0, ?_⟩
  unfold alistart
  simp only [cvT_eq, show osiV_owed ([(R6.mk 0 0 0 2 2 2)] : List R6) 0 = true from rfl, show osiV_owed ([(R6.mk 0 0 0 2 2 2)] : List R6) 1 = true from rfl, show osiV_owed ([(R6.mk 0 0 0 2 2 2)] : List R6) 2 = true from rfl, show osiV_owed ([(R6.mk 0 0 0 2 2 2)] : List R6) 3 = true from rfl, show osiV_owed ([(R6.mk 0 0 0 2 2 2)] : List R6) 4 = true from rfl, show osiV_owed ([(R6.mk 0 0 0 2 2 2)] : List R6) 5 = true from rfl, show ocvV_owed ([(R6.mk 0 0 0 2 2 2)] : List R6) ([(R6.mk 2 0 0 3 1 4)] : List R6) 0 = true from rfl, show oreV_owed ([(R6.mk 0 0 0 2 2 2)] : List R6) ([(R6.mk 2 0 0 3 1 4)] : List R6) = true from rfl, show ocoV_owed ([(R6.mk 0 0 0 2 2 2)] : List R6) ([(R6.mk 2 0 0 3 1 4)] : List R6) = true from rfl, show oreV_owed ([(R6.mk 0 0 0 1 1 1)] : List R6) ([(R6.mk 0 0 0 2 2 2)] : List R6) = true from rfl, show ocoV_owed ([(R6.mk 0 0 0 1 1 1)] : List R6) ([(R6.mk 0 0 0 2 2 2)] : List R6) = true from rfl, show oreV_owed ([(R6.mk 0 0 0 2 2 2)] : List R6) ([(R6.mk 1 1 1 3 3 3)] : List R6) = true from rfl, show ocoV_owed ([(R6.mk 0 0 0 2 2 2)] : List R6) ([(R6.mk 1 1 1 3 3 3)] : List R6) = true from rfl, al0, al1, al2, al3, al4, al5, al6, al7, al8, al9, al10, al11, al12, al13, al14, al15, al16, al17, al18, al19, al20, al21, al22, al23, al24, al25, show ((0 : Int) != 0) = false from rfl, show ((4 : Int) != 4) = false from rfl, show ((0 : Int) == 0) = true from rfl, show ((2 : Int) == 2) = true from rfl, show ((4 : Int) == 4) = true from rfl, show ((3 : Int) == 3) = true from rfl, cond_true, cond_false]
  rfl
def fTrue : List AVal → Option (AVal × Bool)
  | [] => some (.bool true, true)
  | _ => none
theorem fTrue_ok {S : Specs} (hS : SpecsOk Tryz.prog S) : SpecsOk Tryz.prog (S.with nAlive28 fTrue) := by
  refine fOne hS (by kernel_rfl) fun args v h => ?_
  unfold fTrue at h
  split at h
  · simp only [Option.some.injEq, Prod.mk.injEq, and_true] at h
    subst h
    obtain ⟨N, hN⟩ := ali_run
    exact ⟨_, _, .nil, rfl, ali_ends N _ hN, 3, rfl⟩
  · cases h
noncomputable def Tf : Specs := (Te.with nAlive28 fTrue)
theorem Tf_ok : SpecsOk Tryz.prog Tf := (fTrue_ok Te_ok)
end Go.Am
end
