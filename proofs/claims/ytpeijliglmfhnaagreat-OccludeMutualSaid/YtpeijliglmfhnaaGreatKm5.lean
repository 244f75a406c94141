/- A part of a proof: several texts in one. -/
import Derived.Test.YtpeijliglmfhnaaGreatKm4
import Derived.Shelf.SlSortCmp.NoneTotal
section
set_option linter.unusedVariables false
set_option linter.unusedSimpArgs false
namespace Go.Am
open Go.Proofs
set_option maxRecDepth 100000
set_option maxHeartbeats 4000000
set_option linter.unusedVariables false
set_option linter.unusedSimpArgs false
theorem cutV_length (l m : List R6) : (cutV l m).length ≤ 2 * l.length + 2 * m.length := by
  refine Nat.le_trans (srtV_length _) ?_
  rw [List.length_append, zEnds_length, zEnds_length]; omega
theorem atV_length (l : List R6) (z : Int) : (atV l z).length ≤ l.length := by
  unfold atV
  rw [List.length_map]
  exact List.length_filter_le _ _
def ext6 (out : List R6) (first : Nat) (z : Int) : List R6 := out.take first ++ (out.drop first).map fun r => ⟨r.a, r.b, r.c, r.d, r.e, z⟩
def put6 (z z' : Int) (s : List R4) : List R6 := s.map fun p => ⟨p.a, p.b, z, p.c, p.d, z'⟩
section
variable (kind : Int) (l m : List R6)
def secR (z : Int) : List R4 := joV kind (atV l z) (atV m z)
def manyR (z : Int) : Bool := decide (400 < (secR kind l m z).length) || (decide (400 < (joV 2 (atV l z) []).length) || decide (400 < (joV 2 (atV m z) []).length))
def jsF : Nat → Nat → List R6 → List R4 → Nat → Option (List R6)
  | 0, _, out, _, _ => some out
  | k + 1, i, out, last, first =>
    bif manyR kind l m (rd (cutV l m) i) then none
    else bif decide (0 < i) && same4V (secR kind l m (rd (cutV l m) i)) last then jsF k (i + 1) (ext6 out first (rd (cutV l m) (i + 1))) last first
    else jsF k (i + 1) (out ++ put6 (rd (cutV l m) i) (rd (cutV l m) (i + 1)) (secR kind l m (rd (cutV l m) i))) (secR kind l m (rd (cutV l m) i)) out.length
def jsO : Option (List R6) := jsF kind l m ((cutV l m).length - 1) 0 [] [] 0
def jsRet : Option (List R6) → List AVal
  | none => [.nils, .bool false]
  | some out => [.dat out.length (rowsT out), .bool (decide ((out.length : Int) ≤ 400))]
def jsV_0 : List R6 := (jsO kind l m).getD []
def jsV_1 : Bool := match jsO kind l m with
  | none => false
  | some out => decide ((out.length : Int) ≤ 400)
end
def jsV_owed (_ : Int) (l m : List R6) : Bool := decide (l.length ≤ 5000 ∧ m.length ≤ 5000)
section
variable (kind : Int) (l m : List R6) (hl : l.length ≤ 5000) (hm : m.length ≤ 5000)
include hl hm
theorem rjs_h1 (last : List R4) (first : Int) (i : Nat) (hi : i + 1 < (cutV l m).length) (s : List R4) (hs : s.length ≤ 1000000) : ∀ (k j : Nat) (out : List R6), j + k = s.length → out.length ≤ 10000000000 + j →
    ∃ n, ∀ N, goOn (rjsstep kind l m) (N + n) (.to (.h1 out last first (i : Int) s (j : Int))) = goOn (rjsstep kind l m) N (.to (.h0 (out ++ put6 (rd (cutV l m) i) (rd (cutV l m) (i + 1)) (s.drop j)) last first ((i + 1 : Nat) : Int)))
  | 0, j, out, h, ho => by
    have hx := cutV_length l m
    refine ⟨1, fun N => ?_⟩
    rw [List.drop_eq_nil_of_le (by omega), goOn_to]
    simp (disch := omega) only [rjsstep, cvT_eq, lst_rows, dlt_f, wrap_t, cast_succ, cond_false, put6, List.map_nil, List.append_nil]
  | k + 1, j, out, h, ho => by
    have hx := cutV_length l m
    obtain ⟨n, hn⟩ := rjs_h1 last first i hi s hs k (j + 1) (out ++ put6 (rd (cutV l m) i) (rd (cutV l m) (i + 1)) [rd s j]) (by omega) (by simp [put6]; omega)
    refine ⟨n + 1, fun N => ?_⟩
    have := hn N
    rw [drop_rd (show j < s.length by omega), ← Nat.add_assoc, goOn_to]
    simp (disch := omega) only [rjsstep, cvT_eq, lst_rows, dlt_t, din_t, nle_t, neq_t, room_t, wrap_t, cast_succ, beq11, toNat_c, Nat.zero_add, decide_true, Bool.and_true, Bool.true_and, cond_true]
    rw [List.append_assoc] at this
    exact this
omit hl hm in
theorem ext6_set (out : List R6) (j : Nat) (x : Int) (h : j < out.length) : ext6 (out.set j ⟨(rd out j).a, (rd out j).b, (rd out j).c, (rd out j).d, (rd out j).e, x⟩) (j + 1) x = ext6 out j x := by
  unfold ext6
  rw [drop_rd h, List.map_cons]
  have e1 : (out.set j ⟨(rd out j).a, (rd out j).b, (rd out j).c, (rd out j).d, (rd out j).e, x⟩).take (j + 1) = out.take j ++ [⟨(rd out j).a, (rd out j).b, (rd out j).c, (rd out j).d, (rd out j).e, x⟩] := by
    apply List.ext_getElem
    · simp; omega
    · intro n h1 h2
      simp only [List.getElem_take, List.getElem_set]
      by_cases e : j = n
      · subst e
        rw [if_pos rfl, List.getElem_append_right (by simp only [List.length_take]; omega)]
        simp
      · rw [if_neg e, List.getElem_append_left (by simp at h1 ⊢; omega), List.getElem_take]
  have e2 : (out.set j ⟨(rd out j).a, (rd out j).b, (rd out j).c, (rd out j).d, (rd out j).e, x⟩).drop (j + 1) = out.drop (j + 1) := by
    rw [List.drop_set]; rw [if_pos (by omega)]
  rw [e1, e2, List.append_assoc]; rfl
theorem rjs_h2 (last : List R4) (first : Int) (i : Nat) (hi : i + 1 < (cutV l m).length) : ∀ (k j : Nat) (out : List R6), j + k = out.length → out.length ≤ 10000000000 →
    ∃ n, ∀ N, goOn (rjsstep kind l m) (N + n) (.to (.h2 out last first (i : Int) (j : Int))) = goOn (rjsstep kind l m) N (.to (.h0 (ext6 out j (rd (cutV l m) (i + 1))) last first ((i + 1 : Nat) : Int)))
  | 0, j, out, h, ho => by
    have hx := cutV_length l m
    refine ⟨1, fun N => ?_⟩
    have e : ext6 out j (rd (cutV l m) (i + 1)) = out := by
      unfold ext6; rw [List.drop_eq_nil_of_le (by omega), List.map_nil, List.append_nil, List.take_of_length_le (by omega)]
    rw [e, goOn_to]
    simp (disch := omega) only [rjsstep, cvT_eq, lst_rows, dlt_f, wrap_t, cast_succ, cond_false]
  | k + 1, j, out, h, ho => by
    have hx := cutV_length l m
    obtain ⟨n, hn⟩ := rjs_h2 last first i hi k (j + 1) (out.set j ⟨(rd out j).a, (rd out j).b, (rd out j).c, (rd out j).d, (rd out j).e, rd (cutV l m) (i + 1)⟩) (by simp; omega) (by simpa using ho)
    refine ⟨n + 1, fun N => ?_⟩
    have := hn N
    rw [ext6_set out j _ (by omega)] at this
    rw [← Nat.add_assoc, goOn_to]
    simp (disch := omega) only [rjsstep, cvT_eq, lst_rows, dlt_t, din_t, nlt_t, nle_t, neq_t, room_t, wrap_t, cast_succ, beq11, toNat_c, Nat.zero_add, decide_true, Bool.and_true, Bool.true_and, cond_true]
    exact this
theorem rjs_h0 : ∀ (k i : Nat) (out : List R6) (last : List R4) (first : Nat), k = (cutV l m).length - 1 - i → i ≤ (cutV l m).length → out.length ≤ i * 400 → last.length ≤ 400 → first ≤ out.length →
    ∃ n, goOn (rjsstep kind l m) n (.to (.h0 out last (first : Int) (i : Int))) = .ret (jsRet (jsF kind l m k i out last first))
  | 0, i, out, last, first, h, hi, ho, hla, hf => by
    have hx := cutV_length l m
    refine ⟨1, ?_⟩
    rw [goOn_to]
    simp (disch := omega) only [rjsstep, cvT_eq, lst_rows, dlt_f, wrap_t, cast_succ, cond_false, goOn_ret, jsF, jsRet]
  | k + 1, i, out, last, first, h, hi, ho, hla, hf => by
    have hx := cutV_length l m
    have hi1 : i + 1 < (cutV l m).length := by omega
    have hbig : i * 400 ≤ 20000 * 400 := Nat.mul_le_mul_right _ (by omega)
    have a1 := fun z => atV_length l z
    have a2 := fun z => atV_length m z
    have w1 : ∀ z, atV_owed l z = true := fun z => decide_eq_true (by omega)
    have w2 : ∀ z, atV_owed m z = true := fun z => decide_eq_true (by omega)
    have w3 : ∀ k z, joV_owed k (atV l z) (atV m z) = true := fun k z => decide_eq_true (by have := a1 z; have := a2 z; omega)
    have w4 : ∀ k z, joV_owed k (atV l z) ([] : List R4) = true := fun k z => decide_eq_true (by have := a1 z; simp; omega)
    have w5 : ∀ k z, joV_owed k (atV m z) ([] : List R4) = true := fun k z => decide_eq_true (by have := a2 z; simp; omega)
    unfold jsF
    have hsec : secR kind l m (rd (cutV l m) i) = joV kind (atV l (rd (cutV l m) i)) (atV m (rd (cutV l m) i)) := rfl
    by_cases c1 : 400 < (secR kind l m (rd (cutV l m) i)).length
    · refine ⟨1, ?_⟩
      have hb : manyR kind l m (rd (cutV l m) i) = true := by unfold manyR; rw [decide_eq_true c1]; rfl
      rw [hb, cond_true, goOn_to]
      rw [hsec] at c1
      simp (disch := omega) only [rjsstep, cvT_eq, lst_rows, dlt_t, dgt_t, din_t, wrap_t, cast_succ, toNat_c, w1, w2, w3, w4, w5, Bool.and_true, cond_true, goOn_ret, jsRet]
    by_cases c2 : 400 < (joV 2 (atV l (rd (cutV l m) i)) []).length
    · refine ⟨1, ?_⟩
      have hb : manyR kind l m (rd (cutV l m) i) = true := by unfold manyR; rw [decide_eq_true c2, Bool.true_or, Bool.or_true]
      rw [hb, cond_true, goOn_to]
      rw [hsec] at c1
      simp (disch := omega) only [rjsstep, cvT_eq, lst_rows, dlt_t, dgt_t, dgt_f, din_t, wrap_t, cast_succ, toNat_c, w1, w2, w3, w4, w5, Bool.and_true, cond_true, cond_false, goOn_ret, jsRet]
    by_cases c3 : 400 < (joV 2 (atV m (rd (cutV l m) i)) []).length
    · refine ⟨1, ?_⟩
      have hb : manyR kind l m (rd (cutV l m) i) = true := by unfold manyR; rw [decide_eq_true c3, Bool.or_true, Bool.or_true]
      rw [hb, cond_true, goOn_to]
      rw [hsec] at c1
      simp (disch := omega) only [rjsstep, cvT_eq, lst_rows, dlt_t, dgt_t, dgt_f, din_t, wrap_t, cast_succ, toNat_c, w1, w2, w3, w4, w5, Bool.and_true, cond_true, cond_false, goOn_ret, jsRet]
    have hb : manyR kind l m (rd (cutV l m) i) = false := by unfold manyR; rw [decide_eq_false c1, decide_eq_false c2, decide_eq_false c3]; rfl
    rw [hb, cond_false]
    have w6 : same4V_owed (joV kind (atV l (rd (cutV l m) i)) (atV m (rd (cutV l m) i))) last = true := decide_eq_true (by rw [← hsec]; omega)
    rcases boolc (decide (0 < i) && same4V (secR kind l m (rd (cutV l m) i)) last) with q | q
    · obtain ⟨n3, h3⟩ := rjs_h2 kind l m hl hm last first i hi1 (out.length - first) first out (by omega) (by omega)
      obtain ⟨n0, h0⟩ := rjs_h0 k (i + 1) (ext6 out first (rd (cutV l m) (i + 1))) last first (by omega) (by omega) (by simp [ext6]; omega) hla (by simp [ext6]; omega)
      refine ⟨n0 + n3 + 1, ?_⟩
      rw [q, cond_true, goOn_to]
      simp only [Bool.and_eq_true, decide_eq_true_eq] at q
      obtain ⟨q1, q2⟩ := q
      rw [hsec] at c1 q2
      simp (disch := omega) only [rjsstep, cvT_eq, lst_rows, dlt_t, dgt_t, dgt_f, din_t, wrap_t, cast_succ, toNat_c, w1, w2, w3, w4, w5, w6, q2, Bool.and_true, cond_true, cond_false]
      rw [h3 n0, h0]
    · obtain ⟨n2, h2⟩ := rjs_h1 kind l m hl hm (secR kind l m (rd (cutV l m) i)) (out.length : Int) i hi1 (secR kind l m (rd (cutV l m) i)) (by omega) (secR kind l m (rd (cutV l m) i)).length 0 out (Nat.zero_add _) (by omega)
      obtain ⟨n0, h0⟩ := rjs_h0 k (i + 1) (out ++ put6 (rd (cutV l m) i) (rd (cutV l m) (i + 1)) (secR kind l m (rd (cutV l m) i))) (secR kind l m (rd (cutV l m) i)) out.length (by omega) (by omega) (by simp [put6]; omega) (by omega) (by simp)
      refine ⟨n0 + n2 + 1, ?_⟩
      rw [q, cond_false, goOn_to]
      have h2' := h2 n0
      simp only [List.drop_zero, cast0] at h2'
      have c1' := c1
      rw [hsec] at c1'
      by_cases hi0 : 0 < i
      · rw [decide_eq_true hi0, Bool.true_and, hsec] at q
        simp (disch := omega) only [rjsstep, cvT_eq, lst_rows, dlt_t, dgt_t, dgt_f, din_t, wrap_t, cast_succ, toNat_c, w1, w2, w3, w4, w5, w6, q, Bool.and_true, cond_true, cond_false]
        rw [← h0]; exact h2'
      · simp (disch := omega) only [rjsstep, cvT_eq, lst_rows, dlt_t, dgt_t, dgt_f, din_t, wrap_t, cast_succ, toNat_c, w1, w2, w3, w4, w5, w6, Bool.and_true, cond_true, cond_false]
        rw [← h0]; exact h2'
end
theorem rjs_run (kind : Int) (l m : List R6) (h : jsV_owed kind l m = true) : ∃ N, goOn (rjsstep kind l m) N (rjsstart kind l m) = .ret (jsRet (jsO kind l m)) := by
  obtain ⟨hl, hm⟩ := of_decide_eq_true h
  obtain ⟨N, hN⟩ := rjs_h0 kind l m hl hm ((cutV l m).length - 1) 0 [] [] 0 rfl (Nat.zero_le _) (Nat.zero_le _) (Nat.zero_le _) (Nat.le_refl _)
  refine ⟨N, ?_⟩
  have w1 : cutV_owed l m = true := decide_eq_true ⟨by omega, by omega⟩
  simp only [rjsstart, cvT_eq, lst_rows, w1, cond_true]
  exact hN
noncomputable def fJs : List AVal → Option (AVal × Bool)
  | [.int .i64 x0, a1, a2] => match asL R6 a1, asL R6 a2 with
    | some (L1, g1, n1), some (L2, g2, n2) => some (.tup [.dat (jsV_0 x0 L1 L2).length (rowsT (jsV_0 x0 L1 L2)), .bool (jsV_1 x0 L1 L2)], isT R6 n1 g1 && (isT R6 n2 g2 && (jsV_owed x0 L1 L2)))
    | _, _ => none
  | _ => none
theorem fJs_ok {S : Specs} (hS : SpecsOk Tryz.prog S) : SpecsOk Tryz.prog (S.with nJoin6 fJs) := by
  refine fTwo hS (by kernel_rfl) fun args v h => ?_
  unfold fJs at h
  split at h
  · rename_i x0 a1 a2
    split at h
    · rename_i L1 g1 n1 L2 g2 n2 e1 e2
      simp only [Option.some.injEq, Prod.mk.injEq, Bool.and_eq_true] at h
      obtain ⟨rfl, ho1, ho2, hw⟩ := h
      obtain ⟨N, hN⟩ := rjs_run x0 L1 L2 hw
      refine ⟨_, jsRet (jsO x0 L1 L2), (.cons (.refl _) (.cons (asL_le e1 ho1) (.cons (asL_le e2 ho2) .nil))), ?_, rjs_ends x0 L1 L2 N _ hN, 3, ?_⟩
      · unfold jsV_0 jsV_1
        cases jsO x0 L1 L2 with
        | none => exact fun ρ u hu => tup_le (.cons (nils_le R6) (RLe.refl _)) ρ u hu
        | some out => exact fun ρ u hu => hu
      · cases jsO x0 L1 L2 <;> rfl
    · cases h
  · cases h
noncomputable def T4 : Specs := T3.with nJoin6 fJs
theorem T4_ok : SpecsOk Tryz.prog T4 := fJs_ok T3_ok
end Go.Am
end
section
set_option linter.unusedVariables false
set_option linter.unusedSimpArgs false
namespace Go.Am
open Go.Proofs Go.Sort Go.Shelf Go.RowKit Go.Lib
set_option maxRecDepth 100000
set_option maxHeartbeats 4000000
set_option linter.unusedVariables false
set_option linter.unusedSimpArgs false
def encE (x : E3) : List Value := encT x.1
theorem encE_eq (l : List R3) (h : bndE l = true) : Go.Sort.flatK encE 3 (arrE l h).toArray = Go.Sort.flatK encT 3 l.toArray := by
  have hl := arrE_length l h
  unfold Go.Sort.flatK
  rw [show (arrE l h).toArray.size = l.toArray.size by simpa using hl]
  apply Array.ext
  · simp
  · intro t h1 h2
    simp only [Array.getElem_map, Array.getElem_range]
    have ht : t < l.length * 3 := by simpa using h1
    have hq : t / 3 < l.length := by omega
    congr 1
    rw [getElem!_pos (arrE l h).toArray (t / 3) (by simpa [hl] using hq), getElem!_pos l.toArray (t / 3) (by simpa using hq)]
    unfold encE
    congr 1
    have := arrE_val l h
    have e := congrArg (fun z : List R3 => z[t / 3]?) this
    simp only [List.getElem?_map] at e
    rw [List.getElem?_eq_getElem (by rw [hl]; exact hq), List.getElem?_eq_getElem hq] at e
    simpa using e
theorem flat_val (d : Array E3) : Go.Sort.flatK encE 3 d = Go.Sort.flatK encT 3 (d.toList.map Subtype.val).toArray := by
  unfold Go.Sort.flatK
  rw [show d.size = (d.toList.map Subtype.val).toArray.size by simp]
  apply Array.ext
  · simp
  · intro t h1 h2
    simp only [Array.getElem_map, Array.getElem_range]
    have ht : t < d.size * 3 := by simpa using h1
    have hq : t / 3 < d.size := by omega
    congr 1
    rw [getElem!_pos d (t / 3) hq, getElem!_pos (d.toList.map Subtype.val).toArray (t / 3) (by simpa using hq)]
    simp [encE]
theorem lenIs_srt (l : List R3) : lenIs l.length (srtE (cvT l)).length = true := lenIs_of (by
  rw [cvT_eq]
  by_cases h : bndE l = true
  · exact (srtE_spec l h).1.length_eq.symm
  · unfold srtE; rw [dif_neg h])
theorem isAgg3 : ∀ w, (isAgg (Tryz.sortEnd_ren.t 24)).run Tryz.prog w = .ok true w := fun w => by rfl
theorem size3 : ∀ w, (Go.sizeOf (Tryz.sortEnd_ren.t 24)).run Tryz.prog w = .ok 3 w := fun w => by rfl
theorem sortF_eff : EffOk Tryz.prog nSortF (fSortT R3 srtE bndE nEndsCmp) := by
  refine eff_sortT (fun L => ?_) (fun blk off cap L w hb hH hblk hsz => ?_) fun p cap fv w => AnyF.slices_SortFunc_none Tryz.sortEnd p cap fv w
  · by_cases h : bndE L = true
    · exact (srtE_spec L h).1.length_eq
    · unfold srtE; rw [dif_neg h]
  · have eg : ∀ args w, (callFunc 117 args).run Tryz.prog w = .ok (.enter 117 args) w := enters_of Tryz.func117 (by kernel_rfl) rfl
    have hcmp : CmpLays Tryz.prog 117 #[] encE 3 cf3 blk off (arrE L hb).toArray.size w := fun m os dk _ x y => by
      have hx := of_decide_eq_true x.2
      have hy := of_decide_eq_true y.2
      exact Tryz.cmpEnd x.1.a x.1.b x.1.c y.1.a y.1.b y.1.c hx hy _
    have hH' : HoldsK encE 3 w blk off (arrE L hb).toArray := by
      unfold HoldsK
      rw [encE_eq L hb]; exact hH
    have hcon := AnyQ.slices_SortFunc_eq Tryz.sortEnd 3 isAgg3 size3 encE (fun x => encT_length x.1) (fun x v hv => by
      obtain ⟨a, ha, rfl⟩ := List.mem_map.1 hv
      have : isNum a = true := List.all_eq_true.1 (RowN.num x.1) a ha
      cases a <;> first | rfl | (simp [isNum] at this; done)) cf3 swo3 117 #[] blk off cap (arrE L hb).toArray w eg hcmp hH' hblk (by simpa [arrE_length] using hsz)
    have hs : (arrE L hb).toArray.size = L.length := by simp [arrE_length]
    rw [hs] at hcon
    refine Calls.mono hcon fun e w' ⟨he, n, os, hw⟩ => ⟨he, n, os, ?_⟩
    rw [hw]
    unfold sortWorldK putRowK
    rw [flat_val]
    unfold srtE
    rw [dif_pos hb]
    rfl
def srtI (zs : List Int) : List Int := zs.mergeSort fun x y => decide (x ≤ y)
theorem sortI_eff : EffOk Tryz.prog nSort (fRow srtI) :=
  eff_row (fun zs => List.length_mergeSort zs) (fun blk off cap zs w hH hb hz => Tryz.slices_Sort_int blk off cap zs w hH hb hz) fun p cap w => Tryz.slices_Sort_int_none p cap w
def padI (zs : List Int) : List Int := compact zs ++ List.replicate (zs.length - (compact zs).length) 0
def cmpN (zs : List Int) : Nat := (compact zs).length
theorem padI_length (zs : List Int) : (padI zs).length = zs.length := by have := compact_length_le zs; simp [padI]; omega
theorem lenIs_pad (n : Nat) (c : Nat → Int) : lenIs n (padI (intsOf n c)).length = true := lenIs_of (by rw [padI_length]; simp [intsOf])
theorem grow_none (w : World) : grow w #[] = w := by simp [grow]
theorem compact_eff : EffOk Tryz.prog nCompact (fCut padI cmpN) :=
  eff_cut (fun zs => by have := compact_length_le zs; simp [padI]; omega) (fun zs => compact_length_le zs)
    (fun blk off cap zs w hH hb hz hcap => (Tryz.slices_Compact_int blk off cap zs w hH (by omega) hcap).mono fun e w' ⟨he, q, hw⟩ => ⟨he, q, #[], by rw [hw, grow_none]; rfl⟩)
    fun p cap w => Tryz.slices_Compact_int_empty p cap w
noncomputable def T5 : Specs := ((T4.withE nSortF (fSortT R3 srtE bndE nEndsCmp)).withE nSort (fRow srtI)).withE nCompact (fCut padI cmpN)
theorem T5_ok : SpecsOk Tryz.prog T5 := with_eff (with_eff (with_eff T4_ok (by kernel_rfl) sortF_eff) (by kernel_rfl) sortI_eff) (by kernel_rfl) compact_eff
end Go.Am
end
section
set_option linter.unusedVariables false
set_option linter.unusedSimpArgs false
namespace Go.Am
open Go.Proofs
set_option maxRecDepth 1000000
set_option linter.unusedVariables false
set_option linter.unusedSimpArgs false
set_option maxHeartbeats 4000000
-- h2: owes false (choices [true, true, false, false, true])
-- h2: owes false (choices [true, true, false, false, false, true])
-- h2: owes false (choices [true, true, false, false, false, false, true])
-- h2: owes false (choices [true, true, false, false, false, false, false, true])
-- h2: owes false (choices [true, true, false, false, false, false, false, false, true])
-- h2: index into an array (choices [true, true, false, false, false, false, false, false, false])
-- h2: owes false (choices [true, false, true, false, false, true])
-- h2: owes false (choices [true, false, true, false, false, false, true])
-- h2: owes false (choices [true, false, true, false, false, false, false, true])
-- h2: owes false (choices [true, false, true, false, false, false, false, false, true])
-- h2: owes false (choices [true, false, true, false, false, false, false, false, false, true])
-- h2: index into an array (choices [true, false, true, false, false, false, false, false, false, false])
-- h2: owes false (choices [true, false, false, true, true, false, false, true])
-- h2: owes false (choices [true, false, false, true, true, false, false, false, true])
-- h2: owes false (choices [true, false, false, true, true, false, false, false, false, true])
-- h2: owes false (choices [true, false, false, true, true, false, false, false, false, false, true])
-- h2: owes false (choices [true, false, false, true, true, false, false, false, false, false, false, true])
-- h2: index into an array (choices [true, false, false, true, true, false, false, false, false, false, false, false])
-- h2: owes false (choices [true, false, false, true, false, false, false, true])
-- h2: owes false (choices [true, false, false, true, false, false, false, false, true])
-- h2: owes false (choices [true, false, false, true, false, false, false, false, false, true])
-- h2: owes false (choices [true, false, false, true, false, false, false, false, false, false, true])
-- h2: owes false (choices [true, false, false, true, false, false, false, false, false, false, false, true])
-- h2: index into an array (choices [true, false, false, true, false, false, false, false, false, false, false, false])
-- h2: owes false (choices [true, false, false, false, false, false, true])
-- h2: owes false (choices [true, false, false, false, false, false, false, true])
-- h2: owes false (choices [true, false, false, false, false, false, false, false, true])
-- h2: owes false (choices [true, false, false, false, false, false, false, false, false, true])
-- h2: owes false (choices [true, false, false, false, false, false, false, false, false, false, true])
-- h2: index into an array (choices [true, false, false, false, false, false, false, false, false, false, false])
inductive spmS where
  | h0 (v8 : Int)
  | h1 (v3 : List R3) (v17 : Int)
  | h2 (v5 : List R3) (v6 : Int) (v7 : Int) (v_2_0 : Int) (v_2_1 : Int) (v_3_0 : Int) (v_4_0 : Bool) (v_6_0 : List R2)
noncomputable def spmC (l0 : List R2) : spmS → Cfg
  | .h0 v8 => ⟨⟨19, 0, true⟩, none, (todoP Tryz.prog 112 [1, 0, 1, 0, 0] 0), none, (resultsOf Tryz.prog 4), ⟨envL [(0, (.dat l0.length (rowsT l0))), (1, (.fn 101 [])), (7, (.int .i64 ((l0.length : Nat) : Int))), (8, (.int .i64 v8))], memL [] 0, 0, [], true⟩, [⟨⟨9, 0, true⟩, (regP Tryz.prog 100 [1, 0] 2), (todoP Tryz.prog 100 [1, 0] 1), none, (resultsOf Tryz.prog 4), envL [(5, (.dat l0.length (rowsT l0))), (6, (.fn 101 []))]⟩, ⟨⟨11, 0, true⟩, (regP Tryz.prog 85 [1, 1, 0, 0] 1), (todoP Tryz.prog 85 [1, 1, 0, 0] 1), none, (resultsOf Tryz.prog 63), envL [(0, (.dat l0.length (rowsT l0))), (7, (.dat l0.length (rowsT l0)))]⟩], .leaf⟩
  | .h1 v3 v17 => ⟨⟨38, 0, true⟩, none, (todoP Tryz.prog 114 [1, 1, 0, 1, 0, 0, 1, 1, 0, 0, 1, 1, 0, 0] 0), none, (resultsOf Tryz.prog 8), ⟨envL [(3, (.sla 7 3 0 v3.length (.un 3))), (4, (.int .i64 0)), (8, (.sl 0 0 2 (.un 1))), (9, (.int .i64 2)), (10, (.int .i64 0)), (15, (.dat l0.length (rowsT l0))), (16, (.int .i64 ((l0.length : Nat) : Int))), (17, (.int .i64 v17))], memL [⟨[(.dat l0.length (rowsT l0)), .nils], 123, none⟩, ⟨[(.fn 104 [])], 169, none⟩, ⟨[(.int .i64 0), (.int .i64 0)], 178, none⟩, ⟨[.nils], 123, none⟩, ⟨[(.int .i64 0)], 3, none⟩, ⟨[(.bool false)], 4, none⟩, ⟨[(.fn 113 [(.ptr 5 0), (.ptr 4 0), (.ptr 3 0)])], 179, none⟩, ⟨rows v3.length (rowsT v3), 183, some ⟨3, v3.length, (rowsT v3)⟩⟩] 0, 8, [], true⟩, [⟨⟨42, 0, true⟩, (regP Tryz.prog 103 [1, 1, 1, 1, 1, 0, 0] 3), (todoP Tryz.prog 103 [1, 1, 1, 1, 1, 0, 0] 1), none, (resultsOf Tryz.prog 3), envL [(5, (.ptr 1 0)), (6, .nils), (7, (.ptr 2 0)), (8, (.ptr 3 0)), (9, (.ptr 4 0)), (10, (.ptr 5 0)), (11, (.ptr 6 0)), (16, (.sl 0 0 2 (.un 1)))]⟩, ⟨⟨11, 0, true⟩, (regP Tryz.prog 85 [1, 1, 1, 0] 1), (todoP Tryz.prog 85 [1, 1, 1, 0] 1), none, (resultsOf Tryz.prog 63), envL [(9, (.dat l0.length (rowsT l0)))]⟩], .leaf⟩
  | .h2 v5 v6 v7 v_2_0 v_2_1 v_3_0 v_4_0 v_6_0 => ⟨⟨16, 0, true⟩, none, (todoP Tryz.prog 120 [1, 0, 0] 0), none, [], ⟨envL [(0, (.yld 0)), (5, (.sla 7 3 0 v5.length (.un 3))), (6, (.int .i64 v6)), (7, (.int .i64 v7))], memP [(1, ⟨[(.fn 104 [])], 169, none⟩), (2, ⟨[(.int .i64 v_2_0), (.int .i64 v_2_1)], 178, none⟩), (3, ⟨[(.int .i64 v_3_0)], 3, none⟩), (4, ⟨[(.bool v_4_0)], 4, none⟩), (5, ⟨[(.fn 113 [(.ptr 4 0), (.ptr 3 0), (.ptr 6 0)])], 179, none⟩), (6, ⟨[(.sla 8 2 0 v_6_0.length (.un 2))], 123, none⟩), (7, ⟨rows v5.length (rowsT v5), 183, some ⟨3, v5.length, (rowsT v5)⟩⟩), (8, ⟨rows v_6_0.length (rowsT v_6_0), 129, some ⟨2, v_6_0.length, (rowsT v_6_0)⟩⟩)], 9, [], true⟩, [⟨⟨42, 0, true⟩, none, (.inRangeFunc 0 :: (todoP Tryz.prog 103 [1, 1, 1, 1, 1, 0, 1, 0] 1)), none, (resultsOf Tryz.prog 3), envL [(6, .nils), (8, (.ptr 6 0))]⟩, ⟨⟨11, 0, true⟩, (regP Tryz.prog 85 [1, 1, 1, 0] 1), (todoP Tryz.prog 85 [1, 1, 1, 0] 1), none, (resultsOf Tryz.prog 63), envL [(9, (.dat l0.length (rowsT l0)))]⟩], (lpsL [(0, ⟨.ready, none, 42, envL [(5, (.ptr 1 0)), (7, (.ptr 2 0)), (9, (.ptr 3 0)), (10, (.ptr 4 0)), (11, (.ptr 5 0))], [18], (codeP Tryz.prog 103 [1, 1, 1, 1, 1, 0, 1, 0, 0]), (codeP Tryz.prog 103 [1, 1, 1, 1, 1, 0, 1, 0, 1])⟩)])⟩
noncomputable def spmstep (l0 : List R2) : spmS → Out' spmS
  | .h0 v8 => (bif (decide (v8 < ((l0.length : Nat) : Int))) then (bif ((decide (0 ≤ v8 ∧ v8 < ((l0.length : Nat) : Int))) && true) then (bif (decide ((rd l0 (Int.toNat v8)).a < (rd l0 (Int.toNat v8)).b)) then (bif (decide ((rd l0 (Int.toNat v8)).a ≥ (-1000000))) then (bif (!(decide ((rd l0 (Int.toNat v8)).b ≤ 1000000))) then (bif (decide (v8 ≥ 0)) then (.ret [.nils, (.int .i64 8)]) else (.to (.h1 ([] : List R3) 0))) else (.to (.h0 (IntKind.wrap IntKind.i64 (v8 + 1))))) else (bif (decide (v8 ≥ 0)) then (.ret [.nils, (.int .i64 8)]) else (.to (.h1 ([] : List R3) 0)))) else (bif (decide (v8 ≥ 0)) then (.ret [.nils, (.int .i64 8)]) else (.to (.h1 ([] : List R3) 0)))) else .stuck) else (.to (.h1 ([] : List R3) 0)))
  | .h1 v3 v17 => (bif (decide (v17 < ((l0.length : Nat) : Int))) then (bif ((decide (0 ≤ v17 ∧ v17 < ((l0.length : Nat) : Int))) && true) then (bif (Nat.beq 3 3 && ((decide (0 + v3.length = v3.length)) && decide ((v3.length + 2 + 1) * (24 + 1) ≤ room))) then (.to (.h1 (v3 ++ [(R3.mk (rd l0 (Int.toNat v17)).a 0 1), (R3.mk (rd l0 (Int.toNat v17)).b 0 (-1))]) (IntKind.wrap IntKind.i64 (v17 + 1)))) else .stuck) else .stuck) else (bif (bndE (cvT v3)) then (bif (decide (v3.length < 4611686018427387904)) then (bif (decide (v3.length = v3.length)) then (.to (.h2 (srtE (cvT v3)) ((v3.length : Nat) : Int) 0 0 0 0 false ([] : List R2))) else .stuck) else .stuck) else .stuck))
  | .h2 v5 v6 v7 v_2_0 v_2_1 v_3_0 v_4_0 v_6_0 => (bif (decide (v7 < v6)) then (bif ((decide (0 ≤ v7 ∧ v7 < ((v5.length : Nat) : Int))) && true) then (bif (decide ((0 + (Int.toNat v7)) < v5.length)) then (bif (!v_4_0) then (bif (decide ((rd v5 (0 + (Int.toNat v7))).b = Int.ofNat 0)) then (.to (.h2 v5 v6 (IntKind.wrap IntKind.i64 (v7 + 1)) (IntKind.wrap IntKind.i64 (v_2_0 + (rd v5 (0 + (Int.toNat v7))).c)) v_2_1 (rd v5 (0 + (Int.toNat v7))).a (fstV (decide ((IntKind.wrap IntKind.i64 (v_2_0 + (rd v5 (0 + (Int.toNat v7))).c)) > 0)) (decide (v_2_1 > 0))) v_6_0)) else (bif (decide ((rd v5 (0 + (Int.toNat v7))).b = Int.ofNat 1)) then (.to (.h2 v5 v6 (IntKind.wrap IntKind.i64 (v7 + 1)) v_2_0 (IntKind.wrap IntKind.i64 (v_2_1 + (rd v5 (0 + (Int.toNat v7))).c)) (rd v5 (0 + (Int.toNat v7))).a (fstV (decide (v_2_0 > 0)) (decide ((IntKind.wrap IntKind.i64 (v_2_1 + (rd v5 (0 + (Int.toNat v7))).c)) > 0))) v_6_0)) else (bif (decide ((rd v5 (0 + (Int.toNat v7))).b = Int.ofNat 2)) then .stuck else (bif (decide ((rd v5 (0 + (Int.toNat v7))).b = Int.ofNat 3)) then .stuck else (bif (decide ((rd v5 (0 + (Int.toNat v7))).b = Int.ofNat 4)) then .stuck else (bif (decide ((rd v5 (0 + (Int.toNat v7))).b = Int.ofNat 5)) then .stuck else (bif (decide ((rd v5 (0 + (Int.toNat v7))).b = Int.ofNat 6)) then .stuck else .stuck))))))) else (bif (v_3_0 == (rd v5 (0 + (Int.toNat v7))).a) then (bif (decide ((rd v5 (0 + (Int.toNat v7))).b = Int.ofNat 0)) then (.to (.h2 v5 v6 (IntKind.wrap IntKind.i64 (v7 + 1)) (IntKind.wrap IntKind.i64 (v_2_0 + (rd v5 (0 + (Int.toNat v7))).c)) v_2_1 (rd v5 (0 + (Int.toNat v7))).a (fstV (decide ((IntKind.wrap IntKind.i64 (v_2_0 + (rd v5 (0 + (Int.toNat v7))).c)) > 0)) (decide (v_2_1 > 0))) v_6_0)) else (bif (decide ((rd v5 (0 + (Int.toNat v7))).b = Int.ofNat 1)) then (.to (.h2 v5 v6 (IntKind.wrap IntKind.i64 (v7 + 1)) v_2_0 (IntKind.wrap IntKind.i64 (v_2_1 + (rd v5 (0 + (Int.toNat v7))).c)) (rd v5 (0 + (Int.toNat v7))).a (fstV (decide (v_2_0 > 0)) (decide ((IntKind.wrap IntKind.i64 (v_2_1 + (rd v5 (0 + (Int.toNat v7))).c)) > 0))) v_6_0)) else (bif (decide ((rd v5 (0 + (Int.toNat v7))).b = Int.ofNat 2)) then .stuck else (bif (decide ((rd v5 (0 + (Int.toNat v7))).b = Int.ofNat 3)) then .stuck else (bif (decide ((rd v5 (0 + (Int.toNat v7))).b = Int.ofNat 4)) then .stuck else (bif (decide ((rd v5 (0 + (Int.toNat v7))).b = Int.ofNat 5)) then .stuck else (bif (decide ((rd v5 (0 + (Int.toNat v7))).b = Int.ofNat 6)) then .stuck else .stuck))))))) else (bif (decide (((v_6_0.length : Nat) : Int) > 0)) then (bif ((decide (0 ≤ (IntKind.wrap IntKind.i64 (((v_6_0.length : Nat) : Int) - 1)) ∧ (IntKind.wrap IntKind.i64 (((v_6_0.length : Nat) : Int) - 1)) < ((v_6_0.length : Nat) : Int))) && true) then (bif (decide ((0 + (Int.toNat (IntKind.wrap IntKind.i64 (((v_6_0.length : Nat) : Int) - 1)))) < v_6_0.length)) then (bif ((rd v_6_0 (0 + (Int.toNat (IntKind.wrap IntKind.i64 (((v_6_0.length : Nat) : Int) - 1))))).b == v_3_0) then (bif (decide ((rd v5 (0 + (Int.toNat v7))).b = Int.ofNat 0)) then (.to (.h2 v5 v6 (IntKind.wrap IntKind.i64 (v7 + 1)) (IntKind.wrap IntKind.i64 (v_2_0 + (rd v5 (0 + (Int.toNat v7))).c)) v_2_1 (rd v5 (0 + (Int.toNat v7))).a (fstV (decide ((IntKind.wrap IntKind.i64 (v_2_0 + (rd v5 (0 + (Int.toNat v7))).c)) > 0)) (decide (v_2_1 > 0))) (v_6_0.set (0 + (Int.toNat (IntKind.wrap IntKind.i64 (((v_6_0.length : Nat) : Int) - 1)))) (R2.mk (rd v_6_0 (0 + (Int.toNat (IntKind.wrap IntKind.i64 (((v_6_0.length : Nat) : Int) - 1))))).a (rd v5 (0 + (Int.toNat v7))).a)))) else (bif (decide ((rd v5 (0 + (Int.toNat v7))).b = Int.ofNat 1)) then (.to (.h2 v5 v6 (IntKind.wrap IntKind.i64 (v7 + 1)) v_2_0 (IntKind.wrap IntKind.i64 (v_2_1 + (rd v5 (0 + (Int.toNat v7))).c)) (rd v5 (0 + (Int.toNat v7))).a (fstV (decide (v_2_0 > 0)) (decide ((IntKind.wrap IntKind.i64 (v_2_1 + (rd v5 (0 + (Int.toNat v7))).c)) > 0))) (v_6_0.set (0 + (Int.toNat (IntKind.wrap IntKind.i64 (((v_6_0.length : Nat) : Int) - 1)))) (R2.mk (rd v_6_0 (0 + (Int.toNat (IntKind.wrap IntKind.i64 (((v_6_0.length : Nat) : Int) - 1))))).a (rd v5 (0 + (Int.toNat v7))).a)))) else (bif (decide ((rd v5 (0 + (Int.toNat v7))).b = Int.ofNat 2)) then .stuck else (bif (decide ((rd v5 (0 + (Int.toNat v7))).b = Int.ofNat 3)) then .stuck else (bif (decide ((rd v5 (0 + (Int.toNat v7))).b = Int.ofNat 4)) then .stuck else (bif (decide ((rd v5 (0 + (Int.toNat v7))).b = Int.ofNat 5)) then .stuck else (bif (decide ((rd v5 (0 + (Int.toNat v7))).b = Int.ofNat 6)) then .stuck else .stuck))))))) else (bif (Nat.beq 2 2 && ((decide (0 + v_6_0.length = v_6_0.length)) && decide ((v_6_0.length + 1 + 1) * (16 + 1) ≤ room))) then (bif (decide ((rd v5 (0 + (Int.toNat v7))).b = Int.ofNat 0)) then (.to (.h2 v5 v6 (IntKind.wrap IntKind.i64 (v7 + 1)) (IntKind.wrap IntKind.i64 (v_2_0 + (rd v5 (0 + (Int.toNat v7))).c)) v_2_1 (rd v5 (0 + (Int.toNat v7))).a (fstV (decide ((IntKind.wrap IntKind.i64 (v_2_0 + (rd v5 (0 + (Int.toNat v7))).c)) > 0)) (decide (v_2_1 > 0))) (v_6_0 ++ [(R2.mk v_3_0 (rd v5 (0 + (Int.toNat v7))).a)]))) else (bif (decide ((rd v5 (0 + (Int.toNat v7))).b = Int.ofNat 1)) then (.to (.h2 v5 v6 (IntKind.wrap IntKind.i64 (v7 + 1)) v_2_0 (IntKind.wrap IntKind.i64 (v_2_1 + (rd v5 (0 + (Int.toNat v7))).c)) (rd v5 (0 + (Int.toNat v7))).a (fstV (decide (v_2_0 > 0)) (decide ((IntKind.wrap IntKind.i64 (v_2_1 + (rd v5 (0 + (Int.toNat v7))).c)) > 0))) (v_6_0 ++ [(R2.mk v_3_0 (rd v5 (0 + (Int.toNat v7))).a)]))) else (bif (decide ((rd v5 (0 + (Int.toNat v7))).b = Int.ofNat 2)) then .stuck else (bif (decide ((rd v5 (0 + (Int.toNat v7))).b = Int.ofNat 3)) then .stuck else (bif (decide ((rd v5 (0 + (Int.toNat v7))).b = Int.ofNat 4)) then .stuck else (bif (decide ((rd v5 (0 + (Int.toNat v7))).b = Int.ofNat 5)) then .stuck else (bif (decide ((rd v5 (0 + (Int.toNat v7))).b = Int.ofNat 6)) then .stuck else .stuck))))))) else .stuck)) else .stuck) else .stuck) else (bif (Nat.beq 2 2 && ((decide (0 + v_6_0.length = v_6_0.length)) && decide ((v_6_0.length + 1 + 1) * (16 + 1) ≤ room))) then (bif (decide ((rd v5 (0 + (Int.toNat v7))).b = Int.ofNat 0)) then (.to (.h2 v5 v6 (IntKind.wrap IntKind.i64 (v7 + 1)) (IntKind.wrap IntKind.i64 (v_2_0 + (rd v5 (0 + (Int.toNat v7))).c)) v_2_1 (rd v5 (0 + (Int.toNat v7))).a (fstV (decide ((IntKind.wrap IntKind.i64 (v_2_0 + (rd v5 (0 + (Int.toNat v7))).c)) > 0)) (decide (v_2_1 > 0))) (v_6_0 ++ [(R2.mk v_3_0 (rd v5 (0 + (Int.toNat v7))).a)]))) else (bif (decide ((rd v5 (0 + (Int.toNat v7))).b = Int.ofNat 1)) then (.to (.h2 v5 v6 (IntKind.wrap IntKind.i64 (v7 + 1)) v_2_0 (IntKind.wrap IntKind.i64 (v_2_1 + (rd v5 (0 + (Int.toNat v7))).c)) (rd v5 (0 + (Int.toNat v7))).a (fstV (decide (v_2_0 > 0)) (decide ((IntKind.wrap IntKind.i64 (v_2_1 + (rd v5 (0 + (Int.toNat v7))).c)) > 0))) (v_6_0 ++ [(R2.mk v_3_0 (rd v5 (0 + (Int.toNat v7))).a)]))) else (bif (decide ((rd v5 (0 + (Int.toNat v7))).b = Int.ofNat 2)) then .stuck else (bif (decide ((rd v5 (0 + (Int.toNat v7))).b = Int.ofNat 3)) then .stuck else (bif (decide ((rd v5 (0 + (Int.toNat v7))).b = Int.ofNat 4)) then .stuck else (bif (decide ((rd v5 (0 + (Int.toNat v7))).b = Int.ofNat 5)) then .stuck else (bif (decide ((rd v5 (0 + (Int.toNat v7))).b = Int.ofNat 6)) then .stuck else .stuck))))))) else .stuck)))) else .stuck) else .stuck) else (.ret [(.dat v_6_0.length (rowsT v_6_0)), (.int .i64 0)]))
noncomputable def spmstart (l0 : List R2) : Out' spmS := (bif (decide (((l0.length : Nat) : Int) > 400)) then (.ret [.nils, (.int .i64 4)]) else (.to (.h0 0)))
theorem spmstep_ok (l0 : List R2) : ∀ s, Lead Tryz.prog (resultsOf Tryz.prog 85) (spmC l0) (spmC l0 s) (spmstep l0 s)
  | .h0 v8 => (lead_bif (fun k0 => (lead_owe fun o1_0 => (lead_bif (fun k1 => (lead_bif (fun k2 => (lead_bif (fun k3 => (lead_bif (fun k4 => (lr 11 85 [1, 1, 0, 1, 0, 0] 1 63 [(2, .nils), (3, (.int .i64 8))] (sl T5_ok 79 [] ⟨[], [], [some [2, 3]], []⟩ ⟨[], [], []⟩ (trs 9 []) (tt k4 (tt k3 (tt k2 (tt k1 (ww o1_0 (tt k0 nn))))))))) (fun k4 => (sl T5_ok 154 [(183, 3, rowsT ([] : List R3))] ⟨[8, 2, 3, 4, 5, 6, 7, 9], [], [some [3, 4, 8, 9, 10, 15, 16, 17], some [5, 6, 7, 8, 9, 10, 11, 16], some [9]], []⟩ ⟨[(3, .grow 7 3)], [], []⟩ (trs 8 [false, true]) (pp (fl ([] : List R3) nn) (tt k4 (tt k3 (tt k2 (tt k1 (ww o1_0 (tt k0 nn))))))))))) (fun k3 => (sl T5_ok 69 [] ⟨[], [], [some [0, 1, 7, 8], some [5, 6], some [0, 7]], []⟩ ⟨[], [], []⟩ (trs 7 [false]) (tt k3 (tt k2 (tt k1 (ww o1_0 (tt k0 nn))))))))) (fun k2 => (lead_bif (fun k3 => (lr 11 85 [1, 1, 0, 1, 0, 0] 1 63 [(2, .nils), (3, (.int .i64 8))] (sl T5_ok 79 [] ⟨[], [], [some [2, 3]], []⟩ ⟨[], [], []⟩ (trs 4 [false, false, false, true, true]) (tt k3 (tt k2 (tt k1 (ww o1_0 (tt k0 nn)))))))) (fun k3 => (sl T5_ok 154 [(183, 3, rowsT ([] : List R3))] ⟨[8, 2, 3, 4, 5, 6, 7, 9], [], [some [3, 4, 8, 9, 10, 15, 16, 17], some [5, 6, 7, 8, 9, 10, 11, 16], some [9]], []⟩ ⟨[(3, .grow 7 3)], [], []⟩ (trs 4 [false, false, false, true, false, true]) (pp (fl ([] : List R3) nn) (tt k3 (tt k2 (tt k1 (ww o1_0 (tt k0 nn)))))))))))) (fun k1 => (lead_bif (fun k2 => (lr 11 85 [1, 1, 0, 1, 0, 0] 1 63 [(2, .nils), (3, (.int .i64 8))] (sl T5_ok 79 [] ⟨[], [], [some [2, 3]], []⟩ ⟨[], [], []⟩ [true, false, false, false, false, false, false, true, true] (tt k2 (tt k1 (ww o1_0 (tt k0 nn))))))) (fun k2 => (sl T5_ok 154 [(183, 3, rowsT ([] : List R3))] ⟨[8, 2, 3, 4, 5, 6, 7, 9], [], [some [3, 4, 8, 9, 10, 15, 16, 17], some [5, 6, 7, 8, 9, 10, 11, 16], some [9]], []⟩ ⟨[(3, .grow 7 3)], [], []⟩ [true, false, false, false, false, false, false, true, false, true] (pp (fl ([] : List R3) nn) (tt k2 (tt k1 (ww o1_0 (tt k0 nn)))))))))))) (fun k0 => (sl T5_ok 98 [(183, 3, rowsT ([] : List R3))] ⟨[6, 0, 1, 2, 3, 4, 5, 7], [], [some [3, 4, 8, 9, 10, 15, 16, 17], some [5, 6, 7, 8, 9, 10, 11, 16], some [9]], []⟩ ⟨[(3, .grow 7 3)], [], []⟩ [false, false, true] (pp (fl ([] : List R3) nn) (tt k0 nn)))))
  | .h1 v3 v17 => (lead_bif (fun k0 => (lead_owe fun o0 => (lead_owe fun o1 => (sl T5_ok 36 [] ⟨[0, 1, 2, 3, 4, 5, 6, 10], [], [some [3, 4, 8, 9, 10, 15, 16, 17], some [5, 6, 7, 8, 9, 10, 11, 16], some [9]], []⟩ ⟨[(3, .len (v3 ++ [(R3.mk (rd l0 (Int.toNat v17)).a 0 1), (R3.mk (rd l0 (Int.toNat v17)).b 0 (-1))]).length)], [.keep, .keep, .keep, .keep, .keep, .keep, .keep, .rowed 3 (v3 ++ [(R3.mk (rd l0 (Int.toNat v17)).a 0 1), (R3.mk (rd l0 (Int.toNat v17)).b 0 (-1))]).length (rowsT (v3 ++ [(R3.mk (rd l0 (Int.toNat v17)).a 0 1), (R3.mk (rd l0 (Int.toNat v17)).b 0 (-1))]))], []⟩ [true] (pp (xL (v3.length + 2) (v3 ++ [(R3.mk (rd l0 (Int.toNat v17)).a 0 1), (R3.mk (rd l0 (Int.toNat v17)).b 0 (-1))]).length) (pp (xL (v3.length + 2) (v3 ++ [(R3.mk (rd l0 (Int.toNat v17)).a 0 1), (R3.mk (rd l0 (Int.toNat v17)).b 0 (-1))]).length) (pp (xS (v3.length + 2) (appRow (rowsT v3) 0 v3.length 3 [(.int .i64 (rd l0 (Int.toNat v17)).a), (.int .i64 0), (.int .i64 1), (.int .i64 (rd l0 (Int.toNat v17)).b), (.int .i64 0), (.int .i64 (-1))]) (rowsT (v3 ++ [(R3.mk (rd l0 (Int.toNat v17)).a 0 1), (R3.mk (rd l0 (Int.toNat v17)).b 0 (-1))]))) (pp (pp (xF (appRow (rowsT v3) 0 v3.length 3 [(.int .i64 (rd l0 (Int.toNat v17)).a), (.int .i64 0), (.int .i64 1), (.int .i64 (rd l0 (Int.toNat v17)).b), (.int .i64 0), (.int .i64 (-1))])) nn) (ww o1 (ww o0 (tt k0 nn))))))))))) (fun k0 => (lead_owe fun o0 => (lead_owe fun o1 => (lead_owe fun o2 => (sl T5_ok 92 [(129, 2, rowsT ([] : List R2))] ⟨[9, 1, 2, 4, 5, 6, 3, 7, 10], [], [some [0, 5, 6, 7], some [6, 8], some [9]], [some [5, 7, 9, 10, 11], none, none, none, none, none, none, none, none]⟩ ⟨[(5, .len (srtE (cvT v3)).length)], [.keep, .keep, .keep, .keep, .keep, .keep, .cells [.grow 8 2], .rowed 3 (srtE (cvT v3)).length (rowsT (srtE (cvT v3))), .keep], []⟩ [false, true, false, false] (pp (xL v3.length (srtE (cvT v3)).length (by first | exact lenIs_srt _ | exact lenIs_of rfl)) (pp (xL v3.length (srtE (cvT v3)).length (by first | exact lenIs_srt _ | exact lenIs_of rfl)) (pp (xS v3.length (rowsT (srtE (cvT v3))) (rowsT (srtE (cvT v3)))) (pp (fl (srtE (cvT v3)) (fl ([] : List R2) nn)) (pp (pp (xG (Nat.beq 3 3)) (pp (xG (Nat.beq 3 3)) (pp (xG (Nat.beq 0 0)) (pp (pp (xG (decide (v3.length = v3.length))) (pp (xr v3) (xG (decide (v3.length < 4611686018427387904))))) (xG (bndE (cvT v3))))))) (tt k0 nn))))))))))))
  | .h2 v5 v6 v7 v_2_0 v_2_1 v_3_0 v_4_0 v_6_0 => (lead_bif (fun k0 => (lead_owe fun o1_0 => (lead_owe fun o1_1 => (lead_bif (fun k1 => (lead_bif (fun k2 => (sl T5_ok 62 [] ⟨[0, 1, 2, 3, 4, 5, 6, 7, 8], [], [some [0, 5, 6, 7], some [6, 8], some [9]], [some [5, 7, 9, 10, 11], none, none, none, none, none, none, none, none]⟩ ⟨[], [], []⟩ (trs 5 [false, false, false]) (pp (fl v5 (fl v_6_0 nn)) (ww k2 (tt k1 (ww o1_1 (ww o1_0 (tt k0 nn)))))))) (fun k2 => (lead_bif (fun k3 => (sl T5_ok 62 [] ⟨[0, 1, 2, 3, 4, 5, 6, 7, 8], [], [some [0, 5, 6, 7], some [6, 8], some [9]], [some [5, 7, 9, 10, 11], none, none, none, none, none, none, none, none]⟩ ⟨[], [], []⟩ (trs 6 [false, true, false, false]) (pp (fl v5 (fl v_6_0 nn)) (ww k3 (tt k1 (ww o1_1 (ww o1_0 (tt k0 nn)))))))) (fun k3 => (lead_bif (fun k4 => trivial) (fun k4 => (lead_bif (fun k5 => trivial) (fun k5 => (lead_bif (fun k6 => trivial) (fun k6 => (lead_bif (fun k7 => trivial) (fun k7 => (lead_bif (fun k8 => trivial) (fun k8 => trivial))))))))))))))) (fun k1 => (lead_bif (fun k2 => (lead_bif (fun k3 => (sl T5_ok 62 [] ⟨[0, 1, 2, 3, 4, 5, 6, 7, 8], [], [some [0, 5, 6, 7], some [6, 8], some [9]], [some [5, 7, 9, 10, 11], none, none, none, none, none, none, none, none]⟩ ⟨[], [], []⟩ [true, false, false, false, true, false, false, false] (pp (fl v5 (fl v_6_0 nn)) (ww k3 (tt k2 (tt k1 (ww o1_1 (ww o1_0 (tt k0 nn))))))))) (fun k3 => (lead_bif (fun k4 => (sl T5_ok 62 [] ⟨[0, 1, 2, 3, 4, 5, 6, 7, 8], [], [some [0, 5, 6, 7], some [6, 8], some [9]], [some [5, 7, 9, 10, 11], none, none, none, none, none, none, none, none]⟩ ⟨[], [], []⟩ [true, false, false, false, true, true, false, true, false, false] (pp (fl v5 (fl v_6_0 nn)) (ww k4 (tt k2 (tt k1 (ww o1_1 (ww o1_0 (tt k0 nn))))))))) (fun k4 => (lead_bif (fun k5 => trivial) (fun k5 => (lead_bif (fun k6 => trivial) (fun k6 => (lead_bif (fun k7 => trivial) (fun k7 => (lead_bif (fun k8 => trivial) (fun k8 => (lead_bif (fun k9 => trivial) (fun k9 => trivial))))))))))))))) (fun k2 => (lead_bif (fun k3 => (lead_owe fun o4_0 => (lead_owe fun o4_1 => (lead_bif (fun k4 => (lead_bif (fun k5 => (sl T5_ok 81 [] ⟨[0, 1, 2, 3, 4, 5, 6, 7, 8], [], [some [0, 5, 6, 7], some [6, 8], some [9]], [some [5, 7, 9, 10, 11], none, none, none, none, none, none, none, none]⟩ ⟨[], [.keep, .keep, .keep, .keep, .keep, .keep, .cells [.len (v_6_0.set (0 + (Int.toNat (IntKind.wrap IntKind.i64 (((v_6_0.length : Nat) : Int) - 1)))) (R2.mk (rd v_6_0 (0 + (Int.toNat (IntKind.wrap IntKind.i64 (((v_6_0.length : Nat) : Int) - 1))))).a (rd v5 (0 + (Int.toNat v7))).a)).length], .keep, .rowed 2 (v_6_0.set (0 + (Int.toNat (IntKind.wrap IntKind.i64 (((v_6_0.length : Nat) : Int) - 1)))) (R2.mk (rd v_6_0 (0 + (Int.toNat (IntKind.wrap IntKind.i64 (((v_6_0.length : Nat) : Int) - 1))))).a (rd v5 (0 + (Int.toNat v7))).a)).length (rowsT (v_6_0.set (0 + (Int.toNat (IntKind.wrap IntKind.i64 (((v_6_0.length : Nat) : Int) - 1)))) (R2.mk (rd v_6_0 (0 + (Int.toNat (IntKind.wrap IntKind.i64 (((v_6_0.length : Nat) : Int) - 1))))).a (rd v5 (0 + (Int.toNat v7))).a)))], []⟩ [true, false, false, false, false, true, true, true, true, true, true, true, true, true, false, false, false] (pp (xL v_6_0.length (v_6_0.set (0 + (Int.toNat (IntKind.wrap IntKind.i64 (((v_6_0.length : Nat) : Int) - 1)))) (R2.mk (rd v_6_0 (0 + (Int.toNat (IntKind.wrap IntKind.i64 (((v_6_0.length : Nat) : Int) - 1))))).a (rd v5 (0 + (Int.toNat v7))).a)).length) (pp (xL v_6_0.length (v_6_0.set (0 + (Int.toNat (IntKind.wrap IntKind.i64 (((v_6_0.length : Nat) : Int) - 1)))) (R2.mk (rd v_6_0 (0 + (Int.toNat (IntKind.wrap IntKind.i64 (((v_6_0.length : Nat) : Int) - 1))))).a (rd v5 (0 + (Int.toNat v7))).a)).length) (pp (xS v_6_0.length (updRow (rowsT v_6_0) (0 + (Int.toNat (IntKind.wrap IntKind.i64 (((v_6_0.length : Nat) : Int) - 1)))) 1 [(.int .i64 (rd v5 (0 + (Int.toNat v7))).a)]) (rowsT (v_6_0.set (0 + (Int.toNat (IntKind.wrap IntKind.i64 (((v_6_0.length : Nat) : Int) - 1)))) (R2.mk (rd v_6_0 (0 + (Int.toNat (IntKind.wrap IntKind.i64 (((v_6_0.length : Nat) : Int) - 1))))).a (rd v5 (0 + (Int.toNat v7))).a)))) (pp (fl v5 (pp (xF (updRow (rowsT v_6_0) (0 + (Int.toNat (IntKind.wrap IntKind.i64 (((v_6_0.length : Nat) : Int) - 1)))) 1 [(.int .i64 (rd v5 (0 + (Int.toNat v7))).a)])) nn)) (ww k5 (ww o4_1 (ww o4_0 (tt k4 (ww o4_1 (ww o4_0 (tt k3 (tt k2 (tt k1 (ww o1_1 (ww o1_0 (tt k0 nn)))))))))))))))))) (fun k5 => (lead_bif (fun k6 => (sl T5_ok 81 [] ⟨[0, 1, 2, 3, 4, 5, 6, 7, 8], [], [some [0, 5, 6, 7], some [6, 8], some [9]], [some [5, 7, 9, 10, 11], none, none, none, none, none, none, none, none]⟩ ⟨[], [.keep, .keep, .keep, .keep, .keep, .keep, .cells [.len (v_6_0.set (0 + (Int.toNat (IntKind.wrap IntKind.i64 (((v_6_0.length : Nat) : Int) - 1)))) (R2.mk (rd v_6_0 (0 + (Int.toNat (IntKind.wrap IntKind.i64 (((v_6_0.length : Nat) : Int) - 1))))).a (rd v5 (0 + (Int.toNat v7))).a)).length], .keep, .rowed 2 (v_6_0.set (0 + (Int.toNat (IntKind.wrap IntKind.i64 (((v_6_0.length : Nat) : Int) - 1)))) (R2.mk (rd v_6_0 (0 + (Int.toNat (IntKind.wrap IntKind.i64 (((v_6_0.length : Nat) : Int) - 1))))).a (rd v5 (0 + (Int.toNat v7))).a)).length (rowsT (v_6_0.set (0 + (Int.toNat (IntKind.wrap IntKind.i64 (((v_6_0.length : Nat) : Int) - 1)))) (R2.mk (rd v_6_0 (0 + (Int.toNat (IntKind.wrap IntKind.i64 (((v_6_0.length : Nat) : Int) - 1))))).a (rd v5 (0 + (Int.toNat v7))).a)))], []⟩ [true, false, false, false, false, true, true, true, true, true, true, true, true, true, true, false, true, false, false] (pp (xL v_6_0.length (v_6_0.set (0 + (Int.toNat (IntKind.wrap IntKind.i64 (((v_6_0.length : Nat) : Int) - 1)))) (R2.mk (rd v_6_0 (0 + (Int.toNat (IntKind.wrap IntKind.i64 (((v_6_0.length : Nat) : Int) - 1))))).a (rd v5 (0 + (Int.toNat v7))).a)).length) (pp (xL v_6_0.length (v_6_0.set (0 + (Int.toNat (IntKind.wrap IntKind.i64 (((v_6_0.length : Nat) : Int) - 1)))) (R2.mk (rd v_6_0 (0 + (Int.toNat (IntKind.wrap IntKind.i64 (((v_6_0.length : Nat) : Int) - 1))))).a (rd v5 (0 + (Int.toNat v7))).a)).length) (pp (xS v_6_0.length (updRow (rowsT v_6_0) (0 + (Int.toNat (IntKind.wrap IntKind.i64 (((v_6_0.length : Nat) : Int) - 1)))) 1 [(.int .i64 (rd v5 (0 + (Int.toNat v7))).a)]) (rowsT (v_6_0.set (0 + (Int.toNat (IntKind.wrap IntKind.i64 (((v_6_0.length : Nat) : Int) - 1)))) (R2.mk (rd v_6_0 (0 + (Int.toNat (IntKind.wrap IntKind.i64 (((v_6_0.length : Nat) : Int) - 1))))).a (rd v5 (0 + (Int.toNat v7))).a)))) (pp (fl v5 (pp (xF (updRow (rowsT v_6_0) (0 + (Int.toNat (IntKind.wrap IntKind.i64 (((v_6_0.length : Nat) : Int) - 1)))) 1 [(.int .i64 (rd v5 (0 + (Int.toNat v7))).a)])) nn)) (ww k6 (ww o4_1 (ww o4_0 (tt k4 (ww o4_1 (ww o4_0 (tt k3 (tt k2 (tt k1 (ww o1_1 (ww o1_0 (tt k0 nn)))))))))))))))))) (fun k6 => (lead_bif (fun k7 => trivial) (fun k7 => (lead_bif (fun k8 => trivial) (fun k8 => (lead_bif (fun k9 => trivial) (fun k9 => (lead_bif (fun k10 => trivial) (fun k10 => (lead_bif (fun k11 => trivial) (fun k11 => trivial))))))))))))))) (fun k4 => (lead_owe fun o5_0 => (lead_bif (fun k5 => (sl T5_ok 81 [] ⟨[0, 1, 2, 3, 4, 5, 6, 7, 12], [], [some [0, 5, 6, 7], some [6, 8], some [9]], [some [5, 7, 9, 10, 11], none, none, none, none, none, none, none, none]⟩ ⟨[], [.keep, .keep, .keep, .keep, .keep, .keep, .cells [.len (v_6_0 ++ [(R2.mk v_3_0 (rd v5 (0 + (Int.toNat v7))).a)]).length], .keep, .rowed 2 (v_6_0 ++ [(R2.mk v_3_0 (rd v5 (0 + (Int.toNat v7))).a)]).length (rowsT (v_6_0 ++ [(R2.mk v_3_0 (rd v5 (0 + (Int.toNat v7))).a)]))], []⟩ [true, false, false, false, false, true, true, true, true, true, true, true, true, false, false, false, false] (pp (xL (v_6_0.length + 1) (v_6_0 ++ [(R2.mk v_3_0 (rd v5 (0 + (Int.toNat v7))).a)]).length) (pp (xL (v_6_0.length + 1) (v_6_0 ++ [(R2.mk v_3_0 (rd v5 (0 + (Int.toNat v7))).a)]).length) (pp (xS (v_6_0.length + 1) (appRow (rowsT v_6_0) 0 v_6_0.length 2 [(.int .i64 v_3_0), (.int .i64 (rd v5 (0 + (Int.toNat v7))).a)]) (rowsT (v_6_0 ++ [(R2.mk v_3_0 (rd v5 (0 + (Int.toNat v7))).a)]))) (pp (fl v5 (pp (xF (appRow (rowsT v_6_0) 0 v_6_0.length 2 [(.int .i64 v_3_0), (.int .i64 (rd v5 (0 + (Int.toNat v7))).a)])) nn)) (ww k5 (ww o5_0 (tt k4 (ww o4_1 (ww o4_0 (tt k3 (tt k2 (tt k1 (ww o1_1 (ww o1_0 (tt k0 nn))))))))))))))))) (fun k5 => (lead_bif (fun k6 => (sl T5_ok 81 [] ⟨[0, 1, 2, 3, 4, 5, 6, 7, 12], [], [some [0, 5, 6, 7], some [6, 8], some [9]], [some [5, 7, 9, 10, 11], none, none, none, none, none, none, none, none]⟩ ⟨[], [.keep, .keep, .keep, .keep, .keep, .keep, .cells [.len (v_6_0 ++ [(R2.mk v_3_0 (rd v5 (0 + (Int.toNat v7))).a)]).length], .keep, .rowed 2 (v_6_0 ++ [(R2.mk v_3_0 (rd v5 (0 + (Int.toNat v7))).a)]).length (rowsT (v_6_0 ++ [(R2.mk v_3_0 (rd v5 (0 + (Int.toNat v7))).a)]))], []⟩ [true, false, false, false, false, true, true, true, true, true, true, true, true, false, true, false, true, false, false] (pp (xL (v_6_0.length + 1) (v_6_0 ++ [(R2.mk v_3_0 (rd v5 (0 + (Int.toNat v7))).a)]).length) (pp (xL (v_6_0.length + 1) (v_6_0 ++ [(R2.mk v_3_0 (rd v5 (0 + (Int.toNat v7))).a)]).length) (pp (xS (v_6_0.length + 1) (appRow (rowsT v_6_0) 0 v_6_0.length 2 [(.int .i64 v_3_0), (.int .i64 (rd v5 (0 + (Int.toNat v7))).a)]) (rowsT (v_6_0 ++ [(R2.mk v_3_0 (rd v5 (0 + (Int.toNat v7))).a)]))) (pp (fl v5 (pp (xF (appRow (rowsT v_6_0) 0 v_6_0.length 2 [(.int .i64 v_3_0), (.int .i64 (rd v5 (0 + (Int.toNat v7))).a)])) nn)) (ww k6 (ww o5_0 (tt k4 (ww o4_1 (ww o4_0 (tt k3 (tt k2 (tt k1 (ww o1_1 (ww o1_0 (tt k0 nn))))))))))))))))) (fun k6 => (lead_bif (fun k7 => trivial) (fun k7 => (lead_bif (fun k8 => trivial) (fun k8 => (lead_bif (fun k9 => trivial) (fun k9 => (lead_bif (fun k10 => trivial) (fun k10 => (lead_bif (fun k11 => trivial) (fun k11 => trivial)))))))))))))))))))) (fun k3 => (lead_owe fun o4_0 => (lead_bif (fun k4 => (sl T5_ok 81 [] ⟨[0, 1, 2, 3, 4, 5, 6, 7, 12], [], [some [0, 5, 6, 7], some [6, 8], some [9]], [some [5, 7, 9, 10, 11], none, none, none, none, none, none, none, none]⟩ ⟨[], [.keep, .keep, .keep, .keep, .keep, .keep, .cells [.len (v_6_0 ++ [(R2.mk v_3_0 (rd v5 (0 + (Int.toNat v7))).a)]).length], .keep, .rowed 2 (v_6_0 ++ [(R2.mk v_3_0 (rd v5 (0 + (Int.toNat v7))).a)]).length (rowsT (v_6_0 ++ [(R2.mk v_3_0 (rd v5 (0 + (Int.toNat v7))).a)]))], []⟩ [true, false, false, false, false, false, false, false, false, false, false, false, false, false, false, false, false] (pp (xL (v_6_0.length + 1) (v_6_0 ++ [(R2.mk v_3_0 (rd v5 (0 + (Int.toNat v7))).a)]).length) (pp (xL (v_6_0.length + 1) (v_6_0 ++ [(R2.mk v_3_0 (rd v5 (0 + (Int.toNat v7))).a)]).length) (pp (xS (v_6_0.length + 1) (appRow (rowsT v_6_0) 0 v_6_0.length 2 [(.int .i64 v_3_0), (.int .i64 (rd v5 (0 + (Int.toNat v7))).a)]) (rowsT (v_6_0 ++ [(R2.mk v_3_0 (rd v5 (0 + (Int.toNat v7))).a)]))) (pp (fl v5 (pp (xF (appRow (rowsT v_6_0) 0 v_6_0.length 2 [(.int .i64 v_3_0), (.int .i64 (rd v5 (0 + (Int.toNat v7))).a)])) nn)) (ww k4 (ww o4_0 (tt k3 (tt k2 (tt k1 (ww o1_1 (ww o1_0 (tt k0 nn)))))))))))))) (fun k4 => (lead_bif (fun k5 => (sl T5_ok 81 [] ⟨[0, 1, 2, 3, 4, 5, 6, 7, 12], [], [some [0, 5, 6, 7], some [6, 8], some [9]], [some [5, 7, 9, 10, 11], none, none, none, none, none, none, none, none]⟩ ⟨[], [.keep, .keep, .keep, .keep, .keep, .keep, .cells [.len (v_6_0 ++ [(R2.mk v_3_0 (rd v5 (0 + (Int.toNat v7))).a)]).length], .keep, .rowed 2 (v_6_0 ++ [(R2.mk v_3_0 (rd v5 (0 + (Int.toNat v7))).a)]).length (rowsT (v_6_0 ++ [(R2.mk v_3_0 (rd v5 (0 + (Int.toNat v7))).a)]))], []⟩ [true, false, false, false, false, false, false, false, false, false, false, false, false, false, true, false, true, false, false] (pp (xL (v_6_0.length + 1) (v_6_0 ++ [(R2.mk v_3_0 (rd v5 (0 + (Int.toNat v7))).a)]).length) (pp (xL (v_6_0.length + 1) (v_6_0 ++ [(R2.mk v_3_0 (rd v5 (0 + (Int.toNat v7))).a)]).length) (pp (xS (v_6_0.length + 1) (appRow (rowsT v_6_0) 0 v_6_0.length 2 [(.int .i64 v_3_0), (.int .i64 (rd v5 (0 + (Int.toNat v7))).a)]) (rowsT (v_6_0 ++ [(R2.mk v_3_0 (rd v5 (0 + (Int.toNat v7))).a)]))) (pp (fl v5 (pp (xF (appRow (rowsT v_6_0) 0 v_6_0.length 2 [(.int .i64 v_3_0), (.int .i64 (rd v5 (0 + (Int.toNat v7))).a)])) nn)) (ww k5 (ww o4_0 (tt k3 (tt k2 (tt k1 (ww o1_1 (ww o1_0 (tt k0 nn)))))))))))))) (fun k5 => (lead_bif (fun k6 => trivial) (fun k6 => (lead_bif (fun k7 => trivial) (fun k7 => (lead_bif (fun k8 => trivial) (fun k8 => (lead_bif (fun k9 => trivial) (fun k9 => (lead_bif (fun k10 => trivial) (fun k10 => trivial)))))))))))))))))))))))) (fun k0 => (lr 11 3 [1, 1, 1, 1, 1, 1, 0] 1 63 [(2, (.dat v_6_0.length (rowsT v_6_0))), (3, (.int .i64 0))] (sl T5_ok 19 [] ⟨[], [8], [some [2, 3]], []⟩ ⟨[(2, .frz v_6_0.length v_6_0.length (rowsT v_6_0) (rowsT v_6_0))], [], []⟩ [false] (pp (xZ (frzS 2 2 0 v_6_0.length v_6_0.length (rowsT v_6_0)) v_6_0.length (rowsT v_6_0)) (pp (xL v_6_0.length v_6_0.length) (pp (xS v_6_0.length (rowsT v_6_0) (rowsT v_6_0)) (pp (fl v_6_0 nn) (tt k0 nn)))))))))
theorem spmstart_ok (l0 : List R2) : Lead Tryz.prog (resultsOf Tryz.prog 85) (spmC l0) (startC Tryz.prog 85 [(.dat l0.length (rowsT l0))] true []) (spmstart l0) := (lead_bif (fun k0 => (lr 11 85 [1, 0, 1, 0, 0] 1 63 [(2, .nils), (3, (.int .i64 4))] (sl T5_ok 18 [] ⟨[], [], [some [2, 3]], []⟩ ⟨[], [], []⟩ [true] (tt k0 nn)))) (fun k0 => (sl T5_ok 41 [] ⟨[], [], [some [0, 1, 7, 8], some [5, 6], some [0, 7]], []⟩ ⟨[], [], []⟩ [false] (tt k0 nn))))
theorem spm_ends (l0 : List R2) (n : Nat) (vs : List AVal) (h : goOn (spmstep l0) n (spmstart l0) = .ret vs) : Ends Tryz.prog (resultsOf Tryz.prog 85) (startC Tryz.prog 85 [(.dat l0.length (rowsT l0))] true []) vs := by
  have := goOn_lead (spmstep_ok l0) n _ (spmstart_ok l0)
  rwa [h] at this
end Go.Am
end
section
set_option linter.unusedVariables false
set_option linter.unusedSimpArgs false
namespace Go.Am
open Go.Proofs
set_option maxRecDepth 100000
set_option maxHeartbeats 8000000
set_option linter.unusedVariables false
set_option linter.unusedSimpArgs false
def val2 (s : R2) : Bool := decide (s.a < s.b) && (decide (s.a ≥ -1000000) && decide (s.b ≤ 1000000))
def endsV (l : List R2) : List R3 := l.flatMap fun s => [⟨s.a, 0, 1⟩, ⟨s.b, 0, -1⟩]
def closeF (out : List R2) (last : Int) (inn : Bool) (at' : Int) : List R2 :=
  bif !inn then out else bif last == at' then out else
  bif decide (0 < out.length) && ((rd out (out.length - 1)).b == last) then out.set (out.length - 1) ⟨(rd out (out.length - 1)).a, at'⟩ else out ++ [⟨last, at'⟩]
def swF : List R3 → Int → Int → Bool → List R2 → List R2
  | [], _, _, _, out => out
  | e :: r, o, last, inn, out => swF r (o + e.c) e.a (decide (o + e.c > 0)) (closeF out last inn e.a)
noncomputable def swV (l : List R2) : List R2 := swF (srtE (endsV l)) 0 0 false []
noncomputable def spmV_0 (l : List R2) : List R2 := bif decide (400 < l.length) then [] else bif l.all val2 then swV l else []
def spmV_1 (l : List R2) : Int := bif decide (400 < l.length) then 4 else bif l.all val2 then 0 else 8
def spmV_owed (l : List R2) : Bool := true
noncomputable def spmRet (l : List R2) : List AVal := bif decide (400 < l.length) then [.nils, .int .i64 4] else bif l.all val2 then [.dat (swV l).length (rowsT (swV l)), .int .i64 0] else [.nils, .int .i64 8]
theorem endsV_length (l : List R2) : (endsV l).length = 2 * l.length := by
  induction l with
  | nil => rfl
  | cons r l ih => show (_ :: _ :: endsV l).length = _; simp only [List.length_cons, ih]; omega
theorem closeF_length (out : List R2) (last : Int) (inn : Bool) (a : Int) : (closeF out last inn a).length ≤ out.length + 1 := by
  unfold closeF
  cases inn <;> simp only [Bool.not_true, Bool.not_false, cond_true, cond_false]
  · omega
  · cases (last == a) <;> simp only [cond_true, cond_false]
    · cases (decide (0 < out.length) && ((rd out (out.length - 1)).b == last)) <;> simp
    · omega
theorem swF_cons (e : R3) (r : List R3) (o last : Int) (inn : Bool) (out : List R2) : swF (e :: r) o last inn out = swF r (o + e.c) e.a (decide (o + e.c > 0)) (closeF out last inn e.a) := rfl
theorem ofNat_t {a : Int} (k : Nat) (h : a = (k : Int)) : decide (a = Int.ofNat k) = true := decide_eq_true h
section
variable (l : List R2) (hl : l.length ≤ 400)
include hl
theorem spm_h2 (L : List R3) (hL : L.length ≤ 800) (hE : ∀ i, i < L.length → (rd L i).b = 0 ∧ ((rd L i).c = 1 ∨ (rd L i).c = -1)) : ∀ (k i : Nat) (o last : Int) (inn : Bool) (out : List R2), i + k = L.length → -(i : Int) ≤ o → o ≤ i → out.length ≤ i →
    ∃ n, goOn (spmstep l) n (.to (.h2 L (L.length : Int) (i : Int) o 0 last inn out)) = .ret [.dat (swF (L.drop i) o last inn out).length (rowsT (swF (L.drop i) o last inn out)), .int .i64 0]
  | 0, i, o, last, inn, out, h, ho1, ho2, hout => by
    have _uhl := hl
    refine ⟨1, ?_⟩
    rw [goOn_to, List.drop_eq_nil_of_le (by omega)]
    simp (disch := omega) only [spmstep, dlt_f, cond_false, goOn_ret, swF]
  | k + 1, i, o, last, inn, out, h, ho1, ho2, hout => by
    obtain ⟨hb, hc⟩ := hE i (by omega)
    have hcl := closeF_length out last inn (rd L i).a
    obtain ⟨n, hn⟩ := spm_h2 L hL hE k (i + 1) (o + (rd L i).c) (rd L i).a (decide (o + (rd L i).c > 0)) (closeF out last inn (rd L i).a) (by omega) (by rcases hc with hc | hc <;> omega) (by rcases hc with hc | hc <;> omega) (by omega)
    refine ⟨n + 1, ?_⟩
    rw [drop_rd (show i < L.length by omega), goOn_to]
    have hf : ∀ b, fstV b (decide ((0 : Int) > 0)) = b := fun b => rfl
    have hw : IntKind.wrap .i64 (o + (rd L i).c) = o + (rd L i).c := wrap_t (by rcases hc with hc | hc <;> omega)
    rw [swF_cons]
    have hf' : ∀ b, fstV b false = b := fun b => rfl
    have hz := ofNat_t 0 hb
    unfold closeF at hn ⊢
    cases inn with
    | false =>
      simp only [Bool.not_false, cond_true] at hn ⊢
      simp (disch := omega) only [spmstep, Bool.not_false, hz, hw, hf, hf', dlt_t, din_t, nlt_t, wrap_t, cast_succ, toNat_c, Nat.zero_add, Bool.and_true, cond_true]
      exact hn
    | true =>
      simp only [Bool.not_true, cond_false] at hn ⊢
      rcases boolc (last == (rd L i).a) with q | q
      · rw [q] at hn ⊢
        simp only [cond_true] at hn ⊢
        simp (disch := omega) only [spmstep, Bool.not_true, q, hz, hw, hf, hf', dlt_t, din_t, nlt_t, wrap_t, cast_succ, toNat_c, Nat.zero_add, Bool.and_true, cond_true, cond_false]
        exact hn
      · rw [q] at hn ⊢
        simp only [cond_false] at hn ⊢
        by_cases h0 : 0 < out.length
        · rw [decide_eq_true h0, Bool.true_and] at hn ⊢
          rcases boolc ((rd out (out.length - 1)).b == last) with q2 | q2
          · rw [q2] at hn ⊢
            simp only [cond_true] at hn ⊢
            simp (disch := omega) only [spmstep, Bool.not_true, q, q2, hz, hw, hf, hf', dlt_t, dgt_t, din_t, nlt_t, wrap_t, cast_succ, toNat_c, toNat_pred, Nat.zero_add, Bool.and_true, cond_true, cond_false]
            exact hn
          · rw [q2] at hn ⊢
            simp only [cond_false] at hn ⊢
            simp (disch := omega) only [spmstep, Bool.not_true, q, q2, hz, hw, hf, hf', dlt_t, dgt_t, din_t, nlt_t, neq_t, room_t, beq11, decide_true, wrap_t, cast_succ, toNat_c, toNat_pred, Nat.zero_add, Bool.and_true, Bool.true_and, cond_true, cond_false]
            exact hn
        · rw [decide_eq_false h0, Bool.false_and] at hn ⊢
          simp only [cond_false] at hn ⊢
          simp (disch := omega) only [spmstep, Bool.not_true, q, hz, hw, hf, hf', dlt_t, dgt_f, din_t, nlt_t, neq_t, room_t, beq11, decide_true, wrap_t, cast_succ, toNat_c, Nat.zero_add, Bool.and_true, Bool.true_and, cond_true, cond_false]
          exact hn
theorem endsV_all (h : l.all val2 = true) : ∀ e ∈ endsV l, bnd3 e = true ∧ e.b = 0 ∧ (e.c = 1 ∨ e.c = -1) := by
  have _uhl := hl
  intro e he
  obtain ⟨s, hs, h1⟩ := List.mem_flatMap.1 he
  have hv := List.all_eq_true.1 h s hs
  simp only [val2, Bool.and_eq_true, decide_eq_true_eq] at hv
  simp only [List.mem_cons, List.not_mem_nil, or_false] at h1
  rcases h1 with rfl | rfl
  · exact ⟨decide_eq_true (by simp only; omega), rfl, .inl rfl⟩
  · exact ⟨decide_eq_true (by simp only; omega), rfl, .inr rfl⟩
theorem spm_h1 (hv : l.all val2 = true) : ∀ (k i : Nat) (acc : List R3), i + k = l.length → acc = endsV (l.take i) → ∃ n, goOn (spmstep l) n (.to (.h1 acc (i : Int))) = .ret [.dat (swV l).length (rowsT (swV l)), .int .i64 0]
  | 0, i, acc, h, ha => by
    have e : acc = endsV l := by rw [ha, List.take_of_length_le (by omega)]
    subst e
    have hle := endsV_length l
    have hall := endsV_all l hl hv
    have hb : bndE (endsV l) = true := List.all_eq_true.2 fun e he => (hall e he).1
    obtain ⟨hp, _⟩ := srtE_spec (endsV l) hb
    have hpl := hp.length_eq
    obtain ⟨n, hn⟩ := spm_h2 l hl (srtE (endsV l)) (by omega) (fun i hi => by
      rw [rd_lt hi]
      exact (hall _ (hp.mem_iff.1 (List.getElem_mem hi))).2) (srtE (endsV l)).length 0 0 0 false [] (Nat.zero_add _) (by omega) (by omega) (Nat.zero_le _)
    refine ⟨n + 1, ?_⟩
    rw [goOn_to]
    simp (disch := omega) only [spmstep, cvT_eq, lst_rows, hb, dlt_f, nlt_t, neq_t, decide_true, cond_true, cond_false]
    rw [← hpl]
    simp only [cast0, List.drop_zero] at hn
    exact hn
  | k + 1, i, acc, h, ha => by
    have hle := endsV_length (l.take i)
    have hacc : acc.length ≤ 2 * i := by rw [ha, hle]; simp; omega
    obtain ⟨n, hn⟩ := spm_h1 hv k (i + 1) (acc ++ endsV [rd l i]) (by omega) (by
      rw [ha, List.take_add_one]
      have : l[i]? = some (rd l i) := by rw [rd_lt (show i < l.length by omega)]; exact List.getElem?_eq_getElem _
      rw [this]
      simp [endsV])
    refine ⟨n + 1, ?_⟩
    rw [goOn_to]
    simp (disch := omega) only [spmstep, dlt_t, din_t, nle_t, neq_t, room_t, beq11, decide_true, wrap_t, cast_succ, toNat_c, Nat.zero_add, Bool.and_true, Bool.true_and, cond_true]
    exact hn
theorem spm_h0 : ∀ (k i : Nat), i + k = l.length → (∀ s ∈ l.take i, val2 s = true) → ∃ n, goOn (spmstep l) n (.to (.h0 (i : Int))) = .ret (bif l.all val2 then [.dat (swV l).length (rowsT (swV l)), .int .i64 0] else [.nils, .int .i64 8])
  | 0, i, h, ht => by
    have hv : l.all val2 = true := List.all_eq_true.2 fun s hs => ht s (by rw [List.take_of_length_le (by omega)]; exact hs)
    obtain ⟨n, hn⟩ := spm_h1 l hl hv l.length 0 [] (Nat.zero_add _) rfl
    refine ⟨n + 1, ?_⟩
    rw [goOn_to, hv, cond_true]
    simp (disch := omega) only [spmstep, dlt_f, cond_false]
    exact hn
  | k + 1, i, h, ht => by
    have hi : i < l.length := by omega
    rcases boolc (val2 (rd l i)) with q | q
    · obtain ⟨n, hn⟩ := spm_h0 k (i + 1) (by omega) (fun s hs => by
        rw [List.take_add_one] at hs
        have e : l[i]? = some (rd l i) := by rw [rd_lt hi]; exact List.getElem?_eq_getElem _
        rw [e] at hs
        simp only [Option.toList_some, List.mem_append, List.mem_singleton] at hs
        rcases hs with hs | rfl
        · exact ht s hs
        · exact q)
      refine ⟨n + 1, ?_⟩
      rw [goOn_to]
      simp only [val2, Bool.and_eq_true, decide_eq_true_eq] at q
      simp (disch := omega) only [spmstep, dlt_t, dle_t, dge_t, din_t, wrap_t, cast_succ, toNat_c, Bool.not_true, Bool.and_true, cond_true, cond_false]
      exact hn
    · have hv : l.all val2 = false := Bool.eq_false_iff.2 fun e => by
        have := List.all_eq_true.1 e (rd l i) (by rw [rd_lt hi]; exact List.getElem_mem hi)
        rw [this] at q; cases q
      refine ⟨1, ?_⟩
      rw [goOn_to, hv, cond_false]
      unfold val2 at q
      rcases boolc (decide ((rd l i).a < (rd l i).b)) with q1 | q1 <;> rcases boolc (decide ((rd l i).a ≥ -1000000)) with q2 | q2 <;> rcases boolc (decide ((rd l i).b ≤ 1000000)) with q3 | q3 <;>
        rw [q1, q2, q3] at q <;> first
        | (exfalso; revert q; decide)
        | simp (disch := omega) only [spmstep, q1, q2, q3, dlt_t, dge_t, din_t, wrap_t, cast_succ, toNat_c, Bool.not_true, Bool.not_false, Bool.and_true, cond_true, cond_false, goOn_ret]
end
theorem spm_run (l : List R2) : ∃ n, goOn (spmstep l) n (spmstart l) = .ret (spmRet l) := by
  unfold spmstart spmRet
  by_cases h : 400 < l.length
  · refine ⟨0, ?_⟩
    rw [decide_eq_true h, dgt_t (show ((l.length : Nat) : Int) > 400 by omega)]; rfl
  · obtain ⟨n, hn⟩ := spm_h0 l (by omega) l.length 0 (Nat.zero_add _) (fun s hs => by simp at hs)
    refine ⟨n, ?_⟩
    rw [decide_eq_false h, dgt_f (show ¬ ((l.length : Nat) : Int) > 400 by omega), cond_false, cond_false]
    exact hn
end Go.Am
end
section
set_option linter.unusedVariables false
set_option linter.unusedSimpArgs false
namespace Go.Am
open Go.Proofs
set_option maxRecDepth 100000
set_option maxHeartbeats 4000000
set_option linter.unusedVariables false
set_option linter.unusedSimpArgs false
noncomputable def fSpm : List AVal → Option (AVal × Bool)
  | [a1] => match asL R2 a1 with
    | some (L1, g1, n1) => some (.tup [.dat (spmV_0 L1).length (rowsT (spmV_0 L1)), .int .i64 (spmV_1 L1)], isT R2 n1 g1 && spmV_owed L1)
    | _ => none
  | _ => none
theorem fSpm_ok {S : Specs} (hS : SpecsOk Tryz.prog S) : SpecsOk Tryz.prog (S.with nSpanMake fSpm) := by
  refine fTwo hS (by kernel_rfl) fun args v h => ?_
  unfold fSpm at h
  split at h
  · rename_i a1
    split at h
    · rename_i L1 g1 n1 e1
      simp only [Option.some.injEq, Prod.mk.injEq, Bool.and_eq_true] at h
      obtain ⟨rfl, ho1, hw⟩ := h
      obtain ⟨N, hN⟩ := spm_run L1
      refine ⟨_, spmRet L1, (.cons (asL_le e1 ho1) .nil), ?_, spm_ends L1 N _ hN, 3, ?_⟩
      · unfold spmV_0 spmV_1 spmRet
        cases decide (400 < L1.length) <;> simp only [cond_true, cond_false]
        · cases L1.all val2 <;> simp only [cond_true, cond_false]
          · exact fun ρ u hu => tup_le (.cons (nils_le R2) (RLe.refl _)) ρ u hu
          · exact fun ρ u hu => hu
        · exact fun ρ u hu => tup_le (.cons (nils_le R2) (RLe.refl _)) ρ u hu
      · unfold spmRet
        cases decide (400 < L1.length) <;> simp only [cond_true, cond_false]
        · cases L1.all val2 <;> rfl
        · rfl
    · cases h
  · cases h
noncomputable def T6 : Specs := T5.with nSpanMake fSpm
theorem T6_ok : SpecsOk Tryz.prog T6 := fSpm_ok T5_ok
end Go.Am
end
section
set_option linter.unusedVariables false
set_option linter.unusedSimpArgs false
namespace Go.Am
open Go.Proofs Go.Sort Go.Shelf Go.RowKit Go.Lib
set_option maxRecDepth 100000
set_option maxHeartbeats 4000000
set_option linter.unusedVariables false
set_option linter.unusedSimpArgs false
theorem bif_and {γ : Type} (a b : Bool) (x y : γ) : (bif a && b then x else y) = bif a then (bif b then x else y) else y := by cases a <;> rfl
theorem bif_not {γ : Type} (a : Bool) (x y : γ) : (bif !a then x else y) = bif a then y else x := by cases a <;> rfl
structure Dim (α β : Type) where
  lo : α → Int
  hi : α → Int
  pr : α → β
  put : Int → Int → β → α
  ext : Int → α → α
  mak : List β → List β
  same : List β → List β → Bool
structure Sw (α β : Type) where
  out : List α
  last : List β
  first : Nat
  fin : Int
def cutsOf (zs : List Int) : List Int := compact (srtI zs)
theorem cmpN_eq (zs : List Int) : cmpN (srtI zs) = (cutsOf zs).length := rfl
theorem srtI_length (zs : List Int) : (srtI zs).length = zs.length := List.length_mergeSort zs
theorem cutsOf_length (zs : List Int) : (cutsOf zs).length ≤ zs.length := by
  have := compact_length_le (srtI zs)
  rw [srtI_length] at this
  exact this
theorem rd_pad (zs : List Int) (i : Nat) (h : i < (cutsOf zs).length) : rd (padI (srtI zs)) i = rd (cutsOf zs) i := by
  change i < (compact (srtI zs)).length at h
  show rd (compact (srtI zs) ++ _) i = rd (compact (srtI zs)) i
  rw [rd_lt (by rw [List.length_append]; exact Nat.lt_add_right _ h), rd_lt h, List.getElem_append_left h]
theorem intsOf_srt (zs : List Int) : intsOf zs.length (cOf (rowsT (srtI zs))) = srtI zs := by
  have := intsOf_rows (srtI zs)
  rw [srtI_length] at this
  exact this
namespace Dim
variable {α β : Type} (D : Dim α β) (l : List α)
def ends : List Int := l.flatMap fun r => [D.lo r, D.hi r]
def cuts : List Int := cutsOf (D.ends l)
def inn (x : Int) : List β := (l.filter fun r => decide (D.lo r ≤ x) && decide (x < D.hi r)).map D.pr
def sec (x : Int) : List β := D.mak (D.inn l x)
def grow (out : List α) (k : Nat) (x : Int) : List α := out.take k ++ (out.drop k).map (D.ext x)
def one (x x' : Int) (s : Sw α β) : Sw α β :=
  bif decide (0 < (D.sec l x).length) && ((s.fin == x) && D.same s.last (D.sec l x)) then ⟨D.grow s.out s.first x', s.last, s.first, x'⟩
  else ⟨s.out ++ (D.sec l x).map (D.put x x'), D.sec l x, s.out.length, x'⟩
def go : Nat → Nat → Sw α β → Sw α β
  | 0, _, s => s
  | k + 1, i, s => go k (i + 1) (D.one l (rd (D.cuts l) i) (rd (D.cuts l) (i + 1)) s)
def out : List α := (D.go l ((D.cuts l).length - 1) 0 ⟨[], [], 0, 0⟩).out
theorem ends_length : (D.ends l).length = 2 * l.length := by
  induction l with
  | nil => rfl
  | cons r l ih => show (_ :: _ :: D.ends l).length = _; simp only [List.length_cons, ih]; omega
theorem cuts_length : (D.cuts l).length ≤ 2 * l.length := by
  have := cutsOf_length (D.ends l)
  rw [D.ends_length] at this
  exact this
theorem ends_append (m : List α) : D.ends (l ++ m) = D.ends l ++ D.ends m := by simp [ends]
theorem inn_append (m : List α) (x : Int) : D.inn (l ++ m) x = D.inn l x ++ D.inn m x := by simp [inn]
theorem inn_length (x : Int) : (D.inn l x).length ≤ l.length := by simpa [inn] using List.length_filter_le _ l
theorem inn_t (r : α) (x : Int) (h1 : D.lo r ≤ x) (h2 : x < D.hi r) : D.inn [r] x = [D.pr r] := by simp [inn, h1, h2]
theorem inn_f1 (r : α) (x : Int) (h1 : ¬ D.lo r ≤ x) : D.inn [r] x = [] := by simp [inn, h1]
theorem inn_f2 (r : α) (x : Int) (h1 : ¬ x < D.hi r) : D.inn [r] x = [] := by simp [inn, h1]
theorem grow_nil (out : List α) (k : Nat) (x : Int) (h : out.length ≤ k) : D.grow out k x = out := by
  unfold grow; rw [List.drop_eq_nil_of_le h, List.map_nil, List.append_nil, List.take_of_length_le h]
theorem grow_length (out : List α) (k : Nat) (x : Int) : (D.grow out k x).length = out.length := by
  unfold grow; simp; omega
theorem grow_set [RowT α] (out : List α) (j : Nat) (x : Int) (h : j < out.length) : D.grow (out.set j (D.ext x (rd out j))) (j + 1) x = D.grow out j x := by
  unfold grow
  rw [drop_rd h, List.map_cons]
  have e1 : (out.set j (D.ext x (rd out j))).take (j + 1) = out.take j ++ [D.ext x (rd out j)] := by
    apply List.ext_getElem
    · simp; omega
    · intro n h1 h2
      simp only [List.getElem_take, List.getElem_set]
      by_cases e : j = n
      · subst e
        rw [if_pos rfl, List.getElem_append_right (by simp only [List.length_take]; omega)]
        simp
      · rw [if_neg e, List.getElem_append_left (by simp at h1 ⊢; omega), List.getElem_take]
  have e2 : (out.set j (D.ext x (rd out j))).drop (j + 1) = out.drop (j + 1) := by
    rw [List.drop_set]; rw [if_pos (by omega)]
  rw [e1, e2, List.append_assoc]; rfl
theorem one_length (x x' : Int) (s : Sw α β) : (D.one l x x' s).out.length ≤ s.out.length + (D.sec l x).length := by
  unfold one
  cases (decide (0 < (D.sec l x).length) && ((s.fin == x) && D.same s.last (D.sec l x))) <;> simp [grow_length]
end Dim
end Go.Am
end
section
set_option linter.unusedVariables false
set_option linter.unusedSimpArgs false
namespace Go.Am
open Go.Proofs
set_option maxRecDepth 1000000
set_option linter.unusedVariables false
set_option linter.unusedSimpArgs false
set_option maxHeartbeats 4000000
inductive rgmS where
  | h0 (v8 : Int)
  | h1 (v16 : Int) (v_2_0 : List Int)
  | h2 (v4 : Int) (v_1_0 : List R4) (v_1_1 : List R2) (v_1_2 : Int) (v_1_3 : Int) (v_2_0_000 : Nat) (v09_3 : List Int)
  | h3 (v4 : Int) (v38 : Int) (v_1_0 : List R4) (v_1_1 : List R2) (v_1_2 : Int) (v_1_3 : Int) (v_2_0_000 : Nat) (v09_3 : List Int) (v_6_0 : Int) (v_6_1 : Int) (v_7_0 : List R2)
  | h4 (v1 : Int) (v2 : Int) (v71 : List R2) (v72 : Int) (v73 : Int) (v000_24 : List R2) (v001_4 : Int) (v_0_0 : List R4) (v_0_1 : List R2) (v_0_2 : Int) (v_2_0_000 : Nat) (v09_3 : List Int) (v_6_0 : List R2)
  | h5 (v2 : Int) (v8 : Int) (v000_21 : Int) (v000_24 : List R2) (v001_4 : Int) (v_0_0 : List R4) (v_0_1 : List R2) (v_0_2 : Int) (v_0_3 : Int) (v_3_0_000 : Nat) (v09_4 : List Int) (v_7_0 : List R2)
noncomputable def rgmC (l0 : List R4) : rgmS → Cfg
  | .h0 v8 => ⟨⟨19, 0, true⟩, none, (todoP Tryz.prog 82 [1, 0, 1, 0, 0] 0), none, (resultsOf Tryz.prog 4), ⟨envL [(0, (.dat l0.length (rowsT l0))), (1, (.fn 76 [])), (7, (.int .i64 ((l0.length : Nat) : Int))), (8, (.int .i64 v8))], memL [] 0, 0, [], true⟩, [⟨⟨9, 0, true⟩, (regP Tryz.prog 75 [1, 0] 2), (todoP Tryz.prog 75 [1, 0] 1), none, (resultsOf Tryz.prog 4), envL [(5, (.dat l0.length (rowsT l0))), (6, (.fn 76 []))]⟩, ⟨⟨13, 0, true⟩, (regP Tryz.prog 63 [1, 1, 0, 0] 1), (todoP Tryz.prog 63 [1, 1, 0, 0] 1), none, (resultsOf Tryz.prog 63), envL [(0, (.dat l0.length (rowsT l0))), (7, (.dat l0.length (rowsT l0)))]⟩], .leaf⟩
  | .h1 v16 v_2_0 => ⟨⟨34, 0, true⟩, none, (todoP Tryz.prog 84 [1, 1, 0, 1, 0, 0, 1, 1, 0, 0, 1, 1, 0, 0] 0), none, (resultsOf Tryz.prog 8), ⟨envL [(1, (.ptr 0 0)), (3, (.ptr 2 0)), (8, (.sl 1 0 1 (.un 1))), (9, (.int .i64 1)), (10, (.int .i64 0)), (14, (.dat l0.length (rowsT l0))), (15, (.int .i64 ((l0.length : Nat) : Int))), (16, (.int .i64 v16))], memL [⟨[(.sl 1 0 1 (.un 1))], 115, none⟩, ⟨[(.dat l0.length (rowsT l0))], 100, none⟩, ⟨[(.sla 4 1 0 v_2_0.length (.un 1))], 41, none⟩, ⟨[.nils, .nils, (.int .i64 0), (.int .i64 0)], 142, none⟩, ⟨rows v_2_0.length (rowsT v_2_0), 3, some ⟨1, v_2_0.length, (rowsT v_2_0)⟩⟩] 0, 5, [], true⟩, [⟨⟨29, 0, true⟩, (regP Tryz.prog 78 [1, 1, 0, 0] 2), (todoP Tryz.prog 78 [1, 1, 0, 0] 1), none, (resultsOf Tryz.prog 63), envL [(2, .nils), (3, (.int .i64 0)), (4, (.ptr 3 0)), (9, (.sl 1 0 1 (.un 1)))]⟩, ⟨⟨13, 0, true⟩, (regP Tryz.prog 63 [1, 1, 1, 0] 1), (todoP Tryz.prog 63 [1, 1, 1, 0] 1), none, (resultsOf Tryz.prog 63), envL [(9, (.dat l0.length (rowsT l0)))]⟩], .leaf⟩
  | .h2 v4 v_1_0 v_1_1 v_1_2 v_1_3 v_2_0_000 v09_3 => ⟨⟨76, 0, true⟩, none, (todoP Tryz.prog 99 [1, 0, 0] 0), none, [], ⟨envL [(0, (.yld 0)), (1, (.ptr 2 0)), (2, (.ptr 4 0)), (4, (.int .i64 v4))], memP [(1, ⟨[(.sla 6 4 0 v_1_0.length (.un 4)), (.dat v_1_1.length (rowsT v_1_1)), (.int .i64 v_1_2), (.int .i64 v_1_3)], 142, none⟩), (2, ⟨[(.sla 3 1 0 v_2_0_000 (.un 1))], 41, none⟩), (3, ⟨rows v09_3.length (rowsT v09_3), 3, some ⟨1, v09_3.length, (rowsT v09_3)⟩⟩), (4, ⟨[(.sl 5 0 1 (.un 1))], 115, none⟩), (5, ⟨[(.dat l0.length (rowsT l0))], 100, none⟩), (6, ⟨rows v_1_0.length (rowsT v_1_0), 106, some ⟨4, v_1_0.length, (rowsT v_1_0)⟩⟩)], 7, [], true⟩, [⟨⟨29, 0, true⟩, none, (.inRangeFunc 0 :: (todoP Tryz.prog 78 [1, 1, 0, 1, 0] 1)), none, (resultsOf Tryz.prog 63), envL [(2, .nils), (3, (.int .i64 0)), (4, (.ptr 1 0))]⟩, ⟨⟨13, 0, true⟩, (regP Tryz.prog 63 [1, 1, 1, 0] 1), (todoP Tryz.prog 63 [1, 1, 1, 0] 1), none, (resultsOf Tryz.prog 63), envL [(9, (.dat l0.length (rowsT l0)))]⟩], (lpsL [(0, ⟨.ready, none, 29, envL [(4, (.ptr 1 0))], [11], (codeP Tryz.prog 78 [1, 1, 0, 1, 0, 0]), (codeP Tryz.prog 78 [1, 1, 0, 1, 0, 1])⟩)])⟩
  | .h3 v4 v38 v_1_0 v_1_1 v_1_2 v_1_3 v_2_0_000 v09_3 v_6_0 v_6_1 v_7_0 => ⟨⟨76, 0, true⟩, none, (todoP Tryz.prog 99 [1, 0, 0, 1, 0, 0, 1, 0, 1, 0, 0, 1, 1, 0, 0, 1, 1, 0, 0] 0), none, [], ⟨envL [(0, (.yld 0)), (1, (.ptr 2 0)), (2, (.ptr 4 0)), (4, (.int .i64 v4)), (5, (.ptr 6 0)), (6, (.int .i64 0)), (29, (.sl 5 0 1 (.un 1))), (30, (.int .i64 1)), (31, (.int .i64 0)), (36, (.dat l0.length (rowsT l0))), (37, (.int .i64 ((l0.length : Nat) : Int))), (38, (.int .i64 v38))], memP [(1, ⟨[(.sla 9 4 0 v_1_0.length (.un 4)), (.dat v_1_1.length (rowsT v_1_1)), (.int .i64 v_1_2), (.int .i64 v_1_3)], 142, none⟩), (2, ⟨[(.sla 3 1 0 v_2_0_000 (.un 1))], 41, none⟩), (3, ⟨rows v09_3.length (rowsT v09_3), 3, some ⟨1, v09_3.length, (rowsT v09_3)⟩⟩), (4, ⟨[(.sl 5 0 1 (.un 1))], 115, none⟩), (5, ⟨[(.dat l0.length (rowsT l0))], 100, none⟩), (6, ⟨[(.int .i64 v_6_0), (.int .i64 v_6_1), (.sl 7 0 1 (.ex 1))], 147, none⟩), (7, ⟨[(.sla 8 2 0 v_7_0.length (.un 2))], 123, none⟩), (8, ⟨rows v_7_0.length (rowsT v_7_0), 129, some ⟨2, v_7_0.length, (rowsT v_7_0)⟩⟩), (9, ⟨rows v_1_0.length (rowsT v_1_0), 106, some ⟨4, v_1_0.length, (rowsT v_1_0)⟩⟩)], 10, [], true⟩, [⟨⟨29, 0, true⟩, none, (.inRangeFunc 0 :: (todoP Tryz.prog 78 [1, 1, 0, 1, 0] 1)), none, (resultsOf Tryz.prog 63), envL [(2, .nils), (3, (.int .i64 0)), (4, (.ptr 1 0))]⟩, ⟨⟨13, 0, true⟩, (regP Tryz.prog 63 [1, 1, 1, 0] 1), (todoP Tryz.prog 63 [1, 1, 1, 0] 1), none, (resultsOf Tryz.prog 63), envL [(9, (.dat l0.length (rowsT l0)))]⟩], (lpsL [(0, ⟨.ready, none, 29, envL [(4, (.ptr 1 0))], [11], (codeP Tryz.prog 78 [1, 1, 0, 1, 0, 0]), (codeP Tryz.prog 78 [1, 1, 0, 1, 0, 1])⟩)])⟩
  | .h4 v1 v2 v71 v72 v73 v000_24 v001_4 v_0_0 v_0_1 v_0_2 v_2_0_000 v09_3 v_6_0 => ⟨⟨94, 0, true⟩, none, (todoP Tryz.prog 86 [1, 1, 1, 0, 0] 0), none, [], ⟨envL [(0, (.ptr 0 0)), (1, (.int .i64 v1)), (2, (.int .i64 v2)), (71, (.dat v71.length (rowsT v71))), (72, (.int .i64 v72)), (73, (.int .i64 v73))], memP [(0, ⟨[(.sla 7 4 0 v_0_0.length (.un 4)), (.dat v_0_1.length (rowsT v_0_1)), (.int .i64 v_0_2), (.int .i64 v2)], 142, none⟩), (2, ⟨[(.sla 3 1 0 v_2_0_000 (.un 1))], 41, none⟩), (3, ⟨rows v09_3.length (rowsT v09_3), 3, some ⟨1, v09_3.length, (rowsT v09_3)⟩⟩), (4, ⟨[(.sl 5 0 1 (.un 1))], 115, none⟩), (5, ⟨[(.dat l0.length (rowsT l0))], 100, none⟩), (6, ⟨[(.dat v_6_0.length (rowsT v_6_0))], 123, none⟩), (7, ⟨rows v_0_0.length (rowsT v_0_0), 106, some ⟨4, v_0_0.length, (rowsT v_0_0)⟩⟩)], 8, [], true⟩, [⟨⟨29, 0, true⟩, (regP Tryz.prog 78 [1, 1, 0, 1, 0, 1, 0, 1] 5), (todoP Tryz.prog 78 [1, 1, 0, 1, 0, 1, 0, 1] 1), (some 1), [], envL [(4, (.ptr 0 0)), (21, (.int .i64 v1)), (23, (.int .i64 v2)), (24, (.dat v000_24.length (rowsT v000_24)))]⟩, ⟨⟨76, 0, true⟩, (regP Tryz.prog 99 [1, 0, 0, 1, 0, 0, 1, 1, 0] 2), (todoP Tryz.prog 99 [1, 0, 0, 1, 0, 0, 1, 1, 0] 1), none, [], envL [(0, (.yld 1)), (1, (.ptr 2 0)), (2, (.ptr 4 0)), (4, (.int .i64 v001_4)), (72, (.yld 1)), (73, (.agg [(.int .i64 v1), (.int .i64 v2), (.sl 6 0 1 (.ex 1))]))]⟩, ⟨⟨29, 0, true⟩, none, (.inRangeFunc 1 :: (todoP Tryz.prog 78 [1, 1, 0, 1, 0] 1)), none, (resultsOf Tryz.prog 63), envL [(2, .nils), (3, (.int .i64 0)), (4, (.ptr 0 0))]⟩, ⟨⟨13, 0, true⟩, (regP Tryz.prog 63 [1, 1, 1, 0] 1), (todoP Tryz.prog 63 [1, 1, 1, 0] 1), none, (resultsOf Tryz.prog 63), envL [(9, (.dat l0.length (rowsT l0)))]⟩], (lpsL [(1, ⟨.busy, none, 29, envL [(4, (.ptr 0 0))], [11], (codeP Tryz.prog 78 [1, 1, 0, 1, 0, 0]), (codeP Tryz.prog 78 [1, 1, 0, 1, 0, 1])⟩)])⟩
  | .h5 v2 v8 v000_21 v000_24 v001_4 v_0_0 v_0_1 v_0_2 v_0_3 v_3_0_000 v09_4 v_7_0 => ⟨⟨94, 0, true⟩, none, (todoP Tryz.prog 86 [0, 1, 0, 0, 1, 0, 0] 0), none, [], ⟨envL [(0, (.ptr 0 0)), (2, (.int .i64 v2)), (8, (.int .i64 v8))], memP [(0, ⟨[(.sla 1 4 0 v_0_0.length (.un 4)), (.dat v_0_1.length (rowsT v_0_1)), (.int .i64 v_0_2), (.int .i64 v_0_3)], 142, none⟩), (1, ⟨rows v_0_0.length (rowsT v_0_0), 106, some ⟨4, v_0_0.length, (rowsT v_0_0)⟩⟩), (3, ⟨[(.sla 4 1 0 v_3_0_000 (.un 1))], 41, none⟩), (4, ⟨rows v09_4.length (rowsT v09_4), 3, some ⟨1, v09_4.length, (rowsT v09_4)⟩⟩), (5, ⟨[(.sl 6 0 1 (.un 1))], 115, none⟩), (6, ⟨[(.dat l0.length (rowsT l0))], 100, none⟩), (7, ⟨[(.dat v_7_0.length (rowsT v_7_0))], 123, none⟩)], 8, [], true⟩, [⟨⟨29, 0, true⟩, (regP Tryz.prog 78 [1, 1, 0, 1, 0, 1, 0, 1] 5), (todoP Tryz.prog 78 [1, 1, 0, 1, 0, 1, 0, 1] 1), (some 2), [], envL [(4, (.ptr 0 0)), (21, (.int .i64 v000_21)), (23, (.int .i64 v2)), (24, (.dat v000_24.length (rowsT v000_24)))]⟩, ⟨⟨76, 0, true⟩, (regP Tryz.prog 99 [1, 0, 0, 1, 0, 0, 1, 1, 0] 2), (todoP Tryz.prog 99 [1, 0, 0, 1, 0, 0, 1, 1, 0] 1), none, [], envL [(0, (.yld 2)), (1, (.ptr 3 0)), (2, (.ptr 5 0)), (4, (.int .i64 v001_4)), (72, (.yld 2)), (73, (.agg [(.int .i64 v000_21), (.int .i64 v2), (.sl 7 0 1 (.ex 1))]))]⟩, ⟨⟨29, 0, true⟩, none, (.inRangeFunc 2 :: (todoP Tryz.prog 78 [1, 1, 0, 1, 0] 1)), none, (resultsOf Tryz.prog 63), envL [(2, .nils), (3, (.int .i64 0)), (4, (.ptr 0 0))]⟩, ⟨⟨13, 0, true⟩, (regP Tryz.prog 63 [1, 1, 1, 0] 1), (todoP Tryz.prog 63 [1, 1, 1, 0] 1), none, (resultsOf Tryz.prog 63), envL [(9, (.dat l0.length (rowsT l0)))]⟩], (lpsL [(2, ⟨.busy, none, 29, envL [(4, (.ptr 0 0))], [11], (codeP Tryz.prog 78 [1, 1, 0, 1, 0, 0]), (codeP Tryz.prog 78 [1, 1, 0, 1, 0, 1])⟩)])⟩
noncomputable def rgmstep (l0 : List R4) : rgmS → Out' rgmS
  | .h0 v8 => (bif (decide (v8 < ((l0.length : Nat) : Int))) then (bif ((decide (0 ≤ v8 ∧ v8 < ((l0.length : Nat) : Int))) && true) then (bif (decide ((rd l0 (Int.toNat v8)).a < (rd l0 (Int.toNat v8)).c)) then (bif (decide ((rd l0 (Int.toNat v8)).b < (rd l0 (Int.toNat v8)).d)) then (bif (decide ((rd l0 (Int.toNat v8)).a ≥ (-1000000))) then (bif (decide ((rd l0 (Int.toNat v8)).a ≤ 1000000)) then (bif (decide ((rd l0 (Int.toNat v8)).c ≥ (-1000000))) then (bif (decide ((rd l0 (Int.toNat v8)).c ≤ 1000000)) then (bif (decide ((rd l0 (Int.toNat v8)).b ≥ (-1000000))) then (bif (decide ((rd l0 (Int.toNat v8)).b ≤ 1000000)) then (bif (decide ((rd l0 (Int.toNat v8)).d ≥ (-1000000))) then (bif (!(decide ((rd l0 (Int.toNat v8)).d ≤ 1000000))) then (bif (decide (v8 ≥ 0)) then (.ret [.nils, (.int .i64 8)]) else (.to (.h1 0 ([] : List Int)))) else (.to (.h0 (IntKind.wrap IntKind.i64 (v8 + 1))))) else (bif (decide (v8 ≥ 0)) then (.ret [.nils, (.int .i64 8)]) else (.to (.h1 0 ([] : List Int))))) else (bif (decide (v8 ≥ 0)) then (.ret [.nils, (.int .i64 8)]) else (.to (.h1 0 ([] : List Int))))) else (bif (decide (v8 ≥ 0)) then (.ret [.nils, (.int .i64 8)]) else (.to (.h1 0 ([] : List Int))))) else (bif (decide (v8 ≥ 0)) then (.ret [.nils, (.int .i64 8)]) else (.to (.h1 0 ([] : List Int))))) else (bif (decide (v8 ≥ 0)) then (.ret [.nils, (.int .i64 8)]) else (.to (.h1 0 ([] : List Int))))) else (bif (decide (v8 ≥ 0)) then (.ret [.nils, (.int .i64 8)]) else (.to (.h1 0 ([] : List Int))))) else (bif (decide (v8 ≥ 0)) then (.ret [.nils, (.int .i64 8)]) else (.to (.h1 0 ([] : List Int))))) else (bif (decide (v8 ≥ 0)) then (.ret [.nils, (.int .i64 8)]) else (.to (.h1 0 ([] : List Int))))) else (bif (decide (v8 ≥ 0)) then (.ret [.nils, (.int .i64 8)]) else (.to (.h1 0 ([] : List Int))))) else .stuck) else (.to (.h1 0 ([] : List Int))))
  | .h1 v16 v_2_0 => (bif (decide (v16 < ((l0.length : Nat) : Int))) then (bif ((decide (0 ≤ v16 ∧ v16 < ((l0.length : Nat) : Int))) && true) then (bif (Nat.beq 1 1 && ((decide (0 + v_2_0.length = v_2_0.length)) && decide ((v_2_0.length + 2 + 1) * (8 + 1) ≤ room))) then (.to (.h1 (IntKind.wrap IntKind.i64 (v16 + 1)) (v_2_0 ++ [(rd l0 (Int.toNat v16)).a, (rd l0 (Int.toNat v16)).c]))) else .stuck) else .stuck) else (bif (decide (v_2_0.length < 4611686018427387904)) then (bif (decide (v_2_0.length = v_2_0.length)) then (.to (.h2 1 ([] : List R4) ([] : List R2) 0 0 (cmpN (intsOf v_2_0.length (cOf (rowsT (srtI (intsOf v_2_0.length (cOf (rowsT v_2_0)))))))) (padI (intsOf v_2_0.length (cOf (rowsT (srtI (intsOf v_2_0.length (cOf (rowsT v_2_0)))))))))) else .stuck) else .stuck))
  | .h2 v4 v_1_0 v_1_1 v_1_2 v_1_3 v_2_0_000 v09_3 => (bif (decide (v4 < ((v_2_0_000 : Nat) : Int))) then (bif ((decide (0 ≤ (IntKind.wrap IntKind.i64 (v4 - 1)) ∧ (IntKind.wrap IntKind.i64 (v4 - 1)) < ((v_2_0_000 : Nat) : Int))) && true) then (bif (decide ((0 + (Int.toNat (IntKind.wrap IntKind.i64 (v4 - 1)))) < v09_3.length)) then (bif ((decide (0 ≤ v4 ∧ v4 < ((v_2_0_000 : Nat) : Int))) && true) then (bif (decide ((0 + (Int.toNat v4)) < v09_3.length)) then (.to (.h3 v4 0 v_1_0 v_1_1 v_1_2 v_1_3 v_2_0_000 v09_3 (rd v09_3 (0 + (Int.toNat (IntKind.wrap IntKind.i64 (v4 - 1))))) (rd v09_3 (0 + (Int.toNat v4))) ([] : List R2))) else .stuck) else .stuck) else .stuck) else .stuck) else (bif (decide (((v_1_0.length : Nat) : Int) > 400)) then (.ret [.nils, (.int .i64 4)]) else (.ret [(.dat v_1_0.length (rowsT v_1_0)), (.int .i64 0)])))
  | .h3 v4 v38 v_1_0 v_1_1 v_1_2 v_1_3 v_2_0_000 v09_3 v_6_0 v_6_1 v_7_0 => (bif (decide (v38 < ((l0.length : Nat) : Int))) then (bif ((decide (0 ≤ v38 ∧ v38 < ((l0.length : Nat) : Int))) && true) then (bif (decide ((rd l0 (Int.toNat v38)).a ≤ v_6_0)) then (bif (decide (v_6_0 < (rd l0 (Int.toNat v38)).c)) then (bif (Nat.beq 2 2 && ((decide (0 + v_7_0.length = v_7_0.length)) && decide ((v_7_0.length + 1 + 1) * (16 + 1) ≤ room))) then (.to (.h3 v4 (IntKind.wrap IntKind.i64 (v38 + 1)) v_1_0 v_1_1 v_1_2 v_1_3 v_2_0_000 v09_3 v_6_0 v_6_1 (v_7_0 ++ [(R2.mk (rd l0 (Int.toNat v38)).b (rd l0 (Int.toNat v38)).d)]))) else .stuck) else (.to (.h3 v4 (IntKind.wrap IntKind.i64 (v38 + 1)) v_1_0 v_1_1 v_1_2 v_1_3 v_2_0_000 v09_3 v_6_0 v_6_1 v_7_0))) else (.to (.h3 v4 (IntKind.wrap IntKind.i64 (v38 + 1)) v_1_0 v_1_1 v_1_2 v_1_3 v_2_0_000 v09_3 v_6_0 v_6_1 v_7_0))) else .stuck) else (bif (spmV_owed (cvT v_7_0)) then (bif (decide ((((spmV_0 (cvT v_7_0)).length : Nat) : Int) > 0)) then (bif (v_1_3 == v_6_0) then (bif (same2V_owed (cvT v_1_1) (cvT (spmV_0 (cvT v_7_0)))) then (bif (same2V (cvT v_1_1) (cvT (spmV_0 (cvT v_7_0)))) then (.to (.h5 v_6_1 v_1_2 v_6_0 (spmV_0 (cvT v_7_0)) v4 v_1_0 v_1_1 v_1_2 v_1_3 v_2_0_000 v09_3 v_7_0)) else (.to (.h4 v_6_0 v_6_1 (spmV_0 (cvT v_7_0)) (((spmV_0 (cvT v_7_0)).length : Nat) : Int) 0 (spmV_0 (cvT v_7_0)) v4 v_1_0 (spmV_0 (cvT v_7_0)) ((v_1_0.length : Nat) : Int) v_2_0_000 v09_3 v_7_0))) else .stuck) else (.to (.h4 v_6_0 v_6_1 (spmV_0 (cvT v_7_0)) (((spmV_0 (cvT v_7_0)).length : Nat) : Int) 0 (spmV_0 (cvT v_7_0)) v4 v_1_0 (spmV_0 (cvT v_7_0)) ((v_1_0.length : Nat) : Int) v_2_0_000 v09_3 v_7_0))) else (.to (.h4 v_6_0 v_6_1 (spmV_0 (cvT v_7_0)) (((spmV_0 (cvT v_7_0)).length : Nat) : Int) 0 (spmV_0 (cvT v_7_0)) v4 v_1_0 (spmV_0 (cvT v_7_0)) ((v_1_0.length : Nat) : Int) v_2_0_000 v09_3 v_7_0))) else .stuck))
  | .h4 v1 v2 v71 v72 v73 v000_24 v001_4 v_0_0 v_0_1 v_0_2 v_2_0_000 v09_3 v_6_0 => (bif (decide (v73 < v72)) then (bif ((decide (0 ≤ v73 ∧ v73 < ((v71.length : Nat) : Int))) && true) then (bif (Nat.beq 4 4 && ((decide (0 + v_0_0.length = v_0_0.length)) && decide ((v_0_0.length + 1 + 1) * (32 + 1) ≤ room))) then (.to (.h4 v1 v2 v71 v72 (IntKind.wrap IntKind.i64 (v73 + 1)) v000_24 v001_4 (v_0_0 ++ [(R4.mk v1 (rd v71 (Int.toNat v73)).a v2 (rd v71 (Int.toNat v73)).b)]) v_0_1 v_0_2 v_2_0_000 v09_3 v_6_0)) else .stuck) else .stuck) else (.to (.h2 (IntKind.wrap IntKind.i64 (v001_4 + 1)) v_0_0 v_0_1 v_0_2 v2 v_2_0_000 v09_3)))
  | .h5 v2 v8 v000_21 v000_24 v001_4 v_0_0 v_0_1 v_0_2 v_0_3 v_3_0_000 v09_4 v_7_0 => (bif (decide (v8 < ((v_0_0.length : Nat) : Int))) then (bif ((decide (0 ≤ v8 ∧ v8 < ((v_0_0.length : Nat) : Int))) && true) then (bif (decide ((0 + (Int.toNat v8)) < v_0_0.length)) then (.to (.h5 v2 (IntKind.wrap IntKind.i64 (v8 + 1)) v000_21 v000_24 v001_4 (v_0_0.set (0 + (Int.toNat v8)) (R4.mk (rd v_0_0 (0 + (Int.toNat v8))).a (rd v_0_0 (0 + (Int.toNat v8))).b v2 (rd v_0_0 (0 + (Int.toNat v8))).d)) v_0_1 v_0_2 v_0_3 v_3_0_000 v09_4 v_7_0)) else .stuck) else .stuck) else (.to (.h2 (IntKind.wrap IntKind.i64 (v001_4 + 1)) v_0_0 v_0_1 v_0_2 v2 v_3_0_000 v09_4)))
noncomputable def rgmstart (l0 : List R4) : Out' rgmS := (bif (decide (((l0.length : Nat) : Int) > 400)) then (.ret [.nils, (.int .i64 4)]) else (.to (.h0 0)))
theorem rgmstep_ok (l0 : List R4) : ∀ s, Lead Tryz.prog (resultsOf Tryz.prog 63) (rgmC l0) (rgmC l0 s) (rgmstep l0 s)
  | .h0 v8 => (lead_bif (fun k0 => (lead_owe fun o1_0 => (lead_bif (fun k1 => (lead_bif (fun k2 => (lead_bif (fun k3 => (lead_bif (fun k4 => (lead_bif (fun k5 => (lead_bif (fun k6 => (lead_bif (fun k7 => (lead_bif (fun k8 => (lead_bif (fun k9 => (lead_bif (fun k10 => (lead_bif (fun k11 => (lr 13 63 [1, 1, 0, 1, 0, 0] 1 63 [(2, .nils), (3, (.int .i64 8))] (sl T6_ok 156 [] ⟨[], [], [some [2, 3]], []⟩ ⟨[], [], []⟩ (trs 28 []) (tt k11 (tt k10 (tt k9 (tt k8 (tt k7 (tt k6 (tt k5 (tt k4 (tt k3 (tt k2 (tt k1 (ww o1_0 (tt k0 nn)))))))))))))))) (fun k11 => (sl T6_ok 212 [(3, 1, rowsT ([] : List Int))] ⟨[4, 3, 5, 2, 6], [], [some [1, 3, 8, 9, 10, 14, 15, 16], some [2, 3, 4, 9], some [9]], []⟩ ⟨[], [.keep, .keep, .cells [.grow 4 1], .keep, .keep], []⟩ (trs 27 [false, true]) (pp (fl ([] : List Int) nn) (tt k11 (tt k10 (tt k9 (tt k8 (tt k7 (tt k6 (tt k5 (tt k4 (tt k3 (tt k2 (tt k1 (ww o1_0 (tt k0 nn)))))))))))))))))) (fun k10 => (sl T6_ok 146 [] ⟨[], [], [some [0, 1, 7, 8], some [5, 6], some [0, 7]], []⟩ ⟨[], [], []⟩ (trs 26 [false]) (tt k10 (tt k9 (tt k8 (tt k7 (tt k6 (tt k5 (tt k4 (tt k3 (tt k2 (tt k1 (ww o1_0 (tt k0 nn)))))))))))))))) (fun k9 => (lead_bif (fun k10 => (lr 13 63 [1, 1, 0, 1, 0, 0] 1 63 [(2, .nils), (3, (.int .i64 8))] (sl T6_ok 156 [] ⟨[], [], [some [2, 3]], []⟩ ⟨[], [], []⟩ (trs 24 [false, false, true, true]) (tt k10 (tt k9 (tt k8 (tt k7 (tt k6 (tt k5 (tt k4 (tt k3 (tt k2 (tt k1 (ww o1_0 (tt k0 nn))))))))))))))) (fun k10 => (sl T6_ok 212 [(3, 1, rowsT ([] : List Int))] ⟨[4, 3, 5, 2, 6], [], [some [1, 3, 8, 9, 10, 14, 15, 16], some [2, 3, 4, 9], some [9]], []⟩ ⟨[], [.keep, .keep, .cells [.grow 4 1], .keep, .keep], []⟩ (trs 24 [false, false, true, false, true]) (pp (fl ([] : List Int) nn) (tt k10 (tt k9 (tt k8 (tt k7 (tt k6 (tt k5 (tt k4 (tt k3 (tt k2 (tt k1 (ww o1_0 (tt k0 nn))))))))))))))))))) (fun k8 => (lead_bif (fun k9 => (lr 13 63 [1, 1, 0, 1, 0, 0] 1 63 [(2, .nils), (3, (.int .i64 8))] (sl T6_ok 141 [] ⟨[], [], [some [2, 3]], []⟩ ⟨[], [], []⟩ (trs 21 [false, false, false, true, true]) (tt k9 (tt k8 (tt k7 (tt k6 (tt k5 (tt k4 (tt k3 (tt k2 (tt k1 (ww o1_0 (tt k0 nn)))))))))))))) (fun k9 => (sl T6_ok 197 [(3, 1, rowsT ([] : List Int))] ⟨[4, 3, 5, 2, 6], [], [some [1, 3, 8, 9, 10, 14, 15, 16], some [2, 3, 4, 9], some [9]], []⟩ ⟨[], [.keep, .keep, .cells [.grow 4 1], .keep, .keep], []⟩ (trs 21 [false, false, false, true, false, true]) (pp (fl ([] : List Int) nn) (tt k9 (tt k8 (tt k7 (tt k6 (tt k5 (tt k4 (tt k3 (tt k2 (tt k1 (ww o1_0 (tt k0 nn)))))))))))))))))) (fun k7 => (lead_bif (fun k8 => (lr 13 63 [1, 1, 0, 1, 0, 0] 1 63 [(2, .nils), (3, (.int .i64 8))] (sl T6_ok 141 [] ⟨[], [], [some [2, 3]], []⟩ ⟨[], [], []⟩ (trs 19 [false, false, false, false, false, true, true]) (tt k8 (tt k7 (tt k6 (tt k5 (tt k4 (tt k3 (tt k2 (tt k1 (ww o1_0 (tt k0 nn))))))))))))) (fun k8 => (sl T6_ok 197 [(3, 1, rowsT ([] : List Int))] ⟨[4, 3, 5, 2, 6], [], [some [1, 3, 8, 9, 10, 14, 15, 16], some [2, 3, 4, 9], some [9]], []⟩ ⟨[], [.keep, .keep, .cells [.grow 4 1], .keep, .keep], []⟩ (trs 19 [false, false, false, false, false, true, false, true]) (pp (fl ([] : List Int) nn) (tt k8 (tt k7 (tt k6 (tt k5 (tt k4 (tt k3 (tt k2 (tt k1 (ww o1_0 (tt k0 nn))))))))))))))))) (fun k6 => (lead_bif (fun k7 => (lr 13 63 [1, 1, 0, 1, 0, 0] 1 63 [(2, .nils), (3, (.int .i64 8))] (sl T6_ok 126 [] ⟨[], [], [some [2, 3]], []⟩ ⟨[], [], []⟩ (trs 16 [false, false, false, false, false, false, true, true]) (tt k7 (tt k6 (tt k5 (tt k4 (tt k3 (tt k2 (tt k1 (ww o1_0 (tt k0 nn)))))))))))) (fun k7 => (sl T6_ok 182 [(3, 1, rowsT ([] : List Int))] ⟨[4, 3, 5, 2, 6], [], [some [1, 3, 8, 9, 10, 14, 15, 16], some [2, 3, 4, 9], some [9]], []⟩ ⟨[], [.keep, .keep, .cells [.grow 4 1], .keep, .keep], []⟩ (trs 16 [false, false, false, false, false, false, true, false, true]) (pp (fl ([] : List Int) nn) (tt k7 (tt k6 (tt k5 (tt k4 (tt k3 (tt k2 (tt k1 (ww o1_0 (tt k0 nn)))))))))))))))) (fun k5 => (lead_bif (fun k6 => (lr 13 63 [1, 1, 0, 1, 0, 0] 1 63 [(2, .nils), (3, (.int .i64 8))] (sl T6_ok 126 [] ⟨[], [], [some [2, 3]], []⟩ ⟨[], [], []⟩ (trs 14 [false, false, false, false, false, false, false, false, true, true]) (tt k6 (tt k5 (tt k4 (tt k3 (tt k2 (tt k1 (ww o1_0 (tt k0 nn))))))))))) (fun k6 => (sl T6_ok 182 [(3, 1, rowsT ([] : List Int))] ⟨[4, 3, 5, 2, 6], [], [some [1, 3, 8, 9, 10, 14, 15, 16], some [2, 3, 4, 9], some [9]], []⟩ ⟨[], [.keep, .keep, .cells [.grow 4 1], .keep, .keep], []⟩ (trs 14 [false, false, false, false, false, false, false, false, true, false, true]) (pp (fl ([] : List Int) nn) (tt k6 (tt k5 (tt k4 (tt k3 (tt k2 (tt k1 (ww o1_0 (tt k0 nn))))))))))))))) (fun k4 => (lead_bif (fun k5 => (lr 13 63 [1, 1, 0, 1, 0, 0] 1 63 [(2, .nils), (3, (.int .i64 8))] (sl T6_ok 111 [] ⟨[], [], [some [2, 3]], []⟩ ⟨[], [], []⟩ (trs 11 [false, false, false, false, false, false, false, false, false, true, true]) (tt k5 (tt k4 (tt k3 (tt k2 (tt k1 (ww o1_0 (tt k0 nn)))))))))) (fun k5 => (sl T6_ok 167 [(3, 1, rowsT ([] : List Int))] ⟨[4, 3, 5, 2, 6], [], [some [1, 3, 8, 9, 10, 14, 15, 16], some [2, 3, 4, 9], some [9]], []⟩ ⟨[], [.keep, .keep, .cells [.grow 4 1], .keep, .keep], []⟩ (trs 11 [false, false, false, false, false, false, false, false, false, true, false, true]) (pp (fl ([] : List Int) nn) (tt k5 (tt k4 (tt k3 (tt k2 (tt k1 (ww o1_0 (tt k0 nn)))))))))))))) (fun k3 => (lead_bif (fun k4 => (lr 13 63 [1, 1, 0, 1, 0, 0] 1 63 [(2, .nils), (3, (.int .i64 8))] (sl T6_ok 111 [] ⟨[], [], [some [2, 3]], []⟩ ⟨[], [], []⟩ (trs 9 [false, false, false, false, false, false, false, false, false, false, false, true, true]) (tt k4 (tt k3 (tt k2 (tt k1 (ww o1_0 (tt k0 nn))))))))) (fun k4 => (sl T6_ok 167 [(3, 1, rowsT ([] : List Int))] ⟨[4, 3, 5, 2, 6], [], [some [1, 3, 8, 9, 10, 14, 15, 16], some [2, 3, 4, 9], some [9]], []⟩ ⟨[], [.keep, .keep, .cells [.grow 4 1], .keep, .keep], []⟩ (trs 9 [false, false, false, false, false, false, false, false, false, false, false, true, false, true]) (pp (fl ([] : List Int) nn) (tt k4 (tt k3 (tt k2 (tt k1 (ww o1_0 (tt k0 nn))))))))))))) (fun k2 => (lead_bif (fun k3 => (lr 13 63 [1, 1, 0, 1, 0, 0] 1 63 [(2, .nils), (3, (.int .i64 8))] (sl T6_ok 96 [] ⟨[], [], [some [2, 3]], []⟩ ⟨[], [], []⟩ (trs 6 [false, false, false, false, false, false, false, false, false, false, false, false, true, true]) (tt k3 (tt k2 (tt k1 (ww o1_0 (tt k0 nn)))))))) (fun k3 => (sl T6_ok 152 [(3, 1, rowsT ([] : List Int))] ⟨[4, 3, 5, 2, 6], [], [some [1, 3, 8, 9, 10, 14, 15, 16], some [2, 3, 4, 9], some [9]], []⟩ ⟨[], [.keep, .keep, .cells [.grow 4 1], .keep, .keep], []⟩ (trs 6 [false, false, false, false, false, false, false, false, false, false, false, false, true, false, true]) (pp (fl ([] : List Int) nn) (tt k3 (tt k2 (tt k1 (ww o1_0 (tt k0 nn)))))))))))) (fun k1 => (lead_bif (fun k2 => (lr 13 63 [1, 1, 0, 1, 0, 0] 1 63 [(2, .nils), (3, (.int .i64 8))] (sl T6_ok 96 [] ⟨[], [], [some [2, 3]], []⟩ ⟨[], [], []⟩ [true, false, false, false, false, false, false, false, false, false, false, false, false, false, false, false, false, false, true, true] (tt k2 (tt k1 (ww o1_0 (tt k0 nn))))))) (fun k2 => (sl T6_ok 152 [(3, 1, rowsT ([] : List Int))] ⟨[4, 3, 5, 2, 6], [], [some [1, 3, 8, 9, 10, 14, 15, 16], some [2, 3, 4, 9], some [9]], []⟩ ⟨[], [.keep, .keep, .cells [.grow 4 1], .keep, .keep], []⟩ [true, false, false, false, false, false, false, false, false, false, false, false, false, false, false, false, false, false, true, false, true] (pp (fl ([] : List Int) nn) (tt k2 (tt k1 (ww o1_0 (tt k0 nn)))))))))))) (fun k0 => (sl T6_ok 79 [(3, 1, rowsT ([] : List Int))] ⟨[2, 1, 3, 0, 4], [], [some [1, 3, 8, 9, 10, 14, 15, 16], some [2, 3, 4, 9], some [9]], []⟩ ⟨[], [.keep, .keep, .cells [.grow 4 1], .keep, .keep], []⟩ [false, false, true] (pp (fl ([] : List Int) nn) (tt k0 nn)))))
  | .h1 v16 v_2_0 => (lead_bif (fun k0 => (lead_owe fun o0 => (lead_owe fun o1 => (sl T6_ok 32 [] ⟨[0, 1, 2, 3, 7], [], [some [1, 3, 8, 9, 10, 14, 15, 16], some [2, 3, 4, 9], some [9]], []⟩ ⟨[], [.keep, .keep, .cells [.len (v_2_0 ++ [(rd l0 (Int.toNat v16)).a, (rd l0 (Int.toNat v16)).c]).length], .keep, .rowed 1 (v_2_0 ++ [(rd l0 (Int.toNat v16)).a, (rd l0 (Int.toNat v16)).c]).length (rowsT (v_2_0 ++ [(rd l0 (Int.toNat v16)).a, (rd l0 (Int.toNat v16)).c]))], []⟩ [true] (pp (xL (v_2_0.length + 2) (v_2_0 ++ [(rd l0 (Int.toNat v16)).a, (rd l0 (Int.toNat v16)).c]).length) (pp (xL (v_2_0.length + 2) (v_2_0 ++ [(rd l0 (Int.toNat v16)).a, (rd l0 (Int.toNat v16)).c]).length) (pp (xS (v_2_0.length + 2) (appRow (rowsT v_2_0) 0 v_2_0.length 1 [(.int .i64 (rd l0 (Int.toNat v16)).a), (.int .i64 (rd l0 (Int.toNat v16)).c)]) (rowsT (v_2_0 ++ [(rd l0 (Int.toNat v16)).a, (rd l0 (Int.toNat v16)).c]))) (pp (pp (xF (appRow (rowsT v_2_0) 0 v_2_0.length 1 [(.int .i64 (rd l0 (Int.toNat v16)).a), (.int .i64 (rd l0 (Int.toNat v16)).c)])) nn) (ww o1 (ww o0 (tt k0 nn))))))))))) (fun k0 => (lead_owe fun o0 => (lead_owe fun o1 => (sl T6_ok 46 [(106, 4, rowsT ([] : List R4))] ⟨[5, 3, 2, 4, 0, 1, 6], [], [some [0, 1, 2, 4], some [2, 3, 4], some [9]], [some [4], none, none, none, none, none, none]⟩ ⟨[], [.keep, .cells [.grow 6 4, .list 0 (rowsT ([] : List R2)), .keep, .keep], .keep, .rowed 1 (padI (intsOf v_2_0.length (cOf (rowsT (srtI (intsOf v_2_0.length (cOf (rowsT v_2_0)))))))).length (rowsT (padI (intsOf v_2_0.length (cOf (rowsT (srtI (intsOf v_2_0.length (cOf (rowsT v_2_0))))))))), .keep, .keep, .keep], []⟩ [false, false] (pp (xL v_2_0.length (padI (intsOf v_2_0.length (cOf (rowsT (srtI (intsOf v_2_0.length (cOf (rowsT v_2_0)))))))).length (by first | exact lenIs_pad _ _ | exact lenIs_of rfl)) (pp (xS v_2_0.length (rowsT (padI (intsOf v_2_0.length (cOf (rowsT (srtI (intsOf v_2_0.length (cOf (rowsT v_2_0))))))))) (rowsT (padI (intsOf v_2_0.length (cOf (rowsT (srtI (intsOf v_2_0.length (cOf (rowsT v_2_0)))))))))) (pp (fl (padI (intsOf v_2_0.length (cOf (rowsT (srtI (intsOf v_2_0.length (cOf (rowsT v_2_0)))))))) (fl ([] : List R4) nn)) (pp (pp (xG (Nat.beq 1 1)) (pp (xG (Nat.beq 1 1)) (pp (xG (Nat.beq 0 0)) (pp (xG (decide (v_2_0.length = v_2_0.length))) (pp (xG (isI (rowsT (srtI (intsOf v_2_0.length (cOf (rowsT v_2_0))))))) (xG (decide (v_2_0.length < 4611686018427387904)))))))) (pp (pp (xG (Nat.beq 1 1)) (pp (xG (Nat.beq 1 1)) (pp (xG (Nat.beq 0 0)) (pp (xG (decide (v_2_0.length = v_2_0.length))) (pp (xG (isI (rowsT v_2_0))) (xG (decide (v_2_0.length < 4611686018427387904)))))))) (tt k0 nn)))))))))))
  | .h2 v4 v_1_0 v_1_1 v_1_2 v_1_3 v_2_0_000 v09_3 => (lead_bif (fun k0 => (lead_owe fun o0 => (lead_owe fun o1 => (lead_owe fun o2 => (lead_owe fun o3 => (sl T6_ok 48 [(129, 2, rowsT ([] : List R2))] ⟨[0, 1, 2, 3, 4, 5, 7, 8, 9, 6], [], [some [0, 1, 2, 4, 5, 6, 29, 30, 31, 36, 37, 38], some [2, 3, 4], some [9]], [some [4], none, none, none, none, none, none, none, none, none]⟩ ⟨[], [.keep, .keep, .keep, .keep, .keep, .keep, .keep, .cells [.grow 8 2], .keep, .keep], []⟩ (trs 3 []) (pp (fl v09_3 (fl ([] : List R2) (fl v_1_0 nn))) (ww o3 (ww o2 (ww o1 (ww o0 (tt k0 nn)))))))))))) (fun k0 => (lead_bif (fun k1 => (lr 13 3 [1, 1, 1, 1, 1, 1, 0] 1 63 [(2, .nils), (3, (.int .i64 4))] (sl T6_ok 49 [] ⟨[], [], [some [2, 3]], []⟩ ⟨[], [], []⟩ [false, true] (tt k1 (tt k0 nn))))) (fun k1 => (lr 13 3 [1, 1, 1, 1, 1, 1, 0] 1 63 [(2, (.dat v_1_0.length (rowsT v_1_0))), (3, (.int .i64 0))] (sl T6_ok 54 [] ⟨[], [6], [some [2, 3]], []⟩ ⟨[(2, .frz v_1_0.length v_1_0.length (rowsT v_1_0) (rowsT v_1_0))], [], []⟩ [false, false] (pp (xZ (frzS 4 4 0 v_1_0.length v_1_0.length (rowsT v_1_0)) v_1_0.length (rowsT v_1_0)) (pp (xL v_1_0.length v_1_0.length) (pp (xS v_1_0.length (rowsT v_1_0) (rowsT v_1_0)) (pp (fl v_1_0 nn) (tt k1 (tt k0 nn))))))))))))
  | .h3 v4 v38 v_1_0 v_1_1 v_1_2 v_1_3 v_2_0_000 v09_3 v_6_0 v_6_1 v_7_0 => (lead_bif (fun k0 => (lead_owe fun o1_0 => (lead_bif (fun k1 => (lead_bif (fun k2 => (lead_owe fun o0 => (sl T6_ok 39 [] ⟨[0, 1, 2, 3, 4, 5, 6, 7, 12, 9], [], [some [0, 1, 2, 4, 5, 6, 29, 30, 31, 36, 37, 38], some [2, 3, 4], some [9]], [some [4], none, none, none, none, none, none, none, none, none]⟩ ⟨[], [.keep, .keep, .keep, .keep, .keep, .keep, .keep, .cells [.len (v_7_0 ++ [(R2.mk (rd l0 (Int.toNat v38)).b (rd l0 (Int.toNat v38)).d)]).length], .rowed 2 (v_7_0 ++ [(R2.mk (rd l0 (Int.toNat v38)).b (rd l0 (Int.toNat v38)).d)]).length (rowsT (v_7_0 ++ [(R2.mk (rd l0 (Int.toNat v38)).b (rd l0 (Int.toNat v38)).d)])), .keep], []⟩ (trs 7 []) (pp (xL (v_7_0.length + 1) (v_7_0 ++ [(R2.mk (rd l0 (Int.toNat v38)).b (rd l0 (Int.toNat v38)).d)]).length) (pp (xL (v_7_0.length + 1) (v_7_0 ++ [(R2.mk (rd l0 (Int.toNat v38)).b (rd l0 (Int.toNat v38)).d)]).length) (pp (xS (v_7_0.length + 1) (appRow (rowsT v_7_0) 0 v_7_0.length 2 [(.int .i64 (rd l0 (Int.toNat v38)).b), (.int .i64 (rd l0 (Int.toNat v38)).d)]) (rowsT (v_7_0 ++ [(R2.mk (rd l0 (Int.toNat v38)).b (rd l0 (Int.toNat v38)).d)]))) (pp (fl v09_3 (pp (xF (appRow (rowsT v_7_0) 0 v_7_0.length 2 [(.int .i64 (rd l0 (Int.toNat v38)).b), (.int .i64 (rd l0 (Int.toNat v38)).d)])) (fl v_1_0 nn))) (ww o0 (tt k2 (tt k1 (ww o1_0 (tt k0 nn)))))))))))) (fun k2 => (sl T6_ok 39 [] ⟨[0, 1, 2, 3, 4, 5, 6, 7, 8, 9], [], [some [0, 1, 2, 4, 5, 6, 29, 30, 31, 36, 37, 38], some [2, 3, 4], some [9]], [some [4], none, none, none, none, none, none, none, none, none]⟩ ⟨[], [], []⟩ (trs 6 [false]) (pp (fl v09_3 (fl v_7_0 (fl v_1_0 nn))) (tt k2 (tt k1 (ww o1_0 (tt k0 nn))))))))) (fun k1 => (sl T6_ok 39 [] ⟨[0, 1, 2, 3, 4, 5, 6, 7, 8, 9], [], [some [0, 1, 2, 4, 5, 6, 29, 30, 31, 36, 37, 38], some [2, 3, 4], some [9]], [some [4], none, none, none, none, none, none, none, none, none]⟩ ⟨[], [], []⟩ [true, false, false, false, false, false, false] (pp (fl v09_3 (fl v_7_0 (fl v_1_0 nn))) (tt k1 (ww o1_0 (tt k0 nn))))))))) (fun k0 => (lead_goes (sl T6_ok (C' := ⟨⟨29, 0, true⟩, (regP Tryz.prog 78 [1, 1, 0, 1, 0, 1, 0, 0] 4), (todoP Tryz.prog 78 [1, 1, 0, 1, 0, 1, 0, 0] 1), (some 0), [], ⟨envL [(4, (.ptr 1 0)), (5, (.ptr 3 0)), (16, (.dat v_7_0.length (rowsT v_7_0)))], memP [(1, ⟨[(.sla 2 4 0 v_1_0.length (.un 4)), (.dat v_1_1.length (rowsT v_1_1)), (.int .i64 v_1_2), (.int .i64 v_1_3)], 142, none⟩), (2, ⟨rows v_1_0.length (rowsT v_1_0), 106, some ⟨4, v_1_0.length, (rowsT v_1_0)⟩⟩), (3, ⟨[(.int .i64 v_6_0), (.int .i64 v_6_1), (.sl 4 0 1 (.ex 1))], 147, none⟩), (4, ⟨[(.dat v_7_0.length (rowsT v_7_0))], 123, none⟩), (5, ⟨[(.sla 6 1 0 v_2_0_000 (.un 1))], 41, none⟩), (6, ⟨rows v09_3.length (rowsT v09_3), 3, some ⟨1, v09_3.length, (rowsT v09_3)⟩⟩), (7, ⟨[(.sl 8 0 1 (.un 1))], 115, none⟩), (8, ⟨[(.dat l0.length (rowsT l0))], 100, none⟩)], 9, [], true⟩, [⟨⟨76, 0, true⟩, (regP Tryz.prog 99 [1, 0, 0, 1, 0, 0, 1, 1, 0] 2), (todoP Tryz.prog 99 [1, 0, 0, 1, 0, 0, 1, 1, 0] 1), none, [], envL [(0, (.yld 0)), (1, (.ptr 5 0)), (2, (.ptr 7 0)), (4, (.int .i64 v4)), (72, (.yld 0)), (73, (.agg [(.int .i64 v_6_0), (.int .i64 v_6_1), (.sl 4 0 1 (.ex 1))]))]⟩, ⟨⟨29, 0, true⟩, none, (.inRangeFunc 0 :: (todoP Tryz.prog 78 [1, 1, 0, 1, 0] 1)), none, (resultsOf Tryz.prog 63), envL [(2, .nils), (3, (.int .i64 0)), (4, (.ptr 1 0))]⟩, ⟨⟨13, 0, true⟩, (regP Tryz.prog 63 [1, 1, 1, 0] 1), (todoP Tryz.prog 63 [1, 1, 1, 0] 1), none, (resultsOf Tryz.prog 63), envL [(9, (.dat l0.length (rowsT l0)))]⟩], (lpsL [(0, ⟨.busy, none, 29, envL [(4, (.ptr 1 0))], [11], (codeP Tryz.prog 78 [1, 1, 0, 1, 0, 0]), (codeP Tryz.prog 78 [1, 1, 0, 1, 0, 1])⟩)])⟩) 37 [] ⟨[0, 1, 9, 10, 7, 2, 3, 4, 5], [8], [some [4, 5, 16], some [0, 1, 2, 4, 72, 73], some [2, 3, 4], some [9]], [some [4], none, none, none, none, none, none, none, none]⟩ ⟨[(16, .frz v_7_0.length v_7_0.length (rowsT v_7_0) (rowsT v_7_0))], [.keep, .keep, .keep, .keep, .cells [.frz v_7_0.length v_7_0.length (rowsT v_7_0) (rowsT v_7_0)], .keep, .keep, .keep, .keep], []⟩ [false, false] (pp (xZ (frzS 2 2 0 v_7_0.length v_7_0.length (rowsT v_7_0)) v_7_0.length (rowsT v_7_0)) (pp (xL v_7_0.length v_7_0.length) (pp (xS v_7_0.length (rowsT v_7_0) (rowsT v_7_0)) (pp (xZ (frzS 2 2 0 v_7_0.length v_7_0.length (rowsT v_7_0)) v_7_0.length (rowsT v_7_0)) (pp (xL v_7_0.length v_7_0.length) (pp (xS v_7_0.length (rowsT v_7_0) (rowsT v_7_0)) (pp (fl v_1_0 (fl v09_3 nn)) (pp (fl v_7_0 nn) (tt k0 nn)))))))))) (lead_owe fun o1_0 => (lead_bif (fun k1 => (lead_bif (fun k2 => (lead_owe fun o3_0 => (lead_bif (fun k3 => (sl T6_ok 49 [] ⟨[1, 2, 0, 5, 6, 7, 8, 4], [], [some [0, 2, 8], some [4, 21, 23, 24], some [0, 1, 2, 4, 72, 73], some [2, 3, 4], some [9]], [none, none, some [4], none, none, none, none, none]⟩ ⟨[], [], []⟩ (trs 13 []) (pp (fl v_1_0 (fl v09_3 nn)) (tt k3 (pp (pp (xr v_1_1) (pp (xI R2 (spmV_0 (cvT v_7_0)).length (rowsT (spmV_0 (cvT v_7_0)))) (xw o3_0))) (tt k2 (tt k1 (pp (pp (xr v_7_0) (xw o1_0)) nn)))))))) (fun k3 => (sl T6_ok 69 [] ⟨[1, 0, 5, 6, 7, 8, 4, 2], [], [some [0, 1, 2, 71, 72, 73], some [4, 21, 23, 24], some [0, 1, 2, 4, 72, 73], some [2, 3, 4], some [9]], [none, some [4], none, none, none, none, none, none]⟩ ⟨[], [], []⟩ (trs 12 [false]) (pp (fl v09_3 (fl v_1_0 nn)) (tt k3 (pp (pp (xr v_1_1) (pp (xI R2 (spmV_0 (cvT v_7_0)).length (rowsT (spmV_0 (cvT v_7_0)))) (xw o3_0))) (tt k2 (tt k1 (pp (pp (xr v_7_0) (xw o1_0)) nn))))))))))) (fun k2 => (sl T6_ok 69 [] ⟨[1, 0, 5, 6, 7, 8, 4, 2], [], [some [0, 1, 2, 71, 72, 73], some [4, 21, 23, 24], some [0, 1, 2, 4, 72, 73], some [2, 3, 4], some [9]], [none, some [4], none, none, none, none, none, none]⟩ ⟨[], [], []⟩ (trs 6 [false, false, false, false, false, false, false]) (pp (fl v09_3 (fl v_1_0 nn)) (tt k2 (tt k1 (pp (pp (xr v_7_0) (xw o1_0)) nn)))))))) (fun k1 => (sl T6_ok 69 [] ⟨[1, 0, 5, 6, 7, 8, 4, 2], [], [some [0, 1, 2, 71, 72, 73], some [4, 21, 23, 24], some [0, 1, 2, 4, 72, 73], some [2, 3, 4], some [9]], [none, some [4], none, none, none, none, none, none]⟩ ⟨[], [], []⟩ [false, false, false, false, false, false, false, false, false, false, false, false, false] (pp (fl v09_3 (fl v_1_0 nn)) (tt k1 (pp (pp (xr v_7_0) (xw o1_0)) nn))))))))))
  | .h4 v1 v2 v71 v72 v73 v000_24 v001_4 v_0_0 v_0_1 v_0_2 v_2_0_000 v09_3 v_6_0 => (lead_bif (fun k0 => (lead_owe fun o0 => (lead_owe fun o1 => (sl T6_ok 23 [] ⟨[0, 1, 2, 3, 4, 5, 6, 10], [], [some [0, 1, 2, 71, 72, 73], some [4, 21, 23, 24], some [0, 1, 2, 4, 72, 73], some [2, 3, 4], some [9]], [none, some [4], none, none, none, none, none, none]⟩ ⟨[], [.cells [.len (v_0_0 ++ [(R4.mk v1 (rd v71 (Int.toNat v73)).a v2 (rd v71 (Int.toNat v73)).b)]).length, .keep, .keep, .keep], .keep, .keep, .keep, .keep, .keep, .keep, .rowed 4 (v_0_0 ++ [(R4.mk v1 (rd v71 (Int.toNat v73)).a v2 (rd v71 (Int.toNat v73)).b)]).length (rowsT (v_0_0 ++ [(R4.mk v1 (rd v71 (Int.toNat v73)).a v2 (rd v71 (Int.toNat v73)).b)]))], []⟩ [true] (pp (xL (v_0_0.length + 1) (v_0_0 ++ [(R4.mk v1 (rd v71 (Int.toNat v73)).a v2 (rd v71 (Int.toNat v73)).b)]).length) (pp (xL (v_0_0.length + 1) (v_0_0 ++ [(R4.mk v1 (rd v71 (Int.toNat v73)).a v2 (rd v71 (Int.toNat v73)).b)]).length) (pp (xS (v_0_0.length + 1) (appRow (rowsT v_0_0) 0 v_0_0.length 4 [(.int .i64 v1), (.int .i64 (rd v71 (Int.toNat v73)).a), (.int .i64 v2), (.int .i64 (rd v71 (Int.toNat v73)).b)]) (rowsT (v_0_0 ++ [(R4.mk v1 (rd v71 (Int.toNat v73)).a v2 (rd v71 (Int.toNat v73)).b)]))) (pp (fl v09_3 (pp (xF (appRow (rowsT v_0_0) 0 v_0_0.length 4 [(.int .i64 v1), (.int .i64 (rd v71 (Int.toNat v73)).a), (.int .i64 v2), (.int .i64 (rd v71 (Int.toNat v73)).b)])) nn)) (ww o1 (ww o0 (tt k0 nn))))))))))) (fun k0 => (sl T6_ok 22 [] ⟨[1, 0, 2, 3, 4, 5, 7], [], [some [0, 1, 2, 4], some [2, 3, 4], some [9]], [some [4], none, none, none, none, none, none]⟩ ⟨[], [], []⟩ [false, false] (pp (fl v09_3 (fl v_0_0 nn)) (tt k0 nn)))))
  | .h5 v2 v8 v000_21 v000_24 v001_4 v_0_0 v_0_1 v_0_2 v_0_3 v_3_0_000 v09_4 v_7_0 => (lead_bif (fun k0 => (lead_owe fun o0 => (lead_owe fun o1 => (sl T6_ok 33 [] ⟨[0, 1, 2, 3, 4, 5, 6, 7], [], [some [0, 2, 8], some [4, 21, 23, 24], some [0, 1, 2, 4, 72, 73], some [2, 3, 4], some [9]], [none, none, some [4], none, none, none, none, none]⟩ ⟨[], [.cells [.len (v_0_0.set (0 + (Int.toNat v8)) (R4.mk (rd v_0_0 (0 + (Int.toNat v8))).a (rd v_0_0 (0 + (Int.toNat v8))).b v2 (rd v_0_0 (0 + (Int.toNat v8))).d)).length, .keep, .keep, .keep], .rowed 4 (v_0_0.set (0 + (Int.toNat v8)) (R4.mk (rd v_0_0 (0 + (Int.toNat v8))).a (rd v_0_0 (0 + (Int.toNat v8))).b v2 (rd v_0_0 (0 + (Int.toNat v8))).d)).length (rowsT (v_0_0.set (0 + (Int.toNat v8)) (R4.mk (rd v_0_0 (0 + (Int.toNat v8))).a (rd v_0_0 (0 + (Int.toNat v8))).b v2 (rd v_0_0 (0 + (Int.toNat v8))).d))), .keep, .keep, .keep, .keep, .keep, .keep], []⟩ [true] (pp (xL v_0_0.length (v_0_0.set (0 + (Int.toNat v8)) (R4.mk (rd v_0_0 (0 + (Int.toNat v8))).a (rd v_0_0 (0 + (Int.toNat v8))).b v2 (rd v_0_0 (0 + (Int.toNat v8))).d)).length) (pp (xL v_0_0.length (v_0_0.set (0 + (Int.toNat v8)) (R4.mk (rd v_0_0 (0 + (Int.toNat v8))).a (rd v_0_0 (0 + (Int.toNat v8))).b v2 (rd v_0_0 (0 + (Int.toNat v8))).d)).length) (pp (xS v_0_0.length (updRow (rowsT v_0_0) (0 + (Int.toNat v8)) 2 [(.int .i64 v2)]) (rowsT (v_0_0.set (0 + (Int.toNat v8)) (R4.mk (rd v_0_0 (0 + (Int.toNat v8))).a (rd v_0_0 (0 + (Int.toNat v8))).b v2 (rd v_0_0 (0 + (Int.toNat v8))).d)))) (pp (pp (xF (updRow (rowsT v_0_0) (0 + (Int.toNat v8)) 2 [(.int .i64 v2)])) (fl v09_4 nn)) (ww o1 (ww o0 (tt k0 nn))))))))))) (fun k0 => (sl T6_ok 36 [] ⟨[2, 0, 3, 4, 5, 6, 1], [], [some [0, 1, 2, 4], some [2, 3, 4], some [9]], [some [4], none, none, none, none, none, none]⟩ ⟨[], [], []⟩ [false, false] (pp (fl v09_4 (fl v_0_0 nn)) (tt k0 nn)))))
theorem rgmstart_ok (l0 : List R4) : Lead Tryz.prog (resultsOf Tryz.prog 63) (rgmC l0) (startC Tryz.prog 63 [(.dat l0.length (rowsT l0))] true []) (rgmstart l0) := (lead_bif (fun k0 => (lr 13 63 [1, 0, 1, 0, 0] 1 63 [(2, .nils), (3, (.int .i64 4))] (sl T6_ok 18 [] ⟨[], [], [some [2, 3]], []⟩ ⟨[], [], []⟩ [true] (tt k0 nn)))) (fun k0 => (sl T6_ok 41 [] ⟨[], [], [some [0, 1, 7, 8], some [5, 6], some [0, 7]], []⟩ ⟨[], [], []⟩ [false] (tt k0 nn))))
theorem rgm_ends (l0 : List R4) (n : Nat) (vs : List AVal) (h : goOn (rgmstep l0) n (rgmstart l0) = .ret vs) : Ends Tryz.prog (resultsOf Tryz.prog 63) (startC Tryz.prog 63 [(.dat l0.length (rowsT l0))] true []) vs := by
  have := goOn_lead (rgmstep_ok l0) n _ (rgmstart_ok l0)
  rwa [h] at this
end Go.Am
end
section
set_option linter.unusedVariables false
set_option linter.unusedSimpArgs false
namespace Go.Am
open Go.Proofs Go.Sort Go.Shelf Go.RowKit Go.Lib
set_option maxRecDepth 100000
set_option maxHeartbeats 8000000
set_option linter.unusedVariables false
set_option linter.unusedSimpArgs false
theorem dlt_nc {i n : Nat} (h : i < n) : decide ((i : Int) < (n : Int)) = true := decide_eq_true (by omega)
theorem goOn_add' {σ : Type} (step : σ → Out' σ) (a b : Nat) (s : Out' σ) : goOn step (a + b) s = goOn step a (goOn step b s) := by
  induction b generalizing s with
  | zero => cases s <;> simp [goOn]
  | succ b ih => cases s with
    | to s => exact ih (step s)
    | ret vs => simp only [goOn_ret]
    | stuck => cases a <;> cases b <;> rfl
theorem dge_nc {i : Nat} : decide ((i : Int) ≥ 0) = true := decide_eq_true (by omega)
theorem swF_length : ∀ (L : List R3) (o last : Int) (inn : Bool) (out : List R2), (swF L o last inn out).length ≤ out.length + L.length
  | [], _, _, _, out => Nat.le_refl _
  | e :: r, o, last, inn, out => by
    rw [swF_cons]
    have := swF_length r (o + e.c) e.a (decide (o + e.c > 0)) (closeF out last inn e.a)
    have := closeF_length out last inn e.a
    simp only [List.length_cons]; omega
theorem srtE_length (l : List R3) : (srtE l).length = l.length := by
  by_cases h : bndE l = true
  · exact (srtE_spec l h).1.length_eq
  · unfold srtE; rw [dif_neg h]
theorem spmV_length (l : List R2) : (spmV_0 l).length ≤ 800 := by
  unfold spmV_0
  by_cases h : 400 < l.length
  · rw [decide_eq_true h]; exact Nat.zero_le _
  · rw [decide_eq_false h]
    cases l.all val2
    · exact Nat.zero_le _
    · show (swV l).length ≤ 800
      have h1 := swF_length (srtE (endsV l)) 0 0 false []
      rw [srtE_length, endsV_length] at h1
      simp only [List.length_nil] at h1
      unfold swV; omega
def val4 (r : R4) : Bool := decide (r.a < r.c) && (decide (r.b < r.d) && (decide (r.a ≥ -1000000) && (decide (r.a ≤ 1000000) && (decide (r.c ≥ -1000000) && (decide (r.c ≤ 1000000) && (decide (r.b ≥ -1000000) && (decide (r.b ≤ 1000000) && (decide (r.d ≥ -1000000) && decide (r.d ≤ 1000000)))))))))
noncomputable def D4 : Dim R4 R2 := ⟨R4.a, R4.c, fun r => ⟨r.b, r.d⟩, fun x x' s => ⟨x, s.a, x', s.b⟩, fun x r => ⟨r.a, r.b, x, r.d⟩, spmV_0, same2V⟩
theorem D4_sec (l : List R4) (x : Int) : (D4.sec l x).length ≤ 1000 := Nat.le_trans (spmV_length _) (by omega)
noncomputable def rgmRet (out : List R4) : List AVal := bif decide ((out.length : Int) > 400) then [.nils, .int .i64 4] else [.dat out.length (rowsT out), .int .i64 0]
def rgmErr : List AVal := [.nils, .int .i64 8]
section
variable (l : List R4) (hl : l.length ≤ 400)
include hl
theorem rgm_h3 (i : Nat) (out : List R4) (last : List R2) (first fin x x' : Int) : ∀ (k j : Nat) (acc : List R2), j + k = l.length → acc.length ≤ j →
    ∃ n, ∀ N, goOn (rgmstep l) (N + n) (.to (.h3 (i : Int) (j : Int) out last first fin ((D4.cuts l).length) (padI (srtI (D4.ends l))) x x' acc)) = goOn (rgmstep l) N (.to (.h3 (i : Int) (l.length : Int) out last first fin ((D4.cuts l).length) (padI (srtI (D4.ends l))) x x' (acc ++ D4.inn (l.drop j) x)))
  | 0, j, acc, h, ha => by
    refine ⟨0, fun N => ?_⟩
    rw [List.drop_eq_nil_of_le (by omega), show D4.inn ([] : List R4) x = [] from rfl, List.append_nil, Nat.add_zero, show j = l.length by omega]
  | k + 1, j, acc, h, ha => by
    have hj : j < l.length := by omega
    obtain ⟨n, hn⟩ := rgm_h3 i out last first fin x x' k (j + 1) (acc ++ D4.inn [rd l j] x) (by omega) (by have := D4.inn_length [rd l j] x; simp only [List.length_append, List.length_singleton] at *; omega)
    refine ⟨n + 1, fun N => ?_⟩
    have e : D4.inn (l.drop j) x = D4.inn [rd l j] x ++ D4.inn (l.drop (j + 1)) x := by
      rw [drop_rd hj, ← D4.inn_append]; rfl
    rw [e, ← Nat.add_assoc, goOn_to, ← List.append_assoc, ← hn N]
    by_cases h1 : D4.lo (rd l j) ≤ x
    · by_cases h2 : x < D4.hi (rd l j)
      · rw [D4.inn_t _ _ h1 h2]
        simp only [D4] at h1 h2 ⊢
        simp (disch := omega) only [rgmstep, dle_t, cvT_eq, lst_rows, dlt_t, din_t, nle_t, nlt_t, neq_t, room_t, wrap_t, cast_succ, beq11, toNat_c, Nat.zero_add, decide_true, Bool.and_true, Bool.true_and, cond_true, cond_false]
      · rw [D4.inn_f2 _ _ h2, List.append_nil]
        simp only [D4] at h1 h2
        simp (disch := omega) only [rgmstep, dle_t, dlt_f, cvT_eq, lst_rows, dlt_t, din_t, nle_t, nlt_t, neq_t, room_t, wrap_t, cast_succ, beq11, toNat_c, Nat.zero_add, decide_true, Bool.and_true, Bool.true_and, cond_true, cond_false]
    · rw [D4.inn_f1 _ _ h1, List.append_nil]
      simp only [D4] at h1
      simp (disch := omega) only [rgmstep, dle_f, cvT_eq, lst_rows, dlt_t, din_t, nle_t, nlt_t, neq_t, room_t, wrap_t, cast_succ, beq11, toNat_c, Nat.zero_add, decide_true, Bool.and_true, Bool.true_and, cond_true, cond_false]
theorem rgm_h4 (i : Nat) (hi : i ≤ 1000) (x x' : Int) (s last : List R2) (first : Int) (inn : List R2) (hs : s.length ≤ 1000) : ∀ (k j : Nat) (out : List R4), j + k = s.length → out.length ≤ 10000000 + j →
    ∃ n, ∀ N, goOn (rgmstep l) (N + n) (.to (.h4 x x' s (s.length : Int) (j : Int) s (i : Int) out last first ((D4.cuts l).length) (padI (srtI (D4.ends l))) inn)) = goOn (rgmstep l) N (.to (.h2 ((i + 1 : Nat) : Int) (out ++ (s.drop j).map (D4.put x x')) last first x' ((D4.cuts l).length) (padI (srtI (D4.ends l)))))
  | 0, j, out, h, ho => by
    have _uhl := hl
    refine ⟨1, fun N => ?_⟩
    rw [List.drop_eq_nil_of_le (by omega), goOn_to]
    simp (disch := omega) only [rgmstep, dlt_f, wrap_t, cast_succ, cond_false, List.map_nil, List.append_nil]
  | k + 1, j, out, h, ho => by
    obtain ⟨n, hn⟩ := rgm_h4 i hi x x' s last first inn hs k (j + 1) (out ++ [D4.put x x' (rd s j)]) (by omega) (by simp; omega)
    refine ⟨n + 1, fun N => ?_⟩
    have := hn N
    rw [drop_rd (show j < s.length by omega), List.map_cons, ← Nat.add_assoc, goOn_to]
    simp (disch := omega) only [rgmstep, cvT_eq, lst_rows, dlt_t, din_t, nle_t, nlt_t, neq_t, room_t, wrap_t, cast_succ, beq11, toNat_c, Nat.zero_add, decide_true, Bool.and_true, Bool.true_and, cond_true, cond_false]
    rw [List.append_assoc] at this
    exact this
theorem rgm_h5 (i : Nat) (hi : i ≤ 1000) (x x' fin : Int) (s last : List R2) (first : Int) (inn : List R2) : ∀ (k j : Nat) (out : List R4), j + k = out.length → out.length ≤ 10000000 →
    ∃ n, ∀ N, goOn (rgmstep l) (N + n) (.to (.h5 x' (j : Int) x s (i : Int) out last first fin ((D4.cuts l).length) (padI (srtI (D4.ends l))) inn)) = goOn (rgmstep l) N (.to (.h2 ((i + 1 : Nat) : Int) (D4.grow out j x') last first x' ((D4.cuts l).length) (padI (srtI (D4.ends l)))))
  | 0, j, out, h, ho => by
    have _uhl := hl
    refine ⟨1, fun N => ?_⟩
    rw [D4.grow_nil _ _ _ (by omega), goOn_to]
    simp (disch := omega) only [rgmstep, dlt_f, wrap_t, cast_succ, cond_false]
  | k + 1, j, out, h, ho => by
    obtain ⟨n, hn⟩ := rgm_h5 i hi x x' fin s last first inn k (j + 1) (out.set j (D4.ext x' (rd out j))) (by simp; omega) (by simpa using ho)
    refine ⟨n + 1, fun N => ?_⟩
    have := hn N
    rw [D4.grow_set out j _ (by omega)] at this
    rw [← Nat.add_assoc, goOn_to]
    simp (disch := omega) only [rgmstep, cvT_eq, lst_rows, dlt_t, din_t, nle_t, nlt_t, neq_t, room_t, wrap_t, cast_succ, beq11, toNat_c, Nat.zero_add, decide_true, Bool.and_true, Bool.true_and, cond_true, cond_false]
    exact this
theorem rgm_h2 : ∀ (k i : Nat) (s : Sw R4 R2), k = (D4.cuts l).length - 1 - i → i ≤ (D4.cuts l).length → s.out.length ≤ i * 1000 → s.last.length ≤ 1000 → s.first ≤ s.out.length →
    ∃ n, goOn (rgmstep l) n (.to (.h2 ((i + 1 : Nat) : Int) s.out s.last (s.first : Int) s.fin ((D4.cuts l).length) (padI (srtI (D4.ends l))))) = .ret (rgmRet (D4.go l k i s).out)
  | 0, i, s, h, hi, ho, hla, hf => by
    have hc := D4.cuts_length l
    refine ⟨1, ?_⟩
    rw [goOn_to, show D4.go l 0 i s = s from rfl]
    unfold rgmRet
    by_cases q : (s.out.length : Int) > 400
    · simp (disch := omega) only [rgmstep, dlt_f, dgt_t, cond_true, cond_false, goOn_ret]
    · simp (disch := omega) only [rgmstep, dlt_f, dgt_f, cond_true, cond_false, goOn_ret]
  | k + 1, i, s, h, hi, ho, hla, hf => by
    have hc := D4.cuts_length l
    have hi1 : i + 1 < (D4.cuts l).length := by omega
    have hpl : (padI (srtI (D4.ends l))).length = 2 * l.length := by rw [padI_length, srtI_length, D4.ends_length]
    have r0 : rd (padI (srtI (D4.ends l))) i = rd (D4.cuts l) i := rd_pad _ _ (by show i < (D4.cuts l).length; omega)
    have r1 : rd (padI (srtI (D4.ends l))) (i + 1) = rd (D4.cuts l) (i + 1) := rd_pad _ _ (by show i + 1 < (D4.cuts l).length; omega)
    have hbig : i * 1000 ≤ 1000 * 1000 := Nat.mul_le_mul_right _ (by omega)
    have hsl := D4_sec l (rd (D4.cuts l) i)
    have hsd : D4.sec l (rd (D4.cuts l) i) = spmV_0 (D4.inn l (rd (D4.cuts l) i)) := rfl
    obtain ⟨n3, h3⟩ := rgm_h3 l hl (i + 1) s.out s.last (s.first : Int) s.fin (rd (D4.cuts l) i) (rd (D4.cuts l) (i + 1)) l.length 0 [] (Nat.zero_add _) (Nat.le_refl _)
    simp only [List.drop_zero, List.nil_append, cast0] at h3
    have w1 : spmV_owed (D4.inn l (rd (D4.cuts l) i)) = true := rfl
    have w2 : same2V_owed s.last (spmV_0 (D4.inn l (rd (D4.cuts l) i))) = true := decide_eq_true (by omega)
    have ol := D4.one_length l (rd (D4.cuts l) i) (rd (D4.cuts l) (i + 1)) s
    have st0 : ∀ N, goOn (rgmstep l) (N + n3 + 1) (.to (.h2 ((i + 1 : Nat) : Int) s.out s.last (s.first : Int) s.fin ((D4.cuts l).length) (padI (srtI (D4.ends l))))) = goOn (rgmstep l) N (.to (.h3 ((i + 1 : Nat) : Int) (l.length : Int) s.out s.last (s.first : Int) s.fin ((D4.cuts l).length) (padI (srtI (D4.ends l))) (rd (D4.cuts l) i) (rd (D4.cuts l) (i + 1)) (D4.inn l (rd (D4.cuts l) i)))) := fun N => by
      rw [← h3 N, goOn_to]
      have e1 : IntKind.wrap .i64 (((i + 1 : Nat) : Int) - 1) = (i : Int) := by rw [cast_pred]; exact wrap_t (by omega)
      simp (disch := omega) only [rgmstep, e1, r0, r1, cvT_eq, lst_rows, dlt_t, din_t, nle_t, nlt_t, neq_t, room_t, wrap_t, cast_succ, beq11, toNat_c, Nat.zero_add, decide_true, Bool.and_true, Bool.true_and, cond_true, cond_false]
    rcases boolc (decide (0 < (D4.sec l (rd (D4.cuts l) i)).length) && ((s.fin == rd (D4.cuts l) i) && D4.same s.last (D4.sec l (rd (D4.cuts l) i)))) with q | q
    · obtain ⟨n5, h5⟩ := rgm_h5 l hl (i + 1) (by omega) (rd (D4.cuts l) i) (rd (D4.cuts l) (i + 1)) s.fin (D4.sec l (rd (D4.cuts l) i)) s.last (s.first : Int) (D4.inn l (rd (D4.cuts l) i)) (s.out.length - s.first) s.first s.out (by omega) (by omega)
      have e : D4.one l (rd (D4.cuts l) i) (rd (D4.cuts l) (i + 1)) s = ⟨D4.grow s.out s.first (rd (D4.cuts l) (i + 1)), s.last, s.first, rd (D4.cuts l) (i + 1)⟩ := by unfold Dim.one; rw [q]; rfl
      obtain ⟨n0, h0⟩ := rgm_h2 k (i + 1) (D4.one l (rd (D4.cuts l) i) (rd (D4.cuts l) (i + 1)) s) (by omega) (by omega) (by omega) (by rw [e]; exact hla) (by rw [e]; simpa [Dim.grow_length] using hf)
      refine ⟨n0 + n5 + 1 + n3 + 1, ?_⟩
      rw [st0 (n0 + n5 + 1), goOn_to]
      simp only [Bool.and_eq_true, decide_eq_true_eq] at q
      obtain ⟨q1, q2, q3⟩ := q
      have q3' : same2V s.last (spmV_0 (D4.inn l (rd (D4.cuts l) i))) = true := q3
      rw [hsd] at q1
      simp (disch := omega) only [rgmstep, cvT_eq, lst_rows, dlt_f, dgt_t, q2, q3', w1, w2, cond_true, cond_false]
      rw [← hsd, h5 n0]
      simp only [Dim.go]
      rw [e] at h0 ⊢
      exact h0
    · obtain ⟨n4, h4⟩ := rgm_h4 l hl (i + 1) (by omega) (rd (D4.cuts l) i) (rd (D4.cuts l) (i + 1)) (D4.sec l (rd (D4.cuts l) i)) (D4.sec l (rd (D4.cuts l) i)) (s.out.length : Int) (D4.inn l (rd (D4.cuts l) i)) hsl (D4.sec l (rd (D4.cuts l) i)).length 0 s.out (Nat.zero_add _) (by omega)
      simp only [List.drop_zero, cast0] at h4
      have e : D4.one l (rd (D4.cuts l) i) (rd (D4.cuts l) (i + 1)) s = ⟨s.out ++ (D4.sec l (rd (D4.cuts l) i)).map (D4.put (rd (D4.cuts l) i) (rd (D4.cuts l) (i + 1))), D4.sec l (rd (D4.cuts l) i), s.out.length, rd (D4.cuts l) (i + 1)⟩ := by unfold Dim.one; rw [q]; rfl
      obtain ⟨n0, h0⟩ := rgm_h2 k (i + 1) (D4.one l (rd (D4.cuts l) i) (rd (D4.cuts l) (i + 1)) s) (by omega) (by omega) (by omega) (by rw [e]; exact hsl) (by rw [e]; simp)
      have hg : goOn (rgmstep l) 1 (.to (.h3 ((i + 1 : Nat) : Int) (l.length : Int) s.out s.last (s.first : Int) s.fin ((D4.cuts l).length) (padI (srtI (D4.ends l))) (rd (D4.cuts l) i) (rd (D4.cuts l) (i + 1)) (D4.inn l (rd (D4.cuts l) i)))) = .to (.h4 (rd (D4.cuts l) i) (rd (D4.cuts l) (i + 1)) (D4.sec l (rd (D4.cuts l) i)) ((D4.sec l (rd (D4.cuts l) i)).length : Int) 0 (D4.sec l (rd (D4.cuts l) i)) ((i + 1 : Nat) : Int) s.out (D4.sec l (rd (D4.cuts l) i)) (s.out.length : Int) ((D4.cuts l).length) (padI (srtI (D4.ends l))) (D4.inn l (rd (D4.cuts l) i))) := by
        rw [show (1 : Nat) = 0 + 1 from rfl, goOn_to]
        rw [hsd] at q ⊢
        have e3 : D4.same s.last (spmV_0 (D4.inn l (rd (D4.cuts l) i))) = same2V s.last (spmV_0 (D4.inn l (rd (D4.cuts l) i))) := rfl
        rw [e3] at q
        by_cases q1 : 0 < (spmV_0 (D4.inn l (rd (D4.cuts l) i))).length
        · rw [decide_eq_true q1, Bool.true_and] at q
          rcases boolc (s.fin == rd (D4.cuts l) i) with q2 | q2
          · rw [q2, Bool.true_and] at q
            simp (disch := omega) only [rgmstep, cvT_eq, lst_rows, dlt_f, dgt_t, q2, q, w1, w2, cond_true, cond_false]
            rfl
          · simp (disch := omega) only [rgmstep, cvT_eq, lst_rows, dlt_f, dgt_t, q2, w1, w2, cond_true, cond_false]
            rfl
        · simp (disch := omega) only [rgmstep, cvT_eq, lst_rows, dlt_f, dgt_f, w1, w2, cond_true, cond_false]
          rfl
      refine ⟨n0 + n4 + 1 + n3 + 1, ?_⟩
      rw [st0 (n0 + n4 + 1), goOn_add' _ (n0 + n4) 1, hg, h4 n0]
      simp only [Dim.go]
      rw [e] at h0 ⊢
      exact h0
theorem rgm_h1 : ∀ (k i : Nat) (acc : List Int), i + k = l.length → acc = D4.ends (l.take i) → ∃ n, goOn (rgmstep l) n (.to (.h1 (i : Int) acc)) = .ret (rgmRet (D4.go l ((D4.cuts l).length - 1) 0 ⟨[], [], 0, 0⟩).out)
  | 0, i, acc, h, ha => by
    have e : acc = D4.ends l := by rw [ha, List.take_of_length_le (by omega)]
    subst e
    have hle := D4.ends_length l
    obtain ⟨n, hn⟩ := rgm_h2 l hl ((D4.cuts l).length - 1) 0 ⟨[], [], 0, 0⟩ (by omega) (Nat.zero_le _) (Nat.zero_le _) (Nat.zero_le _) (Nat.zero_le _)
    refine ⟨n + 1, ?_⟩
    rw [goOn_to]
    simp (disch := omega) only [rgmstep, intsOf_rows, intsOf_srt, cmpN_eq, dlt_f, nlt_t, neq_t, decide_true, cond_true, cond_false]
    exact hn
  | k + 1, i, acc, h, ha => by
    have hle := D4.ends_length (l.take i)
    have hacc : acc.length ≤ 2 * i := by rw [ha, hle]; simp; omega
    obtain ⟨n, hn⟩ := rgm_h1 k (i + 1) (acc ++ D4.ends [rd l i]) (by omega) (by
      rw [ha, List.take_add_one]
      have : l[i]? = some (rd l i) := by rw [rd_lt (show i < l.length by omega)]; exact List.getElem?_eq_getElem _
      rw [this, D4.ends_append]; rfl)
    refine ⟨n + 1, ?_⟩
    rw [goOn_to]
    simp (disch := omega) only [rgmstep, cvT_eq, lst_rows, dlt_t, din_t, nle_t, nlt_t, neq_t, room_t, wrap_t, cast_succ, beq11, toNat_c, Nat.zero_add, decide_true, Bool.and_true, Bool.true_and, cond_true, cond_false]
    exact hn
theorem rgm_h0 : ∀ (k i : Nat), i + k = l.length → (∀ s ∈ l.take i, val4 s = true) → ∃ n, goOn (rgmstep l) n (.to (.h0 (i : Int))) = .ret (bif l.all val4 then rgmRet (D4.go l ((D4.cuts l).length - 1) 0 ⟨[], [], 0, 0⟩).out else rgmErr)
  | 0, i, h, ht => by
    have hv : l.all val4 = true := List.all_eq_true.2 fun s hs => ht s (by rw [List.take_of_length_le (by omega)]; exact hs)
    obtain ⟨n, hn⟩ := rgm_h1 l hl l.length 0 [] (Nat.zero_add _) rfl
    refine ⟨n + 1, ?_⟩
    rw [goOn_to, hv, cond_true]
    simp (disch := omega) only [rgmstep, dlt_f, cond_false]
    exact hn
  | k + 1, i, h, ht => by
    have hi : i < l.length := by omega
    have hs : rgmstep l (.h0 (i : Int)) = bif val4 (rd l i) then .to (.h0 ((i + 1 : Nat) : Int)) else .ret rgmErr := by
      simp (disch := omega) only [rgmstep, val4, bif_and, bif_not, dlt_nc, dge_nc, din_t, wrap_t, cast_succ, toNat_c, Bool.and_true, cond_true, cond_false]
      rfl
    rcases boolc (val4 (rd l i)) with q | q
    · obtain ⟨n, hn⟩ := rgm_h0 k (i + 1) (by omega) (fun s hs => by
        rw [List.take_add_one] at hs
        have e : l[i]? = some (rd l i) := by rw [rd_lt hi]; exact List.getElem?_eq_getElem _
        rw [e] at hs
        simp only [Option.toList_some, List.mem_append, List.mem_singleton] at hs
        rcases hs with hs | rfl
        · exact ht s hs
        · exact q)
      refine ⟨n + 1, ?_⟩
      rw [goOn_to, hs, q, cond_true]
      exact hn
    · have hv : l.all val4 = false := Bool.eq_false_iff.2 fun e => by
        have := List.all_eq_true.1 e (rd l i) (by rw [rd_lt hi]; exact List.getElem_mem hi)
        rw [this] at q; cases q
      refine ⟨1, ?_⟩
      rw [goOn_to, hv, cond_false, hs, q, cond_false, goOn_ret]
end
noncomputable def rgmV_0 (l : List R4) : List R4 := bif decide (400 < l.length) then [] else bif l.all val4 then (bif decide (((D4.out l).length : Int) > 400) then [] else D4.out l) else []
noncomputable def rgmV_1 (l : List R4) : Int := bif decide (400 < l.length) then 4 else bif l.all val4 then (bif decide (((D4.out l).length : Int) > 400) then 4 else 0) else 8
def rgmV_owed (l : List R4) : Bool := true
noncomputable def rgmAll (l : List R4) : List AVal := bif decide (400 < l.length) then [.nils, .int .i64 4] else bif l.all val4 then rgmRet (D4.out l) else rgmErr
theorem rgm_run (l : List R4) : ∃ n, goOn (rgmstep l) n (rgmstart l) = .ret (rgmAll l) := by
  unfold rgmstart rgmAll
  by_cases h : 400 < l.length
  · refine ⟨0, ?_⟩
    rw [decide_eq_true h, dgt_t (show ((l.length : Nat) : Int) > 400 by omega)]; rfl
  · obtain ⟨n, hn⟩ := rgm_h0 l (by omega) l.length 0 (Nat.zero_add _) (fun s hs => by simp at hs)
    refine ⟨n, ?_⟩
    rw [decide_eq_false h, dgt_f (show ¬ ((l.length : Nat) : Int) > 400 by omega), cond_false, cond_false]
    exact hn
noncomputable def fRgm : List AVal → Option (AVal × Bool)
  | [a1] => match asL R4 a1 with
    | some (L1, g1, n1) => some (.tup [.dat (rgmV_0 L1).length (rowsT (rgmV_0 L1)), .int .i64 (rgmV_1 L1)], isT R4 n1 g1 && rgmV_owed L1)
    | _ => none
  | _ => none
theorem fRgm_ok {S : Specs} (hS : SpecsOk Tryz.prog S) : SpecsOk Tryz.prog (S.with nRegMake fRgm) := by
  refine fTwo hS (by kernel_rfl) fun args v h => ?_
  unfold fRgm at h
  split at h
  · rename_i a1
    split at h
    · rename_i L1 g1 n1 e1
      simp only [Option.some.injEq, Prod.mk.injEq, Bool.and_eq_true] at h
      obtain ⟨rfl, ho1, hw⟩ := h
      obtain ⟨N, hN⟩ := rgm_run L1
      refine ⟨_, rgmAll L1, (.cons (asL_le e1 ho1) .nil), ?_, rgm_ends L1 N _ hN, 3, ?_⟩
      · unfold rgmV_0 rgmV_1 rgmAll rgmRet rgmErr
        cases decide (400 < L1.length) <;> simp only [cond_true, cond_false]
        · cases L1.all val4 <;> simp only [cond_true, cond_false]
          · exact fun ρ u hu => tup_le (.cons (nils_le R4) (RLe.refl _)) ρ u hu
          · cases decide (((D4.out L1).length : Int) > 400) <;> simp only [cond_true, cond_false]
            · exact fun ρ u hu => hu
            · exact fun ρ u hu => tup_le (.cons (nils_le R4) (RLe.refl _)) ρ u hu
        · exact fun ρ u hu => tup_le (.cons (nils_le R4) (RLe.refl _)) ρ u hu
      · unfold rgmAll rgmRet rgmErr
        cases decide (400 < L1.length) <;> simp only [cond_true, cond_false]
        · cases L1.all val4 <;> simp only [cond_true, cond_false]
          · rfl
          · cases decide (((D4.out L1).length : Int) > 400) <;> rfl
        · rfl
    · cases h
  · cases h
noncomputable def T7 : Specs := T6.with nRegMake fRgm
theorem T7_ok : SpecsOk Tryz.prog T7 := fRgm_ok T6_ok
end Go.Am
end
section
set_option linter.unusedVariables false
set_option linter.unusedSimpArgs false
namespace Go.Am
open Go.Proofs
set_option maxRecDepth 1000000
set_option linter.unusedVariables false
set_option linter.unusedSimpArgs false
set_option maxHeartbeats 4000000
inductive sckS where
  | h0 (v8 : Int)
  | h1 (v16 : Int) (v_2_0 : List Int)
  | h2 (v4 : Int) (v_4_0 : List R6) (v_4_1 : List R4) (v_4_2 : Int) (v_4_3 : Int) (v_5_0_000 : Nat) (v09_6 : List Int)
  | h3 (v4 : Int) (v38 : Int) (v_4_0 : List R6) (v_4_1 : List R4) (v_4_2 : Int) (v_4_3 : Int) (v_5_0_000 : Nat) (v09_6 : List Int) (v_9_0 : Int) (v_9_1 : Int) (v_10_0 : List R4)
  | h4 (v1 : Int) (v2 : Int) (v72 : List R4) (v73 : Int) (v74 : Int) (v000_57 : List R4) (v001_4 : Int) (v_0_0 : List R6) (v_0_1 : List R4) (v_0_2 : Int) (v_5_0_000 : Nat) (v09_6 : List Int) (v_9_0 : List R4)
  | h5 (v2 : Int) (v8 : Int) (v000_54 : Int) (v000_57 : List R4) (v001_4 : Int) (v_0_0 : List R6) (v_0_1 : List R4) (v_0_2 : Int) (v_0_3 : Int) (v_6_0_000 : Nat) (v09_7 : List Int) (v_10_0 : List R4)
noncomputable def sckC (l0 : List R6) : sckS → Cfg
  | .h0 v8 => ⟨⟨19, 0, true⟩, none, (todoP Tryz.prog 60 [1, 0, 1, 0, 0] 0), none, (resultsOf Tryz.prog 4), ⟨envL [(0, (.dat l0.length (rowsT l0))), (1, (.fn 50 [])), (7, (.int .i64 ((l0.length : Nat) : Int))), (8, (.int .i64 v8))], memL [] 0, 0, [], true⟩, [⟨⟨9, 0, true⟩, (regP Tryz.prog 49 [1, 0] 2), (todoP Tryz.prog 49 [1, 0] 1), none, (resultsOf Tryz.prog 4), envL [(5, (.dat l0.length (rowsT l0))), (6, (.fn 50 []))]⟩, ⟨⟨25, 0, true⟩, (regP Tryz.prog 35 [1, 1, 0, 0] 1), (todoP Tryz.prog 35 [1, 1, 0, 0] 1), none, (resultsOf Tryz.prog 8), envL [(0, (.dat l0.length (rowsT l0))), (8, (.dat l0.length (rowsT l0)))]⟩], .leaf⟩
  | .h1 v16 v_2_0 => ⟨⟨36, 0, true⟩, none, (todoP Tryz.prog 62 [1, 1, 0, 1, 0, 0, 1, 1, 0, 0, 1, 1, 0, 0] 0), none, (resultsOf Tryz.prog 8), ⟨envL [(1, (.ptr 0 0)), (3, (.ptr 2 0)), (8, (.sl 1 0 1 (.un 1))), (9, (.int .i64 1)), (10, (.int .i64 0)), (14, (.dat l0.length (rowsT l0))), (15, (.int .i64 ((l0.length : Nat) : Int))), (16, (.int .i64 v16))], memL [⟨[(.sl 1 0 1 (.un 1))], 110, none⟩, ⟨[(.dat l0.length (rowsT l0))], 22, none⟩, ⟨[(.sla 7 1 0 v_2_0.length (.un 1))], 41, none⟩, ⟨[.nilf], 96, none⟩, ⟨[.nils], 23, none⟩, ⟨[(.int .i64 0)], 25, none⟩, ⟨[.nils, .nils, (.int .i64 0), (.int .i64 0)], 112, none⟩, ⟨rows v_2_0.length (rowsT v_2_0), 3, some ⟨1, v_2_0.length, (rowsT v_2_0)⟩⟩] 0, 8, [], true⟩, [⟨⟨65, 0, true⟩, (regP Tryz.prog 52 [1, 1, 0, 0] 1), (todoP Tryz.prog 52 [1, 1, 0, 0] 1), none, (resultsOf Tryz.prog 52), envL [(2, (.ptr 3 0)), (4, (.ptr 4 0)), (5, (.ptr 5 0)), (6, (.ptr 6 0)), (13, (.sl 1 0 1 (.un 1)))]⟩, ⟨⟨25, 0, true⟩, (regP Tryz.prog 35 [1, 1, 1, 0, 0] 3), (todoP Tryz.prog 35 [1, 1, 1, 0, 0] 1), none, (resultsOf Tryz.prog 8), envL [(0, (.dat l0.length (rowsT l0))), (11, (.agg [.nilf])), (13, (.sl 1 0 1 (.un 1)))]⟩], .leaf⟩
  | .h2 v4 v_4_0 v_4_1 v_4_2 v_4_3 v_5_0_000 v09_6 => ⟨⟨86, 0, true⟩, none, (todoP Tryz.prog 74 [1, 0, 0] 0), none, [], ⟨envL [(0, (.yld 0)), (1, (.ptr 5 0)), (2, (.ptr 7 0)), (4, (.int .i64 v4))], memP [(1, ⟨[.nilf], 96, none⟩), (2, ⟨[.nils], 23, none⟩), (3, ⟨[(.int .i64 0)], 25, none⟩), (4, ⟨[(.sla 9 6 0 v_4_0.length (.un 6)), (.dat v_4_1.length (rowsT v_4_1)), (.int .i64 v_4_2), (.int .i64 v_4_3)], 112, none⟩), (5, ⟨[(.sla 6 1 0 v_5_0_000 (.un 1))], 41, none⟩), (6, ⟨rows v09_6.length (rowsT v09_6), 3, some ⟨1, v09_6.length, (rowsT v09_6)⟩⟩), (7, ⟨[(.sl 8 0 1 (.un 1))], 110, none⟩), (8, ⟨[(.dat l0.length (rowsT l0))], 22, none⟩), (9, ⟨rows v_4_0.length (rowsT v_4_0), 69, some ⟨6, v_4_0.length, (rowsT v_4_0)⟩⟩)], 10, [], true⟩, [⟨⟨65, 0, true⟩, none, (.inRangeFunc 0 :: (todoP Tryz.prog 52 [1, 1, 0, 1, 0] 1)), none, (resultsOf Tryz.prog 52), envL [(4, (.ptr 2 0)), (5, (.ptr 3 0)), (6, (.ptr 4 0))]⟩, ⟨⟨25, 0, true⟩, (regP Tryz.prog 35 [1, 1, 1, 0, 0] 3), (todoP Tryz.prog 35 [1, 1, 1, 0, 0] 1), none, (resultsOf Tryz.prog 8), envL [(0, (.dat l0.length (rowsT l0))), (11, (.agg [.nilf])), (13, (.sl 8 0 1 (.un 1)))]⟩], (lpsL [(0, ⟨.ready, none, 65, envL [(2, (.ptr 1 0)), (4, (.ptr 2 0)), (5, (.ptr 3 0)), (6, (.ptr 4 0))], [15], (codeP Tryz.prog 52 [1, 1, 0, 1, 0, 0]), (codeP Tryz.prog 52 [1, 1, 0, 1, 0, 1])⟩)])⟩
  | .h3 v4 v38 v_4_0 v_4_1 v_4_2 v_4_3 v_5_0_000 v09_6 v_9_0 v_9_1 v_10_0 => ⟨⟨86, 0, true⟩, none, (todoP Tryz.prog 74 [1, 0, 0, 1, 0, 0, 1, 0, 1, 0, 0, 1, 1, 0, 0, 1, 1, 0, 0] 0), none, [], ⟨envL [(0, (.yld 0)), (1, (.ptr 5 0)), (2, (.ptr 7 0)), (4, (.int .i64 v4)), (5, (.ptr 9 0)), (6, (.int .i64 0)), (29, (.sl 8 0 1 (.un 1))), (30, (.int .i64 1)), (31, (.int .i64 0)), (36, (.dat l0.length (rowsT l0))), (37, (.int .i64 ((l0.length : Nat) : Int))), (38, (.int .i64 v38))], memP [(1, ⟨[.nilf], 96, none⟩), (2, ⟨[.nils], 23, none⟩), (3, ⟨[(.int .i64 0)], 25, none⟩), (4, ⟨[(.sla 12 6 0 v_4_0.length (.un 6)), (.dat v_4_1.length (rowsT v_4_1)), (.int .i64 v_4_2), (.int .i64 v_4_3)], 112, none⟩), (5, ⟨[(.sla 6 1 0 v_5_0_000 (.un 1))], 41, none⟩), (6, ⟨rows v09_6.length (rowsT v09_6), 3, some ⟨1, v09_6.length, (rowsT v09_6)⟩⟩), (7, ⟨[(.sl 8 0 1 (.un 1))], 110, none⟩), (8, ⟨[(.dat l0.length (rowsT l0))], 22, none⟩), (9, ⟨[(.int .i64 v_9_0), (.int .i64 v_9_1), (.sl 10 0 1 (.ex 1))], 117, none⟩), (10, ⟨[(.sla 11 4 0 v_10_0.length (.un 4))], 100, none⟩), (11, ⟨rows v_10_0.length (rowsT v_10_0), 106, some ⟨4, v_10_0.length, (rowsT v_10_0)⟩⟩), (12, ⟨rows v_4_0.length (rowsT v_4_0), 69, some ⟨6, v_4_0.length, (rowsT v_4_0)⟩⟩)], 13, [], true⟩, [⟨⟨65, 0, true⟩, none, (.inRangeFunc 0 :: (todoP Tryz.prog 52 [1, 1, 0, 1, 0] 1)), none, (resultsOf Tryz.prog 52), envL [(4, (.ptr 2 0)), (5, (.ptr 3 0)), (6, (.ptr 4 0))]⟩, ⟨⟨25, 0, true⟩, (regP Tryz.prog 35 [1, 1, 1, 0, 0] 3), (todoP Tryz.prog 35 [1, 1, 1, 0, 0] 1), none, (resultsOf Tryz.prog 8), envL [(0, (.dat l0.length (rowsT l0))), (11, (.agg [.nilf])), (13, (.sl 8 0 1 (.un 1)))]⟩], (lpsL [(0, ⟨.ready, none, 65, envL [(2, (.ptr 1 0)), (4, (.ptr 2 0)), (5, (.ptr 3 0)), (6, (.ptr 4 0))], [15], (codeP Tryz.prog 52 [1, 1, 0, 1, 0, 0]), (codeP Tryz.prog 52 [1, 1, 0, 1, 0, 1])⟩)])⟩
  | .h4 v1 v2 v72 v73 v74 v000_57 v001_4 v_0_0 v_0_1 v_0_2 v_5_0_000 v09_6 v_9_0 => ⟨⟨101, 0, true⟩, none, (todoP Tryz.prog 64 [1, 1, 1, 0, 0] 0), none, [], ⟨envL [(0, (.ptr 0 0)), (1, (.int .i64 v1)), (2, (.int .i64 v2)), (72, (.dat v72.length (rowsT v72))), (73, (.int .i64 v73)), (74, (.int .i64 v74))], memP [(0, ⟨[(.sla 10 6 0 v_0_0.length (.un 6)), (.dat v_0_1.length (rowsT v_0_1)), (.int .i64 v_0_2), (.int .i64 v2)], 112, none⟩), (2, ⟨[.nilf], 96, none⟩), (3, ⟨[.nils], 23, none⟩), (4, ⟨[(.int .i64 0)], 25, none⟩), (5, ⟨[(.sla 6 1 0 v_5_0_000 (.un 1))], 41, none⟩), (6, ⟨rows v09_6.length (rowsT v09_6), 3, some ⟨1, v09_6.length, (rowsT v09_6)⟩⟩), (7, ⟨[(.sl 8 0 1 (.un 1))], 110, none⟩), (8, ⟨[(.dat l0.length (rowsT l0))], 22, none⟩), (9, ⟨[(.dat v_9_0.length (rowsT v_9_0))], 100, none⟩), (10, ⟨rows v_0_0.length (rowsT v_0_0), 69, some ⟨6, v_0_0.length, (rowsT v_0_0)⟩⟩)], 11, [], true⟩, [⟨⟨65, 0, true⟩, (regP Tryz.prog 52 [1, 1, 0, 1, 0, 1, 0, 1, 1, 1] 5), (todoP Tryz.prog 52 [1, 1, 0, 1, 0, 1, 0, 1, 1, 1] 1), (some 1), [], envL [(6, (.ptr 0 0)), (54, (.int .i64 v1)), (56, (.int .i64 v2)), (57, (.dat v000_57.length (rowsT v000_57)))]⟩, ⟨⟨86, 0, true⟩, (regP Tryz.prog 74 [1, 0, 0, 1, 0, 0, 1, 1, 0] 2), (todoP Tryz.prog 74 [1, 0, 0, 1, 0, 0, 1, 1, 0] 1), none, [], envL [(0, (.yld 1)), (1, (.ptr 5 0)), (2, (.ptr 7 0)), (4, (.int .i64 v001_4)), (82, (.yld 1)), (83, (.agg [(.int .i64 v1), (.int .i64 v2), (.sl 9 0 1 (.ex 1))]))]⟩, ⟨⟨65, 0, true⟩, none, (.inRangeFunc 1 :: (todoP Tryz.prog 52 [1, 1, 0, 1, 0] 1)), none, (resultsOf Tryz.prog 52), envL [(4, (.ptr 3 0)), (5, (.ptr 4 0)), (6, (.ptr 0 0))]⟩, ⟨⟨25, 0, true⟩, (regP Tryz.prog 35 [1, 1, 1, 0, 0] 3), (todoP Tryz.prog 35 [1, 1, 1, 0, 0] 1), none, (resultsOf Tryz.prog 8), envL [(0, (.dat l0.length (rowsT l0))), (11, (.agg [.nilf])), (13, (.sl 8 0 1 (.un 1)))]⟩], (lpsL [(1, ⟨.busy, none, 65, envL [(2, (.ptr 2 0)), (4, (.ptr 3 0)), (5, (.ptr 4 0)), (6, (.ptr 0 0))], [15], (codeP Tryz.prog 52 [1, 1, 0, 1, 0, 0]), (codeP Tryz.prog 52 [1, 1, 0, 1, 0, 1])⟩)])⟩
  | .h5 v2 v8 v000_54 v000_57 v001_4 v_0_0 v_0_1 v_0_2 v_0_3 v_6_0_000 v09_7 v_10_0 => ⟨⟨101, 0, true⟩, none, (todoP Tryz.prog 64 [0, 1, 0, 0, 1, 0, 0] 0), none, [], ⟨envL [(0, (.ptr 0 0)), (2, (.int .i64 v2)), (8, (.int .i64 v8))], memP [(0, ⟨[(.sla 1 6 0 v_0_0.length (.un 6)), (.dat v_0_1.length (rowsT v_0_1)), (.int .i64 v_0_2), (.int .i64 v_0_3)], 112, none⟩), (1, ⟨rows v_0_0.length (rowsT v_0_0), 69, some ⟨6, v_0_0.length, (rowsT v_0_0)⟩⟩), (3, ⟨[.nilf], 96, none⟩), (4, ⟨[.nils], 23, none⟩), (5, ⟨[(.int .i64 0)], 25, none⟩), (6, ⟨[(.sla 7 1 0 v_6_0_000 (.un 1))], 41, none⟩), (7, ⟨rows v09_7.length (rowsT v09_7), 3, some ⟨1, v09_7.length, (rowsT v09_7)⟩⟩), (8, ⟨[(.sl 9 0 1 (.un 1))], 110, none⟩), (9, ⟨[(.dat l0.length (rowsT l0))], 22, none⟩), (10, ⟨[(.dat v_10_0.length (rowsT v_10_0))], 100, none⟩)], 11, [], true⟩, [⟨⟨65, 0, true⟩, (regP Tryz.prog 52 [1, 1, 0, 1, 0, 1, 0, 1, 1, 1] 5), (todoP Tryz.prog 52 [1, 1, 0, 1, 0, 1, 0, 1, 1, 1] 1), (some 2), [], envL [(6, (.ptr 0 0)), (54, (.int .i64 v000_54)), (56, (.int .i64 v2)), (57, (.dat v000_57.length (rowsT v000_57)))]⟩, ⟨⟨86, 0, true⟩, (regP Tryz.prog 74 [1, 0, 0, 1, 0, 0, 1, 1, 0] 2), (todoP Tryz.prog 74 [1, 0, 0, 1, 0, 0, 1, 1, 0] 1), none, [], envL [(0, (.yld 2)), (1, (.ptr 6 0)), (2, (.ptr 8 0)), (4, (.int .i64 v001_4)), (82, (.yld 2)), (83, (.agg [(.int .i64 v000_54), (.int .i64 v2), (.sl 10 0 1 (.ex 1))]))]⟩, ⟨⟨65, 0, true⟩, none, (.inRangeFunc 2 :: (todoP Tryz.prog 52 [1, 1, 0, 1, 0] 1)), none, (resultsOf Tryz.prog 52), envL [(4, (.ptr 4 0)), (5, (.ptr 5 0)), (6, (.ptr 0 0))]⟩, ⟨⟨25, 0, true⟩, (regP Tryz.prog 35 [1, 1, 1, 0, 0] 3), (todoP Tryz.prog 35 [1, 1, 1, 0, 0] 1), none, (resultsOf Tryz.prog 8), envL [(0, (.dat l0.length (rowsT l0))), (11, (.agg [.nilf])), (13, (.sl 9 0 1 (.un 1)))]⟩], (lpsL [(2, ⟨.busy, none, 65, envL [(2, (.ptr 3 0)), (4, (.ptr 4 0)), (5, (.ptr 5 0)), (6, (.ptr 0 0))], [15], (codeP Tryz.prog 52 [1, 1, 0, 1, 0, 0]), (codeP Tryz.prog 52 [1, 1, 0, 1, 0, 1])⟩)])⟩
noncomputable def sckstep (l0 : List R6) : sckS → Out' sckS
  | .h0 v8 => (bif (decide (v8 < ((l0.length : Nat) : Int))) then (bif ((decide (0 ≤ v8 ∧ v8 < ((l0.length : Nat) : Int))) && true) then (bif (decide ((rd l0 (Int.toNat v8)).a < (rd l0 (Int.toNat v8)).d)) then (bif (decide ((rd l0 (Int.toNat v8)).b < (rd l0 (Int.toNat v8)).e)) then (bif (decide ((rd l0 (Int.toNat v8)).c < (rd l0 (Int.toNat v8)).f)) then (bif (decide ((iMin (iMin (rd l0 (Int.toNat v8)).a (rd l0 (Int.toNat v8)).b) (rd l0 (Int.toNat v8)).c) ≥ (-1000000))) then (bif (decide ((iMax (iMax (rd l0 (Int.toNat v8)).a (rd l0 (Int.toNat v8)).b) (rd l0 (Int.toNat v8)).c) ≤ 1000000)) then (bif (decide ((iMin (iMin (rd l0 (Int.toNat v8)).d (rd l0 (Int.toNat v8)).e) (rd l0 (Int.toNat v8)).f) ≥ (-1000000))) then (bif (!(decide ((iMax (iMax (rd l0 (Int.toNat v8)).d (rd l0 (Int.toNat v8)).e) (rd l0 (Int.toNat v8)).f) ≤ 1000000))) then (bif (decide (v8 ≥ 0)) then (.ret [(.int .i64 8)]) else (.to (.h1 0 ([] : List Int)))) else (.to (.h0 (IntKind.wrap IntKind.i64 (v8 + 1))))) else (bif (decide (v8 ≥ 0)) then (.ret [(.int .i64 8)]) else (.to (.h1 0 ([] : List Int))))) else (bif (decide (v8 ≥ 0)) then (.ret [(.int .i64 8)]) else (.to (.h1 0 ([] : List Int))))) else (bif (decide (v8 ≥ 0)) then (.ret [(.int .i64 8)]) else (.to (.h1 0 ([] : List Int))))) else (bif (decide (v8 ≥ 0)) then (.ret [(.int .i64 8)]) else (.to (.h1 0 ([] : List Int))))) else (bif (decide (v8 ≥ 0)) then (.ret [(.int .i64 8)]) else (.to (.h1 0 ([] : List Int))))) else (bif (decide (v8 ≥ 0)) then (.ret [(.int .i64 8)]) else (.to (.h1 0 ([] : List Int))))) else .stuck) else (.to (.h1 0 ([] : List Int))))
  | .h1 v16 v_2_0 => (bif (decide (v16 < ((l0.length : Nat) : Int))) then (bif ((decide (0 ≤ v16 ∧ v16 < ((l0.length : Nat) : Int))) && true) then (bif (Nat.beq 1 1 && ((decide (0 + v_2_0.length = v_2_0.length)) && decide ((v_2_0.length + 2 + 1) * (8 + 1) ≤ room))) then (.to (.h1 (IntKind.wrap IntKind.i64 (v16 + 1)) (v_2_0 ++ [(rd l0 (Int.toNat v16)).c, (rd l0 (Int.toNat v16)).f]))) else .stuck) else .stuck) else (bif (decide (v_2_0.length < 4611686018427387904)) then (bif (decide (v_2_0.length = v_2_0.length)) then (.to (.h2 1 ([] : List R6) ([] : List R4) 0 0 (cmpN (intsOf v_2_0.length (cOf (rowsT (srtI (intsOf v_2_0.length (cOf (rowsT v_2_0)))))))) (padI (intsOf v_2_0.length (cOf (rowsT (srtI (intsOf v_2_0.length (cOf (rowsT v_2_0)))))))))) else .stuck) else .stuck))
  | .h2 v4 v_4_0 v_4_1 v_4_2 v_4_3 v_5_0_000 v09_6 => (bif (decide (v4 < ((v_5_0_000 : Nat) : Int))) then (bif ((decide (0 ≤ (IntKind.wrap IntKind.i64 (v4 - 1)) ∧ (IntKind.wrap IntKind.i64 (v4 - 1)) < ((v_5_0_000 : Nat) : Int))) && true) then (bif (decide ((0 + (Int.toNat (IntKind.wrap IntKind.i64 (v4 - 1)))) < v09_6.length)) then (bif ((decide (0 ≤ v4 ∧ v4 < ((v_5_0_000 : Nat) : Int))) && true) then (bif (decide ((0 + (Int.toNat v4)) < v09_6.length)) then (.to (.h3 v4 0 v_4_0 v_4_1 v_4_2 v_4_3 v_5_0_000 v09_6 (rd v09_6 (0 + (Int.toNat (IntKind.wrap IntKind.i64 (v4 - 1))))) (rd v09_6 (0 + (Int.toNat v4))) ([] : List R4))) else .stuck) else .stuck) else .stuck) else .stuck) else (bif (decide (((v_4_0.length : Nat) : Int) > 400)) then (.ret [(.int .i64 8)]) else (bif (Nat.beq 6 6 && (decide (0 + v_4_0.length ≤ v_4_0.length) && flatG (rowsT v_4_0))) then (bif (same6V_owed (lst R6 (v_4_0.length) (fun k => (rowsT v_4_0) (0 + k))) (cvT l0)) then (bif (!(same6V (lst R6 (v_4_0.length) (fun k => (rowsT v_4_0) (0 + k))) (cvT l0))) then (.ret [(.int .i64 8)]) else (.ret [(.int .i64 0)])) else .stuck) else .stuck)))
  | .h3 v4 v38 v_4_0 v_4_1 v_4_2 v_4_3 v_5_0_000 v09_6 v_9_0 v_9_1 v_10_0 => (bif (decide (v38 < ((l0.length : Nat) : Int))) then (bif ((decide (0 ≤ v38 ∧ v38 < ((l0.length : Nat) : Int))) && true) then (bif (decide ((rd l0 (Int.toNat v38)).c ≤ v_9_0)) then (bif (decide (v_9_0 < (rd l0 (Int.toNat v38)).f)) then (bif (Nat.beq 4 4 && ((decide (0 + v_10_0.length = v_10_0.length)) && decide ((v_10_0.length + 1 + 1) * (32 + 1) ≤ room))) then (.to (.h3 v4 (IntKind.wrap IntKind.i64 (v38 + 1)) v_4_0 v_4_1 v_4_2 v_4_3 v_5_0_000 v09_6 v_9_0 v_9_1 (v_10_0 ++ [(R4.mk (rd l0 (Int.toNat v38)).a (rd l0 (Int.toNat v38)).b (rd l0 (Int.toNat v38)).d (rd l0 (Int.toNat v38)).e)]))) else .stuck) else (.to (.h3 v4 (IntKind.wrap IntKind.i64 (v38 + 1)) v_4_0 v_4_1 v_4_2 v_4_3 v_5_0_000 v09_6 v_9_0 v_9_1 v_10_0))) else (.to (.h3 v4 (IntKind.wrap IntKind.i64 (v38 + 1)) v_4_0 v_4_1 v_4_2 v_4_3 v_5_0_000 v09_6 v_9_0 v_9_1 v_10_0))) else .stuck) else (bif (rgmV_owed (cvT v_10_0)) then (bif ((rgmV_1 (cvT v_10_0)) != 0) then (.ret [(.int .i64 8)]) else (bif (decide ((((rgmV_0 (cvT v_10_0)).length : Nat) : Int) > 0)) then (bif (v_4_3 == v_9_0) then (bif (same4V_owed (cvT v_4_1) (cvT (rgmV_0 (cvT v_10_0)))) then (bif (same4V (cvT v_4_1) (cvT (rgmV_0 (cvT v_10_0)))) then (.to (.h5 v_9_1 v_4_2 v_9_0 (rgmV_0 (cvT v_10_0)) v4 v_4_0 v_4_1 v_4_2 v_4_3 v_5_0_000 v09_6 v_10_0)) else (.to (.h4 v_9_0 v_9_1 (rgmV_0 (cvT v_10_0)) (((rgmV_0 (cvT v_10_0)).length : Nat) : Int) 0 (rgmV_0 (cvT v_10_0)) v4 v_4_0 (rgmV_0 (cvT v_10_0)) ((v_4_0.length : Nat) : Int) v_5_0_000 v09_6 v_10_0))) else .stuck) else (.to (.h4 v_9_0 v_9_1 (rgmV_0 (cvT v_10_0)) (((rgmV_0 (cvT v_10_0)).length : Nat) : Int) 0 (rgmV_0 (cvT v_10_0)) v4 v_4_0 (rgmV_0 (cvT v_10_0)) ((v_4_0.length : Nat) : Int) v_5_0_000 v09_6 v_10_0))) else (.to (.h4 v_9_0 v_9_1 (rgmV_0 (cvT v_10_0)) (((rgmV_0 (cvT v_10_0)).length : Nat) : Int) 0 (rgmV_0 (cvT v_10_0)) v4 v_4_0 (rgmV_0 (cvT v_10_0)) ((v_4_0.length : Nat) : Int) v_5_0_000 v09_6 v_10_0)))) else .stuck))
  | .h4 v1 v2 v72 v73 v74 v000_57 v001_4 v_0_0 v_0_1 v_0_2 v_5_0_000 v09_6 v_9_0 => (bif (decide (v74 < v73)) then (bif ((decide (0 ≤ v74 ∧ v74 < ((v72.length : Nat) : Int))) && true) then (bif (Nat.beq 6 6 && ((decide (0 + v_0_0.length = v_0_0.length)) && decide ((v_0_0.length + 1 + 1) * (48 + 1) ≤ room))) then (.to (.h4 v1 v2 v72 v73 (IntKind.wrap IntKind.i64 (v74 + 1)) v000_57 v001_4 (v_0_0 ++ [(R6.mk (rd v72 (Int.toNat v74)).a (rd v72 (Int.toNat v74)).b v1 (rd v72 (Int.toNat v74)).c (rd v72 (Int.toNat v74)).d v2)]) v_0_1 v_0_2 v_5_0_000 v09_6 v_9_0)) else .stuck) else .stuck) else (.to (.h2 (IntKind.wrap IntKind.i64 (v001_4 + 1)) v_0_0 v_0_1 v_0_2 v2 v_5_0_000 v09_6)))
  | .h5 v2 v8 v000_54 v000_57 v001_4 v_0_0 v_0_1 v_0_2 v_0_3 v_6_0_000 v09_7 v_10_0 => (bif (decide (v8 < ((v_0_0.length : Nat) : Int))) then (bif ((decide (0 ≤ v8 ∧ v8 < ((v_0_0.length : Nat) : Int))) && true) then (bif (decide ((0 + (Int.toNat v8)) < v_0_0.length)) then (.to (.h5 v2 (IntKind.wrap IntKind.i64 (v8 + 1)) v000_54 v000_57 v001_4 (v_0_0.set (0 + (Int.toNat v8)) (R6.mk (rd v_0_0 (0 + (Int.toNat v8))).a (rd v_0_0 (0 + (Int.toNat v8))).b (rd v_0_0 (0 + (Int.toNat v8))).c (rd v_0_0 (0 + (Int.toNat v8))).d (rd v_0_0 (0 + (Int.toNat v8))).e v2)) v_0_1 v_0_2 v_0_3 v_6_0_000 v09_7 v_10_0)) else .stuck) else .stuck) else (.to (.h2 (IntKind.wrap IntKind.i64 (v001_4 + 1)) v_0_0 v_0_1 v_0_2 v2 v_6_0_000 v09_7)))
noncomputable def sckstart (l0 : List R6) : Out' sckS := (bif (decide (((l0.length : Nat) : Int) > 400)) then (.ret [(.int .i64 4)]) else (.to (.h0 0)))
theorem sckstep_ok (l0 : List R6) : ∀ s, Lead Tryz.prog (resultsOf Tryz.prog 35) (sckC l0) (sckC l0 s) (sckstep l0 s)
  | .h0 v8 => (lead_bif (fun k0 => (lead_owe fun o1_0 => (lead_bif (fun k1 => (lead_bif (fun k2 => (lead_bif (fun k3 => (lead_bif (fun k4 => (lead_bif (fun k5 => (lead_bif (fun k6 => (lead_bif (fun k7 => (lead_bif (fun k8 => (lr 25 35 [1, 1, 0, 1, 0, 0] 1 8 [(2, (.int .i64 8))] (sl T7_ok 154 [] ⟨[], [], [some [2]], []⟩ ⟨[], [], []⟩ (trs 39 []) (tt k8 (tt k7 (tt k6 (tt k5 (tt k4 (tt k3 (tt k2 (tt k1 (ww o1_0 (tt k0 nn))))))))))))) (fun k8 => (sl T7_ok 214 [(3, 1, rowsT ([] : List Int))] ⟨[9, 4, 10, 5, 6, 7, 8, 11], [], [some [1, 3, 8, 9, 10, 14, 15, 16], some [2, 4, 5, 6, 13], some [0, 11, 13]], []⟩ ⟨[], [.keep, .keep, .cells [.grow 7 1], .keep, .keep, .keep, .keep, .keep], []⟩ (trs 38 [false, true]) (pp (fl ([] : List Int) nn) (tt k8 (tt k7 (tt k6 (tt k5 (tt k4 (tt k3 (tt k2 (tt k1 (ww o1_0 (tt k0 nn))))))))))))))) (fun k7 => (sl T7_ok 145 [] ⟨[], [], [some [0, 1, 7, 8], some [5, 6], some [0, 8]], []⟩ ⟨[], [], []⟩ (trs 37 [false]) (tt k7 (tt k6 (tt k5 (tt k4 (tt k3 (tt k2 (tt k1 (ww o1_0 (tt k0 nn))))))))))))) (fun k6 => (lead_bif (fun k7 => (lr 25 35 [1, 1, 0, 1, 0, 0] 1 8 [(2, (.int .i64 8))] (sl T7_ok 154 [] ⟨[], [], [some [2]], []⟩ ⟨[], [], []⟩ (trs 29 [false, false, false, false, false, false, false, false, true, true]) (tt k7 (tt k6 (tt k5 (tt k4 (tt k3 (tt k2 (tt k1 (ww o1_0 (tt k0 nn)))))))))))) (fun k7 => (sl T7_ok 214 [(3, 1, rowsT ([] : List Int))] ⟨[9, 4, 10, 5, 6, 7, 8, 11], [], [some [1, 3, 8, 9, 10, 14, 15, 16], some [2, 4, 5, 6, 13], some [0, 11, 13]], []⟩ ⟨[], [.keep, .keep, .cells [.grow 7 1], .keep, .keep, .keep, .keep, .keep], []⟩ (trs 29 [false, false, false, false, false, false, false, false, true, false, true]) (pp (fl ([] : List Int) nn) (tt k7 (tt k6 (tt k5 (tt k4 (tt k3 (tt k2 (tt k1 (ww o1_0 (tt k0 nn)))))))))))))))) (fun k5 => (lead_bif (fun k6 => (lr 25 35 [1, 1, 0, 1, 0, 0] 1 8 [(2, (.int .i64 8))] (sl T7_ok 126 [] ⟨[], [], [some [2]], []⟩ ⟨[], [], []⟩ (trs 26 [false, false, false, true, true]) (tt k6 (tt k5 (tt k4 (tt k3 (tt k2 (tt k1 (ww o1_0 (tt k0 nn))))))))))) (fun k6 => (sl T7_ok 186 [(3, 1, rowsT ([] : List Int))] ⟨[8, 3, 9, 4, 5, 6, 7, 10], [], [some [1, 3, 8, 9, 10, 14, 15, 16], some [2, 4, 5, 6, 13], some [0, 11, 13]], []⟩ ⟨[], [.keep, .keep, .cells [.grow 7 1], .keep, .keep, .keep, .keep, .keep], []⟩ (trs 26 [false, false, false, true, false, true]) (pp (fl ([] : List Int) nn) (tt k6 (tt k5 (tt k4 (tt k3 (tt k2 (tt k1 (ww o1_0 (tt k0 nn))))))))))))))) (fun k4 => (lead_bif (fun k5 => (lr 25 35 [1, 1, 0, 1, 0, 0] 1 8 [(2, (.int .i64 8))] (sl T7_ok 126 [] ⟨[], [], [some [2]], []⟩ ⟨[], [], []⟩ (trs 18 [false, false, false, false, false, false, false, false, false, false, false, true, true]) (tt k5 (tt k4 (tt k3 (tt k2 (tt k1 (ww o1_0 (tt k0 nn)))))))))) (fun k5 => (sl T7_ok 186 [(3, 1, rowsT ([] : List Int))] ⟨[8, 3, 9, 4, 5, 6, 7, 10], [], [some [1, 3, 8, 9, 10, 14, 15, 16], some [2, 4, 5, 6, 13], some [0, 11, 13]], []⟩ ⟨[], [.keep, .keep, .cells [.grow 7 1], .keep, .keep, .keep, .keep, .keep], []⟩ (trs 18 [false, false, false, false, false, false, false, false, false, false, false, true, false, true]) (pp (fl ([] : List Int) nn) (tt k5 (tt k4 (tt k3 (tt k2 (tt k1 (ww o1_0 (tt k0 nn)))))))))))))) (fun k3 => (lead_bif (fun k4 => (lr 25 35 [1, 1, 0, 1, 0, 0] 1 8 [(2, (.int .i64 8))] (sl T7_ok 98 [] ⟨[], [], [some [2]], []⟩ ⟨[], [], []⟩ (trs 15 [false, false, false, false, false, false, true, true]) (tt k4 (tt k3 (tt k2 (tt k1 (ww o1_0 (tt k0 nn))))))))) (fun k4 => (sl T7_ok 158 [(3, 1, rowsT ([] : List Int))] ⟨[7, 2, 8, 3, 4, 5, 6, 9], [], [some [1, 3, 8, 9, 10, 14, 15, 16], some [2, 4, 5, 6, 13], some [0, 11, 13]], []⟩ ⟨[], [.keep, .keep, .cells [.grow 7 1], .keep, .keep, .keep, .keep, .keep], []⟩ (trs 15 [false, false, false, false, false, false, true, false, true]) (pp (fl ([] : List Int) nn) (tt k4 (tt k3 (tt k2 (tt k1 (ww o1_0 (tt k0 nn))))))))))))) (fun k2 => (lead_bif (fun k3 => (lr 25 35 [1, 1, 0, 1, 0, 0] 1 8 [(2, (.int .i64 8))] (sl T7_ok 98 [] ⟨[], [], [some [2]], []⟩ ⟨[], [], []⟩ (trs 8 [false, false, false, false, false, false, false, false, false, false, false, false, false, true, true]) (tt k3 (tt k2 (tt k1 (ww o1_0 (tt k0 nn)))))))) (fun k3 => (sl T7_ok 158 [(3, 1, rowsT ([] : List Int))] ⟨[7, 2, 8, 3, 4, 5, 6, 9], [], [some [1, 3, 8, 9, 10, 14, 15, 16], some [2, 4, 5, 6, 13], some [0, 11, 13]], []⟩ ⟨[], [.keep, .keep, .cells [.grow 7 1], .keep, .keep, .keep, .keep, .keep], []⟩ (trs 8 [false, false, false, false, false, false, false, false, false, false, false, false, false, true, false, true]) (pp (fl ([] : List Int) nn) (tt k3 (tt k2 (tt k1 (ww o1_0 (tt k0 nn)))))))))))) (fun k1 => (lead_bif (fun k2 => (lr 25 35 [1, 1, 0, 1, 0, 0] 1 8 [(2, (.int .i64 8))] (sl T7_ok 98 [] ⟨[], [], [some [2]], []⟩ ⟨[], [], []⟩ [true, false, false, false, false, false, false, false, false, false, false, false, false, false, false, false, false, false, false, false, false, true, true] (tt k2 (tt k1 (ww o1_0 (tt k0 nn))))))) (fun k2 => (sl T7_ok 158 [(3, 1, rowsT ([] : List Int))] ⟨[7, 2, 8, 3, 4, 5, 6, 9], [], [some [1, 3, 8, 9, 10, 14, 15, 16], some [2, 4, 5, 6, 13], some [0, 11, 13]], []⟩ ⟨[], [.keep, .keep, .cells [.grow 7 1], .keep, .keep, .keep, .keep, .keep], []⟩ [true, false, false, false, false, false, false, false, false, false, false, false, false, false, false, false, false, false, false, false, false, true, false, true] (pp (fl ([] : List Int) nn) (tt k2 (tt k1 (ww o1_0 (tt k0 nn)))))))))))) (fun k0 => (sl T7_ok 82 [(3, 1, rowsT ([] : List Int))] ⟨[5, 0, 6, 1, 2, 3, 4, 7], [], [some [1, 3, 8, 9, 10, 14, 15, 16], some [2, 4, 5, 6, 13], some [0, 11, 13]], []⟩ ⟨[], [.keep, .keep, .cells [.grow 7 1], .keep, .keep, .keep, .keep, .keep], []⟩ [false, false, true] (pp (fl ([] : List Int) nn) (tt k0 nn)))))
  | .h1 v16 v_2_0 => (lead_bif (fun k0 => (lead_owe fun o0 => (lead_owe fun o1 => (sl T7_ok 34 [] ⟨[0, 1, 2, 3, 4, 5, 6, 10], [], [some [1, 3, 8, 9, 10, 14, 15, 16], some [2, 4, 5, 6, 13], some [0, 11, 13]], []⟩ ⟨[], [.keep, .keep, .cells [.len (v_2_0 ++ [(rd l0 (Int.toNat v16)).c, (rd l0 (Int.toNat v16)).f]).length], .keep, .keep, .keep, .keep, .rowed 1 (v_2_0 ++ [(rd l0 (Int.toNat v16)).c, (rd l0 (Int.toNat v16)).f]).length (rowsT (v_2_0 ++ [(rd l0 (Int.toNat v16)).c, (rd l0 (Int.toNat v16)).f]))], []⟩ [true] (pp (xL (v_2_0.length + 2) (v_2_0 ++ [(rd l0 (Int.toNat v16)).c, (rd l0 (Int.toNat v16)).f]).length) (pp (xL (v_2_0.length + 2) (v_2_0 ++ [(rd l0 (Int.toNat v16)).c, (rd l0 (Int.toNat v16)).f]).length) (pp (xS (v_2_0.length + 2) (appRow (rowsT v_2_0) 0 v_2_0.length 1 [(.int .i64 (rd l0 (Int.toNat v16)).c), (.int .i64 (rd l0 (Int.toNat v16)).f)]) (rowsT (v_2_0 ++ [(rd l0 (Int.toNat v16)).c, (rd l0 (Int.toNat v16)).f]))) (pp (pp (xF (appRow (rowsT v_2_0) 0 v_2_0.length 1 [(.int .i64 (rd l0 (Int.toNat v16)).c), (.int .i64 (rd l0 (Int.toNat v16)).f)])) nn) (ww o1 (ww o0 (tt k0 nn))))))))))) (fun k0 => (lead_owe fun o0 => (lead_owe fun o1 => (sl T7_ok 46 [(69, 6, rowsT ([] : List R6))] ⟨[8, 3, 4, 5, 6, 2, 7, 0, 1, 9], [], [some [0, 1, 2, 4], some [4, 5, 6], some [0, 11, 13]], [some [2, 4, 5, 6], none, none, none, none, none, none, none, none, none]⟩ ⟨[], [.keep, .keep, .keep, .keep, .cells [.grow 9 6, .list 0 (rowsT ([] : List R4)), .keep, .keep], .keep, .rowed 1 (padI (intsOf v_2_0.length (cOf (rowsT (srtI (intsOf v_2_0.length (cOf (rowsT v_2_0)))))))).length (rowsT (padI (intsOf v_2_0.length (cOf (rowsT (srtI (intsOf v_2_0.length (cOf (rowsT v_2_0))))))))), .keep, .keep, .keep], []⟩ [false, false] (pp (xL v_2_0.length (padI (intsOf v_2_0.length (cOf (rowsT (srtI (intsOf v_2_0.length (cOf (rowsT v_2_0)))))))).length (by first | exact lenIs_pad _ _ | exact lenIs_of rfl)) (pp (xS v_2_0.length (rowsT (padI (intsOf v_2_0.length (cOf (rowsT (srtI (intsOf v_2_0.length (cOf (rowsT v_2_0))))))))) (rowsT (padI (intsOf v_2_0.length (cOf (rowsT (srtI (intsOf v_2_0.length (cOf (rowsT v_2_0)))))))))) (pp (fl (padI (intsOf v_2_0.length (cOf (rowsT (srtI (intsOf v_2_0.length (cOf (rowsT v_2_0)))))))) (fl ([] : List R6) nn)) (pp (pp (xG (Nat.beq 1 1)) (pp (xG (Nat.beq 1 1)) (pp (xG (Nat.beq 0 0)) (pp (xG (decide (v_2_0.length = v_2_0.length))) (pp (xG (isI (rowsT (srtI (intsOf v_2_0.length (cOf (rowsT v_2_0))))))) (xG (decide (v_2_0.length < 4611686018427387904)))))))) (pp (pp (xG (Nat.beq 1 1)) (pp (xG (Nat.beq 1 1)) (pp (xG (Nat.beq 0 0)) (pp (xG (decide (v_2_0.length = v_2_0.length))) (pp (xG (isI (rowsT v_2_0))) (xG (decide (v_2_0.length < 4611686018427387904)))))))) (tt k0 nn)))))))))))
  | .h2 v4 v_4_0 v_4_1 v_4_2 v_4_3 v_5_0_000 v09_6 => (lead_bif (fun k0 => (lead_owe fun o0 => (lead_owe fun o1 => (lead_owe fun o2 => (lead_owe fun o3 => (sl T7_ok 48 [(106, 4, rowsT ([] : List R4))] ⟨[0, 1, 2, 3, 4, 5, 6, 7, 8, 10, 11, 12, 9], [], [some [0, 1, 2, 4, 5, 6, 29, 30, 31, 36, 37, 38], some [4, 5, 6], some [0, 11, 13]], [some [2, 4, 5, 6], none, none, none, none, none, none, none, none, none, none, none, none]⟩ ⟨[], [.keep, .keep, .keep, .keep, .keep, .keep, .keep, .keep, .keep, .keep, .cells [.grow 11 4], .keep, .keep], []⟩ (trs 3 []) (pp (fl v09_6 (fl ([] : List R4) (fl v_4_0 nn))) (ww o3 (ww o2 (ww o1 (ww o0 (tt k0 nn)))))))))))) (fun k0 => (lead_bif (fun k1 => (lr 25 35 [1, 1, 1, 0, 1, 1, 0, 0] 1 8 [(2, (.int .i64 8))] (sl T7_ok 50 [] ⟨[], [], [some [2]], []⟩ ⟨[], [], []⟩ [false, true, true, true, true, true, true] (tt k1 (tt k0 nn))))) (fun k1 => (lead_owe fun o2_0 => (lead_owe fun o2_1 => (lead_bif (fun k2 => (lr 25 35 [1, 1, 1, 0, 1, 1, 0, 0] 1 8 [(2, (.int .i64 8))] (sl T7_ok 53 [] ⟨[], [], [some [2]], []⟩ ⟨[], [], []⟩ [false, false, false, false, false, false, true] (tt k2 (pp (pp (pp (xw o2_0) (pp nn nn)) (pp (xI R6 (v_4_0.length) (fun k => (rowsT v_4_0) (0 + k))) (pp (xr l0) (xw o2_1)))) (tt k1 (tt k0 nn))))))) (fun k2 => (lr 25 3 [1, 1, 1, 1, 1, 1, 0] 1 8 [(2, (.int .i64 0))] (sl T7_ok 54 [] ⟨[], [], [some [2]], []⟩ ⟨[], [], []⟩ [false, false, false, false, false, false, false] (tt k2 (pp (pp (pp (xw o2_0) (pp nn nn)) (pp (xI R6 (v_4_0.length) (fun k => (rowsT v_4_0) (0 + k))) (pp (xr l0) (xw o2_1)))) (tt k1 (tt k0 nn))))))))))))))
  | .h3 v4 v38 v_4_0 v_4_1 v_4_2 v_4_3 v_5_0_000 v09_6 v_9_0 v_9_1 v_10_0 => (lead_bif (fun k0 => (lead_owe fun o1_0 => (lead_bif (fun k1 => (lead_bif (fun k2 => (lead_owe fun o0 => (sl T7_ok 41 [] ⟨[0, 1, 2, 3, 4, 5, 6, 7, 8, 9, 10, 15, 12], [], [some [0, 1, 2, 4, 5, 6, 29, 30, 31, 36, 37, 38], some [4, 5, 6], some [0, 11, 13]], [some [2, 4, 5, 6], none, none, none, none, none, none, none, none, none, none, none, none]⟩ ⟨[], [.keep, .keep, .keep, .keep, .keep, .keep, .keep, .keep, .keep, .keep, .cells [.len (v_10_0 ++ [(R4.mk (rd l0 (Int.toNat v38)).a (rd l0 (Int.toNat v38)).b (rd l0 (Int.toNat v38)).d (rd l0 (Int.toNat v38)).e)]).length], .rowed 4 (v_10_0 ++ [(R4.mk (rd l0 (Int.toNat v38)).a (rd l0 (Int.toNat v38)).b (rd l0 (Int.toNat v38)).d (rd l0 (Int.toNat v38)).e)]).length (rowsT (v_10_0 ++ [(R4.mk (rd l0 (Int.toNat v38)).a (rd l0 (Int.toNat v38)).b (rd l0 (Int.toNat v38)).d (rd l0 (Int.toNat v38)).e)])), .keep], []⟩ (trs 8 []) (pp (xL (v_10_0.length + 1) (v_10_0 ++ [(R4.mk (rd l0 (Int.toNat v38)).a (rd l0 (Int.toNat v38)).b (rd l0 (Int.toNat v38)).d (rd l0 (Int.toNat v38)).e)]).length) (pp (xL (v_10_0.length + 1) (v_10_0 ++ [(R4.mk (rd l0 (Int.toNat v38)).a (rd l0 (Int.toNat v38)).b (rd l0 (Int.toNat v38)).d (rd l0 (Int.toNat v38)).e)]).length) (pp (xS (v_10_0.length + 1) (appRow (rowsT v_10_0) 0 v_10_0.length 4 [(.int .i64 (rd l0 (Int.toNat v38)).a), (.int .i64 (rd l0 (Int.toNat v38)).b), (.int .i64 (rd l0 (Int.toNat v38)).d), (.int .i64 (rd l0 (Int.toNat v38)).e)]) (rowsT (v_10_0 ++ [(R4.mk (rd l0 (Int.toNat v38)).a (rd l0 (Int.toNat v38)).b (rd l0 (Int.toNat v38)).d (rd l0 (Int.toNat v38)).e)]))) (pp (fl v09_6 (pp (xF (appRow (rowsT v_10_0) 0 v_10_0.length 4 [(.int .i64 (rd l0 (Int.toNat v38)).a), (.int .i64 (rd l0 (Int.toNat v38)).b), (.int .i64 (rd l0 (Int.toNat v38)).d), (.int .i64 (rd l0 (Int.toNat v38)).e)])) (fl v_4_0 nn))) (ww o0 (tt k2 (tt k1 (ww o1_0 (tt k0 nn)))))))))))) (fun k2 => (sl T7_ok 41 [] ⟨[0, 1, 2, 3, 4, 5, 6, 7, 8, 9, 10, 11, 12], [], [some [0, 1, 2, 4, 5, 6, 29, 30, 31, 36, 37, 38], some [4, 5, 6], some [0, 11, 13]], [some [2, 4, 5, 6], none, none, none, none, none, none, none, none, none, none, none, none]⟩ ⟨[], [], []⟩ (trs 7 [false]) (pp (fl v09_6 (fl v_10_0 (fl v_4_0 nn))) (tt k2 (tt k1 (ww o1_0 (tt k0 nn))))))))) (fun k1 => (sl T7_ok 41 [] ⟨[0, 1, 2, 3, 4, 5, 6, 7, 8, 9, 10, 11, 12], [], [some [0, 1, 2, 4, 5, 6, 29, 30, 31, 36, 37, 38], some [4, 5, 6], some [0, 11, 13]], [some [2, 4, 5, 6], none, none, none, none, none, none, none, none, none, none, none, none]⟩ ⟨[], [], []⟩ [true, false, false, false, false, false, false, false] (pp (fl v09_6 (fl v_10_0 (fl v_4_0 nn))) (tt k1 (ww o1_0 (tt k0 nn))))))))) (fun k0 => (lead_goes (sl T7_ok (C' := ⟨⟨65, 0, true⟩, (regP Tryz.prog 52 [1, 1, 0, 1, 0, 1, 0, 0] 4), (todoP Tryz.prog 52 [1, 1, 0, 1, 0, 1, 0, 0] 1), (some 0), [], ⟨envL [(2, (.ptr 1 0)), (4, (.ptr 2 0)), (5, (.ptr 3 0)), (6, (.ptr 4 0)), (7, (.ptr 6 0)), (20, (.dat v_10_0.length (rowsT v_10_0)))], memP [(1, ⟨[.nilf], 96, none⟩), (2, ⟨[.nils], 23, none⟩), (3, ⟨[(.int .i64 0)], 25, none⟩), (4, ⟨[(.sla 5 6 0 v_4_0.length (.un 6)), (.dat v_4_1.length (rowsT v_4_1)), (.int .i64 v_4_2), (.int .i64 v_4_3)], 112, none⟩), (5, ⟨rows v_4_0.length (rowsT v_4_0), 69, some ⟨6, v_4_0.length, (rowsT v_4_0)⟩⟩), (6, ⟨[(.int .i64 v_9_0), (.int .i64 v_9_1), (.sl 7 0 1 (.ex 1))], 117, none⟩), (7, ⟨[(.dat v_10_0.length (rowsT v_10_0))], 100, none⟩), (8, ⟨[(.sla 9 1 0 v_5_0_000 (.un 1))], 41, none⟩), (9, ⟨rows v09_6.length (rowsT v09_6), 3, some ⟨1, v09_6.length, (rowsT v09_6)⟩⟩), (10, ⟨[(.sl 11 0 1 (.un 1))], 110, none⟩), (11, ⟨[(.dat l0.length (rowsT l0))], 22, none⟩)], 12, [], true⟩, [⟨⟨86, 0, true⟩, (regP Tryz.prog 74 [1, 0, 0, 1, 0, 0, 1, 1, 0] 2), (todoP Tryz.prog 74 [1, 0, 0, 1, 0, 0, 1, 1, 0] 1), none, [], envL [(0, (.yld 0)), (1, (.ptr 8 0)), (2, (.ptr 10 0)), (4, (.int .i64 v4)), (82, (.yld 0)), (83, (.agg [(.int .i64 v_9_0), (.int .i64 v_9_1), (.sl 7 0 1 (.ex 1))]))]⟩, ⟨⟨65, 0, true⟩, none, (.inRangeFunc 0 :: (todoP Tryz.prog 52 [1, 1, 0, 1, 0] 1)), none, (resultsOf Tryz.prog 52), envL [(4, (.ptr 2 0)), (5, (.ptr 3 0)), (6, (.ptr 4 0))]⟩, ⟨⟨25, 0, true⟩, (regP Tryz.prog 35 [1, 1, 1, 0, 0] 3), (todoP Tryz.prog 35 [1, 1, 1, 0, 0] 1), none, (resultsOf Tryz.prog 8), envL [(0, (.dat l0.length (rowsT l0))), (11, (.agg [.nilf])), (13, (.sl 11 0 1 (.un 1)))]⟩], (lpsL [(0, ⟨.busy, none, 65, envL [(2, (.ptr 1 0)), (4, (.ptr 2 0)), (5, (.ptr 3 0)), (6, (.ptr 4 0))], [15], (codeP Tryz.prog 52 [1, 1, 0, 1, 0, 0]), (codeP Tryz.prog 52 [1, 1, 0, 1, 0, 1])⟩)])⟩) 37 [] ⟨[0, 1, 2, 3, 4, 12, 13, 10, 5, 6, 7, 8], [11], [some [2, 4, 5, 6, 7, 20], some [0, 1, 2, 4, 82, 83], some [4, 5, 6], some [0, 11, 13]], [some [2, 4, 5, 6], none, none, none, none, none, none, none, none, none, none, none]⟩ ⟨[(20, .frz v_10_0.length v_10_0.length (rowsT v_10_0) (rowsT v_10_0))], [.keep, .keep, .keep, .keep, .keep, .keep, .keep, .cells [.frz v_10_0.length v_10_0.length (rowsT v_10_0) (rowsT v_10_0)], .keep, .keep, .keep, .keep], []⟩ [false, false] (pp (xZ (frzS 4 4 0 v_10_0.length v_10_0.length (rowsT v_10_0)) v_10_0.length (rowsT v_10_0)) (pp (xL v_10_0.length v_10_0.length) (pp (xS v_10_0.length (rowsT v_10_0) (rowsT v_10_0)) (pp (xZ (frzS 4 4 0 v_10_0.length v_10_0.length (rowsT v_10_0)) v_10_0.length (rowsT v_10_0)) (pp (xL v_10_0.length v_10_0.length) (pp (xS v_10_0.length (rowsT v_10_0) (rowsT v_10_0)) (pp (fl v_4_0 (fl v09_6 nn)) (pp (fl v_10_0 nn) (tt k0 nn)))))))))) (lead_owe fun o1_0 => (lead_bif (fun k1 => (lr 25 35 [1, 1, 1, 0, 1, 1, 0, 0] 1 8 [(2, (.int .i64 8))] (sl T7_ok 67 [] ⟨[], [], [some [2]], []⟩ ⟨[], [], []⟩ [false, true, true, true, true, true, true, true] (tt k1 (tt k1 (pp (pp (xr v_10_0) (xw o1_0)) nn)))))) (fun k1 => (lead_bif (fun k2 => (lead_bif (fun k3 => (lead_owe fun o4_0 => (lead_bif (fun k4 => (sl T7_ok 75 [] ⟨[4, 5, 0, 1, 2, 3, 8, 9, 10, 11, 7], [], [some [0, 2, 8], some [6, 54, 56, 57], some [0, 1, 2, 4, 82, 83], some [4, 5, 6], some [0, 11, 13]], [none, none, some [2, 4, 5, 6], none, none, none, none, none, none, none, none]⟩ ⟨[], [], []⟩ [false, false, true, true, true, true, true, true, true, true, true, true, true, true, true] (pp (fl v_4_0 (fl v09_6 nn)) (tt k4 (pp (pp (xr v_4_1) (pp (xI R4 (rgmV_0 (cvT v_10_0)).length (rowsT (rgmV_0 (cvT v_10_0)))) (xw o4_0))) (tt k3 (tt k2 (tt k1 (pp (pp (xr v_10_0) (xw o1_0)) nn))))))))) (fun k4 => (sl T7_ok 95 [] ⟨[4, 0, 1, 2, 3, 8, 9, 10, 11, 7, 5], [], [some [0, 1, 2, 72, 73, 74], some [6, 54, 56, 57], some [0, 1, 2, 4, 82, 83], some [4, 5, 6], some [0, 11, 13]], [none, some [2, 4, 5, 6], none, none, none, none, none, none, none, none, none]⟩ ⟨[], [], []⟩ [false, false, true, true, true, true, true, true, true, true, true, true, true, true, false] (pp (fl v09_6 (fl v_4_0 nn)) (tt k4 (pp (pp (xr v_4_1) (pp (xI R4 (rgmV_0 (cvT v_10_0)).length (rowsT (rgmV_0 (cvT v_10_0)))) (xw o4_0))) (tt k3 (tt k2 (tt k1 (pp (pp (xr v_10_0) (xw o1_0)) nn)))))))))))) (fun k3 => (sl T7_ok 95 [] ⟨[4, 0, 1, 2, 3, 8, 9, 10, 11, 7, 5], [], [some [0, 1, 2, 72, 73, 74], some [6, 54, 56, 57], some [0, 1, 2, 4, 82, 83], some [4, 5, 6], some [0, 11, 13]], [none, some [2, 4, 5, 6], none, none, none, none, none, none, none, none, none]⟩ ⟨[], [], []⟩ [false, false, true, true, true, true, true, true, false, false, false, false, false, false, false] (pp (fl v09_6 (fl v_4_0 nn)) (tt k3 (tt k2 (tt k1 (pp (pp (xr v_10_0) (xw o1_0)) nn))))))))) (fun k2 => (sl T7_ok 95 [] ⟨[4, 0, 1, 2, 3, 8, 9, 10, 11, 7, 5], [], [some [0, 1, 2, 72, 73, 74], some [6, 54, 56, 57], some [0, 1, 2, 4, 82, 83], some [4, 5, 6], some [0, 11, 13]], [none, some [2, 4, 5, 6], none, none, none, none, none, none, none, none, none]⟩ ⟨[], [], []⟩ [false, false, false, false, false, false, false, false, false, false, false, false, false, false, false] (pp (fl v09_6 (fl v_4_0 nn)) (tt k2 (tt k1 (pp (pp (xr v_10_0) (xw o1_0)) nn)))))))))))))
  | .h4 v1 v2 v72 v73 v74 v000_57 v001_4 v_0_0 v_0_1 v_0_2 v_5_0_000 v09_6 v_9_0 => (lead_bif (fun k0 => (lead_owe fun o0 => (lead_owe fun o1 => (sl T7_ok 23 [] ⟨[0, 1, 2, 3, 4, 5, 6, 7, 8, 9, 13], [], [some [0, 1, 2, 72, 73, 74], some [6, 54, 56, 57], some [0, 1, 2, 4, 82, 83], some [4, 5, 6], some [0, 11, 13]], [none, some [2, 4, 5, 6], none, none, none, none, none, none, none, none, none]⟩ ⟨[], [.cells [.len (v_0_0 ++ [(R6.mk (rd v72 (Int.toNat v74)).a (rd v72 (Int.toNat v74)).b v1 (rd v72 (Int.toNat v74)).c (rd v72 (Int.toNat v74)).d v2)]).length, .keep, .keep, .keep], .keep, .keep, .keep, .keep, .keep, .keep, .keep, .keep, .keep, .rowed 6 (v_0_0 ++ [(R6.mk (rd v72 (Int.toNat v74)).a (rd v72 (Int.toNat v74)).b v1 (rd v72 (Int.toNat v74)).c (rd v72 (Int.toNat v74)).d v2)]).length (rowsT (v_0_0 ++ [(R6.mk (rd v72 (Int.toNat v74)).a (rd v72 (Int.toNat v74)).b v1 (rd v72 (Int.toNat v74)).c (rd v72 (Int.toNat v74)).d v2)]))], []⟩ [true] (pp (xL (v_0_0.length + 1) (v_0_0 ++ [(R6.mk (rd v72 (Int.toNat v74)).a (rd v72 (Int.toNat v74)).b v1 (rd v72 (Int.toNat v74)).c (rd v72 (Int.toNat v74)).d v2)]).length) (pp (xL (v_0_0.length + 1) (v_0_0 ++ [(R6.mk (rd v72 (Int.toNat v74)).a (rd v72 (Int.toNat v74)).b v1 (rd v72 (Int.toNat v74)).c (rd v72 (Int.toNat v74)).d v2)]).length) (pp (xS (v_0_0.length + 1) (appRow (rowsT v_0_0) 0 v_0_0.length 6 [(.int .i64 (rd v72 (Int.toNat v74)).a), (.int .i64 (rd v72 (Int.toNat v74)).b), (.int .i64 v1), (.int .i64 (rd v72 (Int.toNat v74)).c), (.int .i64 (rd v72 (Int.toNat v74)).d), (.int .i64 v2)]) (rowsT (v_0_0 ++ [(R6.mk (rd v72 (Int.toNat v74)).a (rd v72 (Int.toNat v74)).b v1 (rd v72 (Int.toNat v74)).c (rd v72 (Int.toNat v74)).d v2)]))) (pp (fl v09_6 (pp (xF (appRow (rowsT v_0_0) 0 v_0_0.length 6 [(.int .i64 (rd v72 (Int.toNat v74)).a), (.int .i64 (rd v72 (Int.toNat v74)).b), (.int .i64 v1), (.int .i64 (rd v72 (Int.toNat v74)).c), (.int .i64 (rd v72 (Int.toNat v74)).d), (.int .i64 v2)])) nn)) (ww o1 (ww o0 (tt k0 nn))))))))))) (fun k0 => (sl T7_ok 22 [] ⟨[1, 2, 3, 4, 0, 5, 6, 7, 8, 10], [], [some [0, 1, 2, 4], some [4, 5, 6], some [0, 11, 13]], [some [2, 4, 5, 6], none, none, none, none, none, none, none, none, none]⟩ ⟨[], [], []⟩ [false, false] (pp (fl v09_6 (fl v_0_0 nn)) (tt k0 nn)))))
  | .h5 v2 v8 v000_54 v000_57 v001_4 v_0_0 v_0_1 v_0_2 v_0_3 v_6_0_000 v09_7 v_10_0 => (lead_bif (fun k0 => (lead_owe fun o0 => (lead_owe fun o1 => (sl T7_ok 34 [] ⟨[0, 1, 2, 3, 4, 5, 6, 7, 8, 9, 10], [], [some [0, 2, 8], some [6, 54, 56, 57], some [0, 1, 2, 4, 82, 83], some [4, 5, 6], some [0, 11, 13]], [none, none, some [2, 4, 5, 6], none, none, none, none, none, none, none, none]⟩ ⟨[], [.cells [.len (v_0_0.set (0 + (Int.toNat v8)) (R6.mk (rd v_0_0 (0 + (Int.toNat v8))).a (rd v_0_0 (0 + (Int.toNat v8))).b (rd v_0_0 (0 + (Int.toNat v8))).c (rd v_0_0 (0 + (Int.toNat v8))).d (rd v_0_0 (0 + (Int.toNat v8))).e v2)).length, .keep, .keep, .keep], .rowed 6 (v_0_0.set (0 + (Int.toNat v8)) (R6.mk (rd v_0_0 (0 + (Int.toNat v8))).a (rd v_0_0 (0 + (Int.toNat v8))).b (rd v_0_0 (0 + (Int.toNat v8))).c (rd v_0_0 (0 + (Int.toNat v8))).d (rd v_0_0 (0 + (Int.toNat v8))).e v2)).length (rowsT (v_0_0.set (0 + (Int.toNat v8)) (R6.mk (rd v_0_0 (0 + (Int.toNat v8))).a (rd v_0_0 (0 + (Int.toNat v8))).b (rd v_0_0 (0 + (Int.toNat v8))).c (rd v_0_0 (0 + (Int.toNat v8))).d (rd v_0_0 (0 + (Int.toNat v8))).e v2))), .keep, .keep, .keep, .keep, .keep, .keep, .keep, .keep, .keep], []⟩ [true] (pp (xL v_0_0.length (v_0_0.set (0 + (Int.toNat v8)) (R6.mk (rd v_0_0 (0 + (Int.toNat v8))).a (rd v_0_0 (0 + (Int.toNat v8))).b (rd v_0_0 (0 + (Int.toNat v8))).c (rd v_0_0 (0 + (Int.toNat v8))).d (rd v_0_0 (0 + (Int.toNat v8))).e v2)).length) (pp (xL v_0_0.length (v_0_0.set (0 + (Int.toNat v8)) (R6.mk (rd v_0_0 (0 + (Int.toNat v8))).a (rd v_0_0 (0 + (Int.toNat v8))).b (rd v_0_0 (0 + (Int.toNat v8))).c (rd v_0_0 (0 + (Int.toNat v8))).d (rd v_0_0 (0 + (Int.toNat v8))).e v2)).length) (pp (xS v_0_0.length (updRow (rowsT v_0_0) (0 + (Int.toNat v8)) 5 [(.int .i64 v2)]) (rowsT (v_0_0.set (0 + (Int.toNat v8)) (R6.mk (rd v_0_0 (0 + (Int.toNat v8))).a (rd v_0_0 (0 + (Int.toNat v8))).b (rd v_0_0 (0 + (Int.toNat v8))).c (rd v_0_0 (0 + (Int.toNat v8))).d (rd v_0_0 (0 + (Int.toNat v8))).e v2)))) (pp (pp (xF (updRow (rowsT v_0_0) (0 + (Int.toNat v8)) 5 [(.int .i64 v2)])) (fl v09_7 nn)) (ww o1 (ww o0 (tt k0 nn))))))))))) (fun k0 => (sl T7_ok 36 [] ⟨[2, 3, 4, 5, 0, 6, 7, 8, 9, 1], [], [some [0, 1, 2, 4], some [4, 5, 6], some [0, 11, 13]], [some [2, 4, 5, 6], none, none, none, none, none, none, none, none, none]⟩ ⟨[], [], []⟩ [false, false] (pp (fl v09_7 (fl v_0_0 nn)) (tt k0 nn)))))
theorem sckstart_ok (l0 : List R6) : Lead Tryz.prog (resultsOf Tryz.prog 35) (sckC l0) (startC Tryz.prog 35 [(.dat l0.length (rowsT l0))] true []) (sckstart l0) := (lead_bif (fun k0 => (lr 25 35 [1, 0, 1, 0, 0] 1 8 [(2, (.int .i64 4))] (sl T7_ok 16 [] ⟨[], [], [some [2]], []⟩ ⟨[], [], []⟩ [true] (tt k0 nn)))) (fun k0 => (sl T7_ok 40 [] ⟨[], [], [some [0, 1, 7, 8], some [5, 6], some [0, 8]], []⟩ ⟨[], [], []⟩ [false] (tt k0 nn))))
theorem sck_ends (l0 : List R6) (n : Nat) (vs : List AVal) (h : goOn (sckstep l0) n (sckstart l0) = .ret vs) : Ends Tryz.prog (resultsOf Tryz.prog 35) (startC Tryz.prog 35 [(.dat l0.length (rowsT l0))] true []) vs := by
  have := goOn_lead (sckstep_ok l0) n _ (sckstart_ok l0)
  rwa [h] at this
end Go.Am
end
section
set_option linter.unusedVariables false
set_option linter.unusedSimpArgs false
namespace Go.Am
open Go.Proofs Go.Sort Go.Shelf Go.RowKit Go.Lib
set_option maxRecDepth 100000
set_option maxHeartbeats 8000000
set_option linter.unusedVariables false
set_option linter.unusedSimpArgs false
theorem rgmV_length (l : List R4) : (rgmV_0 l).length ≤ 400 := by
  unfold rgmV_0
  by_cases h : 400 < l.length
  · rw [decide_eq_true h]; exact Nat.zero_le _
  · rw [decide_eq_false h]
    cases l.all val4
    · exact Nat.zero_le _
    · show (bif decide (((D4.out l).length : Int) > 400) then [] else D4.out l).length ≤ 400
      by_cases h2 : ((D4.out l).length : Int) > 400
      · rw [decide_eq_true h2]; exact Nat.zero_le _
      · rw [decide_eq_false h2]; show (D4.out l).length ≤ 400; omega
def val6 (r : R6) : Bool := decide (r.a < r.d) && (decide (r.b < r.e) && (decide (r.c < r.f) && (decide ((iMin (iMin r.a r.b) r.c) ≥ (-1000000)) && (decide ((iMax (iMax r.a r.b) r.c) ≤ 1000000) && (decide ((iMin (iMin r.d r.e) r.f) ≥ (-1000000)) && decide ((iMax (iMax r.d r.e) r.f) ≤ 1000000))))))
noncomputable def D6 : Dim R6 R4 := ⟨R6.c, R6.f, fun r => ⟨r.a, r.b, r.d, r.e⟩, fun x x' s => ⟨s.a, s.b, x, s.c, s.d, x'⟩, fun x r => ⟨r.a, r.b, r.c, r.d, r.e, x⟩, rgmV_0, same4V⟩
theorem D6_sec (l : List R6) (x : Int) : (D6.sec l x).length ≤ 1000 := Nat.le_trans (rgmV_length _) (by omega)
def sckErr : List AVal := [.int .i64 8]
def sckRet (l out : List R6) : List AVal := bif decide ((out.length : Int) > 400) then [.int .i64 8] else bif same6V out l then [.int .i64 0] else [.int .i64 8]
noncomputable def badS (l : List R6) (x : Int) : Bool := rgmV_1 (D6.inn l x) != 0
noncomputable def okF (l : List R6) : Nat → Nat → Bool
  | 0, _ => true
  | k + 1, i => bif badS l (rd (D6.cuts l) i) then false else okF l k (i + 1)
section
variable (l : List R6) (hl : l.length ≤ 400)
include hl
theorem sck_h3 (i : Nat) (out : List R6) (last : List R4) (first fin x x' : Int) : ∀ (k j : Nat) (acc : List R4), j + k = l.length → acc.length ≤ j →
    ∃ n, ∀ N, goOn (sckstep l) (N + n) (.to (.h3 (i : Int) (j : Int) out last first fin ((D6.cuts l).length) (padI (srtI (D6.ends l))) x x' acc)) = goOn (sckstep l) N (.to (.h3 (i : Int) (l.length : Int) out last first fin ((D6.cuts l).length) (padI (srtI (D6.ends l))) x x' (acc ++ D6.inn (l.drop j) x)))
  | 0, j, acc, h, ha => by
    refine ⟨0, fun N => ?_⟩
    rw [List.drop_eq_nil_of_le (by omega), show D6.inn ([] : List R6) x = [] from rfl, List.append_nil, Nat.add_zero, show j = l.length by omega]
  | k + 1, j, acc, h, ha => by
    have hj : j < l.length := by omega
    obtain ⟨n, hn⟩ := sck_h3 i out last first fin x x' k (j + 1) (acc ++ D6.inn [rd l j] x) (by omega) (by have := D6.inn_length [rd l j] x; simp only [List.length_append, List.length_singleton] at *; omega)
    refine ⟨n + 1, fun N => ?_⟩
    have e : D6.inn (l.drop j) x = D6.inn [rd l j] x ++ D6.inn (l.drop (j + 1)) x := by
      rw [drop_rd hj, ← D6.inn_append]; rfl
    rw [e, ← Nat.add_assoc, goOn_to, ← List.append_assoc, ← hn N]
    by_cases h1 : D6.lo (rd l j) ≤ x
    · by_cases h2 : x < D6.hi (rd l j)
      · rw [D6.inn_t _ _ h1 h2]
        simp only [D6] at h1 h2 ⊢
        simp (disch := omega) only [sckstep, dle_t, cvT_eq, lst_rows, dlt_t, din_t, nle_t, nlt_t, neq_t, room_t, wrap_t, cast_succ, beq11, toNat_c, Nat.zero_add, decide_true, Bool.and_true, Bool.true_and, cond_true, cond_false]
      · rw [D6.inn_f2 _ _ h2, List.append_nil]
        simp only [D6] at h1 h2
        simp (disch := omega) only [sckstep, dle_t, dlt_f, cvT_eq, lst_rows, dlt_t, din_t, nle_t, nlt_t, neq_t, room_t, wrap_t, cast_succ, beq11, toNat_c, Nat.zero_add, decide_true, Bool.and_true, Bool.true_and, cond_true, cond_false]
    · rw [D6.inn_f1 _ _ h1, List.append_nil]
      simp only [D6] at h1
      simp (disch := omega) only [sckstep, dle_f, cvT_eq, lst_rows, dlt_t, din_t, nle_t, nlt_t, neq_t, room_t, wrap_t, cast_succ, beq11, toNat_c, Nat.zero_add, decide_true, Bool.and_true, Bool.true_and, cond_true, cond_false]
theorem sck_h4 (i : Nat) (hi : i ≤ 1000) (x x' : Int) (s last : List R4) (first : Int) (inn : List R4) (hs : s.length ≤ 1000) : ∀ (k j : Nat) (out : List R6), j + k = s.length → out.length ≤ 10000000 + j →
    ∃ n, ∀ N, goOn (sckstep l) (N + n) (.to (.h4 x x' s (s.length : Int) (j : Int) s (i : Int) out last first ((D6.cuts l).length) (padI (srtI (D6.ends l))) inn)) = goOn (sckstep l) N (.to (.h2 ((i + 1 : Nat) : Int) (out ++ (s.drop j).map (D6.put x x')) last first x' ((D6.cuts l).length) (padI (srtI (D6.ends l)))))
  | 0, j, out, h, ho => by
    have _uhl := hl
    refine ⟨1, fun N => ?_⟩
    rw [List.drop_eq_nil_of_le (by omega), goOn_to]
    simp (disch := omega) only [sckstep, dlt_f, wrap_t, cast_succ, cond_false, List.map_nil, List.append_nil]
  | k + 1, j, out, h, ho => by
    obtain ⟨n, hn⟩ := sck_h4 i hi x x' s last first inn hs k (j + 1) (out ++ [D6.put x x' (rd s j)]) (by omega) (by simp; omega)
    refine ⟨n + 1, fun N => ?_⟩
    have := hn N
    rw [drop_rd (show j < s.length by omega), List.map_cons, ← Nat.add_assoc, goOn_to]
    simp (disch := omega) only [sckstep, cvT_eq, lst_rows, dlt_t, din_t, nle_t, nlt_t, neq_t, room_t, wrap_t, cast_succ, beq11, toNat_c, Nat.zero_add, decide_true, Bool.and_true, Bool.true_and, cond_true, cond_false]
    rw [List.append_assoc] at this
    exact this
theorem sck_h5 (i : Nat) (hi : i ≤ 1000) (x x' fin : Int) (s last : List R4) (first : Int) (inn : List R4) : ∀ (k j : Nat) (out : List R6), j + k = out.length → out.length ≤ 10000000 →
    ∃ n, ∀ N, goOn (sckstep l) (N + n) (.to (.h5 x' (j : Int) x s (i : Int) out last first fin ((D6.cuts l).length) (padI (srtI (D6.ends l))) inn)) = goOn (sckstep l) N (.to (.h2 ((i + 1 : Nat) : Int) (D6.grow out j x') last first x' ((D6.cuts l).length) (padI (srtI (D6.ends l)))))
  | 0, j, out, h, ho => by
    have _uhl := hl
    refine ⟨1, fun N => ?_⟩
    rw [D6.grow_nil _ _ _ (by omega), goOn_to]
    simp (disch := omega) only [sckstep, dlt_f, wrap_t, cast_succ, cond_false]
  | k + 1, j, out, h, ho => by
    obtain ⟨n, hn⟩ := sck_h5 i hi x x' fin s last first inn k (j + 1) (out.set j (D6.ext x' (rd out j))) (by simp; omega) (by simpa using ho)
    refine ⟨n + 1, fun N => ?_⟩
    have := hn N
    rw [D6.grow_set out j _ (by omega)] at this
    rw [← Nat.add_assoc, goOn_to]
    simp (disch := omega) only [sckstep, cvT_eq, lst_rows, dlt_t, din_t, nle_t, nlt_t, neq_t, room_t, wrap_t, cast_succ, beq11, toNat_c, Nat.zero_add, decide_true, Bool.and_true, Bool.true_and, cond_true, cond_false]
    exact this
theorem sck_h2 : ∀ (k i : Nat) (s : Sw R6 R4), k = (D6.cuts l).length - 1 - i → i ≤ (D6.cuts l).length → s.out.length ≤ i * 1000 → s.last.length ≤ 1000 → s.first ≤ s.out.length →
    ∃ n, goOn (sckstep l) n (.to (.h2 ((i + 1 : Nat) : Int) s.out s.last (s.first : Int) s.fin ((D6.cuts l).length) (padI (srtI (D6.ends l))))) = .ret ((bif okF l k i then sckRet l (D6.go l k i s).out else sckErr))
  | 0, i, s, h, hi, ho, hla, hf => by
    have hc := D6.cuts_length l
    refine ⟨1, ?_⟩
    rw [goOn_to, show D6.go l 0 i s = s from rfl, show okF l 0 i = true from rfl, cond_true]
    unfold sckRet
    by_cases q : (s.out.length : Int) > 400
    · simp (disch := omega) only [sckstep, dlt_f, dgt_t, cond_true, cond_false, goOn_ret]
    · have e : lst R6 s.out.length (fun k => (rowsT s.out) k) = s.out := lst_rows s.out
      have w : same6V_owed s.out l = true := decide_eq_true (by omega)
      have f : flatG (rowsT s.out) = true := flatG_rows _
      rcases boolc (same6V s.out l) with q2 | q2 <;>
      simp (disch := omega) only [sckstep, cvT_eq, e, w, f, q2, dlt_f, dgt_f, nle_t, beq11, Nat.zero_add, Bool.not_true, Bool.not_false, Bool.and_true, cond_true, cond_false, goOn_ret]
  | k + 1, i, s, h, hi, ho, hla, hf => by
    have hc := D6.cuts_length l
    have hi1 : i + 1 < (D6.cuts l).length := by omega
    have hpl : (padI (srtI (D6.ends l))).length = 2 * l.length := by rw [padI_length, srtI_length, D6.ends_length]
    have r0 : rd (padI (srtI (D6.ends l))) i = rd (D6.cuts l) i := rd_pad _ _ (by show i < (D6.cuts l).length; omega)
    have r1 : rd (padI (srtI (D6.ends l))) (i + 1) = rd (D6.cuts l) (i + 1) := rd_pad _ _ (by show i + 1 < (D6.cuts l).length; omega)
    have hbig : i * 1000 ≤ 1000 * 1000 := Nat.mul_le_mul_right _ (by omega)
    have hsl := D6_sec l (rd (D6.cuts l) i)
    have hsd : D6.sec l (rd (D6.cuts l) i) = rgmV_0 (D6.inn l (rd (D6.cuts l) i)) := rfl
    obtain ⟨n3, h3⟩ := sck_h3 l hl (i + 1) s.out s.last (s.first : Int) s.fin (rd (D6.cuts l) i) (rd (D6.cuts l) (i + 1)) l.length 0 [] (Nat.zero_add _) (Nat.le_refl _)
    simp only [List.drop_zero, List.nil_append, cast0] at h3
    have w1 : rgmV_owed (D6.inn l (rd (D6.cuts l) i)) = true := rfl
    have w2 : same4V_owed s.last (rgmV_0 (D6.inn l (rd (D6.cuts l) i))) = true := decide_eq_true (by omega)
    have ol := D6.one_length l (rd (D6.cuts l) i) (rd (D6.cuts l) (i + 1)) s
    have st0 : ∀ N, goOn (sckstep l) (N + n3 + 1) (.to (.h2 ((i + 1 : Nat) : Int) s.out s.last (s.first : Int) s.fin ((D6.cuts l).length) (padI (srtI (D6.ends l))))) = goOn (sckstep l) N (.to (.h3 ((i + 1 : Nat) : Int) (l.length : Int) s.out s.last (s.first : Int) s.fin ((D6.cuts l).length) (padI (srtI (D6.ends l))) (rd (D6.cuts l) i) (rd (D6.cuts l) (i + 1)) (D6.inn l (rd (D6.cuts l) i)))) := fun N => by
      rw [← h3 N, goOn_to]
      have e1 : IntKind.wrap .i64 (((i + 1 : Nat) : Int) - 1) = (i : Int) := by rw [cast_pred]; exact wrap_t (by omega)
      simp (disch := omega) only [sckstep, e1, r0, r1, cvT_eq, lst_rows, dlt_t, din_t, nle_t, nlt_t, neq_t, room_t, wrap_t, cast_succ, beq11, toNat_c, Nat.zero_add, decide_true, Bool.and_true, Bool.true_and, cond_true, cond_false]
    rcases boolc (badS l (rd (D6.cuts l) i)) with q0 | q0
    · refine ⟨1 + n3 + 1, ?_⟩
      rw [st0 1, goOn_to]
      simp only [okF, q0, cond_true, cond_false]
      have q0' : (rgmV_1 (D6.inn l (rd (D6.cuts l) i)) != 0) = true := q0
      simp (disch := omega) only [sckstep, cvT_eq, lst_rows, dlt_f, q0', w1, cond_true, cond_false, goOn_ret]
      rfl
    have q0' : (rgmV_1 (D6.inn l (rd (D6.cuts l) i)) != 0) = false := q0
    rcases boolc (decide (0 < (D6.sec l (rd (D6.cuts l) i)).length) && ((s.fin == rd (D6.cuts l) i) && D6.same s.last (D6.sec l (rd (D6.cuts l) i)))) with q | q
    · obtain ⟨n5, h5⟩ := sck_h5 l hl (i + 1) (by omega) (rd (D6.cuts l) i) (rd (D6.cuts l) (i + 1)) s.fin (D6.sec l (rd (D6.cuts l) i)) s.last (s.first : Int) (D6.inn l (rd (D6.cuts l) i)) (s.out.length - s.first) s.first s.out (by omega) (by omega)
      have e : D6.one l (rd (D6.cuts l) i) (rd (D6.cuts l) (i + 1)) s = ⟨D6.grow s.out s.first (rd (D6.cuts l) (i + 1)), s.last, s.first, rd (D6.cuts l) (i + 1)⟩ := by unfold Dim.one; rw [q]; rfl
      obtain ⟨n0, h0⟩ := sck_h2 k (i + 1) (D6.one l (rd (D6.cuts l) i) (rd (D6.cuts l) (i + 1)) s) (by omega) (by omega) (by omega) (by rw [e]; exact hla) (by rw [e]; simpa [Dim.grow_length] using hf)
      refine ⟨n0 + n5 + 1 + n3 + 1, ?_⟩
      rw [st0 (n0 + n5 + 1), goOn_to]
      simp only [Bool.and_eq_true, decide_eq_true_eq] at q
      obtain ⟨q1, q2, q3⟩ := q
      have q3' : same4V s.last (rgmV_0 (D6.inn l (rd (D6.cuts l) i))) = true := q3
      rw [hsd] at q1
      simp (disch := omega) only [sckstep, cvT_eq, lst_rows, dlt_f, dgt_t, q0', q2, q3', w1, w2, cond_true, cond_false]
      rw [← hsd, h5 n0]
      simp only [okF, q0, cond_false]; simp only [Dim.go]
      rw [e] at h0 ⊢
      exact h0
    · obtain ⟨n4, h4⟩ := sck_h4 l hl (i + 1) (by omega) (rd (D6.cuts l) i) (rd (D6.cuts l) (i + 1)) (D6.sec l (rd (D6.cuts l) i)) (D6.sec l (rd (D6.cuts l) i)) (s.out.length : Int) (D6.inn l (rd (D6.cuts l) i)) hsl (D6.sec l (rd (D6.cuts l) i)).length 0 s.out (Nat.zero_add _) (by omega)
      simp only [List.drop_zero, cast0] at h4
      have e : D6.one l (rd (D6.cuts l) i) (rd (D6.cuts l) (i + 1)) s = ⟨s.out ++ (D6.sec l (rd (D6.cuts l) i)).map (D6.put (rd (D6.cuts l) i) (rd (D6.cuts l) (i + 1))), D6.sec l (rd (D6.cuts l) i), s.out.length, rd (D6.cuts l) (i + 1)⟩ := by unfold Dim.one; rw [q]; rfl
      obtain ⟨n0, h0⟩ := sck_h2 k (i + 1) (D6.one l (rd (D6.cuts l) i) (rd (D6.cuts l) (i + 1)) s) (by omega) (by omega) (by omega) (by rw [e]; exact hsl) (by rw [e]; simp)
      have hg : goOn (sckstep l) 1 (.to (.h3 ((i + 1 : Nat) : Int) (l.length : Int) s.out s.last (s.first : Int) s.fin ((D6.cuts l).length) (padI (srtI (D6.ends l))) (rd (D6.cuts l) i) (rd (D6.cuts l) (i + 1)) (D6.inn l (rd (D6.cuts l) i)))) = .to (.h4 (rd (D6.cuts l) i) (rd (D6.cuts l) (i + 1)) (D6.sec l (rd (D6.cuts l) i)) ((D6.sec l (rd (D6.cuts l) i)).length : Int) 0 (D6.sec l (rd (D6.cuts l) i)) ((i + 1 : Nat) : Int) s.out (D6.sec l (rd (D6.cuts l) i)) (s.out.length : Int) ((D6.cuts l).length) (padI (srtI (D6.ends l))) (D6.inn l (rd (D6.cuts l) i))) := by
        rw [show (1 : Nat) = 0 + 1 from rfl, goOn_to]
        rw [hsd] at q ⊢
        have e3 : D6.same s.last (rgmV_0 (D6.inn l (rd (D6.cuts l) i))) = same4V s.last (rgmV_0 (D6.inn l (rd (D6.cuts l) i))) := rfl
        rw [e3] at q
        by_cases q1 : 0 < (rgmV_0 (D6.inn l (rd (D6.cuts l) i))).length
        · rw [decide_eq_true q1, Bool.true_and] at q
          rcases boolc (s.fin == rd (D6.cuts l) i) with q2 | q2
          · rw [q2, Bool.true_and] at q
            simp (disch := omega) only [sckstep, cvT_eq, lst_rows, dlt_f, dgt_t, q0', q2, q, w1, w2, cond_true, cond_false]
            rfl
          · simp (disch := omega) only [sckstep, cvT_eq, lst_rows, dlt_f, dgt_t, q0', q2, w1, w2, cond_true, cond_false]
            rfl
        · simp (disch := omega) only [sckstep, cvT_eq, lst_rows, dlt_f, dgt_f, q0', w1, w2, cond_true, cond_false]
          rfl
      refine ⟨n0 + n4 + 1 + n3 + 1, ?_⟩
      rw [st0 (n0 + n4 + 1), goOn_add' _ (n0 + n4) 1, hg, h4 n0]
      simp only [okF, q0, cond_false]; simp only [Dim.go]
      rw [e] at h0 ⊢
      exact h0
theorem sck_h1 : ∀ (k i : Nat) (acc : List Int), i + k = l.length → acc = D6.ends (l.take i) → ∃ n, goOn (sckstep l) n (.to (.h1 (i : Int) acc)) = .ret ((bif okF l ((D6.cuts l).length - 1) 0 then sckRet l (D6.go l ((D6.cuts l).length - 1) 0 ⟨[], [], 0, 0⟩).out else sckErr))
  | 0, i, acc, h, ha => by
    have e : acc = D6.ends l := by rw [ha, List.take_of_length_le (by omega)]
    subst e
    have hle := D6.ends_length l
    obtain ⟨n, hn⟩ := sck_h2 l hl ((D6.cuts l).length - 1) 0 ⟨[], [], 0, 0⟩ (by omega) (Nat.zero_le _) (Nat.zero_le _) (Nat.zero_le _) (Nat.zero_le _)
    refine ⟨n + 1, ?_⟩
    rw [goOn_to]
    simp (disch := omega) only [sckstep, intsOf_rows, intsOf_srt, cmpN_eq, dlt_f, nlt_t, neq_t, decide_true, cond_true, cond_false]
    exact hn
  | k + 1, i, acc, h, ha => by
    have hle := D6.ends_length (l.take i)
    have hacc : acc.length ≤ 2 * i := by rw [ha, hle]; simp; omega
    obtain ⟨n, hn⟩ := sck_h1 k (i + 1) (acc ++ D6.ends [rd l i]) (by omega) (by
      rw [ha, List.take_add_one]
      have : l[i]? = some (rd l i) := by rw [rd_lt (show i < l.length by omega)]; exact List.getElem?_eq_getElem _
      rw [this, D6.ends_append]; rfl)
    refine ⟨n + 1, ?_⟩
    rw [goOn_to]
    simp (disch := omega) only [sckstep, cvT_eq, lst_rows, dlt_t, din_t, nle_t, nlt_t, neq_t, room_t, wrap_t, cast_succ, beq11, toNat_c, Nat.zero_add, decide_true, Bool.and_true, Bool.true_and, cond_true, cond_false]
    exact hn
theorem sck_h0 : ∀ (k i : Nat), i + k = l.length → (∀ s ∈ l.take i, val6 s = true) → ∃ n, goOn (sckstep l) n (.to (.h0 (i : Int))) = .ret (bif l.all val6 then (bif okF l ((D6.cuts l).length - 1) 0 then sckRet l (D6.go l ((D6.cuts l).length - 1) 0 ⟨[], [], 0, 0⟩).out else sckErr) else sckErr)
  | 0, i, h, ht => by
    have hv : l.all val6 = true := List.all_eq_true.2 fun s hs => ht s (by rw [List.take_of_length_le (by omega)]; exact hs)
    obtain ⟨n, hn⟩ := sck_h1 l hl l.length 0 [] (Nat.zero_add _) rfl
    refine ⟨n + 1, ?_⟩
    rw [goOn_to, hv, cond_true]
    simp (disch := omega) only [sckstep, dlt_f, cond_false]
    exact hn
  | k + 1, i, h, ht => by
    have hi : i < l.length := by omega
    have hs : sckstep l (.h0 (i : Int)) = bif val6 (rd l i) then .to (.h0 ((i + 1 : Nat) : Int)) else .ret sckErr := by
      simp (disch := omega) only [sckstep, val6, bif_and, bif_not, dlt_nc, dge_nc, din_t, wrap_t, cast_succ, toNat_c, Bool.and_true, cond_true, cond_false]
      rfl
    rcases boolc (val6 (rd l i)) with q | q
    · obtain ⟨n, hn⟩ := sck_h0 k (i + 1) (by omega) (fun s hs => by
        rw [List.take_add_one] at hs
        have e : l[i]? = some (rd l i) := by rw [rd_lt hi]; exact List.getElem?_eq_getElem _
        rw [e] at hs
        simp only [Option.toList_some, List.mem_append, List.mem_singleton] at hs
        rcases hs with hs | rfl
        · exact ht s hs
        · exact q)
      refine ⟨n + 1, ?_⟩
      rw [goOn_to, hs, q, cond_true]
      exact hn
    · have hv : l.all val6 = false := Bool.eq_false_iff.2 fun e => by
        have := List.all_eq_true.1 e (rd l i) (by rw [rd_lt hi]; exact List.getElem_mem hi)
        rw [this] at q; cases q
      refine ⟨1, ?_⟩
      rw [goOn_to, hv, cond_false, hs, q, cond_false, goOn_ret]
end
noncomputable def sckV_0 (l : List R6) : Int := bif decide (400 < l.length) then 4 else bif l.all val6 then (bif okF l ((D6.cuts l).length - 1) 0 then (bif decide (((D6.out l).length : Int) > 400) then 8 else bif same6V (D6.out l) l then 0 else 8) else 8) else 8
def sckV_owed (l : List R6) : Bool := true
theorem sck_run (l : List R6) : ∃ n, goOn (sckstep l) n (sckstart l) = .ret [.int .i64 (sckV_0 l)] := by
  unfold sckstart sckV_0
  by_cases h : 400 < l.length
  · refine ⟨0, ?_⟩
    rw [decide_eq_true h, dgt_t (show ((l.length : Nat) : Int) > 400 by omega)]; rfl
  · obtain ⟨n, hn⟩ := sck_h0 l (by omega) l.length 0 (Nat.zero_add _) (fun s hs => by simp at hs)
    refine ⟨n, ?_⟩
    rw [decide_eq_false h, dgt_f (show ¬ ((l.length : Nat) : Int) > 400 by omega), cond_false, cond_false]
    rw [cast0] at hn
    rw [hn]
    unfold sckErr sckRet
    cases l.all val6 <;> simp only [cond_true, cond_false]
    cases okF l ((D6.cuts l).length - 1) 0 <;> simp only [cond_true, cond_false]
    show Out'.ret (bif decide (((D6.out l).length : Int) > 400) then _ else bif same6V (D6.out l) l then _ else _) = _
    cases decide (((D6.out l).length : Int) > 400) <;> simp only [cond_true, cond_false]
    cases same6V (D6.out l) l <;> rfl
noncomputable def fSck : List AVal → Option (AVal × Bool)
  | [a1] => match asL R6 a1 with
    | some (L1, g1, n1) => some (.int .i64 (sckV_0 L1), isT R6 n1 g1 && sckV_owed L1)
    | _ => none
  | _ => none
theorem fSck_ok {S : Specs} (hS : SpecsOk Tryz.prog S) : SpecsOk Tryz.prog (S.with nSolCheck fSck) := by
  refine fOne hS (by kernel_rfl) fun args v h => ?_
  unfold fSck at h
  split at h
  · rename_i a1
    split at h
    · rename_i L1 g1 n1 e1
      simp only [Option.some.injEq, Prod.mk.injEq, Bool.and_eq_true] at h
      obtain ⟨rfl, ho1, hw⟩ := h
      obtain ⟨N, hN⟩ := sck_run L1
      exact ⟨_, _, (.cons (asL_le e1 ho1) .nil), rfl, sck_ends L1 N _ hN, 3, rfl⟩
    · cases h
  · cases h
noncomputable def T8 : Specs := T7.with nSolCheck fSck
theorem T8_ok : SpecsOk Tryz.prog T8 := fSck_ok T7_ok
end Go.Am
end
section
set_option linter.unusedVariables false
set_option linter.unusedSimpArgs false
namespace Go.Am
open Go.Proofs
set_option maxRecDepth 1000000
set_option linter.unusedVariables false
set_option linter.unusedSimpArgs false
set_option maxHeartbeats 4000000
inductive rchkS where
  | h0 (v3 : Int)
noncomputable def rchkC (l0 : List R6) : rchkS → Cfg
  | .h0 v3 => ⟨⟨34, 0, true⟩, none, (todoP Tryz.prog 25 [1, 1, 0, 1, 0, 0] 0), none, (resultsOf Tryz.prog 8), ⟨envL [(0, (.dat l0.length (rowsT l0))), (3, (.int .i64 v3))], memL [] 0, 0, [], true⟩, [], .leaf⟩
noncomputable def rchkstep (l0 : List R6) : rchkS → Out' rchkS
  | .h0 v3 => (bif (decide (v3 < ((l0.length : Nat) : Int))) then (bif ((decide (0 ≤ v3 ∧ v3 < ((l0.length : Nat) : Int))) && true) then (bif (decide ((rd l0 (Int.toNat v3)).a ≥ (-1000000))) then (bif (decide ((rd l0 (Int.toNat v3)).b ≥ (-1000000))) then (bif (decide ((rd l0 (Int.toNat v3)).c ≥ (-1000000))) then (bif (decide ((rd l0 (Int.toNat v3)).a ≤ 1000000)) then (bif (decide ((rd l0 (Int.toNat v3)).b ≤ 1000000)) then (bif (decide ((rd l0 (Int.toNat v3)).c ≤ 1000000)) then (bif (decide ((rd l0 (Int.toNat v3)).d ≥ (-1000000))) then (bif (decide ((rd l0 (Int.toNat v3)).e ≥ (-1000000))) then (bif (decide ((rd l0 (Int.toNat v3)).f ≥ (-1000000))) then (bif (decide ((rd l0 (Int.toNat v3)).d ≤ 1000000)) then (bif (decide ((rd l0 (Int.toNat v3)).e ≤ 1000000)) then (bif (decide ((rd l0 (Int.toNat v3)).f ≤ 1000000)) then (bif (decide ((rd l0 (Int.toNat v3)).a < (rd l0 (Int.toNat v3)).d)) then (bif (decide ((rd l0 (Int.toNat v3)).b < (rd l0 (Int.toNat v3)).e)) then (bif (!(decide ((rd l0 (Int.toNat v3)).c < (rd l0 (Int.toNat v3)).f))) then (.ret [(.int .i64 8)]) else (.to (.h0 (IntKind.wrap IntKind.i64 (v3 + 1))))) else (.ret [(.int .i64 8)])) else (.ret [(.int .i64 8)])) else (.ret [(.int .i64 8)])) else (.ret [(.int .i64 8)])) else (.ret [(.int .i64 8)])) else (.ret [(.int .i64 8)])) else (.ret [(.int .i64 8)])) else (.ret [(.int .i64 8)])) else (.ret [(.int .i64 8)])) else (.ret [(.int .i64 8)])) else (.ret [(.int .i64 8)])) else (.ret [(.int .i64 8)])) else (.ret [(.int .i64 8)])) else (.ret [(.int .i64 8)])) else .stuck) else (bif (jsV_owed 2 (cvT l0) ([] : List R6)) then (bif (!(jsV_1 2 (cvT l0) ([] : List R6))) then (.ret [(.int .i64 8)]) else (bif (same6V_owed (cvT (jsV_0 2 (cvT l0) ([] : List R6))) (cvT l0)) then (bif (!(same6V (cvT (jsV_0 2 (cvT l0) ([] : List R6))) (cvT l0))) then (.ret [(.int .i64 8)]) else (.ret [(.int .i64 0)])) else .stuck)) else .stuck))
noncomputable def rchkstart (l0 : List R6) : Out' rchkS := (bif (decide (((l0.length : Nat) : Int) > 400)) then (.ret [(.int .i64 4)]) else (.to (.h0 0)))
theorem rchkstep_ok (l0 : List R6) : ∀ s, Lead Tryz.prog (resultsOf Tryz.prog 25) (rchkC l0) (rchkC l0 s) (rchkstep l0 s)
  | .h0 v3 => (lead_bif (fun k0 => (lead_owe fun o1_0 => (lead_bif (fun k1 => (lead_bif (fun k2 => (lead_bif (fun k3 => (lead_bif (fun k4 => (lead_bif (fun k5 => (lead_bif (fun k6 => (lead_bif (fun k7 => (lead_bif (fun k8 => (lead_bif (fun k9 => (lead_bif (fun k10 => (lead_bif (fun k11 => (lead_bif (fun k12 => (lead_bif (fun k13 => (lead_bif (fun k14 => (lead_bif (fun k15 => (lr 34 25 [1, 1, 0, 1, 0, 0, 1, 0, 0, 1, 0, 0] 1 8 [(2, (.int .i64 8))] (sl T8_ok 158 [] ⟨[], [], [some [2]], []⟩ ⟨[], [], []⟩ (trs 60 []) (tt k15 (tt k14 (tt k13 (tt k12 (tt k11 (tt k10 (tt k9 (tt k8 (tt k7 (tt k6 (tt k5 (tt k4 (tt k3 (tt k2 (tt k1 (ww o1_0 (tt k0 nn)))))))))))))))))))) (fun k15 => (sl T8_ok 162 [] ⟨[], [], [some [0, 3]], []⟩ ⟨[], [], []⟩ (trs 59 [false]) (tt k15 (tt k14 (tt k13 (tt k12 (tt k11 (tt k10 (tt k9 (tt k8 (tt k7 (tt k6 (tt k5 (tt k4 (tt k3 (tt k2 (tt k1 (ww o1_0 (tt k0 nn))))))))))))))))))))) (fun k14 => (lr 34 25 [1, 1, 0, 1, 0, 0, 1, 0, 0, 1, 0, 0] 1 8 [(2, (.int .i64 8))] (sl T8_ok 158 [] ⟨[], [], [some [2]], []⟩ ⟨[], [], []⟩ (trs 52 [false, false, false, false, false, false, false, true]) (tt k14 (tt k13 (tt k12 (tt k11 (tt k10 (tt k9 (tt k8 (tt k7 (tt k6 (tt k5 (tt k4 (tt k3 (tt k2 (tt k1 (ww o1_0 (tt k0 nn))))))))))))))))))))) (fun k13 => (lr 34 25 [1, 1, 0, 1, 0, 0, 1, 0, 0, 1, 0, 0] 1 8 [(2, (.int .i64 8))] (sl T8_ok 158 [] ⟨[], [], [some [2]], []⟩ ⟨[], [], []⟩ (trs 45 [false, false, false, false, false, false, false, false, false, false, false, false, false, false, true]) (tt k13 (tt k12 (tt k11 (tt k10 (tt k9 (tt k8 (tt k7 (tt k6 (tt k5 (tt k4 (tt k3 (tt k2 (tt k1 (ww o1_0 (tt k0 nn)))))))))))))))))))) (fun k12 => (lr 34 25 [1, 1, 0, 1, 0, 0, 1, 0, 0, 1, 0, 0] 1 8 [(2, (.int .i64 8))] (sl T8_ok 158 [] ⟨[], [], [some [2]], []⟩ ⟨[], [], []⟩ (trs 38 [false, false, false, false, false, false, false, false, false, false, false, false, false, false, false, false, false, false, false, false, false, true]) (tt k12 (tt k11 (tt k10 (tt k9 (tt k8 (tt k7 (tt k6 (tt k5 (tt k4 (tt k3 (tt k2 (tt k1 (ww o1_0 (tt k0 nn))))))))))))))))))) (fun k11 => (lr 34 25 [1, 1, 0, 1, 0, 0, 1, 0, 0, 1, 0, 0] 1 8 [(2, (.int .i64 8))] (sl T8_ok 158 [] ⟨[], [], [some [2]], []⟩ ⟨[], [], []⟩ (trs 35 [false, false, false, false, false, false, false, false, false, false, false, false, false, false, false, false, false, false, false, false, false, false, false, false, true]) (tt k11 (tt k10 (tt k9 (tt k8 (tt k7 (tt k6 (tt k5 (tt k4 (tt k3 (tt k2 (tt k1 (ww o1_0 (tt k0 nn)))))))))))))))))) (fun k10 => (lr 34 25 [1, 1, 0, 1, 0, 0, 1, 0, 0, 1, 0, 0] 1 8 [(2, (.int .i64 8))] (sl T8_ok 158 [] ⟨[], [], [some [2]], []⟩ ⟨[], [], []⟩ (trs 32 [false, false, false, false, false, false, false, false, false, false, false, false, false, false, false, false, false, false, false, false, false, false, false, false, false, false, false, true]) (tt k10 (tt k9 (tt k8 (tt k7 (tt k6 (tt k5 (tt k4 (tt k3 (tt k2 (tt k1 (ww o1_0 (tt k0 nn))))))))))))))))) (fun k9 => (lr 34 25 [1, 1, 0, 1, 0, 0, 1, 0, 0, 1, 0, 0] 1 8 [(2, (.int .i64 8))] (sl T8_ok 158 [] ⟨[], [], [some [2]], []⟩ ⟨[], [], []⟩ (trs 29 [false, false, false, false, false, false, false, false, false, false, false, false, false, false, false, false, false, false, false, false, false, false, false, false, false, false, false, false, false, false, true]) (tt k9 (tt k8 (tt k7 (tt k6 (tt k5 (tt k4 (tt k3 (tt k2 (tt k1 (ww o1_0 (tt k0 nn)))))))))))))))) (fun k8 => (lr 34 25 [1, 1, 0, 1, 0, 0, 1, 0, 0, 1, 0, 0] 1 8 [(2, (.int .i64 8))] (sl T8_ok 158 [] ⟨[], [], [some [2]], []⟩ ⟨[], [], []⟩ (trs 25 [false, false, false, false, false, false, false, false, false, false, false, false, false, false, false, false, false, false, false, false, false, false, false, false, false, false, false, false, false, false, false, false, false, false, true]) (tt k8 (tt k7 (tt k6 (tt k5 (tt k4 (tt k3 (tt k2 (tt k1 (ww o1_0 (tt k0 nn))))))))))))))) (fun k7 => (lr 34 25 [1, 1, 0, 1, 0, 0, 1, 0, 0, 1, 0, 0] 1 8 [(2, (.int .i64 8))] (sl T8_ok 158 [] ⟨[], [], [some [2]], []⟩ ⟨[], [], []⟩ (trs 21 [false, false, false, false, false, false, false, false, false, false, false, false, false, false, false, false, false, false, false, false, false, false, false, false, false, false, false, false, false, false, false, false, false, false, false, false, false, false, true]) (tt k7 (tt k6 (tt k5 (tt k4 (tt k3 (tt k2 (tt k1 (ww o1_0 (tt k0 nn)))))))))))))) (fun k6 => (lr 34 25 [1, 1, 0, 1, 0, 0, 1, 0, 0, 1, 0, 0] 1 8 [(2, (.int .i64 8))] (sl T8_ok 117 [] ⟨[], [], [some [2]], []⟩ ⟨[], [], []⟩ (trs 18 [false, false, false, false, false, false, false, false, false, false, false, false, false, false, false, false, false, false, false, false, false, false, false, false, true]) (tt k6 (tt k5 (tt k4 (tt k3 (tt k2 (tt k1 (ww o1_0 (tt k0 nn))))))))))))) (fun k5 => (lr 34 25 [1, 1, 0, 1, 0, 0, 1, 0, 0, 1, 0, 0] 1 8 [(2, (.int .i64 8))] (sl T8_ok 117 [] ⟨[], [], [some [2]], []⟩ ⟨[], [], []⟩ (trs 15 [false, false, false, false, false, false, false, false, false, false, false, false, false, false, false, false, false, false, false, false, false, false, false, false, false, false, false, true]) (tt k5 (tt k4 (tt k3 (tt k2 (tt k1 (ww o1_0 (tt k0 nn)))))))))))) (fun k4 => (lr 34 25 [1, 1, 0, 1, 0, 0, 1, 0, 0, 1, 0, 0] 1 8 [(2, (.int .i64 8))] (sl T8_ok 117 [] ⟨[], [], [some [2]], []⟩ ⟨[], [], []⟩ (trs 12 [false, false, false, false, false, false, false, false, false, false, false, false, false, false, false, false, false, false, false, false, false, false, false, false, false, false, false, false, false, false, true]) (tt k4 (tt k3 (tt k2 (tt k1 (ww o1_0 (tt k0 nn))))))))))) (fun k3 => (lr 34 25 [1, 1, 0, 1, 0, 0, 1, 0, 0, 1, 0, 0] 1 8 [(2, (.int .i64 8))] (sl T8_ok 117 [] ⟨[], [], [some [2]], []⟩ ⟨[], [], []⟩ (trs 9 [false, false, false, false, false, false, false, false, false, false, false, false, false, false, false, false, false, false, false, false, false, false, false, false, false, false, false, false, false, false, false, false, false, true]) (tt k3 (tt k2 (tt k1 (ww o1_0 (tt k0 nn)))))))))) (fun k2 => (lr 34 25 [1, 1, 0, 1, 0, 0, 1, 0, 0, 1, 0, 0] 1 8 [(2, (.int .i64 8))] (sl T8_ok 117 [] ⟨[], [], [some [2]], []⟩ ⟨[], [], []⟩ (trs 5 [false, false, false, false, false, false, false, false, false, false, false, false, false, false, false, false, false, false, false, false, false, false, false, false, false, false, false, false, false, false, false, false, false, false, false, false, false, true]) (tt k2 (tt k1 (ww o1_0 (tt k0 nn))))))))) (fun k1 => (lr 34 25 [1, 1, 0, 1, 0, 0, 1, 0, 0, 1, 0, 0] 1 8 [(2, (.int .i64 8))] (sl T8_ok 117 [] ⟨[], [], [some [2]], []⟩ ⟨[], [], []⟩ [true, false, false, false, false, false, false, false, false, false, false, false, false, false, false, false, false, false, false, false, false, false, false, false, false, false, false, false, false, false, false, false, false, false, false, false, false, false, false, false, false, false, true] (tt k1 (ww o1_0 (tt k0 nn))))))))) (fun k0 => (lead_owe fun o1_0 => (lead_bif (fun k1 => (lr 34 25 [1, 1, 1, 1, 0, 1, 0, 0] 1 8 [(2, (.int .i64 8))] (sl T8_ok 37 [] ⟨[], [], [some [2]], []⟩ ⟨[], [], []⟩ [false, true, true, true, true, true] (tt k1 (pp (pp (xr l0) (pp (xI R6 0 (fun _ => [])) (xw o1_0))) (tt k0 nn)))))) (fun k1 => (lead_owe fun o2_0 => (lead_bif (fun k2 => (lr 34 25 [1, 1, 1, 1, 0, 1, 0, 0] 1 8 [(2, (.int .i64 8))] (sl T8_ok 37 [] ⟨[], [], [some [2]], []⟩ ⟨[], [], []⟩ [false, false, false, false, false, true] (tt k2 (pp (pp (xI R6 (jsV_0 2 (cvT l0) ([] : List R6)).length (rowsT (jsV_0 2 (cvT l0) ([] : List R6)))) (pp (xr l0) (xw o2_0))) (tt k1 (pp (pp (xr l0) (pp (xI R6 0 (fun _ => [])) (xw o1_0))) (tt k0 nn)))))))) (fun k2 => (lr 34 3 [1, 1, 1, 1, 1, 1, 0] 1 8 [(2, (.int .i64 0))] (sl T8_ok 38 [] ⟨[], [], [some [2]], []⟩ ⟨[], [], []⟩ [false, false, false, false, false, false] (tt k2 (pp (pp (xI R6 (jsV_0 2 (cvT l0) ([] : List R6)).length (rowsT (jsV_0 2 (cvT l0) ([] : List R6)))) (pp (xr l0) (xw o2_0))) (tt k1 (pp (pp (xr l0) (pp (xI R6 0 (fun _ => [])) (xw o1_0))) (tt k0 nn)))))))))))))))
theorem rchkstart_ok (l0 : List R6) : Lead Tryz.prog (resultsOf Tryz.prog 25) (rchkC l0) (startC Tryz.prog 25 [(.dat l0.length (rowsT l0))] true []) (rchkstart l0) := (lead_bif (fun k0 => (lr 34 25 [1, 0, 1, 0, 0] 1 8 [(2, (.int .i64 4))] (sl T8_ok 16 [] ⟨[], [], [some [2]], []⟩ ⟨[], [], []⟩ [true] (tt k0 nn)))) (fun k0 => (sl T8_ok 20 [] ⟨[], [], [some [0, 3]], []⟩ ⟨[], [], []⟩ [false] (tt k0 nn))))
theorem rchk_ends (l0 : List R6) (n : Nat) (vs : List AVal) (h : goOn (rchkstep l0) n (rchkstart l0) = .ret vs) : Ends Tryz.prog (resultsOf Tryz.prog 25) (startC Tryz.prog 25 [(.dat l0.length (rowsT l0))] true []) vs := by
  have := goOn_lead (rchkstep_ok l0) n _ (rchkstart_ok l0)
  rwa [h] at this
end Go.Am
end
section
set_option linter.unusedVariables false
set_option linter.unusedSimpArgs false
namespace Go.Am
open Go.Proofs
set_option maxRecDepth 100000
set_option maxHeartbeats 8000000
set_option linter.unusedVariables false
set_option linter.unusedSimpArgs false
def valR (r : R6) : Bool := decide (r.a ≥ -1000000) && (decide (r.b ≥ -1000000) && (decide (r.c ≥ -1000000) && (decide (r.a ≤ 1000000) && (decide (r.b ≤ 1000000) && (decide (r.c ≤ 1000000) && (decide (r.d ≥ -1000000) && (decide (r.e ≥ -1000000) && (decide (r.f ≥ -1000000) && (decide (r.d ≤ 1000000) && (decide (r.e ≤ 1000000) && (decide (r.f ≤ 1000000) && (decide (r.a < r.d) && (decide (r.b < r.e) && decide (r.c < r.f))))))))))))))
noncomputable def rckF (l : List R6) : Int := bif jsV_1 2 l [] then (bif same6V (jsV_0 2 l []) l then 0 else 8) else 8
noncomputable def rckV_0 (l : List R6) : Int := bif decide (400 < l.length) then 4 else bif l.all valR then rckF l else 8
def rckV_owed (l : List R6) : Bool := true
theorem jsV_length (k : Int) (l m : List R6) : (jsV_0 k l m).length ≤ 400 ∨ jsV_1 k l m = false := by
  unfold jsV_0 jsV_1
  cases jsO k l m with
  | none => exact .inl (Nat.zero_le _)
  | some out =>
    by_cases h : (out.length : Int) ≤ 400
    · left; show out.length ≤ 400; omega
    · right; exact decide_eq_false h
section
variable (l : List R6) (hl : l.length ≤ 400)
include hl
theorem rchk_h0 : ∀ (k i : Nat), i + k = l.length → (∀ s ∈ l.take i, valR s = true) → ∃ n, goOn (rchkstep l) n (.to (.h0 (i : Int))) = .ret [.int .i64 (bif l.all valR then rckF l else 8)]
  | 0, i, h, ht => by
    have hv : l.all valR = true := List.all_eq_true.2 fun s hs => ht s (by rw [List.take_of_length_le (by omega)]; exact hs)
    have w1 : jsV_owed 2 l [] = true := decide_eq_true ⟨by omega, by simp⟩
    refine ⟨1, ?_⟩
    rw [goOn_to, hv, cond_true]
    unfold rckF
    rcases boolc (jsV_1 2 l []) with q | q
    · have w2 : same6V_owed (jsV_0 2 l []) l = true := decide_eq_true (by
        rcases jsV_length 2 l [] with h | h
        · omega
        · rw [h] at q; cases q)
      rcases boolc (same6V (jsV_0 2 l []) l) with q2 | q2 <;>
      simp (disch := omega) only [rchkstep, cvT_eq, dlt_f, q, q2, w1, w2, Bool.not_true, Bool.not_false, cond_true, cond_false, goOn_ret]
    · simp (disch := omega) only [rchkstep, cvT_eq, dlt_f, q, w1, Bool.not_true, Bool.not_false, cond_true, cond_false, goOn_ret]
  | k + 1, i, h, ht => by
    have hi : i < l.length := by omega
    have hs : rchkstep l (.h0 (i : Int)) = bif valR (rd l i) then .to (.h0 ((i + 1 : Nat) : Int)) else .ret [.int .i64 8] := by
      simp (disch := omega) only [rchkstep, valR, bif_and, bif_not, dlt_nc, din_t, wrap_t, cast_succ, toNat_c, Bool.and_true, cond_true, cond_false]
    rcases boolc (valR (rd l i)) with q | q
    · obtain ⟨n, hn⟩ := rchk_h0 k (i + 1) (by omega) (fun s hs => by
        rw [List.take_add_one] at hs
        have e : l[i]? = some (rd l i) := by rw [rd_lt hi]; exact List.getElem?_eq_getElem _
        rw [e] at hs
        simp only [Option.toList_some, List.mem_append, List.mem_singleton] at hs
        rcases hs with hs | rfl
        · exact ht s hs
        · exact q)
      refine ⟨n + 1, ?_⟩
      rw [goOn_to, hs, q, cond_true]
      exact hn
    · have hv : l.all valR = false := Bool.eq_false_iff.2 fun e => by
        have := List.all_eq_true.1 e (rd l i) (by rw [rd_lt hi]; exact List.getElem_mem hi)
        rw [this] at q; cases q
      refine ⟨1, ?_⟩
      rw [goOn_to, hv, cond_false, hs, q, cond_false, goOn_ret]
end
theorem rchk_run (l : List R6) : ∃ n, goOn (rchkstep l) n (rchkstart l) = .ret [.int .i64 (rckV_0 l)] := by
  unfold rchkstart rckV_0
  by_cases h : 400 < l.length
  · refine ⟨0, ?_⟩
    rw [decide_eq_true h, dgt_t (show ((l.length : Nat) : Int) > 400 by omega)]; rfl
  · obtain ⟨n, hn⟩ := rchk_h0 l (by omega) l.length 0 (Nat.zero_add _) (fun s hs => by simp at hs)
    refine ⟨n, ?_⟩
    rw [decide_eq_false h, dgt_f (show ¬ ((l.length : Nat) : Int) > 400 by omega), cond_false, cond_false]
    exact hn
noncomputable def fRck : List AVal → Option (AVal × Bool)
  | [a1] => match asL R6 a1 with
    | some (L1, g1, n1) => some (.int .i64 (rckV_0 L1), isT R6 n1 g1 && rckV_owed L1)
    | _ => none
  | _ => none
theorem fRck_ok {S : Specs} (hS : SpecsOk Tryz.prog S) : SpecsOk Tryz.prog (S.with nRCheck fRck) := by
  refine fOne hS (by kernel_rfl) fun args v h => ?_
  unfold fRck at h
  split at h
  · rename_i a1
    split at h
    · rename_i L1 g1 n1 e1
      simp only [Option.some.injEq, Prod.mk.injEq, Bool.and_eq_true] at h
      obtain ⟨rfl, ho1, hw⟩ := h
      obtain ⟨N, hN⟩ := rchk_run L1
      exact ⟨_, _, (.cons (asL_le e1 ho1) .nil), rfl, rchk_ends L1 N _ hN, 3, rfl⟩
    · cases h
  · cases h
noncomputable def T9 : Specs := T8.with nRCheck fRck
theorem T9_ok : SpecsOk Tryz.prog T9 := fRck_ok T8_ok
end Go.Am
end
section
set_option linter.unusedVariables false
set_option linter.unusedSimpArgs false
namespace Go.Am
open Go.Proofs Go.Sort Go.Shelf Go.RowKit Go.Lib
set_option maxRecDepth 100000
set_option maxHeartbeats 4000000
set_option linter.unusedVariables false
set_option linter.unusedSimpArgs false
def pt (L : List R2) (y : Int) : Prop := ∃ s ∈ L, s.a ≤ y ∧ y < s.b
structure Can (L : List R2) : Prop where
  pos : ∀ s ∈ L, s.a < s.b
  sep : L.Pairwise fun s t => s.b < t.a
theorem Can.nil : Can [] := ⟨by simp, .nil⟩
theorem Can.tail {s : R2} {L : List R2} (h : Can (s :: L)) : Can L := ⟨fun t ht => h.pos t (List.mem_cons_of_mem _ ht), (List.pairwise_cons.1 h.sep).2⟩
theorem Can.head {s : R2} {L : List R2} (h : Can (s :: L)) : ∀ t ∈ L, s.b < t.a := (List.pairwise_cons.1 h.sep).1
theorem can_lo {s : R2} {L : List R2} (h : Can (s :: L)) {y : Int} (hy : pt (s :: L) y) : s.a ≤ y := by
  obtain ⟨t, ht, h1, h2⟩ := hy
  rcases List.mem_cons.1 ht with rfl | ht
  · exact h1
  · have := h.head t ht; have := h.pos s (by simp); omega
theorem can_eq : ∀ (L M : List R2), Can L → Can M → (∀ y, pt L y ↔ pt M y) → L = M
  | [], [], _, _, _ => rfl
  | [], t :: M, _, hM, h => by
    have := (h t.a).2 ⟨t, by simp, Int.le_refl _, hM.pos t (by simp)⟩
    obtain ⟨s, hs, _⟩ := this; cases hs
  | s :: L, [], hL, _, h => by
    have := (h s.a).1 ⟨s, by simp, Int.le_refl _, hL.pos s (by simp)⟩
    obtain ⟨s, hs, _⟩ := this; cases hs
  | s :: L, t :: M, hL, hM, h => by
    have p1 := hL.pos s (by simp)
    have p2 := hM.pos t (by simp)
    have a1 : t.a ≤ s.a := can_lo hM ((h s.a).1 ⟨s, by simp, Int.le_refl _, p1⟩)
    have a2 : s.a ≤ t.a := can_lo hL ((h t.a).2 ⟨t, by simp, Int.le_refl _, p2⟩)
    have b1 : ¬ s.b < t.b := fun hb => by
      obtain ⟨u, hu, h1, h2⟩ := (h s.b).2 ⟨t, by simp, by omega, hb⟩
      rcases List.mem_cons.1 hu with rfl | hu
      · omega
      · have := hL.head u hu; omega
    have b2 : ¬ t.b < s.b := fun hb => by
      obtain ⟨u, hu, h1, h2⟩ := (h t.b).1 ⟨s, by simp, by omega, hb⟩
      rcases List.mem_cons.1 hu with rfl | hu
      · omega
      · have := hM.head u hu; omega
    have e : s = t := by
      obtain ⟨sa, sb⟩ := s; obtain ⟨ta, tb⟩ := t
      simp only at a1 a2 b1 b2
      have : sa = ta := by omega
      have : sb = tb := by omega
      subst_vars; rfl
    subst e
    congr 1
    refine can_eq L M hL.tail hM.tail fun y => ⟨fun hy => ?_, fun hy => ?_⟩
    · obtain ⟨u, hu, h1, h2⟩ := hy
      have g := hL.head u hu
      obtain ⟨v, hv, h3, h4⟩ := (h y).1 ⟨u, by simp [hu], h1, h2⟩
      rcases List.mem_cons.1 hv with rfl | hv
      · omega
      · exact ⟨v, hv, h3, h4⟩
    · obtain ⟨u, hu, h1, h2⟩ := hy
      have g := hM.head u hu
      obtain ⟨v, hv, h3, h4⟩ := (h y).2 ⟨u, by simp [hu], h1, h2⟩
      rcases List.mem_cons.1 hv with rfl | hv
      · omega
      · exact ⟨v, hv, h3, h4⟩
def push (out : List R2) (x x' : Int) : List R2 :=
  bif decide (0 < out.length) && ((rd out (out.length - 1)).b == x) then out.set (out.length - 1) ⟨(rd out (out.length - 1)).a, x'⟩ else out ++ [⟨x, x'⟩]
theorem push_snoc (out : List R2) (s : R2) (x x' : Int) : push (out ++ [s]) x x' = bif s.b == x then out ++ [⟨s.a, x'⟩] else out ++ [s] ++ [⟨x, x'⟩] := by
  have e : rd (out ++ [s]) ((out ++ [s]).length - 1) = s := by
    rw [rd_append_right (by simp)]; simp [rd]
  unfold push
  rw [e, decide_eq_true (by simp), Bool.true_and]
  cases (s.b == x)
  · rfl
  · simp
theorem push_can {out : List R2} {x x' : Int} (hc : Can out) (hb : ∀ s ∈ out, s.b ≤ x) (hx : x < x') :
    Can (push out x x') ∧ (∀ s ∈ push out x x', s.b ≤ x') ∧ ∀ y, pt (push out x x') y ↔ pt out y ∨ (x ≤ y ∧ y < x') := by
  rcases List.eq_nil_or_concat out with rfl | ⟨L, s, rfl⟩
  · refine ⟨⟨?_, ?_⟩, ?_, fun y => ?_⟩
    · intro s hs; simp [push] at hs; subst hs; exact hx
    · simp [push]
    · intro s hs; simp [push] at hs; subst hs; exact Int.le_refl _
    · simp [push, pt]
  · rw [List.concat_eq_append] at *
    rw [push_snoc]
    have hs := hb s (by simp)
    have hp := hc.pos s (by simp)
    have sep := List.pairwise_append.1 hc.sep
    rcases boolc (s.b == x) with q | q
    · rw [q, cond_true]
      have q : s.b = x := by simpa using q
      refine ⟨⟨?_, ?_⟩, ?_, fun y => ?_⟩
      · intro t ht
        rcases List.mem_append.1 ht with ht | ht
        · exact hc.pos t (by simp [ht])
        · rw [List.mem_singleton.1 ht]; show s.a < x'; omega
      · refine List.pairwise_append.2 ⟨sep.1, List.pairwise_singleton _ _, fun t ht u hu => ?_⟩
        rw [List.mem_singleton.1 hu]
        exact sep.2.2 t ht s (by simp)
      · intro t ht
        rcases List.mem_append.1 ht with ht | ht
        · have := hb t (by simp [ht]); omega
        · rw [List.mem_singleton.1 ht]; exact Int.le_refl _
      · constructor
        · rintro ⟨t, ht, h1, h2⟩
          rcases List.mem_append.1 ht with ht | ht
          · exact .inl ⟨t, by simp [ht], h1, h2⟩
          · rw [List.mem_singleton.1 ht] at h1 h2
            by_cases hy : y < s.b
            · exact .inl ⟨s, by simp, h1, hy⟩
            · exact .inr ⟨by omega, h2⟩
        · rintro (⟨t, ht, h1, h2⟩ | ⟨h1, h2⟩)
          · rcases List.mem_append.1 ht with ht | ht
            · exact ⟨t, by simp [ht], h1, h2⟩
            · rw [List.mem_singleton.1 ht] at h1 h2
              exact ⟨⟨s.a, x'⟩, by simp, h1, by show y < x'; omega⟩
          · exact ⟨⟨s.a, x'⟩, by simp, by show s.a ≤ y; omega, h2⟩
    · rw [q, cond_false]
      have q : s.b ≠ x := by simpa using q
      refine ⟨⟨?_, ?_⟩, ?_, fun y => ?_⟩
      · intro t ht
        rcases List.mem_append.1 ht with ht | ht
        · exact hc.pos t ht
        · rw [List.mem_singleton.1 ht]; exact hx
      · refine List.pairwise_append.2 ⟨hc.sep, List.pairwise_singleton _ _, fun t ht u hu => ?_⟩
        rw [List.mem_singleton.1 hu]
        show t.b < x
        rcases List.mem_append.1 ht with h | h
        · have h1 := sep.2.2 t h s (by simp); omega
        · rw [List.mem_singleton.1 h]; omega
      · intro t ht
        rcases List.mem_append.1 ht with ht | ht
        · have := hb t ht; omega
        · rw [List.mem_singleton.1 ht]; exact Int.le_refl _
      · constructor
        · rintro ⟨t, ht, h1, h2⟩
          rcases List.mem_append.1 ht with ht | ht
          · exact .inl ⟨t, ht, h1, h2⟩
          · rw [List.mem_singleton.1 ht] at h1 h2
            exact .inr ⟨h1, h2⟩
        · rintro (⟨t, ht, h1, h2⟩ | ⟨h1, h2⟩)
          · exact ⟨t, List.mem_append.2 (.inl ht), h1, h2⟩
          · exact ⟨⟨x, x'⟩, by simp, h1, h2⟩
theorem lt_rd {l : List Int} (h : l.Pairwise (· < ·)) {i j : Nat} (hij : i < j) (hj : j < l.length) : rd l i < rd l j := by
  rw [rd_lt (by omega), rd_lt hj]
  exact List.pairwise_iff_getElem.1 h i j (by omega) hj hij
theorem canF_can (cuts : List Int) (ins : List Bool) (hc : cuts.Pairwise (· < ·)) : ∀ (k i : Nat) (out : List R2), i + k < cuts.length ∨ k = 0 → Can out → (∀ s ∈ out, s.b ≤ rd cuts i) →
    Can (canF cuts ins k i out) ∧ ∀ y, pt (canF cuts ins k i out) y ↔ pt out y ∨ ∃ j, i ≤ j ∧ j < i + k ∧ rd ins j = true ∧ rd cuts j ≤ y ∧ y < rd cuts (j + 1)
  | 0, i, out, h, ho, hb => ⟨ho, fun y => ⟨.inl, fun hy => hy.elim id fun ⟨j, h1, h2, _⟩ => by omega⟩⟩
  | k + 1, i, out, h, ho, hb => by
    have hlt : rd cuts i < rd cuts (i + 1) := lt_rd hc (Nat.lt_succ_self _) (by omega)
    obtain ⟨p1, p2, p3⟩ := push_can ho hb hlt
    have e : canF cuts ins (k + 1) i out = canF cuts ins k (i + 1) (bif rd ins i then push out (rd cuts i) (rd cuts (i + 1)) else out) := rfl
    rw [e]
    rcases boolc (rd ins i) with q | q
    · rw [q, cond_true]
      obtain ⟨r1, r2⟩ := canF_can cuts ins hc k (i + 1) (push out (rd cuts i) (rd cuts (i + 1))) (by omega) p1 p2
      refine ⟨r1, fun y => ?_⟩
      rw [r2, p3]
      constructor
      · rintro ((h | h) | ⟨j, h1, h2, h3⟩)
        · exact .inl h
        · exact .inr ⟨i, Nat.le_refl _, by omega, q, h⟩
        · exact .inr ⟨j, by omega, by omega, h3⟩
      · rintro (h | ⟨j, h1, h2, h3⟩)
        · exact .inl (.inl h)
        · rcases Nat.eq_or_lt_of_le h1 with rfl | h1
          · exact .inl (.inr h3.2)
          · exact .inr ⟨j, h1, by omega, h3⟩
    · rw [q, cond_false]
      obtain ⟨r1, r2⟩ := canF_can cuts ins hc k (i + 1) out (by omega) ho (fun s hs => by have := hb s hs; omega)
      refine ⟨r1, fun y => ?_⟩
      rw [r2]
      constructor
      · rintro (h | ⟨j, h1, h2, h3⟩)
        · exact .inl h
        · exact .inr ⟨j, by omega, by omega, h3⟩
      · rintro (h | ⟨j, h1, h2, h3⟩)
        · exact .inl h
        · rcases Nat.eq_or_lt_of_le h1 with rfl | h1
          · rw [q] at h3; cases h3.1
          · exact .inr ⟨j, h1, by omega, h3⟩
theorem cell_of {cuts : List Int} : ∀ (k : Nat), k < cuts.length → ∀ y, rd cuts 0 ≤ y → y < rd cuts k → ∃ j, j < k ∧ rd cuts j ≤ y ∧ y < rd cuts (j + 1)
  | 0, _, y, h1, h2 => by omega
  | k + 1, hk, y, h1, h2 => by
    by_cases h : rd cuts k ≤ y
    · exact ⟨k, Nat.lt_succ_self _, h, h2⟩
    · obtain ⟨j, h3, h4⟩ := cell_of k (by omega) y h1 (by omega)
      exact ⟨j, by omega, h4⟩
theorem canV_can (cuts : List Int) (hc : cuts.Pairwise (· < ·)) (P : Int → Bool) (S : List R2) (hS : ∀ s ∈ S, s.a ∈ cuts ∧ s.b ∈ cuts) (hP : ∀ y, P y = true ↔ pt S y) :
    Can (canV cuts (cuts.map P)) ∧ ∀ y, pt (canV cuts (cuts.map P)) y ↔ pt S y := by
  obtain ⟨r1, r2⟩ := canF_can cuts (cuts.map P) hc (cuts.length - 1) 0 [] (by omega) .nil (by simp)
  refine ⟨r1, fun y => ?_⟩
  unfold canV
  rw [r2]
  have hin : ∀ x, x ∈ cuts → ∃ i, i < cuts.length ∧ rd cuts i = x := fun x hx => by
    obtain ⟨i, hi, h⟩ := List.getElem_of_mem hx
    exact ⟨i, hi, by rw [rd_lt hi]; exact h⟩
  have hmap : ∀ j, j < cuts.length → rd (cuts.map P) j = P (rd cuts j) := fun j hj => by
    rw [rd_lt (by simpa using hj), rd_lt hj, List.getElem_map]
  have le_of : ∀ i j, i < cuts.length → j < cuts.length → i ≤ j → rd cuts i ≤ rd cuts j := fun i j hi hj hij => by
    rcases Nat.eq_or_lt_of_le hij with rfl | h
    · exact Int.le_refl _
    · exact Int.le_of_lt (lt_rd hc h hj)
  constructor
  · rintro (⟨s, hs, _⟩ | ⟨j, h1, h2, h3, h4, h5⟩)
    · cases hs
    · have hj : j + 1 < cuts.length := by omega
      rw [hmap j (by omega)] at h3
      obtain ⟨s, hs, a1, a2⟩ := (hP _).1 h3
      obtain ⟨ca, cb⟩ := hS s hs
      obtain ⟨m, hm, em⟩ := hin s.b cb
      refine ⟨s, hs, by omega, ?_⟩
      have : j < m := by
        rcases Nat.lt_or_ge j m with h | h
        · exact h
        · have := le_of m j hm (by omega) h; omega
      have := le_of (j + 1) m hj hm this
      omega
  · rintro ⟨s, hs, a1, a2⟩
    right
    obtain ⟨ca, cb⟩ := hS s hs
    obtain ⟨n, hn, en⟩ := hin s.a ca
    obtain ⟨m, hm, em⟩ := hin s.b cb
    have h0 := le_of 0 n (by omega) hn (Nat.zero_le _)
    obtain ⟨j, h1, h2, h3⟩ := cell_of m hm y (by omega) (by omega)
    refine ⟨j, Nat.zero_le _, by omega, ?_, h2, h3⟩
    rw [hmap j (by omega), hP]
    refine ⟨s, hs, ?_, ?_⟩
    · have : n ≤ j := by
        rcases Nat.lt_or_ge j n with h | h
        · have := le_of (j + 1) n (by omega) hn h; omega
        · exact h
      have := le_of n j hn (by omega) this
      omega
    · omega
end Go.Am
end
section
set_option linter.unusedVariables false
set_option linter.unusedSimpArgs false
namespace Go.Am
open Go.Proofs Go.Sort Go.Shelf Go.RowKit Go.Lib
set_option maxRecDepth 100000
set_option maxHeartbeats 4000000
set_option linter.unusedVariables false
set_option linter.unusedSimpArgs false
def net (E : List R3) (y : Int) : Int := (E.map fun e => if e.a ≤ y then e.c else 0).sum
theorem net_cons (e : R3) (E : List R3) (y : Int) : net (e :: E) y = (if e.a ≤ y then e.c else 0) + net E y := by simp [net]
theorem net_perm {E F : List R3} (h : E.Perm F) (y : Int) : net E y = net F y := by
  induction h with
  | nil => rfl
  | cons e _ ih => rw [net_cons, net_cons, ih]
  | swap a b l => simp only [net_cons]; omega
  | trans _ _ i1 i2 => rw [i1, i2]
theorem net_zero (E : List R3) (y : Int) (h : ∀ e ∈ E, y < e.a) : net E y = 0 := by
  induction E with
  | nil => rfl
  | cons e E ih =>
    rw [net_cons, if_neg (by have := h e (by simp); omega), ih fun f hf => h f (by simp [hf])]; rfl
theorem closeF_eq (out : List R2) (last : Int) (inn : Bool) (x : Int) : closeF out last inn x = bif inn && !(last == x) then push out last x else out := by
  unfold closeF push
  cases inn
  · rfl
  · cases (last == x) <;> rfl
theorem closeF_can {out : List R2} {last x : Int} (inn : Bool) (hc : Can out) (hb : ∀ s ∈ out, s.b ≤ last) (hx : last ≤ x) :
    Can (closeF out last inn x) ∧ (∀ s ∈ closeF out last inn x, s.b ≤ x) ∧ ∀ y, pt (closeF out last inn x) y ↔ pt out y ∨ (inn = true ∧ last ≤ y ∧ y < x) := by
  rw [closeF_eq]
  rcases boolc (inn && !(last == x)) with q | q
  · rw [q, cond_true]
    simp only [Bool.and_eq_true, Bool.not_eq_true', beq_eq_false_iff_ne, ne_eq] at q
    obtain ⟨p1, p2, p3⟩ := push_can hc hb (show last < x by omega)
    refine ⟨p1, p2, fun y => ?_⟩
    rw [p3]; simp [q.1]
  · rw [q, cond_false]
    refine ⟨hc, fun s hs => by have := hb s hs; omega, fun y => ⟨.inl, fun h => h.elim id fun ⟨h1, h2, h3⟩ => ?_⟩⟩
    rw [h1, Bool.true_and] at q
    have : last = x := by simpa using q
    omega
def Asc (E : List R3) : Prop := E.Pairwise fun e f => e.a ≤ f.a
theorem swF_can : ∀ (E : List R3) (o last : Int) (out : List R2), Asc E → (∀ e ∈ E, last ≤ e.a) → Can out → (∀ s ∈ out, s.b ≤ last) →
    Can (swF E o last (decide (o > 0)) out) ∧ ∀ y, pt (swF E o last (decide (o > 0)) out) y ↔ pt out y ∨ (last ≤ y ∧ 0 < o + net E y ∧ ∃ e ∈ E, y < e.a)
  | [], o, last, out, _, _, hc, _ => ⟨hc, fun y => ⟨.inl, fun h => h.elim id fun ⟨_, _, e, he, _⟩ => by cases he⟩⟩
  | e :: r, o, last, out, hE, hl, hc, hb => by
    have he := hl e (by simp)
    have hr := List.pairwise_cons.1 hE
    obtain ⟨p1, p2, p3⟩ := closeF_can (decide (o > 0)) hc hb he
    obtain ⟨q1, q2⟩ := swF_can r (o + e.c) e.a (closeF out last (decide (o > 0)) e.a) hr.2 hr.1 p1 p2
    rw [swF_cons]
    refine ⟨q1, fun y => ?_⟩
    rw [q2, p3, net_cons]
    constructor
    · rintro ((h | ⟨h1, h2, h3⟩) | ⟨h1, h2, f, hf, h3⟩)
      · exact .inl h
      · right
        have h1 := of_decide_eq_true h1
        refine ⟨h2, ?_, e, by simp, h3⟩
        rw [if_neg (by omega), net_zero r y fun f hf => by have := hr.1 f hf; omega]
        omega
      · right
        refine ⟨by omega, ?_, f, by simp [hf], h3⟩
        rw [if_pos h1]; omega
    · rintro (h | ⟨h1, h2, f, hf, h3⟩)
      · exact .inl (.inl h)
      · by_cases hy : e.a ≤ y
        · right
          rw [if_pos hy] at h2
          refine ⟨hy, by omega, f, ?_, h3⟩
          rcases List.mem_cons.1 hf with rfl | hf
          · omega
          · exact hf
        · left; right
          rw [if_neg hy, net_zero r y fun f hf => by have := hr.1 f hf; omega] at h2
          exact ⟨decide_eq_true (by omega), h1, by omega⟩
theorem net_ends (l : List R2) (hv : ∀ s ∈ l, s.a < s.b) (y : Int) : 0 ≤ net (endsV l) y ∧ (0 < net (endsV l) y ↔ pt l y) := by
  induction l with
  | nil => exact ⟨Int.le_refl _, by simp [net, endsV, pt]⟩
  | cons s l ih =>
    obtain ⟨i1, i2⟩ := ih fun t ht => hv t (by simp [ht])
    have hs := hv s (by simp)
    have e : net (endsV (s :: l)) y = (if s.a ≤ y ∧ y < s.b then 1 else 0) + net (endsV l) y := by
      show net (⟨s.a, 0, 1⟩ :: ⟨s.b, 0, -1⟩ :: endsV l) y = _
      rw [net_cons, net_cons]
      show (if s.a ≤ y then (1 : Int) else 0) + ((if s.b ≤ y then (-1 : Int) else 0) + net (endsV l) y) = _
      by_cases h1 : s.a ≤ y
      · by_cases h2 : s.b ≤ y
        · rw [if_pos h1, if_pos h2, if_neg (show ¬ (s.a ≤ y ∧ y < s.b) by omega)]; omega
        · rw [if_pos h1, if_neg h2, if_pos (show s.a ≤ y ∧ y < s.b by omega)]; omega
      · rw [if_neg h1, if_neg (show ¬ s.b ≤ y by omega), if_neg (show ¬ (s.a ≤ y ∧ y < s.b) by omega)]; omega
    rw [e]
    by_cases h : s.a ≤ y ∧ y < s.b
    · rw [if_pos h]
      exact ⟨by omega, ⟨fun _ => ⟨s, by simp, h⟩, fun _ => by omega⟩⟩
    · rw [if_neg h]
      refine ⟨by omega, ?_⟩
      rw [Int.zero_add, i2]
      constructor
      · rintro ⟨t, ht, h2⟩; exact ⟨t, by simp [ht], h2⟩
      · rintro ⟨t, ht, h2⟩
        rcases List.mem_cons.1 ht with rfl | ht
        · exact absurd h2 h
        · exact ⟨t, ht, h2⟩
theorem endsV_mem {l : List R2} {s : R2} (h : s ∈ l) : (⟨s.b, 0, -1⟩ : R3) ∈ endsV l ∧ (⟨s.a, 0, 1⟩ : R3) ∈ endsV l :=
  ⟨List.mem_flatMap.2 ⟨s, h, by simp⟩, List.mem_flatMap.2 ⟨s, h, by simp⟩⟩
theorem srtE_asc (l : List R3) (h : bndE l = true) : Asc (srtE l) := by
  refine List.pairwise_iff_getElem.2 fun i j hi hj hij => ?_
  have := (srtE_spec l h).2 i j hij hj
  rwa [rd_lt hi, rd_lt hj] at this
theorem swV_can (l : List R2) (hv : l.all val2 = true) : Can (swV l) ∧ ∀ y, pt (swV l) y ↔ pt l y := by
  have hb : bndE (endsV l) = true := List.all_eq_true.2 fun e he => by
    obtain ⟨s, hs, h1⟩ := List.mem_flatMap.1 he
    have hv := List.all_eq_true.1 hv s hs
    simp only [val2, Bool.and_eq_true, decide_eq_true_eq] at hv
    simp only [List.mem_cons, List.not_mem_nil, or_false] at h1
    rcases h1 with rfl | rfl <;> exact decide_eq_true (by simp only; omega)
  have hpos : ∀ s ∈ l, s.a < s.b := fun s hs => by
    have := List.all_eq_true.1 hv s hs
    simp only [val2, Bool.and_eq_true, decide_eq_true_eq] at this
    exact this.1
  obtain ⟨hp, _⟩ := srtE_spec (endsV l) hb
  have ha := srtE_asc (endsV l) hb
  have hn : ∀ y, net (srtE (endsV l)) y = net (endsV l) y := fun y => net_perm hp y
  unfold swV
  generalize srtE (endsV l) = E at hp ha hn
  cases E with
  | nil =>
    refine ⟨.nil, fun y => ⟨fun ⟨s, hs, _⟩ => (by cases hs), fun ⟨s, hs, _⟩ => ?_⟩⟩
    have := hp.mem_iff.2 (endsV_mem hs).1
    cases this
  | cons e r =>
    have hr := List.pairwise_cons.1 ha
    rw [swF_cons, Int.zero_add]
    have e0 : closeF [] 0 false e.a = [] := rfl
    rw [e0]
    obtain ⟨q1, q2⟩ := swF_can r e.c e.a [] hr.2 hr.1 .nil (by simp)
    refine ⟨q1, fun y => ?_⟩
    rw [q2]
    obtain ⟨n1, n2⟩ := net_ends l hpos y
    rw [← n2, ← hn, net_cons]
    constructor
    · rintro (⟨s, hs, _⟩ | ⟨h1, h2, _⟩)
      · cases hs
      · rw [if_pos h1]; omega
    · intro h
      have hpt := n2.1 (by rw [← hn, net_cons]; exact h)
      obtain ⟨s, hs, s1, s2⟩ := hpt
      have m1 := hp.mem_iff.2 (endsV_mem hs).1
      have m2 := hp.mem_iff.2 (endsV_mem hs).2
      have hea : e.a ≤ y := by
        rcases List.mem_cons.1 m2 with h' | h'
        · rw [← h']; exact s1
        · have h'' : e.a ≤ s.a := hr.1 _ h'
          omega
      right
      rw [if_pos hea] at h
      refine ⟨hea, h, ⟨s.b, 0, -1⟩, ?_, s2⟩
      rcases List.mem_cons.1 m1 with h' | h'
      · have h'' : e.a = s.b := by rw [← h']
        omega
      · exact h'
theorem posF_spec (out : List Int) (hs : out.Pairwise (· < ·)) (x : Int) : ∀ k, k ≤ out.length → posF out x k ≤ k ∧ (∀ i, posF out x k ≤ i → i < k → x < rd out i) ∧ (0 < posF out x k → rd out (posF out x k - 1) ≤ x)
  | 0, _ => ⟨Nat.le_refl _, fun i h1 h2 => by omega, fun h => by simp [posF] at h⟩
  | k + 1, hk => by
    unfold posF
    rcases boolc (decide (rd out k > x)) with q | q
    · rw [q, cond_true]
      obtain ⟨h1, h2, h3⟩ := posF_spec out hs x k (by omega)
      refine ⟨by omega, fun i a b => ?_, h3⟩
      rcases Nat.eq_or_lt_of_le (Nat.le_of_lt_succ b) with rfl | b
      · exact of_decide_eq_true q
      · exact h2 i a b
    · rw [q, cond_false]
      exact ⟨Nat.le_refl _, fun i a b => by omega, fun _ => by have := of_decide_eq_false q; simp only [Nat.add_sub_cancel]; omega⟩
theorem insF_spec (out : List Int) (hs : out.Pairwise (· < ·)) (x : Int) : (insF out x).Pairwise (· < ·) ∧ ∀ y, y ∈ insF out x ↔ y ∈ out ∨ y = x := by
  obtain ⟨h1, h2, h3⟩ := posF_spec out hs x out.length (Nat.le_refl _)
  unfold insF
  split
  · rename_i h0
    rw [h0] at h2
    refine ⟨List.pairwise_cons.2 ⟨fun y hy => ?_, hs⟩, fun y => by simp [or_comm]⟩
    obtain ⟨i, hi, rfl⟩ := List.getElem_of_mem hy
    have := h2 i (Nat.zero_le _) hi
    rwa [rd_lt hi] at this
  · rename_i k hk
    rw [hk] at h1 h2 h3
    have h3 : rd out k ≤ x := h3 (Nat.succ_pos _)
    have hkl : k < out.length := by omega
    rcases boolc (rd out k == x) with q | q
    · rw [q, cond_true]
      have q : rd out k = x := by simpa using q
      refine ⟨hs, fun y => ⟨.inl, fun h => h.elim id fun e => ?_⟩⟩
      rw [e, ← q, rd_lt hkl]; exact List.getElem_mem hkl
    · rw [q, cond_false]
      have q : rd out k ≠ x := by simpa using q
      refine ⟨?_, fun y => ?_⟩
      · have st : (out.take (k + 1)).Pairwise (· < ·) := hs.sublist (List.take_sublist _ _)
        have sd : (out.drop (k + 1)).Pairwise (· < ·) := hs.sublist (List.drop_sublist _ _)
        have ht : ∀ y ∈ out.take (k + 1), y < x := fun y hy => by
          obtain ⟨i, hi, rfl⟩ := List.getElem_of_mem hy
          have hi' : i < k + 1 := by simp at hi; omega
          rw [List.getElem_take]
          have : rd out i ≤ rd out k := by
            rcases Nat.eq_or_lt_of_le (Nat.le_of_lt_succ hi') with rfl | h
            · exact Int.le_refl _
            · exact Int.le_of_lt (lt_rd hs h hkl)
          rw [rd_lt (show i < out.length by omega)] at this
          omega
        have hd : ∀ y ∈ out.drop (k + 1), x < y := fun y hy => by
          obtain ⟨i, hi, rfl⟩ := List.getElem_of_mem hy
          have hi' : k + 1 + i < out.length := by simp at hi; omega
          rw [List.getElem_drop, ← rd_lt hi']
          exact h2 _ (by omega) hi'
        refine List.pairwise_append.2 ⟨st, List.pairwise_cons.2 ⟨hd, sd⟩, fun a ha b hb => ?_⟩
        rcases List.mem_cons.1 hb with rfl | hb
        · exact ht a ha
        · exact Int.lt_trans (ht a ha) (hd b hb)
      · rw [List.mem_append, List.mem_cons]
        constructor
        · rintro (h | h | h)
          · exact .inl (List.mem_of_mem_take h)
          · exact .inr h
          · exact .inl (List.mem_of_mem_drop h)
        · rintro (h | h)
          · rw [← List.take_append_drop (k + 1) out, List.mem_append] at h
            exact h.elim .inl fun h => .inr (.inr h)
          · exact .inr (.inl h)
theorem srtV_spec (l : List Int) : (srtV l).Pairwise (· < ·) ∧ ∀ y, y ∈ srtV l ↔ y ∈ l := by
  have : ∀ (l out : List Int), out.Pairwise (· < ·) → (l.foldl insF out).Pairwise (· < ·) ∧ ∀ y, y ∈ l.foldl insF out ↔ y ∈ out ∨ y ∈ l := by
    intro l
    induction l with
    | nil => intro out h; exact ⟨h, fun y => by simp⟩
    | cons x l ih =>
      intro out h
      obtain ⟨a, b⟩ := insF_spec out h x
      obtain ⟨c, d⟩ := ih (insF out x) a
      refine ⟨c, fun y => ?_⟩
      show y ∈ l.foldl insF (insF out x) ↔ _
      rw [d, b, List.mem_cons, or_assoc]
  obtain ⟨a, b⟩ := this l [] .nil
  exact ⟨a, fun y => by rw [srtV, b]; simp⟩
theorem eq_of_lt_mem : ∀ (l m : List Int), l.Pairwise (· < ·) → m.Pairwise (· < ·) → (∀ x, x ∈ l ↔ x ∈ m) → l = m
  | [], [], _, _, _ => rfl
  | [], b :: m, _, _, h => by have := (h b).2 (by simp); cases this
  | a :: l, [], _, _, h => by have := (h a).1 (by simp); cases this
  | a :: l, b :: m, hl, hm, h => by
    obtain ⟨a1, a2⟩ := List.pairwise_cons.1 hl
    obtain ⟨b1, b2⟩ := List.pairwise_cons.1 hm
    have e : a = b := by
      have x1 := (h a).1 (by simp)
      have x2 := (h b).2 (by simp)
      rcases List.mem_cons.1 x1 with x1 | x1
      · exact x1
      rcases List.mem_cons.1 x2 with x2 | x2
      · exact x2.symm
      have := b1 a x1
      have := a1 b x2
      omega
    subst e
    congr 1
    refine eq_of_lt_mem l m a2 b2 fun x => ⟨fun hx => ?_, fun hx => ?_⟩
    · rcases List.mem_cons.1 ((h x).1 (by simp [hx])) with e | e
      · have := a1 x hx; omega
      · exact e
    · rcases List.mem_cons.1 ((h x).2 (by simp [hx])) with e | e
      · have := b1 x hx; omega
      · exact e
theorem compact_spec (zs : List Int) (hs : zs.Pairwise (· ≤ ·)) : ∀ m, m ≤ zs.length → (compactUpTo zs.toArray m).Pairwise (· < ·) ∧ ∀ x, x ∈ compactUpTo zs.toArray m ↔ x ∈ zs.take m
  | 0, _ => by simp [compactUpTo]
  | m + 1, h => by
    obtain ⟨h1, h2⟩ := compact_spec zs hs m (by omega)
    have hg : ∀ j (hj : j < zs.length), zs.toArray[j]! = zs[j] := fun j hj => by simp [hj]
    have hle : ∀ i j (hi : i < zs.length) (hj : j < zs.length), i < j → zs[i] ≤ zs[j] := fun i j hi hj hij => List.pairwise_iff_getElem.1 hs i j hi hj hij
    have hm : m < zs.length := by omega
    rw [compactUpTo_succ, hg m hm, List.take_succ_eq_append_getElem hm]
    by_cases hk : keeps zs.toArray m = true
    · rw [if_pos hk]
      refine ⟨List.pairwise_append.2 ⟨h1, List.pairwise_singleton _ _, fun x hx y hy => ?_⟩, fun x => by rw [List.mem_append, List.mem_append, h2 x]⟩
      rw [List.mem_singleton.1 hy]
      obtain ⟨i, hi, rfl⟩ := List.getElem_of_mem ((h2 x).1 hx)
      have hi' : i < m := by simp at hi; omega
      rw [List.getElem_take]
      simp only [keeps, decide_eq_true_eq] at hk
      rcases hk with hk | hk
      · omega
      · rw [hg m hm, hg (m - 1) (by omega)] at hk
        have k1 : zs[i] ≤ zs[m - 1] := by
          rcases Nat.lt_or_ge i (m - 1) with q | q
          · exact hle i (m - 1) _ _ q
          · have e : i = m - 1 := by omega
            subst e; exact Int.le_refl _
        have k2 := hle (m - 1) m (by omega) hm (by omega)
        omega
    · rw [if_neg hk, List.append_nil]
      refine ⟨h1, fun x => ?_⟩
      rw [h2 x, List.mem_append, List.mem_singleton]
      refine ⟨.inl, fun hx => hx.elim id fun e => ?_⟩
      simp only [keeps, decide_eq_true_eq, not_or, Decidable.not_not] at hk
      rw [hg m hm, hg (m - 1) (by omega)] at hk
      rw [e, hk.2]
      have : m - 1 < (zs.take m).length := by simp; omega
      have e2 : (zs.take m)[m - 1] = zs[m - 1] := List.getElem_take
      rw [← e2]
      exact List.getElem_mem this
theorem srt_le (zs : List Int) : (srtI zs).Pairwise (· ≤ ·) := by
  have := List.pairwise_mergeSort (le := fun x y : Int => decide (x ≤ y)) (fun a b c h1 h2 => by simp at *; omega) (fun a b => by simp; omega) zs
  exact this.imp fun h => by simpa using h
theorem srt_mem (zs : List Int) (x : Int) : x ∈ srtI zs ↔ x ∈ zs := List.mem_mergeSort
theorem cuts_eq (zs : List Int) : cutsOf zs = srtV zs := by
  obtain ⟨h1, h2⟩ := compact_spec (srtI zs) (srt_le zs) (srtI zs).length (Nat.le_refl _)
  obtain ⟨s1, s2⟩ := srtV_spec zs
  refine eq_of_lt_mem _ _ h1 s1 fun x => ?_
  rw [show cutsOf zs = compactUpTo (srtI zs).toArray (srtI zs).length from rfl, h2 x, List.take_length, srt_mem, s2]
end Go.Am
end
section
set_option linter.unusedVariables false
set_option linter.unusedSimpArgs false
namespace Go.Am
open Go.Proofs Go.Sort Go.Shelf Go.RowKit Go.Lib
set_option maxRecDepth 100000
set_option maxHeartbeats 4000000
set_option linter.unusedVariables false
set_option linter.unusedSimpArgs false
namespace Dim
variable {α β : Type} (D : Dim α β)
def ref (sec : Int → List β) (cs : List Int) : Nat → Nat → List α → List β → Nat → List α
  | 0, _, out, _, _ => out
  | k + 1, i, out, last, first =>
    bif decide (0 < i) && D.same (sec (rd cs i)) last then ref sec cs k (i + 1) (D.grow out first (rd cs (i + 1))) last first
    else ref sec cs k (i + 1) (out ++ (sec (rd cs i)).map (D.put (rd cs i) (rd cs (i + 1)))) (sec (rd cs i)) out.length
theorem ref_eq (hs : ∀ a b, D.same a b = true ↔ a = b) (l : List α) : ∀ (k i : Nat) (s : Sw α β) (out : List α) (last : List β) (first : Nat),
    s.out = out → s.last = last → (last ≠ [] → s.first = first) → (last = [] → out.length ≤ first) → (0 < i → s.fin = rd (D.cuts l) i) → (i = 0 → last = []) →
    (D.go l k i s).out = D.ref (D.sec l) (D.cuts l) k i out last first
  | 0, i, s, out, last, first, h1, h2, h3, h4, h5, h6 => h1
  | k + 1, i, s, out, last, first, h1, h2, h3, h4, h5, h6 => by
    subst h1 h2
    have e1 : D.go l (k + 1) i s = D.go l k (i + 1) (D.one l (rd (D.cuts l) i) (rd (D.cuts l) (i + 1)) s) := rfl
    rw [e1]
    unfold ref
    rcases boolc (decide (0 < (D.sec l (rd (D.cuts l) i)).length) && ((s.fin == rd (D.cuts l) i) && D.same s.last (D.sec l (rd (D.cuts l) i)))) with q | q
    · have e : D.one l (rd (D.cuts l) i) (rd (D.cuts l) (i + 1)) s = ⟨D.grow s.out s.first (rd (D.cuts l) (i + 1)), s.last, s.first, rd (D.cuts l) (i + 1)⟩ := by unfold one; rw [q]; rfl
      simp only [Bool.and_eq_true, decide_eq_true_eq] at q
      obtain ⟨q1, q2, q3⟩ := q
      have q3 := (hs _ _).1 q3
      have hne : s.last ≠ [] := fun h => by rw [h] at q3; rw [← q3] at q1; exact Nat.lt_irrefl _ q1
      have hi : 0 < i := Nat.pos_of_ne_zero fun h => hne (h6 h)
      have e2 : (decide (0 < i) && D.same (D.sec l (rd (D.cuts l) i)) s.last) = true := by
        rw [decide_eq_true hi, Bool.true_and, hs, q3]
      rw [e2, cond_true, e]
      refine ref_eq hs l k (i + 1) _ _ _ _ ?_ rfl h3 (fun h => absurd h hne) (fun _ => rfl) (fun h => by omega)
      rw [h3 hne]
    · have e : D.one l (rd (D.cuts l) i) (rd (D.cuts l) (i + 1)) s = ⟨s.out ++ (D.sec l (rd (D.cuts l) i)).map (D.put (rd (D.cuts l) i) (rd (D.cuts l) (i + 1))), D.sec l (rd (D.cuts l) i), s.out.length, rd (D.cuts l) (i + 1)⟩ := by unfold one; rw [q]; rfl
      rcases boolc (decide (0 < i) && D.same (D.sec l (rd (D.cuts l) i)) s.last) with q2 | q2
      · rw [q2, cond_true, e]
        simp only [Bool.and_eq_true, decide_eq_true_eq] at q2
        obtain ⟨hi, q3⟩ := q2
        have q3 := (hs _ _).1 q3
        rw [(hs s.last (D.sec l (rd (D.cuts l) i))).2 q3.symm, Bool.and_true, h5 hi] at q
        have hz : D.sec l (rd (D.cuts l) i) = [] := by
          cases h : D.sec l (rd (D.cuts l) i) with
          | nil => rfl
          | cons a b => rw [h] at q; simp at q
        have hl : s.last = [] := by rw [← q3, hz]
        have hf := h4 hl
        rw [hz, List.map_nil, List.append_nil]
        refine ref_eq hs l k (i + 1) _ _ _ _ ?_ hl.symm (fun h => absurd hl h) (fun _ => ?_) (fun _ => rfl) (fun h => by omega)
        · exact (D.grow_nil _ _ _ hf).symm
        · rw [D.grow_length]; exact hf
      · rw [q2, cond_false, e]
        exact ref_eq hs l k (i + 1) _ _ _ _ rfl rfl (fun _ => rfl) (fun h => by rw [h]; simp) (fun _ => rfl) (fun h => by omega)
theorem out_eq (hs : ∀ a b, D.same a b = true ↔ a = b) (l : List α) : D.out l = D.ref (D.sec l) (D.cuts l) ((D.cuts l).length - 1) 0 [] [] 0 :=
  D.ref_eq hs l _ 0 _ [] [] 0 rfl rfl (fun _ => rfl) (fun _ => Nat.le_refl _) (fun h => absurd h (Nat.lt_irrefl _)) (fun _ => rfl)
end Dim
theorem D4_cuts (l : List R4) : D4.cuts l = xsV l [] := by
  unfold Dim.cuts xsV
  rw [cuts_eq, show xEnds ([] : List R4) = [] from rfl, List.append_nil]; rfl
theorem colB_eq (l : List R4) (x y : Int) : colB 2 l [] x y = has4V l x y := by
  unfold colB holdsV
  show (has4V l x y || has4V [] x y) = _
  rw [show has4V [] x y = false from rfl, Bool.or_false]
theorem inn_mem {l : List R4} {x : Int} {s : R2} (h : s ∈ D4.inn l x) : ∃ r ∈ l, r.a ≤ x ∧ x < r.c ∧ s = ⟨r.b, r.d⟩ := by
  obtain ⟨r, hr, e⟩ := List.mem_map.1 h
  obtain ⟨h1, h2⟩ := List.mem_filter.1 hr
  simp only [Bool.and_eq_true, decide_eq_true_eq] at h2
  exact ⟨r, h1, h2.1, h2.2, e.symm⟩
theorem mem_inn {l : List R4} {x : Int} {r : R4} (h : r ∈ l) (h1 : r.a ≤ x) (h2 : x < r.c) : (⟨r.b, r.d⟩ : R2) ∈ D4.inn l x := by
  refine List.mem_map.2 ⟨r, List.mem_filter.2 ⟨h, ?_⟩, rfl⟩
  simp only [Bool.and_eq_true, decide_eq_true_eq]
  exact ⟨h1, h2⟩
theorem sec_eq (l : List R4) (hv : l.all val4 = true) (hl : l.length ≤ 400) (x : Int) : D4.sec l x = secF 2 l [] x := by
  have hin := D4.inn_length l x
  have hvi : (D4.inn l x).all val2 = true := List.all_eq_true.2 fun s hs => by
    obtain ⟨r, hr, _, _, rfl⟩ := inn_mem hs
    have := List.all_eq_true.1 hv r hr
    simp only [val4, val2, Bool.and_eq_true, decide_eq_true_eq] at this ⊢
    omega
  have e1 : D4.sec l x = swV (D4.inn l x) := by
    show spmV_0 (D4.inn l x) = _
    unfold spmV_0
    rw [decide_eq_false (by omega), hvi]; rfl
  obtain ⟨c1, c2⟩ := swV_can _ hvi
  obtain ⟨y1, y2⟩ := srtV_spec (yEnds l ++ yEnds [])
  have e2 : secF 2 l [] x = canV (ysV l []) ((ysV l []).map fun y => has4V l x y) := by
    unfold secF
    congr 1
    exact List.map_congr_left fun y _ => colB_eq l x y
  obtain ⟨d1, d2⟩ := canV_can (ysV l []) y1 (fun y => has4V l x y) (D4.inn l x) (fun s hs => by
    obtain ⟨r, hr, _, _, rfl⟩ := inn_mem hs
    unfold ysV
    exact ⟨(y2 _).2 (List.mem_append.2 (.inl (List.mem_flatMap.2 ⟨r, hr, by simp⟩))), (y2 _).2 (List.mem_append.2 (.inl (List.mem_flatMap.2 ⟨r, hr, by simp⟩)))⟩) (fun y => by
    unfold has4V
    rw [List.any_eq_true]
    constructor
    · rintro ⟨r, hr, h⟩
      simp only [in4, Bool.and_eq_true, decide_eq_true_eq] at h
      exact ⟨_, mem_inn hr h.1 h.2.1, h.2.2.1, h.2.2.2⟩
    · rintro ⟨s, hs, h1, h2⟩
      obtain ⟨r, hr, r1, r2, rfl⟩ := inn_mem hs
      refine ⟨r, hr, ?_⟩
      simp only [in4, Bool.and_eq_true, decide_eq_true_eq]
      exact ⟨r1, r2, h1, h2⟩)
  rw [e1, e2]
  exact can_eq _ _ c1 d1 fun y => by rw [c2, d2]
theorem jF_ref (l : List R4) : ∀ (k i : Nat) (out : List R4) (last : List R2) (first : Nat), jF 2 l [] k i out last first = D4.ref (secF 2 l []) (xsV l []) k i out last first
  | 0, _, _, _, _ => rfl
  | k + 1, i, out, last, first => by
    unfold jF Dim.ref
    rw [jF_ref l k, jF_ref l k]
    rfl
theorem joV_eq (l : List R4) (hv : l.all val4 = true) (hl : l.length ≤ 400) : D4.out l = joV 2 l [] := by
  rw [D4.out_eq (fun a b => decide_eq_true_iff) l, joV, jF_ref, ← D4_cuts]
  congr 1
  funext x
  exact sec_eq l hv hl x
theorem D6_cuts (l : List R6) : D6.cuts l = cutV l [] := by
  unfold Dim.cuts cutV
  rw [cuts_eq, show zEnds ([] : List R6) = [] from rfl, List.append_nil]; rfl
theorem D6_inn (l : List R6) (z : Int) : D6.inn l z = atV l z := rfl
theorem val_eq (r : R6) : val6 r = valR r := by
  unfold val6 valR
  simp only [iMin_eq, iMax_eq]
  rw [Bool.eq_iff_iff]
  simp only [Bool.and_eq_true, decide_eq_true_eq]
  have m1 : ∀ x y z : Int, x ≤ min y z ↔ x ≤ y ∧ x ≤ z := fun x y z => by omega
  have m2 : ∀ x y z : Int, max y z ≤ x ↔ y ≤ x ∧ z ≤ x := fun x y z => by omega
  simp only [ge_iff_le, m1, m2]
  constructor <;> intro h <;> (repeat' apply And.intro) <;> omega
theorem at_val (l : List R6) (hv : l.all val6 = true) (z : Int) : (atV l z).all val4 = true := List.all_eq_true.2 fun s hs => by
  obtain ⟨r, hr, rfl⟩ := List.mem_map.1 hs
  have := List.all_eq_true.1 hv r (List.mem_filter.1 hr).1
  rw [val_eq] at this
  simp only [valR, Bool.and_eq_true, decide_eq_true_eq] at this
  show val4 ⟨r.a, r.b, r.d, r.e⟩ = true
  simp only [val4, Bool.and_eq_true, decide_eq_true_eq]
  (repeat' apply And.intro) <;> omega
section
variable (l : List R6) (hv : l.all val6 = true) (hl : l.length ≤ 400)
include hv hl
theorem at_out (z : Int) : D4.out (atV l z) = joV 2 (atV l z) [] := joV_eq _ (at_val l hv z) (Nat.le_trans (atV_length l z) hl)
theorem bad_eq (z : Int) : badS l z = manyR 2 l [] z := by
  have h1 := at_out l hv hl z
  have h2 := atV_length l z
  have e : joV 2 (atV [] z) [] = [] := rfl
  unfold badS manyR secR
  rw [e, show atV ([] : List R6) z = [] from rfl, D6_inn]
  unfold rgmV_1
  rw [decide_eq_false (by omega), at_val l hv z, h1, cond_false, cond_true]
  by_cases h : 400 < (joV 2 (atV l z) []).length
  · rw [decide_eq_true (show ((joV 2 (atV l z) []).length : Int) > 400 by omega), decide_eq_true h]; rfl
  · rw [decide_eq_false (show ¬ ((joV 2 (atV l z) []).length : Int) > 400 by omega), decide_eq_false h]; rfl
theorem sec6_eq (z : Int) (h : badS l z = false) : D6.sec l z = secR 2 l [] z := by
  have h1 := at_out l hv hl z
  have h2 := atV_length l z
  rw [bad_eq l hv hl] at h
  show rgmV_0 (D6.inn l z) = joV 2 (atV l z) (atV [] z)
  rw [D6_inn]
  unfold rgmV_0
  have h3 : ¬ 400 < (joV 2 (atV l z) []).length := fun hh => by
    unfold manyR secR at h
    rw [show atV ([] : List R6) z = [] from rfl, decide_eq_true hh] at h
    cases h
  rw [decide_eq_false (by omega), at_val l hv z, h1, cond_false, cond_true, decide_eq_false (by omega)]
  rfl
theorem jsF_ref : ∀ (k i : Nat) (out : List R6) (last : List R4) (first : Nat), jsF 2 l [] k i out last first = bif okF l k i then some (D6.ref (D6.sec l) (D6.cuts l) k i out last first) else none
  | 0, _, _, _, _ => rfl
  | k + 1, i, out, last, first => by
    unfold jsF okF Dim.ref
    rw [← D6_cuts, ← bad_eq l hv hl]
    rcases boolc (badS l (rd (D6.cuts l) i)) with q | q
    · rw [q]; rfl
    · have := sec6_eq l hv hl _ q
      rw [q, cond_false, cond_false, this, jsF_ref k, jsF_ref k]
      have e : D6.same (secR 2 l [] (rd (D6.cuts l) i)) last = same4V (secR 2 l [] (rd (D6.cuts l) i)) last := rfl
      rw [e]
      cases (decide (0 < i) && same4V (secR 2 l [] (rd (D6.cuts l) i)) last) <;> rfl
theorem jsO_eq : jsO 2 l [] = bif okF l ((D6.cuts l).length - 1) 0 then some (D6.out l) else none := by
  unfold jsO
  rw [jsF_ref l hv hl, ← D6_cuts, D6.out_eq (fun a b => decide_eq_true_iff) l]
end
theorem check_eq (l : List R6) : sckV_0 l = rckV_0 l := by
  unfold sckV_0 rckV_0
  by_cases h : 400 < l.length
  · rw [decide_eq_true h]; rfl
  · rw [decide_eq_false h, cond_false, cond_false, show l.all valR = l.all val6 from by congr 1; funext r; exact (val_eq r).symm]
    rcases boolc (l.all val6) with hv | hv
    · rw [hv, cond_true, cond_true]
      unfold rckF jsV_1 jsV_0
      rw [jsO_eq l hv (by omega)]
      rcases boolc (okF l ((D6.cuts l).length - 1) 0) with q | q
      · rw [q, cond_true, cond_true]
        show _ = bif decide (((D6.out l).length : Int) ≤ 400) then (bif same6V (D6.out l) l then 0 else 8) else 8
        by_cases h2 : ((D6.out l).length : Int) > 400
        · rw [decide_eq_true h2, decide_eq_false (by omega)]; rfl
        · rw [decide_eq_false h2, decide_eq_true (by omega)]; rfl
      · rw [q]; rfl
    · rw [hv]; rfl
end Go.Am
end
section
set_option linter.unusedVariables false
set_option linter.unusedSimpArgs false
namespace Go.Am
set_option maxRecDepth 100000
set_option linter.unusedVariables false
set_option linter.unusedSimpArgs false
def Cg (x y : Int) : Prop := (18446744073709551616 : Int) ∣ x - y
theorem Cg.refl (x : Int) : Cg x x := by unfold Cg; rw [Int.sub_self]; exact Int.dvd_zero _
theorem Cg.symm {x y : Int} (h : Cg x y) : Cg y x := by unfold Cg at *; omega
theorem Cg.trans {x y z : Int} (h : Cg x y) (k : Cg y z) : Cg x z := by unfold Cg at *; omega
theorem Cg.add {x y u v : Int} (h : Cg x y) (k : Cg u v) : Cg (x + u) (y + v) := by unfold Cg at *; omega
theorem Cg.sub {x y u v : Int} (h : Cg x y) (k : Cg u v) : Cg (x - u) (y - v) := by unfold Cg at *; omega
theorem Cg.mul {x y u v : Int} (h : Cg x y) (k : Cg u v) : Cg (x * u) (y * v) := by
  unfold Cg at *
  have : x * u - y * v = (x - y) * u + y * (u - v) := by rw [Int.sub_mul, Int.mul_sub]; omega
  rw [this]
  exact Int.dvd_add (Int.dvd_mul_of_dvd_left h) (Int.dvd_mul_of_dvd_right k)
theorem Cg.wrap (x : Int) : Cg (IntKind.wrap .i64 x) x := by rw [w64]; unfold Cg; omega
theorem Cg.eq {x y : Int} (h : Cg x y) : IntKind.wrap .i64 x = IntKind.wrap .i64 y := by rw [w64, w64]; unfold Cg at h; omega
theorem Cg.w {x y : Int} (h : Cg x y) : Cg (IntKind.wrap .i64 x) y := (Cg.wrap x).trans h
theorem Cg.is {x y : Int} (h : Cg x y) (hx : -9223372036854775808 ≤ x ∧ x ≤ 9223372036854775807) (hy : -9223372036854775808 ≤ y ∧ y ≤ 9223372036854775807) : x = y := by unfold Cg at h; omega
theorem wrap_in (x : Int) : -9223372036854775808 ≤ IntKind.wrap .i64 x ∧ IntKind.wrap .i64 x ≤ 9223372036854775807 := by rw [w64]; omega
def bxV (r : R6) : Int := (r.d - r.a) * (r.e - r.b) * (r.f - r.c)
def ovl (a b c d : Int) : Int := max 0 (min b d - max a c)
def ov (r s : R6) : Int := ovl r.a r.d s.a s.d * ovl r.b r.e s.b s.e * ovl r.c r.f s.c s.f
theorem ovl_comm (a b c d : Int) : ovl a b c d = ovl c d a b := by unfold ovl; omega
theorem ov_comm (r s : R6) : ov r s = ov s r := by unfold ov; rw [ovl_comm r.a, ovl_comm r.b, ovl_comm r.c]
theorem ovl_nonneg (a b c d : Int) : 0 ≤ ovl a b c d := by unfold ovl; omega
theorem ov_nonneg (r s : R6) : 0 ≤ ov r s := Int.mul_nonneg (Int.mul_nonneg (ovl_nonneg ..) (ovl_nonneg ..)) (ovl_nonneg ..)
def meetV (r s : R6) : Option R6 :=
  bif decide (max r.a s.a < min r.d s.d) && (decide (max r.b s.b < min r.e s.e) && decide (max r.c s.c < min r.f s.f)) then
    some ⟨max r.a s.a, max r.b s.b, max r.c s.c, min r.d s.d, min r.e s.e, min r.f s.f⟩ else none
theorem meet_comm (r s : R6) : meetV r s = meetV s r := by
  unfold meetV
  rw [Int.max_comm r.a, Int.max_comm r.b, Int.max_comm r.c, Int.min_comm r.d, Int.min_comm r.e, Int.min_comm r.f]
def optS (o : Option R6) (f : R6 → Int) : Int := match o with | some b => f b | none => 0
theorem meet_bx (r s : R6) : optS (meetV r s) bxV = ov r s := by
  unfold meetV
  by_cases h1 : max r.a s.a < min r.d s.d
  · by_cases h2 : max r.b s.b < min r.e s.e
    · by_cases h3 : max r.c s.c < min r.f s.f
      · rw [decide_eq_true h1, decide_eq_true h2, decide_eq_true h3]
        show (min r.d s.d - max r.a s.a) * (min r.e s.e - max r.b s.b) * (min r.f s.f - max r.c s.c) = ov r s
        unfold ov ovl
        congr 1
        · congr 1 <;> omega
        · omega
      · rw [decide_eq_false h3]
        have : ovl r.c r.f s.c s.f = 0 := by unfold ovl; omega
        simp only [Bool.and_false, cond_false, optS, ov, this, Int.mul_zero]
    · rw [decide_eq_false h2]
      have : ovl r.b r.e s.b s.e = 0 := by unfold ovl; omega
      simp only [Bool.false_and, Bool.and_false, cond_false, optS, ov, this, Int.mul_zero, Int.zero_mul]
  · rw [decide_eq_false h1]
    have : ovl r.a r.d s.a s.d = 0 := by unfold ovl; omega
    simp only [Bool.false_and, cond_false, optS, ov, this, Int.mul_zero, Int.zero_mul]
def nx (d : Int) (r : R6) : R6 :=
  let t := 1 - 2 * Int.tmod d 2
  bif Int.tdiv d 2 == 0 then ⟨r.a + t, r.b, r.c, r.d + t, r.e, r.f⟩ else bif Int.tdiv d 2 == 1 then ⟨r.a, r.b + t, r.c, r.d, r.e + t, r.f⟩ else ⟨r.a, r.b, r.c + t, r.d, r.e, r.f + t⟩
def rv (d : Int) : Int := d + 1 - 2 * Int.tmod d 2
theorem ov_nx (d : Int) (h : 0 ≤ d ∧ d ≤ 5) (r s : R6) : ov (nx d r) s = ov (nx (rv d) s) r := by
  have : d = 0 ∨ d = 1 ∨ d = 2 ∨ d = 3 ∨ d = 4 ∨ d = 5 := by omega
  have e : ∀ (t a b c d : Int), ovl (a + t) (b + t) c d = ovl (c + -t) (d + -t) a b := fun t a b c d => by unfold ovl; omega
  rcases this with rfl | rfl | rfl | rfl | rfl | rfl
  · show ovl (r.a + 1) (r.d + 1) s.a s.d * ovl r.b r.e s.b s.e * ovl r.c r.f s.c s.f = ovl (s.a + -1) (s.d + -1) r.a r.d * ovl s.b s.e r.b r.e * ovl s.c s.f r.c r.f
    rw [e, ovl_comm r.b, ovl_comm r.c]
  · show ovl (r.a + -1) (r.d + -1) s.a s.d * ovl r.b r.e s.b s.e * ovl r.c r.f s.c s.f = ovl (s.a + 1) (s.d + 1) r.a r.d * ovl s.b s.e r.b r.e * ovl s.c s.f r.c r.f
    rw [e, ovl_comm r.b, ovl_comm r.c]; rfl
  · show ovl r.a r.d s.a s.d * ovl (r.b + 1) (r.e + 1) s.b s.e * ovl r.c r.f s.c s.f = ovl s.a s.d r.a r.d * ovl (s.b + -1) (s.e + -1) r.b r.e * ovl s.c s.f r.c r.f
    rw [e, ovl_comm r.a, ovl_comm r.c]
  · show ovl r.a r.d s.a s.d * ovl (r.b + -1) (r.e + -1) s.b s.e * ovl r.c r.f s.c s.f = ovl s.a s.d r.a r.d * ovl (s.b + 1) (s.e + 1) r.b r.e * ovl s.c s.f r.c r.f
    rw [e, ovl_comm r.a, ovl_comm r.c]; rfl
  · show ovl r.a r.d s.a s.d * ovl r.b r.e s.b s.e * ovl (r.c + 1) (r.f + 1) s.c s.f = ovl s.a s.d r.a r.d * ovl s.b s.e r.b r.e * ovl (s.c + -1) (s.f + -1) r.c r.f
    rw [e, ovl_comm r.a, ovl_comm r.b]
  · show ovl r.a r.d s.a s.d * ovl r.b r.e s.b s.e * ovl (r.c + -1) (r.f + -1) s.c s.f = ovl s.a s.d r.a r.d * ovl s.b s.e r.b r.e * ovl (s.c + 1) (s.f + 1) r.c r.f
    rw [e, ovl_comm r.a, ovl_comm r.b]; rfl
def sm {α : Type} (l : List α) (f : α → Int) : Int := (l.map f).sum
theorem sm_nil {α : Type} (f : α → Int) : sm ([] : List α) f = 0 := rfl
theorem sm_cons {α : Type} (x : α) (l : List α) (f : α → Int) : sm (x :: l) f = f x + sm l f := by simp [sm]
theorem sm_append {α : Type} (l m : List α) (f : α → Int) : sm (l ++ m) f = sm l f + sm m f := by simp [sm]
theorem sm_congr {α : Type} {l : List α} {f g : α → Int} (h : ∀ x ∈ l, f x = g x) : sm l f = sm l g := by
  unfold sm; rw [List.map_congr_left h]
theorem sm_add {α : Type} (l : List α) (f g : α → Int) : sm l (fun x => f x + g x) = sm l f + sm l g := by
  induction l with
  | nil => rfl
  | cons x l ih => simp only [sm_cons, ih]; omega
theorem sm_mul {α : Type} (l : List α) (f : α → Int) (c : Int) : sm l (fun x => f x * c) = sm l f * c := by
  induction l with
  | nil => simp [sm]
  | cons x l ih => simp only [sm_cons, ih, Int.add_mul]
theorem sm_mul' {α : Type} (l : List α) (f : α → Int) (c : Int) : sm l (fun x => c * f x) = c * sm l f := by
  induction l with
  | nil => simp [sm]
  | cons x l ih => simp only [sm_cons, ih, Int.mul_add]
theorem sm_zero {α : Type} (l : List α) : sm l (fun _ => 0) = 0 := by
  induction l with
  | nil => rfl
  | cons x l ih => rw [sm_cons, ih]; rfl
theorem sm_swap {α β : Type} (l : List α) (m : List β) (f : α → β → Int) : sm l (fun x => sm m (f x)) = sm m (fun y => sm l fun x => f x y) := by
  induction l with
  | nil => simp only [sm_nil, sm_zero]
  | cons x l ih => simp only [sm_cons, ih, sm_add]
theorem sm_mono {α : Type} {l : List α} {f g : α → Int} (h : ∀ x ∈ l, f x ≤ g x) : sm l f ≤ sm l g := by
  induction l with
  | nil => exact Int.le_refl _
  | cons x l ih => rw [sm_cons, sm_cons]; exact Int.add_le_add (h x (by simp)) (ih fun y hy => h y (by simp [hy]))
theorem sm_nonneg {α : Type} {l : List α} {f : α → Int} (h : ∀ x ∈ l, 0 ≤ f x) : 0 ≤ sm l f := by
  have := sm_mono h; rwa [sm_zero] at this
theorem sm_le {α : Type} {l : List α} {f : α → Int} {c : Int} (h : ∀ x ∈ l, f x ≤ c) : sm l f ≤ l.length * c := by
  induction l with
  | nil => simp [sm]
  | cons x l ih =>
    rw [sm_cons, List.length_cons]
    have h1 := h x (by simp)
    have h2 := ih fun y hy => h y (by simp [hy])
    have : ((l.length + 1 : Nat) : Int) * c = l.length * c + c := by rw [show ((l.length + 1 : Nat) : Int) = (l.length : Int) + 1 from rfl, Int.add_mul, Int.one_mul]
    omega
theorem sm_flatMap {α β : Type} (l : List α) (g : α → List β) (f : β → Int) : sm (l.flatMap g) f = sm l fun x => sm (g x) f := by
  induction l with
  | nil => rfl
  | cons x l ih => rw [List.flatMap_cons, sm_append, sm_cons, ih]
theorem sm_map {α β : Type} (l : List α) (g : α → β) (f : β → Int) : sm (l.map g) f = sm l fun x => f (g x) := by simp [sm, Function.comp_def]
theorem sm_filterMap {α : Type} (l : List α) (g : α → Option R6) (f : R6 → Int) : sm (l.filterMap g) f = sm l fun x => optS (g x) f := by
  induction l with
  | nil => rfl
  | cons x l ih =>
    rw [List.filterMap_cons, sm_cons]
    cases h : g x with
    | none => show _ = (0 : Int) + _; rw [Int.zero_add]; exact ih
    | some b => show sm (b :: _) f = f b + _; rw [sm_cons, ih]
def comV (X Y : List R6) : List R6 := X.flatMap fun x => Y.filterMap (meetV x)
theorem sm_com (X Y : List R6) (f : R6 → Int) : sm (comV X Y) f = sm X fun x => sm Y fun y => optS (meetV x y) f := by
  unfold comV
  rw [sm_flatMap]
  exact sm_congr fun x _ => sm_filterMap _ _ _
theorem sm_com_comm (X Y : List R6) (f : R6 → Int) : sm (comV X Y) f = sm (comV Y X) f := by
  rw [sm_com, sm_com, sm_swap]
  exact sm_congr fun y _ => sm_congr fun x _ => by rw [meet_comm]
def S2 (X Y : List R6) : Int := sm X fun x => sm Y fun y => ov x y
theorem com_bx (X Y : List R6) : sm (comV X Y) bxV = S2 X Y := by
  rw [sm_com]
  exact sm_congr fun x _ => sm_congr fun y _ => meet_bx x y
theorem S2_comm (X Y : List R6) : S2 X Y = S2 Y X := by
  unfold S2
  rw [sm_swap]
  exact sm_congr fun y _ => sm_congr fun x _ => ov_comm x y
def E2 (d : Int) (X Y : List R6) : Int := sm X fun x => sm Y fun y => ov (nx d x) y
theorem E2_map (d : Int) (X Y : List R6) : S2 (X.map (nx d)) Y = E2 d X Y := by unfold S2 E2; rw [sm_map]
theorem E2_comm (d : Int) (h : 0 ≤ d ∧ d ≤ 5) (X Y : List R6) : E2 d X Y = E2 (rv d) Y X := by
  unfold E2
  rw [sm_swap]
  exact sm_congr fun y _ => sm_congr fun x _ => ov_nx d h x y
def Eqv (B B' : List R6) : Prop := ∀ f, sm B f = sm B' f
theorem E2_eqv {d : Int} {X X' Y Y' : List R6} (h : Eqv X X') (k : Eqv Y Y') : E2 d X Y = E2 d X' Y' := by
  unfold E2
  rw [h]
  exact sm_congr fun x _ => k _
theorem eqv_com (X Y : List R6) : Eqv (comV X Y) (comV Y X) := sm_com_comm X Y
theorem Eqv.refl (X : List R6) : Eqv X X := fun _ => rfl
def c1 (d : Int) (X Y B : List R6) : Int := (E2 d X Y - E2 d B Y) - (E2 d X B - E2 d B B)
def con6 (X Y B : List R6) : Int := c1 0 X Y B + c1 1 X Y B + c1 2 X Y B + c1 3 X Y B + c1 4 X Y B + c1 5 X Y B
theorem c1_turn (d : Int) (h : 0 ≤ d ∧ d ≤ 5) (X Y : List R6) : c1 d X Y (comV X Y) = c1 (rv d) Y X (comV Y X) := by
  unfold c1
  rw [E2_comm d h X Y, E2_comm d h (comV X Y) Y, E2_comm d h X (comV X Y), E2_comm d h (comV X Y) (comV X Y)]
  rw [E2_eqv (d := rv d) (Eqv.refl Y) (eqv_com X Y), E2_eqv (d := rv d) (eqv_com X Y) (Eqv.refl X), E2_eqv (d := rv d) (eqv_com X Y) (eqv_com X Y)]
  omega
theorem con6_turn (X Y : List R6) : con6 X Y (comV X Y) = con6 Y X (comV Y X) := by
  unfold con6
  rw [c1_turn 0 (by omega), c1_turn 1 (by omega), c1_turn 2 (by omega), c1_turn 3 (by omega), c1_turn 4 (by omega), c1_turn 5 (by omega)]
  show c1 1 _ _ _ + c1 0 _ _ _ + c1 3 _ _ _ + c1 2 _ _ _ + c1 5 _ _ _ + c1 4 _ _ _ = _
  omega
end Go.Am
end
