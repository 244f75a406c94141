/- The law SceneNames holds: every call of it gives true, whatever its arguments. -/
import Derived.Test.YthnnmgkacjjpeaaGreatDoorNh4
import Derived.Test.YthnnmgkacjjpeaaGreatDoorRows
import Derived.WalkKit
import Derived.ProofKit
import Derived.OpenShut
import Derived.Below
import Derived.Carry
import Derived.ShutString
import Derived.ChangeOld
import Derived.ChangeMaps5
import Derived.JoinedOf
import Derived.MakeChecks
import Derived.Lay
import Derived.LaidMore
import Derived.SevenTiedAt
import Derived.Test.YthnnmgkacjjpeaaGreatDoorTie
import Derived.Test.YthnnmgkacjjpeaaGreatDoorCards
namespace Go.Proofs.YthnnmgkacjjpeaaGreatDoor.sceneNames
open Go.ChangeShapes Go.WideShapes Go.ChangeAt Go.RowKit Go.ChangeMaps
set_option linter.unusedVariables false
theorem own : ownKnob Tryz.prog.godebug = none := by kernel_rfl
theorem laidOut : laidOutB Tryz.prog = true := by kernel_rfl
abbrev laid : List (String × DataW Unit) := Rows.sceneNamesRow.laid
theorem iface_of {H : Type} {enc : TypeId × Value → H} {P : Program} {w : World} {base : Nat} {sp : Nat → Bool} {held : Bool} {fuel : Nat} {t : TypeId} {l : List Value} {n : String} {d : DataW H} {q : List MemPlace}
    {m} (ht : P.underlying t = some (.interface m)) (h : DataW.trod enc P w base sp held fuel t l = some (.iface n d, q)) : ∃ t' u, l = [.iface t' u] := by
  cases fuel with
  | zero => simp [DataW.trod] at h
  | succ fuel =>
    unfold DataW.trod at h
    split at h
    all_goals first
      | exact ⟨_, _, rfl⟩
      | (rename_i hh; rw [ht] at hh; cases hh; done)
      | (rename_i hh _; rw [ht] at hh; cases hh; done)
      | (simp_all; done)
      | (cases h; done)
theorem pow_of {W : World} {cs : Array Value} {fuel : Nat} {q : List MemPlace} {enc : TypeId × Value → Unit} {sp : Nat → Bool} (hd : DataW.trod enc Tryz.prog W 0 sp false fuel 282 cs.toList = some (Rows.laid_internal_strconv_uint64pow10, q)) : cs = Go.Am.pow10A := by
  obtain ⟨xs, m, _, ex, hlen, hl, hel⟩ := DataW.trod_array Tryz.underlying282 hd
  have c5 : Tryz.prog.cellsOf 247 = 1 := by kernel_rfl
  have c6 : Tryz.prog.cellsOf 282 = 20 := by kernel_rfl
  rw [c6] at hlen
  have e3 := (DataW.agg.inj (Prod.mk.inj ex).1)
  apply Array.ext
  · rw [← Array.length_toList, hlen]; rfl
  · intro r h1 h2
    have hr : r < 20 := by rw [← Array.length_toList, hlen] at h1; exact h1
    have hE := hel r hr
    rw [c5, Nat.mul_one, List.getElem?_eq_getElem (by omega)] at hE
    obtain ⟨z, e1, e2, _⟩ := DataW.trod_int Tryz.underlying247 hE
    have e4 : (xs.map (·.1))[r]? = (((List.range 20).map fun i => ((10 ^ i : Nat) : Int)).map fun n => (DataW.lit (.int .u64 n) : DataW Unit))[r]? := by rw [← e3]; rfl
    rw [List.getElem?_map, List.getElem?_map, List.getElem?_map, List.getElem?_eq_getElem (by omega : r < xs.length), e2, List.getElem?_range hr] at e4
    simp only [Option.map_some, Option.some.injEq, DataW.lit.injEq, Lit.int.injEq, true_and] at e4
    have h0 : ((cs.toList.drop r).take 1)[0]? = some (.int .u64 z) := by rw [e1]; rfl
    have h3 : cs.toList[r]? = some (.int .u64 z) := by simpa using h0
    have h4 : cs[r]? = some (.int .u64 z) := by simpa using h3
    have h5 : Go.Am.pow10A[r]? = some (.int .u64 z) := by
      unfold Go.Am.pow10A
      rw [List.getElem?_toArray, List.getElem?_map, List.getElem?_range hr, e4]; rfl
    have h6 := h4.trans h5.symm
    rw [Array.getElem?_eq_getElem h1, Array.getElem?_eq_getElem h2] at h6
    exact Option.some.inj h6
theorem var_heap {P : Program} {W : World} {n : String} {g : Nat} {cs : Array Value} (hg : P.globalNamed n = some g) (hv : W.var? P n = some cs) : ∃ el fz, W.heap[g]? = some (.cells cs el fz) := by
  unfold World.var? at hv
  rw [hg] at hv
  simp only [Option.bind_some] at hv
  split at hv
  · rename_i c el fz e
    obtain rfl := Option.some.inj hv
    exact ⟨el, fz, e⟩
  · cases hv
theorem glob {W : World} (h : laidMetH Tryz.prog laid W) : Go.Am.Glob fun k => W.heap[k]? := by
  rw [MakeChecks.laidMetH_plain _ _ _ (by kernel_rfl)] at h
  obtain ⟨ps, ⟨g1, t1, cs1, fuel1, p1, q1, hg1, ht1, hv1, hd1, r1, _⟩, _⟩ := h
  obtain ⟨g2, t2, cs2, fuel2, p2, q2, hg2, ht2, hv2, hd2, r2, _⟩ := r1
  obtain ⟨g3, t3, cs3, fuel3, p3, q3, hg3, ht3, hv3, hd3, r3, _⟩ := r2
  obtain ⟨g4, t4, cs4, fuel4, p4, q4, hg4, ht4, hv4, hd4, r4, _⟩ := r3
  obtain ⟨g5, t5, cs5, fuel5, p5, q5, hg5, ht5, hv5, hd5, r5, _⟩ := r4
  obtain ⟨g6, t6, cs6, fuel6, p6, q6, hg6, ht6, hv6, hd6, r6, _⟩ := r5
  obtain rfl := Option.some.inj ((show Tryz.prog.globalNamed "internal/strconv.uint64pow10" = some 3 by kernel_rfl).symm.trans hg3)
  obtain rfl := Option.some.inj ((show (Tryz.prog.globals[3]?).map (·.type) = some 282 by kernel_rfl).symm.trans ht3)
  obtain ⟨el, fz, e3⟩ := var_heap hg3 hv3
  have ep := pow_of hd3
  rw [ep] at e3
  obtain rfl := Option.some.inj ((show Tryz.prog.globalNamed "strconv.ErrRange" = some 2 by kernel_rfl).symm.trans hg5)
  obtain rfl := Option.some.inj ((show Tryz.prog.globalNamed "strconv.ErrSyntax" = some 1 by kernel_rfl).symm.trans hg6)
  obtain rfl := Option.some.inj ((show (Tryz.prog.globals[2]?).map (·.type) = some 124 by kernel_rfl).symm.trans ht5)
  obtain rfl := Option.some.inj ((show (Tryz.prog.globals[1]?).map (·.type) = some 124 by kernel_rfl).symm.trans ht6)
  obtain ⟨t5', u5, l5⟩ := iface_of Tryz.underlying124 hd5
  obtain ⟨t6', u6, l6⟩ := iface_of Tryz.underlying124 hd6
  obtain ⟨el5, fz5, e5⟩ := var_heap hg5 hv5
  obtain ⟨el6, fz6, e6⟩ := var_heap hg6 hv6
  have c5 : cs5[0]? = some (.iface t5' u5) := by rw [← Array.getElem?_toList, l5]; rfl
  have c6 : cs6[0]? = some (.iface t6' u6) := by rw [← Array.getElem?_toList, l6]; rfl
  refine ⟨fun b hb => ?_, fun b hb => ?_⟩
  · have hb' : b = 1 ∨ b = 2 := by simpa [Go.Am.globs] using hb
    rcases hb' with rfl | rfl
    · exact ⟨_, ⟨cs6, el6, fz6, e6, c6⟩, .inr ⟨_, _, rfl⟩⟩
    · exact ⟨_, ⟨cs5, el5, fz5, e5, c5⟩, .inr ⟨_, _, rfl⟩⟩
  · have hb' : b = 3 := by simpa [Go.Am.gpow] using hb
    subst hb'
    exact ⟨el, fz, e3⟩
set_option maxRecDepth 100000 in
theorem met (os : Os) (args : Array Value) : laidMetH Tryz.prog laid ((World.laidAll Tryz.prog os laid).forCall (fun _ _ => 0) ⟨#[], args, []⟩).memory := by
  rw [MakeChecks.laidMetH_plain _ _ _ (by kernel_rfl)]; exact laidMet_laidAll _ (by kernel_rfl) (by kernel_rfl)
set_option maxRecDepth 100000 in
theorem lifted (os : Os) (started : os.Started) (H : Type) (enc : TypeId × Value → H) :
    ReturnsInHanded {} Tryz.checked os 8 .any (fun w args => (Rows.sceneNamesSpec.pre enc Tryz.prog Tryz.f8 [] false w args ∧ laidMetH Tryz.prog laid w) ∧ sizedMet enc Tryz.prog Tryz.f8 (OpenSpec.ofChange Rows.sceneNamesSpec) false w args) (Rows.sceneNamesSpec.post enc Tryz.prog Tryz.f8 false true false false) := by
  refine returnsInHanded_of_change_and (C := Tryz.checked) (X := fun w _ => laidMetH Tryz.prog laid w) (fun _ _ _ hh h => h.of_heap hh) own started (by kernel_rfl) Tryz.func8
    (ChangeSpec.witness_shaped (enc := enc) (C := Tryz.checked) (os := os) (X := fun w _ => laidMetH Tryz.prog laid w) false (World.laidAll Tryz.prog os laid) #[] 8 (World.laidAll_os _ _ _)
      (World.shaped_of_ZipB (by kernel_rfl) (by kernel_rfl)) (by kernel_rfl) (by kernel_rfl) (by kernel_rfl) (met os _)) ?_
  intro W base args ds gs before hval0 hW _ _ hL _
  have hG := glob hL
  have hval : ∀ (j : Nat) t v, Tryz.f8.params[j]? = some t → args[j]? = some v → Value.okWide Tryz.prog W .any base t v := hval0
  have hW' := hW
  obtain ⟨p, q, hA0, hV, rfl, hfz, hnd⟩ := hW
  have hA : DataW.TrodAll enc Tryz.prog W 0 (fun _ => true) true Tryz.f8.params.toList args.toList ds p := hA0
  rw [Tryz.params8] at hA hval
  obtain ⟨rfl, rfl, rfl⟩ := trodAll_none hA
  obtain ⟨rfl, rfl⟩ := trodVars_none hV
  clear hA0 hval0
  simp only [List.append_nil] at hW'
  refine (Go.Am.goes_call (H := fun k => W.heap[k]?) (by kernel_rfl) Go.Am.Vbg12 (by kernel_rfl) (show Go.Am.aResults Tryz.prog Go.Am.Vbc12.st (Go.Am.startC Tryz.prog 8 [] false []).rs = some [.bool true] by kernel_rfl) (vals := #[]) .nil (fun k o h => h) hG).mono fun e W' ⟨ρ, u, he, ho⟩ => ?_
  subst he
  have hu := ho.val
  have hg := ho.below
  cases hu
  exact ⟨_, rfl, _, _, _, [], [], [], hW', trodAll_cons_mk (shut_bool Tryz.underlying4 _) trodAll_mk0, trodAll_mk0, rfl, hg.frame _, fun h => by cases h⟩

theorem over : Rows.sceneNamesRow.holds Tryz.pinned (OpenSpec.ofChange Rows.sceneNamesSpec) :=
  OpenClaim.holds_of_wide 8 Tryz.f8 rfl rfl rfl rfl rfl rfl rfl ⟨rfl, rfl, rfl, rfl, rfl⟩ rfl rfl rfl rfl rfl (by kernel_rfl) Tryz.func8 (by kernel_rfl)
    (of_decide_eq_true (by kernel_rfl)) (by unfold Func.isWrapper; first | (rw [if_pos (by decide +kernel)]; kernel_rfl) | (rw [if_neg (by decide +kernel)]; exact ⟨rfl, rfl⟩))
    (fun os started H enc _ => lifted os started H enc)
theorem proved : Rows.SceneNamesCardSaid :=
  Claim7.holds_tied_plain_at .later [] [.data, .data, .data, .data, .sentinel, .sentinel, .pinned] true (true, "2e7522bbf07e5eac7f1a96b843b60b4cb4eceb120060e2f0f403d8dc4e229722") true
    over (fun _ h => by cases h) (by kernel_rfl) (fun _ h => by cases h) sceneNames_row_tie rfl ⟨rfl, rfl⟩ (by kernel_rfl) rfl
    (fun f fn hf hfn => by
      obtain rfl : f = 8 := Option.some.inj ((show Tryz.prog.funcNamed "gambrel/gambrellaw44.SceneNames" = some 8 by kernel_rfl).symm.trans hf) |>.symm
      obtain rfl : fn = Tryz.f8 := (Option.some.inj (Tryz.func8.symm.trans hfn)).symm
      exact ⟨by kernel_rfl, fun j t ht => by
        rw [Tryz.params8] at ht
        simp at ht⟩)
    (by kernel_rfl)
#print axioms proved
end Go.Proofs.YthnnmgkacjjpeaaGreatDoor.sceneNames
