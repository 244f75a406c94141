/- Arguments that are structs or arrays of integers: opened; and related to abstract ones. -/
import Derived.Test.YtifflimkboemjaaNm
import Derived.WideShapes
import Derived.ChangeShapes
namespace Go.Am
section
variable {P : Program} {w : World} {base : Nat}

theorem cell_int {u : TypeId} {k : IntKind} {v : Value} (hu : P.underlying u = some (.int k)) (h : Cell.okWide P w .any base u v) : ∃ n, v = .int k n ∧ k.has n = true := by
  simp only [Cell.okWide, hu] at h
  cases v <;> simp_all [Cell.ok]

theorem row_ints : ∀ (us : List TypeId) (ks : List IntKind) (cs : List Value), cs.length = us.length → us.map P.underlying = ks.map (fun k => some (.int k)) →
    (∀ (i : Nat) (v : Value), cs[i]? = some v → ∃ u, us[i]? = some u ∧ Cell.okWide P w .any base u v) →
    ∃ ns : List Int, ns.length = ks.length ∧ cs = List.zipWith Value.int ks ns ∧ ∀ p ∈ List.zip ks ns, p.1.has p.2 = true
  | [], [], [], _, _, _ => ⟨[], rfl, rfl, fun p hp => by cases hp⟩
  | u :: us, k :: ks, c :: cs, hl, hk, h => by
    simp only [List.map_cons, List.cons.injEq] at hk
    obtain ⟨u', hu', hc⟩ := h 0 c rfl
    obtain rfl : u = u' := Option.some.inj hu'
    obtain ⟨n, rfl, hn⟩ := cell_int hk.1 hc
    obtain ⟨ns, h1, h2, h3⟩ := row_ints us ks cs (by simpa using hl) hk.2 fun i v hi => h (i + 1) v hi
    refine ⟨n :: ns, by simp [h1], by rw [h2]; rfl, fun p hp => ?_⟩
    rw [List.zip_cons_cons, List.mem_cons] at hp
    rcases hp with rfl | hp
    · exact hn
    · exact h3 p hp
  | [], _ :: _, _, _, hk, _ => by simp at hk
  | _ :: _, [], _, _, hk, _ => by simp at hk
  | _ :: _, _ :: _, [], hl, _, _ => by simp at hl
  | [], [], _ :: _, hl, _, _ => by simp at hl

def aggT (P : Program) (t : TypeId) : Bool := match P.underlying t with | some (.struct _) | some (.array _ _) => true | _ => false

theorem open_agg_ints {t : TypeId} {us : List TypeId} {ks : List IntKind} {v : Value} (hs : aggT P t = true) (hc : P.cellTypes P.depth t = some us) (hn : P.cellsOf t = us.length)
    (hk : us.map P.underlying = ks.map (fun k => some (.int k))) (hv : Value.okWide P w .any base t v) :
    ∃ ns : List Int, ns.length = ks.length ∧ v = .agg (List.zipWith Value.int ks ns).toArray ∧ ∀ p ∈ List.zip ks ns, p.1.has p.2 = true := by
  have h : ∃ cs, v = .agg cs ∧ cs.size = P.cellsOf t ∧ Row.okWide P w .any base t cs := by
    unfold Value.okWide at hv
    unfold aggT at hs
    split at hv
    · exact hv
    · exact hv
    · rename_i h1 h2
      split at hs
      · rename_i fs h; exact absurd h (h1 fs)
      · rename_i a b h; exact absurd h (h2 a b)
      · cases hs
  obtain ⟨cs, rfl, hsz, ts, hts, _, hrow⟩ := h
  obtain rfl : us = ts := Option.some.inj (hc.symm.trans hts)
  have hl : cs.toList.length = us.length := by simpa using hsz.trans hn
  obtain ⟨ns, h1, h2, h3⟩ := row_ints us ks cs.toList hl hk fun i v hi => by
    have hi' : cs[i]? = some v := by simpa using hi
    obtain ⟨u, hu, hc⟩ := hrow i v hi'
    have hlt : i < us.length := by
      have := (Array.getElem?_eq_some_iff.mp hi').1
      simpa [← hl] using this
    rw [Nat.mod_eq_of_lt hlt] at hu
    exact ⟨u, hu, hc⟩
  exact ⟨ns, h1, by rw [← h2], h3⟩

theorem vrel_ints {ρ : Rho} {H : Old} (ks : List IntKind) (ns : List Int) : VRel ρ H (.agg (List.zipWith AVal.int ks ns)) (.agg (List.zipWith Value.int ks ns).toArray) := by
  refine .agg _ _ (by simp) fun i h1 h2 => ?_
  simp only [List.getElem_zipWith, List.getElem_toArray]
  exact .int _ _

theorem has_u8 {n : Int} (h : IntKind.u8.has n = true) : 0 ≤ n ∧ n ≤ 255 := by
  simpa [IntKind.has, IntKind.min, IntKind.max, IntKind.signed, IntKind.bits] using h
theorem has_i64 {n : Int} (h : IntKind.i64.has n = true) : -9223372036854775808 ≤ n ∧ n ≤ 9223372036854775807 := by
  simpa [IntKind.has, IntKind.min, IntKind.max, IntKind.signed, IntKind.bits] using h
end
end Go.Am
