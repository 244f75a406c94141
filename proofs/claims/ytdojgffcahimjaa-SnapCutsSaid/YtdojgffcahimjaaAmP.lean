/- Arguments that are slices of integers, or of structs and arrays of integers: opened to data that a run can read. -/
import Derived.Test.YtdojgffcahimjaaAmN
import Derived.Deep.Slices
import Derived.Deep.Fields
import Derived.ChangeSame
import Derived.OpenShut
namespace Go.Am
open Go.ChangeShapes Go.WideShapes Go.Deep
set_option linter.unusedVariables false

section
variable {P : Program}

/-- The integers of which a type is made, cell by cell. -/
def flatFs (P : Program) (rec : TypeId → Option (List IntKind)) : List Field → Nat → Option (List IntKind)
  | [], _ => some []
  | f :: r, o => bif Nat.beq f.offset o then match rec f.type with
      | some ks => bif Nat.beq (P.cellsOf f.type) ks.length then (flatFs P rec r (o + ks.length)).map (ks ++ ·) else none
      | none => none
    else none

def flatK (P : Program) : Nat → TypeId → Option (List IntKind)
  | 0, _ => none
  | d + 1, t => match P.underlying t with
    | some (.int k) => some [k]
    | some (.struct fs) => match flatFs P (flatK P d) fs.toList 0 with
      | some ks => bif Nat.beq (P.cellsOf t) ks.length then some ks else none
      | none => none
    | _ => none

def Ints (ks : List IntKind) (cs : List Value) : Prop := ∃ ns : List Int, ns.length = ks.length ∧ cs = List.zipWith Value.int ks ns ∧ ∀ p ∈ List.zip ks ns, p.1.has p.2

theorem Ints.append {a b : List IntKind} {x y : List Value} (h : Ints a x) (k : Ints b y) : Ints (a ++ b) (x ++ y) := by
  obtain ⟨ns, h1, rfl, h3⟩ := h
  obtain ⟨ms, k1, rfl, k3⟩ := k
  refine ⟨ns ++ ms, by simp [h1, k1], ?_, fun p hp => ?_⟩
  · rw [List.zipWith_append h1.symm]
  · rw [List.zip_append h1.symm, List.mem_append] at hp
    rcases hp with hp | hp
    · exact h3 p hp
    · exact k3 p hp

theorem Ints.length {ks : List IntKind} {cs : List Value} (h : Ints ks cs) : cs.length = ks.length := by
  obtain ⟨ns, h1, rfl, _⟩ := h
  simp [h1]

variable {HH : Type} {enc : TypeId × Value → HH} {w : World} {base : Nat} {spare : Nat → Bool} {held : Bool}

theorem flatFs_open {rec : TypeId → Option (List IntKind)} (hr : ∀ t ks, rec t = some ks → ∀ fuel cs x, DataW.trod enc P w base spare held fuel t cs = some x → Ints ks cs) (cs : List Value) :
    ∀ (l : List Field) (o : Nat) (ks : List IntKind), flatFs P rec l o = some ks → o + ks.length ≤ cs.length → (∀ f ∈ l, ∃ fuel x, DataW.trod enc P w base spare held fuel f.type ((cs.drop f.offset).take (P.cellsOf f.type)) = some x) → Ints ks ((cs.drop o).take ks.length)
  | [], o, ks, h, _, _ => by
    obtain rfl := Option.some.inj h
    exact ⟨[], rfl, by simp, by simp⟩
  | f :: r, o, ks, h, hl, hf => by
    unfold flatFs at h
    obtain ⟨ho, h⟩ := bif_inv h
    obtain rfl := Nat.eq_of_beq_eq_true ho
    split at h
    · rename_i ks1 h1
      obtain ⟨hc, h⟩ := bif_inv h
      have hc := Nat.eq_of_beq_eq_true hc
      simp only [Option.map_eq_some_iff] at h
      obtain ⟨ks2, h2, rfl⟩ := h
      obtain ⟨fuel, x, hx⟩ := hf f (by simp)
      have i1 := hr _ _ h1 _ _ _ hx
      rw [hc] at i1
      rw [List.length_append] at hl
      have i2 := flatFs_open hr cs r _ ks2 h2 (by omega) fun g hg => hf g (by simp [hg])
      have : (cs.drop f.offset).take (ks1 ++ ks2).length = (cs.drop f.offset).take ks1.length ++ (cs.drop (f.offset + ks1.length)).take ks2.length := by
        rw [List.length_append, List.take_add, List.drop_drop]
      rw [this]
      exact i1.append i2
    · cases h

theorem flatK_open : ∀ (d : Nat) (t : TypeId) (ks : List IntKind), flatK P d t = some ks → ∀ (fuel : Nat) (cs : List Value) (x : DataW HH × List MemPlace), DataW.trod enc P w base spare held fuel t cs = some x → Ints ks cs
  | 0, _, _, h => by cases h
  | d + 1, t, ks, h => by
    intro fuel cs x hx
    unfold flatK at h
    split at h
    · rename_i k hk
      obtain rfl := Option.some.inj h
      obtain ⟨m, rfl, _, hw⟩ := DataW.trod_int hk hx
      refine ⟨[m], rfl, rfl, fun p hp => ?_⟩
      obtain rfl : p = (k, m) := by simpa using hp
      simpa [Lit.wf, IntKind.has] using hw
    · rename_i fs hs
      split at h
      · rename_i ks1 h1
        obtain ⟨hc, h⟩ := bif_inv h
        obtain rfl := Option.some.inj h
        have hc := Nat.eq_of_beq_eq_true hc
        obtain ⟨xs, n, _, _, hl, hlen, hf⟩ := DataW.trod_struct hs hx
        have hl : cs.length = ks1.length := hl.trans hc
        have := flatFs_open (fun t ks ht fuel cs x hx => flatK_open d t ks ht fuel cs x hx) cs fs.toList 0 ks1 h1 (by omega) fun f hf' => by
          obtain ⟨j, hj, rfl⟩ := List.getElem_of_mem hf'
          have hj2 : j < fs.size := by simpa using hj
          have := hf j fs[j] (by simp [hj2])
          refine ⟨n, xs[j]'(by omega), ?_⟩
          simpa [hlen, hj2] using this
        rwa [List.drop_zero, List.take_of_length_le (by omega)] at this
      · cases h
    · cases h

/-- The cells of a row. -/
def rowOf (ks : List IntKind) (c : Nat → Int) : List AVal := List.zipWith AVal.int ks ((List.range ks.length).map c)

theorem rowOf_get (ks : List IntKind) (c : Nat → Int) (j : Nat) (h : j < (rowOf ks c).length) : ∃ hk : j < ks.length, (rowOf ks c)[j] = .int ks[j] (c j) := by
  have hk : j < ks.length := by simpa [rowOf] using h
  exact ⟨hk, by simp [rowOf]⟩

/-- A slice that came in, of elements that are integers, cell by cell. -/
theorem open_dat {t e : TypeId} {ks : List IntKind} {v : Value} {d : DataW HH} {p : List MemPlace} (ht : P.underlying t = some (.slice e)) (hk : flatK P 30 e = some ks) {b0 : Nat} (hv : Value.okWide P w .any b0 t v) (h : DataW.Trod enc P w base spare held t v d p) :
    ∃ (n : Nat) (c : Nat → Nat → Int), VRel (rhoOf fun k => w.heap[k]?) (.dat n (fun i => rowOf ks (c i))) v ∧ (∀ i, i < n → ∀ (j : Nat) (k : IntKind), ks[j]? = some k → k.has (c i j)) ∧ n ≤ maxLen := by
  obtain ⟨fuel, h⟩ := h
  have hvc : v.cells.toList = [v] := by
    unfold Value.okWide at hv
    rw [ht] at hv
    unfold Cell.okWide at hv
    rw [ht] at hv
    cases v <;> first | rfl | (simp [Cell.ok, ht] at hv)
  rcases open_slice ht h with ⟨h0, _⟩ | ⟨a, len, cap, m, fl, D, Pl, hcs, hb, hl, hcap, hm, _, hi⟩
  · rw [hvc] at h0
    obtain rfl : v = .slice none 0 0 := by simpa using h0
    exact ⟨0, fun _ _ => 0, .datn _, fun i hi => absurd hi (Nat.not_lt_zero _), Nat.zero_le _⟩
  · rw [hvc] at hcs
    obtain rfl : v = .slice (some a) len cap := by simpa using hcs
    have hspot : a.spot = none := by
      unfold Value.okWide at hv
      rw [ht] at hv
      unfold Cell.okWide at hv
      rw [ht] at hv
      simp only [Cell.ok, ht] at hv
      exact hv.2.2.2.1
    obtain ⟨blk, off, spot⟩ := a
    simp only at hspot
    subst hspot
    have hlm : len ≤ m := by rw [hm]; split <;> omega
    have key : ∀ i, i < len → ∃ ns : List Int, ns.length = ks.length ∧ (∀ j, j < ks.length → ∃ k, ks[j]? = some k ∧ w.cell? ⟨blk, off + (i * ks.length + j), none⟩ = some (.int k (ns.getD j 0)) ∧ k.has (ns.getD j 0)) := by
      intro i hil
      obtain ⟨cs', hc', ht'⟩ := hi i (by omega)
      have I := flatK_open 30 e ks hk _ _ _ ht'
      obtain ⟨_, hlen, hcell⟩ := World.cells?_some hc'
      have hce : P.cellsOf e = ks.length := by rw [← hlen]; exact I.length
      obtain ⟨ns, n1, n2, n3⟩ := I
      refine ⟨ns, n1, fun j hj => ?_⟩
      have hj2 : j < ns.length := by omega
      refine ⟨ks[j], by simp [hj], ?_, ?_⟩
      · have := hcell j (by omega)
        rw [hce] at this
        simp only [addr_add] at this
        rw [show off + i * ks.length + j = off + (i * ks.length + j) by omega] at this
        rw [this, n2]
        simp [List.getElem?_zipWith, hj, hj2]
      · have : (ks[j], ns[j]) ∈ List.zip ks ns := by
          rw [List.mem_iff_getElem]
          exact ⟨j, by rw [List.length_zip]; omega, by simp⟩
        have := n3 _ this
        simpa [hj2] using this
    let c : Nat → Nat → Int := fun i j => if hil : i < len then ((key i hil).choose).getD j 0 else 0
    have hcs : ∀ i, i < len → ∀ j, j < ks.length → ∃ k, ks[j]? = some k ∧ w.cell? ⟨blk, off + (i * ks.length + j), none⟩ = some (.int k (c i j)) ∧ k.has (c i j) := by
      intro i hil j hj
      have := (key i hil).choose_spec.2 j hj
      simp only [c, hil, dif_pos]
      exact this
    refine ⟨len, c, .dat len _ blk off ks.length cap (fun i j => .int (ks.getD j .i64) (c i j)) hl (fun i _ => by simp [rowOf]) (fun i j hil hj => ?_) (fun i j hil hj => ?_), fun i hil j k hkj => ?_, by omega⟩
    · obtain ⟨hk2, e2⟩ := rowOf_get ks (c i) j hj
      rw [e2]
      have : ks.getD j .i64 = ks[j] := by simp [hk2]
      rw [this]
      exact .int _ _
    · obtain ⟨k, e1, e2, _⟩ := hcs i hil j hj
      have : ks.getD j .i64 = k := by simp [e1]
      rw [this]
      unfold World.cell? at e2
      split at e2
      · rename_i cl el fz hb2
        simp only [Option.isSome_none, Bool.false_eq_true, if_false] at e2
        exact ⟨cl, el, fz, hb2, e2⟩
      · cases e2
    · have hj : j < ks.length := (List.getElem?_eq_some_iff.1 hkj).1
      obtain ⟨k', e1, _, e3⟩ := hcs i hil j hj
      rw [hkj] at e1
      obtain rfl := Option.some.inj e1
      exact e3

end
end Go.Am
