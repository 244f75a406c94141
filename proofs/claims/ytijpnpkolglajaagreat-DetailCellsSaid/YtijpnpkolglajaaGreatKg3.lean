/- A part of a proof: several texts in one. -/
import Derived.Test.YtijpnpkolglajaaGreatKg2
import Derived.Shelf.GgSortFunc.InsertionK
import Derived.Shelf.Sort.Plain
import Derived.Ground.Names2Prog
import Derived.Shelf.Slices.CompactI
import Derived.Shelf.Slices.SearchI
import Derived.Shelf.Slices.Cells
import Derived.Shelf.Slices.In.SortNone
import Derived.Shelf.SlSortCmp.WholeK
import Derived.Ground.SlsfProg
import Derived.Test.YtijpnpkolglajaaGreatProg
import Derived.Shelf.SlSortCmp.NoneTotal
set_option maxRecDepth 1000000
set_option maxHeartbeats 8000000
set_option linter.unusedVariables false
set_option linter.unusedSimpArgs false
noncomputable section
namespace Go.Am
open Go.Sort Go.RowKit Go.Proofs Go.Shelf
variable {P : Program} {ρ : Rho}
def valOf : AVal → Value
 | .int k n => .int k n
 | .bool b => .bool b
 | _ => .tuple #[]
def x1f : AVal → Bool
 | .int _ _ => true
 | .bool _ => true
 | _ => false
theorem x8j {a : AVal} (h : x1f a = true) : Yz ρ a (valOf a) := by
 cases a <;> first
  | exact .int _ _
  | exact .bool _
  | (simp [x1f] at h; done)
theorem w0d {a : AVal} {v : Value} (h : x1f a = true) (hv : Yz ρ a v) : v = valOf a := by
 cases hv <;> first
  | rfl
  | (simp [x1f] at h; done)
class v2y (α : Type) extends Xz α where
 num : ∀ a : α, (cells a).all x1f = true
instance : v2y R2 where num _ := rfl
instance : v2y R3 where num _ := rfl
instance : v2y R4 where num _ := rfl
instance : v2y R6 where num _ := rfl
instance {α : Type} [Xz α] : Inhabited α := ⟨Xz.d⟩
section
variable {α : Type} [v2y α]
def y3r (a : α) : List Value := (Xz.cells a).map valOf
theorem y1j (a : α) : (y3r a).length = Xz.w α := by rw [y3r, List.length_map, Xz.len]
theorem x4q (L : List α) (t : Nat) (h : t < L.length * Xz.w α) : (flatK y3r (Xz.w α) L.toArray)[t]? = (Xz.cells (rd L (t / Xz.w α)))[t % Xz.w α]?.map valOf := by
 have hw := Xz.pos (α := α)
 have hq : t / Xz.w α < L.length := Nat.div_lt_of_lt_mul (by rw [Nat.mul_comm]; exact h)
 have hj : t % Xz.w α < Xz.w α := Nat.mod_lt _ hw
 have hs : t < (flatK y3r (Xz.w α) L.toArray).size := by rw [size_flatK]; exact h
 rw [Array.getElem?_eq_getElem hs, ← getElem!_pos (flatK y3r (Xz.w α) L.toArray) t hs, get_flatK y3r (Xz.w α) L.toArray t (by simpa using h)]
 have e1 : L.toArray[t / Xz.w α]! = rd L (t / Xz.w α) := by
  rw [Xq hq, getElem!_pos L.toArray _ (by simpa using hq)]; simp
 rw [e1]
 have hl : t % Xz.w α < (y3r (rd L (t / Xz.w α))).length := by rw [y1j]; exact hj
 have hl2 : t % Xz.w α < (Xz.cells (rd L (t / Xz.w α))).length := by rw [Xz.len]; exact hj
 rw [getElem!_pos (y3r (rd L (t / Xz.w α))) _ hl, List.getElem?_eq_getElem hl2]
 simp [y3r]
theorem x9q (L : List α) (N t : Nat) (h : t < N * Xz.w α) : (rows N (Zz L))[t]? = (Xz.cells (rd L (t / Xz.w α)))[t % Xz.w α]? := by
 have hw := Xz.pos (α := α)
 have := Wc (get := Zz L) (sz := Xz.w α) N (fun _ _ => Xz.len _) (t / Xz.w α) (t % Xz.w α) (Nat.div_lt_of_lt_mul (by rw [Nat.mul_comm]; exact h)) (Nat.mod_lt _ hw)
 rw [show t / Xz.w α * Xz.w α + t % Xz.w α = t by rw [Nat.mul_comm]; exact Nat.div_add_mod t _] at this
 exact this
theorem z0h (L : List α) (N : Nat) : (rows N (Zz L)).length = N * Xz.w α := Yx N fun _ _ => Xz.len _
theorem y0z (w : World) (n blk off : Nat) (d : Array Value) (os : Array Obj) (k : Nat) (hk : k < w.heap.size) :
  (grow (putRow id (Go.Sort.ahead w n) blk off d) os).heap[k]? = if k = blk then (w.heap[k]?).map (onCells (putCells id off d)) else w.heap[k]? := by
 show (((Go.Sort.ahead w n).heap.modify blk (onCells (putCells id off d))) ++ os)[k]? = _
 rw [Array.getElem?_append_left (by simp; exact hk), Array.getElem?_modify]
 show (if blk = k then _ else _) = _
 by_cases h : k = blk
 ·rw [if_pos h.symm, if_pos h]; rfl
 ·rw [if_neg (fun e => h e.symm), if_neg h]; rfl
def x4r (α : Type) [Xz α] (srt : List α → List α) (bnd : List α → Bool) (g : FuncId) (args : List AVal) (mem : Mem) : Option (AVal × Nat × ABlk × Bool) := match args with
 | [.sla b sz off n cap, .fn f []] => bif Nat.beq f g then match Yr mem b with
  | some ⟨_, ty, some A⟩ => some (.tup [], b, ⟨rows A.n (Zz (srt (lst α n A.get))), ty, some ⟨Xz.w α, A.n, Zz (srt (lst α n A.get))⟩⟩,
    Nat.beq sz (Xz.w α) && (Nat.beq A.sz (Xz.w α) && (Nat.beq off 0 && ((decide (n = A.n) && (isT α n A.get && decide (n < 4611686018427387904))) && bnd (lst α n A.get)))))
  | _ => none
  else none
 | _ => none
theorem w3b {f g : FuncId} {srt : List α → List α} {bnd : List α → Bool} (hsl : ∀ L, (srt L).length = L.length)
  (hC : ∀ (blk off cap : Nat) (L : List α) (w : World), bnd L = true → HoldsK y3r (Xz.w α) w blk off L.toArray → blk < w.heap.size → L.length < 4611686018427387904 →
   Calls P f #[.slice (some ⟨blk, off, none⟩) L.length cap, .func (.func g) #[] #[]] w fun e w' => e = .returned (.tuple #[]) ∧ ∃ n os, w' = sortWorldK y3r (Xz.w α) w blk off n (srt L).toArray os)
  (hN : ∀ (p : Option Addr) (cap : Nat) (fv : Value) (w : World), Calls P f #[.slice p 0 cap, fv] w fun e w' => e = .returned (.tuple #[]) ∧ w' = w) : y8w P f (x4r α srt bnd g) := by
 intro args mem v b blk h hsome ρ next floor vals w hfl dO dK
 have hw0 := Xz.pos (α := α)
 unfold x4r at h
 split at h
 ·rename_i b0 sz off n cap f0
  obtain ⟨hfg, h'⟩ := Kp h
  clear h
  obtain rfl := Nat.eq_of_beq_eq_true hfg
  have h := h'
  clear h'
  split at h
  ·rename_i cells ty A hm
   obtain ⟨asz, an, get⟩ := A
   simp only [Option.some.injEq, Prod.mk.injEq, Bool.and_eq_true] at h
   obtain ⟨rfl, rfl, rfl, h1, h2, h3, ⟨h4, h5, h6⟩, h7⟩ := h
   have g1 := Nat.eq_of_beq_eq_true h1
   have g2 := Nat.eq_of_beq_eq_true h2
   have g3 := Nat.eq_of_beq_eq_true h3
   have g4 : n = an := of_decide_eq_true h4
   have h6 : n < 4611686018427387904 := of_decide_eq_true h6
   have g2 : asz = Xz.w α := g2
   subst g1
   subst g2
   subst g3
   subst g4
   have h7 : bnd (lst α n get.get) = true := h7
   have dT := x4i h5
   have dT : ∀ i, i < n → get.get i = Zz (lst α n get.get) i := dT
   have hrows : rows n get.get = rows n (Zz (lst α n get.get)) := z2s n dT
   obtain ⟨u, hu, hvals⟩ : ∃ u, Yz ρ (.sla b0 (Xz.w α) 0 n cap) u ∧ vals = #[u, .func (.func f0) #[] #[]] := by
    obtain ⟨vl⟩ := vals
    cases dO with
    | cons q1 q2 => cases q2 with
     | cons q3 q4 =>
      cases q4
      cases q3 with
      | fn _ _ cvs hl _ =>
       have : cvs = #[] := Array.eq_empty_of_size_eq_zero (by simpa using hl.symm)
       subst this
       exact ⟨_, q1, rfl⟩
   subst hvals
   have hlt : b0 < next := by
    rcases Nat.lt_or_ge b0 next with q | q
    ·exact q
    ·have := dK.bd b0 q; rw [hm] at this; cases this
   show Calls P f _ w _
   have hAget : (Arr.get ⟨Xz.w α, n, get⟩) = get.get := rfl
   rw [hAget] at *
   generalize hI : lst α n get.get = I at *
   have hIl : I.length = n := by rw [← hI]; exact z6l _ _
   generalize hL : srt I = L
   have hLl : L.length = n := by rw [← hL, hsl, hIl]
   have hnn : ρ b0 = none → ∀ cs ty', Yr mem b0 ≠ some ⟨cs, ty', none⟩ := fun _ cs ty' e => by rw [hm] at e; cases e
   cases hu with
   | sla _ _ _ _ _ l cc e hc dL =>
    have hbk := dK.blk b0 l _ e hm
    obtain ⟨har, _, _⟩ := hbk.arr _ rfl
    have har : cells = rows n get.get := har
    rw [hrows] at har
    subst har
    obtain ⟨cur, el, hh, hsz, dR⟩ := hbk.cells
    simp only [z0h] at dR
    have htot := hbk.tot
    have hln := hbk.n
    simp only [z0h] at hln
    have eE : ∀ t, t < n * Xz.w α → cur[l.base + t]? = (Xz.cells (rd I (t / Xz.w α)))[t % Xz.w α]?.map valOf := fun t ht => by
     obtain ⟨v, e1, e2⟩ := dR t ht
     have hj : t % Xz.w α < Xz.w α := Nat.mod_lt _ hw0
     have hl2 : t % Xz.w α < (Xz.cells (rd I (t / Xz.w α))).length := by rw [Xz.len]; exact hj
     have e3 := x9q I n t ht
     rw [List.getElem?_eq_getElem (by rw [z0h]; exact ht), List.getElem?_eq_getElem hl2] at e3
     rw [Option.some.inj e3] at e2
     rw [e1, List.getElem?_eq_getElem hl2, Option.map_some, w0d (List.all_eq_true.1 (v2y.num _) _ (List.getElem_mem hl2)) e2]
    have eU := dK.real b0 l e
    have hH : HoldsK y3r (Xz.w α) w l.blk (l.base + 0 * Xz.w α) I.toArray := fun j hj => by
     have hj : j < n * Xz.w α := by simpa [hIl] using hj
     have hs : j < (flatK y3r (Xz.w α) I.toArray).size := by simpa [hIl] using hj
     have e1 := x4q I j (by rw [hIl]; exact hj)
     rw [Array.getElem?_eq_getElem hs] at e1
     refine ⟨?_, ?_⟩
     ·simp only [World.cell?, hh, Nat.zero_mul, Nat.add_zero, id]
      rw [eE j hj, ← e1, getElem!_pos (flatK y3r (Xz.w α) I.toArray) j hs]
      simp
     ·simp [World.frozen?, hh]
    have eC := hC l.blk (l.base + 0 * Xz.w α) cc I w h7 hH eU (by omega)
    rw [hIl, hL] at eC
    refine eC.mono fun e' w' ⟨he, q, os, hw'⟩ => ⟨_, he, ?_, ?_, ?_⟩
    ·exact .tup [] #[] rfl fun i h1 h2 => absurd h1 (Nat.not_lt_zero _)
    ·subst hw'
     refine Rel.setArr ?_ ⟨Xz.w α, n, .flat (Zz L)⟩ rfl hw0 fun _ _ => Xz.len _
     refine Rel.rewritten dK e hm (by simp only [z0h]) (fun k hk hne => ?_) ?_ ?_
     ·exact (y0z _ _ _ _ _ _ _ hk).trans (if_neg hne)
     ·show _ ≤ (((Go.Sort.ahead w q).heap.modify _ _) ++ os).size
      simp only [Array.size_append, Array.size_modify]
      exact Nat.le_add_right _ _
     ·refine ⟨putCells id (l.base + 0 * Xz.w α) (flatK y3r (Xz.w α) L.toArray) cur, el, ?_, ?_, fun i hi => ?_⟩
      ·refine (y0z _ _ _ _ _ _ _ eU).trans ?_
       rw [if_pos rfl, hh]; rfl
      ·simp only [putCells, Array.size_mapIdx]; exact hsz
      ·rw [z0h] at hi
       have hj : i % Xz.w α < Xz.w α := Nat.mod_lt _ hw0
       have hl2 : i % Xz.w α < (Xz.cells (rd L (i / Xz.w α))).length := by rw [Xz.len]; exact hj
       have hl3 : i % Xz.w α < (Xz.cells (rd I (i / Xz.w α))).length := by rw [Xz.len]; exact hj
       have e1 := x4q L i (by rw [hLl]; exact hi)
       rw [List.getElem?_eq_getElem hl2, Option.map_some] at e1
       have hs : i < (flatK y3r (Xz.w α) L.toArray).size := by simpa [hLl] using hi
       rw [Array.getElem?_eq_getElem hs] at e1
       have e3 := x9q L n i hi
       rw [List.getElem?_eq_getElem (by rw [z0h]; exact hi), List.getElem?_eq_getElem hl2] at e3
       refine ⟨valOf (Xz.cells (rd L (i / Xz.w α)))[i % Xz.w α], ?_, ?_⟩
       ·have hc0 := eE i hi
        rw [List.getElem?_eq_getElem hl3, Option.map_some] at hc0
        simp only [putCells, Array.getElem?_mapIdx, hc0, Option.map_some, Nat.zero_mul, Nat.add_zero]
        rw [if_pos ⟨by omega, by omega⟩]
        congr 1
        rw [show l.base + i - l.base = i by omega, id, getElem!_pos (flatK y3r (Xz.w α) L.toArray) i hs]
        exact Option.some.inj e1
       ·rw [Option.some.inj e3]
        exact x8j (List.all_eq_true.1 (v2y.num _) _ (List.getElem_mem hl2))
    ·subst hw'
     refine Ev.rewritten dK _ (fun l' _ => hfl) hnn (fun k hk hne => ?_) ?_ rfl rfl rfl
     ·exact (y0z _ _ _ _ _ _ _ hk).trans (if_neg (hne l e))
     ·show _ ≤ (((Go.Sort.ahead w q).heap.modify _ _) ++ os).size
      simp only [Array.size_append, Array.size_modify]
      exact Nat.le_add_right _ _
   | slan =>
    have hI0 : I = [] := List.eq_nil_of_length_eq_zero hIl
    have hL0 : L = [] := List.eq_nil_of_length_eq_zero hLl
    refine (hN none 0 _ w).mono fun e' w' ⟨he, hw'⟩ => ⟨_, he, ?_, ?_, ?_⟩
    ·exact .tup [] #[] rfl fun i h1 h2 => absurd h1 (Nat.not_lt_zero _)
    ·subst hw'
     refine dK.reblk hm fun l hρ hbk => ?_
     obtain ⟨har, fJ, _⟩ := hbk.arr _ rfl
     have har : cells = rows 0 get.get := har
     subst har
     exact ⟨hbk.n, hbk.tot, fun B hB => by obtain rfl := Option.some.inj hB; exact ⟨rfl, hw0, fun i hi => absurd hi (Nat.not_lt_zero _)⟩, hbk.cells⟩
    ·subst hw'
     exact Ev.rewritten dK _ (fun l' _ => hfl) hnn (fun _ _ _ => rfl) (Nat.le_refl _) rfl rfl rfl
  ·cases h
 ·cases h
end
def Specs.withE (S : Specs) (f : FuncId) (F : List AVal → Mem → Option (AVal × Nat × ABlk × Bool)) : Specs := fun g => bif Nat.beq g f then some (.eff F) else S g
theorem y4a {P : Program} {S : Specs} (hS : Zq P S) {f : FuncId} {F : List AVal → Mem → Option (AVal × Nat × ABlk × Bool)} (hf : (P.funcs[f]?).any (fun fn => fn.body.isSome) = true) (hF : y8w P f F) : Zq P (S.withE f F) := by
 intro g G hg
 unfold Specs.withE at hg
 cases hgf : Nat.beq g f with
 | false => rw [hgf] at hg; exact hS g G hg
 | true =>
  rw [hgf] at hg
  obtain rfl : Spec.eff F = G := Option.some.inj hg
  obtain rfl : g = f := Nat.eq_of_beq_eq_true hgf
  refine ⟨?_, hF⟩
  cases hfn : P.funcs[g]? with
  | none => rw [hfn] at hf; cases hf
  | some fn => rw [hfn] at hf; exact ⟨fn, rfl, hf⟩
end Go.Am
namespace Go.Proofs
open Go.Proofs.Tryz
open Go.Shelf
def Tryz.lays189_ren : Go.Shelf.Ren := ⟨fun | 189 => 119 | 125 => 142 | 257 => 141 | 128 => 164 | 129 => 165 | 294 => 155 | 295 => 156 | 296 => 157 | 297 => 158 | 298 => 159 | 299 => 160 | 216 => 161 | 300 => 162 | 301 => 163 | 328 => 175 | 329 => 176 | 330 => 177 | 331 => 178 | 332 => 179 | 215 => 180 | 343 => 190 | n => n, fun | 28 => 47 | 3 => 3 | 46 => 165 | 0 => 0 | 51 => 213 | 53 => 215 | 4 => 4 | 183 => 205 | 182 => 204 | 131 => 210 | 5 => 5 | 9 => 9 | 218 => 227 | 222 => 231 | 228 => 242 | 229 => 27 | n => n, fun | n => n⟩
theorem Tryz.lays189 : Go.Proofs.Lays.n189 prog Tryz.lays189_ren := {
 mixed := by kernel_rfl
 f125 := Tryz.func142.trans (congrArg some (by kernel_rfl))
 f128 := Tryz.func164.trans (congrArg some (by kernel_rfl))
 f129 := Tryz.func165.trans (congrArg some (by kernel_rfl))
 f189 := Tryz.func119.trans (congrArg some (by kernel_rfl))
 f215 := Tryz.func180.trans (congrArg some (by kernel_rfl))
 f216 := Tryz.func161.trans (congrArg some (by kernel_rfl))
 f257 := Tryz.func141.trans (congrArg some (by kernel_rfl))
 f294 := Tryz.func155.trans (congrArg some (by kernel_rfl))
 f295 := Tryz.func156.trans (congrArg some (by kernel_rfl))
 f296 := Tryz.func157.trans (congrArg some (by kernel_rfl))
 f297 := Tryz.func158.trans (congrArg some (by kernel_rfl))
 f298 := Tryz.func159.trans (congrArg some (by kernel_rfl))
 f299 := Tryz.func160.trans (congrArg some (by kernel_rfl))
 f300 := Tryz.func162.trans (congrArg some (by kernel_rfl))
 f301 := Tryz.func163.trans (congrArg some (by kernel_rfl))
 f328 := Tryz.func175.trans (congrArg some (by kernel_rfl))
 f329 := Tryz.func176.trans (congrArg some (by kernel_rfl))
 f330 := Tryz.func177.trans (congrArg some (by kernel_rfl))
 f331 := Tryz.func178.trans (congrArg some (by kernel_rfl))
 f332 := Tryz.func179.trans (congrArg some (by kernel_rfl))
 f343 := Tryz.func190.trans (congrArg some (by kernel_rfl))
 t0 := Tryz.underlying0
 a0 := Tryz.isAgg0
 z0 := Tryz.sizeOf0
 v0 := Tryz.zeroValue0
 t3 := Tryz.underlying3
 a3 := Tryz.isAgg3
 z3 := Tryz.sizeOf3
 v3 := Tryz.zeroValue3
 t4 := Tryz.underlying4
 a4 := Tryz.isAgg4
 z4 := Tryz.sizeOf4
 v4 := Tryz.zeroValue4
 t5 := Tryz.underlying5
 a5 := Tryz.isAgg5
 z5 := Tryz.sizeOf5
 v5 := Tryz.zeroValue5
 t9 := Tryz.underlying9
 a9 := Tryz.isAgg9
 z9 := Tryz.sizeOf9
 v9 := Tryz.zeroValue9
 t28 := Tryz.underlying47
 a28 := Tryz.isAgg47
 z28 := Tryz.sizeOf47
 v28 := Tryz.zeroValue47
 t46 := Tryz.underlying165
 a46 := Tryz.isAgg165
 z46 := Tryz.sizeOf165
 v46 := Tryz.zeroValue165
 t51 := Tryz.underlying213
 a51 := Tryz.isAgg213
 z51 := Tryz.sizeOf213
 v51 := Tryz.zeroValue213
 t53 := Tryz.underlying215
 a53 := Tryz.isAgg215
 z53 := Tryz.sizeOf215
 v53 := Tryz.zeroValue215
 t131 := Tryz.underlying210
 a131 := Tryz.isAgg210
 z131 := Tryz.sizeOf210
 v131 := Tryz.zeroValue210
 t182 := Tryz.underlying204
 a182 := Tryz.isAgg204
 z182 := Tryz.sizeOf204
 v182 := Tryz.zeroValue204
 t183 := Tryz.underlying205
 a183 := Tryz.isAgg205
 z183 := Tryz.sizeOf205
 v183 := Tryz.zeroValue205
 t218 := Tryz.underlying227
 a218 := Tryz.isAgg227
 z218 := Tryz.sizeOf227
 v218 := Tryz.zeroValue227
 t222 := Tryz.underlying231
 a222 := Tryz.isAgg231
 z222 := Tryz.sizeOf231
 v222 := Tryz.zeroValue231
 t228 := Tryz.underlying242
 a228 := Tryz.isAgg242
 z228 := Tryz.sizeOf242
 v228 := Tryz.zeroValue242
 t229 := Tryz.underlying27
 a229 := Tryz.isAgg27
 z229 := Tryz.sizeOf27
 v229 := Tryz.zeroValue27 }
open Go.Sort Go.RowKit in
theorem Tryz.slices_Sort_int (blk off cap : Nat) (zs : List Int) (w : World) (hH : Holds (Value.int .i64) w blk off zs.toArray) (eU : blk < w.heap.size) (hsz : zs.length < 4611686018427387904) :
  Calls prog 119 #[.slice (some ⟨blk, off, none⟩) zs.length cap] w fun e w' =>
   e = .returned (.tuple #[]) ∧ ∃ n os, w' = grow (putRow (Value.int .i64) (Sort.ahead w n) blk off (zs.mergeSort fun x y => decide (x ≤ y)).toArray) os := Any.slices_Sort_int Tryz.lays189 blk off cap zs w hH eU hsz
def Tryz.laysNm220_ren : Go.Shelf.Ren := ⟨fun | 20 => 120 | n => n, fun | 22 => 47 | 3 => 3 | 4 => 4 | 0 => 0 | n => n, fun | n => n⟩
theorem Tryz.laysNm220 : Go.Proofs.Lays2.n20 prog Tryz.laysNm220_ren := {
 mixed := by kernel_rfl
 f20 := Tryz.func120.trans (congrArg some (by kernel_rfl))
 t0 := Tryz.underlying0
 a0 := Tryz.isAgg0
 z0 := Tryz.sizeOf0
 v0 := Tryz.zeroValue0
 t3 := Tryz.underlying3
 a3 := Tryz.isAgg3
 z3 := Tryz.sizeOf3
 v3 := Tryz.zeroValue3
 t4 := Tryz.underlying4
 a4 := Tryz.isAgg4
 z4 := Tryz.sizeOf4
 v4 := Tryz.zeroValue4
 t22 := Tryz.underlying47
 a22 := Tryz.isAgg47
 z22 := Tryz.sizeOf47
 v22 := Tryz.zeroValue47
 i3 := by kernel_rfl }
open Go.RowKit Go.Lib Go.Sort in
theorem Tryz.slices_Compact_int (blk off cap : Nat) (zs : List Int) (w : World) (hH : Holds (Value.int .i64) w blk off zs.toArray) (hsz : zs.length ≤ 9223372036854775807) (dQ : zs.length ≤ cap) :
  Calls prog 120 #[.slice (some ⟨blk, off, none⟩) zs.length cap] w fun e w' => e = .returned (.slice (some ⟨blk, off, none⟩) (Lib.compact zs).length cap) ∧ ∃ q, w' = putRow (Value.int .i64) (Sort.ahead w q) blk off (Lib.compact zs ++ List.replicate (zs.length - (Lib.compact zs).length) 0).toArray := Any.slices_Compact_int Tryz.laysNm220 blk off cap zs w hH hsz dQ
open Go.RowKit Go.Lib Go.Sort in
theorem Tryz.slices_Compact_int_empty (a : Option Addr) (cap : Nat) (w : World) :
  Calls prog 120 #[.slice a 0 cap] w fun e w' => e = .returned (.slice a 0 cap) ∧ w' = w := Any.slices_Compact_int_empty Tryz.laysNm220 a cap w
open Go.RowKit Go.Sort in
theorem Tryz.slices_Sort_int_none (p : Option Addr) (cap : Nat) (w : World) :
  Calls prog 119 #[.slice p 0 cap] w fun e w' => e = .returned (.tuple #[]) ∧ w' = w := Any.slices_Sort_int_none Tryz.lays189 p cap w
def Tryz.sortEnd_ren : Go.Shelf.Ren := ⟨fun | 6 => 192 | 15 => 142 | 14 => 196 | 28 => 164 | 29 => 165 | 20 => 198 | 21 => 199 | 22 => 200 | 23 => 201 | 24 => 202 | 25 => 203 | 26 => 204 | 27 => 205 | 46 => 206 | 47 => 176 | 48 => 177 | 49 => 207 | 50 => 208 | 57 => 209 | n => n, fun | 22 => 245 | 24 => 240 | 25 => 247 | 3 => 3 | 39 => 165 | 0 => 0 | 53 => 213 | 55 => 215 | 4 => 4 | 46 => 205 | 45 => 204 | 50 => 210 | 5 => 5 | 9 => 9 | 66 => 227 | 70 => 231 | 76 => 242 | 77 => 27 | n => n, fun | n => n⟩
theorem Tryz.sortEnd : Go.Proofs.SlLaysF0.n6 prog Tryz.sortEnd_ren := {
 mixed := by kernel_rfl
 f6 := ⟨Tryz.f192.name, by decide, Tryz.func192.trans (congrArg some (by kernel_rfl))⟩
 f14 := ⟨Tryz.f196.name, by decide, Tryz.func196.trans (congrArg some (by kernel_rfl))⟩
 f15 := Tryz.func142.trans (congrArg some (by kernel_rfl))
 f20 := ⟨Tryz.f198.name, by decide, Tryz.func198.trans (congrArg some (by kernel_rfl))⟩
 f21 := ⟨Tryz.f199.name, by decide, Tryz.func199.trans (congrArg some (by kernel_rfl))⟩
 f22 := ⟨Tryz.f200.name, by decide, Tryz.func200.trans (congrArg some (by kernel_rfl))⟩
 f23 := ⟨Tryz.f201.name, by decide, Tryz.func201.trans (congrArg some (by kernel_rfl))⟩
 f24 := ⟨Tryz.f202.name, by decide, Tryz.func202.trans (congrArg some (by kernel_rfl))⟩
 f25 := ⟨Tryz.f203.name, by decide, Tryz.func203.trans (congrArg some (by kernel_rfl))⟩
 f26 := ⟨Tryz.f204.name, by decide, Tryz.func204.trans (congrArg some (by kernel_rfl))⟩
 f27 := ⟨Tryz.f205.name, by decide, Tryz.func205.trans (congrArg some (by kernel_rfl))⟩
 f28 := Tryz.func164.trans (congrArg some (by kernel_rfl))
 f29 := Tryz.func165.trans (congrArg some (by kernel_rfl))
 f46 := ⟨Tryz.f206.name, by decide, Tryz.func206.trans (congrArg some (by kernel_rfl))⟩
 f47 := Tryz.func176.trans (congrArg some (by kernel_rfl))
 f48 := Tryz.func177.trans (congrArg some (by kernel_rfl))
 f49 := ⟨Tryz.f207.name, by decide, Tryz.func207.trans (congrArg some (by kernel_rfl))⟩
 f50 := ⟨Tryz.f208.name, by decide, Tryz.func208.trans (congrArg some (by kernel_rfl))⟩
 f57 := ⟨Tryz.f209.name, by decide, Tryz.func209.trans (congrArg some (by kernel_rfl))⟩
 t0 := Tryz.underlying0
 a0 := Tryz.isAgg0
 z0 := Tryz.sizeOf0
 v0 := Tryz.zeroValue0
 t3 := Tryz.underlying3
 a3 := Tryz.isAgg3
 z3 := Tryz.sizeOf3
 v3 := Tryz.zeroValue3
 t4 := Tryz.underlying4
 a4 := Tryz.isAgg4
 z4 := Tryz.sizeOf4
 v4 := Tryz.zeroValue4
 t5 := Tryz.underlying5
 a5 := Tryz.isAgg5
 z5 := Tryz.sizeOf5
 v5 := Tryz.zeroValue5
 t9 := Tryz.underlying9
 a9 := Tryz.isAgg9
 z9 := Tryz.sizeOf9
 v9 := Tryz.zeroValue9
 t22 := Tryz.underlying245
 a22 := Tryz.isAgg245
 z22 := Tryz.sizeOf245
 v22 := Tryz.zeroValue245
 t25 := Tryz.underlying247
 a25 := Tryz.isAgg247
 z25 := Tryz.sizeOf247
 v25 := Tryz.zeroValue247
 t39 := Tryz.underlying165
 a39 := Tryz.isAgg165
 z39 := Tryz.sizeOf165
 v39 := Tryz.zeroValue165
 t45 := Tryz.underlying204
 a45 := Tryz.isAgg204
 z45 := Tryz.sizeOf204
 v45 := Tryz.zeroValue204
 t46 := Tryz.underlying205
 a46 := Tryz.isAgg205
 z46 := Tryz.sizeOf205
 v46 := Tryz.zeroValue205
 t50 := Tryz.underlying210
 a50 := Tryz.isAgg210
 z50 := Tryz.sizeOf210
 v50 := Tryz.zeroValue210
 t53 := Tryz.underlying213
 a53 := Tryz.isAgg213
 z53 := Tryz.sizeOf213
 v53 := Tryz.zeroValue213
 t55 := Tryz.underlying215
 a55 := Tryz.isAgg215
 z55 := Tryz.sizeOf215
 v55 := Tryz.zeroValue215
 t66 := Tryz.underlying227
 a66 := Tryz.isAgg227
 z66 := Tryz.sizeOf227
 v66 := Tryz.zeroValue227
 t70 := Tryz.underlying231
 a70 := Tryz.isAgg231
 z70 := Tryz.sizeOf231
 v70 := Tryz.zeroValue231
 t76 := Tryz.underlying242
 a76 := Tryz.isAgg242
 z76 := Tryz.sizeOf242
 v76 := Tryz.zeroValue242
 t77 := Tryz.underlying27
 a77 := Tryz.isAgg27
 z77 := Tryz.sizeOf27
 v77 := Tryz.zeroValue27 }
end Go.Proofs
namespace Go.Proofs
open Go.Proofs.Tryz
open Go.Shelf Go.RowKit Go.Lib Go.Sort
theorem Tryz.cmpEnd (a b c a' b' c' : Int) (h : -1000000000 ≤ a ∧ a ≤ 1000000000) (h' : -1000000000 ≤ a' ∧ a' ≤ 1000000000) (W : World) :
  Calls prog 193 #[.agg #[.int .i64 a, .int .i64 b, .int .i64 c], .agg #[.int .i64 a', .int .i64 b', .int .i64 c']] W fun e w' => e = .returned (.int .i64 (a - a')) ∧ ∃ q os', w' = grow (W.drewN q) os' := by
 go_enter Tryz.func193, Tryz.ntmps193
 go_wp2
 go_ret
 exact ⟨rfl, 0, _, by rw [alloc_eq_grow, alloc_eq_grow, grow_grow]; rfl⟩
end Go.Proofs
namespace Go.Am
open Go.Proofs.Tryz
open Go.Proofs
inductive rjsS where
 | h0 (v9 : List R6) (v10 : List R4) (v11 : Int) (v12 : Int)
 | h1 (v9 : List R6) (v10 : List R4) (v11 : Int) (v12 : Int) (v13 : List R4) (v15 : Int)
 | h2 (v9 : List R6) (v10 : List R4) (v11 : Int) (v12 : Int) (v14 : Int)
def rjsC (x0 : Int) (l1 : List R6) (l2 : List R6) : rjsS → Cfg
 | .h0 v9 v10 v11 v12 => ⟨⟨137, 0, true⟩, none, (Zb prog 79 [1, 1, 1, 1, 1, 0, 1, 0, 0] 0), none, (Zy prog 23), ⟨Ym [(0, (ii x0)), (1, (.dat l1.length (Zz l1))), (2, (.dat l2.length (Zz l2))), (8, (.dat (Yi (cvT l1) (cvT l2)).length (Zz (Yi (cvT l1) (cvT l2))))), (9, (.sla 0 6 0 v9.length (.un 6))), (10, (.dat v10.length (Zz v10))), (11, (ii v11)), (12, (ii v12))], Uc [⟨rows v9.length (Zz v9), 68, some ⟨6, v9.length, (Zz v9)⟩⟩] 0, 1, [], true⟩, [], .leaf⟩
 | .h1 v9 v10 v11 v12 v13 v15 => ⟨⟨137, 0, true⟩, none, (Zb prog 79 [1, 1, 1, 1, 1, 0, 1, 0, 0, 1, 0, 0, 1, 1, 1, 1, 1, 0, 0] 0), none, (Zy prog 23), ⟨Ym [(0, (ii x0)), (1, (.dat l1.length (Zz l1))), (2, (.dat l2.length (Zz l2))), (8, (.dat (Yi (cvT l1) (cvT l2)).length (Zz (Yi (cvT l1) (cvT l2))))), (9, (.sla 0 6 0 v9.length (.un 6))), (10, (.dat v10.length (Zz v10))), (11, (ii v11)), (12, (ii v12)), (13, (.dat v13.length (Zz v13))), (15, (ii v15))], Uc [⟨rows v9.length (Zz v9), 68, some ⟨6, v9.length, (Zz v9)⟩⟩] 0, 1, [], true⟩, [], .leaf⟩
 | .h2 v9 v10 v11 v12 v14 => ⟨⟨137, 0, true⟩, none, (Zb prog 79 [1, 1, 1, 1, 1, 0, 1, 0, 0, 1, 0, 0, 1, 1, 0, 1, 0, 0, 1, 0, 0] 0), none, (Zy prog 23), ⟨Ym [(0, (ii x0)), (1, (.dat l1.length (Zz l1))), (2, (.dat l2.length (Zz l2))), (8, (.dat (Yi (cvT l1) (cvT l2)).length (Zz (Yi (cvT l1) (cvT l2))))), (9, (.sla 0 6 0 v9.length (.un 6))), (10, (.dat v10.length (Zz v10))), (11, (ii v11)), (12, (ii v12)), (14, (ii v14))], Uc [⟨rows v9.length (Zz v9), 68, some ⟨6, v9.length, (Zz v9)⟩⟩] 0, 1, [], true⟩, [], .leaf⟩
def v4p : List (Option (List Nat)) := [some [0, 1, 2, 8, 9, 10, 11, 12]]
def v4r : List (Option (List Nat)) := []
def v4o : List (Option (List Nat)) := [some [0, 1, 2, 8, 9, 10, 11, 12, 13, 15]]
def v4q : List (Option (List Nat)) := []
def rjsN2 : List (Option (List Nat)) := [some [0, 1, 2, 8, 9, 10, 11, 12, 14]]
def rjsM2 : List (Option (List Nat)) := []
def Vj (x0 : Int) (l1 : List R6) (l2 : List R6) : rjsS → Wa rjsS
 | .h0 v9 v10 v11 v12 => (bif (decide ((IntKind.wrap .i64 (v12 + 1)) < (((Yi (cvT l1) (cvT l2)).length : Nat) : Int))) then (bif (z3i (cvT l1) (rd (Yi (cvT l1) (cvT l2)) v12.toNat)) then (bif ((decide (0 ≤ v12 ∧ v12 < (((Yi (cvT l1) (cvT l2)).length : Nat) : Int))) && true) then (bif (z3i (cvT l2) (rd (Yi (cvT l1) (cvT l2)) v12.toNat)) then (bif (Qf x0 (cvT (atV (cvT l1) (rd (Yi (cvT l1) (cvT l2)) v12.toNat))) (cvT (atV (cvT l2) (rd (Yi (cvT l1) (cvT l2)) v12.toNat)))) then (bif (decide ((((joV x0 (cvT (atV (cvT l1) (rd (Yi (cvT l1) (cvT l2)) v12.toNat))) (cvT (atV (cvT l2) (rd (Yi (cvT l1) (cvT l2)) v12.toNat)))).length : Nat) : Int) > 400)) then (.ret [.nils, (.bool false)]) else (bif (Qf 2 (cvT (atV (cvT l1) (rd (Yi (cvT l1) (cvT l2)) v12.toNat))) ([] : List R4)) then (bif (decide ((((joV 2 (cvT (atV (cvT l1) (rd (Yi (cvT l1) (cvT l2)) v12.toNat))) ([] : List R4)).length : Nat) : Int) > 400)) then (.ret [.nils, (.bool false)]) else (bif (Qf 2 (cvT (atV (cvT l2) (rd (Yi (cvT l1) (cvT l2)) v12.toNat))) ([] : List R4)) then (bif (decide ((((joV 2 (cvT (atV (cvT l2) (rd (Yi (cvT l1) (cvT l2)) v12.toNat))) ([] : List R4)).length : Nat) : Int) > 400)) then (.ret [.nils, (.bool false)]) else (bif (decide (v12 > 0)) then (bif (Wk (cvT (joV x0 (cvT (atV (cvT l1) (rd (Yi (cvT l1) (cvT l2)) v12.toNat))) (cvT (atV (cvT l2) (rd (Yi (cvT l1) (cvT l2)) v12.toNat))))) (cvT v10)) then (bif (Uy (cvT (joV x0 (cvT (atV (cvT l1) (rd (Yi (cvT l1) (cvT l2)) v12.toNat))) (cvT (atV (cvT l2) (rd (Yi (cvT l1) (cvT l2)) v12.toNat))))) (cvT v10)) then (.to (.h2 v9 v10 v11 v12 v11)) else (.to (.h1 v9 (joV x0 (cvT (atV (cvT l1) (rd (Yi (cvT l1) (cvT l2)) v12.toNat))) (cvT (atV (cvT l2) (rd (Yi (cvT l1) (cvT l2)) v12.toNat)))) (v9.length : Int) v12 (joV x0 (cvT (atV (cvT l1) (rd (Yi (cvT l1) (cvT l2)) v12.toNat))) (cvT (atV (cvT l2) (rd (Yi (cvT l1) (cvT l2)) v12.toNat)))) 0))) else .stuck) else (.to (.h1 v9 (joV x0 (cvT (atV (cvT l1) (rd (Yi (cvT l1) (cvT l2)) v12.toNat))) (cvT (atV (cvT l2) (rd (Yi (cvT l1) (cvT l2)) v12.toNat)))) (v9.length : Int) v12 (joV x0 (cvT (atV (cvT l1) (rd (Yi (cvT l1) (cvT l2)) v12.toNat))) (cvT (atV (cvT l2) (rd (Yi (cvT l1) (cvT l2)) v12.toNat)))) 0)))) else .stuck)) else .stuck)) else .stuck) else .stuck) else .stuck) else .stuck) else (.ret [(.dat v9.length (Zz v9)), (.bool (decide ((v9.length : Int) ≤ 400)))]))
 | .h1 v9 v10 v11 v12 v13 v15 => (bif (decide (v15 < (v13.length : Int))) then (bif ((decide (0 ≤ v12 ∧ v12 < (((Yi (cvT l1) (cvT l2)).length : Nat) : Int))) && true) then (bif ((decide (0 ≤ v15 ∧ v15 < (v13.length : Int))) && true) then (bif ((decide (0 ≤ (IntKind.wrap .i64 (v12 + 1)) ∧ (IntKind.wrap .i64 (v12 + 1)) < (((Yi (cvT l1) (cvT l2)).length : Nat) : Int))) && true) then (bif (Nat.beq 6 6 && ((decide (0 + v9.length = v9.length)) && decide ((v9.length + 1 + 1) * (48 + 1) ≤ Jy))) then (.to (.h1 (v9 ++ [(R6.mk (rd v13 v15.toNat).a (rd v13 v15.toNat).b (rd (Yi (cvT l1) (cvT l2)) v12.toNat) (rd v13 v15.toNat).c (rd v13 v15.toNat).d (rd (Yi (cvT l1) (cvT l2)) (Int.toNat (IntKind.wrap .i64 (v12 + 1)))))]) v10 v11 v12 v13 (IntKind.wrap .i64 (v15 + 1)))) else .stuck) else .stuck) else .stuck) else .stuck) else (.to (.h0 v9 v10 v11 (IntKind.wrap .i64 (v12 + 1)))))
 | .h2 v9 v10 v11 v12 v14 => (bif (decide (v14 < (v9.length : Int))) then (bif ((decide (0 ≤ (IntKind.wrap .i64 (v12 + 1)) ∧ (IntKind.wrap .i64 (v12 + 1)) < (((Yi (cvT l1) (cvT l2)).length : Nat) : Int))) && true) then (bif ((decide (0 ≤ v14 ∧ v14 < (v9.length : Int))) && true) then (bif (decide ((0 + v14.toNat) < v9.length)) then (.to (.h2 (v9.set (0 + v14.toNat) (R6.mk (rd v9 (0 + v14.toNat)).a (rd v9 (0 + v14.toNat)).b (rd v9 (0 + v14.toNat)).c (rd v9 (0 + v14.toNat)).d (rd v9 (0 + v14.toNat)).e (rd (Yi (cvT l1) (cvT l2)) (Int.toNat (IntKind.wrap .i64 (v12 + 1)))))) v10 v11 v12 (IntKind.wrap .i64 (v14 + 1)))) else .stuck) else .stuck) else .stuck) else (.to (.h0 v9 v10 v11 (IntKind.wrap .i64 (v12 + 1)))))
def z8t (x0 : Int) (l1 : List R6) (l2 : List R6) : Wa rjsS := (bif (z5x (cvT l1) (cvT l2)) then (.to (.h0 ([] : List R6) ([] : List R4) 0 0)) else .stuck)
theorem x6a (x0 : Int) (l1 : List R6) (l2 : List R6) : ∀ s, Wb prog (Zy prog 79) (rjsC x0 l1 l2) (rjsC x0 l1 l2 s) (Vj x0 l1 l2 s)
 | .h0 v9 v10 v11 v12 => (lb (fun k0 => (lo fun aG => (lo fun aW => (lo fun bM => (lo fun cI => (lb (fun k1 => (lr 137 79 [1, 1, 1, 1, 1, 0, 1, 0, 0, 1, 0, 0, 1, 0, 1, 0, 0] 1 23 [(6, .nils), (7, (.bool false))] (sl z7e 50 [] ⟨[], [], [some [6, 7]], []⟩ ⟨[], [], []⟩ (trs 20 []) (tt k1 (pp (pp (xI R4 (atV (cvT l1) (rd (Yi (cvT l1) (cvT l2)) (tn v12))).length (Zz (atV (cvT l1) (rd (Yi (cvT l1) (cvT l2)) (tn v12))))) (pp (xI R4 (atV (cvT l2) (rd (Yi (cvT l1) (cvT l2)) (tn v12))).length (Zz (atV (cvT l2) (rd (Yi (cvT l1) (cvT l2)) (tn v12))))) (xw cI))) (pp (pp (xr l2) (xw bM)) (ww aW (pp (pp (xr l1) (xw aG)) (ww aW (tt k0 nn)))))))))) (fun k1 => (lo fun cU => (lb (fun k2 => (lr 137 79 [1, 1, 1, 1, 1, 0, 1, 0, 0, 1, 0, 0, 1, 0, 1, 0, 0] 1 23 [(6, .nils), (7, (.bool false))] (sl z7e 50 [] ⟨[], [], [some [6, 7]], []⟩ ⟨[], [], []⟩ [true, false, false, false, false, false, false, false, false, false, true, true, true, true, true, true, true, true, true, true] (tt k2 (pp (pp (xI R4 (atV (cvT l1) (rd (Yi (cvT l1) (cvT l2)) (tn v12))).length (Zz (atV (cvT l1) (rd (Yi (cvT l1) (cvT l2)) (tn v12))))) (pp (xI R4 0 (fun _ => [])) (xw cU))) (pp (pp (xr l1) (xw aG)) (ww aW (tt k1 (pp (pp (xI R4 (atV (cvT l1) (rd (Yi (cvT l1) (cvT l2)) (tn v12))).length (Zz (atV (cvT l1) (rd (Yi (cvT l1) (cvT l2)) (tn v12))))) (pp (xI R4 (atV (cvT l2) (rd (Yi (cvT l1) (cvT l2)) (tn v12))).length (Zz (atV (cvT l2) (rd (Yi (cvT l1) (cvT l2)) (tn v12))))) (xw cI))) (pp (pp (xr l2) (xw bM)) (ww aW (pp (pp (xr l1) (xw aG)) (ww aW (tt k0 nn)))))))))))))) (fun k2 => (lo fun cS => (lb (fun k3 => (lr 137 79 [1, 1, 1, 1, 1, 0, 1, 0, 0, 1, 0, 0, 1, 0, 1, 0, 0] 1 23 [(6, .nils), (7, (.bool false))] (sl z7e 50 [] ⟨[], [], [some [6, 7]], []⟩ ⟨[], [], []⟩ [true, false, false, false, false, false, false, false, false, false, false, false, false, false, false, false, false, false, false, true] (tt k3 (pp (pp (xI R4 (atV (cvT l2) (rd (Yi (cvT l1) (cvT l2)) (tn v12))).length (Zz (atV (cvT l2) (rd (Yi (cvT l1) (cvT l2)) (tn v12))))) (pp (xI R4 0 (fun _ => [])) (xw cS))) (pp (pp (xr l2) (xw bM)) (ww aW (tt k2 (pp (pp (xI R4 (atV (cvT l1) (rd (Yi (cvT l1) (cvT l2)) (tn v12))).length (Zz (atV (cvT l1) (rd (Yi (cvT l1) (cvT l2)) (tn v12))))) (pp (xI R4 0 (fun _ => [])) (xw cU))) (pp (pp (xr l1) (xw aG)) (ww aW (tt k1 (pp (pp (xI R4 (atV (cvT l1) (rd (Yi (cvT l1) (cvT l2)) (tn v12))).length (Zz (atV (cvT l1) (rd (Yi (cvT l1) (cvT l2)) (tn v12))))) (pp (xI R4 (atV (cvT l2) (rd (Yi (cvT l1) (cvT l2)) (tn v12))).length (Zz (atV (cvT l2) (rd (Yi (cvT l1) (cvT l2)) (tn v12))))) (xw cI))) (pp (pp (xr l2) (xw bM)) (ww aW (pp (pp (xr l1) (xw aG)) (ww aW (tt k0 nn)))))))))))))))))) (fun k3 => (lb (fun k4 => (lo fun dF => (lb (fun k5 => (sl z7e 66 [] ⟨[0], [], rjsN2, rjsM2⟩ ⟨[], [], []⟩ [true, false, false, false, false, false, false, false, false, false, false, false, false, false, false, false, false, false, false, false, true, true, true, true] (pp (fl v9 nn) (tt k5 (pp (pp (xI R4 (joV x0 (cvT (atV (cvT l1) (rd (Yi (cvT l1) (cvT l2)) (tn v12)))) (cvT (atV (cvT l2) (rd (Yi (cvT l1) (cvT l2)) (tn v12))))).length (Zz (joV x0 (cvT (atV (cvT l1) (rd (Yi (cvT l1) (cvT l2)) (tn v12)))) (cvT (atV (cvT l2) (rd (Yi (cvT l1) (cvT l2)) (tn v12))))))) (pp (xr v10) (xw dF))) (tt k4 (tt k3 (pp (pp (xI R4 (atV (cvT l2) (rd (Yi (cvT l1) (cvT l2)) (tn v12))).length (Zz (atV (cvT l2) (rd (Yi (cvT l1) (cvT l2)) (tn v12))))) (pp (xI R4 0 (fun _ => [])) (xw cS))) (pp (pp (xr l2) (xw bM)) (ww aW (tt k2 (pp (pp (xI R4 (atV (cvT l1) (rd (Yi (cvT l1) (cvT l2)) (tn v12))).length (Zz (atV (cvT l1) (rd (Yi (cvT l1) (cvT l2)) (tn v12))))) (pp (xI R4 0 (fun _ => [])) (xw cU))) (pp (pp (xr l1) (xw aG)) (ww aW (tt k1 (pp (pp (xI R4 (atV (cvT l1) (rd (Yi (cvT l1) (cvT l2)) (tn v12))).length (Zz (atV (cvT l1) (rd (Yi (cvT l1) (cvT l2)) (tn v12))))) (pp (xI R4 (atV (cvT l2) (rd (Yi (cvT l1) (cvT l2)) (tn v12))).length (Zz (atV (cvT l2) (rd (Yi (cvT l1) (cvT l2)) (tn v12))))) (xw cI))) (pp (pp (xr l2) (xw bM)) (ww aW (pp (pp (xr l1) (xw aG)) (ww aW (tt k0 nn))))))))))))))))))))) (fun k5 => (sl z7e 73 [] ⟨[0], [], v4o, v4q⟩ ⟨[], [], []⟩ [true, false, false, false, false, false, false, false, false, false, false, false, false, false, false, false, false, false, false, false, true, true, true, false] (pp (fl v9 nn) (tt k5 (pp (pp (xI R4 (joV x0 (cvT (atV (cvT l1) (rd (Yi (cvT l1) (cvT l2)) (tn v12)))) (cvT (atV (cvT l2) (rd (Yi (cvT l1) (cvT l2)) (tn v12))))).length (Zz (joV x0 (cvT (atV (cvT l1) (rd (Yi (cvT l1) (cvT l2)) (tn v12)))) (cvT (atV (cvT l2) (rd (Yi (cvT l1) (cvT l2)) (tn v12))))))) (pp (xr v10) (xw dF))) (tt k4 (tt k3 (pp (pp (xI R4 (atV (cvT l2) (rd (Yi (cvT l1) (cvT l2)) (tn v12))).length (Zz (atV (cvT l2) (rd (Yi (cvT l1) (cvT l2)) (tn v12))))) (pp (xI R4 0 (fun _ => [])) (xw cS))) (pp (pp (xr l2) (xw bM)) (ww aW (tt k2 (pp (pp (xI R4 (atV (cvT l1) (rd (Yi (cvT l1) (cvT l2)) (tn v12))).length (Zz (atV (cvT l1) (rd (Yi (cvT l1) (cvT l2)) (tn v12))))) (pp (xI R4 0 (fun _ => [])) (xw cU))) (pp (pp (xr l1) (xw aG)) (ww aW (tt k1 (pp (pp (xI R4 (atV (cvT l1) (rd (Yi (cvT l1) (cvT l2)) (tn v12))).length (Zz (atV (cvT l1) (rd (Yi (cvT l1) (cvT l2)) (tn v12))))) (pp (xI R4 (atV (cvT l2) (rd (Yi (cvT l1) (cvT l2)) (tn v12))).length (Zz (atV (cvT l2) (rd (Yi (cvT l1) (cvT l2)) (tn v12))))) (xw cI))) (pp (pp (xr l2) (xw bM)) (ww aW (pp (pp (xr l1) (xw aG)) (ww aW (tt k0 nn)))))))))))))))))))))))) (fun k4 => (sl z7e 73 [] ⟨[0], [], v4o, v4q⟩ ⟨[], [], []⟩ [true, false, false, false, false, false, false, false, false, false, false, false, false, false, false, false, false, false, false, false, false, false, false, false] (pp (fl v9 nn) (tt k4 (tt k3 (pp (pp (xI R4 (atV (cvT l2) (rd (Yi (cvT l1) (cvT l2)) (tn v12))).length (Zz (atV (cvT l2) (rd (Yi (cvT l1) (cvT l2)) (tn v12))))) (pp (xI R4 0 (fun _ => [])) (xw cS))) (pp (pp (xr l2) (xw bM)) (ww aW (tt k2 (pp (pp (xI R4 (atV (cvT l1) (rd (Yi (cvT l1) (cvT l2)) (tn v12))).length (Zz (atV (cvT l1) (rd (Yi (cvT l1) (cvT l2)) (tn v12))))) (pp (xI R4 0 (fun _ => [])) (xw cU))) (pp (pp (xr l1) (xw aG)) (ww aW (tt k1 (pp (pp (xI R4 (atV (cvT l1) (rd (Yi (cvT l1) (cvT l2)) (tn v12))).length (Zz (atV (cvT l1) (rd (Yi (cvT l1) (cvT l2)) (tn v12))))) (pp (xI R4 (atV (cvT l2) (rd (Yi (cvT l1) (cvT l2)) (tn v12))).length (Zz (atV (cvT l2) (rd (Yi (cvT l1) (cvT l2)) (tn v12))))) (xw cI))) (pp (pp (xr l2) (xw bM)) (ww aW (pp (pp (xr l1) (xw aG)) (ww aW (tt k0 nn))))))))))))))))))))))))))))))))) (fun k0 => (lr 137 3 [1, 1, 1, 1, 1, 1, 0] 1 23 [(6, (.dat v9.length (Zz v9))), (7, (.bool (decide ((v9.length : Int) ≤ 400))))] (sl z7e 20 [] ⟨[], [0], [some [6, 7]], []⟩ ⟨[(6, .frz v9.length v9.length (Zz v9) (Zz v9))], [], []⟩ [false] (pp (xZ (z3m 6 6 0 v9.length v9.length (Zz v9)) v9.length (Zz v9)) (pp (xL v9.length v9.length) (pp (xS v9.length (Zz v9) (Zz v9)) (pp (fl v9 nn) (tt k0 nn)))))))))
 | .h1 v9 v10 v11 v12 v13 v15 => (lb (fun k0 => (lo fun o0 => (lo fun o1 => (lo fun o2 => (lo fun o3 => (sl z7e 20 [] ⟨[2], [], v4o, v4q⟩ ⟨[(9, .len (v9 ++ [(R6.mk (rd v13 (tn v15)).a (rd v13 (tn v15)).b (rd (Yi (cvT l1) (cvT l2)) (tn v12)) (rd v13 (tn v15)).c (rd v13 (tn v15)).d (rd (Yi (cvT l1) (cvT l2)) (tn (wr (v12 + 1)))))]).length)], [.rowed 6 (v9 ++ [(R6.mk (rd v13 (tn v15)).a (rd v13 (tn v15)).b (rd (Yi (cvT l1) (cvT l2)) (tn v12)) (rd v13 (tn v15)).c (rd v13 (tn v15)).d (rd (Yi (cvT l1) (cvT l2)) (tn (wr (v12 + 1)))))]).length (Zz (v9 ++ [(R6.mk (rd v13 (tn v15)).a (rd v13 (tn v15)).b (rd (Yi (cvT l1) (cvT l2)) (tn v12)) (rd v13 (tn v15)).c (rd v13 (tn v15)).d (rd (Yi (cvT l1) (cvT l2)) (tn (wr (v12 + 1)))))]))], []⟩ [true] (pp (xL (v9.length + 1) (v9 ++ [(R6.mk (rd v13 (tn v15)).a (rd v13 (tn v15)).b (rd (Yi (cvT l1) (cvT l2)) (tn v12)) (rd v13 (tn v15)).c (rd v13 (tn v15)).d (rd (Yi (cvT l1) (cvT l2)) (tn (wr (v12 + 1)))))]).length) (pp (xL (v9.length + 1) (v9 ++ [(R6.mk (rd v13 (tn v15)).a (rd v13 (tn v15)).b (rd (Yi (cvT l1) (cvT l2)) (tn v12)) (rd v13 (tn v15)).c (rd v13 (tn v15)).d (rd (Yi (cvT l1) (cvT l2)) (tn (wr (v12 + 1)))))]).length) (pp (xS (v9.length + 1) (Zc (Zz v9) 0 v9.length 6 [(ii (rd v13 (tn v15)).a), (ii (rd v13 (tn v15)).b), (ii (rd (Yi (cvT l1) (cvT l2)) (tn v12))), (ii (rd v13 (tn v15)).c), (ii (rd v13 (tn v15)).d), (ii (rd (Yi (cvT l1) (cvT l2)) (tn (wr (v12 + 1)))))]) (Zz (v9 ++ [(R6.mk (rd v13 (tn v15)).a (rd v13 (tn v15)).b (rd (Yi (cvT l1) (cvT l2)) (tn v12)) (rd v13 (tn v15)).c (rd v13 (tn v15)).d (rd (Yi (cvT l1) (cvT l2)) (tn (wr (v12 + 1)))))]))) (pp (pp (xF (Zc (Zz v9) 0 v9.length 6 [(ii (rd v13 (tn v15)).a), (ii (rd v13 (tn v15)).b), (ii (rd (Yi (cvT l1) (cvT l2)) (tn v12))), (ii (rd v13 (tn v15)).c), (ii (rd v13 (tn v15)).d), (ii (rd (Yi (cvT l1) (cvT l2)) (tn (wr (v12 + 1)))))])) nn) (ww o3 (ww o2 (ww o1 (ww o1 (ww o0 (ww o1 (ww o1 (tt k0 nn)))))))))))))))))) (fun k0 => (sl z7e 17 [] ⟨[0], [], v4p, v4r⟩ ⟨[], [], []⟩ [false] (pp (fl v9 nn) (tt k0 nn)))))
 | .h2 v9 v10 v11 v12 v14 => (lb (fun k0 => (lo fun o0 => (lo fun o1 => (lo fun o2 => (sl z7e 32 [] ⟨[0], [], rjsN2, rjsM2⟩ ⟨[(9, .len (v9.set (0 + (tn v14)) (R6.mk (rd v9 (0 + (tn v14))).a (rd v9 (0 + (tn v14))).b (rd v9 (0 + (tn v14))).c (rd v9 (0 + (tn v14))).d (rd v9 (0 + (tn v14))).e (rd (Yi (cvT l1) (cvT l2)) (tn (wr (v12 + 1)))))).length)], [.rowed 6 (v9.set (0 + (tn v14)) (R6.mk (rd v9 (0 + (tn v14))).a (rd v9 (0 + (tn v14))).b (rd v9 (0 + (tn v14))).c (rd v9 (0 + (tn v14))).d (rd v9 (0 + (tn v14))).e (rd (Yi (cvT l1) (cvT l2)) (tn (wr (v12 + 1)))))).length (Zz (v9.set (0 + (tn v14)) (R6.mk (rd v9 (0 + (tn v14))).a (rd v9 (0 + (tn v14))).b (rd v9 (0 + (tn v14))).c (rd v9 (0 + (tn v14))).d (rd v9 (0 + (tn v14))).e (rd (Yi (cvT l1) (cvT l2)) (tn (wr (v12 + 1)))))))], []⟩ [true] (pp (xL v9.length (v9.set (0 + (tn v14)) (R6.mk (rd v9 (0 + (tn v14))).a (rd v9 (0 + (tn v14))).b (rd v9 (0 + (tn v14))).c (rd v9 (0 + (tn v14))).d (rd v9 (0 + (tn v14))).e (rd (Yi (cvT l1) (cvT l2)) (tn (wr (v12 + 1)))))).length) (pp (xL v9.length (v9.set (0 + (tn v14)) (R6.mk (rd v9 (0 + (tn v14))).a (rd v9 (0 + (tn v14))).b (rd v9 (0 + (tn v14))).c (rd v9 (0 + (tn v14))).d (rd v9 (0 + (tn v14))).e (rd (Yi (cvT l1) (cvT l2)) (tn (wr (v12 + 1)))))).length) (pp (xS v9.length (Xg (Zz v9) (0 + (tn v14)) 5 [(ii (rd (Yi (cvT l1) (cvT l2)) (tn (wr (v12 + 1)))))]) (Zz (v9.set (0 + (tn v14)) (R6.mk (rd v9 (0 + (tn v14))).a (rd v9 (0 + (tn v14))).b (rd v9 (0 + (tn v14))).c (rd v9 (0 + (tn v14))).d (rd v9 (0 + (tn v14))).e (rd (Yi (cvT l1) (cvT l2)) (tn (wr (v12 + 1)))))))) (pp (pp (xF (Xg (Zz v9) (0 + (tn v14)) 5 [(ii (rd (Yi (cvT l1) (cvT l2)) (tn (wr (v12 + 1)))))])) nn) (ww o2 (ww o1 (ww o0 (tt k0 nn))))))))))))) (fun k0 => (sl z7e 17 [] ⟨[0], [], v4p, v4r⟩ ⟨[], [], []⟩ [false] (pp (fl v9 nn) (tt k0 nn)))))
theorem y9z (x0 : Int) (l1 : List R6) (l2 : List R6) : Wb prog (Zy prog 79) (rjsC x0 l1 l2) (Zi prog 79 [(.int .i64 x0), (.dat l1.length (Zz l1)), (.dat l2.length (Zz l2))] true []) (z8t x0 l1 l2) := (lo fun o0 => (sl z7e 31 [(68, 6, Zz ([] : List R6))] ⟨[0], [], v4p, v4r⟩ ⟨[(9, .grow 0 6), (10, .list 0 (Zz ([] : List R4)))], [], []⟩ [] (pp (fl ([] : List R6) nn) (pp (pp (xr l1) (pp (xr l2) (xw o0))) nn))))
theorem w5u (x0 : Int) (l1 : List R6) (l2 : List R6) (n : Nat) (vs : List AVal) (h : Yb (Vj x0 l1 l2) n (z8t x0 l1 l2) = .ret vs) : Qx prog (Zy prog 79) (Zi prog 79 [(.int .i64 x0), (.dat l1.length (Zz l1)), (.dat l2.length (Zz l2))] true []) vs := by
 have := Zt (x6a x0 l1 l2) n _ (y9z x0 l1 l2)
 rwa [h] at this
end Go.Am
namespace Go.Am
open Go.Proofs.Tryz
open Go.Proofs
theorem Jg (l m : List R6) : (Yi l m).length ≤ 2 * l.length + 2 * m.length := by
 refine Nat.le_trans (z3w _) ?_
 rw [List.length_append, Qp, Qp]; omega
theorem z0u (l : List R6) (z : Int) : (atV l z).length ≤ l.length := by
 unfold atV
 rw [List.length_map]
 exact List.length_filter_le _ _
def w4o (out : List R6) (first : Nat) (z : Int) : List R6 := out.take first ++ (out.drop first).map fun r => ⟨r.a, r.b, r.c, r.d, r.e, z⟩
def v5j (z z' : Int) (s : List R4) : List R6 := s.map fun p => ⟨p.a, p.b, z, p.c, p.d, z'⟩
section
variable (kind : Int) (l m : List R6)
def z4n (z : Int) : List R4 := joV kind (atV l z) (atV m z)
def z1g (z : Int) : Bool := decide (400 < (z4n kind l m z).length) || (decide (400 < (joV 2 (atV l z) []).length) || decide (400 < (joV 2 (atV m z) []).length))
def jsF : Nat → Nat → List R6 → List R4 → Nat → Option (List R6)
 | 0, _, out, _, _ => some out
 | k + 1, i, out, last, first =>
  bif z1g kind l m (rd (Yi l m) i) then none
  else bif decide (0 < i) && Uy (z4n kind l m (rd (Yi l m) i)) last then jsF k (i + 1) (w4o out first (rd (Yi l m) (i + 1))) last first
  else jsF k (i + 1) (out ++ v5j (rd (Yi l m) i) (rd (Yi l m) (i + 1)) (z4n kind l m (rd (Yi l m) i))) (z4n kind l m (rd (Yi l m) i)) out.length
def jsO : Option (List R6) := jsF kind l m ((Yi l m).length - 1) 0 [] [] 0
def x1d : Option (List R6) → List AVal
 | none => [.nils, .bool false]
 | some out => [.dat out.length (Zz out), .bool (decide ((out.length : Int) ≤ 400))]
def Vt : List R6 := (jsO kind l m).getD []
def Vs : Bool := match jsO kind l m with
 | none => false
 | some out => decide ((out.length : Int) ≤ 400)
end
def Kq (_ : Int) (l m : List R6) : Bool := decide (l.length ≤ 5000 ∧ m.length ≤ 5000)
section
variable (kind : Int) (l m : List R6) (hl : l.length ≤ 5000) (hm : m.length ≤ 5000)
include hl hm
theorem v0i (last : List R4) (first : Int) (i : Nat) (hi : i + 1 < (Yi l m).length) (s : List R4) (hs : s.length ≤ 1000000) : ∀ (k j : Nat) (out : List R6), j + k = s.length → out.length ≤ 10000000000 + j →
  ∃ n, ∀ N, Yb (Vj kind l m) (N + n) (.to (.h1 out last first (i : Int) s (j : Int))) = Yb (Vj kind l m) N (.to (.h0 (out ++ v5j (rd (Yi l m) i) (rd (Yi l m) (i + 1)) (s.drop j)) last first ((i + 1 : Nat) : Int)))
 | 0, j, out, h, ho => by
  have hx := Jg l m
  refine ⟨1, fun N => ?_⟩
  rw [List.drop_eq_nil_of_le (by omega), Zv]
  simp (disch := omega) only [Vj, Za, Zj, Zr, Zu, Zx, cond_false, v5j, List.map_nil, List.append_nil]
 | k + 1, j, out, h, ho => by
  have hx := Jg l m
  obtain ⟨n, hn⟩ := v0i last first i hi s hs k (j + 1) (out ++ v5j (rd (Yi l m) i) (rd (Yi l m) (i + 1)) [rd s j]) (by omega) (by simp [v5j]; omega)
  refine ⟨n + 1, fun N => ?_⟩
  have := hn N
  rw [Yd (show j < s.length by omega), ← Nat.add_assoc, Zv]
  simp (disch := omega) only [Vj, Za, Zj, Zo, Zs, Yq, Yw, Ze, Zu, Zx, Yk, Zk, Nat.zero_add, decide_true, Bool.and_true, Bool.true_and, cond_true]
  rw [List.append_assoc] at this
  exact this
omit hl hm in
theorem w8g (out : List R6) (j : Nat) (x : Int) (h : j < out.length) : w4o (out.set j ⟨(rd out j).a, (rd out j).b, (rd out j).c, (rd out j).d, (rd out j).e, x⟩) (j + 1) x = w4o out j x := by
 unfold w4o
 rw [Yd h, List.map_cons]
 have e1 : (out.set j ⟨(rd out j).a, (rd out j).b, (rd out j).c, (rd out j).d, (rd out j).e, x⟩).take (j + 1) = out.take j ++ [⟨(rd out j).a, (rd out j).b, (rd out j).c, (rd out j).d, (rd out j).e, x⟩] := by
  apply List.ext_getElem
  ·simp; omega
  ·intro n h1 h2
   simp only [List.getElem_take, List.getElem_set]
   by_cases e : j = n
   ·subst e
    rw [if_pos rfl, List.getElem_append_right (by simp only [List.length_take]; omega)]
    simp
   ·rw [if_neg e, List.getElem_append_left (by simp at h1 ⊢; omega), List.getElem_take]
 have e2 : (out.set j ⟨(rd out j).a, (rd out j).b, (rd out j).c, (rd out j).d, (rd out j).e, x⟩).drop (j + 1) = out.drop (j + 1) := by
  rw [List.drop_set]; rw [if_pos (by omega)]
 rw [e1, e2, List.append_assoc]; rfl
theorem v0h (last : List R4) (first : Int) (i : Nat) (hi : i + 1 < (Yi l m).length) : ∀ (k j : Nat) (out : List R6), j + k = out.length → out.length ≤ 10000000000 →
  ∃ n, ∀ N, Yb (Vj kind l m) (N + n) (.to (.h2 out last first (i : Int) (j : Int))) = Yb (Vj kind l m) N (.to (.h0 (w4o out j (rd (Yi l m) (i + 1))) last first ((i + 1 : Nat) : Int)))
 | 0, j, out, h, ho => by
  have hx := Jg l m
  refine ⟨1, fun N => ?_⟩
  have e : w4o out j (rd (Yi l m) (i + 1)) = out := by
   unfold w4o; rw [List.drop_eq_nil_of_le (by omega), List.map_nil, List.append_nil, List.take_of_length_le (by omega)]
  rw [e, Zv]
  simp (disch := omega) only [Vj, Za, Zj, Zr, Zu, Zx, cond_false]
 | k + 1, j, out, h, ho => by
  have hx := Jg l m
  obtain ⟨n, hn⟩ := v0h last first i hi k (j + 1) (out.set j ⟨(rd out j).a, (rd out j).b, (rd out j).c, (rd out j).d, (rd out j).e, rd (Yi l m) (i + 1)⟩) (by simp; omega) (by simpa using ho)
  refine ⟨n + 1, fun N => ?_⟩
  have := hn N
  rw [w8g out j _ (by omega)] at this
  rw [← Nat.add_assoc, Zv]
  simp (disch := omega) only [Vj, Za, Zj, Zo, Zs, Yv, Yq, Yw, Ze, Zu, Zx, Yk, Zk, Nat.zero_add, decide_true, Bool.and_true, Bool.true_and, cond_true]
  exact this
theorem x9w : ∀ (k i : Nat) (out : List R6) (last : List R4) (first : Nat), k = (Yi l m).length - 1 - i → i ≤ (Yi l m).length → out.length ≤ i * 400 → last.length ≤ 400 → first ≤ out.length →
  ∃ n, Yb (Vj kind l m) n (.to (.h0 out last (first : Int) (i : Int))) = .ret (x1d (jsF kind l m k i out last first))
 | 0, i, out, last, first, h, hi, ho, hla, hf => by
  have hx := Jg l m
  refine ⟨1, ?_⟩
  rw [Zv]
  simp (disch := omega) only [Vj, Za, Zj, Zr, Zu, Zx, cond_false, Zm, jsF, x1d]
 | k + 1, i, out, last, first, h, hi, ho, hla, hf => by
  have hx := Jg l m
  have hi1 : i + 1 < (Yi l m).length := by omega
  have hbig : i * 400 ≤ 20000 * 400 := Nat.mul_le_mul_right _ (by omega)
  have a1 := fun z => z0u l z
  have a2 := fun z => z0u m z
  have w1 : ∀ z, z3i l z = true := fun z => decide_eq_true (by omega)
  have w2 : ∀ z, z3i m z = true := fun z => decide_eq_true (by omega)
  have w3 : ∀ k z, Qf k (atV l z) (atV m z) = true := fun k z => decide_eq_true (by have := a1 z; have := a2 z; omega)
  have w4 : ∀ k z, Qf k (atV l z) ([] : List R4) = true := fun k z => decide_eq_true (by have := a1 z; simp; omega)
  have w5 : ∀ k z, Qf k (atV m z) ([] : List R4) = true := fun k z => decide_eq_true (by have := a2 z; simp; omega)
  unfold jsF
  have eN : z4n kind l m (rd (Yi l m) i) = joV kind (atV l (rd (Yi l m) i)) (atV m (rd (Yi l m) i)) := rfl
  by_cases c1 : 400 < (z4n kind l m (rd (Yi l m) i)).length
  ·refine ⟨1, ?_⟩
   have hb : z1g kind l m (rd (Yi l m) i) = true := by unfold z1g; rw [decide_eq_true c1]; rfl
   rw [hb, cond_true, Zv]
   rw [eN] at c1
   simp (disch := omega) only [Vj, Za, Zj, Zo, Ye, Zs, Zu, Zx, Zk, w1, w2, w3, w4, w5, Bool.and_true, cond_true, Zm, x1d]
  by_cases c2 : 400 < (joV 2 (atV l (rd (Yi l m) i)) []).length
  ·refine ⟨1, ?_⟩
   have hb : z1g kind l m (rd (Yi l m) i) = true := by unfold z1g; rw [decide_eq_true c2, Bool.true_or, Bool.or_true]
   rw [hb, cond_true, Zv]
   rw [eN] at c1
   simp (disch := omega) only [Vj, Za, Zj, Zo, Ye, Xx, Zs, Zu, Zx, Zk, w1, w2, w3, w4, w5, Bool.and_true, cond_true, cond_false, Zm, x1d]
  by_cases c3 : 400 < (joV 2 (atV m (rd (Yi l m) i)) []).length
  ·refine ⟨1, ?_⟩
   have hb : z1g kind l m (rd (Yi l m) i) = true := by unfold z1g; rw [decide_eq_true c3, Bool.or_true, Bool.or_true]
   rw [hb, cond_true, Zv]
   rw [eN] at c1
   simp (disch := omega) only [Vj, Za, Zj, Zo, Ye, Xx, Zs, Zu, Zx, Zk, w1, w2, w3, w4, w5, Bool.and_true, cond_true, cond_false, Zm, x1d]
  have hb : z1g kind l m (rd (Yi l m) i) = false := by unfold z1g; rw [decide_eq_false c1, decide_eq_false c2, decide_eq_false c3]; rfl
  rw [hb, cond_false]
  have w6 : Wk (joV kind (atV l (rd (Yi l m) i)) (atV m (rd (Yi l m) i))) last = true := decide_eq_true (by rw [← eN]; omega)
  rcases Yp (decide (0 < i) && Uy (z4n kind l m (rd (Yi l m) i)) last) with q | q
  ·obtain ⟨n3, h3⟩ := v0h kind l m hl hm last first i hi1 (out.length - first) first out (by omega) (by omega)
   obtain ⟨n0, h0⟩ := x9w k (i + 1) (w4o out first (rd (Yi l m) (i + 1))) last first (by omega) (by omega) (by simp [w4o]; omega) hla (by simp [w4o]; omega)
   refine ⟨n0 + n3 + 1, ?_⟩
   rw [q, cond_true, Zv]
   simp only [Bool.and_eq_true, decide_eq_true_eq] at q
   obtain ⟨q1, q2⟩ := q
   rw [eN] at c1 q2
   simp (disch := omega) only [Vj, Za, Zj, Zo, Ye, Xx, Zs, Zu, Zx, Zk, w1, w2, w3, w4, w5, w6, q2, Bool.and_true, cond_true, cond_false]
   rw [h3 n0, h0]
  ·obtain ⟨n2, h2⟩ := v0i kind l m hl hm (z4n kind l m (rd (Yi l m) i)) (out.length : Int) i hi1 (z4n kind l m (rd (Yi l m) i)) (by omega) (z4n kind l m (rd (Yi l m) i)).length 0 out (Nat.zero_add _) (by omega)
   obtain ⟨n0, h0⟩ := x9w k (i + 1) (out ++ v5j (rd (Yi l m) i) (rd (Yi l m) (i + 1)) (z4n kind l m (rd (Yi l m) i))) (z4n kind l m (rd (Yi l m) i)) out.length (by omega) (by omega) (by simp [v5j]; omega) (by omega) (by simp)
   refine ⟨n0 + n2 + 1, ?_⟩
   rw [q, cond_false, Zv]
   have h2' := h2 n0
   simp only [List.drop_zero, z0t] at h2'
   have c1' := c1
   rw [eN] at c1'
   by_cases hi0 : 0 < i
   ·rw [decide_eq_true hi0, Bool.true_and, eN] at q
    simp (disch := omega) only [Vj, Za, Zj, Zo, Ye, Xx, Zs, Zu, Zx, Zk, w1, w2, w3, w4, w5, w6, q, Bool.and_true, cond_true, cond_false]
    rw [← h0]; exact h2'
   ·simp (disch := omega) only [Vj, Za, Zj, Zo, Ye, Xx, Zs, Zu, Zx, Zk, w1, w2, w3, w4, w5, w6, Bool.and_true, cond_true, cond_false]
    rw [← h0]; exact h2'
end
theorem v4n (kind : Int) (l m : List R6) (h : Kq kind l m = true) : ∃ N, Yb (Vj kind l m) N (z8t kind l m) = .ret (x1d (jsO kind l m)) := by
 obtain ⟨hl, hm⟩ := of_decide_eq_true h
 obtain ⟨N, hN⟩ := x9w kind l m hl hm ((Yi l m).length - 1) 0 [] [] 0 rfl (Nat.zero_le _) (Nat.zero_le _) (Nat.zero_le _) (Nat.le_refl _)
 refine ⟨N, ?_⟩
 have w1 : z5x l m = true := decide_eq_true ⟨by omega, by omega⟩
 simp only [z8t, Za, Zj, w1, cond_true]
 exact hN
def fJs : List AVal → Option (AVal × Bool)
 | [.int .i64 x0, a1, a2] => match asL R6 a1, asL R6 a2 with
  | some (L1, g1, n1), some (L2, g2, n2) => some (.tup [.dat (Vt x0 L1 L2).length (Zz (Vt x0 L1 L2)), .bool (Vs x0 L1 L2)], isT R6 n1 g1 && (isT R6 n2 g2 && (Kq x0 L1 L2)))
  | _, _ => none
 | _ => none
theorem fJs_ok {S : Specs} (hS : Zq prog S) : Zq prog (S.with v1l fJs) := by
 refine w2t hS (by kernel_rfl) fun args v h => ?_
 unfold fJs at h
 split at h
 ·rename_i x0 a1 a2
  split at h
  ·rename_i L1 g1 n1 L2 g2 n2 e1 e2
   simp only [Option.some.injEq, Prod.mk.injEq, Bool.and_eq_true] at h
   obtain ⟨rfl, ho1, ho2, hw⟩ := h
   obtain ⟨N, hN⟩ := v4n x0 L1 L2 hw
   refine ⟨_, x1d (jsO x0 L1 L2), (.cons (.refl _) (.cons (asL_le e1 ho1) (.cons (asL_le e2 ho2) .nil))), ?_, w5u x0 L1 L2 N _ hN, 3, ?_⟩
   ·unfold Vt Vs
    cases jsO x0 L1 L2 with
    | none => exact fun ρ u hu => z1t (.cons (Jn R6) (RLe.refl _)) ρ u hu
    | some out => exact fun ρ u hu => hu
   ·cases jsO x0 L1 L2 <;> rfl
  ·cases h
 ·cases h
def T4 : Specs := T3.with v1l fJs
theorem T4_ok : Zq prog T4 := fJs_ok z7e
end Go.Am
namespace Go.Am
open Go.Proofs.Tryz
open Go.Proofs Go.Sort Go.Shelf Go.RowKit Go.Lib
def v8h (x : E3) : List Value := y3r x.1
theorem v8g (l : List R3) (h : y6d l = true) : Go.Sort.flatK v8h 3 (y6e l h).toArray = Go.Sort.flatK y3r 3 l.toArray := by
 have hl := Ja l h
 unfold Go.Sort.flatK
 rw [show (y6e l h).toArray.size = l.toArray.size by simpa using hl]
 apply Array.ext
 ·simp
 ·intro t h1 h2
  simp only [Array.getElem_map, Array.getElem_range]
  have ht : t < l.length * 3 := by simpa using h1
  have hq : t / 3 < l.length := by omega
  congr 1
  rw [getElem!_pos (y6e l h).toArray (t / 3) (by simpa [hl] using hq), getElem!_pos l.toArray (t / 3) (by simpa using hq)]
  unfold v8h
  congr 1
  have := z9j l h
  have e := congrArg (fun z : List R3 => z[t / 3]?) this
  simp only [List.getElem?_map] at e
  rw [List.getElem?_eq_getElem (by rw [hl]; exact hq), List.getElem?_eq_getElem hq] at e
  simpa using e
theorem w8a (d : Array E3) : Go.Sort.flatK v8h 3 d = Go.Sort.flatK y3r 3 (d.toList.map Subtype.val).toArray := by
 unfold Go.Sort.flatK
 rw [show d.size = (d.toList.map Subtype.val).toArray.size by simp]
 apply Array.ext
 ·simp
 ·intro t h1 h2
  simp only [Array.getElem_map, Array.getElem_range]
  have ht : t < d.size * 3 := by simpa using h1
  have hq : t / 3 < d.size := by omega
  congr 1
  rw [getElem!_pos d (t / 3) hq, getElem!_pos (d.toList.map Subtype.val).toArray (t / 3) (by simpa using hq)]
  simp [v8h]
theorem y7l (l : List R3) : y4y l.length (z4m (cvT l)).length = true := Vb (by
 rw [Za]
 by_cases h : y6d l = true
 ·exact (z0f l h).1.length_eq.symm
 ·unfold z4m; rw [dif_neg h])
theorem isAgg3 : ∀ w, (isAgg (Tryz.sortEnd_ren.t 24)).run prog w = .ok true w := fun w => by rfl
theorem size3 : ∀ w, (Go.sizeOf (Tryz.sortEnd_ren.t 24)).run prog w = .ok 3 w := fun w => by rfl
theorem x8v : y8w prog v1g (x4r R3 z4m y6d x3y) := by
 refine w3b (fun L => ?_) (fun blk off cap L w hb hH eU hsz => ?_) fun p cap fv w => AnyF.slices_SortFunc_none Tryz.sortEnd p cap fv w
 ·by_cases h : y6d L = true
  ·exact (z0f L h).1.length_eq
  ·unfold z4m; rw [dif_neg h]
 ·have eg : ∀ args w, (callFunc 193 args).run prog w = .ok (.enter 193 args) w := enters_of Tryz.func193 (by kernel_rfl) rfl
  have hcmp : CmpLays prog 193 #[] v8h 3 cf3 blk off (y6e L hb).toArray.size w := fun m os dk _ x y => by
   have hx := of_decide_eq_true x.2
   have hy := of_decide_eq_true y.2
   exact Tryz.cmpEnd x.1.a x.1.b x.1.c y.1.a y.1.b y.1.c hx hy _
  have hH' : HoldsK v8h 3 w blk off (y6e L hb).toArray := by
   unfold HoldsK
   rw [v8g L hb]; exact hH
  have hcon := AnyQ.slices_SortFunc_eq Tryz.sortEnd 3 isAgg3 size3 v8h (fun x => y1j x.1) (fun x v hv => by
   obtain ⟨a, ha, rfl⟩ := List.mem_map.1 hv
   have : x1f a = true := List.all_eq_true.1 (v2y.num x.1) a ha
   cases a <;> first | rfl | (simp [x1f] at this; done)) cf3 swo3 193 #[] blk off cap (y6e L hb).toArray w eg hcmp hH' eU (by simpa [Ja] using hsz)
  have hs : (y6e L hb).toArray.size = L.length := by simp [Ja]
  rw [hs] at hcon
  refine Calls.mono hcon fun e w' ⟨he, n, os, hw⟩ => ⟨he, n, os, ?_⟩
  rw [hw]
  unfold sortWorldK putRowK
  rw [w8a]
  unfold z4m
  rw [dif_pos hb]
  rfl
def Yh (zs : List Int) : List Int := zs.mergeSort fun x y => decide (x ≤ y)
theorem x8u : y8w prog nSort (fRow Yh) :=
 v8i (fun zs => List.length_mergeSort zs) (fun blk off cap zs w hH hb hz => Tryz.slices_Sort_int blk off cap zs w hH hb hz) fun p cap w => Tryz.slices_Sort_int_none p cap w
def Xy (zs : List Int) : List Int := compact zs ++ List.replicate (zs.length - (compact zs).length) 0
def w8v (zs : List Int) : Nat := (compact zs).length
theorem Wr (zs : List Int) : (Xy zs).length = zs.length := by have := compact_length_le zs; simp [Xy]; omega
theorem z0o (n : Nat) (c : Nat → Int) : y4y n (Xy (Zg n c)).length = true := Vb (by rw [Wr]; simp [Zg])
theorem w2j (w : World) : grow w #[] = w := by simp [grow]
theorem x2f : y8w prog x3z (fCut Xy w8v) :=
 v8j (fun zs => by have := compact_length_le zs; simp [Xy]; omega) (fun zs => compact_length_le zs)
  (fun blk off cap zs w hH hb hz dQ => (Tryz.slices_Compact_int blk off cap zs w hH (by omega) dQ).mono fun e w' ⟨he, q, hw⟩ => ⟨he, q, #[], by rw [hw, w2j]; rfl⟩)
  fun p cap w => Tryz.slices_Compact_int_empty p cap w
def T5 : Specs := ((T4.withE v1g (x4r R3 z4m y6d x3y)).withE nSort (fRow Yh)).withE x3z (fCut Xy w8v)
theorem Kg : Zq prog T5 := y4a (y4a (y4a T4_ok (by kernel_rfl) x8v) (by kernel_rfl) x8u) (by kernel_rfl) x2f
end Go.Am
namespace Go.Am
open Go.Proofs.Tryz
open Go.Proofs
-- h2: index into an array (choices [true, true, false, false])
-- h2: index into an array (choices [true, false, true, false, false])
-- h2: index into an array (choices [true, false, false, true, true, false, false])
-- h2: index into an array (choices [true, false, false, true, false, false, false])
-- h2: index into an array (choices [true, false, false, false, false, false])
inductive spmS where
 | h0 (v8 : Int)
 | h1 (v3 : List R3) (v17 : Int)
 | h2 (v5 : List R3) (v6 : Int) (v7 : Int) (aA : Int) (bY : Int) (aB : Int) (aC : Bool) (aF : List R2)
def spmC (l0 : List R2) : spmS → Cfg
 | .h0 v8 => ⟨⟨19, 0, true⟩, none, (Zb prog 195 [1, 0, 1, 0, 0] 0), none, (Zy prog 3), ⟨Ym [(0, (.dat l0.length (Zz l0))), (1, (.fn 188 [])), (7, (ii (l0.length : Int))), (8, (ii v8))], Uc [] 0, 0, [], true⟩, [⟨⟨9, 0, true⟩, (Vr prog 187 [1, 0] 2), (Zb prog 187 [1, 0] 1), none, (Zy prog 3), Ym [(5, (.dat l0.length (Zz l0))), (6, (.fn 188 []))]⟩, ⟨⟨11, 0, true⟩, (Vr prog 174 [1, 1, 0, 0] 1), (Zb prog 174 [1, 1, 0, 0] 1), none, (Zy prog 77), Ym [(0, (.dat l0.length (Zz l0))), (7, (.dat l0.length (Zz l0)))]⟩], .leaf⟩
 | .h1 v3 v17 => ⟨⟨38, 0, true⟩, none, (Zb prog 185 [1, 1, 0, 1, 0, 0, 1, 1, 0, 0, 1, 1, 0, 0] 0), none, (Zy prog 15), ⟨Ym [(3, (.sla 7 3 0 v3.length (.un 3))), (4, (ii 0)), (8, (.sl 0 0 2 (.un 1))), (9, (ii 2)), (10, (ii 0)), (15, (.dat l0.length (Zz l0))), (16, (ii (l0.length : Int))), (17, (ii v17))], Uc [⟨[(.dat l0.length (Zz l0)), .nils], 158, none⟩, ⟨[(.fn 189 [])], 198, none⟩, ⟨[(ii 0), (ii 0)], 235, none⟩, ⟨[.nils], 158, none⟩, ⟨[(ii 0)], 3, none⟩, ⟨[(.bool false)], 4, none⟩, ⟨[(.fn 184 [(.ptr 5 0), (.ptr 4 0), (.ptr 3 0)])], 236, none⟩, ⟨rows v3.length (Zz v3), 240, some ⟨3, v3.length, (Zz v3)⟩⟩] 0, 8, [], true⟩, [⟨⟨42, 0, true⟩, (Vr prog 170 [1, 1, 1, 1, 1, 0, 0] 3), (Zb prog 170 [1, 1, 1, 1, 1, 0, 0] 1), none, (Zy prog 4), Ym [(5, (.ptr 1 0)), (6, .nils), (7, (.ptr 2 0)), (8, (.ptr 3 0)), (9, (.ptr 4 0)), (10, (.ptr 5 0)), (11, (.ptr 6 0)), (16, (.sl 0 0 2 (.un 1)))]⟩, ⟨⟨11, 0, true⟩, (Vr prog 174 [1, 1, 1, 0] 1), (Zb prog 174 [1, 1, 1, 0] 1), none, (Zy prog 77), Ym [(9, (.dat l0.length (Zz l0)))]⟩], .leaf⟩
 | .h2 v5 v6 v7 aA bY aB aC aF => ⟨⟨16, 0, true⟩, none, (Zb prog 197 [1, 0, 0] 0), none, [], ⟨Ym [(0, (.yld 0)), (5, (.sla 7 3 0 v5.length (.un 3))), (6, (ii v6)), (7, (ii v7))], z5k [(1, ⟨[(.fn 189 [])], 198, none⟩), (2, ⟨[(ii aA), (ii bY)], 235, none⟩), (3, ⟨[(ii aB)], 3, none⟩), (4, ⟨[(.bool aC)], 4, none⟩), (5, ⟨[(.fn 184 [(.ptr 4 0), (.ptr 3 0), (.ptr 6 0)])], 236, none⟩), (6, ⟨[(.sla 8 2 0 aF.length (.un 2))], 158, none⟩), (7, ⟨rows v5.length (Zz v5), 240, some ⟨3, v5.length, (Zz v5)⟩⟩), (8, ⟨rows aF.length (Zz aF), 110, some ⟨2, aF.length, (Zz aF)⟩⟩)], 9, [], true⟩, [⟨⟨42, 0, true⟩, none, (.inRangeFunc 0 :: (Zb prog 170 [1, 1, 1, 1, 1, 0, 1, 0] 1)), none, (Zy prog 4), Ym [(6, .nils), (8, (.ptr 6 0))]⟩, ⟨⟨11, 0, true⟩, (Vr prog 174 [1, 1, 1, 0] 1), (Zb prog 174 [1, 1, 1, 0] 1), none, (Zy prog 77), Ym [(9, (.dat l0.length (Zz l0)))]⟩], (z5m [(0, ⟨.ready, none, 42, Ym [(5, (.ptr 1 0)), (7, (.ptr 2 0)), (9, (.ptr 3 0)), (10, (.ptr 4 0)), (11, (.ptr 5 0))], [18], (Xb prog 170 [1, 1, 1, 1, 1, 0, 1, 0, 0]), (Xb prog 170 [1, 1, 1, 1, 1, 0, 1, 0, 1])⟩)])⟩
def spmN0 : List (Option (List Nat)) := [some [0, 1, 7, 8], some [5, 6], some [0, 7]]
def spmM0 : List (Option (List Nat)) := []
def x8r : List (Option (List Nat)) := [some [3, 4, 8, 9, 10, 15, 16, 17], some [5, 6, 7, 8, 9, 10, 11, 16], some [9]]
def x8s : List (Option (List Nat)) := []
def z9s : List (Option (List Nat)) := [some [0, 5, 6, 7], some [6, 8], some [9]]
def z9t : List (Option (List Nat)) := [some [5, 7, 9, 10, 11], none, none, none, none, none, none, none, none]
def Vc (l0 : List R2) : spmS → Wa spmS
 | .h0 v8 => (bif (decide (v8 < (l0.length : Int))) then (bif ((decide (0 ≤ v8 ∧ v8 < (l0.length : Int))) && true) then (bif (decide ((rd l0 v8.toNat).a < (rd l0 v8.toNat).b)) then (bif (decide ((rd l0 v8.toNat).a ≥ (-1000000))) then (bif (!(decide ((rd l0 v8.toNat).b ≤ 1000000))) then (bif (decide (v8 ≥ 0)) then (.ret [.nils, (.int .i64 8)]) else (.to (.h1 ([] : List R3) 0))) else (.to (.h0 (IntKind.wrap .i64 (v8 + 1))))) else (bif (decide (v8 ≥ 0)) then (.ret [.nils, (.int .i64 8)]) else (.to (.h1 ([] : List R3) 0)))) else (bif (decide (v8 ≥ 0)) then (.ret [.nils, (.int .i64 8)]) else (.to (.h1 ([] : List R3) 0)))) else .stuck) else (.to (.h1 ([] : List R3) 0)))
 | .h1 v3 v17 => (bif (decide (v17 < (l0.length : Int))) then (bif ((decide (0 ≤ v17 ∧ v17 < (l0.length : Int))) && true) then (bif (Nat.beq 3 3 && ((decide (0 + v3.length = v3.length)) && decide ((v3.length + 2 + 1) * (24 + 1) ≤ Jy))) then (.to (.h1 (v3 ++ [(R3.mk (rd l0 v17.toNat).a 0 1), (R3.mk (rd l0 v17.toNat).b 0 (-1))]) (IntKind.wrap .i64 (v17 + 1)))) else .stuck) else .stuck) else (bif (y6d (cvT v3)) then (bif (decide (v3.length < 4611686018427387904)) then (bif (decide (v3.length = v3.length)) then (.to (.h2 (z4m (cvT v3)) (v3.length : Int) 0 0 0 0 false ([] : List R2))) else .stuck) else .stuck) else .stuck))
 | .h2 v5 v6 v7 aA bY aB aC aF => (bif (decide (v7 < v6)) then (bif ((decide (0 ≤ v7 ∧ v7 < (v5.length : Int))) && true) then (bif (decide ((0 + v7.toNat) < v5.length)) then (bif (!aC) then (bif (decide ((rd v5 (0 + v7.toNat)).b = Int.ofNat 0)) then (.to (.h2 v5 v6 (IntKind.wrap .i64 (v7 + 1)) (IntKind.wrap .i64 (aA + (rd v5 (0 + v7.toNat)).c)) bY (rd v5 (0 + v7.toNat)).a (x4m (decide ((IntKind.wrap .i64 (aA + (rd v5 (0 + v7.toNat)).c)) > 0)) (decide (bY > 0))) aF)) else (bif (decide ((rd v5 (0 + v7.toNat)).b = Int.ofNat 1)) then (.to (.h2 v5 v6 (IntKind.wrap .i64 (v7 + 1)) aA (IntKind.wrap .i64 (bY + (rd v5 (0 + v7.toNat)).c)) (rd v5 (0 + v7.toNat)).a (x4m (decide (aA > 0)) (decide ((IntKind.wrap .i64 (bY + (rd v5 (0 + v7.toNat)).c)) > 0))) aF)) else .stuck)) else (bif (aB == (rd v5 (0 + v7.toNat)).a) then (bif (decide ((rd v5 (0 + v7.toNat)).b = Int.ofNat 0)) then (.to (.h2 v5 v6 (IntKind.wrap .i64 (v7 + 1)) (IntKind.wrap .i64 (aA + (rd v5 (0 + v7.toNat)).c)) bY (rd v5 (0 + v7.toNat)).a (x4m (decide ((IntKind.wrap .i64 (aA + (rd v5 (0 + v7.toNat)).c)) > 0)) (decide (bY > 0))) aF)) else (bif (decide ((rd v5 (0 + v7.toNat)).b = Int.ofNat 1)) then (.to (.h2 v5 v6 (IntKind.wrap .i64 (v7 + 1)) aA (IntKind.wrap .i64 (bY + (rd v5 (0 + v7.toNat)).c)) (rd v5 (0 + v7.toNat)).a (x4m (decide (aA > 0)) (decide ((IntKind.wrap .i64 (bY + (rd v5 (0 + v7.toNat)).c)) > 0))) aF)) else .stuck)) else (bif (decide ((aF.length : Int) > 0)) then (bif ((decide (0 ≤ (IntKind.wrap .i64 ((aF.length : Int) - 1)) ∧ (IntKind.wrap .i64 ((aF.length : Int) - 1)) < (aF.length : Int))) && true) then (bif (decide ((0 + (Int.toNat (IntKind.wrap .i64 ((aF.length : Int) - 1)))) < aF.length)) then (bif ((rd aF (0 + (Int.toNat (IntKind.wrap .i64 ((aF.length : Int) - 1))))).b == aB) then (bif (decide ((rd v5 (0 + v7.toNat)).b = Int.ofNat 0)) then (.to (.h2 v5 v6 (IntKind.wrap .i64 (v7 + 1)) (IntKind.wrap .i64 (aA + (rd v5 (0 + v7.toNat)).c)) bY (rd v5 (0 + v7.toNat)).a (x4m (decide ((IntKind.wrap .i64 (aA + (rd v5 (0 + v7.toNat)).c)) > 0)) (decide (bY > 0))) (aF.set (0 + (Int.toNat (IntKind.wrap .i64 ((aF.length : Int) - 1)))) (R2.mk (rd aF (0 + (Int.toNat (IntKind.wrap .i64 ((aF.length : Int) - 1))))).a (rd v5 (0 + v7.toNat)).a)))) else (bif (decide ((rd v5 (0 + v7.toNat)).b = Int.ofNat 1)) then (.to (.h2 v5 v6 (IntKind.wrap .i64 (v7 + 1)) aA (IntKind.wrap .i64 (bY + (rd v5 (0 + v7.toNat)).c)) (rd v5 (0 + v7.toNat)).a (x4m (decide (aA > 0)) (decide ((IntKind.wrap .i64 (bY + (rd v5 (0 + v7.toNat)).c)) > 0))) (aF.set (0 + (Int.toNat (IntKind.wrap .i64 ((aF.length : Int) - 1)))) (R2.mk (rd aF (0 + (Int.toNat (IntKind.wrap .i64 ((aF.length : Int) - 1))))).a (rd v5 (0 + v7.toNat)).a)))) else .stuck)) else (bif (Nat.beq 2 2 && ((decide (0 + aF.length = aF.length)) && decide ((aF.length + 1 + 1) * (16 + 1) ≤ Jy))) then (bif (decide ((rd v5 (0 + v7.toNat)).b = Int.ofNat 0)) then (.to (.h2 v5 v6 (IntKind.wrap .i64 (v7 + 1)) (IntKind.wrap .i64 (aA + (rd v5 (0 + v7.toNat)).c)) bY (rd v5 (0 + v7.toNat)).a (x4m (decide ((IntKind.wrap .i64 (aA + (rd v5 (0 + v7.toNat)).c)) > 0)) (decide (bY > 0))) (aF ++ [(R2.mk aB (rd v5 (0 + v7.toNat)).a)]))) else (bif (decide ((rd v5 (0 + v7.toNat)).b = Int.ofNat 1)) then (.to (.h2 v5 v6 (IntKind.wrap .i64 (v7 + 1)) aA (IntKind.wrap .i64 (bY + (rd v5 (0 + v7.toNat)).c)) (rd v5 (0 + v7.toNat)).a (x4m (decide (aA > 0)) (decide ((IntKind.wrap .i64 (bY + (rd v5 (0 + v7.toNat)).c)) > 0))) (aF ++ [(R2.mk aB (rd v5 (0 + v7.toNat)).a)]))) else .stuck)) else .stuck)) else .stuck) else .stuck) else (bif (Nat.beq 2 2 && ((decide (0 + aF.length = aF.length)) && decide ((aF.length + 1 + 1) * (16 + 1) ≤ Jy))) then (bif (decide ((rd v5 (0 + v7.toNat)).b = Int.ofNat 0)) then (.to (.h2 v5 v6 (IntKind.wrap .i64 (v7 + 1)) (IntKind.wrap .i64 (aA + (rd v5 (0 + v7.toNat)).c)) bY (rd v5 (0 + v7.toNat)).a (x4m (decide ((IntKind.wrap .i64 (aA + (rd v5 (0 + v7.toNat)).c)) > 0)) (decide (bY > 0))) (aF ++ [(R2.mk aB (rd v5 (0 + v7.toNat)).a)]))) else (bif (decide ((rd v5 (0 + v7.toNat)).b = Int.ofNat 1)) then (.to (.h2 v5 v6 (IntKind.wrap .i64 (v7 + 1)) aA (IntKind.wrap .i64 (bY + (rd v5 (0 + v7.toNat)).c)) (rd v5 (0 + v7.toNat)).a (x4m (decide (aA > 0)) (decide ((IntKind.wrap .i64 (bY + (rd v5 (0 + v7.toNat)).c)) > 0))) (aF ++ [(R2.mk aB (rd v5 (0 + v7.toNat)).a)]))) else .stuck)) else .stuck)))) else .stuck) else .stuck) else (.ret [(.dat aF.length (Zz aF)), (.int .i64 0)]))
def z8l (l0 : List R2) : Wa spmS := (bif (decide ((l0.length : Int) > 400)) then (.ret [.nils, (.int .i64 4)]) else (.to (.h0 0)))
theorem x5l (l0 : List R2) : ∀ s, Wb prog (Zy prog 174) (spmC l0) (spmC l0 s) (Vc l0 s)
 | .h0 v8 => (lb (fun k0 => (lo fun aG => (lb (fun k1 => (lb (fun k2 => (lb (fun k3 => (lb (fun k4 => (lr 11 174 [1, 1, 0, 1, 0, 0] 1 77 [(2, .nils), (3, (ii 8))] (sl Kg 79 [] ⟨[], [], [some [2, 3]], []⟩ ⟨[], [], []⟩ (trs 9 []) (tt k4 (tt k3 (tt k2 (tt k1 (ww aG (tt k0 nn))))))))) (fun k4 => (sl Kg 154 [(240, 3, Zz ([] : List R3))] ⟨[8, 2, 3, 4, 5, 6, 7, 9], [], x8r, x8s⟩ ⟨[(3, .grow 7 3)], [], []⟩ (trs 8 [false, true]) (pp (fl ([] : List R3) nn) (tt k4 (tt k3 (tt k2 (tt k1 (ww aG (tt k0 nn))))))))))) (fun k3 => (sl Kg 69 [] ⟨[], [], spmN0, spmM0⟩ ⟨[], [], []⟩ (trs 7 [false]) (tt k3 (tt k2 (tt k1 (ww aG (tt k0 nn))))))))) (fun k2 => (lb (fun k3 => (lr 11 174 [1, 1, 0, 1, 0, 0] 1 77 [(2, .nils), (3, (ii 8))] (sl Kg 79 [] ⟨[], [], [some [2, 3]], []⟩ ⟨[], [], []⟩ (trs 4 [false, false, false, true, true]) (tt k3 (tt k2 (tt k1 (ww aG (tt k0 nn)))))))) (fun k3 => (sl Kg 154 [(240, 3, Zz ([] : List R3))] ⟨[8, 2, 3, 4, 5, 6, 7, 9], [], x8r, x8s⟩ ⟨[(3, .grow 7 3)], [], []⟩ (trs 4 [false, false, false, true, false, true]) (pp (fl ([] : List R3) nn) (tt k3 (tt k2 (tt k1 (ww aG (tt k0 nn)))))))))))) (fun k1 => (lb (fun k2 => (lr 11 174 [1, 1, 0, 1, 0, 0] 1 77 [(2, .nils), (3, (ii 8))] (sl Kg 79 [] ⟨[], [], [some [2, 3]], []⟩ ⟨[], [], []⟩ [true, false, false, false, false, false, false, true, true] (tt k2 (tt k1 (ww aG (tt k0 nn))))))) (fun k2 => (sl Kg 154 [(240, 3, Zz ([] : List R3))] ⟨[8, 2, 3, 4, 5, 6, 7, 9], [], x8r, x8s⟩ ⟨[(3, .grow 7 3)], [], []⟩ [true, false, false, false, false, false, false, true, false, true] (pp (fl ([] : List R3) nn) (tt k2 (tt k1 (ww aG (tt k0 nn)))))))))))) (fun k0 => (sl Kg 98 [(240, 3, Zz ([] : List R3))] ⟨[6, 0, 1, 2, 3, 4, 5, 7], [], x8r, x8s⟩ ⟨[(3, .grow 7 3)], [], []⟩ [false, false, true] (pp (fl ([] : List R3) nn) (tt k0 nn)))))
 | .h1 v3 v17 => (lb (fun k0 => (lo fun o0 => (lo fun o1 => (sl Kg 36 [] ⟨[0, 1, 2, 3, 4, 5, 6, 10], [], x8r, x8s⟩ ⟨[(3, .len (v3 ++ [(R3.mk (rd l0 (tn v17)).a 0 1), (R3.mk (rd l0 (tn v17)).b 0 (-1))]).length)], (kpB 7 [.rowed 3 (v3 ++ [(R3.mk (rd l0 (tn v17)).a 0 1), (R3.mk (rd l0 (tn v17)).b 0 (-1))]).length (Zz (v3 ++ [(R3.mk (rd l0 (tn v17)).a 0 1), (R3.mk (rd l0 (tn v17)).b 0 (-1))]))]), []⟩ [true] (pp (xL (v3.length + 2) (v3 ++ [(R3.mk (rd l0 (tn v17)).a 0 1), (R3.mk (rd l0 (tn v17)).b 0 (-1))]).length) (pp (xL (v3.length + 2) (v3 ++ [(R3.mk (rd l0 (tn v17)).a 0 1), (R3.mk (rd l0 (tn v17)).b 0 (-1))]).length) (pp (xS (v3.length + 2) (Zc (Zz v3) 0 v3.length 3 [(ii (rd l0 (tn v17)).a), (ii 0), (ii 1), (ii (rd l0 (tn v17)).b), (ii 0), (ii (-1))]) (Zz (v3 ++ [(R3.mk (rd l0 (tn v17)).a 0 1), (R3.mk (rd l0 (tn v17)).b 0 (-1))]))) (pp (pp (xF (Zc (Zz v3) 0 v3.length 3 [(ii (rd l0 (tn v17)).a), (ii 0), (ii 1), (ii (rd l0 (tn v17)).b), (ii 0), (ii (-1))])) nn) (ww o1 (ww o0 (tt k0 nn))))))))))) (fun k0 => (lo fun o0 => (lo fun o1 => (lo fun o2 => (sl Kg 92 [(110, 2, Zz ([] : List R2))] ⟨[9, 1, 2, 4, 5, 6, 3, 7, 10], [], z9s, z9t⟩ ⟨[(5, .len (z4m (cvT v3)).length)], (kpB 6 [.cells [.grow 8 2], .rowed 3 (z4m (cvT v3)).length (Zz (z4m (cvT v3))), .keep]), []⟩ [false, true, false, false] (pp (xL v3.length (z4m (cvT v3)).length (by first | exact y7l _ | exact Vb rfl)) (pp (xL v3.length (z4m (cvT v3)).length (by first | exact y7l _ | exact Vb rfl)) (pp (xS v3.length (Zz (z4m (cvT v3))) (Zz (z4m (cvT v3)))) (pp (fl (z4m (cvT v3)) (fl ([] : List R2) nn)) (pp (pp (xG (Nat.beq 3 3)) (pp (xG (Nat.beq 3 3)) (pp (xG (Nat.beq 0 0)) (pp (pp (xG (decide (v3.length = v3.length))) (pp (xr v3) (xG (decide (v3.length < 4611686018427387904))))) (xG (y6d (cvT v3))))))) (tt k0 nn))))))))))))
 | .h2 v5 v6 v7 aA bY aB aC aF => (lb (fun k0 => (lo fun aG => (lo fun aW => (lb (fun k1 => (lb (fun k2 => (sl Kg 62 [] ⟨(List.range 9), [], z9s, z9t⟩ ⟨[], [], []⟩ (trs 5 [false, false, false]) (pp (fl v5 (fl aF nn)) (ww k2 (tt k1 (ww aW (ww aG (tt k0 nn)))))))) (fun k2 => (lb (fun k3 => (sl Kg 62 [] ⟨(List.range 9), [], z9s, z9t⟩ ⟨[], [], []⟩ (trs 6 [false, true, false, false]) (pp (fl v5 (fl aF nn)) (ww k3 (tt k1 (ww aW (ww aG (tt k0 nn)))))))) (fun k3 => trivial))))) (fun k1 => (lb (fun k2 => (lb (fun k3 => (sl Kg 62 [] ⟨(List.range 9), [], z9s, z9t⟩ ⟨[], [], []⟩ [true, false, false, false, true, false, false, false] (pp (fl v5 (fl aF nn)) (ww k3 (tt k2 (tt k1 (ww aW (ww aG (tt k0 nn))))))))) (fun k3 => (lb (fun k4 => (sl Kg 62 [] ⟨(List.range 9), [], z9s, z9t⟩ ⟨[], [], []⟩ [true, false, false, false, true, true, false, true, false, false] (pp (fl v5 (fl aF nn)) (ww k4 (tt k2 (tt k1 (ww aW (ww aG (tt k0 nn))))))))) (fun k4 => trivial))))) (fun k2 => (lb (fun k3 => (lo fun cY => (lo fun dI => (lb (fun k4 => (lb (fun k5 => (sl Kg 81 [] ⟨(List.range 9), [], z9s, z9t⟩ ⟨[], (kpB 6 [.cells [.len (aF.set (0 + (tn (wr ((aF.length : Int) - 1)))) (R2.mk (rd aF (0 + (tn (wr ((aF.length : Int) - 1))))).a (rd v5 (0 + (tn v7))).a)).length], .keep, .rowed 2 (aF.set (0 + (tn (wr ((aF.length : Int) - 1)))) (R2.mk (rd aF (0 + (tn (wr ((aF.length : Int) - 1))))).a (rd v5 (0 + (tn v7))).a)).length (Zz (aF.set (0 + (tn (wr ((aF.length : Int) - 1)))) (R2.mk (rd aF (0 + (tn (wr ((aF.length : Int) - 1))))).a (rd v5 (0 + (tn v7))).a)))]), []⟩ [true, false, false, false, false, true, true, true, true, true, true, true, true, true, false, false, false] (pp (xL aF.length (aF.set (0 + (tn (wr ((aF.length : Int) - 1)))) (R2.mk (rd aF (0 + (tn (wr ((aF.length : Int) - 1))))).a (rd v5 (0 + (tn v7))).a)).length) (pp (xL aF.length (aF.set (0 + (tn (wr ((aF.length : Int) - 1)))) (R2.mk (rd aF (0 + (tn (wr ((aF.length : Int) - 1))))).a (rd v5 (0 + (tn v7))).a)).length) (pp (xS aF.length (Xg (Zz aF) (0 + (tn (wr ((aF.length : Int) - 1)))) 1 [(ii (rd v5 (0 + (tn v7))).a)]) (Zz (aF.set (0 + (tn (wr ((aF.length : Int) - 1)))) (R2.mk (rd aF (0 + (tn (wr ((aF.length : Int) - 1))))).a (rd v5 (0 + (tn v7))).a)))) (pp (fl v5 (pp (xF (Xg (Zz aF) (0 + (tn (wr ((aF.length : Int) - 1)))) 1 [(ii (rd v5 (0 + (tn v7))).a)])) nn)) (ww k5 (ww dI (ww cY (tt k4 (ww dI (ww cY (tt k3 (tt k2 (tt k1 (ww aW (ww aG (tt k0 nn)))))))))))))))))) (fun k5 => (lb (fun k6 => (sl Kg 81 [] ⟨(List.range 9), [], z9s, z9t⟩ ⟨[], (kpB 6 [.cells [.len (aF.set (0 + (tn (wr ((aF.length : Int) - 1)))) (R2.mk (rd aF (0 + (tn (wr ((aF.length : Int) - 1))))).a (rd v5 (0 + (tn v7))).a)).length], .keep, .rowed 2 (aF.set (0 + (tn (wr ((aF.length : Int) - 1)))) (R2.mk (rd aF (0 + (tn (wr ((aF.length : Int) - 1))))).a (rd v5 (0 + (tn v7))).a)).length (Zz (aF.set (0 + (tn (wr ((aF.length : Int) - 1)))) (R2.mk (rd aF (0 + (tn (wr ((aF.length : Int) - 1))))).a (rd v5 (0 + (tn v7))).a)))]), []⟩ [true, false, false, false, false, true, true, true, true, true, true, true, true, true, true, false, true, false, false] (pp (xL aF.length (aF.set (0 + (tn (wr ((aF.length : Int) - 1)))) (R2.mk (rd aF (0 + (tn (wr ((aF.length : Int) - 1))))).a (rd v5 (0 + (tn v7))).a)).length) (pp (xL aF.length (aF.set (0 + (tn (wr ((aF.length : Int) - 1)))) (R2.mk (rd aF (0 + (tn (wr ((aF.length : Int) - 1))))).a (rd v5 (0 + (tn v7))).a)).length) (pp (xS aF.length (Xg (Zz aF) (0 + (tn (wr ((aF.length : Int) - 1)))) 1 [(ii (rd v5 (0 + (tn v7))).a)]) (Zz (aF.set (0 + (tn (wr ((aF.length : Int) - 1)))) (R2.mk (rd aF (0 + (tn (wr ((aF.length : Int) - 1))))).a (rd v5 (0 + (tn v7))).a)))) (pp (fl v5 (pp (xF (Xg (Zz aF) (0 + (tn (wr ((aF.length : Int) - 1)))) 1 [(ii (rd v5 (0 + (tn v7))).a)])) nn)) (ww k6 (ww dI (ww cY (tt k4 (ww dI (ww cY (tt k3 (tt k2 (tt k1 (ww aW (ww aG (tt k0 nn)))))))))))))))))) (fun k6 => trivial))))) (fun k4 => (lo fun dF => (lb (fun k5 => (sl Kg 81 [] ⟨[0, 1, 2, 3, 4, 5, 6, 7, 12], [], z9s, z9t⟩ ⟨[], (kpB 6 [.cells [.len (aF ++ [(R2.mk aB (rd v5 (0 + (tn v7))).a)]).length], .keep, .rowed 2 (aF ++ [(R2.mk aB (rd v5 (0 + (tn v7))).a)]).length (Zz (aF ++ [(R2.mk aB (rd v5 (0 + (tn v7))).a)]))]), []⟩ [true, false, false, false, false, true, true, true, true, true, true, true, true, false, false, false, false] (pp (xL (aF.length + 1) (aF ++ [(R2.mk aB (rd v5 (0 + (tn v7))).a)]).length) (pp (xL (aF.length + 1) (aF ++ [(R2.mk aB (rd v5 (0 + (tn v7))).a)]).length) (pp (xS (aF.length + 1) (Zc (Zz aF) 0 aF.length 2 [(ii aB), (ii (rd v5 (0 + (tn v7))).a)]) (Zz (aF ++ [(R2.mk aB (rd v5 (0 + (tn v7))).a)]))) (pp (fl v5 (pp (xF (Zc (Zz aF) 0 aF.length 2 [(ii aB), (ii (rd v5 (0 + (tn v7))).a)])) nn)) (ww k5 (ww dF (tt k4 (ww dI (ww cY (tt k3 (tt k2 (tt k1 (ww aW (ww aG (tt k0 nn))))))))))))))))) (fun k5 => (lb (fun k6 => (sl Kg 81 [] ⟨[0, 1, 2, 3, 4, 5, 6, 7, 12], [], z9s, z9t⟩ ⟨[], (kpB 6 [.cells [.len (aF ++ [(R2.mk aB (rd v5 (0 + (tn v7))).a)]).length], .keep, .rowed 2 (aF ++ [(R2.mk aB (rd v5 (0 + (tn v7))).a)]).length (Zz (aF ++ [(R2.mk aB (rd v5 (0 + (tn v7))).a)]))]), []⟩ [true, false, false, false, false, true, true, true, true, true, true, true, true, false, true, false, true, false, false] (pp (xL (aF.length + 1) (aF ++ [(R2.mk aB (rd v5 (0 + (tn v7))).a)]).length) (pp (xL (aF.length + 1) (aF ++ [(R2.mk aB (rd v5 (0 + (tn v7))).a)]).length) (pp (xS (aF.length + 1) (Zc (Zz aF) 0 aF.length 2 [(ii aB), (ii (rd v5 (0 + (tn v7))).a)]) (Zz (aF ++ [(R2.mk aB (rd v5 (0 + (tn v7))).a)]))) (pp (fl v5 (pp (xF (Zc (Zz aF) 0 aF.length 2 [(ii aB), (ii (rd v5 (0 + (tn v7))).a)])) nn)) (ww k6 (ww dF (tt k4 (ww dI (ww cY (tt k3 (tt k2 (tt k1 (ww aW (ww aG (tt k0 nn))))))))))))))))) (fun k6 => trivial)))))))))) (fun k3 => (lo fun cY => (lb (fun k4 => (sl Kg 81 [] ⟨[0, 1, 2, 3, 4, 5, 6, 7, 12], [], z9s, z9t⟩ ⟨[], (kpB 6 [.cells [.len (aF ++ [(R2.mk aB (rd v5 (0 + (tn v7))).a)]).length], .keep, .rowed 2 (aF ++ [(R2.mk aB (rd v5 (0 + (tn v7))).a)]).length (Zz (aF ++ [(R2.mk aB (rd v5 (0 + (tn v7))).a)]))]), []⟩ [true, false, false, false, false, false, false, false, false, false, false, false, false, false, false, false, false] (pp (xL (aF.length + 1) (aF ++ [(R2.mk aB (rd v5 (0 + (tn v7))).a)]).length) (pp (xL (aF.length + 1) (aF ++ [(R2.mk aB (rd v5 (0 + (tn v7))).a)]).length) (pp (xS (aF.length + 1) (Zc (Zz aF) 0 aF.length 2 [(ii aB), (ii (rd v5 (0 + (tn v7))).a)]) (Zz (aF ++ [(R2.mk aB (rd v5 (0 + (tn v7))).a)]))) (pp (fl v5 (pp (xF (Zc (Zz aF) 0 aF.length 2 [(ii aB), (ii (rd v5 (0 + (tn v7))).a)])) nn)) (ww k4 (ww cY (tt k3 (tt k2 (tt k1 (ww aW (ww aG (tt k0 nn)))))))))))))) (fun k4 => (lb (fun k5 => (sl Kg 81 [] ⟨[0, 1, 2, 3, 4, 5, 6, 7, 12], [], z9s, z9t⟩ ⟨[], (kpB 6 [.cells [.len (aF ++ [(R2.mk aB (rd v5 (0 + (tn v7))).a)]).length], .keep, .rowed 2 (aF ++ [(R2.mk aB (rd v5 (0 + (tn v7))).a)]).length (Zz (aF ++ [(R2.mk aB (rd v5 (0 + (tn v7))).a)]))]), []⟩ [true, false, false, false, false, false, false, false, false, false, false, false, false, false, true, false, true, false, false] (pp (xL (aF.length + 1) (aF ++ [(R2.mk aB (rd v5 (0 + (tn v7))).a)]).length) (pp (xL (aF.length + 1) (aF ++ [(R2.mk aB (rd v5 (0 + (tn v7))).a)]).length) (pp (xS (aF.length + 1) (Zc (Zz aF) 0 aF.length 2 [(ii aB), (ii (rd v5 (0 + (tn v7))).a)]) (Zz (aF ++ [(R2.mk aB (rd v5 (0 + (tn v7))).a)]))) (pp (fl v5 (pp (xF (Zc (Zz aF) 0 aF.length 2 [(ii aB), (ii (rd v5 (0 + (tn v7))).a)])) nn)) (ww k5 (ww cY (tt k3 (tt k2 (tt k1 (ww aW (ww aG (tt k0 nn)))))))))))))) (fun k5 => trivial)))))))))))))) (fun k0 => (lr 11 3 [1, 1, 1, 1, 1, 1, 0] 1 77 [(2, (.dat aF.length (Zz aF))), (3, (ii 0))] (sl Kg 19 [] ⟨[], [8], [some [2, 3]], []⟩ ⟨[(2, .frz aF.length aF.length (Zz aF) (Zz aF))], [], []⟩ [false] (pp (xZ (z3m 2 2 0 aF.length aF.length (Zz aF)) aF.length (Zz aF)) (pp (xL aF.length aF.length) (pp (xS aF.length (Zz aF) (Zz aF)) (pp (fl aF nn) (tt k0 nn)))))))))
theorem y9i (l0 : List R2) : Wb prog (Zy prog 174) (spmC l0) (Zi prog 174 [(.dat l0.length (Zz l0))] true []) (z8l l0) := (lb (fun k0 => (lr 11 174 [1, 0, 1, 0, 0] 1 77 [(2, .nils), (3, (ii 4))] (sl Kg 18 [] ⟨[], [], [some [2, 3]], []⟩ ⟨[], [], []⟩ [true] (tt k0 nn)))) (fun k0 => (sl Kg 41 [] ⟨[], [], spmN0, spmM0⟩ ⟨[], [], []⟩ [false] (tt k0 nn))))
theorem w4v (l0 : List R2) (n : Nat) (vs : List AVal) (h : Yb (Vc l0) n (z8l l0) = .ret vs) : Qx prog (Zy prog 174) (Zi prog 174 [(.dat l0.length (Zz l0))] true []) vs := by
 have := Zt (x5l l0) n _ (y9i l0)
 rwa [h] at this
end Go.Am
namespace Go.Am
open Go.Proofs
def z7j (s : R2) : Bool := decide (s.a < s.b) && (decide (s.a ≥ -1000000) && decide (s.b ≤ 1000000))
def Jw (l : List R2) : List R3 := l.flatMap fun s => [⟨s.a, 0, 1⟩, ⟨s.b, 0, -1⟩]
def Qi (out : List R2) (last : Int) (inn : Bool) (at' : Int) : List R2 :=
 bif !inn then out else bif last == at' then out else
 bif decide (0 < out.length) && ((rd out (out.length - 1)).b == last) then out.set (out.length - 1) ⟨(rd out (out.length - 1)).a, at'⟩ else out ++ [⟨last, at'⟩]
def swF : List R3 → Int → Int → Bool → List R2 → List R2
 | [], _, _, _, out => out
 | e :: r, o, last, inn, out => swF r (o + e.c) e.a (decide (o + e.c > 0)) (Qi out last inn e.a)
def swV (l : List R2) : List R2 := swF (z4m (Jw l)) 0 0 false []
def Xf (l : List R2) : List R2 := bif decide (400 < l.length) then [] else bif l.all z7j then swV l else []
def w9l (l : List R2) : Int := bif decide (400 < l.length) then 4 else bif l.all z7j then 0 else 8
def z9r (l : List R2) : Bool := true
def y6j (l : List R2) : List AVal := bif decide (400 < l.length) then [.nils, .int .i64 4] else bif l.all z7j then [.dat (swV l).length (Zz (swV l)), .int .i64 0] else [.nils, .int .i64 8]
theorem z2m (l : List R2) : (Jw l).length = 2 * l.length := by
 induction l with
 | nil => rfl
 | cons r l ih => show (_ :: _ :: Jw l).length = _; simp only [List.length_cons, ih]; omega
theorem z5y (out : List R2) (last : Int) (inn : Bool) (a : Int) : (Qi out last inn a).length ≤ out.length + 1 := by
 unfold Qi
 cases inn <;> simp only [Bool.not_true, Bool.not_false, cond_true, cond_false]
 ·omega
 ·cases (last == a) <;> simp only [cond_true, cond_false]
  ·cases (decide (0 < out.length) && ((rd out (out.length - 1)).b == last)) <;> simp
  ·omega
theorem z8k (e : R3) (r : List R3) (o last : Int) (inn : Bool) (out : List R2) : swF (e :: r) o last inn out = swF r (o + e.c) e.a (decide (o + e.c > 0)) (Qi out last inn e.a) := rfl
theorem v5t {a : Int} (k : Nat) (h : a = (k : Int)) : decide (a = Int.ofNat k) = true := decide_eq_true h
section
variable (l : List R2) (hl : l.length ≤ 400)
include hl
theorem w9i (L : List R3) (hL : L.length ≤ 800) (hE : ∀ i, i < L.length → (rd L i).b = 0 ∧ ((rd L i).c = 1 ∨ (rd L i).c = -1)) : ∀ (k i : Nat) (o last : Int) (inn : Bool) (out : List R2), i + k = L.length → -(i : Int) ≤ o → o ≤ i → out.length ≤ i →
  ∃ n, Yb (Vc l) n (.to (.h2 L (L.length : Int) (i : Int) o 0 last inn out)) = .ret [.dat (swF (L.drop i) o last inn out).length (Zz (swF (L.drop i) o last inn out)), .int .i64 0]
 | 0, i, o, last, inn, out, h, ho1, ho2, hout => by
  have _uhl := hl
  refine ⟨1, ?_⟩
  rw [Zv, List.drop_eq_nil_of_le (by omega)]
  simp (disch := omega) only [Vc, Zr, cond_false, Zm, swF]
 | k + 1, i, o, last, inn, out, h, ho1, ho2, hout => by
  obtain ⟨hb, hc⟩ := hE i (by omega)
  have hcl := z5y out last inn (rd L i).a
  obtain ⟨n, hn⟩ := w9i L hL hE k (i + 1) (o + (rd L i).c) (rd L i).a (decide (o + (rd L i).c > 0)) (Qi out last inn (rd L i).a) (by omega) (by rcases hc with hc | hc <;> omega) (by rcases hc with hc | hc <;> omega) (by omega)
  refine ⟨n + 1, ?_⟩
  rw [Yd (show i < L.length by omega), Zv]
  have hf : ∀ b, x4m b (decide ((0 : Int) > 0)) = b := fun b => rfl
  have hw : IntKind.wrap .i64 (o + (rd L i).c) = o + (rd L i).c := Zu (by rcases hc with hc | hc <;> omega)
  rw [z8k]
  have hf' : ∀ b, x4m b false = b := fun b => rfl
  have hz := v5t 0 hb
  unfold Qi at hn ⊢
  cases inn with
  | false =>
   simp only [Bool.not_false, cond_true] at hn ⊢
   simp (disch := omega) only [Vc, Bool.not_false, hz, hw, hf, hf', Zo, Zs, Yv, Zu, Zx, Zk, Nat.zero_add, Bool.and_true, cond_true]
   exact hn
  | true =>
   simp only [Bool.not_true, cond_false] at hn ⊢
   rcases Yp (last == (rd L i).a) with q | q
   ·rw [q] at hn ⊢
    simp only [cond_true] at hn ⊢
    simp (disch := omega) only [Vc, Bool.not_true, q, hz, hw, hf, hf', Zo, Zs, Yv, Zu, Zx, Zk, Nat.zero_add, Bool.and_true, cond_true, cond_false]
    exact hn
   ·rw [q] at hn ⊢
    simp only [cond_false] at hn ⊢
    by_cases h0 : 0 < out.length
    ·rw [decide_eq_true h0, Bool.true_and] at hn ⊢
     rcases Yp ((rd out (out.length - 1)).b == last) with q2 | q2
     ·rw [q2] at hn ⊢
      simp only [cond_true] at hn ⊢
      simp (disch := omega) only [Vc, Bool.not_true, q, q2, hz, hw, hf, hf', Zo, Ye, Zs, Yv, Zu, Zx, Zk, Zh, Nat.zero_add, Bool.and_true, cond_true, cond_false]
      exact hn
     ·rw [q2] at hn ⊢
      simp only [cond_false] at hn ⊢
      simp (disch := omega) only [Vc, Bool.not_true, q, q2, hz, hw, hf, hf', Zo, Ye, Zs, Yv, Yw, Ze, Yk, decide_true, Zu, Zx, Zk, Zh, Nat.zero_add, Bool.and_true, Bool.true_and, cond_true, cond_false]
      exact hn
    ·rw [decide_eq_false h0, Bool.false_and] at hn ⊢
     simp only [cond_false] at hn ⊢
     simp (disch := omega) only [Vc, Bool.not_true, q, hz, hw, hf, hf', Zo, Xx, Zs, Yv, Yw, Ze, Yk, decide_true, Zu, Zx, Zk, Nat.zero_add, Bool.and_true, Bool.true_and, cond_true, cond_false]
     exact hn
theorem w3a (h : l.all z7j = true) : ∀ e ∈ Jw l, bnd3 e = true ∧ e.b = 0 ∧ (e.c = 1 ∨ e.c = -1) := by
 have _uhl := hl
 intro e he
 obtain ⟨s, hs, h1⟩ := List.mem_flatMap.1 he
 have hv := List.all_eq_true.1 h s hs
 simp only [z7j, Bool.and_eq_true, decide_eq_true_eq] at hv
 simp only [List.mem_cons, List.not_mem_nil, or_false] at h1
 rcases h1 with rfl | rfl
 ·exact ⟨decide_eq_true (by simp only; omega), rfl, .inl rfl⟩
 ·exact ⟨decide_eq_true (by simp only; omega), rfl, .inr rfl⟩
theorem w9j (hv : l.all z7j = true) : ∀ (k i : Nat) (acc : List R3), i + k = l.length → acc = Jw (l.take i) → ∃ n, Yb (Vc l) n (.to (.h1 acc (i : Int))) = .ret [.dat (swV l).length (Zz (swV l)), .int .i64 0]
 | 0, i, acc, h, ha => by
  have e : acc = Jw l := by rw [ha, List.take_of_length_le (by omega)]
  subst e
  have hle := z2m l
  have eM := w3a l hl hv
  have hb : y6d (Jw l) = true := List.all_eq_true.2 fun e he => (eM e he).1
  obtain ⟨hp, _⟩ := z0f (Jw l) hb
  have hpl := hp.length_eq
  obtain ⟨n, hn⟩ := w9i l hl (z4m (Jw l)) (by omega) (fun i hi => by
   rw [Xq hi]
   exact (eM _ (hp.mem_iff.1 (List.getElem_mem hi))).2) (z4m (Jw l)).length 0 0 0 false [] (Nat.zero_add _) (by omega) (by omega) (Nat.zero_le _)
  refine ⟨n + 1, ?_⟩
  rw [Zv]
  simp (disch := omega) only [Vc, Za, Zj, hb, Zr, Yv, Yw, decide_true, cond_true, cond_false]
  rw [← hpl]
  simp only [z0t, List.drop_zero] at hn
  exact hn
 | k + 1, i, acc, h, ha => by
  have hle := z2m (l.take i)
  have eZ : acc.length ≤ 2 * i := by rw [ha, hle]; simp; omega
  obtain ⟨n, hn⟩ := w9j hv k (i + 1) (acc ++ Jw [rd l i]) (by omega) (by
   rw [ha, List.take_add_one]
   have : l[i]? = some (rd l i) := by rw [Xq (show i < l.length by omega)]; exact List.getElem?_eq_getElem _
   rw [this]
   simp [Jw])
  refine ⟨n + 1, ?_⟩
  rw [Zv]
  simp (disch := omega) only [Vc, Zo, Zs, Yq, Yw, Ze, Yk, decide_true, Zu, Zx, Zk, Nat.zero_add, Bool.and_true, Bool.true_and, cond_true]
  exact hn
theorem w9k : ∀ (k i : Nat), i + k = l.length → (∀ s ∈ l.take i, z7j s = true) → ∃ n, Yb (Vc l) n (.to (.h0 (i : Int))) = .ret (bif l.all z7j then [.dat (swV l).length (Zz (swV l)), .int .i64 0] else [.nils, .int .i64 8])
 | 0, i, h, ht => by
  have hv : l.all z7j = true := List.all_eq_true.2 fun s hs => ht s (by rw [List.take_of_length_le (by omega)]; exact hs)
  obtain ⟨n, hn⟩ := w9j l hl hv l.length 0 [] (Nat.zero_add _) rfl
  refine ⟨n + 1, ?_⟩
  rw [Zv, hv, cond_true]
  simp (disch := omega) only [Vc, Zr, cond_false]
  exact hn
 | k + 1, i, h, ht => by
  have hi : i < l.length := by omega
  rcases Yp (z7j (rd l i)) with q | q
  ·obtain ⟨n, hn⟩ := w9k k (i + 1) (by omega) (fun s hs => by
    rw [List.take_add_one] at hs
    have e : l[i]? = some (rd l i) := by rw [Xq hi]; exact List.getElem?_eq_getElem _
    rw [e] at hs
    simp only [Option.toList_some, List.mem_append, List.mem_singleton] at hs
    rcases hs with hs | rfl
    ·exact ht s hs
    ·exact q)
   refine ⟨n + 1, ?_⟩
   rw [Zv]
   simp only [z7j, Bool.and_eq_true, decide_eq_true_eq] at q
   simp (disch := omega) only [Vc, Zo, Xt, w3d, Zs, Zu, Zx, Zk, Bool.not_true, Bool.and_true, cond_true, cond_false]
   exact hn
  ·have hv : l.all z7j = false := Bool.eq_false_iff.2 fun e => by
    have := List.all_eq_true.1 e (rd l i) (by rw [Xq hi]; exact List.getElem_mem hi)
    rw [this] at q; cases q
   refine ⟨1, ?_⟩
   rw [Zv, hv, cond_false]
   unfold z7j at q
   rcases Yp (decide ((rd l i).a < (rd l i).b)) with q1 | q1 <;> rcases Yp (decide ((rd l i).a ≥ -1000000)) with q2 | q2 <;> rcases Yp (decide ((rd l i).b ≤ 1000000)) with q3 | q3 <;>
    rw [q1, q2, q3] at q <;> first
    | (exfalso; revert q; decide)
    | simp (disch := omega) only [Vc, q1, q2, q3, Zo, w3d, Zs, Zu, Zx, Zk, Bool.not_true, Bool.not_false, Bool.and_true, cond_true, cond_false, Zm]
end
theorem v3n (l : List R2) : ∃ n, Yb (Vc l) n (z8l l) = .ret (y6j l) := by
 unfold z8l y6j
 by_cases h : 400 < l.length
 ·refine ⟨0, ?_⟩
  rw [decide_eq_true h, Ye (show (l.length : Int) > 400 by omega)]; rfl
 ·obtain ⟨n, hn⟩ := w9k l (by omega) l.length 0 (Nat.zero_add _) (fun s hs => by simp at hs)
  refine ⟨n, ?_⟩
  rw [decide_eq_false h, Xx (show ¬ (l.length : Int) > 400 by omega), cond_false, cond_false]
  exact hn
end Go.Am
namespace Go.Am
open Go.Proofs.Tryz
open Go.Proofs
def fSpm : List AVal → Option (AVal × Bool)
 | [a1] => match asL R2 a1 with
  | some (L1, g1, n1) => some (.tup [.dat (Xf L1).length (Zz (Xf L1)), .int .i64 (w9l L1)], isT R2 n1 g1 && z9r L1)
  | _ => none
 | _ => none
theorem v7g {S : Specs} (hS : Zq prog S) : Zq prog (S.with y7f fSpm) := by
 refine w2t hS (by kernel_rfl) fun args v h => ?_
 unfold fSpm at h
 split at h
 ·rename_i a1
  split at h
  ·rename_i L1 g1 n1 e1
   simp only [Option.some.injEq, Prod.mk.injEq, Bool.and_eq_true] at h
   obtain ⟨rfl, ho1, hw⟩ := h
   obtain ⟨N, hN⟩ := v3n L1
   refine ⟨_, y6j L1, (.cons (asL_le e1 ho1) .nil), ?_, w4v L1 N _ hN, 3, ?_⟩
   ·unfold Xf w9l y6j
    cases decide (400 < L1.length) <;> simp only [cond_true, cond_false]
    ·cases L1.all z7j <;> simp only [cond_true, cond_false]
     ·exact fun ρ u hu => z1t (.cons (Jn R2) (RLe.refl _)) ρ u hu
     ·exact fun ρ u hu => hu
    ·exact fun ρ u hu => z1t (.cons (Jn R2) (RLe.refl _)) ρ u hu
   ·unfold y6j
    cases decide (400 < L1.length) <;> simp only [cond_true, cond_false]
    ·cases L1.all z7j <;> rfl
    ·rfl
  ·cases h
 ·cases h
def T6 : Specs := T5.with y7f fSpm
theorem Ut : Zq prog T6 := v7g Kg
end Go.Am
namespace Go.Am
open Go.Proofs Go.Sort Go.Shelf Go.RowKit Go.Lib
theorem x2k {γ : Type} (a b : Bool) (x y : γ) : (bif a && b then x else y) = bif a then (bif b then x else y) else y := by cases a <;> rfl
theorem y5n {γ : Type} (a : Bool) (x y : γ) : (bif !a then x else y) = bif a then y else x := by cases a <;> rfl
structure Dim (α β : Type) where
 lo : α → Int
 hi : α → Int
 pr : α → β
 put : Int → Int → β → α
 ext : Int → α → α
 mak : List β → List β
 same : List β → List β → Bool
structure Sw (α β : Type) where
 out : List α
 last : List β
 first : Nat
 fin : Int
def Jk (zs : List Int) : List Int := compact (Yh zs)
theorem z6y (zs : List Int) : w8v (Yh zs) = (Jk zs).length := rfl
theorem Wj (zs : List Int) : (Yh zs).length = zs.length := List.length_mergeSort zs
theorem z5w (zs : List Int) : (Jk zs).length ≤ zs.length := by
 have := compact_length_le (Yh zs)
 rw [Wj] at this
 exact this
theorem Jv (zs : List Int) (i : Nat) (h : i < (Jk zs).length) : rd (Xy (Yh zs)) i = rd (Jk zs) i := by
 change i < (compact (Yh zs)).length at h
 show rd (compact (Yh zs) ++ _) i = rd (compact (Yh zs)) i
 rw [Xq (by rw [List.length_append]; exact Nat.lt_add_right _ h), Xq h, List.getElem_append_left h]
theorem Kb (zs : List Int) : Zg zs.length (cOf (Zz (Yh zs))) = Yh zs := by
 have := Uj (Yh zs)
 rw [Wj] at this
 exact this
namespace Dim
variable {α β : Type} (D : Dim α β) (l : List α)
def ends : List Int := l.flatMap fun r => [D.lo r, D.hi r]
def cuts : List Int := Jk (D.ends l)
def inn (x : Int) : List β := (l.filter fun r => decide (D.lo r ≤ x) && decide (x < D.hi r)).map D.pr
def sec (x : Int) : List β := D.mak (D.inn l x)
def grow (out : List α) (k : Nat) (x : Int) : List α := out.take k ++ (out.drop k).map (D.ext x)
def one (x x' : Int) (s : Sw α β) : Sw α β :=
 bif decide (0 < (D.sec l x).length) && ((s.fin == x) && D.same s.last (D.sec l x)) then ⟨D.grow s.out s.first x', s.last, s.first, x'⟩
 else ⟨s.out ++ (D.sec l x).map (D.put x x'), D.sec l x, s.out.length, x'⟩
def go : Nat → Nat → Sw α β → Sw α β
 | 0, _, s => s
 | k + 1, i, s => go k (i + 1) (D.one l (rd (D.cuts l) i) (rd (D.cuts l) (i + 1)) s)
def out : List α := (D.go l ((D.cuts l).length - 1) 0 ⟨[], [], 0, 0⟩).out
theorem ends_length : (D.ends l).length = 2 * l.length := by
 induction l with
 | nil => rfl
 | cons r l ih => show (_ :: _ :: D.ends l).length = _; simp only [List.length_cons, ih]; omega
theorem cuts_length : (D.cuts l).length ≤ 2 * l.length := by
 have := z5w (D.ends l)
 rw [D.ends_length] at this
 exact this
theorem ends_append (m : List α) : D.ends (l ++ m) = D.ends l ++ D.ends m := by simp [ends]
theorem inn_append (m : List α) (x : Int) : D.inn (l ++ m) x = D.inn l x ++ D.inn m x := by simp [inn]
theorem inn_length (x : Int) : (D.inn l x).length ≤ l.length := by simpa [inn] using List.length_filter_le _ l
theorem inn_t (r : α) (x : Int) (h1 : D.lo r ≤ x) (h2 : x < D.hi r) : D.inn [r] x = [D.pr r] := by simp [inn, h1, h2]
theorem inn_f1 (r : α) (x : Int) (h1 : ¬ D.lo r ≤ x) : D.inn [r] x = [] := by simp [inn, h1]
theorem inn_f2 (r : α) (x : Int) (h1 : ¬ x < D.hi r) : D.inn [r] x = [] := by simp [inn, h1]
theorem grow_nil (out : List α) (k : Nat) (x : Int) (h : out.length ≤ k) : D.grow out k x = out := by
 unfold grow; rw [List.drop_eq_nil_of_le h, List.map_nil, List.append_nil, List.take_of_length_le h]
theorem grow_length (out : List α) (k : Nat) (x : Int) : (D.grow out k x).length = out.length := by
 unfold grow; simp; omega
theorem grow_set [Xz α] (out : List α) (j : Nat) (x : Int) (h : j < out.length) : D.grow (out.set j (D.ext x (rd out j))) (j + 1) x = D.grow out j x := by
 unfold grow
 rw [Yd h, List.map_cons]
 have e1 : (out.set j (D.ext x (rd out j))).take (j + 1) = out.take j ++ [D.ext x (rd out j)] := by
  apply List.ext_getElem
  ·simp; omega
  ·intro n h1 h2
   simp only [List.getElem_take, List.getElem_set]
   by_cases e : j = n
   ·subst e
    rw [if_pos rfl, List.getElem_append_right (by simp only [List.length_take]; omega)]
    simp
   ·rw [if_neg e, List.getElem_append_left (by simp at h1 ⊢; omega), List.getElem_take]
 have e2 : (out.set j (D.ext x (rd out j))).drop (j + 1) = out.drop (j + 1) := by
  rw [List.drop_set]; rw [if_pos (by omega)]
 rw [e1, e2, List.append_assoc]; rfl
theorem one_length (x x' : Int) (s : Sw α β) : (D.one l x x' s).out.length ≤ s.out.length + (D.sec l x).length := by
 unfold one
 cases (decide (0 < (D.sec l x).length) && ((s.fin == x) && D.same s.last (D.sec l x))) <;> simp [grow_length]
end Dim
end Go.Am
namespace Go.Am
open Go.Proofs.Tryz
open Go.Proofs
inductive vl4S where
def vl4C (bP : Int) (bQ : Int) (bR : Int) (bL : Int) : vl4S → Cfg
 := nofun
def y9b (bP : Int) (bQ : Int) (bR : Int) (bL : Int) : vl4S → Wa vl4S
 := nofun
def z8j (bP : Int) (bQ : Int) (bR : Int) (bL : Int) : Wa vl4S := (bif (decide (bP < bR)) then (bif (decide (bQ < bL)) then (bif (decide (bP ≥ (-1000000))) then (bif (decide (bP ≤ 1000000)) then (bif (decide (bR ≥ (-1000000))) then (bif (decide (bR ≤ 1000000)) then (bif (decide (bQ ≥ (-1000000))) then (bif (decide (bQ ≤ 1000000)) then (bif (decide (bL ≥ (-1000000))) then (.ret [(.bool (decide (bL ≤ 1000000)))]) else (.ret [(.bool false)])) else (.ret [(.bool false)])) else (.ret [(.bool false)])) else (.ret [(.bool false)])) else (.ret [(.bool false)])) else (.ret [(.bool false)])) else (.ret [(.bool false)])) else (.ret [(.bool false)])) else (.ret [(.bool false)]))
theorem x5e (bP : Int) (bQ : Int) (bR : Int) (bL : Int) : ∀ s, Wb prog (Zy prog 153) (vl4C bP bQ bR bL) (vl4C bP bQ bR bL s) (y9b bP bQ bR bL s)
 := nofun
theorem y9c (bP : Int) (bQ : Int) (bR : Int) (bL : Int) : Wb prog (Zy prog 153) (vl4C bP bQ bR bL) (Zi prog 153 [(.agg [(.int .i64 bP), (.int .i64 bQ), (.int .i64 bR), (.int .i64 bL)])] true []) (z8j bP bQ bR bL) := (lb (fun k0 => (lb (fun k1 => (lb (fun k2 => (lb (fun k3 => (lb (fun k4 => (lb (fun k5 => (lb (fun k6 => (lb (fun k7 => (lb (fun k8 => (lr 35 3 [1, 1, 1, 1, 1, 1, 0] 1 15 [(2, (.bool (decide (bL ≤ 1000000))))] (sl Ut 101 [] ⟨[], [], [some [2]], []⟩ ⟨[], [], []⟩ (trs 25 []) (tt k8 (tt k7 (tt k6 (tt k5 (tt k4 (tt k3 (tt k2 (tt k1 (tt k0 nn)))))))))))) (fun k8 => (lr 35 3 [1, 1, 1, 1, 1, 1, 0] 1 15 [(2, (.bool false))] (sl Ut 101 [] ⟨[], [], [some [2]], []⟩ ⟨[], [], []⟩ (trs 23 [false, false]) (tt k8 (tt k7 (tt k6 (tt k5 (tt k4 (tt k3 (tt k2 (tt k1 (tt k0 nn)))))))))))))) (fun k7 => (lr 35 3 [1, 1, 1, 1, 1, 1, 0] 1 15 [(2, (.bool false))] (sl Ut 86 [] ⟨[], [], [some [2]], []⟩ ⟨[], [], []⟩ (trs 20 [false, false, false]) (tt k7 (tt k6 (tt k5 (tt k4 (tt k3 (tt k2 (tt k1 (tt k0 nn))))))))))))) (fun k6 => (lr 35 3 [1, 1, 1, 1, 1, 1, 0] 1 15 [(2, (.bool false))] (sl Ut 86 [] ⟨[], [], [some [2]], []⟩ ⟨[], [], []⟩ (trs 18 [false, false, false, false, false]) (tt k6 (tt k5 (tt k4 (tt k3 (tt k2 (tt k1 (tt k0 nn)))))))))))) (fun k5 => (lr 35 3 [1, 1, 1, 1, 1, 1, 0] 1 15 [(2, (.bool false))] (sl Ut 71 [] ⟨[], [], [some [2]], []⟩ ⟨[], [], []⟩ (trs 15 [false, false, false, false, false, false]) (tt k5 (tt k4 (tt k3 (tt k2 (tt k1 (tt k0 nn))))))))))) (fun k4 => (lr 35 3 [1, 1, 1, 1, 1, 1, 0] 1 15 [(2, (.bool false))] (sl Ut 71 [] ⟨[], [], [some [2]], []⟩ ⟨[], [], []⟩ (trs 13 [false, false, false, false, false, false, false, false]) (tt k4 (tt k3 (tt k2 (tt k1 (tt k0 nn)))))))))) (fun k3 => (lr 35 3 [1, 1, 1, 1, 1, 1, 0] 1 15 [(2, (.bool false))] (sl Ut 56 [] ⟨[], [], [some [2]], []⟩ ⟨[], [], []⟩ (trs 10 [false, false, false, false, false, false, false, false, false]) (tt k3 (tt k2 (tt k1 (tt k0 nn))))))))) (fun k2 => (lr 35 3 [1, 1, 1, 1, 1, 1, 0] 1 15 [(2, (.bool false))] (sl Ut 56 [] ⟨[], [], [some [2]], []⟩ ⟨[], [], []⟩ (trs 8 [false, false, false, false, false, false, false, false, false, false, false]) (tt k2 (tt k1 (tt k0 nn)))))))) (fun k1 => (lr 35 3 [1, 1, 1, 1, 1, 1, 0] 1 15 [(2, (.bool false))] (sl Ut 41 [] ⟨[], [], [some [2]], []⟩ ⟨[], [], []⟩ (trs 5 [false, false, false, false, false, false, false, false, false, false, false, false]) (tt k1 (tt k0 nn))))))) (fun k0 => (lr 35 3 [1, 1, 1, 1, 1, 1, 0] 1 15 [(2, (.bool false))] (sl Ut 41 [] ⟨[], [], [some [2]], []⟩ ⟨[], [], []⟩ [false, false, false, false, false, false, false, false, false, false, false, false, false, false, false, false, false] (tt k0 nn)))))
theorem w4s (bP : Int) (bQ : Int) (bR : Int) (bL : Int) (n : Nat) (vs : List AVal) (h : Yb (y9b bP bQ bR bL) n (z8j bP bQ bR bL) = .ret vs) : Qx prog (Zy prog 153) (Zi prog 153 [(.agg [(.int .i64 bP), (.int .i64 bQ), (.int .i64 bR), (.int .i64 bL)])] true []) vs := by
 have := Zt (x5e bP bQ bR bL) n _ (y9c bP bQ bR bL)
 rwa [h] at this
inductive madS where
 | h0 (v16 : Int) (aA : List Int)
 | h1 (v4 : Int) (aT : List R4) (bV : List R2) (bX : Int) (bZ : Int) (aU : Nat) (bB : List Int)
 | h2 (v4 : Int) (v38 : Int) (aT : List R4) (bV : List R2) (bX : Int) (bZ : Int) (aU : Nat) (bB : List Int) (aF : Int) (cW : Int) (aJ : List R2)
 | h3 (v1 : Int) (v2 : Int) (v71 : List R2) (v72 : Int) (v73 : Int) (cD : List R2) (aX : Int) (aD : List R4) (aS : List R2) (aV : Int) (aU : Nat) (bB : List Int) (aF : List R2)
 | h4 (v2 : Int) (v8 : Int) (dA : Int) (cD : List R2) (aX : Int) (aD : List R4) (aS : List R2) (aV : Int) (bG : Int) (cT : Nat) (cZ : List Int) (aJ : List R2)
def madC (l0 : List R4) : madS → Cfg
 | .h0 v16 aA => ⟨⟨34, 0, true⟩, none, (Zb prog 173 [1, 1, 0, 1, 0, 0, 1, 1, 0, 0, 1, 1, 0, 0] 0), none, (Zy prog 15), ⟨Ym [(1, (.ptr 0 0)), (3, (.ptr 2 0)), (8, (.sl 1 0 1 (.un 1))), (9, (ii 1)), (10, (ii 0)), (14, (.dat l0.length (Zz l0))), (15, (ii (l0.length : Int))), (16, (ii v16))], Uc [⟨[(.sl 1 0 1 (.un 1))], 173, none⟩, ⟨[(.dat l0.length (Zz l0))], 105, none⟩, ⟨[(.sla 4 1 0 aA.length (.un 1))], 47, none⟩, ⟨[.nils, .nils, (ii 0), (ii 0)], 188, none⟩, ⟨rows aA.length (Zz aA), 3, some ⟨1, aA.length, (Zz aA)⟩⟩] 0, 5, [], true⟩, [⟨⟨29, 0, true⟩, (Vr prog 154 [1, 1, 0, 0] 2), (Zb prog 154 [1, 1, 0, 0] 1), none, (Zy prog 77), Ym [(2, .nils), (3, (ii 0)), (4, (.ptr 3 0)), (9, (.sl 1 0 1 (.un 1)))]⟩], .leaf⟩
 | .h1 v4 aT bV bX bZ aU bB => ⟨⟨76, 0, true⟩, none, (Zb prog 186 [1, 0, 0] 0), none, [], ⟨Ym [(0, (.yld 0)), (1, (.ptr 2 0)), (2, (.ptr 4 0)), (4, (ii v4))], z5k [(1, ⟨[(.sla 6 4 0 aT.length (.un 4)), (.dat bV.length (Zz bV)), (ii bX), (ii bZ)], 188, none⟩), (2, ⟨[(.sla 3 1 0 aU (.un 1))], 47, none⟩), (3, ⟨rows bB.length (Zz bB), 3, some ⟨1, bB.length, (Zz bB)⟩⟩), (4, ⟨[(.sl 5 0 1 (.un 1))], 173, none⟩), (5, ⟨[(.dat l0.length (Zz l0))], 105, none⟩), (6, ⟨rows aT.length (Zz aT), 114, some ⟨4, aT.length, (Zz aT)⟩⟩)], 7, [], true⟩, [⟨⟨29, 0, true⟩, none, (.inRangeFunc 0 :: (Zb prog 154 [1, 1, 0, 1, 0] 1)), none, (Zy prog 77), Ym [(2, .nils), (3, (ii 0)), (4, (.ptr 1 0))]⟩], (z5m [(0, ⟨.ready, none, 29, Ym [(4, (.ptr 1 0))], [11], (Xb prog 154 [1, 1, 0, 1, 0, 0]), (Xb prog 154 [1, 1, 0, 1, 0, 1])⟩)])⟩
 | .h2 v4 v38 aT bV bX bZ aU bB aF cW aJ => ⟨⟨76, 0, true⟩, none, (Zb prog 186 [1, 0, 0, 1, 0, 0, 1, 0, 1, 0, 0, 1, 1, 0, 0, 1, 1, 0, 0] 0), none, [], ⟨Ym [(0, (.yld 0)), (1, (.ptr 2 0)), (2, (.ptr 4 0)), (4, (ii v4)), (5, (.ptr 6 0)), (6, (ii 0)), (29, (.sl 5 0 1 (.un 1))), (30, (ii 1)), (31, (ii 0)), (36, (.dat l0.length (Zz l0))), (37, (ii (l0.length : Int))), (38, (ii v38))], z5k [(1, ⟨[(.sla 9 4 0 aT.length (.un 4)), (.dat bV.length (Zz bV)), (ii bX), (ii bZ)], 188, none⟩), (2, ⟨[(.sla 3 1 0 aU (.un 1))], 47, none⟩), (3, ⟨rows bB.length (Zz bB), 3, some ⟨1, bB.length, (Zz bB)⟩⟩), (4, ⟨[(.sl 5 0 1 (.un 1))], 173, none⟩), (5, ⟨[(.dat l0.length (Zz l0))], 105, none⟩), (6, ⟨[(ii aF), (ii cW), (.sl 7 0 1 (.ex 1))], 193, none⟩), (7, ⟨[(.sla 8 2 0 aJ.length (.un 2))], 158, none⟩), (8, ⟨rows aJ.length (Zz aJ), 110, some ⟨2, aJ.length, (Zz aJ)⟩⟩), (9, ⟨rows aT.length (Zz aT), 114, some ⟨4, aT.length, (Zz aT)⟩⟩)], 10, [], true⟩, [⟨⟨29, 0, true⟩, none, (.inRangeFunc 0 :: (Zb prog 154 [1, 1, 0, 1, 0] 1)), none, (Zy prog 77), Ym [(2, .nils), (3, (ii 0)), (4, (.ptr 1 0))]⟩], (z5m [(0, ⟨.ready, none, 29, Ym [(4, (.ptr 1 0))], [11], (Xb prog 154 [1, 1, 0, 1, 0, 0]), (Xb prog 154 [1, 1, 0, 1, 0, 1])⟩)])⟩
 | .h3 v1 v2 v71 v72 v73 cD aX aD aS aV aU bB aF => ⟨⟨94, 0, true⟩, none, (Zb prog 146 [1, 1, 1, 0, 0] 0), none, [], ⟨Ym [(0, (.ptr 0 0)), (1, (ii v1)), (2, (ii v2)), (71, (.dat v71.length (Zz v71))), (72, (ii v72)), (73, (ii v73))], z5k [(0, ⟨[(.sla 7 4 0 aD.length (.un 4)), (.dat aS.length (Zz aS)), (ii aV), (ii v2)], 188, none⟩), (2, ⟨[(.sla 3 1 0 aU (.un 1))], 47, none⟩), (3, ⟨rows bB.length (Zz bB), 3, some ⟨1, bB.length, (Zz bB)⟩⟩), (4, ⟨[(.sl 5 0 1 (.un 1))], 173, none⟩), (5, ⟨[(.dat l0.length (Zz l0))], 105, none⟩), (6, ⟨[(.dat aF.length (Zz aF))], 158, none⟩), (7, ⟨rows aD.length (Zz aD), 114, some ⟨4, aD.length, (Zz aD)⟩⟩)], 8, [], true⟩, [⟨⟨29, 0, true⟩, (Vr prog 154 [1, 1, 0, 1, 0, 1, 0, 1] 5), (Zb prog 154 [1, 1, 0, 1, 0, 1, 0, 1] 1), (some 1), [], Ym [(4, (.ptr 0 0)), (21, (ii v1)), (23, (ii v2)), (24, (.dat cD.length (Zz cD)))]⟩, ⟨⟨76, 0, true⟩, (Vr prog 186 [1, 0, 0, 1, 0, 0, 1, 1, 0] 2), (Zb prog 186 [1, 0, 0, 1, 0, 0, 1, 1, 0] 1), none, [], Ym [(0, (.yld 1)), (1, (.ptr 2 0)), (2, (.ptr 4 0)), (4, (ii aX)), (72, (.yld 1)), (73, (.agg [(ii v1), (ii v2), (.sl 6 0 1 (.ex 1))]))]⟩, ⟨⟨29, 0, true⟩, none, (.inRangeFunc 1 :: (Zb prog 154 [1, 1, 0, 1, 0] 1)), none, (Zy prog 77), Ym [(2, .nils), (3, (ii 0)), (4, (.ptr 0 0))]⟩], (z5m [(1, ⟨.busy, none, 29, Ym [(4, (.ptr 0 0))], [11], (Xb prog 154 [1, 1, 0, 1, 0, 0]), (Xb prog 154 [1, 1, 0, 1, 0, 1])⟩)])⟩
 | .h4 v2 v8 dA cD aX aD aS aV bG cT cZ aJ => ⟨⟨94, 0, true⟩, none, (Zb prog 146 [0, 1, 0, 0, 1, 0, 0] 0), none, [], ⟨Ym [(0, (.ptr 0 0)), (2, (ii v2)), (8, (ii v8))], z5k [(0, ⟨[(.sla 1 4 0 aD.length (.un 4)), (.dat aS.length (Zz aS)), (ii aV), (ii bG)], 188, none⟩), (1, ⟨rows aD.length (Zz aD), 114, some ⟨4, aD.length, (Zz aD)⟩⟩), (3, ⟨[(.sla 4 1 0 cT (.un 1))], 47, none⟩), (4, ⟨rows cZ.length (Zz cZ), 3, some ⟨1, cZ.length, (Zz cZ)⟩⟩), (5, ⟨[(.sl 6 0 1 (.un 1))], 173, none⟩), (6, ⟨[(.dat l0.length (Zz l0))], 105, none⟩), (7, ⟨[(.dat aJ.length (Zz aJ))], 158, none⟩)], 8, [], true⟩, [⟨⟨29, 0, true⟩, (Vr prog 154 [1, 1, 0, 1, 0, 1, 0, 1] 5), (Zb prog 154 [1, 1, 0, 1, 0, 1, 0, 1] 1), (some 2), [], Ym [(4, (.ptr 0 0)), (21, (ii dA)), (23, (ii v2)), (24, (.dat cD.length (Zz cD)))]⟩, ⟨⟨76, 0, true⟩, (Vr prog 186 [1, 0, 0, 1, 0, 0, 1, 1, 0] 2), (Zb prog 186 [1, 0, 0, 1, 0, 0, 1, 1, 0] 1), none, [], Ym [(0, (.yld 2)), (1, (.ptr 3 0)), (2, (.ptr 5 0)), (4, (ii aX)), (72, (.yld 2)), (73, (.agg [(ii dA), (ii v2), (.sl 7 0 1 (.ex 1))]))]⟩, ⟨⟨29, 0, true⟩, none, (.inRangeFunc 2 :: (Zb prog 154 [1, 1, 0, 1, 0] 1)), none, (Zy prog 77), Ym [(2, .nils), (3, (ii 0)), (4, (.ptr 0 0))]⟩], (z5m [(2, ⟨.busy, none, 29, Ym [(4, (.ptr 0 0))], [11], (Xb prog 154 [1, 1, 0, 1, 0, 0]), (Xb prog 154 [1, 1, 0, 1, 0, 1])⟩)])⟩
def madN0 : List (Option (List Nat)) := [some [1, 3, 8, 9, 10, 14, 15, 16], some [2, 3, 4, 9]]
def madM0 : List (Option (List Nat)) := []
def v5y : List (Option (List Nat)) := [some [0, 1, 2, 4], some [2, 3, 4]]
def v5z : List (Option (List Nat)) := [some [4], none, none, none, none, none, none]
def w6x : List (Option (List Nat)) := [some [0, 1, 2, 4, 5, 6, 29, 30, 31, 36, 37, 38], some [2, 3, 4]]
def w6z : List (Option (List Nat)) := [some [4], none, none, none, none, none, none, none, none, none]
def w6w : List (Option (List Nat)) := [some [0, 1, 2, 71, 72, 73], some [4, 21, 23, 24], some [0, 1, 2, 4, 72, 73], some [2, 3, 4]]
def w6y : List (Option (List Nat)) := [none, some [4], none, none, none, none, none, none]
def madN4 : List (Option (List Nat)) := [some [0, 2, 8], some [4, 21, 23, 24], some [0, 1, 2, 4, 72, 73], some [2, 3, 4]]
def madM4 : List (Option (List Nat)) := [none, none, some [4], none, none, none, none, none]
def Xp (l0 : List R4) : madS → Wa madS
 | .h0 v16 aA => (bif (decide (v16 < (l0.length : Int))) then (bif ((decide (0 ≤ v16 ∧ v16 < (l0.length : Int))) && true) then (bif (Nat.beq 1 1 && ((decide (0 + aA.length = aA.length)) && decide ((aA.length + 2 + 1) * (8 + 1) ≤ Jy))) then (.to (.h0 (IntKind.wrap .i64 (v16 + 1)) (aA ++ [(rd l0 v16.toNat).a, (rd l0 v16.toNat).c]))) else .stuck) else .stuck) else (bif (decide (aA.length < 4611686018427387904)) then (bif (decide (aA.length = aA.length)) then (.to (.h1 1 ([] : List R4) ([] : List R2) 0 0 (w8v (Zg aA.length (cOf (Zz (Yh (Zg aA.length (cOf (Zz aA)))))))) (Xy (Zg aA.length (cOf (Zz (Yh (Zg aA.length (cOf (Zz aA)))))))))) else .stuck) else .stuck))
 | .h1 v4 aT bV bX bZ aU bB => (bif (decide (v4 < ((aU : Nat) : Int))) then (bif ((decide (0 ≤ (IntKind.wrap .i64 (v4 - 1)) ∧ (IntKind.wrap .i64 (v4 - 1)) < ((aU : Nat) : Int))) && true) then (bif (decide ((0 + (Int.toNat (IntKind.wrap .i64 (v4 - 1)))) < bB.length)) then (bif ((decide (0 ≤ v4 ∧ v4 < ((aU : Nat) : Int))) && true) then (bif (decide ((0 + v4.toNat) < bB.length)) then (.to (.h2 v4 0 aT bV bX bZ aU bB (rd bB (0 + (Int.toNat (IntKind.wrap .i64 (v4 - 1))))) (rd bB (0 + v4.toNat)) ([] : List R2))) else .stuck) else .stuck) else .stuck) else .stuck) else (bif (decide ((aT.length : Int) > 400)) then (.ret [.nils, (.int .i64 4)]) else (.ret [(.dat aT.length (Zz aT)), (.int .i64 0)])))
 | .h2 v4 v38 aT bV bX bZ aU bB aF cW aJ => (bif (decide (v38 < (l0.length : Int))) then (bif ((decide (0 ≤ v38 ∧ v38 < (l0.length : Int))) && true) then (bif (decide ((rd l0 v38.toNat).a ≤ aF)) then (bif (decide (aF < (rd l0 v38.toNat).c)) then (bif (Nat.beq 2 2 && ((decide (0 + aJ.length = aJ.length)) && decide ((aJ.length + 1 + 1) * (16 + 1) ≤ Jy))) then (.to (.h2 v4 (IntKind.wrap .i64 (v38 + 1)) aT bV bX bZ aU bB aF cW (aJ ++ [(R2.mk (rd l0 v38.toNat).b (rd l0 v38.toNat).d)]))) else .stuck) else (.to (.h2 v4 (IntKind.wrap .i64 (v38 + 1)) aT bV bX bZ aU bB aF cW aJ))) else (.to (.h2 v4 (IntKind.wrap .i64 (v38 + 1)) aT bV bX bZ aU bB aF cW aJ))) else .stuck) else (bif (z9r (cvT aJ)) then (bif (decide ((((Xf (cvT aJ)).length : Nat) : Int) > 0)) then (bif (bZ == aF) then (bif (Vu (cvT bV) (cvT (Xf (cvT aJ)))) then (bif (Jf (cvT bV) (cvT (Xf (cvT aJ)))) then (.to (.h4 cW bX aF (Xf (cvT aJ)) v4 aT bV bX bZ aU bB aJ)) else (.to (.h3 aF cW (Xf (cvT aJ)) (((Xf (cvT aJ)).length : Nat) : Int) 0 (Xf (cvT aJ)) v4 aT (Xf (cvT aJ)) (aT.length : Int) aU bB aJ))) else .stuck) else (.to (.h3 aF cW (Xf (cvT aJ)) (((Xf (cvT aJ)).length : Nat) : Int) 0 (Xf (cvT aJ)) v4 aT (Xf (cvT aJ)) (aT.length : Int) aU bB aJ))) else (.to (.h3 aF cW (Xf (cvT aJ)) (((Xf (cvT aJ)).length : Nat) : Int) 0 (Xf (cvT aJ)) v4 aT (Xf (cvT aJ)) (aT.length : Int) aU bB aJ))) else .stuck))
 | .h3 v1 v2 v71 v72 v73 cD aX aD aS aV aU bB aF => (bif (decide (v73 < v72)) then (bif ((decide (0 ≤ v73 ∧ v73 < (v71.length : Int))) && true) then (bif (Nat.beq 4 4 && ((decide (0 + aD.length = aD.length)) && decide ((aD.length + 1 + 1) * (32 + 1) ≤ Jy))) then (.to (.h3 v1 v2 v71 v72 (IntKind.wrap .i64 (v73 + 1)) cD aX (aD ++ [(R4.mk v1 (rd v71 v73.toNat).a v2 (rd v71 v73.toNat).b)]) aS aV aU bB aF)) else .stuck) else .stuck) else (.to (.h1 (IntKind.wrap .i64 (aX + 1)) aD aS aV v2 aU bB)))
 | .h4 v2 v8 dA cD aX aD aS aV bG cT cZ aJ => (bif (decide (v8 < (aD.length : Int))) then (bif ((decide (0 ≤ v8 ∧ v8 < (aD.length : Int))) && true) then (bif (decide ((0 + v8.toNat) < aD.length)) then (.to (.h4 v2 (IntKind.wrap .i64 (v8 + 1)) dA cD aX (aD.set (0 + v8.toNat) (R4.mk (rd aD (0 + v8.toNat)).a (rd aD (0 + v8.toNat)).b v2 (rd aD (0 + v8.toNat)).d)) aS aV bG cT cZ aJ)) else .stuck) else .stuck) else (.to (.h1 (IntKind.wrap .i64 (aX + 1)) aD aS aV v2 cT cZ)))
def y4u (l0 : List R4) : Wa madS := (.to (.h0 0 ([] : List Int)))
theorem x6m (l0 : List R4) : ∀ s, Wb prog (Zy prog 154) (madC l0) (madC l0 s) (Xp l0 s)
 | .h0 v16 aA => (lb (fun k0 => (lo fun o0 => (lo fun o1 => (sl Ut 32 [] ⟨[0, 1, 2, 3, 7], [], madN0, madM0⟩ ⟨[], [.keep, .keep, .cells [.len (aA ++ [(rd l0 (tn v16)).a, (rd l0 (tn v16)).c]).length], .keep, .rowed 1 (aA ++ [(rd l0 (tn v16)).a, (rd l0 (tn v16)).c]).length (Zz (aA ++ [(rd l0 (tn v16)).a, (rd l0 (tn v16)).c]))], []⟩ [true] (pp (xL (aA.length + 2) (aA ++ [(rd l0 (tn v16)).a, (rd l0 (tn v16)).c]).length) (pp (xL (aA.length + 2) (aA ++ [(rd l0 (tn v16)).a, (rd l0 (tn v16)).c]).length) (pp (xS (aA.length + 2) (Zc (Zz aA) 0 aA.length 1 [(ii (rd l0 (tn v16)).a), (ii (rd l0 (tn v16)).c)]) (Zz (aA ++ [(rd l0 (tn v16)).a, (rd l0 (tn v16)).c]))) (pp (pp (xF (Zc (Zz aA) 0 aA.length 1 [(ii (rd l0 (tn v16)).a), (ii (rd l0 (tn v16)).c)])) nn) (ww o1 (ww o0 (tt k0 nn))))))))))) (fun k0 => (lo fun o0 => (lo fun o1 => (sl Ut 46 [(114, 4, Zz ([] : List R4))] ⟨[5, 3, 2, 4, 0, 1, 6], [], v5y, v5z⟩ ⟨[], [.keep, .cells [.grow 6 4, .list 0 (Zz ([] : List R2)), .keep, .keep], .keep, .rowed 1 (Xy (Zg aA.length (cOf (Zz (Yh (Zg aA.length (cOf (Zz aA)))))))).length (Zz (Xy (Zg aA.length (cOf (Zz (Yh (Zg aA.length (cOf (Zz aA))))))))), .keep, .keep, .keep], []⟩ [false, false] (pp (xL aA.length (Xy (Zg aA.length (cOf (Zz (Yh (Zg aA.length (cOf (Zz aA)))))))).length (by first | exact z0o _ _ | exact Vb rfl)) (pp (xS aA.length (Zz (Xy (Zg aA.length (cOf (Zz (Yh (Zg aA.length (cOf (Zz aA))))))))) (Zz (Xy (Zg aA.length (cOf (Zz (Yh (Zg aA.length (cOf (Zz aA)))))))))) (pp (fl (Xy (Zg aA.length (cOf (Zz (Yh (Zg aA.length (cOf (Zz aA)))))))) (fl ([] : List R4) nn)) (pp (pp (xG (Nat.beq 1 1)) (pp (xG (Nat.beq 1 1)) (pp (xG (Nat.beq 0 0)) (pp (xG (decide (aA.length = aA.length))) (pp (xG (isI (Zz (Yh (Zg aA.length (cOf (Zz aA))))))) (xG (decide (aA.length < 4611686018427387904)))))))) (pp (pp (xG (Nat.beq 1 1)) (pp (xG (Nat.beq 1 1)) (pp (xG (Nat.beq 0 0)) (pp (xG (decide (aA.length = aA.length))) (pp (xG (isI (Zz aA))) (xG (decide (aA.length < 4611686018427387904)))))))) (tt k0 nn)))))))))))
 | .h1 v4 aT bV bX bZ aU bB => (lb (fun k0 => (lo fun o0 => (lo fun o1 => (lo fun o2 => (lo fun o3 => (sl Ut 48 [(110, 2, Zz ([] : List R2))] ⟨[0, 1, 2, 3, 4, 5, 7, 8, 9, 6], [], w6x, w6z⟩ ⟨[], (kpB 7 [.cells [.grow 8 2], .keep, .keep]), []⟩ (trs 3 []) (pp (fl bB (fl ([] : List R2) (fl aT nn))) (ww o3 (ww o2 (ww o1 (ww o0 (tt k0 nn)))))))))))) (fun k0 => (lb (fun k1 => (lr 29 3 [1, 1, 1, 1, 1, 1, 0] 1 77 [(2, .nils), (3, (ii 4))] (sl Ut 43 [] ⟨[], [], [some [2, 3]], []⟩ ⟨[], [], []⟩ [false, true] (tt k1 (tt k0 nn))))) (fun k1 => (lr 29 3 [1, 1, 1, 1, 1, 1, 0] 1 77 [(2, (.dat aT.length (Zz aT))), (3, (ii 0))] (sl Ut 48 [] ⟨[], [6], [some [2, 3]], []⟩ ⟨[(2, .frz aT.length aT.length (Zz aT) (Zz aT))], [], []⟩ [false, false] (pp (xZ (z3m 4 4 0 aT.length aT.length (Zz aT)) aT.length (Zz aT)) (pp (xL aT.length aT.length) (pp (xS aT.length (Zz aT) (Zz aT)) (pp (fl aT nn) (tt k1 (tt k0 nn))))))))))))
 | .h2 v4 v38 aT bV bX bZ aU bB aF cW aJ => (lb (fun k0 => (lo fun aG => (lb (fun k1 => (lb (fun k2 => (lo fun o0 => (sl Ut 39 [] ⟨[0, 1, 2, 3, 4, 5, 6, 7, 12, 9], [], w6x, w6z⟩ ⟨[], (kpB 7 [.cells [.len (aJ ++ [(R2.mk (rd l0 (tn v38)).b (rd l0 (tn v38)).d)]).length], .rowed 2 (aJ ++ [(R2.mk (rd l0 (tn v38)).b (rd l0 (tn v38)).d)]).length (Zz (aJ ++ [(R2.mk (rd l0 (tn v38)).b (rd l0 (tn v38)).d)])), .keep]), []⟩ (trs 7 []) (pp (xL (aJ.length + 1) (aJ ++ [(R2.mk (rd l0 (tn v38)).b (rd l0 (tn v38)).d)]).length) (pp (xL (aJ.length + 1) (aJ ++ [(R2.mk (rd l0 (tn v38)).b (rd l0 (tn v38)).d)]).length) (pp (xS (aJ.length + 1) (Zc (Zz aJ) 0 aJ.length 2 [(ii (rd l0 (tn v38)).b), (ii (rd l0 (tn v38)).d)]) (Zz (aJ ++ [(R2.mk (rd l0 (tn v38)).b (rd l0 (tn v38)).d)]))) (pp (fl bB (pp (xF (Zc (Zz aJ) 0 aJ.length 2 [(ii (rd l0 (tn v38)).b), (ii (rd l0 (tn v38)).d)])) (fl aT nn))) (ww o0 (tt k2 (tt k1 (ww aG (tt k0 nn)))))))))))) (fun k2 => (sl Ut 39 [] ⟨(List.range 10), [], w6x, w6z⟩ ⟨[], [], []⟩ (trs 6 [false]) (pp (fl bB (fl aJ (fl aT nn))) (tt k2 (tt k1 (ww aG (tt k0 nn))))))))) (fun k1 => (sl Ut 39 [] ⟨(List.range 10), [], w6x, w6z⟩ ⟨[], [], []⟩ [true, false, false, false, false, false, false] (pp (fl bB (fl aJ (fl aT nn))) (tt k1 (ww aG (tt k0 nn))))))))) (fun k0 => (Vx (sl Ut (C' := ⟨⟨29, 0, true⟩, (Vr prog 154 [1, 1, 0, 1, 0, 1, 0, 0] 4), (Zb prog 154 [1, 1, 0, 1, 0, 1, 0, 0] 1), (some 0), [], ⟨Ym [(4, (.ptr 1 0)), (5, (.ptr 3 0)), (16, (.dat aJ.length (Zz aJ)))], z5k [(1, ⟨[(.sla 2 4 0 aT.length (.un 4)), (.dat bV.length (Zz bV)), (ii bX), (ii bZ)], 188, none⟩), (2, ⟨rows aT.length (Zz aT), 114, some ⟨4, aT.length, (Zz aT)⟩⟩), (3, ⟨[(ii aF), (ii cW), (.sl 4 0 1 (.ex 1))], 193, none⟩), (4, ⟨[(.dat aJ.length (Zz aJ))], 158, none⟩), (5, ⟨[(.sla 6 1 0 aU (.un 1))], 47, none⟩), (6, ⟨rows bB.length (Zz bB), 3, some ⟨1, bB.length, (Zz bB)⟩⟩), (7, ⟨[(.sl 8 0 1 (.un 1))], 173, none⟩), (8, ⟨[(.dat l0.length (Zz l0))], 105, none⟩)], 9, [], true⟩, [⟨⟨76, 0, true⟩, (Vr prog 186 [1, 0, 0, 1, 0, 0, 1, 1, 0] 2), (Zb prog 186 [1, 0, 0, 1, 0, 0, 1, 1, 0] 1), none, [], Ym [(0, (.yld 0)), (1, (.ptr 5 0)), (2, (.ptr 7 0)), (4, (ii v4)), (72, (.yld 0)), (73, (.agg [(ii aF), (ii cW), (.sl 4 0 1 (.ex 1))]))]⟩, ⟨⟨29, 0, true⟩, none, (.inRangeFunc 0 :: (Zb prog 154 [1, 1, 0, 1, 0] 1)), none, (Zy prog 77), Ym [(2, .nils), (3, (ii 0)), (4, (.ptr 1 0))]⟩], (z5m [(0, ⟨.busy, none, 29, Ym [(4, (.ptr 1 0))], [11], (Xb prog 154 [1, 1, 0, 1, 0, 0]), (Xb prog 154 [1, 1, 0, 1, 0, 1])⟩)])⟩) 37 [] ⟨[0, 1, 9, 10, 7, 2, 3, 4, 5], [8], [some [4, 5, 16], some [0, 1, 2, 4, 72, 73], some [2, 3, 4]], [some [4], none, none, none, none, none, none, none, none]⟩ ⟨[(16, .frz aJ.length aJ.length (Zz aJ) (Zz aJ))], [.keep, .keep, .keep, .keep, .cells [.frz aJ.length aJ.length (Zz aJ) (Zz aJ)], .keep, .keep, .keep, .keep], []⟩ [false, false] (pp (xZ (z3m 2 2 0 aJ.length aJ.length (Zz aJ)) aJ.length (Zz aJ)) (pp (xL aJ.length aJ.length) (pp (xS aJ.length (Zz aJ) (Zz aJ)) (pp (xZ (z3m 2 2 0 aJ.length aJ.length (Zz aJ)) aJ.length (Zz aJ)) (pp (xL aJ.length aJ.length) (pp (xS aJ.length (Zz aJ) (Zz aJ)) (pp (fl aT (fl bB nn)) (pp (fl aJ nn) (tt k0 nn)))))))))) (lo fun aG => (lb (fun k1 => (lb (fun k2 => (lo fun cS => (lb (fun k3 => (sl Ut 49 [] ⟨[1, 2, 0, 5, 6, 7, 8, 4], [], madN4, madM4⟩ ⟨[], [], []⟩ (trs 13 []) (pp (fl aT (fl bB nn)) (tt k3 (pp (pp (xr bV) (pp (xI R2 (Xf (cvT aJ)).length (Zz (Xf (cvT aJ)))) (xw cS))) (tt k2 (tt k1 (pp (pp (xr aJ) (xw aG)) nn)))))))) (fun k3 => (sl Ut 69 [] ⟨[1, 0, 5, 6, 7, 8, 4, 2], [], w6w, w6y⟩ ⟨[], [], []⟩ (trs 12 [false]) (pp (fl bB (fl aT nn)) (tt k3 (pp (pp (xr bV) (pp (xI R2 (Xf (cvT aJ)).length (Zz (Xf (cvT aJ)))) (xw cS))) (tt k2 (tt k1 (pp (pp (xr aJ) (xw aG)) nn))))))))))) (fun k2 => (sl Ut 69 [] ⟨[1, 0, 5, 6, 7, 8, 4, 2], [], w6w, w6y⟩ ⟨[], [], []⟩ (trs 6 [false, false, false, false, false, false, false]) (pp (fl bB (fl aT nn)) (tt k2 (tt k1 (pp (pp (xr aJ) (xw aG)) nn)))))))) (fun k1 => (sl Ut 69 [] ⟨[1, 0, 5, 6, 7, 8, 4, 2], [], w6w, w6y⟩ ⟨[], [], []⟩ [false, false, false, false, false, false, false, false, false, false, false, false, false] (pp (fl bB (fl aT nn)) (tt k1 (pp (pp (xr aJ) (xw aG)) nn))))))))))
 | .h3 v1 v2 v71 v72 v73 cD aX aD aS aV aU bB aF => (lb (fun k0 => (lo fun o0 => (lo fun o1 => (sl Ut 23 [] ⟨[0, 1, 2, 3, 4, 5, 6, 10], [], w6w, w6y⟩ ⟨[], [.cells [.len (aD ++ [(R4.mk v1 (rd v71 (tn v73)).a v2 (rd v71 (tn v73)).b)]).length, .keep, .keep, .keep], .keep, .keep, .keep, .keep, .keep, .keep, .rowed 4 (aD ++ [(R4.mk v1 (rd v71 (tn v73)).a v2 (rd v71 (tn v73)).b)]).length (Zz (aD ++ [(R4.mk v1 (rd v71 (tn v73)).a v2 (rd v71 (tn v73)).b)]))], []⟩ [true] (pp (xL (aD.length + 1) (aD ++ [(R4.mk v1 (rd v71 (tn v73)).a v2 (rd v71 (tn v73)).b)]).length) (pp (xL (aD.length + 1) (aD ++ [(R4.mk v1 (rd v71 (tn v73)).a v2 (rd v71 (tn v73)).b)]).length) (pp (xS (aD.length + 1) (Zc (Zz aD) 0 aD.length 4 [(ii v1), (ii (rd v71 (tn v73)).a), (ii v2), (ii (rd v71 (tn v73)).b)]) (Zz (aD ++ [(R4.mk v1 (rd v71 (tn v73)).a v2 (rd v71 (tn v73)).b)]))) (pp (fl bB (pp (xF (Zc (Zz aD) 0 aD.length 4 [(ii v1), (ii (rd v71 (tn v73)).a), (ii v2), (ii (rd v71 (tn v73)).b)])) nn)) (ww o1 (ww o0 (tt k0 nn))))))))))) (fun k0 => (sl Ut 22 [] ⟨[1, 0, 2, 3, 4, 5, 7], [], v5y, v5z⟩ ⟨[], [], []⟩ [false, false] (pp (fl bB (fl aD nn)) (tt k0 nn)))))
 | .h4 v2 v8 dA cD aX aD aS aV bG cT cZ aJ => (lb (fun k0 => (lo fun o0 => (lo fun o1 => (sl Ut 33 [] ⟨(List.range 8), [], madN4, madM4⟩ ⟨[], [.cells [.len (aD.set (0 + (tn v8)) (R4.mk (rd aD (0 + (tn v8))).a (rd aD (0 + (tn v8))).b v2 (rd aD (0 + (tn v8))).d)).length, .keep, .keep, .keep], .rowed 4 (aD.set (0 + (tn v8)) (R4.mk (rd aD (0 + (tn v8))).a (rd aD (0 + (tn v8))).b v2 (rd aD (0 + (tn v8))).d)).length (Zz (aD.set (0 + (tn v8)) (R4.mk (rd aD (0 + (tn v8))).a (rd aD (0 + (tn v8))).b v2 (rd aD (0 + (tn v8))).d))), .keep, .keep, .keep, .keep, .keep, .keep], []⟩ [true] (pp (xL aD.length (aD.set (0 + (tn v8)) (R4.mk (rd aD (0 + (tn v8))).a (rd aD (0 + (tn v8))).b v2 (rd aD (0 + (tn v8))).d)).length) (pp (xL aD.length (aD.set (0 + (tn v8)) (R4.mk (rd aD (0 + (tn v8))).a (rd aD (0 + (tn v8))).b v2 (rd aD (0 + (tn v8))).d)).length) (pp (xS aD.length (Xg (Zz aD) (0 + (tn v8)) 2 [(ii v2)]) (Zz (aD.set (0 + (tn v8)) (R4.mk (rd aD (0 + (tn v8))).a (rd aD (0 + (tn v8))).b v2 (rd aD (0 + (tn v8))).d)))) (pp (pp (xF (Xg (Zz aD) (0 + (tn v8)) 2 [(ii v2)])) (fl cZ nn)) (ww o1 (ww o0 (tt k0 nn))))))))))) (fun k0 => (sl Ut 36 [] ⟨[2, 0, 3, 4, 5, 6, 1], [], v5y, v5z⟩ ⟨[], [], []⟩ [false, false] (pp (fl cZ (fl aD nn)) (tt k0 nn)))))
theorem x0w (l0 : List R4) : Wb prog (Zy prog 154) (madC l0) (Zi prog 154 [(.dat l0.length (Zz l0))] true []) (y4u l0) := (sl Ut 56 [(3, 1, Zz ([] : List Int))] ⟨[2, 1, 3, 0, 4], [], madN0, madM0⟩ ⟨[], [.keep, .keep, .cells [.grow 4 1], .keep, .keep], []⟩ [true] (pp (fl ([] : List Int) nn) nn))
theorem w6v (l0 : List R4) (n : Nat) (vs : List AVal) (h : Yb (Xp l0) n (y4u l0) = .ret vs) : Qx prog (Zy prog 154) (Zi prog 154 [(.dat l0.length (Zz l0))] true []) vs := by
 have := Zt (x6m l0) n _ (x0w l0)
 rwa [h] at this
end Go.Am
namespace Go.Am
open Go.Proofs.Tryz
open Go.Proofs Go.Sort Go.Shelf Go.RowKit Go.Lib
theorem x4u {i n : Nat} (h : i < n) : decide ((i : Int) < (n : Int)) = true := decide_eq_true (by omega)
theorem y1b {σ : Type} (step : σ → Wa σ) (a b : Nat) (s : Wa σ) : Yb step (a + b) s = Yb step a (Yb step b s) := by
 induction b generalizing s with
 | zero => cases s <;> simp [Yb]
 | succ b ih => cases s with
  | to s => exact ih (step s)
  | ret vs => simp only [Zm]
  | stuck => cases a <;> cases b <;> rfl
theorem w3e {i : Nat} : decide ((i : Int) ≥ 0) = true := decide_eq_true (by omega)
def z1w {α : Type} [Xz α] (out : List α) : List AVal := bif decide ((out.length : Int) > 400) then [.nils, .int .i64 4] else [.dat out.length (Zz out), .int .i64 0]
def x7z {α : Type} [Xz α] (e : Int) (L : List α) : List AVal := bif e != 0 then [.nils, .int .i64 e] else [.dat L.length (Zz L), .int .i64 0]
def w2z {α : Type} (e : Int) (L : List α) : List α := bif e != 0 then [] else L
theorem y4n {α : Type} [Xz α] (e : Int) (L : List α) (ρ : Rho) (u : Value) (hu : Yz ρ (Ko (x7z e L)) u) : Yz ρ (.tup [.dat (w2z e L).length (Zz (w2z e L)), .int .i64 e]) u := by
 unfold x7z at hu
 unfold w2z
 by_cases h : e = 0
 ·subst h; exact hu
 ·have h : (e != 0) = true := by simpa using h
  rw [h] at hu ⊢
  exact z1t (.cons (Jn α) (RLe.refl _)) ρ u hu
theorem x0h {α : Type} [Xz α] (e : Int) (L : List α) : pf 3 (Ko (x7z e L)) = true := by
 unfold x7z
 cases (e != 0) <;> rfl
def y5k (n : Nat) : Int := bif decide ((n : Int) > 400) then 4 else 0
theorem y1p {α : Type} [Xz α] (L : List α) : z1w L = x7z (y5k L.length) L := by
 unfold z1w x7z y5k
 cases decide ((L.length : Int) > 400) <;> rfl
theorem x3k {α : Type} [Xz α] {e : Int} (L : List α) (h : (e != 0) = true) : x7z e L = [.nils, .int .i64 e] := by unfold x7z; rw [h]; rfl
theorem y2v : ∀ (L : List R3) (o last : Int) (inn : Bool) (out : List R2), (swF L o last inn out).length ≤ out.length + L.length
 | [], _, _, _, out => Nat.le_refl _
 | e :: r, o, last, inn, out => by
  rw [z8k]
  have := y2v r (o + e.c) e.a (decide (o + e.c > 0)) (Qi out last inn e.a)
  have := z5y out last inn e.a
  simp only [List.length_cons]; omega
theorem y9g (l : List R3) : (z4m l).length = l.length := by
 by_cases h : y6d l = true
 ·exact (z0f l h).1.length_eq
 ·unfold z4m; rw [dif_neg h]
theorem y9j (l : List R2) : (Xf l).length ≤ 800 := by
 unfold Xf
 by_cases h : 400 < l.length
 ·rw [decide_eq_true h]; exact Nat.zero_le _
 ·rw [decide_eq_false h]
  cases l.all z7j
  ·exact Nat.zero_le _
  ·show (swV l).length ≤ 800
   have h1 := y2v (z4m (Jw l)) 0 0 false []
   rw [y9g, z2m] at h1
   simp only [List.length_nil] at h1
   unfold swV; omega
def z3n (r : R4) : Bool := decide (r.a < r.c) && (decide (r.b < r.d) && (decide (r.a ≥ -1000000) && (decide (r.a ≤ 1000000) && (decide (r.c ≥ -1000000) && (decide (r.c ≤ 1000000) && (decide (r.b ≥ -1000000) && (decide (r.b ≤ 1000000) && (decide (r.d ≥ -1000000) && decide (r.d ≤ 1000000)))))))))
def D4 : Dim R4 R2 := ⟨R4.a, R4.c, fun r => ⟨r.b, r.d⟩, fun x x' s => ⟨x, s.a, x', s.b⟩, fun x r => ⟨r.a, r.b, x, r.d⟩, Xf, Jf⟩
theorem D4_sec (l : List R4) (x : Int) : (D4.sec l x).length ≤ 1000 := Nat.le_trans (y9j _) (by omega)
section
variable (l : List R4) (hl : l.length ≤ 400)
include hl
theorem v1s (i : Nat) (out : List R4) (last : List R2) (first fin x x' : Int) : ∀ (k j : Nat) (acc : List R2), j + k = l.length → acc.length ≤ j →
  ∃ n, ∀ N, Yb (Xp l) (N + n) (.to (.h2 (i : Int) (j : Int) out last first fin ((D4.cuts l).length) (Xy (Yh (D4.ends l))) x x' acc)) = Yb (Xp l) N (.to (.h2 (i : Int) (l.length : Int) out last first fin ((D4.cuts l).length) (Xy (Yh (D4.ends l))) x x' (acc ++ D4.inn (l.drop j) x)))
 | 0, j, acc, h, ha => by
  refine ⟨0, fun N => ?_⟩
  rw [List.drop_eq_nil_of_le (by omega), show D4.inn ([] : List R4) x = [] from rfl, List.append_nil, Nat.add_zero, show j = l.length by omega]
 | k + 1, j, acc, h, ha => by
  have hj : j < l.length := by omega
  obtain ⟨n, hn⟩ := v1s i out last first fin x x' k (j + 1) (acc ++ D4.inn [rd l j] x) (by omega) (by have := D4.inn_length [rd l j] x; simp only [List.length_append, List.length_singleton] at *; omega)
  refine ⟨n + 1, fun N => ?_⟩
  have e : D4.inn (l.drop j) x = D4.inn [rd l j] x ++ D4.inn (l.drop (j + 1)) x := by
   rw [Yd hj, ← D4.inn_append]; rfl
  rw [e, ← Nat.add_assoc, Zv, ← List.append_assoc, ← hn N]
  by_cases h1 : D4.lo (rd l j) ≤ x
  ·by_cases h2 : x < D4.hi (rd l j)
   ·rw [D4.inn_t _ _ h1 h2]
    simp only [D4] at h1 h2 ⊢
    simp (disch := omega) only [Xp, Xt, Za, Zj, Zo, Zs, Yq, Yv, Yw, Ze, Zu, Zx, Yk, Zk, Nat.zero_add, decide_true, Bool.and_true, Bool.true_and, cond_true, cond_false]
   ·rw [D4.inn_f2 _ _ h2, List.append_nil]
    simp only [D4] at h1 h2
    simp (disch := omega) only [Xp, Xt, Zr, Za, Zj, Zo, Zs, Yq, Yv, Yw, Ze, Zu, Zx, Yk, Zk, Nat.zero_add, decide_true, Bool.and_true, Bool.true_and, cond_true, cond_false]
  ·rw [D4.inn_f1 _ _ h1, List.append_nil]
   simp only [D4] at h1
   simp (disch := omega) only [Xp, v8l, Za, Zj, Zo, Zs, Yq, Yv, Yw, Ze, Zu, Zx, Yk, Zk, Nat.zero_add, decide_true, Bool.and_true, Bool.true_and, cond_true, cond_false]
theorem v1r (i : Nat) (hi : i ≤ 1000) (x x' : Int) (s last : List R2) (first : Int) (inn : List R2) (hs : s.length ≤ 1000) : ∀ (k j : Nat) (out : List R4), j + k = s.length → out.length ≤ 10000000 + j →
  ∃ n, ∀ N, Yb (Xp l) (N + n) (.to (.h3 x x' s (s.length : Int) (j : Int) s (i : Int) out last first ((D4.cuts l).length) (Xy (Yh (D4.ends l))) inn)) = Yb (Xp l) N (.to (.h1 ((i + 1 : Nat) : Int) (out ++ (s.drop j).map (D4.put x x')) last first x' ((D4.cuts l).length) (Xy (Yh (D4.ends l)))))
 | 0, j, out, h, ho => by
  have _u := hl
  refine ⟨1, fun N => ?_⟩
  rw [List.drop_eq_nil_of_le (by omega), Zv]
  simp (disch := omega) only [Xp, Zr, Zu, Zx, cond_false, List.map_nil, List.append_nil]
 | k + 1, j, out, h, ho => by
  obtain ⟨n, hn⟩ := v1r i hi x x' s last first inn hs k (j + 1) (out ++ [D4.put x x' (rd s j)]) (by omega) (by simp; omega)
  refine ⟨n + 1, fun N => ?_⟩
  have := hn N
  rw [Yd (show j < s.length by omega), List.map_cons, ← Nat.add_assoc, Zv]
  simp (disch := omega) only [Xp, Za, Zj, Zo, Zs, Yq, Yv, Yw, Ze, Zu, Zx, Yk, Zk, Nat.zero_add, decide_true, Bool.and_true, Bool.true_and, cond_true, cond_false]
  rw [List.append_assoc] at this
  exact this
theorem v1q (i : Nat) (hi : i ≤ 1000) (x x' fin : Int) (s last : List R2) (first : Int) (inn : List R2) : ∀ (k j : Nat) (out : List R4), j + k = out.length → out.length ≤ 10000000 →
  ∃ n, ∀ N, Yb (Xp l) (N + n) (.to (.h4 x' (j : Int) x s (i : Int) out last first fin ((D4.cuts l).length) (Xy (Yh (D4.ends l))) inn)) = Yb (Xp l) N (.to (.h1 ((i + 1 : Nat) : Int) (D4.grow out j x') last first x' ((D4.cuts l).length) (Xy (Yh (D4.ends l)))))
 | 0, j, out, h, ho => by
  have _u := hl
  refine ⟨1, fun N => ?_⟩
  rw [D4.grow_nil _ _ _ (by omega), Zv]
  simp (disch := omega) only [Xp, Zr, Zu, Zx, cond_false]
 | k + 1, j, out, h, ho => by
  obtain ⟨n, hn⟩ := v1q i hi x x' fin s last first inn k (j + 1) (out.set j (D4.ext x' (rd out j))) (by simp; omega) (by simpa using ho)
  refine ⟨n + 1, fun N => ?_⟩
  have := hn N
  rw [D4.grow_set out j _ (by omega)] at this
  rw [← Nat.add_assoc, Zv]
  simp (disch := omega) only [Xp, Za, Zj, Zo, Zs, Yq, Yv, Yw, Ze, Zu, Zx, Yk, Zk, Nat.zero_add, decide_true, Bool.and_true, Bool.true_and, cond_true, cond_false]
  exact this
theorem w1r : ∀ (k i : Nat) (s : Sw R4 R2), k = (D4.cuts l).length - 1 - i → i ≤ (D4.cuts l).length → s.out.length ≤ i * 1000 → s.last.length ≤ 1000 → s.first ≤ s.out.length →
  ∃ n, Yb (Xp l) n (.to (.h1 ((i + 1 : Nat) : Int) s.out s.last (s.first : Int) s.fin ((D4.cuts l).length) (Xy (Yh (D4.ends l))))) = .ret (z1w (D4.go l k i s).out)
 | 0, i, s, h, hi, ho, hla, hf => by
  have hc := D4.cuts_length l
  refine ⟨1, ?_⟩
  rw [Zv, show D4.go l 0 i s = s from rfl]
  unfold z1w
  by_cases q : (s.out.length : Int) > 400
  ·simp (disch := omega) only [Xp, Zr, Ye, cond_true, cond_false, Zm]
  ·simp (disch := omega) only [Xp, Zr, Xx, cond_true, cond_false, Zm]
 | k + 1, i, s, h, hi, ho, hla, hf => by
  have hc := D4.cuts_length l
  have hi1 : i + 1 < (D4.cuts l).length := by omega
  have hpl : (Xy (Yh (D4.ends l))).length = 2 * l.length := by rw [Wr, Wj, D4.ends_length]
  have r0 : rd (Xy (Yh (D4.ends l))) i = rd (D4.cuts l) i := Jv _ _ (by show i < (D4.cuts l).length; omega)
  have r1 : rd (Xy (Yh (D4.ends l))) (i + 1) = rd (D4.cuts l) (i + 1) := Jv _ _ (by show i + 1 < (D4.cuts l).length; omega)
  have hbig : i * 1000 ≤ 1000 * 1000 := Nat.mul_le_mul_right _ (by omega)
  have hsl := D4_sec l (rd (D4.cuts l) i)
  have hsd : D4.sec l (rd (D4.cuts l) i) = Xf (D4.inn l (rd (D4.cuts l) i)) := rfl
  obtain ⟨n3, h3⟩ := v1s l hl (i + 1) s.out s.last (s.first : Int) s.fin (rd (D4.cuts l) i) (rd (D4.cuts l) (i + 1)) l.length 0 [] (Nat.zero_add _) (Nat.le_refl _)
  simp only [List.drop_zero, List.nil_append, z0t] at h3
  have w1 : z9r (D4.inn l (rd (D4.cuts l) i)) = true := rfl
  have w2 : Vu s.last (Xf (D4.inn l (rd (D4.cuts l) i))) = true := decide_eq_true (by omega)
  have ol := D4.one_length l (rd (D4.cuts l) i) (rd (D4.cuts l) (i + 1)) s
  have st0 : ∀ N, Yb (Xp l) (N + n3 + 1) (.to (.h1 ((i + 1 : Nat) : Int) s.out s.last (s.first : Int) s.fin ((D4.cuts l).length) (Xy (Yh (D4.ends l))))) = Yb (Xp l) N (.to (.h2 ((i + 1 : Nat) : Int) (l.length : Int) s.out s.last (s.first : Int) s.fin ((D4.cuts l).length) (Xy (Yh (D4.ends l))) (rd (D4.cuts l) i) (rd (D4.cuts l) (i + 1)) (D4.inn l (rd (D4.cuts l) i)))) := fun N => by
   rw [← h3 N, Zv]
   have e1 : IntKind.wrap .i64 (((i + 1 : Nat) : Int) - 1) = (i : Int) := by rw [Zd]; exact Zu (by omega)
   simp (disch := omega) only [Xp, e1, r0, r1, Za, Zj, Zo, Zs, Yq, Yv, Yw, Ze, Zu, Zx, Yk, Zk, Nat.zero_add, decide_true, Bool.and_true, Bool.true_and, cond_true, cond_false]
  rcases Yp (decide (0 < (D4.sec l (rd (D4.cuts l) i)).length) && ((s.fin == rd (D4.cuts l) i) && D4.same s.last (D4.sec l (rd (D4.cuts l) i)))) with q | q
  ·obtain ⟨n5, h5⟩ := v1q l hl (i + 1) (by omega) (rd (D4.cuts l) i) (rd (D4.cuts l) (i + 1)) s.fin (D4.sec l (rd (D4.cuts l) i)) s.last (s.first : Int) (D4.inn l (rd (D4.cuts l) i)) (s.out.length - s.first) s.first s.out (by omega) (by omega)
   have e : D4.one l (rd (D4.cuts l) i) (rd (D4.cuts l) (i + 1)) s = ⟨D4.grow s.out s.first (rd (D4.cuts l) (i + 1)), s.last, s.first, rd (D4.cuts l) (i + 1)⟩ := by unfold Dim.one; rw [q]; rfl
   obtain ⟨n0, h0⟩ := w1r k (i + 1) (D4.one l (rd (D4.cuts l) i) (rd (D4.cuts l) (i + 1)) s) (by omega) (by omega) (by omega) (by rw [e]; exact hla) (by rw [e]; simpa [Dim.grow_length] using hf)
   refine ⟨n0 + n5 + 1 + n3 + 1, ?_⟩
   rw [st0 (n0 + n5 + 1), Zv]
   simp only [Bool.and_eq_true, decide_eq_true_eq] at q
   obtain ⟨q1, q2, q3⟩ := q
   have q3' : Jf s.last (Xf (D4.inn l (rd (D4.cuts l) i))) = true := q3
   rw [hsd] at q1
   simp (disch := omega) only [Xp, Za, Zj, Zr, Ye, q2, q3', w1, w2, cond_true, cond_false]
   rw [← hsd, h5 n0]
   simp only [Dim.go]
   rw [e] at h0 ⊢
   exact h0
  ·obtain ⟨n4, h4⟩ := v1r l hl (i + 1) (by omega) (rd (D4.cuts l) i) (rd (D4.cuts l) (i + 1)) (D4.sec l (rd (D4.cuts l) i)) (D4.sec l (rd (D4.cuts l) i)) (s.out.length : Int) (D4.inn l (rd (D4.cuts l) i)) hsl (D4.sec l (rd (D4.cuts l) i)).length 0 s.out (Nat.zero_add _) (by omega)
   simp only [List.drop_zero, z0t] at h4
   have e : D4.one l (rd (D4.cuts l) i) (rd (D4.cuts l) (i + 1)) s = ⟨s.out ++ (D4.sec l (rd (D4.cuts l) i)).map (D4.put (rd (D4.cuts l) i) (rd (D4.cuts l) (i + 1))), D4.sec l (rd (D4.cuts l) i), s.out.length, rd (D4.cuts l) (i + 1)⟩ := by unfold Dim.one; rw [q]; rfl
   obtain ⟨n0, h0⟩ := w1r k (i + 1) (D4.one l (rd (D4.cuts l) i) (rd (D4.cuts l) (i + 1)) s) (by omega) (by omega) (by omega) (by rw [e]; exact hsl) (by rw [e]; simp)
   have hg : Yb (Xp l) 1 (.to (.h2 ((i + 1 : Nat) : Int) (l.length : Int) s.out s.last (s.first : Int) s.fin ((D4.cuts l).length) (Xy (Yh (D4.ends l))) (rd (D4.cuts l) i) (rd (D4.cuts l) (i + 1)) (D4.inn l (rd (D4.cuts l) i)))) = .to (.h3 (rd (D4.cuts l) i) (rd (D4.cuts l) (i + 1)) (D4.sec l (rd (D4.cuts l) i)) ((D4.sec l (rd (D4.cuts l) i)).length : Int) 0 (D4.sec l (rd (D4.cuts l) i)) ((i + 1 : Nat) : Int) s.out (D4.sec l (rd (D4.cuts l) i)) (s.out.length : Int) ((D4.cuts l).length) (Xy (Yh (D4.ends l))) (D4.inn l (rd (D4.cuts l) i))) := by
    rw [show (1 : Nat) = 0 + 1 from rfl, Zv]
    rw [hsd] at q ⊢
    have e3 : D4.same s.last (Xf (D4.inn l (rd (D4.cuts l) i))) = Jf s.last (Xf (D4.inn l (rd (D4.cuts l) i))) := rfl
    rw [e3] at q
    by_cases q1 : 0 < (Xf (D4.inn l (rd (D4.cuts l) i))).length
    ·rw [decide_eq_true q1, Bool.true_and] at q
     rcases Yp (s.fin == rd (D4.cuts l) i) with q2 | q2
     ·rw [q2, Bool.true_and] at q
      simp (disch := omega) only [Xp, Za, Zj, Zr, Ye, q2, q, w1, w2, cond_true, cond_false]
      rfl
     ·simp (disch := omega) only [Xp, Za, Zj, Zr, Ye, q2, w1, w2, cond_true, cond_false]
      rfl
    ·simp (disch := omega) only [Xp, Za, Zj, Zr, Xx, w1, w2, cond_true, cond_false]
     rfl
   refine ⟨n0 + n4 + 1 + n3 + 1, ?_⟩
   rw [st0 (n0 + n4 + 1), y1b _ (n0 + n4) 1, hg, h4 n0]
   simp only [Dim.go]
   rw [e] at h0 ⊢
   exact h0
theorem v1t : ∀ (k i : Nat) (acc : List Int), i + k = l.length → acc = D4.ends (l.take i) → ∃ n, Yb (Xp l) n (.to (.h0 (i : Int) acc)) = .ret (z1w (D4.go l ((D4.cuts l).length - 1) 0 ⟨[], [], 0, 0⟩).out)
 | 0, i, acc, h, ha => by
  have e : acc = D4.ends l := by rw [ha, List.take_of_length_le (by omega)]
  subst e
  have hle := D4.ends_length l
  obtain ⟨n, hn⟩ := w1r l hl ((D4.cuts l).length - 1) 0 ⟨[], [], 0, 0⟩ (by omega) (Nat.zero_le _) (Nat.zero_le _) (Nat.zero_le _) (Nat.zero_le _)
  refine ⟨n + 1, ?_⟩
  rw [Zv]
  simp (disch := omega) only [Xp, Uj, Kb, z6y, Zr, Yv, Yw, decide_true, cond_true, cond_false]
  exact hn
 | k + 1, i, acc, h, ha => by
  have hle := D4.ends_length (l.take i)
  have eZ : acc.length ≤ 2 * i := by rw [ha, hle]; simp; omega
  obtain ⟨n, hn⟩ := v1t k (i + 1) (acc ++ D4.ends [rd l i]) (by omega) (by
   rw [ha, List.take_add_one]
   have : l[i]? = some (rd l i) := by rw [Xq (show i < l.length by omega)]; exact List.getElem?_eq_getElem _
   rw [this, D4.ends_append]; rfl)
  refine ⟨n + 1, ?_⟩
  rw [Zv]
  simp (disch := omega) only [Xp, Za, Zj, Zo, Zs, Yq, Yv, Yw, Ze, Zu, Zx, Yk, Zk, Nat.zero_add, decide_true, Bool.and_true, Bool.true_and, cond_true, cond_false]
  exact hn
end
def madE (l : List R4) : Int := y5k (D4.out l).length
def Js (l : List R4) : List R4 := w2z (madE l) (D4.out l)
def z5l (l : List R4) : Int := madE l
def z2j (l : List R4) : Bool := decide (l.length ≤ 400)
theorem v5x (l : List R4) (h : z2j l = true) : ∃ n, Yb (Xp l) n (y4u l) = .ret (x7z (madE l) (D4.out l)) := by
 rw [show x7z (madE l) (D4.out l) = z1w (D4.out l) from (y1p _).symm]
 exact v1t l (of_decide_eq_true h) l.length 0 [] (Nat.zero_add _) rfl
def vl4V (a b c d : Int) : Bool := z3n ⟨a, b, c, d⟩
theorem v3h (a b c d : Int) : ∃ N, Yb (y9b a b c d) N (z8j a b c d) = .ret [.bool (vl4V a b c d)] := ⟨0, by
 unfold z8j vl4V z3n
 simp only [x2k]
 cases decide (a < c) <;> cases decide (b < d) <;> cases decide (a ≥ -1000000) <;> cases decide (a ≤ 1000000) <;> cases decide (c ≥ -1000000) <;> cases decide (c ≤ 1000000) <;> cases decide (b ≥ -1000000) <;> cases decide (b ≤ 1000000) <;> cases decide (d ≥ -1000000) <;> rfl⟩
def fVl4 : List AVal → Option (AVal × Bool)
 | [.agg [.int .i64 bP, .int .i64 bQ, .int .i64 bR, .int .i64 bL]] => some (.bool (vl4V bP bQ bR bL), true)
 | _ => none
theorem v7e {S : Specs} (hS : Zq prog S) : Zq prog (S.with x3u fVl4) := by
 refine z6v hS (by kernel_rfl) fun args v h => ?_
 unfold fVl4 at h
 split at h
 ·rename_i bP bQ bR bL
  simp only [Option.some.injEq, Prod.mk.injEq, and_true] at h
  subst h
  obtain ⟨N, hN⟩ := v3h bP bQ bR bL
  exact ⟨_, _, (.cons (.refl _) .nil), rfl, w4s bP bQ bR bL N _ hN, 3, rfl⟩
 ·cases h
def fMad : List AVal → Option (AVal × Bool)
 | [a0] => match asL R4 a0 with
  | some (L0, g0, n0) => some (.tup [.dat (Js L0).length (Zz (Js L0)), .int .i64 (z5l L0)], isT R4 n0 g0 && (z2j L0))
  | _ => none
 | _ => none
theorem v7s {S : Specs} (hS : Zq prog S) : Zq prog (S.with w1j fMad) := by
 refine w2t hS (by kernel_rfl) fun args v h => ?_
 unfold fMad at h
 split at h
 ·rename_i a0
  split at h
  ·rename_i L0 g0 n0 e0
   simp only [Option.some.injEq, Prod.mk.injEq, Bool.and_eq_true] at h
   obtain ⟨rfl, ho0, hw⟩ := h
   obtain ⟨N, hN⟩ := v5x L0 hw
   exact ⟨_, _, (.cons (asL_le e0 ho0) .nil), y4n _ _, w6v L0 N _ hN, 3, x0h _ _⟩
  ·cases h
 ·cases h
def T6v : Specs := (T6.with x3u fVl4)
theorem T6v_ok : Zq prog T6v := (v7e Ut)
def T6m : Specs := (T6v.with w1j fMad)
theorem y2d : Zq prog T6m := (v7s T6v_ok)
end Go.Am
namespace Go.Am
open Go.Proofs.Tryz
open Go.Proofs
inductive rgmS where
 | h0 (v8 : Int)
def rgmC (l0 : List R4) : rgmS → Cfg
 | .h0 v8 => ⟨⟨19, 0, true⟩, none, (Zb prog 171 [1, 0, 1, 0, 0] 0), none, (Zy prog 3), ⟨Ym [(0, (.dat l0.length (Zz l0))), (1, (.fn 152 [])), (7, (ii (l0.length : Int))), (8, (ii v8))], Uc [] 0, 0, [], true⟩, [⟨⟨9, 0, true⟩, (Vr prog 151 [1, 0] 2), (Zb prog 151 [1, 0] 1), none, (Zy prog 3), Ym [(5, (.dat l0.length (Zz l0))), (6, (.fn 152 []))]⟩, ⟨⟨13, 0, true⟩, (Vr prog 130 [1, 1, 0, 0] 1), (Zb prog 130 [1, 1, 0, 0] 1), none, (Zy prog 77), Ym [(0, (.dat l0.length (Zz l0))), (7, (.dat l0.length (Zz l0)))]⟩], .leaf⟩
def rgmN0 : List (Option (List Nat)) := [some [0, 1, 7, 8], some [5, 6], some [0, 7]]
def rgmM0 : List (Option (List Nat)) := []
def z2d (l0 : List R4) : rgmS → Wa rgmS
 | .h0 v8 => (bif (decide (v8 < (l0.length : Int))) then (bif ((decide (0 ≤ v8 ∧ v8 < (l0.length : Int))) && true) then (bif (!(vl4V (rd l0 v8.toNat).a (rd l0 v8.toNat).b (rd l0 v8.toNat).c (rd l0 v8.toNat).d)) then (bif (decide (v8 ≥ 0)) then (.ret [.nils, (.int .i64 8)]) else (bif (z2j (cvT l0)) then (.ret [(.dat (Js (cvT l0)).length (Zz (Js (cvT l0)))), (.int .i64 (z5l (cvT l0)))]) else .stuck)) else (.to (.h0 (IntKind.wrap .i64 (v8 + 1))))) else .stuck) else (bif (z2j (cvT l0)) then (.ret [(.dat (Js (cvT l0)).length (Zz (Js (cvT l0)))), (.int .i64 (z5l (cvT l0)))]) else .stuck))
def z4z (l0 : List R4) : Wa rgmS := (bif (decide ((l0.length : Int) > 400)) then (.ret [.nils, (.int .i64 4)]) else (.to (.h0 0)))
theorem x6d (l0 : List R4) : ∀ s, Wb prog (Zy prog 130) (rgmC l0) (rgmC l0 s) (z2d l0 s)
 | .h0 v8 => (lb (fun k0 => (lo fun aG => (lb (fun k1 => (lb (fun k2 => (lr 13 130 [1, 1, 0, 1, 0, 0] 1 77 [(2, .nils), (3, (ii 8))] (sl y2d 54 [] ⟨[], [], [some [2, 3]], []⟩ ⟨[], [], []⟩ (trs 3 []) (tt k2 (tt k1 (ww aG (tt k0 nn))))))) (fun k2 => (lo fun o0 => (lr 13 3 [1, 1, 1, 1, 1, 1, 0] 1 77 [(2, (.dat (Js (cvT l0)).length (Zz (Js (cvT l0))))), (3, (ii (z5l (cvT l0))))] (sl y2d 59 [] ⟨[], [], [some [2, 3]], []⟩ ⟨[], [], []⟩ [true, true, false] (pp (pp (xr l0) (xw o0)) (tt k2 (tt k1 (ww aG (tt k0 nn))))))))))) (fun k1 => (sl y2d 44 [] ⟨[], [], rgmN0, rgmM0⟩ ⟨[], [], []⟩ [true, false] (tt k1 (ww aG (tt k0 nn)))))))) (fun k0 => (lo fun o0 => (lr 13 3 [1, 1, 1, 1, 1, 1, 0] 1 77 [(2, (.dat (Js (cvT l0)).length (Zz (Js (cvT l0))))), (3, (ii (z5l (cvT l0))))] (sl y2d 28 [] ⟨[], [], [some [2, 3]], []⟩ ⟨[], [], []⟩ [false, false] (pp (pp (xr l0) (xw o0)) (tt k0 nn)))))))
theorem x0f (l0 : List R4) : Wb prog (Zy prog 130) (rgmC l0) (Zi prog 130 [(.dat l0.length (Zz l0))] true []) (z4z l0) := (lb (fun k0 => (lr 13 130 [1, 0, 1, 0, 0] 1 77 [(2, .nils), (3, (ii 4))] (sl y2d 18 [] ⟨[], [], [some [2, 3]], []⟩ ⟨[], [], []⟩ [true] (tt k0 nn)))) (fun k0 => (sl y2d 41 [] ⟨[], [], rgmN0, rgmM0⟩ ⟨[], [], []⟩ [false] (tt k0 nn))))
theorem w5z (l0 : List R4) (n : Nat) (vs : List AVal) (h : Yb (z2d l0) n (z4z l0) = .ret vs) : Qx prog (Zy prog 130) (Zi prog 130 [(.dat l0.length (Zz l0))] true []) vs := by
 have := Zt (x6d l0) n _ (x0f l0)
 rwa [h] at this
end Go.Am
namespace Go.Am
open Go.Proofs.Tryz
open Go.Proofs
open Go.Sort Go.Shelf Go.RowKit Go.Lib
theorem v0q (l : List R4) (hl : l.length ≤ 400) : ∀ (k i : Nat), i + k = l.length → (∀ s ∈ l.take i, z3n s = true) → ∃ n, Yb (z2d l) n (.to (.h0 (i : Int))) = .ret (bif l.all z3n then [.dat (Js l).length (Zz (Js l)), .int .i64 (z5l l)] else [.nils, .int .i64 8])
 | 0, i, h, ht => by
  have hv : l.all z3n = true := List.all_eq_true.2 fun s hs => ht s (by rw [List.take_of_length_le (by omega)]; exact hs)
  have w : z2j l = true := decide_eq_true hl
  refine ⟨1, ?_⟩
  rw [Zv, hv, cond_true]
  simp (disch := omega) only [z2d, Za, w, Zr, cond_true, cond_false, Zm]
 | k + 1, i, h, ht => by
  have hi : i < l.length := by omega
  have hs : z2d l (.h0 (i : Int)) = bif z3n (rd l i) then .to (.h0 ((i + 1 : Nat) : Int)) else .ret [.nils, .int .i64 8] := by
   have e : vl4V (rd l i).a (rd l i).b (rd l i).c (rd l i).d = z3n (rd l i) := rfl
   simp (disch := omega) only [z2d, e, y5n, x4u, w3e, Zs, Zu, Zx, Zk, Bool.and_true, cond_true, cond_false]
  rcases Yp (z3n (rd l i)) with q | q
  ·obtain ⟨n, hn⟩ := v0q l hl k (i + 1) (by omega) (fun s hs => by
    rw [List.take_add_one] at hs
    have e : l[i]? = some (rd l i) := by rw [Xq hi]; exact List.getElem?_eq_getElem _
    rw [e] at hs
    simp only [Option.toList_some, List.mem_append, List.mem_singleton] at hs
    rcases hs with hs | rfl
    ·exact ht s hs
    ·exact q)
   refine ⟨n + 1, ?_⟩
   rw [Zv, hs, q, cond_true]
   exact hn
  ·have hv : l.all z3n = false := Bool.eq_false_iff.2 fun e => by
    have := List.all_eq_true.1 e (rd l i) (by rw [Xq hi]; exact List.getElem_mem hi)
    rw [this] at q; cases q
   refine ⟨1, ?_⟩
   rw [Zv, hv, cond_false, hs, q, cond_false, Zm]
theorem w5y (l : List R4) : ∃ n, Yb (z2d l) n (z4z l) = .ret (bif decide (400 < l.length) then [.nils, .int .i64 4] else bif l.all z3n then [.dat (Js l).length (Zz (Js l)), .int .i64 (z5l l)] else [.nils, .int .i64 8]) := by
 unfold z4z
 by_cases h : 400 < l.length
 ·refine ⟨0, ?_⟩
  rw [decide_eq_true h, Ye (show (l.length : Int) > 400 by omega)]; rfl
 ·obtain ⟨n, hn⟩ := v0q l (by omega) l.length 0 (Nat.zero_add _) (fun s hs => by simp at hs)
  refine ⟨n, ?_⟩
  rw [decide_eq_false h, Xx (show ¬ (l.length : Int) > 400 by omega), cond_false, cond_false]
  exact hn
def Ya (l : List R4) : List R4 := bif decide (400 < l.length) then [] else bif l.all z3n then (bif decide (((D4.out l).length : Int) > 400) then [] else D4.out l) else []
def Uo (l : List R4) : Int := bif decide (400 < l.length) then 4 else bif l.all z3n then (bif decide (((D4.out l).length : Int) > 400) then 4 else 0) else 8
def z0l (l : List R4) : Bool := true
theorem v5d (l : List R4) (h : z0l l = true) : ∃ n, Yb (z2d l) n (z4z l) = .ret (bif decide (400 < l.length) then [.nils, .int .i64 4] else bif l.all z3n then [.dat (Ya l).length (Zz (Ya l)), .int .i64 (Uo l)] else [.nils, .int .i64 8]) := by
 obtain ⟨n, hn⟩ := w5y l
 refine ⟨n, hn.trans ?_⟩
 cases h1 : decide (400 < l.length) <;> cases h2 : l.all z3n <;> simp only [cond_true, cond_false]
 have e0 : Js l = Ya l := by
  unfold Js madE w2z y5k Ya
  rw [h1, h2]
  cases decide (((D4.out l).length : Int) > 400) <;> rfl
 have e1 : z5l l = Uo l := by
  unfold z5l madE y5k Uo
  rw [h1, h2]; rfl
 rw [e0, e1]
def fRgm : List AVal → Option (AVal × Bool)
 | [a0] => match asL R4 a0 with
  | some (L0, g0, n0) => some (.tup [.dat (Ya L0).length (Zz (Ya L0)), .int .i64 (Uo L0)], isT R4 n0 g0 && (z0l L0))
  | _ => none
 | _ => none
theorem v7m {S : Specs} (hS : Zq prog S) : Zq prog (S.with x3v fRgm) := by
 refine w2t hS (by kernel_rfl) fun args v h => ?_
 unfold fRgm at h
 split at h
 ·rename_i a0
  split at h
  ·rename_i L0 g0 n0 e0
   simp only [Option.some.injEq, Prod.mk.injEq, Bool.and_eq_true] at h
   obtain ⟨rfl, ho0, hw⟩ := h
   obtain ⟨N, hN⟩ := v5d L0 hw
   refine ⟨_, _, (.cons (asL_le e0 ho0) .nil), ?_, w5z L0 N _ hN, 3, ?_⟩
   ·cases h1 : decide (400 < L0.length) <;> cases h2 : L0.all z3n <;> simp only [Ya, Uo, h1, h2, cond_true, cond_false]
    ·exact fun ρ u hu => z1t (.cons (Jn R4) (RLe.refl _)) ρ u hu
    ·exact fun ρ u hu => hu
    ·exact fun ρ u hu => z1t (.cons (Jn R4) (RLe.refl _)) ρ u hu
    ·exact fun ρ u hu => z1t (.cons (Jn R4) (RLe.refl _)) ρ u hu
   ·cases decide (400 < L0.length) <;> cases L0.all z3n <;> rfl
  ·cases h
 ·cases h
def T7 : Specs := (T6m.with x3v fRgm)
theorem y8s : Zq prog T7 := (v7m y2d)
end Go.Am
namespace Go.Am
open Go.Proofs.Tryz
open Go.Proofs
inductive vl6S where
def vl6C (bP : Int) (bQ : Int) (bR : Int) (bL : Int) (cK : Int) (cL : Int) : vl6S → Cfg
 := nofun
def y8z (bP : Int) (bQ : Int) (bR : Int) (bL : Int) (cK : Int) (cL : Int) : vl6S → Wa vl6S
 := nofun
def z8i (bP : Int) (bQ : Int) (bR : Int) (bL : Int) (cK : Int) (cL : Int) : Wa vl6S := (bif (decide (bP < bL)) then (bif (decide (bQ < cK)) then (bif (decide (bR < cL)) then (bif (decide ((Wn (Wn bP bQ) bR) ≥ (-1000000))) then (bif (decide ((Wu (Wu bP bQ) bR) ≤ 1000000)) then (bif (decide ((Wn (Wn bL cK) cL) ≥ (-1000000))) then (.ret [(.bool (decide ((Wu (Wu bL cK) cL) ≤ 1000000)))]) else (.ret [(.bool false)])) else (.ret [(.bool false)])) else (.ret [(.bool false)])) else (.ret [(.bool false)])) else (.ret [(.bool false)])) else (.ret [(.bool false)]))
theorem x5d (bP : Int) (bQ : Int) (bR : Int) (bL : Int) (cK : Int) (cL : Int) : ∀ s, Wb prog (Zy prog 107) (vl6C bP bQ bR bL cK cL) (vl6C bP bQ bR bL cK cL s) (y8z bP bQ bR bL cK cL s)
 := nofun
theorem y9a (bP : Int) (bQ : Int) (bR : Int) (bL : Int) (cK : Int) (cL : Int) : Wb prog (Zy prog 107) (vl6C bP bQ bR bL cK cL) (Zi prog 107 [(.agg [(.int .i64 bP), (.int .i64 bQ), (.int .i64 bR), (.int .i64 bL), (.int .i64 cK), (.int .i64 cL)])] true []) (z8i bP bQ bR bL cK cL) := (lb (fun k0 => (lb (fun k1 => (lb (fun k2 => (lb (fun k3 => (lb (fun k4 => (lb (fun k5 => (lr 38 3 [1, 1, 1, 1, 1, 1, 0] 1 15 [(2, (.bool (decide ((Wu (Wu bL cK) cL) ≤ 1000000))))] (sl y8s 100 [] ⟨[], [], [some [2]], []⟩ ⟨[], [], []⟩ (trs 36 []) (tt k5 (tt k4 (tt k3 (tt k2 (tt k1 (tt k0 nn))))))))) (fun k5 => (lr 38 3 [1, 1, 1, 1, 1, 1, 0] 1 15 [(2, (.bool false))] (sl y8s 100 [] ⟨[], [], [some [2]], []⟩ ⟨[], [], []⟩ (trs 28 [false, false, false, false, false, false, false, false]) (tt k5 (tt k4 (tt k3 (tt k2 (tt k1 (tt k0 nn))))))))))) (fun k4 => (lr 38 3 [1, 1, 1, 1, 1, 1, 0] 1 15 [(2, (.bool false))] (sl y8s 72 [] ⟨[], [], [some [2]], []⟩ ⟨[], [], []⟩ (trs 25 [false, false, false]) (tt k4 (tt k3 (tt k2 (tt k1 (tt k0 nn)))))))))) (fun k3 => (lr 38 3 [1, 1, 1, 1, 1, 1, 0] 1 15 [(2, (.bool false))] (sl y8s 72 [] ⟨[], [], [some [2]], []⟩ ⟨[], [], []⟩ (trs 17 [false, false, false, false, false, false, false, false, false, false, false]) (tt k3 (tt k2 (tt k1 (tt k0 nn))))))))) (fun k2 => (lr 38 3 [1, 1, 1, 1, 1, 1, 0] 1 15 [(2, (.bool false))] (sl y8s 44 [] ⟨[], [], [some [2]], []⟩ ⟨[], [], []⟩ (trs 14 [false, false, false, false, false, false]) (tt k2 (tt k1 (tt k0 nn)))))))) (fun k1 => (lr 38 3 [1, 1, 1, 1, 1, 1, 0] 1 15 [(2, (.bool false))] (sl y8s 44 [] ⟨[], [], [some [2]], []⟩ ⟨[], [], []⟩ (trs 7 [false, false, false, false, false, false, false, false, false, false, false, false, false]) (tt k1 (tt k0 nn))))))) (fun k0 => (lr 38 3 [1, 1, 1, 1, 1, 1, 0] 1 15 [(2, (.bool false))] (sl y8s 44 [] ⟨[], [], [some [2]], []⟩ ⟨[], [], []⟩ [false, false, false, false, false, false, false, false, false, false, false, false, false, false, false, false, false, false, false, false] (tt k0 nn)))))
theorem w4r (bP : Int) (bQ : Int) (bR : Int) (bL : Int) (cK : Int) (cL : Int) (n : Nat) (vs : List AVal) (h : Yb (y8z bP bQ bR bL cK cL) n (z8i bP bQ bR bL cK cL) = .ret vs) : Qx prog (Zy prog 107) (Zi prog 107 [(.agg [(.int .i64 bP), (.int .i64 bQ), (.int .i64 bR), (.int .i64 bL), (.int .i64 cK), (.int .i64 cL)])] true []) vs := by
 have := Zt (x5d bP bQ bR bL cK cL) n _ (y9a bP bQ bR bL cK cL)
 rwa [h] at this
end Go.Am
namespace Go.Am
open Go.Proofs.Tryz
open Go.Proofs
open Go.Sort Go.Shelf Go.RowKit Go.Lib
def Jz (r : R6) : Bool := decide (r.a < r.d) && (decide (r.b < r.e) && (decide (r.c < r.f) && (decide ((Wn (Wn r.a r.b) r.c) ≥ (-1000000)) && (decide ((Wu (Wu r.a r.b) r.c) ≤ 1000000) && (decide ((Wn (Wn r.d r.e) r.f) ≥ (-1000000)) && decide ((Wu (Wu r.d r.e) r.f) ≤ 1000000))))))
def v3g (a b c d e f : Int) : Bool := Jz ⟨a, b, c, d, e, f⟩
theorem v3f (a b c d e f : Int) : ∃ N, Yb (y8z a b c d e f) N (z8i a b c d e f) = .ret [.bool (v3g a b c d e f)] := ⟨0, by
 unfold z8i v3g Jz
 simp only [x2k]
 cases decide (a < d) <;> cases decide (b < e) <;> cases decide (c < f) <;> cases decide ((Wn (Wn a b) c) ≥ (-1000000)) <;> cases decide ((Wu (Wu a b) c) ≤ 1000000) <;> cases decide ((Wn (Wn d e) f) ≥ (-1000000)) <;> rfl⟩
def fVl6 : List AVal → Option (AVal × Bool)
 | [.agg [.int .i64 bP, .int .i64 bQ, .int .i64 bR, .int .i64 bL, .int .i64 cK, .int .i64 cL]] => some (.bool (v3g bP bQ bR bL cK cL), true)
 | _ => none
theorem v7d {S : Specs} (hS : Zq prog S) : Zq prog (S.with x3t fVl6) := by
 refine z6v hS (by kernel_rfl) fun args v h => ?_
 unfold fVl6 at h
 split at h
 ·rename_i bP bQ bR bL cK cL
  simp only [Option.some.injEq, Prod.mk.injEq, and_true] at h
  subst h
  obtain ⟨N, hN⟩ := v3f bP bQ bR bL cK cL
  exact ⟨_, _, (.cons (.refl _) .nil), rfl, w4r bP bQ bR bL cK cL N _ hN, 3, rfl⟩
 ·cases h
def T7v : Specs := (T7.with x3t fVl6)
theorem Vv : Zq prog T7v := (v7d y8s)
end Go.Am
namespace Go.Am
open Go.Proofs.Tryz
open Go.Proofs
inductive sckS where
 | h0 (v8 : Int)
 | h1 (v16 : Int) (aA : List Int)
 | h2 (v4 : Int) (aC : List R6) (bF : List R4) (bN : Int) (bO : Int) (aI : Nat) (aL : List Int)
 | h3 (v4 : Int) (v38 : Int) (aC : List R6) (bF : List R4) (bN : Int) (bO : Int) (aI : Nat) (aL : List Int) (bC : Int) (bW : Int) (aE : List R4)
 | h4 (v1 : Int) (v2 : Int) (v72 : List R4) (v73 : Int) (v74 : Int) (bD : List R4) (aX : Int) (aD : List R6) (aS : List R4) (aV : Int) (aI : Nat) (aL : List Int) (bC : List R4)
 | h5 (v2 : Int) (v8 : Int) (cE : Int) (bD : List R4) (aX : Int) (aD : List R6) (aS : List R4) (aV : Int) (bG : Int) (bS : Nat) (cA : List Int) (aE : List R4)
def sckC (l0 : List R6) : sckS → Cfg
 | .h0 v8 => ⟨⟨19, 0, true⟩, none, (Zb prog 124 [1, 0, 1, 0, 0] 0), none, (Zy prog 3), ⟨Ym [(0, (.dat l0.length (Zz l0))), (1, (.fn 106 [])), (7, (ii (l0.length : Int))), (8, (ii v8))], Uc [] 0, 0, [], true⟩, [⟨⟨9, 0, true⟩, (Vr prog 86 [1, 0] 2), (Zb prog 86 [1, 0] 1), none, (Zy prog 3), Ym [(5, (.dat l0.length (Zz l0))), (6, (.fn 106 []))]⟩, ⟨⟨25, 0, true⟩, (Vr prog 72 [1, 1, 0, 0] 1), (Zb prog 72 [1, 1, 0, 0] 1), none, (Zy prog 15), Ym [(0, (.dat l0.length (Zz l0))), (8, (.dat l0.length (Zz l0)))]⟩], .leaf⟩
 | .h1 v16 aA => ⟨⟨36, 0, true⟩, none, (Zb prog 129 [1, 1, 0, 1, 0, 0, 1, 1, 0, 0, 1, 1, 0, 0] 0), none, (Zy prog 15), ⟨Ym [(1, (.ptr 0 0)), (3, (.ptr 2 0)), (8, (.sl 1 0 1 (.un 1))), (9, (ii 1)), (10, (ii 0)), (14, (.dat l0.length (Zz l0))), (15, (ii (l0.length : Int))), (16, (ii v16))], Uc [⟨[(.sl 1 0 1 (.un 1))], 168, none⟩, ⟨[(.dat l0.length (Zz l0))], 22, none⟩, ⟨[(.sla 7 1 0 aA.length (.un 1))], 47, none⟩, ⟨[.nilf], 124, none⟩, ⟨[.nils], 30, none⟩, ⟨[(ii 0)], 24, none⟩, ⟨[.nils, .nils, (ii 0), (ii 0)], 170, none⟩, ⟨rows aA.length (Zz aA), 3, some ⟨1, aA.length, (Zz aA)⟩⟩] 0, 8, [], true⟩, [⟨⟨65, 0, true⟩, (Vr prog 108 [1, 1, 0, 0] 1), (Zb prog 108 [1, 1, 0, 0] 1), none, (Zy prog 36), Ym [(2, (.ptr 3 0)), (4, (.ptr 4 0)), (5, (.ptr 5 0)), (6, (.ptr 6 0)), (13, (.sl 1 0 1 (.un 1)))]⟩, ⟨⟨25, 0, true⟩, (Vr prog 72 [1, 1, 1, 0, 0] 3), (Zb prog 72 [1, 1, 1, 0, 0] 1), none, (Zy prog 15), Ym [(0, (.dat l0.length (Zz l0))), (11, (.agg [.nilf])), (13, (.sl 1 0 1 (.un 1)))]⟩], .leaf⟩
 | .h2 v4 aC bF bN bO aI aL => ⟨⟨86, 0, true⟩, none, (Zb prog 150 [1, 0, 0] 0), none, [], ⟨Ym [(0, (.yld 0)), (1, (.ptr 5 0)), (2, (.ptr 7 0)), (4, (ii v4))], z5k [(1, ⟨[.nilf], 124, none⟩), (2, ⟨[.nils], 30, none⟩), (3, ⟨[(ii 0)], 24, none⟩), (4, ⟨[(.sla 9 6 0 aC.length (.un 6)), (.dat bF.length (Zz bF)), (ii bN), (ii bO)], 170, none⟩), (5, ⟨[(.sla 6 1 0 aI (.un 1))], 47, none⟩), (6, ⟨rows aL.length (Zz aL), 3, some ⟨1, aL.length, (Zz aL)⟩⟩), (7, ⟨[(.sl 8 0 1 (.un 1))], 168, none⟩), (8, ⟨[(.dat l0.length (Zz l0))], 22, none⟩), (9, ⟨rows aC.length (Zz aC), 68, some ⟨6, aC.length, (Zz aC)⟩⟩)], 10, [], true⟩, [⟨⟨65, 0, true⟩, none, (.inRangeFunc 0 :: (Zb prog 108 [1, 1, 0, 1, 0] 1)), none, (Zy prog 36), Ym [(4, (.ptr 2 0)), (5, (.ptr 3 0)), (6, (.ptr 4 0))]⟩, ⟨⟨25, 0, true⟩, (Vr prog 72 [1, 1, 1, 0, 0] 3), (Zb prog 72 [1, 1, 1, 0, 0] 1), none, (Zy prog 15), Ym [(0, (.dat l0.length (Zz l0))), (11, (.agg [.nilf])), (13, (.sl 8 0 1 (.un 1)))]⟩], (z5m [(0, ⟨.ready, none, 65, Ym [(2, (.ptr 1 0)), (4, (.ptr 2 0)), (5, (.ptr 3 0)), (6, (.ptr 4 0))], [15], (Xb prog 108 [1, 1, 0, 1, 0, 0]), (Xb prog 108 [1, 1, 0, 1, 0, 1])⟩)])⟩
 | .h3 v4 v38 aC bF bN bO aI aL bC bW aE => ⟨⟨86, 0, true⟩, none, (Zb prog 150 [1, 0, 0, 1, 0, 0, 1, 0, 1, 0, 0, 1, 1, 0, 0, 1, 1, 0, 0] 0), none, [], ⟨Ym [(0, (.yld 0)), (1, (.ptr 5 0)), (2, (.ptr 7 0)), (4, (ii v4)), (5, (.ptr 9 0)), (6, (ii 0)), (29, (.sl 8 0 1 (.un 1))), (30, (ii 1)), (31, (ii 0)), (36, (.dat l0.length (Zz l0))), (37, (ii (l0.length : Int))), (38, (ii v38))], z5k [(1, ⟨[.nilf], 124, none⟩), (2, ⟨[.nils], 30, none⟩), (3, ⟨[(ii 0)], 24, none⟩), (4, ⟨[(.sla 12 6 0 aC.length (.un 6)), (.dat bF.length (Zz bF)), (ii bN), (ii bO)], 170, none⟩), (5, ⟨[(.sla 6 1 0 aI (.un 1))], 47, none⟩), (6, ⟨rows aL.length (Zz aL), 3, some ⟨1, aL.length, (Zz aL)⟩⟩), (7, ⟨[(.sl 8 0 1 (.un 1))], 168, none⟩), (8, ⟨[(.dat l0.length (Zz l0))], 22, none⟩), (9, ⟨[(ii bC), (ii bW), (.sl 10 0 1 (.ex 1))], 175, none⟩), (10, ⟨[(.sla 11 4 0 aE.length (.un 4))], 105, none⟩), (11, ⟨rows aE.length (Zz aE), 114, some ⟨4, aE.length, (Zz aE)⟩⟩), (12, ⟨rows aC.length (Zz aC), 68, some ⟨6, aC.length, (Zz aC)⟩⟩)], 13, [], true⟩, [⟨⟨65, 0, true⟩, none, (.inRangeFunc 0 :: (Zb prog 108 [1, 1, 0, 1, 0] 1)), none, (Zy prog 36), Ym [(4, (.ptr 2 0)), (5, (.ptr 3 0)), (6, (.ptr 4 0))]⟩, ⟨⟨25, 0, true⟩, (Vr prog 72 [1, 1, 1, 0, 0] 3), (Zb prog 72 [1, 1, 1, 0, 0] 1), none, (Zy prog 15), Ym [(0, (.dat l0.length (Zz l0))), (11, (.agg [.nilf])), (13, (.sl 8 0 1 (.un 1)))]⟩], (z5m [(0, ⟨.ready, none, 65, Ym [(2, (.ptr 1 0)), (4, (.ptr 2 0)), (5, (.ptr 3 0)), (6, (.ptr 4 0))], [15], (Xb prog 108 [1, 1, 0, 1, 0, 0]), (Xb prog 108 [1, 1, 0, 1, 0, 1])⟩)])⟩
 | .h4 v1 v2 v72 v73 v74 bD aX aD aS aV aI aL bC => ⟨⟨101, 0, true⟩, none, (Zb prog 131 [1, 1, 1, 0, 0] 0), none, [], ⟨Ym [(0, (.ptr 0 0)), (1, (ii v1)), (2, (ii v2)), (72, (.dat v72.length (Zz v72))), (73, (ii v73)), (74, (ii v74))], z5k [(0, ⟨[(.sla 10 6 0 aD.length (.un 6)), (.dat aS.length (Zz aS)), (ii aV), (ii v2)], 170, none⟩), (2, ⟨[.nilf], 124, none⟩), (3, ⟨[.nils], 30, none⟩), (4, ⟨[(ii 0)], 24, none⟩), (5, ⟨[(.sla 6 1 0 aI (.un 1))], 47, none⟩), (6, ⟨rows aL.length (Zz aL), 3, some ⟨1, aL.length, (Zz aL)⟩⟩), (7, ⟨[(.sl 8 0 1 (.un 1))], 168, none⟩), (8, ⟨[(.dat l0.length (Zz l0))], 22, none⟩), (9, ⟨[(.dat bC.length (Zz bC))], 105, none⟩), (10, ⟨rows aD.length (Zz aD), 68, some ⟨6, aD.length, (Zz aD)⟩⟩)], 11, [], true⟩, [⟨⟨65, 0, true⟩, (Vr prog 108 [1, 1, 0, 1, 0, 1, 0, 1, 1, 1] 5), (Zb prog 108 [1, 1, 0, 1, 0, 1, 0, 1, 1, 1] 1), (some 1), [], Ym [(6, (.ptr 0 0)), (54, (ii v1)), (56, (ii v2)), (57, (.dat bD.length (Zz bD)))]⟩, ⟨⟨86, 0, true⟩, (Vr prog 150 [1, 0, 0, 1, 0, 0, 1, 1, 0] 2), (Zb prog 150 [1, 0, 0, 1, 0, 0, 1, 1, 0] 1), none, [], Ym [(0, (.yld 1)), (1, (.ptr 5 0)), (2, (.ptr 7 0)), (4, (ii aX)), (82, (.yld 1)), (83, (.agg [(ii v1), (ii v2), (.sl 9 0 1 (.ex 1))]))]⟩, ⟨⟨65, 0, true⟩, none, (.inRangeFunc 1 :: (Zb prog 108 [1, 1, 0, 1, 0] 1)), none, (Zy prog 36), Ym [(4, (.ptr 3 0)), (5, (.ptr 4 0)), (6, (.ptr 0 0))]⟩, ⟨⟨25, 0, true⟩, (Vr prog 72 [1, 1, 1, 0, 0] 3), (Zb prog 72 [1, 1, 1, 0, 0] 1), none, (Zy prog 15), Ym [(0, (.dat l0.length (Zz l0))), (11, (.agg [.nilf])), (13, (.sl 8 0 1 (.un 1)))]⟩], (z5m [(1, ⟨.busy, none, 65, Ym [(2, (.ptr 2 0)), (4, (.ptr 3 0)), (5, (.ptr 4 0)), (6, (.ptr 0 0))], [15], (Xb prog 108 [1, 1, 0, 1, 0, 0]), (Xb prog 108 [1, 1, 0, 1, 0, 1])⟩)])⟩
 | .h5 v2 v8 cE bD aX aD aS aV bG bS cA aE => ⟨⟨101, 0, true⟩, none, (Zb prog 131 [0, 1, 0, 0, 1, 0, 0] 0), none, [], ⟨Ym [(0, (.ptr 0 0)), (2, (ii v2)), (8, (ii v8))], z5k [(0, ⟨[(.sla 1 6 0 aD.length (.un 6)), (.dat aS.length (Zz aS)), (ii aV), (ii bG)], 170, none⟩), (1, ⟨rows aD.length (Zz aD), 68, some ⟨6, aD.length, (Zz aD)⟩⟩), (3, ⟨[.nilf], 124, none⟩), (4, ⟨[.nils], 30, none⟩), (5, ⟨[(ii 0)], 24, none⟩), (6, ⟨[(.sla 7 1 0 bS (.un 1))], 47, none⟩), (7, ⟨rows cA.length (Zz cA), 3, some ⟨1, cA.length, (Zz cA)⟩⟩), (8, ⟨[(.sl 9 0 1 (.un 1))], 168, none⟩), (9, ⟨[(.dat l0.length (Zz l0))], 22, none⟩), (10, ⟨[(.dat aE.length (Zz aE))], 105, none⟩)], 11, [], true⟩, [⟨⟨65, 0, true⟩, (Vr prog 108 [1, 1, 0, 1, 0, 1, 0, 1, 1, 1] 5), (Zb prog 108 [1, 1, 0, 1, 0, 1, 0, 1, 1, 1] 1), (some 2), [], Ym [(6, (.ptr 0 0)), (54, (ii cE)), (56, (ii v2)), (57, (.dat bD.length (Zz bD)))]⟩, ⟨⟨86, 0, true⟩, (Vr prog 150 [1, 0, 0, 1, 0, 0, 1, 1, 0] 2), (Zb prog 150 [1, 0, 0, 1, 0, 0, 1, 1, 0] 1), none, [], Ym [(0, (.yld 2)), (1, (.ptr 6 0)), (2, (.ptr 8 0)), (4, (ii aX)), (82, (.yld 2)), (83, (.agg [(ii cE), (ii v2), (.sl 10 0 1 (.ex 1))]))]⟩, ⟨⟨65, 0, true⟩, none, (.inRangeFunc 2 :: (Zb prog 108 [1, 1, 0, 1, 0] 1)), none, (Zy prog 36), Ym [(4, (.ptr 4 0)), (5, (.ptr 5 0)), (6, (.ptr 0 0))]⟩, ⟨⟨25, 0, true⟩, (Vr prog 72 [1, 1, 1, 0, 0] 3), (Zb prog 72 [1, 1, 1, 0, 0] 1), none, (Zy prog 15), Ym [(0, (.dat l0.length (Zz l0))), (11, (.agg [.nilf])), (13, (.sl 9 0 1 (.un 1)))]⟩], (z5m [(2, ⟨.busy, none, 65, Ym [(2, (.ptr 3 0)), (4, (.ptr 4 0)), (5, (.ptr 5 0)), (6, (.ptr 0 0))], [15], (Xb prog 108 [1, 1, 0, 1, 0, 0]), (Xb prog 108 [1, 1, 0, 1, 0, 1])⟩)])⟩
def sckN0 : List (Option (List Nat)) := [some [0, 1, 7, 8], some [5, 6], some [0, 8]]
def sckM0 : List (Option (List Nat)) := []
def v4b : List (Option (List Nat)) := [some [1, 3, 8, 9, 10, 14, 15, 16], some [2, 4, 5, 6, 13], some [0, 11, 13]]
def v4d : List (Option (List Nat)) := []
def v4a : List (Option (List Nat)) := [some [0, 1, 2, 4], some [4, 5, 6], some [0, 11, 13]]
def v4c : List (Option (List Nat)) := [some [2, 4, 5, 6], none, none, none, none, none, none, none, none, none]
def w5f : List (Option (List Nat)) := [some [0, 1, 2, 4, 5, 6, 29, 30, 31, 36, 37, 38], some [4, 5, 6], some [0, 11, 13]]
def w5h : List (Option (List Nat)) := [some [2, 4, 5, 6], none, none, none, none, none, none, none, none, none, none, none, none]
def w5e : List (Option (List Nat)) := [some [0, 1, 2, 72, 73, 74], some [6, 54, 56, 57], some [0, 1, 2, 4, 82, 83], some [4, 5, 6], some [0, 11, 13]]
def w5g : List (Option (List Nat)) := [none, some [2, 4, 5, 6], none, none, none, none, none, none, none, none, none]
def sckN5 : List (Option (List Nat)) := [some [0, 2, 8], some [6, 54, 56, 57], some [0, 1, 2, 4, 82, 83], some [4, 5, 6], some [0, 11, 13]]
def sckM5 : List (Option (List Nat)) := [none, none, some [2, 4, 5, 6], none, none, none, none, none, none, none, none]
def Yt (l0 : List R6) : sckS → Wa sckS
 | .h0 v8 => (bif (decide (v8 < (l0.length : Int))) then (bif ((decide (0 ≤ v8 ∧ v8 < (l0.length : Int))) && true) then (bif (!(v3g (rd l0 v8.toNat).a (rd l0 v8.toNat).b (rd l0 v8.toNat).c (rd l0 v8.toNat).d (rd l0 v8.toNat).e (rd l0 v8.toNat).f)) then (bif (decide (v8 ≥ 0)) then (.ret [(.int .i64 8)]) else (.to (.h1 0 ([] : List Int)))) else (.to (.h0 (IntKind.wrap .i64 (v8 + 1))))) else .stuck) else (.to (.h1 0 ([] : List Int))))
 | .h1 v16 aA => (bif (decide (v16 < (l0.length : Int))) then (bif ((decide (0 ≤ v16 ∧ v16 < (l0.length : Int))) && true) then (bif (Nat.beq 1 1 && ((decide (0 + aA.length = aA.length)) && decide ((aA.length + 2 + 1) * (8 + 1) ≤ Jy))) then (.to (.h1 (IntKind.wrap .i64 (v16 + 1)) (aA ++ [(rd l0 v16.toNat).c, (rd l0 v16.toNat).f]))) else .stuck) else .stuck) else (bif (decide (aA.length < 4611686018427387904)) then (bif (decide (aA.length = aA.length)) then (.to (.h2 1 ([] : List R6) ([] : List R4) 0 0 (w8v (Zg aA.length (cOf (Zz (Yh (Zg aA.length (cOf (Zz aA)))))))) (Xy (Zg aA.length (cOf (Zz (Yh (Zg aA.length (cOf (Zz aA)))))))))) else .stuck) else .stuck))
 | .h2 v4 aC bF bN bO aI aL => (bif (decide (v4 < ((aI : Nat) : Int))) then (bif ((decide (0 ≤ (IntKind.wrap .i64 (v4 - 1)) ∧ (IntKind.wrap .i64 (v4 - 1)) < ((aI : Nat) : Int))) && true) then (bif (decide ((0 + (Int.toNat (IntKind.wrap .i64 (v4 - 1)))) < aL.length)) then (bif ((decide (0 ≤ v4 ∧ v4 < ((aI : Nat) : Int))) && true) then (bif (decide ((0 + v4.toNat) < aL.length)) then (.to (.h3 v4 0 aC bF bN bO aI aL (rd aL (0 + (Int.toNat (IntKind.wrap .i64 (v4 - 1))))) (rd aL (0 + v4.toNat)) ([] : List R4))) else .stuck) else .stuck) else .stuck) else .stuck) else (bif (decide ((aC.length : Int) > 400)) then (.ret [(.int .i64 8)]) else (bif (Nat.beq 6 6 && (decide (0 + aC.length ≤ aC.length) && Qt (Zz aC))) then (bif (Xs (lst R6 (aC.length) (fun k => (Zz aC) (0 + k))) (cvT l0)) then (bif (!(Uz (lst R6 (aC.length) (fun k => (Zz aC) (0 + k))) (cvT l0))) then (.ret [(.int .i64 8)]) else (.ret [(.int .i64 0)])) else .stuck) else .stuck)))
 | .h3 v4 v38 aC bF bN bO aI aL bC bW aE => (bif (decide (v38 < (l0.length : Int))) then (bif ((decide (0 ≤ v38 ∧ v38 < (l0.length : Int))) && true) then (bif (decide ((rd l0 v38.toNat).c ≤ bC)) then (bif (decide (bC < (rd l0 v38.toNat).f)) then (bif (Nat.beq 4 4 && ((decide (0 + aE.length = aE.length)) && decide ((aE.length + 1 + 1) * (32 + 1) ≤ Jy))) then (.to (.h3 v4 (IntKind.wrap .i64 (v38 + 1)) aC bF bN bO aI aL bC bW (aE ++ [(R4.mk (rd l0 v38.toNat).a (rd l0 v38.toNat).b (rd l0 v38.toNat).d (rd l0 v38.toNat).e)]))) else .stuck) else (.to (.h3 v4 (IntKind.wrap .i64 (v38 + 1)) aC bF bN bO aI aL bC bW aE))) else (.to (.h3 v4 (IntKind.wrap .i64 (v38 + 1)) aC bF bN bO aI aL bC bW aE))) else .stuck) else (bif (z0l (cvT aE)) then (bif ((Uo (cvT aE)) != 0) then (.ret [(.int .i64 8)]) else (bif (decide ((((Ya (cvT aE)).length : Nat) : Int) > 0)) then (bif (bO == bC) then (bif (Wk (cvT bF) (cvT (Ya (cvT aE)))) then (bif (Uy (cvT bF) (cvT (Ya (cvT aE)))) then (.to (.h5 bW bN bC (Ya (cvT aE)) v4 aC bF bN bO aI aL aE)) else (.to (.h4 bC bW (Ya (cvT aE)) (((Ya (cvT aE)).length : Nat) : Int) 0 (Ya (cvT aE)) v4 aC (Ya (cvT aE)) (aC.length : Int) aI aL aE))) else .stuck) else (.to (.h4 bC bW (Ya (cvT aE)) (((Ya (cvT aE)).length : Nat) : Int) 0 (Ya (cvT aE)) v4 aC (Ya (cvT aE)) (aC.length : Int) aI aL aE))) else (.to (.h4 bC bW (Ya (cvT aE)) (((Ya (cvT aE)).length : Nat) : Int) 0 (Ya (cvT aE)) v4 aC (Ya (cvT aE)) (aC.length : Int) aI aL aE)))) else .stuck))
 | .h4 v1 v2 v72 v73 v74 bD aX aD aS aV aI aL bC => (bif (decide (v74 < v73)) then (bif ((decide (0 ≤ v74 ∧ v74 < (v72.length : Int))) && true) then (bif (Nat.beq 6 6 && ((decide (0 + aD.length = aD.length)) && decide ((aD.length + 1 + 1) * (48 + 1) ≤ Jy))) then (.to (.h4 v1 v2 v72 v73 (IntKind.wrap .i64 (v74 + 1)) bD aX (aD ++ [(R6.mk (rd v72 v74.toNat).a (rd v72 v74.toNat).b v1 (rd v72 v74.toNat).c (rd v72 v74.toNat).d v2)]) aS aV aI aL bC)) else .stuck) else .stuck) else (.to (.h2 (IntKind.wrap .i64 (aX + 1)) aD aS aV v2 aI aL)))
 | .h5 v2 v8 cE bD aX aD aS aV bG bS cA aE => (bif (decide (v8 < (aD.length : Int))) then (bif ((decide (0 ≤ v8 ∧ v8 < (aD.length : Int))) && true) then (bif (decide ((0 + v8.toNat) < aD.length)) then (.to (.h5 v2 (IntKind.wrap .i64 (v8 + 1)) cE bD aX (aD.set (0 + v8.toNat) (R6.mk (rd aD (0 + v8.toNat)).a (rd aD (0 + v8.toNat)).b (rd aD (0 + v8.toNat)).c (rd aD (0 + v8.toNat)).d (rd aD (0 + v8.toNat)).e v2)) aS aV bG bS cA aE)) else .stuck) else .stuck) else (.to (.h2 (IntKind.wrap .i64 (aX + 1)) aD aS aV v2 bS cA)))
def z8n (l0 : List R6) : Wa sckS := (bif (decide ((l0.length : Int) > 400)) then (.ret [(.int .i64 4)]) else (.to (.h0 0)))
theorem x5o (l0 : List R6) : ∀ s, Wb prog (Zy prog 72) (sckC l0) (sckC l0 s) (Yt l0 s)
 | .h0 v8 => (lb (fun k0 => (lo fun aG => (lb (fun k1 => (lb (fun k2 => (lr 25 72 [1, 1, 0, 1, 0, 0] 1 15 [(2, (ii 8))] (sl Vv 53 [] ⟨[], [], [some [2]], []⟩ ⟨[], [], []⟩ (trs 3 []) (tt k2 (tt k1 (ww aG (tt k0 nn))))))) (fun k2 => (sl Vv 113 [(3, 1, Zz ([] : List Int))] ⟨[6, 1, 7, 2, 3, 4, 5, 8], [], v4b, v4d⟩ ⟨[], [.keep, .keep, .cells [.grow 7 1], .keep, .keep, .keep, .keep, .keep], []⟩ [true, true, false, true] (pp (fl ([] : List Int) nn) (tt k2 (tt k1 (ww aG (tt k0 nn))))))))) (fun k1 => (sl Vv 44 [] ⟨[], [], sckN0, sckM0⟩ ⟨[], [], []⟩ [true, false] (tt k1 (ww aG (tt k0 nn)))))))) (fun k0 => (sl Vv 82 [(3, 1, Zz ([] : List Int))] ⟨[5, 0, 6, 1, 2, 3, 4, 7], [], v4b, v4d⟩ ⟨[], [.keep, .keep, .cells [.grow 7 1], .keep, .keep, .keep, .keep, .keep], []⟩ [false, false, true] (pp (fl ([] : List Int) nn) (tt k0 nn)))))
 | .h1 v16 aA => (lb (fun k0 => (lo fun o0 => (lo fun o1 => (sl Vv 34 [] ⟨[0, 1, 2, 3, 4, 5, 6, 10], [], v4b, v4d⟩ ⟨[], [.keep, .keep, .cells [.len (aA ++ [(rd l0 (tn v16)).c, (rd l0 (tn v16)).f]).length], .keep, .keep, .keep, .keep, .rowed 1 (aA ++ [(rd l0 (tn v16)).c, (rd l0 (tn v16)).f]).length (Zz (aA ++ [(rd l0 (tn v16)).c, (rd l0 (tn v16)).f]))], []⟩ [true] (pp (xL (aA.length + 2) (aA ++ [(rd l0 (tn v16)).c, (rd l0 (tn v16)).f]).length) (pp (xL (aA.length + 2) (aA ++ [(rd l0 (tn v16)).c, (rd l0 (tn v16)).f]).length) (pp (xS (aA.length + 2) (Zc (Zz aA) 0 aA.length 1 [(ii (rd l0 (tn v16)).c), (ii (rd l0 (tn v16)).f)]) (Zz (aA ++ [(rd l0 (tn v16)).c, (rd l0 (tn v16)).f]))) (pp (pp (xF (Zc (Zz aA) 0 aA.length 1 [(ii (rd l0 (tn v16)).c), (ii (rd l0 (tn v16)).f)])) nn) (ww o1 (ww o0 (tt k0 nn))))))))))) (fun k0 => (lo fun o0 => (lo fun o1 => (sl Vv 46 [(68, 6, Zz ([] : List R6))] ⟨[8, 3, 4, 5, 6, 2, 7, 0, 1, 9], [], v4a, v4c⟩ ⟨[], (kpB 4 [.cells [.grow 9 6, .list 0 (Zz ([] : List R4)), .keep, .keep], .keep, .rowed 1 (Xy (Zg aA.length (cOf (Zz (Yh (Zg aA.length (cOf (Zz aA)))))))).length (Zz (Xy (Zg aA.length (cOf (Zz (Yh (Zg aA.length (cOf (Zz aA))))))))), .keep, .keep, .keep]), []⟩ [false, false] (pp (xL aA.length (Xy (Zg aA.length (cOf (Zz (Yh (Zg aA.length (cOf (Zz aA)))))))).length (by first | exact z0o _ _ | exact Vb rfl)) (pp (xS aA.length (Zz (Xy (Zg aA.length (cOf (Zz (Yh (Zg aA.length (cOf (Zz aA))))))))) (Zz (Xy (Zg aA.length (cOf (Zz (Yh (Zg aA.length (cOf (Zz aA)))))))))) (pp (fl (Xy (Zg aA.length (cOf (Zz (Yh (Zg aA.length (cOf (Zz aA)))))))) (fl ([] : List R6) nn)) (pp (pp (xG (Nat.beq 1 1)) (pp (xG (Nat.beq 1 1)) (pp (xG (Nat.beq 0 0)) (pp (xG (decide (aA.length = aA.length))) (pp (xG (isI (Zz (Yh (Zg aA.length (cOf (Zz aA))))))) (xG (decide (aA.length < 4611686018427387904)))))))) (pp (pp (xG (Nat.beq 1 1)) (pp (xG (Nat.beq 1 1)) (pp (xG (Nat.beq 0 0)) (pp (xG (decide (aA.length = aA.length))) (pp (xG (isI (Zz aA))) (xG (decide (aA.length < 4611686018427387904)))))))) (tt k0 nn)))))))))))
 | .h2 v4 aC bF bN bO aI aL => (lb (fun k0 => (lo fun o0 => (lo fun o1 => (lo fun o2 => (lo fun o3 => (sl Vv 48 [(114, 4, Zz ([] : List R4))] ⟨[0, 1, 2, 3, 4, 5, 6, 7, 8, 10, 11, 12, 9], [], w5f, w5h⟩ ⟨[], (kpB 10 [.cells [.grow 11 4], .keep, .keep]), []⟩ (trs 3 []) (pp (fl aL (fl ([] : List R4) (fl aC nn))) (ww o3 (ww o2 (ww o1 (ww o0 (tt k0 nn)))))))))))) (fun k0 => (lb (fun k1 => (lr 25 72 [1, 1, 1, 0, 1, 1, 0, 0] 1 15 [(2, (ii 8))] (sl Vv 50 [] ⟨[], [], [some [2]], []⟩ ⟨[], [], []⟩ [false, true, true, true, true, true, true] (tt k1 (tt k0 nn))))) (fun k1 => (lo fun cU => (lo fun dC => (lb (fun k2 => (lr 25 72 [1, 1, 1, 0, 1, 1, 0, 0] 1 15 [(2, (ii 8))] (sl Vv 53 [] ⟨[], [], [some [2]], []⟩ ⟨[], [], []⟩ [false, false, false, false, false, false, true] (tt k2 (pp (pp (pp (xw cU) (pp nn nn)) (pp (xI R6 (aC.length) (fun k => (Zz aC) (0 + k))) (pp (xr l0) (xw dC)))) (tt k1 (tt k0 nn))))))) (fun k2 => (lr 25 3 [1, 1, 1, 1, 1, 1, 0] 1 15 [(2, (ii 0))] (sl Vv 54 [] ⟨[], [], [some [2]], []⟩ ⟨[], [], []⟩ [false, false, false, false, false, false, false] (tt k2 (pp (pp (pp (xw cU) (pp nn nn)) (pp (xI R6 (aC.length) (fun k => (Zz aC) (0 + k))) (pp (xr l0) (xw dC)))) (tt k1 (tt k0 nn))))))))))))))
 | .h3 v4 v38 aC bF bN bO aI aL bC bW aE => (lb (fun k0 => (lo fun aG => (lb (fun k1 => (lb (fun k2 => (lo fun o0 => (sl Vv 41 [] ⟨[0, 1, 2, 3, 4, 5, 6, 7, 8, 9, 10, 15, 12], [], w5f, w5h⟩ ⟨[], (kpB 10 [.cells [.len (aE ++ [(R4.mk (rd l0 (tn v38)).a (rd l0 (tn v38)).b (rd l0 (tn v38)).d (rd l0 (tn v38)).e)]).length], .rowed 4 (aE ++ [(R4.mk (rd l0 (tn v38)).a (rd l0 (tn v38)).b (rd l0 (tn v38)).d (rd l0 (tn v38)).e)]).length (Zz (aE ++ [(R4.mk (rd l0 (tn v38)).a (rd l0 (tn v38)).b (rd l0 (tn v38)).d (rd l0 (tn v38)).e)])), .keep]), []⟩ (trs 8 []) (pp (xL (aE.length + 1) (aE ++ [(R4.mk (rd l0 (tn v38)).a (rd l0 (tn v38)).b (rd l0 (tn v38)).d (rd l0 (tn v38)).e)]).length) (pp (xL (aE.length + 1) (aE ++ [(R4.mk (rd l0 (tn v38)).a (rd l0 (tn v38)).b (rd l0 (tn v38)).d (rd l0 (tn v38)).e)]).length) (pp (xS (aE.length + 1) (Zc (Zz aE) 0 aE.length 4 [(ii (rd l0 (tn v38)).a), (ii (rd l0 (tn v38)).b), (ii (rd l0 (tn v38)).d), (ii (rd l0 (tn v38)).e)]) (Zz (aE ++ [(R4.mk (rd l0 (tn v38)).a (rd l0 (tn v38)).b (rd l0 (tn v38)).d (rd l0 (tn v38)).e)]))) (pp (fl aL (pp (xF (Zc (Zz aE) 0 aE.length 4 [(ii (rd l0 (tn v38)).a), (ii (rd l0 (tn v38)).b), (ii (rd l0 (tn v38)).d), (ii (rd l0 (tn v38)).e)])) (fl aC nn))) (ww o0 (tt k2 (tt k1 (ww aG (tt k0 nn)))))))))))) (fun k2 => (sl Vv 41 [] ⟨(List.range 13), [], w5f, w5h⟩ ⟨[], [], []⟩ (trs 7 [false]) (pp (fl aL (fl aE (fl aC nn))) (tt k2 (tt k1 (ww aG (tt k0 nn))))))))) (fun k1 => (sl Vv 41 [] ⟨(List.range 13), [], w5f, w5h⟩ ⟨[], [], []⟩ [true, false, false, false, false, false, false, false] (pp (fl aL (fl aE (fl aC nn))) (tt k1 (ww aG (tt k0 nn))))))))) (fun k0 => (Vx (sl Vv (C' := ⟨⟨65, 0, true⟩, (Vr prog 108 [1, 1, 0, 1, 0, 1, 0, 0] 4), (Zb prog 108 [1, 1, 0, 1, 0, 1, 0, 0] 1), (some 0), [], ⟨Ym [(2, (.ptr 1 0)), (4, (.ptr 2 0)), (5, (.ptr 3 0)), (6, (.ptr 4 0)), (7, (.ptr 6 0)), (20, (.dat aE.length (Zz aE)))], z5k [(1, ⟨[.nilf], 124, none⟩), (2, ⟨[.nils], 30, none⟩), (3, ⟨[(ii 0)], 24, none⟩), (4, ⟨[(.sla 5 6 0 aC.length (.un 6)), (.dat bF.length (Zz bF)), (ii bN), (ii bO)], 170, none⟩), (5, ⟨rows aC.length (Zz aC), 68, some ⟨6, aC.length, (Zz aC)⟩⟩), (6, ⟨[(ii bC), (ii bW), (.sl 7 0 1 (.ex 1))], 175, none⟩), (7, ⟨[(.dat aE.length (Zz aE))], 105, none⟩), (8, ⟨[(.sla 9 1 0 aI (.un 1))], 47, none⟩), (9, ⟨rows aL.length (Zz aL), 3, some ⟨1, aL.length, (Zz aL)⟩⟩), (10, ⟨[(.sl 11 0 1 (.un 1))], 168, none⟩), (11, ⟨[(.dat l0.length (Zz l0))], 22, none⟩)], 12, [], true⟩, [⟨⟨86, 0, true⟩, (Vr prog 150 [1, 0, 0, 1, 0, 0, 1, 1, 0] 2), (Zb prog 150 [1, 0, 0, 1, 0, 0, 1, 1, 0] 1), none, [], Ym [(0, (.yld 0)), (1, (.ptr 8 0)), (2, (.ptr 10 0)), (4, (ii v4)), (82, (.yld 0)), (83, (.agg [(ii bC), (ii bW), (.sl 7 0 1 (.ex 1))]))]⟩, ⟨⟨65, 0, true⟩, none, (.inRangeFunc 0 :: (Zb prog 108 [1, 1, 0, 1, 0] 1)), none, (Zy prog 36), Ym [(4, (.ptr 2 0)), (5, (.ptr 3 0)), (6, (.ptr 4 0))]⟩, ⟨⟨25, 0, true⟩, (Vr prog 72 [1, 1, 1, 0, 0] 3), (Zb prog 72 [1, 1, 1, 0, 0] 1), none, (Zy prog 15), Ym [(0, (.dat l0.length (Zz l0))), (11, (.agg [.nilf])), (13, (.sl 11 0 1 (.un 1)))]⟩], (z5m [(0, ⟨.busy, none, 65, Ym [(2, (.ptr 1 0)), (4, (.ptr 2 0)), (5, (.ptr 3 0)), (6, (.ptr 4 0))], [15], (Xb prog 108 [1, 1, 0, 1, 0, 0]), (Xb prog 108 [1, 1, 0, 1, 0, 1])⟩)])⟩) 37 [] ⟨[0, 1, 2, 3, 4, 12, 13, 10, 5, 6, 7, 8], [11], [some [2, 4, 5, 6, 7, 20], some [0, 1, 2, 4, 82, 83], some [4, 5, 6], some [0, 11, 13]], [some [2, 4, 5, 6], none, none, none, none, none, none, none, none, none, none, none]⟩ ⟨[(20, .frz aE.length aE.length (Zz aE) (Zz aE))], [.keep, .keep, .keep, .keep, .keep, .keep, .keep, .cells [.frz aE.length aE.length (Zz aE) (Zz aE)], .keep, .keep, .keep, .keep], []⟩ [false, false] (pp (xZ (z3m 4 4 0 aE.length aE.length (Zz aE)) aE.length (Zz aE)) (pp (xL aE.length aE.length) (pp (xS aE.length (Zz aE) (Zz aE)) (pp (xZ (z3m 4 4 0 aE.length aE.length (Zz aE)) aE.length (Zz aE)) (pp (xL aE.length aE.length) (pp (xS aE.length (Zz aE) (Zz aE)) (pp (fl aC (fl aL nn)) (pp (fl aE nn) (tt k0 nn)))))))))) (lo fun aG => (lb (fun k1 => (lr 25 72 [1, 1, 1, 0, 1, 1, 0, 0] 1 15 [(2, (ii 8))] (sl Vv 67 [] ⟨[], [], [some [2]], []⟩ ⟨[], [], []⟩ [false, true, true, true, true, true, true, true] (tt k1 (tt k1 (pp (pp (xr aE) (xw aG)) nn)))))) (fun k1 => (lb (fun k2 => (lb (fun k3 => (lo fun cY => (lb (fun k4 => (sl Vv 75 [] ⟨[4, 5, 0, 1, 2, 3, 8, 9, 10, 11, 7], [], sckN5, sckM5⟩ ⟨[], [], []⟩ [false, false, true, true, true, true, true, true, true, true, true, true, true, true, true] (pp (fl aC (fl aL nn)) (tt k4 (pp (pp (xr bF) (pp (xI R4 (Ya (cvT aE)).length (Zz (Ya (cvT aE)))) (xw cY))) (tt k3 (tt k2 (tt k1 (pp (pp (xr aE) (xw aG)) nn))))))))) (fun k4 => (sl Vv 95 [] ⟨[4, 0, 1, 2, 3, 8, 9, 10, 11, 7, 5], [], w5e, w5g⟩ ⟨[], [], []⟩ [false, false, true, true, true, true, true, true, true, true, true, true, true, true, false] (pp (fl aL (fl aC nn)) (tt k4 (pp (pp (xr bF) (pp (xI R4 (Ya (cvT aE)).length (Zz (Ya (cvT aE)))) (xw cY))) (tt k3 (tt k2 (tt k1 (pp (pp (xr aE) (xw aG)) nn)))))))))))) (fun k3 => (sl Vv 95 [] ⟨[4, 0, 1, 2, 3, 8, 9, 10, 11, 7, 5], [], w5e, w5g⟩ ⟨[], [], []⟩ [false, false, true, true, true, true, true, true, false, false, false, false, false, false, false] (pp (fl aL (fl aC nn)) (tt k3 (tt k2 (tt k1 (pp (pp (xr aE) (xw aG)) nn))))))))) (fun k2 => (sl Vv 95 [] ⟨[4, 0, 1, 2, 3, 8, 9, 10, 11, 7, 5], [], w5e, w5g⟩ ⟨[], [], []⟩ [false, false, false, false, false, false, false, false, false, false, false, false, false, false, false] (pp (fl aL (fl aC nn)) (tt k2 (tt k1 (pp (pp (xr aE) (xw aG)) nn)))))))))))))
 | .h4 v1 v2 v72 v73 v74 bD aX aD aS aV aI aL bC => (lb (fun k0 => (lo fun o0 => (lo fun o1 => (sl Vv 23 [] ⟨[0, 1, 2, 3, 4, 5, 6, 7, 8, 9, 13], [], w5e, w5g⟩ ⟨[], [.cells [.len (aD ++ [(R6.mk (rd v72 (tn v74)).a (rd v72 (tn v74)).b v1 (rd v72 (tn v74)).c (rd v72 (tn v74)).d v2)]).length, .keep, .keep, .keep], .keep, .keep, .keep, .keep, .keep, .keep, .keep, .keep, .keep, .rowed 6 (aD ++ [(R6.mk (rd v72 (tn v74)).a (rd v72 (tn v74)).b v1 (rd v72 (tn v74)).c (rd v72 (tn v74)).d v2)]).length (Zz (aD ++ [(R6.mk (rd v72 (tn v74)).a (rd v72 (tn v74)).b v1 (rd v72 (tn v74)).c (rd v72 (tn v74)).d v2)]))], []⟩ [true] (pp (xL (aD.length + 1) (aD ++ [(R6.mk (rd v72 (tn v74)).a (rd v72 (tn v74)).b v1 (rd v72 (tn v74)).c (rd v72 (tn v74)).d v2)]).length) (pp (xL (aD.length + 1) (aD ++ [(R6.mk (rd v72 (tn v74)).a (rd v72 (tn v74)).b v1 (rd v72 (tn v74)).c (rd v72 (tn v74)).d v2)]).length) (pp (xS (aD.length + 1) (Zc (Zz aD) 0 aD.length 6 [(ii (rd v72 (tn v74)).a), (ii (rd v72 (tn v74)).b), (ii v1), (ii (rd v72 (tn v74)).c), (ii (rd v72 (tn v74)).d), (ii v2)]) (Zz (aD ++ [(R6.mk (rd v72 (tn v74)).a (rd v72 (tn v74)).b v1 (rd v72 (tn v74)).c (rd v72 (tn v74)).d v2)]))) (pp (fl aL (pp (xF (Zc (Zz aD) 0 aD.length 6 [(ii (rd v72 (tn v74)).a), (ii (rd v72 (tn v74)).b), (ii v1), (ii (rd v72 (tn v74)).c), (ii (rd v72 (tn v74)).d), (ii v2)])) nn)) (ww o1 (ww o0 (tt k0 nn))))))))))) (fun k0 => (sl Vv 22 [] ⟨[1, 2, 3, 4, 0, 5, 6, 7, 8, 10], [], v4a, v4c⟩ ⟨[], [], []⟩ [false, false] (pp (fl aL (fl aD nn)) (tt k0 nn)))))
 | .h5 v2 v8 cE bD aX aD aS aV bG bS cA aE => (lb (fun k0 => (lo fun o0 => (lo fun o1 => (sl Vv 34 [] ⟨(List.range 11), [], sckN5, sckM5⟩ ⟨[], [.cells [.len (aD.set (0 + (tn v8)) (R6.mk (rd aD (0 + (tn v8))).a (rd aD (0 + (tn v8))).b (rd aD (0 + (tn v8))).c (rd aD (0 + (tn v8))).d (rd aD (0 + (tn v8))).e v2)).length, .keep, .keep, .keep], .rowed 6 (aD.set (0 + (tn v8)) (R6.mk (rd aD (0 + (tn v8))).a (rd aD (0 + (tn v8))).b (rd aD (0 + (tn v8))).c (rd aD (0 + (tn v8))).d (rd aD (0 + (tn v8))).e v2)).length (Zz (aD.set (0 + (tn v8)) (R6.mk (rd aD (0 + (tn v8))).a (rd aD (0 + (tn v8))).b (rd aD (0 + (tn v8))).c (rd aD (0 + (tn v8))).d (rd aD (0 + (tn v8))).e v2))), .keep, .keep, .keep, .keep, .keep, .keep, .keep, .keep, .keep], []⟩ [true] (pp (xL aD.length (aD.set (0 + (tn v8)) (R6.mk (rd aD (0 + (tn v8))).a (rd aD (0 + (tn v8))).b (rd aD (0 + (tn v8))).c (rd aD (0 + (tn v8))).d (rd aD (0 + (tn v8))).e v2)).length) (pp (xL aD.length (aD.set (0 + (tn v8)) (R6.mk (rd aD (0 + (tn v8))).a (rd aD (0 + (tn v8))).b (rd aD (0 + (tn v8))).c (rd aD (0 + (tn v8))).d (rd aD (0 + (tn v8))).e v2)).length) (pp (xS aD.length (Xg (Zz aD) (0 + (tn v8)) 5 [(ii v2)]) (Zz (aD.set (0 + (tn v8)) (R6.mk (rd aD (0 + (tn v8))).a (rd aD (0 + (tn v8))).b (rd aD (0 + (tn v8))).c (rd aD (0 + (tn v8))).d (rd aD (0 + (tn v8))).e v2)))) (pp (pp (xF (Xg (Zz aD) (0 + (tn v8)) 5 [(ii v2)])) (fl cA nn)) (ww o1 (ww o0 (tt k0 nn))))))))))) (fun k0 => (sl Vv 36 [] ⟨[2, 3, 4, 5, 0, 6, 7, 8, 9, 1], [], v4a, v4c⟩ ⟨[], [], []⟩ [false, false] (pp (fl cA (fl aD nn)) (tt k0 nn)))))
theorem y9n (l0 : List R6) : Wb prog (Zy prog 72) (sckC l0) (Zi prog 72 [(.dat l0.length (Zz l0))] true []) (z8n l0) := (lb (fun k0 => (lr 25 72 [1, 0, 1, 0, 0] 1 15 [(2, (ii 4))] (sl Vv 16 [] ⟨[], [], [some [2]], []⟩ ⟨[], [], []⟩ [true] (tt k0 nn)))) (fun k0 => (sl Vv 40 [] ⟨[], [], sckN0, sckM0⟩ ⟨[], [], []⟩ [false] (tt k0 nn))))
theorem w5d (l0 : List R6) (n : Nat) (vs : List AVal) (h : Yb (Yt l0) n (z8n l0) = .ret vs) : Qx prog (Zy prog 72) (Zi prog 72 [(.dat l0.length (Zz l0))] true []) vs := by
 have := Zt (x5o l0) n _ (y9n l0)
 rwa [h] at this
end Go.Am
namespace Go.Am
open Go.Proofs.Tryz
open Go.Proofs Go.Sort Go.Shelf Go.RowKit Go.Lib
theorem x0g (l : List R4) : (Ya l).length ≤ 400 := by
 unfold Ya
 by_cases h : 400 < l.length
 ·rw [decide_eq_true h]; exact Nat.zero_le _
 ·rw [decide_eq_false h]
  cases l.all z3n
  ·exact Nat.zero_le _
  ·show (bif decide (((D4.out l).length : Int) > 400) then [] else D4.out l).length ≤ 400
   by_cases h2 : ((D4.out l).length : Int) > 400
   ·rw [decide_eq_true h2]; exact Nat.zero_le _
   ·rw [decide_eq_false h2]; show (D4.out l).length ≤ 400; omega
def D6 : Dim R6 R4 := ⟨R6.c, R6.f, fun r => ⟨r.a, r.b, r.d, r.e⟩, fun x x' s => ⟨s.a, s.b, x, s.c, s.d, x'⟩, fun x r => ⟨r.a, r.b, r.c, r.d, r.e, x⟩, Ya, Uy⟩
theorem v2z (l : List R6) (x : Int) : (D6.sec l x).length ≤ 1000 := Nat.le_trans (x0g _) (by omega)
def sckErr : List AVal := [.int .i64 8]
def y6k (l out : List R6) : List AVal := bif decide ((out.length : Int) > 400) then [.int .i64 8] else bif Uz out l then [.int .i64 0] else [.int .i64 8]
def w4q (l : List R6) (x : Int) : Bool := Uo (D6.inn l x) != 0
def okF (l : List R6) : Nat → Nat → Bool
 | 0, _ => true
 | k + 1, i => bif w4q l (rd (D6.cuts l) i) then false else okF l k (i + 1)
section
variable (l : List R6) (hl : l.length ≤ 400)
include hl
theorem w9t (i : Nat) (out : List R6) (last : List R4) (first fin x x' : Int) : ∀ (k j : Nat) (acc : List R4), j + k = l.length → acc.length ≤ j →
  ∃ n, ∀ N, Yb (Yt l) (N + n) (.to (.h3 (i : Int) (j : Int) out last first fin ((D6.cuts l).length) (Xy (Yh (D6.ends l))) x x' acc)) = Yb (Yt l) N (.to (.h3 (i : Int) (l.length : Int) out last first fin ((D6.cuts l).length) (Xy (Yh (D6.ends l))) x x' (acc ++ D6.inn (l.drop j) x)))
 | 0, j, acc, h, ha => by
  refine ⟨0, fun N => ?_⟩
  rw [List.drop_eq_nil_of_le (by omega), show D6.inn ([] : List R6) x = [] from rfl, List.append_nil, Nat.add_zero, show j = l.length by omega]
 | k + 1, j, acc, h, ha => by
  have hj : j < l.length := by omega
  obtain ⟨n, hn⟩ := w9t i out last first fin x x' k (j + 1) (acc ++ D6.inn [rd l j] x) (by omega) (by have := D6.inn_length [rd l j] x; simp only [List.length_append, List.length_singleton] at *; omega)
  refine ⟨n + 1, fun N => ?_⟩
  have e : D6.inn (l.drop j) x = D6.inn [rd l j] x ++ D6.inn (l.drop (j + 1)) x := by
   rw [Yd hj, ← D6.inn_append]; rfl
  rw [e, ← Nat.add_assoc, Zv, ← List.append_assoc, ← hn N]
  by_cases h1 : D6.lo (rd l j) ≤ x
  ·by_cases h2 : x < D6.hi (rd l j)
   ·rw [D6.inn_t _ _ h1 h2]
    simp only [D6] at h1 h2 ⊢
    simp (disch := omega) only [Yt, Xt, Za, Zj, Zo, Zs, Yq, Yv, Yw, Ze, Zu, Zx, Yk, Zk, Nat.zero_add, decide_true, Bool.and_true, Bool.true_and, cond_true, cond_false]
   ·rw [D6.inn_f2 _ _ h2, List.append_nil]
    simp only [D6] at h1 h2
    simp (disch := omega) only [Yt, Xt, Zr, Za, Zj, Zo, Zs, Yq, Yv, Yw, Ze, Zu, Zx, Yk, Zk, Nat.zero_add, decide_true, Bool.and_true, Bool.true_and, cond_true, cond_false]
  ·rw [D6.inn_f1 _ _ h1, List.append_nil]
   simp only [D6] at h1
   simp (disch := omega) only [Yt, v8l, Za, Zj, Zo, Zs, Yq, Yv, Yw, Ze, Zu, Zx, Yk, Zk, Nat.zero_add, decide_true, Bool.and_true, Bool.true_and, cond_true, cond_false]
theorem w9s (i : Nat) (hi : i ≤ 1000) (x x' : Int) (s last : List R4) (first : Int) (inn : List R4) (hs : s.length ≤ 1000) : ∀ (k j : Nat) (out : List R6), j + k = s.length → out.length ≤ 10000000 + j →
  ∃ n, ∀ N, Yb (Yt l) (N + n) (.to (.h4 x x' s (s.length : Int) (j : Int) s (i : Int) out last first ((D6.cuts l).length) (Xy (Yh (D6.ends l))) inn)) = Yb (Yt l) N (.to (.h2 ((i + 1 : Nat) : Int) (out ++ (s.drop j).map (D6.put x x')) last first x' ((D6.cuts l).length) (Xy (Yh (D6.ends l)))))
 | 0, j, out, h, ho => by
  have _u := hl
  refine ⟨1, fun N => ?_⟩
  rw [List.drop_eq_nil_of_le (by omega), Zv]
  simp (disch := omega) only [Yt, Zr, Zu, Zx, cond_false, List.map_nil, List.append_nil]
 | k + 1, j, out, h, ho => by
  obtain ⟨n, hn⟩ := w9s i hi x x' s last first inn hs k (j + 1) (out ++ [D6.put x x' (rd s j)]) (by omega) (by simp; omega)
  refine ⟨n + 1, fun N => ?_⟩
  have := hn N
  rw [Yd (show j < s.length by omega), List.map_cons, ← Nat.add_assoc, Zv]
  simp (disch := omega) only [Yt, Za, Zj, Zo, Zs, Yq, Yv, Yw, Ze, Zu, Zx, Yk, Zk, Nat.zero_add, decide_true, Bool.and_true, Bool.true_and, cond_true, cond_false]
  rw [List.append_assoc] at this
  exact this
theorem w9r (i : Nat) (hi : i ≤ 1000) (x x' fin : Int) (s last : List R4) (first : Int) (inn : List R4) : ∀ (k j : Nat) (out : List R6), j + k = out.length → out.length ≤ 10000000 →
  ∃ n, ∀ N, Yb (Yt l) (N + n) (.to (.h5 x' (j : Int) x s (i : Int) out last first fin ((D6.cuts l).length) (Xy (Yh (D6.ends l))) inn)) = Yb (Yt l) N (.to (.h2 ((i + 1 : Nat) : Int) (D6.grow out j x') last first x' ((D6.cuts l).length) (Xy (Yh (D6.ends l)))))
 | 0, j, out, h, ho => by
  have _u := hl
  refine ⟨1, fun N => ?_⟩
  rw [D6.grow_nil _ _ _ (by omega), Zv]
  simp (disch := omega) only [Yt, Zr, Zu, Zx, cond_false]
 | k + 1, j, out, h, ho => by
  obtain ⟨n, hn⟩ := w9r i hi x x' fin s last first inn k (j + 1) (out.set j (D6.ext x' (rd out j))) (by simp; omega) (by simpa using ho)
  refine ⟨n + 1, fun N => ?_⟩
  have := hn N
  rw [D6.grow_set out j _ (by omega)] at this
  rw [← Nat.add_assoc, Zv]
  simp (disch := omega) only [Yt, Za, Zj, Zo, Zs, Yq, Yv, Yw, Ze, Zu, Zx, Yk, Zk, Nat.zero_add, decide_true, Bool.and_true, Bool.true_and, cond_true, cond_false]
  exact this
theorem x9c : ∀ (k i : Nat) (s : Sw R6 R4), k = (D6.cuts l).length - 1 - i → i ≤ (D6.cuts l).length → s.out.length ≤ i * 1000 → s.last.length ≤ 1000 → s.first ≤ s.out.length →
  ∃ n, Yb (Yt l) n (.to (.h2 ((i + 1 : Nat) : Int) s.out s.last (s.first : Int) s.fin ((D6.cuts l).length) (Xy (Yh (D6.ends l))))) = .ret ((bif okF l k i then y6k l (D6.go l k i s).out else sckErr))
 | 0, i, s, h, hi, ho, hla, hf => by
  have hc := D6.cuts_length l
  refine ⟨1, ?_⟩
  rw [Zv, show D6.go l 0 i s = s from rfl, show okF l 0 i = true from rfl, cond_true]
  unfold y6k
  by_cases q : (s.out.length : Int) > 400
  ·simp (disch := omega) only [Yt, Zr, Ye, cond_true, cond_false, Zm]
  ·have e : lst R6 s.out.length (fun k => (Zz s.out) k) = s.out := Zj s.out
   have w : Xs s.out l = true := decide_eq_true (by omega)
   have f : Qt (Zz s.out) = true := Xj _
   rcases Yp (Uz s.out l) with q2 | q2 <;>
   simp (disch := omega) only [Yt, Za, e, w, f, q2, Zr, Xx, Yq, Yk, Nat.zero_add, Bool.not_true, Bool.not_false, Bool.and_true, cond_true, cond_false, Zm]
 | k + 1, i, s, h, hi, ho, hla, hf => by
  have hc := D6.cuts_length l
  have hi1 : i + 1 < (D6.cuts l).length := by omega
  have hpl : (Xy (Yh (D6.ends l))).length = 2 * l.length := by rw [Wr, Wj, D6.ends_length]
  have r0 : rd (Xy (Yh (D6.ends l))) i = rd (D6.cuts l) i := Jv _ _ (by show i < (D6.cuts l).length; omega)
  have r1 : rd (Xy (Yh (D6.ends l))) (i + 1) = rd (D6.cuts l) (i + 1) := Jv _ _ (by show i + 1 < (D6.cuts l).length; omega)
  have hbig : i * 1000 ≤ 1000 * 1000 := Nat.mul_le_mul_right _ (by omega)
  have hsl := v2z l (rd (D6.cuts l) i)
  have hsd : D6.sec l (rd (D6.cuts l) i) = Ya (D6.inn l (rd (D6.cuts l) i)) := rfl
  obtain ⟨n3, h3⟩ := w9t l hl (i + 1) s.out s.last (s.first : Int) s.fin (rd (D6.cuts l) i) (rd (D6.cuts l) (i + 1)) l.length 0 [] (Nat.zero_add _) (Nat.le_refl _)
  simp only [List.drop_zero, List.nil_append, z0t] at h3
  have w1 : z0l (D6.inn l (rd (D6.cuts l) i)) = true := rfl
  have w2 : Wk s.last (Ya (D6.inn l (rd (D6.cuts l) i))) = true := decide_eq_true (by omega)
  have ol := D6.one_length l (rd (D6.cuts l) i) (rd (D6.cuts l) (i + 1)) s
  have st0 : ∀ N, Yb (Yt l) (N + n3 + 1) (.to (.h2 ((i + 1 : Nat) : Int) s.out s.last (s.first : Int) s.fin ((D6.cuts l).length) (Xy (Yh (D6.ends l))))) = Yb (Yt l) N (.to (.h3 ((i + 1 : Nat) : Int) (l.length : Int) s.out s.last (s.first : Int) s.fin ((D6.cuts l).length) (Xy (Yh (D6.ends l))) (rd (D6.cuts l) i) (rd (D6.cuts l) (i + 1)) (D6.inn l (rd (D6.cuts l) i)))) := fun N => by
   rw [← h3 N, Zv]
   have e1 : IntKind.wrap .i64 (((i + 1 : Nat) : Int) - 1) = (i : Int) := by rw [Zd]; exact Zu (by omega)
   simp (disch := omega) only [Yt, e1, r0, r1, Za, Zj, Zo, Zs, Yq, Yv, Yw, Ze, Zu, Zx, Yk, Zk, Nat.zero_add, decide_true, Bool.and_true, Bool.true_and, cond_true, cond_false]
  rcases Yp (w4q l (rd (D6.cuts l) i)) with q0 | q0
  ·refine ⟨1 + n3 + 1, ?_⟩
   rw [st0 1, Zv]
   simp only [okF, q0, cond_true, cond_false]
   have q0' : (Uo (D6.inn l (rd (D6.cuts l) i)) != 0) = true := q0
   simp (disch := omega) only [Yt, Za, Zj, Zr, q0', w1, cond_true, cond_false, Zm]
   rfl
  have q0' : (Uo (D6.inn l (rd (D6.cuts l) i)) != 0) = false := q0
  rcases Yp (decide (0 < (D6.sec l (rd (D6.cuts l) i)).length) && ((s.fin == rd (D6.cuts l) i) && D6.same s.last (D6.sec l (rd (D6.cuts l) i)))) with q | q
  ·obtain ⟨n5, h5⟩ := w9r l hl (i + 1) (by omega) (rd (D6.cuts l) i) (rd (D6.cuts l) (i + 1)) s.fin (D6.sec l (rd (D6.cuts l) i)) s.last (s.first : Int) (D6.inn l (rd (D6.cuts l) i)) (s.out.length - s.first) s.first s.out (by omega) (by omega)
   have e : D6.one l (rd (D6.cuts l) i) (rd (D6.cuts l) (i + 1)) s = ⟨D6.grow s.out s.first (rd (D6.cuts l) (i + 1)), s.last, s.first, rd (D6.cuts l) (i + 1)⟩ := by unfold Dim.one; rw [q]; rfl
   obtain ⟨n0, h0⟩ := x9c k (i + 1) (D6.one l (rd (D6.cuts l) i) (rd (D6.cuts l) (i + 1)) s) (by omega) (by omega) (by omega) (by rw [e]; exact hla) (by rw [e]; simpa [Dim.grow_length] using hf)
   refine ⟨n0 + n5 + 1 + n3 + 1, ?_⟩
   rw [st0 (n0 + n5 + 1), Zv]
   simp only [Bool.and_eq_true, decide_eq_true_eq] at q
   obtain ⟨q1, q2, q3⟩ := q
   have q3' : Uy s.last (Ya (D6.inn l (rd (D6.cuts l) i))) = true := q3
   rw [hsd] at q1
   simp (disch := omega) only [Yt, Za, Zj, Zr, Ye, q0', q2, q3', w1, w2, cond_true, cond_false]
   rw [← hsd, h5 n0]
   simp only [okF, q0, cond_false]; simp only [Dim.go]
   rw [e] at h0 ⊢
   exact h0
  ·obtain ⟨n4, h4⟩ := w9s l hl (i + 1) (by omega) (rd (D6.cuts l) i) (rd (D6.cuts l) (i + 1)) (D6.sec l (rd (D6.cuts l) i)) (D6.sec l (rd (D6.cuts l) i)) (s.out.length : Int) (D6.inn l (rd (D6.cuts l) i)) hsl (D6.sec l (rd (D6.cuts l) i)).length 0 s.out (Nat.zero_add _) (by omega)
   simp only [List.drop_zero, z0t] at h4
   have e : D6.one l (rd (D6.cuts l) i) (rd (D6.cuts l) (i + 1)) s = ⟨s.out ++ (D6.sec l (rd (D6.cuts l) i)).map (D6.put (rd (D6.cuts l) i) (rd (D6.cuts l) (i + 1))), D6.sec l (rd (D6.cuts l) i), s.out.length, rd (D6.cuts l) (i + 1)⟩ := by unfold Dim.one; rw [q]; rfl
   obtain ⟨n0, h0⟩ := x9c k (i + 1) (D6.one l (rd (D6.cuts l) i) (rd (D6.cuts l) (i + 1)) s) (by omega) (by omega) (by omega) (by rw [e]; exact hsl) (by rw [e]; simp)
   have hg : Yb (Yt l) 1 (.to (.h3 ((i + 1 : Nat) : Int) (l.length : Int) s.out s.last (s.first : Int) s.fin ((D6.cuts l).length) (Xy (Yh (D6.ends l))) (rd (D6.cuts l) i) (rd (D6.cuts l) (i + 1)) (D6.inn l (rd (D6.cuts l) i)))) = .to (.h4 (rd (D6.cuts l) i) (rd (D6.cuts l) (i + 1)) (D6.sec l (rd (D6.cuts l) i)) ((D6.sec l (rd (D6.cuts l) i)).length : Int) 0 (D6.sec l (rd (D6.cuts l) i)) ((i + 1 : Nat) : Int) s.out (D6.sec l (rd (D6.cuts l) i)) (s.out.length : Int) ((D6.cuts l).length) (Xy (Yh (D6.ends l))) (D6.inn l (rd (D6.cuts l) i))) := by
    rw [show (1 : Nat) = 0 + 1 from rfl, Zv]
    rw [hsd] at q ⊢
    have e3 : D6.same s.last (Ya (D6.inn l (rd (D6.cuts l) i))) = Uy s.last (Ya (D6.inn l (rd (D6.cuts l) i))) := rfl
    rw [e3] at q
    by_cases q1 : 0 < (Ya (D6.inn l (rd (D6.cuts l) i))).length
    ·rw [decide_eq_true q1, Bool.true_and] at q
     rcases Yp (s.fin == rd (D6.cuts l) i) with q2 | q2
     ·rw [q2, Bool.true_and] at q
      simp (disch := omega) only [Yt, Za, Zj, Zr, Ye, q0', q2, q, w1, w2, cond_true, cond_false]
      rfl
     ·simp (disch := omega) only [Yt, Za, Zj, Zr, Ye, q0', q2, w1, w2, cond_true, cond_false]
      rfl
    ·simp (disch := omega) only [Yt, Za, Zj, Zr, Xx, q0', w1, w2, cond_true, cond_false]
     rfl
   refine ⟨n0 + n4 + 1 + n3 + 1, ?_⟩
   rw [st0 (n0 + n4 + 1), y1b _ (n0 + n4) 1, hg, h4 n0]
   simp only [okF, q0, cond_false]; simp only [Dim.go]
   rw [e] at h0 ⊢
   exact h0
theorem w9u : ∀ (k i : Nat) (acc : List Int), i + k = l.length → acc = D6.ends (l.take i) → ∃ n, Yb (Yt l) n (.to (.h1 (i : Int) acc)) = .ret ((bif okF l ((D6.cuts l).length - 1) 0 then y6k l (D6.go l ((D6.cuts l).length - 1) 0 ⟨[], [], 0, 0⟩).out else sckErr))
 | 0, i, acc, h, ha => by
  have e : acc = D6.ends l := by rw [ha, List.take_of_length_le (by omega)]
  subst e
  have hle := D6.ends_length l
  obtain ⟨n, hn⟩ := x9c l hl ((D6.cuts l).length - 1) 0 ⟨[], [], 0, 0⟩ (by omega) (Nat.zero_le _) (Nat.zero_le _) (Nat.zero_le _) (Nat.zero_le _)
  refine ⟨n + 1, ?_⟩
  rw [Zv]
  simp (disch := omega) only [Yt, Uj, Kb, z6y, Zr, Yv, Yw, decide_true, cond_true, cond_false]
  exact hn
 | k + 1, i, acc, h, ha => by
  have hle := D6.ends_length (l.take i)
  have eZ : acc.length ≤ 2 * i := by rw [ha, hle]; simp; omega
  obtain ⟨n, hn⟩ := w9u k (i + 1) (acc ++ D6.ends [rd l i]) (by omega) (by
   rw [ha, List.take_add_one]
   have : l[i]? = some (rd l i) := by rw [Xq (show i < l.length by omega)]; exact List.getElem?_eq_getElem _
   rw [this, D6.ends_append]; rfl)
  refine ⟨n + 1, ?_⟩
  rw [Zv]
  simp (disch := omega) only [Yt, Za, Zj, Zo, Zs, Yq, Yv, Yw, Ze, Zu, Zx, Yk, Zk, Nat.zero_add, decide_true, Bool.and_true, Bool.true_and, cond_true, cond_false]
  exact hn
theorem w9v : ∀ (k i : Nat), i + k = l.length → (∀ s ∈ l.take i, Jz s = true) → ∃ n, Yb (Yt l) n (.to (.h0 (i : Int))) = .ret (bif l.all Jz then (bif okF l ((D6.cuts l).length - 1) 0 then y6k l (D6.go l ((D6.cuts l).length - 1) 0 ⟨[], [], 0, 0⟩).out else sckErr) else sckErr)
 | 0, i, h, ht => by
  have hv : l.all Jz = true := List.all_eq_true.2 fun s hs => ht s (by rw [List.take_of_length_le (by omega)]; exact hs)
  obtain ⟨n, hn⟩ := w9u l hl l.length 0 [] (Nat.zero_add _) rfl
  refine ⟨n + 1, ?_⟩
  rw [Zv, hv, cond_true]
  simp (disch := omega) only [Yt, Zr, cond_false]
  exact hn
 | k + 1, i, h, ht => by
  have hi : i < l.length := by omega
  have hs : Yt l (.h0 (i : Int)) = bif Jz (rd l i) then .to (.h0 ((i + 1 : Nat) : Int)) else .ret sckErr := by
   have e : v3g (rd l i).a (rd l i).b (rd l i).c (rd l i).d (rd l i).e (rd l i).f = Jz (rd l i) := rfl
   simp (disch := omega) only [Yt, e, y5n, x4u, w3e, Zs, Zu, Zx, Zk, Bool.and_true, cond_true, cond_false]
   rfl
  rcases Yp (Jz (rd l i)) with q | q
  ·obtain ⟨n, hn⟩ := w9v k (i + 1) (by omega) (fun s hs => by
    rw [List.take_add_one] at hs
    have e : l[i]? = some (rd l i) := by rw [Xq hi]; exact List.getElem?_eq_getElem _
    rw [e] at hs
    simp only [Option.toList_some, List.mem_append, List.mem_singleton] at hs
    rcases hs with hs | rfl
    ·exact ht s hs
    ·exact q)
   refine ⟨n + 1, ?_⟩
   rw [Zv, hs, q, cond_true]
   exact hn
  ·have hv : l.all Jz = false := Bool.eq_false_iff.2 fun e => by
    have := List.all_eq_true.1 e (rd l i) (by rw [Xq hi]; exact List.getElem_mem hi)
    rw [this] at q; cases q
   refine ⟨1, ?_⟩
   rw [Zv, hv, cond_false, hs, q, cond_false, Zm]
end
def Yn (l : List R6) : Int := bif decide (400 < l.length) then 4 else bif l.all Jz then (bif okF l ((D6.cuts l).length - 1) 0 then (bif decide (((D6.out l).length : Int) > 400) then 8 else bif Uz (D6.out l) l then 0 else 8) else 8) else 8
def x9d (l : List R6) : Bool := true
theorem v3z (l : List R6) : ∃ n, Yb (Yt l) n (z8n l) = .ret [.int .i64 (Yn l)] := by
 unfold z8n Yn
 by_cases h : 400 < l.length
 ·refine ⟨0, ?_⟩
  rw [decide_eq_true h, Ye (show (l.length : Int) > 400 by omega)]; rfl
 ·obtain ⟨n, hn⟩ := w9v l (by omega) l.length 0 (Nat.zero_add _) (fun s hs => by simp at hs)
  refine ⟨n, ?_⟩
  rw [decide_eq_false h, Xx (show ¬ (l.length : Int) > 400 by omega), cond_false, cond_false]
  rw [z0t] at hn
  rw [hn]
  unfold sckErr y6k
  cases l.all Jz <;> simp only [cond_true, cond_false]
  cases okF l ((D6.cuts l).length - 1) 0 <;> simp only [cond_true, cond_false]
  show Wa.ret (bif decide (((D6.out l).length : Int) > 400) then _ else bif Uz (D6.out l) l then _ else _) = _
  cases decide (((D6.out l).length : Int) > 400) <;> simp only [cond_true, cond_false]
  cases Uz (D6.out l) l <;> rfl
def fSck : List AVal → Option (AVal × Bool)
 | [a1] => match asL R6 a1 with
  | some (L1, g1, n1) => some (.int .i64 (Yn L1), isT R6 n1 g1 && x9d L1)
  | _ => none
 | _ => none
theorem v7i {S : Specs} (hS : Zq prog S) : Zq prog (S.with y7g fSck) := by
 refine z6v hS (by kernel_rfl) fun args v h => ?_
 unfold fSck at h
 split at h
 ·rename_i a1
  split at h
  ·rename_i L1 g1 n1 e1
   simp only [Option.some.injEq, Prod.mk.injEq, Bool.and_eq_true] at h
   obtain ⟨rfl, ho1, hw⟩ := h
   obtain ⟨N, hN⟩ := v3z L1
   exact ⟨_, _, (.cons (asL_le e1 ho1) .nil), rfl, w5d L1 N _ hN, 3, rfl⟩
  ·cases h
 ·cases h
def T8 : Specs := T7v.with y7g fSck
theorem Qj : Zq prog T8 := v7i Vv
end Go.Am
namespace Go.Am
open Go.Proofs.Tryz
open Go.Proofs
inductive rchkS where
 | h0 (v3 : Int)
def v5f (l0 : List R6) : rchkS → Cfg
 | .h0 v3 => ⟨⟨34, 0, true⟩, none, (Zb prog 64 [1, 1, 0, 1, 0, 0] 0), none, (Zy prog 15), ⟨Ym [(0, (.dat l0.length (Zz l0))), (3, (ii v3))], Uc [] 0, 0, [], true⟩, [], .leaf⟩
def v0x : List (Option (List Nat)) := [some [0, 3]]
def v0y : List (Option (List Nat)) := []
def Qb (l0 : List R6) : rchkS → Wa rchkS
 | .h0 v3 => (bif (decide (v3 < (l0.length : Int))) then (bif ((decide (0 ≤ v3 ∧ v3 < (l0.length : Int))) && true) then (bif (decide ((rd l0 v3.toNat).a ≥ (-1000000))) then (bif (decide ((rd l0 v3.toNat).b ≥ (-1000000))) then (bif (decide ((rd l0 v3.toNat).c ≥ (-1000000))) then (bif (decide ((rd l0 v3.toNat).a ≤ 1000000)) then (bif (decide ((rd l0 v3.toNat).b ≤ 1000000)) then (bif (decide ((rd l0 v3.toNat).c ≤ 1000000)) then (bif (decide ((rd l0 v3.toNat).d ≥ (-1000000))) then (bif (decide ((rd l0 v3.toNat).e ≥ (-1000000))) then (bif (decide ((rd l0 v3.toNat).f ≥ (-1000000))) then (bif (decide ((rd l0 v3.toNat).d ≤ 1000000)) then (bif (decide ((rd l0 v3.toNat).e ≤ 1000000)) then (bif (decide ((rd l0 v3.toNat).f ≤ 1000000)) then (bif (decide ((rd l0 v3.toNat).a < (rd l0 v3.toNat).d)) then (bif (decide ((rd l0 v3.toNat).b < (rd l0 v3.toNat).e)) then (bif (!(decide ((rd l0 v3.toNat).c < (rd l0 v3.toNat).f))) then (.ret [(.int .i64 8)]) else (.to (.h0 (IntKind.wrap .i64 (v3 + 1))))) else (.ret [(.int .i64 8)])) else (.ret [(.int .i64 8)])) else (.ret [(.int .i64 8)])) else (.ret [(.int .i64 8)])) else (.ret [(.int .i64 8)])) else (.ret [(.int .i64 8)])) else (.ret [(.int .i64 8)])) else (.ret [(.int .i64 8)])) else (.ret [(.int .i64 8)])) else (.ret [(.int .i64 8)])) else (.ret [(.int .i64 8)])) else (.ret [(.int .i64 8)])) else (.ret [(.int .i64 8)])) else (.ret [(.int .i64 8)])) else .stuck) else (bif (Kq 2 (cvT l0) ([] : List R6)) then (bif (!(Vs 2 (cvT l0) ([] : List R6))) then (.ret [(.int .i64 8)]) else (bif (Xs (cvT (Vt 2 (cvT l0) ([] : List R6))) (cvT l0)) then (bif (!(Uz (cvT (Vt 2 (cvT l0) ([] : List R6))) (cvT l0))) then (.ret [(.int .i64 8)]) else (.ret [(.int .i64 0)])) else .stuck)) else .stuck))
def z5d (l0 : List R6) : Wa rchkS := (bif (decide ((l0.length : Int) > 400)) then (.ret [(.int .i64 4)]) else (.to (.h0 0)))
theorem x0k (l0 : List R6) : ∀ s, Wb prog (Zy prog 64) (v5f l0) (v5f l0 s) (Qb l0 s)
 | .h0 v3 => (lb (fun k0 => (lo fun aG => (lb (fun k1 => (lb (fun k2 => (lb (fun k3 => (lb (fun k4 => (lb (fun k5 => (lb (fun k6 => (lb (fun k7 => (lb (fun k8 => (lb (fun k9 => (lb (fun k10 => (lb (fun k11 => (lb (fun k12 => (lb (fun k13 => (lb (fun k14 => (lb (fun k15 => (lr 34 64 [1, 1, 0, 1, 0, 0, 1, 0, 0, 1, 0, 0] 1 15 [(2, (ii 8))] (sl Qj 158 [] ⟨[], [], [some [2]], []⟩ ⟨[], [], []⟩ (trs 60 []) (tt k15 (tt k14 (tt k13 (tt k12 (tt k11 (tt k10 (tt k9 (tt k8 (tt k7 (tt k6 (tt k5 (tt k4 (tt k3 (tt k2 (tt k1 (ww aG (tt k0 nn)))))))))))))))))))) (fun k15 => (sl Qj 162 [] ⟨[], [], v0x, v0y⟩ ⟨[], [], []⟩ (trs 59 [false]) (tt k15 (tt k14 (tt k13 (tt k12 (tt k11 (tt k10 (tt k9 (tt k8 (tt k7 (tt k6 (tt k5 (tt k4 (tt k3 (tt k2 (tt k1 (ww aG (tt k0 nn))))))))))))))))))))) (fun k14 => (lr 34 64 [1, 1, 0, 1, 0, 0, 1, 0, 0, 1, 0, 0] 1 15 [(2, (ii 8))] (sl Qj 158 [] ⟨[], [], [some [2]], []⟩ ⟨[], [], []⟩ (trs 52 [false, false, false, false, false, false, false, true]) (tt k14 (tt k13 (tt k12 (tt k11 (tt k10 (tt k9 (tt k8 (tt k7 (tt k6 (tt k5 (tt k4 (tt k3 (tt k2 (tt k1 (ww aG (tt k0 nn))))))))))))))))))))) (fun k13 => (lr 34 64 [1, 1, 0, 1, 0, 0, 1, 0, 0, 1, 0, 0] 1 15 [(2, (ii 8))] (sl Qj 158 [] ⟨[], [], [some [2]], []⟩ ⟨[], [], []⟩ (trs 45 [false, false, false, false, false, false, false, false, false, false, false, false, false, false, true]) (tt k13 (tt k12 (tt k11 (tt k10 (tt k9 (tt k8 (tt k7 (tt k6 (tt k5 (tt k4 (tt k3 (tt k2 (tt k1 (ww aG (tt k0 nn)))))))))))))))))))) (fun k12 => (lr 34 64 [1, 1, 0, 1, 0, 0, 1, 0, 0, 1, 0, 0] 1 15 [(2, (ii 8))] (sl Qj 158 [] ⟨[], [], [some [2]], []⟩ ⟨[], [], []⟩ (trs 38 [false, false, false, false, false, false, false, false, false, false, false, false, false, false, false, false, false, false, false, false, false, true]) (tt k12 (tt k11 (tt k10 (tt k9 (tt k8 (tt k7 (tt k6 (tt k5 (tt k4 (tt k3 (tt k2 (tt k1 (ww aG (tt k0 nn))))))))))))))))))) (fun k11 => (lr 34 64 [1, 1, 0, 1, 0, 0, 1, 0, 0, 1, 0, 0] 1 15 [(2, (ii 8))] (sl Qj 158 [] ⟨[], [], [some [2]], []⟩ ⟨[], [], []⟩ (trs 35 [false, false, false, false, false, false, false, false, false, false, false, false, false, false, false, false, false, false, false, false, false, false, false, false, true]) (tt k11 (tt k10 (tt k9 (tt k8 (tt k7 (tt k6 (tt k5 (tt k4 (tt k3 (tt k2 (tt k1 (ww aG (tt k0 nn)))))))))))))))))) (fun k10 => (lr 34 64 [1, 1, 0, 1, 0, 0, 1, 0, 0, 1, 0, 0] 1 15 [(2, (ii 8))] (sl Qj 158 [] ⟨[], [], [some [2]], []⟩ ⟨[], [], []⟩ (trs 32 [false, false, false, false, false, false, false, false, false, false, false, false, false, false, false, false, false, false, false, false, false, false, false, false, false, false, false, true]) (tt k10 (tt k9 (tt k8 (tt k7 (tt k6 (tt k5 (tt k4 (tt k3 (tt k2 (tt k1 (ww aG (tt k0 nn))))))))))))))))) (fun k9 => (lr 34 64 [1, 1, 0, 1, 0, 0, 1, 0, 0, 1, 0, 0] 1 15 [(2, (ii 8))] (sl Qj 158 [] ⟨[], [], [some [2]], []⟩ ⟨[], [], []⟩ (trs 29 [false, false, false, false, false, false, false, false, false, false, false, false, false, false, false, false, false, false, false, false, false, false, false, false, false, false, false, false, false, false, true]) (tt k9 (tt k8 (tt k7 (tt k6 (tt k5 (tt k4 (tt k3 (tt k2 (tt k1 (ww aG (tt k0 nn)))))))))))))))) (fun k8 => (lr 34 64 [1, 1, 0, 1, 0, 0, 1, 0, 0, 1, 0, 0] 1 15 [(2, (ii 8))] (sl Qj 158 [] ⟨[], [], [some [2]], []⟩ ⟨[], [], []⟩ (trs 25 [false, false, false, false, false, false, false, false, false, false, false, false, false, false, false, false, false, false, false, false, false, false, false, false, false, false, false, false, false, false, false, false, false, false, true]) (tt k8 (tt k7 (tt k6 (tt k5 (tt k4 (tt k3 (tt k2 (tt k1 (ww aG (tt k0 nn))))))))))))))) (fun k7 => (lr 34 64 [1, 1, 0, 1, 0, 0, 1, 0, 0, 1, 0, 0] 1 15 [(2, (ii 8))] (sl Qj 158 [] ⟨[], [], [some [2]], []⟩ ⟨[], [], []⟩ (trs 21 [false, false, false, false, false, false, false, false, false, false, false, false, false, false, false, false, false, false, false, false, false, false, false, false, false, false, false, false, false, false, false, false, false, false, false, false, false, false, true]) (tt k7 (tt k6 (tt k5 (tt k4 (tt k3 (tt k2 (tt k1 (ww aG (tt k0 nn)))))))))))))) (fun k6 => (lr 34 64 [1, 1, 0, 1, 0, 0, 1, 0, 0, 1, 0, 0] 1 15 [(2, (ii 8))] (sl Qj 117 [] ⟨[], [], [some [2]], []⟩ ⟨[], [], []⟩ (trs 18 [false, false, false, false, false, false, false, false, false, false, false, false, false, false, false, false, false, false, false, false, false, false, false, false, true]) (tt k6 (tt k5 (tt k4 (tt k3 (tt k2 (tt k1 (ww aG (tt k0 nn))))))))))))) (fun k5 => (lr 34 64 [1, 1, 0, 1, 0, 0, 1, 0, 0, 1, 0, 0] 1 15 [(2, (ii 8))] (sl Qj 117 [] ⟨[], [], [some [2]], []⟩ ⟨[], [], []⟩ (trs 15 [false, false, false, false, false, false, false, false, false, false, false, false, false, false, false, false, false, false, false, false, false, false, false, false, false, false, false, true]) (tt k5 (tt k4 (tt k3 (tt k2 (tt k1 (ww aG (tt k0 nn)))))))))))) (fun k4 => (lr 34 64 [1, 1, 0, 1, 0, 0, 1, 0, 0, 1, 0, 0] 1 15 [(2, (ii 8))] (sl Qj 117 [] ⟨[], [], [some [2]], []⟩ ⟨[], [], []⟩ (trs 12 [false, false, false, false, false, false, false, false, false, false, false, false, false, false, false, false, false, false, false, false, false, false, false, false, false, false, false, false, false, false, true]) (tt k4 (tt k3 (tt k2 (tt k1 (ww aG (tt k0 nn))))))))))) (fun k3 => (lr 34 64 [1, 1, 0, 1, 0, 0, 1, 0, 0, 1, 0, 0] 1 15 [(2, (ii 8))] (sl Qj 117 [] ⟨[], [], [some [2]], []⟩ ⟨[], [], []⟩ (trs 9 [false, false, false, false, false, false, false, false, false, false, false, false, false, false, false, false, false, false, false, false, false, false, false, false, false, false, false, false, false, false, false, false, false, true]) (tt k3 (tt k2 (tt k1 (ww aG (tt k0 nn)))))))))) (fun k2 => (lr 34 64 [1, 1, 0, 1, 0, 0, 1, 0, 0, 1, 0, 0] 1 15 [(2, (ii 8))] (sl Qj 117 [] ⟨[], [], [some [2]], []⟩ ⟨[], [], []⟩ (trs 5 [false, false, false, false, false, false, false, false, false, false, false, false, false, false, false, false, false, false, false, false, false, false, false, false, false, false, false, false, false, false, false, false, false, false, false, false, false, true]) (tt k2 (tt k1 (ww aG (tt k0 nn))))))))) (fun k1 => (lr 34 64 [1, 1, 0, 1, 0, 0, 1, 0, 0, 1, 0, 0] 1 15 [(2, (ii 8))] (sl Qj 117 [] ⟨[], [], [some [2]], []⟩ ⟨[], [], []⟩ [true, false, false, false, false, false, false, false, false, false, false, false, false, false, false, false, false, false, false, false, false, false, false, false, false, false, false, false, false, false, false, false, false, false, false, false, false, false, false, false, false, false, true] (tt k1 (ww aG (tt k0 nn))))))))) (fun k0 => (lo fun aG => (lb (fun k1 => (lr 34 64 [1, 1, 1, 1, 0, 1, 0, 0] 1 15 [(2, (ii 8))] (sl Qj 37 [] ⟨[], [], [some [2]], []⟩ ⟨[], [], []⟩ [false, true, true, true, true, true] (tt k1 (pp (pp (xr l0) (pp (xI R6 0 (fun _ => [])) (xw aG))) (tt k0 nn)))))) (fun k1 => (lo fun cU => (lb (fun k2 => (lr 34 64 [1, 1, 1, 1, 0, 1, 0, 0] 1 15 [(2, (ii 8))] (sl Qj 37 [] ⟨[], [], [some [2]], []⟩ ⟨[], [], []⟩ [false, false, false, false, false, true] (tt k2 (pp (pp (xI R6 (Vt 2 (cvT l0) ([] : List R6)).length (Zz (Vt 2 (cvT l0) ([] : List R6)))) (pp (xr l0) (xw cU))) (tt k1 (pp (pp (xr l0) (pp (xI R6 0 (fun _ => [])) (xw aG))) (tt k0 nn)))))))) (fun k2 => (lr 34 3 [1, 1, 1, 1, 1, 1, 0] 1 15 [(2, (ii 0))] (sl Qj 38 [] ⟨[], [], [some [2]], []⟩ ⟨[], [], []⟩ [false, false, false, false, false, false] (tt k2 (pp (pp (xI R6 (Vt 2 (cvT l0) ([] : List R6)).length (Zz (Vt 2 (cvT l0) ([] : List R6)))) (pp (xr l0) (xw cU))) (tt k1 (pp (pp (xr l0) (pp (xI R6 0 (fun _ => [])) (xw aG))) (tt k0 nn)))))))))))))))
theorem y6v (l0 : List R6) : Wb prog (Zy prog 64) (v5f l0) (Zi prog 64 [(.dat l0.length (Zz l0))] true []) (z5d l0) := (lb (fun k0 => (lr 34 64 [1, 0, 1, 0, 0] 1 15 [(2, (ii 4))] (sl Qj 16 [] ⟨[], [], [some [2]], []⟩ ⟨[], [], []⟩ [true] (tt k0 nn)))) (fun k0 => (sl Qj 20 [] ⟨[], [], v0x, v0y⟩ ⟨[], [], []⟩ [false] (tt k0 nn))))
theorem w0m (l0 : List R6) (n : Nat) (vs : List AVal) (h : Yb (Qb l0) n (z5d l0) = .ret vs) : Qx prog (Zy prog 64) (Zi prog 64 [(.dat l0.length (Zz l0))] true []) vs := by
 have := Zt (x0k l0) n _ (y6v l0)
 rwa [h] at this
end Go.Am
namespace Go.Am
open Go.Proofs.Tryz
open Go.Proofs
def y8x (r : R6) : Bool := decide (r.a ≥ -1000000) && (decide (r.b ≥ -1000000) && (decide (r.c ≥ -1000000) && (decide (r.a ≤ 1000000) && (decide (r.b ≤ 1000000) && (decide (r.c ≤ 1000000) && (decide (r.d ≥ -1000000) && (decide (r.e ≥ -1000000) && (decide (r.f ≥ -1000000) && (decide (r.d ≤ 1000000) && (decide (r.e ≤ 1000000) && (decide (r.f ≤ 1000000) && (decide (r.a < r.d) && (decide (r.b < r.e) && decide (r.c < r.f))))))))))))))
def rckF (l : List R6) : Int := bif Vs 2 l [] then (bif Uz (Vt 2 l []) l then 0 else 8) else 8
def Wv (l : List R6) : Int := bif decide (400 < l.length) then 4 else bif l.all y8x then rckF l else 8
def w0k (l : List R6) : Bool := true
theorem y3f (k : Int) (l m : List R6) : (Vt k l m).length ≤ 400 ∨ Vs k l m = false := by
 unfold Vt Vs
 cases jsO k l m with
 | none => exact .inl (Nat.zero_le _)
 | some out =>
  by_cases h : (out.length : Int) ≤ 400
  ·left; show out.length ≤ 400; omega
  ·right; exact decide_eq_false h
section
variable (l : List R6) (hl : l.length ≤ 400)
include hl
theorem w0l : ∀ (k i : Nat), i + k = l.length → (∀ s ∈ l.take i, y8x s = true) → ∃ n, Yb (Qb l) n (.to (.h0 (i : Int))) = .ret [.int .i64 (bif l.all y8x then rckF l else 8)]
 | 0, i, h, ht => by
  have hv : l.all y8x = true := List.all_eq_true.2 fun s hs => ht s (by rw [List.take_of_length_le (by omega)]; exact hs)
  have w1 : Kq 2 l [] = true := decide_eq_true ⟨by omega, by simp⟩
  refine ⟨1, ?_⟩
  rw [Zv, hv, cond_true]
  unfold rckF
  rcases Yp (Vs 2 l []) with q | q
  ·have w2 : Xs (Vt 2 l []) l = true := decide_eq_true (by
    rcases y3f 2 l [] with h | h
    ·omega
    ·rw [h] at q; cases q)
   rcases Yp (Uz (Vt 2 l []) l) with q2 | q2 <;>
   simp (disch := omega) only [Qb, Za, Zr, q, q2, w1, w2, Bool.not_true, Bool.not_false, cond_true, cond_false, Zm]
  ·simp (disch := omega) only [Qb, Za, Zr, q, w1, Bool.not_true, Bool.not_false, cond_true, cond_false, Zm]
 | k + 1, i, h, ht => by
  have hi : i < l.length := by omega
  have hs : Qb l (.h0 (i : Int)) = bif y8x (rd l i) then .to (.h0 ((i + 1 : Nat) : Int)) else .ret [.int .i64 8] := by
   simp (disch := omega) only [Qb, y8x, x2k, y5n, x4u, Zs, Zu, Zx, Zk, Bool.and_true, cond_true, cond_false]
  rcases Yp (y8x (rd l i)) with q | q
  ·obtain ⟨n, hn⟩ := w0l k (i + 1) (by omega) (fun s hs => by
    rw [List.take_add_one] at hs
    have e : l[i]? = some (rd l i) := by rw [Xq hi]; exact List.getElem?_eq_getElem _
    rw [e] at hs
    simp only [Option.toList_some, List.mem_append, List.mem_singleton] at hs
    rcases hs with hs | rfl
    ·exact ht s hs
    ·exact q)
   refine ⟨n + 1, ?_⟩
   rw [Zv, hs, q, cond_true]
   exact hn
  ·have hv : l.all y8x = false := Bool.eq_false_iff.2 fun e => by
    have := List.all_eq_true.1 e (rd l i) (by rw [Xq hi]; exact List.getElem_mem hi)
    rw [this] at q; cases q
   refine ⟨1, ?_⟩
   rw [Zv, hv, cond_false, hs, q, cond_false, Zm]
end
theorem w6b (l : List R6) : ∃ n, Yb (Qb l) n (z5d l) = .ret [.int .i64 (Wv l)] := by
 unfold z5d Wv
 by_cases h : 400 < l.length
 ·refine ⟨0, ?_⟩
  rw [decide_eq_true h, Ye (show (l.length : Int) > 400 by omega)]; rfl
 ·obtain ⟨n, hn⟩ := w0l l (by omega) l.length 0 (Nat.zero_add _) (fun s hs => by simp at hs)
  refine ⟨n, ?_⟩
  rw [decide_eq_false h, Xx (show ¬ (l.length : Int) > 400 by omega), cond_false, cond_false]
  exact hn
def fRck : List AVal → Option (AVal × Bool)
 | [a1] => match asL R6 a1 with
  | some (L1, g1, n1) => some (.int .i64 (Wv L1), isT R6 n1 g1 && w0k L1)
  | _ => none
 | _ => none
theorem v7n {S : Specs} (hS : Zq prog S) : Zq prog (S.with w1k fRck) := by
 refine z6v hS (by kernel_rfl) fun args v h => ?_
 unfold fRck at h
 split at h
 ·rename_i a1
  split at h
  ·rename_i L1 g1 n1 e1
   simp only [Option.some.injEq, Prod.mk.injEq, Bool.and_eq_true] at h
   obtain ⟨rfl, ho1, hw⟩ := h
   obtain ⟨N, hN⟩ := w6b L1
   exact ⟨_, _, (.cons (asL_le e1 ho1) .nil), rfl, w0m L1 N _ hN, 3, rfl⟩
  ·cases h
 ·cases h
def T9 : Specs := T8.with w1k fRck
theorem y5x : Zq prog T9 := v7n Qj
end Go.Am
namespace Go.Am
open Go.Proofs
end Go.Am
namespace Go.Am
open Go.Proofs
end Go.Am
namespace Go.Am
open Go.Proofs
end Go.Am
namespace Go.Am
open Go.Proofs
end Go.Am
namespace Go.Am
open Go.Proofs
def far1 (x y z : Int) (r : R6) : Int := Wu (Wu (Wu (Wu (Wu (Wu 0 (IntKind.wrap .i64 (r.a - x))) (IntKind.wrap .i64 (IntKind.wrap .i64 (x - r.d) + 1))) (IntKind.wrap .i64 (r.b - y))) (IntKind.wrap .i64 (IntKind.wrap .i64 (y - r.e) + 1))) (IntKind.wrap .i64 (r.c - z))) (IntKind.wrap .i64 (IntKind.wrap .i64 (z - r.f) + 1))
def frmF (x y z : Int) : List R6 → Int → Int
 | [], d => d
 | r :: l, d => frmF x y z l (Wn d (far1 x y z r))
def frmV (x y z : Int) (L : List R6) : Int := frmF x y z (L.drop 1) (far1 x y z (rd L 0))
end Go.Am
namespace Go.Am
open Go.Proofs.Tryz
open Go.Proofs
inductive nr39S where
 | h0 (v3 : Int)
def v5u (l0 : List R6) : nr39S → Cfg
 | .h0 v3 => ⟨⟨103, 0, true⟩, none, (Zb prog 15 [1, 1, 0, 1, 0, 0] 0), none, (Zy prog 15), ⟨Ym [(0, (.dat l0.length (Zz l0))), (3, (ii v3))], Uc [] 0, 0, [], true⟩, [], .leaf⟩
def v1e : List (Option (List Nat)) := [some [0, 3]]
def v1f : List (Option (List Nat)) := []
def z2z (l0 : List R6) : nr39S → Wa nr39S
 | .h0 v3 => (bif (decide (v3 < (l0.length : Int))) then (bif ((decide (0 ≤ v3 ∧ v3 < (l0.length : Int))) && true) then (bif (decide ((Wn (Wn (rd l0 v3.toNat).a (rd l0 v3.toNat).b) (rd l0 v3.toNat).c) < (-12))) then (.ret [(.bool false)]) else (bif (decide ((Wu (Wu (rd l0 v3.toNat).d (rd l0 v3.toNat).e) (rd l0 v3.toNat).f) > 12)) then (.ret [(.bool false)]) else (bif (decide ((Wn (Wn (rd l0 v3.toNat).d (rd l0 v3.toNat).e) (rd l0 v3.toNat).f) < (-12))) then (.ret [(.bool false)]) else (bif (decide ((Wu (Wu (rd l0 v3.toNat).a (rd l0 v3.toNat).b) (rd l0 v3.toNat).c) > 12)) then (.ret [(.bool false)]) else (.to (.h0 (IntKind.wrap .i64 (v3 + 1)))))))) else .stuck) else (.ret [(.bool (decide ((l0.length : Int) ≤ 6)))]))
def z5j (l0 : List R6) : Wa nr39S := (bif (decide ((l0.length : Int) > 400)) then (.ret [(.bool (decide ((l0.length : Int) ≤ 420)))]) else (.to (.h0 0)))
theorem x0u (l0 : List R6) : ∀ s, Wb prog (Zy prog 15) (v5u l0) (v5u l0 s) (z2z l0 s)
 | .h0 v3 => (lb (fun k0 => (lo fun aG => (lb (fun k1 => (lr 103 15 [1, 1, 0, 1, 0, 0, 1, 0, 0, 0, 1, 0, 0] 1 15 [(2, (.bool false))] (sl y5x 20 [] ⟨[], [], [some [2]], []⟩ ⟨[], [], []⟩ (trs 22 []) (tt k1 (ww aG (ww aG (ww aG (tt k0 nn)))))))) (fun k1 => (lb (fun k2 => (lr 103 15 [1, 1, 0, 1, 0, 0, 1, 0, 0, 0, 1, 0, 0] 1 15 [(2, (.bool false))] (sl y5x 20 [] ⟨[], [], [some [2]], []⟩ ⟨[], [], []⟩ [true, false, false, false, false, false, false, false, false, false, false, false, false, false, false, false, false, false, false, false, false, true] (tt k2 (ww aG (ww aG (ww aG (tt k1 (ww aG (ww aG (ww aG (tt k0 nn)))))))))))) (fun k2 => (lb (fun k3 => (lr 103 15 [1, 1, 0, 1, 0, 0, 1, 0, 0, 1, 1, 0, 0] 1 15 [(2, (.bool false))] (sl y5x 24 [] ⟨[], [], [some [2]], []⟩ ⟨[], [], []⟩ [true, false, false, false, false, false, false, false, false, false, false, false, false, false, false, false, false, false, false, false, false, false, true, true, true, true, true, true, true, true, true, true, true, true, true, true, true, true, true, true, true, true, true] (tt k3 (ww aG (ww aG (ww aG (tt k2 (ww aG (ww aG (ww aG (tt k1 (ww aG (ww aG (ww aG (tt k0 nn)))))))))))))))) (fun k3 => (lb (fun k4 => (lr 103 15 [1, 1, 0, 1, 0, 0, 1, 0, 0, 1, 1, 0, 0] 1 15 [(2, (.bool false))] (sl y5x 24 [] ⟨[], [], [some [2]], []⟩ ⟨[], [], []⟩ [true, false, false, false, false, false, false, false, false, false, false, false, false, false, false, false, false, false, false, false, false, false, false, false, false, false, false, false, false, false, false, false, false, false, false, false, false, false, false, false, false, false, true] (tt k4 (ww aG (ww aG (ww aG (tt k3 (ww aG (ww aG (ww aG (tt k2 (ww aG (ww aG (ww aG (tt k1 (ww aG (ww aG (ww aG (tt k0 nn)))))))))))))))))))) (fun k4 => (sl y5x 28 [] ⟨[], [], v1e, v1f⟩ ⟨[], [], []⟩ [true, false, false, false, false, false, false, false, false, false, false, false, false, false, false, false, false, false, false, false, false, false, false, false, false, false, false, false, false, false, false, false, false, false, false, false, false, false, false, false, false, false, false] (tt k4 (ww aG (ww aG (ww aG (tt k3 (ww aG (ww aG (ww aG (tt k2 (ww aG (ww aG (ww aG (tt k1 (ww aG (ww aG (ww aG (tt k0 nn)))))))))))))))))))))))))))) (fun k0 => (lr 103 3 [1, 1, 1, 1, 1, 1, 0] 1 15 [(2, (.bool (decide ((l0.length : Int) ≤ 6))))] (sl y5x 17 [] ⟨[], [], [some [2]], []⟩ ⟨[], [], []⟩ [false] (tt k0 nn)))))
theorem y7d (l0 : List R6) : Wb prog (Zy prog 15) (v5u l0) (Zi prog 15 [(.dat l0.length (Zz l0))] true []) (z5j l0) := (lb (fun k0 => (lr 103 15 [1, 0, 1, 0, 0] 1 15 [(2, (.bool (decide ((l0.length : Int) ≤ 420))))] (sl y5x 19 [] ⟨[], [], [some [2]], []⟩ ⟨[], [], []⟩ [true] (tt k0 nn)))) (fun k0 => (sl y5x 20 [] ⟨[], [], v1e, v1f⟩ ⟨[], [], []⟩ [false] (tt k0 nn))))
theorem w1d (l0 : List R6) (n : Nat) (vs : List AVal) (h : Yb (z2z l0) n (z5j l0) = .ret vs) : Qx prog (Zy prog 15) (Zi prog 15 [(.dat l0.length (Zz l0))] true []) vs := by
 have := Zt (x0u l0) n _ (y7d l0)
 rwa [h] at this
end Go.Am
namespace Go.Am
open Go.Proofs.Tryz
open Go.Proofs
def lpI (g : Int → Int → Int) : Nat → Int → Int → Int
 | 0, _, d => d
 | n + 1, z, d => lpI g n (z + 1) (g z d)
def rgZ (L1 : List R6) (r : R6) (x y d : Int) : Int := lpI (fun z d => Wu d (frmV x y z L1)) (r.f - r.c).toNat r.c d
def rgY (L1 : List R6) (r : R6) (x d : Int) : Int := lpI (fun y d => rgZ L1 r x y d) (r.e - r.b).toNat r.b d
def rgX (L1 : List R6) (r : R6) (d : Int) : Int := lpI (fun x d => rgY L1 r x d) (r.d - r.a).toNat r.a d
def rrcF (L1 : List R6) : List R6 → Int → Int
 | [], d => d
 | r :: l, d => rrcF L1 l (rgX L1 r d)
def rrcV (L0 L1 : List R6) : Int := rrcF L1 L0 0
def smR (r : R6) : Bool := decide (-1000000000 ≤ r.a) && (decide (-1000000000 ≤ r.b) && (decide (-1000000000 ≤ r.c) && (decide (r.d ≤ 1000000000) && (decide (r.e ≤ 1000000000) && decide (r.f ≤ 1000000000)))))
def x9o (L0 L1 : List R6) : Bool := decide (0 < L1.length) && (decide (L1.length ≤ 100000) && (decide (L0.length ≤ 100000) && L0.all smR))
def w6s (r : R6) : Bool := !decide (Wn (Wn r.a r.b) r.c < (-12)) && (!decide (Wu (Wu r.d r.e) r.f > 12) && (!decide (Wn (Wn r.d r.e) r.f < (-12)) && !decide (Wu (Wu r.a r.b) r.c > 12)))
def y2j (L : List R6) : Bool := bif decide ((L.length : Int) > 400) then decide ((L.length : Int) ≤ 420) else L.all w6s && decide ((L.length : Int) ≤ 6)
def z3a (L : List R6) : Bool := true
theorem w1c {L : List R6} (hl : L.length ≤ 400) : ∀ (k i : Nat), i + k = L.length → ∃ N, Yb (z2z L) N (.to (.h0 (i : Int))) = .ret [.bool ((L.drop i).all w6s && decide ((L.length : Int) ≤ 6))]
 | 0, i, h => by
  refine ⟨1, ?_⟩
  rw [Zv, List.drop_eq_nil_of_le (by omega)]
  simp (disch := omega) only [z2z, Zr, cond_false]; rfl
 | k + 1, i, h => by
  have hi : i < L.length := by omega
  obtain ⟨N, hN⟩ := w1c hl k (i + 1) (by omega)
  have hw : IntKind.wrap .i64 ((i : Int) + 1) = ((i + 1 : Nat) : Int) := Zu (by omega)
  refine ⟨N + 1, ?_⟩
  rw [Zv, Yd hi]
  simp (disch := omega) only [z2z, Zo, Zs, hw, Zk, Bool.and_true, cond_true, List.all_cons]
  unfold w6s
  cases decide (Wn (Wn (rd L i).a (rd L i).b) (rd L i).c < (-12)) <;> cases decide (Wu (Wu (rd L i).d (rd L i).e) (rd L i).f > 12) <;> cases decide (Wn (Wn (rd L i).d (rd L i).e) (rd L i).f < (-12)) <;> cases decide (Wu (Wu (rd L i).a (rd L i).b) (rd L i).c > 12) <;> first | exact Zm _ _ _ | exact hN
theorem w6m (L : List R6) (h : z3a L = true) : ∃ N, Yb (z2z L) N (z5j L) = .ret [.bool (y2j L)] := by
 unfold z5j y2j
 by_cases hl : L.length ≤ 400
 ·obtain ⟨N, hN⟩ := w1c hl L.length 0 (Nat.zero_add _)
  refine ⟨N, ?_⟩
  rw [Xx (by omega), cond_false, cond_false]; exact hN
 ·refine ⟨0, ?_⟩
  rw [Ye (by omega)]; rfl
def fRrc : List AVal → Option (AVal × Bool)
 | [a0, a1] => match asL R6 a0, asL R6 a1 with
  | some (L0, g0, n0), some (L1, g1, n1) => some (.int .i64 (rrcV L0 L1), isT R6 n0 g0 && (isT R6 n1 g1 && (x9o L0 L1)))
  | _, _ => none
 | _ => none
def v7r : List AVal → Option (AVal × Bool)
 | [a0] => match asL R6 a0 with
  | some (L0, g0, n0) => some (.bool (y2j L0), isT R6 n0 g0 && (z3a L0))
  | _ => none
 | _ => none
theorem w8d {S : Specs} (hS : Zq prog S) : Zq prog (S.with w1m v7r) := by
 refine z6v hS (by kernel_rfl) fun args v h => ?_
 unfold v7r at h
 split at h
 ·rename_i a0
  split at h
  ·rename_i L0 g0 n0 e0
   simp only [Option.some.injEq, Prod.mk.injEq, Bool.and_eq_true] at h
   obtain ⟨rfl, ho0, hw⟩ := h
   obtain ⟨N, hN⟩ := w6m L0 hw
   exact ⟨_, _, (.cons (asL_le e0 ho0) .nil), rfl, w1d L0 N _ hN, 3, rfl⟩
  ·cases h
 ·cases h
def Dz : Specs := (T9.with w1m v7r)
theorem Uf : Zq prog Dz := (w8d y5x)
end Go.Am
namespace Go.Am
open Go.Proofs Go.Sort Go.Shelf Go.RowKit Go.Lib
def pt (L : List R2) (y : Int) : Prop := ∃ s ∈ L, s.a ≤ y ∧ y < s.b
structure Can (L : List R2) : Prop where
 pos : ∀ s ∈ L, s.a < s.b
 sep : L.Pairwise fun s t => s.b < t.a
theorem Can.nil : Can [] := ⟨by simp, .nil⟩
theorem Can.tail {s : R2} {L : List R2} (h : Can (s :: L)) : Can L := ⟨fun t ht => h.pos t (List.mem_cons_of_mem _ ht), (List.pairwise_cons.1 h.sep).2⟩
theorem Can.head {s : R2} {L : List R2} (h : Can (s :: L)) : ∀ t ∈ L, s.b < t.a := (List.pairwise_cons.1 h.sep).1
theorem v2s {s : R2} {L : List R2} (h : Can (s :: L)) {y : Int} (hy : pt (s :: L) y) : s.a ≤ y := by
 obtain ⟨t, ht, h1, h2⟩ := hy
 rcases List.mem_cons.1 ht with rfl | ht
 ·exact h1
 ·have := h.head t ht; have := h.pos s (by simp); omega
theorem x4v : ∀ (L M : List R2), Can L → Can M → (∀ y, pt L y ↔ pt M y) → L = M
 | [], [], _, _, _ => rfl
 | [], t :: M, _, hM, h => by
  have := (h t.a).2 ⟨t, by simp, Int.le_refl _, hM.pos t (by simp)⟩
  obtain ⟨s, hs, _⟩ := this; cases hs
 | s :: L, [], hL, _, h => by
  have := (h s.a).1 ⟨s, by simp, Int.le_refl _, hL.pos s (by simp)⟩
  obtain ⟨s, hs, _⟩ := this; cases hs
 | s :: L, t :: M, hL, hM, h => by
  have p1 := hL.pos s (by simp)
  have p2 := hM.pos t (by simp)
  have a1 : t.a ≤ s.a := v2s hM ((h s.a).1 ⟨s, by simp, Int.le_refl _, p1⟩)
  have a2 : s.a ≤ t.a := v2s hL ((h t.a).2 ⟨t, by simp, Int.le_refl _, p2⟩)
  have b1 : ¬ s.b < t.b := fun hb => by
   obtain ⟨u, hu, h1, h2⟩ := (h s.b).2 ⟨t, by simp, by omega, hb⟩
   rcases List.mem_cons.1 hu with rfl | hu
   ·omega
   ·have := hL.head u hu; omega
  have b2 : ¬ t.b < s.b := fun hb => by
   obtain ⟨u, hu, h1, h2⟩ := (h t.b).1 ⟨s, by simp, by omega, hb⟩
   rcases List.mem_cons.1 hu with rfl | hu
   ·omega
   ·have := hM.head u hu; omega
  have e : s = t := by
   obtain ⟨sa, sb⟩ := s; obtain ⟨ta, tb⟩ := t
   simp only at a1 a2 b1 b2
   have : sa = ta := by omega
   have : sb = tb := by omega
   subst_vars; rfl
  subst e
  congr 1
  refine x4v L M hL.tail hM.tail fun y => ⟨fun hy => ?_, fun hy => ?_⟩
  ·obtain ⟨u, hu, h1, h2⟩ := hy
   have g := hL.head u hu
   obtain ⟨v, hv, h3, h4⟩ := (h y).1 ⟨u, by simp [hu], h1, h2⟩
   rcases List.mem_cons.1 hv with rfl | hv
   ·omega
   ·exact ⟨v, hv, h3, h4⟩
  ·obtain ⟨u, hu, h1, h2⟩ := hy
   have g := hM.head u hu
   obtain ⟨v, hv, h3, h4⟩ := (h y).2 ⟨u, by simp [hu], h1, h2⟩
   rcases List.mem_cons.1 hv with rfl | hv
   ·omega
   ·exact ⟨v, hv, h3, h4⟩
def push (out : List R2) (x x' : Int) : List R2 :=
 bif decide (0 < out.length) && ((rd out (out.length - 1)).b == x) then out.set (out.length - 1) ⟨(rd out (out.length - 1)).a, x'⟩ else out ++ [⟨x, x'⟩]
theorem w0p (out : List R2) (s : R2) (x x' : Int) : push (out ++ [s]) x x' = bif s.b == x then out ++ [⟨s.a, x'⟩] else out ++ [s] ++ [⟨x, x'⟩] := by
 have e : rd (out ++ [s]) ((out ++ [s]).length - 1) = s := by
  rw [Ve (by simp)]; simp [rd]
 unfold push
 rw [e, decide_eq_true (by simp), Bool.true_and]
 cases (s.b == x)
 ·rfl
 ·simp
theorem x3o {out : List R2} {x x' : Int} (hc : Can out) (hb : ∀ s ∈ out, s.b ≤ x) (hx : x < x') :
  Can (push out x x') ∧ (∀ s ∈ push out x x', s.b ≤ x') ∧ ∀ y, pt (push out x x') y ↔ pt out y ∨ (x ≤ y ∧ y < x') := by
 rcases List.eq_nil_or_concat out with rfl | ⟨L, s, rfl⟩
 ·refine ⟨⟨?_, ?_⟩, ?_, fun y => ?_⟩
  ·intro s hs; simp [push] at hs; subst hs; exact hx
  ·simp [push]
  ·intro s hs; simp [push] at hs; subst hs; exact Int.le_refl _
  ·simp [push, pt]
 ·rw [List.concat_eq_append] at *
  rw [w0p]
  have hs := hb s (by simp)
  have hp := hc.pos s (by simp)
  have sep := List.pairwise_append.1 hc.sep
  rcases Yp (s.b == x) with q | q
  ·rw [q, cond_true]
   have q : s.b = x := by simpa using q
   refine ⟨⟨?_, ?_⟩, ?_, fun y => ?_⟩
   ·intro t ht
    rcases List.mem_append.1 ht with ht | ht
    ·exact hc.pos t (by simp [ht])
    ·rw [List.mem_singleton.1 ht]; show s.a < x'; omega
   ·refine List.pairwise_append.2 ⟨sep.1, List.pairwise_singleton _ _, fun t ht u hu => ?_⟩
    rw [List.mem_singleton.1 hu]
    exact sep.2.2 t ht s (by simp)
   ·intro t ht
    rcases List.mem_append.1 ht with ht | ht
    ·have := hb t (by simp [ht]); omega
    ·rw [List.mem_singleton.1 ht]; exact Int.le_refl _
   ·constructor
    ·rintro ⟨t, ht, h1, h2⟩
     rcases List.mem_append.1 ht with ht | ht
     ·exact .inl ⟨t, by simp [ht], h1, h2⟩
     ·rw [List.mem_singleton.1 ht] at h1 h2
      by_cases hy : y < s.b
      ·exact .inl ⟨s, by simp, h1, hy⟩
      ·exact .inr ⟨by omega, h2⟩
    ·rintro (⟨t, ht, h1, h2⟩ | ⟨h1, h2⟩)
     ·rcases List.mem_append.1 ht with ht | ht
      ·exact ⟨t, by simp [ht], h1, h2⟩
      ·rw [List.mem_singleton.1 ht] at h1 h2
       exact ⟨⟨s.a, x'⟩, by simp, h1, by show y < x'; omega⟩
     ·exact ⟨⟨s.a, x'⟩, by simp, by show s.a ≤ y; omega, h2⟩
  ·rw [q, cond_false]
   have q : s.b ≠ x := by simpa using q
   refine ⟨⟨?_, ?_⟩, ?_, fun y => ?_⟩
   ·intro t ht
    rcases List.mem_append.1 ht with ht | ht
    ·exact hc.pos t ht
    ·rw [List.mem_singleton.1 ht]; exact hx
   ·refine List.pairwise_append.2 ⟨hc.sep, List.pairwise_singleton _ _, fun t ht u hu => ?_⟩
    rw [List.mem_singleton.1 hu]
    show t.b < x
    rcases List.mem_append.1 ht with h | h
    ·have h1 := sep.2.2 t h s (by simp); omega
    ·rw [List.mem_singleton.1 h]; omega
   ·intro t ht
    rcases List.mem_append.1 ht with ht | ht
    ·have := hb t ht; omega
    ·rw [List.mem_singleton.1 ht]; exact Int.le_refl _
   ·constructor
    ·rintro ⟨t, ht, h1, h2⟩
     rcases List.mem_append.1 ht with ht | ht
     ·exact .inl ⟨t, ht, h1, h2⟩
     ·rw [List.mem_singleton.1 ht] at h1 h2
      exact .inr ⟨h1, h2⟩
    ·rintro (⟨t, ht, h1, h2⟩ | ⟨h1, h2⟩)
     ·exact ⟨t, List.mem_append.2 (.inl ht), h1, h2⟩
     ·exact ⟨⟨x, x'⟩, by simp, h1, h2⟩
theorem Qr {l : List Int} (h : l.Pairwise (· < ·)) {i j : Nat} (hij : i < j) (hj : j < l.length) : rd l i < rd l j := by
 rw [Xq (by omega), Xq hj]
 exact List.pairwise_iff_getElem.1 h i j (by omega) hj hij
theorem z9i (cuts : List Int) (ins : List Bool) (hc : cuts.Pairwise (· < ·)) : ∀ (k i : Nat) (out : List R2), i + k < cuts.length ∨ k = 0 → Can out → (∀ s ∈ out, s.b ≤ rd cuts i) →
  Can (x4x cuts ins k i out) ∧ ∀ y, pt (x4x cuts ins k i out) y ↔ pt out y ∨ ∃ j, i ≤ j ∧ j < i + k ∧ rd ins j = true ∧ rd cuts j ≤ y ∧ y < rd cuts (j + 1)
 | 0, i, out, h, ho, hb => ⟨ho, fun y => ⟨.inl, fun hy => hy.elim id fun ⟨j, h1, h2, _⟩ => by omega⟩⟩
 | k + 1, i, out, h, ho, hb => by
  have hlt : rd cuts i < rd cuts (i + 1) := Qr hc (Nat.lt_succ_self _) (by omega)
  obtain ⟨p1, p2, p3⟩ := x3o ho hb hlt
  have e : x4x cuts ins (k + 1) i out = x4x cuts ins k (i + 1) (bif rd ins i then push out (rd cuts i) (rd cuts (i + 1)) else out) := rfl
  rw [e]
  rcases Yp (rd ins i) with q | q
  ·rw [q, cond_true]
   obtain ⟨r1, r2⟩ := z9i cuts ins hc k (i + 1) (push out (rd cuts i) (rd cuts (i + 1))) (by omega) p1 p2
   refine ⟨r1, fun y => ?_⟩
   rw [r2, p3]
   constructor
   ·rintro ((h | h) | ⟨j, h1, h2, h3⟩)
    ·exact .inl h
    ·exact .inr ⟨i, Nat.le_refl _, by omega, q, h⟩
    ·exact .inr ⟨j, by omega, by omega, h3⟩
   ·rintro (h | ⟨j, h1, h2, h3⟩)
    ·exact .inl (.inl h)
    ·rcases Nat.eq_or_lt_of_le h1 with rfl | h1
     ·exact .inl (.inr h3.2)
     ·exact .inr ⟨j, h1, by omega, h3⟩
  ·rw [q, cond_false]
   obtain ⟨r1, r2⟩ := z9i cuts ins hc k (i + 1) out (by omega) ho (fun s hs => by have := hb s hs; omega)
   refine ⟨r1, fun y => ?_⟩
   rw [r2]
   constructor
   ·rintro (h | ⟨j, h1, h2, h3⟩)
    ·exact .inl h
    ·exact .inr ⟨j, by omega, by omega, h3⟩
   ·rintro (h | ⟨j, h1, h2, h3⟩)
    ·exact .inl h
    ·rcases Nat.eq_or_lt_of_le h1 with rfl | h1
     ·rw [q] at h3; cases h3.1
     ·exact .inr ⟨j, h1, by omega, h3⟩
theorem y5j {cuts : List Int} : ∀ (k : Nat), k < cuts.length → ∀ y, rd cuts 0 ≤ y → y < rd cuts k → ∃ j, j < k ∧ rd cuts j ≤ y ∧ y < rd cuts (j + 1)
 | 0, _, y, h1, h2 => by omega
 | k + 1, hk, y, h1, h2 => by
  by_cases h : rd cuts k ≤ y
  ·exact ⟨k, Nat.lt_succ_self _, h, h2⟩
  ·obtain ⟨j, h3, h4⟩ := y5j k (by omega) y h1 (by omega)
   exact ⟨j, by omega, h4⟩
theorem x4w (cuts : List Int) (hc : cuts.Pairwise (· < ·)) (P : Int → Bool) (S : List R2) (hS : ∀ s ∈ S, s.a ∈ cuts ∧ s.b ∈ cuts) (hP : ∀ y, P y = true ↔ pt S y) :
  Can (z7u cuts (cuts.map P)) ∧ ∀ y, pt (z7u cuts (cuts.map P)) y ↔ pt S y := by
 obtain ⟨r1, r2⟩ := z9i cuts (cuts.map P) hc (cuts.length - 1) 0 [] (by omega) .nil (by simp)
 refine ⟨r1, fun y => ?_⟩
 unfold z7u
 rw [r2]
 have hin : ∀ x, x ∈ cuts → ∃ i, i < cuts.length ∧ rd cuts i = x := fun x hx => by
  obtain ⟨i, hi, h⟩ := List.getElem_of_mem hx
  exact ⟨i, hi, by rw [Xq hi]; exact h⟩
 have hmap : ∀ j, j < cuts.length → rd (cuts.map P) j = P (rd cuts j) := fun j hj => by
  rw [Xq (by simpa using hj), Xq hj, List.getElem_map]
 have le_of : ∀ i j, i < cuts.length → j < cuts.length → i ≤ j → rd cuts i ≤ rd cuts j := fun i j hi hj hij => by
  rcases Nat.eq_or_lt_of_le hij with rfl | h
  ·exact Int.le_refl _
  ·exact Int.le_of_lt (Qr hc h hj)
 constructor
 ·rintro (⟨s, hs, _⟩ | ⟨j, h1, h2, h3, h4, h5⟩)
  ·cases hs
  ·have hj : j + 1 < cuts.length := by omega
   rw [hmap j (by omega)] at h3
   obtain ⟨s, hs, a1, a2⟩ := (hP _).1 h3
   obtain ⟨ca, cb⟩ := hS s hs
   obtain ⟨m, hm, em⟩ := hin s.b cb
   refine ⟨s, hs, by omega, ?_⟩
   have : j < m := by
    rcases Nat.lt_or_ge j m with h | h
    ·exact h
    ·have := le_of m j hm (by omega) h; omega
   have := le_of (j + 1) m hj hm this
   omega
 ·rintro ⟨s, hs, a1, a2⟩
  right
  obtain ⟨ca, cb⟩ := hS s hs
  obtain ⟨n, hn, en⟩ := hin s.a ca
  obtain ⟨m, hm, em⟩ := hin s.b cb
  have h0 := le_of 0 n (by omega) hn (Nat.zero_le _)
  obtain ⟨j, h1, h2, h3⟩ := y5j m hm y (by omega) (by omega)
  refine ⟨j, Nat.zero_le _, by omega, ?_, h2, h3⟩
  rw [hmap j (by omega), hP]
  refine ⟨s, hs, ?_, ?_⟩
  ·have : n ≤ j := by
    rcases Nat.lt_or_ge j n with h | h
    ·have := le_of (j + 1) n (by omega) hn h; omega
    ·exact h
   have := le_of n j hn (by omega) this
   omega
  ·omega
end Go.Am
namespace Go.Am
open Go.Proofs Go.Sort Go.Shelf Go.RowKit Go.Lib
def net (E : List R3) (y : Int) : Int := (E.map fun e => if e.a ≤ y then e.c else 0).sum
theorem Kk (e : R3) (E : List R3) (y : Int) : net (e :: E) y = (if e.a ≤ y then e.c else 0) + net E y := by simp [net]
theorem w6o {E F : List R3} (h : E.Perm F) (y : Int) : net E y = net F y := by
 induction h with
 | nil => rfl
 | cons e _ ih => rw [Kk, Kk, ih]
 | swap a b l => simp only [Kk]; omega
 | trans _ _ i1 i2 => rw [i1, i2]
theorem x3r (E : List R3) (y : Int) (h : ∀ e ∈ E, y < e.a) : net E y = 0 := by
 induction E with
 | nil => rfl
 | cons e E ih =>
  rw [Kk, if_neg (by have := h e (by simp); omega), ih fun f hf => h f (by simp [hf])]; rfl
theorem w3p (out : List R2) (last : Int) (inn : Bool) (x : Int) : Qi out last inn x = bif inn && !(last == x) then push out last x else out := by
 unfold Qi push
 cases inn
 ·rfl
 ·cases (last == x) <;> rfl
theorem x7o {out : List R2} {last x : Int} (inn : Bool) (hc : Can out) (hb : ∀ s ∈ out, s.b ≤ last) (hx : last ≤ x) :
  Can (Qi out last inn x) ∧ (∀ s ∈ Qi out last inn x, s.b ≤ x) ∧ ∀ y, pt (Qi out last inn x) y ↔ pt out y ∨ (inn = true ∧ last ≤ y ∧ y < x) := by
 rw [w3p]
 rcases Yp (inn && !(last == x)) with q | q
 ·rw [q, cond_true]
  simp only [Bool.and_eq_true, Bool.not_eq_true', beq_eq_false_iff_ne, ne_eq] at q
  obtain ⟨p1, p2, p3⟩ := x3o hc hb (show last < x by omega)
  refine ⟨p1, p2, fun y => ?_⟩
  rw [p3]; simp [q.1]
 ·rw [q, cond_false]
  refine ⟨hc, fun s hs => by have := hb s hs; omega, fun y => ⟨.inl, fun h => h.elim id fun ⟨h1, h2, h3⟩ => ?_⟩⟩
  rw [h1, Bool.true_and] at q
  have : last = x := by simpa using q
  omega
def Asc (E : List R3) : Prop := E.Pairwise fun e f => e.a ≤ f.a
theorem x8m : ∀ (E : List R3) (o last : Int) (out : List R2), Asc E → (∀ e ∈ E, last ≤ e.a) → Can out → (∀ s ∈ out, s.b ≤ last) →
  Can (swF E o last (decide (o > 0)) out) ∧ ∀ y, pt (swF E o last (decide (o > 0)) out) y ↔ pt out y ∨ (last ≤ y ∧ 0 < o + net E y ∧ ∃ e ∈ E, y < e.a)
 | [], o, last, out, _, _, hc, _ => ⟨hc, fun y => ⟨.inl, fun h => h.elim id fun ⟨_, _, e, he, _⟩ => by cases he⟩⟩
 | e :: r, o, last, out, hE, hl, hc, hb => by
  have he := hl e (by simp)
  have hr := List.pairwise_cons.1 hE
  obtain ⟨p1, p2, p3⟩ := x7o (decide (o > 0)) hc hb he
  obtain ⟨q1, q2⟩ := x8m r (o + e.c) e.a (Qi out last (decide (o > 0)) e.a) hr.2 hr.1 p1 p2
  rw [z8k]
  refine ⟨q1, fun y => ?_⟩
  rw [q2, p3, Kk]
  constructor
  ·rintro ((h | ⟨h1, h2, h3⟩) | ⟨h1, h2, f, hf, h3⟩)
   ·exact .inl h
   ·right
    have h1 := of_decide_eq_true h1
    refine ⟨h2, ?_, e, by simp, h3⟩
    rw [if_neg (by omega), x3r r y fun f hf => by have := hr.1 f hf; omega]
    omega
   ·right
    refine ⟨by omega, ?_, f, by simp [hf], h3⟩
    rw [if_pos h1]; omega
  ·rintro (h | ⟨h1, h2, f, hf, h3⟩)
   ·exact .inl (.inl h)
   ·by_cases hy : e.a ≤ y
    ·right
     rw [if_pos hy] at h2
     refine ⟨hy, by omega, f, ?_, h3⟩
     rcases List.mem_cons.1 hf with rfl | hf
     ·omega
     ·exact hf
    ·left; right
     rw [if_neg hy, x3r r y fun f hf => by have := hr.1 f hf; omega] at h2
     exact ⟨decide_eq_true (by omega), h1, by omega⟩
theorem w6p (l : List R2) (hv : ∀ s ∈ l, s.a < s.b) (y : Int) : 0 ≤ net (Jw l) y ∧ (0 < net (Jw l) y ↔ pt l y) := by
 induction l with
 | nil => exact ⟨Int.le_refl _, by simp [net, Jw, pt]⟩
 | cons s l ih =>
  obtain ⟨i1, i2⟩ := ih fun t ht => hv t (by simp [ht])
  have hs := hv s (by simp)
  have e : net (Jw (s :: l)) y = (if s.a ≤ y ∧ y < s.b then 1 else 0) + net (Jw l) y := by
   show net (⟨s.a, 0, 1⟩ :: ⟨s.b, 0, -1⟩ :: Jw l) y = _
   rw [Kk, Kk]
   show (if s.a ≤ y then (1 : Int) else 0) + ((if s.b ≤ y then (-1 : Int) else 0) + net (Jw l) y) = _
   by_cases h1 : s.a ≤ y
   ·by_cases h2 : s.b ≤ y
    ·rw [if_pos h1, if_pos h2, if_neg (show ¬ (s.a ≤ y ∧ y < s.b) by omega)]; omega
    ·rw [if_pos h1, if_neg h2, if_pos (show s.a ≤ y ∧ y < s.b by omega)]; omega
   ·rw [if_neg h1, if_neg (show ¬ s.b ≤ y by omega), if_neg (show ¬ (s.a ≤ y ∧ y < s.b) by omega)]; omega
  rw [e]
  by_cases h : s.a ≤ y ∧ y < s.b
  ·rw [if_pos h]
   exact ⟨by omega, ⟨fun _ => ⟨s, by simp, h⟩, fun _ => by omega⟩⟩
  ·rw [if_neg h]
   refine ⟨by omega, ?_⟩
   rw [Int.zero_add, i2]
   constructor
   ·rintro ⟨t, ht, h2⟩; exact ⟨t, by simp [ht], h2⟩
   ·rintro ⟨t, ht, h2⟩
    rcases List.mem_cons.1 ht with rfl | ht
    ·exact absurd h2 h
    ·exact ⟨t, ht, h2⟩
theorem y1h {l : List R2} {s : R2} (h : s ∈ l) : (⟨s.b, 0, -1⟩ : R3) ∈ Jw l ∧ (⟨s.a, 0, 1⟩ : R3) ∈ Jw l :=
 ⟨List.mem_flatMap.2 ⟨s, h, by simp⟩, List.mem_flatMap.2 ⟨s, h, by simp⟩⟩
theorem w4u (l : List R3) (h : y6d l = true) : Asc (z4m l) := by
 refine List.pairwise_iff_getElem.2 fun i j hi hj hij => ?_
 have := (z0f l h).2 i j hij hj
 rwa [Xq hi, Xq hj] at this
theorem z9p (l : List R2) (hv : l.all z7j = true) : Can (swV l) ∧ ∀ y, pt (swV l) y ↔ pt l y := by
 have hb : y6d (Jw l) = true := List.all_eq_true.2 fun e he => by
  obtain ⟨s, hs, h1⟩ := List.mem_flatMap.1 he
  have hv := List.all_eq_true.1 hv s hs
  simp only [z7j, Bool.and_eq_true, decide_eq_true_eq] at hv
  simp only [List.mem_cons, List.not_mem_nil, or_false] at h1
  rcases h1 with rfl | rfl <;> exact decide_eq_true (by simp only; omega)
 have hpos : ∀ s ∈ l, s.a < s.b := fun s hs => by
  have := List.all_eq_true.1 hv s hs
  simp only [z7j, Bool.and_eq_true, decide_eq_true_eq] at this
  exact this.1
 obtain ⟨hp, _⟩ := z0f (Jw l) hb
 have ha := w4u (Jw l) hb
 have hn : ∀ y, net (z4m (Jw l)) y = net (Jw l) y := fun y => w6o hp y
 unfold swV
 generalize z4m (Jw l) = E at hp ha hn
 cases E with
 | nil =>
  refine ⟨.nil, fun y => ⟨fun ⟨s, hs, _⟩ => (by cases hs), fun ⟨s, hs, _⟩ => ?_⟩⟩
  have := hp.mem_iff.2 (y1h hs).1
  cases this
 | cons e r =>
  have hr := List.pairwise_cons.1 ha
  rw [z8k, Int.zero_add]
  have e0 : Qi [] 0 false e.a = [] := rfl
  rw [e0]
  obtain ⟨q1, q2⟩ := x8m r e.c e.a [] hr.2 hr.1 .nil (by simp)
  refine ⟨q1, fun y => ?_⟩
  rw [q2]
  obtain ⟨n1, n2⟩ := w6p l hpos y
  rw [← n2, ← hn, Kk]
  constructor
  ·rintro (⟨s, hs, _⟩ | ⟨h1, h2, _⟩)
   ·cases hs
   ·rw [if_pos h1]; omega
  ·intro h
   have hpt := n2.1 (by rw [← hn, Kk]; exact h)
   obtain ⟨s, hs, s1, s2⟩ := hpt
   have m1 := hp.mem_iff.2 (y1h hs).1
   have m2 := hp.mem_iff.2 (y1h hs).2
   have hea : e.a ≤ y := by
    rcases List.mem_cons.1 m2 with h' | h'
    ·rw [← h']; exact s1
    ·have h'' : e.a ≤ s.a := hr.1 _ h'
     omega
   right
   rw [if_pos hea] at h
   refine ⟨hea, h, ⟨s.b, 0, -1⟩, ?_, s2⟩
   rcases List.mem_cons.1 m1 with h' | h'
   ·have h'' : e.a = s.b := by rw [← h']
    omega
   ·exact h'
theorem y6z (out : List Int) (hs : out.Pairwise (· < ·)) (x : Int) : ∀ k, k ≤ out.length → x0o out x k ≤ k ∧ (∀ i, x0o out x k ≤ i → i < k → x < rd out i) ∧ (0 < x0o out x k → rd out (x0o out x k - 1) ≤ x)
 | 0, _ => ⟨Nat.le_refl _, fun i h1 h2 => by omega, fun h => by simp [x0o] at h⟩
 | k + 1, hk => by
  unfold x0o
  rcases Yp (decide (rd out k > x)) with q | q
  ·rw [q, cond_true]
   obtain ⟨h1, h2, h3⟩ := y6z out hs x k (by omega)
   refine ⟨by omega, fun i a b => ?_, h3⟩
   rcases Nat.eq_or_lt_of_le (Nat.le_of_lt_succ b) with rfl | b
   ·exact of_decide_eq_true q
   ·exact h2 i a b
  ·rw [q, cond_false]
   exact ⟨Nat.le_refl _, fun i a b => by omega, fun _ => by have := of_decide_eq_false q; simp only [Nat.add_sub_cancel]; omega⟩
theorem w2d (out : List Int) (hs : out.Pairwise (· < ·)) (x : Int) : (y0v out x).Pairwise (· < ·) ∧ ∀ y, y ∈ y0v out x ↔ y ∈ out ∨ y = x := by
 obtain ⟨h1, h2, h3⟩ := y6z out hs x out.length (Nat.le_refl _)
 unfold y0v
 split
 ·rename_i h0
  rw [h0] at h2
  refine ⟨List.pairwise_cons.2 ⟨fun y hy => ?_, hs⟩, fun y => by simp [or_comm]⟩
  obtain ⟨i, hi, rfl⟩ := List.getElem_of_mem hy
  have := h2 i (Nat.zero_le _) hi
  rwa [Xq hi] at this
 ·rename_i k hk
  rw [hk] at h1 h2 h3
  have h3 : rd out k ≤ x := h3 (Nat.succ_pos _)
  have hkl : k < out.length := by omega
  rcases Yp (rd out k == x) with q | q
  ·rw [q, cond_true]
   have q : rd out k = x := by simpa using q
   refine ⟨hs, fun y => ⟨.inl, fun h => h.elim id fun e => ?_⟩⟩
   rw [e, ← q, Xq hkl]; exact List.getElem_mem hkl
  ·rw [q, cond_false]
   have q : rd out k ≠ x := by simpa using q
   refine ⟨?_, fun y => ?_⟩
   ·have st : (out.take (k + 1)).Pairwise (· < ·) := hs.sublist (List.take_sublist _ _)
    have sd : (out.drop (k + 1)).Pairwise (· < ·) := hs.sublist (List.drop_sublist _ _)
    have ht : ∀ y ∈ out.take (k + 1), y < x := fun y hy => by
     obtain ⟨i, hi, rfl⟩ := List.getElem_of_mem hy
     have hi' : i < k + 1 := by simp at hi; omega
     rw [List.getElem_take]
     have : rd out i ≤ rd out k := by
      rcases Nat.eq_or_lt_of_le (Nat.le_of_lt_succ hi') with rfl | h
      ·exact Int.le_refl _
      ·exact Int.le_of_lt (Qr hs h hkl)
     rw [Xq (show i < out.length by omega)] at this
     omega
    have hd : ∀ y ∈ out.drop (k + 1), x < y := fun y hy => by
     obtain ⟨i, hi, rfl⟩ := List.getElem_of_mem hy
     have hi' : k + 1 + i < out.length := by simp at hi; omega
     rw [List.getElem_drop, ← Xq hi']
     exact h2 _ (by omega) hi'
    refine List.pairwise_append.2 ⟨st, List.pairwise_cons.2 ⟨hd, sd⟩, fun a ha b hb => ?_⟩
    rcases List.mem_cons.1 hb with rfl | hb
    ·exact ht a ha
    ·exact Int.lt_trans (ht a ha) (hd b hb)
   ·rw [List.mem_append, List.mem_cons]
    constructor
    ·rintro (h | h | h)
     ·exact .inl (List.mem_of_mem_take h)
     ·exact .inr h
     ·exact .inl (List.mem_of_mem_drop h)
    ·rintro (h | h)
     ·rw [← List.take_append_drop (k + 1) out, List.mem_append] at h
      exact h.elim .inl fun h => .inr (.inr h)
     ·exact .inr (.inl h)
theorem Vz (l : List Int) : (z1u l).Pairwise (· < ·) ∧ ∀ y, y ∈ z1u l ↔ y ∈ l := by
 have : ∀ (l out : List Int), out.Pairwise (· < ·) → (l.foldl y0v out).Pairwise (· < ·) ∧ ∀ y, y ∈ l.foldl y0v out ↔ y ∈ out ∨ y ∈ l := by
  intro l
  induction l with
  | nil => intro out h; exact ⟨h, fun y => by simp⟩
  | cons x l ih =>
   intro out h
   obtain ⟨a, b⟩ := w2d out h x
   obtain ⟨c, d⟩ := ih (y0v out x) a
   refine ⟨c, fun y => ?_⟩
   show y ∈ l.foldl y0v (y0v out x) ↔ _
   rw [d, b, List.mem_cons, or_assoc]
 obtain ⟨a, b⟩ := this l [] .nil
 exact ⟨a, fun y => by rw [z1u, b]; simp⟩
theorem z7r : ∀ (l m : List Int), l.Pairwise (· < ·) → m.Pairwise (· < ·) → (∀ x, x ∈ l ↔ x ∈ m) → l = m
 | [], [], _, _, _ => rfl
 | [], b :: m, _, _, h => by have := (h b).2 (by simp); cases this
 | a :: l, [], _, _, h => by have := (h a).1 (by simp); cases this
 | a :: l, b :: m, hl, hm, h => by
  obtain ⟨a1, a2⟩ := List.pairwise_cons.1 hl
  obtain ⟨b1, b2⟩ := List.pairwise_cons.1 hm
  have e : a = b := by
   have x1 := (h a).1 (by simp)
   have x2 := (h b).2 (by simp)
   rcases List.mem_cons.1 x1 with x1 | x1
   ·exact x1
   rcases List.mem_cons.1 x2 with x2 | x2
   ·exact x2.symm
   have := b1 a x1
   have := a1 b x2
   omega
  subst e
  congr 1
  refine z7r l m a2 b2 fun x => ⟨fun hx => ?_, fun hx => ?_⟩
  ·rcases List.mem_cons.1 ((h x).1 (by simp [hx])) with e | e
   ·have := a1 x hx; omega
   ·exact e
  ·rcases List.mem_cons.1 ((h x).2 (by simp [hx])) with e | e
   ·have := b1 x hx; omega
   ·exact e
theorem z7s (zs : List Int) (hs : zs.Pairwise (· ≤ ·)) : ∀ m, m ≤ zs.length → (compactUpTo zs.toArray m).Pairwise (· < ·) ∧ ∀ x, x ∈ compactUpTo zs.toArray m ↔ x ∈ zs.take m
 | 0, _ => by simp [compactUpTo]
 | m + 1, h => by
  obtain ⟨h1, h2⟩ := z7s zs hs m (by omega)
  have hg : ∀ j (hj : j < zs.length), zs.toArray[j]! = zs[j] := fun j hj => by simp [hj]
  have hle : ∀ i j (hi : i < zs.length) (hj : j < zs.length), i < j → zs[i] ≤ zs[j] := fun i j hi hj hij => List.pairwise_iff_getElem.1 hs i j hi hj hij
  have hm : m < zs.length := by omega
  rw [compactUpTo_succ, hg m hm, List.take_succ_eq_append_getElem hm]
  by_cases hk : keeps zs.toArray m = true
  ·rw [if_pos hk]
   refine ⟨List.pairwise_append.2 ⟨h1, List.pairwise_singleton _ _, fun x hx y hy => ?_⟩, fun x => by rw [List.mem_append, List.mem_append, h2 x]⟩
   rw [List.mem_singleton.1 hy]
   obtain ⟨i, hi, rfl⟩ := List.getElem_of_mem ((h2 x).1 hx)
   have hi' : i < m := by simp at hi; omega
   rw [List.getElem_take]
   simp only [keeps, decide_eq_true_eq] at hk
   rcases hk with hk | hk
   ·omega
   ·rw [hg m hm, hg (m - 1) (by omega)] at hk
    have k1 : zs[i] ≤ zs[m - 1] := by
     rcases Nat.lt_or_ge i (m - 1) with q | q
     ·exact hle i (m - 1) _ _ q
     ·have e : i = m - 1 := by omega
      subst e; exact Int.le_refl _
    have k2 := hle (m - 1) m (by omega) hm (by omega)
    omega
  ·rw [if_neg hk, List.append_nil]
   refine ⟨h1, fun x => ?_⟩
   rw [h2 x, List.mem_append, List.mem_singleton]
   refine ⟨.inl, fun hx => hx.elim id fun e => ?_⟩
   simp only [keeps, decide_eq_true_eq, not_or, Decidable.not_not] at hk
   rw [hg m hm, hg (m - 1) (by omega)] at hk
   rw [e, hk.2]
   have : m - 1 < (zs.take m).length := by simp; omega
   have e2 : (zs.take m)[m - 1] = zs[m - 1] := List.getElem_take
   rw [← e2]
   exact List.getElem_mem this
theorem srt_le (zs : List Int) : (Yh zs).Pairwise (· ≤ ·) := by
 have := List.pairwise_mergeSort (le := fun x y : Int => decide (x ≤ y)) (fun a b c h1 h2 => by simp at *; omega) (fun a b => by simp; omega) zs
 exact this.imp fun h => by simpa using h
theorem v3l (zs : List Int) (x : Int) : x ∈ Yh zs ↔ x ∈ zs := List.mem_mergeSort
theorem z0a (zs : List Int) : Jk zs = z1u zs := by
 obtain ⟨h1, h2⟩ := z7s (Yh zs) (srt_le zs) (Yh zs).length (Nat.le_refl _)
 obtain ⟨s1, s2⟩ := Vz zs
 refine z7r _ _ h1 s1 fun x => ?_
 rw [show Jk zs = compactUpTo (Yh zs).toArray (Yh zs).length from rfl, h2 x, List.take_length, v3l, s2]
end Go.Am
namespace Go.Am
open Go.Proofs Go.Sort Go.Shelf Go.RowKit Go.Lib
namespace Dim
variable {α β : Type} (D : Dim α β)
def ref (sec : Int → List β) (cs : List Int) : Nat → Nat → List α → List β → Nat → List α
 | 0, _, out, _, _ => out
 | k + 1, i, out, last, first =>
  bif decide (0 < i) && D.same (sec (rd cs i)) last then ref sec cs k (i + 1) (D.grow out first (rd cs (i + 1))) last first
  else ref sec cs k (i + 1) (out ++ (sec (rd cs i)).map (D.put (rd cs i) (rd cs (i + 1)))) (sec (rd cs i)) out.length
theorem ref_eq (hs : ∀ a b, D.same a b = true ↔ a = b) (l : List α) : ∀ (k i : Nat) (s : Sw α β) (out : List α) (last : List β) (first : Nat),
  s.out = out → s.last = last → (last ≠ [] → s.first = first) → (last = [] → out.length ≤ first) → (0 < i → s.fin = rd (D.cuts l) i) → (i = 0 → last = []) →
  (D.go l k i s).out = D.ref (D.sec l) (D.cuts l) k i out last first
 | 0, i, s, out, last, first, h1, h2, h3, h4, h5, h6 => h1
 | k + 1, i, s, out, last, first, h1, h2, h3, h4, h5, h6 => by
  subst h1 h2
  have e1 : D.go l (k + 1) i s = D.go l k (i + 1) (D.one l (rd (D.cuts l) i) (rd (D.cuts l) (i + 1)) s) := rfl
  rw [e1]
  unfold ref
  rcases Yp (decide (0 < (D.sec l (rd (D.cuts l) i)).length) && ((s.fin == rd (D.cuts l) i) && D.same s.last (D.sec l (rd (D.cuts l) i)))) with q | q
  ·have e : D.one l (rd (D.cuts l) i) (rd (D.cuts l) (i + 1)) s = ⟨D.grow s.out s.first (rd (D.cuts l) (i + 1)), s.last, s.first, rd (D.cuts l) (i + 1)⟩ := by unfold one; rw [q]; rfl
   simp only [Bool.and_eq_true, decide_eq_true_eq] at q
   obtain ⟨q1, q2, q3⟩ := q
   have q3 := (hs _ _).1 q3
   have hne : s.last ≠ [] := fun h => by rw [h] at q3; rw [← q3] at q1; exact Nat.lt_irrefl _ q1
   have hi : 0 < i := Nat.pos_of_ne_zero fun h => hne (h6 h)
   have e2 : (decide (0 < i) && D.same (D.sec l (rd (D.cuts l) i)) s.last) = true := by
    rw [decide_eq_true hi, Bool.true_and, hs, q3]
   rw [e2, cond_true, e]
   refine ref_eq hs l k (i + 1) _ _ _ _ ?_ rfl h3 (fun h => absurd h hne) (fun _ => rfl) (fun h => by omega)
   rw [h3 hne]
  ·have e : D.one l (rd (D.cuts l) i) (rd (D.cuts l) (i + 1)) s = ⟨s.out ++ (D.sec l (rd (D.cuts l) i)).map (D.put (rd (D.cuts l) i) (rd (D.cuts l) (i + 1))), D.sec l (rd (D.cuts l) i), s.out.length, rd (D.cuts l) (i + 1)⟩ := by unfold one; rw [q]; rfl
   rcases Yp (decide (0 < i) && D.same (D.sec l (rd (D.cuts l) i)) s.last) with q2 | q2
   ·rw [q2, cond_true, e]
    simp only [Bool.and_eq_true, decide_eq_true_eq] at q2
    obtain ⟨hi, q3⟩ := q2
    have q3 := (hs _ _).1 q3
    rw [(hs s.last (D.sec l (rd (D.cuts l) i))).2 q3.symm, Bool.and_true, h5 hi] at q
    have hz : D.sec l (rd (D.cuts l) i) = [] := by
     cases h : D.sec l (rd (D.cuts l) i) with
     | nil => rfl
     | cons a b => rw [h] at q; simp at q
    have hl : s.last = [] := by rw [← q3, hz]
    have hf := h4 hl
    rw [hz, List.map_nil, List.append_nil]
    refine ref_eq hs l k (i + 1) _ _ _ _ ?_ hl.symm (fun h => absurd hl h) (fun _ => ?_) (fun _ => rfl) (fun h => by omega)
    ·exact (D.grow_nil _ _ _ hf).symm
    ·rw [D.grow_length]; exact hf
   ·rw [q2, cond_false, e]
    exact ref_eq hs l k (i + 1) _ _ _ _ rfl rfl (fun _ => rfl) (fun h => by rw [h]; simp) (fun _ => rfl) (fun h => by omega)
theorem out_eq (hs : ∀ a b, D.same a b = true ↔ a = b) (l : List α) : D.out l = D.ref (D.sec l) (D.cuts l) ((D.cuts l).length - 1) 0 [] [] 0 :=
 D.ref_eq hs l _ 0 _ [] [] 0 rfl rfl (fun _ => rfl) (fun _ => Nat.le_refl _) (fun h => absurd h (Nat.lt_irrefl _)) (fun _ => rfl)
end Dim
theorem w4l (l : List R4) : D4.cuts l = xsV l [] := by
 unfold Dim.cuts xsV
 rw [z0a, show z0e ([] : List R4) = [] from rfl, List.append_nil]; rfl
theorem w3n (l : List R4) (x y : Int) : w3o 2 l [] x y = has4V l x y := by
 unfold w3o Kz
 show (has4V l x y || has4V [] x y) = _
 rw [show has4V [] x y = false from rfl, Bool.or_false]
theorem z4f {l : List R4} {x : Int} {s : R2} (h : s ∈ D4.inn l x) : ∃ r ∈ l, r.a ≤ x ∧ x < r.c ∧ s = ⟨r.b, r.d⟩ := by
 obtain ⟨r, hr, e⟩ := List.mem_map.1 h
 obtain ⟨h1, h2⟩ := List.mem_filter.1 hr
 simp only [Bool.and_eq_true, decide_eq_true_eq] at h2
 exact ⟨r, h1, h2.1, h2.2, e.symm⟩
theorem w1q {l : List R4} {x : Int} {r : R4} (h : r ∈ l) (h1 : r.a ≤ x) (h2 : x < r.c) : (⟨r.b, r.d⟩ : R2) ∈ D4.inn l x := by
 refine List.mem_map.2 ⟨r, List.mem_filter.2 ⟨h, ?_⟩, rfl⟩
 simp only [Bool.and_eq_true, decide_eq_true_eq]
 exact ⟨h1, h2⟩
theorem sec_eq (l : List R4) (hv : l.all z3n = true) (hl : l.length ≤ 400) (x : Int) : D4.sec l x = z9u 2 l [] x := by
 have hin := D4.inn_length l x
 have hvi : (D4.inn l x).all z7j = true := List.all_eq_true.2 fun s hs => by
  obtain ⟨r, hr, _, _, rfl⟩ := z4f hs
  have := List.all_eq_true.1 hv r hr
  simp only [z3n, z7j, Bool.and_eq_true, decide_eq_true_eq] at this ⊢
  omega
 have e1 : D4.sec l x = swV (D4.inn l x) := by
  show Xf (D4.inn l x) = _
  unfold Xf
  rw [decide_eq_false (by omega), hvi]; rfl
 obtain ⟨c1, c2⟩ := z9p _ hvi
 obtain ⟨y1, y2⟩ := Vz (Kf l ++ Kf [])
 have e2 : z9u 2 l [] x = z7u (ysV l []) ((ysV l []).map fun y => has4V l x y) := by
  unfold z9u
  congr 1
  exact List.map_congr_left fun y _ => w3n l x y
 obtain ⟨d1, d2⟩ := x4w (ysV l []) y1 (fun y => has4V l x y) (D4.inn l x) (fun s hs => by
  obtain ⟨r, hr, _, _, rfl⟩ := z4f hs
  unfold ysV
  exact ⟨(y2 _).2 (List.mem_append.2 (.inl (List.mem_flatMap.2 ⟨r, hr, by simp⟩))), (y2 _).2 (List.mem_append.2 (.inl (List.mem_flatMap.2 ⟨r, hr, by simp⟩)))⟩) (fun y => by
  unfold has4V
  rw [List.any_eq_true]
  constructor
  ·rintro ⟨r, hr, h⟩
   simp only [in4, Bool.and_eq_true, decide_eq_true_eq] at h
   exact ⟨_, w1q hr h.1 h.2.1, h.2.2.1, h.2.2.2⟩
  ·rintro ⟨s, hs, h1, h2⟩
   obtain ⟨r, hr, r1, r2, rfl⟩ := z4f hs
   refine ⟨r, hr, ?_⟩
   simp only [in4, Bool.and_eq_true, decide_eq_true_eq]
   exact ⟨r1, r2, h1, h2⟩)
 rw [e1, e2]
 exact x4v _ _ c1 d1 fun y => by rw [c2, d2]
theorem x4g (l : List R4) : ∀ (k i : Nat) (out : List R4) (last : List R2) (first : Nat), jF 2 l [] k i out last first = D4.ref (z9u 2 l []) (xsV l []) k i out last first
 | 0, _, _, _, _ => rfl
 | k + 1, i, out, last, first => by
  unfold jF Dim.ref
  rw [x4g l k, x4g l k]
  rfl
theorem joV_eq (l : List R4) (hv : l.all z3n = true) (hl : l.length ≤ 400) : D4.out l = joV 2 l [] := by
 rw [D4.out_eq (fun a b => decide_eq_true_iff) l, joV, x4g, ← w4l]
 congr 1
 funext x
 exact sec_eq l hv hl x
theorem x2y (l : List R6) : D6.cuts l = Yi l [] := by
 unfold Dim.cuts Yi
 rw [z0a, show z0d ([] : List R6) = [] from rfl, List.append_nil]; rfl
theorem v3a (l : List R6) (z : Int) : D6.inn l z = atV l z := rfl
theorem y2t (r : R6) : Jz r = y8x r := by
 unfold Jz y8x
 simp only [v6t, v6u]
 rw [Bool.eq_iff_iff]
 simp only [Bool.and_eq_true, decide_eq_true_eq]
 have m1 : ∀ x y z : Int, x ≤ min y z ↔ x ≤ y ∧ x ≤ z := fun x y z => by omega
 have m2 : ∀ x y z : Int, max y z ≤ x ↔ y ≤ x ∧ z ≤ x := fun x y z => by omega
 simp only [ge_iff_le, m1, m2]
 constructor <;> intro h <;> (repeat' apply And.intro) <;> omega
theorem w3t (l : List R6) (hv : l.all Jz = true) (z : Int) : (atV l z).all z3n = true := List.all_eq_true.2 fun s hs => by
 obtain ⟨r, hr, rfl⟩ := List.mem_map.1 hs
 have := List.all_eq_true.1 hv r (List.mem_filter.1 hr).1
 rw [y2t] at this
 simp only [y8x, Bool.and_eq_true, decide_eq_true_eq] at this
 show z3n ⟨r.a, r.b, r.d, r.e⟩ = true
 simp only [z3n, Bool.and_eq_true, decide_eq_true_eq]
 (repeat' apply And.intro) <;> omega
section
variable (l : List R6) (hv : l.all Jz = true) (hl : l.length ≤ 400)
include hv hl
theorem v2w (z : Int) : D4.out (atV l z) = joV 2 (atV l z) [] := joV_eq _ (w3t l hv z) (Nat.le_trans (z0u l z) hl)
theorem v2v (z : Int) : w4q l z = z1g 2 l [] z := by
 have h1 := v2w l hv hl z
 have h2 := z0u l z
 have e : joV 2 (atV [] z) [] = [] := rfl
 unfold w4q z1g z4n
 rw [e, show atV ([] : List R6) z = [] from rfl, v3a]
 unfold Uo
 rw [decide_eq_false (by omega), w3t l hv z, h1, cond_false, cond_true]
 by_cases h : 400 < (joV 2 (atV l z) []).length
 ·rw [decide_eq_true (show ((joV 2 (atV l z) []).length : Int) > 400 by omega), decide_eq_true h]; rfl
 ·rw [decide_eq_false (show ¬ ((joV 2 (atV l z) []).length : Int) > 400 by omega), decide_eq_false h]; rfl
theorem v3y (z : Int) (h : w4q l z = false) : D6.sec l z = z4n 2 l [] z := by
 have h1 := v2w l hv hl z
 have h2 := z0u l z
 rw [v2v l hv hl] at h
 show Ya (D6.inn l z) = joV 2 (atV l z) (atV [] z)
 rw [v3a]
 unfold Ya
 have h3 : ¬ 400 < (joV 2 (atV l z) []).length := fun hh => by
  unfold z1g z4n at h
  rw [show atV ([] : List R6) z = [] from rfl, decide_eq_true hh] at h
  cases h
 rw [decide_eq_false (by omega), w3t l hv z, h1, cond_false, cond_true, decide_eq_false (by omega)]
 rfl
theorem x1e : ∀ (k i : Nat) (out : List R6) (last : List R4) (first : Nat), jsF 2 l [] k i out last first = bif okF l k i then some (D6.ref (D6.sec l) (D6.cuts l) k i out last first) else none
 | 0, _, _, _, _ => rfl
 | k + 1, i, out, last, first => by
  unfold jsF okF Dim.ref
  rw [← x2y, ← v2v l hv hl]
  rcases Yp (w4q l (rd (D6.cuts l) i)) with q | q
  ·rw [q]; rfl
  ·have := v3y l hv hl _ q
   rw [q, cond_false, cond_false, this, x1e k, x1e k]
   have e : D6.same (z4n 2 l [] (rd (D6.cuts l) i)) last = Uy (z4n 2 l [] (rd (D6.cuts l) i)) last := rfl
   rw [e]
   cases (decide (0 < i) && Uy (z4n 2 l [] (rd (D6.cuts l) i)) last) <;> rfl
theorem v1y : jsO 2 l [] = bif okF l ((D6.cuts l).length - 1) 0 then some (D6.out l) else none := by
 unfold jsO
 rw [x1e l hv hl, ← x2y, D6.out_eq (fun a b => decide_eq_true_iff) l]
end
theorem z3g (l : List R6) : Yn l = Wv l := by
 unfold Yn Wv
 by_cases h : 400 < l.length
 ·rw [decide_eq_true h]; rfl
 ·rw [decide_eq_false h, cond_false, cond_false, show l.all y8x = l.all Jz from by congr 1; funext r; exact (y2t r).symm]
  rcases Yp (l.all Jz) with hv | hv
  ·rw [hv, cond_true, cond_true]
   unfold rckF Vs Vt
   rw [v1y l hv (by omega)]
   rcases Yp (okF l ((D6.cuts l).length - 1) 0) with q | q
   ·rw [q, cond_true, cond_true]
    show _ = bif decide (((D6.out l).length : Int) ≤ 400) then (bif Uz (D6.out l) l then 0 else 8) else 8
    by_cases h2 : ((D6.out l).length : Int) > 400
    ·rw [decide_eq_true h2, decide_eq_false (by omega)]; rfl
    ·rw [decide_eq_false h2, decide_eq_true (by omega)]; rfl
   ·rw [q]; rfl
  ·rw [hv]; rfl
end Go.Am
namespace Go.Am
def Cg (x y : Int) : Prop := (18446744073709551616 : Int) ∣ x - y
theorem Cg.refl (x : Int) : Cg x x := by unfold Cg; rw [Int.sub_self]; exact Int.dvd_zero _
theorem Cg.trans {x y z : Int} (h : Cg x y) (k : Cg y z) : Cg x z := by unfold Cg at *; omega
theorem Cg.add {x y u v : Int} (h : Cg x y) (k : Cg u v) : Cg (x + u) (y + v) := by unfold Cg at *; omega
theorem Cg.sub {x y u v : Int} (h : Cg x y) (k : Cg u v) : Cg (x - u) (y - v) := by unfold Cg at *; omega
theorem Cg.mul {x y u v : Int} (h : Cg x y) (k : Cg u v) : Cg (x * u) (y * v) := by
 unfold Cg at *
 have : x * u - y * v = (x - y) * u + y * (u - v) := by rw [Int.sub_mul, Int.mul_sub]; omega
 rw [this]
 exact Int.dvd_add (Int.dvd_mul_of_dvd_left h) (Int.dvd_mul_of_dvd_right k)
theorem Cg.wrap (x : Int) : Cg (IntKind.wrap .i64 x) x := by rw [w64]; unfold Cg; omega
theorem Cg.eq {x y : Int} (h : Cg x y) : IntKind.wrap .i64 x = IntKind.wrap .i64 y := by rw [w64, w64]; unfold Cg at h; omega
theorem Cg.w {x y : Int} (h : Cg x y) : Cg (IntKind.wrap .i64 x) y := (Cg.wrap x).trans h
theorem Cg.is {x y : Int} (h : Cg x y) (hx : -9223372036854775808 ≤ x ∧ x ≤ 9223372036854775807) (hy : -9223372036854775808 ≤ y ∧ y ≤ 9223372036854775807) : x = y := by unfold Cg at h; omega
theorem y3z (x : Int) : -9223372036854775808 ≤ IntKind.wrap .i64 x ∧ IntKind.wrap .i64 x ≤ 9223372036854775807 := by rw [w64]; omega
def bxV (r : R6) : Int := (r.d - r.a) * (r.e - r.b) * (r.f - r.c)
def ovl (a b c d : Int) : Int := max 0 (min b d - max a c)
def ov (r s : R6) : Int := ovl r.a r.d s.a s.d * ovl r.b r.e s.b s.e * ovl r.c r.f s.c s.f
theorem z2y (a b c d : Int) : ovl a b c d = ovl c d a b := by unfold ovl; omega
theorem v5q (r s : R6) : ov r s = ov s r := by unfold ov; rw [z2y r.a, z2y r.b, z2y r.c]
theorem z6j (a b c d : Int) : 0 ≤ ovl a b c d := by unfold ovl; omega
theorem w0u (r s : R6) : 0 ≤ ov r s := Int.mul_nonneg (Int.mul_nonneg (z6j ..) (z6j ..)) (z6j ..)
def nx (d : Int) (r : R6) : R6 :=
 let t := 1 - 2 * Int.tmod d 2
 bif Int.tdiv d 2 == 0 then ⟨r.a + t, r.b, r.c, r.d + t, r.e, r.f⟩ else bif Int.tdiv d 2 == 1 then ⟨r.a, r.b + t, r.c, r.d, r.e + t, r.f⟩ else ⟨r.a, r.b, r.c + t, r.d, r.e, r.f + t⟩
def sm {α : Type} (l : List α) (f : α → Int) : Int := (l.map f).sum
theorem z1v {α : Type} (f : α → Int) : sm ([] : List α) f = 0 := rfl
theorem We {α : Type} (x : α) (l : List α) (f : α → Int) : sm (x :: l) f = f x + sm l f := by simp [sm]
theorem x8y {α : Type} (l m : List α) (f : α → Int) : sm (l ++ m) f = sm l f + sm m f := by simp [sm]
theorem Vo {α : Type} {l : List α} {f g : α → Int} (h : ∀ x ∈ l, f x = g x) : sm l f = sm l g := by
 unfold sm; rw [List.map_congr_left h]
theorem sm_add {α : Type} (l : List α) (f g : α → Int) : sm l (fun x => f x + g x) = sm l f + sm l g := by
 induction l with
 | nil => rfl
 | cons x l ih => simp only [We, ih]; omega
theorem sm_sub {α : Type} (l : List α) (f g : α → Int) : sm l (fun x => f x - g x) = sm l f - sm l g := by
 induction l with
 | nil => rfl
 | cons x l ih => simp only [We, ih]; omega
theorem x8x {α : Type} (l : List α) (f : α → Int) (c : Int) : sm l (fun x => f x * c) = sm l f * c := by
 induction l with
 | nil => simp [sm]
 | cons x l ih => simp only [We, ih, Int.add_mul]
theorem x8w {α : Type} (l : List α) (f : α → Int) (c : Int) : sm l (fun x => c * f x) = c * sm l f := by
 induction l with
 | nil => simp [sm]
 | cons x l ih => simp only [We, ih, Int.mul_add]
theorem z1z {α : Type} (l : List α) : sm l (fun _ => 0) = 0 := by
 induction l with
 | nil => rfl
 | cons x l ih => rw [We, ih]; rfl
theorem y9k {α β : Type} (l : List α) (m : List β) (f : α → β → Int) : sm l (fun x => sm m (f x)) = sm m (fun y => sm l fun x => f x y) := by
 induction l with
 | nil => simp only [z1v, z1z]
 | cons x l ih => simp only [We, ih, sm_add]
theorem y4c {α : Type} {l : List α} {f g : α → Int} (h : ∀ x ∈ l, f x ≤ g x) : sm l f ≤ sm l g := by
 induction l with
 | nil => exact Int.le_refl _
 | cons x l ih => rw [We, We]; exact Int.add_le_add (h x (by simp)) (ih fun y hy => h y (by simp [hy]))
theorem Vd {α : Type} {l : List α} {f : α → Int} (h : ∀ x ∈ l, 0 ≤ f x) : 0 ≤ sm l f := by
 have := y4c h; rwa [z1z] at this
theorem sm_le {α : Type} {l : List α} {f : α → Int} {c : Int} (h : ∀ x ∈ l, f x ≤ c) : sm l f ≤ l.length * c := by
 induction l with
 | nil => simp [sm]
 | cons x l ih =>
  rw [We, List.length_cons]
  have h1 := h x (by simp)
  have h2 := ih fun y hy => h y (by simp [hy])
  have : ((l.length + 1 : Nat) : Int) * c = l.length * c + c := by rw [show ((l.length + 1 : Nat) : Int) = (l.length : Int) + 1 from rfl, Int.add_mul, Int.one_mul]
  omega
theorem z2p {α : Type} {l : List α} {f : α → Int} (h : ∀ x ∈ l, 0 ≤ f x) (h0 : sm l f = 0) : ∀ x ∈ l, f x = 0 := by
 induction l with
 | nil => intro x hx; cases hx
 | cons y l ih =>
  rw [We] at h0
  have h1 := h y (by simp)
  have h2 := Vd fun x hx => h x (List.mem_cons_of_mem y hx)
  intro x hx
  rcases List.mem_cons.1 hx with rfl | hx
  ·omega
  ·exact ih (fun z hz => h z (by simp [hz])) (by omega) x hx
def S2 (X Y : List R6) : Int := sm X fun x => sm Y fun y => ov x y
def E2 (d : Int) (X Y : List R6) : Int := sm X fun x => sm Y fun y => ov (nx d x) y
def Eqv (B B' : List R6) : Prop := ∀ f, sm B f = sm B' f
theorem Eqv.refl (X : List R6) : Eqv X X := fun _ => rfl
def c1 (d : Int) (X Y B : List R6) : Int := (E2 d X Y - E2 d B Y) - (E2 d X B - E2 d B B)
end Go.Am
namespace Go.Am
open Go.Proofs
end Go.Am
namespace Go.Am
open Go.Proofs
def vol1 (r : R6) : Int := IntKind.wrap .i64 (IntKind.wrap .i64 (IntKind.wrap .i64 (1 * IntKind.wrap .i64 (r.d - r.a)) * IntKind.wrap .i64 (r.e - r.b)) * IntKind.wrap .i64 (r.f - r.c))
def volF : List R6 → Int → Int
 | [], s => s
 | r :: l, s => volF l (IntKind.wrap .i64 (s + vol1 r))
def w9e (l : List R6) : Int := volF l 0
theorem v3e (r : R6) : Cg (vol1 r) (bxV r) := by
 unfold vol1 bxV
 refine (((Cg.mul ?_ (Cg.wrap _)).w.mul (Cg.wrap _)).w)
 have h : Cg (1 * IntKind.wrap .i64 (r.d - r.a)) (1 * (r.d - r.a)) := Cg.mul (Cg.refl 1) (Cg.wrap _)
 exact h.w.trans (by rw [Int.one_mul]; exact Cg.refl _)
theorem x8h : ∀ (l : List R6) (s s' : Int), Cg s s' → Cg (volF l s) (s' + sm l bxV)
 | [], s, s', h => by rw [z1v, Int.add_zero]; exact h
 | r :: l, s, s', h => by
  rw [We, ← Int.add_assoc]
  exact x8h l _ _ (h.add (v3e r)).w
theorem v3d (l : List R6) : Cg (w9e l) (sm l bxV) := by
 have := x8h l 0 0 (Cg.refl 0)
 rwa [Int.zero_add] at this
theorem x8g : ∀ (l : List R6) (s : Int), (-9223372036854775808 ≤ s ∧ s ≤ 9223372036854775807) → -9223372036854775808 ≤ volF l s ∧ volF l s ≤ 9223372036854775807
 | [], s, h => h
 | r :: l, s, h => x8g l _ (y3z _)
theorem v3b (l : List R6) : -9223372036854775808 ≤ w9e l ∧ w9e l ≤ 9223372036854775807 := x8g l 0 (by omega)
theorem v3c {l : List R6} {n : Int} (h : sm l bxV = n) (hn : -9223372036854775808 ≤ n ∧ n ≤ 9223372036854775807) : w9e l = n := by
 subst h; exact (v3d l).is (v3b l) hn
section
variable (X Y : List R6) (hX : X.length ≤ 10000) (hY : Y.length ≤ 10000)
include hX hY
end
end Go.Am
namespace Go.Am
open Go.Proofs
-- h0: index into an array (choices [true, false, false, false])
end Go.Am
namespace Go.Am
open Go.Proofs
end Go.Am
namespace Go.Am
open Go.Proofs
end Go.Am
namespace Go.Am
open Go.Proofs
end Go.Am
namespace Go.Am
open Go.Proofs
end Go.Am
end
