/- A part of a proof: several texts in one. -/
import Derived.Test.YtijpnpkolglajaaGreatKf2
import Derived.Shelf.GgSortFunc.InsertionK
import Derived.Shelf.Sort.Plain
import Derived.Ground.Names2Prog
import Derived.Shelf.Slices.CompactI
import Derived.Shelf.Slices.SearchI
import Derived.Shelf.Slices.Cells
import Derived.Shelf.Slices.In.SortNone
import Derived.Shelf.SlSortCmp.WholeK
import Derived.Ground.SlsfProg
import Derived.Test.YtijpnpkolglajaaGreatProg
import Derived.Shelf.SlSortCmp.NoneTotal
set_option maxRecDepth 1000000
set_option maxHeartbeats 8000000
set_option linter.unusedVariables false
set_option linter.unusedSimpArgs false
noncomputable section
namespace Go.Am
open Go.Sort Go.RowKit Go.Proofs Go.Shelf
variable {P : Program} {ρ : Rho}
def valOf : AVal → Value
 | .int k n => .int k n
 | .bool b => .bool b
 | _ => .tuple #[]
def x1b : AVal → Bool
 | .int _ _ => true
 | .bool _ => true
 | _ => false
theorem x8n {a : AVal} (h : x1b a = true) : Zo ρ a (valOf a) := by
 cases a <;> first
  | exact .int _ _
  | exact .bool _
  | (simp [x1b] at h; done)
theorem w0h {a : AVal} {v : Value} (h : x1b a = true) (hv : Zo ρ a v) : v = valOf a := by
 cases hv <;> first
  | rfl
  | (simp [x1b] at h; done)
class v3r (α : Type) extends Xz α where
 num : ∀ a : α, (cells a).all x1b = true
instance : v3r R2 where num _ := rfl
instance : v3r R3 where num _ := rfl
instance : v3r R4 where num _ := rfl
instance : v3r R6 where num _ := rfl
instance {α : Type} [Xz α] : Inhabited α := ⟨Xz.d⟩
section
variable {α : Type} [v3r α]
def y3a (a : α) : List Value := (Xz.cells a).map valOf
theorem y0w (a : α) : (y3a a).length = Xz.w α := by rw [y3a, List.length_map, Xz.len]
theorem x4n (L : List α) (t : Nat) (h : t < L.length * Xz.w α) : (flatK y3a (Xz.w α) L.toArray)[t]? = (Xz.cells (rd L (t / Xz.w α)))[t % Xz.w α]?.map valOf := by
 have hw := Xz.pos (α := α)
 have hq : t / Xz.w α < L.length := Nat.div_lt_of_lt_mul (by rw [Nat.mul_comm]; exact h)
 have hj : t % Xz.w α < Xz.w α := Nat.mod_lt _ hw
 have hs : t < (flatK y3a (Xz.w α) L.toArray).size := by rw [size_flatK]; exact h
 rw [Array.getElem?_eq_getElem hs, ← getElem!_pos (flatK y3a (Xz.w α) L.toArray) t hs, get_flatK y3a (Xz.w α) L.toArray t (by simpa using h)]
 have e1 : L.toArray[t / Xz.w α]! = rd L (t / Xz.w α) := by
  rw [Xa hq, getElem!_pos L.toArray _ (by simpa using hq)]; simp
 rw [e1]
 have hl : t % Xz.w α < (y3a (rd L (t / Xz.w α))).length := by rw [y0w]; exact hj
 have hl2 : t % Xz.w α < (Xz.cells (rd L (t / Xz.w α))).length := by rw [Xz.len]; exact hj
 rw [getElem!_pos (y3a (rd L (t / Xz.w α))) _ hl, List.getElem?_eq_getElem hl2]
 simp [y3a]
theorem x9t (L : List α) (N t : Nat) (h : t < N * Xz.w α) : (rows N (Zz L))[t]? = (Xz.cells (rd L (t / Xz.w α)))[t % Xz.w α]? := by
 have hw := Xz.pos (α := α)
 have := Wy (get := Zz L) (sz := Xz.w α) N (fun _ _ => Xz.len _) (t / Xz.w α) (t % Xz.w α) (Nat.div_lt_of_lt_mul (by rw [Nat.mul_comm]; exact h)) (Nat.mod_lt _ hw)
 rw [show t / Xz.w α * Xz.w α + t % Xz.w α = t by rw [Nat.mul_comm]; exact Nat.div_add_mod t _] at this
 exact this
theorem Qd (L : List α) (N : Nat) : (rows N (Zz L)).length = N * Xz.w α := Yw N fun _ _ => Xz.len _
theorem y0m (w : World) (n blk off : Nat) (d : Array Value) (os : Array Obj) (k : Nat) (hk : k < w.heap.size) :
  (grow (putRow id (Go.Sort.ahead w n) blk off d) os).heap[k]? = if k = blk then (w.heap[k]?).map (onCells (putCells id off d)) else w.heap[k]? := by
 show (((Go.Sort.ahead w n).heap.modify blk (onCells (putCells id off d))) ++ os)[k]? = _
 rw [Array.getElem?_append_left (by simp; exact hk), Array.getElem?_modify]
 show (if blk = k then _ else _) = _
 by_cases h : k = blk
 ·rw [if_pos h.symm, if_pos h]; rfl
 ·rw [if_neg (fun e => h e.symm), if_neg h]; rfl
def x4o (α : Type) [Xz α] (srt : List α → List α) (bnd : List α → Bool) (g : FuncId) (args : List AVal) (mem : Mem) : Option (AVal × Nat × ABlk × Bool) := match args with
 | [.sla b sz off n cap, .fn f []] => bif Nat.beq f g then match Yr mem b with
  | some ⟨_, ty, some A⟩ => some (.tup [], b, ⟨rows A.n (Zz (srt (lst α n A.get))), ty, some ⟨Xz.w α, A.n, Zz (srt (lst α n A.get))⟩⟩,
    Nat.beq sz (Xz.w α) && (Nat.beq A.sz (Xz.w α) && (Nat.beq off 0 && ((decide (n = A.n) && (isT α n A.get && decide (n < 4611686018427387904))) && bnd (lst α n A.get)))))
  | _ => none
  else none
 | _ => none
theorem w3d {f g : FuncId} {srt : List α → List α} {bnd : List α → Bool} (hsl : ∀ L, (srt L).length = L.length)
  (hC : ∀ (blk off cap : Nat) (L : List α) (w : World), bnd L = true → HoldsK y3a (Xz.w α) w blk off L.toArray → blk < w.heap.size → L.length < 4611686018427387904 →
   Calls P f #[.slice (some ⟨blk, off, none⟩) L.length cap, .func (.func g) #[] #[]] w fun e w' => e = .returned (.tuple #[]) ∧ ∃ n os, w' = sortWorldK y3a (Xz.w α) w blk off n (srt L).toArray os)
  (hN : ∀ (p : Option Addr) (cap : Nat) (fv : Value) (w : World), Calls P f #[.slice p 0 cap, fv] w fun e w' => e = .returned (.tuple #[]) ∧ w' = w) : y8n P f (x4o α srt bnd g) := by
 intro args mem v b blk h hsome ρ next floor vals w hfl dN dJ
 have hw0 := Xz.pos (α := α)
 unfold x4o at h
 split at h
 ·rename_i b0 sz off n cap f0
  obtain ⟨hfg, h'⟩ := Jr h
  clear h
  obtain rfl := Nat.eq_of_beq_eq_true hfg
  have h := h'
  clear h'
  split at h
  ·rename_i cells ty A hm
   obtain ⟨asz, an, get⟩ := A
   simp only [Option.some.injEq, Prod.mk.injEq, Bool.and_eq_true] at h
   obtain ⟨rfl, rfl, rfl, h1, h2, h3, ⟨h4, h5, h6⟩, h7⟩ := h
   have g1 := Nat.eq_of_beq_eq_true h1
   have g2 := Nat.eq_of_beq_eq_true h2
   have g3 := Nat.eq_of_beq_eq_true h3
   have g4 : n = an := of_decide_eq_true h4
   have h6 : n < 4611686018427387904 := of_decide_eq_true h6
   have g2 : asz = Xz.w α := g2
   subst g1
   subst g2
   subst g3
   subst g4
   have h7 : bnd (lst α n get.get) = true := h7
   have dS := x4f h5
   have dS : ∀ i, i < n → get.get i = Zz (lst α n get.get) i := dS
   have hrows : rows n get.get = rows n (Zz (lst α n get.get)) := z1u n dS
   obtain ⟨u, hu, hvals⟩ : ∃ u, Zo ρ (.sla b0 (Xz.w α) 0 n cap) u ∧ vals = #[u, .func (.func f0) #[] #[]] := by
    obtain ⟨vl⟩ := vals
    cases dN with
    | cons q1 q2 => cases q2 with
     | cons q3 q4 =>
      cases q4
      cases q3 with
      | fn _ _ cvs hl _ =>
       have : cvs = #[] := Array.eq_empty_of_size_eq_zero (by simpa using hl.symm)
       subst this
       exact ⟨_, q1, rfl⟩
   subst hvals
   have hlt : b0 < next := by
    rcases Nat.lt_or_ge b0 next with q | q
    ·exact q
    ·have := dJ.bd b0 q; rw [hm] at this; cases this
   show Calls P f _ w _
   have hAget : (Arr.get ⟨Xz.w α, n, get⟩) = get.get := rfl
   rw [hAget] at *
   generalize hI : lst α n get.get = I at *
   have hIl : I.length = n := by rw [← hI]; exact z5r _ _
   generalize hL : srt I = L
   have hLl : L.length = n := by rw [← hL, hsl, hIl]
   have hnn : ρ b0 = none → ∀ cs ty', Yr mem b0 ≠ some ⟨cs, ty', none⟩ := fun _ cs ty' e => by rw [hm] at e; cases e
   cases hu with
   | sla _ _ _ _ _ l cc e hc dK =>
    have hbk := dJ.blk b0 l _ e hm
    obtain ⟨har, _, _⟩ := hbk.arr _ rfl
    have har : cells = rows n get.get := har
    rw [hrows] at har
    subst har
    obtain ⟨cur, el, hh, hsz, dQ⟩ := hbk.cells
    simp only [Qd] at dQ
    have htot := hbk.tot
    have hln := hbk.n
    simp only [Qd] at hln
    have eD : ∀ t, t < n * Xz.w α → cur[l.base + t]? = (Xz.cells (rd I (t / Xz.w α)))[t % Xz.w α]?.map valOf := fun t ht => by
     obtain ⟨v, e1, e2⟩ := dQ t ht
     have hj : t % Xz.w α < Xz.w α := Nat.mod_lt _ hw0
     have hl2 : t % Xz.w α < (Xz.cells (rd I (t / Xz.w α))).length := by rw [Xz.len]; exact hj
     have e3 := x9t I n t ht
     rw [List.getElem?_eq_getElem (by rw [Qd]; exact ht), List.getElem?_eq_getElem hl2] at e3
     rw [Option.some.inj e3] at e2
     rw [e1, List.getElem?_eq_getElem hl2, Option.map_some, w0h (List.all_eq_true.1 (v3r.num _) _ (List.getElem_mem hl2)) e2]
    have eU := dJ.real b0 l e
    have hH : HoldsK y3a (Xz.w α) w l.blk (l.base + 0 * Xz.w α) I.toArray := fun j hj => by
     have hj : j < n * Xz.w α := by simpa [hIl] using hj
     have hs : j < (flatK y3a (Xz.w α) I.toArray).size := by simpa [hIl] using hj
     have e1 := x4n I j (by rw [hIl]; exact hj)
     rw [Array.getElem?_eq_getElem hs] at e1
     refine ⟨?_, ?_⟩
     ·simp only [World.cell?, hh, Nat.zero_mul, Nat.add_zero, id]
      rw [eD j hj, ← e1, getElem!_pos (flatK y3a (Xz.w α) I.toArray) j hs]
      simp
     ·simp [World.frozen?, hh]
    have eA := hC l.blk (l.base + 0 * Xz.w α) cc I w h7 hH eU (by omega)
    rw [hIl, hL] at eA
    refine eA.mono fun e' w' ⟨he, q, os, hw'⟩ => ⟨_, he, ?_, ?_, ?_⟩
    ·exact .tup [] #[] rfl fun i h1 h2 => absurd h1 (Nat.not_lt_zero _)
    ·subst hw'
     refine Rel.setArr ?_ ⟨Xz.w α, n, .flat (Zz L)⟩ rfl hw0 fun _ _ => Xz.len _
     refine Rel.rewritten dJ e hm (by simp only [Qd]) (fun k hk hne => ?_) ?_ ?_
     ·exact (y0m _ _ _ _ _ _ _ hk).trans (if_neg hne)
     ·show _ ≤ (((Go.Sort.ahead w q).heap.modify _ _) ++ os).size
      simp only [Array.size_append, Array.size_modify]
      exact Nat.le_add_right _ _
     ·refine ⟨putCells id (l.base + 0 * Xz.w α) (flatK y3a (Xz.w α) L.toArray) cur, el, ?_, ?_, fun i hi => ?_⟩
      ·refine (y0m _ _ _ _ _ _ _ eU).trans ?_
       rw [if_pos rfl, hh]; rfl
      ·simp only [putCells, Array.size_mapIdx]; exact hsz
      ·rw [Qd] at hi
       have hj : i % Xz.w α < Xz.w α := Nat.mod_lt _ hw0
       have hl2 : i % Xz.w α < (Xz.cells (rd L (i / Xz.w α))).length := by rw [Xz.len]; exact hj
       have hl3 : i % Xz.w α < (Xz.cells (rd I (i / Xz.w α))).length := by rw [Xz.len]; exact hj
       have e1 := x4n L i (by rw [hLl]; exact hi)
       rw [List.getElem?_eq_getElem hl2, Option.map_some] at e1
       have hs : i < (flatK y3a (Xz.w α) L.toArray).size := by simpa [hLl] using hi
       rw [Array.getElem?_eq_getElem hs] at e1
       have e3 := x9t L n i hi
       rw [List.getElem?_eq_getElem (by rw [Qd]; exact hi), List.getElem?_eq_getElem hl2] at e3
       refine ⟨valOf (Xz.cells (rd L (i / Xz.w α)))[i % Xz.w α], ?_, ?_⟩
       ·have hc0 := eD i hi
        rw [List.getElem?_eq_getElem hl3, Option.map_some] at hc0
        simp only [putCells, Array.getElem?_mapIdx, hc0, Option.map_some, Nat.zero_mul, Nat.add_zero]
        rw [if_pos ⟨by omega, by omega⟩]
        congr 1
        rw [show l.base + i - l.base = i by omega, id, getElem!_pos (flatK y3a (Xz.w α) L.toArray) i hs]
        exact Option.some.inj e1
       ·rw [Option.some.inj e3]
        exact x8n (List.all_eq_true.1 (v3r.num _) _ (List.getElem_mem hl2))
    ·subst hw'
     refine Ev.rewritten dJ _ (fun l' _ => hfl) hnn (fun k hk hne => ?_) ?_ rfl rfl rfl
     ·exact (y0m _ _ _ _ _ _ _ hk).trans (if_neg (hne l e))
     ·show _ ≤ (((Go.Sort.ahead w q).heap.modify _ _) ++ os).size
      simp only [Array.size_append, Array.size_modify]
      exact Nat.le_add_right _ _
   | slan =>
    have hI0 : I = [] := List.eq_nil_of_length_eq_zero hIl
    have hL0 : L = [] := List.eq_nil_of_length_eq_zero hLl
    refine (hN none 0 _ w).mono fun e' w' ⟨he, hw'⟩ => ⟨_, he, ?_, ?_, ?_⟩
    ·exact .tup [] #[] rfl fun i h1 h2 => absurd h1 (Nat.not_lt_zero _)
    ·subst hw'
     refine dJ.reblk hm fun l hρ hbk => ?_
     obtain ⟨har, fI, _⟩ := hbk.arr _ rfl
     have har : cells = rows 0 get.get := har
     subst har
     exact ⟨hbk.n, hbk.tot, fun B hB => by obtain rfl := Option.some.inj hB; exact ⟨rfl, hw0, fun i hi => absurd hi (Nat.not_lt_zero _)⟩, hbk.cells⟩
    ·subst hw'
     exact Ev.rewritten dJ _ (fun l' _ => hfl) hnn (fun _ _ _ => rfl) (Nat.le_refl _) rfl rfl rfl
  ·cases h
 ·cases h
end
def Specs.withE (S : Specs) (f : FuncId) (F : List AVal → Mem → Option (AVal × Nat × ABlk × Bool)) : Specs := fun g => bif Nat.beq g f then some (.eff F) else S g
theorem y3j {P : Program} {S : Specs} (hS : Zu P S) {f : FuncId} {F : List AVal → Mem → Option (AVal × Nat × ABlk × Bool)} (hf : (P.funcs[f]?).any (fun fn => fn.body.isSome) = true) (hF : y8n P f F) : Zu P (S.withE f F) := by
 intro g G hg
 unfold Specs.withE at hg
 cases hgf : Nat.beq g f with
 | false => rw [hgf] at hg; exact hS g G hg
 | true =>
  rw [hgf] at hg
  obtain rfl : Spec.eff F = G := Option.some.inj hg
  obtain rfl : g = f := Nat.eq_of_beq_eq_true hgf
  refine ⟨?_, hF⟩
  cases hfn : P.funcs[g]? with
  | none => rw [hfn] at hf; cases hf
  | some fn => rw [hfn] at hf; exact ⟨fn, rfl, hf⟩
end Go.Am
namespace Go.Proofs
open Go.Proofs.Tryz
open Go.Shelf
def Tryz.lays189_ren : Go.Shelf.Ren := ⟨fun | 189 => 119 | 125 => 142 | 257 => 141 | 128 => 164 | 129 => 165 | 294 => 155 | 295 => 156 | 296 => 157 | 297 => 158 | 298 => 159 | 299 => 160 | 216 => 161 | 300 => 162 | 301 => 163 | 328 => 175 | 329 => 176 | 330 => 177 | 331 => 178 | 332 => 179 | 215 => 180 | 343 => 190 | n => n, fun | 28 => 47 | 3 => 3 | 46 => 165 | 0 => 0 | 51 => 213 | 53 => 215 | 4 => 4 | 183 => 205 | 182 => 204 | 131 => 210 | 5 => 5 | 9 => 9 | 218 => 227 | 222 => 231 | 228 => 242 | 229 => 27 | n => n, fun | n => n⟩
theorem Tryz.lays189 : Go.Proofs.Lays.n189 prog Tryz.lays189_ren := {
 mixed := by kernel_rfl
 f125 := Tryz.func142.trans (congrArg some (by kernel_rfl))
 f128 := Tryz.func164.trans (congrArg some (by kernel_rfl))
 f129 := Tryz.func165.trans (congrArg some (by kernel_rfl))
 f189 := Tryz.func119.trans (congrArg some (by kernel_rfl))
 f215 := Tryz.func180.trans (congrArg some (by kernel_rfl))
 f216 := Tryz.func161.trans (congrArg some (by kernel_rfl))
 f257 := Tryz.func141.trans (congrArg some (by kernel_rfl))
 f294 := Tryz.func155.trans (congrArg some (by kernel_rfl))
 f295 := Tryz.func156.trans (congrArg some (by kernel_rfl))
 f296 := Tryz.func157.trans (congrArg some (by kernel_rfl))
 f297 := Tryz.func158.trans (congrArg some (by kernel_rfl))
 f298 := Tryz.func159.trans (congrArg some (by kernel_rfl))
 f299 := Tryz.func160.trans (congrArg some (by kernel_rfl))
 f300 := Tryz.func162.trans (congrArg some (by kernel_rfl))
 f301 := Tryz.func163.trans (congrArg some (by kernel_rfl))
 f328 := Tryz.func175.trans (congrArg some (by kernel_rfl))
 f329 := Tryz.func176.trans (congrArg some (by kernel_rfl))
 f330 := Tryz.func177.trans (congrArg some (by kernel_rfl))
 f331 := Tryz.func178.trans (congrArg some (by kernel_rfl))
 f332 := Tryz.func179.trans (congrArg some (by kernel_rfl))
 f343 := Tryz.func190.trans (congrArg some (by kernel_rfl))
 t0 := Tryz.underlying0
 a0 := Tryz.isAgg0
 z0 := Tryz.sizeOf0
 v0 := Tryz.zeroValue0
 t3 := Tryz.underlying3
 a3 := Tryz.isAgg3
 z3 := Tryz.sizeOf3
 v3 := Tryz.zeroValue3
 t4 := Tryz.underlying4
 a4 := Tryz.isAgg4
 z4 := Tryz.sizeOf4
 v4 := Tryz.zeroValue4
 t5 := Tryz.underlying5
 a5 := Tryz.isAgg5
 z5 := Tryz.sizeOf5
 v5 := Tryz.zeroValue5
 t9 := Tryz.underlying9
 a9 := Tryz.isAgg9
 z9 := Tryz.sizeOf9
 v9 := Tryz.zeroValue9
 t28 := Tryz.underlying47
 a28 := Tryz.isAgg47
 z28 := Tryz.sizeOf47
 v28 := Tryz.zeroValue47
 t46 := Tryz.underlying165
 a46 := Tryz.isAgg165
 z46 := Tryz.sizeOf165
 v46 := Tryz.zeroValue165
 t51 := Tryz.underlying213
 a51 := Tryz.isAgg213
 z51 := Tryz.sizeOf213
 v51 := Tryz.zeroValue213
 t53 := Tryz.underlying215
 a53 := Tryz.isAgg215
 z53 := Tryz.sizeOf215
 v53 := Tryz.zeroValue215
 t131 := Tryz.underlying210
 a131 := Tryz.isAgg210
 z131 := Tryz.sizeOf210
 v131 := Tryz.zeroValue210
 t182 := Tryz.underlying204
 a182 := Tryz.isAgg204
 z182 := Tryz.sizeOf204
 v182 := Tryz.zeroValue204
 t183 := Tryz.underlying205
 a183 := Tryz.isAgg205
 z183 := Tryz.sizeOf205
 v183 := Tryz.zeroValue205
 t218 := Tryz.underlying227
 a218 := Tryz.isAgg227
 z218 := Tryz.sizeOf227
 v218 := Tryz.zeroValue227
 t222 := Tryz.underlying231
 a222 := Tryz.isAgg231
 z222 := Tryz.sizeOf231
 v222 := Tryz.zeroValue231
 t228 := Tryz.underlying242
 a228 := Tryz.isAgg242
 z228 := Tryz.sizeOf242
 v228 := Tryz.zeroValue242
 t229 := Tryz.underlying27
 a229 := Tryz.isAgg27
 z229 := Tryz.sizeOf27
 v229 := Tryz.zeroValue27 }
open Go.Sort Go.RowKit in
theorem Tryz.slices_Sort_int (blk off cap : Nat) (zs : List Int) (w : World) (hH : Holds (Value.int .i64) w blk off zs.toArray) (eU : blk < w.heap.size) (hsz : zs.length < 4611686018427387904) :
  Calls prog 119 #[.slice (some ⟨blk, off, none⟩) zs.length cap] w fun e w' =>
   e = .returned (.tuple #[]) ∧ ∃ n os, w' = grow (putRow (Value.int .i64) (Sort.ahead w n) blk off (zs.mergeSort fun x y => decide (x ≤ y)).toArray) os := Any.slices_Sort_int Tryz.lays189 blk off cap zs w hH eU hsz
def Tryz.laysNm220_ren : Go.Shelf.Ren := ⟨fun | 20 => 120 | n => n, fun | 22 => 47 | 3 => 3 | 4 => 4 | 0 => 0 | n => n, fun | n => n⟩
theorem Tryz.laysNm220 : Go.Proofs.Lays2.n20 prog Tryz.laysNm220_ren := {
 mixed := by kernel_rfl
 f20 := Tryz.func120.trans (congrArg some (by kernel_rfl))
 t0 := Tryz.underlying0
 a0 := Tryz.isAgg0
 z0 := Tryz.sizeOf0
 v0 := Tryz.zeroValue0
 t3 := Tryz.underlying3
 a3 := Tryz.isAgg3
 z3 := Tryz.sizeOf3
 v3 := Tryz.zeroValue3
 t4 := Tryz.underlying4
 a4 := Tryz.isAgg4
 z4 := Tryz.sizeOf4
 v4 := Tryz.zeroValue4
 t22 := Tryz.underlying47
 a22 := Tryz.isAgg47
 z22 := Tryz.sizeOf47
 v22 := Tryz.zeroValue47
 i3 := by kernel_rfl }
open Go.RowKit Go.Lib Go.Sort in
theorem Tryz.slices_Compact_int (blk off cap : Nat) (zs : List Int) (w : World) (hH : Holds (Value.int .i64) w blk off zs.toArray) (hsz : zs.length ≤ 9223372036854775807) (dP : zs.length ≤ cap) :
  Calls prog 120 #[.slice (some ⟨blk, off, none⟩) zs.length cap] w fun e w' => e = .returned (.slice (some ⟨blk, off, none⟩) (Lib.compact zs).length cap) ∧ ∃ q, w' = putRow (Value.int .i64) (Sort.ahead w q) blk off (Lib.compact zs ++ List.replicate (zs.length - (Lib.compact zs).length) 0).toArray := Any.slices_Compact_int Tryz.laysNm220 blk off cap zs w hH hsz dP
open Go.RowKit Go.Lib Go.Sort in
theorem Tryz.slices_Compact_int_empty (a : Option Addr) (cap : Nat) (w : World) :
  Calls prog 120 #[.slice a 0 cap] w fun e w' => e = .returned (.slice a 0 cap) ∧ w' = w := Any.slices_Compact_int_empty Tryz.laysNm220 a cap w
open Go.RowKit Go.Sort in
theorem Tryz.slices_Sort_int_none (p : Option Addr) (cap : Nat) (w : World) :
  Calls prog 119 #[.slice p 0 cap] w fun e w' => e = .returned (.tuple #[]) ∧ w' = w := Any.slices_Sort_int_none Tryz.lays189 p cap w
def Tryz.sortEnd_ren : Go.Shelf.Ren := ⟨fun | 6 => 192 | 15 => 142 | 14 => 196 | 28 => 164 | 29 => 165 | 20 => 198 | 21 => 199 | 22 => 200 | 23 => 201 | 24 => 202 | 25 => 203 | 26 => 204 | 27 => 205 | 46 => 206 | 47 => 176 | 48 => 177 | 49 => 207 | 50 => 208 | 57 => 209 | n => n, fun | 22 => 245 | 24 => 240 | 25 => 247 | 3 => 3 | 39 => 165 | 0 => 0 | 53 => 213 | 55 => 215 | 4 => 4 | 46 => 205 | 45 => 204 | 50 => 210 | 5 => 5 | 9 => 9 | 66 => 227 | 70 => 231 | 76 => 242 | 77 => 27 | n => n, fun | n => n⟩
theorem Tryz.sortEnd : Go.Proofs.SlLaysF0.n6 prog Tryz.sortEnd_ren := {
 mixed := by kernel_rfl
 f6 := ⟨Tryz.f192.name, by decide, Tryz.func192.trans (congrArg some (by kernel_rfl))⟩
 f14 := ⟨Tryz.f196.name, by decide, Tryz.func196.trans (congrArg some (by kernel_rfl))⟩
 f15 := Tryz.func142.trans (congrArg some (by kernel_rfl))
 f20 := ⟨Tryz.f198.name, by decide, Tryz.func198.trans (congrArg some (by kernel_rfl))⟩
 f21 := ⟨Tryz.f199.name, by decide, Tryz.func199.trans (congrArg some (by kernel_rfl))⟩
 f22 := ⟨Tryz.f200.name, by decide, Tryz.func200.trans (congrArg some (by kernel_rfl))⟩
 f23 := ⟨Tryz.f201.name, by decide, Tryz.func201.trans (congrArg some (by kernel_rfl))⟩
 f24 := ⟨Tryz.f202.name, by decide, Tryz.func202.trans (congrArg some (by kernel_rfl))⟩
 f25 := ⟨Tryz.f203.name, by decide, Tryz.func203.trans (congrArg some (by kernel_rfl))⟩
 f26 := ⟨Tryz.f204.name, by decide, Tryz.func204.trans (congrArg some (by kernel_rfl))⟩
 f27 := ⟨Tryz.f205.name, by decide, Tryz.func205.trans (congrArg some (by kernel_rfl))⟩
 f28 := Tryz.func164.trans (congrArg some (by kernel_rfl))
 f29 := Tryz.func165.trans (congrArg some (by kernel_rfl))
 f46 := ⟨Tryz.f206.name, by decide, Tryz.func206.trans (congrArg some (by kernel_rfl))⟩
 f47 := Tryz.func176.trans (congrArg some (by kernel_rfl))
 f48 := Tryz.func177.trans (congrArg some (by kernel_rfl))
 f49 := ⟨Tryz.f207.name, by decide, Tryz.func207.trans (congrArg some (by kernel_rfl))⟩
 f50 := ⟨Tryz.f208.name, by decide, Tryz.func208.trans (congrArg some (by kernel_rfl))⟩
 f57 := ⟨Tryz.f209.name, by decide, Tryz.func209.trans (congrArg some (by kernel_rfl))⟩
 t0 := Tryz.underlying0
 a0 := Tryz.isAgg0
 z0 := Tryz.sizeOf0
 v0 := Tryz.zeroValue0
 t3 := Tryz.underlying3
 a3 := Tryz.isAgg3
 z3 := Tryz.sizeOf3
 v3 := Tryz.zeroValue3
 t4 := Tryz.underlying4
 a4 := Tryz.isAgg4
 z4 := Tryz.sizeOf4
 v4 := Tryz.zeroValue4
 t5 := Tryz.underlying5
 a5 := Tryz.isAgg5
 z5 := Tryz.sizeOf5
 v5 := Tryz.zeroValue5
 t9 := Tryz.underlying9
 a9 := Tryz.isAgg9
 z9 := Tryz.sizeOf9
 v9 := Tryz.zeroValue9
 t22 := Tryz.underlying245
 a22 := Tryz.isAgg245
 z22 := Tryz.sizeOf245
 v22 := Tryz.zeroValue245
 t25 := Tryz.underlying247
 a25 := Tryz.isAgg247
 z25 := Tryz.sizeOf247
 v25 := Tryz.zeroValue247
 t39 := Tryz.underlying165
 a39 := Tryz.isAgg165
 z39 := Tryz.sizeOf165
 v39 := Tryz.zeroValue165
 t45 := Tryz.underlying204
 a45 := Tryz.isAgg204
 z45 := Tryz.sizeOf204
 v45 := Tryz.zeroValue204
 t46 := Tryz.underlying205
 a46 := Tryz.isAgg205
 z46 := Tryz.sizeOf205
 v46 := Tryz.zeroValue205
 t50 := Tryz.underlying210
 a50 := Tryz.isAgg210
 z50 := Tryz.sizeOf210
 v50 := Tryz.zeroValue210
 t53 := Tryz.underlying213
 a53 := Tryz.isAgg213
 z53 := Tryz.sizeOf213
 v53 := Tryz.zeroValue213
 t55 := Tryz.underlying215
 a55 := Tryz.isAgg215
 z55 := Tryz.sizeOf215
 v55 := Tryz.zeroValue215
 t66 := Tryz.underlying227
 a66 := Tryz.isAgg227
 z66 := Tryz.sizeOf227
 v66 := Tryz.zeroValue227
 t70 := Tryz.underlying231
 a70 := Tryz.isAgg231
 z70 := Tryz.sizeOf231
 v70 := Tryz.zeroValue231
 t76 := Tryz.underlying242
 a76 := Tryz.isAgg242
 z76 := Tryz.sizeOf242
 v76 := Tryz.zeroValue242
 t77 := Tryz.underlying27
 a77 := Tryz.isAgg27
 z77 := Tryz.sizeOf27
 v77 := Tryz.zeroValue27 }
end Go.Proofs
namespace Go.Proofs
open Go.Proofs.Tryz
open Go.Shelf Go.RowKit Go.Lib Go.Sort
theorem Tryz.cmpEnd (a b c a' b' c' : Int) (h : -1000000000 ≤ a ∧ a ≤ 1000000000) (h' : -1000000000 ≤ a' ∧ a' ≤ 1000000000) (W : World) :
  Calls prog 193 #[.agg #[.int .i64 a, .int .i64 b, .int .i64 c], .agg #[.int .i64 a', .int .i64 b', .int .i64 c']] W fun e w' => e = .returned (.int .i64 (a - a')) ∧ ∃ q os', w' = grow (W.drewN q) os' := by
 go_enter Tryz.func193, Tryz.ntmps193
 go_wp2
 go_ret
 exact ⟨rfl, 0, _, by rw [alloc_eq_grow, alloc_eq_grow, grow_grow]; rfl⟩
end Go.Proofs
namespace Go.Am
open Go.Proofs.Tryz
open Go.Proofs
inductive rjsS where
 | h0 (v9 : List R6) (v10 : List R4) (v11 : Int) (v12 : Int)
 | h1 (v9 : List R6) (v10 : List R4) (v11 : Int) (v12 : Int) (v13 : List R4) (v15 : Int)
 | h2 (v9 : List R6) (v10 : List R4) (v11 : Int) (v12 : Int) (v14 : Int)
def rjsC (x0 : Int) (l1 : List R6) (l2 : List R6) : rjsS → Cfg
 | .h0 v9 v10 v11 v12 => ⟨⟨137, 0, true⟩, none, (Za prog 79 [1, 1, 1, 1, 1, 0, 1, 0, 0] 0), none, (Zy prog 23), ⟨Yb [(0, (ii x0)), (1, (.dat l1.length (Zz l1))), (2, (.dat l2.length (Zz l2))), (8, (.dat (Ye (cvT l1) (cvT l2)).length (Zz (Ye (cvT l1) (cvT l2))))), (9, (.sla 0 6 0 v9.length (.un 6))), (10, (.dat v10.length (Zz v10))), (11, (ii v11)), (12, (ii v12))], Vq [⟨rows v9.length (Zz v9), 68, some ⟨6, v9.length, (Zz v9)⟩⟩] 0, 1, [], true⟩, [], .leaf⟩
 | .h1 v9 v10 v11 v12 v13 v15 => ⟨⟨137, 0, true⟩, none, (Za prog 79 [1, 1, 1, 1, 1, 0, 1, 0, 0, 1, 0, 0, 1, 1, 1, 1, 1, 0, 0] 0), none, (Zy prog 23), ⟨Yb [(0, (ii x0)), (1, (.dat l1.length (Zz l1))), (2, (.dat l2.length (Zz l2))), (8, (.dat (Ye (cvT l1) (cvT l2)).length (Zz (Ye (cvT l1) (cvT l2))))), (9, (.sla 0 6 0 v9.length (.un 6))), (10, (.dat v10.length (Zz v10))), (11, (ii v11)), (12, (ii v12)), (13, (.dat v13.length (Zz v13))), (15, (ii v15))], Vq [⟨rows v9.length (Zz v9), 68, some ⟨6, v9.length, (Zz v9)⟩⟩] 0, 1, [], true⟩, [], .leaf⟩
 | .h2 v9 v10 v11 v12 v14 => ⟨⟨137, 0, true⟩, none, (Za prog 79 [1, 1, 1, 1, 1, 0, 1, 0, 0, 1, 0, 0, 1, 1, 0, 1, 0, 0, 1, 0, 0] 0), none, (Zy prog 23), ⟨Yb [(0, (ii x0)), (1, (.dat l1.length (Zz l1))), (2, (.dat l2.length (Zz l2))), (8, (.dat (Ye (cvT l1) (cvT l2)).length (Zz (Ye (cvT l1) (cvT l2))))), (9, (.sla 0 6 0 v9.length (.un 6))), (10, (.dat v10.length (Zz v10))), (11, (ii v11)), (12, (ii v12)), (14, (ii v14))], Vq [⟨rows v9.length (Zz v9), 68, some ⟨6, v9.length, (Zz v9)⟩⟩] 0, 1, [], true⟩, [], .leaf⟩
def v5k : List (Option (List Nat)) := [some [0, 1, 2, 8, 9, 10, 11, 12]]
def v5m : List (Option (List Nat)) := []
def v5j : List (Option (List Nat)) := [some [0, 1, 2, 8, 9, 10, 11, 12, 13, 15]]
def v5l : List (Option (List Nat)) := []
def rjsN2 : List (Option (List Nat)) := [some [0, 1, 2, 8, 9, 10, 11, 12, 14]]
def rjsM2 : List (Option (List Nat)) := []
def Wd (x0 : Int) (l1 : List R6) (l2 : List R6) : rjsS → Xj rjsS
 | .h0 v9 v10 v11 v12 => (bif (decide ((IntKind.wrap .i64 (v12 + 1)) < (((Ye (cvT l1) (cvT l2)).length : Nat) : Int))) then (bif (z2l (cvT l1) (rd (Ye (cvT l1) (cvT l2)) v12.toNat)) then (bif ((decide (0 ≤ v12 ∧ v12 < (((Ye (cvT l1) (cvT l2)).length : Nat) : Int))) && true) then (bif (z2l (cvT l2) (rd (Ye (cvT l1) (cvT l2)) v12.toNat)) then (bif (Qw x0 (cvT (atV (cvT l1) (rd (Ye (cvT l1) (cvT l2)) v12.toNat))) (cvT (atV (cvT l2) (rd (Ye (cvT l1) (cvT l2)) v12.toNat)))) then (bif (decide ((((joV x0 (cvT (atV (cvT l1) (rd (Ye (cvT l1) (cvT l2)) v12.toNat))) (cvT (atV (cvT l2) (rd (Ye (cvT l1) (cvT l2)) v12.toNat)))).length : Nat) : Int) > 400)) then (.ret [.nils, (.bool false)]) else (bif (Qw 2 (cvT (atV (cvT l1) (rd (Ye (cvT l1) (cvT l2)) v12.toNat))) ([] : List R4)) then (bif (decide ((((joV 2 (cvT (atV (cvT l1) (rd (Ye (cvT l1) (cvT l2)) v12.toNat))) ([] : List R4)).length : Nat) : Int) > 400)) then (.ret [.nils, (.bool false)]) else (bif (Qw 2 (cvT (atV (cvT l2) (rd (Ye (cvT l1) (cvT l2)) v12.toNat))) ([] : List R4)) then (bif (decide ((((joV 2 (cvT (atV (cvT l2) (rd (Ye (cvT l1) (cvT l2)) v12.toNat))) ([] : List R4)).length : Nat) : Int) > 400)) then (.ret [.nils, (.bool false)]) else (bif (decide (v12 > 0)) then (bif (Wc (cvT (joV x0 (cvT (atV (cvT l1) (rd (Ye (cvT l1) (cvT l2)) v12.toNat))) (cvT (atV (cvT l2) (rd (Ye (cvT l1) (cvT l2)) v12.toNat))))) (cvT v10)) then (bif (Jx (cvT (joV x0 (cvT (atV (cvT l1) (rd (Ye (cvT l1) (cvT l2)) v12.toNat))) (cvT (atV (cvT l2) (rd (Ye (cvT l1) (cvT l2)) v12.toNat))))) (cvT v10)) then (.to (.h2 v9 v10 v11 v12 v11)) else (.to (.h1 v9 (joV x0 (cvT (atV (cvT l1) (rd (Ye (cvT l1) (cvT l2)) v12.toNat))) (cvT (atV (cvT l2) (rd (Ye (cvT l1) (cvT l2)) v12.toNat)))) (v9.length : Int) v12 (joV x0 (cvT (atV (cvT l1) (rd (Ye (cvT l1) (cvT l2)) v12.toNat))) (cvT (atV (cvT l2) (rd (Ye (cvT l1) (cvT l2)) v12.toNat)))) 0))) else .stuck) else (.to (.h1 v9 (joV x0 (cvT (atV (cvT l1) (rd (Ye (cvT l1) (cvT l2)) v12.toNat))) (cvT (atV (cvT l2) (rd (Ye (cvT l1) (cvT l2)) v12.toNat)))) (v9.length : Int) v12 (joV x0 (cvT (atV (cvT l1) (rd (Ye (cvT l1) (cvT l2)) v12.toNat))) (cvT (atV (cvT l2) (rd (Ye (cvT l1) (cvT l2)) v12.toNat)))) 0)))) else .stuck)) else .stuck)) else .stuck) else .stuck) else .stuck) else .stuck) else (.ret [(.dat v9.length (Zz v9)), (.bool (decide ((v9.length : Int) ≤ 400)))]))
 | .h1 v9 v10 v11 v12 v13 v15 => (bif (decide (v15 < (v13.length : Int))) then (bif ((decide (0 ≤ v12 ∧ v12 < (((Ye (cvT l1) (cvT l2)).length : Nat) : Int))) && true) then (bif ((decide (0 ≤ v15 ∧ v15 < (v13.length : Int))) && true) then (bif ((decide (0 ≤ (IntKind.wrap .i64 (v12 + 1)) ∧ (IntKind.wrap .i64 (v12 + 1)) < (((Ye (cvT l1) (cvT l2)).length : Nat) : Int))) && true) then (bif (Nat.beq 6 6 && ((decide (0 + v9.length = v9.length)) && decide ((v9.length + 1 + 1) * (48 + 1) ≤ Kd))) then (.to (.h1 (v9 ++ [(R6.mk (rd v13 v15.toNat).a (rd v13 v15.toNat).b (rd (Ye (cvT l1) (cvT l2)) v12.toNat) (rd v13 v15.toNat).c (rd v13 v15.toNat).d (rd (Ye (cvT l1) (cvT l2)) (Int.toNat (IntKind.wrap .i64 (v12 + 1)))))]) v10 v11 v12 v13 (IntKind.wrap .i64 (v15 + 1)))) else .stuck) else .stuck) else .stuck) else .stuck) else (.to (.h0 v9 v10 v11 (IntKind.wrap .i64 (v12 + 1)))))
 | .h2 v9 v10 v11 v12 v14 => (bif (decide (v14 < (v9.length : Int))) then (bif ((decide (0 ≤ (IntKind.wrap .i64 (v12 + 1)) ∧ (IntKind.wrap .i64 (v12 + 1)) < (((Ye (cvT l1) (cvT l2)).length : Nat) : Int))) && true) then (bif ((decide (0 ≤ v14 ∧ v14 < (v9.length : Int))) && true) then (bif (decide ((0 + v14.toNat) < v9.length)) then (.to (.h2 (v9.set (0 + v14.toNat) (R6.mk (rd v9 (0 + v14.toNat)).a (rd v9 (0 + v14.toNat)).b (rd v9 (0 + v14.toNat)).c (rd v9 (0 + v14.toNat)).d (rd v9 (0 + v14.toNat)).e (rd (Ye (cvT l1) (cvT l2)) (Int.toNat (IntKind.wrap .i64 (v12 + 1)))))) v10 v11 v12 (IntKind.wrap .i64 (v14 + 1)))) else .stuck) else .stuck) else .stuck) else (.to (.h0 v9 v10 v11 (IntKind.wrap .i64 (v12 + 1)))))
def z8f (x0 : Int) (l1 : List R6) (l2 : List R6) : Xj rjsS := (bif (z5e (cvT l1) (cvT l2)) then (.to (.h0 ([] : List R6) ([] : List R4) 0 0)) else .stuck)
theorem x5y (x0 : Int) (l1 : List R6) (l2 : List R6) : ∀ s, Xd prog (Zy prog 79) (rjsC x0 l1 l2) (rjsC x0 l1 l2 s) (Wd x0 l1 l2 s)
 | .h0 v9 v10 v11 v12 => (lb (fun k0 => (lo fun aF => (lo fun bC => (lo fun bZ => (lo fun cV => (lb (fun k1 => (lr 137 79 [1, 1, 1, 1, 1, 0, 1, 0, 0, 1, 0, 0, 1, 0, 1, 0, 0] 1 23 [(6, .nils), (7, (.bool false))] (sl z6j 50 [] ⟨[], [], [some [6, 7]], []⟩ ⟨[], [], []⟩ (trs 20 []) (tt k1 (pp (pp (xI R4 (atV (cvT l1) (rd (Ye (cvT l1) (cvT l2)) (tn v12))).length (Zz (atV (cvT l1) (rd (Ye (cvT l1) (cvT l2)) (tn v12))))) (pp (xI R4 (atV (cvT l2) (rd (Ye (cvT l1) (cvT l2)) (tn v12))).length (Zz (atV (cvT l2) (rd (Ye (cvT l1) (cvT l2)) (tn v12))))) (xw cV))) (pp (pp (xr l2) (xw bZ)) (ww bC (pp (pp (xr l1) (xw aF)) (ww bC (tt k0 nn)))))))))) (fun k1 => (lo fun cP => (lb (fun k2 => (lr 137 79 [1, 1, 1, 1, 1, 0, 1, 0, 0, 1, 0, 0, 1, 0, 1, 0, 0] 1 23 [(6, .nils), (7, (.bool false))] (sl z6j 50 [] ⟨[], [], [some [6, 7]], []⟩ ⟨[], [], []⟩ [true, false, false, false, false, false, false, false, false, false, true, true, true, true, true, true, true, true, true, true] (tt k2 (pp (pp (xI R4 (atV (cvT l1) (rd (Ye (cvT l1) (cvT l2)) (tn v12))).length (Zz (atV (cvT l1) (rd (Ye (cvT l1) (cvT l2)) (tn v12))))) (pp (xI R4 0 (fun _ => [])) (xw cP))) (pp (pp (xr l1) (xw aF)) (ww bC (tt k1 (pp (pp (xI R4 (atV (cvT l1) (rd (Ye (cvT l1) (cvT l2)) (tn v12))).length (Zz (atV (cvT l1) (rd (Ye (cvT l1) (cvT l2)) (tn v12))))) (pp (xI R4 (atV (cvT l2) (rd (Ye (cvT l1) (cvT l2)) (tn v12))).length (Zz (atV (cvT l2) (rd (Ye (cvT l1) (cvT l2)) (tn v12))))) (xw cV))) (pp (pp (xr l2) (xw bZ)) (ww bC (pp (pp (xr l1) (xw aF)) (ww bC (tt k0 nn)))))))))))))) (fun k2 => (lo fun cM => (lb (fun k3 => (lr 137 79 [1, 1, 1, 1, 1, 0, 1, 0, 0, 1, 0, 0, 1, 0, 1, 0, 0] 1 23 [(6, .nils), (7, (.bool false))] (sl z6j 50 [] ⟨[], [], [some [6, 7]], []⟩ ⟨[], [], []⟩ [true, false, false, false, false, false, false, false, false, false, false, false, false, false, false, false, false, false, false, true] (tt k3 (pp (pp (xI R4 (atV (cvT l2) (rd (Ye (cvT l1) (cvT l2)) (tn v12))).length (Zz (atV (cvT l2) (rd (Ye (cvT l1) (cvT l2)) (tn v12))))) (pp (xI R4 0 (fun _ => [])) (xw cM))) (pp (pp (xr l2) (xw bZ)) (ww bC (tt k2 (pp (pp (xI R4 (atV (cvT l1) (rd (Ye (cvT l1) (cvT l2)) (tn v12))).length (Zz (atV (cvT l1) (rd (Ye (cvT l1) (cvT l2)) (tn v12))))) (pp (xI R4 0 (fun _ => [])) (xw cP))) (pp (pp (xr l1) (xw aF)) (ww bC (tt k1 (pp (pp (xI R4 (atV (cvT l1) (rd (Ye (cvT l1) (cvT l2)) (tn v12))).length (Zz (atV (cvT l1) (rd (Ye (cvT l1) (cvT l2)) (tn v12))))) (pp (xI R4 (atV (cvT l2) (rd (Ye (cvT l1) (cvT l2)) (tn v12))).length (Zz (atV (cvT l2) (rd (Ye (cvT l1) (cvT l2)) (tn v12))))) (xw cV))) (pp (pp (xr l2) (xw bZ)) (ww bC (pp (pp (xr l1) (xw aF)) (ww bC (tt k0 nn)))))))))))))))))) (fun k3 => (lb (fun k4 => (lo fun dH => (lb (fun k5 => (sl z6j 66 [] ⟨[0], [], rjsN2, rjsM2⟩ ⟨[], [], []⟩ [true, false, false, false, false, false, false, false, false, false, false, false, false, false, false, false, false, false, false, false, true, true, true, true] (pp (fl v9 nn) (tt k5 (pp (pp (xI R4 (joV x0 (cvT (atV (cvT l1) (rd (Ye (cvT l1) (cvT l2)) (tn v12)))) (cvT (atV (cvT l2) (rd (Ye (cvT l1) (cvT l2)) (tn v12))))).length (Zz (joV x0 (cvT (atV (cvT l1) (rd (Ye (cvT l1) (cvT l2)) (tn v12)))) (cvT (atV (cvT l2) (rd (Ye (cvT l1) (cvT l2)) (tn v12))))))) (pp (xr v10) (xw dH))) (tt k4 (tt k3 (pp (pp (xI R4 (atV (cvT l2) (rd (Ye (cvT l1) (cvT l2)) (tn v12))).length (Zz (atV (cvT l2) (rd (Ye (cvT l1) (cvT l2)) (tn v12))))) (pp (xI R4 0 (fun _ => [])) (xw cM))) (pp (pp (xr l2) (xw bZ)) (ww bC (tt k2 (pp (pp (xI R4 (atV (cvT l1) (rd (Ye (cvT l1) (cvT l2)) (tn v12))).length (Zz (atV (cvT l1) (rd (Ye (cvT l1) (cvT l2)) (tn v12))))) (pp (xI R4 0 (fun _ => [])) (xw cP))) (pp (pp (xr l1) (xw aF)) (ww bC (tt k1 (pp (pp (xI R4 (atV (cvT l1) (rd (Ye (cvT l1) (cvT l2)) (tn v12))).length (Zz (atV (cvT l1) (rd (Ye (cvT l1) (cvT l2)) (tn v12))))) (pp (xI R4 (atV (cvT l2) (rd (Ye (cvT l1) (cvT l2)) (tn v12))).length (Zz (atV (cvT l2) (rd (Ye (cvT l1) (cvT l2)) (tn v12))))) (xw cV))) (pp (pp (xr l2) (xw bZ)) (ww bC (pp (pp (xr l1) (xw aF)) (ww bC (tt k0 nn))))))))))))))))))))) (fun k5 => (sl z6j 73 [] ⟨[0], [], v5j, v5l⟩ ⟨[], [], []⟩ [true, false, false, false, false, false, false, false, false, false, false, false, false, false, false, false, false, false, false, false, true, true, true, false] (pp (fl v9 nn) (tt k5 (pp (pp (xI R4 (joV x0 (cvT (atV (cvT l1) (rd (Ye (cvT l1) (cvT l2)) (tn v12)))) (cvT (atV (cvT l2) (rd (Ye (cvT l1) (cvT l2)) (tn v12))))).length (Zz (joV x0 (cvT (atV (cvT l1) (rd (Ye (cvT l1) (cvT l2)) (tn v12)))) (cvT (atV (cvT l2) (rd (Ye (cvT l1) (cvT l2)) (tn v12))))))) (pp (xr v10) (xw dH))) (tt k4 (tt k3 (pp (pp (xI R4 (atV (cvT l2) (rd (Ye (cvT l1) (cvT l2)) (tn v12))).length (Zz (atV (cvT l2) (rd (Ye (cvT l1) (cvT l2)) (tn v12))))) (pp (xI R4 0 (fun _ => [])) (xw cM))) (pp (pp (xr l2) (xw bZ)) (ww bC (tt k2 (pp (pp (xI R4 (atV (cvT l1) (rd (Ye (cvT l1) (cvT l2)) (tn v12))).length (Zz (atV (cvT l1) (rd (Ye (cvT l1) (cvT l2)) (tn v12))))) (pp (xI R4 0 (fun _ => [])) (xw cP))) (pp (pp (xr l1) (xw aF)) (ww bC (tt k1 (pp (pp (xI R4 (atV (cvT l1) (rd (Ye (cvT l1) (cvT l2)) (tn v12))).length (Zz (atV (cvT l1) (rd (Ye (cvT l1) (cvT l2)) (tn v12))))) (pp (xI R4 (atV (cvT l2) (rd (Ye (cvT l1) (cvT l2)) (tn v12))).length (Zz (atV (cvT l2) (rd (Ye (cvT l1) (cvT l2)) (tn v12))))) (xw cV))) (pp (pp (xr l2) (xw bZ)) (ww bC (pp (pp (xr l1) (xw aF)) (ww bC (tt k0 nn)))))))))))))))))))))))) (fun k4 => (sl z6j 73 [] ⟨[0], [], v5j, v5l⟩ ⟨[], [], []⟩ [true, false, false, false, false, false, false, false, false, false, false, false, false, false, false, false, false, false, false, false, false, false, false, false] (pp (fl v9 nn) (tt k4 (tt k3 (pp (pp (xI R4 (atV (cvT l2) (rd (Ye (cvT l1) (cvT l2)) (tn v12))).length (Zz (atV (cvT l2) (rd (Ye (cvT l1) (cvT l2)) (tn v12))))) (pp (xI R4 0 (fun _ => [])) (xw cM))) (pp (pp (xr l2) (xw bZ)) (ww bC (tt k2 (pp (pp (xI R4 (atV (cvT l1) (rd (Ye (cvT l1) (cvT l2)) (tn v12))).length (Zz (atV (cvT l1) (rd (Ye (cvT l1) (cvT l2)) (tn v12))))) (pp (xI R4 0 (fun _ => [])) (xw cP))) (pp (pp (xr l1) (xw aF)) (ww bC (tt k1 (pp (pp (xI R4 (atV (cvT l1) (rd (Ye (cvT l1) (cvT l2)) (tn v12))).length (Zz (atV (cvT l1) (rd (Ye (cvT l1) (cvT l2)) (tn v12))))) (pp (xI R4 (atV (cvT l2) (rd (Ye (cvT l1) (cvT l2)) (tn v12))).length (Zz (atV (cvT l2) (rd (Ye (cvT l1) (cvT l2)) (tn v12))))) (xw cV))) (pp (pp (xr l2) (xw bZ)) (ww bC (pp (pp (xr l1) (xw aF)) (ww bC (tt k0 nn))))))))))))))))))))))))))))))))) (fun k0 => (lr 137 3 [1, 1, 1, 1, 1, 1, 0] 1 23 [(6, (.dat v9.length (Zz v9))), (7, (.bool (decide ((v9.length : Int) ≤ 400))))] (sl z6j 20 [] ⟨[], [0], [some [6, 7]], []⟩ ⟨[(6, .frz v9.length v9.length (Zz v9) (Zz v9))], [], []⟩ [false] (pp (xZ (z8r 6 6 0 v9.length v9.length (Zz v9)) v9.length (Zz v9)) (pp (xL v9.length v9.length) (pp (xS v9.length (Zz v9) (Zz v9)) (pp (fl v9 nn) (tt k0 nn)))))))))
 | .h1 v9 v10 v11 v12 v13 v15 => (lb (fun k0 => (lo fun o0 => (lo fun o1 => (lo fun o2 => (lo fun o3 => (sl z6j 20 [] ⟨[2], [], v5j, v5l⟩ ⟨[(9, .len (v9 ++ [(R6.mk (rd v13 (tn v15)).a (rd v13 (tn v15)).b (rd (Ye (cvT l1) (cvT l2)) (tn v12)) (rd v13 (tn v15)).c (rd v13 (tn v15)).d (rd (Ye (cvT l1) (cvT l2)) (tn (wr (v12 + 1)))))]).length)], [.rowed 6 (v9 ++ [(R6.mk (rd v13 (tn v15)).a (rd v13 (tn v15)).b (rd (Ye (cvT l1) (cvT l2)) (tn v12)) (rd v13 (tn v15)).c (rd v13 (tn v15)).d (rd (Ye (cvT l1) (cvT l2)) (tn (wr (v12 + 1)))))]).length (Zz (v9 ++ [(R6.mk (rd v13 (tn v15)).a (rd v13 (tn v15)).b (rd (Ye (cvT l1) (cvT l2)) (tn v12)) (rd v13 (tn v15)).c (rd v13 (tn v15)).d (rd (Ye (cvT l1) (cvT l2)) (tn (wr (v12 + 1)))))]))], []⟩ [true] (pp (xL (v9.length + 1) (v9 ++ [(R6.mk (rd v13 (tn v15)).a (rd v13 (tn v15)).b (rd (Ye (cvT l1) (cvT l2)) (tn v12)) (rd v13 (tn v15)).c (rd v13 (tn v15)).d (rd (Ye (cvT l1) (cvT l2)) (tn (wr (v12 + 1)))))]).length) (pp (xL (v9.length + 1) (v9 ++ [(R6.mk (rd v13 (tn v15)).a (rd v13 (tn v15)).b (rd (Ye (cvT l1) (cvT l2)) (tn v12)) (rd v13 (tn v15)).c (rd v13 (tn v15)).d (rd (Ye (cvT l1) (cvT l2)) (tn (wr (v12 + 1)))))]).length) (pp (xS (v9.length + 1) (Zh (Zz v9) 0 v9.length 6 [(ii (rd v13 (tn v15)).a), (ii (rd v13 (tn v15)).b), (ii (rd (Ye (cvT l1) (cvT l2)) (tn v12))), (ii (rd v13 (tn v15)).c), (ii (rd v13 (tn v15)).d), (ii (rd (Ye (cvT l1) (cvT l2)) (tn (wr (v12 + 1)))))]) (Zz (v9 ++ [(R6.mk (rd v13 (tn v15)).a (rd v13 (tn v15)).b (rd (Ye (cvT l1) (cvT l2)) (tn v12)) (rd v13 (tn v15)).c (rd v13 (tn v15)).d (rd (Ye (cvT l1) (cvT l2)) (tn (wr (v12 + 1)))))]))) (pp (pp (xF (Zh (Zz v9) 0 v9.length 6 [(ii (rd v13 (tn v15)).a), (ii (rd v13 (tn v15)).b), (ii (rd (Ye (cvT l1) (cvT l2)) (tn v12))), (ii (rd v13 (tn v15)).c), (ii (rd v13 (tn v15)).d), (ii (rd (Ye (cvT l1) (cvT l2)) (tn (wr (v12 + 1)))))])) nn) (ww o3 (ww o2 (ww o1 (ww o1 (ww o0 (ww o1 (ww o1 (tt k0 nn)))))))))))))))))) (fun k0 => (sl z6j 17 [] ⟨[0], [], v5k, v5m⟩ ⟨[], [], []⟩ [false] (pp (fl v9 nn) (tt k0 nn)))))
 | .h2 v9 v10 v11 v12 v14 => (lb (fun k0 => (lo fun o0 => (lo fun o1 => (lo fun o2 => (sl z6j 32 [] ⟨[0], [], rjsN2, rjsM2⟩ ⟨[(9, .len (v9.set (0 + (tn v14)) (R6.mk (rd v9 (0 + (tn v14))).a (rd v9 (0 + (tn v14))).b (rd v9 (0 + (tn v14))).c (rd v9 (0 + (tn v14))).d (rd v9 (0 + (tn v14))).e (rd (Ye (cvT l1) (cvT l2)) (tn (wr (v12 + 1)))))).length)], [.rowed 6 (v9.set (0 + (tn v14)) (R6.mk (rd v9 (0 + (tn v14))).a (rd v9 (0 + (tn v14))).b (rd v9 (0 + (tn v14))).c (rd v9 (0 + (tn v14))).d (rd v9 (0 + (tn v14))).e (rd (Ye (cvT l1) (cvT l2)) (tn (wr (v12 + 1)))))).length (Zz (v9.set (0 + (tn v14)) (R6.mk (rd v9 (0 + (tn v14))).a (rd v9 (0 + (tn v14))).b (rd v9 (0 + (tn v14))).c (rd v9 (0 + (tn v14))).d (rd v9 (0 + (tn v14))).e (rd (Ye (cvT l1) (cvT l2)) (tn (wr (v12 + 1)))))))], []⟩ [true] (pp (xL v9.length (v9.set (0 + (tn v14)) (R6.mk (rd v9 (0 + (tn v14))).a (rd v9 (0 + (tn v14))).b (rd v9 (0 + (tn v14))).c (rd v9 (0 + (tn v14))).d (rd v9 (0 + (tn v14))).e (rd (Ye (cvT l1) (cvT l2)) (tn (wr (v12 + 1)))))).length) (pp (xL v9.length (v9.set (0 + (tn v14)) (R6.mk (rd v9 (0 + (tn v14))).a (rd v9 (0 + (tn v14))).b (rd v9 (0 + (tn v14))).c (rd v9 (0 + (tn v14))).d (rd v9 (0 + (tn v14))).e (rd (Ye (cvT l1) (cvT l2)) (tn (wr (v12 + 1)))))).length) (pp (xS v9.length (Xr (Zz v9) (0 + (tn v14)) 5 [(ii (rd (Ye (cvT l1) (cvT l2)) (tn (wr (v12 + 1)))))]) (Zz (v9.set (0 + (tn v14)) (R6.mk (rd v9 (0 + (tn v14))).a (rd v9 (0 + (tn v14))).b (rd v9 (0 + (tn v14))).c (rd v9 (0 + (tn v14))).d (rd v9 (0 + (tn v14))).e (rd (Ye (cvT l1) (cvT l2)) (tn (wr (v12 + 1)))))))) (pp (pp (xF (Xr (Zz v9) (0 + (tn v14)) 5 [(ii (rd (Ye (cvT l1) (cvT l2)) (tn (wr (v12 + 1)))))])) nn) (ww o2 (ww o1 (ww o0 (tt k0 nn))))))))))))) (fun k0 => (sl z6j 17 [] ⟨[0], [], v5k, v5m⟩ ⟨[], [], []⟩ [false] (pp (fl v9 nn) (tt k0 nn)))))
theorem y9w (x0 : Int) (l1 : List R6) (l2 : List R6) : Xd prog (Zy prog 79) (rjsC x0 l1 l2) (Zg prog 79 [(.int .i64 x0), (.dat l1.length (Zz l1)), (.dat l2.length (Zz l2))] true []) (z8f x0 l1 l2) := (lo fun o0 => (sl z6j 31 [(68, 6, Zz ([] : List R6))] ⟨[0], [], v5k, v5m⟩ ⟨[(9, .grow 0 6), (10, .list 0 (Zz ([] : List R4)))], [], []⟩ [] (pp (fl ([] : List R6) nn) (pp (pp (xr l1) (pp (xr l2) (xw o0))) nn))))
theorem w5z (x0 : Int) (l1 : List R6) (l2 : List R6) (n : Nat) (vs : List AVal) (h : Yu (Wd x0 l1 l2) n (z8f x0 l1 l2) = .ret vs) : Ur prog (Zy prog 79) (Zg prog 79 [(.int .i64 x0), (.dat l1.length (Zz l1)), (.dat l2.length (Zz l2))] true []) vs := by
 have := Ze (x5y x0 l1 l2) n _ (y9w x0 l1 l2)
 rwa [h] at this
end Go.Am
namespace Go.Am
open Go.Proofs.Tryz
open Go.Proofs
theorem Uh (l m : List R6) : (Ye l m).length ≤ 2 * l.length + 2 * m.length := by
 refine Nat.le_trans (z0c _) ?_
 rw [List.length_append, Kn, Kn]; omega
theorem Qs (l : List R6) (z : Int) : (atV l z).length ≤ l.length := by
 unfold atV
 rw [List.length_map]
 exact List.length_filter_le _ _
def w4l (out : List R6) (first : Nat) (z : Int) : List R6 := out.take first ++ (out.drop first).map fun r => ⟨r.a, r.b, r.c, r.d, r.e, z⟩
def v6c (z z' : Int) (s : List R4) : List R6 := s.map fun p => ⟨p.a, p.b, z, p.c, p.d, z'⟩
section
variable (kind : Int) (l m : List R6)
def y1u (z : Int) : List R4 := joV kind (atV l z) (atV m z)
def z3m (z : Int) : Bool := decide (400 < (y1u kind l m z).length) || (decide (400 < (joV 2 (atV l z) []).length) || decide (400 < (joV 2 (atV m z) []).length))
def jsF : Nat → Nat → List R6 → List R4 → Nat → Option (List R6)
 | 0, _, out, _, _ => some out
 | k + 1, i, out, last, first =>
  bif z3m kind l m (rd (Ye l m) i) then none
  else bif decide (0 < i) && Jx (y1u kind l m (rd (Ye l m) i)) last then jsF k (i + 1) (w4l out first (rd (Ye l m) (i + 1))) last first
  else jsF k (i + 1) (out ++ v6c (rd (Ye l m) i) (rd (Ye l m) (i + 1)) (y1u kind l m (rd (Ye l m) i))) (y1u kind l m (rd (Ye l m) i)) out.length
def jsO : Option (List R6) := jsF kind l m ((Ye l m).length - 1) 0 [] [] 0
def x0z : Option (List R6) → List AVal
 | none => [.nils, .bool false]
 | some out => [.dat out.length (Zz out), .bool (decide ((out.length : Int) ≤ 400))]
def Ue : List R6 := (jsO kind l m).getD []
def Qp : Bool := match jsO kind l m with
 | none => false
 | some out => decide ((out.length : Int) ≤ 400)
end
def z2c (_ : Int) (l m : List R6) : Bool := decide (l.length ≤ 5000 ∧ m.length ≤ 5000)
section
variable (kind : Int) (l m : List R6) (hl : l.length ≤ 5000) (hm : m.length ≤ 5000)
include hl hm
theorem v1l (last : List R4) (first : Int) (i : Nat) (hi : i + 1 < (Ye l m).length) (s : List R4) (hs : s.length ≤ 1000000) : ∀ (k j : Nat) (out : List R6), j + k = s.length → out.length ≤ 10000000000 + j →
  ∃ n, ∀ N, Yu (Wd kind l m) (N + n) (.to (.h1 out last first (i : Int) s (j : Int))) = Yu (Wd kind l m) N (.to (.h0 (out ++ v6c (rd (Ye l m) i) (rd (Ye l m) (i + 1)) (s.drop j)) last first ((i + 1 : Nat) : Int)))
 | 0, j, out, h, ho => by
  have hx := Uh l m
  refine ⟨1, fun N => ?_⟩
  rw [List.drop_eq_nil_of_le (by omega), Zw]
  simp (disch := omega) only [Wd, Zc, Zp, Zs, Zj, Zv, cond_false, v6c, List.map_nil, List.append_nil]
 | k + 1, j, out, h, ho => by
  have hx := Uh l m
  obtain ⟨n, hn⟩ := v1l last first i hi s hs k (j + 1) (out ++ v6c (rd (Ye l m) i) (rd (Ye l m) (i + 1)) [rd s j]) (by omega) (by simp [v6c]; omega)
  refine ⟨n + 1, fun N => ?_⟩
  have := hn N
  rw [Yg (show j < s.length by omega), ← Nat.add_assoc, Zw]
  simp (disch := omega) only [Wd, Zc, Zp, Yv, Yj, Yp, Yf, Zt, Zj, Zv, Yi, Zk, Nat.zero_add, decide_true, Bool.and_true, Bool.true_and, cond_true]
  rw [List.append_assoc] at this
  exact this
omit hl hm in
theorem w8m (out : List R6) (j : Nat) (x : Int) (h : j < out.length) : w4l (out.set j ⟨(rd out j).a, (rd out j).b, (rd out j).c, (rd out j).d, (rd out j).e, x⟩) (j + 1) x = w4l out j x := by
 unfold w4l
 rw [Yg h, List.map_cons]
 have e1 : (out.set j ⟨(rd out j).a, (rd out j).b, (rd out j).c, (rd out j).d, (rd out j).e, x⟩).take (j + 1) = out.take j ++ [⟨(rd out j).a, (rd out j).b, (rd out j).c, (rd out j).d, (rd out j).e, x⟩] := by
  apply List.ext_getElem
  ·simp; omega
  ·intro n h1 h2
   simp only [List.getElem_take, List.getElem_set]
   by_cases e : j = n
   ·subst e
    rw [if_pos rfl, List.getElem_append_right (by simp only [List.length_take]; omega)]
    simp
   ·rw [if_neg e, List.getElem_append_left (by simp at h1 ⊢; omega), List.getElem_take]
 have e2 : (out.set j ⟨(rd out j).a, (rd out j).b, (rd out j).c, (rd out j).d, (rd out j).e, x⟩).drop (j + 1) = out.drop (j + 1) := by
  rw [List.drop_set]; rw [if_pos (by omega)]
 rw [e1, e2, List.append_assoc]; rfl
theorem v1k (last : List R4) (first : Int) (i : Nat) (hi : i + 1 < (Ye l m).length) : ∀ (k j : Nat) (out : List R6), j + k = out.length → out.length ≤ 10000000000 →
  ∃ n, ∀ N, Yu (Wd kind l m) (N + n) (.to (.h2 out last first (i : Int) (j : Int))) = Yu (Wd kind l m) N (.to (.h0 (w4l out j (rd (Ye l m) (i + 1))) last first ((i + 1 : Nat) : Int)))
 | 0, j, out, h, ho => by
  have hx := Uh l m
  refine ⟨1, fun N => ?_⟩
  have e : w4l out j (rd (Ye l m) (i + 1)) = out := by
   unfold w4l; rw [List.drop_eq_nil_of_le (by omega), List.map_nil, List.append_nil, List.take_of_length_le (by omega)]
  rw [e, Zw]
  simp (disch := omega) only [Wd, Zc, Zp, Zs, Zj, Zv, cond_false]
 | k + 1, j, out, h, ho => by
  have hx := Uh l m
  obtain ⟨n, hn⟩ := v1k last first i hi k (j + 1) (out.set j ⟨(rd out j).a, (rd out j).b, (rd out j).c, (rd out j).d, (rd out j).e, rd (Ye l m) (i + 1)⟩) (by simp; omega) (by simpa using ho)
  refine ⟨n + 1, fun N => ?_⟩
  have := hn N
  rw [w8m out j _ (by omega)] at this
  rw [← Nat.add_assoc, Zw]
  simp (disch := omega) only [Wd, Zc, Zp, Yv, Yj, Yd, Yp, Yf, Zt, Zj, Zv, Yi, Zk, Nat.zero_add, decide_true, Bool.and_true, Bool.true_and, cond_true]
  exact this
theorem x9y : ∀ (k i : Nat) (out : List R6) (last : List R4) (first : Nat), k = (Ye l m).length - 1 - i → i ≤ (Ye l m).length → out.length ≤ i * 400 → last.length ≤ 400 → first ≤ out.length →
  ∃ n, Yu (Wd kind l m) n (.to (.h0 out last (first : Int) (i : Int))) = .ret (x0z (jsF kind l m k i out last first))
 | 0, i, out, last, first, h, hi, ho, hla, hf => by
  have hx := Uh l m
  refine ⟨1, ?_⟩
  rw [Zw]
  simp (disch := omega) only [Wd, Zc, Zp, Zs, Zj, Zv, cond_false, Zm, jsF, x0z]
 | k + 1, i, out, last, first, h, hi, ho, hla, hf => by
  have hx := Uh l m
  have hi1 : i + 1 < (Ye l m).length := by omega
  have hbig : i * 400 ≤ 20000 * 400 := Nat.mul_le_mul_right _ (by omega)
  have a1 := fun z => Qs l z
  have a2 := fun z => Qs m z
  have w1 : ∀ z, z2l l z = true := fun z => decide_eq_true (by omega)
  have w2 : ∀ z, z2l m z = true := fun z => decide_eq_true (by omega)
  have w3 : ∀ k z, Qw k (atV l z) (atV m z) = true := fun k z => decide_eq_true (by have := a1 z; have := a2 z; omega)
  have w4 : ∀ k z, Qw k (atV l z) ([] : List R4) = true := fun k z => decide_eq_true (by have := a1 z; simp; omega)
  have w5 : ∀ k z, Qw k (atV m z) ([] : List R4) = true := fun k z => decide_eq_true (by have := a2 z; simp; omega)
  unfold jsF
  have eM : y1u kind l m (rd (Ye l m) i) = joV kind (atV l (rd (Ye l m) i)) (atV m (rd (Ye l m) i)) := rfl
  by_cases c1 : 400 < (y1u kind l m (rd (Ye l m) i)).length
  ·refine ⟨1, ?_⟩
   have hb : z3m kind l m (rd (Ye l m) i) = true := by unfold z3m; rw [decide_eq_true c1]; rfl
   rw [hb, cond_true, Zw]
   rw [eM] at c1
   simp (disch := omega) only [Wd, Zc, Zp, Yv, Yn, Yj, Zj, Zv, Zk, w1, w2, w3, w4, w5, Bool.and_true, cond_true, Zm, x0z]
  by_cases c2 : 400 < (joV 2 (atV l (rd (Ye l m) i)) []).length
  ·refine ⟨1, ?_⟩
   have hb : z3m kind l m (rd (Ye l m) i) = true := by unfold z3m; rw [decide_eq_true c2, Bool.true_or, Bool.or_true]
   rw [hb, cond_true, Zw]
   rw [eM] at c1
   simp (disch := omega) only [Wd, Zc, Zp, Yv, Yn, Yo, Yj, Zj, Zv, Zk, w1, w2, w3, w4, w5, Bool.and_true, cond_true, cond_false, Zm, x0z]
  by_cases c3 : 400 < (joV 2 (atV m (rd (Ye l m) i)) []).length
  ·refine ⟨1, ?_⟩
   have hb : z3m kind l m (rd (Ye l m) i) = true := by unfold z3m; rw [decide_eq_true c3, Bool.or_true, Bool.or_true]
   rw [hb, cond_true, Zw]
   rw [eM] at c1
   simp (disch := omega) only [Wd, Zc, Zp, Yv, Yn, Yo, Yj, Zj, Zv, Zk, w1, w2, w3, w4, w5, Bool.and_true, cond_true, cond_false, Zm, x0z]
  have hb : z3m kind l m (rd (Ye l m) i) = false := by unfold z3m; rw [decide_eq_false c1, decide_eq_false c2, decide_eq_false c3]; rfl
  rw [hb, cond_false]
  have w6 : Wc (joV kind (atV l (rd (Ye l m) i)) (atV m (rd (Ye l m) i))) last = true := decide_eq_true (by rw [← eM]; omega)
  rcases Zn (decide (0 < i) && Jx (y1u kind l m (rd (Ye l m) i)) last) with q | q
  ·obtain ⟨n3, h3⟩ := v1k kind l m hl hm last first i hi1 (out.length - first) first out (by omega) (by omega)
   obtain ⟨n0, h0⟩ := x9y k (i + 1) (w4l out first (rd (Ye l m) (i + 1))) last first (by omega) (by omega) (by simp [w4l]; omega) hla (by simp [w4l]; omega)
   refine ⟨n0 + n3 + 1, ?_⟩
   rw [q, cond_true, Zw]
   simp only [Bool.and_eq_true, decide_eq_true_eq] at q
   obtain ⟨q1, q2⟩ := q
   rw [eM] at c1 q2
   simp (disch := omega) only [Wd, Zc, Zp, Yv, Yn, Yo, Yj, Zj, Zv, Zk, w1, w2, w3, w4, w5, w6, q2, Bool.and_true, cond_true, cond_false]
   rw [h3 n0, h0]
  ·obtain ⟨n2, h2⟩ := v1l kind l m hl hm (y1u kind l m (rd (Ye l m) i)) (out.length : Int) i hi1 (y1u kind l m (rd (Ye l m) i)) (by omega) (y1u kind l m (rd (Ye l m) i)).length 0 out (Nat.zero_add _) (by omega)
   obtain ⟨n0, h0⟩ := x9y k (i + 1) (out ++ v6c (rd (Ye l m) i) (rd (Ye l m) (i + 1)) (y1u kind l m (rd (Ye l m) i))) (y1u kind l m (rd (Ye l m) i)) out.length (by omega) (by omega) (by simp [v6c]; omega) (by omega) (by simp)
   refine ⟨n0 + n2 + 1, ?_⟩
   rw [q, cond_false, Zw]
   have h2' := h2 n0
   simp only [List.drop_zero, z1p] at h2'
   have c1' := c1
   rw [eM] at c1'
   by_cases hi0 : 0 < i
   ·rw [decide_eq_true hi0, Bool.true_and, eM] at q
    simp (disch := omega) only [Wd, Zc, Zp, Yv, Yn, Yo, Yj, Zj, Zv, Zk, w1, w2, w3, w4, w5, w6, q, Bool.and_true, cond_true, cond_false]
    rw [← h0]; exact h2'
   ·simp (disch := omega) only [Wd, Zc, Zp, Yv, Yn, Yo, Yj, Zj, Zv, Zk, w1, w2, w3, w4, w5, w6, Bool.and_true, cond_true, cond_false]
    rw [← h0]; exact h2'
end
theorem v5i (kind : Int) (l m : List R6) (h : z2c kind l m = true) : ∃ N, Yu (Wd kind l m) N (z8f kind l m) = .ret (x0z (jsO kind l m)) := by
 obtain ⟨hl, hm⟩ := of_decide_eq_true h
 obtain ⟨N, hN⟩ := x9y kind l m hl hm ((Ye l m).length - 1) 0 [] [] 0 rfl (Nat.zero_le _) (Nat.zero_le _) (Nat.zero_le _) (Nat.le_refl _)
 refine ⟨N, ?_⟩
 have w1 : z5e l m = true := decide_eq_true ⟨by omega, by omega⟩
 simp only [z8f, Zc, Zp, w1, cond_true]
 exact hN
def fJs : List AVal → Option (AVal × Bool)
 | [.int .i64 x0, a1, a2] => match asL R6 a1, asL R6 a2 with
  | some (L1, g1, n1), some (L2, g2, n2) => some (.tup [.dat (Ue x0 L1 L2).length (Zz (Ue x0 L1 L2)), .bool (Qp x0 L1 L2)], isT R6 n1 g1 && (isT R6 n2 g2 && (z2c x0 L1 L2)))
  | _, _ => none
 | _ => none
theorem fJs_ok {S : Specs} (hS : Zu prog S) : Zu prog (S.with v2j fJs) := by
 refine w8i hS (by kernel_rfl) fun args v h => ?_
 unfold fJs at h
 split at h
 ·rename_i x0 a1 a2
  split at h
  ·rename_i L1 g1 n1 L2 g2 n2 e1 e2
   simp only [Option.some.injEq, Prod.mk.injEq, Bool.and_eq_true] at h
   obtain ⟨rfl, ho1, ho2, hw⟩ := h
   obtain ⟨N, hN⟩ := v5i x0 L1 L2 hw
   refine ⟨_, x0z (jsO x0 L1 L2), (.cons (.refl _) (.cons (asL_le e1 ho1) (.cons (asL_le e2 ho2) .nil))), ?_, w5z x0 L1 L2 N _ hN, 3, ?_⟩
   ·unfold Ue Qp
    cases jsO x0 L1 L2 with
    | none => exact fun ρ u hu => z1b (.cons (Kp R6) (RLe.refl _)) ρ u hu
    | some out => exact fun ρ u hu => hu
   ·cases jsO x0 L1 L2 <;> rfl
  ·cases h
 ·cases h
def T4 : Specs := T3.with v2j fJs
theorem T4_ok : Zu prog T4 := fJs_ok z6j
end Go.Am
namespace Go.Am
open Go.Proofs.Tryz
open Go.Proofs Go.Sort Go.Shelf Go.RowKit Go.Lib
def v8u (x : E3) : List Value := y3a x.1
theorem v8t (l : List R3) (h : y5i l = true) : Go.Sort.flatK v8u 3 (y5j l h).toArray = Go.Sort.flatK y3a 3 l.toArray := by
 have hl := Ui l h
 unfold Go.Sort.flatK
 rw [show (y5j l h).toArray.size = l.toArray.size by simpa using hl]
 apply Array.ext
 ·simp
 ·intro t h1 h2
  simp only [Array.getElem_map, Array.getElem_range]
  have ht : t < l.length * 3 := by simpa using h1
  have hq : t / 3 < l.length := by omega
  congr 1
  rw [getElem!_pos (y5j l h).toArray (t / 3) (by simpa [hl] using hq), getElem!_pos l.toArray (t / 3) (by simpa using hq)]
  unfold v8u
  congr 1
  have := z9a l h
  have e := congrArg (fun z : List R3 => z[t / 3]?) this
  simp only [List.getElem?_map] at e
  rw [List.getElem?_eq_getElem (by rw [hl]; exact hq), List.getElem?_eq_getElem hq] at e
  simpa using e
theorem w8e (d : Array E3) : Go.Sort.flatK v8u 3 d = Go.Sort.flatK y3a 3 (d.toList.map Subtype.val).toArray := by
 unfold Go.Sort.flatK
 rw [show d.size = (d.toList.map Subtype.val).toArray.size by simp]
 apply Array.ext
 ·simp
 ·intro t h1 h2
  simp only [Array.getElem_map, Array.getElem_range]
  have ht : t < d.size * 3 := by simpa using h1
  have hq : t / 3 < d.size := by omega
  congr 1
  rw [getElem!_pos d (t / 3) hq, getElem!_pos (d.toList.map Subtype.val).toArray (t / 3) (by simpa using hq)]
  simp [v8u]
theorem y7b (l : List R3) : y4i l.length (z3u (cvT l)).length = true := Jn (by
 rw [Zc]
 by_cases h : y5i l = true
 ·exact (Qb l h).1.length_eq.symm
 ·unfold z3u; rw [dif_neg h])
theorem isAgg3 : ∀ w, (isAgg (Tryz.sortEnd_ren.t 24)).run prog w = .ok true w := fun w => by rfl
theorem size3 : ∀ w, (Go.sizeOf (Tryz.sortEnd_ren.t 24)).run prog w = .ok 3 w := fun w => by rfl
theorem x8w : y8n prog v2f (x4o R3 z3u y5i x3u) := by
 refine w3d (fun L => ?_) (fun blk off cap L w hb hH eU hsz => ?_) fun p cap fv w => AnyF.slices_SortFunc_none Tryz.sortEnd p cap fv w
 ·by_cases h : y5i L = true
  ·exact (Qb L h).1.length_eq
  ·unfold z3u; rw [dif_neg h]
 ·have eg : ∀ args w, (callFunc 193 args).run prog w = .ok (.enter 193 args) w := enters_of Tryz.func193 (by kernel_rfl) rfl
  have hcmp : CmpLays prog 193 #[] v8u 3 cf3 blk off (y5j L hb).toArray.size w := fun m os dk _ x y => by
   have hx := of_decide_eq_true x.2
   have hy := of_decide_eq_true y.2
   exact Tryz.cmpEnd x.1.a x.1.b x.1.c y.1.a y.1.b y.1.c hx hy _
  have hH' : HoldsK v8u 3 w blk off (y5j L hb).toArray := by
   unfold HoldsK
   rw [v8t L hb]; exact hH
  have hcon := AnyQ.slices_SortFunc_eq Tryz.sortEnd 3 isAgg3 size3 v8u (fun x => y0w x.1) (fun x v hv => by
   obtain ⟨a, ha, rfl⟩ := List.mem_map.1 hv
   have : x1b a = true := List.all_eq_true.1 (v3r.num x.1) a ha
   cases a <;> first | rfl | (simp [x1b] at this; done)) cf3 swo3 193 #[] blk off cap (y5j L hb).toArray w eg hcmp hH' eU (by simpa [Ui] using hsz)
  have hs : (y5j L hb).toArray.size = L.length := by simp [Ui]
  rw [hs] at hcon
  refine Calls.mono hcon fun e w' ⟨he, n, os, hw⟩ => ⟨he, n, os, ?_⟩
  rw [hw]
  unfold sortWorldK putRowK
  rw [w8e]
  unfold z3u
  rw [dif_pos hb]
  rfl
def Wk (zs : List Int) : List Int := zs.mergeSort fun x y => decide (x ≤ y)
theorem x8v : y8n prog nSort (fRow Wk) :=
 v8v (fun zs => List.length_mergeSort zs) (fun blk off cap zs w hH hb hz => Tryz.slices_Sort_int blk off cap zs w hH hb hz) fun p cap w => Tryz.slices_Sort_int_none p cap w
def Vk (zs : List Int) : List Int := compact zs ++ List.replicate (zs.length - (compact zs).length) 0
def cmpN (zs : List Int) : Nat := (compact zs).length
theorem z0h (zs : List Int) : (Vk zs).length = zs.length := by have := compact_length_le zs; simp [Vk]; omega
theorem y0f (n : Nat) (c : Nat → Int) : y4i n (Vk (Yy n c)).length = true := Jn (by rw [z0h]; simp [Yy])
theorem w2n (w : World) : grow w #[] = w := by simp [grow]
theorem x2e : y8n prog x3w (fCut Vk cmpN) :=
 v8w (fun zs => by have := compact_length_le zs; simp [Vk]; omega) (fun zs => compact_length_le zs)
  (fun blk off cap zs w hH hb hz dP => (Tryz.slices_Compact_int blk off cap zs w hH (by omega) dP).mono fun e w' ⟨he, q, hw⟩ => ⟨he, q, #[], by rw [hw, w2n]; rfl⟩)
  fun p cap w => Tryz.slices_Compact_int_empty p cap w
def T5 : Specs := ((T4.withE v2f (x4o R3 z3u y5i x3u)).withE nSort (fRow Wk)).withE x3w (fCut Vk cmpN)
theorem Jt : Zu prog T5 := y3j (y3j (y3j T4_ok (by kernel_rfl) x8w) (by kernel_rfl) x8v) (by kernel_rfl) x2e
end Go.Am
namespace Go.Am
open Go.Proofs.Tryz
open Go.Proofs
-- h2: index into an array (choices [true, true, false, false])
-- h2: index into an array (choices [true, false, true, false, false])
-- h2: index into an array (choices [true, false, false, true, true, false, false])
-- h2: index into an array (choices [true, false, false, true, false, false, false])
-- h2: index into an array (choices [true, false, false, false, false, false])
inductive spmS where
 | h0 (v8 : Int)
 | h1 (v3 : List R3) (v17 : Int)
 | h2 (v5 : List R3) (v6 : Int) (v7 : Int) (aC : Int) (bT : Int) (aQ : Int) (aH : Bool) (aD : List R2)
def spmC (l0 : List R2) : spmS → Cfg
 | .h0 v8 => ⟨⟨19, 0, true⟩, none, (Za prog 195 [1, 0, 1, 0, 0] 0), none, (Zy prog 3), ⟨Yb [(0, (.dat l0.length (Zz l0))), (1, (.fn 188 [])), (7, (ii (l0.length : Int))), (8, (ii v8))], Vq [] 0, 0, [], true⟩, [⟨⟨9, 0, true⟩, (Vi prog 187 [1, 0] 2), (Za prog 187 [1, 0] 1), none, (Zy prog 3), Yb [(5, (.dat l0.length (Zz l0))), (6, (.fn 188 []))]⟩, ⟨⟨11, 0, true⟩, (Vi prog 174 [1, 1, 0, 0] 1), (Za prog 174 [1, 1, 0, 0] 1), none, (Zy prog 77), Yb [(0, (.dat l0.length (Zz l0))), (7, (.dat l0.length (Zz l0)))]⟩], .leaf⟩
 | .h1 v3 v17 => ⟨⟨38, 0, true⟩, none, (Za prog 185 [1, 1, 0, 1, 0, 0, 1, 1, 0, 0, 1, 1, 0, 0] 0), none, (Zy prog 15), ⟨Yb [(3, (.sla 7 3 0 v3.length (.un 3))), (4, (ii 0)), (8, (.sl 0 0 2 (.un 1))), (9, (ii 2)), (10, (ii 0)), (15, (.dat l0.length (Zz l0))), (16, (ii (l0.length : Int))), (17, (ii v17))], Vq [⟨[(.dat l0.length (Zz l0)), .nils], 158, none⟩, ⟨[(.fn 189 [])], 198, none⟩, ⟨[(ii 0), (ii 0)], 235, none⟩, ⟨[.nils], 158, none⟩, ⟨[(ii 0)], 3, none⟩, ⟨[(.bool false)], 4, none⟩, ⟨[(.fn 184 [(.ptr 5 0), (.ptr 4 0), (.ptr 3 0)])], 236, none⟩, ⟨rows v3.length (Zz v3), 240, some ⟨3, v3.length, (Zz v3)⟩⟩] 0, 8, [], true⟩, [⟨⟨42, 0, true⟩, (Vi prog 170 [1, 1, 1, 1, 1, 0, 0] 3), (Za prog 170 [1, 1, 1, 1, 1, 0, 0] 1), none, (Zy prog 4), Yb [(5, (.ptr 1 0)), (6, .nils), (7, (.ptr 2 0)), (8, (.ptr 3 0)), (9, (.ptr 4 0)), (10, (.ptr 5 0)), (11, (.ptr 6 0)), (16, (.sl 0 0 2 (.un 1)))]⟩, ⟨⟨11, 0, true⟩, (Vi prog 174 [1, 1, 1, 0] 1), (Za prog 174 [1, 1, 1, 0] 1), none, (Zy prog 77), Yb [(9, (.dat l0.length (Zz l0)))]⟩], .leaf⟩
 | .h2 v5 v6 v7 aC bT aQ aH aD => ⟨⟨16, 0, true⟩, none, (Za prog 197 [1, 0, 0] 0), none, [], ⟨Yb [(0, (.yld 0)), (5, (.sla 7 3 0 v5.length (.un 3))), (6, (ii v6)), (7, (ii v7))], y6x [(1, ⟨[(.fn 189 [])], 198, none⟩), (2, ⟨[(ii aC), (ii bT)], 235, none⟩), (3, ⟨[(ii aQ)], 3, none⟩), (4, ⟨[(.bool aH)], 4, none⟩), (5, ⟨[(.fn 184 [(.ptr 4 0), (.ptr 3 0), (.ptr 6 0)])], 236, none⟩), (6, ⟨[(.sla 8 2 0 aD.length (.un 2))], 158, none⟩), (7, ⟨rows v5.length (Zz v5), 240, some ⟨3, v5.length, (Zz v5)⟩⟩), (8, ⟨rows aD.length (Zz aD), 110, some ⟨2, aD.length, (Zz aD)⟩⟩)], 9, [], true⟩, [⟨⟨42, 0, true⟩, none, (.inRangeFunc 0 :: (Za prog 170 [1, 1, 1, 1, 1, 0, 1, 0] 1)), none, (Zy prog 4), Yb [(6, .nils), (8, (.ptr 6 0))]⟩, ⟨⟨11, 0, true⟩, (Vi prog 174 [1, 1, 1, 0] 1), (Za prog 174 [1, 1, 1, 0] 1), none, (Zy prog 77), Yb [(9, (.dat l0.length (Zz l0)))]⟩], (y6y [(0, ⟨.ready, none, 42, Yb [(5, (.ptr 1 0)), (7, (.ptr 2 0)), (9, (.ptr 3 0)), (10, (.ptr 4 0)), (11, (.ptr 5 0))], [18], (Vm prog 170 [1, 1, 1, 1, 1, 0, 1, 0, 0]), (Vm prog 170 [1, 1, 1, 1, 1, 0, 1, 0, 1])⟩)])⟩
def spmN0 : List (Option (List Nat)) := [some [0, 1, 7, 8], some [5, 6], some [0, 7]]
def spmM0 : List (Option (List Nat)) := []
def x8t : List (Option (List Nat)) := [some [3, 4, 8, 9, 10, 15, 16, 17], some [5, 6, 7, 8, 9, 10, 11, 16], some [9]]
def x8u : List (Option (List Nat)) := []
def z9i : List (Option (List Nat)) := [some [0, 5, 6, 7], some [6, 8], some [9]]
def z9j : List (Option (List Nat)) := [some [5, 7, 9, 10, 11], none, none, none, none, none, none, none, none]
def Wt (l0 : List R2) : spmS → Xj spmS
 | .h0 v8 => (bif (decide (v8 < (l0.length : Int))) then (bif ((decide (0 ≤ v8 ∧ v8 < (l0.length : Int))) && true) then (bif (decide ((rd l0 v8.toNat).a < (rd l0 v8.toNat).b)) then (bif (decide ((rd l0 v8.toNat).a ≥ (-1000000))) then (bif (!(decide ((rd l0 v8.toNat).b ≤ 1000000))) then (bif (decide (v8 ≥ 0)) then (.ret [.nils, (.int .i64 8)]) else (.to (.h1 ([] : List R3) 0))) else (.to (.h0 (IntKind.wrap .i64 (v8 + 1))))) else (bif (decide (v8 ≥ 0)) then (.ret [.nils, (.int .i64 8)]) else (.to (.h1 ([] : List R3) 0)))) else (bif (decide (v8 ≥ 0)) then (.ret [.nils, (.int .i64 8)]) else (.to (.h1 ([] : List R3) 0)))) else .stuck) else (.to (.h1 ([] : List R3) 0)))
 | .h1 v3 v17 => (bif (decide (v17 < (l0.length : Int))) then (bif ((decide (0 ≤ v17 ∧ v17 < (l0.length : Int))) && true) then (bif (Nat.beq 3 3 && ((decide (0 + v3.length = v3.length)) && decide ((v3.length + 2 + 1) * (24 + 1) ≤ Kd))) then (.to (.h1 (v3 ++ [(R3.mk (rd l0 v17.toNat).a 0 1), (R3.mk (rd l0 v17.toNat).b 0 (-1))]) (IntKind.wrap .i64 (v17 + 1)))) else .stuck) else .stuck) else (bif (y5i (cvT v3)) then (bif (decide (v3.length < 4611686018427387904)) then (bif (decide (v3.length = v3.length)) then (.to (.h2 (z3u (cvT v3)) (v3.length : Int) 0 0 0 0 false ([] : List R2))) else .stuck) else .stuck) else .stuck))
 | .h2 v5 v6 v7 aC bT aQ aH aD => (bif (decide (v7 < v6)) then (bif ((decide (0 ≤ v7 ∧ v7 < (v5.length : Int))) && true) then (bif (decide ((0 + v7.toNat) < v5.length)) then (bif (!aH) then (bif (decide ((rd v5 (0 + v7.toNat)).b = Int.ofNat 0)) then (.to (.h2 v5 v6 (IntKind.wrap .i64 (v7 + 1)) (IntKind.wrap .i64 (aC + (rd v5 (0 + v7.toNat)).c)) bT (rd v5 (0 + v7.toNat)).a (x4k (decide ((IntKind.wrap .i64 (aC + (rd v5 (0 + v7.toNat)).c)) > 0)) (decide (bT > 0))) aD)) else (bif (decide ((rd v5 (0 + v7.toNat)).b = Int.ofNat 1)) then (.to (.h2 v5 v6 (IntKind.wrap .i64 (v7 + 1)) aC (IntKind.wrap .i64 (bT + (rd v5 (0 + v7.toNat)).c)) (rd v5 (0 + v7.toNat)).a (x4k (decide (aC > 0)) (decide ((IntKind.wrap .i64 (bT + (rd v5 (0 + v7.toNat)).c)) > 0))) aD)) else .stuck)) else (bif (aQ == (rd v5 (0 + v7.toNat)).a) then (bif (decide ((rd v5 (0 + v7.toNat)).b = Int.ofNat 0)) then (.to (.h2 v5 v6 (IntKind.wrap .i64 (v7 + 1)) (IntKind.wrap .i64 (aC + (rd v5 (0 + v7.toNat)).c)) bT (rd v5 (0 + v7.toNat)).a (x4k (decide ((IntKind.wrap .i64 (aC + (rd v5 (0 + v7.toNat)).c)) > 0)) (decide (bT > 0))) aD)) else (bif (decide ((rd v5 (0 + v7.toNat)).b = Int.ofNat 1)) then (.to (.h2 v5 v6 (IntKind.wrap .i64 (v7 + 1)) aC (IntKind.wrap .i64 (bT + (rd v5 (0 + v7.toNat)).c)) (rd v5 (0 + v7.toNat)).a (x4k (decide (aC > 0)) (decide ((IntKind.wrap .i64 (bT + (rd v5 (0 + v7.toNat)).c)) > 0))) aD)) else .stuck)) else (bif (decide ((aD.length : Int) > 0)) then (bif ((decide (0 ≤ (IntKind.wrap .i64 ((aD.length : Int) - 1)) ∧ (IntKind.wrap .i64 ((aD.length : Int) - 1)) < (aD.length : Int))) && true) then (bif (decide ((0 + (Int.toNat (IntKind.wrap .i64 ((aD.length : Int) - 1)))) < aD.length)) then (bif ((rd aD (0 + (Int.toNat (IntKind.wrap .i64 ((aD.length : Int) - 1))))).b == aQ) then (bif (decide ((rd v5 (0 + v7.toNat)).b = Int.ofNat 0)) then (.to (.h2 v5 v6 (IntKind.wrap .i64 (v7 + 1)) (IntKind.wrap .i64 (aC + (rd v5 (0 + v7.toNat)).c)) bT (rd v5 (0 + v7.toNat)).a (x4k (decide ((IntKind.wrap .i64 (aC + (rd v5 (0 + v7.toNat)).c)) > 0)) (decide (bT > 0))) (aD.set (0 + (Int.toNat (IntKind.wrap .i64 ((aD.length : Int) - 1)))) (R2.mk (rd aD (0 + (Int.toNat (IntKind.wrap .i64 ((aD.length : Int) - 1))))).a (rd v5 (0 + v7.toNat)).a)))) else (bif (decide ((rd v5 (0 + v7.toNat)).b = Int.ofNat 1)) then (.to (.h2 v5 v6 (IntKind.wrap .i64 (v7 + 1)) aC (IntKind.wrap .i64 (bT + (rd v5 (0 + v7.toNat)).c)) (rd v5 (0 + v7.toNat)).a (x4k (decide (aC > 0)) (decide ((IntKind.wrap .i64 (bT + (rd v5 (0 + v7.toNat)).c)) > 0))) (aD.set (0 + (Int.toNat (IntKind.wrap .i64 ((aD.length : Int) - 1)))) (R2.mk (rd aD (0 + (Int.toNat (IntKind.wrap .i64 ((aD.length : Int) - 1))))).a (rd v5 (0 + v7.toNat)).a)))) else .stuck)) else (bif (Nat.beq 2 2 && ((decide (0 + aD.length = aD.length)) && decide ((aD.length + 1 + 1) * (16 + 1) ≤ Kd))) then (bif (decide ((rd v5 (0 + v7.toNat)).b = Int.ofNat 0)) then (.to (.h2 v5 v6 (IntKind.wrap .i64 (v7 + 1)) (IntKind.wrap .i64 (aC + (rd v5 (0 + v7.toNat)).c)) bT (rd v5 (0 + v7.toNat)).a (x4k (decide ((IntKind.wrap .i64 (aC + (rd v5 (0 + v7.toNat)).c)) > 0)) (decide (bT > 0))) (aD ++ [(R2.mk aQ (rd v5 (0 + v7.toNat)).a)]))) else (bif (decide ((rd v5 (0 + v7.toNat)).b = Int.ofNat 1)) then (.to (.h2 v5 v6 (IntKind.wrap .i64 (v7 + 1)) aC (IntKind.wrap .i64 (bT + (rd v5 (0 + v7.toNat)).c)) (rd v5 (0 + v7.toNat)).a (x4k (decide (aC > 0)) (decide ((IntKind.wrap .i64 (bT + (rd v5 (0 + v7.toNat)).c)) > 0))) (aD ++ [(R2.mk aQ (rd v5 (0 + v7.toNat)).a)]))) else .stuck)) else .stuck)) else .stuck) else .stuck) else (bif (Nat.beq 2 2 && ((decide (0 + aD.length = aD.length)) && decide ((aD.length + 1 + 1) * (16 + 1) ≤ Kd))) then (bif (decide ((rd v5 (0 + v7.toNat)).b = Int.ofNat 0)) then (.to (.h2 v5 v6 (IntKind.wrap .i64 (v7 + 1)) (IntKind.wrap .i64 (aC + (rd v5 (0 + v7.toNat)).c)) bT (rd v5 (0 + v7.toNat)).a (x4k (decide ((IntKind.wrap .i64 (aC + (rd v5 (0 + v7.toNat)).c)) > 0)) (decide (bT > 0))) (aD ++ [(R2.mk aQ (rd v5 (0 + v7.toNat)).a)]))) else (bif (decide ((rd v5 (0 + v7.toNat)).b = Int.ofNat 1)) then (.to (.h2 v5 v6 (IntKind.wrap .i64 (v7 + 1)) aC (IntKind.wrap .i64 (bT + (rd v5 (0 + v7.toNat)).c)) (rd v5 (0 + v7.toNat)).a (x4k (decide (aC > 0)) (decide ((IntKind.wrap .i64 (bT + (rd v5 (0 + v7.toNat)).c)) > 0))) (aD ++ [(R2.mk aQ (rd v5 (0 + v7.toNat)).a)]))) else .stuck)) else .stuck)))) else .stuck) else .stuck) else (.ret [(.dat aD.length (Zz aD)), (.int .i64 0)]))
def z7t (l0 : List R2) : Xj spmS := (bif (decide ((l0.length : Int) > 400)) then (.ret [.nils, (.int .i64 4)]) else (.to (.h0 0)))
theorem x5g (l0 : List R2) : ∀ s, Xd prog (Zy prog 174) (spmC l0) (spmC l0 s) (Wt l0 s)
 | .h0 v8 => (lb (fun k0 => (lo fun aF => (lb (fun k1 => (lb (fun k2 => (lb (fun k3 => (lb (fun k4 => (lr 11 174 [1, 1, 0, 1, 0, 0] 1 77 [(2, .nils), (3, (ii 8))] (sl Jt 79 [] ⟨[], [], [some [2, 3]], []⟩ ⟨[], [], []⟩ (trs 9 []) (tt k4 (tt k3 (tt k2 (tt k1 (ww aF (tt k0 nn))))))))) (fun k4 => (sl Jt 154 [(240, 3, Zz ([] : List R3))] ⟨[8, 2, 3, 4, 5, 6, 7, 9], [], x8t, x8u⟩ ⟨[(3, .grow 7 3)], [], []⟩ (trs 8 [false, true]) (pp (fl ([] : List R3) nn) (tt k4 (tt k3 (tt k2 (tt k1 (ww aF (tt k0 nn))))))))))) (fun k3 => (sl Jt 69 [] ⟨[], [], spmN0, spmM0⟩ ⟨[], [], []⟩ (trs 7 [false]) (tt k3 (tt k2 (tt k1 (ww aF (tt k0 nn))))))))) (fun k2 => (lb (fun k3 => (lr 11 174 [1, 1, 0, 1, 0, 0] 1 77 [(2, .nils), (3, (ii 8))] (sl Jt 79 [] ⟨[], [], [some [2, 3]], []⟩ ⟨[], [], []⟩ (trs 4 [false, false, false, true, true]) (tt k3 (tt k2 (tt k1 (ww aF (tt k0 nn)))))))) (fun k3 => (sl Jt 154 [(240, 3, Zz ([] : List R3))] ⟨[8, 2, 3, 4, 5, 6, 7, 9], [], x8t, x8u⟩ ⟨[(3, .grow 7 3)], [], []⟩ (trs 4 [false, false, false, true, false, true]) (pp (fl ([] : List R3) nn) (tt k3 (tt k2 (tt k1 (ww aF (tt k0 nn)))))))))))) (fun k1 => (lb (fun k2 => (lr 11 174 [1, 1, 0, 1, 0, 0] 1 77 [(2, .nils), (3, (ii 8))] (sl Jt 79 [] ⟨[], [], [some [2, 3]], []⟩ ⟨[], [], []⟩ [true, false, false, false, false, false, false, true, true] (tt k2 (tt k1 (ww aF (tt k0 nn))))))) (fun k2 => (sl Jt 154 [(240, 3, Zz ([] : List R3))] ⟨[8, 2, 3, 4, 5, 6, 7, 9], [], x8t, x8u⟩ ⟨[(3, .grow 7 3)], [], []⟩ [true, false, false, false, false, false, false, true, false, true] (pp (fl ([] : List R3) nn) (tt k2 (tt k1 (ww aF (tt k0 nn)))))))))))) (fun k0 => (sl Jt 98 [(240, 3, Zz ([] : List R3))] ⟨[6, 0, 1, 2, 3, 4, 5, 7], [], x8t, x8u⟩ ⟨[(3, .grow 7 3)], [], []⟩ [false, false, true] (pp (fl ([] : List R3) nn) (tt k0 nn)))))
 | .h1 v3 v17 => (lb (fun k0 => (lo fun o0 => (lo fun o1 => (sl Jt 36 [] ⟨[0, 1, 2, 3, 4, 5, 6, 10], [], x8t, x8u⟩ ⟨[(3, .len (v3 ++ [(R3.mk (rd l0 (tn v17)).a 0 1), (R3.mk (rd l0 (tn v17)).b 0 (-1))]).length)], (kpB 7 [.rowed 3 (v3 ++ [(R3.mk (rd l0 (tn v17)).a 0 1), (R3.mk (rd l0 (tn v17)).b 0 (-1))]).length (Zz (v3 ++ [(R3.mk (rd l0 (tn v17)).a 0 1), (R3.mk (rd l0 (tn v17)).b 0 (-1))]))]), []⟩ [true] (pp (xL (v3.length + 2) (v3 ++ [(R3.mk (rd l0 (tn v17)).a 0 1), (R3.mk (rd l0 (tn v17)).b 0 (-1))]).length) (pp (xL (v3.length + 2) (v3 ++ [(R3.mk (rd l0 (tn v17)).a 0 1), (R3.mk (rd l0 (tn v17)).b 0 (-1))]).length) (pp (xS (v3.length + 2) (Zh (Zz v3) 0 v3.length 3 [(ii (rd l0 (tn v17)).a), (ii 0), (ii 1), (ii (rd l0 (tn v17)).b), (ii 0), (ii (-1))]) (Zz (v3 ++ [(R3.mk (rd l0 (tn v17)).a 0 1), (R3.mk (rd l0 (tn v17)).b 0 (-1))]))) (pp (pp (xF (Zh (Zz v3) 0 v3.length 3 [(ii (rd l0 (tn v17)).a), (ii 0), (ii 1), (ii (rd l0 (tn v17)).b), (ii 0), (ii (-1))])) nn) (ww o1 (ww o0 (tt k0 nn))))))))))) (fun k0 => (lo fun o0 => (lo fun o1 => (lo fun o2 => (sl Jt 92 [(110, 2, Zz ([] : List R2))] ⟨[9, 1, 2, 4, 5, 6, 3, 7, 10], [], z9i, z9j⟩ ⟨[(5, .len (z3u (cvT v3)).length)], (kpB 6 [.cells [.grow 8 2], .rowed 3 (z3u (cvT v3)).length (Zz (z3u (cvT v3))), .keep]), []⟩ [false, true, false, false] (pp (xL v3.length (z3u (cvT v3)).length (by first | exact y7b _ | exact Jn rfl)) (pp (xL v3.length (z3u (cvT v3)).length (by first | exact y7b _ | exact Jn rfl)) (pp (xS v3.length (Zz (z3u (cvT v3))) (Zz (z3u (cvT v3)))) (pp (fl (z3u (cvT v3)) (fl ([] : List R2) nn)) (pp (pp (xG (Nat.beq 3 3)) (pp (xG (Nat.beq 3 3)) (pp (xG (Nat.beq 0 0)) (pp (pp (xG (decide (v3.length = v3.length))) (pp (xr v3) (xG (decide (v3.length < 4611686018427387904))))) (xG (y5i (cvT v3))))))) (tt k0 nn))))))))))))
 | .h2 v5 v6 v7 aC bT aQ aH aD => (lb (fun k0 => (lo fun aF => (lo fun bC => (lb (fun k1 => (lb (fun k2 => (sl Jt 62 [] ⟨(List.range 9), [], z9i, z9j⟩ ⟨[], [], []⟩ (trs 5 [false, false, false]) (pp (fl v5 (fl aD nn)) (ww k2 (tt k1 (ww bC (ww aF (tt k0 nn)))))))) (fun k2 => (lb (fun k3 => (sl Jt 62 [] ⟨(List.range 9), [], z9i, z9j⟩ ⟨[], [], []⟩ (trs 6 [false, true, false, false]) (pp (fl v5 (fl aD nn)) (ww k3 (tt k1 (ww bC (ww aF (tt k0 nn)))))))) (fun k3 => trivial))))) (fun k1 => (lb (fun k2 => (lb (fun k3 => (sl Jt 62 [] ⟨(List.range 9), [], z9i, z9j⟩ ⟨[], [], []⟩ [true, false, false, false, true, false, false, false] (pp (fl v5 (fl aD nn)) (ww k3 (tt k2 (tt k1 (ww bC (ww aF (tt k0 nn))))))))) (fun k3 => (lb (fun k4 => (sl Jt 62 [] ⟨(List.range 9), [], z9i, z9j⟩ ⟨[], [], []⟩ [true, false, false, false, true, true, false, true, false, false] (pp (fl v5 (fl aD nn)) (ww k4 (tt k2 (tt k1 (ww bC (ww aF (tt k0 nn))))))))) (fun k4 => trivial))))) (fun k2 => (lb (fun k3 => (lo fun cT => (lo fun dG => (lb (fun k4 => (lb (fun k5 => (sl Jt 81 [] ⟨(List.range 9), [], z9i, z9j⟩ ⟨[], (kpB 6 [.cells [.len (aD.set (0 + (tn (wr ((aD.length : Int) - 1)))) (R2.mk (rd aD (0 + (tn (wr ((aD.length : Int) - 1))))).a (rd v5 (0 + (tn v7))).a)).length], .keep, .rowed 2 (aD.set (0 + (tn (wr ((aD.length : Int) - 1)))) (R2.mk (rd aD (0 + (tn (wr ((aD.length : Int) - 1))))).a (rd v5 (0 + (tn v7))).a)).length (Zz (aD.set (0 + (tn (wr ((aD.length : Int) - 1)))) (R2.mk (rd aD (0 + (tn (wr ((aD.length : Int) - 1))))).a (rd v5 (0 + (tn v7))).a)))]), []⟩ [true, false, false, false, false, true, true, true, true, true, true, true, true, true, false, false, false] (pp (xL aD.length (aD.set (0 + (tn (wr ((aD.length : Int) - 1)))) (R2.mk (rd aD (0 + (tn (wr ((aD.length : Int) - 1))))).a (rd v5 (0 + (tn v7))).a)).length) (pp (xL aD.length (aD.set (0 + (tn (wr ((aD.length : Int) - 1)))) (R2.mk (rd aD (0 + (tn (wr ((aD.length : Int) - 1))))).a (rd v5 (0 + (tn v7))).a)).length) (pp (xS aD.length (Xr (Zz aD) (0 + (tn (wr ((aD.length : Int) - 1)))) 1 [(ii (rd v5 (0 + (tn v7))).a)]) (Zz (aD.set (0 + (tn (wr ((aD.length : Int) - 1)))) (R2.mk (rd aD (0 + (tn (wr ((aD.length : Int) - 1))))).a (rd v5 (0 + (tn v7))).a)))) (pp (fl v5 (pp (xF (Xr (Zz aD) (0 + (tn (wr ((aD.length : Int) - 1)))) 1 [(ii (rd v5 (0 + (tn v7))).a)])) nn)) (ww k5 (ww dG (ww cT (tt k4 (ww dG (ww cT (tt k3 (tt k2 (tt k1 (ww bC (ww aF (tt k0 nn)))))))))))))))))) (fun k5 => (lb (fun k6 => (sl Jt 81 [] ⟨(List.range 9), [], z9i, z9j⟩ ⟨[], (kpB 6 [.cells [.len (aD.set (0 + (tn (wr ((aD.length : Int) - 1)))) (R2.mk (rd aD (0 + (tn (wr ((aD.length : Int) - 1))))).a (rd v5 (0 + (tn v7))).a)).length], .keep, .rowed 2 (aD.set (0 + (tn (wr ((aD.length : Int) - 1)))) (R2.mk (rd aD (0 + (tn (wr ((aD.length : Int) - 1))))).a (rd v5 (0 + (tn v7))).a)).length (Zz (aD.set (0 + (tn (wr ((aD.length : Int) - 1)))) (R2.mk (rd aD (0 + (tn (wr ((aD.length : Int) - 1))))).a (rd v5 (0 + (tn v7))).a)))]), []⟩ [true, false, false, false, false, true, true, true, true, true, true, true, true, true, true, false, true, false, false] (pp (xL aD.length (aD.set (0 + (tn (wr ((aD.length : Int) - 1)))) (R2.mk (rd aD (0 + (tn (wr ((aD.length : Int) - 1))))).a (rd v5 (0 + (tn v7))).a)).length) (pp (xL aD.length (aD.set (0 + (tn (wr ((aD.length : Int) - 1)))) (R2.mk (rd aD (0 + (tn (wr ((aD.length : Int) - 1))))).a (rd v5 (0 + (tn v7))).a)).length) (pp (xS aD.length (Xr (Zz aD) (0 + (tn (wr ((aD.length : Int) - 1)))) 1 [(ii (rd v5 (0 + (tn v7))).a)]) (Zz (aD.set (0 + (tn (wr ((aD.length : Int) - 1)))) (R2.mk (rd aD (0 + (tn (wr ((aD.length : Int) - 1))))).a (rd v5 (0 + (tn v7))).a)))) (pp (fl v5 (pp (xF (Xr (Zz aD) (0 + (tn (wr ((aD.length : Int) - 1)))) 1 [(ii (rd v5 (0 + (tn v7))).a)])) nn)) (ww k6 (ww dG (ww cT (tt k4 (ww dG (ww cT (tt k3 (tt k2 (tt k1 (ww bC (ww aF (tt k0 nn)))))))))))))))))) (fun k6 => trivial))))) (fun k4 => (lo fun dH => (lb (fun k5 => (sl Jt 81 [] ⟨[0, 1, 2, 3, 4, 5, 6, 7, 12], [], z9i, z9j⟩ ⟨[], (kpB 6 [.cells [.len (aD ++ [(R2.mk aQ (rd v5 (0 + (tn v7))).a)]).length], .keep, .rowed 2 (aD ++ [(R2.mk aQ (rd v5 (0 + (tn v7))).a)]).length (Zz (aD ++ [(R2.mk aQ (rd v5 (0 + (tn v7))).a)]))]), []⟩ [true, false, false, false, false, true, true, true, true, true, true, true, true, false, false, false, false] (pp (xL (aD.length + 1) (aD ++ [(R2.mk aQ (rd v5 (0 + (tn v7))).a)]).length) (pp (xL (aD.length + 1) (aD ++ [(R2.mk aQ (rd v5 (0 + (tn v7))).a)]).length) (pp (xS (aD.length + 1) (Zh (Zz aD) 0 aD.length 2 [(ii aQ), (ii (rd v5 (0 + (tn v7))).a)]) (Zz (aD ++ [(R2.mk aQ (rd v5 (0 + (tn v7))).a)]))) (pp (fl v5 (pp (xF (Zh (Zz aD) 0 aD.length 2 [(ii aQ), (ii (rd v5 (0 + (tn v7))).a)])) nn)) (ww k5 (ww dH (tt k4 (ww dG (ww cT (tt k3 (tt k2 (tt k1 (ww bC (ww aF (tt k0 nn))))))))))))))))) (fun k5 => (lb (fun k6 => (sl Jt 81 [] ⟨[0, 1, 2, 3, 4, 5, 6, 7, 12], [], z9i, z9j⟩ ⟨[], (kpB 6 [.cells [.len (aD ++ [(R2.mk aQ (rd v5 (0 + (tn v7))).a)]).length], .keep, .rowed 2 (aD ++ [(R2.mk aQ (rd v5 (0 + (tn v7))).a)]).length (Zz (aD ++ [(R2.mk aQ (rd v5 (0 + (tn v7))).a)]))]), []⟩ [true, false, false, false, false, true, true, true, true, true, true, true, true, false, true, false, true, false, false] (pp (xL (aD.length + 1) (aD ++ [(R2.mk aQ (rd v5 (0 + (tn v7))).a)]).length) (pp (xL (aD.length + 1) (aD ++ [(R2.mk aQ (rd v5 (0 + (tn v7))).a)]).length) (pp (xS (aD.length + 1) (Zh (Zz aD) 0 aD.length 2 [(ii aQ), (ii (rd v5 (0 + (tn v7))).a)]) (Zz (aD ++ [(R2.mk aQ (rd v5 (0 + (tn v7))).a)]))) (pp (fl v5 (pp (xF (Zh (Zz aD) 0 aD.length 2 [(ii aQ), (ii (rd v5 (0 + (tn v7))).a)])) nn)) (ww k6 (ww dH (tt k4 (ww dG (ww cT (tt k3 (tt k2 (tt k1 (ww bC (ww aF (tt k0 nn))))))))))))))))) (fun k6 => trivial)))))))))) (fun k3 => (lo fun cT => (lb (fun k4 => (sl Jt 81 [] ⟨[0, 1, 2, 3, 4, 5, 6, 7, 12], [], z9i, z9j⟩ ⟨[], (kpB 6 [.cells [.len (aD ++ [(R2.mk aQ (rd v5 (0 + (tn v7))).a)]).length], .keep, .rowed 2 (aD ++ [(R2.mk aQ (rd v5 (0 + (tn v7))).a)]).length (Zz (aD ++ [(R2.mk aQ (rd v5 (0 + (tn v7))).a)]))]), []⟩ [true, false, false, false, false, false, false, false, false, false, false, false, false, false, false, false, false] (pp (xL (aD.length + 1) (aD ++ [(R2.mk aQ (rd v5 (0 + (tn v7))).a)]).length) (pp (xL (aD.length + 1) (aD ++ [(R2.mk aQ (rd v5 (0 + (tn v7))).a)]).length) (pp (xS (aD.length + 1) (Zh (Zz aD) 0 aD.length 2 [(ii aQ), (ii (rd v5 (0 + (tn v7))).a)]) (Zz (aD ++ [(R2.mk aQ (rd v5 (0 + (tn v7))).a)]))) (pp (fl v5 (pp (xF (Zh (Zz aD) 0 aD.length 2 [(ii aQ), (ii (rd v5 (0 + (tn v7))).a)])) nn)) (ww k4 (ww cT (tt k3 (tt k2 (tt k1 (ww bC (ww aF (tt k0 nn)))))))))))))) (fun k4 => (lb (fun k5 => (sl Jt 81 [] ⟨[0, 1, 2, 3, 4, 5, 6, 7, 12], [], z9i, z9j⟩ ⟨[], (kpB 6 [.cells [.len (aD ++ [(R2.mk aQ (rd v5 (0 + (tn v7))).a)]).length], .keep, .rowed 2 (aD ++ [(R2.mk aQ (rd v5 (0 + (tn v7))).a)]).length (Zz (aD ++ [(R2.mk aQ (rd v5 (0 + (tn v7))).a)]))]), []⟩ [true, false, false, false, false, false, false, false, false, false, false, false, false, false, true, false, true, false, false] (pp (xL (aD.length + 1) (aD ++ [(R2.mk aQ (rd v5 (0 + (tn v7))).a)]).length) (pp (xL (aD.length + 1) (aD ++ [(R2.mk aQ (rd v5 (0 + (tn v7))).a)]).length) (pp (xS (aD.length + 1) (Zh (Zz aD) 0 aD.length 2 [(ii aQ), (ii (rd v5 (0 + (tn v7))).a)]) (Zz (aD ++ [(R2.mk aQ (rd v5 (0 + (tn v7))).a)]))) (pp (fl v5 (pp (xF (Zh (Zz aD) 0 aD.length 2 [(ii aQ), (ii (rd v5 (0 + (tn v7))).a)])) nn)) (ww k5 (ww cT (tt k3 (tt k2 (tt k1 (ww bC (ww aF (tt k0 nn)))))))))))))) (fun k5 => trivial)))))))))))))) (fun k0 => (lr 11 3 [1, 1, 1, 1, 1, 1, 0] 1 77 [(2, (.dat aD.length (Zz aD))), (3, (ii 0))] (sl Jt 19 [] ⟨[], [8], [some [2, 3]], []⟩ ⟨[(2, .frz aD.length aD.length (Zz aD) (Zz aD))], [], []⟩ [false] (pp (xZ (z8r 2 2 0 aD.length aD.length (Zz aD)) aD.length (Zz aD)) (pp (xL aD.length aD.length) (pp (xS aD.length (Zz aD) (Zz aD)) (pp (fl aD nn) (tt k0 nn)))))))))
theorem y9d (l0 : List R2) : Xd prog (Zy prog 174) (spmC l0) (Zg prog 174 [(.dat l0.length (Zz l0))] true []) (z7t l0) := (lb (fun k0 => (lr 11 174 [1, 0, 1, 0, 0] 1 77 [(2, .nils), (3, (ii 4))] (sl Jt 18 [] ⟨[], [], [some [2, 3]], []⟩ ⟨[], [], []⟩ [true] (tt k0 nn)))) (fun k0 => (sl Jt 41 [] ⟨[], [], spmN0, spmM0⟩ ⟨[], [], []⟩ [false] (tt k0 nn))))
theorem w4x (l0 : List R2) (n : Nat) (vs : List AVal) (h : Yu (Wt l0) n (z7t l0) = .ret vs) : Ur prog (Zy prog 174) (Zg prog 174 [(.dat l0.length (Zz l0))] true []) vs := by
 have := Ze (x5g l0) n _ (y9d l0)
 rwa [h] at this
end Go.Am
namespace Go.Am
open Go.Proofs
def z7e (s : R2) : Bool := decide (s.a < s.b) && (decide (s.a ≥ -1000000) && decide (s.b ≤ 1000000))
def Ua (l : List R2) : List R3 := l.flatMap fun s => [⟨s.a, 0, 1⟩, ⟨s.b, 0, -1⟩]
def Qu (out : List R2) (last : Int) (inn : Bool) (at' : Int) : List R2 :=
 bif !inn then out else bif last == at' then out else
 bif decide (0 < out.length) && ((rd out (out.length - 1)).b == last) then out.set (out.length - 1) ⟨(rd out (out.length - 1)).a, at'⟩ else out ++ [⟨last, at'⟩]
def swF : List R3 → Int → Int → Bool → List R2 → List R2
 | [], _, _, _, out => out
 | e :: r, o, last, inn, out => swF r (o + e.c) e.a (decide (o + e.c > 0)) (Qu out last inn e.a)
def swV (l : List R2) : List R2 := swF (z3u (Ua l)) 0 0 false []
def Xw (l : List R2) : List R2 := bif decide (400 < l.length) then [] else bif l.all z7e then swV l else []
def v0h (l : List R2) : Int := bif decide (400 < l.length) then 4 else bif l.all z7e then 0 else 8
def z9h (l : List R2) : Bool := true
def y5p (l : List R2) : List AVal := bif decide (400 < l.length) then [.nils, .int .i64 4] else bif l.all z7e then [.dat (swV l).length (Zz (swV l)), .int .i64 0] else [.nils, .int .i64 8]
theorem z1n (l : List R2) : (Ua l).length = 2 * l.length := by
 induction l with
 | nil => rfl
 | cons r l ih => show (_ :: _ :: Ua l).length = _; simp only [List.length_cons, ih]; omega
theorem z5f (out : List R2) (last : Int) (inn : Bool) (a : Int) : (Qu out last inn a).length ≤ out.length + 1 := by
 unfold Qu
 cases inn <;> simp only [Bool.not_true, Bool.not_false, cond_true, cond_false]
 ·omega
 ·cases (last == a) <;> simp only [cond_true, cond_false]
  ·cases (decide (0 < out.length) && ((rd out (out.length - 1)).b == last)) <;> simp
  ·omega
theorem z7s (e : R3) (r : List R3) (o last : Int) (inn : Bool) (out : List R2) : swF (e :: r) o last inn out = swF r (o + e.c) e.a (decide (o + e.c > 0)) (Qu out last inn e.a) := rfl
theorem v6k {a : Int} (k : Nat) (h : a = (k : Int)) : decide (a = Int.ofNat k) = true := decide_eq_true h
section
variable (l : List R2) (hl : l.length ≤ 400)
include hl
theorem v0e (L : List R3) (hL : L.length ≤ 800) (hE : ∀ i, i < L.length → (rd L i).b = 0 ∧ ((rd L i).c = 1 ∨ (rd L i).c = -1)) : ∀ (k i : Nat) (o last : Int) (inn : Bool) (out : List R2), i + k = L.length → -(i : Int) ≤ o → o ≤ i → out.length ≤ i →
  ∃ n, Yu (Wt l) n (.to (.h2 L (L.length : Int) (i : Int) o 0 last inn out)) = .ret [.dat (swF (L.drop i) o last inn out).length (Zz (swF (L.drop i) o last inn out)), .int .i64 0]
 | 0, i, o, last, inn, out, h, ho1, ho2, hout => by
  have _uhl := hl
  refine ⟨1, ?_⟩
  rw [Zw, List.drop_eq_nil_of_le (by omega)]
  simp (disch := omega) only [Wt, Zs, cond_false, Zm, swF]
 | k + 1, i, o, last, inn, out, h, ho1, ho2, hout => by
  obtain ⟨hb, hc⟩ := hE i (by omega)
  have hcl := z5f out last inn (rd L i).a
  obtain ⟨n, hn⟩ := v0e L hL hE k (i + 1) (o + (rd L i).c) (rd L i).a (decide (o + (rd L i).c > 0)) (Qu out last inn (rd L i).a) (by omega) (by rcases hc with hc | hc <;> omega) (by rcases hc with hc | hc <;> omega) (by omega)
  refine ⟨n + 1, ?_⟩
  rw [Yg (show i < L.length by omega), Zw]
  have hf : ∀ b, x4k b (decide ((0 : Int) > 0)) = b := fun b => rfl
  have hw : IntKind.wrap .i64 (o + (rd L i).c) = o + (rd L i).c := Zj (by rcases hc with hc | hc <;> omega)
  rw [z7s]
  have hf' : ∀ b, x4k b false = b := fun b => rfl
  have hz := v6k 0 hb
  unfold Qu at hn ⊢
  cases inn with
  | false =>
   simp only [Bool.not_false, cond_true] at hn ⊢
   simp (disch := omega) only [Wt, Bool.not_false, hz, hw, hf, hf', Yv, Yj, Yd, Zj, Zv, Zk, Nat.zero_add, Bool.and_true, cond_true]
   exact hn
  | true =>
   simp only [Bool.not_true, cond_false] at hn ⊢
   rcases Zn (last == (rd L i).a) with q | q
   ·rw [q] at hn ⊢
    simp only [cond_true] at hn ⊢
    simp (disch := omega) only [Wt, Bool.not_true, q, hz, hw, hf, hf', Yv, Yj, Yd, Zj, Zv, Zk, Nat.zero_add, Bool.and_true, cond_true, cond_false]
    exact hn
   ·rw [q] at hn ⊢
    simp only [cond_false] at hn ⊢
    by_cases h0 : 0 < out.length
    ·rw [decide_eq_true h0, Bool.true_and] at hn ⊢
     rcases Zn ((rd out (out.length - 1)).b == last) with q2 | q2
     ·rw [q2] at hn ⊢
      simp only [cond_true] at hn ⊢
      simp (disch := omega) only [Wt, Bool.not_true, q, q2, hz, hw, hf, hf', Yv, Yn, Yj, Yd, Zj, Zv, Zk, Zd, Nat.zero_add, Bool.and_true, cond_true, cond_false]
      exact hn
     ·rw [q2] at hn ⊢
      simp only [cond_false] at hn ⊢
      simp (disch := omega) only [Wt, Bool.not_true, q, q2, hz, hw, hf, hf', Yv, Yn, Yj, Yd, Yf, Zt, Yi, decide_true, Zj, Zv, Zk, Zd, Nat.zero_add, Bool.and_true, Bool.true_and, cond_true, cond_false]
      exact hn
    ·rw [decide_eq_false h0, Bool.false_and] at hn ⊢
     simp only [cond_false] at hn ⊢
     simp (disch := omega) only [Wt, Bool.not_true, q, hz, hw, hf, hf', Yv, Yo, Yj, Yd, Yf, Zt, Yi, decide_true, Zj, Zv, Zk, Nat.zero_add, Bool.and_true, Bool.true_and, cond_true, cond_false]
     exact hn
theorem w3c (h : l.all z7e = true) : ∀ e ∈ Ua l, bnd3 e = true ∧ e.b = 0 ∧ (e.c = 1 ∨ e.c = -1) := by
 have _uhl := hl
 intro e he
 obtain ⟨s, hs, h1⟩ := List.mem_flatMap.1 he
 have hv := List.all_eq_true.1 h s hs
 simp only [z7e, Bool.and_eq_true, decide_eq_true_eq] at hv
 simp only [List.mem_cons, List.not_mem_nil, or_false] at h1
 rcases h1 with rfl | rfl
 ·exact ⟨decide_eq_true (by simp only; omega), rfl, .inl rfl⟩
 ·exact ⟨decide_eq_true (by simp only; omega), rfl, .inr rfl⟩
theorem v0f (hv : l.all z7e = true) : ∀ (k i : Nat) (acc : List R3), i + k = l.length → acc = Ua (l.take i) → ∃ n, Yu (Wt l) n (.to (.h1 acc (i : Int))) = .ret [.dat (swV l).length (Zz (swV l)), .int .i64 0]
 | 0, i, acc, h, ha => by
  have e : acc = Ua l := by rw [ha, List.take_of_length_le (by omega)]
  subst e
  have hle := z1n l
  have eL := w3c l hl hv
  have hb : y5i (Ua l) = true := List.all_eq_true.2 fun e he => (eL e he).1
  obtain ⟨hp, _⟩ := Qb (Ua l) hb
  have hpl := hp.length_eq
  obtain ⟨n, hn⟩ := v0e l hl (z3u (Ua l)) (by omega) (fun i hi => by
   rw [Xa hi]
   exact (eL _ (hp.mem_iff.1 (List.getElem_mem hi))).2) (z3u (Ua l)).length 0 0 0 false [] (Nat.zero_add _) (by omega) (by omega) (Nat.zero_le _)
  refine ⟨n + 1, ?_⟩
  rw [Zw]
  simp (disch := omega) only [Wt, Zc, Zp, hb, Zs, Yd, Yf, decide_true, cond_true, cond_false]
  rw [← hpl]
  simp only [z1p, List.drop_zero] at hn
  exact hn
 | k + 1, i, acc, h, ha => by
  have hle := z1n (l.take i)
  have fK : acc.length ≤ 2 * i := by rw [ha, hle]; simp; omega
  obtain ⟨n, hn⟩ := v0f hv k (i + 1) (acc ++ Ua [rd l i]) (by omega) (by
   rw [ha, List.take_add_one]
   have : l[i]? = some (rd l i) := by rw [Xa (show i < l.length by omega)]; exact List.getElem?_eq_getElem _
   rw [this]
   simp [Ua])
  refine ⟨n + 1, ?_⟩
  rw [Zw]
  simp (disch := omega) only [Wt, Yv, Yj, Yp, Yf, Zt, Yi, decide_true, Zj, Zv, Zk, Nat.zero_add, Bool.and_true, Bool.true_and, cond_true]
  exact hn
theorem v0g : ∀ (k i : Nat), i + k = l.length → (∀ s ∈ l.take i, z7e s = true) → ∃ n, Yu (Wt l) n (.to (.h0 (i : Int))) = .ret (bif l.all z7e then [.dat (swV l).length (Zz (swV l)), .int .i64 0] else [.nils, .int .i64 8])
 | 0, i, h, ht => by
  have hv : l.all z7e = true := List.all_eq_true.2 fun s hs => ht s (by rw [List.take_of_length_le (by omega)]; exact hs)
  obtain ⟨n, hn⟩ := v0f l hl hv l.length 0 [] (Nat.zero_add _) rfl
  refine ⟨n + 1, ?_⟩
  rw [Zw, hv, cond_true]
  simp (disch := omega) only [Wt, Zs, cond_false]
  exact hn
 | k + 1, i, h, ht => by
  have hi : i < l.length := by omega
  rcases Zn (z7e (rd l i)) with q | q
  ·obtain ⟨n, hn⟩ := v0g k (i + 1) (by omega) (fun s hs => by
    rw [List.take_add_one] at hs
    have e : l[i]? = some (rd l i) := by rw [Xa hi]; exact List.getElem?_eq_getElem _
    rw [e] at hs
    simp only [Option.toList_some, List.mem_append, List.mem_singleton] at hs
    rcases hs with hs | rfl
    ·exact ht s hs
    ·exact q)
   refine ⟨n + 1, ?_⟩
   rw [Zw]
   simp only [z7e, Bool.and_eq_true, decide_eq_true_eq] at q
   simp (disch := omega) only [Wt, Yv, Xx, w8y, Yj, Zj, Zv, Zk, Bool.not_true, Bool.and_true, cond_true, cond_false]
   exact hn
  ·have hv : l.all z7e = false := Bool.eq_false_iff.2 fun e => by
    have := List.all_eq_true.1 e (rd l i) (by rw [Xa hi]; exact List.getElem_mem hi)
    rw [this] at q; cases q
   refine ⟨1, ?_⟩
   rw [Zw, hv, cond_false]
   unfold z7e at q
   rcases Zn (decide ((rd l i).a < (rd l i).b)) with q1 | q1 <;> rcases Zn (decide ((rd l i).a ≥ -1000000)) with q2 | q2 <;> rcases Zn (decide ((rd l i).b ≤ 1000000)) with q3 | q3 <;>
    rw [q1, q2, q3] at q <;> first
    | (exfalso; revert q; decide)
    | simp (disch := omega) only [Wt, q1, q2, q3, Yv, w8y, Yj, Zj, Zv, Zk, Bool.not_true, Bool.not_false, Bool.and_true, cond_true, cond_false, Zm]
end
theorem v4e (l : List R2) : ∃ n, Yu (Wt l) n (z7t l) = .ret (y5p l) := by
 unfold z7t y5p
 by_cases h : 400 < l.length
 ·refine ⟨0, ?_⟩
  rw [decide_eq_true h, Yn (show (l.length : Int) > 400 by omega)]; rfl
 ·obtain ⟨n, hn⟩ := v0g l (by omega) l.length 0 (Nat.zero_add _) (fun s hs => by simp at hs)
  refine ⟨n, ?_⟩
  rw [decide_eq_false h, Yo (show ¬ (l.length : Int) > 400 by omega), cond_false, cond_false]
  exact hn
end Go.Am
namespace Go.Am
open Go.Proofs.Tryz
open Go.Proofs
def fSpm : List AVal → Option (AVal × Bool)
 | [a1] => match asL R2 a1 with
  | some (L1, g1, n1) => some (.tup [.dat (Xw L1).length (Zz (Xw L1)), .int .i64 (v0h L1)], isT R2 n1 g1 && z9h L1)
  | _ => none
 | _ => none
theorem v7n {S : Specs} (hS : Zu prog S) : Zu prog (S.with y6r fSpm) := by
 refine w8i hS (by kernel_rfl) fun args v h => ?_
 unfold fSpm at h
 split at h
 ·rename_i a1
  split at h
  ·rename_i L1 g1 n1 e1
   simp only [Option.some.injEq, Prod.mk.injEq, Bool.and_eq_true] at h
   obtain ⟨rfl, ho1, hw⟩ := h
   obtain ⟨N, hN⟩ := v4e L1
   refine ⟨_, y5p L1, (.cons (asL_le e1 ho1) .nil), ?_, w4x L1 N _ hN, 3, ?_⟩
   ·unfold Xw v0h y5p
    cases decide (400 < L1.length) <;> simp only [cond_true, cond_false]
    ·cases L1.all z7e <;> simp only [cond_true, cond_false]
     ·exact fun ρ u hu => z1b (.cons (Kp R2) (RLe.refl _)) ρ u hu
     ·exact fun ρ u hu => hu
    ·exact fun ρ u hu => z1b (.cons (Kp R2) (RLe.refl _)) ρ u hu
   ·unfold y5p
    cases decide (400 < L1.length) <;> simp only [cond_true, cond_false]
    ·cases L1.all z7e <;> rfl
    ·rfl
  ·cases h
 ·cases h
def T6 : Specs := T5.with y6r fSpm
theorem Um : Zu prog T6 := v7n Jt
end Go.Am
namespace Go.Am
open Go.Proofs Go.Sort Go.Shelf Go.RowKit Go.Lib
theorem x2k {γ : Type} (a b : Bool) (x y : γ) : (bif a && b then x else y) = bif a then (bif b then x else y) else y := by cases a <;> rfl
theorem y4x {γ : Type} (a : Bool) (x y : γ) : (bif !a then x else y) = bif a then y else x := by cases a <;> rfl
structure Dim (α β : Type) where
 lo : α → Int
 hi : α → Int
 pr : α → β
 put : Int → Int → β → α
 ext : Int → α → α
 mak : List β → List β
 same : List β → List β → Bool
structure Sw (α β : Type) where
 out : List α
 last : List β
 first : Nat
 fin : Int
def Ja (zs : List Int) : List Int := compact (Wk zs)
theorem x2f (zs : List Int) : cmpN (Wk zs) = (Ja zs).length := rfl
theorem Kw (zs : List Int) : (Wk zs).length = zs.length := List.length_mergeSort zs
theorem y4t (zs : List Int) : (Ja zs).length ≤ zs.length := by
 have := compact_length_le (Wk zs)
 rw [Kw] at this
 exact this
theorem y2l (zs : List Int) (i : Nat) (h : i < (Ja zs).length) : rd (Vk (Wk zs)) i = rd (Ja zs) i := by
 change i < (compact (Wk zs)).length at h
 show rd (compact (Wk zs) ++ _) i = rd (compact (Wk zs)) i
 rw [Xa (by rw [List.length_append]; exact Nat.lt_add_right _ h), Xa h, List.getElem_append_left h]
theorem z5v (zs : List Int) : Yy zs.length (cOf (Zz (Wk zs))) = Wk zs := by
 have := z0l (Wk zs)
 rw [Kw] at this
 exact this
namespace Dim
variable {α β : Type} (D : Dim α β) (l : List α)
def ends : List Int := l.flatMap fun r => [D.lo r, D.hi r]
def cuts : List Int := Ja (D.ends l)
def inn (x : Int) : List β := (l.filter fun r => decide (D.lo r ≤ x) && decide (x < D.hi r)).map D.pr
def sec (x : Int) : List β := D.mak (D.inn l x)
def grow (out : List α) (k : Nat) (x : Int) : List α := out.take k ++ (out.drop k).map (D.ext x)
def one (x x' : Int) (s : Sw α β) : Sw α β :=
 bif decide (0 < (D.sec l x).length) && ((s.fin == x) && D.same s.last (D.sec l x)) then ⟨D.grow s.out s.first x', s.last, s.first, x'⟩
 else ⟨s.out ++ (D.sec l x).map (D.put x x'), D.sec l x, s.out.length, x'⟩
def go : Nat → Nat → Sw α β → Sw α β
 | 0, _, s => s
 | k + 1, i, s => go k (i + 1) (D.one l (rd (D.cuts l) i) (rd (D.cuts l) (i + 1)) s)
def out : List α := (D.go l ((D.cuts l).length - 1) 0 ⟨[], [], 0, 0⟩).out
theorem ends_length : (D.ends l).length = 2 * l.length := by
 induction l with
 | nil => rfl
 | cons r l ih => show (_ :: _ :: D.ends l).length = _; simp only [List.length_cons, ih]; omega
theorem cuts_length : (D.cuts l).length ≤ 2 * l.length := by
 have := y4t (D.ends l)
 rw [D.ends_length] at this
 exact this
theorem ends_append (m : List α) : D.ends (l ++ m) = D.ends l ++ D.ends m := by simp [ends]
theorem inn_append (m : List α) (x : Int) : D.inn (l ++ m) x = D.inn l x ++ D.inn m x := by simp [inn]
theorem inn_length (x : Int) : (D.inn l x).length ≤ l.length := by simpa [inn] using List.length_filter_le _ l
theorem inn_t (r : α) (x : Int) (h1 : D.lo r ≤ x) (h2 : x < D.hi r) : D.inn [r] x = [D.pr r] := by simp [inn, h1, h2]
theorem inn_f1 (r : α) (x : Int) (h1 : ¬ D.lo r ≤ x) : D.inn [r] x = [] := by simp [inn, h1]
theorem inn_f2 (r : α) (x : Int) (h1 : ¬ x < D.hi r) : D.inn [r] x = [] := by simp [inn, h1]
theorem grow_nil (out : List α) (k : Nat) (x : Int) (h : out.length ≤ k) : D.grow out k x = out := by
 unfold grow; rw [List.drop_eq_nil_of_le h, List.map_nil, List.append_nil, List.take_of_length_le h]
theorem grow_length (out : List α) (k : Nat) (x : Int) : (D.grow out k x).length = out.length := by
 unfold grow; simp; omega
theorem grow_set [Xz α] (out : List α) (j : Nat) (x : Int) (h : j < out.length) : D.grow (out.set j (D.ext x (rd out j))) (j + 1) x = D.grow out j x := by
 unfold grow
 rw [Yg h, List.map_cons]
 have e1 : (out.set j (D.ext x (rd out j))).take (j + 1) = out.take j ++ [D.ext x (rd out j)] := by
  apply List.ext_getElem
  ·simp; omega
  ·intro n h1 h2
   simp only [List.getElem_take, List.getElem_set]
   by_cases e : j = n
   ·subst e
    rw [if_pos rfl, List.getElem_append_right (by simp only [List.length_take]; omega)]
    simp
   ·rw [if_neg e, List.getElem_append_left (by simp at h1 ⊢; omega), List.getElem_take]
 have e2 : (out.set j (D.ext x (rd out j))).drop (j + 1) = out.drop (j + 1) := by
  rw [List.drop_set]; rw [if_pos (by omega)]
 rw [e1, e2, List.append_assoc]; rfl
theorem one_length (x x' : Int) (s : Sw α β) : (D.one l x x' s).out.length ≤ s.out.length + (D.sec l x).length := by
 unfold one
 cases (decide (0 < (D.sec l x).length) && ((s.fin == x) && D.same s.last (D.sec l x))) <;> simp [grow_length]
end Dim
end Go.Am
namespace Go.Am
open Go.Proofs.Tryz
open Go.Proofs
inductive vl4S where
def vl4C (aM : Int) (aK : Int) (aI : Int) (aO : Int) : vl4S → Cfg
 := nofun
def y8t (aM : Int) (aK : Int) (aI : Int) (aO : Int) : vl4S → Xj vl4S
 := nofun
def z7r (aM : Int) (aK : Int) (aI : Int) (aO : Int) : Xj vl4S := (bif (decide (aM < aI)) then (bif (decide (aK < aO)) then (bif (decide (aM ≥ (-1000000))) then (bif (decide (aM ≤ 1000000)) then (bif (decide (aI ≥ (-1000000))) then (bif (decide (aI ≤ 1000000)) then (bif (decide (aK ≥ (-1000000))) then (bif (decide (aK ≤ 1000000)) then (bif (decide (aO ≥ (-1000000))) then (.ret [(.bool (decide (aO ≤ 1000000)))]) else (.ret [(.bool false)])) else (.ret [(.bool false)])) else (.ret [(.bool false)])) else (.ret [(.bool false)])) else (.ret [(.bool false)])) else (.ret [(.bool false)])) else (.ret [(.bool false)])) else (.ret [(.bool false)])) else (.ret [(.bool false)]))
theorem x4z (aM : Int) (aK : Int) (aI : Int) (aO : Int) : ∀ s, Xd prog (Zy prog 153) (vl4C aM aK aI aO) (vl4C aM aK aI aO s) (y8t aM aK aI aO s)
 := nofun
theorem y8u (aM : Int) (aK : Int) (aI : Int) (aO : Int) : Xd prog (Zy prog 153) (vl4C aM aK aI aO) (Zg prog 153 [(.agg [(.int .i64 aM), (.int .i64 aK), (.int .i64 aI), (.int .i64 aO)])] true []) (z7r aM aK aI aO) := (lb (fun k0 => (lb (fun k1 => (lb (fun k2 => (lb (fun k3 => (lb (fun k4 => (lb (fun k5 => (lb (fun k6 => (lb (fun k7 => (lb (fun k8 => (lr 35 3 [1, 1, 1, 1, 1, 1, 0] 1 15 [(2, (.bool (decide (aO ≤ 1000000))))] (sl Um 101 [] ⟨[], [], [some [2]], []⟩ ⟨[], [], []⟩ (trs 25 []) (tt k8 (tt k7 (tt k6 (tt k5 (tt k4 (tt k3 (tt k2 (tt k1 (tt k0 nn)))))))))))) (fun k8 => (lr 35 3 [1, 1, 1, 1, 1, 1, 0] 1 15 [(2, (.bool false))] (sl Um 101 [] ⟨[], [], [some [2]], []⟩ ⟨[], [], []⟩ (trs 23 [false, false]) (tt k8 (tt k7 (tt k6 (tt k5 (tt k4 (tt k3 (tt k2 (tt k1 (tt k0 nn)))))))))))))) (fun k7 => (lr 35 3 [1, 1, 1, 1, 1, 1, 0] 1 15 [(2, (.bool false))] (sl Um 86 [] ⟨[], [], [some [2]], []⟩ ⟨[], [], []⟩ (trs 20 [false, false, false]) (tt k7 (tt k6 (tt k5 (tt k4 (tt k3 (tt k2 (tt k1 (tt k0 nn))))))))))))) (fun k6 => (lr 35 3 [1, 1, 1, 1, 1, 1, 0] 1 15 [(2, (.bool false))] (sl Um 86 [] ⟨[], [], [some [2]], []⟩ ⟨[], [], []⟩ (trs 18 [false, false, false, false, false]) (tt k6 (tt k5 (tt k4 (tt k3 (tt k2 (tt k1 (tt k0 nn)))))))))))) (fun k5 => (lr 35 3 [1, 1, 1, 1, 1, 1, 0] 1 15 [(2, (.bool false))] (sl Um 71 [] ⟨[], [], [some [2]], []⟩ ⟨[], [], []⟩ (trs 15 [false, false, false, false, false, false]) (tt k5 (tt k4 (tt k3 (tt k2 (tt k1 (tt k0 nn))))))))))) (fun k4 => (lr 35 3 [1, 1, 1, 1, 1, 1, 0] 1 15 [(2, (.bool false))] (sl Um 71 [] ⟨[], [], [some [2]], []⟩ ⟨[], [], []⟩ (trs 13 [false, false, false, false, false, false, false, false]) (tt k4 (tt k3 (tt k2 (tt k1 (tt k0 nn)))))))))) (fun k3 => (lr 35 3 [1, 1, 1, 1, 1, 1, 0] 1 15 [(2, (.bool false))] (sl Um 56 [] ⟨[], [], [some [2]], []⟩ ⟨[], [], []⟩ (trs 10 [false, false, false, false, false, false, false, false, false]) (tt k3 (tt k2 (tt k1 (tt k0 nn))))))))) (fun k2 => (lr 35 3 [1, 1, 1, 1, 1, 1, 0] 1 15 [(2, (.bool false))] (sl Um 56 [] ⟨[], [], [some [2]], []⟩ ⟨[], [], []⟩ (trs 8 [false, false, false, false, false, false, false, false, false, false, false]) (tt k2 (tt k1 (tt k0 nn)))))))) (fun k1 => (lr 35 3 [1, 1, 1, 1, 1, 1, 0] 1 15 [(2, (.bool false))] (sl Um 41 [] ⟨[], [], [some [2]], []⟩ ⟨[], [], []⟩ (trs 5 [false, false, false, false, false, false, false, false, false, false, false, false]) (tt k1 (tt k0 nn))))))) (fun k0 => (lr 35 3 [1, 1, 1, 1, 1, 1, 0] 1 15 [(2, (.bool false))] (sl Um 41 [] ⟨[], [], [some [2]], []⟩ ⟨[], [], []⟩ [false, false, false, false, false, false, false, false, false, false, false, false, false, false, false, false, false] (tt k0 nn)))))
theorem w4u (aM : Int) (aK : Int) (aI : Int) (aO : Int) (n : Nat) (vs : List AVal) (h : Yu (y8t aM aK aI aO) n (z7r aM aK aI aO) = .ret vs) : Ur prog (Zy prog 153) (Zg prog 153 [(.agg [(.int .i64 aM), (.int .i64 aK), (.int .i64 aI), (.int .i64 aO)])] true []) vs := by
 have := Ze (x4z aM aK aI aO) n _ (y8u aM aK aI aO)
 rwa [h] at this
inductive madS where
 | h0 (v16 : Int) (aC : List Int)
 | h1 (v4 : Int) (aE : List R4) (bR : List R2) (bU : Int) (bV : Int) (aV : Nat) (aZ : List Int)
 | h2 (v4 : Int) (v38 : Int) (aE : List R4) (bR : List R2) (bU : Int) (bV : Int) (aV : Nat) (aZ : List Int) (aD : Int) (cL : Int) (aL : List R2)
 | h3 (v1 : Int) (v2 : Int) (v71 : List R2) (v72 : Int) (v73 : Int) (bX : List R2) (aY : Int) (aA : List R4) (aN : List R2) (aR : Int) (aV : Nat) (aZ : List Int) (aD : List R2)
 | h4 (v2 : Int) (v8 : Int) (cS : Int) (bX : List R2) (aY : Int) (aA : List R4) (aN : List R2) (aR : Int) (bB : Int) (cJ : Nat) (cQ : List Int) (aL : List R2)
def madC (l0 : List R4) : madS → Cfg
 | .h0 v16 aC => ⟨⟨34, 0, true⟩, none, (Za prog 173 [1, 1, 0, 1, 0, 0, 1, 1, 0, 0, 1, 1, 0, 0] 0), none, (Zy prog 15), ⟨Yb [(1, (.ptr 0 0)), (3, (.ptr 2 0)), (8, (.sl 1 0 1 (.un 1))), (9, (ii 1)), (10, (ii 0)), (14, (.dat l0.length (Zz l0))), (15, (ii (l0.length : Int))), (16, (ii v16))], Vq [⟨[(.sl 1 0 1 (.un 1))], 173, none⟩, ⟨[(.dat l0.length (Zz l0))], 105, none⟩, ⟨[(.sla 4 1 0 aC.length (.un 1))], 47, none⟩, ⟨[.nils, .nils, (ii 0), (ii 0)], 188, none⟩, ⟨rows aC.length (Zz aC), 3, some ⟨1, aC.length, (Zz aC)⟩⟩] 0, 5, [], true⟩, [⟨⟨29, 0, true⟩, (Vi prog 154 [1, 1, 0, 0] 2), (Za prog 154 [1, 1, 0, 0] 1), none, (Zy prog 77), Yb [(2, .nils), (3, (ii 0)), (4, (.ptr 3 0)), (9, (.sl 1 0 1 (.un 1)))]⟩], .leaf⟩
 | .h1 v4 aE bR bU bV aV aZ => ⟨⟨76, 0, true⟩, none, (Za prog 186 [1, 0, 0] 0), none, [], ⟨Yb [(0, (.yld 0)), (1, (.ptr 2 0)), (2, (.ptr 4 0)), (4, (ii v4))], y6x [(1, ⟨[(.sla 6 4 0 aE.length (.un 4)), (.dat bR.length (Zz bR)), (ii bU), (ii bV)], 188, none⟩), (2, ⟨[(.sla 3 1 0 aV (.un 1))], 47, none⟩), (3, ⟨rows aZ.length (Zz aZ), 3, some ⟨1, aZ.length, (Zz aZ)⟩⟩), (4, ⟨[(.sl 5 0 1 (.un 1))], 173, none⟩), (5, ⟨[(.dat l0.length (Zz l0))], 105, none⟩), (6, ⟨rows aE.length (Zz aE), 114, some ⟨4, aE.length, (Zz aE)⟩⟩)], 7, [], true⟩, [⟨⟨29, 0, true⟩, none, (.inRangeFunc 0 :: (Za prog 154 [1, 1, 0, 1, 0] 1)), none, (Zy prog 77), Yb [(2, .nils), (3, (ii 0)), (4, (.ptr 1 0))]⟩], (y6y [(0, ⟨.ready, none, 29, Yb [(4, (.ptr 1 0))], [11], (Vm prog 154 [1, 1, 0, 1, 0, 0]), (Vm prog 154 [1, 1, 0, 1, 0, 1])⟩)])⟩
 | .h2 v4 v38 aE bR bU bV aV aZ aD cL aL => ⟨⟨76, 0, true⟩, none, (Za prog 186 [1, 0, 0, 1, 0, 0, 1, 0, 1, 0, 0, 1, 1, 0, 0, 1, 1, 0, 0] 0), none, [], ⟨Yb [(0, (.yld 0)), (1, (.ptr 2 0)), (2, (.ptr 4 0)), (4, (ii v4)), (5, (.ptr 6 0)), (6, (ii 0)), (29, (.sl 5 0 1 (.un 1))), (30, (ii 1)), (31, (ii 0)), (36, (.dat l0.length (Zz l0))), (37, (ii (l0.length : Int))), (38, (ii v38))], y6x [(1, ⟨[(.sla 9 4 0 aE.length (.un 4)), (.dat bR.length (Zz bR)), (ii bU), (ii bV)], 188, none⟩), (2, ⟨[(.sla 3 1 0 aV (.un 1))], 47, none⟩), (3, ⟨rows aZ.length (Zz aZ), 3, some ⟨1, aZ.length, (Zz aZ)⟩⟩), (4, ⟨[(.sl 5 0 1 (.un 1))], 173, none⟩), (5, ⟨[(.dat l0.length (Zz l0))], 105, none⟩), (6, ⟨[(ii aD), (ii cL), (.sl 7 0 1 (.ex 1))], 193, none⟩), (7, ⟨[(.sla 8 2 0 aL.length (.un 2))], 158, none⟩), (8, ⟨rows aL.length (Zz aL), 110, some ⟨2, aL.length, (Zz aL)⟩⟩), (9, ⟨rows aE.length (Zz aE), 114, some ⟨4, aE.length, (Zz aE)⟩⟩)], 10, [], true⟩, [⟨⟨29, 0, true⟩, none, (.inRangeFunc 0 :: (Za prog 154 [1, 1, 0, 1, 0] 1)), none, (Zy prog 77), Yb [(2, .nils), (3, (ii 0)), (4, (.ptr 1 0))]⟩], (y6y [(0, ⟨.ready, none, 29, Yb [(4, (.ptr 1 0))], [11], (Vm prog 154 [1, 1, 0, 1, 0, 0]), (Vm prog 154 [1, 1, 0, 1, 0, 1])⟩)])⟩
 | .h3 v1 v2 v71 v72 v73 bX aY aA aN aR aV aZ aD => ⟨⟨94, 0, true⟩, none, (Za prog 146 [1, 1, 1, 0, 0] 0), none, [], ⟨Yb [(0, (.ptr 0 0)), (1, (ii v1)), (2, (ii v2)), (71, (.dat v71.length (Zz v71))), (72, (ii v72)), (73, (ii v73))], y6x [(0, ⟨[(.sla 7 4 0 aA.length (.un 4)), (.dat aN.length (Zz aN)), (ii aR), (ii v2)], 188, none⟩), (2, ⟨[(.sla 3 1 0 aV (.un 1))], 47, none⟩), (3, ⟨rows aZ.length (Zz aZ), 3, some ⟨1, aZ.length, (Zz aZ)⟩⟩), (4, ⟨[(.sl 5 0 1 (.un 1))], 173, none⟩), (5, ⟨[(.dat l0.length (Zz l0))], 105, none⟩), (6, ⟨[(.dat aD.length (Zz aD))], 158, none⟩), (7, ⟨rows aA.length (Zz aA), 114, some ⟨4, aA.length, (Zz aA)⟩⟩)], 8, [], true⟩, [⟨⟨29, 0, true⟩, (Vi prog 154 [1, 1, 0, 1, 0, 1, 0, 1] 5), (Za prog 154 [1, 1, 0, 1, 0, 1, 0, 1] 1), (some 1), [], Yb [(4, (.ptr 0 0)), (21, (ii v1)), (23, (ii v2)), (24, (.dat bX.length (Zz bX)))]⟩, ⟨⟨76, 0, true⟩, (Vi prog 186 [1, 0, 0, 1, 0, 0, 1, 1, 0] 2), (Za prog 186 [1, 0, 0, 1, 0, 0, 1, 1, 0] 1), none, [], Yb [(0, (.yld 1)), (1, (.ptr 2 0)), (2, (.ptr 4 0)), (4, (ii aY)), (72, (.yld 1)), (73, (.agg [(ii v1), (ii v2), (.sl 6 0 1 (.ex 1))]))]⟩, ⟨⟨29, 0, true⟩, none, (.inRangeFunc 1 :: (Za prog 154 [1, 1, 0, 1, 0] 1)), none, (Zy prog 77), Yb [(2, .nils), (3, (ii 0)), (4, (.ptr 0 0))]⟩], (y6y [(1, ⟨.busy, none, 29, Yb [(4, (.ptr 0 0))], [11], (Vm prog 154 [1, 1, 0, 1, 0, 0]), (Vm prog 154 [1, 1, 0, 1, 0, 1])⟩)])⟩
 | .h4 v2 v8 cS bX aY aA aN aR bB cJ cQ aL => ⟨⟨94, 0, true⟩, none, (Za prog 146 [0, 1, 0, 0, 1, 0, 0] 0), none, [], ⟨Yb [(0, (.ptr 0 0)), (2, (ii v2)), (8, (ii v8))], y6x [(0, ⟨[(.sla 1 4 0 aA.length (.un 4)), (.dat aN.length (Zz aN)), (ii aR), (ii bB)], 188, none⟩), (1, ⟨rows aA.length (Zz aA), 114, some ⟨4, aA.length, (Zz aA)⟩⟩), (3, ⟨[(.sla 4 1 0 cJ (.un 1))], 47, none⟩), (4, ⟨rows cQ.length (Zz cQ), 3, some ⟨1, cQ.length, (Zz cQ)⟩⟩), (5, ⟨[(.sl 6 0 1 (.un 1))], 173, none⟩), (6, ⟨[(.dat l0.length (Zz l0))], 105, none⟩), (7, ⟨[(.dat aL.length (Zz aL))], 158, none⟩)], 8, [], true⟩, [⟨⟨29, 0, true⟩, (Vi prog 154 [1, 1, 0, 1, 0, 1, 0, 1] 5), (Za prog 154 [1, 1, 0, 1, 0, 1, 0, 1] 1), (some 2), [], Yb [(4, (.ptr 0 0)), (21, (ii cS)), (23, (ii v2)), (24, (.dat bX.length (Zz bX)))]⟩, ⟨⟨76, 0, true⟩, (Vi prog 186 [1, 0, 0, 1, 0, 0, 1, 1, 0] 2), (Za prog 186 [1, 0, 0, 1, 0, 0, 1, 1, 0] 1), none, [], Yb [(0, (.yld 2)), (1, (.ptr 3 0)), (2, (.ptr 5 0)), (4, (ii aY)), (72, (.yld 2)), (73, (.agg [(ii cS), (ii v2), (.sl 7 0 1 (.ex 1))]))]⟩, ⟨⟨29, 0, true⟩, none, (.inRangeFunc 2 :: (Za prog 154 [1, 1, 0, 1, 0] 1)), none, (Zy prog 77), Yb [(2, .nils), (3, (ii 0)), (4, (.ptr 0 0))]⟩], (y6y [(2, ⟨.busy, none, 29, Yb [(4, (.ptr 0 0))], [11], (Vm prog 154 [1, 1, 0, 1, 0, 0]), (Vm prog 154 [1, 1, 0, 1, 0, 1])⟩)])⟩
def madN0 : List (Option (List Nat)) := [some [1, 3, 8, 9, 10, 14, 15, 16], some [2, 3, 4, 9]]
def madM0 : List (Option (List Nat)) := []
def v6q : List (Option (List Nat)) := [some [0, 1, 2, 4], some [2, 3, 4]]
def v6r : List (Option (List Nat)) := [some [4], none, none, none, none, none, none]
def w7h : List (Option (List Nat)) := [some [0, 1, 2, 4, 5, 6, 29, 30, 31, 36, 37, 38], some [2, 3, 4]]
def w7j : List (Option (List Nat)) := [some [4], none, none, none, none, none, none, none, none, none]
def w7g : List (Option (List Nat)) := [some [0, 1, 2, 71, 72, 73], some [4, 21, 23, 24], some [0, 1, 2, 4, 72, 73], some [2, 3, 4]]
def w7i : List (Option (List Nat)) := [none, some [4], none, none, none, none, none, none]
def madN4 : List (Option (List Nat)) := [some [0, 2, 8], some [4, 21, 23, 24], some [0, 1, 2, 4, 72, 73], some [2, 3, 4]]
def madM4 : List (Option (List Nat)) := [none, none, some [4], none, none, none, none, none]
def Xk (l0 : List R4) : madS → Xj madS
 | .h0 v16 aC => (bif (decide (v16 < (l0.length : Int))) then (bif ((decide (0 ≤ v16 ∧ v16 < (l0.length : Int))) && true) then (bif (Nat.beq 1 1 && ((decide (0 + aC.length = aC.length)) && decide ((aC.length + 2 + 1) * (8 + 1) ≤ Kd))) then (.to (.h0 (IntKind.wrap .i64 (v16 + 1)) (aC ++ [(rd l0 v16.toNat).a, (rd l0 v16.toNat).c]))) else .stuck) else .stuck) else (bif (decide (aC.length < 4611686018427387904)) then (bif (decide (aC.length = aC.length)) then (.to (.h1 1 ([] : List R4) ([] : List R2) 0 0 (cmpN (Yy aC.length (cOf (Zz (Wk (Yy aC.length (cOf (Zz aC)))))))) (Vk (Yy aC.length (cOf (Zz (Wk (Yy aC.length (cOf (Zz aC)))))))))) else .stuck) else .stuck))
 | .h1 v4 aE bR bU bV aV aZ => (bif (decide (v4 < ((aV : Nat) : Int))) then (bif ((decide (0 ≤ (IntKind.wrap .i64 (v4 - 1)) ∧ (IntKind.wrap .i64 (v4 - 1)) < ((aV : Nat) : Int))) && true) then (bif (decide ((0 + (Int.toNat (IntKind.wrap .i64 (v4 - 1)))) < aZ.length)) then (bif ((decide (0 ≤ v4 ∧ v4 < ((aV : Nat) : Int))) && true) then (bif (decide ((0 + v4.toNat) < aZ.length)) then (.to (.h2 v4 0 aE bR bU bV aV aZ (rd aZ (0 + (Int.toNat (IntKind.wrap .i64 (v4 - 1))))) (rd aZ (0 + v4.toNat)) ([] : List R2))) else .stuck) else .stuck) else .stuck) else .stuck) else (bif (decide ((aE.length : Int) > 400)) then (.ret [.nils, (.int .i64 4)]) else (.ret [(.dat aE.length (Zz aE)), (.int .i64 0)])))
 | .h2 v4 v38 aE bR bU bV aV aZ aD cL aL => (bif (decide (v38 < (l0.length : Int))) then (bif ((decide (0 ≤ v38 ∧ v38 < (l0.length : Int))) && true) then (bif (decide ((rd l0 v38.toNat).a ≤ aD)) then (bif (decide (aD < (rd l0 v38.toNat).c)) then (bif (Nat.beq 2 2 && ((decide (0 + aL.length = aL.length)) && decide ((aL.length + 1 + 1) * (16 + 1) ≤ Kd))) then (.to (.h2 v4 (IntKind.wrap .i64 (v38 + 1)) aE bR bU bV aV aZ aD cL (aL ++ [(R2.mk (rd l0 v38.toNat).b (rd l0 v38.toNat).d)]))) else .stuck) else (.to (.h2 v4 (IntKind.wrap .i64 (v38 + 1)) aE bR bU bV aV aZ aD cL aL))) else (.to (.h2 v4 (IntKind.wrap .i64 (v38 + 1)) aE bR bU bV aV aZ aD cL aL))) else .stuck) else (bif (z9h (cvT aL)) then (bif (decide ((((Xw (cvT aL)).length : Nat) : Int) > 0)) then (bif (bV == aD) then (bif (Vh (cvT bR) (cvT (Xw (cvT aL)))) then (bif (Ks (cvT bR) (cvT (Xw (cvT aL)))) then (.to (.h4 cL bU aD (Xw (cvT aL)) v4 aE bR bU bV aV aZ aL)) else (.to (.h3 aD cL (Xw (cvT aL)) (((Xw (cvT aL)).length : Nat) : Int) 0 (Xw (cvT aL)) v4 aE (Xw (cvT aL)) (aE.length : Int) aV aZ aL))) else .stuck) else (.to (.h3 aD cL (Xw (cvT aL)) (((Xw (cvT aL)).length : Nat) : Int) 0 (Xw (cvT aL)) v4 aE (Xw (cvT aL)) (aE.length : Int) aV aZ aL))) else (.to (.h3 aD cL (Xw (cvT aL)) (((Xw (cvT aL)).length : Nat) : Int) 0 (Xw (cvT aL)) v4 aE (Xw (cvT aL)) (aE.length : Int) aV aZ aL))) else .stuck))
 | .h3 v1 v2 v71 v72 v73 bX aY aA aN aR aV aZ aD => (bif (decide (v73 < v72)) then (bif ((decide (0 ≤ v73 ∧ v73 < (v71.length : Int))) && true) then (bif (Nat.beq 4 4 && ((decide (0 + aA.length = aA.length)) && decide ((aA.length + 1 + 1) * (32 + 1) ≤ Kd))) then (.to (.h3 v1 v2 v71 v72 (IntKind.wrap .i64 (v73 + 1)) bX aY (aA ++ [(R4.mk v1 (rd v71 v73.toNat).a v2 (rd v71 v73.toNat).b)]) aN aR aV aZ aD)) else .stuck) else .stuck) else (.to (.h1 (IntKind.wrap .i64 (aY + 1)) aA aN aR v2 aV aZ)))
 | .h4 v2 v8 cS bX aY aA aN aR bB cJ cQ aL => (bif (decide (v8 < (aA.length : Int))) then (bif ((decide (0 ≤ v8 ∧ v8 < (aA.length : Int))) && true) then (bif (decide ((0 + v8.toNat) < aA.length)) then (.to (.h4 v2 (IntKind.wrap .i64 (v8 + 1)) cS bX aY (aA.set (0 + v8.toNat) (R4.mk (rd aA (0 + v8.toNat)).a (rd aA (0 + v8.toNat)).b v2 (rd aA (0 + v8.toNat)).d)) aN aR bB cJ cQ aL)) else .stuck) else .stuck) else (.to (.h1 (IntKind.wrap .i64 (aY + 1)) aA aN aR v2 cJ cQ)))
def y4d (l0 : List R4) : Xj madS := (.to (.h0 0 ([] : List Int)))
theorem x6l (l0 : List R4) : ∀ s, Xd prog (Zy prog 154) (madC l0) (madC l0 s) (Xk l0 s)
 | .h0 v16 aC => (lb (fun k0 => (lo fun o0 => (lo fun o1 => (sl Um 32 [] ⟨[0, 1, 2, 3, 7], [], madN0, madM0⟩ ⟨[], [.keep, .keep, .cells [.len (aC ++ [(rd l0 (tn v16)).a, (rd l0 (tn v16)).c]).length], .keep, .rowed 1 (aC ++ [(rd l0 (tn v16)).a, (rd l0 (tn v16)).c]).length (Zz (aC ++ [(rd l0 (tn v16)).a, (rd l0 (tn v16)).c]))], []⟩ [true] (pp (xL (aC.length + 2) (aC ++ [(rd l0 (tn v16)).a, (rd l0 (tn v16)).c]).length) (pp (xL (aC.length + 2) (aC ++ [(rd l0 (tn v16)).a, (rd l0 (tn v16)).c]).length) (pp (xS (aC.length + 2) (Zh (Zz aC) 0 aC.length 1 [(ii (rd l0 (tn v16)).a), (ii (rd l0 (tn v16)).c)]) (Zz (aC ++ [(rd l0 (tn v16)).a, (rd l0 (tn v16)).c]))) (pp (pp (xF (Zh (Zz aC) 0 aC.length 1 [(ii (rd l0 (tn v16)).a), (ii (rd l0 (tn v16)).c)])) nn) (ww o1 (ww o0 (tt k0 nn))))))))))) (fun k0 => (lo fun o0 => (lo fun o1 => (sl Um 46 [(114, 4, Zz ([] : List R4))] ⟨[5, 3, 2, 4, 0, 1, 6], [], v6q, v6r⟩ ⟨[], [.keep, .cells [.grow 6 4, .list 0 (Zz ([] : List R2)), .keep, .keep], .keep, .rowed 1 (Vk (Yy aC.length (cOf (Zz (Wk (Yy aC.length (cOf (Zz aC)))))))).length (Zz (Vk (Yy aC.length (cOf (Zz (Wk (Yy aC.length (cOf (Zz aC))))))))), .keep, .keep, .keep], []⟩ [false, false] (pp (xL aC.length (Vk (Yy aC.length (cOf (Zz (Wk (Yy aC.length (cOf (Zz aC)))))))).length (by first | exact y0f _ _ | exact Jn rfl)) (pp (xS aC.length (Zz (Vk (Yy aC.length (cOf (Zz (Wk (Yy aC.length (cOf (Zz aC))))))))) (Zz (Vk (Yy aC.length (cOf (Zz (Wk (Yy aC.length (cOf (Zz aC)))))))))) (pp (fl (Vk (Yy aC.length (cOf (Zz (Wk (Yy aC.length (cOf (Zz aC)))))))) (fl ([] : List R4) nn)) (pp (pp (xG (Nat.beq 1 1)) (pp (xG (Nat.beq 1 1)) (pp (xG (Nat.beq 0 0)) (pp (xG (decide (aC.length = aC.length))) (pp (xG (isI (Zz (Wk (Yy aC.length (cOf (Zz aC))))))) (xG (decide (aC.length < 4611686018427387904)))))))) (pp (pp (xG (Nat.beq 1 1)) (pp (xG (Nat.beq 1 1)) (pp (xG (Nat.beq 0 0)) (pp (xG (decide (aC.length = aC.length))) (pp (xG (isI (Zz aC))) (xG (decide (aC.length < 4611686018427387904)))))))) (tt k0 nn)))))))))))
 | .h1 v4 aE bR bU bV aV aZ => (lb (fun k0 => (lo fun o0 => (lo fun o1 => (lo fun o2 => (lo fun o3 => (sl Um 48 [(110, 2, Zz ([] : List R2))] ⟨[0, 1, 2, 3, 4, 5, 7, 8, 9, 6], [], w7h, w7j⟩ ⟨[], (kpB 7 [.cells [.grow 8 2], .keep, .keep]), []⟩ (trs 3 []) (pp (fl aZ (fl ([] : List R2) (fl aE nn))) (ww o3 (ww o2 (ww o1 (ww o0 (tt k0 nn)))))))))))) (fun k0 => (lb (fun k1 => (lr 29 3 [1, 1, 1, 1, 1, 1, 0] 1 77 [(2, .nils), (3, (ii 4))] (sl Um 43 [] ⟨[], [], [some [2, 3]], []⟩ ⟨[], [], []⟩ [false, true] (tt k1 (tt k0 nn))))) (fun k1 => (lr 29 3 [1, 1, 1, 1, 1, 1, 0] 1 77 [(2, (.dat aE.length (Zz aE))), (3, (ii 0))] (sl Um 48 [] ⟨[], [6], [some [2, 3]], []⟩ ⟨[(2, .frz aE.length aE.length (Zz aE) (Zz aE))], [], []⟩ [false, false] (pp (xZ (z8r 4 4 0 aE.length aE.length (Zz aE)) aE.length (Zz aE)) (pp (xL aE.length aE.length) (pp (xS aE.length (Zz aE) (Zz aE)) (pp (fl aE nn) (tt k1 (tt k0 nn))))))))))))
 | .h2 v4 v38 aE bR bU bV aV aZ aD cL aL => (lb (fun k0 => (lo fun aF => (lb (fun k1 => (lb (fun k2 => (lo fun o0 => (sl Um 39 [] ⟨[0, 1, 2, 3, 4, 5, 6, 7, 12, 9], [], w7h, w7j⟩ ⟨[], (kpB 7 [.cells [.len (aL ++ [(R2.mk (rd l0 (tn v38)).b (rd l0 (tn v38)).d)]).length], .rowed 2 (aL ++ [(R2.mk (rd l0 (tn v38)).b (rd l0 (tn v38)).d)]).length (Zz (aL ++ [(R2.mk (rd l0 (tn v38)).b (rd l0 (tn v38)).d)])), .keep]), []⟩ (trs 7 []) (pp (xL (aL.length + 1) (aL ++ [(R2.mk (rd l0 (tn v38)).b (rd l0 (tn v38)).d)]).length) (pp (xL (aL.length + 1) (aL ++ [(R2.mk (rd l0 (tn v38)).b (rd l0 (tn v38)).d)]).length) (pp (xS (aL.length + 1) (Zh (Zz aL) 0 aL.length 2 [(ii (rd l0 (tn v38)).b), (ii (rd l0 (tn v38)).d)]) (Zz (aL ++ [(R2.mk (rd l0 (tn v38)).b (rd l0 (tn v38)).d)]))) (pp (fl aZ (pp (xF (Zh (Zz aL) 0 aL.length 2 [(ii (rd l0 (tn v38)).b), (ii (rd l0 (tn v38)).d)])) (fl aE nn))) (ww o0 (tt k2 (tt k1 (ww aF (tt k0 nn)))))))))))) (fun k2 => (sl Um 39 [] ⟨(List.range 10), [], w7h, w7j⟩ ⟨[], [], []⟩ (trs 6 [false]) (pp (fl aZ (fl aL (fl aE nn))) (tt k2 (tt k1 (ww aF (tt k0 nn))))))))) (fun k1 => (sl Um 39 [] ⟨(List.range 10), [], w7h, w7j⟩ ⟨[], [], []⟩ [true, false, false, false, false, false, false] (pp (fl aZ (fl aL (fl aE nn))) (tt k1 (ww aF (tt k0 nn))))))))) (fun k0 => (Vb (sl Um (C' := ⟨⟨29, 0, true⟩, (Vi prog 154 [1, 1, 0, 1, 0, 1, 0, 0] 4), (Za prog 154 [1, 1, 0, 1, 0, 1, 0, 0] 1), (some 0), [], ⟨Yb [(4, (.ptr 1 0)), (5, (.ptr 3 0)), (16, (.dat aL.length (Zz aL)))], y6x [(1, ⟨[(.sla 2 4 0 aE.length (.un 4)), (.dat bR.length (Zz bR)), (ii bU), (ii bV)], 188, none⟩), (2, ⟨rows aE.length (Zz aE), 114, some ⟨4, aE.length, (Zz aE)⟩⟩), (3, ⟨[(ii aD), (ii cL), (.sl 4 0 1 (.ex 1))], 193, none⟩), (4, ⟨[(.dat aL.length (Zz aL))], 158, none⟩), (5, ⟨[(.sla 6 1 0 aV (.un 1))], 47, none⟩), (6, ⟨rows aZ.length (Zz aZ), 3, some ⟨1, aZ.length, (Zz aZ)⟩⟩), (7, ⟨[(.sl 8 0 1 (.un 1))], 173, none⟩), (8, ⟨[(.dat l0.length (Zz l0))], 105, none⟩)], 9, [], true⟩, [⟨⟨76, 0, true⟩, (Vi prog 186 [1, 0, 0, 1, 0, 0, 1, 1, 0] 2), (Za prog 186 [1, 0, 0, 1, 0, 0, 1, 1, 0] 1), none, [], Yb [(0, (.yld 0)), (1, (.ptr 5 0)), (2, (.ptr 7 0)), (4, (ii v4)), (72, (.yld 0)), (73, (.agg [(ii aD), (ii cL), (.sl 4 0 1 (.ex 1))]))]⟩, ⟨⟨29, 0, true⟩, none, (.inRangeFunc 0 :: (Za prog 154 [1, 1, 0, 1, 0] 1)), none, (Zy prog 77), Yb [(2, .nils), (3, (ii 0)), (4, (.ptr 1 0))]⟩], (y6y [(0, ⟨.busy, none, 29, Yb [(4, (.ptr 1 0))], [11], (Vm prog 154 [1, 1, 0, 1, 0, 0]), (Vm prog 154 [1, 1, 0, 1, 0, 1])⟩)])⟩) 37 [] ⟨[0, 1, 9, 10, 7, 2, 3, 4, 5], [8], [some [4, 5, 16], some [0, 1, 2, 4, 72, 73], some [2, 3, 4]], [some [4], none, none, none, none, none, none, none, none]⟩ ⟨[(16, .frz aL.length aL.length (Zz aL) (Zz aL))], [.keep, .keep, .keep, .keep, .cells [.frz aL.length aL.length (Zz aL) (Zz aL)], .keep, .keep, .keep, .keep], []⟩ [false, false] (pp (xZ (z8r 2 2 0 aL.length aL.length (Zz aL)) aL.length (Zz aL)) (pp (xL aL.length aL.length) (pp (xS aL.length (Zz aL) (Zz aL)) (pp (xZ (z8r 2 2 0 aL.length aL.length (Zz aL)) aL.length (Zz aL)) (pp (xL aL.length aL.length) (pp (xS aL.length (Zz aL) (Zz aL)) (pp (fl aE (fl aZ nn)) (pp (fl aL nn) (tt k0 nn)))))))))) (lo fun aF => (lb (fun k1 => (lb (fun k2 => (lo fun cM => (lb (fun k3 => (sl Um 49 [] ⟨[1, 2, 0, 5, 6, 7, 8, 4], [], madN4, madM4⟩ ⟨[], [], []⟩ (trs 13 []) (pp (fl aE (fl aZ nn)) (tt k3 (pp (pp (xr bR) (pp (xI R2 (Xw (cvT aL)).length (Zz (Xw (cvT aL)))) (xw cM))) (tt k2 (tt k1 (pp (pp (xr aL) (xw aF)) nn)))))))) (fun k3 => (sl Um 69 [] ⟨[1, 0, 5, 6, 7, 8, 4, 2], [], w7g, w7i⟩ ⟨[], [], []⟩ (trs 12 [false]) (pp (fl aZ (fl aE nn)) (tt k3 (pp (pp (xr bR) (pp (xI R2 (Xw (cvT aL)).length (Zz (Xw (cvT aL)))) (xw cM))) (tt k2 (tt k1 (pp (pp (xr aL) (xw aF)) nn))))))))))) (fun k2 => (sl Um 69 [] ⟨[1, 0, 5, 6, 7, 8, 4, 2], [], w7g, w7i⟩ ⟨[], [], []⟩ (trs 6 [false, false, false, false, false, false, false]) (pp (fl aZ (fl aE nn)) (tt k2 (tt k1 (pp (pp (xr aL) (xw aF)) nn)))))))) (fun k1 => (sl Um 69 [] ⟨[1, 0, 5, 6, 7, 8, 4, 2], [], w7g, w7i⟩ ⟨[], [], []⟩ [false, false, false, false, false, false, false, false, false, false, false, false, false] (pp (fl aZ (fl aE nn)) (tt k1 (pp (pp (xr aL) (xw aF)) nn))))))))))
 | .h3 v1 v2 v71 v72 v73 bX aY aA aN aR aV aZ aD => (lb (fun k0 => (lo fun o0 => (lo fun o1 => (sl Um 23 [] ⟨[0, 1, 2, 3, 4, 5, 6, 10], [], w7g, w7i⟩ ⟨[], [.cells [.len (aA ++ [(R4.mk v1 (rd v71 (tn v73)).a v2 (rd v71 (tn v73)).b)]).length, .keep, .keep, .keep], .keep, .keep, .keep, .keep, .keep, .keep, .rowed 4 (aA ++ [(R4.mk v1 (rd v71 (tn v73)).a v2 (rd v71 (tn v73)).b)]).length (Zz (aA ++ [(R4.mk v1 (rd v71 (tn v73)).a v2 (rd v71 (tn v73)).b)]))], []⟩ [true] (pp (xL (aA.length + 1) (aA ++ [(R4.mk v1 (rd v71 (tn v73)).a v2 (rd v71 (tn v73)).b)]).length) (pp (xL (aA.length + 1) (aA ++ [(R4.mk v1 (rd v71 (tn v73)).a v2 (rd v71 (tn v73)).b)]).length) (pp (xS (aA.length + 1) (Zh (Zz aA) 0 aA.length 4 [(ii v1), (ii (rd v71 (tn v73)).a), (ii v2), (ii (rd v71 (tn v73)).b)]) (Zz (aA ++ [(R4.mk v1 (rd v71 (tn v73)).a v2 (rd v71 (tn v73)).b)]))) (pp (fl aZ (pp (xF (Zh (Zz aA) 0 aA.length 4 [(ii v1), (ii (rd v71 (tn v73)).a), (ii v2), (ii (rd v71 (tn v73)).b)])) nn)) (ww o1 (ww o0 (tt k0 nn))))))))))) (fun k0 => (sl Um 22 [] ⟨[1, 0, 2, 3, 4, 5, 7], [], v6q, v6r⟩ ⟨[], [], []⟩ [false, false] (pp (fl aZ (fl aA nn)) (tt k0 nn)))))
 | .h4 v2 v8 cS bX aY aA aN aR bB cJ cQ aL => (lb (fun k0 => (lo fun o0 => (lo fun o1 => (sl Um 33 [] ⟨(List.range 8), [], madN4, madM4⟩ ⟨[], [.cells [.len (aA.set (0 + (tn v8)) (R4.mk (rd aA (0 + (tn v8))).a (rd aA (0 + (tn v8))).b v2 (rd aA (0 + (tn v8))).d)).length, .keep, .keep, .keep], .rowed 4 (aA.set (0 + (tn v8)) (R4.mk (rd aA (0 + (tn v8))).a (rd aA (0 + (tn v8))).b v2 (rd aA (0 + (tn v8))).d)).length (Zz (aA.set (0 + (tn v8)) (R4.mk (rd aA (0 + (tn v8))).a (rd aA (0 + (tn v8))).b v2 (rd aA (0 + (tn v8))).d))), .keep, .keep, .keep, .keep, .keep, .keep], []⟩ [true] (pp (xL aA.length (aA.set (0 + (tn v8)) (R4.mk (rd aA (0 + (tn v8))).a (rd aA (0 + (tn v8))).b v2 (rd aA (0 + (tn v8))).d)).length) (pp (xL aA.length (aA.set (0 + (tn v8)) (R4.mk (rd aA (0 + (tn v8))).a (rd aA (0 + (tn v8))).b v2 (rd aA (0 + (tn v8))).d)).length) (pp (xS aA.length (Xr (Zz aA) (0 + (tn v8)) 2 [(ii v2)]) (Zz (aA.set (0 + (tn v8)) (R4.mk (rd aA (0 + (tn v8))).a (rd aA (0 + (tn v8))).b v2 (rd aA (0 + (tn v8))).d)))) (pp (pp (xF (Xr (Zz aA) (0 + (tn v8)) 2 [(ii v2)])) (fl cQ nn)) (ww o1 (ww o0 (tt k0 nn))))))))))) (fun k0 => (sl Um 36 [] ⟨[2, 0, 3, 4, 5, 6, 1], [], v6q, v6r⟩ ⟨[], [], []⟩ [false, false] (pp (fl cQ (fl aA nn)) (tt k0 nn)))))
theorem x0s (l0 : List R4) : Xd prog (Zy prog 154) (madC l0) (Zg prog 154 [(.dat l0.length (Zz l0))] true []) (y4d l0) := (sl Um 56 [(3, 1, Zz ([] : List Int))] ⟨[2, 1, 3, 0, 4], [], madN0, madM0⟩ ⟨[], [.keep, .keep, .cells [.grow 4 1], .keep, .keep], []⟩ [true] (pp (fl ([] : List Int) nn) nn))
theorem w7f (l0 : List R4) (n : Nat) (vs : List AVal) (h : Yu (Xk l0) n (y4d l0) = .ret vs) : Ur prog (Zy prog 154) (Zg prog 154 [(.dat l0.length (Zz l0))] true []) vs := by
 have := Ze (x6l l0) n _ (x0s l0)
 rwa [h] at this
end Go.Am
namespace Go.Am
open Go.Proofs.Tryz
open Go.Proofs Go.Sort Go.Shelf Go.RowKit Go.Lib
theorem x4q {i n : Nat} (h : i < n) : decide ((i : Int) < (n : Int)) = true := decide_eq_true (by omega)
theorem y0o {σ : Type} (step : σ → Xj σ) (a b : Nat) (s : Xj σ) : Yu step (a + b) s = Yu step a (Yu step b s) := by
 induction b generalizing s with
 | zero => cases s <;> simp [Yu]
 | succ b ih => cases s with
  | to s => exact ih (step s)
  | ret vs => simp only [Zm]
  | stuck => cases a <;> cases b <;> rfl
theorem w3g {i : Nat} : decide ((i : Int) ≥ 0) = true := decide_eq_true (by omega)
def z2w {α : Type} [Xz α] (out : List α) : List AVal := bif decide ((out.length : Int) > 400) then [.nils, .int .i64 4] else [.dat out.length (Zz out), .int .i64 0]
def w0f {α : Type} [Xz α] (e : Int) (L : List α) : List AVal := bif e != 0 then [.nils, .int .i64 e] else [.dat L.length (Zz L), .int .i64 0]
def v3b {α : Type} (e : Int) (L : List α) : List α := bif e != 0 then [] else L
theorem x3g {α : Type} [Xz α] (e : Int) (L : List α) (ρ : Rho) (u : Value) (hu : Zo ρ (Kq (w0f e L)) u) : Zo ρ (.tup [.dat (v3b e L).length (Zz (v3b e L)), .int .i64 e]) u := by
 unfold w0f at hu
 unfold v3b
 by_cases h : e = 0
 ·subst h; exact hu
 ·have h : (e != 0) = true := by simpa using h
  rw [h] at hu ⊢
  exact z1b (.cons (Kp α) (RLe.refl _)) ρ u hu
theorem w0e {α : Type} [Xz α] (e : Int) (L : List α) : pf 3 (Kq (w0f e L)) = true := by
 unfold w0f
 cases (e != 0) <;> rfl
def x2h (n : Nat) : Int := bif decide ((n : Int) > 400) then 4 else 0
theorem y7u {α : Type} [Xz α] (L : List α) : z2w L = w0f (x2h L.length) L := by
 unfold z2w w0f x2h
 cases decide ((L.length : Int) > 400) <;> rfl
theorem w6e {α : Type} [Xz α] {e : Int} (L : List α) (h : (e != 0) = true) : w0f e L = [.nils, .int .i64 e] := by unfold w0f; rw [h]; rfl
theorem y2h : ∀ (L : List R3) (o last : Int) (inn : Bool) (out : List R2), (swF L o last inn out).length ≤ out.length + L.length
 | [], _, _, _, out => Nat.le_refl _
 | e :: r, o, last, inn, out => by
  rw [z7s]
  have := y2h r (o + e.c) e.a (decide (o + e.c > 0)) (Qu out last inn e.a)
  have := z5f out last inn e.a
  simp only [List.length_cons]; omega
theorem y9a (l : List R3) : (z3u l).length = l.length := by
 by_cases h : y5i l = true
 ·exact (Qb l h).1.length_eq
 ·unfold z3u; rw [dif_neg h]
theorem y9e (l : List R2) : (Xw l).length ≤ 800 := by
 unfold Xw
 by_cases h : 400 < l.length
 ·rw [decide_eq_true h]; exact Nat.zero_le _
 ·rw [decide_eq_false h]
  cases l.all z7e
  ·exact Nat.zero_le _
  ·show (swV l).length ≤ 800
   have h1 := y2h (z3u (Ua l)) 0 0 false []
   rw [y9a, z1n] at h1
   simp only [List.length_nil] at h1
   unfold swV; omega
def z1a (r : R4) : Bool := decide (r.a < r.c) && (decide (r.b < r.d) && (decide (r.a ≥ -1000000) && (decide (r.a ≤ 1000000) && (decide (r.c ≥ -1000000) && (decide (r.c ≤ 1000000) && (decide (r.b ≥ -1000000) && (decide (r.b ≤ 1000000) && (decide (r.d ≥ -1000000) && decide (r.d ≤ 1000000)))))))))
def D4 : Dim R4 R2 := ⟨R4.a, R4.c, fun r => ⟨r.b, r.d⟩, fun x x' s => ⟨x, s.a, x', s.b⟩, fun x r => ⟨r.a, r.b, x, r.d⟩, Xw, Ks⟩
theorem D4_sec (l : List R4) (x : Int) : (D4.sec l x).length ≤ 1000 := Nat.le_trans (y9e _) (by omega)
section
variable (l : List R4) (hl : l.length ≤ 400)
include hl
theorem v2r (i : Nat) (out : List R4) (last : List R2) (first fin x x' : Int) : ∀ (k j : Nat) (acc : List R2), j + k = l.length → acc.length ≤ j →
  ∃ n, ∀ N, Yu (Xk l) (N + n) (.to (.h2 (i : Int) (j : Int) out last first fin ((D4.cuts l).length) (Vk (Wk (D4.ends l))) x x' acc)) = Yu (Xk l) N (.to (.h2 (i : Int) (l.length : Int) out last first fin ((D4.cuts l).length) (Vk (Wk (D4.ends l))) x x' (acc ++ D4.inn (l.drop j) x)))
 | 0, j, acc, h, ha => by
  refine ⟨0, fun N => ?_⟩
  rw [List.drop_eq_nil_of_le (by omega), show D4.inn ([] : List R4) x = [] from rfl, List.append_nil, Nat.add_zero, show j = l.length by omega]
 | k + 1, j, acc, h, ha => by
  have hj : j < l.length := by omega
  obtain ⟨n, hn⟩ := v2r i out last first fin x x' k (j + 1) (acc ++ D4.inn [rd l j] x) (by omega) (by have := D4.inn_length [rd l j] x; simp only [List.length_append, List.length_singleton] at *; omega)
  refine ⟨n + 1, fun N => ?_⟩
  have e : D4.inn (l.drop j) x = D4.inn [rd l j] x ++ D4.inn (l.drop (j + 1)) x := by
   rw [Yg hj, ← D4.inn_append]; rfl
  rw [e, ← Nat.add_assoc, Zw, ← List.append_assoc, ← hn N]
  by_cases h1 : D4.lo (rd l j) ≤ x
  ·by_cases h2 : x < D4.hi (rd l j)
   ·rw [D4.inn_t _ _ h1 h2]
    simp only [D4] at h1 h2 ⊢
    simp (disch := omega) only [Xk, Xx, Zc, Zp, Yv, Yj, Yp, Yd, Yf, Zt, Zj, Zv, Yi, Zk, Nat.zero_add, decide_true, Bool.and_true, Bool.true_and, cond_true, cond_false]
   ·rw [D4.inn_f2 _ _ h2, List.append_nil]
    simp only [D4] at h1 h2
    simp (disch := omega) only [Xk, Xx, Zs, Zc, Zp, Yv, Yj, Yp, Yd, Yf, Zt, Zj, Zv, Yi, Zk, Nat.zero_add, decide_true, Bool.and_true, Bool.true_and, cond_true, cond_false]
  ·rw [D4.inn_f1 _ _ h1, List.append_nil]
   simp only [D4] at h1
   simp (disch := omega) only [Xk, v9a, Zc, Zp, Yv, Yj, Yp, Yd, Yf, Zt, Zj, Zv, Yi, Zk, Nat.zero_add, decide_true, Bool.and_true, Bool.true_and, cond_true, cond_false]
theorem v2q (i : Nat) (hi : i ≤ 1000) (x x' : Int) (s last : List R2) (first : Int) (inn : List R2) (hs : s.length ≤ 1000) : ∀ (k j : Nat) (out : List R4), j + k = s.length → out.length ≤ 10000000 + j →
  ∃ n, ∀ N, Yu (Xk l) (N + n) (.to (.h3 x x' s (s.length : Int) (j : Int) s (i : Int) out last first ((D4.cuts l).length) (Vk (Wk (D4.ends l))) inn)) = Yu (Xk l) N (.to (.h1 ((i + 1 : Nat) : Int) (out ++ (s.drop j).map (D4.put x x')) last first x' ((D4.cuts l).length) (Vk (Wk (D4.ends l)))))
 | 0, j, out, h, ho => by
  have _u := hl
  refine ⟨1, fun N => ?_⟩
  rw [List.drop_eq_nil_of_le (by omega), Zw]
  simp (disch := omega) only [Xk, Zs, Zj, Zv, cond_false, List.map_nil, List.append_nil]
 | k + 1, j, out, h, ho => by
  obtain ⟨n, hn⟩ := v2q i hi x x' s last first inn hs k (j + 1) (out ++ [D4.put x x' (rd s j)]) (by omega) (by simp; omega)
  refine ⟨n + 1, fun N => ?_⟩
  have := hn N
  rw [Yg (show j < s.length by omega), List.map_cons, ← Nat.add_assoc, Zw]
  simp (disch := omega) only [Xk, Zc, Zp, Yv, Yj, Yp, Yd, Yf, Zt, Zj, Zv, Yi, Zk, Nat.zero_add, decide_true, Bool.and_true, Bool.true_and, cond_true, cond_false]
  rw [List.append_assoc] at this
  exact this
theorem v2p (i : Nat) (hi : i ≤ 1000) (x x' fin : Int) (s last : List R2) (first : Int) (inn : List R2) : ∀ (k j : Nat) (out : List R4), j + k = out.length → out.length ≤ 10000000 →
  ∃ n, ∀ N, Yu (Xk l) (N + n) (.to (.h4 x' (j : Int) x s (i : Int) out last first fin ((D4.cuts l).length) (Vk (Wk (D4.ends l))) inn)) = Yu (Xk l) N (.to (.h1 ((i + 1 : Nat) : Int) (D4.grow out j x') last first x' ((D4.cuts l).length) (Vk (Wk (D4.ends l)))))
 | 0, j, out, h, ho => by
  have _u := hl
  refine ⟨1, fun N => ?_⟩
  rw [D4.grow_nil _ _ _ (by omega), Zw]
  simp (disch := omega) only [Xk, Zs, Zj, Zv, cond_false]
 | k + 1, j, out, h, ho => by
  obtain ⟨n, hn⟩ := v2p i hi x x' fin s last first inn k (j + 1) (out.set j (D4.ext x' (rd out j))) (by simp; omega) (by simpa using ho)
  refine ⟨n + 1, fun N => ?_⟩
  have := hn N
  rw [D4.grow_set out j _ (by omega)] at this
  rw [← Nat.add_assoc, Zw]
  simp (disch := omega) only [Xk, Zc, Zp, Yv, Yj, Yp, Yd, Yf, Zt, Zj, Zv, Yi, Zk, Nat.zero_add, decide_true, Bool.and_true, Bool.true_and, cond_true, cond_false]
  exact this
theorem w1x : ∀ (k i : Nat) (s : Sw R4 R2), k = (D4.cuts l).length - 1 - i → i ≤ (D4.cuts l).length → s.out.length ≤ i * 1000 → s.last.length ≤ 1000 → s.first ≤ s.out.length →
  ∃ n, Yu (Xk l) n (.to (.h1 ((i + 1 : Nat) : Int) s.out s.last (s.first : Int) s.fin ((D4.cuts l).length) (Vk (Wk (D4.ends l))))) = .ret (z2w (D4.go l k i s).out)
 | 0, i, s, h, hi, ho, hla, hf => by
  have hc := D4.cuts_length l
  refine ⟨1, ?_⟩
  rw [Zw, show D4.go l 0 i s = s from rfl]
  unfold z2w
  by_cases q : (s.out.length : Int) > 400
  ·simp (disch := omega) only [Xk, Zs, Yn, cond_true, cond_false, Zm]
  ·simp (disch := omega) only [Xk, Zs, Yo, cond_true, cond_false, Zm]
 | k + 1, i, s, h, hi, ho, hla, hf => by
  have hc := D4.cuts_length l
  have hi1 : i + 1 < (D4.cuts l).length := by omega
  have hpl : (Vk (Wk (D4.ends l))).length = 2 * l.length := by rw [z0h, Kw, D4.ends_length]
  have r0 : rd (Vk (Wk (D4.ends l))) i = rd (D4.cuts l) i := y2l _ _ (by show i < (D4.cuts l).length; omega)
  have r1 : rd (Vk (Wk (D4.ends l))) (i + 1) = rd (D4.cuts l) (i + 1) := y2l _ _ (by show i + 1 < (D4.cuts l).length; omega)
  have hbig : i * 1000 ≤ 1000 * 1000 := Nat.mul_le_mul_right _ (by omega)
  have hsl := D4_sec l (rd (D4.cuts l) i)
  have hsd : D4.sec l (rd (D4.cuts l) i) = Xw (D4.inn l (rd (D4.cuts l) i)) := rfl
  obtain ⟨n3, h3⟩ := v2r l hl (i + 1) s.out s.last (s.first : Int) s.fin (rd (D4.cuts l) i) (rd (D4.cuts l) (i + 1)) l.length 0 [] (Nat.zero_add _) (Nat.le_refl _)
  simp only [List.drop_zero, List.nil_append, z1p] at h3
  have w1 : z9h (D4.inn l (rd (D4.cuts l) i)) = true := rfl
  have w2 : Vh s.last (Xw (D4.inn l (rd (D4.cuts l) i))) = true := decide_eq_true (by omega)
  have ol := D4.one_length l (rd (D4.cuts l) i) (rd (D4.cuts l) (i + 1)) s
  have st0 : ∀ N, Yu (Xk l) (N + n3 + 1) (.to (.h1 ((i + 1 : Nat) : Int) s.out s.last (s.first : Int) s.fin ((D4.cuts l).length) (Vk (Wk (D4.ends l))))) = Yu (Xk l) N (.to (.h2 ((i + 1 : Nat) : Int) (l.length : Int) s.out s.last (s.first : Int) s.fin ((D4.cuts l).length) (Vk (Wk (D4.ends l))) (rd (D4.cuts l) i) (rd (D4.cuts l) (i + 1)) (D4.inn l (rd (D4.cuts l) i)))) := fun N => by
   rw [← h3 N, Zw]
   have e1 : IntKind.wrap .i64 (((i + 1 : Nat) : Int) - 1) = (i : Int) := by rw [Zf]; exact Zj (by omega)
   simp (disch := omega) only [Xk, e1, r0, r1, Zc, Zp, Yv, Yj, Yp, Yd, Yf, Zt, Zj, Zv, Yi, Zk, Nat.zero_add, decide_true, Bool.and_true, Bool.true_and, cond_true, cond_false]
  rcases Zn (decide (0 < (D4.sec l (rd (D4.cuts l) i)).length) && ((s.fin == rd (D4.cuts l) i) && D4.same s.last (D4.sec l (rd (D4.cuts l) i)))) with q | q
  ·obtain ⟨n5, h5⟩ := v2p l hl (i + 1) (by omega) (rd (D4.cuts l) i) (rd (D4.cuts l) (i + 1)) s.fin (D4.sec l (rd (D4.cuts l) i)) s.last (s.first : Int) (D4.inn l (rd (D4.cuts l) i)) (s.out.length - s.first) s.first s.out (by omega) (by omega)
   have e : D4.one l (rd (D4.cuts l) i) (rd (D4.cuts l) (i + 1)) s = ⟨D4.grow s.out s.first (rd (D4.cuts l) (i + 1)), s.last, s.first, rd (D4.cuts l) (i + 1)⟩ := by unfold Dim.one; rw [q]; rfl
   obtain ⟨n0, h0⟩ := w1x k (i + 1) (D4.one l (rd (D4.cuts l) i) (rd (D4.cuts l) (i + 1)) s) (by omega) (by omega) (by omega) (by rw [e]; exact hla) (by rw [e]; simpa [Dim.grow_length] using hf)
   refine ⟨n0 + n5 + 1 + n3 + 1, ?_⟩
   rw [st0 (n0 + n5 + 1), Zw]
   simp only [Bool.and_eq_true, decide_eq_true_eq] at q
   obtain ⟨q1, q2, q3⟩ := q
   have q3' : Ks s.last (Xw (D4.inn l (rd (D4.cuts l) i))) = true := q3
   rw [hsd] at q1
   simp (disch := omega) only [Xk, Zc, Zp, Zs, Yn, q2, q3', w1, w2, cond_true, cond_false]
   rw [← hsd, h5 n0]
   simp only [Dim.go]
   rw [e] at h0 ⊢
   exact h0
  ·obtain ⟨n4, h4⟩ := v2q l hl (i + 1) (by omega) (rd (D4.cuts l) i) (rd (D4.cuts l) (i + 1)) (D4.sec l (rd (D4.cuts l) i)) (D4.sec l (rd (D4.cuts l) i)) (s.out.length : Int) (D4.inn l (rd (D4.cuts l) i)) hsl (D4.sec l (rd (D4.cuts l) i)).length 0 s.out (Nat.zero_add _) (by omega)
   simp only [List.drop_zero, z1p] at h4
   have e : D4.one l (rd (D4.cuts l) i) (rd (D4.cuts l) (i + 1)) s = ⟨s.out ++ (D4.sec l (rd (D4.cuts l) i)).map (D4.put (rd (D4.cuts l) i) (rd (D4.cuts l) (i + 1))), D4.sec l (rd (D4.cuts l) i), s.out.length, rd (D4.cuts l) (i + 1)⟩ := by unfold Dim.one; rw [q]; rfl
   obtain ⟨n0, h0⟩ := w1x k (i + 1) (D4.one l (rd (D4.cuts l) i) (rd (D4.cuts l) (i + 1)) s) (by omega) (by omega) (by omega) (by rw [e]; exact hsl) (by rw [e]; simp)
   have hg : Yu (Xk l) 1 (.to (.h2 ((i + 1 : Nat) : Int) (l.length : Int) s.out s.last (s.first : Int) s.fin ((D4.cuts l).length) (Vk (Wk (D4.ends l))) (rd (D4.cuts l) i) (rd (D4.cuts l) (i + 1)) (D4.inn l (rd (D4.cuts l) i)))) = .to (.h3 (rd (D4.cuts l) i) (rd (D4.cuts l) (i + 1)) (D4.sec l (rd (D4.cuts l) i)) ((D4.sec l (rd (D4.cuts l) i)).length : Int) 0 (D4.sec l (rd (D4.cuts l) i)) ((i + 1 : Nat) : Int) s.out (D4.sec l (rd (D4.cuts l) i)) (s.out.length : Int) ((D4.cuts l).length) (Vk (Wk (D4.ends l))) (D4.inn l (rd (D4.cuts l) i))) := by
    rw [show (1 : Nat) = 0 + 1 from rfl, Zw]
    rw [hsd] at q ⊢
    have e3 : D4.same s.last (Xw (D4.inn l (rd (D4.cuts l) i))) = Ks s.last (Xw (D4.inn l (rd (D4.cuts l) i))) := rfl
    rw [e3] at q
    by_cases q1 : 0 < (Xw (D4.inn l (rd (D4.cuts l) i))).length
    ·rw [decide_eq_true q1, Bool.true_and] at q
     rcases Zn (s.fin == rd (D4.cuts l) i) with q2 | q2
     ·rw [q2, Bool.true_and] at q
      simp (disch := omega) only [Xk, Zc, Zp, Zs, Yn, q2, q, w1, w2, cond_true, cond_false]
      rfl
     ·simp (disch := omega) only [Xk, Zc, Zp, Zs, Yn, q2, w1, w2, cond_true, cond_false]
      rfl
    ·simp (disch := omega) only [Xk, Zc, Zp, Zs, Yo, w1, w2, cond_true, cond_false]
     rfl
   refine ⟨n0 + n4 + 1 + n3 + 1, ?_⟩
   rw [st0 (n0 + n4 + 1), y0o _ (n0 + n4) 1, hg, h4 n0]
   simp only [Dim.go]
   rw [e] at h0 ⊢
   exact h0
theorem v2s : ∀ (k i : Nat) (acc : List Int), i + k = l.length → acc = D4.ends (l.take i) → ∃ n, Yu (Xk l) n (.to (.h0 (i : Int) acc)) = .ret (z2w (D4.go l ((D4.cuts l).length - 1) 0 ⟨[], [], 0, 0⟩).out)
 | 0, i, acc, h, ha => by
  have e : acc = D4.ends l := by rw [ha, List.take_of_length_le (by omega)]
  subst e
  have hle := D4.ends_length l
  obtain ⟨n, hn⟩ := w1x l hl ((D4.cuts l).length - 1) 0 ⟨[], [], 0, 0⟩ (by omega) (Nat.zero_le _) (Nat.zero_le _) (Nat.zero_le _) (Nat.zero_le _)
  refine ⟨n + 1, ?_⟩
  rw [Zw]
  simp (disch := omega) only [Xk, z0l, z5v, x2f, Zs, Yd, Yf, decide_true, cond_true, cond_false]
  exact hn
 | k + 1, i, acc, h, ha => by
  have hle := D4.ends_length (l.take i)
  have fK : acc.length ≤ 2 * i := by rw [ha, hle]; simp; omega
  obtain ⟨n, hn⟩ := v2s k (i + 1) (acc ++ D4.ends [rd l i]) (by omega) (by
   rw [ha, List.take_add_one]
   have : l[i]? = some (rd l i) := by rw [Xa (show i < l.length by omega)]; exact List.getElem?_eq_getElem _
   rw [this, D4.ends_append]; rfl)
  refine ⟨n + 1, ?_⟩
  rw [Zw]
  simp (disch := omega) only [Xk, Zc, Zp, Yv, Yj, Yp, Yd, Yf, Zt, Zj, Zv, Yi, Zk, Nat.zero_add, decide_true, Bool.and_true, Bool.true_and, cond_true, cond_false]
  exact hn
end
def madE (l : List R4) : Int := x2h (D4.out l).length
def Jm (l : List R4) : List R4 := v3b (madE l) (D4.out l)
def z4q (l : List R4) : Int := madE l
def z1k (l : List R4) : Bool := decide (l.length ≤ 400)
theorem v6p (l : List R4) (h : z1k l = true) : ∃ n, Yu (Xk l) n (y4d l) = .ret (w0f (madE l) (D4.out l)) := by
 rw [show w0f (madE l) (D4.out l) = z2w (D4.out l) from (y7u _).symm]
 exact v2s l (of_decide_eq_true h) l.length 0 [] (Nat.zero_add _) rfl
def vl4V (a b c d : Int) : Bool := z1a ⟨a, b, c, d⟩
theorem v3z (a b c d : Int) : ∃ N, Yu (y8t a b c d) N (z7r a b c d) = .ret [.bool (vl4V a b c d)] := ⟨0, by
 unfold z7r vl4V z1a
 simp only [x2k]
 cases decide (a < c) <;> cases decide (b < d) <;> cases decide (a ≥ -1000000) <;> cases decide (a ≤ 1000000) <;> cases decide (c ≥ -1000000) <;> cases decide (c ≤ 1000000) <;> cases decide (b ≥ -1000000) <;> cases decide (b ≤ 1000000) <;> cases decide (d ≥ -1000000) <;> rfl⟩
def fVl4 : List AVal → Option (AVal × Bool)
 | [.agg [.int .i64 aM, .int .i64 aK, .int .i64 aI, .int .i64 aO]] => some (.bool (vl4V aM aK aI aO), true)
 | _ => none
theorem v7l {S : Specs} (hS : Zu prog S) : Zu prog (S.with x3p fVl4) := by
 refine z0x hS (by kernel_rfl) fun args v h => ?_
 unfold fVl4 at h
 split at h
 ·rename_i aM aK aI aO
  simp only [Option.some.injEq, Prod.mk.injEq, and_true] at h
  subst h
  obtain ⟨N, hN⟩ := v3z aM aK aI aO
  exact ⟨_, _, (.cons (.refl _) .nil), rfl, w4u aM aK aI aO N _ hN, 3, rfl⟩
 ·cases h
def fMad : List AVal → Option (AVal × Bool)
 | [a0] => match asL R4 a0 with
  | some (L0, g0, n0) => some (.tup [.dat (Jm L0).length (Zz (Jm L0)), .int .i64 (z4q L0)], isT R4 n0 g0 && (z1k L0))
  | _ => none
 | _ => none
theorem v8d {S : Specs} (hS : Zu prog S) : Zu prog (S.with w1o fMad) := by
 refine w8i hS (by kernel_rfl) fun args v h => ?_
 unfold fMad at h
 split at h
 ·rename_i a0
  split at h
  ·rename_i L0 g0 n0 e0
   simp only [Option.some.injEq, Prod.mk.injEq, Bool.and_eq_true] at h
   obtain ⟨rfl, ho0, hw⟩ := h
   obtain ⟨N, hN⟩ := v6p L0 hw
   exact ⟨_, _, (.cons (asL_le e0 ho0) .nil), x3g _ _, w7f L0 N _ hN, 3, w0e _ _⟩
  ·cases h
 ·cases h
def T6v : Specs := (T6.with x3p fVl4)
theorem T6v_ok : Zu prog T6v := (v7l Um)
def T6m : Specs := (T6v.with w1o fMad)
theorem y1n : Zu prog T6m := (v8d T6v_ok)
end Go.Am
namespace Go.Am
open Go.Proofs.Tryz
open Go.Proofs
inductive rgmS where
 | h0 (v8 : Int)
def rgmC (l0 : List R4) : rgmS → Cfg
 | .h0 v8 => ⟨⟨19, 0, true⟩, none, (Za prog 171 [1, 0, 1, 0, 0] 0), none, (Zy prog 3), ⟨Yb [(0, (.dat l0.length (Zz l0))), (1, (.fn 152 [])), (7, (ii (l0.length : Int))), (8, (ii v8))], Vq [] 0, 0, [], true⟩, [⟨⟨9, 0, true⟩, (Vi prog 151 [1, 0] 2), (Za prog 151 [1, 0] 1), none, (Zy prog 3), Yb [(5, (.dat l0.length (Zz l0))), (6, (.fn 152 []))]⟩, ⟨⟨13, 0, true⟩, (Vi prog 130 [1, 1, 0, 0] 1), (Za prog 130 [1, 1, 0, 0] 1), none, (Zy prog 77), Yb [(0, (.dat l0.length (Zz l0))), (7, (.dat l0.length (Zz l0)))]⟩], .leaf⟩
def rgmN0 : List (Option (List Nat)) := [some [0, 1, 7, 8], some [5, 6], some [0, 7]]
def rgmM0 : List (Option (List Nat)) := []
def z1d (l0 : List R4) : rgmS → Xj rgmS
 | .h0 v8 => (bif (decide (v8 < (l0.length : Int))) then (bif ((decide (0 ≤ v8 ∧ v8 < (l0.length : Int))) && true) then (bif (!(vl4V (rd l0 v8.toNat).a (rd l0 v8.toNat).b (rd l0 v8.toNat).c (rd l0 v8.toNat).d)) then (bif (decide (v8 ≥ 0)) then (.ret [.nils, (.int .i64 8)]) else (bif (z1k (cvT l0)) then (.ret [(.dat (Jm (cvT l0)).length (Zz (Jm (cvT l0)))), (.int .i64 (z4q (cvT l0)))]) else .stuck)) else (.to (.h0 (IntKind.wrap .i64 (v8 + 1))))) else .stuck) else (bif (z1k (cvT l0)) then (.ret [(.dat (Jm (cvT l0)).length (Zz (Jm (cvT l0)))), (.int .i64 (z4q (cvT l0)))]) else .stuck))
def z4g (l0 : List R4) : Xj rgmS := (bif (decide ((l0.length : Int) > 400)) then (.ret [.nils, (.int .i64 4)]) else (.to (.h0 0)))
theorem x6a (l0 : List R4) : ∀ s, Xd prog (Zy prog 130) (rgmC l0) (rgmC l0 s) (z1d l0 s)
 | .h0 v8 => (lb (fun k0 => (lo fun aF => (lb (fun k1 => (lb (fun k2 => (lr 13 130 [1, 1, 0, 1, 0, 0] 1 77 [(2, .nils), (3, (ii 8))] (sl y1n 54 [] ⟨[], [], [some [2, 3]], []⟩ ⟨[], [], []⟩ (trs 3 []) (tt k2 (tt k1 (ww aF (tt k0 nn))))))) (fun k2 => (lo fun o0 => (lr 13 3 [1, 1, 1, 1, 1, 1, 0] 1 77 [(2, (.dat (Jm (cvT l0)).length (Zz (Jm (cvT l0))))), (3, (ii (z4q (cvT l0))))] (sl y1n 59 [] ⟨[], [], [some [2, 3]], []⟩ ⟨[], [], []⟩ [true, true, false] (pp (pp (xr l0) (xw o0)) (tt k2 (tt k1 (ww aF (tt k0 nn))))))))))) (fun k1 => (sl y1n 44 [] ⟨[], [], rgmN0, rgmM0⟩ ⟨[], [], []⟩ [true, false] (tt k1 (ww aF (tt k0 nn)))))))) (fun k0 => (lo fun o0 => (lr 13 3 [1, 1, 1, 1, 1, 1, 0] 1 77 [(2, (.dat (Jm (cvT l0)).length (Zz (Jm (cvT l0))))), (3, (ii (z4q (cvT l0))))] (sl y1n 28 [] ⟨[], [], [some [2, 3]], []⟩ ⟨[], [], []⟩ [false, false] (pp (pp (xr l0) (xw o0)) (tt k0 nn)))))))
theorem x0a (l0 : List R4) : Xd prog (Zy prog 130) (rgmC l0) (Zg prog 130 [(.dat l0.length (Zz l0))] true []) (z4g l0) := (lb (fun k0 => (lr 13 130 [1, 0, 1, 0, 0] 1 77 [(2, .nils), (3, (ii 4))] (sl y1n 18 [] ⟨[], [], [some [2, 3]], []⟩ ⟨[], [], []⟩ [true] (tt k0 nn)))) (fun k0 => (sl y1n 41 [] ⟨[], [], rgmN0, rgmM0⟩ ⟨[], [], []⟩ [false] (tt k0 nn))))
theorem w6d (l0 : List R4) (n : Nat) (vs : List AVal) (h : Yu (z1d l0) n (z4g l0) = .ret vs) : Ur prog (Zy prog 130) (Zg prog 130 [(.dat l0.length (Zz l0))] true []) vs := by
 have := Ze (x6a l0) n _ (x0a l0)
 rwa [h] at this
end Go.Am
namespace Go.Am
open Go.Proofs.Tryz
open Go.Proofs
open Go.Sort Go.Shelf Go.RowKit Go.Lib
theorem v1p (l : List R4) (hl : l.length ≤ 400) : ∀ (k i : Nat), i + k = l.length → (∀ s ∈ l.take i, z1a s = true) → ∃ n, Yu (z1d l) n (.to (.h0 (i : Int))) = .ret (bif l.all z1a then [.dat (Jm l).length (Zz (Jm l)), .int .i64 (z4q l)] else [.nils, .int .i64 8])
 | 0, i, h, ht => by
  have hv : l.all z1a = true := List.all_eq_true.2 fun s hs => ht s (by rw [List.take_of_length_le (by omega)]; exact hs)
  have w : z1k l = true := decide_eq_true hl
  refine ⟨1, ?_⟩
  rw [Zw, hv, cond_true]
  simp (disch := omega) only [z1d, Zc, w, Zs, cond_true, cond_false, Zm]
 | k + 1, i, h, ht => by
  have hi : i < l.length := by omega
  have hs : z1d l (.h0 (i : Int)) = bif z1a (rd l i) then .to (.h0 ((i + 1 : Nat) : Int)) else .ret [.nils, .int .i64 8] := by
   have e : vl4V (rd l i).a (rd l i).b (rd l i).c (rd l i).d = z1a (rd l i) := rfl
   simp (disch := omega) only [z1d, e, y4x, x4q, w3g, Yj, Zj, Zv, Zk, Bool.and_true, cond_true, cond_false]
  rcases Zn (z1a (rd l i)) with q | q
  ·obtain ⟨n, hn⟩ := v1p l hl k (i + 1) (by omega) (fun s hs => by
    rw [List.take_add_one] at hs
    have e : l[i]? = some (rd l i) := by rw [Xa hi]; exact List.getElem?_eq_getElem _
    rw [e] at hs
    simp only [Option.toList_some, List.mem_append, List.mem_singleton] at hs
    rcases hs with hs | rfl
    ·exact ht s hs
    ·exact q)
   refine ⟨n + 1, ?_⟩
   rw [Zw, hs, q, cond_true]
   exact hn
  ·have hv : l.all z1a = false := Bool.eq_false_iff.2 fun e => by
    have := List.all_eq_true.1 e (rd l i) (by rw [Xa hi]; exact List.getElem_mem hi)
    rw [this] at q; cases q
   refine ⟨1, ?_⟩
   rw [Zw, hv, cond_false, hs, q, cond_false, Zm]
theorem w6c (l : List R4) : ∃ n, Yu (z1d l) n (z4g l) = .ret (bif decide (400 < l.length) then [.nils, .int .i64 4] else bif l.all z1a then [.dat (Jm l).length (Zz (Jm l)), .int .i64 (z4q l)] else [.nils, .int .i64 8]) := by
 unfold z4g
 by_cases h : 400 < l.length
 ·refine ⟨0, ?_⟩
  rw [decide_eq_true h, Yn (show (l.length : Int) > 400 by omega)]; rfl
 ·obtain ⟨n, hn⟩ := v1p l (by omega) l.length 0 (Nat.zero_add _) (fun s hs => by simp at hs)
  refine ⟨n, ?_⟩
  rw [decide_eq_false h, Yo (show ¬ (l.length : Int) > 400 by omega), cond_false, cond_false]
  exact hn
def Zr (l : List R4) : List R4 := bif decide (400 < l.length) then [] else bif l.all z1a then (bif decide (((D4.out l).length : Int) > 400) then [] else D4.out l) else []
def Xt (l : List R4) : Int := bif decide (400 < l.length) then 4 else bif l.all z1a then (bif decide (((D4.out l).length : Int) > 400) then 4 else 0) else 8
def Qf (l : List R4) : Bool := true
theorem v5t (l : List R4) (h : Qf l = true) : ∃ n, Yu (z1d l) n (z4g l) = .ret (bif decide (400 < l.length) then [.nils, .int .i64 4] else bif l.all z1a then [.dat (Zr l).length (Zz (Zr l)), .int .i64 (Xt l)] else [.nils, .int .i64 8]) := by
 obtain ⟨n, hn⟩ := w6c l
 refine ⟨n, hn.trans ?_⟩
 cases h1 : decide (400 < l.length) <;> cases h2 : l.all z1a <;> simp only [cond_true, cond_false]
 have e0 : Jm l = Zr l := by
  unfold Jm madE v3b x2h Zr
  rw [h1, h2]
  cases decide (((D4.out l).length : Int) > 400) <;> rfl
 have e1 : z4q l = Xt l := by
  unfold z4q madE x2h Xt
  rw [h1, h2]; rfl
 rw [e0, e1]
def fRgm : List AVal → Option (AVal × Bool)
 | [a0] => match asL R4 a0 with
  | some (L0, g0, n0) => some (.tup [.dat (Zr L0).length (Zz (Zr L0)), .int .i64 (Xt L0)], isT R4 n0 g0 && (Qf L0))
  | _ => none
 | _ => none
theorem v7v {S : Specs} (hS : Zu prog S) : Zu prog (S.with x3q fRgm) := by
 refine w8i hS (by kernel_rfl) fun args v h => ?_
 unfold fRgm at h
 split at h
 ·rename_i a0
  split at h
  ·rename_i L0 g0 n0 e0
   simp only [Option.some.injEq, Prod.mk.injEq, Bool.and_eq_true] at h
   obtain ⟨rfl, ho0, hw⟩ := h
   obtain ⟨N, hN⟩ := v5t L0 hw
   refine ⟨_, _, (.cons (asL_le e0 ho0) .nil), ?_, w6d L0 N _ hN, 3, ?_⟩
   ·cases h1 : decide (400 < L0.length) <;> cases h2 : L0.all z1a <;> simp only [Zr, Xt, h1, h2, cond_true, cond_false]
    ·exact fun ρ u hu => z1b (.cons (Kp R4) (RLe.refl _)) ρ u hu
    ·exact fun ρ u hu => hu
    ·exact fun ρ u hu => z1b (.cons (Kp R4) (RLe.refl _)) ρ u hu
    ·exact fun ρ u hu => z1b (.cons (Kp R4) (RLe.refl _)) ρ u hu
   ·cases decide (400 < L0.length) <;> cases L0.all z1a <;> rfl
  ·cases h
 ·cases h
def T7 : Specs := (T6m.with x3q fRgm)
theorem y8k : Zu prog T7 := (v7v y1n)
end Go.Am
namespace Go.Am
open Go.Proofs.Tryz
open Go.Proofs
inductive vl6S where
def vl6C (aM : Int) (aK : Int) (aI : Int) (aO : Int) (aT : Int) (aP : Int) : vl6S → Cfg
 := nofun
def y8r (aM : Int) (aK : Int) (aI : Int) (aO : Int) (aT : Int) (aP : Int) : vl6S → Xj vl6S
 := nofun
def z7q (aM : Int) (aK : Int) (aI : Int) (aO : Int) (aT : Int) (aP : Int) : Xj vl6S := (bif (decide (aM < aO)) then (bif (decide (aK < aT)) then (bif (decide (aI < aP)) then (bif (decide ((Wa (Wa aM aK) aI) ≥ (-1000000))) then (bif (decide ((Xv (Xv aM aK) aI) ≤ 1000000)) then (bif (decide ((Wa (Wa aO aT) aP) ≥ (-1000000))) then (.ret [(.bool (decide ((Xv (Xv aO aT) aP) ≤ 1000000)))]) else (.ret [(.bool false)])) else (.ret [(.bool false)])) else (.ret [(.bool false)])) else (.ret [(.bool false)])) else (.ret [(.bool false)])) else (.ret [(.bool false)]))
theorem x4y (aM : Int) (aK : Int) (aI : Int) (aO : Int) (aT : Int) (aP : Int) : ∀ s, Xd prog (Zy prog 107) (vl6C aM aK aI aO aT aP) (vl6C aM aK aI aO aT aP s) (y8r aM aK aI aO aT aP s)
 := nofun
theorem y8s (aM : Int) (aK : Int) (aI : Int) (aO : Int) (aT : Int) (aP : Int) : Xd prog (Zy prog 107) (vl6C aM aK aI aO aT aP) (Zg prog 107 [(.agg [(.int .i64 aM), (.int .i64 aK), (.int .i64 aI), (.int .i64 aO), (.int .i64 aT), (.int .i64 aP)])] true []) (z7q aM aK aI aO aT aP) := (lb (fun k0 => (lb (fun k1 => (lb (fun k2 => (lb (fun k3 => (lb (fun k4 => (lb (fun k5 => (lr 38 3 [1, 1, 1, 1, 1, 1, 0] 1 15 [(2, (.bool (decide ((Xv (Xv aO aT) aP) ≤ 1000000))))] (sl y8k 100 [] ⟨[], [], [some [2]], []⟩ ⟨[], [], []⟩ (trs 36 []) (tt k5 (tt k4 (tt k3 (tt k2 (tt k1 (tt k0 nn))))))))) (fun k5 => (lr 38 3 [1, 1, 1, 1, 1, 1, 0] 1 15 [(2, (.bool false))] (sl y8k 100 [] ⟨[], [], [some [2]], []⟩ ⟨[], [], []⟩ (trs 28 [false, false, false, false, false, false, false, false]) (tt k5 (tt k4 (tt k3 (tt k2 (tt k1 (tt k0 nn))))))))))) (fun k4 => (lr 38 3 [1, 1, 1, 1, 1, 1, 0] 1 15 [(2, (.bool false))] (sl y8k 72 [] ⟨[], [], [some [2]], []⟩ ⟨[], [], []⟩ (trs 25 [false, false, false]) (tt k4 (tt k3 (tt k2 (tt k1 (tt k0 nn)))))))))) (fun k3 => (lr 38 3 [1, 1, 1, 1, 1, 1, 0] 1 15 [(2, (.bool false))] (sl y8k 72 [] ⟨[], [], [some [2]], []⟩ ⟨[], [], []⟩ (trs 17 [false, false, false, false, false, false, false, false, false, false, false]) (tt k3 (tt k2 (tt k1 (tt k0 nn))))))))) (fun k2 => (lr 38 3 [1, 1, 1, 1, 1, 1, 0] 1 15 [(2, (.bool false))] (sl y8k 44 [] ⟨[], [], [some [2]], []⟩ ⟨[], [], []⟩ (trs 14 [false, false, false, false, false, false]) (tt k2 (tt k1 (tt k0 nn)))))))) (fun k1 => (lr 38 3 [1, 1, 1, 1, 1, 1, 0] 1 15 [(2, (.bool false))] (sl y8k 44 [] ⟨[], [], [some [2]], []⟩ ⟨[], [], []⟩ (trs 7 [false, false, false, false, false, false, false, false, false, false, false, false, false]) (tt k1 (tt k0 nn))))))) (fun k0 => (lr 38 3 [1, 1, 1, 1, 1, 1, 0] 1 15 [(2, (.bool false))] (sl y8k 44 [] ⟨[], [], [some [2]], []⟩ ⟨[], [], []⟩ [false, false, false, false, false, false, false, false, false, false, false, false, false, false, false, false, false, false, false, false] (tt k0 nn)))))
theorem w4t (aM : Int) (aK : Int) (aI : Int) (aO : Int) (aT : Int) (aP : Int) (n : Nat) (vs : List AVal) (h : Yu (y8r aM aK aI aO aT aP) n (z7q aM aK aI aO aT aP) = .ret vs) : Ur prog (Zy prog 107) (Zg prog 107 [(.agg [(.int .i64 aM), (.int .i64 aK), (.int .i64 aI), (.int .i64 aO), (.int .i64 aT), (.int .i64 aP)])] true []) vs := by
 have := Ze (x4y aM aK aI aO aT aP) n _ (y8s aM aK aI aO aT aP)
 rwa [h] at this
end Go.Am
namespace Go.Am
open Go.Proofs.Tryz
open Go.Proofs
open Go.Sort Go.Shelf Go.RowKit Go.Lib
def Jk (r : R6) : Bool := decide (r.a < r.d) && (decide (r.b < r.e) && (decide (r.c < r.f) && (decide ((Wa (Wa r.a r.b) r.c) ≥ (-1000000)) && (decide ((Xv (Xv r.a r.b) r.c) ≤ 1000000) && (decide ((Wa (Wa r.d r.e) r.f) ≥ (-1000000)) && decide ((Xv (Xv r.d r.e) r.f) ≤ 1000000))))))
def v3y (a b c d e f : Int) : Bool := Jk ⟨a, b, c, d, e, f⟩
theorem v3x (a b c d e f : Int) : ∃ N, Yu (y8r a b c d e f) N (z7q a b c d e f) = .ret [.bool (v3y a b c d e f)] := ⟨0, by
 unfold z7q v3y Jk
 simp only [x2k]
 cases decide (a < d) <;> cases decide (b < e) <;> cases decide (c < f) <;> cases decide ((Wa (Wa a b) c) ≥ (-1000000)) <;> cases decide ((Xv (Xv a b) c) ≤ 1000000) <;> cases decide ((Wa (Wa d e) f) ≥ (-1000000)) <;> rfl⟩
def fVl6 : List AVal → Option (AVal × Bool)
 | [.agg [.int .i64 aM, .int .i64 aK, .int .i64 aI, .int .i64 aO, .int .i64 aT, .int .i64 aP]] => some (.bool (v3y aM aK aI aO aT aP), true)
 | _ => none
theorem v7k {S : Specs} (hS : Zu prog S) : Zu prog (S.with x3o fVl6) := by
 refine z0x hS (by kernel_rfl) fun args v h => ?_
 unfold fVl6 at h
 split at h
 ·rename_i aM aK aI aO aT aP
  simp only [Option.some.injEq, Prod.mk.injEq, and_true] at h
  subst h
  obtain ⟨N, hN⟩ := v3x aM aK aI aO aT aP
  exact ⟨_, _, (.cons (.refl _) .nil), rfl, w4t aM aK aI aO aT aP N _ hN, 3, rfl⟩
 ·cases h
def T7v : Specs := (T7.with x3o fVl6)
theorem Wb : Zu prog T7v := (v7k y8k)
end Go.Am
namespace Go.Am
open Go.Proofs.Tryz
open Go.Proofs
inductive sckS where
 | h0 (v8 : Int)
 | h1 (v16 : Int) (aC : List Int)
 | h2 (v4 : Int) (aH : List R6) (bF : List R4) (bK : Int) (bL : Int) (aG : Nat) (aJ : List Int)
 | h3 (v4 : Int) (v38 : Int) (aH : List R6) (bF : List R4) (bK : Int) (bL : Int) (aG : Nat) (aJ : List Int) (bD : Int) (bS : Int) (aB : List R4)
 | h4 (v1 : Int) (v2 : Int) (v72 : List R4) (v73 : Int) (v74 : Int) (bE : List R4) (aY : Int) (aA : List R6) (aN : List R4) (aR : Int) (aG : Nat) (aJ : List Int) (bD : List R4)
 | h5 (v2 : Int) (v8 : Int) (bY : Int) (bE : List R4) (aY : Int) (aA : List R6) (aN : List R4) (aR : Int) (bB : Int) (bQ : Nat) (bW : List Int) (aB : List R4)
def sckC (l0 : List R6) : sckS → Cfg
 | .h0 v8 => ⟨⟨19, 0, true⟩, none, (Za prog 124 [1, 0, 1, 0, 0] 0), none, (Zy prog 3), ⟨Yb [(0, (.dat l0.length (Zz l0))), (1, (.fn 106 [])), (7, (ii (l0.length : Int))), (8, (ii v8))], Vq [] 0, 0, [], true⟩, [⟨⟨9, 0, true⟩, (Vi prog 86 [1, 0] 2), (Za prog 86 [1, 0] 1), none, (Zy prog 3), Yb [(5, (.dat l0.length (Zz l0))), (6, (.fn 106 []))]⟩, ⟨⟨25, 0, true⟩, (Vi prog 72 [1, 1, 0, 0] 1), (Za prog 72 [1, 1, 0, 0] 1), none, (Zy prog 15), Yb [(0, (.dat l0.length (Zz l0))), (8, (.dat l0.length (Zz l0)))]⟩], .leaf⟩
 | .h1 v16 aC => ⟨⟨36, 0, true⟩, none, (Za prog 129 [1, 1, 0, 1, 0, 0, 1, 1, 0, 0, 1, 1, 0, 0] 0), none, (Zy prog 15), ⟨Yb [(1, (.ptr 0 0)), (3, (.ptr 2 0)), (8, (.sl 1 0 1 (.un 1))), (9, (ii 1)), (10, (ii 0)), (14, (.dat l0.length (Zz l0))), (15, (ii (l0.length : Int))), (16, (ii v16))], Vq [⟨[(.sl 1 0 1 (.un 1))], 168, none⟩, ⟨[(.dat l0.length (Zz l0))], 22, none⟩, ⟨[(.sla 7 1 0 aC.length (.un 1))], 47, none⟩, ⟨[.nilf], 124, none⟩, ⟨[.nils], 30, none⟩, ⟨[(ii 0)], 24, none⟩, ⟨[.nils, .nils, (ii 0), (ii 0)], 170, none⟩, ⟨rows aC.length (Zz aC), 3, some ⟨1, aC.length, (Zz aC)⟩⟩] 0, 8, [], true⟩, [⟨⟨65, 0, true⟩, (Vi prog 108 [1, 1, 0, 0] 1), (Za prog 108 [1, 1, 0, 0] 1), none, (Zy prog 36), Yb [(2, (.ptr 3 0)), (4, (.ptr 4 0)), (5, (.ptr 5 0)), (6, (.ptr 6 0)), (13, (.sl 1 0 1 (.un 1)))]⟩, ⟨⟨25, 0, true⟩, (Vi prog 72 [1, 1, 1, 0, 0] 3), (Za prog 72 [1, 1, 1, 0, 0] 1), none, (Zy prog 15), Yb [(0, (.dat l0.length (Zz l0))), (11, (.agg [.nilf])), (13, (.sl 1 0 1 (.un 1)))]⟩], .leaf⟩
 | .h2 v4 aH bF bK bL aG aJ => ⟨⟨86, 0, true⟩, none, (Za prog 150 [1, 0, 0] 0), none, [], ⟨Yb [(0, (.yld 0)), (1, (.ptr 5 0)), (2, (.ptr 7 0)), (4, (ii v4))], y6x [(1, ⟨[.nilf], 124, none⟩), (2, ⟨[.nils], 30, none⟩), (3, ⟨[(ii 0)], 24, none⟩), (4, ⟨[(.sla 9 6 0 aH.length (.un 6)), (.dat bF.length (Zz bF)), (ii bK), (ii bL)], 170, none⟩), (5, ⟨[(.sla 6 1 0 aG (.un 1))], 47, none⟩), (6, ⟨rows aJ.length (Zz aJ), 3, some ⟨1, aJ.length, (Zz aJ)⟩⟩), (7, ⟨[(.sl 8 0 1 (.un 1))], 168, none⟩), (8, ⟨[(.dat l0.length (Zz l0))], 22, none⟩), (9, ⟨rows aH.length (Zz aH), 68, some ⟨6, aH.length, (Zz aH)⟩⟩)], 10, [], true⟩, [⟨⟨65, 0, true⟩, none, (.inRangeFunc 0 :: (Za prog 108 [1, 1, 0, 1, 0] 1)), none, (Zy prog 36), Yb [(4, (.ptr 2 0)), (5, (.ptr 3 0)), (6, (.ptr 4 0))]⟩, ⟨⟨25, 0, true⟩, (Vi prog 72 [1, 1, 1, 0, 0] 3), (Za prog 72 [1, 1, 1, 0, 0] 1), none, (Zy prog 15), Yb [(0, (.dat l0.length (Zz l0))), (11, (.agg [.nilf])), (13, (.sl 8 0 1 (.un 1)))]⟩], (y6y [(0, ⟨.ready, none, 65, Yb [(2, (.ptr 1 0)), (4, (.ptr 2 0)), (5, (.ptr 3 0)), (6, (.ptr 4 0))], [15], (Vm prog 108 [1, 1, 0, 1, 0, 0]), (Vm prog 108 [1, 1, 0, 1, 0, 1])⟩)])⟩
 | .h3 v4 v38 aH bF bK bL aG aJ bD bS aB => ⟨⟨86, 0, true⟩, none, (Za prog 150 [1, 0, 0, 1, 0, 0, 1, 0, 1, 0, 0, 1, 1, 0, 0, 1, 1, 0, 0] 0), none, [], ⟨Yb [(0, (.yld 0)), (1, (.ptr 5 0)), (2, (.ptr 7 0)), (4, (ii v4)), (5, (.ptr 9 0)), (6, (ii 0)), (29, (.sl 8 0 1 (.un 1))), (30, (ii 1)), (31, (ii 0)), (36, (.dat l0.length (Zz l0))), (37, (ii (l0.length : Int))), (38, (ii v38))], y6x [(1, ⟨[.nilf], 124, none⟩), (2, ⟨[.nils], 30, none⟩), (3, ⟨[(ii 0)], 24, none⟩), (4, ⟨[(.sla 12 6 0 aH.length (.un 6)), (.dat bF.length (Zz bF)), (ii bK), (ii bL)], 170, none⟩), (5, ⟨[(.sla 6 1 0 aG (.un 1))], 47, none⟩), (6, ⟨rows aJ.length (Zz aJ), 3, some ⟨1, aJ.length, (Zz aJ)⟩⟩), (7, ⟨[(.sl 8 0 1 (.un 1))], 168, none⟩), (8, ⟨[(.dat l0.length (Zz l0))], 22, none⟩), (9, ⟨[(ii bD), (ii bS), (.sl 10 0 1 (.ex 1))], 175, none⟩), (10, ⟨[(.sla 11 4 0 aB.length (.un 4))], 105, none⟩), (11, ⟨rows aB.length (Zz aB), 114, some ⟨4, aB.length, (Zz aB)⟩⟩), (12, ⟨rows aH.length (Zz aH), 68, some ⟨6, aH.length, (Zz aH)⟩⟩)], 13, [], true⟩, [⟨⟨65, 0, true⟩, none, (.inRangeFunc 0 :: (Za prog 108 [1, 1, 0, 1, 0] 1)), none, (Zy prog 36), Yb [(4, (.ptr 2 0)), (5, (.ptr 3 0)), (6, (.ptr 4 0))]⟩, ⟨⟨25, 0, true⟩, (Vi prog 72 [1, 1, 1, 0, 0] 3), (Za prog 72 [1, 1, 1, 0, 0] 1), none, (Zy prog 15), Yb [(0, (.dat l0.length (Zz l0))), (11, (.agg [.nilf])), (13, (.sl 8 0 1 (.un 1)))]⟩], (y6y [(0, ⟨.ready, none, 65, Yb [(2, (.ptr 1 0)), (4, (.ptr 2 0)), (5, (.ptr 3 0)), (6, (.ptr 4 0))], [15], (Vm prog 108 [1, 1, 0, 1, 0, 0]), (Vm prog 108 [1, 1, 0, 1, 0, 1])⟩)])⟩
 | .h4 v1 v2 v72 v73 v74 bE aY aA aN aR aG aJ bD => ⟨⟨101, 0, true⟩, none, (Za prog 131 [1, 1, 1, 0, 0] 0), none, [], ⟨Yb [(0, (.ptr 0 0)), (1, (ii v1)), (2, (ii v2)), (72, (.dat v72.length (Zz v72))), (73, (ii v73)), (74, (ii v74))], y6x [(0, ⟨[(.sla 10 6 0 aA.length (.un 6)), (.dat aN.length (Zz aN)), (ii aR), (ii v2)], 170, none⟩), (2, ⟨[.nilf], 124, none⟩), (3, ⟨[.nils], 30, none⟩), (4, ⟨[(ii 0)], 24, none⟩), (5, ⟨[(.sla 6 1 0 aG (.un 1))], 47, none⟩), (6, ⟨rows aJ.length (Zz aJ), 3, some ⟨1, aJ.length, (Zz aJ)⟩⟩), (7, ⟨[(.sl 8 0 1 (.un 1))], 168, none⟩), (8, ⟨[(.dat l0.length (Zz l0))], 22, none⟩), (9, ⟨[(.dat bD.length (Zz bD))], 105, none⟩), (10, ⟨rows aA.length (Zz aA), 68, some ⟨6, aA.length, (Zz aA)⟩⟩)], 11, [], true⟩, [⟨⟨65, 0, true⟩, (Vi prog 108 [1, 1, 0, 1, 0, 1, 0, 1, 1, 1] 5), (Za prog 108 [1, 1, 0, 1, 0, 1, 0, 1, 1, 1] 1), (some 1), [], Yb [(6, (.ptr 0 0)), (54, (ii v1)), (56, (ii v2)), (57, (.dat bE.length (Zz bE)))]⟩, ⟨⟨86, 0, true⟩, (Vi prog 150 [1, 0, 0, 1, 0, 0, 1, 1, 0] 2), (Za prog 150 [1, 0, 0, 1, 0, 0, 1, 1, 0] 1), none, [], Yb [(0, (.yld 1)), (1, (.ptr 5 0)), (2, (.ptr 7 0)), (4, (ii aY)), (82, (.yld 1)), (83, (.agg [(ii v1), (ii v2), (.sl 9 0 1 (.ex 1))]))]⟩, ⟨⟨65, 0, true⟩, none, (.inRangeFunc 1 :: (Za prog 108 [1, 1, 0, 1, 0] 1)), none, (Zy prog 36), Yb [(4, (.ptr 3 0)), (5, (.ptr 4 0)), (6, (.ptr 0 0))]⟩, ⟨⟨25, 0, true⟩, (Vi prog 72 [1, 1, 1, 0, 0] 3), (Za prog 72 [1, 1, 1, 0, 0] 1), none, (Zy prog 15), Yb [(0, (.dat l0.length (Zz l0))), (11, (.agg [.nilf])), (13, (.sl 8 0 1 (.un 1)))]⟩], (y6y [(1, ⟨.busy, none, 65, Yb [(2, (.ptr 2 0)), (4, (.ptr 3 0)), (5, (.ptr 4 0)), (6, (.ptr 0 0))], [15], (Vm prog 108 [1, 1, 0, 1, 0, 0]), (Vm prog 108 [1, 1, 0, 1, 0, 1])⟩)])⟩
 | .h5 v2 v8 bY bE aY aA aN aR bB bQ bW aB => ⟨⟨101, 0, true⟩, none, (Za prog 131 [0, 1, 0, 0, 1, 0, 0] 0), none, [], ⟨Yb [(0, (.ptr 0 0)), (2, (ii v2)), (8, (ii v8))], y6x [(0, ⟨[(.sla 1 6 0 aA.length (.un 6)), (.dat aN.length (Zz aN)), (ii aR), (ii bB)], 170, none⟩), (1, ⟨rows aA.length (Zz aA), 68, some ⟨6, aA.length, (Zz aA)⟩⟩), (3, ⟨[.nilf], 124, none⟩), (4, ⟨[.nils], 30, none⟩), (5, ⟨[(ii 0)], 24, none⟩), (6, ⟨[(.sla 7 1 0 bQ (.un 1))], 47, none⟩), (7, ⟨rows bW.length (Zz bW), 3, some ⟨1, bW.length, (Zz bW)⟩⟩), (8, ⟨[(.sl 9 0 1 (.un 1))], 168, none⟩), (9, ⟨[(.dat l0.length (Zz l0))], 22, none⟩), (10, ⟨[(.dat aB.length (Zz aB))], 105, none⟩)], 11, [], true⟩, [⟨⟨65, 0, true⟩, (Vi prog 108 [1, 1, 0, 1, 0, 1, 0, 1, 1, 1] 5), (Za prog 108 [1, 1, 0, 1, 0, 1, 0, 1, 1, 1] 1), (some 2), [], Yb [(6, (.ptr 0 0)), (54, (ii bY)), (56, (ii v2)), (57, (.dat bE.length (Zz bE)))]⟩, ⟨⟨86, 0, true⟩, (Vi prog 150 [1, 0, 0, 1, 0, 0, 1, 1, 0] 2), (Za prog 150 [1, 0, 0, 1, 0, 0, 1, 1, 0] 1), none, [], Yb [(0, (.yld 2)), (1, (.ptr 6 0)), (2, (.ptr 8 0)), (4, (ii aY)), (82, (.yld 2)), (83, (.agg [(ii bY), (ii v2), (.sl 10 0 1 (.ex 1))]))]⟩, ⟨⟨65, 0, true⟩, none, (.inRangeFunc 2 :: (Za prog 108 [1, 1, 0, 1, 0] 1)), none, (Zy prog 36), Yb [(4, (.ptr 4 0)), (5, (.ptr 5 0)), (6, (.ptr 0 0))]⟩, ⟨⟨25, 0, true⟩, (Vi prog 72 [1, 1, 1, 0, 0] 3), (Za prog 72 [1, 1, 1, 0, 0] 1), none, (Zy prog 15), Yb [(0, (.dat l0.length (Zz l0))), (11, (.agg [.nilf])), (13, (.sl 9 0 1 (.un 1)))]⟩], (y6y [(2, ⟨.busy, none, 65, Yb [(2, (.ptr 3 0)), (4, (.ptr 4 0)), (5, (.ptr 5 0)), (6, (.ptr 0 0))], [15], (Vm prog 108 [1, 1, 0, 1, 0, 0]), (Vm prog 108 [1, 1, 0, 1, 0, 1])⟩)])⟩
def sckN0 : List (Option (List Nat)) := [some [0, 1, 7, 8], some [5, 6], some [0, 8]]
def sckM0 : List (Option (List Nat)) := []
def v4s : List (Option (List Nat)) := [some [1, 3, 8, 9, 10, 14, 15, 16], some [2, 4, 5, 6, 13], some [0, 11, 13]]
def v4u : List (Option (List Nat)) := []
def v4r : List (Option (List Nat)) := [some [0, 1, 2, 4], some [4, 5, 6], some [0, 11, 13]]
def v4t : List (Option (List Nat)) := [some [2, 4, 5, 6], none, none, none, none, none, none, none, none, none]
def w5i : List (Option (List Nat)) := [some [0, 1, 2, 4, 5, 6, 29, 30, 31, 36, 37, 38], some [4, 5, 6], some [0, 11, 13]]
def w5k : List (Option (List Nat)) := [some [2, 4, 5, 6], none, none, none, none, none, none, none, none, none, none, none, none]
def w5h : List (Option (List Nat)) := [some [0, 1, 2, 72, 73, 74], some [6, 54, 56, 57], some [0, 1, 2, 4, 82, 83], some [4, 5, 6], some [0, 11, 13]]
def w5j : List (Option (List Nat)) := [none, some [2, 4, 5, 6], none, none, none, none, none, none, none, none, none]
def sckN5 : List (Option (List Nat)) := [some [0, 2, 8], some [6, 54, 56, 57], some [0, 1, 2, 4, 82, 83], some [4, 5, 6], some [0, 11, 13]]
def sckM5 : List (Option (List Nat)) := [none, none, some [2, 4, 5, 6], none, none, none, none, none, none, none, none]
def Yt (l0 : List R6) : sckS → Xj sckS
 | .h0 v8 => (bif (decide (v8 < (l0.length : Int))) then (bif ((decide (0 ≤ v8 ∧ v8 < (l0.length : Int))) && true) then (bif (!(v3y (rd l0 v8.toNat).a (rd l0 v8.toNat).b (rd l0 v8.toNat).c (rd l0 v8.toNat).d (rd l0 v8.toNat).e (rd l0 v8.toNat).f)) then (bif (decide (v8 ≥ 0)) then (.ret [(.int .i64 8)]) else (.to (.h1 0 ([] : List Int)))) else (.to (.h0 (IntKind.wrap .i64 (v8 + 1))))) else .stuck) else (.to (.h1 0 ([] : List Int))))
 | .h1 v16 aC => (bif (decide (v16 < (l0.length : Int))) then (bif ((decide (0 ≤ v16 ∧ v16 < (l0.length : Int))) && true) then (bif (Nat.beq 1 1 && ((decide (0 + aC.length = aC.length)) && decide ((aC.length + 2 + 1) * (8 + 1) ≤ Kd))) then (.to (.h1 (IntKind.wrap .i64 (v16 + 1)) (aC ++ [(rd l0 v16.toNat).c, (rd l0 v16.toNat).f]))) else .stuck) else .stuck) else (bif (decide (aC.length < 4611686018427387904)) then (bif (decide (aC.length = aC.length)) then (.to (.h2 1 ([] : List R6) ([] : List R4) 0 0 (cmpN (Yy aC.length (cOf (Zz (Wk (Yy aC.length (cOf (Zz aC)))))))) (Vk (Yy aC.length (cOf (Zz (Wk (Yy aC.length (cOf (Zz aC)))))))))) else .stuck) else .stuck))
 | .h2 v4 aH bF bK bL aG aJ => (bif (decide (v4 < ((aG : Nat) : Int))) then (bif ((decide (0 ≤ (IntKind.wrap .i64 (v4 - 1)) ∧ (IntKind.wrap .i64 (v4 - 1)) < ((aG : Nat) : Int))) && true) then (bif (decide ((0 + (Int.toNat (IntKind.wrap .i64 (v4 - 1)))) < aJ.length)) then (bif ((decide (0 ≤ v4 ∧ v4 < ((aG : Nat) : Int))) && true) then (bif (decide ((0 + v4.toNat) < aJ.length)) then (.to (.h3 v4 0 aH bF bK bL aG aJ (rd aJ (0 + (Int.toNat (IntKind.wrap .i64 (v4 - 1))))) (rd aJ (0 + v4.toNat)) ([] : List R4))) else .stuck) else .stuck) else .stuck) else .stuck) else (bif (decide ((aH.length : Int) > 400)) then (.ret [(.int .i64 8)]) else (bif (Nat.beq 6 6 && (decide (0 + aH.length ≤ aH.length) && Qr (Zz aH))) then (bif (Vf (lst R6 (aH.length) (fun k => (Zz aH) (0 + k))) (cvT l0)) then (bif (!(Jy (lst R6 (aH.length) (fun k => (Zz aH) (0 + k))) (cvT l0))) then (.ret [(.int .i64 8)]) else (.ret [(.int .i64 0)])) else .stuck) else .stuck)))
 | .h3 v4 v38 aH bF bK bL aG aJ bD bS aB => (bif (decide (v38 < (l0.length : Int))) then (bif ((decide (0 ≤ v38 ∧ v38 < (l0.length : Int))) && true) then (bif (decide ((rd l0 v38.toNat).c ≤ bD)) then (bif (decide (bD < (rd l0 v38.toNat).f)) then (bif (Nat.beq 4 4 && ((decide (0 + aB.length = aB.length)) && decide ((aB.length + 1 + 1) * (32 + 1) ≤ Kd))) then (.to (.h3 v4 (IntKind.wrap .i64 (v38 + 1)) aH bF bK bL aG aJ bD bS (aB ++ [(R4.mk (rd l0 v38.toNat).a (rd l0 v38.toNat).b (rd l0 v38.toNat).d (rd l0 v38.toNat).e)]))) else .stuck) else (.to (.h3 v4 (IntKind.wrap .i64 (v38 + 1)) aH bF bK bL aG aJ bD bS aB))) else (.to (.h3 v4 (IntKind.wrap .i64 (v38 + 1)) aH bF bK bL aG aJ bD bS aB))) else .stuck) else (bif (Qf (cvT aB)) then (bif ((Xt (cvT aB)) != 0) then (.ret [(.int .i64 8)]) else (bif (decide ((((Zr (cvT aB)).length : Nat) : Int) > 0)) then (bif (bL == bD) then (bif (Wc (cvT bF) (cvT (Zr (cvT aB)))) then (bif (Jx (cvT bF) (cvT (Zr (cvT aB)))) then (.to (.h5 bS bK bD (Zr (cvT aB)) v4 aH bF bK bL aG aJ aB)) else (.to (.h4 bD bS (Zr (cvT aB)) (((Zr (cvT aB)).length : Nat) : Int) 0 (Zr (cvT aB)) v4 aH (Zr (cvT aB)) (aH.length : Int) aG aJ aB))) else .stuck) else (.to (.h4 bD bS (Zr (cvT aB)) (((Zr (cvT aB)).length : Nat) : Int) 0 (Zr (cvT aB)) v4 aH (Zr (cvT aB)) (aH.length : Int) aG aJ aB))) else (.to (.h4 bD bS (Zr (cvT aB)) (((Zr (cvT aB)).length : Nat) : Int) 0 (Zr (cvT aB)) v4 aH (Zr (cvT aB)) (aH.length : Int) aG aJ aB)))) else .stuck))
 | .h4 v1 v2 v72 v73 v74 bE aY aA aN aR aG aJ bD => (bif (decide (v74 < v73)) then (bif ((decide (0 ≤ v74 ∧ v74 < (v72.length : Int))) && true) then (bif (Nat.beq 6 6 && ((decide (0 + aA.length = aA.length)) && decide ((aA.length + 1 + 1) * (48 + 1) ≤ Kd))) then (.to (.h4 v1 v2 v72 v73 (IntKind.wrap .i64 (v74 + 1)) bE aY (aA ++ [(R6.mk (rd v72 v74.toNat).a (rd v72 v74.toNat).b v1 (rd v72 v74.toNat).c (rd v72 v74.toNat).d v2)]) aN aR aG aJ bD)) else .stuck) else .stuck) else (.to (.h2 (IntKind.wrap .i64 (aY + 1)) aA aN aR v2 aG aJ)))
 | .h5 v2 v8 bY bE aY aA aN aR bB bQ bW aB => (bif (decide (v8 < (aA.length : Int))) then (bif ((decide (0 ≤ v8 ∧ v8 < (aA.length : Int))) && true) then (bif (decide ((0 + v8.toNat) < aA.length)) then (.to (.h5 v2 (IntKind.wrap .i64 (v8 + 1)) bY bE aY (aA.set (0 + v8.toNat) (R6.mk (rd aA (0 + v8.toNat)).a (rd aA (0 + v8.toNat)).b (rd aA (0 + v8.toNat)).c (rd aA (0 + v8.toNat)).d (rd aA (0 + v8.toNat)).e v2)) aN aR bB bQ bW aB)) else .stuck) else .stuck) else (.to (.h2 (IntKind.wrap .i64 (aY + 1)) aA aN aR v2 bQ bW)))
def z7w (l0 : List R6) : Xj sckS := (bif (decide ((l0.length : Int) > 400)) then (.ret [(.int .i64 4)]) else (.to (.h0 0)))
theorem x5j (l0 : List R6) : ∀ s, Xd prog (Zy prog 72) (sckC l0) (sckC l0 s) (Yt l0 s)
 | .h0 v8 => (lb (fun k0 => (lo fun aF => (lb (fun k1 => (lb (fun k2 => (lr 25 72 [1, 1, 0, 1, 0, 0] 1 15 [(2, (ii 8))] (sl Wb 53 [] ⟨[], [], [some [2]], []⟩ ⟨[], [], []⟩ (trs 3 []) (tt k2 (tt k1 (ww aF (tt k0 nn))))))) (fun k2 => (sl Wb 113 [(3, 1, Zz ([] : List Int))] ⟨[6, 1, 7, 2, 3, 4, 5, 8], [], v4s, v4u⟩ ⟨[], [.keep, .keep, .cells [.grow 7 1], .keep, .keep, .keep, .keep, .keep], []⟩ [true, true, false, true] (pp (fl ([] : List Int) nn) (tt k2 (tt k1 (ww aF (tt k0 nn))))))))) (fun k1 => (sl Wb 44 [] ⟨[], [], sckN0, sckM0⟩ ⟨[], [], []⟩ [true, false] (tt k1 (ww aF (tt k0 nn)))))))) (fun k0 => (sl Wb 82 [(3, 1, Zz ([] : List Int))] ⟨[5, 0, 6, 1, 2, 3, 4, 7], [], v4s, v4u⟩ ⟨[], [.keep, .keep, .cells [.grow 7 1], .keep, .keep, .keep, .keep, .keep], []⟩ [false, false, true] (pp (fl ([] : List Int) nn) (tt k0 nn)))))
 | .h1 v16 aC => (lb (fun k0 => (lo fun o0 => (lo fun o1 => (sl Wb 34 [] ⟨[0, 1, 2, 3, 4, 5, 6, 10], [], v4s, v4u⟩ ⟨[], [.keep, .keep, .cells [.len (aC ++ [(rd l0 (tn v16)).c, (rd l0 (tn v16)).f]).length], .keep, .keep, .keep, .keep, .rowed 1 (aC ++ [(rd l0 (tn v16)).c, (rd l0 (tn v16)).f]).length (Zz (aC ++ [(rd l0 (tn v16)).c, (rd l0 (tn v16)).f]))], []⟩ [true] (pp (xL (aC.length + 2) (aC ++ [(rd l0 (tn v16)).c, (rd l0 (tn v16)).f]).length) (pp (xL (aC.length + 2) (aC ++ [(rd l0 (tn v16)).c, (rd l0 (tn v16)).f]).length) (pp (xS (aC.length + 2) (Zh (Zz aC) 0 aC.length 1 [(ii (rd l0 (tn v16)).c), (ii (rd l0 (tn v16)).f)]) (Zz (aC ++ [(rd l0 (tn v16)).c, (rd l0 (tn v16)).f]))) (pp (pp (xF (Zh (Zz aC) 0 aC.length 1 [(ii (rd l0 (tn v16)).c), (ii (rd l0 (tn v16)).f)])) nn) (ww o1 (ww o0 (tt k0 nn))))))))))) (fun k0 => (lo fun o0 => (lo fun o1 => (sl Wb 46 [(68, 6, Zz ([] : List R6))] ⟨[8, 3, 4, 5, 6, 2, 7, 0, 1, 9], [], v4r, v4t⟩ ⟨[], (kpB 4 [.cells [.grow 9 6, .list 0 (Zz ([] : List R4)), .keep, .keep], .keep, .rowed 1 (Vk (Yy aC.length (cOf (Zz (Wk (Yy aC.length (cOf (Zz aC)))))))).length (Zz (Vk (Yy aC.length (cOf (Zz (Wk (Yy aC.length (cOf (Zz aC))))))))), .keep, .keep, .keep]), []⟩ [false, false] (pp (xL aC.length (Vk (Yy aC.length (cOf (Zz (Wk (Yy aC.length (cOf (Zz aC)))))))).length (by first | exact y0f _ _ | exact Jn rfl)) (pp (xS aC.length (Zz (Vk (Yy aC.length (cOf (Zz (Wk (Yy aC.length (cOf (Zz aC))))))))) (Zz (Vk (Yy aC.length (cOf (Zz (Wk (Yy aC.length (cOf (Zz aC)))))))))) (pp (fl (Vk (Yy aC.length (cOf (Zz (Wk (Yy aC.length (cOf (Zz aC)))))))) (fl ([] : List R6) nn)) (pp (pp (xG (Nat.beq 1 1)) (pp (xG (Nat.beq 1 1)) (pp (xG (Nat.beq 0 0)) (pp (xG (decide (aC.length = aC.length))) (pp (xG (isI (Zz (Wk (Yy aC.length (cOf (Zz aC))))))) (xG (decide (aC.length < 4611686018427387904)))))))) (pp (pp (xG (Nat.beq 1 1)) (pp (xG (Nat.beq 1 1)) (pp (xG (Nat.beq 0 0)) (pp (xG (decide (aC.length = aC.length))) (pp (xG (isI (Zz aC))) (xG (decide (aC.length < 4611686018427387904)))))))) (tt k0 nn)))))))))))
 | .h2 v4 aH bF bK bL aG aJ => (lb (fun k0 => (lo fun o0 => (lo fun o1 => (lo fun o2 => (lo fun o3 => (sl Wb 48 [(114, 4, Zz ([] : List R4))] ⟨[0, 1, 2, 3, 4, 5, 6, 7, 8, 10, 11, 12, 9], [], w5i, w5k⟩ ⟨[], (kpB 10 [.cells [.grow 11 4], .keep, .keep]), []⟩ (trs 3 []) (pp (fl aJ (fl ([] : List R4) (fl aH nn))) (ww o3 (ww o2 (ww o1 (ww o0 (tt k0 nn)))))))))))) (fun k0 => (lb (fun k1 => (lr 25 72 [1, 1, 1, 0, 1, 1, 0, 0] 1 15 [(2, (ii 8))] (sl Wb 50 [] ⟨[], [], [some [2]], []⟩ ⟨[], [], []⟩ [false, true, true, true, true, true, true] (tt k1 (tt k0 nn))))) (fun k1 => (lo fun cP => (lo fun dI => (lb (fun k2 => (lr 25 72 [1, 1, 1, 0, 1, 1, 0, 0] 1 15 [(2, (ii 8))] (sl Wb 53 [] ⟨[], [], [some [2]], []⟩ ⟨[], [], []⟩ [false, false, false, false, false, false, true] (tt k2 (pp (pp (pp (xw cP) (pp nn nn)) (pp (xI R6 (aH.length) (fun k => (Zz aH) (0 + k))) (pp (xr l0) (xw dI)))) (tt k1 (tt k0 nn))))))) (fun k2 => (lr 25 3 [1, 1, 1, 1, 1, 1, 0] 1 15 [(2, (ii 0))] (sl Wb 54 [] ⟨[], [], [some [2]], []⟩ ⟨[], [], []⟩ [false, false, false, false, false, false, false] (tt k2 (pp (pp (pp (xw cP) (pp nn nn)) (pp (xI R6 (aH.length) (fun k => (Zz aH) (0 + k))) (pp (xr l0) (xw dI)))) (tt k1 (tt k0 nn))))))))))))))
 | .h3 v4 v38 aH bF bK bL aG aJ bD bS aB => (lb (fun k0 => (lo fun aF => (lb (fun k1 => (lb (fun k2 => (lo fun o0 => (sl Wb 41 [] ⟨[0, 1, 2, 3, 4, 5, 6, 7, 8, 9, 10, 15, 12], [], w5i, w5k⟩ ⟨[], (kpB 10 [.cells [.len (aB ++ [(R4.mk (rd l0 (tn v38)).a (rd l0 (tn v38)).b (rd l0 (tn v38)).d (rd l0 (tn v38)).e)]).length], .rowed 4 (aB ++ [(R4.mk (rd l0 (tn v38)).a (rd l0 (tn v38)).b (rd l0 (tn v38)).d (rd l0 (tn v38)).e)]).length (Zz (aB ++ [(R4.mk (rd l0 (tn v38)).a (rd l0 (tn v38)).b (rd l0 (tn v38)).d (rd l0 (tn v38)).e)])), .keep]), []⟩ (trs 8 []) (pp (xL (aB.length + 1) (aB ++ [(R4.mk (rd l0 (tn v38)).a (rd l0 (tn v38)).b (rd l0 (tn v38)).d (rd l0 (tn v38)).e)]).length) (pp (xL (aB.length + 1) (aB ++ [(R4.mk (rd l0 (tn v38)).a (rd l0 (tn v38)).b (rd l0 (tn v38)).d (rd l0 (tn v38)).e)]).length) (pp (xS (aB.length + 1) (Zh (Zz aB) 0 aB.length 4 [(ii (rd l0 (tn v38)).a), (ii (rd l0 (tn v38)).b), (ii (rd l0 (tn v38)).d), (ii (rd l0 (tn v38)).e)]) (Zz (aB ++ [(R4.mk (rd l0 (tn v38)).a (rd l0 (tn v38)).b (rd l0 (tn v38)).d (rd l0 (tn v38)).e)]))) (pp (fl aJ (pp (xF (Zh (Zz aB) 0 aB.length 4 [(ii (rd l0 (tn v38)).a), (ii (rd l0 (tn v38)).b), (ii (rd l0 (tn v38)).d), (ii (rd l0 (tn v38)).e)])) (fl aH nn))) (ww o0 (tt k2 (tt k1 (ww aF (tt k0 nn)))))))))))) (fun k2 => (sl Wb 41 [] ⟨(List.range 13), [], w5i, w5k⟩ ⟨[], [], []⟩ (trs 7 [false]) (pp (fl aJ (fl aB (fl aH nn))) (tt k2 (tt k1 (ww aF (tt k0 nn))))))))) (fun k1 => (sl Wb 41 [] ⟨(List.range 13), [], w5i, w5k⟩ ⟨[], [], []⟩ [true, false, false, false, false, false, false, false] (pp (fl aJ (fl aB (fl aH nn))) (tt k1 (ww aF (tt k0 nn))))))))) (fun k0 => (Vb (sl Wb (C' := ⟨⟨65, 0, true⟩, (Vi prog 108 [1, 1, 0, 1, 0, 1, 0, 0] 4), (Za prog 108 [1, 1, 0, 1, 0, 1, 0, 0] 1), (some 0), [], ⟨Yb [(2, (.ptr 1 0)), (4, (.ptr 2 0)), (5, (.ptr 3 0)), (6, (.ptr 4 0)), (7, (.ptr 6 0)), (20, (.dat aB.length (Zz aB)))], y6x [(1, ⟨[.nilf], 124, none⟩), (2, ⟨[.nils], 30, none⟩), (3, ⟨[(ii 0)], 24, none⟩), (4, ⟨[(.sla 5 6 0 aH.length (.un 6)), (.dat bF.length (Zz bF)), (ii bK), (ii bL)], 170, none⟩), (5, ⟨rows aH.length (Zz aH), 68, some ⟨6, aH.length, (Zz aH)⟩⟩), (6, ⟨[(ii bD), (ii bS), (.sl 7 0 1 (.ex 1))], 175, none⟩), (7, ⟨[(.dat aB.length (Zz aB))], 105, none⟩), (8, ⟨[(.sla 9 1 0 aG (.un 1))], 47, none⟩), (9, ⟨rows aJ.length (Zz aJ), 3, some ⟨1, aJ.length, (Zz aJ)⟩⟩), (10, ⟨[(.sl 11 0 1 (.un 1))], 168, none⟩), (11, ⟨[(.dat l0.length (Zz l0))], 22, none⟩)], 12, [], true⟩, [⟨⟨86, 0, true⟩, (Vi prog 150 [1, 0, 0, 1, 0, 0, 1, 1, 0] 2), (Za prog 150 [1, 0, 0, 1, 0, 0, 1, 1, 0] 1), none, [], Yb [(0, (.yld 0)), (1, (.ptr 8 0)), (2, (.ptr 10 0)), (4, (ii v4)), (82, (.yld 0)), (83, (.agg [(ii bD), (ii bS), (.sl 7 0 1 (.ex 1))]))]⟩, ⟨⟨65, 0, true⟩, none, (.inRangeFunc 0 :: (Za prog 108 [1, 1, 0, 1, 0] 1)), none, (Zy prog 36), Yb [(4, (.ptr 2 0)), (5, (.ptr 3 0)), (6, (.ptr 4 0))]⟩, ⟨⟨25, 0, true⟩, (Vi prog 72 [1, 1, 1, 0, 0] 3), (Za prog 72 [1, 1, 1, 0, 0] 1), none, (Zy prog 15), Yb [(0, (.dat l0.length (Zz l0))), (11, (.agg [.nilf])), (13, (.sl 11 0 1 (.un 1)))]⟩], (y6y [(0, ⟨.busy, none, 65, Yb [(2, (.ptr 1 0)), (4, (.ptr 2 0)), (5, (.ptr 3 0)), (6, (.ptr 4 0))], [15], (Vm prog 108 [1, 1, 0, 1, 0, 0]), (Vm prog 108 [1, 1, 0, 1, 0, 1])⟩)])⟩) 37 [] ⟨[0, 1, 2, 3, 4, 12, 13, 10, 5, 6, 7, 8], [11], [some [2, 4, 5, 6, 7, 20], some [0, 1, 2, 4, 82, 83], some [4, 5, 6], some [0, 11, 13]], [some [2, 4, 5, 6], none, none, none, none, none, none, none, none, none, none, none]⟩ ⟨[(20, .frz aB.length aB.length (Zz aB) (Zz aB))], [.keep, .keep, .keep, .keep, .keep, .keep, .keep, .cells [.frz aB.length aB.length (Zz aB) (Zz aB)], .keep, .keep, .keep, .keep], []⟩ [false, false] (pp (xZ (z8r 4 4 0 aB.length aB.length (Zz aB)) aB.length (Zz aB)) (pp (xL aB.length aB.length) (pp (xS aB.length (Zz aB) (Zz aB)) (pp (xZ (z8r 4 4 0 aB.length aB.length (Zz aB)) aB.length (Zz aB)) (pp (xL aB.length aB.length) (pp (xS aB.length (Zz aB) (Zz aB)) (pp (fl aH (fl aJ nn)) (pp (fl aB nn) (tt k0 nn)))))))))) (lo fun aF => (lb (fun k1 => (lr 25 72 [1, 1, 1, 0, 1, 1, 0, 0] 1 15 [(2, (ii 8))] (sl Wb 67 [] ⟨[], [], [some [2]], []⟩ ⟨[], [], []⟩ [false, true, true, true, true, true, true, true] (tt k1 (tt k1 (pp (pp (xr aB) (xw aF)) nn)))))) (fun k1 => (lb (fun k2 => (lb (fun k3 => (lo fun cT => (lb (fun k4 => (sl Wb 75 [] ⟨[4, 5, 0, 1, 2, 3, 8, 9, 10, 11, 7], [], sckN5, sckM5⟩ ⟨[], [], []⟩ [false, false, true, true, true, true, true, true, true, true, true, true, true, true, true] (pp (fl aH (fl aJ nn)) (tt k4 (pp (pp (xr bF) (pp (xI R4 (Zr (cvT aB)).length (Zz (Zr (cvT aB)))) (xw cT))) (tt k3 (tt k2 (tt k1 (pp (pp (xr aB) (xw aF)) nn))))))))) (fun k4 => (sl Wb 95 [] ⟨[4, 0, 1, 2, 3, 8, 9, 10, 11, 7, 5], [], w5h, w5j⟩ ⟨[], [], []⟩ [false, false, true, true, true, true, true, true, true, true, true, true, true, true, false] (pp (fl aJ (fl aH nn)) (tt k4 (pp (pp (xr bF) (pp (xI R4 (Zr (cvT aB)).length (Zz (Zr (cvT aB)))) (xw cT))) (tt k3 (tt k2 (tt k1 (pp (pp (xr aB) (xw aF)) nn)))))))))))) (fun k3 => (sl Wb 95 [] ⟨[4, 0, 1, 2, 3, 8, 9, 10, 11, 7, 5], [], w5h, w5j⟩ ⟨[], [], []⟩ [false, false, true, true, true, true, true, true, false, false, false, false, false, false, false] (pp (fl aJ (fl aH nn)) (tt k3 (tt k2 (tt k1 (pp (pp (xr aB) (xw aF)) nn))))))))) (fun k2 => (sl Wb 95 [] ⟨[4, 0, 1, 2, 3, 8, 9, 10, 11, 7, 5], [], w5h, w5j⟩ ⟨[], [], []⟩ [false, false, false, false, false, false, false, false, false, false, false, false, false, false, false] (pp (fl aJ (fl aH nn)) (tt k2 (tt k1 (pp (pp (xr aB) (xw aF)) nn)))))))))))))
 | .h4 v1 v2 v72 v73 v74 bE aY aA aN aR aG aJ bD => (lb (fun k0 => (lo fun o0 => (lo fun o1 => (sl Wb 23 [] ⟨[0, 1, 2, 3, 4, 5, 6, 7, 8, 9, 13], [], w5h, w5j⟩ ⟨[], [.cells [.len (aA ++ [(R6.mk (rd v72 (tn v74)).a (rd v72 (tn v74)).b v1 (rd v72 (tn v74)).c (rd v72 (tn v74)).d v2)]).length, .keep, .keep, .keep], .keep, .keep, .keep, .keep, .keep, .keep, .keep, .keep, .keep, .rowed 6 (aA ++ [(R6.mk (rd v72 (tn v74)).a (rd v72 (tn v74)).b v1 (rd v72 (tn v74)).c (rd v72 (tn v74)).d v2)]).length (Zz (aA ++ [(R6.mk (rd v72 (tn v74)).a (rd v72 (tn v74)).b v1 (rd v72 (tn v74)).c (rd v72 (tn v74)).d v2)]))], []⟩ [true] (pp (xL (aA.length + 1) (aA ++ [(R6.mk (rd v72 (tn v74)).a (rd v72 (tn v74)).b v1 (rd v72 (tn v74)).c (rd v72 (tn v74)).d v2)]).length) (pp (xL (aA.length + 1) (aA ++ [(R6.mk (rd v72 (tn v74)).a (rd v72 (tn v74)).b v1 (rd v72 (tn v74)).c (rd v72 (tn v74)).d v2)]).length) (pp (xS (aA.length + 1) (Zh (Zz aA) 0 aA.length 6 [(ii (rd v72 (tn v74)).a), (ii (rd v72 (tn v74)).b), (ii v1), (ii (rd v72 (tn v74)).c), (ii (rd v72 (tn v74)).d), (ii v2)]) (Zz (aA ++ [(R6.mk (rd v72 (tn v74)).a (rd v72 (tn v74)).b v1 (rd v72 (tn v74)).c (rd v72 (tn v74)).d v2)]))) (pp (fl aJ (pp (xF (Zh (Zz aA) 0 aA.length 6 [(ii (rd v72 (tn v74)).a), (ii (rd v72 (tn v74)).b), (ii v1), (ii (rd v72 (tn v74)).c), (ii (rd v72 (tn v74)).d), (ii v2)])) nn)) (ww o1 (ww o0 (tt k0 nn))))))))))) (fun k0 => (sl Wb 22 [] ⟨[1, 2, 3, 4, 0, 5, 6, 7, 8, 10], [], v4r, v4t⟩ ⟨[], [], []⟩ [false, false] (pp (fl aJ (fl aA nn)) (tt k0 nn)))))
 | .h5 v2 v8 bY bE aY aA aN aR bB bQ bW aB => (lb (fun k0 => (lo fun o0 => (lo fun o1 => (sl Wb 34 [] ⟨(List.range 11), [], sckN5, sckM5⟩ ⟨[], [.cells [.len (aA.set (0 + (tn v8)) (R6.mk (rd aA (0 + (tn v8))).a (rd aA (0 + (tn v8))).b (rd aA (0 + (tn v8))).c (rd aA (0 + (tn v8))).d (rd aA (0 + (tn v8))).e v2)).length, .keep, .keep, .keep], .rowed 6 (aA.set (0 + (tn v8)) (R6.mk (rd aA (0 + (tn v8))).a (rd aA (0 + (tn v8))).b (rd aA (0 + (tn v8))).c (rd aA (0 + (tn v8))).d (rd aA (0 + (tn v8))).e v2)).length (Zz (aA.set (0 + (tn v8)) (R6.mk (rd aA (0 + (tn v8))).a (rd aA (0 + (tn v8))).b (rd aA (0 + (tn v8))).c (rd aA (0 + (tn v8))).d (rd aA (0 + (tn v8))).e v2))), .keep, .keep, .keep, .keep, .keep, .keep, .keep, .keep, .keep], []⟩ [true] (pp (xL aA.length (aA.set (0 + (tn v8)) (R6.mk (rd aA (0 + (tn v8))).a (rd aA (0 + (tn v8))).b (rd aA (0 + (tn v8))).c (rd aA (0 + (tn v8))).d (rd aA (0 + (tn v8))).e v2)).length) (pp (xL aA.length (aA.set (0 + (tn v8)) (R6.mk (rd aA (0 + (tn v8))).a (rd aA (0 + (tn v8))).b (rd aA (0 + (tn v8))).c (rd aA (0 + (tn v8))).d (rd aA (0 + (tn v8))).e v2)).length) (pp (xS aA.length (Xr (Zz aA) (0 + (tn v8)) 5 [(ii v2)]) (Zz (aA.set (0 + (tn v8)) (R6.mk (rd aA (0 + (tn v8))).a (rd aA (0 + (tn v8))).b (rd aA (0 + (tn v8))).c (rd aA (0 + (tn v8))).d (rd aA (0 + (tn v8))).e v2)))) (pp (pp (xF (Xr (Zz aA) (0 + (tn v8)) 5 [(ii v2)])) (fl bW nn)) (ww o1 (ww o0 (tt k0 nn))))))))))) (fun k0 => (sl Wb 36 [] ⟨[2, 3, 4, 5, 0, 6, 7, 8, 9, 1], [], v4r, v4t⟩ ⟨[], [], []⟩ [false, false] (pp (fl bW (fl aA nn)) (tt k0 nn)))))
theorem y9g (l0 : List R6) : Xd prog (Zy prog 72) (sckC l0) (Zg prog 72 [(.dat l0.length (Zz l0))] true []) (z7w l0) := (lb (fun k0 => (lr 25 72 [1, 0, 1, 0, 0] 1 15 [(2, (ii 4))] (sl Wb 16 [] ⟨[], [], [some [2]], []⟩ ⟨[], [], []⟩ [true] (tt k0 nn)))) (fun k0 => (sl Wb 40 [] ⟨[], [], sckN0, sckM0⟩ ⟨[], [], []⟩ [false] (tt k0 nn))))
theorem w5g (l0 : List R6) (n : Nat) (vs : List AVal) (h : Yu (Yt l0) n (z7w l0) = .ret vs) : Ur prog (Zy prog 72) (Zg prog 72 [(.dat l0.length (Zz l0))] true []) vs := by
 have := Ze (x5j l0) n _ (y9g l0)
 rwa [h] at this
end Go.Am
namespace Go.Am
open Go.Proofs.Tryz
open Go.Proofs Go.Sort Go.Shelf Go.RowKit Go.Lib
theorem x0b (l : List R4) : (Zr l).length ≤ 400 := by
 unfold Zr
 by_cases h : 400 < l.length
 ·rw [decide_eq_true h]; exact Nat.zero_le _
 ·rw [decide_eq_false h]
  cases l.all z1a
  ·exact Nat.zero_le _
  ·show (bif decide (((D4.out l).length : Int) > 400) then [] else D4.out l).length ≤ 400
   by_cases h2 : ((D4.out l).length : Int) > 400
   ·rw [decide_eq_true h2]; exact Nat.zero_le _
   ·rw [decide_eq_false h2]; show (D4.out l).length ≤ 400; omega
def D6 : Dim R6 R4 := ⟨R6.c, R6.f, fun r => ⟨r.a, r.b, r.d, r.e⟩, fun x x' s => ⟨s.a, s.b, x, s.c, s.d, x'⟩, fun x r => ⟨r.a, r.b, r.c, r.d, r.e, x⟩, Zr, Jx⟩
theorem v3t (l : List R6) (x : Int) : (D6.sec l x).length ≤ 1000 := Nat.le_trans (x0b _) (by omega)
def sckErr : List AVal := [.int .i64 8]
def y5r (l out : List R6) : List AVal := bif decide ((out.length : Int) > 400) then [.int .i64 8] else bif Jy out l then [.int .i64 0] else [.int .i64 8]
def x8h (l : List R6) (x : Int) : Bool := Xt (D6.inn l x) != 0
def okF (l : List R6) : Nat → Nat → Bool
 | 0, _ => true
 | k + 1, i => bif x8h l (rd (D6.cuts l) i) then false else okF l k (i + 1)
section
variable (l : List R6) (hl : l.length ≤ 400)
include hl
theorem v0p (i : Nat) (out : List R6) (last : List R4) (first fin x x' : Int) : ∀ (k j : Nat) (acc : List R4), j + k = l.length → acc.length ≤ j →
  ∃ n, ∀ N, Yu (Yt l) (N + n) (.to (.h3 (i : Int) (j : Int) out last first fin ((D6.cuts l).length) (Vk (Wk (D6.ends l))) x x' acc)) = Yu (Yt l) N (.to (.h3 (i : Int) (l.length : Int) out last first fin ((D6.cuts l).length) (Vk (Wk (D6.ends l))) x x' (acc ++ D6.inn (l.drop j) x)))
 | 0, j, acc, h, ha => by
  refine ⟨0, fun N => ?_⟩
  rw [List.drop_eq_nil_of_le (by omega), show D6.inn ([] : List R6) x = [] from rfl, List.append_nil, Nat.add_zero, show j = l.length by omega]
 | k + 1, j, acc, h, ha => by
  have hj : j < l.length := by omega
  obtain ⟨n, hn⟩ := v0p i out last first fin x x' k (j + 1) (acc ++ D6.inn [rd l j] x) (by omega) (by have := D6.inn_length [rd l j] x; simp only [List.length_append, List.length_singleton] at *; omega)
  refine ⟨n + 1, fun N => ?_⟩
  have e : D6.inn (l.drop j) x = D6.inn [rd l j] x ++ D6.inn (l.drop (j + 1)) x := by
   rw [Yg hj, ← D6.inn_append]; rfl
  rw [e, ← Nat.add_assoc, Zw, ← List.append_assoc, ← hn N]
  by_cases h1 : D6.lo (rd l j) ≤ x
  ·by_cases h2 : x < D6.hi (rd l j)
   ·rw [D6.inn_t _ _ h1 h2]
    simp only [D6] at h1 h2 ⊢
    simp (disch := omega) only [Yt, Xx, Zc, Zp, Yv, Yj, Yp, Yd, Yf, Zt, Zj, Zv, Yi, Zk, Nat.zero_add, decide_true, Bool.and_true, Bool.true_and, cond_true, cond_false]
   ·rw [D6.inn_f2 _ _ h2, List.append_nil]
    simp only [D6] at h1 h2
    simp (disch := omega) only [Yt, Xx, Zs, Zc, Zp, Yv, Yj, Yp, Yd, Yf, Zt, Zj, Zv, Yi, Zk, Nat.zero_add, decide_true, Bool.and_true, Bool.true_and, cond_true, cond_false]
  ·rw [D6.inn_f1 _ _ h1, List.append_nil]
   simp only [D6] at h1
   simp (disch := omega) only [Yt, v9a, Zc, Zp, Yv, Yj, Yp, Yd, Yf, Zt, Zj, Zv, Yi, Zk, Nat.zero_add, decide_true, Bool.and_true, Bool.true_and, cond_true, cond_false]
theorem v0o (i : Nat) (hi : i ≤ 1000) (x x' : Int) (s last : List R4) (first : Int) (inn : List R4) (hs : s.length ≤ 1000) : ∀ (k j : Nat) (out : List R6), j + k = s.length → out.length ≤ 10000000 + j →
  ∃ n, ∀ N, Yu (Yt l) (N + n) (.to (.h4 x x' s (s.length : Int) (j : Int) s (i : Int) out last first ((D6.cuts l).length) (Vk (Wk (D6.ends l))) inn)) = Yu (Yt l) N (.to (.h2 ((i + 1 : Nat) : Int) (out ++ (s.drop j).map (D6.put x x')) last first x' ((D6.cuts l).length) (Vk (Wk (D6.ends l)))))
 | 0, j, out, h, ho => by
  have _u := hl
  refine ⟨1, fun N => ?_⟩
  rw [List.drop_eq_nil_of_le (by omega), Zw]
  simp (disch := omega) only [Yt, Zs, Zj, Zv, cond_false, List.map_nil, List.append_nil]
 | k + 1, j, out, h, ho => by
  obtain ⟨n, hn⟩ := v0o i hi x x' s last first inn hs k (j + 1) (out ++ [D6.put x x' (rd s j)]) (by omega) (by simp; omega)
  refine ⟨n + 1, fun N => ?_⟩
  have := hn N
  rw [Yg (show j < s.length by omega), List.map_cons, ← Nat.add_assoc, Zw]
  simp (disch := omega) only [Yt, Zc, Zp, Yv, Yj, Yp, Yd, Yf, Zt, Zj, Zv, Yi, Zk, Nat.zero_add, decide_true, Bool.and_true, Bool.true_and, cond_true, cond_false]
  rw [List.append_assoc] at this
  exact this
theorem v0n (i : Nat) (hi : i ≤ 1000) (x x' fin : Int) (s last : List R4) (first : Int) (inn : List R4) : ∀ (k j : Nat) (out : List R6), j + k = out.length → out.length ≤ 10000000 →
  ∃ n, ∀ N, Yu (Yt l) (N + n) (.to (.h5 x' (j : Int) x s (i : Int) out last first fin ((D6.cuts l).length) (Vk (Wk (D6.ends l))) inn)) = Yu (Yt l) N (.to (.h2 ((i + 1 : Nat) : Int) (D6.grow out j x') last first x' ((D6.cuts l).length) (Vk (Wk (D6.ends l)))))
 | 0, j, out, h, ho => by
  have _u := hl
  refine ⟨1, fun N => ?_⟩
  rw [D6.grow_nil _ _ _ (by omega), Zw]
  simp (disch := omega) only [Yt, Zs, Zj, Zv, cond_false]
 | k + 1, j, out, h, ho => by
  obtain ⟨n, hn⟩ := v0n i hi x x' fin s last first inn k (j + 1) (out.set j (D6.ext x' (rd out j))) (by simp; omega) (by simpa using ho)
  refine ⟨n + 1, fun N => ?_⟩
  have := hn N
  rw [D6.grow_set out j _ (by omega)] at this
  rw [← Nat.add_assoc, Zw]
  simp (disch := omega) only [Yt, Zc, Zp, Yv, Yj, Yp, Yd, Yf, Zt, Zj, Zv, Yi, Zk, Nat.zero_add, decide_true, Bool.and_true, Bool.true_and, cond_true, cond_false]
  exact this
theorem x9b : ∀ (k i : Nat) (s : Sw R6 R4), k = (D6.cuts l).length - 1 - i → i ≤ (D6.cuts l).length → s.out.length ≤ i * 1000 → s.last.length ≤ 1000 → s.first ≤ s.out.length →
  ∃ n, Yu (Yt l) n (.to (.h2 ((i + 1 : Nat) : Int) s.out s.last (s.first : Int) s.fin ((D6.cuts l).length) (Vk (Wk (D6.ends l))))) = .ret ((bif okF l k i then y5r l (D6.go l k i s).out else sckErr))
 | 0, i, s, h, hi, ho, hla, hf => by
  have hc := D6.cuts_length l
  refine ⟨1, ?_⟩
  rw [Zw, show D6.go l 0 i s = s from rfl, show okF l 0 i = true from rfl, cond_true]
  unfold y5r
  by_cases q : (s.out.length : Int) > 400
  ·simp (disch := omega) only [Yt, Zs, Yn, cond_true, cond_false, Zm]
  ·have e : lst R6 s.out.length (fun k => (Zz s.out) k) = s.out := Zp s.out
   have w : Vf s.out l = true := decide_eq_true (by omega)
   have f : Qr (Zz s.out) = true := Xu _
   rcases Zn (Jy s.out l) with q2 | q2 <;>
   simp (disch := omega) only [Yt, Zc, e, w, f, q2, Zs, Yo, Yp, Yi, Nat.zero_add, Bool.not_true, Bool.not_false, Bool.and_true, cond_true, cond_false, Zm]
 | k + 1, i, s, h, hi, ho, hla, hf => by
  have hc := D6.cuts_length l
  have hi1 : i + 1 < (D6.cuts l).length := by omega
  have hpl : (Vk (Wk (D6.ends l))).length = 2 * l.length := by rw [z0h, Kw, D6.ends_length]
  have r0 : rd (Vk (Wk (D6.ends l))) i = rd (D6.cuts l) i := y2l _ _ (by show i < (D6.cuts l).length; omega)
  have r1 : rd (Vk (Wk (D6.ends l))) (i + 1) = rd (D6.cuts l) (i + 1) := y2l _ _ (by show i + 1 < (D6.cuts l).length; omega)
  have hbig : i * 1000 ≤ 1000 * 1000 := Nat.mul_le_mul_right _ (by omega)
  have hsl := v3t l (rd (D6.cuts l) i)
  have hsd : D6.sec l (rd (D6.cuts l) i) = Zr (D6.inn l (rd (D6.cuts l) i)) := rfl
  obtain ⟨n3, h3⟩ := v0p l hl (i + 1) s.out s.last (s.first : Int) s.fin (rd (D6.cuts l) i) (rd (D6.cuts l) (i + 1)) l.length 0 [] (Nat.zero_add _) (Nat.le_refl _)
  simp only [List.drop_zero, List.nil_append, z1p] at h3
  have w1 : Qf (D6.inn l (rd (D6.cuts l) i)) = true := rfl
  have w2 : Wc s.last (Zr (D6.inn l (rd (D6.cuts l) i))) = true := decide_eq_true (by omega)
  have ol := D6.one_length l (rd (D6.cuts l) i) (rd (D6.cuts l) (i + 1)) s
  have st0 : ∀ N, Yu (Yt l) (N + n3 + 1) (.to (.h2 ((i + 1 : Nat) : Int) s.out s.last (s.first : Int) s.fin ((D6.cuts l).length) (Vk (Wk (D6.ends l))))) = Yu (Yt l) N (.to (.h3 ((i + 1 : Nat) : Int) (l.length : Int) s.out s.last (s.first : Int) s.fin ((D6.cuts l).length) (Vk (Wk (D6.ends l))) (rd (D6.cuts l) i) (rd (D6.cuts l) (i + 1)) (D6.inn l (rd (D6.cuts l) i)))) := fun N => by
   rw [← h3 N, Zw]
   have e1 : IntKind.wrap .i64 (((i + 1 : Nat) : Int) - 1) = (i : Int) := by rw [Zf]; exact Zj (by omega)
   simp (disch := omega) only [Yt, e1, r0, r1, Zc, Zp, Yv, Yj, Yp, Yd, Yf, Zt, Zj, Zv, Yi, Zk, Nat.zero_add, decide_true, Bool.and_true, Bool.true_and, cond_true, cond_false]
  rcases Zn (x8h l (rd (D6.cuts l) i)) with q0 | q0
  ·refine ⟨1 + n3 + 1, ?_⟩
   rw [st0 1, Zw]
   simp only [okF, q0, cond_true, cond_false]
   have q0' : (Xt (D6.inn l (rd (D6.cuts l) i)) != 0) = true := q0
   simp (disch := omega) only [Yt, Zc, Zp, Zs, q0', w1, cond_true, cond_false, Zm]
   rfl
  have q0' : (Xt (D6.inn l (rd (D6.cuts l) i)) != 0) = false := q0
  rcases Zn (decide (0 < (D6.sec l (rd (D6.cuts l) i)).length) && ((s.fin == rd (D6.cuts l) i) && D6.same s.last (D6.sec l (rd (D6.cuts l) i)))) with q | q
  ·obtain ⟨n5, h5⟩ := v0n l hl (i + 1) (by omega) (rd (D6.cuts l) i) (rd (D6.cuts l) (i + 1)) s.fin (D6.sec l (rd (D6.cuts l) i)) s.last (s.first : Int) (D6.inn l (rd (D6.cuts l) i)) (s.out.length - s.first) s.first s.out (by omega) (by omega)
   have e : D6.one l (rd (D6.cuts l) i) (rd (D6.cuts l) (i + 1)) s = ⟨D6.grow s.out s.first (rd (D6.cuts l) (i + 1)), s.last, s.first, rd (D6.cuts l) (i + 1)⟩ := by unfold Dim.one; rw [q]; rfl
   obtain ⟨n0, h0⟩ := x9b k (i + 1) (D6.one l (rd (D6.cuts l) i) (rd (D6.cuts l) (i + 1)) s) (by omega) (by omega) (by omega) (by rw [e]; exact hla) (by rw [e]; simpa [Dim.grow_length] using hf)
   refine ⟨n0 + n5 + 1 + n3 + 1, ?_⟩
   rw [st0 (n0 + n5 + 1), Zw]
   simp only [Bool.and_eq_true, decide_eq_true_eq] at q
   obtain ⟨q1, q2, q3⟩ := q
   have q3' : Jx s.last (Zr (D6.inn l (rd (D6.cuts l) i))) = true := q3
   rw [hsd] at q1
   simp (disch := omega) only [Yt, Zc, Zp, Zs, Yn, q0', q2, q3', w1, w2, cond_true, cond_false]
   rw [← hsd, h5 n0]
   simp only [okF, q0, cond_false]; simp only [Dim.go]
   rw [e] at h0 ⊢
   exact h0
  ·obtain ⟨n4, h4⟩ := v0o l hl (i + 1) (by omega) (rd (D6.cuts l) i) (rd (D6.cuts l) (i + 1)) (D6.sec l (rd (D6.cuts l) i)) (D6.sec l (rd (D6.cuts l) i)) (s.out.length : Int) (D6.inn l (rd (D6.cuts l) i)) hsl (D6.sec l (rd (D6.cuts l) i)).length 0 s.out (Nat.zero_add _) (by omega)
   simp only [List.drop_zero, z1p] at h4
   have e : D6.one l (rd (D6.cuts l) i) (rd (D6.cuts l) (i + 1)) s = ⟨s.out ++ (D6.sec l (rd (D6.cuts l) i)).map (D6.put (rd (D6.cuts l) i) (rd (D6.cuts l) (i + 1))), D6.sec l (rd (D6.cuts l) i), s.out.length, rd (D6.cuts l) (i + 1)⟩ := by unfold Dim.one; rw [q]; rfl
   obtain ⟨n0, h0⟩ := x9b k (i + 1) (D6.one l (rd (D6.cuts l) i) (rd (D6.cuts l) (i + 1)) s) (by omega) (by omega) (by omega) (by rw [e]; exact hsl) (by rw [e]; simp)
   have hg : Yu (Yt l) 1 (.to (.h3 ((i + 1 : Nat) : Int) (l.length : Int) s.out s.last (s.first : Int) s.fin ((D6.cuts l).length) (Vk (Wk (D6.ends l))) (rd (D6.cuts l) i) (rd (D6.cuts l) (i + 1)) (D6.inn l (rd (D6.cuts l) i)))) = .to (.h4 (rd (D6.cuts l) i) (rd (D6.cuts l) (i + 1)) (D6.sec l (rd (D6.cuts l) i)) ((D6.sec l (rd (D6.cuts l) i)).length : Int) 0 (D6.sec l (rd (D6.cuts l) i)) ((i + 1 : Nat) : Int) s.out (D6.sec l (rd (D6.cuts l) i)) (s.out.length : Int) ((D6.cuts l).length) (Vk (Wk (D6.ends l))) (D6.inn l (rd (D6.cuts l) i))) := by
    rw [show (1 : Nat) = 0 + 1 from rfl, Zw]
    rw [hsd] at q ⊢
    have e3 : D6.same s.last (Zr (D6.inn l (rd (D6.cuts l) i))) = Jx s.last (Zr (D6.inn l (rd (D6.cuts l) i))) := rfl
    rw [e3] at q
    by_cases q1 : 0 < (Zr (D6.inn l (rd (D6.cuts l) i))).length
    ·rw [decide_eq_true q1, Bool.true_and] at q
     rcases Zn (s.fin == rd (D6.cuts l) i) with q2 | q2
     ·rw [q2, Bool.true_and] at q
      simp (disch := omega) only [Yt, Zc, Zp, Zs, Yn, q0', q2, q, w1, w2, cond_true, cond_false]
      rfl
     ·simp (disch := omega) only [Yt, Zc, Zp, Zs, Yn, q0', q2, w1, w2, cond_true, cond_false]
      rfl
    ·simp (disch := omega) only [Yt, Zc, Zp, Zs, Yo, q0', w1, w2, cond_true, cond_false]
     rfl
   refine ⟨n0 + n4 + 1 + n3 + 1, ?_⟩
   rw [st0 (n0 + n4 + 1), y0o _ (n0 + n4) 1, hg, h4 n0]
   simp only [okF, q0, cond_false]; simp only [Dim.go]
   rw [e] at h0 ⊢
   exact h0
theorem v0q : ∀ (k i : Nat) (acc : List Int), i + k = l.length → acc = D6.ends (l.take i) → ∃ n, Yu (Yt l) n (.to (.h1 (i : Int) acc)) = .ret ((bif okF l ((D6.cuts l).length - 1) 0 then y5r l (D6.go l ((D6.cuts l).length - 1) 0 ⟨[], [], 0, 0⟩).out else sckErr))
 | 0, i, acc, h, ha => by
  have e : acc = D6.ends l := by rw [ha, List.take_of_length_le (by omega)]
  subst e
  have hle := D6.ends_length l
  obtain ⟨n, hn⟩ := x9b l hl ((D6.cuts l).length - 1) 0 ⟨[], [], 0, 0⟩ (by omega) (Nat.zero_le _) (Nat.zero_le _) (Nat.zero_le _) (Nat.zero_le _)
  refine ⟨n + 1, ?_⟩
  rw [Zw]
  simp (disch := omega) only [Yt, z0l, z5v, x2f, Zs, Yd, Yf, decide_true, cond_true, cond_false]
  exact hn
 | k + 1, i, acc, h, ha => by
  have hle := D6.ends_length (l.take i)
  have fK : acc.length ≤ 2 * i := by rw [ha, hle]; simp; omega
  obtain ⟨n, hn⟩ := v0q k (i + 1) (acc ++ D6.ends [rd l i]) (by omega) (by
   rw [ha, List.take_add_one]
   have : l[i]? = some (rd l i) := by rw [Xa (show i < l.length by omega)]; exact List.getElem?_eq_getElem _
   rw [this, D6.ends_append]; rfl)
  refine ⟨n + 1, ?_⟩
  rw [Zw]
  simp (disch := omega) only [Yt, Zc, Zp, Yv, Yj, Yp, Yd, Yf, Zt, Zj, Zv, Yi, Zk, Nat.zero_add, decide_true, Bool.and_true, Bool.true_and, cond_true, cond_false]
  exact hn
theorem v0r : ∀ (k i : Nat), i + k = l.length → (∀ s ∈ l.take i, Jk s = true) → ∃ n, Yu (Yt l) n (.to (.h0 (i : Int))) = .ret (bif l.all Jk then (bif okF l ((D6.cuts l).length - 1) 0 then y5r l (D6.go l ((D6.cuts l).length - 1) 0 ⟨[], [], 0, 0⟩).out else sckErr) else sckErr)
 | 0, i, h, ht => by
  have hv : l.all Jk = true := List.all_eq_true.2 fun s hs => ht s (by rw [List.take_of_length_le (by omega)]; exact hs)
  obtain ⟨n, hn⟩ := v0q l hl l.length 0 [] (Nat.zero_add _) rfl
  refine ⟨n + 1, ?_⟩
  rw [Zw, hv, cond_true]
  simp (disch := omega) only [Yt, Zs, cond_false]
  exact hn
 | k + 1, i, h, ht => by
  have hi : i < l.length := by omega
  have hs : Yt l (.h0 (i : Int)) = bif Jk (rd l i) then .to (.h0 ((i + 1 : Nat) : Int)) else .ret sckErr := by
   have e : v3y (rd l i).a (rd l i).b (rd l i).c (rd l i).d (rd l i).e (rd l i).f = Jk (rd l i) := rfl
   simp (disch := omega) only [Yt, e, y4x, x4q, w3g, Yj, Zj, Zv, Zk, Bool.and_true, cond_true, cond_false]
   rfl
  rcases Zn (Jk (rd l i)) with q | q
  ·obtain ⟨n, hn⟩ := v0r k (i + 1) (by omega) (fun s hs => by
    rw [List.take_add_one] at hs
    have e : l[i]? = some (rd l i) := by rw [Xa hi]; exact List.getElem?_eq_getElem _
    rw [e] at hs
    simp only [Option.toList_some, List.mem_append, List.mem_singleton] at hs
    rcases hs with hs | rfl
    ·exact ht s hs
    ·exact q)
   refine ⟨n + 1, ?_⟩
   rw [Zw, hs, q, cond_true]
   exact hn
  ·have hv : l.all Jk = false := Bool.eq_false_iff.2 fun e => by
    have := List.all_eq_true.1 e (rd l i) (by rw [Xa hi]; exact List.getElem_mem hi)
    rw [this] at q; cases q
   refine ⟨1, ?_⟩
   rw [Zw, hv, cond_false, hs, q, cond_false, Zm]
end
def Yx (l : List R6) : Int := bif decide (400 < l.length) then 4 else bif l.all Jk then (bif okF l ((D6.cuts l).length - 1) 0 then (bif decide (((D6.out l).length : Int) > 400) then 8 else bif Jy (D6.out l) l then 0 else 8) else 8) else 8
def x9c (l : List R6) : Bool := true
theorem v4q (l : List R6) : ∃ n, Yu (Yt l) n (z7w l) = .ret [.int .i64 (Yx l)] := by
 unfold z7w Yx
 by_cases h : 400 < l.length
 ·refine ⟨0, ?_⟩
  rw [decide_eq_true h, Yn (show (l.length : Int) > 400 by omega)]; rfl
 ·obtain ⟨n, hn⟩ := v0r l (by omega) l.length 0 (Nat.zero_add _) (fun s hs => by simp at hs)
  refine ⟨n, ?_⟩
  rw [decide_eq_false h, Yo (show ¬ (l.length : Int) > 400 by omega), cond_false, cond_false]
  rw [z1p] at hn
  rw [hn]
  unfold sckErr y5r
  cases l.all Jk <;> simp only [cond_true, cond_false]
  cases okF l ((D6.cuts l).length - 1) 0 <;> simp only [cond_true, cond_false]
  show Xj.ret (bif decide (((D6.out l).length : Int) > 400) then _ else bif Jy (D6.out l) l then _ else _) = _
  cases decide (((D6.out l).length : Int) > 400) <;> simp only [cond_true, cond_false]
  cases Jy (D6.out l) l <;> rfl
def fSck : List AVal → Option (AVal × Bool)
 | [a1] => match asL R6 a1 with
  | some (L1, g1, n1) => some (.int .i64 (Yx L1), isT R6 n1 g1 && x9c L1)
  | _ => none
 | _ => none
theorem v7p {S : Specs} (hS : Zu prog S) : Zu prog (S.with y6s fSck) := by
 refine z0x hS (by kernel_rfl) fun args v h => ?_
 unfold fSck at h
 split at h
 ·rename_i a1
  split at h
  ·rename_i L1 g1 n1 e1
   simp only [Option.some.injEq, Prod.mk.injEq, Bool.and_eq_true] at h
   obtain ⟨rfl, ho1, hw⟩ := h
   obtain ⟨N, hN⟩ := v4q L1
   exact ⟨_, _, (.cons (asL_le e1 ho1) .nil), rfl, w5g L1 N _ hN, 3, rfl⟩
  ·cases h
 ·cases h
def T8 : Specs := T7v.with y6s fSck
theorem Kh : Zu prog T8 := v7p Wb
end Go.Am
namespace Go.Am
open Go.Proofs.Tryz
open Go.Proofs
inductive rchkS where
 | h0 (v3 : Int)
def v5x (l0 : List R6) : rchkS → Cfg
 | .h0 v3 => ⟨⟨34, 0, true⟩, none, (Za prog 64 [1, 1, 0, 1, 0, 0] 0), none, (Zy prog 15), ⟨Yb [(0, (.dat l0.length (Zz l0))), (3, (ii v3))], Vq [] 0, 0, [], true⟩, [], .leaf⟩
def v1w : List (Option (List Nat)) := [some [0, 3]]
def v1x : List (Option (List Nat)) := []
def Kt (l0 : List R6) : rchkS → Xj rchkS
 | .h0 v3 => (bif (decide (v3 < (l0.length : Int))) then (bif ((decide (0 ≤ v3 ∧ v3 < (l0.length : Int))) && true) then (bif (decide ((rd l0 v3.toNat).a ≥ (-1000000))) then (bif (decide ((rd l0 v3.toNat).b ≥ (-1000000))) then (bif (decide ((rd l0 v3.toNat).c ≥ (-1000000))) then (bif (decide ((rd l0 v3.toNat).a ≤ 1000000)) then (bif (decide ((rd l0 v3.toNat).b ≤ 1000000)) then (bif (decide ((rd l0 v3.toNat).c ≤ 1000000)) then (bif (decide ((rd l0 v3.toNat).d ≥ (-1000000))) then (bif (decide ((rd l0 v3.toNat).e ≥ (-1000000))) then (bif (decide ((rd l0 v3.toNat).f ≥ (-1000000))) then (bif (decide ((rd l0 v3.toNat).d ≤ 1000000)) then (bif (decide ((rd l0 v3.toNat).e ≤ 1000000)) then (bif (decide ((rd l0 v3.toNat).f ≤ 1000000)) then (bif (decide ((rd l0 v3.toNat).a < (rd l0 v3.toNat).d)) then (bif (decide ((rd l0 v3.toNat).b < (rd l0 v3.toNat).e)) then (bif (!(decide ((rd l0 v3.toNat).c < (rd l0 v3.toNat).f))) then (.ret [(.int .i64 8)]) else (.to (.h0 (IntKind.wrap .i64 (v3 + 1))))) else (.ret [(.int .i64 8)])) else (.ret [(.int .i64 8)])) else (.ret [(.int .i64 8)])) else (.ret [(.int .i64 8)])) else (.ret [(.int .i64 8)])) else (.ret [(.int .i64 8)])) else (.ret [(.int .i64 8)])) else (.ret [(.int .i64 8)])) else (.ret [(.int .i64 8)])) else (.ret [(.int .i64 8)])) else (.ret [(.int .i64 8)])) else (.ret [(.int .i64 8)])) else (.ret [(.int .i64 8)])) else (.ret [(.int .i64 8)])) else .stuck) else (bif (z2c 2 (cvT l0) ([] : List R6)) then (bif (!(Qp 2 (cvT l0) ([] : List R6))) then (.ret [(.int .i64 8)]) else (bif (Vf (cvT (Ue 2 (cvT l0) ([] : List R6))) (cvT l0)) then (bif (!(Jy (cvT (Ue 2 (cvT l0) ([] : List R6))) (cvT l0))) then (.ret [(.int .i64 8)]) else (.ret [(.int .i64 0)])) else .stuck)) else .stuck))
def z4j (l0 : List R6) : Xj rchkS := (bif (decide ((l0.length : Int) > 400)) then (.ret [(.int .i64 4)]) else (.to (.h0 0)))
theorem x0h (l0 : List R6) : ∀ s, Xd prog (Zy prog 64) (v5x l0) (v5x l0 s) (Kt l0 s)
 | .h0 v3 => (lb (fun k0 => (lo fun aF => (lb (fun k1 => (lb (fun k2 => (lb (fun k3 => (lb (fun k4 => (lb (fun k5 => (lb (fun k6 => (lb (fun k7 => (lb (fun k8 => (lb (fun k9 => (lb (fun k10 => (lb (fun k11 => (lb (fun k12 => (lb (fun k13 => (lb (fun k14 => (lb (fun k15 => (lr 34 64 [1, 1, 0, 1, 0, 0, 1, 0, 0, 1, 0, 0] 1 15 [(2, (ii 8))] (sl Kh 158 [] ⟨[], [], [some [2]], []⟩ ⟨[], [], []⟩ (trs 60 []) (tt k15 (tt k14 (tt k13 (tt k12 (tt k11 (tt k10 (tt k9 (tt k8 (tt k7 (tt k6 (tt k5 (tt k4 (tt k3 (tt k2 (tt k1 (ww aF (tt k0 nn)))))))))))))))))))) (fun k15 => (sl Kh 162 [] ⟨[], [], v1w, v1x⟩ ⟨[], [], []⟩ (trs 59 [false]) (tt k15 (tt k14 (tt k13 (tt k12 (tt k11 (tt k10 (tt k9 (tt k8 (tt k7 (tt k6 (tt k5 (tt k4 (tt k3 (tt k2 (tt k1 (ww aF (tt k0 nn))))))))))))))))))))) (fun k14 => (lr 34 64 [1, 1, 0, 1, 0, 0, 1, 0, 0, 1, 0, 0] 1 15 [(2, (ii 8))] (sl Kh 158 [] ⟨[], [], [some [2]], []⟩ ⟨[], [], []⟩ (trs 52 [false, false, false, false, false, false, false, true]) (tt k14 (tt k13 (tt k12 (tt k11 (tt k10 (tt k9 (tt k8 (tt k7 (tt k6 (tt k5 (tt k4 (tt k3 (tt k2 (tt k1 (ww aF (tt k0 nn))))))))))))))))))))) (fun k13 => (lr 34 64 [1, 1, 0, 1, 0, 0, 1, 0, 0, 1, 0, 0] 1 15 [(2, (ii 8))] (sl Kh 158 [] ⟨[], [], [some [2]], []⟩ ⟨[], [], []⟩ (trs 45 [false, false, false, false, false, false, false, false, false, false, false, false, false, false, true]) (tt k13 (tt k12 (tt k11 (tt k10 (tt k9 (tt k8 (tt k7 (tt k6 (tt k5 (tt k4 (tt k3 (tt k2 (tt k1 (ww aF (tt k0 nn)))))))))))))))))))) (fun k12 => (lr 34 64 [1, 1, 0, 1, 0, 0, 1, 0, 0, 1, 0, 0] 1 15 [(2, (ii 8))] (sl Kh 158 [] ⟨[], [], [some [2]], []⟩ ⟨[], [], []⟩ (trs 38 [false, false, false, false, false, false, false, false, false, false, false, false, false, false, false, false, false, false, false, false, false, true]) (tt k12 (tt k11 (tt k10 (tt k9 (tt k8 (tt k7 (tt k6 (tt k5 (tt k4 (tt k3 (tt k2 (tt k1 (ww aF (tt k0 nn))))))))))))))))))) (fun k11 => (lr 34 64 [1, 1, 0, 1, 0, 0, 1, 0, 0, 1, 0, 0] 1 15 [(2, (ii 8))] (sl Kh 158 [] ⟨[], [], [some [2]], []⟩ ⟨[], [], []⟩ (trs 35 [false, false, false, false, false, false, false, false, false, false, false, false, false, false, false, false, false, false, false, false, false, false, false, false, true]) (tt k11 (tt k10 (tt k9 (tt k8 (tt k7 (tt k6 (tt k5 (tt k4 (tt k3 (tt k2 (tt k1 (ww aF (tt k0 nn)))))))))))))))))) (fun k10 => (lr 34 64 [1, 1, 0, 1, 0, 0, 1, 0, 0, 1, 0, 0] 1 15 [(2, (ii 8))] (sl Kh 158 [] ⟨[], [], [some [2]], []⟩ ⟨[], [], []⟩ (trs 32 [false, false, false, false, false, false, false, false, false, false, false, false, false, false, false, false, false, false, false, false, false, false, false, false, false, false, false, true]) (tt k10 (tt k9 (tt k8 (tt k7 (tt k6 (tt k5 (tt k4 (tt k3 (tt k2 (tt k1 (ww aF (tt k0 nn))))))))))))))))) (fun k9 => (lr 34 64 [1, 1, 0, 1, 0, 0, 1, 0, 0, 1, 0, 0] 1 15 [(2, (ii 8))] (sl Kh 158 [] ⟨[], [], [some [2]], []⟩ ⟨[], [], []⟩ (trs 29 [false, false, false, false, false, false, false, false, false, false, false, false, false, false, false, false, false, false, false, false, false, false, false, false, false, false, false, false, false, false, true]) (tt k9 (tt k8 (tt k7 (tt k6 (tt k5 (tt k4 (tt k3 (tt k2 (tt k1 (ww aF (tt k0 nn)))))))))))))))) (fun k8 => (lr 34 64 [1, 1, 0, 1, 0, 0, 1, 0, 0, 1, 0, 0] 1 15 [(2, (ii 8))] (sl Kh 158 [] ⟨[], [], [some [2]], []⟩ ⟨[], [], []⟩ (trs 25 [false, false, false, false, false, false, false, false, false, false, false, false, false, false, false, false, false, false, false, false, false, false, false, false, false, false, false, false, false, false, false, false, false, false, true]) (tt k8 (tt k7 (tt k6 (tt k5 (tt k4 (tt k3 (tt k2 (tt k1 (ww aF (tt k0 nn))))))))))))))) (fun k7 => (lr 34 64 [1, 1, 0, 1, 0, 0, 1, 0, 0, 1, 0, 0] 1 15 [(2, (ii 8))] (sl Kh 158 [] ⟨[], [], [some [2]], []⟩ ⟨[], [], []⟩ (trs 21 [false, false, false, false, false, false, false, false, false, false, false, false, false, false, false, false, false, false, false, false, false, false, false, false, false, false, false, false, false, false, false, false, false, false, false, false, false, false, true]) (tt k7 (tt k6 (tt k5 (tt k4 (tt k3 (tt k2 (tt k1 (ww aF (tt k0 nn)))))))))))))) (fun k6 => (lr 34 64 [1, 1, 0, 1, 0, 0, 1, 0, 0, 1, 0, 0] 1 15 [(2, (ii 8))] (sl Kh 117 [] ⟨[], [], [some [2]], []⟩ ⟨[], [], []⟩ (trs 18 [false, false, false, false, false, false, false, false, false, false, false, false, false, false, false, false, false, false, false, false, false, false, false, false, true]) (tt k6 (tt k5 (tt k4 (tt k3 (tt k2 (tt k1 (ww aF (tt k0 nn))))))))))))) (fun k5 => (lr 34 64 [1, 1, 0, 1, 0, 0, 1, 0, 0, 1, 0, 0] 1 15 [(2, (ii 8))] (sl Kh 117 [] ⟨[], [], [some [2]], []⟩ ⟨[], [], []⟩ (trs 15 [false, false, false, false, false, false, false, false, false, false, false, false, false, false, false, false, false, false, false, false, false, false, false, false, false, false, false, true]) (tt k5 (tt k4 (tt k3 (tt k2 (tt k1 (ww aF (tt k0 nn)))))))))))) (fun k4 => (lr 34 64 [1, 1, 0, 1, 0, 0, 1, 0, 0, 1, 0, 0] 1 15 [(2, (ii 8))] (sl Kh 117 [] ⟨[], [], [some [2]], []⟩ ⟨[], [], []⟩ (trs 12 [false, false, false, false, false, false, false, false, false, false, false, false, false, false, false, false, false, false, false, false, false, false, false, false, false, false, false, false, false, false, true]) (tt k4 (tt k3 (tt k2 (tt k1 (ww aF (tt k0 nn))))))))))) (fun k3 => (lr 34 64 [1, 1, 0, 1, 0, 0, 1, 0, 0, 1, 0, 0] 1 15 [(2, (ii 8))] (sl Kh 117 [] ⟨[], [], [some [2]], []⟩ ⟨[], [], []⟩ (trs 9 [false, false, false, false, false, false, false, false, false, false, false, false, false, false, false, false, false, false, false, false, false, false, false, false, false, false, false, false, false, false, false, false, false, true]) (tt k3 (tt k2 (tt k1 (ww aF (tt k0 nn)))))))))) (fun k2 => (lr 34 64 [1, 1, 0, 1, 0, 0, 1, 0, 0, 1, 0, 0] 1 15 [(2, (ii 8))] (sl Kh 117 [] ⟨[], [], [some [2]], []⟩ ⟨[], [], []⟩ (trs 5 [false, false, false, false, false, false, false, false, false, false, false, false, false, false, false, false, false, false, false, false, false, false, false, false, false, false, false, false, false, false, false, false, false, false, false, false, false, true]) (tt k2 (tt k1 (ww aF (tt k0 nn))))))))) (fun k1 => (lr 34 64 [1, 1, 0, 1, 0, 0, 1, 0, 0, 1, 0, 0] 1 15 [(2, (ii 8))] (sl Kh 117 [] ⟨[], [], [some [2]], []⟩ ⟨[], [], []⟩ [true, false, false, false, false, false, false, false, false, false, false, false, false, false, false, false, false, false, false, false, false, false, false, false, false, false, false, false, false, false, false, false, false, false, false, false, false, false, false, false, false, false, true] (tt k1 (ww aF (tt k0 nn))))))))) (fun k0 => (lo fun aF => (lb (fun k1 => (lr 34 64 [1, 1, 1, 1, 0, 1, 0, 0] 1 15 [(2, (ii 8))] (sl Kh 37 [] ⟨[], [], [some [2]], []⟩ ⟨[], [], []⟩ [false, true, true, true, true, true] (tt k1 (pp (pp (xr l0) (pp (xI R6 0 (fun _ => [])) (xw aF))) (tt k0 nn)))))) (fun k1 => (lo fun cP => (lb (fun k2 => (lr 34 64 [1, 1, 1, 1, 0, 1, 0, 0] 1 15 [(2, (ii 8))] (sl Kh 37 [] ⟨[], [], [some [2]], []⟩ ⟨[], [], []⟩ [false, false, false, false, false, true] (tt k2 (pp (pp (xI R6 (Ue 2 (cvT l0) ([] : List R6)).length (Zz (Ue 2 (cvT l0) ([] : List R6)))) (pp (xr l0) (xw cP))) (tt k1 (pp (pp (xr l0) (pp (xI R6 0 (fun _ => [])) (xw aF))) (tt k0 nn)))))))) (fun k2 => (lr 34 3 [1, 1, 1, 1, 1, 1, 0] 1 15 [(2, (ii 0))] (sl Kh 38 [] ⟨[], [], [some [2]], []⟩ ⟨[], [], []⟩ [false, false, false, false, false, false] (tt k2 (pp (pp (xI R6 (Ue 2 (cvT l0) ([] : List R6)).length (Zz (Ue 2 (cvT l0) ([] : List R6)))) (pp (xr l0) (xw cP))) (tt k1 (pp (pp (xr l0) (pp (xI R6 0 (fun _ => [])) (xw aF))) (tt k0 nn)))))))))))))))
theorem y6g (l0 : List R6) : Xd prog (Zy prog 64) (v5x l0) (Zg prog 64 [(.dat l0.length (Zz l0))] true []) (z4j l0) := (lb (fun k0 => (lr 34 64 [1, 0, 1, 0, 0] 1 15 [(2, (ii 4))] (sl Kh 16 [] ⟨[], [], [some [2]], []⟩ ⟨[], [], []⟩ [true] (tt k0 nn)))) (fun k0 => (sl Kh 20 [] ⟨[], [], v1w, v1x⟩ ⟨[], [], []⟩ [false] (tt k0 nn))))
theorem w0s (l0 : List R6) (n : Nat) (vs : List AVal) (h : Yu (Kt l0) n (z4j l0) = .ret vs) : Ur prog (Zy prog 64) (Zg prog 64 [(.dat l0.length (Zz l0))] true []) vs := by
 have := Ze (x0h l0) n _ (y6g l0)
 rwa [h] at this
end Go.Am
namespace Go.Am
open Go.Proofs.Tryz
open Go.Proofs
def y8x (r : R6) : Bool := decide (r.a ≥ -1000000) && (decide (r.b ≥ -1000000) && (decide (r.c ≥ -1000000) && (decide (r.a ≤ 1000000) && (decide (r.b ≤ 1000000) && (decide (r.c ≤ 1000000) && (decide (r.d ≥ -1000000) && (decide (r.e ≥ -1000000) && (decide (r.f ≥ -1000000) && (decide (r.d ≤ 1000000) && (decide (r.e ≤ 1000000) && (decide (r.f ≤ 1000000) && (decide (r.a < r.d) && (decide (r.b < r.e) && decide (r.c < r.f))))))))))))))
def rckF (l : List R6) : Int := bif Qp 2 l [] then (bif Jy (Ue 2 l []) l then 0 else 8) else 8
def Ya (l : List R6) : Int := bif decide (400 < l.length) then 4 else bif l.all y8x then rckF l else 8
def w0q (l : List R6) : Bool := true
theorem x6u (k : Int) (l m : List R6) : (Ue k l m).length ≤ 400 ∨ Qp k l m = false := by
 unfold Ue Qp
 cases jsO k l m with
 | none => exact .inl (Nat.zero_le _)
 | some out =>
  by_cases h : (out.length : Int) ≤ 400
  ·left; show out.length ≤ 400; omega
  ·right; exact decide_eq_false h
section
variable (l : List R6) (hl : l.length ≤ 400)
include hl
theorem w0r : ∀ (k i : Nat), i + k = l.length → (∀ s ∈ l.take i, y8x s = true) → ∃ n, Yu (Kt l) n (.to (.h0 (i : Int))) = .ret [.int .i64 (bif l.all y8x then rckF l else 8)]
 | 0, i, h, ht => by
  have hv : l.all y8x = true := List.all_eq_true.2 fun s hs => ht s (by rw [List.take_of_length_le (by omega)]; exact hs)
  have w1 : z2c 2 l [] = true := decide_eq_true ⟨by omega, by simp⟩
  refine ⟨1, ?_⟩
  rw [Zw, hv, cond_true]
  unfold rckF
  rcases Zn (Qp 2 l []) with q | q
  ·have w2 : Vf (Ue 2 l []) l = true := decide_eq_true (by
    rcases x6u 2 l [] with h | h
    ·omega
    ·rw [h] at q; cases q)
   rcases Zn (Jy (Ue 2 l []) l) with q2 | q2 <;>
   simp (disch := omega) only [Kt, Zc, Zs, q, q2, w1, w2, Bool.not_true, Bool.not_false, cond_true, cond_false, Zm]
  ·simp (disch := omega) only [Kt, Zc, Zs, q, w1, Bool.not_true, Bool.not_false, cond_true, cond_false, Zm]
 | k + 1, i, h, ht => by
  have hi : i < l.length := by omega
  have hs : Kt l (.h0 (i : Int)) = bif y8x (rd l i) then .to (.h0 ((i + 1 : Nat) : Int)) else .ret [.int .i64 8] := by
   simp (disch := omega) only [Kt, y8x, x2k, y4x, x4q, Yj, Zj, Zv, Zk, Bool.and_true, cond_true, cond_false]
  rcases Zn (y8x (rd l i)) with q | q
  ·obtain ⟨n, hn⟩ := w0r k (i + 1) (by omega) (fun s hs => by
    rw [List.take_add_one] at hs
    have e : l[i]? = some (rd l i) := by rw [Xa hi]; exact List.getElem?_eq_getElem _
    rw [e] at hs
    simp only [Option.toList_some, List.mem_append, List.mem_singleton] at hs
    rcases hs with hs | rfl
    ·exact ht s hs
    ·exact q)
   refine ⟨n + 1, ?_⟩
   rw [Zw, hs, q, cond_true]
   exact hn
  ·have hv : l.all y8x = false := Bool.eq_false_iff.2 fun e => by
    have := List.all_eq_true.1 e (rd l i) (by rw [Xa hi]; exact List.getElem_mem hi)
    rw [this] at q; cases q
   refine ⟨1, ?_⟩
   rw [Zw, hv, cond_false, hs, q, cond_false, Zm]
end
theorem w6h (l : List R6) : ∃ n, Yu (Kt l) n (z4j l) = .ret [.int .i64 (Ya l)] := by
 unfold z4j Ya
 by_cases h : 400 < l.length
 ·refine ⟨0, ?_⟩
  rw [decide_eq_true h, Yn (show (l.length : Int) > 400 by omega)]; rfl
 ·obtain ⟨n, hn⟩ := w0r l (by omega) l.length 0 (Nat.zero_add _) (fun s hs => by simp at hs)
  refine ⟨n, ?_⟩
  rw [decide_eq_false h, Yo (show ¬ (l.length : Int) > 400 by omega), cond_false, cond_false]
  exact hn
def fRck : List AVal → Option (AVal × Bool)
 | [a1] => match asL R6 a1 with
  | some (L1, g1, n1) => some (.int .i64 (Ya L1), isT R6 n1 g1 && w0q L1)
  | _ => none
 | _ => none
theorem v7x {S : Specs} (hS : Zu prog S) : Zu prog (S.with w1p fRck) := by
 refine z0x hS (by kernel_rfl) fun args v h => ?_
 unfold fRck at h
 split at h
 ·rename_i a1
  split at h
  ·rename_i L1 g1 n1 e1
   simp only [Option.some.injEq, Prod.mk.injEq, Bool.and_eq_true] at h
   obtain ⟨rfl, ho1, hw⟩ := h
   obtain ⟨N, hN⟩ := w6h L1
   exact ⟨_, _, (.cons (asL_le e1 ho1) .nil), rfl, w0s L1 N _ hN, 3, rfl⟩
  ·cases h
 ·cases h
def T9 : Specs := T8.with w1p fRck
theorem v9h : Zu prog T9 := v7x Kh
end Go.Am
namespace Go.Am
open Go.Proofs
def gA (x : Int) (c B : R6) : R6 := ⟨Xv (IntKind.wrap .i64 (c.a - x)) B.a, Xv (IntKind.wrap .i64 (c.b - x)) B.b, Xv (IntKind.wrap .i64 (c.c - x)) B.c, Wa (IntKind.wrap .i64 (c.d + x)) B.d, Wa (IntKind.wrap .i64 (c.e + x)) B.e, Wa (IntKind.wrap .i64 (c.f + x)) B.f⟩
def z4y (r : R6) : Bool := decide (r.a ≥ r.d) || (decide (r.b ≥ r.e) || decide (r.c ≥ r.f))
def v3g (G B : R6) : R6 := ⟨B.a, B.b, B.c, G.a, B.e, B.f⟩
def v3f (G B : R6) : R6 := ⟨G.d, B.b, B.c, B.d, B.e, B.f⟩
def w4o (G B : R6) : R6 := ⟨G.a, B.b, B.c, G.d, G.b, B.f⟩
def w4n (G B : R6) : R6 := ⟨G.a, G.e, B.c, G.d, B.e, B.f⟩
def x8e (G B : R6) : R6 := ⟨G.a, G.b, B.c, G.d, G.e, G.c⟩
def x8d (G B : R6) : R6 := ⟨G.a, G.b, G.f, G.d, G.e, B.f⟩
def covB (x : Int) : List R6 → R6 → Bool
 | [], _ => false
 | c :: l, B => bif z4y (gA x c B) then covB x l B else
  (z4y (v3g (gA x c B) B) || covB x l (v3g (gA x c B) B)) && ((z4y (v3f (gA x c B) B) || covB x l (v3f (gA x c B) B)) && ((z4y (w4o (gA x c B) B) || covB x l (w4o (gA x c B) B)) &&
   ((z4y (w4n (gA x c B) B) || covB x l (w4n (gA x c B) B)) && ((z4y (x8e (gA x c B) B) || covB x l (x8e (gA x c B) B)) && (z4y (x8d (gA x c B) B) || covB x l (x8d (gA x c B) B))))))
def x8f (a b c d e f : Int) (L : List R6) (x : Int) : Bool := covB x L ⟨a, b, c, d, e, f⟩
def Wn (q : Nat) (a b c d e f : Int) (L : List R6) (x : Int) : Bool := decide (L.length < q) && decide (L.length ≤ 100000)
def fCov (q : Nat) : List AVal → Option (AVal × Bool)
 | [.agg [.int .i64 aM, .int .i64 aK, .int .i64 aI, .int .i64 aO, .int .i64 aT, .int .i64 aP], a1, .int .i64 x2] => match asL R6 a1 with
  | some (L1, g1, n1) => some (.bool (x8f aM aK aI aO aT aP L1 x2), isT R6 n1 g1 && (Wn q aM aK aI aO aT aP L1 x2))
  | _ => none
 | _ => none
def Tcv (q : Nat) : Specs := T9.with z8l (fCov q)
theorem z2g (L : List R6) {k : Nat} (h : k ≤ L.length) : lst R6 (L.length - k) (fun j => (Zz L) (k + j)) = L.drop k := by
 rw [w7k L (by omega), List.take_of_length_le (by simp)]
end Go.Am
namespace Go.Am
open Go.Proofs.Tryz
open Go.Proofs
inductive cvdS where
 | h0 (v14 : Int)
 | h1 (aX : Int) (cN : Int) (aE : Int) (aQ : Int) (bH : Int) (bA : Int) (cE : Int) (bG : Int) (aW : Int)
 | h2 (aU : Int) (aE : Int) (aQ : Int) (bH : Int) (bA : Int) (bG : Int) (aW : Int)
 | h3 (aU : Int) (aX : Int) (bI : Int) (aE : Int) (bA : Int) (bG : Int) (aW : Int)
 | h4 (aU : Int) (bJ : Int) (aX : Int) (aE : Int) (bH : Int) (bA : Int) (aW : Int)
 | h5 (aU : Int) (bJ : Int) (aX : Int) (bI : Int) (cY : Int) (aE : Int) (aW : Int)
 | h6 (aU : Int) (bJ : Int) (cZ : Int) (aX : Int) (bI : Int) (aE : Int)
def cvdC (aM : Int) (aK : Int) (aI : Int) (aO : Int) (aT : Int) (aP : Int) (l1 : List R6) (x2 : Int) : cvdS → Cfg
 | .h0 v14 => ⟨⟨200, 0, true⟩, none, (Za prog 95 [1, 0, 1, 0, 0] 0), none, (Zy prog 4), ⟨Yb [(3, (.ptr 0 0)), (4, (.ptr 1 0)), (5, (.ptr 2 0)), (12, (.dat l1.length (Zz l1))), (13, (ii (l1.length : Int))), (14, (ii v14))], Vq [⟨[(ii aM), (ii aK), (ii aI), (ii aO), (ii aT), (ii aP)], 68, none⟩, ⟨[(.dat l1.length (Zz l1))], 22, none⟩, ⟨[(ii x2)], 3, none⟩] 0, 3, [], true⟩, [], .leaf⟩
 | .h1 aX cN aE aQ bH bA cE bG aW => ⟨⟨38, 0, true⟩, none, (Za prog 127 [] 0), none, (Zy prog 127), ⟨Yb [(0, (.agg [(ii aM), (ii aK), (ii aI)])), (1, (.agg [(ii aX), (ii aT), (ii aP)])), (2, (.ptr 0 0)), (3, (.ptr 1 0)), (4, (.ptr 2 0))], Vq [⟨[(.dat l1.length (Zz l1))], 22, none⟩, ⟨[(ii aE)], 3, none⟩, ⟨[(ii x2)], 3, none⟩, ⟨[(ii aQ), (ii bH), (ii bA), (ii cE), (ii bG), (ii aW)], 68, none⟩, ⟨[(ii aM), (ii aK), (ii aI)], 65, none⟩, ⟨[(ii aO), (ii aT), (ii aP)], 65, none⟩] 0, 6, [], true⟩, [⟨⟨200, 0, true⟩, (Vi prog 95 [1, 0, 1, 0, 0, 1, 1, 0, 0, 1, 1, 1, 1, 1, 1, 0, 0] 10), (Za prog 95 [1, 0, 1, 0, 0, 1, 1, 0, 0, 1, 1, 1, 1, 1, 1, 0, 0] 1), none, (Zy prog 4), Yb [(8, (.ptr 3 0)), (9, (.fn 127 [(.ptr 0 0), (.ptr 1 0), (.ptr 2 0)])), (10, (.ptr 4 0)), (11, (.ptr 5 0)), (107, (.fn 127 [(.ptr 0 0), (.ptr 1 0), (.ptr 2 0)])), (108, (.agg [(ii aM), (ii aK), (ii aI)])), (116, (.agg [(ii cN), (ii aT), (ii aP)]))]⟩], .leaf⟩
 | .h2 aU aE aQ bH bA bG aW => ⟨⟨38, 0, true⟩, none, (Za prog 127 [] 0), none, (Zy prog 127), ⟨Yb [(0, (.agg [(ii aU), (ii aK), (ii aI)])), (1, (.agg [(ii aO), (ii aT), (ii aP)])), (2, (.ptr 0 0)), (3, (.ptr 1 0)), (4, (.ptr 2 0))], Vq [⟨[(.dat l1.length (Zz l1))], 22, none⟩, ⟨[(ii aE)], 3, none⟩, ⟨[(ii x2)], 3, none⟩, ⟨[(ii aQ), (ii bH), (ii bA), (ii aU), (ii bG), (ii aW)], 68, none⟩, ⟨[(ii aM), (ii aK), (ii aI)], 65, none⟩, ⟨[(ii aO), (ii aT), (ii aP)], 65, none⟩] 0, 6, [], true⟩, [⟨⟨200, 0, true⟩, (Vi prog 95 [1, 0, 1, 0, 0, 1, 1, 0, 0, 1, 1, 1, 1, 1, 1, 0, 0] 23), (Za prog 95 [1, 0, 1, 0, 0, 1, 1, 0, 0, 1, 1, 1, 1, 1, 1, 0, 0] 1), none, (Zy prog 4), Yb [(8, (.ptr 3 0)), (9, (.fn 127 [(.ptr 0 0), (.ptr 1 0), (.ptr 2 0)])), (10, (.ptr 4 0)), (11, (.ptr 5 0)), (119, (.bool false)), (120, (.fn 127 [(.ptr 0 0), (.ptr 1 0), (.ptr 2 0)])), (128, (.agg [(ii aU), (ii aK), (ii aI)])), (129, (.agg [(ii aO), (ii aT), (ii aP)]))]⟩], .leaf⟩
 | .h3 aU aX bI aE bA bG aW => ⟨⟨38, 0, true⟩, none, (Za prog 127 [] 0), none, (Zy prog 127), ⟨Yb [(0, (.agg [(ii aU), (ii aK), (ii aI)])), (1, (.agg [(ii aX), (ii bI), (ii aP)])), (2, (.ptr 0 0)), (3, (.ptr 1 0)), (4, (.ptr 2 0))], Vq [⟨[(.dat l1.length (Zz l1))], 22, none⟩, ⟨[(ii aE)], 3, none⟩, ⟨[(ii x2)], 3, none⟩, ⟨[(ii aU), (ii bI), (ii bA), (ii aX), (ii bG), (ii aW)], 68, none⟩, ⟨[(ii aU), (ii aK), (ii aI)], 65, none⟩, ⟨[(ii aX), (ii aT), (ii aP)], 65, none⟩] 0, 6, [], true⟩, [⟨⟨200, 0, true⟩, (Vi prog 95 [1, 0, 1, 0, 0, 1, 1, 0, 0, 1, 1, 1, 1, 1, 1, 1, 1, 0, 0] 10), (Za prog 95 [1, 0, 1, 0, 0, 1, 1, 0, 0, 1, 1, 1, 1, 1, 1, 1, 1, 0, 0] 1), none, (Zy prog 4), Yb [(8, (.ptr 3 0)), (9, (.fn 127 [(.ptr 0 0), (.ptr 1 0), (.ptr 2 0)])), (10, (.ptr 4 0)), (11, (.ptr 5 0)), (141, (.fn 127 [(.ptr 0 0), (.ptr 1 0), (.ptr 2 0)])), (142, (.agg [(ii aU), (ii aK), (ii aI)])), (150, (.agg [(ii aX), (ii bI), (ii aP)]))]⟩], .leaf⟩
 | .h4 aU bJ aX aE bH bA aW => ⟨⟨38, 0, true⟩, none, (Za prog 127 [] 0), none, (Zy prog 127), ⟨Yb [(0, (.agg [(ii aU), (ii bJ), (ii aI)])), (1, (.agg [(ii aX), (ii aT), (ii aP)])), (2, (.ptr 0 0)), (3, (.ptr 1 0)), (4, (.ptr 2 0))], Vq [⟨[(.dat l1.length (Zz l1))], 22, none⟩, ⟨[(ii aE)], 3, none⟩, ⟨[(ii x2)], 3, none⟩, ⟨[(ii aU), (ii bH), (ii bA), (ii aX), (ii bJ), (ii aW)], 68, none⟩, ⟨[(ii aU), (ii aK), (ii aI)], 65, none⟩, ⟨[(ii aX), (ii aT), (ii aP)], 65, none⟩] 0, 6, [], true⟩, [⟨⟨200, 0, true⟩, (Vi prog 95 [1, 0, 1, 0, 0, 1, 1, 0, 0, 1, 1, 1, 1, 1, 1, 1, 1, 0, 0] 23), (Za prog 95 [1, 0, 1, 0, 0, 1, 1, 0, 0, 1, 1, 1, 1, 1, 1, 1, 1, 0, 0] 1), none, (Zy prog 4), Yb [(8, (.ptr 3 0)), (9, (.fn 127 [(.ptr 0 0), (.ptr 1 0), (.ptr 2 0)])), (10, (.ptr 4 0)), (11, (.ptr 5 0)), (153, (.bool false)), (154, (.fn 127 [(.ptr 0 0), (.ptr 1 0), (.ptr 2 0)])), (162, (.agg [(ii aU), (ii bJ), (ii aI)])), (163, (.agg [(ii aX), (ii aT), (ii aP)]))]⟩], .leaf⟩
 | .h5 aU bJ aX bI cY aE aW => ⟨⟨38, 0, true⟩, none, (Za prog 127 [] 0), none, (Zy prog 127), ⟨Yb [(0, (.agg [(ii aU), (ii bJ), (ii aI)])), (1, (.agg [(ii aX), (ii bI), (ii cY)])), (2, (.ptr 0 0)), (3, (.ptr 1 0)), (4, (.ptr 2 0))], Vq [⟨[(.dat l1.length (Zz l1))], 22, none⟩, ⟨[(ii aE)], 3, none⟩, ⟨[(ii x2)], 3, none⟩, ⟨[(ii aU), (ii bJ), (ii cY), (ii aX), (ii bI), (ii aW)], 68, none⟩, ⟨[(ii aU), (ii bJ), (ii aI)], 65, none⟩, ⟨[(ii aX), (ii bI), (ii aP)], 65, none⟩] 0, 6, [], true⟩, [⟨⟨200, 0, true⟩, (Vi prog 95 [1, 0, 1, 0, 0, 1, 1, 0, 0, 1, 1, 1, 1, 1, 1, 1, 1, 1, 1, 0] 10), (Za prog 95 [1, 0, 1, 0, 0, 1, 1, 0, 0, 1, 1, 1, 1, 1, 1, 1, 1, 1, 1, 0] 1), none, (Zy prog 4), Yb [(8, (.ptr 3 0)), (9, (.fn 127 [(.ptr 0 0), (.ptr 1 0), (.ptr 2 0)])), (10, (.ptr 4 0)), (11, (.ptr 5 0)), (175, (.fn 127 [(.ptr 0 0), (.ptr 1 0), (.ptr 2 0)])), (176, (.agg [(ii aU), (ii bJ), (ii aI)])), (184, (.agg [(ii aX), (ii bI), (ii cY)]))]⟩], .leaf⟩
 | .h6 aU bJ cZ aX bI aE => ⟨⟨38, 0, true⟩, none, (Za prog 127 [] 0), none, (Zy prog 127), ⟨Yb [(0, (.agg [(ii aU), (ii bJ), (ii cZ)])), (1, (.agg [(ii aX), (ii bI), (ii aP)])), (2, (.ptr 0 0)), (3, (.ptr 1 0)), (4, (.ptr 2 0))], Vq [⟨[(.dat l1.length (Zz l1))], 22, none⟩, ⟨[(ii aE)], 3, none⟩, ⟨[(ii x2)], 3, none⟩] 0, 3, [], true⟩, [⟨⟨200, 0, true⟩, (Vi prog 95 [1, 0, 1, 0, 0, 1, 1, 0, 0, 1, 1, 1, 1, 1, 1, 1, 1, 1, 1, 0] 22), (Za prog 95 [1, 0, 1, 0, 0, 1, 1, 0, 0, 1, 1, 1, 1, 1, 1, 1, 1, 1, 1, 0] 1), none, (Zy prog 4), Yb [(186, (.bool true)), (187, (.fn 127 [(.ptr 0 0), (.ptr 1 0), (.ptr 2 0)])), (195, (.agg [(ii aU), (ii bJ), (ii cZ)])), (196, (.agg [(ii aX), (ii bI), (ii aP)]))]⟩], .leaf⟩
def w9h : List (Option (List Nat)) := [some [3, 4, 5, 12, 13, 14]]
def w9n : List (Option (List Nat)) := []
def cvdN1 : List (Option (List Nat)) := [some [0, 1, 2, 3, 4], some [8, 9, 10, 11, 107, 108, 116]]
def cvdM1 : List (Option (List Nat)) := []
def w9g : List (Option (List Nat)) := [some [0, 1, 2, 3, 4], some [8, 9, 10, 11, 119, 120, 128, 129]]
def w9m : List (Option (List Nat)) := []
def w9f : List (Option (List Nat)) := [some [0, 1, 2, 3, 4], some [8, 9, 10, 11, 141, 142, 150]]
def w9l : List (Option (List Nat)) := []
def w9e : List (Option (List Nat)) := [some [0, 1, 2, 3, 4], some [8, 9, 10, 11, 153, 154, 162, 163]]
def w9k : List (Option (List Nat)) := []
def w9d : List (Option (List Nat)) := [some [0, 1, 2, 3, 4], some [8, 9, 10, 11, 175, 176, 184]]
def w9j : List (Option (List Nat)) := []
def w9c : List (Option (List Nat)) := [some [0, 1, 2, 3, 4], some [186, 187, 195, 196]]
def w9i : List (Option (List Nat)) := []
def Wp (q : Nat) (aM : Int) (aK : Int) (aI : Int) (aO : Int) (aT : Int) (aP : Int) (l1 : List R6) (x2 : Int) : cvdS → Xj cvdS
 | .h0 v14 => (bif (decide (v14 < (l1.length : Int))) then (bif ((decide (0 ≤ v14 ∧ v14 < (l1.length : Int))) && true) then (bif (decide ((Xv (IntKind.wrap .i64 ((rd l1 v14.toNat).a - x2)) aM) ≥ (Wa (IntKind.wrap .i64 ((rd l1 v14.toNat).d + x2)) aO))) then (.to (.h0 (IntKind.wrap .i64 (v14 + 1)))) else (bif (decide ((Xv (IntKind.wrap .i64 ((rd l1 v14.toNat).b - x2)) aK) ≥ (Wa (IntKind.wrap .i64 ((rd l1 v14.toNat).e + x2)) aT))) then (.to (.h0 (IntKind.wrap .i64 (v14 + 1)))) else (bif (decide ((Xv (IntKind.wrap .i64 ((rd l1 v14.toNat).c - x2)) aI) ≥ (Wa (IntKind.wrap .i64 ((rd l1 v14.toNat).f + x2)) aP))) then (.to (.h0 (IntKind.wrap .i64 (v14 + 1)))) else (.to (.h1 (Xv (IntKind.wrap .i64 ((rd l1 v14.toNat).a - x2)) aM) (Xv (IntKind.wrap .i64 ((rd l1 v14.toNat).a - x2)) aM) v14 (Xv (IntKind.wrap .i64 ((rd l1 v14.toNat).a - x2)) aM) (Xv (IntKind.wrap .i64 ((rd l1 v14.toNat).b - x2)) aK) (Xv (IntKind.wrap .i64 ((rd l1 v14.toNat).c - x2)) aI) (Wa (IntKind.wrap .i64 ((rd l1 v14.toNat).d + x2)) aO) (Wa (IntKind.wrap .i64 ((rd l1 v14.toNat).e + x2)) aT) (Wa (IntKind.wrap .i64 ((rd l1 v14.toNat).f + x2)) aP)))))) else .stuck) else (.ret [(.bool false)]))
 | .h1 aX cN aE aQ bH bA cE bG aW => (bif (decide (aM ≥ aX)) then (.to (.h2 cE aE aQ bH bA bG aW)) else (bif (decide (aK ≥ aT)) then (.to (.h2 cE aE aQ bH bA bG aW)) else (bif (decide (aI ≥ aP)) then (.to (.h2 cE aE aQ bH bA bG aW)) else (bif (decide ((Int.toNat (IntKind.wrap .i64 (aE + 1))) ≤ l1.length)) then (bif (decide (l1.length ≤ l1.length)) then (bif (decide (0 ≤ (IntKind.wrap .i64 (aE + 1)))) then (bif (Wn q aM aK aI aX aT aP (lst R6 (l1.length - (Int.toNat (IntKind.wrap .i64 (aE + 1)))) (fun k => (Zz l1) ((Int.toNat (IntKind.wrap .i64 (aE + 1))) + k))) x2) then (bif (!(x8f aM aK aI aX aT aP (lst R6 (l1.length - (Int.toNat (IntKind.wrap .i64 (aE + 1)))) (fun k => (Zz l1) ((Int.toNat (IntKind.wrap .i64 (aE + 1))) + k))) x2)) then (.ret [(.bool false)]) else (.to (.h2 cE aE aQ bH bA bG aW))) else .stuck) else .stuck) else .stuck) else .stuck))))
 | .h2 aU aE aQ bH bA bG aW => (bif (decide (aU ≥ aO)) then (.to (.h3 aQ aU bH aE bA bG aW)) else (bif (decide (aK ≥ aT)) then (.to (.h3 aQ aU bH aE bA bG aW)) else (bif (decide (aI ≥ aP)) then (.to (.h3 aQ aU bH aE bA bG aW)) else (bif (decide ((Int.toNat (IntKind.wrap .i64 (aE + 1))) ≤ l1.length)) then (bif (decide (l1.length ≤ l1.length)) then (bif (decide (0 ≤ (IntKind.wrap .i64 (aE + 1)))) then (bif (Wn q aU aK aI aO aT aP (lst R6 (l1.length - (Int.toNat (IntKind.wrap .i64 (aE + 1)))) (fun k => (Zz l1) ((Int.toNat (IntKind.wrap .i64 (aE + 1))) + k))) x2) then (bif (!(x8f aU aK aI aO aT aP (lst R6 (l1.length - (Int.toNat (IntKind.wrap .i64 (aE + 1)))) (fun k => (Zz l1) ((Int.toNat (IntKind.wrap .i64 (aE + 1))) + k))) x2)) then (.ret [(.bool false)]) else (.to (.h3 aQ aU bH aE bA bG aW))) else .stuck) else .stuck) else .stuck) else .stuck))))
 | .h3 aU aX bI aE bA bG aW => (bif (decide (aU ≥ aX)) then (.to (.h4 aU bG aX aE bI bA aW)) else (bif (decide (aK ≥ bI)) then (.to (.h4 aU bG aX aE bI bA aW)) else (bif (decide (aI ≥ aP)) then (.to (.h4 aU bG aX aE bI bA aW)) else (bif (decide ((Int.toNat (IntKind.wrap .i64 (aE + 1))) ≤ l1.length)) then (bif (decide (l1.length ≤ l1.length)) then (bif (decide (0 ≤ (IntKind.wrap .i64 (aE + 1)))) then (bif (Wn q aU aK aI aX bI aP (lst R6 (l1.length - (Int.toNat (IntKind.wrap .i64 (aE + 1)))) (fun k => (Zz l1) ((Int.toNat (IntKind.wrap .i64 (aE + 1))) + k))) x2) then (bif (!(x8f aU aK aI aX bI aP (lst R6 (l1.length - (Int.toNat (IntKind.wrap .i64 (aE + 1)))) (fun k => (Zz l1) ((Int.toNat (IntKind.wrap .i64 (aE + 1))) + k))) x2)) then (.ret [(.bool false)]) else (.to (.h4 aU bG aX aE bI bA aW))) else .stuck) else .stuck) else .stuck) else .stuck))))
 | .h4 aU bJ aX aE bH bA aW => (bif (decide (aU ≥ aX)) then (.to (.h5 aU bH aX bJ bA aE aW)) else (bif (decide (bJ ≥ aT)) then (.to (.h5 aU bH aX bJ bA aE aW)) else (bif (decide (aI ≥ aP)) then (.to (.h5 aU bH aX bJ bA aE aW)) else (bif (decide ((Int.toNat (IntKind.wrap .i64 (aE + 1))) ≤ l1.length)) then (bif (decide (l1.length ≤ l1.length)) then (bif (decide (0 ≤ (IntKind.wrap .i64 (aE + 1)))) then (bif (Wn q aU bJ aI aX aT aP (lst R6 (l1.length - (Int.toNat (IntKind.wrap .i64 (aE + 1)))) (fun k => (Zz l1) ((Int.toNat (IntKind.wrap .i64 (aE + 1))) + k))) x2) then (bif (!(x8f aU bJ aI aX aT aP (lst R6 (l1.length - (Int.toNat (IntKind.wrap .i64 (aE + 1)))) (fun k => (Zz l1) ((Int.toNat (IntKind.wrap .i64 (aE + 1))) + k))) x2)) then (.ret [(.bool false)]) else (.to (.h5 aU bH aX bJ bA aE aW))) else .stuck) else .stuck) else .stuck) else .stuck))))
 | .h5 aU bJ aX bI cY aE aW => (bif (decide (aU ≥ aX)) then (.to (.h6 aU bJ aW aX bI aE)) else (bif (decide (bJ ≥ bI)) then (.to (.h6 aU bJ aW aX bI aE)) else (bif (decide (aI ≥ cY)) then (.to (.h6 aU bJ aW aX bI aE)) else (bif (decide ((Int.toNat (IntKind.wrap .i64 (aE + 1))) ≤ l1.length)) then (bif (decide (l1.length ≤ l1.length)) then (bif (decide (0 ≤ (IntKind.wrap .i64 (aE + 1)))) then (bif (Wn q aU bJ aI aX bI cY (lst R6 (l1.length - (Int.toNat (IntKind.wrap .i64 (aE + 1)))) (fun k => (Zz l1) ((Int.toNat (IntKind.wrap .i64 (aE + 1))) + k))) x2) then (bif (x8f aU bJ aI aX bI cY (lst R6 (l1.length - (Int.toNat (IntKind.wrap .i64 (aE + 1)))) (fun k => (Zz l1) ((Int.toNat (IntKind.wrap .i64 (aE + 1))) + k))) x2) then (.to (.h6 aU bJ aW aX bI aE)) else (.ret [(.bool false)])) else .stuck) else .stuck) else .stuck) else .stuck))))
 | .h6 aU bJ cZ aX bI aE => (bif (decide (aU ≥ aX)) then (.ret [(.bool true)]) else (bif (decide (bJ ≥ bI)) then (.ret [(.bool true)]) else (bif (decide (cZ ≥ aP)) then (.ret [(.bool true)]) else (bif (decide ((Int.toNat (IntKind.wrap .i64 (aE + 1))) ≤ l1.length)) then (bif (decide (l1.length ≤ l1.length)) then (bif (decide (0 ≤ (IntKind.wrap .i64 (aE + 1)))) then (bif (Wn q aU bJ cZ aX bI aP (lst R6 (l1.length - (Int.toNat (IntKind.wrap .i64 (aE + 1)))) (fun k => (Zz l1) ((Int.toNat (IntKind.wrap .i64 (aE + 1))) + k))) x2) then (.ret [(.bool (x8f aU bJ cZ aX bI aP (lst R6 (l1.length - (Int.toNat (IntKind.wrap .i64 (aE + 1)))) (fun k => (Zz l1) ((Int.toNat (IntKind.wrap .i64 (aE + 1))) + k))) x2))]) else .stuck) else .stuck) else .stuck) else .stuck))))
def y4r (aM : Int) (aK : Int) (aI : Int) (aO : Int) (aT : Int) (aP : Int) (l1 : List R6) (x2 : Int) : Xj cvdS := (.to (.h0 0))
theorem x7q {q : Nat} (hq : Zu prog (Tcv q)) (aM : Int) (aK : Int) (aI : Int) (aO : Int) (aT : Int) (aP : Int) (l1 : List R6) (x2 : Int) : ∀ s, Xd prog (Zy prog 95) (cvdC aM aK aI aO aT aP l1 x2) (cvdC aM aK aI aO aT aP l1 x2 s) (Wp q aM aK aI aO aT aP l1 x2 s)
 | .h0 v14 => (lb (fun k0 => (lo fun aF => (lb (fun k1 => (sl hq 121 [] ⟨[0, 1, 2], [], w9h, w9n⟩ ⟨[], [], []⟩ (trs 16 []) (tt k1 (ww aF (tt k0 nn))))) (fun k1 => (lb (fun k2 => (sl hq 121 [] ⟨[0, 1, 2], [], w9h, w9n⟩ ⟨[], [], []⟩ [true, false, false, false, false, false, false, false, true, true, true, true, true, true, true, true] (tt k2 (tt k1 (ww aF (tt k0 nn)))))) (fun k2 => (lb (fun k3 => (sl hq 121 [] ⟨[0, 1, 2], [], w9h, w9n⟩ ⟨[], [], []⟩ [true, false, false, false, false, false, false, false, false, false, false, false, false, false, false, true] (tt k3 (tt k2 (tt k1 (ww aF (tt k0 nn))))))) (fun k3 => (sl hq 137 [] ⟨[1, 3, 2, 4, 5, 6], [], cvdN1, cvdM1⟩ ⟨[], [], []⟩ [true, false, false, false, false, false, false, false, false, false, false, false, false, false, false, false] (tt k3 (tt k2 (tt k1 (ww aF (tt k0 nn)))))))))))))) (fun k0 => (lr 200 3 [1, 1, 1, 1, 1, 1, 0] 1 4 [(6, (.bool false))] (sl hq 11 [] ⟨[], [], [some [6]], []⟩ ⟨[], [], []⟩ [false] (tt k0 nn)))))
 | .h1 aX cN aE aQ bH bA cE bG aW => (lb (fun k0 => (sl hq 22 [] ⟨(List.range 6), [], w9g, w9m⟩ ⟨[], [], []⟩ (trs 19 [false, false, false, false, false, false, false, false, false, false, false]) (tt k0 nn))) (fun k0 => (lb (fun k1 => (sl hq 22 [] ⟨(List.range 6), [], w9g, w9m⟩ ⟨[], [], []⟩ [false, false, false, false, false, true, true, true, true, true, true, true, true, true, true, true, true, true, true, false, false, false, false, false, false, false, false, false, false, false] (tt k1 (tt k0 nn)))) (fun k1 => (lb (fun k2 => (sl hq 22 [] ⟨(List.range 6), [], w9g, w9m⟩ ⟨[], [], []⟩ [false, false, false, false, false, false, false, false, false, false, true, true, true, true, true, true, true, true, true, false, false, false, false, false, false, false, false, false, false, false] (tt k2 (tt k1 (tt k0 nn))))) (fun k2 => (lo fun cM => (lo fun dD => (lo fun cO => (lo fun cW => (lb (fun k3 => (lr 200 95 [1, 0, 1, 0, 0, 1, 1, 0, 0, 1, 1, 1, 1, 1, 1, 0, 1, 0, 0] 1 4 [(6, (.bool false))] (sl hq 30 [] ⟨[], [], [some [6]], []⟩ ⟨[], [], []⟩ [false, false, false, false, false, false, false, false, false, false, false, false, false, false, false, false, false, false, false, true, true, true, true, true, true, true, true, true, true, true, true, true] (tt k3 (pp (pp (xI R6 (l1.length - (tn (wr (aE + 1)))) (fun k => (Zz l1) ((tn (wr (aE + 1))) + k))) (xw cW)) (pp (pp nn (pp (xw cO) (pp (xG (decide (l1.length ≤ l1.length))) (pp (xG (decide ((tn (wr (aE + 1))) ≤ l1.length))) (xG (x6s l1.length (Zz l1) 6)))))) (tt k2 (tt k1 (tt k0 nn))))))))) (fun k3 => (sl hq 22 [] ⟨(List.range 6), [], w9g, w9m⟩ ⟨[], [], []⟩ [false, false, false, false, false, false, false, false, false, false, false, false, false, false, false, false, false, false, false, false, false, false, false, false, false, false, false, false, false, false] (tt k3 (pp (pp (xI R6 (l1.length - (tn (wr (aE + 1)))) (fun k => (Zz l1) ((tn (wr (aE + 1))) + k))) (xw cW)) (pp (pp nn (pp (xw cO) (pp (xG (decide (l1.length ≤ l1.length))) (pp (xG (decide ((tn (wr (aE + 1))) ≤ l1.length))) (xG (x6s l1.length (Zz l1) 6)))))) (tt k2 (tt k1 (tt k0 nn)))))))))))))))))))
 | .h2 aU aE aQ bH bA bG aW => (lb (fun k0 => (sl hq 30 [] ⟨(List.range 6), [], w9f, w9l⟩ ⟨[], [], []⟩ (trs 19 [false, false]) (tt k0 nn))) (fun k0 => (lb (fun k1 => (sl hq 30 [] ⟨(List.range 6), [], w9f, w9l⟩ ⟨[], [], []⟩ [false, false, false, false, false, true, true, true, true, true, true, true, true, true, true, true, true, true, true, false, false] (tt k1 (tt k0 nn)))) (fun k1 => (lb (fun k2 => (sl hq 30 [] ⟨(List.range 6), [], w9f, w9l⟩ ⟨[], [], []⟩ [false, false, false, false, false, false, false, false, false, false, true, true, true, true, true, true, true, true, true, false, false] (tt k2 (tt k1 (tt k0 nn))))) (fun k2 => (lo fun cM => (lo fun dD => (lo fun cO => (lo fun cW => (lb (fun k3 => (lr 200 95 [1, 0, 1, 0, 0, 1, 1, 0, 0, 1, 1, 1, 1, 1, 1, 0, 1, 0, 0] 1 4 [(6, (.bool false))] (sl hq 17 [] ⟨[], [], [some [6]], []⟩ ⟨[], [], []⟩ [false, false, false, false, false, false, false, false, false, false, false, false, false, false, false, false, false, false, false, false, true] (tt k3 (pp (pp (xI R6 (l1.length - (tn (wr (aE + 1)))) (fun k => (Zz l1) ((tn (wr (aE + 1))) + k))) (xw cW)) (pp (pp nn (pp (xw cO) (pp (xG (decide (l1.length ≤ l1.length))) (pp (xG (decide ((tn (wr (aE + 1))) ≤ l1.length))) (xG (x6s l1.length (Zz l1) 6)))))) (tt k2 (tt k1 (tt k0 nn))))))))) (fun k3 => (sl hq 30 [] ⟨(List.range 6), [], w9f, w9l⟩ ⟨[], [], []⟩ [false, false, false, false, false, false, false, false, false, false, false, false, false, false, false, false, false, false, false, false, false] (tt k3 (pp (pp (xI R6 (l1.length - (tn (wr (aE + 1)))) (fun k => (Zz l1) ((tn (wr (aE + 1))) + k))) (xw cW)) (pp (pp nn (pp (xw cO) (pp (xG (decide (l1.length ≤ l1.length))) (pp (xG (decide ((tn (wr (aE + 1))) ≤ l1.length))) (xG (x6s l1.length (Zz l1) 6)))))) (tt k2 (tt k1 (tt k0 nn)))))))))))))))))))
 | .h3 aU aX bI aE bA bG aW => (lb (fun k0 => (sl hq 22 [] ⟨(List.range 6), [], w9e, w9k⟩ ⟨[], [], []⟩ (trs 19 [false, false, false, false, false, false, false, false, false, false, false]) (tt k0 nn))) (fun k0 => (lb (fun k1 => (sl hq 22 [] ⟨(List.range 6), [], w9e, w9k⟩ ⟨[], [], []⟩ [false, false, false, false, false, true, true, true, true, true, true, true, true, true, true, true, true, true, true, false, false, false, false, false, false, false, false, false, false, false] (tt k1 (tt k0 nn)))) (fun k1 => (lb (fun k2 => (sl hq 22 [] ⟨(List.range 6), [], w9e, w9k⟩ ⟨[], [], []⟩ [false, false, false, false, false, false, false, false, false, false, true, true, true, true, true, true, true, true, true, false, false, false, false, false, false, false, false, false, false, false] (tt k2 (tt k1 (tt k0 nn))))) (fun k2 => (lo fun cM => (lo fun dD => (lo fun cO => (lo fun cW => (lb (fun k3 => (lr 200 95 [1, 0, 1, 0, 0, 1, 1, 0, 0, 1, 1, 1, 1, 1, 1, 1, 1, 0, 1, 0, 0] 1 4 [(6, (.bool false))] (sl hq 30 [] ⟨[], [], [some [6]], []⟩ ⟨[], [], []⟩ [false, false, false, false, false, false, false, false, false, false, false, false, false, false, false, false, false, false, false, true, true, true, true, true, true, true, true, true, true, true, true, true] (tt k3 (pp (pp (xI R6 (l1.length - (tn (wr (aE + 1)))) (fun k => (Zz l1) ((tn (wr (aE + 1))) + k))) (xw cW)) (pp (pp nn (pp (xw cO) (pp (xG (decide (l1.length ≤ l1.length))) (pp (xG (decide ((tn (wr (aE + 1))) ≤ l1.length))) (xG (x6s l1.length (Zz l1) 6)))))) (tt k2 (tt k1 (tt k0 nn))))))))) (fun k3 => (sl hq 22 [] ⟨(List.range 6), [], w9e, w9k⟩ ⟨[], [], []⟩ [false, false, false, false, false, false, false, false, false, false, false, false, false, false, false, false, false, false, false, false, false, false, false, false, false, false, false, false, false, false] (tt k3 (pp (pp (xI R6 (l1.length - (tn (wr (aE + 1)))) (fun k => (Zz l1) ((tn (wr (aE + 1))) + k))) (xw cW)) (pp (pp nn (pp (xw cO) (pp (xG (decide (l1.length ≤ l1.length))) (pp (xG (decide ((tn (wr (aE + 1))) ≤ l1.length))) (xG (x6s l1.length (Zz l1) 6)))))) (tt k2 (tt k1 (tt k0 nn)))))))))))))))))))
 | .h4 aU bJ aX aE bH bA aW => (lb (fun k0 => (sl hq 29 [] ⟨(List.range 6), [], w9d, w9j⟩ ⟨[], [], []⟩ (trs 19 [false, false]) (tt k0 nn))) (fun k0 => (lb (fun k1 => (sl hq 29 [] ⟨(List.range 6), [], w9d, w9j⟩ ⟨[], [], []⟩ [false, false, false, false, false, true, true, true, true, true, true, true, true, true, true, true, true, true, true, false, false] (tt k1 (tt k0 nn)))) (fun k1 => (lb (fun k2 => (sl hq 29 [] ⟨(List.range 6), [], w9d, w9j⟩ ⟨[], [], []⟩ [false, false, false, false, false, false, false, false, false, false, true, true, true, true, true, true, true, true, true, false, false] (tt k2 (tt k1 (tt k0 nn))))) (fun k2 => (lo fun cM => (lo fun dD => (lo fun cO => (lo fun cW => (lb (fun k3 => (lr 200 95 [1, 0, 1, 0, 0, 1, 1, 0, 0, 1, 1, 1, 1, 1, 1, 1, 1, 0, 1, 0, 0] 1 4 [(6, (.bool false))] (sl hq 17 [] ⟨[], [], [some [6]], []⟩ ⟨[], [], []⟩ [false, false, false, false, false, false, false, false, false, false, false, false, false, false, false, false, false, false, false, false, true] (tt k3 (pp (pp (xI R6 (l1.length - (tn (wr (aE + 1)))) (fun k => (Zz l1) ((tn (wr (aE + 1))) + k))) (xw cW)) (pp (pp nn (pp (xw cO) (pp (xG (decide (l1.length ≤ l1.length))) (pp (xG (decide ((tn (wr (aE + 1))) ≤ l1.length))) (xG (x6s l1.length (Zz l1) 6)))))) (tt k2 (tt k1 (tt k0 nn))))))))) (fun k3 => (sl hq 29 [] ⟨(List.range 6), [], w9d, w9j⟩ ⟨[], [], []⟩ [false, false, false, false, false, false, false, false, false, false, false, false, false, false, false, false, false, false, false, false, false] (tt k3 (pp (pp (xI R6 (l1.length - (tn (wr (aE + 1)))) (fun k => (Zz l1) ((tn (wr (aE + 1))) + k))) (xw cW)) (pp (pp nn (pp (xw cO) (pp (xG (decide (l1.length ≤ l1.length))) (pp (xG (decide ((tn (wr (aE + 1))) ≤ l1.length))) (xG (x6s l1.length (Zz l1) 6)))))) (tt k2 (tt k1 (tt k0 nn)))))))))))))))))))
 | .h5 aU bJ aX bI cY aE aW => (lb (fun k0 => (sl hq 21 [] ⟨[0, 1, 2], [], w9c, w9i⟩ ⟨[], [], []⟩ (trs 30 []) (tt k0 nn))) (fun k0 => (lb (fun k1 => (sl hq 21 [] ⟨[0, 1, 2], [], w9c, w9i⟩ ⟨[], [], []⟩ [false, false, false, false, false, true, true, true, true, true, true, true, true, true, true, true, true, true, true, true, true, true, true, true, true, true, true, true, true, true] (tt k1 (tt k0 nn)))) (fun k1 => (lb (fun k2 => (sl hq 21 [] ⟨[0, 1, 2], [], w9c, w9i⟩ ⟨[], [], []⟩ [false, false, false, false, false, false, false, false, false, false, true, true, true, true, true, true, true, true, true, true, true, true, true, true, true, true, true, true, true, true] (tt k2 (tt k1 (tt k0 nn))))) (fun k2 => (lo fun cM => (lo fun dD => (lo fun cO => (lo fun cW => (lb (fun k3 => (sl hq 21 [] ⟨[0, 1, 2], [], w9c, w9i⟩ ⟨[], [], []⟩ [false, false, false, false, false, false, false, false, false, false, false, false, false, false, false, false, false, false, false, true, true, true, true, true, true, true, true, true, true, true] (tt k3 (pp (pp (xI R6 (l1.length - (tn (wr (aE + 1)))) (fun k => (Zz l1) ((tn (wr (aE + 1))) + k))) (xw cW)) (pp (pp nn (pp (xw cO) (pp (xG (decide (l1.length ≤ l1.length))) (pp (xG (decide ((tn (wr (aE + 1))) ≤ l1.length))) (xG (x6s l1.length (Zz l1) 6)))))) (tt k2 (tt k1 (tt k0 nn)))))))) (fun k3 => (lr 200 95 [1, 0, 1, 0, 0, 1, 1, 0, 0, 1, 1, 1, 1, 1, 1, 1, 1, 1, 1, 0] 1 4 [(6, (.bool false))] (sl hq 24 [] ⟨[], [], [some [6]], []⟩ ⟨[], [], []⟩ [false, false, false, false, false, false, false, false, false, false, false, false, false, false, false, false, false, false, false, false, false, false, false, false, false, false, false, false, false, false] (tt k3 (pp (pp (xI R6 (l1.length - (tn (wr (aE + 1)))) (fun k => (Zz l1) ((tn (wr (aE + 1))) + k))) (xw cW)) (pp (pp nn (pp (xw cO) (pp (xG (decide (l1.length ≤ l1.length))) (pp (xG (decide ((tn (wr (aE + 1))) ≤ l1.length))) (xG (x6s l1.length (Zz l1) 6)))))) (tt k2 (tt k1 (tt k0 nn))))))))))))))))))))
 | .h6 aU bJ cZ aX bI aE => (lb (fun k0 => (lr 200 95 [1, 0, 1, 0, 0, 1, 1, 0, 0, 1, 1, 1, 1, 1, 1, 1, 1, 1, 1, 0] 1 4 [(6, (.bool true))] (sl hq 12 [] ⟨[], [], [some [6]], []⟩ ⟨[], [], []⟩ (trs 19 []) (tt k0 nn)))) (fun k0 => (lb (fun k1 => (lr 200 95 [1, 0, 1, 0, 0, 1, 1, 0, 0, 1, 1, 1, 1, 1, 1, 1, 1, 1, 1, 0] 1 4 [(6, (.bool true))] (sl hq 12 [] ⟨[], [], [some [6]], []⟩ ⟨[], [], []⟩ [false, false, false, false, false, true, true, true, true, true, true, true, true, true, true, true, true, true, true] (tt k1 (tt k0 nn))))) (fun k1 => (lb (fun k2 => (lr 200 95 [1, 0, 1, 0, 0, 1, 1, 0, 0, 1, 1, 1, 1, 1, 1, 1, 1, 1, 1, 0] 1 4 [(6, (.bool true))] (sl hq 12 [] ⟨[], [], [some [6]], []⟩ ⟨[], [], []⟩ [false, false, false, false, false, false, false, false, false, false, true, true, true, true, true, true, true, true, true] (tt k2 (tt k1 (tt k0 nn)))))) (fun k2 => (lo fun o0 => (lo fun o1 => (lo fun o2 => (lo fun o3 => (lr 200 95 [1, 0, 1, 0, 0, 1, 1, 0, 0, 1, 1, 1, 1, 1, 1, 1, 1, 1, 1, 0] 1 4 [(6, (.bool (x8f aU bJ cZ aX bI aP (lst R6 (l1.length - (tn (wr (aE + 1)))) (fun k => (Zz l1) ((tn (wr (aE + 1))) + k))) x2)))] (sl hq 12 [] ⟨[], [], [some [6]], []⟩ ⟨[], [], []⟩ [false, false, false, false, false, false, false, false, false, false, false, false, false, false, false, false, false, false, false] (pp (pp (xI R6 (l1.length - (tn (wr (aE + 1)))) (fun k => (Zz l1) ((tn (wr (aE + 1))) + k))) (xw o3)) (pp (pp nn (pp (xw o2) (pp (xG (decide (l1.length ≤ l1.length))) (pp (xG (decide ((tn (wr (aE + 1))) ≤ l1.length))) (xG (x6s l1.length (Zz l1) 6)))))) (tt k2 (tt k1 (tt k0 nn)))))))))))))))))
theorem x2b {q : Nat} (hq : Zu prog (Tcv q)) (aM : Int) (aK : Int) (aI : Int) (aO : Int) (aT : Int) (aP : Int) (l1 : List R6) (x2 : Int) : Xd prog (Zy prog 95) (cvdC aM aK aI aO aT aP l1 x2) (Zg prog 95 [(.agg [(.int .i64 aM), (.int .i64 aK), (.int .i64 aI), (.int .i64 aO), (.int .i64 aT), (.int .i64 aP)]), (.dat l1.length (Zz l1)), (.int .i64 x2)] true []) (y4r aM aK aI aO aT aP l1 x2) := (sl hq 16 [] ⟨[0, 1, 2], [], w9h, w9n⟩ ⟨[], [], []⟩ [] nn)
theorem w9b {q : Nat} (hq : Zu prog (Tcv q)) (aM : Int) (aK : Int) (aI : Int) (aO : Int) (aT : Int) (aP : Int) (l1 : List R6) (x2 : Int) (n : Nat) (vs : List AVal) (h : Yu (Wp q aM aK aI aO aT aP l1 x2) n (y4r aM aK aI aO aT aP l1 x2) = .ret vs) : Ur prog (Zy prog 95) (Zg prog 95 [(.agg [(.int .i64 aM), (.int .i64 aK), (.int .i64 aI), (.int .i64 aO), (.int .i64 aT), (.int .i64 aP)]), (.dat l1.length (Zz l1)), (.int .i64 x2)] true []) vs := by
 have := Ze (x7q hq aM aK aI aO aT aP l1 x2) n _ (x2b hq aM aK aI aO aT aP l1 x2)
 rwa [h] at this
end Go.Am
namespace Go.Am
open Go.Proofs.Tryz
open Go.Proofs
def cvq (x : Int) (L : List R6) (i : Nat) (p : R6) : Bool := z4y p || covB x (L.drop (i + 1)) p
theorem y3b {x : Int} {L : List R6} {i : Nat} {a b c d e f : Int} : cvq x L i ⟨a, b, c, d, e, f⟩ = bif decide (a ≥ d) then true else bif decide (b ≥ e) then true else bif decide (c ≥ f) then true else x8f a b c d e f (L.drop (i + 1)) x := by
 unfold cvq z4y x8f
 cases decide (a ≥ d) <;> cases decide (b ≥ e) <;> cases decide (c ≥ f) <;> rfl
theorem cvo {q : Nat} {L : List R6} (hL : L.length ≤ q) (hl : L.length ≤ 100000) {i : Nat} (hi : i < L.length) (a b c d e f x : Int) : Wn q a b c d e f (L.drop (i + 1)) x = true := by
 unfold Wn
 rw [List.length_drop, Yd (by omega), Yp (by omega)]; rfl
theorem cv_fin {σ : Type} {step : σ → Xj σ} {N : Nat} {s : σ} {W t1 t2 t3 V : Bool} (h : Yu step N (.to s) = .ret [.bool W]) :
  Yu step N (bif t1 then .to s else bif t2 then .to s else bif t3 then .to s else bif V then .to s else .ret [.bool false]) = .ret [.bool ((bif t1 then true else bif t2 then true else bif t3 then true else V) && W)] := by
 cases t1 <;> cases t2 <;> cases t3 <;> cases V <;> first | exact Zm _ _ _ | (simp only [cond_true, cond_false, Bool.true_and]; exact h)
theorem y4s {σ : Type} {step : σ → Xj σ} {N : Nat} {s : σ} {W t1 t2 t3 V : Bool} (h : Yu step N (.to s) = .ret [.bool W]) :
  Yu step N (bif t1 then .to s else bif t2 then .to s else bif t3 then .to s else bif !V then .ret [.bool false] else .to s) = .ret [.bool ((bif t1 then true else bif t2 then true else bif t3 then true else V) && W)] := by
 cases t1 <;> cases t2 <;> cases t3 <;> cases V <;> first | exact Zm _ _ _ | (simp only [Bool.not_true, Bool.not_false, cond_true, cond_false, Bool.true_and]; exact h)
theorem cv_or {α : Type} {t1 t2 t3 : Bool} {a b : α} : (bif t1 then a else bif t2 then a else bif t3 then a else b) = bif (t1 || (t2 || t3)) then a else b := by
 cases t1 <;> cases t2 <;> cases t3 <;> rfl
theorem w7y {σ : Type} {step : σ → Xj σ} {N : Nat} {c : Bool} {a b : Xj σ} : Yu step N (bif c then a else b) = bif c then Yu step N a else Yu step N b := by cases c <;> rfl
theorem cvd_h6 {q : Nat} {B : R6} {L : List R6} {x : Int} (hL : L.length ≤ q) (hl : L.length ≤ 100000) {i : Nat} (hi : i < L.length) (aU bJ cZ aX bI : Int) : ∃ N, Yu (Wp q B.a B.b B.c B.d B.e B.f L x) N (.to (.h6 aU bJ cZ aX bI (i : Int))) = .ret [.bool (cvq x L i ⟨aU, bJ, cZ, aX, bI, B.f⟩)] := by
 have hw : IntKind.wrap .i64 ((i : Int) + 1) = ((i + 1 : Nat) : Int) := Zj (by omega)
 have e1 : decide (i + 1 ≤ L.length) = true := Yp hi
 have e2 : ∀ {X Y : Xj cvdS}, (bif decide (L.length ≤ L.length) then X else Y) = X := fun {X Y} => by rw [Yp (Nat.le_refl _)]; rfl
 have e3 : ∀ {X Y : Xj cvdS}, (bif decide (0 ≤ ((i + 1 : Nat) : Int)) then X else Y) = X := fun {X Y} => by rw [Xx (by omega)]; rfl
 refine ⟨1, ?_⟩
 rw [Zw, y3b]
 simp only [Wp, hw, e2, e3, Zk, e1, z2g L (show i + 1 ≤ L.length from hi), cvo hL hl hi, cond_true]
 cases decide (aU ≥ aX) <;> cases decide (bJ ≥ bI) <;> cases decide (cZ ≥ B.f) <;> rfl
theorem cvd_h5 {q : Nat} {B : R6} {L : List R6} {x : Int} (hL : L.length ≤ q) (hl : L.length ≤ 100000) {i : Nat} (hi : i < L.length) (aU bJ aX bI cY aW : Int) : ∃ N, Yu (Wp q B.a B.b B.c B.d B.e B.f L x) N (.to (.h5 aU bJ aX bI cY (i : Int) aW)) = .ret [.bool (cvq x L i ⟨aU, bJ, B.c, aX, bI, cY⟩ && (cvq x L i ⟨aU, bJ, aW, aX, bI, B.f⟩))] := by
 have hw : IntKind.wrap .i64 ((i : Int) + 1) = ((i + 1 : Nat) : Int) := Zj (by omega)
 have e1 : decide (i + 1 ≤ L.length) = true := Yp hi
 have e2 : ∀ {X Y : Xj cvdS}, (bif decide (L.length ≤ L.length) then X else Y) = X := fun {X Y} => by rw [Yp (Nat.le_refl _)]; rfl
 have e3 : ∀ {X Y : Xj cvdS}, (bif decide (0 ≤ ((i + 1 : Nat) : Int)) then X else Y) = X := fun {X Y} => by rw [Xx (by omega)]; rfl
 obtain ⟨N, hN⟩ := cvd_h6 (B := B) (x := x) hL hl hi aU bJ aW aX bI
 refine ⟨N + 1, ?_⟩
 rw [Zw, show cvq x L i ⟨aU, bJ, B.c, aX, bI, cY⟩ = _ from y3b]
 simp only [Wp, hw, e2, e3, Zk, e1, z2g L (show i + 1 ≤ L.length from hi), cvo hL hl hi, cond_true]
 exact cv_fin hN
theorem cvd_h4 {q : Nat} {B : R6} {L : List R6} {x : Int} (hL : L.length ≤ q) (hl : L.length ≤ 100000) {i : Nat} (hi : i < L.length) (aU bJ aX bH bA aW : Int) : ∃ N, Yu (Wp q B.a B.b B.c B.d B.e B.f L x) N (.to (.h4 aU bJ aX (i : Int) bH bA aW)) = .ret [.bool (cvq x L i ⟨aU, bJ, B.c, aX, B.e, B.f⟩ && (cvq x L i ⟨aU, bH, B.c, aX, bJ, bA⟩ && cvq x L i ⟨aU, bH, aW, aX, bJ, B.f⟩))] := by
 have hw : IntKind.wrap .i64 ((i : Int) + 1) = ((i + 1 : Nat) : Int) := Zj (by omega)
 have e1 : decide (i + 1 ≤ L.length) = true := Yp hi
 have e2 : ∀ {X Y : Xj cvdS}, (bif decide (L.length ≤ L.length) then X else Y) = X := fun {X Y} => by rw [Yp (Nat.le_refl _)]; rfl
 have e3 : ∀ {X Y : Xj cvdS}, (bif decide (0 ≤ ((i + 1 : Nat) : Int)) then X else Y) = X := fun {X Y} => by rw [Xx (by omega)]; rfl
 obtain ⟨N, hN⟩ := cvd_h5 (B := B) (x := x) hL hl hi aU bH aX bJ bA aW
 refine ⟨N + 1, ?_⟩
 rw [Zw, show cvq x L i ⟨aU, bJ, B.c, aX, B.e, B.f⟩ = _ from y3b]
 simp only [Wp, hw, e2, e3, Zk, e1, z2g L (show i + 1 ≤ L.length from hi), cvo hL hl hi, cond_true]
 exact y4s hN
theorem cvd_h3 {q : Nat} {B : R6} {L : List R6} {x : Int} (hL : L.length ≤ q) (hl : L.length ≤ 100000) {i : Nat} (hi : i < L.length) (aU aX bI bA bG aW : Int) : ∃ N, Yu (Wp q B.a B.b B.c B.d B.e B.f L x) N (.to (.h3 aU aX bI (i : Int) bA bG aW)) = .ret [.bool (cvq x L i ⟨aU, B.b, B.c, aX, bI, B.f⟩ && (cvq x L i ⟨aU, bG, B.c, aX, B.e, B.f⟩ && (cvq x L i ⟨aU, bI, B.c, aX, bG, bA⟩ && cvq x L i ⟨aU, bI, aW, aX, bG, B.f⟩)))] := by
 have hw : IntKind.wrap .i64 ((i : Int) + 1) = ((i + 1 : Nat) : Int) := Zj (by omega)
 have e1 : decide (i + 1 ≤ L.length) = true := Yp hi
 have e2 : ∀ {X Y : Xj cvdS}, (bif decide (L.length ≤ L.length) then X else Y) = X := fun {X Y} => by rw [Yp (Nat.le_refl _)]; rfl
 have e3 : ∀ {X Y : Xj cvdS}, (bif decide (0 ≤ ((i + 1 : Nat) : Int)) then X else Y) = X := fun {X Y} => by rw [Xx (by omega)]; rfl
 obtain ⟨N, hN⟩ := cvd_h4 (B := B) (x := x) hL hl hi aU bG aX bI bA aW
 refine ⟨N + 1, ?_⟩
 rw [Zw, show cvq x L i ⟨aU, B.b, B.c, aX, bI, B.f⟩ = _ from y3b]
 simp only [Wp, hw, e2, e3, Zk, e1, z2g L (show i + 1 ≤ L.length from hi), cvo hL hl hi, cond_true]
 exact y4s hN
theorem cvd_h2 {q : Nat} {B : R6} {L : List R6} {x : Int} (hL : L.length ≤ q) (hl : L.length ≤ 100000) {i : Nat} (hi : i < L.length) (aU aQ bH bA bG aW : Int) : ∃ N, Yu (Wp q B.a B.b B.c B.d B.e B.f L x) N (.to (.h2 aU (i : Int) aQ bH bA bG aW)) = .ret [.bool (cvq x L i ⟨aU, B.b, B.c, B.d, B.e, B.f⟩ && (cvq x L i ⟨aQ, B.b, B.c, aU, bH, B.f⟩ && (cvq x L i ⟨aQ, bG, B.c, aU, B.e, B.f⟩ && (cvq x L i ⟨aQ, bH, B.c, aU, bG, bA⟩ && cvq x L i ⟨aQ, bH, aW, aU, bG, B.f⟩))))] := by
 have hw : IntKind.wrap .i64 ((i : Int) + 1) = ((i + 1 : Nat) : Int) := Zj (by omega)
 have e1 : decide (i + 1 ≤ L.length) = true := Yp hi
 have e2 : ∀ {X Y : Xj cvdS}, (bif decide (L.length ≤ L.length) then X else Y) = X := fun {X Y} => by rw [Yp (Nat.le_refl _)]; rfl
 have e3 : ∀ {X Y : Xj cvdS}, (bif decide (0 ≤ ((i + 1 : Nat) : Int)) then X else Y) = X := fun {X Y} => by rw [Xx (by omega)]; rfl
 obtain ⟨N, hN⟩ := cvd_h3 (B := B) (x := x) hL hl hi aQ aU bH bA bG aW
 refine ⟨N + 1, ?_⟩
 rw [Zw, show cvq x L i ⟨aU, B.b, B.c, B.d, B.e, B.f⟩ = _ from y3b]
 simp only [Wp, hw, e2, e3, Zk, e1, z2g L (show i + 1 ≤ L.length from hi), cvo hL hl hi, cond_true]
 exact y4s hN
theorem cvd_h1 {q : Nat} {B : R6} {L : List R6} {x : Int} (hL : L.length ≤ q) (hl : L.length ≤ 100000) {i : Nat} (hi : i < L.length) (aX w aQ bH bA cE bG aW : Int) : ∃ N, Yu (Wp q B.a B.b B.c B.d B.e B.f L x) N (.to (.h1 aX w (i : Int) aQ bH bA cE bG aW)) = .ret [.bool (cvq x L i ⟨B.a, B.b, B.c, aX, B.e, B.f⟩ && (cvq x L i ⟨cE, B.b, B.c, B.d, B.e, B.f⟩ && (cvq x L i ⟨aQ, B.b, B.c, cE, bH, B.f⟩ && (cvq x L i ⟨aQ, bG, B.c, cE, B.e, B.f⟩ && (cvq x L i ⟨aQ, bH, B.c, cE, bG, bA⟩ && cvq x L i ⟨aQ, bH, aW, cE, bG, B.f⟩)))))] := by
 have hw : IntKind.wrap .i64 ((i : Int) + 1) = ((i + 1 : Nat) : Int) := Zj (by omega)
 have e1 : decide (i + 1 ≤ L.length) = true := Yp hi
 have e2 : ∀ {X Y : Xj cvdS}, (bif decide (L.length ≤ L.length) then X else Y) = X := fun {X Y} => by rw [Yp (Nat.le_refl _)]; rfl
 have e3 : ∀ {X Y : Xj cvdS}, (bif decide (0 ≤ ((i + 1 : Nat) : Int)) then X else Y) = X := fun {X Y} => by rw [Xx (by omega)]; rfl
 obtain ⟨N, hN⟩ := cvd_h2 (B := B) (x := x) hL hl hi cE aQ bH bA bG aW
 refine ⟨N + 1, ?_⟩
 rw [Zw, show cvq x L i ⟨B.a, B.b, B.c, aX, B.e, B.f⟩ = _ from y3b]
 simp only [Wp, hw, e2, e3, Zk, e1, z2g L (show i + 1 ≤ L.length from hi), cvo hL hl hi, cond_true]
 exact y4s hN
theorem v3h {q : Nat} {B : R6} {L : List R6} {x : Int} (hL : L.length ≤ q) (hl : L.length ≤ 100000) : ∀ (k i : Nat), i + k = L.length → ∃ N, Yu (Wp q B.a B.b B.c B.d B.e B.f L x) N (.to (.h0 (i : Int))) = .ret [.bool (covB x (L.drop i) B)]
 | 0, i, h => by
  refine ⟨1, ?_⟩
  rw [Zw, List.drop_eq_nil_of_le (by omega)]
  simp (disch := omega) only [Wp, Zs, cond_false]; rfl
 | k + 1, i, h => by
  have hi : i < L.length := by omega
  have hw : IntKind.wrap .i64 ((i : Int) + 1) = ((i + 1 : Nat) : Int) := Zj (by omega)
  obtain ⟨N, hN⟩ := v3h (B := B) (x := x) hL hl k (i + 1) (by omega)
  obtain ⟨M, hM⟩ := cvd_h1 (B := B) (x := x) hL hl hi (gA x (rd L i) B).a (gA x (rd L i) B).a (gA x (rd L i) B).a (gA x (rd L i) B).b (gA x (rd L i) B).c (gA x (rd L i) B).d (gA x (rd L i) B).e (gA x (rd L i) B).f
  rw [Yg hi]
  have key : ∀ K, Yu (Wp q B.a B.b B.c B.d B.e B.f L x) (K + 1) (.to (.h0 (i : Int))) = bif z4y (gA x (rd L i) B) then Yu (Wp q B.a B.b B.c B.d B.e B.f L x) K (.to (.h0 ((i + 1 : Nat) : Int))) else Yu (Wp q B.a B.b B.c B.d B.e B.f L x) K (.to (.h1 (gA x (rd L i) B).a (gA x (rd L i) B).a (i : Int) (gA x (rd L i) B).a (gA x (rd L i) B).b (gA x (rd L i) B).c (gA x (rd L i) B).d (gA x (rd L i) B).e (gA x (rd L i) B).f)) := fun K => by
   rw [Zw]
   simp (disch := omega) only [Wp, Yv, Yj, hw, Zk, Bool.and_true, cond_true]
   exact (congrArg (Yu _ K) cv_or).trans w7y
  show ∃ N, Yu _ N _ = Xj.ret [.bool (bif z4y (gA x (rd L i) B) then covB x (L.drop (i + 1)) B else (cvq x L i (v3g (gA x (rd L i) B) B)) && ((cvq x L i (v3f (gA x (rd L i) B) B)) && ((cvq x L i (w4o (gA x (rd L i) B) B)) && ((cvq x L i (w4n (gA x (rd L i) B) B)) && ((cvq x L i (x8e (gA x (rd L i) B) B)) && (cvq x L i (x8d (gA x (rd L i) B) B)))))))]
  rcases Zn (z4y (gA x (rd L i) B)) with he | he
  ·refine ⟨N + 1, ?_⟩
   rw [key, he, cond_true, cond_true]; exact hN
  ·refine ⟨M + 1, ?_⟩
   rw [key, he, cond_false, cond_false]; exact hM
theorem v9c {q : Nat} (a b c d e f : Int) (L : List R6) (x : Int) (hL : L.length ≤ q) (hl : L.length ≤ 100000) : ∃ N, Yu (Wp q a b c d e f L x) N (y4r a b c d e f L x) = .ret [.bool (x8f a b c d e f L x)] :=
 v3h (B := ⟨a, b, c, d, e, f⟩) hL hl L.length 0 (Nat.zero_add _)
theorem y7p {S : Specs} (hS : Zu prog S) {q : Nat} (hq : Zu prog (Tcv q)) (F : List AVal → Option (AVal × Bool)) (hF : ∀ args v, F args = some (v, true) → fCov (q + 1) args = some (v, true)) : Zu prog (S.with z8l F) := by
 refine z0x hS (by kernel_rfl) fun args v h => ?_
 replace h := hF args v h
 unfold fCov at h
 split at h
 ·rename_i aM aK aI aO aT aP a1 x2
  split at h
  ·rename_i L1 g1 n1 e1
   simp only [Option.some.injEq, Prod.mk.injEq, Bool.and_eq_true, Wn, decide_eq_true_eq] at h
   obtain ⟨rfl, ho1, hw1, hw2⟩ := h
   obtain ⟨N, hN⟩ := v9c (q := q) aM aK aI aO aT aP L1 x2 (by omega) hw2
   exact ⟨_, _, (.cons (.refl _) (.cons (asL_le e1 ho1) (.cons (.refl _) .nil))), rfl, w9b hq aM aK aI aO aT aP L1 x2 N _ hN, 3, rfl⟩
  ·cases h
 ·cases h
theorem v3q : ∀ q, Zu prog (Tcv q)
 | 0 => by
  refine z0x v9h (by kernel_rfl) fun args v h => ?_
  unfold fCov at h
  split at h
  ·split at h
   ·simp only [Option.some.injEq, Prod.mk.injEq, Bool.and_eq_true, Wn, decide_eq_true_eq] at h
    exact absurd h.2.2.1 (Nat.not_lt_zero _)
   ·cases h
  ·cases h
 | q + 1 => y7p v9h (v3q q) _ fun _ _ h => h
def cvdV (a b c d e f : Int) (L : List R6) (x : Int) : Bool := x8f a b c d e f L x
def z5d (a b c d e f : Int) (L : List R6) (x : Int) : Bool := decide (L.length ≤ 100000)
def fCvd : List AVal → Option (AVal × Bool)
 | [.agg [.int .i64 aM, .int .i64 aK, .int .i64 aI, .int .i64 aO, .int .i64 aT, .int .i64 aP], a1, .int .i64 x2] => match asL R6 a1 with
  | some (L1, g1, n1) => some (.bool (cvdV aM aK aI aO aT aP L1 x2), isT R6 n1 g1 && (z5d aM aK aI aO aT aP L1 x2))
  | _ => none
 | _ => none
theorem v8n {S : Specs} (hS : Zu prog S) : Zu prog (S.with z8l fCvd) := y7p hS (v3q 100000) _ fun args v h => by
 unfold fCvd at h
 split at h
 ·split at h
  ·rename_i e1
   simp only [Option.some.injEq, Prod.mk.injEq, Bool.and_eq_true, z5d, decide_eq_true_eq] at h
   obtain ⟨rfl, ho1, hw⟩ := h
   unfold fCov
   simp only [e1, ho1, Bool.true_and, Wn]
   rw [Yd (by omega), Yp hw]; rfl
  ·cases h
 ·cases h
def Da : Specs := T9.with z8l fCvd
theorem y1p : Zu prog Da := v8n v9h
end Go.Am
namespace Go.Am
open Go.Proofs.Tryz
open Go.Proofs
inductive rchS where
 | h0 (v5 : Int) (v6 : Int)
 | h1 (v8 : Int) (cU : Int) (dA : Int) (cR : Int) (cX : Int) (aE : Int)
def rchC (l0 : List R6) (l1 : List R6) : rchS → Cfg
 | .h0 v5 v6 => ⟨⟨26, 0, true⟩, none, (Za prog 92 [1, 1, 0, 0, 0] 0), none, (Zy prog 3), ⟨Yb [(1, (.fn 93 [(.ptr 0 0), (.ptr 1 0)])), (5, (ii v5)), (6, (ii v6))], Vq [⟨[(.dat l0.length (Zz l0))], 30, none⟩, ⟨[(.dat l1.length (Zz l1))], 30, none⟩] 0, 2, [], true⟩, [⟨⟨7, 0, true⟩, (Vi prog 57 [1, 0] 1), (Za prog 57 [1, 0] 1), none, (Zy prog 3), Yb [(5, (.fn 93 [(.ptr 0 0), (.ptr 1 0)]))]⟩], .leaf⟩
 | .h1 v8 cU dA cR cX aE => ⟨⟨19, 0, true⟩, none, (Za prog 124 [1, 0, 1, 0, 0] 0), none, (Zy prog 3), ⟨Yb [(0, (.dat l0.length (Zz l0))), (1, (.fn 94 [(.ptr 0 0), (.ptr 1 0)])), (7, (ii (l0.length : Int))), (8, (ii v8))], Vq [⟨[(.dat l1.length (Zz l1))], 30, none⟩, ⟨[(ii aE)], 3, none⟩, ⟨[(.dat l0.length (Zz l0))], 30, none⟩] 0, 3, [], true⟩, [⟨⟨9, 0, true⟩, (Vi prog 86 [1, 0] 2), (Za prog 86 [1, 0] 1), none, (Zy prog 3), Yb [(5, (.dat l0.length (Zz l0))), (6, (.fn 94 [(.ptr 0 0), (.ptr 1 0)]))]⟩, ⟨⟨9, 0, true⟩, (Vi prog 93 [1, 0] 2), (Za prog 93 [1, 0] 1), none, (Zy prog 3), Yb [(5, (.dat l0.length (Zz l0))), (6, (.fn 94 [(.ptr 0 0), (.ptr 1 0)]))]⟩, ⟨⟨26, 0, true⟩, (Vi prog 92 [1, 1, 0, 0, 0, 1, 0, 1, 0] 2), (Za prog 92 [1, 1, 0, 0, 0, 1, 0, 1, 0] 1), none, (Zy prog 3), Yb [(1, (.fn 93 [(.ptr 2 0), (.ptr 0 0)])), (5, (ii cU)), (6, (ii dA)), (7, (ii cR)), (18, (.fn 93 [(.ptr 2 0), (.ptr 0 0)])), (19, (ii cX))]⟩, ⟨⟨7, 0, true⟩, (Vi prog 57 [1, 0] 1), (Za prog 57 [1, 0] 1), none, (Zy prog 3), Yb [(5, (.fn 93 [(.ptr 2 0), (.ptr 0 0)]))]⟩], .leaf⟩
def w6j : List (Option (List Nat)) := [some [1, 5, 6], some [5]]
def w6k : List (Option (List Nat)) := []
def rchN1 : List (Option (List Nat)) := [some [0, 1, 7, 8], some [5, 6], some [5, 6], some [1, 5, 6, 7, 18, 19], some [5]]
def rchM1 : List (Option (List Nat)) := []
def Ud (l0 : List R6) (l1 : List R6) : rchS → Xj rchS
 | .h0 v5 v6 => (bif (decide (v5 < v6)) then (.to (.h1 0 v5 v6 (IntKind.wrap .i64 (Int.fdiv (IntKind.wrap IntKind.u64 (IntKind.wrap .i64 (v5 + v6))) 2)) (IntKind.wrap .i64 (Int.fdiv (IntKind.wrap IntKind.u64 (IntKind.wrap .i64 (v5 + v6))) 2)) (IntKind.wrap .i64 (Int.fdiv (IntKind.wrap IntKind.u64 (IntKind.wrap .i64 (v5 + v6))) 2)))) else (.ret [(.int .i64 v5)]))
 | .h1 v8 cU dA cR cX aE => (bif (decide (v8 < (l0.length : Int))) then (bif ((decide (0 ≤ v8 ∧ v8 < (l0.length : Int))) && true) then (bif (z5d (rd l0 v8.toNat).a (rd l0 v8.toNat).b (rd l0 v8.toNat).c (rd l0 v8.toNat).d (rd l0 v8.toNat).e (rd l0 v8.toNat).f (cvT l1) aE) then (bif (!(cvdV (rd l0 v8.toNat).a (rd l0 v8.toNat).b (rd l0 v8.toNat).c (rd l0 v8.toNat).d (rd l0 v8.toNat).e (rd l0 v8.toNat).f (cvT l1) aE)) then (bif (!(!(decide (v8 ≥ 0)))) then (.to (.h0 (IntKind.wrap .i64 (cR + 1)) dA)) else (.to (.h0 cU cR))) else (.to (.h1 (IntKind.wrap .i64 (v8 + 1)) cU dA cR cX aE))) else .stuck) else .stuck) else (.to (.h0 cU cR)))
def y3y (l0 : List R6) (l1 : List R6) : Xj rchS := (.to (.h0 0 2000000))
theorem x6f (l0 : List R6) (l1 : List R6) : ∀ s, Xd prog (Zy prog 57) (rchC l0 l1) (rchC l0 l1 s) (Ud l0 l1 s)
 | .h0 v5 v6 => (lb (fun k0 => (sl y1p 57 [] ⟨[1, 2, 0], [], rchN1, rchM1⟩ ⟨[], [], []⟩ [true] (tt k0 nn))) (fun k0 => (lr 7 3 [1, 1, 1, 1, 1, 1, 0] 1 3 [(4, (ii v5))] (sl y1p 17 [] ⟨[], [], [some [4]], []⟩ ⟨[], [], []⟩ [false] (tt k0 nn)))))
 | .h1 v8 cU dA cR cX aE => (lb (fun k0 => (lo fun aF => (lo fun bC => (lb (fun k1 => (lb (fun k2 => (sl y1p 63 [] ⟨[2, 0], [], w6j, w6k⟩ ⟨[], [], []⟩ (trs 3 []) (tt k2 (tt k1 (pp (pp (xr l1) (xw bC)) (ww aF (tt k0 nn))))))) (fun k2 => (sl y1p 62 [] ⟨[2, 0], [], w6j, w6k⟩ ⟨[], [], []⟩ [true, true, false] (tt k2 (tt k1 (pp (pp (xr l1) (xw bC)) (ww aF (tt k0 nn))))))))) (fun k1 => (sl y1p 46 [] ⟨[0, 1, 2], [], rchN1, rchM1⟩ ⟨[], [], []⟩ [true, false] (tt k1 (pp (pp (xr l1) (xw bC)) (ww aF (tt k0 nn)))))))))) (fun k0 => (sl y1p 29 [] ⟨[2, 0], [], w6j, w6k⟩ ⟨[], [], []⟩ [false, false] (tt k0 nn))))
theorem x0g (l0 : List R6) (l1 : List R6) : Xd prog (Zy prog 57) (rchC l0 l1) (Zg prog 57 [(.dat l0.length (Zz l0)), (.dat l1.length (Zz l1))] true []) (y3y l0 l1) := (sl y1p 23 [] ⟨[0, 1], [], w6j, w6k⟩ ⟨[], [], []⟩ [] nn)
theorem w6i (l0 : List R6) (l1 : List R6) (n : Nat) (vs : List AVal) (h : Yu (Ud l0 l1) n (y3y l0 l1) = .ret vs) : Ur prog (Zy prog 57) (Zg prog 57 [(.dat l0.length (Zz l0)), (.dat l1.length (Zz l1))] true []) vs := by
 have := Ze (x6f l0 l1) n _ (x0g l0 l1)
 rwa [h] at this
inductive frmS where
 | h0 (v5 : Int) (v6 : Int)
def frmC (aM : Int) (aK : Int) (aI : Int) (l1 : List R6) : frmS → Cfg
 | .h0 v5 v6 => ⟨⟨27, 0, true⟩, none, (Za prog 49 [1, 1, 0, 1, 0, 0] 0), none, (Zy prog 3), ⟨Yb [(1, (.dat l1.length (Zz l1))), (2, (.ptr 0 0)), (5, (ii v5)), (6, (ii v6))], Vq [⟨[(ii aM), (ii aK), (ii aI)], 65, none⟩] 0, 1, [], true⟩, [], .leaf⟩
def frmN0 : List (Option (List Nat)) := [some [1, 2, 5, 6]]
def frmM0 : List (Option (List Nat)) := []
def z6a (aM : Int) (aK : Int) (aI : Int) (l1 : List R6) : frmS → Xj frmS
 | .h0 v5 v6 => (bif (decide (v6 < (l1.length : Int))) then (bif ((decide (0 ≤ v6 ∧ v6 < (l1.length : Int))) && true) then (.to (.h0 (Wa v5 (Xv (Xv (Xv (Xv (Xv (Xv 0 (IntKind.wrap .i64 ((rd l1 v6.toNat).a - aM))) (IntKind.wrap .i64 ((IntKind.wrap .i64 (aM - (rd l1 v6.toNat).d)) + 1))) (IntKind.wrap .i64 ((rd l1 v6.toNat).b - aK))) (IntKind.wrap .i64 ((IntKind.wrap .i64 (aK - (rd l1 v6.toNat).e)) + 1))) (IntKind.wrap .i64 ((rd l1 v6.toNat).c - aI))) (IntKind.wrap .i64 ((IntKind.wrap .i64 (aI - (rd l1 v6.toNat).f)) + 1)))) (IntKind.wrap .i64 (v6 + 1)))) else .stuck) else (.ret [(.int .i64 v5)]))
def z8s (aM : Int) (aK : Int) (aI : Int) (l1 : List R6) : Xj frmS := (bif ((decide ((0 : Int) ≤ 0 ∧ 0 < (l1.length : Int))) && true) then (.to (.h0 (Xv (Xv (Xv (Xv (Xv (Xv 0 (IntKind.wrap .i64 ((rd l1 0).a - aM))) (IntKind.wrap .i64 ((IntKind.wrap .i64 (aM - (rd l1 0).d)) + 1))) (IntKind.wrap .i64 ((rd l1 0).b - aK))) (IntKind.wrap .i64 ((IntKind.wrap .i64 (aK - (rd l1 0).e)) + 1))) (IntKind.wrap .i64 ((rd l1 0).c - aI))) (IntKind.wrap .i64 ((IntKind.wrap .i64 (aI - (rd l1 0).f)) + 1))) 1)) else .stuck)
theorem x7b (aM : Int) (aK : Int) (aI : Int) (l1 : List R6) : ∀ s, Xd prog (Zy prog 49) (frmC aM aK aI l1) (frmC aM aK aI l1 s) (z6a aM aK aI l1 s)
 | .h0 v5 v6 => (lb (fun k0 => (lo fun o0 => (sl y1p 20 [] ⟨[0], [], frmN0, frmM0⟩ ⟨[], [], []⟩ [true] (ww o0 (tt k0 nn))))) (fun k0 => (lr 27 3 [1, 1, 1, 1, 1, 1, 0] 1 3 [(4, (ii v5))] (sl y1p 15 [] ⟨[], [], [some [4]], []⟩ ⟨[], [], []⟩ [false] (tt k0 nn)))))
theorem x1j (aM : Int) (aK : Int) (aI : Int) (l1 : List R6) : Xd prog (Zy prog 49) (frmC aM aK aI l1) (Zg prog 49 [(.agg [(.int .i64 aM), (.int .i64 aK), (.int .i64 aI)]), (.dat l1.length (Zz l1))] true []) (z8s aM aK aI l1) := (lo fun o0 => (sl y1p 14 [] ⟨[0], [], frmN0, frmM0⟩ ⟨[], [], []⟩ [] (ww o0 nn)))
theorem w8c (aM : Int) (aK : Int) (aI : Int) (l1 : List R6) (n : Nat) (vs : List AVal) (h : Yu (z6a aM aK aI l1) n (z8s aM aK aI l1) = .ret vs) : Ur prog (Zy prog 49) (Zg prog 49 [(.agg [(.int .i64 aM), (.int .i64 aK), (.int .i64 aI)]), (.dat l1.length (Zz l1))] true []) vs := by
 have := Ze (x7b aM aK aI l1) n _ (x1j aM aK aI l1)
 rwa [h] at this
end Go.Am
end
