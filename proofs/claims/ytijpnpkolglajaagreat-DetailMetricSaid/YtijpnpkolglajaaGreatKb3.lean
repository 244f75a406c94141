/- A part of a proof: several texts in one. -/
import Derived.Test.YtijpnpkolglajaaGreatKb2
import Derived.Shelf.GgSortFunc.InsertionK
import Derived.Shelf.Sort.Plain
import Derived.Ground.Names2Prog
import Derived.Shelf.Slices.CompactI
import Derived.Shelf.Slices.SearchI
import Derived.Shelf.Slices.Cells
import Derived.Shelf.Slices.In.SortNone
import Derived.Shelf.SlSortCmp.WholeK
import Derived.Ground.SlsfProg
import Derived.Test.YtijpnpkolglajaaGreatProg
import Derived.Shelf.SlSortCmp.NoneTotal
set_option maxRecDepth 1000000
set_option maxHeartbeats 8000000
set_option linter.unusedVariables false
set_option linter.unusedSimpArgs false
noncomputable section
namespace Go.Am
open Go.Sort Go.RowKit Go.Proofs Go.Shelf
variable {P : Program} {ρ : Rho}
def valOf : AVal → Value
 | .int k n => .int k n
 | .bool b => .bool b
 | _ => .tuple #[]
def y9x : AVal → Bool
 | .int _ _ => true
 | .bool _ => true
 | _ => false
theorem x7e {a : AVal} (h : y9x a = true) : Yy ρ a (valOf a) := by
 cases a <;> first
  | exact .int _ _
  | exact .bool _
  | (simp [y9x] at h; done)
theorem x8y {a : AVal} {v : Value} (h : y9x a = true) (hv : Yy ρ a v) : v = valOf a := by
 cases hv <;> first
  | rfl
  | (simp [y9x] at h; done)
class v2c (α : Type) extends Ys α where
 num : ∀ a : α, (cells a).all y9x = true
instance : v2c R2 where num _ := rfl
instance : v2c R3 where num _ := rfl
instance : v2c R4 where num _ := rfl
instance : v2c R6 where num _ := rfl
instance {α : Type} [Ys α] : Inhabited α := ⟨Ys.d⟩
section
variable {α : Type} [v2c α]
def y2j (a : α) : List Value := (Ys.cells a).map valOf
theorem y0k (a : α) : (y2j a).length = Ys.w α := by rw [y2j, List.length_map, Ys.len]
theorem x3g (L : List α) (t : Nat) (h : t < L.length * Ys.w α) : (flatK y2j (Ys.w α) L.toArray)[t]? = (Ys.cells (rd L (t / Ys.w α)))[t % Ys.w α]?.map valOf := by
 have hw := Ys.pos (α := α)
 have hq : t / Ys.w α < L.length := Nat.div_lt_of_lt_mul (by rw [Nat.mul_comm]; exact h)
 have hj : t % Ys.w α < Ys.w α := Nat.mod_lt _ hw
 have hs : t < (flatK y2j (Ys.w α) L.toArray).size := by rw [size_flatK]; exact h
 rw [Array.getElem?_eq_getElem hs, ← getElem!_pos (flatK y2j (Ys.w α) L.toArray) t hs, get_flatK y2j (Ys.w α) L.toArray t (by simpa using h)]
 have e1 : L.toArray[t / Ys.w α]! = rd L (t / Ys.w α) := by
  rw [Xd hq, getElem!_pos L.toArray _ (by simpa using hq)]; simp
 rw [e1]
 have hl : t % Ys.w α < (y2j (rd L (t / Ys.w α))).length := by rw [y0k]; exact hj
 have hl2 : t % Ys.w α < (Ys.cells (rd L (t / Ys.w α))).length := by rw [Ys.len]; exact hj
 rw [getElem!_pos (y2j (rd L (t / Ys.w α))) _ hl, List.getElem?_eq_getElem hl2]
 simp [y2j]
theorem x8m (L : List α) (N t : Nat) (h : t < N * Ys.w α) : (rows N (Zz L))[t]? = (Ys.cells (rd L (t / Ys.w α)))[t % Ys.w α]? := by
 have hw := Ys.pos (α := α)
 have := Wk (get := Zz L) (sz := Ys.w α) N (fun _ _ => Ys.len _) (t / Ys.w α) (t % Ys.w α) (Nat.div_lt_of_lt_mul (by rw [Nat.mul_comm]; exact h)) (Nat.mod_lt _ hw)
 rw [show t / Ys.w α * Ys.w α + t % Ys.w α = t by rw [Nat.mul_comm]; exact Nat.div_add_mod t _] at this
 exact this
theorem Qi (L : List α) (N : Nat) : (rows N (Zz L)).length = N * Ys.w α := Yv N fun _ _ => Ys.len _
theorem z9y (w : World) (n blk off : Nat) (d : Array Value) (os : Array Obj) (k : Nat) (hk : k < w.heap.size) :
  (grow (putRow id (Go.Sort.ahead w n) blk off d) os).heap[k]? = if k = blk then (w.heap[k]?).map (onCells (putCells id off d)) else w.heap[k]? := by
 show (((Go.Sort.ahead w n).heap.modify blk (onCells (putCells id off d))) ++ os)[k]? = _
 rw [Array.getElem?_append_left (by simp; exact hk), Array.getElem?_modify]
 show (if blk = k then _ else _) = _
 by_cases h : k = blk
 ·rw [if_pos h.symm, if_pos h]; rfl
 ·rw [if_neg (fun e => h e.symm), if_neg h]; rfl
def x3h (α : Type) [Ys α] (srt : List α → List α) (bnd : List α → Bool) (g : FuncId) (args : List AVal) (mem : Mem) : Option (AVal × Nat × ABlk × Bool) := match args with
 | [.sla b sz off n cap, .fn f []] => bif Nat.beq f g then match Yr mem b with
  | some ⟨_, ty, some A⟩ => some (.tup [], b, ⟨rows A.n (Zz (srt (lst α n A.get))), ty, some ⟨Ys.w α, A.n, Zz (srt (lst α n A.get))⟩⟩,
    Nat.beq sz (Ys.w α) && (Nat.beq A.sz (Ys.w α) && (Nat.beq off 0 && ((decide (n = A.n) && (isT α n A.get && decide (n < 4611686018427387904))) && bnd (lst α n A.get)))))
  | _ => none
  else none
 | _ => none
theorem w1q {f g : FuncId} {srt : List α → List α} {bnd : List α → Bool} (hsl : ∀ L, (srt L).length = L.length)
  (hC : ∀ (blk off cap : Nat) (L : List α) (w : World), bnd L = true → HoldsK y2j (Ys.w α) w blk off L.toArray → blk < w.heap.size → L.length < 4611686018427387904 →
   Calls P f #[.slice (some ⟨blk, off, none⟩) L.length cap, .func (.func g) #[] #[]] w fun e w' => e = .returned (.tuple #[]) ∧ ∃ n os, w' = sortWorldK y2j (Ys.w α) w blk off n (srt L).toArray os)
  (hN : ∀ (p : Option Addr) (cap : Nat) (fv : Value) (w : World), Calls P f #[.slice p 0 cap, fv] w fun e w' => e = .returned (.tuple #[]) ∧ w' = w) : y7o P f (x3h α srt bnd g) := by
 intro args mem v b blk h hsome ρ next floor vals w hfl hargs hrel
 have hw0 := Ys.pos (α := α)
 unfold x3h at h
 split at h
 ·rename_i b0 sz off n cap f0
  obtain ⟨hfg, h'⟩ := Js h
  clear h
  obtain rfl := Nat.eq_of_beq_eq_true hfg
  have h := h'
  clear h'
  split at h
  ·rename_i cells ty A hm
   obtain ⟨asz, an, get⟩ := A
   simp only [Option.some.injEq, Prod.mk.injEq, Bool.and_eq_true] at h
   obtain ⟨rfl, rfl, rfl, h1, h2, h3, ⟨h4, h5, h6⟩, h7⟩ := h
   have g1 := Nat.eq_of_beq_eq_true h1
   have g2 := Nat.eq_of_beq_eq_true h2
   have g3 := Nat.eq_of_beq_eq_true h3
   have g4 : n = an := of_decide_eq_true h4
   have h6 : n < 4611686018427387904 := of_decide_eq_true h6
   have g2 : asz = Ys.w α := g2
   subst g1
   subst g2
   subst g3
   subst g4
   have h7 : bnd (lst α n get.get) = true := h7
   have hget := x2z h5
   have hget : ∀ i, i < n → get.get i = Zz (lst α n get.get) i := hget
   have hrows : rows n get.get = rows n (Zz (lst α n get.get)) := z2b n hget
   obtain ⟨u, hu, hvals⟩ : ∃ u, Yy ρ (.sla b0 (Ys.w α) 0 n cap) u ∧ vals = #[u, .func (.func f0) #[] #[]] := by
    obtain ⟨vl⟩ := vals
    cases hargs with
    | cons q1 q2 => cases q2 with
     | cons q3 q4 =>
      cases q4
      cases q3 with
      | fn _ _ cvs hl _ =>
       have : cvs = #[] := Array.eq_empty_of_size_eq_zero (by simpa using hl.symm)
       subst this
       exact ⟨_, q1, rfl⟩
   subst hvals
   have hlt : b0 < next := by
    rcases Nat.lt_or_ge b0 next with q | q
    ·exact q
    ·have := hrel.bd b0 q; rw [hm] at this; cases this
   show Calls P f _ w _
   have hAget : (Arr.get ⟨Ys.w α, n, get⟩) = get.get := rfl
   rw [hAget] at *
   generalize hI : lst α n get.get = I at *
   have hIl : I.length = n := by rw [← hI]; exact z5r _ _
   generalize hL : srt I = L
   have hLl : L.length = n := by rw [← hL, hsl, hIl]
   have hnn : ρ b0 = none → ∀ cs ty', Yr mem b0 ≠ some ⟨cs, ty', none⟩ := fun _ cs ty' e => by rw [hm] at e; cases e
   cases hu with
   | sla _ _ _ _ _ l cc e hc hlen =>
    have hbk := hrel.blk b0 l _ e hm
    obtain ⟨har, _, _⟩ := hbk.arr _ rfl
    have har : cells = rows n get.get := har
    rw [hrows] at har
    subst har
    obtain ⟨cur, el, hh, hsz, hcells⟩ := hbk.cells
    simp only [Qi] at hcells
    have htot := hbk.tot
    have hln := hbk.n
    simp only [Qi] at hln
    have hcell : ∀ t, t < n * Ys.w α → cur[l.base + t]? = (Ys.cells (rd I (t / Ys.w α)))[t % Ys.w α]?.map valOf := fun t ht => by
     obtain ⟨v, e1, e2⟩ := hcells t ht
     have hj : t % Ys.w α < Ys.w α := Nat.mod_lt _ hw0
     have hl2 : t % Ys.w α < (Ys.cells (rd I (t / Ys.w α))).length := by rw [Ys.len]; exact hj
     have e3 := x8m I n t ht
     rw [List.getElem?_eq_getElem (by rw [Qi]; exact ht), List.getElem?_eq_getElem hl2] at e3
     rw [Option.some.inj e3] at e2
     rw [e1, List.getElem?_eq_getElem hl2, Option.map_some, x8y (List.all_eq_true.1 (v2c.num _) _ (List.getElem_mem hl2)) e2]
    have hblk := hrel.real b0 l e
    have hH : HoldsK y2j (Ys.w α) w l.blk (l.base + 0 * Ys.w α) I.toArray := fun j hj => by
     have hj : j < n * Ys.w α := by simpa [hIl] using hj
     have hs : j < (flatK y2j (Ys.w α) I.toArray).size := by simpa [hIl] using hj
     have e1 := x3g I j (by rw [hIl]; exact hj)
     rw [Array.getElem?_eq_getElem hs] at e1
     refine ⟨?_, ?_⟩
     ·simp only [World.cell?, hh, Nat.zero_mul, Nat.add_zero, id]
      rw [hcell j hj, ← e1, getElem!_pos (flatK y2j (Ys.w α) I.toArray) j hs]
      simp
     ·simp [World.frozen?, hh]
    have hcall := hC l.blk (l.base + 0 * Ys.w α) cc I w h7 hH hblk (by omega)
    rw [hIl, hL] at hcall
    refine hcall.mono fun e' w' ⟨he, q, os, hw'⟩ => ⟨_, he, ?_, ?_, ?_⟩
    ·exact .tup [] #[] rfl fun i h1 h2 => absurd h1 (Nat.not_lt_zero _)
    ·subst hw'
     refine Rel.setArr ?_ ⟨Ys.w α, n, .flat (Zz L)⟩ rfl hw0 fun _ _ => Ys.len _
     refine Rel.rewritten hrel e hm (by simp only [Qi]) (fun k hk hne => ?_) ?_ ?_
     ·exact (z9y _ _ _ _ _ _ _ hk).trans (if_neg hne)
     ·show _ ≤ (((Go.Sort.ahead w q).heap.modify _ _) ++ os).size
      simp only [Array.size_append, Array.size_modify]
      exact Nat.le_add_right _ _
     ·refine ⟨putCells id (l.base + 0 * Ys.w α) (flatK y2j (Ys.w α) L.toArray) cur, el, ?_, ?_, fun i hi => ?_⟩
      ·refine (z9y _ _ _ _ _ _ _ hblk).trans ?_
       rw [if_pos rfl, hh]; rfl
      ·simp only [putCells, Array.size_mapIdx]; exact hsz
      ·rw [Qi] at hi
       have hj : i % Ys.w α < Ys.w α := Nat.mod_lt _ hw0
       have hl2 : i % Ys.w α < (Ys.cells (rd L (i / Ys.w α))).length := by rw [Ys.len]; exact hj
       have hl3 : i % Ys.w α < (Ys.cells (rd I (i / Ys.w α))).length := by rw [Ys.len]; exact hj
       have e1 := x3g L i (by rw [hLl]; exact hi)
       rw [List.getElem?_eq_getElem hl2, Option.map_some] at e1
       have hs : i < (flatK y2j (Ys.w α) L.toArray).size := by simpa [hLl] using hi
       rw [Array.getElem?_eq_getElem hs] at e1
       have e3 := x8m L n i hi
       rw [List.getElem?_eq_getElem (by rw [Qi]; exact hi), List.getElem?_eq_getElem hl2] at e3
       refine ⟨valOf (Ys.cells (rd L (i / Ys.w α)))[i % Ys.w α], ?_, ?_⟩
       ·have hc0 := hcell i hi
        rw [List.getElem?_eq_getElem hl3, Option.map_some] at hc0
        simp only [putCells, Array.getElem?_mapIdx, hc0, Option.map_some, Nat.zero_mul, Nat.add_zero]
        rw [if_pos ⟨by omega, by omega⟩]
        congr 1
        rw [show l.base + i - l.base = i by omega, id, getElem!_pos (flatK y2j (Ys.w α) L.toArray) i hs]
        exact Option.some.inj e1
       ·rw [Option.some.inj e3]
        exact x7e (List.all_eq_true.1 (v2c.num _) _ (List.getElem_mem hl2))
    ·subst hw'
     refine Ev.rewritten hrel _ (fun l' _ => hfl) hnn (fun k hk hne => ?_) ?_ rfl rfl rfl
     ·exact (z9y _ _ _ _ _ _ _ hk).trans (if_neg (hne l e))
     ·show _ ≤ (((Go.Sort.ahead w q).heap.modify _ _) ++ os).size
      simp only [Array.size_append, Array.size_modify]
      exact Nat.le_add_right _ _
   | slan =>
    have hI0 : I = [] := List.eq_nil_of_length_eq_zero hIl
    have hL0 : L = [] := List.eq_nil_of_length_eq_zero hLl
    refine (hN none 0 _ w).mono fun e' w' ⟨he, hw'⟩ => ⟨_, he, ?_, ?_, ?_⟩
    ·exact .tup [] #[] rfl fun i h1 h2 => absurd h1 (Nat.not_lt_zero _)
    ·subst hw'
     refine hrel.reblk hm fun l hρ hbk => ?_
     obtain ⟨har, har2, _⟩ := hbk.arr _ rfl
     have har : cells = rows 0 get.get := har
     subst har
     exact ⟨hbk.n, hbk.tot, fun B hB => by obtain rfl := Option.some.inj hB; exact ⟨rfl, hw0, fun i hi => absurd hi (Nat.not_lt_zero _)⟩, hbk.cells⟩
    ·subst hw'
     exact Ev.rewritten hrel _ (fun l' _ => hfl) hnn (fun _ _ _ => rfl) (Nat.le_refl _) rfl rfl rfl
  ·cases h
 ·cases h
end
def Specs.withE (S : Specs) (f : FuncId) (F : List AVal → Mem → Option (AVal × Nat × ABlk × Bool)) : Specs := fun g => bif Nat.beq g f then some (.eff F) else S g
theorem y2r {P : Program} {S : Specs} (hS : Zu P S) {f : FuncId} {F : List AVal → Mem → Option (AVal × Nat × ABlk × Bool)} (hf : (P.funcs[f]?).any (fun fn => fn.body.isSome) = true) (hF : y7o P f F) : Zu P (S.withE f F) := by
 intro g G hg
 unfold Specs.withE at hg
 cases hgf : Nat.beq g f with
 | false => rw [hgf] at hg; exact hS g G hg
 | true =>
  rw [hgf] at hg
  obtain rfl : Spec.eff F = G := Option.some.inj hg
  obtain rfl : g = f := Nat.eq_of_beq_eq_true hgf
  refine ⟨?_, hF⟩
  cases hfn : P.funcs[g]? with
  | none => rw [hfn] at hf; cases hf
  | some fn => rw [hfn] at hf; exact ⟨fn, rfl, hf⟩
end Go.Am
namespace Go.Proofs
open Go.Shelf
def Tryz.lays189_ren : Go.Shelf.Ren := ⟨fun | 189 => 119 | 125 => 142 | 257 => 141 | 128 => 164 | 129 => 165 | 294 => 155 | 295 => 156 | 296 => 157 | 297 => 158 | 298 => 159 | 299 => 160 | 216 => 161 | 300 => 162 | 301 => 163 | 328 => 175 | 329 => 176 | 330 => 177 | 331 => 178 | 332 => 179 | 215 => 180 | 343 => 190 | n => n, fun | 28 => 47 | 3 => 3 | 46 => 165 | 0 => 0 | 51 => 213 | 53 => 215 | 4 => 4 | 183 => 205 | 182 => 204 | 131 => 210 | 5 => 5 | 9 => 9 | 218 => 227 | 222 => 231 | 228 => 242 | 229 => 27 | n => n, fun | n => n⟩
theorem Tryz.lays189 : Go.Proofs.Lays.n189 Tryz.prog Tryz.lays189_ren := {
 mixed := by kernel_rfl
 f125 := Tryz.func142.trans (congrArg some (by kernel_rfl))
 f128 := Tryz.func164.trans (congrArg some (by kernel_rfl))
 f129 := Tryz.func165.trans (congrArg some (by kernel_rfl))
 f189 := Tryz.func119.trans (congrArg some (by kernel_rfl))
 f215 := Tryz.func180.trans (congrArg some (by kernel_rfl))
 f216 := Tryz.func161.trans (congrArg some (by kernel_rfl))
 f257 := Tryz.func141.trans (congrArg some (by kernel_rfl))
 f294 := Tryz.func155.trans (congrArg some (by kernel_rfl))
 f295 := Tryz.func156.trans (congrArg some (by kernel_rfl))
 f296 := Tryz.func157.trans (congrArg some (by kernel_rfl))
 f297 := Tryz.func158.trans (congrArg some (by kernel_rfl))
 f298 := Tryz.func159.trans (congrArg some (by kernel_rfl))
 f299 := Tryz.func160.trans (congrArg some (by kernel_rfl))
 f300 := Tryz.func162.trans (congrArg some (by kernel_rfl))
 f301 := Tryz.func163.trans (congrArg some (by kernel_rfl))
 f328 := Tryz.func175.trans (congrArg some (by kernel_rfl))
 f329 := Tryz.func176.trans (congrArg some (by kernel_rfl))
 f330 := Tryz.func177.trans (congrArg some (by kernel_rfl))
 f331 := Tryz.func178.trans (congrArg some (by kernel_rfl))
 f332 := Tryz.func179.trans (congrArg some (by kernel_rfl))
 f343 := Tryz.func190.trans (congrArg some (by kernel_rfl))
 t0 := Tryz.underlying0
 a0 := Tryz.isAgg0
 z0 := Tryz.sizeOf0
 v0 := Tryz.zeroValue0
 t3 := Tryz.underlying3
 a3 := Tryz.isAgg3
 z3 := Tryz.sizeOf3
 v3 := Tryz.zeroValue3
 t4 := Tryz.underlying4
 a4 := Tryz.isAgg4
 z4 := Tryz.sizeOf4
 v4 := Tryz.zeroValue4
 t5 := Tryz.underlying5
 a5 := Tryz.isAgg5
 z5 := Tryz.sizeOf5
 v5 := Tryz.zeroValue5
 t9 := Tryz.underlying9
 a9 := Tryz.isAgg9
 z9 := Tryz.sizeOf9
 v9 := Tryz.zeroValue9
 t28 := Tryz.underlying47
 a28 := Tryz.isAgg47
 z28 := Tryz.sizeOf47
 v28 := Tryz.zeroValue47
 t46 := Tryz.underlying165
 a46 := Tryz.isAgg165
 z46 := Tryz.sizeOf165
 v46 := Tryz.zeroValue165
 t51 := Tryz.underlying213
 a51 := Tryz.isAgg213
 z51 := Tryz.sizeOf213
 v51 := Tryz.zeroValue213
 t53 := Tryz.underlying215
 a53 := Tryz.isAgg215
 z53 := Tryz.sizeOf215
 v53 := Tryz.zeroValue215
 t131 := Tryz.underlying210
 a131 := Tryz.isAgg210
 z131 := Tryz.sizeOf210
 v131 := Tryz.zeroValue210
 t182 := Tryz.underlying204
 a182 := Tryz.isAgg204
 z182 := Tryz.sizeOf204
 v182 := Tryz.zeroValue204
 t183 := Tryz.underlying205
 a183 := Tryz.isAgg205
 z183 := Tryz.sizeOf205
 v183 := Tryz.zeroValue205
 t218 := Tryz.underlying227
 a218 := Tryz.isAgg227
 z218 := Tryz.sizeOf227
 v218 := Tryz.zeroValue227
 t222 := Tryz.underlying231
 a222 := Tryz.isAgg231
 z222 := Tryz.sizeOf231
 v222 := Tryz.zeroValue231
 t228 := Tryz.underlying242
 a228 := Tryz.isAgg242
 z228 := Tryz.sizeOf242
 v228 := Tryz.zeroValue242
 t229 := Tryz.underlying27
 a229 := Tryz.isAgg27
 z229 := Tryz.sizeOf27
 v229 := Tryz.zeroValue27 }
open Go.Sort Go.RowKit in
theorem Tryz.slices_Sort_int (blk off cap : Nat) (zs : List Int) (w : World) (hH : Holds (Value.int .i64) w blk off zs.toArray) (hblk : blk < w.heap.size) (hsz : zs.length < 4611686018427387904) :
  Calls Tryz.prog 119 #[.slice (some ⟨blk, off, none⟩) zs.length cap] w fun e w' =>
   e = .returned (.tuple #[]) ∧ ∃ n os, w' = grow (putRow (Value.int .i64) (Sort.ahead w n) blk off (zs.mergeSort fun x y => decide (x ≤ y)).toArray) os := Any.slices_Sort_int Tryz.lays189 blk off cap zs w hH hblk hsz
def Tryz.laysNm220_ren : Go.Shelf.Ren := ⟨fun | 20 => 120 | n => n, fun | 22 => 47 | 3 => 3 | 4 => 4 | 0 => 0 | n => n, fun | n => n⟩
theorem Tryz.laysNm220 : Go.Proofs.Lays2.n20 Tryz.prog Tryz.laysNm220_ren := {
 mixed := by kernel_rfl
 f20 := Tryz.func120.trans (congrArg some (by kernel_rfl))
 t0 := Tryz.underlying0
 a0 := Tryz.isAgg0
 z0 := Tryz.sizeOf0
 v0 := Tryz.zeroValue0
 t3 := Tryz.underlying3
 a3 := Tryz.isAgg3
 z3 := Tryz.sizeOf3
 v3 := Tryz.zeroValue3
 t4 := Tryz.underlying4
 a4 := Tryz.isAgg4
 z4 := Tryz.sizeOf4
 v4 := Tryz.zeroValue4
 t22 := Tryz.underlying47
 a22 := Tryz.isAgg47
 z22 := Tryz.sizeOf47
 v22 := Tryz.zeroValue47
 i3 := by kernel_rfl }
open Go.RowKit Go.Lib Go.Sort in
theorem Tryz.slices_Compact_int (blk off cap : Nat) (zs : List Int) (w : World) (hH : Holds (Value.int .i64) w blk off zs.toArray) (hsz : zs.length ≤ 9223372036854775807) (hcap : zs.length ≤ cap) :
  Calls Tryz.prog 120 #[.slice (some ⟨blk, off, none⟩) zs.length cap] w fun e w' => e = .returned (.slice (some ⟨blk, off, none⟩) (Lib.compact zs).length cap) ∧ ∃ q, w' = putRow (Value.int .i64) (Sort.ahead w q) blk off (Lib.compact zs ++ List.replicate (zs.length - (Lib.compact zs).length) 0).toArray := Any.slices_Compact_int Tryz.laysNm220 blk off cap zs w hH hsz hcap
open Go.RowKit Go.Lib Go.Sort in
theorem Tryz.slices_Compact_int_empty (a : Option Addr) (cap : Nat) (w : World) :
  Calls Tryz.prog 120 #[.slice a 0 cap] w fun e w' => e = .returned (.slice a 0 cap) ∧ w' = w := Any.slices_Compact_int_empty Tryz.laysNm220 a cap w
open Go.RowKit Go.Sort in
theorem Tryz.slices_Sort_int_none (p : Option Addr) (cap : Nat) (w : World) :
  Calls Tryz.prog 119 #[.slice p 0 cap] w fun e w' => e = .returned (.tuple #[]) ∧ w' = w := Any.slices_Sort_int_none Tryz.lays189 p cap w
def Tryz.sortEnd_ren : Go.Shelf.Ren := ⟨fun | 6 => 192 | 15 => 142 | 14 => 196 | 28 => 164 | 29 => 165 | 20 => 198 | 21 => 199 | 22 => 200 | 23 => 201 | 24 => 202 | 25 => 203 | 26 => 204 | 27 => 205 | 46 => 206 | 47 => 176 | 48 => 177 | 49 => 207 | 50 => 208 | 57 => 209 | n => n, fun | 22 => 245 | 24 => 240 | 25 => 247 | 3 => 3 | 39 => 165 | 0 => 0 | 53 => 213 | 55 => 215 | 4 => 4 | 46 => 205 | 45 => 204 | 50 => 210 | 5 => 5 | 9 => 9 | 66 => 227 | 70 => 231 | 76 => 242 | 77 => 27 | n => n, fun | n => n⟩
theorem Tryz.sortEnd : Go.Proofs.SlLaysF0.n6 Tryz.prog Tryz.sortEnd_ren := {
 mixed := by kernel_rfl
 f6 := ⟨Tryz.f192.name, by decide, Tryz.func192.trans (congrArg some (by kernel_rfl))⟩
 f14 := ⟨Tryz.f196.name, by decide, Tryz.func196.trans (congrArg some (by kernel_rfl))⟩
 f15 := Tryz.func142.trans (congrArg some (by kernel_rfl))
 f20 := ⟨Tryz.f198.name, by decide, Tryz.func198.trans (congrArg some (by kernel_rfl))⟩
 f21 := ⟨Tryz.f199.name, by decide, Tryz.func199.trans (congrArg some (by kernel_rfl))⟩
 f22 := ⟨Tryz.f200.name, by decide, Tryz.func200.trans (congrArg some (by kernel_rfl))⟩
 f23 := ⟨Tryz.f201.name, by decide, Tryz.func201.trans (congrArg some (by kernel_rfl))⟩
 f24 := ⟨Tryz.f202.name, by decide, Tryz.func202.trans (congrArg some (by kernel_rfl))⟩
 f25 := ⟨Tryz.f203.name, by decide, Tryz.func203.trans (congrArg some (by kernel_rfl))⟩
 f26 := ⟨Tryz.f204.name, by decide, Tryz.func204.trans (congrArg some (by kernel_rfl))⟩
 f27 := ⟨Tryz.f205.name, by decide, Tryz.func205.trans (congrArg some (by kernel_rfl))⟩
 f28 := Tryz.func164.trans (congrArg some (by kernel_rfl))
 f29 := Tryz.func165.trans (congrArg some (by kernel_rfl))
 f46 := ⟨Tryz.f206.name, by decide, Tryz.func206.trans (congrArg some (by kernel_rfl))⟩
 f47 := Tryz.func176.trans (congrArg some (by kernel_rfl))
 f48 := Tryz.func177.trans (congrArg some (by kernel_rfl))
 f49 := ⟨Tryz.f207.name, by decide, Tryz.func207.trans (congrArg some (by kernel_rfl))⟩
 f50 := ⟨Tryz.f208.name, by decide, Tryz.func208.trans (congrArg some (by kernel_rfl))⟩
 f57 := ⟨Tryz.f209.name, by decide, Tryz.func209.trans (congrArg some (by kernel_rfl))⟩
 t0 := Tryz.underlying0
 a0 := Tryz.isAgg0
 z0 := Tryz.sizeOf0
 v0 := Tryz.zeroValue0
 t3 := Tryz.underlying3
 a3 := Tryz.isAgg3
 z3 := Tryz.sizeOf3
 v3 := Tryz.zeroValue3
 t4 := Tryz.underlying4
 a4 := Tryz.isAgg4
 z4 := Tryz.sizeOf4
 v4 := Tryz.zeroValue4
 t5 := Tryz.underlying5
 a5 := Tryz.isAgg5
 z5 := Tryz.sizeOf5
 v5 := Tryz.zeroValue5
 t9 := Tryz.underlying9
 a9 := Tryz.isAgg9
 z9 := Tryz.sizeOf9
 v9 := Tryz.zeroValue9
 t22 := Tryz.underlying245
 a22 := Tryz.isAgg245
 z22 := Tryz.sizeOf245
 v22 := Tryz.zeroValue245
 t25 := Tryz.underlying247
 a25 := Tryz.isAgg247
 z25 := Tryz.sizeOf247
 v25 := Tryz.zeroValue247
 t39 := Tryz.underlying165
 a39 := Tryz.isAgg165
 z39 := Tryz.sizeOf165
 v39 := Tryz.zeroValue165
 t45 := Tryz.underlying204
 a45 := Tryz.isAgg204
 z45 := Tryz.sizeOf204
 v45 := Tryz.zeroValue204
 t46 := Tryz.underlying205
 a46 := Tryz.isAgg205
 z46 := Tryz.sizeOf205
 v46 := Tryz.zeroValue205
 t50 := Tryz.underlying210
 a50 := Tryz.isAgg210
 z50 := Tryz.sizeOf210
 v50 := Tryz.zeroValue210
 t53 := Tryz.underlying213
 a53 := Tryz.isAgg213
 z53 := Tryz.sizeOf213
 v53 := Tryz.zeroValue213
 t55 := Tryz.underlying215
 a55 := Tryz.isAgg215
 z55 := Tryz.sizeOf215
 v55 := Tryz.zeroValue215
 t66 := Tryz.underlying227
 a66 := Tryz.isAgg227
 z66 := Tryz.sizeOf227
 v66 := Tryz.zeroValue227
 t70 := Tryz.underlying231
 a70 := Tryz.isAgg231
 z70 := Tryz.sizeOf231
 v70 := Tryz.zeroValue231
 t76 := Tryz.underlying242
 a76 := Tryz.isAgg242
 z76 := Tryz.sizeOf242
 v76 := Tryz.zeroValue242
 t77 := Tryz.underlying27
 a77 := Tryz.isAgg27
 z77 := Tryz.sizeOf27
 v77 := Tryz.zeroValue27 }
end Go.Proofs
namespace Go.Proofs
open Go.Shelf Go.RowKit Go.Lib Go.Sort
theorem Tryz.cmpEnd (a b c a' b' c' : Int) (h : -1000000000 ≤ a ∧ a ≤ 1000000000) (h' : -1000000000 ≤ a' ∧ a' ≤ 1000000000) (W : World) :
  Calls Tryz.prog 193 #[.agg #[.int .i64 a, .int .i64 b, .int .i64 c], .agg #[.int .i64 a', .int .i64 b', .int .i64 c']] W fun e w' => e = .returned (.int .i64 (a - a')) ∧ ∃ q os', w' = grow (W.drewN q) os' := by
 go_enter Tryz.func193, Tryz.ntmps193
 go_wp2
 go_ret
 exact ⟨rfl, 0, _, by rw [alloc_eq_grow, alloc_eq_grow, grow_grow]; rfl⟩
end Go.Proofs
namespace Go.Am
open Go.Proofs
inductive rjsS where
 | h0 (v9 : List R6) (v10 : List R4) (v11 : Int) (v12 : Int)
 | h1 (v9 : List R6) (v10 : List R4) (v11 : Int) (v12 : Int) (v13 : List R4) (v15 : Int)
 | h2 (v9 : List R6) (v10 : List R4) (v11 : Int) (v12 : Int) (v14 : Int)
def rjsC (x0 : Int) (l1 : List R6) (l2 : List R6) : rjsS → Cfg
 | .h0 v9 v10 v11 v12 => ⟨⟨137, 0, true⟩, none, (Za Tryz.prog 79 [1, 1, 1, 1, 1, 0, 1, 0, 0] 0), none, (Zy Tryz.prog 23), ⟨Yp [(0, (ii x0)), (1, (.dat l1.length (Zz l1))), (2, (.dat l2.length (Zz l2))), (8, (.dat (Yi (cvT l1) (cvT l2)).length (Zz (Yi (cvT l1) (cvT l2))))), (9, (.sla 0 6 0 v9.length (.un 6))), (10, (.dat v10.length (Zz v10))), (11, (ii v11)), (12, (ii v12))], Ve [⟨rows v9.length (Zz v9), 68, some ⟨6, v9.length, (Zz v9)⟩⟩] 0, 1, [], true⟩, [], .leaf⟩
 | .h1 v9 v10 v11 v12 v13 v15 => ⟨⟨137, 0, true⟩, none, (Za Tryz.prog 79 [1, 1, 1, 1, 1, 0, 1, 0, 0, 1, 0, 0, 1, 1, 1, 1, 1, 0, 0] 0), none, (Zy Tryz.prog 23), ⟨Yp [(0, (ii x0)), (1, (.dat l1.length (Zz l1))), (2, (.dat l2.length (Zz l2))), (8, (.dat (Yi (cvT l1) (cvT l2)).length (Zz (Yi (cvT l1) (cvT l2))))), (9, (.sla 0 6 0 v9.length (.un 6))), (10, (.dat v10.length (Zz v10))), (11, (ii v11)), (12, (ii v12)), (13, (.dat v13.length (Zz v13))), (15, (ii v15))], Ve [⟨rows v9.length (Zz v9), 68, some ⟨6, v9.length, (Zz v9)⟩⟩] 0, 1, [], true⟩, [], .leaf⟩
 | .h2 v9 v10 v11 v12 v14 => ⟨⟨137, 0, true⟩, none, (Za Tryz.prog 79 [1, 1, 1, 1, 1, 0, 1, 0, 0, 1, 0, 0, 1, 1, 0, 1, 0, 0, 1, 0, 0] 0), none, (Zy Tryz.prog 23), ⟨Yp [(0, (ii x0)), (1, (.dat l1.length (Zz l1))), (2, (.dat l2.length (Zz l2))), (8, (.dat (Yi (cvT l1) (cvT l2)).length (Zz (Yi (cvT l1) (cvT l2))))), (9, (.sla 0 6 0 v9.length (.un 6))), (10, (.dat v10.length (Zz v10))), (11, (ii v11)), (12, (ii v12)), (14, (ii v14))], Ve [⟨rows v9.length (Zz v9), 68, some ⟨6, v9.length, (Zz v9)⟩⟩] 0, 1, [], true⟩, [], .leaf⟩
def v3m : List (Option (List Nat)) := [some [0, 1, 2, 8, 9, 10, 11, 12]]
def v3o : List (Option (List Nat)) := []
def v3l : List (Option (List Nat)) := [some [0, 1, 2, 8, 9, 10, 11, 12, 13, 15]]
def v3n : List (Option (List Nat)) := []
def rjsN2 : List (Option (List Nat)) := [some [0, 1, 2, 8, 9, 10, 11, 12, 14]]
def rjsM2 : List (Option (List Nat)) := []
def Wr (x0 : Int) (l1 : List R6) (l2 : List R6) : rjsS → Xc rjsS
 | .h0 v9 v10 v11 v12 => (bif (decide ((IntKind.wrap .i64 (v12 + 1)) < (((Yi (cvT l1) (cvT l2)).length : Nat) : Int))) then (bif (z2q (cvT l1) (rd (Yi (cvT l1) (cvT l2)) v12.toNat)) then (bif ((decide (0 ≤ v12 ∧ v12 < (((Yi (cvT l1) (cvT l2)).length : Nat) : Int))) && true) then (bif (z2q (cvT l2) (rd (Yi (cvT l1) (cvT l2)) v12.toNat)) then (bif (Qv x0 (cvT (atV (cvT l1) (rd (Yi (cvT l1) (cvT l2)) v12.toNat))) (cvT (atV (cvT l2) (rd (Yi (cvT l1) (cvT l2)) v12.toNat)))) then (bif (decide ((((joV x0 (cvT (atV (cvT l1) (rd (Yi (cvT l1) (cvT l2)) v12.toNat))) (cvT (atV (cvT l2) (rd (Yi (cvT l1) (cvT l2)) v12.toNat)))).length : Nat) : Int) > 400)) then (.ret [.nils, (.bool false)]) else (bif (Qv 2 (cvT (atV (cvT l1) (rd (Yi (cvT l1) (cvT l2)) v12.toNat))) ([] : List R4)) then (bif (decide ((((joV 2 (cvT (atV (cvT l1) (rd (Yi (cvT l1) (cvT l2)) v12.toNat))) ([] : List R4)).length : Nat) : Int) > 400)) then (.ret [.nils, (.bool false)]) else (bif (Qv 2 (cvT (atV (cvT l2) (rd (Yi (cvT l1) (cvT l2)) v12.toNat))) ([] : List R4)) then (bif (decide ((((joV 2 (cvT (atV (cvT l2) (rd (Yi (cvT l1) (cvT l2)) v12.toNat))) ([] : List R4)).length : Nat) : Int) > 400)) then (.ret [.nils, (.bool false)]) else (bif (decide (v12 > 0)) then (bif (Wu (cvT (joV x0 (cvT (atV (cvT l1) (rd (Yi (cvT l1) (cvT l2)) v12.toNat))) (cvT (atV (cvT l2) (rd (Yi (cvT l1) (cvT l2)) v12.toNat))))) (cvT v10)) then (bif (Uv (cvT (joV x0 (cvT (atV (cvT l1) (rd (Yi (cvT l1) (cvT l2)) v12.toNat))) (cvT (atV (cvT l2) (rd (Yi (cvT l1) (cvT l2)) v12.toNat))))) (cvT v10)) then (.to (.h2 v9 v10 v11 v12 v11)) else (.to (.h1 v9 (joV x0 (cvT (atV (cvT l1) (rd (Yi (cvT l1) (cvT l2)) v12.toNat))) (cvT (atV (cvT l2) (rd (Yi (cvT l1) (cvT l2)) v12.toNat)))) (v9.length : Int) v12 (joV x0 (cvT (atV (cvT l1) (rd (Yi (cvT l1) (cvT l2)) v12.toNat))) (cvT (atV (cvT l2) (rd (Yi (cvT l1) (cvT l2)) v12.toNat)))) 0))) else .stuck) else (.to (.h1 v9 (joV x0 (cvT (atV (cvT l1) (rd (Yi (cvT l1) (cvT l2)) v12.toNat))) (cvT (atV (cvT l2) (rd (Yi (cvT l1) (cvT l2)) v12.toNat)))) (v9.length : Int) v12 (joV x0 (cvT (atV (cvT l1) (rd (Yi (cvT l1) (cvT l2)) v12.toNat))) (cvT (atV (cvT l2) (rd (Yi (cvT l1) (cvT l2)) v12.toNat)))) 0)))) else .stuck)) else .stuck)) else .stuck) else .stuck) else .stuck) else .stuck) else (.ret [(.dat v9.length (Zz v9)), (.bool (decide ((v9.length : Int) ≤ 400)))]))
 | .h1 v9 v10 v11 v12 v13 v15 => (bif (decide (v15 < (v13.length : Int))) then (bif ((decide (0 ≤ v12 ∧ v12 < (((Yi (cvT l1) (cvT l2)).length : Nat) : Int))) && true) then (bif ((decide (0 ≤ v15 ∧ v15 < (v13.length : Int))) && true) then (bif ((decide (0 ≤ (IntKind.wrap .i64 (v12 + 1)) ∧ (IntKind.wrap .i64 (v12 + 1)) < (((Yi (cvT l1) (cvT l2)).length : Nat) : Int))) && true) then (bif (Nat.beq 6 6 && ((decide (0 + v9.length = v9.length)) && decide ((v9.length + 1 + 1) * (48 + 1) ≤ Jv))) then (.to (.h1 (v9 ++ [(R6.mk (rd v13 v15.toNat).a (rd v13 v15.toNat).b (rd (Yi (cvT l1) (cvT l2)) v12.toNat) (rd v13 v15.toNat).c (rd v13 v15.toNat).d (rd (Yi (cvT l1) (cvT l2)) (Int.toNat (IntKind.wrap .i64 (v12 + 1)))))]) v10 v11 v12 v13 (IntKind.wrap .i64 (v15 + 1)))) else .stuck) else .stuck) else .stuck) else .stuck) else (.to (.h0 v9 v10 v11 (IntKind.wrap .i64 (v12 + 1)))))
 | .h2 v9 v10 v11 v12 v14 => (bif (decide (v14 < (v9.length : Int))) then (bif ((decide (0 ≤ (IntKind.wrap .i64 (v12 + 1)) ∧ (IntKind.wrap .i64 (v12 + 1)) < (((Yi (cvT l1) (cvT l2)).length : Nat) : Int))) && true) then (bif ((decide (0 ≤ v14 ∧ v14 < (v9.length : Int))) && true) then (bif (decide ((0 + v14.toNat) < v9.length)) then (.to (.h2 (v9.set (0 + v14.toNat) (R6.mk (rd v9 (0 + v14.toNat)).a (rd v9 (0 + v14.toNat)).b (rd v9 (0 + v14.toNat)).c (rd v9 (0 + v14.toNat)).d (rd v9 (0 + v14.toNat)).e (rd (Yi (cvT l1) (cvT l2)) (Int.toNat (IntKind.wrap .i64 (v12 + 1)))))) v10 v11 v12 (IntKind.wrap .i64 (v14 + 1)))) else .stuck) else .stuck) else .stuck) else (.to (.h0 v9 v10 v11 (IntKind.wrap .i64 (v12 + 1)))))
def z8a (x0 : Int) (l1 : List R6) (l2 : List R6) : Xc rjsS := (bif (z5f (cvT l1) (cvT l2)) then (.to (.h0 ([] : List R6) ([] : List R4) 0 0)) else .stuck)
theorem x4o (x0 : Int) (l1 : List R6) (l2 : List R6) : ∀ s, Wy Tryz.prog (Zy Tryz.prog 79) (rjsC x0 l1 l2) (rjsC x0 l1 l2 s) (Wr x0 l1 l2 s)
 | .h0 v9 v10 v11 v12 => (lb (fun k0 => (lo fun o1_0 => (lo fun o1_1 => (lo fun o1_2 => (lo fun o1_3 => (lb (fun k1 => (lr 137 79 [1, 1, 1, 1, 1, 0, 1, 0, 0, 1, 0, 0, 1, 0, 1, 0, 0] 1 23 [(6, .nils), (7, (.bool false))] (sl z6i 50 [] ⟨[], [], [some [6, 7]], []⟩ ⟨[], [], []⟩ (trs 20 []) (tt k1 (pp (pp (xI R4 (atV (cvT l1) (rd (Yi (cvT l1) (cvT l2)) (tn v12))).length (Zz (atV (cvT l1) (rd (Yi (cvT l1) (cvT l2)) (tn v12))))) (pp (xI R4 (atV (cvT l2) (rd (Yi (cvT l1) (cvT l2)) (tn v12))).length (Zz (atV (cvT l2) (rd (Yi (cvT l1) (cvT l2)) (tn v12))))) (xw o1_3))) (pp (pp (xr l2) (xw o1_2)) (ww o1_1 (pp (pp (xr l1) (xw o1_0)) (ww o1_1 (tt k0 nn)))))))))) (fun k1 => (lo fun o2_0 => (lb (fun k2 => (lr 137 79 [1, 1, 1, 1, 1, 0, 1, 0, 0, 1, 0, 0, 1, 0, 1, 0, 0] 1 23 [(6, .nils), (7, (.bool false))] (sl z6i 50 [] ⟨[], [], [some [6, 7]], []⟩ ⟨[], [], []⟩ [true, false, false, false, false, false, false, false, false, false, true, true, true, true, true, true, true, true, true, true] (tt k2 (pp (pp (xI R4 (atV (cvT l1) (rd (Yi (cvT l1) (cvT l2)) (tn v12))).length (Zz (atV (cvT l1) (rd (Yi (cvT l1) (cvT l2)) (tn v12))))) (pp (xI R4 0 (fun _ => [])) (xw o2_0))) (pp (pp (xr l1) (xw o1_0)) (ww o1_1 (tt k1 (pp (pp (xI R4 (atV (cvT l1) (rd (Yi (cvT l1) (cvT l2)) (tn v12))).length (Zz (atV (cvT l1) (rd (Yi (cvT l1) (cvT l2)) (tn v12))))) (pp (xI R4 (atV (cvT l2) (rd (Yi (cvT l1) (cvT l2)) (tn v12))).length (Zz (atV (cvT l2) (rd (Yi (cvT l1) (cvT l2)) (tn v12))))) (xw o1_3))) (pp (pp (xr l2) (xw o1_2)) (ww o1_1 (pp (pp (xr l1) (xw o1_0)) (ww o1_1 (tt k0 nn)))))))))))))) (fun k2 => (lo fun o3_0 => (lb (fun k3 => (lr 137 79 [1, 1, 1, 1, 1, 0, 1, 0, 0, 1, 0, 0, 1, 0, 1, 0, 0] 1 23 [(6, .nils), (7, (.bool false))] (sl z6i 50 [] ⟨[], [], [some [6, 7]], []⟩ ⟨[], [], []⟩ [true, false, false, false, false, false, false, false, false, false, false, false, false, false, false, false, false, false, false, true] (tt k3 (pp (pp (xI R4 (atV (cvT l2) (rd (Yi (cvT l1) (cvT l2)) (tn v12))).length (Zz (atV (cvT l2) (rd (Yi (cvT l1) (cvT l2)) (tn v12))))) (pp (xI R4 0 (fun _ => [])) (xw o3_0))) (pp (pp (xr l2) (xw o1_2)) (ww o1_1 (tt k2 (pp (pp (xI R4 (atV (cvT l1) (rd (Yi (cvT l1) (cvT l2)) (tn v12))).length (Zz (atV (cvT l1) (rd (Yi (cvT l1) (cvT l2)) (tn v12))))) (pp (xI R4 0 (fun _ => [])) (xw o2_0))) (pp (pp (xr l1) (xw o1_0)) (ww o1_1 (tt k1 (pp (pp (xI R4 (atV (cvT l1) (rd (Yi (cvT l1) (cvT l2)) (tn v12))).length (Zz (atV (cvT l1) (rd (Yi (cvT l1) (cvT l2)) (tn v12))))) (pp (xI R4 (atV (cvT l2) (rd (Yi (cvT l1) (cvT l2)) (tn v12))).length (Zz (atV (cvT l2) (rd (Yi (cvT l1) (cvT l2)) (tn v12))))) (xw o1_3))) (pp (pp (xr l2) (xw o1_2)) (ww o1_1 (pp (pp (xr l1) (xw o1_0)) (ww o1_1 (tt k0 nn)))))))))))))))))) (fun k3 => (lb (fun k4 => (lo fun o5_0 => (lb (fun k5 => (sl z6i 66 [] ⟨[0], [], rjsN2, rjsM2⟩ ⟨[], [], []⟩ [true, false, false, false, false, false, false, false, false, false, false, false, false, false, false, false, false, false, false, false, true, true, true, true] (pp (fl v9 nn) (tt k5 (pp (pp (xI R4 (joV x0 (cvT (atV (cvT l1) (rd (Yi (cvT l1) (cvT l2)) (tn v12)))) (cvT (atV (cvT l2) (rd (Yi (cvT l1) (cvT l2)) (tn v12))))).length (Zz (joV x0 (cvT (atV (cvT l1) (rd (Yi (cvT l1) (cvT l2)) (tn v12)))) (cvT (atV (cvT l2) (rd (Yi (cvT l1) (cvT l2)) (tn v12))))))) (pp (xr v10) (xw o5_0))) (tt k4 (tt k3 (pp (pp (xI R4 (atV (cvT l2) (rd (Yi (cvT l1) (cvT l2)) (tn v12))).length (Zz (atV (cvT l2) (rd (Yi (cvT l1) (cvT l2)) (tn v12))))) (pp (xI R4 0 (fun _ => [])) (xw o3_0))) (pp (pp (xr l2) (xw o1_2)) (ww o1_1 (tt k2 (pp (pp (xI R4 (atV (cvT l1) (rd (Yi (cvT l1) (cvT l2)) (tn v12))).length (Zz (atV (cvT l1) (rd (Yi (cvT l1) (cvT l2)) (tn v12))))) (pp (xI R4 0 (fun _ => [])) (xw o2_0))) (pp (pp (xr l1) (xw o1_0)) (ww o1_1 (tt k1 (pp (pp (xI R4 (atV (cvT l1) (rd (Yi (cvT l1) (cvT l2)) (tn v12))).length (Zz (atV (cvT l1) (rd (Yi (cvT l1) (cvT l2)) (tn v12))))) (pp (xI R4 (atV (cvT l2) (rd (Yi (cvT l1) (cvT l2)) (tn v12))).length (Zz (atV (cvT l2) (rd (Yi (cvT l1) (cvT l2)) (tn v12))))) (xw o1_3))) (pp (pp (xr l2) (xw o1_2)) (ww o1_1 (pp (pp (xr l1) (xw o1_0)) (ww o1_1 (tt k0 nn))))))))))))))))))))) (fun k5 => (sl z6i 73 [] ⟨[0], [], v3l, v3n⟩ ⟨[], [], []⟩ [true, false, false, false, false, false, false, false, false, false, false, false, false, false, false, false, false, false, false, false, true, true, true, false] (pp (fl v9 nn) (tt k5 (pp (pp (xI R4 (joV x0 (cvT (atV (cvT l1) (rd (Yi (cvT l1) (cvT l2)) (tn v12)))) (cvT (atV (cvT l2) (rd (Yi (cvT l1) (cvT l2)) (tn v12))))).length (Zz (joV x0 (cvT (atV (cvT l1) (rd (Yi (cvT l1) (cvT l2)) (tn v12)))) (cvT (atV (cvT l2) (rd (Yi (cvT l1) (cvT l2)) (tn v12))))))) (pp (xr v10) (xw o5_0))) (tt k4 (tt k3 (pp (pp (xI R4 (atV (cvT l2) (rd (Yi (cvT l1) (cvT l2)) (tn v12))).length (Zz (atV (cvT l2) (rd (Yi (cvT l1) (cvT l2)) (tn v12))))) (pp (xI R4 0 (fun _ => [])) (xw o3_0))) (pp (pp (xr l2) (xw o1_2)) (ww o1_1 (tt k2 (pp (pp (xI R4 (atV (cvT l1) (rd (Yi (cvT l1) (cvT l2)) (tn v12))).length (Zz (atV (cvT l1) (rd (Yi (cvT l1) (cvT l2)) (tn v12))))) (pp (xI R4 0 (fun _ => [])) (xw o2_0))) (pp (pp (xr l1) (xw o1_0)) (ww o1_1 (tt k1 (pp (pp (xI R4 (atV (cvT l1) (rd (Yi (cvT l1) (cvT l2)) (tn v12))).length (Zz (atV (cvT l1) (rd (Yi (cvT l1) (cvT l2)) (tn v12))))) (pp (xI R4 (atV (cvT l2) (rd (Yi (cvT l1) (cvT l2)) (tn v12))).length (Zz (atV (cvT l2) (rd (Yi (cvT l1) (cvT l2)) (tn v12))))) (xw o1_3))) (pp (pp (xr l2) (xw o1_2)) (ww o1_1 (pp (pp (xr l1) (xw o1_0)) (ww o1_1 (tt k0 nn)))))))))))))))))))))))) (fun k4 => (sl z6i 73 [] ⟨[0], [], v3l, v3n⟩ ⟨[], [], []⟩ [true, false, false, false, false, false, false, false, false, false, false, false, false, false, false, false, false, false, false, false, false, false, false, false] (pp (fl v9 nn) (tt k4 (tt k3 (pp (pp (xI R4 (atV (cvT l2) (rd (Yi (cvT l1) (cvT l2)) (tn v12))).length (Zz (atV (cvT l2) (rd (Yi (cvT l1) (cvT l2)) (tn v12))))) (pp (xI R4 0 (fun _ => [])) (xw o3_0))) (pp (pp (xr l2) (xw o1_2)) (ww o1_1 (tt k2 (pp (pp (xI R4 (atV (cvT l1) (rd (Yi (cvT l1) (cvT l2)) (tn v12))).length (Zz (atV (cvT l1) (rd (Yi (cvT l1) (cvT l2)) (tn v12))))) (pp (xI R4 0 (fun _ => [])) (xw o2_0))) (pp (pp (xr l1) (xw o1_0)) (ww o1_1 (tt k1 (pp (pp (xI R4 (atV (cvT l1) (rd (Yi (cvT l1) (cvT l2)) (tn v12))).length (Zz (atV (cvT l1) (rd (Yi (cvT l1) (cvT l2)) (tn v12))))) (pp (xI R4 (atV (cvT l2) (rd (Yi (cvT l1) (cvT l2)) (tn v12))).length (Zz (atV (cvT l2) (rd (Yi (cvT l1) (cvT l2)) (tn v12))))) (xw o1_3))) (pp (pp (xr l2) (xw o1_2)) (ww o1_1 (pp (pp (xr l1) (xw o1_0)) (ww o1_1 (tt k0 nn))))))))))))))))))))))))))))))))) (fun k0 => (lr 137 3 [1, 1, 1, 1, 1, 1, 0] 1 23 [(6, (.dat v9.length (Zz v9))), (7, (.bool (decide ((v9.length : Int) ≤ 400))))] (sl z6i 20 [] ⟨[], [0], [some [6, 7]], []⟩ ⟨[(6, .frz v9.length v9.length (Zz v9) (Zz v9))], [], []⟩ [false] (pp (xZ (z4u 6 6 0 v9.length v9.length (Zz v9)) v9.length (Zz v9)) (pp (xL v9.length v9.length) (pp (xS v9.length (Zz v9) (Zz v9)) (pp (fl v9 nn) (tt k0 nn)))))))))
 | .h1 v9 v10 v11 v12 v13 v15 => (lb (fun k0 => (lo fun o0 => (lo fun o1 => (lo fun o2 => (lo fun o3 => (sl z6i 20 [] ⟨[2], [], v3l, v3n⟩ ⟨[(9, .len (v9 ++ [(R6.mk (rd v13 (tn v15)).a (rd v13 (tn v15)).b (rd (Yi (cvT l1) (cvT l2)) (tn v12)) (rd v13 (tn v15)).c (rd v13 (tn v15)).d (rd (Yi (cvT l1) (cvT l2)) (tn (wr (v12 + 1)))))]).length)], [.rowed 6 (v9 ++ [(R6.mk (rd v13 (tn v15)).a (rd v13 (tn v15)).b (rd (Yi (cvT l1) (cvT l2)) (tn v12)) (rd v13 (tn v15)).c (rd v13 (tn v15)).d (rd (Yi (cvT l1) (cvT l2)) (tn (wr (v12 + 1)))))]).length (Zz (v9 ++ [(R6.mk (rd v13 (tn v15)).a (rd v13 (tn v15)).b (rd (Yi (cvT l1) (cvT l2)) (tn v12)) (rd v13 (tn v15)).c (rd v13 (tn v15)).d (rd (Yi (cvT l1) (cvT l2)) (tn (wr (v12 + 1)))))]))], []⟩ [true] (pp (xL (v9.length + 1) (v9 ++ [(R6.mk (rd v13 (tn v15)).a (rd v13 (tn v15)).b (rd (Yi (cvT l1) (cvT l2)) (tn v12)) (rd v13 (tn v15)).c (rd v13 (tn v15)).d (rd (Yi (cvT l1) (cvT l2)) (tn (wr (v12 + 1)))))]).length) (pp (xL (v9.length + 1) (v9 ++ [(R6.mk (rd v13 (tn v15)).a (rd v13 (tn v15)).b (rd (Yi (cvT l1) (cvT l2)) (tn v12)) (rd v13 (tn v15)).c (rd v13 (tn v15)).d (rd (Yi (cvT l1) (cvT l2)) (tn (wr (v12 + 1)))))]).length) (pp (xS (v9.length + 1) (Zd (Zz v9) 0 v9.length 6 [(ii (rd v13 (tn v15)).a), (ii (rd v13 (tn v15)).b), (ii (rd (Yi (cvT l1) (cvT l2)) (tn v12))), (ii (rd v13 (tn v15)).c), (ii (rd v13 (tn v15)).d), (ii (rd (Yi (cvT l1) (cvT l2)) (tn (wr (v12 + 1)))))]) (Zz (v9 ++ [(R6.mk (rd v13 (tn v15)).a (rd v13 (tn v15)).b (rd (Yi (cvT l1) (cvT l2)) (tn v12)) (rd v13 (tn v15)).c (rd v13 (tn v15)).d (rd (Yi (cvT l1) (cvT l2)) (tn (wr (v12 + 1)))))]))) (pp (pp (xF (Zd (Zz v9) 0 v9.length 6 [(ii (rd v13 (tn v15)).a), (ii (rd v13 (tn v15)).b), (ii (rd (Yi (cvT l1) (cvT l2)) (tn v12))), (ii (rd v13 (tn v15)).c), (ii (rd v13 (tn v15)).d), (ii (rd (Yi (cvT l1) (cvT l2)) (tn (wr (v12 + 1)))))])) nn) (ww o3 (ww o2 (ww o1 (ww o1 (ww o0 (ww o1 (ww o1 (tt k0 nn)))))))))))))))))) (fun k0 => (sl z6i 17 [] ⟨[0], [], v3m, v3o⟩ ⟨[], [], []⟩ [false] (pp (fl v9 nn) (tt k0 nn)))))
 | .h2 v9 v10 v11 v12 v14 => (lb (fun k0 => (lo fun o0 => (lo fun o1 => (lo fun o2 => (sl z6i 32 [] ⟨[0], [], rjsN2, rjsM2⟩ ⟨[(9, .len (v9.set (0 + (tn v14)) (R6.mk (rd v9 (0 + (tn v14))).a (rd v9 (0 + (tn v14))).b (rd v9 (0 + (tn v14))).c (rd v9 (0 + (tn v14))).d (rd v9 (0 + (tn v14))).e (rd (Yi (cvT l1) (cvT l2)) (tn (wr (v12 + 1)))))).length)], [.rowed 6 (v9.set (0 + (tn v14)) (R6.mk (rd v9 (0 + (tn v14))).a (rd v9 (0 + (tn v14))).b (rd v9 (0 + (tn v14))).c (rd v9 (0 + (tn v14))).d (rd v9 (0 + (tn v14))).e (rd (Yi (cvT l1) (cvT l2)) (tn (wr (v12 + 1)))))).length (Zz (v9.set (0 + (tn v14)) (R6.mk (rd v9 (0 + (tn v14))).a (rd v9 (0 + (tn v14))).b (rd v9 (0 + (tn v14))).c (rd v9 (0 + (tn v14))).d (rd v9 (0 + (tn v14))).e (rd (Yi (cvT l1) (cvT l2)) (tn (wr (v12 + 1)))))))], []⟩ [true] (pp (xL v9.length (v9.set (0 + (tn v14)) (R6.mk (rd v9 (0 + (tn v14))).a (rd v9 (0 + (tn v14))).b (rd v9 (0 + (tn v14))).c (rd v9 (0 + (tn v14))).d (rd v9 (0 + (tn v14))).e (rd (Yi (cvT l1) (cvT l2)) (tn (wr (v12 + 1)))))).length) (pp (xL v9.length (v9.set (0 + (tn v14)) (R6.mk (rd v9 (0 + (tn v14))).a (rd v9 (0 + (tn v14))).b (rd v9 (0 + (tn v14))).c (rd v9 (0 + (tn v14))).d (rd v9 (0 + (tn v14))).e (rd (Yi (cvT l1) (cvT l2)) (tn (wr (v12 + 1)))))).length) (pp (xS v9.length (Xa (Zz v9) (0 + (tn v14)) 5 [(ii (rd (Yi (cvT l1) (cvT l2)) (tn (wr (v12 + 1)))))]) (Zz (v9.set (0 + (tn v14)) (R6.mk (rd v9 (0 + (tn v14))).a (rd v9 (0 + (tn v14))).b (rd v9 (0 + (tn v14))).c (rd v9 (0 + (tn v14))).d (rd v9 (0 + (tn v14))).e (rd (Yi (cvT l1) (cvT l2)) (tn (wr (v12 + 1)))))))) (pp (pp (xF (Xa (Zz v9) (0 + (tn v14)) 5 [(ii (rd (Yi (cvT l1) (cvT l2)) (tn (wr (v12 + 1)))))])) nn) (ww o2 (ww o1 (ww o0 (tt k0 nn))))))))))))) (fun k0 => (sl z6i 17 [] ⟨[0], [], v3m, v3o⟩ ⟨[], [], []⟩ [false] (pp (fl v9 nn) (tt k0 nn)))))
theorem y8s (x0 : Int) (l1 : List R6) (l2 : List R6) : Wy Tryz.prog (Zy Tryz.prog 79) (rjsC x0 l1 l2) (Zh Tryz.prog 79 [(.int .i64 x0), (.dat l1.length (Zz l1)), (.dat l2.length (Zz l2))] true []) (z8a x0 l1 l2) := (lo fun o0 => (sl z6i 31 [(68, 6, Zz ([] : List R6))] ⟨[0], [], v3m, v3o⟩ ⟨[(9, .grow 0 6), (10, .list 0 (Zz ([] : List R4)))], [], []⟩ [] (pp (fl ([] : List R6) nn) (pp (pp (xr l1) (pp (xr l2) (xw o0))) nn))))
theorem w4f (x0 : Int) (l1 : List R6) (l2 : List R6) (n : Nat) (vs : List AVal) (h : Yw (Wr x0 l1 l2) n (z8a x0 l1 l2) = .ret vs) : Jd Tryz.prog (Zy Tryz.prog 79) (Zh Tryz.prog 79 [(.int .i64 x0), (.dat l1.length (Zz l1)), (.dat l2.length (Zz l2))] true []) vs := by
 have := Zn (x4o x0 l1 l2) n _ (y8s x0 l1 l2)
 rwa [h] at this
end Go.Am
namespace Go.Am
open Go.Proofs
theorem Jy (l m : List R6) : (Yi l m).length ≤ 2 * l.length + 2 * m.length := by
 refine Nat.le_trans (z3e _) ?_
 rw [List.length_append, Ko, Ko]; omega
theorem z0f (l : List R6) (z : Int) : (atV l z).length ≤ l.length := by
 unfold atV
 rw [List.length_map]
 exact List.length_filter_le _ _
def w2v (out : List R6) (first : Nat) (z : Int) : List R6 := out.take first ++ (out.drop first).map fun r => ⟨r.a, r.b, r.c, r.d, r.e, z⟩
def v4c (z z' : Int) (s : List R4) : List R6 := s.map fun p => ⟨p.a, p.b, z, p.c, p.d, z'⟩
section
variable (kind : Int) (l m : List R6)
def y4t (z : Int) : List R4 := joV kind (atV l z) (atV m z)
def z7f (z : Int) : Bool := decide (400 < (y4t kind l m z).length) || (decide (400 < (joV 2 (atV l z) []).length) || decide (400 < (joV 2 (atV m z) []).length))
def jsF : Nat → Nat → List R6 → List R4 → Nat → Option (List R6)
 | 0, _, out, _, _ => some out
 | k + 1, i, out, last, first =>
  bif z7f kind l m (rd (Yi l m) i) then none
  else bif decide (0 < i) && Uv (y4t kind l m (rd (Yi l m) i)) last then jsF k (i + 1) (w2v out first (rd (Yi l m) (i + 1))) last first
  else jsF k (i + 1) (out ++ v4c (rd (Yi l m) i) (rd (Yi l m) (i + 1)) (y4t kind l m (rd (Yi l m) i))) (y4t kind l m (rd (Yi l m) i)) out.length
def jsO : Option (List R6) := jsF kind l m ((Yi l m).length - 1) 0 [] [] 0
def y9v : Option (List R6) → List AVal
 | none => [.nils, .bool false]
 | some out => [.dat out.length (Zz out), .bool (decide ((out.length : Int) ≤ 400))]
def z3l : List R6 := (jsO kind l m).getD []
def y6i : Bool := match jsO kind l m with
 | none => false
 | some out => decide ((out.length : Int) ≤ 400)
end
def z8h (_ : Int) (l m : List R6) : Bool := decide (l.length ≤ 5000 ∧ m.length ≤ 5000)
section
variable (kind : Int) (l m : List R6) (hl : l.length ≤ 5000) (hm : m.length ≤ 5000)
include hl hm
theorem w9q (last : List R4) (first : Int) (i : Nat) (hi : i + 1 < (Yi l m).length) (s : List R4) (hs : s.length ≤ 1000000) : ∀ (k j : Nat) (out : List R6), j + k = s.length → out.length ≤ 10000000000 + j →
  ∃ n, ∀ N, Yw (Wr kind l m) (N + n) (.to (.h1 out last first (i : Int) s (j : Int))) = Yw (Wr kind l m) N (.to (.h0 (out ++ v4c (rd (Yi l m) i) (rd (Yi l m) (i + 1)) (s.drop j)) last first ((i + 1 : Nat) : Int)))
 | 0, j, out, h, ho => by
  have hx := Jy l m
  refine ⟨1, fun N => ?_⟩
  rw [List.drop_eq_nil_of_le (by omega), Zv]
  simp (disch := omega) only [Wr, Zb, Zq, Zt, Zk, Zx, cond_false, v4c, List.map_nil, List.append_nil]
 | k + 1, j, out, h, ho => by
  have hx := Jy l m
  obtain ⟨n, hn⟩ := w9q last first i hi s hs k (j + 1) (out ++ v4c (rd (Yi l m) i) (rd (Yi l m) (i + 1)) [rd s j]) (by omega) (by simp [v4c]; omega)
  refine ⟨n + 1, fun N => ?_⟩
  have := hn N
  rw [Ye (show j < s.length by omega), ← Nat.add_assoc, Zv]
  simp (disch := omega) only [Wr, Zb, Zq, Zo, Zs, Yz, Yk, Ze, Zk, Zx, Ya, Zj, Nat.zero_add, decide_true, Bool.and_true, Bool.true_and, cond_true]
  rw [List.append_assoc] at this
  exact this
omit hl hm in
theorem w6u (out : List R6) (j : Nat) (x : Int) (h : j < out.length) : w2v (out.set j ⟨(rd out j).a, (rd out j).b, (rd out j).c, (rd out j).d, (rd out j).e, x⟩) (j + 1) x = w2v out j x := by
 unfold w2v
 rw [Ye h, List.map_cons]
 have e1 : (out.set j ⟨(rd out j).a, (rd out j).b, (rd out j).c, (rd out j).d, (rd out j).e, x⟩).take (j + 1) = out.take j ++ [⟨(rd out j).a, (rd out j).b, (rd out j).c, (rd out j).d, (rd out j).e, x⟩] := by
  apply List.ext_getElem
  ·simp; omega
  ·intro n h1 h2
   simp only [List.getElem_take, List.getElem_set]
   by_cases e : j = n
   ·subst e
    rw [if_pos rfl, List.getElem_append_right (by simp only [List.length_take]; omega)]
    simp
   ·rw [if_neg e, List.getElem_append_left (by simp at h1 ⊢; omega), List.getElem_take]
 have e2 : (out.set j ⟨(rd out j).a, (rd out j).b, (rd out j).c, (rd out j).d, (rd out j).e, x⟩).drop (j + 1) = out.drop (j + 1) := by
  rw [List.drop_set]; rw [if_pos (by omega)]
 rw [e1, e2, List.append_assoc]; rfl
theorem w9p (last : List R4) (first : Int) (i : Nat) (hi : i + 1 < (Yi l m).length) : ∀ (k j : Nat) (out : List R6), j + k = out.length → out.length ≤ 10000000000 →
  ∃ n, ∀ N, Yw (Wr kind l m) (N + n) (.to (.h2 out last first (i : Int) (j : Int))) = Yw (Wr kind l m) N (.to (.h0 (w2v out j (rd (Yi l m) (i + 1))) last first ((i + 1 : Nat) : Int)))
 | 0, j, out, h, ho => by
  have hx := Jy l m
  refine ⟨1, fun N => ?_⟩
  have e : w2v out j (rd (Yi l m) (i + 1)) = out := by
   unfold w2v; rw [List.drop_eq_nil_of_le (by omega), List.map_nil, List.append_nil, List.take_of_length_le (by omega)]
  rw [e, Zv]
  simp (disch := omega) only [Wr, Zb, Zq, Zt, Zk, Zx, cond_false]
 | k + 1, j, out, h, ho => by
  have hx := Jy l m
  obtain ⟨n, hn⟩ := w9p last first i hi k (j + 1) (out.set j ⟨(rd out j).a, (rd out j).b, (rd out j).c, (rd out j).d, (rd out j).e, rd (Yi l m) (i + 1)⟩) (by simp; omega) (by simpa using ho)
  refine ⟨n + 1, fun N => ?_⟩
  have := hn N
  rw [w6u out j _ (by omega)] at this
  rw [← Nat.add_assoc, Zv]
  simp (disch := omega) only [Wr, Zb, Zq, Zo, Zs, Yu, Yz, Yk, Ze, Zk, Zx, Ya, Zj, Nat.zero_add, decide_true, Bool.and_true, Bool.true_and, cond_true]
  exact this
theorem x8q : ∀ (k i : Nat) (out : List R6) (last : List R4) (first : Nat), k = (Yi l m).length - 1 - i → i ≤ (Yi l m).length → out.length ≤ i * 400 → last.length ≤ 400 → first ≤ out.length →
  ∃ n, Yw (Wr kind l m) n (.to (.h0 out last (first : Int) (i : Int))) = .ret (y9v (jsF kind l m k i out last first))
 | 0, i, out, last, first, h, hi, ho, hla, hf => by
  have hx := Jy l m
  refine ⟨1, ?_⟩
  rw [Zv]
  simp (disch := omega) only [Wr, Zb, Zq, Zt, Zk, Zx, cond_false, Zg, jsF, y9v]
 | k + 1, i, out, last, first, h, hi, ho, hla, hf => by
  have hx := Jy l m
  have hi1 : i + 1 < (Yi l m).length := by omega
  have hbig : i * 400 ≤ 20000 * 400 := Nat.mul_le_mul_right _ (by omega)
  have a1 := fun z => z0f l z
  have a2 := fun z => z0f m z
  have w1 : ∀ z, z2q l z = true := fun z => decide_eq_true (by omega)
  have w2 : ∀ z, z2q m z = true := fun z => decide_eq_true (by omega)
  have w3 : ∀ k z, Qv k (atV l z) (atV m z) = true := fun k z => decide_eq_true (by have := a1 z; have := a2 z; omega)
  have w4 : ∀ k z, Qv k (atV l z) ([] : List R4) = true := fun k z => decide_eq_true (by have := a1 z; simp; omega)
  have w5 : ∀ k z, Qv k (atV m z) ([] : List R4) = true := fun k z => decide_eq_true (by have := a2 z; simp; omega)
  unfold jsF
  have hsec : y4t kind l m (rd (Yi l m) i) = joV kind (atV l (rd (Yi l m) i)) (atV m (rd (Yi l m) i)) := rfl
  by_cases c1 : 400 < (y4t kind l m (rd (Yi l m) i)).length
  ·refine ⟨1, ?_⟩
   have hb : z7f kind l m (rd (Yi l m) i) = true := by unfold z7f; rw [decide_eq_true c1]; rfl
   rw [hb, cond_true, Zv]
   rw [hsec] at c1
   simp (disch := omega) only [Wr, Zb, Zq, Zo, Yn, Zs, Zk, Zx, Zj, w1, w2, w3, w4, w5, Bool.and_true, cond_true, Zg, y9v]
  by_cases c2 : 400 < (joV 2 (atV l (rd (Yi l m) i)) []).length
  ·refine ⟨1, ?_⟩
   have hb : z7f kind l m (rd (Yi l m) i) = true := by unfold z7f; rw [decide_eq_true c2, Bool.true_or, Bool.or_true]
   rw [hb, cond_true, Zv]
   rw [hsec] at c1
   simp (disch := omega) only [Wr, Zb, Zq, Zo, Yn, Xy, Zs, Zk, Zx, Zj, w1, w2, w3, w4, w5, Bool.and_true, cond_true, cond_false, Zg, y9v]
  by_cases c3 : 400 < (joV 2 (atV m (rd (Yi l m) i)) []).length
  ·refine ⟨1, ?_⟩
   have hb : z7f kind l m (rd (Yi l m) i) = true := by unfold z7f; rw [decide_eq_true c3, Bool.or_true, Bool.or_true]
   rw [hb, cond_true, Zv]
   rw [hsec] at c1
   simp (disch := omega) only [Wr, Zb, Zq, Zo, Yn, Xy, Zs, Zk, Zx, Zj, w1, w2, w3, w4, w5, Bool.and_true, cond_true, cond_false, Zg, y9v]
  have hb : z7f kind l m (rd (Yi l m) i) = false := by unfold z7f; rw [decide_eq_false c1, decide_eq_false c2, decide_eq_false c3]; rfl
  rw [hb, cond_false]
  have w6 : Wu (joV kind (atV l (rd (Yi l m) i)) (atV m (rd (Yi l m) i))) last = true := decide_eq_true (by rw [← hsec]; omega)
  rcases Ym (decide (0 < i) && Uv (y4t kind l m (rd (Yi l m) i)) last) with q | q
  ·obtain ⟨n3, h3⟩ := w9p kind l m hl hm last first i hi1 (out.length - first) first out (by omega) (by omega)
   obtain ⟨n0, h0⟩ := x8q k (i + 1) (w2v out first (rd (Yi l m) (i + 1))) last first (by omega) (by omega) (by simp [w2v]; omega) hla (by simp [w2v]; omega)
   refine ⟨n0 + n3 + 1, ?_⟩
   rw [q, cond_true, Zv]
   simp only [Bool.and_eq_true, decide_eq_true_eq] at q
   obtain ⟨q1, q2⟩ := q
   rw [hsec] at c1 q2
   simp (disch := omega) only [Wr, Zb, Zq, Zo, Yn, Xy, Zs, Zk, Zx, Zj, w1, w2, w3, w4, w5, w6, q2, Bool.and_true, cond_true, cond_false]
   rw [h3 n0, h0]
  ·obtain ⟨n2, h2⟩ := w9q kind l m hl hm (y4t kind l m (rd (Yi l m) i)) (out.length : Int) i hi1 (y4t kind l m (rd (Yi l m) i)) (by omega) (y4t kind l m (rd (Yi l m) i)).length 0 out (Nat.zero_add _) (by omega)
   obtain ⟨n0, h0⟩ := x8q k (i + 1) (out ++ v4c (rd (Yi l m) i) (rd (Yi l m) (i + 1)) (y4t kind l m (rd (Yi l m) i))) (y4t kind l m (rd (Yi l m) i)) out.length (by omega) (by omega) (by simp [v4c]; omega) (by omega) (by simp)
   refine ⟨n0 + n2 + 1, ?_⟩
   rw [q, cond_false, Zv]
   have h2' := h2 n0
   simp only [List.drop_zero, z0u] at h2'
   have c1' := c1
   rw [hsec] at c1'
   by_cases hi0 : 0 < i
   ·rw [decide_eq_true hi0, Bool.true_and, hsec] at q
    simp (disch := omega) only [Wr, Zb, Zq, Zo, Yn, Xy, Zs, Zk, Zx, Zj, w1, w2, w3, w4, w5, w6, q, Bool.and_true, cond_true, cond_false]
    rw [← h0]; exact h2'
   ·simp (disch := omega) only [Wr, Zb, Zq, Zo, Yn, Xy, Zs, Zk, Zx, Zj, w1, w2, w3, w4, w5, w6, Bool.and_true, cond_true, cond_false]
    rw [← h0]; exact h2'
end
theorem v3k (kind : Int) (l m : List R6) (h : z8h kind l m = true) : ∃ N, Yw (Wr kind l m) N (z8a kind l m) = .ret (y9v (jsO kind l m)) := by
 obtain ⟨hl, hm⟩ := of_decide_eq_true h
 obtain ⟨N, hN⟩ := x8q kind l m hl hm ((Yi l m).length - 1) 0 [] [] 0 rfl (Nat.zero_le _) (Nat.zero_le _) (Nat.zero_le _) (Nat.le_refl _)
 refine ⟨N, ?_⟩
 have w1 : z5f l m = true := decide_eq_true ⟨by omega, by omega⟩
 simp only [z8a, Zb, Zq, w1, cond_true]
 exact hN
def fJs : List AVal → Option (AVal × Bool)
 | [.int .i64 x0, a1, a2] => match asL R6 a1, asL R6 a2 with
  | some (L1, g1, n1), some (L2, g2, n2) => some (.tup [.dat (z3l x0 L1 L2).length (Zz (z3l x0 L1 L2)), .bool (y6i x0 L1 L2)], isT R6 n1 g1 && (isT R6 n2 g2 && (z8h x0 L1 L2)))
  | _, _ => none
 | _ => none
theorem fJs_ok {S : Specs} (hS : Zu Tryz.prog S) : Zu Tryz.prog (S.with v0n fJs) := by
 refine v5l hS (by kernel_rfl) fun args v h => ?_
 unfold fJs at h
 split at h
 ·rename_i x0 a1 a2
  split at h
  ·rename_i L1 g1 n1 L2 g2 n2 e1 e2
   simp only [Option.some.injEq, Prod.mk.injEq, Bool.and_eq_true] at h
   obtain ⟨rfl, ho1, ho2, hw⟩ := h
   obtain ⟨N, hN⟩ := v3k x0 L1 L2 hw
   refine ⟨_, y9v (jsO x0 L1 L2), (.cons (.refl _) (.cons (asL_le e1 ho1) (.cons (asL_le e2 ho2) .nil))), ?_, w4f x0 L1 L2 N _ hN, 3, ?_⟩
   ·unfold z3l y6i
    cases jsO x0 L1 L2 with
    | none => exact fun ρ u hu => z6o (.cons (z1r R6) (RLe.refl _)) ρ u hu
    | some out => exact fun ρ u hu => hu
   ·cases jsO x0 L1 L2 <;> rfl
  ·cases h
 ·cases h
def T4 : Specs := T3.with v0n fJs
theorem T4_ok : Zu Tryz.prog T4 := fJs_ok z6i
end Go.Am
namespace Go.Am
open Go.Proofs Go.Sort Go.Shelf Go.RowKit Go.Lib
def v6s (x : E3) : List Value := y2j x.1
theorem v6r (l : List R3) (h : y4u l = true) : Go.Sort.flatK v6s 3 (y4v l h).toArray = Go.Sort.flatK y2j 3 l.toArray := by
 have hl := Jx l h
 unfold Go.Sort.flatK
 rw [show (y4v l h).toArray.size = l.toArray.size by simpa using hl]
 apply Array.ext
 ·simp
 ·intro t h1 h2
  simp only [Array.getElem_map, Array.getElem_range]
  have ht : t < l.length * 3 := by simpa using h1
  have hq : t / 3 < l.length := by omega
  congr 1
  rw [getElem!_pos (y4v l h).toArray (t / 3) (by simpa [hl] using hq), getElem!_pos l.toArray (t / 3) (by simpa using hq)]
  unfold v6s
  congr 1
  have := z8s l h
  have e := congrArg (fun z : List R3 => z[t / 3]?) this
  simp only [List.getElem?_map] at e
  rw [List.getElem?_eq_getElem (by rw [hl]; exact hq), List.getElem?_eq_getElem hq] at e
  simpa using e
theorem w6l (d : Array E3) : Go.Sort.flatK v6s 3 d = Go.Sort.flatK y2j 3 (d.toList.map Subtype.val).toArray := by
 unfold Go.Sort.flatK
 rw [show d.size = (d.toList.map Subtype.val).toArray.size by simp]
 apply Array.ext
 ·simp
 ·intro t h1 h2
  simp only [Array.getElem_map, Array.getElem_range]
  have ht : t < d.size * 3 := by simpa using h1
  have hq : t / 3 < d.size := by omega
  congr 1
  rw [getElem!_pos d (t / 3) hq, getElem!_pos (d.toList.map Subtype.val).toArray (t / 3) (by simpa using hq)]
  simp [v6s]
theorem y6d (l : List R3) : y3r l.length (z3s (cvT l)).length = true := Vn (by
 rw [Zb]
 by_cases h : y4u l = true
 ·exact (Qh l h).1.length_eq.symm
 ·unfold z3s; rw [dif_neg h])
theorem isAgg3 : ∀ w, (isAgg (Tryz.sortEnd_ren.t 24)).run Tryz.prog w = .ok true w := fun w => by rfl
theorem size3 : ∀ w, (Go.sizeOf (Tryz.sortEnd_ren.t 24)).run Tryz.prog w = .ok 3 w := fun w => by rfl
theorem x7n : y7o Tryz.prog v0i (x3h R3 z3s y4u x2o) := by
 refine w1q (fun L => ?_) (fun blk off cap L w hb hH hblk hsz => ?_) fun p cap fv w => AnyF.slices_SortFunc_none Tryz.sortEnd p cap fv w
 ·by_cases h : y4u L = true
  ·exact (Qh L h).1.length_eq
  ·unfold z3s; rw [dif_neg h]
 ·have eg : ∀ args w, (callFunc 193 args).run Tryz.prog w = .ok (.enter 193 args) w := enters_of Tryz.func193 (by kernel_rfl) rfl
  have hcmp : CmpLays Tryz.prog 193 #[] v6s 3 cf3 blk off (y4v L hb).toArray.size w := fun m os dk _ x y => by
   have hx := of_decide_eq_true x.2
   have hy := of_decide_eq_true y.2
   exact Tryz.cmpEnd x.1.a x.1.b x.1.c y.1.a y.1.b y.1.c hx hy _
  have hH' : HoldsK v6s 3 w blk off (y4v L hb).toArray := by
   unfold HoldsK
   rw [v6r L hb]; exact hH
  have hcon := AnyQ.slices_SortFunc_eq Tryz.sortEnd 3 isAgg3 size3 v6s (fun x => y0k x.1) (fun x v hv => by
   obtain ⟨a, ha, rfl⟩ := List.mem_map.1 hv
   have : y9x a = true := List.all_eq_true.1 (v2c.num x.1) a ha
   cases a <;> first | rfl | (simp [y9x] at this; done)) cf3 swo3 193 #[] blk off cap (y4v L hb).toArray w eg hcmp hH' hblk (by simpa [Jx] using hsz)
  have hs : (y4v L hb).toArray.size = L.length := by simp [Jx]
  rw [hs] at hcon
  refine Calls.mono hcon fun e w' ⟨he, n, os, hw⟩ => ⟨he, n, os, ?_⟩
  rw [hw]
  unfold sortWorldK putRowK
  rw [w6l]
  unfold z3s
  rw [dif_pos hb]
  rfl
def Yh (zs : List Int) : List Int := zs.mergeSort fun x y => decide (x ≤ y)
theorem x7m : y7o Tryz.prog nSort (fRow Yh) :=
 v6t (fun zs => List.length_mergeSort zs) (fun blk off cap zs w hH hb hz => Tryz.slices_Sort_int blk off cap zs w hH hb hz) fun p cap w => Tryz.slices_Sort_int_none p cap w
def Xx (zs : List Int) : List Int := compact zs ++ List.replicate (zs.length - (compact zs).length) 0
def w8c (zs : List Int) : Nat := (compact zs).length
theorem Wc (zs : List Int) : (Xx zs).length = zs.length := by have := compact_length_le zs; simp [Xx]; omega
theorem Qs (n : Nat) (c : Nat → Int) : y3r n (Xx (Zm n c)).length = true := Vn (by rw [Wc]; simp [Zm])
theorem w0z (w : World) : grow w #[] = w := by simp [grow]
theorem x0y : y7o Tryz.prog x2q (fCut Xx w8c) :=
 v6u (fun zs => by have := compact_length_le zs; simp [Xx]; omega) (fun zs => compact_length_le zs)
  (fun blk off cap zs w hH hb hz hcap => (Tryz.slices_Compact_int blk off cap zs w hH (by omega) hcap).mono fun e w' ⟨he, q, hw⟩ => ⟨he, q, #[], by rw [hw, w0z]; rfl⟩)
  fun p cap w => Tryz.slices_Compact_int_empty p cap w
def T5 : Specs := ((T4.withE v0i (x3h R3 z3s y4u x2o)).withE nSort (fRow Yh)).withE x2q (fCut Xx w8c)
theorem Kz : Zu Tryz.prog T5 := y2r (y2r (y2r T4_ok (by kernel_rfl) x7n) (by kernel_rfl) x7m) (by kernel_rfl) x0y
end Go.Am
namespace Go.Am
open Go.Proofs
-- h2: index into an array (choices [true, true, false, false])
-- h2: index into an array (choices [true, false, true, false, false])
-- h2: index into an array (choices [true, false, false, true, true, false, false])
-- h2: index into an array (choices [true, false, false, true, false, false, false])
-- h2: index into an array (choices [true, false, false, false, false, false])
inductive spmS where
 | h0 (v8 : Int)
 | h1 (v3 : List R3) (v17 : Int)
 | h2 (v5 : List R3) (v6 : Int) (v7 : Int) (v_2_0 : Int) (v_2_1 : Int) (v_3_0 : Int) (v_4_0 : Bool) (v_6_0 : List R2)
def spmC (l0 : List R2) : spmS → Cfg
 | .h0 v8 => ⟨⟨19, 0, true⟩, none, (Za Tryz.prog 195 [1, 0, 1, 0, 0] 0), none, (Zy Tryz.prog 3), ⟨Yp [(0, (.dat l0.length (Zz l0))), (1, (.fn 188 [])), (7, (ii (l0.length : Int))), (8, (ii v8))], Ve [] 0, 0, [], true⟩, [⟨⟨9, 0, true⟩, (Vj Tryz.prog 187 [1, 0] 2), (Za Tryz.prog 187 [1, 0] 1), none, (Zy Tryz.prog 3), Yp [(5, (.dat l0.length (Zz l0))), (6, (.fn 188 []))]⟩, ⟨⟨11, 0, true⟩, (Vj Tryz.prog 174 [1, 1, 0, 0] 1), (Za Tryz.prog 174 [1, 1, 0, 0] 1), none, (Zy Tryz.prog 77), Yp [(0, (.dat l0.length (Zz l0))), (7, (.dat l0.length (Zz l0)))]⟩], .leaf⟩
 | .h1 v3 v17 => ⟨⟨38, 0, true⟩, none, (Za Tryz.prog 185 [1, 1, 0, 1, 0, 0, 1, 1, 0, 0, 1, 1, 0, 0] 0), none, (Zy Tryz.prog 15), ⟨Yp [(3, (.sla 7 3 0 v3.length (.un 3))), (4, (ii 0)), (8, (.sl 0 0 2 (.un 1))), (9, (ii 2)), (10, (ii 0)), (15, (.dat l0.length (Zz l0))), (16, (ii (l0.length : Int))), (17, (ii v17))], Ve [⟨[(.dat l0.length (Zz l0)), .nils], 158, none⟩, ⟨[(.fn 189 [])], 198, none⟩, ⟨[(ii 0), (ii 0)], 235, none⟩, ⟨[.nils], 158, none⟩, ⟨[(ii 0)], 3, none⟩, ⟨[(.bool false)], 4, none⟩, ⟨[(.fn 184 [(.ptr 5 0), (.ptr 4 0), (.ptr 3 0)])], 236, none⟩, ⟨rows v3.length (Zz v3), 240, some ⟨3, v3.length, (Zz v3)⟩⟩] 0, 8, [], true⟩, [⟨⟨42, 0, true⟩, (Vj Tryz.prog 170 [1, 1, 1, 1, 1, 0, 0] 3), (Za Tryz.prog 170 [1, 1, 1, 1, 1, 0, 0] 1), none, (Zy Tryz.prog 4), Yp [(5, (.ptr 1 0)), (6, .nils), (7, (.ptr 2 0)), (8, (.ptr 3 0)), (9, (.ptr 4 0)), (10, (.ptr 5 0)), (11, (.ptr 6 0)), (16, (.sl 0 0 2 (.un 1)))]⟩, ⟨⟨11, 0, true⟩, (Vj Tryz.prog 174 [1, 1, 1, 0] 1), (Za Tryz.prog 174 [1, 1, 1, 0] 1), none, (Zy Tryz.prog 77), Yp [(9, (.dat l0.length (Zz l0)))]⟩], .leaf⟩
 | .h2 v5 v6 v7 v_2_0 v_2_1 v_3_0 v_4_0 v_6_0 => ⟨⟨16, 0, true⟩, none, (Za Tryz.prog 197 [1, 0, 0] 0), none, [], ⟨Yp [(0, (.yld 0)), (5, (.sla 7 3 0 v5.length (.un 3))), (6, (ii v6)), (7, (ii v7))], z4o [(1, ⟨[(.fn 189 [])], 198, none⟩), (2, ⟨[(ii v_2_0), (ii v_2_1)], 235, none⟩), (3, ⟨[(ii v_3_0)], 3, none⟩), (4, ⟨[(.bool v_4_0)], 4, none⟩), (5, ⟨[(.fn 184 [(.ptr 4 0), (.ptr 3 0), (.ptr 6 0)])], 236, none⟩), (6, ⟨[(.sla 8 2 0 v_6_0.length (.un 2))], 158, none⟩), (7, ⟨rows v5.length (Zz v5), 240, some ⟨3, v5.length, (Zz v5)⟩⟩), (8, ⟨rows v_6_0.length (Zz v_6_0), 110, some ⟨2, v_6_0.length, (Zz v_6_0)⟩⟩)], 9, [], true⟩, [⟨⟨42, 0, true⟩, none, (.inRangeFunc 0 :: (Za Tryz.prog 170 [1, 1, 1, 1, 1, 0, 1, 0] 1)), none, (Zy Tryz.prog 4), Yp [(6, .nils), (8, (.ptr 6 0))]⟩, ⟨⟨11, 0, true⟩, (Vj Tryz.prog 174 [1, 1, 1, 0] 1), (Za Tryz.prog 174 [1, 1, 1, 0] 1), none, (Zy Tryz.prog 77), Yp [(9, (.dat l0.length (Zz l0)))]⟩], (z4q [(0, ⟨.ready, none, 42, Yp [(5, (.ptr 1 0)), (7, (.ptr 2 0)), (9, (.ptr 3 0)), (10, (.ptr 4 0)), (11, (.ptr 5 0))], [18], (Xe Tryz.prog 170 [1, 1, 1, 1, 1, 0, 1, 0, 0]), (Xe Tryz.prog 170 [1, 1, 1, 1, 1, 0, 1, 0, 1])⟩)])⟩
def spmN0 : List (Option (List Nat)) := [some [0, 1, 7, 8], some [5, 6], some [0, 7]]
def spmM0 : List (Option (List Nat)) := []
def x7k : List (Option (List Nat)) := [some [3, 4, 8, 9, 10, 15, 16, 17], some [5, 6, 7, 8, 9, 10, 11, 16], some [9]]
def x7l : List (Option (List Nat)) := []
def z9a : List (Option (List Nat)) := [some [0, 5, 6, 7], some [6, 8], some [9]]
def z9b : List (Option (List Nat)) := [some [5, 7, 9, 10, 11], none, none, none, none, none, none, none, none]
def Vm (l0 : List R2) : spmS → Xc spmS
 | .h0 v8 => (bif (decide (v8 < (l0.length : Int))) then (bif ((decide (0 ≤ v8 ∧ v8 < (l0.length : Int))) && true) then (bif (decide ((rd l0 v8.toNat).a < (rd l0 v8.toNat).b)) then (bif (decide ((rd l0 v8.toNat).a ≥ (-1000000))) then (bif (!(decide ((rd l0 v8.toNat).b ≤ 1000000))) then (bif (decide (v8 ≥ 0)) then (.ret [.nils, (.int .i64 8)]) else (.to (.h1 ([] : List R3) 0))) else (.to (.h0 (IntKind.wrap .i64 (v8 + 1))))) else (bif (decide (v8 ≥ 0)) then (.ret [.nils, (.int .i64 8)]) else (.to (.h1 ([] : List R3) 0)))) else (bif (decide (v8 ≥ 0)) then (.ret [.nils, (.int .i64 8)]) else (.to (.h1 ([] : List R3) 0)))) else .stuck) else (.to (.h1 ([] : List R3) 0)))
 | .h1 v3 v17 => (bif (decide (v17 < (l0.length : Int))) then (bif ((decide (0 ≤ v17 ∧ v17 < (l0.length : Int))) && true) then (bif (Nat.beq 3 3 && ((decide (0 + v3.length = v3.length)) && decide ((v3.length + 2 + 1) * (24 + 1) ≤ Jv))) then (.to (.h1 (v3 ++ [(R3.mk (rd l0 v17.toNat).a 0 1), (R3.mk (rd l0 v17.toNat).b 0 (-1))]) (IntKind.wrap .i64 (v17 + 1)))) else .stuck) else .stuck) else (bif (y4u (cvT v3)) then (bif (decide (v3.length < 4611686018427387904)) then (bif (decide (v3.length = v3.length)) then (.to (.h2 (z3s (cvT v3)) (v3.length : Int) 0 0 0 0 false ([] : List R2))) else .stuck) else .stuck) else .stuck))
 | .h2 v5 v6 v7 v_2_0 v_2_1 v_3_0 v_4_0 v_6_0 => (bif (decide (v7 < v6)) then (bif ((decide (0 ≤ v7 ∧ v7 < (v5.length : Int))) && true) then (bif (decide ((0 + v7.toNat) < v5.length)) then (bif (!v_4_0) then (bif (decide ((rd v5 (0 + v7.toNat)).b = Int.ofNat 0)) then (.to (.h2 v5 v6 (IntKind.wrap .i64 (v7 + 1)) (IntKind.wrap .i64 (v_2_0 + (rd v5 (0 + v7.toNat)).c)) v_2_1 (rd v5 (0 + v7.toNat)).a (x3d (decide ((IntKind.wrap .i64 (v_2_0 + (rd v5 (0 + v7.toNat)).c)) > 0)) (decide (v_2_1 > 0))) v_6_0)) else (bif (decide ((rd v5 (0 + v7.toNat)).b = Int.ofNat 1)) then (.to (.h2 v5 v6 (IntKind.wrap .i64 (v7 + 1)) v_2_0 (IntKind.wrap .i64 (v_2_1 + (rd v5 (0 + v7.toNat)).c)) (rd v5 (0 + v7.toNat)).a (x3d (decide (v_2_0 > 0)) (decide ((IntKind.wrap .i64 (v_2_1 + (rd v5 (0 + v7.toNat)).c)) > 0))) v_6_0)) else .stuck)) else (bif (v_3_0 == (rd v5 (0 + v7.toNat)).a) then (bif (decide ((rd v5 (0 + v7.toNat)).b = Int.ofNat 0)) then (.to (.h2 v5 v6 (IntKind.wrap .i64 (v7 + 1)) (IntKind.wrap .i64 (v_2_0 + (rd v5 (0 + v7.toNat)).c)) v_2_1 (rd v5 (0 + v7.toNat)).a (x3d (decide ((IntKind.wrap .i64 (v_2_0 + (rd v5 (0 + v7.toNat)).c)) > 0)) (decide (v_2_1 > 0))) v_6_0)) else (bif (decide ((rd v5 (0 + v7.toNat)).b = Int.ofNat 1)) then (.to (.h2 v5 v6 (IntKind.wrap .i64 (v7 + 1)) v_2_0 (IntKind.wrap .i64 (v_2_1 + (rd v5 (0 + v7.toNat)).c)) (rd v5 (0 + v7.toNat)).a (x3d (decide (v_2_0 > 0)) (decide ((IntKind.wrap .i64 (v_2_1 + (rd v5 (0 + v7.toNat)).c)) > 0))) v_6_0)) else .stuck)) else (bif (decide ((v_6_0.length : Int) > 0)) then (bif ((decide (0 ≤ (IntKind.wrap .i64 ((v_6_0.length : Int) - 1)) ∧ (IntKind.wrap .i64 ((v_6_0.length : Int) - 1)) < (v_6_0.length : Int))) && true) then (bif (decide ((0 + (Int.toNat (IntKind.wrap .i64 ((v_6_0.length : Int) - 1)))) < v_6_0.length)) then (bif ((rd v_6_0 (0 + (Int.toNat (IntKind.wrap .i64 ((v_6_0.length : Int) - 1))))).b == v_3_0) then (bif (decide ((rd v5 (0 + v7.toNat)).b = Int.ofNat 0)) then (.to (.h2 v5 v6 (IntKind.wrap .i64 (v7 + 1)) (IntKind.wrap .i64 (v_2_0 + (rd v5 (0 + v7.toNat)).c)) v_2_1 (rd v5 (0 + v7.toNat)).a (x3d (decide ((IntKind.wrap .i64 (v_2_0 + (rd v5 (0 + v7.toNat)).c)) > 0)) (decide (v_2_1 > 0))) (v_6_0.set (0 + (Int.toNat (IntKind.wrap .i64 ((v_6_0.length : Int) - 1)))) (R2.mk (rd v_6_0 (0 + (Int.toNat (IntKind.wrap .i64 ((v_6_0.length : Int) - 1))))).a (rd v5 (0 + v7.toNat)).a)))) else (bif (decide ((rd v5 (0 + v7.toNat)).b = Int.ofNat 1)) then (.to (.h2 v5 v6 (IntKind.wrap .i64 (v7 + 1)) v_2_0 (IntKind.wrap .i64 (v_2_1 + (rd v5 (0 + v7.toNat)).c)) (rd v5 (0 + v7.toNat)).a (x3d (decide (v_2_0 > 0)) (decide ((IntKind.wrap .i64 (v_2_1 + (rd v5 (0 + v7.toNat)).c)) > 0))) (v_6_0.set (0 + (Int.toNat (IntKind.wrap .i64 ((v_6_0.length : Int) - 1)))) (R2.mk (rd v_6_0 (0 + (Int.toNat (IntKind.wrap .i64 ((v_6_0.length : Int) - 1))))).a (rd v5 (0 + v7.toNat)).a)))) else .stuck)) else (bif (Nat.beq 2 2 && ((decide (0 + v_6_0.length = v_6_0.length)) && decide ((v_6_0.length + 1 + 1) * (16 + 1) ≤ Jv))) then (bif (decide ((rd v5 (0 + v7.toNat)).b = Int.ofNat 0)) then (.to (.h2 v5 v6 (IntKind.wrap .i64 (v7 + 1)) (IntKind.wrap .i64 (v_2_0 + (rd v5 (0 + v7.toNat)).c)) v_2_1 (rd v5 (0 + v7.toNat)).a (x3d (decide ((IntKind.wrap .i64 (v_2_0 + (rd v5 (0 + v7.toNat)).c)) > 0)) (decide (v_2_1 > 0))) (v_6_0 ++ [(R2.mk v_3_0 (rd v5 (0 + v7.toNat)).a)]))) else (bif (decide ((rd v5 (0 + v7.toNat)).b = Int.ofNat 1)) then (.to (.h2 v5 v6 (IntKind.wrap .i64 (v7 + 1)) v_2_0 (IntKind.wrap .i64 (v_2_1 + (rd v5 (0 + v7.toNat)).c)) (rd v5 (0 + v7.toNat)).a (x3d (decide (v_2_0 > 0)) (decide ((IntKind.wrap .i64 (v_2_1 + (rd v5 (0 + v7.toNat)).c)) > 0))) (v_6_0 ++ [(R2.mk v_3_0 (rd v5 (0 + v7.toNat)).a)]))) else .stuck)) else .stuck)) else .stuck) else .stuck) else (bif (Nat.beq 2 2 && ((decide (0 + v_6_0.length = v_6_0.length)) && decide ((v_6_0.length + 1 + 1) * (16 + 1) ≤ Jv))) then (bif (decide ((rd v5 (0 + v7.toNat)).b = Int.ofNat 0)) then (.to (.h2 v5 v6 (IntKind.wrap .i64 (v7 + 1)) (IntKind.wrap .i64 (v_2_0 + (rd v5 (0 + v7.toNat)).c)) v_2_1 (rd v5 (0 + v7.toNat)).a (x3d (decide ((IntKind.wrap .i64 (v_2_0 + (rd v5 (0 + v7.toNat)).c)) > 0)) (decide (v_2_1 > 0))) (v_6_0 ++ [(R2.mk v_3_0 (rd v5 (0 + v7.toNat)).a)]))) else (bif (decide ((rd v5 (0 + v7.toNat)).b = Int.ofNat 1)) then (.to (.h2 v5 v6 (IntKind.wrap .i64 (v7 + 1)) v_2_0 (IntKind.wrap .i64 (v_2_1 + (rd v5 (0 + v7.toNat)).c)) (rd v5 (0 + v7.toNat)).a (x3d (decide (v_2_0 > 0)) (decide ((IntKind.wrap .i64 (v_2_1 + (rd v5 (0 + v7.toNat)).c)) > 0))) (v_6_0 ++ [(R2.mk v_3_0 (rd v5 (0 + v7.toNat)).a)]))) else .stuck)) else .stuck)))) else .stuck) else .stuck) else (.ret [(.dat v_6_0.length (Zz v_6_0)), (.int .i64 0)]))
def z7r (l0 : List R2) : Xc spmS := (bif (decide ((l0.length : Int) > 400)) then (.ret [.nils, (.int .i64 4)]) else (.to (.h0 0)))
theorem x3z (l0 : List R2) : ∀ s, Wy Tryz.prog (Zy Tryz.prog 174) (spmC l0) (spmC l0 s) (Vm l0 s)
 | .h0 v8 => (lb (fun k0 => (lo fun o1_0 => (lb (fun k1 => (lb (fun k2 => (lb (fun k3 => (lb (fun k4 => (lr 11 174 [1, 1, 0, 1, 0, 0] 1 77 [(2, .nils), (3, (ii 8))] (sl Kz 79 [] ⟨[], [], [some [2, 3]], []⟩ ⟨[], [], []⟩ (trs 9 []) (tt k4 (tt k3 (tt k2 (tt k1 (ww o1_0 (tt k0 nn))))))))) (fun k4 => (sl Kz 154 [(240, 3, Zz ([] : List R3))] ⟨[8, 2, 3, 4, 5, 6, 7, 9], [], x7k, x7l⟩ ⟨[(3, .grow 7 3)], [], []⟩ (trs 8 [false, true]) (pp (fl ([] : List R3) nn) (tt k4 (tt k3 (tt k2 (tt k1 (ww o1_0 (tt k0 nn))))))))))) (fun k3 => (sl Kz 69 [] ⟨[], [], spmN0, spmM0⟩ ⟨[], [], []⟩ (trs 7 [false]) (tt k3 (tt k2 (tt k1 (ww o1_0 (tt k0 nn))))))))) (fun k2 => (lb (fun k3 => (lr 11 174 [1, 1, 0, 1, 0, 0] 1 77 [(2, .nils), (3, (ii 8))] (sl Kz 79 [] ⟨[], [], [some [2, 3]], []⟩ ⟨[], [], []⟩ (trs 4 [false, false, false, true, true]) (tt k3 (tt k2 (tt k1 (ww o1_0 (tt k0 nn)))))))) (fun k3 => (sl Kz 154 [(240, 3, Zz ([] : List R3))] ⟨[8, 2, 3, 4, 5, 6, 7, 9], [], x7k, x7l⟩ ⟨[(3, .grow 7 3)], [], []⟩ (trs 4 [false, false, false, true, false, true]) (pp (fl ([] : List R3) nn) (tt k3 (tt k2 (tt k1 (ww o1_0 (tt k0 nn)))))))))))) (fun k1 => (lb (fun k2 => (lr 11 174 [1, 1, 0, 1, 0, 0] 1 77 [(2, .nils), (3, (ii 8))] (sl Kz 79 [] ⟨[], [], [some [2, 3]], []⟩ ⟨[], [], []⟩ [true, false, false, false, false, false, false, true, true] (tt k2 (tt k1 (ww o1_0 (tt k0 nn))))))) (fun k2 => (sl Kz 154 [(240, 3, Zz ([] : List R3))] ⟨[8, 2, 3, 4, 5, 6, 7, 9], [], x7k, x7l⟩ ⟨[(3, .grow 7 3)], [], []⟩ [true, false, false, false, false, false, false, true, false, true] (pp (fl ([] : List R3) nn) (tt k2 (tt k1 (ww o1_0 (tt k0 nn)))))))))))) (fun k0 => (sl Kz 98 [(240, 3, Zz ([] : List R3))] ⟨[6, 0, 1, 2, 3, 4, 5, 7], [], x7k, x7l⟩ ⟨[(3, .grow 7 3)], [], []⟩ [false, false, true] (pp (fl ([] : List R3) nn) (tt k0 nn)))))
 | .h1 v3 v17 => (lb (fun k0 => (lo fun o0 => (lo fun o1 => (sl Kz 36 [] ⟨[0, 1, 2, 3, 4, 5, 6, 10], [], x7k, x7l⟩ ⟨[(3, .len (v3 ++ [(R3.mk (rd l0 (tn v17)).a 0 1), (R3.mk (rd l0 (tn v17)).b 0 (-1))]).length)], (kpB 7 [.rowed 3 (v3 ++ [(R3.mk (rd l0 (tn v17)).a 0 1), (R3.mk (rd l0 (tn v17)).b 0 (-1))]).length (Zz (v3 ++ [(R3.mk (rd l0 (tn v17)).a 0 1), (R3.mk (rd l0 (tn v17)).b 0 (-1))]))]), []⟩ [true] (pp (xL (v3.length + 2) (v3 ++ [(R3.mk (rd l0 (tn v17)).a 0 1), (R3.mk (rd l0 (tn v17)).b 0 (-1))]).length) (pp (xL (v3.length + 2) (v3 ++ [(R3.mk (rd l0 (tn v17)).a 0 1), (R3.mk (rd l0 (tn v17)).b 0 (-1))]).length) (pp (xS (v3.length + 2) (Zd (Zz v3) 0 v3.length 3 [(ii (rd l0 (tn v17)).a), (ii 0), (ii 1), (ii (rd l0 (tn v17)).b), (ii 0), (ii (-1))]) (Zz (v3 ++ [(R3.mk (rd l0 (tn v17)).a 0 1), (R3.mk (rd l0 (tn v17)).b 0 (-1))]))) (pp (pp (xF (Zd (Zz v3) 0 v3.length 3 [(ii (rd l0 (tn v17)).a), (ii 0), (ii 1), (ii (rd l0 (tn v17)).b), (ii 0), (ii (-1))])) nn) (ww o1 (ww o0 (tt k0 nn))))))))))) (fun k0 => (lo fun o0 => (lo fun o1 => (lo fun o2 => (sl Kz 92 [(110, 2, Zz ([] : List R2))] ⟨[9, 1, 2, 4, 5, 6, 3, 7, 10], [], z9a, z9b⟩ ⟨[(5, .len (z3s (cvT v3)).length)], (kpB 6 [.cells [.grow 8 2], .rowed 3 (z3s (cvT v3)).length (Zz (z3s (cvT v3))), .keep]), []⟩ [false, true, false, false] (pp (xL v3.length (z3s (cvT v3)).length (by first | exact y6d _ | exact Vn rfl)) (pp (xL v3.length (z3s (cvT v3)).length (by first | exact y6d _ | exact Vn rfl)) (pp (xS v3.length (Zz (z3s (cvT v3))) (Zz (z3s (cvT v3)))) (pp (fl (z3s (cvT v3)) (fl ([] : List R2) nn)) (pp (pp (xG (Nat.beq 3 3)) (pp (xG (Nat.beq 3 3)) (pp (xG (Nat.beq 0 0)) (pp (pp (xG (decide (v3.length = v3.length))) (pp (xr v3) (xG (decide (v3.length < 4611686018427387904))))) (xG (y4u (cvT v3))))))) (tt k0 nn))))))))))))
 | .h2 v5 v6 v7 v_2_0 v_2_1 v_3_0 v_4_0 v_6_0 => (lb (fun k0 => (lo fun o1_0 => (lo fun o1_1 => (lb (fun k1 => (lb (fun k2 => (sl Kz 62 [] ⟨(List.range 9), [], z9a, z9b⟩ ⟨[], [], []⟩ (trs 5 [false, false, false]) (pp (fl v5 (fl v_6_0 nn)) (ww k2 (tt k1 (ww o1_1 (ww o1_0 (tt k0 nn)))))))) (fun k2 => (lb (fun k3 => (sl Kz 62 [] ⟨(List.range 9), [], z9a, z9b⟩ ⟨[], [], []⟩ (trs 6 [false, true, false, false]) (pp (fl v5 (fl v_6_0 nn)) (ww k3 (tt k1 (ww o1_1 (ww o1_0 (tt k0 nn)))))))) (fun k3 => trivial))))) (fun k1 => (lb (fun k2 => (lb (fun k3 => (sl Kz 62 [] ⟨(List.range 9), [], z9a, z9b⟩ ⟨[], [], []⟩ [true, false, false, false, true, false, false, false] (pp (fl v5 (fl v_6_0 nn)) (ww k3 (tt k2 (tt k1 (ww o1_1 (ww o1_0 (tt k0 nn))))))))) (fun k3 => (lb (fun k4 => (sl Kz 62 [] ⟨(List.range 9), [], z9a, z9b⟩ ⟨[], [], []⟩ [true, false, false, false, true, true, false, true, false, false] (pp (fl v5 (fl v_6_0 nn)) (ww k4 (tt k2 (tt k1 (ww o1_1 (ww o1_0 (tt k0 nn))))))))) (fun k4 => trivial))))) (fun k2 => (lb (fun k3 => (lo fun o4_0 => (lo fun o4_1 => (lb (fun k4 => (lb (fun k5 => (sl Kz 81 [] ⟨(List.range 9), [], z9a, z9b⟩ ⟨[], (kpB 6 [.cells [.len (v_6_0.set (0 + (tn (wr ((v_6_0.length : Int) - 1)))) (R2.mk (rd v_6_0 (0 + (tn (wr ((v_6_0.length : Int) - 1))))).a (rd v5 (0 + (tn v7))).a)).length], .keep, .rowed 2 (v_6_0.set (0 + (tn (wr ((v_6_0.length : Int) - 1)))) (R2.mk (rd v_6_0 (0 + (tn (wr ((v_6_0.length : Int) - 1))))).a (rd v5 (0 + (tn v7))).a)).length (Zz (v_6_0.set (0 + (tn (wr ((v_6_0.length : Int) - 1)))) (R2.mk (rd v_6_0 (0 + (tn (wr ((v_6_0.length : Int) - 1))))).a (rd v5 (0 + (tn v7))).a)))]), []⟩ [true, false, false, false, false, true, true, true, true, true, true, true, true, true, false, false, false] (pp (xL v_6_0.length (v_6_0.set (0 + (tn (wr ((v_6_0.length : Int) - 1)))) (R2.mk (rd v_6_0 (0 + (tn (wr ((v_6_0.length : Int) - 1))))).a (rd v5 (0 + (tn v7))).a)).length) (pp (xL v_6_0.length (v_6_0.set (0 + (tn (wr ((v_6_0.length : Int) - 1)))) (R2.mk (rd v_6_0 (0 + (tn (wr ((v_6_0.length : Int) - 1))))).a (rd v5 (0 + (tn v7))).a)).length) (pp (xS v_6_0.length (Xa (Zz v_6_0) (0 + (tn (wr ((v_6_0.length : Int) - 1)))) 1 [(ii (rd v5 (0 + (tn v7))).a)]) (Zz (v_6_0.set (0 + (tn (wr ((v_6_0.length : Int) - 1)))) (R2.mk (rd v_6_0 (0 + (tn (wr ((v_6_0.length : Int) - 1))))).a (rd v5 (0 + (tn v7))).a)))) (pp (fl v5 (pp (xF (Xa (Zz v_6_0) (0 + (tn (wr ((v_6_0.length : Int) - 1)))) 1 [(ii (rd v5 (0 + (tn v7))).a)])) nn)) (ww k5 (ww o4_1 (ww o4_0 (tt k4 (ww o4_1 (ww o4_0 (tt k3 (tt k2 (tt k1 (ww o1_1 (ww o1_0 (tt k0 nn)))))))))))))))))) (fun k5 => (lb (fun k6 => (sl Kz 81 [] ⟨(List.range 9), [], z9a, z9b⟩ ⟨[], (kpB 6 [.cells [.len (v_6_0.set (0 + (tn (wr ((v_6_0.length : Int) - 1)))) (R2.mk (rd v_6_0 (0 + (tn (wr ((v_6_0.length : Int) - 1))))).a (rd v5 (0 + (tn v7))).a)).length], .keep, .rowed 2 (v_6_0.set (0 + (tn (wr ((v_6_0.length : Int) - 1)))) (R2.mk (rd v_6_0 (0 + (tn (wr ((v_6_0.length : Int) - 1))))).a (rd v5 (0 + (tn v7))).a)).length (Zz (v_6_0.set (0 + (tn (wr ((v_6_0.length : Int) - 1)))) (R2.mk (rd v_6_0 (0 + (tn (wr ((v_6_0.length : Int) - 1))))).a (rd v5 (0 + (tn v7))).a)))]), []⟩ [true, false, false, false, false, true, true, true, true, true, true, true, true, true, true, false, true, false, false] (pp (xL v_6_0.length (v_6_0.set (0 + (tn (wr ((v_6_0.length : Int) - 1)))) (R2.mk (rd v_6_0 (0 + (tn (wr ((v_6_0.length : Int) - 1))))).a (rd v5 (0 + (tn v7))).a)).length) (pp (xL v_6_0.length (v_6_0.set (0 + (tn (wr ((v_6_0.length : Int) - 1)))) (R2.mk (rd v_6_0 (0 + (tn (wr ((v_6_0.length : Int) - 1))))).a (rd v5 (0 + (tn v7))).a)).length) (pp (xS v_6_0.length (Xa (Zz v_6_0) (0 + (tn (wr ((v_6_0.length : Int) - 1)))) 1 [(ii (rd v5 (0 + (tn v7))).a)]) (Zz (v_6_0.set (0 + (tn (wr ((v_6_0.length : Int) - 1)))) (R2.mk (rd v_6_0 (0 + (tn (wr ((v_6_0.length : Int) - 1))))).a (rd v5 (0 + (tn v7))).a)))) (pp (fl v5 (pp (xF (Xa (Zz v_6_0) (0 + (tn (wr ((v_6_0.length : Int) - 1)))) 1 [(ii (rd v5 (0 + (tn v7))).a)])) nn)) (ww k6 (ww o4_1 (ww o4_0 (tt k4 (ww o4_1 (ww o4_0 (tt k3 (tt k2 (tt k1 (ww o1_1 (ww o1_0 (tt k0 nn)))))))))))))))))) (fun k6 => trivial))))) (fun k4 => (lo fun o5_0 => (lb (fun k5 => (sl Kz 81 [] ⟨[0, 1, 2, 3, 4, 5, 6, 7, 12], [], z9a, z9b⟩ ⟨[], (kpB 6 [.cells [.len (v_6_0 ++ [(R2.mk v_3_0 (rd v5 (0 + (tn v7))).a)]).length], .keep, .rowed 2 (v_6_0 ++ [(R2.mk v_3_0 (rd v5 (0 + (tn v7))).a)]).length (Zz (v_6_0 ++ [(R2.mk v_3_0 (rd v5 (0 + (tn v7))).a)]))]), []⟩ [true, false, false, false, false, true, true, true, true, true, true, true, true, false, false, false, false] (pp (xL (v_6_0.length + 1) (v_6_0 ++ [(R2.mk v_3_0 (rd v5 (0 + (tn v7))).a)]).length) (pp (xL (v_6_0.length + 1) (v_6_0 ++ [(R2.mk v_3_0 (rd v5 (0 + (tn v7))).a)]).length) (pp (xS (v_6_0.length + 1) (Zd (Zz v_6_0) 0 v_6_0.length 2 [(ii v_3_0), (ii (rd v5 (0 + (tn v7))).a)]) (Zz (v_6_0 ++ [(R2.mk v_3_0 (rd v5 (0 + (tn v7))).a)]))) (pp (fl v5 (pp (xF (Zd (Zz v_6_0) 0 v_6_0.length 2 [(ii v_3_0), (ii (rd v5 (0 + (tn v7))).a)])) nn)) (ww k5 (ww o5_0 (tt k4 (ww o4_1 (ww o4_0 (tt k3 (tt k2 (tt k1 (ww o1_1 (ww o1_0 (tt k0 nn))))))))))))))))) (fun k5 => (lb (fun k6 => (sl Kz 81 [] ⟨[0, 1, 2, 3, 4, 5, 6, 7, 12], [], z9a, z9b⟩ ⟨[], (kpB 6 [.cells [.len (v_6_0 ++ [(R2.mk v_3_0 (rd v5 (0 + (tn v7))).a)]).length], .keep, .rowed 2 (v_6_0 ++ [(R2.mk v_3_0 (rd v5 (0 + (tn v7))).a)]).length (Zz (v_6_0 ++ [(R2.mk v_3_0 (rd v5 (0 + (tn v7))).a)]))]), []⟩ [true, false, false, false, false, true, true, true, true, true, true, true, true, false, true, false, true, false, false] (pp (xL (v_6_0.length + 1) (v_6_0 ++ [(R2.mk v_3_0 (rd v5 (0 + (tn v7))).a)]).length) (pp (xL (v_6_0.length + 1) (v_6_0 ++ [(R2.mk v_3_0 (rd v5 (0 + (tn v7))).a)]).length) (pp (xS (v_6_0.length + 1) (Zd (Zz v_6_0) 0 v_6_0.length 2 [(ii v_3_0), (ii (rd v5 (0 + (tn v7))).a)]) (Zz (v_6_0 ++ [(R2.mk v_3_0 (rd v5 (0 + (tn v7))).a)]))) (pp (fl v5 (pp (xF (Zd (Zz v_6_0) 0 v_6_0.length 2 [(ii v_3_0), (ii (rd v5 (0 + (tn v7))).a)])) nn)) (ww k6 (ww o5_0 (tt k4 (ww o4_1 (ww o4_0 (tt k3 (tt k2 (tt k1 (ww o1_1 (ww o1_0 (tt k0 nn))))))))))))))))) (fun k6 => trivial)))))))))) (fun k3 => (lo fun o4_0 => (lb (fun k4 => (sl Kz 81 [] ⟨[0, 1, 2, 3, 4, 5, 6, 7, 12], [], z9a, z9b⟩ ⟨[], (kpB 6 [.cells [.len (v_6_0 ++ [(R2.mk v_3_0 (rd v5 (0 + (tn v7))).a)]).length], .keep, .rowed 2 (v_6_0 ++ [(R2.mk v_3_0 (rd v5 (0 + (tn v7))).a)]).length (Zz (v_6_0 ++ [(R2.mk v_3_0 (rd v5 (0 + (tn v7))).a)]))]), []⟩ [true, false, false, false, false, false, false, false, false, false, false, false, false, false, false, false, false] (pp (xL (v_6_0.length + 1) (v_6_0 ++ [(R2.mk v_3_0 (rd v5 (0 + (tn v7))).a)]).length) (pp (xL (v_6_0.length + 1) (v_6_0 ++ [(R2.mk v_3_0 (rd v5 (0 + (tn v7))).a)]).length) (pp (xS (v_6_0.length + 1) (Zd (Zz v_6_0) 0 v_6_0.length 2 [(ii v_3_0), (ii (rd v5 (0 + (tn v7))).a)]) (Zz (v_6_0 ++ [(R2.mk v_3_0 (rd v5 (0 + (tn v7))).a)]))) (pp (fl v5 (pp (xF (Zd (Zz v_6_0) 0 v_6_0.length 2 [(ii v_3_0), (ii (rd v5 (0 + (tn v7))).a)])) nn)) (ww k4 (ww o4_0 (tt k3 (tt k2 (tt k1 (ww o1_1 (ww o1_0 (tt k0 nn)))))))))))))) (fun k4 => (lb (fun k5 => (sl Kz 81 [] ⟨[0, 1, 2, 3, 4, 5, 6, 7, 12], [], z9a, z9b⟩ ⟨[], (kpB 6 [.cells [.len (v_6_0 ++ [(R2.mk v_3_0 (rd v5 (0 + (tn v7))).a)]).length], .keep, .rowed 2 (v_6_0 ++ [(R2.mk v_3_0 (rd v5 (0 + (tn v7))).a)]).length (Zz (v_6_0 ++ [(R2.mk v_3_0 (rd v5 (0 + (tn v7))).a)]))]), []⟩ [true, false, false, false, false, false, false, false, false, false, false, false, false, false, true, false, true, false, false] (pp (xL (v_6_0.length + 1) (v_6_0 ++ [(R2.mk v_3_0 (rd v5 (0 + (tn v7))).a)]).length) (pp (xL (v_6_0.length + 1) (v_6_0 ++ [(R2.mk v_3_0 (rd v5 (0 + (tn v7))).a)]).length) (pp (xS (v_6_0.length + 1) (Zd (Zz v_6_0) 0 v_6_0.length 2 [(ii v_3_0), (ii (rd v5 (0 + (tn v7))).a)]) (Zz (v_6_0 ++ [(R2.mk v_3_0 (rd v5 (0 + (tn v7))).a)]))) (pp (fl v5 (pp (xF (Zd (Zz v_6_0) 0 v_6_0.length 2 [(ii v_3_0), (ii (rd v5 (0 + (tn v7))).a)])) nn)) (ww k5 (ww o4_0 (tt k3 (tt k2 (tt k1 (ww o1_1 (ww o1_0 (tt k0 nn)))))))))))))) (fun k5 => trivial)))))))))))))) (fun k0 => (lr 11 3 [1, 1, 1, 1, 1, 1, 0] 1 77 [(2, (.dat v_6_0.length (Zz v_6_0))), (3, (ii 0))] (sl Kz 19 [] ⟨[], [8], [some [2, 3]], []⟩ ⟨[(2, .frz v_6_0.length v_6_0.length (Zz v_6_0) (Zz v_6_0))], [], []⟩ [false] (pp (xZ (z4u 2 2 0 v_6_0.length v_6_0.length (Zz v_6_0)) v_6_0.length (Zz v_6_0)) (pp (xL v_6_0.length v_6_0.length) (pp (xS v_6_0.length (Zz v_6_0) (Zz v_6_0)) (pp (fl v_6_0 nn) (tt k0 nn)))))))))
theorem y8b (l0 : List R2) : Wy Tryz.prog (Zy Tryz.prog 174) (spmC l0) (Zh Tryz.prog 174 [(.dat l0.length (Zz l0))] true []) (z7r l0) := (lb (fun k0 => (lr 11 174 [1, 0, 1, 0, 0] 1 77 [(2, .nils), (3, (ii 4))] (sl Kz 18 [] ⟨[], [], [some [2, 3]], []⟩ ⟨[], [], []⟩ [true] (tt k0 nn)))) (fun k0 => (sl Kz 41 [] ⟨[], [], spmN0, spmM0⟩ ⟨[], [], []⟩ [false] (tt k0 nn))))
theorem w3e (l0 : List R2) (n : Nat) (vs : List AVal) (h : Yw (Vm l0) n (z7r l0) = .ret vs) : Jd Tryz.prog (Zy Tryz.prog 174) (Zh Tryz.prog 174 [(.dat l0.length (Zz l0))] true []) vs := by
 have := Zn (x3z l0) n _ (y8b l0)
 rwa [h] at this
end Go.Am
namespace Go.Am
open Go.Proofs
def z7d (s : R2) : Bool := decide (s.a < s.b) && (decide (s.a ≥ -1000000) && decide (s.b ≤ 1000000))
def Uh (l : List R2) : List R3 := l.flatMap fun s => [⟨s.a, 0, 1⟩, ⟨s.b, 0, -1⟩]
def Qq (out : List R2) (last : Int) (inn : Bool) (at' : Int) : List R2 :=
 bif !inn then out else bif last == at' then out else
 bif decide (0 < out.length) && ((rd out (out.length - 1)).b == last) then out.set (out.length - 1) ⟨(rd out (out.length - 1)).a, at'⟩ else out ++ [⟨last, at'⟩]
def swF : List R3 → Int → Int → Bool → List R2 → List R2
 | [], _, _, _, out => out
 | e :: r, o, last, inn, out => swF r (o + e.c) e.a (decide (o + e.c > 0)) (Qq out last inn e.a)
def swV (l : List R2) : List R2 := swF (z3s (Uh l)) 0 0 false []
def Xp (l : List R2) : List R2 := bif decide (400 < l.length) then [] else bif l.all z7d then swV l else []
def w8r (l : List R2) : Int := bif decide (400 < l.length) then 4 else bif l.all z7d then 0 else 8
def z8z (l : List R2) : Bool := true
def y5a (l : List R2) : List AVal := bif decide (400 < l.length) then [.nils, .int .i64 4] else bif l.all z7d then [.dat (swV l).length (Zz (swV l)), .int .i64 0] else [.nils, .int .i64 8]
theorem z1w (l : List R2) : (Uh l).length = 2 * l.length := by
 induction l with
 | nil => rfl
 | cons r l ih => show (_ :: _ :: Uh l).length = _; simp only [List.length_cons, ih]; omega
theorem z5g (out : List R2) (last : Int) (inn : Bool) (a : Int) : (Qq out last inn a).length ≤ out.length + 1 := by
 unfold Qq
 cases inn <;> simp only [Bool.not_true, Bool.not_false, cond_true, cond_false]
 ·omega
 ·cases (last == a) <;> simp only [cond_true, cond_false]
  ·cases (decide (0 < out.length) && ((rd out (out.length - 1)).b == last)) <;> simp
  ·omega
theorem z7q (e : R3) (r : List R3) (o last : Int) (inn : Bool) (out : List R2) : swF (e :: r) o last inn out = swF r (o + e.c) e.a (decide (o + e.c > 0)) (Qq out last inn e.a) := rfl
theorem v4f {a : Int} (k : Nat) (h : a = (k : Int)) : decide (a = Int.ofNat k) = true := decide_eq_true h
section
variable (l : List R2) (hl : l.length ≤ 400)
include hl
theorem w8o (L : List R3) (hL : L.length ≤ 800) (hE : ∀ i, i < L.length → (rd L i).b = 0 ∧ ((rd L i).c = 1 ∨ (rd L i).c = -1)) : ∀ (k i : Nat) (o last : Int) (inn : Bool) (out : List R2), i + k = L.length → -(i : Int) ≤ o → o ≤ i → out.length ≤ i →
  ∃ n, Yw (Vm l) n (.to (.h2 L (L.length : Int) (i : Int) o 0 last inn out)) = .ret [.dat (swF (L.drop i) o last inn out).length (Zz (swF (L.drop i) o last inn out)), .int .i64 0]
 | 0, i, o, last, inn, out, h, ho1, ho2, hout => by
  have _uhl := hl
  refine ⟨1, ?_⟩
  rw [Zv, List.drop_eq_nil_of_le (by omega)]
  simp (disch := omega) only [Vm, Zt, cond_false, Zg, swF]
 | k + 1, i, o, last, inn, out, h, ho1, ho2, hout => by
  obtain ⟨hb, hc⟩ := hE i (by omega)
  have hcl := z5g out last inn (rd L i).a
  obtain ⟨n, hn⟩ := w8o L hL hE k (i + 1) (o + (rd L i).c) (rd L i).a (decide (o + (rd L i).c > 0)) (Qq out last inn (rd L i).a) (by omega) (by rcases hc with hc | hc <;> omega) (by rcases hc with hc | hc <;> omega) (by omega)
  refine ⟨n + 1, ?_⟩
  rw [Ye (show i < L.length by omega), Zv]
  have hf : ∀ b, x3d b (decide ((0 : Int) > 0)) = b := fun b => rfl
  have hw : IntKind.wrap .i64 (o + (rd L i).c) = o + (rd L i).c := Zk (by rcases hc with hc | hc <;> omega)
  rw [z7q]
  have hf' : ∀ b, x3d b false = b := fun b => rfl
  have hz := v4f 0 hb
  unfold Qq at hn ⊢
  cases inn with
  | false =>
   simp only [Bool.not_false, cond_true] at hn ⊢
   simp (disch := omega) only [Vm, Bool.not_false, hz, hw, hf, hf', Zo, Zs, Yu, Zk, Zx, Zj, Nat.zero_add, Bool.and_true, cond_true]
   exact hn
  | true =>
   simp only [Bool.not_true, cond_false] at hn ⊢
   rcases Ym (last == (rd L i).a) with q | q
   ·rw [q] at hn ⊢
    simp only [cond_true] at hn ⊢
    simp (disch := omega) only [Vm, Bool.not_true, q, hz, hw, hf, hf', Zo, Zs, Yu, Zk, Zx, Zj, Nat.zero_add, Bool.and_true, cond_true, cond_false]
    exact hn
   ·rw [q] at hn ⊢
    simp only [cond_false] at hn ⊢
    by_cases h0 : 0 < out.length
    ·rw [decide_eq_true h0, Bool.true_and] at hn ⊢
     rcases Ym ((rd out (out.length - 1)).b == last) with q2 | q2
     ·rw [q2] at hn ⊢
      simp only [cond_true] at hn ⊢
      simp (disch := omega) only [Vm, Bool.not_true, q, q2, hz, hw, hf, hf', Zo, Yn, Zs, Yu, Zk, Zx, Zj, Zi, Nat.zero_add, Bool.and_true, cond_true, cond_false]
      exact hn
     ·rw [q2] at hn ⊢
      simp only [cond_false] at hn ⊢
      simp (disch := omega) only [Vm, Bool.not_true, q, q2, hz, hw, hf, hf', Zo, Yn, Zs, Yu, Yk, Ze, Ya, decide_true, Zk, Zx, Zj, Zi, Nat.zero_add, Bool.and_true, Bool.true_and, cond_true, cond_false]
      exact hn
    ·rw [decide_eq_false h0, Bool.false_and] at hn ⊢
     simp only [cond_false] at hn ⊢
     simp (disch := omega) only [Vm, Bool.not_true, q, hz, hw, hf, hf', Zo, Xy, Zs, Yu, Yk, Ze, Ya, decide_true, Zk, Zx, Zj, Nat.zero_add, Bool.and_true, Bool.true_and, cond_true, cond_false]
     exact hn
theorem w1p (h : l.all z7d = true) : ∀ e ∈ Uh l, bnd3 e = true ∧ e.b = 0 ∧ (e.c = 1 ∨ e.c = -1) := by
 have _uhl := hl
 intro e he
 obtain ⟨s, hs, h1⟩ := List.mem_flatMap.1 he
 have hv := List.all_eq_true.1 h s hs
 simp only [z7d, Bool.and_eq_true, decide_eq_true_eq] at hv
 simp only [List.mem_cons, List.not_mem_nil, or_false] at h1
 rcases h1 with rfl | rfl
 ·exact ⟨decide_eq_true (by simp only; omega), rfl, .inl rfl⟩
 ·exact ⟨decide_eq_true (by simp only; omega), rfl, .inr rfl⟩
theorem w8p (hv : l.all z7d = true) : ∀ (k i : Nat) (acc : List R3), i + k = l.length → acc = Uh (l.take i) → ∃ n, Yw (Vm l) n (.to (.h1 acc (i : Int))) = .ret [.dat (swV l).length (Zz (swV l)), .int .i64 0]
 | 0, i, acc, h, ha => by
  have e : acc = Uh l := by rw [ha, List.take_of_length_le (by omega)]
  subst e
  have hle := z1w l
  have hall := w1p l hl hv
  have hb : y4u (Uh l) = true := List.all_eq_true.2 fun e he => (hall e he).1
  obtain ⟨hp, _⟩ := Qh (Uh l) hb
  have hpl := hp.length_eq
  obtain ⟨n, hn⟩ := w8o l hl (z3s (Uh l)) (by omega) (fun i hi => by
   rw [Xd hi]
   exact (hall _ (hp.mem_iff.1 (List.getElem_mem hi))).2) (z3s (Uh l)).length 0 0 0 false [] (Nat.zero_add _) (by omega) (by omega) (Nat.zero_le _)
  refine ⟨n + 1, ?_⟩
  rw [Zv]
  simp (disch := omega) only [Vm, Zb, Zq, hb, Zt, Yu, Yk, decide_true, cond_true, cond_false]
  rw [← hpl]
  simp only [z0u, List.drop_zero] at hn
  exact hn
 | k + 1, i, acc, h, ha => by
  have hle := z1w (l.take i)
  have hacc : acc.length ≤ 2 * i := by rw [ha, hle]; simp; omega
  obtain ⟨n, hn⟩ := w8p hv k (i + 1) (acc ++ Uh [rd l i]) (by omega) (by
   rw [ha, List.take_add_one]
   have : l[i]? = some (rd l i) := by rw [Xd (show i < l.length by omega)]; exact List.getElem?_eq_getElem _
   rw [this]
   simp [Uh])
  refine ⟨n + 1, ?_⟩
  rw [Zv]
  simp (disch := omega) only [Vm, Zo, Zs, Yz, Yk, Ze, Ya, decide_true, Zk, Zx, Zj, Nat.zero_add, Bool.and_true, Bool.true_and, cond_true]
  exact hn
theorem w8q : ∀ (k i : Nat), i + k = l.length → (∀ s ∈ l.take i, z7d s = true) → ∃ n, Yw (Vm l) n (.to (.h0 (i : Int))) = .ret (bif l.all z7d then [.dat (swV l).length (Zz (swV l)), .int .i64 0] else [.nils, .int .i64 8])
 | 0, i, h, ht => by
  have hv : l.all z7d = true := List.all_eq_true.2 fun s hs => ht s (by rw [List.take_of_length_le (by omega)]; exact hs)
  obtain ⟨n, hn⟩ := w8p l hl hv l.length 0 [] (Nat.zero_add _) rfl
  refine ⟨n + 1, ?_⟩
  rw [Zv, hv, cond_true]
  simp (disch := omega) only [Vm, Zt, cond_false]
  exact hn
 | k + 1, i, h, ht => by
  have hi : i < l.length := by omega
  rcases Ym (z7d (rd l i)) with q | q
  ·obtain ⟨n, hn⟩ := w8q k (i + 1) (by omega) (fun s hs => by
    rw [List.take_add_one] at hs
    have e : l[i]? = some (rd l i) := by rw [Xd hi]; exact List.getElem?_eq_getElem _
    rw [e] at hs
    simp only [Option.toList_some, List.mem_append, List.mem_singleton] at hs
    rcases hs with hs | rfl
    ·exact ht s hs
    ·exact q)
   refine ⟨n + 1, ?_⟩
   rw [Zv]
   simp only [z7d, Bool.and_eq_true, decide_eq_true_eq] at q
   simp (disch := omega) only [Vm, Zo, Xq, w7i, Zs, Zk, Zx, Zj, Bool.not_true, Bool.and_true, cond_true, cond_false]
   exact hn
  ·have hv : l.all z7d = false := Bool.eq_false_iff.2 fun e => by
    have := List.all_eq_true.1 e (rd l i) (by rw [Xd hi]; exact List.getElem_mem hi)
    rw [this] at q; cases q
   refine ⟨1, ?_⟩
   rw [Zv, hv, cond_false]
   unfold z7d at q
   rcases Ym (decide ((rd l i).a < (rd l i).b)) with q1 | q1 <;> rcases Ym (decide ((rd l i).a ≥ -1000000)) with q2 | q2 <;> rcases Ym (decide ((rd l i).b ≤ 1000000)) with q3 | q3 <;>
    rw [q1, q2, q3] at q <;> first
    | (exfalso; revert q; decide)
    | simp (disch := omega) only [Vm, q1, q2, q3, Zo, w7i, Zs, Zk, Zx, Zj, Bool.not_true, Bool.not_false, Bool.and_true, cond_true, cond_false, Zg]
end
theorem v2m (l : List R2) : ∃ n, Yw (Vm l) n (z7r l) = .ret (y5a l) := by
 unfold z7r y5a
 by_cases h : 400 < l.length
 ·refine ⟨0, ?_⟩
  rw [decide_eq_true h, Yn (show (l.length : Int) > 400 by omega)]; rfl
 ·obtain ⟨n, hn⟩ := w8q l (by omega) l.length 0 (Nat.zero_add _) (fun s hs => by simp at hs)
  refine ⟨n, ?_⟩
  rw [decide_eq_false h, Xy (show ¬ (l.length : Int) > 400 by omega), cond_false, cond_false]
  exact hn
end Go.Am
namespace Go.Am
open Go.Proofs
def fSpm : List AVal → Option (AVal × Bool)
 | [a1] => match asL R2 a1 with
  | some (L1, g1, n1) => some (.tup [.dat (Xp L1).length (Zz (Xp L1)), .int .i64 (w8r L1)], isT R2 n1 g1 && z8z L1)
  | _ => none
 | _ => none
theorem v5n {S : Specs} (hS : Zu Tryz.prog S) : Zu Tryz.prog (S.with y5y fSpm) := by
 refine v5l hS (by kernel_rfl) fun args v h => ?_
 unfold fSpm at h
 split at h
 ·rename_i a1
  split at h
  ·rename_i L1 g1 n1 e1
   simp only [Option.some.injEq, Prod.mk.injEq, Bool.and_eq_true] at h
   obtain ⟨rfl, ho1, hw⟩ := h
   obtain ⟨N, hN⟩ := v2m L1
   refine ⟨_, y5a L1, (.cons (asL_le e1 ho1) .nil), ?_, w3e L1 N _ hN, 3, ?_⟩
   ·unfold Xp w8r y5a
    cases decide (400 < L1.length) <;> simp only [cond_true, cond_false]
    ·cases L1.all z7d <;> simp only [cond_true, cond_false]
     ·exact fun ρ u hu => z6o (.cons (z1r R2) (RLe.refl _)) ρ u hu
     ·exact fun ρ u hu => hu
    ·exact fun ρ u hu => z6o (.cons (z1r R2) (RLe.refl _)) ρ u hu
   ·unfold y5a
    cases decide (400 < L1.length) <;> simp only [cond_true, cond_false]
    ·cases L1.all z7d <;> rfl
    ·rfl
  ·cases h
 ·cases h
def T6 : Specs := T5.with y5y fSpm
theorem Ue : Zu Tryz.prog T6 := v5n Kz
end Go.Am
namespace Go.Am
open Go.Proofs Go.Sort Go.Shelf Go.RowKit Go.Lib
theorem x1e {γ : Type} (a b : Bool) (x y : γ) : (bif a && b then x else y) = bif a then (bif b then x else y) else y := by cases a <;> rfl
theorem y4h {γ : Type} (a : Bool) (x y : γ) : (bif !a then x else y) = bif a then y else x := by cases a <;> rfl
structure Dim (α β : Type) where
 lo : α → Int
 hi : α → Int
 pr : α → β
 put : Int → Int → β → α
 ext : Int → α → α
 mak : List β → List β
 same : List β → List β → Bool
structure Sw (α β : Type) where
 out : List α
 last : List β
 first : Nat
 fin : Int
def Jg (zs : List Int) : List Int := compact (Yh zs)
theorem z6c (zs : List Int) : w8c (Yh zs) = (Jg zs).length := rfl
theorem Wv (zs : List Int) : (Yh zs).length = zs.length := List.length_mergeSort zs
theorem z5e (zs : List Int) : (Jg zs).length ≤ zs.length := by
 have := compact_length_le (Yh zs)
 rw [Wv] at this
 exact this
theorem Ui (zs : List Int) (i : Nat) (h : i < (Jg zs).length) : rd (Xx (Yh zs)) i = rd (Jg zs) i := by
 change i < (compact (Yh zs)).length at h
 show rd (compact (Yh zs) ++ _) i = rd (compact (Yh zs)) i
 rw [Xd (by rw [List.length_append]; exact Nat.lt_add_right _ h), Xd h, List.getElem_append_left h]
theorem Kx (zs : List Int) : Zm zs.length (cOf (Zz (Yh zs))) = Yh zs := by
 have := Vr (Yh zs)
 rw [Wv] at this
 exact this
namespace Dim
variable {α β : Type} (D : Dim α β) (l : List α)
def ends : List Int := l.flatMap fun r => [D.lo r, D.hi r]
def cuts : List Int := Jg (D.ends l)
def inn (x : Int) : List β := (l.filter fun r => decide (D.lo r ≤ x) && decide (x < D.hi r)).map D.pr
def sec (x : Int) : List β := D.mak (D.inn l x)
def grow (out : List α) (k : Nat) (x : Int) : List α := out.take k ++ (out.drop k).map (D.ext x)
def one (x x' : Int) (s : Sw α β) : Sw α β :=
 bif decide (0 < (D.sec l x).length) && ((s.fin == x) && D.same s.last (D.sec l x)) then ⟨D.grow s.out s.first x', s.last, s.first, x'⟩
 else ⟨s.out ++ (D.sec l x).map (D.put x x'), D.sec l x, s.out.length, x'⟩
def go : Nat → Nat → Sw α β → Sw α β
 | 0, _, s => s
 | k + 1, i, s => go k (i + 1) (D.one l (rd (D.cuts l) i) (rd (D.cuts l) (i + 1)) s)
def out : List α := (D.go l ((D.cuts l).length - 1) 0 ⟨[], [], 0, 0⟩).out
theorem ends_length : (D.ends l).length = 2 * l.length := by
 induction l with
 | nil => rfl
 | cons r l ih => show (_ :: _ :: D.ends l).length = _; simp only [List.length_cons, ih]; omega
theorem cuts_length : (D.cuts l).length ≤ 2 * l.length := by
 have := z5e (D.ends l)
 rw [D.ends_length] at this
 exact this
theorem ends_append (m : List α) : D.ends (l ++ m) = D.ends l ++ D.ends m := by simp [ends]
theorem inn_append (m : List α) (x : Int) : D.inn (l ++ m) x = D.inn l x ++ D.inn m x := by simp [inn]
theorem inn_length (x : Int) : (D.inn l x).length ≤ l.length := by simpa [inn] using List.length_filter_le _ l
theorem inn_t (r : α) (x : Int) (h1 : D.lo r ≤ x) (h2 : x < D.hi r) : D.inn [r] x = [D.pr r] := by simp [inn, h1, h2]
theorem inn_f1 (r : α) (x : Int) (h1 : ¬ D.lo r ≤ x) : D.inn [r] x = [] := by simp [inn, h1]
theorem inn_f2 (r : α) (x : Int) (h1 : ¬ x < D.hi r) : D.inn [r] x = [] := by simp [inn, h1]
theorem grow_nil (out : List α) (k : Nat) (x : Int) (h : out.length ≤ k) : D.grow out k x = out := by
 unfold grow; rw [List.drop_eq_nil_of_le h, List.map_nil, List.append_nil, List.take_of_length_le h]
theorem grow_length (out : List α) (k : Nat) (x : Int) : (D.grow out k x).length = out.length := by
 unfold grow; simp; omega
theorem grow_set [Ys α] (out : List α) (j : Nat) (x : Int) (h : j < out.length) : D.grow (out.set j (D.ext x (rd out j))) (j + 1) x = D.grow out j x := by
 unfold grow
 rw [Ye h, List.map_cons]
 have e1 : (out.set j (D.ext x (rd out j))).take (j + 1) = out.take j ++ [D.ext x (rd out j)] := by
  apply List.ext_getElem
  ·simp; omega
  ·intro n h1 h2
   simp only [List.getElem_take, List.getElem_set]
   by_cases e : j = n
   ·subst e
    rw [if_pos rfl, List.getElem_append_right (by simp only [List.length_take]; omega)]
    simp
   ·rw [if_neg e, List.getElem_append_left (by simp at h1 ⊢; omega), List.getElem_take]
 have e2 : (out.set j (D.ext x (rd out j))).drop (j + 1) = out.drop (j + 1) := by
  rw [List.drop_set]; rw [if_pos (by omega)]
 rw [e1, e2, List.append_assoc]; rfl
theorem one_length (x x' : Int) (s : Sw α β) : (D.one l x x' s).out.length ≤ s.out.length + (D.sec l x).length := by
 unfold one
 cases (decide (0 < (D.sec l x).length) && ((s.fin == x) && D.same s.last (D.sec l x))) <;> simp [grow_length]
end Dim
end Go.Am
namespace Go.Am
open Go.Proofs
inductive vl4S where
def vl4C (x0_0 : Int) (x0_1 : Int) (x0_2 : Int) (x0_3 : Int) : vl4S → Cfg
 := nofun
def y7s (x0_0 : Int) (x0_1 : Int) (x0_2 : Int) (x0_3 : Int) : vl4S → Xc vl4S
 := nofun
def z7p (x0_0 : Int) (x0_1 : Int) (x0_2 : Int) (x0_3 : Int) : Xc vl4S := (bif (decide (x0_0 < x0_2)) then (bif (decide (x0_1 < x0_3)) then (bif (decide (x0_0 ≥ (-1000000))) then (bif (decide (x0_0 ≤ 1000000)) then (bif (decide (x0_2 ≥ (-1000000))) then (bif (decide (x0_2 ≤ 1000000)) then (bif (decide (x0_1 ≥ (-1000000))) then (bif (decide (x0_1 ≤ 1000000)) then (bif (decide (x0_3 ≥ (-1000000))) then (.ret [(.bool (decide (x0_3 ≤ 1000000)))]) else (.ret [(.bool false)])) else (.ret [(.bool false)])) else (.ret [(.bool false)])) else (.ret [(.bool false)])) else (.ret [(.bool false)])) else (.ret [(.bool false)])) else (.ret [(.bool false)])) else (.ret [(.bool false)])) else (.ret [(.bool false)]))
theorem x3r (x0_0 : Int) (x0_1 : Int) (x0_2 : Int) (x0_3 : Int) : ∀ s, Wy Tryz.prog (Zy Tryz.prog 153) (vl4C x0_0 x0_1 x0_2 x0_3) (vl4C x0_0 x0_1 x0_2 x0_3 s) (y7s x0_0 x0_1 x0_2 x0_3 s)
 := nofun
theorem y7t (x0_0 : Int) (x0_1 : Int) (x0_2 : Int) (x0_3 : Int) : Wy Tryz.prog (Zy Tryz.prog 153) (vl4C x0_0 x0_1 x0_2 x0_3) (Zh Tryz.prog 153 [(.agg [(.int .i64 x0_0), (.int .i64 x0_1), (.int .i64 x0_2), (.int .i64 x0_3)])] true []) (z7p x0_0 x0_1 x0_2 x0_3) := (lb (fun k0 => (lb (fun k1 => (lb (fun k2 => (lb (fun k3 => (lb (fun k4 => (lb (fun k5 => (lb (fun k6 => (lb (fun k7 => (lb (fun k8 => (lr 35 3 [1, 1, 1, 1, 1, 1, 0] 1 15 [(2, (.bool (decide (x0_3 ≤ 1000000))))] (sl Ue 101 [] ⟨[], [], [some [2]], []⟩ ⟨[], [], []⟩ (trs 25 []) (tt k8 (tt k7 (tt k6 (tt k5 (tt k4 (tt k3 (tt k2 (tt k1 (tt k0 nn)))))))))))) (fun k8 => (lr 35 3 [1, 1, 1, 1, 1, 1, 0] 1 15 [(2, (.bool false))] (sl Ue 101 [] ⟨[], [], [some [2]], []⟩ ⟨[], [], []⟩ (trs 23 [false, false]) (tt k8 (tt k7 (tt k6 (tt k5 (tt k4 (tt k3 (tt k2 (tt k1 (tt k0 nn)))))))))))))) (fun k7 => (lr 35 3 [1, 1, 1, 1, 1, 1, 0] 1 15 [(2, (.bool false))] (sl Ue 86 [] ⟨[], [], [some [2]], []⟩ ⟨[], [], []⟩ (trs 20 [false, false, false]) (tt k7 (tt k6 (tt k5 (tt k4 (tt k3 (tt k2 (tt k1 (tt k0 nn))))))))))))) (fun k6 => (lr 35 3 [1, 1, 1, 1, 1, 1, 0] 1 15 [(2, (.bool false))] (sl Ue 86 [] ⟨[], [], [some [2]], []⟩ ⟨[], [], []⟩ (trs 18 [false, false, false, false, false]) (tt k6 (tt k5 (tt k4 (tt k3 (tt k2 (tt k1 (tt k0 nn)))))))))))) (fun k5 => (lr 35 3 [1, 1, 1, 1, 1, 1, 0] 1 15 [(2, (.bool false))] (sl Ue 71 [] ⟨[], [], [some [2]], []⟩ ⟨[], [], []⟩ (trs 15 [false, false, false, false, false, false]) (tt k5 (tt k4 (tt k3 (tt k2 (tt k1 (tt k0 nn))))))))))) (fun k4 => (lr 35 3 [1, 1, 1, 1, 1, 1, 0] 1 15 [(2, (.bool false))] (sl Ue 71 [] ⟨[], [], [some [2]], []⟩ ⟨[], [], []⟩ (trs 13 [false, false, false, false, false, false, false, false]) (tt k4 (tt k3 (tt k2 (tt k1 (tt k0 nn)))))))))) (fun k3 => (lr 35 3 [1, 1, 1, 1, 1, 1, 0] 1 15 [(2, (.bool false))] (sl Ue 56 [] ⟨[], [], [some [2]], []⟩ ⟨[], [], []⟩ (trs 10 [false, false, false, false, false, false, false, false, false]) (tt k3 (tt k2 (tt k1 (tt k0 nn))))))))) (fun k2 => (lr 35 3 [1, 1, 1, 1, 1, 1, 0] 1 15 [(2, (.bool false))] (sl Ue 56 [] ⟨[], [], [some [2]], []⟩ ⟨[], [], []⟩ (trs 8 [false, false, false, false, false, false, false, false, false, false, false]) (tt k2 (tt k1 (tt k0 nn)))))))) (fun k1 => (lr 35 3 [1, 1, 1, 1, 1, 1, 0] 1 15 [(2, (.bool false))] (sl Ue 41 [] ⟨[], [], [some [2]], []⟩ ⟨[], [], []⟩ (trs 5 [false, false, false, false, false, false, false, false, false, false, false, false]) (tt k1 (tt k0 nn))))))) (fun k0 => (lr 35 3 [1, 1, 1, 1, 1, 1, 0] 1 15 [(2, (.bool false))] (sl Ue 41 [] ⟨[], [], [some [2]], []⟩ ⟨[], [], []⟩ [false, false, false, false, false, false, false, false, false, false, false, false, false, false, false, false, false] (tt k0 nn)))))
theorem w3b (x0_0 : Int) (x0_1 : Int) (x0_2 : Int) (x0_3 : Int) (n : Nat) (vs : List AVal) (h : Yw (y7s x0_0 x0_1 x0_2 x0_3) n (z7p x0_0 x0_1 x0_2 x0_3) = .ret vs) : Jd Tryz.prog (Zy Tryz.prog 153) (Zh Tryz.prog 153 [(.agg [(.int .i64 x0_0), (.int .i64 x0_1), (.int .i64 x0_2), (.int .i64 x0_3)])] true []) vs := by
 have := Zn (x3r x0_0 x0_1 x0_2 x0_3) n _ (y7t x0_0 x0_1 x0_2 x0_3)
 rwa [h] at this
inductive madS where
 | h0 (v16 : Int) (v_2_0 : List Int)
 | h1 (v4 : Int) (v_1_0 : List R4) (v_1_1 : List R2) (v_1_2 : Int) (v_1_3 : Int) (v_2_0_000 : Nat) (v09_3 : List Int)
 | h2 (v4 : Int) (v38 : Int) (v_1_0 : List R4) (v_1_1 : List R2) (v_1_2 : Int) (v_1_3 : Int) (v_2_0_000 : Nat) (v09_3 : List Int) (v_6_0 : Int) (v_6_1 : Int) (v_7_0 : List R2)
 | h3 (v1 : Int) (v2 : Int) (v71 : List R2) (v72 : Int) (v73 : Int) (v000_24 : List R2) (v001_4 : Int) (v_0_0 : List R4) (v_0_1 : List R2) (v_0_2 : Int) (v_2_0_000 : Nat) (v09_3 : List Int) (v_6_0 : List R2)
 | h4 (v2 : Int) (v8 : Int) (v000_21 : Int) (v000_24 : List R2) (v001_4 : Int) (v_0_0 : List R4) (v_0_1 : List R2) (v_0_2 : Int) (v_0_3 : Int) (v_3_0_000 : Nat) (v09_4 : List Int) (v_7_0 : List R2)
def madC (l0 : List R4) : madS → Cfg
 | .h0 v16 v_2_0 => ⟨⟨34, 0, true⟩, none, (Za Tryz.prog 173 [1, 1, 0, 1, 0, 0, 1, 1, 0, 0, 1, 1, 0, 0] 0), none, (Zy Tryz.prog 15), ⟨Yp [(1, (.ptr 0 0)), (3, (.ptr 2 0)), (8, (.sl 1 0 1 (.un 1))), (9, (ii 1)), (10, (ii 0)), (14, (.dat l0.length (Zz l0))), (15, (ii (l0.length : Int))), (16, (ii v16))], Ve [⟨[(.sl 1 0 1 (.un 1))], 173, none⟩, ⟨[(.dat l0.length (Zz l0))], 105, none⟩, ⟨[(.sla 4 1 0 v_2_0.length (.un 1))], 47, none⟩, ⟨[.nils, .nils, (ii 0), (ii 0)], 188, none⟩, ⟨rows v_2_0.length (Zz v_2_0), 3, some ⟨1, v_2_0.length, (Zz v_2_0)⟩⟩] 0, 5, [], true⟩, [⟨⟨29, 0, true⟩, (Vj Tryz.prog 154 [1, 1, 0, 0] 2), (Za Tryz.prog 154 [1, 1, 0, 0] 1), none, (Zy Tryz.prog 77), Yp [(2, .nils), (3, (ii 0)), (4, (.ptr 3 0)), (9, (.sl 1 0 1 (.un 1)))]⟩], .leaf⟩
 | .h1 v4 v_1_0 v_1_1 v_1_2 v_1_3 v_2_0_000 v09_3 => ⟨⟨76, 0, true⟩, none, (Za Tryz.prog 186 [1, 0, 0] 0), none, [], ⟨Yp [(0, (.yld 0)), (1, (.ptr 2 0)), (2, (.ptr 4 0)), (4, (ii v4))], z4o [(1, ⟨[(.sla 6 4 0 v_1_0.length (.un 4)), (.dat v_1_1.length (Zz v_1_1)), (ii v_1_2), (ii v_1_3)], 188, none⟩), (2, ⟨[(.sla 3 1 0 v_2_0_000 (.un 1))], 47, none⟩), (3, ⟨rows v09_3.length (Zz v09_3), 3, some ⟨1, v09_3.length, (Zz v09_3)⟩⟩), (4, ⟨[(.sl 5 0 1 (.un 1))], 173, none⟩), (5, ⟨[(.dat l0.length (Zz l0))], 105, none⟩), (6, ⟨rows v_1_0.length (Zz v_1_0), 114, some ⟨4, v_1_0.length, (Zz v_1_0)⟩⟩)], 7, [], true⟩, [⟨⟨29, 0, true⟩, none, (.inRangeFunc 0 :: (Za Tryz.prog 154 [1, 1, 0, 1, 0] 1)), none, (Zy Tryz.prog 77), Yp [(2, .nils), (3, (ii 0)), (4, (.ptr 1 0))]⟩], (z4q [(0, ⟨.ready, none, 29, Yp [(4, (.ptr 1 0))], [11], (Xe Tryz.prog 154 [1, 1, 0, 1, 0, 0]), (Xe Tryz.prog 154 [1, 1, 0, 1, 0, 1])⟩)])⟩
 | .h2 v4 v38 v_1_0 v_1_1 v_1_2 v_1_3 v_2_0_000 v09_3 v_6_0 v_6_1 v_7_0 => ⟨⟨76, 0, true⟩, none, (Za Tryz.prog 186 [1, 0, 0, 1, 0, 0, 1, 0, 1, 0, 0, 1, 1, 0, 0, 1, 1, 0, 0] 0), none, [], ⟨Yp [(0, (.yld 0)), (1, (.ptr 2 0)), (2, (.ptr 4 0)), (4, (ii v4)), (5, (.ptr 6 0)), (6, (ii 0)), (29, (.sl 5 0 1 (.un 1))), (30, (ii 1)), (31, (ii 0)), (36, (.dat l0.length (Zz l0))), (37, (ii (l0.length : Int))), (38, (ii v38))], z4o [(1, ⟨[(.sla 9 4 0 v_1_0.length (.un 4)), (.dat v_1_1.length (Zz v_1_1)), (ii v_1_2), (ii v_1_3)], 188, none⟩), (2, ⟨[(.sla 3 1 0 v_2_0_000 (.un 1))], 47, none⟩), (3, ⟨rows v09_3.length (Zz v09_3), 3, some ⟨1, v09_3.length, (Zz v09_3)⟩⟩), (4, ⟨[(.sl 5 0 1 (.un 1))], 173, none⟩), (5, ⟨[(.dat l0.length (Zz l0))], 105, none⟩), (6, ⟨[(ii v_6_0), (ii v_6_1), (.sl 7 0 1 (.ex 1))], 193, none⟩), (7, ⟨[(.sla 8 2 0 v_7_0.length (.un 2))], 158, none⟩), (8, ⟨rows v_7_0.length (Zz v_7_0), 110, some ⟨2, v_7_0.length, (Zz v_7_0)⟩⟩), (9, ⟨rows v_1_0.length (Zz v_1_0), 114, some ⟨4, v_1_0.length, (Zz v_1_0)⟩⟩)], 10, [], true⟩, [⟨⟨29, 0, true⟩, none, (.inRangeFunc 0 :: (Za Tryz.prog 154 [1, 1, 0, 1, 0] 1)), none, (Zy Tryz.prog 77), Yp [(2, .nils), (3, (ii 0)), (4, (.ptr 1 0))]⟩], (z4q [(0, ⟨.ready, none, 29, Yp [(4, (.ptr 1 0))], [11], (Xe Tryz.prog 154 [1, 1, 0, 1, 0, 0]), (Xe Tryz.prog 154 [1, 1, 0, 1, 0, 1])⟩)])⟩
 | .h3 v1 v2 v71 v72 v73 v000_24 v001_4 v_0_0 v_0_1 v_0_2 v_2_0_000 v09_3 v_6_0 => ⟨⟨94, 0, true⟩, none, (Za Tryz.prog 146 [1, 1, 1, 0, 0] 0), none, [], ⟨Yp [(0, (.ptr 0 0)), (1, (ii v1)), (2, (ii v2)), (71, (.dat v71.length (Zz v71))), (72, (ii v72)), (73, (ii v73))], z4o [(0, ⟨[(.sla 7 4 0 v_0_0.length (.un 4)), (.dat v_0_1.length (Zz v_0_1)), (ii v_0_2), (ii v2)], 188, none⟩), (2, ⟨[(.sla 3 1 0 v_2_0_000 (.un 1))], 47, none⟩), (3, ⟨rows v09_3.length (Zz v09_3), 3, some ⟨1, v09_3.length, (Zz v09_3)⟩⟩), (4, ⟨[(.sl 5 0 1 (.un 1))], 173, none⟩), (5, ⟨[(.dat l0.length (Zz l0))], 105, none⟩), (6, ⟨[(.dat v_6_0.length (Zz v_6_0))], 158, none⟩), (7, ⟨rows v_0_0.length (Zz v_0_0), 114, some ⟨4, v_0_0.length, (Zz v_0_0)⟩⟩)], 8, [], true⟩, [⟨⟨29, 0, true⟩, (Vj Tryz.prog 154 [1, 1, 0, 1, 0, 1, 0, 1] 5), (Za Tryz.prog 154 [1, 1, 0, 1, 0, 1, 0, 1] 1), (some 1), [], Yp [(4, (.ptr 0 0)), (21, (ii v1)), (23, (ii v2)), (24, (.dat v000_24.length (Zz v000_24)))]⟩, ⟨⟨76, 0, true⟩, (Vj Tryz.prog 186 [1, 0, 0, 1, 0, 0, 1, 1, 0] 2), (Za Tryz.prog 186 [1, 0, 0, 1, 0, 0, 1, 1, 0] 1), none, [], Yp [(0, (.yld 1)), (1, (.ptr 2 0)), (2, (.ptr 4 0)), (4, (ii v001_4)), (72, (.yld 1)), (73, (.agg [(ii v1), (ii v2), (.sl 6 0 1 (.ex 1))]))]⟩, ⟨⟨29, 0, true⟩, none, (.inRangeFunc 1 :: (Za Tryz.prog 154 [1, 1, 0, 1, 0] 1)), none, (Zy Tryz.prog 77), Yp [(2, .nils), (3, (ii 0)), (4, (.ptr 0 0))]⟩], (z4q [(1, ⟨.busy, none, 29, Yp [(4, (.ptr 0 0))], [11], (Xe Tryz.prog 154 [1, 1, 0, 1, 0, 0]), (Xe Tryz.prog 154 [1, 1, 0, 1, 0, 1])⟩)])⟩
 | .h4 v2 v8 v000_21 v000_24 v001_4 v_0_0 v_0_1 v_0_2 v_0_3 v_3_0_000 v09_4 v_7_0 => ⟨⟨94, 0, true⟩, none, (Za Tryz.prog 146 [0, 1, 0, 0, 1, 0, 0] 0), none, [], ⟨Yp [(0, (.ptr 0 0)), (2, (ii v2)), (8, (ii v8))], z4o [(0, ⟨[(.sla 1 4 0 v_0_0.length (.un 4)), (.dat v_0_1.length (Zz v_0_1)), (ii v_0_2), (ii v_0_3)], 188, none⟩), (1, ⟨rows v_0_0.length (Zz v_0_0), 114, some ⟨4, v_0_0.length, (Zz v_0_0)⟩⟩), (3, ⟨[(.sla 4 1 0 v_3_0_000 (.un 1))], 47, none⟩), (4, ⟨rows v09_4.length (Zz v09_4), 3, some ⟨1, v09_4.length, (Zz v09_4)⟩⟩), (5, ⟨[(.sl 6 0 1 (.un 1))], 173, none⟩), (6, ⟨[(.dat l0.length (Zz l0))], 105, none⟩), (7, ⟨[(.dat v_7_0.length (Zz v_7_0))], 158, none⟩)], 8, [], true⟩, [⟨⟨29, 0, true⟩, (Vj Tryz.prog 154 [1, 1, 0, 1, 0, 1, 0, 1] 5), (Za Tryz.prog 154 [1, 1, 0, 1, 0, 1, 0, 1] 1), (some 2), [], Yp [(4, (.ptr 0 0)), (21, (ii v000_21)), (23, (ii v2)), (24, (.dat v000_24.length (Zz v000_24)))]⟩, ⟨⟨76, 0, true⟩, (Vj Tryz.prog 186 [1, 0, 0, 1, 0, 0, 1, 1, 0] 2), (Za Tryz.prog 186 [1, 0, 0, 1, 0, 0, 1, 1, 0] 1), none, [], Yp [(0, (.yld 2)), (1, (.ptr 3 0)), (2, (.ptr 5 0)), (4, (ii v001_4)), (72, (.yld 2)), (73, (.agg [(ii v000_21), (ii v2), (.sl 7 0 1 (.ex 1))]))]⟩, ⟨⟨29, 0, true⟩, none, (.inRangeFunc 2 :: (Za Tryz.prog 154 [1, 1, 0, 1, 0] 1)), none, (Zy Tryz.prog 77), Yp [(2, .nils), (3, (ii 0)), (4, (.ptr 0 0))]⟩], (z4q [(2, ⟨.busy, none, 29, Yp [(4, (.ptr 0 0))], [11], (Xe Tryz.prog 154 [1, 1, 0, 1, 0, 0]), (Xe Tryz.prog 154 [1, 1, 0, 1, 0, 1])⟩)])⟩
def madN0 : List (Option (List Nat)) := [some [1, 3, 8, 9, 10, 14, 15, 16], some [2, 3, 4, 9]]
def madM0 : List (Option (List Nat)) := []
def v4l : List (Option (List Nat)) := [some [0, 1, 2, 4], some [2, 3, 4]]
def v4m : List (Option (List Nat)) := [some [4], none, none, none, none, none, none]
def w5i : List (Option (List Nat)) := [some [0, 1, 2, 4, 5, 6, 29, 30, 31, 36, 37, 38], some [2, 3, 4]]
def w5k : List (Option (List Nat)) := [some [4], none, none, none, none, none, none, none, none, none]
def w5h : List (Option (List Nat)) := [some [0, 1, 2, 71, 72, 73], some [4, 21, 23, 24], some [0, 1, 2, 4, 72, 73], some [2, 3, 4]]
def w5j : List (Option (List Nat)) := [none, some [4], none, none, none, none, none, none]
def madN4 : List (Option (List Nat)) := [some [0, 2, 8], some [4, 21, 23, 24], some [0, 1, 2, 4, 72, 73], some [2, 3, 4]]
def madM4 : List (Option (List Nat)) := [none, none, some [4], none, none, none, none, none]
def Xm (l0 : List R4) : madS → Xc madS
 | .h0 v16 v_2_0 => (bif (decide (v16 < (l0.length : Int))) then (bif ((decide (0 ≤ v16 ∧ v16 < (l0.length : Int))) && true) then (bif (Nat.beq 1 1 && ((decide (0 + v_2_0.length = v_2_0.length)) && decide ((v_2_0.length + 2 + 1) * (8 + 1) ≤ Jv))) then (.to (.h0 (IntKind.wrap .i64 (v16 + 1)) (v_2_0 ++ [(rd l0 v16.toNat).a, (rd l0 v16.toNat).c]))) else .stuck) else .stuck) else (bif (decide (v_2_0.length < 4611686018427387904)) then (bif (decide (v_2_0.length = v_2_0.length)) then (.to (.h1 1 ([] : List R4) ([] : List R2) 0 0 (w8c (Zm v_2_0.length (cOf (Zz (Yh (Zm v_2_0.length (cOf (Zz v_2_0)))))))) (Xx (Zm v_2_0.length (cOf (Zz (Yh (Zm v_2_0.length (cOf (Zz v_2_0)))))))))) else .stuck) else .stuck))
 | .h1 v4 v_1_0 v_1_1 v_1_2 v_1_3 v_2_0_000 v09_3 => (bif (decide (v4 < ((v_2_0_000 : Nat) : Int))) then (bif ((decide (0 ≤ (IntKind.wrap .i64 (v4 - 1)) ∧ (IntKind.wrap .i64 (v4 - 1)) < ((v_2_0_000 : Nat) : Int))) && true) then (bif (decide ((0 + (Int.toNat (IntKind.wrap .i64 (v4 - 1)))) < v09_3.length)) then (bif ((decide (0 ≤ v4 ∧ v4 < ((v_2_0_000 : Nat) : Int))) && true) then (bif (decide ((0 + v4.toNat) < v09_3.length)) then (.to (.h2 v4 0 v_1_0 v_1_1 v_1_2 v_1_3 v_2_0_000 v09_3 (rd v09_3 (0 + (Int.toNat (IntKind.wrap .i64 (v4 - 1))))) (rd v09_3 (0 + v4.toNat)) ([] : List R2))) else .stuck) else .stuck) else .stuck) else .stuck) else (bif (decide ((v_1_0.length : Int) > 400)) then (.ret [.nils, (.int .i64 4)]) else (.ret [(.dat v_1_0.length (Zz v_1_0)), (.int .i64 0)])))
 | .h2 v4 v38 v_1_0 v_1_1 v_1_2 v_1_3 v_2_0_000 v09_3 v_6_0 v_6_1 v_7_0 => (bif (decide (v38 < (l0.length : Int))) then (bif ((decide (0 ≤ v38 ∧ v38 < (l0.length : Int))) && true) then (bif (decide ((rd l0 v38.toNat).a ≤ v_6_0)) then (bif (decide (v_6_0 < (rd l0 v38.toNat).c)) then (bif (Nat.beq 2 2 && ((decide (0 + v_7_0.length = v_7_0.length)) && decide ((v_7_0.length + 1 + 1) * (16 + 1) ≤ Jv))) then (.to (.h2 v4 (IntKind.wrap .i64 (v38 + 1)) v_1_0 v_1_1 v_1_2 v_1_3 v_2_0_000 v09_3 v_6_0 v_6_1 (v_7_0 ++ [(R2.mk (rd l0 v38.toNat).b (rd l0 v38.toNat).d)]))) else .stuck) else (.to (.h2 v4 (IntKind.wrap .i64 (v38 + 1)) v_1_0 v_1_1 v_1_2 v_1_3 v_2_0_000 v09_3 v_6_0 v_6_1 v_7_0))) else (.to (.h2 v4 (IntKind.wrap .i64 (v38 + 1)) v_1_0 v_1_1 v_1_2 v_1_3 v_2_0_000 v09_3 v_6_0 v_6_1 v_7_0))) else .stuck) else (bif (z8z (cvT v_7_0)) then (bif (decide ((((Xp (cvT v_7_0)).length : Nat) : Int) > 0)) then (bif (v_1_3 == v_6_0) then (bif (Wo (cvT v_1_1) (cvT (Xp (cvT v_7_0)))) then (bif (Jq (cvT v_1_1) (cvT (Xp (cvT v_7_0)))) then (.to (.h4 v_6_1 v_1_2 v_6_0 (Xp (cvT v_7_0)) v4 v_1_0 v_1_1 v_1_2 v_1_3 v_2_0_000 v09_3 v_7_0)) else (.to (.h3 v_6_0 v_6_1 (Xp (cvT v_7_0)) (((Xp (cvT v_7_0)).length : Nat) : Int) 0 (Xp (cvT v_7_0)) v4 v_1_0 (Xp (cvT v_7_0)) (v_1_0.length : Int) v_2_0_000 v09_3 v_7_0))) else .stuck) else (.to (.h3 v_6_0 v_6_1 (Xp (cvT v_7_0)) (((Xp (cvT v_7_0)).length : Nat) : Int) 0 (Xp (cvT v_7_0)) v4 v_1_0 (Xp (cvT v_7_0)) (v_1_0.length : Int) v_2_0_000 v09_3 v_7_0))) else (.to (.h3 v_6_0 v_6_1 (Xp (cvT v_7_0)) (((Xp (cvT v_7_0)).length : Nat) : Int) 0 (Xp (cvT v_7_0)) v4 v_1_0 (Xp (cvT v_7_0)) (v_1_0.length : Int) v_2_0_000 v09_3 v_7_0))) else .stuck))
 | .h3 v1 v2 v71 v72 v73 v000_24 v001_4 v_0_0 v_0_1 v_0_2 v_2_0_000 v09_3 v_6_0 => (bif (decide (v73 < v72)) then (bif ((decide (0 ≤ v73 ∧ v73 < (v71.length : Int))) && true) then (bif (Nat.beq 4 4 && ((decide (0 + v_0_0.length = v_0_0.length)) && decide ((v_0_0.length + 1 + 1) * (32 + 1) ≤ Jv))) then (.to (.h3 v1 v2 v71 v72 (IntKind.wrap .i64 (v73 + 1)) v000_24 v001_4 (v_0_0 ++ [(R4.mk v1 (rd v71 v73.toNat).a v2 (rd v71 v73.toNat).b)]) v_0_1 v_0_2 v_2_0_000 v09_3 v_6_0)) else .stuck) else .stuck) else (.to (.h1 (IntKind.wrap .i64 (v001_4 + 1)) v_0_0 v_0_1 v_0_2 v2 v_2_0_000 v09_3)))
 | .h4 v2 v8 v000_21 v000_24 v001_4 v_0_0 v_0_1 v_0_2 v_0_3 v_3_0_000 v09_4 v_7_0 => (bif (decide (v8 < (v_0_0.length : Int))) then (bif ((decide (0 ≤ v8 ∧ v8 < (v_0_0.length : Int))) && true) then (bif (decide ((0 + v8.toNat) < v_0_0.length)) then (.to (.h4 v2 (IntKind.wrap .i64 (v8 + 1)) v000_21 v000_24 v001_4 (v_0_0.set (0 + v8.toNat) (R4.mk (rd v_0_0 (0 + v8.toNat)).a (rd v_0_0 (0 + v8.toNat)).b v2 (rd v_0_0 (0 + v8.toNat)).d)) v_0_1 v_0_2 v_0_3 v_3_0_000 v09_4 v_7_0)) else .stuck) else .stuck) else (.to (.h1 (IntKind.wrap .i64 (v001_4 + 1)) v_0_0 v_0_1 v_0_2 v2 v_3_0_000 v09_4)))
def y3m (l0 : List R4) : Xc madS := (.to (.h0 0 ([] : List Int)))
theorem x5b (l0 : List R4) : ∀ s, Wy Tryz.prog (Zy Tryz.prog 154) (madC l0) (madC l0 s) (Xm l0 s)
 | .h0 v16 v_2_0 => (lb (fun k0 => (lo fun o0 => (lo fun o1 => (sl Ue 32 [] ⟨[0, 1, 2, 3, 7], [], madN0, madM0⟩ ⟨[], [.keep, .keep, .cells [.len (v_2_0 ++ [(rd l0 (tn v16)).a, (rd l0 (tn v16)).c]).length], .keep, .rowed 1 (v_2_0 ++ [(rd l0 (tn v16)).a, (rd l0 (tn v16)).c]).length (Zz (v_2_0 ++ [(rd l0 (tn v16)).a, (rd l0 (tn v16)).c]))], []⟩ [true] (pp (xL (v_2_0.length + 2) (v_2_0 ++ [(rd l0 (tn v16)).a, (rd l0 (tn v16)).c]).length) (pp (xL (v_2_0.length + 2) (v_2_0 ++ [(rd l0 (tn v16)).a, (rd l0 (tn v16)).c]).length) (pp (xS (v_2_0.length + 2) (Zd (Zz v_2_0) 0 v_2_0.length 1 [(ii (rd l0 (tn v16)).a), (ii (rd l0 (tn v16)).c)]) (Zz (v_2_0 ++ [(rd l0 (tn v16)).a, (rd l0 (tn v16)).c]))) (pp (pp (xF (Zd (Zz v_2_0) 0 v_2_0.length 1 [(ii (rd l0 (tn v16)).a), (ii (rd l0 (tn v16)).c)])) nn) (ww o1 (ww o0 (tt k0 nn))))))))))) (fun k0 => (lo fun o0 => (lo fun o1 => (sl Ue 46 [(114, 4, Zz ([] : List R4))] ⟨[5, 3, 2, 4, 0, 1, 6], [], v4l, v4m⟩ ⟨[], [.keep, .cells [.grow 6 4, .list 0 (Zz ([] : List R2)), .keep, .keep], .keep, .rowed 1 (Xx (Zm v_2_0.length (cOf (Zz (Yh (Zm v_2_0.length (cOf (Zz v_2_0)))))))).length (Zz (Xx (Zm v_2_0.length (cOf (Zz (Yh (Zm v_2_0.length (cOf (Zz v_2_0))))))))), .keep, .keep, .keep], []⟩ [false, false] (pp (xL v_2_0.length (Xx (Zm v_2_0.length (cOf (Zz (Yh (Zm v_2_0.length (cOf (Zz v_2_0)))))))).length (by first | exact Qs _ _ | exact Vn rfl)) (pp (xS v_2_0.length (Zz (Xx (Zm v_2_0.length (cOf (Zz (Yh (Zm v_2_0.length (cOf (Zz v_2_0))))))))) (Zz (Xx (Zm v_2_0.length (cOf (Zz (Yh (Zm v_2_0.length (cOf (Zz v_2_0)))))))))) (pp (fl (Xx (Zm v_2_0.length (cOf (Zz (Yh (Zm v_2_0.length (cOf (Zz v_2_0)))))))) (fl ([] : List R4) nn)) (pp (pp (xG (Nat.beq 1 1)) (pp (xG (Nat.beq 1 1)) (pp (xG (Nat.beq 0 0)) (pp (xG (decide (v_2_0.length = v_2_0.length))) (pp (xG (isI (Zz (Yh (Zm v_2_0.length (cOf (Zz v_2_0))))))) (xG (decide (v_2_0.length < 4611686018427387904)))))))) (pp (pp (xG (Nat.beq 1 1)) (pp (xG (Nat.beq 1 1)) (pp (xG (Nat.beq 0 0)) (pp (xG (decide (v_2_0.length = v_2_0.length))) (pp (xG (isI (Zz v_2_0))) (xG (decide (v_2_0.length < 4611686018427387904)))))))) (tt k0 nn)))))))))))
 | .h1 v4 v_1_0 v_1_1 v_1_2 v_1_3 v_2_0_000 v09_3 => (lb (fun k0 => (lo fun o0 => (lo fun o1 => (lo fun o2 => (lo fun o3 => (sl Ue 48 [(110, 2, Zz ([] : List R2))] ⟨[0, 1, 2, 3, 4, 5, 7, 8, 9, 6], [], w5i, w5k⟩ ⟨[], (kpB 7 [.cells [.grow 8 2], .keep, .keep]), []⟩ (trs 3 []) (pp (fl v09_3 (fl ([] : List R2) (fl v_1_0 nn))) (ww o3 (ww o2 (ww o1 (ww o0 (tt k0 nn)))))))))))) (fun k0 => (lb (fun k1 => (lr 29 3 [1, 1, 1, 1, 1, 1, 0] 1 77 [(2, .nils), (3, (ii 4))] (sl Ue 43 [] ⟨[], [], [some [2, 3]], []⟩ ⟨[], [], []⟩ [false, true] (tt k1 (tt k0 nn))))) (fun k1 => (lr 29 3 [1, 1, 1, 1, 1, 1, 0] 1 77 [(2, (.dat v_1_0.length (Zz v_1_0))), (3, (ii 0))] (sl Ue 48 [] ⟨[], [6], [some [2, 3]], []⟩ ⟨[(2, .frz v_1_0.length v_1_0.length (Zz v_1_0) (Zz v_1_0))], [], []⟩ [false, false] (pp (xZ (z4u 4 4 0 v_1_0.length v_1_0.length (Zz v_1_0)) v_1_0.length (Zz v_1_0)) (pp (xL v_1_0.length v_1_0.length) (pp (xS v_1_0.length (Zz v_1_0) (Zz v_1_0)) (pp (fl v_1_0 nn) (tt k1 (tt k0 nn))))))))))))
 | .h2 v4 v38 v_1_0 v_1_1 v_1_2 v_1_3 v_2_0_000 v09_3 v_6_0 v_6_1 v_7_0 => (lb (fun k0 => (lo fun o1_0 => (lb (fun k1 => (lb (fun k2 => (lo fun o0 => (sl Ue 39 [] ⟨[0, 1, 2, 3, 4, 5, 6, 7, 12, 9], [], w5i, w5k⟩ ⟨[], (kpB 7 [.cells [.len (v_7_0 ++ [(R2.mk (rd l0 (tn v38)).b (rd l0 (tn v38)).d)]).length], .rowed 2 (v_7_0 ++ [(R2.mk (rd l0 (tn v38)).b (rd l0 (tn v38)).d)]).length (Zz (v_7_0 ++ [(R2.mk (rd l0 (tn v38)).b (rd l0 (tn v38)).d)])), .keep]), []⟩ (trs 7 []) (pp (xL (v_7_0.length + 1) (v_7_0 ++ [(R2.mk (rd l0 (tn v38)).b (rd l0 (tn v38)).d)]).length) (pp (xL (v_7_0.length + 1) (v_7_0 ++ [(R2.mk (rd l0 (tn v38)).b (rd l0 (tn v38)).d)]).length) (pp (xS (v_7_0.length + 1) (Zd (Zz v_7_0) 0 v_7_0.length 2 [(ii (rd l0 (tn v38)).b), (ii (rd l0 (tn v38)).d)]) (Zz (v_7_0 ++ [(R2.mk (rd l0 (tn v38)).b (rd l0 (tn v38)).d)]))) (pp (fl v09_3 (pp (xF (Zd (Zz v_7_0) 0 v_7_0.length 2 [(ii (rd l0 (tn v38)).b), (ii (rd l0 (tn v38)).d)])) (fl v_1_0 nn))) (ww o0 (tt k2 (tt k1 (ww o1_0 (tt k0 nn)))))))))))) (fun k2 => (sl Ue 39 [] ⟨(List.range 10), [], w5i, w5k⟩ ⟨[], [], []⟩ (trs 6 [false]) (pp (fl v09_3 (fl v_7_0 (fl v_1_0 nn))) (tt k2 (tt k1 (ww o1_0 (tt k0 nn))))))))) (fun k1 => (sl Ue 39 [] ⟨(List.range 10), [], w5i, w5k⟩ ⟨[], [], []⟩ [true, false, false, false, false, false, false] (pp (fl v09_3 (fl v_7_0 (fl v_1_0 nn))) (tt k1 (ww o1_0 (tt k0 nn))))))))) (fun k0 => (Wm (sl Ue (C' := ⟨⟨29, 0, true⟩, (Vj Tryz.prog 154 [1, 1, 0, 1, 0, 1, 0, 0] 4), (Za Tryz.prog 154 [1, 1, 0, 1, 0, 1, 0, 0] 1), (some 0), [], ⟨Yp [(4, (.ptr 1 0)), (5, (.ptr 3 0)), (16, (.dat v_7_0.length (Zz v_7_0)))], z4o [(1, ⟨[(.sla 2 4 0 v_1_0.length (.un 4)), (.dat v_1_1.length (Zz v_1_1)), (ii v_1_2), (ii v_1_3)], 188, none⟩), (2, ⟨rows v_1_0.length (Zz v_1_0), 114, some ⟨4, v_1_0.length, (Zz v_1_0)⟩⟩), (3, ⟨[(ii v_6_0), (ii v_6_1), (.sl 4 0 1 (.ex 1))], 193, none⟩), (4, ⟨[(.dat v_7_0.length (Zz v_7_0))], 158, none⟩), (5, ⟨[(.sla 6 1 0 v_2_0_000 (.un 1))], 47, none⟩), (6, ⟨rows v09_3.length (Zz v09_3), 3, some ⟨1, v09_3.length, (Zz v09_3)⟩⟩), (7, ⟨[(.sl 8 0 1 (.un 1))], 173, none⟩), (8, ⟨[(.dat l0.length (Zz l0))], 105, none⟩)], 9, [], true⟩, [⟨⟨76, 0, true⟩, (Vj Tryz.prog 186 [1, 0, 0, 1, 0, 0, 1, 1, 0] 2), (Za Tryz.prog 186 [1, 0, 0, 1, 0, 0, 1, 1, 0] 1), none, [], Yp [(0, (.yld 0)), (1, (.ptr 5 0)), (2, (.ptr 7 0)), (4, (ii v4)), (72, (.yld 0)), (73, (.agg [(ii v_6_0), (ii v_6_1), (.sl 4 0 1 (.ex 1))]))]⟩, ⟨⟨29, 0, true⟩, none, (.inRangeFunc 0 :: (Za Tryz.prog 154 [1, 1, 0, 1, 0] 1)), none, (Zy Tryz.prog 77), Yp [(2, .nils), (3, (ii 0)), (4, (.ptr 1 0))]⟩], (z4q [(0, ⟨.busy, none, 29, Yp [(4, (.ptr 1 0))], [11], (Xe Tryz.prog 154 [1, 1, 0, 1, 0, 0]), (Xe Tryz.prog 154 [1, 1, 0, 1, 0, 1])⟩)])⟩) 37 [] ⟨[0, 1, 9, 10, 7, 2, 3, 4, 5], [8], [some [4, 5, 16], some [0, 1, 2, 4, 72, 73], some [2, 3, 4]], [some [4], none, none, none, none, none, none, none, none]⟩ ⟨[(16, .frz v_7_0.length v_7_0.length (Zz v_7_0) (Zz v_7_0))], [.keep, .keep, .keep, .keep, .cells [.frz v_7_0.length v_7_0.length (Zz v_7_0) (Zz v_7_0)], .keep, .keep, .keep, .keep], []⟩ [false, false] (pp (xZ (z4u 2 2 0 v_7_0.length v_7_0.length (Zz v_7_0)) v_7_0.length (Zz v_7_0)) (pp (xL v_7_0.length v_7_0.length) (pp (xS v_7_0.length (Zz v_7_0) (Zz v_7_0)) (pp (xZ (z4u 2 2 0 v_7_0.length v_7_0.length (Zz v_7_0)) v_7_0.length (Zz v_7_0)) (pp (xL v_7_0.length v_7_0.length) (pp (xS v_7_0.length (Zz v_7_0) (Zz v_7_0)) (pp (fl v_1_0 (fl v09_3 nn)) (pp (fl v_7_0 nn) (tt k0 nn)))))))))) (lo fun o1_0 => (lb (fun k1 => (lb (fun k2 => (lo fun o3_0 => (lb (fun k3 => (sl Ue 49 [] ⟨[1, 2, 0, 5, 6, 7, 8, 4], [], madN4, madM4⟩ ⟨[], [], []⟩ (trs 13 []) (pp (fl v_1_0 (fl v09_3 nn)) (tt k3 (pp (pp (xr v_1_1) (pp (xI R2 (Xp (cvT v_7_0)).length (Zz (Xp (cvT v_7_0)))) (xw o3_0))) (tt k2 (tt k1 (pp (pp (xr v_7_0) (xw o1_0)) nn)))))))) (fun k3 => (sl Ue 69 [] ⟨[1, 0, 5, 6, 7, 8, 4, 2], [], w5h, w5j⟩ ⟨[], [], []⟩ (trs 12 [false]) (pp (fl v09_3 (fl v_1_0 nn)) (tt k3 (pp (pp (xr v_1_1) (pp (xI R2 (Xp (cvT v_7_0)).length (Zz (Xp (cvT v_7_0)))) (xw o3_0))) (tt k2 (tt k1 (pp (pp (xr v_7_0) (xw o1_0)) nn))))))))))) (fun k2 => (sl Ue 69 [] ⟨[1, 0, 5, 6, 7, 8, 4, 2], [], w5h, w5j⟩ ⟨[], [], []⟩ (trs 6 [false, false, false, false, false, false, false]) (pp (fl v09_3 (fl v_1_0 nn)) (tt k2 (tt k1 (pp (pp (xr v_7_0) (xw o1_0)) nn)))))))) (fun k1 => (sl Ue 69 [] ⟨[1, 0, 5, 6, 7, 8, 4, 2], [], w5h, w5j⟩ ⟨[], [], []⟩ [false, false, false, false, false, false, false, false, false, false, false, false, false] (pp (fl v09_3 (fl v_1_0 nn)) (tt k1 (pp (pp (xr v_7_0) (xw o1_0)) nn))))))))))
 | .h3 v1 v2 v71 v72 v73 v000_24 v001_4 v_0_0 v_0_1 v_0_2 v_2_0_000 v09_3 v_6_0 => (lb (fun k0 => (lo fun o0 => (lo fun o1 => (sl Ue 23 [] ⟨[0, 1, 2, 3, 4, 5, 6, 10], [], w5h, w5j⟩ ⟨[], [.cells [.len (v_0_0 ++ [(R4.mk v1 (rd v71 (tn v73)).a v2 (rd v71 (tn v73)).b)]).length, .keep, .keep, .keep], .keep, .keep, .keep, .keep, .keep, .keep, .rowed 4 (v_0_0 ++ [(R4.mk v1 (rd v71 (tn v73)).a v2 (rd v71 (tn v73)).b)]).length (Zz (v_0_0 ++ [(R4.mk v1 (rd v71 (tn v73)).a v2 (rd v71 (tn v73)).b)]))], []⟩ [true] (pp (xL (v_0_0.length + 1) (v_0_0 ++ [(R4.mk v1 (rd v71 (tn v73)).a v2 (rd v71 (tn v73)).b)]).length) (pp (xL (v_0_0.length + 1) (v_0_0 ++ [(R4.mk v1 (rd v71 (tn v73)).a v2 (rd v71 (tn v73)).b)]).length) (pp (xS (v_0_0.length + 1) (Zd (Zz v_0_0) 0 v_0_0.length 4 [(ii v1), (ii (rd v71 (tn v73)).a), (ii v2), (ii (rd v71 (tn v73)).b)]) (Zz (v_0_0 ++ [(R4.mk v1 (rd v71 (tn v73)).a v2 (rd v71 (tn v73)).b)]))) (pp (fl v09_3 (pp (xF (Zd (Zz v_0_0) 0 v_0_0.length 4 [(ii v1), (ii (rd v71 (tn v73)).a), (ii v2), (ii (rd v71 (tn v73)).b)])) nn)) (ww o1 (ww o0 (tt k0 nn))))))))))) (fun k0 => (sl Ue 22 [] ⟨[1, 0, 2, 3, 4, 5, 7], [], v4l, v4m⟩ ⟨[], [], []⟩ [false, false] (pp (fl v09_3 (fl v_0_0 nn)) (tt k0 nn)))))
 | .h4 v2 v8 v000_21 v000_24 v001_4 v_0_0 v_0_1 v_0_2 v_0_3 v_3_0_000 v09_4 v_7_0 => (lb (fun k0 => (lo fun o0 => (lo fun o1 => (sl Ue 33 [] ⟨(List.range 8), [], madN4, madM4⟩ ⟨[], [.cells [.len (v_0_0.set (0 + (tn v8)) (R4.mk (rd v_0_0 (0 + (tn v8))).a (rd v_0_0 (0 + (tn v8))).b v2 (rd v_0_0 (0 + (tn v8))).d)).length, .keep, .keep, .keep], .rowed 4 (v_0_0.set (0 + (tn v8)) (R4.mk (rd v_0_0 (0 + (tn v8))).a (rd v_0_0 (0 + (tn v8))).b v2 (rd v_0_0 (0 + (tn v8))).d)).length (Zz (v_0_0.set (0 + (tn v8)) (R4.mk (rd v_0_0 (0 + (tn v8))).a (rd v_0_0 (0 + (tn v8))).b v2 (rd v_0_0 (0 + (tn v8))).d))), .keep, .keep, .keep, .keep, .keep, .keep], []⟩ [true] (pp (xL v_0_0.length (v_0_0.set (0 + (tn v8)) (R4.mk (rd v_0_0 (0 + (tn v8))).a (rd v_0_0 (0 + (tn v8))).b v2 (rd v_0_0 (0 + (tn v8))).d)).length) (pp (xL v_0_0.length (v_0_0.set (0 + (tn v8)) (R4.mk (rd v_0_0 (0 + (tn v8))).a (rd v_0_0 (0 + (tn v8))).b v2 (rd v_0_0 (0 + (tn v8))).d)).length) (pp (xS v_0_0.length (Xa (Zz v_0_0) (0 + (tn v8)) 2 [(ii v2)]) (Zz (v_0_0.set (0 + (tn v8)) (R4.mk (rd v_0_0 (0 + (tn v8))).a (rd v_0_0 (0 + (tn v8))).b v2 (rd v_0_0 (0 + (tn v8))).d)))) (pp (pp (xF (Xa (Zz v_0_0) (0 + (tn v8)) 2 [(ii v2)])) (fl v09_4 nn)) (ww o1 (ww o0 (tt k0 nn))))))))))) (fun k0 => (sl Ue 36 [] ⟨[2, 0, 3, 4, 5, 6, 1], [], v4l, v4m⟩ ⟨[], [], []⟩ [false, false] (pp (fl v09_4 (fl v_0_0 nn)) (tt k0 nn)))))
theorem y9o (l0 : List R4) : Wy Tryz.prog (Zy Tryz.prog 154) (madC l0) (Zh Tryz.prog 154 [(.dat l0.length (Zz l0))] true []) (y3m l0) := (sl Ue 56 [(3, 1, Zz ([] : List Int))] ⟨[2, 1, 3, 0, 4], [], madN0, madM0⟩ ⟨[], [.keep, .keep, .cells [.grow 4 1], .keep, .keep], []⟩ [true] (pp (fl ([] : List Int) nn) nn))
theorem w5g (l0 : List R4) (n : Nat) (vs : List AVal) (h : Yw (Xm l0) n (y3m l0) = .ret vs) : Jd Tryz.prog (Zy Tryz.prog 154) (Zh Tryz.prog 154 [(.dat l0.length (Zz l0))] true []) vs := by
 have := Zn (x5b l0) n _ (y9o l0)
 rwa [h] at this
end Go.Am
namespace Go.Am
open Go.Proofs Go.Sort Go.Shelf Go.RowKit Go.Lib
theorem x3j {i n : Nat} (h : i < n) : decide ((i : Int) < (n : Int)) = true := decide_eq_true (by omega)
theorem y0a {σ : Type} (step : σ → Xc σ) (a b : Nat) (s : Xc σ) : Yw step (a + b) s = Yw step a (Yw step b s) := by
 induction b generalizing s with
 | zero => cases s <;> simp [Yw]
 | succ b ih => cases s with
  | to s => exact ih (step s)
  | ret vs => simp only [Zg]
  | stuck => cases a <;> cases b <;> rfl
theorem w1r {i : Nat} : decide ((i : Int) ≥ 0) = true := decide_eq_true (by omega)
def z1d {α : Type} [Ys α] (out : List α) : List AVal := bif decide ((out.length : Int) > 400) then [.nils, .int .i64 4] else [.dat out.length (Zz out), .int .i64 0]
def x6s {α : Type} [Ys α] (e : Int) (L : List α) : List AVal := bif e != 0 then [.nils, .int .i64 e] else [.dat L.length (Zz L), .int .i64 0]
def v1k {α : Type} (e : Int) (L : List α) : List α := bif e != 0 then [] else L
theorem y3d {α : Type} [Ys α] (e : Int) (L : List α) (ρ : Rho) (u : Value) (hu : Yy ρ (Km (x6s e L)) u) : Yy ρ (.tup [.dat (v1k e L).length (Zz (v1k e L)), .int .i64 e]) u := by
 unfold x6s at hu
 unfold v1k
 by_cases h : e = 0
 ·subst h; exact hu
 ·have h : (e != 0) = true := by simpa using h
  rw [h] at hu ⊢
  exact z6o (.cons (z1r α) (RLe.refl _)) ρ u hu
theorem y8y {α : Type} [Ys α] (e : Int) (L : List α) : pf 3 (Km (x6s e L)) = true := by
 unfold x6s
 cases (e != 0) <;> rfl
def w2z (n : Nat) : Int := bif decide ((n : Int) > 400) then 4 else 0
theorem y0p {α : Type} [Ys α] (L : List α) : z1d L = x6s (w2z L.length) L := by
 unfold z1d x6s w2z
 cases decide ((L.length : Int) > 400) <;> rfl
theorem x2c {α : Type} [Ys α] {e : Int} (L : List α) (h : (e != 0) = true) : x6s e L = [.nils, .int .i64 e] := by unfold x6s; rw [h]; rfl
theorem y1t : ∀ (L : List R3) (o last : Int) (inn : Bool) (out : List R2), (swF L o last inn out).length ≤ out.length + L.length
 | [], _, _, _, out => Nat.le_refl _
 | e :: r, o, last, inn, out => by
  rw [z7q]
  have := y1t r (o + e.c) e.a (decide (o + e.c > 0)) (Qq out last inn e.a)
  have := z5g out last inn e.a
  simp only [List.length_cons]; omega
theorem y7y (l : List R3) : (z3s l).length = l.length := by
 by_cases h : y4u l = true
 ·exact (Qh l h).1.length_eq
 ·unfold z3s; rw [dif_neg h]
theorem y8c (l : List R2) : (Xp l).length ≤ 800 := by
 unfold Xp
 by_cases h : 400 < l.length
 ·rw [decide_eq_true h]; exact Nat.zero_le _
 ·rw [decide_eq_false h]
  cases l.all z7d
  ·exact Nat.zero_le _
  ·show (swV l).length ≤ 800
   have h1 := y1t (z3s (Uh l)) 0 0 false []
   rw [y7y, z1w] at h1
   simp only [List.length_nil] at h1
   unfold swV; omega
def z3d (r : R4) : Bool := decide (r.a < r.c) && (decide (r.b < r.d) && (decide (r.a ≥ -1000000) && (decide (r.a ≤ 1000000) && (decide (r.c ≥ -1000000) && (decide (r.c ≤ 1000000) && (decide (r.b ≥ -1000000) && (decide (r.b ≤ 1000000) && (decide (r.d ≥ -1000000) && decide (r.d ≤ 1000000)))))))))
def D4 : Dim R4 R2 := ⟨R4.a, R4.c, fun r => ⟨r.b, r.d⟩, fun x x' s => ⟨x, s.a, x', s.b⟩, fun x r => ⟨r.a, r.b, x, r.d⟩, Xp, Jq⟩
theorem D4_sec (l : List R4) (x : Int) : (D4.sec l x).length ≤ 1000 := Nat.le_trans (y8c _) (by omega)
section
variable (l : List R4) (hl : l.length ≤ 400)
include hl
theorem v0v (i : Nat) (out : List R4) (last : List R2) (first fin x x' : Int) : ∀ (k j : Nat) (acc : List R2), j + k = l.length → acc.length ≤ j →
  ∃ n, ∀ N, Yw (Xm l) (N + n) (.to (.h2 (i : Int) (j : Int) out last first fin ((D4.cuts l).length) (Xx (Yh (D4.ends l))) x x' acc)) = Yw (Xm l) N (.to (.h2 (i : Int) (l.length : Int) out last first fin ((D4.cuts l).length) (Xx (Yh (D4.ends l))) x x' (acc ++ D4.inn (l.drop j) x)))
 | 0, j, acc, h, ha => by
  refine ⟨0, fun N => ?_⟩
  rw [List.drop_eq_nil_of_le (by omega), show D4.inn ([] : List R4) x = [] from rfl, List.append_nil, Nat.add_zero, show j = l.length by omega]
 | k + 1, j, acc, h, ha => by
  have hj : j < l.length := by omega
  obtain ⟨n, hn⟩ := v0v i out last first fin x x' k (j + 1) (acc ++ D4.inn [rd l j] x) (by omega) (by have := D4.inn_length [rd l j] x; simp only [List.length_append, List.length_singleton] at *; omega)
  refine ⟨n + 1, fun N => ?_⟩
  have e : D4.inn (l.drop j) x = D4.inn [rd l j] x ++ D4.inn (l.drop (j + 1)) x := by
   rw [Ye hj, ← D4.inn_append]; rfl
  rw [e, ← Nat.add_assoc, Zv, ← List.append_assoc, ← hn N]
  by_cases h1 : D4.lo (rd l j) ≤ x
  ·by_cases h2 : x < D4.hi (rd l j)
   ·rw [D4.inn_t _ _ h1 h2]
    simp only [D4] at h1 h2 ⊢
    simp (disch := omega) only [Xm, Xq, Zb, Zq, Zo, Zs, Yz, Yu, Yk, Ze, Zk, Zx, Ya, Zj, Nat.zero_add, decide_true, Bool.and_true, Bool.true_and, cond_true, cond_false]
   ·rw [D4.inn_f2 _ _ h2, List.append_nil]
    simp only [D4] at h1 h2
    simp (disch := omega) only [Xm, Xq, Zt, Zb, Zq, Zo, Zs, Yz, Yu, Yk, Ze, Zk, Zx, Ya, Zj, Nat.zero_add, decide_true, Bool.and_true, Bool.true_and, cond_true, cond_false]
  ·rw [D4.inn_f1 _ _ h1, List.append_nil]
   simp only [D4] at h1
   simp (disch := omega) only [Xm, v6y, Zb, Zq, Zo, Zs, Yz, Yu, Yk, Ze, Zk, Zx, Ya, Zj, Nat.zero_add, decide_true, Bool.and_true, Bool.true_and, cond_true, cond_false]
theorem v0u (i : Nat) (hi : i ≤ 1000) (x x' : Int) (s last : List R2) (first : Int) (inn : List R2) (hs : s.length ≤ 1000) : ∀ (k j : Nat) (out : List R4), j + k = s.length → out.length ≤ 10000000 + j →
  ∃ n, ∀ N, Yw (Xm l) (N + n) (.to (.h3 x x' s (s.length : Int) (j : Int) s (i : Int) out last first ((D4.cuts l).length) (Xx (Yh (D4.ends l))) inn)) = Yw (Xm l) N (.to (.h1 ((i + 1 : Nat) : Int) (out ++ (s.drop j).map (D4.put x x')) last first x' ((D4.cuts l).length) (Xx (Yh (D4.ends l)))))
 | 0, j, out, h, ho => by
  have _u := hl
  refine ⟨1, fun N => ?_⟩
  rw [List.drop_eq_nil_of_le (by omega), Zv]
  simp (disch := omega) only [Xm, Zt, Zk, Zx, cond_false, List.map_nil, List.append_nil]
 | k + 1, j, out, h, ho => by
  obtain ⟨n, hn⟩ := v0u i hi x x' s last first inn hs k (j + 1) (out ++ [D4.put x x' (rd s j)]) (by omega) (by simp; omega)
  refine ⟨n + 1, fun N => ?_⟩
  have := hn N
  rw [Ye (show j < s.length by omega), List.map_cons, ← Nat.add_assoc, Zv]
  simp (disch := omega) only [Xm, Zb, Zq, Zo, Zs, Yz, Yu, Yk, Ze, Zk, Zx, Ya, Zj, Nat.zero_add, decide_true, Bool.and_true, Bool.true_and, cond_true, cond_false]
  rw [List.append_assoc] at this
  exact this
theorem v0t (i : Nat) (hi : i ≤ 1000) (x x' fin : Int) (s last : List R2) (first : Int) (inn : List R2) : ∀ (k j : Nat) (out : List R4), j + k = out.length → out.length ≤ 10000000 →
  ∃ n, ∀ N, Yw (Xm l) (N + n) (.to (.h4 x' (j : Int) x s (i : Int) out last first fin ((D4.cuts l).length) (Xx (Yh (D4.ends l))) inn)) = Yw (Xm l) N (.to (.h1 ((i + 1 : Nat) : Int) (D4.grow out j x') last first x' ((D4.cuts l).length) (Xx (Yh (D4.ends l)))))
 | 0, j, out, h, ho => by
  have _u := hl
  refine ⟨1, fun N => ?_⟩
  rw [D4.grow_nil _ _ _ (by omega), Zv]
  simp (disch := omega) only [Xm, Zt, Zk, Zx, cond_false]
 | k + 1, j, out, h, ho => by
  obtain ⟨n, hn⟩ := v0t i hi x x' fin s last first inn k (j + 1) (out.set j (D4.ext x' (rd out j))) (by simp; omega) (by simpa using ho)
  refine ⟨n + 1, fun N => ?_⟩
  have := hn N
  rw [D4.grow_set out j _ (by omega)] at this
  rw [← Nat.add_assoc, Zv]
  simp (disch := omega) only [Xm, Zb, Zq, Zo, Zs, Yz, Yu, Yk, Ze, Zk, Zx, Ya, Zj, Nat.zero_add, decide_true, Bool.and_true, Bool.true_and, cond_true, cond_false]
  exact this
theorem w0l : ∀ (k i : Nat) (s : Sw R4 R2), k = (D4.cuts l).length - 1 - i → i ≤ (D4.cuts l).length → s.out.length ≤ i * 1000 → s.last.length ≤ 1000 → s.first ≤ s.out.length →
  ∃ n, Yw (Xm l) n (.to (.h1 ((i + 1 : Nat) : Int) s.out s.last (s.first : Int) s.fin ((D4.cuts l).length) (Xx (Yh (D4.ends l))))) = .ret (z1d (D4.go l k i s).out)
 | 0, i, s, h, hi, ho, hla, hf => by
  have hc := D4.cuts_length l
  refine ⟨1, ?_⟩
  rw [Zv, show D4.go l 0 i s = s from rfl]
  unfold z1d
  by_cases q : (s.out.length : Int) > 400
  ·simp (disch := omega) only [Xm, Zt, Yn, cond_true, cond_false, Zg]
  ·simp (disch := omega) only [Xm, Zt, Xy, cond_true, cond_false, Zg]
 | k + 1, i, s, h, hi, ho, hla, hf => by
  have hc := D4.cuts_length l
  have hi1 : i + 1 < (D4.cuts l).length := by omega
  have hpl : (Xx (Yh (D4.ends l))).length = 2 * l.length := by rw [Wc, Wv, D4.ends_length]
  have r0 : rd (Xx (Yh (D4.ends l))) i = rd (D4.cuts l) i := Ui _ _ (by show i < (D4.cuts l).length; omega)
  have r1 : rd (Xx (Yh (D4.ends l))) (i + 1) = rd (D4.cuts l) (i + 1) := Ui _ _ (by show i + 1 < (D4.cuts l).length; omega)
  have hbig : i * 1000 ≤ 1000 * 1000 := Nat.mul_le_mul_right _ (by omega)
  have hsl := D4_sec l (rd (D4.cuts l) i)
  have hsd : D4.sec l (rd (D4.cuts l) i) = Xp (D4.inn l (rd (D4.cuts l) i)) := rfl
  obtain ⟨n3, h3⟩ := v0v l hl (i + 1) s.out s.last (s.first : Int) s.fin (rd (D4.cuts l) i) (rd (D4.cuts l) (i + 1)) l.length 0 [] (Nat.zero_add _) (Nat.le_refl _)
  simp only [List.drop_zero, List.nil_append, z0u] at h3
  have w1 : z8z (D4.inn l (rd (D4.cuts l) i)) = true := rfl
  have w2 : Wo s.last (Xp (D4.inn l (rd (D4.cuts l) i))) = true := decide_eq_true (by omega)
  have ol := D4.one_length l (rd (D4.cuts l) i) (rd (D4.cuts l) (i + 1)) s
  have st0 : ∀ N, Yw (Xm l) (N + n3 + 1) (.to (.h1 ((i + 1 : Nat) : Int) s.out s.last (s.first : Int) s.fin ((D4.cuts l).length) (Xx (Yh (D4.ends l))))) = Yw (Xm l) N (.to (.h2 ((i + 1 : Nat) : Int) (l.length : Int) s.out s.last (s.first : Int) s.fin ((D4.cuts l).length) (Xx (Yh (D4.ends l))) (rd (D4.cuts l) i) (rd (D4.cuts l) (i + 1)) (D4.inn l (rd (D4.cuts l) i)))) := fun N => by
   rw [← h3 N, Zv]
   have e1 : IntKind.wrap .i64 (((i + 1 : Nat) : Int) - 1) = (i : Int) := by rw [Zc]; exact Zk (by omega)
   simp (disch := omega) only [Xm, e1, r0, r1, Zb, Zq, Zo, Zs, Yz, Yu, Yk, Ze, Zk, Zx, Ya, Zj, Nat.zero_add, decide_true, Bool.and_true, Bool.true_and, cond_true, cond_false]
  rcases Ym (decide (0 < (D4.sec l (rd (D4.cuts l) i)).length) && ((s.fin == rd (D4.cuts l) i) && D4.same s.last (D4.sec l (rd (D4.cuts l) i)))) with q | q
  ·obtain ⟨n5, h5⟩ := v0t l hl (i + 1) (by omega) (rd (D4.cuts l) i) (rd (D4.cuts l) (i + 1)) s.fin (D4.sec l (rd (D4.cuts l) i)) s.last (s.first : Int) (D4.inn l (rd (D4.cuts l) i)) (s.out.length - s.first) s.first s.out (by omega) (by omega)
   have e : D4.one l (rd (D4.cuts l) i) (rd (D4.cuts l) (i + 1)) s = ⟨D4.grow s.out s.first (rd (D4.cuts l) (i + 1)), s.last, s.first, rd (D4.cuts l) (i + 1)⟩ := by unfold Dim.one; rw [q]; rfl
   obtain ⟨n0, h0⟩ := w0l k (i + 1) (D4.one l (rd (D4.cuts l) i) (rd (D4.cuts l) (i + 1)) s) (by omega) (by omega) (by omega) (by rw [e]; exact hla) (by rw [e]; simpa [Dim.grow_length] using hf)
   refine ⟨n0 + n5 + 1 + n3 + 1, ?_⟩
   rw [st0 (n0 + n5 + 1), Zv]
   simp only [Bool.and_eq_true, decide_eq_true_eq] at q
   obtain ⟨q1, q2, q3⟩ := q
   have q3' : Jq s.last (Xp (D4.inn l (rd (D4.cuts l) i))) = true := q3
   rw [hsd] at q1
   simp (disch := omega) only [Xm, Zb, Zq, Zt, Yn, q2, q3', w1, w2, cond_true, cond_false]
   rw [← hsd, h5 n0]
   simp only [Dim.go]
   rw [e] at h0 ⊢
   exact h0
  ·obtain ⟨n4, h4⟩ := v0u l hl (i + 1) (by omega) (rd (D4.cuts l) i) (rd (D4.cuts l) (i + 1)) (D4.sec l (rd (D4.cuts l) i)) (D4.sec l (rd (D4.cuts l) i)) (s.out.length : Int) (D4.inn l (rd (D4.cuts l) i)) hsl (D4.sec l (rd (D4.cuts l) i)).length 0 s.out (Nat.zero_add _) (by omega)
   simp only [List.drop_zero, z0u] at h4
   have e : D4.one l (rd (D4.cuts l) i) (rd (D4.cuts l) (i + 1)) s = ⟨s.out ++ (D4.sec l (rd (D4.cuts l) i)).map (D4.put (rd (D4.cuts l) i) (rd (D4.cuts l) (i + 1))), D4.sec l (rd (D4.cuts l) i), s.out.length, rd (D4.cuts l) (i + 1)⟩ := by unfold Dim.one; rw [q]; rfl
   obtain ⟨n0, h0⟩ := w0l k (i + 1) (D4.one l (rd (D4.cuts l) i) (rd (D4.cuts l) (i + 1)) s) (by omega) (by omega) (by omega) (by rw [e]; exact hsl) (by rw [e]; simp)
   have hg : Yw (Xm l) 1 (.to (.h2 ((i + 1 : Nat) : Int) (l.length : Int) s.out s.last (s.first : Int) s.fin ((D4.cuts l).length) (Xx (Yh (D4.ends l))) (rd (D4.cuts l) i) (rd (D4.cuts l) (i + 1)) (D4.inn l (rd (D4.cuts l) i)))) = .to (.h3 (rd (D4.cuts l) i) (rd (D4.cuts l) (i + 1)) (D4.sec l (rd (D4.cuts l) i)) ((D4.sec l (rd (D4.cuts l) i)).length : Int) 0 (D4.sec l (rd (D4.cuts l) i)) ((i + 1 : Nat) : Int) s.out (D4.sec l (rd (D4.cuts l) i)) (s.out.length : Int) ((D4.cuts l).length) (Xx (Yh (D4.ends l))) (D4.inn l (rd (D4.cuts l) i))) := by
    rw [show (1 : Nat) = 0 + 1 from rfl, Zv]
    rw [hsd] at q ⊢
    have e3 : D4.same s.last (Xp (D4.inn l (rd (D4.cuts l) i))) = Jq s.last (Xp (D4.inn l (rd (D4.cuts l) i))) := rfl
    rw [e3] at q
    by_cases q1 : 0 < (Xp (D4.inn l (rd (D4.cuts l) i))).length
    ·rw [decide_eq_true q1, Bool.true_and] at q
     rcases Ym (s.fin == rd (D4.cuts l) i) with q2 | q2
     ·rw [q2, Bool.true_and] at q
      simp (disch := omega) only [Xm, Zb, Zq, Zt, Yn, q2, q, w1, w2, cond_true, cond_false]
      rfl
     ·simp (disch := omega) only [Xm, Zb, Zq, Zt, Yn, q2, w1, w2, cond_true, cond_false]
      rfl
    ·simp (disch := omega) only [Xm, Zb, Zq, Zt, Xy, w1, w2, cond_true, cond_false]
     rfl
   refine ⟨n0 + n4 + 1 + n3 + 1, ?_⟩
   rw [st0 (n0 + n4 + 1), y0a _ (n0 + n4) 1, hg, h4 n0]
   simp only [Dim.go]
   rw [e] at h0 ⊢
   exact h0
theorem v0w : ∀ (k i : Nat) (acc : List Int), i + k = l.length → acc = D4.ends (l.take i) → ∃ n, Yw (Xm l) n (.to (.h0 (i : Int) acc)) = .ret (z1d (D4.go l ((D4.cuts l).length - 1) 0 ⟨[], [], 0, 0⟩).out)
 | 0, i, acc, h, ha => by
  have e : acc = D4.ends l := by rw [ha, List.take_of_length_le (by omega)]
  subst e
  have hle := D4.ends_length l
  obtain ⟨n, hn⟩ := w0l l hl ((D4.cuts l).length - 1) 0 ⟨[], [], 0, 0⟩ (by omega) (Nat.zero_le _) (Nat.zero_le _) (Nat.zero_le _) (Nat.zero_le _)
  refine ⟨n + 1, ?_⟩
  rw [Zv]
  simp (disch := omega) only [Xm, Vr, Kx, z6c, Zt, Yu, Yk, decide_true, cond_true, cond_false]
  exact hn
 | k + 1, i, acc, h, ha => by
  have hle := D4.ends_length (l.take i)
  have hacc : acc.length ≤ 2 * i := by rw [ha, hle]; simp; omega
  obtain ⟨n, hn⟩ := v0w k (i + 1) (acc ++ D4.ends [rd l i]) (by omega) (by
   rw [ha, List.take_add_one]
   have : l[i]? = some (rd l i) := by rw [Xd (show i < l.length by omega)]; exact List.getElem?_eq_getElem _
   rw [this, D4.ends_append]; rfl)
  refine ⟨n + 1, ?_⟩
  rw [Zv]
  simp (disch := omega) only [Xm, Zb, Zq, Zo, Zs, Yz, Yu, Yk, Ze, Zk, Zx, Ya, Zj, Nat.zero_add, decide_true, Bool.and_true, Bool.true_and, cond_true, cond_false]
  exact hn
end
def madE (l : List R4) : Int := w2z (D4.out l).length
def Je (l : List R4) : List R4 := v1k (madE l) (D4.out l)
def z4p (l : List R4) : Int := madE l
def z1s (l : List R4) : Bool := decide (l.length ≤ 400)
theorem v4k (l : List R4) (h : z1s l = true) : ∃ n, Yw (Xm l) n (y3m l) = .ret (x6s (madE l) (D4.out l)) := by
 rw [show x6s (madE l) (D4.out l) = z1d (D4.out l) from (y0p _).symm]
 exact v0w l (of_decide_eq_true h) l.length 0 [] (Nat.zero_add _) rfl
def vl4V (a b c d : Int) : Bool := z3d ⟨a, b, c, d⟩
theorem v2h (a b c d : Int) : ∃ N, Yw (y7s a b c d) N (z7p a b c d) = .ret [.bool (vl4V a b c d)] := ⟨0, by
 unfold z7p vl4V z3d
 simp only [x1e]
 cases decide (a < c) <;> cases decide (b < d) <;> cases decide (a ≥ -1000000) <;> cases decide (a ≤ 1000000) <;> cases decide (c ≥ -1000000) <;> cases decide (c ≤ 1000000) <;> cases decide (b ≥ -1000000) <;> cases decide (b ≤ 1000000) <;> cases decide (d ≥ -1000000) <;> rfl⟩
def fVl4 : List AVal → Option (AVal × Bool)
 | [.agg [.int .i64 x0_0, .int .i64 x0_1, .int .i64 x0_2, .int .i64 x0_3]] => some (.bool (vl4V x0_0 x0_1 x0_2 x0_3), true)
 | _ => none
theorem v5k {S : Specs} (hS : Zu Tryz.prog S) : Zu Tryz.prog (S.with x2l fVl4) := by
 refine z1j hS (by kernel_rfl) fun args v h => ?_
 unfold fVl4 at h
 split at h
 ·rename_i x0_0 x0_1 x0_2 x0_3
  simp only [Option.some.injEq, Prod.mk.injEq, and_true] at h
  subst h
  obtain ⟨N, hN⟩ := v2h x0_0 x0_1 x0_2 x0_3
  exact ⟨_, _, (.cons (.refl _) .nil), rfl, w3b x0_0 x0_1 x0_2 x0_3 N _ hN, 3, rfl⟩
 ·cases h
def fMad : List AVal → Option (AVal × Bool)
 | [a0] => match asL R4 a0 with
  | some (L0, g0, n0) => some (.tup [.dat (Je L0).length (Zz (Je L0)), .int .i64 (z4p L0)], isT R4 n0 g0 && (z1s L0))
  | _ => none
 | _ => none
theorem v5y {S : Specs} (hS : Zu Tryz.prog S) : Zu Tryz.prog (S.with w0c fMad) := by
 refine v5l hS (by kernel_rfl) fun args v h => ?_
 unfold fMad at h
 split at h
 ·rename_i a0
  split at h
  ·rename_i L0 g0 n0 e0
   simp only [Option.some.injEq, Prod.mk.injEq, Bool.and_eq_true] at h
   obtain ⟨rfl, ho0, hw⟩ := h
   obtain ⟨N, hN⟩ := v4k L0 hw
   exact ⟨_, _, (.cons (asL_le e0 ho0) .nil), y3d _ _, w5g L0 N _ hN, 3, y8y _ _⟩
  ·cases h
 ·cases h
def T6v : Specs := (T6.with x2l fVl4)
theorem T6v_ok : Zu Tryz.prog T6v := (v5k Ue)
def T6m : Specs := (T6v.with w0c fMad)
theorem y1d : Zu Tryz.prog T6m := (v5y T6v_ok)
end Go.Am
namespace Go.Am
open Go.Proofs
inductive rgmS where
 | h0 (v8 : Int)
def rgmC (l0 : List R4) : rgmS → Cfg
 | .h0 v8 => ⟨⟨19, 0, true⟩, none, (Za Tryz.prog 171 [1, 0, 1, 0, 0] 0), none, (Zy Tryz.prog 3), ⟨Yp [(0, (.dat l0.length (Zz l0))), (1, (.fn 152 [])), (7, (ii (l0.length : Int))), (8, (ii v8))], Ve [] 0, 0, [], true⟩, [⟨⟨9, 0, true⟩, (Vj Tryz.prog 151 [1, 0] 2), (Za Tryz.prog 151 [1, 0] 1), none, (Zy Tryz.prog 3), Yp [(5, (.dat l0.length (Zz l0))), (6, (.fn 152 []))]⟩, ⟨⟨13, 0, true⟩, (Vj Tryz.prog 130 [1, 1, 0, 0] 1), (Za Tryz.prog 130 [1, 1, 0, 0] 1), none, (Zy Tryz.prog 77), Yp [(0, (.dat l0.length (Zz l0))), (7, (.dat l0.length (Zz l0)))]⟩], .leaf⟩
def rgmN0 : List (Option (List Nat)) := [some [0, 1, 7, 8], some [5, 6], some [0, 7]]
def rgmM0 : List (Option (List Nat)) := []
def z1m (l0 : List R4) : rgmS → Xc rgmS
 | .h0 v8 => (bif (decide (v8 < (l0.length : Int))) then (bif ((decide (0 ≤ v8 ∧ v8 < (l0.length : Int))) && true) then (bif (!(vl4V (rd l0 v8.toNat).a (rd l0 v8.toNat).b (rd l0 v8.toNat).c (rd l0 v8.toNat).d)) then (bif (decide (v8 ≥ 0)) then (.ret [.nils, (.int .i64 8)]) else (bif (z1s (cvT l0)) then (.ret [(.dat (Je (cvT l0)).length (Zz (Je (cvT l0)))), (.int .i64 (z4p (cvT l0)))]) else .stuck)) else (.to (.h0 (IntKind.wrap .i64 (v8 + 1))))) else .stuck) else (bif (z1s (cvT l0)) then (.ret [(.dat (Je (cvT l0)).length (Zz (Je (cvT l0)))), (.int .i64 (z4p (cvT l0)))]) else .stuck))
def z4d (l0 : List R4) : Xc rgmS := (bif (decide ((l0.length : Int) > 400)) then (.ret [.nils, (.int .i64 4)]) else (.to (.h0 0)))
theorem x4q (l0 : List R4) : ∀ s, Wy Tryz.prog (Zy Tryz.prog 130) (rgmC l0) (rgmC l0 s) (z1m l0 s)
 | .h0 v8 => (lb (fun k0 => (lo fun o1_0 => (lb (fun k1 => (lb (fun k2 => (lr 13 130 [1, 1, 0, 1, 0, 0] 1 77 [(2, .nils), (3, (ii 8))] (sl y1d 54 [] ⟨[], [], [some [2, 3]], []⟩ ⟨[], [], []⟩ (trs 3 []) (tt k2 (tt k1 (ww o1_0 (tt k0 nn))))))) (fun k2 => (lo fun o0 => (lr 13 3 [1, 1, 1, 1, 1, 1, 0] 1 77 [(2, (.dat (Je (cvT l0)).length (Zz (Je (cvT l0))))), (3, (ii (z4p (cvT l0))))] (sl y1d 59 [] ⟨[], [], [some [2, 3]], []⟩ ⟨[], [], []⟩ [true, true, false] (pp (pp (xr l0) (xw o0)) (tt k2 (tt k1 (ww o1_0 (tt k0 nn))))))))))) (fun k1 => (sl y1d 44 [] ⟨[], [], rgmN0, rgmM0⟩ ⟨[], [], []⟩ [true, false] (tt k1 (ww o1_0 (tt k0 nn)))))))) (fun k0 => (lo fun o0 => (lr 13 3 [1, 1, 1, 1, 1, 1, 0] 1 77 [(2, (.dat (Je (cvT l0)).length (Zz (Je (cvT l0))))), (3, (ii (z4p (cvT l0))))] (sl y1d 28 [] ⟨[], [], [some [2, 3]], []⟩ ⟨[], [], []⟩ [false, false] (pp (pp (xr l0) (xw o0)) (tt k0 nn)))))))
theorem y8w (l0 : List R4) : Wy Tryz.prog (Zy Tryz.prog 130) (rgmC l0) (Zh Tryz.prog 130 [(.dat l0.length (Zz l0))] true []) (z4d l0) := (lb (fun k0 => (lr 13 130 [1, 0, 1, 0, 0] 1 77 [(2, .nils), (3, (ii 4))] (sl y1d 18 [] ⟨[], [], [some [2, 3]], []⟩ ⟨[], [], []⟩ [true] (tt k0 nn)))) (fun k0 => (sl y1d 41 [] ⟨[], [], rgmN0, rgmM0⟩ ⟨[], [], []⟩ [false] (tt k0 nn))))
theorem w4j (l0 : List R4) (n : Nat) (vs : List AVal) (h : Yw (z1m l0) n (z4d l0) = .ret vs) : Jd Tryz.prog (Zy Tryz.prog 130) (Zh Tryz.prog 130 [(.dat l0.length (Zz l0))] true []) vs := by
 have := Zn (x4q l0) n _ (y8w l0)
 rwa [h] at this
end Go.Am
namespace Go.Am
open Go.Proofs
open Go.Sort Go.Shelf Go.RowKit Go.Lib
theorem w9u (l : List R4) (hl : l.length ≤ 400) : ∀ (k i : Nat), i + k = l.length → (∀ s ∈ l.take i, z3d s = true) → ∃ n, Yw (z1m l) n (.to (.h0 (i : Int))) = .ret (bif l.all z3d then [.dat (Je l).length (Zz (Je l)), .int .i64 (z4p l)] else [.nils, .int .i64 8])
 | 0, i, h, ht => by
  have hv : l.all z3d = true := List.all_eq_true.2 fun s hs => ht s (by rw [List.take_of_length_le (by omega)]; exact hs)
  have w : z1s l = true := decide_eq_true hl
  refine ⟨1, ?_⟩
  rw [Zv, hv, cond_true]
  simp (disch := omega) only [z1m, Zb, w, Zt, cond_true, cond_false, Zg]
 | k + 1, i, h, ht => by
  have hi : i < l.length := by omega
  have hs : z1m l (.h0 (i : Int)) = bif z3d (rd l i) then .to (.h0 ((i + 1 : Nat) : Int)) else .ret [.nils, .int .i64 8] := by
   have e : vl4V (rd l i).a (rd l i).b (rd l i).c (rd l i).d = z3d (rd l i) := rfl
   simp (disch := omega) only [z1m, e, y4h, x3j, w1r, Zs, Zk, Zx, Zj, Bool.and_true, cond_true, cond_false]
  rcases Ym (z3d (rd l i)) with q | q
  ·obtain ⟨n, hn⟩ := w9u l hl k (i + 1) (by omega) (fun s hs => by
    rw [List.take_add_one] at hs
    have e : l[i]? = some (rd l i) := by rw [Xd hi]; exact List.getElem?_eq_getElem _
    rw [e] at hs
    simp only [Option.toList_some, List.mem_append, List.mem_singleton] at hs
    rcases hs with hs | rfl
    ·exact ht s hs
    ·exact q)
   refine ⟨n + 1, ?_⟩
   rw [Zv, hs, q, cond_true]
   exact hn
  ·have hv : l.all z3d = false := Bool.eq_false_iff.2 fun e => by
    have := List.all_eq_true.1 e (rd l i) (by rw [Xd hi]; exact List.getElem_mem hi)
    rw [this] at q; cases q
   refine ⟨1, ?_⟩
   rw [Zv, hv, cond_false, hs, q, cond_false, Zg]
theorem w4i (l : List R4) : ∃ n, Yw (z1m l) n (z4d l) = .ret (bif decide (400 < l.length) then [.nils, .int .i64 4] else bif l.all z3d then [.dat (Je l).length (Zz (Je l)), .int .i64 (z4p l)] else [.nils, .int .i64 8]) := by
 unfold z4d
 by_cases h : 400 < l.length
 ·refine ⟨0, ?_⟩
  rw [decide_eq_true h, Yn (show (l.length : Int) > 400 by omega)]; rfl
 ·obtain ⟨n, hn⟩ := w9u l (by omega) l.length 0 (Nat.zero_add _) (fun s hs => by simp at hs)
  refine ⟨n, ?_⟩
  rw [decide_eq_false h, Xy (show ¬ (l.length : Int) > 400 by omega), cond_false, cond_false]
  exact hn
def Yj (l : List R4) : List R4 := bif decide (400 < l.length) then [] else bif l.all z3d then (bif decide (((D4.out l).length : Int) > 400) then [] else D4.out l) else []
def We (l : List R4) : Int := bif decide (400 < l.length) then 4 else bif l.all z3d then (bif decide (((D4.out l).length : Int) > 400) then 4 else 0) else 8
def Qn (l : List R4) : Bool := true
theorem v3v (l : List R4) (h : Qn l = true) : ∃ n, Yw (z1m l) n (z4d l) = .ret (bif decide (400 < l.length) then [.nils, .int .i64 4] else bif l.all z3d then [.dat (Yj l).length (Zz (Yj l)), .int .i64 (We l)] else [.nils, .int .i64 8]) := by
 obtain ⟨n, hn⟩ := w4i l
 refine ⟨n, hn.trans ?_⟩
 cases h1 : decide (400 < l.length) <;> cases h2 : l.all z3d <;> simp only [cond_true, cond_false]
 have e0 : Je l = Yj l := by
  unfold Je madE v1k w2z Yj
  rw [h1, h2]
  cases decide (((D4.out l).length : Int) > 400) <;> rfl
 have e1 : z4p l = We l := by
  unfold z4p madE w2z We
  rw [h1, h2]; rfl
 rw [e0, e1]
def fRgm : List AVal → Option (AVal × Bool)
 | [a0] => match asL R4 a0 with
  | some (L0, g0, n0) => some (.tup [.dat (Yj L0).length (Zz (Yj L0)), .int .i64 (We L0)], isT R4 n0 g0 && (Qn L0))
  | _ => none
 | _ => none
theorem v5s {S : Specs} (hS : Zu Tryz.prog S) : Zu Tryz.prog (S.with x2m fRgm) := by
 refine v5l hS (by kernel_rfl) fun args v h => ?_
 unfold fRgm at h
 split at h
 ·rename_i a0
  split at h
  ·rename_i L0 g0 n0 e0
   simp only [Option.some.injEq, Prod.mk.injEq, Bool.and_eq_true] at h
   obtain ⟨rfl, ho0, hw⟩ := h
   obtain ⟨N, hN⟩ := v3v L0 hw
   refine ⟨_, _, (.cons (asL_le e0 ho0) .nil), ?_, w4j L0 N _ hN, 3, ?_⟩
   ·cases h1 : decide (400 < L0.length) <;> cases h2 : L0.all z3d <;> simp only [Yj, We, h1, h2, cond_true, cond_false]
    ·exact fun ρ u hu => z6o (.cons (z1r R4) (RLe.refl _)) ρ u hu
    ·exact fun ρ u hu => hu
    ·exact fun ρ u hu => z6o (.cons (z1r R4) (RLe.refl _)) ρ u hu
    ·exact fun ρ u hu => z6o (.cons (z1r R4) (RLe.refl _)) ρ u hu
   ·cases decide (400 < L0.length) <;> cases L0.all z3d <;> rfl
  ·cases h
 ·cases h
def T7 : Specs := (T6m.with x2m fRgm)
theorem y7l : Zu Tryz.prog T7 := (v5s y1d)
end Go.Am
namespace Go.Am
open Go.Proofs
inductive vl6S where
def vl6C (x0_0 : Int) (x0_1 : Int) (x0_2 : Int) (x0_3 : Int) (x0_4 : Int) (x0_5 : Int) : vl6S → Cfg
 := nofun
def y7q (x0_0 : Int) (x0_1 : Int) (x0_2 : Int) (x0_3 : Int) (x0_4 : Int) (x0_5 : Int) : vl6S → Xc vl6S
 := nofun
def z7o (x0_0 : Int) (x0_1 : Int) (x0_2 : Int) (x0_3 : Int) (x0_4 : Int) (x0_5 : Int) : Xc vl6S := (bif (decide (x0_0 < x0_3)) then (bif (decide (x0_1 < x0_4)) then (bif (decide (x0_2 < x0_5)) then (bif (decide ((Un (Un x0_0 x0_1) x0_2) ≥ (-1000000))) then (bif (decide ((Wx (Wx x0_0 x0_1) x0_2) ≤ 1000000)) then (bif (decide ((Un (Un x0_3 x0_4) x0_5) ≥ (-1000000))) then (.ret [(.bool (decide ((Wx (Wx x0_3 x0_4) x0_5) ≤ 1000000)))]) else (.ret [(.bool false)])) else (.ret [(.bool false)])) else (.ret [(.bool false)])) else (.ret [(.bool false)])) else (.ret [(.bool false)])) else (.ret [(.bool false)]))
theorem x3q (x0_0 : Int) (x0_1 : Int) (x0_2 : Int) (x0_3 : Int) (x0_4 : Int) (x0_5 : Int) : ∀ s, Wy Tryz.prog (Zy Tryz.prog 107) (vl6C x0_0 x0_1 x0_2 x0_3 x0_4 x0_5) (vl6C x0_0 x0_1 x0_2 x0_3 x0_4 x0_5 s) (y7q x0_0 x0_1 x0_2 x0_3 x0_4 x0_5 s)
 := nofun
theorem y7r (x0_0 : Int) (x0_1 : Int) (x0_2 : Int) (x0_3 : Int) (x0_4 : Int) (x0_5 : Int) : Wy Tryz.prog (Zy Tryz.prog 107) (vl6C x0_0 x0_1 x0_2 x0_3 x0_4 x0_5) (Zh Tryz.prog 107 [(.agg [(.int .i64 x0_0), (.int .i64 x0_1), (.int .i64 x0_2), (.int .i64 x0_3), (.int .i64 x0_4), (.int .i64 x0_5)])] true []) (z7o x0_0 x0_1 x0_2 x0_3 x0_4 x0_5) := (lb (fun k0 => (lb (fun k1 => (lb (fun k2 => (lb (fun k3 => (lb (fun k4 => (lb (fun k5 => (lr 38 3 [1, 1, 1, 1, 1, 1, 0] 1 15 [(2, (.bool (decide ((Wx (Wx x0_3 x0_4) x0_5) ≤ 1000000))))] (sl y7l 100 [] ⟨[], [], [some [2]], []⟩ ⟨[], [], []⟩ (trs 36 []) (tt k5 (tt k4 (tt k3 (tt k2 (tt k1 (tt k0 nn))))))))) (fun k5 => (lr 38 3 [1, 1, 1, 1, 1, 1, 0] 1 15 [(2, (.bool false))] (sl y7l 100 [] ⟨[], [], [some [2]], []⟩ ⟨[], [], []⟩ (trs 28 [false, false, false, false, false, false, false, false]) (tt k5 (tt k4 (tt k3 (tt k2 (tt k1 (tt k0 nn))))))))))) (fun k4 => (lr 38 3 [1, 1, 1, 1, 1, 1, 0] 1 15 [(2, (.bool false))] (sl y7l 72 [] ⟨[], [], [some [2]], []⟩ ⟨[], [], []⟩ (trs 25 [false, false, false]) (tt k4 (tt k3 (tt k2 (tt k1 (tt k0 nn)))))))))) (fun k3 => (lr 38 3 [1, 1, 1, 1, 1, 1, 0] 1 15 [(2, (.bool false))] (sl y7l 72 [] ⟨[], [], [some [2]], []⟩ ⟨[], [], []⟩ (trs 17 [false, false, false, false, false, false, false, false, false, false, false]) (tt k3 (tt k2 (tt k1 (tt k0 nn))))))))) (fun k2 => (lr 38 3 [1, 1, 1, 1, 1, 1, 0] 1 15 [(2, (.bool false))] (sl y7l 44 [] ⟨[], [], [some [2]], []⟩ ⟨[], [], []⟩ (trs 14 [false, false, false, false, false, false]) (tt k2 (tt k1 (tt k0 nn)))))))) (fun k1 => (lr 38 3 [1, 1, 1, 1, 1, 1, 0] 1 15 [(2, (.bool false))] (sl y7l 44 [] ⟨[], [], [some [2]], []⟩ ⟨[], [], []⟩ (trs 7 [false, false, false, false, false, false, false, false, false, false, false, false, false]) (tt k1 (tt k0 nn))))))) (fun k0 => (lr 38 3 [1, 1, 1, 1, 1, 1, 0] 1 15 [(2, (.bool false))] (sl y7l 44 [] ⟨[], [], [some [2]], []⟩ ⟨[], [], []⟩ [false, false, false, false, false, false, false, false, false, false, false, false, false, false, false, false, false, false, false, false] (tt k0 nn)))))
theorem w3a (x0_0 : Int) (x0_1 : Int) (x0_2 : Int) (x0_3 : Int) (x0_4 : Int) (x0_5 : Int) (n : Nat) (vs : List AVal) (h : Yw (y7q x0_0 x0_1 x0_2 x0_3 x0_4 x0_5) n (z7o x0_0 x0_1 x0_2 x0_3 x0_4 x0_5) = .ret vs) : Jd Tryz.prog (Zy Tryz.prog 107) (Zh Tryz.prog 107 [(.agg [(.int .i64 x0_0), (.int .i64 x0_1), (.int .i64 x0_2), (.int .i64 x0_3), (.int .i64 x0_4), (.int .i64 x0_5)])] true []) vs := by
 have := Zn (x3q x0_0 x0_1 x0_2 x0_3 x0_4 x0_5) n _ (y7r x0_0 x0_1 x0_2 x0_3 x0_4 x0_5)
 rwa [h] at this
end Go.Am
namespace Go.Am
open Go.Proofs
open Go.Sort Go.Shelf Go.RowKit Go.Lib
def Jb (r : R6) : Bool := decide (r.a < r.d) && (decide (r.b < r.e) && (decide (r.c < r.f) && (decide ((Un (Un r.a r.b) r.c) ≥ (-1000000)) && (decide ((Wx (Wx r.a r.b) r.c) ≤ 1000000) && (decide ((Un (Un r.d r.e) r.f) ≥ (-1000000)) && decide ((Wx (Wx r.d r.e) r.f) ≤ 1000000))))))
def v2g (a b c d e f : Int) : Bool := Jb ⟨a, b, c, d, e, f⟩
theorem v2f (a b c d e f : Int) : ∃ N, Yw (y7q a b c d e f) N (z7o a b c d e f) = .ret [.bool (v2g a b c d e f)] := ⟨0, by
 unfold z7o v2g Jb
 simp only [x1e]
 cases decide (a < d) <;> cases decide (b < e) <;> cases decide (c < f) <;> cases decide ((Un (Un a b) c) ≥ (-1000000)) <;> cases decide ((Wx (Wx a b) c) ≤ 1000000) <;> cases decide ((Un (Un d e) f) ≥ (-1000000)) <;> rfl⟩
def fVl6 : List AVal → Option (AVal × Bool)
 | [.agg [.int .i64 x0_0, .int .i64 x0_1, .int .i64 x0_2, .int .i64 x0_3, .int .i64 x0_4, .int .i64 x0_5]] => some (.bool (v2g x0_0 x0_1 x0_2 x0_3 x0_4 x0_5), true)
 | _ => none
theorem v5j {S : Specs} (hS : Zu Tryz.prog S) : Zu Tryz.prog (S.with x2k fVl6) := by
 refine z1j hS (by kernel_rfl) fun args v h => ?_
 unfold fVl6 at h
 split at h
 ·rename_i x0_0 x0_1 x0_2 x0_3 x0_4 x0_5
  simp only [Option.some.injEq, Prod.mk.injEq, and_true] at h
  subst h
  obtain ⟨N, hN⟩ := v2f x0_0 x0_1 x0_2 x0_3 x0_4 x0_5
  exact ⟨_, _, (.cons (.refl _) .nil), rfl, w3a x0_0 x0_1 x0_2 x0_3 x0_4 x0_5 N _ hN, 3, rfl⟩
 ·cases h
def T7v : Specs := (T7.with x2k fVl6)
theorem Wn : Zu Tryz.prog T7v := (v5j y7l)
end Go.Am
namespace Go.Am
open Go.Proofs
inductive sckS where
 | h0 (v8 : Int)
 | h1 (v16 : Int) (v_2_0 : List Int)
 | h2 (v4 : Int) (v_4_0 : List R6) (v_4_1 : List R4) (v_4_2 : Int) (v_4_3 : Int) (v_5_0_000 : Nat) (v09_6 : List Int)
 | h3 (v4 : Int) (v38 : Int) (v_4_0 : List R6) (v_4_1 : List R4) (v_4_2 : Int) (v_4_3 : Int) (v_5_0_000 : Nat) (v09_6 : List Int) (v_9_0 : Int) (v_9_1 : Int) (v_10_0 : List R4)
 | h4 (v1 : Int) (v2 : Int) (v72 : List R4) (v73 : Int) (v74 : Int) (v000_57 : List R4) (v001_4 : Int) (v_0_0 : List R6) (v_0_1 : List R4) (v_0_2 : Int) (v_5_0_000 : Nat) (v09_6 : List Int) (v_9_0 : List R4)
 | h5 (v2 : Int) (v8 : Int) (v000_54 : Int) (v000_57 : List R4) (v001_4 : Int) (v_0_0 : List R6) (v_0_1 : List R4) (v_0_2 : Int) (v_0_3 : Int) (v_6_0_000 : Nat) (v09_7 : List Int) (v_10_0 : List R4)
def sckC (l0 : List R6) : sckS → Cfg
 | .h0 v8 => ⟨⟨19, 0, true⟩, none, (Za Tryz.prog 124 [1, 0, 1, 0, 0] 0), none, (Zy Tryz.prog 3), ⟨Yp [(0, (.dat l0.length (Zz l0))), (1, (.fn 106 [])), (7, (ii (l0.length : Int))), (8, (ii v8))], Ve [] 0, 0, [], true⟩, [⟨⟨9, 0, true⟩, (Vj Tryz.prog 86 [1, 0] 2), (Za Tryz.prog 86 [1, 0] 1), none, (Zy Tryz.prog 3), Yp [(5, (.dat l0.length (Zz l0))), (6, (.fn 106 []))]⟩, ⟨⟨25, 0, true⟩, (Vj Tryz.prog 72 [1, 1, 0, 0] 1), (Za Tryz.prog 72 [1, 1, 0, 0] 1), none, (Zy Tryz.prog 15), Yp [(0, (.dat l0.length (Zz l0))), (8, (.dat l0.length (Zz l0)))]⟩], .leaf⟩
 | .h1 v16 v_2_0 => ⟨⟨36, 0, true⟩, none, (Za Tryz.prog 129 [1, 1, 0, 1, 0, 0, 1, 1, 0, 0, 1, 1, 0, 0] 0), none, (Zy Tryz.prog 15), ⟨Yp [(1, (.ptr 0 0)), (3, (.ptr 2 0)), (8, (.sl 1 0 1 (.un 1))), (9, (ii 1)), (10, (ii 0)), (14, (.dat l0.length (Zz l0))), (15, (ii (l0.length : Int))), (16, (ii v16))], Ve [⟨[(.sl 1 0 1 (.un 1))], 168, none⟩, ⟨[(.dat l0.length (Zz l0))], 22, none⟩, ⟨[(.sla 7 1 0 v_2_0.length (.un 1))], 47, none⟩, ⟨[.nilf], 124, none⟩, ⟨[.nils], 30, none⟩, ⟨[(ii 0)], 24, none⟩, ⟨[.nils, .nils, (ii 0), (ii 0)], 170, none⟩, ⟨rows v_2_0.length (Zz v_2_0), 3, some ⟨1, v_2_0.length, (Zz v_2_0)⟩⟩] 0, 8, [], true⟩, [⟨⟨65, 0, true⟩, (Vj Tryz.prog 108 [1, 1, 0, 0] 1), (Za Tryz.prog 108 [1, 1, 0, 0] 1), none, (Zy Tryz.prog 36), Yp [(2, (.ptr 3 0)), (4, (.ptr 4 0)), (5, (.ptr 5 0)), (6, (.ptr 6 0)), (13, (.sl 1 0 1 (.un 1)))]⟩, ⟨⟨25, 0, true⟩, (Vj Tryz.prog 72 [1, 1, 1, 0, 0] 3), (Za Tryz.prog 72 [1, 1, 1, 0, 0] 1), none, (Zy Tryz.prog 15), Yp [(0, (.dat l0.length (Zz l0))), (11, (.agg [.nilf])), (13, (.sl 1 0 1 (.un 1)))]⟩], .leaf⟩
 | .h2 v4 v_4_0 v_4_1 v_4_2 v_4_3 v_5_0_000 v09_6 => ⟨⟨86, 0, true⟩, none, (Za Tryz.prog 150 [1, 0, 0] 0), none, [], ⟨Yp [(0, (.yld 0)), (1, (.ptr 5 0)), (2, (.ptr 7 0)), (4, (ii v4))], z4o [(1, ⟨[.nilf], 124, none⟩), (2, ⟨[.nils], 30, none⟩), (3, ⟨[(ii 0)], 24, none⟩), (4, ⟨[(.sla 9 6 0 v_4_0.length (.un 6)), (.dat v_4_1.length (Zz v_4_1)), (ii v_4_2), (ii v_4_3)], 170, none⟩), (5, ⟨[(.sla 6 1 0 v_5_0_000 (.un 1))], 47, none⟩), (6, ⟨rows v09_6.length (Zz v09_6), 3, some ⟨1, v09_6.length, (Zz v09_6)⟩⟩), (7, ⟨[(.sl 8 0 1 (.un 1))], 168, none⟩), (8, ⟨[(.dat l0.length (Zz l0))], 22, none⟩), (9, ⟨rows v_4_0.length (Zz v_4_0), 68, some ⟨6, v_4_0.length, (Zz v_4_0)⟩⟩)], 10, [], true⟩, [⟨⟨65, 0, true⟩, none, (.inRangeFunc 0 :: (Za Tryz.prog 108 [1, 1, 0, 1, 0] 1)), none, (Zy Tryz.prog 36), Yp [(4, (.ptr 2 0)), (5, (.ptr 3 0)), (6, (.ptr 4 0))]⟩, ⟨⟨25, 0, true⟩, (Vj Tryz.prog 72 [1, 1, 1, 0, 0] 3), (Za Tryz.prog 72 [1, 1, 1, 0, 0] 1), none, (Zy Tryz.prog 15), Yp [(0, (.dat l0.length (Zz l0))), (11, (.agg [.nilf])), (13, (.sl 8 0 1 (.un 1)))]⟩], (z4q [(0, ⟨.ready, none, 65, Yp [(2, (.ptr 1 0)), (4, (.ptr 2 0)), (5, (.ptr 3 0)), (6, (.ptr 4 0))], [15], (Xe Tryz.prog 108 [1, 1, 0, 1, 0, 0]), (Xe Tryz.prog 108 [1, 1, 0, 1, 0, 1])⟩)])⟩
 | .h3 v4 v38 v_4_0 v_4_1 v_4_2 v_4_3 v_5_0_000 v09_6 v_9_0 v_9_1 v_10_0 => ⟨⟨86, 0, true⟩, none, (Za Tryz.prog 150 [1, 0, 0, 1, 0, 0, 1, 0, 1, 0, 0, 1, 1, 0, 0, 1, 1, 0, 0] 0), none, [], ⟨Yp [(0, (.yld 0)), (1, (.ptr 5 0)), (2, (.ptr 7 0)), (4, (ii v4)), (5, (.ptr 9 0)), (6, (ii 0)), (29, (.sl 8 0 1 (.un 1))), (30, (ii 1)), (31, (ii 0)), (36, (.dat l0.length (Zz l0))), (37, (ii (l0.length : Int))), (38, (ii v38))], z4o [(1, ⟨[.nilf], 124, none⟩), (2, ⟨[.nils], 30, none⟩), (3, ⟨[(ii 0)], 24, none⟩), (4, ⟨[(.sla 12 6 0 v_4_0.length (.un 6)), (.dat v_4_1.length (Zz v_4_1)), (ii v_4_2), (ii v_4_3)], 170, none⟩), (5, ⟨[(.sla 6 1 0 v_5_0_000 (.un 1))], 47, none⟩), (6, ⟨rows v09_6.length (Zz v09_6), 3, some ⟨1, v09_6.length, (Zz v09_6)⟩⟩), (7, ⟨[(.sl 8 0 1 (.un 1))], 168, none⟩), (8, ⟨[(.dat l0.length (Zz l0))], 22, none⟩), (9, ⟨[(ii v_9_0), (ii v_9_1), (.sl 10 0 1 (.ex 1))], 175, none⟩), (10, ⟨[(.sla 11 4 0 v_10_0.length (.un 4))], 105, none⟩), (11, ⟨rows v_10_0.length (Zz v_10_0), 114, some ⟨4, v_10_0.length, (Zz v_10_0)⟩⟩), (12, ⟨rows v_4_0.length (Zz v_4_0), 68, some ⟨6, v_4_0.length, (Zz v_4_0)⟩⟩)], 13, [], true⟩, [⟨⟨65, 0, true⟩, none, (.inRangeFunc 0 :: (Za Tryz.prog 108 [1, 1, 0, 1, 0] 1)), none, (Zy Tryz.prog 36), Yp [(4, (.ptr 2 0)), (5, (.ptr 3 0)), (6, (.ptr 4 0))]⟩, ⟨⟨25, 0, true⟩, (Vj Tryz.prog 72 [1, 1, 1, 0, 0] 3), (Za Tryz.prog 72 [1, 1, 1, 0, 0] 1), none, (Zy Tryz.prog 15), Yp [(0, (.dat l0.length (Zz l0))), (11, (.agg [.nilf])), (13, (.sl 8 0 1 (.un 1)))]⟩], (z4q [(0, ⟨.ready, none, 65, Yp [(2, (.ptr 1 0)), (4, (.ptr 2 0)), (5, (.ptr 3 0)), (6, (.ptr 4 0))], [15], (Xe Tryz.prog 108 [1, 1, 0, 1, 0, 0]), (Xe Tryz.prog 108 [1, 1, 0, 1, 0, 1])⟩)])⟩
 | .h4 v1 v2 v72 v73 v74 v000_57 v001_4 v_0_0 v_0_1 v_0_2 v_5_0_000 v09_6 v_9_0 => ⟨⟨101, 0, true⟩, none, (Za Tryz.prog 131 [1, 1, 1, 0, 0] 0), none, [], ⟨Yp [(0, (.ptr 0 0)), (1, (ii v1)), (2, (ii v2)), (72, (.dat v72.length (Zz v72))), (73, (ii v73)), (74, (ii v74))], z4o [(0, ⟨[(.sla 10 6 0 v_0_0.length (.un 6)), (.dat v_0_1.length (Zz v_0_1)), (ii v_0_2), (ii v2)], 170, none⟩), (2, ⟨[.nilf], 124, none⟩), (3, ⟨[.nils], 30, none⟩), (4, ⟨[(ii 0)], 24, none⟩), (5, ⟨[(.sla 6 1 0 v_5_0_000 (.un 1))], 47, none⟩), (6, ⟨rows v09_6.length (Zz v09_6), 3, some ⟨1, v09_6.length, (Zz v09_6)⟩⟩), (7, ⟨[(.sl 8 0 1 (.un 1))], 168, none⟩), (8, ⟨[(.dat l0.length (Zz l0))], 22, none⟩), (9, ⟨[(.dat v_9_0.length (Zz v_9_0))], 105, none⟩), (10, ⟨rows v_0_0.length (Zz v_0_0), 68, some ⟨6, v_0_0.length, (Zz v_0_0)⟩⟩)], 11, [], true⟩, [⟨⟨65, 0, true⟩, (Vj Tryz.prog 108 [1, 1, 0, 1, 0, 1, 0, 1, 1, 1] 5), (Za Tryz.prog 108 [1, 1, 0, 1, 0, 1, 0, 1, 1, 1] 1), (some 1), [], Yp [(6, (.ptr 0 0)), (54, (ii v1)), (56, (ii v2)), (57, (.dat v000_57.length (Zz v000_57)))]⟩, ⟨⟨86, 0, true⟩, (Vj Tryz.prog 150 [1, 0, 0, 1, 0, 0, 1, 1, 0] 2), (Za Tryz.prog 150 [1, 0, 0, 1, 0, 0, 1, 1, 0] 1), none, [], Yp [(0, (.yld 1)), (1, (.ptr 5 0)), (2, (.ptr 7 0)), (4, (ii v001_4)), (82, (.yld 1)), (83, (.agg [(ii v1), (ii v2), (.sl 9 0 1 (.ex 1))]))]⟩, ⟨⟨65, 0, true⟩, none, (.inRangeFunc 1 :: (Za Tryz.prog 108 [1, 1, 0, 1, 0] 1)), none, (Zy Tryz.prog 36), Yp [(4, (.ptr 3 0)), (5, (.ptr 4 0)), (6, (.ptr 0 0))]⟩, ⟨⟨25, 0, true⟩, (Vj Tryz.prog 72 [1, 1, 1, 0, 0] 3), (Za Tryz.prog 72 [1, 1, 1, 0, 0] 1), none, (Zy Tryz.prog 15), Yp [(0, (.dat l0.length (Zz l0))), (11, (.agg [.nilf])), (13, (.sl 8 0 1 (.un 1)))]⟩], (z4q [(1, ⟨.busy, none, 65, Yp [(2, (.ptr 2 0)), (4, (.ptr 3 0)), (5, (.ptr 4 0)), (6, (.ptr 0 0))], [15], (Xe Tryz.prog 108 [1, 1, 0, 1, 0, 0]), (Xe Tryz.prog 108 [1, 1, 0, 1, 0, 1])⟩)])⟩
 | .h5 v2 v8 v000_54 v000_57 v001_4 v_0_0 v_0_1 v_0_2 v_0_3 v_6_0_000 v09_7 v_10_0 => ⟨⟨101, 0, true⟩, none, (Za Tryz.prog 131 [0, 1, 0, 0, 1, 0, 0] 0), none, [], ⟨Yp [(0, (.ptr 0 0)), (2, (ii v2)), (8, (ii v8))], z4o [(0, ⟨[(.sla 1 6 0 v_0_0.length (.un 6)), (.dat v_0_1.length (Zz v_0_1)), (ii v_0_2), (ii v_0_3)], 170, none⟩), (1, ⟨rows v_0_0.length (Zz v_0_0), 68, some ⟨6, v_0_0.length, (Zz v_0_0)⟩⟩), (3, ⟨[.nilf], 124, none⟩), (4, ⟨[.nils], 30, none⟩), (5, ⟨[(ii 0)], 24, none⟩), (6, ⟨[(.sla 7 1 0 v_6_0_000 (.un 1))], 47, none⟩), (7, ⟨rows v09_7.length (Zz v09_7), 3, some ⟨1, v09_7.length, (Zz v09_7)⟩⟩), (8, ⟨[(.sl 9 0 1 (.un 1))], 168, none⟩), (9, ⟨[(.dat l0.length (Zz l0))], 22, none⟩), (10, ⟨[(.dat v_10_0.length (Zz v_10_0))], 105, none⟩)], 11, [], true⟩, [⟨⟨65, 0, true⟩, (Vj Tryz.prog 108 [1, 1, 0, 1, 0, 1, 0, 1, 1, 1] 5), (Za Tryz.prog 108 [1, 1, 0, 1, 0, 1, 0, 1, 1, 1] 1), (some 2), [], Yp [(6, (.ptr 0 0)), (54, (ii v000_54)), (56, (ii v2)), (57, (.dat v000_57.length (Zz v000_57)))]⟩, ⟨⟨86, 0, true⟩, (Vj Tryz.prog 150 [1, 0, 0, 1, 0, 0, 1, 1, 0] 2), (Za Tryz.prog 150 [1, 0, 0, 1, 0, 0, 1, 1, 0] 1), none, [], Yp [(0, (.yld 2)), (1, (.ptr 6 0)), (2, (.ptr 8 0)), (4, (ii v001_4)), (82, (.yld 2)), (83, (.agg [(ii v000_54), (ii v2), (.sl 10 0 1 (.ex 1))]))]⟩, ⟨⟨65, 0, true⟩, none, (.inRangeFunc 2 :: (Za Tryz.prog 108 [1, 1, 0, 1, 0] 1)), none, (Zy Tryz.prog 36), Yp [(4, (.ptr 4 0)), (5, (.ptr 5 0)), (6, (.ptr 0 0))]⟩, ⟨⟨25, 0, true⟩, (Vj Tryz.prog 72 [1, 1, 1, 0, 0] 3), (Za Tryz.prog 72 [1, 1, 1, 0, 0] 1), none, (Zy Tryz.prog 15), Yp [(0, (.dat l0.length (Zz l0))), (11, (.agg [.nilf])), (13, (.sl 9 0 1 (.un 1)))]⟩], (z4q [(2, ⟨.busy, none, 65, Yp [(2, (.ptr 3 0)), (4, (.ptr 4 0)), (5, (.ptr 5 0)), (6, (.ptr 0 0))], [15], (Xe Tryz.prog 108 [1, 1, 0, 1, 0, 0]), (Xe Tryz.prog 108 [1, 1, 0, 1, 0, 1])⟩)])⟩
def sckN0 : List (Option (List Nat)) := [some [0, 1, 7, 8], some [5, 6], some [0, 8]]
def sckM0 : List (Option (List Nat)) := []
def v2z : List (Option (List Nat)) := [some [1, 3, 8, 9, 10, 14, 15, 16], some [2, 4, 5, 6, 13], some [0, 11, 13]]
def v3b : List (Option (List Nat)) := []
def v2y : List (Option (List Nat)) := [some [0, 1, 2, 4], some [4, 5, 6], some [0, 11, 13]]
def v3a : List (Option (List Nat)) := [some [2, 4, 5, 6], none, none, none, none, none, none, none, none, none]
def w3q : List (Option (List Nat)) := [some [0, 1, 2, 4, 5, 6, 29, 30, 31, 36, 37, 38], some [4, 5, 6], some [0, 11, 13]]
def w3s : List (Option (List Nat)) := [some [2, 4, 5, 6], none, none, none, none, none, none, none, none, none, none, none, none]
def w3p : List (Option (List Nat)) := [some [0, 1, 2, 72, 73, 74], some [6, 54, 56, 57], some [0, 1, 2, 4, 82, 83], some [4, 5, 6], some [0, 11, 13]]
def w3r : List (Option (List Nat)) := [none, some [2, 4, 5, 6], none, none, none, none, none, none, none, none, none]
def sckN5 : List (Option (List Nat)) := [some [0, 2, 8], some [6, 54, 56, 57], some [0, 1, 2, 4, 82, 83], some [4, 5, 6], some [0, 11, 13]]
def sckM5 : List (Option (List Nat)) := [none, none, some [2, 4, 5, 6], none, none, none, none, none, none, none, none]
def Xz (l0 : List R6) : sckS → Xc sckS
 | .h0 v8 => (bif (decide (v8 < (l0.length : Int))) then (bif ((decide (0 ≤ v8 ∧ v8 < (l0.length : Int))) && true) then (bif (!(v2g (rd l0 v8.toNat).a (rd l0 v8.toNat).b (rd l0 v8.toNat).c (rd l0 v8.toNat).d (rd l0 v8.toNat).e (rd l0 v8.toNat).f)) then (bif (decide (v8 ≥ 0)) then (.ret [(.int .i64 8)]) else (.to (.h1 0 ([] : List Int)))) else (.to (.h0 (IntKind.wrap .i64 (v8 + 1))))) else .stuck) else (.to (.h1 0 ([] : List Int))))
 | .h1 v16 v_2_0 => (bif (decide (v16 < (l0.length : Int))) then (bif ((decide (0 ≤ v16 ∧ v16 < (l0.length : Int))) && true) then (bif (Nat.beq 1 1 && ((decide (0 + v_2_0.length = v_2_0.length)) && decide ((v_2_0.length + 2 + 1) * (8 + 1) ≤ Jv))) then (.to (.h1 (IntKind.wrap .i64 (v16 + 1)) (v_2_0 ++ [(rd l0 v16.toNat).c, (rd l0 v16.toNat).f]))) else .stuck) else .stuck) else (bif (decide (v_2_0.length < 4611686018427387904)) then (bif (decide (v_2_0.length = v_2_0.length)) then (.to (.h2 1 ([] : List R6) ([] : List R4) 0 0 (w8c (Zm v_2_0.length (cOf (Zz (Yh (Zm v_2_0.length (cOf (Zz v_2_0)))))))) (Xx (Zm v_2_0.length (cOf (Zz (Yh (Zm v_2_0.length (cOf (Zz v_2_0)))))))))) else .stuck) else .stuck))
 | .h2 v4 v_4_0 v_4_1 v_4_2 v_4_3 v_5_0_000 v09_6 => (bif (decide (v4 < ((v_5_0_000 : Nat) : Int))) then (bif ((decide (0 ≤ (IntKind.wrap .i64 (v4 - 1)) ∧ (IntKind.wrap .i64 (v4 - 1)) < ((v_5_0_000 : Nat) : Int))) && true) then (bif (decide ((0 + (Int.toNat (IntKind.wrap .i64 (v4 - 1)))) < v09_6.length)) then (bif ((decide (0 ≤ v4 ∧ v4 < ((v_5_0_000 : Nat) : Int))) && true) then (bif (decide ((0 + v4.toNat) < v09_6.length)) then (.to (.h3 v4 0 v_4_0 v_4_1 v_4_2 v_4_3 v_5_0_000 v09_6 (rd v09_6 (0 + (Int.toNat (IntKind.wrap .i64 (v4 - 1))))) (rd v09_6 (0 + v4.toNat)) ([] : List R4))) else .stuck) else .stuck) else .stuck) else .stuck) else (bif (decide ((v_4_0.length : Int) > 400)) then (.ret [(.int .i64 8)]) else (bif (Nat.beq 6 6 && (decide (0 + v_4_0.length ≤ v_4_0.length) && Qa (Zz v_4_0))) then (bif (Wa (lst R6 (v_4_0.length) (fun k => (Zz v_4_0) (0 + k))) (cvT l0)) then (bif (!(Uw (lst R6 (v_4_0.length) (fun k => (Zz v_4_0) (0 + k))) (cvT l0))) then (.ret [(.int .i64 8)]) else (.ret [(.int .i64 0)])) else .stuck) else .stuck)))
 | .h3 v4 v38 v_4_0 v_4_1 v_4_2 v_4_3 v_5_0_000 v09_6 v_9_0 v_9_1 v_10_0 => (bif (decide (v38 < (l0.length : Int))) then (bif ((decide (0 ≤ v38 ∧ v38 < (l0.length : Int))) && true) then (bif (decide ((rd l0 v38.toNat).c ≤ v_9_0)) then (bif (decide (v_9_0 < (rd l0 v38.toNat).f)) then (bif (Nat.beq 4 4 && ((decide (0 + v_10_0.length = v_10_0.length)) && decide ((v_10_0.length + 1 + 1) * (32 + 1) ≤ Jv))) then (.to (.h3 v4 (IntKind.wrap .i64 (v38 + 1)) v_4_0 v_4_1 v_4_2 v_4_3 v_5_0_000 v09_6 v_9_0 v_9_1 (v_10_0 ++ [(R4.mk (rd l0 v38.toNat).a (rd l0 v38.toNat).b (rd l0 v38.toNat).d (rd l0 v38.toNat).e)]))) else .stuck) else (.to (.h3 v4 (IntKind.wrap .i64 (v38 + 1)) v_4_0 v_4_1 v_4_2 v_4_3 v_5_0_000 v09_6 v_9_0 v_9_1 v_10_0))) else (.to (.h3 v4 (IntKind.wrap .i64 (v38 + 1)) v_4_0 v_4_1 v_4_2 v_4_3 v_5_0_000 v09_6 v_9_0 v_9_1 v_10_0))) else .stuck) else (bif (Qn (cvT v_10_0)) then (bif ((We (cvT v_10_0)) != 0) then (.ret [(.int .i64 8)]) else (bif (decide ((((Yj (cvT v_10_0)).length : Nat) : Int) > 0)) then (bif (v_4_3 == v_9_0) then (bif (Wu (cvT v_4_1) (cvT (Yj (cvT v_10_0)))) then (bif (Uv (cvT v_4_1) (cvT (Yj (cvT v_10_0)))) then (.to (.h5 v_9_1 v_4_2 v_9_0 (Yj (cvT v_10_0)) v4 v_4_0 v_4_1 v_4_2 v_4_3 v_5_0_000 v09_6 v_10_0)) else (.to (.h4 v_9_0 v_9_1 (Yj (cvT v_10_0)) (((Yj (cvT v_10_0)).length : Nat) : Int) 0 (Yj (cvT v_10_0)) v4 v_4_0 (Yj (cvT v_10_0)) (v_4_0.length : Int) v_5_0_000 v09_6 v_10_0))) else .stuck) else (.to (.h4 v_9_0 v_9_1 (Yj (cvT v_10_0)) (((Yj (cvT v_10_0)).length : Nat) : Int) 0 (Yj (cvT v_10_0)) v4 v_4_0 (Yj (cvT v_10_0)) (v_4_0.length : Int) v_5_0_000 v09_6 v_10_0))) else (.to (.h4 v_9_0 v_9_1 (Yj (cvT v_10_0)) (((Yj (cvT v_10_0)).length : Nat) : Int) 0 (Yj (cvT v_10_0)) v4 v_4_0 (Yj (cvT v_10_0)) (v_4_0.length : Int) v_5_0_000 v09_6 v_10_0)))) else .stuck))
 | .h4 v1 v2 v72 v73 v74 v000_57 v001_4 v_0_0 v_0_1 v_0_2 v_5_0_000 v09_6 v_9_0 => (bif (decide (v74 < v73)) then (bif ((decide (0 ≤ v74 ∧ v74 < (v72.length : Int))) && true) then (bif (Nat.beq 6 6 && ((decide (0 + v_0_0.length = v_0_0.length)) && decide ((v_0_0.length + 1 + 1) * (48 + 1) ≤ Jv))) then (.to (.h4 v1 v2 v72 v73 (IntKind.wrap .i64 (v74 + 1)) v000_57 v001_4 (v_0_0 ++ [(R6.mk (rd v72 v74.toNat).a (rd v72 v74.toNat).b v1 (rd v72 v74.toNat).c (rd v72 v74.toNat).d v2)]) v_0_1 v_0_2 v_5_0_000 v09_6 v_9_0)) else .stuck) else .stuck) else (.to (.h2 (IntKind.wrap .i64 (v001_4 + 1)) v_0_0 v_0_1 v_0_2 v2 v_5_0_000 v09_6)))
 | .h5 v2 v8 v000_54 v000_57 v001_4 v_0_0 v_0_1 v_0_2 v_0_3 v_6_0_000 v09_7 v_10_0 => (bif (decide (v8 < (v_0_0.length : Int))) then (bif ((decide (0 ≤ v8 ∧ v8 < (v_0_0.length : Int))) && true) then (bif (decide ((0 + v8.toNat) < v_0_0.length)) then (.to (.h5 v2 (IntKind.wrap .i64 (v8 + 1)) v000_54 v000_57 v001_4 (v_0_0.set (0 + v8.toNat) (R6.mk (rd v_0_0 (0 + v8.toNat)).a (rd v_0_0 (0 + v8.toNat)).b (rd v_0_0 (0 + v8.toNat)).c (rd v_0_0 (0 + v8.toNat)).d (rd v_0_0 (0 + v8.toNat)).e v2)) v_0_1 v_0_2 v_0_3 v_6_0_000 v09_7 v_10_0)) else .stuck) else .stuck) else (.to (.h2 (IntKind.wrap .i64 (v001_4 + 1)) v_0_0 v_0_1 v_0_2 v2 v_6_0_000 v09_7)))
def z7u (l0 : List R6) : Xc sckS := (bif (decide ((l0.length : Int) > 400)) then (.ret [(.int .i64 4)]) else (.to (.h0 0)))
theorem x4c (l0 : List R6) : ∀ s, Wy Tryz.prog (Zy Tryz.prog 72) (sckC l0) (sckC l0 s) (Xz l0 s)
 | .h0 v8 => (lb (fun k0 => (lo fun o1_0 => (lb (fun k1 => (lb (fun k2 => (lr 25 72 [1, 1, 0, 1, 0, 0] 1 15 [(2, (ii 8))] (sl Wn 53 [] ⟨[], [], [some [2]], []⟩ ⟨[], [], []⟩ (trs 3 []) (tt k2 (tt k1 (ww o1_0 (tt k0 nn))))))) (fun k2 => (sl Wn 113 [(3, 1, Zz ([] : List Int))] ⟨[6, 1, 7, 2, 3, 4, 5, 8], [], v2z, v3b⟩ ⟨[], [.keep, .keep, .cells [.grow 7 1], .keep, .keep, .keep, .keep, .keep], []⟩ [true, true, false, true] (pp (fl ([] : List Int) nn) (tt k2 (tt k1 (ww o1_0 (tt k0 nn))))))))) (fun k1 => (sl Wn 44 [] ⟨[], [], sckN0, sckM0⟩ ⟨[], [], []⟩ [true, false] (tt k1 (ww o1_0 (tt k0 nn)))))))) (fun k0 => (sl Wn 82 [(3, 1, Zz ([] : List Int))] ⟨[5, 0, 6, 1, 2, 3, 4, 7], [], v2z, v3b⟩ ⟨[], [.keep, .keep, .cells [.grow 7 1], .keep, .keep, .keep, .keep, .keep], []⟩ [false, false, true] (pp (fl ([] : List Int) nn) (tt k0 nn)))))
 | .h1 v16 v_2_0 => (lb (fun k0 => (lo fun o0 => (lo fun o1 => (sl Wn 34 [] ⟨[0, 1, 2, 3, 4, 5, 6, 10], [], v2z, v3b⟩ ⟨[], [.keep, .keep, .cells [.len (v_2_0 ++ [(rd l0 (tn v16)).c, (rd l0 (tn v16)).f]).length], .keep, .keep, .keep, .keep, .rowed 1 (v_2_0 ++ [(rd l0 (tn v16)).c, (rd l0 (tn v16)).f]).length (Zz (v_2_0 ++ [(rd l0 (tn v16)).c, (rd l0 (tn v16)).f]))], []⟩ [true] (pp (xL (v_2_0.length + 2) (v_2_0 ++ [(rd l0 (tn v16)).c, (rd l0 (tn v16)).f]).length) (pp (xL (v_2_0.length + 2) (v_2_0 ++ [(rd l0 (tn v16)).c, (rd l0 (tn v16)).f]).length) (pp (xS (v_2_0.length + 2) (Zd (Zz v_2_0) 0 v_2_0.length 1 [(ii (rd l0 (tn v16)).c), (ii (rd l0 (tn v16)).f)]) (Zz (v_2_0 ++ [(rd l0 (tn v16)).c, (rd l0 (tn v16)).f]))) (pp (pp (xF (Zd (Zz v_2_0) 0 v_2_0.length 1 [(ii (rd l0 (tn v16)).c), (ii (rd l0 (tn v16)).f)])) nn) (ww o1 (ww o0 (tt k0 nn))))))))))) (fun k0 => (lo fun o0 => (lo fun o1 => (sl Wn 46 [(68, 6, Zz ([] : List R6))] ⟨[8, 3, 4, 5, 6, 2, 7, 0, 1, 9], [], v2y, v3a⟩ ⟨[], (kpB 4 [.cells [.grow 9 6, .list 0 (Zz ([] : List R4)), .keep, .keep], .keep, .rowed 1 (Xx (Zm v_2_0.length (cOf (Zz (Yh (Zm v_2_0.length (cOf (Zz v_2_0)))))))).length (Zz (Xx (Zm v_2_0.length (cOf (Zz (Yh (Zm v_2_0.length (cOf (Zz v_2_0))))))))), .keep, .keep, .keep]), []⟩ [false, false] (pp (xL v_2_0.length (Xx (Zm v_2_0.length (cOf (Zz (Yh (Zm v_2_0.length (cOf (Zz v_2_0)))))))).length (by first | exact Qs _ _ | exact Vn rfl)) (pp (xS v_2_0.length (Zz (Xx (Zm v_2_0.length (cOf (Zz (Yh (Zm v_2_0.length (cOf (Zz v_2_0))))))))) (Zz (Xx (Zm v_2_0.length (cOf (Zz (Yh (Zm v_2_0.length (cOf (Zz v_2_0)))))))))) (pp (fl (Xx (Zm v_2_0.length (cOf (Zz (Yh (Zm v_2_0.length (cOf (Zz v_2_0)))))))) (fl ([] : List R6) nn)) (pp (pp (xG (Nat.beq 1 1)) (pp (xG (Nat.beq 1 1)) (pp (xG (Nat.beq 0 0)) (pp (xG (decide (v_2_0.length = v_2_0.length))) (pp (xG (isI (Zz (Yh (Zm v_2_0.length (cOf (Zz v_2_0))))))) (xG (decide (v_2_0.length < 4611686018427387904)))))))) (pp (pp (xG (Nat.beq 1 1)) (pp (xG (Nat.beq 1 1)) (pp (xG (Nat.beq 0 0)) (pp (xG (decide (v_2_0.length = v_2_0.length))) (pp (xG (isI (Zz v_2_0))) (xG (decide (v_2_0.length < 4611686018427387904)))))))) (tt k0 nn)))))))))))
 | .h2 v4 v_4_0 v_4_1 v_4_2 v_4_3 v_5_0_000 v09_6 => (lb (fun k0 => (lo fun o0 => (lo fun o1 => (lo fun o2 => (lo fun o3 => (sl Wn 48 [(114, 4, Zz ([] : List R4))] ⟨[0, 1, 2, 3, 4, 5, 6, 7, 8, 10, 11, 12, 9], [], w3q, w3s⟩ ⟨[], (kpB 10 [.cells [.grow 11 4], .keep, .keep]), []⟩ (trs 3 []) (pp (fl v09_6 (fl ([] : List R4) (fl v_4_0 nn))) (ww o3 (ww o2 (ww o1 (ww o0 (tt k0 nn)))))))))))) (fun k0 => (lb (fun k1 => (lr 25 72 [1, 1, 1, 0, 1, 1, 0, 0] 1 15 [(2, (ii 8))] (sl Wn 50 [] ⟨[], [], [some [2]], []⟩ ⟨[], [], []⟩ [false, true, true, true, true, true, true] (tt k1 (tt k0 nn))))) (fun k1 => (lo fun o2_0 => (lo fun o2_1 => (lb (fun k2 => (lr 25 72 [1, 1, 1, 0, 1, 1, 0, 0] 1 15 [(2, (ii 8))] (sl Wn 53 [] ⟨[], [], [some [2]], []⟩ ⟨[], [], []⟩ [false, false, false, false, false, false, true] (tt k2 (pp (pp (pp (xw o2_0) (pp nn nn)) (pp (xI R6 (v_4_0.length) (fun k => (Zz v_4_0) (0 + k))) (pp (xr l0) (xw o2_1)))) (tt k1 (tt k0 nn))))))) (fun k2 => (lr 25 3 [1, 1, 1, 1, 1, 1, 0] 1 15 [(2, (ii 0))] (sl Wn 54 [] ⟨[], [], [some [2]], []⟩ ⟨[], [], []⟩ [false, false, false, false, false, false, false] (tt k2 (pp (pp (pp (xw o2_0) (pp nn nn)) (pp (xI R6 (v_4_0.length) (fun k => (Zz v_4_0) (0 + k))) (pp (xr l0) (xw o2_1)))) (tt k1 (tt k0 nn))))))))))))))
 | .h3 v4 v38 v_4_0 v_4_1 v_4_2 v_4_3 v_5_0_000 v09_6 v_9_0 v_9_1 v_10_0 => (lb (fun k0 => (lo fun o1_0 => (lb (fun k1 => (lb (fun k2 => (lo fun o0 => (sl Wn 41 [] ⟨[0, 1, 2, 3, 4, 5, 6, 7, 8, 9, 10, 15, 12], [], w3q, w3s⟩ ⟨[], (kpB 10 [.cells [.len (v_10_0 ++ [(R4.mk (rd l0 (tn v38)).a (rd l0 (tn v38)).b (rd l0 (tn v38)).d (rd l0 (tn v38)).e)]).length], .rowed 4 (v_10_0 ++ [(R4.mk (rd l0 (tn v38)).a (rd l0 (tn v38)).b (rd l0 (tn v38)).d (rd l0 (tn v38)).e)]).length (Zz (v_10_0 ++ [(R4.mk (rd l0 (tn v38)).a (rd l0 (tn v38)).b (rd l0 (tn v38)).d (rd l0 (tn v38)).e)])), .keep]), []⟩ (trs 8 []) (pp (xL (v_10_0.length + 1) (v_10_0 ++ [(R4.mk (rd l0 (tn v38)).a (rd l0 (tn v38)).b (rd l0 (tn v38)).d (rd l0 (tn v38)).e)]).length) (pp (xL (v_10_0.length + 1) (v_10_0 ++ [(R4.mk (rd l0 (tn v38)).a (rd l0 (tn v38)).b (rd l0 (tn v38)).d (rd l0 (tn v38)).e)]).length) (pp (xS (v_10_0.length + 1) (Zd (Zz v_10_0) 0 v_10_0.length 4 [(ii (rd l0 (tn v38)).a), (ii (rd l0 (tn v38)).b), (ii (rd l0 (tn v38)).d), (ii (rd l0 (tn v38)).e)]) (Zz (v_10_0 ++ [(R4.mk (rd l0 (tn v38)).a (rd l0 (tn v38)).b (rd l0 (tn v38)).d (rd l0 (tn v38)).e)]))) (pp (fl v09_6 (pp (xF (Zd (Zz v_10_0) 0 v_10_0.length 4 [(ii (rd l0 (tn v38)).a), (ii (rd l0 (tn v38)).b), (ii (rd l0 (tn v38)).d), (ii (rd l0 (tn v38)).e)])) (fl v_4_0 nn))) (ww o0 (tt k2 (tt k1 (ww o1_0 (tt k0 nn)))))))))))) (fun k2 => (sl Wn 41 [] ⟨(List.range 13), [], w3q, w3s⟩ ⟨[], [], []⟩ (trs 7 [false]) (pp (fl v09_6 (fl v_10_0 (fl v_4_0 nn))) (tt k2 (tt k1 (ww o1_0 (tt k0 nn))))))))) (fun k1 => (sl Wn 41 [] ⟨(List.range 13), [], w3q, w3s⟩ ⟨[], [], []⟩ [true, false, false, false, false, false, false, false] (pp (fl v09_6 (fl v_10_0 (fl v_4_0 nn))) (tt k1 (ww o1_0 (tt k0 nn))))))))) (fun k0 => (Wm (sl Wn (C' := ⟨⟨65, 0, true⟩, (Vj Tryz.prog 108 [1, 1, 0, 1, 0, 1, 0, 0] 4), (Za Tryz.prog 108 [1, 1, 0, 1, 0, 1, 0, 0] 1), (some 0), [], ⟨Yp [(2, (.ptr 1 0)), (4, (.ptr 2 0)), (5, (.ptr 3 0)), (6, (.ptr 4 0)), (7, (.ptr 6 0)), (20, (.dat v_10_0.length (Zz v_10_0)))], z4o [(1, ⟨[.nilf], 124, none⟩), (2, ⟨[.nils], 30, none⟩), (3, ⟨[(ii 0)], 24, none⟩), (4, ⟨[(.sla 5 6 0 v_4_0.length (.un 6)), (.dat v_4_1.length (Zz v_4_1)), (ii v_4_2), (ii v_4_3)], 170, none⟩), (5, ⟨rows v_4_0.length (Zz v_4_0), 68, some ⟨6, v_4_0.length, (Zz v_4_0)⟩⟩), (6, ⟨[(ii v_9_0), (ii v_9_1), (.sl 7 0 1 (.ex 1))], 175, none⟩), (7, ⟨[(.dat v_10_0.length (Zz v_10_0))], 105, none⟩), (8, ⟨[(.sla 9 1 0 v_5_0_000 (.un 1))], 47, none⟩), (9, ⟨rows v09_6.length (Zz v09_6), 3, some ⟨1, v09_6.length, (Zz v09_6)⟩⟩), (10, ⟨[(.sl 11 0 1 (.un 1))], 168, none⟩), (11, ⟨[(.dat l0.length (Zz l0))], 22, none⟩)], 12, [], true⟩, [⟨⟨86, 0, true⟩, (Vj Tryz.prog 150 [1, 0, 0, 1, 0, 0, 1, 1, 0] 2), (Za Tryz.prog 150 [1, 0, 0, 1, 0, 0, 1, 1, 0] 1), none, [], Yp [(0, (.yld 0)), (1, (.ptr 8 0)), (2, (.ptr 10 0)), (4, (ii v4)), (82, (.yld 0)), (83, (.agg [(ii v_9_0), (ii v_9_1), (.sl 7 0 1 (.ex 1))]))]⟩, ⟨⟨65, 0, true⟩, none, (.inRangeFunc 0 :: (Za Tryz.prog 108 [1, 1, 0, 1, 0] 1)), none, (Zy Tryz.prog 36), Yp [(4, (.ptr 2 0)), (5, (.ptr 3 0)), (6, (.ptr 4 0))]⟩, ⟨⟨25, 0, true⟩, (Vj Tryz.prog 72 [1, 1, 1, 0, 0] 3), (Za Tryz.prog 72 [1, 1, 1, 0, 0] 1), none, (Zy Tryz.prog 15), Yp [(0, (.dat l0.length (Zz l0))), (11, (.agg [.nilf])), (13, (.sl 11 0 1 (.un 1)))]⟩], (z4q [(0, ⟨.busy, none, 65, Yp [(2, (.ptr 1 0)), (4, (.ptr 2 0)), (5, (.ptr 3 0)), (6, (.ptr 4 0))], [15], (Xe Tryz.prog 108 [1, 1, 0, 1, 0, 0]), (Xe Tryz.prog 108 [1, 1, 0, 1, 0, 1])⟩)])⟩) 37 [] ⟨[0, 1, 2, 3, 4, 12, 13, 10, 5, 6, 7, 8], [11], [some [2, 4, 5, 6, 7, 20], some [0, 1, 2, 4, 82, 83], some [4, 5, 6], some [0, 11, 13]], [some [2, 4, 5, 6], none, none, none, none, none, none, none, none, none, none, none]⟩ ⟨[(20, .frz v_10_0.length v_10_0.length (Zz v_10_0) (Zz v_10_0))], [.keep, .keep, .keep, .keep, .keep, .keep, .keep, .cells [.frz v_10_0.length v_10_0.length (Zz v_10_0) (Zz v_10_0)], .keep, .keep, .keep, .keep], []⟩ [false, false] (pp (xZ (z4u 4 4 0 v_10_0.length v_10_0.length (Zz v_10_0)) v_10_0.length (Zz v_10_0)) (pp (xL v_10_0.length v_10_0.length) (pp (xS v_10_0.length (Zz v_10_0) (Zz v_10_0)) (pp (xZ (z4u 4 4 0 v_10_0.length v_10_0.length (Zz v_10_0)) v_10_0.length (Zz v_10_0)) (pp (xL v_10_0.length v_10_0.length) (pp (xS v_10_0.length (Zz v_10_0) (Zz v_10_0)) (pp (fl v_4_0 (fl v09_6 nn)) (pp (fl v_10_0 nn) (tt k0 nn)))))))))) (lo fun o1_0 => (lb (fun k1 => (lr 25 72 [1, 1, 1, 0, 1, 1, 0, 0] 1 15 [(2, (ii 8))] (sl Wn 67 [] ⟨[], [], [some [2]], []⟩ ⟨[], [], []⟩ [false, true, true, true, true, true, true, true] (tt k1 (tt k1 (pp (pp (xr v_10_0) (xw o1_0)) nn)))))) (fun k1 => (lb (fun k2 => (lb (fun k3 => (lo fun o4_0 => (lb (fun k4 => (sl Wn 75 [] ⟨[4, 5, 0, 1, 2, 3, 8, 9, 10, 11, 7], [], sckN5, sckM5⟩ ⟨[], [], []⟩ [false, false, true, true, true, true, true, true, true, true, true, true, true, true, true] (pp (fl v_4_0 (fl v09_6 nn)) (tt k4 (pp (pp (xr v_4_1) (pp (xI R4 (Yj (cvT v_10_0)).length (Zz (Yj (cvT v_10_0)))) (xw o4_0))) (tt k3 (tt k2 (tt k1 (pp (pp (xr v_10_0) (xw o1_0)) nn))))))))) (fun k4 => (sl Wn 95 [] ⟨[4, 0, 1, 2, 3, 8, 9, 10, 11, 7, 5], [], w3p, w3r⟩ ⟨[], [], []⟩ [false, false, true, true, true, true, true, true, true, true, true, true, true, true, false] (pp (fl v09_6 (fl v_4_0 nn)) (tt k4 (pp (pp (xr v_4_1) (pp (xI R4 (Yj (cvT v_10_0)).length (Zz (Yj (cvT v_10_0)))) (xw o4_0))) (tt k3 (tt k2 (tt k1 (pp (pp (xr v_10_0) (xw o1_0)) nn)))))))))))) (fun k3 => (sl Wn 95 [] ⟨[4, 0, 1, 2, 3, 8, 9, 10, 11, 7, 5], [], w3p, w3r⟩ ⟨[], [], []⟩ [false, false, true, true, true, true, true, true, false, false, false, false, false, false, false] (pp (fl v09_6 (fl v_4_0 nn)) (tt k3 (tt k2 (tt k1 (pp (pp (xr v_10_0) (xw o1_0)) nn))))))))) (fun k2 => (sl Wn 95 [] ⟨[4, 0, 1, 2, 3, 8, 9, 10, 11, 7, 5], [], w3p, w3r⟩ ⟨[], [], []⟩ [false, false, false, false, false, false, false, false, false, false, false, false, false, false, false] (pp (fl v09_6 (fl v_4_0 nn)) (tt k2 (tt k1 (pp (pp (xr v_10_0) (xw o1_0)) nn)))))))))))))
 | .h4 v1 v2 v72 v73 v74 v000_57 v001_4 v_0_0 v_0_1 v_0_2 v_5_0_000 v09_6 v_9_0 => (lb (fun k0 => (lo fun o0 => (lo fun o1 => (sl Wn 23 [] ⟨[0, 1, 2, 3, 4, 5, 6, 7, 8, 9, 13], [], w3p, w3r⟩ ⟨[], [.cells [.len (v_0_0 ++ [(R6.mk (rd v72 (tn v74)).a (rd v72 (tn v74)).b v1 (rd v72 (tn v74)).c (rd v72 (tn v74)).d v2)]).length, .keep, .keep, .keep], .keep, .keep, .keep, .keep, .keep, .keep, .keep, .keep, .keep, .rowed 6 (v_0_0 ++ [(R6.mk (rd v72 (tn v74)).a (rd v72 (tn v74)).b v1 (rd v72 (tn v74)).c (rd v72 (tn v74)).d v2)]).length (Zz (v_0_0 ++ [(R6.mk (rd v72 (tn v74)).a (rd v72 (tn v74)).b v1 (rd v72 (tn v74)).c (rd v72 (tn v74)).d v2)]))], []⟩ [true] (pp (xL (v_0_0.length + 1) (v_0_0 ++ [(R6.mk (rd v72 (tn v74)).a (rd v72 (tn v74)).b v1 (rd v72 (tn v74)).c (rd v72 (tn v74)).d v2)]).length) (pp (xL (v_0_0.length + 1) (v_0_0 ++ [(R6.mk (rd v72 (tn v74)).a (rd v72 (tn v74)).b v1 (rd v72 (tn v74)).c (rd v72 (tn v74)).d v2)]).length) (pp (xS (v_0_0.length + 1) (Zd (Zz v_0_0) 0 v_0_0.length 6 [(ii (rd v72 (tn v74)).a), (ii (rd v72 (tn v74)).b), (ii v1), (ii (rd v72 (tn v74)).c), (ii (rd v72 (tn v74)).d), (ii v2)]) (Zz (v_0_0 ++ [(R6.mk (rd v72 (tn v74)).a (rd v72 (tn v74)).b v1 (rd v72 (tn v74)).c (rd v72 (tn v74)).d v2)]))) (pp (fl v09_6 (pp (xF (Zd (Zz v_0_0) 0 v_0_0.length 6 [(ii (rd v72 (tn v74)).a), (ii (rd v72 (tn v74)).b), (ii v1), (ii (rd v72 (tn v74)).c), (ii (rd v72 (tn v74)).d), (ii v2)])) nn)) (ww o1 (ww o0 (tt k0 nn))))))))))) (fun k0 => (sl Wn 22 [] ⟨[1, 2, 3, 4, 0, 5, 6, 7, 8, 10], [], v2y, v3a⟩ ⟨[], [], []⟩ [false, false] (pp (fl v09_6 (fl v_0_0 nn)) (tt k0 nn)))))
 | .h5 v2 v8 v000_54 v000_57 v001_4 v_0_0 v_0_1 v_0_2 v_0_3 v_6_0_000 v09_7 v_10_0 => (lb (fun k0 => (lo fun o0 => (lo fun o1 => (sl Wn 34 [] ⟨(List.range 11), [], sckN5, sckM5⟩ ⟨[], [.cells [.len (v_0_0.set (0 + (tn v8)) (R6.mk (rd v_0_0 (0 + (tn v8))).a (rd v_0_0 (0 + (tn v8))).b (rd v_0_0 (0 + (tn v8))).c (rd v_0_0 (0 + (tn v8))).d (rd v_0_0 (0 + (tn v8))).e v2)).length, .keep, .keep, .keep], .rowed 6 (v_0_0.set (0 + (tn v8)) (R6.mk (rd v_0_0 (0 + (tn v8))).a (rd v_0_0 (0 + (tn v8))).b (rd v_0_0 (0 + (tn v8))).c (rd v_0_0 (0 + (tn v8))).d (rd v_0_0 (0 + (tn v8))).e v2)).length (Zz (v_0_0.set (0 + (tn v8)) (R6.mk (rd v_0_0 (0 + (tn v8))).a (rd v_0_0 (0 + (tn v8))).b (rd v_0_0 (0 + (tn v8))).c (rd v_0_0 (0 + (tn v8))).d (rd v_0_0 (0 + (tn v8))).e v2))), .keep, .keep, .keep, .keep, .keep, .keep, .keep, .keep, .keep], []⟩ [true] (pp (xL v_0_0.length (v_0_0.set (0 + (tn v8)) (R6.mk (rd v_0_0 (0 + (tn v8))).a (rd v_0_0 (0 + (tn v8))).b (rd v_0_0 (0 + (tn v8))).c (rd v_0_0 (0 + (tn v8))).d (rd v_0_0 (0 + (tn v8))).e v2)).length) (pp (xL v_0_0.length (v_0_0.set (0 + (tn v8)) (R6.mk (rd v_0_0 (0 + (tn v8))).a (rd v_0_0 (0 + (tn v8))).b (rd v_0_0 (0 + (tn v8))).c (rd v_0_0 (0 + (tn v8))).d (rd v_0_0 (0 + (tn v8))).e v2)).length) (pp (xS v_0_0.length (Xa (Zz v_0_0) (0 + (tn v8)) 5 [(ii v2)]) (Zz (v_0_0.set (0 + (tn v8)) (R6.mk (rd v_0_0 (0 + (tn v8))).a (rd v_0_0 (0 + (tn v8))).b (rd v_0_0 (0 + (tn v8))).c (rd v_0_0 (0 + (tn v8))).d (rd v_0_0 (0 + (tn v8))).e v2)))) (pp (pp (xF (Xa (Zz v_0_0) (0 + (tn v8)) 5 [(ii v2)])) (fl v09_7 nn)) (ww o1 (ww o0 (tt k0 nn))))))))))) (fun k0 => (sl Wn 36 [] ⟨[2, 3, 4, 5, 0, 6, 7, 8, 9, 1], [], v2y, v3a⟩ ⟨[], [], []⟩ [false, false] (pp (fl v09_7 (fl v_0_0 nn)) (tt k0 nn)))))
theorem y8e (l0 : List R6) : Wy Tryz.prog (Zy Tryz.prog 72) (sckC l0) (Zh Tryz.prog 72 [(.dat l0.length (Zz l0))] true []) (z7u l0) := (lb (fun k0 => (lr 25 72 [1, 0, 1, 0, 0] 1 15 [(2, (ii 4))] (sl Wn 16 [] ⟨[], [], [some [2]], []⟩ ⟨[], [], []⟩ [true] (tt k0 nn)))) (fun k0 => (sl Wn 40 [] ⟨[], [], sckN0, sckM0⟩ ⟨[], [], []⟩ [false] (tt k0 nn))))
theorem w3o (l0 : List R6) (n : Nat) (vs : List AVal) (h : Yw (Xz l0) n (z7u l0) = .ret vs) : Jd Tryz.prog (Zy Tryz.prog 72) (Zh Tryz.prog 72 [(.dat l0.length (Zz l0))] true []) vs := by
 have := Zn (x4c l0) n _ (y8e l0)
 rwa [h] at this
end Go.Am
namespace Go.Am
open Go.Proofs Go.Sort Go.Shelf Go.RowKit Go.Lib
theorem y8x (l : List R4) : (Yj l).length ≤ 400 := by
 unfold Yj
 by_cases h : 400 < l.length
 ·rw [decide_eq_true h]; exact Nat.zero_le _
 ·rw [decide_eq_false h]
  cases l.all z3d
  ·exact Nat.zero_le _
  ·show (bif decide (((D4.out l).length : Int) > 400) then [] else D4.out l).length ≤ 400
   by_cases h2 : ((D4.out l).length : Int) > 400
   ·rw [decide_eq_true h2]; exact Nat.zero_le _
   ·rw [decide_eq_false h2]; show (D4.out l).length ≤ 400; omega
def D6 : Dim R6 R4 := ⟨R6.c, R6.f, fun r => ⟨r.a, r.b, r.d, r.e⟩, fun x x' s => ⟨s.a, s.b, x, s.c, s.d, x'⟩, fun x r => ⟨r.a, r.b, r.c, r.d, r.e, x⟩, Yj, Uv⟩
theorem v2d (l : List R6) (x : Int) : (D6.sec l x).length ≤ 1000 := Nat.le_trans (y8x _) (by omega)
def sckErr : List AVal := [.int .i64 8]
def y5b (l out : List R6) : List AVal := bif decide ((out.length : Int) > 400) then [.int .i64 8] else bif Uw out l then [.int .i64 0] else [.int .i64 8]
def w2d (l : List R6) (x : Int) : Bool := We (D6.inn l x) != 0
def okF (l : List R6) : Nat → Nat → Bool
 | 0, _ => true
 | k + 1, i => bif w2d l (rd (D6.cuts l) i) then false else okF l k (i + 1)
section
variable (l : List R6) (hl : l.length ≤ 400)
include hl
theorem w8z (i : Nat) (out : List R6) (last : List R4) (first fin x x' : Int) : ∀ (k j : Nat) (acc : List R4), j + k = l.length → acc.length ≤ j →
  ∃ n, ∀ N, Yw (Xz l) (N + n) (.to (.h3 (i : Int) (j : Int) out last first fin ((D6.cuts l).length) (Xx (Yh (D6.ends l))) x x' acc)) = Yw (Xz l) N (.to (.h3 (i : Int) (l.length : Int) out last first fin ((D6.cuts l).length) (Xx (Yh (D6.ends l))) x x' (acc ++ D6.inn (l.drop j) x)))
 | 0, j, acc, h, ha => by
  refine ⟨0, fun N => ?_⟩
  rw [List.drop_eq_nil_of_le (by omega), show D6.inn ([] : List R6) x = [] from rfl, List.append_nil, Nat.add_zero, show j = l.length by omega]
 | k + 1, j, acc, h, ha => by
  have hj : j < l.length := by omega
  obtain ⟨n, hn⟩ := w8z i out last first fin x x' k (j + 1) (acc ++ D6.inn [rd l j] x) (by omega) (by have := D6.inn_length [rd l j] x; simp only [List.length_append, List.length_singleton] at *; omega)
  refine ⟨n + 1, fun N => ?_⟩
  have e : D6.inn (l.drop j) x = D6.inn [rd l j] x ++ D6.inn (l.drop (j + 1)) x := by
   rw [Ye hj, ← D6.inn_append]; rfl
  rw [e, ← Nat.add_assoc, Zv, ← List.append_assoc, ← hn N]
  by_cases h1 : D6.lo (rd l j) ≤ x
  ·by_cases h2 : x < D6.hi (rd l j)
   ·rw [D6.inn_t _ _ h1 h2]
    simp only [D6] at h1 h2 ⊢
    simp (disch := omega) only [Xz, Xq, Zb, Zq, Zo, Zs, Yz, Yu, Yk, Ze, Zk, Zx, Ya, Zj, Nat.zero_add, decide_true, Bool.and_true, Bool.true_and, cond_true, cond_false]
   ·rw [D6.inn_f2 _ _ h2, List.append_nil]
    simp only [D6] at h1 h2
    simp (disch := omega) only [Xz, Xq, Zt, Zb, Zq, Zo, Zs, Yz, Yu, Yk, Ze, Zk, Zx, Ya, Zj, Nat.zero_add, decide_true, Bool.and_true, Bool.true_and, cond_true, cond_false]
  ·rw [D6.inn_f1 _ _ h1, List.append_nil]
   simp only [D6] at h1
   simp (disch := omega) only [Xz, v6y, Zb, Zq, Zo, Zs, Yz, Yu, Yk, Ze, Zk, Zx, Ya, Zj, Nat.zero_add, decide_true, Bool.and_true, Bool.true_and, cond_true, cond_false]
theorem w8y (i : Nat) (hi : i ≤ 1000) (x x' : Int) (s last : List R4) (first : Int) (inn : List R4) (hs : s.length ≤ 1000) : ∀ (k j : Nat) (out : List R6), j + k = s.length → out.length ≤ 10000000 + j →
  ∃ n, ∀ N, Yw (Xz l) (N + n) (.to (.h4 x x' s (s.length : Int) (j : Int) s (i : Int) out last first ((D6.cuts l).length) (Xx (Yh (D6.ends l))) inn)) = Yw (Xz l) N (.to (.h2 ((i + 1 : Nat) : Int) (out ++ (s.drop j).map (D6.put x x')) last first x' ((D6.cuts l).length) (Xx (Yh (D6.ends l)))))
 | 0, j, out, h, ho => by
  have _u := hl
  refine ⟨1, fun N => ?_⟩
  rw [List.drop_eq_nil_of_le (by omega), Zv]
  simp (disch := omega) only [Xz, Zt, Zk, Zx, cond_false, List.map_nil, List.append_nil]
 | k + 1, j, out, h, ho => by
  obtain ⟨n, hn⟩ := w8y i hi x x' s last first inn hs k (j + 1) (out ++ [D6.put x x' (rd s j)]) (by omega) (by simp; omega)
  refine ⟨n + 1, fun N => ?_⟩
  have := hn N
  rw [Ye (show j < s.length by omega), List.map_cons, ← Nat.add_assoc, Zv]
  simp (disch := omega) only [Xz, Zb, Zq, Zo, Zs, Yz, Yu, Yk, Ze, Zk, Zx, Ya, Zj, Nat.zero_add, decide_true, Bool.and_true, Bool.true_and, cond_true, cond_false]
  rw [List.append_assoc] at this
  exact this
theorem w8x (i : Nat) (hi : i ≤ 1000) (x x' fin : Int) (s last : List R4) (first : Int) (inn : List R4) : ∀ (k j : Nat) (out : List R6), j + k = out.length → out.length ≤ 10000000 →
  ∃ n, ∀ N, Yw (Xz l) (N + n) (.to (.h5 x' (j : Int) x s (i : Int) out last first fin ((D6.cuts l).length) (Xx (Yh (D6.ends l))) inn)) = Yw (Xz l) N (.to (.h2 ((i + 1 : Nat) : Int) (D6.grow out j x') last first x' ((D6.cuts l).length) (Xx (Yh (D6.ends l)))))
 | 0, j, out, h, ho => by
  have _u := hl
  refine ⟨1, fun N => ?_⟩
  rw [D6.grow_nil _ _ _ (by omega), Zv]
  simp (disch := omega) only [Xz, Zt, Zk, Zx, cond_false]
 | k + 1, j, out, h, ho => by
  obtain ⟨n, hn⟩ := w8x i hi x x' fin s last first inn k (j + 1) (out.set j (D6.ext x' (rd out j))) (by simp; omega) (by simpa using ho)
  refine ⟨n + 1, fun N => ?_⟩
  have := hn N
  rw [D6.grow_set out j _ (by omega)] at this
  rw [← Nat.add_assoc, Zv]
  simp (disch := omega) only [Xz, Zb, Zq, Zo, Zs, Yz, Yu, Yk, Ze, Zk, Zx, Ya, Zj, Nat.zero_add, decide_true, Bool.and_true, Bool.true_and, cond_true, cond_false]
  exact this
theorem x7s : ∀ (k i : Nat) (s : Sw R6 R4), k = (D6.cuts l).length - 1 - i → i ≤ (D6.cuts l).length → s.out.length ≤ i * 1000 → s.last.length ≤ 1000 → s.first ≤ s.out.length →
  ∃ n, Yw (Xz l) n (.to (.h2 ((i + 1 : Nat) : Int) s.out s.last (s.first : Int) s.fin ((D6.cuts l).length) (Xx (Yh (D6.ends l))))) = .ret ((bif okF l k i then y5b l (D6.go l k i s).out else sckErr))
 | 0, i, s, h, hi, ho, hla, hf => by
  have hc := D6.cuts_length l
  refine ⟨1, ?_⟩
  rw [Zv, show D6.go l 0 i s = s from rfl, show okF l 0 i = true from rfl, cond_true]
  unfold y5b
  by_cases q : (s.out.length : Int) > 400
  ·simp (disch := omega) only [Xz, Zt, Yn, cond_true, cond_false, Zg]
  ·have e : lst R6 s.out.length (fun k => (Zz s.out) k) = s.out := Zq s.out
   have w : Wa s.out l = true := decide_eq_true (by omega)
   have f : Qa (Zz s.out) = true := Xj _
   rcases Ym (Uw s.out l) with q2 | q2 <;>
   simp (disch := omega) only [Xz, Zb, e, w, f, q2, Zt, Xy, Yz, Ya, Nat.zero_add, Bool.not_true, Bool.not_false, Bool.and_true, cond_true, cond_false, Zg]
 | k + 1, i, s, h, hi, ho, hla, hf => by
  have hc := D6.cuts_length l
  have hi1 : i + 1 < (D6.cuts l).length := by omega
  have hpl : (Xx (Yh (D6.ends l))).length = 2 * l.length := by rw [Wc, Wv, D6.ends_length]
  have r0 : rd (Xx (Yh (D6.ends l))) i = rd (D6.cuts l) i := Ui _ _ (by show i < (D6.cuts l).length; omega)
  have r1 : rd (Xx (Yh (D6.ends l))) (i + 1) = rd (D6.cuts l) (i + 1) := Ui _ _ (by show i + 1 < (D6.cuts l).length; omega)
  have hbig : i * 1000 ≤ 1000 * 1000 := Nat.mul_le_mul_right _ (by omega)
  have hsl := v2d l (rd (D6.cuts l) i)
  have hsd : D6.sec l (rd (D6.cuts l) i) = Yj (D6.inn l (rd (D6.cuts l) i)) := rfl
  obtain ⟨n3, h3⟩ := w8z l hl (i + 1) s.out s.last (s.first : Int) s.fin (rd (D6.cuts l) i) (rd (D6.cuts l) (i + 1)) l.length 0 [] (Nat.zero_add _) (Nat.le_refl _)
  simp only [List.drop_zero, List.nil_append, z0u] at h3
  have w1 : Qn (D6.inn l (rd (D6.cuts l) i)) = true := rfl
  have w2 : Wu s.last (Yj (D6.inn l (rd (D6.cuts l) i))) = true := decide_eq_true (by omega)
  have ol := D6.one_length l (rd (D6.cuts l) i) (rd (D6.cuts l) (i + 1)) s
  have st0 : ∀ N, Yw (Xz l) (N + n3 + 1) (.to (.h2 ((i + 1 : Nat) : Int) s.out s.last (s.first : Int) s.fin ((D6.cuts l).length) (Xx (Yh (D6.ends l))))) = Yw (Xz l) N (.to (.h3 ((i + 1 : Nat) : Int) (l.length : Int) s.out s.last (s.first : Int) s.fin ((D6.cuts l).length) (Xx (Yh (D6.ends l))) (rd (D6.cuts l) i) (rd (D6.cuts l) (i + 1)) (D6.inn l (rd (D6.cuts l) i)))) := fun N => by
   rw [← h3 N, Zv]
   have e1 : IntKind.wrap .i64 (((i + 1 : Nat) : Int) - 1) = (i : Int) := by rw [Zc]; exact Zk (by omega)
   simp (disch := omega) only [Xz, e1, r0, r1, Zb, Zq, Zo, Zs, Yz, Yu, Yk, Ze, Zk, Zx, Ya, Zj, Nat.zero_add, decide_true, Bool.and_true, Bool.true_and, cond_true, cond_false]
  rcases Ym (w2d l (rd (D6.cuts l) i)) with q0 | q0
  ·refine ⟨1 + n3 + 1, ?_⟩
   rw [st0 1, Zv]
   simp only [okF, q0, cond_true, cond_false]
   have q0' : (We (D6.inn l (rd (D6.cuts l) i)) != 0) = true := q0
   simp (disch := omega) only [Xz, Zb, Zq, Zt, q0', w1, cond_true, cond_false, Zg]
   rfl
  have q0' : (We (D6.inn l (rd (D6.cuts l) i)) != 0) = false := q0
  rcases Ym (decide (0 < (D6.sec l (rd (D6.cuts l) i)).length) && ((s.fin == rd (D6.cuts l) i) && D6.same s.last (D6.sec l (rd (D6.cuts l) i)))) with q | q
  ·obtain ⟨n5, h5⟩ := w8x l hl (i + 1) (by omega) (rd (D6.cuts l) i) (rd (D6.cuts l) (i + 1)) s.fin (D6.sec l (rd (D6.cuts l) i)) s.last (s.first : Int) (D6.inn l (rd (D6.cuts l) i)) (s.out.length - s.first) s.first s.out (by omega) (by omega)
   have e : D6.one l (rd (D6.cuts l) i) (rd (D6.cuts l) (i + 1)) s = ⟨D6.grow s.out s.first (rd (D6.cuts l) (i + 1)), s.last, s.first, rd (D6.cuts l) (i + 1)⟩ := by unfold Dim.one; rw [q]; rfl
   obtain ⟨n0, h0⟩ := x7s k (i + 1) (D6.one l (rd (D6.cuts l) i) (rd (D6.cuts l) (i + 1)) s) (by omega) (by omega) (by omega) (by rw [e]; exact hla) (by rw [e]; simpa [Dim.grow_length] using hf)
   refine ⟨n0 + n5 + 1 + n3 + 1, ?_⟩
   rw [st0 (n0 + n5 + 1), Zv]
   simp only [Bool.and_eq_true, decide_eq_true_eq] at q
   obtain ⟨q1, q2, q3⟩ := q
   have q3' : Uv s.last (Yj (D6.inn l (rd (D6.cuts l) i))) = true := q3
   rw [hsd] at q1
   simp (disch := omega) only [Xz, Zb, Zq, Zt, Yn, q0', q2, q3', w1, w2, cond_true, cond_false]
   rw [← hsd, h5 n0]
   simp only [okF, q0, cond_false]; simp only [Dim.go]
   rw [e] at h0 ⊢
   exact h0
  ·obtain ⟨n4, h4⟩ := w8y l hl (i + 1) (by omega) (rd (D6.cuts l) i) (rd (D6.cuts l) (i + 1)) (D6.sec l (rd (D6.cuts l) i)) (D6.sec l (rd (D6.cuts l) i)) (s.out.length : Int) (D6.inn l (rd (D6.cuts l) i)) hsl (D6.sec l (rd (D6.cuts l) i)).length 0 s.out (Nat.zero_add _) (by omega)
   simp only [List.drop_zero, z0u] at h4
   have e : D6.one l (rd (D6.cuts l) i) (rd (D6.cuts l) (i + 1)) s = ⟨s.out ++ (D6.sec l (rd (D6.cuts l) i)).map (D6.put (rd (D6.cuts l) i) (rd (D6.cuts l) (i + 1))), D6.sec l (rd (D6.cuts l) i), s.out.length, rd (D6.cuts l) (i + 1)⟩ := by unfold Dim.one; rw [q]; rfl
   obtain ⟨n0, h0⟩ := x7s k (i + 1) (D6.one l (rd (D6.cuts l) i) (rd (D6.cuts l) (i + 1)) s) (by omega) (by omega) (by omega) (by rw [e]; exact hsl) (by rw [e]; simp)
   have hg : Yw (Xz l) 1 (.to (.h3 ((i + 1 : Nat) : Int) (l.length : Int) s.out s.last (s.first : Int) s.fin ((D6.cuts l).length) (Xx (Yh (D6.ends l))) (rd (D6.cuts l) i) (rd (D6.cuts l) (i + 1)) (D6.inn l (rd (D6.cuts l) i)))) = .to (.h4 (rd (D6.cuts l) i) (rd (D6.cuts l) (i + 1)) (D6.sec l (rd (D6.cuts l) i)) ((D6.sec l (rd (D6.cuts l) i)).length : Int) 0 (D6.sec l (rd (D6.cuts l) i)) ((i + 1 : Nat) : Int) s.out (D6.sec l (rd (D6.cuts l) i)) (s.out.length : Int) ((D6.cuts l).length) (Xx (Yh (D6.ends l))) (D6.inn l (rd (D6.cuts l) i))) := by
    rw [show (1 : Nat) = 0 + 1 from rfl, Zv]
    rw [hsd] at q ⊢
    have e3 : D6.same s.last (Yj (D6.inn l (rd (D6.cuts l) i))) = Uv s.last (Yj (D6.inn l (rd (D6.cuts l) i))) := rfl
    rw [e3] at q
    by_cases q1 : 0 < (Yj (D6.inn l (rd (D6.cuts l) i))).length
    ·rw [decide_eq_true q1, Bool.true_and] at q
     rcases Ym (s.fin == rd (D6.cuts l) i) with q2 | q2
     ·rw [q2, Bool.true_and] at q
      simp (disch := omega) only [Xz, Zb, Zq, Zt, Yn, q0', q2, q, w1, w2, cond_true, cond_false]
      rfl
     ·simp (disch := omega) only [Xz, Zb, Zq, Zt, Yn, q0', q2, w1, w2, cond_true, cond_false]
      rfl
    ·simp (disch := omega) only [Xz, Zb, Zq, Zt, Xy, q0', w1, w2, cond_true, cond_false]
     rfl
   refine ⟨n0 + n4 + 1 + n3 + 1, ?_⟩
   rw [st0 (n0 + n4 + 1), y0a _ (n0 + n4) 1, hg, h4 n0]
   simp only [okF, q0, cond_false]; simp only [Dim.go]
   rw [e] at h0 ⊢
   exact h0
theorem w9a : ∀ (k i : Nat) (acc : List Int), i + k = l.length → acc = D6.ends (l.take i) → ∃ n, Yw (Xz l) n (.to (.h1 (i : Int) acc)) = .ret ((bif okF l ((D6.cuts l).length - 1) 0 then y5b l (D6.go l ((D6.cuts l).length - 1) 0 ⟨[], [], 0, 0⟩).out else sckErr))
 | 0, i, acc, h, ha => by
  have e : acc = D6.ends l := by rw [ha, List.take_of_length_le (by omega)]
  subst e
  have hle := D6.ends_length l
  obtain ⟨n, hn⟩ := x7s l hl ((D6.cuts l).length - 1) 0 ⟨[], [], 0, 0⟩ (by omega) (Nat.zero_le _) (Nat.zero_le _) (Nat.zero_le _) (Nat.zero_le _)
  refine ⟨n + 1, ?_⟩
  rw [Zv]
  simp (disch := omega) only [Xz, Vr, Kx, z6c, Zt, Yu, Yk, decide_true, cond_true, cond_false]
  exact hn
 | k + 1, i, acc, h, ha => by
  have hle := D6.ends_length (l.take i)
  have hacc : acc.length ≤ 2 * i := by rw [ha, hle]; simp; omega
  obtain ⟨n, hn⟩ := w9a k (i + 1) (acc ++ D6.ends [rd l i]) (by omega) (by
   rw [ha, List.take_add_one]
   have : l[i]? = some (rd l i) := by rw [Xd (show i < l.length by omega)]; exact List.getElem?_eq_getElem _
   rw [this, D6.ends_append]; rfl)
  refine ⟨n + 1, ?_⟩
  rw [Zv]
  simp (disch := omega) only [Xz, Zb, Zq, Zo, Zs, Yz, Yu, Yk, Ze, Zk, Zx, Ya, Zj, Nat.zero_add, decide_true, Bool.and_true, Bool.true_and, cond_true, cond_false]
  exact hn
theorem w9b : ∀ (k i : Nat), i + k = l.length → (∀ s ∈ l.take i, Jb s = true) → ∃ n, Yw (Xz l) n (.to (.h0 (i : Int))) = .ret (bif l.all Jb then (bif okF l ((D6.cuts l).length - 1) 0 then y5b l (D6.go l ((D6.cuts l).length - 1) 0 ⟨[], [], 0, 0⟩).out else sckErr) else sckErr)
 | 0, i, h, ht => by
  have hv : l.all Jb = true := List.all_eq_true.2 fun s hs => ht s (by rw [List.take_of_length_le (by omega)]; exact hs)
  obtain ⟨n, hn⟩ := w9a l hl l.length 0 [] (Nat.zero_add _) rfl
  refine ⟨n + 1, ?_⟩
  rw [Zv, hv, cond_true]
  simp (disch := omega) only [Xz, Zt, cond_false]
  exact hn
 | k + 1, i, h, ht => by
  have hi : i < l.length := by omega
  have hs : Xz l (.h0 (i : Int)) = bif Jb (rd l i) then .to (.h0 ((i + 1 : Nat) : Int)) else .ret sckErr := by
   have e : v2g (rd l i).a (rd l i).b (rd l i).c (rd l i).d (rd l i).e (rd l i).f = Jb (rd l i) := rfl
   simp (disch := omega) only [Xz, e, y4h, x3j, w1r, Zs, Zk, Zx, Zj, Bool.and_true, cond_true, cond_false]
   rfl
  rcases Ym (Jb (rd l i)) with q | q
  ·obtain ⟨n, hn⟩ := w9b k (i + 1) (by omega) (fun s hs => by
    rw [List.take_add_one] at hs
    have e : l[i]? = some (rd l i) := by rw [Xd hi]; exact List.getElem?_eq_getElem _
    rw [e] at hs
    simp only [Option.toList_some, List.mem_append, List.mem_singleton] at hs
    rcases hs with hs | rfl
    ·exact ht s hs
    ·exact q)
   refine ⟨n + 1, ?_⟩
   rw [Zv, hs, q, cond_true]
   exact hn
  ·have hv : l.all Jb = false := Bool.eq_false_iff.2 fun e => by
    have := List.all_eq_true.1 e (rd l i) (by rw [Xd hi]; exact List.getElem_mem hi)
    rw [this] at q; cases q
   refine ⟨1, ?_⟩
   rw [Zv, hv, cond_false, hs, q, cond_false, Zg]
end
def Yq (l : List R6) : Int := bif decide (400 < l.length) then 4 else bif l.all Jb then (bif okF l ((D6.cuts l).length - 1) 0 then (bif decide (((D6.out l).length : Int) > 400) then 8 else bif Uw (D6.out l) l then 0 else 8) else 8) else 8
def x7u (l : List R6) : Bool := true
theorem v2x (l : List R6) : ∃ n, Yw (Xz l) n (z7u l) = .ret [.int .i64 (Yq l)] := by
 unfold z7u Yq
 by_cases h : 400 < l.length
 ·refine ⟨0, ?_⟩
  rw [decide_eq_true h, Yn (show (l.length : Int) > 400 by omega)]; rfl
 ·obtain ⟨n, hn⟩ := w9b l (by omega) l.length 0 (Nat.zero_add _) (fun s hs => by simp at hs)
  refine ⟨n, ?_⟩
  rw [decide_eq_false h, Xy (show ¬ (l.length : Int) > 400 by omega), cond_false, cond_false]
  rw [z0u] at hn
  rw [hn]
  unfold sckErr y5b
  cases l.all Jb <;> simp only [cond_true, cond_false]
  cases okF l ((D6.cuts l).length - 1) 0 <;> simp only [cond_true, cond_false]
  show Xc.ret (bif decide (((D6.out l).length : Int) > 400) then _ else bif Uw (D6.out l) l then _ else _) = _
  cases decide (((D6.out l).length : Int) > 400) <;> simp only [cond_true, cond_false]
  cases Uw (D6.out l) l <;> rfl
def fSck : List AVal → Option (AVal × Bool)
 | [a1] => match asL R6 a1 with
  | some (L1, g1, n1) => some (.int .i64 (Yq L1), isT R6 n1 g1 && x7u L1)
  | _ => none
 | _ => none
theorem v5p {S : Specs} (hS : Zu Tryz.prog S) : Zu Tryz.prog (S.with y5z fSck) := by
 refine z1j hS (by kernel_rfl) fun args v h => ?_
 unfold fSck at h
 split at h
 ·rename_i a1
  split at h
  ·rename_i L1 g1 n1 e1
   simp only [Option.some.injEq, Prod.mk.injEq, Bool.and_eq_true] at h
   obtain ⟨rfl, ho1, hw⟩ := h
   obtain ⟨N, hN⟩ := v2x L1
   exact ⟨_, _, (.cons (asL_le e1 ho1) .nil), rfl, w3o L1 N _ hN, 3, rfl⟩
  ·cases h
 ·cases h
def T8 : Specs := T7v.with y5z fSck
theorem Kh : Zu Tryz.prog T8 := v5p Wn
end Go.Am
namespace Go.Am
open Go.Proofs
inductive rchkS where
 | h0 (v3 : Int)
def v3y (l0 : List R6) : rchkS → Cfg
 | .h0 v3 => ⟨⟨34, 0, true⟩, none, (Za Tryz.prog 64 [1, 1, 0, 1, 0, 0] 0), none, (Zy Tryz.prog 15), ⟨Yp [(0, (.dat l0.length (Zz l0))), (3, (ii v3))], Ve [] 0, 0, [], true⟩, [], .leaf⟩
def v0b : List (Option (List Nat)) := [some [0, 3]]
def v0c : List (Option (List Nat)) := []
def Qz (l0 : List R6) : rchkS → Xc rchkS
 | .h0 v3 => (bif (decide (v3 < (l0.length : Int))) then (bif ((decide (0 ≤ v3 ∧ v3 < (l0.length : Int))) && true) then (bif (decide ((rd l0 v3.toNat).a ≥ (-1000000))) then (bif (decide ((rd l0 v3.toNat).b ≥ (-1000000))) then (bif (decide ((rd l0 v3.toNat).c ≥ (-1000000))) then (bif (decide ((rd l0 v3.toNat).a ≤ 1000000)) then (bif (decide ((rd l0 v3.toNat).b ≤ 1000000)) then (bif (decide ((rd l0 v3.toNat).c ≤ 1000000)) then (bif (decide ((rd l0 v3.toNat).d ≥ (-1000000))) then (bif (decide ((rd l0 v3.toNat).e ≥ (-1000000))) then (bif (decide ((rd l0 v3.toNat).f ≥ (-1000000))) then (bif (decide ((rd l0 v3.toNat).d ≤ 1000000)) then (bif (decide ((rd l0 v3.toNat).e ≤ 1000000)) then (bif (decide ((rd l0 v3.toNat).f ≤ 1000000)) then (bif (decide ((rd l0 v3.toNat).a < (rd l0 v3.toNat).d)) then (bif (decide ((rd l0 v3.toNat).b < (rd l0 v3.toNat).e)) then (bif (!(decide ((rd l0 v3.toNat).c < (rd l0 v3.toNat).f))) then (.ret [(.int .i64 8)]) else (.to (.h0 (IntKind.wrap .i64 (v3 + 1))))) else (.ret [(.int .i64 8)])) else (.ret [(.int .i64 8)])) else (.ret [(.int .i64 8)])) else (.ret [(.int .i64 8)])) else (.ret [(.int .i64 8)])) else (.ret [(.int .i64 8)])) else (.ret [(.int .i64 8)])) else (.ret [(.int .i64 8)])) else (.ret [(.int .i64 8)])) else (.ret [(.int .i64 8)])) else (.ret [(.int .i64 8)])) else (.ret [(.int .i64 8)])) else (.ret [(.int .i64 8)])) else (.ret [(.int .i64 8)])) else .stuck) else (bif (z8h 2 (cvT l0) ([] : List R6)) then (bif (!(y6i 2 (cvT l0) ([] : List R6))) then (.ret [(.int .i64 8)]) else (bif (Wa (cvT (z3l 2 (cvT l0) ([] : List R6))) (cvT l0)) then (bif (!(Uw (cvT (z3l 2 (cvT l0) ([] : List R6))) (cvT l0))) then (.ret [(.int .i64 8)]) else (.ret [(.int .i64 0)])) else .stuck)) else .stuck))
def z4g (l0 : List R6) : Xc rchkS := (bif (decide ((l0.length : Int) > 400)) then (.ret [(.int .i64 4)]) else (.to (.h0 0)))
theorem y9e (l0 : List R6) : ∀ s, Wy Tryz.prog (Zy Tryz.prog 64) (v3y l0) (v3y l0 s) (Qz l0 s)
 | .h0 v3 => (lb (fun k0 => (lo fun o1_0 => (lb (fun k1 => (lb (fun k2 => (lb (fun k3 => (lb (fun k4 => (lb (fun k5 => (lb (fun k6 => (lb (fun k7 => (lb (fun k8 => (lb (fun k9 => (lb (fun k10 => (lb (fun k11 => (lb (fun k12 => (lb (fun k13 => (lb (fun k14 => (lb (fun k15 => (lr 34 64 [1, 1, 0, 1, 0, 0, 1, 0, 0, 1, 0, 0] 1 15 [(2, (ii 8))] (sl Kh 158 [] ⟨[], [], [some [2]], []⟩ ⟨[], [], []⟩ (trs 60 []) (tt k15 (tt k14 (tt k13 (tt k12 (tt k11 (tt k10 (tt k9 (tt k8 (tt k7 (tt k6 (tt k5 (tt k4 (tt k3 (tt k2 (tt k1 (ww o1_0 (tt k0 nn)))))))))))))))))))) (fun k15 => (sl Kh 162 [] ⟨[], [], v0b, v0c⟩ ⟨[], [], []⟩ (trs 59 [false]) (tt k15 (tt k14 (tt k13 (tt k12 (tt k11 (tt k10 (tt k9 (tt k8 (tt k7 (tt k6 (tt k5 (tt k4 (tt k3 (tt k2 (tt k1 (ww o1_0 (tt k0 nn))))))))))))))))))))) (fun k14 => (lr 34 64 [1, 1, 0, 1, 0, 0, 1, 0, 0, 1, 0, 0] 1 15 [(2, (ii 8))] (sl Kh 158 [] ⟨[], [], [some [2]], []⟩ ⟨[], [], []⟩ (trs 52 [false, false, false, false, false, false, false, true]) (tt k14 (tt k13 (tt k12 (tt k11 (tt k10 (tt k9 (tt k8 (tt k7 (tt k6 (tt k5 (tt k4 (tt k3 (tt k2 (tt k1 (ww o1_0 (tt k0 nn))))))))))))))))))))) (fun k13 => (lr 34 64 [1, 1, 0, 1, 0, 0, 1, 0, 0, 1, 0, 0] 1 15 [(2, (ii 8))] (sl Kh 158 [] ⟨[], [], [some [2]], []⟩ ⟨[], [], []⟩ (trs 45 [false, false, false, false, false, false, false, false, false, false, false, false, false, false, true]) (tt k13 (tt k12 (tt k11 (tt k10 (tt k9 (tt k8 (tt k7 (tt k6 (tt k5 (tt k4 (tt k3 (tt k2 (tt k1 (ww o1_0 (tt k0 nn)))))))))))))))))))) (fun k12 => (lr 34 64 [1, 1, 0, 1, 0, 0, 1, 0, 0, 1, 0, 0] 1 15 [(2, (ii 8))] (sl Kh 158 [] ⟨[], [], [some [2]], []⟩ ⟨[], [], []⟩ (trs 38 [false, false, false, false, false, false, false, false, false, false, false, false, false, false, false, false, false, false, false, false, false, true]) (tt k12 (tt k11 (tt k10 (tt k9 (tt k8 (tt k7 (tt k6 (tt k5 (tt k4 (tt k3 (tt k2 (tt k1 (ww o1_0 (tt k0 nn))))))))))))))))))) (fun k11 => (lr 34 64 [1, 1, 0, 1, 0, 0, 1, 0, 0, 1, 0, 0] 1 15 [(2, (ii 8))] (sl Kh 158 [] ⟨[], [], [some [2]], []⟩ ⟨[], [], []⟩ (trs 35 [false, false, false, false, false, false, false, false, false, false, false, false, false, false, false, false, false, false, false, false, false, false, false, false, true]) (tt k11 (tt k10 (tt k9 (tt k8 (tt k7 (tt k6 (tt k5 (tt k4 (tt k3 (tt k2 (tt k1 (ww o1_0 (tt k0 nn)))))))))))))))))) (fun k10 => (lr 34 64 [1, 1, 0, 1, 0, 0, 1, 0, 0, 1, 0, 0] 1 15 [(2, (ii 8))] (sl Kh 158 [] ⟨[], [], [some [2]], []⟩ ⟨[], [], []⟩ (trs 32 [false, false, false, false, false, false, false, false, false, false, false, false, false, false, false, false, false, false, false, false, false, false, false, false, false, false, false, true]) (tt k10 (tt k9 (tt k8 (tt k7 (tt k6 (tt k5 (tt k4 (tt k3 (tt k2 (tt k1 (ww o1_0 (tt k0 nn))))))))))))))))) (fun k9 => (lr 34 64 [1, 1, 0, 1, 0, 0, 1, 0, 0, 1, 0, 0] 1 15 [(2, (ii 8))] (sl Kh 158 [] ⟨[], [], [some [2]], []⟩ ⟨[], [], []⟩ (trs 29 [false, false, false, false, false, false, false, false, false, false, false, false, false, false, false, false, false, false, false, false, false, false, false, false, false, false, false, false, false, false, true]) (tt k9 (tt k8 (tt k7 (tt k6 (tt k5 (tt k4 (tt k3 (tt k2 (tt k1 (ww o1_0 (tt k0 nn)))))))))))))))) (fun k8 => (lr 34 64 [1, 1, 0, 1, 0, 0, 1, 0, 0, 1, 0, 0] 1 15 [(2, (ii 8))] (sl Kh 158 [] ⟨[], [], [some [2]], []⟩ ⟨[], [], []⟩ (trs 25 [false, false, false, false, false, false, false, false, false, false, false, false, false, false, false, false, false, false, false, false, false, false, false, false, false, false, false, false, false, false, false, false, false, false, true]) (tt k8 (tt k7 (tt k6 (tt k5 (tt k4 (tt k3 (tt k2 (tt k1 (ww o1_0 (tt k0 nn))))))))))))))) (fun k7 => (lr 34 64 [1, 1, 0, 1, 0, 0, 1, 0, 0, 1, 0, 0] 1 15 [(2, (ii 8))] (sl Kh 158 [] ⟨[], [], [some [2]], []⟩ ⟨[], [], []⟩ (trs 21 [false, false, false, false, false, false, false, false, false, false, false, false, false, false, false, false, false, false, false, false, false, false, false, false, false, false, false, false, false, false, false, false, false, false, false, false, false, false, true]) (tt k7 (tt k6 (tt k5 (tt k4 (tt k3 (tt k2 (tt k1 (ww o1_0 (tt k0 nn)))))))))))))) (fun k6 => (lr 34 64 [1, 1, 0, 1, 0, 0, 1, 0, 0, 1, 0, 0] 1 15 [(2, (ii 8))] (sl Kh 117 [] ⟨[], [], [some [2]], []⟩ ⟨[], [], []⟩ (trs 18 [false, false, false, false, false, false, false, false, false, false, false, false, false, false, false, false, false, false, false, false, false, false, false, false, true]) (tt k6 (tt k5 (tt k4 (tt k3 (tt k2 (tt k1 (ww o1_0 (tt k0 nn))))))))))))) (fun k5 => (lr 34 64 [1, 1, 0, 1, 0, 0, 1, 0, 0, 1, 0, 0] 1 15 [(2, (ii 8))] (sl Kh 117 [] ⟨[], [], [some [2]], []⟩ ⟨[], [], []⟩ (trs 15 [false, false, false, false, false, false, false, false, false, false, false, false, false, false, false, false, false, false, false, false, false, false, false, false, false, false, false, true]) (tt k5 (tt k4 (tt k3 (tt k2 (tt k1 (ww o1_0 (tt k0 nn)))))))))))) (fun k4 => (lr 34 64 [1, 1, 0, 1, 0, 0, 1, 0, 0, 1, 0, 0] 1 15 [(2, (ii 8))] (sl Kh 117 [] ⟨[], [], [some [2]], []⟩ ⟨[], [], []⟩ (trs 12 [false, false, false, false, false, false, false, false, false, false, false, false, false, false, false, false, false, false, false, false, false, false, false, false, false, false, false, false, false, false, true]) (tt k4 (tt k3 (tt k2 (tt k1 (ww o1_0 (tt k0 nn))))))))))) (fun k3 => (lr 34 64 [1, 1, 0, 1, 0, 0, 1, 0, 0, 1, 0, 0] 1 15 [(2, (ii 8))] (sl Kh 117 [] ⟨[], [], [some [2]], []⟩ ⟨[], [], []⟩ (trs 9 [false, false, false, false, false, false, false, false, false, false, false, false, false, false, false, false, false, false, false, false, false, false, false, false, false, false, false, false, false, false, false, false, false, true]) (tt k3 (tt k2 (tt k1 (ww o1_0 (tt k0 nn)))))))))) (fun k2 => (lr 34 64 [1, 1, 0, 1, 0, 0, 1, 0, 0, 1, 0, 0] 1 15 [(2, (ii 8))] (sl Kh 117 [] ⟨[], [], [some [2]], []⟩ ⟨[], [], []⟩ (trs 5 [false, false, false, false, false, false, false, false, false, false, false, false, false, false, false, false, false, false, false, false, false, false, false, false, false, false, false, false, false, false, false, false, false, false, false, false, false, true]) (tt k2 (tt k1 (ww o1_0 (tt k0 nn))))))))) (fun k1 => (lr 34 64 [1, 1, 0, 1, 0, 0, 1, 0, 0, 1, 0, 0] 1 15 [(2, (ii 8))] (sl Kh 117 [] ⟨[], [], [some [2]], []⟩ ⟨[], [], []⟩ [true, false, false, false, false, false, false, false, false, false, false, false, false, false, false, false, false, false, false, false, false, false, false, false, false, false, false, false, false, false, false, false, false, false, false, false, false, false, false, false, false, false, true] (tt k1 (ww o1_0 (tt k0 nn))))))))) (fun k0 => (lo fun o1_0 => (lb (fun k1 => (lr 34 64 [1, 1, 1, 1, 0, 1, 0, 0] 1 15 [(2, (ii 8))] (sl Kh 37 [] ⟨[], [], [some [2]], []⟩ ⟨[], [], []⟩ [false, true, true, true, true, true] (tt k1 (pp (pp (xr l0) (pp (xI R6 0 (fun _ => [])) (xw o1_0))) (tt k0 nn)))))) (fun k1 => (lo fun o2_0 => (lb (fun k2 => (lr 34 64 [1, 1, 1, 1, 0, 1, 0, 0] 1 15 [(2, (ii 8))] (sl Kh 37 [] ⟨[], [], [some [2]], []⟩ ⟨[], [], []⟩ [false, false, false, false, false, true] (tt k2 (pp (pp (xI R6 (z3l 2 (cvT l0) ([] : List R6)).length (Zz (z3l 2 (cvT l0) ([] : List R6)))) (pp (xr l0) (xw o2_0))) (tt k1 (pp (pp (xr l0) (pp (xI R6 0 (fun _ => [])) (xw o1_0))) (tt k0 nn)))))))) (fun k2 => (lr 34 3 [1, 1, 1, 1, 1, 1, 0] 1 15 [(2, (ii 0))] (sl Kh 38 [] ⟨[], [], [some [2]], []⟩ ⟨[], [], []⟩ [false, false, false, false, false, false] (tt k2 (pp (pp (xI R6 (z3l 2 (cvT l0) ([] : List R6)).length (Zz (z3l 2 (cvT l0) ([] : List R6)))) (pp (xr l0) (xw o2_0))) (tt k1 (pp (pp (xr l0) (pp (xI R6 0 (fun _ => [])) (xw o1_0))) (tt k0 nn)))))))))))))))
theorem y5o (l0 : List R6) : Wy Tryz.prog (Zy Tryz.prog 64) (v3y l0) (Zh Tryz.prog 64 [(.dat l0.length (Zz l0))] true []) (z4g l0) := (lb (fun k0 => (lr 34 64 [1, 0, 1, 0, 0] 1 15 [(2, (ii 4))] (sl Kh 16 [] ⟨[], [], [some [2]], []⟩ ⟨[], [], []⟩ [true] (tt k0 nn)))) (fun k0 => (sl Kh 20 [] ⟨[], [], v0b, v0c⟩ ⟨[], [], []⟩ [false] (tt k0 nn))))
theorem x9j (l0 : List R6) (n : Nat) (vs : List AVal) (h : Yw (Qz l0) n (z4g l0) = .ret vs) : Jd Tryz.prog (Zy Tryz.prog 64) (Zh Tryz.prog 64 [(.dat l0.length (Zz l0))] true []) vs := by
 have := Zn (y9e l0) n _ (y5o l0)
 rwa [h] at this
end Go.Am
namespace Go.Am
open Go.Proofs
def x3s (r : R6) : Bool := decide (r.a ≥ -1000000) && (decide (r.b ≥ -1000000) && (decide (r.c ≥ -1000000) && (decide (r.a ≤ 1000000) && (decide (r.b ≤ 1000000) && (decide (r.c ≤ 1000000) && (decide (r.d ≥ -1000000) && (decide (r.e ≥ -1000000) && (decide (r.f ≥ -1000000) && (decide (r.d ≤ 1000000) && (decide (r.e ≤ 1000000) && (decide (r.f ≤ 1000000) && (decide (r.a < r.d) && (decide (r.b < r.e) && decide (r.c < r.f))))))))))))))
def rckF (l : List R6) : Int := bif y6i 2 l [] then (bif Uw (z3l 2 l []) l then 0 else 8) else 8
def Xn (l : List R6) : Int := bif decide (400 < l.length) then 4 else bif l.all x3s then rckF l else 8
def x9h (l : List R6) : Bool := true
theorem x5l (k : Int) (l m : List R6) : (z3l k l m).length ≤ 400 ∨ y6i k l m = false := by
 unfold z3l y6i
 cases jsO k l m with
 | none => exact .inl (Nat.zero_le _)
 | some out =>
  by_cases h : (out.length : Int) ≤ 400
  ·left; show out.length ≤ 400; omega
  ·right; exact decide_eq_false h
section
variable (l : List R6) (hl : l.length ≤ 400)
include hl
theorem x9i : ∀ (k i : Nat), i + k = l.length → (∀ s ∈ l.take i, x3s s = true) → ∃ n, Yw (Qz l) n (.to (.h0 (i : Int))) = .ret [.int .i64 (bif l.all x3s then rckF l else 8)]
 | 0, i, h, ht => by
  have hv : l.all x3s = true := List.all_eq_true.2 fun s hs => ht s (by rw [List.take_of_length_le (by omega)]; exact hs)
  have w1 : z8h 2 l [] = true := decide_eq_true ⟨by omega, by simp⟩
  refine ⟨1, ?_⟩
  rw [Zv, hv, cond_true]
  unfold rckF
  rcases Ym (y6i 2 l []) with q | q
  ·have w2 : Wa (z3l 2 l []) l = true := decide_eq_true (by
    rcases x5l 2 l [] with h | h
    ·omega
    ·rw [h] at q; cases q)
   rcases Ym (Uw (z3l 2 l []) l) with q2 | q2 <;>
   simp (disch := omega) only [Qz, Zb, Zt, q, q2, w1, w2, Bool.not_true, Bool.not_false, cond_true, cond_false, Zg]
  ·simp (disch := omega) only [Qz, Zb, Zt, q, w1, Bool.not_true, Bool.not_false, cond_true, cond_false, Zg]
 | k + 1, i, h, ht => by
  have hi : i < l.length := by omega
  have hs : Qz l (.h0 (i : Int)) = bif x3s (rd l i) then .to (.h0 ((i + 1 : Nat) : Int)) else .ret [.int .i64 8] := by
   simp (disch := omega) only [Qz, x3s, x1e, y4h, x3j, Zs, Zk, Zx, Zj, Bool.and_true, cond_true, cond_false]
  rcases Ym (x3s (rd l i)) with q | q
  ·obtain ⟨n, hn⟩ := x9i k (i + 1) (by omega) (fun s hs => by
    rw [List.take_add_one] at hs
    have e : l[i]? = some (rd l i) := by rw [Xd hi]; exact List.getElem?_eq_getElem _
    rw [e] at hs
    simp only [Option.toList_some, List.mem_append, List.mem_singleton] at hs
    rcases hs with hs | rfl
    ·exact ht s hs
    ·exact q)
   refine ⟨n + 1, ?_⟩
   rw [Zv, hs, q, cond_true]
   exact hn
  ·have hv : l.all x3s = false := Bool.eq_false_iff.2 fun e => by
    have := List.all_eq_true.1 e (rd l i) (by rw [Xd hi]; exact List.getElem_mem hi)
    rw [this] at q; cases q
   refine ⟨1, ?_⟩
   rw [Zv, hv, cond_false, hs, q, cond_false, Zg]
end
theorem w4n (l : List R6) : ∃ n, Yw (Qz l) n (z4g l) = .ret [.int .i64 (Xn l)] := by
 unfold z4g Xn
 by_cases h : 400 < l.length
 ·refine ⟨0, ?_⟩
  rw [decide_eq_true h, Yn (show (l.length : Int) > 400 by omega)]; rfl
 ·obtain ⟨n, hn⟩ := x9i l (by omega) l.length 0 (Nat.zero_add _) (fun s hs => by simp at hs)
  refine ⟨n, ?_⟩
  rw [decide_eq_false h, Xy (show ¬ (l.length : Int) > 400 by omega), cond_false, cond_false]
  exact hn
def fRck : List AVal → Option (AVal × Bool)
 | [a1] => match asL R6 a1 with
  | some (L1, g1, n1) => some (.int .i64 (Xn L1), isT R6 n1 g1 && x9h L1)
  | _ => none
 | _ => none
theorem v5u {S : Specs} (hS : Zu Tryz.prog S) : Zu Tryz.prog (S.with w0d fRck) := by
 refine z1j hS (by kernel_rfl) fun args v h => ?_
 unfold fRck at h
 split at h
 ·rename_i a1
  split at h
  ·rename_i L1 g1 n1 e1
   simp only [Option.some.injEq, Prod.mk.injEq, Bool.and_eq_true] at h
   obtain ⟨rfl, ho1, hw⟩ := h
   obtain ⟨N, hN⟩ := w4n L1
   exact ⟨_, _, (.cons (asL_le e1 ho1) .nil), rfl, x9j L1 N _ hN, 3, rfl⟩
  ·cases h
 ·cases h
def T9 : Specs := T8.with w0d fRck
theorem v7k : Zu Tryz.prog T9 := v5u Kh
end Go.Am
namespace Go.Am
open Go.Proofs
def gA (x : Int) (c B : R6) : R6 := ⟨Wx (IntKind.wrap .i64 (c.a - x)) B.a, Wx (IntKind.wrap .i64 (c.b - x)) B.b, Wx (IntKind.wrap .i64 (c.c - x)) B.c, Un (IntKind.wrap .i64 (c.d + x)) B.d, Un (IntKind.wrap .i64 (c.e + x)) B.e, Un (IntKind.wrap .i64 (c.f + x)) B.f⟩
def z5a (r : R6) : Bool := decide (r.a ≥ r.d) || (decide (r.b ≥ r.e) || decide (r.c ≥ r.f))
def v1p (G B : R6) : R6 := ⟨B.a, B.b, B.c, G.a, B.e, B.f⟩
def v1o (G B : R6) : R6 := ⟨G.d, B.b, B.c, B.d, B.e, B.f⟩
def w2y (G B : R6) : R6 := ⟨G.a, B.b, B.c, G.d, G.b, B.f⟩
def w2x (G B : R6) : R6 := ⟨G.a, G.e, B.c, G.d, B.e, B.f⟩
def x6v (G B : R6) : R6 := ⟨G.a, G.b, B.c, G.d, G.e, G.c⟩
def x6u (G B : R6) : R6 := ⟨G.a, G.b, G.f, G.d, G.e, B.f⟩
def covB (x : Int) : List R6 → R6 → Bool
 | [], _ => false
 | c :: l, B => bif z5a (gA x c B) then covB x l B else
  (z5a (v1p (gA x c B) B) || covB x l (v1p (gA x c B) B)) && ((z5a (v1o (gA x c B) B) || covB x l (v1o (gA x c B) B)) && ((z5a (w2y (gA x c B) B) || covB x l (w2y (gA x c B) B)) &&
   ((z5a (w2x (gA x c B) B) || covB x l (w2x (gA x c B) B)) && ((z5a (x6v (gA x c B) B) || covB x l (x6v (gA x c B) B)) && (z5a (x6u (gA x c B) B) || covB x l (x6u (gA x c B) B))))))
def x6w (a b c d e f : Int) (L : List R6) (x : Int) : Bool := covB x L ⟨a, b, c, d, e, f⟩
def Vy (q : Nat) (a b c d e f : Int) (L : List R6) (x : Int) : Bool := decide (L.length < q) && decide (L.length ≤ 100000)
def fCov (q : Nat) : List AVal → Option (AVal × Bool)
 | [.agg [.int .i64 x0_0, .int .i64 x0_1, .int .i64 x0_2, .int .i64 x0_3, .int .i64 x0_4, .int .i64 x0_5], a1, .int .i64 x2] => match asL R6 a1 with
  | some (L1, g1, n1) => some (.bool (x6w x0_0 x0_1 x0_2 x0_3 x0_4 x0_5 L1 x2), isT R6 n1 g1 && (Vy q x0_0 x0_1 x0_2 x0_3 x0_4 x0_5 L1 x2))
  | _ => none
 | _ => none
def Tcv (q : Nat) : Specs := T9.with z8e (fCov q)
theorem z2m (L : List R6) {k : Nat} (h : k ≤ L.length) : lst R6 (L.length - k) (fun j => (Zz L) (k + j)) = L.drop k := by
 rw [w5l L (by omega), List.take_of_length_le (by simp)]
end Go.Am
namespace Go.Am
open Go.Proofs
inductive cvdS where
 | h0 (v14 : Int)
 | h1 (v1_0 : Int) (v000_116_0 : Int) (v_1_0 : Int) (v_3_0 : Int) (v_3_1 : Int) (v_3_2 : Int) (v_3_3 : Int) (v_3_4 : Int) (v_3_5 : Int)
 | h2 (v0_0 : Int) (v_1_0 : Int) (v_3_0 : Int) (v_3_1 : Int) (v_3_2 : Int) (v_3_4 : Int) (v_3_5 : Int)
 | h3 (v0_0 : Int) (v1_0 : Int) (v1_1 : Int) (v_1_0 : Int) (v_3_2 : Int) (v_3_4 : Int) (v_3_5 : Int)
 | h4 (v0_0 : Int) (v0_1 : Int) (v1_0 : Int) (v_1_0 : Int) (v_3_1 : Int) (v_3_2 : Int) (v_3_5 : Int)
 | h5 (v0_0 : Int) (v0_1 : Int) (v1_0 : Int) (v1_1 : Int) (v1_2 : Int) (v_1_0 : Int) (v_3_5 : Int)
 | h6 (v0_0 : Int) (v0_1 : Int) (v0_2 : Int) (v1_0 : Int) (v1_1 : Int) (v_1_0 : Int)
def cvdC (x0_0 : Int) (x0_1 : Int) (x0_2 : Int) (x0_3 : Int) (x0_4 : Int) (x0_5 : Int) (l1 : List R6) (x2 : Int) : cvdS → Cfg
 | .h0 v14 => ⟨⟨200, 0, true⟩, none, (Za Tryz.prog 95 [1, 0, 1, 0, 0] 0), none, (Zy Tryz.prog 4), ⟨Yp [(3, (.ptr 0 0)), (4, (.ptr 1 0)), (5, (.ptr 2 0)), (12, (.dat l1.length (Zz l1))), (13, (ii (l1.length : Int))), (14, (ii v14))], Ve [⟨[(ii x0_0), (ii x0_1), (ii x0_2), (ii x0_3), (ii x0_4), (ii x0_5)], 68, none⟩, ⟨[(.dat l1.length (Zz l1))], 22, none⟩, ⟨[(ii x2)], 3, none⟩] 0, 3, [], true⟩, [], .leaf⟩
 | .h1 v1_0 v000_116_0 v_1_0 v_3_0 v_3_1 v_3_2 v_3_3 v_3_4 v_3_5 => ⟨⟨38, 0, true⟩, none, (Za Tryz.prog 127 [] 0), none, (Zy Tryz.prog 127), ⟨Yp [(0, (.agg [(ii x0_0), (ii x0_1), (ii x0_2)])), (1, (.agg [(ii v1_0), (ii x0_4), (ii x0_5)])), (2, (.ptr 0 0)), (3, (.ptr 1 0)), (4, (.ptr 2 0))], Ve [⟨[(.dat l1.length (Zz l1))], 22, none⟩, ⟨[(ii v_1_0)], 3, none⟩, ⟨[(ii x2)], 3, none⟩, ⟨[(ii v_3_0), (ii v_3_1), (ii v_3_2), (ii v_3_3), (ii v_3_4), (ii v_3_5)], 68, none⟩, ⟨[(ii x0_0), (ii x0_1), (ii x0_2)], 65, none⟩, ⟨[(ii x0_3), (ii x0_4), (ii x0_5)], 65, none⟩] 0, 6, [], true⟩, [⟨⟨200, 0, true⟩, (Vj Tryz.prog 95 [1, 0, 1, 0, 0, 1, 1, 0, 0, 1, 1, 1, 1, 1, 1, 0, 0] 10), (Za Tryz.prog 95 [1, 0, 1, 0, 0, 1, 1, 0, 0, 1, 1, 1, 1, 1, 1, 0, 0] 1), none, (Zy Tryz.prog 4), Yp [(8, (.ptr 3 0)), (9, (.fn 127 [(.ptr 0 0), (.ptr 1 0), (.ptr 2 0)])), (10, (.ptr 4 0)), (11, (.ptr 5 0)), (107, (.fn 127 [(.ptr 0 0), (.ptr 1 0), (.ptr 2 0)])), (108, (.agg [(ii x0_0), (ii x0_1), (ii x0_2)])), (116, (.agg [(ii v000_116_0), (ii x0_4), (ii x0_5)]))]⟩], .leaf⟩
 | .h2 v0_0 v_1_0 v_3_0 v_3_1 v_3_2 v_3_4 v_3_5 => ⟨⟨38, 0, true⟩, none, (Za Tryz.prog 127 [] 0), none, (Zy Tryz.prog 127), ⟨Yp [(0, (.agg [(ii v0_0), (ii x0_1), (ii x0_2)])), (1, (.agg [(ii x0_3), (ii x0_4), (ii x0_5)])), (2, (.ptr 0 0)), (3, (.ptr 1 0)), (4, (.ptr 2 0))], Ve [⟨[(.dat l1.length (Zz l1))], 22, none⟩, ⟨[(ii v_1_0)], 3, none⟩, ⟨[(ii x2)], 3, none⟩, ⟨[(ii v_3_0), (ii v_3_1), (ii v_3_2), (ii v0_0), (ii v_3_4), (ii v_3_5)], 68, none⟩, ⟨[(ii x0_0), (ii x0_1), (ii x0_2)], 65, none⟩, ⟨[(ii x0_3), (ii x0_4), (ii x0_5)], 65, none⟩] 0, 6, [], true⟩, [⟨⟨200, 0, true⟩, (Vj Tryz.prog 95 [1, 0, 1, 0, 0, 1, 1, 0, 0, 1, 1, 1, 1, 1, 1, 0, 0] 23), (Za Tryz.prog 95 [1, 0, 1, 0, 0, 1, 1, 0, 0, 1, 1, 1, 1, 1, 1, 0, 0] 1), none, (Zy Tryz.prog 4), Yp [(8, (.ptr 3 0)), (9, (.fn 127 [(.ptr 0 0), (.ptr 1 0), (.ptr 2 0)])), (10, (.ptr 4 0)), (11, (.ptr 5 0)), (119, (.bool false)), (120, (.fn 127 [(.ptr 0 0), (.ptr 1 0), (.ptr 2 0)])), (128, (.agg [(ii v0_0), (ii x0_1), (ii x0_2)])), (129, (.agg [(ii x0_3), (ii x0_4), (ii x0_5)]))]⟩], .leaf⟩
 | .h3 v0_0 v1_0 v1_1 v_1_0 v_3_2 v_3_4 v_3_5 => ⟨⟨38, 0, true⟩, none, (Za Tryz.prog 127 [] 0), none, (Zy Tryz.prog 127), ⟨Yp [(0, (.agg [(ii v0_0), (ii x0_1), (ii x0_2)])), (1, (.agg [(ii v1_0), (ii v1_1), (ii x0_5)])), (2, (.ptr 0 0)), (3, (.ptr 1 0)), (4, (.ptr 2 0))], Ve [⟨[(.dat l1.length (Zz l1))], 22, none⟩, ⟨[(ii v_1_0)], 3, none⟩, ⟨[(ii x2)], 3, none⟩, ⟨[(ii v0_0), (ii v1_1), (ii v_3_2), (ii v1_0), (ii v_3_4), (ii v_3_5)], 68, none⟩, ⟨[(ii v0_0), (ii x0_1), (ii x0_2)], 65, none⟩, ⟨[(ii v1_0), (ii x0_4), (ii x0_5)], 65, none⟩] 0, 6, [], true⟩, [⟨⟨200, 0, true⟩, (Vj Tryz.prog 95 [1, 0, 1, 0, 0, 1, 1, 0, 0, 1, 1, 1, 1, 1, 1, 1, 1, 0, 0] 10), (Za Tryz.prog 95 [1, 0, 1, 0, 0, 1, 1, 0, 0, 1, 1, 1, 1, 1, 1, 1, 1, 0, 0] 1), none, (Zy Tryz.prog 4), Yp [(8, (.ptr 3 0)), (9, (.fn 127 [(.ptr 0 0), (.ptr 1 0), (.ptr 2 0)])), (10, (.ptr 4 0)), (11, (.ptr 5 0)), (141, (.fn 127 [(.ptr 0 0), (.ptr 1 0), (.ptr 2 0)])), (142, (.agg [(ii v0_0), (ii x0_1), (ii x0_2)])), (150, (.agg [(ii v1_0), (ii v1_1), (ii x0_5)]))]⟩], .leaf⟩
 | .h4 v0_0 v0_1 v1_0 v_1_0 v_3_1 v_3_2 v_3_5 => ⟨⟨38, 0, true⟩, none, (Za Tryz.prog 127 [] 0), none, (Zy Tryz.prog 127), ⟨Yp [(0, (.agg [(ii v0_0), (ii v0_1), (ii x0_2)])), (1, (.agg [(ii v1_0), (ii x0_4), (ii x0_5)])), (2, (.ptr 0 0)), (3, (.ptr 1 0)), (4, (.ptr 2 0))], Ve [⟨[(.dat l1.length (Zz l1))], 22, none⟩, ⟨[(ii v_1_0)], 3, none⟩, ⟨[(ii x2)], 3, none⟩, ⟨[(ii v0_0), (ii v_3_1), (ii v_3_2), (ii v1_0), (ii v0_1), (ii v_3_5)], 68, none⟩, ⟨[(ii v0_0), (ii x0_1), (ii x0_2)], 65, none⟩, ⟨[(ii v1_0), (ii x0_4), (ii x0_5)], 65, none⟩] 0, 6, [], true⟩, [⟨⟨200, 0, true⟩, (Vj Tryz.prog 95 [1, 0, 1, 0, 0, 1, 1, 0, 0, 1, 1, 1, 1, 1, 1, 1, 1, 0, 0] 23), (Za Tryz.prog 95 [1, 0, 1, 0, 0, 1, 1, 0, 0, 1, 1, 1, 1, 1, 1, 1, 1, 0, 0] 1), none, (Zy Tryz.prog 4), Yp [(8, (.ptr 3 0)), (9, (.fn 127 [(.ptr 0 0), (.ptr 1 0), (.ptr 2 0)])), (10, (.ptr 4 0)), (11, (.ptr 5 0)), (153, (.bool false)), (154, (.fn 127 [(.ptr 0 0), (.ptr 1 0), (.ptr 2 0)])), (162, (.agg [(ii v0_0), (ii v0_1), (ii x0_2)])), (163, (.agg [(ii v1_0), (ii x0_4), (ii x0_5)]))]⟩], .leaf⟩
 | .h5 v0_0 v0_1 v1_0 v1_1 v1_2 v_1_0 v_3_5 => ⟨⟨38, 0, true⟩, none, (Za Tryz.prog 127 [] 0), none, (Zy Tryz.prog 127), ⟨Yp [(0, (.agg [(ii v0_0), (ii v0_1), (ii x0_2)])), (1, (.agg [(ii v1_0), (ii v1_1), (ii v1_2)])), (2, (.ptr 0 0)), (3, (.ptr 1 0)), (4, (.ptr 2 0))], Ve [⟨[(.dat l1.length (Zz l1))], 22, none⟩, ⟨[(ii v_1_0)], 3, none⟩, ⟨[(ii x2)], 3, none⟩, ⟨[(ii v0_0), (ii v0_1), (ii v1_2), (ii v1_0), (ii v1_1), (ii v_3_5)], 68, none⟩, ⟨[(ii v0_0), (ii v0_1), (ii x0_2)], 65, none⟩, ⟨[(ii v1_0), (ii v1_1), (ii x0_5)], 65, none⟩] 0, 6, [], true⟩, [⟨⟨200, 0, true⟩, (Vj Tryz.prog 95 [1, 0, 1, 0, 0, 1, 1, 0, 0, 1, 1, 1, 1, 1, 1, 1, 1, 1, 1, 0] 10), (Za Tryz.prog 95 [1, 0, 1, 0, 0, 1, 1, 0, 0, 1, 1, 1, 1, 1, 1, 1, 1, 1, 1, 0] 1), none, (Zy Tryz.prog 4), Yp [(8, (.ptr 3 0)), (9, (.fn 127 [(.ptr 0 0), (.ptr 1 0), (.ptr 2 0)])), (10, (.ptr 4 0)), (11, (.ptr 5 0)), (175, (.fn 127 [(.ptr 0 0), (.ptr 1 0), (.ptr 2 0)])), (176, (.agg [(ii v0_0), (ii v0_1), (ii x0_2)])), (184, (.agg [(ii v1_0), (ii v1_1), (ii v1_2)]))]⟩], .leaf⟩
 | .h6 v0_0 v0_1 v0_2 v1_0 v1_1 v_1_0 => ⟨⟨38, 0, true⟩, none, (Za Tryz.prog 127 [] 0), none, (Zy Tryz.prog 127), ⟨Yp [(0, (.agg [(ii v0_0), (ii v0_1), (ii v0_2)])), (1, (.agg [(ii v1_0), (ii v1_1), (ii x0_5)])), (2, (.ptr 0 0)), (3, (.ptr 1 0)), (4, (.ptr 2 0))], Ve [⟨[(.dat l1.length (Zz l1))], 22, none⟩, ⟨[(ii v_1_0)], 3, none⟩, ⟨[(ii x2)], 3, none⟩] 0, 3, [], true⟩, [⟨⟨200, 0, true⟩, (Vj Tryz.prog 95 [1, 0, 1, 0, 0, 1, 1, 0, 0, 1, 1, 1, 1, 1, 1, 1, 1, 1, 1, 0] 22), (Za Tryz.prog 95 [1, 0, 1, 0, 0, 1, 1, 0, 0, 1, 1, 1, 1, 1, 1, 1, 1, 1, 1, 0] 1), none, (Zy Tryz.prog 4), Yp [(186, (.bool true)), (187, (.fn 127 [(.ptr 0 0), (.ptr 1 0), (.ptr 2 0)])), (195, (.agg [(ii v0_0), (ii v0_1), (ii v0_2)])), (196, (.agg [(ii v1_0), (ii v1_1), (ii x0_5)]))]⟩], .leaf⟩
def w7r : List (Option (List Nat)) := [some [3, 4, 5, 12, 13, 14]]
def w7x : List (Option (List Nat)) := []
def cvdN1 : List (Option (List Nat)) := [some [0, 1, 2, 3, 4], some [8, 9, 10, 11, 107, 108, 116]]
def cvdM1 : List (Option (List Nat)) := []
def w7q : List (Option (List Nat)) := [some [0, 1, 2, 3, 4], some [8, 9, 10, 11, 119, 120, 128, 129]]
def w7w : List (Option (List Nat)) := []
def w7p : List (Option (List Nat)) := [some [0, 1, 2, 3, 4], some [8, 9, 10, 11, 141, 142, 150]]
def w7v : List (Option (List Nat)) := []
def w7o : List (Option (List Nat)) := [some [0, 1, 2, 3, 4], some [8, 9, 10, 11, 153, 154, 162, 163]]
def w7u : List (Option (List Nat)) := []
def w7n : List (Option (List Nat)) := [some [0, 1, 2, 3, 4], some [8, 9, 10, 11, 175, 176, 184]]
def w7t : List (Option (List Nat)) := []
def w7m : List (Option (List Nat)) := [some [0, 1, 2, 3, 4], some [186, 187, 195, 196]]
def w7s : List (Option (List Nat)) := []
def Wd (q : Nat) (x0_0 : Int) (x0_1 : Int) (x0_2 : Int) (x0_3 : Int) (x0_4 : Int) (x0_5 : Int) (l1 : List R6) (x2 : Int) : cvdS → Xc cvdS
 | .h0 v14 => (bif (decide (v14 < (l1.length : Int))) then (bif ((decide (0 ≤ v14 ∧ v14 < (l1.length : Int))) && true) then (bif (decide ((Wx (IntKind.wrap .i64 ((rd l1 v14.toNat).a - x2)) x0_0) ≥ (Un (IntKind.wrap .i64 ((rd l1 v14.toNat).d + x2)) x0_3))) then (.to (.h0 (IntKind.wrap .i64 (v14 + 1)))) else (bif (decide ((Wx (IntKind.wrap .i64 ((rd l1 v14.toNat).b - x2)) x0_1) ≥ (Un (IntKind.wrap .i64 ((rd l1 v14.toNat).e + x2)) x0_4))) then (.to (.h0 (IntKind.wrap .i64 (v14 + 1)))) else (bif (decide ((Wx (IntKind.wrap .i64 ((rd l1 v14.toNat).c - x2)) x0_2) ≥ (Un (IntKind.wrap .i64 ((rd l1 v14.toNat).f + x2)) x0_5))) then (.to (.h0 (IntKind.wrap .i64 (v14 + 1)))) else (.to (.h1 (Wx (IntKind.wrap .i64 ((rd l1 v14.toNat).a - x2)) x0_0) (Wx (IntKind.wrap .i64 ((rd l1 v14.toNat).a - x2)) x0_0) v14 (Wx (IntKind.wrap .i64 ((rd l1 v14.toNat).a - x2)) x0_0) (Wx (IntKind.wrap .i64 ((rd l1 v14.toNat).b - x2)) x0_1) (Wx (IntKind.wrap .i64 ((rd l1 v14.toNat).c - x2)) x0_2) (Un (IntKind.wrap .i64 ((rd l1 v14.toNat).d + x2)) x0_3) (Un (IntKind.wrap .i64 ((rd l1 v14.toNat).e + x2)) x0_4) (Un (IntKind.wrap .i64 ((rd l1 v14.toNat).f + x2)) x0_5)))))) else .stuck) else (.ret [(.bool false)]))
 | .h1 v1_0 v000_116_0 v_1_0 v_3_0 v_3_1 v_3_2 v_3_3 v_3_4 v_3_5 => (bif (decide (x0_0 ≥ v1_0)) then (.to (.h2 v_3_3 v_1_0 v_3_0 v_3_1 v_3_2 v_3_4 v_3_5)) else (bif (decide (x0_1 ≥ x0_4)) then (.to (.h2 v_3_3 v_1_0 v_3_0 v_3_1 v_3_2 v_3_4 v_3_5)) else (bif (decide (x0_2 ≥ x0_5)) then (.to (.h2 v_3_3 v_1_0 v_3_0 v_3_1 v_3_2 v_3_4 v_3_5)) else (bif (decide ((Int.toNat (IntKind.wrap .i64 (v_1_0 + 1))) ≤ l1.length)) then (bif (decide (l1.length ≤ l1.length)) then (bif (decide (0 ≤ (IntKind.wrap .i64 (v_1_0 + 1)))) then (bif (Vy q x0_0 x0_1 x0_2 v1_0 x0_4 x0_5 (lst R6 (l1.length - (Int.toNat (IntKind.wrap .i64 (v_1_0 + 1)))) (fun k => (Zz l1) ((Int.toNat (IntKind.wrap .i64 (v_1_0 + 1))) + k))) x2) then (bif (!(x6w x0_0 x0_1 x0_2 v1_0 x0_4 x0_5 (lst R6 (l1.length - (Int.toNat (IntKind.wrap .i64 (v_1_0 + 1)))) (fun k => (Zz l1) ((Int.toNat (IntKind.wrap .i64 (v_1_0 + 1))) + k))) x2)) then (.ret [(.bool false)]) else (.to (.h2 v_3_3 v_1_0 v_3_0 v_3_1 v_3_2 v_3_4 v_3_5))) else .stuck) else .stuck) else .stuck) else .stuck))))
 | .h2 v0_0 v_1_0 v_3_0 v_3_1 v_3_2 v_3_4 v_3_5 => (bif (decide (v0_0 ≥ x0_3)) then (.to (.h3 v_3_0 v0_0 v_3_1 v_1_0 v_3_2 v_3_4 v_3_5)) else (bif (decide (x0_1 ≥ x0_4)) then (.to (.h3 v_3_0 v0_0 v_3_1 v_1_0 v_3_2 v_3_4 v_3_5)) else (bif (decide (x0_2 ≥ x0_5)) then (.to (.h3 v_3_0 v0_0 v_3_1 v_1_0 v_3_2 v_3_4 v_3_5)) else (bif (decide ((Int.toNat (IntKind.wrap .i64 (v_1_0 + 1))) ≤ l1.length)) then (bif (decide (l1.length ≤ l1.length)) then (bif (decide (0 ≤ (IntKind.wrap .i64 (v_1_0 + 1)))) then (bif (Vy q v0_0 x0_1 x0_2 x0_3 x0_4 x0_5 (lst R6 (l1.length - (Int.toNat (IntKind.wrap .i64 (v_1_0 + 1)))) (fun k => (Zz l1) ((Int.toNat (IntKind.wrap .i64 (v_1_0 + 1))) + k))) x2) then (bif (!(x6w v0_0 x0_1 x0_2 x0_3 x0_4 x0_5 (lst R6 (l1.length - (Int.toNat (IntKind.wrap .i64 (v_1_0 + 1)))) (fun k => (Zz l1) ((Int.toNat (IntKind.wrap .i64 (v_1_0 + 1))) + k))) x2)) then (.ret [(.bool false)]) else (.to (.h3 v_3_0 v0_0 v_3_1 v_1_0 v_3_2 v_3_4 v_3_5))) else .stuck) else .stuck) else .stuck) else .stuck))))
 | .h3 v0_0 v1_0 v1_1 v_1_0 v_3_2 v_3_4 v_3_5 => (bif (decide (v0_0 ≥ v1_0)) then (.to (.h4 v0_0 v_3_4 v1_0 v_1_0 v1_1 v_3_2 v_3_5)) else (bif (decide (x0_1 ≥ v1_1)) then (.to (.h4 v0_0 v_3_4 v1_0 v_1_0 v1_1 v_3_2 v_3_5)) else (bif (decide (x0_2 ≥ x0_5)) then (.to (.h4 v0_0 v_3_4 v1_0 v_1_0 v1_1 v_3_2 v_3_5)) else (bif (decide ((Int.toNat (IntKind.wrap .i64 (v_1_0 + 1))) ≤ l1.length)) then (bif (decide (l1.length ≤ l1.length)) then (bif (decide (0 ≤ (IntKind.wrap .i64 (v_1_0 + 1)))) then (bif (Vy q v0_0 x0_1 x0_2 v1_0 v1_1 x0_5 (lst R6 (l1.length - (Int.toNat (IntKind.wrap .i64 (v_1_0 + 1)))) (fun k => (Zz l1) ((Int.toNat (IntKind.wrap .i64 (v_1_0 + 1))) + k))) x2) then (bif (!(x6w v0_0 x0_1 x0_2 v1_0 v1_1 x0_5 (lst R6 (l1.length - (Int.toNat (IntKind.wrap .i64 (v_1_0 + 1)))) (fun k => (Zz l1) ((Int.toNat (IntKind.wrap .i64 (v_1_0 + 1))) + k))) x2)) then (.ret [(.bool false)]) else (.to (.h4 v0_0 v_3_4 v1_0 v_1_0 v1_1 v_3_2 v_3_5))) else .stuck) else .stuck) else .stuck) else .stuck))))
 | .h4 v0_0 v0_1 v1_0 v_1_0 v_3_1 v_3_2 v_3_5 => (bif (decide (v0_0 ≥ v1_0)) then (.to (.h5 v0_0 v_3_1 v1_0 v0_1 v_3_2 v_1_0 v_3_5)) else (bif (decide (v0_1 ≥ x0_4)) then (.to (.h5 v0_0 v_3_1 v1_0 v0_1 v_3_2 v_1_0 v_3_5)) else (bif (decide (x0_2 ≥ x0_5)) then (.to (.h5 v0_0 v_3_1 v1_0 v0_1 v_3_2 v_1_0 v_3_5)) else (bif (decide ((Int.toNat (IntKind.wrap .i64 (v_1_0 + 1))) ≤ l1.length)) then (bif (decide (l1.length ≤ l1.length)) then (bif (decide (0 ≤ (IntKind.wrap .i64 (v_1_0 + 1)))) then (bif (Vy q v0_0 v0_1 x0_2 v1_0 x0_4 x0_5 (lst R6 (l1.length - (Int.toNat (IntKind.wrap .i64 (v_1_0 + 1)))) (fun k => (Zz l1) ((Int.toNat (IntKind.wrap .i64 (v_1_0 + 1))) + k))) x2) then (bif (!(x6w v0_0 v0_1 x0_2 v1_0 x0_4 x0_5 (lst R6 (l1.length - (Int.toNat (IntKind.wrap .i64 (v_1_0 + 1)))) (fun k => (Zz l1) ((Int.toNat (IntKind.wrap .i64 (v_1_0 + 1))) + k))) x2)) then (.ret [(.bool false)]) else (.to (.h5 v0_0 v_3_1 v1_0 v0_1 v_3_2 v_1_0 v_3_5))) else .stuck) else .stuck) else .stuck) else .stuck))))
 | .h5 v0_0 v0_1 v1_0 v1_1 v1_2 v_1_0 v_3_5 => (bif (decide (v0_0 ≥ v1_0)) then (.to (.h6 v0_0 v0_1 v_3_5 v1_0 v1_1 v_1_0)) else (bif (decide (v0_1 ≥ v1_1)) then (.to (.h6 v0_0 v0_1 v_3_5 v1_0 v1_1 v_1_0)) else (bif (decide (x0_2 ≥ v1_2)) then (.to (.h6 v0_0 v0_1 v_3_5 v1_0 v1_1 v_1_0)) else (bif (decide ((Int.toNat (IntKind.wrap .i64 (v_1_0 + 1))) ≤ l1.length)) then (bif (decide (l1.length ≤ l1.length)) then (bif (decide (0 ≤ (IntKind.wrap .i64 (v_1_0 + 1)))) then (bif (Vy q v0_0 v0_1 x0_2 v1_0 v1_1 v1_2 (lst R6 (l1.length - (Int.toNat (IntKind.wrap .i64 (v_1_0 + 1)))) (fun k => (Zz l1) ((Int.toNat (IntKind.wrap .i64 (v_1_0 + 1))) + k))) x2) then (bif (x6w v0_0 v0_1 x0_2 v1_0 v1_1 v1_2 (lst R6 (l1.length - (Int.toNat (IntKind.wrap .i64 (v_1_0 + 1)))) (fun k => (Zz l1) ((Int.toNat (IntKind.wrap .i64 (v_1_0 + 1))) + k))) x2) then (.to (.h6 v0_0 v0_1 v_3_5 v1_0 v1_1 v_1_0)) else (.ret [(.bool false)])) else .stuck) else .stuck) else .stuck) else .stuck))))
 | .h6 v0_0 v0_1 v0_2 v1_0 v1_1 v_1_0 => (bif (decide (v0_0 ≥ v1_0)) then (.ret [(.bool true)]) else (bif (decide (v0_1 ≥ v1_1)) then (.ret [(.bool true)]) else (bif (decide (v0_2 ≥ x0_5)) then (.ret [(.bool true)]) else (bif (decide ((Int.toNat (IntKind.wrap .i64 (v_1_0 + 1))) ≤ l1.length)) then (bif (decide (l1.length ≤ l1.length)) then (bif (decide (0 ≤ (IntKind.wrap .i64 (v_1_0 + 1)))) then (bif (Vy q v0_0 v0_1 v0_2 v1_0 v1_1 x0_5 (lst R6 (l1.length - (Int.toNat (IntKind.wrap .i64 (v_1_0 + 1)))) (fun k => (Zz l1) ((Int.toNat (IntKind.wrap .i64 (v_1_0 + 1))) + k))) x2) then (.ret [(.bool (x6w v0_0 v0_1 v0_2 v1_0 v1_1 x0_5 (lst R6 (l1.length - (Int.toNat (IntKind.wrap .i64 (v_1_0 + 1)))) (fun k => (Zz l1) ((Int.toNat (IntKind.wrap .i64 (v_1_0 + 1))) + k))) x2))]) else .stuck) else .stuck) else .stuck) else .stuck))))
def y4b (x0_0 : Int) (x0_1 : Int) (x0_2 : Int) (x0_3 : Int) (x0_4 : Int) (x0_5 : Int) (l1 : List R6) (x2 : Int) : Xc cvdS := (.to (.h0 0))
theorem x6g {q : Nat} (hq : Zu Tryz.prog (Tcv q)) (x0_0 : Int) (x0_1 : Int) (x0_2 : Int) (x0_3 : Int) (x0_4 : Int) (x0_5 : Int) (l1 : List R6) (x2 : Int) : ∀ s, Wy Tryz.prog (Zy Tryz.prog 95) (cvdC x0_0 x0_1 x0_2 x0_3 x0_4 x0_5 l1 x2) (cvdC x0_0 x0_1 x0_2 x0_3 x0_4 x0_5 l1 x2 s) (Wd q x0_0 x0_1 x0_2 x0_3 x0_4 x0_5 l1 x2 s)
 | .h0 v14 => (lb (fun k0 => (lo fun o1_0 => (lb (fun k1 => (sl hq 121 [] ⟨[0, 1, 2], [], w7r, w7x⟩ ⟨[], [], []⟩ (trs 16 []) (tt k1 (ww o1_0 (tt k0 nn))))) (fun k1 => (lb (fun k2 => (sl hq 121 [] ⟨[0, 1, 2], [], w7r, w7x⟩ ⟨[], [], []⟩ [true, false, false, false, false, false, false, false, true, true, true, true, true, true, true, true] (tt k2 (tt k1 (ww o1_0 (tt k0 nn)))))) (fun k2 => (lb (fun k3 => (sl hq 121 [] ⟨[0, 1, 2], [], w7r, w7x⟩ ⟨[], [], []⟩ [true, false, false, false, false, false, false, false, false, false, false, false, false, false, false, true] (tt k3 (tt k2 (tt k1 (ww o1_0 (tt k0 nn))))))) (fun k3 => (sl hq 137 [] ⟨[1, 3, 2, 4, 5, 6], [], cvdN1, cvdM1⟩ ⟨[], [], []⟩ [true, false, false, false, false, false, false, false, false, false, false, false, false, false, false, false] (tt k3 (tt k2 (tt k1 (ww o1_0 (tt k0 nn)))))))))))))) (fun k0 => (lr 200 3 [1, 1, 1, 1, 1, 1, 0] 1 4 [(6, (.bool false))] (sl hq 11 [] ⟨[], [], [some [6]], []⟩ ⟨[], [], []⟩ [false] (tt k0 nn)))))
 | .h1 v1_0 v000_116_0 v_1_0 v_3_0 v_3_1 v_3_2 v_3_3 v_3_4 v_3_5 => (lb (fun k0 => (sl hq 22 [] ⟨(List.range 6), [], w7q, w7w⟩ ⟨[], [], []⟩ (trs 19 [false, false, false, false, false, false, false, false, false, false, false]) (tt k0 nn))) (fun k0 => (lb (fun k1 => (sl hq 22 [] ⟨(List.range 6), [], w7q, w7w⟩ ⟨[], [], []⟩ [false, false, false, false, false, true, true, true, true, true, true, true, true, true, true, true, true, true, true, false, false, false, false, false, false, false, false, false, false, false] (tt k1 (tt k0 nn)))) (fun k1 => (lb (fun k2 => (sl hq 22 [] ⟨(List.range 6), [], w7q, w7w⟩ ⟨[], [], []⟩ [false, false, false, false, false, false, false, false, false, false, true, true, true, true, true, true, true, true, true, false, false, false, false, false, false, false, false, false, false, false] (tt k2 (tt k1 (tt k0 nn))))) (fun k2 => (lo fun o3_0 => (lo fun o3_1 => (lo fun o3_2 => (lo fun o3_3 => (lb (fun k3 => (lr 200 95 [1, 0, 1, 0, 0, 1, 1, 0, 0, 1, 1, 1, 1, 1, 1, 0, 1, 0, 0] 1 4 [(6, (.bool false))] (sl hq 30 [] ⟨[], [], [some [6]], []⟩ ⟨[], [], []⟩ [false, false, false, false, false, false, false, false, false, false, false, false, false, false, false, false, false, false, false, true, true, true, true, true, true, true, true, true, true, true, true, true] (tt k3 (pp (pp (xI R6 (l1.length - (tn (wr (v_1_0 + 1)))) (fun k => (Zz l1) ((tn (wr (v_1_0 + 1))) + k))) (xw o3_3)) (pp (pp nn (pp (xw o3_2) (pp (xG (decide (l1.length ≤ l1.length))) (pp (xG (decide ((tn (wr (v_1_0 + 1))) ≤ l1.length))) (xG (x5i l1.length (Zz l1) 6)))))) (tt k2 (tt k1 (tt k0 nn))))))))) (fun k3 => (sl hq 22 [] ⟨(List.range 6), [], w7q, w7w⟩ ⟨[], [], []⟩ [false, false, false, false, false, false, false, false, false, false, false, false, false, false, false, false, false, false, false, false, false, false, false, false, false, false, false, false, false, false] (tt k3 (pp (pp (xI R6 (l1.length - (tn (wr (v_1_0 + 1)))) (fun k => (Zz l1) ((tn (wr (v_1_0 + 1))) + k))) (xw o3_3)) (pp (pp nn (pp (xw o3_2) (pp (xG (decide (l1.length ≤ l1.length))) (pp (xG (decide ((tn (wr (v_1_0 + 1))) ≤ l1.length))) (xG (x5i l1.length (Zz l1) 6)))))) (tt k2 (tt k1 (tt k0 nn)))))))))))))))))))
 | .h2 v0_0 v_1_0 v_3_0 v_3_1 v_3_2 v_3_4 v_3_5 => (lb (fun k0 => (sl hq 30 [] ⟨(List.range 6), [], w7p, w7v⟩ ⟨[], [], []⟩ (trs 19 [false, false]) (tt k0 nn))) (fun k0 => (lb (fun k1 => (sl hq 30 [] ⟨(List.range 6), [], w7p, w7v⟩ ⟨[], [], []⟩ [false, false, false, false, false, true, true, true, true, true, true, true, true, true, true, true, true, true, true, false, false] (tt k1 (tt k0 nn)))) (fun k1 => (lb (fun k2 => (sl hq 30 [] ⟨(List.range 6), [], w7p, w7v⟩ ⟨[], [], []⟩ [false, false, false, false, false, false, false, false, false, false, true, true, true, true, true, true, true, true, true, false, false] (tt k2 (tt k1 (tt k0 nn))))) (fun k2 => (lo fun o3_0 => (lo fun o3_1 => (lo fun o3_2 => (lo fun o3_3 => (lb (fun k3 => (lr 200 95 [1, 0, 1, 0, 0, 1, 1, 0, 0, 1, 1, 1, 1, 1, 1, 0, 1, 0, 0] 1 4 [(6, (.bool false))] (sl hq 17 [] ⟨[], [], [some [6]], []⟩ ⟨[], [], []⟩ [false, false, false, false, false, false, false, false, false, false, false, false, false, false, false, false, false, false, false, false, true] (tt k3 (pp (pp (xI R6 (l1.length - (tn (wr (v_1_0 + 1)))) (fun k => (Zz l1) ((tn (wr (v_1_0 + 1))) + k))) (xw o3_3)) (pp (pp nn (pp (xw o3_2) (pp (xG (decide (l1.length ≤ l1.length))) (pp (xG (decide ((tn (wr (v_1_0 + 1))) ≤ l1.length))) (xG (x5i l1.length (Zz l1) 6)))))) (tt k2 (tt k1 (tt k0 nn))))))))) (fun k3 => (sl hq 30 [] ⟨(List.range 6), [], w7p, w7v⟩ ⟨[], [], []⟩ [false, false, false, false, false, false, false, false, false, false, false, false, false, false, false, false, false, false, false, false, false] (tt k3 (pp (pp (xI R6 (l1.length - (tn (wr (v_1_0 + 1)))) (fun k => (Zz l1) ((tn (wr (v_1_0 + 1))) + k))) (xw o3_3)) (pp (pp nn (pp (xw o3_2) (pp (xG (decide (l1.length ≤ l1.length))) (pp (xG (decide ((tn (wr (v_1_0 + 1))) ≤ l1.length))) (xG (x5i l1.length (Zz l1) 6)))))) (tt k2 (tt k1 (tt k0 nn)))))))))))))))))))
 | .h3 v0_0 v1_0 v1_1 v_1_0 v_3_2 v_3_4 v_3_5 => (lb (fun k0 => (sl hq 22 [] ⟨(List.range 6), [], w7o, w7u⟩ ⟨[], [], []⟩ (trs 19 [false, false, false, false, false, false, false, false, false, false, false]) (tt k0 nn))) (fun k0 => (lb (fun k1 => (sl hq 22 [] ⟨(List.range 6), [], w7o, w7u⟩ ⟨[], [], []⟩ [false, false, false, false, false, true, true, true, true, true, true, true, true, true, true, true, true, true, true, false, false, false, false, false, false, false, false, false, false, false] (tt k1 (tt k0 nn)))) (fun k1 => (lb (fun k2 => (sl hq 22 [] ⟨(List.range 6), [], w7o, w7u⟩ ⟨[], [], []⟩ [false, false, false, false, false, false, false, false, false, false, true, true, true, true, true, true, true, true, true, false, false, false, false, false, false, false, false, false, false, false] (tt k2 (tt k1 (tt k0 nn))))) (fun k2 => (lo fun o3_0 => (lo fun o3_1 => (lo fun o3_2 => (lo fun o3_3 => (lb (fun k3 => (lr 200 95 [1, 0, 1, 0, 0, 1, 1, 0, 0, 1, 1, 1, 1, 1, 1, 1, 1, 0, 1, 0, 0] 1 4 [(6, (.bool false))] (sl hq 30 [] ⟨[], [], [some [6]], []⟩ ⟨[], [], []⟩ [false, false, false, false, false, false, false, false, false, false, false, false, false, false, false, false, false, false, false, true, true, true, true, true, true, true, true, true, true, true, true, true] (tt k3 (pp (pp (xI R6 (l1.length - (tn (wr (v_1_0 + 1)))) (fun k => (Zz l1) ((tn (wr (v_1_0 + 1))) + k))) (xw o3_3)) (pp (pp nn (pp (xw o3_2) (pp (xG (decide (l1.length ≤ l1.length))) (pp (xG (decide ((tn (wr (v_1_0 + 1))) ≤ l1.length))) (xG (x5i l1.length (Zz l1) 6)))))) (tt k2 (tt k1 (tt k0 nn))))))))) (fun k3 => (sl hq 22 [] ⟨(List.range 6), [], w7o, w7u⟩ ⟨[], [], []⟩ [false, false, false, false, false, false, false, false, false, false, false, false, false, false, false, false, false, false, false, false, false, false, false, false, false, false, false, false, false, false] (tt k3 (pp (pp (xI R6 (l1.length - (tn (wr (v_1_0 + 1)))) (fun k => (Zz l1) ((tn (wr (v_1_0 + 1))) + k))) (xw o3_3)) (pp (pp nn (pp (xw o3_2) (pp (xG (decide (l1.length ≤ l1.length))) (pp (xG (decide ((tn (wr (v_1_0 + 1))) ≤ l1.length))) (xG (x5i l1.length (Zz l1) 6)))))) (tt k2 (tt k1 (tt k0 nn)))))))))))))))))))
 | .h4 v0_0 v0_1 v1_0 v_1_0 v_3_1 v_3_2 v_3_5 => (lb (fun k0 => (sl hq 29 [] ⟨(List.range 6), [], w7n, w7t⟩ ⟨[], [], []⟩ (trs 19 [false, false]) (tt k0 nn))) (fun k0 => (lb (fun k1 => (sl hq 29 [] ⟨(List.range 6), [], w7n, w7t⟩ ⟨[], [], []⟩ [false, false, false, false, false, true, true, true, true, true, true, true, true, true, true, true, true, true, true, false, false] (tt k1 (tt k0 nn)))) (fun k1 => (lb (fun k2 => (sl hq 29 [] ⟨(List.range 6), [], w7n, w7t⟩ ⟨[], [], []⟩ [false, false, false, false, false, false, false, false, false, false, true, true, true, true, true, true, true, true, true, false, false] (tt k2 (tt k1 (tt k0 nn))))) (fun k2 => (lo fun o3_0 => (lo fun o3_1 => (lo fun o3_2 => (lo fun o3_3 => (lb (fun k3 => (lr 200 95 [1, 0, 1, 0, 0, 1, 1, 0, 0, 1, 1, 1, 1, 1, 1, 1, 1, 0, 1, 0, 0] 1 4 [(6, (.bool false))] (sl hq 17 [] ⟨[], [], [some [6]], []⟩ ⟨[], [], []⟩ [false, false, false, false, false, false, false, false, false, false, false, false, false, false, false, false, false, false, false, false, true] (tt k3 (pp (pp (xI R6 (l1.length - (tn (wr (v_1_0 + 1)))) (fun k => (Zz l1) ((tn (wr (v_1_0 + 1))) + k))) (xw o3_3)) (pp (pp nn (pp (xw o3_2) (pp (xG (decide (l1.length ≤ l1.length))) (pp (xG (decide ((tn (wr (v_1_0 + 1))) ≤ l1.length))) (xG (x5i l1.length (Zz l1) 6)))))) (tt k2 (tt k1 (tt k0 nn))))))))) (fun k3 => (sl hq 29 [] ⟨(List.range 6), [], w7n, w7t⟩ ⟨[], [], []⟩ [false, false, false, false, false, false, false, false, false, false, false, false, false, false, false, false, false, false, false, false, false] (tt k3 (pp (pp (xI R6 (l1.length - (tn (wr (v_1_0 + 1)))) (fun k => (Zz l1) ((tn (wr (v_1_0 + 1))) + k))) (xw o3_3)) (pp (pp nn (pp (xw o3_2) (pp (xG (decide (l1.length ≤ l1.length))) (pp (xG (decide ((tn (wr (v_1_0 + 1))) ≤ l1.length))) (xG (x5i l1.length (Zz l1) 6)))))) (tt k2 (tt k1 (tt k0 nn)))))))))))))))))))
 | .h5 v0_0 v0_1 v1_0 v1_1 v1_2 v_1_0 v_3_5 => (lb (fun k0 => (sl hq 21 [] ⟨[0, 1, 2], [], w7m, w7s⟩ ⟨[], [], []⟩ (trs 30 []) (tt k0 nn))) (fun k0 => (lb (fun k1 => (sl hq 21 [] ⟨[0, 1, 2], [], w7m, w7s⟩ ⟨[], [], []⟩ [false, false, false, false, false, true, true, true, true, true, true, true, true, true, true, true, true, true, true, true, true, true, true, true, true, true, true, true, true, true] (tt k1 (tt k0 nn)))) (fun k1 => (lb (fun k2 => (sl hq 21 [] ⟨[0, 1, 2], [], w7m, w7s⟩ ⟨[], [], []⟩ [false, false, false, false, false, false, false, false, false, false, true, true, true, true, true, true, true, true, true, true, true, true, true, true, true, true, true, true, true, true] (tt k2 (tt k1 (tt k0 nn))))) (fun k2 => (lo fun o3_0 => (lo fun o3_1 => (lo fun o3_2 => (lo fun o3_3 => (lb (fun k3 => (sl hq 21 [] ⟨[0, 1, 2], [], w7m, w7s⟩ ⟨[], [], []⟩ [false, false, false, false, false, false, false, false, false, false, false, false, false, false, false, false, false, false, false, true, true, true, true, true, true, true, true, true, true, true] (tt k3 (pp (pp (xI R6 (l1.length - (tn (wr (v_1_0 + 1)))) (fun k => (Zz l1) ((tn (wr (v_1_0 + 1))) + k))) (xw o3_3)) (pp (pp nn (pp (xw o3_2) (pp (xG (decide (l1.length ≤ l1.length))) (pp (xG (decide ((tn (wr (v_1_0 + 1))) ≤ l1.length))) (xG (x5i l1.length (Zz l1) 6)))))) (tt k2 (tt k1 (tt k0 nn)))))))) (fun k3 => (lr 200 95 [1, 0, 1, 0, 0, 1, 1, 0, 0, 1, 1, 1, 1, 1, 1, 1, 1, 1, 1, 0] 1 4 [(6, (.bool false))] (sl hq 24 [] ⟨[], [], [some [6]], []⟩ ⟨[], [], []⟩ [false, false, false, false, false, false, false, false, false, false, false, false, false, false, false, false, false, false, false, false, false, false, false, false, false, false, false, false, false, false] (tt k3 (pp (pp (xI R6 (l1.length - (tn (wr (v_1_0 + 1)))) (fun k => (Zz l1) ((tn (wr (v_1_0 + 1))) + k))) (xw o3_3)) (pp (pp nn (pp (xw o3_2) (pp (xG (decide (l1.length ≤ l1.length))) (pp (xG (decide ((tn (wr (v_1_0 + 1))) ≤ l1.length))) (xG (x5i l1.length (Zz l1) 6)))))) (tt k2 (tt k1 (tt k0 nn))))))))))))))))))))
 | .h6 v0_0 v0_1 v0_2 v1_0 v1_1 v_1_0 => (lb (fun k0 => (lr 200 95 [1, 0, 1, 0, 0, 1, 1, 0, 0, 1, 1, 1, 1, 1, 1, 1, 1, 1, 1, 0] 1 4 [(6, (.bool true))] (sl hq 12 [] ⟨[], [], [some [6]], []⟩ ⟨[], [], []⟩ (trs 19 []) (tt k0 nn)))) (fun k0 => (lb (fun k1 => (lr 200 95 [1, 0, 1, 0, 0, 1, 1, 0, 0, 1, 1, 1, 1, 1, 1, 1, 1, 1, 1, 0] 1 4 [(6, (.bool true))] (sl hq 12 [] ⟨[], [], [some [6]], []⟩ ⟨[], [], []⟩ [false, false, false, false, false, true, true, true, true, true, true, true, true, true, true, true, true, true, true] (tt k1 (tt k0 nn))))) (fun k1 => (lb (fun k2 => (lr 200 95 [1, 0, 1, 0, 0, 1, 1, 0, 0, 1, 1, 1, 1, 1, 1, 1, 1, 1, 1, 0] 1 4 [(6, (.bool true))] (sl hq 12 [] ⟨[], [], [some [6]], []⟩ ⟨[], [], []⟩ [false, false, false, false, false, false, false, false, false, false, true, true, true, true, true, true, true, true, true] (tt k2 (tt k1 (tt k0 nn)))))) (fun k2 => (lo fun o0 => (lo fun o1 => (lo fun o2 => (lo fun o3 => (lr 200 95 [1, 0, 1, 0, 0, 1, 1, 0, 0, 1, 1, 1, 1, 1, 1, 1, 1, 1, 1, 0] 1 4 [(6, (.bool (x6w v0_0 v0_1 v0_2 v1_0 v1_1 x0_5 (lst R6 (l1.length - (tn (wr (v_1_0 + 1)))) (fun k => (Zz l1) ((tn (wr (v_1_0 + 1))) + k))) x2)))] (sl hq 12 [] ⟨[], [], [some [6]], []⟩ ⟨[], [], []⟩ [false, false, false, false, false, false, false, false, false, false, false, false, false, false, false, false, false, false, false] (pp (pp (xI R6 (l1.length - (tn (wr (v_1_0 + 1)))) (fun k => (Zz l1) ((tn (wr (v_1_0 + 1))) + k))) (xw o3)) (pp (pp nn (pp (xw o2) (pp (xG (decide (l1.length ≤ l1.length))) (pp (xG (decide ((tn (wr (v_1_0 + 1))) ≤ l1.length))) (xG (x5i l1.length (Zz l1) 6)))))) (tt k2 (tt k1 (tt k0 nn)))))))))))))))))
theorem x0v {q : Nat} (hq : Zu Tryz.prog (Tcv q)) (x0_0 : Int) (x0_1 : Int) (x0_2 : Int) (x0_3 : Int) (x0_4 : Int) (x0_5 : Int) (l1 : List R6) (x2 : Int) : Wy Tryz.prog (Zy Tryz.prog 95) (cvdC x0_0 x0_1 x0_2 x0_3 x0_4 x0_5 l1 x2) (Zh Tryz.prog 95 [(.agg [(.int .i64 x0_0), (.int .i64 x0_1), (.int .i64 x0_2), (.int .i64 x0_3), (.int .i64 x0_4), (.int .i64 x0_5)]), (.dat l1.length (Zz l1)), (.int .i64 x2)] true []) (y4b x0_0 x0_1 x0_2 x0_3 x0_4 x0_5 l1 x2) := (sl hq 16 [] ⟨[0, 1, 2], [], w7r, w7x⟩ ⟨[], [], []⟩ [] nn)
theorem w7l {q : Nat} (hq : Zu Tryz.prog (Tcv q)) (x0_0 : Int) (x0_1 : Int) (x0_2 : Int) (x0_3 : Int) (x0_4 : Int) (x0_5 : Int) (l1 : List R6) (x2 : Int) (n : Nat) (vs : List AVal) (h : Yw (Wd q x0_0 x0_1 x0_2 x0_3 x0_4 x0_5 l1 x2) n (y4b x0_0 x0_1 x0_2 x0_3 x0_4 x0_5 l1 x2) = .ret vs) : Jd Tryz.prog (Zy Tryz.prog 95) (Zh Tryz.prog 95 [(.agg [(.int .i64 x0_0), (.int .i64 x0_1), (.int .i64 x0_2), (.int .i64 x0_3), (.int .i64 x0_4), (.int .i64 x0_5)]), (.dat l1.length (Zz l1)), (.int .i64 x2)] true []) vs := by
 have := Zn (x6g hq x0_0 x0_1 x0_2 x0_3 x0_4 x0_5 l1 x2) n _ (x0v hq x0_0 x0_1 x0_2 x0_3 x0_4 x0_5 l1 x2)
 rwa [h] at this
end Go.Am
namespace Go.Am
open Go.Proofs
def cvq (x : Int) (L : List R6) (i : Nat) (p : R6) : Bool := z5a p || covB x (L.drop (i + 1)) p
theorem y2k {x : Int} {L : List R6} {i : Nat} {a b c d e f : Int} : cvq x L i ⟨a, b, c, d, e, f⟩ = bif decide (a ≥ d) then true else bif decide (b ≥ e) then true else bif decide (c ≥ f) then true else x6w a b c d e f (L.drop (i + 1)) x := by
 unfold cvq z5a x6w
 cases decide (a ≥ d) <;> cases decide (b ≥ e) <;> cases decide (c ≥ f) <;> rfl
theorem cvo {q : Nat} {L : List R6} (hL : L.length ≤ q) (hl : L.length ≤ 100000) {i : Nat} (hi : i < L.length) (a b c d e f x : Int) : Vy q a b c d e f (L.drop (i + 1)) x = true := by
 unfold Vy
 rw [List.length_drop, Yu (by omega), Yz (by omega)]; rfl
theorem cv_fin {σ : Type} {step : σ → Xc σ} {N : Nat} {s : σ} {W t1 t2 t3 V : Bool} (h : Yw step N (.to s) = .ret [.bool W]) :
  Yw step N (bif t1 then .to s else bif t2 then .to s else bif t3 then .to s else bif V then .to s else .ret [.bool false]) = .ret [.bool ((bif t1 then true else bif t2 then true else bif t3 then true else V) && W)] := by
 cases t1 <;> cases t2 <;> cases t3 <;> cases V <;> first | exact Zg _ _ _ | (simp only [cond_true, cond_false, Bool.true_and]; exact h)
theorem y4c {σ : Type} {step : σ → Xc σ} {N : Nat} {s : σ} {W t1 t2 t3 V : Bool} (h : Yw step N (.to s) = .ret [.bool W]) :
  Yw step N (bif t1 then .to s else bif t2 then .to s else bif t3 then .to s else bif !V then .ret [.bool false] else .to s) = .ret [.bool ((bif t1 then true else bif t2 then true else bif t3 then true else V) && W)] := by
 cases t1 <;> cases t2 <;> cases t3 <;> cases V <;> first | exact Zg _ _ _ | (simp only [Bool.not_true, Bool.not_false, cond_true, cond_false, Bool.true_and]; exact h)
theorem cv_or {α : Type} {t1 t2 t3 : Bool} {a b : α} : (bif t1 then a else bif t2 then a else bif t3 then a else b) = bif (t1 || (t2 || t3)) then a else b := by
 cases t1 <;> cases t2 <;> cases t3 <;> rfl
theorem w6g {σ : Type} {step : σ → Xc σ} {N : Nat} {c : Bool} {a b : Xc σ} : Yw step N (bif c then a else b) = bif c then Yw step N a else Yw step N b := by cases c <;> rfl
theorem cvd_h6 {q : Nat} {B : R6} {L : List R6} {x : Int} (hL : L.length ≤ q) (hl : L.length ≤ 100000) {i : Nat} (hi : i < L.length) (v0_0 v0_1 v0_2 v1_0 v1_1 : Int) : ∃ N, Yw (Wd q B.a B.b B.c B.d B.e B.f L x) N (.to (.h6 v0_0 v0_1 v0_2 v1_0 v1_1 (i : Int))) = .ret [.bool (cvq x L i ⟨v0_0, v0_1, v0_2, v1_0, v1_1, B.f⟩)] := by
 have hw : IntKind.wrap .i64 ((i : Int) + 1) = ((i + 1 : Nat) : Int) := Zk (by omega)
 have e1 : decide (i + 1 ≤ L.length) = true := Yz hi
 have e2 : ∀ {X Y : Xc cvdS}, (bif decide (L.length ≤ L.length) then X else Y) = X := fun {X Y} => by rw [Yz (Nat.le_refl _)]; rfl
 have e3 : ∀ {X Y : Xc cvdS}, (bif decide (0 ≤ ((i + 1 : Nat) : Int)) then X else Y) = X := fun {X Y} => by rw [Xq (by omega)]; rfl
 refine ⟨1, ?_⟩
 rw [Zv, y2k]
 simp only [Wd, hw, e2, e3, Zj, e1, z2m L (show i + 1 ≤ L.length from hi), cvo hL hl hi, cond_true]
 cases decide (v0_0 ≥ v1_0) <;> cases decide (v0_1 ≥ v1_1) <;> cases decide (v0_2 ≥ B.f) <;> rfl
theorem cvd_h5 {q : Nat} {B : R6} {L : List R6} {x : Int} (hL : L.length ≤ q) (hl : L.length ≤ 100000) {i : Nat} (hi : i < L.length) (v0_0 v0_1 v1_0 v1_1 v1_2 v_3_5 : Int) : ∃ N, Yw (Wd q B.a B.b B.c B.d B.e B.f L x) N (.to (.h5 v0_0 v0_1 v1_0 v1_1 v1_2 (i : Int) v_3_5)) = .ret [.bool (cvq x L i ⟨v0_0, v0_1, B.c, v1_0, v1_1, v1_2⟩ && (cvq x L i ⟨v0_0, v0_1, v_3_5, v1_0, v1_1, B.f⟩))] := by
 have hw : IntKind.wrap .i64 ((i : Int) + 1) = ((i + 1 : Nat) : Int) := Zk (by omega)
 have e1 : decide (i + 1 ≤ L.length) = true := Yz hi
 have e2 : ∀ {X Y : Xc cvdS}, (bif decide (L.length ≤ L.length) then X else Y) = X := fun {X Y} => by rw [Yz (Nat.le_refl _)]; rfl
 have e3 : ∀ {X Y : Xc cvdS}, (bif decide (0 ≤ ((i + 1 : Nat) : Int)) then X else Y) = X := fun {X Y} => by rw [Xq (by omega)]; rfl
 obtain ⟨N, hN⟩ := cvd_h6 (B := B) (x := x) hL hl hi v0_0 v0_1 v_3_5 v1_0 v1_1
 refine ⟨N + 1, ?_⟩
 rw [Zv, show cvq x L i ⟨v0_0, v0_1, B.c, v1_0, v1_1, v1_2⟩ = _ from y2k]
 simp only [Wd, hw, e2, e3, Zj, e1, z2m L (show i + 1 ≤ L.length from hi), cvo hL hl hi, cond_true]
 exact cv_fin hN
theorem cvd_h4 {q : Nat} {B : R6} {L : List R6} {x : Int} (hL : L.length ≤ q) (hl : L.length ≤ 100000) {i : Nat} (hi : i < L.length) (v0_0 v0_1 v1_0 v_3_1 v_3_2 v_3_5 : Int) : ∃ N, Yw (Wd q B.a B.b B.c B.d B.e B.f L x) N (.to (.h4 v0_0 v0_1 v1_0 (i : Int) v_3_1 v_3_2 v_3_5)) = .ret [.bool (cvq x L i ⟨v0_0, v0_1, B.c, v1_0, B.e, B.f⟩ && (cvq x L i ⟨v0_0, v_3_1, B.c, v1_0, v0_1, v_3_2⟩ && cvq x L i ⟨v0_0, v_3_1, v_3_5, v1_0, v0_1, B.f⟩))] := by
 have hw : IntKind.wrap .i64 ((i : Int) + 1) = ((i + 1 : Nat) : Int) := Zk (by omega)
 have e1 : decide (i + 1 ≤ L.length) = true := Yz hi
 have e2 : ∀ {X Y : Xc cvdS}, (bif decide (L.length ≤ L.length) then X else Y) = X := fun {X Y} => by rw [Yz (Nat.le_refl _)]; rfl
 have e3 : ∀ {X Y : Xc cvdS}, (bif decide (0 ≤ ((i + 1 : Nat) : Int)) then X else Y) = X := fun {X Y} => by rw [Xq (by omega)]; rfl
 obtain ⟨N, hN⟩ := cvd_h5 (B := B) (x := x) hL hl hi v0_0 v_3_1 v1_0 v0_1 v_3_2 v_3_5
 refine ⟨N + 1, ?_⟩
 rw [Zv, show cvq x L i ⟨v0_0, v0_1, B.c, v1_0, B.e, B.f⟩ = _ from y2k]
 simp only [Wd, hw, e2, e3, Zj, e1, z2m L (show i + 1 ≤ L.length from hi), cvo hL hl hi, cond_true]
 exact y4c hN
theorem cvd_h3 {q : Nat} {B : R6} {L : List R6} {x : Int} (hL : L.length ≤ q) (hl : L.length ≤ 100000) {i : Nat} (hi : i < L.length) (v0_0 v1_0 v1_1 v_3_2 v_3_4 v_3_5 : Int) : ∃ N, Yw (Wd q B.a B.b B.c B.d B.e B.f L x) N (.to (.h3 v0_0 v1_0 v1_1 (i : Int) v_3_2 v_3_4 v_3_5)) = .ret [.bool (cvq x L i ⟨v0_0, B.b, B.c, v1_0, v1_1, B.f⟩ && (cvq x L i ⟨v0_0, v_3_4, B.c, v1_0, B.e, B.f⟩ && (cvq x L i ⟨v0_0, v1_1, B.c, v1_0, v_3_4, v_3_2⟩ && cvq x L i ⟨v0_0, v1_1, v_3_5, v1_0, v_3_4, B.f⟩)))] := by
 have hw : IntKind.wrap .i64 ((i : Int) + 1) = ((i + 1 : Nat) : Int) := Zk (by omega)
 have e1 : decide (i + 1 ≤ L.length) = true := Yz hi
 have e2 : ∀ {X Y : Xc cvdS}, (bif decide (L.length ≤ L.length) then X else Y) = X := fun {X Y} => by rw [Yz (Nat.le_refl _)]; rfl
 have e3 : ∀ {X Y : Xc cvdS}, (bif decide (0 ≤ ((i + 1 : Nat) : Int)) then X else Y) = X := fun {X Y} => by rw [Xq (by omega)]; rfl
 obtain ⟨N, hN⟩ := cvd_h4 (B := B) (x := x) hL hl hi v0_0 v_3_4 v1_0 v1_1 v_3_2 v_3_5
 refine ⟨N + 1, ?_⟩
 rw [Zv, show cvq x L i ⟨v0_0, B.b, B.c, v1_0, v1_1, B.f⟩ = _ from y2k]
 simp only [Wd, hw, e2, e3, Zj, e1, z2m L (show i + 1 ≤ L.length from hi), cvo hL hl hi, cond_true]
 exact y4c hN
theorem cvd_h2 {q : Nat} {B : R6} {L : List R6} {x : Int} (hL : L.length ≤ q) (hl : L.length ≤ 100000) {i : Nat} (hi : i < L.length) (v0_0 v_3_0 v_3_1 v_3_2 v_3_4 v_3_5 : Int) : ∃ N, Yw (Wd q B.a B.b B.c B.d B.e B.f L x) N (.to (.h2 v0_0 (i : Int) v_3_0 v_3_1 v_3_2 v_3_4 v_3_5)) = .ret [.bool (cvq x L i ⟨v0_0, B.b, B.c, B.d, B.e, B.f⟩ && (cvq x L i ⟨v_3_0, B.b, B.c, v0_0, v_3_1, B.f⟩ && (cvq x L i ⟨v_3_0, v_3_4, B.c, v0_0, B.e, B.f⟩ && (cvq x L i ⟨v_3_0, v_3_1, B.c, v0_0, v_3_4, v_3_2⟩ && cvq x L i ⟨v_3_0, v_3_1, v_3_5, v0_0, v_3_4, B.f⟩))))] := by
 have hw : IntKind.wrap .i64 ((i : Int) + 1) = ((i + 1 : Nat) : Int) := Zk (by omega)
 have e1 : decide (i + 1 ≤ L.length) = true := Yz hi
 have e2 : ∀ {X Y : Xc cvdS}, (bif decide (L.length ≤ L.length) then X else Y) = X := fun {X Y} => by rw [Yz (Nat.le_refl _)]; rfl
 have e3 : ∀ {X Y : Xc cvdS}, (bif decide (0 ≤ ((i + 1 : Nat) : Int)) then X else Y) = X := fun {X Y} => by rw [Xq (by omega)]; rfl
 obtain ⟨N, hN⟩ := cvd_h3 (B := B) (x := x) hL hl hi v_3_0 v0_0 v_3_1 v_3_2 v_3_4 v_3_5
 refine ⟨N + 1, ?_⟩
 rw [Zv, show cvq x L i ⟨v0_0, B.b, B.c, B.d, B.e, B.f⟩ = _ from y2k]
 simp only [Wd, hw, e2, e3, Zj, e1, z2m L (show i + 1 ≤ L.length from hi), cvo hL hl hi, cond_true]
 exact y4c hN
theorem cvd_h1 {q : Nat} {B : R6} {L : List R6} {x : Int} (hL : L.length ≤ q) (hl : L.length ≤ 100000) {i : Nat} (hi : i < L.length) (v1_0 w v_3_0 v_3_1 v_3_2 v_3_3 v_3_4 v_3_5 : Int) : ∃ N, Yw (Wd q B.a B.b B.c B.d B.e B.f L x) N (.to (.h1 v1_0 w (i : Int) v_3_0 v_3_1 v_3_2 v_3_3 v_3_4 v_3_5)) = .ret [.bool (cvq x L i ⟨B.a, B.b, B.c, v1_0, B.e, B.f⟩ && (cvq x L i ⟨v_3_3, B.b, B.c, B.d, B.e, B.f⟩ && (cvq x L i ⟨v_3_0, B.b, B.c, v_3_3, v_3_1, B.f⟩ && (cvq x L i ⟨v_3_0, v_3_4, B.c, v_3_3, B.e, B.f⟩ && (cvq x L i ⟨v_3_0, v_3_1, B.c, v_3_3, v_3_4, v_3_2⟩ && cvq x L i ⟨v_3_0, v_3_1, v_3_5, v_3_3, v_3_4, B.f⟩)))))] := by
 have hw : IntKind.wrap .i64 ((i : Int) + 1) = ((i + 1 : Nat) : Int) := Zk (by omega)
 have e1 : decide (i + 1 ≤ L.length) = true := Yz hi
 have e2 : ∀ {X Y : Xc cvdS}, (bif decide (L.length ≤ L.length) then X else Y) = X := fun {X Y} => by rw [Yz (Nat.le_refl _)]; rfl
 have e3 : ∀ {X Y : Xc cvdS}, (bif decide (0 ≤ ((i + 1 : Nat) : Int)) then X else Y) = X := fun {X Y} => by rw [Xq (by omega)]; rfl
 obtain ⟨N, hN⟩ := cvd_h2 (B := B) (x := x) hL hl hi v_3_3 v_3_0 v_3_1 v_3_2 v_3_4 v_3_5
 refine ⟨N + 1, ?_⟩
 rw [Zv, show cvq x L i ⟨B.a, B.b, B.c, v1_0, B.e, B.f⟩ = _ from y2k]
 simp only [Wd, hw, e2, e3, Zj, e1, z2m L (show i + 1 ≤ L.length from hi), cvo hL hl hi, cond_true]
 exact y4c hN
theorem v1q {q : Nat} {B : R6} {L : List R6} {x : Int} (hL : L.length ≤ q) (hl : L.length ≤ 100000) : ∀ (k i : Nat), i + k = L.length → ∃ N, Yw (Wd q B.a B.b B.c B.d B.e B.f L x) N (.to (.h0 (i : Int))) = .ret [.bool (covB x (L.drop i) B)]
 | 0, i, h => by
  refine ⟨1, ?_⟩
  rw [Zv, List.drop_eq_nil_of_le (by omega)]
  simp (disch := omega) only [Wd, Zt, cond_false]; rfl
 | k + 1, i, h => by
  have hi : i < L.length := by omega
  have hw : IntKind.wrap .i64 ((i : Int) + 1) = ((i + 1 : Nat) : Int) := Zk (by omega)
  obtain ⟨N, hN⟩ := v1q (B := B) (x := x) hL hl k (i + 1) (by omega)
  obtain ⟨M, hM⟩ := cvd_h1 (B := B) (x := x) hL hl hi (gA x (rd L i) B).a (gA x (rd L i) B).a (gA x (rd L i) B).a (gA x (rd L i) B).b (gA x (rd L i) B).c (gA x (rd L i) B).d (gA x (rd L i) B).e (gA x (rd L i) B).f
  rw [Ye hi]
  have key : ∀ K, Yw (Wd q B.a B.b B.c B.d B.e B.f L x) (K + 1) (.to (.h0 (i : Int))) = bif z5a (gA x (rd L i) B) then Yw (Wd q B.a B.b B.c B.d B.e B.f L x) K (.to (.h0 ((i + 1 : Nat) : Int))) else Yw (Wd q B.a B.b B.c B.d B.e B.f L x) K (.to (.h1 (gA x (rd L i) B).a (gA x (rd L i) B).a (i : Int) (gA x (rd L i) B).a (gA x (rd L i) B).b (gA x (rd L i) B).c (gA x (rd L i) B).d (gA x (rd L i) B).e (gA x (rd L i) B).f)) := fun K => by
   rw [Zv]
   simp (disch := omega) only [Wd, Zo, Zs, hw, Zj, Bool.and_true, cond_true]
   exact (congrArg (Yw _ K) cv_or).trans w6g
  show ∃ N, Yw _ N _ = Xc.ret [.bool (bif z5a (gA x (rd L i) B) then covB x (L.drop (i + 1)) B else (cvq x L i (v1p (gA x (rd L i) B) B)) && ((cvq x L i (v1o (gA x (rd L i) B) B)) && ((cvq x L i (w2y (gA x (rd L i) B) B)) && ((cvq x L i (w2x (gA x (rd L i) B) B)) && ((cvq x L i (x6v (gA x (rd L i) B) B)) && (cvq x L i (x6u (gA x (rd L i) B) B)))))))]
  rcases Ym (z5a (gA x (rd L i) B)) with he | he
  ·refine ⟨N + 1, ?_⟩
   rw [key, he, cond_true, cond_true]; exact hN
  ·refine ⟨M + 1, ?_⟩
   rw [key, he, cond_false, cond_false]; exact hM
theorem v7a {q : Nat} (a b c d e f : Int) (L : List R6) (x : Int) (hL : L.length ≤ q) (hl : L.length ≤ 100000) : ∃ N, Yw (Wd q a b c d e f L x) N (y4b a b c d e f L x) = .ret [.bool (x6w a b c d e f L x)] :=
 v1q (B := ⟨a, b, c, d, e, f⟩) hL hl L.length 0 (Nat.zero_add _)
theorem y6q {S : Specs} (hS : Zu Tryz.prog S) {q : Nat} (hq : Zu Tryz.prog (Tcv q)) (F : List AVal → Option (AVal × Bool)) (hF : ∀ args v, F args = some (v, true) → fCov (q + 1) args = some (v, true)) : Zu Tryz.prog (S.with z8e F) := by
 refine z1j hS (by kernel_rfl) fun args v h => ?_
 replace h := hF args v h
 unfold fCov at h
 split at h
 ·rename_i x0_0 x0_1 x0_2 x0_3 x0_4 x0_5 a1 x2
  split at h
  ·rename_i L1 g1 n1 e1
   simp only [Option.some.injEq, Prod.mk.injEq, Bool.and_eq_true, Vy, decide_eq_true_eq] at h
   obtain ⟨rfl, ho1, hw1, hw2⟩ := h
   obtain ⟨N, hN⟩ := v7a (q := q) x0_0 x0_1 x0_2 x0_3 x0_4 x0_5 L1 x2 (by omega) hw2
   exact ⟨_, _, (.cons (.refl _) (.cons (asL_le e1 ho1) (.cons (.refl _) .nil))), rfl, w7l hq x0_0 x0_1 x0_2 x0_3 x0_4 x0_5 L1 x2 N _ hN, 3, rfl⟩
  ·cases h
 ·cases h
theorem v2b : ∀ q, Zu Tryz.prog (Tcv q)
 | 0 => by
  refine z1j v7k (by kernel_rfl) fun args v h => ?_
  unfold fCov at h
  split at h
  ·split at h
   ·simp only [Option.some.injEq, Prod.mk.injEq, Bool.and_eq_true, Vy, decide_eq_true_eq] at h
    exact absurd h.2.2.1 (Nat.not_lt_zero _)
   ·cases h
  ·cases h
 | q + 1 => y6q v7k (v2b q) _ fun _ _ h => h
def cvdV (a b c d e f : Int) (L : List R6) (x : Int) : Bool := x6w a b c d e f L x
def z5d (a b c d e f : Int) (L : List R6) (x : Int) : Bool := decide (L.length ≤ 100000)
def fCvd : List AVal → Option (AVal × Bool)
 | [.agg [.int .i64 x0_0, .int .i64 x0_1, .int .i64 x0_2, .int .i64 x0_3, .int .i64 x0_4, .int .i64 x0_5], a1, .int .i64 x2] => match asL R6 a1 with
  | some (L1, g1, n1) => some (.bool (cvdV x0_0 x0_1 x0_2 x0_3 x0_4 x0_5 L1 x2), isT R6 n1 g1 && (z5d x0_0 x0_1 x0_2 x0_3 x0_4 x0_5 L1 x2))
  | _ => none
 | _ => none
theorem v6j {S : Specs} (hS : Zu Tryz.prog S) : Zu Tryz.prog (S.with z8e fCvd) := y6q hS (v2b 100000) _ fun args v h => by
 unfold fCvd at h
 split at h
 ·split at h
  ·rename_i e1
   simp only [Option.some.injEq, Prod.mk.injEq, Bool.and_eq_true, z5d, decide_eq_true_eq] at h
   obtain ⟨rfl, ho1, hw⟩ := h
   unfold fCov
   simp only [e1, ho1, Bool.true_and, Vy]
   rw [Yu (by omega), Yz hw]; rfl
  ·cases h
 ·cases h
def Da : Specs := T9.with z8e fCvd
theorem y1e : Zu Tryz.prog Da := v6j v7k
end Go.Am
end
