/- A part of a proof: several texts in one. -/
import Derived.Test.YtijpnpkolglajaaGreatKd2
import Derived.Shelf.GgSortFunc.InsertionK
import Derived.Shelf.Sort.Plain
import Derived.Ground.Names2Prog
import Derived.Shelf.Slices.CompactI
import Derived.Shelf.Slices.SearchI
import Derived.Shelf.Slices.Cells
import Derived.Shelf.Slices.In.SortNone
import Derived.Shelf.SlSortCmp.WholeK
import Derived.Ground.SlsfProg
import Derived.Test.YtijpnpkolglajaaGreatProg
import Derived.Shelf.SlSortCmp.NoneTotal
set_option maxRecDepth 1000000
set_option maxHeartbeats 8000000
set_option linter.unusedVariables false
set_option linter.unusedSimpArgs false
noncomputable section
namespace Go.Am
open Go.Sort Go.RowKit Go.Proofs Go.Shelf
variable {P : Program} {ρ : Rho}
def valOf : AVal → Value
 | .int k n => .int k n
 | .bool b => .bool b
 | _ => .tuple #[]
def x1m : AVal → Bool
 | .int _ _ => true
 | .bool _ => true
 | _ => false
theorem x9q {a : AVal} (h : x1m a = true) : VRel ρ a (valOf a) := by
 cases a <;> first
  | exact .int _ _
  | exact .bool _
  | (simp [x1m] at h; done)
theorem w1k {a : AVal} {v : Value} (h : x1m a = true) (hv : VRel ρ a v) : v = valOf a := by
 cases hv <;> first
  | rfl
  | (simp [x1m] at h; done)
class v4r (α : Type) extends Yt α where
 num : ∀ a : α, (cells a).all x1m = true
instance : v4r R2 where num _ := rfl
instance : v4r R3 where num _ := rfl
instance : v4r R4 where num _ := rfl
instance : v4r R6 where num _ := rfl
instance {α : Type} [Yt α] : Inhabited α := ⟨Yt.d⟩
section
variable {α : Type} [v4r α]
def y3l (a : α) : List Value := (Yt.cells a).map valOf
theorem y1g (a : α) : (y3l a).length = Yt.w α := by rw [y3l, List.length_map, Yt.len]
theorem x5h (L : List α) (t : Nat) (h : t < L.length * Yt.w α) : (flatK y3l (Yt.w α) L.toArray)[t]? = (Yt.cells (rd L (t / Yt.w α)))[t % Yt.w α]?.map valOf := by
 have hw := Yt.pos (α := α)
 have hq : t / Yt.w α < L.length := Nat.div_lt_of_lt_mul (by rw [Nat.mul_comm]; exact h)
 have hj : t % Yt.w α < Yt.w α := Nat.mod_lt _ hw
 have hs : t < (flatK y3l (Yt.w α) L.toArray).size := by rw [size_flatK]; exact h
 rw [Array.getElem?_eq_getElem hs, ← getElem!_pos (flatK y3l (Yt.w α) L.toArray) t hs, get_flatK y3l (Yt.w α) L.toArray t (by simpa using h)]
 have e1 : L.toArray[t / Yt.w α]! = rd L (t / Yt.w α) := by
  rw [Xq hq, getElem!_pos L.toArray _ (by simpa using hq)]; simp
 rw [e1]
 have hl : t % Yt.w α < (y3l (rd L (t / Yt.w α))).length := by rw [y1g]; exact hj
 have hl2 : t % Yt.w α < (Yt.cells (rd L (t / Yt.w α))).length := by rw [Yt.len]; exact hj
 rw [getElem!_pos (y3l (rd L (t / Yt.w α))) _ hl, List.getElem?_eq_getElem hl2]
 simp [y3l]
theorem w0x (L : List α) (N t : Nat) (h : t < N * Yt.w α) : (Yg N (Zz L))[t]? = (Yt.cells (rd L (t / Yt.w α)))[t % Yt.w α]? := by
 have hw := Yt.pos (α := α)
 have := Wm (get := Zz L) (sz := Yt.w α) N (fun _ _ => Yt.len _) (t / Yt.w α) (t % Yt.w α) (Nat.div_lt_of_lt_mul (by rw [Nat.mul_comm]; exact h)) (Nat.mod_lt _ hw)
 rw [show t / Yt.w α * Yt.w α + t % Yt.w α = t by rw [Nat.mul_comm]; exact Nat.div_add_mod t _] at this
 exact this
theorem z0a (L : List α) (N : Nat) : (Yg N (Zz L)).length = N * Yt.w α := Yv N fun _ _ => Yt.len _
theorem y0w (w : World) (n blk off : Nat) (d : Array Value) (os : Array Obj) (k : Nat) (hk : k < w.heap.size) :
  (grow (putRow id (Go.Sort.ahead w n) blk off d) os).heap[k]? = if k = blk then (w.heap[k]?).map (onCells (putCells id off d)) else w.heap[k]? := by
 show (((Go.Sort.ahead w n).heap.modify blk (onCells (putCells id off d))) ++ os)[k]? = _
 rw [Array.getElem?_append_left (by simp; exact hk), Array.getElem?_modify]
 show (if blk = k then _ else _) = _
 by_cases h : k = blk
 ·rw [if_pos h.symm, if_pos h]; rfl
 ·rw [if_neg (fun e => h e.symm), if_neg h]; rfl
def x5k (α : Type) [Yt α] (srt : List α → List α) (bnd : List α → Bool) (g : FuncId) (args : List AVal) (mem : Mem) : Option (AVal × Nat × ABlk × Bool) := match args with
 | [.sla b sz off n cap, .fn f []] => bif Nat.beq f g then match Ys mem b with
  | some ⟨_, ty, some A⟩ => some (.tup [], b, ⟨Yg A.n (Zz (srt (lst α n A.get))), ty, some ⟨Yt.w α, A.n, Zz (srt (lst α n A.get))⟩⟩,
    Nat.beq sz (Yt.w α) && (Nat.beq A.sz (Yt.w α) && (Nat.beq off 0 && ((decide (n = A.n) && (isT α n A.get && decide (n < 4611686018427387904))) && bnd (lst α n A.get)))))
  | _ => none
  else none
 | _ => none
theorem w4g {f g : FuncId} {srt : List α → List α} {bnd : List α → Bool} (hsl : ∀ L, (srt L).length = L.length)
  (hC : ∀ (blk off cap : Nat) (L : List α) (w : World), bnd L = true → HoldsK y3l (Yt.w α) w blk off L.toArray → blk < w.heap.size → L.length < 4611686018427387904 →
   Calls P f #[.slice (some ⟨blk, off, none⟩) L.length cap, .func (.func g) #[] #[]] w fun e w' => e = .returned (.tuple #[]) ∧ ∃ n os, w' = sortWorldK y3l (Yt.w α) w blk off n (srt L).toArray os)
  (hN : ∀ (p : Option Addr) (cap : Nat) (fv : Value) (w : World), Calls P f #[.slice p 0 cap, fv] w fun e w' => e = .returned (.tuple #[]) ∧ w' = w) : y8z P f (x5k α srt bnd g) := by
 intro args mem v b blk h hsome ρ next floor vals w hfl eK eG
 have hw0 := Yt.pos (α := α)
 unfold x5k at h
 split at h
 ·rename_i b0 sz off n cap f0
  obtain ⟨hfg, h'⟩ := Kj h
  clear h
  obtain rfl := Nat.eq_of_beq_eq_true hfg
  have h := h'
  clear h'
  split at h
  ·rename_i cells ty A hm
   obtain ⟨asz, an, get⟩ := A
   simp only [Option.some.injEq, Prod.mk.injEq, Bool.and_eq_true] at h
   obtain ⟨rfl, rfl, rfl, h1, h2, h3, ⟨h4, h5, h6⟩, h7⟩ := h
   have g1 := Nat.eq_of_beq_eq_true h1
   have g2 := Nat.eq_of_beq_eq_true h2
   have g3 := Nat.eq_of_beq_eq_true h3
   have g4 : n = an := of_decide_eq_true h4
   have h6 : n < 4611686018427387904 := of_decide_eq_true h6
   have g2 : asz = Yt.w α := g2
   subst g1
   subst g2
   subst g3
   subst g4
   have h7 : bnd (lst α n get.get) = true := h7
   have eP := x4z h5
   have eP : ∀ i, i < n → get.get i = Zz (lst α n get.get) i := eP
   have hrows : Yg n get.get = Yg n (Zz (lst α n get.get)) := z6j n eP
   obtain ⟨u, hu, hvals⟩ : ∃ u, VRel ρ (.sla b0 (Yt.w α) 0 n cap) u ∧ vals = #[u, .func (.func f0) #[] #[]] := by
    obtain ⟨vl⟩ := vals
    cases eK with
    | cons q1 q2 => cases q2 with
     | cons q3 q4 =>
      cases q4
      cases q3 with
      | fn _ _ cvs hl _ =>
       have : cvs = #[] := Array.eq_empty_of_size_eq_zero (by simpa using hl.symm)
       subst this
       exact ⟨_, q1, rfl⟩
   subst hvals
   have hlt : b0 < next := by
    rcases Nat.lt_or_ge b0 next with q | q
    ·exact q
    ·have := eG.bd b0 q; rw [hm] at this; cases this
   show Calls P f _ w _
   have hAget : (Arr.get ⟨Yt.w α, n, get⟩) = get.get := rfl
   rw [hAget] at *
   generalize hI : lst α n get.get = I at *
   have hIl : I.length = n := by rw [← hI]; exact z6o _ _
   generalize hL : srt I = L
   have hLl : L.length = n := by rw [← hL, hsl, hIl]
   have hnn : ρ b0 = none → ∀ cs ty', Ys mem b0 ≠ some ⟨cs, ty', none⟩ := fun _ cs ty' e => by rw [hm] at e; cases e
   cases hu with
   | sla _ _ _ _ _ l cc e hc eH =>
    have hbk := eG.blk b0 l _ e hm
    obtain ⟨har, _, _⟩ := hbk.arr _ rfl
    have har : cells = Yg n get.get := har
    rw [hrows] at har
    subst har
    obtain ⟨cur, el, hh, hsz, eN⟩ := hbk.cells
    simp only [z0a] at eN
    have htot := hbk.tot
    have hln := hbk.n
    simp only [z0a] at hln
    have fB : ∀ t, t < n * Yt.w α → cur[l.base + t]? = (Yt.cells (rd I (t / Yt.w α)))[t % Yt.w α]?.map valOf := fun t ht => by
     obtain ⟨v, e1, e2⟩ := eN t ht
     have hj : t % Yt.w α < Yt.w α := Nat.mod_lt _ hw0
     have hl2 : t % Yt.w α < (Yt.cells (rd I (t / Yt.w α))).length := by rw [Yt.len]; exact hj
     have e3 := w0x I n t ht
     rw [List.getElem?_eq_getElem (by rw [z0a]; exact ht), List.getElem?_eq_getElem hl2] at e3
     rw [Option.some.inj e3] at e2
     rw [e1, List.getElem?_eq_getElem hl2, Option.map_some, w1k (List.all_eq_true.1 (v4r.num _) _ (List.getElem_mem hl2)) e2]
    have fQ := eG.real b0 l e
    have hH : HoldsK y3l (Yt.w α) w l.blk (l.base + 0 * Yt.w α) I.toArray := fun j hj => by
     have hj : j < n * Yt.w α := by simpa [hIl] using hj
     have hs : j < (flatK y3l (Yt.w α) I.toArray).size := by simpa [hIl] using hj
     have e1 := x5h I j (by rw [hIl]; exact hj)
     rw [Array.getElem?_eq_getElem hs] at e1
     refine ⟨?_, ?_⟩
     ·simp only [World.cell?, hh, Nat.zero_mul, Nat.add_zero, id]
      rw [fB j hj, ← e1, getElem!_pos (flatK y3l (Yt.w α) I.toArray) j hs]
      simp
     ·simp [World.frozen?, hh]
    have eZ := hC l.blk (l.base + 0 * Yt.w α) cc I w h7 hH fQ (by omega)
    rw [hIl, hL] at eZ
    refine eZ.mono fun e' w' ⟨he, q, os, hw'⟩ => ⟨_, he, ?_, ?_, ?_⟩
    ·exact .tup [] #[] rfl fun i h1 h2 => absurd h1 (Nat.not_lt_zero _)
    ·subst hw'
     refine Rel.setArr ?_ ⟨Yt.w α, n, .flat (Zz L)⟩ rfl hw0 fun _ _ => Yt.len _
     refine Rel.rewritten eG e hm (by simp only [z0a]) (fun k hk hne => ?_) ?_ ?_
     ·exact (y0w _ _ _ _ _ _ _ hk).trans (if_neg hne)
     ·show _ ≤ (((Go.Sort.ahead w q).heap.modify _ _) ++ os).size
      simp only [Array.size_append, Array.size_modify]
      exact Nat.le_add_right _ _
     ·refine ⟨putCells id (l.base + 0 * Yt.w α) (flatK y3l (Yt.w α) L.toArray) cur, el, ?_, ?_, fun i hi => ?_⟩
      ·refine (y0w _ _ _ _ _ _ _ fQ).trans ?_
       rw [if_pos rfl, hh]; rfl
      ·simp only [putCells, Array.size_mapIdx]; exact hsz
      ·rw [z0a] at hi
       have hj : i % Yt.w α < Yt.w α := Nat.mod_lt _ hw0
       have hl2 : i % Yt.w α < (Yt.cells (rd L (i / Yt.w α))).length := by rw [Yt.len]; exact hj
       have hl3 : i % Yt.w α < (Yt.cells (rd I (i / Yt.w α))).length := by rw [Yt.len]; exact hj
       have e1 := x5h L i (by rw [hLl]; exact hi)
       rw [List.getElem?_eq_getElem hl2, Option.map_some] at e1
       have hs : i < (flatK y3l (Yt.w α) L.toArray).size := by simpa [hLl] using hi
       rw [Array.getElem?_eq_getElem hs] at e1
       have e3 := w0x L n i hi
       rw [List.getElem?_eq_getElem (by rw [z0a]; exact hi), List.getElem?_eq_getElem hl2] at e3
       refine ⟨valOf (Yt.cells (rd L (i / Yt.w α)))[i % Yt.w α], ?_, ?_⟩
       ·have hc0 := fB i hi
        rw [List.getElem?_eq_getElem hl3, Option.map_some] at hc0
        simp only [putCells, Array.getElem?_mapIdx, hc0, Option.map_some, Nat.zero_mul, Nat.add_zero]
        rw [if_pos ⟨by omega, by omega⟩]
        congr 1
        rw [show l.base + i - l.base = i by omega, id, getElem!_pos (flatK y3l (Yt.w α) L.toArray) i hs]
        exact Option.some.inj e1
       ·rw [Option.some.inj e3]
        exact x9q (List.all_eq_true.1 (v4r.num _) _ (List.getElem_mem hl2))
    ·subst hw'
     refine Ev.rewritten eG _ (fun l' _ => hfl) hnn (fun k hk hne => ?_) ?_ rfl rfl rfl
     ·exact (y0w _ _ _ _ _ _ _ hk).trans (if_neg (hne l e))
     ·show _ ≤ (((Go.Sort.ahead w q).heap.modify _ _) ++ os).size
      simp only [Array.size_append, Array.size_modify]
      exact Nat.le_add_right _ _
   | slan =>
    have hI0 : I = [] := List.eq_nil_of_length_eq_zero hIl
    have hL0 : L = [] := List.eq_nil_of_length_eq_zero hLl
    refine (hN none 0 _ w).mono fun e' w' ⟨he, hw'⟩ => ⟨_, he, ?_, ?_, ?_⟩
    ·exact .tup [] #[] rfl fun i h1 h2 => absurd h1 (Nat.not_lt_zero _)
    ·subst hw'
     refine eG.reblk hm fun l hρ hbk => ?_
     obtain ⟨har, gG, _⟩ := hbk.arr _ rfl
     have har : cells = Yg 0 get.get := har
     subst har
     exact ⟨hbk.n, hbk.tot, fun B hB => by obtain rfl := Option.some.inj hB; exact ⟨rfl, hw0, fun i hi => absurd hi (Nat.not_lt_zero _)⟩, hbk.cells⟩
    ·subst hw'
     exact Ev.rewritten eG _ (fun l' _ => hfl) hnn (fun _ _ _ => rfl) (Nat.le_refl _) rfl rfl rfl
  ·cases h
 ·cases h
end
def Specs.withE (S : Specs) (f : FuncId) (F : List AVal → Mem → Option (AVal × Nat × ABlk × Bool)) : Specs := fun g => bif Nat.beq g f then some (.eff F) else S g
theorem y3u {P : Program} {S : Specs} (hS : Zu P S) {f : FuncId} {F : List AVal → Mem → Option (AVal × Nat × ABlk × Bool)} (hf : (P.funcs[f]?).any (fun fn => fn.body.isSome) = true) (hF : y8z P f F) : Zu P (S.withE f F) := by
 intro g G hg
 unfold Specs.withE at hg
 cases hgf : Nat.beq g f with
 | false => rw [hgf] at hg; exact hS g G hg
 | true =>
  rw [hgf] at hg
  obtain rfl : Spec.eff F = G := Option.some.inj hg
  obtain rfl : g = f := Nat.eq_of_beq_eq_true hgf
  refine ⟨?_, hF⟩
  cases hfn : P.funcs[g]? with
  | none => rw [hfn] at hf; cases hf
  | some fn => rw [hfn] at hf; exact ⟨fn, rfl, hf⟩
end Go.Am
namespace Go.Proofs
open Go.Proofs.Tryz
open Go.Shelf
def Tryz.lays189_ren : Go.Shelf.Ren := ⟨fun | 189 => 119 | 125 => 142 | 257 => 141 | 128 => 164 | 129 => 165 | 294 => 155 | 295 => 156 | 296 => 157 | 297 => 158 | 298 => 159 | 299 => 160 | 216 => 161 | 300 => 162 | 301 => 163 | 328 => 175 | 329 => 176 | 330 => 177 | 331 => 178 | 332 => 179 | 215 => 180 | 343 => 190 | n => n, fun | 28 => 47 | 3 => 3 | 46 => 165 | 0 => 0 | 51 => 213 | 53 => 215 | 4 => 4 | 183 => 205 | 182 => 204 | 131 => 210 | 5 => 5 | 9 => 9 | 218 => 227 | 222 => 231 | 228 => 242 | 229 => 27 | n => n, fun | n => n⟩
theorem Tryz.lays189 : Go.Proofs.Lays.n189 prog Tryz.lays189_ren := {
 mixed := by kernel_rfl
 f125 := Tryz.func142.trans (congrArg some (by kernel_rfl))
 f128 := Tryz.func164.trans (congrArg some (by kernel_rfl))
 f129 := Tryz.func165.trans (congrArg some (by kernel_rfl))
 f189 := Tryz.func119.trans (congrArg some (by kernel_rfl))
 f215 := Tryz.func180.trans (congrArg some (by kernel_rfl))
 f216 := Tryz.func161.trans (congrArg some (by kernel_rfl))
 f257 := Tryz.func141.trans (congrArg some (by kernel_rfl))
 f294 := Tryz.func155.trans (congrArg some (by kernel_rfl))
 f295 := Tryz.func156.trans (congrArg some (by kernel_rfl))
 f296 := Tryz.func157.trans (congrArg some (by kernel_rfl))
 f297 := Tryz.func158.trans (congrArg some (by kernel_rfl))
 f298 := Tryz.func159.trans (congrArg some (by kernel_rfl))
 f299 := Tryz.func160.trans (congrArg some (by kernel_rfl))
 f300 := Tryz.func162.trans (congrArg some (by kernel_rfl))
 f301 := Tryz.func163.trans (congrArg some (by kernel_rfl))
 f328 := Tryz.func175.trans (congrArg some (by kernel_rfl))
 f329 := Tryz.func176.trans (congrArg some (by kernel_rfl))
 f330 := Tryz.func177.trans (congrArg some (by kernel_rfl))
 f331 := Tryz.func178.trans (congrArg some (by kernel_rfl))
 f332 := Tryz.func179.trans (congrArg some (by kernel_rfl))
 f343 := Tryz.func190.trans (congrArg some (by kernel_rfl))
 t0 := Tryz.underlying0
 a0 := Tryz.isAgg0
 z0 := Tryz.sizeOf0
 v0 := Tryz.zeroValue0
 t3 := Tryz.underlying3
 a3 := Tryz.isAgg3
 z3 := Tryz.sizeOf3
 v3 := Tryz.zeroValue3
 t4 := Tryz.underlying4
 a4 := Tryz.isAgg4
 z4 := Tryz.sizeOf4
 v4 := Tryz.zeroValue4
 t5 := Tryz.underlying5
 a5 := Tryz.isAgg5
 z5 := Tryz.sizeOf5
 v5 := Tryz.zeroValue5
 t9 := Tryz.underlying9
 a9 := Tryz.isAgg9
 z9 := Tryz.sizeOf9
 v9 := Tryz.zeroValue9
 t28 := Tryz.underlying47
 a28 := Tryz.isAgg47
 z28 := Tryz.sizeOf47
 v28 := Tryz.zeroValue47
 t46 := Tryz.underlying165
 a46 := Tryz.isAgg165
 z46 := Tryz.sizeOf165
 v46 := Tryz.zeroValue165
 t51 := Tryz.underlying213
 a51 := Tryz.isAgg213
 z51 := Tryz.sizeOf213
 v51 := Tryz.zeroValue213
 t53 := Tryz.underlying215
 a53 := Tryz.isAgg215
 z53 := Tryz.sizeOf215
 v53 := Tryz.zeroValue215
 t131 := Tryz.underlying210
 a131 := Tryz.isAgg210
 z131 := Tryz.sizeOf210
 v131 := Tryz.zeroValue210
 t182 := Tryz.underlying204
 a182 := Tryz.isAgg204
 z182 := Tryz.sizeOf204
 v182 := Tryz.zeroValue204
 t183 := Tryz.underlying205
 a183 := Tryz.isAgg205
 z183 := Tryz.sizeOf205
 v183 := Tryz.zeroValue205
 t218 := Tryz.underlying227
 a218 := Tryz.isAgg227
 z218 := Tryz.sizeOf227
 v218 := Tryz.zeroValue227
 t222 := Tryz.underlying231
 a222 := Tryz.isAgg231
 z222 := Tryz.sizeOf231
 v222 := Tryz.zeroValue231
 t228 := Tryz.underlying242
 a228 := Tryz.isAgg242
 z228 := Tryz.sizeOf242
 v228 := Tryz.zeroValue242
 t229 := Tryz.underlying27
 a229 := Tryz.isAgg27
 z229 := Tryz.sizeOf27
 v229 := Tryz.zeroValue27 }
open Go.Sort Go.RowKit in
theorem Tryz.slices_Sort_int (blk off cap : Nat) (zs : List Int) (w : World) (hH : Holds (Value.int .i64) w blk off zs.toArray) (fQ : blk < w.heap.size) (hsz : zs.length < 4611686018427387904) :
  Calls prog 119 #[.slice (some ⟨blk, off, none⟩) zs.length cap] w fun e w' =>
   e = .returned (.tuple #[]) ∧ ∃ n os, w' = grow (putRow (Value.int .i64) (Sort.ahead w n) blk off (zs.mergeSort fun x y => decide (x ≤ y)).toArray) os := Any.slices_Sort_int Tryz.lays189 blk off cap zs w hH fQ hsz
def Tryz.laysNm220_ren : Go.Shelf.Ren := ⟨fun | 20 => 120 | n => n, fun | 22 => 47 | 3 => 3 | 4 => 4 | 0 => 0 | n => n, fun | n => n⟩
theorem Tryz.laysNm220 : Go.Proofs.Lays2.n20 prog Tryz.laysNm220_ren := {
 mixed := by kernel_rfl
 f20 := Tryz.func120.trans (congrArg some (by kernel_rfl))
 t0 := Tryz.underlying0
 a0 := Tryz.isAgg0
 z0 := Tryz.sizeOf0
 v0 := Tryz.zeroValue0
 t3 := Tryz.underlying3
 a3 := Tryz.isAgg3
 z3 := Tryz.sizeOf3
 v3 := Tryz.zeroValue3
 t4 := Tryz.underlying4
 a4 := Tryz.isAgg4
 z4 := Tryz.sizeOf4
 v4 := Tryz.zeroValue4
 t22 := Tryz.underlying47
 a22 := Tryz.isAgg47
 z22 := Tryz.sizeOf47
 v22 := Tryz.zeroValue47
 i3 := by kernel_rfl }
open Go.RowKit Go.Lib Go.Sort in
theorem Tryz.slices_Compact_int (blk off cap : Nat) (zs : List Int) (w : World) (hH : Holds (Value.int .i64) w blk off zs.toArray) (hsz : zs.length ≤ 9223372036854775807) (eM : zs.length ≤ cap) :
  Calls prog 120 #[.slice (some ⟨blk, off, none⟩) zs.length cap] w fun e w' => e = .returned (.slice (some ⟨blk, off, none⟩) (Lib.compact zs).length cap) ∧ ∃ q, w' = putRow (Value.int .i64) (Sort.ahead w q) blk off (Lib.compact zs ++ List.replicate (zs.length - (Lib.compact zs).length) 0).toArray := Any.slices_Compact_int Tryz.laysNm220 blk off cap zs w hH hsz eM
open Go.RowKit Go.Lib Go.Sort in
theorem Tryz.slices_Compact_int_empty (a : Option Addr) (cap : Nat) (w : World) :
  Calls prog 120 #[.slice a 0 cap] w fun e w' => e = .returned (.slice a 0 cap) ∧ w' = w := Any.slices_Compact_int_empty Tryz.laysNm220 a cap w
open Go.RowKit Go.Sort in
theorem Tryz.slices_Sort_int_none (p : Option Addr) (cap : Nat) (w : World) :
  Calls prog 119 #[.slice p 0 cap] w fun e w' => e = .returned (.tuple #[]) ∧ w' = w := Any.slices_Sort_int_none Tryz.lays189 p cap w
def Tryz.sortEnd_ren : Go.Shelf.Ren := ⟨fun | 6 => 192 | 15 => 142 | 14 => 196 | 28 => 164 | 29 => 165 | 20 => 198 | 21 => 199 | 22 => 200 | 23 => 201 | 24 => 202 | 25 => 203 | 26 => 204 | 27 => 205 | 46 => 206 | 47 => 176 | 48 => 177 | 49 => 207 | 50 => 208 | 57 => 209 | n => n, fun | 22 => 245 | 24 => 240 | 25 => 247 | 3 => 3 | 39 => 165 | 0 => 0 | 53 => 213 | 55 => 215 | 4 => 4 | 46 => 205 | 45 => 204 | 50 => 210 | 5 => 5 | 9 => 9 | 66 => 227 | 70 => 231 | 76 => 242 | 77 => 27 | n => n, fun | n => n⟩
theorem Tryz.sortEnd : Go.Proofs.SlLaysF0.n6 prog Tryz.sortEnd_ren := {
 mixed := by kernel_rfl
 f6 := ⟨Tryz.f192.name, by decide, Tryz.func192.trans (congrArg some (by kernel_rfl))⟩
 f14 := ⟨Tryz.f196.name, by decide, Tryz.func196.trans (congrArg some (by kernel_rfl))⟩
 f15 := Tryz.func142.trans (congrArg some (by kernel_rfl))
 f20 := ⟨Tryz.f198.name, by decide, Tryz.func198.trans (congrArg some (by kernel_rfl))⟩
 f21 := ⟨Tryz.f199.name, by decide, Tryz.func199.trans (congrArg some (by kernel_rfl))⟩
 f22 := ⟨Tryz.f200.name, by decide, Tryz.func200.trans (congrArg some (by kernel_rfl))⟩
 f23 := ⟨Tryz.f201.name, by decide, Tryz.func201.trans (congrArg some (by kernel_rfl))⟩
 f24 := ⟨Tryz.f202.name, by decide, Tryz.func202.trans (congrArg some (by kernel_rfl))⟩
 f25 := ⟨Tryz.f203.name, by decide, Tryz.func203.trans (congrArg some (by kernel_rfl))⟩
 f26 := ⟨Tryz.f204.name, by decide, Tryz.func204.trans (congrArg some (by kernel_rfl))⟩
 f27 := ⟨Tryz.f205.name, by decide, Tryz.func205.trans (congrArg some (by kernel_rfl))⟩
 f28 := Tryz.func164.trans (congrArg some (by kernel_rfl))
 f29 := Tryz.func165.trans (congrArg some (by kernel_rfl))
 f46 := ⟨Tryz.f206.name, by decide, Tryz.func206.trans (congrArg some (by kernel_rfl))⟩
 f47 := Tryz.func176.trans (congrArg some (by kernel_rfl))
 f48 := Tryz.func177.trans (congrArg some (by kernel_rfl))
 f49 := ⟨Tryz.f207.name, by decide, Tryz.func207.trans (congrArg some (by kernel_rfl))⟩
 f50 := ⟨Tryz.f208.name, by decide, Tryz.func208.trans (congrArg some (by kernel_rfl))⟩
 f57 := ⟨Tryz.f209.name, by decide, Tryz.func209.trans (congrArg some (by kernel_rfl))⟩
 t0 := Tryz.underlying0
 a0 := Tryz.isAgg0
 z0 := Tryz.sizeOf0
 v0 := Tryz.zeroValue0
 t3 := Tryz.underlying3
 a3 := Tryz.isAgg3
 z3 := Tryz.sizeOf3
 v3 := Tryz.zeroValue3
 t4 := Tryz.underlying4
 a4 := Tryz.isAgg4
 z4 := Tryz.sizeOf4
 v4 := Tryz.zeroValue4
 t5 := Tryz.underlying5
 a5 := Tryz.isAgg5
 z5 := Tryz.sizeOf5
 v5 := Tryz.zeroValue5
 t9 := Tryz.underlying9
 a9 := Tryz.isAgg9
 z9 := Tryz.sizeOf9
 v9 := Tryz.zeroValue9
 t22 := Tryz.underlying245
 a22 := Tryz.isAgg245
 z22 := Tryz.sizeOf245
 v22 := Tryz.zeroValue245
 t25 := Tryz.underlying247
 a25 := Tryz.isAgg247
 z25 := Tryz.sizeOf247
 v25 := Tryz.zeroValue247
 t39 := Tryz.underlying165
 a39 := Tryz.isAgg165
 z39 := Tryz.sizeOf165
 v39 := Tryz.zeroValue165
 t45 := Tryz.underlying204
 a45 := Tryz.isAgg204
 z45 := Tryz.sizeOf204
 v45 := Tryz.zeroValue204
 t46 := Tryz.underlying205
 a46 := Tryz.isAgg205
 z46 := Tryz.sizeOf205
 v46 := Tryz.zeroValue205
 t50 := Tryz.underlying210
 a50 := Tryz.isAgg210
 z50 := Tryz.sizeOf210
 v50 := Tryz.zeroValue210
 t53 := Tryz.underlying213
 a53 := Tryz.isAgg213
 z53 := Tryz.sizeOf213
 v53 := Tryz.zeroValue213
 t55 := Tryz.underlying215
 a55 := Tryz.isAgg215
 z55 := Tryz.sizeOf215
 v55 := Tryz.zeroValue215
 t66 := Tryz.underlying227
 a66 := Tryz.isAgg227
 z66 := Tryz.sizeOf227
 v66 := Tryz.zeroValue227
 t70 := Tryz.underlying231
 a70 := Tryz.isAgg231
 z70 := Tryz.sizeOf231
 v70 := Tryz.zeroValue231
 t76 := Tryz.underlying242
 a76 := Tryz.isAgg242
 z76 := Tryz.sizeOf242
 v76 := Tryz.zeroValue242
 t77 := Tryz.underlying27
 a77 := Tryz.isAgg27
 z77 := Tryz.sizeOf27
 v77 := Tryz.zeroValue27 }
end Go.Proofs
namespace Go.Proofs
open Go.Proofs.Tryz
open Go.Shelf Go.RowKit Go.Lib Go.Sort
theorem Tryz.cmpEnd (a b c a' b' c' : Int) (h : -1000000000 ≤ a ∧ a ≤ 1000000000) (h' : -1000000000 ≤ a' ∧ a' ≤ 1000000000) (W : World) :
  Calls prog 193 #[.agg #[.int .i64 a, .int .i64 b, .int .i64 c], .agg #[.int .i64 a', .int .i64 b', .int .i64 c']] W fun e w' => e = .returned (.int .i64 (a - a')) ∧ ∃ q os', w' = grow (W.drewN q) os' := by
 go_enter Tryz.func193, Tryz.ntmps193
 go_wp2
 go_ret
 exact ⟨rfl, 0, _, by rw [alloc_eq_grow, alloc_eq_grow, grow_grow]; rfl⟩
end Go.Proofs
namespace Go.Am
open Go.Proofs.Tryz
open Go.Proofs
inductive rjsS where
 | h0 (v9 : List R6) (v10 : List R4) (v11 : Int) (v12 : Int)
 | h1 (v9 : List R6) (v10 : List R4) (v11 : Int) (v12 : Int) (v13 : List R4) (v15 : Int)
 | h2 (v9 : List R6) (v10 : List R4) (v11 : Int) (v12 : Int) (v14 : Int)
def rjsC (x0 : Int) (l1 : List R6) (l2 : List R6) : rjsS → Cfg
 | .h0 v9 v10 v11 v12 => ⟨⟨137, 0, true⟩, none, (Zg prog 79 [1, 1, 1, 1, 1, 0, 1, 0, 0] 0), none, (Zy prog 23), ⟨Yq [(0, (ii x0)), (1, (.dat l1.length (Zz l1))), (2, (.dat l2.length (Zz l2))), (8, (.dat (Yo (cvT l1) (cvT l2)).length (Zz (Yo (cvT l1) (cvT l2))))), (9, (.sla 0 6 0 v9.length (.un 6))), (10, (.dat v10.length (Zz v10))), (11, (ii v11)), (12, (ii v12))], Va [⟨Yg v9.length (Zz v9), 68, some ⟨6, v9.length, (Zz v9)⟩⟩] 0, 1, [], true⟩, [], .leaf⟩
 | .h1 v9 v10 v11 v12 v13 v15 => ⟨⟨137, 0, true⟩, none, (Zg prog 79 [1, 1, 1, 1, 1, 0, 1, 0, 0, 1, 0, 0, 1, 1, 1, 1, 1, 0, 0] 0), none, (Zy prog 23), ⟨Yq [(0, (ii x0)), (1, (.dat l1.length (Zz l1))), (2, (.dat l2.length (Zz l2))), (8, (.dat (Yo (cvT l1) (cvT l2)).length (Zz (Yo (cvT l1) (cvT l2))))), (9, (.sla 0 6 0 v9.length (.un 6))), (10, (.dat v10.length (Zz v10))), (11, (ii v11)), (12, (ii v12)), (13, (.dat v13.length (Zz v13))), (15, (ii v15))], Va [⟨Yg v9.length (Zz v9), 68, some ⟨6, v9.length, (Zz v9)⟩⟩] 0, 1, [], true⟩, [], .leaf⟩
 | .h2 v9 v10 v11 v12 v14 => ⟨⟨137, 0, true⟩, none, (Zg prog 79 [1, 1, 1, 1, 1, 0, 1, 0, 0, 1, 0, 0, 1, 1, 0, 1, 0, 0, 1, 0, 0] 0), none, (Zy prog 23), ⟨Yq [(0, (ii x0)), (1, (.dat l1.length (Zz l1))), (2, (.dat l2.length (Zz l2))), (8, (.dat (Yo (cvT l1) (cvT l2)).length (Zz (Yo (cvT l1) (cvT l2))))), (9, (.sla 0 6 0 v9.length (.un 6))), (10, (.dat v10.length (Zz v10))), (11, (ii v11)), (12, (ii v12)), (14, (ii v14))], Va [⟨Yg v9.length (Zz v9), 68, some ⟨6, v9.length, (Zz v9)⟩⟩] 0, 1, [], true⟩, [], .leaf⟩
def v6h : List (Option (List Nat)) := [some [0, 1, 2, 8, 9, 10, 11, 12]]
def v6j : List (Option (List Nat)) := []
def v6g : List (Option (List Nat)) := [some [0, 1, 2, 8, 9, 10, 11, 12, 13, 15]]
def v6i : List (Option (List Nat)) := []
def rjsN2 : List (Option (List Nat)) := [some [0, 1, 2, 8, 9, 10, 11, 12, 14]]
def rjsM2 : List (Option (List Nat)) := []
def Vy (x0 : Int) (l1 : List R6) (l2 : List R6) : rjsS → Xa rjsS
 | .h0 v9 v10 v11 v12 => (bif (decide ((IntKind.wrap .i64 (v12 + 1)) < (((Yo (cvT l1) (cvT l2)).length : Nat) : Int))) then (bif (z3h (cvT l1) (rd (Yo (cvT l1) (cvT l2)) v12.toNat)) then (bif ((decide (0 ≤ v12 ∧ v12 < (((Yo (cvT l1) (cvT l2)).length : Nat) : Int))) && true) then (bif (z3h (cvT l2) (rd (Yo (cvT l1) (cvT l2)) v12.toNat)) then (bif (Qd x0 (cvT (atV (cvT l1) (rd (Yo (cvT l1) (cvT l2)) v12.toNat))) (cvT (atV (cvT l2) (rd (Yo (cvT l1) (cvT l2)) v12.toNat)))) then (bif (decide ((((joV x0 (cvT (atV (cvT l1) (rd (Yo (cvT l1) (cvT l2)) v12.toNat))) (cvT (atV (cvT l2) (rd (Yo (cvT l1) (cvT l2)) v12.toNat)))).length : Nat) : Int) > 400)) then (.ret [.nils, (.bool false)]) else (bif (Qd 2 (cvT (atV (cvT l1) (rd (Yo (cvT l1) (cvT l2)) v12.toNat))) ([] : List R4)) then (bif (decide ((((joV 2 (cvT (atV (cvT l1) (rd (Yo (cvT l1) (cvT l2)) v12.toNat))) ([] : List R4)).length : Nat) : Int) > 400)) then (.ret [.nils, (.bool false)]) else (bif (Qd 2 (cvT (atV (cvT l2) (rd (Yo (cvT l1) (cvT l2)) v12.toNat))) ([] : List R4)) then (bif (decide ((((joV 2 (cvT (atV (cvT l2) (rd (Yo (cvT l1) (cvT l2)) v12.toNat))) ([] : List R4)).length : Nat) : Int) > 400)) then (.ret [.nils, (.bool false)]) else (bif (decide (v12 > 0)) then (bif (Wk (cvT (joV x0 (cvT (atV (cvT l1) (rd (Yo (cvT l1) (cvT l2)) v12.toNat))) (cvT (atV (cvT l2) (rd (Yo (cvT l1) (cvT l2)) v12.toNat))))) (cvT v10)) then (bif (Ug (cvT (joV x0 (cvT (atV (cvT l1) (rd (Yo (cvT l1) (cvT l2)) v12.toNat))) (cvT (atV (cvT l2) (rd (Yo (cvT l1) (cvT l2)) v12.toNat))))) (cvT v10)) then (.to (.h2 v9 v10 v11 v12 v11)) else (.to (.h1 v9 (joV x0 (cvT (atV (cvT l1) (rd (Yo (cvT l1) (cvT l2)) v12.toNat))) (cvT (atV (cvT l2) (rd (Yo (cvT l1) (cvT l2)) v12.toNat)))) (v9.length : Int) v12 (joV x0 (cvT (atV (cvT l1) (rd (Yo (cvT l1) (cvT l2)) v12.toNat))) (cvT (atV (cvT l2) (rd (Yo (cvT l1) (cvT l2)) v12.toNat)))) 0))) else .stuck) else (.to (.h1 v9 (joV x0 (cvT (atV (cvT l1) (rd (Yo (cvT l1) (cvT l2)) v12.toNat))) (cvT (atV (cvT l2) (rd (Yo (cvT l1) (cvT l2)) v12.toNat)))) (v9.length : Int) v12 (joV x0 (cvT (atV (cvT l1) (rd (Yo (cvT l1) (cvT l2)) v12.toNat))) (cvT (atV (cvT l2) (rd (Yo (cvT l1) (cvT l2)) v12.toNat)))) 0)))) else .stuck)) else .stuck)) else .stuck) else .stuck) else .stuck) else .stuck) else (.ret [(.dat v9.length (Zz v9)), (.bool (decide ((v9.length : Int) ≤ 400)))]))
 | .h1 v9 v10 v11 v12 v13 v15 => (bif (decide (v15 < (v13.length : Int))) then (bif ((decide (0 ≤ v12 ∧ v12 < (((Yo (cvT l1) (cvT l2)).length : Nat) : Int))) && true) then (bif ((decide (0 ≤ v15 ∧ v15 < (v13.length : Int))) && true) then (bif ((decide (0 ≤ (IntKind.wrap .i64 (v12 + 1)) ∧ (IntKind.wrap .i64 (v12 + 1)) < (((Yo (cvT l1) (cvT l2)).length : Nat) : Int))) && true) then (bif (Nat.beq 6 6 && ((decide (0 + v9.length = v9.length)) && decide ((v9.length + 1 + 1) * (48 + 1) ≤ Ja))) then (.to (.h1 (v9 ++ [(R6.mk (rd v13 v15.toNat).a (rd v13 v15.toNat).b (rd (Yo (cvT l1) (cvT l2)) v12.toNat) (rd v13 v15.toNat).c (rd v13 v15.toNat).d (rd (Yo (cvT l1) (cvT l2)) (Int.toNat (IntKind.wrap .i64 (v12 + 1)))))]) v10 v11 v12 v13 (IntKind.wrap .i64 (v15 + 1)))) else .stuck) else .stuck) else .stuck) else .stuck) else (.to (.h0 v9 v10 v11 (IntKind.wrap .i64 (v12 + 1)))))
 | .h2 v9 v10 v11 v12 v14 => (bif (decide (v14 < (v9.length : Int))) then (bif ((decide (0 ≤ (IntKind.wrap .i64 (v12 + 1)) ∧ (IntKind.wrap .i64 (v12 + 1)) < (((Yo (cvT l1) (cvT l2)).length : Nat) : Int))) && true) then (bif ((decide (0 ≤ v14 ∧ v14 < (v9.length : Int))) && true) then (bif (decide ((0 + v14.toNat) < v9.length)) then (.to (.h2 (v9.set (0 + v14.toNat) (R6.mk (rd v9 (0 + v14.toNat)).a (rd v9 (0 + v14.toNat)).b (rd v9 (0 + v14.toNat)).c (rd v9 (0 + v14.toNat)).d (rd v9 (0 + v14.toNat)).e (rd (Yo (cvT l1) (cvT l2)) (Int.toNat (IntKind.wrap .i64 (v12 + 1)))))) v10 v11 v12 (IntKind.wrap .i64 (v14 + 1)))) else .stuck) else .stuck) else .stuck) else (.to (.h0 v9 v10 v11 (IntKind.wrap .i64 (v12 + 1)))))
def z8y (x0 : Int) (l1 : List R6) (l2 : List R6) : Xa rjsS := (bif (z5z (cvT l1) (cvT l2)) then (.to (.h0 ([] : List R6) ([] : List R4) 0 0)) else .stuck)
theorem x6v (x0 : Int) (l1 : List R6) (l2 : List R6) : ∀ s, Xo prog (Zy prog 79) (rjsC x0 l1 l2) (rjsC x0 l1 l2 s) (Vy x0 l1 l2 s)
 | .h0 v9 v10 v11 v12 => (lb (fun k0 => (lo fun aG => (lo fun bI => (lo fun cF => (lo fun dH => (lb (fun k1 => (lr 137 79 [1, 1, 1, 1, 1, 0, 1, 0, 0, 1, 0, 0, 1, 0, 1, 0, 0] 1 23 [(6, .nils), (7, (.bool false))] (sl z7g 50 [] ⟨[], [], [some [6, 7]], []⟩ ⟨[], [], []⟩ (trs 20 []) (tt k1 (pp (pp (xI R4 (atV (cvT l1) (rd (Yo (cvT l1) (cvT l2)) (tn v12))).length (Zz (atV (cvT l1) (rd (Yo (cvT l1) (cvT l2)) (tn v12))))) (pp (xI R4 (atV (cvT l2) (rd (Yo (cvT l1) (cvT l2)) (tn v12))).length (Zz (atV (cvT l2) (rd (Yo (cvT l1) (cvT l2)) (tn v12))))) (xw dH))) (pp (pp (xr l2) (xw cF)) (ww bI (pp (pp (xr l1) (xw aG)) (ww bI (tt k0 nn)))))))))) (fun k1 => (lo fun cY => (lb (fun k2 => (lr 137 79 [1, 1, 1, 1, 1, 0, 1, 0, 0, 1, 0, 0, 1, 0, 1, 0, 0] 1 23 [(6, .nils), (7, (.bool false))] (sl z7g 50 [] ⟨[], [], [some [6, 7]], []⟩ ⟨[], [], []⟩ [true, false, false, false, false, false, false, false, false, false, true, true, true, true, true, true, true, true, true, true] (tt k2 (pp (pp (xI R4 (atV (cvT l1) (rd (Yo (cvT l1) (cvT l2)) (tn v12))).length (Zz (atV (cvT l1) (rd (Yo (cvT l1) (cvT l2)) (tn v12))))) (pp (xI R4 0 (fun _ => [])) (xw cY))) (pp (pp (xr l1) (xw aG)) (ww bI (tt k1 (pp (pp (xI R4 (atV (cvT l1) (rd (Yo (cvT l1) (cvT l2)) (tn v12))).length (Zz (atV (cvT l1) (rd (Yo (cvT l1) (cvT l2)) (tn v12))))) (pp (xI R4 (atV (cvT l2) (rd (Yo (cvT l1) (cvT l2)) (tn v12))).length (Zz (atV (cvT l2) (rd (Yo (cvT l1) (cvT l2)) (tn v12))))) (xw dH))) (pp (pp (xr l2) (xw cF)) (ww bI (pp (pp (xr l1) (xw aG)) (ww bI (tt k0 nn)))))))))))))) (fun k2 => (lo fun cX => (lb (fun k3 => (lr 137 79 [1, 1, 1, 1, 1, 0, 1, 0, 0, 1, 0, 0, 1, 0, 1, 0, 0] 1 23 [(6, .nils), (7, (.bool false))] (sl z7g 50 [] ⟨[], [], [some [6, 7]], []⟩ ⟨[], [], []⟩ [true, false, false, false, false, false, false, false, false, false, false, false, false, false, false, false, false, false, false, true] (tt k3 (pp (pp (xI R4 (atV (cvT l2) (rd (Yo (cvT l1) (cvT l2)) (tn v12))).length (Zz (atV (cvT l2) (rd (Yo (cvT l1) (cvT l2)) (tn v12))))) (pp (xI R4 0 (fun _ => [])) (xw cX))) (pp (pp (xr l2) (xw cF)) (ww bI (tt k2 (pp (pp (xI R4 (atV (cvT l1) (rd (Yo (cvT l1) (cvT l2)) (tn v12))).length (Zz (atV (cvT l1) (rd (Yo (cvT l1) (cvT l2)) (tn v12))))) (pp (xI R4 0 (fun _ => [])) (xw cY))) (pp (pp (xr l1) (xw aG)) (ww bI (tt k1 (pp (pp (xI R4 (atV (cvT l1) (rd (Yo (cvT l1) (cvT l2)) (tn v12))).length (Zz (atV (cvT l1) (rd (Yo (cvT l1) (cvT l2)) (tn v12))))) (pp (xI R4 (atV (cvT l2) (rd (Yo (cvT l1) (cvT l2)) (tn v12))).length (Zz (atV (cvT l2) (rd (Yo (cvT l1) (cvT l2)) (tn v12))))) (xw dH))) (pp (pp (xr l2) (xw cF)) (ww bI (pp (pp (xr l1) (xw aG)) (ww bI (tt k0 nn)))))))))))))))))) (fun k3 => (lb (fun k4 => (lo fun eB => (lb (fun k5 => (sl z7g 66 [] ⟨[0], [], rjsN2, rjsM2⟩ ⟨[], [], []⟩ [true, false, false, false, false, false, false, false, false, false, false, false, false, false, false, false, false, false, false, false, true, true, true, true] (pp (fl v9 nn) (tt k5 (pp (pp (xI R4 (joV x0 (cvT (atV (cvT l1) (rd (Yo (cvT l1) (cvT l2)) (tn v12)))) (cvT (atV (cvT l2) (rd (Yo (cvT l1) (cvT l2)) (tn v12))))).length (Zz (joV x0 (cvT (atV (cvT l1) (rd (Yo (cvT l1) (cvT l2)) (tn v12)))) (cvT (atV (cvT l2) (rd (Yo (cvT l1) (cvT l2)) (tn v12))))))) (pp (xr v10) (xw eB))) (tt k4 (tt k3 (pp (pp (xI R4 (atV (cvT l2) (rd (Yo (cvT l1) (cvT l2)) (tn v12))).length (Zz (atV (cvT l2) (rd (Yo (cvT l1) (cvT l2)) (tn v12))))) (pp (xI R4 0 (fun _ => [])) (xw cX))) (pp (pp (xr l2) (xw cF)) (ww bI (tt k2 (pp (pp (xI R4 (atV (cvT l1) (rd (Yo (cvT l1) (cvT l2)) (tn v12))).length (Zz (atV (cvT l1) (rd (Yo (cvT l1) (cvT l2)) (tn v12))))) (pp (xI R4 0 (fun _ => [])) (xw cY))) (pp (pp (xr l1) (xw aG)) (ww bI (tt k1 (pp (pp (xI R4 (atV (cvT l1) (rd (Yo (cvT l1) (cvT l2)) (tn v12))).length (Zz (atV (cvT l1) (rd (Yo (cvT l1) (cvT l2)) (tn v12))))) (pp (xI R4 (atV (cvT l2) (rd (Yo (cvT l1) (cvT l2)) (tn v12))).length (Zz (atV (cvT l2) (rd (Yo (cvT l1) (cvT l2)) (tn v12))))) (xw dH))) (pp (pp (xr l2) (xw cF)) (ww bI (pp (pp (xr l1) (xw aG)) (ww bI (tt k0 nn))))))))))))))))))))) (fun k5 => (sl z7g 73 [] ⟨[0], [], v6g, v6i⟩ ⟨[], [], []⟩ [true, false, false, false, false, false, false, false, false, false, false, false, false, false, false, false, false, false, false, false, true, true, true, false] (pp (fl v9 nn) (tt k5 (pp (pp (xI R4 (joV x0 (cvT (atV (cvT l1) (rd (Yo (cvT l1) (cvT l2)) (tn v12)))) (cvT (atV (cvT l2) (rd (Yo (cvT l1) (cvT l2)) (tn v12))))).length (Zz (joV x0 (cvT (atV (cvT l1) (rd (Yo (cvT l1) (cvT l2)) (tn v12)))) (cvT (atV (cvT l2) (rd (Yo (cvT l1) (cvT l2)) (tn v12))))))) (pp (xr v10) (xw eB))) (tt k4 (tt k3 (pp (pp (xI R4 (atV (cvT l2) (rd (Yo (cvT l1) (cvT l2)) (tn v12))).length (Zz (atV (cvT l2) (rd (Yo (cvT l1) (cvT l2)) (tn v12))))) (pp (xI R4 0 (fun _ => [])) (xw cX))) (pp (pp (xr l2) (xw cF)) (ww bI (tt k2 (pp (pp (xI R4 (atV (cvT l1) (rd (Yo (cvT l1) (cvT l2)) (tn v12))).length (Zz (atV (cvT l1) (rd (Yo (cvT l1) (cvT l2)) (tn v12))))) (pp (xI R4 0 (fun _ => [])) (xw cY))) (pp (pp (xr l1) (xw aG)) (ww bI (tt k1 (pp (pp (xI R4 (atV (cvT l1) (rd (Yo (cvT l1) (cvT l2)) (tn v12))).length (Zz (atV (cvT l1) (rd (Yo (cvT l1) (cvT l2)) (tn v12))))) (pp (xI R4 (atV (cvT l2) (rd (Yo (cvT l1) (cvT l2)) (tn v12))).length (Zz (atV (cvT l2) (rd (Yo (cvT l1) (cvT l2)) (tn v12))))) (xw dH))) (pp (pp (xr l2) (xw cF)) (ww bI (pp (pp (xr l1) (xw aG)) (ww bI (tt k0 nn)))))))))))))))))))))))) (fun k4 => (sl z7g 73 [] ⟨[0], [], v6g, v6i⟩ ⟨[], [], []⟩ [true, false, false, false, false, false, false, false, false, false, false, false, false, false, false, false, false, false, false, false, false, false, false, false] (pp (fl v9 nn) (tt k4 (tt k3 (pp (pp (xI R4 (atV (cvT l2) (rd (Yo (cvT l1) (cvT l2)) (tn v12))).length (Zz (atV (cvT l2) (rd (Yo (cvT l1) (cvT l2)) (tn v12))))) (pp (xI R4 0 (fun _ => [])) (xw cX))) (pp (pp (xr l2) (xw cF)) (ww bI (tt k2 (pp (pp (xI R4 (atV (cvT l1) (rd (Yo (cvT l1) (cvT l2)) (tn v12))).length (Zz (atV (cvT l1) (rd (Yo (cvT l1) (cvT l2)) (tn v12))))) (pp (xI R4 0 (fun _ => [])) (xw cY))) (pp (pp (xr l1) (xw aG)) (ww bI (tt k1 (pp (pp (xI R4 (atV (cvT l1) (rd (Yo (cvT l1) (cvT l2)) (tn v12))).length (Zz (atV (cvT l1) (rd (Yo (cvT l1) (cvT l2)) (tn v12))))) (pp (xI R4 (atV (cvT l2) (rd (Yo (cvT l1) (cvT l2)) (tn v12))).length (Zz (atV (cvT l2) (rd (Yo (cvT l1) (cvT l2)) (tn v12))))) (xw dH))) (pp (pp (xr l2) (xw cF)) (ww bI (pp (pp (xr l1) (xw aG)) (ww bI (tt k0 nn))))))))))))))))))))))))))))))))) (fun k0 => (lr 137 3 [1, 1, 1, 1, 1, 1, 0] 1 23 [(6, (.dat v9.length (Zz v9))), (7, (.bool (decide ((v9.length : Int) ≤ 400))))] (sl z7g 20 [] ⟨[], [0], [some [6, 7]], []⟩ ⟨[(6, .frz v9.length v9.length (Zz v9) (Zz v9))], [], []⟩ [false] (pp (xZ (z5k 6 6 0 v9.length v9.length (Zz v9)) v9.length (Zz v9)) (pp (xL v9.length v9.length) (pp (xS v9.length (Zz v9) (Zz v9)) (pp (fl v9 nn) (tt k0 nn)))))))))
 | .h1 v9 v10 v11 v12 v13 v15 => (lb (fun k0 => (lo fun o0 => (lo fun o1 => (lo fun o2 => (lo fun o3 => (sl z7g 20 [] ⟨[2], [], v6g, v6i⟩ ⟨[(9, .len (v9 ++ [(R6.mk (rd v13 (tn v15)).a (rd v13 (tn v15)).b (rd (Yo (cvT l1) (cvT l2)) (tn v12)) (rd v13 (tn v15)).c (rd v13 (tn v15)).d (rd (Yo (cvT l1) (cvT l2)) (tn (wr (v12 + 1)))))]).length)], [.rowed 6 (v9 ++ [(R6.mk (rd v13 (tn v15)).a (rd v13 (tn v15)).b (rd (Yo (cvT l1) (cvT l2)) (tn v12)) (rd v13 (tn v15)).c (rd v13 (tn v15)).d (rd (Yo (cvT l1) (cvT l2)) (tn (wr (v12 + 1)))))]).length (Zz (v9 ++ [(R6.mk (rd v13 (tn v15)).a (rd v13 (tn v15)).b (rd (Yo (cvT l1) (cvT l2)) (tn v12)) (rd v13 (tn v15)).c (rd v13 (tn v15)).d (rd (Yo (cvT l1) (cvT l2)) (tn (wr (v12 + 1)))))]))], []⟩ [true] (pp (xL (v9.length + 1) (v9 ++ [(R6.mk (rd v13 (tn v15)).a (rd v13 (tn v15)).b (rd (Yo (cvT l1) (cvT l2)) (tn v12)) (rd v13 (tn v15)).c (rd v13 (tn v15)).d (rd (Yo (cvT l1) (cvT l2)) (tn (wr (v12 + 1)))))]).length) (pp (xL (v9.length + 1) (v9 ++ [(R6.mk (rd v13 (tn v15)).a (rd v13 (tn v15)).b (rd (Yo (cvT l1) (cvT l2)) (tn v12)) (rd v13 (tn v15)).c (rd v13 (tn v15)).d (rd (Yo (cvT l1) (cvT l2)) (tn (wr (v12 + 1)))))]).length) (pp (xS (v9.length + 1) (Ze (Zz v9) 0 v9.length 6 [(ii (rd v13 (tn v15)).a), (ii (rd v13 (tn v15)).b), (ii (rd (Yo (cvT l1) (cvT l2)) (tn v12))), (ii (rd v13 (tn v15)).c), (ii (rd v13 (tn v15)).d), (ii (rd (Yo (cvT l1) (cvT l2)) (tn (wr (v12 + 1)))))]) (Zz (v9 ++ [(R6.mk (rd v13 (tn v15)).a (rd v13 (tn v15)).b (rd (Yo (cvT l1) (cvT l2)) (tn v12)) (rd v13 (tn v15)).c (rd v13 (tn v15)).d (rd (Yo (cvT l1) (cvT l2)) (tn (wr (v12 + 1)))))]))) (pp (pp (xF (Ze (Zz v9) 0 v9.length 6 [(ii (rd v13 (tn v15)).a), (ii (rd v13 (tn v15)).b), (ii (rd (Yo (cvT l1) (cvT l2)) (tn v12))), (ii (rd v13 (tn v15)).c), (ii (rd v13 (tn v15)).d), (ii (rd (Yo (cvT l1) (cvT l2)) (tn (wr (v12 + 1)))))])) nn) (ww o3 (ww o2 (ww o1 (ww o1 (ww o0 (ww o1 (ww o1 (tt k0 nn)))))))))))))))))) (fun k0 => (sl z7g 17 [] ⟨[0], [], v6h, v6j⟩ ⟨[], [], []⟩ [false] (pp (fl v9 nn) (tt k0 nn)))))
 | .h2 v9 v10 v11 v12 v14 => (lb (fun k0 => (lo fun o0 => (lo fun o1 => (lo fun o2 => (sl z7g 32 [] ⟨[0], [], rjsN2, rjsM2⟩ ⟨[(9, .len (v9.set (0 + (tn v14)) (R6.mk (rd v9 (0 + (tn v14))).a (rd v9 (0 + (tn v14))).b (rd v9 (0 + (tn v14))).c (rd v9 (0 + (tn v14))).d (rd v9 (0 + (tn v14))).e (rd (Yo (cvT l1) (cvT l2)) (tn (wr (v12 + 1)))))).length)], [.rowed 6 (v9.set (0 + (tn v14)) (R6.mk (rd v9 (0 + (tn v14))).a (rd v9 (0 + (tn v14))).b (rd v9 (0 + (tn v14))).c (rd v9 (0 + (tn v14))).d (rd v9 (0 + (tn v14))).e (rd (Yo (cvT l1) (cvT l2)) (tn (wr (v12 + 1)))))).length (Zz (v9.set (0 + (tn v14)) (R6.mk (rd v9 (0 + (tn v14))).a (rd v9 (0 + (tn v14))).b (rd v9 (0 + (tn v14))).c (rd v9 (0 + (tn v14))).d (rd v9 (0 + (tn v14))).e (rd (Yo (cvT l1) (cvT l2)) (tn (wr (v12 + 1)))))))], []⟩ [true] (pp (xL v9.length (v9.set (0 + (tn v14)) (R6.mk (rd v9 (0 + (tn v14))).a (rd v9 (0 + (tn v14))).b (rd v9 (0 + (tn v14))).c (rd v9 (0 + (tn v14))).d (rd v9 (0 + (tn v14))).e (rd (Yo (cvT l1) (cvT l2)) (tn (wr (v12 + 1)))))).length) (pp (xL v9.length (v9.set (0 + (tn v14)) (R6.mk (rd v9 (0 + (tn v14))).a (rd v9 (0 + (tn v14))).b (rd v9 (0 + (tn v14))).c (rd v9 (0 + (tn v14))).d (rd v9 (0 + (tn v14))).e (rd (Yo (cvT l1) (cvT l2)) (tn (wr (v12 + 1)))))).length) (pp (xS v9.length (Xd (Zz v9) (0 + (tn v14)) 5 [(ii (rd (Yo (cvT l1) (cvT l2)) (tn (wr (v12 + 1)))))]) (Zz (v9.set (0 + (tn v14)) (R6.mk (rd v9 (0 + (tn v14))).a (rd v9 (0 + (tn v14))).b (rd v9 (0 + (tn v14))).c (rd v9 (0 + (tn v14))).d (rd v9 (0 + (tn v14))).e (rd (Yo (cvT l1) (cvT l2)) (tn (wr (v12 + 1)))))))) (pp (pp (xF (Xd (Zz v9) (0 + (tn v14)) 5 [(ii (rd (Yo (cvT l1) (cvT l2)) (tn (wr (v12 + 1)))))])) nn) (ww o2 (ww o1 (ww o0 (tt k0 nn))))))))))))) (fun k0 => (sl z7g 17 [] ⟨[0], [], v6h, v6j⟩ ⟨[], [], []⟩ [false] (pp (fl v9 nn) (tt k0 nn)))))
theorem x0h (x0 : Int) (l1 : List R6) (l2 : List R6) : Xo prog (Zy prog 79) (rjsC x0 l1 l2) (Zc prog 79 [(.int .i64 x0), (.dat l1.length (Zz l1)), (.dat l2.length (Zz l2))] true []) (z8y x0 l1 l2) := (lo fun o0 => (sl z7g 31 [(68, 6, Zz ([] : List R6))] ⟨[0], [], v6h, v6j⟩ ⟨[(9, .grow 0 6), (10, .list 0 (Zz ([] : List R4)))], [], []⟩ [] (pp (fl ([] : List R6) nn) (pp (pp (xr l1) (pp (xr l2) (xw o0))) nn))))
theorem w6r (x0 : Int) (l1 : List R6) (l2 : List R6) (n : Nat) (vs : List AVal) (h : Yx (Vy x0 l1 l2) n (z8y x0 l1 l2) = .ret vs) : Jc prog (Zy prog 79) (Zc prog 79 [(.int .i64 x0), (.dat l1.length (Zz l1)), (.dat l2.length (Zz l2))] true []) vs := by
 have := Zn (x6v x0 l1 l2) n _ (x0h x0 l1 l2)
 rwa [h] at this
end Go.Am
namespace Go.Am
open Go.Proofs.Tryz
open Go.Proofs
theorem Jp (l m : List R6) : (Yo l m).length ≤ 2 * l.length + 2 * m.length := by
 refine Nat.le_trans (z3t _) ?_
 rw [List.length_append, Qk, Qk]; omega
theorem z0m (l : List R6) (z : Int) : (atV l z).length ≤ l.length := by
 unfold atV
 rw [List.length_map]
 exact List.length_filter_le _ _
def w5n (out : List R6) (first : Nat) (z : Int) : List R6 := out.take first ++ (out.drop first).map fun r => ⟨r.a, r.b, r.c, r.d, r.e, z⟩
def v6x (z z' : Int) (s : List R4) : List R6 := s.map fun p => ⟨p.a, p.b, z, p.c, p.d, z'⟩
section
variable (kind : Int) (l m : List R6)
def y6a (z : Int) : List R4 := joV kind (atV l z) (atV m z)
def z8d (z : Int) : Bool := decide (400 < (y6a kind l m z).length) || (decide (400 < (joV 2 (atV l z) []).length) || decide (400 < (joV 2 (atV m z) []).length))
def jsF : Nat → Nat → List R6 → List R4 → Nat → Option (List R6)
 | 0, _, out, _, _ => some out
 | k + 1, i, out, last, first =>
  bif z8d kind l m (rd (Yo l m) i) then none
  else bif decide (0 < i) && Ug (y6a kind l m (rd (Yo l m) i)) last then jsF k (i + 1) (w5n out first (rd (Yo l m) (i + 1))) last first
  else jsF k (i + 1) (out ++ v6x (rd (Yo l m) i) (rd (Yo l m) (i + 1)) (y6a kind l m (rd (Yo l m) i))) (y6a kind l m (rd (Yo l m) i)) out.length
def jsO : Option (List R6) := jsF kind l m ((Yo l m).length - 1) 0 [] [] 0
def x1k : Option (List R6) → List AVal
 | none => [.nils, .bool false]
 | some out => [.dat out.length (Zz out), .bool (decide ((out.length : Int) ≤ 400))]
def z4c : List R6 := (jsO kind l m).getD []
def y7t : Bool := match jsO kind l m with
 | none => false
 | some out => decide ((out.length : Int) ≤ 400)
end
def z9e (_ : Int) (l m : List R6) : Bool := decide (l.length ≤ 5000 ∧ m.length ≤ 5000)
section
variable (kind : Int) (l m : List R6) (hl : l.length ≤ 5000) (hm : m.length ≤ 5000)
include hl hm
theorem v2d (last : List R4) (first : Int) (i : Nat) (hi : i + 1 < (Yo l m).length) (s : List R4) (hs : s.length ≤ 1000000) : ∀ (k j : Nat) (out : List R6), j + k = s.length → out.length ≤ 10000000000 + j →
  ∃ n, ∀ N, Yx (Vy kind l m) (N + n) (.to (.h1 out last first (i : Int) s (j : Int))) = Yx (Vy kind l m) N (.to (.h0 (out ++ v6x (rd (Yo l m) i) (rd (Yo l m) (i + 1)) (s.drop j)) last first ((i + 1 : Nat) : Int)))
 | 0, j, out, h, ho => by
  have hx := Jp l m
  refine ⟨1, fun N => ?_⟩
  rw [List.drop_eq_nil_of_le (by omega), Zv]
  simp (disch := omega) only [Vy, Zb, Zq, Zt, Zj, Zx, cond_false, v6x, List.map_nil, List.append_nil]
 | k + 1, j, out, h, ho => by
  have hx := Jp l m
  obtain ⟨n, hn⟩ := v2d last first i hi s hs k (j + 1) (out ++ v6x (rd (Yo l m) i) (rd (Yo l m) (i + 1)) [rd s j]) (by omega) (by simp [v6x]; omega)
  refine ⟨n + 1, fun N => ?_⟩
  have := hn N
  rw [Ye (show j < s.length by omega), ← Nat.add_assoc, Zv]
  simp (disch := omega) only [Vy, Zb, Zq, Zo, Zr, Yz, Yk, Zf, Zj, Zx, Ya, Zk, Nat.zero_add, decide_true, Bool.and_true, Bool.true_and, cond_true]
  rw [List.append_assoc] at this
  exact this
omit hl hm in
theorem w9h (out : List R6) (j : Nat) (x : Int) (h : j < out.length) : w5n (out.set j ⟨(rd out j).a, (rd out j).b, (rd out j).c, (rd out j).d, (rd out j).e, x⟩) (j + 1) x = w5n out j x := by
 unfold w5n
 rw [Ye h, List.map_cons]
 have e1 : (out.set j ⟨(rd out j).a, (rd out j).b, (rd out j).c, (rd out j).d, (rd out j).e, x⟩).take (j + 1) = out.take j ++ [⟨(rd out j).a, (rd out j).b, (rd out j).c, (rd out j).d, (rd out j).e, x⟩] := by
  apply List.ext_getElem
  ·simp; omega
  ·intro n h1 h2
   simp only [List.getElem_take, List.getElem_set]
   by_cases e : j = n
   ·subst e
    rw [if_pos rfl, List.getElem_append_right (by simp only [List.length_take]; omega)]
    simp
   ·rw [if_neg e, List.getElem_append_left (by simp at h1 ⊢; omega), List.getElem_take]
 have e2 : (out.set j ⟨(rd out j).a, (rd out j).b, (rd out j).c, (rd out j).d, (rd out j).e, x⟩).drop (j + 1) = out.drop (j + 1) := by
  rw [List.drop_set]; rw [if_pos (by omega)]
 rw [e1, e2, List.append_assoc]; rfl
theorem v2c (last : List R4) (first : Int) (i : Nat) (hi : i + 1 < (Yo l m).length) : ∀ (k j : Nat) (out : List R6), j + k = out.length → out.length ≤ 10000000000 →
  ∃ n, ∀ N, Yx (Vy kind l m) (N + n) (.to (.h2 out last first (i : Int) (j : Int))) = Yx (Vy kind l m) N (.to (.h0 (w5n out j (rd (Yo l m) (i + 1))) last first ((i + 1 : Nat) : Int)))
 | 0, j, out, h, ho => by
  have hx := Jp l m
  refine ⟨1, fun N => ?_⟩
  have e : w5n out j (rd (Yo l m) (i + 1)) = out := by
   unfold w5n; rw [List.drop_eq_nil_of_le (by omega), List.map_nil, List.append_nil, List.take_of_length_le (by omega)]
  rw [e, Zv]
  simp (disch := omega) only [Vy, Zb, Zq, Zt, Zj, Zx, cond_false]
 | k + 1, j, out, h, ho => by
  have hx := Jp l m
  obtain ⟨n, hn⟩ := v2c last first i hi k (j + 1) (out.set j ⟨(rd out j).a, (rd out j).b, (rd out j).c, (rd out j).d, (rd out j).e, rd (Yo l m) (i + 1)⟩) (by simp; omega) (by simpa using ho)
  refine ⟨n + 1, fun N => ?_⟩
  have := hn N
  rw [w9h out j _ (by omega)] at this
  rw [← Nat.add_assoc, Zv]
  simp (disch := omega) only [Vy, Zb, Zq, Zo, Zr, Yu, Yz, Yk, Zf, Zj, Zx, Ya, Zk, Nat.zero_add, decide_true, Bool.and_true, Bool.true_and, cond_true]
  exact this
theorem w1c : ∀ (k i : Nat) (out : List R6) (last : List R4) (first : Nat), k = (Yo l m).length - 1 - i → i ≤ (Yo l m).length → out.length ≤ i * 400 → last.length ≤ 400 → first ≤ out.length →
  ∃ n, Yx (Vy kind l m) n (.to (.h0 out last (first : Int) (i : Int))) = .ret (x1k (jsF kind l m k i out last first))
 | 0, i, out, last, first, h, hi, ho, hla, hf => by
  have hx := Jp l m
  refine ⟨1, ?_⟩
  rw [Zv]
  simp (disch := omega) only [Vy, Zb, Zq, Zt, Zj, Zx, cond_false, Zm, jsF, x1k]
 | k + 1, i, out, last, first, h, hi, ho, hla, hf => by
  have hx := Jp l m
  have hi1 : i + 1 < (Yo l m).length := by omega
  have hbig : i * 400 ≤ 20000 * 400 := Nat.mul_le_mul_right _ (by omega)
  have a1 := fun z => z0m l z
  have a2 := fun z => z0m m z
  have w1 : ∀ z, z3h l z = true := fun z => decide_eq_true (by omega)
  have w2 : ∀ z, z3h m z = true := fun z => decide_eq_true (by omega)
  have w3 : ∀ k z, Qd k (atV l z) (atV m z) = true := fun k z => decide_eq_true (by have := a1 z; have := a2 z; omega)
  have w4 : ∀ k z, Qd k (atV l z) ([] : List R4) = true := fun k z => decide_eq_true (by have := a1 z; simp; omega)
  have w5 : ∀ k z, Qd k (atV m z) ([] : List R4) = true := fun k z => decide_eq_true (by have := a2 z; simp; omega)
  unfold jsF
  have fJ : y6a kind l m (rd (Yo l m) i) = joV kind (atV l (rd (Yo l m) i)) (atV m (rd (Yo l m) i)) := rfl
  by_cases c1 : 400 < (y6a kind l m (rd (Yo l m) i)).length
  ·refine ⟨1, ?_⟩
   have hb : z8d kind l m (rd (Yo l m) i) = true := by unfold z8d; rw [decide_eq_true c1]; rfl
   rw [hb, cond_true, Zv]
   rw [fJ] at c1
   simp (disch := omega) only [Vy, Zb, Zq, Zo, Yn, Zr, Zj, Zx, Zk, w1, w2, w3, w4, w5, Bool.and_true, cond_true, Zm, x1k]
  by_cases c2 : 400 < (joV 2 (atV l (rd (Yo l m) i)) []).length
  ·refine ⟨1, ?_⟩
   have hb : z8d kind l m (rd (Yo l m) i) = true := by unfold z8d; rw [decide_eq_true c2, Bool.true_or, Bool.or_true]
   rw [hb, cond_true, Zv]
   rw [fJ] at c1
   simp (disch := omega) only [Vy, Zb, Zq, Zo, Yn, Xw, Zr, Zj, Zx, Zk, w1, w2, w3, w4, w5, Bool.and_true, cond_true, cond_false, Zm, x1k]
  by_cases c3 : 400 < (joV 2 (atV m (rd (Yo l m) i)) []).length
  ·refine ⟨1, ?_⟩
   have hb : z8d kind l m (rd (Yo l m) i) = true := by unfold z8d; rw [decide_eq_true c3, Bool.or_true, Bool.or_true]
   rw [hb, cond_true, Zv]
   rw [fJ] at c1
   simp (disch := omega) only [Vy, Zb, Zq, Zo, Yn, Xw, Zr, Zj, Zx, Zk, w1, w2, w3, w4, w5, Bool.and_true, cond_true, cond_false, Zm, x1k]
  have hb : z8d kind l m (rd (Yo l m) i) = false := by unfold z8d; rw [decide_eq_false c1, decide_eq_false c2, decide_eq_false c3]; rfl
  rw [hb, cond_false]
  have w6 : Wk (joV kind (atV l (rd (Yo l m) i)) (atV m (rd (Yo l m) i))) last = true := decide_eq_true (by rw [← fJ]; omega)
  rcases Yy (decide (0 < i) && Ug (y6a kind l m (rd (Yo l m) i)) last) with q | q
  ·obtain ⟨n3, h3⟩ := v2c kind l m hl hm last first i hi1 (out.length - first) first out (by omega) (by omega)
   obtain ⟨n0, h0⟩ := w1c k (i + 1) (w5n out first (rd (Yo l m) (i + 1))) last first (by omega) (by omega) (by simp [w5n]; omega) hla (by simp [w5n]; omega)
   refine ⟨n0 + n3 + 1, ?_⟩
   rw [q, cond_true, Zv]
   simp only [Bool.and_eq_true, decide_eq_true_eq] at q
   obtain ⟨q1, q2⟩ := q
   rw [fJ] at c1 q2
   simp (disch := omega) only [Vy, Zb, Zq, Zo, Yn, Xw, Zr, Zj, Zx, Zk, w1, w2, w3, w4, w5, w6, q2, Bool.and_true, cond_true, cond_false]
   rw [h3 n0, h0]
  ·obtain ⟨n2, h2⟩ := v2d kind l m hl hm (y6a kind l m (rd (Yo l m) i)) (out.length : Int) i hi1 (y6a kind l m (rd (Yo l m) i)) (by omega) (y6a kind l m (rd (Yo l m) i)).length 0 out (Nat.zero_add _) (by omega)
   obtain ⟨n0, h0⟩ := w1c k (i + 1) (out ++ v6x (rd (Yo l m) i) (rd (Yo l m) (i + 1)) (y6a kind l m (rd (Yo l m) i))) (y6a kind l m (rd (Yo l m) i)) out.length (by omega) (by omega) (by simp [v6x]; omega) (by omega) (by simp)
   refine ⟨n0 + n2 + 1, ?_⟩
   rw [q, cond_false, Zv]
   have h2' := h2 n0
   simp only [List.drop_zero, z1c] at h2'
   have c1' := c1
   rw [fJ] at c1'
   by_cases hi0 : 0 < i
   ·rw [decide_eq_true hi0, Bool.true_and, fJ] at q
    simp (disch := omega) only [Vy, Zb, Zq, Zo, Yn, Xw, Zr, Zj, Zx, Zk, w1, w2, w3, w4, w5, w6, q, Bool.and_true, cond_true, cond_false]
    rw [← h0]; exact h2'
   ·simp (disch := omega) only [Vy, Zb, Zq, Zo, Yn, Xw, Zr, Zj, Zx, Zk, w1, w2, w3, w4, w5, w6, Bool.and_true, cond_true, cond_false]
    rw [← h0]; exact h2'
end
theorem v6f (kind : Int) (l m : List R6) (h : z9e kind l m = true) : ∃ N, Yx (Vy kind l m) N (z8y kind l m) = .ret (x1k (jsO kind l m)) := by
 obtain ⟨hl, hm⟩ := of_decide_eq_true h
 obtain ⟨N, hN⟩ := w1c kind l m hl hm ((Yo l m).length - 1) 0 [] [] 0 rfl (Nat.zero_le _) (Nat.zero_le _) (Nat.zero_le _) (Nat.le_refl _)
 refine ⟨N, ?_⟩
 have w1 : z5z l m = true := decide_eq_true ⟨by omega, by omega⟩
 simp only [z8y, Zb, Zq, w1, cond_true]
 exact hN
def fJs : List AVal → Option (AVal × Bool)
 | [.int .i64 x0, a1, a2] => match asL R6 a1, asL R6 a2 with
  | some (L1, g1, n1), some (L2, g2, n2) => some (.tup [.dat (z4c x0 L1 L2).length (Zz (z4c x0 L1 L2)), .bool (y7t x0 L1 L2)], isT R6 n1 g1 && (isT R6 n2 g2 && (z9e x0 L1 L2)))
  | _, _ => none
 | _ => none
theorem fJs_ok {S : Specs} (hS : Zu prog S) : Zu prog (S.with v3d fJs) := by
 refine v8k hS (by kernel_rfl) fun args v h => ?_
 unfold fJs at h
 split at h
 ·rename_i x0 a1 a2
  split at h
  ·rename_i L1 g1 n1 L2 g2 n2 e1 e2
   simp only [Option.some.injEq, Prod.mk.injEq, Bool.and_eq_true] at h
   obtain ⟨rfl, ho1, ho2, hw⟩ := h
   obtain ⟨N, hN⟩ := v6f x0 L1 L2 hw
   refine ⟨_, x1k (jsO x0 L1 L2), (.cons (.refl _) (.cons (asL_le e1 ho1) (.cons (asL_le e2 ho2) .nil))), ?_, w6r x0 L1 L2 N _ hN, 3, ?_⟩
   ·unfold z4c y7t
    cases jsO x0 L1 L2 with
    | none => exact fun ρ u hu => z7m (.cons (z2f R6) (RLe.refl _)) ρ u hu
    | some out => exact fun ρ u hu => hu
   ·cases jsO x0 L1 L2 <;> rfl
  ·cases h
 ·cases h
def T4 : Specs := T3.with v3d fJs
theorem T4_ok : Zu prog T4 := fJs_ok z7g
end Go.Am
namespace Go.Am
open Go.Proofs.Tryz
open Go.Proofs Go.Sort Go.Shelf Go.RowKit Go.Lib
def v9u (x : E3) : List Value := y3l x.1
theorem v9t (l : List R3) (h : y6b l = true) : Go.Sort.flatK v9u 3 (y6c l h).toArray = Go.Sort.flatK y3l 3 l.toArray := by
 have hl := Jm l h
 unfold Go.Sort.flatK
 rw [show (y6c l h).toArray.size = l.toArray.size by simpa using hl]
 apply Array.ext
 ·simp
 ·intro t h1 h2
  simp only [Array.getElem_map, Array.getElem_range]
  have ht : t < l.length * 3 := by simpa using h1
  have hq : t / 3 < l.length := by omega
  congr 1
  rw [getElem!_pos (y6c l h).toArray (t / 3) (by simpa [hl] using hq), getElem!_pos l.toArray (t / 3) (by simpa using hq)]
  unfold v9u
  congr 1
  have := z9r l h
  have e := congrArg (fun z : List R3 => z[t / 3]?) this
  simp only [List.getElem?_map] at e
  rw [List.getElem?_eq_getElem (by rw [hl]; exact hq), List.getElem?_eq_getElem hq] at e
  simpa using e
theorem w8z (d : Array E3) : Go.Sort.flatK v9u 3 d = Go.Sort.flatK y3l 3 (d.toList.map Subtype.val).toArray := by
 unfold Go.Sort.flatK
 rw [show d.size = (d.toList.map Subtype.val).toArray.size by simp]
 apply Array.ext
 ·simp
 ·intro t h1 h2
  simp only [Array.getElem_map, Array.getElem_range]
  have ht : t < d.size * 3 := by simpa using h1
  have hq : t / 3 < d.size := by omega
  congr 1
  rw [getElem!_pos d (t / 3) hq, getElem!_pos (d.toList.map Subtype.val).toArray (t / 3) (by simpa using hq)]
  simp [v9u]
theorem y7o (l : List R3) : y4w l.length (z4j (cvT l)).length = true := Uy (by
 rw [Zb]
 by_cases h : y6b l = true
 ·exact (Qt l h).1.length_eq.symm
 ·unfold z4j; rw [dif_neg h])
theorem isAgg3 : ∀ w, (isAgg (Tryz.sortEnd_ren.t 24)).run prog w = .ok true w := fun w => by rfl
theorem size3 : ∀ w, (Go.sizeOf (Tryz.sortEnd_ren.t 24)).run prog w = .ok 3 w := fun w => by rfl
theorem w0a : y8z prog v2y (x5k R3 z4j y6b x4p) := by
 refine w4g (fun L => ?_) (fun blk off cap L w hb hH fQ hsz => ?_) fun p cap fv w => AnyF.slices_SortFunc_none Tryz.sortEnd p cap fv w
 ·by_cases h : y6b L = true
  ·exact (Qt L h).1.length_eq
  ·unfold z4j; rw [dif_neg h]
 ·have eg : ∀ args w, (callFunc 193 args).run prog w = .ok (.enter 193 args) w := enters_of Tryz.func193 (by kernel_rfl) rfl
  have hcmp : CmpLays prog 193 #[] v9u 3 cf3 blk off (y6c L hb).toArray.size w := fun m os dk _ x y => by
   have hx := of_decide_eq_true x.2
   have hy := of_decide_eq_true y.2
   exact Tryz.cmpEnd x.1.a x.1.b x.1.c y.1.a y.1.b y.1.c hx hy _
  have hH' : HoldsK v9u 3 w blk off (y6c L hb).toArray := by
   unfold HoldsK
   rw [v9t L hb]; exact hH
  have hcon := AnyQ.slices_SortFunc_eq Tryz.sortEnd 3 isAgg3 size3 v9u (fun x => y1g x.1) (fun x v hv => by
   obtain ⟨a, ha, rfl⟩ := List.mem_map.1 hv
   have : x1m a = true := List.all_eq_true.1 (v4r.num x.1) a ha
   cases a <;> first | rfl | (simp [x1m] at this; done)) cf3 swo3 193 #[] blk off cap (y6c L hb).toArray w eg hcmp hH' fQ (by simpa [Jm] using hsz)
  have hs : (y6c L hb).toArray.size = L.length := by simp [Jm]
  rw [hs] at hcon
  refine Calls.mono hcon fun e w' ⟨he, n, os, hw⟩ => ⟨he, n, os, ?_⟩
  rw [hw]
  unfold sortWorldK putRowK
  rw [w8z]
  unfold z4j
  rw [dif_pos hb]
  rfl
def Yi (zs : List Int) : List Int := zs.mergeSort fun x y => decide (x ≤ y)
theorem x9z : y8z prog nSort (fRow Yi) :=
 v9v (fun zs => List.length_mergeSort zs) (fun blk off cap zs w hH hb hz => Tryz.slices_Sort_int blk off cap zs w hH hb hz) fun p cap w => Tryz.slices_Sort_int_none p cap w
def Xx (zs : List Int) : List Int := compact zs ++ List.replicate (zs.length - (compact zs).length) 0
def v0n (zs : List Int) : Nat := (compact zs).length
theorem Wf (zs : List Int) : (Xx zs).length = zs.length := by have := compact_length_le zs; simp [Xx]; omega
theorem z0f (n : Nat) (c : Nat → Int) : y4w n (Xx (Za n c)).length = true := Uy (by rw [Wf]; simp [Za])
theorem w3q (w : World) : grow w #[] = w := by simp [grow]
theorem x2w : y8z prog x4r (fCut Xx v0n) :=
 v9w (fun zs => by have := compact_length_le zs; simp [Xx]; omega) (fun zs => compact_length_le zs)
  (fun blk off cap zs w hH hb hz eM => (Tryz.slices_Compact_int blk off cap zs w hH (by omega) eM).mono fun e w' ⟨he, q, hw⟩ => ⟨he, q, #[], by rw [hw, w3q]; rfl⟩)
  fun p cap w => Tryz.slices_Compact_int_empty p cap w
def T5 : Specs := ((T4.withE v2y (x5k R3 z4j y6b x4p)).withE nSort (fRow Yi)).withE x4r (fCut Xx v0n)
theorem Kq : Zu prog T5 := y3u (y3u (y3u T4_ok (by kernel_rfl) w0a) (by kernel_rfl) x9z) (by kernel_rfl) x2w
end Go.Am
namespace Go.Am
open Go.Proofs.Tryz
open Go.Proofs
-- h2: index into an array (choices [true, true, false, false])
-- h2: index into an array (choices [true, false, true, false, false])
-- h2: index into an array (choices [true, false, false, true, true, false, false])
-- h2: index into an array (choices [true, false, false, true, false, false, false])
-- h2: index into an array (choices [true, false, false, false, false, false])
inductive spmS where
 | h0 (v8 : Int)
 | h1 (v3 : List R3) (v17 : Int)
 | h2 (v5 : List R3) (v6 : Int) (v7 : Int) (aA : Int) (cG : Int) (aB : Int) (aC : Bool) (aE : List R2)
def spmC (l0 : List R2) : spmS → Cfg
 | .h0 v8 => ⟨⟨19, 0, true⟩, none, (Zg prog 195 [1, 0, 1, 0, 0] 0), none, (Zy prog 3), ⟨Yq [(0, (.dat l0.length (Zz l0))), (1, (.fn 188 [])), (7, (ii (l0.length : Int))), (8, (ii v8))], Va [] 0, 0, [], true⟩, [⟨⟨9, 0, true⟩, (Vu prog 187 [1, 0] 2), (Zg prog 187 [1, 0] 1), none, (Zy prog 3), Yq [(5, (.dat l0.length (Zz l0))), (6, (.fn 188 []))]⟩, ⟨⟨11, 0, true⟩, (Vu prog 174 [1, 1, 0, 0] 1), (Zg prog 174 [1, 1, 0, 0] 1), none, (Zy prog 77), Yq [(0, (.dat l0.length (Zz l0))), (7, (.dat l0.length (Zz l0)))]⟩], .leaf⟩
 | .h1 v3 v17 => ⟨⟨38, 0, true⟩, none, (Zg prog 185 [1, 1, 0, 1, 0, 0, 1, 1, 0, 0, 1, 1, 0, 0] 0), none, (Zy prog 15), ⟨Yq [(3, (.sla 7 3 0 v3.length (.un 3))), (4, (ii 0)), (8, (.sl 0 0 2 (.un 1))), (9, (ii 2)), (10, (ii 0)), (15, (.dat l0.length (Zz l0))), (16, (ii (l0.length : Int))), (17, (ii v17))], Va [⟨[(.dat l0.length (Zz l0)), .nils], 158, none⟩, ⟨[(.fn 189 [])], 198, none⟩, ⟨[(ii 0), (ii 0)], 235, none⟩, ⟨[.nils], 158, none⟩, ⟨[(ii 0)], 3, none⟩, ⟨[(.bool false)], 4, none⟩, ⟨[(.fn 184 [(.ptr 5 0), (.ptr 4 0), (.ptr 3 0)])], 236, none⟩, ⟨Yg v3.length (Zz v3), 240, some ⟨3, v3.length, (Zz v3)⟩⟩] 0, 8, [], true⟩, [⟨⟨42, 0, true⟩, (Vu prog 170 [1, 1, 1, 1, 1, 0, 0] 3), (Zg prog 170 [1, 1, 1, 1, 1, 0, 0] 1), none, (Zy prog 4), Yq [(5, (.ptr 1 0)), (6, .nils), (7, (.ptr 2 0)), (8, (.ptr 3 0)), (9, (.ptr 4 0)), (10, (.ptr 5 0)), (11, (.ptr 6 0)), (16, (.sl 0 0 2 (.un 1)))]⟩, ⟨⟨11, 0, true⟩, (Vu prog 174 [1, 1, 1, 0] 1), (Zg prog 174 [1, 1, 1, 0] 1), none, (Zy prog 77), Yq [(9, (.dat l0.length (Zz l0)))]⟩], .leaf⟩
 | .h2 v5 v6 v7 aA cG aB aC aE => ⟨⟨16, 0, true⟩, none, (Zg prog 197 [1, 0, 0] 0), none, [], ⟨Yq [(0, (.yld 0)), (5, (.sla 7 3 0 v5.length (.un 3))), (6, (ii v6)), (7, (ii v7))], z5f [(1, ⟨[(.fn 189 [])], 198, none⟩), (2, ⟨[(ii aA), (ii cG)], 235, none⟩), (3, ⟨[(ii aB)], 3, none⟩), (4, ⟨[(.bool aC)], 4, none⟩), (5, ⟨[(.fn 184 [(.ptr 4 0), (.ptr 3 0), (.ptr 6 0)])], 236, none⟩), (6, ⟨[(.sla 8 2 0 aE.length (.un 2))], 158, none⟩), (7, ⟨Yg v5.length (Zz v5), 240, some ⟨3, v5.length, (Zz v5)⟩⟩), (8, ⟨Yg aE.length (Zz aE), 110, some ⟨2, aE.length, (Zz aE)⟩⟩)], 9, [], true⟩, [⟨⟨42, 0, true⟩, none, (.inRangeFunc 0 :: (Zg prog 170 [1, 1, 1, 1, 1, 0, 1, 0] 1)), none, (Zy prog 4), Yq [(6, .nils), (8, (.ptr 6 0))]⟩, ⟨⟨11, 0, true⟩, (Vu prog 174 [1, 1, 1, 0] 1), (Zg prog 174 [1, 1, 1, 0] 1), none, (Zy prog 77), Yq [(9, (.dat l0.length (Zz l0)))]⟩], (z5h [(0, ⟨.ready, none, 42, Yq [(5, (.ptr 1 0)), (7, (.ptr 2 0)), (9, (.ptr 3 0)), (10, (.ptr 4 0)), (11, (.ptr 5 0))], [18], (Xf prog 170 [1, 1, 1, 1, 1, 0, 1, 0, 0]), (Xf prog 170 [1, 1, 1, 1, 1, 0, 1, 0, 1])⟩)])⟩
def spmN0 : List (Option (List Nat)) := [some [0, 1, 7, 8], some [5, 6], some [0, 7]]
def spmM0 : List (Option (List Nat)) := []
def x9w : List (Option (List Nat)) := [some [3, 4, 8, 9, 10, 15, 16, 17], some [5, 6, 7, 8, 9, 10, 11, 16], some [9]]
def x9x : List (Option (List Nat)) := []
def z9z : List (Option (List Nat)) := [some [0, 5, 6, 7], some [6, 8], some [9]]
def y0a : List (Option (List Nat)) := [some [5, 7, 9, 10, 11], none, none, none, none, none, none, none, none]
def Vb (l0 : List R2) : spmS → Xa spmS
 | .h0 v8 => (bif (decide (v8 < (l0.length : Int))) then (bif ((decide (0 ≤ v8 ∧ v8 < (l0.length : Int))) && true) then (bif (decide ((rd l0 v8.toNat).a < (rd l0 v8.toNat).b)) then (bif (decide ((rd l0 v8.toNat).a ≥ (-1000000))) then (bif (!(decide ((rd l0 v8.toNat).b ≤ 1000000))) then (bif (decide (v8 ≥ 0)) then (.ret [.nils, (.int .i64 8)]) else (.to (.h1 ([] : List R3) 0))) else (.to (.h0 (IntKind.wrap .i64 (v8 + 1))))) else (bif (decide (v8 ≥ 0)) then (.ret [.nils, (.int .i64 8)]) else (.to (.h1 ([] : List R3) 0)))) else (bif (decide (v8 ≥ 0)) then (.ret [.nils, (.int .i64 8)]) else (.to (.h1 ([] : List R3) 0)))) else .stuck) else (.to (.h1 ([] : List R3) 0)))
 | .h1 v3 v17 => (bif (decide (v17 < (l0.length : Int))) then (bif ((decide (0 ≤ v17 ∧ v17 < (l0.length : Int))) && true) then (bif (Nat.beq 3 3 && ((decide (0 + v3.length = v3.length)) && decide ((v3.length + 2 + 1) * (24 + 1) ≤ Ja))) then (.to (.h1 (v3 ++ [(R3.mk (rd l0 v17.toNat).a 0 1), (R3.mk (rd l0 v17.toNat).b 0 (-1))]) (IntKind.wrap .i64 (v17 + 1)))) else .stuck) else .stuck) else (bif (y6b (cvT v3)) then (bif (decide (v3.length < 4611686018427387904)) then (bif (decide (v3.length = v3.length)) then (.to (.h2 (z4j (cvT v3)) (v3.length : Int) 0 0 0 0 false ([] : List R2))) else .stuck) else .stuck) else .stuck))
 | .h2 v5 v6 v7 aA cG aB aC aE => (bif (decide (v7 < v6)) then (bif ((decide (0 ≤ v7 ∧ v7 < (v5.length : Int))) && true) then (bif (decide ((0 + v7.toNat) < v5.length)) then (bif (!aC) then (bif (decide ((rd v5 (0 + v7.toNat)).b = Int.ofNat 0)) then (.to (.h2 v5 v6 (IntKind.wrap .i64 (v7 + 1)) (IntKind.wrap .i64 (aA + (rd v5 (0 + v7.toNat)).c)) cG (rd v5 (0 + v7.toNat)).a (x5e (decide ((IntKind.wrap .i64 (aA + (rd v5 (0 + v7.toNat)).c)) > 0)) (decide (cG > 0))) aE)) else (bif (decide ((rd v5 (0 + v7.toNat)).b = Int.ofNat 1)) then (.to (.h2 v5 v6 (IntKind.wrap .i64 (v7 + 1)) aA (IntKind.wrap .i64 (cG + (rd v5 (0 + v7.toNat)).c)) (rd v5 (0 + v7.toNat)).a (x5e (decide (aA > 0)) (decide ((IntKind.wrap .i64 (cG + (rd v5 (0 + v7.toNat)).c)) > 0))) aE)) else .stuck)) else (bif (aB == (rd v5 (0 + v7.toNat)).a) then (bif (decide ((rd v5 (0 + v7.toNat)).b = Int.ofNat 0)) then (.to (.h2 v5 v6 (IntKind.wrap .i64 (v7 + 1)) (IntKind.wrap .i64 (aA + (rd v5 (0 + v7.toNat)).c)) cG (rd v5 (0 + v7.toNat)).a (x5e (decide ((IntKind.wrap .i64 (aA + (rd v5 (0 + v7.toNat)).c)) > 0)) (decide (cG > 0))) aE)) else (bif (decide ((rd v5 (0 + v7.toNat)).b = Int.ofNat 1)) then (.to (.h2 v5 v6 (IntKind.wrap .i64 (v7 + 1)) aA (IntKind.wrap .i64 (cG + (rd v5 (0 + v7.toNat)).c)) (rd v5 (0 + v7.toNat)).a (x5e (decide (aA > 0)) (decide ((IntKind.wrap .i64 (cG + (rd v5 (0 + v7.toNat)).c)) > 0))) aE)) else .stuck)) else (bif (decide ((aE.length : Int) > 0)) then (bif ((decide (0 ≤ (IntKind.wrap .i64 ((aE.length : Int) - 1)) ∧ (IntKind.wrap .i64 ((aE.length : Int) - 1)) < (aE.length : Int))) && true) then (bif (decide ((0 + (Int.toNat (IntKind.wrap .i64 ((aE.length : Int) - 1)))) < aE.length)) then (bif ((rd aE (0 + (Int.toNat (IntKind.wrap .i64 ((aE.length : Int) - 1))))).b == aB) then (bif (decide ((rd v5 (0 + v7.toNat)).b = Int.ofNat 0)) then (.to (.h2 v5 v6 (IntKind.wrap .i64 (v7 + 1)) (IntKind.wrap .i64 (aA + (rd v5 (0 + v7.toNat)).c)) cG (rd v5 (0 + v7.toNat)).a (x5e (decide ((IntKind.wrap .i64 (aA + (rd v5 (0 + v7.toNat)).c)) > 0)) (decide (cG > 0))) (aE.set (0 + (Int.toNat (IntKind.wrap .i64 ((aE.length : Int) - 1)))) (R2.mk (rd aE (0 + (Int.toNat (IntKind.wrap .i64 ((aE.length : Int) - 1))))).a (rd v5 (0 + v7.toNat)).a)))) else (bif (decide ((rd v5 (0 + v7.toNat)).b = Int.ofNat 1)) then (.to (.h2 v5 v6 (IntKind.wrap .i64 (v7 + 1)) aA (IntKind.wrap .i64 (cG + (rd v5 (0 + v7.toNat)).c)) (rd v5 (0 + v7.toNat)).a (x5e (decide (aA > 0)) (decide ((IntKind.wrap .i64 (cG + (rd v5 (0 + v7.toNat)).c)) > 0))) (aE.set (0 + (Int.toNat (IntKind.wrap .i64 ((aE.length : Int) - 1)))) (R2.mk (rd aE (0 + (Int.toNat (IntKind.wrap .i64 ((aE.length : Int) - 1))))).a (rd v5 (0 + v7.toNat)).a)))) else .stuck)) else (bif (Nat.beq 2 2 && ((decide (0 + aE.length = aE.length)) && decide ((aE.length + 1 + 1) * (16 + 1) ≤ Ja))) then (bif (decide ((rd v5 (0 + v7.toNat)).b = Int.ofNat 0)) then (.to (.h2 v5 v6 (IntKind.wrap .i64 (v7 + 1)) (IntKind.wrap .i64 (aA + (rd v5 (0 + v7.toNat)).c)) cG (rd v5 (0 + v7.toNat)).a (x5e (decide ((IntKind.wrap .i64 (aA + (rd v5 (0 + v7.toNat)).c)) > 0)) (decide (cG > 0))) (aE ++ [(R2.mk aB (rd v5 (0 + v7.toNat)).a)]))) else (bif (decide ((rd v5 (0 + v7.toNat)).b = Int.ofNat 1)) then (.to (.h2 v5 v6 (IntKind.wrap .i64 (v7 + 1)) aA (IntKind.wrap .i64 (cG + (rd v5 (0 + v7.toNat)).c)) (rd v5 (0 + v7.toNat)).a (x5e (decide (aA > 0)) (decide ((IntKind.wrap .i64 (cG + (rd v5 (0 + v7.toNat)).c)) > 0))) (aE ++ [(R2.mk aB (rd v5 (0 + v7.toNat)).a)]))) else .stuck)) else .stuck)) else .stuck) else .stuck) else (bif (Nat.beq 2 2 && ((decide (0 + aE.length = aE.length)) && decide ((aE.length + 1 + 1) * (16 + 1) ≤ Ja))) then (bif (decide ((rd v5 (0 + v7.toNat)).b = Int.ofNat 0)) then (.to (.h2 v5 v6 (IntKind.wrap .i64 (v7 + 1)) (IntKind.wrap .i64 (aA + (rd v5 (0 + v7.toNat)).c)) cG (rd v5 (0 + v7.toNat)).a (x5e (decide ((IntKind.wrap .i64 (aA + (rd v5 (0 + v7.toNat)).c)) > 0)) (decide (cG > 0))) (aE ++ [(R2.mk aB (rd v5 (0 + v7.toNat)).a)]))) else (bif (decide ((rd v5 (0 + v7.toNat)).b = Int.ofNat 1)) then (.to (.h2 v5 v6 (IntKind.wrap .i64 (v7 + 1)) aA (IntKind.wrap .i64 (cG + (rd v5 (0 + v7.toNat)).c)) (rd v5 (0 + v7.toNat)).a (x5e (decide (aA > 0)) (decide ((IntKind.wrap .i64 (cG + (rd v5 (0 + v7.toNat)).c)) > 0))) (aE ++ [(R2.mk aB (rd v5 (0 + v7.toNat)).a)]))) else .stuck)) else .stuck)))) else .stuck) else .stuck) else (.ret [(.dat aE.length (Zz aE)), (.int .i64 0)]))
def z8p (l0 : List R2) : Xa spmS := (bif (decide ((l0.length : Int) > 400)) then (.ret [.nils, (.int .i64 4)]) else (.to (.h0 0)))
theorem x6e (l0 : List R2) : ∀ s, Xo prog (Zy prog 174) (spmC l0) (spmC l0 s) (Vb l0 s)
 | .h0 v8 => (lb (fun k0 => (lo fun aG => (lb (fun k1 => (lb (fun k2 => (lb (fun k3 => (lb (fun k4 => (lr 11 174 [1, 1, 0, 1, 0, 0] 1 77 [(2, .nils), (3, (ii 8))] (sl Kq 79 [] ⟨[], [], [some [2, 3]], []⟩ ⟨[], [], []⟩ (trs 9 []) (tt k4 (tt k3 (tt k2 (tt k1 (ww aG (tt k0 nn))))))))) (fun k4 => (sl Kq 154 [(240, 3, Zz ([] : List R3))] ⟨[8, 2, 3, 4, 5, 6, 7, 9], [], x9w, x9x⟩ ⟨[(3, .grow 7 3)], [], []⟩ (trs 8 [false, true]) (pp (fl ([] : List R3) nn) (tt k4 (tt k3 (tt k2 (tt k1 (ww aG (tt k0 nn))))))))))) (fun k3 => (sl Kq 69 [] ⟨[], [], spmN0, spmM0⟩ ⟨[], [], []⟩ (trs 7 [false]) (tt k3 (tt k2 (tt k1 (ww aG (tt k0 nn))))))))) (fun k2 => (lb (fun k3 => (lr 11 174 [1, 1, 0, 1, 0, 0] 1 77 [(2, .nils), (3, (ii 8))] (sl Kq 79 [] ⟨[], [], [some [2, 3]], []⟩ ⟨[], [], []⟩ (trs 4 [false, false, false, true, true]) (tt k3 (tt k2 (tt k1 (ww aG (tt k0 nn)))))))) (fun k3 => (sl Kq 154 [(240, 3, Zz ([] : List R3))] ⟨[8, 2, 3, 4, 5, 6, 7, 9], [], x9w, x9x⟩ ⟨[(3, .grow 7 3)], [], []⟩ (trs 4 [false, false, false, true, false, true]) (pp (fl ([] : List R3) nn) (tt k3 (tt k2 (tt k1 (ww aG (tt k0 nn)))))))))))) (fun k1 => (lb (fun k2 => (lr 11 174 [1, 1, 0, 1, 0, 0] 1 77 [(2, .nils), (3, (ii 8))] (sl Kq 79 [] ⟨[], [], [some [2, 3]], []⟩ ⟨[], [], []⟩ [true, false, false, false, false, false, false, true, true] (tt k2 (tt k1 (ww aG (tt k0 nn))))))) (fun k2 => (sl Kq 154 [(240, 3, Zz ([] : List R3))] ⟨[8, 2, 3, 4, 5, 6, 7, 9], [], x9w, x9x⟩ ⟨[(3, .grow 7 3)], [], []⟩ [true, false, false, false, false, false, false, true, false, true] (pp (fl ([] : List R3) nn) (tt k2 (tt k1 (ww aG (tt k0 nn)))))))))))) (fun k0 => (sl Kq 98 [(240, 3, Zz ([] : List R3))] ⟨[6, 0, 1, 2, 3, 4, 5, 7], [], x9w, x9x⟩ ⟨[(3, .grow 7 3)], [], []⟩ [false, false, true] (pp (fl ([] : List R3) nn) (tt k0 nn)))))
 | .h1 v3 v17 => (lb (fun k0 => (lo fun o0 => (lo fun o1 => (sl Kq 36 [] ⟨[0, 1, 2, 3, 4, 5, 6, 10], [], x9w, x9x⟩ ⟨[(3, .len (v3 ++ [(R3.mk (rd l0 (tn v17)).a 0 1), (R3.mk (rd l0 (tn v17)).b 0 (-1))]).length)], (kpB 7 [.rowed 3 (v3 ++ [(R3.mk (rd l0 (tn v17)).a 0 1), (R3.mk (rd l0 (tn v17)).b 0 (-1))]).length (Zz (v3 ++ [(R3.mk (rd l0 (tn v17)).a 0 1), (R3.mk (rd l0 (tn v17)).b 0 (-1))]))]), []⟩ [true] (pp (xL (v3.length + 2) (v3 ++ [(R3.mk (rd l0 (tn v17)).a 0 1), (R3.mk (rd l0 (tn v17)).b 0 (-1))]).length) (pp (xL (v3.length + 2) (v3 ++ [(R3.mk (rd l0 (tn v17)).a 0 1), (R3.mk (rd l0 (tn v17)).b 0 (-1))]).length) (pp (xS (v3.length + 2) (Ze (Zz v3) 0 v3.length 3 [(ii (rd l0 (tn v17)).a), (ii 0), (ii 1), (ii (rd l0 (tn v17)).b), (ii 0), (ii (-1))]) (Zz (v3 ++ [(R3.mk (rd l0 (tn v17)).a 0 1), (R3.mk (rd l0 (tn v17)).b 0 (-1))]))) (pp (pp (xF (Ze (Zz v3) 0 v3.length 3 [(ii (rd l0 (tn v17)).a), (ii 0), (ii 1), (ii (rd l0 (tn v17)).b), (ii 0), (ii (-1))])) nn) (ww o1 (ww o0 (tt k0 nn))))))))))) (fun k0 => (lo fun o0 => (lo fun o1 => (lo fun o2 => (sl Kq 92 [(110, 2, Zz ([] : List R2))] ⟨[9, 1, 2, 4, 5, 6, 3, 7, 10], [], z9z, y0a⟩ ⟨[(5, .len (z4j (cvT v3)).length)], (kpB 6 [.cells [.grow 8 2], .rowed 3 (z4j (cvT v3)).length (Zz (z4j (cvT v3))), .keep]), []⟩ [false, true, false, false] (pp (xL v3.length (z4j (cvT v3)).length (by first | exact y7o _ | exact Uy rfl)) (pp (xL v3.length (z4j (cvT v3)).length (by first | exact y7o _ | exact Uy rfl)) (pp (xS v3.length (Zz (z4j (cvT v3))) (Zz (z4j (cvT v3)))) (pp (fl (z4j (cvT v3)) (fl ([] : List R2) nn)) (pp (pp (xG (Nat.beq 3 3)) (pp (xG (Nat.beq 3 3)) (pp (xG (Nat.beq 0 0)) (pp (pp (xG (decide (v3.length = v3.length))) (pp (xr v3) (xG (decide (v3.length < 4611686018427387904))))) (xG (y6b (cvT v3))))))) (tt k0 nn))))))))))))
 | .h2 v5 v6 v7 aA cG aB aC aE => (lb (fun k0 => (lo fun aG => (lo fun bI => (lb (fun k1 => (lb (fun k2 => (sl Kq 62 [] ⟨(List.range 9), [], z9z, y0a⟩ ⟨[], [], []⟩ (trs 5 [false, false, false]) (pp (fl v5 (fl aE nn)) (ww k2 (tt k1 (ww bI (ww aG (tt k0 nn)))))))) (fun k2 => (lb (fun k3 => (sl Kq 62 [] ⟨(List.range 9), [], z9z, y0a⟩ ⟨[], [], []⟩ (trs 6 [false, true, false, false]) (pp (fl v5 (fl aE nn)) (ww k3 (tt k1 (ww bI (ww aG (tt k0 nn)))))))) (fun k3 => trivial))))) (fun k1 => (lb (fun k2 => (lb (fun k3 => (sl Kq 62 [] ⟨(List.range 9), [], z9z, y0a⟩ ⟨[], [], []⟩ [true, false, false, false, true, false, false, false] (pp (fl v5 (fl aE nn)) (ww k3 (tt k2 (tt k1 (ww bI (ww aG (tt k0 nn))))))))) (fun k3 => (lb (fun k4 => (sl Kq 62 [] ⟨(List.range 9), [], z9z, y0a⟩ ⟨[], [], []⟩ [true, false, false, false, true, true, false, true, false, false] (pp (fl v5 (fl aE nn)) (ww k4 (tt k2 (tt k1 (ww bI (ww aG (tt k0 nn))))))))) (fun k4 => trivial))))) (fun k2 => (lb (fun k3 => (lo fun dD => (lo fun eA => (lb (fun k4 => (lb (fun k5 => (sl Kq 81 [] ⟨(List.range 9), [], z9z, y0a⟩ ⟨[], (kpB 6 [.cells [.len (aE.set (0 + (tn (wr ((aE.length : Int) - 1)))) (R2.mk (rd aE (0 + (tn (wr ((aE.length : Int) - 1))))).a (rd v5 (0 + (tn v7))).a)).length], .keep, .rowed 2 (aE.set (0 + (tn (wr ((aE.length : Int) - 1)))) (R2.mk (rd aE (0 + (tn (wr ((aE.length : Int) - 1))))).a (rd v5 (0 + (tn v7))).a)).length (Zz (aE.set (0 + (tn (wr ((aE.length : Int) - 1)))) (R2.mk (rd aE (0 + (tn (wr ((aE.length : Int) - 1))))).a (rd v5 (0 + (tn v7))).a)))]), []⟩ [true, false, false, false, false, true, true, true, true, true, true, true, true, true, false, false, false] (pp (xL aE.length (aE.set (0 + (tn (wr ((aE.length : Int) - 1)))) (R2.mk (rd aE (0 + (tn (wr ((aE.length : Int) - 1))))).a (rd v5 (0 + (tn v7))).a)).length) (pp (xL aE.length (aE.set (0 + (tn (wr ((aE.length : Int) - 1)))) (R2.mk (rd aE (0 + (tn (wr ((aE.length : Int) - 1))))).a (rd v5 (0 + (tn v7))).a)).length) (pp (xS aE.length (Xd (Zz aE) (0 + (tn (wr ((aE.length : Int) - 1)))) 1 [(ii (rd v5 (0 + (tn v7))).a)]) (Zz (aE.set (0 + (tn (wr ((aE.length : Int) - 1)))) (R2.mk (rd aE (0 + (tn (wr ((aE.length : Int) - 1))))).a (rd v5 (0 + (tn v7))).a)))) (pp (fl v5 (pp (xF (Xd (Zz aE) (0 + (tn (wr ((aE.length : Int) - 1)))) 1 [(ii (rd v5 (0 + (tn v7))).a)])) nn)) (ww k5 (ww eA (ww dD (tt k4 (ww eA (ww dD (tt k3 (tt k2 (tt k1 (ww bI (ww aG (tt k0 nn)))))))))))))))))) (fun k5 => (lb (fun k6 => (sl Kq 81 [] ⟨(List.range 9), [], z9z, y0a⟩ ⟨[], (kpB 6 [.cells [.len (aE.set (0 + (tn (wr ((aE.length : Int) - 1)))) (R2.mk (rd aE (0 + (tn (wr ((aE.length : Int) - 1))))).a (rd v5 (0 + (tn v7))).a)).length], .keep, .rowed 2 (aE.set (0 + (tn (wr ((aE.length : Int) - 1)))) (R2.mk (rd aE (0 + (tn (wr ((aE.length : Int) - 1))))).a (rd v5 (0 + (tn v7))).a)).length (Zz (aE.set (0 + (tn (wr ((aE.length : Int) - 1)))) (R2.mk (rd aE (0 + (tn (wr ((aE.length : Int) - 1))))).a (rd v5 (0 + (tn v7))).a)))]), []⟩ [true, false, false, false, false, true, true, true, true, true, true, true, true, true, true, false, true, false, false] (pp (xL aE.length (aE.set (0 + (tn (wr ((aE.length : Int) - 1)))) (R2.mk (rd aE (0 + (tn (wr ((aE.length : Int) - 1))))).a (rd v5 (0 + (tn v7))).a)).length) (pp (xL aE.length (aE.set (0 + (tn (wr ((aE.length : Int) - 1)))) (R2.mk (rd aE (0 + (tn (wr ((aE.length : Int) - 1))))).a (rd v5 (0 + (tn v7))).a)).length) (pp (xS aE.length (Xd (Zz aE) (0 + (tn (wr ((aE.length : Int) - 1)))) 1 [(ii (rd v5 (0 + (tn v7))).a)]) (Zz (aE.set (0 + (tn (wr ((aE.length : Int) - 1)))) (R2.mk (rd aE (0 + (tn (wr ((aE.length : Int) - 1))))).a (rd v5 (0 + (tn v7))).a)))) (pp (fl v5 (pp (xF (Xd (Zz aE) (0 + (tn (wr ((aE.length : Int) - 1)))) 1 [(ii (rd v5 (0 + (tn v7))).a)])) nn)) (ww k6 (ww eA (ww dD (tt k4 (ww eA (ww dD (tt k3 (tt k2 (tt k1 (ww bI (ww aG (tt k0 nn)))))))))))))))))) (fun k6 => trivial))))) (fun k4 => (lo fun eB => (lb (fun k5 => (sl Kq 81 [] ⟨[0, 1, 2, 3, 4, 5, 6, 7, 12], [], z9z, y0a⟩ ⟨[], (kpB 6 [.cells [.len (aE ++ [(R2.mk aB (rd v5 (0 + (tn v7))).a)]).length], .keep, .rowed 2 (aE ++ [(R2.mk aB (rd v5 (0 + (tn v7))).a)]).length (Zz (aE ++ [(R2.mk aB (rd v5 (0 + (tn v7))).a)]))]), []⟩ [true, false, false, false, false, true, true, true, true, true, true, true, true, false, false, false, false] (pp (xL (aE.length + 1) (aE ++ [(R2.mk aB (rd v5 (0 + (tn v7))).a)]).length) (pp (xL (aE.length + 1) (aE ++ [(R2.mk aB (rd v5 (0 + (tn v7))).a)]).length) (pp (xS (aE.length + 1) (Ze (Zz aE) 0 aE.length 2 [(ii aB), (ii (rd v5 (0 + (tn v7))).a)]) (Zz (aE ++ [(R2.mk aB (rd v5 (0 + (tn v7))).a)]))) (pp (fl v5 (pp (xF (Ze (Zz aE) 0 aE.length 2 [(ii aB), (ii (rd v5 (0 + (tn v7))).a)])) nn)) (ww k5 (ww eB (tt k4 (ww eA (ww dD (tt k3 (tt k2 (tt k1 (ww bI (ww aG (tt k0 nn))))))))))))))))) (fun k5 => (lb (fun k6 => (sl Kq 81 [] ⟨[0, 1, 2, 3, 4, 5, 6, 7, 12], [], z9z, y0a⟩ ⟨[], (kpB 6 [.cells [.len (aE ++ [(R2.mk aB (rd v5 (0 + (tn v7))).a)]).length], .keep, .rowed 2 (aE ++ [(R2.mk aB (rd v5 (0 + (tn v7))).a)]).length (Zz (aE ++ [(R2.mk aB (rd v5 (0 + (tn v7))).a)]))]), []⟩ [true, false, false, false, false, true, true, true, true, true, true, true, true, false, true, false, true, false, false] (pp (xL (aE.length + 1) (aE ++ [(R2.mk aB (rd v5 (0 + (tn v7))).a)]).length) (pp (xL (aE.length + 1) (aE ++ [(R2.mk aB (rd v5 (0 + (tn v7))).a)]).length) (pp (xS (aE.length + 1) (Ze (Zz aE) 0 aE.length 2 [(ii aB), (ii (rd v5 (0 + (tn v7))).a)]) (Zz (aE ++ [(R2.mk aB (rd v5 (0 + (tn v7))).a)]))) (pp (fl v5 (pp (xF (Ze (Zz aE) 0 aE.length 2 [(ii aB), (ii (rd v5 (0 + (tn v7))).a)])) nn)) (ww k6 (ww eB (tt k4 (ww eA (ww dD (tt k3 (tt k2 (tt k1 (ww bI (ww aG (tt k0 nn))))))))))))))))) (fun k6 => trivial)))))))))) (fun k3 => (lo fun dD => (lb (fun k4 => (sl Kq 81 [] ⟨[0, 1, 2, 3, 4, 5, 6, 7, 12], [], z9z, y0a⟩ ⟨[], (kpB 6 [.cells [.len (aE ++ [(R2.mk aB (rd v5 (0 + (tn v7))).a)]).length], .keep, .rowed 2 (aE ++ [(R2.mk aB (rd v5 (0 + (tn v7))).a)]).length (Zz (aE ++ [(R2.mk aB (rd v5 (0 + (tn v7))).a)]))]), []⟩ [true, false, false, false, false, false, false, false, false, false, false, false, false, false, false, false, false] (pp (xL (aE.length + 1) (aE ++ [(R2.mk aB (rd v5 (0 + (tn v7))).a)]).length) (pp (xL (aE.length + 1) (aE ++ [(R2.mk aB (rd v5 (0 + (tn v7))).a)]).length) (pp (xS (aE.length + 1) (Ze (Zz aE) 0 aE.length 2 [(ii aB), (ii (rd v5 (0 + (tn v7))).a)]) (Zz (aE ++ [(R2.mk aB (rd v5 (0 + (tn v7))).a)]))) (pp (fl v5 (pp (xF (Ze (Zz aE) 0 aE.length 2 [(ii aB), (ii (rd v5 (0 + (tn v7))).a)])) nn)) (ww k4 (ww dD (tt k3 (tt k2 (tt k1 (ww bI (ww aG (tt k0 nn)))))))))))))) (fun k4 => (lb (fun k5 => (sl Kq 81 [] ⟨[0, 1, 2, 3, 4, 5, 6, 7, 12], [], z9z, y0a⟩ ⟨[], (kpB 6 [.cells [.len (aE ++ [(R2.mk aB (rd v5 (0 + (tn v7))).a)]).length], .keep, .rowed 2 (aE ++ [(R2.mk aB (rd v5 (0 + (tn v7))).a)]).length (Zz (aE ++ [(R2.mk aB (rd v5 (0 + (tn v7))).a)]))]), []⟩ [true, false, false, false, false, false, false, false, false, false, false, false, false, false, true, false, true, false, false] (pp (xL (aE.length + 1) (aE ++ [(R2.mk aB (rd v5 (0 + (tn v7))).a)]).length) (pp (xL (aE.length + 1) (aE ++ [(R2.mk aB (rd v5 (0 + (tn v7))).a)]).length) (pp (xS (aE.length + 1) (Ze (Zz aE) 0 aE.length 2 [(ii aB), (ii (rd v5 (0 + (tn v7))).a)]) (Zz (aE ++ [(R2.mk aB (rd v5 (0 + (tn v7))).a)]))) (pp (fl v5 (pp (xF (Ze (Zz aE) 0 aE.length 2 [(ii aB), (ii (rd v5 (0 + (tn v7))).a)])) nn)) (ww k5 (ww dD (tt k3 (tt k2 (tt k1 (ww bI (ww aG (tt k0 nn)))))))))))))) (fun k5 => trivial)))))))))))))) (fun k0 => (lr 11 3 [1, 1, 1, 1, 1, 1, 0] 1 77 [(2, (.dat aE.length (Zz aE))), (3, (ii 0))] (sl Kq 19 [] ⟨[], [8], [some [2, 3]], []⟩ ⟨[(2, .frz aE.length aE.length (Zz aE) (Zz aE))], [], []⟩ [false] (pp (xZ (z5k 2 2 0 aE.length aE.length (Zz aE)) aE.length (Zz aE)) (pp (xL aE.length aE.length) (pp (xS aE.length (Zz aE) (Zz aE)) (pp (fl aE nn) (tt k0 nn)))))))))
theorem y9l (l0 : List R2) : Xo prog (Zy prog 174) (spmC l0) (Zc prog 174 [(.dat l0.length (Zz l0))] true []) (z8p l0) := (lb (fun k0 => (lr 11 174 [1, 0, 1, 0, 0] 1 77 [(2, .nils), (3, (ii 4))] (sl Kq 18 [] ⟨[], [], [some [2, 3]], []⟩ ⟨[], [], []⟩ [true] (tt k0 nn)))) (fun k0 => (sl Kq 41 [] ⟨[], [], spmN0, spmM0⟩ ⟨[], [], []⟩ [false] (tt k0 nn))))
theorem w5t (l0 : List R2) (n : Nat) (vs : List AVal) (h : Yx (Vb l0) n (z8p l0) = .ret vs) : Jc prog (Zy prog 174) (Zc prog 174 [(.dat l0.length (Zz l0))] true []) vs := by
 have := Zn (x6e l0) n _ (y9l l0)
 rwa [h] at this
end Go.Am
namespace Go.Am
open Go.Proofs
def z8a (s : R2) : Bool := decide (s.a < s.b) && (decide (s.a ≥ -1000000) && decide (s.b ≤ 1000000))
def Jy (l : List R2) : List R3 := l.flatMap fun s => [⟨s.a, 0, 1⟩, ⟨s.b, 0, -1⟩]
def Qh (out : List R2) (last : Int) (inn : Bool) (at' : Int) : List R2 :=
 bif !inn then out else bif last == at' then out else
 bif decide (0 < out.length) && ((rd out (out.length - 1)).b == last) then out.set (out.length - 1) ⟨(rd out (out.length - 1)).a, at'⟩ else out ++ [⟨last, at'⟩]
def swF : List R3 → Int → Int → Bool → List R2 → List R2
 | [], _, _, _, out => out
 | e :: r, o, last, inn, out => swF r (o + e.c) e.a (decide (o + e.c > 0)) (Qh out last inn e.a)
def swV (l : List R2) : List R2 := swF (z4j (Jy l)) 0 0 false []
def Xg (l : List R2) : List R2 := bif decide (400 < l.length) then [] else bif l.all z8a then swV l else []
def v1d (l : List R2) : Int := bif decide (400 < l.length) then 4 else bif l.all z8a then 0 else 8
def z9y (l : List R2) : Bool := true
def y6h (l : List R2) : List AVal := bif decide (400 < l.length) then [.nils, .int .i64 4] else bif l.all z8a then [.dat (swV l).length (Zz (swV l)), .int .i64 0] else [.nils, .int .i64 8]
theorem z2l (l : List R2) : (Jy l).length = 2 * l.length := by
 induction l with
 | nil => rfl
 | cons r l ih => show (_ :: _ :: Jy l).length = _; simp only [List.length_cons, ih]; omega
theorem z6b (out : List R2) (last : Int) (inn : Bool) (a : Int) : (Qh out last inn a).length ≤ out.length + 1 := by
 unfold Qh
 cases inn <;> simp only [Bool.not_true, Bool.not_false, cond_true, cond_false]
 ·omega
 ·cases (last == a) <;> simp only [cond_true, cond_false]
  ·cases (decide (0 < out.length) && ((rd out (out.length - 1)).b == last)) <;> simp
  ·omega
theorem z8o (e : R3) (r : List R3) (o last : Int) (inn : Bool) (out : List R2) : swF (e :: r) o last inn out = swF r (o + e.c) e.a (decide (o + e.c > 0)) (Qh out last inn e.a) := rfl
theorem v7e {a : Int} (k : Nat) (h : a = (k : Int)) : decide (a = Int.ofNat k) = true := decide_eq_true h
section
variable (l : List R2) (hl : l.length ≤ 400)
include hl
theorem v1a (L : List R3) (hL : L.length ≤ 800) (hE : ∀ i, i < L.length → (rd L i).b = 0 ∧ ((rd L i).c = 1 ∨ (rd L i).c = -1)) : ∀ (k i : Nat) (o last : Int) (inn : Bool) (out : List R2), i + k = L.length → -(i : Int) ≤ o → o ≤ i → out.length ≤ i →
  ∃ n, Yx (Vb l) n (.to (.h2 L (L.length : Int) (i : Int) o 0 last inn out)) = .ret [.dat (swF (L.drop i) o last inn out).length (Zz (swF (L.drop i) o last inn out)), .int .i64 0]
 | 0, i, o, last, inn, out, h, ho1, ho2, hout => by
  have _uhl := hl
  refine ⟨1, ?_⟩
  rw [Zv, List.drop_eq_nil_of_le (by omega)]
  simp (disch := omega) only [Vb, Zt, cond_false, Zm, swF]
 | k + 1, i, o, last, inn, out, h, ho1, ho2, hout => by
  obtain ⟨hb, hc⟩ := hE i (by omega)
  have hcl := z6b out last inn (rd L i).a
  obtain ⟨n, hn⟩ := v1a L hL hE k (i + 1) (o + (rd L i).c) (rd L i).a (decide (o + (rd L i).c > 0)) (Qh out last inn (rd L i).a) (by omega) (by rcases hc with hc | hc <;> omega) (by rcases hc with hc | hc <;> omega) (by omega)
  refine ⟨n + 1, ?_⟩
  rw [Ye (show i < L.length by omega), Zv]
  have hf : ∀ b, x5e b (decide ((0 : Int) > 0)) = b := fun b => rfl
  have hw : IntKind.wrap .i64 (o + (rd L i).c) = o + (rd L i).c := Zj (by rcases hc with hc | hc <;> omega)
  rw [z8o]
  have hf' : ∀ b, x5e b false = b := fun b => rfl
  have hz := v7e 0 hb
  unfold Qh at hn ⊢
  cases inn with
  | false =>
   simp only [Bool.not_false, cond_true] at hn ⊢
   simp (disch := omega) only [Vb, Bool.not_false, hz, hw, hf, hf', Zo, Zr, Yu, Zj, Zx, Zk, Nat.zero_add, Bool.and_true, cond_true]
   exact hn
  | true =>
   simp only [Bool.not_true, cond_false] at hn ⊢
   rcases Yy (last == (rd L i).a) with q | q
   ·rw [q] at hn ⊢
    simp only [cond_true] at hn ⊢
    simp (disch := omega) only [Vb, Bool.not_true, q, hz, hw, hf, hf', Zo, Zr, Yu, Zj, Zx, Zk, Nat.zero_add, Bool.and_true, cond_true, cond_false]
    exact hn
   ·rw [q] at hn ⊢
    simp only [cond_false] at hn ⊢
    by_cases h0 : 0 < out.length
    ·rw [decide_eq_true h0, Bool.true_and] at hn ⊢
     rcases Yy ((rd out (out.length - 1)).b == last) with q2 | q2
     ·rw [q2] at hn ⊢
      simp only [cond_true] at hn ⊢
      simp (disch := omega) only [Vb, Bool.not_true, q, q2, hz, hw, hf, hf', Zo, Yn, Zr, Yu, Zj, Zx, Zk, Zi, Nat.zero_add, Bool.and_true, cond_true, cond_false]
      exact hn
     ·rw [q2] at hn ⊢
      simp only [cond_false] at hn ⊢
      simp (disch := omega) only [Vb, Bool.not_true, q, q2, hz, hw, hf, hf', Zo, Yn, Zr, Yu, Yk, Zf, Ya, decide_true, Zj, Zx, Zk, Zi, Nat.zero_add, Bool.and_true, Bool.true_and, cond_true, cond_false]
      exact hn
    ·rw [decide_eq_false h0, Bool.false_and] at hn ⊢
     simp only [cond_false] at hn ⊢
     simp (disch := omega) only [Vb, Bool.not_true, q, hz, hw, hf, hf', Zo, Xw, Zr, Yu, Yk, Zf, Ya, decide_true, Zj, Zx, Zk, Nat.zero_add, Bool.and_true, Bool.true_and, cond_true, cond_false]
     exact hn
theorem w4f (h : l.all z8a = true) : ∀ e ∈ Jy l, bnd3 e = true ∧ e.b = 0 ∧ (e.c = 1 ∨ e.c = -1) := by
 have _uhl := hl
 intro e he
 obtain ⟨s, hs, h1⟩ := List.mem_flatMap.1 he
 have hv := List.all_eq_true.1 h s hs
 simp only [z8a, Bool.and_eq_true, decide_eq_true_eq] at hv
 simp only [List.mem_cons, List.not_mem_nil, or_false] at h1
 rcases h1 with rfl | rfl
 ·exact ⟨decide_eq_true (by simp only; omega), rfl, .inl rfl⟩
 ·exact ⟨decide_eq_true (by simp only; omega), rfl, .inr rfl⟩
theorem v1b (hv : l.all z8a = true) : ∀ (k i : Nat) (acc : List R3), i + k = l.length → acc = Jy (l.take i) → ∃ n, Yx (Vb l) n (.to (.h1 acc (i : Int))) = .ret [.dat (swV l).length (Zz (swV l)), .int .i64 0]
 | 0, i, acc, h, ha => by
  have e : acc = Jy l := by rw [ha, List.take_of_length_le (by omega)]
  subst e
  have hle := z2l l
  have fI := w4f l hl hv
  have hb : y6b (Jy l) = true := List.all_eq_true.2 fun e he => (fI e he).1
  obtain ⟨hp, _⟩ := Qt (Jy l) hb
  have hpl := hp.length_eq
  obtain ⟨n, hn⟩ := v1a l hl (z4j (Jy l)) (by omega) (fun i hi => by
   rw [Xq hi]
   exact (fI _ (hp.mem_iff.1 (List.getElem_mem hi))).2) (z4j (Jy l)).length 0 0 0 false [] (Nat.zero_add _) (by omega) (by omega) (Nat.zero_le _)
  refine ⟨n + 1, ?_⟩
  rw [Zv]
  simp (disch := omega) only [Vb, Zb, Zq, hb, Zt, Yu, Yk, decide_true, cond_true, cond_false]
  rw [← hpl]
  simp only [z1c, List.drop_zero] at hn
  exact hn
 | k + 1, i, acc, h, ha => by
  have hle := z2l (l.take i)
  have fV : acc.length ≤ 2 * i := by rw [ha, hle]; simp; omega
  obtain ⟨n, hn⟩ := v1b hv k (i + 1) (acc ++ Jy [rd l i]) (by omega) (by
   rw [ha, List.take_add_one]
   have : l[i]? = some (rd l i) := by rw [Xq (show i < l.length by omega)]; exact List.getElem?_eq_getElem _
   rw [this]
   simp [Jy])
  refine ⟨n + 1, ?_⟩
  rw [Zv]
  simp (disch := omega) only [Vb, Zo, Zr, Yz, Yk, Zf, Ya, decide_true, Zj, Zx, Zk, Nat.zero_add, Bool.and_true, Bool.true_and, cond_true]
  exact hn
theorem v1c : ∀ (k i : Nat), i + k = l.length → (∀ s ∈ l.take i, z8a s = true) → ∃ n, Yx (Vb l) n (.to (.h0 (i : Int))) = .ret (bif l.all z8a then [.dat (swV l).length (Zz (swV l)), .int .i64 0] else [.nils, .int .i64 8])
 | 0, i, h, ht => by
  have hv : l.all z8a = true := List.all_eq_true.2 fun s hs => ht s (by rw [List.take_of_length_le (by omega)]; exact hs)
  obtain ⟨n, hn⟩ := v1b l hl hv l.length 0 [] (Nat.zero_add _) rfl
  refine ⟨n + 1, ?_⟩
  rw [Zv, hv, cond_true]
  simp (disch := omega) only [Vb, Zt, cond_false]
  exact hn
 | k + 1, i, h, ht => by
  have hi : i < l.length := by omega
  rcases Yy (z8a (rd l i)) with q | q
  ·obtain ⟨n, hn⟩ := v1c k (i + 1) (by omega) (fun s hs => by
    rw [List.take_add_one] at hs
    have e : l[i]? = some (rd l i) := by rw [Xq hi]; exact List.getElem?_eq_getElem _
    rw [e] at hs
    simp only [Option.toList_some, List.mem_append, List.mem_singleton] at hs
    rcases hs with hs | rfl
    ·exact ht s hs
    ·exact q)
   refine ⟨n + 1, ?_⟩
   rw [Zv]
   simp only [z8a, Bool.and_eq_true, decide_eq_true_eq] at q
   simp (disch := omega) only [Vb, Zo, Xp, x2p, Zr, Zj, Zx, Zk, Bool.not_true, Bool.and_true, cond_true, cond_false]
   exact hn
  ·have hv : l.all z8a = false := Bool.eq_false_iff.2 fun e => by
    have := List.all_eq_true.1 e (rd l i) (by rw [Xq hi]; exact List.getElem_mem hi)
    rw [this] at q; cases q
   refine ⟨1, ?_⟩
   rw [Zv, hv, cond_false]
   unfold z8a at q
   rcases Yy (decide ((rd l i).a < (rd l i).b)) with q1 | q1 <;> rcases Yy (decide ((rd l i).a ≥ -1000000)) with q2 | q2 <;> rcases Yy (decide ((rd l i).b ≤ 1000000)) with q3 | q3 <;>
    rw [q1, q2, q3] at q <;> first
    | (exfalso; revert q; decide)
    | simp (disch := omega) only [Vb, q1, q2, q3, Zo, x2p, Zr, Zj, Zx, Zk, Bool.not_true, Bool.not_false, Bool.and_true, cond_true, cond_false, Zm]
end
theorem v5g (l : List R2) : ∃ n, Yx (Vb l) n (z8p l) = .ret (y6h l) := by
 unfold z8p y6h
 by_cases h : 400 < l.length
 ·refine ⟨0, ?_⟩
  rw [decide_eq_true h, Yn (show (l.length : Int) > 400 by omega)]; rfl
 ·obtain ⟨n, hn⟩ := v1c l (by omega) l.length 0 (Nat.zero_add _) (fun s hs => by simp at hs)
  refine ⟨n, ?_⟩
  rw [decide_eq_false h, Xw (show ¬ (l.length : Int) > 400 by omega), cond_false, cond_false]
  exact hn
end Go.Am
namespace Go.Am
open Go.Proofs.Tryz
open Go.Proofs
def fSpm : List AVal → Option (AVal × Bool)
 | [a1] => match asL R2 a1 with
  | some (L1, g1, n1) => some (.tup [.dat (Xg L1).length (Zz (Xg L1)), .int .i64 (v1d L1)], isT R2 n1 g1 && z9y L1)
  | _ => none
 | _ => none
theorem v8m {S : Specs} (hS : Zu prog S) : Zu prog (S.with y7j fSpm) := by
 refine v8k hS (by kernel_rfl) fun args v h => ?_
 unfold fSpm at h
 split at h
 ·rename_i a1
  split at h
  ·rename_i L1 g1 n1 e1
   simp only [Option.some.injEq, Prod.mk.injEq, Bool.and_eq_true] at h
   obtain ⟨rfl, ho1, hw⟩ := h
   obtain ⟨N, hN⟩ := v5g L1
   refine ⟨_, y6h L1, (.cons (asL_le e1 ho1) .nil), ?_, w5t L1 N _ hN, 3, ?_⟩
   ·unfold Xg v1d y6h
    cases decide (400 < L1.length) <;> simp only [cond_true, cond_false]
    ·cases L1.all z8a <;> simp only [cond_true, cond_false]
     ·exact fun ρ u hu => z7m (.cons (z2f R2) (RLe.refl _)) ρ u hu
     ·exact fun ρ u hu => hu
    ·exact fun ρ u hu => z7m (.cons (z2f R2) (RLe.refl _)) ρ u hu
   ·unfold y6h
    cases decide (400 < L1.length) <;> simp only [cond_true, cond_false]
    ·cases L1.all z8a <;> rfl
    ·rfl
  ·cases h
 ·cases h
def T6 : Specs := T5.with y7j fSpm
theorem Ut : Zu prog T6 := v8m Kq
end Go.Am
namespace Go.Am
open Go.Proofs Go.Sort Go.Shelf Go.RowKit Go.Lib
theorem x3c {γ : Type} (a b : Bool) (x y : γ) : (bif a && b then x else y) = bif a then (bif b then x else y) else y := by cases a <;> rfl
theorem y5m {γ : Type} (a : Bool) (x y : γ) : (bif !a then x else y) = bif a then y else x := by cases a <;> rfl
structure Dim (α β : Type) where
 lo : α → Int
 hi : α → Int
 pr : α → β
 put : Int → Int → β → α
 ext : Int → α → α
 mak : List β → List β
 same : List β → List β → Bool
structure Sw (α β : Type) where
 out : List α
 last : List β
 first : Nat
 fin : Int
def Ur (zs : List Int) : List Int := compact (Yi zs)
theorem z7a (zs : List Int) : v0n (Yi zs) = (Ur zs).length := rfl
theorem Wj (zs : List Int) : (Yi zs).length = zs.length := List.length_mergeSort zs
theorem z5y (zs : List Int) : (Ur zs).length ≤ zs.length := by
 have := compact_length_le (Yi zs)
 rw [Wj] at this
 exact this
theorem Jx (zs : List Int) (i : Nat) (h : i < (Ur zs).length) : rd (Xx (Yi zs)) i = rd (Ur zs) i := by
 change i < (compact (Yi zs)).length at h
 show rd (compact (Yi zs) ++ _) i = rd (compact (Yi zs)) i
 rw [Xq (by rw [List.length_append]; exact Nat.lt_add_right _ h), Xq h, List.getElem_append_left h]
theorem Km (zs : List Int) : Za zs.length (cOf (Zz (Yi zs))) = Yi zs := by
 have := Uu (Yi zs)
 rw [Wj] at this
 exact this
namespace Dim
variable {α β : Type} (D : Dim α β) (l : List α)
def ends : List Int := l.flatMap fun r => [D.lo r, D.hi r]
def cuts : List Int := Ur (D.ends l)
def inn (x : Int) : List β := (l.filter fun r => decide (D.lo r ≤ x) && decide (x < D.hi r)).map D.pr
def sec (x : Int) : List β := D.mak (D.inn l x)
def grow (out : List α) (k : Nat) (x : Int) : List α := out.take k ++ (out.drop k).map (D.ext x)
def one (x x' : Int) (s : Sw α β) : Sw α β :=
 bif decide (0 < (D.sec l x).length) && ((s.fin == x) && D.same s.last (D.sec l x)) then ⟨D.grow s.out s.first x', s.last, s.first, x'⟩
 else ⟨s.out ++ (D.sec l x).map (D.put x x'), D.sec l x, s.out.length, x'⟩
def go : Nat → Nat → Sw α β → Sw α β
 | 0, _, s => s
 | k + 1, i, s => go k (i + 1) (D.one l (rd (D.cuts l) i) (rd (D.cuts l) (i + 1)) s)
def out : List α := (D.go l ((D.cuts l).length - 1) 0 ⟨[], [], 0, 0⟩).out
theorem ends_length : (D.ends l).length = 2 * l.length := by
 induction l with
 | nil => rfl
 | cons r l ih => show (_ :: _ :: D.ends l).length = _; simp only [List.length_cons, ih]; omega
theorem cuts_length : (D.cuts l).length ≤ 2 * l.length := by
 have := z5y (D.ends l)
 rw [D.ends_length] at this
 exact this
theorem ends_append (m : List α) : D.ends (l ++ m) = D.ends l ++ D.ends m := by simp [ends]
theorem inn_append (m : List α) (x : Int) : D.inn (l ++ m) x = D.inn l x ++ D.inn m x := by simp [inn]
theorem inn_length (x : Int) : (D.inn l x).length ≤ l.length := by simpa [inn] using List.length_filter_le _ l
theorem inn_t (r : α) (x : Int) (h1 : D.lo r ≤ x) (h2 : x < D.hi r) : D.inn [r] x = [D.pr r] := by simp [inn, h1, h2]
theorem inn_f1 (r : α) (x : Int) (h1 : ¬ D.lo r ≤ x) : D.inn [r] x = [] := by simp [inn, h1]
theorem inn_f2 (r : α) (x : Int) (h1 : ¬ x < D.hi r) : D.inn [r] x = [] := by simp [inn, h1]
theorem grow_nil (out : List α) (k : Nat) (x : Int) (h : out.length ≤ k) : D.grow out k x = out := by
 unfold grow; rw [List.drop_eq_nil_of_le h, List.map_nil, List.append_nil, List.take_of_length_le h]
theorem grow_length (out : List α) (k : Nat) (x : Int) : (D.grow out k x).length = out.length := by
 unfold grow; simp; omega
theorem grow_set [Yt α] (out : List α) (j : Nat) (x : Int) (h : j < out.length) : D.grow (out.set j (D.ext x (rd out j))) (j + 1) x = D.grow out j x := by
 unfold grow
 rw [Ye h, List.map_cons]
 have e1 : (out.set j (D.ext x (rd out j))).take (j + 1) = out.take j ++ [D.ext x (rd out j)] := by
  apply List.ext_getElem
  ·simp; omega
  ·intro n h1 h2
   simp only [List.getElem_take, List.getElem_set]
   by_cases e : j = n
   ·subst e
    rw [if_pos rfl, List.getElem_append_right (by simp only [List.length_take]; omega)]
    simp
   ·rw [if_neg e, List.getElem_append_left (by simp at h1 ⊢; omega), List.getElem_take]
 have e2 : (out.set j (D.ext x (rd out j))).drop (j + 1) = out.drop (j + 1) := by
  rw [List.drop_set]; rw [if_pos (by omega)]
 rw [e1, e2, List.append_assoc]; rfl
theorem one_length (x x' : Int) (s : Sw α β) : (D.one l x x' s).out.length ≤ s.out.length + (D.sec l x).length := by
 unfold one
 cases (decide (0 < (D.sec l x).length) && ((s.fin == x) && D.same s.last (D.sec l x))) <;> simp [grow_length]
end Dim
end Go.Am
namespace Go.Am
open Go.Proofs.Tryz
open Go.Proofs
inductive vl4S where
def vl4C (aU : Int) (aT : Int) (aQ : Int) (bD : Int) : vl4S → Cfg
 := nofun
def y9d (aU : Int) (aT : Int) (aQ : Int) (bD : Int) : vl4S → Xa vl4S
 := nofun
def z8n (aU : Int) (aT : Int) (aQ : Int) (bD : Int) : Xa vl4S := (bif (decide (aU < aQ)) then (bif (decide (aT < bD)) then (bif (decide (aU ≥ (-1000000))) then (bif (decide (aU ≤ 1000000)) then (bif (decide (aQ ≥ (-1000000))) then (bif (decide (aQ ≤ 1000000)) then (bif (decide (aT ≥ (-1000000))) then (bif (decide (aT ≤ 1000000)) then (bif (decide (bD ≥ (-1000000))) then (.ret [(.bool (decide (bD ≤ 1000000)))]) else (.ret [(.bool false)])) else (.ret [(.bool false)])) else (.ret [(.bool false)])) else (.ret [(.bool false)])) else (.ret [(.bool false)])) else (.ret [(.bool false)])) else (.ret [(.bool false)])) else (.ret [(.bool false)])) else (.ret [(.bool false)]))
theorem x5w (aU : Int) (aT : Int) (aQ : Int) (bD : Int) : ∀ s, Xo prog (Zy prog 153) (vl4C aU aT aQ bD) (vl4C aU aT aQ bD s) (y9d aU aT aQ bD s)
 := nofun
theorem y9e (aU : Int) (aT : Int) (aQ : Int) (bD : Int) : Xo prog (Zy prog 153) (vl4C aU aT aQ bD) (Zc prog 153 [(.agg [(.int .i64 aU), (.int .i64 aT), (.int .i64 aQ), (.int .i64 bD)])] true []) (z8n aU aT aQ bD) := (lb (fun k0 => (lb (fun k1 => (lb (fun k2 => (lb (fun k3 => (lb (fun k4 => (lb (fun k5 => (lb (fun k6 => (lb (fun k7 => (lb (fun k8 => (lr 35 3 [1, 1, 1, 1, 1, 1, 0] 1 15 [(2, (.bool (decide (bD ≤ 1000000))))] (sl Ut 101 [] ⟨[], [], [some [2]], []⟩ ⟨[], [], []⟩ (trs 25 []) (tt k8 (tt k7 (tt k6 (tt k5 (tt k4 (tt k3 (tt k2 (tt k1 (tt k0 nn)))))))))))) (fun k8 => (lr 35 3 [1, 1, 1, 1, 1, 1, 0] 1 15 [(2, (.bool false))] (sl Ut 101 [] ⟨[], [], [some [2]], []⟩ ⟨[], [], []⟩ (trs 23 [false, false]) (tt k8 (tt k7 (tt k6 (tt k5 (tt k4 (tt k3 (tt k2 (tt k1 (tt k0 nn)))))))))))))) (fun k7 => (lr 35 3 [1, 1, 1, 1, 1, 1, 0] 1 15 [(2, (.bool false))] (sl Ut 86 [] ⟨[], [], [some [2]], []⟩ ⟨[], [], []⟩ (trs 20 [false, false, false]) (tt k7 (tt k6 (tt k5 (tt k4 (tt k3 (tt k2 (tt k1 (tt k0 nn))))))))))))) (fun k6 => (lr 35 3 [1, 1, 1, 1, 1, 1, 0] 1 15 [(2, (.bool false))] (sl Ut 86 [] ⟨[], [], [some [2]], []⟩ ⟨[], [], []⟩ (trs 18 [false, false, false, false, false]) (tt k6 (tt k5 (tt k4 (tt k3 (tt k2 (tt k1 (tt k0 nn)))))))))))) (fun k5 => (lr 35 3 [1, 1, 1, 1, 1, 1, 0] 1 15 [(2, (.bool false))] (sl Ut 71 [] ⟨[], [], [some [2]], []⟩ ⟨[], [], []⟩ (trs 15 [false, false, false, false, false, false]) (tt k5 (tt k4 (tt k3 (tt k2 (tt k1 (tt k0 nn))))))))))) (fun k4 => (lr 35 3 [1, 1, 1, 1, 1, 1, 0] 1 15 [(2, (.bool false))] (sl Ut 71 [] ⟨[], [], [some [2]], []⟩ ⟨[], [], []⟩ (trs 13 [false, false, false, false, false, false, false, false]) (tt k4 (tt k3 (tt k2 (tt k1 (tt k0 nn)))))))))) (fun k3 => (lr 35 3 [1, 1, 1, 1, 1, 1, 0] 1 15 [(2, (.bool false))] (sl Ut 56 [] ⟨[], [], [some [2]], []⟩ ⟨[], [], []⟩ (trs 10 [false, false, false, false, false, false, false, false, false]) (tt k3 (tt k2 (tt k1 (tt k0 nn))))))))) (fun k2 => (lr 35 3 [1, 1, 1, 1, 1, 1, 0] 1 15 [(2, (.bool false))] (sl Ut 56 [] ⟨[], [], [some [2]], []⟩ ⟨[], [], []⟩ (trs 8 [false, false, false, false, false, false, false, false, false, false, false]) (tt k2 (tt k1 (tt k0 nn)))))))) (fun k1 => (lr 35 3 [1, 1, 1, 1, 1, 1, 0] 1 15 [(2, (.bool false))] (sl Ut 41 [] ⟨[], [], [some [2]], []⟩ ⟨[], [], []⟩ (trs 5 [false, false, false, false, false, false, false, false, false, false, false, false]) (tt k1 (tt k0 nn))))))) (fun k0 => (lr 35 3 [1, 1, 1, 1, 1, 1, 0] 1 15 [(2, (.bool false))] (sl Ut 41 [] ⟨[], [], [some [2]], []⟩ ⟨[], [], []⟩ [false, false, false, false, false, false, false, false, false, false, false, false, false, false, false, false, false] (tt k0 nn)))))
theorem w5q (aU : Int) (aT : Int) (aQ : Int) (bD : Int) (n : Nat) (vs : List AVal) (h : Yx (y9d aU aT aQ bD) n (z8n aU aT aQ bD) = .ret vs) : Jc prog (Zy prog 153) (Zc prog 153 [(.agg [(.int .i64 aU), (.int .i64 aT), (.int .i64 aQ), (.int .i64 bD)])] true []) vs := by
 have := Zn (x5w aU aT aQ bD) n _ (y9e aU aT aQ bD)
 rwa [h] at this
inductive madS where
 | h0 (v16 : Int) (aA : List Int)
 | h1 (v4 : Int) (aH : List R4) (cL : List R2) (cT : Int) (cU : Int) (aX : Nat) (bK : List Int)
 | h2 (v4 : Int) (v38 : Int) (aH : List R4) (cL : List R2) (cT : Int) (cU : Int) (aX : Nat) (bK : List Int) (aE : Int) (dA : Int) (aK : List R2)
 | h3 (v1 : Int) (v2 : Int) (v71 : List R2) (v72 : Int) (v73 : Int) (cI : List R2) (bF : Int) (aF : List R4) (bN : List R2) (bU : Int) (aX : Nat) (bK : List Int) (aE : List R2)
 | h4 (v2 : Int) (v8 : Int) (dG : Int) (cI : List R2) (bF : Int) (aF : List R4) (bN : List R2) (bU : Int) (cN : Int) (cW : Nat) (dE : List Int) (aK : List R2)
def madC (l0 : List R4) : madS → Cfg
 | .h0 v16 aA => ⟨⟨34, 0, true⟩, none, (Zg prog 173 [1, 1, 0, 1, 0, 0, 1, 1, 0, 0, 1, 1, 0, 0] 0), none, (Zy prog 15), ⟨Yq [(1, (.ptr 0 0)), (3, (.ptr 2 0)), (8, (.sl 1 0 1 (.un 1))), (9, (ii 1)), (10, (ii 0)), (14, (.dat l0.length (Zz l0))), (15, (ii (l0.length : Int))), (16, (ii v16))], Va [⟨[(.sl 1 0 1 (.un 1))], 173, none⟩, ⟨[(.dat l0.length (Zz l0))], 105, none⟩, ⟨[(.sla 4 1 0 aA.length (.un 1))], 47, none⟩, ⟨[.nils, .nils, (ii 0), (ii 0)], 188, none⟩, ⟨Yg aA.length (Zz aA), 3, some ⟨1, aA.length, (Zz aA)⟩⟩] 0, 5, [], true⟩, [⟨⟨29, 0, true⟩, (Vu prog 154 [1, 1, 0, 0] 2), (Zg prog 154 [1, 1, 0, 0] 1), none, (Zy prog 77), Yq [(2, .nils), (3, (ii 0)), (4, (.ptr 3 0)), (9, (.sl 1 0 1 (.un 1)))]⟩], .leaf⟩
 | .h1 v4 aH cL cT cU aX bK => ⟨⟨76, 0, true⟩, none, (Zg prog 186 [1, 0, 0] 0), none, [], ⟨Yq [(0, (.yld 0)), (1, (.ptr 2 0)), (2, (.ptr 4 0)), (4, (ii v4))], z5f [(1, ⟨[(.sla 6 4 0 aH.length (.un 4)), (.dat cL.length (Zz cL)), (ii cT), (ii cU)], 188, none⟩), (2, ⟨[(.sla 3 1 0 aX (.un 1))], 47, none⟩), (3, ⟨Yg bK.length (Zz bK), 3, some ⟨1, bK.length, (Zz bK)⟩⟩), (4, ⟨[(.sl 5 0 1 (.un 1))], 173, none⟩), (5, ⟨[(.dat l0.length (Zz l0))], 105, none⟩), (6, ⟨Yg aH.length (Zz aH), 114, some ⟨4, aH.length, (Zz aH)⟩⟩)], 7, [], true⟩, [⟨⟨29, 0, true⟩, none, (.inRangeFunc 0 :: (Zg prog 154 [1, 1, 0, 1, 0] 1)), none, (Zy prog 77), Yq [(2, .nils), (3, (ii 0)), (4, (.ptr 1 0))]⟩], (z5h [(0, ⟨.ready, none, 29, Yq [(4, (.ptr 1 0))], [11], (Xf prog 154 [1, 1, 0, 1, 0, 0]), (Xf prog 154 [1, 1, 0, 1, 0, 1])⟩)])⟩
 | .h2 v4 v38 aH cL cT cU aX bK aE dA aK => ⟨⟨76, 0, true⟩, none, (Zg prog 186 [1, 0, 0, 1, 0, 0, 1, 0, 1, 0, 0, 1, 1, 0, 0, 1, 1, 0, 0] 0), none, [], ⟨Yq [(0, (.yld 0)), (1, (.ptr 2 0)), (2, (.ptr 4 0)), (4, (ii v4)), (5, (.ptr 6 0)), (6, (ii 0)), (29, (.sl 5 0 1 (.un 1))), (30, (ii 1)), (31, (ii 0)), (36, (.dat l0.length (Zz l0))), (37, (ii (l0.length : Int))), (38, (ii v38))], z5f [(1, ⟨[(.sla 9 4 0 aH.length (.un 4)), (.dat cL.length (Zz cL)), (ii cT), (ii cU)], 188, none⟩), (2, ⟨[(.sla 3 1 0 aX (.un 1))], 47, none⟩), (3, ⟨Yg bK.length (Zz bK), 3, some ⟨1, bK.length, (Zz bK)⟩⟩), (4, ⟨[(.sl 5 0 1 (.un 1))], 173, none⟩), (5, ⟨[(.dat l0.length (Zz l0))], 105, none⟩), (6, ⟨[(ii aE), (ii dA), (.sl 7 0 1 (.ex 1))], 193, none⟩), (7, ⟨[(.sla 8 2 0 aK.length (.un 2))], 158, none⟩), (8, ⟨Yg aK.length (Zz aK), 110, some ⟨2, aK.length, (Zz aK)⟩⟩), (9, ⟨Yg aH.length (Zz aH), 114, some ⟨4, aH.length, (Zz aH)⟩⟩)], 10, [], true⟩, [⟨⟨29, 0, true⟩, none, (.inRangeFunc 0 :: (Zg prog 154 [1, 1, 0, 1, 0] 1)), none, (Zy prog 77), Yq [(2, .nils), (3, (ii 0)), (4, (.ptr 1 0))]⟩], (z5h [(0, ⟨.ready, none, 29, Yq [(4, (.ptr 1 0))], [11], (Xf prog 154 [1, 1, 0, 1, 0, 0]), (Xf prog 154 [1, 1, 0, 1, 0, 1])⟩)])⟩
 | .h3 v1 v2 v71 v72 v73 cI bF aF bN bU aX bK aE => ⟨⟨94, 0, true⟩, none, (Zg prog 146 [1, 1, 1, 0, 0] 0), none, [], ⟨Yq [(0, (.ptr 0 0)), (1, (ii v1)), (2, (ii v2)), (71, (.dat v71.length (Zz v71))), (72, (ii v72)), (73, (ii v73))], z5f [(0, ⟨[(.sla 7 4 0 aF.length (.un 4)), (.dat bN.length (Zz bN)), (ii bU), (ii v2)], 188, none⟩), (2, ⟨[(.sla 3 1 0 aX (.un 1))], 47, none⟩), (3, ⟨Yg bK.length (Zz bK), 3, some ⟨1, bK.length, (Zz bK)⟩⟩), (4, ⟨[(.sl 5 0 1 (.un 1))], 173, none⟩), (5, ⟨[(.dat l0.length (Zz l0))], 105, none⟩), (6, ⟨[(.dat aE.length (Zz aE))], 158, none⟩), (7, ⟨Yg aF.length (Zz aF), 114, some ⟨4, aF.length, (Zz aF)⟩⟩)], 8, [], true⟩, [⟨⟨29, 0, true⟩, (Vu prog 154 [1, 1, 0, 1, 0, 1, 0, 1] 5), (Zg prog 154 [1, 1, 0, 1, 0, 1, 0, 1] 1), (some 1), [], Yq [(4, (.ptr 0 0)), (21, (ii v1)), (23, (ii v2)), (24, (.dat cI.length (Zz cI)))]⟩, ⟨⟨76, 0, true⟩, (Vu prog 186 [1, 0, 0, 1, 0, 0, 1, 1, 0] 2), (Zg prog 186 [1, 0, 0, 1, 0, 0, 1, 1, 0] 1), none, [], Yq [(0, (.yld 1)), (1, (.ptr 2 0)), (2, (.ptr 4 0)), (4, (ii bF)), (72, (.yld 1)), (73, (.agg [(ii v1), (ii v2), (.sl 6 0 1 (.ex 1))]))]⟩, ⟨⟨29, 0, true⟩, none, (.inRangeFunc 1 :: (Zg prog 154 [1, 1, 0, 1, 0] 1)), none, (Zy prog 77), Yq [(2, .nils), (3, (ii 0)), (4, (.ptr 0 0))]⟩], (z5h [(1, ⟨.busy, none, 29, Yq [(4, (.ptr 0 0))], [11], (Xf prog 154 [1, 1, 0, 1, 0, 0]), (Xf prog 154 [1, 1, 0, 1, 0, 1])⟩)])⟩
 | .h4 v2 v8 dG cI bF aF bN bU cN cW dE aK => ⟨⟨94, 0, true⟩, none, (Zg prog 146 [0, 1, 0, 0, 1, 0, 0] 0), none, [], ⟨Yq [(0, (.ptr 0 0)), (2, (ii v2)), (8, (ii v8))], z5f [(0, ⟨[(.sla 1 4 0 aF.length (.un 4)), (.dat bN.length (Zz bN)), (ii bU), (ii cN)], 188, none⟩), (1, ⟨Yg aF.length (Zz aF), 114, some ⟨4, aF.length, (Zz aF)⟩⟩), (3, ⟨[(.sla 4 1 0 cW (.un 1))], 47, none⟩), (4, ⟨Yg dE.length (Zz dE), 3, some ⟨1, dE.length, (Zz dE)⟩⟩), (5, ⟨[(.sl 6 0 1 (.un 1))], 173, none⟩), (6, ⟨[(.dat l0.length (Zz l0))], 105, none⟩), (7, ⟨[(.dat aK.length (Zz aK))], 158, none⟩)], 8, [], true⟩, [⟨⟨29, 0, true⟩, (Vu prog 154 [1, 1, 0, 1, 0, 1, 0, 1] 5), (Zg prog 154 [1, 1, 0, 1, 0, 1, 0, 1] 1), (some 2), [], Yq [(4, (.ptr 0 0)), (21, (ii dG)), (23, (ii v2)), (24, (.dat cI.length (Zz cI)))]⟩, ⟨⟨76, 0, true⟩, (Vu prog 186 [1, 0, 0, 1, 0, 0, 1, 1, 0] 2), (Zg prog 186 [1, 0, 0, 1, 0, 0, 1, 1, 0] 1), none, [], Yq [(0, (.yld 2)), (1, (.ptr 3 0)), (2, (.ptr 5 0)), (4, (ii bF)), (72, (.yld 2)), (73, (.agg [(ii dG), (ii v2), (.sl 7 0 1 (.ex 1))]))]⟩, ⟨⟨29, 0, true⟩, none, (.inRangeFunc 2 :: (Zg prog 154 [1, 1, 0, 1, 0] 1)), none, (Zy prog 77), Yq [(2, .nils), (3, (ii 0)), (4, (.ptr 0 0))]⟩], (z5h [(2, ⟨.busy, none, 29, Yq [(4, (.ptr 0 0))], [11], (Xf prog 154 [1, 1, 0, 1, 0, 0]), (Xf prog 154 [1, 1, 0, 1, 0, 1])⟩)])⟩
def madN0 : List (Option (List Nat)) := [some [1, 3, 8, 9, 10, 14, 15, 16], some [2, 3, 4, 9]]
def madM0 : List (Option (List Nat)) := []
def v7j : List (Option (List Nat)) := [some [0, 1, 2, 4], some [2, 3, 4]]
def v7k : List (Option (List Nat)) := [some [4], none, none, none, none, none, none]
def w7w : List (Option (List Nat)) := [some [0, 1, 2, 4, 5, 6, 29, 30, 31, 36, 37, 38], some [2, 3, 4]]
def w7y : List (Option (List Nat)) := [some [4], none, none, none, none, none, none, none, none, none]
def w7v : List (Option (List Nat)) := [some [0, 1, 2, 71, 72, 73], some [4, 21, 23, 24], some [0, 1, 2, 4, 72, 73], some [2, 3, 4]]
def w7x : List (Option (List Nat)) := [none, some [4], none, none, none, none, none, none]
def madN4 : List (Option (List Nat)) := [some [0, 2, 8], some [4, 21, 23, 24], some [0, 1, 2, 4, 72, 73], some [2, 3, 4]]
def madM4 : List (Option (List Nat)) := [none, none, some [4], none, none, none, none, none]
def Xb (l0 : List R4) : madS → Xa madS
 | .h0 v16 aA => (bif (decide (v16 < (l0.length : Int))) then (bif ((decide (0 ≤ v16 ∧ v16 < (l0.length : Int))) && true) then (bif (Nat.beq 1 1 && ((decide (0 + aA.length = aA.length)) && decide ((aA.length + 2 + 1) * (8 + 1) ≤ Ja))) then (.to (.h0 (IntKind.wrap .i64 (v16 + 1)) (aA ++ [(rd l0 v16.toNat).a, (rd l0 v16.toNat).c]))) else .stuck) else .stuck) else (bif (decide (aA.length < 4611686018427387904)) then (bif (decide (aA.length = aA.length)) then (.to (.h1 1 ([] : List R4) ([] : List R2) 0 0 (v0n (Za aA.length (cOf (Zz (Yi (Za aA.length (cOf (Zz aA)))))))) (Xx (Za aA.length (cOf (Zz (Yi (Za aA.length (cOf (Zz aA)))))))))) else .stuck) else .stuck))
 | .h1 v4 aH cL cT cU aX bK => (bif (decide (v4 < ((aX : Nat) : Int))) then (bif ((decide (0 ≤ (IntKind.wrap .i64 (v4 - 1)) ∧ (IntKind.wrap .i64 (v4 - 1)) < ((aX : Nat) : Int))) && true) then (bif (decide ((0 + (Int.toNat (IntKind.wrap .i64 (v4 - 1)))) < bK.length)) then (bif ((decide (0 ≤ v4 ∧ v4 < ((aX : Nat) : Int))) && true) then (bif (decide ((0 + v4.toNat) < bK.length)) then (.to (.h2 v4 0 aH cL cT cU aX bK (rd bK (0 + (Int.toNat (IntKind.wrap .i64 (v4 - 1))))) (rd bK (0 + v4.toNat)) ([] : List R2))) else .stuck) else .stuck) else .stuck) else .stuck) else (bif (decide ((aH.length : Int) > 400)) then (.ret [.nils, (.int .i64 4)]) else (.ret [(.dat aH.length (Zz aH)), (.int .i64 0)])))
 | .h2 v4 v38 aH cL cT cU aX bK aE dA aK => (bif (decide (v38 < (l0.length : Int))) then (bif ((decide (0 ≤ v38 ∧ v38 < (l0.length : Int))) && true) then (bif (decide ((rd l0 v38.toNat).a ≤ aE)) then (bif (decide (aE < (rd l0 v38.toNat).c)) then (bif (Nat.beq 2 2 && ((decide (0 + aK.length = aK.length)) && decide ((aK.length + 1 + 1) * (16 + 1) ≤ Ja))) then (.to (.h2 v4 (IntKind.wrap .i64 (v38 + 1)) aH cL cT cU aX bK aE dA (aK ++ [(R2.mk (rd l0 v38.toNat).b (rd l0 v38.toNat).d)]))) else .stuck) else (.to (.h2 v4 (IntKind.wrap .i64 (v38 + 1)) aH cL cT cU aX bK aE dA aK))) else (.to (.h2 v4 (IntKind.wrap .i64 (v38 + 1)) aH cL cT cU aX bK aE dA aK))) else .stuck) else (bif (z9y (cvT aK)) then (bif (decide ((((Xg (cvT aK)).length : Nat) : Int) > 0)) then (bif (cU == aE) then (bif (Vz (cvT cL) (cvT (Xg (cvT aK)))) then (bif (Jh (cvT cL) (cvT (Xg (cvT aK)))) then (.to (.h4 dA cT aE (Xg (cvT aK)) v4 aH cL cT cU aX bK aK)) else (.to (.h3 aE dA (Xg (cvT aK)) (((Xg (cvT aK)).length : Nat) : Int) 0 (Xg (cvT aK)) v4 aH (Xg (cvT aK)) (aH.length : Int) aX bK aK))) else .stuck) else (.to (.h3 aE dA (Xg (cvT aK)) (((Xg (cvT aK)).length : Nat) : Int) 0 (Xg (cvT aK)) v4 aH (Xg (cvT aK)) (aH.length : Int) aX bK aK))) else (.to (.h3 aE dA (Xg (cvT aK)) (((Xg (cvT aK)).length : Nat) : Int) 0 (Xg (cvT aK)) v4 aH (Xg (cvT aK)) (aH.length : Int) aX bK aK))) else .stuck))
 | .h3 v1 v2 v71 v72 v73 cI bF aF bN bU aX bK aE => (bif (decide (v73 < v72)) then (bif ((decide (0 ≤ v73 ∧ v73 < (v71.length : Int))) && true) then (bif (Nat.beq 4 4 && ((decide (0 + aF.length = aF.length)) && decide ((aF.length + 1 + 1) * (32 + 1) ≤ Ja))) then (.to (.h3 v1 v2 v71 v72 (IntKind.wrap .i64 (v73 + 1)) cI bF (aF ++ [(R4.mk v1 (rd v71 v73.toNat).a v2 (rd v71 v73.toNat).b)]) bN bU aX bK aE)) else .stuck) else .stuck) else (.to (.h1 (IntKind.wrap .i64 (bF + 1)) aF bN bU v2 aX bK)))
 | .h4 v2 v8 dG cI bF aF bN bU cN cW dE aK => (bif (decide (v8 < (aF.length : Int))) then (bif ((decide (0 ≤ v8 ∧ v8 < (aF.length : Int))) && true) then (bif (decide ((0 + v8.toNat) < aF.length)) then (.to (.h4 v2 (IntKind.wrap .i64 (v8 + 1)) dG cI bF (aF.set (0 + v8.toNat) (R4.mk (rd aF (0 + v8.toNat)).a (rd aF (0 + v8.toNat)).b v2 (rd aF (0 + v8.toNat)).d)) bN bU cN cW dE aK)) else .stuck) else .stuck) else (.to (.h1 (IntKind.wrap .i64 (bF + 1)) aF bN bU v2 cW dE)))
def y4s (l0 : List R4) : Xa madS := (.to (.h0 0 ([] : List Int)))
theorem x7i (l0 : List R4) : ∀ s, Xo prog (Zy prog 154) (madC l0) (madC l0 s) (Xb l0 s)
 | .h0 v16 aA => (lb (fun k0 => (lo fun o0 => (lo fun o1 => (sl Ut 32 [] ⟨[0, 1, 2, 3, 7], [], madN0, madM0⟩ ⟨[], [.keep, .keep, .cells [.len (aA ++ [(rd l0 (tn v16)).a, (rd l0 (tn v16)).c]).length], .keep, .rowed 1 (aA ++ [(rd l0 (tn v16)).a, (rd l0 (tn v16)).c]).length (Zz (aA ++ [(rd l0 (tn v16)).a, (rd l0 (tn v16)).c]))], []⟩ [true] (pp (xL (aA.length + 2) (aA ++ [(rd l0 (tn v16)).a, (rd l0 (tn v16)).c]).length) (pp (xL (aA.length + 2) (aA ++ [(rd l0 (tn v16)).a, (rd l0 (tn v16)).c]).length) (pp (xS (aA.length + 2) (Ze (Zz aA) 0 aA.length 1 [(ii (rd l0 (tn v16)).a), (ii (rd l0 (tn v16)).c)]) (Zz (aA ++ [(rd l0 (tn v16)).a, (rd l0 (tn v16)).c]))) (pp (pp (xF (Ze (Zz aA) 0 aA.length 1 [(ii (rd l0 (tn v16)).a), (ii (rd l0 (tn v16)).c)])) nn) (ww o1 (ww o0 (tt k0 nn))))))))))) (fun k0 => (lo fun o0 => (lo fun o1 => (sl Ut 46 [(114, 4, Zz ([] : List R4))] ⟨[5, 3, 2, 4, 0, 1, 6], [], v7j, v7k⟩ ⟨[], [.keep, .cells [.grow 6 4, .list 0 (Zz ([] : List R2)), .keep, .keep], .keep, .rowed 1 (Xx (Za aA.length (cOf (Zz (Yi (Za aA.length (cOf (Zz aA)))))))).length (Zz (Xx (Za aA.length (cOf (Zz (Yi (Za aA.length (cOf (Zz aA))))))))), .keep, .keep, .keep], []⟩ [false, false] (pp (xL aA.length (Xx (Za aA.length (cOf (Zz (Yi (Za aA.length (cOf (Zz aA)))))))).length (by first | exact z0f _ _ | exact Uy rfl)) (pp (xS aA.length (Zz (Xx (Za aA.length (cOf (Zz (Yi (Za aA.length (cOf (Zz aA))))))))) (Zz (Xx (Za aA.length (cOf (Zz (Yi (Za aA.length (cOf (Zz aA)))))))))) (pp (fl (Xx (Za aA.length (cOf (Zz (Yi (Za aA.length (cOf (Zz aA)))))))) (fl ([] : List R4) nn)) (pp (pp (xG (Nat.beq 1 1)) (pp (xG (Nat.beq 1 1)) (pp (xG (Nat.beq 0 0)) (pp (xG (decide (aA.length = aA.length))) (pp (xG (isI (Zz (Yi (Za aA.length (cOf (Zz aA))))))) (xG (decide (aA.length < 4611686018427387904)))))))) (pp (pp (xG (Nat.beq 1 1)) (pp (xG (Nat.beq 1 1)) (pp (xG (Nat.beq 0 0)) (pp (xG (decide (aA.length = aA.length))) (pp (xG (isI (Zz aA))) (xG (decide (aA.length < 4611686018427387904)))))))) (tt k0 nn)))))))))))
 | .h1 v4 aH cL cT cU aX bK => (lb (fun k0 => (lo fun o0 => (lo fun o1 => (lo fun o2 => (lo fun o3 => (sl Ut 48 [(110, 2, Zz ([] : List R2))] ⟨[0, 1, 2, 3, 4, 5, 7, 8, 9, 6], [], w7w, w7y⟩ ⟨[], (kpB 7 [.cells [.grow 8 2], .keep, .keep]), []⟩ (trs 3 []) (pp (fl bK (fl ([] : List R2) (fl aH nn))) (ww o3 (ww o2 (ww o1 (ww o0 (tt k0 nn)))))))))))) (fun k0 => (lb (fun k1 => (lr 29 3 [1, 1, 1, 1, 1, 1, 0] 1 77 [(2, .nils), (3, (ii 4))] (sl Ut 43 [] ⟨[], [], [some [2, 3]], []⟩ ⟨[], [], []⟩ [false, true] (tt k1 (tt k0 nn))))) (fun k1 => (lr 29 3 [1, 1, 1, 1, 1, 1, 0] 1 77 [(2, (.dat aH.length (Zz aH))), (3, (ii 0))] (sl Ut 48 [] ⟨[], [6], [some [2, 3]], []⟩ ⟨[(2, .frz aH.length aH.length (Zz aH) (Zz aH))], [], []⟩ [false, false] (pp (xZ (z5k 4 4 0 aH.length aH.length (Zz aH)) aH.length (Zz aH)) (pp (xL aH.length aH.length) (pp (xS aH.length (Zz aH) (Zz aH)) (pp (fl aH nn) (tt k1 (tt k0 nn))))))))))))
 | .h2 v4 v38 aH cL cT cU aX bK aE dA aK => (lb (fun k0 => (lo fun aG => (lb (fun k1 => (lb (fun k2 => (lo fun o0 => (sl Ut 39 [] ⟨[0, 1, 2, 3, 4, 5, 6, 7, 12, 9], [], w7w, w7y⟩ ⟨[], (kpB 7 [.cells [.len (aK ++ [(R2.mk (rd l0 (tn v38)).b (rd l0 (tn v38)).d)]).length], .rowed 2 (aK ++ [(R2.mk (rd l0 (tn v38)).b (rd l0 (tn v38)).d)]).length (Zz (aK ++ [(R2.mk (rd l0 (tn v38)).b (rd l0 (tn v38)).d)])), .keep]), []⟩ (trs 7 []) (pp (xL (aK.length + 1) (aK ++ [(R2.mk (rd l0 (tn v38)).b (rd l0 (tn v38)).d)]).length) (pp (xL (aK.length + 1) (aK ++ [(R2.mk (rd l0 (tn v38)).b (rd l0 (tn v38)).d)]).length) (pp (xS (aK.length + 1) (Ze (Zz aK) 0 aK.length 2 [(ii (rd l0 (tn v38)).b), (ii (rd l0 (tn v38)).d)]) (Zz (aK ++ [(R2.mk (rd l0 (tn v38)).b (rd l0 (tn v38)).d)]))) (pp (fl bK (pp (xF (Ze (Zz aK) 0 aK.length 2 [(ii (rd l0 (tn v38)).b), (ii (rd l0 (tn v38)).d)])) (fl aH nn))) (ww o0 (tt k2 (tt k1 (ww aG (tt k0 nn)))))))))))) (fun k2 => (sl Ut 39 [] ⟨(List.range 10), [], w7w, w7y⟩ ⟨[], [], []⟩ (trs 6 [false]) (pp (fl bK (fl aK (fl aH nn))) (tt k2 (tt k1 (ww aG (tt k0 nn))))))))) (fun k1 => (sl Ut 39 [] ⟨(List.range 10), [], w7w, w7y⟩ ⟨[], [], []⟩ [true, false, false, false, false, false, false] (pp (fl bK (fl aK (fl aH nn))) (tt k1 (ww aG (tt k0 nn))))))))) (fun k0 => (Wb (sl Ut (C' := ⟨⟨29, 0, true⟩, (Vu prog 154 [1, 1, 0, 1, 0, 1, 0, 0] 4), (Zg prog 154 [1, 1, 0, 1, 0, 1, 0, 0] 1), (some 0), [], ⟨Yq [(4, (.ptr 1 0)), (5, (.ptr 3 0)), (16, (.dat aK.length (Zz aK)))], z5f [(1, ⟨[(.sla 2 4 0 aH.length (.un 4)), (.dat cL.length (Zz cL)), (ii cT), (ii cU)], 188, none⟩), (2, ⟨Yg aH.length (Zz aH), 114, some ⟨4, aH.length, (Zz aH)⟩⟩), (3, ⟨[(ii aE), (ii dA), (.sl 4 0 1 (.ex 1))], 193, none⟩), (4, ⟨[(.dat aK.length (Zz aK))], 158, none⟩), (5, ⟨[(.sla 6 1 0 aX (.un 1))], 47, none⟩), (6, ⟨Yg bK.length (Zz bK), 3, some ⟨1, bK.length, (Zz bK)⟩⟩), (7, ⟨[(.sl 8 0 1 (.un 1))], 173, none⟩), (8, ⟨[(.dat l0.length (Zz l0))], 105, none⟩)], 9, [], true⟩, [⟨⟨76, 0, true⟩, (Vu prog 186 [1, 0, 0, 1, 0, 0, 1, 1, 0] 2), (Zg prog 186 [1, 0, 0, 1, 0, 0, 1, 1, 0] 1), none, [], Yq [(0, (.yld 0)), (1, (.ptr 5 0)), (2, (.ptr 7 0)), (4, (ii v4)), (72, (.yld 0)), (73, (.agg [(ii aE), (ii dA), (.sl 4 0 1 (.ex 1))]))]⟩, ⟨⟨29, 0, true⟩, none, (.inRangeFunc 0 :: (Zg prog 154 [1, 1, 0, 1, 0] 1)), none, (Zy prog 77), Yq [(2, .nils), (3, (ii 0)), (4, (.ptr 1 0))]⟩], (z5h [(0, ⟨.busy, none, 29, Yq [(4, (.ptr 1 0))], [11], (Xf prog 154 [1, 1, 0, 1, 0, 0]), (Xf prog 154 [1, 1, 0, 1, 0, 1])⟩)])⟩) 37 [] ⟨[0, 1, 9, 10, 7, 2, 3, 4, 5], [8], [some [4, 5, 16], some [0, 1, 2, 4, 72, 73], some [2, 3, 4]], [some [4], none, none, none, none, none, none, none, none]⟩ ⟨[(16, .frz aK.length aK.length (Zz aK) (Zz aK))], [.keep, .keep, .keep, .keep, .cells [.frz aK.length aK.length (Zz aK) (Zz aK)], .keep, .keep, .keep, .keep], []⟩ [false, false] (pp (xZ (z5k 2 2 0 aK.length aK.length (Zz aK)) aK.length (Zz aK)) (pp (xL aK.length aK.length) (pp (xS aK.length (Zz aK) (Zz aK)) (pp (xZ (z5k 2 2 0 aK.length aK.length (Zz aK)) aK.length (Zz aK)) (pp (xL aK.length aK.length) (pp (xS aK.length (Zz aK) (Zz aK)) (pp (fl aH (fl bK nn)) (pp (fl aK nn) (tt k0 nn)))))))))) (lo fun aG => (lb (fun k1 => (lb (fun k2 => (lo fun cX => (lb (fun k3 => (sl Ut 49 [] ⟨[1, 2, 0, 5, 6, 7, 8, 4], [], madN4, madM4⟩ ⟨[], [], []⟩ (trs 13 []) (pp (fl aH (fl bK nn)) (tt k3 (pp (pp (xr cL) (pp (xI R2 (Xg (cvT aK)).length (Zz (Xg (cvT aK)))) (xw cX))) (tt k2 (tt k1 (pp (pp (xr aK) (xw aG)) nn)))))))) (fun k3 => (sl Ut 69 [] ⟨[1, 0, 5, 6, 7, 8, 4, 2], [], w7v, w7x⟩ ⟨[], [], []⟩ (trs 12 [false]) (pp (fl bK (fl aH nn)) (tt k3 (pp (pp (xr cL) (pp (xI R2 (Xg (cvT aK)).length (Zz (Xg (cvT aK)))) (xw cX))) (tt k2 (tt k1 (pp (pp (xr aK) (xw aG)) nn))))))))))) (fun k2 => (sl Ut 69 [] ⟨[1, 0, 5, 6, 7, 8, 4, 2], [], w7v, w7x⟩ ⟨[], [], []⟩ (trs 6 [false, false, false, false, false, false, false]) (pp (fl bK (fl aH nn)) (tt k2 (tt k1 (pp (pp (xr aK) (xw aG)) nn)))))))) (fun k1 => (sl Ut 69 [] ⟨[1, 0, 5, 6, 7, 8, 4, 2], [], w7v, w7x⟩ ⟨[], [], []⟩ [false, false, false, false, false, false, false, false, false, false, false, false, false] (pp (fl bK (fl aH nn)) (tt k1 (pp (pp (xr aK) (xw aG)) nn))))))))))
 | .h3 v1 v2 v71 v72 v73 cI bF aF bN bU aX bK aE => (lb (fun k0 => (lo fun o0 => (lo fun o1 => (sl Ut 23 [] ⟨[0, 1, 2, 3, 4, 5, 6, 10], [], w7v, w7x⟩ ⟨[], [.cells [.len (aF ++ [(R4.mk v1 (rd v71 (tn v73)).a v2 (rd v71 (tn v73)).b)]).length, .keep, .keep, .keep], .keep, .keep, .keep, .keep, .keep, .keep, .rowed 4 (aF ++ [(R4.mk v1 (rd v71 (tn v73)).a v2 (rd v71 (tn v73)).b)]).length (Zz (aF ++ [(R4.mk v1 (rd v71 (tn v73)).a v2 (rd v71 (tn v73)).b)]))], []⟩ [true] (pp (xL (aF.length + 1) (aF ++ [(R4.mk v1 (rd v71 (tn v73)).a v2 (rd v71 (tn v73)).b)]).length) (pp (xL (aF.length + 1) (aF ++ [(R4.mk v1 (rd v71 (tn v73)).a v2 (rd v71 (tn v73)).b)]).length) (pp (xS (aF.length + 1) (Ze (Zz aF) 0 aF.length 4 [(ii v1), (ii (rd v71 (tn v73)).a), (ii v2), (ii (rd v71 (tn v73)).b)]) (Zz (aF ++ [(R4.mk v1 (rd v71 (tn v73)).a v2 (rd v71 (tn v73)).b)]))) (pp (fl bK (pp (xF (Ze (Zz aF) 0 aF.length 4 [(ii v1), (ii (rd v71 (tn v73)).a), (ii v2), (ii (rd v71 (tn v73)).b)])) nn)) (ww o1 (ww o0 (tt k0 nn))))))))))) (fun k0 => (sl Ut 22 [] ⟨[1, 0, 2, 3, 4, 5, 7], [], v7j, v7k⟩ ⟨[], [], []⟩ [false, false] (pp (fl bK (fl aF nn)) (tt k0 nn)))))
 | .h4 v2 v8 dG cI bF aF bN bU cN cW dE aK => (lb (fun k0 => (lo fun o0 => (lo fun o1 => (sl Ut 33 [] ⟨(List.range 8), [], madN4, madM4⟩ ⟨[], [.cells [.len (aF.set (0 + (tn v8)) (R4.mk (rd aF (0 + (tn v8))).a (rd aF (0 + (tn v8))).b v2 (rd aF (0 + (tn v8))).d)).length, .keep, .keep, .keep], .rowed 4 (aF.set (0 + (tn v8)) (R4.mk (rd aF (0 + (tn v8))).a (rd aF (0 + (tn v8))).b v2 (rd aF (0 + (tn v8))).d)).length (Zz (aF.set (0 + (tn v8)) (R4.mk (rd aF (0 + (tn v8))).a (rd aF (0 + (tn v8))).b v2 (rd aF (0 + (tn v8))).d))), .keep, .keep, .keep, .keep, .keep, .keep], []⟩ [true] (pp (xL aF.length (aF.set (0 + (tn v8)) (R4.mk (rd aF (0 + (tn v8))).a (rd aF (0 + (tn v8))).b v2 (rd aF (0 + (tn v8))).d)).length) (pp (xL aF.length (aF.set (0 + (tn v8)) (R4.mk (rd aF (0 + (tn v8))).a (rd aF (0 + (tn v8))).b v2 (rd aF (0 + (tn v8))).d)).length) (pp (xS aF.length (Xd (Zz aF) (0 + (tn v8)) 2 [(ii v2)]) (Zz (aF.set (0 + (tn v8)) (R4.mk (rd aF (0 + (tn v8))).a (rd aF (0 + (tn v8))).b v2 (rd aF (0 + (tn v8))).d)))) (pp (pp (xF (Xd (Zz aF) (0 + (tn v8)) 2 [(ii v2)])) (fl dE nn)) (ww o1 (ww o0 (tt k0 nn))))))))))) (fun k0 => (sl Ut 36 [] ⟨[2, 0, 3, 4, 5, 6, 1], [], v7j, v7k⟩ ⟨[], [], []⟩ [false, false] (pp (fl dE (fl aF nn)) (tt k0 nn)))))
theorem x1d (l0 : List R4) : Xo prog (Zy prog 154) (madC l0) (Zc prog 154 [(.dat l0.length (Zz l0))] true []) (y4s l0) := (sl Ut 56 [(3, 1, Zz ([] : List Int))] ⟨[2, 1, 3, 0, 4], [], madN0, madM0⟩ ⟨[], [.keep, .keep, .cells [.grow 4 1], .keep, .keep], []⟩ [true] (pp (fl ([] : List Int) nn) nn))
theorem w7u (l0 : List R4) (n : Nat) (vs : List AVal) (h : Yx (Xb l0) n (y4s l0) = .ret vs) : Jc prog (Zy prog 154) (Zc prog 154 [(.dat l0.length (Zz l0))] true []) vs := by
 have := Zn (x7i l0) n _ (x1d l0)
 rwa [h] at this
end Go.Am
namespace Go.Am
open Go.Proofs.Tryz
open Go.Proofs Go.Sort Go.Shelf Go.RowKit Go.Lib
theorem x5m {i n : Nat} (h : i < n) : decide ((i : Int) < (n : Int)) = true := decide_eq_true (by omega)
theorem y0y {σ : Type} (step : σ → Xa σ) (a b : Nat) (s : Xa σ) : Yx step (a + b) s = Yx step a (Yx step b s) := by
 induction b generalizing s with
 | zero => cases s <;> simp [Yx]
 | succ b ih => cases s with
  | to s => exact ih (step s)
  | ret vs => simp only [Zm]
  | stuck => cases a <;> cases b <;> rfl
theorem x5n {i : Nat} : decide ((i : Int) ≥ 0) = true := decide_eq_true (by omega)
def z1o {α : Type} [Yt α] (out : List α) : List AVal := bif decide ((out.length : Int) > 400) then [.nils, .int .i64 4] else [.dat out.length (Zz out), .int .i64 0]
def x9c {α : Type} [Yt α] (e : Int) (L : List α) : List AVal := bif e != 0 then [.nils, .int .i64 e] else [.dat L.length (Zz L), .int .i64 0]
def w9j {α : Type} (e : Int) (L : List α) : List α := bif e != 0 then [] else L
theorem y4h {α : Type} [Yt α] (e : Int) (L : List α) (ρ : Rho) (u : Value) (hu : VRel ρ (Ki (x9c e L)) u) : VRel ρ (.tup [.dat (w9j e L).length (Zz (w9j e L)), .int .i64 e]) u := by
 unfold x9c at hu
 unfold w9j
 by_cases h : e = 0
 ·subst h; exact hu
 ·have h : (e != 0) = true := by simpa using h
  rw [h] at hu ⊢
  exact z7m (.cons (z2f α) (RLe.refl _)) ρ u hu
theorem x0n {α : Type} [Yt α] (e : Int) (L : List α) : pf 3 (Ki (x9c e L)) = true := by
 unfold x9c
 cases (e != 0) <;> rfl
def x8s (n : Nat) : Int := bif decide ((n : Int) > 400) then 4 else 0
theorem y1l {α : Type} [Yt α] (L : List α) : z1o L = x9c (x8s L.length) L := by
 unfold z1o x9c x8s
 cases decide ((L.length : Int) > 400) <;> rfl
theorem x4d {α : Type} [Yt α] {e : Int} (L : List α) (h : (e != 0) = true) : x9c e L = [.nils, .int .i64 e] := by unfold x9c; rw [h]; rfl
theorem y2r : ∀ (L : List R3) (o last : Int) (inn : Bool) (out : List R2), (swF L o last inn out).length ≤ out.length + L.length
 | [], _, _, _, out => Nat.le_refl _
 | e :: r, o, last, inn, out => by
  rw [z8o]
  have := y2r r (o + e.c) e.a (decide (o + e.c > 0)) (Qh out last inn e.a)
  have := z6b out last inn e.a
  simp only [List.length_cons]; omega
theorem y9j (l : List R3) : (z4j l).length = l.length := by
 by_cases h : y6b l = true
 ·exact (Qt l h).1.length_eq
 ·unfold z4j; rw [dif_neg h]
theorem y9m (l : List R2) : (Xg l).length ≤ 800 := by
 unfold Xg
 by_cases h : 400 < l.length
 ·rw [decide_eq_true h]; exact Nat.zero_le _
 ·rw [decide_eq_false h]
  cases l.all z8a
  ·exact Nat.zero_le _
  ·show (swV l).length ≤ 800
   have h1 := y2r (z4j (Jy l)) 0 0 false []
   rw [y9j, z2l] at h1
   simp only [List.length_nil] at h1
   unfold swV; omega
def z2o (r : R4) : Bool := decide (r.a < r.c) && (decide (r.b < r.d) && (decide (r.a ≥ -1000000) && (decide (r.a ≤ 1000000) && (decide (r.c ≥ -1000000) && (decide (r.c ≤ 1000000) && (decide (r.b ≥ -1000000) && (decide (r.b ≤ 1000000) && (decide (r.d ≥ -1000000) && decide (r.d ≤ 1000000)))))))))
def D4 : Dim R4 R2 := ⟨R4.a, R4.c, fun r => ⟨r.b, r.d⟩, fun x x' s => ⟨x, s.a, x', s.b⟩, fun x r => ⟨r.a, r.b, x, r.d⟩, Xg, Jh⟩
theorem D4_sec (l : List R4) (x : Int) : (D4.sec l x).length ≤ 1000 := Nat.le_trans (y9m _) (by omega)
section
variable (l : List R4) (hl : l.length ≤ 400)
include hl
theorem v3l (i : Nat) (out : List R4) (last : List R2) (first fin x x' : Int) : ∀ (k j : Nat) (acc : List R2), j + k = l.length → acc.length ≤ j →
  ∃ n, ∀ N, Yx (Xb l) (N + n) (.to (.h2 (i : Int) (j : Int) out last first fin ((D4.cuts l).length) (Xx (Yi (D4.ends l))) x x' acc)) = Yx (Xb l) N (.to (.h2 (i : Int) (l.length : Int) out last first fin ((D4.cuts l).length) (Xx (Yi (D4.ends l))) x x' (acc ++ D4.inn (l.drop j) x)))
 | 0, j, acc, h, ha => by
  refine ⟨0, fun N => ?_⟩
  rw [List.drop_eq_nil_of_le (by omega), show D4.inn ([] : List R4) x = [] from rfl, List.append_nil, Nat.add_zero, show j = l.length by omega]
 | k + 1, j, acc, h, ha => by
  have hj : j < l.length := by omega
  obtain ⟨n, hn⟩ := v3l i out last first fin x x' k (j + 1) (acc ++ D4.inn [rd l j] x) (by omega) (by have := D4.inn_length [rd l j] x; simp only [List.length_append, List.length_singleton] at *; omega)
  refine ⟨n + 1, fun N => ?_⟩
  have e : D4.inn (l.drop j) x = D4.inn [rd l j] x ++ D4.inn (l.drop (j + 1)) x := by
   rw [Ye hj, ← D4.inn_append]; rfl
  rw [e, ← Nat.add_assoc, Zv, ← List.append_assoc, ← hn N]
  by_cases h1 : D4.lo (rd l j) ≤ x
  ·by_cases h2 : x < D4.hi (rd l j)
   ·rw [D4.inn_t _ _ h1 h2]
    simp only [D4] at h1 h2 ⊢
    simp (disch := omega) only [Xb, Xp, Zb, Zq, Zo, Zr, Yz, Yu, Yk, Zf, Zj, Zx, Ya, Zk, Nat.zero_add, decide_true, Bool.and_true, Bool.true_and, cond_true, cond_false]
   ·rw [D4.inn_f2 _ _ h2, List.append_nil]
    simp only [D4] at h1 h2
    simp (disch := omega) only [Xb, Xp, Zt, Zb, Zq, Zo, Zr, Yz, Yu, Yk, Zf, Zj, Zx, Ya, Zk, Nat.zero_add, decide_true, Bool.and_true, Bool.true_and, cond_true, cond_false]
  ·rw [D4.inn_f1 _ _ h1, List.append_nil]
   simp only [D4] at h1
   simp (disch := omega) only [Xb, u0a, Zb, Zq, Zo, Zr, Yz, Yu, Yk, Zf, Zj, Zx, Ya, Zk, Nat.zero_add, decide_true, Bool.and_true, Bool.true_and, cond_true, cond_false]
theorem v3k (i : Nat) (hi : i ≤ 1000) (x x' : Int) (s last : List R2) (first : Int) (inn : List R2) (hs : s.length ≤ 1000) : ∀ (k j : Nat) (out : List R4), j + k = s.length → out.length ≤ 10000000 + j →
  ∃ n, ∀ N, Yx (Xb l) (N + n) (.to (.h3 x x' s (s.length : Int) (j : Int) s (i : Int) out last first ((D4.cuts l).length) (Xx (Yi (D4.ends l))) inn)) = Yx (Xb l) N (.to (.h1 ((i + 1 : Nat) : Int) (out ++ (s.drop j).map (D4.put x x')) last first x' ((D4.cuts l).length) (Xx (Yi (D4.ends l)))))
 | 0, j, out, h, ho => by
  have _u := hl
  refine ⟨1, fun N => ?_⟩
  rw [List.drop_eq_nil_of_le (by omega), Zv]
  simp (disch := omega) only [Xb, Zt, Zj, Zx, cond_false, List.map_nil, List.append_nil]
 | k + 1, j, out, h, ho => by
  obtain ⟨n, hn⟩ := v3k i hi x x' s last first inn hs k (j + 1) (out ++ [D4.put x x' (rd s j)]) (by omega) (by simp; omega)
  refine ⟨n + 1, fun N => ?_⟩
  have := hn N
  rw [Ye (show j < s.length by omega), List.map_cons, ← Nat.add_assoc, Zv]
  simp (disch := omega) only [Xb, Zb, Zq, Zo, Zr, Yz, Yu, Yk, Zf, Zj, Zx, Ya, Zk, Nat.zero_add, decide_true, Bool.and_true, Bool.true_and, cond_true, cond_false]
  rw [List.append_assoc] at this
  exact this
theorem v3j (i : Nat) (hi : i ≤ 1000) (x x' fin : Int) (s last : List R2) (first : Int) (inn : List R2) : ∀ (k j : Nat) (out : List R4), j + k = out.length → out.length ≤ 10000000 →
  ∃ n, ∀ N, Yx (Xb l) (N + n) (.to (.h4 x' (j : Int) x s (i : Int) out last first fin ((D4.cuts l).length) (Xx (Yi (D4.ends l))) inn)) = Yx (Xb l) N (.to (.h1 ((i + 1 : Nat) : Int) (D4.grow out j x') last first x' ((D4.cuts l).length) (Xx (Yi (D4.ends l)))))
 | 0, j, out, h, ho => by
  have _u := hl
  refine ⟨1, fun N => ?_⟩
  rw [D4.grow_nil _ _ _ (by omega), Zv]
  simp (disch := omega) only [Xb, Zt, Zj, Zx, cond_false]
 | k + 1, j, out, h, ho => by
  obtain ⟨n, hn⟩ := v3j i hi x x' fin s last first inn k (j + 1) (out.set j (D4.ext x' (rd out j))) (by simp; omega) (by simpa using ho)
  refine ⟨n + 1, fun N => ?_⟩
  have := hn N
  rw [D4.grow_set out j _ (by omega)] at this
  rw [← Nat.add_assoc, Zv]
  simp (disch := omega) only [Xb, Zb, Zq, Zo, Zr, Yz, Yu, Yk, Zf, Zj, Zx, Ya, Zk, Nat.zero_add, decide_true, Bool.and_true, Bool.true_and, cond_true, cond_false]
  exact this
theorem w3d : ∀ (k i : Nat) (s : Sw R4 R2), k = (D4.cuts l).length - 1 - i → i ≤ (D4.cuts l).length → s.out.length ≤ i * 1000 → s.last.length ≤ 1000 → s.first ≤ s.out.length →
  ∃ n, Yx (Xb l) n (.to (.h1 ((i + 1 : Nat) : Int) s.out s.last (s.first : Int) s.fin ((D4.cuts l).length) (Xx (Yi (D4.ends l))))) = .ret (z1o (D4.go l k i s).out)
 | 0, i, s, h, hi, ho, hla, hf => by
  have hc := D4.cuts_length l
  refine ⟨1, ?_⟩
  rw [Zv, show D4.go l 0 i s = s from rfl]
  unfold z1o
  by_cases q : (s.out.length : Int) > 400
  ·simp (disch := omega) only [Xb, Zt, Yn, cond_true, cond_false, Zm]
  ·simp (disch := omega) only [Xb, Zt, Xw, cond_true, cond_false, Zm]
 | k + 1, i, s, h, hi, ho, hla, hf => by
  have hc := D4.cuts_length l
  have hi1 : i + 1 < (D4.cuts l).length := by omega
  have hpl : (Xx (Yi (D4.ends l))).length = 2 * l.length := by rw [Wf, Wj, D4.ends_length]
  have r0 : rd (Xx (Yi (D4.ends l))) i = rd (D4.cuts l) i := Jx _ _ (by show i < (D4.cuts l).length; omega)
  have r1 : rd (Xx (Yi (D4.ends l))) (i + 1) = rd (D4.cuts l) (i + 1) := Jx _ _ (by show i + 1 < (D4.cuts l).length; omega)
  have hbig : i * 1000 ≤ 1000 * 1000 := Nat.mul_le_mul_right _ (by omega)
  have hsl := D4_sec l (rd (D4.cuts l) i)
  have hsd : D4.sec l (rd (D4.cuts l) i) = Xg (D4.inn l (rd (D4.cuts l) i)) := rfl
  obtain ⟨n3, h3⟩ := v3l l hl (i + 1) s.out s.last (s.first : Int) s.fin (rd (D4.cuts l) i) (rd (D4.cuts l) (i + 1)) l.length 0 [] (Nat.zero_add _) (Nat.le_refl _)
  simp only [List.drop_zero, List.nil_append, z1c] at h3
  have w1 : z9y (D4.inn l (rd (D4.cuts l) i)) = true := rfl
  have w2 : Vz s.last (Xg (D4.inn l (rd (D4.cuts l) i))) = true := decide_eq_true (by omega)
  have ol := D4.one_length l (rd (D4.cuts l) i) (rd (D4.cuts l) (i + 1)) s
  have st0 : ∀ N, Yx (Xb l) (N + n3 + 1) (.to (.h1 ((i + 1 : Nat) : Int) s.out s.last (s.first : Int) s.fin ((D4.cuts l).length) (Xx (Yi (D4.ends l))))) = Yx (Xb l) N (.to (.h2 ((i + 1 : Nat) : Int) (l.length : Int) s.out s.last (s.first : Int) s.fin ((D4.cuts l).length) (Xx (Yi (D4.ends l))) (rd (D4.cuts l) i) (rd (D4.cuts l) (i + 1)) (D4.inn l (rd (D4.cuts l) i)))) := fun N => by
   rw [← h3 N, Zv]
   have e1 : IntKind.wrap .i64 (((i + 1 : Nat) : Int) - 1) = (i : Int) := by rw [Zd]; exact Zj (by omega)
   simp (disch := omega) only [Xb, e1, r0, r1, Zb, Zq, Zo, Zr, Yz, Yu, Yk, Zf, Zj, Zx, Ya, Zk, Nat.zero_add, decide_true, Bool.and_true, Bool.true_and, cond_true, cond_false]
  rcases Yy (decide (0 < (D4.sec l (rd (D4.cuts l) i)).length) && ((s.fin == rd (D4.cuts l) i) && D4.same s.last (D4.sec l (rd (D4.cuts l) i)))) with q | q
  ·obtain ⟨n5, h5⟩ := v3j l hl (i + 1) (by omega) (rd (D4.cuts l) i) (rd (D4.cuts l) (i + 1)) s.fin (D4.sec l (rd (D4.cuts l) i)) s.last (s.first : Int) (D4.inn l (rd (D4.cuts l) i)) (s.out.length - s.first) s.first s.out (by omega) (by omega)
   have e : D4.one l (rd (D4.cuts l) i) (rd (D4.cuts l) (i + 1)) s = ⟨D4.grow s.out s.first (rd (D4.cuts l) (i + 1)), s.last, s.first, rd (D4.cuts l) (i + 1)⟩ := by unfold Dim.one; rw [q]; rfl
   obtain ⟨n0, h0⟩ := w3d k (i + 1) (D4.one l (rd (D4.cuts l) i) (rd (D4.cuts l) (i + 1)) s) (by omega) (by omega) (by omega) (by rw [e]; exact hla) (by rw [e]; simpa [Dim.grow_length] using hf)
   refine ⟨n0 + n5 + 1 + n3 + 1, ?_⟩
   rw [st0 (n0 + n5 + 1), Zv]
   simp only [Bool.and_eq_true, decide_eq_true_eq] at q
   obtain ⟨q1, q2, q3⟩ := q
   have q3' : Jh s.last (Xg (D4.inn l (rd (D4.cuts l) i))) = true := q3
   rw [hsd] at q1
   simp (disch := omega) only [Xb, Zb, Zq, Zt, Yn, q2, q3', w1, w2, cond_true, cond_false]
   rw [← hsd, h5 n0]
   simp only [Dim.go]
   rw [e] at h0 ⊢
   exact h0
  ·obtain ⟨n4, h4⟩ := v3k l hl (i + 1) (by omega) (rd (D4.cuts l) i) (rd (D4.cuts l) (i + 1)) (D4.sec l (rd (D4.cuts l) i)) (D4.sec l (rd (D4.cuts l) i)) (s.out.length : Int) (D4.inn l (rd (D4.cuts l) i)) hsl (D4.sec l (rd (D4.cuts l) i)).length 0 s.out (Nat.zero_add _) (by omega)
   simp only [List.drop_zero, z1c] at h4
   have e : D4.one l (rd (D4.cuts l) i) (rd (D4.cuts l) (i + 1)) s = ⟨s.out ++ (D4.sec l (rd (D4.cuts l) i)).map (D4.put (rd (D4.cuts l) i) (rd (D4.cuts l) (i + 1))), D4.sec l (rd (D4.cuts l) i), s.out.length, rd (D4.cuts l) (i + 1)⟩ := by unfold Dim.one; rw [q]; rfl
   obtain ⟨n0, h0⟩ := w3d k (i + 1) (D4.one l (rd (D4.cuts l) i) (rd (D4.cuts l) (i + 1)) s) (by omega) (by omega) (by omega) (by rw [e]; exact hsl) (by rw [e]; simp)
   have hg : Yx (Xb l) 1 (.to (.h2 ((i + 1 : Nat) : Int) (l.length : Int) s.out s.last (s.first : Int) s.fin ((D4.cuts l).length) (Xx (Yi (D4.ends l))) (rd (D4.cuts l) i) (rd (D4.cuts l) (i + 1)) (D4.inn l (rd (D4.cuts l) i)))) = .to (.h3 (rd (D4.cuts l) i) (rd (D4.cuts l) (i + 1)) (D4.sec l (rd (D4.cuts l) i)) ((D4.sec l (rd (D4.cuts l) i)).length : Int) 0 (D4.sec l (rd (D4.cuts l) i)) ((i + 1 : Nat) : Int) s.out (D4.sec l (rd (D4.cuts l) i)) (s.out.length : Int) ((D4.cuts l).length) (Xx (Yi (D4.ends l))) (D4.inn l (rd (D4.cuts l) i))) := by
    rw [show (1 : Nat) = 0 + 1 from rfl, Zv]
    rw [hsd] at q ⊢
    have e3 : D4.same s.last (Xg (D4.inn l (rd (D4.cuts l) i))) = Jh s.last (Xg (D4.inn l (rd (D4.cuts l) i))) := rfl
    rw [e3] at q
    by_cases q1 : 0 < (Xg (D4.inn l (rd (D4.cuts l) i))).length
    ·rw [decide_eq_true q1, Bool.true_and] at q
     rcases Yy (s.fin == rd (D4.cuts l) i) with q2 | q2
     ·rw [q2, Bool.true_and] at q
      simp (disch := omega) only [Xb, Zb, Zq, Zt, Yn, q2, q, w1, w2, cond_true, cond_false]
      rfl
     ·simp (disch := omega) only [Xb, Zb, Zq, Zt, Yn, q2, w1, w2, cond_true, cond_false]
      rfl
    ·simp (disch := omega) only [Xb, Zb, Zq, Zt, Xw, w1, w2, cond_true, cond_false]
     rfl
   refine ⟨n0 + n4 + 1 + n3 + 1, ?_⟩
   rw [st0 (n0 + n4 + 1), y0y _ (n0 + n4) 1, hg, h4 n0]
   simp only [Dim.go]
   rw [e] at h0 ⊢
   exact h0
theorem v3m : ∀ (k i : Nat) (acc : List Int), i + k = l.length → acc = D4.ends (l.take i) → ∃ n, Yx (Xb l) n (.to (.h0 (i : Int) acc)) = .ret (z1o (D4.go l ((D4.cuts l).length - 1) 0 ⟨[], [], 0, 0⟩).out)
 | 0, i, acc, h, ha => by
  have e : acc = D4.ends l := by rw [ha, List.take_of_length_le (by omega)]
  subst e
  have hle := D4.ends_length l
  obtain ⟨n, hn⟩ := w3d l hl ((D4.cuts l).length - 1) 0 ⟨[], [], 0, 0⟩ (by omega) (Nat.zero_le _) (Nat.zero_le _) (Nat.zero_le _) (Nat.zero_le _)
  refine ⟨n + 1, ?_⟩
  rw [Zv]
  simp (disch := omega) only [Xb, Uu, Km, z7a, Zt, Yu, Yk, decide_true, cond_true, cond_false]
  exact hn
 | k + 1, i, acc, h, ha => by
  have hle := D4.ends_length (l.take i)
  have fV : acc.length ≤ 2 * i := by rw [ha, hle]; simp; omega
  obtain ⟨n, hn⟩ := v3m k (i + 1) (acc ++ D4.ends [rd l i]) (by omega) (by
   rw [ha, List.take_add_one]
   have : l[i]? = some (rd l i) := by rw [Xq (show i < l.length by omega)]; exact List.getElem?_eq_getElem _
   rw [this, D4.ends_append]; rfl)
  refine ⟨n + 1, ?_⟩
  rw [Zv]
  simp (disch := omega) only [Xb, Zb, Zq, Zo, Zr, Yz, Yu, Yk, Zf, Zj, Zx, Ya, Zk, Nat.zero_add, decide_true, Bool.and_true, Bool.true_and, cond_true, cond_false]
  exact hn
end
def madE (l : List R4) : Int := x8s (D4.out l).length
def Jt (l : List R4) : List R4 := w9j (madE l) (D4.out l)
def z5g (l : List R4) : Int := madE l
def z2g (l : List R4) : Bool := decide (l.length ≤ 400)
theorem v7i (l : List R4) (h : z2g l = true) : ∃ n, Yx (Xb l) n (y4s l) = .ret (x9c (madE l) (D4.out l)) := by
 rw [show x9c (madE l) (D4.out l) = z1o (D4.out l) from (y1l _).symm]
 exact v3m l (of_decide_eq_true h) l.length 0 [] (Nat.zero_add _) rfl
def vl4V (a b c d : Int) : Bool := z2o ⟨a, b, c, d⟩
theorem v5a (a b c d : Int) : ∃ N, Yx (y9d a b c d) N (z8n a b c d) = .ret [.bool (vl4V a b c d)] := ⟨0, by
 unfold z8n vl4V z2o
 simp only [x3c]
 cases decide (a < c) <;> cases decide (b < d) <;> cases decide (a ≥ -1000000) <;> cases decide (a ≤ 1000000) <;> cases decide (c ≥ -1000000) <;> cases decide (c ≤ 1000000) <;> cases decide (b ≥ -1000000) <;> cases decide (b ≤ 1000000) <;> cases decide (d ≥ -1000000) <;> rfl⟩
def fVl4 : List AVal → Option (AVal × Bool)
 | [.agg [.int .i64 aU, .int .i64 aT, .int .i64 aQ, .int .i64 bD]] => some (.bool (vl4V aU aT aQ bD), true)
 | _ => none
theorem v8j {S : Specs} (hS : Zu prog S) : Zu prog (S.with x4l fVl4) := by
 refine z0z hS (by kernel_rfl) fun args v h => ?_
 unfold fVl4 at h
 split at h
 ·rename_i aU aT aQ bD
  simp only [Option.some.injEq, Prod.mk.injEq, and_true] at h
  subst h
  obtain ⟨N, hN⟩ := v5a aU aT aQ bD
  exact ⟨_, _, (.cons (.refl _) .nil), rfl, w5q aU aT aQ bD N _ hN, 3, rfl⟩
 ·cases h
def fMad : List AVal → Option (AVal × Bool)
 | [a0] => match asL R4 a0 with
  | some (L0, g0, n0) => some (.tup [.dat (Jt L0).length (Zz (Jt L0)), .int .i64 (z5g L0)], isT R4 n0 g0 && (z2g L0))
  | _ => none
 | _ => none
theorem v8z {S : Specs} (hS : Zu prog S) : Zu prog (S.with w2t fMad) := by
 refine v8k hS (by kernel_rfl) fun args v h => ?_
 unfold fMad at h
 split at h
 ·rename_i a0
  split at h
  ·rename_i L0 g0 n0 e0
   simp only [Option.some.injEq, Prod.mk.injEq, Bool.and_eq_true] at h
   obtain ⟨rfl, ho0, hw⟩ := h
   obtain ⟨N, hN⟩ := v7i L0 hw
   exact ⟨_, _, (.cons (asL_le e0 ho0) .nil), y4h _ _, w7u L0 N _ hN, 3, x0n _ _⟩
  ·cases h
 ·cases h
def T6v : Specs := (T6.with x4l fVl4)
theorem T6v_ok : Zu prog T6v := (v8j Ut)
def T6m : Specs := (T6v.with w2t fMad)
theorem y2a : Zu prog T6m := (v8z T6v_ok)
end Go.Am
namespace Go.Am
open Go.Proofs.Tryz
open Go.Proofs
inductive rgmS where
 | h0 (v8 : Int)
def rgmC (l0 : List R4) : rgmS → Cfg
 | .h0 v8 => ⟨⟨19, 0, true⟩, none, (Zg prog 171 [1, 0, 1, 0, 0] 0), none, (Zy prog 3), ⟨Yq [(0, (.dat l0.length (Zz l0))), (1, (.fn 152 [])), (7, (ii (l0.length : Int))), (8, (ii v8))], Va [] 0, 0, [], true⟩, [⟨⟨9, 0, true⟩, (Vu prog 151 [1, 0] 2), (Zg prog 151 [1, 0] 1), none, (Zy prog 3), Yq [(5, (.dat l0.length (Zz l0))), (6, (.fn 152 []))]⟩, ⟨⟨13, 0, true⟩, (Vu prog 130 [1, 1, 0, 0] 1), (Zg prog 130 [1, 1, 0, 0] 1), none, (Zy prog 77), Yq [(0, (.dat l0.length (Zz l0))), (7, (.dat l0.length (Zz l0)))]⟩], .leaf⟩
def rgmN0 : List (Option (List Nat)) := [some [0, 1, 7, 8], some [5, 6], some [0, 7]]
def rgmM0 : List (Option (List Nat)) := []
def z1z (l0 : List R4) : rgmS → Xa rgmS
 | .h0 v8 => (bif (decide (v8 < (l0.length : Int))) then (bif ((decide (0 ≤ v8 ∧ v8 < (l0.length : Int))) && true) then (bif (!(vl4V (rd l0 v8.toNat).a (rd l0 v8.toNat).b (rd l0 v8.toNat).c (rd l0 v8.toNat).d)) then (bif (decide (v8 ≥ 0)) then (.ret [.nils, (.int .i64 8)]) else (bif (z2g (cvT l0)) then (.ret [(.dat (Jt (cvT l0)).length (Zz (Jt (cvT l0)))), (.int .i64 (z5g (cvT l0)))]) else .stuck)) else (.to (.h0 (IntKind.wrap .i64 (v8 + 1))))) else .stuck) else (bif (z2g (cvT l0)) then (.ret [(.dat (Jt (cvT l0)).length (Zz (Jt (cvT l0)))), (.int .i64 (z5g (cvT l0)))]) else .stuck))
def z4u (l0 : List R4) : Xa rgmS := (bif (decide ((l0.length : Int) > 400)) then (.ret [.nils, (.int .i64 4)]) else (.to (.h0 0)))
theorem x6x (l0 : List R4) : ∀ s, Xo prog (Zy prog 130) (rgmC l0) (rgmC l0 s) (z1z l0 s)
 | .h0 v8 => (lb (fun k0 => (lo fun aG => (lb (fun k1 => (lb (fun k2 => (lr 13 130 [1, 1, 0, 1, 0, 0] 1 77 [(2, .nils), (3, (ii 8))] (sl y2a 54 [] ⟨[], [], [some [2, 3]], []⟩ ⟨[], [], []⟩ (trs 3 []) (tt k2 (tt k1 (ww aG (tt k0 nn))))))) (fun k2 => (lo fun o0 => (lr 13 3 [1, 1, 1, 1, 1, 1, 0] 1 77 [(2, (.dat (Jt (cvT l0)).length (Zz (Jt (cvT l0))))), (3, (ii (z5g (cvT l0))))] (sl y2a 59 [] ⟨[], [], [some [2, 3]], []⟩ ⟨[], [], []⟩ [true, true, false] (pp (pp (xr l0) (xw o0)) (tt k2 (tt k1 (ww aG (tt k0 nn))))))))))) (fun k1 => (sl y2a 44 [] ⟨[], [], rgmN0, rgmM0⟩ ⟨[], [], []⟩ [true, false] (tt k1 (ww aG (tt k0 nn)))))))) (fun k0 => (lo fun o0 => (lr 13 3 [1, 1, 1, 1, 1, 1, 0] 1 77 [(2, (.dat (Jt (cvT l0)).length (Zz (Jt (cvT l0))))), (3, (ii (z5g (cvT l0))))] (sl y2a 28 [] ⟨[], [], [some [2, 3]], []⟩ ⟨[], [], []⟩ [false, false] (pp (pp (xr l0) (xw o0)) (tt k0 nn)))))))
theorem x0l (l0 : List R4) : Xo prog (Zy prog 130) (rgmC l0) (Zc prog 130 [(.dat l0.length (Zz l0))] true []) (z4u l0) := (lb (fun k0 => (lr 13 130 [1, 0, 1, 0, 0] 1 77 [(2, .nils), (3, (ii 4))] (sl y2a 18 [] ⟨[], [], [some [2, 3]], []⟩ ⟨[], [], []⟩ [true] (tt k0 nn)))) (fun k0 => (sl y2a 41 [] ⟨[], [], rgmN0, rgmM0⟩ ⟨[], [], []⟩ [false] (tt k0 nn))))
theorem w6v (l0 : List R4) (n : Nat) (vs : List AVal) (h : Yx (z1z l0) n (z4u l0) = .ret vs) : Jc prog (Zy prog 130) (Zc prog 130 [(.dat l0.length (Zz l0))] true []) vs := by
 have := Zn (x6x l0) n _ (x0l l0)
 rwa [h] at this
end Go.Am
namespace Go.Am
open Go.Proofs.Tryz
open Go.Proofs
open Go.Sort Go.Shelf Go.RowKit Go.Lib
theorem v2h (l : List R4) (hl : l.length ≤ 400) : ∀ (k i : Nat), i + k = l.length → (∀ s ∈ l.take i, z2o s = true) → ∃ n, Yx (z1z l) n (.to (.h0 (i : Int))) = .ret (bif l.all z2o then [.dat (Jt l).length (Zz (Jt l)), .int .i64 (z5g l)] else [.nils, .int .i64 8])
 | 0, i, h, ht => by
  have hv : l.all z2o = true := List.all_eq_true.2 fun s hs => ht s (by rw [List.take_of_length_le (by omega)]; exact hs)
  have w : z2g l = true := decide_eq_true hl
  refine ⟨1, ?_⟩
  rw [Zv, hv, cond_true]
  simp (disch := omega) only [z1z, Zb, w, Zt, cond_true, cond_false, Zm]
 | k + 1, i, h, ht => by
  have hi : i < l.length := by omega
  have hs : z1z l (.h0 (i : Int)) = bif z2o (rd l i) then .to (.h0 ((i + 1 : Nat) : Int)) else .ret [.nils, .int .i64 8] := by
   have e : vl4V (rd l i).a (rd l i).b (rd l i).c (rd l i).d = z2o (rd l i) := rfl
   simp (disch := omega) only [z1z, e, y5m, x5m, x5n, Zr, Zj, Zx, Zk, Bool.and_true, cond_true, cond_false]
  rcases Yy (z2o (rd l i)) with q | q
  ·obtain ⟨n, hn⟩ := v2h l hl k (i + 1) (by omega) (fun s hs => by
    rw [List.take_add_one] at hs
    have e : l[i]? = some (rd l i) := by rw [Xq hi]; exact List.getElem?_eq_getElem _
    rw [e] at hs
    simp only [Option.toList_some, List.mem_append, List.mem_singleton] at hs
    rcases hs with hs | rfl
    ·exact ht s hs
    ·exact q)
   refine ⟨n + 1, ?_⟩
   rw [Zv, hs, q, cond_true]
   exact hn
  ·have hv : l.all z2o = false := Bool.eq_false_iff.2 fun e => by
    have := List.all_eq_true.1 e (rd l i) (by rw [Xq hi]; exact List.getElem_mem hi)
    rw [this] at q; cases q
   refine ⟨1, ?_⟩
   rw [Zv, hv, cond_false, hs, q, cond_false, Zm]
theorem w6u (l : List R4) : ∃ n, Yx (z1z l) n (z4u l) = .ret (bif decide (400 < l.length) then [.nils, .int .i64 4] else bif l.all z2o then [.dat (Jt l).length (Zz (Jt l)), .int .i64 (z5g l)] else [.nils, .int .i64 8]) := by
 unfold z4u
 by_cases h : 400 < l.length
 ·refine ⟨0, ?_⟩
  rw [decide_eq_true h, Yn (show (l.length : Int) > 400 by omega)]; rfl
 ·obtain ⟨n, hn⟩ := v2h l (by omega) l.length 0 (Nat.zero_add _) (fun s hs => by simp at hs)
  refine ⟨n, ?_⟩
  rw [decide_eq_false h, Xw (show ¬ (l.length : Int) > 400 by omega), cond_false, cond_false]
  exact hn
def Yj (l : List R4) : List R4 := bif decide (400 < l.length) then [] else bif l.all z2o then (bif decide (((D4.out l).length : Int) > 400) then [] else D4.out l) else []
def Wp (l : List R4) : Int := bif decide (400 < l.length) then 4 else bif l.all z2o then (bif decide (((D4.out l).length : Int) > 400) then 4 else 0) else 8
def z0c (l : List R4) : Bool := true
theorem v6q (l : List R4) (h : z0c l = true) : ∃ n, Yx (z1z l) n (z4u l) = .ret (bif decide (400 < l.length) then [.nils, .int .i64 4] else bif l.all z2o then [.dat (Yj l).length (Zz (Yj l)), .int .i64 (Wp l)] else [.nils, .int .i64 8]) := by
 obtain ⟨n, hn⟩ := w6u l
 refine ⟨n, hn.trans ?_⟩
 cases h1 : decide (400 < l.length) <;> cases h2 : l.all z2o <;> simp only [cond_true, cond_false]
 have e0 : Jt l = Yj l := by
  unfold Jt madE w9j x8s Yj
  rw [h1, h2]
  cases decide (((D4.out l).length : Int) > 400) <;> rfl
 have e1 : z5g l = Wp l := by
  unfold z5g madE x8s Wp
  rw [h1, h2]; rfl
 rw [e0, e1]
def fRgm : List AVal → Option (AVal × Bool)
 | [a0] => match asL R4 a0 with
  | some (L0, g0, n0) => some (.tup [.dat (Yj L0).length (Zz (Yj L0)), .int .i64 (Wp L0)], isT R4 n0 g0 && (z0c L0))
  | _ => none
 | _ => none
theorem v8s {S : Specs} (hS : Zu prog S) : Zu prog (S.with x4m fRgm) := by
 refine v8k hS (by kernel_rfl) fun args v h => ?_
 unfold fRgm at h
 split at h
 ·rename_i a0
  split at h
  ·rename_i L0 g0 n0 e0
   simp only [Option.some.injEq, Prod.mk.injEq, Bool.and_eq_true] at h
   obtain ⟨rfl, ho0, hw⟩ := h
   obtain ⟨N, hN⟩ := v6q L0 hw
   refine ⟨_, _, (.cons (asL_le e0 ho0) .nil), ?_, w6v L0 N _ hN, 3, ?_⟩
   ·cases h1 : decide (400 < L0.length) <;> cases h2 : L0.all z2o <;> simp only [Yj, Wp, h1, h2, cond_true, cond_false]
    ·exact fun ρ u hu => z7m (.cons (z2f R4) (RLe.refl _)) ρ u hu
    ·exact fun ρ u hu => hu
    ·exact fun ρ u hu => z7m (.cons (z2f R4) (RLe.refl _)) ρ u hu
    ·exact fun ρ u hu => z7m (.cons (z2f R4) (RLe.refl _)) ρ u hu
   ·cases decide (400 < L0.length) <;> cases L0.all z2o <;> rfl
  ·cases h
 ·cases h
def T7 : Specs := (T6m.with x4m fRgm)
theorem y8w : Zu prog T7 := (v8s y2a)
end Go.Am
namespace Go.Am
open Go.Proofs.Tryz
open Go.Proofs
inductive vl6S where
def vl6C (aU : Int) (aT : Int) (aQ : Int) (bD : Int) (bM : Int) (bE : Int) : vl6S → Cfg
 := nofun
def y9b (aU : Int) (aT : Int) (aQ : Int) (bD : Int) (bM : Int) (bE : Int) : vl6S → Xa vl6S
 := nofun
def z8m (aU : Int) (aT : Int) (aQ : Int) (bD : Int) (bM : Int) (bE : Int) : Xa vl6S := (bif (decide (aU < bD)) then (bif (decide (aT < bM)) then (bif (decide (aQ < bE)) then (bif (decide ((Wn (Wn aU aT) aQ) ≥ (-1000000))) then (bif (decide ((Xm (Xm aU aT) aQ) ≤ 1000000)) then (bif (decide ((Wn (Wn bD bM) bE) ≥ (-1000000))) then (.ret [(.bool (decide ((Xm (Xm bD bM) bE) ≤ 1000000)))]) else (.ret [(.bool false)])) else (.ret [(.bool false)])) else (.ret [(.bool false)])) else (.ret [(.bool false)])) else (.ret [(.bool false)])) else (.ret [(.bool false)]))
theorem x5v (aU : Int) (aT : Int) (aQ : Int) (bD : Int) (bM : Int) (bE : Int) : ∀ s, Xo prog (Zy prog 107) (vl6C aU aT aQ bD bM bE) (vl6C aU aT aQ bD bM bE s) (y9b aU aT aQ bD bM bE s)
 := nofun
theorem y9c (aU : Int) (aT : Int) (aQ : Int) (bD : Int) (bM : Int) (bE : Int) : Xo prog (Zy prog 107) (vl6C aU aT aQ bD bM bE) (Zc prog 107 [(.agg [(.int .i64 aU), (.int .i64 aT), (.int .i64 aQ), (.int .i64 bD), (.int .i64 bM), (.int .i64 bE)])] true []) (z8m aU aT aQ bD bM bE) := (lb (fun k0 => (lb (fun k1 => (lb (fun k2 => (lb (fun k3 => (lb (fun k4 => (lb (fun k5 => (lr 38 3 [1, 1, 1, 1, 1, 1, 0] 1 15 [(2, (.bool (decide ((Xm (Xm bD bM) bE) ≤ 1000000))))] (sl y8w 100 [] ⟨[], [], [some [2]], []⟩ ⟨[], [], []⟩ (trs 36 []) (tt k5 (tt k4 (tt k3 (tt k2 (tt k1 (tt k0 nn))))))))) (fun k5 => (lr 38 3 [1, 1, 1, 1, 1, 1, 0] 1 15 [(2, (.bool false))] (sl y8w 100 [] ⟨[], [], [some [2]], []⟩ ⟨[], [], []⟩ (trs 28 [false, false, false, false, false, false, false, false]) (tt k5 (tt k4 (tt k3 (tt k2 (tt k1 (tt k0 nn))))))))))) (fun k4 => (lr 38 3 [1, 1, 1, 1, 1, 1, 0] 1 15 [(2, (.bool false))] (sl y8w 72 [] ⟨[], [], [some [2]], []⟩ ⟨[], [], []⟩ (trs 25 [false, false, false]) (tt k4 (tt k3 (tt k2 (tt k1 (tt k0 nn)))))))))) (fun k3 => (lr 38 3 [1, 1, 1, 1, 1, 1, 0] 1 15 [(2, (.bool false))] (sl y8w 72 [] ⟨[], [], [some [2]], []⟩ ⟨[], [], []⟩ (trs 17 [false, false, false, false, false, false, false, false, false, false, false]) (tt k3 (tt k2 (tt k1 (tt k0 nn))))))))) (fun k2 => (lr 38 3 [1, 1, 1, 1, 1, 1, 0] 1 15 [(2, (.bool false))] (sl y8w 44 [] ⟨[], [], [some [2]], []⟩ ⟨[], [], []⟩ (trs 14 [false, false, false, false, false, false]) (tt k2 (tt k1 (tt k0 nn)))))))) (fun k1 => (lr 38 3 [1, 1, 1, 1, 1, 1, 0] 1 15 [(2, (.bool false))] (sl y8w 44 [] ⟨[], [], [some [2]], []⟩ ⟨[], [], []⟩ (trs 7 [false, false, false, false, false, false, false, false, false, false, false, false, false]) (tt k1 (tt k0 nn))))))) (fun k0 => (lr 38 3 [1, 1, 1, 1, 1, 1, 0] 1 15 [(2, (.bool false))] (sl y8w 44 [] ⟨[], [], [some [2]], []⟩ ⟨[], [], []⟩ [false, false, false, false, false, false, false, false, false, false, false, false, false, false, false, false, false, false, false, false] (tt k0 nn)))))
theorem w5p (aU : Int) (aT : Int) (aQ : Int) (bD : Int) (bM : Int) (bE : Int) (n : Nat) (vs : List AVal) (h : Yx (y9b aU aT aQ bD bM bE) n (z8m aU aT aQ bD bM bE) = .ret vs) : Jc prog (Zy prog 107) (Zc prog 107 [(.agg [(.int .i64 aU), (.int .i64 aT), (.int .i64 aQ), (.int .i64 bD), (.int .i64 bM), (.int .i64 bE)])] true []) vs := by
 have := Zn (x5v aU aT aQ bD bM bE) n _ (y9c aU aT aQ bD bM bE)
 rwa [h] at this
end Go.Am
namespace Go.Am
open Go.Proofs.Tryz
open Go.Proofs
open Go.Sort Go.Shelf Go.RowKit Go.Lib
def Jo (r : R6) : Bool := decide (r.a < r.d) && (decide (r.b < r.e) && (decide (r.c < r.f) && (decide ((Wn (Wn r.a r.b) r.c) ≥ (-1000000)) && (decide ((Xm (Xm r.a r.b) r.c) ≤ 1000000) && (decide ((Wn (Wn r.d r.e) r.f) ≥ (-1000000)) && decide ((Xm (Xm r.d r.e) r.f) ≤ 1000000))))))
def v4z (a b c d e f : Int) : Bool := Jo ⟨a, b, c, d, e, f⟩
theorem v4y (a b c d e f : Int) : ∃ N, Yx (y9b a b c d e f) N (z8m a b c d e f) = .ret [.bool (v4z a b c d e f)] := ⟨0, by
 unfold z8m v4z Jo
 simp only [x3c]
 cases decide (a < d) <;> cases decide (b < e) <;> cases decide (c < f) <;> cases decide ((Wn (Wn a b) c) ≥ (-1000000)) <;> cases decide ((Xm (Xm a b) c) ≤ 1000000) <;> cases decide ((Wn (Wn d e) f) ≥ (-1000000)) <;> rfl⟩
def fVl6 : List AVal → Option (AVal × Bool)
 | [.agg [.int .i64 aU, .int .i64 aT, .int .i64 aQ, .int .i64 bD, .int .i64 bM, .int .i64 bE]] => some (.bool (v4z aU aT aQ bD bM bE), true)
 | _ => none
theorem v8i {S : Specs} (hS : Zu prog S) : Zu prog (S.with x4k fVl6) := by
 refine z0z hS (by kernel_rfl) fun args v h => ?_
 unfold fVl6 at h
 split at h
 ·rename_i aU aT aQ bD bM bE
  simp only [Option.some.injEq, Prod.mk.injEq, and_true] at h
  subst h
  obtain ⟨N, hN⟩ := v4y aU aT aQ bD bM bE
  exact ⟨_, _, (.cons (.refl _) .nil), rfl, w5p aU aT aQ bD bM bE N _ hN, 3, rfl⟩
 ·cases h
def T7v : Specs := (T7.with x4k fVl6)
theorem Wt : Zu prog T7v := (v8i y8w)
end Go.Am
namespace Go.Am
open Go.Proofs.Tryz
open Go.Proofs
inductive sckS where
 | h0 (v8 : Int)
 | h1 (v16 : Int) (aA : List Int)
 | h2 (v4 : Int) (aC : List R6) (bR : List R4) (bZ : Int) (cA : Int) (aJ : Nat) (aM : List Int)
 | h3 (v4 : Int) (v38 : Int) (aC : List R6) (bR : List R4) (bZ : Int) (cA : Int) (aJ : Nat) (aM : List Int) (bO : Int) (cE : Int) (aD : List R4)
 | h4 (v1 : Int) (v2 : Int) (v72 : List R4) (v73 : Int) (v74 : Int) (bP : List R4) (bF : Int) (aF : List R6) (bN : List R4) (bU : Int) (aJ : Nat) (aM : List Int) (bO : List R4)
 | h5 (v2 : Int) (v8 : Int) (cJ : Int) (bP : List R4) (bF : Int) (aF : List R6) (bN : List R4) (bU : Int) (cN : Int) (cB : Nat) (cH : List Int) (aD : List R4)
def sckC (l0 : List R6) : sckS → Cfg
 | .h0 v8 => ⟨⟨19, 0, true⟩, none, (Zg prog 124 [1, 0, 1, 0, 0] 0), none, (Zy prog 3), ⟨Yq [(0, (.dat l0.length (Zz l0))), (1, (.fn 106 [])), (7, (ii (l0.length : Int))), (8, (ii v8))], Va [] 0, 0, [], true⟩, [⟨⟨9, 0, true⟩, (Vu prog 86 [1, 0] 2), (Zg prog 86 [1, 0] 1), none, (Zy prog 3), Yq [(5, (.dat l0.length (Zz l0))), (6, (.fn 106 []))]⟩, ⟨⟨25, 0, true⟩, (Vu prog 72 [1, 1, 0, 0] 1), (Zg prog 72 [1, 1, 0, 0] 1), none, (Zy prog 15), Yq [(0, (.dat l0.length (Zz l0))), (8, (.dat l0.length (Zz l0)))]⟩], .leaf⟩
 | .h1 v16 aA => ⟨⟨36, 0, true⟩, none, (Zg prog 129 [1, 1, 0, 1, 0, 0, 1, 1, 0, 0, 1, 1, 0, 0] 0), none, (Zy prog 15), ⟨Yq [(1, (.ptr 0 0)), (3, (.ptr 2 0)), (8, (.sl 1 0 1 (.un 1))), (9, (ii 1)), (10, (ii 0)), (14, (.dat l0.length (Zz l0))), (15, (ii (l0.length : Int))), (16, (ii v16))], Va [⟨[(.sl 1 0 1 (.un 1))], 168, none⟩, ⟨[(.dat l0.length (Zz l0))], 22, none⟩, ⟨[(.sla 7 1 0 aA.length (.un 1))], 47, none⟩, ⟨[.nilf], 124, none⟩, ⟨[.nils], 30, none⟩, ⟨[(ii 0)], 24, none⟩, ⟨[.nils, .nils, (ii 0), (ii 0)], 170, none⟩, ⟨Yg aA.length (Zz aA), 3, some ⟨1, aA.length, (Zz aA)⟩⟩] 0, 8, [], true⟩, [⟨⟨65, 0, true⟩, (Vu prog 108 [1, 1, 0, 0] 1), (Zg prog 108 [1, 1, 0, 0] 1), none, (Zy prog 36), Yq [(2, (.ptr 3 0)), (4, (.ptr 4 0)), (5, (.ptr 5 0)), (6, (.ptr 6 0)), (13, (.sl 1 0 1 (.un 1)))]⟩, ⟨⟨25, 0, true⟩, (Vu prog 72 [1, 1, 1, 0, 0] 3), (Zg prog 72 [1, 1, 1, 0, 0] 1), none, (Zy prog 15), Yq [(0, (.dat l0.length (Zz l0))), (11, (.agg [.nilf])), (13, (.sl 1 0 1 (.un 1)))]⟩], .leaf⟩
 | .h2 v4 aC bR bZ cA aJ aM => ⟨⟨86, 0, true⟩, none, (Zg prog 150 [1, 0, 0] 0), none, [], ⟨Yq [(0, (.yld 0)), (1, (.ptr 5 0)), (2, (.ptr 7 0)), (4, (ii v4))], z5f [(1, ⟨[.nilf], 124, none⟩), (2, ⟨[.nils], 30, none⟩), (3, ⟨[(ii 0)], 24, none⟩), (4, ⟨[(.sla 9 6 0 aC.length (.un 6)), (.dat bR.length (Zz bR)), (ii bZ), (ii cA)], 170, none⟩), (5, ⟨[(.sla 6 1 0 aJ (.un 1))], 47, none⟩), (6, ⟨Yg aM.length (Zz aM), 3, some ⟨1, aM.length, (Zz aM)⟩⟩), (7, ⟨[(.sl 8 0 1 (.un 1))], 168, none⟩), (8, ⟨[(.dat l0.length (Zz l0))], 22, none⟩), (9, ⟨Yg aC.length (Zz aC), 68, some ⟨6, aC.length, (Zz aC)⟩⟩)], 10, [], true⟩, [⟨⟨65, 0, true⟩, none, (.inRangeFunc 0 :: (Zg prog 108 [1, 1, 0, 1, 0] 1)), none, (Zy prog 36), Yq [(4, (.ptr 2 0)), (5, (.ptr 3 0)), (6, (.ptr 4 0))]⟩, ⟨⟨25, 0, true⟩, (Vu prog 72 [1, 1, 1, 0, 0] 3), (Zg prog 72 [1, 1, 1, 0, 0] 1), none, (Zy prog 15), Yq [(0, (.dat l0.length (Zz l0))), (11, (.agg [.nilf])), (13, (.sl 8 0 1 (.un 1)))]⟩], (z5h [(0, ⟨.ready, none, 65, Yq [(2, (.ptr 1 0)), (4, (.ptr 2 0)), (5, (.ptr 3 0)), (6, (.ptr 4 0))], [15], (Xf prog 108 [1, 1, 0, 1, 0, 0]), (Xf prog 108 [1, 1, 0, 1, 0, 1])⟩)])⟩
 | .h3 v4 v38 aC bR bZ cA aJ aM bO cE aD => ⟨⟨86, 0, true⟩, none, (Zg prog 150 [1, 0, 0, 1, 0, 0, 1, 0, 1, 0, 0, 1, 1, 0, 0, 1, 1, 0, 0] 0), none, [], ⟨Yq [(0, (.yld 0)), (1, (.ptr 5 0)), (2, (.ptr 7 0)), (4, (ii v4)), (5, (.ptr 9 0)), (6, (ii 0)), (29, (.sl 8 0 1 (.un 1))), (30, (ii 1)), (31, (ii 0)), (36, (.dat l0.length (Zz l0))), (37, (ii (l0.length : Int))), (38, (ii v38))], z5f [(1, ⟨[.nilf], 124, none⟩), (2, ⟨[.nils], 30, none⟩), (3, ⟨[(ii 0)], 24, none⟩), (4, ⟨[(.sla 12 6 0 aC.length (.un 6)), (.dat bR.length (Zz bR)), (ii bZ), (ii cA)], 170, none⟩), (5, ⟨[(.sla 6 1 0 aJ (.un 1))], 47, none⟩), (6, ⟨Yg aM.length (Zz aM), 3, some ⟨1, aM.length, (Zz aM)⟩⟩), (7, ⟨[(.sl 8 0 1 (.un 1))], 168, none⟩), (8, ⟨[(.dat l0.length (Zz l0))], 22, none⟩), (9, ⟨[(ii bO), (ii cE), (.sl 10 0 1 (.ex 1))], 175, none⟩), (10, ⟨[(.sla 11 4 0 aD.length (.un 4))], 105, none⟩), (11, ⟨Yg aD.length (Zz aD), 114, some ⟨4, aD.length, (Zz aD)⟩⟩), (12, ⟨Yg aC.length (Zz aC), 68, some ⟨6, aC.length, (Zz aC)⟩⟩)], 13, [], true⟩, [⟨⟨65, 0, true⟩, none, (.inRangeFunc 0 :: (Zg prog 108 [1, 1, 0, 1, 0] 1)), none, (Zy prog 36), Yq [(4, (.ptr 2 0)), (5, (.ptr 3 0)), (6, (.ptr 4 0))]⟩, ⟨⟨25, 0, true⟩, (Vu prog 72 [1, 1, 1, 0, 0] 3), (Zg prog 72 [1, 1, 1, 0, 0] 1), none, (Zy prog 15), Yq [(0, (.dat l0.length (Zz l0))), (11, (.agg [.nilf])), (13, (.sl 8 0 1 (.un 1)))]⟩], (z5h [(0, ⟨.ready, none, 65, Yq [(2, (.ptr 1 0)), (4, (.ptr 2 0)), (5, (.ptr 3 0)), (6, (.ptr 4 0))], [15], (Xf prog 108 [1, 1, 0, 1, 0, 0]), (Xf prog 108 [1, 1, 0, 1, 0, 1])⟩)])⟩
 | .h4 v1 v2 v72 v73 v74 bP bF aF bN bU aJ aM bO => ⟨⟨101, 0, true⟩, none, (Zg prog 131 [1, 1, 1, 0, 0] 0), none, [], ⟨Yq [(0, (.ptr 0 0)), (1, (ii v1)), (2, (ii v2)), (72, (.dat v72.length (Zz v72))), (73, (ii v73)), (74, (ii v74))], z5f [(0, ⟨[(.sla 10 6 0 aF.length (.un 6)), (.dat bN.length (Zz bN)), (ii bU), (ii v2)], 170, none⟩), (2, ⟨[.nilf], 124, none⟩), (3, ⟨[.nils], 30, none⟩), (4, ⟨[(ii 0)], 24, none⟩), (5, ⟨[(.sla 6 1 0 aJ (.un 1))], 47, none⟩), (6, ⟨Yg aM.length (Zz aM), 3, some ⟨1, aM.length, (Zz aM)⟩⟩), (7, ⟨[(.sl 8 0 1 (.un 1))], 168, none⟩), (8, ⟨[(.dat l0.length (Zz l0))], 22, none⟩), (9, ⟨[(.dat bO.length (Zz bO))], 105, none⟩), (10, ⟨Yg aF.length (Zz aF), 68, some ⟨6, aF.length, (Zz aF)⟩⟩)], 11, [], true⟩, [⟨⟨65, 0, true⟩, (Vu prog 108 [1, 1, 0, 1, 0, 1, 0, 1, 1, 1] 5), (Zg prog 108 [1, 1, 0, 1, 0, 1, 0, 1, 1, 1] 1), (some 1), [], Yq [(6, (.ptr 0 0)), (54, (ii v1)), (56, (ii v2)), (57, (.dat bP.length (Zz bP)))]⟩, ⟨⟨86, 0, true⟩, (Vu prog 150 [1, 0, 0, 1, 0, 0, 1, 1, 0] 2), (Zg prog 150 [1, 0, 0, 1, 0, 0, 1, 1, 0] 1), none, [], Yq [(0, (.yld 1)), (1, (.ptr 5 0)), (2, (.ptr 7 0)), (4, (ii bF)), (82, (.yld 1)), (83, (.agg [(ii v1), (ii v2), (.sl 9 0 1 (.ex 1))]))]⟩, ⟨⟨65, 0, true⟩, none, (.inRangeFunc 1 :: (Zg prog 108 [1, 1, 0, 1, 0] 1)), none, (Zy prog 36), Yq [(4, (.ptr 3 0)), (5, (.ptr 4 0)), (6, (.ptr 0 0))]⟩, ⟨⟨25, 0, true⟩, (Vu prog 72 [1, 1, 1, 0, 0] 3), (Zg prog 72 [1, 1, 1, 0, 0] 1), none, (Zy prog 15), Yq [(0, (.dat l0.length (Zz l0))), (11, (.agg [.nilf])), (13, (.sl 8 0 1 (.un 1)))]⟩], (z5h [(1, ⟨.busy, none, 65, Yq [(2, (.ptr 2 0)), (4, (.ptr 3 0)), (5, (.ptr 4 0)), (6, (.ptr 0 0))], [15], (Xf prog 108 [1, 1, 0, 1, 0, 0]), (Xf prog 108 [1, 1, 0, 1, 0, 1])⟩)])⟩
 | .h5 v2 v8 cJ bP bF aF bN bU cN cB cH aD => ⟨⟨101, 0, true⟩, none, (Zg prog 131 [0, 1, 0, 0, 1, 0, 0] 0), none, [], ⟨Yq [(0, (.ptr 0 0)), (2, (ii v2)), (8, (ii v8))], z5f [(0, ⟨[(.sla 1 6 0 aF.length (.un 6)), (.dat bN.length (Zz bN)), (ii bU), (ii cN)], 170, none⟩), (1, ⟨Yg aF.length (Zz aF), 68, some ⟨6, aF.length, (Zz aF)⟩⟩), (3, ⟨[.nilf], 124, none⟩), (4, ⟨[.nils], 30, none⟩), (5, ⟨[(ii 0)], 24, none⟩), (6, ⟨[(.sla 7 1 0 cB (.un 1))], 47, none⟩), (7, ⟨Yg cH.length (Zz cH), 3, some ⟨1, cH.length, (Zz cH)⟩⟩), (8, ⟨[(.sl 9 0 1 (.un 1))], 168, none⟩), (9, ⟨[(.dat l0.length (Zz l0))], 22, none⟩), (10, ⟨[(.dat aD.length (Zz aD))], 105, none⟩)], 11, [], true⟩, [⟨⟨65, 0, true⟩, (Vu prog 108 [1, 1, 0, 1, 0, 1, 0, 1, 1, 1] 5), (Zg prog 108 [1, 1, 0, 1, 0, 1, 0, 1, 1, 1] 1), (some 2), [], Yq [(6, (.ptr 0 0)), (54, (ii cJ)), (56, (ii v2)), (57, (.dat bP.length (Zz bP)))]⟩, ⟨⟨86, 0, true⟩, (Vu prog 150 [1, 0, 0, 1, 0, 0, 1, 1, 0] 2), (Zg prog 150 [1, 0, 0, 1, 0, 0, 1, 1, 0] 1), none, [], Yq [(0, (.yld 2)), (1, (.ptr 6 0)), (2, (.ptr 8 0)), (4, (ii bF)), (82, (.yld 2)), (83, (.agg [(ii cJ), (ii v2), (.sl 10 0 1 (.ex 1))]))]⟩, ⟨⟨65, 0, true⟩, none, (.inRangeFunc 2 :: (Zg prog 108 [1, 1, 0, 1, 0] 1)), none, (Zy prog 36), Yq [(4, (.ptr 4 0)), (5, (.ptr 5 0)), (6, (.ptr 0 0))]⟩, ⟨⟨25, 0, true⟩, (Vu prog 72 [1, 1, 1, 0, 0] 3), (Zg prog 72 [1, 1, 1, 0, 0] 1), none, (Zy prog 15), Yq [(0, (.dat l0.length (Zz l0))), (11, (.agg [.nilf])), (13, (.sl 9 0 1 (.un 1)))]⟩], (z5h [(2, ⟨.busy, none, 65, Yq [(2, (.ptr 3 0)), (4, (.ptr 4 0)), (5, (.ptr 5 0)), (6, (.ptr 0 0))], [15], (Xf prog 108 [1, 1, 0, 1, 0, 0]), (Xf prog 108 [1, 1, 0, 1, 0, 1])⟩)])⟩
def sckN0 : List (Option (List Nat)) := [some [0, 1, 7, 8], some [5, 6], some [0, 8]]
def sckM0 : List (Option (List Nat)) := []
def v5t : List (Option (List Nat)) := [some [1, 3, 8, 9, 10, 14, 15, 16], some [2, 4, 5, 6, 13], some [0, 11, 13]]
def v5v : List (Option (List Nat)) := []
def v5s : List (Option (List Nat)) := [some [0, 1, 2, 4], some [4, 5, 6], some [0, 11, 13]]
def v5u : List (Option (List Nat)) := [some [2, 4, 5, 6], none, none, none, none, none, none, none, none, none]
def w6c : List (Option (List Nat)) := [some [0, 1, 2, 4, 5, 6, 29, 30, 31, 36, 37, 38], some [4, 5, 6], some [0, 11, 13]]
def w6e : List (Option (List Nat)) := [some [2, 4, 5, 6], none, none, none, none, none, none, none, none, none, none, none, none]
def w6b : List (Option (List Nat)) := [some [0, 1, 2, 72, 73, 74], some [6, 54, 56, 57], some [0, 1, 2, 4, 82, 83], some [4, 5, 6], some [0, 11, 13]]
def w6d : List (Option (List Nat)) := [none, some [2, 4, 5, 6], none, none, none, none, none, none, none, none, none]
def sckN5 : List (Option (List Nat)) := [some [0, 2, 8], some [6, 54, 56, 57], some [0, 1, 2, 4, 82, 83], some [4, 5, 6], some [0, 11, 13]]
def sckM5 : List (Option (List Nat)) := [none, none, some [2, 4, 5, 6], none, none, none, none, none, none, none, none]
def Xy (l0 : List R6) : sckS → Xa sckS
 | .h0 v8 => (bif (decide (v8 < (l0.length : Int))) then (bif ((decide (0 ≤ v8 ∧ v8 < (l0.length : Int))) && true) then (bif (!(v4z (rd l0 v8.toNat).a (rd l0 v8.toNat).b (rd l0 v8.toNat).c (rd l0 v8.toNat).d (rd l0 v8.toNat).e (rd l0 v8.toNat).f)) then (bif (decide (v8 ≥ 0)) then (.ret [(.int .i64 8)]) else (.to (.h1 0 ([] : List Int)))) else (.to (.h0 (IntKind.wrap .i64 (v8 + 1))))) else .stuck) else (.to (.h1 0 ([] : List Int))))
 | .h1 v16 aA => (bif (decide (v16 < (l0.length : Int))) then (bif ((decide (0 ≤ v16 ∧ v16 < (l0.length : Int))) && true) then (bif (Nat.beq 1 1 && ((decide (0 + aA.length = aA.length)) && decide ((aA.length + 2 + 1) * (8 + 1) ≤ Ja))) then (.to (.h1 (IntKind.wrap .i64 (v16 + 1)) (aA ++ [(rd l0 v16.toNat).c, (rd l0 v16.toNat).f]))) else .stuck) else .stuck) else (bif (decide (aA.length < 4611686018427387904)) then (bif (decide (aA.length = aA.length)) then (.to (.h2 1 ([] : List R6) ([] : List R4) 0 0 (v0n (Za aA.length (cOf (Zz (Yi (Za aA.length (cOf (Zz aA)))))))) (Xx (Za aA.length (cOf (Zz (Yi (Za aA.length (cOf (Zz aA)))))))))) else .stuck) else .stuck))
 | .h2 v4 aC bR bZ cA aJ aM => (bif (decide (v4 < ((aJ : Nat) : Int))) then (bif ((decide (0 ≤ (IntKind.wrap .i64 (v4 - 1)) ∧ (IntKind.wrap .i64 (v4 - 1)) < ((aJ : Nat) : Int))) && true) then (bif (decide ((0 + (Int.toNat (IntKind.wrap .i64 (v4 - 1)))) < aM.length)) then (bif ((decide (0 ≤ v4 ∧ v4 < ((aJ : Nat) : Int))) && true) then (bif (decide ((0 + v4.toNat) < aM.length)) then (.to (.h3 v4 0 aC bR bZ cA aJ aM (rd aM (0 + (Int.toNat (IntKind.wrap .i64 (v4 - 1))))) (rd aM (0 + v4.toNat)) ([] : List R4))) else .stuck) else .stuck) else .stuck) else .stuck) else (bif (decide ((aC.length : Int) > 400)) then (.ret [(.int .i64 8)]) else (bif (Nat.beq 6 6 && (decide (0 + aC.length ≤ aC.length) && Qo (Zz aC))) then (bif (Vd (lst R6 (aC.length) (fun k => (Zz aC) (0 + k))) (cvT l0)) then (bif (!(Jf (lst R6 (aC.length) (fun k => (Zz aC) (0 + k))) (cvT l0))) then (.ret [(.int .i64 8)]) else (.ret [(.int .i64 0)])) else .stuck) else .stuck)))
 | .h3 v4 v38 aC bR bZ cA aJ aM bO cE aD => (bif (decide (v38 < (l0.length : Int))) then (bif ((decide (0 ≤ v38 ∧ v38 < (l0.length : Int))) && true) then (bif (decide ((rd l0 v38.toNat).c ≤ bO)) then (bif (decide (bO < (rd l0 v38.toNat).f)) then (bif (Nat.beq 4 4 && ((decide (0 + aD.length = aD.length)) && decide ((aD.length + 1 + 1) * (32 + 1) ≤ Ja))) then (.to (.h3 v4 (IntKind.wrap .i64 (v38 + 1)) aC bR bZ cA aJ aM bO cE (aD ++ [(R4.mk (rd l0 v38.toNat).a (rd l0 v38.toNat).b (rd l0 v38.toNat).d (rd l0 v38.toNat).e)]))) else .stuck) else (.to (.h3 v4 (IntKind.wrap .i64 (v38 + 1)) aC bR bZ cA aJ aM bO cE aD))) else (.to (.h3 v4 (IntKind.wrap .i64 (v38 + 1)) aC bR bZ cA aJ aM bO cE aD))) else .stuck) else (bif (z0c (cvT aD)) then (bif ((Wp (cvT aD)) != 0) then (.ret [(.int .i64 8)]) else (bif (decide ((((Yj (cvT aD)).length : Nat) : Int) > 0)) then (bif (cA == bO) then (bif (Wk (cvT bR) (cvT (Yj (cvT aD)))) then (bif (Ug (cvT bR) (cvT (Yj (cvT aD)))) then (.to (.h5 cE bZ bO (Yj (cvT aD)) v4 aC bR bZ cA aJ aM aD)) else (.to (.h4 bO cE (Yj (cvT aD)) (((Yj (cvT aD)).length : Nat) : Int) 0 (Yj (cvT aD)) v4 aC (Yj (cvT aD)) (aC.length : Int) aJ aM aD))) else .stuck) else (.to (.h4 bO cE (Yj (cvT aD)) (((Yj (cvT aD)).length : Nat) : Int) 0 (Yj (cvT aD)) v4 aC (Yj (cvT aD)) (aC.length : Int) aJ aM aD))) else (.to (.h4 bO cE (Yj (cvT aD)) (((Yj (cvT aD)).length : Nat) : Int) 0 (Yj (cvT aD)) v4 aC (Yj (cvT aD)) (aC.length : Int) aJ aM aD)))) else .stuck))
 | .h4 v1 v2 v72 v73 v74 bP bF aF bN bU aJ aM bO => (bif (decide (v74 < v73)) then (bif ((decide (0 ≤ v74 ∧ v74 < (v72.length : Int))) && true) then (bif (Nat.beq 6 6 && ((decide (0 + aF.length = aF.length)) && decide ((aF.length + 1 + 1) * (48 + 1) ≤ Ja))) then (.to (.h4 v1 v2 v72 v73 (IntKind.wrap .i64 (v74 + 1)) bP bF (aF ++ [(R6.mk (rd v72 v74.toNat).a (rd v72 v74.toNat).b v1 (rd v72 v74.toNat).c (rd v72 v74.toNat).d v2)]) bN bU aJ aM bO)) else .stuck) else .stuck) else (.to (.h2 (IntKind.wrap .i64 (bF + 1)) aF bN bU v2 aJ aM)))
 | .h5 v2 v8 cJ bP bF aF bN bU cN cB cH aD => (bif (decide (v8 < (aF.length : Int))) then (bif ((decide (0 ≤ v8 ∧ v8 < (aF.length : Int))) && true) then (bif (decide ((0 + v8.toNat) < aF.length)) then (.to (.h5 v2 (IntKind.wrap .i64 (v8 + 1)) cJ bP bF (aF.set (0 + v8.toNat) (R6.mk (rd aF (0 + v8.toNat)).a (rd aF (0 + v8.toNat)).b (rd aF (0 + v8.toNat)).c (rd aF (0 + v8.toNat)).d (rd aF (0 + v8.toNat)).e v2)) bN bU cN cB cH aD)) else .stuck) else .stuck) else (.to (.h2 (IntKind.wrap .i64 (bF + 1)) aF bN bU v2 cB cH)))
def z8s (l0 : List R6) : Xa sckS := (bif (decide ((l0.length : Int) > 400)) then (.ret [(.int .i64 4)]) else (.to (.h0 0)))
theorem x6i (l0 : List R6) : ∀ s, Xo prog (Zy prog 72) (sckC l0) (sckC l0 s) (Xy l0 s)
 | .h0 v8 => (lb (fun k0 => (lo fun aG => (lb (fun k1 => (lb (fun k2 => (lr 25 72 [1, 1, 0, 1, 0, 0] 1 15 [(2, (ii 8))] (sl Wt 53 [] ⟨[], [], [some [2]], []⟩ ⟨[], [], []⟩ (trs 3 []) (tt k2 (tt k1 (ww aG (tt k0 nn))))))) (fun k2 => (sl Wt 113 [(3, 1, Zz ([] : List Int))] ⟨[6, 1, 7, 2, 3, 4, 5, 8], [], v5t, v5v⟩ ⟨[], [.keep, .keep, .cells [.grow 7 1], .keep, .keep, .keep, .keep, .keep], []⟩ [true, true, false, true] (pp (fl ([] : List Int) nn) (tt k2 (tt k1 (ww aG (tt k0 nn))))))))) (fun k1 => (sl Wt 44 [] ⟨[], [], sckN0, sckM0⟩ ⟨[], [], []⟩ [true, false] (tt k1 (ww aG (tt k0 nn)))))))) (fun k0 => (sl Wt 82 [(3, 1, Zz ([] : List Int))] ⟨[5, 0, 6, 1, 2, 3, 4, 7], [], v5t, v5v⟩ ⟨[], [.keep, .keep, .cells [.grow 7 1], .keep, .keep, .keep, .keep, .keep], []⟩ [false, false, true] (pp (fl ([] : List Int) nn) (tt k0 nn)))))
 | .h1 v16 aA => (lb (fun k0 => (lo fun o0 => (lo fun o1 => (sl Wt 34 [] ⟨[0, 1, 2, 3, 4, 5, 6, 10], [], v5t, v5v⟩ ⟨[], [.keep, .keep, .cells [.len (aA ++ [(rd l0 (tn v16)).c, (rd l0 (tn v16)).f]).length], .keep, .keep, .keep, .keep, .rowed 1 (aA ++ [(rd l0 (tn v16)).c, (rd l0 (tn v16)).f]).length (Zz (aA ++ [(rd l0 (tn v16)).c, (rd l0 (tn v16)).f]))], []⟩ [true] (pp (xL (aA.length + 2) (aA ++ [(rd l0 (tn v16)).c, (rd l0 (tn v16)).f]).length) (pp (xL (aA.length + 2) (aA ++ [(rd l0 (tn v16)).c, (rd l0 (tn v16)).f]).length) (pp (xS (aA.length + 2) (Ze (Zz aA) 0 aA.length 1 [(ii (rd l0 (tn v16)).c), (ii (rd l0 (tn v16)).f)]) (Zz (aA ++ [(rd l0 (tn v16)).c, (rd l0 (tn v16)).f]))) (pp (pp (xF (Ze (Zz aA) 0 aA.length 1 [(ii (rd l0 (tn v16)).c), (ii (rd l0 (tn v16)).f)])) nn) (ww o1 (ww o0 (tt k0 nn))))))))))) (fun k0 => (lo fun o0 => (lo fun o1 => (sl Wt 46 [(68, 6, Zz ([] : List R6))] ⟨[8, 3, 4, 5, 6, 2, 7, 0, 1, 9], [], v5s, v5u⟩ ⟨[], (kpB 4 [.cells [.grow 9 6, .list 0 (Zz ([] : List R4)), .keep, .keep], .keep, .rowed 1 (Xx (Za aA.length (cOf (Zz (Yi (Za aA.length (cOf (Zz aA)))))))).length (Zz (Xx (Za aA.length (cOf (Zz (Yi (Za aA.length (cOf (Zz aA))))))))), .keep, .keep, .keep]), []⟩ [false, false] (pp (xL aA.length (Xx (Za aA.length (cOf (Zz (Yi (Za aA.length (cOf (Zz aA)))))))).length (by first | exact z0f _ _ | exact Uy rfl)) (pp (xS aA.length (Zz (Xx (Za aA.length (cOf (Zz (Yi (Za aA.length (cOf (Zz aA))))))))) (Zz (Xx (Za aA.length (cOf (Zz (Yi (Za aA.length (cOf (Zz aA)))))))))) (pp (fl (Xx (Za aA.length (cOf (Zz (Yi (Za aA.length (cOf (Zz aA)))))))) (fl ([] : List R6) nn)) (pp (pp (xG (Nat.beq 1 1)) (pp (xG (Nat.beq 1 1)) (pp (xG (Nat.beq 0 0)) (pp (xG (decide (aA.length = aA.length))) (pp (xG (isI (Zz (Yi (Za aA.length (cOf (Zz aA))))))) (xG (decide (aA.length < 4611686018427387904)))))))) (pp (pp (xG (Nat.beq 1 1)) (pp (xG (Nat.beq 1 1)) (pp (xG (Nat.beq 0 0)) (pp (xG (decide (aA.length = aA.length))) (pp (xG (isI (Zz aA))) (xG (decide (aA.length < 4611686018427387904)))))))) (tt k0 nn)))))))))))
 | .h2 v4 aC bR bZ cA aJ aM => (lb (fun k0 => (lo fun o0 => (lo fun o1 => (lo fun o2 => (lo fun o3 => (sl Wt 48 [(114, 4, Zz ([] : List R4))] ⟨[0, 1, 2, 3, 4, 5, 6, 7, 8, 10, 11, 12, 9], [], w6c, w6e⟩ ⟨[], (kpB 10 [.cells [.grow 11 4], .keep, .keep]), []⟩ (trs 3 []) (pp (fl aM (fl ([] : List R4) (fl aC nn))) (ww o3 (ww o2 (ww o1 (ww o0 (tt k0 nn)))))))))))) (fun k0 => (lb (fun k1 => (lr 25 72 [1, 1, 1, 0, 1, 1, 0, 0] 1 15 [(2, (ii 8))] (sl Wt 50 [] ⟨[], [], [some [2]], []⟩ ⟨[], [], []⟩ [false, true, true, true, true, true, true] (tt k1 (tt k0 nn))))) (fun k1 => (lo fun cY => (lo fun dV => (lb (fun k2 => (lr 25 72 [1, 1, 1, 0, 1, 1, 0, 0] 1 15 [(2, (ii 8))] (sl Wt 53 [] ⟨[], [], [some [2]], []⟩ ⟨[], [], []⟩ [false, false, false, false, false, false, true] (tt k2 (pp (pp (pp (xw cY) (pp nn nn)) (pp (xI R6 (aC.length) (fun k => (Zz aC) (0 + k))) (pp (xr l0) (xw dV)))) (tt k1 (tt k0 nn))))))) (fun k2 => (lr 25 3 [1, 1, 1, 1, 1, 1, 0] 1 15 [(2, (ii 0))] (sl Wt 54 [] ⟨[], [], [some [2]], []⟩ ⟨[], [], []⟩ [false, false, false, false, false, false, false] (tt k2 (pp (pp (pp (xw cY) (pp nn nn)) (pp (xI R6 (aC.length) (fun k => (Zz aC) (0 + k))) (pp (xr l0) (xw dV)))) (tt k1 (tt k0 nn))))))))))))))
 | .h3 v4 v38 aC bR bZ cA aJ aM bO cE aD => (lb (fun k0 => (lo fun aG => (lb (fun k1 => (lb (fun k2 => (lo fun o0 => (sl Wt 41 [] ⟨[0, 1, 2, 3, 4, 5, 6, 7, 8, 9, 10, 15, 12], [], w6c, w6e⟩ ⟨[], (kpB 10 [.cells [.len (aD ++ [(R4.mk (rd l0 (tn v38)).a (rd l0 (tn v38)).b (rd l0 (tn v38)).d (rd l0 (tn v38)).e)]).length], .rowed 4 (aD ++ [(R4.mk (rd l0 (tn v38)).a (rd l0 (tn v38)).b (rd l0 (tn v38)).d (rd l0 (tn v38)).e)]).length (Zz (aD ++ [(R4.mk (rd l0 (tn v38)).a (rd l0 (tn v38)).b (rd l0 (tn v38)).d (rd l0 (tn v38)).e)])), .keep]), []⟩ (trs 8 []) (pp (xL (aD.length + 1) (aD ++ [(R4.mk (rd l0 (tn v38)).a (rd l0 (tn v38)).b (rd l0 (tn v38)).d (rd l0 (tn v38)).e)]).length) (pp (xL (aD.length + 1) (aD ++ [(R4.mk (rd l0 (tn v38)).a (rd l0 (tn v38)).b (rd l0 (tn v38)).d (rd l0 (tn v38)).e)]).length) (pp (xS (aD.length + 1) (Ze (Zz aD) 0 aD.length 4 [(ii (rd l0 (tn v38)).a), (ii (rd l0 (tn v38)).b), (ii (rd l0 (tn v38)).d), (ii (rd l0 (tn v38)).e)]) (Zz (aD ++ [(R4.mk (rd l0 (tn v38)).a (rd l0 (tn v38)).b (rd l0 (tn v38)).d (rd l0 (tn v38)).e)]))) (pp (fl aM (pp (xF (Ze (Zz aD) 0 aD.length 4 [(ii (rd l0 (tn v38)).a), (ii (rd l0 (tn v38)).b), (ii (rd l0 (tn v38)).d), (ii (rd l0 (tn v38)).e)])) (fl aC nn))) (ww o0 (tt k2 (tt k1 (ww aG (tt k0 nn)))))))))))) (fun k2 => (sl Wt 41 [] ⟨(List.range 13), [], w6c, w6e⟩ ⟨[], [], []⟩ (trs 7 [false]) (pp (fl aM (fl aD (fl aC nn))) (tt k2 (tt k1 (ww aG (tt k0 nn))))))))) (fun k1 => (sl Wt 41 [] ⟨(List.range 13), [], w6c, w6e⟩ ⟨[], [], []⟩ [true, false, false, false, false, false, false, false] (pp (fl aM (fl aD (fl aC nn))) (tt k1 (ww aG (tt k0 nn))))))))) (fun k0 => (Wb (sl Wt (C' := ⟨⟨65, 0, true⟩, (Vu prog 108 [1, 1, 0, 1, 0, 1, 0, 0] 4), (Zg prog 108 [1, 1, 0, 1, 0, 1, 0, 0] 1), (some 0), [], ⟨Yq [(2, (.ptr 1 0)), (4, (.ptr 2 0)), (5, (.ptr 3 0)), (6, (.ptr 4 0)), (7, (.ptr 6 0)), (20, (.dat aD.length (Zz aD)))], z5f [(1, ⟨[.nilf], 124, none⟩), (2, ⟨[.nils], 30, none⟩), (3, ⟨[(ii 0)], 24, none⟩), (4, ⟨[(.sla 5 6 0 aC.length (.un 6)), (.dat bR.length (Zz bR)), (ii bZ), (ii cA)], 170, none⟩), (5, ⟨Yg aC.length (Zz aC), 68, some ⟨6, aC.length, (Zz aC)⟩⟩), (6, ⟨[(ii bO), (ii cE), (.sl 7 0 1 (.ex 1))], 175, none⟩), (7, ⟨[(.dat aD.length (Zz aD))], 105, none⟩), (8, ⟨[(.sla 9 1 0 aJ (.un 1))], 47, none⟩), (9, ⟨Yg aM.length (Zz aM), 3, some ⟨1, aM.length, (Zz aM)⟩⟩), (10, ⟨[(.sl 11 0 1 (.un 1))], 168, none⟩), (11, ⟨[(.dat l0.length (Zz l0))], 22, none⟩)], 12, [], true⟩, [⟨⟨86, 0, true⟩, (Vu prog 150 [1, 0, 0, 1, 0, 0, 1, 1, 0] 2), (Zg prog 150 [1, 0, 0, 1, 0, 0, 1, 1, 0] 1), none, [], Yq [(0, (.yld 0)), (1, (.ptr 8 0)), (2, (.ptr 10 0)), (4, (ii v4)), (82, (.yld 0)), (83, (.agg [(ii bO), (ii cE), (.sl 7 0 1 (.ex 1))]))]⟩, ⟨⟨65, 0, true⟩, none, (.inRangeFunc 0 :: (Zg prog 108 [1, 1, 0, 1, 0] 1)), none, (Zy prog 36), Yq [(4, (.ptr 2 0)), (5, (.ptr 3 0)), (6, (.ptr 4 0))]⟩, ⟨⟨25, 0, true⟩, (Vu prog 72 [1, 1, 1, 0, 0] 3), (Zg prog 72 [1, 1, 1, 0, 0] 1), none, (Zy prog 15), Yq [(0, (.dat l0.length (Zz l0))), (11, (.agg [.nilf])), (13, (.sl 11 0 1 (.un 1)))]⟩], (z5h [(0, ⟨.busy, none, 65, Yq [(2, (.ptr 1 0)), (4, (.ptr 2 0)), (5, (.ptr 3 0)), (6, (.ptr 4 0))], [15], (Xf prog 108 [1, 1, 0, 1, 0, 0]), (Xf prog 108 [1, 1, 0, 1, 0, 1])⟩)])⟩) 37 [] ⟨[0, 1, 2, 3, 4, 12, 13, 10, 5, 6, 7, 8], [11], [some [2, 4, 5, 6, 7, 20], some [0, 1, 2, 4, 82, 83], some [4, 5, 6], some [0, 11, 13]], [some [2, 4, 5, 6], none, none, none, none, none, none, none, none, none, none, none]⟩ ⟨[(20, .frz aD.length aD.length (Zz aD) (Zz aD))], [.keep, .keep, .keep, .keep, .keep, .keep, .keep, .cells [.frz aD.length aD.length (Zz aD) (Zz aD)], .keep, .keep, .keep, .keep], []⟩ [false, false] (pp (xZ (z5k 4 4 0 aD.length aD.length (Zz aD)) aD.length (Zz aD)) (pp (xL aD.length aD.length) (pp (xS aD.length (Zz aD) (Zz aD)) (pp (xZ (z5k 4 4 0 aD.length aD.length (Zz aD)) aD.length (Zz aD)) (pp (xL aD.length aD.length) (pp (xS aD.length (Zz aD) (Zz aD)) (pp (fl aC (fl aM nn)) (pp (fl aD nn) (tt k0 nn)))))))))) (lo fun aG => (lb (fun k1 => (lr 25 72 [1, 1, 1, 0, 1, 1, 0, 0] 1 15 [(2, (ii 8))] (sl Wt 67 [] ⟨[], [], [some [2]], []⟩ ⟨[], [], []⟩ [false, true, true, true, true, true, true, true] (tt k1 (tt k1 (pp (pp (xr aD) (xw aG)) nn)))))) (fun k1 => (lb (fun k2 => (lb (fun k3 => (lo fun dD => (lb (fun k4 => (sl Wt 75 [] ⟨[4, 5, 0, 1, 2, 3, 8, 9, 10, 11, 7], [], sckN5, sckM5⟩ ⟨[], [], []⟩ [false, false, true, true, true, true, true, true, true, true, true, true, true, true, true] (pp (fl aC (fl aM nn)) (tt k4 (pp (pp (xr bR) (pp (xI R4 (Yj (cvT aD)).length (Zz (Yj (cvT aD)))) (xw dD))) (tt k3 (tt k2 (tt k1 (pp (pp (xr aD) (xw aG)) nn))))))))) (fun k4 => (sl Wt 95 [] ⟨[4, 0, 1, 2, 3, 8, 9, 10, 11, 7, 5], [], w6b, w6d⟩ ⟨[], [], []⟩ [false, false, true, true, true, true, true, true, true, true, true, true, true, true, false] (pp (fl aM (fl aC nn)) (tt k4 (pp (pp (xr bR) (pp (xI R4 (Yj (cvT aD)).length (Zz (Yj (cvT aD)))) (xw dD))) (tt k3 (tt k2 (tt k1 (pp (pp (xr aD) (xw aG)) nn)))))))))))) (fun k3 => (sl Wt 95 [] ⟨[4, 0, 1, 2, 3, 8, 9, 10, 11, 7, 5], [], w6b, w6d⟩ ⟨[], [], []⟩ [false, false, true, true, true, true, true, true, false, false, false, false, false, false, false] (pp (fl aM (fl aC nn)) (tt k3 (tt k2 (tt k1 (pp (pp (xr aD) (xw aG)) nn))))))))) (fun k2 => (sl Wt 95 [] ⟨[4, 0, 1, 2, 3, 8, 9, 10, 11, 7, 5], [], w6b, w6d⟩ ⟨[], [], []⟩ [false, false, false, false, false, false, false, false, false, false, false, false, false, false, false] (pp (fl aM (fl aC nn)) (tt k2 (tt k1 (pp (pp (xr aD) (xw aG)) nn)))))))))))))
 | .h4 v1 v2 v72 v73 v74 bP bF aF bN bU aJ aM bO => (lb (fun k0 => (lo fun o0 => (lo fun o1 => (sl Wt 23 [] ⟨[0, 1, 2, 3, 4, 5, 6, 7, 8, 9, 13], [], w6b, w6d⟩ ⟨[], [.cells [.len (aF ++ [(R6.mk (rd v72 (tn v74)).a (rd v72 (tn v74)).b v1 (rd v72 (tn v74)).c (rd v72 (tn v74)).d v2)]).length, .keep, .keep, .keep], .keep, .keep, .keep, .keep, .keep, .keep, .keep, .keep, .keep, .rowed 6 (aF ++ [(R6.mk (rd v72 (tn v74)).a (rd v72 (tn v74)).b v1 (rd v72 (tn v74)).c (rd v72 (tn v74)).d v2)]).length (Zz (aF ++ [(R6.mk (rd v72 (tn v74)).a (rd v72 (tn v74)).b v1 (rd v72 (tn v74)).c (rd v72 (tn v74)).d v2)]))], []⟩ [true] (pp (xL (aF.length + 1) (aF ++ [(R6.mk (rd v72 (tn v74)).a (rd v72 (tn v74)).b v1 (rd v72 (tn v74)).c (rd v72 (tn v74)).d v2)]).length) (pp (xL (aF.length + 1) (aF ++ [(R6.mk (rd v72 (tn v74)).a (rd v72 (tn v74)).b v1 (rd v72 (tn v74)).c (rd v72 (tn v74)).d v2)]).length) (pp (xS (aF.length + 1) (Ze (Zz aF) 0 aF.length 6 [(ii (rd v72 (tn v74)).a), (ii (rd v72 (tn v74)).b), (ii v1), (ii (rd v72 (tn v74)).c), (ii (rd v72 (tn v74)).d), (ii v2)]) (Zz (aF ++ [(R6.mk (rd v72 (tn v74)).a (rd v72 (tn v74)).b v1 (rd v72 (tn v74)).c (rd v72 (tn v74)).d v2)]))) (pp (fl aM (pp (xF (Ze (Zz aF) 0 aF.length 6 [(ii (rd v72 (tn v74)).a), (ii (rd v72 (tn v74)).b), (ii v1), (ii (rd v72 (tn v74)).c), (ii (rd v72 (tn v74)).d), (ii v2)])) nn)) (ww o1 (ww o0 (tt k0 nn))))))))))) (fun k0 => (sl Wt 22 [] ⟨[1, 2, 3, 4, 0, 5, 6, 7, 8, 10], [], v5s, v5u⟩ ⟨[], [], []⟩ [false, false] (pp (fl aM (fl aF nn)) (tt k0 nn)))))
 | .h5 v2 v8 cJ bP bF aF bN bU cN cB cH aD => (lb (fun k0 => (lo fun o0 => (lo fun o1 => (sl Wt 34 [] ⟨(List.range 11), [], sckN5, sckM5⟩ ⟨[], [.cells [.len (aF.set (0 + (tn v8)) (R6.mk (rd aF (0 + (tn v8))).a (rd aF (0 + (tn v8))).b (rd aF (0 + (tn v8))).c (rd aF (0 + (tn v8))).d (rd aF (0 + (tn v8))).e v2)).length, .keep, .keep, .keep], .rowed 6 (aF.set (0 + (tn v8)) (R6.mk (rd aF (0 + (tn v8))).a (rd aF (0 + (tn v8))).b (rd aF (0 + (tn v8))).c (rd aF (0 + (tn v8))).d (rd aF (0 + (tn v8))).e v2)).length (Zz (aF.set (0 + (tn v8)) (R6.mk (rd aF (0 + (tn v8))).a (rd aF (0 + (tn v8))).b (rd aF (0 + (tn v8))).c (rd aF (0 + (tn v8))).d (rd aF (0 + (tn v8))).e v2))), .keep, .keep, .keep, .keep, .keep, .keep, .keep, .keep, .keep], []⟩ [true] (pp (xL aF.length (aF.set (0 + (tn v8)) (R6.mk (rd aF (0 + (tn v8))).a (rd aF (0 + (tn v8))).b (rd aF (0 + (tn v8))).c (rd aF (0 + (tn v8))).d (rd aF (0 + (tn v8))).e v2)).length) (pp (xL aF.length (aF.set (0 + (tn v8)) (R6.mk (rd aF (0 + (tn v8))).a (rd aF (0 + (tn v8))).b (rd aF (0 + (tn v8))).c (rd aF (0 + (tn v8))).d (rd aF (0 + (tn v8))).e v2)).length) (pp (xS aF.length (Xd (Zz aF) (0 + (tn v8)) 5 [(ii v2)]) (Zz (aF.set (0 + (tn v8)) (R6.mk (rd aF (0 + (tn v8))).a (rd aF (0 + (tn v8))).b (rd aF (0 + (tn v8))).c (rd aF (0 + (tn v8))).d (rd aF (0 + (tn v8))).e v2)))) (pp (pp (xF (Xd (Zz aF) (0 + (tn v8)) 5 [(ii v2)])) (fl cH nn)) (ww o1 (ww o0 (tt k0 nn))))))))))) (fun k0 => (sl Wt 36 [] ⟨[2, 3, 4, 5, 0, 6, 7, 8, 9, 1], [], v5s, v5u⟩ ⟨[], [], []⟩ [false, false] (pp (fl cH (fl aF nn)) (tt k0 nn)))))
theorem y9u (l0 : List R6) : Xo prog (Zy prog 72) (sckC l0) (Zc prog 72 [(.dat l0.length (Zz l0))] true []) (z8s l0) := (lb (fun k0 => (lr 25 72 [1, 0, 1, 0, 0] 1 15 [(2, (ii 4))] (sl Wt 16 [] ⟨[], [], [some [2]], []⟩ ⟨[], [], []⟩ [true] (tt k0 nn)))) (fun k0 => (sl Wt 40 [] ⟨[], [], sckN0, sckM0⟩ ⟨[], [], []⟩ [false] (tt k0 nn))))
theorem w6a (l0 : List R6) (n : Nat) (vs : List AVal) (h : Yx (Xy l0) n (z8s l0) = .ret vs) : Jc prog (Zy prog 72) (Zc prog 72 [(.dat l0.length (Zz l0))] true []) vs := by
 have := Zn (x6i l0) n _ (y9u l0)
 rwa [h] at this
end Go.Am
namespace Go.Am
open Go.Proofs.Tryz
open Go.Proofs Go.Sort Go.Shelf Go.RowKit Go.Lib
theorem x0m (l : List R4) : (Yj l).length ≤ 400 := by
 unfold Yj
 by_cases h : 400 < l.length
 ·rw [decide_eq_true h]; exact Nat.zero_le _
 ·rw [decide_eq_false h]
  cases l.all z2o
  ·exact Nat.zero_le _
  ·show (bif decide (((D4.out l).length : Int) > 400) then [] else D4.out l).length ≤ 400
   by_cases h2 : ((D4.out l).length : Int) > 400
   ·rw [decide_eq_true h2]; exact Nat.zero_le _
   ·rw [decide_eq_false h2]; show (D4.out l).length ≤ 400; omega
def D6 : Dim R6 R4 := ⟨R6.c, R6.f, fun r => ⟨r.a, r.b, r.d, r.e⟩, fun x x' s => ⟨s.a, s.b, x, s.c, s.d, x'⟩, fun x r => ⟨r.a, r.b, r.c, r.d, r.e, x⟩, Yj, Ug⟩
theorem v4s (l : List R6) (x : Int) : (D6.sec l x).length ≤ 1000 := Nat.le_trans (x0m _) (by omega)
def sckErr : List AVal := [.int .i64 8]
def y6j (l out : List R6) : List AVal := bif decide ((out.length : Int) > 400) then [.int .i64 8] else bif Jf out l then [.int .i64 0] else [.int .i64 8]
def x9h (l : List R6) (x : Int) : Bool := Wp (D6.inn l x) != 0
def okF (l : List R6) : Nat → Nat → Bool
 | 0, _ => true
 | k + 1, i => bif x9h l (rd (D6.cuts l) i) then false else okF l k (i + 1)
section
variable (l : List R6) (hl : l.length ≤ 400)
include hl
theorem v1n (i : Nat) (out : List R6) (last : List R4) (first fin x x' : Int) : ∀ (k j : Nat) (acc : List R4), j + k = l.length → acc.length ≤ j →
  ∃ n, ∀ N, Yx (Xy l) (N + n) (.to (.h3 (i : Int) (j : Int) out last first fin ((D6.cuts l).length) (Xx (Yi (D6.ends l))) x x' acc)) = Yx (Xy l) N (.to (.h3 (i : Int) (l.length : Int) out last first fin ((D6.cuts l).length) (Xx (Yi (D6.ends l))) x x' (acc ++ D6.inn (l.drop j) x)))
 | 0, j, acc, h, ha => by
  refine ⟨0, fun N => ?_⟩
  rw [List.drop_eq_nil_of_le (by omega), show D6.inn ([] : List R6) x = [] from rfl, List.append_nil, Nat.add_zero, show j = l.length by omega]
 | k + 1, j, acc, h, ha => by
  have hj : j < l.length := by omega
  obtain ⟨n, hn⟩ := v1n i out last first fin x x' k (j + 1) (acc ++ D6.inn [rd l j] x) (by omega) (by have := D6.inn_length [rd l j] x; simp only [List.length_append, List.length_singleton] at *; omega)
  refine ⟨n + 1, fun N => ?_⟩
  have e : D6.inn (l.drop j) x = D6.inn [rd l j] x ++ D6.inn (l.drop (j + 1)) x := by
   rw [Ye hj, ← D6.inn_append]; rfl
  rw [e, ← Nat.add_assoc, Zv, ← List.append_assoc, ← hn N]
  by_cases h1 : D6.lo (rd l j) ≤ x
  ·by_cases h2 : x < D6.hi (rd l j)
   ·rw [D6.inn_t _ _ h1 h2]
    simp only [D6] at h1 h2 ⊢
    simp (disch := omega) only [Xy, Xp, Zb, Zq, Zo, Zr, Yz, Yu, Yk, Zf, Zj, Zx, Ya, Zk, Nat.zero_add, decide_true, Bool.and_true, Bool.true_and, cond_true, cond_false]
   ·rw [D6.inn_f2 _ _ h2, List.append_nil]
    simp only [D6] at h1 h2
    simp (disch := omega) only [Xy, Xp, Zt, Zb, Zq, Zo, Zr, Yz, Yu, Yk, Zf, Zj, Zx, Ya, Zk, Nat.zero_add, decide_true, Bool.and_true, Bool.true_and, cond_true, cond_false]
  ·rw [D6.inn_f1 _ _ h1, List.append_nil]
   simp only [D6] at h1
   simp (disch := omega) only [Xy, u0a, Zb, Zq, Zo, Zr, Yz, Yu, Yk, Zf, Zj, Zx, Ya, Zk, Nat.zero_add, decide_true, Bool.and_true, Bool.true_and, cond_true, cond_false]
theorem v1m (i : Nat) (hi : i ≤ 1000) (x x' : Int) (s last : List R4) (first : Int) (inn : List R4) (hs : s.length ≤ 1000) : ∀ (k j : Nat) (out : List R6), j + k = s.length → out.length ≤ 10000000 + j →
  ∃ n, ∀ N, Yx (Xy l) (N + n) (.to (.h4 x x' s (s.length : Int) (j : Int) s (i : Int) out last first ((D6.cuts l).length) (Xx (Yi (D6.ends l))) inn)) = Yx (Xy l) N (.to (.h2 ((i + 1 : Nat) : Int) (out ++ (s.drop j).map (D6.put x x')) last first x' ((D6.cuts l).length) (Xx (Yi (D6.ends l)))))
 | 0, j, out, h, ho => by
  have _u := hl
  refine ⟨1, fun N => ?_⟩
  rw [List.drop_eq_nil_of_le (by omega), Zv]
  simp (disch := omega) only [Xy, Zt, Zj, Zx, cond_false, List.map_nil, List.append_nil]
 | k + 1, j, out, h, ho => by
  obtain ⟨n, hn⟩ := v1m i hi x x' s last first inn hs k (j + 1) (out ++ [D6.put x x' (rd s j)]) (by omega) (by simp; omega)
  refine ⟨n + 1, fun N => ?_⟩
  have := hn N
  rw [Ye (show j < s.length by omega), List.map_cons, ← Nat.add_assoc, Zv]
  simp (disch := omega) only [Xy, Zb, Zq, Zo, Zr, Yz, Yu, Yk, Zf, Zj, Zx, Ya, Zk, Nat.zero_add, decide_true, Bool.and_true, Bool.true_and, cond_true, cond_false]
  rw [List.append_assoc] at this
  exact this
theorem v1l (i : Nat) (hi : i ≤ 1000) (x x' fin : Int) (s last : List R4) (first : Int) (inn : List R4) : ∀ (k j : Nat) (out : List R6), j + k = out.length → out.length ≤ 10000000 →
  ∃ n, ∀ N, Yx (Xy l) (N + n) (.to (.h5 x' (j : Int) x s (i : Int) out last first fin ((D6.cuts l).length) (Xx (Yi (D6.ends l))) inn)) = Yx (Xy l) N (.to (.h2 ((i + 1 : Nat) : Int) (D6.grow out j x') last first x' ((D6.cuts l).length) (Xx (Yi (D6.ends l)))))
 | 0, j, out, h, ho => by
  have _u := hl
  refine ⟨1, fun N => ?_⟩
  rw [D6.grow_nil _ _ _ (by omega), Zv]
  simp (disch := omega) only [Xy, Zt, Zj, Zx, cond_false]
 | k + 1, j, out, h, ho => by
  obtain ⟨n, hn⟩ := v1l i hi x x' fin s last first inn k (j + 1) (out.set j (D6.ext x' (rd out j))) (by simp; omega) (by simpa using ho)
  refine ⟨n + 1, fun N => ?_⟩
  have := hn N
  rw [D6.grow_set out j _ (by omega)] at this
  rw [← Nat.add_assoc, Zv]
  simp (disch := omega) only [Xy, Zb, Zq, Zo, Zr, Yz, Yu, Yk, Zf, Zj, Zx, Ya, Zk, Nat.zero_add, decide_true, Bool.and_true, Bool.true_and, cond_true, cond_false]
  exact this
theorem w0h : ∀ (k i : Nat) (s : Sw R6 R4), k = (D6.cuts l).length - 1 - i → i ≤ (D6.cuts l).length → s.out.length ≤ i * 1000 → s.last.length ≤ 1000 → s.first ≤ s.out.length →
  ∃ n, Yx (Xy l) n (.to (.h2 ((i + 1 : Nat) : Int) s.out s.last (s.first : Int) s.fin ((D6.cuts l).length) (Xx (Yi (D6.ends l))))) = .ret ((bif okF l k i then y6j l (D6.go l k i s).out else sckErr))
 | 0, i, s, h, hi, ho, hla, hf => by
  have hc := D6.cuts_length l
  refine ⟨1, ?_⟩
  rw [Zv, show D6.go l 0 i s = s from rfl, show okF l 0 i = true from rfl, cond_true]
  unfold y6j
  by_cases q : (s.out.length : Int) > 400
  ·simp (disch := omega) only [Xy, Zt, Yn, cond_true, cond_false, Zm]
  ·have e : lst R6 s.out.length (fun k => (Zz s.out) k) = s.out := Zq s.out
   have w : Vd s.out l = true := decide_eq_true (by omega)
   have f : Qo (Zz s.out) = true := Xj _
   rcases Yy (Jf s.out l) with q2 | q2 <;>
   simp (disch := omega) only [Xy, Zb, e, w, f, q2, Zt, Xw, Yz, Ya, Nat.zero_add, Bool.not_true, Bool.not_false, Bool.and_true, cond_true, cond_false, Zm]
 | k + 1, i, s, h, hi, ho, hla, hf => by
  have hc := D6.cuts_length l
  have hi1 : i + 1 < (D6.cuts l).length := by omega
  have hpl : (Xx (Yi (D6.ends l))).length = 2 * l.length := by rw [Wf, Wj, D6.ends_length]
  have r0 : rd (Xx (Yi (D6.ends l))) i = rd (D6.cuts l) i := Jx _ _ (by show i < (D6.cuts l).length; omega)
  have r1 : rd (Xx (Yi (D6.ends l))) (i + 1) = rd (D6.cuts l) (i + 1) := Jx _ _ (by show i + 1 < (D6.cuts l).length; omega)
  have hbig : i * 1000 ≤ 1000 * 1000 := Nat.mul_le_mul_right _ (by omega)
  have hsl := v4s l (rd (D6.cuts l) i)
  have hsd : D6.sec l (rd (D6.cuts l) i) = Yj (D6.inn l (rd (D6.cuts l) i)) := rfl
  obtain ⟨n3, h3⟩ := v1n l hl (i + 1) s.out s.last (s.first : Int) s.fin (rd (D6.cuts l) i) (rd (D6.cuts l) (i + 1)) l.length 0 [] (Nat.zero_add _) (Nat.le_refl _)
  simp only [List.drop_zero, List.nil_append, z1c] at h3
  have w1 : z0c (D6.inn l (rd (D6.cuts l) i)) = true := rfl
  have w2 : Wk s.last (Yj (D6.inn l (rd (D6.cuts l) i))) = true := decide_eq_true (by omega)
  have ol := D6.one_length l (rd (D6.cuts l) i) (rd (D6.cuts l) (i + 1)) s
  have st0 : ∀ N, Yx (Xy l) (N + n3 + 1) (.to (.h2 ((i + 1 : Nat) : Int) s.out s.last (s.first : Int) s.fin ((D6.cuts l).length) (Xx (Yi (D6.ends l))))) = Yx (Xy l) N (.to (.h3 ((i + 1 : Nat) : Int) (l.length : Int) s.out s.last (s.first : Int) s.fin ((D6.cuts l).length) (Xx (Yi (D6.ends l))) (rd (D6.cuts l) i) (rd (D6.cuts l) (i + 1)) (D6.inn l (rd (D6.cuts l) i)))) := fun N => by
   rw [← h3 N, Zv]
   have e1 : IntKind.wrap .i64 (((i + 1 : Nat) : Int) - 1) = (i : Int) := by rw [Zd]; exact Zj (by omega)
   simp (disch := omega) only [Xy, e1, r0, r1, Zb, Zq, Zo, Zr, Yz, Yu, Yk, Zf, Zj, Zx, Ya, Zk, Nat.zero_add, decide_true, Bool.and_true, Bool.true_and, cond_true, cond_false]
  rcases Yy (x9h l (rd (D6.cuts l) i)) with q0 | q0
  ·refine ⟨1 + n3 + 1, ?_⟩
   rw [st0 1, Zv]
   simp only [okF, q0, cond_true, cond_false]
   have q0' : (Wp (D6.inn l (rd (D6.cuts l) i)) != 0) = true := q0
   simp (disch := omega) only [Xy, Zb, Zq, Zt, q0', w1, cond_true, cond_false, Zm]
   rfl
  have q0' : (Wp (D6.inn l (rd (D6.cuts l) i)) != 0) = false := q0
  rcases Yy (decide (0 < (D6.sec l (rd (D6.cuts l) i)).length) && ((s.fin == rd (D6.cuts l) i) && D6.same s.last (D6.sec l (rd (D6.cuts l) i)))) with q | q
  ·obtain ⟨n5, h5⟩ := v1l l hl (i + 1) (by omega) (rd (D6.cuts l) i) (rd (D6.cuts l) (i + 1)) s.fin (D6.sec l (rd (D6.cuts l) i)) s.last (s.first : Int) (D6.inn l (rd (D6.cuts l) i)) (s.out.length - s.first) s.first s.out (by omega) (by omega)
   have e : D6.one l (rd (D6.cuts l) i) (rd (D6.cuts l) (i + 1)) s = ⟨D6.grow s.out s.first (rd (D6.cuts l) (i + 1)), s.last, s.first, rd (D6.cuts l) (i + 1)⟩ := by unfold Dim.one; rw [q]; rfl
   obtain ⟨n0, h0⟩ := w0h k (i + 1) (D6.one l (rd (D6.cuts l) i) (rd (D6.cuts l) (i + 1)) s) (by omega) (by omega) (by omega) (by rw [e]; exact hla) (by rw [e]; simpa [Dim.grow_length] using hf)
   refine ⟨n0 + n5 + 1 + n3 + 1, ?_⟩
   rw [st0 (n0 + n5 + 1), Zv]
   simp only [Bool.and_eq_true, decide_eq_true_eq] at q
   obtain ⟨q1, q2, q3⟩ := q
   have q3' : Ug s.last (Yj (D6.inn l (rd (D6.cuts l) i))) = true := q3
   rw [hsd] at q1
   simp (disch := omega) only [Xy, Zb, Zq, Zt, Yn, q0', q2, q3', w1, w2, cond_true, cond_false]
   rw [← hsd, h5 n0]
   simp only [okF, q0, cond_false]; simp only [Dim.go]
   rw [e] at h0 ⊢
   exact h0
  ·obtain ⟨n4, h4⟩ := v1m l hl (i + 1) (by omega) (rd (D6.cuts l) i) (rd (D6.cuts l) (i + 1)) (D6.sec l (rd (D6.cuts l) i)) (D6.sec l (rd (D6.cuts l) i)) (s.out.length : Int) (D6.inn l (rd (D6.cuts l) i)) hsl (D6.sec l (rd (D6.cuts l) i)).length 0 s.out (Nat.zero_add _) (by omega)
   simp only [List.drop_zero, z1c] at h4
   have e : D6.one l (rd (D6.cuts l) i) (rd (D6.cuts l) (i + 1)) s = ⟨s.out ++ (D6.sec l (rd (D6.cuts l) i)).map (D6.put (rd (D6.cuts l) i) (rd (D6.cuts l) (i + 1))), D6.sec l (rd (D6.cuts l) i), s.out.length, rd (D6.cuts l) (i + 1)⟩ := by unfold Dim.one; rw [q]; rfl
   obtain ⟨n0, h0⟩ := w0h k (i + 1) (D6.one l (rd (D6.cuts l) i) (rd (D6.cuts l) (i + 1)) s) (by omega) (by omega) (by omega) (by rw [e]; exact hsl) (by rw [e]; simp)
   have hg : Yx (Xy l) 1 (.to (.h3 ((i + 1 : Nat) : Int) (l.length : Int) s.out s.last (s.first : Int) s.fin ((D6.cuts l).length) (Xx (Yi (D6.ends l))) (rd (D6.cuts l) i) (rd (D6.cuts l) (i + 1)) (D6.inn l (rd (D6.cuts l) i)))) = .to (.h4 (rd (D6.cuts l) i) (rd (D6.cuts l) (i + 1)) (D6.sec l (rd (D6.cuts l) i)) ((D6.sec l (rd (D6.cuts l) i)).length : Int) 0 (D6.sec l (rd (D6.cuts l) i)) ((i + 1 : Nat) : Int) s.out (D6.sec l (rd (D6.cuts l) i)) (s.out.length : Int) ((D6.cuts l).length) (Xx (Yi (D6.ends l))) (D6.inn l (rd (D6.cuts l) i))) := by
    rw [show (1 : Nat) = 0 + 1 from rfl, Zv]
    rw [hsd] at q ⊢
    have e3 : D6.same s.last (Yj (D6.inn l (rd (D6.cuts l) i))) = Ug s.last (Yj (D6.inn l (rd (D6.cuts l) i))) := rfl
    rw [e3] at q
    by_cases q1 : 0 < (Yj (D6.inn l (rd (D6.cuts l) i))).length
    ·rw [decide_eq_true q1, Bool.true_and] at q
     rcases Yy (s.fin == rd (D6.cuts l) i) with q2 | q2
     ·rw [q2, Bool.true_and] at q
      simp (disch := omega) only [Xy, Zb, Zq, Zt, Yn, q0', q2, q, w1, w2, cond_true, cond_false]
      rfl
     ·simp (disch := omega) only [Xy, Zb, Zq, Zt, Yn, q0', q2, w1, w2, cond_true, cond_false]
      rfl
    ·simp (disch := omega) only [Xy, Zb, Zq, Zt, Xw, q0', w1, w2, cond_true, cond_false]
     rfl
   refine ⟨n0 + n4 + 1 + n3 + 1, ?_⟩
   rw [st0 (n0 + n4 + 1), y0y _ (n0 + n4) 1, hg, h4 n0]
   simp only [okF, q0, cond_false]; simp only [Dim.go]
   rw [e] at h0 ⊢
   exact h0
theorem v1o : ∀ (k i : Nat) (acc : List Int), i + k = l.length → acc = D6.ends (l.take i) → ∃ n, Yx (Xy l) n (.to (.h1 (i : Int) acc)) = .ret ((bif okF l ((D6.cuts l).length - 1) 0 then y6j l (D6.go l ((D6.cuts l).length - 1) 0 ⟨[], [], 0, 0⟩).out else sckErr))
 | 0, i, acc, h, ha => by
  have e : acc = D6.ends l := by rw [ha, List.take_of_length_le (by omega)]
  subst e
  have hle := D6.ends_length l
  obtain ⟨n, hn⟩ := w0h l hl ((D6.cuts l).length - 1) 0 ⟨[], [], 0, 0⟩ (by omega) (Nat.zero_le _) (Nat.zero_le _) (Nat.zero_le _) (Nat.zero_le _)
  refine ⟨n + 1, ?_⟩
  rw [Zv]
  simp (disch := omega) only [Xy, Uu, Km, z7a, Zt, Yu, Yk, decide_true, cond_true, cond_false]
  exact hn
 | k + 1, i, acc, h, ha => by
  have hle := D6.ends_length (l.take i)
  have fV : acc.length ≤ 2 * i := by rw [ha, hle]; simp; omega
  obtain ⟨n, hn⟩ := v1o k (i + 1) (acc ++ D6.ends [rd l i]) (by omega) (by
   rw [ha, List.take_add_one]
   have : l[i]? = some (rd l i) := by rw [Xq (show i < l.length by omega)]; exact List.getElem?_eq_getElem _
   rw [this, D6.ends_append]; rfl)
  refine ⟨n + 1, ?_⟩
  rw [Zv]
  simp (disch := omega) only [Xy, Zb, Zq, Zo, Zr, Yz, Yu, Yk, Zf, Zj, Zx, Ya, Zk, Nat.zero_add, decide_true, Bool.and_true, Bool.true_and, cond_true, cond_false]
  exact hn
theorem v1p : ∀ (k i : Nat), i + k = l.length → (∀ s ∈ l.take i, Jo s = true) → ∃ n, Yx (Xy l) n (.to (.h0 (i : Int))) = .ret (bif l.all Jo then (bif okF l ((D6.cuts l).length - 1) 0 then y6j l (D6.go l ((D6.cuts l).length - 1) 0 ⟨[], [], 0, 0⟩).out else sckErr) else sckErr)
 | 0, i, h, ht => by
  have hv : l.all Jo = true := List.all_eq_true.2 fun s hs => ht s (by rw [List.take_of_length_le (by omega)]; exact hs)
  obtain ⟨n, hn⟩ := v1o l hl l.length 0 [] (Nat.zero_add _) rfl
  refine ⟨n + 1, ?_⟩
  rw [Zv, hv, cond_true]
  simp (disch := omega) only [Xy, Zt, cond_false]
  exact hn
 | k + 1, i, h, ht => by
  have hi : i < l.length := by omega
  have hs : Xy l (.h0 (i : Int)) = bif Jo (rd l i) then .to (.h0 ((i + 1 : Nat) : Int)) else .ret sckErr := by
   have e : v4z (rd l i).a (rd l i).b (rd l i).c (rd l i).d (rd l i).e (rd l i).f = Jo (rd l i) := rfl
   simp (disch := omega) only [Xy, e, y5m, x5m, x5n, Zr, Zj, Zx, Zk, Bool.and_true, cond_true, cond_false]
   rfl
  rcases Yy (Jo (rd l i)) with q | q
  ·obtain ⟨n, hn⟩ := v1p k (i + 1) (by omega) (fun s hs => by
    rw [List.take_add_one] at hs
    have e : l[i]? = some (rd l i) := by rw [Xq hi]; exact List.getElem?_eq_getElem _
    rw [e] at hs
    simp only [Option.toList_some, List.mem_append, List.mem_singleton] at hs
    rcases hs with hs | rfl
    ·exact ht s hs
    ·exact q)
   refine ⟨n + 1, ?_⟩
   rw [Zv, hs, q, cond_true]
   exact hn
  ·have hv : l.all Jo = false := Bool.eq_false_iff.2 fun e => by
    have := List.all_eq_true.1 e (rd l i) (by rw [Xq hi]; exact List.getElem_mem hi)
    rw [this] at q; cases q
   refine ⟨1, ?_⟩
   rw [Zv, hv, cond_false, hs, q, cond_false, Zm]
end
def Yc (l : List R6) : Int := bif decide (400 < l.length) then 4 else bif l.all Jo then (bif okF l ((D6.cuts l).length - 1) 0 then (bif decide (((D6.out l).length : Int) > 400) then 8 else bif Jf (D6.out l) l then 0 else 8) else 8) else 8
def w0i (l : List R6) : Bool := true
theorem v5r (l : List R6) : ∃ n, Yx (Xy l) n (z8s l) = .ret [.int .i64 (Yc l)] := by
 unfold z8s Yc
 by_cases h : 400 < l.length
 ·refine ⟨0, ?_⟩
  rw [decide_eq_true h, Yn (show (l.length : Int) > 400 by omega)]; rfl
 ·obtain ⟨n, hn⟩ := v1p l (by omega) l.length 0 (Nat.zero_add _) (fun s hs => by simp at hs)
  refine ⟨n, ?_⟩
  rw [decide_eq_false h, Xw (show ¬ (l.length : Int) > 400 by omega), cond_false, cond_false]
  rw [z1c] at hn
  rw [hn]
  unfold sckErr y6j
  cases l.all Jo <;> simp only [cond_true, cond_false]
  cases okF l ((D6.cuts l).length - 1) 0 <;> simp only [cond_true, cond_false]
  show Xa.ret (bif decide (((D6.out l).length : Int) > 400) then _ else bif Jf (D6.out l) l then _ else _) = _
  cases decide (((D6.out l).length : Int) > 400) <;> simp only [cond_true, cond_false]
  cases Jf (D6.out l) l <;> rfl
def fSck : List AVal → Option (AVal × Bool)
 | [a1] => match asL R6 a1 with
  | some (L1, g1, n1) => some (.int .i64 (Yc L1), isT R6 n1 g1 && w0i L1)
  | _ => none
 | _ => none
theorem v8p {S : Specs} (hS : Zu prog S) : Zu prog (S.with y7k fSck) := by
 refine z0z hS (by kernel_rfl) fun args v h => ?_
 unfold fSck at h
 split at h
 ·rename_i a1
  split at h
  ·rename_i L1 g1 n1 e1
   simp only [Option.some.injEq, Prod.mk.injEq, Bool.and_eq_true] at h
   obtain ⟨rfl, ho1, hw⟩ := h
   obtain ⟨N, hN⟩ := v5r L1
   exact ⟨_, _, (.cons (asL_le e1 ho1) .nil), rfl, w6a L1 N _ hN, 3, rfl⟩
  ·cases h
 ·cases h
def T8 : Specs := T7v.with y7k fSck
theorem Qv : Zu prog T8 := v8p Wt
end Go.Am
namespace Go.Am
open Go.Proofs.Tryz
open Go.Proofs
inductive rchkS where
 | h0 (v3 : Int)
def v6t (l0 : List R6) : rchkS → Cfg
 | .h0 v3 => ⟨⟨34, 0, true⟩, none, (Zg prog 64 [1, 1, 0, 1, 0, 0] 0), none, (Zy prog 15), ⟨Yq [(0, (.dat l0.length (Zz l0))), (3, (ii v3))], Va [] 0, 0, [], true⟩, [], .leaf⟩
def v2o : List (Option (List Nat)) := [some [0, 3]]
def v2p : List (Option (List Nat)) := []
def Qg (l0 : List R6) : rchkS → Xa rchkS
 | .h0 v3 => (bif (decide (v3 < (l0.length : Int))) then (bif ((decide (0 ≤ v3 ∧ v3 < (l0.length : Int))) && true) then (bif (decide ((rd l0 v3.toNat).a ≥ (-1000000))) then (bif (decide ((rd l0 v3.toNat).b ≥ (-1000000))) then (bif (decide ((rd l0 v3.toNat).c ≥ (-1000000))) then (bif (decide ((rd l0 v3.toNat).a ≤ 1000000)) then (bif (decide ((rd l0 v3.toNat).b ≤ 1000000)) then (bif (decide ((rd l0 v3.toNat).c ≤ 1000000)) then (bif (decide ((rd l0 v3.toNat).d ≥ (-1000000))) then (bif (decide ((rd l0 v3.toNat).e ≥ (-1000000))) then (bif (decide ((rd l0 v3.toNat).f ≥ (-1000000))) then (bif (decide ((rd l0 v3.toNat).d ≤ 1000000)) then (bif (decide ((rd l0 v3.toNat).e ≤ 1000000)) then (bif (decide ((rd l0 v3.toNat).f ≤ 1000000)) then (bif (decide ((rd l0 v3.toNat).a < (rd l0 v3.toNat).d)) then (bif (decide ((rd l0 v3.toNat).b < (rd l0 v3.toNat).e)) then (bif (!(decide ((rd l0 v3.toNat).c < (rd l0 v3.toNat).f))) then (.ret [(.int .i64 8)]) else (.to (.h0 (IntKind.wrap .i64 (v3 + 1))))) else (.ret [(.int .i64 8)])) else (.ret [(.int .i64 8)])) else (.ret [(.int .i64 8)])) else (.ret [(.int .i64 8)])) else (.ret [(.int .i64 8)])) else (.ret [(.int .i64 8)])) else (.ret [(.int .i64 8)])) else (.ret [(.int .i64 8)])) else (.ret [(.int .i64 8)])) else (.ret [(.int .i64 8)])) else (.ret [(.int .i64 8)])) else (.ret [(.int .i64 8)])) else (.ret [(.int .i64 8)])) else (.ret [(.int .i64 8)])) else .stuck) else (bif (z9e 2 (cvT l0) ([] : List R6)) then (bif (!(y7t 2 (cvT l0) ([] : List R6))) then (.ret [(.int .i64 8)]) else (bif (Vd (cvT (z4c 2 (cvT l0) ([] : List R6))) (cvT l0)) then (bif (!(Jf (cvT (z4c 2 (cvT l0) ([] : List R6))) (cvT l0))) then (.ret [(.int .i64 8)]) else (.ret [(.int .i64 0)])) else .stuck)) else .stuck))
def z4x (l0 : List R6) : Xa rchkS := (bif (decide ((l0.length : Int) > 400)) then (.ret [(.int .i64 4)]) else (.to (.h0 0)))
theorem x0t (l0 : List R6) : ∀ s, Xo prog (Zy prog 64) (v6t l0) (v6t l0 s) (Qg l0 s)
 | .h0 v3 => (lb (fun k0 => (lo fun aG => (lb (fun k1 => (lb (fun k2 => (lb (fun k3 => (lb (fun k4 => (lb (fun k5 => (lb (fun k6 => (lb (fun k7 => (lb (fun k8 => (lb (fun k9 => (lb (fun k10 => (lb (fun k11 => (lb (fun k12 => (lb (fun k13 => (lb (fun k14 => (lb (fun k15 => (lr 34 64 [1, 1, 0, 1, 0, 0, 1, 0, 0, 1, 0, 0] 1 15 [(2, (ii 8))] (sl Qv 158 [] ⟨[], [], [some [2]], []⟩ ⟨[], [], []⟩ (trs 60 []) (tt k15 (tt k14 (tt k13 (tt k12 (tt k11 (tt k10 (tt k9 (tt k8 (tt k7 (tt k6 (tt k5 (tt k4 (tt k3 (tt k2 (tt k1 (ww aG (tt k0 nn)))))))))))))))))))) (fun k15 => (sl Qv 162 [] ⟨[], [], v2o, v2p⟩ ⟨[], [], []⟩ (trs 59 [false]) (tt k15 (tt k14 (tt k13 (tt k12 (tt k11 (tt k10 (tt k9 (tt k8 (tt k7 (tt k6 (tt k5 (tt k4 (tt k3 (tt k2 (tt k1 (ww aG (tt k0 nn))))))))))))))))))))) (fun k14 => (lr 34 64 [1, 1, 0, 1, 0, 0, 1, 0, 0, 1, 0, 0] 1 15 [(2, (ii 8))] (sl Qv 158 [] ⟨[], [], [some [2]], []⟩ ⟨[], [], []⟩ (trs 52 [false, false, false, false, false, false, false, true]) (tt k14 (tt k13 (tt k12 (tt k11 (tt k10 (tt k9 (tt k8 (tt k7 (tt k6 (tt k5 (tt k4 (tt k3 (tt k2 (tt k1 (ww aG (tt k0 nn))))))))))))))))))))) (fun k13 => (lr 34 64 [1, 1, 0, 1, 0, 0, 1, 0, 0, 1, 0, 0] 1 15 [(2, (ii 8))] (sl Qv 158 [] ⟨[], [], [some [2]], []⟩ ⟨[], [], []⟩ (trs 45 [false, false, false, false, false, false, false, false, false, false, false, false, false, false, true]) (tt k13 (tt k12 (tt k11 (tt k10 (tt k9 (tt k8 (tt k7 (tt k6 (tt k5 (tt k4 (tt k3 (tt k2 (tt k1 (ww aG (tt k0 nn)))))))))))))))))))) (fun k12 => (lr 34 64 [1, 1, 0, 1, 0, 0, 1, 0, 0, 1, 0, 0] 1 15 [(2, (ii 8))] (sl Qv 158 [] ⟨[], [], [some [2]], []⟩ ⟨[], [], []⟩ (trs 38 [false, false, false, false, false, false, false, false, false, false, false, false, false, false, false, false, false, false, false, false, false, true]) (tt k12 (tt k11 (tt k10 (tt k9 (tt k8 (tt k7 (tt k6 (tt k5 (tt k4 (tt k3 (tt k2 (tt k1 (ww aG (tt k0 nn))))))))))))))))))) (fun k11 => (lr 34 64 [1, 1, 0, 1, 0, 0, 1, 0, 0, 1, 0, 0] 1 15 [(2, (ii 8))] (sl Qv 158 [] ⟨[], [], [some [2]], []⟩ ⟨[], [], []⟩ (trs 35 [false, false, false, false, false, false, false, false, false, false, false, false, false, false, false, false, false, false, false, false, false, false, false, false, true]) (tt k11 (tt k10 (tt k9 (tt k8 (tt k7 (tt k6 (tt k5 (tt k4 (tt k3 (tt k2 (tt k1 (ww aG (tt k0 nn)))))))))))))))))) (fun k10 => (lr 34 64 [1, 1, 0, 1, 0, 0, 1, 0, 0, 1, 0, 0] 1 15 [(2, (ii 8))] (sl Qv 158 [] ⟨[], [], [some [2]], []⟩ ⟨[], [], []⟩ (trs 32 [false, false, false, false, false, false, false, false, false, false, false, false, false, false, false, false, false, false, false, false, false, false, false, false, false, false, false, true]) (tt k10 (tt k9 (tt k8 (tt k7 (tt k6 (tt k5 (tt k4 (tt k3 (tt k2 (tt k1 (ww aG (tt k0 nn))))))))))))))))) (fun k9 => (lr 34 64 [1, 1, 0, 1, 0, 0, 1, 0, 0, 1, 0, 0] 1 15 [(2, (ii 8))] (sl Qv 158 [] ⟨[], [], [some [2]], []⟩ ⟨[], [], []⟩ (trs 29 [false, false, false, false, false, false, false, false, false, false, false, false, false, false, false, false, false, false, false, false, false, false, false, false, false, false, false, false, false, false, true]) (tt k9 (tt k8 (tt k7 (tt k6 (tt k5 (tt k4 (tt k3 (tt k2 (tt k1 (ww aG (tt k0 nn)))))))))))))))) (fun k8 => (lr 34 64 [1, 1, 0, 1, 0, 0, 1, 0, 0, 1, 0, 0] 1 15 [(2, (ii 8))] (sl Qv 158 [] ⟨[], [], [some [2]], []⟩ ⟨[], [], []⟩ (trs 25 [false, false, false, false, false, false, false, false, false, false, false, false, false, false, false, false, false, false, false, false, false, false, false, false, false, false, false, false, false, false, false, false, false, false, true]) (tt k8 (tt k7 (tt k6 (tt k5 (tt k4 (tt k3 (tt k2 (tt k1 (ww aG (tt k0 nn))))))))))))))) (fun k7 => (lr 34 64 [1, 1, 0, 1, 0, 0, 1, 0, 0, 1, 0, 0] 1 15 [(2, (ii 8))] (sl Qv 158 [] ⟨[], [], [some [2]], []⟩ ⟨[], [], []⟩ (trs 21 [false, false, false, false, false, false, false, false, false, false, false, false, false, false, false, false, false, false, false, false, false, false, false, false, false, false, false, false, false, false, false, false, false, false, false, false, false, false, true]) (tt k7 (tt k6 (tt k5 (tt k4 (tt k3 (tt k2 (tt k1 (ww aG (tt k0 nn)))))))))))))) (fun k6 => (lr 34 64 [1, 1, 0, 1, 0, 0, 1, 0, 0, 1, 0, 0] 1 15 [(2, (ii 8))] (sl Qv 117 [] ⟨[], [], [some [2]], []⟩ ⟨[], [], []⟩ (trs 18 [false, false, false, false, false, false, false, false, false, false, false, false, false, false, false, false, false, false, false, false, false, false, false, false, true]) (tt k6 (tt k5 (tt k4 (tt k3 (tt k2 (tt k1 (ww aG (tt k0 nn))))))))))))) (fun k5 => (lr 34 64 [1, 1, 0, 1, 0, 0, 1, 0, 0, 1, 0, 0] 1 15 [(2, (ii 8))] (sl Qv 117 [] ⟨[], [], [some [2]], []⟩ ⟨[], [], []⟩ (trs 15 [false, false, false, false, false, false, false, false, false, false, false, false, false, false, false, false, false, false, false, false, false, false, false, false, false, false, false, true]) (tt k5 (tt k4 (tt k3 (tt k2 (tt k1 (ww aG (tt k0 nn)))))))))))) (fun k4 => (lr 34 64 [1, 1, 0, 1, 0, 0, 1, 0, 0, 1, 0, 0] 1 15 [(2, (ii 8))] (sl Qv 117 [] ⟨[], [], [some [2]], []⟩ ⟨[], [], []⟩ (trs 12 [false, false, false, false, false, false, false, false, false, false, false, false, false, false, false, false, false, false, false, false, false, false, false, false, false, false, false, false, false, false, true]) (tt k4 (tt k3 (tt k2 (tt k1 (ww aG (tt k0 nn))))))))))) (fun k3 => (lr 34 64 [1, 1, 0, 1, 0, 0, 1, 0, 0, 1, 0, 0] 1 15 [(2, (ii 8))] (sl Qv 117 [] ⟨[], [], [some [2]], []⟩ ⟨[], [], []⟩ (trs 9 [false, false, false, false, false, false, false, false, false, false, false, false, false, false, false, false, false, false, false, false, false, false, false, false, false, false, false, false, false, false, false, false, false, true]) (tt k3 (tt k2 (tt k1 (ww aG (tt k0 nn)))))))))) (fun k2 => (lr 34 64 [1, 1, 0, 1, 0, 0, 1, 0, 0, 1, 0, 0] 1 15 [(2, (ii 8))] (sl Qv 117 [] ⟨[], [], [some [2]], []⟩ ⟨[], [], []⟩ (trs 5 [false, false, false, false, false, false, false, false, false, false, false, false, false, false, false, false, false, false, false, false, false, false, false, false, false, false, false, false, false, false, false, false, false, false, false, false, false, true]) (tt k2 (tt k1 (ww aG (tt k0 nn))))))))) (fun k1 => (lr 34 64 [1, 1, 0, 1, 0, 0, 1, 0, 0, 1, 0, 0] 1 15 [(2, (ii 8))] (sl Qv 117 [] ⟨[], [], [some [2]], []⟩ ⟨[], [], []⟩ [true, false, false, false, false, false, false, false, false, false, false, false, false, false, false, false, false, false, false, false, false, false, false, false, false, false, false, false, false, false, false, false, false, false, false, false, false, false, false, false, false, false, true] (tt k1 (ww aG (tt k0 nn))))))))) (fun k0 => (lo fun aG => (lb (fun k1 => (lr 34 64 [1, 1, 1, 1, 0, 1, 0, 0] 1 15 [(2, (ii 8))] (sl Qv 37 [] ⟨[], [], [some [2]], []⟩ ⟨[], [], []⟩ [false, true, true, true, true, true] (tt k1 (pp (pp (xr l0) (pp (xI R6 0 (fun _ => [])) (xw aG))) (tt k0 nn)))))) (fun k1 => (lo fun cY => (lb (fun k2 => (lr 34 64 [1, 1, 1, 1, 0, 1, 0, 0] 1 15 [(2, (ii 8))] (sl Qv 37 [] ⟨[], [], [some [2]], []⟩ ⟨[], [], []⟩ [false, false, false, false, false, true] (tt k2 (pp (pp (xI R6 (z4c 2 (cvT l0) ([] : List R6)).length (Zz (z4c 2 (cvT l0) ([] : List R6)))) (pp (xr l0) (xw cY))) (tt k1 (pp (pp (xr l0) (pp (xI R6 0 (fun _ => [])) (xw aG))) (tt k0 nn)))))))) (fun k2 => (lr 34 3 [1, 1, 1, 1, 1, 1, 0] 1 15 [(2, (ii 0))] (sl Qv 38 [] ⟨[], [], [some [2]], []⟩ ⟨[], [], []⟩ [false, false, false, false, false, false] (tt k2 (pp (pp (xI R6 (z4c 2 (cvT l0) ([] : List R6)).length (Zz (z4c 2 (cvT l0) ([] : List R6)))) (pp (xr l0) (xw cY))) (tt k1 (pp (pp (xr l0) (pp (xI R6 0 (fun _ => [])) (xw aG))) (tt k0 nn)))))))))))))))
theorem y6y (l0 : List R6) : Xo prog (Zy prog 64) (v6t l0) (Zc prog 64 [(.dat l0.length (Zz l0))] true []) (z4x l0) := (lb (fun k0 => (lr 34 64 [1, 0, 1, 0, 0] 1 15 [(2, (ii 4))] (sl Qv 16 [] ⟨[], [], [some [2]], []⟩ ⟨[], [], []⟩ [true] (tt k0 nn)))) (fun k0 => (sl Qv 20 [] ⟨[], [], v2o, v2p⟩ ⟨[], [], []⟩ [false] (tt k0 nn))))
theorem w1v (l0 : List R6) (n : Nat) (vs : List AVal) (h : Yx (Qg l0) n (z4x l0) = .ret vs) : Jc prog (Zy prog 64) (Zc prog 64 [(.dat l0.length (Zz l0))] true []) vs := by
 have := Zn (x0t l0) n _ (y6y l0)
 rwa [h] at this
end Go.Am
namespace Go.Am
open Go.Proofs.Tryz
open Go.Proofs
def x5x (r : R6) : Bool := decide (r.a ≥ -1000000) && (decide (r.b ≥ -1000000) && (decide (r.c ≥ -1000000) && (decide (r.a ≤ 1000000) && (decide (r.b ≤ 1000000) && (decide (r.c ≤ 1000000) && (decide (r.d ≥ -1000000) && (decide (r.e ≥ -1000000) && (decide (r.f ≥ -1000000) && (decide (r.d ≤ 1000000) && (decide (r.e ≤ 1000000) && (decide (r.f ≤ 1000000) && (decide (r.a < r.d) && (decide (r.b < r.e) && decide (r.c < r.f))))))))))))))
def rckF (l : List R6) : Int := bif y7t 2 l [] then (bif Jf (z4c 2 l []) l then 0 else 8) else 8
def Xr (l : List R6) : Int := bif decide (400 < l.length) then 4 else bif l.all x5x then rckF l else 8
def w1t (l : List R6) : Bool := true
theorem x7s (k : Int) (l m : List R6) : (z4c k l m).length ≤ 400 ∨ y7t k l m = false := by
 unfold z4c y7t
 cases jsO k l m with
 | none => exact .inl (Nat.zero_le _)
 | some out =>
  by_cases h : (out.length : Int) ≤ 400
  ·left; show out.length ≤ 400; omega
  ·right; exact decide_eq_false h
section
variable (l : List R6) (hl : l.length ≤ 400)
include hl
theorem w1u : ∀ (k i : Nat), i + k = l.length → (∀ s ∈ l.take i, x5x s = true) → ∃ n, Yx (Qg l) n (.to (.h0 (i : Int))) = .ret [.int .i64 (bif l.all x5x then rckF l else 8)]
 | 0, i, h, ht => by
  have hv : l.all x5x = true := List.all_eq_true.2 fun s hs => ht s (by rw [List.take_of_length_le (by omega)]; exact hs)
  have w1 : z9e 2 l [] = true := decide_eq_true ⟨by omega, by simp⟩
  refine ⟨1, ?_⟩
  rw [Zv, hv, cond_true]
  unfold rckF
  rcases Yy (y7t 2 l []) with q | q
  ·have w2 : Vd (z4c 2 l []) l = true := decide_eq_true (by
    rcases x7s 2 l [] with h | h
    ·omega
    ·rw [h] at q; cases q)
   rcases Yy (Jf (z4c 2 l []) l) with q2 | q2 <;>
   simp (disch := omega) only [Qg, Zb, Zt, q, q2, w1, w2, Bool.not_true, Bool.not_false, cond_true, cond_false, Zm]
  ·simp (disch := omega) only [Qg, Zb, Zt, q, w1, Bool.not_true, Bool.not_false, cond_true, cond_false, Zm]
 | k + 1, i, h, ht => by
  have hi : i < l.length := by omega
  have hs : Qg l (.h0 (i : Int)) = bif x5x (rd l i) then .to (.h0 ((i + 1 : Nat) : Int)) else .ret [.int .i64 8] := by
   simp (disch := omega) only [Qg, x5x, x3c, y5m, x5m, Zr, Zj, Zx, Zk, Bool.and_true, cond_true, cond_false]
  rcases Yy (x5x (rd l i)) with q | q
  ·obtain ⟨n, hn⟩ := w1u k (i + 1) (by omega) (fun s hs => by
    rw [List.take_add_one] at hs
    have e : l[i]? = some (rd l i) := by rw [Xq hi]; exact List.getElem?_eq_getElem _
    rw [e] at hs
    simp only [Option.toList_some, List.mem_append, List.mem_singleton] at hs
    rcases hs with hs | rfl
    ·exact ht s hs
    ·exact q)
   refine ⟨n + 1, ?_⟩
   rw [Zv, hs, q, cond_true]
   exact hn
  ·have hv : l.all x5x = false := Bool.eq_false_iff.2 fun e => by
    have := List.all_eq_true.1 e (rd l i) (by rw [Xq hi]; exact List.getElem_mem hi)
    rw [this] at q; cases q
   refine ⟨1, ?_⟩
   rw [Zv, hv, cond_false, hs, q, cond_false, Zm]
end
theorem w6z (l : List R6) : ∃ n, Yx (Qg l) n (z4x l) = .ret [.int .i64 (Xr l)] := by
 unfold z4x Xr
 by_cases h : 400 < l.length
 ·refine ⟨0, ?_⟩
  rw [decide_eq_true h, Yn (show (l.length : Int) > 400 by omega)]; rfl
 ·obtain ⟨n, hn⟩ := w1u l (by omega) l.length 0 (Nat.zero_add _) (fun s hs => by simp at hs)
  refine ⟨n, ?_⟩
  rw [decide_eq_false h, Xw (show ¬ (l.length : Int) > 400 by omega), cond_false, cond_false]
  exact hn
def fRck : List AVal → Option (AVal × Bool)
 | [a1] => match asL R6 a1 with
  | some (L1, g1, n1) => some (.int .i64 (Xr L1), isT R6 n1 g1 && w1t L1)
  | _ => none
 | _ => none
theorem v8u {S : Specs} (hS : Zu prog S) : Zu prog (S.with w2u fRck) := by
 refine z0z hS (by kernel_rfl) fun args v h => ?_
 unfold fRck at h
 split at h
 ·rename_i a1
  split at h
  ·rename_i L1 g1 n1 e1
   simp only [Option.some.injEq, Prod.mk.injEq, Bool.and_eq_true] at h
   obtain ⟨rfl, ho1, hw⟩ := h
   obtain ⟨N, hN⟩ := w6z L1
   exact ⟨_, _, (.cons (asL_le e1 ho1) .nil), rfl, w1v L1 N _ hN, 3, rfl⟩
  ·cases h
 ·cases h
def T9 : Specs := T8.with w2u fRck
theorem u0p : Zu prog T9 := v8u Qv
end Go.Am
namespace Go.Am
open Go.Proofs
def gA (x : Int) (c B : R6) : R6 := ⟨Xm (IntKind.wrap .i64 (c.a - x)) B.a, Xm (IntKind.wrap .i64 (c.b - x)) B.b, Xm (IntKind.wrap .i64 (c.c - x)) B.c, Wn (IntKind.wrap .i64 (c.d + x)) B.d, Wn (IntKind.wrap .i64 (c.e + x)) B.e, Wn (IntKind.wrap .i64 (c.f + x)) B.f⟩
def x9f (r : R6) : Bool := decide (r.a ≥ r.d) || (decide (r.b ≥ r.e) || decide (r.c ≥ r.f))
def cvp1 (G B : R6) : R6 := ⟨B.a, B.b, B.c, G.a, B.e, B.f⟩
def cvp2 (G B : R6) : R6 := ⟨G.d, B.b, B.c, B.d, B.e, B.f⟩
def cvp3 (G B : R6) : R6 := ⟨G.a, B.b, B.c, G.d, G.b, B.f⟩
def cvp4 (G B : R6) : R6 := ⟨G.a, G.e, B.c, G.d, B.e, B.f⟩
def cvp5 (G B : R6) : R6 := ⟨G.a, G.b, B.c, G.d, G.e, G.c⟩
def cvp6 (G B : R6) : R6 := ⟨G.a, G.b, G.f, G.d, G.e, B.f⟩
def covB (x : Int) : List R6 → R6 → Bool
 | [], _ => false
 | c :: l, B => bif x9f (gA x c B) then covB x l B else
  (x9f (cvp1 (gA x c B) B) || covB x l (cvp1 (gA x c B) B)) && ((x9f (cvp2 (gA x c B) B) || covB x l (cvp2 (gA x c B) B)) && ((x9f (cvp3 (gA x c B) B) || covB x l (cvp3 (gA x c B) B)) &&
   ((x9f (cvp4 (gA x c B) B) || covB x l (cvp4 (gA x c B) B)) && ((x9f (cvp5 (gA x c B) B) || covB x l (cvp5 (gA x c B) B)) && (x9f (cvp6 (gA x c B) B) || covB x l (cvp6 (gA x c B) B))))))
def x9g (a b c d e f : Int) (L : List R6) (x : Int) : Bool := covB x L ⟨a, b, c, d, e, f⟩
def Vj (q : Nat) (a b c d e f : Int) (L : List R6) (x : Int) : Bool := decide (L.length < q) && decide (L.length ≤ 100000)
def fCov (q : Nat) : List AVal → Option (AVal × Bool)
 | [.agg [.int .i64 aU, .int .i64 aT, .int .i64 aQ, .int .i64 bD, .int .i64 bM, .int .i64 bE], a1, .int .i64 x2] => match asL R6 a1 with
  | some (L1, g1, n1) => some (.bool (x9g aU aT aQ bD bM bE L1 x2), isT R6 n1 g1 && (Vj q aU aT aQ bD bM bE L1 x2))
  | _ => none
 | _ => none
def Tcv (q : Nat) : Specs := T9.with z9c (fCov q)
theorem z3d (L : List R6) {k : Nat} (h : k ≤ L.length) : lst R6 (L.length - k) (fun j => (Zz L) (k + j)) = L.drop k := by
 rw [w7z L (by omega), List.take_of_length_le (by simp)]
end Go.Am
namespace Go.Am
open Go.Proofs.Tryz
open Go.Proofs
inductive cvdS where
 | h0 (v14 : Int)
 | h1 (bA : Int) (dB : Int) (aH : Int) (aB : Int) (bT : Int) (bL : Int) (cV : Int) (bS : Int) (aY : Int)
 | h2 (aW : Int) (aH : Int) (aB : Int) (bT : Int) (bL : Int) (bS : Int) (aY : Int)
 | h3 (aW : Int) (bA : Int) (bV : Int) (aH : Int) (bL : Int) (bS : Int) (aY : Int)
 | h4 (aW : Int) (bW : Int) (bA : Int) (aH : Int) (bT : Int) (bL : Int) (aY : Int)
 | h5 (aW : Int) (bW : Int) (bA : Int) (bV : Int) (dR : Int) (aH : Int) (aY : Int)
 | h6 (aW : Int) (bW : Int) (dS : Int) (bA : Int) (bV : Int) (aH : Int)
def cvdC (aU : Int) (aT : Int) (aQ : Int) (bD : Int) (bM : Int) (bE : Int) (l1 : List R6) (x2 : Int) : cvdS → Cfg
 | .h0 v14 => ⟨⟨200, 0, true⟩, none, (Zg prog 95 [1, 0, 1, 0, 0] 0), none, (Zy prog 4), ⟨Yq [(3, (.ptr 0 0)), (4, (.ptr 1 0)), (5, (.ptr 2 0)), (12, (.dat l1.length (Zz l1))), (13, (ii (l1.length : Int))), (14, (ii v14))], Va [⟨[(ii aU), (ii aT), (ii aQ), (ii bD), (ii bM), (ii bE)], 68, none⟩, ⟨[(.dat l1.length (Zz l1))], 22, none⟩, ⟨[(ii x2)], 3, none⟩] 0, 3, [], true⟩, [], .leaf⟩
 | .h1 bA dB aH aB bT bL cV bS aY => ⟨⟨38, 0, true⟩, none, (Zg prog 127 [] 0), none, (Zy prog 127), ⟨Yq [(0, (.agg [(ii aU), (ii aT), (ii aQ)])), (1, (.agg [(ii bA), (ii bM), (ii bE)])), (2, (.ptr 0 0)), (3, (.ptr 1 0)), (4, (.ptr 2 0))], Va [⟨[(.dat l1.length (Zz l1))], 22, none⟩, ⟨[(ii aH)], 3, none⟩, ⟨[(ii x2)], 3, none⟩, ⟨[(ii aB), (ii bT), (ii bL), (ii cV), (ii bS), (ii aY)], 68, none⟩, ⟨[(ii aU), (ii aT), (ii aQ)], 65, none⟩, ⟨[(ii bD), (ii bM), (ii bE)], 65, none⟩] 0, 6, [], true⟩, [⟨⟨200, 0, true⟩, (Vu prog 95 [1, 0, 1, 0, 0, 1, 1, 0, 0, 1, 1, 1, 1, 1, 1, 0, 0] 10), (Zg prog 95 [1, 0, 1, 0, 0, 1, 1, 0, 0, 1, 1, 1, 1, 1, 1, 0, 0] 1), none, (Zy prog 4), Yq [(8, (.ptr 3 0)), (9, (.fn 127 [(.ptr 0 0), (.ptr 1 0), (.ptr 2 0)])), (10, (.ptr 4 0)), (11, (.ptr 5 0)), (107, (.fn 127 [(.ptr 0 0), (.ptr 1 0), (.ptr 2 0)])), (108, (.agg [(ii aU), (ii aT), (ii aQ)])), (116, (.agg [(ii dB), (ii bM), (ii bE)]))]⟩], .leaf⟩
 | .h2 aW aH aB bT bL bS aY => ⟨⟨38, 0, true⟩, none, (Zg prog 127 [] 0), none, (Zy prog 127), ⟨Yq [(0, (.agg [(ii aW), (ii aT), (ii aQ)])), (1, (.agg [(ii bD), (ii bM), (ii bE)])), (2, (.ptr 0 0)), (3, (.ptr 1 0)), (4, (.ptr 2 0))], Va [⟨[(.dat l1.length (Zz l1))], 22, none⟩, ⟨[(ii aH)], 3, none⟩, ⟨[(ii x2)], 3, none⟩, ⟨[(ii aB), (ii bT), (ii bL), (ii aW), (ii bS), (ii aY)], 68, none⟩, ⟨[(ii aU), (ii aT), (ii aQ)], 65, none⟩, ⟨[(ii bD), (ii bM), (ii bE)], 65, none⟩] 0, 6, [], true⟩, [⟨⟨200, 0, true⟩, (Vu prog 95 [1, 0, 1, 0, 0, 1, 1, 0, 0, 1, 1, 1, 1, 1, 1, 0, 0] 23), (Zg prog 95 [1, 0, 1, 0, 0, 1, 1, 0, 0, 1, 1, 1, 1, 1, 1, 0, 0] 1), none, (Zy prog 4), Yq [(8, (.ptr 3 0)), (9, (.fn 127 [(.ptr 0 0), (.ptr 1 0), (.ptr 2 0)])), (10, (.ptr 4 0)), (11, (.ptr 5 0)), (119, (.bool false)), (120, (.fn 127 [(.ptr 0 0), (.ptr 1 0), (.ptr 2 0)])), (128, (.agg [(ii aW), (ii aT), (ii aQ)])), (129, (.agg [(ii bD), (ii bM), (ii bE)]))]⟩], .leaf⟩
 | .h3 aW bA bV aH bL bS aY => ⟨⟨38, 0, true⟩, none, (Zg prog 127 [] 0), none, (Zy prog 127), ⟨Yq [(0, (.agg [(ii aW), (ii aT), (ii aQ)])), (1, (.agg [(ii bA), (ii bV), (ii bE)])), (2, (.ptr 0 0)), (3, (.ptr 1 0)), (4, (.ptr 2 0))], Va [⟨[(.dat l1.length (Zz l1))], 22, none⟩, ⟨[(ii aH)], 3, none⟩, ⟨[(ii x2)], 3, none⟩, ⟨[(ii aW), (ii bV), (ii bL), (ii bA), (ii bS), (ii aY)], 68, none⟩, ⟨[(ii aW), (ii aT), (ii aQ)], 65, none⟩, ⟨[(ii bA), (ii bM), (ii bE)], 65, none⟩] 0, 6, [], true⟩, [⟨⟨200, 0, true⟩, (Vu prog 95 [1, 0, 1, 0, 0, 1, 1, 0, 0, 1, 1, 1, 1, 1, 1, 1, 1, 0, 0] 10), (Zg prog 95 [1, 0, 1, 0, 0, 1, 1, 0, 0, 1, 1, 1, 1, 1, 1, 1, 1, 0, 0] 1), none, (Zy prog 4), Yq [(8, (.ptr 3 0)), (9, (.fn 127 [(.ptr 0 0), (.ptr 1 0), (.ptr 2 0)])), (10, (.ptr 4 0)), (11, (.ptr 5 0)), (141, (.fn 127 [(.ptr 0 0), (.ptr 1 0), (.ptr 2 0)])), (142, (.agg [(ii aW), (ii aT), (ii aQ)])), (150, (.agg [(ii bA), (ii bV), (ii bE)]))]⟩], .leaf⟩
 | .h4 aW bW bA aH bT bL aY => ⟨⟨38, 0, true⟩, none, (Zg prog 127 [] 0), none, (Zy prog 127), ⟨Yq [(0, (.agg [(ii aW), (ii bW), (ii aQ)])), (1, (.agg [(ii bA), (ii bM), (ii bE)])), (2, (.ptr 0 0)), (3, (.ptr 1 0)), (4, (.ptr 2 0))], Va [⟨[(.dat l1.length (Zz l1))], 22, none⟩, ⟨[(ii aH)], 3, none⟩, ⟨[(ii x2)], 3, none⟩, ⟨[(ii aW), (ii bT), (ii bL), (ii bA), (ii bW), (ii aY)], 68, none⟩, ⟨[(ii aW), (ii aT), (ii aQ)], 65, none⟩, ⟨[(ii bA), (ii bM), (ii bE)], 65, none⟩] 0, 6, [], true⟩, [⟨⟨200, 0, true⟩, (Vu prog 95 [1, 0, 1, 0, 0, 1, 1, 0, 0, 1, 1, 1, 1, 1, 1, 1, 1, 0, 0] 23), (Zg prog 95 [1, 0, 1, 0, 0, 1, 1, 0, 0, 1, 1, 1, 1, 1, 1, 1, 1, 0, 0] 1), none, (Zy prog 4), Yq [(8, (.ptr 3 0)), (9, (.fn 127 [(.ptr 0 0), (.ptr 1 0), (.ptr 2 0)])), (10, (.ptr 4 0)), (11, (.ptr 5 0)), (153, (.bool false)), (154, (.fn 127 [(.ptr 0 0), (.ptr 1 0), (.ptr 2 0)])), (162, (.agg [(ii aW), (ii bW), (ii aQ)])), (163, (.agg [(ii bA), (ii bM), (ii bE)]))]⟩], .leaf⟩
 | .h5 aW bW bA bV dR aH aY => ⟨⟨38, 0, true⟩, none, (Zg prog 127 [] 0), none, (Zy prog 127), ⟨Yq [(0, (.agg [(ii aW), (ii bW), (ii aQ)])), (1, (.agg [(ii bA), (ii bV), (ii dR)])), (2, (.ptr 0 0)), (3, (.ptr 1 0)), (4, (.ptr 2 0))], Va [⟨[(.dat l1.length (Zz l1))], 22, none⟩, ⟨[(ii aH)], 3, none⟩, ⟨[(ii x2)], 3, none⟩, ⟨[(ii aW), (ii bW), (ii dR), (ii bA), (ii bV), (ii aY)], 68, none⟩, ⟨[(ii aW), (ii bW), (ii aQ)], 65, none⟩, ⟨[(ii bA), (ii bV), (ii bE)], 65, none⟩] 0, 6, [], true⟩, [⟨⟨200, 0, true⟩, (Vu prog 95 [1, 0, 1, 0, 0, 1, 1, 0, 0, 1, 1, 1, 1, 1, 1, 1, 1, 1, 1, 0] 10), (Zg prog 95 [1, 0, 1, 0, 0, 1, 1, 0, 0, 1, 1, 1, 1, 1, 1, 1, 1, 1, 1, 0] 1), none, (Zy prog 4), Yq [(8, (.ptr 3 0)), (9, (.fn 127 [(.ptr 0 0), (.ptr 1 0), (.ptr 2 0)])), (10, (.ptr 4 0)), (11, (.ptr 5 0)), (175, (.fn 127 [(.ptr 0 0), (.ptr 1 0), (.ptr 2 0)])), (176, (.agg [(ii aW), (ii bW), (ii aQ)])), (184, (.agg [(ii bA), (ii bV), (ii dR)]))]⟩], .leaf⟩
 | .h6 aW bW dS bA bV aH => ⟨⟨38, 0, true⟩, none, (Zg prog 127 [] 0), none, (Zy prog 127), ⟨Yq [(0, (.agg [(ii aW), (ii bW), (ii dS)])), (1, (.agg [(ii bA), (ii bV), (ii bE)])), (2, (.ptr 0 0)), (3, (.ptr 1 0)), (4, (.ptr 2 0))], Va [⟨[(.dat l1.length (Zz l1))], 22, none⟩, ⟨[(ii aH)], 3, none⟩, ⟨[(ii x2)], 3, none⟩] 0, 3, [], true⟩, [⟨⟨200, 0, true⟩, (Vu prog 95 [1, 0, 1, 0, 0, 1, 1, 0, 0, 1, 1, 1, 1, 1, 1, 1, 1, 1, 1, 0] 22), (Zg prog 95 [1, 0, 1, 0, 0, 1, 1, 0, 0, 1, 1, 1, 1, 1, 1, 1, 1, 1, 1, 0] 1), none, (Zy prog 4), Yq [(186, (.bool true)), (187, (.fn 127 [(.ptr 0 0), (.ptr 1 0), (.ptr 2 0)])), (195, (.agg [(ii aW), (ii bW), (ii dS)])), (196, (.agg [(ii bA), (ii bV), (ii bE)]))]⟩], .leaf⟩
def v0b : List (Option (List Nat)) := [some [3, 4, 5, 12, 13, 14]]
def v0h : List (Option (List Nat)) := []
def cvdN1 : List (Option (List Nat)) := [some [0, 1, 2, 3, 4], some [8, 9, 10, 11, 107, 108, 116]]
def cvdM1 : List (Option (List Nat)) := []
def v0a : List (Option (List Nat)) := [some [0, 1, 2, 3, 4], some [8, 9, 10, 11, 119, 120, 128, 129]]
def v0g : List (Option (List Nat)) := []
def w9z : List (Option (List Nat)) := [some [0, 1, 2, 3, 4], some [8, 9, 10, 11, 141, 142, 150]]
def v0f : List (Option (List Nat)) := []
def w9y : List (Option (List Nat)) := [some [0, 1, 2, 3, 4], some [8, 9, 10, 11, 153, 154, 162, 163]]
def v0e : List (Option (List Nat)) := []
def w9x : List (Option (List Nat)) := [some [0, 1, 2, 3, 4], some [8, 9, 10, 11, 175, 176, 184]]
def v0d : List (Option (List Nat)) := []
def w9w : List (Option (List Nat)) := [some [0, 1, 2, 3, 4], some [186, 187, 195, 196]]
def v0c : List (Option (List Nat)) := []
def Wh (q : Nat) (aU : Int) (aT : Int) (aQ : Int) (bD : Int) (bM : Int) (bE : Int) (l1 : List R6) (x2 : Int) : cvdS → Xa cvdS
 | .h0 v14 => (bif (decide (v14 < (l1.length : Int))) then (bif ((decide (0 ≤ v14 ∧ v14 < (l1.length : Int))) && true) then (bif (decide ((Xm (IntKind.wrap .i64 ((rd l1 v14.toNat).a - x2)) aU) ≥ (Wn (IntKind.wrap .i64 ((rd l1 v14.toNat).d + x2)) bD))) then (.to (.h0 (IntKind.wrap .i64 (v14 + 1)))) else (bif (decide ((Xm (IntKind.wrap .i64 ((rd l1 v14.toNat).b - x2)) aT) ≥ (Wn (IntKind.wrap .i64 ((rd l1 v14.toNat).e + x2)) bM))) then (.to (.h0 (IntKind.wrap .i64 (v14 + 1)))) else (bif (decide ((Xm (IntKind.wrap .i64 ((rd l1 v14.toNat).c - x2)) aQ) ≥ (Wn (IntKind.wrap .i64 ((rd l1 v14.toNat).f + x2)) bE))) then (.to (.h0 (IntKind.wrap .i64 (v14 + 1)))) else (.to (.h1 (Xm (IntKind.wrap .i64 ((rd l1 v14.toNat).a - x2)) aU) (Xm (IntKind.wrap .i64 ((rd l1 v14.toNat).a - x2)) aU) v14 (Xm (IntKind.wrap .i64 ((rd l1 v14.toNat).a - x2)) aU) (Xm (IntKind.wrap .i64 ((rd l1 v14.toNat).b - x2)) aT) (Xm (IntKind.wrap .i64 ((rd l1 v14.toNat).c - x2)) aQ) (Wn (IntKind.wrap .i64 ((rd l1 v14.toNat).d + x2)) bD) (Wn (IntKind.wrap .i64 ((rd l1 v14.toNat).e + x2)) bM) (Wn (IntKind.wrap .i64 ((rd l1 v14.toNat).f + x2)) bE)))))) else .stuck) else (.ret [(.bool false)]))
 | .h1 bA dB aH aB bT bL cV bS aY => (bif (decide (aU ≥ bA)) then (.to (.h2 cV aH aB bT bL bS aY)) else (bif (decide (aT ≥ bM)) then (.to (.h2 cV aH aB bT bL bS aY)) else (bif (decide (aQ ≥ bE)) then (.to (.h2 cV aH aB bT bL bS aY)) else (bif (decide ((Int.toNat (IntKind.wrap .i64 (aH + 1))) ≤ l1.length)) then (bif (decide (l1.length ≤ l1.length)) then (bif (decide (0 ≤ (IntKind.wrap .i64 (aH + 1)))) then (bif (Vj q aU aT aQ bA bM bE (lst R6 (l1.length - (Int.toNat (IntKind.wrap .i64 (aH + 1)))) (fun k => (Zz l1) ((Int.toNat (IntKind.wrap .i64 (aH + 1))) + k))) x2) then (bif (!(x9g aU aT aQ bA bM bE (lst R6 (l1.length - (Int.toNat (IntKind.wrap .i64 (aH + 1)))) (fun k => (Zz l1) ((Int.toNat (IntKind.wrap .i64 (aH + 1))) + k))) x2)) then (.ret [(.bool false)]) else (.to (.h2 cV aH aB bT bL bS aY))) else .stuck) else .stuck) else .stuck) else .stuck))))
 | .h2 aW aH aB bT bL bS aY => (bif (decide (aW ≥ bD)) then (.to (.h3 aB aW bT aH bL bS aY)) else (bif (decide (aT ≥ bM)) then (.to (.h3 aB aW bT aH bL bS aY)) else (bif (decide (aQ ≥ bE)) then (.to (.h3 aB aW bT aH bL bS aY)) else (bif (decide ((Int.toNat (IntKind.wrap .i64 (aH + 1))) ≤ l1.length)) then (bif (decide (l1.length ≤ l1.length)) then (bif (decide (0 ≤ (IntKind.wrap .i64 (aH + 1)))) then (bif (Vj q aW aT aQ bD bM bE (lst R6 (l1.length - (Int.toNat (IntKind.wrap .i64 (aH + 1)))) (fun k => (Zz l1) ((Int.toNat (IntKind.wrap .i64 (aH + 1))) + k))) x2) then (bif (!(x9g aW aT aQ bD bM bE (lst R6 (l1.length - (Int.toNat (IntKind.wrap .i64 (aH + 1)))) (fun k => (Zz l1) ((Int.toNat (IntKind.wrap .i64 (aH + 1))) + k))) x2)) then (.ret [(.bool false)]) else (.to (.h3 aB aW bT aH bL bS aY))) else .stuck) else .stuck) else .stuck) else .stuck))))
 | .h3 aW bA bV aH bL bS aY => (bif (decide (aW ≥ bA)) then (.to (.h4 aW bS bA aH bV bL aY)) else (bif (decide (aT ≥ bV)) then (.to (.h4 aW bS bA aH bV bL aY)) else (bif (decide (aQ ≥ bE)) then (.to (.h4 aW bS bA aH bV bL aY)) else (bif (decide ((Int.toNat (IntKind.wrap .i64 (aH + 1))) ≤ l1.length)) then (bif (decide (l1.length ≤ l1.length)) then (bif (decide (0 ≤ (IntKind.wrap .i64 (aH + 1)))) then (bif (Vj q aW aT aQ bA bV bE (lst R6 (l1.length - (Int.toNat (IntKind.wrap .i64 (aH + 1)))) (fun k => (Zz l1) ((Int.toNat (IntKind.wrap .i64 (aH + 1))) + k))) x2) then (bif (!(x9g aW aT aQ bA bV bE (lst R6 (l1.length - (Int.toNat (IntKind.wrap .i64 (aH + 1)))) (fun k => (Zz l1) ((Int.toNat (IntKind.wrap .i64 (aH + 1))) + k))) x2)) then (.ret [(.bool false)]) else (.to (.h4 aW bS bA aH bV bL aY))) else .stuck) else .stuck) else .stuck) else .stuck))))
 | .h4 aW bW bA aH bT bL aY => (bif (decide (aW ≥ bA)) then (.to (.h5 aW bT bA bW bL aH aY)) else (bif (decide (bW ≥ bM)) then (.to (.h5 aW bT bA bW bL aH aY)) else (bif (decide (aQ ≥ bE)) then (.to (.h5 aW bT bA bW bL aH aY)) else (bif (decide ((Int.toNat (IntKind.wrap .i64 (aH + 1))) ≤ l1.length)) then (bif (decide (l1.length ≤ l1.length)) then (bif (decide (0 ≤ (IntKind.wrap .i64 (aH + 1)))) then (bif (Vj q aW bW aQ bA bM bE (lst R6 (l1.length - (Int.toNat (IntKind.wrap .i64 (aH + 1)))) (fun k => (Zz l1) ((Int.toNat (IntKind.wrap .i64 (aH + 1))) + k))) x2) then (bif (!(x9g aW bW aQ bA bM bE (lst R6 (l1.length - (Int.toNat (IntKind.wrap .i64 (aH + 1)))) (fun k => (Zz l1) ((Int.toNat (IntKind.wrap .i64 (aH + 1))) + k))) x2)) then (.ret [(.bool false)]) else (.to (.h5 aW bT bA bW bL aH aY))) else .stuck) else .stuck) else .stuck) else .stuck))))
 | .h5 aW bW bA bV dR aH aY => (bif (decide (aW ≥ bA)) then (.to (.h6 aW bW aY bA bV aH)) else (bif (decide (bW ≥ bV)) then (.to (.h6 aW bW aY bA bV aH)) else (bif (decide (aQ ≥ dR)) then (.to (.h6 aW bW aY bA bV aH)) else (bif (decide ((Int.toNat (IntKind.wrap .i64 (aH + 1))) ≤ l1.length)) then (bif (decide (l1.length ≤ l1.length)) then (bif (decide (0 ≤ (IntKind.wrap .i64 (aH + 1)))) then (bif (Vj q aW bW aQ bA bV dR (lst R6 (l1.length - (Int.toNat (IntKind.wrap .i64 (aH + 1)))) (fun k => (Zz l1) ((Int.toNat (IntKind.wrap .i64 (aH + 1))) + k))) x2) then (bif (x9g aW bW aQ bA bV dR (lst R6 (l1.length - (Int.toNat (IntKind.wrap .i64 (aH + 1)))) (fun k => (Zz l1) ((Int.toNat (IntKind.wrap .i64 (aH + 1))) + k))) x2) then (.to (.h6 aW bW aY bA bV aH)) else (.ret [(.bool false)])) else .stuck) else .stuck) else .stuck) else .stuck))))
 | .h6 aW bW dS bA bV aH => (bif (decide (aW ≥ bA)) then (.ret [(.bool true)]) else (bif (decide (bW ≥ bV)) then (.ret [(.bool true)]) else (bif (decide (dS ≥ bE)) then (.ret [(.bool true)]) else (bif (decide ((Int.toNat (IntKind.wrap .i64 (aH + 1))) ≤ l1.length)) then (bif (decide (l1.length ≤ l1.length)) then (bif (decide (0 ≤ (IntKind.wrap .i64 (aH + 1)))) then (bif (Vj q aW bW dS bA bV bE (lst R6 (l1.length - (Int.toNat (IntKind.wrap .i64 (aH + 1)))) (fun k => (Zz l1) ((Int.toNat (IntKind.wrap .i64 (aH + 1))) + k))) x2) then (.ret [(.bool (x9g aW bW dS bA bV bE (lst R6 (l1.length - (Int.toNat (IntKind.wrap .i64 (aH + 1)))) (fun k => (Zz l1) ((Int.toNat (IntKind.wrap .i64 (aH + 1))) + k))) x2))]) else .stuck) else .stuck) else .stuck) else .stuck))))
def y5f (aU : Int) (aT : Int) (aQ : Int) (bD : Int) (bM : Int) (bE : Int) (l1 : List R6) (x2 : Int) : Xa cvdS := (.to (.h0 0))
theorem x8p {q : Nat} (hq : Zu prog (Tcv q)) (aU : Int) (aT : Int) (aQ : Int) (bD : Int) (bM : Int) (bE : Int) (l1 : List R6) (x2 : Int) : ∀ s, Xo prog (Zy prog 95) (cvdC aU aT aQ bD bM bE l1 x2) (cvdC aU aT aQ bD bM bE l1 x2 s) (Wh q aU aT aQ bD bM bE l1 x2 s)
 | .h0 v14 => (lb (fun k0 => (lo fun aG => (lb (fun k1 => (sl hq 121 [] ⟨[0, 1, 2], [], v0b, v0h⟩ ⟨[], [], []⟩ (trs 16 []) (tt k1 (ww aG (tt k0 nn))))) (fun k1 => (lb (fun k2 => (sl hq 121 [] ⟨[0, 1, 2], [], v0b, v0h⟩ ⟨[], [], []⟩ [true, false, false, false, false, false, false, false, true, true, true, true, true, true, true, true] (tt k2 (tt k1 (ww aG (tt k0 nn)))))) (fun k2 => (lb (fun k3 => (sl hq 121 [] ⟨[0, 1, 2], [], v0b, v0h⟩ ⟨[], [], []⟩ [true, false, false, false, false, false, false, false, false, false, false, false, false, false, false, true] (tt k3 (tt k2 (tt k1 (ww aG (tt k0 nn))))))) (fun k3 => (sl hq 137 [] ⟨[1, 3, 2, 4, 5, 6], [], cvdN1, cvdM1⟩ ⟨[], [], []⟩ [true, false, false, false, false, false, false, false, false, false, false, false, false, false, false, false] (tt k3 (tt k2 (tt k1 (ww aG (tt k0 nn)))))))))))))) (fun k0 => (lr 200 3 [1, 1, 1, 1, 1, 1, 0] 1 4 [(6, (.bool false))] (sl hq 11 [] ⟨[], [], [some [6]], []⟩ ⟨[], [], []⟩ [false] (tt k0 nn)))))
 | .h1 bA dB aH aB bT bL cV bS aY => (lb (fun k0 => (sl hq 22 [] ⟨(List.range 6), [], v0a, v0g⟩ ⟨[], [], []⟩ (trs 19 [false, false, false, false, false, false, false, false, false, false, false]) (tt k0 nn))) (fun k0 => (lb (fun k1 => (sl hq 22 [] ⟨(List.range 6), [], v0a, v0g⟩ ⟨[], [], []⟩ [false, false, false, false, false, true, true, true, true, true, true, true, true, true, true, true, true, true, true, false, false, false, false, false, false, false, false, false, false, false] (tt k1 (tt k0 nn)))) (fun k1 => (lb (fun k2 => (sl hq 22 [] ⟨(List.range 6), [], v0a, v0g⟩ ⟨[], [], []⟩ [false, false, false, false, false, false, false, false, false, false, true, true, true, true, true, true, true, true, true, false, false, false, false, false, false, false, false, false, false, false] (tt k2 (tt k1 (tt k0 nn))))) (fun k2 => (lo fun cX => (lo fun dU => (lo fun dC => (lo fun dJ => (lb (fun k3 => (lr 200 95 [1, 0, 1, 0, 0, 1, 1, 0, 0, 1, 1, 1, 1, 1, 1, 0, 1, 0, 0] 1 4 [(6, (.bool false))] (sl hq 30 [] ⟨[], [], [some [6]], []⟩ ⟨[], [], []⟩ [false, false, false, false, false, false, false, false, false, false, false, false, false, false, false, false, false, false, false, true, true, true, true, true, true, true, true, true, true, true, true, true] (tt k3 (pp (pp (xI R6 (l1.length - (tn (wr (aH + 1)))) (fun k => (Zz l1) ((tn (wr (aH + 1))) + k))) (xw dJ)) (pp (pp nn (pp (xw dC) (pp (xG (decide (l1.length ≤ l1.length))) (pp (xG (decide ((tn (wr (aH + 1))) ≤ l1.length))) (xG (x7p l1.length (Zz l1) 6)))))) (tt k2 (tt k1 (tt k0 nn))))))))) (fun k3 => (sl hq 22 [] ⟨(List.range 6), [], v0a, v0g⟩ ⟨[], [], []⟩ [false, false, false, false, false, false, false, false, false, false, false, false, false, false, false, false, false, false, false, false, false, false, false, false, false, false, false, false, false, false] (tt k3 (pp (pp (xI R6 (l1.length - (tn (wr (aH + 1)))) (fun k => (Zz l1) ((tn (wr (aH + 1))) + k))) (xw dJ)) (pp (pp nn (pp (xw dC) (pp (xG (decide (l1.length ≤ l1.length))) (pp (xG (decide ((tn (wr (aH + 1))) ≤ l1.length))) (xG (x7p l1.length (Zz l1) 6)))))) (tt k2 (tt k1 (tt k0 nn)))))))))))))))))))
 | .h2 aW aH aB bT bL bS aY => (lb (fun k0 => (sl hq 30 [] ⟨(List.range 6), [], w9z, v0f⟩ ⟨[], [], []⟩ (trs 19 [false, false]) (tt k0 nn))) (fun k0 => (lb (fun k1 => (sl hq 30 [] ⟨(List.range 6), [], w9z, v0f⟩ ⟨[], [], []⟩ [false, false, false, false, false, true, true, true, true, true, true, true, true, true, true, true, true, true, true, false, false] (tt k1 (tt k0 nn)))) (fun k1 => (lb (fun k2 => (sl hq 30 [] ⟨(List.range 6), [], w9z, v0f⟩ ⟨[], [], []⟩ [false, false, false, false, false, false, false, false, false, false, true, true, true, true, true, true, true, true, true, false, false] (tt k2 (tt k1 (tt k0 nn))))) (fun k2 => (lo fun cX => (lo fun dU => (lo fun dC => (lo fun dJ => (lb (fun k3 => (lr 200 95 [1, 0, 1, 0, 0, 1, 1, 0, 0, 1, 1, 1, 1, 1, 1, 0, 1, 0, 0] 1 4 [(6, (.bool false))] (sl hq 17 [] ⟨[], [], [some [6]], []⟩ ⟨[], [], []⟩ [false, false, false, false, false, false, false, false, false, false, false, false, false, false, false, false, false, false, false, false, true] (tt k3 (pp (pp (xI R6 (l1.length - (tn (wr (aH + 1)))) (fun k => (Zz l1) ((tn (wr (aH + 1))) + k))) (xw dJ)) (pp (pp nn (pp (xw dC) (pp (xG (decide (l1.length ≤ l1.length))) (pp (xG (decide ((tn (wr (aH + 1))) ≤ l1.length))) (xG (x7p l1.length (Zz l1) 6)))))) (tt k2 (tt k1 (tt k0 nn))))))))) (fun k3 => (sl hq 30 [] ⟨(List.range 6), [], w9z, v0f⟩ ⟨[], [], []⟩ [false, false, false, false, false, false, false, false, false, false, false, false, false, false, false, false, false, false, false, false, false] (tt k3 (pp (pp (xI R6 (l1.length - (tn (wr (aH + 1)))) (fun k => (Zz l1) ((tn (wr (aH + 1))) + k))) (xw dJ)) (pp (pp nn (pp (xw dC) (pp (xG (decide (l1.length ≤ l1.length))) (pp (xG (decide ((tn (wr (aH + 1))) ≤ l1.length))) (xG (x7p l1.length (Zz l1) 6)))))) (tt k2 (tt k1 (tt k0 nn)))))))))))))))))))
 | .h3 aW bA bV aH bL bS aY => (lb (fun k0 => (sl hq 22 [] ⟨(List.range 6), [], w9y, v0e⟩ ⟨[], [], []⟩ (trs 19 [false, false, false, false, false, false, false, false, false, false, false]) (tt k0 nn))) (fun k0 => (lb (fun k1 => (sl hq 22 [] ⟨(List.range 6), [], w9y, v0e⟩ ⟨[], [], []⟩ [false, false, false, false, false, true, true, true, true, true, true, true, true, true, true, true, true, true, true, false, false, false, false, false, false, false, false, false, false, false] (tt k1 (tt k0 nn)))) (fun k1 => (lb (fun k2 => (sl hq 22 [] ⟨(List.range 6), [], w9y, v0e⟩ ⟨[], [], []⟩ [false, false, false, false, false, false, false, false, false, false, true, true, true, true, true, true, true, true, true, false, false, false, false, false, false, false, false, false, false, false] (tt k2 (tt k1 (tt k0 nn))))) (fun k2 => (lo fun cX => (lo fun dU => (lo fun dC => (lo fun dJ => (lb (fun k3 => (lr 200 95 [1, 0, 1, 0, 0, 1, 1, 0, 0, 1, 1, 1, 1, 1, 1, 1, 1, 0, 1, 0, 0] 1 4 [(6, (.bool false))] (sl hq 30 [] ⟨[], [], [some [6]], []⟩ ⟨[], [], []⟩ [false, false, false, false, false, false, false, false, false, false, false, false, false, false, false, false, false, false, false, true, true, true, true, true, true, true, true, true, true, true, true, true] (tt k3 (pp (pp (xI R6 (l1.length - (tn (wr (aH + 1)))) (fun k => (Zz l1) ((tn (wr (aH + 1))) + k))) (xw dJ)) (pp (pp nn (pp (xw dC) (pp (xG (decide (l1.length ≤ l1.length))) (pp (xG (decide ((tn (wr (aH + 1))) ≤ l1.length))) (xG (x7p l1.length (Zz l1) 6)))))) (tt k2 (tt k1 (tt k0 nn))))))))) (fun k3 => (sl hq 22 [] ⟨(List.range 6), [], w9y, v0e⟩ ⟨[], [], []⟩ [false, false, false, false, false, false, false, false, false, false, false, false, false, false, false, false, false, false, false, false, false, false, false, false, false, false, false, false, false, false] (tt k3 (pp (pp (xI R6 (l1.length - (tn (wr (aH + 1)))) (fun k => (Zz l1) ((tn (wr (aH + 1))) + k))) (xw dJ)) (pp (pp nn (pp (xw dC) (pp (xG (decide (l1.length ≤ l1.length))) (pp (xG (decide ((tn (wr (aH + 1))) ≤ l1.length))) (xG (x7p l1.length (Zz l1) 6)))))) (tt k2 (tt k1 (tt k0 nn)))))))))))))))))))
 | .h4 aW bW bA aH bT bL aY => (lb (fun k0 => (sl hq 29 [] ⟨(List.range 6), [], w9x, v0d⟩ ⟨[], [], []⟩ (trs 19 [false, false]) (tt k0 nn))) (fun k0 => (lb (fun k1 => (sl hq 29 [] ⟨(List.range 6), [], w9x, v0d⟩ ⟨[], [], []⟩ [false, false, false, false, false, true, true, true, true, true, true, true, true, true, true, true, true, true, true, false, false] (tt k1 (tt k0 nn)))) (fun k1 => (lb (fun k2 => (sl hq 29 [] ⟨(List.range 6), [], w9x, v0d⟩ ⟨[], [], []⟩ [false, false, false, false, false, false, false, false, false, false, true, true, true, true, true, true, true, true, true, false, false] (tt k2 (tt k1 (tt k0 nn))))) (fun k2 => (lo fun cX => (lo fun dU => (lo fun dC => (lo fun dJ => (lb (fun k3 => (lr 200 95 [1, 0, 1, 0, 0, 1, 1, 0, 0, 1, 1, 1, 1, 1, 1, 1, 1, 0, 1, 0, 0] 1 4 [(6, (.bool false))] (sl hq 17 [] ⟨[], [], [some [6]], []⟩ ⟨[], [], []⟩ [false, false, false, false, false, false, false, false, false, false, false, false, false, false, false, false, false, false, false, false, true] (tt k3 (pp (pp (xI R6 (l1.length - (tn (wr (aH + 1)))) (fun k => (Zz l1) ((tn (wr (aH + 1))) + k))) (xw dJ)) (pp (pp nn (pp (xw dC) (pp (xG (decide (l1.length ≤ l1.length))) (pp (xG (decide ((tn (wr (aH + 1))) ≤ l1.length))) (xG (x7p l1.length (Zz l1) 6)))))) (tt k2 (tt k1 (tt k0 nn))))))))) (fun k3 => (sl hq 29 [] ⟨(List.range 6), [], w9x, v0d⟩ ⟨[], [], []⟩ [false, false, false, false, false, false, false, false, false, false, false, false, false, false, false, false, false, false, false, false, false] (tt k3 (pp (pp (xI R6 (l1.length - (tn (wr (aH + 1)))) (fun k => (Zz l1) ((tn (wr (aH + 1))) + k))) (xw dJ)) (pp (pp nn (pp (xw dC) (pp (xG (decide (l1.length ≤ l1.length))) (pp (xG (decide ((tn (wr (aH + 1))) ≤ l1.length))) (xG (x7p l1.length (Zz l1) 6)))))) (tt k2 (tt k1 (tt k0 nn)))))))))))))))))))
 | .h5 aW bW bA bV dR aH aY => (lb (fun k0 => (sl hq 21 [] ⟨[0, 1, 2], [], w9w, v0c⟩ ⟨[], [], []⟩ (trs 30 []) (tt k0 nn))) (fun k0 => (lb (fun k1 => (sl hq 21 [] ⟨[0, 1, 2], [], w9w, v0c⟩ ⟨[], [], []⟩ [false, false, false, false, false, true, true, true, true, true, true, true, true, true, true, true, true, true, true, true, true, true, true, true, true, true, true, true, true, true] (tt k1 (tt k0 nn)))) (fun k1 => (lb (fun k2 => (sl hq 21 [] ⟨[0, 1, 2], [], w9w, v0c⟩ ⟨[], [], []⟩ [false, false, false, false, false, false, false, false, false, false, true, true, true, true, true, true, true, true, true, true, true, true, true, true, true, true, true, true, true, true] (tt k2 (tt k1 (tt k0 nn))))) (fun k2 => (lo fun cX => (lo fun dU => (lo fun dC => (lo fun dJ => (lb (fun k3 => (sl hq 21 [] ⟨[0, 1, 2], [], w9w, v0c⟩ ⟨[], [], []⟩ [false, false, false, false, false, false, false, false, false, false, false, false, false, false, false, false, false, false, false, true, true, true, true, true, true, true, true, true, true, true] (tt k3 (pp (pp (xI R6 (l1.length - (tn (wr (aH + 1)))) (fun k => (Zz l1) ((tn (wr (aH + 1))) + k))) (xw dJ)) (pp (pp nn (pp (xw dC) (pp (xG (decide (l1.length ≤ l1.length))) (pp (xG (decide ((tn (wr (aH + 1))) ≤ l1.length))) (xG (x7p l1.length (Zz l1) 6)))))) (tt k2 (tt k1 (tt k0 nn)))))))) (fun k3 => (lr 200 95 [1, 0, 1, 0, 0, 1, 1, 0, 0, 1, 1, 1, 1, 1, 1, 1, 1, 1, 1, 0] 1 4 [(6, (.bool false))] (sl hq 24 [] ⟨[], [], [some [6]], []⟩ ⟨[], [], []⟩ [false, false, false, false, false, false, false, false, false, false, false, false, false, false, false, false, false, false, false, false, false, false, false, false, false, false, false, false, false, false] (tt k3 (pp (pp (xI R6 (l1.length - (tn (wr (aH + 1)))) (fun k => (Zz l1) ((tn (wr (aH + 1))) + k))) (xw dJ)) (pp (pp nn (pp (xw dC) (pp (xG (decide (l1.length ≤ l1.length))) (pp (xG (decide ((tn (wr (aH + 1))) ≤ l1.length))) (xG (x7p l1.length (Zz l1) 6)))))) (tt k2 (tt k1 (tt k0 nn))))))))))))))))))))
 | .h6 aW bW dS bA bV aH => (lb (fun k0 => (lr 200 95 [1, 0, 1, 0, 0, 1, 1, 0, 0, 1, 1, 1, 1, 1, 1, 1, 1, 1, 1, 0] 1 4 [(6, (.bool true))] (sl hq 12 [] ⟨[], [], [some [6]], []⟩ ⟨[], [], []⟩ (trs 19 []) (tt k0 nn)))) (fun k0 => (lb (fun k1 => (lr 200 95 [1, 0, 1, 0, 0, 1, 1, 0, 0, 1, 1, 1, 1, 1, 1, 1, 1, 1, 1, 0] 1 4 [(6, (.bool true))] (sl hq 12 [] ⟨[], [], [some [6]], []⟩ ⟨[], [], []⟩ [false, false, false, false, false, true, true, true, true, true, true, true, true, true, true, true, true, true, true] (tt k1 (tt k0 nn))))) (fun k1 => (lb (fun k2 => (lr 200 95 [1, 0, 1, 0, 0, 1, 1, 0, 0, 1, 1, 1, 1, 1, 1, 1, 1, 1, 1, 0] 1 4 [(6, (.bool true))] (sl hq 12 [] ⟨[], [], [some [6]], []⟩ ⟨[], [], []⟩ [false, false, false, false, false, false, false, false, false, false, true, true, true, true, true, true, true, true, true] (tt k2 (tt k1 (tt k0 nn)))))) (fun k2 => (lo fun o0 => (lo fun o1 => (lo fun o2 => (lo fun o3 => (lr 200 95 [1, 0, 1, 0, 0, 1, 1, 0, 0, 1, 1, 1, 1, 1, 1, 1, 1, 1, 1, 0] 1 4 [(6, (.bool (x9g aW bW dS bA bV bE (lst R6 (l1.length - (tn (wr (aH + 1)))) (fun k => (Zz l1) ((tn (wr (aH + 1))) + k))) x2)))] (sl hq 12 [] ⟨[], [], [some [6]], []⟩ ⟨[], [], []⟩ [false, false, false, false, false, false, false, false, false, false, false, false, false, false, false, false, false, false, false] (pp (pp (xI R6 (l1.length - (tn (wr (aH + 1)))) (fun k => (Zz l1) ((tn (wr (aH + 1))) + k))) (xw o3)) (pp (pp nn (pp (xw o2) (pp (xG (decide (l1.length ≤ l1.length))) (pp (xG (decide ((tn (wr (aH + 1))) ≤ l1.length))) (xG (x7p l1.length (Zz l1) 6)))))) (tt k2 (tt k1 (tt k0 nn)))))))))))))))))
theorem x2t {q : Nat} (hq : Zu prog (Tcv q)) (aU : Int) (aT : Int) (aQ : Int) (bD : Int) (bM : Int) (bE : Int) (l1 : List R6) (x2 : Int) : Xo prog (Zy prog 95) (cvdC aU aT aQ bD bM bE l1 x2) (Zc prog 95 [(.agg [(.int .i64 aU), (.int .i64 aT), (.int .i64 aQ), (.int .i64 bD), (.int .i64 bM), (.int .i64 bE)]), (.dat l1.length (Zz l1)), (.int .i64 x2)] true []) (y5f aU aT aQ bD bM bE l1 x2) := (sl hq 16 [] ⟨[0, 1, 2], [], v0b, v0h⟩ ⟨[], [], []⟩ [] nn)
theorem w9v {q : Nat} (hq : Zu prog (Tcv q)) (aU : Int) (aT : Int) (aQ : Int) (bD : Int) (bM : Int) (bE : Int) (l1 : List R6) (x2 : Int) (n : Nat) (vs : List AVal) (h : Yx (Wh q aU aT aQ bD bM bE l1 x2) n (y5f aU aT aQ bD bM bE l1 x2) = .ret vs) : Jc prog (Zy prog 95) (Zc prog 95 [(.agg [(.int .i64 aU), (.int .i64 aT), (.int .i64 aQ), (.int .i64 bD), (.int .i64 bM), (.int .i64 bE)]), (.dat l1.length (Zz l1)), (.int .i64 x2)] true []) vs := by
 have := Zn (x8p hq aU aT aQ bD bM bE l1 x2) n _ (x2t hq aU aT aQ bD bM bE l1 x2)
 rwa [h] at this
end Go.Am
namespace Go.Am
open Go.Proofs.Tryz
open Go.Proofs
def cvq (x : Int) (L : List R6) (i : Nat) (p : R6) : Bool := x9f p || covB x (L.drop (i + 1)) p
theorem y3m {x : Int} {L : List R6} {i : Nat} {a b c d e f : Int} : cvq x L i ⟨a, b, c, d, e, f⟩ = bif decide (a ≥ d) then true else bif decide (b ≥ e) then true else bif decide (c ≥ f) then true else x9g a b c d e f (L.drop (i + 1)) x := by
 unfold cvq x9f x9g
 cases decide (a ≥ d) <;> cases decide (b ≥ e) <;> cases decide (c ≥ f) <;> rfl
theorem cvo {q : Nat} {L : List R6} (hL : L.length ≤ q) (hl : L.length ≤ 100000) {i : Nat} (hi : i < L.length) (a b c d e f x : Int) : Vj q a b c d e f (L.drop (i + 1)) x = true := by
 unfold Vj
 rw [List.length_drop, Yu (by omega), Yz (by omega)]; rfl
theorem cv_fin {σ : Type} {step : σ → Xa σ} {N : Nat} {s : σ} {W t1 t2 t3 V : Bool} (h : Yx step N (.to s) = .ret [.bool W]) :
  Yx step N (bif t1 then .to s else bif t2 then .to s else bif t3 then .to s else bif V then .to s else .ret [.bool false]) = .ret [.bool ((bif t1 then true else bif t2 then true else bif t3 then true else V) && W)] := by
 cases t1 <;> cases t2 <;> cases t3 <;> cases V <;> first | exact Zm _ _ _ | (simp only [cond_true, cond_false, Bool.true_and]; exact h)
theorem y5g {σ : Type} {step : σ → Xa σ} {N : Nat} {s : σ} {W t1 t2 t3 V : Bool} (h : Yx step N (.to s) = .ret [.bool W]) :
  Yx step N (bif t1 then .to s else bif t2 then .to s else bif t3 then .to s else bif !V then .ret [.bool false] else .to s) = .ret [.bool ((bif t1 then true else bif t2 then true else bif t3 then true else V) && W)] := by
 cases t1 <;> cases t2 <;> cases t3 <;> cases V <;> first | exact Zm _ _ _ | (simp only [Bool.not_true, Bool.not_false, cond_true, cond_false, Bool.true_and]; exact h)
theorem cv_or {α : Type} {t1 t2 t3 : Bool} {a b : α} : (bif t1 then a else bif t2 then a else bif t3 then a else b) = bif (t1 || (t2 || t3)) then a else b := by
 cases t1 <;> cases t2 <;> cases t3 <;> rfl
theorem w8t {σ : Type} {step : σ → Xa σ} {N : Nat} {c : Bool} {a b : Xa σ} : Yx step N (bif c then a else b) = bif c then Yx step N a else Yx step N b := by cases c <;> rfl
theorem cvd_h6 {q : Nat} {B : R6} {L : List R6} {x : Int} (hL : L.length ≤ q) (hl : L.length ≤ 100000) {i : Nat} (hi : i < L.length) (aW bW dS bA bV : Int) : ∃ N, Yx (Wh q B.a B.b B.c B.d B.e B.f L x) N (.to (.h6 aW bW dS bA bV (i : Int))) = .ret [.bool (cvq x L i ⟨aW, bW, dS, bA, bV, B.f⟩)] := by
 have hw : IntKind.wrap .i64 ((i : Int) + 1) = ((i + 1 : Nat) : Int) := Zj (by omega)
 have e1 : decide (i + 1 ≤ L.length) = true := Yz hi
 have e2 : ∀ {X Y : Xa cvdS}, (bif decide (L.length ≤ L.length) then X else Y) = X := fun {X Y} => by rw [Yz (Nat.le_refl _)]; rfl
 have e3 : ∀ {X Y : Xa cvdS}, (bif decide (0 ≤ ((i + 1 : Nat) : Int)) then X else Y) = X := fun {X Y} => by rw [Xp (by omega)]; rfl
 refine ⟨1, ?_⟩
 rw [Zv, y3m]
 simp only [Wh, hw, e2, e3, Zk, e1, z3d L (show i + 1 ≤ L.length from hi), cvo hL hl hi, cond_true]
 cases decide (aW ≥ bA) <;> cases decide (bW ≥ bV) <;> cases decide (dS ≥ B.f) <;> rfl
theorem cvd_h5 {q : Nat} {B : R6} {L : List R6} {x : Int} (hL : L.length ≤ q) (hl : L.length ≤ 100000) {i : Nat} (hi : i < L.length) (aW bW bA bV dR aY : Int) : ∃ N, Yx (Wh q B.a B.b B.c B.d B.e B.f L x) N (.to (.h5 aW bW bA bV dR (i : Int) aY)) = .ret [.bool (cvq x L i ⟨aW, bW, B.c, bA, bV, dR⟩ && (cvq x L i ⟨aW, bW, aY, bA, bV, B.f⟩))] := by
 have hw : IntKind.wrap .i64 ((i : Int) + 1) = ((i + 1 : Nat) : Int) := Zj (by omega)
 have e1 : decide (i + 1 ≤ L.length) = true := Yz hi
 have e2 : ∀ {X Y : Xa cvdS}, (bif decide (L.length ≤ L.length) then X else Y) = X := fun {X Y} => by rw [Yz (Nat.le_refl _)]; rfl
 have e3 : ∀ {X Y : Xa cvdS}, (bif decide (0 ≤ ((i + 1 : Nat) : Int)) then X else Y) = X := fun {X Y} => by rw [Xp (by omega)]; rfl
 obtain ⟨N, hN⟩ := cvd_h6 (B := B) (x := x) hL hl hi aW bW aY bA bV
 refine ⟨N + 1, ?_⟩
 rw [Zv, show cvq x L i ⟨aW, bW, B.c, bA, bV, dR⟩ = _ from y3m]
 simp only [Wh, hw, e2, e3, Zk, e1, z3d L (show i + 1 ≤ L.length from hi), cvo hL hl hi, cond_true]
 exact cv_fin hN
theorem cvd_h4 {q : Nat} {B : R6} {L : List R6} {x : Int} (hL : L.length ≤ q) (hl : L.length ≤ 100000) {i : Nat} (hi : i < L.length) (aW bW bA bT bL aY : Int) : ∃ N, Yx (Wh q B.a B.b B.c B.d B.e B.f L x) N (.to (.h4 aW bW bA (i : Int) bT bL aY)) = .ret [.bool (cvq x L i ⟨aW, bW, B.c, bA, B.e, B.f⟩ && (cvq x L i ⟨aW, bT, B.c, bA, bW, bL⟩ && cvq x L i ⟨aW, bT, aY, bA, bW, B.f⟩))] := by
 have hw : IntKind.wrap .i64 ((i : Int) + 1) = ((i + 1 : Nat) : Int) := Zj (by omega)
 have e1 : decide (i + 1 ≤ L.length) = true := Yz hi
 have e2 : ∀ {X Y : Xa cvdS}, (bif decide (L.length ≤ L.length) then X else Y) = X := fun {X Y} => by rw [Yz (Nat.le_refl _)]; rfl
 have e3 : ∀ {X Y : Xa cvdS}, (bif decide (0 ≤ ((i + 1 : Nat) : Int)) then X else Y) = X := fun {X Y} => by rw [Xp (by omega)]; rfl
 obtain ⟨N, hN⟩ := cvd_h5 (B := B) (x := x) hL hl hi aW bT bA bW bL aY
 refine ⟨N + 1, ?_⟩
 rw [Zv, show cvq x L i ⟨aW, bW, B.c, bA, B.e, B.f⟩ = _ from y3m]
 simp only [Wh, hw, e2, e3, Zk, e1, z3d L (show i + 1 ≤ L.length from hi), cvo hL hl hi, cond_true]
 exact y5g hN
theorem cvd_h3 {q : Nat} {B : R6} {L : List R6} {x : Int} (hL : L.length ≤ q) (hl : L.length ≤ 100000) {i : Nat} (hi : i < L.length) (aW bA bV bL bS aY : Int) : ∃ N, Yx (Wh q B.a B.b B.c B.d B.e B.f L x) N (.to (.h3 aW bA bV (i : Int) bL bS aY)) = .ret [.bool (cvq x L i ⟨aW, B.b, B.c, bA, bV, B.f⟩ && (cvq x L i ⟨aW, bS, B.c, bA, B.e, B.f⟩ && (cvq x L i ⟨aW, bV, B.c, bA, bS, bL⟩ && cvq x L i ⟨aW, bV, aY, bA, bS, B.f⟩)))] := by
 have hw : IntKind.wrap .i64 ((i : Int) + 1) = ((i + 1 : Nat) : Int) := Zj (by omega)
 have e1 : decide (i + 1 ≤ L.length) = true := Yz hi
 have e2 : ∀ {X Y : Xa cvdS}, (bif decide (L.length ≤ L.length) then X else Y) = X := fun {X Y} => by rw [Yz (Nat.le_refl _)]; rfl
 have e3 : ∀ {X Y : Xa cvdS}, (bif decide (0 ≤ ((i + 1 : Nat) : Int)) then X else Y) = X := fun {X Y} => by rw [Xp (by omega)]; rfl
 obtain ⟨N, hN⟩ := cvd_h4 (B := B) (x := x) hL hl hi aW bS bA bV bL aY
 refine ⟨N + 1, ?_⟩
 rw [Zv, show cvq x L i ⟨aW, B.b, B.c, bA, bV, B.f⟩ = _ from y3m]
 simp only [Wh, hw, e2, e3, Zk, e1, z3d L (show i + 1 ≤ L.length from hi), cvo hL hl hi, cond_true]
 exact y5g hN
theorem cvd_h2 {q : Nat} {B : R6} {L : List R6} {x : Int} (hL : L.length ≤ q) (hl : L.length ≤ 100000) {i : Nat} (hi : i < L.length) (aW aB bT bL bS aY : Int) : ∃ N, Yx (Wh q B.a B.b B.c B.d B.e B.f L x) N (.to (.h2 aW (i : Int) aB bT bL bS aY)) = .ret [.bool (cvq x L i ⟨aW, B.b, B.c, B.d, B.e, B.f⟩ && (cvq x L i ⟨aB, B.b, B.c, aW, bT, B.f⟩ && (cvq x L i ⟨aB, bS, B.c, aW, B.e, B.f⟩ && (cvq x L i ⟨aB, bT, B.c, aW, bS, bL⟩ && cvq x L i ⟨aB, bT, aY, aW, bS, B.f⟩))))] := by
 have hw : IntKind.wrap .i64 ((i : Int) + 1) = ((i + 1 : Nat) : Int) := Zj (by omega)
 have e1 : decide (i + 1 ≤ L.length) = true := Yz hi
 have e2 : ∀ {X Y : Xa cvdS}, (bif decide (L.length ≤ L.length) then X else Y) = X := fun {X Y} => by rw [Yz (Nat.le_refl _)]; rfl
 have e3 : ∀ {X Y : Xa cvdS}, (bif decide (0 ≤ ((i + 1 : Nat) : Int)) then X else Y) = X := fun {X Y} => by rw [Xp (by omega)]; rfl
 obtain ⟨N, hN⟩ := cvd_h3 (B := B) (x := x) hL hl hi aB aW bT bL bS aY
 refine ⟨N + 1, ?_⟩
 rw [Zv, show cvq x L i ⟨aW, B.b, B.c, B.d, B.e, B.f⟩ = _ from y3m]
 simp only [Wh, hw, e2, e3, Zk, e1, z3d L (show i + 1 ≤ L.length from hi), cvo hL hl hi, cond_true]
 exact y5g hN
theorem cvd_h1 {q : Nat} {B : R6} {L : List R6} {x : Int} (hL : L.length ≤ q) (hl : L.length ≤ 100000) {i : Nat} (hi : i < L.length) (bA w aB bT bL cV bS aY : Int) : ∃ N, Yx (Wh q B.a B.b B.c B.d B.e B.f L x) N (.to (.h1 bA w (i : Int) aB bT bL cV bS aY)) = .ret [.bool (cvq x L i ⟨B.a, B.b, B.c, bA, B.e, B.f⟩ && (cvq x L i ⟨cV, B.b, B.c, B.d, B.e, B.f⟩ && (cvq x L i ⟨aB, B.b, B.c, cV, bT, B.f⟩ && (cvq x L i ⟨aB, bS, B.c, cV, B.e, B.f⟩ && (cvq x L i ⟨aB, bT, B.c, cV, bS, bL⟩ && cvq x L i ⟨aB, bT, aY, cV, bS, B.f⟩)))))] := by
 have hw : IntKind.wrap .i64 ((i : Int) + 1) = ((i + 1 : Nat) : Int) := Zj (by omega)
 have e1 : decide (i + 1 ≤ L.length) = true := Yz hi
 have e2 : ∀ {X Y : Xa cvdS}, (bif decide (L.length ≤ L.length) then X else Y) = X := fun {X Y} => by rw [Yz (Nat.le_refl _)]; rfl
 have e3 : ∀ {X Y : Xa cvdS}, (bif decide (0 ≤ ((i + 1 : Nat) : Int)) then X else Y) = X := fun {X Y} => by rw [Xp (by omega)]; rfl
 obtain ⟨N, hN⟩ := cvd_h2 (B := B) (x := x) hL hl hi cV aB bT bL bS aY
 refine ⟨N + 1, ?_⟩
 rw [Zv, show cvq x L i ⟨B.a, B.b, B.c, bA, B.e, B.f⟩ = _ from y3m]
 simp only [Wh, hw, e2, e3, Zk, e1, z3d L (show i + 1 ≤ L.length from hi), cvo hL hl hi, cond_true]
 exact y5g hN
theorem v4f {q : Nat} {B : R6} {L : List R6} {x : Int} (hL : L.length ≤ q) (hl : L.length ≤ 100000) : ∀ (k i : Nat), i + k = L.length → ∃ N, Yx (Wh q B.a B.b B.c B.d B.e B.f L x) N (.to (.h0 (i : Int))) = .ret [.bool (covB x (L.drop i) B)]
 | 0, i, h => by
  refine ⟨1, ?_⟩
  rw [Zv, List.drop_eq_nil_of_le (by omega)]
  simp (disch := omega) only [Wh, Zt, cond_false]; rfl
 | k + 1, i, h => by
  have hi : i < L.length := by omega
  have hw : IntKind.wrap .i64 ((i : Int) + 1) = ((i + 1 : Nat) : Int) := Zj (by omega)
  obtain ⟨N, hN⟩ := v4f (B := B) (x := x) hL hl k (i + 1) (by omega)
  obtain ⟨M, hM⟩ := cvd_h1 (B := B) (x := x) hL hl hi (gA x (rd L i) B).a (gA x (rd L i) B).a (gA x (rd L i) B).a (gA x (rd L i) B).b (gA x (rd L i) B).c (gA x (rd L i) B).d (gA x (rd L i) B).e (gA x (rd L i) B).f
  rw [Ye hi]
  have key : ∀ K, Yx (Wh q B.a B.b B.c B.d B.e B.f L x) (K + 1) (.to (.h0 (i : Int))) = bif x9f (gA x (rd L i) B) then Yx (Wh q B.a B.b B.c B.d B.e B.f L x) K (.to (.h0 ((i + 1 : Nat) : Int))) else Yx (Wh q B.a B.b B.c B.d B.e B.f L x) K (.to (.h1 (gA x (rd L i) B).a (gA x (rd L i) B).a (i : Int) (gA x (rd L i) B).a (gA x (rd L i) B).b (gA x (rd L i) B).c (gA x (rd L i) B).d (gA x (rd L i) B).e (gA x (rd L i) B).f)) := fun K => by
   rw [Zv]
   simp (disch := omega) only [Wh, Zo, Zr, hw, Zk, Bool.and_true, cond_true]
   exact (congrArg (Yx _ K) cv_or).trans w8t
  show ∃ N, Yx _ N _ = Xa.ret [.bool (bif x9f (gA x (rd L i) B) then covB x (L.drop (i + 1)) B else (cvq x L i (cvp1 (gA x (rd L i) B) B)) && ((cvq x L i (cvp2 (gA x (rd L i) B) B)) && ((cvq x L i (cvp3 (gA x (rd L i) B) B)) && ((cvq x L i (cvp4 (gA x (rd L i) B) B)) && ((cvq x L i (cvp5 (gA x (rd L i) B) B)) && (cvq x L i (cvp6 (gA x (rd L i) B) B)))))))]
  rcases Yy (x9f (gA x (rd L i) B)) with he | he
  ·refine ⟨N + 1, ?_⟩
   rw [key, he, cond_true, cond_true]; exact hN
  ·refine ⟨M + 1, ?_⟩
   rw [key, he, cond_false, cond_false]; exact hM
theorem u0d {q : Nat} (a b c d e f : Int) (L : List R6) (x : Int) (hL : L.length ≤ q) (hl : L.length ≤ 100000) : ∃ N, Yx (Wh q a b c d e f L x) N (y5f a b c d e f L x) = .ret [.bool (x9g a b c d e f L x)] :=
 v4f (B := ⟨a, b, c, d, e, f⟩) hL hl L.length 0 (Nat.zero_add _)
theorem y8b {S : Specs} (hS : Zu prog S) {q : Nat} (hq : Zu prog (Tcv q)) (F : List AVal → Option (AVal × Bool)) (hF : ∀ args v, F args = some (v, true) → fCov (q + 1) args = some (v, true)) : Zu prog (S.with z9c F) := by
 refine z0z hS (by kernel_rfl) fun args v h => ?_
 replace h := hF args v h
 unfold fCov at h
 split at h
 ·rename_i aU aT aQ bD bM bE a1 x2
  split at h
  ·rename_i L1 g1 n1 e1
   simp only [Option.some.injEq, Prod.mk.injEq, Bool.and_eq_true, Vj, decide_eq_true_eq] at h
   obtain ⟨rfl, ho1, hw1, hw2⟩ := h
   obtain ⟨N, hN⟩ := u0d (q := q) aU aT aQ bD bM bE L1 x2 (by omega) hw2
   exact ⟨_, _, (.cons (.refl _) (.cons (asL_le e1 ho1) (.cons (.refl _) .nil))), rfl, w9v hq aU aT aQ bD bM bE L1 x2 N _ hN, 3, rfl⟩
  ·cases h
 ·cases h
theorem v4p : ∀ q, Zu prog (Tcv q)
 | 0 => by
  refine z0z u0p (by kernel_rfl) fun args v h => ?_
  unfold fCov at h
  split at h
  ·split at h
   ·simp only [Option.some.injEq, Prod.mk.injEq, Bool.and_eq_true, Vj, decide_eq_true_eq] at h
    exact absurd h.2.2.1 (Nat.not_lt_zero _)
   ·cases h
  ·cases h
 | q + 1 => y8b u0p (v4p q) _ fun _ _ h => h
def cvdV (a b c d e f : Int) (L : List R6) (x : Int) : Bool := x9g a b c d e f L x
def z5x (a b c d e f : Int) (L : List R6) (x : Int) : Bool := decide (L.length ≤ 100000)
def fCvd : List AVal → Option (AVal × Bool)
 | [.agg [.int .i64 aU, .int .i64 aT, .int .i64 aQ, .int .i64 bD, .int .i64 bM, .int .i64 bE], a1, .int .i64 x2] => match asL R6 a1 with
  | some (L1, g1, n1) => some (.bool (cvdV aU aT aQ bD bM bE L1 x2), isT R6 n1 g1 && (z5x aU aT aQ bD bM bE L1 x2))
  | _ => none
 | _ => none
theorem v9l {S : Specs} (hS : Zu prog S) : Zu prog (S.with z9c fCvd) := y8b hS (v4p 100000) _ fun args v h => by
 unfold fCvd at h
 split at h
 ·split at h
  ·rename_i e1
   simp only [Option.some.injEq, Prod.mk.injEq, Bool.and_eq_true, z5x, decide_eq_true_eq] at h
   obtain ⟨rfl, ho1, hw⟩ := h
   unfold fCov
   simp only [e1, ho1, Bool.true_and, Vj]
   rw [Yu (by omega), Yz hw]; rfl
  ·cases h
 ·cases h
def Da : Specs := T9.with z9c fCvd
theorem y2c : Zu prog Da := v9l u0p
end Go.Am
namespace Go.Am
open Go.Proofs.Tryz
open Go.Proofs
inductive rchS where
 | h0 (v5 : Int) (v6 : Int)
 | h1 (v8 : Int) (dI : Int) (dT : Int) (dF : Int) (dK : Int) (aH : Int)
def rchC (l0 : List R6) (l1 : List R6) : rchS → Cfg
 | .h0 v5 v6 => ⟨⟨26, 0, true⟩, none, (Zg prog 92 [1, 1, 0, 0, 0] 0), none, (Zy prog 3), ⟨Yq [(1, (.fn 93 [(.ptr 0 0), (.ptr 1 0)])), (5, (ii v5)), (6, (ii v6))], Va [⟨[(.dat l0.length (Zz l0))], 30, none⟩, ⟨[(.dat l1.length (Zz l1))], 30, none⟩] 0, 2, [], true⟩, [⟨⟨7, 0, true⟩, (Vu prog 57 [1, 0] 1), (Zg prog 57 [1, 0] 1), none, (Zy prog 3), Yq [(5, (.fn 93 [(.ptr 0 0), (.ptr 1 0)]))]⟩], .leaf⟩
 | .h1 v8 dI dT dF dK aH => ⟨⟨19, 0, true⟩, none, (Zg prog 124 [1, 0, 1, 0, 0] 0), none, (Zy prog 3), ⟨Yq [(0, (.dat l0.length (Zz l0))), (1, (.fn 94 [(.ptr 0 0), (.ptr 1 0)])), (7, (ii (l0.length : Int))), (8, (ii v8))], Va [⟨[(.dat l1.length (Zz l1))], 30, none⟩, ⟨[(ii aH)], 3, none⟩, ⟨[(.dat l0.length (Zz l0))], 30, none⟩] 0, 3, [], true⟩, [⟨⟨9, 0, true⟩, (Vu prog 86 [1, 0] 2), (Zg prog 86 [1, 0] 1), none, (Zy prog 3), Yq [(5, (.dat l0.length (Zz l0))), (6, (.fn 94 [(.ptr 0 0), (.ptr 1 0)]))]⟩, ⟨⟨9, 0, true⟩, (Vu prog 93 [1, 0] 2), (Zg prog 93 [1, 0] 1), none, (Zy prog 3), Yq [(5, (.dat l0.length (Zz l0))), (6, (.fn 94 [(.ptr 0 0), (.ptr 1 0)]))]⟩, ⟨⟨26, 0, true⟩, (Vu prog 92 [1, 1, 0, 0, 0, 1, 0, 1, 0] 2), (Zg prog 92 [1, 1, 0, 0, 0, 1, 0, 1, 0] 1), none, (Zy prog 3), Yq [(1, (.fn 93 [(.ptr 2 0), (.ptr 0 0)])), (5, (ii dI)), (6, (ii dT)), (7, (ii dF)), (18, (.fn 93 [(.ptr 2 0), (.ptr 0 0)])), (19, (ii dK))]⟩, ⟨⟨7, 0, true⟩, (Vu prog 57 [1, 0] 1), (Zg prog 57 [1, 0] 1), none, (Zy prog 3), Yq [(5, (.fn 93 [(.ptr 2 0), (.ptr 0 0)]))]⟩], .leaf⟩
def w7b : List (Option (List Nat)) := [some [1, 5, 6], some [5]]
def w7c : List (Option (List Nat)) := []
def rchN1 : List (Option (List Nat)) := [some [0, 1, 7, 8], some [5, 6], some [5, 6], some [1, 5, 6, 7, 18, 19], some [5]]
def rchM1 : List (Option (List Nat)) := []
def Jj (l0 : List R6) (l1 : List R6) : rchS → Xa rchS
 | .h0 v5 v6 => (bif (decide (v5 < v6)) then (.to (.h1 0 v5 v6 (IntKind.wrap .i64 (Int.fdiv (IntKind.wrap IntKind.u64 (IntKind.wrap .i64 (v5 + v6))) 2)) (IntKind.wrap .i64 (Int.fdiv (IntKind.wrap IntKind.u64 (IntKind.wrap .i64 (v5 + v6))) 2)) (IntKind.wrap .i64 (Int.fdiv (IntKind.wrap IntKind.u64 (IntKind.wrap .i64 (v5 + v6))) 2)))) else (.ret [(.int .i64 v5)]))
 | .h1 v8 dI dT dF dK aH => (bif (decide (v8 < (l0.length : Int))) then (bif ((decide (0 ≤ v8 ∧ v8 < (l0.length : Int))) && true) then (bif (z5x (rd l0 v8.toNat).a (rd l0 v8.toNat).b (rd l0 v8.toNat).c (rd l0 v8.toNat).d (rd l0 v8.toNat).e (rd l0 v8.toNat).f (cvT l1) aH) then (bif (!(cvdV (rd l0 v8.toNat).a (rd l0 v8.toNat).b (rd l0 v8.toNat).c (rd l0 v8.toNat).d (rd l0 v8.toNat).e (rd l0 v8.toNat).f (cvT l1) aH)) then (bif (!(!(decide (v8 ≥ 0)))) then (.to (.h0 (IntKind.wrap .i64 (dF + 1)) dT)) else (.to (.h0 dI dF))) else (.to (.h1 (IntKind.wrap .i64 (v8 + 1)) dI dT dF dK aH))) else .stuck) else .stuck) else (.to (.h0 dI dF)))
def y4l (l0 : List R6) (l1 : List R6) : Xa rchS := (.to (.h0 0 2000000))
theorem x7c (l0 : List R6) (l1 : List R6) : ∀ s, Xo prog (Zy prog 57) (rchC l0 l1) (rchC l0 l1 s) (Jj l0 l1 s)
 | .h0 v5 v6 => (lb (fun k0 => (sl y2c 57 [] ⟨[1, 2, 0], [], rchN1, rchM1⟩ ⟨[], [], []⟩ [true] (tt k0 nn))) (fun k0 => (lr 7 3 [1, 1, 1, 1, 1, 1, 0] 1 3 [(4, (ii v5))] (sl y2c 17 [] ⟨[], [], [some [4]], []⟩ ⟨[], [], []⟩ [false] (tt k0 nn)))))
 | .h1 v8 dI dT dF dK aH => (lb (fun k0 => (lo fun aG => (lo fun bI => (lb (fun k1 => (lb (fun k2 => (sl y2c 63 [] ⟨[2, 0], [], w7b, w7c⟩ ⟨[], [], []⟩ (trs 3 []) (tt k2 (tt k1 (pp (pp (xr l1) (xw bI)) (ww aG (tt k0 nn))))))) (fun k2 => (sl y2c 62 [] ⟨[2, 0], [], w7b, w7c⟩ ⟨[], [], []⟩ [true, true, false] (tt k2 (tt k1 (pp (pp (xr l1) (xw bI)) (ww aG (tt k0 nn))))))))) (fun k1 => (sl y2c 46 [] ⟨[0, 1, 2], [], rchN1, rchM1⟩ ⟨[], [], []⟩ [true, false] (tt k1 (pp (pp (xr l1) (xw bI)) (ww aG (tt k0 nn)))))))))) (fun k0 => (sl y2c 29 [] ⟨[2, 0], [], w7b, w7c⟩ ⟨[], [], []⟩ [false, false] (tt k0 nn))))
theorem x0s (l0 : List R6) (l1 : List R6) : Xo prog (Zy prog 57) (rchC l0 l1) (Zc prog 57 [(.dat l0.length (Zz l0)), (.dat l1.length (Zz l1))] true []) (y4l l0 l1) := (sl y2c 23 [] ⟨[0, 1], [], w7b, w7c⟩ ⟨[], [], []⟩ [] nn)
theorem w7a (l0 : List R6) (l1 : List R6) (n : Nat) (vs : List AVal) (h : Yx (Jj l0 l1) n (y4l l0 l1) = .ret vs) : Jc prog (Zy prog 57) (Zc prog 57 [(.dat l0.length (Zz l0)), (.dat l1.length (Zz l1))] true []) vs := by
 have := Zn (x7c l0 l1) n _ (x0s l0 l1)
 rwa [h] at this
inductive frmS where
 | h0 (v5 : Int) (v6 : Int)
def frmC (aU : Int) (aT : Int) (aQ : Int) (l1 : List R6) : frmS → Cfg
 | .h0 v5 v6 => ⟨⟨27, 0, true⟩, none, (Zg prog 49 [1, 1, 0, 1, 0, 0] 0), none, (Zy prog 3), ⟨Yq [(1, (.dat l1.length (Zz l1))), (2, (.ptr 0 0)), (5, (ii v5)), (6, (ii v6))], Va [⟨[(ii aU), (ii aT), (ii aQ)], 65, none⟩] 0, 1, [], true⟩, [], .leaf⟩
def frmN0 : List (Option (List Nat)) := [some [1, 2, 5, 6]]
def frmM0 : List (Option (List Nat)) := []
def z6x (aU : Int) (aT : Int) (aQ : Int) (l1 : List R6) : frmS → Xa frmS
 | .h0 v5 v6 => (bif (decide (v6 < (l1.length : Int))) then (bif ((decide (0 ≤ v6 ∧ v6 < (l1.length : Int))) && true) then (.to (.h0 (Wn v5 (Xm (Xm (Xm (Xm (Xm (Xm 0 (IntKind.wrap .i64 ((rd l1 v6.toNat).a - aU))) (IntKind.wrap .i64 ((IntKind.wrap .i64 (aU - (rd l1 v6.toNat).d)) + 1))) (IntKind.wrap .i64 ((rd l1 v6.toNat).b - aT))) (IntKind.wrap .i64 ((IntKind.wrap .i64 (aT - (rd l1 v6.toNat).e)) + 1))) (IntKind.wrap .i64 ((rd l1 v6.toNat).c - aQ))) (IntKind.wrap .i64 ((IntKind.wrap .i64 (aQ - (rd l1 v6.toNat).f)) + 1)))) (IntKind.wrap .i64 (v6 + 1)))) else .stuck) else (.ret [(.int .i64 v5)]))
def z9j (aU : Int) (aT : Int) (aQ : Int) (l1 : List R6) : Xa frmS := (bif ((decide ((0 : Int) ≤ 0 ∧ 0 < (l1.length : Int))) && true) then (.to (.h0 (Xm (Xm (Xm (Xm (Xm (Xm 0 (IntKind.wrap .i64 ((rd l1 0).a - aU))) (IntKind.wrap .i64 ((IntKind.wrap .i64 (aU - (rd l1 0).d)) + 1))) (IntKind.wrap .i64 ((rd l1 0).b - aT))) (IntKind.wrap .i64 ((IntKind.wrap .i64 (aT - (rd l1 0).e)) + 1))) (IntKind.wrap .i64 ((rd l1 0).c - aQ))) (IntKind.wrap .i64 ((IntKind.wrap .i64 (aQ - (rd l1 0).f)) + 1))) 1)) else .stuck)
theorem x7z (aU : Int) (aT : Int) (aQ : Int) (l1 : List R6) : ∀ s, Xo prog (Zy prog 49) (frmC aU aT aQ l1) (frmC aU aT aQ l1 s) (z6x aU aT aQ l1 s)
 | .h0 v5 v6 => (lb (fun k0 => (lo fun o0 => (sl y2c 20 [] ⟨[0], [], frmN0, frmM0⟩ ⟨[], [], []⟩ [true] (ww o0 (tt k0 nn))))) (fun k0 => (lr 27 3 [1, 1, 1, 1, 1, 1, 0] 1 3 [(4, (ii v5))] (sl y2c 15 [] ⟨[], [], [some [4]], []⟩ ⟨[], [], []⟩ [false] (tt k0 nn)))))
theorem x1w (aU : Int) (aT : Int) (aQ : Int) (l1 : List R6) : Xo prog (Zy prog 49) (frmC aU aT aQ l1) (Zc prog 49 [(.agg [(.int .i64 aU), (.int .i64 aT), (.int .i64 aQ)]), (.dat l1.length (Zz l1))] true []) (z9j aU aT aQ l1) := (lo fun o0 => (sl y2c 14 [] ⟨[0], [], frmN0, frmM0⟩ ⟨[], [], []⟩ [] (ww o0 nn)))
theorem w8x (aU : Int) (aT : Int) (aQ : Int) (l1 : List R6) (n : Nat) (vs : List AVal) (h : Yx (z6x aU aT aQ l1) n (z9j aU aT aQ l1) = .ret vs) : Jc prog (Zy prog 49) (Zc prog 49 [(.agg [(.int .i64 aU), (.int .i64 aT), (.int .i64 aQ)]), (.dat l1.length (Zz l1))] true []) vs := by
 have := Zn (x7z aU aT aQ l1) n _ (x1w aU aT aQ l1)
 rwa [h] at this
end Go.Am
end
