/- A part of a proof: several texts in one. -/
import Derived.Test.YtmanggcjimaehaaGreatLa5
set_option maxRecDepth 1000000
set_option maxHeartbeats 8000000
set_option linter.unusedVariables false
set_option linter.unusedSimpArgs false
noncomputable section
namespace Go.Am
open Go.Proofs Go.Sort Go.Shelf Go.RowKit Go.Lib
namespace Dim
variable {α β:Type} {D:Dim α β}
theorem u3m (hD:D.Fair) (s:List β) (a b x:Int):D.inn (s.map (D.put a b)) x=if a≤x∧x<b then s else []:=by
 unfold inn;have e:(s.map (D.put a b)).filter (fun r=>decide (D.lo r≤x)&&decide (x<D.hi r))=if a≤x∧x<b then s.map (D.put a b) else []:=by
  split
  ·rename_i h;refine List.filter_eq_self.2 fun r hr=> ?_;obtain ⟨c,_,rfl⟩:=List.mem_map.1 hr;rw [hD.lo_put,hD.hi_put,decide_eq_true h.1,decide_eq_true h.2];rfl
  ·rename_i h;refine List.filter_eq_nil_iff.2 fun r hr hq=>h ?_;obtain ⟨c,_,rfl⟩:=List.mem_map.1 hr;rw [hD.lo_put,hD.hi_put,Bool.and_eq_true] at hq;exact ⟨of_decide_eq_true hq.1,of_decide_eq_true hq.2⟩
 rw [e];split
 ·rw [List.map_map];exact (List.map_congr_left fun c _=>hD.pr_put a b c).trans (List.map_id _)
 ·rfl
theorem inn_can (hD:D.Fair) {γ:Type} (M:Sem β γ) (x:Int): ∀G:List (Qw β),z0z M G→M.can (D.inn (D.flat G) x)
 | [],_=>M.nil
 | g::r,h=>by
  rw [show D.flat (g::r)=g.s.map (D.put g.a g.b)++D.flat r from rfl,D.inn_append,u3m hD];split
  ·rename_i hx;have e:D.inn (D.flat r) x=[]:=by unfold inn;rw [List.map_eq_nil_iff,List.filter_eq_nil_iff];intro a ha hq;obtain ⟨k,hk,ha⟩:=List.mem_flatMap.1 ha;obtain ⟨c,_,rfl⟩:=List.mem_map.1 ha;rw [hD.lo_put,Bool.and_eq_true] at hq;have h1:=of_decide_eq_true hq.1;have:=h.later k hk;omega
   rw [e,List.append_nil];exact h.head.2.1
  ·rw [List.nil_append];exact inn_can hD M x r h.tail
end Dim
theorem x7z {L:List R6} (hl:L.length≤400) (hv: ∀r∈L,z0h r=true) (hc:x7x.can L):Wn L=0:=by
 have hi: ∀z,D4.out (D6.inn L z)=D6.inn L z:=fun z=>by obtain ⟨h1,h2⟩:=Qu (y3w hv z) (Nat.le_trans (D6.inn_length L z) hl);obtain ⟨G,hG,e⟩:=hc;exact Wg.uniq _ _ h1 (by rw [e];exact Dim.inn_can z2b Wg z G hG) h2
 have hs:Secs L:=fun z=>by rw [hi z];exact Nat.le_trans (D6.inn_length L z) hl
 obtain ⟨h1,h2⟩:=u0j hv hl hs;have e:=x7x.uniq _ _ h1 hc h2;have ok: ∀k i,okF L k i=true:=fun k=>by
  induction k with
  | zero=>intro i;rfl
  | succ k ih=>intro i;show (bif Xm (D6.inn L (rd (D6.cuts L) i)) != 0 then false else okF L k (i+1))=true;rw [(z5z (y3w hv _) (Nat.le_trans (D6.inn_length L _) hl) (hs _)).2];exact ih (i+1)
 unfold Wn;rw [decide_eq_false (by omega),List.all_eq_true.2 hv,ok,e,decide_eq_false (by omega),show Up L L=true from decide_eq_true rfl];rfl
end Go.Am
namespace Go.Am
open Go.Proofs.Tryz
open Go.Proofs Go.Sort Go.Shelf Go.RowKit Go.Lib
theorem can1 (a b:Int) (h:a<b):y5k.can [⟨a,b⟩]:=⟨by simpa using h,by simp⟩
theorem u0w :Wn two2=0:=by
 refine x7z (by decide) ?_ ⟨[⟨0,1,[⟨0,0,1,1⟩,⟨1,1,2,2⟩]⟩],.one _ ⟨by decide,⟨[⟨0,1,[⟨0,1⟩]⟩,⟨1,2,[⟨1,2⟩]⟩],?_,rfl⟩,by simp⟩,rfl⟩
 ·intro r hr;simp only [two2,List.mem_cons,List.not_mem_nil,or_false] at hr;rcases hr with rfl | rfl <;> rfl
 ·exact .cons _ _ [] ⟨by decide,can1 0 1 (by decide),by simp⟩ ⟨by decide,fun _=>by simp⟩ (.one _ ⟨by decide,can1 1 2 (by decide),by simp⟩)
def w7m (L:List R6):Int:=1
def w7l (L:List R6):Int:=0
def z6j (L:List R6):Bool:=v4e L
theorem u2q (L:List R6) (h:z6j L=true): ∃N,Yj (z4x L) N (y0t L)=.ret [.int .i64 (w7m L),.int .i64 (w7l L)]:=by obtain rfl:=x9i h;refine ⟨40,?_⟩;unfold y0t;rw [Za,show z1d two2=true from rfl,u0w];kernel_rfl
def fMpi :List AVal→Option (AVal×Bool)
 | [a0]=>match asL R6 a0 with
  | some (L0,g0,n0)=>some (.tup [.int .i64 (w7m L0),.int .i64 (w7l L0)],isT R6 n0 g0&&(z6j L0))
  | _=>none
 | _=>none
theorem u4o {S:Specs} (hS:Zu prog S):Zu prog (S.with w7d fMpi):=by
 refine z3e hS (by kernel_rfl) fun args v h=> ?_;unfold fMpi at h;split at h
 ·rename_i a0;split at h
  ·rename_i L0 g0 n0 e0;simp only [Option.some.injEq,Prod.mk.injEq,Bool.and_eq_true] at h;obtain ⟨rfl,ho0,hw⟩:=h;obtain ⟨N,hN⟩:=u2q L0 hw;exact ⟨_,_,(.cons (asL_le e0 ho0) .nil),rfl,v3g L0 N _ hN,3,rfl⟩
  ·cases h
 ·cases h
def Mk :Specs:=(Mj.with w7d fMpi)
theorem z9w :Zu prog Mk:=(u4o z4f)
end Go.Am
namespace Go.Am
open Go.Proofs.Tryz
open Go.Proofs
inductive al19S where
def u5w :al19S→Cfg
 :=nofun
def y9k :al19S→Xn al19S
 :=nofun
def z7d :Xn al19S:=(bif (z2x (cvT ([(R6.mk 0 0 0 2 1 1)]:List R6))) then (bif (z6j (cvT ([(R6.mk 0 0 0 1 1 1),(R6.mk 1 1 0 2 2 1)]:List R6))) then (bif ((z6k (cvT ([(R6.mk 0 0 0 2 1 1)]:List R6))) != 0) then (.ret [(.bool false)]) else (bif ((((Yq (cvT ([(R6.mk 0 0 0 2 1 1)]:List R6))).length :Nat):Int) != 6) then (.ret [(.bool false)]) else (bif ((w7l (cvT ([(R6.mk 0 0 0 1 1 1),(R6.mk 1 1 0 2 2 1)]:List R6))) != 0) then (.ret [(.bool false)]) else (bif ((w7m (cvT ([(R6.mk 0 0 0 1 1 1),(R6.mk 1 1 0 2 2 1)]:List R6))) != 1) then (.ret [(.bool false)]) else (bif (z2w (cvT (Yq (cvT ([(R6.mk 0 0 0 2 1 1)]:List R6))))) then (bif ((y6j (cvT (Yq (cvT ([(R6.mk 0 0 0 2 1 1)]:List R6))))) == 0) then (bif (Wb (cvT (Ja (cvT (Yq (cvT ([(R6.mk 0 0 0 2 1 1)]:List R6)))))) (cvT ([(R6.mk 0 0 0 2 1 1)]:List R6))) then (bif (Up (cvT (Ja (cvT (Yq (cvT ([(R6.mk 0 0 0 2 1 1)]:List R6)))))) (cvT ([(R6.mk 0 0 0 2 1 1)]:List R6))) then (bif ((decide ((0:Int)≤0∧0<(((Yq (cvT ([(R6.mk 0 0 0 2 1 1)]:List R6))).length :Nat):Int)))&&true) then (bif (((rd (Yq (cvT ([(R6.mk 0 0 0 2 1 1)]:List R6))) 0).a == 0)&&((((rd (Yq (cvT ([(R6.mk 0 0 0 2 1 1)]:List R6))) 0).b == 2)&&(((rd (Yq (cvT ([(R6.mk 0 0 0 2 1 1)]:List R6))) 0).c == 0)&&(((rd (Yq (cvT ([(R6.mk 0 0 0 2 1 1)]:List R6))) 0).d == 0)&&true)))&&((((rd (Yq (cvT ([(R6.mk 0 0 0 2 1 1)]:List R6))) 0).e == 2)&&(((rd (Yq (cvT ([(R6.mk 0 0 0 2 1 1)]:List R6))) 0).f == 1)&&(((rd (Yq (cvT ([(R6.mk 0 0 0 2 1 1)]:List R6))) 0).g == 1)&&true)))&&true))) then (bif ((decide ((0:Int)≤4∧4<(((Yq (cvT ([(R6.mk 0 0 0 2 1 1)]:List R6))).length :Nat):Int)))&&true) then (.ret [(.bool (((rd (Yq (cvT ([(R6.mk 0 0 0 2 1 1)]:List R6))) 4).a == 4)&&((((rd (Yq (cvT ([(R6.mk 0 0 0 2 1 1)]:List R6))) 4).b == 0)&&(((rd (Yq (cvT ([(R6.mk 0 0 0 2 1 1)]:List R6))) 4).c == 0)&&(((rd (Yq (cvT ([(R6.mk 0 0 0 2 1 1)]:List R6))) 4).d == 1)&&true)))&&((((rd (Yq (cvT ([(R6.mk 0 0 0 2 1 1)]:List R6))) 4).e == 2)&&(((rd (Yq (cvT ([(R6.mk 0 0 0 2 1 1)]:List R6))) 4).f == 1)&&(((rd (Yq (cvT ([(R6.mk 0 0 0 2 1 1)]:List R6))) 4).g == 1)&&true)))&&true))))]) else .stuck) else (.ret [(.bool false)])) else .stuck) else (.ret [(.bool false)])) else .stuck) else (.ret [(.bool false)])) else .stuck))))) else .stuck) else .stuck)
theorem x7f : ∀s,Xk prog (Zy prog 36) (u5w) (u5w s) (y9k s)
 :=nofun
theorem x2f :Xk prog (Zy prog 36) (u5w) (Zd prog 36 [] true []) (z7d):=(Wd (sl z9w (C':=⟨⟨66,0,true⟩,(Uq prog 36 [1,0] 2),(Zc prog 36 [1,0] 1),none,(Zy prog 10),⟨Yb [(9,(.dat ([(R6.mk 0 0 0 2 1 1)]:List R6).length (Zz ([(R6.mk 0 0 0 2 1 1)]:List R6))))],Ug [] 0,0,[],true⟩,[],.leaf⟩) 26 [] ⟨[],[1],[some [9]],[]⟩ ⟨[(9,.frz 1 ([(R6.mk 0 0 0 2 1 1)]:List R6).length (z2h [(ii 0),(ii 0),(ii 0),(ii 2),(ii 1),(ii 1)] 0 6) (Zz ([(R6.mk 0 0 0 2 1 1)]:List R6)))],[],[]⟩ [] (pp (xZ (.dat 1 (z2h [(ii 0),(ii 0),(ii 0),(ii 2),(ii 1),(ii 1)] 0 6)) 1 (z2h [(ii 0),(ii 0),(ii 0),(ii 2),(ii 1),(ii 1)] 0 6)) (pp (xL 1 ([(R6.mk 0 0 0 2 1 1)]:List R6).length) (pp (xS 1 (z2h [(ii 0),(ii 0),(ii 0),(ii 2),(ii 1),(ii 1)] 0 6) (Zz ([(R6.mk 0 0 0 2 1 1)]:List R6))) nn)))) (lo fun q0_0=>(Wd (sl z9w (C':=⟨⟨66,0,true⟩,(Uq prog 36 [1,1,0] 3),(Zc prog 36 [1,1,0] 1),none,(Zy prog 10),⟨Yb [(1,(.dat (Yq (cvT ([(R6.mk 0 0 0 2 1 1)]:List R6))).length (Zz (Yq (cvT ([(R6.mk 0 0 0 2 1 1)]:List R6)))))),(2,(ii (z6k (cvT ([(R6.mk 0 0 0 2 1 1)]:List R6))))),(16,(.dat ([(R6.mk 0 0 0 1 1 1),(R6.mk 1 1 0 2 2 1)]:List R6).length (Zz ([(R6.mk 0 0 0 1 1 1),(R6.mk 1 1 0 2 2 1)]:List R6))))],Ug [] 0,0,[],true⟩,[],.leaf⟩) 48 [] ⟨[],[2],[some [1,2,16]],[]⟩ ⟨[(16,.frz 2 ([(R6.mk 0 0 0 1 1 1),(R6.mk 1 1 0 2 2 1)]:List R6).length (z2h [(ii 0),(ii 0),(ii 0),(ii 1),(ii 1),(ii 1),(ii 1),(ii 1),(ii 0),(ii 2),(ii 2),(ii 1)] 0 6) (Zz ([(R6.mk 0 0 0 1 1 1),(R6.mk 1 1 0 2 2 1)]:List R6)))],[],[]⟩ [] (pp (xZ (.dat 2 (z2h [(ii 0),(ii 0),(ii 0),(ii 1),(ii 1),(ii 1),(ii 1),(ii 1),(ii 0),(ii 2),(ii 2),(ii 1)] 0 6)) 2 (z2h [(ii 0),(ii 0),(ii 0),(ii 1),(ii 1),(ii 1),(ii 1),(ii 1),(ii 0),(ii 2),(ii 2),(ii 1)] 0 6)) (pp (xL 2 ([(R6.mk 0 0 0 1 1 1),(R6.mk 1 1 0 2 2 1)]:List R6).length) (pp (xS 2 (z2h [(ii 0),(ii 0),(ii 0),(ii 1),(ii 1),(ii 1),(ii 1),(ii 1),(ii 0),(ii 2),(ii 2),(ii 1)] 0 6) (Zz ([(R6.mk 0 0 0 1 1 1),(R6.mk 1 1 0 2 2 1)]:List R6))) (pp (pp (xI R6 ([(R6.mk 0 0 0 2 1 1)]:List R6).length (Zz ([(R6.mk 0 0 0 2 1 1)]:List R6))) (xw q0_0)) nn))))) (lo fun bV=>(lb (fun k0=>(lr 66 36 [1,1,1,0,1,0,0] 1 10 [(0,(.bool false))] (sl z9w 31 [] ⟨[],[],[some [0]],[]⟩ ⟨[],[],[]⟩ (trs 8 []) (tt k0 (pp (pp (xI R6 ([(R6.mk 0 0 0 1 1 1),(R6.mk 1 1 0 2 2 1)]:List R6).length (Zz ([(R6.mk 0 0 0 1 1 1),(R6.mk 1 1 0 2 2 1)]:List R6))) (xw bV)) nn))))) (fun k0=>(lb (fun k1=>(lr 66 36 [1,1,1,0,1,0,0] 1 10 [(0,(.bool false))] (sl z9w 31 [] ⟨[],[],[some [0]],[]⟩ ⟨[],[],[]⟩ [false,false,false,true,true,true,true,true] (tt k1 (tt k0 (pp (pp (xI R6 ([(R6.mk 0 0 0 1 1 1),(R6.mk 1 1 0 2 2 1)]:List R6).length (Zz ([(R6.mk 0 0 0 1 1 1),(R6.mk 1 1 0 2 2 1)]:List R6))) (xw bV)) nn)))))) (fun k1=>(lb (fun k2=>(lr 66 36 [1,1,1,0,1,0,0] 1 10 [(0,(.bool false))] (sl z9w 31 [] ⟨[],[],[some [0]],[]⟩ ⟨[],[],[]⟩ [false,false,false,false,false,true,true,true] (tt k2 (tt k1 (tt k0 (pp (pp (xI R6 ([(R6.mk 0 0 0 1 1 1),(R6.mk 1 1 0 2 2 1)]:List R6).length (Zz ([(R6.mk 0 0 0 1 1 1),(R6.mk 1 1 0 2 2 1)]:List R6))) (xw bV)) nn))))))) (fun k2=>(lb (fun k3=>(lr 66 36 [1,1,1,0,1,0,0] 1 10 [(0,(.bool false))] (sl z9w 31 [] ⟨[],[],[some [0]],[]⟩ ⟨[],[],[]⟩ [false,false,false,false,false,false,false,true] (tt k3 (tt k2 (tt k1 (tt k0 (pp (pp (xI R6 ([(R6.mk 0 0 0 1 1 1),(R6.mk 1 1 0 2 2 1)]:List R6).length (Zz ([(R6.mk 0 0 0 1 1 1),(R6.mk 1 1 0 2 2 1)]:List R6))) (xw bV)) nn)))))))) (fun k3=>(lo fun bS=>(lb (fun k4=>(Wd (sl z9w (C':=⟨⟨66,0,true⟩,(Uq prog 36 [1,1,1,1,1,0] 6),(Zc prog 36 [1,1,1,1,1,0] 1),none,(Zy prog 10),⟨Yb [(1,(.dat (Yq (cvT ([(R6.mk 0 0 0 2 1 1)]:List R6))).length (Zz (Yq (cvT ([(R6.mk 0 0 0 2 1 1)]:List R6)))))),(42,(.bool true)),(43,(.dat (Ja (cvT (Yq (cvT ([(R6.mk 0 0 0 2 1 1)]:List R6))))).length (Zz (Ja (cvT (Yq (cvT ([(R6.mk 0 0 0 2 1 1)]:List R6)))))))),(45,(.dat ([(R6.mk 0 0 0 2 1 1)]:List R6).length (Zz ([(R6.mk 0 0 0 2 1 1)]:List R6))))],Ug [] 0,0,[],true⟩,[],.leaf⟩) 64 [] ⟨[],[1],[some [1,42,43,45]],[]⟩ ⟨[(45,.frz 1 ([(R6.mk 0 0 0 2 1 1)]:List R6).length (z2h [(ii 0),(ii 0),(ii 0),(ii 2),(ii 1),(ii 1)] 0 6) (Zz ([(R6.mk 0 0 0 2 1 1)]:List R6)))],[],[]⟩ [false,false,false,false,false,false,false,false,true,true,true] (pp (xZ (.dat 1 (z2h [(ii 0),(ii 0),(ii 0),(ii 2),(ii 1),(ii 1)] 0 6)) 1 (z2h [(ii 0),(ii 0),(ii 0),(ii 2),(ii 1),(ii 1)] 0 6)) (pp (xL 1 ([(R6.mk 0 0 0 2 1 1)]:List R6).length) (pp (xS 1 (z2h [(ii 0),(ii 0),(ii 0),(ii 2),(ii 1),(ii 1)] 0 6) (Zz ([(R6.mk 0 0 0 2 1 1)]:List R6))) (tt k4 (pp (pp (xI R7 (Yq (cvT ([(R6.mk 0 0 0 2 1 1)]:List R6))).length (Zz (Yq (cvT ([(R6.mk 0 0 0 2 1 1)]:List R6))))) (xw bS)) (tt k3 (tt k2 (tt k1 (tt k0 (pp (pp (xI R6 ([(R6.mk 0 0 0 1 1 1),(R6.mk 1 1 0 2 2 1)]:List R6).length (Zz ([(R6.mk 0 0 0 1 1 1),(R6.mk 1 1 0 2 2 1)]:List R6))) (xw bV)) nn))))))))))) (lo fun cM=>(lb (fun k5=>(lo fun cT=>(lb (fun k6=>(lo fun o0=>(lr 66 3 [1,1,1,1,1,1,1,0] 1 10 [(0,(.bool (((rd (Yq (cvT ([(R6.mk 0 0 0 2 1 1)]:List R6))) 4).a == 4)&&((((rd (Yq (cvT ([(R6.mk 0 0 0 2 1 1)]:List R6))) 4).b == 0)&&(((rd (Yq (cvT ([(R6.mk 0 0 0 2 1 1)]:List R6))) 4).c == 0)&&(((rd (Yq (cvT ([(R6.mk 0 0 0 2 1 1)]:List R6))) 4).d == 1)&&true)))&&((((rd (Yq (cvT ([(R6.mk 0 0 0 2 1 1)]:List R6))) 4).e == 2)&&(((rd (Yq (cvT ([(R6.mk 0 0 0 2 1 1)]:List R6))) 4).f == 1)&&(((rd (Yq (cvT ([(R6.mk 0 0 0 2 1 1)]:List R6))) 4).g == 1)&&true)))&&true)))))] (sl z9w 22 [] ⟨[],[],[some [0]],[]⟩ ⟨[],[],[]⟩ (trs 15 []) (ww o0 (tt k6 (ww cT (tt k5 (pp (pp (xI R6 (Ja (cvT (Yq (cvT ([(R6.mk 0 0 0 2 1 1)]:List R6))))).length (Zz (Ja (cvT (Yq (cvT ([(R6.mk 0 0 0 2 1 1)]:List R6))))))) (pp (xI R6 ([(R6.mk 0 0 0 2 1 1)]:List R6).length (Zz ([(R6.mk 0 0 0 2 1 1)]:List R6))) (xw cM))) nn))))))))) (fun k6=>(lr 66 3 [1,1,1,1,1,1,1,0] 1 10 [(0,(.bool false))] (sl z9w 22 [] ⟨[],[],[some [0]],[]⟩ ⟨[],[],[]⟩ (trs 8 [false,false,false,false,false,false,false]) (tt k6 (ww cT (tt k5 (pp (pp (xI R6 (Ja (cvT (Yq (cvT ([(R6.mk 0 0 0 2 1 1)]:List R6))))).length (Zz (Ja (cvT (Yq (cvT ([(R6.mk 0 0 0 2 1 1)]:List R6))))))) (pp (xI R6 ([(R6.mk 0 0 0 2 1 1)]:List R6).length (Zz ([(R6.mk 0 0 0 2 1 1)]:List R6))) (xw cM))) nn)))))))))) (fun k5=>(lr 66 3 [1,1,1,1,1,1,1,0] 1 10 [(0,(.bool false))] (sl z9w 22 [] ⟨[],[],[some [0]],[]⟩ ⟨[],[],[]⟩ [true,false,false,false,false,false,false,false,false,false,false,false,false,false,false] (tt k5 (pp (pp (xI R6 (Ja (cvT (Yq (cvT ([(R6.mk 0 0 0 2 1 1)]:List R6))))).length (Zz (Ja (cvT (Yq (cvT ([(R6.mk 0 0 0 2 1 1)]:List R6))))))) (pp (xI R6 ([(R6.mk 0 0 0 2 1 1)]:List R6).length (Zz ([(R6.mk 0 0 0 2 1 1)]:List R6))) (xw cM))) nn))))))))) (fun k4=>(lr 66 3 [1,1,1,1,1,1,1,0] 1 10 [(0,(.bool false))] (sl z9w 68 [] ⟨[],[],[some [0]],[]⟩ ⟨[],[],[]⟩ [false,false,false,false,false,false,false,false,false,false,false,false,false,false,false,false,false,false,false,false,false,false,false,false,false,false] (tt k4 (pp (pp (xI R7 (Yq (cvT ([(R6.mk 0 0 0 2 1 1)]:List R6))).length (Zz (Yq (cvT ([(R6.mk 0 0 0 2 1 1)]:List R6))))) (xw bS)) (tt k3 (tt k2 (tt k1 (tt k0 (pp (pp (xI R6 ([(R6.mk 0 0 0 1 1 1),(R6.mk 1 1 0 2 2 1)]:List R6).length (Zz ([(R6.mk 0 0 0 1 1 1),(R6.mk 1 1 0 2 2 1)]:List R6))) (xw bV)) nn))))))))))))))))))))))))
theorem v0d (n:Nat) (vs:List AVal) (h:Yj (y9k) n (z7d)=.ret vs):Kz prog (Zy prog 36) (Zd prog 36 [] true []) vs:=by have:=Zo (x7f) n _ (x2f);rwa [h] at this
end Go.Am
namespace Go.Am
open Go.Proofs Go.Sort Go.Shelf Go.RowKit Go.Lib
theorem chg {L:List R2} (h:Can L) {y:Int} (hy:y∈z8l L) (hS:pt L (y - 1)↔pt L y):False:=by
 obtain ⟨s,hs,h1⟩:=List.mem_flatMap.1 hy;have hp:=h.pos s hs;have sepL: ∀t∈L,t=s∨t.b<s.a∨s.b<t.a:=fun t ht=>by
  obtain ⟨i,hi,ei⟩:=List.getElem_of_mem hs;obtain ⟨j,hj,ej⟩:=List.getElem_of_mem ht;have pw:=List.pairwise_iff_getElem.1 h.sep;rcases Nat.lt_trichotomy i j with q | q | q
  ·have:=pw i j hi hj q;rw [ei,ej] at this;exact .inr (.inr this)
  ·subst q;exact .inl (ej.symm.trans ei)
  ·have:=pw j i hj hi q;rw [ei,ej] at this;exact .inr (.inl this)
 simp only [List.mem_cons,List.not_mem_nil,or_false] at h1;rcases h1 with rfl | rfl
 ·obtain ⟨t,ht,t1,t2⟩:=hS.2 ⟨s,hs,Int.le_refl _,hp⟩;rcases sepL t ht with rfl | q | q <;> omega
 ·obtain ⟨t,ht,t1,t2⟩:=hS.1 ⟨s,hs,by omega,by omega⟩;rcases sepL t ht with rfl | q | q <;> omega
theorem x1a : ∀(l S:List Int),l.Pairwise (· ≠ ·)→(∀x∈l,x∈S)→l.length≤S.length
 | [],S,_,_=>Nat.zero_le _
 | x::l,S,h,hs=>by obtain ⟨h1,h2⟩:=List.pairwise_cons.1 h;have hx:=hs x (by simp);have:=x1a l (S.erase x) h2 fun y hy=>(List.mem_erase_of_ne (fun e=>h1 y hy e.symm)).2 (hs y (by simp [hy]));rw [List.length_erase_of_mem hx] at this;have:=List.length_pos_of_mem hx;simp only [List.length_cons];omega
theorem u0a {a b:List R2} (ha:a.all Qh=true) (hb:b.all Qh=true):(spJ 2 a b).length +(spJ 2 b a).length ≤a.length+b.length:=by
 obtain ⟨c1,p1⟩:=z7m 2 ha hb;obtain ⟨c2,p2⟩:=z7m 2 hb ha;have q1: ∀y,pt (spJ 2 a b) y↔pt a y∧ ¬pt b y:=fun y=>by rw [show pt (spJ 2 a b) y↔_ from p1 y];unfold opB;simp
 have q2: ∀y,pt (spJ 2 b a) y↔pt b y∧ ¬pt a y:=fun y=>by rw [show pt (spJ 2 b a) y↔_ from p2 y];unfold opB;simp
 have f: ∀y:Int,∃z,(z=2*y∧ ¬(pt a (y - 1)↔pt a y))∨(z=2*y+1∧(pt a (y - 1)↔pt a y)):=fun y=>by
  by_cases h:pt a (y - 1)↔pt a y
  ·exact ⟨_,.inr ⟨rfl,h⟩⟩
  ·exact ⟨_,.inl ⟨rfl,h⟩⟩
 have g: ∀y:Int,∃z,(z=2*y+1∧ ¬(pt b (y - 1)↔pt b y))∨(z=2*y∧(pt b (y - 1)↔pt b y)):=fun y=>by
  by_cases h:pt b (y - 1)↔pt b y
  ·exact ⟨_,.inr ⟨rfl,h⟩⟩
  ·exact ⟨_,.inl ⟨rfl,h⟩⟩
 obtain ⟨f,hf⟩:=Classical.axiomOfChoice f;obtain ⟨g,hg⟩:=Classical.axiomOfChoice g;have key:=x1a ((z8l (spJ 2 a b)).map f++(z8l (spJ 2 b a)).map g) ((z8l a).map (2* ·)++(z8l b).map (2* · +1)) (by
  refine List.pairwise_append.2 ⟨List.pairwise_map.2 ((y3t c1).imp fun {x y} h=> ?_),List.pairwise_map.2 ((y3t c2).imp fun {x y} h=> ?_),?_⟩
  ·have:=hf x;have:=hf y;omega
  ·have:=hg x;have:=hg y;omega
  ·intro x hx z hz;obtain ⟨y,hy,rfl⟩:=List.mem_map.1 hx;obtain ⟨y',hy',rfl⟩:=List.mem_map.1 hz;intro e;have e1:y'=y:=by have:=hf y;have:=hg y';omega
   subst e1;have n1:=chg c1 hy;have n2:=chg c2 hy';rw [q1,q1] at n1;rw [q2,q2] at n2;rcases hf y' with ⟨e1,h1⟩ | ⟨e1,h1⟩ <;> rcases hg y' with ⟨e2,h2⟩ | ⟨e2,h2⟩
   ·omega
   ·by_cases h3:pt b y'
    ·exact n1 (by simp [h2,h3])
    ·exact n2 (by simp [h2,h3])
   ·by_cases h3:pt a y'
    ·exact n2 (by simp [h1,h3])
    ·exact n1 (by simp [h1,h3])
   ·omega) (by
  intro x hx;rcases List.mem_append.1 hx with hx | hx
  ·obtain ⟨y,hy,rfl⟩:=List.mem_map.1 hx;have n1:=chg c1 hy;rw [q1,q1] at n1;rcases hf y with ⟨e1,h1⟩ | ⟨e1,h1⟩
   ·refine List.mem_append.2 (.inl (List.mem_map.2 ⟨y,Classical.byContradiction fun hn=>h1 (z7t hn),e1.symm⟩))
   ·refine List.mem_append.2 (.inr (List.mem_map.2 ⟨y,Classical.byContradiction fun hn=>n1 (by rw [h1,z7t hn]),e1.symm⟩))
  ·obtain ⟨y,hy,rfl⟩:=List.mem_map.1 hx;have n1:=chg c2 hy;rw [q2,q2] at n1;rcases hg y with ⟨e1,h1⟩ | ⟨e1,h1⟩
   ·refine List.mem_append.2 (.inr (List.mem_map.2 ⟨y,Classical.byContradiction fun hn=>h1 (z7t hn),e1.symm⟩))
   ·refine List.mem_append.2 (.inl (List.mem_map.2 ⟨y,Classical.byContradiction fun hn=>n1 (by rw [h1,z7t hn]),e1.symm⟩)))
 simp only [List.length_append,List.length_map,z0d] at key;omega
theorem z8m : ∀(l m:List Int),l.Pairwise (· < ·)→m.Pairwise (· < ·)→(∀x,x∈l↔x∈m)→l=m
 | [],[],_,_,_=>rfl
 | [],y::m,_,_,h=>by have:=(h y).2 (by simp);cases this
 | x::l,[],_,_,h=>by have:=(h x).1 (by simp);cases this
 | x::l,y::m,hl,hm,h=>by
  obtain ⟨l1,l2⟩:=List.pairwise_cons.1 hl;obtain ⟨m1,m2⟩:=List.pairwise_cons.1 hm;have e:x=y:=by
   have hx:=(h x).1 (by simp);have hy:=(h y).2 (by simp);rcases List.mem_cons.1 hx with hx | hx
   ·exact hx
   ·rcases List.mem_cons.1 hy with hy | hy
    ·exact hy.symm
    ·have:=l1 y hy;have:=m1 x hx;omega
  subst e
  congr 1
  refine z8m l m l2 m2 fun z=>⟨fun hz=> ?_,fun hz=> ?_⟩
  ·have:=l1 z hz;rcases List.mem_cons.1 ((h z).1 (by simp [hz])) with q | q
   ·omega
   ·exact q
  ·have:=m1 z hz;rcases List.mem_cons.1 ((h z).2 (by simp [hz])) with q | q
   ·omega
   ·exact q
namespace Dim
variable {α β:Type} {D:Dim α β}
theorem x9x (l:List α):(D.cuts l).Pairwise (· < ·):=by show (Ue (D.ends l)).Pairwise (· < ·);rw [Uv];exact (Xd _).1
theorem x9w (l:List α) (x:Int):x∈D.cuts l↔x∈D.ends l:=by show x∈Ue (D.ends l)↔_;rw [Uv];exact (Xd _).2 x
theorem x9v (l:List α) (x:Int):x∈D.ends l↔ ∃r∈l,x=D.lo r∨x=D.hi r:=by
 induction l with
 | nil=>exact ⟨fun h=>(by cases h),fun ⟨r,h,_⟩=>(by cases h)⟩
 | cons r l ih=>
  show x∈D.lo r::D.hi r::D.ends l↔_;rw [List.mem_cons,List.mem_cons,ih];constructor
  ·rintro (h | h | ⟨s,hs,h⟩)
   ·exact ⟨r,by simp,.inl h⟩
   ·exact ⟨r,by simp,.inr h⟩
   ·exact ⟨s,by simp [hs],h⟩
  ·rintro ⟨s,hs,h⟩;rcases List.mem_cons.1 hs with rfl | hs
   ·rcases h with h | h
    ·exact .inl h
    ·exact .inr (.inl h)
   ·exact .inr (.inr ⟨s,hs,h⟩)
theorem cuts_comm (a b:List α):D.cuts (a++b)=D.cuts (b++a):=z8m _ _ (x9x _) (x9x _) fun x=>by
 rw [x9w,x9w,x9v,x9v];constructor <;> exact fun ⟨r,hr,h⟩=>⟨r,by rw [List.mem_append] at*;exact hr.symm,h⟩
end Dim
theorem v2m {a b:List R4} (ha: ∀r∈a,Vw r=true) (hb: ∀r∈b,Vw r=true):(rgJ 2 a b).length +(rgJ 2 b a).length ≤(a.length+b.length)*(a.length+b.length):=by
 have hv: ∀r∈a++b,D4.lo r<D4.hi r:=fun r hr=>by
  have hv:Vw r=true:=by
   rcases List.mem_append.1 hr with h | h
   ·exact ha r h
   ·exact hb r h
  simp only [Vw,Bool.and_eq_true,decide_eq_true_eq] at hv;exact hv.1
 have g1:=D4.goS_length (fun x=>spJ 2 (D4.inn a x) (D4.inn b x)) (D4.cuts (a++b)) ((D4.cuts (a++b)).length - 1) 0 ⟨[],[],0,0⟩;have g2:=D4.goS_length (fun x=>spJ 2 (D4.inn b x) (D4.inn a x)) (D4.cuts (a++b)) ((D4.cuts (a++b)).length - 1) 0 ⟨[],[],0,0⟩;have h2:=D4.open_sum (a++b) hv ((D4.cuts (a++b)).length - 1) (Nat.sub_le _ _);have e1:(rgJ 2 b a).length =(D4.goS (fun x=>spJ 2 (D4.inn b x) (D4.inn a x)) (D4.cuts (a++b)) ((D4.cuts (a++b)).length - 1) 0 ⟨[],[],0,0⟩).out.length :=by unfold rgJ;rw [Dim.cuts_comm b a]
 have e2:(rgJ 2 a b).length =(D4.goS (fun x=>spJ 2 (D4.inn a x) (D4.inn b x)) (D4.cuts (a++b)) ((D4.cuts (a++b)).length - 1) 0 ⟨[],[],0,0⟩).out.length :=rfl;rw [e1,e2];rw [List.length_append] at h2;refine Nat.le_trans (Nat.add_le_add g1 g2) (Nat.le_trans ?_ h2);simp only [List.length_nil,Nat.zero_add];generalize (D4.cuts (a++b)).length - 1=k
 induction k with
 | zero=>exact Nat.le_refl _
 | succ k ih=>rw [List.range_succ,List.map_append,List.map_append,List.map_append,List.sum_append,List.sum_append,List.sum_append];have:=u0a (Vv ha (rd (D4.cuts (a++b)) k)) (Vv hb (rd (D4.cuts (a++b)) k));simp only [List.map_cons,List.map_nil,List.sum_cons,List.sum_nil];rw [D4.inn_append,List.length_append];omega
end Go.Am
namespace Go.Am
open Go.Proofs Go.Sort Go.Shelf Go.RowKit Go.Lib
def Ax.inB (q:Ax) (r:R6) (p u v:Int):Prop:=(q.lo r≤p∧p<q.hi r)∧((q.rc r).a ≤u∧u<(q.rc r).c)∧((q.rc r).b ≤v∧v<(q.rc r).d)
def Ax.inL (q:Ax) (L:List R6) (p u v:Int):Prop:= ∃r∈L,q.inB r p u v
def Ax.to (q:Ax) (p u v:Int):Int×Int×Int:=match q with
 | .x =>(p,u,v)
 | .y =>(u,p,v)
 | .z =>(u,v,p)
theorem v7z (l:List R4) (u v:Int):ptL Wg.inB l (u,v)↔ ∃r∈l,(r.a≤u∧u<r.c)∧(r.b≤v∧v<r.d):=by
 constructor
 ·rintro ⟨r,hr,h1,h2,h3,h4⟩;exact ⟨r,hr,⟨h1,h2⟩,h3,h4⟩
 ·rintro ⟨r,hr,⟨h1,h2⟩,h3,h4⟩;exact ⟨r,hr,h1,h2,h3,h4⟩
theorem y3q (q:Ax) (L:List R6) (p u v:Int):ptL Wg.inB (z0y q L p) (u,v)↔q.inL L p u v:=by
 rw [v7z];constructor
 ·rintro ⟨s,hs,h⟩;obtain ⟨r,hr,rfl⟩:=List.mem_map.1 hs;obtain ⟨h1,h2⟩:=List.mem_filter.1 hr;simp only [Bool.and_eq_true,decide_eq_true_eq] at h2;exact ⟨r,h1,h2,h⟩
 ·rintro ⟨r,hr,h1,h2⟩;exact ⟨q.rc r,List.mem_map.2 ⟨r,List.mem_filter.2 ⟨hr,by simp only [Bool.and_eq_true,decide_eq_true_eq];exact h1⟩,rfl⟩,h2⟩
theorem Ax.val (q:Ax) {r:R6} (h:z0h r=true):Vw (q.rc r)=true∧q.lo r<q.hi r∧ -1000000≤q.lo r∧q.hi r≤1000000:=by
 have:=z5o h;cases q
 ·refine ⟨?_,by show r.a<r.d;omega,by show _≤r.a;omega,by show r.d≤_;omega⟩;show Vw ⟨r.b,r.c,r.e,r.f⟩=true;simp only [Vw,Bool.and_eq_true,decide_eq_true_eq]
  (repeat' apply And.intro) <;> omega
 ·refine ⟨?_,by show r.b<r.e;omega,by show _≤r.b;omega,by show r.e≤_;omega⟩;show Vw ⟨r.a,r.c,r.d,r.f⟩=true;simp only [Vw,Bool.and_eq_true,decide_eq_true_eq]
  (repeat' apply And.intro) <;> omega
 ·refine ⟨?_,by show r.c<r.f;omega,by show _≤r.c;omega,by show r.f≤_;omega⟩;show Vw ⟨r.a,r.b,r.d,r.e⟩=true;simp only [Vw,Bool.and_eq_true,decide_eq_true_eq]
  (repeat' apply And.intro) <;> omega
theorem w9k (q:Ax) {L:List R6} (hv: ∀r∈L,z0h r=true) (p:Int): ∀s∈z0y q L p,Vw s=true:=fun s hs=>by obtain ⟨r,hr,rfl⟩:=List.mem_map.1 hs;exact (q.val (hv r (List.mem_filter.1 hr).1)).1
theorem x6p (q:Ax) (L:List R6) (p:Int):(z0y q L p).length ≤L.length:=by unfold z0y;rw [List.length_map];exact List.length_filter_le _ _
theorem z3z {l:List R4} (hc:Wg.can l) (hb: ∀u v,ptL Wg.inB l (u,v)→(-1000000≤u∧u<1000000)∧(-1000000≤v∧v<1000000)): ∀r∈l,Vw r=true:=fun r hr=>by
 have hp:r.a<r.c∧r.b<r.d:=by obtain ⟨G,hG,e⟩:=hc;rw [e] at hr;obtain ⟨g,hg,hr⟩:=List.mem_flatMap.1 hr;obtain ⟨b,hb,rfl⟩:=List.mem_map.1 hr;obtain ⟨h1,h2,_⟩:=hG.all g hg;exact ⟨h1,Can.pos h2 b hb⟩
 have h1:=hb r.a r.b ((v7z _ _ _).2 ⟨r,hr,by omega,by omega⟩);have h2:=hb (r.c - 1) (r.d - 1) ((v7z _ _ _).2 ⟨r,hr,by omega,by omega⟩);simp only [Vw,Bool.and_eq_true,decide_eq_true_eq];omega
theorem z3j {l:List R4} (hv: ∀r∈l,Vw r=true) {u v:Int} (h:ptL Wg.inB l (u,v)):(-1000000≤u∧u<1000000)∧(-1000000≤v∧v<1000000):=by obtain ⟨r,hr,h1,h2⟩:=(v7z _ _ _).1 h;have:=hv r hr;simp only [Vw,Bool.and_eq_true,decide_eq_true_eq] at this;omega
structure Few (c l:List R4) (n:Nat):Prop where
 can:Wg.can l
 pts: ∀u v,ptL Wg.inB l (u,v)↔ptL Wg.inB c (u,v)
 val: ∀r∈l,Vw r=true
 len:l.length≤n*n
 sec: ∀x,(D4.inn l x).length ≤n
theorem w6p {l:List R4} (hv: ∀r∈l,Vw r=true) (hl:l.length≤400):(D4.out l).length ≤l.length*l.length:=by
 have h:=Qj 0 hv (fun r (h:r∈([]:List R4))=>by cases h);have e:rgJ 0 l []=D4.out l:=Wg.uniq _ _ h.1 (Qu hv hl).1 fun p=>by rw [h.2.1,(Qu hv hl).2];have: ¬ptL Wg.inB ([]:List R4) p:=z2s _ _;by_cases hp:ptL Wg.inB l p <;> simp [opB,hp,this]
 have:=h.2.2;rw [e] at this;exact this
theorem y8y {l:List R4} (hc:Wg.can l) (x:Int):y5k.can (D4.inn l x):=by obtain ⟨G,hG,e⟩:=hc;rw [e];exact Dim.inn_can y4k y5k x G hG
theorem u3y {c:List R4} (hv: ∀r∈c,Vw r=true) (hl:c.length≤20):Few c (D4.out c) c.length:=by
 obtain ⟨h1,h2⟩:=Qu hv (by omega);refine ⟨h1,fun u v=>h2 (u,v),z3z h1 fun u v h=>z3j hv ((h2 _).1 h),w6p hv (by omega),fun x=> ?_⟩;have h3:=z0k 0 (a:=D4.inn c x) (b:=[]) (Vv hv x) rfl;have h4:=z7m 0 (a:=D4.inn c x) (b:=[]) (Vv hv x) rfl;have e:spJ 0 (D4.inn c x) []=D4.inn (D4.out c) x:=y5k.uniq _ _ h4.1 (y8y h1 x) fun y=>by
  rw [h4.2];have a1:=z4u c x y;have a2:=z4u (D4.out c) x y;have: ¬pt [] y:=fun ⟨_,h,_⟩=>by cases h
  show _↔pt (D4.inn (D4.out c) x) y;rw [a2,h2,←a1];by_cases hp:pt (D4.inn c x) y <;> simp [opB,hp,this]
 rw [←e];have:=D4.inn_length c x;simp only [List.length_nil] at h3;omega
theorem u3x {c:List R4} (hv: ∀r∈c,Vw r=true) (hl:c.length≤20):Zg c=D4.out c∧Xm c=0:=by refine z5z hv (by omega) (Nat.le_trans (w6p hv (by omega)) ?_);exact Nat.le_trans (Nat.mul_le_mul hl hl) (by decide)
theorem x8j {l:List R4} (hl:l.length≤400) (hv: ∀r∈l,Vw r=true) (hc:Wg.can l):y4l l=0:=by
 obtain ⟨h1,h2⟩:=Qu hv hl;have e:D4.out l=l:=Wg.uniq _ _ h1 hc h2;have m1:Qt l=0:=by show y7e (D4.out l).length =0;rw [e];unfold y7e;rw [decide_eq_false (by omega)];rfl
 have m0:Ww l=l:=by unfold Ww y9b;rw [show v9d l=0 from m1,e];rfl
 unfold y4l rgcF;rw [decide_eq_false (by omega),List.all_eq_true.2 hv,m1,m0,show Um l l=true from decide_eq_true rfl];rfl
theorem w8s {E:Int→Int} {cs:List Int} (h: ∀x,E x=0): ∀k i,w3w E cs k i=0
 | 0,i=>rfl
 | k+1,i=>by show (bif E (rd cs i) != 0 then E (rd cs i) else w3w E cs k (i+1))=0;rw [h];exact w8s h k (i+1)
theorem y8c (o:Op) {a b:List R4} (la:a.length≤400) (lb:b.length≤400) (va: ∀r∈a,Vw r=true) (vb: ∀r∈b,Vw r=true) (ca:Wg.can a) (cb:Wg.can b)
  (sa: ∀x,(D4.inn a x).length +(D4.inn b x).length ≤400) (lj:(rgJ o.k a b).length ≤400):rgE o a b=0:=by
 have sc: ∀(l:List R4) (x:Int),l.length≤400→(∀r∈l,Vw r=true)→Wg.can l→y5q (D4.inn l x)=0:=fun l x hl hv hc=>
  (y7u _).2 ⟨Nat.le_trans (D4.inn_length l x) hl,Vv hv x,y8y hc x⟩
 have hz: ∀x,rgA o a b x=0:=fun x=>by unfold rgA spE;rw [sc a x la va ca,sc b x lb vb cb];have:=z0k o.k (Vv va x) (Vv vb x);show y7e _=0;unfold y7e;rw [decide_eq_false (by have:=sa x;omega)];rfl
 unfold rgE;rw [x8j la va ca,x8j lb vb cb,w8s hz];show y7e _=0;unfold y7e;rw [decide_eq_false (by omega)];rfl
def hiL (q:Ax) (L:List R6) (p:Int):List R4:=(L.filter fun r=>decide (q.hi r=p)).map q.rc
def loL (q:Ax) (L:List R6) (p:Int):List R4:=(L.filter fun r=>decide (q.lo r=p)).map q.rc
theorem y1m (q:Ax) {L:List R6} (hv: ∀r∈L,q.lo r<q.hi r) (p:Int):(hiL q L p).length +(loL q L p).length ≤L.length:=by
 unfold hiL loL;rw [List.length_map,List.length_map]
 induction L with
 | nil=>exact Nat.le_refl _
 | cons r L ih=>
  have ih:=ih fun s hs=>hv s (by simp [hs]);have:=hv r (by simp);rw [List.filter_cons,List.filter_cons];by_cases h1:q.hi r=p
  ·rw [if_pos (by simp [h1]),if_neg (by simp;omega)];simp only [List.length_cons];omega
  ·rw [if_neg (by simp [h1])];by_cases h2:q.lo r=p
   ·rw [if_pos (by simp [h2])];simp only [List.length_cons];omega
   ·rw [if_neg (by simp [h2])];simp only [List.length_cons];omega
theorem w8d (q:Ax) (L:List R6) (p u v:Int):ptL Wg.inB (hiL q L p) (u,v)↔ ∃r∈L,q.hi r=p∧((q.rc r).a ≤u∧u<(q.rc r).c)∧((q.rc r).b ≤v∧v<(q.rc r).d):=by
 rw [v7z];constructor
 ·rintro ⟨s,hs,h⟩;obtain ⟨r,hr,rfl⟩:=List.mem_map.1 hs;obtain ⟨h1,h2⟩:=List.mem_filter.1 hr;exact ⟨r,h1,of_decide_eq_true h2,h⟩
 ·rintro ⟨r,hr,h1,h2⟩;exact ⟨q.rc r,List.mem_map.2 ⟨r,List.mem_filter.2 ⟨hr,decide_eq_true h1⟩,rfl⟩,h2⟩
theorem w7s (q:Ax) (L:List R6) (p u v:Int):ptL Wg.inB (loL q L p) (u,v)↔ ∃r∈L,q.lo r=p∧((q.rc r).a ≤u∧u<(q.rc r).c)∧((q.rc r).b ≤v∧v<(q.rc r).d):=by
 rw [v7z];constructor
 ·rintro ⟨s,hs,h⟩;obtain ⟨r,hr,rfl⟩:=List.mem_map.1 hs;obtain ⟨h1,h2⟩:=List.mem_filter.1 hr;exact ⟨r,h1,of_decide_eq_true h2,h⟩
 ·rintro ⟨r,hr,h1,h2⟩;exact ⟨q.rc r,List.mem_map.2 ⟨r,List.mem_filter.2 ⟨hr,decide_eq_true h1⟩,rfl⟩,h2⟩
theorem Ap6.not (q:Ax) {r s:R6} (h:Ap6 r s) {p u v:Int} (h1:q.inB r p u v) (h2:q.inB s p u v):False:=by obtain ⟨a1,a2,a3⟩:=h1;obtain ⟨b1,b2,b3⟩:=h2;unfold Ap6 at h;cases q <;> simp only [Ax.lo,Ax.hi,Ax.rc] at* <;> omega
theorem v8a {L:List R6} (hL:L.Pairwise Ap6) (q:Ax) {r s:R6} (hr:r∈L) (hs:s∈L) {p u v:Int} (h1:q.inB r p u v) (h2:q.inB s p u v):r=s:=by
 obtain ⟨i,hi,ei⟩:=List.getElem_of_mem hr;obtain ⟨j,hj,ej⟩:=List.getElem_of_mem hs;have pw:=List.pairwise_iff_getElem.1 hL;rcases Nat.lt_trichotomy i j with h | h | h
 ·have:=pw i j hi hj h;rw [ei,ej] at this;exact (this.not q h1 h2).elim
 ·subst h;exact ei.symm.trans ej
 ·have:=pw j i hj hi h;rw [ei,ej] at this;exact (this.not q h2 h1).elim
theorem y7n (q:Ax) {L:List R6} (hL:L.Pairwise Ap6) (hv: ∀r∈L,q.lo r<q.hi r) (p u v:Int):
  (q.inL L (p - 1) u v∧ ¬q.inL L p u v)↔(ptL Wg.inB (hiL q L p) (u,v)∧ ¬ptL Wg.inB (loL q L p) (u,v)):=by
 rw [w8d,w7s];constructor
 ·rintro ⟨⟨r,hr,h1,h2⟩,h3⟩;refine ⟨⟨r,hr,?_,h2⟩,fun ⟨s,hs,k1,k2⟩=>h3 ⟨s,hs,⟨by omega,by have:=hv s hs;omega⟩,k2⟩⟩;refine Classical.byContradiction fun hn=>h3 ⟨r,hr,⟨by omega,by omega⟩,h2⟩
 ·rintro ⟨⟨r,hr,h1,h2⟩,h3⟩;have hlt:=hv r hr;have hb:q.inB r (p - 1) u v:=⟨⟨by omega,by omega⟩,h2⟩
  refine ⟨⟨r,hr,hb⟩,fun ⟨s,hs,k1,k2⟩=> ?_⟩;by_cases e:q.lo s=p
  ·exact h3 ⟨s,hs,e,k2⟩
  ·have:=v8a hL q hr hs hb ⟨⟨by omega,by omega⟩,k2⟩;subst this;omega
theorem z8i (q:Ax) {L:List R6} (hL:L.Pairwise Ap6) (hv: ∀r∈L,q.lo r<q.hi r) (p u v:Int):
  (q.inL L p u v∧ ¬q.inL L (p - 1) u v)↔(ptL Wg.inB (loL q L p) (u,v)∧ ¬ptL Wg.inB (hiL q L p) (u,v)):=by
 rw [w8d,w7s];constructor
 ·rintro ⟨⟨r,hr,h1,h2⟩,h3⟩;refine ⟨⟨r,hr,?_,h2⟩,fun ⟨s,hs,k1,k2⟩=>h3 ⟨s,hs,⟨by have:=hv s hs;omega,by omega⟩,k2⟩⟩;refine Classical.byContradiction fun hn=>h3 ⟨r,hr,⟨by omega,by omega⟩,h2⟩
 ·rintro ⟨⟨r,hr,h1,h2⟩,h3⟩;have hlt:=hv r hr;have hb:q.inB r p u v:=⟨⟨by omega,by omega⟩,h2⟩
  refine ⟨⟨r,hr,hb⟩,fun ⟨s,hs,k1,k2⟩=> ?_⟩;by_cases e:q.hi s=p
  ·exact h3 ⟨s,hs,e,k2⟩
  ·have:=v8a hL q hr hs hb ⟨⟨by omega,by omega⟩,k2⟩;subst this;omega
def upF (q:Ax) (L:List R6) (p:Int):List R4:=rgJ 2 (D4.out (z0y q L (p - 1))) (D4.out (z0y q L p))
def dnF (q:Ax) (L:List R6) (p:Int):List R4:=rgJ 2 (D4.out (z0y q L p)) (D4.out (z0y q L (p - 1)))
section
variable (q:Ax) {L:List R6} (hv: ∀r∈L,z0h r=true) (hl:L.length≤20) (hL:L.Pairwise Ap6)
include hv hl
theorem fw (p:Int):Few (z0y q L p) (D4.out (z0y q L p)) (z0y q L p).length :=u3y (w9k q hv p) (Nat.le_trans (x6p q L p) hl)
theorem y1l (p:Int):Wg.can (upF q L p)∧ ∀u v,ptL Wg.inB (upF q L p) (u,v)↔(q.inL L (p - 1) u v∧ ¬q.inL L p u v):=by have f1:=fw q hv hl (p - 1);have f2:=fw q hv hl p;obtain ⟨h1,h2,_⟩:=Qj 2 f1.val f2.val;refine ⟨h1,fun u v=> ?_⟩;rw [show ptL Wg.inB (upF q L p) (u,v)↔_ from h2 (u,v),←y3q,←y3q,←f1.pts,←f2.pts];simp [opB]
theorem y3n (p:Int):Wg.can (dnF q L p)∧ ∀u v,ptL Wg.inB (dnF q L p) (u,v)↔(q.inL L p u v∧ ¬q.inL L (p - 1) u v):=by have f1:=fw q hv hl (p - 1);have f2:=fw q hv hl p;obtain ⟨h1,h2,_⟩:=Qj 2 f2.val f1.val;refine ⟨h1,fun u v=> ?_⟩;rw [show ptL Wg.inB (dnF q L p) (u,v)↔_ from h2 (u,v),←y3q,←y3q,←f1.pts,←f2.pts];simp [opB]
include hL
theorem y7m (p:Int):(upF q L p).length +(dnF q L p).length ≤((hiL q L p).length +(loL q L p).length)*((hiL q L p).length +(loL q L p).length):=by
 have hr: ∀r∈L,q.lo r<q.hi r:=fun r h=>(q.val (hv r h)).2.1;have va: ∀s∈hiL q L p,Vw s=true:=fun s hs=>by obtain ⟨r,hr,rfl⟩:=List.mem_map.1 hs;exact (q.val (hv r (List.mem_filter.1 hr).1)).1
 have vb: ∀s∈loL q L p,Vw s=true:=fun s hs=>by obtain ⟨r,hr,rfl⟩:=List.mem_map.1 hs;exact (q.val (hv r (List.mem_filter.1 hr).1)).1
 obtain ⟨a1,a2,_⟩:=Qj 2 va vb;obtain ⟨b1,b2,_⟩:=Qj 2 vb va;obtain ⟨u1,u2⟩:=y1l q hv hl p;obtain ⟨d1,d2⟩:=y3n q hv hl p;have e1:upF q L p=rgJ 2 (hiL q L p) (loL q L p):=Wg.uniq _ _ u1 a1 fun ⟨u,v⟩=>by rw [u2,y7n q hL hr,a2];simp [opB]
 have e2:dnF q L p=rgJ 2 (loL q L p) (hiL q L p):=Wg.uniq _ _ d1 b1 fun ⟨u,v⟩=>by rw [d2,z8i q hL hr,b2];simp [opB]
 rw [e1,e2];exact v2m va vb
theorem y6v (p:Int):Xm (z0y q L p)=0∧Zg (z0y q L p)=D4.out (z0y q L p)∧rgE .d (D4.out (z0y q L (p - 1))) (D4.out (z0y q L p))=0∧rgE .d (D4.out (z0y q L p)) (D4.out (z0y q L (p - 1)))=0:=by
 have hr: ∀r∈L,q.lo r<q.hi r:=fun r h=>(q.val (hv r h)).2.1;have f1:=fw q hv hl (p - 1);have f2:=fw q hv hl p;have l1:=x6p q L (p - 1);have l2:=x6p q L p;have t:=y1m q hr p;have hud:=y7m q hv hl hL p;have h4:((hiL q L p).length +(loL q L p).length)*((hiL q L p).length +(loL q L p).length)≤400:=Nat.le_trans (Nat.mul_le_mul (Nat.le_trans t hl) (Nat.le_trans t hl)) (by decide);obtain ⟨m0,m1⟩:=u3x (w9k q hv p) (Nat.le_trans l2 hl);have n1:=Nat.le_trans f1.len (Nat.le_trans (Nat.mul_le_mul (Nat.le_trans l1 hl) (Nat.le_trans l1 hl)) (show 20*20≤400 by decide));have n2:=Nat.le_trans f2.len (Nat.le_trans (Nat.mul_le_mul (Nat.le_trans l2 hl) (Nat.le_trans l2 hl)) (show 20*20≤400 by decide));refine ⟨m1,m0,y8c .d n1 n2 f1.val f2.val f1.can f2.can (fun x=> ?_) ?_,y8c .d n2 n1 f2.val f1.val f2.can f1.can (fun x=> ?_) ?_⟩
 ·have:=f1.sec x;have:=f2.sec x;omega
 ·show (upF q L p).length ≤400;omega
 ·have:=f1.sec x;have:=f2.sec x;omega
 ·show (dnF q L p).length ≤400;omega
end
end Go.Am
namespace Go.Am
open Go.Proofs Go.Sort Go.Shelf Go.RowKit Go.Lib
def fcF (q:Ax) (s:Bool) (L:List R6) (p:Int):List R4:=match s with
 | true=>upF q L p
 | false=>dnF q L p
theorem y2f (q:Ax) (L:List R6):(plQ q L).Pairwise (· < ·):=by unfold plQ;rw [Uv];exact (Xd _).1
theorem y8g (q:Ax) (L:List R6) (p:Int):p∈plQ q L↔ ∃r∈L,p=q.lo r∨p=q.hi r:=by
 unfold plQ;rw [Uv,(Xd _).2 p];unfold z2g;constructor
 ·intro h;obtain ⟨r,hr,h⟩:=List.mem_flatMap.1 h;simp only [List.mem_cons,List.not_mem_nil,or_false] at h;exact ⟨r,hr,h⟩
 ·rintro ⟨r,hr,h⟩;exact List.mem_flatMap.2 ⟨r,hr,by simp only [List.mem_cons,List.not_mem_nil,or_false];exact h⟩
theorem x1x (E:Int→Int): ∀l:List Int,(∀p∈l,E p=0)→v4v E l=0
 | [],_=>rfl
 | p::l,h=>by unfold v4v;rw [h p (by simp)];exact x1x E l fun x hx=>h x (by simp [hx])
theorem w4j (a:Int): ∀P:List Int,P.Pairwise (· < ·)→(P.map fun p=>if a=p then 1 else 0).sum ≤1
 | [],_=>Nat.zero_le _
 | p::P,h=>by
  obtain ⟨h1,h2⟩:=List.pairwise_cons.1 h;rw [List.map_cons,List.sum_cons];by_cases e:a=p
  ·rw [if_pos e];have:(P.map fun p=>if a=p then 1 else 0)=P.map fun _=>0:=List.map_congr_left fun x hx=>by have:=h1 x hx;rw [if_neg (by omega)]
   rw [this];have: ∀l:List Int,(l.map fun _=>0).sum =0:=fun l=>by induction l with
    | nil=>rfl
    | cons _ _ ih=>rw [List.map_cons,List.sum_cons,ih]
   rw [this];exact Nat.le_refl _
  ·rw [if_neg e];have:=w4j a P h2;omega
theorem y1p (f:R6→Int) (P:List Int) (hP:P.Pairwise (· < ·)) (g:R6→R4): ∀L:List R6,(P.map fun p=>((L.filter fun r=>decide (f r=p)).map g).length).sum ≤L.length
 | []=>by
  have: ∀l:List Int,(l.map fun p=>((([]:List R6).filter fun r=>decide (f r=p)).map g).length).sum =0:=fun l=>by induction l with
   | nil=>rfl
   | cons _ _ ih=>rw [List.map_cons,List.sum_cons,ih];rfl
  rw [this];exact Nat.zero_le _
 | r::L=>by
  have ih:=y1p f P hP g L;have h1:=w4j (f r) P hP;have: ∀l:List Int,(l.map fun p=>(((r::L).filter fun r=>decide (f r=p)).map g).length).sum =(l.map fun p=>if f r=p then 1 else 0).sum +(l.map fun p=>((L.filter fun r=>decide (f r=p)).map g).length).sum :=fun l=>by
   induction l with
   | nil=>rfl
   | cons p l ih=>
    rw [List.map_cons,List.map_cons,List.map_cons,List.sum_cons,List.sum_cons,List.sum_cons,ih,List.filter_cons];by_cases e:f r=p
    ·rw [if_pos (decide_eq_true e),if_pos e,List.map_cons,List.length_cons];omega
    ·rw [if_neg (by simp [e]),if_neg e];omega
  rw [this,List.length_cons];omega
theorem y6t {α β:Type} {f g:α→List β}: ∀{l:List α},(∀a∈l,f a=g a)→l.flatMap f=l.flatMap g
 | [],_=>rfl
 | a::l,h=>by rw [List.flatMap_cons,List.flatMap_cons,h a (by simp),y6t fun x hx=>h x (by simp [hx])]
theorem z5d {α β:Type} (f:α→List β): ∀l:List α,(l.flatMap f).length =(l.map fun a=>(f a).length).sum
 | []=>rfl
 | a::l=>by rw [List.flatMap_cons,List.length_append,List.map_cons,List.sum_cons,z5d f l]
section
variable {L:List R6} (hv: ∀r∈L,z0h r=true) (hl:L.length≤20) (hL:L.Pairwise Ap6)
include hv hl hL
theorem x9a (q:Ax) (s:Bool) (p:Int) (hp: -1000000≤p∧p≤1000000):Ju q L p s=0∧Ui q L p s=fcF q s L p:=by
 have w:IntKind.wrap .i64 (p - 1)=p - 1:=Zq (by omega);obtain ⟨a1,a2,a3,a4⟩:=y6v q hv hl hL p;obtain ⟨b1,b2,_,_⟩:=y6v q hv hl hL (p - 1);have e:w3u q L p=0:=by unfold w3u Jj;rw [w,b1,a1];rfl
 unfold Ju Ui;rw [e,w];unfold Yn;rw [a2,b2];cases s with
 | true=>exact ⟨a3,by show Vy .d _ _=_;unfold Vy;rw [a3];rfl⟩
 | false=>exact ⟨a4,by show Vy .d _ _=_;unfold Vy;rw [a4];rfl⟩
theorem w6n (q:Ax) {p:Int} (h:p∈plQ q L): -1000000≤p∧p≤1000000:=by have _u:=hl;have _v:=hL;obtain ⟨r,hr,h⟩:=(y8g q L p).1 h;obtain ⟨_,h1,h2,h3⟩:=q.val (hv r hr);rcases h with rfl | rfl <;> omega
theorem w9j (q:Ax) (s:Bool):dM q s L=(plQ q L).flatMap fun p=>(fcF q s L p).map (qd q s p):=by unfold dM v0s;exact y6t fun p hp=>by rw [(x9a hv hl hL q s p (w6n hv hl hL q hp)).2]
theorem w9f (q:Ax) (s:Bool):z7j q s L=0:=x1x _ _ fun p hp=>(x9a hv hl hL q s p (w6n hv hl hL q hp)).1
theorem x6o (q:Ax):(dM q true L).length +(dM q false L).length ≤800:=by
 rw [w9j hv hl hL,w9j hv hl hL,z5d,z5d];have hr: ∀r∈L,q.lo r<q.hi r:=fun r h=>(q.val (hv r h)).2.1;have key: ∀P:List Int,(P.map fun p=>((fcF q true L p).map (qd q true p)).length).sum +(P.map fun p=>((fcF q false L p).map (qd q false p)).length).sum ≤20*((P.map fun p=>(hiL q L p).length).sum +(P.map fun p=>(loL q L p).length).sum):=fun P=>by
  induction P with
  | nil=>exact Nat.le_refl _
  | cons p P ih=>simp only [List.map_cons,List.sum_cons,List.length_map] at ih ⊢;have h1:=y7m q hv hl hL p;have h2:=Nat.le_trans (y1m q hr p) hl;have h3:=Nat.mul_le_mul_right ((hiL q L p).length +(loL q L p).length) h2;have e1:(fcF q true L p).length =(upF q L p).length :=rfl;have e2:(fcF q false L p).length =(dnF q L p).length :=rfl;omega
 have h1:=y1p q.hi (plQ q L) (y2f q L) q.rc L;have h2:=y1p q.lo (plQ q L) (y2f q L) q.rc L;have:=key (plQ q L);unfold hiL loL at this;omega
theorem y2n :v8u L=0∧(z0i L).length ≤2400:=by
 have h1:=x6o hv hl hL .x;have h2:=x6o hv hl hL .y;have h3:=x6o hv hl hL .z;have hn:(z0i L).length ≤2400:=by unfold z0i;simp only [List.length_append];omega
 refine ⟨?_,hn⟩;unfold v8u;simp only [w9f hv hl hL];rw [decide_eq_false (by omega)];rfl
end
theorem w6r {L:List R6} (h:Wn L=0) (hl:L.length≤20):z6k L=0∧Yq L=z0i L:=by obtain ⟨_,hv,_,hL⟩:=Wf h;have hz:=(y2n hv hl hL).1;unfold z6k Yq z2y Jv;rw [h,hz];exact ⟨rfl,rfl⟩
theorem u3t {L:List R6} (h:u3v L=true):L.length≤20∧Wn L=0:=by simp only [u3v,Bool.and_eq_true,decide_eq_true_eq] at h;exact ⟨by omega,(v5h L).trans (eq_of_beq h.2)⟩
end Go.Am
namespace Go.Am
open Go.Proofs Go.Sort Go.Shelf Go.RowKit Go.Lib
theorem w9l (L:List R6) (z:Int):z0y .z L z=D6.inn L z:=rfl
theorem y6c (L:List R6) (z u v:Int):ptL Wg.inB (D6.inn L z) (u,v)↔Ax.inL .z L z u v:=y3q .z L z u v
theorem x5v (k:Nat) {a b:List R4} (ha: ∀r∈a,Vw r=true) (hb: ∀r∈b,Vw r=true) (x:Int):(D4.inn (rgJ k a b) x).length ≤(D4.inn a x).length +(D4.inn b x).length :=by
 obtain ⟨j1,j2,_⟩:=Qj k ha hb;obtain ⟨s1,s2⟩:=z7m k (Vv ha x) (Vv hb x);have e:D4.inn (rgJ k a b) x=spJ k (D4.inn a x) (D4.inn b x):=y5k.uniq _ _ (y8y j1 x) s1 fun y=>by rw [s2];show pt (D4.inn (rgJ k a b) x) y↔_;rw [z4u,j2];have e1:decide (pt (D4.inn a x) y)=decide (ptL Wg.inB a (x,y)):=decide_eq_decide.2 (z4u a x y);have e2:decide (pt (D4.inn b x) y)=decide (ptL Wg.inB b (x,y)):=decide_eq_decide.2 (z4u b x y);rw [e1,e2]
 rw [e];exact z0k k (Vv ha x) (Vv hb x)
theorem x8i {l:List R4} (hl:l.length≤400) (hv: ∀r∈l,Vw r=true) (hc:Wg.can l):Xm l=0∧Zg l=l:=by obtain ⟨h1,h2⟩:=Qu hv hl;have e:D4.out l=l:=Wg.uniq _ _ h1 hc h2;obtain ⟨r0,r1⟩:=z5z hv hl (by rw [e];exact hl);exact ⟨r1,r0.trans e⟩
theorem u2i {A B:Prop} [Decidable A] [Decidable B]:opB 2 (decide A) (decide B)=true↔A∧ ¬B:=by simp [opB]
theorem opB1i {A B:Prop} [Decidable A] [Decidable B]:opB 1 (decide A) (decide B)=true↔A∧B:=by simp [opB]
theorem opB0i {A B:Prop} [Decidable A] [Decidable B]:opB 0 (decide A) (decide B)=true↔A∨B:=by simp [opB]
theorem v7p (q:Op) {a b:List R4} (h:rgE q a b=0):Vy q a b=rgJ q.k a b:=by unfold Vy;rw [h];rfl
section
variable {L:List R6} (h:Wn L=0) (hl:L.length≤20)
include h hl
theorem x1s {G:List (Qw R4)} (hG:z0z Wg G) (e:L=D6.flat G) {g:Qw R4} (hg:g∈G) {x:Int} (hx:g.a≤x∧x<g.b):D6.inn L x=g.s:=by
 have hc:=(Wf h).1;have _u:=hl;refine Wg.uniq _ _ (by rw [e];exact Dim.inn_can z2b Wg x G hG) (hG.all g hg).2.1 fun p=> ?_;rw [Dim.pt_inn (D:=D6) Wg.inB L x p,e,Dim.flat_pt z2b Wg G x p];constructor
 ·rintro ⟨k,hk,k1,k2,k3⟩;obtain ⟨i,hi,ei⟩:=List.getElem_of_mem hg;obtain ⟨j,hj,ej⟩:=List.getElem_of_mem hk;have pw:G.Pairwise fun g k=>g.b≤k.a:=by
   clear e hg hk hi hj ei ej
   induction G with
   | nil=>exact .nil
   | cons m r ih=>exact List.pairwise_cons.2 ⟨hG.later,ih hG.tail⟩
  have pw:=List.pairwise_iff_getElem.1 pw;rcases Nat.lt_trichotomy i j with q | q | q
  ·have:=pw i j hi hj q;rw [ei,ej] at this;omega
  ·subst q;rw [←ei,ej];exact k3
  ·have:=pw j i hj hi q;rw [ei,ej] at this;omega
 ·intro k3;exact ⟨g,hg,hx.1,hx.2,k3⟩
theorem v2z {z:Int} (hz:D6.inn L (z - 1)≠D6.inn L z) {r:R6} (hr:r∈L): ¬(r.c≤z - 1∧z<r.f):=fun hx=>by obtain ⟨G,hG,e⟩:=x3r h;rw [e] at hr;obtain ⟨g,hg,hr⟩:=List.mem_flatMap.1 hr;obtain ⟨b,_,rfl⟩:=List.mem_map.1 hr;have h1:g.a≤z - 1∧z<g.b:=hx;exact hz ((x1s h hl hG e hg ⟨by omega,by omega⟩).trans (x1s h hl hG e hg ⟨by omega,by omega⟩).symm)
theorem v0v {z:Int} (hz:D6.inn L (z - 1)≠D6.inn L z):(D6.inn L (z - 1)).length +(D6.inn L z).length ≤20:=by
 have hn: ∀r∈L,¬((decide (r.c≤z - 1)&&decide (z - 1<r.f))=true∧(decide (r.c≤z)&&decide (z<r.f))=true):=fun r hr hx=>by simp only [Bool.and_eq_true,decide_eq_true_eq] at hx;exact v2z h hl hz hr ⟨hx.1.1,hx.2.2⟩
 refine Nat.le_trans ?_ hl;show ((L.filter fun r=>decide (r.c≤z - 1)&&decide (z - 1<r.f)).map _).length +((L.filter fun r=>decide (r.c≤z)&&decide (z<r.f)).map _).length ≤_;rw [List.length_map,List.length_map];clear h hl hz
 induction L with
 | nil=>exact Nat.le_refl _
 | cons r l ih=>
  have ih:=ih fun s hs=>hn s (by simp [hs]);have:=hn r (by simp);rw [List.filter_cons,List.filter_cons];by_cases q1:(decide (r.c≤z - 1)&&decide (z - 1<r.f))=true
  ·rw [if_pos q1,if_neg fun q2=>this ⟨q1,q2⟩];simp only [List.length_cons];omega
  ·rw [if_neg q1];by_cases q2:(decide (r.c≤z)&&decide (z<r.f))=true
   ·rw [if_pos q2];simp only [List.length_cons];omega
   ·rw [if_neg q2];simp only [List.length_cons];omega
theorem u0u (z:Int):Wg.can (D6.inn L z)∧(∀r∈D6.inn L z,Vw r=true)∧(D6.inn L z).length ≤20∧D4.out (D6.inn L z)=D6.inn L z:=by
 obtain ⟨_,hv,_,_⟩:=Wf h;obtain ⟨G,hG,e⟩:=x3r h;have c:Wg.can (D6.inn L z):=by rw [e];exact Dim.inn_can z2b Wg z G hG
 have v:=y3w hv z;have n:=Nat.le_trans (D6.inn_length L z) hl;exact ⟨c,v,n,Wg.uniq _ _ (Qu v (by omega)).1 c (Qu v (by omega)).2⟩
theorem u4a (z:Int):upF .z L z=rgJ 2 (D6.inn L (z - 1)) (D6.inn L z)∧dnF .z L z=rgJ 2 (D6.inn L z) (D6.inn L (z - 1)):=by unfold upF dnF;rw [w9l,w9l,(u0u h hl z).2.2.2,(u0u h hl (z - 1)).2.2.2];exact ⟨rfl,rfl⟩
theorem step_z {z:Int} (hz:D6.inn L (z - 1)≠D6.inn L z):u5u (D6.inn L (z - 1)) (upF .z L z) (dnF .z L z)=false∧y8i (D6.inn L (z - 1)) (upF .z L z) (dnF .z L z)=D6.inn L z:=by
 obtain ⟨a1,a2,a3,_⟩:=u0u h hl (z - 1);obtain ⟨b1,b2,b3,_⟩:=u0u h hl z;have hs:=v0v h hl hz;obtain ⟨_,hv,_,hL⟩:=Wf h;obtain ⟨eu,ed⟩:=u4a h hl z;have hud:=y7m .z hv hl hL z;have hr: ∀r∈L,Ax.lo .z r<Ax.hi .z r:=fun r k=>(Ax.val .z (hv r k)).2.1;have ht:=Nat.le_trans (y1m .z hr z) hl;have h4:((hiL .z L z).length +(loL .z L z).length)*((hiL .z L z).length +(loL .z L z).length)≤400:=Nat.le_trans (Nat.mul_le_mul ht ht) (by decide);rw [eu,ed] at hud;rw [eu,ed];obtain ⟨u1,u2,_⟩:=Qj 2 a2 b2;obtain ⟨d1,d2,_⟩:=Qj 2 b2 a2;have uv: ∀r∈rgJ 2 (D6.inn L (z - 1)) (D6.inn L z),Vw r=true:=z3z u1 fun u v k=>by have:=(u2 (u,v)).1 k;simp only [opB,Bool.and_eq_true,decide_eq_true_eq] at this;exact z3j a2 this.1
 have dv: ∀r∈rgJ 2 (D6.inn L z) (D6.inn L (z - 1)),Vw r=true:=z3z d1 fun u v k=>by have:=(d2 (u,v)).1 k;simp only [opB,Bool.and_eq_true,decide_eq_true_eq] at this;exact z3j b2 this.1
 obtain ⟨m1,m0⟩:=x8i (l:=rgJ 2 (D6.inn L (z - 1)) (D6.inn L z)) (by omega) uv u1;obtain ⟨n1,n0⟩:=x8i (l:=rgJ 2 (D6.inn L z) (D6.inn L (z - 1))) (by omega) dv d1;obtain ⟨r1,r2,_⟩:=Qj 2 a2 uv;obtain ⟨c1,c2,c3⟩:=Qj 1 a2 b2;have er:rgJ 2 (D6.inn L (z - 1)) (rgJ 2 (D6.inn L (z - 1)) (D6.inn L z))=rgJ 1 (D6.inn L (z - 1)) (D6.inn L z):=Wg.uniq _ _ r1 c1 fun p=>by rw [r2,c2,u2i,opB1i,u2 p,u2i];by_cases g1:ptL Wg.inB (D6.inn L (z - 1)) p <;> by_cases g2:ptL Wg.inB (D6.inn L z) p <;> simp [g1,g2]
 have cl:(rgJ 1 (D6.inn L (z - 1)) (D6.inn L z)).length ≤400:=Nat.le_trans c3 (Nat.le_trans (Nat.mul_le_mul hs hs) (by decide));have i1: ∀x,(D4.inn (D6.inn L (z - 1)) x).length ≤20:=fun x=>Nat.le_trans (D4.inn_length _ x) a3;have i2: ∀x,(D4.inn (D6.inn L z) x).length ≤20:=fun x=>Nat.le_trans (D4.inn_length _ x) b3;have z1:rgE .d (D6.inn L (z - 1)) (rgJ 2 (D6.inn L (z - 1)) (D6.inn L z))=0:=y8c .d (by omega) (by omega) a2 uv a1 u1
  (fun x=>by have:=x5v 2 a2 b2 x;have:=i1 x;have:=i2 x;omega) (by
   show (rgJ 2 (D6.inn L (z - 1)) (rgJ 2 (D6.inn L (z - 1)) (D6.inn L z))).length ≤400;rw [er];exact cl)
 have v1:Vy .d (D6.inn L (z - 1)) (rgJ 2 (D6.inn L (z - 1)) (D6.inn L z))=rgJ 1 (D6.inn L (z - 1)) (D6.inn L z):=(v7p .d z1).trans er;have cv: ∀r∈rgJ 1 (D6.inn L (z - 1)) (D6.inn L z),Vw r=true:=z3z c1 fun u v k=>by have:=(c2 (u,v)).1 k;simp only [opB,Bool.and_eq_true,decide_eq_true_eq] at this;exact z3j a2 this.1
 obtain ⟨w1,w2,_⟩:=Qj 0 cv dv;have ew:rgJ 0 (rgJ 1 (D6.inn L (z - 1)) (D6.inn L z)) (rgJ 2 (D6.inn L z) (D6.inn L (z - 1)))=D6.inn L z:=Wg.uniq _ _ w1 b1 fun p=>by rw [w2,opB0i,c2 p,opB1i,d2 p,u2i];by_cases g1:ptL Wg.inB (D6.inn L (z - 1)) p <;> by_cases g2:ptL Wg.inB (D6.inn L z) p <;> simp [g1,g2]
 have z2:rgE .u (rgJ 1 (D6.inn L (z - 1)) (D6.inn L z)) (rgJ 2 (D6.inn L z) (D6.inn L (z - 1)))=0:=y8c .u cl (by omega) cv dv c1 d1
  (fun x=>by have:=x5v 1 a2 b2 x;have:=x5v 2 b2 a2 x;have:=i1 x;have:=i2 x;omega) (by
   show (rgJ 0 (rgJ 1 (D6.inn L (z - 1)) (D6.inn L z)) (rgJ 2 (D6.inn L z) (D6.inn L (z - 1)))).length ≤400;rw [ew];omega)
 unfold u5u y8i;rw [m1,n1,m0,n0,z1,v1,z2];exact ⟨rfl,(v7p .u z2).trans ew⟩
end
end Go.Am
namespace Go.Am
open Go.Proofs Go.Sort Go.Shelf Go.RowKit Go.Lib
theorem zQ_nil {d:Int} {l:List R7} (z:Int) (h: ∀r∈l,r.a≠d):zQ d l z=[]:=by unfold zQ;rw [List.map_eq_nil_iff,List.filter_eq_nil_iff];intro r hr hq;simp only [Bool.and_eq_true,decide_eq_true_eq] at hq;exact h r hr hq.1
theorem v5s (s:Bool) (p:Int) (l:List R4) (z:Int):zQ (match s with | true=>4 | false=>5) (l.map (qd .z s p)) z=if p=z then l else []:=by
 induction l with
 | nil=>cases s <;> (by_cases e:p=z <;> simp [e,zQ])
 | cons r l ih=>
  rw [List.map_cons,show qd .z s p r::l.map (qd .z s p)=[qd .z s p r]++l.map (qd .z s p) from rfl,Wa,ih];by_cases e:p=z
  ·rw [if_pos e,if_pos e];cases s <;> simp [zQ,qd,e]
  ·rw [if_neg e,if_neg e,List.append_nil];cases s <;> simp [zQ,qd,e]
theorem x2y (s:Bool) (F:Int→List R4) (z:Int): ∀P:List Int,P.Pairwise (· < ·)→(z ∉ P→F z=[])→zQ (match s with | true=>4 | false=>5) (P.flatMap fun p=>(F p).map (qd .z s p)) z=F z
 | [],_,h=>by rw [h (by simp)];cases s <;> rfl
 | p::P,hP,h=>by
  obtain ⟨h1,h2⟩:=List.pairwise_cons.1 hP;rw [List.flatMap_cons,Wa,v5s];by_cases e:p=z
  ·subst e;rw [if_pos rfl];have: ∀Q:List Int,(∀x∈Q,p<x)→zQ (match s with | true=>4 | false=>5) (Q.flatMap fun p=>(F p).map (qd .z s p)) p=[]:=fun Q=>by
    induction Q with
    | nil=>intro _;cases s <;> rfl
    | cons x Q ih=>intro hx;rw [List.flatMap_cons,Wa,v5s,if_neg (by have:=hx x (by simp);omega),ih fun y hy=>hx y (by simp [hy])];rfl
   rw [this P h1,List.append_nil]
  ·rw [if_neg e,List.nil_append];exact x2y s F z P h2 fun hn=>h (by simp [hn,Ne.symm e])
theorem qd_a (q:Ax) (s:Bool) (p:Int) (t:R4):(qd q s p t).a =2*q.ix+sdI s:=by cases q <;> cases s <;> rfl
theorem dM_a {q:Ax} {s:Bool} {L:List R6} {r:R7} (h:r∈dM q s L):r.a=2*q.ix+sdI s:=by obtain ⟨p,_,h⟩:=List.mem_flatMap.1 h;obtain ⟨t,_,rfl⟩:=List.mem_map.1 h;exact qd_a q s p t
section
variable {L:List R6} (h:Wn L=0) (hl:L.length≤20)
include h hl
theorem w6u (q:Ax) {p:Int} (hp:p ∉ plQ q L):upF q L p=[]∧dnF q L p=[]:=by
 obtain ⟨_,hv,_,hL⟩:=Wf h;have hr: ∀r∈L,q.lo r<q.hi r:=fun r k=>(q.val (hv r k)).2.1;obtain ⟨u1,u2⟩:=y1l q hv hl p;obtain ⟨d1,d2⟩:=y3n q hv hl p;constructor
 ·refine z0p Wg u1 fun ⟨u,v⟩ k=> ?_;have:=(y7n q hL hr p u v).1 ((u2 u v).1 k);obtain ⟨r,hr,e,_⟩:=(w8d q L p u v).1 this.1;exact hp ((y8g q L p).2 ⟨r,hr,.inr e.symm⟩)
 ·refine z0p Wg d1 fun ⟨u,v⟩ k=> ?_;have:=(z8i q hL hr p u v).1 ((d2 u v).1 k);obtain ⟨r,hr,e,_⟩:=(w7s q L p u v).1 this.1;exact hp ((y8g q L p).2 ⟨r,hr,.inl e.symm⟩)
theorem y1k (z:Int):zQ 4 (z0i L) z=upF .z L z∧zQ 5 (z0i L) z=dnF .z L z:=by
 obtain ⟨_,hv,_,hL⟩:=Wf h;have f4:=x2y true (fcF .z true L) z (plQ .z L) (y2f .z L) fun hn=>(w6u h hl .z hn).1;have f5:=x2y false (fcF .z false L) z (plQ .z L) (y2f .z L) fun hn=>(w6u h hl .z hn).2;rw [←w9j hv hl hL] at f4 f5;have no: ∀(d:Int) (q:Ax) (s:Bool),d≠2*q.ix+sdI s→zQ d (dM q s L) z=[]:=fun d q s hd=>zQ_nil z fun r hr e=>hd (e ▸ dM_a hr);unfold z0i;constructor
 ·rw [Wa,Wa,Wa,Wa,Wa,no 4 .x true (by decide),no 4 .x false (by decide),no 4 .y true (by decide),no 4 .y false (by decide),no 4 .z false (by decide),List.append_nil];exact f4
 ·rw [Wa,Wa,Wa,Wa,Wa,no 5 .x true (by decide),no 5 .x false (by decide),no 5 .y true (by decide),no 5 .y false (by decide),no 5 .z true (by decide)];exact f5
theorem x4u (z:Int):z∈plZ (z0i L)↔D6.inn L (z - 1)≠D6.inn L z:=by
 obtain ⟨_,hv,_,hL⟩:=Wf h;obtain ⟨u1,u2⟩:=y1l .z hv hl z;obtain ⟨d1,d2⟩:=y3n .z hv hl z;have hm:z∈plZ (z0i L)↔upF .z L z≠ []∨dnF .z L z≠ []:=by
  unfold plZ;rw [Uv,(Xd _).2 z];unfold zsQ;constructor
  ·intro k;obtain ⟨r,hr,e⟩:=List.mem_map.1 k;obtain ⟨hr,ha⟩:=List.mem_filter.1 hr;have ha:=of_decide_eq_true ha;have key:r.a=4∨r.a=5:=by
    unfold z0i at hr;simp only [List.mem_append] at hr;rcases hr with ((((hr | hr) | hr) | hr) | hr) | hr <;> have e:=dM_a hr
    ·have e:r.a=0:=e;omega
    ·have e:r.a=1:=e;omega
    ·have e:r.a=2:=e;omega
    ·have e:r.a=3:=e;omega
    ·exact .inl e
    ·exact .inr e
   have me: ∀d,r.a=d→zQ d (z0i L) z≠ []:=fun d hd hn=>by unfold zQ at hn;rw [List.map_eq_nil_iff,List.filter_eq_nil_iff] at hn;exact hn r hr (by simp [hd,e])
   rcases key with e4 | e5
   ·exact .inl (by rw [←(y1k h hl z).1];exact me 4 e4)
   ·exact .inr (by rw [←(y1k h hl z).2];exact me 5 e5)
  ·intro k;have me: ∀d,4≤d→zQ d (z0i L) z≠ []→z∈((z0i L).filter fun r=>decide (4≤r.a)).map (·.d):=fun d hd hn=>by obtain ⟨t,ht⟩:=List.exists_mem_of_ne_nil _ hn;obtain ⟨r,hr,_⟩:=List.mem_map.1 ht;obtain ⟨hr,hq⟩:=List.mem_filter.1 hr;simp only [Bool.and_eq_true,decide_eq_true_eq] at hq;exact List.mem_map.2 ⟨r,List.mem_filter.2 ⟨hr,decide_eq_true (by omega)⟩,hq.2⟩
   rcases k with k | k
   ·exact me 4 (by decide) (by rw [(y1k h hl z).1];exact k)
   ·exact me 5 (by decide) (by rw [(y1k h hl z).2];exact k)
 rw [hm];constructor
 ·rintro hk e;rcases hk with hk | hk
  ·refine hk (z0p Wg u1 fun ⟨u,v⟩ k=> ?_);have k:=(u2 u v).1 k;rw [←y6c,←y6c,e] at k;exact k.2 k.1
  ·refine hk (z0p Wg d1 fun ⟨u,v⟩ k=> ?_);have k:=(d2 u v).1 k;rw [←y6c,←y6c,e] at k;exact k.2 k.1
 ·intro hn;refine Classical.byContradiction fun hk=>hn ?_;rw [not_or,Decidable.not_not,Decidable.not_not] at hk;refine Wg.uniq _ _ (u0u h hl (z - 1)).1 (u0u h hl z).1 fun ⟨u,v⟩=> ?_;rw [y6c,y6c];have a:=u2 u v;have b:=d2 u v;rw [hk.1] at a;rw [hk.2] at b;have a: ¬(Ax.inL .z L (z - 1) u v∧ ¬Ax.inL .z L z u v):=fun k=>z2s _ _ (a.2 k);have b: ¬(Ax.inL .z L z u v∧ ¬Ax.inL .z L (z - 1) u v):=fun k=>z2s _ _ (b.2 k);exact ⟨fun k=>Classical.byContradiction fun m=>a ⟨k,m⟩,fun k=>Classical.byContradiction fun m=>b ⟨k,m⟩⟩
theorem far {x:Int} (hx:x< -1000000∨1000000≤x):D6.inn L x=[]:=by have _u:=hl;obtain ⟨_,hv,_,_⟩:=Wf h;show (L.filter _).map _=[];rw [List.map_eq_nil_iff,List.filter_eq_nil_iff];intro r hr hq;have:=z5o (hv r hr);simp only [Bool.and_eq_true,decide_eq_true_eq] at hq;have h1:r.c≤x:=hq.1;have h2:x<r.f:=hq.2;omega
end
theorem const (S:Int→List R4) (a:Int): ∀n:Nat,(∀x,a<x→x≤a+n→S (x - 1)=S x)→S (a+n)=S a
 | 0,_=>by rw [show a+((0:Nat):Int)=a by omega]
 | n+1,h=>by
  have:=const S a n fun x h1 h2=>h x h1 (by omega);rw [←this,←h (a+((n+1:Nat):Int)) (by omega) (Int.le_refl _)]
  congr 1;omega
theorem const' (S:Int→List R4) {a b:Int} (hab:a≤b) (h: ∀x,a<x→x≤b→S (x - 1)=S x):S b=S a:=by have:=const S a (b - a).toNat fun x h1 h2=>h x h1 (by omega);rw [show a+((b - a).toNat :Int)=b by omega] at this;exact this
structure Chg (S:Int→List R4) (r:List Int) (lo:Int):Prop where
 asc:r.Pairwise (· < ·)
 low: ∀z∈r,lo≤z
 ne: ∀z∈r,S (z - 1)≠S z
 all: ∀x,lo≤x→S (x - 1)≠S x→x∈r
theorem Chg.tail {S:Int→List R4} {z lo:Int} {r:List Int} (h:Chg S (z::r) lo):Chg S r (z+1):=by
 obtain ⟨h1,h2⟩:=List.pairwise_cons.1 h.asc;refine ⟨h2,fun x hx=>by have:=h1 x hx;omega,fun x hx=>h.ne x (by simp [hx]),fun x hx hn=> ?_⟩;have:=h.low z (by simp);rcases List.mem_cons.1 (h.all x (by omega) hn) with e | e
 ·omega
 ·exact e
theorem Chg.flat {S:Int→List R4} {lo:Int} {r:List Int} (h:Chg S r lo) {x:Int} (hx:lo - 1≤x) (hr: ∀z∈r,x<z):S x=S (lo - 1):=
 const' S hx fun y h1 h2=>Classical.byContradiction fun hn=>by have:=hr y (h.all y (by omega) hn);omega
def bxs (S:Int→List R4):List Int→List R6
 | []=>[]
 | z::r=>(match r with
  | []=>[]
  | z'::_=>(S z).map (pz6 z z'))++bxs S r
def gbs (S:Int→List R4):List Int→List (Qw R4)
 | []=>[]
 | z::r=>(match r with
  | []=>[]
  | z'::_=>match S z with
   | []=>[]
   | t::s=>[⟨z,z',t::s⟩])++gbs S r
theorem x9s (S:Int→List R4): ∀r,D6.flat (gbs S r)=bxs S r
 | []=>rfl
 | [z]=>rfl
 | z::z'::r=>by
  have ih:=x9s S (z'::r);show D6.flat ((match S z with | []=>[] | t::s=>[⟨z,z',t::s⟩])++gbs S (z'::r))=(S z).map (pz6 z z')++bxs S (z'::r);rw [D6.flat_append,ih]
  congr 1
  cases S z with
  | nil=>rfl
  | cons t s=>exact D6.flat_one _
theorem y8z (S:Int→List R4): ∀(r:List Int) (lo:Int),Chg S r lo→ ∀g∈gbs S r,g.a∈r∧g.a<g.b∧g.s=S g.a∧g.s≠ []∧ ∀x,g.a≤x→x<g.b→S x=g.s
 | [],_,_,g,hg=>by cases hg
 | [z],_,_,g,hg=>by cases hg
 | z ::z'::r,lo,h,g,hg=>by
  have ht:=h.tail;rcases List.mem_append.1 hg with hg | hg
  ·have hz:=ht.low z' (by simp);have ht2:=(List.pairwise_cons.1 ht.asc).1;have cst: ∀x,z≤x→x<z'→S x=S z:=fun x h1 h2=>by
    have:=ht.flat (x:=x) (by omega) fun y hy=>by
     rcases List.mem_cons.1 hy with rfl | hy
     ·exact h2
     ·have:=ht2 y hy;omega
    rw [this,show z+1 - 1=z by omega]
   have hg:g∈(match S z with | []=>[] | t::s=>[(⟨z,z',t::s⟩:Qw R4)]):=hg;cases e:S z with
   | nil=>rw [e] at hg;cases hg
   | cons t s=>rw [e] at hg;obtain rfl:=List.mem_singleton.1 hg;exact ⟨by simp,by show z<z';omega,e.symm,by simp,fun x h1 h2=>(cst x h1 h2).trans e⟩
  ·obtain ⟨g1,g2⟩:=y8z S (z'::r) (z+1) ht g hg;exact ⟨by simp only [List.mem_cons] at g1 ⊢;exact .inr g1,g2⟩
theorem w8j (S:Int→List R4) (hS: ∀x,Wg.can (S x)): ∀(r:List Int) (lo:Int),Chg S r lo→z0z Wg (gbs S r)
 | [],_,_=>.nil
 | [z],_,_=>.nil
 | z ::z'::r,lo,h=>by
  have ht:=h.tail;have ih:=w8j S hS (z'::r) (z+1) ht;have hz:=ht.low z' (by simp);have ht2:=(List.pairwise_cons.1 ht.asc).1;show z0z Wg ((match S z with | []=>[] | t::s=>[⟨z,z',t::s⟩])++gbs S (z'::r));cases e:S z with
  | nil=>exact ih
  | cons t s=>
   have ok:OkS Wg (⟨z,z',t::s⟩:Qw R4):=⟨by show z<z';omega,by show Wg.can (t::s);rw [←e];exact hS z,by simp⟩
   cases eg:gbs S (z'::r) with
   | nil=>exact .one _ ok
   | cons k G=>
    rw [eg] at ih;obtain ⟨m1,_,m3,_⟩:=y8z S (z'::r) (z+1) ht k (by rw [eg];simp);refine .cons _ k G ok ⟨?_,fun eb es=> ?_⟩ ih
    ·show z'≤k.a;rcases List.mem_cons.1 m1 with e | e
     ·omega
     ·have:=ht2 _ e;omega
    ·have eb:z'=k.a:=eb;have es:t::s=k.s:=es;have c:=ht.flat (x:=z' - 1) (by omega) fun y hy=>by
      rcases List.mem_cons.1 hy with rfl | hy
      ·omega
      ·have:=ht2 y hy;omega
     refine ht.ne z' (by simp) ?_;rw [c,show z+1 - 1=z by omega,e,es,m3,←eb]
theorem w8i (S:Int→List R4) (hf: ∀x,1000000≤x→S x=[]): ∀(r:List Int) (lo:Int),Chg S r lo→S (lo - 1)=[]→ ∀x,S x≠ []→lo≤x→ ∃g∈gbs S r,g.a≤x∧x<g.b
 | [],lo,h,h0,x,hx,hlo=>by refine (hx ?_).elim;rw [h.flat (by omega) (by simp),h0]
 | [z],lo,h,h0,x,hx,hlo=>by
  have hz:=h.low z (by simp);by_cases q:x<z
  ·refine (hx ?_).elim;rw [h.flat (by omega) (by simpa using q),h0]
  ·refine (hx ?_).elim;have ht:=h.tail;have e1:=ht.flat (x:=x) (by omega) (by simp);have e2:=ht.flat (x:=x+2000000+z.natAbs) (by omega) (by simp);rw [e1,←e2];exact hf _ (by omega)
 | z ::z'::r,lo,h,h0,x,hx,hlo=>by
  have ht:=h.tail;have hz:=h.low z (by simp);have hz':=ht.low z' (by simp);have ht2:=(List.pairwise_cons.1 ht.asc).1;by_cases q:x<z
  ·refine (hx ?_).elim;rw [h.flat (by omega) fun y hy=>by
    rcases List.mem_cons.1 hy with rfl | hy
    ·exact q
    ·have:=(List.pairwise_cons.1 h.asc).1 y hy;omega,h0]
  by_cases q2:x<z'
  ·have c:S x=S z:=by
    have:=ht.flat (x:=x) (by omega) fun y hy=>by
     rcases List.mem_cons.1 hy with rfl | hy
     ·exact q2
     ·have:=ht2 y hy;omega
    rw [this,show z+1 - 1=z by omega]
   cases e:S z with
   | nil=>exact (hx (c.trans e)).elim
   | cons t s=>refine ⟨⟨z,z',t::s⟩,?_,by show z≤x;omega,q2⟩;show _∈(match S z with | []=>[] | t::s=>[⟨z,z',t::s⟩])++gbs S (z'::r);rw [e];simp
  ·have go: ∃g∈gbs S (z'::r),g.a≤x∧x<g.b:=by
    by_cases hS:S z=[]
    ·exact w8i S hf (z'::r) (z+1) ht (by rw [show z+1 - 1=z by omega];exact hS) x hx (by omega)
    ·-- the section before z' is not empty: start at z'
     exact gbs_hit2 S hf z' r ((z+1)) ht x hx (by omega)
   obtain ⟨g,hg,hh⟩:=go;exact ⟨g,List.mem_append.2 (.inr hg),hh⟩
where
 gbs_hit2 (S:Int→List R4) (hf: ∀x,1000000≤x→S x=[]) (z':Int): ∀(r:List Int) (lo:Int),Chg S (z'::r) lo→ ∀x,S x≠ []→z'≤x→ ∃g∈gbs S (z'::r),g.a≤x∧x<g.b
  | [],lo,h,x,hx,hlo=>by refine (hx ?_).elim;have ht:=h.tail;have e1:=ht.flat (x:=x) (by omega) (by simp);have e2:=ht.flat (x:=x+2000000+z'.natAbs) (by omega) (by simp);rw [e1,←e2];exact hf _ (by omega)
  | z2::r,lo,h,x,hx,hlo=>by
   have ht:=h.tail;have hz':=ht.low z2 (by simp);have ht2:=(List.pairwise_cons.1 ht.asc).1;by_cases q2:x<z2
   ·have c:S x=S z':=by
     have:=ht.flat (x:=x) (by omega) fun y hy=>by
      rcases List.mem_cons.1 hy with rfl | hy
      ·exact q2
      ·have:=ht2 y hy;omega
     rw [this,show z'+1 - 1=z' by omega]
    cases e:S z' with
    | nil=>exact (hx (c.trans e)).elim
    | cons t s=>refine ⟨⟨z',z2,t::s⟩,?_,by show z'≤x;omega,q2⟩;show _∈(match S z' with | []=>[] | t::s=>[⟨z',z2,t::s⟩])++gbs S (z2::r);rw [e];simp
   ·obtain ⟨g,hg,hh⟩:=gbs_hit2 S hf z2 r (z'+1) ht x hx (by omega);exact ⟨g,List.mem_append.2 (.inr hg),hh⟩
end Go.Am
namespace Go.Am
open Go.Proofs Go.Sort Go.Shelf Go.RowKit Go.Lib
theorem z8g {x y z:Int} (hx: -1000000≤x∧x≤1000000) (hy: -1000000≤y∧y≤1000000) (hz: -1000000≤z∧z≤1000000):w8r x y z=true:=by
 unfold w8r;rw [Bool.and_eq_true,decide_eq_true_eq,decide_eq_true_eq];unfold z5a z5b;constructor
 ·(repeat' split) <;> omega
 ·(repeat' split) <;> omega
theorem v9y (q:Ax) (s:Bool) {p:Int} (hp: -1000000≤p∧p≤1000000) {t:R4} (ht:Vw t=true):w4f (qd q s p t)=true:=by
 simp only [Vw,Bool.and_eq_true,decide_eq_true_eq] at ht;have bb: ∀{x:Int},(-1000000≤x∧x≤1000000)→(-1000000≤x∧x≤1000000):=fun h=>h;have ha: -1000000≤t.a∧t.a≤1000000:=by omega
 have hb: -1000000≤t.b∧t.b≤1000000:=by omega
 have hc: -1000000≤t.c∧t.c≤1000000:=by omega
 have hd: -1000000≤t.d∧t.d≤1000000:=by omega
 have h1:decide (t.a<t.c)=true:=decide_eq_true (by omega);have h2:decide (t.b<t.d)=true:=decide_eq_true (by omega);have hq:(p == p)=true:=by simp
 cases q <;> cases s <;> unfold w4f qd <;> simp only [z8g hp ha hb,z8g hp hc hd,z8g ha hp hb,z8g hc hp hd,z8g ha hb hp,z8g hc hd hp,h1,h2,hq] <;> rfl
section
variable {L:List R6} (h:Wn L=0) (hl:L.length≤20)
include h hl
theorem u3z (q:Ax) (s:Bool) (p:Int): ∀t∈fcF q s L p,Vw t=true:=by
 obtain ⟨_,hv,_,hL⟩:=Wf h;have f1:=fw q hv hl (p - 1);have f2:=fw q hv hl p;cases s with
 | true=>obtain ⟨u1,u2⟩:=y1l q hv hl p;refine z3z u1 fun u v k=> ?_;have:=((u2 u v).1 k).1;rw [←y3q,←f1.pts] at this;exact z3j f1.val this
 | false=>obtain ⟨u1,u2⟩:=y3n q hv hl p;refine z3z u1 fun u v k=> ?_;have:=((u2 u v).1 k).1;rw [←y3q,←f2.pts] at this;exact z3j f2.val this
theorem x9b {r:R7} (hr:r∈z0i L): ∃q s p t,p∈plQ q L∧t∈fcF q s L p∧r=qd q s p t:=by
 obtain ⟨_,hv,_,hL⟩:=Wf h;have go: ∀q s,r∈dM q s L→ ∃q s p t,p∈plQ q L∧t∈fcF q s L p∧r=qd q s p t:=fun q s k=>by rw [w9j hv hl hL] at k;obtain ⟨p,hp,k⟩:=List.mem_flatMap.1 k;obtain ⟨t,ht,rfl⟩:=List.mem_map.1 k;exact ⟨q,s,p,t,hp,ht,rfl⟩
 unfold z0i at hr;simp only [List.mem_append] at hr;rcases hr with ((((hr | hr) | hr) | hr) | hr) | hr
 ·exact go _ _ hr
 ·exact go _ _ hr
 ·exact go _ _ hr
 ·exact go _ _ hr
 ·exact go _ _ hr
 ·exact go _ _ hr
theorem z7y :x9c (z0i L)=0∧Kj (z0i L)=true:=by
 obtain ⟨_,hv,_,hL⟩:=Wf h;have hn:=(y2n hv hl hL).2;constructor
 ·unfold x9c;rw [decide_eq_false (by omega),List.all_eq_true.2 fun r hr=> ?_];rfl;obtain ⟨q,s,p,t,hp,ht,rfl⟩:=x9b h hl hr;exact v9y q s (w6n hv hl hL q hp) (u3z h hl q s p t ht)
 ·refine List.all_eq_true.2 fun r hr=> ?_;obtain ⟨q,s,p,t,hp,ht,rfl⟩:=x9b h hl hr;rw [qd_a];cases q <;> cases s <;> rfl
theorem x9y :Chg (D6.inn L) (plZ (z0i L)) (-1000000):=by refine ⟨by unfold plZ;rw [Uv];exact (Xd _).1,fun z hz=> ?_,fun z hz=>(x4u h hl z).1 hz,fun x _ hn=>(x4u h hl x).2 hn⟩;refine Classical.byContradiction fun hn=>(x4u h hl z).1 hz ?_;rw [far h hl (.inl (by omega)),far h hl (.inl (by omega))]
theorem v9f : ∀(r:List Int) (lo:Int) (bx:List R6),Chg (D6.inn L) r lo→goP (z0i L) r (D6.inn L (lo - 1)) bx=some (bx++bxs (D6.inn L) r)
 | [],lo,bx,_=>by simp [goP,bxs]
 | z::r,lo,bx,c=>by
  have hz:=c.low z (by simp);have hc:=(List.pairwise_cons.1 c.asc).1;have e:D6.inn L (lo - 1)=D6.inn L (z - 1):=(c.flat (x:=z - 1) (by omega) fun y hy=>by
   rcases List.mem_cons.1 hy with rfl | hy
   ·omega
   ·have:=hc y hy;omega).symm
  obtain ⟨s1,s2⟩:=step_z h hl (c.ne z (by simp));obtain ⟨q4,q5⟩:=y1k h hl z;have ih:=fun b=>v9f r (z+1) b c.tail;rw [show z+1 - 1=z by omega] at ih;rw [e];unfold goP;rw [q4,q5,s1,cond_false,s2,ih,List.append_assoc];rfl
theorem v5k :bxs (D6.inn L) (plZ (z0i L))=L:=by
 have c:=x9y h hl;have hS: ∀x,Wg.can (D6.inn L x):=fun x=>(u0u h hl x).1;have hf: ∀x,1000000≤x→D6.inn L x=[]:=fun x hx=>far h hl (.inr hx);have hg:=w8j (D6.inn L) hS _ _ c;rw [←x9s];refine x7x.uniq _ _ ⟨_,hg,rfl⟩ (x3r h) fun ⟨x,p⟩=> ?_;rw [show ptL x7x.inB (D6.flat (gbs (D6.inn L) (plZ (z0i L)))) (x,p)↔_ from Dim.flat_pt z2b Wg _ x p,show ptL x7x.inB L (x,p)↔_ from (Dim.pt_inn (D:=D6) Wg.inB L x p).symm];constructor
 ·rintro ⟨g,hg,g1,g2,g3⟩;obtain ⟨_,_,_,_,m⟩:=y8z (D6.inn L) _ _ c g hg;rw [m x g1 g2];exact g3
 ·intro k;have hx:D6.inn L x≠ []:=fun e=>by rw [e] at k;exact z2s _ _ k
  have hlo: -1000000≤x:=Classical.byContradiction fun hn=>hx (far h hl (.inl (by omega)));obtain ⟨g,hg,g1,g2⟩:=w8i (D6.inn L) hf _ _ c (far h hl (.inl (by omega))) x hx hlo;obtain ⟨_,_,_,_,m⟩:=y8z (D6.inn L) _ _ c g hg;exact ⟨g,hg,g1,g2,by rw [←m x g1 g2];exact k⟩
theorem back :y6j (z0i L)=0∧Ja (z0i L)=L:=by
 obtain ⟨_,hv,_,hL⟩:=Wf h;have hc:=(z7y h hl).1;have hg:goP (z0i L) (plZ (z0i L)) [] []=some L:=by have:=v9f h hl (plZ (z0i L)) (-1000000) [] (x9y h hl);rw [far h hl (.inl (by omega)),v5k h hl] at this;exact this
 obtain ⟨m1,m0⟩:=x7w h;have hz:=(y2n hv hl hL).1;have e:msoE (z0i L)=0:=by unfold msoE;rw [hc,hg];show finE (z0i L) L=0;unfold finE z2y Jv;rw [m1,m0,hz,show y5r (y9b 0 (z0i L)) (z0i L)=true from decide_eq_true rfl];rfl
 refine ⟨e,?_⟩;unfold Ja msoL;rw [e,hg];show Xi L=L;exact m0
end
end Go.Am
namespace Go.Am
open Go.Proofs.Tryz
open Go.Proofs Go.Sort Go.Shelf Go.RowKit Go.Lib
def one1 :List R6:=[⟨0,0,0,2,1,1⟩]
theorem y7t :Wn one1=0:=by refine x7z (by decide) ?_ ⟨[⟨0,1,[⟨0,0,2,1⟩]⟩],.one _ ⟨by decide,⟨[⟨0,2,[⟨0,1⟩]⟩],.one _ ⟨by decide,can1 0 1 (by decide),by simp⟩,rfl⟩,by simp⟩,rfl⟩;intro r hr;obtain rfl:=List.mem_singleton.1 hr;rfl
theorem can2 (r:R4) (h1:r.a<r.c) (h2:r.b<r.d):Wg.can [r]:=⟨[⟨r.a,r.c,[⟨r.b,r.d⟩]⟩],.one _ ⟨h1,can1 _ _ h2,by simp⟩,rfl⟩
theorem z7c (q:Ax) {r:R6} (hr:z0h r=true) (p:Int):upF q [r] p=(if p=q.hi r then [q.rc r] else [])∧dnF q [r] p=(if p=q.lo r then [q.rc r] else []):=by
 have hv: ∀s∈ [r],z0h s=true:=fun s hs=>by rw [List.mem_singleton.1 hs];exact hr
 have hL: [r].Pairwise Ap6:=by simp
 have hlt: ∀s∈ [r],q.lo s<q.hi s:=fun s hs=>(q.val (hv s hs)).2.1;obtain ⟨u1,u2⟩:=y1l q hv (by simp) p;obtain ⟨d1,d2⟩:=y3n q hv (by simp) p;have hlo:=hlt r (by simp);have c:Wg.can [q.rc r]:=by have:=(q.val hr).1;simp only [Vw,Bool.and_eq_true,decide_eq_true_eq] at this;exact can2 _ this.1 this.2.1
 have ci: ∀P:Prop,∀i:Decidable P,Wg.can (@ite _ P i [q.rc r] []):=fun P i=>by
  by_cases h:P
  ·rw [if_pos h];exact c
  ·rw [if_neg h];exact Wg.nil
 constructor
 ·refine Wg.uniq _ _ u1 (ci _ _) fun ⟨u,v⟩=> ?_;rw [u2,y7n q hL hlt,w8d,w7s,v7z];by_cases e:p=q.hi r
  ·rw [if_pos e];constructor
   ·rintro ⟨⟨s,hs,_,k⟩,_⟩;rw [List.mem_singleton.1 hs] at k;exact ⟨_,by simp,k⟩
   ·rintro ⟨s,hs,k⟩;rw [List.mem_singleton.1 hs] at k;refine ⟨⟨r,by simp,e.symm,k⟩,?_⟩;rintro ⟨s,hs,e2,_⟩;rw [List.mem_singleton.1 hs] at e2;omega
  ·rw [if_neg e];constructor
   ·rintro ⟨⟨s,hs,e2,_⟩,_⟩;rw [List.mem_singleton.1 hs] at e2;exact (e e2.symm).elim
   ·rintro ⟨s,hs,_⟩;cases hs
 ·refine Wg.uniq _ _ d1 (ci _ _) fun ⟨u,v⟩=> ?_;rw [d2,z8i q hL hlt,w8d,w7s,v7z];by_cases e:p=q.lo r
  ·rw [if_pos e];constructor
   ·rintro ⟨⟨s,hs,_,k⟩,_⟩;rw [List.mem_singleton.1 hs] at k;exact ⟨_,by simp,k⟩
   ·rintro ⟨s,hs,k⟩;rw [List.mem_singleton.1 hs] at k;refine ⟨⟨r,by simp,e.symm,k⟩,?_⟩;rintro ⟨s,hs,e2,_⟩;rw [List.mem_singleton.1 hs] at e2;omega
  ·rw [if_neg e];constructor
   ·rintro ⟨⟨s,hs,e2,_⟩,_⟩;rw [List.mem_singleton.1 hs] at e2;exact (e e2.symm).elim
   ·rintro ⟨s,hs,_⟩;cases hs
theorem pl_one (q:Ax) (r:R6) (h:q.lo r<q.hi r):plQ q [r]=[q.lo r,q.hi r]:=z8m _ _ (y2f q _) (by simp [h]) fun x=>by rw [y8g];simp
theorem v3m :z0i one1=[⟨0,2,0,0,2,1,1⟩,⟨1,0,0,0,0,1,1⟩,⟨2,0,1,0,2,1,1⟩,⟨3,0,0,0,2,0,1⟩,⟨4,0,0,1,2,1,1⟩,⟨5,0,0,0,2,1,0⟩]:=by
 obtain ⟨_,hv,_,hL⟩:=Wf y7t;have hr:=hv ⟨0,0,0,2,1,1⟩ (by simp [one1]);have up: ∀(q:Ax) (s:Bool),dM q s one1=[match s with | true=>qd q true (q.hi ⟨0,0,0,2,1,1⟩) (q.rc ⟨0,0,0,2,1,1⟩) | false=>qd q false (q.lo ⟨0,0,0,2,1,1⟩) (q.rc ⟨0,0,0,2,1,1⟩)]:=fun q s=>by
  have hlt:=(q.val hr).2.1;rw [w9j hv (by decide) hL,show plQ q one1=_ from pl_one q _ hlt];cases s with
  | true=>show (upF q one1 _).map _++((upF q one1 _).map _++[])=_;rw [show∀p,upF q one1 p=_ from fun p=>(z7c q hr p).1,show∀p,upF q one1 p=_ from fun p=>(z7c q hr p).1,if_neg (by omega),if_pos rfl];rfl
  | false=>show (dnF q one1 _).map _++((dnF q one1 _).map _++[])=_;rw [show∀p,dnF q one1 p=_ from fun p=>(z7c q hr p).2,show∀p,dnF q one1 p=_ from fun p=>(z7c q hr p).2,if_pos rfl,if_neg (by omega)];rfl
 unfold z0i;rw [up,up,up,up,up,up];rfl
theorem v5n : ∃N,Yj y9k N z7d=.ret [.bool true]:=by refine ⟨0,?_⟩;obtain ⟨o1,o0⟩:=w6r y7t (by decide);obtain ⟨b1,b0⟩:=back y7t (by decide);have w:=(z7y y7t (by decide)).2;rw [v3m] at o0 b1 b0 w;unfold z7d;have e1:([(R6.mk 0 0 0 2 1 1)]:List R6)=one1:=rfl;have e2:([(R6.mk 0 0 0 1 1 1),(R6.mk 1 1 0 2 2 1)]:List R6)=two2:=rfl;simp only [Za,e1,e2,o1,o0,b1,b0,show z2x one1=true from rfl,show z6j two2=true from rfl,w,show Wb one1 one1=true from rfl,show Up one1 one1=true from decide_eq_true rfl];rfl
def fAl :List AVal→Option (AVal×Bool)
 | []=>some (.bool true,true)
 | _=>none
theorem fAl_ok {S:Specs} (hS:Zu prog S):Zu prog (S.with x8z fAl):=by
 refine z3e hS (by kernel_rfl) fun args v h=> ?_;unfold fAl at h;split at h
 ·simp only [Option.some.injEq,Prod.mk.injEq,and_true] at h;subst h;obtain ⟨N,hN⟩:=v5n;exact ⟨_,_,.nil,rfl,v0d N _ hN,3,rfl⟩
 ·cases h
def Ml :Specs:=(Mk.with x8z fAl)
theorem v0l :Zu prog Ml:=(fAl_ok z9w)
end Go.Am
namespace Go.Am
open Go.Proofs.Tryz
open Go.Proofs
inductive mbaS where
def mbaC (l0:List R6):mbaS→Cfg
 :=nofun
def x5g (l0:List R6):mbaS→Xn mbaS
 :=nofun
def y0w (l0:List R6):Xn mbaS:=(bif (z3c (cvT l0)) then (bif (!(u3v (cvT l0))) then (.ret [(.bool true)]) else (bif (z2x (cvT l0)) then (bif ((z6k (cvT l0)) != 0) then (.ret [(.bool false)]) else (bif (Kj (cvT (Yq (cvT l0)))) then (bif ((x9c (cvT (Yq (cvT l0)))) != 0) then (.ret [(.bool false)]) else (bif (z2w (cvT (Yq (cvT l0)))) then (bif ((y6j (cvT (Yq (cvT l0)))) == 0) then (bif (Wb (cvT (Ja (cvT (Yq (cvT l0))))) (cvT l0)) then (.ret [(.bool (Up (cvT (Ja (cvT (Yq (cvT l0))))) (cvT l0)))]) else .stuck) else (.ret [(.bool false)])) else .stuck)) else .stuck)) else .stuck)) else .stuck)
theorem w2b (l0:List R6): ∀s,Xk prog (Zy prog 7) (mbaC l0) (mbaC l0 s) (x5g l0 s)
 :=nofun
theorem x5h (l0:List R6):Xk prog (Zy prog 7) (mbaC l0) (Zd prog 7 [(.dat l0.length (Zz l0))] true []) (y0w l0):=(lo fun bV=>(lb (fun k0=>(lr 44 7 [1,1,0,1,0,0] 1 3 [(2,(.bool true))] (sl v0l 26 [] ⟨[],[],[some [2]],[]⟩ ⟨[],[],[]⟩ (trs 3 []) (tt k0 (pp (pp (xr l0) (xw bV)) nn))))) (fun k0=>(lo fun aG=>(lb (fun k1=>(lr 44 7 [1,1,1,1,0,1,0,0] 1 3 [(2,(.bool false))] (sl v0l 48 [] ⟨[],[],[some [2]],[]⟩ ⟨[],[],[]⟩ [false,false,false,true,true,true,true] (tt k1 (pp (pp (xr l0) (xw aG)) (tt k0 (pp (pp (xr l0) (xw bV)) nn))))))) (fun k1=>(lo fun bX=>(lb (fun k2=>(lr 44 7 [1,1,1,1,0,1,0,0] 1 3 [(2,(.bool false))] (sl v0l 48 [] ⟨[],[],[some [2]],[]⟩ ⟨[],[],[]⟩ [false,false,false,false,false,false,true] (tt k2 (pp (pp (xI R7 (Yq (cvT l0)).length (Zz (Yq (cvT l0)))) (xw bX)) (tt k1 (pp (pp (xr l0) (xw aG)) (tt k0 (pp (pp (xr l0) (xw bV)) nn))))))))) (fun k2=>(lo fun bY=>(lb (fun k3=>(lo fun o0=>(lr 44 3 [1,1,1,1,1,1,1,0] 1 3 [(2,(.bool (Up (cvT (Ja (cvT (Yq (cvT l0))))) (cvT l0))))] (sl v0l 69 [] ⟨[],[],[some [2]],[]⟩ ⟨[],[],[]⟩ [false,false,false,false,false,false,false,true,true,true,true,true] (pp (pp (xI R6 (Ja (cvT (Yq (cvT l0)))).length (Zz (Ja (cvT (Yq (cvT l0)))))) (pp (xr l0) (xw o0))) (tt k3 (pp (pp (xI R7 (Yq (cvT l0)).length (Zz (Yq (cvT l0)))) (xw bY)) (tt k2 (pp (pp (xI R7 (Yq (cvT l0)).length (Zz (Yq (cvT l0)))) (xw bX)) (tt k1 (pp (pp (xr l0) (xw aG)) (tt k0 (pp (pp (xr l0) (xw bV)) nn))))))))))))) (fun k3=>(lr 44 3 [1,1,1,1,1,1,1,0] 1 3 [(2,(.bool false))] (sl v0l 69 [] ⟨[],[],[some [2]],[]⟩ ⟨[],[],[]⟩ [false,false,false,false,false,false,false,true,true,false,false,false] (tt k3 (pp (pp (xI R7 (Yq (cvT l0)).length (Zz (Yq (cvT l0)))) (xw bY)) (tt k2 (pp (pp (xI R7 (Yq (cvT l0)).length (Zz (Yq (cvT l0)))) (xw bX)) (tt k1 (pp (pp (xr l0) (xw aG)) (tt k0 (pp (pp (xr l0) (xw bV)) nn))))))))))))))))))))))
theorem mba_ends (l0:List R6) (n:Nat) (vs:List AVal) (h:Yj (x5g l0) n (y0w l0)=.ret vs):Kz prog (Zy prog 7) (Zd prog 7 [(.dat l0.length (Zz l0))] true []) vs:=by have:=Zo (w2b l0) n _ (x5h l0);rwa [h] at this
end Go.Am
namespace Go.Am
open Go.Proofs
theorem mba_run (L:List R6): ∃N,Yj (x5g L) N (y0w L)=.ret [.bool true]:=⟨0,by
 unfold y0w;rcases Yh (u3v L) with q | q
 ·obtain ⟨hl,h⟩:=u3t q;obtain ⟨o1,o0⟩:=w6r h hl;obtain ⟨b1,b0⟩:=back h hl;obtain ⟨c0,co⟩:=z7y h hl;have s:Wb L L=true:=decide_eq_true (by omega);simp only [Za,show z3c L=true from rfl,show z2x L=true from rfl,show z2w (z0i L)=true from co,q,o1,o0,b1,b0,c0,co,s,show Up L L=true from decide_eq_true rfl];rfl
 ·simp only [Za,show z3c L=true from rfl,q];rfl⟩
end Go.Am
end
