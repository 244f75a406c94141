/- A part of a proof: several texts in one. -/
import Derived.Test.YtmanggcjimaehaaGreatLb5
import Derived.WideShapes
import Derived.ChangeShapes
set_option maxRecDepth 1000000
set_option maxHeartbeats 8000000
set_option linter.unusedVariables false
set_option linter.unusedSimpArgs false
noncomputable section
namespace Go.Am
open Go.Proofs Go.Sort Go.Shelf Go.RowKit Go.Lib
namespace Dim
variable {α β:Type} {D:Dim α β}
theorem u4j (hD:D.Fair) (s:List β) (a b x:Int):D.inn (s.map (D.put a b)) x=if a≤x∧x<b then s else []:=by
 unfold inn;have e:(s.map (D.put a b)).filter (fun r=>decide (D.lo r≤x)&&decide (x<D.hi r))=if a≤x∧x<b then s.map (D.put a b) else []:=by
  split
  ·rename_i h;refine List.filter_eq_self.2 fun r hr=> ?_;obtain ⟨c,_,rfl⟩:=List.mem_map.1 hr;rw [hD.lo_put,hD.hi_put,decide_eq_true h.1,decide_eq_true h.2];rfl
  ·rename_i h;refine List.filter_eq_nil_iff.2 fun r hr hq=>h ?_;obtain ⟨c,_,rfl⟩:=List.mem_map.1 hr;rw [hD.lo_put,hD.hi_put,Bool.and_eq_true] at hq;exact ⟨of_decide_eq_true hq.1,of_decide_eq_true hq.2⟩
 rw [e];split
 ·rw [List.map_map];exact (List.map_congr_left fun c _=>hD.pr_put a b c).trans (List.map_id _)
 ·rfl
theorem inn_can (hD:D.Fair) {γ:Type} (M:Sem β γ) (x:Int): ∀G:List (Qv β),z1d M G→M.can (D.inn (D.flat G) x)
 | [],_=>M.nil
 | g::r,h=>by
  rw [show D.flat (g::r)=g.s.map (D.put g.a g.b)++D.flat r from rfl,D.inn_append,u4j hD];split
  ·rename_i hx;have e:D.inn (D.flat r) x=[]:=by unfold inn;rw [List.map_eq_nil_iff,List.filter_eq_nil_iff];intro a ha hq;obtain ⟨k,hk,ha⟩:=List.mem_flatMap.1 ha;obtain ⟨c,_,rfl⟩:=List.mem_map.1 ha;rw [hD.lo_put,Bool.and_eq_true] at hq;have h1:=of_decide_eq_true hq.1;have:=h.later k hk;omega
   rw [e,List.append_nil];exact h.head.2.1
  ·rw [List.nil_append];exact inn_can hD M x r h.tail
end Dim
theorem x8l {L:List R6} (hl:L.length≤400) (hv: ∀r∈L,z0m r=true) (hc:x8j.can L):Wk L=0:=by
 have hi: ∀z,D4.out (D6.inn L z)=D6.inn L z:=fun z=>by obtain ⟨h1,h2⟩:=Qk (y3z hv z) (Nat.le_trans (D6.inn_length L z) hl);obtain ⟨G,hG,e⟩:=hc;exact Wx.uniq _ _ h1 (by rw [e];exact Dim.inn_can z2f Wx z G hG) h2
 have hs:Secs L:=fun z=>by rw [hi z];exact Nat.le_trans (D6.inn_length L z) hl
 obtain ⟨h1,h2⟩:=u1e hv hl hs;have e:=x8j.uniq _ _ h1 hc h2;have ok: ∀k i,okF L k i=true:=fun k=>by
  induction k with
  | zero=>intro i;rfl
  | succ k ih=>intro i;show (bif Xp (D6.inn L (rd (D6.cuts L) i)) != 0 then false else okF L k (i+1))=true;rw [(z6a (y3z hv _) (Nat.le_trans (D6.inn_length L _) hl) (hs _)).2];exact ih (i+1)
 unfold Wk;rw [decide_eq_false (by omega),List.all_eq_true.2 hv,ok,e,decide_eq_false (by omega),show Jp L L=true from decide_eq_true rfl];rfl
end Go.Am
namespace Go.Am
open Go.Proofs.Tryz
open Go.Proofs Go.Sort Go.Shelf Go.RowKit Go.Lib
theorem can1 (a b:Int) (h:a<b):y5p.can [⟨a,b⟩]:=⟨by simpa using h,by simp⟩
theorem u1r :Wk two2=0:=by
 refine x8l (by decide) ?_ ⟨[⟨0,1,[⟨0,0,1,1⟩,⟨1,1,2,2⟩]⟩],.one _ ⟨by decide,⟨[⟨0,1,[⟨0,1⟩]⟩,⟨1,2,[⟨1,2⟩]⟩],?_,rfl⟩,by simp⟩,rfl⟩
 ·intro r hr;simp only [two2,List.mem_cons,List.not_mem_nil,or_false] at hr;rcases hr with rfl | rfl <;> rfl
 ·exact .cons _ _ [] ⟨by decide,can1 0 1 (by decide),by simp⟩ ⟨by decide,fun _=>by simp⟩ (.one _ ⟨by decide,can1 1 2 (by decide),by simp⟩)
def w8a (L:List R6):Int:=1
def w7z (L:List R6):Int:=0
def z6k (L:List R6):Bool:=v4w L
theorem u3l (L:List R6) (h:z6k L=true): ∃N,Yv (z4z L) N (y0y L)=.ret [.int .i64 (w8a L),.int .i64 (w7z L)]:=by obtain rfl:=x9u h;refine ⟨40,?_⟩;unfold y0y;rw [Za,show z1h two2=true from rfl,u1r];kernel_rfl
def fMpi :List AVal→Option (AVal×Bool)
 | [a0]=>match asL R6 a0 with
  | some (L0,g0,n0)=>some (.tup [.int .i64 (w8a L0),.int .i64 (w7z L0)],isT R6 n0 g0&&(z6k L0))
  | _=>none
 | _=>none
theorem u5m {S:Specs} (hS:Zu prog S):Zu prog (S.with w7r fMpi):=by
 refine z3g hS (by kernel_rfl) fun args v h=> ?_;unfold fMpi at h;split at h
 ·rename_i a0;split at h
  ·rename_i L0 g0 n0 e0;simp only [Option.some.injEq,Prod.mk.injEq,Bool.and_eq_true] at h;obtain ⟨rfl,ho0,hw⟩:=h;obtain ⟨N,hN⟩:=u3l L0 hw;exact ⟨_,_,(.cons (asL_le e0 ho0) .nil),rfl,v3y L0 N _ hN,3,rfl⟩
  ·cases h
 ·cases h
def Mk :Specs:=(Mj.with w7r fMpi)
theorem y0b :Zu prog Mk:=(u5m z4h)
end Go.Am
namespace Go.Am
open Go.Proofs.Tryz
open Go.Proofs
inductive al19S where
def u6u :al19S→Cfg
 :=nofun
def y9t :al19S→Xf al19S
 :=nofun
def z7g :Xf al19S:=(bif (z3a (cvT ([(R6.mk 0 0 0 2 1 1)]:List R6))) then (bif (z6k (cvT ([(R6.mk 0 0 0 1 1 1),(R6.mk 1 1 0 2 2 1)]:List R6))) then (bif ((z6l (cvT ([(R6.mk 0 0 0 2 1 1)]:List R6))) != 0) then (.ret [(.bool false)]) else (bif ((((Zb (cvT ([(R6.mk 0 0 0 2 1 1)]:List R6))).length :Nat):Int) != 6) then (.ret [(.bool false)]) else (bif ((w7z (cvT ([(R6.mk 0 0 0 1 1 1),(R6.mk 1 1 0 2 2 1)]:List R6))) != 0) then (.ret [(.bool false)]) else (bif ((w8a (cvT ([(R6.mk 0 0 0 1 1 1),(R6.mk 1 1 0 2 2 1)]:List R6))) != 1) then (.ret [(.bool false)]) else (bif (y2o (cvT (Zb (cvT ([(R6.mk 0 0 0 2 1 1)]:List R6))))) then (bif ((x1q (cvT (Zb (cvT ([(R6.mk 0 0 0 2 1 1)]:List R6))))) == 0) then (bif (Vq (cvT (z0d (cvT (Zb (cvT ([(R6.mk 0 0 0 2 1 1)]:List R6)))))) (cvT ([(R6.mk 0 0 0 2 1 1)]:List R6))) then (bif (Jp (cvT (z0d (cvT (Zb (cvT ([(R6.mk 0 0 0 2 1 1)]:List R6)))))) (cvT ([(R6.mk 0 0 0 2 1 1)]:List R6))) then (bif ((decide ((0:Int)≤0∧0<(((Zb (cvT ([(R6.mk 0 0 0 2 1 1)]:List R6))).length :Nat):Int)))&&true) then (bif (((rd (Zb (cvT ([(R6.mk 0 0 0 2 1 1)]:List R6))) 0).a == 0)&&((((rd (Zb (cvT ([(R6.mk 0 0 0 2 1 1)]:List R6))) 0).b == 2)&&(((rd (Zb (cvT ([(R6.mk 0 0 0 2 1 1)]:List R6))) 0).c == 0)&&(((rd (Zb (cvT ([(R6.mk 0 0 0 2 1 1)]:List R6))) 0).d == 0)&&true)))&&((((rd (Zb (cvT ([(R6.mk 0 0 0 2 1 1)]:List R6))) 0).e == 2)&&(((rd (Zb (cvT ([(R6.mk 0 0 0 2 1 1)]:List R6))) 0).f == 1)&&(((rd (Zb (cvT ([(R6.mk 0 0 0 2 1 1)]:List R6))) 0).g == 1)&&true)))&&true))) then (bif ((decide ((0:Int)≤4∧4<(((Zb (cvT ([(R6.mk 0 0 0 2 1 1)]:List R6))).length :Nat):Int)))&&true) then (.ret [(.bool (((rd (Zb (cvT ([(R6.mk 0 0 0 2 1 1)]:List R6))) 4).a == 4)&&((((rd (Zb (cvT ([(R6.mk 0 0 0 2 1 1)]:List R6))) 4).b == 0)&&(((rd (Zb (cvT ([(R6.mk 0 0 0 2 1 1)]:List R6))) 4).c == 0)&&(((rd (Zb (cvT ([(R6.mk 0 0 0 2 1 1)]:List R6))) 4).d == 1)&&true)))&&((((rd (Zb (cvT ([(R6.mk 0 0 0 2 1 1)]:List R6))) 4).e == 2)&&(((rd (Zb (cvT ([(R6.mk 0 0 0 2 1 1)]:List R6))) 4).f == 1)&&(((rd (Zb (cvT ([(R6.mk 0 0 0 2 1 1)]:List R6))) 4).g == 1)&&true)))&&true))))]) else .stuck) else (.ret [(.bool false)])) else .stuck) else (.ret [(.bool false)])) else .stuck) else (.ret [(.bool false)])) else .stuck))))) else .stuck) else .stuck)
theorem x7r : ∀s,Xj prog (Zy prog 36) (u6u) (u6u s) (y9t s)
 :=nofun
theorem x2r :Xj prog (Zy prog 36) (u6u) (Ze prog 36 [] true []) (z7g):=(We (sl y0b (C':=⟨⟨66,0,true⟩,(Up prog 36 [1,0] 2),(Zd prog 36 [1,0] 1),none,(Zy prog 10),⟨Ya [(9,(.dat ([(R6.mk 0 0 0 2 1 1)]:List R6).length (Zz ([(R6.mk 0 0 0 2 1 1)]:List R6))))],Uq [] 0,0,[],true⟩,[],.leaf⟩) 26 [] ⟨[],[1],[some [9]],[]⟩ ⟨[(9,.frz 1 ([(R6.mk 0 0 0 2 1 1)]:List R6).length (z2l [(ii 0),(ii 0),(ii 0),(ii 2),(ii 1),(ii 1)] 0 6) (Zz ([(R6.mk 0 0 0 2 1 1)]:List R6)))],[],[]⟩ [] (pp (xZ (.dat 1 (z2l [(ii 0),(ii 0),(ii 0),(ii 2),(ii 1),(ii 1)] 0 6)) 1 (z2l [(ii 0),(ii 0),(ii 0),(ii 2),(ii 1),(ii 1)] 0 6)) (pp (xL 1 ([(R6.mk 0 0 0 2 1 1)]:List R6).length) (pp (xS 1 (z2l [(ii 0),(ii 0),(ii 0),(ii 2),(ii 1),(ii 1)] 0 6) (Zz ([(R6.mk 0 0 0 2 1 1)]:List R6))) nn)))) (lo fun q0_0=>(We (sl y0b (C':=⟨⟨66,0,true⟩,(Up prog 36 [1,1,0] 3),(Zd prog 36 [1,1,0] 1),none,(Zy prog 10),⟨Ya [(1,(.dat (Zb (cvT ([(R6.mk 0 0 0 2 1 1)]:List R6))).length (Zz (Zb (cvT ([(R6.mk 0 0 0 2 1 1)]:List R6)))))),(2,(ii (z6l (cvT ([(R6.mk 0 0 0 2 1 1)]:List R6))))),(16,(.dat ([(R6.mk 0 0 0 1 1 1),(R6.mk 1 1 0 2 2 1)]:List R6).length (Zz ([(R6.mk 0 0 0 1 1 1),(R6.mk 1 1 0 2 2 1)]:List R6))))],Uq [] 0,0,[],true⟩,[],.leaf⟩) 48 [] ⟨[],[2],[some [1,2,16]],[]⟩ ⟨[(16,.frz 2 ([(R6.mk 0 0 0 1 1 1),(R6.mk 1 1 0 2 2 1)]:List R6).length (z2l [(ii 0),(ii 0),(ii 0),(ii 1),(ii 1),(ii 1),(ii 1),(ii 1),(ii 0),(ii 2),(ii 2),(ii 1)] 0 6) (Zz ([(R6.mk 0 0 0 1 1 1),(R6.mk 1 1 0 2 2 1)]:List R6)))],[],[]⟩ [] (pp (xZ (.dat 2 (z2l [(ii 0),(ii 0),(ii 0),(ii 1),(ii 1),(ii 1),(ii 1),(ii 1),(ii 0),(ii 2),(ii 2),(ii 1)] 0 6)) 2 (z2l [(ii 0),(ii 0),(ii 0),(ii 1),(ii 1),(ii 1),(ii 1),(ii 1),(ii 0),(ii 2),(ii 2),(ii 1)] 0 6)) (pp (xL 2 ([(R6.mk 0 0 0 1 1 1),(R6.mk 1 1 0 2 2 1)]:List R6).length) (pp (xS 2 (z2l [(ii 0),(ii 0),(ii 0),(ii 1),(ii 1),(ii 1),(ii 1),(ii 1),(ii 0),(ii 2),(ii 2),(ii 1)] 0 6) (Zz ([(R6.mk 0 0 0 1 1 1),(R6.mk 1 1 0 2 2 1)]:List R6))) (pp (pp (xI R6 ([(R6.mk 0 0 0 2 1 1)]:List R6).length (Zz ([(R6.mk 0 0 0 2 1 1)]:List R6))) (xw q0_0)) nn))))) (lo fun bU=>(lb (fun k0=>(lr 66 36 [1,1,1,0,1,0,0] 1 10 [(0,(.bool false))] (sl y0b 31 [] ⟨[],[],[some [0]],[]⟩ ⟨[],[],[]⟩ (trs 8 []) (tt k0 (pp (pp (xI R6 ([(R6.mk 0 0 0 1 1 1),(R6.mk 1 1 0 2 2 1)]:List R6).length (Zz ([(R6.mk 0 0 0 1 1 1),(R6.mk 1 1 0 2 2 1)]:List R6))) (xw bU)) nn))))) (fun k0=>(lb (fun k1=>(lr 66 36 [1,1,1,0,1,0,0] 1 10 [(0,(.bool false))] (sl y0b 31 [] ⟨[],[],[some [0]],[]⟩ ⟨[],[],[]⟩ [false,false,false,true,true,true,true,true] (tt k1 (tt k0 (pp (pp (xI R6 ([(R6.mk 0 0 0 1 1 1),(R6.mk 1 1 0 2 2 1)]:List R6).length (Zz ([(R6.mk 0 0 0 1 1 1),(R6.mk 1 1 0 2 2 1)]:List R6))) (xw bU)) nn)))))) (fun k1=>(lb (fun k2=>(lr 66 36 [1,1,1,0,1,0,0] 1 10 [(0,(.bool false))] (sl y0b 31 [] ⟨[],[],[some [0]],[]⟩ ⟨[],[],[]⟩ [false,false,false,false,false,true,true,true] (tt k2 (tt k1 (tt k0 (pp (pp (xI R6 ([(R6.mk 0 0 0 1 1 1),(R6.mk 1 1 0 2 2 1)]:List R6).length (Zz ([(R6.mk 0 0 0 1 1 1),(R6.mk 1 1 0 2 2 1)]:List R6))) (xw bU)) nn))))))) (fun k2=>(lb (fun k3=>(lr 66 36 [1,1,1,0,1,0,0] 1 10 [(0,(.bool false))] (sl y0b 31 [] ⟨[],[],[some [0]],[]⟩ ⟨[],[],[]⟩ [false,false,false,false,false,false,false,true] (tt k3 (tt k2 (tt k1 (tt k0 (pp (pp (xI R6 ([(R6.mk 0 0 0 1 1 1),(R6.mk 1 1 0 2 2 1)]:List R6).length (Zz ([(R6.mk 0 0 0 1 1 1),(R6.mk 1 1 0 2 2 1)]:List R6))) (xw bU)) nn)))))))) (fun k3=>(lo fun bW=>(lb (fun k4=>(We (sl y0b (C':=⟨⟨66,0,true⟩,(Up prog 36 [1,1,1,1,1,0] 6),(Zd prog 36 [1,1,1,1,1,0] 1),none,(Zy prog 10),⟨Ya [(1,(.dat (Zb (cvT ([(R6.mk 0 0 0 2 1 1)]:List R6))).length (Zz (Zb (cvT ([(R6.mk 0 0 0 2 1 1)]:List R6)))))),(42,(.bool true)),(43,(.dat (z0d (cvT (Zb (cvT ([(R6.mk 0 0 0 2 1 1)]:List R6))))).length (Zz (z0d (cvT (Zb (cvT ([(R6.mk 0 0 0 2 1 1)]:List R6)))))))),(45,(.dat ([(R6.mk 0 0 0 2 1 1)]:List R6).length (Zz ([(R6.mk 0 0 0 2 1 1)]:List R6))))],Uq [] 0,0,[],true⟩,[],.leaf⟩) 64 [] ⟨[],[1],[some [1,42,43,45]],[]⟩ ⟨[(45,.frz 1 ([(R6.mk 0 0 0 2 1 1)]:List R6).length (z2l [(ii 0),(ii 0),(ii 0),(ii 2),(ii 1),(ii 1)] 0 6) (Zz ([(R6.mk 0 0 0 2 1 1)]:List R6)))],[],[]⟩ [false,false,false,false,false,false,false,false,true,true,true] (pp (xZ (.dat 1 (z2l [(ii 0),(ii 0),(ii 0),(ii 2),(ii 1),(ii 1)] 0 6)) 1 (z2l [(ii 0),(ii 0),(ii 0),(ii 2),(ii 1),(ii 1)] 0 6)) (pp (xL 1 ([(R6.mk 0 0 0 2 1 1)]:List R6).length) (pp (xS 1 (z2l [(ii 0),(ii 0),(ii 0),(ii 2),(ii 1),(ii 1)] 0 6) (Zz ([(R6.mk 0 0 0 2 1 1)]:List R6))) (tt k4 (pp (pp (xI R7 (Zb (cvT ([(R6.mk 0 0 0 2 1 1)]:List R6))).length (Zz (Zb (cvT ([(R6.mk 0 0 0 2 1 1)]:List R6))))) (xw bW)) (tt k3 (tt k2 (tt k1 (tt k0 (pp (pp (xI R6 ([(R6.mk 0 0 0 1 1 1),(R6.mk 1 1 0 2 2 1)]:List R6).length (Zz ([(R6.mk 0 0 0 1 1 1),(R6.mk 1 1 0 2 2 1)]:List R6))) (xw bU)) nn))))))))))) (lo fun cM=>(lb (fun k5=>(lo fun cU=>(lb (fun k6=>(lo fun o0=>(lr 66 3 [1,1,1,1,1,1,1,0] 1 10 [(0,(.bool (((rd (Zb (cvT ([(R6.mk 0 0 0 2 1 1)]:List R6))) 4).a == 4)&&((((rd (Zb (cvT ([(R6.mk 0 0 0 2 1 1)]:List R6))) 4).b == 0)&&(((rd (Zb (cvT ([(R6.mk 0 0 0 2 1 1)]:List R6))) 4).c == 0)&&(((rd (Zb (cvT ([(R6.mk 0 0 0 2 1 1)]:List R6))) 4).d == 1)&&true)))&&((((rd (Zb (cvT ([(R6.mk 0 0 0 2 1 1)]:List R6))) 4).e == 2)&&(((rd (Zb (cvT ([(R6.mk 0 0 0 2 1 1)]:List R6))) 4).f == 1)&&(((rd (Zb (cvT ([(R6.mk 0 0 0 2 1 1)]:List R6))) 4).g == 1)&&true)))&&true)))))] (sl y0b 22 [] ⟨[],[],[some [0]],[]⟩ ⟨[],[],[]⟩ (trs 15 []) (ww o0 (tt k6 (ww cU (tt k5 (pp (pp (xI R6 (z0d (cvT (Zb (cvT ([(R6.mk 0 0 0 2 1 1)]:List R6))))).length (Zz (z0d (cvT (Zb (cvT ([(R6.mk 0 0 0 2 1 1)]:List R6))))))) (pp (xI R6 ([(R6.mk 0 0 0 2 1 1)]:List R6).length (Zz ([(R6.mk 0 0 0 2 1 1)]:List R6))) (xw cM))) nn))))))))) (fun k6=>(lr 66 3 [1,1,1,1,1,1,1,0] 1 10 [(0,(.bool false))] (sl y0b 22 [] ⟨[],[],[some [0]],[]⟩ ⟨[],[],[]⟩ (trs 8 [false,false,false,false,false,false,false]) (tt k6 (ww cU (tt k5 (pp (pp (xI R6 (z0d (cvT (Zb (cvT ([(R6.mk 0 0 0 2 1 1)]:List R6))))).length (Zz (z0d (cvT (Zb (cvT ([(R6.mk 0 0 0 2 1 1)]:List R6))))))) (pp (xI R6 ([(R6.mk 0 0 0 2 1 1)]:List R6).length (Zz ([(R6.mk 0 0 0 2 1 1)]:List R6))) (xw cM))) nn)))))))))) (fun k5=>(lr 66 3 [1,1,1,1,1,1,1,0] 1 10 [(0,(.bool false))] (sl y0b 22 [] ⟨[],[],[some [0]],[]⟩ ⟨[],[],[]⟩ [true,false,false,false,false,false,false,false,false,false,false,false,false,false,false] (tt k5 (pp (pp (xI R6 (z0d (cvT (Zb (cvT ([(R6.mk 0 0 0 2 1 1)]:List R6))))).length (Zz (z0d (cvT (Zb (cvT ([(R6.mk 0 0 0 2 1 1)]:List R6))))))) (pp (xI R6 ([(R6.mk 0 0 0 2 1 1)]:List R6).length (Zz ([(R6.mk 0 0 0 2 1 1)]:List R6))) (xw cM))) nn))))))))) (fun k4=>(lr 66 3 [1,1,1,1,1,1,1,0] 1 10 [(0,(.bool false))] (sl y0b 68 [] ⟨[],[],[some [0]],[]⟩ ⟨[],[],[]⟩ [false,false,false,false,false,false,false,false,false,false,false,false,false,false,false,false,false,false,false,false,false,false,false,false,false,false] (tt k4 (pp (pp (xI R7 (Zb (cvT ([(R6.mk 0 0 0 2 1 1)]:List R6))).length (Zz (Zb (cvT ([(R6.mk 0 0 0 2 1 1)]:List R6))))) (xw bW)) (tt k3 (tt k2 (tt k1 (tt k0 (pp (pp (xI R6 ([(R6.mk 0 0 0 1 1 1),(R6.mk 1 1 0 2 2 1)]:List R6).length (Zz ([(R6.mk 0 0 0 1 1 1),(R6.mk 1 1 0 2 2 1)]:List R6))) (xw bU)) nn))))))))))))))))))))))))
theorem v0w (n:Nat) (vs:List AVal) (h:Yv (y9t) n (z7g)=.ret vs):Ky prog (Zy prog 36) (Ze prog 36 [] true []) vs:=by have:=Zr (x7r) n _ (x2r);rwa [h] at this
end Go.Am
namespace Go.Am
open Go.Proofs Go.Sort Go.Shelf Go.RowKit Go.Lib
theorem chg {L:List R2} (h:Can L) {y:Int} (hy:y∈z8q L) (hS:pt L (y - 1)↔pt L y):False:=by
 obtain ⟨s,hs,h1⟩:=List.mem_flatMap.1 hy;have hp:=h.pos s hs;have sepL: ∀t∈L,t=s∨t.b<s.a∨s.b<t.a:=fun t ht=>by
  obtain ⟨i,hi,ei⟩:=List.getElem_of_mem hs;obtain ⟨j,hj,ej⟩:=List.getElem_of_mem ht;have pw:=List.pairwise_iff_getElem.1 h.sep;rcases Nat.lt_trichotomy i j with q | q | q
  ·have:=pw i j hi hj q;rw [ei,ej] at this;exact .inr (.inr this)
  ·subst q;exact .inl (ej.symm.trans ei)
  ·have:=pw j i hj hi q;rw [ei,ej] at this;exact .inr (.inl this)
 simp only [List.mem_cons,List.not_mem_nil,or_false] at h1;rcases h1 with rfl | rfl
 ·obtain ⟨t,ht,t1,t2⟩:=hS.2 ⟨s,hs,Int.le_refl _,hp⟩;rcases sepL t ht with rfl | q | q <;> omega
 ·obtain ⟨t,ht,t1,t2⟩:=hS.1 ⟨s,hs,by omega,by omega⟩;rcases sepL t ht with rfl | q | q <;> omega
theorem x1k : ∀(l S:List Int),l.Pairwise (· ≠ ·)→(∀x∈l,x∈S)→l.length≤S.length
 | [],S,_,_=>Nat.zero_le _
 | x::l,S,h,hs=>by obtain ⟨h1,h2⟩:=List.pairwise_cons.1 h;have hx:=hs x (by simp);have:=x1k l (S.erase x) h2 fun y hy=>(List.mem_erase_of_ne (fun e=>h1 y hy e.symm)).2 (hs y (by simp [hy]));rw [List.length_erase_of_mem hx] at this;have:=List.length_pos_of_mem hx;simp only [List.length_cons];omega
theorem u0v {a b:List R2} (ha:a.all Qr=true) (hb:b.all Qr=true):(spJ 2 a b).length +(spJ 2 b a).length ≤a.length+b.length:=by
 obtain ⟨c1,p1⟩:=z7p 2 ha hb;obtain ⟨c2,p2⟩:=z7p 2 hb ha;have q1: ∀y,pt (spJ 2 a b) y↔pt a y∧ ¬pt b y:=fun y=>by rw [show pt (spJ 2 a b) y↔_ from p1 y];unfold opB;simp
 have q2: ∀y,pt (spJ 2 b a) y↔pt b y∧ ¬pt a y:=fun y=>by rw [show pt (spJ 2 b a) y↔_ from p2 y];unfold opB;simp
 have f: ∀y:Int,∃z,(z=2*y∧ ¬(pt a (y - 1)↔pt a y))∨(z=2*y+1∧(pt a (y - 1)↔pt a y)):=fun y=>by
  by_cases h:pt a (y - 1)↔pt a y
  ·exact ⟨_,.inr ⟨rfl,h⟩⟩
  ·exact ⟨_,.inl ⟨rfl,h⟩⟩
 have g: ∀y:Int,∃z,(z=2*y+1∧ ¬(pt b (y - 1)↔pt b y))∨(z=2*y∧(pt b (y - 1)↔pt b y)):=fun y=>by
  by_cases h:pt b (y - 1)↔pt b y
  ·exact ⟨_,.inr ⟨rfl,h⟩⟩
  ·exact ⟨_,.inl ⟨rfl,h⟩⟩
 obtain ⟨f,hf⟩:=Classical.axiomOfChoice f;obtain ⟨g,hg⟩:=Classical.axiomOfChoice g;have key:=x1k ((z8q (spJ 2 a b)).map f++(z8q (spJ 2 b a)).map g) ((z8q a).map (2* ·)++(z8q b).map (2* · +1)) (by
  refine List.pairwise_append.2 ⟨List.pairwise_map.2 ((y3w c1).imp fun {x y} h=> ?_),List.pairwise_map.2 ((y3w c2).imp fun {x y} h=> ?_),?_⟩
  ·have:=hf x;have:=hf y;omega
  ·have:=hg x;have:=hg y;omega
  ·intro x hx z hz;obtain ⟨y,hy,rfl⟩:=List.mem_map.1 hx;obtain ⟨y',hy',rfl⟩:=List.mem_map.1 hz;intro e;have e1:y'=y:=by have:=hf y;have:=hg y';omega
   subst e1;have n1:=chg c1 hy;have n2:=chg c2 hy';rw [q1,q1] at n1;rw [q2,q2] at n2;rcases hf y' with ⟨e1,h1⟩ | ⟨e1,h1⟩ <;> rcases hg y' with ⟨e2,h2⟩ | ⟨e2,h2⟩
   ·omega
   ·by_cases h3:pt b y'
    ·exact n1 (by simp [h2,h3])
    ·exact n2 (by simp [h2,h3])
   ·by_cases h3:pt a y'
    ·exact n2 (by simp [h1,h3])
    ·exact n1 (by simp [h1,h3])
   ·omega) (by
  intro x hx;rcases List.mem_append.1 hx with hx | hx
  ·obtain ⟨y,hy,rfl⟩:=List.mem_map.1 hx;have n1:=chg c1 hy;rw [q1,q1] at n1;rcases hf y with ⟨e1,h1⟩ | ⟨e1,h1⟩
   ·refine List.mem_append.2 (.inl (List.mem_map.2 ⟨y,Classical.byContradiction fun hn=>h1 (z7w hn),e1.symm⟩))
   ·refine List.mem_append.2 (.inr (List.mem_map.2 ⟨y,Classical.byContradiction fun hn=>n1 (by rw [h1,z7w hn]),e1.symm⟩))
  ·obtain ⟨y,hy,rfl⟩:=List.mem_map.1 hx;have n1:=chg c2 hy;rw [q2,q2] at n1;rcases hg y with ⟨e1,h1⟩ | ⟨e1,h1⟩
   ·refine List.mem_append.2 (.inr (List.mem_map.2 ⟨y,Classical.byContradiction fun hn=>h1 (z7w hn),e1.symm⟩))
   ·refine List.mem_append.2 (.inl (List.mem_map.2 ⟨y,Classical.byContradiction fun hn=>n1 (by rw [h1,z7w hn]),e1.symm⟩)))
 simp only [List.length_append,List.length_map,z0i] at key;omega
theorem z8r : ∀(l m:List Int),l.Pairwise (· < ·)→m.Pairwise (· < ·)→(∀x,x∈l↔x∈m)→l=m
 | [],[],_,_,_=>rfl
 | [],y::m,_,_,h=>by have:=(h y).2 (by simp);cases this
 | x::l,[],_,_,h=>by have:=(h x).1 (by simp);cases this
 | x::l,y::m,hl,hm,h=>by
  obtain ⟨l1,l2⟩:=List.pairwise_cons.1 hl;obtain ⟨m1,m2⟩:=List.pairwise_cons.1 hm;have e:x=y:=by
   have hx:=(h x).1 (by simp);have hy:=(h y).2 (by simp);rcases List.mem_cons.1 hx with hx | hx
   ·exact hx
   ·rcases List.mem_cons.1 hy with hy | hy
    ·exact hy.symm
    ·have:=l1 y hy;have:=m1 x hx;omega
  subst e
  congr 1
  refine z8r l m l2 m2 fun z=>⟨fun hz=> ?_,fun hz=> ?_⟩
  ·have:=l1 z hz;rcases List.mem_cons.1 ((h z).1 (by simp [hz])) with q | q
   ·omega
   ·exact q
  ·have:=m1 z hz;rcases List.mem_cons.1 ((h z).2 (by simp [hz])) with q | q
   ·omega
   ·exact q
namespace Dim
variable {α β:Type} {D:Dim α β}
theorem w0j (l:List α):(D.cuts l).Pairwise (· < ·):=by show (Ug (D.ends l)).Pairwise (· < ·);rw [Uv];exact (Xc _).1
theorem w0i (l:List α) (x:Int):x∈D.cuts l↔x∈D.ends l:=by show x∈Ug (D.ends l)↔_;rw [Uv];exact (Xc _).2 x
theorem w0h (l:List α) (x:Int):x∈D.ends l↔ ∃r∈l,x=D.lo r∨x=D.hi r:=by
 induction l with
 | nil=>exact ⟨fun h=>(by cases h),fun ⟨r,h,_⟩=>(by cases h)⟩
 | cons r l ih=>
  show x∈D.lo r::D.hi r::D.ends l↔_;rw [List.mem_cons,List.mem_cons,ih];constructor
  ·rintro (h | h | ⟨s,hs,h⟩)
   ·exact ⟨r,by simp,.inl h⟩
   ·exact ⟨r,by simp,.inr h⟩
   ·exact ⟨s,by simp [hs],h⟩
  ·rintro ⟨s,hs,h⟩;rcases List.mem_cons.1 hs with rfl | hs
   ·rcases h with h | h
    ·exact .inl h
    ·exact .inr (.inl h)
   ·exact .inr (.inr ⟨s,hs,h⟩)
theorem cuts_comm (a b:List α):D.cuts (a++b)=D.cuts (b++a):=z8r _ _ (w0j _) (w0j _) fun x=>by
 rw [w0i,w0i,w0h,w0h];constructor <;> exact fun ⟨r,hr,h⟩=>⟨r,by rw [List.mem_append] at*;exact hr.symm,h⟩
end Dim
theorem v3e {a b:List R4} (ha: ∀r∈a,Vx r=true) (hb: ∀r∈b,Vx r=true):(rgJ 2 a b).length +(rgJ 2 b a).length ≤(a.length+b.length)*(a.length+b.length):=by
 have hv: ∀r∈a++b,D4.lo r<D4.hi r:=fun r hr=>by
  have hv:Vx r=true:=by
   rcases List.mem_append.1 hr with h | h
   ·exact ha r h
   ·exact hb r h
  simp only [Vx,Bool.and_eq_true,decide_eq_true_eq] at hv;exact hv.1
 have g1:=D4.goS_length (fun x=>spJ 2 (D4.inn a x) (D4.inn b x)) (D4.cuts (a++b)) ((D4.cuts (a++b)).length - 1) 0 ⟨[],[],0,0⟩;have g2:=D4.goS_length (fun x=>spJ 2 (D4.inn b x) (D4.inn a x)) (D4.cuts (a++b)) ((D4.cuts (a++b)).length - 1) 0 ⟨[],[],0,0⟩;have h2:=D4.open_sum (a++b) hv ((D4.cuts (a++b)).length - 1) (Nat.sub_le _ _);have e1:(rgJ 2 b a).length =(D4.goS (fun x=>spJ 2 (D4.inn b x) (D4.inn a x)) (D4.cuts (a++b)) ((D4.cuts (a++b)).length - 1) 0 ⟨[],[],0,0⟩).out.length :=by unfold rgJ;rw [Dim.cuts_comm b a]
 have e2:(rgJ 2 a b).length =(D4.goS (fun x=>spJ 2 (D4.inn a x) (D4.inn b x)) (D4.cuts (a++b)) ((D4.cuts (a++b)).length - 1) 0 ⟨[],[],0,0⟩).out.length :=rfl;rw [e1,e2];rw [List.length_append] at h2;refine Nat.le_trans (Nat.add_le_add g1 g2) (Nat.le_trans ?_ h2);simp only [List.length_nil,Nat.zero_add];generalize (D4.cuts (a++b)).length - 1=k
 induction k with
 | zero=>exact Nat.le_refl _
 | succ k ih=>rw [List.range_succ,List.map_append,List.map_append,List.map_append,List.sum_append,List.sum_append,List.sum_append];have:=u0v (Vw ha (rd (D4.cuts (a++b)) k)) (Vw hb (rd (D4.cuts (a++b)) k));simp only [List.map_cons,List.map_nil,List.sum_cons,List.sum_nil];rw [D4.inn_append,List.length_append];omega
end Go.Am
namespace Go.Am
open Go.Proofs Go.Sort Go.Shelf Go.RowKit Go.Lib
def Ax.inB (q:Ax) (r:R6) (p u v:Int):Prop:=(q.lo r≤p∧p<q.hi r)∧((q.rc r).a ≤u∧u<(q.rc r).c)∧((q.rc r).b ≤v∧v<(q.rc r).d)
def Ax.inL (q:Ax) (L:List R6) (p u v:Int):Prop:= ∃r∈L,q.inB r p u v
def Ax.to (q:Ax) (p u v:Int):Int×Int×Int:=match q with
 | .x =>(p,u,v)
 | .y =>(u,p,v)
 | .z =>(u,v,p)
theorem Ax.inL_S (q:Ax) (L:List R6) (p u v:Int):q.inL L p u v↔inS L (q.to p u v).1 (q.to p u v).2.1 (q.to p u v).2.2:=by
 cases q <;> constructor <;> rintro ⟨r,hr,h1,h2,h3⟩
 ·exact ⟨r,hr,h1,h2,h3⟩
 ·exact ⟨r,hr,h1,h2,h3⟩
 ·exact ⟨r,hr,h2,h1,h3⟩
 ·exact ⟨r,hr,h2,h1,h3⟩
 ·exact ⟨r,hr,h2,h3,h1⟩
 ·exact ⟨r,hr,h3,h1,h2⟩
theorem v8t (l:List R4) (u v:Int):ptL Wx.inB l (u,v)↔ ∃r∈l,(r.a≤u∧u<r.c)∧(r.b≤v∧v<r.d):=by
 constructor
 ·rintro ⟨r,hr,h1,h2,h3,h4⟩;exact ⟨r,hr,⟨h1,h2⟩,h3,h4⟩
 ·rintro ⟨r,hr,⟨h1,h2⟩,h3,h4⟩;exact ⟨r,hr,h1,h2,h3,h4⟩
theorem y3t (q:Ax) (L:List R6) (p u v:Int):ptL Wx.inB (z1c q L p) (u,v)↔q.inL L p u v:=by
 rw [v8t];constructor
 ·rintro ⟨s,hs,h⟩;obtain ⟨r,hr,rfl⟩:=List.mem_map.1 hs;obtain ⟨h1,h2⟩:=List.mem_filter.1 hr;simp only [Bool.and_eq_true,decide_eq_true_eq] at h2;exact ⟨r,h1,h2,h⟩
 ·rintro ⟨r,hr,h1,h2⟩;exact ⟨q.rc r,List.mem_map.2 ⟨r,List.mem_filter.2 ⟨hr,by simp only [Bool.and_eq_true,decide_eq_true_eq];exact h1⟩,rfl⟩,h2⟩
theorem Ax.val (q:Ax) {r:R6} (h:z0m r=true):Vx (q.rc r)=true∧q.lo r<q.hi r∧ -1000000≤q.lo r∧q.hi r≤1000000:=by
 have:=z5q h;cases q
 ·refine ⟨?_,by show r.a<r.d;omega,by show _≤r.a;omega,by show r.d≤_;omega⟩;show Vx ⟨r.b,r.c,r.e,r.f⟩=true;simp only [Vx,Bool.and_eq_true,decide_eq_true_eq]
  (repeat' apply And.intro) <;> omega
 ·refine ⟨?_,by show r.b<r.e;omega,by show _≤r.b;omega,by show r.e≤_;omega⟩;show Vx ⟨r.a,r.c,r.d,r.f⟩=true;simp only [Vx,Bool.and_eq_true,decide_eq_true_eq]
  (repeat' apply And.intro) <;> omega
 ·refine ⟨?_,by show r.c<r.f;omega,by show _≤r.c;omega,by show r.f≤_;omega⟩;show Vx ⟨r.a,r.b,r.d,r.e⟩=true;simp only [Vx,Bool.and_eq_true,decide_eq_true_eq]
  (repeat' apply And.intro) <;> omega
theorem v0c (q:Ax) {L:List R6} (hv: ∀r∈L,z0m r=true) (p:Int): ∀s∈z1c q L p,Vx s=true:=fun s hs=>by obtain ⟨r,hr,rfl⟩:=List.mem_map.1 hs;exact (q.val (hv r (List.mem_filter.1 hr).1)).1
theorem x7b (q:Ax) (L:List R6) (p:Int):(z1c q L p).length ≤L.length:=by unfold z1c;rw [List.length_map];exact List.length_filter_le _ _
theorem z4b {l:List R4} (hc:Wx.can l) (hb: ∀u v,ptL Wx.inB l (u,v)→(-1000000≤u∧u<1000000)∧(-1000000≤v∧v<1000000)): ∀r∈l,Vx r=true:=fun r hr=>by
 have hp:r.a<r.c∧r.b<r.d:=by obtain ⟨G,hG,e⟩:=hc;rw [e] at hr;obtain ⟨g,hg,hr⟩:=List.mem_flatMap.1 hr;obtain ⟨b,hb,rfl⟩:=List.mem_map.1 hr;obtain ⟨h1,h2,_⟩:=hG.all g hg;exact ⟨h1,Can.pos h2 b hb⟩
 have h1:=hb r.a r.b ((v8t _ _ _).2 ⟨r,hr,by omega,by omega⟩);have h2:=hb (r.c - 1) (r.d - 1) ((v8t _ _ _).2 ⟨r,hr,by omega,by omega⟩);simp only [Vx,Bool.and_eq_true,decide_eq_true_eq];omega
theorem z3l {l:List R4} (hv: ∀r∈l,Vx r=true) {u v:Int} (h:ptL Wx.inB l (u,v)):(-1000000≤u∧u<1000000)∧(-1000000≤v∧v<1000000):=by obtain ⟨r,hr,h1,h2⟩:=(v8t _ _ _).1 h;have:=hv r hr;simp only [Vx,Bool.and_eq_true,decide_eq_true_eq] at this;omega
structure Few (c l:List R4) (n:Nat):Prop where
 can:Wx.can l
 pts: ∀u v,ptL Wx.inB l (u,v)↔ptL Wx.inB c (u,v)
 val: ∀r∈l,Vx r=true
 len:l.length≤n*n
 sec: ∀x,(D4.inn l x).length ≤n
theorem w7f {l:List R4} (hv: ∀r∈l,Vx r=true) (hl:l.length≤400):(D4.out l).length ≤l.length*l.length:=by
 have h:=Qq 0 hv (fun r (h:r∈([]:List R4))=>by cases h);have e:rgJ 0 l []=D4.out l:=Wx.uniq _ _ h.1 (Qk hv hl).1 fun p=>by rw [h.2.1,(Qk hv hl).2];have: ¬ptL Wx.inB ([]:List R4) p:=z2v _ _;by_cases hp:ptL Wx.inB l p <;> simp [opB,hp,this]
 have:=h.2.2;rw [e] at this;exact this
theorem y1g {l:List R4} (hc:Wx.can l) (x:Int):y5p.can (D4.inn l x):=by obtain ⟨G,hG,e⟩:=hc;rw [e];exact Dim.inn_can y4n y5p x G hG
theorem u4w {c:List R4} (hv: ∀r∈c,Vx r=true) (hl:c.length≤20):Few c (D4.out c) c.length:=by
 obtain ⟨h1,h2⟩:=Qk hv (by omega);refine ⟨h1,fun u v=>h2 (u,v),z4b h1 fun u v h=>z3l hv ((h2 _).1 h),w7f hv (by omega),fun x=> ?_⟩;have h3:=z0o 0 (a:=D4.inn c x) (b:=[]) (Vw hv x) rfl;have h4:=z7p 0 (a:=D4.inn c x) (b:=[]) (Vw hv x) rfl;have e:spJ 0 (D4.inn c x) []=D4.inn (D4.out c) x:=y5p.uniq _ _ h4.1 (y1g h1 x) fun y=>by
  rw [h4.2];have a1:=z2w c x y;have a2:=z2w (D4.out c) x y;have: ¬pt [] y:=fun ⟨_,h,_⟩=>by cases h
  show _↔pt (D4.inn (D4.out c) x) y;rw [a2,h2,←a1];by_cases hp:pt (D4.inn c x) y <;> simp [opB,hp,this]
 rw [←e];have:=D4.inn_length c x;simp only [List.length_nil] at h3;omega
theorem u4v {c:List R4} (hv: ∀r∈c,Vx r=true) (hl:c.length≤20):Zg c=D4.out c∧Xp c=0:=by refine z6a hv (by omega) (Nat.le_trans (w7f hv (by omega)) ?_);exact Nat.le_trans (Nat.mul_le_mul hl hl) (by decide)
theorem x8w {l:List R4} (hl:l.length≤400) (hv: ∀r∈l,Vx r=true) (hc:Wx.can l):y4o l=0:=by
 obtain ⟨h1,h2⟩:=Qk hv hl;have e:D4.out l=l:=Wx.uniq _ _ h1 hc h2;have m1:z0e l=0:=by show y7l (D4.out l).length =0;rw [e];unfold y7l;rw [decide_eq_false (by omega)];rfl
 have m0:Wu l=l:=by unfold Wu y9k;rw [show v9y l=0 from m1,e];rfl
 unfold y4o rgcF;rw [decide_eq_false (by omega),List.all_eq_true.2 hv,m1,m0,show Um l l=true from decide_eq_true rfl];rfl
theorem w9k {E:Int→Int} {cs:List Int} (h: ∀x,E x=0): ∀k i,w4m E cs k i=0
 | 0,i=>rfl
 | k+1,i=>by show (bif E (rd cs i) != 0 then E (rd cs i) else w4m E cs k (i+1))=0;rw [h];exact w9k h k (i+1)
theorem y8k (o:Op) {a b:List R4} (la:a.length≤400) (lb:b.length≤400) (va: ∀r∈a,Vx r=true) (vb: ∀r∈b,Vx r=true) (ca:Wx.can a) (cb:Wx.can b)
  (sa: ∀x,(D4.inn a x).length +(D4.inn b x).length ≤400) (lj:(rgJ o.k a b).length ≤400):rgE o a b=0:=by
 have sc: ∀(l:List R4) (x:Int),l.length≤400→(∀r∈l,Vx r=true)→Wx.can l→y5v (D4.inn l x)=0:=fun l x hl hv hc=>
  (y8c _).2 ⟨Nat.le_trans (D4.inn_length l x) hl,Vw hv x,y1g hc x⟩
 have hz: ∀x,rgA o a b x=0:=fun x=>by unfold rgA spE;rw [sc a x la va ca,sc b x lb vb cb];have:=z0o o.k (Vw va x) (Vw vb x);show y7l _=0;unfold y7l;rw [decide_eq_false (by have:=sa x;omega)];rfl
 unfold rgE;rw [x8w la va ca,x8w lb vb cb,w9k hz];show y7l _=0;unfold y7l;rw [decide_eq_false (by omega)];rfl
def hiL (q:Ax) (L:List R6) (p:Int):List R4:=(L.filter fun r=>decide (q.hi r=p)).map q.rc
def loL (q:Ax) (L:List R6) (p:Int):List R4:=(L.filter fun r=>decide (q.lo r=p)).map q.rc
theorem y1r (q:Ax) {L:List R6} (hv: ∀r∈L,q.lo r<q.hi r) (p:Int):(hiL q L p).length +(loL q L p).length ≤L.length:=by
 unfold hiL loL;rw [List.length_map,List.length_map]
 induction L with
 | nil=>exact Nat.le_refl _
 | cons r L ih=>
  have ih:=ih fun s hs=>hv s (by simp [hs]);have:=hv r (by simp);rw [List.filter_cons,List.filter_cons];by_cases h1:q.hi r=p
  ·rw [if_pos (by simp [h1]),if_neg (by simp;omega)];simp only [List.length_cons];omega
  ·rw [if_neg (by simp [h1])];by_cases h2:q.lo r=p
   ·rw [if_pos (by simp [h2])];simp only [List.length_cons];omega
   ·rw [if_neg (by simp [h2])];simp only [List.length_cons];omega
theorem w8v (q:Ax) (L:List R6) (p u v:Int):ptL Wx.inB (hiL q L p) (u,v)↔ ∃r∈L,q.hi r=p∧((q.rc r).a ≤u∧u<(q.rc r).c)∧((q.rc r).b ≤v∧v<(q.rc r).d):=by
 rw [v8t];constructor
 ·rintro ⟨s,hs,h⟩;obtain ⟨r,hr,rfl⟩:=List.mem_map.1 hs;obtain ⟨h1,h2⟩:=List.mem_filter.1 hr;exact ⟨r,h1,of_decide_eq_true h2,h⟩
 ·rintro ⟨r,hr,h1,h2⟩;exact ⟨q.rc r,List.mem_map.2 ⟨r,List.mem_filter.2 ⟨hr,decide_eq_true h1⟩,rfl⟩,h2⟩
theorem w8i (q:Ax) (L:List R6) (p u v:Int):ptL Wx.inB (loL q L p) (u,v)↔ ∃r∈L,q.lo r=p∧((q.rc r).a ≤u∧u<(q.rc r).c)∧((q.rc r).b ≤v∧v<(q.rc r).d):=by
 rw [v8t];constructor
 ·rintro ⟨s,hs,h⟩;obtain ⟨r,hr,rfl⟩:=List.mem_map.1 hs;obtain ⟨h1,h2⟩:=List.mem_filter.1 hr;exact ⟨r,h1,of_decide_eq_true h2,h⟩
 ·rintro ⟨r,hr,h1,h2⟩;exact ⟨q.rc r,List.mem_map.2 ⟨r,List.mem_filter.2 ⟨hr,decide_eq_true h1⟩,rfl⟩,h2⟩
theorem Ap6.not (q:Ax) {r s:R6} (h:Ap6 r s) {p u v:Int} (h1:q.inB r p u v) (h2:q.inB s p u v):False:=by obtain ⟨a1,a2,a3⟩:=h1;obtain ⟨b1,b2,b3⟩:=h2;unfold Ap6 at h;cases q <;> simp only [Ax.lo,Ax.hi,Ax.rc] at* <;> omega
theorem v8u {L:List R6} (hL:L.Pairwise Ap6) (q:Ax) {r s:R6} (hr:r∈L) (hs:s∈L) {p u v:Int} (h1:q.inB r p u v) (h2:q.inB s p u v):r=s:=by
 obtain ⟨i,hi,ei⟩:=List.getElem_of_mem hr;obtain ⟨j,hj,ej⟩:=List.getElem_of_mem hs;have pw:=List.pairwise_iff_getElem.1 hL;rcases Nat.lt_trichotomy i j with h | h | h
 ·have:=pw i j hi hj h;rw [ei,ej] at this;exact (this.not q h1 h2).elim
 ·subst h;exact ei.symm.trans ej
 ·have:=pw j i hj hi h;rw [ei,ej] at this;exact (this.not q h2 h1).elim
theorem y7v (q:Ax) {L:List R6} (hL:L.Pairwise Ap6) (hv: ∀r∈L,q.lo r<q.hi r) (p u v:Int):
  (q.inL L (p - 1) u v∧ ¬q.inL L p u v)↔(ptL Wx.inB (hiL q L p) (u,v)∧ ¬ptL Wx.inB (loL q L p) (u,v)):=by
 rw [w8v,w8i];constructor
 ·rintro ⟨⟨r,hr,h1,h2⟩,h3⟩;refine ⟨⟨r,hr,?_,h2⟩,fun ⟨s,hs,k1,k2⟩=>h3 ⟨s,hs,⟨by omega,by have:=hv s hs;omega⟩,k2⟩⟩;refine Classical.byContradiction fun hn=>h3 ⟨r,hr,⟨by omega,by omega⟩,h2⟩
 ·rintro ⟨⟨r,hr,h1,h2⟩,h3⟩;have hlt:=hv r hr;have hb:q.inB r (p - 1) u v:=⟨⟨by omega,by omega⟩,h2⟩
  refine ⟨⟨r,hr,hb⟩,fun ⟨s,hs,k1,k2⟩=> ?_⟩;by_cases e:q.lo s=p
  ·exact h3 ⟨s,hs,e,k2⟩
  ·have:=v8u hL q hr hs hb ⟨⟨by omega,by omega⟩,k2⟩;subst this;omega
theorem z8n (q:Ax) {L:List R6} (hL:L.Pairwise Ap6) (hv: ∀r∈L,q.lo r<q.hi r) (p u v:Int):
  (q.inL L p u v∧ ¬q.inL L (p - 1) u v)↔(ptL Wx.inB (loL q L p) (u,v)∧ ¬ptL Wx.inB (hiL q L p) (u,v)):=by
 rw [w8v,w8i];constructor
 ·rintro ⟨⟨r,hr,h1,h2⟩,h3⟩;refine ⟨⟨r,hr,?_,h2⟩,fun ⟨s,hs,k1,k2⟩=>h3 ⟨s,hs,⟨by have:=hv s hs;omega,by omega⟩,k2⟩⟩;refine Classical.byContradiction fun hn=>h3 ⟨r,hr,⟨by omega,by omega⟩,h2⟩
 ·rintro ⟨⟨r,hr,h1,h2⟩,h3⟩;have hlt:=hv r hr;have hb:q.inB r p u v:=⟨⟨by omega,by omega⟩,h2⟩
  refine ⟨⟨r,hr,hb⟩,fun ⟨s,hs,k1,k2⟩=> ?_⟩;by_cases e:q.hi s=p
  ·exact h3 ⟨s,hs,e,k2⟩
  ·have:=v8u hL q hr hs hb ⟨⟨by omega,by omega⟩,k2⟩;subst this;omega
def upF (q:Ax) (L:List R6) (p:Int):List R4:=rgJ 2 (D4.out (z1c q L (p - 1))) (D4.out (z1c q L p))
def dnF (q:Ax) (L:List R6) (p:Int):List R4:=rgJ 2 (D4.out (z1c q L p)) (D4.out (z1c q L (p - 1)))
section
variable (q:Ax) {L:List R6} (hv: ∀r∈L,z0m r=true) (hl:L.length≤20) (hL:L.Pairwise Ap6)
include hv hl
theorem fw (p:Int):Few (z1c q L p) (D4.out (z1c q L p)) (z1c q L p).length :=u4w (v0c q hv p) (Nat.le_trans (x7b q L p) hl)
theorem z4p (p:Int):Wx.can (upF q L p)∧ ∀u v,ptL Wx.inB (upF q L p) (u,v)↔(q.inL L (p - 1) u v∧ ¬q.inL L p u v):=by have f1:=fw q hv hl (p - 1);have f2:=fw q hv hl p;obtain ⟨h1,h2,_⟩:=Qq 2 f1.val f2.val;refine ⟨h1,fun u v=> ?_⟩;rw [show ptL Wx.inB (upF q L p) (u,v)↔_ from h2 (u,v),←y3t,←y3t,←f1.pts,←f2.pts];simp [opB]
theorem z5k (p:Int):Wx.can (dnF q L p)∧ ∀u v,ptL Wx.inB (dnF q L p) (u,v)↔(q.inL L p u v∧ ¬q.inL L (p - 1) u v):=by have f1:=fw q hv hl (p - 1);have f2:=fw q hv hl p;obtain ⟨h1,h2,_⟩:=Qq 2 f2.val f1.val;refine ⟨h1,fun u v=> ?_⟩;rw [show ptL Wx.inB (dnF q L p) (u,v)↔_ from h2 (u,v),←y3t,←y3t,←f1.pts,←f2.pts];simp [opB]
include hL
theorem y7u (p:Int):(upF q L p).length +(dnF q L p).length ≤((hiL q L p).length +(loL q L p).length)*((hiL q L p).length +(loL q L p).length):=by
 have hr: ∀r∈L,q.lo r<q.hi r:=fun r h=>(q.val (hv r h)).2.1;have va: ∀s∈hiL q L p,Vx s=true:=fun s hs=>by obtain ⟨r,hr,rfl⟩:=List.mem_map.1 hs;exact (q.val (hv r (List.mem_filter.1 hr).1)).1
 have vb: ∀s∈loL q L p,Vx s=true:=fun s hs=>by obtain ⟨r,hr,rfl⟩:=List.mem_map.1 hs;exact (q.val (hv r (List.mem_filter.1 hr).1)).1
 obtain ⟨a1,a2,_⟩:=Qq 2 va vb;obtain ⟨b1,b2,_⟩:=Qq 2 vb va;obtain ⟨u1,u2⟩:=z4p q hv hl p;obtain ⟨d1,d2⟩:=z5k q hv hl p;have e1:upF q L p=rgJ 2 (hiL q L p) (loL q L p):=Wx.uniq _ _ u1 a1 fun ⟨u,v⟩=>by rw [u2,y7v q hL hr,a2];simp [opB]
 have e2:dnF q L p=rgJ 2 (loL q L p) (hiL q L p):=Wx.uniq _ _ d1 b1 fun ⟨u,v⟩=>by rw [d2,z8n q hL hr,b2];simp [opB]
 rw [e1,e2];exact v3e va vb
theorem y7b (p:Int):Xp (z1c q L p)=0∧Zg (z1c q L p)=D4.out (z1c q L p)∧rgE .d (D4.out (z1c q L (p - 1))) (D4.out (z1c q L p))=0∧rgE .d (D4.out (z1c q L p)) (D4.out (z1c q L (p - 1)))=0:=by
 have hr: ∀r∈L,q.lo r<q.hi r:=fun r h=>(q.val (hv r h)).2.1;have f1:=fw q hv hl (p - 1);have f2:=fw q hv hl p;have l1:=x7b q L (p - 1);have l2:=x7b q L p;have t:=y1r q hr p;have hud:=y7u q hv hl hL p;have h4:((hiL q L p).length +(loL q L p).length)*((hiL q L p).length +(loL q L p).length)≤400:=Nat.le_trans (Nat.mul_le_mul (Nat.le_trans t hl) (Nat.le_trans t hl)) (by decide);obtain ⟨m0,m1⟩:=u4v (v0c q hv p) (Nat.le_trans l2 hl);have n1:=Nat.le_trans f1.len (Nat.le_trans (Nat.mul_le_mul (Nat.le_trans l1 hl) (Nat.le_trans l1 hl)) (show 20*20≤400 by decide));have n2:=Nat.le_trans f2.len (Nat.le_trans (Nat.mul_le_mul (Nat.le_trans l2 hl) (Nat.le_trans l2 hl)) (show 20*20≤400 by decide));refine ⟨m1,m0,y8k .d n1 n2 f1.val f2.val f1.can f2.can (fun x=> ?_) ?_,y8k .d n2 n1 f2.val f1.val f2.can f1.can (fun x=> ?_) ?_⟩
 ·have:=f1.sec x;have:=f2.sec x;omega
 ·show (upF q L p).length ≤400;omega
 ·have:=f1.sec x;have:=f2.sec x;omega
 ·show (dnF q L p).length ≤400;omega
end
end Go.Am
namespace Go.Am
open Go.Proofs Go.Sort Go.Shelf Go.RowKit Go.Lib
def fcF (q:Ax) (s:Bool) (L:List R6) (p:Int):List R4:=match s with
 | true=>upF q L p
 | false=>dnF q L p
theorem z7y (q:Ax) (L:List R6):(plQ q L).Pairwise (· < ·):=by unfold plQ;rw [Uv];exact (Xc _).1
theorem y8o (q:Ax) (L:List R6) (p:Int):p∈plQ q L↔ ∃r∈L,p=q.lo r∨p=q.hi r:=by
 unfold plQ;rw [Uv,(Xc _).2 p];unfold z2k;constructor
 ·intro h;obtain ⟨r,hr,h⟩:=List.mem_flatMap.1 h;simp only [List.mem_cons,List.not_mem_nil,or_false] at h;exact ⟨r,hr,h⟩
 ·rintro ⟨r,hr,h⟩;exact List.mem_flatMap.2 ⟨r,hr,by simp only [List.mem_cons,List.not_mem_nil,or_false];exact h⟩
theorem x2j (E:Int→Int): ∀l:List Int,(∀p∈l,E p=0)→v5n E l=0
 | [],_=>rfl
 | p::l,h=>by unfold v5n;rw [h p (by simp)];exact x2j E l fun x hx=>h x (by simp [hx])
theorem w4z (a:Int): ∀P:List Int,P.Pairwise (· < ·)→(P.map fun p=>if a=p then 1 else 0).sum ≤1
 | [],_=>Nat.zero_le _
 | p::P,h=>by
  obtain ⟨h1,h2⟩:=List.pairwise_cons.1 h;rw [List.map_cons,List.sum_cons];by_cases e:a=p
  ·rw [if_pos e];have:(P.map fun p=>if a=p then 1 else 0)=P.map fun _=>0:=List.map_congr_left fun x hx=>by have:=h1 x hx;rw [if_neg (by omega)]
   rw [this];have: ∀l:List Int,(l.map fun _=>0).sum =0:=fun l=>by induction l with
    | nil=>rfl
    | cons _ _ ih=>rw [List.map_cons,List.sum_cons,ih]
   rw [this];exact Nat.le_refl _
  ·rw [if_neg e];have:=w4z a P h2;omega
theorem y1u (f:R6→Int) (P:List Int) (hP:P.Pairwise (· < ·)) (g:R6→R4): ∀L:List R6,(P.map fun p=>((L.filter fun r=>decide (f r=p)).map g).length).sum ≤L.length
 | []=>by
  have: ∀l:List Int,(l.map fun p=>((([]:List R6).filter fun r=>decide (f r=p)).map g).length).sum =0:=fun l=>by induction l with
   | nil=>rfl
   | cons _ _ ih=>rw [List.map_cons,List.sum_cons,ih];rfl
  rw [this];exact Nat.zero_le _
 | r::L=>by
  have ih:=y1u f P hP g L;have h1:=w4z (f r) P hP;have: ∀l:List Int,(l.map fun p=>(((r::L).filter fun r=>decide (f r=p)).map g).length).sum =(l.map fun p=>if f r=p then 1 else 0).sum +(l.map fun p=>((L.filter fun r=>decide (f r=p)).map g).length).sum :=fun l=>by
   induction l with
   | nil=>rfl
   | cons p l ih=>
    rw [List.map_cons,List.map_cons,List.map_cons,List.sum_cons,List.sum_cons,List.sum_cons,ih,List.filter_cons];by_cases e:f r=p
    ·rw [if_pos (decide_eq_true e),if_pos e,List.map_cons,List.length_cons];omega
    ·rw [if_neg (by simp [e]),if_neg e];omega
  rw [this,List.length_cons];omega
theorem y6z {α β:Type} {f g:α→List β}: ∀{l:List α},(∀a∈l,f a=g a)→l.flatMap f=l.flatMap g
 | [],_=>rfl
 | a::l,h=>by rw [List.flatMap_cons,List.flatMap_cons,h a (by simp),y6z fun x hx=>h x (by simp [hx])]
theorem z5e {α β:Type} (f:α→List β): ∀l:List α,(l.flatMap f).length =(l.map fun a=>(f a).length).sum
 | []=>rfl
 | a::l=>by rw [List.flatMap_cons,List.length_append,List.map_cons,List.sum_cons,z5e f l]
section
variable {L:List R6} (hv: ∀r∈L,z0m r=true) (hl:L.length≤20) (hL:L.Pairwise Ap6)
include hv hl hL
theorem x9n (q:Ax) (s:Bool) (p:Int) (hp: -1000000≤p∧p≤1000000):Ju q L p s=0∧Ui q L p s=fcF q s L p:=by
 have w:IntKind.wrap .i64 (p - 1)=p - 1:=Zk (by omega);obtain ⟨a1,a2,a3,a4⟩:=y7b q hv hl hL p;obtain ⟨b1,b2,_,_⟩:=y7b q hv hl hL (p - 1);have e:w4k q L p=0:=by unfold w4k Jj;rw [w,b1,a1];rfl
 unfold Ju Ui;rw [e,w];unfold Yi;rw [a2,b2];cases s with
 | true=>exact ⟨a3,by show Vz .d _ _=_;unfold Vz;rw [a3];rfl⟩
 | false=>exact ⟨a4,by show Vz .d _ _=_;unfold Vz;rw [a4];rfl⟩
theorem w7d (q:Ax) {p:Int} (h:p∈plQ q L): -1000000≤p∧p≤1000000:=by have _u:=hl;have _v:=hL;obtain ⟨r,hr,h⟩:=(y8o q L p).1 h;obtain ⟨_,h1,h2,h3⟩:=q.val (hv r hr);rcases h with rfl | rfl <;> omega
theorem w3s (q:Ax) (s:Bool):dM q s L=(plQ q L).flatMap fun p=>(fcF q s L p).map (qd q s p):=by unfold dM v1k;exact y6z fun p hp=>by rw [(x9n hv hl hL q s p (w7d hv hl hL q hp)).2]
theorem w9y (q:Ax) (s:Bool):z7m q s L=0:=x2j _ _ fun p hp=>(x9n hv hl hL q s p (w7d hv hl hL q hp)).1
theorem x7a (q:Ax):(dM q true L).length +(dM q false L).length ≤800:=by
 rw [w3s hv hl hL,w3s hv hl hL,z5e,z5e];have hr: ∀r∈L,q.lo r<q.hi r:=fun r h=>(q.val (hv r h)).2.1;have key: ∀P:List Int,(P.map fun p=>((fcF q true L p).map (qd q true p)).length).sum +(P.map fun p=>((fcF q false L p).map (qd q false p)).length).sum ≤20*((P.map fun p=>(hiL q L p).length).sum +(P.map fun p=>(loL q L p).length).sum):=fun P=>by
  induction P with
  | nil=>exact Nat.le_refl _
  | cons p P ih=>simp only [List.map_cons,List.sum_cons,List.length_map] at ih ⊢;have h1:=y7u q hv hl hL p;have h2:=Nat.le_trans (y1r q hr p) hl;have h3:=Nat.mul_le_mul_right ((hiL q L p).length +(loL q L p).length) h2;have e1:(fcF q true L p).length =(upF q L p).length :=rfl;have e2:(fcF q false L p).length =(dnF q L p).length :=rfl;omega
 have h1:=y1u q.hi (plQ q L) (z7y q L) q.rc L;have h2:=y1u q.lo (plQ q L) (z7y q L) q.rc L;have:=key (plQ q L);unfold hiL loL at this;omega
theorem z6m :v9o L=0∧(Qe L).length ≤2400:=by
 have h1:=x7a hv hl hL .x;have h2:=x7a hv hl hL .y;have h3:=x7a hv hl hL .z;have hn:(Qe L).length ≤2400:=by unfold Qe;simp only [List.length_append];omega
 refine ⟨?_,hn⟩;unfold v9o;simp only [w9y hv hl hL];rw [decide_eq_false (by omega)];rfl
end
theorem y8q {L:List R6} (h:Wk L=0) (hl:L.length≤20):z6l L=0∧Zb L=Qe L:=by obtain ⟨_,hv,_,hL⟩:=Xo h;have hz:=(z6m hv hl hL).1;unfold z6l Zb z3b Jv;rw [h,hz];exact ⟨rfl,rfl⟩
theorem u4r {L:List R6} (h:u4t L=true):L.length≤20∧Wk L=0:=by simp only [u4t,Bool.and_eq_true,decide_eq_true_eq] at h;exact ⟨by omega,(v5z L).trans (eq_of_beq h.2)⟩
end Go.Am
namespace Go.Am
open Go.Proofs Go.Sort Go.Shelf Go.RowKit Go.Lib
theorem v0d (L:List R6) (z:Int):z1c .z L z=D6.inn L z:=rfl
theorem y6h (L:List R6) (z u v:Int):ptL Wx.inB (D6.inn L z) (u,v)↔Ax.inL .z L z u v:=y3t .z L z u v
theorem x6g (k:Nat) {a b:List R4} (ha: ∀r∈a,Vx r=true) (hb: ∀r∈b,Vx r=true) (x:Int):(D4.inn (rgJ k a b) x).length ≤(D4.inn a x).length +(D4.inn b x).length :=by
 obtain ⟨j1,j2,_⟩:=Qq k ha hb;obtain ⟨s1,s2⟩:=z7p k (Vw ha x) (Vw hb x);have e:D4.inn (rgJ k a b) x=spJ k (D4.inn a x) (D4.inn b x):=y5p.uniq _ _ (y1g j1 x) s1 fun y=>by rw [s2];show pt (D4.inn (rgJ k a b) x) y↔_;rw [z2w,j2];have e1:decide (pt (D4.inn a x) y)=decide (ptL Wx.inB a (x,y)):=decide_eq_decide.2 (z2w a x y);have e2:decide (pt (D4.inn b x) y)=decide (ptL Wx.inB b (x,y)):=decide_eq_decide.2 (z2w b x y);rw [e1,e2]
 rw [e];exact z0o k (Vw ha x) (Vw hb x)
theorem x8v {l:List R4} (hl:l.length≤400) (hv: ∀r∈l,Vx r=true) (hc:Wx.can l):Xp l=0∧Zg l=l:=by obtain ⟨h1,h2⟩:=Qk hv hl;have e:D4.out l=l:=Wx.uniq _ _ h1 hc h2;obtain ⟨r0,r1⟩:=z6a hv hl (by rw [e];exact hl);exact ⟨r1,r0.trans e⟩
theorem u3d {A B:Prop} [Decidable A] [Decidable B]:opB 2 (decide A) (decide B)=true↔A∧ ¬B:=by simp [opB]
theorem opB1i {A B:Prop} [Decidable A] [Decidable B]:opB 1 (decide A) (decide B)=true↔A∧B:=by simp [opB]
theorem opB0i {A B:Prop} [Decidable A] [Decidable B]:opB 0 (decide A) (decide B)=true↔A∨B:=by simp [opB]
theorem v8j (q:Op) {a b:List R4} (h:rgE q a b=0):Vz q a b=rgJ q.k a b:=by unfold Vz;rw [h];rfl
section
variable {L:List R6} (h:Wk L=0) (hl:L.length≤20)
include h hl
theorem x2d {G:List (Qv R4)} (hG:z1d Wx G) (e:L=D6.flat G) {g:Qv R4} (hg:g∈G) {x:Int} (hx:g.a≤x∧x<g.b):D6.inn L x=g.s:=by
 have hc:=(Xo h).1;have _u:=hl;refine Wx.uniq _ _ (by rw [e];exact Dim.inn_can z2f Wx x G hG) (hG.all g hg).2.1 fun p=> ?_;rw [Dim.pt_inn (D:=D6) Wx.inB L x p,e,Dim.flat_pt z2f Wx G x p];constructor
 ·rintro ⟨k,hk,k1,k2,k3⟩;obtain ⟨i,hi,ei⟩:=List.getElem_of_mem hg;obtain ⟨j,hj,ej⟩:=List.getElem_of_mem hk;have pw:G.Pairwise fun g k=>g.b≤k.a:=by
   clear e hg hk hi hj ei ej
   induction G with
   | nil=>exact .nil
   | cons m r ih=>exact List.pairwise_cons.2 ⟨hG.later,ih hG.tail⟩
  have pw:=List.pairwise_iff_getElem.1 pw;rcases Nat.lt_trichotomy i j with q | q | q
  ·have:=pw i j hi hj q;rw [ei,ej] at this;omega
  ·subst q;rw [←ei,ej];exact k3
  ·have:=pw j i hj hi q;rw [ei,ej] at this;omega
 ·intro k3;exact ⟨g,hg,hx.1,hx.2,k3⟩
theorem v3r {z:Int} (hz:D6.inn L (z - 1)≠D6.inn L z) {r:R6} (hr:r∈L): ¬(r.c≤z - 1∧z<r.f):=fun hx=>by obtain ⟨G,hG,e⟩:=x4d h;rw [e] at hr;obtain ⟨g,hg,hr⟩:=List.mem_flatMap.1 hr;obtain ⟨b,_,rfl⟩:=List.mem_map.1 hr;have h1:g.a≤z - 1∧z<g.b:=hx;exact hz ((x2d h hl hG e hg ⟨by omega,by omega⟩).trans (x2d h hl hG e hg ⟨by omega,by omega⟩).symm)
theorem v1n {z:Int} (hz:D6.inn L (z - 1)≠D6.inn L z):(D6.inn L (z - 1)).length +(D6.inn L z).length ≤20:=by
 have hn: ∀r∈L,¬((decide (r.c≤z - 1)&&decide (z - 1<r.f))=true∧(decide (r.c≤z)&&decide (z<r.f))=true):=fun r hr hx=>by simp only [Bool.and_eq_true,decide_eq_true_eq] at hx;exact v3r h hl hz hr ⟨hx.1.1,hx.2.2⟩
 refine Nat.le_trans ?_ hl;show ((L.filter fun r=>decide (r.c≤z - 1)&&decide (z - 1<r.f)).map _).length +((L.filter fun r=>decide (r.c≤z)&&decide (z<r.f)).map _).length ≤_;rw [List.length_map,List.length_map];clear h hl hz
 induction L with
 | nil=>exact Nat.le_refl _
 | cons r l ih=>
  have ih:=ih fun s hs=>hn s (by simp [hs]);have:=hn r (by simp);rw [List.filter_cons,List.filter_cons];by_cases q1:(decide (r.c≤z - 1)&&decide (z - 1<r.f))=true
  ·rw [if_pos q1,if_neg fun q2=>this ⟨q1,q2⟩];simp only [List.length_cons];omega
  ·rw [if_neg q1];by_cases q2:(decide (r.c≤z)&&decide (z<r.f))=true
   ·rw [if_pos q2];simp only [List.length_cons];omega
   ·rw [if_neg q2];simp only [List.length_cons];omega
theorem u1p (z:Int):Wx.can (D6.inn L z)∧(∀r∈D6.inn L z,Vx r=true)∧(D6.inn L z).length ≤20∧D4.out (D6.inn L z)=D6.inn L z:=by
 obtain ⟨_,hv,_,_⟩:=Xo h;obtain ⟨G,hG,e⟩:=x4d h;have c:Wx.can (D6.inn L z):=by rw [e];exact Dim.inn_can z2f Wx z G hG
 have v:=y3z hv z;have n:=Nat.le_trans (D6.inn_length L z) hl;exact ⟨c,v,n,Wx.uniq _ _ (Qk v (by omega)).1 c (Qk v (by omega)).2⟩
theorem u4y (z:Int):upF .z L z=rgJ 2 (D6.inn L (z - 1)) (D6.inn L z)∧dnF .z L z=rgJ 2 (D6.inn L z) (D6.inn L (z - 1)):=by unfold upF dnF;rw [v0d,v0d,(u1p h hl z).2.2.2,(u1p h hl (z - 1)).2.2.2];exact ⟨rfl,rfl⟩
theorem step_z {z:Int} (hz:D6.inn L (z - 1)≠D6.inn L z):u6s (D6.inn L (z - 1)) (upF .z L z) (dnF .z L z)=false∧y8r (D6.inn L (z - 1)) (upF .z L z) (dnF .z L z)=D6.inn L z:=by
 obtain ⟨a1,a2,a3,_⟩:=u1p h hl (z - 1);obtain ⟨b1,b2,b3,_⟩:=u1p h hl z;have hs:=v1n h hl hz;obtain ⟨_,hv,_,hL⟩:=Xo h;obtain ⟨eu,ed⟩:=u4y h hl z;have hud:=y7u .z hv hl hL z;have hr: ∀r∈L,Ax.lo .z r<Ax.hi .z r:=fun r k=>(Ax.val .z (hv r k)).2.1;have ht:=Nat.le_trans (y1r .z hr z) hl;have h4:((hiL .z L z).length +(loL .z L z).length)*((hiL .z L z).length +(loL .z L z).length)≤400:=Nat.le_trans (Nat.mul_le_mul ht ht) (by decide);rw [eu,ed] at hud;rw [eu,ed];obtain ⟨u1,u2,_⟩:=Qq 2 a2 b2;obtain ⟨d1,d2,_⟩:=Qq 2 b2 a2;have uv: ∀r∈rgJ 2 (D6.inn L (z - 1)) (D6.inn L z),Vx r=true:=z4b u1 fun u v k=>by have:=(u2 (u,v)).1 k;simp only [opB,Bool.and_eq_true,decide_eq_true_eq] at this;exact z3l a2 this.1
 have dv: ∀r∈rgJ 2 (D6.inn L z) (D6.inn L (z - 1)),Vx r=true:=z4b d1 fun u v k=>by have:=(d2 (u,v)).1 k;simp only [opB,Bool.and_eq_true,decide_eq_true_eq] at this;exact z3l b2 this.1
 obtain ⟨m1,m0⟩:=x8v (l:=rgJ 2 (D6.inn L (z - 1)) (D6.inn L z)) (by omega) uv u1;obtain ⟨n1,n0⟩:=x8v (l:=rgJ 2 (D6.inn L z) (D6.inn L (z - 1))) (by omega) dv d1;obtain ⟨r1,r2,_⟩:=Qq 2 a2 uv;obtain ⟨c1,c2,c3⟩:=Qq 1 a2 b2;have er:rgJ 2 (D6.inn L (z - 1)) (rgJ 2 (D6.inn L (z - 1)) (D6.inn L z))=rgJ 1 (D6.inn L (z - 1)) (D6.inn L z):=Wx.uniq _ _ r1 c1 fun p=>by rw [r2,c2,u3d,opB1i,u2 p,u3d];by_cases g1:ptL Wx.inB (D6.inn L (z - 1)) p <;> by_cases g2:ptL Wx.inB (D6.inn L z) p <;> simp [g1,g2]
 have cl:(rgJ 1 (D6.inn L (z - 1)) (D6.inn L z)).length ≤400:=Nat.le_trans c3 (Nat.le_trans (Nat.mul_le_mul hs hs) (by decide));have i1: ∀x,(D4.inn (D6.inn L (z - 1)) x).length ≤20:=fun x=>Nat.le_trans (D4.inn_length _ x) a3;have i2: ∀x,(D4.inn (D6.inn L z) x).length ≤20:=fun x=>Nat.le_trans (D4.inn_length _ x) b3;have z1:rgE .d (D6.inn L (z - 1)) (rgJ 2 (D6.inn L (z - 1)) (D6.inn L z))=0:=y8k .d (by omega) (by omega) a2 uv a1 u1
  (fun x=>by have:=x6g 2 a2 b2 x;have:=i1 x;have:=i2 x;omega) (by
   show (rgJ 2 (D6.inn L (z - 1)) (rgJ 2 (D6.inn L (z - 1)) (D6.inn L z))).length ≤400;rw [er];exact cl)
 have v1:Vz .d (D6.inn L (z - 1)) (rgJ 2 (D6.inn L (z - 1)) (D6.inn L z))=rgJ 1 (D6.inn L (z - 1)) (D6.inn L z):=(v8j .d z1).trans er;have cv: ∀r∈rgJ 1 (D6.inn L (z - 1)) (D6.inn L z),Vx r=true:=z4b c1 fun u v k=>by have:=(c2 (u,v)).1 k;simp only [opB,Bool.and_eq_true,decide_eq_true_eq] at this;exact z3l a2 this.1
 obtain ⟨w1,w2,_⟩:=Qq 0 cv dv;have ew:rgJ 0 (rgJ 1 (D6.inn L (z - 1)) (D6.inn L z)) (rgJ 2 (D6.inn L z) (D6.inn L (z - 1)))=D6.inn L z:=Wx.uniq _ _ w1 b1 fun p=>by rw [w2,opB0i,c2 p,opB1i,d2 p,u3d];by_cases g1:ptL Wx.inB (D6.inn L (z - 1)) p <;> by_cases g2:ptL Wx.inB (D6.inn L z) p <;> simp [g1,g2]
 have z2:rgE .u (rgJ 1 (D6.inn L (z - 1)) (D6.inn L z)) (rgJ 2 (D6.inn L z) (D6.inn L (z - 1)))=0:=y8k .u cl (by omega) cv dv c1 d1
  (fun x=>by have:=x6g 1 a2 b2 x;have:=x6g 2 b2 a2 x;have:=i1 x;have:=i2 x;omega) (by
   show (rgJ 0 (rgJ 1 (D6.inn L (z - 1)) (D6.inn L z)) (rgJ 2 (D6.inn L z) (D6.inn L (z - 1)))).length ≤400;rw [ew];omega)
 unfold u6s y8r;rw [m1,n1,m0,n0,z1,v1,z2];exact ⟨rfl,(v8j .u z2).trans ew⟩
end
end Go.Am
namespace Go.Am
open Go.Proofs Go.Sort Go.Shelf Go.RowKit Go.Lib
theorem zQ_nil {d:Int} {l:List R7} (z:Int) (h: ∀r∈l,r.a≠d):zQ d l z=[]:=by unfold zQ;rw [List.map_eq_nil_iff,List.filter_eq_nil_iff];intro r hr hq;simp only [Bool.and_eq_true,decide_eq_true_eq] at hq;exact h r hr hq.1
theorem v6l (s:Bool) (p:Int) (l:List R4) (z:Int):zQ (match s with | true=>4 | false=>5) (l.map (qd .z s p)) z=if p=z then l else []:=by
 induction l with
 | nil=>cases s <;> (by_cases e:p=z <;> simp [e,zQ])
 | cons r l ih=>
  rw [List.map_cons,show qd .z s p r::l.map (qd .z s p)=[qd .z s p r]++l.map (qd .z s p) from rfl,Wc,ih];by_cases e:p=z
  ·rw [if_pos e,if_pos e];cases s <;> simp [zQ,qd,e]
  ·rw [if_neg e,if_neg e,List.append_nil];cases s <;> simp [zQ,qd,e]
theorem x3k (s:Bool) (F:Int→List R4) (z:Int): ∀P:List Int,P.Pairwise (· < ·)→(z ∉ P→F z=[])→zQ (match s with | true=>4 | false=>5) (P.flatMap fun p=>(F p).map (qd .z s p)) z=F z
 | [],_,h=>by rw [h (by simp)];cases s <;> rfl
 | p::P,hP,h=>by
  obtain ⟨h1,h2⟩:=List.pairwise_cons.1 hP;rw [List.flatMap_cons,Wc,v6l];by_cases e:p=z
  ·subst e;rw [if_pos rfl];have: ∀Q:List Int,(∀x∈Q,p<x)→zQ (match s with | true=>4 | false=>5) (Q.flatMap fun p=>(F p).map (qd .z s p)) p=[]:=fun Q=>by
    induction Q with
    | nil=>intro _;cases s <;> rfl
    | cons x Q ih=>intro hx;rw [List.flatMap_cons,Wc,v6l,if_neg (by have:=hx x (by simp);omega),ih fun y hy=>hx y (by simp [hy])];rfl
   rw [this P h1,List.append_nil]
  ·rw [if_neg e,List.nil_append];exact x3k s F z P h2 fun hn=>h (by simp [hn,Ne.symm e])
theorem qd_a (q:Ax) (s:Bool) (p:Int) (t:R4):(qd q s p t).a =2*q.ix+sdI s:=by cases q <;> cases s <;> rfl
theorem dM_a {q:Ax} {s:Bool} {L:List R6} {r:R7} (h:r∈dM q s L):r.a=2*q.ix+sdI s:=by obtain ⟨p,_,h⟩:=List.mem_flatMap.1 h;obtain ⟨t,_,rfl⟩:=List.mem_map.1 h;exact qd_a q s p t
section
variable {L:List R6} (h:Wk L=0) (hl:L.length≤20)
include h hl
theorem y8s (q:Ax) {p:Int} (hp:p ∉ plQ q L):upF q L p=[]∧dnF q L p=[]:=by
 obtain ⟨_,hv,_,hL⟩:=Xo h;have hr: ∀r∈L,q.lo r<q.hi r:=fun r k=>(q.val (hv r k)).2.1;obtain ⟨u1,u2⟩:=z4p q hv hl p;obtain ⟨d1,d2⟩:=z5k q hv hl p;constructor
 ·refine z0t Wx u1 fun ⟨u,v⟩ k=> ?_;have:=(y7v q hL hr p u v).1 ((u2 u v).1 k);obtain ⟨r,hr,e,_⟩:=(w8v q L p u v).1 this.1;exact hp ((y8o q L p).2 ⟨r,hr,.inr e.symm⟩)
 ·refine z0t Wx d1 fun ⟨u,v⟩ k=> ?_;have:=(z8n q hL hr p u v).1 ((d2 u v).1 k);obtain ⟨r,hr,e,_⟩:=(w8i q L p u v).1 this.1;exact hp ((y8o q L p).2 ⟨r,hr,.inl e.symm⟩)
theorem y1q (z:Int):zQ 4 (Qe L) z=upF .z L z∧zQ 5 (Qe L) z=dnF .z L z:=by
 obtain ⟨_,hv,_,hL⟩:=Xo h;have f4:=x3k true (fcF .z true L) z (plQ .z L) (z7y .z L) fun hn=>(y8s h hl .z hn).1;have f5:=x3k false (fcF .z false L) z (plQ .z L) (z7y .z L) fun hn=>(y8s h hl .z hn).2;rw [←w3s hv hl hL] at f4 f5;have no: ∀(d:Int) (q:Ax) (s:Bool),d≠2*q.ix+sdI s→zQ d (dM q s L) z=[]:=fun d q s hd=>zQ_nil z fun r hr e=>hd (e ▸ dM_a hr);unfold Qe;constructor
 ·rw [Wc,Wc,Wc,Wc,Wc,no 4 .x true (by decide),no 4 .x false (by decide),no 4 .y true (by decide),no 4 .y false (by decide),no 4 .z false (by decide),List.append_nil];exact f4
 ·rw [Wc,Wc,Wc,Wc,Wc,no 5 .x true (by decide),no 5 .x false (by decide),no 5 .y true (by decide),no 5 .y false (by decide),no 5 .z true (by decide)];exact f5
theorem x5g (z:Int):z∈plZ (Qe L)↔D6.inn L (z - 1)≠D6.inn L z:=by
 obtain ⟨_,hv,_,hL⟩:=Xo h;obtain ⟨u1,u2⟩:=z4p .z hv hl z;obtain ⟨d1,d2⟩:=z5k .z hv hl z;have hm:z∈plZ (Qe L)↔upF .z L z≠ []∨dnF .z L z≠ []:=by
  unfold plZ;rw [Uv,(Xc _).2 z];unfold zsQ;constructor
  ·intro k;obtain ⟨r,hr,e⟩:=List.mem_map.1 k;obtain ⟨hr,ha⟩:=List.mem_filter.1 hr;have ha:=of_decide_eq_true ha;have key:r.a=4∨r.a=5:=by
    unfold Qe at hr;simp only [List.mem_append] at hr;rcases hr with ((((hr | hr) | hr) | hr) | hr) | hr <;> have e:=dM_a hr
    ·have e:r.a=0:=e;omega
    ·have e:r.a=1:=e;omega
    ·have e:r.a=2:=e;omega
    ·have e:r.a=3:=e;omega
    ·exact .inl e
    ·exact .inr e
   have me: ∀d,r.a=d→zQ d (Qe L) z≠ []:=fun d hd hn=>by unfold zQ at hn;rw [List.map_eq_nil_iff,List.filter_eq_nil_iff] at hn;exact hn r hr (by simp [hd,e])
   rcases key with e4 | e5
   ·exact .inl (by rw [←(y1q h hl z).1];exact me 4 e4)
   ·exact .inr (by rw [←(y1q h hl z).2];exact me 5 e5)
  ·intro k;have me: ∀d,4≤d→zQ d (Qe L) z≠ []→z∈((Qe L).filter fun r=>decide (4≤r.a)).map (·.d):=fun d hd hn=>by obtain ⟨t,ht⟩:=List.exists_mem_of_ne_nil _ hn;obtain ⟨r,hr,_⟩:=List.mem_map.1 ht;obtain ⟨hr,hq⟩:=List.mem_filter.1 hr;simp only [Bool.and_eq_true,decide_eq_true_eq] at hq;exact List.mem_map.2 ⟨r,List.mem_filter.2 ⟨hr,decide_eq_true (by omega)⟩,hq.2⟩
   rcases k with k | k
   ·exact me 4 (by decide) (by rw [(y1q h hl z).1];exact k)
   ·exact me 5 (by decide) (by rw [(y1q h hl z).2];exact k)
 rw [hm];constructor
 ·rintro hk e;rcases hk with hk | hk
  ·refine hk (z0t Wx u1 fun ⟨u,v⟩ k=> ?_);have k:=(u2 u v).1 k;rw [←y6h,←y6h,e] at k;exact k.2 k.1
  ·refine hk (z0t Wx d1 fun ⟨u,v⟩ k=> ?_);have k:=(d2 u v).1 k;rw [←y6h,←y6h,e] at k;exact k.2 k.1
 ·intro hn;refine Classical.byContradiction fun hk=>hn ?_;rw [not_or,Decidable.not_not,Decidable.not_not] at hk;refine Wx.uniq _ _ (u1p h hl (z - 1)).1 (u1p h hl z).1 fun ⟨u,v⟩=> ?_;rw [y6h,y6h];have a:=u2 u v;have b:=d2 u v;rw [hk.1] at a;rw [hk.2] at b;have a: ¬(Ax.inL .z L (z - 1) u v∧ ¬Ax.inL .z L z u v):=fun k=>z2v _ _ (a.2 k);have b: ¬(Ax.inL .z L z u v∧ ¬Ax.inL .z L (z - 1) u v):=fun k=>z2v _ _ (b.2 k);exact ⟨fun k=>Classical.byContradiction fun m=>a ⟨k,m⟩,fun k=>Classical.byContradiction fun m=>b ⟨k,m⟩⟩
theorem far {x:Int} (hx:x< -1000000∨1000000≤x):D6.inn L x=[]:=by have _u:=hl;obtain ⟨_,hv,_,_⟩:=Xo h;show (L.filter _).map _=[];rw [List.map_eq_nil_iff,List.filter_eq_nil_iff];intro r hr hq;have:=z5q (hv r hr);simp only [Bool.and_eq_true,decide_eq_true_eq] at hq;have h1:r.c≤x:=hq.1;have h2:x<r.f:=hq.2;omega
end
theorem const (S:Int→List R4) (a:Int): ∀n:Nat,(∀x,a<x→x≤a+n→S (x - 1)=S x)→S (a+n)=S a
 | 0,_=>by rw [show a+((0:Nat):Int)=a by omega]
 | n+1,h=>by
  have:=const S a n fun x h1 h2=>h x h1 (by omega);rw [←this,←h (a+((n+1:Nat):Int)) (by omega) (Int.le_refl _)]
  congr 1;omega
theorem const' (S:Int→List R4) {a b:Int} (hab:a≤b) (h: ∀x,a<x→x≤b→S (x - 1)=S x):S b=S a:=by have:=const S a (b - a).toNat fun x h1 h2=>h x h1 (by omega);rw [show a+((b - a).toNat :Int)=b by omega] at this;exact this
structure Chg (S:Int→List R4) (r:List Int) (lo:Int):Prop where
 asc:r.Pairwise (· < ·)
 low: ∀z∈r,lo≤z
 ne: ∀z∈r,S (z - 1)≠S z
 all: ∀x,lo≤x→S (x - 1)≠S x→x∈r
theorem Chg.tail {S:Int→List R4} {z lo:Int} {r:List Int} (h:Chg S (z::r) lo):Chg S r (z+1):=by
 obtain ⟨h1,h2⟩:=List.pairwise_cons.1 h.asc;refine ⟨h2,fun x hx=>by have:=h1 x hx;omega,fun x hx=>h.ne x (by simp [hx]),fun x hx hn=> ?_⟩;have:=h.low z (by simp);rcases List.mem_cons.1 (h.all x (by omega) hn) with e | e
 ·omega
 ·exact e
theorem Chg.flat {S:Int→List R4} {lo:Int} {r:List Int} (h:Chg S r lo) {x:Int} (hx:lo - 1≤x) (hr: ∀z∈r,x<z):S x=S (lo - 1):=
 const' S hx fun y h1 h2=>Classical.byContradiction fun hn=>by have:=hr y (h.all y (by omega) hn);omega
def bxs (S:Int→List R4):List Int→List R6
 | []=>[]
 | z::r=>(match r with
  | []=>[]
  | z'::_=>(S z).map (pz6 z z'))++bxs S r
def gbs (S:Int→List R4):List Int→List (Qv R4)
 | []=>[]
 | z::r=>(match r with
  | []=>[]
  | z'::_=>match S z with
   | []=>[]
   | t::s=>[⟨z,z',t::s⟩])++gbs S r
theorem w0e (S:Int→List R4): ∀r,D6.flat (gbs S r)=bxs S r
 | []=>rfl
 | [z]=>rfl
 | z::z'::r=>by
  have ih:=w0e S (z'::r);show D6.flat ((match S z with | []=>[] | t::s=>[⟨z,z',t::s⟩])++gbs S (z'::r))=(S z).map (pz6 z z')++bxs S (z'::r);rw [D6.flat_append,ih]
  congr 1
  cases S z with
  | nil=>rfl
  | cons t s=>exact D6.flat_one _
theorem y9i (S:Int→List R4): ∀(r:List Int) (lo:Int),Chg S r lo→ ∀g∈gbs S r,g.a∈r∧g.a<g.b∧g.s=S g.a∧g.s≠ []∧ ∀x,g.a≤x→x<g.b→S x=g.s
 | [],_,_,g,hg=>by cases hg
 | [z],_,_,g,hg=>by cases hg
 | z ::z'::r,lo,h,g,hg=>by
  have ht:=h.tail;rcases List.mem_append.1 hg with hg | hg
  ·have hz:=ht.low z' (by simp);have ht2:=(List.pairwise_cons.1 ht.asc).1;have cst: ∀x,z≤x→x<z'→S x=S z:=fun x h1 h2=>by
    have:=ht.flat (x:=x) (by omega) fun y hy=>by
     rcases List.mem_cons.1 hy with rfl | hy
     ·exact h2
     ·have:=ht2 y hy;omega
    rw [this,show z+1 - 1=z by omega]
   have hg:g∈(match S z with | []=>[] | t::s=>[(⟨z,z',t::s⟩:Qv R4)]):=hg;cases e:S z with
   | nil=>rw [e] at hg;cases hg
   | cons t s=>rw [e] at hg;obtain rfl:=List.mem_singleton.1 hg;exact ⟨by simp,by show z<z';omega,e.symm,by simp,fun x h1 h2=>(cst x h1 h2).trans e⟩
  ·obtain ⟨g1,g2⟩:=y9i S (z'::r) (z+1) ht g hg;exact ⟨by simp only [List.mem_cons] at g1 ⊢;exact .inr g1,g2⟩
theorem w9b (S:Int→List R4) (hS: ∀x,Wx.can (S x)): ∀(r:List Int) (lo:Int),Chg S r lo→z1d Wx (gbs S r)
 | [],_,_=>.nil
 | [z],_,_=>.nil
 | z ::z'::r,lo,h=>by
  have ht:=h.tail;have ih:=w9b S hS (z'::r) (z+1) ht;have hz:=ht.low z' (by simp);have ht2:=(List.pairwise_cons.1 ht.asc).1;show z1d Wx ((match S z with | []=>[] | t::s=>[⟨z,z',t::s⟩])++gbs S (z'::r));cases e:S z with
  | nil=>exact ih
  | cons t s=>
   have ok:OkS Wx (⟨z,z',t::s⟩:Qv R4):=⟨by show z<z';omega,by show Wx.can (t::s);rw [←e];exact hS z,by simp⟩
   cases eg:gbs S (z'::r) with
   | nil=>exact .one _ ok
   | cons k G=>
    rw [eg] at ih;obtain ⟨m1,_,m3,_⟩:=y9i S (z'::r) (z+1) ht k (by rw [eg];simp);refine .cons _ k G ok ⟨?_,fun eb es=> ?_⟩ ih
    ·show z'≤k.a;rcases List.mem_cons.1 m1 with e | e
     ·omega
     ·have:=ht2 _ e;omega
    ·have eb:z'=k.a:=eb;have es:t::s=k.s:=es;have c:=ht.flat (x:=z' - 1) (by omega) fun y hy=>by
      rcases List.mem_cons.1 hy with rfl | hy
      ·omega
      ·have:=ht2 y hy;omega
     refine ht.ne z' (by simp) ?_;rw [c,show z+1 - 1=z by omega,e,es,m3,←eb]
theorem w9a (S:Int→List R4) (hf: ∀x,1000000≤x→S x=[]): ∀(r:List Int) (lo:Int),Chg S r lo→S (lo - 1)=[]→ ∀x,S x≠ []→lo≤x→ ∃g∈gbs S r,g.a≤x∧x<g.b
 | [],lo,h,h0,x,hx,hlo=>by refine (hx ?_).elim;rw [h.flat (by omega) (by simp),h0]
 | [z],lo,h,h0,x,hx,hlo=>by
  have hz:=h.low z (by simp);by_cases q:x<z
  ·refine (hx ?_).elim;rw [h.flat (by omega) (by simpa using q),h0]
  ·refine (hx ?_).elim;have ht:=h.tail;have e1:=ht.flat (x:=x) (by omega) (by simp);have e2:=ht.flat (x:=x+2000000+z.natAbs) (by omega) (by simp);rw [e1,←e2];exact hf _ (by omega)
 | z ::z'::r,lo,h,h0,x,hx,hlo=>by
  have ht:=h.tail;have hz:=h.low z (by simp);have hz':=ht.low z' (by simp);have ht2:=(List.pairwise_cons.1 ht.asc).1;by_cases q:x<z
  ·refine (hx ?_).elim;rw [h.flat (by omega) fun y hy=>by
    rcases List.mem_cons.1 hy with rfl | hy
    ·exact q
    ·have:=(List.pairwise_cons.1 h.asc).1 y hy;omega,h0]
  by_cases q2:x<z'
  ·have c:S x=S z:=by
    have:=ht.flat (x:=x) (by omega) fun y hy=>by
     rcases List.mem_cons.1 hy with rfl | hy
     ·exact q2
     ·have:=ht2 y hy;omega
    rw [this,show z+1 - 1=z by omega]
   cases e:S z with
   | nil=>exact (hx (c.trans e)).elim
   | cons t s=>refine ⟨⟨z,z',t::s⟩,?_,by show z≤x;omega,q2⟩;show _∈(match S z with | []=>[] | t::s=>[⟨z,z',t::s⟩])++gbs S (z'::r);rw [e];simp
  ·have go: ∃g∈gbs S (z'::r),g.a≤x∧x<g.b:=by
    by_cases hS:S z=[]
    ·exact w9a S hf (z'::r) (z+1) ht (by rw [show z+1 - 1=z by omega];exact hS) x hx (by omega)
    ·-- the section before z' is not empty: start at z'
     exact gbs_hit2 S hf z' r ((z+1)) ht x hx (by omega)
   obtain ⟨g,hg,hh⟩:=go;exact ⟨g,List.mem_append.2 (.inr hg),hh⟩
where
 gbs_hit2 (S:Int→List R4) (hf: ∀x,1000000≤x→S x=[]) (z':Int): ∀(r:List Int) (lo:Int),Chg S (z'::r) lo→ ∀x,S x≠ []→z'≤x→ ∃g∈gbs S (z'::r),g.a≤x∧x<g.b
  | [],lo,h,x,hx,hlo=>by refine (hx ?_).elim;have ht:=h.tail;have e1:=ht.flat (x:=x) (by omega) (by simp);have e2:=ht.flat (x:=x+2000000+z'.natAbs) (by omega) (by simp);rw [e1,←e2];exact hf _ (by omega)
  | z2::r,lo,h,x,hx,hlo=>by
   have ht:=h.tail;have hz':=ht.low z2 (by simp);have ht2:=(List.pairwise_cons.1 ht.asc).1;by_cases q2:x<z2
   ·have c:S x=S z':=by
     have:=ht.flat (x:=x) (by omega) fun y hy=>by
      rcases List.mem_cons.1 hy with rfl | hy
      ·exact q2
      ·have:=ht2 y hy;omega
     rw [this,show z'+1 - 1=z' by omega]
    cases e:S z' with
    | nil=>exact (hx (c.trans e)).elim
    | cons t s=>refine ⟨⟨z',z2,t::s⟩,?_,by show z'≤x;omega,q2⟩;show _∈(match S z' with | []=>[] | t::s=>[⟨z',z2,t::s⟩])++gbs S (z2::r);rw [e];simp
   ·obtain ⟨g,hg,hh⟩:=gbs_hit2 S hf z2 r (z'+1) ht x hx (by omega);exact ⟨g,List.mem_append.2 (.inr hg),hh⟩
end Go.Am
namespace Go.Am
open Go.Proofs Go.Sort Go.Shelf Go.RowKit Go.Lib
theorem z8l {x y z:Int} (hx: -1000000≤x∧x≤1000000) (hy: -1000000≤y∧y≤1000000) (hz: -1000000≤z∧z≤1000000):w9j x y z=true:=by
 unfold w9j;rw [Bool.and_eq_true,decide_eq_true_eq,decide_eq_true_eq];unfold z5c Kq;constructor
 ·(repeat' split) <;> omega
 ·(repeat' split) <;> omega
theorem u0t (q:Ax) (s:Bool) {p:Int} (hp: -1000000≤p∧p≤1000000) {t:R4} (ht:Vx t=true):w4v (qd q s p t)=true:=by
 simp only [Vx,Bool.and_eq_true,decide_eq_true_eq] at ht;have bb: ∀{x:Int},(-1000000≤x∧x≤1000000)→(-1000000≤x∧x≤1000000):=fun h=>h;have ha: -1000000≤t.a∧t.a≤1000000:=by omega
 have hb: -1000000≤t.b∧t.b≤1000000:=by omega
 have hc: -1000000≤t.c∧t.c≤1000000:=by omega
 have hd: -1000000≤t.d∧t.d≤1000000:=by omega
 have h1:decide (t.a<t.c)=true:=decide_eq_true (by omega);have h2:decide (t.b<t.d)=true:=decide_eq_true (by omega);have hq:(p == p)=true:=by simp
 cases q <;> cases s <;> unfold w4v qd <;> simp only [z8l hp ha hb,z8l hp hc hd,z8l ha hp hb,z8l hc hp hd,z8l ha hb hp,z8l hc hd hp,h1,h2,hq] <;> rfl
section
variable {L:List R6} (h:Wk L=0) (hl:L.length≤20)
include h hl
theorem u4x (q:Ax) (s:Bool) (p:Int): ∀t∈fcF q s L p,Vx t=true:=by
 obtain ⟨_,hv,_,hL⟩:=Xo h;have f1:=fw q hv hl (p - 1);have f2:=fw q hv hl p;cases s with
 | true=>obtain ⟨u1,u2⟩:=z4p q hv hl p;refine z4b u1 fun u v k=> ?_;have:=((u2 u v).1 k).1;rw [←y3t,←f1.pts] at this;exact z3l f1.val this
 | false=>obtain ⟨u1,u2⟩:=z5k q hv hl p;refine z4b u1 fun u v k=> ?_;have:=((u2 u v).1 k).1;rw [←y3t,←f2.pts] at this;exact z3l f2.val this
theorem x9o {r:R7} (hr:r∈Qe L): ∃q s p t,p∈plQ q L∧t∈fcF q s L p∧r=qd q s p t:=by
 obtain ⟨_,hv,_,hL⟩:=Xo h;have go: ∀q s,r∈dM q s L→ ∃q s p t,p∈plQ q L∧t∈fcF q s L p∧r=qd q s p t:=fun q s k=>by rw [w3s hv hl hL] at k;obtain ⟨p,hp,k⟩:=List.mem_flatMap.1 k;obtain ⟨t,ht,rfl⟩:=List.mem_map.1 k;exact ⟨q,s,p,t,hp,ht,rfl⟩
 unfold Qe at hr;simp only [List.mem_append] at hr;rcases hr with ((((hr | hr) | hr) | hr) | hr) | hr
 ·exact go _ _ hr
 ·exact go _ _ hr
 ·exact go _ _ hr
 ·exact go _ _ hr
 ·exact go _ _ hr
 ·exact go _ _ hr
theorem y6p :w2p (Qe L)=0∧Qg (Qe L)=true:=by
 obtain ⟨_,hv,_,hL⟩:=Xo h;have hn:=(z6m hv hl hL).2;constructor
 ·unfold w2p;rw [decide_eq_false (by omega),List.all_eq_true.2 fun r hr=> ?_];rfl;obtain ⟨q,s,p,t,hp,ht,rfl⟩:=x9o h hl hr;exact u0t q s (w7d hv hl hL q hp) (u4x h hl q s p t ht)
 ·refine List.all_eq_true.2 fun r hr=> ?_;obtain ⟨q,s,p,t,hp,ht,rfl⟩:=x9o h hl hr;rw [qd_a];cases q <;> cases s <;> rfl
theorem w0k :Chg (D6.inn L) (plZ (Qe L)) (-1000000):=by refine ⟨by unfold plZ;rw [Uv];exact (Xc _).1,fun z hz=> ?_,fun z hz=>(x5g h hl z).1 hz,fun x _ hn=>(x5g h hl x).2 hn⟩;refine Classical.byContradiction fun hn=>(x5g h hl z).1 hz ?_;rw [far h hl (.inl (by omega)),far h hl (.inl (by omega))]
theorem u0a : ∀(r:List Int) (lo:Int) (bx:List R6),Chg (D6.inn L) r lo→goP (Qe L) r (D6.inn L (lo - 1)) bx=some (bx++bxs (D6.inn L) r)
 | [],lo,bx,_=>by simp [goP,bxs]
 | z::r,lo,bx,c=>by
  have hz:=c.low z (by simp);have hc:=(List.pairwise_cons.1 c.asc).1;have e:D6.inn L (lo - 1)=D6.inn L (z - 1):=(c.flat (x:=z - 1) (by omega) fun y hy=>by
   rcases List.mem_cons.1 hy with rfl | hy
   ·omega
   ·have:=hc y hy;omega).symm
  obtain ⟨s1,s2⟩:=step_z h hl (c.ne z (by simp));obtain ⟨q4,q5⟩:=y1q h hl z;have ih:=fun b=>u0a r (z+1) b c.tail;rw [show z+1 - 1=z by omega] at ih;rw [e];unfold goP;rw [q4,q5,s1,cond_false,s2,ih,List.append_assoc];rfl
theorem v6d :bxs (D6.inn L) (plZ (Qe L))=L:=by
 have c:=w0k h hl;have hS: ∀x,Wx.can (D6.inn L x):=fun x=>(u1p h hl x).1;have hf: ∀x,1000000≤x→D6.inn L x=[]:=fun x hx=>far h hl (.inr hx);have hg:=w9b (D6.inn L) hS _ _ c;rw [←w0e];refine x8j.uniq _ _ ⟨_,hg,rfl⟩ (x4d h) fun ⟨x,p⟩=> ?_;rw [show ptL x8j.inB (D6.flat (gbs (D6.inn L) (plZ (Qe L)))) (x,p)↔_ from Dim.flat_pt z2f Wx _ x p,show ptL x8j.inB L (x,p)↔_ from (Dim.pt_inn (D:=D6) Wx.inB L x p).symm];constructor
 ·rintro ⟨g,hg,g1,g2,g3⟩;obtain ⟨_,_,_,_,m⟩:=y9i (D6.inn L) _ _ c g hg;rw [m x g1 g2];exact g3
 ·intro k;have hx:D6.inn L x≠ []:=fun e=>by rw [e] at k;exact z2v _ _ k
  have hlo: -1000000≤x:=Classical.byContradiction fun hn=>hx (far h hl (.inl (by omega)));obtain ⟨g,hg,g1,g2⟩:=w9a (D6.inn L) hf _ _ c (far h hl (.inl (by omega))) x hx hlo;obtain ⟨_,_,_,_,m⟩:=y9i (D6.inn L) _ _ c g hg;exact ⟨g,hg,g1,g2,by rw [←m x g1 g2];exact k⟩
theorem back :x1q (Qe L)=0∧z0d (Qe L)=L:=by
 obtain ⟨_,hv,_,hL⟩:=Xo h;have hc:=(y6p h hl).1;have hg:goP (Qe L) (plZ (Qe L)) [] []=some L:=by have:=u0a h hl (plZ (Qe L)) (-1000000) [] (w0k h hl);rw [far h hl (.inl (by omega)),v6d h hl] at this;exact this
 obtain ⟨m1,m0⟩:=x8i h;have hz:=(z6m hv hl hL).1;have e:msoE (Qe L)=0:=by unfold msoE;rw [hc,hg];show finE (Qe L) L=0;unfold finE z3b Jv;rw [m1,m0,hz,show y5w (y9k 0 (Qe L)) (Qe L)=true from decide_eq_true rfl];rfl
 refine ⟨e,?_⟩;unfold z0d msoL;rw [e,hg];show Xi L=L;exact m0
end
end Go.Am
namespace Go.Am
open Go.Proofs.Tryz
open Go.Proofs Go.Sort Go.Shelf Go.RowKit Go.Lib
def one1 :List R6:=[⟨0,0,0,2,1,1⟩]
theorem y8b :Wk one1=0:=by refine x8l (by decide) ?_ ⟨[⟨0,1,[⟨0,0,2,1⟩]⟩],.one _ ⟨by decide,⟨[⟨0,2,[⟨0,1⟩]⟩],.one _ ⟨by decide,can1 0 1 (by decide),by simp⟩,rfl⟩,by simp⟩,rfl⟩;intro r hr;obtain rfl:=List.mem_singleton.1 hr;rfl
theorem can2 (r:R4) (h1:r.a<r.c) (h2:r.b<r.d):Wx.can [r]:=⟨[⟨r.a,r.c,[⟨r.b,r.d⟩]⟩],.one _ ⟨h1,can1 _ _ h2,by simp⟩,rfl⟩
theorem z7f (q:Ax) {r:R6} (hr:z0m r=true) (p:Int):upF q [r] p=(if p=q.hi r then [q.rc r] else [])∧dnF q [r] p=(if p=q.lo r then [q.rc r] else []):=by
 have hv: ∀s∈ [r],z0m s=true:=fun s hs=>by rw [List.mem_singleton.1 hs];exact hr
 have hL: [r].Pairwise Ap6:=by simp
 have hlt: ∀s∈ [r],q.lo s<q.hi s:=fun s hs=>(q.val (hv s hs)).2.1;obtain ⟨u1,u2⟩:=z4p q hv (by simp) p;obtain ⟨d1,d2⟩:=z5k q hv (by simp) p;have hlo:=hlt r (by simp);have c:Wx.can [q.rc r]:=by have:=(q.val hr).1;simp only [Vx,Bool.and_eq_true,decide_eq_true_eq] at this;exact can2 _ this.1 this.2.1
 have ci: ∀P:Prop,∀i:Decidable P,Wx.can (@ite _ P i [q.rc r] []):=fun P i=>by
  by_cases h:P
  ·rw [if_pos h];exact c
  ·rw [if_neg h];exact Wx.nil
 constructor
 ·refine Wx.uniq _ _ u1 (ci _ _) fun ⟨u,v⟩=> ?_;rw [u2,y7v q hL hlt,w8v,w8i,v8t];by_cases e:p=q.hi r
  ·rw [if_pos e];constructor
   ·rintro ⟨⟨s,hs,_,k⟩,_⟩;rw [List.mem_singleton.1 hs] at k;exact ⟨_,by simp,k⟩
   ·rintro ⟨s,hs,k⟩;rw [List.mem_singleton.1 hs] at k;refine ⟨⟨r,by simp,e.symm,k⟩,?_⟩;rintro ⟨s,hs,e2,_⟩;rw [List.mem_singleton.1 hs] at e2;omega
  ·rw [if_neg e];constructor
   ·rintro ⟨⟨s,hs,e2,_⟩,_⟩;rw [List.mem_singleton.1 hs] at e2;exact (e e2.symm).elim
   ·rintro ⟨s,hs,_⟩;cases hs
 ·refine Wx.uniq _ _ d1 (ci _ _) fun ⟨u,v⟩=> ?_;rw [d2,z8n q hL hlt,w8v,w8i,v8t];by_cases e:p=q.lo r
  ·rw [if_pos e];constructor
   ·rintro ⟨⟨s,hs,_,k⟩,_⟩;rw [List.mem_singleton.1 hs] at k;exact ⟨_,by simp,k⟩
   ·rintro ⟨s,hs,k⟩;rw [List.mem_singleton.1 hs] at k;refine ⟨⟨r,by simp,e.symm,k⟩,?_⟩;rintro ⟨s,hs,e2,_⟩;rw [List.mem_singleton.1 hs] at e2;omega
  ·rw [if_neg e];constructor
   ·rintro ⟨⟨s,hs,e2,_⟩,_⟩;rw [List.mem_singleton.1 hs] at e2;exact (e e2.symm).elim
   ·rintro ⟨s,hs,_⟩;cases hs
theorem pl_one (q:Ax) (r:R6) (h:q.lo r<q.hi r):plQ q [r]=[q.lo r,q.hi r]:=z8r _ _ (z7y q _) (by simp [h]) fun x=>by rw [y8o];simp
theorem v4e :Qe one1=[⟨0,2,0,0,2,1,1⟩,⟨1,0,0,0,0,1,1⟩,⟨2,0,1,0,2,1,1⟩,⟨3,0,0,0,2,0,1⟩,⟨4,0,0,1,2,1,1⟩,⟨5,0,0,0,2,1,0⟩]:=by
 obtain ⟨_,hv,_,hL⟩:=Xo y8b;have hr:=hv ⟨0,0,0,2,1,1⟩ (by simp [one1]);have up: ∀(q:Ax) (s:Bool),dM q s one1=[match s with | true=>qd q true (q.hi ⟨0,0,0,2,1,1⟩) (q.rc ⟨0,0,0,2,1,1⟩) | false=>qd q false (q.lo ⟨0,0,0,2,1,1⟩) (q.rc ⟨0,0,0,2,1,1⟩)]:=fun q s=>by
  have hlt:=(q.val hr).2.1;rw [w3s hv (by decide) hL,show plQ q one1=_ from pl_one q _ hlt];cases s with
  | true=>show (upF q one1 _).map _++((upF q one1 _).map _++[])=_;rw [show∀p,upF q one1 p=_ from fun p=>(z7f q hr p).1,show∀p,upF q one1 p=_ from fun p=>(z7f q hr p).1,if_neg (by omega),if_pos rfl];rfl
  | false=>show (dnF q one1 _).map _++((dnF q one1 _).map _++[])=_;rw [show∀p,dnF q one1 p=_ from fun p=>(z7f q hr p).2,show∀p,dnF q one1 p=_ from fun p=>(z7f q hr p).2,if_pos rfl,if_neg (by omega)];rfl
 unfold Qe;rw [up,up,up,up,up,up];rfl
theorem v6g : ∃N,Yv y9t N z7g=.ret [.bool true]:=by refine ⟨0,?_⟩;obtain ⟨o1,o0⟩:=y8q y8b (by decide);obtain ⟨b1,b0⟩:=back y8b (by decide);have w:=(y6p y8b (by decide)).2;rw [v4e] at o0 b1 b0 w;unfold z7g;have e1:([(R6.mk 0 0 0 2 1 1)]:List R6)=one1:=rfl;have e2:([(R6.mk 0 0 0 1 1 1),(R6.mk 1 1 0 2 2 1)]:List R6)=two2:=rfl;simp only [Za,e1,e2,o1,o0,b1,b0,show z3a one1=true from rfl,show z6k two2=true from rfl,w,show Vq one1 one1=true from rfl,show Jp one1 one1=true from decide_eq_true rfl];rfl
def fAl :List AVal→Option (AVal×Bool)
 | []=>some (.bool true,true)
 | _=>none
theorem fAl_ok {S:Specs} (hS:Zu prog S):Zu prog (S.with x9m fAl):=by
 refine z3g hS (by kernel_rfl) fun args v h=> ?_;unfold fAl at h;split at h
 ·simp only [Option.some.injEq,Prod.mk.injEq,and_true] at h;subst h;obtain ⟨N,hN⟩:=v6g;exact ⟨_,_,.nil,rfl,v0w N _ hN,3,rfl⟩
 ·cases h
def Ml :Specs:=(Mk.with x9m fAl)
theorem Ue :Zu prog Ml:=(fAl_ok y0b)
end Go.Am
namespace Go.Am
open Go.Proofs.Tryz
open Go.Proofs
inductive mfaS where
 | h0 (v12:Int) (v13:Int) (v14:Int) (aK:Int) (aP:Int) (aT:Int)
 | h1 (v12:Int) (v13:Int) (v14:Int) (v15:Bool) (v16:Int) (aK:Int) (aP:Int) (aT:Int)
def mfaC (l0:List R6) (bI:Int) (bJ:Int) (bK:Int) (x2:Int):mfaS→Cfg
 | .h0 v12 v13 v14 aK aP aT=>⟨⟨142,0,true⟩,none,(Zd prog 8 [1,1,1,1,1,1,1,1,1,0,1,0,0] 0),none,(Zy prog 8),⟨Ya [(0,(.dat l0.length (Zz l0))),(2,(.int .u8 x2)),(4,(.ptr 0 0)),(7,(.bool true)),(8,(.dat (Zb (cvT l0)).length (Zz (Zb (cvT l0))))),(10,(ii (wr (Int.tdiv (wr x2) 2)))),(11,(.ptr 1 0)),(12,(ii v12)),(13,(ii v13)),(14,(ii v14))],Uq [⟨[(ii bI),(ii bJ),(ii bK)],55,none⟩,⟨[(ii aK),(ii aP),(ii aT)],55,none⟩] 0,2,[],true⟩,[],.leaf⟩
 | .h1 v12 v13 v14 v15 v16 aK aP aT=>⟨⟨142,0,true⟩,none,(Zd prog 8 [1,1,1,1,1,1,1,1,1,0,1,0,0,1,0,0,1,1,0,1,0,0] 0),none,(Zy prog 8),⟨Ya [(0,(.dat l0.length (Zz l0))),(2,(.int .u8 x2)),(4,(.ptr 0 0)),(7,(.bool true)),(8,(.dat (Zb (cvT l0)).length (Zz (Zb (cvT l0))))),(10,(ii (wr (Int.tdiv (wr x2) 2)))),(11,(.ptr 1 0)),(12,(ii v12)),(13,(ii v13)),(14,(ii v14)),(15,(.bool v15)),(16,(ii v16))],Uq [⟨[(ii bI),(ii bJ),(ii bK)],55,none⟩,⟨[(ii aK),(ii aP),(ii aT)],55,none⟩] 0,2,[],true⟩,[],.leaf⟩
def y4w :List (Option (List Nat)):=[some [0,2,4,7,8,10,11,12,13,14]]
def y4x :List (Option (List Nat)):=[]
def w8f :List (Option (List Nat)):=[some [0,2,4,7,8,10,11,12,13,14,15,16]]
def w8g :List (Option (List Nat)):=[]
def Xn (l0:List R6) (bI:Int) (bJ:Int) (bK:Int) (x2:Int):mfaS→Xf mfaS
 | .h0 v12 v13 v14 aK aP aT=>(bif (decide (v14<(((Zb (cvT l0)).length :Nat):Int))) then (bif ((decide (0≤v14∧v14<(((Zb (cvT l0)).length :Nat):Int)))&&true) then (bif ((rd (Zb (cvT l0)) v14.toNat).a != x2) then (.to (.h0 v12 v13 (IntKind.wrap .i64 (v14+1)) aK aP aT)) else (bif ((Jr (rd (Zb (cvT l0)) v14.toNat).b (rd (Zb (cvT l0)) v14.toNat).c (rd (Zb (cvT l0)) v14.toNat).d (IntKind.wrap .i64 (Int.tdiv (IntKind.wrap .i64 x2) 2))) != v12) then (.to (.h0 v12 v13 (IntKind.wrap .i64 (v14+1)) aK aP aT)) else (.to (.h1 v12 v13 v14 true 0 aK aP aT)))) else .stuck) else (bif (Qu (cvT l0) bI bJ bK) then (bif (x0o (cvT l0) bI bJ bK) then (bif (Qu (cvT l0) aK aP aT) then (bif (!(x0o (cvT l0) aK aP aT)) then (.ret [(.bool (v13 == 1))]) else (.ret [(.bool (v13 == 0))])) else .stuck) else (.ret [(.bool (v13 == 0))])) else .stuck))
 | .h1 v12 v13 v14 v15 v16 aK aP aT=>(bif (decide (v16<3)) then (bif v15 then (bif (v16 == (IntKind.wrap .i64 (Int.tdiv (IntKind.wrap .i64 x2) 2))) then (.to (.h1 v12 v13 v14 true (IntKind.wrap .i64 (v16+1)) aK aP aT)) else (bif ((decide (0≤v14∧v14<(((Zb (cvT l0)).length :Nat):Int)))&&true) then (bif (decide ((Jr (rd (Zb (cvT l0)) v14.toNat).b (rd (Zb (cvT l0)) v14.toNat).c (rd (Zb (cvT l0)) v14.toNat).d v16)≤(Jr bI bJ bK v16))) then (.to (.h1 v12 v13 v14 (decide ((Jr bI bJ bK v16)<(Jr (rd (Zb (cvT l0)) v14.toNat).e (rd (Zb (cvT l0)) v14.toNat).f (rd (Zb (cvT l0)) v14.toNat).g v16))) (IntKind.wrap .i64 (v16+1)) aK aP aT)) else (.to (.h1 v12 v13 v14 false (IntKind.wrap .i64 (v16+1)) aK aP aT))) else .stuck)) else (.to (.h1 v12 v13 v14 false (IntKind.wrap .i64 (v16+1)) aK aP aT))) else (bif v15 then (.to (.h0 v12 (IntKind.wrap .i64 (v13+1)) (IntKind.wrap .i64 (v14+1)) aK aP aT)) else (.to (.h0 v12 v13 (IntKind.wrap .i64 (v14+1)) aK aP aT))))
def y1a (l0:List R6) (bI:Int) (bJ:Int) (bK:Int) (x2:Int):Xf mfaS:=(bif (z6s (cvT l0)) then (bif (!(u4t (cvT l0))) then (.ret [(.bool true)]) else (bif (decide (x2>5)) then (.ret [(.bool true)]) else (bif (decide (bI≥(-1000))) then (bif (decide (bJ≥(-1000))) then (bif (decide (bK≥(-1000))) then (bif (decide (bI≤1000000)) then (bif (decide (bJ≤1000000)) then (bif (!(decide (bK≤1000000))) then (.ret [(.bool true)]) else (bif (decide ((IntKind.wrap .i64 ((-1)*bI))≥(-1000))) then (bif (decide ((IntKind.wrap .i64 ((-1)*bJ))≥(-1000))) then (bif (decide ((IntKind.wrap .i64 ((-1)*bK))≥(-1000))) then (bif (decide ((IntKind.wrap .i64 ((-1)*bI))≤1000000)) then (bif (decide ((IntKind.wrap .i64 ((-1)*bJ))≤1000000)) then (bif (!(decide ((IntKind.wrap .i64 ((-1)*bK))≤1000000))) then (.ret [(.bool true)]) else (bif (z3a (cvT l0)) then (bif ((z6l (cvT l0)) != 0) then (.ret [(.bool false)]) else (bif ((Int.tmod (IntKind.wrap .i64 x2) 2) == 1) then (bif (decide ((IntKind.wrap .i64 x2)<2)) then (.to (.h0 (Kq (Jr bI bJ bK (IntKind.wrap .i64 (Int.tdiv (IntKind.wrap .i64 x2) 2))) (Jr (IntKind.wrap .i64 (bI+(-1))) (IntKind.wrap .i64 (bJ+0)) (IntKind.wrap .i64 (bK+0)) (IntKind.wrap .i64 (Int.tdiv (IntKind.wrap .i64 x2) 2)))) 0 0 (IntKind.wrap .i64 (bI+(-1))) (IntKind.wrap .i64 (bJ+0)) (IntKind.wrap .i64 (bK+0)))) else (bif (decide ((IntKind.wrap .i64 x2)<4)) then (.to (.h0 (Kq (Jr bI bJ bK (IntKind.wrap .i64 (Int.tdiv (IntKind.wrap .i64 x2) 2))) (Jr (IntKind.wrap .i64 (bI+0)) (IntKind.wrap .i64 (bJ+(-1))) (IntKind.wrap .i64 (bK+0)) (IntKind.wrap .i64 (Int.tdiv (IntKind.wrap .i64 x2) 2)))) 0 0 (IntKind.wrap .i64 (bI+0)) (IntKind.wrap .i64 (bJ+(-1))) (IntKind.wrap .i64 (bK+0)))) else (.to (.h0 (Kq (Jr bI bJ bK (IntKind.wrap .i64 (Int.tdiv (IntKind.wrap .i64 x2) 2))) (Jr (IntKind.wrap .i64 (bI+0)) (IntKind.wrap .i64 (bJ+0)) (IntKind.wrap .i64 (bK+(-1))) (IntKind.wrap .i64 (Int.tdiv (IntKind.wrap .i64 x2) 2)))) 0 0 (IntKind.wrap .i64 (bI+0)) (IntKind.wrap .i64 (bJ+0)) (IntKind.wrap .i64 (bK+(-1))))))) else (bif (decide ((IntKind.wrap .i64 x2)<2)) then (.to (.h0 (Kq (Jr bI bJ bK (IntKind.wrap .i64 (Int.tdiv (IntKind.wrap .i64 x2) 2))) (Jr (IntKind.wrap .i64 (bI+1)) (IntKind.wrap .i64 (bJ+0)) (IntKind.wrap .i64 (bK+0)) (IntKind.wrap .i64 (Int.tdiv (IntKind.wrap .i64 x2) 2)))) 0 0 (IntKind.wrap .i64 (bI+1)) (IntKind.wrap .i64 (bJ+0)) (IntKind.wrap .i64 (bK+0)))) else (bif (decide ((IntKind.wrap .i64 x2)<4)) then (.to (.h0 (Kq (Jr bI bJ bK (IntKind.wrap .i64 (Int.tdiv (IntKind.wrap .i64 x2) 2))) (Jr (IntKind.wrap .i64 (bI+0)) (IntKind.wrap .i64 (bJ+1)) (IntKind.wrap .i64 (bK+0)) (IntKind.wrap .i64 (Int.tdiv (IntKind.wrap .i64 x2) 2)))) 0 0 (IntKind.wrap .i64 (bI+0)) (IntKind.wrap .i64 (bJ+1)) (IntKind.wrap .i64 (bK+0)))) else (.to (.h0 (Kq (Jr bI bJ bK (IntKind.wrap .i64 (Int.tdiv (IntKind.wrap .i64 x2) 2))) (Jr (IntKind.wrap .i64 (bI+0)) (IntKind.wrap .i64 (bJ+0)) (IntKind.wrap .i64 (bK+1)) (IntKind.wrap .i64 (Int.tdiv (IntKind.wrap .i64 x2) 2)))) 0 0 (IntKind.wrap .i64 (bI+0)) (IntKind.wrap .i64 (bJ+0)) (IntKind.wrap .i64 (bK+1)))))))) else .stuck)) else (.ret [(.bool true)])) else (.ret [(.bool true)])) else (.ret [(.bool true)])) else (.ret [(.bool true)])) else (.ret [(.bool true)]))) else (.ret [(.bool true)])) else (.ret [(.bool true)])) else (.ret [(.bool true)])) else (.ret [(.bool true)])) else (.ret [(.bool true)])))) else .stuck)
theorem w2m (l0:List R6) (bI:Int) (bJ:Int) (bK:Int) (x2:Int): ∀s,Xj prog (Zy prog 8) (mfaC l0 bI bJ bK x2) (mfaC l0 bI bJ bK x2 s) (Xn l0 bI bJ bK x2 s)
 | .h0 v12 v13 v14 aK aP aT=>(lb (fun k0=>(lo fun aG=>(lb (fun k1=>(sl Ue 42 [] ⟨[0,1],[],y4w,y4x⟩ ⟨[],[],[]⟩ (trs 11 []) (tt k1 (ww aG (tt k0 nn))))) (fun k1=>(lb (fun k2=>(sl Ue 42 [] ⟨[0,1],[],y4w,y4x⟩ ⟨[],[],[]⟩ (bl 11 1025) (tt k2 (ww aG (tt k1 (ww aG (tt k0 nn))))))) (fun k2=>(sl Ue 47 [] ⟨[0,1],[],w8f,w8g⟩ ⟨[],[],[]⟩ (bl 11 1) (tt k2 (ww aG (tt k1 (ww aG (tt k0 nn)))))))))))) (fun k0=>(lo fun aG=>(lb (fun k1=>(lo fun cA=>(lb (fun k2=>(lr 142 3 [1,1,1,1,1,1,1,0] 1 8 [(6,(.bool (v13 == 1)))] (sl Ue 41 [] ⟨[],[],[some [6]],[]⟩ ⟨[],[],[]⟩ (bl 9 510) (tt k2 (pp (pp (xr l0) (xw cA)) (tt k1 (pp (pp (xr l0) (xw aG)) (tt k0 nn)))))))) (fun k2=>(lr 142 3 [1,1,1,1,1,1,1,0] 1 8 [(6,(.bool (v13 == 0)))] (sl Ue 39 [] ⟨[],[],[some [6]],[]⟩ ⟨[],[],[]⟩ (bl 9 478) (tt k2 (pp (pp (xr l0) (xw cA)) (tt k1 (pp (pp (xr l0) (xw aG)) (tt k0 nn))))))))))) (fun k1=>(lr 142 3 [1,1,1,1,1,1,1,0] 1 8 [(6,(.bool (v13 == 0)))] (sl Ue 39 [] ⟨[],[],[some [6]],[]⟩ ⟨[],[],[]⟩ (bl 9 448) (tt k1 (pp (pp (xr l0) (xw aG)) (tt k0 nn))))))))))
 | .h1 v12 v13 v14 v15 v16 aK aP aT=>(lb (fun k0=>(lb (fun k1=>(lb (fun k2=>(sl Ue 55 [] ⟨[0,1],[],w8f,w8g⟩ ⟨[],[],[]⟩ (trs 17 []) (tt k2 (tt k1 (tt k0 nn))))) (fun k2=>(lo fun cB=>(lb (fun k3=>(sl Ue 55 [] ⟨[0,1],[],w8f,w8g⟩ ⟨[],[],[]⟩ (trs 5 (bl 21 1571840)) (ww cB (tt k3 (ww cB (tt k2 (tt k1 (tt k0 nn)))))))) (fun k3=>(sl Ue 55 [] ⟨[0,1],[],w8f,w8g⟩ ⟨[],[],[]⟩ (trs 5 (bl 21 1048576)) (tt k3 (ww cB (tt k2 (tt k1 (tt k0 nn)))))))))))) (fun k1=>(sl Ue 55 [] ⟨[0,1],[],w8f,w8g⟩ ⟨[],[],[]⟩ (bl 6 1) (tt k1 (tt k0 nn)))))) (fun k0=>(lb (fun k1=>(sl Ue 25 [] ⟨[0,1],[],y4w,y4x⟩ ⟨[],[],[]⟩ (bl 2 2) (tt k1 (tt k0 nn)))) (fun k1=>(sl Ue 21 [] ⟨[0,1],[],y4w,y4x⟩ ⟨[],[],[]⟩ (bl 2 0) (tt k1 (tt k0 nn)))))))
theorem x5q (l0:List R6) (bI:Int) (bJ:Int) (bK:Int) (x2:Int):Xj prog (Zy prog 8) (mfaC l0 bI bJ bK x2) (Ze prog 8 [(.dat l0.length (Zz l0)),(.agg [(.int .i64 bI),(.int .i64 bJ),(.int .i64 bK)]),(.int .u8 x2)] true []) (y1a l0 bI bJ bK x2):=(lo fun bU=>(lb (fun k0=>(lr 142 8 [1,1,0,1,0,0] 1 8 [(6,(.bool true))] (sl Ue 42 [] ⟨[],[],[some [6]],[]⟩ ⟨[],[],[]⟩ (trs 12 []) (tt k0 (pp (pp (xr l0) (xw bU)) nn))))) (fun k0=>(lb (fun k1=>(lr 142 8 [1,1,0,1,0,0] 1 8 [(6,(.bool true))] (sl Ue 42 [] ⟨[],[],[some [6]],[]⟩ ⟨[],[],[]⟩ [false,false,true,true,true,true,true,true,true,true,true,true] (tt k1 (tt k0 (pp (pp (xr l0) (xw bU)) nn)))))) (fun k1=>(lb (fun k2=>(lb (fun k3=>(lb (fun k4=>(lb (fun k5=>(lb (fun k6=>(lb (fun k7=>(lr 142 8 [1,1,0,1,0,0] 1 8 [(6,(.bool true))] (sl Ue 83 [] ⟨[],[],[some [6]],[]⟩ ⟨[],[],[]⟩ [false,false,false,false,true,true,true,true,true,true,true,true,true,true,true,true,true,true,true,true,true,false,true,true,true,true,true,true,true] (tt k7 (tt k6 (tt k5 (tt k4 (tt k3 (tt k2 (tt k1 (tt k0 (pp (pp (xr l0) (xw bU)) nn)))))))))))) (fun k7=>(lb (fun k8=>(lb (fun k9=>(lb (fun k10=>(lb (fun k11=>(lb (fun k12=>(lb (fun k13=>(lr 142 8 [1,1,0,1,0,0] 1 8 [(6,(.bool true))] (sl Ue 147 [] ⟨[],[],[some [6]],[]⟩ ⟨[],[],[]⟩ [false,false,false,false,true,true,true,true,true,true,true,true,true,true,true,true,true,true,true,true,true,false,false,false,false,true,true,true,true,true,true,true,true,true,true,true,true,true,true,true,true,true,false,true,true,true] (tt k13 (tt k12 (tt k11 (tt k10 (tt k9 (tt k8 (tt k7 (tt k6 (tt k5 (tt k4 (tt k3 (tt k2 (tt k1 (tt k0 (pp (pp (xr l0) (xw bU)) nn)))))))))))))))))) (fun k13=>(lo fun cO=>(lb (fun k14=>(lr 142 8 [1,1,1,1,0,1,0,0] 1 8 [(6,(.bool false))] (sl Ue 164 [] ⟨[],[],[some [6]],[]⟩ ⟨[],[],[]⟩ [false,false,false,false,true,true,true,true,true,true,true,true,true,true,true,true,true,true,true,true,true,false,false,false,false,true,true,true,true,true,true,true,true,true,true,true,true,true,true,true,true,true,false,false,false,false,true] (tt k14 (pp (pp (xr l0) (xw cO)) (tt k13 (tt k12 (tt k11 (tt k10 (tt k9 (tt k8 (tt k7 (tt k6 (tt k5 (tt k4 (tt k3 (tt k2 (tt k1 (tt k0 (pp (pp (xr l0) (xw bU)) nn)))))))))))))))))))) (fun k14=>(lb (fun k15=>(lb (fun k16=>(sl Ue 183 [] ⟨[0,5],[],y4w,y4x⟩ ⟨[],[],[]⟩ [false,false,false,false,true,true,true,true,true,true,true,true,true,true,true,true,true,true,true,true,true,false,false,false,false,true,true,true,true,true,true,true,true,true,true,true,true,true,true,true,true,true,false,false,false,false,false,true,true] (tt k16 (tt k15 (tt k14 (pp (pp (xr l0) (xw cO)) (tt k13 (tt k12 (tt k11 (tt k10 (tt k9 (tt k8 (tt k7 (tt k6 (tt k5 (tt k4 (tt k3 (tt k2 (tt k1 (tt k0 (pp (pp (xr l0) (xw bU)) nn))))))))))))))))))))) (fun k16=>(lb (fun k17=>(sl Ue 183 [] ⟨[0,5],[],y4w,y4x⟩ ⟨[],[],[]⟩ [false,false,false,false,true,true,true,true,true,true,true,true,true,true,true,true,true,true,true,true,true,false,false,false,false,true,true,true,true,true,true,true,true,true,true,true,true,true,true,true,true,true,false,false,false,false,false,true,false,true] (tt k17 (tt k16 (tt k15 (tt k14 (pp (pp (xr l0) (xw cO)) (tt k13 (tt k12 (tt k11 (tt k10 (tt k9 (tt k8 (tt k7 (tt k6 (tt k5 (tt k4 (tt k3 (tt k2 (tt k1 (tt k0 (pp (pp (xr l0) (xw bU)) nn)))))))))))))))))))))) (fun k17=>(sl Ue 183 [] ⟨[0,5],[],y4w,y4x⟩ ⟨[],[],[]⟩ [false,false,false,false,true,true,true,true,true,true,true,true,true,true,true,true,true,true,true,true,true,false,false,false,false,true,true,true,true,true,true,true,true,true,true,true,true,true,true,true,true,true,false,false,false,false,false,true,false,false] (tt k17 (tt k16 (tt k15 (tt k14 (pp (pp (xr l0) (xw cO)) (tt k13 (tt k12 (tt k11 (tt k10 (tt k9 (tt k8 (tt k7 (tt k6 (tt k5 (tt k4 (tt k3 (tt k2 (tt k1 (tt k0 (pp (pp (xr l0) (xw bU)) nn)))))))))))))))))))))))))) (fun k15=>(lb (fun k16=>(sl Ue 183 [] ⟨[0,5],[],y4w,y4x⟩ ⟨[],[],[]⟩ [false,false,false,false,true,true,true,true,true,true,true,true,true,true,true,true,true,true,true,true,true,false,false,false,false,true,true,true,true,true,true,true,true,true,true,true,true,true,true,true,true,true,false,false,false,false,false,false,true] (tt k16 (tt k15 (tt k14 (pp (pp (xr l0) (xw cO)) (tt k13 (tt k12 (tt k11 (tt k10 (tt k9 (tt k8 (tt k7 (tt k6 (tt k5 (tt k4 (tt k3 (tt k2 (tt k1 (tt k0 (pp (pp (xr l0) (xw bU)) nn))))))))))))))))))))) (fun k16=>(lb (fun k17=>(sl Ue 183 [] ⟨[0,5],[],y4w,y4x⟩ ⟨[],[],[]⟩ [false,false,false,false,true,true,true,true,true,true,true,true,true,true,true,true,true,true,true,true,true,false,false,false,false,true,true,true,true,true,true,true,true,true,true,true,true,true,true,true,true,true,false,false,false,false,false,false,false,true] (tt k17 (tt k16 (tt k15 (tt k14 (pp (pp (xr l0) (xw cO)) (tt k13 (tt k12 (tt k11 (tt k10 (tt k9 (tt k8 (tt k7 (tt k6 (tt k5 (tt k4 (tt k3 (tt k2 (tt k1 (tt k0 (pp (pp (xr l0) (xw bU)) nn)))))))))))))))))))))) (fun k17=>(sl Ue 183 [] ⟨[0,5],[],y4w,y4x⟩ ⟨[],[],[]⟩ [false,false,false,false,true,true,true,true,true,true,true,true,true,true,true,true,true,true,true,true,true,false,false,false,false,true,true,true,true,true,true,true,true,true,true,true,true,true,true,true,true,true,false,false,false,false,false,false,false,false] (tt k17 (tt k16 (tt k15 (tt k14 (pp (pp (xr l0) (xw cO)) (tt k13 (tt k12 (tt k11 (tt k10 (tt k9 (tt k8 (tt k7 (tt k6 (tt k5 (tt k4 (tt k3 (tt k2 (tt k1 (tt k0 (pp (pp (xr l0) (xw bU)) nn))))))))))))))))))))))))))))))))) (fun k12=>(lr 142 8 [1,1,0,1,0,0] 1 8 [(6,(.bool true))] (sl Ue 147 [] ⟨[],[],[some [6]],[]⟩ ⟨[],[],[]⟩ [false,false,false,false,true,true,true,true,true,true,true,true,true,true,true,true,true,true,true,true,true,false,false,false,false,true,true,true,true,true,true,true,true,true,true,true,true,true,true,false,false,false,false,true,true,true] (tt k12 (tt k11 (tt k10 (tt k9 (tt k8 (tt k7 (tt k6 (tt k5 (tt k4 (tt k3 (tt k2 (tt k1 (tt k0 (pp (pp (xr l0) (xw bU)) nn))))))))))))))))))) (fun k11=>(lr 142 8 [1,1,0,1,0,0] 1 8 [(6,(.bool true))] (sl Ue 147 [] ⟨[],[],[some [6]],[]⟩ ⟨[],[],[]⟩ [false,false,false,false,true,true,true,true,true,true,true,true,true,true,true,true,true,true,true,true,true,false,false,false,false,true,true,true,true,true,true,true,true,true,true,true,false,false,false,false,false,false,false,true,true,true] (tt k11 (tt k10 (tt k9 (tt k8 (tt k7 (tt k6 (tt k5 (tt k4 (tt k3 (tt k2 (tt k1 (tt k0 (pp (pp (xr l0) (xw bU)) nn)))))))))))))))))) (fun k10=>(lr 142 8 [1,1,0,1,0,0] 1 8 [(6,(.bool true))] (sl Ue 147 [] ⟨[],[],[some [6]],[]⟩ ⟨[],[],[]⟩ [false,false,false,false,true,true,true,true,true,true,true,true,true,true,true,true,true,true,true,true,true,false,false,false,false,true,true,true,true,true,true,true,true,false,false,false,false,false,false,false,false,false,false,true,true,true] (tt k10 (tt k9 (tt k8 (tt k7 (tt k6 (tt k5 (tt k4 (tt k3 (tt k2 (tt k1 (tt k0 (pp (pp (xr l0) (xw bU)) nn))))))))))))))))) (fun k9=>(lr 142 8 [1,1,0,1,0,0] 1 8 [(6,(.bool true))] (sl Ue 147 [] ⟨[],[],[some [6]],[]⟩ ⟨[],[],[]⟩ [false,false,false,false,true,true,true,true,true,true,true,true,true,true,true,true,true,true,true,true,true,false,false,false,false,true,true,true,true,false,false,false,false,false,false,false,false,false,false,false,false,false,false,true,true,true] (tt k9 (tt k8 (tt k7 (tt k6 (tt k5 (tt k4 (tt k3 (tt k2 (tt k1 (tt k0 (pp (pp (xr l0) (xw bU)) nn)))))))))))))))) (fun k8=>(lr 142 8 [1,1,0,1,0,0] 1 8 [(6,(.bool true))] (sl Ue 147 [] ⟨[],[],[some [6]],[]⟩ ⟨[],[],[]⟩ [false,false,false,false,true,true,true,true,true,true,true,true,true,true,true,true,true,true,true,true,true,false,false,false,false,false,false,false,false,false,false,false,false,false,false,false,false,false,false,false,false,false,false,true,true,true] (tt k8 (tt k7 (tt k6 (tt k5 (tt k4 (tt k3 (tt k2 (tt k1 (tt k0 (pp (pp (xr l0) (xw bU)) nn))))))))))))))))) (fun k6=>(lr 142 8 [1,1,0,1,0,0] 1 8 [(6,(.bool true))] (sl Ue 83 [] ⟨[],[],[some [6]],[]⟩ ⟨[],[],[]⟩ [false,false,false,false,true,true,true,true,true,true,true,true,true,true,true,true,true,true,false,false,false,false,true,true,true,true,true,true,true] (tt k6 (tt k5 (tt k4 (tt k3 (tt k2 (tt k1 (tt k0 (pp (pp (xr l0) (xw bU)) nn))))))))))))) (fun k5=>(lr 142 8 [1,1,0,1,0,0] 1 8 [(6,(.bool true))] (sl Ue 83 [] ⟨[],[],[some [6]],[]⟩ ⟨[],[],[]⟩ [false,false,false,false,true,true,true,true,true,true,true,true,true,true,true,false,false,false,false,false,false,false,true,true,true,true,true,true,true] (tt k5 (tt k4 (tt k3 (tt k2 (tt k1 (tt k0 (pp (pp (xr l0) (xw bU)) nn)))))))))))) (fun k4=>(lr 142 8 [1,1,0,1,0,0] 1 8 [(6,(.bool true))] (sl Ue 83 [] ⟨[],[],[some [6]],[]⟩ ⟨[],[],[]⟩ [false,false,false,false,true,true,true,true,true,true,true,true,false,false,false,false,false,false,false,false,false,false,true,true,true,true,true,true,true] (tt k4 (tt k3 (tt k2 (tt k1 (tt k0 (pp (pp (xr l0) (xw bU)) nn))))))))))) (fun k3=>(lr 142 8 [1,1,0,1,0,0] 1 8 [(6,(.bool true))] (sl Ue 83 [] ⟨[],[],[some [6]],[]⟩ ⟨[],[],[]⟩ [false,false,false,false,true,true,true,true,false,false,false,false,false,false,false,false,false,false,false,false,false,false,true,true,true,true,true,true,true] (tt k3 (tt k2 (tt k1 (tt k0 (pp (pp (xr l0) (xw bU)) nn)))))))))) (fun k2=>(lr 142 8 [1,1,0,1,0,0] 1 8 [(6,(.bool true))] (sl Ue 83 [] ⟨[],[],[some [6]],[]⟩ ⟨[],[],[]⟩ [false,false,false,false,false,false,false,false,false,false,false,false,false,false,false,false,false,false,false,false,false,false,true,true,true,true,true,true,true] (tt k2 (tt k1 (tt k0 (pp (pp (xr l0) (xw bU)) nn)))))))))))))
theorem mfa_ends (l0:List R6) (bI:Int) (bJ:Int) (bK:Int) (x2:Int) (n:Nat) (vs:List AVal) (h:Yv (Xn l0 bI bJ bK x2) n (y1a l0 bI bJ bK x2)=.ret vs):Ky prog (Zy prog 8) (Ze prog 8 [(.dat l0.length (Zz l0)),(.agg [(.int .i64 bI),(.int .i64 bJ),(.int .i64 bK)]),(.int .u8 x2)] true []) vs:=by have:=Zr (w2m l0 bI bJ bK x2) n _ (x5q l0 bI bJ bK x2);rwa [h] at this
end Go.Am
namespace Go.Am
open Go.Proofs Go.Sort Go.Shelf Go.RowKit Go.Lib
def w2e (P:Prop):Nat:= @ite _ P (Classical.propDecidable P) 1 0
theorem z8a {P:Prop} (h:P):w2e P=1:= @if_pos _ (Classical.propDecidable P) h _ _ _
theorem z8b {P:Prop} (h: ¬P):w2e P=0:= @if_neg _ (Classical.propDecidable P) h _ _ _
theorem y7m (w:Int): ∀s:List R2,Can s→(s.filter fun t=>decide (t.a≤w)&&decide (w<t.b)).length =w2e (pt s w)
 | [],_=>(z8b fun ⟨_,h,_⟩=>by cases h).symm
 | t::s,h=>by
  have ih:=y7m w s h.tail;have hd:=h.head;rw [List.filter_cons];by_cases q:t.a≤w∧w<t.b
  ·rw [if_pos (by simp [q.1,q.2])];have e:(s.filter fun t=>decide (t.a≤w)&&decide (w<t.b))=[]:=List.filter_eq_nil_iff.2 fun r hr k=>by have:=hd r hr;simp only [Bool.and_eq_true,decide_eq_true_eq] at k;omega
   rw [e,z8a ⟨t,by simp,q⟩];rfl
  ·rw [if_neg (by simpa using q),ih];by_cases g:pt s w
   ·rw [z8a g];obtain ⟨r,hr,k⟩:=g;rw [z8a ⟨r,by simp [hr],k⟩]
   ·rw [z8b g,z8b];rintro ⟨r,hr,k⟩;rcases List.mem_cons.1 hr with rfl | hr
    ·exact q k
    ·exact g ⟨r,hr,k⟩
def u4k (u w:Int) (t:R4):Bool:=(decide (t.a≤u)&&decide (u<t.c))&&(decide (t.b≤w)&&decide (w<t.d))
theorem v0o {l:List R4} (hc:Wx.can l) (u w:Int):(l.filter (u4k u w)).length =w2e (ptL Wx.inB l (u,w)):=by
 have h1:=y7m w (D4.inn l u) (y1g hc u);have e:((D4.inn l u).filter fun t=>decide (t.a≤w)&&decide (w<t.b)).length =(l.filter (u4k u w)).length :=by
  show (((l.filter fun r=>decide (r.a≤u)&&decide (u<r.c)).map fun r=>(⟨r.b,r.d⟩:R2)).filter _).length =_;rw [List.filter_map,List.length_map,List.filter_filter]
  congr 1
  refine List.filter_congr fun r _=> ?_;unfold u4k;simp only [Function.comp];exact Bool.and_comm _ _
 rw [←e,h1];have:pt (D4.inn l u) w↔ptL Wx.inB l (u,w):=z2w l u w;by_cases g:pt (D4.inn l u) w
 ·rw [z8a g,z8a (this.1 g)]
 ·rw [z8b g,z8b fun k=>g (this.2 k)]
theorem x2i (q:Ax) (s:Bool) (p:Int) (g:R7→Bool) (h:R4→Bool) (F:Int→List R4) (hg: ∀p' t,g (qd q s p' t)=(decide (p'=p)&&h t)): ∀P:List Int,P.Pairwise (· < ·)→(p ∉ P→F p=[])→
  ((P.flatMap fun p'=>(F p').map (qd q s p')).filter g).length =((F p).filter h).length
 | [],_,hn=>by rw [hn (by simp)];rfl
 | p'::P,hP,hn=>by
  obtain ⟨h1,h2⟩:=List.pairwise_cons.1 hP;rw [List.flatMap_cons,List.filter_append,List.length_append];have one: ∀x,(((F x).map (qd q s x)).filter g).length =if x=p then ((F x).filter h).length else 0:=fun x=>by
   rw [List.filter_map,List.length_map];by_cases e:x=p
   ·rw [if_pos e]
    congr 1
    exact List.filter_congr fun t _=>by simp only [Function.comp,hg,e,decide_true,Bool.true_and]
   ·rw [if_neg e];have:(F x).filter (g∘qd q s x)=[]:=List.filter_eq_nil_iff.2 fun t _ k=>by simp only [Function.comp,hg,decide_eq_false e,Bool.false_and] at k;cases k
    rw [this];rfl
  rw [one];by_cases e:p'=p
  ·subst e;rw [if_pos rfl];have: ∀Q:List Int,(∀x∈Q,p'<x)→((Q.flatMap fun x=>(F x).map (qd q s x)).filter g).length =0:=fun Q=>by
    induction Q with
    | nil=>intro _;rfl
    | cons x Q ih=>intro hx;rw [List.flatMap_cons,List.filter_append,List.length_append,one,if_neg (by have:=hx x (by simp);omega),ih fun y hy=>hx y (by simp [hy])]
   rw [this P h1];rfl
  ·rw [if_neg e,Nat.zero_add];exact x2i q s p g h F hg P h2 fun k=>hn (by simp [k,Ne.symm e])
theorem x6s {l:List R7} {g:R7→Bool} (h: ∀r∈l,g r=false):(l.filter g).length =0:=by rw [List.filter_eq_nil_iff.2 fun r hr k=>by rw [h r hr] at k;cases k];rfl
theorem w3v {L:List R6} (h:Wk L=0) (hl:L.length≤20) (q:Ax) (s:Bool) (p u w:Int) (g:R7→Bool) (hg: ∀p' t,g (qd q s p' t)=(decide (p'=p)&&u4k u w t)) (hd: ∀r,g r=true→r.a=2*q.ix+sdI s):
  ((Qe L).filter g).length =w2e (ptL Wx.inB (fcF q s L p) (u,w)):=by
 obtain ⟨_,hv,_,hL⟩:=Xo h;have main:((dM q s L).filter g).length =w2e (ptL Wx.inB (fcF q s L p) (u,w)):=by
  rw [w3s hv hl hL,x2i q s p g (u4k u w) (fcF q s L) hg (plQ q L) (z7y q L) fun hn=>by
   cases s with
   | true=>exact (y8s h hl q hn).1
   | false=>exact (y8s h hl q hn).2]
  refine v0o ?_ u w;cases s with
  | true=>exact (z4p q hv hl p).1
  | false=>exact (z5k q hv hl p).1
 have no: ∀(q':Ax) (s':Bool),2*q'.ix+sdI s'≠2*q.ix+sdI s→((dM q' s' L).filter g).length =0:=fun q' s' hne=>x6s fun r hr=>by
  cases k:g r with
  | false=>rfl
  | true=>exact (hne ((dM_a hr).symm.trans (hd r k))).elim
 have split:((Qe L).filter g).length =((dM .x true L).filter g).length +((dM .x false L).filter g).length +((dM .y true L).filter g).length +((dM .y false L).filter g).length +((dM .z true L).filter g).length +((dM .z false L).filter g).length :=by unfold Qe;simp only [List.filter_append,List.length_append]
 rw [split,←main];cases q <;> cases s
 ·rw [no .x true (by decide),no .y true (by decide),no .y false (by decide),no .z true (by decide),no .z false (by decide)];omega
 ·rw [no .x false (by decide),no .y true (by decide),no .y false (by decide),no .z true (by decide),no .z false (by decide)];omega
 ·rw [no .x true (by decide),no .x false (by decide),no .y true (by decide),no .z true (by decide),no .z false (by decide)];omega
 ·rw [no .x true (by decide),no .x false (by decide),no .y false (by decide),no .z true (by decide),no .z false (by decide)];omega
 ·rw [no .x true (by decide),no .x false (by decide),no .y true (by decide),no .y false (by decide),no .z true (by decide)];omega
 ·rw [no .x true (by decide),no .x false (by decide),no .y true (by decide),no .y false (by decide),no .z false (by decide)];omega
theorem v7b (L:List R6) (x y z:Int):x0o L x y z=true↔inS L x y z:=by
 unfold x0o inS;rw [List.any_eq_true];constructor
 ·rintro ⟨r,hr,h⟩;simp only [shR,Bool.and_eq_true,decide_eq_true_eq] at h;exact ⟨r,hr,⟨h.1,h.2.1⟩,⟨h.2.2.1,h.2.2.2.1⟩,h.2.2.2.2.1,h.2.2.2.2.2⟩
 ·rintro ⟨r,hr,⟨h1,h2⟩,⟨h3,h4⟩,h5,h6⟩;exact ⟨r,hr,by simp only [shR,Bool.and_eq_true,decide_eq_true_eq];exact ⟨h1,h2,h3,h4,h5,h6⟩⟩
end Go.Am
namespace Go.Am
open Go.Proofs Go.Sort Go.Shelf Go.RowKit Go.Lib
def dax (d:Int):Int:=IntKind.wrap .i64 (Int.tdiv (IntKind.wrap .i64 d) 2)
def rnd (A k x y z:Int) (r:R7):Bool:=(k == A)||(decide (Jr r.b r.c r.d k≤Jr x y z k)&&decide (Jr x y z k<Jr r.e r.f r.g k))
def y7j (d p x y z:Int) (r:R7):Bool:=(r.a == d)&&((Jr r.b r.c r.d (dax d) == p)&&(rnd (dax d) 0 x y z r&&(rnd (dax d) 1 x y z r&&rnd (dax d) 2 x y z r)))
section
variable (L:List R6) (x y z d:Int) (hM:(Zb L).length ≤3000)
include hM
theorem u3x (p n:Int) (i:Nat) (hi:i<(Zb L).length) (nx ny nz:Int) (b:Bool) (k:Int) (hk:0≤k∧k<3):
  Xn L x y z d (.h1 p n (i:Int) b k nx ny nz)=.to (.h1 p n (i:Int) (b&&rnd (dax d) k x y z (rd (Zb L) i)) (k+1) nx ny nz):=by
 have _u:=hM;have hw:IntKind.wrap .i64 (k+1)=k+1:=Zk (by omega);have hin:decide (0≤(i:Int)∧(i:Int)<(((Zb L).length :Nat):Int))=true:=decide_eq_true (by omega);simp only [Xn,Za,hw,hin,Zj,decide_eq_true hk.2,show (decide (k<3))=true from decide_eq_true hk.2,Bool.and_true,cond_true,cond_false];unfold rnd;show (bif b then (bif (k == dax d) then _ else _) else _)=_;cases b with
 | false=>rfl
 | true=>
  cases (k == dax d) with
  | true=>rfl
  | false=>cases decide (Jr (rd (Zb L) i).b (rd (Zb L) i).c (rd (Zb L) i).d k≤Jr x y z k) <;> rfl
theorem u3y (p:Int) (n:Nat) (hn:n≤3000) (i:Nat) (hi:i<(Zb L).length) (nx ny nz:Int): ∃m,∀N,Yv (Xn L x y z d) (N+m) (.to (.h0 p (n:Int) (i:Int) nx ny nz))=
  Yv (Xn L x y z d) N (.to (.h0 p ((n+(if y7j d p x y z (rd (Zb L) i)=true then 1 else 0):Nat):Int) ((i+1:Nat):Int) nx ny nz)):=by
 have hin:decide (0≤(i:Int)∧(i:Int)<(((Zb L).length :Nat):Int))=true:=decide_eq_true (by omega);have hlt:decide ((i:Int)<(((Zb L).length :Nat):Int))=true:=decide_eq_true (by omega);have hwi:IntKind.wrap .i64 ((i:Int)+1)=((i+1:Nat):Int):=by rw [Zk (by omega)];exact Zx i
 have hwn:IntKind.wrap .i64 ((n:Int)+1)=((n+1:Nat):Int):=by rw [Zk (by omega)];exact Zx n
 have s0:Xn L x y z d (.h0 p (n:Int) (i:Int) nx ny nz)=bif (rd (Zb L) i).a != d then .to (.h0 p (n:Int) ((i+1:Nat):Int) nx ny nz) else
   bif Jr (rd (Zb L) i).b (rd (Zb L) i).c (rd (Zb L) i).d (dax d) != p then .to (.h0 p (n:Int) ((i+1:Nat):Int) nx ny nz) else .to (.h1 p (n:Int) (i:Int) true 0 nx ny nz):=by
  simp only [Xn,Za,hlt,hin,hwi,Zj,Bool.and_true,cond_true];rfl
 cases q1:((rd (Zb L) i).a == d) with
 | false=>refine ⟨1,fun N=> ?_⟩;rw [Zv,s0,show ((rd (Zb L) i).a != d)=true by simp only [bne,q1];rfl,cond_true];unfold y7j;rw [q1];rfl
 | true=>
  cases q2:(Jr (rd (Zb L) i).b (rd (Zb L) i).c (rd (Zb L) i).d (dax d) == p) with
  | false=>refine ⟨1,fun N=> ?_⟩;rw [Zv,s0,show ((rd (Zb L) i).a != d)=false by simp only [bne,q1];rfl,cond_false,show (Jr (rd (Zb L) i).b (rd (Zb L) i).c (rd (Zb L) i).d (dax d) != p)=true by simp only [bne,q2];rfl,cond_true];unfold y7j;rw [q1,q2];rfl
  | true=>
   refine ⟨1+1+1+1+1,fun N=> ?_⟩;have e:Yv (Xn L x y z d) (N+(1+1+1+1+1)) (.to (.h0 p (n:Int) (i:Int) nx ny nz))=Yv (Xn L x y z d) N (Xn L x y z d (.h1 p (n:Int) (i:Int) (((true&&rnd (dax d) 0 x y z (rd (Zb L) i))&&rnd (dax d) 1 x y z (rd (Zb L) i))&&rnd (dax d) 2 x y z (rd (Zb L) i)) 3 nx ny nz)):=by show Yv (Xn L x y z d) (N+4) (Xn L x y z d (.h0 p (n:Int) (i:Int) nx ny nz))=_;rw [s0,show ((rd (Zb L) i).a != d)=false by simp only [bne,q1];rfl,cond_false,show (Jr (rd (Zb L) i).b (rd (Zb L) i).c (rd (Zb L) i).d (dax d) != p)=false by simp only [bne,q2];rfl,cond_false];show Yv (Xn L x y z d) (N+3) (Xn L x y z d (.h1 p (n:Int) (i:Int) true 0 nx ny nz))=_;rw [u3x L x y z d hM p n i hi nx ny nz true 0 (by decide)];show Yv (Xn L x y z d) (N+2) (Xn L x y z d (.h1 p (n:Int) (i:Int) _ 1 nx ny nz))=_;rw [u3x L x y z d hM p n i hi nx ny nz _ 1 (by decide)];show Yv (Xn L x y z d) (N+1) (Xn L x y z d (.h1 p (n:Int) (i:Int) _ 2 nx ny nz))=_;rw [u3x L x y z d hM p n i hi nx ny nz _ 2 (by decide)];rfl
   rw [e];have c:y7j d p x y z (rd (Zb L) i)=(((true&&rnd (dax d) 0 x y z (rd (Zb L) i))&&rnd (dax d) 1 x y z (rd (Zb L) i))&&rnd (dax d) 2 x y z (rd (Zb L) i)):=by unfold y7j;rw [q1,q2];cases rnd (dax d) 0 x y z (rd (Zb L) i) <;> cases rnd (dax d) 1 x y z (rd (Zb L) i) <;> cases rnd (dax d) 2 x y z (rd (Zb L) i) <;> rfl
   rw [←c];simp only [Xn,show (decide ((3:Int)<3))=false from rfl,hwi,hwn,cond_false];cases y7j d p x y z (rd (Zb L) i) <;> rfl
theorem v9p (hL:L.length≤100000) (p nx ny nz:Int): ∀(k i n:Nat),i+k=(Zb L).length →n≤i→ ∃m,Yv (Xn L x y z d) m (.to (.h0 p (n:Int) (i:Int) nx ny nz))=
  .ret [.bool (bif x0o L x y z&& !(x0o L nx ny nz) then (((n+(((Zb L).drop i).filter (y7j d p x y z)).length :Nat):Int) == 1) else (((n+(((Zb L).drop i).filter (y7j d p x y z)).length :Nat):Int) == 0))]
 | 0,i,n,h,hn=>by have o: ∀a b c,Qu L a b c=true:=fun _ _ _=>decide_eq_true hL;refine ⟨1,?_⟩;rw [Zv,List.drop_eq_nil_of_le (by omega)];simp only [Xn,Za,o,show decide ((i:Int)<(((Zb L).length :Nat):Int))=false from decide_eq_false (by omega),cond_true,cond_false];cases x0o L x y z <;> cases x0o L nx ny nz <;> rfl
 | k+1,i,n,h,hn=>by
  have hi:i<(Zb L).length :=by omega
  obtain ⟨m1,h1⟩:=u3y L x y z d hM p n (by omega) i hi nx ny nz;obtain ⟨m,hm⟩:=v9p hL p nx ny nz k (i+1) (n+(if y7j d p x y z (rd (Zb L) i)=true then 1 else 0)) (by omega) (by split <;> omega);refine ⟨m+m1,?_⟩;rw [h1 m,hm,Yp hi,List.filter_cons];by_cases c:y7j d p x y z (rd (Zb L) i)=true
  ·rw [if_pos c,if_pos c,List.length_cons,show n+1+(((Zb L).drop (i+1)).filter (y7j d p x y z)).length =n+((((Zb L).drop (i+1)).filter (y7j d p x y z)).length +1) by omega]
  ·rw [if_neg c,if_neg c,Nat.add_zero]
end
end Go.Am
namespace Go.Am
open Go.Proofs Go.Sort Go.Shelf Go.RowKit Go.Lib
theorem w9l {L:List R6} (h:Wk L=0) (hl:L.length≤20) (q:Ax) (s:Bool) (d p x y z nx ny nz u w:Int) (hd:d=2*q.ix+sdI s)
  (hg: ∀p' t,y7j d p x y z (qd q s p' t)=(decide (p'=p)&&u4k u w t)) (hp:ptL Wx.inB (fcF q s L p) (u,w)↔inS L x y z∧ ¬inS L nx ny nz):
  (bif x0o L x y z&& !(x0o L nx ny nz) then (((0+(((Zb L).drop 0).filter (y7j d p x y z)).length :Nat):Int) == 1) else (((0+(((Zb L).drop 0).filter (y7j d p x y z)).length :Nat):Int) == 0))=true:=by
 obtain ⟨_,o0⟩:=y8q h hl;have c:=w3v h hl q s p u w (y7j d p x y z) hg fun r k=>by unfold y7j at k;simp only [Bool.and_eq_true] at k;rw [eq_of_beq k.1,hd]
 rw [o0,List.drop_zero,c,Nat.zero_add];have i1:=v7b L x y z;have i2:=v7b L nx ny nz;by_cases g:ptL Wx.inB (fcF q s L p) (u,w)
 ·rw [z8a g];have k:=hp.1 g;have e2:x0o L nx ny nz=false:=Bool.eq_false_iff.2 fun e=>k.2 (i2.1 e);rw [i1.2 k.1,e2];rfl
 ·rw [z8b g];cases e1:x0o L x y z with
  | false=>rfl
  | true=>
   cases e2:x0o L nx ny nz with
   | true=>rfl
   | false=>exact (g (hp.2 ⟨i1.1 e1,fun k=>by rw [i2.2 k] at e2;cases e2⟩)).elim
section
variable {L:List R6} (h:Wk L=0) (hl:L.length≤20)
include h hl
theorem up_S (q:Ax) (p u w:Int):ptL Wx.inB (fcF q true L p) (u,w)↔inS L (q.to (p - 1) u w).1 (q.to (p - 1) u w).2.1 (q.to (p - 1) u w).2.2∧ ¬inS L (q.to p u w).1 (q.to p u w).2.1 (q.to p u w).2.2:=by obtain ⟨_,hv,_,hL⟩:=Xo h;rw [←Ax.inL_S,←Ax.inL_S];exact (z4p q hv hl p).2 u w
theorem dn_S (q:Ax) (p u w:Int):ptL Wx.inB (fcF q false L p) (u,w)↔inS L (q.to p u w).1 (q.to p u w).2.1 (q.to p u w).2.2∧ ¬inS L (q.to (p - 1) u w).1 (q.to (p - 1) u w).2.1 (q.to (p - 1) u w).2.2:=by obtain ⟨_,hv,_,hL⟩:=Xo h;rw [←Ax.inL_S,←Ax.inL_S];exact (z5k q hv hl p).2 u w
end
theorem y6o {L:List R6} (h:Wk L=0) (hl:L.length≤20) (q:Ax) (s:Bool) (d p x y z nx ny nz u w:Int) (hd:d=2*q.ix+sdI s)
  (hg: ∀p' t,y7j d p x y z (qd q s p' t)=(decide (p'=p)&&u4k u w t)) (hp:ptL Wx.inB (fcF q s L p) (u,w)↔inS L x y z∧ ¬inS L nx ny nz):
  ∃N,Yv (Xn L x y z d) N (.to (.h0 p 0 0 nx ny nz))=.ret [.bool true]:=by
 obtain ⟨_,hv,_,hL⟩:=Xo h;have hM:(Zb L).length ≤3000:=by rw [(y8q h hl).2];have:=(z6m hv hl hL).2;omega
 obtain ⟨m,hm⟩:=v9p L x y z d hM (by omega) p nx ny nz (Zb L).length 0 0 (Nat.zero_add _) (Nat.le_refl _);rw [w9l h hl q s d p x y z nx ny nz u w hd hg hp] at hm;exact ⟨m,hm⟩
theorem w8u {a b:Int} (h:b≤a):Kq a b=a:=by unfold Kq;rw [if_neg (by omega)]
theorem w8t {a b:Int} (h:a<b):Kq a b=b:=by unfold Kq;rw [if_pos (by omega)]
theorem mfa_run (L:List R6) (x y z d:Int) (hd:0≤d∧d<256): ∃N,Yv (Xn L x y z d) N (y1a L x y z d)=.ret [.bool true]:=by
 unfold y1a;have T: ∀(c:Bool) (X:Xf mfaS),(c=true→ ∃N,Yv (Xn L x y z d) N X=.ret [.bool true])→ ∃N,Yv (Xn L x y z d) N (bif c then X else .ret [.bool true])=.ret [.bool true]:=fun c X hc=>by
  cases c with
  | false=>exact ⟨0,rfl⟩
  | true=>exact hc rfl
 have F: ∀(c:Bool) (X:Xf mfaS),(c=false→ ∃N,Yv (Xn L x y z d) N X=.ret [.bool true])→ ∃N,Yv (Xn L x y z d) N (bif c then .ret [.bool true] else X)=.ret [.bool true]:=fun c X hc=>by
  cases c with
  | true=>exact ⟨0,rfl⟩
  | false=>exact hc rfl
 simp only [Za,show z6s L=true from rfl,show z3a L=true from rfl,cond_true];refine F _ _ fun k0=> ?_;have k0:u4t L=true:=by simpa using k0
 obtain ⟨hl,h⟩:=u4r k0;refine F _ _ fun k1=>T _ _ fun k2=>T _ _ fun k3=>T _ _ fun k4=>T _ _ fun k5=>T _ _ fun k6=>F _ _ fun k7=>T _ _ fun k8=>T _ _ fun k9=>T _ _ fun k10=>T _ _ fun k11=>T _ _ fun k12=>F _ _ fun k13=> ?_;have g1: ¬d>5:=of_decide_eq_false k1;have g2:=of_decide_eq_true k2;have g3:=of_decide_eq_true k3;have g4:=of_decide_eq_true k4;have g5:=of_decide_eq_true k5;have g6:=of_decide_eq_true k6;have g7:z≤1000000:=by simpa using k7
 have g8:=of_decide_eq_true k8;have g9:=of_decide_eq_true k9;have g10:=of_decide_eq_true k10;rw [Zk (show _ by omega)] at g8 g9 g10;rw [(y8q h hl).1];have wx: ∀e:Int,-2≤e→e≤2→IntKind.wrap .i64 (x+e)=x+e:=fun e _ _=>Zk (by omega);have wy: ∀e:Int,-2≤e→e≤2→IntKind.wrap .i64 (y+e)=y+e:=fun e _ _=>Zk (by omega);have wz: ∀e:Int,-2≤e→e≤2→IntKind.wrap .i64 (z+e)=z+e:=fun e _ _=>Zk (by omega);simp only [wx 1 (by decide) (by decide),wx (-1) (by decide) (by decide),wx 0 (by decide) (by decide),wy 1 (by decide) (by decide),wy (-1) (by decide) (by decide),wy 0 (by decide) (by decide),wz 1 (by decide) (by decide),wz (-1) (by decide) (by decide),wz 0 (by decide) (by decide),Int.add_zero,show IntKind.wrap .i64 x=x from Zk (by omega),show IntKind.wrap .i64 y=y from Zk (by omega),show IntKind.wrap .i64 z=z from Zk (by omega)];have:d=0∨d=1∨d=2∨d=3∨d=4∨d=5:=by omega
 rcases this with rfl | rfl | rfl | rfl | rfl | rfl
 ·have e:=y6o h hl .x true 0 (Kq (Jr x y z 0) (Jr (x+1) y z 0)) x y z (x+1) y z y z rfl (fun p' t=>rfl) (by
   rw [show Kq (Jr x y z 0) (Jr (x+1) y z 0)=x+1 from w8t (show x<x+1 by omega)];have:=up_S h hl .x (x+1) y z;rwa [show x+1 - 1=x by omega] at this)
  simp only [show ((0:Int) != 0)=false from rfl,show IntKind.wrap .i64 0=0 from Zk (by omega),show (Int.tmod 0 2 == 1)=false from rfl,show decide ((0:Int)<2)=true from rfl,show decide ((0:Int)<4)=true from rfl,show Int.tdiv 0 2=0 from rfl,show IntKind.wrap .i64 0=0 from Zk (by omega),cond_true,cond_false];exact e
 ·have e:=y6o h hl .x false 1 (Kq (Jr x y z 0) (Jr (x+ -1) y z 0)) x y z (x+ -1) y z y z rfl (fun p' t=>rfl) (by
   rw [show Kq (Jr x y z 0) (Jr (x+ -1) y z 0)=x from w8u (show x+ -1≤x by omega)];have:=dn_S h hl .x x y z;rwa [show x - 1=x+ -1 by omega] at this)
  simp only [show ((0:Int) != 0)=false from rfl,show IntKind.wrap .i64 1=1 from Zk (by omega),show (Int.tmod 1 2 == 1)=true from rfl,show decide ((1:Int)<2)=true from rfl,show decide ((1:Int)<4)=true from rfl,show Int.tdiv 1 2=0 from rfl,show IntKind.wrap .i64 0=0 from Zk (by omega),cond_true,cond_false];exact e
 ·have e:=y6o h hl .y true 2 (Kq (Jr x y z 1) (Jr x (y+1) z 1)) x y z x (y+1) z x z rfl (fun p' t=>rfl) (by
   rw [show Kq (Jr x y z 1) (Jr x (y+1) z 1)=y+1 from w8t (show y<y+1 by omega)];have:=up_S h hl .y (y+1) x z;rwa [show y+1 - 1=y by omega] at this)
  simp only [show ((0:Int) != 0)=false from rfl,show IntKind.wrap .i64 2=2 from Zk (by omega),show (Int.tmod 2 2 == 1)=false from rfl,show decide ((2:Int)<2)=false from rfl,show decide ((2:Int)<4)=true from rfl,show Int.tdiv 2 2=1 from rfl,show IntKind.wrap .i64 1=1 from Zk (by omega),cond_true,cond_false];exact e
 ·have e:=y6o h hl .y false 3 (Kq (Jr x y z 1) (Jr x (y+ -1) z 1)) x y z x (y+ -1) z x z rfl (fun p' t=>rfl) (by
   rw [show Kq (Jr x y z 1) (Jr x (y+ -1) z 1)=y from w8u (show y+ -1≤y by omega)];have:=dn_S h hl .y y x z;rwa [show y - 1=y+ -1 by omega] at this)
  simp only [show ((0:Int) != 0)=false from rfl,show IntKind.wrap .i64 3=3 from Zk (by omega),show (Int.tmod 3 2 == 1)=true from rfl,show decide ((3:Int)<2)=false from rfl,show decide ((3:Int)<4)=true from rfl,show Int.tdiv 3 2=1 from rfl,show IntKind.wrap .i64 1=1 from Zk (by omega),cond_true,cond_false];exact e
 ·have e:=y6o h hl .z true 4 (Kq (Jr x y z 2) (Jr x y (z+1) 2)) x y z x y (z+1) x y rfl (fun p' t=>(by unfold y7j;show (_&&(_&&((_&&_)&&((_&&_)&&true))))=_;rw [Bool.and_true];rfl)) (by
   rw [show Kq (Jr x y z 2) (Jr x y (z+1) 2)=z+1 from w8t (show z<z+1 by omega)];have:=up_S h hl .z (z+1) x y;rwa [show z+1 - 1=z by omega] at this)
  simp only [show ((0:Int) != 0)=false from rfl,show IntKind.wrap .i64 4=4 from Zk (by omega),show (Int.tmod 4 2 == 1)=false from rfl,show decide ((4:Int)<2)=false from rfl,show decide ((4:Int)<4)=false from rfl,show Int.tdiv 4 2=2 from rfl,show IntKind.wrap .i64 2=2 from Zk (by omega),cond_true,cond_false];exact e
 ·have e:=y6o h hl .z false 5 (Kq (Jr x y z 2) (Jr x y (z+ -1) 2)) x y z x y (z+ -1) x y rfl (fun p' t=>(by unfold y7j;show (_&&(_&&((_&&_)&&((_&&_)&&true))))=_;rw [Bool.and_true];rfl)) (by
   rw [show Kq (Jr x y z 2) (Jr x y (z+ -1) 2)=z from w8u (show z+ -1≤z by omega)];have:=dn_S h hl .z z x y;rwa [show z - 1=z+ -1 by omega] at this)
  simp only [show ((0:Int) != 0)=false from rfl,show IntKind.wrap .i64 5=5 from Zk (by omega),show (Int.tmod 5 2 == 1)=true from rfl,show decide ((5:Int)<2)=false from rfl,show decide ((5:Int)<4)=false from rfl,show Int.tdiv 5 2=2 from rfl,show IntKind.wrap .i64 2=2 from Zk (by omega),cond_true,cond_false];exact e
end Go.Am
namespace Go.Am
section
variable {P:Program} {w:World} {base:Nat}
theorem v6a {u:TypeId} {k:IntKind} {v:Value} (hu:P.underlying u=some (.int k)) (h:Cell.okWide P w .any base u v): ∃n,v=.int k n∧k.has n=true:=by simp only [Cell.okWide,hu] at h;cases v <;> simp_all [Cell.ok]
theorem x8r : ∀(us:List TypeId) (ks:List IntKind) (cs:List Value),cs.length=us.length→us.map P.underlying=ks.map (fun k=>some (.int k))→
  (∀(i:Nat) (v:Value),cs[i]? =some v→ ∃u,us[i]? =some u∧Cell.okWide P w .any base u v)→
  ∃ns:List Int,ns.length=ks.length∧cs=List.zipWith Value.int ks ns∧ ∀p∈List.zip ks ns,p.1.has p.2=true
 | [],[],[],_,_,_=>⟨[],rfl,rfl,fun p hp=>by cases hp⟩
 | u::us,k::ks,c::cs,hl,hk,h=>by
  simp only [List.map_cons,List.cons.injEq] at hk;obtain ⟨u',hu',hc⟩:=h 0 c rfl;obtain rfl:u=u':=Option.some.inj hu';obtain ⟨n,rfl,hn⟩:=v6a hk.1 hc;obtain ⟨ns,h1,h2,h3⟩:=x8r us ks cs (by simpa using hl) hk.2 fun i v hi=>h (i+1) v hi;refine ⟨n::ns,by simp [h1],by rw [h2];rfl,fun p hp=> ?_⟩;rw [List.zip_cons_cons,List.mem_cons] at hp;rcases hp with rfl | hp
  ·exact hn
  ·exact h3 p hp
 | [],_::_,_,_,hk,_=>by simp at hk
 | _::_,[],_,_,hk,_=>by simp at hk
 | _::_,_::_,[],hl,_,_=>by simp at hl
 | [],[],_::_,hl,_,_=>by simp at hl
def aggT (P:Program) (t:TypeId):Bool:=match P.underlying t with | some (.struct _) | some (.array _ _)=>true | _=>false
theorem open_agg_ints {t:TypeId} {us:List TypeId} {ks:List IntKind} {v:Value} (hs:aggT P t=true) (hc:P.cellTypes P.depth t=some us) (hn:P.cellsOf t=us.length)
  (hk:us.map P.underlying=ks.map (fun k=>some (.int k))) (hv:Value.okWide P w .any base t v):
  ∃ns:List Int,ns.length=ks.length∧v=.agg (List.zipWith Value.int ks ns).toArray ∧ ∀p∈List.zip ks ns,p.1.has p.2=true:=by
 have h: ∃cs,v=.agg cs∧cs.size=P.cellsOf t∧Row.okWide P w .any base t cs:=by
  unfold Value.okWide at hv;unfold aggT at hs;split at hv
  ·exact hv
  ·exact hv
  ·rename_i h1 h2;split at hs
   ·rename_i fs h;exact absurd h (h1 fs)
   ·rename_i a b h;exact absurd h (h2 a b)
   ·cases hs
 obtain ⟨cs,rfl,hsz,ts,hts,_,hrow⟩:=h;obtain rfl:us=ts:=Option.some.inj (hc.symm.trans hts);have hl:cs.toList.length=us.length:=by simpa using hsz.trans hn
 obtain ⟨ns,h1,h2,h3⟩:=x8r us ks cs.toList hl hk fun i v hi=>by
  have hi':cs[i]? =some v:=by simpa using hi
  obtain ⟨u,hu,hc⟩:=hrow i v hi';have hlt:i<us.length:=by
   have:=(Array.getElem?_eq_some_iff.mp hi').1
   simpa [←hl] using this
  rw [Nat.mod_eq_of_lt hlt] at hu;exact ⟨u,hu,hc⟩
 exact ⟨ns,h1,by rw [←h2],h3⟩
theorem vrel_ints {ρ:Rho} (ks:List IntKind) (ns:List Int):VRel ρ (.agg (List.zipWith AVal.int ks ns)) (.agg (List.zipWith Value.int ks ns).toArray):=by refine .agg _ _ (by simp) fun i h1 h2=> ?_;simp only [List.getElem_zipWith,List.getElem_toArray];exact .int _ _
end
end Go.Am
end
