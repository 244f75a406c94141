/- A part of a proof: several texts in one. -/
import Derived.Test.YtmanggcjimaehaaGreatLc5
set_option maxRecDepth 1000000
set_option maxHeartbeats 8000000
set_option linter.unusedVariables false
set_option linter.unusedSimpArgs false
noncomputable section
namespace Go.Am
open Go.Proofs Go.Sort Go.Shelf Go.RowKit Go.Lib
namespace Dim
variable {α β:Type} {D:Dim α β}
theorem u4w (hD:D.Fair) (s:List β) (a b x:Int):D.inn (s.map (D.put a b)) x=if a≤x∧x<b then s else []:=by
 unfold inn;have e:(s.map (D.put a b)).filter (fun r=>decide (D.lo r≤x)&&decide (x<D.hi r))=if a≤x∧x<b then s.map (D.put a b) else []:=by
  split
  ·rename_i h;refine List.filter_eq_self.2 fun r hr=> ?_;obtain ⟨c,_,rfl⟩:=List.mem_map.1 hr;rw [hD.lo_put,hD.hi_put,decide_eq_true h.1,decide_eq_true h.2];rfl
  ·rename_i h;refine List.filter_eq_nil_iff.2 fun r hr hq=>h ?_;obtain ⟨c,_,rfl⟩:=List.mem_map.1 hr;rw [hD.lo_put,hD.hi_put,Bool.and_eq_true] at hq;exact ⟨of_decide_eq_true hq.1,of_decide_eq_true hq.2⟩
 rw [e];split
 ·rw [List.map_map];exact (List.map_congr_left fun c _=>hD.pr_put a b c).trans (List.map_id _)
 ·rfl
theorem inn_can (hD:D.Fair) {γ:Type} (M:Sem β γ) (x:Int): ∀G:List (Qp β),z1h M G→M.can (D.inn (D.flat G) x)
 | [],_=>M.nil
 | g::r,h=>by
  rw [show D.flat (g::r)=g.s.map (D.put g.a g.b)++D.flat r from rfl,D.inn_append,u4w hD];split
  ·rename_i hx;have e:D.inn (D.flat r) x=[]:=by unfold inn;rw [List.map_eq_nil_iff,List.filter_eq_nil_iff];intro a ha hq;obtain ⟨k,hk,ha⟩:=List.mem_flatMap.1 ha;obtain ⟨c,_,rfl⟩:=List.mem_map.1 ha;rw [hD.lo_put,Bool.and_eq_true] at hq;have h1:=of_decide_eq_true hq.1;have:=h.later k hk;omega
   rw [e,List.append_nil];exact h.head.2.1
  ·rw [List.nil_append];exact inn_can hD M x r h.tail
end Dim
theorem x8w {L:List R6} (hl:L.length≤400) (hv: ∀r∈L,Qu r=true) (hc:x4i.can L):Wc L=0:=by
 have hi: ∀z,D4.out (D6.inn L z)=D6.inn L z:=fun z=>by obtain ⟨h1,h2⟩:=Kb (y4k hv z) (Nat.le_trans (D6.inn_length L z) hl);obtain ⟨G,hG,e⟩:=hc;exact Xs.uniq _ _ h1 (by rw [e];exact Dim.inn_can z2n Xs z G hG) h2
 have hs:Secs L:=fun z=>by rw [hi z];exact Nat.le_trans (D6.inn_length L z) hl
 obtain ⟨h1,h2⟩:=u1s hv hl hs;have e:=x4i.uniq _ _ h1 hc h2;have ok: ∀k i,okF L k i=true:=fun k=>by
  induction k with
  | zero=>intro i;rfl
  | succ k ih=>intro i;show (bif Xg (D6.inn L (rd (D6.cuts L) i)) != 0 then false else okF L k (i+1))=true;rw [(z6l (y4k hv _) (Nat.le_trans (D6.inn_length L _) hl) (hs _)).2];exact ih (i+1)
 unfold Wc;rw [decide_eq_false (by omega),List.all_eq_true.2 hv,ok,e,decide_eq_false (by omega),show Jb L L=true from decide_eq_true rfl];rfl
theorem u7e {L:List R6} (hc:x4i.can L) (hb: ∀x y z,inS L x y z→(-1000000≤x∧x<1000000)∧(-1000000≤y∧y<1000000)∧(-1000000≤z∧z<1000000)): ∀r∈L,Qu r=true:=fun r hr=>by
 have hp:r.a<r.d∧r.b<r.e∧r.c<r.f:=by obtain ⟨G,hG,e⟩:=hc;rw [e] at hr;obtain ⟨g,hg,hr⟩:=List.mem_flatMap.1 hr;obtain ⟨b,hb,rfl⟩:=List.mem_map.1 hr;obtain ⟨h1,⟨H,hH,e2⟩,_⟩:=hG.all g hg;rw [e2] at hb;obtain ⟨k,hk,hb⟩:=List.mem_flatMap.1 hb;obtain ⟨c,hc,rfl⟩:=List.mem_map.1 hb;obtain ⟨h2,h3,_⟩:=hH.all k hk;exact ⟨h2,Can.pos h3 c hc,h1⟩
 have h1:=hb r.a r.b r.c ⟨r,hr,by omega,by omega,by omega⟩;have h2:=hb (r.d - 1) (r.e - 1) (r.f - 1) ⟨r,hr,by omega,by omega,by omega⟩;rw [x8m];simp only [x8n,Bool.and_eq_true,decide_eq_true_eq];omega
end Go.Am
namespace Go.Am
open Go.Proofs.Tryz
open Go.Proofs Go.Sort Go.Shelf Go.RowKit Go.Lib
theorem can1 (a b:Int) (h:a<b):y6b.can [⟨a,b⟩]:=⟨by simpa using h,by simp⟩
theorem u2e :Wc two2=0:=by
 refine x8w (by decide) ?_ ⟨[⟨0,1,[⟨0,0,1,1⟩,⟨1,1,2,2⟩]⟩],.one _ ⟨by decide,⟨[⟨0,1,[⟨0,1⟩]⟩,⟨1,2,[⟨1,2⟩]⟩],?_,rfl⟩,by simp⟩,rfl⟩
 ·intro r hr;simp only [two2,List.mem_cons,List.not_mem_nil,or_false] at hr;rcases hr with rfl | rfl <;> rfl
 ·exact .cons _ _ [] ⟨by decide,can1 0 1 (by decide),by simp⟩ ⟨by decide,fun _=>by simp⟩ (.one _ ⟨by decide,can1 1 2 (by decide),by simp⟩)
def w8p (L:List R6):Int:=1
def w8o (L:List R6):Int:=0
def z6v (L:List R6):Bool:=v5h L
theorem u3x (L:List R6) (h:z6v L=true): ∃N,Yk (z5k L) N (y1f L)=.ret [.int .i64 (w8p L),.int .i64 (w8o L)]:=by obtain rfl:=w0h h;refine ⟨40,?_⟩;unfold y1f;rw [Zb,show z1m two2=true from rfl,u2e];kernel_rfl
def fMpi :List AVal→Option (AVal×Bool)
 | [a0]=>match asL R6 a0 with
  | some (L0,g0,n0)=>some (.tup [.int .i64 (w8p L0),.int .i64 (w8o L0)],isT R6 n0 g0&&(z6v L0))
  | _=>none
 | _=>none
theorem u5y {S:Specs} (hS:Zu prog S):Zu prog (S.with w8f fMpi):=by
 refine z3s hS (by kernel_rfl) fun args v h=> ?_;unfold fMpi at h;split at h
 ·rename_i a0;split at h
  ·rename_i L0 g0 n0 e0;simp only [Option.some.injEq,Prod.mk.injEq,Bool.and_eq_true] at h;obtain ⟨rfl,ho0,hw⟩:=h;obtain ⟨N,hN⟩:=u3x L0 hw;exact ⟨_,_,(.cons (asL_le e0 ho0) .nil),rfl,v4i L0 N _ hN,3,rfl⟩
  ·cases h
 ·cases h
def Mk :Specs:=(Mj.with w8f fMpi)
theorem y0i :Zu prog Mk:=(u5y z4r)
end Go.Am
namespace Go.Am
open Go.Proofs.Tryz
open Go.Proofs
inductive al19S where
def u7h :al19S→Cfg
 :=nofun
def x0b :al19S→Xo al19S
 :=nofun
def z7q :Xo al19S:=(bif (z3m (cvT ([(R6.mk 0 0 0 2 1 1)]:List R6))) then (bif (z6v (cvT ([(R6.mk 0 0 0 1 1 1),(R6.mk 1 1 0 2 2 1)]:List R6))) then (bif ((z6w (cvT ([(R6.mk 0 0 0 2 1 1)]:List R6))) != 0) then (.ret [(.bool false)]) else (bif ((((Zp (cvT ([(R6.mk 0 0 0 2 1 1)]:List R6))).length :Nat):Int) != 6) then (.ret [(.bool false)]) else (bif ((w8o (cvT ([(R6.mk 0 0 0 1 1 1),(R6.mk 1 1 0 2 2 1)]:List R6))) != 0) then (.ret [(.bool false)]) else (bif ((w8p (cvT ([(R6.mk 0 0 0 1 1 1),(R6.mk 1 1 0 2 2 1)]:List R6))) != 1) then (.ret [(.bool false)]) else (bif (z3l (cvT (Zp (cvT ([(R6.mk 0 0 0 2 1 1)]:List R6))))) then (bif ((z9n (cvT (Zp (cvT ([(R6.mk 0 0 0 2 1 1)]:List R6))))) == 0) then (bif (Vg (cvT (z0f (cvT (Zp (cvT ([(R6.mk 0 0 0 2 1 1)]:List R6)))))) (cvT ([(R6.mk 0 0 0 2 1 1)]:List R6))) then (bif (Jb (cvT (z0f (cvT (Zp (cvT ([(R6.mk 0 0 0 2 1 1)]:List R6)))))) (cvT ([(R6.mk 0 0 0 2 1 1)]:List R6))) then (bif ((decide ((0:Int)≤0∧0<(((Zp (cvT ([(R6.mk 0 0 0 2 1 1)]:List R6))).length :Nat):Int)))&&true) then (bif (((rd (Zp (cvT ([(R6.mk 0 0 0 2 1 1)]:List R6))) 0).a == 0)&&((((rd (Zp (cvT ([(R6.mk 0 0 0 2 1 1)]:List R6))) 0).b == 2)&&(((rd (Zp (cvT ([(R6.mk 0 0 0 2 1 1)]:List R6))) 0).c == 0)&&(((rd (Zp (cvT ([(R6.mk 0 0 0 2 1 1)]:List R6))) 0).d == 0)&&true)))&&((((rd (Zp (cvT ([(R6.mk 0 0 0 2 1 1)]:List R6))) 0).e == 2)&&(((rd (Zp (cvT ([(R6.mk 0 0 0 2 1 1)]:List R6))) 0).f == 1)&&(((rd (Zp (cvT ([(R6.mk 0 0 0 2 1 1)]:List R6))) 0).g == 1)&&true)))&&true))) then (bif ((decide ((0:Int)≤4∧4<(((Zp (cvT ([(R6.mk 0 0 0 2 1 1)]:List R6))).length :Nat):Int)))&&true) then (.ret [(.bool (((rd (Zp (cvT ([(R6.mk 0 0 0 2 1 1)]:List R6))) 4).a == 4)&&((((rd (Zp (cvT ([(R6.mk 0 0 0 2 1 1)]:List R6))) 4).b == 0)&&(((rd (Zp (cvT ([(R6.mk 0 0 0 2 1 1)]:List R6))) 4).c == 0)&&(((rd (Zp (cvT ([(R6.mk 0 0 0 2 1 1)]:List R6))) 4).d == 1)&&true)))&&((((rd (Zp (cvT ([(R6.mk 0 0 0 2 1 1)]:List R6))) 4).e == 2)&&(((rd (Zp (cvT ([(R6.mk 0 0 0 2 1 1)]:List R6))) 4).f == 1)&&(((rd (Zp (cvT ([(R6.mk 0 0 0 2 1 1)]:List R6))) 4).g == 1)&&true)))&&true))))]) else .stuck) else (.ret [(.bool false)])) else .stuck) else (.ret [(.bool false)])) else .stuck) else (.ret [(.bool false)])) else .stuck))))) else .stuck) else .stuck)
theorem x7z : ∀s,Xk prog (Zy prog 36) (u7h) (u7h s) (x0b s)
 :=nofun
theorem x2x :Xk prog (Zy prog 36) (u7h) (Ze prog 36 [] true []) (z7q):=(Wh (sl y0i (C':=⟨⟨66,0,true⟩,(Ui prog 36 [1,0] 2),(Zd prog 36 [1,0] 1),none,(Zy prog 10),⟨Yc [(9,(.dat ([(R6.mk 0 0 0 2 1 1)]:List R6).length (Zz ([(R6.mk 0 0 0 2 1 1)]:List R6))))],Un [] 0,0,[],true⟩,[],.leaf⟩) 26 [] ⟨[],[1],[some [9]],[]⟩ ⟨[(9,.frz 1 ([(R6.mk 0 0 0 2 1 1)]:List R6).length (z2t [(ii 0),(ii 0),(ii 0),(ii 2),(ii 1),(ii 1)] 0 6) (Zz ([(R6.mk 0 0 0 2 1 1)]:List R6)))],[],[]⟩ [] (pp (xZ (.dat 1 (z2t [(ii 0),(ii 0),(ii 0),(ii 2),(ii 1),(ii 1)] 0 6)) 1 (z2t [(ii 0),(ii 0),(ii 0),(ii 2),(ii 1),(ii 1)] 0 6)) (pp (xL 1 ([(R6.mk 0 0 0 2 1 1)]:List R6).length) (pp (xS 1 (z2t [(ii 0),(ii 0),(ii 0),(ii 2),(ii 1),(ii 1)] 0 6) (Zz ([(R6.mk 0 0 0 2 1 1)]:List R6))) nn)))) (lo fun q0_0=>(Wh (sl y0i (C':=⟨⟨66,0,true⟩,(Ui prog 36 [1,1,0] 3),(Zd prog 36 [1,1,0] 1),none,(Zy prog 10),⟨Yc [(1,(.dat (Zp (cvT ([(R6.mk 0 0 0 2 1 1)]:List R6))).length (Zz (Zp (cvT ([(R6.mk 0 0 0 2 1 1)]:List R6)))))),(2,(ii (z6w (cvT ([(R6.mk 0 0 0 2 1 1)]:List R6))))),(16,(.dat ([(R6.mk 0 0 0 1 1 1),(R6.mk 1 1 0 2 2 1)]:List R6).length (Zz ([(R6.mk 0 0 0 1 1 1),(R6.mk 1 1 0 2 2 1)]:List R6))))],Un [] 0,0,[],true⟩,[],.leaf⟩) 48 [] ⟨[],[2],[some [1,2,16]],[]⟩ ⟨[(16,.frz 2 ([(R6.mk 0 0 0 1 1 1),(R6.mk 1 1 0 2 2 1)]:List R6).length (z2t [(ii 0),(ii 0),(ii 0),(ii 1),(ii 1),(ii 1),(ii 1),(ii 1),(ii 0),(ii 2),(ii 2),(ii 1)] 0 6) (Zz ([(R6.mk 0 0 0 1 1 1),(R6.mk 1 1 0 2 2 1)]:List R6)))],[],[]⟩ [] (pp (xZ (.dat 2 (z2t [(ii 0),(ii 0),(ii 0),(ii 1),(ii 1),(ii 1),(ii 1),(ii 1),(ii 0),(ii 2),(ii 2),(ii 1)] 0 6)) 2 (z2t [(ii 0),(ii 0),(ii 0),(ii 1),(ii 1),(ii 1),(ii 1),(ii 1),(ii 0),(ii 2),(ii 2),(ii 1)] 0 6)) (pp (xL 2 ([(R6.mk 0 0 0 1 1 1),(R6.mk 1 1 0 2 2 1)]:List R6).length) (pp (xS 2 (z2t [(ii 0),(ii 0),(ii 0),(ii 1),(ii 1),(ii 1),(ii 1),(ii 1),(ii 0),(ii 2),(ii 2),(ii 1)] 0 6) (Zz ([(R6.mk 0 0 0 1 1 1),(R6.mk 1 1 0 2 2 1)]:List R6))) (pp (pp (xI R6 ([(R6.mk 0 0 0 2 1 1)]:List R6).length (Zz ([(R6.mk 0 0 0 2 1 1)]:List R6))) (xw q0_0)) nn))))) (lo fun bW=>(lb (fun k0=>(lr 66 36 [1,1,1,0,1,0,0] 1 10 [(0,(.bool false))] (sl y0i 31 [] ⟨[],[],[some [0]],[]⟩ ⟨[],[],[]⟩ (trs 8 []) (tt k0 (pp (pp (xI R6 ([(R6.mk 0 0 0 1 1 1),(R6.mk 1 1 0 2 2 1)]:List R6).length (Zz ([(R6.mk 0 0 0 1 1 1),(R6.mk 1 1 0 2 2 1)]:List R6))) (xw bW)) nn))))) (fun k0=>(lb (fun k1=>(lr 66 36 [1,1,1,0,1,0,0] 1 10 [(0,(.bool false))] (sl y0i 31 [] ⟨[],[],[some [0]],[]⟩ ⟨[],[],[]⟩ [false,false,false,true,true,true,true,true] (tt k1 (tt k0 (pp (pp (xI R6 ([(R6.mk 0 0 0 1 1 1),(R6.mk 1 1 0 2 2 1)]:List R6).length (Zz ([(R6.mk 0 0 0 1 1 1),(R6.mk 1 1 0 2 2 1)]:List R6))) (xw bW)) nn)))))) (fun k1=>(lb (fun k2=>(lr 66 36 [1,1,1,0,1,0,0] 1 10 [(0,(.bool false))] (sl y0i 31 [] ⟨[],[],[some [0]],[]⟩ ⟨[],[],[]⟩ [false,false,false,false,false,true,true,true] (tt k2 (tt k1 (tt k0 (pp (pp (xI R6 ([(R6.mk 0 0 0 1 1 1),(R6.mk 1 1 0 2 2 1)]:List R6).length (Zz ([(R6.mk 0 0 0 1 1 1),(R6.mk 1 1 0 2 2 1)]:List R6))) (xw bW)) nn))))))) (fun k2=>(lb (fun k3=>(lr 66 36 [1,1,1,0,1,0,0] 1 10 [(0,(.bool false))] (sl y0i 31 [] ⟨[],[],[some [0]],[]⟩ ⟨[],[],[]⟩ [false,false,false,false,false,false,false,true] (tt k3 (tt k2 (tt k1 (tt k0 (pp (pp (xI R6 ([(R6.mk 0 0 0 1 1 1),(R6.mk 1 1 0 2 2 1)]:List R6).length (Zz ([(R6.mk 0 0 0 1 1 1),(R6.mk 1 1 0 2 2 1)]:List R6))) (xw bW)) nn)))))))) (fun k3=>(lo fun bT=>(lb (fun k4=>(Wh (sl y0i (C':=⟨⟨66,0,true⟩,(Ui prog 36 [1,1,1,1,1,0] 6),(Zd prog 36 [1,1,1,1,1,0] 1),none,(Zy prog 10),⟨Yc [(1,(.dat (Zp (cvT ([(R6.mk 0 0 0 2 1 1)]:List R6))).length (Zz (Zp (cvT ([(R6.mk 0 0 0 2 1 1)]:List R6)))))),(42,(.bool true)),(43,(.dat (z0f (cvT (Zp (cvT ([(R6.mk 0 0 0 2 1 1)]:List R6))))).length (Zz (z0f (cvT (Zp (cvT ([(R6.mk 0 0 0 2 1 1)]:List R6)))))))),(45,(.dat ([(R6.mk 0 0 0 2 1 1)]:List R6).length (Zz ([(R6.mk 0 0 0 2 1 1)]:List R6))))],Un [] 0,0,[],true⟩,[],.leaf⟩) 64 [] ⟨[],[1],[some [1,42,43,45]],[]⟩ ⟨[(45,.frz 1 ([(R6.mk 0 0 0 2 1 1)]:List R6).length (z2t [(ii 0),(ii 0),(ii 0),(ii 2),(ii 1),(ii 1)] 0 6) (Zz ([(R6.mk 0 0 0 2 1 1)]:List R6)))],[],[]⟩ [false,false,false,false,false,false,false,false,true,true,true] (pp (xZ (.dat 1 (z2t [(ii 0),(ii 0),(ii 0),(ii 2),(ii 1),(ii 1)] 0 6)) 1 (z2t [(ii 0),(ii 0),(ii 0),(ii 2),(ii 1),(ii 1)] 0 6)) (pp (xL 1 ([(R6.mk 0 0 0 2 1 1)]:List R6).length) (pp (xS 1 (z2t [(ii 0),(ii 0),(ii 0),(ii 2),(ii 1),(ii 1)] 0 6) (Zz ([(R6.mk 0 0 0 2 1 1)]:List R6))) (tt k4 (pp (pp (xI R7 (Zp (cvT ([(R6.mk 0 0 0 2 1 1)]:List R6))).length (Zz (Zp (cvT ([(R6.mk 0 0 0 2 1 1)]:List R6))))) (xw bT)) (tt k3 (tt k2 (tt k1 (tt k0 (pp (pp (xI R6 ([(R6.mk 0 0 0 1 1 1),(R6.mk 1 1 0 2 2 1)]:List R6).length (Zz ([(R6.mk 0 0 0 1 1 1),(R6.mk 1 1 0 2 2 1)]:List R6))) (xw bW)) nn))))))))))) (lo fun cM=>(lb (fun k5=>(lo fun cT=>(lb (fun k6=>(lo fun o0=>(lr 66 3 [1,1,1,1,1,1,1,0] 1 10 [(0,(.bool (((rd (Zp (cvT ([(R6.mk 0 0 0 2 1 1)]:List R6))) 4).a == 4)&&((((rd (Zp (cvT ([(R6.mk 0 0 0 2 1 1)]:List R6))) 4).b == 0)&&(((rd (Zp (cvT ([(R6.mk 0 0 0 2 1 1)]:List R6))) 4).c == 0)&&(((rd (Zp (cvT ([(R6.mk 0 0 0 2 1 1)]:List R6))) 4).d == 1)&&true)))&&((((rd (Zp (cvT ([(R6.mk 0 0 0 2 1 1)]:List R6))) 4).e == 2)&&(((rd (Zp (cvT ([(R6.mk 0 0 0 2 1 1)]:List R6))) 4).f == 1)&&(((rd (Zp (cvT ([(R6.mk 0 0 0 2 1 1)]:List R6))) 4).g == 1)&&true)))&&true)))))] (sl y0i 22 [] ⟨[],[],[some [0]],[]⟩ ⟨[],[],[]⟩ (trs 15 []) (ww o0 (tt k6 (ww cT (tt k5 (pp (pp (xI R6 (z0f (cvT (Zp (cvT ([(R6.mk 0 0 0 2 1 1)]:List R6))))).length (Zz (z0f (cvT (Zp (cvT ([(R6.mk 0 0 0 2 1 1)]:List R6))))))) (pp (xI R6 ([(R6.mk 0 0 0 2 1 1)]:List R6).length (Zz ([(R6.mk 0 0 0 2 1 1)]:List R6))) (xw cM))) nn))))))))) (fun k6=>(lr 66 3 [1,1,1,1,1,1,1,0] 1 10 [(0,(.bool false))] (sl y0i 22 [] ⟨[],[],[some [0]],[]⟩ ⟨[],[],[]⟩ (trs 8 [false,false,false,false,false,false,false]) (tt k6 (ww cT (tt k5 (pp (pp (xI R6 (z0f (cvT (Zp (cvT ([(R6.mk 0 0 0 2 1 1)]:List R6))))).length (Zz (z0f (cvT (Zp (cvT ([(R6.mk 0 0 0 2 1 1)]:List R6))))))) (pp (xI R6 ([(R6.mk 0 0 0 2 1 1)]:List R6).length (Zz ([(R6.mk 0 0 0 2 1 1)]:List R6))) (xw cM))) nn)))))))))) (fun k5=>(lr 66 3 [1,1,1,1,1,1,1,0] 1 10 [(0,(.bool false))] (sl y0i 22 [] ⟨[],[],[some [0]],[]⟩ ⟨[],[],[]⟩ [true,false,false,false,false,false,false,false,false,false,false,false,false,false,false] (tt k5 (pp (pp (xI R6 (z0f (cvT (Zp (cvT ([(R6.mk 0 0 0 2 1 1)]:List R6))))).length (Zz (z0f (cvT (Zp (cvT ([(R6.mk 0 0 0 2 1 1)]:List R6))))))) (pp (xI R6 ([(R6.mk 0 0 0 2 1 1)]:List R6).length (Zz ([(R6.mk 0 0 0 2 1 1)]:List R6))) (xw cM))) nn))))))))) (fun k4=>(lr 66 3 [1,1,1,1,1,1,1,0] 1 10 [(0,(.bool false))] (sl y0i 68 [] ⟨[],[],[some [0]],[]⟩ ⟨[],[],[]⟩ [false,false,false,false,false,false,false,false,false,false,false,false,false,false,false,false,false,false,false,false,false,false,false,false,false,false] (tt k4 (pp (pp (xI R7 (Zp (cvT ([(R6.mk 0 0 0 2 1 1)]:List R6))).length (Zz (Zp (cvT ([(R6.mk 0 0 0 2 1 1)]:List R6))))) (xw bT)) (tt k3 (tt k2 (tt k1 (tt k0 (pp (pp (xI R6 ([(R6.mk 0 0 0 1 1 1),(R6.mk 1 1 0 2 2 1)]:List R6).length (Zz ([(R6.mk 0 0 0 1 1 1),(R6.mk 1 1 0 2 2 1)]:List R6))) (xw bW)) nn))))))))))))))))))))))))
theorem v1i (n:Nat) (vs:List AVal) (h:Yk (x0b) n (z7q)=.ret vs):Kv prog (Zy prog 36) (Ze prog 36 [] true []) vs:=by have:=Zr (x7z) n _ (x2x);rwa [h] at this
end Go.Am
namespace Go.Am
open Go.Proofs Go.Sort Go.Shelf Go.RowKit Go.Lib
theorem chg {L:List R2} (h:Can L) {y:Int} (hy:y∈z8u L) (hS:pt L (y - 1)↔pt L y):False:=by
 obtain ⟨s,hs,h1⟩:=List.mem_flatMap.1 hy;have hp:=h.pos s hs;have sepL: ∀t∈L,t=s∨t.b<s.a∨s.b<t.a:=fun t ht=>by
  obtain ⟨i,hi,ei⟩:=List.getElem_of_mem hs;obtain ⟨j,hj,ej⟩:=List.getElem_of_mem ht;have pw:=List.pairwise_iff_getElem.1 h.sep;rcases Nat.lt_trichotomy i j with q | q | q
  ·have:=pw i j hi hj q;rw [ei,ej] at this;exact .inr (.inr this)
  ·subst q;exact .inl (ej.symm.trans ei)
  ·have:=pw j i hj hi q;rw [ei,ej] at this;exact .inr (.inl this)
 simp only [List.mem_cons,List.not_mem_nil,or_false] at h1;rcases h1 with rfl | rfl
 ·obtain ⟨t,ht,t1,t2⟩:=hS.2 ⟨s,hs,Int.le_refl _,hp⟩;rcases sepL t ht with rfl | q | q <;> omega
 ·obtain ⟨t,ht,t1,t2⟩:=hS.1 ⟨s,hs,by omega,by omega⟩;rcases sepL t ht with rfl | q | q <;> omega
theorem x1s : ∀(l S:List Int),l.Pairwise (· ≠ ·)→(∀x∈l,x∈S)→l.length≤S.length
 | [],S,_,_=>Nat.zero_le _
 | x::l,S,h,hs=>by obtain ⟨h1,h2⟩:=List.pairwise_cons.1 h;have hx:=hs x (by simp);have:=x1s l (S.erase x) h2 fun y hy=>(List.mem_erase_of_ne (fun e=>h1 y hy e.symm)).2 (hs y (by simp [hy]));rw [List.length_erase_of_mem hx] at this;have:=List.length_pos_of_mem hx;simp only [List.length_cons];omega
theorem u1j {a b:List R2} (ha:a.all Qt=true) (hb:b.all Qt=true):(spJ 2 a b).length +(spJ 2 b a).length ≤a.length+b.length:=by
 obtain ⟨c1,p1⟩:=z7y 2 ha hb;obtain ⟨c2,p2⟩:=z7y 2 hb ha;have q1: ∀y,pt (spJ 2 a b) y↔pt a y∧ ¬pt b y:=fun y=>by rw [show pt (spJ 2 a b) y↔_ from p1 y];unfold opB;simp
 have q2: ∀y,pt (spJ 2 b a) y↔pt b y∧ ¬pt a y:=fun y=>by rw [show pt (spJ 2 b a) y↔_ from p2 y];unfold opB;simp
 have f: ∀y:Int,∃z,(z=2*y∧ ¬(pt a (y - 1)↔pt a y))∨(z=2*y+1∧(pt a (y - 1)↔pt a y)):=fun y=>by
  by_cases h:pt a (y - 1)↔pt a y
  ·exact ⟨_,.inr ⟨rfl,h⟩⟩
  ·exact ⟨_,.inl ⟨rfl,h⟩⟩
 have g: ∀y:Int,∃z,(z=2*y+1∧ ¬(pt b (y - 1)↔pt b y))∨(z=2*y∧(pt b (y - 1)↔pt b y)):=fun y=>by
  by_cases h:pt b (y - 1)↔pt b y
  ·exact ⟨_,.inr ⟨rfl,h⟩⟩
  ·exact ⟨_,.inl ⟨rfl,h⟩⟩
 obtain ⟨f,hf⟩:=Classical.axiomOfChoice f;obtain ⟨g,hg⟩:=Classical.axiomOfChoice g;have key:=x1s ((z8u (spJ 2 a b)).map f++(z8u (spJ 2 b a)).map g) ((z8u a).map (2* ·)++(z8u b).map (2* · +1)) (by
  refine List.pairwise_append.2 ⟨List.pairwise_map.2 ((y4h c1).imp fun {x y} h=> ?_),List.pairwise_map.2 ((y4h c2).imp fun {x y} h=> ?_),?_⟩
  ·have:=hf x;have:=hf y;omega
  ·have:=hg x;have:=hg y;omega
  ·intro x hx z hz;obtain ⟨y,hy,rfl⟩:=List.mem_map.1 hx;obtain ⟨y',hy',rfl⟩:=List.mem_map.1 hz;intro e;have e1:y'=y:=by have:=hf y;have:=hg y';omega
   subst e1;have n1:=chg c1 hy;have n2:=chg c2 hy';rw [q1,q1] at n1;rw [q2,q2] at n2;rcases hf y' with ⟨e1,h1⟩ | ⟨e1,h1⟩ <;> rcases hg y' with ⟨e2,h2⟩ | ⟨e2,h2⟩
   ·omega
   ·by_cases h3:pt b y'
    ·exact n1 (by simp [h2,h3])
    ·exact n2 (by simp [h2,h3])
   ·by_cases h3:pt a y'
    ·exact n2 (by simp [h1,h3])
    ·exact n1 (by simp [h1,h3])
   ·omega) (by
  intro x hx;rcases List.mem_append.1 hx with hx | hx
  ·obtain ⟨y,hy,rfl⟩:=List.mem_map.1 hx;have n1:=chg c1 hy;rw [q1,q1] at n1;rcases hf y with ⟨e1,h1⟩ | ⟨e1,h1⟩
   ·refine List.mem_append.2 (.inl (List.mem_map.2 ⟨y,Classical.byContradiction fun hn=>h1 (z8e hn),e1.symm⟩))
   ·refine List.mem_append.2 (.inr (List.mem_map.2 ⟨y,Classical.byContradiction fun hn=>n1 (by rw [h1,z8e hn]),e1.symm⟩))
  ·obtain ⟨y,hy,rfl⟩:=List.mem_map.1 hx;have n1:=chg c2 hy;rw [q2,q2] at n1;rcases hg y with ⟨e1,h1⟩ | ⟨e1,h1⟩
   ·refine List.mem_append.2 (.inr (List.mem_map.2 ⟨y,Classical.byContradiction fun hn=>h1 (z8e hn),e1.symm⟩))
   ·refine List.mem_append.2 (.inl (List.mem_map.2 ⟨y,Classical.byContradiction fun hn=>n1 (by rw [h1,z8e hn]),e1.symm⟩)))
 simp only [List.length_append,List.length_map,z0k] at key;omega
theorem z8v : ∀(l m:List Int),l.Pairwise (· < ·)→m.Pairwise (· < ·)→(∀x,x∈l↔x∈m)→l=m
 | [],[],_,_,_=>rfl
 | [],y::m,_,_,h=>by have:=(h y).2 (by simp);cases this
 | x::l,[],_,_,h=>by have:=(h x).1 (by simp);cases this
 | x::l,y::m,hl,hm,h=>by
  obtain ⟨l1,l2⟩:=List.pairwise_cons.1 hl;obtain ⟨m1,m2⟩:=List.pairwise_cons.1 hm;have e:x=y:=by
   have hx:=(h x).1 (by simp);have hy:=(h y).2 (by simp);rcases List.mem_cons.1 hx with hx | hx
   ·exact hx
   ·rcases List.mem_cons.1 hy with hy | hy
    ·exact hy.symm
    ·have:=l1 y hy;have:=m1 x hx;omega
  subst e
  congr 1
  refine z8v l m l2 m2 fun z=>⟨fun hz=> ?_,fun hz=> ?_⟩
  ·have:=l1 z hz;rcases List.mem_cons.1 ((h z).1 (by simp [hz])) with q | q
   ·omega
   ·exact q
  ·have:=m1 z hz;rcases List.mem_cons.1 ((h z).2 (by simp [hz])) with q | q
   ·omega
   ·exact q
namespace Dim
variable {α β:Type} {D:Dim α β}
theorem w0x (l:List α):(D.cuts l).Pairwise (· < ·):=by show (Ur (D.ends l)).Pairwise (· < ·);rw [Ug];exact (Xf _).1
theorem w0w (l:List α) (x:Int):x∈D.cuts l↔x∈D.ends l:=by show x∈Ur (D.ends l)↔_;rw [Ug];exact (Xf _).2 x
theorem w0v (l:List α) (x:Int):x∈D.ends l↔ ∃r∈l,x=D.lo r∨x=D.hi r:=by
 induction l with
 | nil=>exact ⟨fun h=>(by cases h),fun ⟨r,h,_⟩=>(by cases h)⟩
 | cons r l ih=>
  show x∈D.lo r::D.hi r::D.ends l↔_;rw [List.mem_cons,List.mem_cons,ih];constructor
  ·rintro (h | h | ⟨s,hs,h⟩)
   ·exact ⟨r,by simp,.inl h⟩
   ·exact ⟨r,by simp,.inr h⟩
   ·exact ⟨s,by simp [hs],h⟩
  ·rintro ⟨s,hs,h⟩;rcases List.mem_cons.1 hs with rfl | hs
   ·rcases h with h | h
    ·exact .inl h
    ·exact .inr (.inl h)
   ·exact .inr (.inr ⟨s,hs,h⟩)
theorem cuts_comm (a b:List α):D.cuts (a++b)=D.cuts (b++a):=z8v _ _ (w0x _) (w0x _) fun x=>by
 rw [w0w,w0w,w0v,w0v];constructor <;> exact fun ⟨r,hr,h⟩=>⟨r,by rw [List.mem_append] at*;exact hr.symm,h⟩
end Dim
theorem v3p {a b:List R4} (ha: ∀r∈a,Vy r=true) (hb: ∀r∈b,Vy r=true):(rgJ 2 a b).length +(rgJ 2 b a).length ≤(a.length+b.length)*(a.length+b.length):=by
 have hv: ∀r∈a++b,D4.lo r<D4.hi r:=fun r hr=>by
  have hv:Vy r=true:=by
   rcases List.mem_append.1 hr with h | h
   ·exact ha r h
   ·exact hb r h
  simp only [Vy,Bool.and_eq_true,decide_eq_true_eq] at hv;exact hv.1
 have g1:=D4.goS_length (fun x=>spJ 2 (D4.inn a x) (D4.inn b x)) (D4.cuts (a++b)) ((D4.cuts (a++b)).length - 1) 0 ⟨[],[],0,0⟩;have g2:=D4.goS_length (fun x=>spJ 2 (D4.inn b x) (D4.inn a x)) (D4.cuts (a++b)) ((D4.cuts (a++b)).length - 1) 0 ⟨[],[],0,0⟩;have h2:=D4.open_sum (a++b) hv ((D4.cuts (a++b)).length - 1) (Nat.sub_le _ _);have e1:(rgJ 2 b a).length =(D4.goS (fun x=>spJ 2 (D4.inn b x) (D4.inn a x)) (D4.cuts (a++b)) ((D4.cuts (a++b)).length - 1) 0 ⟨[],[],0,0⟩).out.length :=by unfold rgJ;rw [Dim.cuts_comm b a]
 have e2:(rgJ 2 a b).length =(D4.goS (fun x=>spJ 2 (D4.inn a x) (D4.inn b x)) (D4.cuts (a++b)) ((D4.cuts (a++b)).length - 1) 0 ⟨[],[],0,0⟩).out.length :=rfl;rw [e1,e2];rw [List.length_append] at h2;refine Nat.le_trans (Nat.add_le_add g1 g2) (Nat.le_trans ?_ h2);simp only [List.length_nil,Nat.zero_add];generalize (D4.cuts (a++b)).length - 1=k
 induction k with
 | zero=>exact Nat.le_refl _
 | succ k ih=>rw [List.range_succ,List.map_append,List.map_append,List.map_append,List.sum_append,List.sum_append,List.sum_append];have:=u1j (Vj ha (rd (D4.cuts (a++b)) k)) (Vj hb (rd (D4.cuts (a++b)) k));simp only [List.map_cons,List.map_nil,List.sum_cons,List.sum_nil];rw [D4.inn_append,List.length_append];omega
end Go.Am
namespace Go.Am
open Go.Proofs Go.Sort Go.Shelf Go.RowKit Go.Lib
def Ax.inB (q:Ax) (r:R6) (p u v:Int):Prop:=(q.lo r≤p∧p<q.hi r)∧((q.rc r).a ≤u∧u<(q.rc r).c)∧((q.rc r).b ≤v∧v<(q.rc r).d)
def Ax.inL (q:Ax) (L:List R6) (p u v:Int):Prop:= ∃r∈L,q.inB r p u v
def Ax.to (q:Ax) (p u v:Int):Int×Int×Int:=match q with
 | .x =>(p,u,v)
 | .y =>(u,p,v)
 | .z =>(u,v,p)
theorem v9g (l:List R4) (u v:Int):ptL Xs.inB l (u,v)↔ ∃r∈l,(r.a≤u∧u<r.c)∧(r.b≤v∧v<r.d):=by
 constructor
 ·rintro ⟨r,hr,h1,h2,h3,h4⟩;exact ⟨r,hr,⟨h1,h2⟩,h3,h4⟩
 ·rintro ⟨r,hr,⟨h1,h2⟩,h3,h4⟩;exact ⟨r,hr,h1,h2,h3,h4⟩
theorem z9u (q:Ax) (L:List R6) (p u v:Int):ptL Xs.inB (z1d q L p) (u,v)↔q.inL L p u v:=by
 rw [v9g];constructor
 ·rintro ⟨s,hs,h⟩;obtain ⟨r,hr,rfl⟩:=List.mem_map.1 hs;obtain ⟨h1,h2⟩:=List.mem_filter.1 hr;simp only [Bool.and_eq_true,decide_eq_true_eq] at h2;exact ⟨r,h1,h2,h⟩
 ·rintro ⟨r,hr,h1,h2⟩;exact ⟨q.rc r,List.mem_map.2 ⟨r,List.mem_filter.2 ⟨hr,by simp only [Bool.and_eq_true,decide_eq_true_eq];exact h1⟩,rfl⟩,h2⟩
theorem Ax.val (q:Ax) {r:R6} (h:Qu r=true):Vy (q.rc r)=true∧q.lo r<q.hi r∧ -1000000≤q.lo r∧q.hi r≤1000000:=by
 have:=z2v h;cases q
 ·refine ⟨?_,by show r.a<r.d;omega,by show _≤r.a;omega,by show r.d≤_;omega⟩;show Vy ⟨r.b,r.c,r.e,r.f⟩=true;simp only [Vy,Bool.and_eq_true,decide_eq_true_eq]
  (repeat' apply And.intro) <;> omega
 ·refine ⟨?_,by show r.b<r.e;omega,by show _≤r.b;omega,by show r.e≤_;omega⟩;show Vy ⟨r.a,r.c,r.d,r.f⟩=true;simp only [Vy,Bool.and_eq_true,decide_eq_true_eq]
  (repeat' apply And.intro) <;> omega
 ·refine ⟨?_,by show r.c<r.f;omega,by show _≤r.c;omega,by show r.f≤_;omega⟩;show Vy ⟨r.a,r.b,r.d,r.e⟩=true;simp only [Vy,Bool.and_eq_true,decide_eq_true_eq]
  (repeat' apply And.intro) <;> omega
theorem v0o (q:Ax) {L:List R6} (hv: ∀r∈L,Qu r=true) (p:Int): ∀s∈z1d q L p,Vy s=true:=fun s hs=>by obtain ⟨r,hr,rfl⟩:=List.mem_map.1 hs;exact (q.val (hv r (List.mem_filter.1 hr).1)).1
theorem x7j (q:Ax) (L:List R6) (p:Int):(z1d q L p).length ≤L.length:=by unfold z1d;rw [List.length_map];exact List.length_filter_le _ _
theorem z2g {l:List R4} (hc:Xs.can l) (hb: ∀u v,ptL Xs.inB l (u,v)→(-1000000≤u∧u<1000000)∧(-1000000≤v∧v<1000000)): ∀r∈l,Vy r=true:=fun r hr=>by
 have hp:r.a<r.c∧r.b<r.d:=by obtain ⟨G,hG,e⟩:=hc;rw [e] at hr;obtain ⟨g,hg,hr⟩:=List.mem_flatMap.1 hr;obtain ⟨b,hb,rfl⟩:=List.mem_map.1 hr;obtain ⟨h1,h2,_⟩:=hG.all g hg;exact ⟨h1,Can.pos h2 b hb⟩
 have h1:=hb r.a r.b ((v9g _ _ _).2 ⟨r,hr,by omega,by omega⟩);have h2:=hb (r.c - 1) (r.d - 1) ((v9g _ _ _).2 ⟨r,hr,by omega,by omega⟩);simp only [Vy,Bool.and_eq_true,decide_eq_true_eq];omega
theorem z1j {l:List R4} (hv: ∀r∈l,Vy r=true) {u v:Int} (h:ptL Xs.inB l (u,v)):(-1000000≤u∧u<1000000)∧(-1000000≤v∧v<1000000):=by obtain ⟨r,hr,h1,h2⟩:=(v9g _ _ _).1 h;have:=hv r hr;simp only [Vy,Bool.and_eq_true,decide_eq_true_eq] at this;omega
structure Few (c l:List R4) (n:Nat):Prop where
 can:Xs.can l
 pts: ∀u v,ptL Xs.inB l (u,v)↔ptL Xs.inB c (u,v)
 val: ∀r∈l,Vy r=true
 len:l.length≤n*n
 sec: ∀x,(D4.inn l x).length ≤n
theorem w7s {l:List R4} (hv: ∀r∈l,Vy r=true) (hl:l.length≤400):(D4.out l).length ≤l.length*l.length:=by
 have h:=Js 0 hv (fun r (h:r∈([]:List R4))=>by cases h);have e:rgJ 0 l []=D4.out l:=Xs.uniq _ _ h.1 (Kb hv hl).1 fun p=>by rw [h.2.1,(Kb hv hl).2];have: ¬ptL Xs.inB ([]:List R4) p:=z3g _ _;by_cases hp:ptL Xs.inB l p <;> simp [opB,hp,this]
 have:=h.2.2;rw [e] at this;exact this
theorem y1o {l:List R4} (hc:Xs.can l) (x:Int):y6b.can (D4.inn l x):=by obtain ⟨G,hG,e⟩:=hc;rw [e];exact Dim.inn_can y4z y6b x G hG
theorem u5i {c:List R4} (hv: ∀r∈c,Vy r=true) (hl:c.length≤20):Few c (D4.out c) c.length:=by
 obtain ⟨h1,h2⟩:=Kb hv (by omega);refine ⟨h1,fun u v=>h2 (u,v),z2g h1 fun u v h=>z1j hv ((h2 _).1 h),w7s hv (by omega),fun x=> ?_⟩;have h3:=z0q 0 (a:=D4.inn c x) (b:=[]) (Vj hv x) rfl;have h4:=z7y 0 (a:=D4.inn c x) (b:=[]) (Vj hv x) rfl;have e:spJ 0 (D4.inn c x) []=D4.inn (D4.out c) x:=y6b.uniq _ _ h4.1 (y1o h1 x) fun y=>by
  rw [h4.2];have a1:=z3h c x y;have a2:=z3h (D4.out c) x y;have: ¬pt [] y:=fun ⟨_,h,_⟩=>by cases h
  show _↔pt (D4.inn (D4.out c) x) y;rw [a2,h2,←a1];by_cases hp:pt (D4.inn c x) y <;> simp [opB,hp,this]
 rw [←e];have:=D4.inn_length c x;simp only [List.length_nil] at h3;omega
theorem u5h {c:List R4} (hv: ∀r∈c,Vy r=true) (hl:c.length≤20):Za c=D4.out c∧Xg c=0:=by refine z6l hv (by omega) (Nat.le_trans (w7s hv (by omega)) ?_);exact Nat.le_trans (Nat.mul_le_mul hl hl) (by decide)
theorem x9g {l:List R4} (hl:l.length≤400) (hv: ∀r∈l,Vy r=true) (hc:Xs.can l):y5a l=0:=by
 obtain ⟨h1,h2⟩:=Kb hv hl;have e:D4.out l=l:=Xs.uniq _ _ h1 hc h2;have m1:z0g l=0:=by show y7u (D4.out l).length =0;rw [e];unfold y7u;rw [decide_eq_false (by omega)];rfl
 have m0:Wj l=l:=by unfold Wj y9s;rw [show u0k l=0 from m1,e];rfl
 unfold y5a rgcF;rw [decide_eq_false (by omega),List.all_eq_true.2 hv,m1,m0,show Uo l l=true from decide_eq_true rfl];rfl
theorem w9v {E:Int→Int} {cs:List Int} (h: ∀x,E x=0): ∀k i,w4w E cs k i=0
 | 0,i=>rfl
 | k+1,i=>by show (bif E (rd cs i) != 0 then E (rd cs i) else w4w E cs k (i+1))=0;rw [h];exact w9v h k (i+1)
theorem y8t (o:Op) {a b:List R4} (la:a.length≤400) (lb:b.length≤400) (va: ∀r∈a,Vy r=true) (vb: ∀r∈b,Vy r=true) (ca:Xs.can a) (cb:Xs.can b)
  (sa: ∀x,(D4.inn a x).length +(D4.inn b x).length ≤400) (lj:(rgJ o.k a b).length ≤400):rgE o a b=0:=by
 have sc: ∀(l:List R4) (x:Int),l.length≤400→(∀r∈l,Vy r=true)→Xs.can l→y6h (D4.inn l x)=0:=fun l x hl hv hc=>
  (y8l _).2 ⟨Nat.le_trans (D4.inn_length l x) hl,Vj hv x,y1o hc x⟩
 have hz: ∀x,rgA o a b x=0:=fun x=>by unfold rgA spE;rw [sc a x la va ca,sc b x lb vb cb];have:=z0q o.k (Vj va x) (Vj vb x);show y7u _=0;unfold y7u;rw [decide_eq_false (by have:=sa x;omega)];rfl
 unfold rgE;rw [x9g la va ca,x9g lb vb cb,w9v hz];show y7u _=0;unfold y7u;rw [decide_eq_false (by omega)];rfl
def hiL (q:Ax) (L:List R6) (p:Int):List R4:=(L.filter fun r=>decide (q.hi r=p)).map q.rc
def loL (q:Ax) (L:List R6) (p:Int):List R4:=(L.filter fun r=>decide (q.lo r=p)).map q.rc
theorem y2a (q:Ax) {L:List R6} (hv: ∀r∈L,q.lo r<q.hi r) (p:Int):(hiL q L p).length +(loL q L p).length ≤L.length:=by
 unfold hiL loL;rw [List.length_map,List.length_map]
 induction L with
 | nil=>exact Nat.le_refl _
 | cons r L ih=>
  have ih:=ih fun s hs=>hv s (by simp [hs]);have:=hv r (by simp);rw [List.filter_cons,List.filter_cons];by_cases h1:q.hi r=p
  ·rw [if_pos (by simp [h1]),if_neg (by simp;omega)];simp only [List.length_cons];omega
  ·rw [if_neg (by simp [h1])];by_cases h2:q.lo r=p
   ·rw [if_pos (by simp [h2])];simp only [List.length_cons];omega
   ·rw [if_neg (by simp [h2])];simp only [List.length_cons];omega
theorem w9h (q:Ax) (L:List R6) (p u v:Int):ptL Xs.inB (hiL q L p) (u,v)↔ ∃r∈L,q.hi r=p∧((q.rc r).a ≤u∧u<(q.rc r).c)∧((q.rc r).b ≤v∧v<(q.rc r).d):=by
 rw [v9g];constructor
 ·rintro ⟨s,hs,h⟩;obtain ⟨r,hr,rfl⟩:=List.mem_map.1 hs;obtain ⟨h1,h2⟩:=List.mem_filter.1 hr;exact ⟨r,h1,of_decide_eq_true h2,h⟩
 ·rintro ⟨r,hr,h1,h2⟩;exact ⟨q.rc r,List.mem_map.2 ⟨r,List.mem_filter.2 ⟨hr,decide_eq_true h1⟩,rfl⟩,h2⟩
theorem w8v (q:Ax) (L:List R6) (p u v:Int):ptL Xs.inB (loL q L p) (u,v)↔ ∃r∈L,q.lo r=p∧((q.rc r).a ≤u∧u<(q.rc r).c)∧((q.rc r).b ≤v∧v<(q.rc r).d):=by
 rw [v9g];constructor
 ·rintro ⟨s,hs,h⟩;obtain ⟨r,hr,rfl⟩:=List.mem_map.1 hs;obtain ⟨h1,h2⟩:=List.mem_filter.1 hr;exact ⟨r,h1,of_decide_eq_true h2,h⟩
 ·rintro ⟨r,hr,h1,h2⟩;exact ⟨q.rc r,List.mem_map.2 ⟨r,List.mem_filter.2 ⟨hr,decide_eq_true h1⟩,rfl⟩,h2⟩
theorem Ap6.not (q:Ax) {r s:R6} (h:Ap6 r s) {p u v:Int} (h1:q.inB r p u v) (h2:q.inB s p u v):False:=by obtain ⟨a1,a2,a3⟩:=h1;obtain ⟨b1,b2,b3⟩:=h2;unfold Ap6 at h;cases q <;> simp only [Ax.lo,Ax.hi,Ax.rc] at* <;> omega
theorem v9h {L:List R6} (hL:L.Pairwise Ap6) (q:Ax) {r s:R6} (hr:r∈L) (hs:s∈L) {p u v:Int} (h1:q.inB r p u v) (h2:q.inB s p u v):r=s:=by
 obtain ⟨i,hi,ei⟩:=List.getElem_of_mem hr;obtain ⟨j,hj,ej⟩:=List.getElem_of_mem hs;have pw:=List.pairwise_iff_getElem.1 hL;rcases Nat.lt_trichotomy i j with h | h | h
 ·have:=pw i j hi hj h;rw [ei,ej] at this;exact (this.not q h1 h2).elim
 ·subst h;exact ei.symm.trans ej
 ·have:=pw j i hj hi h;rw [ei,ej] at this;exact (this.not q h2 h1).elim
theorem y8e (q:Ax) {L:List R6} (hL:L.Pairwise Ap6) (hv: ∀r∈L,q.lo r<q.hi r) (p u v:Int):
  (q.inL L (p - 1) u v∧ ¬q.inL L p u v)↔(ptL Xs.inB (hiL q L p) (u,v)∧ ¬ptL Xs.inB (loL q L p) (u,v)):=by
 rw [w9h,w8v];constructor
 ·rintro ⟨⟨r,hr,h1,h2⟩,h3⟩;refine ⟨⟨r,hr,?_,h2⟩,fun ⟨s,hs,k1,k2⟩=>h3 ⟨s,hs,⟨by omega,by have:=hv s hs;omega⟩,k2⟩⟩;refine Classical.byContradiction fun hn=>h3 ⟨r,hr,⟨by omega,by omega⟩,h2⟩
 ·rintro ⟨⟨r,hr,h1,h2⟩,h3⟩;have hlt:=hv r hr;have hb:q.inB r (p - 1) u v:=⟨⟨by omega,by omega⟩,h2⟩
  refine ⟨⟨r,hr,hb⟩,fun ⟨s,hs,k1,k2⟩=> ?_⟩;by_cases e:q.lo s=p
  ·exact h3 ⟨s,hs,e,k2⟩
  ·have:=v9h hL q hr hs hb ⟨⟨by omega,by omega⟩,k2⟩;subst this;omega
theorem z8r (q:Ax) {L:List R6} (hL:L.Pairwise Ap6) (hv: ∀r∈L,q.lo r<q.hi r) (p u v:Int):
  (q.inL L p u v∧ ¬q.inL L (p - 1) u v)↔(ptL Xs.inB (loL q L p) (u,v)∧ ¬ptL Xs.inB (hiL q L p) (u,v)):=by
 rw [w9h,w8v];constructor
 ·rintro ⟨⟨r,hr,h1,h2⟩,h3⟩;refine ⟨⟨r,hr,?_,h2⟩,fun ⟨s,hs,k1,k2⟩=>h3 ⟨s,hs,⟨by have:=hv s hs;omega,by omega⟩,k2⟩⟩;refine Classical.byContradiction fun hn=>h3 ⟨r,hr,⟨by omega,by omega⟩,h2⟩
 ·rintro ⟨⟨r,hr,h1,h2⟩,h3⟩;have hlt:=hv r hr;have hb:q.inB r p u v:=⟨⟨by omega,by omega⟩,h2⟩
  refine ⟨⟨r,hr,hb⟩,fun ⟨s,hs,k1,k2⟩=> ?_⟩;by_cases e:q.hi s=p
  ·exact h3 ⟨s,hs,e,k2⟩
  ·have:=v9h hL q hr hs hb ⟨⟨by omega,by omega⟩,k2⟩;subst this;omega
def upF (q:Ax) (L:List R6) (p:Int):List R4:=rgJ 2 (D4.out (z1d q L (p - 1))) (D4.out (z1d q L p))
def dnF (q:Ax) (L:List R6) (p:Int):List R4:=rgJ 2 (D4.out (z1d q L p)) (D4.out (z1d q L (p - 1)))
section
variable (q:Ax) {L:List R6} (hv: ∀r∈L,Qu r=true) (hl:L.length≤20) (hL:L.Pairwise Ap6)
include hv hl
theorem fw (p:Int):Few (z1d q L p) (D4.out (z1d q L p)) (z1d q L p).length :=u5i (v0o q hv p) (Nat.le_trans (x7j q L p) hl)
theorem y1z (p:Int):Xs.can (upF q L p)∧ ∀u v,ptL Xs.inB (upF q L p) (u,v)↔(q.inL L (p - 1) u v∧ ¬q.inL L p u v):=by have f1:=fw q hv hl (p - 1);have f2:=fw q hv hl p;obtain ⟨h1,h2,_⟩:=Js 2 f1.val f2.val;refine ⟨h1,fun u v=> ?_⟩;rw [show ptL Xs.inB (upF q L p) (u,v)↔_ from h2 (u,v),←z9u,←z9u,←f1.pts,←f2.pts];simp [opB]
theorem y4c (p:Int):Xs.can (dnF q L p)∧ ∀u v,ptL Xs.inB (dnF q L p) (u,v)↔(q.inL L p u v∧ ¬q.inL L (p - 1) u v):=by have f1:=fw q hv hl (p - 1);have f2:=fw q hv hl p;obtain ⟨h1,h2,_⟩:=Js 2 f2.val f1.val;refine ⟨h1,fun u v=> ?_⟩;rw [show ptL Xs.inB (dnF q L p) (u,v)↔_ from h2 (u,v),←z9u,←z9u,←f1.pts,←f2.pts];simp [opB]
include hL
theorem y8d (p:Int):(upF q L p).length +(dnF q L p).length ≤((hiL q L p).length +(loL q L p).length)*((hiL q L p).length +(loL q L p).length):=by
 have hr: ∀r∈L,q.lo r<q.hi r:=fun r h=>(q.val (hv r h)).2.1;have va: ∀s∈hiL q L p,Vy s=true:=fun s hs=>by obtain ⟨r,hr,rfl⟩:=List.mem_map.1 hs;exact (q.val (hv r (List.mem_filter.1 hr).1)).1
 have vb: ∀s∈loL q L p,Vy s=true:=fun s hs=>by obtain ⟨r,hr,rfl⟩:=List.mem_map.1 hs;exact (q.val (hv r (List.mem_filter.1 hr).1)).1
 obtain ⟨a1,a2,_⟩:=Js 2 va vb;obtain ⟨b1,b2,_⟩:=Js 2 vb va;obtain ⟨u1,u2⟩:=y1z q hv hl p;obtain ⟨d1,d2⟩:=y4c q hv hl p;have e1:upF q L p=rgJ 2 (hiL q L p) (loL q L p):=Xs.uniq _ _ u1 a1 fun ⟨u,v⟩=>by rw [u2,y8e q hL hr,a2];simp [opB]
 have e2:dnF q L p=rgJ 2 (loL q L p) (hiL q L p):=Xs.uniq _ _ d1 b1 fun ⟨u,v⟩=>by rw [d2,z8r q hL hr,b2];simp [opB]
 rw [e1,e2];exact v3p va vb
theorem y7l (p:Int):Xg (z1d q L p)=0∧Za (z1d q L p)=D4.out (z1d q L p)∧rgE .d (D4.out (z1d q L (p - 1))) (D4.out (z1d q L p))=0∧rgE .d (D4.out (z1d q L p)) (D4.out (z1d q L (p - 1)))=0:=by
 have hr: ∀r∈L,q.lo r<q.hi r:=fun r h=>(q.val (hv r h)).2.1;have f1:=fw q hv hl (p - 1);have f2:=fw q hv hl p;have l1:=x7j q L (p - 1);have l2:=x7j q L p;have t:=y2a q hr p;have hud:=y8d q hv hl hL p;have h4:((hiL q L p).length +(loL q L p).length)*((hiL q L p).length +(loL q L p).length)≤400:=Nat.le_trans (Nat.mul_le_mul (Nat.le_trans t hl) (Nat.le_trans t hl)) (by decide);obtain ⟨m0,m1⟩:=u5h (v0o q hv p) (Nat.le_trans l2 hl);have n1:=Nat.le_trans f1.len (Nat.le_trans (Nat.mul_le_mul (Nat.le_trans l1 hl) (Nat.le_trans l1 hl)) (show 20*20≤400 by decide));have n2:=Nat.le_trans f2.len (Nat.le_trans (Nat.mul_le_mul (Nat.le_trans l2 hl) (Nat.le_trans l2 hl)) (show 20*20≤400 by decide));refine ⟨m1,m0,y8t .d n1 n2 f1.val f2.val f1.can f2.can (fun x=> ?_) ?_,y8t .d n2 n1 f2.val f1.val f2.can f1.can (fun x=> ?_) ?_⟩
 ·have:=f1.sec x;have:=f2.sec x;omega
 ·show (upF q L p).length ≤400;omega
 ·have:=f1.sec x;have:=f2.sec x;omega
 ·show (dnF q L p).length ≤400;omega
end
end Go.Am
namespace Go.Am
open Go.Proofs Go.Sort Go.Shelf Go.RowKit Go.Lib
def fcF (q:Ax) (s:Bool) (L:List R6) (p:Int):List R4:=match s with
 | true=>upF q L p
 | false=>dnF q L p
theorem z5h (q:Ax) (L:List R6):(plQ q L).Pairwise (· < ·):=by unfold plQ;rw [Ug];exact (Xf _).1
theorem z5g (q:Ax) (L:List R6) (p:Int):p∈plQ q L↔ ∃r∈L,p=q.lo r∨p=q.hi r:=by
 unfold plQ;rw [Ug,(Xf _).2 p];unfold z2s;constructor
 ·intro h;obtain ⟨r,hr,h⟩:=List.mem_flatMap.1 h;simp only [List.mem_cons,List.not_mem_nil,or_false] at h;exact ⟨r,hr,h⟩
 ·rintro ⟨r,hr,h⟩;exact List.mem_flatMap.2 ⟨r,hr,by simp only [List.mem_cons,List.not_mem_nil,or_false];exact h⟩
theorem x2q (E:Int→Int): ∀l:List Int,(∀p∈l,E p=0)→v0f E l=0
 | [],_=>rfl
 | p::l,h=>by unfold v0f;rw [h p (by simp)];exact x2q E l fun x hx=>h x (by simp [hx])
theorem w5k (a:Int): ∀P:List Int,P.Pairwise (· < ·)→(P.map fun p=>if a=p then 1 else 0).sum ≤1
 | [],_=>Nat.zero_le _
 | p::P,h=>by
  obtain ⟨h1,h2⟩:=List.pairwise_cons.1 h;rw [List.map_cons,List.sum_cons];by_cases e:a=p
  ·rw [if_pos e];have:(P.map fun p=>if a=p then 1 else 0)=P.map fun _=>0:=List.map_congr_left fun x hx=>by have:=h1 x hx;rw [if_neg (by omega)]
   rw [this];have: ∀l:List Int,(l.map fun _=>0).sum =0:=fun l=>by induction l with
    | nil=>rfl
    | cons _ _ ih=>rw [List.map_cons,List.sum_cons,ih]
   rw [this];exact Nat.le_refl _
  ·rw [if_neg e];have:=w5k a P h2;omega
theorem y2d (f:R6→Int) (P:List Int) (hP:P.Pairwise (· < ·)) (g:R6→R4): ∀L:List R6,(P.map fun p=>((L.filter fun r=>decide (f r=p)).map g).length).sum ≤L.length
 | []=>by
  have: ∀l:List Int,(l.map fun p=>((([]:List R6).filter fun r=>decide (f r=p)).map g).length).sum =0:=fun l=>by induction l with
   | nil=>rfl
   | cons _ _ ih=>rw [List.map_cons,List.sum_cons,ih];rfl
  rw [this];exact Nat.zero_le _
 | r::L=>by
  have ih:=y2d f P hP g L;have h1:=w5k (f r) P hP;have: ∀l:List Int,(l.map fun p=>(((r::L).filter fun r=>decide (f r=p)).map g).length).sum =(l.map fun p=>if f r=p then 1 else 0).sum +(l.map fun p=>((L.filter fun r=>decide (f r=p)).map g).length).sum :=fun l=>by
   induction l with
   | nil=>rfl
   | cons p l ih=>
    rw [List.map_cons,List.map_cons,List.map_cons,List.sum_cons,List.sum_cons,List.sum_cons,ih,List.filter_cons];by_cases e:f r=p
    ·rw [if_pos (decide_eq_true e),if_pos e,List.map_cons,List.length_cons];omega
    ·rw [if_neg (by simp [e]),if_neg e];omega
  rw [this,List.length_cons];omega
theorem y7i {α β:Type} {f g:α→List β}: ∀{l:List α},(∀a∈l,f a=g a)→l.flatMap f=l.flatMap g
 | [],_=>rfl
 | a::l,h=>by rw [List.flatMap_cons,List.flatMap_cons,h a (by simp),y7i fun x hx=>h x (by simp [hx])]
theorem z5q {α β:Type} (f:α→List β): ∀l:List α,(l.flatMap f).length =(l.map fun a=>(f a).length).sum
 | []=>rfl
 | a::l=>by rw [List.flatMap_cons,List.length_append,List.map_cons,List.sum_cons,z5q f l]
section
variable {L:List R6} (hv: ∀r∈L,Qu r=true) (hl:L.length≤20) (hL:L.Pairwise Ap6)
include hv hl hL
theorem w0a (q:Ax) (s:Bool) (p:Int) (hp: -1000000≤p∧p≤1000000):Uq q L p s=0∧Vu q L p s=fcF q s L p:=by
 have w:IntKind.wrap .i64 (p - 1)=p - 1:=Zq (by omega);obtain ⟨a1,a2,a3,a4⟩:=y7l q hv hl hL p;obtain ⟨b1,b2,_,_⟩:=y7l q hv hl hL (p - 1);have e:w3a q L p=0:=by unfold w3a Jy;rw [w,b1,a1];rfl
 unfold Uq Vu;rw [e,w];unfold Ym;rw [a2,b2];cases s with
 | true=>exact ⟨a3,by show Wf .d _ _=_;unfold Wf;rw [a3];rfl⟩
 | false=>exact ⟨a4,by show Wf .d _ _=_;unfold Wf;rw [a4];rfl⟩
theorem w7q (q:Ax) {p:Int} (h:p∈plQ q L): -1000000≤p∧p≤1000000:=by
 have _u:=hl;have _v:=hL;obtain ⟨r,hr,h⟩:=(z5g q L p).1 h;obtain ⟨_,h1,h2,h3⟩:=q.val (hv r hr);rcases h with rfl | rfl <;> omega
theorem v0n (q:Ax) (s:Bool):dM q s L=(plQ q L).flatMap fun p=>(fcF q s L p).map (qd q s p):=by unfold dM w4y;exact y7i fun p hp=>by rw [(w0a hv hl hL q s p (w7q hv hl hL q hp)).2]
theorem v0j (q:Ax) (s:Bool):z7k q s L=0:=x2q _ _ fun p hp=>(w0a hv hl hL q s p (w7q hv hl hL q hp)).1
theorem x7i (q:Ax):(dM q true L).length +(dM q false L).length ≤800:=by
 rw [v0n hv hl hL,v0n hv hl hL,z5q,z5q];have hr: ∀r∈L,q.lo r<q.hi r:=fun r h=>(q.val (hv r h)).2.1;have key: ∀P:List Int,(P.map fun p=>((fcF q true L p).map (qd q true p)).length).sum +(P.map fun p=>((fcF q false L p).map (qd q false p)).length).sum ≤20*((P.map fun p=>(hiL q L p).length).sum +(P.map fun p=>(loL q L p).length).sum):=fun P=>by
  induction P with
  | nil=>exact Nat.le_refl _
  | cons p P ih=>simp only [List.map_cons,List.sum_cons,List.length_map] at ih ⊢;have h1:=y8d q hv hl hL p;have h2:=Nat.le_trans (y2a q hr p) hl;have h3:=Nat.mul_le_mul_right ((hiL q L p).length +(loL q L p).length) h2;have e1:(fcF q true L p).length =(upF q L p).length :=rfl;have e2:(fcF q false L p).length =(dnF q L p).length :=rfl;omega
 have h1:=y2d q.hi (plQ q L) (z5h q L) q.rc L;have h2:=y2d q.lo (plQ q L) (z5h q L) q.rc L;have:=key (plQ q L);unfold hiL loL at this;omega
theorem Qb :w4u L=0∧(Kc L).length ≤2400:=by
 have h1:=x7i hv hl hL .x;have h2:=x7i hv hl hL .y;have h3:=x7i hv hl hL .z;have hn:(Kc L).length ≤2400:=by unfold Kc;simp only [List.length_append];omega
 refine ⟨?_,hn⟩;unfold w4u;simp only [v0j hv hl hL];rw [decide_eq_false (by omega)];rfl
end
theorem y2w {L:List R6} (h:Wc L=0) (hl:L.length≤20):z6w L=0∧Zp L=Kc L:=by obtain ⟨_,hv,_,hL⟩:=Xr h;have hz:=(Qb hv hl hL).1;unfold z6w Zp z0x Uk;rw [h,hz];exact ⟨rfl,rfl⟩
theorem u5d {L:List R6} (h:u5f L=true):L.length≤20∧Wc L=0:=by simp only [u5f,Bool.and_eq_true,decide_eq_true_eq] at h;exact ⟨by omega,(v6n L).trans (eq_of_beq h.2)⟩
end Go.Am
namespace Go.Am
open Go.Proofs Go.Sort Go.Shelf Go.RowKit Go.Lib
theorem v0p (L:List R6) (z:Int):z1d .z L z=D6.inn L z:=rfl
theorem y6s (L:List R6) (z u v:Int):ptL Xs.inB (D6.inn L z) (u,v)↔Ax.inL .z L z u v:=z9u .z L z u v
theorem x6p (k:Nat) {a b:List R4} (ha: ∀r∈a,Vy r=true) (hb: ∀r∈b,Vy r=true) (x:Int):(D4.inn (rgJ k a b) x).length ≤(D4.inn a x).length +(D4.inn b x).length :=by
 obtain ⟨j1,j2,_⟩:=Js k ha hb;obtain ⟨s1,s2⟩:=z7y k (Vj ha x) (Vj hb x);have e:D4.inn (rgJ k a b) x=spJ k (D4.inn a x) (D4.inn b x):=y6b.uniq _ _ (y1o j1 x) s1 fun y=>by rw [s2];show pt (D4.inn (rgJ k a b) x) y↔_;rw [z3h,j2];have e1:decide (pt (D4.inn a x) y)=decide (ptL Xs.inB a (x,y)):=decide_eq_decide.2 (z3h a x y);have e2:decide (pt (D4.inn b x) y)=decide (ptL Xs.inB b (x,y)):=decide_eq_decide.2 (z3h b x y);rw [e1,e2]
 rw [e];exact z0q k (Vj ha x) (Vj hb x)
theorem x9f {l:List R4} (hl:l.length≤400) (hv: ∀r∈l,Vy r=true) (hc:Xs.can l):Xg l=0∧Za l=l:=by obtain ⟨h1,h2⟩:=Kb hv hl;have e:D4.out l=l:=Xs.uniq _ _ h1 hc h2;obtain ⟨r0,r1⟩:=z6l hv hl (by rw [e];exact hl);exact ⟨r1,r0.trans e⟩
theorem w7t {A B:Prop} [Decidable A] [Decidable B]:opB 2 (decide A) (decide B)=true↔A∧ ¬B:=by simp [opB]
theorem opB1i {A B:Prop} [Decidable A] [Decidable B]:opB 1 (decide A) (decide B)=true↔A∧B:=by simp [opB]
theorem opB0i {A B:Prop} [Decidable A] [Decidable B]:opB 0 (decide A) (decide B)=true↔A∨B:=by simp [opB]
theorem x9i (q:Op) {a b:List R4} (h:rgE q a b=0):Wf q a b=rgJ q.k a b:=by unfold Wf;rw [h];rfl
section
variable {L:List R6} (h:Wc L=0) (hl:L.length≤20)
include h hl
theorem x2l {G:List (Qp R4)} (hG:z1h Xs G) (e:L=D6.flat G) {g:Qp R4} (hg:g∈G) {x:Int} (hx:g.a≤x∧x<g.b):D6.inn L x=g.s:=by
 have hc:=(Xr h).1;have _u:=hl;refine Xs.uniq _ _ (by rw [e];exact Dim.inn_can z2n Xs x G hG) (hG.all g hg).2.1 fun p=> ?_;rw [Dim.pt_inn (D:=D6) Xs.inB L x p,e,Dim.flat_pt z2n Xs G x p];constructor
 ·rintro ⟨k,hk,k1,k2,k3⟩;obtain ⟨i,hi,ei⟩:=List.getElem_of_mem hg;obtain ⟨j,hj,ej⟩:=List.getElem_of_mem hk;have pw:G.Pairwise fun g k=>g.b≤k.a:=by
   clear e hg hk hi hj ei ej
   induction G with
   | nil=>exact .nil
   | cons m r ih=>exact List.pairwise_cons.2 ⟨hG.later,ih hG.tail⟩
  have pw:=List.pairwise_iff_getElem.1 pw;rcases Nat.lt_trichotomy i j with q | q | q
  ·have:=pw i j hi hj q;rw [ei,ej] at this;omega
  ·subst q;rw [←ei,ej];exact k3
  ·have:=pw j i hj hi q;rw [ei,ej] at this;omega
 ·intro k3;exact ⟨g,hg,hx.1,hx.2,k3⟩
theorem v4c {z:Int} (hz:D6.inn L (z - 1)≠D6.inn L z) {r:R6} (hr:r∈L): ¬(r.c≤z - 1∧z<r.f):=fun hx=>by obtain ⟨G,hG,e⟩:=x4k h;rw [e] at hr;obtain ⟨g,hg,hr⟩:=List.mem_flatMap.1 hr;obtain ⟨b,_,rfl⟩:=List.mem_map.1 hr;have h1:g.a≤z - 1∧z<g.b:=hx;exact hz ((x2l h hl hG e hg ⟨by omega,by omega⟩).trans (x2l h hl hG e hg ⟨by omega,by omega⟩).symm)
theorem v1y {z:Int} (hz:D6.inn L (z - 1)≠D6.inn L z):(D6.inn L (z - 1)).length +(D6.inn L z).length ≤20:=by
 have hn: ∀r∈L,¬((decide (r.c≤z - 1)&&decide (z - 1<r.f))=true∧(decide (r.c≤z)&&decide (z<r.f))=true):=fun r hr hx=>by simp only [Bool.and_eq_true,decide_eq_true_eq] at hx;exact v4c h hl hz hr ⟨hx.1.1,hx.2.2⟩
 refine Nat.le_trans ?_ hl;show ((L.filter fun r=>decide (r.c≤z - 1)&&decide (z - 1<r.f)).map _).length +((L.filter fun r=>decide (r.c≤z)&&decide (z<r.f)).map _).length ≤_;rw [List.length_map,List.length_map];clear h hl hz
 induction L with
 | nil=>exact Nat.le_refl _
 | cons r l ih=>
  have ih:=ih fun s hs=>hn s (by simp [hs]);have:=hn r (by simp);rw [List.filter_cons,List.filter_cons];by_cases q1:(decide (r.c≤z - 1)&&decide (z - 1<r.f))=true
  ·rw [if_pos q1,if_neg fun q2=>this ⟨q1,q2⟩];simp only [List.length_cons];omega
  ·rw [if_neg q1];by_cases q2:(decide (r.c≤z)&&decide (z<r.f))=true
   ·rw [if_pos q2];simp only [List.length_cons];omega
   ·rw [if_neg q2];simp only [List.length_cons];omega
theorem u2c (z:Int):Xs.can (D6.inn L z)∧(∀r∈D6.inn L z,Vy r=true)∧(D6.inn L z).length ≤20∧D4.out (D6.inn L z)=D6.inn L z:=by
 obtain ⟨_,hv,_,_⟩:=Xr h;obtain ⟨G,hG,e⟩:=x4k h;have c:Xs.can (D6.inn L z):=by rw [e];exact Dim.inn_can z2n Xs z G hG
 have v:=y4k hv z;have n:=Nat.le_trans (D6.inn_length L z) hl;exact ⟨c,v,n,Xs.uniq _ _ (Kb v (by omega)).1 c (Kb v (by omega)).2⟩
theorem u5j (z:Int):upF .z L z=rgJ 2 (D6.inn L (z - 1)) (D6.inn L z)∧dnF .z L z=rgJ 2 (D6.inn L z) (D6.inn L (z - 1)):=by unfold upF dnF;rw [v0p,v0p,(u2c h hl z).2.2.2,(u2c h hl (z - 1)).2.2.2];exact ⟨rfl,rfl⟩
theorem step_z {z:Int} (hz:D6.inn L (z - 1)≠D6.inn L z):u7f (D6.inn L (z - 1)) (upF .z L z) (dnF .z L z)=false∧y8y (D6.inn L (z - 1)) (upF .z L z) (dnF .z L z)=D6.inn L z:=by
 obtain ⟨a1,a2,a3,_⟩:=u2c h hl (z - 1);obtain ⟨b1,b2,b3,_⟩:=u2c h hl z;have hs:=v1y h hl hz;obtain ⟨_,hv,_,hL⟩:=Xr h;obtain ⟨eu,ed⟩:=u5j h hl z;have hud:=y8d .z hv hl hL z;have hr: ∀r∈L,Ax.lo .z r<Ax.hi .z r:=fun r k=>(Ax.val .z (hv r k)).2.1;have ht:=Nat.le_trans (y2a .z hr z) hl;have h4:((hiL .z L z).length +(loL .z L z).length)*((hiL .z L z).length +(loL .z L z).length)≤400:=Nat.le_trans (Nat.mul_le_mul ht ht) (by decide);rw [eu,ed] at hud;rw [eu,ed];obtain ⟨u1,u2,_⟩:=Js 2 a2 b2;obtain ⟨d1,d2,_⟩:=Js 2 b2 a2;have uv: ∀r∈rgJ 2 (D6.inn L (z - 1)) (D6.inn L z),Vy r=true:=z2g u1 fun u v k=>by have:=(u2 (u,v)).1 k;simp only [opB,Bool.and_eq_true,decide_eq_true_eq] at this;exact z1j a2 this.1
 have dv: ∀r∈rgJ 2 (D6.inn L z) (D6.inn L (z - 1)),Vy r=true:=z2g d1 fun u v k=>by have:=(d2 (u,v)).1 k;simp only [opB,Bool.and_eq_true,decide_eq_true_eq] at this;exact z1j b2 this.1
 obtain ⟨m1,m0⟩:=x9f (l:=rgJ 2 (D6.inn L (z - 1)) (D6.inn L z)) (by omega) uv u1;obtain ⟨n1,n0⟩:=x9f (l:=rgJ 2 (D6.inn L z) (D6.inn L (z - 1))) (by omega) dv d1;obtain ⟨r1,r2,_⟩:=Js 2 a2 uv;obtain ⟨c1,c2,c3⟩:=Js 1 a2 b2;have er:rgJ 2 (D6.inn L (z - 1)) (rgJ 2 (D6.inn L (z - 1)) (D6.inn L z))=rgJ 1 (D6.inn L (z - 1)) (D6.inn L z):=Xs.uniq _ _ r1 c1 fun p=>by rw [r2,c2,w7t,opB1i,u2 p,w7t];by_cases g1:ptL Xs.inB (D6.inn L (z - 1)) p <;> by_cases g2:ptL Xs.inB (D6.inn L z) p <;> simp [g1,g2]
 have cl:(rgJ 1 (D6.inn L (z - 1)) (D6.inn L z)).length ≤400:=Nat.le_trans c3 (Nat.le_trans (Nat.mul_le_mul hs hs) (by decide));have i1: ∀x,(D4.inn (D6.inn L (z - 1)) x).length ≤20:=fun x=>Nat.le_trans (D4.inn_length _ x) a3;have i2: ∀x,(D4.inn (D6.inn L z) x).length ≤20:=fun x=>Nat.le_trans (D4.inn_length _ x) b3;have z1:rgE .d (D6.inn L (z - 1)) (rgJ 2 (D6.inn L (z - 1)) (D6.inn L z))=0:=y8t .d (by omega) (by omega) a2 uv a1 u1
  (fun x=>by have:=x6p 2 a2 b2 x;have:=i1 x;have:=i2 x;omega) (by
   show (rgJ 2 (D6.inn L (z - 1)) (rgJ 2 (D6.inn L (z - 1)) (D6.inn L z))).length ≤400;rw [er];exact cl)
 have v1:Wf .d (D6.inn L (z - 1)) (rgJ 2 (D6.inn L (z - 1)) (D6.inn L z))=rgJ 1 (D6.inn L (z - 1)) (D6.inn L z):=(x9i .d z1).trans er;have cv: ∀r∈rgJ 1 (D6.inn L (z - 1)) (D6.inn L z),Vy r=true:=z2g c1 fun u v k=>by have:=(c2 (u,v)).1 k;simp only [opB,Bool.and_eq_true,decide_eq_true_eq] at this;exact z1j a2 this.1
 obtain ⟨w1,w2,_⟩:=Js 0 cv dv;have ew:rgJ 0 (rgJ 1 (D6.inn L (z - 1)) (D6.inn L z)) (rgJ 2 (D6.inn L z) (D6.inn L (z - 1)))=D6.inn L z:=Xs.uniq _ _ w1 b1 fun p=>by rw [w2,opB0i,c2 p,opB1i,d2 p,w7t];by_cases g1:ptL Xs.inB (D6.inn L (z - 1)) p <;> by_cases g2:ptL Xs.inB (D6.inn L z) p <;> simp [g1,g2]
 have z2:rgE .u (rgJ 1 (D6.inn L (z - 1)) (D6.inn L z)) (rgJ 2 (D6.inn L z) (D6.inn L (z - 1)))=0:=y8t .u cl (by omega) cv dv c1 d1
  (fun x=>by have:=x6p 1 a2 b2 x;have:=x6p 2 b2 a2 x;have:=i1 x;have:=i2 x;omega) (by
   show (rgJ 0 (rgJ 1 (D6.inn L (z - 1)) (D6.inn L z)) (rgJ 2 (D6.inn L z) (D6.inn L (z - 1)))).length ≤400;rw [ew];omega)
 unfold u7f y8y;rw [m1,n1,m0,n0,z1,v1,z2];exact ⟨rfl,(x9i .u z2).trans ew⟩
end
end Go.Am
namespace Go.Am
open Go.Proofs Go.Sort Go.Shelf Go.RowKit Go.Lib
theorem zQ_nil {d:Int} {l:List R7} (z:Int) (h: ∀r∈l,r.a≠d):zQ d l z=[]:=by unfold zQ;rw [List.map_eq_nil_iff,List.filter_eq_nil_iff];intro r hr hq;simp only [Bool.and_eq_true,decide_eq_true_eq] at hq;exact h r hr hq.1
theorem v6y (s:Bool) (p:Int) (l:List R4) (z:Int):zQ (match s with | true=>4 | false=>5) (l.map (qd .z s p)) z=if p=z then l else []:=by
 induction l with
 | nil=>cases s <;> (by_cases e:p=z <;> simp [e,zQ])
 | cons r l ih=>
  rw [List.map_cons,show qd .z s p r::l.map (qd .z s p)=[qd .z s p r]++l.map (qd .z s p) from rfl,Wd,ih];by_cases e:p=z
  ·rw [if_pos e,if_pos e];cases s <;> simp [zQ,qd,e]
  ·rw [if_neg e,if_neg e,List.append_nil];cases s <;> simp [zQ,qd,e]
theorem x3q (s:Bool) (F:Int→List R4) (z:Int): ∀P:List Int,P.Pairwise (· < ·)→(z ∉ P→F z=[])→zQ (match s with | true=>4 | false=>5) (P.flatMap fun p=>(F p).map (qd .z s p)) z=F z
 | [],_,h=>by rw [h (by simp)];cases s <;> rfl
 | p::P,hP,h=>by
  obtain ⟨h1,h2⟩:=List.pairwise_cons.1 hP;rw [List.flatMap_cons,Wd,v6y];by_cases e:p=z
  ·subst e;rw [if_pos rfl];have: ∀Q:List Int,(∀x∈Q,p<x)→zQ (match s with | true=>4 | false=>5) (Q.flatMap fun p=>(F p).map (qd .z s p)) p=[]:=fun Q=>by
    induction Q with
    | nil=>intro _;cases s <;> rfl
    | cons x Q ih=>intro hx;rw [List.flatMap_cons,Wd,v6y,if_neg (by have:=hx x (by simp);omega),ih fun y hy=>hx y (by simp [hy])];rfl
   rw [this P h1,List.append_nil]
  ·rw [if_neg e,List.nil_append];exact x3q s F z P h2 fun hn=>h (by simp [hn,Ne.symm e])
theorem u3o (q:Ax) (s:Bool) (p:Int) (t:R4):(qd q s p t).a =2*q.ix+sdI s:=by cases q <;> cases s <;> rfl
theorem dM_a {q:Ax} {s:Bool} {L:List R6} {r:R7} (h:r∈dM q s L):r.a=2*q.ix+sdI s:=by obtain ⟨p,_,h⟩:=List.mem_flatMap.1 h;obtain ⟨t,_,rfl⟩:=List.mem_map.1 h;exact u3o q s p t
section
variable {L:List R6} (h:Wc L=0) (hl:L.length≤20)
include h hl
theorem w7x (q:Ax) {p:Int} (hp:p ∉ plQ q L):upF q L p=[]∧dnF q L p=[]:=by
 obtain ⟨_,hv,_,hL⟩:=Xr h;have hr: ∀r∈L,q.lo r<q.hi r:=fun r k=>(q.val (hv r k)).2.1;obtain ⟨u1,u2⟩:=y1z q hv hl p;obtain ⟨d1,d2⟩:=y4c q hv hl p;constructor
 ·refine z0v Xs u1 fun ⟨u,v⟩ k=> ?_;have:=(y8e q hL hr p u v).1 ((u2 u v).1 k);obtain ⟨r,hr,e,_⟩:=(w9h q L p u v).1 this.1;exact hp ((z5g q L p).2 ⟨r,hr,.inr e.symm⟩)
 ·refine z0v Xs d1 fun ⟨u,v⟩ k=> ?_;have:=(z8r q hL hr p u v).1 ((d2 u v).1 k);obtain ⟨r,hr,e,_⟩:=(w8v q L p u v).1 this.1;exact hp ((z5g q L p).2 ⟨r,hr,.inl e.symm⟩)
theorem y1y (z:Int):zQ 4 (Kc L) z=upF .z L z∧zQ 5 (Kc L) z=dnF .z L z:=by
 obtain ⟨_,hv,_,hL⟩:=Xr h;have f4:=x3q true (fcF .z true L) z (plQ .z L) (z5h .z L) fun hn=>(w7x h hl .z hn).1;have f5:=x3q false (fcF .z false L) z (plQ .z L) (z5h .z L) fun hn=>(w7x h hl .z hn).2;rw [←v0n hv hl hL] at f4 f5;have no: ∀(d:Int) (q:Ax) (s:Bool),d≠2*q.ix+sdI s→zQ d (dM q s L) z=[]:=fun d q s hd=>zQ_nil z fun r hr e=>hd (e ▸ dM_a hr);unfold Kc;constructor
 ·rw [Wd,Wd,Wd,Wd,Wd,no 4 .x true (by decide),no 4 .x false (by decide),no 4 .y true (by decide),no 4 .y false (by decide),no 4 .z false (by decide),List.append_nil];exact f4
 ·rw [Wd,Wd,Wd,Wd,Wd,no 5 .x true (by decide),no 5 .x false (by decide),no 5 .y true (by decide),no 5 .y false (by decide),no 5 .z true (by decide)];exact f5
theorem x5o (z:Int):z∈plZ (Kc L)↔D6.inn L (z - 1)≠D6.inn L z:=by
 obtain ⟨_,hv,_,hL⟩:=Xr h;obtain ⟨u1,u2⟩:=y1z .z hv hl z;obtain ⟨d1,d2⟩:=y4c .z hv hl z;have hm:z∈plZ (Kc L)↔upF .z L z≠ []∨dnF .z L z≠ []:=by
  unfold plZ;rw [Ug,(Xf _).2 z];unfold zsQ;constructor
  ·intro k;obtain ⟨r,hr,e⟩:=List.mem_map.1 k;obtain ⟨hr,ha⟩:=List.mem_filter.1 hr;have ha:=of_decide_eq_true ha;have key:r.a=4∨r.a=5:=by
    unfold Kc at hr;simp only [List.mem_append] at hr;rcases hr with ((((hr | hr) | hr) | hr) | hr) | hr <;> have e:=dM_a hr
    ·have e:r.a=0:=e;omega
    ·have e:r.a=1:=e;omega
    ·have e:r.a=2:=e;omega
    ·have e:r.a=3:=e;omega
    ·exact .inl e
    ·exact .inr e
   have me: ∀d,r.a=d→zQ d (Kc L) z≠ []:=fun d hd hn=>by unfold zQ at hn;rw [List.map_eq_nil_iff,List.filter_eq_nil_iff] at hn;exact hn r hr (by simp [hd,e])
   rcases key with e4 | e5
   ·exact .inl (by rw [←(y1y h hl z).1];exact me 4 e4)
   ·exact .inr (by rw [←(y1y h hl z).2];exact me 5 e5)
  ·intro k;have me: ∀d,4≤d→zQ d (Kc L) z≠ []→z∈((Kc L).filter fun r=>decide (4≤r.a)).map (·.d):=fun d hd hn=>by obtain ⟨t,ht⟩:=List.exists_mem_of_ne_nil _ hn;obtain ⟨r,hr,_⟩:=List.mem_map.1 ht;obtain ⟨hr,hq⟩:=List.mem_filter.1 hr;simp only [Bool.and_eq_true,decide_eq_true_eq] at hq;exact List.mem_map.2 ⟨r,List.mem_filter.2 ⟨hr,decide_eq_true (by omega)⟩,hq.2⟩
   rcases k with k | k
   ·exact me 4 (by decide) (by rw [(y1y h hl z).1];exact k)
   ·exact me 5 (by decide) (by rw [(y1y h hl z).2];exact k)
 rw [hm];constructor
 ·rintro hk e;rcases hk with hk | hk
  ·refine hk (z0v Xs u1 fun ⟨u,v⟩ k=> ?_);have k:=(u2 u v).1 k;rw [←y6s,←y6s,e] at k;exact k.2 k.1
  ·refine hk (z0v Xs d1 fun ⟨u,v⟩ k=> ?_);have k:=(d2 u v).1 k;rw [←y6s,←y6s,e] at k;exact k.2 k.1
 ·intro hn;refine Classical.byContradiction fun hk=>hn ?_;rw [not_or,Decidable.not_not,Decidable.not_not] at hk;refine Xs.uniq _ _ (u2c h hl (z - 1)).1 (u2c h hl z).1 fun ⟨u,v⟩=> ?_;rw [y6s,y6s];have a:=u2 u v;have b:=d2 u v;rw [hk.1] at a;rw [hk.2] at b;have a: ¬(Ax.inL .z L (z - 1) u v∧ ¬Ax.inL .z L z u v):=fun k=>z3g _ _ (a.2 k);have b: ¬(Ax.inL .z L z u v∧ ¬Ax.inL .z L (z - 1) u v):=fun k=>z3g _ _ (b.2 k);exact ⟨fun k=>Classical.byContradiction fun m=>a ⟨k,m⟩,fun k=>Classical.byContradiction fun m=>b ⟨k,m⟩⟩
theorem far {x:Int} (hx:x< -1000000∨1000000≤x):D6.inn L x=[]:=by have _u:=hl;obtain ⟨_,hv,_,_⟩:=Xr h;show (L.filter _).map _=[];rw [List.map_eq_nil_iff,List.filter_eq_nil_iff];intro r hr hq;have:=z2v (hv r hr);simp only [Bool.and_eq_true,decide_eq_true_eq] at hq;have h1:r.c≤x:=hq.1;have h2:x<r.f:=hq.2;omega
end
theorem const (S:Int→List R4) (a:Int): ∀n:Nat,(∀x,a<x→x≤a+n→S (x - 1)=S x)→S (a+n)=S a
 | 0,_=>by rw [show a+((0:Nat):Int)=a by omega]
 | n+1,h=>by
  have:=const S a n fun x h1 h2=>h x h1 (by omega);rw [←this,←h (a+((n+1:Nat):Int)) (by omega) (Int.le_refl _)]
  congr 1;omega
theorem const' (S:Int→List R4) {a b:Int} (hab:a≤b) (h: ∀x,a<x→x≤b→S (x - 1)=S x):S b=S a:=by have:=const S a (b - a).toNat fun x h1 h2=>h x h1 (by omega);rw [show a+((b - a).toNat :Int)=b by omega] at this;exact this
structure Chg (S:Int→List R4) (r:List Int) (lo:Int):Prop where
 asc:r.Pairwise (· < ·)
 low: ∀z∈r,lo≤z
 ne: ∀z∈r,S (z - 1)≠S z
 all: ∀x,lo≤x→S (x - 1)≠S x→x∈r
theorem Chg.tail {S:Int→List R4} {z lo:Int} {r:List Int} (h:Chg S (z::r) lo):Chg S r (z+1):=by
 obtain ⟨h1,h2⟩:=List.pairwise_cons.1 h.asc;refine ⟨h2,fun x hx=>by have:=h1 x hx;omega,fun x hx=>h.ne x (by simp [hx]),fun x hx hn=> ?_⟩;have:=h.low z (by simp);rcases List.mem_cons.1 (h.all x (by omega) hn) with e | e
 ·omega
 ·exact e
theorem Chg.flat {S:Int→List R4} {lo:Int} {r:List Int} (h:Chg S r lo) {x:Int} (hx:lo - 1≤x) (hr: ∀z∈r,x<z):S x=S (lo - 1):=
 const' S hx fun y h1 h2=>Classical.byContradiction fun hn=>by have:=hr y (h.all y (by omega) hn);omega
def bxs (S:Int→List R4):List Int→List R6
 | []=>[]
 | z::r=>(match r with
  | []=>[]
  | z'::_=>(S z).map (pz6 z z'))++bxs S r
def gbs (S:Int→List R4):List Int→List (Qp R4)
 | []=>[]
 | z::r=>(match r with
  | []=>[]
  | z'::_=>match S z with
   | []=>[]
   | t::s=>[⟨z,z',t::s⟩])++gbs S r
theorem w0r (S:Int→List R4): ∀r,D6.flat (gbs S r)=bxs S r
 | []=>rfl
 | [z]=>rfl
 | z::z'::r=>by
  have ih:=w0r S (z'::r);show D6.flat ((match S z with | []=>[] | t::s=>[⟨z,z',t::s⟩])++gbs S (z'::r))=(S z).map (pz6 z z')++bxs S (z'::r);rw [D6.flat_append,ih]
  congr 1
  cases S z with
  | nil=>rfl
  | cons t s=>exact D6.flat_one _
theorem y9q (S:Int→List R4): ∀(r:List Int) (lo:Int),Chg S r lo→ ∀g∈gbs S r,g.a∈r∧g.a<g.b∧g.s=S g.a∧g.s≠ []∧ ∀x,g.a≤x→x<g.b→S x=g.s
 | [],_,_,g,hg=>by cases hg
 | [z],_,_,g,hg=>by cases hg
 | z ::z'::r,lo,h,g,hg=>by
  have ht:=h.tail;rcases List.mem_append.1 hg with hg | hg
  ·have hz:=ht.low z' (by simp);have ht2:=(List.pairwise_cons.1 ht.asc).1;have cst: ∀x,z≤x→x<z'→S x=S z:=fun x h1 h2=>by
    have:=ht.flat (x:=x) (by omega) fun y hy=>by
     rcases List.mem_cons.1 hy with rfl | hy
     ·exact h2
     ·have:=ht2 y hy;omega
    rw [this,show z+1 - 1=z by omega]
   have hg:g∈(match S z with | []=>[] | t::s=>[(⟨z,z',t::s⟩:Qp R4)]):=hg;cases e:S z with
   | nil=>rw [e] at hg;cases hg
   | cons t s=>rw [e] at hg;obtain rfl:=List.mem_singleton.1 hg;exact ⟨by simp,by show z<z';omega,e.symm,by simp,fun x h1 h2=>(cst x h1 h2).trans e⟩
  ·obtain ⟨g1,g2⟩:=y9q S (z'::r) (z+1) ht g hg;exact ⟨by simp only [List.mem_cons] at g1 ⊢;exact .inr g1,g2⟩
theorem w9n (S:Int→List R4) (hS: ∀x,Xs.can (S x)): ∀(r:List Int) (lo:Int),Chg S r lo→z1h Xs (gbs S r)
 | [],_,_=>.nil
 | [z],_,_=>.nil
 | z ::z'::r,lo,h=>by
  have ht:=h.tail;have ih:=w9n S hS (z'::r) (z+1) ht;have hz:=ht.low z' (by simp);have ht2:=(List.pairwise_cons.1 ht.asc).1;show z1h Xs ((match S z with | []=>[] | t::s=>[⟨z,z',t::s⟩])++gbs S (z'::r));cases e:S z with
  | nil=>exact ih
  | cons t s=>
   have ok:OkS Xs (⟨z,z',t::s⟩:Qp R4):=⟨by show z<z';omega,by show Xs.can (t::s);rw [←e];exact hS z,by simp⟩
   cases eg:gbs S (z'::r) with
   | nil=>exact .one _ ok
   | cons k G=>
    rw [eg] at ih;obtain ⟨m1,_,m3,_⟩:=y9q S (z'::r) (z+1) ht k (by rw [eg];simp);refine .cons _ k G ok ⟨?_,fun eb es=> ?_⟩ ih
    ·show z'≤k.a;rcases List.mem_cons.1 m1 with e | e
     ·omega
     ·have:=ht2 _ e;omega
    ·have eb:z'=k.a:=eb;have es:t::s=k.s:=es;have c:=ht.flat (x:=z' - 1) (by omega) fun y hy=>by
      rcases List.mem_cons.1 hy with rfl | hy
      ·omega
      ·have:=ht2 y hy;omega
     refine ht.ne z' (by simp) ?_;rw [c,show z+1 - 1=z by omega,e,es,m3,←eb]
theorem w9m (S:Int→List R4) (hf: ∀x,1000000≤x→S x=[]): ∀(r:List Int) (lo:Int),Chg S r lo→S (lo - 1)=[]→ ∀x,S x≠ []→lo≤x→ ∃g∈gbs S r,g.a≤x∧x<g.b
 | [],lo,h,h0,x,hx,hlo=>by refine (hx ?_).elim;rw [h.flat (by omega) (by simp),h0]
 | [z],lo,h,h0,x,hx,hlo=>by
  have hz:=h.low z (by simp);by_cases q:x<z
  ·refine (hx ?_).elim;rw [h.flat (by omega) (by simpa using q),h0]
  ·refine (hx ?_).elim;have ht:=h.tail;have e1:=ht.flat (x:=x) (by omega) (by simp);have e2:=ht.flat (x:=x+2000000+z.natAbs) (by omega) (by simp);rw [e1,←e2];exact hf _ (by omega)
 | z ::z'::r,lo,h,h0,x,hx,hlo=>by
  have ht:=h.tail;have hz:=h.low z (by simp);have hz':=ht.low z' (by simp);have ht2:=(List.pairwise_cons.1 ht.asc).1;by_cases q:x<z
  ·refine (hx ?_).elim;rw [h.flat (by omega) fun y hy=>by
    rcases List.mem_cons.1 hy with rfl | hy
    ·exact q
    ·have:=(List.pairwise_cons.1 h.asc).1 y hy;omega,h0]
  by_cases q2:x<z'
  ·have c:S x=S z:=by
    have:=ht.flat (x:=x) (by omega) fun y hy=>by
     rcases List.mem_cons.1 hy with rfl | hy
     ·exact q2
     ·have:=ht2 y hy;omega
    rw [this,show z+1 - 1=z by omega]
   cases e:S z with
   | nil=>exact (hx (c.trans e)).elim
   | cons t s=>refine ⟨⟨z,z',t::s⟩,?_,by show z≤x;omega,q2⟩;show _∈(match S z with | []=>[] | t::s=>[⟨z,z',t::s⟩])++gbs S (z'::r);rw [e];simp
  ·have go: ∃g∈gbs S (z'::r),g.a≤x∧x<g.b:=by
    by_cases hS:S z=[]
    ·exact w9m S hf (z'::r) (z+1) ht (by rw [show z+1 - 1=z by omega];exact hS) x hx (by omega)
    ·-- the section before z' is not empty: start at z'
     exact gbs_hit2 S hf z' r ((z+1)) ht x hx (by omega)
   obtain ⟨g,hg,hh⟩:=go;exact ⟨g,List.mem_append.2 (.inr hg),hh⟩
where
 gbs_hit2 (S:Int→List R4) (hf: ∀x,1000000≤x→S x=[]) (z':Int): ∀(r:List Int) (lo:Int),Chg S (z'::r) lo→ ∀x,S x≠ []→z'≤x→ ∃g∈gbs S (z'::r),g.a≤x∧x<g.b
  | [],lo,h,x,hx,hlo=>by refine (hx ?_).elim;have ht:=h.tail;have e1:=ht.flat (x:=x) (by omega) (by simp);have e2:=ht.flat (x:=x+2000000+z'.natAbs) (by omega) (by simp);rw [e1,←e2];exact hf _ (by omega)
  | z2::r,lo,h,x,hx,hlo=>by
   have ht:=h.tail;have hz':=ht.low z2 (by simp);have ht2:=(List.pairwise_cons.1 ht.asc).1;by_cases q2:x<z2
   ·have c:S x=S z':=by
     have:=ht.flat (x:=x) (by omega) fun y hy=>by
      rcases List.mem_cons.1 hy with rfl | hy
      ·exact q2
      ·have:=ht2 y hy;omega
     rw [this,show z'+1 - 1=z' by omega]
    cases e:S z' with
    | nil=>exact (hx (c.trans e)).elim
    | cons t s=>refine ⟨⟨z',z2,t::s⟩,?_,by show z'≤x;omega,q2⟩;show _∈(match S z' with | []=>[] | t::s=>[⟨z',z2,t::s⟩])++gbs S (z2::r);rw [e];simp
   ·obtain ⟨g,hg,hh⟩:=gbs_hit2 S hf z2 r (z'+1) ht x hx (by omega);exact ⟨g,List.mem_append.2 (.inr hg),hh⟩
end Go.Am
namespace Go.Am
open Go.Proofs Go.Sort Go.Shelf Go.RowKit Go.Lib
theorem z8p {x y z:Int} (hx: -1000000≤x∧x≤1000000) (hy: -1000000≤y∧y≤1000000) (hz: -1000000≤z∧z≤1000000):w9u x y z=true:=by
 unfold w9u;rw [Bool.and_eq_true,decide_eq_true_eq,decide_eq_true_eq];unfold z5n z5o;constructor
 ·(repeat' split) <;> omega
 ·(repeat' split) <;> omega
theorem u1h (q:Ax) (s:Bool) {p:Int} (hp: -1000000≤p∧p≤1000000) {t:R4} (ht:Vy t=true):w5g (qd q s p t)=true:=by
 simp only [Vy,Bool.and_eq_true,decide_eq_true_eq] at ht;have bb: ∀{x:Int},(-1000000≤x∧x≤1000000)→(-1000000≤x∧x≤1000000):=fun h=>h;have ha: -1000000≤t.a∧t.a≤1000000:=by omega
 have hb: -1000000≤t.b∧t.b≤1000000:=by omega
 have hc: -1000000≤t.c∧t.c≤1000000:=by omega
 have hd: -1000000≤t.d∧t.d≤1000000:=by omega
 have h1:decide (t.a<t.c)=true:=decide_eq_true (by omega);have h2:decide (t.b<t.d)=true:=decide_eq_true (by omega);have hq:(p == p)=true:=by simp
 cases q <;> cases s <;> unfold w5g qd <;> simp only [z8p hp ha hb,z8p hp hc hd,z8p ha hp hb,z8p hc hp hd,z8p ha hb hp,z8p hc hd hp,h1,h2,hq] <;> rfl
section
variable {L:List R6} (h:Wc L=0) (hl:L.length≤20)
include h hl
theorem w9w (q:Ax) (s:Bool) (p:Int): ∀t∈fcF q s L p,Vy t=true:=by
 obtain ⟨_,hv,_,hL⟩:=Xr h;have f1:=fw q hv hl (p - 1);have f2:=fw q hv hl p;cases s with
 | true=>obtain ⟨u1,u2⟩:=y1z q hv hl p;refine z2g u1 fun u v k=> ?_;have:=((u2 u v).1 k).1;rw [←z9u,←f1.pts] at this;exact z1j f1.val this
 | false=>obtain ⟨u1,u2⟩:=y4c q hv hl p;refine z2g u1 fun u v k=> ?_;have:=((u2 u v).1 k).1;rw [←z9u,←f2.pts] at this;exact z1j f2.val this
theorem y1i {r:R7} (hr:r∈Kc L): ∃q s p t,p∈plQ q L∧t∈fcF q s L p∧r=qd q s p t:=by
 obtain ⟨_,hv,_,hL⟩:=Xr h;have go: ∀q s,r∈dM q s L→ ∃q s p t,p∈plQ q L∧t∈fcF q s L p∧r=qd q s p t:=fun q s k=>by rw [v0n hv hl hL] at k;obtain ⟨p,hp,k⟩:=List.mem_flatMap.1 k;obtain ⟨t,ht,rfl⟩:=List.mem_map.1 k;exact ⟨q,s,p,t,hp,ht,rfl⟩
 unfold Kc at hr;simp only [List.mem_append] at hr;rcases hr with ((((hr | hr) | hr) | hr) | hr) | hr
 ·exact go _ _ hr
 ·exact go _ _ hr
 ·exact go _ _ hr
 ·exact go _ _ hr
 ·exact go _ _ hr
 ·exact go _ _ hr
theorem z4h :x6b (Kc L)=0∧Qc (Kc L)=true:=by
 obtain ⟨_,hv,_,hL⟩:=Xr h;have hn:=(Qb hv hl hL).2;constructor
 ·unfold x6b;rw [decide_eq_false (by omega),List.all_eq_true.2 fun r hr=> ?_];rfl;obtain ⟨q,s,p,t,hp,ht,rfl⟩:=y1i h hl hr;exact u1h q s (w7q hv hl hL q hp) (w9w h hl q s p t ht)
 ·refine List.all_eq_true.2 fun r hr=> ?_;obtain ⟨q,s,p,t,hp,ht,rfl⟩:=y1i h hl hr;rw [u3o];cases q <;> cases s <;> rfl
theorem w0y :Chg (D6.inn L) (plZ (Kc L)) (-1000000):=by refine ⟨by unfold plZ;rw [Ug];exact (Xf _).1,fun z hz=> ?_,fun z hz=>(x5o h hl z).1 hz,fun x _ hn=>(x5o h hl x).2 hn⟩;refine Classical.byContradiction fun hn=>(x5o h hl z).1 hz ?_;rw [far h hl (.inl (by omega)),far h hl (.inl (by omega))]
theorem u0m : ∀(r:List Int) (lo:Int) (bx:List R6),Chg (D6.inn L) r lo→goP (Kc L) r (D6.inn L (lo - 1)) bx=some (bx++bxs (D6.inn L) r)
 | [],lo,bx,_=>by simp [goP,bxs]
 | z::r,lo,bx,c=>by
  have hz:=c.low z (by simp);have hc:=(List.pairwise_cons.1 c.asc).1;have e:D6.inn L (lo - 1)=D6.inn L (z - 1):=(c.flat (x:=z - 1) (by omega) fun y hy=>by
   rcases List.mem_cons.1 hy with rfl | hy
   ·omega
   ·have:=hc y hy;omega).symm
  obtain ⟨s1,s2⟩:=step_z h hl (c.ne z (by simp));obtain ⟨q4,q5⟩:=y1y h hl z;have ih:=fun b=>u0m r (z+1) b c.tail;rw [show z+1 - 1=z by omega] at ih;rw [e];unfold goP;rw [q4,q5,s1,cond_false,s2,ih,List.append_assoc];rfl
theorem v6q :bxs (D6.inn L) (plZ (Kc L))=L:=by
 have c:=w0y h hl;have hS: ∀x,Xs.can (D6.inn L x):=fun x=>(u2c h hl x).1;have hf: ∀x,1000000≤x→D6.inn L x=[]:=fun x hx=>far h hl (.inr hx);have hg:=w9n (D6.inn L) hS _ _ c;rw [←w0r];refine x4i.uniq _ _ ⟨_,hg,rfl⟩ (x4k h) fun ⟨x,p⟩=> ?_;rw [show ptL x4i.inB (D6.flat (gbs (D6.inn L) (plZ (Kc L)))) (x,p)↔_ from Dim.flat_pt z2n Xs _ x p,show ptL x4i.inB L (x,p)↔_ from (Dim.pt_inn (D:=D6) Xs.inB L x p).symm];constructor
 ·rintro ⟨g,hg,g1,g2,g3⟩;obtain ⟨_,_,_,_,m⟩:=y9q (D6.inn L) _ _ c g hg;rw [m x g1 g2];exact g3
 ·intro k;have hx:D6.inn L x≠ []:=fun e=>by rw [e] at k;exact z3g _ _ k
  have hlo: -1000000≤x:=Classical.byContradiction fun hn=>hx (far h hl (.inl (by omega)));obtain ⟨g,hg,g1,g2⟩:=w9m (D6.inn L) hf _ _ c (far h hl (.inl (by omega))) x hx hlo;obtain ⟨_,_,_,_,m⟩:=y9q (D6.inn L) _ _ c g hg;exact ⟨g,hg,g1,g2,by rw [←m x g1 g2];exact k⟩
theorem back :z9n (Kc L)=0∧z0f (Kc L)=L:=by
 obtain ⟨_,hv,_,hL⟩:=Xr h;have hc:=(z4h h hl).1;have hg:goP (Kc L) (plZ (Kc L)) [] []=some L:=by have:=u0m h hl (plZ (Kc L)) (-1000000) [] (w0y h hl);rw [far h hl (.inl (by omega)),v6q h hl] at this;exact this
 obtain ⟨m1,m0⟩:=x8u h;have hz:=(Qb hv hl hL).1;have e:msoE (Kc L)=0:=by unfold msoE;rw [hc,hg];show v5w (Kc L) L=0;unfold v5w z0x Uk;rw [m1,m0,hz,show y2l (y9s 0 (Kc L)) (Kc L)=true from decide_eq_true rfl];rfl
 refine ⟨e,?_⟩;unfold z0f msoL;rw [e,hg];show Xq L=L;exact m0
end
end Go.Am
namespace Go.Am
open Go.Proofs.Tryz
open Go.Proofs Go.Sort Go.Shelf Go.RowKit Go.Lib
def one1 :List R6:=[⟨0,0,0,2,1,1⟩]
theorem y8k :Wc one1=0:=by refine x8w (by decide) ?_ ⟨[⟨0,1,[⟨0,0,2,1⟩]⟩],.one _ ⟨by decide,⟨[⟨0,2,[⟨0,1⟩]⟩],.one _ ⟨by decide,can1 0 1 (by decide),by simp⟩,rfl⟩,by simp⟩,rfl⟩;intro r hr;obtain rfl:=List.mem_singleton.1 hr;rfl
theorem can2 (r:R4) (h1:r.a<r.c) (h2:r.b<r.d):Xs.can [r]:=⟨[⟨r.a,r.c,[⟨r.b,r.d⟩]⟩],.one _ ⟨h1,can1 _ _ h2,by simp⟩,rfl⟩
theorem z7p (q:Ax) {r:R6} (hr:Qu r=true) (p:Int):upF q [r] p=(if p=q.hi r then [q.rc r] else [])∧dnF q [r] p=(if p=q.lo r then [q.rc r] else []):=by
 have hv: ∀s∈ [r],Qu s=true:=fun s hs=>by rw [List.mem_singleton.1 hs];exact hr
 have hL: [r].Pairwise Ap6:=by simp
 have hlt: ∀s∈ [r],q.lo s<q.hi s:=fun s hs=>(q.val (hv s hs)).2.1;obtain ⟨u1,u2⟩:=y1z q hv (by simp) p;obtain ⟨d1,d2⟩:=y4c q hv (by simp) p;have hlo:=hlt r (by simp);have c:Xs.can [q.rc r]:=by have:=(q.val hr).1;simp only [Vy,Bool.and_eq_true,decide_eq_true_eq] at this;exact can2 _ this.1 this.2.1
 have ci: ∀P:Prop,∀i:Decidable P,Xs.can (@ite _ P i [q.rc r] []):=fun P i=>by
  by_cases h:P
  ·rw [if_pos h];exact c
  ·rw [if_neg h];exact Xs.nil
 constructor
 ·refine Xs.uniq _ _ u1 (ci _ _) fun ⟨u,v⟩=> ?_;rw [u2,y8e q hL hlt,w9h,w8v,v9g];by_cases e:p=q.hi r
  ·rw [if_pos e];constructor
   ·rintro ⟨⟨s,hs,_,k⟩,_⟩;rw [List.mem_singleton.1 hs] at k;exact ⟨_,by simp,k⟩
   ·rintro ⟨s,hs,k⟩;rw [List.mem_singleton.1 hs] at k;refine ⟨⟨r,by simp,e.symm,k⟩,?_⟩;rintro ⟨s,hs,e2,_⟩;rw [List.mem_singleton.1 hs] at e2;omega
  ·rw [if_neg e];constructor
   ·rintro ⟨⟨s,hs,e2,_⟩,_⟩;rw [List.mem_singleton.1 hs] at e2;exact (e e2.symm).elim
   ·rintro ⟨s,hs,_⟩;cases hs
 ·refine Xs.uniq _ _ d1 (ci _ _) fun ⟨u,v⟩=> ?_;rw [d2,z8r q hL hlt,w9h,w8v,v9g];by_cases e:p=q.lo r
  ·rw [if_pos e];constructor
   ·rintro ⟨⟨s,hs,_,k⟩,_⟩;rw [List.mem_singleton.1 hs] at k;exact ⟨_,by simp,k⟩
   ·rintro ⟨s,hs,k⟩;rw [List.mem_singleton.1 hs] at k;refine ⟨⟨r,by simp,e.symm,k⟩,?_⟩;rintro ⟨s,hs,e2,_⟩;rw [List.mem_singleton.1 hs] at e2;omega
  ·rw [if_neg e];constructor
   ·rintro ⟨⟨s,hs,e2,_⟩,_⟩;rw [List.mem_singleton.1 hs] at e2;exact (e e2.symm).elim
   ·rintro ⟨s,hs,_⟩;cases hs
theorem pl_one (q:Ax) (r:R6) (h:q.lo r<q.hi r):plQ q [r]=[q.lo r,q.hi r]:=z8v _ _ (z5h q _) (by simp [h]) fun x=>by rw [z5g];simp
theorem v4p :Kc one1=[⟨0,2,0,0,2,1,1⟩,⟨1,0,0,0,0,1,1⟩,⟨2,0,1,0,2,1,1⟩,⟨3,0,0,0,2,0,1⟩,⟨4,0,0,1,2,1,1⟩,⟨5,0,0,0,2,1,0⟩]:=by
 obtain ⟨_,hv,_,hL⟩:=Xr y8k;have hr:=hv ⟨0,0,0,2,1,1⟩ (by simp [one1]);have up: ∀(q:Ax) (s:Bool),dM q s one1=[match s with | true=>qd q true (q.hi ⟨0,0,0,2,1,1⟩) (q.rc ⟨0,0,0,2,1,1⟩) | false=>qd q false (q.lo ⟨0,0,0,2,1,1⟩) (q.rc ⟨0,0,0,2,1,1⟩)]:=fun q s=>by
  have hlt:=(q.val hr).2.1;rw [v0n hv (by decide) hL,show plQ q one1=_ from pl_one q _ hlt];cases s with
  | true=>show (upF q one1 _).map _++((upF q one1 _).map _++[])=_;rw [show∀p,upF q one1 p=_ from fun p=>(z7p q hr p).1,show∀p,upF q one1 p=_ from fun p=>(z7p q hr p).1,if_neg (by omega),if_pos rfl];rfl
  | false=>show (dnF q one1 _).map _++((dnF q one1 _).map _++[])=_;rw [show∀p,dnF q one1 p=_ from fun p=>(z7p q hr p).2,show∀p,dnF q one1 p=_ from fun p=>(z7p q hr p).2,if_pos rfl,if_neg (by omega)];rfl
 unfold Kc;rw [up,up,up,up,up,up];rfl
theorem v6t : ∃N,Yk x0b N z7q=.ret [.bool true]:=by refine ⟨0,?_⟩;obtain ⟨o1,o0⟩:=y2w y8k (by decide);obtain ⟨b1,b0⟩:=back y8k (by decide);have w:=(z4h y8k (by decide)).2;rw [v4p] at o0 b1 b0 w;unfold z7q;have e1:([(R6.mk 0 0 0 2 1 1)]:List R6)=one1:=rfl;have e2:([(R6.mk 0 0 0 1 1 1),(R6.mk 1 1 0 2 2 1)]:List R6)=two2:=rfl;simp only [Zb,e1,e2,o1,o0,b1,b0,show z3m one1=true from rfl,show z6v two2=true from rfl,w,show Vg one1 one1=true from rfl,show Jb one1 one1=true from decide_eq_true rfl];rfl
def fAl :List AVal→Option (AVal×Bool)
 | []=>some (.bool true,true)
 | _=>none
theorem fAl_ok {S:Specs} (hS:Zu prog S):Zu prog (S.with x9x fAl):=by
 refine z3s hS (by kernel_rfl) fun args v h=> ?_;unfold fAl at h;split at h
 ·simp only [Option.some.injEq,Prod.mk.injEq,and_true] at h;subst h;obtain ⟨N,hN⟩:=v6t;exact ⟨_,_,.nil,rfl,v1i N _ hN,3,rfl⟩
 ·cases h
def Ml :Specs:=(Mk.with x9x fAl)
theorem Ml_ok :Zu prog Ml:=(fAl_ok y0i)
end Go.Am
namespace Go.Am
open Go.Proofs Go.Sort Go.Shelf Go.RowKit Go.Lib
def y0a (P:Prop):Nat:= @ite _ P (Classical.propDecidable P) 1 0
theorem Uj {P:Prop} (h:P):y0a P=1:= @if_pos _ (Classical.propDecidable P) h _ _ _
theorem Wr {P:Prop} (h: ¬P):y0a P=0:= @if_neg _ (Classical.propDecidable P) h _ _ _
theorem y7v (w:Int): ∀s:List R2,Can s→(s.filter fun t=>decide (t.a≤w)&&decide (w<t.b)).length =y0a (pt s w)
 | [],_=>(Wr fun ⟨_,h,_⟩=>by cases h).symm
 | t::s,h=>by
  have ih:=y7v w s h.tail;have hd:=h.head;rw [List.filter_cons];by_cases q:t.a≤w∧w<t.b
  ·rw [if_pos (by simp [q.1,q.2])];have e:(s.filter fun t=>decide (t.a≤w)&&decide (w<t.b))=[]:=List.filter_eq_nil_iff.2 fun r hr k=>by have:=hd r hr;simp only [Bool.and_eq_true,decide_eq_true_eq] at k;omega
   rw [e,Uj ⟨t,by simp,q⟩];rfl
  ·rw [if_neg (by simpa using q),ih];by_cases g:pt s w
   ·rw [Uj g];obtain ⟨r,hr,k⟩:=g;rw [Uj ⟨r,by simp [hr],k⟩]
   ·rw [Wr g,Wr];rintro ⟨r,hr,k⟩;rcases List.mem_cons.1 hr with rfl | hr
    ·exact q k
    ·exact g ⟨r,hr,k⟩
def v5n (u w:Int) (t:R4):Bool:=(decide (t.a≤u)&&decide (u<t.c))&&(decide (t.b≤w)&&decide (w<t.d))
theorem v1a {l:List R4} (hc:Xs.can l) (u w:Int):(l.filter (v5n u w)).length =y0a (ptL Xs.inB l (u,w)):=by
 have h1:=y7v w (D4.inn l u) (y1o hc u);have e:((D4.inn l u).filter fun t=>decide (t.a≤w)&&decide (w<t.b)).length =(l.filter (v5n u w)).length :=by
  show (((l.filter fun r=>decide (r.a≤u)&&decide (u<r.c)).map fun r=>(⟨r.b,r.d⟩:R2)).filter _).length =_;rw [List.filter_map,List.length_map,List.filter_filter]
  congr 1
  refine List.filter_congr fun r _=> ?_;unfold v5n;simp only [Function.comp];exact Bool.and_comm _ _
 rw [←e,h1];have:pt (D4.inn l u) w↔ptL Xs.inB l (u,w):=z3h l u w;by_cases g:pt (D4.inn l u) w
 ·rw [Uj g,Uj (this.1 g)]
 ·rw [Wr g,Wr fun k=>g (this.2 k)]
end Go.Am
namespace Go.Am
open Go.Proofs Go.Sort Go.Shelf Go.RowKit Go.Lib
theorem w0t {E:Int→Int}: ∀{l:List Int},v0f E l=0→ ∀p∈l,E p=0
 | [],_,p,hp=>by cases hp
 | x::l,h,p,hp=>by
  unfold v0f at h;cases g:(E x != 0) with
  | true=>rw [g,cond_true] at h;rw [h] at g;cases g
  | false=>
   rw [g,cond_false] at h;rcases List.mem_cons.1 hp with rfl | hp
   ·simpa using g
   ·exact w0t h p hp
theorem z0l {e x:Int} (h:(bif e != 0 then e else x)=0):e=0∧x=0:=by
 cases g:(e != 0) with
 | true=>rw [g,cond_true] at h;rw [h] at g;cases g
 | false=>rw [g,cond_false] at h;exact ⟨by simpa using g,h⟩
theorem v6j {L:List R6} (h:w4u L=0) (q:Ax) (s:Bool):z7k q s L=0:=by unfold w4u at h;obtain ⟨h1,h⟩:=z0l h;obtain ⟨h2,h⟩:=z0l h;obtain ⟨h3,h⟩:=z0l h;obtain ⟨h4,h⟩:=z0l h;obtain ⟨h5,h⟩:=z0l h;obtain ⟨h6,_⟩:=z0l h;cases q <;> cases s <;> assumption
theorem w7p {L:List R6} (hv: ∀r∈L,Qu r=true) (q:Ax) {p:Int} (h:p∈plQ q L): -1000000≤p∧p≤1000000:=by obtain ⟨r,hr,h⟩:=(z5g q L p).1 h;obtain ⟨_,h1,h2,h3⟩:=q.val (hv r hr);rcases h with rfl | rfl <;> omega
theorem u4l {L:List R6} (hv: ∀r∈L,Qu r=true) (q:Ax) (s:Bool) (p:Int) (hp: -1000000≤p∧p≤1000000) (h:Uq q L p s=0):
  Xs.can (Vu q L p s)∧ ∀u w,ptL Xs.inB (Vu q L p s) (u,w)↔(match s with
   | true=>q.inL L (p - 1) u w∧ ¬q.inL L p u w
   | false=>q.inL L p u w∧ ¬q.inL L (p - 1) u w):=by
 have w:IntKind.wrap .i64 (p - 1)=p - 1:=Zq (by omega);unfold Uq at h;obtain ⟨hE,h⟩:=z0l h;have hE':=hE;unfold w3a at hE';obtain ⟨e1,e2⟩:=z0l hE';rw [w] at e1 h;unfold Vu;rw [hE,w];have one: ∀x,Jy q L x=0→Xs.can (Ym q L x)∧(∀u w,ptL Xs.inB (Ym q L x) (u,w)↔q.inL L x u w)∧ ∀r∈Ym q L x,Vy r=true:=fun x hx=>by obtain ⟨m1,m2,m3⟩:=x5b (l:=z1d q L x) hx;obtain ⟨c,pt⟩:=Kb m2 m1;unfold Ym;rw [m3];exact ⟨c,fun u w=>by rw [pt,z9u],z2g c fun u v k=>z1j m2 ((pt _).1 k)⟩
 obtain ⟨a1,a2,a3⟩:=one _ e1;obtain ⟨b1,b2,b3⟩:=one _ e2;cases s with
 | true=>have h:rgE .d (Ym q L (p - 1)) (Ym q L p)=0:=h;show Xs.can (Wf .d (Ym q L (p - 1)) (Ym q L p))∧ ∀u w,ptL Xs.inB (Wf .d (Ym q L (p - 1)) (Ym q L p)) (u,w)↔_;rw [x9i .d h];obtain ⟨j1,j2,_⟩:=Js 2 a3 b3;exact ⟨j1,fun u w=>by rw [show ptL Xs.inB (rgJ Op.d.k _ _) (u,w)↔_ from j2 (u,w),w7t,a2,b2]⟩
 | false=>have h:rgE .d (Ym q L p) (Ym q L (p - 1))=0:=h;show Xs.can (Wf .d (Ym q L p) (Ym q L (p - 1)))∧ ∀u w,ptL Xs.inB (Wf .d (Ym q L p) (Ym q L (p - 1))) (u,w)↔_;rw [x9i .d h];obtain ⟨j1,j2,_⟩:=Js 2 b3 a3;exact ⟨j1,fun u w=>by rw [show ptL Xs.inB (rgJ Op.d.k _ _) (u,w)↔_ from j2 (u,w),w7t,a2,b2]⟩
def sgn (q:Ax) (u w:Int) (r:R7):Int:=if v5n u w (q.rc ⟨r.b,r.c,r.d,r.e,r.f,r.g⟩)=true then (if r.a=2*q.ix then 1 else if r.a=2*q.ix+1 then -1 else 0) else 0
def y5e (q:Ax) (u w:Int) (l:List R7):Int:=(l.map (sgn q u w)).sum
theorem Uz (q:Ax) (u w:Int) (l m:List R7):y5e q u w (l++m)=y5e q u w l+y5e q u w m:=by unfold y5e;rw [List.map_append,List.sum_append]
theorem v7q (q:Ax) (s:Bool) (p u w:Int) (t:R4):sgn q u w (qd q s p t)=if v5n u w t=true then (match s with | true=>1 | false=> -1) else 0:=by cases q <;> cases s <;> rfl
theorem w5z {q q':Ax} (h:q'≠q) (s:Bool) (p u w:Int) (t:R4):sgn q u w (qd q' s p t)=0:=by
 have:(qd q' s p t).a ≠2*q.ix∧(qd q' s p t).a ≠2*q.ix+1:=by
  rw [u3o];cases q <;> cases q' <;> cases s <;> first | exact absurd rfl h | exact ⟨by decide,by decide⟩
 unfold sgn;rw [if_neg this.1,if_neg this.2];split <;> rfl
theorem x8q (q:Ax) (s:Bool) (p u w:Int): ∀l:List R4,y5e q u w (l.map (qd q s p))=(match s with | true=>1 | false=> -1)*((l.filter (v5n u w)).length :Int)
 | []=>by cases s <;> rfl
 | t::l=>by
  have ih:=x8q q s p u w l;unfold y5e at ih ⊢;rw [List.map_cons,List.map_cons,List.sum_cons,ih,v7q,List.filter_cons];by_cases g:v5n u w t=true
  ·rw [if_pos g,if_pos g,List.length_cons];cases s <;> simp <;> omega
  ·rw [if_neg g,if_neg g];omega
theorem x0t (q:Ax) (u w:Int): ∀l:List R7,(∀r∈l,sgn q u w r=0)→y5e q u w l=0
 | [],_=>rfl
 | r::l,h=>by have ih:=x0t q u w l fun x hx=>h x (by simp [hx]);unfold y5e at ih ⊢;rw [List.map_cons,List.sum_cons,ih,h r (by simp)];rfl
def inI (q:Ax) (L:List R6) (u w p:Int):Int:=(y0a (q.inL L p u w):Int)
theorem w2r (A B:Prop):(y0a (A∧ ¬B):Int) - (y0a (B∧ ¬A):Int)=(y0a A:Int) - (y0a B:Int):=by
 by_cases a:A <;> by_cases b:B
 ·rw [Wr fun k=>k.2 b,Wr fun k=>k.2 a,Uj a,Uj b];rfl
 ·rw [Uj ⟨a,b⟩,Wr fun k=>b k.1,Uj a,Wr b]
 ·rw [Wr fun k=>a k.1,Uj ⟨b,a⟩,Wr a,Uj b]
 ·rw [Wr fun k=>a k.1,Wr fun k=>b k.1,Wr a,Wr b]
theorem tele (f:Int→Int): ∀(P:List Int) (lo:Int),P.Pairwise (· < ·)→(∀p∈P,lo≤p)→(∀x,lo≤x→f (x - 1)≠f x→x∈P)→ ∀hi,(∀p∈P,p≤hi)→lo - 1≤hi→(P.map fun p=>f (p - 1) - f p).sum =f (lo - 1) - f hi
 | [],lo,_,_,hc,hi,_,hlo=>by
  have: ∀n:Nat,f (lo - 1+n)=f (lo - 1):=fun n=>by
   induction n with
   | zero=>simp
   | succ n ih=>
    rw [←ih];refine Classical.byContradiction fun hn=> ?_;have:=hc (lo - 1+(n+1:Nat)) (by omega) (by
     rw [show lo - 1+((n+1:Nat):Int) - 1=lo - 1+(n:Int) by omega];exact fun e=>hn e.symm)
    cases this
  have k:=this (hi - (lo - 1)).toNat;rw [show lo - 1+((hi - (lo - 1)).toNat :Int)=hi by omega] at k;rw [k];simp
 | p ::P,lo,hP,hl,hc,hi,hh,hlo=>by
  obtain ⟨h1,h2⟩:=List.pairwise_cons.1 hP;have ih:=tele f P (p+1) h2 (fun x hx=>by have:=h1 x hx;omega) (fun x hx hn=>by
   have:=hl p (by simp);rcases List.mem_cons.1 (hc x (by omega) hn) with e | e
   ·omega
   ·exact e) hi (fun x hx=>hh x (by simp [hx])) (by have:=hh p (by simp);omega)
  have hlp:=hl p (by simp);have e:f (p - 1)=f (lo - 1):=by
   have: ∀n:Nat,lo - 1+n≤p - 1→f (lo - 1+n)=f (lo - 1):=fun n=>by
    induction n with
    | zero=>intro _;simp
    | succ n ih=>
     intro hn;rw [←ih (by omega)];refine Classical.byContradiction fun hne=> ?_;have:=hc (lo - 1+(n+1:Nat)) (by omega) (by
      rw [show lo - 1+((n+1:Nat):Int) - 1=lo - 1+(n:Int) by omega];exact fun e=>hne e.symm)
     rcases List.mem_cons.1 this with e | e
     ·omega
     ·have:=h1 _ e;omega
   have k:=this (p - 1 - (lo - 1)).toNat (by omega);rwa [show lo - 1+((p - 1 - (lo - 1)).toNat :Int)=p - 1 by omega] at k
  rw [List.map_cons,List.sum_cons,ih,e,show p+1 - 1=p by omega];omega
theorem x1z {L:List R6} (hv: ∀r∈L,Qu r=true) (hz:w4u L=0) (q:Ax) (u w:Int):y5e q u w (Kc L)=0:=by
 have hm: ∀q s p,p∈plQ q L→Uq q L p s=0:=fun q s p hp=>w0t (v6j hz q s) p hp;have other: ∀q',q'≠q→ ∀s,y5e q u w (dM q' s L)=0:=fun q' hq s=>x0t q u w _ fun r hr=>by obtain ⟨p,_,hr⟩:=List.mem_flatMap.1 hr;obtain ⟨t,_,rfl⟩:=List.mem_map.1 hr;exact w5z hq s p u w t
 have dirS: ∀(s:Bool) (P:List Int),(∀p∈P,p∈plQ q L)→y5e q u w (w4y q s L P)=(P.map fun p=>(match s with | true=>(1:Int) | false=> -1)*(y0a (match s with | true=>q.inL L (p - 1) u w∧ ¬q.inL L p u w | false=>q.inL L p u w∧ ¬q.inL L (p - 1) u w):Int)).sum :=fun s P=>by
  induction P with
  | nil=>intro _;rfl
  | cons p P ih=>
   intro hP;obtain ⟨c,pts⟩:=u4l hv q s p (w7p hv q (hP p (by simp))) (hm q s p (hP p (by simp)));show y5e q u w ((Vu q L p s).map (qd q s p)++w4y q s L P)=_;rw [Uz,ih fun x hx=>hP x (by simp [hx]),x8q,v1a c,List.map_cons,List.sum_cons]
   congr 3
   cases s with
   | true=>
    by_cases g:ptL Xs.inB (Vu q L p true) (u,w)
    ·rw [Uj g];exact (Uj ((pts u w).1 g)).symm
    ·rw [Wr g];exact (Wr fun k=>g ((pts u w).2 k)).symm
   | false=>
    by_cases g:ptL Xs.inB (Vu q L p false) (u,w)
    ·rw [Uj g];exact (Uj ((pts u w).1 g)).symm
    ·rw [Wr g];exact (Wr fun k=>g ((pts u w).2 k)).symm
 have own:y5e q u w (dM q true L)+y5e q u w (dM q false L)=0:=by
  unfold dM;rw [dirS true _ fun _ h=>h,dirS false _ fun _ h=>h];have add: ∀P:List Int,(P.map fun p=>(1:Int)*(y0a (q.inL L (p - 1) u w∧ ¬q.inL L p u w):Int)).sum +(P.map fun p=>(-1:Int)*(y0a (q.inL L p u w∧ ¬q.inL L (p - 1) u w):Int)).sum =(P.map fun p=>inI q L u w (p - 1) - inI q L u w p).sum :=fun P=>by
   induction P with
   | nil=>rfl
   | cons p P ih=>simp only [List.map_cons,List.sum_cons] at ih ⊢;have:=w2r (q.inL L (p - 1) u w) (q.inL L p u w);unfold inI at ih ⊢;omega
  rw [add];have far: ∀x,(x< -1000000∨1000000≤x)→inI q L u w x=0:=fun x hx=>by unfold inI;rw [Wr];rfl;rintro ⟨r,hr,⟨h1,h2⟩,_⟩;obtain ⟨_,_,h3,h4⟩:=q.val (hv r hr);omega
  rw [tele (inI q L u w) (plQ q L) (-1000000) (z5h q L) (fun p hp=>(w7p hv q hp).1) (fun x _ hn=>Classical.byContradiction fun hx=>hn ?_) 1000000 (fun p hp=>(w7p hv q hp).2) (by decide),far _ (.inl (by decide)),far _ (.inr (by decide))]
  ·rfl
  ·unfold inI;have:q.inL L (x - 1) u w↔q.inL L x u w:=by
    constructor
    ·rintro ⟨r,hr,⟨h1,h2⟩,k⟩;exact ⟨r,hr,⟨by omega,Classical.byContradiction fun hn=>hx ((z5g q L x).2 ⟨r,hr,.inr (by omega)⟩)⟩,k⟩
    ·rintro ⟨r,hr,⟨h1,h2⟩,k⟩;exact ⟨r,hr,⟨Classical.byContradiction fun hn=>hx ((z5g q L x).2 ⟨r,hr,.inl (by omega)⟩),by omega⟩,k⟩
   by_cases g:q.inL L x u w
   ·rw [Uj g,Uj (this.2 g)]
   ·rw [Wr g,Wr fun k=>g (this.1 k)]
 unfold Kc;rw [Uz,Uz,Uz,Uz,Uz];cases q
 ·rw [other .y (by simp),other .y (by simp),other .z (by simp),other .z (by simp)];omega
 ·rw [other .x (by simp),other .x (by simp),other .z (by simp),other .z (by simp)];omega
 ·rw [other .x (by simp),other .x (by simp),other .y (by simp),other .y (by simp)];omega
end Go.Am
namespace Go.Am
open Go.Proofs Go.Sort Go.Shelf Go.RowKit Go.Lib
theorem v2d {bx:List R6} (h:Jq bx=0): ∀r∈Xq bx,Qu r=true:=by obtain ⟨hl,hv,_,_⟩:=x8t h;obtain ⟨c,pts⟩:=w5x h;refine u7e c fun x y z k=> ?_;obtain ⟨r,hr,h1,h2,h3⟩:=(pts x y z).1 k;have:=z2v (hv r hr);omega
section
variable {L:List R6} (h:Wc L=0) (hl:L.length≤20)
include h hl
theorem w8w (A B:List R7) (x:R7) (e:Kc L=A++x::B):z9n (A++B)=28∧z3l (A++B)=true:=by
 obtain ⟨_,hv,_,hL⟩:=Xr h;obtain ⟨hz,hn⟩:=Qb hv hl hL;obtain ⟨c0,co⟩:=z4h h hl;obtain ⟨_,cv⟩:=y9g c0;have sub: ∀r∈A++B,r∈Kc L:=fun r hr=>by
  rw [e];rcases List.mem_append.1 hr with k | k
  ·exact List.mem_append.2 (.inl k)
  ·exact List.mem_append.2 (.inr (List.mem_cons_of_mem _ k))
 have cW:(A++B).length ≤3000:=by
  have:(Kc L).length =(A++B).length +1:=by rw [e];simp only [List.length_append,List.length_cons];omega
  omega
 have hc:x6b (A++B)=0:=by unfold x6b;rw [decide_eq_false (by omega),List.all_eq_true.2 fun r hr=>cv r (sub r hr)];rfl
 refine ⟨?_,List.all_eq_true.2 fun r hr=>List.all_eq_true.1 co r (sub r hr)⟩;unfold z9n msoE;rw [hc];show (match goP (A++B) (plZ (A++B)) [] [] with | none=>(28:Int) | some bx=>v5w (A++B) bx)=28;cases goP (A++B) (plZ (A++B)) [] [] with
 | none=>rfl
 | some bx=>
  show v5w (A++B) bx=28;unfold v5w;cases g1:(Jq bx != 0) with
  | true=>rfl
  | false=>
   cases g2:(z0x (Xq bx) != 0) with
   | true=>rfl
   | false=>
    have s1:Jq bx=0:=(by simpa using g1);have s2:w4u (Xq bx)=0:=(by simpa [z0x] using g2);have ne:Uk (Xq bx)≠A++B:=fun q=>by
     have q:Kc (Xq bx)=A++B:=by rw [←q];unfold Uk;rw [s2];rfl
     obtain ⟨k,s,p,t,hp,ht,ex⟩:=y1i h hl (r:=x) (by rw [e];simp);have z1:=x1z hv hz k t.a t.b;have z2:=x1z (v2d s1) s2 k t.a t.b;rw [q,Uz] at z2;rw [e,Uz] at z1;have tv:=w9w h hl k s p t ht;simp only [Vy,Bool.and_eq_true,decide_eq_true_eq] at tv;have one:y5e k t.a t.b (x::B)=sgn k t.a t.b x+y5e k t.a t.b B:=by unfold y5e;rw [List.map_cons,List.sum_cons]
     have hin:v5n t.a t.b t=true:=by unfold v5n;rw [Bool.and_eq_true,Bool.and_eq_true,Bool.and_eq_true,decide_eq_true_eq,decide_eq_true_eq,decide_eq_true_eq,decide_eq_true_eq];omega
     rw [one,ex,v7q,if_pos hin] at z1;cases s with
     | true=>have z1:y5e k t.a t.b A+(1+y5e k t.a t.b B)=0:=z1;omega
     | false=>have z1:y5e k t.a t.b A+(-1+y5e k t.a t.b B)=0:=z1;omega
    rw [show y2l (Uk (Xq bx)) (A++B)=false from decide_eq_false ne];rfl
end
def keyQ (r:R7):Int:=u0u r.b r.c r.d (IntKind.wrap .i64 (Int.tdiv (IntKind.wrap .i64 r.a) 2))
theorem w0g (q:Ax) (s:Bool) (p:Int) (t:R4):keyQ (qd q s p t)=p:=by cases q <;> cases s <;> rfl
def ordQ (a b:R7):Prop:=a.a<b.a∨(a.a=b.a∧keyQ a≤keyQ b)
theorem u0s {L:List R6} (q:Ax) (s:Bool) (F:Int→List R4): ∀P:List Int,P.Pairwise (· < ·)→(P.flatMap fun p=>(F p).map (qd q s p)).Pairwise ordQ
 | [],_=>.nil
 | p::P,hP=>by
  obtain ⟨h1,h2⟩:=List.pairwise_cons.1 hP;rw [List.flatMap_cons];refine List.pairwise_append.2 ⟨?_,u0s (L:=L) q s F P h2,fun a ha b hb=> ?_⟩
  ·refine List.pairwise_map.2 ?_;have: ∀l:List R4,l.Pairwise fun a b=>ordQ (qd q s p a) (qd q s p b):=fun l=>by
    induction l with
    | nil=>exact .nil
    | cons t l ih=>exact List.pairwise_cons.2 ⟨fun b _=>.inr ⟨by rw [u3o,u3o],by rw [w0g,w0g];exact Int.le_refl _⟩,ih⟩
   exact this _
  ·obtain ⟨t,_,rfl⟩:=List.mem_map.1 ha;obtain ⟨p',hp',hb⟩:=List.mem_flatMap.1 hb;obtain ⟨t',_,rfl⟩:=List.mem_map.1 hb;have:=h1 p' hp';exact .inr ⟨by rw [u3o,u3o],by rw [w0g,w0g];omega⟩
theorem v4o (L:List R6):(Kc L).Pairwise ordQ:=by
 have own: ∀q s,(dM q s L).Pairwise ordQ:=fun q s=>u0s (L:=L) q s (fun p=>Vu q L p s) (plQ q L) (z5h q L);have two: ∀(l:List R7) (d:Int) (q:Ax) (s:Bool),l.Pairwise ordQ→(∀r∈l,r.a<d)→d=2*q.ix+sdI s→(l++dM q s L).Pairwise ordQ∧ ∀r∈l++dM q s L,r.a<d+1:=fun l d q s hl hd e=>
  ⟨List.pairwise_append.2 ⟨hl,own q s,fun a ha b hb=>.inl (by rw [dM_a hb,←e];exact hd a ha)⟩,fun r hr=>by
   rcases List.mem_append.1 hr with k | k
   ·have:=hd r k;omega
   ·rw [dM_a k,←e];omega⟩
 unfold Kc;have a1:=own .x true;have b1: ∀r∈dM .x true L,r.a<1:=fun r hr=>by rw [dM_a hr];decide
 obtain ⟨a2,b2⟩:=two _ 1 .x false a1 b1 rfl;obtain ⟨a3,b3⟩:=two _ 2 .y true a2 b2 rfl;obtain ⟨a4,b4⟩:=two _ 3 .y false a3 b3 rfl;obtain ⟨a5,b5⟩:=two _ 4 .z true a4 b4 rfl;exact (two _ 5 .z false a5 b5 rfl).1
end Go.Am
namespace Go.Am
open Go.Proofs.Tryz
open Go.Proofs Go.Sort Go.Shelf Go.RowKit Go.Lib
def x9z (L:List R7):Int:=z9n L
def y2z (L:List R7):Bool:=z3l L
def fMsu :List AVal→Option (AVal×Bool)
 | [a0]=>match asL R7 a0 with
  | some (L0,g0,n0)=>some (.tup [.undef,.int .i64 (x9z L0)],isT R7 n0 g0&&(y2z L0))
  | _=>none
 | _=>none
theorem u5v {S:Specs} (hS:Zu prog S):Zu prog (S.with y8z fMsu):=by
 refine w4x hS (by kernel_rfl) fun args v h=> ?_;unfold fMsu at h;split at h
 ·rename_i a0;split at h
  ·rename_i L0 g0 n0 e0;simp only [Option.some.injEq,Prod.mk.injEq,Bool.and_eq_true] at h;obtain ⟨rfl,ho0,hw⟩:=h;obtain ⟨N,hN⟩:=w8i L0 hw;exact ⟨_,_,(.cons (asL_le e0 ho0) .nil),fun ρ u hu=>z2w (.cons (.undef _) (.cons (.refl _) .nil)) ρ u (z1r _ _ ρ u hu),x9y L0 N _ hN,3,z5e _ _⟩
  ·cases h
 ·cases h
theorem v5k (M:List R7) (n a b:Nat):isT R7 n (fun k=>(Xa (fun k=>(Xa (fun k=>(([]:List AVal).drop (k*7)).take 7) 0 (fun k=>(Zz M) (0+k))) (0+k)) a (fun k=>(Zz M) (b+k))) (0+k))=true:=pd_true fun i _=>by
 have c: ∀j,Zz M j=Yh.cells (Yh.of (Zz M j):R7):=fun j=>by show Yh.cells (rd M j)=Yh.cells (Yh.of (Yh.cells (rd M j)));rw [Yh.back]
 show Xa _ _ _ (0+i)=Yh.cells (Yh.of (Xa _ _ _ (0+i)));unfold Xa;cases Nat.ble a (0+i) with
 | true=>exact c _
 | false=>exact c _
def Mq :Specs:=Ml.with y8z fMsu
theorem y4y :Zu prog Mq:=u5v Ml_ok
end Go.Am
namespace Go.Am
open Go.Proofs.Tryz
open Go.Proofs
inductive morS where
 | h0 (v8:Int)
def morC (l0:List R6) (x1:Int):morS→Cfg
 | .h0 v8=>⟨⟨121,0,true⟩,none,(Zd prog 9 [1,1,1,1,1,0,1,0,0] 0),none,(Zy prog 5),⟨Yc [(1,(ii x1)),(5,(.bool true)),(6,(.dat (Zp (cvT l0)).length (Zz (Zp (cvT l0))))),(8,(ii v8))],Un [] 0,0,[],true⟩,[],.leaf⟩
def u4b :List (Option (List Nat)):=[some [1,5,6,8]]
def u4c :List (Option (List Nat)):=[]
def z1y (l0:List R6) (x1:Int):morS→Xo morS
 | .h0 v8=>(bif (decide (v8<(((Zp (cvT l0)).length :Nat):Int))) then (bif ((decide (0≤v8∧v8<(((Zp (cvT l0)).length :Nat):Int)))&&true) then (bif (decide ((rd (Zp (cvT l0)) v8.toNat).a >5)) then (.ret [(.bool false)]) else (bif ((decide (0≤(IntKind.wrap .i64 (v8 - 1))∧(IntKind.wrap .i64 (v8 - 1))<(((Zp (cvT l0)).length :Nat):Int)))&&true) then (bif (decide ((rd (Zp (cvT l0)) (Int.toNat (IntKind.wrap .i64 (v8 - 1)))).a >(rd (Zp (cvT l0)) v8.toNat).a)) then (.ret [(.bool false)]) else (bif ((rd (Zp (cvT l0)) (Int.toNat (IntKind.wrap .i64 (v8 - 1)))).a == (rd (Zp (cvT l0)) v8.toNat).a) then (bif (decide ((u0u (rd (Zp (cvT l0)) (Int.toNat (IntKind.wrap .i64 (v8 - 1)))).b (rd (Zp (cvT l0)) (Int.toNat (IntKind.wrap .i64 (v8 - 1)))).c (rd (Zp (cvT l0)) (Int.toNat (IntKind.wrap .i64 (v8 - 1)))).d (IntKind.wrap .i64 (Int.tdiv (IntKind.wrap .i64 (rd (Zp (cvT l0)) v8.toNat).a) 2)))>(u0u (rd (Zp (cvT l0)) v8.toNat).b (rd (Zp (cvT l0)) v8.toNat).c (rd (Zp (cvT l0)) v8.toNat).d (IntKind.wrap .i64 (Int.tdiv (IntKind.wrap .i64 (rd (Zp (cvT l0)) v8.toNat).a) 2))))) then (.ret [(.bool false)]) else (.to (.h0 (IntKind.wrap .i64 (v8+1))))) else (.to (.h0 (IntKind.wrap .i64 (v8+1)))))) else .stuck)) else .stuck) else (bif (decide (x1<0)) then (.ret [(.bool true)]) else (bif (decide (x1≥(((Zp (cvT l0)).length :Nat):Int))) then (.ret [(.bool true)]) else (bif (decide (0≤x1.toNat)) then (bif (decide (x1.toNat≤(Zp (cvT l0)).length)) then (bif (decide (0≤x1)) then (bif (decide ((0+x1.toNat+1)*(56+1)≤Us)) then (bif (decide ((Int.toNat (IntKind.wrap .i64 (x1+1)))≤(Zp (cvT l0)).length)) then (bif (decide ((Zp (cvT l0)).length ≤(Zp (cvT l0)).length)) then (bif (decide (0≤(IntKind.wrap .i64 (x1+1)))) then (bif (decide (((0+x1.toNat)+((Zp (cvT l0)).length - (Int.toNat (IntKind.wrap .i64 (x1+1))))+1)*(56+1)≤Us)) then (bif (Nat.beq 7 7&&(Nat.beq 7 7&&decide (0+(0+x1.toNat)≤(0+x1.toNat)))) then (bif (Nat.beq 7 7&&(decide (0+((0+x1.toNat)+((Zp (cvT l0)).length - (Int.toNat (IntKind.wrap .i64 (x1+1)))))≤((0+x1.toNat)+((Zp (cvT l0)).length - (Int.toNat (IntKind.wrap .i64 (x1+1))))))&&Kd (Xa (fun k=>(Xa (fun k=>(([]:List AVal).drop (k*7)).take 7) 0 (fun k=>(Zz (Zp (cvT l0))) (0+k))) (0+k)) (0+x1.toNat) (fun k=>(Zz (Zp (cvT l0))) ((Int.toNat (IntKind.wrap .i64 (x1+1)))+k))))) then (bif (y2z (lst R7 ((0+x1.toNat)+((Zp (cvT l0)).length - (Int.toNat (IntKind.wrap .i64 (x1+1))))) (fun k=>(Xa (fun k=>(Xa (fun k=>(([]:List AVal).drop (k*7)).take 7) 0 (fun k=>(Zz (Zp (cvT l0))) (0+k))) (0+k)) (0+x1.toNat) (fun k=>(Zz (Zp (cvT l0))) ((Int.toNat (IntKind.wrap .i64 (x1+1)))+k))) (0+k)))) then (.ret [(.bool ((x9z (lst R7 ((0+x1.toNat)+((Zp (cvT l0)).length - (Int.toNat (IntKind.wrap .i64 (x1+1))))) (fun k=>(Xa (fun k=>(Xa (fun k=>(([]:List AVal).drop (k*7)).take 7) 0 (fun k=>(Zz (Zp (cvT l0))) (0+k))) (0+k)) (0+x1.toNat) (fun k=>(Zz (Zp (cvT l0))) ((Int.toNat (IntKind.wrap .i64 (x1+1)))+k))) (0+k)))) == 28))]) else .stuck) else .stuck) else .stuck) else .stuck) else .stuck) else .stuck) else .stuck) else .stuck) else .stuck) else .stuck) else .stuck))))
def y1g (l0:List R6) (x1:Int):Xo morS:=(bif (z3q (cvT l0)) then (bif (!(u5f (cvT l0))) then (.ret [(.bool true)]) else (bif (z3m (cvT l0)) then (bif ((z6w (cvT l0)) != 0) then (.ret [(.bool false)]) else (.to (.h0 1))) else .stuck)) else .stuck)
theorem w2w (l0:List R6) (x1:Int): ∀s,Xk prog (Zy prog 9) (morC l0 x1) (morC l0 x1 s) (z1y l0 x1 s)
 | .h0 v8=>(lb (fun k0=>(lo fun aG=>(lb (fun k1=>(lr 121 9 [1,1,1,1,1,0,1,0,0,1,0,0,1,1,0,0] 1 5 [(4,(.bool false))] (sl y4y 30 [] ⟨[],[],[some [4]],[]⟩ ⟨[],[],[]⟩ (trs 28 []) (tt k1 (ww aG (ww aG (tt k0 nn))))))) (fun k1=>(lo fun bS=>(lb (fun k2=>(lr 121 9 [1,1,1,1,1,0,1,0,0,1,0,0,1,1,0,0] 1 5 [(4,(.bool false))] (sl y4y 30 [] ⟨[],[],[some [4]],[]⟩ ⟨[],[],[]⟩ (bl 28 268427265) (tt k2 (ww aG (ww bS (tt k1 (ww aG (ww aG (tt k0 nn)))))))))) (fun k2=>(lb (fun k3=>(lb (fun k4=>(lr 121 9 [1,1,1,1,1,0,1,0,0,1,0,0,1,1,0,0] 1 5 [(4,(.bool false))] (sl y4y 30 [] ⟨[],[],[some [4]],[]⟩ ⟨[],[],[]⟩ (bl 44 13194072424449) (tt k4 (ww aG (ww bS (tt k3 (ww aG (ww bS (tt k2 (ww aG (ww bS (tt k1 (ww aG (ww aG (tt k0 nn)))))))))))))))) (fun k4=>(sl y4y 34 [] ⟨[],[],u4b,u4c⟩ ⟨[],[],[]⟩ (bl 44 4397979402241) (tt k4 (ww aG (ww bS (tt k3 (ww aG (ww bS (tt k2 (ww aG (ww bS (tt k1 (ww aG (ww aG (tt k0 nn))))))))))))))))) (fun k3=>(sl y4y 34 [] ⟨[],[],u4b,u4c⟩ ⟨[],[],[]⟩ (bl 44 1) (tt k3 (ww aG (ww bS (tt k2 (ww aG (ww bS (tt k1 (ww aG (ww aG (tt k0 nn)))))))))))))))))))) (fun k0=>(lb (fun k1=>(lr 121 9 [1,1,1,1,1,1,0,1,0,0] 1 5 [(4,(.bool true))] (sl y4y 28 [] ⟨[],[],[some [4]],[]⟩ ⟨[],[],[]⟩ (bl 6 62) (tt k1 (tt k0 nn))))) (fun k1=>(lb (fun k2=>(lr 121 9 [1,1,1,1,1,1,0,1,0,0] 1 5 [(4,(.bool true))] (sl y4y 28 [] ⟨[],[],[some [4]],[]⟩ ⟨[],[],[]⟩ (bl 6 32) (tt k2 (tt k1 (tt k0 nn)))))) (fun k2=>(lo fun o0=>(lo fun o1=>(lo fun o2=>(lo fun o3=>(lo fun o4=>(lo fun o5=>(lo fun o6=>(lo fun o7=>(lo fun o8=>(lo fun o9=>(lo fun o10=>(lr 121 3 [1,1,1,1,1,1,1,0] 1 5 [(4,(.bool ((x9z (lst R7 ((0+(tn x1))+((Zp (cvT l0)).length - (tn (wr (x1+1))))) (fun k=>(Xa (fun k=>(Xa (fun k=>(([]:List AVal).drop (k*7)).take 7) 0 (fun k=>(Zz (Zp (cvT l0))) (0+k))) (0+k)) (0+(tn x1)) (fun k=>(Zz (Zp (cvT l0))) ((tn (wr (x1+1)))+k))) (0+k)))) == 28)))] (sl y4y 35 [] ⟨[],[],[some [4]],[]⟩ ⟨[],[],[]⟩ (bl 8 192) (pp (pp (pp (xw o9) nn) (pp (xI R7 ((0+(tn x1))+((Zp (cvT l0)).length - (tn (wr (x1+1))))) (fun k=>(Xa (fun k=>(Xa (fun k=>(([]:List AVal).drop (k*7)).take 7) 0 (fun k=>(Zz (Zp (cvT l0))) (0+k))) (0+k)) (0+(tn x1)) (fun k=>(Zz (Zp (cvT l0))) ((tn (wr (x1+1)))+k))) (0+k)) (v5k _ _ _ _)) (xw o10))) (pp (pp (xw o8) (pp (xG (y5l 7 ((Zp (cvT l0)).length - (tn (wr (x1+1)))) (fun k=>(Zz (Zp (cvT l0))) ((tn (wr (x1+1)))+k)))) (xw o7))) (pp (pp nn (pp (xw o6) (pp (xG (decide ((Zp (cvT l0)).length ≤(Zp (cvT l0)).length))) (pp (xG (decide ((tn (wr (x1+1)))≤(Zp (cvT l0)).length))) (xG (lenR (Zp (cvT l0)).length (Zz (Zp (cvT l0))) 7)))))) (pp (pp nn (pp (xG (y5l 7 (tn x1) (fun k=>(Zz (Zp (cvT l0))) (0+k)))) (xw o3))) (pp (pp (xw o2) (pp nn (pp (xG (decide ((tn x1)≤(Zp (cvT l0)).length))) (pp (xG (decide (0≤(tn x1)))) (xG (lenR (Zp (cvT l0)).length (Zz (Zp (cvT l0))) 7)))))) (tt k2 (tt k1 (tt k0 nn)))))))))))))))))))))))))))
theorem x5u (l0:List R6) (x1:Int):Xk prog (Zy prog 9) (morC l0 x1) (Ze prog 9 [(.dat l0.length (Zz l0)),(.int .i64 x1)] true []) (y1g l0 x1):=(lo fun bW=>(lb (fun k0=>(lr 121 9 [1,1,0,1,0,0] 1 5 [(4,(.bool true))] (sl y4y 26 [] ⟨[],[],[some [4]],[]⟩ ⟨[],[],[]⟩ (trs 3 []) (tt k0 (pp (pp (xr l0) (xw bW)) nn))))) (fun k0=>(lo fun aG=>(lb (fun k1=>(lr 121 9 [1,1,1,1,0,1,0,0] 1 5 [(4,(.bool false))] (sl y4y 43 [] ⟨[],[],[some [4]],[]⟩ ⟨[],[],[]⟩ [false,false,false,true] (tt k1 (pp (pp (xr l0) (xw aG)) (tt k0 (pp (pp (xr l0) (xw bW)) nn))))))) (fun k1=>(sl y4y 47 [] ⟨[],[],u4b,u4c⟩ ⟨[],[],[]⟩ [false,false,false,false] (tt k1 (pp (pp (xr l0) (xw aG)) (tt k0 (pp (pp (xr l0) (xw bW)) nn)))))))))))
theorem mor_ends (l0:List R6) (x1:Int) (n:Nat) (vs:List AVal) (h:Yk (z1y l0 x1) n (y1g l0 x1)=.ret vs):Kv prog (Zy prog 9) (Ze prog 9 [(.dat l0.length (Zz l0)),(.int .i64 x1)] true []) vs:=by have:=Zr (w2w l0 x1) n _ (x5u l0 x1);rwa [h] at this
end Go.Am
namespace Go.Am
open Go.Proofs Go.Sort Go.Shelf Go.RowKit Go.Lib
theorem v5b (M:List R7) (a:Nat) (ha:a<M.length):
  lst R7 ((0+a)+(M.length - (a+1))) (fun k=>(Xa (fun k=>(Xa (fun k=>(([]:List AVal).drop (k*7)).take 7) 0 (fun k=>(Zz M) (0+k))) (0+k)) (0+a) (fun k=>(Zz M) ((a+1)+k))) (0+k))=M.take a++M.drop (a+1):=by
 refine List.ext_getElem (by rw [z0z,List.length_append,List.length_take,List.length_drop];omega) fun i h1 h2=> ?_;rw [z0z] at h1;have e: ∀j,j<M.length→Yh.of (Zz M j)=(M[j]?).getD Yh.d:=fun j hj=>by have:Zz M j=Yh.cells (rd M j):=rfl;rw [this,Yh.back,Xv hj,List.getElem?_eq_getElem hj];rfl
 simp only [lst,List.getElem_map,List.getElem_range,Xa,Nat.zero_add];by_cases g:i<a
 ·rw [show Nat.ble a i=false from Bool.eq_false_iff.2 fun k=>by have:=Nat.le_of_ble_eq_true k;omega,cond_false,show Nat.ble 0 i=true from rfl,cond_true,Nat.sub_zero,e i (by omega),List.getElem_append_left (by rw [List.length_take];omega),List.getElem_take,List.getElem?_eq_getElem (by omega)];rfl
 ·rw [show Nat.ble a i=true from Nat.ble_eq_true_of_le (by omega),cond_true,e _ (by omega),List.getElem_append_right (by rw [List.length_take];omega),List.getElem_drop,List.getElem?_eq_getElem (by omega)];show M[a+1+(i - a)]=_
  congr 1
  rw [List.length_take];omega
section
variable {L:List R6} (h:Wc L=0) (hl:L.length≤20)
include h hl
theorem mor_at (x1:Int) (hx:0≤x1∧x1<((Zp L).length :Int)):x9z (lst R7 ((0+x1.toNat)+((Zp L).length - (Int.toNat (IntKind.wrap .i64 (x1+1))))) (fun k=>(Xa (fun k=>(Xa (fun k=>(([]:List AVal).drop (k*7)).take 7) 0 (fun k=>(Zz (Zp L)) (0+k))) (0+k)) (0+x1.toNat) (fun k=>(Zz (Zp L)) ((Int.toNat (IntKind.wrap .i64 (x1+1)))+k))) (0+k)))=28∧
  y2z (lst R7 ((0+x1.toNat)+((Zp L).length - (Int.toNat (IntKind.wrap .i64 (x1+1))))) (fun k=>(Xa (fun k=>(Xa (fun k=>(([]:List AVal).drop (k*7)).take 7) 0 (fun k=>(Zz (Zp L)) (0+k))) (0+k)) (0+x1.toNat) (fun k=>(Zz (Zp L)) ((Int.toNat (IntKind.wrap .i64 (x1+1)))+k))) (0+k)))=true:=by
 obtain ⟨_,hv,_,hL⟩:=Xr h;have hn:=(Qb hv hl hL).2;have em:=(y2w h hl).2;have ew:Int.toNat (IntKind.wrap .i64 (x1+1))=x1.toNat+1:=by rw [em] at hx;rw [Zq (by omega)];omega
 have ha:x1.toNat<(Zp L).length :=by omega
 rw [ew,v5b (Zp L) x1.toNat ha];refine w8w h hl _ _ (Zp L)[x1.toNat] ?_;rw [←em];rw [List.getElem_cons_drop,List.take_append_drop]
theorem v9y (x1:Int): ∀(k i:Nat),1≤i→i+k=(Zp L).length ∨(k=0∧(Zp L).length ≤i)→ ∃N,Yk (z1y L x1) N (.to (.h0 (i:Int)))=.ret [.bool true]
 | 0,i,hi,hk=>by
  obtain ⟨_,hv,_,hL⟩:=Xr h;have hn:=(Qb hv hl hL).2;have em:=(y2w h hl).2;refine ⟨1,?_⟩;rw [Zv];have hlt:decide ((i:Int)<(((Zp L).length :Nat):Int))=false:=decide_eq_false (by omega);by_cases g0:x1<0
  ·simp only [z1y,Zb,hlt,decide_eq_true g0,cond_true,cond_false];rfl
  ·by_cases g1:x1≥(((Zp L).length :Nat):Int)
   ·simp only [z1y,Zb,hlt,decide_eq_false g0,decide_eq_true g1,cond_true,cond_false];rfl
   ·obtain ⟨a1,a2⟩:=mor_at h hl x1 ⟨by omega,by omega⟩;rw [em] at g1;have fl:Kd (Xa (fun k=>(Xa (fun k=>(([]:List AVal).drop (k*7)).take 7) 0 (fun k=>(Zz (Zp L)) (0+k))) (0+k)) (0+x1.toNat) (fun k=>(Zz (Zp L)) ((Int.toNat (IntKind.wrap .i64 (x1+1)))+k)))=true:=
     y3u (Qd (y3u (y7k 7 7 rfl) (Qd (Ys _)))) (Qd (Ys _))
    have w:IntKind.wrap .i64 (x1+1)=x1+1:=Zq (by omega);rw [←em] at g1;have d1:decide (x1.toNat≤(Zp L).length)=true:=decide_eq_true (by omega);have d2:decide (0≤x1)=true:=decide_eq_true (by omega);have d3:decide ((0+x1.toNat+1)*(56+1)≤Us)=true:=Zh (by rw [em] at g1;omega);have d4:decide ((Int.toNat (IntKind.wrap .i64 (x1+1)))≤(Zp L).length)=true:=by rw [w];exact decide_eq_true (by omega)
    have d5:decide (0≤(IntKind.wrap .i64 (x1+1)))=true:=by rw [w];exact decide_eq_true (by omega)
    have d6:decide (((0+x1.toNat)+((Zp L).length - (Int.toNat (IntKind.wrap .i64 (x1+1))))+1)*(56+1)≤Us)=true:=Zh (by rw [em] at g1 ⊢;omega);have d7:decide (0+(0+x1.toNat)≤(0+x1.toNat))=true:=decide_eq_true (by omega);have d8:decide (0+((0+x1.toNat)+((Zp L).length - (Int.toNat (IntKind.wrap .i64 (x1+1)))))≤((0+x1.toNat)+((Zp L).length - (Int.toNat (IntKind.wrap .i64 (x1+1))))))=true:=decide_eq_true (by omega);simp only [z1y,Zb,hlt,decide_eq_false g0,decide_eq_false g1,d1,d2,d3,d4,d5,d6,d7,d8,fl,a2,show Nat.beq 7 7=true from rfl,show decide (0≤Int.toNat x1)=true from decide_eq_true (Nat.zero_le _),show decide ((Zp L).length ≤(Zp L).length)=true from decide_eq_true (Nat.le_refl _),Bool.and_true,Bool.true_and,cond_true,cond_false];rw [a1];rfl
 | k +1,i,hi,hk=>by
  obtain ⟨_,hv,_,hL⟩:=Xr h;have hn:=(Qb hv hl hL).2;have em:=(y2w h hl).2;have cW:(Zp L).length ≤2400:=by rw [em];exact hn
  have hil:i<(Zp L).length :=by omega
  obtain ⟨N,hN⟩:=v9y x1 k (i+1) (by omega) (.inl (by omega));have hm: ∀j,j<(Zp L).length →rd (Zp L) j∈Kc L:=fun j hj=>by rw [←em,Xv hj];exact List.getElem_mem hj
  obtain ⟨q,s,p,t,_,_,e⟩:=y1i h hl (hm i hil);have h5:(rd (Zp L) i).a ≤5:=v6z ((y9g (z4h h hl).1).2 _ (hm i hil));have ord:ordQ (rd (Zp L) (i - 1)) (rd (Zp L) i):=by have:=List.pairwise_iff_getElem.1 (v4o L) (i - 1) i (by rw [←em];omega) (by rw [←em];omega) (by omega);rw [Xv hil,Xv (show i - 1<(Zp L).length by omega)];simp only [em];exact this
  have hw:IntKind.wrap .i64 ((i:Int)+1)=((i+1:Nat):Int):=by rw [Zq (by omega)];exact Zx i
  have hp:IntKind.wrap .i64 ((i:Int) - 1)=((i - 1:Nat):Int):=by rw [Zq (by omega)];omega
  have t1:decide ((i:Int)<(((Zp L).length :Nat):Int))=true:=decide_eq_true (by omega);have t2:decide (0≤(i:Int)∧(i:Int)<(((Zp L).length :Nat):Int))=true:=decide_eq_true (by omega);have t3:decide (0≤((i - 1:Nat):Int)∧((i - 1:Nat):Int)<(((Zp L).length :Nat):Int))=true:=decide_eq_true (by omega);have t4:decide ((rd (Zp L) i).a >5)=false:=decide_eq_false (by omega);have t5:decide ((rd (Zp L) (i - 1)).a >(rd (Zp L) i).a)=false:=decide_eq_false (by rcases ord with k | k <;> omega);refine ⟨N+1,?_⟩;rw [Zv];cases g:((rd (Zp L) (i - 1)).a == (rd (Zp L) i).a) with
  | false=>simp only [z1y,Zb,hw,hp,t1,t2,t3,t4,t5,g,Zj,Bool.and_true,cond_true,cond_false];exact hN
  | true=>
   have ea:=eq_of_beq g;have t6:decide ((u0u (rd (Zp L) (i - 1)).b (rd (Zp L) (i - 1)).c (rd (Zp L) (i - 1)).d (IntKind.wrap .i64 (Int.tdiv (IntKind.wrap .i64 (rd (Zp L) i).a) 2)))>(u0u (rd (Zp L) i).b (rd (Zp L) i).c (rd (Zp L) i).d (IntKind.wrap .i64 (Int.tdiv (IntKind.wrap .i64 (rd (Zp L) i).a) 2))))=false:=decide_eq_false (by
    have k:keyQ (rd (Zp L) (i - 1))≤keyQ (rd (Zp L) i):=by
     rcases ord with k | k
     ·omega
     ·exact k.2
    unfold keyQ at k;rw [ea] at k;omega)
   simp only [z1y,Zb,hw,hp,t1,t2,t3,t4,t5,t6,g,Zj,Bool.and_true,cond_true,cond_false];exact hN
end
theorem mor_run (L:List R6) (x1:Int): ∃N,Yk (z1y L x1) N (y1g L x1)=.ret [.bool true]:=by
 unfold y1g;rcases Yn (u5f L) with q | q
 ·obtain ⟨hl,h⟩:=u5d q;obtain ⟨N,hN⟩:=v9y h hl x1 ((Zp L).length - 1) 1 (Nat.le_refl _) (by omega);refine ⟨N,?_⟩;simp only [Zb,show z3q L=true from rfl,show z3m L=true from rfl,q,(y2w h hl).1,cond_true];exact hN
 ·refine ⟨0,?_⟩;simp only [Zb,show z3q L=true from rfl,q];rfl
end Go.Am
end
