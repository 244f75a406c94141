/- A part. -/
import Derived.Test.YtpddoeiakpbkbaaGreatLo5
set_option maxRecDepth 99999
set_option maxHeartbeats 0
set_option linter.unusedVariables false
set_option linter.unusedSimpArgs false
noncomputable section
namespace Go.Am
open IntKind (wrap)
open Go.Proofs.Tryz
open Go.Proofs
inductive IK where
 | h0 (v72:Int) (bO:List Pa)
def On (l0:List Pa) (x1:Int) (x2:Int):IK->CB
 | .h0 v72 bO=>⟨⟨91,0,true⟩,none,(Zg prog 10 [1,1,1,1,1,1,1,1,1,0,1,0,0] 0),none,(Zy prog 10),⟨Yj [(1,(ii x1)),(11,(.dat (Qu .e (B3 (Vr (B3 (rd l0 (tn x1)).s) (wr ((1:Int)*2 ^ (min (tn x2) 64))))) (B3 ([(R6.mk (rd l0 (tn x1)).a (rd l0 (tn x1)).b (rd l0 (tn x1)).c (rd l0 (tn x1)).d (rd l0 (tn x1)).e (rd l0 (tn x1)).f)]:List R6))).length (Zz (Qu .e (B3 (Vr (B3 (rd l0 (tn x1)).s) (wr ((1:Int)*2 ^ (min (tn x2) 64))))) (B3 ([(R6.mk (rd l0 (tn x1)).a (rd l0 (tn x1)).b (rd l0 (tn x1)).c (rd l0 (tn x1)).d (rd l0 (tn x1)).e (rd l0 (tn x1)).f)]:List R6)))))),(12,(.sla 0 7 0 l0.length (.un 7))),(70,(.sla 0 7 0 l0.length (.un 7))),(71,(ii (l0.length:Int))),(72,(ii v72))],Vk [⟨Ya bO.length (Zz bO),59,some ⟨7,bO.length,(Zz bO)⟩⟩] 0,1,[],true⟩,[],.leaf⟩
def L6 :List (Option (List Nat)):=[some [1,11,12,70,71,72]]
def L7 :List (Option (List Nat)):=[]
def JX (l0:List Pa) (x1:Int) (x2:Int):IK->Xz IK
 | .h0 v72 bO=>(bif (decide (v72<(l0.length:Int))) then (bif (Z3 (B3 (rd bO (0+v72.toNat)).s)) then (bif ((decide (0<=v72/\v72<(l0.length:Int)))&&true) then (bif (decide ((0+v72.toNat)<bO.length)) then (.to (.h0 (wrap .i64 (v72+1)) (bO.set (0+v72.toNat) (Pa.mk (rd bO (0+v72.toNat)).a (rd bO (0+v72.toNat)).b (rd bO (0+v72.toNat)).c (rd bO (0+v72.toNat)).d (rd bO (0+v72.toNat)).e (rd bO (0+v72.toNat)).f (Hs (B3 (rd bO (0+v72.toNat)).s)))))) else .stuck) else .stuck) else .stuck) else (bif ((decide (0<=x1/\x1<(l0.length:Int)))&&true) then (bif (decide ((0+x1.toNat)<bO.length)) then (.ret [(Cm 7 7 0 l0.length bO.length (Xa (Zz bO) (0+x1.toNat) 6 [(.dat (Qu .e (B3 (Vr (B3 (rd l0 x1.toNat).s) (wrap .i64 ((1:Int)*2 ^ (min x2.toNat 64))))) (B3 ([(R6.mk (rd l0 x1.toNat).a (rd l0 x1.toNat).b (rd l0 x1.toNat).c (rd l0 x1.toNat).d (rd l0 x1.toNat).e (rd l0 x1.toNat).f)]:List R6))).length (Zz (Qu .e (B3 (Vr (B3 (rd l0 x1.toNat).s) (wrap .i64 ((1:Int)*2 ^ (min x2.toNat 64))))) (B3 ([(R6.mk (rd l0 x1.toNat).a (rd l0 x1.toNat).b (rd l0 x1.toNat).c (rd l0 x1.toNat).d (rd l0 x1.toNat).e (rd l0 x1.toNat).f)]:List R6)))))])),(.int .i64 0)]) else .stuck) else .stuck))
def ZH (l0:List Pa) (x1:Int) (x2:Int):Xz IK:=(bif (SU (B3 l0)) then (bif ((Hr (B3 l0)) != 0) then (.ret [.nils,(.int .i64 (Hr (B3 l0)))]) else (bif (decide (x1<0)) then (.ret [.nils,(.int .i64 2)]) else (bif (decide (x1>=(l0.length:Int))) then (.ret [.nils,(.int .i64 2)]) else (bif (decide (x2<0)) then (.ret [.nils,(.int .i64 2)]) else (bif (decide (x2>9)) then (.ret [.nils,(.int .i64 2)]) else (bif ((decide (0<=x1/\x1<(l0.length:Int)))&&true) then (bif (!decide (x2<0)) then (bif (y8d (B3 (rd l0 x1.toNat).s) (wrap .i64 ((1:Int)*2 ^ (min x2.toNat 64)))) then (bif ((EV (B3 (rd l0 x1.toNat).s) (wrap .i64 ((1:Int)*2 ^ (min x2.toNat 64)))) != 0) then (.ret [.nils,(.int .i64 (EV (B3 (rd l0 x1.toNat).s) (wrap .i64 ((1:Int)*2 ^ (min x2.toNat 64)))))]) else (bif (SN .e (B3 (Vr (B3 (rd l0 x1.toNat).s) (wrap .i64 ((1:Int)*2 ^ (min x2.toNat 64))))) (B3 ([(R6.mk (rd l0 x1.toNat).a (rd l0 x1.toNat).b (rd l0 x1.toNat).c (rd l0 x1.toNat).d (rd l0 x1.toNat).e (rd l0 x1.toNat).f)]:List R6))) then (bif ((Dn .e (B3 (Vr (B3 (rd l0 x1.toNat).s) (wrap .i64 ((1:Int)*2 ^ (min x2.toNat 64))))) (B3 ([(R6.mk (rd l0 x1.toNat).a (rd l0 x1.toNat).b (rd l0 x1.toNat).c (rd l0 x1.toNat).d (rd l0 x1.toNat).e (rd l0 x1.toNat).f)]:List R6))) != 0) then (.ret [.nils,(.int .i64 (Dn .e (B3 (Vr (B3 (rd l0 x1.toNat).s) (wrap .i64 ((1:Int)*2 ^ (min x2.toNat 64))))) (B3 ([(R6.mk (rd l0 x1.toNat).a (rd l0 x1.toNat).b (rd l0 x1.toNat).c (rd l0 x1.toNat).d (rd l0 x1.toNat).e (rd l0 x1.toNat).f)]:List R6))))]) else (bif ((decide (0<=(l0.length:Int)))&&(decide ((l0.length:Int)<=(l0.length:Int)))&&(decide ((l0.length:Int)*72<=1099511627776))&&(decide ((l0.length:Int)<=1099511627776))) then (bif (decide (0+l0.length<=l0.length)) then (.to (.h0 0 l0)) else .stuck) else .stuck)) else .stuck)) else .stuck) else .stuck) else .stuck)))))) else .stuck)
theorem v1f (l0:List Pa) (x1:Int) (x2:Int): ∀s,Xw prog (Zy prog 10) (On l0 x1 x2) (On l0 x1 x2 s) (JX l0 x1 x2 s)
 | .h0 v72 bO=>(lb (fun k0=>(lo fun o0=>(lo fun o1=>(lo fun o2=>let g:=rd bO (0+(tn v72));let j:=bO.set (0+(tn v72)) (Pa.mk g.a g.b g.c g.d g.e g.f (Hs (B3 g.s)));(sl GT 34 [] ⟨[0],[],L6,L7⟩ ⟨[],[.rowed 7 j.length (Zz j)],[]⟩ [true] (pp (xL bO.length (bO.set (0+(tn v72)) (Pa.mk (rd bO (0+(tn v72))).a (rd bO (0+(tn v72))).b (rd bO (0+(tn v72))).c (rd bO (0+(tn v72))).d (rd bO (0+(tn v72))).e (rd bO (0+(tn v72))).f (Hs (B3 (rd bO (0+(tn v72))).s)))).length) (pp (xS bO.length (Xa (Zz bO) (0+(tn v72)) 6 [(.dat (Hs (B3 (rd bO (0+(tn v72))).s)).length (Zz (Hs (B3 (rd bO (0+(tn v72))).s))))]) (Zz (bO.set (0+(tn v72)) (Pa.mk (rd bO (0+(tn v72))).a (rd bO (0+(tn v72))).b (rd bO (0+(tn v72))).c (rd bO (0+(tn v72))).d (rd bO (0+(tn v72))).e (rd bO (0+(tn v72))).f (Hs (B3 (rd bO (0+(tn v72))).s)))))) (pp (pp (xF (Xa (Zz bO) (0+(tn v72)) 6 [(.dat (Hs (B3 (rd bO (0+(tn v72))).s)).length (Zz (Hs (B3 (rd bO (0+(tn v72))).s))))])) nn) (ww o2 (ww o1 (pp (pp (xI R6 (rd bO (0+(tn v72))).s.length (Zz (rd bO (0+(tn v72))).s)) (xw o0)) (ww o2 (ww o1 (tt k0 nn)))))))))))))) (fun k0=>(lo fun o0=>(lo fun o1=>let i:=rd l0 (tn x1);let h:=Qu .e (B3 (Vr (B3 i.s) (wr ((1:Int)*2 ^ (min (tn x2) 64))))) (B3 ([(R6.mk i.a i.b i.c i.d i.e i.f)]:List R6));(lr 91 3 [1,1,1,1,0] 1 10 [(6,(Cm 7 7 0 l0.length bO.length (Xa (Zz bO) (0+(tn x1)) 6 [(.dat h.length (Zz h))]))),(7,(ii 0))] (sl GT 22 [] ⟨[],[0],[some [6,7]],[]⟩ a6 [false] (pp (pp (xF (Xa (Zz bO) (0+(tn x1)) 6 [(.dat (Qu .e (B3 (Vr (B3 (rd l0 (tn x1)).s) (wr ((1:Int)*2 ^ (min (tn x2) 64))))) (B3 ([(R6.mk (rd l0 (tn x1)).a (rd l0 (tn x1)).b (rd l0 (tn x1)).c (rd l0 (tn x1)).d (rd l0 (tn x1)).e (rd l0 (tn x1)).f)]:List R6))).length (Zz (Qu .e (B3 (Vr (B3 (rd l0 (tn x1)).s) (wr ((1:Int)*2 ^ (min (tn x2) 64))))) (B3 ([(R6.mk (rd l0 (tn x1)).a (rd l0 (tn x1)).b (rd l0 (tn x1)).c (rd l0 (tn x1)).d (rd l0 (tn x1)).e (rd l0 (tn x1)).f)]:List R6)))))])) nn) (ww o1 (ww o0 (tt k0 nn))))))))))
theorem w1a (l0:List Pa) (x1:Int) (x2:Int):Xw prog (Zy prog 10) (On l0 x1 x2) (Zm prog 10 [(.dat l0.length (Zz l0)),(.int .i64 x1),(.int .i64 x2)] true []) (ZH l0 x1 x2):=(lo fun bN=>let o:=pp (pp (xr l0) (xw bN)) nn;(lb (fun k0=>(lr 91 10 [1,0,1,1,0,0] 1 10 [(6,.nils),(7,(ii (Hr (B3 l0))))] (sl GT 24 [] (a8 [6,7]) a6 [true] (tt k0 o)))) (fun k0=>let h:=tt k0 o;(lb (fun k1=>(lr 91 10 [1,1,0,1,0,0] 1 10 [(6,.nils),(7,(ii 2))] (sl GT 45 [] (a8 [6,7]) a6 (bl 10 1022) (tt k1 h)))) (fun k1=>(lb (fun k2=>(lr 91 10 [1,1,0,1,0,0] 1 10 [(6,.nils),(7,(ii 2))] (sl GT 45 [] (a8 [6,7]) a6 (bl 10 992) (tt k2 (tt k1 h))))) (fun k2=>let m:=tt k2 (tt k1 h);(lb (fun k3=>(lr 91 10 [1,1,0,1,0,0] 1 10 [(6,.nils),(7,(ii 2))] (sl GT 45 [] (a8 [6,7]) a6 (bl 10 896) (tt k3 m)))) (fun k3=>(lb (fun k4=>(lr 91 10 [1,1,0,1,0,0] 1 10 [(6,.nils),(7,(ii 2))] (sl GT 45 [] (a8 [6,7]) a6 (bl 10 512) (tt k4 (tt k3 m))))) (fun k4=>(lo fun cJ=>(lo fun dS=>(lo fun dT=>let g:=rd l0 (tn x1);let j:=wr ((1:Int)*2 ^ (min (tn x2) 64));let l:=ww dS (ww cJ (tt k4 (tt k3 m)));(lb (fun k5=>(lr 91 10 [1,1,1,1,0,1,0,0] 1 10 [(6,.nils),(7,(ii (EV (B3 g.s) j)))] (sl GT 56 [] (a8 [6,7]) a6 (bl 11 1024) (tt k5 (pp (pp (xI R6 (rd l0 (tn x1)).s.length (Zz (rd l0 (tn x1)).s)) (xw dT)) l))))) (fun k5=>let i:=R6.mk g.a g.b g.c g.d g.e g.f;let n:=Vr (B3 g.s) j;let p:=Zz ([i]:List R6);(Xh (sl GT (C':=⟨⟨91,0,true⟩,(Vm prog 10 [1,1,1,1,1,0] 7),(Zg prog 10 [1,1,1,1,1,0] 1),none,(Zy prog 10),⟨Yj [(0,(.dat l0.length (Zz l0))),(1,(ii x1)),(51,(.dat n.length (Zz n))),(57,(.dat ([i]:List R6).length p))],Vk [] 0,0,[],true⟩,[],.leaf⟩) 60 [] ⟨[],[0],[some [0,1,51,57]],[]⟩ ⟨[(57,.frz 1 ([i]:List R6).length (Xt [(ii g.a),(ii g.b),(ii g.c),(ii g.d),(ii g.e),(ii g.f)] 0 6) p)],[],[]⟩ (bl 11 0) (pp (xZ (.dat 1 (Xt [(ii (rd l0 (tn x1)).a),(ii (rd l0 (tn x1)).b),(ii (rd l0 (tn x1)).c),(ii (rd l0 (tn x1)).d),(ii (rd l0 (tn x1)).e),(ii (rd l0 (tn x1)).f)] 0 6)) 1 (Xt [(ii (rd l0 (tn x1)).a),(ii (rd l0 (tn x1)).b),(ii (rd l0 (tn x1)).c),(ii (rd l0 (tn x1)).d),(ii (rd l0 (tn x1)).e),(ii (rd l0 (tn x1)).f)] 0 6)) (pp (xL 1 ([(R6.mk (rd l0 (tn x1)).a (rd l0 (tn x1)).b (rd l0 (tn x1)).c (rd l0 (tn x1)).d (rd l0 (tn x1)).e (rd l0 (tn x1)).f)]:List R6).length) (pp (xS 1 (Xt [(ii (rd l0 (tn x1)).a),(ii (rd l0 (tn x1)).b),(ii (rd l0 (tn x1)).c),(ii (rd l0 (tn x1)).d),(ii (rd l0 (tn x1)).e),(ii (rd l0 (tn x1)).f)] 0 6) (Zz ([(R6.mk (rd l0 (tn x1)).a (rd l0 (tn x1)).b (rd l0 (tn x1)).c (rd l0 (tn x1)).d (rd l0 (tn x1)).e (rd l0 (tn x1)).f)]:List R6))) (ww cJ (tt k5 (pp (pp (xI R6 (rd l0 (tn x1)).s.length (Zz (rd l0 (tn x1)).s)) (xw dT)) l))))))) (lo fun dM=>(lb (fun k6=>(lr 91 10 [1,1,1,1,1,1,0,1,0,0] 1 10 [(6,.nils),(7,(ii (Dn .e (B3 n) (B3 ([i]:List R6)))))] (sl GT 20 [] (a8 [6,7]) a6 [true] (tt k6 (pp (pp (xI R6 (Vr (B3 (rd l0 (tn x1)).s) (wr ((1:Int)*2 ^ (min (tn x2) 64)))).length (Zz (Vr (B3 (rd l0 (tn x1)).s) (wr ((1:Int)*2 ^ (min (tn x2) 64)))))) (pp (xI R6 ([(R6.mk (rd l0 (tn x1)).a (rd l0 (tn x1)).b (rd l0 (tn x1)).c (rd l0 (tn x1)).d (rd l0 (tn x1)).e (rd l0 (tn x1)).f)]:List R6).length (Zz ([(R6.mk (rd l0 (tn x1)).a (rd l0 (tn x1)).b (rd l0 (tn x1)).c (rd l0 (tn x1)).d (rd l0 (tn x1)).e (rd l0 (tn x1)).f)]:List R6))) (xw dM))) nn))))) (fun k6=>(lo fun o0=>(lo fun o1=>let q:=xG (Nat.beq 7 7);(sl GT 37 [] ⟨[0],[],L6,L7⟩ ⟨[],[.rowed 7 l0.length (Zz l0)],[]⟩ (bl 2 0) (pp (xL l0.length l0.length) (pp (xS l0.length (Uq (fun _=>[(ii 0),(ii 0),(ii 0),(ii 0),(ii 0),(ii 0),.nils]) 0 (Nat.min l0.length l0.length) (Zz l0)) (Zz l0)) (pp (pp (xF (Uq (fun _=>[(ii 0),(ii 0),(ii 0),(ii 0),(ii 0),(ii 0),.nils]) 0 (Nat.min l0.length l0.length) (Zz l0))) nn) (pp (pp q (pp q (pp (xw o1) (xG (G8 7 l0.length (Zz l0)))))) (ww o0 (tt k6 (pp (pp (xI R6 (Vr (B3 (rd l0 (tn x1)).s) (wr ((1:Int)*2 ^ (min (tn x2) 64)))).length (Zz (Vr (B3 (rd l0 (tn x1)).s) (wr ((1:Int)*2 ^ (min (tn x2) 64)))))) (pp (xI R6 ([(R6.mk (rd l0 (tn x1)).a (rd l0 (tn x1)).b (rd l0 (tn x1)).c (rd l0 (tn x1)).d (rd l0 (tn x1)).e (rd l0 (tn x1)).f)]:List R6).length (Zz ([(R6.mk (rd l0 (tn x1)).a (rd l0 (tn x1)).b (rd l0 (tn x1)).c (rd l0 (tn x1)).d (rd l0 (tn x1)).e (rd l0 (tn x1)).f)]:List R6))) (xw dM))) nn))))))))))))))))))))))))))))))
theorem u5l (l0:List Pa) (x1:Int) (x2:Int) (n:Nat) (vs:List B2) (h:Zo (JX l0 x1 x2) n (ZH l0 x1 x2)=.ret vs):Uj prog (Zy prog 10) (Zm prog 10 [(.dat l0.length (Zz l0)),(.int .i64 x1),(.int .i64 x2)] true []) vs:=by have:=Zb (v1f l0 x1 x2) n _ (w1a l0 x1 x2);rwa [h] at this
open Go.Sort Go.Shelf Go.RowKit Go.Lib
def Mk (k:Int):Int:=wrap .i64 ((1:Int)*2 ^ (min k.toNat 64))
def Fx (l:List Pa) (i k:Int):List R6:=Vr (rd l i.toNat).s (Mk k)
def Er (l:List Pa) (i k:Int):List R6:=Qu .e (Fx l i k) [CH (rd l i.toNat)]
def Ka (l:List Pa) (i k:Int):Int:=bif Qe l != 0 then Qe l else bif decide (i<0)||(decide (i>=(l.length:Int))||(decide (k<0)||decide (k>9))) then 2 else bif EV (rd l i.toNat).s (Mk k) != 0 then EV (rd l i.toNat).s (Mk k) else Dn .e (Fx l i k) [CH (rd l i.toNat)]
def HT (x:Pa) (s:List R6):Pa:=⟨x.a,x.b,x.c,x.d,x.e,x.f,s⟩
def Eg (l:List Pa) (i k:Int):List Pa:=bif Ka l i k != 0 then [] else l.set i.toNat (HT (rd l i.toNat) (Er l i k))
def XI (l:List Pa) (i k:Int):Bool:=Kl l
theorem Ok (l:List Pa) (i:Nat):l.set i (Pa.mk (rd l i).a (rd l i).b (rd l i).c (rd l i).d (rd l i).e (rd l i).f (Hs (rd l i).s))=l:=by
 by_cases h:i<l.length
 .rw [Yo h];exact List.set_getElem_self h
 .exact List.set_eq_of_length_le (by omega)
def WP (l:List Pa) (i k:Int):List B2:=[Cm 7 7 0 l.length l.length (Xa (Zz l) (0+i.toNat) 6 [.dat (Er l i k).length (Zz (Er l i k))]),.int .i64 0]
theorem RY {l:List Pa} {i k:Int} (h0:Ka l i k=0) (ρ:B6) (u:Value) (hu:VRel ρ (Ut (WP l i k)) u):VRel ρ (.tup [.dat (Eg l i k).length (Zz (Eg l i k)),.int .i64 (Ka l i k)]) u:=by
 unfold WP at hu;rw [w4l] at hu;unfold Eg;rw [h0];show VRel ρ (.tup [.dat (l.set i.toNat (HT (rd l i.toNat) (Er l i k))).length (Zz (l.set i.toNat (HT (rd l i.toNat) (Er l i k)))),.int .i64 0]) u;rw [BF];have q:Ki l.length (Xa (Zz l) i.toNat 6 [.dat (Er l i k).length (Zz (Er l i k))]) (Zz (l.set i.toNat (HT (rd l i.toNat) (Er l i k))))=true:=by refine x4f (ZD _ _) rfl rfl
 rw [Af] at hu;exact GW (.cons (.dat _ _ _ (Je q)) (DL.refl _)) ρ u hu
theorem j2r {l:List Pa} {x1 x2:Int} (hs:smP l=true) (h1:0<=x1/\x1<(l.length:Int)): ∀(k i:Nat),i+k=l.length-> ∃n,Zo (JX l x1 x2) n (.to (.h0 (i:Int) l))=.ret (WP l x1 x2)
 | 0,i,h=>by refine ⟨1,?_⟩;rw [Zx];simp (disch:=omega) only [JX,Zd,Yh,Yz,Ah,Ab,Aa];rw [Al (show 0+x1.toNat<l.length by omega),Ab,Zp];rfl
 | k+1,i,h=>by
  have hi:i<l.length:=by omega
  have hl:=NY hs;have hc:Z3 (rd l i).s =true:=Al (by have:=v6s hs hi;unfold CF;omega);obtain ⟨n,hn⟩:=j2r (x1:=x1) (x2:=x2) hs h1 k (i+1) (by omega);refine ⟨n+1,?_⟩;rw [Zx];simp (disch:=omega) only [JX,Zd,Zk,Af,hc,Yy,Yz,Zj,Zw,Ah,Ab];rw [Al hi,Ab,Ok];exact hn
theorem j9a (l:List Pa) (x1 x2:Int) (h:XI l x1 x2=true): ∃N vs,Zo (JX l x1 x2) N (ZH l x1 x2)=.ret vs/\(∀(ρ:B6) (u:Value),VRel ρ (Ut vs) u->VRel ρ (.tup [.dat (Eg l x1 x2).length (Zz (Eg l x1 x2)),.int .i64 (Ka l x1 x2)]) u)/\pf 3 (Ut vs)=true:=by
 have hq:Kl l=true:=h;have er: ∀e:Int,e≠0->Ka l x1 x2=e-> ∀(ρ:B6) (u:Value),VRel ρ (.tup [.nils,.int .i64 e]) u->VRel ρ (.tup [.dat (Eg l x1 x2).length (Zz (Eg l x1 x2)),.int .i64 (Ka l x1 x2)]) u:=fun e he h1 ρ u hu=>by unfold Eg;rw [h1,show (e != 0)=true from BN.2 he,Ab];exact GW (.cons (G4 Pa) (DL.refl _)) ρ u hu
 unfold ZH;simp only [Zd,show SU l=true from hq,show Hr l=Qe l from rfl,Ab];rcases Zs (Qe l != 0) with a | a
 .refine ⟨0,[.nils,.int .i64 _],by rw [a];rfl,er _ (BN.1 a) (by unfold Ka;rw [a];rfl),rfl⟩
 have hs:smP l=true:=by
  unfold Kl at hq;by_cases g:50<l.length
  .unfold Qe at a;rw [Al g] at a;cases a
  .rwa [Av g,Bool.false_or] at hq
 have hl:=NY hs;rw [a,Aa];rcases Zs (decide (x1<0)) with b | b
 .refine ⟨0,[.nils,.int .i64 _],by rw [b];rfl,er 2 (by decide) (by unfold Ka;rw [a,b];rfl),rfl⟩
 rw [b,Aa];rcases Zs (decide (x1>=(l.length:Int))) with c | c
 .refine ⟨0,[.nils,.int .i64 _],by rw [c];rfl,er 2 (by decide) (by unfold Ka;rw [a,b,c];rfl),rfl⟩
 rw [c,Aa];rcases Zs (decide (x2<0)) with d | d
 .refine ⟨0,[.nils,.int .i64 _],by rw [d];rfl,er 2 (by decide) (by unfold Ka;rw [a,b,c,d];rfl),rfl⟩
 rw [d,Aa];rcases Zs (decide (x2>9)) with e | e
 .refine ⟨0,[.nils,.int .i64 _],by rw [e];rfl,er 2 (by decide) (by unfold Ka;rw [a,b,c,d,e];rfl),rfl⟩
 rw [e,Aa];have h1:0<=x1/\x1<(l.length:Int):=by have:=Bf b;have:=Bf c;omega
 rw [Al h1];simp only [AB,Ah,Ab,show∀L n,y8d L n=true from fun _ _=>rfl];have ev:Ka l x1 x2=bif EV (rd l x1.toNat).s (Mk x2) != 0 then EV (rd l x1.toNat).s (Mk x2) else Dn .e (Fx l x1 x2) [CH (rd l x1.toNat)]:=by unfold Ka;rw [a,b,c,d,e];rfl
 show∃N vs,Zo (JX l x1 x2) N (bif EV (rd l x1.toNat).s (Mk x2) != 0 then _ else _)=.ret vs/\_;rcases Zs (EV (rd l x1.toNat).s (Mk x2) != 0) with f | f
 .refine ⟨0,[.nils,.int .i64 _],by rw [f];rfl,er _ (BN.1 f) (by rw [ev,f];rfl),rfl⟩
 rw [f,Aa] at ev ⊢;simp only [show∀q a b,SN q a b=true from fun _ _ _=>rfl,Ab];show∃N vs,Zo (JX l x1 x2) N (bif Dn .e (Fx l x1 x2) [CH (rd l x1.toNat)] != 0 then _ else _)=.ret vs/\_;rcases Zs (Dn .e (Fx l x1 x2) [CH (rd l x1.toNat)] != 0) with g | g
 .refine ⟨0,[.nils,.int .i64 _],by rw [g];rfl,er _ (BN.1 g) ev,rfl⟩
 rw [g,Aa];have h0:Ka l x1 x2=0:=by rw [ev];exact Decidable.not_not.1 (bne_eq_false_iff_eq.1 g |> fun z=>not_not_intro z)
 obtain ⟨n,hn⟩:=j2r (l:=l) (x1:=x1) (x2:=x2) hs h1 l.length 0 (Af _);refine ⟨n,WP l x1 x2,?_,RY h0,by unfold WP;rw [w4l];rfl⟩;rw [Al (show (0:Int)<=(l.length:Int) by omega),Al (show (l.length:Int)<=(l.length:Int) by omega),Al (show (l.length:Int)*72<=1099511627776 by omega),Al (show (l.length:Int)<=1099511627776 by omega),Al (show 0+l.length<=l.length by omega)];exact hn
def QM :List B2->Option (B2×Bool)
 | [a0,.int .i64 x1,.int .i64 x2]=>match CS Pa a0 with
  | some (L0,g0,n0)=>some (.tup [.dat (Eg L0 x1 x2).length (Zz (Eg L0 x1 x2)),.int .i64 (Ka L0 x1 x2)],CO Pa n0 g0&&(XI L0 x1 x2))
  | _=>none
 | _=>none
theorem t3b {S:B4} (hS:Zv prog S):Zv prog (S.with w8q QM):=by
 refine Em hS (by kernel_rfl) fun args v h=> ?_;unfold QM at h;split at h
 .rename_i a0 x1 x2;split at h
  .rename_i L0 g0 n0 e0;simp only [Ad,Ac,Ae] at h;obtain ⟨rfl,ho0,hw⟩:=h;obtain ⟨N,vs,hN,hle,hp⟩:=j9a L0 x1 x2 hw;exact ⟨_,vs,(.cons (Yn e0 ho0) (.cons (.refl _) (.cons (.refl _) .nil))),hle,u5l L0 x1 x2 N _ hN,3,hp⟩
  .cases h
 .cases h
theorem Hf {a:Int} (h:(a != 0)=false):a=0:=by simpa using h
def W6 (n t:Int):Prop:= ∃k,t=k*n
theorem YG {x n:Int} (hn:1<=n/\n<=1000) (hx: -2000000<=x/\x<=2000000):W6 n (Up x n)/\Up x n<=x/\x<Up x n+n:=by
 have h1:n*Int.tdiv x n+Int.tmod x n=x:=Int.mul_tdiv_add_tmod x n;have h2:Int.tdiv x n*n=x - Int.tmod x n:=by rw [Int.mul_comm];omega
 have h3: -n<Int.tmod x n/\Int.tmod x n<n/\(0<=x->0<=Int.tmod x n)/\(x<=0->Int.tmod x n<=0):=by
  refine ⟨?_,Int.tmod_lt_of_pos x (by omega),fun h=>Int.tmod_nonneg n h,fun h=> ?_⟩
  .have:=Int.lt_tmod_of_pos x (show 0<n by omega);omega
  .have:=Int.tmod_nonneg n (show 0<= -x by omega);rw [Int.neg_tmod] at this;omega
 have h4: -2000000<=Int.tdiv x n/\Int.tdiv x n<=2000000:=by
  generalize Int.tdiv x n=q at h2;generalize Int.tmod x n=m at h2 h3;rcases Int.lt_trichotomy q 0 with hq | hq | hq
  .have:q*n<=q*1:=Int.mul_le_mul_of_nonpos_left (by omega) (by omega);omega
  .omega
  .have:q*1<=q*n:=Int.mul_le_mul_of_nonneg_left (by omega) (by omega);omega
 have h5:(Int.tdiv x n - 1)*n=x - Int.tmod x n - n:=by rw [Int.sub_mul,Int.one_mul,h2]
 unfold Up;rw [Zj (n:=Int.tdiv x n) (by omega),Zj (n:=Int.tdiv x n*n) (by omega),Zj (n:=Int.tdiv x n - 1) (by omega),Zj (n:=(Int.tdiv x n - 1)*n) (by omega)];by_cases h:Int.tdiv x n*n>x
 .rw [Yt h,Ab];exact ⟨⟨_,rfl⟩,by omega,by omega⟩
 .rw [Wu h,Aa];exact ⟨⟨_,rfl⟩,by omega,by omega⟩
theorem x9y {x n:Int} (hn:1<=n/\n<=1000) (hx: -1900000<=x/\x<=1900000):W6 n (Gh x n)/\x<=Gh x n/\Gh x n<x+n:=by unfold Gh;rw [Zj (n:=0 - x) (by omega)];obtain ⟨⟨k,hk⟩,h1,h2⟩:=YG (x:=0 - x) hn (by omega);rw [Zj (n:=0 - Up (0 - x) n) (by omega)];exact ⟨⟨-k,by rw [Int.neg_mul,<-hk];omega⟩,by omega,by omega⟩
theorem PW {L:List R6} {n:Int} (h:EV L n=0):Zf L=0/\(1<=n/\n<=1000)/\Vr L n=Ew (L.map (oB n))/\E7 (L.map (oB n))=0:=by
 unfold EV at h;rcases Zs (Zf L != 0) with a | a
 .rw [a,Ab] at h;rw [h] at a;cases a
 rw [a,Aa] at h;rcases Zs (decide (n<1)) with b | b
 .rw [b] at h;cases h
 rcases Zs (decide (n>1000)) with c | c
 .rw [b,c] at h;cases h
 rw [b,c,Bool.or_false,Aa] at h;rcases Zs (L.all (MX n)) with d | d
 .rw [d,Ab] at h;have hb:=Bf b;have hc:=Bf c;refine ⟨Hf a,by omega,?_,h⟩;unfold Vr Fr;rw [Hf a,b,c,d];rfl
 .rw [d] at h;cases h
theorem t1c {L:List R6} {n:Int} (h:EV L n=0):Zf (Vr L n)=0/\ ∀x y z,CY L x y z->CY (Vr L n) x y z:=by
 obtain ⟨h1,hn,h2,h3⟩:=PW h;obtain ⟨m1,m2,m3,m4⟩:=w7a h3;obtain ⟨c1,c2⟩:=v6t h3;have hv:=(Xs h1).2.1;rw [h2];refine ⟨SL (by rw [w0q h3];exact m4) (w5u c1 fun x y z k=> ?_) c1,fun x y z hp=>(c2 x y z).2 ?_⟩
 .obtain ⟨r,hr,q1,q2,q3⟩:=(c2 x y z).1 k;have:=Wq (m2 r hr);omega
 .obtain ⟨r,hr,q1,q2,q3⟩:=hp;have v:=Wq (hv r hr);obtain ⟨_,a1,_⟩:=YG (x:=r.a) hn (by omega);obtain ⟨_,b1,_⟩:=YG (x:=r.b) hn (by omega);obtain ⟨_,c1,_⟩:=YG (x:=r.c) hn (by omega);obtain ⟨_,d1,_⟩:=x9y (x:=r.d) hn (by omega);obtain ⟨_,e1,_⟩:=x9y (x:=r.e) hn (by omega);obtain ⟨_,f1,_⟩:=x9y (x:=r.f) hn (by omega);refine ⟨oB n r,List.mem_map_of_mem hr,?_⟩;unfold oB;dsimp only;omega
inductive I1 where
def PH (aI:Int) (aL:Int) (aM:Int) (x1:Int):I1->CB
 :=nofun
def w1u (aI:Int) (aL:Int) (aM:Int) (x1:Int):I1->Xz I1
 :=nofun
def Y1 (aI:Int) (aL:Int) (aM:Int) (x1:Int):Xz I1:=(bif (decide (aI>=x1)) then (bif (decide (aL>=x1)) then (bif (decide (aM>=x1)) then (bif (decide (aI<=1000000)) then (bif (decide (aL<=1000000)) then (.ret [(.bool (decide (aM<=1000000)))]) else (.ret [(.bool false)])) else (.ret [(.bool false)])) else (.ret [(.bool false)])) else (.ret [(.bool false)])) else (.ret [(.bool false)]))
theorem v1z (aI:Int) (aL:Int) (aM:Int) (x1:Int): ∀s,Xw prog (Zy prog 26) (PH aI aL aM x1) (PH aI aL aM x1 s) (w1u aI aL aM x1 s)
 :=nofun
theorem w1v (aI:Int) (aL:Int) (aM:Int) (x1:Int):Xw prog (Zy prog 26) (PH aI aL aM x1) (Zm prog 26 [(.agg [(.int .i64 aI),(.int .i64 aL),(.int .i64 aM)]),(.int .i64 x1)] true []) (Y1 aI aL aM x1):=(lb (fun k0=>(lb (fun k1=>let a:=tt k1 (tt k0 nn);(lb (fun k2=>(lb (fun k3=>let b:=tt k3 (tt k2 a);(lb (fun k4=>(lr 36 3 [1,1,1,1,0] 1 6 [(4,(.bool (decide (aM<=1000000))))] (sl Xv 40 [] (a8 [4]) a6 (CA 17 []) (tt k4 b)))) (fun k4=>(lr 36 3 [1,1,1,1,0] 1 6 [(4,(.bool false))] (sl Xv 40 [] (a8 [4]) a6 (CA 14 (bl 3 0)) (tt k4 b)))))) (fun k3=>(lr 36 3 [1,1,1,1,0] 1 6 [(4,(.bool false))] (sl Xv 40 [] (a8 [4]) a6 (CA 11 (bl 6 0)) (tt k3 (tt k2 a))))))) (fun k2=>(lr 36 3 [1,1,1,1,0] 1 6 [(4,(.bool false))] (sl Xv 40 [] (a8 [4]) a6 (CA 8 (bl 9 0)) (tt k2 a)))))) (fun k1=>(lr 36 3 [1,1,1,1,0] 1 6 [(4,(.bool false))] (sl Xv 40 [] (a8 [4]) a6 (CA 4 (bl 13 0)) (tt k1 (tt k0 nn))))))) (fun k0=>(lr 36 3 [1,1,1,1,0] 1 6 [(4,(.bool false))] (sl Xv 40 [] (a8 [4]) a6 (bl 17 0) (tt k0 nn)))))
theorem u6j (aI:Int) (aL:Int) (aM:Int) (x1:Int) (n:Nat) (vs:List B2) (h:Zo (w1u aI aL aM x1) n (Y1 aI aL aM x1)=.ret vs):Uj prog (Zy prog 26) (Zm prog 26 [(.agg [(.int .i64 aI),(.int .i64 aL),(.int .i64 aM)]),(.int .i64 x1)] true []) vs:=by have:=Zb (v1z aI aL aM x1) n _ (w1v aI aL aM x1);rwa [h] at this
inductive JH where
def RX (aI:Int) (aL:Int) (aM:Int) (x1:Int):JH->CB
 :=nofun
def w5l (aI:Int) (aL:Int) (aM:Int) (x1:Int):JH->Xz JH
 :=nofun
def YE (aI:Int) (aL:Int) (aM:Int) (x1:Int):Xz JH:=(bif (x1 == 0) then (.ret [(.int .i64 aI)]) else (bif (x1 == 1) then (.ret [(.int .i64 aL)]) else (.ret [(.int .i64 aM)])))
theorem v4h (aI:Int) (aL:Int) (aM:Int) (x1:Int): ∀s,Xw prog (Zy prog 64) (RX aI aL aM x1) (RX aI aL aM x1 s) (w5l aI aL aM x1 s)
 :=nofun
theorem w5m (aI:Int) (aL:Int) (aM:Int) (x1:Int):Xw prog (Zy prog 64) (RX aI aL aM x1) (Zm prog 64 [(.agg [(.int .i64 aI),(.int .i64 aL),(.int .i64 aM)]),(.int .i64 x1)] true []) (YE aI aL aM x1):=(lb (fun k0=>(lr 15 64 [1,0,1,0,0] 1 6 [(4,(ii aI))] (sl Xv 18 [] (a8 [4]) a6 [true] (tt k0 nn)))) (fun k0=>(lb (fun k1=>(lr 15 64 [1,1,0,1,0,0] 1 6 [(4,(ii aL))] (sl Xv 26 [] (a8 [4]) a6 (bl 2 2) (tt k1 (tt k0 nn))))) (fun k1=>(lr 15 3 [1,1,1,1,0] 1 6 [(4,(ii aM))] (sl Xv 27 [] (a8 [4]) a6 (bl 2 0) (tt k1 (tt k0 nn))))))))
theorem u9y (aI:Int) (aL:Int) (aM:Int) (x1:Int) (n:Nat) (vs:List B2) (h:Zo (w5l aI aL aM x1) n (YE aI aL aM x1)=.ret vs):Uj prog (Zy prog 64) (Zm prog 64 [(.agg [(.int .i64 aI),(.int .i64 aL),(.int .i64 aM)]),(.int .i64 x1)] true []) vs:=by have:=Zb (v4h aI aL aM x1) n _ (w5m aI aL aM x1);rwa [h] at this
inductive I4 where
 | h0 (v5:Int)
def PJ (l0:List R6) (aP:Int) (aQ:Int) (aR:Int):I4->CB
 | .h0 v5=>⟨⟨18,0,true⟩,none,(Zg prog 29 [1,0,1,0,0] 0),none,(Zy prog 6),⟨Yj [(0,(.dat l0.length (Zz l0))),(3,(.ptr 0 0)),(5,(ii v5))],Vk [⟨[(ii aP),(ii aQ),(ii aR)],50,none⟩] 0,1,[],true⟩,[],.leaf⟩
def OJ :List (Option (List Nat)):=[some [0,3,5]]
def OI :List (Option (List Nat)):=[]
def NS (l0:List R6) (aP:Int) (aQ:Int) (aR:Int):I4->Xz I4
 | .h0 v5=>(bif (decide (v5<(l0.length:Int))) then (bif ((decide (0<=v5/\v5<(l0.length:Int)))&&true) then (bif (decide ((rd l0 v5.toNat).a <=aP)) then (bif (decide (aP<(rd l0 v5.toNat).d)) then (bif (decide ((rd l0 v5.toNat).b <=aQ)) then (bif (decide (aQ<(rd l0 v5.toNat).e)) then (bif (decide ((rd l0 v5.toNat).c <=aR)) then (bif (decide (aR<(rd l0 v5.toNat).f)) then (.ret [(.bool true)]) else (.to (.h0 (wrap .i64 (v5+1))))) else (.to (.h0 (wrap .i64 (v5+1))))) else (.to (.h0 (wrap .i64 (v5+1))))) else (.to (.h0 (wrap .i64 (v5+1))))) else (.to (.h0 (wrap .i64 (v5+1))))) else (.to (.h0 (wrap .i64 (v5+1))))) else .stuck) else (.ret [(.bool false)]))
def x4n (l0:List R6) (aP:Int) (aQ:Int) (aR:Int):Xz I4:=(.to (.h0 0))
theorem v2b (l0:List R6) (aP:Int) (aQ:Int) (aR:Int): ∀s,Xw prog (Zy prog 29) (PJ l0 aP aQ aR) (PJ l0 aP aQ aR s) (NS l0 aP aQ aR s)
 | .h0 v5=>(lb (fun k0=>(lo fun aE=>let b:=ww aE (tt k0 nn);(lb (fun k1=>(lb (fun k2=>let a:=tt k2 (tt k1 b);(lb (fun k3=>(lb (fun k4=>let c:=tt k4 (tt k3 a);(lb (fun k5=>(lb (fun k6=>(lr 18 29 [1,0,1,0,0,1,0,0,1,0,0] 1 6 [(4,(.bool true))] (sl Xv 19 [] (a8 [4]) a6 (CA 32 []) (tt k6 (tt k5 c))))) (fun k6=>(sl Xv 23 [] ⟨[0],[],OJ,OI⟩ a6 (CA 31 [false]) (tt k6 (tt k5 c)))))) (fun k5=>(sl Xv 23 [] ⟨[0],[],OJ,OI⟩ a6 (CA 25 (bl 7 0)) (tt k5 c))))) (fun k4=>(sl Xv 23 [] ⟨[0],[],OJ,OI⟩ a6 (CA 19 (bl 13 0)) (tt k4 (tt k3 a)))))) (fun k3=>(sl Xv 23 [] ⟨[0],[],OJ,OI⟩ a6 (CA 13 (bl 19 0)) (tt k3 a))))) (fun k2=>(sl Xv 23 [] ⟨[0],[],OJ,OI⟩ a6 (CA 7 (bl 25 0)) (tt k2 (tt k1 b)))))) (fun k1=>(sl Xv 23 [] ⟨[0],[],OJ,OI⟩ a6 (bl 32 1) (tt k1 b)))))) (fun k0=>(lr 18 3 [1,1,1,1,0] 1 6 [(4,(.bool false))] (sl Xv 14 [] (a8 [4]) a6 [false] (tt k0 nn)))))
theorem w2a (l0:List R6) (aP:Int) (aQ:Int) (aR:Int):Xw prog (Zy prog 29) (PJ l0 aP aQ aR) (Zm prog 29 [(.dat l0.length (Zz l0)),(.agg [(.int .i64 aP),(.int .i64 aQ),(.int .i64 aR)])] true []) (x4n l0 aP aQ aR):=(sl Xv 12 [] ⟨[0],[],OJ,OI⟩ a6 [] nn)
theorem u6n (l0:List R6) (aP:Int) (aQ:Int) (aR:Int) (n:Nat) (vs:List B2) (h:Zo (NS l0 aP aQ aR) n (x4n l0 aP aQ aR)=.ret vs):Uj prog (Zy prog 29) (Zm prog 29 [(.dat l0.length (Zz l0)),(.agg [(.int .i64 aP),(.int .i64 aQ),(.int .i64 aR)])] true []) vs:=by have:=Zb (v2b l0 aP aQ aR) n _ (w2a l0 aP aQ aR);rwa [h] at this
inductive IT where
 | h0 (v5:Int)
def Oz (l0:List R7) (l1:List R7):IT->CB
 | .h0 v5=>⟨⟨26,0,true⟩,none,(Zg prog 23 [1,1,0,1,0,0] 0),none,(Zy prog 6),⟨Yj [(0,(.dat l0.length (Zz l0))),(1,(.dat l1.length (Zz l1))),(5,(ii v5))],Vk [] 0,0,[],true⟩,[],.leaf⟩
def Ln :List (Option (List Nat)):=[some [0,1,5]]
def Lo :List (Option (List Nat)):=[]
def NV (l0:List R7) (l1:List R7):IT->Xz IT
 | .h0 v5=>(bif (decide (v5<(l0.length:Int))) then (bif ((decide (0<=v5/\v5<(l0.length:Int)))&&true) then (bif ((decide (0<=v5/\v5<(l1.length:Int)))&&true) then (bif (!(((rd l0 v5.toNat).a == (rd l1 v5.toNat).a)&&((((rd l0 v5.toNat).b == (rd l1 v5.toNat).b)&&(((rd l0 v5.toNat).c == (rd l1 v5.toNat).c)&&(((rd l0 v5.toNat).d == (rd l1 v5.toNat).d)&&true)))&&((((rd l0 v5.toNat).e == (rd l1 v5.toNat).e)&&(((rd l0 v5.toNat).f == (rd l1 v5.toNat).f)&&(((rd l0 v5.toNat).g == (rd l1 v5.toNat).g)&&true)))&&true)))) then (.ret [(.bool false)]) else (.to (.h0 (wrap .i64 (v5+1))))) else .stuck) else .stuck) else (.ret [(.bool true)]))
def Y9 (l0:List R7) (l1:List R7):Xz IT:=(bif ((l0.length:Int) != (l1.length:Int)) then (.ret [(.bool false)]) else (.to (.h0 0)))
theorem v1q (l0:List R7) (l1:List R7): ∀s,Xw prog (Zy prog 23) (Oz l0 l1) (Oz l0 l1 s) (NV l0 l1 s)
 | .h0 v5=>(lb (fun k0=>(lo fun aE=>(lo fun bI=>let a:=ww bI (ww aE (tt k0 nn));(lb (fun k1=>(lr 26 23 [1,1,0,1,0,0,1,0,0,1,0,0] 1 6 [(4,(.bool false))] (sl Xv 19 [] (a8 [4]) a6 (bl 2 3) (tt k1 a)))) (fun k1=>(sl Xv 23 [] ⟨[],[],Ln,Lo⟩ a6 (bl 2 1) (tt k1 a))))))) (fun k0=>(lr 26 3 [1,1,1,1,0] 1 6 [(4,(.bool true))] (sl Xv 14 [] (a8 [4]) a6 [false] (tt k0 nn)))))
theorem w1l (l0:List R7) (l1:List R7):Xw prog (Zy prog 23) (Oz l0 l1) (Zm prog 23 [(.dat l0.length (Zz l0)),(.dat l1.length (Zz l1))] true []) (Y9 l0 l1):=(lb (fun k0=>(lr 26 23 [1,0,1,0,0] 1 6 [(4,(.bool false))] (sl Xv 18 [] (a8 [4]) a6 [true] (tt k0 nn)))) (fun k0=>(sl Xv 22 [] ⟨[],[],Ln,Lo⟩ a6 [false] (tt k0 nn))))
theorem u5z (l0:List R7) (l1:List R7) (n:Nat) (vs:List B2) (h:Zo (NV l0 l1) n (Y9 l0 l1)=.ret vs):Uj prog (Zy prog 23) (Zm prog 23 [(.dat l0.length (Zz l0)),(.dat l1.length (Zz l1))] true []) vs:=by have:=Zb (v1q l0 l1) n _ (w1l l0 l1);rwa [h] at this
inductive I9 where
def PO (aI:Int) (aL:Int) (aM:Int) (aS:Int) (aV:Int) (aU:Int) (aP:Int) (aQ:Int) (aR:Int) (bJ:Int) (bK:Int) (bL:Int):I9->CB
 :=nofun
def w2m (aI:Int) (aL:Int) (aM:Int) (aS:Int) (aV:Int) (aU:Int) (aP:Int) (aQ:Int) (aR:Int) (bJ:Int) (bK:Int) (bL:Int):I9->Xz I9
 :=nofun
def YY (aI:Int) (aL:Int) (aM:Int) (aS:Int) (aV:Int) (aU:Int) (aP:Int) (aQ:Int) (aR:Int) (bJ:Int) (bK:Int) (bL:Int):Xz I9:=(bif (decide ((Wf aI aP)>=(Wt aS bJ))) then (.ret [(.agg [(.int .i64 0),(.int .i64 0),(.int .i64 0),(.int .i64 0),(.int .i64 0),(.int .i64 0)])]) else (bif (decide ((Wf aL aQ)>=(Wt aV bK))) then (.ret [(.agg [(.int .i64 0),(.int .i64 0),(.int .i64 0),(.int .i64 0),(.int .i64 0),(.int .i64 0)])]) else (bif (decide ((Wf aM aR)>=(Wt aU bL))) then (.ret [(.agg [(.int .i64 0),(.int .i64 0),(.int .i64 0),(.int .i64 0),(.int .i64 0),(.int .i64 0)])]) else (.ret [(.agg [(.int .i64 (Wf aI aP)),(.int .i64 (Wf aL aQ)),(.int .i64 (Wf aM aR)),(.int .i64 (Wt aS bJ)),(.int .i64 (Wt aV bK)),(.int .i64 (Wt aU bL))])]))))
theorem v2j (aI:Int) (aL:Int) (aM:Int) (aS:Int) (aV:Int) (aU:Int) (aP:Int) (aQ:Int) (aR:Int) (bJ:Int) (bK:Int) (bL:Int): ∀s,Xw prog (Zy prog 61) (PO aI aL aM aS aV aU aP aQ aR bJ bK bL) (PO aI aL aM aS aV aU aP aQ aR bJ bK bL s) (w2m aI aL aM aS aV aU aP aQ aR bJ bK bL s)
 :=nofun
theorem w2n (aI:Int) (aL:Int) (aM:Int) (aS:Int) (aV:Int) (aU:Int) (aP:Int) (aQ:Int) (aR:Int) (bJ:Int) (bK:Int) (bL:Int):Xw prog (Zy prog 61) (PO aI aL aM aS aV aU aP aQ aR bJ bK bL) (Zm prog 61 [(.agg [(.int .i64 aI),(.int .i64 aL),(.int .i64 aM),(.int .i64 aS),(.int .i64 aV),(.int .i64 aU)]),(.agg [(.int .i64 aP),(.int .i64 aQ),(.int .i64 aR),(.int .i64 bJ),(.int .i64 bK),(.int .i64 bL)])] true []) (YY aI aL aM aS aV aU aP aQ aR bJ bK bL):=let a:=Zg prog 61 [1,1,0,1,0,0] 1;let b:=Zy prog 61;(lb (fun k0=>(Un ⟨⟨78,0,true⟩,none,a,none,b,⟨Yj [(4,(.ptr 0 0))],Vk [⟨[(ii 0),(ii 0),(ii 0),(ii 0),(ii 0),(ii 0)],57,none⟩] 0,1,[],true⟩,[],.leaf⟩ (sl Xv 91 [] ⟨[2],[],[some [4]],[]⟩ a6 (CA 15 []) (tt k0 nn)) rfl (by kernel_rfl))) (fun k0=>(lb (fun k1=>(Un ⟨⟨78,0,true⟩,none,a,none,b,⟨Yj [(4,(.ptr 0 0))],Vk [⟨[(ii 0),(ii 0),(ii 0),(ii 0),(ii 0),(ii 0)],57,none⟩] 0,1,[],true⟩,[],.leaf⟩ (sl Xv 91 [] ⟨[2],[],[some [4]],[]⟩ a6 (bl 15 32640) (tt k1 (tt k0 nn))) rfl (by kernel_rfl))) (fun k1=>let c:=tt k1 (tt k0 nn);(lb (fun k2=>(Un ⟨⟨78,0,true⟩,none,a,none,b,⟨Yj [(4,(.ptr 0 0))],Vk [⟨[(ii 0),(ii 0),(ii 0),(ii 0),(ii 0),(ii 0)],57,none⟩] 0,1,[],true⟩,[],.leaf⟩ (sl Xv 91 [] ⟨[2],[],[some [4]],[]⟩ a6 (bl 15 16384) (tt k2 c)) rfl (by kernel_rfl))) (fun k2=>(Un ⟨⟨78,0,true⟩,none,(Zg prog 3 [1,1,1,1,0] 1),none,b,⟨Yj [(4,(.ptr 0 0))],Vk [⟨[(ii (Wf aI aP)),(ii (Wf aL aQ)),(ii (Wf aM aR)),(ii (Wt aS bJ)),(ii (Wt aV bK)),(ii (Wt aU bL))],57,none⟩] 0,1,[],true⟩,[],.leaf⟩ (sl Xv 92 [] ⟨[2],[],[some [4]],[]⟩ a6 (bl 15 0) (tt k2 c)) rfl (by kernel_rfl))))))))
theorem u7c (aI:Int) (aL:Int) (aM:Int) (aS:Int) (aV:Int) (aU:Int) (aP:Int) (aQ:Int) (aR:Int) (bJ:Int) (bK:Int) (bL:Int) (n:Nat) (vs:List B2) (h:Zo (w2m aI aL aM aS aV aU aP aQ aR bJ bK bL) n (YY aI aL aM aS aV aU aP aQ aR bJ bK bL)=.ret vs):Uj prog (Zy prog 61) (Zm prog 61 [(.agg [(.int .i64 aI),(.int .i64 aL),(.int .i64 aM),(.int .i64 aS),(.int .i64 aV),(.int .i64 aU)]),(.agg [(.int .i64 aP),(.int .i64 aQ),(.int .i64 aR),(.int .i64 bJ),(.int .i64 bK),(.int .i64 bL)])] true []) vs:=by have:=Zb (v2j aI aL aM aS aV aU aP aQ aR bJ bK bL) n _ (w2n aI aL aM aS aV aU aP aQ aR bJ bK bL);rwa [h] at this
inductive I3 where
def PI (aI:Int) (aL:Int) (aM:Int) (aS:Int) (aV:Int) (aU:Int) (aP:Int) (aQ:Int) (aR:Int):I3->CB
 :=nofun
def w1w (aI:Int) (aL:Int) (aM:Int) (aS:Int) (aV:Int) (aU:Int) (aP:Int) (aQ:Int) (aR:Int):I3->Xz I3
 :=nofun
def Y0 (aI:Int) (aL:Int) (aM:Int) (aS:Int) (aV:Int) (aU:Int) (aP:Int) (aQ:Int) (aR:Int):Xz I3:=(bif (decide (aI<=aP)) then (bif (decide (aP<aS)) then (bif (decide (aL<=aQ)) then (bif (decide (aQ<aV)) then (bif (decide (aM<=aR)) then (.ret [(.bool (decide (aR<aU)))]) else (.ret [(.bool false)])) else (.ret [(.bool false)])) else (.ret [(.bool false)])) else (.ret [(.bool false)])) else (.ret [(.bool false)]))
theorem v2a (aI:Int) (aL:Int) (aM:Int) (aS:Int) (aV:Int) (aU:Int) (aP:Int) (aQ:Int) (aR:Int): ∀s,Xw prog (Zy prog 30) (PI aI aL aM aS aV aU aP aQ aR) (PI aI aL aM aS aV aU aP aQ aR s) (w1w aI aL aM aS aV aU aP aQ aR s)
 :=nofun
theorem w1x (aI:Int) (aL:Int) (aM:Int) (aS:Int) (aV:Int) (aU:Int) (aP:Int) (aQ:Int) (aR:Int):Xw prog (Zy prog 30) (PI aI aL aM aS aV aU aP aQ aR) (Zm prog 30 [(.agg [(.int .i64 aI),(.int .i64 aL),(.int .i64 aM),(.int .i64 aS),(.int .i64 aV),(.int .i64 aU)]),(.agg [(.int .i64 aP),(.int .i64 aQ),(.int .i64 aR)])] true []) (Y0 aI aL aM aS aV aU aP aQ aR):=(lb (fun k0=>(lb (fun k1=>let a:=tt k1 (tt k0 nn);(lb (fun k2=>(lb (fun k3=>let b:=tt k3 (tt k2 a);(lb (fun k4=>(lr 51 3 [1,1,1,1,0] 1 6 [(4,(.bool (decide (aR<aU))))] (sl Xv 56 [] (a8 [4]) a6 (CA 30 []) (tt k4 b)))) (fun k4=>(lr 51 3 [1,1,1,1,0] 1 6 [(4,(.bool false))] (sl Xv 56 [] (a8 [4]) a6 (CA 24 (bl 6 0)) (tt k4 b)))))) (fun k3=>(lr 51 3 [1,1,1,1,0] 1 6 [(4,(.bool false))] (sl Xv 56 [] (a8 [4]) a6 (CA 18 (bl 12 0)) (tt k3 (tt k2 a))))))) (fun k2=>(lr 51 3 [1,1,1,1,0] 1 6 [(4,(.bool false))] (sl Xv 56 [] (a8 [4]) a6 (CA 12 (bl 18 0)) (tt k2 a)))))) (fun k1=>(lr 51 3 [1,1,1,1,0] 1 6 [(4,(.bool false))] (sl Xv 56 [] (a8 [4]) a6 (CA 6 (bl 24 0)) (tt k1 (tt k0 nn))))))) (fun k0=>(lr 51 3 [1,1,1,1,0] 1 6 [(4,(.bool false))] (sl Xv 56 [] (a8 [4]) a6 (bl 30 0) (tt k0 nn)))))
theorem u6k (aI:Int) (aL:Int) (aM:Int) (aS:Int) (aV:Int) (aU:Int) (aP:Int) (aQ:Int) (aR:Int) (n:Nat) (vs:List B2) (h:Zo (w1w aI aL aM aS aV aU aP aQ aR) n (Y0 aI aL aM aS aV aU aP aQ aR)=.ret vs):Uj prog (Zy prog 30) (Zm prog 30 [(.agg [(.int .i64 aI),(.int .i64 aL),(.int .i64 aM),(.int .i64 aS),(.int .i64 aV),(.int .i64 aU)]),(.agg [(.int .i64 aP),(.int .i64 aQ),(.int .i64 aR)])] true []) vs:=by have:=Zb (v2a aI aL aM aS aV aU aP aQ aR) n _ (w1x aI aL aM aS aV aU aP aQ aR);rwa [h] at this
inductive FQ where
 | h0 (v3:Int)
def t1h (l0:List R6):FQ->CB
 | .h0 v3=>⟨⟨103,0,true⟩,none,(Zg prog 37 [1,1,0,1,0,0] 0),none,(Zy prog 9),⟨Yj [(0,(.dat l0.length (Zz l0))),(3,(ii v3))],Vk [] 0,0,[],true⟩,[],.leaf⟩
def j4x :List (Option (List Nat)):=[some [0,3]]
def j4y :List (Option (List Nat)):=[]
def SG (l0:List R6):FQ->Xz FQ
 | .h0 v3=>(bif (decide (v3<(l0.length:Int))) then (bif ((decide (0<=v3/\v3<(l0.length:Int)))&&true) then (bif (decide ((Wt (Wt (rd l0 v3.toNat).a (rd l0 v3.toNat).b) (rd l0 v3.toNat).c)<(-12))) then (.ret [(.bool false)]) else (bif (decide ((Wf (Wf (rd l0 v3.toNat).d (rd l0 v3.toNat).e) (rd l0 v3.toNat).f)>12)) then (.ret [(.bool false)]) else (bif (decide ((Wt (Wt (rd l0 v3.toNat).d (rd l0 v3.toNat).e) (rd l0 v3.toNat).f)<(-12))) then (.ret [(.bool false)]) else (bif (decide ((Wf (Wf (rd l0 v3.toNat).a (rd l0 v3.toNat).b) (rd l0 v3.toNat).c)>12)) then (.ret [(.bool false)]) else (.to (.h0 (wrap .i64 (v3+1)))))))) else .stuck) else (.ret [(.bool (decide ((l0.length:Int)<=6)))]))
def Z7 (l0:List R6):Xz FQ:=(bif (decide ((l0.length:Int)>400)) then (.ret [(.bool (decide ((l0.length:Int)<=420)))]) else (.to (.h0 0)))
theorem w2z (l0:List R6): ∀s,Xw prog (Zy prog 37) (t1h l0) (t1h l0 s) (SG l0 s)
 | .h0 v3=>(lb (fun k0=>(lo fun aE=>let c:=ww aE (ww aE (ww aE (tt k0 nn)));(lb (fun k1=>(lr 103 37 [1,1,0,1,0,0,1,0,0,0,1,0,0] 1 9 [(2,(.bool false))] (sl Xv 20 [] (a8 [2]) a6 (CA 22 []) (tt k1 c)))) (fun k1=>let a:=ww aE (ww aE (ww aE (tt k1 c)));(lb (fun k2=>(lr 103 37 [1,1,0,1,0,0,1,0,0,0,1,0,0] 1 9 [(2,(.bool false))] (sl Xv 20 [] (a8 [2]) a6 (bl 22 2097153) (tt k2 a)))) (fun k2=>let d:=ww aE (ww aE (ww aE (tt k2 a)));(lb (fun k3=>(lr 103 37 [1,1,0,1,0,0,1,0,0,1,1,0,0] 1 9 [(2,(.bool false))] (sl Xv 24 [] (a8 [2]) a6 (bl 43 8796088827905) (tt k3 d)))) (fun k3=>let b:=ww aE (ww aE (ww aE (tt k3 d)));(lb (fun k4=>(lr 103 37 [1,1,0,1,0,0,1,0,0,1,1,0,0] 1 9 [(2,(.bool false))] (sl Xv 24 [] (a8 [2]) a6 (bl 43 4398046511105) (tt k4 b)))) (fun k4=>(sl Xv 28 [] ⟨[],[],j4x,j4y⟩ a6 (bl 43 1) (tt k4 b)))))))))))) (fun k0=>(lr 103 3 [1,1,1,1,0] 1 9 [(2,(.bool (decide ((l0.length:Int)<=6))))] (sl Xv 17 [] (a8 [2]) a6 [false] (tt k0 nn)))))
theorem x7q (l0:List R6):Xw prog (Zy prog 37) (t1h l0) (Zm prog 37 [(.dat l0.length (Zz l0))] true []) (Z7 l0):=(lb (fun k0=>(lr 103 37 [1,0,1,0,0] 1 9 [(2,(.bool (decide ((l0.length:Int)<=420))))] (sl Xv 19 [] (a8 [2]) a6 [true] (tt k0 nn)))) (fun k0=>(sl Xv 20 [] ⟨[],[],j4x,j4y⟩ a6 [false] (tt k0 nn))))
theorem v9p (l0:List R6) (n:Nat) (vs:List B2) (h:Zo (SG l0) n (Z7 l0)=.ret vs):Uj prog (Zy prog 37) (Zm prog 37 [(.dat l0.length (Zz l0))] true []) vs:=by have:=Zb (w2z l0) n _ (x7q l0);rwa [h] at this
def EG (x y z lo:Int):Bool:=decide (x>=lo)&&(decide (y>=lo)&&(decide (z>=lo)&&(decide (x<=1000000)&&(decide (y<=1000000)&&decide (z<=1000000)))))
theorem t0e (x y z lo:Int): ∃N,Zo (w1u x y z lo) N (Y1 x y z lo)=.ret [.bool (EG x y z lo)]:=⟨0,by
 unfold Y1 EG;cases decide (x>=lo) <;> cases decide (y>=lo) <;> cases decide (z>=lo) <;> cases decide (x<=1000000) <;> cases decide (y<=1000000) <;> rfl⟩
def Iy :List B2->Option (B2×Bool)
 | [.agg [.int .i64 x,.int .i64 y,.int .i64 z],.int .i64 lo]=>some (.bool (EG x y z lo),true)
 | _=>none
theorem u1u {S:B4} (hS:Zv prog S):Zv prog (S.with w3b Iy):=by
 refine Qn hS (by kernel_rfl) fun args v h=> ?_;unfold Iy at h;split at h
 .rename_i x y z lo;simp only [Ad,Ac,Bh] at h;subst h;obtain ⟨N,hN⟩:=t0e x y z lo;exact ⟨_,_,(.cons (.refl _) (.cons (.refl _) .nil)),rfl,u6j x y z lo N _ hN,3,rfl⟩
 .cases h
def CZ (x y z i:Int):Int:=bif i == 0 then x else bif i == 1 then y else z
theorem t5a (x y z i:Int): ∃N,Zo (w5l x y z i) N (YE x y z i)=.ret [.int .i64 (CZ x y z i)]:=⟨0,by
 unfold YE CZ;cases (i == 0) <;> cases (i == 1) <;> rfl⟩
def RE :List B2->Option (B2×Bool)
 | [.agg [.int .i64 aI,.int .i64 aL,.int .i64 aM],.int .i64 x1]=>some (.int .i64 (CZ aI aL aM x1),true)
 | _=>none
theorem t4e {S:B4} (hS:Zv prog S):Zv prog (S.with w8o RE):=by
 refine Qn hS (by kernel_rfl) fun args v h=> ?_;unfold RE at h;split at h
 .rename_i aI aL aM x1;simp only [Ad,Ac,Bh] at h;subst h;obtain ⟨N,hN⟩:=t5a aI aL aM x1;exact ⟨_,_,(.cons (.refl _) (.cons (.refl _) .nil)),rfl,u9y aI aL aM x1 N _ hN,3,rfl⟩
 .cases h
def Hp (i a x y:Int):R3:=bif i == 0 then ⟨a,x,y⟩ else bif i == 1 then ⟨x,a,y⟩ else ⟨x,y,a⟩
def VO (x y z:Int) (r:R6):Bool:=decide (r.a<=x)&&(decide (x<r.d)&&(decide (r.b<=y)&&(decide (y<r.e)&&(decide (r.c<=z)&&decide (z<r.f)))))
def VN (L:List R6) (x y z:Int):Bool:=L.any (VO x y z)
def rh6V (L:List R6) (x y z:Int):Bool:=VN L x y z
def Tk (L:List R6) (x y z:Int):Bool:=decide (L.length<=100000)
theorem j4b {L:List R6} {x y z:Int} (hl:L.length<=100000): ∀(k i:Nat),i+k=L.length-> ∃N,Zo (NS L x y z) N (.to (.h0 (i:Int)))=.ret [.bool ((L.drop i).any (VO x y z))]
 | 0,i,h=>by
  refine ⟨1,?_⟩
  grind [Zx,NS,Zp]
 | k+1,i,h=>by
  have hi:i<L.length:=by omega
  obtain ⟨N,hN⟩:=j4b (x:=x) (y:=y) (z:=z) hl k (i+1) (by omega);refine ⟨N+1,?_⟩;rw [Zx,Yg hi,BS];have e:NS L x y z (.h0 (i:Int))=bif VO x y z (rd L i) then .ret [.bool true] else .to (.h0 ((i+1:Nat):Int)):=by unfold VO;simp (disch:=omega) only [NS,S6,Yy,Yz,Zj,Zw,Zk,Ah,Ab]
  grind [Zp]
theorem t0h (L:List R6) (x y z:Int) (h:Tk L x y z=true): ∃N,Zo (NS L x y z) N (x4n L x y z)=.ret [.bool (rh6V L x y z)]:=by obtain ⟨N,hN⟩:=j4b (x:=x) (y:=y) (z:=z) (Az h) L.length 0 (Af _);exact ⟨N,hN⟩
def JA :List B2->Option (B2×Bool)
 | [a0,.agg [.int .i64 aP,.int .i64 aQ,.int .i64 aR]]=>match CS R6 a0 with
  | some (L0,g0,n0)=>some (.bool (rh6V L0 aP aQ aR),CO R6 n0 g0&&(Tk L0 aP aQ aR))
  | _=>none
 | _=>none
theorem u1w {S:B4} (hS:Zv prog S):Zv prog (S.with u0b JA):=by
 refine Qn hS (by kernel_rfl) fun args v h=> ?_;unfold JA at h;split at h
 .rename_i a0 aP aQ aR;split at h
  .rename_i L0 g0 n0 e0;simp only [Ad,Ac,Ae] at h;obtain ⟨rfl,ho0,hw⟩:=h;obtain ⟨N,hN⟩:=t0h L0 aP aQ aR hw;exact ⟨_,_,(.cons (Yn e0 ho0) (.cons (.refl _) .nil)),rfl,u6n L0 aP aQ aR N _ hN,3,rfl⟩
  .cases h
 .cases h
instance : DecidableEq R7:=Classical.typeDecidableEq _
def Ot (l m:List R7):Bool:=decide (l=m)
def WL (r s:R7):Bool:=(r.a == s.a)&&(((r.b == s.b)&&((r.c == s.c)&&((r.d == s.d)&&true)))&&(((r.e == s.e)&&((r.f == s.f)&&((r.g == s.g)&&true)))&&true))
theorem u2a (r s:R7):WL r s=true↔r=s:=by obtain ⟨a,b,c,d,e,f,g⟩:=r;obtain ⟨a',b',c',d',e',f',g'⟩:=s;simp [WL,and_assoc]
def IS (l m:List R7):Bool:=Ot l m
def XG (l m:List R7):Bool:=decide (l.length<=1000000)
theorem j3j (l m:List R7) (hl:l.length<=1000000) (hm:l.length=m.length): ∀(k i:Nat),i+k=l.length-> ∃N,Zo (NV l m) N (.to (.h0 (i:Int)))=.ret [.bool (decide (l.drop i=m.drop i))]
 | 0,i,h=>by
  refine ⟨1,?_⟩
  grind [Zx,NV,Zp]
 | k+1,i,h=>by
  have hi:i<l.length:=by omega
  obtain ⟨N,hN⟩:=j3j l m hl hm k (i+1) (by omega);refine ⟨N+1,?_⟩;rw [Zx,Yg hi,Yg (show i<m.length by omega)];have e:NV l m (.h0 (i:Int))=bif !(WL (rd l i) (rd m i)) then .ret [.bool false] else .to (.h0 ((i+1:Nat):Int)):=by
   grind [NV,WL,Zj]
  rw [e];by_cases q:rd l i=rd m i
  .rw [(u2a _ _).2 q,Ay,Aa,hN];simp_all
  .rw [show WL (rd l i) (rd m i)=false from A3.2 fun h=>q ((u2a _ _).1 h),AB,Ab,Zp];simp_all
theorem j9p (l m:List R7) (h:XG l m=true): ∃N,Zo (NV l m) N (Y9 l m)=.ret [.bool (IS l m)]:=by
 have hl:l.length<=1000000:=Az h;unfold Y9;by_cases hm:l.length=m.length
 .obtain ⟨N,hN⟩:=j3j l m hl hm l.length 0 (Af _);refine ⟨N,?_⟩;rw [show ((l.length:Int) != (m.length:Int))=false by rw [hm];simp,Aa];exact hN
 .refine ⟨0,?_⟩;rw [show ((l.length:Int) != (m.length:Int))=true by simp;omega,Ab,Zp]
  congr 3
  exact (Av fun e=>hm (by rw [e])).symm
def Iw :List B2->Option (B2×Bool)
 | [a0,a1]=>match CS R7 a0,CS R7 a1 with
  | some (L0,g0,n0),some (L1,g1,n1)=>some (.bool (IS L0 L1),CO R7 n0 g0&&(CO R7 n1 g1&&(XG L0 L1)))
  | _,_=>none
 | _=>none
theorem u1t {S:B4} (hS:Zv prog S):Zv prog (S.with u0a Iw):=by
 refine Qn hS (by kernel_rfl) fun args v h=> ?_;unfold Iw at h;split at h
 .rename_i a0 a1;split at h
  .rename_i L0 g0 n0 L1 g1 n1 e0 e1;simp only [Ad,Ac,Ae] at h;obtain ⟨rfl,ho0,ho1,hw⟩:=h;obtain ⟨N,hN⟩:=j9p L0 L1 hw;exact ⟨_,_,(.cons (Yn e0 ho0) (.cons (Yn e1 ho1) .nil)),rfl,u5z L0 L1 N _ hN,3,rfl⟩
  .cases h
 .cases h
def DF (a b c d e f a2 b2 c2 d2 e2 f2:Int):R6:=bif decide (Wf a a2>=Wt d d2)||(decide (Wf b b2>=Wt e e2)||decide (Wf c c2>=Wt f f2)) then ⟨0,0,0,0,0,0⟩ else ⟨Wf a a2,Wf b b2,Wf c c2,Wt d d2,Wt e e2,Wt f f2⟩
theorem t0q (a b c d e f a2 b2 c2 d2 e2 f2:Int): ∃N,Zo (w2m a b c d e f a2 b2 c2 d2 e2 f2) N (YY a b c d e f a2 b2 c2 d2 e2 f2)=.ret [.agg [.int .i64 (DF a b c d e f a2 b2 c2 d2 e2 f2).a,.int .i64 (DF a b c d e f a2 b2 c2 d2 e2 f2).b,.int .i64 (DF a b c d e f a2 b2 c2 d2 e2 f2).c,.int .i64 (DF a b c d e f a2 b2 c2 d2 e2 f2).d,.int .i64 (DF a b c d e f a2 b2 c2 d2 e2 f2).e,.int .i64 (DF a b c d e f a2 b2 c2 d2 e2 f2).f]]:=⟨0,by
 unfold YY DF;cases decide (Wf a a2>=Wt d d2) <;> cases decide (Wf b b2>=Wt e e2) <;> cases decide (Wf c c2>=Wt f f2) <;> rfl⟩
def QV :List B2->Option (B2×Bool)
 | [.agg [.int .i64 a,.int .i64 b,.int .i64 c,.int .i64 d,.int .i64 e,.int .i64 f],.agg [.int .i64 a2,.int .i64 b2,.int .i64 c2,.int .i64 d2,.int .i64 e2,.int .i64 f2]]=>some (.agg [.int .i64 (DF a b c d e f a2 b2 c2 d2 e2 f2).a,.int .i64 (DF a b c d e f a2 b2 c2 d2 e2 f2).b,.int .i64 (DF a b c d e f a2 b2 c2 d2 e2 f2).c,.int .i64 (DF a b c d e f a2 b2 c2 d2 e2 f2).d,.int .i64 (DF a b c d e f a2 b2 c2 d2 e2 f2).e,.int .i64 (DF a b c d e f a2 b2 c2 d2 e2 f2).f],true)
 | _=>none
theorem t3k {S:B4} (hS:Zv prog S):Zv prog (S.with V5 QV):=by
 refine Qn hS (by kernel_rfl) fun args v h=> ?_;unfold QV at h;split at h
 .rename_i a b c d e f a2 b2 c2 d2 e2 f2;simp only [Ad,Ac,Bh] at h;subst h;obtain ⟨N,hN⟩:=t0q a b c d e f a2 b2 c2 d2 e2 f2;exact ⟨_,_,(.cons (.refl _) (.cons (.refl _) .nil)),rfl,u7c a b c d e f a2 b2 c2 d2 e2 f2 N _ hN,3,rfl⟩
 .cases h
def I2 (a b c d e f x y z:Int):Bool:=decide (a<=x)&&(decide (x<d)&&(decide (b<=y)&&(decide (y<e)&&(decide (c<=z)&&decide (z<f)))))
theorem t0f (a b c d e f x y z:Int): ∃N,Zo (w1w a b c d e f x y z) N (Y0 a b c d e f x y z)=.ret [.bool (I2 a b c d e f x y z)]:=⟨0,by
 unfold Y0 I2;cases decide (a<=x) <;> cases decide (x<d) <;> cases decide (b<=y) <;> cases decide (y<e) <;> cases decide (c<=z) <;> rfl⟩
def Iz :List B2->Option (B2×Bool)
 | [.agg [.int .i64 aI,.int .i64 aL,.int .i64 aM,.int .i64 aS,.int .i64 aV,.int .i64 aU],.agg [.int .i64 aP,.int .i64 aQ,.int .i64 aR]]=>some (.bool (I2 aI aL aM aS aV aU aP aQ aR),true)
 | _=>none
theorem u1v {S:B4} (hS:Zv prog S):Zv prog (S.with P1 Iz):=by
 refine Qn hS (by kernel_rfl) fun args v h=> ?_;unfold Iz at h;split at h
 .rename_i aI aL aM aS aV aU aP aQ aR;simp only [Ad,Ac,Bh] at h;subst h;obtain ⟨N,hN⟩:=t0f aI aL aM aS aV aU aP aQ aR;exact ⟨_,_,(.cons (.refl _) (.cons (.refl _) .nil)),rfl,u6k aI aL aM aS aV aU aP aQ aR N _ hN,3,rfl⟩
 .cases h
def t1j (r:R6):Bool:= !decide (Wt (Wt r.a r.b) r.c<(-12))&&(!decide (Wf (Wf r.d r.e) r.f>12)&&(!decide (Wt (Wt r.d r.e) r.f<(-12))&& !decide (Wf (Wf r.a r.b) r.c>12)))
def TM (L:List R6):Bool:=bif decide ((L.length:Int)>400) then decide ((L.length:Int)<=420) else L.all t1j&&decide ((L.length:Int)<=6)
def N9 (L:List R6):Bool:=true
theorem v9o {L:List R6} (hl:L.length<=400): ∀(k i:Nat),i+k=L.length-> ∃N,Zo (SG L) N (.to (.h0 (i:Int)))=.ret [.bool ((L.drop i).all t1j&&decide ((L.length:Int)<=6))]
 | 0,i,h=>by refine ⟨1,?_⟩;rw [Zx,As (by omega)];simp (disch:=omega) only [SG,Yh,Aa];rfl
 | k+1,i,h=>by
  have hi:i<L.length:=by omega
  obtain ⟨N,hN⟩:=v9o hl k (i+1) (by omega);have hw:wrap .i64 ((i:Int)+1)=((i+1:Nat):Int):=Zj (by omega);refine ⟨N+1,?_⟩;rw [Zx,Yg hi]
  grind [SG,Zk,t1j,Zp]
theorem u7r (L:List R6) (h:N9 L=true): ∃N,Zo (SG L) N (Z7 L)=.ret [.bool (TM L)]:=by
 unfold Z7 TM;by_cases hl:L.length<=400
 .obtain ⟨N,hN⟩:=v9o hl L.length 0 (Af _)
  grind
 .refine ⟨0,?_⟩;rw [Yt (by omega)];rfl
def t3o :List B2->Option (B2×Bool)
 | [a0]=>match CS R6 a0 with
  | some (L0,g0,n0)=>some (.bool (TM L0),CO R6 n0 g0&&(N9 L0))
  | _=>none
 | _=>none
theorem u9i {S:B4} (hS:Zv prog S):Zv prog (S.with w8m t3o):=by
 refine Qn hS (by kernel_rfl) fun args v h=> ?_;unfold t3o at h;split at h
 .rename_i a0;split at h
  .rename_i L0 g0 n0 e0;simp only [Ad,Ac,Ae] at h;obtain ⟨rfl,ho0,hw⟩:=h;obtain ⟨N,hN⟩:=u7r L0 hw;exact ⟨_,_,(.cons (Yn e0 ho0) .nil),rfl,v9p L0 N _ hN,3,rfl⟩
  .cases h
 .cases h
def Vr1 :B4:=(((((((Va.with w3b Iy).with w8o RE).with u0b JA).with u0a Iw).with V5 QV).with P1 Iz).with w8m t3o)
theorem Vq :Zv prog Vr1:=(u9i (u1v (t3k (u1t (u1w (t4e (u1u Xv)))))))
inductive IQ where
def Ox (aI:Int) (aL:Int) (aM:Int) (aS:Int) (aV:Int) (aU:Int):IQ->CB
 :=nofun
def w1i (aI:Int) (aL:Int) (aM:Int) (aS:Int) (aV:Int) (aU:Int):IQ->Xz IQ
 :=nofun
def Yl (aI:Int) (aL:Int) (aM:Int) (aS:Int) (aV:Int) (aU:Int):Xz IQ:=(bif (EG aI aL aM (-1000000)) then (bif (EG aS aV aU (-1000000)) then (bif (decide (aI<aS)) then (bif (decide (aL<aV)) then (.ret [(.bool (decide (aM<aU)))]) else (.ret [(.bool false)])) else (.ret [(.bool false)])) else (.ret [(.bool false)])) else (.ret [(.bool false)]))
theorem v1o (aI:Int) (aL:Int) (aM:Int) (aS:Int) (aV:Int) (aU:Int): ∀s,Xw prog (Zy prog 60) (Ox aI aL aM aS aV aU) (Ox aI aL aM aS aV aU s) (w1i aI aL aM aS aV aU s)
 :=nofun
theorem w1j (aI:Int) (aL:Int) (aM:Int) (aS:Int) (aV:Int) (aU:Int):Xw prog (Zy prog 60) (Ox aI aL aM aS aV aU) (Zm prog 60 [(.agg [(.int .i64 aI),(.int .i64 aL),(.int .i64 aM),(.int .i64 aS),(.int .i64 aV),(.int .i64 aU)])] true []) (Yl aI aL aM aS aV aU):=(lb (fun k0=>(lb (fun k1=>let a:=tt k1 (tt k0 nn);(lb (fun k2=>(lb (fun k3=>(lr 40 3 [1,1,1,1,0] 1 9 [(2,(.bool (decide (aM<aU))))] (sl Vq 49 [] (a8 [2]) a6 (CA 24 []) (tt k3 (tt k2 a))))) (fun k3=>(lr 40 3 [1,1,1,1,0] 1 9 [(2,(.bool false))] (sl Vq 49 [] (a8 [2]) a6 (CA 17 (bl 7 0)) (tt k3 (tt k2 a))))))) (fun k2=>(lr 40 3 [1,1,1,1,0] 1 9 [(2,(.bool false))] (sl Vq 49 [] (a8 [2]) a6 (CA 10 (bl 14 0)) (tt k2 a)))))) (fun k1=>(lr 40 3 [1,1,1,1,0] 1 9 [(2,(.bool false))] (sl Vq 49 [] (a8 [2]) a6 (CA 3 (bl 21 0)) (tt k1 (tt k0 nn))))))) (fun k0=>(lr 40 3 [1,1,1,1,0] 1 9 [(2,(.bool false))] (sl Vq 49 [] (a8 [2]) a6 (bl 24 0) (tt k0 nn)))))
theorem u5x (aI:Int) (aL:Int) (aM:Int) (aS:Int) (aV:Int) (aU:Int) (n:Nat) (vs:List B2) (h:Zo (w1i aI aL aM aS aV aU) n (Yl aI aL aM aS aV aU)=.ret vs):Uj prog (Zy prog 60) (Zm prog 60 [(.agg [(.int .i64 aI),(.int .i64 aL),(.int .i64 aM),(.int .i64 aS),(.int .i64 aV),(.int .i64 aU)])] true []) vs:=by have:=Zb (v1o aI aL aM aS aV aU) n _ (w1j aI aL aM aS aV aU);rwa [h] at this
def Fn (a b c d e f:Int):Bool:=EG a b c (-1000000)&&(EG d e f (-1000000)&&(decide (a<d)&&(decide (b<e)&&decide (c<f))))
theorem j9m (a b c d e f:Int): ∃N,Zo (w1i a b c d e f) N (Yl a b c d e f)=.ret [.bool (Fn a b c d e f)]:=⟨0,by
 unfold Yl Fn;cases EG a b c (-1000000) <;> cases EG d e f (-1000000) <;> cases decide (a<d) <;> cases decide (b<e) <;> rfl⟩
def QP :List B2->Option (B2×Bool)
 | [.agg [.int .i64 aI,.int .i64 aL,.int .i64 aM,.int .i64 aS,.int .i64 aV,.int .i64 aU]]=>some (.bool (Fn aI aL aM aS aV aU),true)
 | _=>none
theorem t3e {S:B4} (hS:Zv prog S):Zv prog (S.with V2 QP):=by
 refine Qn hS (by kernel_rfl) fun args v h=> ?_;unfold QP at h;split at h
 .rename_i aI aL aM aS aV aU;simp only [Ad,Ac,Bh] at h;subst h;obtain ⟨N,hN⟩:=j9m aI aL aM aS aV aU;exact ⟨_,_,(.cons (.refl _) .nil),rfl,u5x aI aL aM aS aV aU N _ hN,3,rfl⟩
 .cases h
def endC (L:List R6) (i:Int):List Int:=L.flatMap fun r=>[CZ r.a r.b r.c i,CZ r.d r.e r.f i]
def Gx (L:List R6) (i:Int):List Int:=Cd (endC L i)
def Vr2 :B4:=Vr1.with V2 QP
theorem Kk :Zv prog Vr2:=t3e Vq
inductive IX where
 | h0 (v3:Int)
 | h1 (v4:Int)
 | h2 (v4:Int) (v5:Int)
 | h3 (v4:Int) (v6:Int)
def PD (l0:List Pa):IX->CB
 | .h0 v3=>⟨⟨93,0,true⟩,none,(Zg prog 21 [1,1,0,1,0,0] 0),none,(Zy prog 9),⟨Yj [(0,(.dat l0.length (Zz l0))),(3,(ii v3))],Vk [] 0,0,[],true⟩,[],.leaf⟩
 | .h1 v4=>⟨⟨93,0,true⟩,none,(Zg prog 21 [1,1,1,0,1,0,0] 0),none,(Zy prog 9),⟨Yj [(0,(.dat l0.length (Zz l0))),(4,(ii v4))],Vk [] 0,0,[],true⟩,[],.leaf⟩
 | .h2 v4 v5=>⟨⟨93,0,true⟩,none,(Zg prog 21 [1,1,1,0,1,0,0,1,0,0,1,0,1,0,0] 0),none,(Zy prog 9),⟨Yj [(0,(.dat l0.length (Zz l0))),(4,(ii v4)),(5,(ii v5))],Vk [] 0,0,[],true⟩,[],.leaf⟩
 | .h3 v4 v6=>⟨⟨93,0,true⟩,none,(Zg prog 21 [1,1,1,0,1,0,0,1,0,0,1,1,1,0,0] 0),none,(Zy prog 9),⟨Yj [(0,(.dat l0.length (Zz l0))),(4,(ii v4)),(6,(ii v6))],Vk [] 0,0,[],true⟩,[],.leaf⟩
def Ly :List (Option (List Nat)):=[some [0,3]]
def MC :List (Option (List Nat)):=[]
def Lx :List (Option (List Nat)):=[some [0,4]]
def MB :List (Option (List Nat)):=[]
def Lw :List (Option (List Nat)):=[some [0,4,5]]
def MA :List (Option (List Nat)):=[]
def Lv :List (Option (List Nat)):=[some [0,4,6]]
def Lz :List (Option (List Nat)):=[]
def Uy (l0:List Pa):IX->Xz IX
 | .h0 v3=>(bif (decide (v3<(l0.length:Int))) then (bif ((decide (0<=v3/\v3<(l0.length:Int)))&&true) then (bif (y8a (B3 (rd l0 v3.toNat).s)) then (bif ((Eu (B3 (rd l0 v3.toNat).s)) != 0) then (.ret [(.int .i64 (Eu (B3 (rd l0 v3.toNat).s)))]) else (.to (.h0 (wrap .i64 (v3+1))))) else .stuck) else .stuck) else (.to (.h1 0)))
 | .h1 v4=>(bif (decide (v4<(l0.length:Int))) then (bif ((decide (0<=v4/\v4<(l0.length:Int)))&&true) then (bif (!(Fn (rd l0 v4.toNat).a (rd l0 v4.toNat).b (rd l0 v4.toNat).c (rd l0 v4.toNat).d (rd l0 v4.toNat).e (rd l0 v4.toNat).f)) then (.ret [(.int .i64 8)]) else (.to (.h2 v4 0))) else .stuck) else (.ret [(.int .i64 0)]))
 | .h2 v4 v5=>(bif ((decide (0<=v4/\v4<(l0.length:Int)))&&true) then (bif (decide (v5<(((rd l0 v4.toNat).s.length :Nat):Int))) then (bif ((decide (0<=v5/\v5<(((rd l0 v4.toNat).s.length :Nat):Int)))&&true) then (bif (!((((DF (rd (rd l0 v4.toNat).s v5.toNat).a (rd (rd l0 v4.toNat).s v5.toNat).b (rd (rd l0 v4.toNat).s v5.toNat).c (rd (rd l0 v4.toNat).s v5.toNat).d (rd (rd l0 v4.toNat).s v5.toNat).e (rd (rd l0 v4.toNat).s v5.toNat).f (rd l0 v4.toNat).a (rd l0 v4.toNat).b (rd l0 v4.toNat).c (rd l0 v4.toNat).d (rd l0 v4.toNat).e (rd l0 v4.toNat).f).a == (rd (rd l0 v4.toNat).s v5.toNat).a)&&(((DF (rd (rd l0 v4.toNat).s v5.toNat).a (rd (rd l0 v4.toNat).s v5.toNat).b (rd (rd l0 v4.toNat).s v5.toNat).c (rd (rd l0 v4.toNat).s v5.toNat).d (rd (rd l0 v4.toNat).s v5.toNat).e (rd (rd l0 v4.toNat).s v5.toNat).f (rd l0 v4.toNat).a (rd l0 v4.toNat).b (rd l0 v4.toNat).c (rd l0 v4.toNat).d (rd l0 v4.toNat).e (rd l0 v4.toNat).f).b == (rd (rd l0 v4.toNat).s v5.toNat).b)&&(((DF (rd (rd l0 v4.toNat).s v5.toNat).a (rd (rd l0 v4.toNat).s v5.toNat).b (rd (rd l0 v4.toNat).s v5.toNat).c (rd (rd l0 v4.toNat).s v5.toNat).d (rd (rd l0 v4.toNat).s v5.toNat).e (rd (rd l0 v4.toNat).s v5.toNat).f (rd l0 v4.toNat).a (rd l0 v4.toNat).b (rd l0 v4.toNat).c (rd l0 v4.toNat).d (rd l0 v4.toNat).e (rd l0 v4.toNat).f).c == (rd (rd l0 v4.toNat).s v5.toNat).c)&&true)))&&((((DF (rd (rd l0 v4.toNat).s v5.toNat).a (rd (rd l0 v4.toNat).s v5.toNat).b (rd (rd l0 v4.toNat).s v5.toNat).c (rd (rd l0 v4.toNat).s v5.toNat).d (rd (rd l0 v4.toNat).s v5.toNat).e (rd (rd l0 v4.toNat).s v5.toNat).f (rd l0 v4.toNat).a (rd l0 v4.toNat).b (rd l0 v4.toNat).c (rd l0 v4.toNat).d (rd l0 v4.toNat).e (rd l0 v4.toNat).f).d == (rd (rd l0 v4.toNat).s v5.toNat).d)&&(((DF (rd (rd l0 v4.toNat).s v5.toNat).a (rd (rd l0 v4.toNat).s v5.toNat).b (rd (rd l0 v4.toNat).s v5.toNat).c (rd (rd l0 v4.toNat).s v5.toNat).d (rd (rd l0 v4.toNat).s v5.toNat).e (rd (rd l0 v4.toNat).s v5.toNat).f (rd l0 v4.toNat).a (rd l0 v4.toNat).b (rd l0 v4.toNat).c (rd l0 v4.toNat).d (rd l0 v4.toNat).e (rd l0 v4.toNat).f).e == (rd (rd l0 v4.toNat).s v5.toNat).e)&&(((DF (rd (rd l0 v4.toNat).s v5.toNat).a (rd (rd l0 v4.toNat).s v5.toNat).b (rd (rd l0 v4.toNat).s v5.toNat).c (rd (rd l0 v4.toNat).s v5.toNat).d (rd (rd l0 v4.toNat).s v5.toNat).e (rd (rd l0 v4.toNat).s v5.toNat).f (rd l0 v4.toNat).a (rd l0 v4.toNat).b (rd l0 v4.toNat).c (rd l0 v4.toNat).d (rd l0 v4.toNat).e (rd l0 v4.toNat).f).f == (rd (rd l0 v4.toNat).s v5.toNat).f)&&true)))&&true))) then (.ret [(.int .i64 8)]) else (.to (.h2 v4 (wrap .i64 (v5+1))))) else .stuck) else (.to (.h3 v4 0))) else .stuck)
 | .h3 v4 v6=>(bif (decide (v6<v4)) then (bif ((decide (0<=v4/\v4<(l0.length:Int)))&&true) then (bif ((decide (0<=v6/\v6<(l0.length:Int)))&&true) then (bif (!((((DF (rd l0 v4.toNat).a (rd l0 v4.toNat).b (rd l0 v4.toNat).c (rd l0 v4.toNat).d (rd l0 v4.toNat).e (rd l0 v4.toNat).f (rd l0 v6.toNat).a (rd l0 v6.toNat).b (rd l0 v6.toNat).c (rd l0 v6.toNat).d (rd l0 v6.toNat).e (rd l0 v6.toNat).f).a == 0)&&(((DF (rd l0 v4.toNat).a (rd l0 v4.toNat).b (rd l0 v4.toNat).c (rd l0 v4.toNat).d (rd l0 v4.toNat).e (rd l0 v4.toNat).f (rd l0 v6.toNat).a (rd l0 v6.toNat).b (rd l0 v6.toNat).c (rd l0 v6.toNat).d (rd l0 v6.toNat).e (rd l0 v6.toNat).f).b == 0)&&(((DF (rd l0 v4.toNat).a (rd l0 v4.toNat).b (rd l0 v4.toNat).c (rd l0 v4.toNat).d (rd l0 v4.toNat).e (rd l0 v4.toNat).f (rd l0 v6.toNat).a (rd l0 v6.toNat).b (rd l0 v6.toNat).c (rd l0 v6.toNat).d (rd l0 v6.toNat).e (rd l0 v6.toNat).f).c == 0)&&true)))&&((((DF (rd l0 v4.toNat).a (rd l0 v4.toNat).b (rd l0 v4.toNat).c (rd l0 v4.toNat).d (rd l0 v4.toNat).e (rd l0 v4.toNat).f (rd l0 v6.toNat).a (rd l0 v6.toNat).b (rd l0 v6.toNat).c (rd l0 v6.toNat).d (rd l0 v6.toNat).e (rd l0 v6.toNat).f).d == 0)&&(((DF (rd l0 v4.toNat).a (rd l0 v4.toNat).b (rd l0 v4.toNat).c (rd l0 v4.toNat).d (rd l0 v4.toNat).e (rd l0 v4.toNat).f (rd l0 v6.toNat).a (rd l0 v6.toNat).b (rd l0 v6.toNat).c (rd l0 v6.toNat).d (rd l0 v6.toNat).e (rd l0 v6.toNat).f).e == 0)&&(((DF (rd l0 v4.toNat).a (rd l0 v4.toNat).b (rd l0 v4.toNat).c (rd l0 v4.toNat).d (rd l0 v4.toNat).e (rd l0 v4.toNat).f (rd l0 v6.toNat).a (rd l0 v6.toNat).b (rd l0 v6.toNat).c (rd l0 v6.toNat).d (rd l0 v6.toNat).e (rd l0 v6.toNat).f).f == 0)&&true)))&&true))) then (.ret [(.int .i64 8)]) else (.to (.h3 v4 (wrap .i64 (v6+1))))) else .stuck) else .stuck) else (.to (.h1 (wrap .i64 (v4+1)))))
def Y4 (l0:List Pa):Xz IX:=(bif (decide ((l0.length:Int)>50)) then (.ret [(.int .i64 4)]) else (.to (.h0 0)))
theorem v1w (l0:List Pa): ∀s,Xw prog (Zy prog 21) (PD l0) (PD l0 s) (Uy l0 s)
 | .h0 v3=>(lb (fun k0=>(lo fun aE=>(lo fun bI=>let b:=ww aE (tt k0 nn);(lb (fun k1=>let a:=pp (xI R6 (rd l0 (tn v3)).s.length (Zz (rd l0 (tn v3)).s)) (xw bI);(lr 93 21 [1,1,0,1,0,0,1,0,0,1,0,0] 1 9 [(2,(ii (Eu (B3 (rd l0 (tn v3)).s))))] (sl Kk 33 [] (a8 [2]) a6 (bl 2 3) (pp a (ww aE (tt k1 (pp a b))))))) (fun k1=>(sl Kk 31 [] ⟨[],[],Ly,MC⟩ a6 (bl 2 1) (tt k1 (pp (pp (xI R6 (rd l0 (tn v3)).s.length (Zz (rd l0 (tn v3)).s)) (xw bI)) b)))))))) (fun k0=>(sl Kk 17 [] ⟨[],[],Lx,MB⟩ a6 [false] (tt k0 nn))))
 | .h1 v4=>(lb (fun k0=>(lo fun aE=>let a:=ww aE (tt k0 nn);(lb (fun k1=>(lr 93 21 [1,1,1,0,1,0,0,1,0,0,0,1,0,0] 1 9 [(2,(ii 8))] (sl Kk 28 [] (a8 [2]) a6 (bl 2 3) (tt k1 a)))) (fun k1=>(sl Kk 32 [] ⟨[],[],Lw,MA⟩ a6 (bl 2 1) (tt k1 a)))))) (fun k0=>(lr 93 3 [1,1,1,1,0] 1 9 [(2,(ii 0))] (sl Kk 14 [] (a8 [2]) a6 [false] (tt k0 nn)))))
 | .h2 v4 v5=>(lo fun bN=>(lb (fun k0=>(lo fun aE=>let a:=ww aE (ww bN (ww bN (ww aE (ww bN (tt k0 (ww bN nn))))));(lb (fun k1=>(lr 93 21 [1,1,1,0,1,0,0,1,0,0,1,0,1,0,0,1,0,0,1,0,0] 1 9 [(2,(ii 8))] (sl Kk 23 [] (a8 [2]) a6 (bl 2 3) (tt k1 a)))) (fun k1=>(sl Kk 27 [] ⟨[],[],Lw,MA⟩ a6 (bl 2 1) (tt k1 a)))))) (fun k0=>(sl Kk 20 [] ⟨[],[],Lv,Lz⟩ a6 [false] (tt k0 (ww bN nn))))))
 | .h3 v4 v6=>(lb (fun k0=>(lo fun aE=>(lo fun bI=>let a:=ww bI (ww aE (tt k0 nn));(lb (fun k1=>(lr 93 21 [1,1,1,0,1,0,0,1,0,0,1,1,1,0,0,1,0,0,1,0,0] 1 9 [(2,(ii 8))] (sl Kk 18 [] (a8 [2]) a6 (bl 2 3) (tt k1 a)))) (fun k1=>(sl Kk 22 [] ⟨[],[],Lv,Lz⟩ a6 (bl 2 1) (tt k1 a))))))) (fun k0=>(sl Kk 16 [] ⟨[],[],Lx,MB⟩ a6 [false] (tt k0 nn))))
theorem w1r (l0:List Pa):Xw prog (Zy prog 21) (PD l0) (Zm prog 21 [(.dat l0.length (Zz l0))] true []) (Y4 l0):=(lb (fun k0=>(lr 93 21 [1,0,1,0,0] 1 9 [(2,(ii 4))] (sl Kk 16 [] (a8 [2]) a6 [true] (tt k0 nn)))) (fun k0=>(sl Kk 20 [] ⟨[],[],Ly,MC⟩ a6 [false] (tt k0 nn))))
theorem u6g (l0:List Pa) (n:Nat) (vs:List B2) (h:Zo (Uy l0) n (Y4 l0)=.ret vs):Uj prog (Zy prog 21) (Zm prog 21 [(.dat l0.length (Zz l0))] true []) vs:=by have:=Zb (v1w l0) n _ (w1r l0);rwa [h] at this
inductive IW where
 | h0 (v3:Int)
def PC (l0:List Pa):IW->CB
 | .h0 v3=>⟨⟨53,0,true⟩,none,(Zg prog 9 [1,1,0,1,0,0] 0),none,(Zy prog 9),⟨Yj [(0,(.dat l0.length (Zz l0))),(3,(ii v3))],Vk [] 0,0,[],true⟩,[],.leaf⟩
def Lt :List (Option (List Nat)):=[some [0,3]]
def Lu :List (Option (List Nat)):=[]
def G5 (l0:List Pa):IW->Xz IW
 | .h0 v3=>(bif (decide (v3<(l0.length:Int))) then (bif ((decide (0<=v3/\v3<(l0.length:Int)))&&true) then (bif (decide ((((rd l0 v3.toNat).s.length :Nat):Int)>6)) then (.ret [(.bool false)]) else (bif (N9 (B3 (rd l0 v3.toNat).s)) then (bif (!(TM (B3 (rd l0 v3.toNat).s))) then (.ret [(.bool false)]) else (bif (!(EG (rd l0 v3.toNat).a (rd l0 v3.toNat).b (rd l0 v3.toNat).c (-2000000))) then (.ret [(.bool false)]) else (bif (!(EG (rd l0 v3.toNat).d (rd l0 v3.toNat).e (rd l0 v3.toNat).f (-2000000))) then (.ret [(.bool false)]) else (.to (.h0 (wrap .i64 (v3+1))))))) else .stuck)) else .stuck) else (.ret [(.bool (decide ((l0.length:Int)<=6)))]))
def Y5 (l0:List Pa):Xz IW:=(bif (decide ((l0.length:Int)>50)) then (.ret [(.bool (decide ((l0.length:Int)<=55)))]) else (.to (.h0 0)))
theorem v1v (l0:List Pa): ∀s,Xw prog (Zy prog 9) (PC l0) (PC l0 s) (G5 l0 s)
 | .h0 v3=>(lb (fun k0=>(lo fun aE=>let b:=ww aE (ww aE (tt k0 nn));(lb (fun k1=>(lr 53 9 [1,1,0,1,0,0,1,0,0,1,1,0,0] 1 9 [(2,(.bool false))] (sl Kk 58 [] (a8 [2]) a6 (CA 17 []) (tt k1 b)))) (fun k1=>(lo fun bU=>let a:=ww aE (tt k1 b);(lb (fun k2=>(lr 53 9 [1,1,0,1,0,0,1,0,0,1,1,0,0] 1 9 [(2,(.bool false))] (sl Kk 58 [] (a8 [2]) a6 (bl 17 130817) (tt k2 (pp (pp (xI R6 (rd l0 (tn v3)).s.length (Zz (rd l0 (tn v3)).s)) (xw bU)) a))))) (fun k2=>(lb (fun k3=>(lr 53 9 [1,1,0,1,0,0,1,0,0,1,1,0,0] 1 9 [(2,(.bool false))] (sl Kk 58 [] (a8 [2]) a6 (bl 17 126977) (tt k3 (tt k2 (pp (pp (xI R6 (rd l0 (tn v3)).s.length (Zz (rd l0 (tn v3)).s)) (xw bU)) a)))))) (fun k3=>(lb (fun k4=>(lr 53 9 [1,1,0,1,0,0,1,0,0,1,1,0,0] 1 9 [(2,(.bool false))] (sl Kk 58 [] (a8 [2]) a6 (bl 17 65537) (tt k4 (tt k3 (tt k2 (pp (pp (xI R6 (rd l0 (tn v3)).s.length (Zz (rd l0 (tn v3)).s)) (xw bU)) a))))))) (fun k4=>(sl Kk 62 [] ⟨[],[],Lt,Lu⟩ a6 (bl 17 1) (tt k4 (tt k3 (tt k2 (pp (pp (xI R6 (rd l0 (tn v3)).s.length (Zz (rd l0 (tn v3)).s)) (xw bU)) a)))))))))))))))) (fun k0=>(lr 53 3 [1,1,1,1,0] 1 9 [(2,(.bool (decide ((l0.length:Int)<=6))))] (sl Kk 17 [] (a8 [2]) a6 [false] (tt k0 nn)))))
theorem w1q (l0:List Pa):Xw prog (Zy prog 9) (PC l0) (Zm prog 9 [(.dat l0.length (Zz l0))] true []) (Y5 l0):=(lb (fun k0=>(lr 53 9 [1,0,1,0,0] 1 9 [(2,(.bool (decide ((l0.length:Int)<=55))))] (sl Kk 19 [] (a8 [2]) a6 [true] (tt k0 nn)))) (fun k0=>(sl Kk 20 [] ⟨[],[],Lt,Lu⟩ a6 [false] (tt k0 nn))))
theorem u6e (l0:List Pa) (n:Nat) (vs:List B2) (h:Zo (G5 l0) n (Y5 l0)=.ret vs):Uj prog (Zy prog 9) (Zm prog 9 [(.dat l0.length (Zz l0))] true []) vs:=by have:=Zb (v1v l0) n _ (w1q l0);rwa [h] at this
def eqB (t r:R6):Bool:=(((t.a == r.a)&&((t.b == r.b)&&((t.c == r.c)&&true)))&&(((t.d == r.d)&&((t.e == r.e)&&((t.f == r.f)&&true)))&&true))
def Fg (x y:R6):R6:=DF x.a x.b x.c x.d x.e x.f y.a y.b y.c y.d y.e y.f
def rvbR (x:R6):Bool:=Fn x.a x.b x.c x.d x.e x.f
def o6 :R6:=⟨0,0,0,0,0,0⟩
def OV (l:List Pa) (i:Nat):Bool:= !rvbR (CH (rd l i))||((rd l i).s.any (fun r=> !eqB (Fg r (CH (rd l i))) r)||(l.take i).any fun y=> !eqB (Fg (CH (rd l i)) (CH y)) o6)
def PE (l:List Pa):Nat->Nat->Int
 | 0,_=>0
 | k+1,i=>bif OV l i then 8 else PE l k (i+1)
def IY :List Pa->Int
 | []=>0
 | x::r=>bif Eu x.s != 0 then Eu x.s else IY r
def Mn (l:List Pa):Int:=bif decide (50<l.length) then 4 else bif IY l != 0 then IY l else PE l l.length 0
def XC (l:List Pa):Bool:=smP l
theorem v5u {l:List Pa} {i j:Nat} (hj:j<i) (hi:i<=l.length):(l.take i).drop j=rd l j::(l.take i).drop (j+1):=by
 have h1:j<(l.take i).length :=by grind
 rw [BA h1,Br,Yo (show j<l.length by omega)]
section
variable (l:List Pa) (hl:l.length<=1000)
include hl
theorem j3p (i:Nat) (hi:i<l.length): ∀(k j:Nat),j+k=i-> ∃n,∀N,Zo (Uy l) (N+n) (.to (.h3 (i:Int) (j:Int)))=bif ((l.take i).drop j).any (fun y=> !eqB (Fg (CH (rd l i)) (CH y)) o6) then .ret [.int .i64 8] else Zo (Uy l) N (.to (.h1 ((i+1:Nat):Int)))
 | 0,j,h=>by
  refine ⟨1,fun N=> ?_⟩
  grind [Zx,Uy,Zj]
 | k+1,j,h=>by
  have hj:j<i:=by omega
  obtain ⟨n,hn⟩:=j3p i hi k (j+1) (by omega);refine ⟨n+1,fun N=> ?_⟩;rw [<-AD,Zx,v5u hj (by omega),BS];have e:Uy l (.h3 (i:Int) (j:Int))=bif !eqB (Fg (CH (rd l i)) (CH (rd l j))) o6 then .ret [.int .i64 8] else .to (.h3 (i:Int) ((j+1:Nat):Int)):=by
   grind [Uy,eqB,Fg,CH,o6,Zj]
  grind [Zp]
theorem j3q (hs:smP l=true) (i:Nat) (hi:i<l.length): ∀(k j:Nat),j+k=(rd l i).s.length -> ∃n,∀N,Zo (Uy l) (N+n) (.to (.h2 (i:Int) (j:Int)))=bif ((rd l i).s.drop j).any (fun r=> !eqB (Fg r (CH (rd l i))) r)||(l.take i).any (fun y=> !eqB (Fg (CH (rd l i)) (CH y)) o6) then .ret [.int .i64 8] else Zo (Uy l) N (.to (.h1 ((i+1:Nat):Int)))
 | 0,j,h=>by obtain ⟨n,hn⟩:=j3p l hl i hi i 0 (by omega);refine ⟨n+1,fun N=> ?_⟩;rw [<-AD,Zx,As (by omega)];simp_all [Uy]
 | k+1,j,h=>by
  have hS:=v6s hs hi;have hj:j<(rd l i).s.length :=by omega
  obtain ⟨n,hn⟩:=j3q hs i hi k (j+1) (by omega);refine ⟨n+1,fun N=> ?_⟩;rw [<-AD,Zx,Yg hj,BS];have e:Uy l (.h2 (i:Int) (j:Int))=bif !eqB (Fg (rd (rd l i).s j) (CH (rd l i))) (rd (rd l i).s j) then .ret [.int .i64 8] else .to (.h2 (i:Int) ((j+1:Nat):Int)):=by simp (disch:=omega) only [Uy,eqB,Fg,CH,Yy,Yz,Zj,Zw,Zk,Ah,Ab]
  grind [Zp]
theorem j3r (hs:smP l=true): ∀(k i:Nat),i+k=l.length-> ∃n,Zo (Uy l) n (.to (.h1 (i:Int)))=.ret [.int .i64 (PE l k i)]
 | 0,i,h=>by refine ⟨1,?_⟩;rw [Zx];simp (disch:=omega) only [Uy,Yh,Aa,Zp];rfl
 | k+1,i,h=>by
  have hi:i<l.length:=by omega
  obtain ⟨m,hm⟩:=j3r hs k (i+1) (by omega);obtain ⟨n,hn⟩:=j3q l hl hs i hi (rd l i).s.length 0 (Af _);refine ⟨m+n+1,?_⟩;have e:Uy l (.h1 (i:Int))=bif !rvbR (CH (rd l i)) then .ret [.int .i64 8] else .to (.h2 (i:Int) ((0:Nat):Int)):=by simp_all [Uy,rvbR,CH]
  rw [Zx,e];show _=Xz.ret [.int .i64 (bif OV l i then 8 else PE l k (i+1))];unfold OV;rcases Zs (!rvbR (CH (rd l i))) with q | q;all_goals grind [Zp]
theorem j3s (hs:smP l=true): ∀(k i:Nat),i+k=l.length-> ∃n,Zo (Uy l) n (.to (.h0 (i:Int)))=.ret [.int .i64 (bif IY (l.drop i) != 0 then IY (l.drop i) else PE l l.length 0)]
 | 0,i,h=>by obtain ⟨m,hm⟩:=j3r l hl hs l.length 0 (Af _);refine ⟨m+1,?_⟩;rw [Zx,As (by omega)];simp (disch:=omega) only [Uy,Yh,Aa];exact hm
 | k+1,i,h=>by
  have hi:i<l.length:=by omega
  obtain ⟨m,hm⟩:=j3s hs k (i+1) (by omega);refine ⟨m+1,?_⟩;have e:Uy l (.h0 (i:Int))=bif Eu (rd l i).s != 0 then .ret [.int .i64 (Eu (rd l i).s)] else .to (.h0 ((i+1:Nat):Int)):=by
   grind [Uy,Zd,y8a,Zj]
  rw [Zx,e,Yg hi];unfold IY;rcases Zs (Eu (rd l i).s != 0) with q | q;all_goals grind [Zp]
end
theorem j9t (l:List Pa) (h:XC l=true): ∃n,Zo (Uy l) n (Y4 l)=.ret [.int .i64 (Mn l)]:=by
 have hl:=NY h;unfold Y4 Mn;by_cases g:50<l.length
 .exact ⟨0,by rw [Yt (by omega),Al g];rfl⟩
 .obtain ⟨n,hn⟩:=j3s l hl h l.length 0 (Af _)
  grind
def QR :List B2->Option (B2×Bool)
 | [a0]=>match CS Pa a0 with
  | some (L0,g0,n0)=>some (.int .i64 (Mn L0),CO Pa n0 g0&&(XC L0))
  | _=>none
 | _=>none
theorem t3g {S:B4} (hS:Zv prog S):Zv prog (S.with V4 QR):=by
 refine Qn hS (by kernel_rfl) fun args v h=> ?_;unfold QR at h;split at h
 .rename_i a0;split at h
  .rename_i L0 g0 n0 e0;simp only [Ad,Ac,Ae] at h;obtain ⟨rfl,ho0,hw⟩:=h;obtain ⟨N,hN⟩:=j9t L0 hw;exact ⟨_,_,(.cons (Yn e0 ho0) .nil),rfl,u6g L0 N _ hN,3,rfl⟩
  .cases h
 .cases h
def VR (P:Int->Int->Bool) (x:Int):Nat->Int->List R4
 | 0,_=>[]
 | k+1,y=>(bif P x y then [⟨x,y,x+1,y+1⟩] else [])++VR P x k (y+1)
def Mq (P:Int->Int->Bool) (m:Nat) (y:Int):Nat->Int->List R4
 | 0,_=>[]
 | k+1,x=>VR P x m y++Mq P m y k (x+1)
def uX (L:List R6) (i:Int):List Int:=bif i == 0 then Gx L 1 else Gx L 0
def uY (L:List R6) (i:Int):List Int:=bif i == 0 then Gx L 2 else bif i == 1 then Gx L 2 else Gx L 1
def Vl (xs:List Int):Int:=rd xs (xs.length - 1)
def K8 (xs:List Int):Nat:=(Vl xs - rd xs 0).toNat
def U8 (m:R6) (a p x y:Int):Bool:=bif eqB m o6 then true else I2 m.a m.b m.c m.d m.e m.f (Hp a p x y).a (Hp a p x y).b (Hp a p x y).c
def WO (S N:List R6) (m:R6) (a own oth x y:Int):Bool:=U8 m a oth x y&&(rh6V S (Hp a own x y).a (Hp a own x y).b (Hp a own x y).c && !rh6V N (Hp a oth x y).a (Hp a oth x y).b (Hp a oth x y).c)
def WH (S N:List R6) (m:R6) (d p:Int):List R4:=Ca 2 (Mq (WO S N m (B5 d) (EZ d p) (Dg d p)) (K8 (uY S (B5 d))) (rd (uY S (B5 d)) 0) (K8 (uX S (B5 d))) (rd (uX S (B5 d)) 0)) []
def TU (S:List R6):Bool:=decide (S.length<=6)&&S.all fun r=>decide (-12<=r.a/\r.a<=12)&&(decide (-12<=r.b/\r.b<=12)&&(decide (-12<=r.c/\r.c<=12)&&(decide (-12<=r.d/\r.d<=12)&&(decide (-12<=r.e/\r.e<=12)&&decide (-12<=r.f/\r.f<=12)))))
inductive Hu where
def OX (l0:List Pa):Hu->CB
 :=nofun
def w0a (l0:List Pa):Hu->Xz Hu
 :=nofun
def ZT (l0:List Pa):Xz Hu:=(bif (J7 (B3 l0)) then (bif ((Qe (B3 l0)) != 0) then (.ret [.nils,(.int .i64 (Qe (B3 l0)))]) else (bif (Jl (B3 l0)) then (.ret [(.dat (Yv (B3 l0)).length (Zz (Yv (B3 l0)))),(.int .i64 (Kt (B3 l0)))]) else .stuck)) else .stuck)
theorem v0e (l0:List Pa): ∀s,Xw prog (Zy prog 14) (OX l0) (OX l0 s) (w0a l0 s)
 :=nofun
theorem w0b (l0:List Pa):Xw prog (Zy prog 14) (OX l0) (Zm prog 14 [(.dat l0.length (Zz l0))] true []) (ZT l0):=(lo fun bN=>let a:=pp (pp (xr l0) (xw bN)) nn;(lb (fun k0=>(lr 14 14 [1,0,1,1,0,0] 1 14 [(2,.nils),(3,(ii (Qe (B3 l0))))] (sl Xq 24 [] (a8 [2,3]) a6 [true] (tt k0 a)))) (fun k0=>(lo fun o0=>let b:=Yv (B3 l0);(lr 14 3 [1,1,1,1,0] 1 14 [(2,(.dat b.length (Zz b))),(3,(ii (Kt (B3 l0))))] (sl Xq 28 [] (a8 [2,3]) a6 [false] (pp (pp (xr l0) (xw o0)) (tt k0 a))))))))
theorem u4d (l0:List Pa) (n:Nat) (vs:List B2) (h:Zo (w0a l0) n (ZT l0)=.ret vs):Uj prog (Zy prog 14) (Zm prog 14 [(.dat l0.length (Zz l0))] true []) vs:=by have:=Zb (v0e l0) n _ (w0b l0);rwa [h] at this
def Jf (l:List Pa):Int:=bif Qe l != 0 then Qe l else Kt l
def Zi (l:List Pa):List R6:=D8 (Jf l) (CT [] l)
def SW (l:List Pa):Bool:=smP l
theorem j7i (l:List Pa) (h:SW l=true): ∃n,Zo (w0a l) n (ZT l)=.ret (bif Qe l != 0 then [.nils,.int .i64 (Qe l)] else [.dat (Yv l).length (Zz (Yv l)),.int .i64 (Kt l)]):=⟨0,by
 have h:smP l=true:=h;have o2:Jl l=true:=Al (NY h);unfold ZT;simp only [Zd,show J7 l=true from h,o2,Ab];cases Qe l != 0 <;> rfl⟩
def QA :List B2->Option (B2×Bool)
 | [a0]=>match CS Pa a0 with
  | some (L0,g0,n0)=>some (.tup [.dat (Zi L0).length (Zz (Zi L0)),.int .i64 (Jf L0)],CO Pa n0 g0&&(SW L0))
  | _=>none
 | _=>none
theorem j7h (l:List Pa) (ρ:B6) (u:Value) (hu:VRel ρ (Ut (bif Qe l != 0 then [.nils,.int .i64 (Qe l)] else [.dat (Yv l).length (Zz (Yv l)),.int .i64 (Kt l)])) u):VRel ρ (.tup [.dat (Zi l).length (Zz (Zi l)),.int .i64 (Jf l)]) u:=by
 unfold Zi Jf;rcases Zs (Qe l != 0) with q | q
 .grind [H7,Uv]
 .rw [q,Aa] at hu ⊢;exact hu
theorem t2p {S:B4} (hS:Zv prog S):Zv prog (S.with v9z QA):=by
 refine Em hS (by kernel_rfl) fun args v h=> ?_;unfold QA at h;split at h
 .rename_i a0;split at h
  .rename_i L0 g0 n0 e0;simp only [Ad,Ac,Ae] at h;obtain ⟨rfl,ho0,hw⟩:=h;obtain ⟨N,hN⟩:=j7i L0 hw;exact ⟨_,_,(.cons (Yn e0 ho0) .nil),j7h L0,u4d L0 N _ hN,3,by cases Qe L0 != 0 <;> rfl⟩
  .cases h
 .cases h
def VW (x:Pa):Bool:= !decide ((x.s.length:Int)>6)&&(TM x.s&&(EG x.a x.b x.c (-2000000)&&EG x.d x.e x.f (-2000000)))
def Hq (l:List Pa):Bool:=bif decide ((l.length:Int)>50) then decide ((l.length:Int)<=55) else l.all VW&&decide ((l.length:Int)<=6)
def XD (_l:List Pa):Bool:=true
theorem j3o (l:List Pa) (hl:l.length<=50): ∀(k i:Nat),i+k=l.length-> ∃n,Zo (G5 l) n (.to (.h0 (i:Int)))=.ret [.bool ((l.drop i).all VW&&decide ((l.length:Int)<=6))]
 | 0,i,h=>by
  refine ⟨1,?_⟩
  grind [Zx,G5,Zp]
 | k +1,i,h=>by
  have hi:i<l.length:=by omega
  obtain ⟨n,hn⟩:=j3o l hl k (i+1) (by omega);refine ⟨n+1,?_⟩;rw [Zx,Yg hi,List.all_cons];have e:G5 l (.h0 (i:Int))=bif VW (rd l i) then .to (.h0 ((i+1:Nat):Int)) else .ret [.bool false]:=by
   unfold VW;cases q1:decide (((rd l i).s.length :Int)>6) with
   | true=>grind [G5]
   | false=>
    cases q2:TM (rd l i).s with
    | false=>grind [G5,N9,Zd]
    | true=>
     cases q3:EG (rd l i).a (rd l i).b (rd l i).c (-2000000) with
     | false=>grind [G5,N9]
     | true=>
      cases q4:EG (rd l i).d (rd l i).e (rd l i).f (-2000000) with
      | false=>grind [G5,N9]
      | true=>grind [G5,N9,Zd,Zj]
  grind [Zp]
theorem j9s (l:List Pa) (h:XD l=true): ∃n,Zo (G5 l) n (Y5 l)=.ret [.bool (Hq l)]:=by
 unfold Y5 Hq;by_cases g:(l.length:Int)>50
 .exact ⟨0,by rw [Yt g];rfl⟩
 .obtain ⟨n,hn⟩:=j3o l (by omega) l.length 0 (Af _)
  grind
def QQ :List B2->Option (B2×Bool)
 | [a0]=>match CS Pa a0 with
  | some (L0,g0,n0)=>some (.bool (Hq L0),CO Pa n0 g0&&(XD L0))
  | _=>none
 | _=>none
theorem t3f {S:B4} (hS:Zv prog S):Zv prog (S.with V3 QQ):=by
 refine Qn hS (by kernel_rfl) fun args v h=> ?_;unfold QQ at h;split at h
 .rename_i a0;split at h
  .rename_i L0 g0 n0 e0;simp only [Ad,Ac,Ae] at h;obtain ⟨rfl,ho0,hw⟩:=h;obtain ⟨N,hN⟩:=j9s L0 hw;exact ⟨_,_,(.cons (Yn e0 ho0) .nil),rfl,u6e L0 N _ hN,3,rfl⟩
  .cases h
 .cases h
theorem Rh (z:Int):CQ ([]:List R6) z=[]:=rfl
namespace CJ
variable {α β:Type} (D:CJ α β)
theorem refS (hs: ∀a b,D.same a b=true↔a=b) (sec:Int->List β) (cs:List Int): ∀(k i:Nat) (s:Sw α β) (out:List α) (last:List β) (first:Nat),
  s.out=out->s.last=last->(last≠ []->s.first=first)->(last=[]->out.length<=first)->(0<i->s.fin=rd cs i)->(i=0->last=[])->
  (D.goS sec cs k i s).out =D.ref sec cs k i out last first
 | 0,i,s,out,last,first,h1,h2,h3,h4,h5,h6=>h1
 | k +1,i,s,out,last,first,h1,h2,h3,h4,h5,h6=>by
  subst h1 h2;have e1:D.goS sec cs (k+1) i s=D.goS sec cs k (i+1) (D.oneS (sec (rd cs i)) (rd cs i) (rd cs (i+1)) s):=rfl;rw [e1];unfold ref;rcases Zs (decide (0<(sec (rd cs i)).length)&&((s.fin == rd cs i)&&D.same s.last (sec (rd cs i)))) with q | q
  .have e:D.oneS (sec (rd cs i)) (rd cs i) (rd cs (i+1)) s=⟨D.grow s.out s.first (rd cs (i+1)),s.last,s.first,rd cs (i+1)⟩:=by unfold oneS;rw [q];rfl
   simp only [Ae,Ar] at q;obtain ⟨q1,q2,q3⟩:=q;have q3:=(hs _ _).1 q3;have hne:s.last≠ []:=fun h=>by rw [h] at q3;rw [<-q3] at q1;exact BY _ q1
   have hi:0<i:=Nat.pos_of_ne_zero fun h=>hne (h6 h);have e2:(decide (0<i)&&D.same (sec (rd cs i)) s.last)=true:=by rw [Al hi,Ai,hs,q3]
   rw [e2,Ab,e];refine refS hs sec cs k (i+1) _ _ _ _ ?_ rfl h3 (fun h=>absurd h hne) (fun _=>rfl) (fun h=>by omega);rw [h3 hne]
  .have e:D.oneS (sec (rd cs i)) (rd cs i) (rd cs (i+1)) s=⟨s.out++(sec (rd cs i)).map (D.put (rd cs i) (rd cs (i+1))),sec (rd cs i),s.out.length,rd cs (i+1)⟩:=by unfold oneS;rw [q];rfl
   rcases Zs (decide (0<i)&&D.same (sec (rd cs i)) s.last) with q2 | q2
   .rw [q2,Ab,e];simp only [Ae,Ar] at q2;obtain ⟨hi,q3⟩:=q2;have q3:=(hs _ _).1 q3;rw [(hs s.last (sec (rd cs i))).2 q3.symm,Ah,h5 hi] at q;have hz:sec (rd cs i)=[]:=by
     cases h:sec (rd cs i) with
     | nil=>rfl
     | cons a b=>rw [h] at q;simp at q
    have hl:s.last=[]:=(by rw [<-q3,hz]);have hf:=h4 hl;rw [hz,Bi,AE];refine refS hs sec cs k (i+1) _ _ _ _ ?_ hl.symm (fun h=>absurd hl h) (fun _=> ?_) (fun _=>rfl) (fun h=>by omega)
    .exact (D.grow_nil _ _ _ hf).symm
    .rw [D.grow_length];exact hf
   .rw [q2,Aa,e];exact refS hs sec cs k (i+1) _ _ _ _ rfl rfl (fun _=>rfl) (fun h=>by rw [h];simp) (fun _=>rfl) (fun h=>by omega)
theorem refS0 (hs: ∀a b,D.same a b=true↔a=b) (sec:Int->List β) (cs:List Int):D.ref sec cs (cs.length - 1) 0 [] [] 0=(D.goS sec cs (cs.length - 1) 0 ⟨[],[],0,0⟩).out :=
 (D.refS hs sec cs _ 0 _ [] [] 0 rfl rfl (fun _=>rfl) (fun _=>Aq _) (fun h=>absurd h (BY _)) (fun _=>rfl)).symm
end CJ
theorem j8w (l:List R4) (hv:l.all Vo=true) (x:Int):EH (D4.inn l x)=Dz 2 l [] x:=by
 have hin:=D4.inn_length l x;have hvi:(D4.inn l x).all C7=true:=At.2 fun s hs=>by
  grind [NM,Vo,C7]
 obtain ⟨c1,c2⟩:=Sk _ hvi;obtain ⟨y1,y2⟩:=Wp (Dl l++Dl []);have e2:Dz 2 l [] x=DV (CW l []) ((CW l []).map fun y=>EL l x y):=by
  unfold Dz
  congr 1
  simp_all [u2n]
 obtain ⟨d1,d2⟩:=w9s (CW l []) y1 (fun y=>EL l x y) (D4.inn l x) (fun s hs=>by
  obtain ⟨r,hr,_,_,rfl⟩:=NM hs;unfold CW;exact ⟨(y2 _).2 (AI.2 (.inl (AK.2 ⟨r,hr,by simp⟩))),(y2 _).2 (AI.2 (.inl (AK.2 ⟨r,hr,by simp⟩)))⟩) (fun y=>by
  unfold EL;rw [List.any_eq_true];constructor
  .rintro ⟨r,hr,h⟩;simp only [Po,Ae,Ar] at h;exact ⟨_,u0k hr h.1 h.2.1,h.2.2.1,h.2.2.2⟩
  .rintro ⟨s,hs,h1,h2⟩
   grind [NM,Po])
 grind [w9r]
theorem j7l :EH []=[]:=by obtain ⟨h1,h2⟩:=Sk [] rfl;exact y2i Ci h1 fun q hq=>by obtain ⟨s,hs,_⟩:=(h2 q).1 hq;cases hs
theorem Pe {l:List R4} (hv: ∀r∈l,Vo r=true):Xr.can (Ca 2 l [])/\ ∀p,CI Xr.inB (Ca 2 l []) p↔CI Xr.inB l p:=by
 have e:Ca 2 l []=(D4.goS (fun x=>EH (D4.inn l x)) (D4.cuts (l++[])) ((D4.cuts (l++[])).length - 1) 0 ⟨[],[],0,0⟩).out :=by rw [AE,Ca,w8x,<-u3q,<-CJ.refS0 D4 XH];simp_all [j8w]
 rw [e];have hs: ∀x,Ci.can (EH (D4.inn l x))/\ ∀y,CI Ci.inB (EH (D4.inn l x)) y↔CI Ci.inB (D4.inn l x) y:=fun x=>Sk _ (Ku hv x);obtain ⟨h1,h2⟩:=CJ.goJ_can GZ XH Ci l [] (fun s _=>EH s) (fun x=>(hs x).1) j7l;refine ⟨h1,fun ⟨x,y⟩=> ?_⟩;rw [show CI Xr.inB _ (x,y)↔_ from h2 x y,(hs x).2,CJ.pt_inn];rfl
def Fk (l:List R6):List R6:=D6.ref (D0 2 l []) (D6.cuts l) ((D6.cuts l).length - 1) 0 [] [] 0
theorem Pf :Ca 2 [] []=[]:=rfl
theorem u5a {l:List R6} (hv: ∀r∈l,Qv r=true):C5.can (Fk l)/\ ∀x y z,CY (Fk l) x y z↔CY l x y z:=by
 have e:Fk l=(D6.goS (fun z=>Ca 2 (D6.inn l z) []) (D6.cuts (l++[])) ((D6.cuts (l++[])).length - 1) 0 ⟨[],[],0,0⟩).out :=by rw [AE,<-CJ.refS0 D6 SS];rfl
 rw [e];have hq: ∀z,Xr.can (Ca 2 (D6.inn l z) [])/\ ∀p,CI Xr.inB (Ca 2 (D6.inn l z) []) p↔CI Xr.inB (D6.inn l z) p:=fun z=>Pe (NG hv z);obtain ⟨h1,h2⟩:=CJ.goJ_can HE SS Xr l [] (fun s _=>Ca 2 s []) (fun x=>(hq x).1) Pf;refine ⟨h1,fun x y z=> ?_⟩;rw [Jr,Jr,show CI C5.inB _ (z,x,y)↔_ from h2 z (x,y),(hq z).2,CJ.pt_inn];rfl
theorem j0r (a b:List R4):CN a b=CN (a++b) []:=by grind [CN,EE]
theorem Na (a b:List R4):CW a b=CW (a++b) []:=by grind [CW,Dl]
theorem j8x (a b:List R4) (x:Int):Dz 2 a b x=Dz 2 (a++b) [] x:=by
 unfold Dz;rw [Na]
 congr 1
 simp_all [HN,KD,EL]
theorem u0r (a b:List R4): ∀(k i:Nat) (out:List R4) (last:List R2) (first:Nat),jF 2 a b k i out last first=jF 2 (a++b) [] k i out last first
 | 0,_,_,_,_=>rfl
 | k+1,i,out,last,first=>by unfold jF;rw [j0r,j8x,u0r a b k,u0r a b k]
theorem Pg (a b:List R4):Ca 2 a b=Ca 2 (a++b) []:=by unfold Ca;rw [j0r,u0r]
theorem Ri (a b:List R6) (z:Int):CQ (a++b) z=CQ a z++CQ b z:=by grind [CQ]
theorem u5g (a b:List R6) (z:Int):D0 2 a b z=D0 2 (a++b) [] z:=by grind [D0,Pg,Ri,Rh]
theorem u2i (a b:List R6):Vn a b=D6.cuts (a++b):=by grind [w6s,Vn,EF]
def okJ (a b:List R6):Nat->Nat->Bool
 | 0,_=>true
 | k+1,i=>bif FD 2 a b (rd (D6.cuts (a++b)) i) then false else okJ a b k (i+1)
theorem t1z (a b:List R6): ∀(k i:Nat) (out:List R6) (last:List R4) (first:Nat),HV 2 a b k i out last first=bif okJ a b k i then some (D6.ref (D0 2 (a++b) []) (D6.cuts (a++b)) k i out last first) else none
 | 0,_,_,_,_=>rfl
 | k+1,i,out,last,first=>by
  unfold HV okJ CJ.ref;rw [u2i];rcases Zs (FD 2 a b (rd (D6.cuts (a++b)) i)) with q | q
  .rw [q];rfl
  .rw [q,Aa,Aa,u5g,t1z a b k,t1z a b k];have e:D6.same (D0 2 (a++b) [] (rd (D6.cuts (a++b)) i)) last=Uw (D0 2 (a++b) [] (rd (D6.cuts (a++b)) i)) last:=rfl;rw [e];cases (decide (0<i)&&Uw (D0 2 (a++b) [] (rd (D6.cuts (a++b)) i)) last) <;> rfl
theorem WC (a b:List R6):HU 2 a b=bif okJ a b ((D6.cuts (a++b)).length - 1) 0 then some (Fk (a++b)) else none:=by unfold HU;rw [t1z,u2i];rfl
theorem t1y {a b:List R6} (h:HL 2 a b=true):ER 2 a b=Fk (a++b)/\(Fk (a++b)).length <=400:=by
 unfold HL at h;unfold ER;rw [WC] at h ⊢
 grind
theorem w4c (l:List R6) (x y z:Int):CI Xr.inB (D6.inn l z) (x,y)↔CY l x y z:=by rw [Jr,CJ.pt_inn];rfl
open Go.Proofs Go.Sort Go.Shelf Go.RowKit Go.Lib
def Hy {β:Type}:List (CU β)->List Int
 | []=>[]
 | [g]=>[g.a,g.b]
 | g::h::r=>g.a::Hy (h::r)
theorem v6e {β:Type}: ∀G:List (CU β),G≠ []->(Hy G).length =G.length+1
 | [],h=>absurd rfl h
 | [g],_=>rfl
 | g::h::r,_=>by show (Hy (h::r)).length +1=_;rw [v6e (h::r) (by simp)];rfl
section
variable {β γ:Type} {M:Sem β γ}
def chG (M:Sem β γ) (G:List (CU β)) (x:Int):Prop:= ∃q,¬(Dc M G (x - 1) q↔Dc M G x q)
theorem w0k : ∀(g:CU β) (r:List (CU β)),C6 M (g::r)-> ∀x∈Hy (g::r),g.a<=x
 | g,[],h,x,hx=>by
  have:=h.head.1;have hx:x∈ [g.a,g.b]:=hx
  grind
 | g,k::r,h,x,hx=>by
  have hx:x∈g.a::Hy (k::r):=hx;rcases AH.1 hx with rfl | hx
  .grind
  .have:=w0k k r h.tail x hx;have:=h.later k (by simp);have:=h.head.1;omega
theorem v6g : ∀G:List (CU β),C6 M G->(Hy G).Pairwise (· < ·)
 | [],_=>.nil
 | [g],h=>by have:=h.head.1;show [g.a,g.b].Pairwise (· < ·);simp [this]
 | g::k::r,h=>by refine AQ.2 ⟨fun x hx=> ?_,v6g (k::r) h.tail⟩;have:=w0k k r h.tail x hx;have:=h.later k (by simp);have:=h.head.1;omega
theorem x6r {g:CU β} {r:List (CU β)} (h:C6 M (g::r)):chG M (g::r) g.a:=by obtain ⟨q,hq⟩:=M.some _ h.head.2.1 h.head.2.2;refine ⟨q,fun e=> ?_⟩;have:=h.low (e.2 ((h.sec0 ⟨A5 _,h.head.1⟩ q).2 hq));omega
theorem v6f : ∀G:List (CU β),C6 M G-> ∀x∈Hy G,chG M G x
 | [],_,x,hx=>by cases hx
 | [g],h,x,hx=>by
  have hx:x∈ [g.a,g.b]:=hx;simp only [AH,Bo,B1] at hx;rcases hx with rfl | rfl
  .exact x6r h
  .obtain ⟨q,hq⟩:=M.some _ h.head.2.1 h.head.2.2;have hp:=h.head.1;refine ⟨q,fun e=> ?_⟩;have:=e.1 ((h.sec0 ⟨by omega,by omega⟩ q).2 hq);obtain ⟨k,hk,_⟩:=(h.rest g.b q).2 ⟨A5 _,this⟩;cases hk
 | g::k::r,h,x,hx=>by
  have hx:x∈g.a::Hy (k::r):=hx;rcases AH.1 hx with rfl | hx
  .exact x6r h
  .have h1:=w0k k r h.tail x hx;have h2:=h.later k (by simp);have hp:=h.head.1;obtain ⟨q,hq⟩:=v6f (k::r) h.tail x hx;by_cases e:g.b<x
   .refine ⟨q,fun k1=>hq ?_⟩;rw [h.rest,h.rest,k1];constructor <;> exact fun ⟨_,m⟩=>⟨by omega,m⟩
   .refine Ba fun hn=> ?_;have hn: ∀q,Dc M (g::k::r) (x - 1) q↔Dc M (g::k::r) x q:=fun q=>Ba fun m=>hn ⟨q,m⟩;cases h with
    | cons _ _ _ ok nx kk=>refine nx.2 (by omega) (M.uniq _ _ ok.2.1 kk.head.2.1 fun q=> ?_);have hk:=kk.head.1;rw [<-(C6.cons g k r ok nx kk).sec0 (x:=x - 1) ⟨by omega,by omega⟩ q,hn q,<-kk.sec0 (x:=x) ⟨by omega,by omega⟩ q,(C6.cons g k r ok nx kk).rest];exact ⟨fun m=>⟨by omega,m⟩,fun m=>m.2⟩
theorem u4y {G:List (CU β)} (h:C6 M G) (U:List Int) (hU: ∀x,chG M G x->x∈U):G.length<=U.length - 1:=by
 cases G with
 | nil=>grind
 | cons g r=>
  have:=y8l (Hy (g::r)) U ((v6g _ h).imp fun {a b} k=>by omega) fun x hx=>hU x (v6f _ h x hx)
  grind [v6e]
end
theorem u2z {β γ:Type} {M:Sem β γ}: ∀G:List (CU β),C6 M G->G.Pairwise fun g k=>g.b<=k.a
 | [],_=>.nil
 | g::r,h=>AQ.2 ⟨h.later,u2z r h.tail⟩
theorem u1h {α β:Type} (D:CJ α β) (k:Nat): ∀G:List (CU β),(∀g∈G,g.s.length<=k)->(D.flat G).length <=G.length*k
 | [],_=>AA _
 | g::r,h=>by have ih:=u1h D k r fun x hx=>h x (by simp [hx]);have:=h g (by simp);show ((g.s.map (D.put g.a g.b))++D.flat r).length <=_;rw [AP,Bu,Bn,Nat.succ_mul];omega
theorem t5g {l:List R4} (hc:Xr.can l) (P:Int->Int->Prop) (hp: ∀x y,CI Xr.inB l (x,y)↔P x y) (U:List Int) (hU: ∀x y,¬(P (x - 1) y↔P x y)->x∈U) (k:Nat)
  (hk: ∀(x:Int) (s:List R2),Ci.can s->(∀y,CI Ci.inB s y↔P x y)->s.length<=k):l.length<=(U.length - 1)*k:=by
 obtain ⟨G,hG,rfl⟩:=hc;have e: ∀x y,Dc Ci G x y↔P x y:=fun x y=>by rw [<-hp];exact (CJ.flat_pt GZ Ci G x y).symm
 refine AF (u1h D4 k G fun g hg=>hk g.a g.s (hG.all g hg).2.1 fun y=> ?_) (AC k (u4y hG U fun x ⟨q,hq⟩=>hU x q (by grind)));have hg1:=(hG.all g hg).1;have c1:=CJ.inn_can GZ Ci g.a G hG;rw [<-hp];constructor
 .intro m;exact (CJ.flat_pt GZ Ci G g.a y).2 ⟨g,hg,A5 _,hg1,m⟩
 .intro m;obtain ⟨k,hk,k1,k2,k3⟩:=(CJ.flat_pt GZ Ci G g.a y).1 m;have:k=g:=by
   obtain ⟨i,hi,ei⟩:=AJ hg;obtain ⟨j,hj,ej⟩:=AJ hk;have pw:=u2z G hG;have pw:=AY.1 pw
   grind
  grind
theorem j6i (c:Nat): ∀(l E:List Int),l.Pairwise (· ≠ ·)->(∀x∈l,c<=E.count x)->c*l.length<=E.length
 | [],E,_,_=>AA _
 | x::l,E,h,hs=>by
  obtain ⟨h1,h2⟩:=AQ.1 h;have hx:=hs x (by simp);have:=j6i c l (E.filter fun y=> !(y == x)) h2 fun y hy=>by
   rw [List.count_filter (by grind)]
   grind
  have e:E.length=E.count x+(E.filter fun y=> !(y == x)).length :=by
   have:=List.length_eq_countP_add_countP (fun y=>y == x) (l:=E);rw [this,List.countP_eq_length_filter (p:=fun a=>decide ¬(a == x)=true)]
   congr 2
   refine List.filter_congr fun a _=> ?_
   grind
  rw [Bn,Nat.mul_succ];omega
theorem j7t {s:List R2} (hc:Ci.can s) (E:List Int) (c:Nat) (hE: ∀y,¬(CI Ci.inB s (y - 1)↔CI Ci.inB s y)->c<=E.count y):c*(2*s.length)<=E.length:=by have hc:Co s:=hc;have:=j6i c (Ey s) E ((ZZ hc).imp fun {a b} k=>by omega) fun y hy=>hE y fun e=>WQ hc hy e;rwa [XY] at this
def En (x:Int):Prop:= -12<=x/\x<12
def nb2 (R:List R4):Prop:= ∀u v,CI Xr.inB R (u,v)->En u/\En v
def EK (L:List R6):Prop:= ∀x y z,CY L x y z->En x/\En y/\En z
def JO :List Int:=(List.range 25).map fun (n:Nat)=>(n:Int) - 12
theorem u3p {x:Int} (h: -12<=x/\x<=12):x∈JO:=AO.2 ⟨(x+12).toNat,A6.2 (by omega),by omega⟩
theorem v8s {R:List R4} (hc:Xr.can R) (U W:List Int) (hU: ∀u v,¬(CI Xr.inB R (u - 1,v)↔CI Xr.inB R (u,v))->u∈U) (hW: ∀u v,¬(CI Xr.inB R (u,v - 1)↔CI Xr.inB R (u,v))->v∈W):
  R.length<=(U.length - 1)*(W.length / 2)/\ ∀x,(D4.inn R x).length <=W.length / 2:=by
 have sp: ∀(x:Int) (s:List R2),Ci.can s->(∀y,CI Ci.inB s y↔CI Xr.inB R (x,y))->s.length<=W.length / 2:=fun x s hs hy=>by have:=j7t hs W 1 fun y hn=>List.count_pos_iff.2 (hW x y (by grind));omega
 exact ⟨t5g hc (fun u v=>CI Xr.inB R (u,v)) (fun _ _=>Iff.rfl) U (fun x y hn=>hU x y hn) _ sp,fun x=>sp x _ (YO hc x) fun y=>UA R x y⟩
theorem x5a {R:List R4} (hc:Xr.can R) (h:nb2 R):R.length<=288/\ ∀x,(D4.inn R x).length <=12:=by
 have key: ∀{a b:Prop} {x:Int},¬(a↔b)->(a->En (x - 1))->(b->En x)->x∈JO:=fun {a b x} hn ha hb=>u3p (by
  grind [En])
 have:=v8s hc JO JO (fun u v hn=>key hn (fun k=>(h _ _ k).1) fun k=>(h _ _ k).1) (fun u v hn=>key hn (fun k=>(h _ _ k).2) fun k=>(h _ _ k).2);have e:JO.length=25:=rfl
 grind
theorem w5i (q:Ax) (L:List R6) (p:Int):Do q.ix L p=Cf q L p:=by cases q <;> rfl
theorem w7z (q:Ax) (L:List R6):CE q.ix L=CR q L:=by cases q <;> rfl
section
variable {L:List R6} (h:Zf L=0)
include h
theorem HG (q:Ax) (p:Int):Xr.can (D4.out (Cf q L p))/\(∀u v,CI Xr.inB (D4.out (Cf q L p)) (u,v)↔q.inL L p u v)/\ ∀r∈D4.out (Cf q L p),Vo r=true:=by obtain ⟨hl,hv,_,_⟩:=Xs h;obtain ⟨h1,h2⟩:=Ko (S8 q hv p) (AF (x5r q L p) hl);exact ⟨h1,fun u v=>by rw [h2,UQ],YD h1 fun u v k=>x3p (S8 q hv p) ((h2 _).1 k)⟩
theorem NO (hn:EK L) (q:Ax) {p u v:Int} (k:q.inL L p u v):En p/\En u/\En v:=by
 have _u:=h;rw [q.inL_S] at k;have:=hn _ _ _ k;cases q
 .exact this
 .exact ⟨this.2.1,this.1,this.2.2⟩
 .exact ⟨this.2.2,this.1,this.2.1⟩
theorem w9o (hn:EK L) (q:Ax) (p:Int):Wz q.ix L p=0/\Ze q.ix L p=D4.out (Cf q L p)/\(D4.out (Cf q L p)).length <=288/\ ∀x,(D4.inn (D4.out (Cf q L p)) x).length <=12:=by
 obtain ⟨hl,hv,_,_⟩:=Xs h;obtain ⟨c,pts,_⟩:=HG h q p;obtain ⟨n1,n2⟩:=x5a c fun u v k=>(NO h hn q ((pts u v).1 k)).2
 grind [Qk,S8,x5r,Wz,Ze,w5i]
end
theorem w7h {L:List R6} (h:Zf L=0):C5.can L:=by
 obtain ⟨hl,hv,_,_⟩:=Xs h
 grind [Eu,w9q,Gs,E6,t1y,u5a]
theorem Tu {L:List R6} (h:Zf L=0) (z:Int):Xr.can (D6.inn L z)/\(∀r∈D6.inn L z,Vo r=true)/\(D6.inn L z).length <=400/\D4.out (D6.inn L z)=D6.inn L z:=by
 obtain ⟨hl,hv,e,_⟩:=Xs h;have hc:C5.can L:=w7h h;obtain ⟨G,hG,e⟩:=hc;have c:Xr.can (D6.inn L z):=by grind [CJ.inn_can,HE]
 have v:=NG hv z;have n:=AF (D6.inn_length L z) hl;exact ⟨c,v,n,Xr.uniq _ _ (Ko v (by omega)).1 c (Ko v (by omega)).2⟩
theorem Pn {L:List R6} (h:EK L) (z:Int):nb2 (D6.inn L z):=fun u v k=>by
 have:=h u v z ((w4c L u v z).1 k)
 grind
section
variable {a b:List R6} (ha:Zf a=0) (hb:Zf b=0) (na:EK a) (nb:EK b)
include ha hb na nb
theorem VQ (x:Int):Ck .u a b x=0:=by
 obtain ⟨a1,a2,a3,a4⟩:=Tu ha x;obtain ⟨b1,b2,b3,b4⟩:=Tu hb x;obtain ⟨ma0,ma1⟩:=Qk a2 a3 (by grind);obtain ⟨mb0,mb1⟩:=Qk b2 b3 (by grind)
 grind [x5a,Pn,GH,nb2,Cp,x4s,Ck]
theorem VL :Da .u a b=D7 (Dq .u a b).length :=by unfold Da;rw [ha,hb,w4u (VQ ha hb na nb)];rfl
theorem VD :C5.can (Dq .u a b)/\ ∀x y z,CY (Dq .u a b) x y z↔CY a x y z\/CY b x y z:=by
 have hS: ∀x,C9 .u a b x=DI 0 (D6.inn a x) (D6.inn b x):=fun x=>by
  grind [Tu,Qk,C9]
 have e:Dq .u a b=(D6.goS (fun x=>DI 0 (D6.inn a x) (D6.inn b x)) (D6.cuts (a++b)) ((D6.cuts (a++b)).length - 1) 0 ⟨[],[],0,0⟩).out :=by unfold Dq;rw [show C9 .u a b=fun x=>DI 0 (D6.inn a x) (D6.inn b x) from funext hS]
 have j:=fun x=>GH 0 (Tu ha x).2.1 (Tu hb x).2.1;obtain ⟨h1,h2⟩:=CJ.goJ_can HE SS Xr a b (DI 0) (fun x=>(j x).1) (by
  obtain ⟨j1,j2,j3⟩:=GH 0 (a:=[]) (b:=[]) (fun r hr=>by cases hr) (fun r hr=>by cases hr);simp_all)
 rw [e];refine ⟨h1,fun x y z=> ?_⟩;have _u:=na;have _v:=nb;rw [Jr,show CI C5.inB _ (z,x,y)↔_ from h2 z (x,y),(j z).2.1,<-w4c a,<-w4c b];simp [Cp]
end
theorem KN {S:List R6} (h:TU S=true):EK S/\S.length<=6:=by
 obtain ⟨h1,h2⟩:=BH.1 h;refine ⟨fun x y z ⟨r,hr,k1,k2,k3⟩=> ?_,Az h1⟩
 grind [En]
theorem v7g {l:List Pa}: ∀k i,Fm l k i=0-> ∀j,i<=j->j<i+k->EY l j=false
 | 0,i,_,j,h1,h2=>by omega
 | k+1,i,h,j,h1,h2=>by
  have h:(bif EY l i then (8:Int) else Fm l k (i+1))=0:=h;rcases Zs (EY l i) with q | q
  .rw [q] at h;cases h
  .rw [q,Aa] at h;rcases A1 h1 with rfl | h1
   .exact q
   .exact v7g k (i+1) h j h1 (by omega)
def Eb (b:R6) (x y z:Int):Prop:=(b.a<=x/\x<b.d)/\(b.b<=y/\y<b.e)/\(b.c<=z/\z<b.f)
structure VH (l:List Pa):Prop where
 len:l.length<=50
 sck: ∀i,i<l.length->Zf (rd l i).s =0
 val: ∀i,i<l.length->Zf [CH (rd l i)]=0
 ins: ∀i,i<l.length-> ∀x y z,CY (rd l i).s x y z->Eb (CH (rd l i)) x y z
 dis: ∀i j,i<l.length->j<l.length-> ∀x y z,Eb (CH (rd l i)) x y z->Eb (CH (rd l j)) x y z->i=j
theorem G3 {l:List Pa} (h:Qe l=0):VH l:=by
 obtain ⟨h5,hE,hG⟩:=w7f h;have bad:=v7g _ _ hG;have b3: ∀i,i<l.length->Zf [CH (rd l i)]=0/\(rd l i).s.any (fun r=> !insR r (CH (rd l i)))=false/\(l.take i).any (fun y=>Gk (CH (rd l i)) (CH y))=false:=fun i hi=>by
  grind [EY]
 have half: ∀i j,i<l.length->j<i-> ∀x y z,Eb (CH (rd l i)) x y z->Eb (CH (rd l j)) x y z->False:=fun i j hi hj x y z h1 h2=>by
  have:=List.any_eq_false.1 (b3 i hi).2.2 (rd l j) (by
   rw [Yo (show j<l.length by omega)];refine BM.2 ⟨j,by grind,?_⟩
   grind)
  grind [Eb,Gk,Mj]
 refine ⟨h5,fun i hi=>(UB h hi).1,fun i hi=>(b3 i hi).1,fun i hi x y z ⟨r,hr,k1,k2,k3⟩=> ?_,fun i j hi hj x y z h1 h2=> ?_⟩;all_goals grind [insR,Mh,Eb]
theorem w1c :Zf []=0:=by refine SL (AA _) (fun r hr=>by cases hr) ⟨[],.nil,rfl⟩
theorem t1l :EK []:=fun x y z ⟨r,hr,_⟩=>by cases hr
def Vs (q:Ax) (s:Bool):Nat:=match q,s with
 | .x,true=>0
 | .x,false=>1
 | .y,true=>2
 | .y,false=>3
 | .z,true=>4
 | .z,false=>5
theorem KC (q:Ax) (s:Bool):B5 (Vs q s:Int)=q.ix:=by cases q <;> cases s <;> rfl
def Jz (s:Bool) (p:Int):Int:=match s with
 | true=>p - 1
 | false=>p
def Qw (s:Bool) (p:Int):Int:=match s with
 | true=>p
 | false=>p - 1
theorem v9h (q:Ax) (s:Bool) {p:Int} (hp: -12<=p/\p<=12):EZ (Vs q s:Int) p=Jz s p/\Dg (Vs q s:Int) p=Qw s p:=by have w:wrap .i64 (p - 1)=p - 1:=Zj (by omega);unfold EZ Dg Jz Qw;rw [w];cases q <;> cases s <;> exact ⟨rfl,rfl⟩
theorem j2o (L:List R6) (x y z:Int):rh6V L x y z=true↔CY L x y z:=by grind [rh6V,VN,CY,VO]
theorem opD {A B:Prop} [Decidable A] [Decidable B]:Cp 2 (decide A) (decide B)=true↔A/\ ¬B:=by simp [Cp]
theorem opE {A B:Prop} [Decidable A] [Decidable B]:Cp 1 (decide A) (decide B)=true↔A/\B:=by simp [Cp]
theorem x4p (q:Op) {a b:List R4} (h:Dr q a b=0):Wi q a b=DI q.k a b:=by unfold Wi;rw [h];rfl
def FS (q:Ax) (s:Bool) (S A:List R6) (p:Int):List R4:=DI 2 (D4.out (Cf q S (Jz s p))) (D4.out (Cf q A (Qw s p)))
section
variable {S A:List R6} (hS:Zf S=0) (hA:Zf A=0) (nS:EK S) (nA:EK A)
include hS hA
theorem w9y (q:Ax) (s:Bool) (p:Int):Xr.can (FS q s S A p)/\ ∀u v,CI Xr.inB (FS q s S A p) (u,v)↔q.inL S (Jz s p) u v/\ ¬q.inL A (Qw s p) u v:=by grind [HG,GH,FS,opD]
include nS
theorem j6u (q:Ax) (s:Bool) (p:Int):(FS q s S A p).length <=288:=by obtain ⟨c,pts⟩:=w9y hS hA q s p;exact (x5a c fun u v k=>(NO hS nS q ((pts u v).1 k).1).2).1
include nA
theorem w0v (q:Ax) (s:Bool) {p:Int} (hp: -12<=p/\p<=12):DG S A (Vs q s:Int) p=0/\Qd S A (Vs q s:Int) p=FS q s S A p:=by obtain ⟨o1,o2⟩:=v9h q s hp;obtain ⟨a0,a1,a2,a3⟩:=w9o hS nS q (Jz s p);obtain ⟨b0,b1,b2,b3⟩:=w9o hA nA q (Qw s p);obtain ⟨ca,_,va⟩:=HG hS q (Jz s p);obtain ⟨cb,_,vb⟩:=HG hA q (Qw s p);have fl:=j6u hS hA nS q s p;have e:=x4s .d (by omega) (by omega) va vb ca cb (fun x=>by grind) (show (FS q s S A p).length <=400 by omega);unfold DG Qd;rw [KC,o1,o2,a0,b0,a1,b1,x4p .d e];refine ⟨?_,rfl⟩;show Dr .d _ _=0;exact e
end
theorem PU {S:List R6} (h:TU S=true) (q:Ax) {p:Int} (hp:p∈CR q S): -12<=p/\p<=12:=by obtain ⟨r,hr,e⟩:=(Tz q S p).1 hp;have b:=At.1 (BH.1 h).2 r hr;simp only [Ae,Ar] at b;cases q <;> simp only [Ax.lo,Ax.hi] at e <;> omega
theorem j6h {d:Nat} (h:d<6): ∃q s,d=Vs q s:=by
 have:d=0\/d=1\/d=2\/d=3\/d=4\/d=5:=by omega
 rcases this with rfl | rfl | rfl | rfl | rfl | rfl
 .exact ⟨.x,true,rfl⟩
 .exact ⟨.x,false,rfl⟩
 .exact ⟨.y,true,rfl⟩
 .exact ⟨.y,false,rfl⟩
 .exact ⟨.z,true,rfl⟩
 .exact ⟨.z,false,rfl⟩
theorem x8m (E:Int->Int): ∀l:List Int,(∀p∈l,E p=0)->DE E l=0
 | [],_=>rfl
 | p::l,h=>by unfold DE;rw [h p (by simp)];exact x8m E l fun x hx=>h x (by simp [hx])
section
variable {S N:List R6} {m:R6} {E:Int->Int->Int} {M:Int->Int->List R4} (hr:TU S=true)
 (hE: ∀q s p,-12<=p/\p<=12->E (Vs q s:Int) p=0) (hM: ∀q s p,-12<=p/\p<=12->M (Vs q s:Int) p=WH S N m (Vs q s:Int) p)
include hr
theorem y9t (hE: ∀q s p,-12<=p/\p<=12->E (Vs q s:Int) p=0): ∀k d,d+k=6->E9 E S k d=0
 | 0,_,_=>rfl
 | k+1,d,h=>by
  obtain ⟨q,s,e⟩:=j6h (show d<6 by omega);have z:DE (E (d:Int)) (CE (B5 (d:Int)) S)=0:=by rw [e,KC,w7z];exact x8m _ _ fun p hp=>hE q s p (PU hr q hp)
  show (bif DE (E (d:Int)) (CE (B5 (d:Int)) S) != 0 then DE (E (d:Int)) (CE (B5 (d:Int)) S) else E9 E S k (d+1))=0;rw [z];exact y9t hE k (d+1) (by omega)
end
theorem w9t (M:Int->Int->List R4) (S:List R6):(DB M S 6 0).length =(Kj M (Vs .x true:Int) (CR .x S)).length +(Kj M (Vs .x false:Int) (CR .x S)).length +((Kj M (Vs .y true:Int) (CR .y S)).length +(Kj M (Vs .y false:Int) (CR .y S)).length)+((Kj M (Vs .z true:Int) (CR .z S)).length +(Kj M (Vs .z false:Int) (CR .z S)).length):=by
 have e:DB M S 6 0=Kj M ((0:Nat):Int) (CE (B5 ((0:Nat):Int)) S)++(Kj M ((0+1:Nat):Int) (CE (B5 ((0+1:Nat):Int)) S)++(Kj M ((0+1+1:Nat):Int) (CE (B5 ((0+1+1:Nat):Int)) S)++(Kj M ((0+1+1+1:Nat):Int) (CE (B5 ((0+1+1+1:Nat):Int)) S)++(Kj M ((0+1+1+1+1:Nat):Int) (CE (B5 ((0+1+1+1+1:Nat):Int)) S)++(Kj M ((0+1+1+1+1+1:Nat):Int) (CE (B5 ((0+1+1+1+1+1:Nat):Int)) S)++[]))))):=rfl
 grind [Vs,KC,w7z]
theorem x5p (M:Int->Int->List R4) (d:Int): ∀P:List Int,(Kj M d P).length =(P.map fun p=>(M d p).length).sum
 | []=>rfl
 | p::P=>by have ih:=x5p M d P;show ((M d p).map _++Kj M d P).length =_;rw [AP,Bu,ih,AT,BT]
theorem v5x (e:Int) (f g:Int->Nat): ∀P:List Int,(∀p∈P,f p<=288/\(p≠e->f p<=g p))->(P.map f).sum <=288*(P.map fun p=>if e=p then 1 else 0).sum +(P.map g).sum
 | [],_=>AA _
 | p::P,h=>by
  have ih:=v5x e f g P fun x hx=>h x (by simp [hx])
  grind
theorem w6w {e:Int} {f g:Int->Nat} {P:List Int} (hP:P.Pairwise (· < ·)) (h: ∀p∈P,f p<=288/\(p≠e->f p<=g p)):(P.map f).sum <=288+(P.map g).sum :=by
 have h1:=v5x e f g P h;have h2:=w0e e P hP
 grind
theorem u9h {S:List R6} (h:Zf S=0) (hl:S.length<=6) (q:Ax):((CR q S).map fun p=>(HW q true S p).length).sum +((CR q S).map fun p=>(HW q false S p).length).sum <=240:=by
 obtain ⟨_,hv,_,hL⟩:=Xs h;have hr: ∀r∈S,q.lo r<q.hi r:=fun r h=>(q.val (hv r h)).2.1;have key: ∀P:List Int,(P.map fun p=>(HW q true S p).length).sum +(P.map fun p=>(HW q false S p).length).sum <=20*((P.map fun p=>(FY q S p).length).sum +(P.map fun p=>(FW q S p).length).sum):=fun P=>by
  induction P with
  | nil=>grind
  | cons p P ih=>
   simp only [AT,BT] at ih ⊢;have h1:=u4b q hv (by omega) hL p;have h2:(FY q S p).length +(FW q S p).length <=20:=by have:=v5t q hr p;omega
   have h3:=AC ((FY q S p).length +(FW q S p).length) h2
   grind [HW]
 have h1:=y7c q.hi (CR q S) (NP q S) q.rc S;have h2:=y7c q.lo (CR q S) (NP q S) q.rc S;have:=key (CR q S);unfold FY FW at this;omega
theorem VE (q:Ax) (b:R6) (p u v:Int):q.inB b p u v↔Eb b (q.to p u v).1 (q.to p u v).2.1 (q.to p u v).2.2:=by
 cases q
 .exact ⟨fun ⟨a,b,c⟩=>⟨a,b,c⟩,fun ⟨a,b,c⟩=>⟨a,b,c⟩⟩
 .exact ⟨fun ⟨a,b,c⟩=>⟨b,a,c⟩,fun ⟨a,b,c⟩=>⟨b,a,c⟩⟩
 .exact ⟨fun ⟨a,b,c⟩=>⟨b,c,a⟩,fun ⟨a,b,c⟩=>⟨c,a,b⟩⟩
def TQ (q:Ax) (s:Bool) (b:R6):Int:=match s with
 | true=>q.hi b
 | false=>q.lo b
theorem x2u {q:Ax} {s:Bool} {b:R6} {p u v:Int} (h:q.inB b (Jz s p) u v) (hne:p≠TQ q s b):q.inB b (Qw s p) u v:=by
 obtain ⟨h1,h2⟩:=h;refine ⟨?_,h2⟩;cases s with
 | true=>have h1:q.lo b<=p - 1/\p - 1<q.hi b:=h1;have hne:p≠q.hi b:=hne;show q.lo b<=p/\p<q.hi b;omega
 | false=>have h1:q.lo b<=p/\p<q.hi b:=h1;have hne:p≠q.lo b:=hne;show q.lo b<=p - 1/\p - 1<q.hi b;omega
theorem t2m {S:List R6} (h:Zf S=0) (hl:S.length<=6) (q:Ax) (s:Bool) (p:Int):Xr.can (HW q s S p)/\ ∀u v,CI Xr.inB (HW q s S p) (u,v)↔q.inL S (Jz s p) u v/\ ¬q.inL S (Qw s p) u v:=by
 obtain ⟨_,hv,_,_⟩:=Xs h;cases s with
 | true=>exact v5r q hv (by omega) p
 | false=>exact u2e q hv (by omega) p
section
variable {l:List Pa} (L:VH l) (hn: ∀x∈l,TU x.s=true) {A:List R6} (hA:Zf A=0) (nA:EK A) (pA: ∀x y z,CY A x y z↔ ∃p∈l,CY p.s x y z) {i:Nat} (hi:i<l.length)
include L hn hA nA pA hi
theorem v7d (q:Ax) (s:Bool) {p:Int} (hne:p≠TQ q s (CH (rd l i))):(FS q s (rd l i).s A p).length <=(HW q s (rd l i).s p).length :=by
 have _u:=nA;have hS:=L.sck i hi;have hr:=hn (rd l i) (by grind [Yo]);obtain ⟨nS,l6⟩:=KN hr;obtain ⟨c1,p1⟩:=w9y hS hA q s p;obtain ⟨c2,p2⟩:=t2m hS l6 q s p;have e:FS q s (rd l i).s A p=HW q s (rd l i).s p:=Xr.uniq _ _ c1 c2 fun ⟨u,v⟩=>by
  rw [p1,p2];constructor
  .rintro ⟨k1,k2⟩;refine ⟨k1,fun k=>k2 ?_⟩;rw [q.inL_S] at k ⊢
   grind [Yo]
  .rintro ⟨k1,k2⟩;refine ⟨k1,fun k=>k2 ?_⟩;rw [q.inL_S] at k;obtain ⟨r,hr',kr⟩:=(pA _ _ _).1 k;obtain ⟨j,hj,rfl⟩:=AJ hr';rw [<-Yo hj] at kr;have b1:q.inB (CH (rd l i)) (Jz s p) u v:=(VE q _ _ _ _).2 (L.ins i hi _ _ _ ((q.inL_S _ _ _ _).1 k1));have b2:=(VE q _ _ _ _).1 (x2u b1 hne);have b3:=L.ins j hj _ _ _ kr;have:=L.dis i j hi hj _ _ _ b2 b3;subst this;rw [q.inL_S];exact kr
 grind
theorem u5e :(DB (Qd (rd l i).s A) (rd l i).s 6 0).length <=3000:=by
 have hS:=L.sck i hi;have hr:=hn (rd l i) (by grind [Yo]);obtain ⟨nS,l6⟩:=KN hr;have one: ∀q s,(Kj (Qd (rd l i).s A) (Vs q s:Int) (CR q (rd l i).s)).length <=288+((CR q (rd l i).s).map fun p=>(HW q s (rd l i).s p).length).sum :=fun q s=>by
  rw [x5p];refine w6w (e:=TQ q s (CH (rd l i))) (NP q _) fun p hp=> ?_;rw [(w0v hS hA nS nA q s (PU hr q hp)).2]
  grind [j6u,v7d]
 have two: ∀q,(Kj (Qd (rd l i).s A) (Vs q true:Int) (CR q (rd l i).s)).length +(Kj (Qd (rd l i).s A) (Vs q false:Int) (CR q (rd l i).s)).length <=816:=fun q=>by have a:=one q true;have b:=one q false;have c:=u9h hS l6 q;omega
 grind [w9t]
theorem j8q :Ei (DG (rd l i).s A) (Qd (rd l i).s A) (rd l i).s =0:=by
 have hS:=L.sck i hi
 grind [Yo,KN,u5e,y9t,w0v,Ei]
end
theorem t5h {b:R6} (h:Zf [b]=0):Qv b=true:=(Xs h).2.1 b (by simp)
theorem t1d {b:R6} (h:Zf [b]=0) (q:Ax) (p:Int):Wz q.ix [b] p=0/\Ze q.ix [b] p=D4.out (Cf q [b] p)/\(D4.out (Cf q [b] p)).length <=1/\(∀x,(D4.inn (D4.out (Cf q [b] p)) x).length <=1):=by obtain ⟨hl,hv,_,_⟩:=Xs h;have n1:(Cf q [b] p).length <=1:=x5r q [b] p;have f:=u1m (S8 q hv p) (by omega);have fl:(D4.out (Cf q [b] p)).length <=1:=AF f.len (Nat.mul_le_mul n1 n1);obtain ⟨m0,m1⟩:=Qk (S8 q hv p) (by omega) (by omega);unfold Wz Ze;rw [w5i];exact ⟨m1,m0,fl,fun x=>AF (f.sec x) n1⟩
theorem Ni (q:Ax) (b:R6) (p u v:Int):q.inL [b] p u v↔q.inB b p u v:=by
 constructor
 .rintro ⟨r,hr,k⟩
  grind
 .exact fun k=>⟨b,by simp,k⟩
section
variable {S T:List R6} {b:R6} (hS:Zf S=0) (hT:Zf T=0) (hb:Zf [b]=0) (nS:EK S) (nT:EK T)
include hT hb
def ZS (q:Ax) (s:Bool) (T:List R6) (b:R6) (p:Int):List R4:=DI 2 (D4.out (Cf q [b] (Qw s p))) (D4.out (Cf q T (Qw s p)))
theorem u3m (q:Ax) (s:Bool) (p:Int):Xr.can (ZS q s T b p)/\(∀u v,CI Xr.inB (ZS q s T b p) (u,v)↔q.inB b (Qw s p) u v/\ ¬q.inL T (Qw s p) u v)/\ ∀r∈ZS q s T b p,Vo r=true:=by
 obtain ⟨a1,a2,a3⟩:=HG hb q (Qw s p);obtain ⟨b1,b2,b3⟩:=HG hT q (Qw s p);obtain ⟨j1,j2,_⟩:=GH 2 a3 b3;have pts: ∀u v,CI Xr.inB (ZS q s T b p) (u,v)↔q.inB b (Qw s p) u v/\ ¬q.inL T (Qw s p) u v:=fun u v=>by
  grind [ZS,opD,Ni]
 refine ⟨j1,pts,YD j1 fun u v k=> ?_⟩;have:=(j2 (u,v)).1 k;rw [opD] at this;exact x3p a3 this.1
include nT
theorem Ro (q:Ax) (s:Bool) (p:Int):(ZS q s T b p).length <=400/\ ∀x,(D4.inn (ZS q s T b p) x).length <=13:=by
 obtain ⟨c,pts,_⟩:=u3m hT hb q s p;have key: ∀{a a' b b':Prop} {x lo hi:Int},¬((a/\ ¬b)↔(a'/\ ¬b'))->(b->En (x - 1))->(b'->En x)->(x≠lo->x≠hi->(a↔a'))->x∈JO++[lo,hi]:=fun {a a' b b' x lo hi} hn h1 h2 h3=>by
  rw [AI];by_cases e1:x=lo;all_goals grind [u3p,En]
 have:=v8s c (JO++[(q.rc b).a,(q.rc b).c]) (JO++[(q.rc b).b,(q.rc b).d]) (fun u v hn=>by
  rw [pts,pts] at hn;refine key hn (fun k=>(NO hT nT q k).2.1) (fun k=>(NO hT nT q k).2.1) fun e1 e2=> ?_
  grind [Ax.inB]) (fun u v hn=>by
  rw [pts,pts] at hn;refine key hn (fun k=>(NO hT nT q k).2.2) (fun k=>(NO hT nT q k).2.2) fun e1 e2=> ?_
  grind [Ax.inB])
 grind [JO]
include hS nS
def PS (q:Ax) (s:Bool) (S T:List R6) (b:R6) (p:Int):List R4:=DI 1 (D4.out (Cf q S (Jz s p))) (ZS q s T b p)
theorem w9w (q:Ax) (s:Bool) (p:Int):Xr.can (PS q s S T b p)/\(∀u v,CI Xr.inB (PS q s S T b p) (u,v)↔q.inL S (Jz s p) u v/\q.inB b (Qw s p) u v/\ ¬q.inL T (Qw s p) u v)/\(PS q s S T b p).length <=288:=by
 obtain ⟨a1,a2,a3⟩:=HG hS q (Jz s p);obtain ⟨z1,z2,z3⟩:=u3m hT hb q s p;obtain ⟨j1,j2,_⟩:=GH 1 a3 z3;have _u:=nT;have pts: ∀u v,CI Xr.inB (PS q s S T b p) (u,v)↔q.inL S (Jz s p) u v/\q.inB b (Qw s p) u v/\ ¬q.inL T (Qw s p) u v:=fun u v=>by
  grind [PS,opE]
 exact ⟨j1,pts,(x5a j1 fun u v k=>(NO hS nS q ((pts u v).1 k).1).2).1⟩
theorem w0h (q:Ax) (s:Bool) {p:Int} (hp: -12<=p/\p<=12):D1 S T b (Vs q s:Int) p=0/\Kh S T b (Vs q s:Int) p=PS q s S T b p:=by obtain ⟨o1,o2⟩:=v9h q s hp;obtain ⟨a0,a1,a2,a3⟩:=w9o hS nS q (Jz s p);obtain ⟨t0,t1,t2,t3⟩:=w9o hT nT q (Qw s p);obtain ⟨b0,b1,b2,b3⟩:=t1d hb q (Qw s p);obtain ⟨ca,_,va⟩:=HG hS q (Jz s p);obtain ⟨ct,_,vt⟩:=HG hT q (Qw s p);obtain ⟨cb,_,vb⟩:=HG hb q (Qw s p);obtain ⟨zl,zx⟩:=Ro hT hb nT q s p;obtain ⟨cz,_,vz⟩:=u3m hT hb q s p;obtain ⟨_,_,pl⟩:=w9w hS hT hb nS nT q s p;have e1:=x4s .d (by omega) (by omega) vb vt cb ct (fun x=>by grind) (show (ZS q s T b p).length <=400 from zl);have e2:=x4s .e (show _<=400 by omega) zl va vz ca cz (fun x=>by grind) (show (PS q s S T b p).length <=400 by omega);have z0:Wi .d (D4.out (Cf q [b] (Qw s p))) (D4.out (Cf q T (Qw s p)))=ZS q s T b p:=x4p .d e1;unfold D1 Kh;rw [KC,o1,o2,a0,b0,t0,a1,b1,t1,z0,x4p .e e2];have e1:Qq .d (D4.out (Cf q [b] (Qw s p))) (D4.out (Cf q T (Qw s p)))=0:=e1;rw [e1];refine ⟨?_,rfl⟩;show Dr .e _ _=0;exact e2
end
section
variable {l:List Pa} (L:VH l) (hn: ∀x∈l,TU x.s=true) {i k:Nat} (hi:i<l.length) (hk:k<l.length) (hik:i≠k)
include L hn hi hk hik
theorem v6b :Ei (D1 (rd l i).s (rd l k).s (CH (rd l k))) (Kh (rd l i).s (rd l k).s (CH (rd l k))) (rd l i).s =0:=by
 have hS:=L.sck i hi;have hT:=L.sck k hk;have hb:=L.val k hk;have hr:=hn (rd l i) (by grind [Yo]);have hr2:=hn (rd l k) (by grind [Yo]);obtain ⟨nS,_⟩:=KN hr;obtain ⟨nT,_⟩:=KN hr2;have side: ∀q s p,p≠TQ q s (CH (rd l i))->(PS q s (rd l i).s (rd l k).s (CH (rd l k)) p).length <=0:=fun q s p hne=>by
  obtain ⟨c,pts,_⟩:=w9w hS hT hb nS nT q s p;have:PS q s (rd l i).s (rd l k).s (CH (rd l k)) p=[]:=y2i Xr c fun ⟨u,v⟩ m=>by obtain ⟨k1,k2,_⟩:=(pts u v).1 m;have b1:q.inB (CH (rd l i)) (Jz s p) u v:=(VE q _ _ _ _).2 (L.ins i hi _ _ _ ((q.inL_S _ _ _ _).1 k1));exact hik (L.dis i k hi hk _ _ _ ((VE q _ _ _ _).1 (x2u b1 hne)) ((VE q _ _ _ _).1 k2))
  grind
 have one: ∀q s,(Kj (Kh (rd l i).s (rd l k).s (CH (rd l k))) (Vs q s:Int) (CR q (rd l i).s)).length <=288:=fun q s=>by
  rw [x5p];have:=w6w (e:=TQ q s (CH (rd l i))) (f:=fun p=>(Kh (rd l i).s (rd l k).s (CH (rd l k)) (Vs q s:Int) p).length) (g:=fun _=>0) (NP q (rd l i).s) fun p hp=>by
   show (Kh (rd l i).s (rd l k).s (CH (rd l k)) (Vs q s:Int) p).length <=288/\(p≠TQ q s (CH (rd l i))->(Kh (rd l i).s (rd l k).s (CH (rd l k)) (Vs q s:Int) p).length <=0);rw [(w0h hS hT hb nS nT q s (PU hr q hp)).2]
   grind [w9w]
  have z: ∀P:List Int,(P.map fun _=>(0:Nat)).sum =0:=fun P=>by
   induction P with
   | nil=>rfl
   | cons _ _ ih=>grind
  grind
 have dV:(DB (Kh (rd l i).s (rd l k).s (CH (rd l k))) (rd l i).s 6 0).length <=3000:=by have a:=one .x true;have b:=one .x false;have c:=one .y true;have d:=one .y false;have e:=one .z true;have f:=one .z false;rw [w9t];omega
 grind [y9t,w0h,Ei]
end
theorem v7s (b:R6):rvbR b=true↔Qv b=true:=by grind [rvbR,Fn,EG,U7,Ej]
theorem WR (a b:Int) (h:a<b):Ci.can [⟨a,b⟩]:=⟨by simpa using h,by simp⟩
theorem Sc {b:R6} (h:Qv b=true):Zf [b]=0:=by have v:=Wq h;refine SL (show 1<=400 by decide) (fun r hr=>by grind) ⟨[⟨b.c,b.f,[⟨b.a,b.b,b.d,b.e⟩]⟩],.one _ ⟨by grind,⟨[⟨b.a,b.d,[⟨b.b,b.e⟩]⟩],.one _ ⟨by grind,WR b.b b.e (by omega),by simp⟩,rfl⟩,by simp⟩,rfl⟩
theorem u7x {a b:R6} (ha:Qv a=true) (hb:Qv b=true):Gk a b= !eqB (Fg a b) o6:=by
 have va:=Wq ha;have vb:=Wq hb;unfold Gk Mj Fg DF
 grind [NL,Sa,eqB,o6]
theorem t2d {a b:R6} (ha:Qv a=true):insR a b=eqB (Fg a b) a:=by
 have va:=Wq ha
 grind [insR,Mh,Fg,DF,NL,Sa,eqB]
theorem v7h : ∀l:List Pa,Ec l=IY l
 | []=>rfl
 | x::l=>by unfold Ec IY;rw [w9q,v7h l]
theorem Rj {α:Type} {f g:α->Bool}: ∀{l:List α},(∀x∈l,f x=g x)->l.any f=l.any g
 | [],_=>rfl
 | x::l,h=>by grind
theorem j2m {l:List Pa} (hs: ∀x∈l,Zf x.s=0): ∀(k i:Nat),i+k<=l.length->(∀j,j<i->Qv (CH (rd l j))=true)->Fm l k i=PE l k i
 | 0,_,_,_=>rfl
 | k +1,i,h,hv=>by
  have hi:i<l.length:=by omega
  have hsi:=hs (rd l i) (by grind [Yo]);obtain ⟨_,sv,_,_⟩:=Xs hsi;show (bif EY l i then (8:Int) else Fm l k (i+1))=bif OV l i then 8 else PE l k (i+1);by_cases hb:Qv (CH (rd l i))=true
  .have e1:(Zf [CH (rd l i)] != 0)=false:=by rw [Sc hb];rfl
   have e2:(!rvbR (CH (rd l i)))=false:=by rw [(v7s _).2 hb];rfl
   have e:EY l i=OV l i:=by
    unfold EY OV;rw [e1,e2]
    congr 2
    .grind [t2d]
    .refine Rj fun y hy=> ?_;obtain ⟨j,hj,rfl⟩:=AJ hy
     grind [Yo,u7x]
   rw [e,j2m hs k (i+1) (by omega) fun j hj=>by
    rcases A1 (Nat.le_of_lt_succ hj) with rfl | g
    .exact hb
    .exact hv j g]
  grind [t5h,v7s,EY,OV]
theorem R8 (l:List Pa):Qe l=Mn l:=by
 unfold Qe Mn;rw [v7h];cases g:decide (50<l.length) with
 | true=>rfl
 | false=>
  rw [Aa,Aa];rcases Zs (IY l != 0) with q | q
  .rw [q];rfl
  .rw [q,Aa,Aa];have h0:Ec l=0:=by rw [v7h];simpa using q
   grind [j2m,x4a]
theorem j2n : ∀{l:List Pa},(∀x∈l,Zf x.s=0)->Ec l=0
 | [],_=>rfl
 | x::r,h=>by unfold Ec;rw [h x (by simp)];exact j2n fun y hy=>h y (by simp [hy])
theorem j2l {l:List Pa}: ∀k i,(∀j,i<=j->j<i+k->EY l j=false)->Fm l k i=0
 | 0,i,_=>rfl
 | k+1,i,h=>by unfold Fm;rw [h i (Aq _) (by omega)];exact j2l k (i+1) fun j h1 h2=>h j (by omega) (by omega)
theorem x5v (l:List Pa) (i:Nat) (S:List R6) (j:Nat):CH (rd (l.set i (HT (rd l i) S)) j)=CH (rd l j):=by
 by_cases h:j<l.length
 .rw [w7x h];split
  .rename_i e;subst e;rfl
  .rfl
 .unfold rd;simp [h]
theorem t1e {l:List Pa} (L:VH l):Qe l=0:=by
 unfold Qe;rw [Av (show ¬50<l.length by have:=L.len;omega),Aa,j2n fun x hx=> ?_]
 .show Fm _ l.length 0=0;refine j2l _ _ fun i _ hj=> ?_;have hi:i<l.length:=by omega
  have v:=Wq ((Xs (L.val i hi)).2.1 (CH (rd l i)) (by simp));unfold EY;rw [L.val i hi];have h1:(rd l i).s.any (fun r=> !insR r (CH (rd l i)))=false:=List.any_eq_false.2 fun r hr=>by
   have v:=Wq ((Xs (L.sck i hi)).2.1 r hr);have a1:=L.ins i hi r.a r.b r.c ⟨r,hr,by omega,by omega,by omega⟩;have a2:=L.ins i hi (r.d - 1) (r.e - 1) (r.f - 1) ⟨r,hr,by omega,by omega,by omega⟩;unfold Eb at a1 a2;unfold insR Mh
   grind
  have h2:(l.take i).any (fun y=>Gk (CH (rd l i)) (CH y))=false:=List.any_eq_false.2 fun y hy=>by
   obtain ⟨m,hm,rfl⟩:=BM.1 hy;have hm:m<i:=by rw [BX] at hm;omega
   have hm':m<l.length:=by omega
   have w:=Wq ((Xs (L.val m hm')).2.1 (CH (rd l m)) (by simp));have d:=L.dis i m hi hm' (max (CH (rd l i)).a (CH (rd l m)).a) (max (CH (rd l i)).b (CH (rd l m)).b) (max (CH (rd l i)).c (CH (rd l m)).c);rw [Br,<-Yo hm'];intro k;unfold Gk Mj at k;simp only [Ae,Ar] at k;have:=d (by unfold Eb;omega) (by unfold Eb;omega);omega
  rw [h1,h2];rfl
 .obtain ⟨m,hm,rfl⟩:=BM.1 hx;have:=L.sck m hm;rwa [Yo hm] at this
theorem j8r {l:List Pa} {i:Nat} {S:List R6} (h:Qe l=0) (hi:i<l.length) (hS:Zf S=0) (hin: ∀x y z,CY S x y z->Eb (CH (rd l i)) x y z):Qe (l.set i (HT (rd l i) S))=0:=by
 have L:=G3 h;have two: ∀j,j<l.length->rd (l.set i (HT (rd l i) S)) j=(if j=i then HT (rd l i) S else rd l j):=fun j hj=>w7x hj;refine t1e ⟨by rw [BF];exact L.len,fun j hj=> ?_,fun j hj=> ?_,fun j hj=> ?_,fun j m hj hm=> ?_⟩;all_goals rw [BF] at hj
 .rw [two j hj];split
  .exact hS
  .exact L.sck j hj
 .rw [x5v];exact L.val j hj
 .rw [x5v,two j hj];split
  .rename_i e;subst e;exact hin
  .exact L.ins j hj
 .rw [BF] at hm;rw [x5v,x5v];exact L.dis j m hj hm
theorem u5k {l:List Pa} (h:Qe l=0) {i k:Int} (h0:Ka l i k=0):(0<=i/\i<(l.length:Int))/\Eg l i k=l.set i.toNat (HT (rd l i.toNat) (Er l i k))/\Qe (Eg l i k)=0/\
  Zf (Er l i k)=0/\ ∀x y z,CY (rd l i.toNat).s x y z->CY (Er l i k) x y z:=by
 have L:=G3 h;have e0:Eg l i k=l.set i.toNat (HT (rd l i.toNat) (Er l i k)):=by unfold Eg;rw [h0];rfl
 unfold Ka at h0;rw [h] at h0;rcases Zs (decide (i<0)||(decide (i>=(l.length:Int))||(decide (k<0)||decide (k>9)))) with b | b
 .rw [b] at h0;cases h0
 rw [b] at h0;simp only [BB,Bk] at b;have hi:i.toNat<l.length:=by omega
 rcases Zs (EV (rd l i.toNat).s (Mk k) != 0) with c | c
 .rw [c] at h0;exact absurd h0 (BN.1 c)
 rw [c] at h0;obtain ⟨o1,o2⟩:=t1c (Hf c);have h0:Da .e (Fx l i k) [CH (rd l i.toNat)]=0:=h0;obtain ⟨s1,s2⟩:=w0s h0;have es:Er l i k=Dq .e (Fx l i k) [CH (rd l i.toNat)]:=by show D8 (Da .e (Fx l i k) [CH (rd l i.toNat)]) (Dq .e (Fx l i k) [CH (rd l i.toNat)])=_;rw [h0];rfl
 have pt: ∀x y z,CY (Er l i k) x y z↔CY (Fx l i k) x y z/\Eb (CH (rd l i.toNat)) x y z:=fun x y z=>by
  rw [es,Jr,s2,Jr];have e1:CI C5.inB [CH (rd l i.toNat)] (z,x,y)↔Eb (CH (rd l i.toNat)) x y z:=by rw [<-Jr];unfold CY Eb;simp
  show (decide (CI C5.inB (Fx l i k) (z,x,y))&&decide (CI C5.inB [CH (rd l i.toNat)] (z,x,y)))=true↔_;rw [Ae,Bb,Bb,e1]
 have hl:(Dq .e (Fx l i k) [CH (rd l i.toNat)]).length <=400:=by have hf:=(x3y h0).2.2;unfold Da at h0;rw [show Zf (Fx l i k)=0 from o1,L.val _ hi,hf] at h0;exact Z1 h0
 have bb:=Wq ((Xs (L.val _ hi)).2.1 (CH (rd l i.toNat)) (by simp));have hS:Zf (Er l i k)=0:=SL (by rw [es];exact hl) (w5u (by rw [es];exact s1) fun x y z p=>by
  have:=((pt x y z).1 p).2;unfold Eb at this;omega) (by rw [es];exact s1)
 refine ⟨by omega,e0,?_,hS,fun x y z p=>(pt x y z).2 ⟨o2 x y z p,L.ins _ hi x y z p⟩⟩;rw [e0];exact j8r h hi hS fun x y z p=>((pt x y z).1 p).2
open Go.Proofs.Tryz
inductive It where
def Pu (aI:Int) (aL:Int) (aM:Int):It->CB
 :=nofun
def w4q (aI:Int) (aL:Int) (aM:Int):It->Xz It
 :=nofun
def YJ (aI:Int) (aL:Int) (aM:Int):Xz It:=(bif (decide ((Wt (Wt aI aL) aM)>=(-1000000))) then (.ret [(.bool (decide ((Wf (Wf aI aL) aM)<=1000000)))]) else (.ret [(.bool false)]))
theorem v3s (aI:Int) (aL:Int) (aM:Int): ∀s,Xw prog (Zy prog 101) (Pu aI aL aM) (Pu aI aL aM s) (w4q aI aL aM s)
 :=nofun
theorem w4r (aI:Int) (aL:Int) (aM:Int):Xw prog (Zy prog 101) (Pu aI aL aM) (Zm prog 101 [(.agg [(.int .i64 aI),(.int .i64 aL),(.int .i64 aM)])] true []) (YJ aI aL aM):=(lb (fun k0=>(lr 21 3 [1,1,1,1,0] 1 9 [(2,(.bool (decide ((Wf (Wf aI aL) aM)<=1000000))))] (sl Xv 27 [] (a8 [2]) a6 (CA 8 []) (tt k0 nn)))) (fun k0=>(lr 21 3 [1,1,1,1,0] 1 9 [(2,(.bool false))] (sl Xv 27 [] (a8 [2]) a6 (bl 8 0) (tt k0 nn)))))
theorem u9d (aI:Int) (aL:Int) (aM:Int) (n:Nat) (vs:List B2) (h:Zo (w4q aI aL aM) n (YJ aI aL aM)=.ret vs):Uj prog (Zy prog 101) (Zm prog 101 [(.agg [(.int .i64 aI),(.int .i64 aL),(.int .i64 aM)])] true []) vs:=by have:=Zb (v3s aI aL aM) n _ (w4r aI aL aM);rwa [h] at this
-- start: index into an array (choices [false, false, false])
inductive Ig where
def P5 (aI:Int) (aL:Int) (aM:Int) (aS:Int) (aV:Int) (aU:Int) (dD:Int):Ig->CB
 :=nofun
def w3f (aI:Int) (aL:Int) (aM:Int) (aS:Int) (aV:Int) (aU:Int) (dD:Int):Ig->Xz Ig
 :=nofun
def YU (aI:Int) (aL:Int) (aM:Int) (aS:Int) (aV:Int) (aU:Int) (dD:Int):Xz Ig:=(bif (decide ((wrap IntKind.u8 (Int.tdiv aI 2))=Int.ofNat 0)) then (.ret [(.int .i64 (wrap .i64 ((wrap .i64 (aU - aM))*(wrap .i64 (dD - aS)))))]) else (bif (decide ((wrap IntKind.u8 (Int.tdiv aI 2))=Int.ofNat 1)) then (.ret [(.int .i64 (wrap .i64 ((wrap .i64 (aV - aL))*(wrap .i64 (dD - aS)))))]) else (bif (decide ((wrap IntKind.u8 (Int.tdiv aI 2))=Int.ofNat 2)) then (.ret [(.int .i64 (wrap .i64 ((wrap .i64 (aV - aL))*(wrap .i64 (aU - aM)))))]) else .stuck)))
theorem v2v (aI:Int) (aL:Int) (aM:Int) (aS:Int) (aV:Int) (aU:Int) (dD:Int): ∀s,Xw prog (Zy prog 70) (P5 aI aL aM aS aV aU dD) (P5 aI aL aM aS aV aU dD s) (w3f aI aL aM aS aV aU dD s)
 :=nofun
theorem w3g (aI:Int) (aL:Int) (aM:Int) (aS:Int) (aV:Int) (aU:Int) (dD:Int):Xw prog (Zy prog 70) (P5 aI aL aM aS aV aU dD) (Zm prog 70 [(.agg [(.int .u8 aI),(.int .i64 aL),(.int .i64 aM),(.int .i64 aS),(.int .i64 aV),(.int .i64 aU),(.int .i64 dD)])] true []) (YU aI aL aM aS aV aU dD):=let a:=wr (aU - aM);let b:=wr (dD - aS);(lb (fun k0=>(lr 25 3 [1,1,1,1,0] 1 9 [(2,(ii (wr (a*b))))] (sl Xv 22 [] (a8 [2]) a6 [false] (ww k0 nn)))) (fun k0=>let c:=wr (aV - aL);(lb (fun k1=>(lr 25 3 [1,1,1,1,0] 1 9 [(2,(ii (wr (c*b))))] (sl Xv 22 [] (a8 [2]) a6 (bl 2 1) (ww k1 nn)))) (fun k1=>(lb (fun k2=>(lr 25 3 [1,1,1,1,0] 1 9 [(2,(ii (wr (c*a))))] (sl Xv 22 [] (a8 [2]) a6 (bl 3 3) (ww k2 nn)))) (fun k2=>trivial))))))
theorem u8d (aI:Int) (aL:Int) (aM:Int) (aS:Int) (aV:Int) (aU:Int) (dD:Int) (n:Nat) (vs:List B2) (h:Zo (w3f aI aL aM aS aV aU dD) n (YU aI aL aM aS aV aU dD)=.ret vs):Uj prog (Zy prog 70) (Zm prog 70 [(.agg [(.int .u8 aI),(.int .i64 aL),(.int .i64 aM),(.int .i64 aS),(.int .i64 aV),(.int .i64 aU),(.int .i64 dD)])] true []) vs:=by have:=Zb (v2v aI aL aM aS aV aU dD) n _ (w3g aI aL aM aS aV aU dD);rwa [h] at this
inductive Hw where
 | h0 (v5:Int) (v18:Int)
def O0 (l0:List R6):Hw->CB
 | .h0 v5 v18=>⟨⟨37,0,true⟩,none,(Zg prog 63 [1,1,1,0,1,0,0] 0),none,(Zy prog 14),⟨Yj [(5,(ii v5)),(16,(.dat l0.length (Zz l0))),(17,(ii (l0.length:Int))),(18,(ii v18))],Vk [] 0,0,[],true⟩,[],.leaf⟩
def KU :List (Option (List Nat)):=[some [5,16,17,18]]
def KV :List (Option (List Nat)):=[]
def Sj (l0:List R6):Hw->Xz Hw
 | .h0 v5 v18=>(bif (decide (v18<(l0.length:Int))) then (bif ((decide (0<=v18/\v18<(l0.length:Int)))&&true) then (.to (.h0 (wrap .i64 (v5+(wrap .i64 ((wrap .i64 ((wrap .i64 ((rd l0 v18.toNat).d - (rd l0 v18.toNat).a))*(wrap .i64 ((rd l0 v18.toNat).e - (rd l0 v18.toNat).b))))*(wrap .i64 ((rd l0 v18.toNat).f - (rd l0 v18.toNat).c)))))) (wrap .i64 (v18+1)))) else .stuck) else (.ret [(.int .i64 v5),(.int .i64 0)]))
def ZQ (l0:List R6):Xz Hw:=(bif (We (B3 l0)) then (bif ((Zf (B3 l0)) != 0) then (.ret [(.int .i64 0),(.int .i64 (Zf (B3 l0)))]) else (.to (.h0 0 0))) else .stuck)
theorem v0g (l0:List R6): ∀s,Xw prog (Zy prog 63) (O0 l0) (O0 l0 s) (Sj l0 s)
 | .h0 v5 v18=>(lb (fun k0=>(lo fun o0=>(sl Xv 54 [] ⟨[],[],KU,KV⟩ a6 [true] (ww o0 (tt k0 nn))))) (fun k0=>(lr 37 3 [1,1,1,1,0] 1 14 [(2,(ii v5)),(3,(ii 0))] (sl Xv 13 [] (a8 [2,3]) a6 [false] (tt k0 nn)))))
theorem w0d (l0:List R6):Xw prog (Zy prog 63) (O0 l0) (Zm prog 63 [(.dat l0.length (Zz l0))] true []) (ZQ l0):=(lo fun bN=>let a:=pp (pp (xr l0) (xw bN)) nn;(lb (fun k0=>(lr 37 63 [1,0,1,1,0,0] 1 14 [(2,(ii 0)),(3,(ii (Zf (B3 l0))))] (sl Xv 24 [] (a8 [2,3]) a6 [true] (tt k0 a)))) (fun k0=>(sl Xv 32 [] ⟨[],[],KU,KV⟩ a6 [false] (tt k0 a)))))
theorem u4f (l0:List R6) (n:Nat) (vs:List B2) (h:Zo (Sj l0) n (ZQ l0)=.ret vs):Uj prog (Zy prog 63) (Zm prog 63 [(.dat l0.length (Zz l0))] true []) vs:=by have:=Zb (v0g l0) n _ (w0d l0);rwa [h] at this
inductive Ic where
def PR (aI:Int) (aL:Int) (aM:Int) (aP:Int) (aQ:Int) (aR:Int):Ic->CB
 :=nofun
def w2u (aI:Int) (aL:Int) (aM:Int) (aP:Int) (aQ:Int) (aR:Int):Ic->Xz Ic
 :=nofun
def x4x (aI:Int) (aL:Int) (aM:Int) (aP:Int) (aQ:Int) (aR:Int):Xz Ic:=(.ret [(.agg [(.int .i64 (wrap .i64 (aI+aP))),(.int .i64 (wrap .i64 (aL+aQ))),(.int .i64 (wrap .i64 (aM+aR)))])])
theorem v2m (aI:Int) (aL:Int) (aM:Int) (aP:Int) (aQ:Int) (aR:Int): ∀s,Xw prog (Zy prog 27) (PR aI aL aM aP aQ aR) (PR aI aL aM aP aQ aR s) (w2u aI aL aM aP aQ aR s)
 :=nofun
theorem w2v (aI:Int) (aL:Int) (aM:Int) (aP:Int) (aQ:Int) (aR:Int):Xw prog (Zy prog 27) (PR aI aL aM aP aQ aR) (Zm prog 27 [(.agg [(.int .i64 aI),(.int .i64 aL),(.int .i64 aM)]),(.agg [(.int .i64 aP),(.int .i64 aQ),(.int .i64 aR)])] true []) (x4x aI aL aM aP aQ aR):=(Un ⟨⟨21,0,true⟩,none,(Zg prog 3 [1,1,1,1,0] 1),none,(Zy prog 27),⟨Yj [(4,(.ptr 0 0))],Vk [⟨[(ii (wr (aI+aP))),(ii (wr (aL+aQ))),(ii (wr (aM+aR)))],50,none⟩] 0,1,[],true⟩,[],.leaf⟩ (sl Xv 26 [] ⟨[2],[],[some [4]],[]⟩ a6 [] nn) rfl (by kernel_rfl))
theorem u7m (aI:Int) (aL:Int) (aM:Int) (aP:Int) (aQ:Int) (aR:Int) (n:Nat) (vs:List B2) (h:Zo (w2u aI aL aM aP aQ aR) n (x4x aI aL aM aP aQ aR)=.ret vs):Uj prog (Zy prog 27) (Zm prog 27 [(.agg [(.int .i64 aI),(.int .i64 aL),(.int .i64 aM)]),(.agg [(.int .i64 aP),(.int .i64 aQ),(.int .i64 aR)])] true []) vs:=by have:=Zb (v2m aI aL aM aP aQ aR) n _ (w2v aI aL aM aP aQ aR);rwa [h] at this
inductive JG where
def RS (x0:Int):JG->CB
 :=nofun
def w5e (x0:Int):JG->Xz JG
 :=nofun
def YF (x0:Int):Xz JG:=(bif ((Int.tmod x0 2) == 1) then (bif (decide (x0<2)) then (.ret [(.agg [(.int .i64 (-1)),(.int .i64 0),(.int .i64 0)])]) else (bif (decide (x0<4)) then (.ret [(.agg [(.int .i64 0),(.int .i64 (-1)),(.int .i64 0)])]) else (.ret [(.agg [(.int .i64 0),(.int .i64 0),(.int .i64 (-1))])]))) else (bif (decide (x0<2)) then (.ret [(.agg [(.int .i64 1),(.int .i64 0),(.int .i64 0)])]) else (bif (decide (x0<4)) then (.ret [(.agg [(.int .i64 0),(.int .i64 1),(.int .i64 0)])]) else (.ret [(.agg [(.int .i64 0),(.int .i64 0),(.int .i64 1)])]))))
theorem v4c (x0:Int): ∀s,Xw prog (Zy prog 28) (RS x0) (RS x0 s) (w5e x0 s)
 :=nofun
theorem w5f (x0:Int):Xw prog (Zy prog 28) (RS x0) (Zm prog 28 [(.int .i64 x0)] true []) (YF x0):=let a:=Zy prog 28;let b:=Zg prog 28 [1,1,1,1,0,1,0,0] 1;let c:=Zg prog 28 [1,1,1,0,1,0,0] 1;let d:=Zg prog 3 [1,1,1,1,0] 1;(lb (fun k0=>(lb (fun k1=>(Un ⟨⟨17,0,true⟩,none,c,none,a,⟨Yj [(2,(.ptr 0 0))],Vk [⟨[(ii (-1)),(ii 0),(ii 0)],50,none⟩] 0,1,[],true⟩,[],.leaf⟩ (sl Xv 32 [] ⟨[0],[],[some [2]],[]⟩ a6 (bl 2 3) (tt k1 (tt k0 nn))) rfl (by kernel_rfl))) (fun k1=>let e:=tt k1 (tt k0 nn);(lb (fun k2=>(Un ⟨⟨17,0,true⟩,none,b,none,a,⟨Yj [(2,(.ptr 0 0))],Vk [⟨[(ii 0),(ii (-1)),(ii 0)],50,none⟩] 0,1,[],true⟩,[],.leaf⟩ (sl Xv 40 [] ⟨[0],[],[some [2]],[]⟩ a6 (bl 3 5) (tt k2 e)) rfl (by kernel_rfl))) (fun k2=>(Un ⟨⟨17,0,true⟩,none,d,none,a,⟨Yj [(2,(.ptr 0 0))],Vk [⟨[(ii 0),(ii 0),(ii (-1))],50,none⟩] 0,1,[],true⟩,[],.leaf⟩ (sl Xv 41 [] ⟨[0],[],[some [2]],[]⟩ a6 (bl 3 1) (tt k2 e)) rfl (by kernel_rfl))))))) (fun k0=>(lb (fun k1=>(Un ⟨⟨17,0,true⟩,none,c,none,a,⟨Yj [(2,(.ptr 0 0))],Vk [⟨[(ii 1),(ii 0),(ii 0)],50,none⟩] 0,1,[],true⟩,[],.leaf⟩ (sl Xv 30 [] ⟨[0],[],[some [2]],[]⟩ a6 (bl 2 2) (tt k1 (tt k0 nn))) rfl (by kernel_rfl))) (fun k1=>let f:=tt k1 (tt k0 nn);(lb (fun k2=>(Un ⟨⟨17,0,true⟩,none,b,none,a,⟨Yj [(2,(.ptr 0 0))],Vk [⟨[(ii 0),(ii 1),(ii 0)],50,none⟩] 0,1,[],true⟩,[],.leaf⟩ (sl Xv 38 [] ⟨[0],[],[some [2]],[]⟩ a6 (bl 3 4) (tt k2 f)) rfl (by kernel_rfl))) (fun k2=>(Un ⟨⟨17,0,true⟩,none,d,none,a,⟨Yj [(2,(.ptr 0 0))],Vk [⟨[(ii 0),(ii 0),(ii 1)],50,none⟩] 0,1,[],true⟩,[],.leaf⟩ (sl Xv 39 [] ⟨[0],[],[some [2]],[]⟩ a6 (bl 3 0) (tt k2 f)) rfl (by kernel_rfl))))))))
theorem u9t (x0:Int) (n:Nat) (vs:List B2) (h:Zo (w5e x0) n (YF x0)=.ret vs):Uj prog (Zy prog 28) (Zm prog 28 [(.int .i64 x0)] true []) vs:=by have:=Zb (v4c x0) n _ (w5f x0);rwa [h] at this
abbrev u0e :Nat:=27
abbrev j5m :Nat:=28
abbrev u0h :Nat:=31
abbrev u0j :Nat:=24
abbrev M4 :Nat:=25
def Hn (x y z:Int):Bool:=decide (Wt (Wt x y) z>=(-1000000))&&decide (Wf (Wf x y) z<=1000000)
theorem t2j (x y z:Int): ∃N,Zo (w4q x y z) N (YJ x y z)=.ret [.bool (Hn x y z)]:=⟨0,by
 unfold YJ Hn;cases decide (Wt (Wt x y) z>=(-1000000)) <;> rfl⟩
def RA :List B2->Option (B2×Bool)
 | [.agg [.int .i64 aI,.int .i64 aL,.int .i64 aM]]=>some (.bool (Hn aI aL aM),true)
 | _=>none
theorem t4a {S:B4} (hS:Zv prog S):Zv prog (S.with j5h RA):=by
 refine Qn hS (by kernel_rfl) fun args v h=> ?_;unfold RA at h;split at h
 .rename_i aI aL aM;simp only [Ad,Ac,Bh] at h;subst h;obtain ⟨N,hN⟩:=t2j aI aL aM;exact ⟨_,_,(.cons (.refl _) .nil),rfl,u9d aI aL aM N _ hN,3,rfl⟩
 .cases h
def Fu (a b c d e f g:Int):Int:=wrap .i64 (if a<2 then wrap .i64 (f - c)*wrap .i64 (g - d) else if a<4 then wrap .i64 (e - b)*wrap .i64 (g - d) else wrap .i64 (e - b)*wrap .i64 (f - c))
def SR (a b c d e f g:Int):Bool:=decide (0<=a)&&decide (a<=5)
theorem t1p (a b c d e f g:Int) (h:SR a b c d e f g=true): ∃N,Zo (w3f a b c d e f g) N (YU a b c d e f g)=.ret [.int .i64 (Fu a b c d e f g)]:=⟨0,by
 simp only [SR,Ae,Ar] at h;unfold YU Fu;have:a=0\/a=1\/a=2\/a=3\/a=4\/a=5:=by omega
 rcases this with rfl | rfl | rfl | rfl | rfl | rfl <;> rfl⟩
def Q1 :List B2->Option (B2×Bool)
 | [.agg [.int .u8 a,.int .i64 b,.int .i64 c,.int .i64 d,.int .i64 e,.int .i64 f,.int .i64 g]]=>some (.int .i64 (Fu a b c d e f g),SR a b c d e f g)
 | _=>none
theorem t3r {S:B4} (hS:Zv prog S):Zv prog (S.with j5g Q1):=by
 refine Qn hS (by kernel_rfl) fun args v h=> ?_;unfold Q1 at h;split at h
 .rename_i a b c d e f g;simp only [Ad,Ac] at h;obtain ⟨rfl,hw⟩:=h;obtain ⟨N,hN⟩:=t1p a b c d e f g hw;exact ⟨_,_,(.cons (.refl _) .nil),rfl,u8d a b c d e f g N _ hN,3,rfl⟩
 .cases h
def GG (L:List R6):Int:=bif Zf L != 0 then 0 else wrap .i64 (sm L DW)
def GV (L:List R6):Int:=Zf L
def XL (L:List R6):Bool:=true
theorem j0v (L:List R6) (hl:L.length<=400): ∀(k i:Nat) (S:Int),i+k=L.length-> ∃N,Zo (Sj L) N (.to (.h0 (wrap .i64 S) (i:Int)))=.ret [.int .i64 (wrap .i64 (S+sm (L.drop i) DW)),.int .i64 0]
 | 0,i,S,h=>by
  refine ⟨1,?_⟩
  grind [Zx,GF,Sj,Zp]
 | k+1,i,S,h=>by
  have hi:i<L.length:=by omega
  obtain ⟨N,hN⟩:=j0v L hl k (i+1) (S+DW (rd L i)) (by omega);refine ⟨N+1,?_⟩;have w:wrap .i64 (wrap .i64 S+wrap .i64 (wrap .i64 (wrap .i64 ((rd L i).d - (rd L i).a)*wrap .i64 ((rd L i).e - (rd L i).b))*wrap .i64 ((rd L i).f - (rd L i).c)))=wrap .i64 (S+DW (rd L i)):=
   Cg.eq ((Cg.wrap S).add (Cg.w ((Cg.w ((Cg.wrap _).mul (Cg.wrap _))).mul (Cg.wrap _))))
  grind [Zj,Zx,Yg,Wr,Sj,Zk]
theorem j7n (L:List R6) (h:XL L=true): ∃N,Zo (Sj L) N (ZQ L)=.ret [.int .i64 (GG L),.int .i64 (GV L)]:=by
 unfold ZQ GG GV;simp only [Zd,show We L=true from rfl,Ab];rcases Zs (Zf L != 0) with q1 | q1
 .exact ⟨0,by simp only [q1,Ab];rfl⟩
 .obtain ⟨N,hN⟩:=j0v L (Tr q1) L.length 0 0 (Af _);refine ⟨N,?_⟩;simp only [q1,Aa];rw [show Zf L=0 by grind];rw [AS,BL] at hN;exact hN
def QC :List B2->Option (B2×Bool)
 | [a0]=>match CS R6 a0 with
  | some (L0,g0,n0)=>some (.tup [.int .i64 (GG L0),.int .i64 (GV L0)],CO R6 n0 g0&&(XL L0))
  | _=>none
 | _=>none
theorem t2r {S:B4} (hS:Zv prog S):Zv prog (S.with j5a QC):=by
 refine Qn hS (by kernel_rfl) fun args v h=> ?_;unfold QC at h;split at h
 .rename_i a0;split at h
  .rename_i L0 g0 n0 e0;simp only [Ad,Ac,Ae] at h;obtain ⟨rfl,ho0,hw⟩:=h;obtain ⟨N,hN⟩:=j7n L0 hw;exact ⟨_,_,(.cons (Yn e0 ho0) .nil),rfl,u4f L0 N _ hN,3,rfl⟩
  .cases h
 .cases h
def Ff (a b c x y z:Int):R3:=⟨wrap .i64 (a+x),wrap .i64 (b+y),wrap .i64 (c+z)⟩
theorem t0x (a b c x y z:Int): ∃N,Zo (w2u a b c x y z) N (x4x a b c x y z)=.ret [.agg [.int .i64 (Ff a b c x y z).a,.int .i64 (Ff a b c x y z).b,.int .i64 (Ff a b c x y z).c]]:=⟨0,rfl⟩
def QX :List B2->Option (B2×Bool)
 | [.agg [.int .i64 a,.int .i64 b,.int .i64 c],.agg [.int .i64 x,.int .i64 y,.int .i64 z]]=>some (.agg [.int .i64 (Ff a b c x y z).a,.int .i64 (Ff a b c x y z).b,.int .i64 (Ff a b c x y z).c],true)
 | _=>none
theorem t3m {S:B4} (hS:Zv prog S):Zv prog (S.with u0e QX):=by
 refine Qn hS (by kernel_rfl) fun args v h=> ?_;unfold QX at h;split at h
 .rename_i a b c x y z;simp only [Ad,Ac,Bh] at h;subst h;obtain ⟨N,hN⟩:=t0x a b c x y z;exact ⟨_,_,(.cons (.refl _) (.cons (.refl _) .nil)),rfl,u7m a b c x y z N _ hN,3,rfl⟩
 .cases h
def II (d:Int):Int:=bif Int.tmod d 2 == 1 then -1 else 1
def DD (d:Int):R3:=bif decide (d<2) then ⟨II d,0,0⟩ else bif decide (d<4) then ⟨0,II d,0⟩ else ⟨0,0,II d⟩
theorem t4t (d:Int): ∃N,Zo (w5e d) N (YF d)=.ret [.agg [.int .i64 (DD d).a,.int .i64 (DD d).b,.int .i64 (DD d).c]]:=⟨0,by
 unfold YF DD II;cases Int.tmod d 2 == 1 <;> cases decide (d<2) <;> cases decide (d<4) <;> rfl⟩
def RC :List B2->Option (B2×Bool)
 | [.int .i64 d]=>some (.agg [.int .i64 (DD d).a,.int .i64 (DD d).b,.int .i64 (DD d).c],true)
 | _=>none
theorem t4c {S:B4} (hS:Zv prog S):Zv prog (S.with j5m RC):=by
 refine Qn hS (by kernel_rfl) fun args v h=> ?_;unfold RC at h;split at h
 .rename_i d;simp only [Ad,Ac,Bh] at h;subst h;obtain ⟨N,hN⟩:=t4t d;exact ⟨_,_,(.cons (.refl _) .nil),rfl,u9t d N _ hN,3,rfl⟩
 .cases h
def W0 :B4:=Va.with j5h RA
theorem EC :Zv prog W0:=t4a Xv
-- h0: index into an array (choices [true, false, false, false, false, false, false])
inductive If where
 | h0 (v14:Int)
def P3 (l0:List R7):If->CB
 | .h0 v14=>⟨⟨70,0,true⟩,none,(Zg prog 69 [1,1,1,0,1,0,0] 0),none,(Zy prog 9),⟨Yj [(3,(.ptr 0 0)),(12,(.dat l0.length (Zz l0))),(13,(ii (l0.length:Int))),(14,(ii v14))],Vk [⟨[(.fn 137 []),(.fn 138 []),(.fn 139 []),(.fn 140 []),(.fn 141 []),(.fn 142 []),(.fn 143 []),(.fn 144 []),(.fn 145 [])],136,none⟩] 0,1,[],true⟩,[],.leaf⟩
def u8b :List (Option (List Nat)):=[some [3,12,13,14]]
def u8c :List (Option (List Nat)):=[]
def NN (l0:List R7):If->Xz If
 | .h0 v14=>(bif (decide (v14<(l0.length:Int))) then (bif ((decide (0<=v14/\v14<(l0.length:Int)))&&true) then (bif (decide ((rd l0 v14.toNat).a >5)) then (.ret [(.int .i64 8)]) else (bif (!(Hn (rd l0 v14.toNat).b (rd l0 v14.toNat).c (rd l0 v14.toNat).d)) then (.ret [(.int .i64 8)]) else (bif (!(Hn (rd l0 v14.toNat).e (rd l0 v14.toNat).f (rd l0 v14.toNat).g)) then (.ret [(.int .i64 8)]) else (bif (decide ((wrap IntKind.u8 (Int.tdiv (rd l0 v14.toNat).a 2))=Int.ofNat 0)) then (bif ((rd l0 v14.toNat).b != (rd l0 v14.toNat).e) then (.ret [(.int .i64 8)]) else (bif (decide ((rd l0 v14.toNat).c >=(rd l0 v14.toNat).f)) then (.ret [(.int .i64 8)]) else (bif (decide ((rd l0 v14.toNat).d >=(rd l0 v14.toNat).g)) then (.ret [(.int .i64 8)]) else (.to (.h0 (wrap .i64 (v14+1))))))) else (bif (decide ((wrap IntKind.u8 (Int.tdiv (rd l0 v14.toNat).a 2))=Int.ofNat 1)) then (bif ((rd l0 v14.toNat).c != (rd l0 v14.toNat).f) then (.ret [(.int .i64 8)]) else (bif (decide ((rd l0 v14.toNat).b >=(rd l0 v14.toNat).e)) then (.ret [(.int .i64 8)]) else (bif (decide ((rd l0 v14.toNat).d >=(rd l0 v14.toNat).g)) then (.ret [(.int .i64 8)]) else (.to (.h0 (wrap .i64 (v14+1))))))) else (bif (decide ((wrap IntKind.u8 (Int.tdiv (rd l0 v14.toNat).a 2))=Int.ofNat 2)) then (bif ((rd l0 v14.toNat).d != (rd l0 v14.toNat).g) then (.ret [(.int .i64 8)]) else (bif (decide ((rd l0 v14.toNat).b >=(rd l0 v14.toNat).e)) then (.ret [(.int .i64 8)]) else (bif (decide ((rd l0 v14.toNat).c >=(rd l0 v14.toNat).f)) then (.ret [(.int .i64 8)]) else (.to (.h0 (wrap .i64 (v14+1))))))) else .stuck)))))) else .stuck) else (.ret [(.int .i64 0)]))
def YV (l0:List R7):Xz If:=(bif (decide ((l0.length:Int)>3000)) then (.ret [(.int .i64 4)]) else (.to (.h0 0)))
theorem v2u (l0:List R7): ∀s,Xw prog (Zy prog 69) (P3 l0) (P3 l0 s) (NN l0 s)
 | .h0 v14=>(lb (fun k0=>(lo fun aE=>let b:=ww aE (tt k0 nn);(lb (fun k1=>(lr 70 69 [1,1,1,0,1,0,0,1,1,0,0,1,0,1,0,0] 1 9 [(2,(ii 8))] (sl EC 40 [] (a8 [2]) a6 (CA 10 []) (tt k1 b)))) (fun k1=>(lb (fun k2=>(lr 70 69 [1,1,1,0,1,0,0,1,1,0,0,1,0,1,0,0] 1 9 [(2,(ii 8))] (sl EC 40 [] (a8 [2]) a6 (bl 10 993) (tt k2 (tt k1 b))))) (fun k2=>let f:=tt k2 (tt k1 b);(lb (fun k3=>(lr 70 69 [1,1,1,0,1,0,0,1,1,0,0,1,0,1,0,0] 1 9 [(2,(ii 8))] (sl EC 40 [] (a8 [2]) a6 (bl 10 513) (tt k3 f)))) (fun k3=>let a:=tt k3 f;(lb (fun k4=>(lb (fun k5=>(lr 70 69 [1,1,1,0,1,0,0,1,1,0,0,1,1,1,1,1,0,0] 1 9 [(2,(ii 8))] (sl EC 124 [] (a8 [2]) a6 (bl 22 4192257) (tt k5 (ww k4 a))))) (fun k5=>let c:=tt k5 (ww k4 a);(lb (fun k6=>(lr 70 69 [1,1,1,0,1,0,0,1,1,0,0,1,1,1,1,1,0,0] 1 9 [(2,(ii 8))] (sl EC 124 [] (a8 [2]) a6 (bl 22 4128769) (tt k6 c)))) (fun k6=>(lb (fun k7=>(lr 70 69 [1,1,1,0,1,0,0,1,1,0,0,1,1,1,1,1,0,0] 1 9 [(2,(ii 8))] (sl EC 124 [] (a8 [2]) a6 (bl 22 2097153) (tt k7 (tt k6 c))))) (fun k7=>(sl EC 127 [] ⟨[0],[],u8b,u8c⟩ a6 (bl 22 1) (tt k7 (tt k6 c)))))))))) (fun k4=>(lb (fun k5=>(lb (fun k6=>(lr 70 69 [1,1,1,0,1,0,0,1,1,0,0,1,1,1,1,1,0,0] 1 9 [(2,(ii 8))] (sl EC 124 [] (a8 [2]) a6 (bl 23 8385537) (tt k6 (ww k5 a))))) (fun k6=>let d:=tt k6 (ww k5 a);(lb (fun k7=>(lr 70 69 [1,1,1,0,1,0,0,1,1,0,0,1,1,1,1,1,0,0] 1 9 [(2,(ii 8))] (sl EC 124 [] (a8 [2]) a6 (bl 23 8258561) (tt k7 d)))) (fun k7=>(lb (fun k8=>(lr 70 69 [1,1,1,0,1,0,0,1,1,0,0,1,1,1,1,1,0,0] 1 9 [(2,(ii 8))] (sl EC 124 [] (a8 [2]) a6 (bl 23 4195329) (tt k8 (tt k7 d))))) (fun k8=>(sl EC 127 [] ⟨[0],[],u8b,u8c⟩ a6 (bl 23 1025) (tt k8 (tt k7 d)))))))))) (fun k5=>(lb (fun k6=>(lb (fun k7=>(lr 70 69 [1,1,1,0,1,0,0,1,1,0,0,1,1,1,1,1,0,0] 1 9 [(2,(ii 8))] (sl EC 124 [] (a8 [2]) a6 (bl 24 16772097) (tt k7 (ww k6 a))))) (fun k7=>let e:=tt k7 (ww k6 a);(lb (fun k8=>(lr 70 69 [1,1,1,0,1,0,0,1,1,0,0,1,1,1,1,1,0,0] 1 9 [(2,(ii 8))] (sl EC 124 [] (a8 [2]) a6 (bl 24 16518145) (tt k8 e)))) (fun k8=>(lb (fun k9=>(lr 70 69 [1,1,1,0,1,0,0,1,1,0,0,1,1,1,1,1,0,0] 1 9 [(2,(ii 8))] (sl EC 124 [] (a8 [2]) a6 (bl 24 8391681) (tt k9 (tt k8 e))))) (fun k9=>(sl EC 127 [] ⟨[0],[],u8b,u8c⟩ a6 (bl 24 3073) (tt k9 (tt k8 e)))))))))) (fun k6=>trivial)))))))))))))) (fun k0=>(lr 70 3 [1,1,1,1,0] 1 9 [(2,(ii 0))] (sl EC 11 [] (a8 [2]) a6 [false] (tt k0 nn)))))
theorem w3e (l0:List R7):Xw prog (Zy prog 69) (P3 l0) (Zm prog 69 [(.dat l0.length (Zz l0))] true []) (YV l0):=(lb (fun k0=>(lr 70 69 [1,0,1,0,0] 1 9 [(2,(ii 4))] (sl EC 16 [] (a8 [2]) a6 [true] (tt k0 nn)))) (fun k0=>(sl EC 41 [] ⟨[1],[],u8b,u8c⟩ a6 [false] (tt k0 nn))))
theorem u8a (l0:List R7) (n:Nat) (vs:List B2) (h:Zo (NN l0) n (YV l0)=.ret vs):Uj prog (Zy prog 69) (Zm prog 69 [(.dat l0.length (Zz l0))] true []) vs:=by have:=Zb (v2u l0) n _ (w3e l0);rwa [h] at this
def FJ (r:R7):Bool:=decide (r.a<=5)&&(Hn r.b r.c r.d&&(Hn r.e r.f r.g&&
 (bif decide (r.a<2) then (r.b == r.e)&&(decide (r.c<r.f)&&decide (r.d<r.g)) else bif decide (r.a<4) then (r.c == r.f)&&(decide (r.b<r.e)&&decide (r.d<r.g)) else (r.d == r.g)&&(decide (r.b<r.e)&&decide (r.c<r.f)))))
def FI (L:List R7):Int:=bif decide (3000<L.length) then 4 else bif L.all FJ then 0 else 8
def N5 (L:List R7):Bool:=L.all fun r=>decide (0<=r.a)&&decide (r.a<256)
theorem j7d {a:Int} (h0:0<=a) (h5:a<=5):wrap IntKind.u8 (Int.tdiv a 2)=(if a<2 then 0 else if a<4 then 1 else 2):=by
 have:a=0\/a=1\/a=2\/a=3\/a=4\/a=5:=by omega
 rcases this with rfl | rfl | rfl | rfl | rfl | rfl <;> rfl
theorem j5q (L:List R7) (hl:L.length<=3000) (ho:N5 L=true): ∀(k i:Nat),i+k=L.length-> ∃N,Zo (NN L) N (.to (.h0 (i:Int)))=.ret [.int .i64 (bif (L.drop i).all FJ then 0 else 8)]
 | 0,i,h=>by refine ⟨1,?_⟩;rw [Zx,As (by omega)];simp (disch:=omega) only [NN,Yh,Aa];rfl
 | k+1,i,h=>by
  have hi:i<L.length:=by omega
  obtain ⟨N,hN⟩:=j5q L hl ho k (i+1) (by omega);have hb:0<=(rd L i).a /\(rd L i).a <256:=by
   have:=At.1 ho (rd L i) (by grind [Yo])
   grind
  refine ⟨N+1,?_⟩;rw [Zx,Yg hi,List.all_cons];have e:NN L (.h0 (i:Int))=bif FJ (rd L i) then .to (.h0 ((i+1:Nat):Int)) else .ret [.int .i64 8]:=by
   have hw:wrap .i64 ((i:Int)+1)=((i+1:Nat):Int):=Zj (by omega);simp (disch:=omega) only [NN,Yy,Yz,hw,Zk,Ah,Ab];unfold FJ;by_cases h5:(rd L i).a <=5;all_goals grind [j7d]
  rw [e];rcases Zs (FJ (rd L i)) with q | q;all_goals grind [Zp]
theorem t1n (L:List R7) (h:N5 L=true): ∃N,Zo (NN L) N (YV L)=.ret [.int .i64 (FI L)]:=by
 unfold YV FI;by_cases g:3000<L.length
 .refine ⟨0,?_⟩;rw [Yt (by omega),Al g];rfl
 .obtain ⟨N,hN⟩:=j5q L (by omega) h L.length 0 (Af _)
  grind
def Q0 :List B2->Option (B2×Bool)
 | [a0]=>match CS R7 a0 with
  | some (L0,g0,n0)=>some (.int .i64 (FI L0),CO R7 n0 g0&&(N5 L0))
  | _=>none
 | _=>none
theorem t3q {S:B4} (hS:Zv prog S):Zv prog (S.with u0f Q0):=by
 refine Qn hS (by kernel_rfl) fun args v h=> ?_;unfold Q0 at h;split at h
 .rename_i a0;split at h
  .rename_i L0 g0 n0 e0;simp only [Ad,Ac,Ae] at h;obtain ⟨rfl,ho0,hw⟩:=h;obtain ⟨N,hN⟩:=t1n L0 hw;exact ⟨_,_,(.cons (Yn e0 ho0) .nil),rfl,u8a L0 N _ hN,3,rfl⟩
  .cases h
 .cases h
theorem u7z {l:List R7} (h:FI l=0):l.length<=3000/\ ∀r∈l,FJ r=true:=by grind [FI]
theorem j0s {r:R7} (h:FJ r=true):r.a<=5:=by grind [FJ]
def W1 :B4:=(W0.with u0f Q0).with j5g Q1
theorem j0m :Zv prog W1:=t3r (t3q EC)
inductive Ii where
 | h0 (v5:Int) (v15:Int)
def P8 (l0:List R7):Ii->CB
 | .h0 v5 v15=>⟨⟨25,0,true⟩,none,(Zg prog 36 [1,1,1,0,1,0,0] 0),none,(Zy prog 14),⟨Yj [(5,(ii v5)),(13,(.dat l0.length (Zz l0))),(14,(ii (l0.length:Int))),(15,(ii v15))],Vk [] 0,0,[],true⟩,[],.leaf⟩
def Mc :List (Option (List Nat)):=[some [5,13,14,15]]
def Md :List (Option (List Nat)):=[]
def Sb (l0:List R7):Ii->Xz Ii
 | .h0 v5 v15=>(bif (decide (v15<(l0.length:Int))) then (bif ((decide (0<=v15/\v15<(l0.length:Int)))&&true) then (bif (SR (rd l0 v15.toNat).a (rd l0 v15.toNat).b (rd l0 v15.toNat).c (rd l0 v15.toNat).d (rd l0 v15.toNat).e (rd l0 v15.toNat).f (rd l0 v15.toNat).g) then (.to (.h0 (wrap .i64 (v5+(Fu (rd l0 v15.toNat).a (rd l0 v15.toNat).b (rd l0 v15.toNat).c (rd l0 v15.toNat).d (rd l0 v15.toNat).e (rd l0 v15.toNat).f (rd l0 v15.toNat).g))) (wrap .i64 (v15+1)))) else .stuck) else .stuck) else (.ret [(.int .i64 v5),(.int .i64 0)]))
def YT (l0:List R7):Xz Ii:=(bif (N5 (B3 l0)) then (bif ((FI (B3 l0)) != 0) then (.ret [(.int .i64 0),(.int .i64 (FI (B3 l0)))]) else (.to (.h0 0 0))) else .stuck)
theorem v2x (l0:List R7): ∀s,Xw prog (Zy prog 36) (P8 l0) (P8 l0 s) (Sb l0 s)
 | .h0 v5 v15=>(lb (fun k0=>(lo fun o0=>(lo fun o1=>(sl j0m 29 [] ⟨[],[],Mc,Md⟩ a6 [true] (ww o1 (ww o0 (tt k0 nn))))))) (fun k0=>(lr 25 3 [1,1,1,1,0] 1 14 [(2,(ii v5)),(3,(ii 0))] (sl j0m 13 [] (a8 [2,3]) a6 [false] (tt k0 nn)))))
theorem w3j (l0:List R7):Xw prog (Zy prog 36) (P8 l0) (Zm prog 36 [(.dat l0.length (Zz l0))] true []) (YT l0):=(lo fun bN=>let a:=pp (pp (xr l0) (xw bN)) nn;(lb (fun k0=>(lr 25 36 [1,0,1,1,0,0] 1 14 [(2,(ii 0)),(3,(ii (FI (B3 l0))))] (sl j0m 24 [] (a8 [2,3]) a6 [true] (tt k0 a)))) (fun k0=>(sl j0m 32 [] ⟨[],[],Mc,Md⟩ a6 [false] (tt k0 a)))))
theorem u8j (l0:List R7) (n:Nat) (vs:List B2) (h:Zo (Sb l0) n (YT l0)=.ret vs):Uj prog (Zy prog 36) (Zm prog 36 [(.dat l0.length (Zz l0))] true []) vs:=by have:=Zb (v2x l0) n _ (w3j l0);rwa [h] at this
def a7 (r:R7):Int:=Fu r.a r.b r.c r.d r.e r.f r.g
theorem t1q {r:R7} (h0:0<=r.a) (h:FJ r=true):SR r.a r.b r.c r.d r.e r.f r.g=true:=by grind [j0s,SR]
theorem PV {L:List R7} (h:N5 L=true) {r:R7} (hr:r∈L):0<=r.a:=by
 have:=At.1 h r hr
 grind
def Qm (L:List R7):Int:=bif FI L != 0 then 0 else wrap .i64 (sm L a7)
def Ef (L:List R7):Int:=FI L
def SQ (L:List R7):Bool:=N5 L
theorem j5y (L:List R7) (hl:L.length<=3000) (ho: ∀r∈L,0<=r.a/\FJ r=true): ∀(k i:Nat) (S:Int),i+k=L.length-> ∃N,Zo (Sb L) N (.to (.h0 (wrap .i64 S) (i:Int)))=.ret [.int .i64 (wrap .i64 (S+sm (L.drop i) a7)),.int .i64 0]
 | 0,i,S,h=>by
  refine ⟨1,?_⟩
  grind [Zx,GF,Sb,Zp]
 | k+1,i,S,h=>by
  have hi:i<L.length:=by omega
  obtain ⟨N,hN⟩:=j5y L hl ho k (i+1) (S+a7 (rd L i)) (by omega);refine ⟨N+1,?_⟩;have hm:rd L i∈L:=by grind [Yo]
  have o:=t1q (ho _ hm).1 (ho _ hm).2;have w:wrap .i64 (wrap .i64 S+Fu (rd L i).a (rd L i).b (rd L i).c (rd L i).d (rd L i).e (rd L i).f (rd L i).g)=wrap .i64 (S+a7 (rd L i)):=Cg.eq ((Cg.wrap S).add (Cg.refl _))
  grind [Zx,Yg,Wr,Sb,Zj,Zk]
theorem t1u (L:List R7) (h:SQ L=true): ∃N,Zo (Sb L) N (YT L)=.ret [.int .i64 (Qm L),.int .i64 (Ef L)]:=by
 unfold YT Qm Ef;simp only [Zd,show N5 L=true from h,Ab];rcases Zs (FI L != 0) with q1 | q1
 .exact ⟨0,by simp only [q1,Ab];rfl⟩
 .have e:FI L=0:=by grind
  obtain ⟨hl,hv⟩:=u7z e;obtain ⟨N,hN⟩:=j5y L hl (fun r hr=>⟨PV h hr,hv r hr⟩) L.length 0 0 (Af _);refine ⟨N,?_⟩;simp only [q1,Aa];rw [e];rw [AS,BL] at hN;exact hN
def Q3 :List B2->Option (B2×Bool)
 | [a0]=>match CS R7 a0 with
  | some (L0,g0,n0)=>some (.tup [.int .i64 (Qm L0),.int .i64 (Ef L0)],CO R7 n0 g0&&(SQ L0))
  | _=>none
 | _=>none
theorem t3t {S:B4} (hS:Zv prog S):Zv prog (S.with j5i Q3):=by
 refine Qn hS (by kernel_rfl) fun args v h=> ?_;unfold Q3 at h;split at h
 .rename_i a0;split at h
  .rename_i L0 g0 n0 e0;simp only [Ad,Ac,Ae] at h;obtain ⟨rfl,ho0,hw⟩:=h;obtain ⟨N,hN⟩:=t1u L0 hw;exact ⟨_,_,(.cons (Yn e0 ho0) .nil),rfl,u8j L0 N _ hN,3,rfl⟩
  .cases h
 .cases h
def W2 :B4:=(((((Vg0.with v9z QA).with u0a Iw).with V3 QQ).with V4 QR).with j5a QC).with j5i Q3
theorem De :Zv prog W2:=t3t (t2r (t3g (t3f (u1t (t2p UP)))))
abbrev B8 :List Pa:=[(Pa.mk 0 0 0 2 2 2 ([(R6.mk 0 0 0 2 2 1)]:List R6)),(Pa.mk 2 0 0 4 2 2 ([(R6.mk 2 0 0 4 2 2)]:List R6))]
inductive JN where
def Rl :JN->CB
 :=nofun
def w6d :JN->Xz JN
 :=nofun
def X9 :Xz JN:=(bif (SW (B3 B8)) then (bif (XL (B3 (Zi (B3 B8)))) then (bif (SV (B3 B8) 1 0) then (bif (SV (B3 B8) 0 1) then (bif (ST (B3 B8) 0) then (bif (SQ (B3 (Xe (B3 B8) 0))) then (bif ((Jf (B3 B8)) == 0) then (bif ((GV (B3 (Zi (B3 B8)))) == 0) then (bif ((GG (B3 (Zi (B3 B8)))) == 12) then (bif ((EX (B3 B8) 1 0) == 0) then (bif (XG (B3 (Wd (B3 B8) 1 0)) (B3 ([(R7.mk 1 2 0 1 2 2 2)]:List R7))) then (bif (IS (B3 (Wd (B3 B8) 1 0)) (B3 ([(R7.mk 1 2 0 1 2 2 2)]:List R7))) then (bif ((EX (B3 B8) 0 1) == 0) then (bif ((((Wd (B3 B8) 0 1).length :Nat):Int) == 0) then (bif ((Kg (B3 B8) 0) == 0) then (bif ((Ef (B3 (Xe (B3 B8) 0))) == 0) then (.ret [(.bool ((Qm (B3 (Xe (B3 B8) 0))) == 14))]) else (.ret [(.bool false)])) else (.ret [(.bool false)])) else (.ret [(.bool false)])) else (.ret [(.bool false)])) else (.ret [(.bool false)])) else .stuck) else (.ret [(.bool false)])) else (.ret [(.bool false)])) else (.ret [(.bool false)])) else (.ret [(.bool false)])) else .stuck) else .stuck) else .stuck) else .stuck) else .stuck) else .stuck)
theorem v4s : ∀s,Xw prog (Zy prog 24) (Rl) (Rl s) (w6d s)
 :=nofun
theorem w6e :Xw prog (Zy prog 24) (Rl) (Zm prog 24 [] true []) (X9):=(Xh (sl De (C':=⟨⟨86,0,true⟩,(Vm prog 24 [1,0] 1),(Zg prog 24 [1,0] 1),none,(Zy prog 24),⟨Yj [(14,(.sl 0 0 2 (.un 7)))],Vk [⟨[(ii 0),(ii 0),(ii 0),(ii 2),(ii 2),(ii 2),(.dat ([(R6.mk 0 0 0 2 2 1)]:List R6).length (Zz ([(R6.mk 0 0 0 2 2 1)]:List R6))),(ii 2),(ii 0),(ii 0),(ii 4),(ii 2),(ii 2),(.dat ([(R6.mk 2 0 0 4 2 2)]:List R6).length (Zz ([(R6.mk 2 0 0 4 2 2)]:List R6)))],59,none⟩] 0,1,[],true⟩,[],.leaf⟩) 97 [] ⟨[6],[2,5],[some [14]],[]⟩ ⟨[],[.cells [.keep,.keep,.keep,.keep,.keep,.keep,.frz 1 ([(R6.mk 0 0 0 2 2 1)]:List R6).length (Xt [(ii 0),(ii 0),(ii 0),(ii 2),(ii 2),(ii 1)] 0 6) (Zz ([(R6.mk 0 0 0 2 2 1)]:List R6)),.keep,.keep,.keep,.keep,.keep,.keep,.frz 1 ([(R6.mk 2 0 0 4 2 2)]:List R6).length (Xt [(ii 2),(ii 0),(ii 0),(ii 4),(ii 2),(ii 2)] 0 6) (Zz ([(R6.mk 2 0 0 4 2 2)]:List R6))]],[]⟩ [] (pp (xZ (.dat 1 (Xt [(ii 0),(ii 0),(ii 0),(ii 2),(ii 2),(ii 1)] 0 6)) 1 (Xt [(ii 0),(ii 0),(ii 0),(ii 2),(ii 2),(ii 1)] 0 6)) (pp (xL 1 ([(R6.mk 0 0 0 2 2 1)]:List R6).length) (pp (xS 1 (Xt [(ii 0),(ii 0),(ii 0),(ii 2),(ii 2),(ii 1)] 0 6) (Zz ([(R6.mk 0 0 0 2 2 1)]:List R6))) (pp (xZ (.dat 1 (Xt [(ii 2),(ii 0),(ii 0),(ii 4),(ii 2),(ii 2)] 0 6)) 1 (Xt [(ii 2),(ii 0),(ii 0),(ii 4),(ii 2),(ii 2)] 0 6)) (pp (xL 1 ([(R6.mk 2 0 0 4 2 2)]:List R6).length) (pp (xS 1 (Xt [(ii 2),(ii 0),(ii 0),(ii 4),(ii 2),(ii 2)] 0 6) (Zz ([(R6.mk 2 0 0 4 2 2)]:List R6))) nn))))))) (Xh (sl De (C':=⟨⟨86,0,true⟩,(Vm prog 24 [1,0] 1),(Zg prog 24 [1,0] 1),none,(Zy prog 24),⟨Yj [(14,(.dat B8.length (Zz B8)))],Vk [] 0,0,[],true⟩,[],.leaf⟩) 0 [] ⟨[],[0],[some [14]],[]⟩ ⟨[(14,.frz 2 B8.length (Xt [(ii 0),(ii 0),(ii 0),(ii 2),(ii 2),(ii 2),(.dat ([(R6.mk 0 0 0 2 2 1)]:List R6).length (Zz ([(R6.mk 0 0 0 2 2 1)]:List R6))),(ii 2),(ii 0),(ii 0),(ii 4),(ii 2),(ii 2),(.dat ([(R6.mk 2 0 0 4 2 2)]:List R6).length (Zz ([(R6.mk 2 0 0 4 2 2)]:List R6)))] 0 7) (Zz B8))],[],[]⟩ [] (pp (xZ (.dat 2 (Xt [(ii 0),(ii 0),(ii 0),(ii 2),(ii 2),(ii 2),(.dat ([(R6.mk 0 0 0 2 2 1)]:List R6).length (Zz ([(R6.mk 0 0 0 2 2 1)]:List R6))),(ii 2),(ii 0),(ii 0),(ii 4),(ii 2),(ii 2),(.dat ([(R6.mk 2 0 0 4 2 2)]:List R6).length (Zz ([(R6.mk 2 0 0 4 2 2)]:List R6)))] 0 7)) 2 (Xt [(ii 0),(ii 0),(ii 0),(ii 2),(ii 2),(ii 2),(.dat ([(R6.mk 0 0 0 2 2 1)]:List R6).length (Zz ([(R6.mk 0 0 0 2 2 1)]:List R6))),(ii 2),(ii 0),(ii 0),(ii 4),(ii 2),(ii 2),(.dat ([(R6.mk 2 0 0 4 2 2)]:List R6).length (Zz ([(R6.mk 2 0 0 4 2 2)]:List R6)))] 0 7)) (pp (xL 2 B8.length) (pp (xS 2 (Xt [(ii 0),(ii 0),(ii 0),(ii 2),(ii 2),(ii 2),(.dat ([(R6.mk 0 0 0 2 2 1)]:List R6).length (Zz ([(R6.mk 0 0 0 2 2 1)]:List R6))),(ii 2),(ii 0),(ii 0),(ii 4),(ii 2),(ii 2),(.dat ([(R6.mk 2 0 0 4 2 2)]:List R6).length (Zz ([(R6.mk 2 0 0 4 2 2)]:List R6)))] 0 7) (Zz B8)) nn)))) (lo fun q0_0=>(lo fun q0_1=>(Xh (sl De (C':=⟨⟨86,0,true⟩,(Vm prog 24 [1,1,1,0] 1),(Zg prog 24 [1,1,1,0] 1),none,(Zy prog 24),⟨Yj [(2,(ii (Jf (B3 B8)))),(3,(ii (GG (B3 (Zi (B3 B8)))))),(4,(ii (GV (B3 (Zi (B3 B8)))))),(24,(.sl 0 0 2 (.un 7)))],Vk [⟨[(ii 0),(ii 0),(ii 0),(ii 2),(ii 2),(ii 2),(.dat ([(R6.mk 0 0 0 2 2 1)]:List R6).length (Zz ([(R6.mk 0 0 0 2 2 1)]:List R6))),(ii 2),(ii 0),(ii 0),(ii 4),(ii 2),(ii 2),(.dat ([(R6.mk 2 0 0 4 2 2)]:List R6).length (Zz ([(R6.mk 2 0 0 4 2 2)]:List R6)))],59,none⟩] 0,1,[],true⟩,[],.leaf⟩) 110 [] ⟨[6],[2,5],[some [2,3,4,24]],[]⟩ ⟨[],[.cells [.keep,.keep,.keep,.keep,.keep,.keep,.frz 1 ([(R6.mk 0 0 0 2 2 1)]:List R6).length (Xt [(ii 0),(ii 0),(ii 0),(ii 2),(ii 2),(ii 1)] 0 6) (Zz ([(R6.mk 0 0 0 2 2 1)]:List R6)),.keep,.keep,.keep,.keep,.keep,.keep,.frz 1 ([(R6.mk 2 0 0 4 2 2)]:List R6).length (Xt [(ii 2),(ii 0),(ii 0),(ii 4),(ii 2),(ii 2)] 0 6) (Zz ([(R6.mk 2 0 0 4 2 2)]:List R6))]],[]⟩ [] (pp (xZ (.dat 1 (Xt [(ii 0),(ii 0),(ii 0),(ii 2),(ii 2),(ii 1)] 0 6)) 1 (Xt [(ii 0),(ii 0),(ii 0),(ii 2),(ii 2),(ii 1)] 0 6)) (pp (xL 1 ([(R6.mk 0 0 0 2 2 1)]:List R6).length) (pp (xS 1 (Xt [(ii 0),(ii 0),(ii 0),(ii 2),(ii 2),(ii 1)] 0 6) (Zz ([(R6.mk 0 0 0 2 2 1)]:List R6))) (pp (xZ (.dat 1 (Xt [(ii 2),(ii 0),(ii 0),(ii 4),(ii 2),(ii 2)] 0 6)) 1 (Xt [(ii 2),(ii 0),(ii 0),(ii 4),(ii 2),(ii 2)] 0 6)) (pp (xL 1 ([(R6.mk 2 0 0 4 2 2)]:List R6).length) (pp (xS 1 (Xt [(ii 2),(ii 0),(ii 0),(ii 4),(ii 2),(ii 2)] 0 6) (Zz ([(R6.mk 2 0 0 4 2 2)]:List R6))) (pp (pp (xI R6 (Zi (B3 B8)).length (Zz (Zi (B3 B8)))) (xw q0_1)) (pp (pp (xI Pa B8.length (Zz B8)) (xw q0_0)) nn))))))))) (Xh (sl De (C':=⟨⟨86,0,true⟩,(Vm prog 24 [1,1,1,0] 1),(Zg prog 24 [1,1,1,0] 1),none,(Zy prog 24),⟨Yj [(2,(ii (Jf (B3 B8)))),(3,(ii (GG (B3 (Zi (B3 B8)))))),(4,(ii (GV (B3 (Zi (B3 B8)))))),(24,(.dat B8.length (Zz B8)))],Vk [] 0,0,[],true⟩,[],.leaf⟩) 0 [] ⟨[],[0],[some [2,3,4,24]],[]⟩ ⟨[(24,.frz 2 B8.length (Xt [(ii 0),(ii 0),(ii 0),(ii 2),(ii 2),(ii 2),(.dat ([(R6.mk 0 0 0 2 2 1)]:List R6).length (Zz ([(R6.mk 0 0 0 2 2 1)]:List R6))),(ii 2),(ii 0),(ii 0),(ii 4),(ii 2),(ii 2),(.dat ([(R6.mk 2 0 0 4 2 2)]:List R6).length (Zz ([(R6.mk 2 0 0 4 2 2)]:List R6)))] 0 7) (Zz B8))],[],[]⟩ [] (pp (xZ (.dat 2 (Xt [(ii 0),(ii 0),(ii 0),(ii 2),(ii 2),(ii 2),(.dat ([(R6.mk 0 0 0 2 2 1)]:List R6).length (Zz ([(R6.mk 0 0 0 2 2 1)]:List R6))),(ii 2),(ii 0),(ii 0),(ii 4),(ii 2),(ii 2),(.dat ([(R6.mk 2 0 0 4 2 2)]:List R6).length (Zz ([(R6.mk 2 0 0 4 2 2)]:List R6)))] 0 7)) 2 (Xt [(ii 0),(ii 0),(ii 0),(ii 2),(ii 2),(ii 2),(.dat ([(R6.mk 0 0 0 2 2 1)]:List R6).length (Zz ([(R6.mk 0 0 0 2 2 1)]:List R6))),(ii 2),(ii 0),(ii 0),(ii 4),(ii 2),(ii 2),(.dat ([(R6.mk 2 0 0 4 2 2)]:List R6).length (Zz ([(R6.mk 2 0 0 4 2 2)]:List R6)))] 0 7)) (pp (xL 2 B8.length) (pp (xS 2 (Xt [(ii 0),(ii 0),(ii 0),(ii 2),(ii 2),(ii 2),(.dat ([(R6.mk 0 0 0 2 2 1)]:List R6).length (Zz ([(R6.mk 0 0 0 2 2 1)]:List R6))),(ii 2),(ii 0),(ii 0),(ii 4),(ii 2),(ii 2),(.dat ([(R6.mk 2 0 0 4 2 2)]:List R6).length (Zz ([(R6.mk 2 0 0 4 2 2)]:List R6)))] 0 7) (Zz B8)) nn)))) (lo fun q0_0=>(Xh (sl De (C':=⟨⟨86,0,true⟩,(Vm prog 24 [1,1,1,1,0] 1),(Zg prog 24 [1,1,1,1,0] 1),none,(Zy prog 24),⟨Yj [(2,(ii (Jf (B3 B8)))),(3,(ii (GG (B3 (Zi (B3 B8)))))),(4,(ii (GV (B3 (Zi (B3 B8)))))),(5,(.dat (Wd (B3 B8) 1 0).length (Zz (Wd (B3 B8) 1 0)))),(6,(ii (EX (B3 B8) 1 0))),(29,(.sl 0 0 2 (.un 7)))],Vk [⟨[(ii 0),(ii 0),(ii 0),(ii 2),(ii 2),(ii 2),(.dat ([(R6.mk 0 0 0 2 2 1)]:List R6).length (Zz ([(R6.mk 0 0 0 2 2 1)]:List R6))),(ii 2),(ii 0),(ii 0),(ii 4),(ii 2),(ii 2),(.dat ([(R6.mk 2 0 0 4 2 2)]:List R6).length (Zz ([(R6.mk 2 0 0 4 2 2)]:List R6)))],59,none⟩] 0,1,[],true⟩,[],.leaf⟩) 100 [] ⟨[6],[2,5],[some [2,3,4,5,6,29]],[]⟩ ⟨[],[.cells [.keep,.keep,.keep,.keep,.keep,.keep,.frz 1 ([(R6.mk 0 0 0 2 2 1)]:List R6).length (Xt [(ii 0),(ii 0),(ii 0),(ii 2),(ii 2),(ii 1)] 0 6) (Zz ([(R6.mk 0 0 0 2 2 1)]:List R6)),.keep,.keep,.keep,.keep,.keep,.keep,.frz 1 ([(R6.mk 2 0 0 4 2 2)]:List R6).length (Xt [(ii 2),(ii 0),(ii 0),(ii 4),(ii 2),(ii 2)] 0 6) (Zz ([(R6.mk 2 0 0 4 2 2)]:List R6))]],[]⟩ [] (pp (xZ (.dat 1 (Xt [(ii 0),(ii 0),(ii 0),(ii 2),(ii 2),(ii 1)] 0 6)) 1 (Xt [(ii 0),(ii 0),(ii 0),(ii 2),(ii 2),(ii 1)] 0 6)) (pp (xL 1 ([(R6.mk 0 0 0 2 2 1)]:List R6).length) (pp (xS 1 (Xt [(ii 0),(ii 0),(ii 0),(ii 2),(ii 2),(ii 1)] 0 6) (Zz ([(R6.mk 0 0 0 2 2 1)]:List R6))) (pp (xZ (.dat 1 (Xt [(ii 2),(ii 0),(ii 0),(ii 4),(ii 2),(ii 2)] 0 6)) 1 (Xt [(ii 2),(ii 0),(ii 0),(ii 4),(ii 2),(ii 2)] 0 6)) (pp (xL 1 ([(R6.mk 2 0 0 4 2 2)]:List R6).length) (pp (xS 1 (Xt [(ii 2),(ii 0),(ii 0),(ii 4),(ii 2),(ii 2)] 0 6) (Zz ([(R6.mk 2 0 0 4 2 2)]:List R6))) (pp (pp (xI Pa B8.length (Zz B8)) (xw q0_0)) nn)))))))) (Xh (sl De (C':=⟨⟨86,0,true⟩,(Vm prog 24 [1,1,1,1,0] 1),(Zg prog 24 [1,1,1,1,0] 1),none,(Zy prog 24),⟨Yj [(2,(ii (Jf (B3 B8)))),(3,(ii (GG (B3 (Zi (B3 B8)))))),(4,(ii (GV (B3 (Zi (B3 B8)))))),(5,(.dat (Wd (B3 B8) 1 0).length (Zz (Wd (B3 B8) 1 0)))),(6,(ii (EX (B3 B8) 1 0))),(29,(.dat B8.length (Zz B8)))],Vk [] 0,0,[],true⟩,[],.leaf⟩) 0 [] ⟨[],[0],[some [2,3,4,5,6,29]],[]⟩ ⟨[(29,.frz 2 B8.length (Xt [(ii 0),(ii 0),(ii 0),(ii 2),(ii 2),(ii 2),(.dat ([(R6.mk 0 0 0 2 2 1)]:List R6).length (Zz ([(R6.mk 0 0 0 2 2 1)]:List R6))),(ii 2),(ii 0),(ii 0),(ii 4),(ii 2),(ii 2),(.dat ([(R6.mk 2 0 0 4 2 2)]:List R6).length (Zz ([(R6.mk 2 0 0 4 2 2)]:List R6)))] 0 7) (Zz B8))],[],[]⟩ [] (pp (xZ (.dat 2 (Xt [(ii 0),(ii 0),(ii 0),(ii 2),(ii 2),(ii 2),(.dat ([(R6.mk 0 0 0 2 2 1)]:List R6).length (Zz ([(R6.mk 0 0 0 2 2 1)]:List R6))),(ii 2),(ii 0),(ii 0),(ii 4),(ii 2),(ii 2),(.dat ([(R6.mk 2 0 0 4 2 2)]:List R6).length (Zz ([(R6.mk 2 0 0 4 2 2)]:List R6)))] 0 7)) 2 (Xt [(ii 0),(ii 0),(ii 0),(ii 2),(ii 2),(ii 2),(.dat ([(R6.mk 0 0 0 2 2 1)]:List R6).length (Zz ([(R6.mk 0 0 0 2 2 1)]:List R6))),(ii 2),(ii 0),(ii 0),(ii 4),(ii 2),(ii 2),(.dat ([(R6.mk 2 0 0 4 2 2)]:List R6).length (Zz ([(R6.mk 2 0 0 4 2 2)]:List R6)))] 0 7)) (pp (xL 2 B8.length) (pp (xS 2 (Xt [(ii 0),(ii 0),(ii 0),(ii 2),(ii 2),(ii 2),(.dat ([(R6.mk 0 0 0 2 2 1)]:List R6).length (Zz ([(R6.mk 0 0 0 2 2 1)]:List R6))),(ii 2),(ii 0),(ii 0),(ii 4),(ii 2),(ii 2),(.dat ([(R6.mk 2 0 0 4 2 2)]:List R6).length (Zz ([(R6.mk 2 0 0 4 2 2)]:List R6)))] 0 7) (Zz B8)) nn)))) (lo fun q0_0=>(Xh (sl De (C':=⟨⟨86,0,true⟩,(Vm prog 24 [1,1,1,1,1,0] 1),(Zg prog 24 [1,1,1,1,1,0] 1),none,(Zy prog 24),⟨Yj [(2,(ii (Jf (B3 B8)))),(3,(ii (GG (B3 (Zi (B3 B8)))))),(4,(ii (GV (B3 (Zi (B3 B8)))))),(5,(.dat (Wd (B3 B8) 1 0).length (Zz (Wd (B3 B8) 1 0)))),(6,(ii (EX (B3 B8) 1 0))),(7,(.dat (Wd (B3 B8) 0 1).length (Zz (Wd (B3 B8) 0 1)))),(8,(ii (EX (B3 B8) 0 1))),(34,(.sl 0 0 2 (.un 7)))],Vk [⟨[(ii 0),(ii 0),(ii 0),(ii 2),(ii 2),(ii 2),(.dat ([(R6.mk 0 0 0 2 2 1)]:List R6).length (Zz ([(R6.mk 0 0 0 2 2 1)]:List R6))),(ii 2),(ii 0),(ii 0),(ii 4),(ii 2),(ii 2),(.dat ([(R6.mk 2 0 0 4 2 2)]:List R6).length (Zz ([(R6.mk 2 0 0 4 2 2)]:List R6)))],59,none⟩] 0,1,[],true⟩,[],.leaf⟩) 100 [] ⟨[6],[2,5],[some [2,3,4,5,6,7,8,34]],[]⟩ ⟨[],[.cells [.keep,.keep,.keep,.keep,.keep,.keep,.frz 1 ([(R6.mk 0 0 0 2 2 1)]:List R6).length (Xt [(ii 0),(ii 0),(ii 0),(ii 2),(ii 2),(ii 1)] 0 6) (Zz ([(R6.mk 0 0 0 2 2 1)]:List R6)),.keep,.keep,.keep,.keep,.keep,.keep,.frz 1 ([(R6.mk 2 0 0 4 2 2)]:List R6).length (Xt [(ii 2),(ii 0),(ii 0),(ii 4),(ii 2),(ii 2)] 0 6) (Zz ([(R6.mk 2 0 0 4 2 2)]:List R6))]],[]⟩ [] (pp (xZ (.dat 1 (Xt [(ii 0),(ii 0),(ii 0),(ii 2),(ii 2),(ii 1)] 0 6)) 1 (Xt [(ii 0),(ii 0),(ii 0),(ii 2),(ii 2),(ii 1)] 0 6)) (pp (xL 1 ([(R6.mk 0 0 0 2 2 1)]:List R6).length) (pp (xS 1 (Xt [(ii 0),(ii 0),(ii 0),(ii 2),(ii 2),(ii 1)] 0 6) (Zz ([(R6.mk 0 0 0 2 2 1)]:List R6))) (pp (xZ (.dat 1 (Xt [(ii 2),(ii 0),(ii 0),(ii 4),(ii 2),(ii 2)] 0 6)) 1 (Xt [(ii 2),(ii 0),(ii 0),(ii 4),(ii 2),(ii 2)] 0 6)) (pp (xL 1 ([(R6.mk 2 0 0 4 2 2)]:List R6).length) (pp (xS 1 (Xt [(ii 2),(ii 0),(ii 0),(ii 4),(ii 2),(ii 2)] 0 6) (Zz ([(R6.mk 2 0 0 4 2 2)]:List R6))) (pp (pp (xI Pa B8.length (Zz B8)) (xw q0_0)) nn)))))))) (Xh (sl De (C':=⟨⟨86,0,true⟩,(Vm prog 24 [1,1,1,1,1,0] 1),(Zg prog 24 [1,1,1,1,1,0] 1),none,(Zy prog 24),⟨Yj [(2,(ii (Jf (B3 B8)))),(3,(ii (GG (B3 (Zi (B3 B8)))))),(4,(ii (GV (B3 (Zi (B3 B8)))))),(5,(.dat (Wd (B3 B8) 1 0).length (Zz (Wd (B3 B8) 1 0)))),(6,(ii (EX (B3 B8) 1 0))),(7,(.dat (Wd (B3 B8) 0 1).length (Zz (Wd (B3 B8) 0 1)))),(8,(ii (EX (B3 B8) 0 1))),(34,(.dat B8.length (Zz B8)))],Vk [] 0,0,[],true⟩,[],.leaf⟩) 0 [] ⟨[],[0],[some [2,3,4,5,6,7,8,34]],[]⟩ ⟨[(34,.frz 2 B8.length (Xt [(ii 0),(ii 0),(ii 0),(ii 2),(ii 2),(ii 2),(.dat ([(R6.mk 0 0 0 2 2 1)]:List R6).length (Zz ([(R6.mk 0 0 0 2 2 1)]:List R6))),(ii 2),(ii 0),(ii 0),(ii 4),(ii 2),(ii 2),(.dat ([(R6.mk 2 0 0 4 2 2)]:List R6).length (Zz ([(R6.mk 2 0 0 4 2 2)]:List R6)))] 0 7) (Zz B8))],[],[]⟩ [] (pp (xZ (.dat 2 (Xt [(ii 0),(ii 0),(ii 0),(ii 2),(ii 2),(ii 2),(.dat ([(R6.mk 0 0 0 2 2 1)]:List R6).length (Zz ([(R6.mk 0 0 0 2 2 1)]:List R6))),(ii 2),(ii 0),(ii 0),(ii 4),(ii 2),(ii 2),(.dat ([(R6.mk 2 0 0 4 2 2)]:List R6).length (Zz ([(R6.mk 2 0 0 4 2 2)]:List R6)))] 0 7)) 2 (Xt [(ii 0),(ii 0),(ii 0),(ii 2),(ii 2),(ii 2),(.dat ([(R6.mk 0 0 0 2 2 1)]:List R6).length (Zz ([(R6.mk 0 0 0 2 2 1)]:List R6))),(ii 2),(ii 0),(ii 0),(ii 4),(ii 2),(ii 2),(.dat ([(R6.mk 2 0 0 4 2 2)]:List R6).length (Zz ([(R6.mk 2 0 0 4 2 2)]:List R6)))] 0 7)) (pp (xL 2 B8.length) (pp (xS 2 (Xt [(ii 0),(ii 0),(ii 0),(ii 2),(ii 2),(ii 2),(.dat ([(R6.mk 0 0 0 2 2 1)]:List R6).length (Zz ([(R6.mk 0 0 0 2 2 1)]:List R6))),(ii 2),(ii 0),(ii 0),(ii 4),(ii 2),(ii 2),(.dat ([(R6.mk 2 0 0 4 2 2)]:List R6).length (Zz ([(R6.mk 2 0 0 4 2 2)]:List R6)))] 0 7) (Zz B8)) nn)))) (lo fun bN=>(lo fun dO=>(lb (fun k0=>(lb (fun k1=>(lb (fun k2=>(lb (fun k3=>(Xh (sl De (C':=⟨⟨86,0,true⟩,(Vm prog 24 [1,1,1,1,1,1,1,0] 20),(Zg prog 24 [1,1,1,1,1,1,1,0] 1),none,(Zy prog 24),⟨Yj [(7,(.dat (Wd (B3 B8) 0 1).length (Zz (Wd (B3 B8) 0 1)))),(8,(ii (EX (B3 B8) 0 1))),(10,(ii (Kg (B3 B8) 0))),(11,(ii (Qm (B3 (Xe (B3 B8) 0))))),(12,(ii (Ef (B3 (Xe (B3 B8) 0))))),(57,(.bool true)),(58,(.dat (Wd (B3 B8) 1 0).length (Zz (Wd (B3 B8) 1 0)))),(62,(.dat ([(R7.mk 1 2 0 1 2 2 2)]:List R7).length (Zz ([(R7.mk 1 2 0 1 2 2 2)]:List R7))))],Vk [] 0,0,[],true⟩,[],.leaf⟩) 39 [] ⟨[],[0],[some [7,8,10,11,12,57,58,62]],[]⟩ ⟨[(62,.frz 1 ([(R7.mk 1 2 0 1 2 2 2)]:List R7).length (Xt [(.int .u8 1),(ii 2),(ii 0),(ii 1),(ii 2),(ii 2),(ii 2)] 0 7) (Zz ([(R7.mk 1 2 0 1 2 2 2)]:List R7)))],[],[]⟩ (CA 11 []) (pp (xZ (.dat 1 (Xt [(.int .u8 1),(ii 2),(ii 0),(ii 1),(ii 2),(ii 2),(ii 2)] 0 7)) 1 (Xt [(.int .u8 1),(ii 2),(ii 0),(ii 1),(ii 2),(ii 2),(ii 2)] 0 7)) (pp (xL 1 ([(R7.mk 1 2 0 1 2 2 2)]:List R7).length) (pp (xS 1 (Xt [(.int .u8 1),(ii 2),(ii 0),(ii 1),(ii 2),(ii 2),(ii 2)] 0 7) (Zz ([(R7.mk 1 2 0 1 2 2 2)]:List R7))) (tt k3 (tt k2 (tt k1 (tt k0 (pp (pp (xI R7 (Xe (B3 B8) 0).length (Zz (Xe (B3 B8) 0))) (xw dO)) (pp (pp (xI Pa B8.length (Zz B8)) (xw bN)) nn)))))))))) (lo fun bZ=>(lb (fun k4=>(lb (fun k5=>(lb (fun k6=>(lb (fun k7=>(lb (fun k8=>(lr 86 3 [1,1,1,1,0] 1 24 [(0,(.bool ((Qm (B3 (Xe (B3 B8) 0))) == 14)))] (sl De 25 [] (a8 [0]) a6 (CA 12 []) (tt k8 (tt k7 (tt k6 (tt k5 (tt k4 (pp (pp (xI R7 (Wd (B3 B8) 1 0).length (Zz (Wd (B3 B8) 1 0))) (pp (xI R7 ([(R7.mk 1 2 0 1 2 2 2)]:List R7).length (Zz ([(R7.mk 1 2 0 1 2 2 2)]:List R7))) (xw bZ))) nn))))))))) (fun k8=>(lr 86 3 [1,1,1,1,0] 1 24 [(0,(.bool false))] (sl De 25 [] (a8 [0]) a6 (CA 10 (bl 2 0)) (tt k8 (tt k7 (tt k6 (tt k5 (tt k4 (pp (pp (xI R7 (Wd (B3 B8) 1 0).length (Zz (Wd (B3 B8) 1 0))) (pp (xI R7 ([(R7.mk 1 2 0 1 2 2 2)]:List R7).length (Zz ([(R7.mk 1 2 0 1 2 2 2)]:List R7))) (xw bZ))) nn))))))))))) (fun k7=>(lr 86 3 [1,1,1,1,0] 1 24 [(0,(.bool false))] (sl De 25 [] (a8 [0]) a6 (CA 8 (bl 4 0)) (tt k7 (tt k6 (tt k5 (tt k4 (pp (pp (xI R7 (Wd (B3 B8) 1 0).length (Zz (Wd (B3 B8) 1 0))) (pp (xI R7 ([(R7.mk 1 2 0 1 2 2 2)]:List R7).length (Zz ([(R7.mk 1 2 0 1 2 2 2)]:List R7))) (xw bZ))) nn)))))))))) (fun k6=>(lr 86 3 [1,1,1,1,0] 1 24 [(0,(.bool false))] (sl De 25 [] (a8 [0]) a6 (CA 6 (bl 6 0)) (tt k6 (tt k5 (tt k4 (pp (pp (xI R7 (Wd (B3 B8) 1 0).length (Zz (Wd (B3 B8) 1 0))) (pp (xI R7 ([(R7.mk 1 2 0 1 2 2 2)]:List R7).length (Zz ([(R7.mk 1 2 0 1 2 2 2)]:List R7))) (xw bZ))) nn))))))))) (fun k5=>(lr 86 3 [1,1,1,1,0] 1 24 [(0,(.bool false))] (sl De 25 [] (a8 [0]) a6 (CA 3 (bl 9 0)) (tt k5 (tt k4 (pp (pp (xI R7 (Wd (B3 B8) 1 0).length (Zz (Wd (B3 B8) 1 0))) (pp (xI R7 ([(R7.mk 1 2 0 1 2 2 2)]:List R7).length (Zz ([(R7.mk 1 2 0 1 2 2 2)]:List R7))) (xw bZ))) nn)))))))) (fun k4=>(lr 86 3 [1,1,1,1,0] 1 24 [(0,(.bool false))] (sl De 25 [] (a8 [0]) a6 (bl 12 1) (tt k4 (pp (pp (xI R7 (Wd (B3 B8) 1 0).length (Zz (Wd (B3 B8) 1 0))) (pp (xI R7 ([(R7.mk 1 2 0 1 2 2 2)]:List R7).length (Zz ([(R7.mk 1 2 0 1 2 2 2)]:List R7))) (xw bZ))) nn))))))))) (fun k3=>(lr 86 3 [1,1,1,1,0] 1 24 [(0,(.bool false))] (sl De 64 [] (a8 [0]) a6 (CA 6 (bl 17 0)) (tt k3 (tt k2 (tt k1 (tt k0 (pp (pp (xI R7 (Xe (B3 B8) 0).length (Zz (Xe (B3 B8) 0))) (xw dO)) (pp (pp (xI Pa B8.length (Zz B8)) (xw bN)) nn))))))))))) (fun k2=>(lr 86 3 [1,1,1,1,0] 1 24 [(0,(.bool false))] (sl De 64 [] (a8 [0]) a6 (CA 4 (bl 19 0)) (tt k2 (tt k1 (tt k0 (pp (pp (xI R7 (Xe (B3 B8) 0).length (Zz (Xe (B3 B8) 0))) (xw dO)) (pp (pp (xI Pa B8.length (Zz B8)) (xw bN)) nn)))))))))) (fun k1=>(lr 86 3 [1,1,1,1,0] 1 24 [(0,(.bool false))] (sl De 64 [] (a8 [0]) a6 (bl 23 3) (tt k1 (tt k0 (pp (pp (xI R7 (Xe (B3 B8) 0).length (Zz (Xe (B3 B8) 0))) (xw dO)) (pp (pp (xI Pa B8.length (Zz B8)) (xw bN)) nn))))))))) (fun k0=>(lr 86 3 [1,1,1,1,0] 1 24 [(0,(.bool false))] (sl De 64 [] (a8 [0]) a6 (bl 23 0) (tt k0 (pp (pp (xI R7 (Xe (B3 B8) 0).length (Zz (Xe (B3 B8) 0))) (xw dO)) (pp (pp (xI Pa B8.length (Zz B8)) (xw bN)) nn)))))))))))))))))))))
theorem j0k (n:Nat) (vs:List B2) (h:Zo (w6d) n (X9)=.ret vs):Uj prog (Zy prog 24) (Zm prog 24 [] true []) vs:=by have:=Zb (v4s) n _ (w6e);rwa [h] at this
inductive Iu where
def Pv (l0:List Pa):Iu->CB
 :=nofun
def w4s (l0:List Pa):Iu->Xz Iu
 :=nofun
def YI (l0:List Pa):Xz Iu:=(bif (decide ((l0.length:Int)<=6)) then (bif (XD (B3 l0)) then (bif (Hq (B3 l0)) then (bif (XC (B3 l0)) then (.ret [(.bool ((Mn (B3 l0)) == 0))]) else .stuck) else (.ret [(.bool false)])) else .stuck) else (.ret [(.bool false)]))
theorem v3t (l0:List Pa): ∀s,Xw prog (Zy prog 25) (Pv l0) (Pv l0 s) (w4s l0 s)
 :=nofun
theorem w4t (l0:List Pa):Xw prog (Zy prog 25) (Pv l0) (Zm prog 25 [(.dat l0.length (Zz l0))] true []) (YI l0):=(lb (fun k0=>(lo fun aE=>let a:=pp (pp (xr l0) (xw aE)) (tt k0 nn);(lb (fun k1=>(lo fun o0=>(lr 15 3 [1,1,1,1,0] 1 9 [(2,(.bool ((Mn (B3 l0)) == 0)))] (sl De 20 [] (a8 [2]) a6 (CA 5 []) (pp (pp (xr l0) (xw o0)) (tt k1 a)))))) (fun k1=>(lr 15 3 [1,1,1,1,0] 1 9 [(2,(.bool false))] (sl De 20 [] (a8 [2]) a6 (bl 5 3) (tt k1 a))))))) (fun k0=>(lr 15 3 [1,1,1,1,0] 1 9 [(2,(.bool false))] (sl De 20 [] (a8 [2]) a6 (bl 5 0) (tt k0 nn)))))
theorem u9g (l0:List Pa) (n:Nat) (vs:List B2) (h:Zo (w4s l0) n (YI l0)=.ret vs):Uj prog (Zy prog 25) (Zm prog 25 [(.dat l0.length (Zz l0))] true []) vs:=by have:=Zb (v3t l0) n _ (w4t l0);rwa [h] at this
def bA :R6:=⟨0,0,0,2,2,1⟩
def bB :R6:=⟨2,0,0,4,2,2⟩
def C8 :List R6:=[⟨0,0,0,4,2,1⟩,⟨2,0,1,4,2,2⟩]
theorem JK (r:R4) (h1:r.a<r.c) (h2:r.b<r.d):Xr.can [r]:=⟨[⟨r.a,r.c,[⟨r.b,r.d⟩]⟩],.one _ ⟨h1,WR _ _ h2,by simp⟩,rfl⟩
theorem TA :Zf C8=0:=by refine SL (by decide) ?_ ⟨[⟨0,1,[⟨0,0,4,2⟩]⟩,⟨1,2,[⟨2,0,4,2⟩]⟩],.cons _ _ [] ⟨by decide,JK _ (by decide) (by decide),by simp⟩ ⟨by decide,fun _=>by simp⟩ (.one _ ⟨by decide,JK _ (by decide) (by decide),by simp⟩),rfl⟩;intro r hr;simp only [C8,AH,Bo,B1] at hr;rcases hr with rfl | rfl <;> rfl
theorem Hj :Zf [bA]=0:=Sc rfl
theorem TP :Zf [bB]=0:=Sc rfl
theorem Fs :EK [bA]:=(KN (S:=[bA]) rfl).1
theorem Id :EK [bB]:=(KN (S:=[bB]) rfl).1
theorem VX :EK C8:=(KN (S:=C8) rfl).1
theorem KP {a b W:List R6} (ha:Zf a=0) (hb:Zf b=0) (na:EK a) (nb:EK b) (hW:Zf W=0) (h: ∀x y z,CY W x y z↔CY a x y z\/CY b x y z):Dn .u a b=0/\Qu .u a b=W:=by
 obtain ⟨c,pts⟩:=VD ha hb na nb;have e:Dq .u a b=W:=C5.uniq _ _ c (w7h hW) fun ⟨z,x,y⟩=>by rw [<-Jr,<-Jr,pts,h]
 have e1:Da .u a b=0:=by
  grind [VL,Xs,D7]
 refine ⟨e1,?_⟩;unfold Qu;rw [e1];exact e
theorem Mo (x y z:Int):CY C8 x y z↔CY [bA] x y z\/CY [bB] x y z:=by unfold CY C8 bA bB;simp;omega
theorem KO :FE [] B8=0/\CT [] B8=C8:=by
 obtain ⟨a1,a0⟩:=KP w1c Hj t1l Fs Hj fun x y z=>by
  constructor
  .exact .inr
  .rintro (⟨r,hr,_⟩ | h);all_goals grind
 obtain ⟨b1,b0⟩:=KP Hj TP Fs Id TA Mo;constructor
 .show (bif Dn .u [] [bA] != 0 then _ else bif Dn .u (Qu .u [] [bA]) [bB] != 0 then _ else _)=_;rw [a1,a0,b1];rfl
 .show Qu .u (Qu .u [] [bA]) [bB]=_;rw [a0,b0]
theorem U4 :Qe B8=0:=by
 have g0:EY B8 0=false:=by show (Zf [⟨0,0,0,2,2,2⟩] != 0||_)=false;rw [Sc (b:=⟨0,0,0,2,2,2⟩) rfl];rfl
 have g1:EY B8 1=false:=by show (Zf [⟨2,0,0,4,2,2⟩] != 0||_)=false;rw [Sc (b:=⟨2,0,0,4,2,2⟩) rfl];rfl
 have e:Ec B8=0:=by show (bif Zf [bA] != 0 then _ else bif Zf [bB] != 0 then _ else _)=_;rw [Hj,TP];rfl
 show (bif Ec B8 != 0 then _ else bif EY B8 0 then 8 else bif EY B8 1 then 8 else 0)=_
 grind
theorem w3o :VH B8:=G3 U4
theorem t1g : ∀x∈B8,TU x.s=true:=fun x hx=>by
 simp only [B8,AH,Bo,B1] at hx;rcases hx with rfl | rfl <;> rfl
theorem OW :Jf B8=0/\Zi B8=C8:=by
 obtain ⟨e,l⟩:=KO;have h1:Jf B8=0:=by
  grind [Jf,Kt,U4]
 refine ⟨h1,?_⟩;unfold Zi;rw [h1,l];rfl
theorem OZ :GV C8=0/\GG C8=12:=by refine ⟨TA,?_⟩;unfold GG;rw [TA];rfl
theorem Hc (q:Ax) (r:R6) (h:q.lo r<q.hi r):CR q [r]=[q.lo r,q.hi r]:=y2y _ _ (NP q _) (by simp [h]) fun x=>by rw [Tz];simp
theorem x5o (M:Int->Int->List R4) (d a b:Int):Kj M d [a,b]=(M d a).map (Cc d (B5 d) a)++(M d b).map (Cc d (B5 d) b):=by
 show (M d a).map (Cc d (B5 d) a)++((M d b).map (Cc d (B5 d) b)++[])=_
 grind
theorem SB (M:Int->Int->List R4) (S:List R6):DB M S 6 0=Kj M 0 (CR .x S)++(Kj M 1 (CR .x S)++(Kj M 2 (CR .y S)++(Kj M 3 (CR .y S)++(Kj M 4 (CR .z S)++Kj M 5 (CR .z S))))):=by
 have e:DB M S 6 0=Kj M ((0:Nat):Int) (CE (B5 ((0:Nat):Int)) S)++(Kj M ((0+1:Nat):Int) (CE (B5 ((0+1:Nat):Int)) S)++(Kj M ((0+1+1:Nat):Int) (CE (B5 ((0+1+1:Nat):Int)) S)++(Kj M ((0+1+1+1:Nat):Int) (CE (B5 ((0+1+1+1:Nat):Int)) S)++(Kj M ((0+1+1+1+1:Nat):Int) (CE (B5 ((0+1+1+1+1:Nat):Int)) S)++(Kj M ((0+1+1+1+1+1:Nat):Int) (CE (B5 ((0+1+1+1+1+1:Nat):Int)) S)++[]))))):=rfl;have p: ∀q s,CE (B5 (Vs q s:Int)) S=CR q S:=fun q s=>by rw [KC,w7z]
 have p0:CE (B5 ((0:Nat):Int)) S=CR .x S:=p .x true;have p1:CE (B5 ((0+1:Nat):Int)) S=CR .x S:=p .x false;have p2:CE (B5 ((0+1+1:Nat):Int)) S=CR .y S:=p .y true;have p3:CE (B5 ((0+1+1+1:Nat):Int)) S=CR .y S:=p .y false;have p4:CE (B5 ((0+1+1+1+1:Nat):Int)) S=CR .z S:=p .z true
 grind [B5]
theorem Mr (q:Ax) (s:Bool) (p:Int) (R:List R4) (cR:Xr.can R) (h: ∀u v,CI Xr.inB R (u,v)↔q.inL [bA] (Jz s p) u v/\ ¬q.inL C8 (Qw s p) u v):FS q s [bA] C8 p=R:=by obtain ⟨c,pts⟩:=w9y Hj TA q s p;exact Xr.uniq _ _ c cR fun ⟨u,v⟩=>by rw [pts,h]
theorem v9f (u v:Int):CI Xr.inB [] (u,v)↔False:=⟨fun h=>JT _ _ h,fun h=>h.elim⟩
theorem j4s (r:R4) (u v:Int):CI Xr.inB [r] (u,v)↔(r.a<=u/\u<r.c)/\(r.b<=v/\v<r.d):=by rw [HQ];simp
theorem j6d (q:Ax) (p u v:Int):q.inL C8 p u v↔q.inB ⟨0,0,0,4,2,1⟩ p u v\/q.inB ⟨2,0,1,4,2,2⟩ p u v:=by unfold Ax.inL C8;simp
theorem WF :FS .x true [bA] C8 0=[]/\FS .x true [bA] C8 2=[]/\FS .x false [bA] C8 0=[⟨0,0,2,1⟩]/\FS .x false [bA] C8 2=[]/\
  FS .y true [bA] C8 0=[]/\FS .y true [bA] C8 2=[⟨0,0,2,1⟩]/\FS .y false [bA] C8 0=[⟨0,0,2,1⟩]/\FS .y false [bA] C8 2=[]/\
  FS .z true [bA] C8 0=[]/\FS .z true [bA] C8 1=[⟨0,0,2,2⟩]/\FS .z false [bA] C8 0=[⟨0,0,2,2⟩]/\FS .z false [bA] C8 1=[]:=by
 refine ⟨?_,?_,?_,?_,?_,?_,?_,?_,?_,?_,?_,?_⟩ <;>
 first
  | (refine Mr _ _ _ [] Xr.nil fun u v=> ?_
     rw [v9f,j6d,Ni];refine ⟨False.elim,fun h=> ?_⟩;simp only [Ax.inB,Ax.lo,Ax.hi,Ax.rc,bA,Jz,Qw] at h;omega)
  | (refine Mr _ _ _ [_] ?_ fun u v=> ?_
     .exact JK _ (by decide) (by decide)
     grind [j4s,j6d,Ni,Ax.inB,Ax.lo,Ax.hi,Ax.rc,bA,Jz,Qw])
theorem GE (q:Ax) (s:Bool) {p:Int} (hp: -12<=p/\p<=12):Qd [bA] C8 (Vs q s:Int) p=FS q s [bA] C8 p:=(w0v Hj TA Fs VX q s hp).2
def TV :List R7:=[⟨1,0,0,0,0,2,1⟩,⟨2,0,2,0,2,2,1⟩,⟨3,0,0,0,2,0,1⟩,⟨4,0,0,1,2,2,1⟩,⟨5,0,0,0,2,2,0⟩]
theorem Oh :DB (Qd [bA] C8) [bA] 6 0=TV:=by
 obtain ⟨f1,f2,f3,f4,f5,f6,f7,f8,f9,fa,fb,fc⟩:=WF;rw [SB,Hc .x bA (by decide),Hc .y bA (by decide),Hc .z bA (by decide)];rw [show (Ax.x).lo bA=0 from rfl,show (Ax.x).hi bA=2 from rfl,show (Ax.y).lo bA=0 from rfl,show (Ax.y).hi bA=2 from rfl,show (Ax.z).lo bA=0 from rfl,show (Ax.z).hi bA=1 from rfl];simp only [x5o];rw [show Qd [bA] C8 0 0=_ from GE .x true (by omega),show Qd [bA] C8 0 2=_ from GE .x true (by omega),show Qd [bA] C8 1 0=_ from GE .x false (by omega),show Qd [bA] C8 1 2=_ from GE .x false (by omega),
  show Qd [bA] C8 2 0=_ from GE .y true (by omega),show Qd [bA] C8 2 2=_ from GE .y true (by omega),show Qd [bA] C8 3 0=_ from GE .y false (by omega),show Qd [bA] C8 3 2=_ from GE .y false (by omega),
  show Qd [bA] C8 4 0=_ from GE .z true (by omega),show Qd [bA] C8 4 1=_ from GE .z true (by omega),show Qd [bA] C8 5 0=_ from GE .z false (by omega),show Qd [bA] C8 5 1=_ from GE .z false (by omega)]
 rw [f1,f2,f3,f4,f5,f6,f7,f8,f9,fa,fb,fc];rfl
theorem Oe :Kg B8 0=0/\Xe B8 0=TV:=by
 obtain ⟨e,l⟩:=KO;have hw:Yv B8=C8:=by unfold Yv;rw [e,l];rfl
 have s1:=j8q w3o t1g (A:=C8) TA VX (fun x y z=>by
  rw [Mo];constructor
  .rintro (h | h)
   .exact ⟨_,List.mem_cons_self ..,h⟩
   .exact ⟨_,List.mem_cons_of_mem _ (List.mem_cons_self ..),h⟩
  .rintro ⟨p,hp,h⟩;simp only [B8,AH,Bo,B1] at hp;rcases hp with rfl | rfl
   .exact .inl h
   .exact .inr h) (i:=0) (by decide)
 have h1:Kg B8 0=0:=by show (bif Qe B8 != 0 then _ else bif Kt B8 != 0 then _ else Ei (DG [bA] (Yv B8)) (Qd [bA] (Yv B8)) [bA])=0;rw [U4,show Kt B8=0 from e,hw];exact s1
 refine ⟨h1,?_⟩;unfold Xe;rw [h1];show DB (Qd [bA] (Yv B8)) [bA] 6 0=_;rw [hw,Oh]
theorem v5z {S T:List R6} {b:R6} (hS:Zf S=0) (hT:Zf T=0) (hb:Zf [b]=0) (nS:EK S) (nT:EK T) (q:Ax) (s:Bool) {p:Int} (hp: -12<=p/\p<=12) (R:List R4) (cR:Xr.can R)
  (h: ∀u v,CI Xr.inB R (u,v)↔q.inL S (Jz s p) u v/\q.inB b (Qw s p) u v/\ ¬q.inL T (Qw s p) u v):Kh S T b (Vs q s:Int) p=R:=by
 rw [(w0h hS hT hb nS nT q s hp).2];obtain ⟨c,pts,_⟩:=w9w hS hT hb nS nT q s p;exact Xr.uniq _ _ c cR fun ⟨u,v⟩=>by rw [pts,h]
theorem j2x :Zf [(⟨0,0,0,2,2,2⟩:R6)]=0:=Sc rfl
theorem Gg (q:Ax) (s:Bool) {p:Int} (hp: -12<=p/\p<=12) (h: ¬(q=.x /\s=false/\p=2)):Kh [bB] [bA] ⟨0,0,0,2,2,2⟩ (Vs q s:Int) p=[]:=by refine v5z TP Hj j2x Id Fs q s hp [] Xr.nil fun u v=> ?_;rw [v9f,Ni,Ni];refine ⟨False.elim,fun k=> ?_⟩;cases q <;> cases s <;> simp only [Ax.inB,Ax.lo,Ax.hi,Ax.rc,bA,bB,Jz,Qw] at k <;> first | omega | grind
theorem VJ :Kh [bB] [bA] ⟨0,0,0,2,2,2⟩ (Vs .x false:Int) 2=[⟨0,1,2,2⟩]:=by
 refine v5z TP Hj j2x Id Fs .x false (by decide) [_] ?_ fun u v=> ?_
 .exact JK _ (by decide) (by decide)
 grind [j4s,Ni,Ax.inB,Ax.lo,Ax.hi,Ax.rc,bA,bB,Jz,Qw]
theorem GQ (q:Ax) (s:Bool) {p:Int} (hp: -12<=p/\p<=12):Kh [bA] [bB] bB (Vs q s:Int) p=[]:=by
 refine v5z Hj TP TP Fs Id q s hp [] Xr.nil fun u v=> ?_
 grind [v9f,Ni]
theorem O6 :DB (Kh [bA] [bB] bB) [bA] 6 0=[]:=by
 rw [SB,Hc .x bA (by decide),Hc .y bA (by decide),Hc .z bA (by decide)];rw [show (Ax.x).lo bA=0 from rfl,show (Ax.x).hi bA=2 from rfl,show (Ax.y).lo bA=0 from rfl,show (Ax.y).hi bA=2 from rfl,show (Ax.z).lo bA=0 from rfl,show (Ax.z).hi bA=1 from rfl];simp only [x5o];rw [show Kh [bA] [bB] bB 0 0=_ from GQ .x true (by omega),show Kh [bA] [bB] bB 0 2=_ from GQ .x true (by omega),show Kh [bA] [bB] bB 1 0=_ from GQ .x false (by omega),show Kh [bA] [bB] bB 1 2=_ from GQ .x false (by omega),
  show Kh [bA] [bB] bB 2 0=_ from GQ .y true (by omega),show Kh [bA] [bB] bB 2 2=_ from GQ .y true (by omega),show Kh [bA] [bB] bB 3 0=_ from GQ .y false (by omega),show Kh [bA] [bB] bB 3 2=_ from GQ .y false (by omega),
  show Kh [bA] [bB] bB 4 0=_ from GQ .z true (by omega),show Kh [bA] [bB] bB 4 1=_ from GQ .z true (by omega),show Kh [bA] [bB] bB 5 0=_ from GQ .z false (by omega),show Kh [bA] [bB] bB 5 1=_ from GQ .z false (by omega)]
 rfl
theorem O5 :DB (Kh [bB] [bA] ⟨0,0,0,2,2,2⟩) [bB] 6 0=[⟨1,2,0,1,2,2,2⟩]:=by
 rw [SB,Hc .x bB (by decide),Hc .y bB (by decide),Hc .z bB (by decide)];rw [show (Ax.x).lo bB=2 from rfl,show (Ax.x).hi bB=4 from rfl,show (Ax.y).lo bB=0 from rfl,show (Ax.y).hi bB=2 from rfl,show (Ax.z).lo bB=0 from rfl,show (Ax.z).hi bB=2 from rfl];simp only [x5o];rw [show Kh [bB] [bA] ⟨0,0,0,2,2,2⟩ 0 2=_ from Gg .x true (by omega) (by simp),show Kh [bB] [bA] ⟨0,0,0,2,2,2⟩ 0 4=_ from Gg .x true (by omega) (by simp),show Kh [bB] [bA] ⟨0,0,0,2,2,2⟩ 1 2=_ from VJ,show Kh [bB] [bA] ⟨0,0,0,2,2,2⟩ 1 4=_ from Gg .x false (by omega) (by simp),
  show Kh [bB] [bA] ⟨0,0,0,2,2,2⟩ 2 0=_ from Gg .y true (by omega) (by simp),show Kh [bB] [bA] ⟨0,0,0,2,2,2⟩ 2 2=_ from Gg .y true (by omega) (by simp),show Kh [bB] [bA] ⟨0,0,0,2,2,2⟩ 3 0=_ from Gg .y false (by omega) (by simp),show Kh [bB] [bA] ⟨0,0,0,2,2,2⟩ 3 2=_ from Gg .y false (by omega) (by simp),
  show Kh [bB] [bA] ⟨0,0,0,2,2,2⟩ 4 0=_ from Gg .z true (by omega) (by simp),show Kh [bB] [bA] ⟨0,0,0,2,2,2⟩ 4 2=_ from Gg .z true (by omega) (by simp),show Kh [bB] [bA] ⟨0,0,0,2,2,2⟩ 5 0=_ from Gg .z false (by omega) (by simp),show Kh [bB] [bA] ⟨0,0,0,2,2,2⟩ 5 2=_ from Gg .z false (by omega) (by simp)]
 rfl
theorem O1 :(EX B8 1 0=0/\Wd B8 1 0=[⟨1,2,0,1,2,2,2⟩])/\EX B8 0 1=0/\Wd B8 0 1=[]:=by
 have s1:=v6b w3o t1g (i:=1) (k:=0) (by decide) (by decide) (by decide);have t1:=v6b w3o t1g (i:=0) (k:=1) (by decide) (by decide) (by decide);have h1:EX B8 1 0=0:=by show (bif Qe B8 != 0 then _ else Ei (D1 [bB] [bA] ⟨0,0,0,2,2,2⟩) (Kh [bB] [bA] ⟨0,0,0,2,2,2⟩) [bB])=0;rw [U4];exact s1
 have h2:EX B8 0 1=0:=by show (bif Qe B8 != 0 then _ else Ei (D1 [bA] [bB] bB) (Kh [bA] [bB] bB) [bA])=0;rw [U4];exact t1
 refine ⟨⟨h1,?_⟩,h2,?_⟩
 .unfold Wd;rw [h1];exact O5
 .unfold Wd;rw [h2];exact O6
theorem P4 :Ef TV=0/\Qm TV=14:=by
 have e:FI TV=0:=by decide
 refine ⟨e,?_⟩;unfold Qm;rw [e];rfl
theorem t5l : ∃N,Zo w6d N X9=.ret [.bool true]:=by
 refine ⟨0,?_⟩;have e:([(Pa.mk 0 0 0 2 2 2 ([(R6.mk 0 0 0 2 2 1)]:List R6)),(Pa.mk 2 0 0 4 2 2 ([(R6.mk 2 0 0 4 2 2)]:List R6))]:List Pa)=B8:=rfl;obtain ⟨w1,w0⟩:=OW;obtain ⟨v1,v0⟩:=OZ;obtain ⟨k1,k0⟩:=Oe;obtain ⟨⟨s1,s0⟩,t1,t0⟩:=O1;obtain ⟨m1,m0⟩:=P4;have sm:smP B8=true:=by decide
 unfold X9;simp only [Zd,e,w1,w0,v1,v0,k1,k0,s1,s0,t1,t0,m1,m0,show SW B8=true from sm,show XL C8=true from rfl,show SV B8 1 0=true from sm,show SV B8 0 1=true from sm,show ST B8 0=true from sm,show SQ TV=true from rfl,show XG [(R7.mk 1 2 0 1 2 2 2)] [(R7.mk 1 2 0 1 2 2 2)]=true from rfl,show IS [(R7.mk 1 2 0 1 2 2 2)] [(R7.mk 1 2 0 1 2 2 2)]=true from Al rfl];rfl
def RM :List B2->Option (B2×Bool)
 | []=>some (.bool true,true)
 | _=>none
theorem t4j {S:B4} (hS:Zv prog S):Zv prog (S.with u0j RM):=by
 refine Qn hS (by kernel_rfl) fun args v h=> ?_;unfold RM at h;split at h
 .simp only [Ad,Ac,Bh] at h;subst h;obtain ⟨N,hN⟩:=t5l;exact ⟨_,_,.nil,rfl,j0k N _ hN,3,rfl⟩
 .cases h
inductive I8 where
 | h0 (v8:Int) (v9:Int) (v10:Int)
def PN (l0:List R7) (aP:Int) (aQ:Int) (aR:Int) (x2:Int):I8->CB
 | .h0 v8 v9 v10=>⟨⟨88,0,true⟩,none,(Zg prog 31 [1,1,1,1,1,0,1,0,0] 0),none,(Zy prog 3),⟨Yj [(0,(.dat l0.length (Zz l0))),(2,(ii x2)),(4,(.ptr 0 0)),(7,(ii (wr (Int.tdiv x2 2)))),(8,(ii v8)),(9,(ii v9)),(10,(ii v10))],Vk [⟨[(ii aP),(ii aQ),(ii aR)],50,none⟩] 0,1,[],true⟩,[],.leaf⟩
def DT :List (Option (List Nat)):=[some [0,2,4,7,8,9,10]]
def DS :List (Option (List Nat)):=[]
def NR (l0:List R7) (aP:Int) (aQ:Int) (aR:Int) (x2:Int):I8->Xz I8
 | .h0 v8 v9 v10=>(bif (decide (v10<(l0.length:Int))) then (bif ((decide (0<=v10/\v10<(l0.length:Int)))&&true) then (bif ((wrap .i64 (rd l0 v10.toNat).a) != x2) then (.to (.h0 v8 v9 (wrap .i64 (v10+1)))) else (bif ((CZ (rd l0 v10.toNat).b (rd l0 v10.toNat).c (rd l0 v10.toNat).d (wrap .i64 (Int.tdiv x2 2))) != v8) then (.to (.h0 v8 v9 (wrap .i64 (v10+1)))) else (bif (0 == (wrap .i64 (Int.tdiv x2 2))) then (bif (1 == (wrap .i64 (Int.tdiv x2 2))) then (bif (2 == (wrap .i64 (Int.tdiv x2 2))) then (.to (.h0 v8 (wrap .i64 (v9+1)) (wrap .i64 (v10+1)))) else (bif (decide ((CZ (rd l0 v10.toNat).b (rd l0 v10.toNat).c (rd l0 v10.toNat).d 2)<=(CZ aP aQ aR 2))) then (bif (decide ((CZ aP aQ aR 2)<(CZ (rd l0 v10.toNat).e (rd l0 v10.toNat).f (rd l0 v10.toNat).g 2))) then (.to (.h0 v8 (wrap .i64 (v9+1)) (wrap .i64 (v10+1)))) else (.to (.h0 v8 v9 (wrap .i64 (v10+1))))) else (.to (.h0 v8 v9 (wrap .i64 (v10+1)))))) else (bif (decide ((CZ (rd l0 v10.toNat).b (rd l0 v10.toNat).c (rd l0 v10.toNat).d 1)<=(CZ aP aQ aR 1))) then (bif (decide ((CZ aP aQ aR 1)<(CZ (rd l0 v10.toNat).e (rd l0 v10.toNat).f (rd l0 v10.toNat).g 1))) then (bif (2 == (wrap .i64 (Int.tdiv x2 2))) then (.to (.h0 v8 (wrap .i64 (v9+1)) (wrap .i64 (v10+1)))) else (bif (decide ((CZ (rd l0 v10.toNat).b (rd l0 v10.toNat).c (rd l0 v10.toNat).d 2)<=(CZ aP aQ aR 2))) then (bif (decide ((CZ aP aQ aR 2)<(CZ (rd l0 v10.toNat).e (rd l0 v10.toNat).f (rd l0 v10.toNat).g 2))) then (.to (.h0 v8 (wrap .i64 (v9+1)) (wrap .i64 (v10+1)))) else (.to (.h0 v8 v9 (wrap .i64 (v10+1))))) else (.to (.h0 v8 v9 (wrap .i64 (v10+1)))))) else (.to (.h0 v8 v9 (wrap .i64 (v10+1))))) else (.to (.h0 v8 v9 (wrap .i64 (v10+1)))))) else (bif (decide ((CZ (rd l0 v10.toNat).b (rd l0 v10.toNat).c (rd l0 v10.toNat).d 0)<=(CZ aP aQ aR 0))) then (bif (decide ((CZ aP aQ aR 0)<(CZ (rd l0 v10.toNat).e (rd l0 v10.toNat).f (rd l0 v10.toNat).g 0))) then (bif (1 == (wrap .i64 (Int.tdiv x2 2))) then (bif (2 == (wrap .i64 (Int.tdiv x2 2))) then (.to (.h0 v8 (wrap .i64 (v9+1)) (wrap .i64 (v10+1)))) else (bif (decide ((CZ (rd l0 v10.toNat).b (rd l0 v10.toNat).c (rd l0 v10.toNat).d 2)<=(CZ aP aQ aR 2))) then (bif (decide ((CZ aP aQ aR 2)<(CZ (rd l0 v10.toNat).e (rd l0 v10.toNat).f (rd l0 v10.toNat).g 2))) then (.to (.h0 v8 (wrap .i64 (v9+1)) (wrap .i64 (v10+1)))) else (.to (.h0 v8 v9 (wrap .i64 (v10+1))))) else (.to (.h0 v8 v9 (wrap .i64 (v10+1)))))) else (bif (decide ((CZ (rd l0 v10.toNat).b (rd l0 v10.toNat).c (rd l0 v10.toNat).d 1)<=(CZ aP aQ aR 1))) then (bif (decide ((CZ aP aQ aR 1)<(CZ (rd l0 v10.toNat).e (rd l0 v10.toNat).f (rd l0 v10.toNat).g 1))) then (bif (2 == (wrap .i64 (Int.tdiv x2 2))) then (.to (.h0 v8 (wrap .i64 (v9+1)) (wrap .i64 (v10+1)))) else (bif (decide ((CZ (rd l0 v10.toNat).b (rd l0 v10.toNat).c (rd l0 v10.toNat).d 2)<=(CZ aP aQ aR 2))) then (bif (decide ((CZ aP aQ aR 2)<(CZ (rd l0 v10.toNat).e (rd l0 v10.toNat).f (rd l0 v10.toNat).g 2))) then (.to (.h0 v8 (wrap .i64 (v9+1)) (wrap .i64 (v10+1)))) else (.to (.h0 v8 v9 (wrap .i64 (v10+1))))) else (.to (.h0 v8 v9 (wrap .i64 (v10+1)))))) else (.to (.h0 v8 v9 (wrap .i64 (v10+1))))) else (.to (.h0 v8 v9 (wrap .i64 (v10+1)))))) else (.to (.h0 v8 v9 (wrap .i64 (v10+1))))) else (.to (.h0 v8 v9 (wrap .i64 (v10+1)))))))) else .stuck) else (.ret [(.int .i64 v9)]))
def UN (l0:List R7) (aP:Int) (aQ:Int) (aR:Int) (x2:Int):Xz I8:=(bif ((Int.tmod x2 2) == 0) then (.to (.h0 (wrap .i64 ((CZ aP aQ aR (wrap .i64 (Int.tdiv x2 2)))+1)) 0 0)) else (.to (.h0 (CZ aP aQ aR (wrap .i64 (Int.tdiv x2 2))) 0 0)))
theorem v2i (l0:List R7) (aP:Int) (aQ:Int) (aR:Int) (x2:Int): ∀s,Xw prog (Zy prog 31) (PN l0 aP aQ aR x2) (PN l0 aP aQ aR x2 s) (NR l0 aP aQ aR x2 s)
 | .h0 v8 v9 v10=>(lb (fun k0=>(lo fun aE=>let i:=ww aE (tt k0 nn);(lb (fun k1=>(sl Vq 43 [] ⟨[0],[],DT,DS⟩ a6 (CA 11 []) (tt k1 i))) (fun k1=>let n:=ww aE (tt k1 i);(lb (fun k2=>(sl Vq 43 [] ⟨[0],[],DT,DS⟩ a6 (bl 11 1025) (tt k2 n))) (fun k2=>let a:=tt k2 n;(lb (fun k3=>(lb (fun k4=>let o:=tt k4 (tt k3 a);(lb (fun k5=>(sl Vq 238 [] ⟨[0],[],DT,DS⟩ a6 (bl 64 13835058055282161665) (tt k5 o))) (fun k5=>let e:=ww aE (tt k5 o);(lb (fun k6=>let p:=ww aE (tt k6 e);(lb (fun k7=>(sl Vq 238 [] ⟨[0],[],DT,DS⟩ a6 (bl 73 6492102118341062162433) (tt k7 p))) (fun k7=>(sl Vq 234 [] ⟨[0],[],DT,DS⟩ a6 (bl 73 1769735635471416948737) (tt k7 p))))) (fun k6=>(sl Vq 234 [] ⟨[0],[],DT,DS⟩ a6 (bl 73 1180592746617318144001) (tt k6 e))))))) (fun k4=>let l:=ww aE (tt k4 (tt k3 a));(lb (fun k5=>let c:=ww aE (tt k5 l);(lb (fun k6=>(lb (fun k7=>(sl Vq 238 [] ⟨[0],[],DT,DS⟩ a6 (bl 73 7083545211917337360385) (tt k7 (tt k6 c)))) (fun k7=>let f:=ww aE (tt k7 (tt k6 c));(lb (fun k8=>let q:=ww aE (tt k8 f);(lb (fun k9=>(sl Vq 238 [] ⟨[0],[],DT,DS⟩ a6 (bl 82 3323956280078236697753601) (tt k9 q))) (fun k9=>(sl Vq 234 [] ⟨[0],[],DT,DS⟩ a6 (bl 82 906104640848978348341249) (tt k9 q))))) (fun k8=>(sl Vq 234 [] ⟨[0],[],DT,DS⟩ a6 (bl 82 604463481755679760316417) (tt k8 f))))))) (fun k6=>(sl Vq 234 [] ⟨[0],[],DT,DS⟩ a6 (bl 62 31516409888503809) (tt k6 c))))) (fun k5=>(sl Vq 234 [] ⟨[0],[],DT,DS⟩ a6 (bl 62 27021606354155521) (tt k5 l))))))) (fun k3=>let r:=ww aE (tt k3 a);(lb (fun k4=>let j:=ww aE (tt k4 r);(lb (fun k5=>let b:=tt k5 j;(lb (fun k6=>(lb (fun k7=>(sl Vq 238 [] ⟨[0],[],DT,DS⟩ a6 (bl 73 7083549724270041036801) (tt k7 (tt k6 b)))) (fun k7=>let g:=ww aE (tt k7 (tt k6 b));(lb (fun k8=>let s:=ww aE (tt k8 g);(lb (fun k9=>(sl Vq 238 [] ⟨[0],[],DT,DS⟩ a6 (bl 82 3323956284590589401430017) (tt k9 s))) (fun k9=>(sl Vq 234 [] ⟨[0],[],DT,DS⟩ a6 (bl 82 906104645361331052017665) (tt k9 s))))) (fun k8=>(sl Vq 234 [] ⟨[0],[],DT,DS⟩ a6 (bl 82 604463486268032463992833) (tt k8 g))))))) (fun k6=>let t:=ww aE (tt k6 b);(lb (fun k7=>let d:=ww aE (tt k7 t);(lb (fun k8=>(lb (fun k9=>(sl Vq 238 [] ⟨[0],[],DT,DS⟩ a6 (bl 82 3626775148501642302781441) (tt k9 (tt k8 d)))) (fun k9=>let h:=ww aE (tt k9 (tt k8 d));(lb (fun k10=>let m:=ww aE (tt k10 h);(lb (fun k11=>(sl Vq 238 [] ⟨[0],[],DT,DS⟩ a6 (bl 91 1701865615400057154824108033) (tt k11 m))) (fun k11=>(sl Vq 234 [] ⟨[0],[],DT,DS⟩ a6 (bl 91 463925576114676879924983809) (tt k11 m))))) (fun k10=>(sl Vq 234 [] ⟨[0],[],DT,DS⟩ a6 (bl 91 309485302658908002856269825) (tt k10 h))))))) (fun k8=>(sl Vq 234 [] ⟨[0],[],DT,DS⟩ a6 (bl 71 16136401828488214529) (tt k8 d))))) (fun k7=>(sl Vq 234 [] ⟨[0],[],DT,DS⟩ a6 (bl 71 13835062418901891073) (tt k7 t))))))) (fun k5=>(sl Vq 234 [] ⟨[0],[],DT,DS⟩ a6 (bl 51 9036544145409) (tt k5 j))))) (fun k4=>(sl Vq 234 [] ⟨[0],[],DT,DS⟩ a6 (bl 51 9002251515905) (tt k4 r)))))))))))) (fun k0=>(lr 88 3 [1,1,1,1,0] 1 3 [(6,(ii v9))] (sl Vq 15 [] (a8 [6]) a6 [false] (tt k0 nn)))))
theorem w2k (l0:List R7) (aP:Int) (aQ:Int) (aR:Int) (x2:Int):Xw prog (Zy prog 31) (PN l0 aP aQ aR x2) (Zm prog 31 [(.dat l0.length (Zz l0)),(.agg [(.int .i64 aP),(.int .i64 aQ),(.int .i64 aR)]),(.int .i64 x2)] true []) (UN l0 aP aQ aR x2):=(lb (fun k0=>(sl Vq 42 [] ⟨[0],[],DT,DS⟩ a6 [true] (tt k0 nn))) (fun k0=>(sl Vq 38 [] ⟨[0],[],DT,DS⟩ a6 [false] (tt k0 nn))))
theorem u7a (l0:List R7) (aP:Int) (aQ:Int) (aR:Int) (x2:Int) (n:Nat) (vs:List B2) (h:Zo (NR l0 aP aQ aR x2) n (UN l0 aP aQ aR x2)=.ret vs):Uj prog (Zy prog 31) (Zm prog 31 [(.dat l0.length (Zz l0)),(.agg [(.int .i64 aP),(.int .i64 aQ),(.int .i64 aR)]),(.int .i64 x2)] true []) vs:=by have:=Zb (v2i l0 aP aQ aR x2) n _ (w2k l0 aP aQ aR x2);rwa [h] at this
def Rg (d:Int):Int:=wrap .i64 (Int.tdiv d 2)
def Ho (x y z d:Int):Int:=bif Int.tmod d 2 == 0 then wrap .i64 (CZ x y z (Rg d)+1) else CZ x y z (Rg d)
def TW (r:R7) (x y z a k:Int):Bool:=(k == a)||(decide (CZ r.b r.c r.d k<=CZ x y z k)&&decide (CZ x y z k<CZ r.e r.f r.g k))
def GR (x y z d:Int) (r:R7):Bool:=(wrap .i64 r.a == d)&&((CZ r.b r.c r.d (Rg d) == Ho x y z d)&&(TW r x y z (Rg d) 0&&(TW r x y z (Rg d) 1&&TW r x y z (Rg d) 2)))
def Ge (L:List R7) (x y z d:Int):Int:=(L.countP (GR x y z d):Int)
def Qp (L:List R7) (x y z d:Int):Bool:=decide (L.length<=1000000)
theorem RU {α:Type} (A B:α) (b1 b2 e0 l0 h0 e1 l1 h1 e2 l2 h2:Bool):
  (bif !b1 then B else bif !b2 then B else bif e0 then (bif e1 then (bif e2 then A else bif l2 then (bif h2 then A else B) else B) else bif l1 then (bif h1 then (bif e2 then A else bif l2 then (bif h2 then A else B) else B) else B) else B)
   else bif l0 then (bif h0 then (bif e1 then (bif e2 then A else bif l2 then (bif h2 then A else B) else B) else bif l1 then (bif h1 then (bif e2 then A else bif l2 then (bif h2 then A else B) else B) else B) else B) else B) else B)=
  bif b1&&(b2&&((e0||(l0&&h0))&&((e1||(l1&&h1))&&(e2||(l2&&h2))))) then A else B:=by grind
theorem v8v (L:List R7) (x y z d:Int) (hl:L.length<=1000000): ∀(k i n:Nat),i+k=L.length->n<=i-> ∃N,Zo (NR L x y z d) N (.to (.h0 (Ho x y z d) (n:Int) (i:Int)))=.ret [.int .i64 ((n+(L.drop i).countP (GR x y z d):Nat):Int)]
 | 0,i,n,h,hn=>by
  refine ⟨1,?_⟩
  grind [Zx,NR,Zp]
 | k+1,i,n,h,hn=>by
  have hi:i<L.length:=by omega
  have w1:wrap .i64 ((i:Int)+1)=((i+1:Nat):Int):=by rw [Zj (by omega)];rfl
  have w2:wrap .i64 ((n:Int)+1)=((n+1:Nat):Int):=by rw [Zj (by omega)];rfl
  have e:NR L x y z d (.h0 (Ho x y z d) (n:Int) (i:Int))=bif GR x y z d (rd L i) then .to (.h0 (Ho x y z d) ((n+1:Nat):Int) ((i+1:Nat):Int)) else .to (.h0 (Ho x y z d) (n:Int) ((i+1:Nat):Int)):=by have h0:decide ((i:Int)<(L.length:Int))=true:=Al (by omega);have h1:decide (0<=(i:Int)/\(i:Int)<(L.length:Int))=true:=Al (by omega);simp only [NR,h0,h1,w1,w2,Zk,Ah,Ab];exact RU _ _ _ _ _ _ _ _ _ _ _ _ _
  rw [Yg hi,List.countP_cons];rcases Zs (GR x y z d (rd L i)) with q | q
  .obtain ⟨N,hN⟩:=v8v L x y z d hl k (i+1) (n+1) (by omega) (by omega);refine ⟨N+1,?_⟩
   grind [Zx]
  .obtain ⟨N,hN⟩:=v8v L x y z d hl k (i+1) n (by omega) (by omega);refine ⟨N+1,?_⟩
   grind [Zx]
theorem t0o (L:List R7) (x y z d:Int) (h:Qp L x y z d=true): ∃N,Zo (NR L x y z d) N (UN L x y z d)=.ret [.int .i64 (Ge L x y z d)]:=by
 have hl:L.length<=1000000:=Az h;obtain ⟨N,hN⟩:=v8v L x y z d hl L.length 0 0 (Af _) (Aq _);have e:UN L x y z d=.to (.h0 (Ho x y z d) ((0:Nat):Int) ((0:Nat):Int)):=by unfold UN Ho;cases Int.tmod d 2 == 0 <;> rfl
 refine ⟨N,?_⟩;rw [e,hN,AS,Af];rfl
def QU :List B2->Option (B2×Bool)
 | [a0,.agg [.int .i64 x,.int .i64 y,.int .i64 z],.int .i64 d]=>match CS R7 a0 with
  | some (L0,g0,n0)=>some (.int .i64 (Ge L0 x y z d),CO R7 n0 g0&&(Qp L0 x y z d))
  | _=>none
 | _=>none
theorem t3j {S:B4} (hS:Zv prog S):Zv prog (S.with u0h QU):=by
 refine Qn hS (by kernel_rfl) fun args v h=> ?_;unfold QU at h;split at h
 .rename_i a0 x y z d;split at h
  .rename_i L0 g0 n0 e0;simp only [Ad,Ac,Ae] at h;obtain ⟨rfl,ho0,hw⟩:=h;obtain ⟨N,hN⟩:=t0o L0 x y z d hw;exact ⟨_,_,(.cons (Yn e0 ho0) (.cons (.refl _) (.cons (.refl _) .nil))),rfl,u7a L0 x y z d N _ hN,3,rfl⟩
  .cases h
 .cases h
def OR (l:List Pa):Bool:=bif decide ((l.length:Int)<=6) then (bif Hq l then Mn l == 0 else false) else false
def Z6 (l:List Pa):Bool:=true
theorem j3n {l:List Pa} (h:Hq l=true) (h6:l.length<=6):smP l=true:=by unfold Hq at h;rw [Av (by omega),Aa,Ae] at h;unfold smP;rw [Al (by omega),Ai];refine At.2 fun x hx=> ?_;have:=At.1 h.1 x hx;unfold VW at this;simp only [Ae,BI,Bk] at this;exact Al (by omega)
theorem t2k (l:List Pa) (h:Z6 l=true): ∃N,Zo (w4s l) N (YI l)=.ret [.bool (OR l)]:=⟨0,by
 unfold YI OR;by_cases g:(l.length:Int)<=6
 .rw [Al g,Ab,Ab];simp only [Zd,show XD l=true from rfl,Ab];rcases Zs (Hq l) with q | q
  .simp only [q,Ab,show XC l=true from j3n q (by omega)];rfl
  .simp only [q,Aa];rfl
 .rw [Av g,Aa,Aa];rfl⟩
def Ql :List B2->Option (B2×Bool)
 | [a0]=>match CS Pa a0 with
  | some (L0,g0,n0)=>some (.bool (OR L0),CO Pa n0 g0&&(Z6 L0))
  | _=>none
 | _=>none
theorem t3z {S:B4} (hS:Zv prog S):Zv prog (S.with M4 Ql):=by
 refine Qn hS (by kernel_rfl) fun args v h=> ?_;unfold Ql at h;split at h
 .rename_i a0;split at h
  .rename_i L0 g0 n0 e0;simp only [Ad,Ac,Ae] at h;obtain ⟨rfl,ho0,hw⟩:=h;obtain ⟨N,hN⟩:=t2k L0 hw;exact ⟨_,_,(.cons (Yn e0 ho0) .nil),rfl,u9g L0 N _ hN,3,rfl⟩
  .cases h
 .cases h
def W3 :B4:=(((((((W2.with u0j RM).with M4 Ql).with w3b Iy).with u0e QX).with j5m RC).with u0b JA).with P1 Iz).with u0h QU
theorem WW :Zv prog W3:=t3j (u1v (u1w (t4c (t3m (u1u (t3z (t4j De)))))))
theorem Rd {R:List R4} (hc:Xr.can R) (hv: ∀r∈R,Vo r=true) (hl:R.length<=400):R.Pairwise Rz:=by
 obtain ⟨h1,h2⟩:=Ko hv hl;have e:D4.out R=R:=Xr.uniq _ _ h1 hc h2;obtain ⟨m0,_⟩:=Qk hv hl (by grind)
 grind [x7c]
def FX (u w:Int) (t:R4):Bool:=(decide (t.a<=u)&&decide (u<t.c))&&(decide (t.b<=w)&&decide (w<t.d))
theorem x5k (u w:Int) (t:R4):FX u w t=true↔(t.a<=u/\u<t.c)/\(t.b<=w/\w<t.d):=by grind [FX]
theorem j6l : ∀{R:List R4},R.Pairwise Rz-> ∀u w,R.countP (FX u w)<=1/\(R.countP (FX u w)=1↔CI Xr.inB R (u,w))
 | [],_,u,w=>⟨AA _,⟨fun h=>(by cases h),fun h=>(JT _ _ h).elim⟩⟩
 | r::R,h,u,w=>by
  obtain ⟨h1,h2⟩:=AQ.1 h;obtain ⟨i1,i2⟩:=j6l h2 u w;rw [List.countP_cons];rcases Zs (FX u w r) with q | q
  .have z:R.countP (FX u w)=0:=BQ.2 fun t ht k=>by have a:=(x5k u w r).1 (by simpa using q);have b:=(x5k u w t).1 k;have:=h1 t ht;unfold Rz at this;omega
   rw [q,z];refine ⟨Aq _,fun _=> ?_,fun _=>rfl⟩;rw [HQ];exact ⟨r,by simp,(x5k u w r).1 (by simpa using q)⟩
  .rw [q,Aw (by decide),Bd,i2];refine ⟨i1,?_⟩;rw [HQ,HQ];constructor
   .rintro ⟨t,ht,k⟩;exact ⟨t,by simp [ht],k⟩
   .rintro ⟨t,ht,k⟩;rcases AH.1 ht with rfl | ht
    .rw [(x5k u w t).2 k] at q;cases q
    .exact ⟨t,ht,k⟩
theorem x8q (M:Int->Int->List R4) (d p:Int) (ps:List Int):Kj M d (p::ps)=(M d p).map (Cc d (B5 d) p)++Kj M d ps:=rfl
theorem j6j (M:Int->Int->List R4) (d:Int) (f:R7->Bool) (hf: ∀p t,f (Cc d (B5 d) p t)=false): ∀ps,(Kj M d ps).countP f=0
 | []=>rfl
 | p::ps=>by rw [x8q,Bx,j6j M d f hf ps,List.countP_map,Bd];exact BQ.2 fun t _=>by simp [hf]
theorem u2o (M:Int->Int->List R4) (d pl u w:Int) (f:R7->Bool) (hf: ∀p t,f (Cc d (B5 d) p t)=(decide (p=pl)&&FX u w t)): ∀ps:List Int,ps.Pairwise (· < ·)->
  (Kj M d ps).countP f=if pl∈ps then (M d pl).countP (FX u w) else 0
 | [],_=>rfl
 | p::ps,h=>by
  obtain ⟨h1,h2⟩:=AQ.1 h;rw [x8q,Bx,u2o M d pl u w f hf ps h2,List.countP_map];by_cases e:p=pl
  .subst e;have n: ¬p∈ps:=fun k=>by have:=h1 p k;omega
   rw [Aw n,AG (by simp),Bd];exact List.countP_congr fun t _=>by simp [hf]
  .have z:(M d p).countP (f∘Cc d (B5 d) p)=0:=BQ.2 fun t _=>by simp [hf,e]
   rw [z,Af];by_cases k:pl∈ps
   .rw [AG k,AG (by simp [k])]
   .rw [Aw k,Aw (by simp [k];exact fun q=>e q.symm)]
theorem t4u (q:Ax) (s:Bool) {pl u w:Int} (hp: -1000<=pl/\pl<=1000) (p:Int) (t:R4):
  GR (q.to (Jz s pl) u w).1 (q.to (Jz s pl) u w).2.1 (q.to (Jz s pl) u w).2.2 (Vs q s:Int) (Cc (Vs q s:Int) (B5 (Vs q s:Int)) p t)=(decide (p=pl)&&FX u w t):=by
 rw [KC];unfold GR;have a1:(wrap .i64 (Cc (Vs q s:Int) q.ix p t).a == (Vs q s:Int))=true:=by cases q <;> cases s <;> rfl
 have a2:Rg (Vs q s:Int)=q.ix:=by cases q <;> cases s <;> rfl
 have a3:Ho (q.to (Jz s pl) u w).1 (q.to (Jz s pl) u w).2.1 (q.to (Jz s pl) u w).2.2 (Vs q s:Int)=pl:=by
  unfold Ho;rw [a2];cases s with
  | true=>
   have e:CZ (q.to (Jz true pl) u w).1 (q.to (Jz true pl) u w).2.1 (q.to (Jz true pl) u w).2.2 q.ix=pl - 1:=by cases q <;> rfl
   have e2:(Int.tmod (Vs q true:Int) 2 == 0)=true:=by cases q <;> rfl
   grind [Zj]
  | false=>
   have e:CZ (q.to (Jz false pl) u w).1 (q.to (Jz false pl) u w).2.1 (q.to (Jz false pl) u w).2.2 q.ix=pl:=by cases q <;> rfl
   have e2:(Int.tmod (Vs q false:Int) 2 == 0)=false:=by cases q <;> rfl
   grind
 have a4:CZ (Cc (Vs q s:Int) q.ix p t).b (Cc (Vs q s:Int) q.ix p t).c (Cc (Vs q s:Int) q.ix p t).d q.ix=p:=by cases q <;> rfl
 have a5:(TW (Cc (Vs q s:Int) q.ix p t) (q.to (Jz s pl) u w).1 (q.to (Jz s pl) u w).2.1 (q.to (Jz s pl) u w).2.2 q.ix 0&&(TW (Cc (Vs q s:Int) q.ix p t) (q.to (Jz s pl) u w).1 (q.to (Jz s pl) u w).2.1 (q.to (Jz s pl) u w).2.2 q.ix 1&&TW (Cc (Vs q s:Int) q.ix p t) (q.to (Jz s pl) u w).1 (q.to (Jz s pl) u w).2.1 (q.to (Jz s pl) u w).2.2 q.ix 2))=FX u w t:=by
  unfold FX;cases q
  .show (true&&((false||(decide (t.a<=u)&&decide (u<t.c)))&&(false||(decide (t.b<=w)&&decide (w<t.d)))))=_;simp
  .show ((false||(decide (t.a<=u)&&decide (u<t.c)))&&(true&&(false||(decide (t.b<=w)&&decide (w<t.d)))))=_;simp
  .show ((false||(decide (t.a<=u)&&decide (u<t.c)))&&((false||(decide (t.b<=w)&&decide (w<t.d)))&&true))=_;simp
 grind
theorem t4v (q q':Ax) (s s':Bool) (h: ¬(q'=q/\s'=s)) (x y z p:Int) (t:R4):GR x y z (Vs q s:Int) (Cc (Vs q' s':Int) (B5 (Vs q' s':Int)) p t)=false:=by
 unfold GR;have a1:(wrap .i64 (Cc (Vs q' s':Int) (B5 (Vs q' s':Int)) p t).a == (Vs q s:Int))=false:=by
  cases q <;> cases q' <;> cases s <;> cases s' <;> first | rfl | grind
 grind
theorem t5b (M:Int->Int->List R4) (S:List R6) (q:Ax) (s:Bool) {pl u w:Int} (hp: -1000<=pl/\pl<=1000):
  (DB M S 6 0).countP (GR (q.to (Jz s pl) u w).1 (q.to (Jz s pl) u w).2.1 (q.to (Jz s pl) u w).2.2 (Vs q s:Int))=if pl∈CR q S then (M (Vs q s:Int) pl).countP (FX u w) else 0:=by
 have y1:=u2o M (Vs q s:Int) pl u w _ (t4u q s (u:=u) (w:=w) hp) (CR q S) (NP q S);have n1: ∀(q':Ax) (s':Bool),¬(q'=q/\s'=s)-> ∀ps,(Kj M (Vs q' s':Int) ps).countP (GR (q.to (Jz s pl) u w).1 (q.to (Jz s pl) u w).2.1 (q.to (Jz s pl) u w).2.2 (Vs q s:Int))=0:=fun q' s' h ps=>j6j M _ _ (fun p t=>t4v q q' s s' h _ _ _ p t) ps;rw [<-y1,SB];simp only [Bx];have d0:(0:Int)=(Vs .x true:Int):=rfl;have d1:(1:Int)=(Vs .x false:Int):=rfl;have d2:(2:Int)=(Vs .y true:Int):=rfl;have d3:(3:Int)=(Vs .y false:Int):=rfl;have d4:(4:Int)=(Vs .z true:Int):=rfl;have d5:(5:Int)=(Vs .z false:Int):=rfl;rw [show Kj M 0 (CR .x S)=Kj M (Vs .x true:Int) (CR .x S) from rfl,show Kj M 1 (CR .x S)=Kj M (Vs .x false:Int) (CR .x S) from rfl,show Kj M 2 (CR .y S)=Kj M (Vs .y true:Int) (CR .y S) from rfl,show Kj M 3 (CR .y S)=Kj M (Vs .y false:Int) (CR .y S) from rfl,show Kj M 4 (CR .z S)=Kj M (Vs .z true:Int) (CR .z S) from rfl,show Kj M 5 (CR .z S)=Kj M (Vs .z false:Int) (CR .z S) from rfl];cases q <;> cases s;all_goals grind
theorem j7f {E:Int->Int->Int} {M:Int->Int->List R4} {S:List R6} (h:Ei E M S=0):(DB M S 6 0).length <=3000:=by
 unfold Ei at h
 grind
theorem w7e (l:List Pa) (x:Int):(Xe l x).length <=3000:=by
 unfold Xe D8;rcases Zs (Kg l x != 0) with q | q
 .grind
 .rw [q,Aa];have z:Kg l x=0:=by simpa using q
  unfold Kg at z;rcases Zs (Qe l != 0) with a | a
  .grind
  rw [a,Aa] at z;rcases Zs (decide (x<0)||decide (x>=(l.length:Int))) with b | b
  .grind
  rw [b,Aa] at z;rcases Zs (Kt l != 0) with c | c
  .grind
  rw [c,Aa] at z;exact j7f z
theorem WE {q:Ax} {s:Bool} {S:List R6} {pl u w:Int} (h:q.inL S (Jz s pl) u w) (hn: ¬pl∈CR q S):q.inL S (Qw s pl) u w:=by
 obtain ⟨r,hr,k1,k2⟩:=h;have n1:pl≠q.lo r:=fun e=>hn ((Tz q S pl).2 ⟨r,hr,.inl e⟩);have n2:pl≠q.hi r:=fun e=>hn ((Tz q S pl).2 ⟨r,hr,.inr e⟩);refine ⟨r,hr,?_,k2⟩;unfold Jz at k1
 grind [Qw]
theorem RT (q:Ax) (s:Bool) {x y z:Int} (hx: -100<=x/\x<=100) (hy: -100<=y/\y<=100) (hz: -100<=z/\z<=100):
  ∃pl u w,x=(q.to (Jz s pl) u w).1/\y=(q.to (Jz s pl) u w).2.1/\z=(q.to (Jz s pl) u w).2.2/\(-1000<=pl/\pl<=1000)/\
   Ff x y z (DD (Vs q s:Int)).a (DD (Vs q s:Int)).b (DD (Vs q s:Int)).c =⟨(q.to (Qw s pl) u w).1,(q.to (Qw s pl) u w).2.1,(q.to (Qw s pl) u w).2.2⟩:=by
 have w0: ∀n:Int,-100<=n/\n<=100->wrap .i64 (n+0)=n:=fun n h=>by rw [Bv,Zj (by omega)]
 have w1: ∀n:Int,-100<=n/\n<=100->wrap .i64 (n+1)=n+1:=fun n h=>Zj (by omega);have w2: ∀n:Int,-100<=n/\n<=100->wrap .i64 (n+ -1)=n - 1:=fun n h=>Zj (by omega);cases q <;> cases s
 .refine ⟨x,y,z,rfl,rfl,rfl,by omega,?_⟩;show (⟨wrap .i64 (x+ -1),wrap .i64 (y+0),wrap .i64 (z+0)⟩:R3)=⟨x - 1,y,z⟩
  grind
 .refine ⟨x+1,y,z,by show x=x+1 - 1;omega,rfl,rfl,by omega,?_⟩;show (⟨wrap .i64 (x+1),wrap .i64 (y+0),wrap .i64 (z+0)⟩:R3)=⟨x+1,y,z⟩
  grind
 .refine ⟨y,x,z,rfl,rfl,rfl,by omega,?_⟩;show (⟨wrap .i64 (x+0),wrap .i64 (y+ -1),wrap .i64 (z+0)⟩:R3)=⟨x,y - 1,z⟩
  grind
 .refine ⟨y+1,x,z,rfl,by show y=y+1 - 1;omega,rfl,by omega,?_⟩;show (⟨wrap .i64 (x+0),wrap .i64 (y+1),wrap .i64 (z+0)⟩:R3)=⟨x,y+1,z⟩
  grind
 .refine ⟨z,x,y,rfl,rfl,rfl,by omega,?_⟩;show (⟨wrap .i64 (x+0),wrap .i64 (y+0),wrap .i64 (z+ -1)⟩:R3)=⟨x,y,z - 1⟩
  grind
 .refine ⟨z+1,x,y,rfl,rfl,by show z=z+1 - 1;omega,by omega,?_⟩;show (⟨wrap .i64 (x+0),wrap .i64 (y+0),wrap .i64 (z+1)⟩:R3)=⟨x,y,z+1⟩
  grind
theorem LO {q:Op} {a b:List R6} (h:Da q a b=0):Zf (Qu q a b)=0/\Qu q a b=Dq q a b:=by
 obtain ⟨ha,hb,hf⟩:=x3y h;obtain ⟨c,pts⟩:=w0s h;have e:Qu q a b=Dq q a b:=by unfold Qu;rw [h];rfl
 have hl:(Dq q a b).length <=400:=by unfold Da at h;rw [ha,hb,hf] at h;exact Z1 h
 have bd: ∀{l:List R6},Zf l=0-> ∀x y z,CY l x y z->(-1000000<=x/\x<1000000)/\(-1000000<=y/\y<1000000)/\(-1000000<=z/\z<1000000):=fun {l} hl x y z ⟨r,hr,k1,k2,k3⟩=>by have:=Wq ((Xs hl).2.1 r hr);omega
 rw [e];refine ⟨SL hl (w5u c fun x y z k=> ?_) c,rfl⟩;have k:=(pts (z,x,y)).1 ((Jr _ x y z).1 k);by_cases p:CY a x y z
 .exact bd ha x y z p
 by_cases p2:CY b x y z
 .exact bd hb x y z p2
 rw [Av (fun w=>p ((Jr a x y z).2 w)),Av (fun w=>p2 ((Jr b x y z).2 w)),v9k] at k;cases k
theorem OO {a b:List R6} (h:Da .u a b=0) (x y z:Int):CY (Qu .u a b) x y z↔CY a x y z\/CY b x y z:=by rw [(LO h).2,Jr,(w0s h).2];show (decide (CI C5.inB a (z,x,y))||decide (CI C5.inB b (z,x,y)))=true↔_;rw [Bs,Bb,Bb,Jr,Jr]
theorem v5n : ∀(l:List Pa) (acc:List R6),Zf acc=0->(∀x∈l,Zf x.s=0)->
  (FE acc l=0\/FE acc l=4)/\(FE acc l=0->Zf (CT acc l)=0/\ ∀x y z,CY (CT acc l) x y z↔CY acc x y z\/ ∃p∈l,CY p.s x y z)
 | [],acc,ha,_=>⟨.inl rfl,fun _=>⟨ha,fun x y z=>⟨.inl,fun k=>by
   rcases k with k | ⟨p,hp,_⟩
   .exact k
   .cases hp⟩⟩⟩
 | p::l,acc,ha,hl=>by
  have hp:=hl p (by simp);unfold FE CT;rcases Oc .u ha hp with e | e
  .obtain ⟨i1,i2⟩:=v5n l (Qu .u acc p.s) (LO e).1 fun x hx=>hl x (by simp [hx]);rw [show Dn .u acc p.s=0 from e];refine ⟨i1,fun h=> ?_⟩;obtain ⟨j1,j2⟩:=i2 h;refine ⟨j1,fun x y z=> ?_⟩;rw [j2,OO e];simp only [AH,exists_eq_or_imp];exact or_assoc
  .rw [show Dn .u acc p.s=4 from e];exact ⟨.inr rfl,fun h=>by cases h⟩
theorem t0z (q:Ax) (s:Bool) {p:Int} (hp: -1000000<=p/\p<=1000000):EZ (Vs q s:Int) p=Jz s p/\Dg (Vs q s:Int) p=Qw s p:=by have w:wrap .i64 (p - 1)=p - 1:=Zj (by omega);cases q <;> cases s <;> (unfold EZ Dg Jz Qw;rw [w];exact ⟨rfl,rfl⟩)
theorem x4d {q:Ax} {L:List R6} {p:Int} (h:Wz q.ix L p=0):Ze q.ix L p=D4.out (Cf q L p):=by unfold Wz at h;unfold Ze;rw [w5i] at h ⊢;exact (w2e h).2.2
theorem j8n {S A:List R6} (q:Ax) (s:Bool) {p:Int} (hp: -1000000<=p/\p<=1000000) (h:DG S A (Vs q s:Int) p=0):Qd S A (Vs q s:Int) p=FS q s S A p/\(FS q s S A p).length <=400:=by
 obtain ⟨o1,o2⟩:=t0z q s hp;unfold DG at h;unfold Qd;rw [KC,o1,o2] at h ⊢;rcases Zs (Wz q.ix S (Jz s p) == 0) with a | a
 .rw [a,Ab] at h;rcases Zs (Wz q.ix A (Qw s p) != 0) with b | b
  .rw [b,Ab] at h;exact absurd h (BN.1 b)
  .rw [b,Aa,x4d (eq_of_beq a),x4d (Hf b)] at h;rw [x4d (eq_of_beq a),x4d (Hf b)];have h:Dr .d (D4.out (Cf q S (Jz s p))) (D4.out (Cf q A (Qw s p)))=0:=h;exact ⟨x4p .d h,(x4r h).2.2⟩
 .rw [a,Aa] at h;rw [h] at a;cases a
theorem w9k {E:Int->Int}: ∀{l:List Int},DE E l=0-> ∀p∈l,E p=0
 | [],_,p,hp=>by cases hp
 | x::l,h,p,hp=>by
  unfold DE at h;rcases Zs (E x != 0) with a | a
  .rw [a,Ab] at h;exact absurd h (BN.1 a)
  .rw [a,Aa] at h;rcases AH.1 hp with rfl | hp
   .exact Hf a
   .exact w9k h p hp
theorem w9u {E:Int->Int->Int} {S:List R6}: ∀k d,E9 E S k d=0-> ∀j,d<=j->j<d+k->DE (E (j:Int)) (CE (B5 (j:Int)) S)=0
 | 0,d,_,j,h1,h2=>by omega
 | k+1,d,h,j,h1,h2=>by
  unfold E9 at h;rcases Zs (DE (E (d:Int)) (CE (B5 (d:Int)) S) != 0) with a | a
  .rw [a,Ab] at h;exact absurd h (BN.1 a)
  .rw [a,Aa] at h;rcases A1 h1 with rfl | h1
   .exact Hf a
   .exact w9u k (d+1) h j h1 (by omega)
theorem t0y {S:List R6} (hS:Zf S=0) (q:Ax) {p:Int} (hp:p∈CR q S): -1000000<=p/\p<=1000000:=by obtain ⟨r,hr,e⟩:=(Tz q S p).1 hp;have v:=Wq ((Xs hS).2.1 r hr);cases q <;> simp only [Ax.lo,Ax.hi] at e <;> omega
theorem ZI {l:List Pa} (h:Qe l=0) {x:Int} (hx:0<=x/\x<(l.length:Int)) (h0:Kg l x=0):
  FE [] l=0/\Xe l x=DB (Qd (rd l x.toNat).s (CT [] l)) (rd l x.toNat).s 6 0/\ ∀q s p,p∈CR q (rd l x.toNat).s ->Qd (rd l x.toNat).s (CT [] l) (Vs q s:Int) p=FS q s (rd l x.toNat).s (CT [] l) p/\(FS q s (rd l x.toNat).s (CT [] l) p).length <=400:=by
 have L:=G3 h;have e0:Xe l x=Gq l x:=by unfold Xe;rw [h0];rfl
 unfold Kg at h0;rw [h,Av (show ¬x<0 by omega),Av (show ¬x>=(l.length:Int) by omega)] at h0;have h0:(bif Kt l != 0 then Kt l else Ei (DG (rd l x.toNat).s (Yv l)) (Qd (rd l x.toNat).s (Yv l)) (rd l x.toNat).s)=0:=h0;rcases Zs (Kt l != 0) with a | a
 .rw [a,Ab] at h0;exact absurd h0 (BN.1 a)
 have w0:FE [] l=0:=Hf a;have ws:Yv l=CT [] l:=by unfold Yv;rw [w0];rfl
 rw [a,Aa,ws] at h0;refine ⟨w0,by rw [e0];unfold Gq;rw [ws],fun q s p hp=> ?_⟩;unfold Ei at h0;rcases Zs (E9 (DG (rd l x.toNat).s (CT [] l)) (rd l x.toNat).s 6 0 != 0) with b | b
 .rw [b,Ab] at h0;exact absurd h0 (BN.1 b)
 have g:=w9u 6 0 (Hf b) (Vs q s) (AA _) (by cases q <;> cases s <;> decide);rw [KC,w7z] at g;exact j8n q s (t0y (L.sck _ (by omega)) q hp) (w9k g p hp)
end Go.Am
end
