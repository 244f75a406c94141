/- A part of a proof: several texts in one. -/
import Derived.Test.YtpddoeiakpbkbaaGreatLj4
set_option maxRecDepth 1000000
set_option maxHeartbeats 8000000
set_option linter.unusedVariables false
set_option linter.unusedSimpArgs false
noncomputable section
namespace Go.Am
open IntKind (wrap)
open Go.Proofs.Tryz
open Go.Proofs
inductive rlcS where
 | h0 (v3:Int)
 | h1 (v4:Int)
 | h2 (v4:Int) (v5:Int)
 | h3 (v4:Int) (v6:Int)
def rlcC (l0:List Pa):rlcS→Cfg
 | .h0 v3=>⟨⟨93,0,true⟩,none,(Zb prog 21 [1,1,0,1,0,0] 0),none,(Zy prog 9),⟨Yg [(0,(.dat l0.length (Zz l0))),(3,(ii v3))],Wt [] 0,0,[],true⟩,[],.leaf⟩
 | .h1 v4=>⟨⟨93,0,true⟩,none,(Zb prog 21 [1,1,1,0,1,0,0] 0),none,(Zy prog 9),⟨Yg [(0,(.dat l0.length (Zz l0))),(4,(ii v4))],Wt [] 0,0,[],true⟩,[],.leaf⟩
 | .h2 v4 v5=>⟨⟨93,0,true⟩,none,(Zb prog 21 [1,1,1,0,1,0,0,1,0,0,1,0,1,0,0] 0),none,(Zy prog 9),⟨Yg [(0,(.dat l0.length (Zz l0))),(4,(ii v4)),(5,(ii v5))],Wt [] 0,0,[],true⟩,[],.leaf⟩
 | .h3 v4 v6=>⟨⟨93,0,true⟩,none,(Zb prog 21 [1,1,1,0,1,0,0,1,0,0,1,1,1,0,0] 0),none,(Zy prog 9),⟨Yg [(0,(.dat l0.length (Zz l0))),(4,(ii v4)),(6,(ii v6))],Wt [] 0,0,[],true⟩,[],.leaf⟩
def rlcN0 :List (Option (List Nat)):=[some [0,3]]
def rlcM0 :List (Option (List Nat)):=[]
def rlcN1 :List (Option (List Nat)):=[some [0,4]]
def rlcM1 :List (Option (List Nat)):=[]
def rlcN2 :List (Option (List Nat)):=[some [0,4,5]]
def rlcM2 :List (Option (List Nat)):=[]
def rlcN3 :List (Option (List Nat)):=[some [0,4,6]]
def rlcM3 :List (Option (List Nat)):=[]
def Vv (l0:List Pa):rlcS→Xw rlcS
 | .h0 v3=>(bif (decide (v3<(l0.length:Int))) then (bif ((decide (0≤v3∧v3<(l0.length:Int)))&&true) then (bif (y5t (cvT (rd l0 v3.toNat).s)) then (bif ((z1l (cvT (rd l0 v3.toNat).s)) != 0) then (.ret [(.int .i64 (z1l (cvT (rd l0 v3.toNat).s)))]) else (.to (.h0 (wrap .i64 (v3+1))))) else .stuck) else .stuck) else (.to (.h1 0)))
 | .h1 v4=>(bif (decide (v4<(l0.length:Int))) then (bif ((decide (0≤v4∧v4<(l0.length:Int)))&&true) then (bif (!(rvbV (rd l0 v4.toNat).a (rd l0 v4.toNat).b (rd l0 v4.toNat).c (rd l0 v4.toNat).d (rd l0 v4.toNat).e (rd l0 v4.toNat).f)) then (.ret [(.int .i64 8)]) else (.to (.h2 v4 0))) else .stuck) else (.ret [(.int .i64 0)]))
 | .h2 v4 v5=>(bif ((decide (0≤v4∧v4<(l0.length:Int)))&&true) then (bif (decide (v5<(((rd l0 v4.toNat).s.length :Nat):Int))) then (bif ((decide (0≤v5∧v5<(((rd l0 v4.toNat).s.length :Nat):Int)))&&true) then (bif (!((((z9q (rd (rd l0 v4.toNat).s v5.toNat).a (rd (rd l0 v4.toNat).s v5.toNat).b (rd (rd l0 v4.toNat).s v5.toNat).c (rd (rd l0 v4.toNat).s v5.toNat).d (rd (rd l0 v4.toNat).s v5.toNat).e (rd (rd l0 v4.toNat).s v5.toNat).f (rd l0 v4.toNat).a (rd l0 v4.toNat).b (rd l0 v4.toNat).c (rd l0 v4.toNat).d (rd l0 v4.toNat).e (rd l0 v4.toNat).f).a == (rd (rd l0 v4.toNat).s v5.toNat).a)&&(((z9q (rd (rd l0 v4.toNat).s v5.toNat).a (rd (rd l0 v4.toNat).s v5.toNat).b (rd (rd l0 v4.toNat).s v5.toNat).c (rd (rd l0 v4.toNat).s v5.toNat).d (rd (rd l0 v4.toNat).s v5.toNat).e (rd (rd l0 v4.toNat).s v5.toNat).f (rd l0 v4.toNat).a (rd l0 v4.toNat).b (rd l0 v4.toNat).c (rd l0 v4.toNat).d (rd l0 v4.toNat).e (rd l0 v4.toNat).f).b == (rd (rd l0 v4.toNat).s v5.toNat).b)&&(((z9q (rd (rd l0 v4.toNat).s v5.toNat).a (rd (rd l0 v4.toNat).s v5.toNat).b (rd (rd l0 v4.toNat).s v5.toNat).c (rd (rd l0 v4.toNat).s v5.toNat).d (rd (rd l0 v4.toNat).s v5.toNat).e (rd (rd l0 v4.toNat).s v5.toNat).f (rd l0 v4.toNat).a (rd l0 v4.toNat).b (rd l0 v4.toNat).c (rd l0 v4.toNat).d (rd l0 v4.toNat).e (rd l0 v4.toNat).f).c == (rd (rd l0 v4.toNat).s v5.toNat).c)&&true)))&&((((z9q (rd (rd l0 v4.toNat).s v5.toNat).a (rd (rd l0 v4.toNat).s v5.toNat).b (rd (rd l0 v4.toNat).s v5.toNat).c (rd (rd l0 v4.toNat).s v5.toNat).d (rd (rd l0 v4.toNat).s v5.toNat).e (rd (rd l0 v4.toNat).s v5.toNat).f (rd l0 v4.toNat).a (rd l0 v4.toNat).b (rd l0 v4.toNat).c (rd l0 v4.toNat).d (rd l0 v4.toNat).e (rd l0 v4.toNat).f).d == (rd (rd l0 v4.toNat).s v5.toNat).d)&&(((z9q (rd (rd l0 v4.toNat).s v5.toNat).a (rd (rd l0 v4.toNat).s v5.toNat).b (rd (rd l0 v4.toNat).s v5.toNat).c (rd (rd l0 v4.toNat).s v5.toNat).d (rd (rd l0 v4.toNat).s v5.toNat).e (rd (rd l0 v4.toNat).s v5.toNat).f (rd l0 v4.toNat).a (rd l0 v4.toNat).b (rd l0 v4.toNat).c (rd l0 v4.toNat).d (rd l0 v4.toNat).e (rd l0 v4.toNat).f).e == (rd (rd l0 v4.toNat).s v5.toNat).e)&&(((z9q (rd (rd l0 v4.toNat).s v5.toNat).a (rd (rd l0 v4.toNat).s v5.toNat).b (rd (rd l0 v4.toNat).s v5.toNat).c (rd (rd l0 v4.toNat).s v5.toNat).d (rd (rd l0 v4.toNat).s v5.toNat).e (rd (rd l0 v4.toNat).s v5.toNat).f (rd l0 v4.toNat).a (rd l0 v4.toNat).b (rd l0 v4.toNat).c (rd l0 v4.toNat).d (rd l0 v4.toNat).e (rd l0 v4.toNat).f).f == (rd (rd l0 v4.toNat).s v5.toNat).f)&&true)))&&true))) then (.ret [(.int .i64 8)]) else (.to (.h2 v4 (wrap .i64 (v5+1))))) else .stuck) else (.to (.h3 v4 0))) else .stuck)
 | .h3 v4 v6=>(bif (decide (v6<v4)) then (bif ((decide (0≤v4∧v4<(l0.length:Int)))&&true) then (bif ((decide (0≤v6∧v6<(l0.length:Int)))&&true) then (bif (!((((z9q (rd l0 v4.toNat).a (rd l0 v4.toNat).b (rd l0 v4.toNat).c (rd l0 v4.toNat).d (rd l0 v4.toNat).e (rd l0 v4.toNat).f (rd l0 v6.toNat).a (rd l0 v6.toNat).b (rd l0 v6.toNat).c (rd l0 v6.toNat).d (rd l0 v6.toNat).e (rd l0 v6.toNat).f).a == 0)&&(((z9q (rd l0 v4.toNat).a (rd l0 v4.toNat).b (rd l0 v4.toNat).c (rd l0 v4.toNat).d (rd l0 v4.toNat).e (rd l0 v4.toNat).f (rd l0 v6.toNat).a (rd l0 v6.toNat).b (rd l0 v6.toNat).c (rd l0 v6.toNat).d (rd l0 v6.toNat).e (rd l0 v6.toNat).f).b == 0)&&(((z9q (rd l0 v4.toNat).a (rd l0 v4.toNat).b (rd l0 v4.toNat).c (rd l0 v4.toNat).d (rd l0 v4.toNat).e (rd l0 v4.toNat).f (rd l0 v6.toNat).a (rd l0 v6.toNat).b (rd l0 v6.toNat).c (rd l0 v6.toNat).d (rd l0 v6.toNat).e (rd l0 v6.toNat).f).c == 0)&&true)))&&((((z9q (rd l0 v4.toNat).a (rd l0 v4.toNat).b (rd l0 v4.toNat).c (rd l0 v4.toNat).d (rd l0 v4.toNat).e (rd l0 v4.toNat).f (rd l0 v6.toNat).a (rd l0 v6.toNat).b (rd l0 v6.toNat).c (rd l0 v6.toNat).d (rd l0 v6.toNat).e (rd l0 v6.toNat).f).d == 0)&&(((z9q (rd l0 v4.toNat).a (rd l0 v4.toNat).b (rd l0 v4.toNat).c (rd l0 v4.toNat).d (rd l0 v4.toNat).e (rd l0 v4.toNat).f (rd l0 v6.toNat).a (rd l0 v6.toNat).b (rd l0 v6.toNat).c (rd l0 v6.toNat).d (rd l0 v6.toNat).e (rd l0 v6.toNat).f).e == 0)&&(((z9q (rd l0 v4.toNat).a (rd l0 v4.toNat).b (rd l0 v4.toNat).c (rd l0 v4.toNat).d (rd l0 v4.toNat).e (rd l0 v4.toNat).f (rd l0 v6.toNat).a (rd l0 v6.toNat).b (rd l0 v6.toNat).c (rd l0 v6.toNat).d (rd l0 v6.toNat).e (rd l0 v6.toNat).f).f == 0)&&true)))&&true))) then (.ret [(.int .i64 8)]) else (.to (.h3 v4 (wrap .i64 (v6+1))))) else .stuck) else .stuck) else (.to (.h1 (wrap .i64 (v4+1)))))
def y3n (l0:List Pa):Xw rlcS:=(bif (decide ((l0.length:Int)>50)) then (.ret [(.int .i64 4)]) else (.to (.h0 0)))
theorem w7n (l0:List Pa): ∀s,Xu prog (Zy prog 21) (rlcC l0) (rlcC l0 s) (Vv l0 s)
 | .h0 v3=>(lb (fun k0=>(lo fun aE=>(lo fun bE=>(lb (fun k1=>(lr 93 21 [1,1,0,1,0,0,1,0,0,1,0,0] 1 9 [(2,(ii (z1l (cvT (rd l0 (tn v3)).s))))] (sl Jp 33 [] ⟨[],[],[some [2]],[]⟩ ⟨[],[],[]⟩ (bl 2 3) (pp (pp (xI R6 (rd l0 (tn v3)).s.length (Zz (rd l0 (tn v3)).s)) (xw bE)) (ww aE (tt k1 (pp (pp (xI R6 (rd l0 (tn v3)).s.length (Zz (rd l0 (tn v3)).s)) (xw bE)) (ww aE (tt k0 nn))))))))) (fun k1=>(sl Jp 31 [] ⟨[],[],rlcN0,rlcM0⟩ ⟨[],[],[]⟩ (bl 2 1) (tt k1 (pp (pp (xI R6 (rd l0 (tn v3)).s.length (Zz (rd l0 (tn v3)).s)) (xw bE)) (ww aE (tt k0 nn)))))))))) (fun k0=>(sl Jp 17 [] ⟨[],[],rlcN1,rlcM1⟩ ⟨[],[],[]⟩ [false] (tt k0 nn))))
 | .h1 v4=>(lb (fun k0=>(lo fun aE=>(lb (fun k1=>(lr 93 21 [1,1,1,0,1,0,0,1,0,0,0,1,0,0] 1 9 [(2,(ii 8))] (sl Jp 28 [] ⟨[],[],[some [2]],[]⟩ ⟨[],[],[]⟩ (bl 2 3) (tt k1 (ww aE (tt k0 nn)))))) (fun k1=>(sl Jp 32 [] ⟨[],[],rlcN2,rlcM2⟩ ⟨[],[],[]⟩ (bl 2 1) (tt k1 (ww aE (tt k0 nn)))))))) (fun k0=>(lr 93 3 [1,1,1,1,0] 1 9 [(2,(ii 0))] (sl Jp 14 [] ⟨[],[],[some [2]],[]⟩ ⟨[],[],[]⟩ [false] (tt k0 nn)))))
 | .h2 v4 v5=>(lo fun bN=>(lb (fun k0=>(lo fun aE=>(lb (fun k1=>(lr 93 21 [1,1,1,0,1,0,0,1,0,0,1,0,1,0,0,1,0,0,1,0,0] 1 9 [(2,(ii 8))] (sl Jp 23 [] ⟨[],[],[some [2]],[]⟩ ⟨[],[],[]⟩ (bl 2 3) (tt k1 (ww aE (ww bN (ww bN (ww aE (ww bN (tt k0 (ww bN nn))))))))))) (fun k1=>(sl Jp 27 [] ⟨[],[],rlcN2,rlcM2⟩ ⟨[],[],[]⟩ (bl 2 1) (tt k1 (ww aE (ww bN (ww bN (ww aE (ww bN (tt k0 (ww bN nn))))))))))))) (fun k0=>(sl Jp 20 [] ⟨[],[],rlcN3,rlcM3⟩ ⟨[],[],[]⟩ [false] (tt k0 (ww bN nn))))))
 | .h3 v4 v6=>(lb (fun k0=>(lo fun aE=>(lo fun bE=>(lb (fun k1=>(lr 93 21 [1,1,1,0,1,0,0,1,0,0,1,1,1,0,0,1,0,0,1,0,0] 1 9 [(2,(ii 8))] (sl Jp 18 [] ⟨[],[],[some [2]],[]⟩ ⟨[],[],[]⟩ (bl 2 3) (tt k1 (ww bE (ww aE (tt k0 nn))))))) (fun k1=>(sl Jp 22 [] ⟨[],[],rlcN3,rlcM3⟩ ⟨[],[],[]⟩ (bl 2 1) (tt k1 (ww bE (ww aE (tt k0 nn)))))))))) (fun k0=>(sl Jp 16 [] ⟨[],[],rlcN1,rlcM1⟩ ⟨[],[],[]⟩ [false] (tt k0 nn))))
theorem x8r (l0:List Pa):Xu prog (Zy prog 21) (rlcC l0) (Za prog 21 [(.dat l0.length (Zz l0))] true []) (y3n l0):=(lb (fun k0=>(lr 93 21 [1,0,1,0,0] 1 9 [(2,(ii 4))] (sl Jp 16 [] ⟨[],[],[some [2]],[]⟩ ⟨[],[],[]⟩ [true] (tt k0 nn)))) (fun k0=>(sl Jp 20 [] ⟨[],[],rlcN0,rlcM0⟩ ⟨[],[],[]⟩ [false] (tt k0 nn))))
theorem u0s (l0:List Pa) (n:Nat) (vs:List AVal) (h:Yx (Vv l0) n (y3n l0)=.ret vs):Ur prog (Zy prog 21) (Za prog 21 [(.dat l0.length (Zz l0))] true []) vs:=by have:=Zc (w7n l0) n _ (x8r l0);rwa [h] at this
inductive rlmS where
 | h0 (v5:Int)
def y5m (l0:List Pa) (l1:List Pa):rlmS→Xw rlmS
 | .h0 v5=>(bif (decide (v5<(l0.length:Int))) then (bif ((decide (0≤v5∧v5<(l0.length:Int)))&&true) then (bif ((decide (0≤v5∧v5<(l1.length:Int)))&&true) then (bif (!((((rd l0 v5.toNat).a == (rd l1 v5.toNat).a)&&(((rd l0 v5.toNat).b == (rd l1 v5.toNat).b)&&(((rd l0 v5.toNat).c == (rd l1 v5.toNat).c)&&true)))&&((((rd l0 v5.toNat).d == (rd l1 v5.toNat).d)&&(((rd l0 v5.toNat).e == (rd l1 v5.toNat).e)&&(((rd l0 v5.toNat).f == (rd l1 v5.toNat).f)&&true)))&&true))) then (.ret [(.bool false)]) else (bif (Vd (cvT (rd l0 v5.toNat).s) (cvT (rd l1 v5.toNat).s)) then (bif (!(Ke (cvT (rd l0 v5.toNat).s) (cvT (rd l1 v5.toNat).s))) then (.ret [(.bool false)]) else (.to (.h0 (wrap .i64 (v5+1))))) else .stuck)) else .stuck) else .stuck) else (.ret [(.bool true)]))
inductive rlnS where
 | h0 (v3:Int)
def rlnC (l0:List Pa):rlnS→Cfg
 | .h0 v3=>⟨⟨53,0,true⟩,none,(Zb prog 9 [1,1,0,1,0,0] 0),none,(Zy prog 9),⟨Yg [(0,(.dat l0.length (Zz l0))),(3,(ii v3))],Wt [] 0,0,[],true⟩,[],.leaf⟩
def rlnN0 :List (Option (List Nat)):=[some [0,3]]
def rlnM0 :List (Option (List Nat)):=[]
def z0q (l0:List Pa):rlnS→Xw rlnS
 | .h0 v3=>(bif (decide (v3<(l0.length:Int))) then (bif ((decide (0≤v3∧v3<(l0.length:Int)))&&true) then (bif (decide ((((rd l0 v3.toNat).s.length :Nat):Int)>6)) then (.ret [(.bool false)]) else (bif (Kn (cvT (rd l0 v3.toNat).s)) then (bif (!(x9y (cvT (rd l0 v3.toNat).s))) then (.ret [(.bool false)]) else (bif (!(x1z (rd l0 v3.toNat).a (rd l0 v3.toNat).b (rd l0 v3.toNat).c (-2000000))) then (.ret [(.bool false)]) else (bif (!(x1z (rd l0 v3.toNat).d (rd l0 v3.toNat).e (rd l0 v3.toNat).f (-2000000))) then (.ret [(.bool false)]) else (.to (.h0 (wrap .i64 (v3+1))))))) else .stuck)) else .stuck) else (.ret [(.bool (decide ((l0.length:Int)≤6)))]))
def y3m (l0:List Pa):Xw rlnS:=(bif (decide ((l0.length:Int)>50)) then (.ret [(.bool (decide ((l0.length:Int)≤55)))]) else (.to (.h0 0)))
theorem w7m (l0:List Pa): ∀s,Xu prog (Zy prog 9) (rlnC l0) (rlnC l0 s) (z0q l0 s)
 | .h0 v3=>(lb (fun k0=>(lo fun aE=>(lb (fun k1=>(lr 53 9 [1,1,0,1,0,0,1,0,0,1,1,0,0] 1 9 [(2,(.bool false))] (sl Jp 58 [] ⟨[],[],[some [2]],[]⟩ ⟨[],[],[]⟩ (trs 17 []) (tt k1 (ww aE (ww aE (tt k0 nn))))))) (fun k1=>(lo fun bU=>(lb (fun k2=>(lr 53 9 [1,1,0,1,0,0,1,0,0,1,1,0,0] 1 9 [(2,(.bool false))] (sl Jp 58 [] ⟨[],[],[some [2]],[]⟩ ⟨[],[],[]⟩ (bl 17 130817) (tt k2 (pp (pp (xI R6 (rd l0 (tn v3)).s.length (Zz (rd l0 (tn v3)).s)) (xw bU)) (ww aE (tt k1 (ww aE (ww aE (tt k0 nn)))))))))) (fun k2=>(lb (fun k3=>(lr 53 9 [1,1,0,1,0,0,1,0,0,1,1,0,0] 1 9 [(2,(.bool false))] (sl Jp 58 [] ⟨[],[],[some [2]],[]⟩ ⟨[],[],[]⟩ (bl 17 126977) (tt k3 (tt k2 (pp (pp (xI R6 (rd l0 (tn v3)).s.length (Zz (rd l0 (tn v3)).s)) (xw bU)) (ww aE (tt k1 (ww aE (ww aE (tt k0 nn))))))))))) (fun k3=>(lb (fun k4=>(lr 53 9 [1,1,0,1,0,0,1,0,0,1,1,0,0] 1 9 [(2,(.bool false))] (sl Jp 58 [] ⟨[],[],[some [2]],[]⟩ ⟨[],[],[]⟩ (bl 17 65537) (tt k4 (tt k3 (tt k2 (pp (pp (xI R6 (rd l0 (tn v3)).s.length (Zz (rd l0 (tn v3)).s)) (xw bU)) (ww aE (tt k1 (ww aE (ww aE (tt k0 nn)))))))))))) (fun k4=>(sl Jp 62 [] ⟨[],[],rlnN0,rlnM0⟩ ⟨[],[],[]⟩ (bl 17 1) (tt k4 (tt k3 (tt k2 (pp (pp (xI R6 (rd l0 (tn v3)).s.length (Zz (rd l0 (tn v3)).s)) (xw bU)) (ww aE (tt k1 (ww aE (ww aE (tt k0 nn))))))))))))))))))))) (fun k0=>(lr 53 3 [1,1,1,1,0] 1 9 [(2,(.bool (decide ((l0.length:Int)≤6))))] (sl Jp 17 [] ⟨[],[],[some [2]],[]⟩ ⟨[],[],[]⟩ [false] (tt k0 nn)))))
theorem x8q (l0:List Pa):Xu prog (Zy prog 9) (rlnC l0) (Za prog 9 [(.dat l0.length (Zz l0))] true []) (y3m l0):=(lb (fun k0=>(lr 53 9 [1,0,1,0,0] 1 9 [(2,(.bool (decide ((l0.length:Int)≤55))))] (sl Jp 19 [] ⟨[],[],[some [2]],[]⟩ ⟨[],[],[]⟩ [true] (tt k0 nn)))) (fun k0=>(sl Jp 20 [] ⟨[],[],rlnN0,rlnM0⟩ ⟨[],[],[]⟩ [false] (tt k0 nn))))
theorem u0r (l0:List Pa) (n:Nat) (vs:List AVal) (h:Yx (z0q l0) n (y3m l0)=.ret vs):Ur prog (Zy prog 9) (Za prog 9 [(.dat l0.length (Zz l0))] true []) vs:=by have:=Zc (w7m l0) n _ (x8q l0);rwa [h] at this
inductive sctS where
 | h0 (v8:List R4) (v17:Int)
abbrev y9e (v8:List R4) (aH:Int) (l1:List R6) (v17:Int):=(v8++[(R4.mk (z2u aH (rd l1 (tn v17)).a (rd l1 (tn v17)).b (rd l1 (tn v17)).c) (z2t aH (rd l1 (tn v17)).a (rd l1 (tn v17)).b (rd l1 (tn v17)).c) (z2u aH (rd l1 (tn v17)).d (rd l1 (tn v17)).e (rd l1 (tn v17)).f) (z2t aH (rd l1 (tn v17)).d (rd l1 (tn v17)).e (rd l1 (tn v17)).f))])
abbrev u6o (v8:List R4) (aH:Int) (l1:List R6) (v17:Int):=(Yy (Zz v8) 0 v8.length 4 [(ii (z2u aH (rd l1 (tn v17)).a (rd l1 (tn v17)).b (rd l1 (tn v17)).c)),(ii (z2t aH (rd l1 (tn v17)).a (rd l1 (tn v17)).b (rd l1 (tn v17)).c)),(ii (z2u aH (rd l1 (tn v17)).d (rd l1 (tn v17)).e (rd l1 (tn v17)).f)),(ii (z2t aH (rd l1 (tn v17)).d (rd l1 (tn v17)).e (rd l1 (tn v17)).f))])
def sctC (aH:Int) (l1:List R6) (x2:Int):sctS→Cfg
 | .h0 v8 v17=>⟨⟨62,0,true⟩,none,(Zb prog 47 [1,1,0,1,0,0] 0),none,(Zy prog 10),⟨Yg [(2,(ii x2)),(3,(.ptr 0 0)),(8,(.sla 1 4 0 v8.length (.un 4))),(15,(.dat l1.length (Zz l1))),(16,(ii (l1.length:Int))),(17,(ii v17))],Wt [⟨[(ii aH)],79,none⟩,⟨Ym v8.length (Zz v8),116,some ⟨4,v8.length,(Zz v8)⟩⟩] 0,2,[],true⟩,[],.leaf⟩
def v9w :List (Option (List Nat)):=[some [2,3,8,15,16,17]]
def v9x :List (Option (List Nat)):=[]
def z4l (aH:Int) (l1:List R6) (x2:Int):sctS→Xw sctS
 | .h0 v8 v17=>(bif (decide (v17<(l1.length:Int))) then (bif ((decide (0≤v17∧v17<(l1.length:Int)))&&true) then (bif (Ux aH (rd l1 v17.toNat).a (rd l1 v17.toNat).b (rd l1 v17.toNat).c) then (bif (decide ((y1b aH (rd l1 v17.toNat).a (rd l1 v17.toNat).b (rd l1 v17.toNat).c)≤x2)) then (bif (Ux aH (rd l1 v17.toNat).d (rd l1 v17.toNat).e (rd l1 v17.toNat).f) then (bif (decide (x2<(y1b aH (rd l1 v17.toNat).d (rd l1 v17.toNat).e (rd l1 v17.toNat).f))) then (bif (z2s aH (rd l1 v17.toNat).a (rd l1 v17.toNat).b (rd l1 v17.toNat).c) then (bif (z2s aH (rd l1 v17.toNat).d (rd l1 v17.toNat).e (rd l1 v17.toNat).f) then (bif (Nat.beq 4 4&&((decide (0+v8.length=v8.length))&&decide ((v8.length+1+1)*(32+1)≤Kj))) then (.to (.h0 (v8++[(R4.mk (z2u aH (rd l1 v17.toNat).a (rd l1 v17.toNat).b (rd l1 v17.toNat).c) (z2t aH (rd l1 v17.toNat).a (rd l1 v17.toNat).b (rd l1 v17.toNat).c) (z2u aH (rd l1 v17.toNat).d (rd l1 v17.toNat).e (rd l1 v17.toNat).f) (z2t aH (rd l1 v17.toNat).d (rd l1 v17.toNat).e (rd l1 v17.toNat).f))]) (wrap .i64 (v17+1)))) else .stuck) else .stuck) else .stuck) else (.to (.h0 v8 (wrap .i64 (v17+1))))) else .stuck) else (.to (.h0 v8 (wrap .i64 (v17+1))))) else .stuck) else .stuck) else (bif (Jc (cvT v8)) then (.ret [(.dat (Ze (cvT v8)).length (Zz (Ze (cvT v8)))),(.int .i64 (We (cvT v8)))]) else .stuck))
def x1q (aH:Int) (l1:List R6) (x2:Int):Xw sctS:=(.to (.h0 ([]:List R4) 0))
theorem w6w (aH:Int) (l1:List R6) (x2:Int): ∀s,Xu prog (Zy prog 47) (sctC aH l1 x2) (sctC aH l1 x2 s) (z4l aH l1 x2 s)
 | .h0 v8 v17=>(lb (fun k0=>(lo fun aE=>(lo fun bE=>(lb (fun k1=>(lo fun bU=>(lb (fun k2=>(lo fun o0=>(lo fun o1=>(lo fun o2=>(sl Kc 75 [] ⟨[0,4],[],v9w,v9x⟩ ⟨[(8,.len (y9e v8 aH l1 v17).length)],[.keep,.rowed 4 (y9e v8 aH l1 v17).length (Zz (y9e v8 aH l1 v17))],[]⟩ (trs 8 []) (pp (xL (v8.length+1) (y9e v8 aH l1 v17).length) (pp (xL (v8.length+1) (y9e v8 aH l1 v17).length) (pp (xS (v8.length+1) (u6o v8 aH l1 v17) (Zz (y9e v8 aH l1 v17))) (pp (pp (xF (u6o v8 aH l1 v17)) nn) (ww o2 (ww o1 (ww o0 (tt k2 (ww bU (tt k1 (ww bE (ww aE (tt k0 nn)))))))))))))))))) (fun k2=>(sl Kc 41 [] ⟨[0,1],[],v9w,v9x⟩ ⟨[],[],[]⟩ (trs 7 [false]) (pp (fl v8 nn) (tt k2 (ww bU (tt k1 (ww bE (ww aE (tt k0 nn)))))))))))) (fun k1=>(sl Kc 41 [] ⟨[0,1],[],v9w,v9x⟩ ⟨[],[],[]⟩ (bl 8 1) (pp (fl v8 nn) (tt k1 (ww bE (ww aE (tt k0 nn))))))))))) (fun k0=>(Xd (sl Kc (C':=⟨⟨62,0,true⟩,(Vj prog 47 [1,1,1,0] 1),(Zb prog 47 [1,1,1,0] 1),none,(Zy prog 10),⟨Yg [(58,(.dat v8.length (Zz v8)))],Wt [] 0,0,[],true⟩,[],.leaf⟩) 10 [] ⟨[],[1],[some [58]],[]⟩ ⟨[(58,.frz v8.length v8.length (Zz v8) (Zz v8))],[],[]⟩ [false] (pp (xZ (z7j 4 4 0 v8.length v8.length (Zz v8)) v8.length (Zz v8)) (pp (xL v8.length v8.length) (pp (xS v8.length (Zz v8) (Zz v8)) (pp (fl v8 nn) (tt k0 nn)))))) (lo fun o0=>(lr 62 3 [1,1,1,1,0] 1 10 [(6,(.dat (Ze (cvT v8)).length (Zz (Ze (cvT v8))))),(7,(ii (We (cvT v8))))] (sl Kc 6 [] ⟨[],[],[some [6,7]],[]⟩ ⟨[],[],[]⟩ [] (pp (pp (xr v8) (xw o0)) nn)))))))
theorem x7z (aH:Int) (l1:List R6) (x2:Int):Xu prog (Zy prog 47) (sctC aH l1 x2) (Za prog 47 [(.agg [(.int .i64 aH)]),(.dat l1.length (Zz l1)),(.int .i64 x2)] true []) (x1q aH l1 x2):=(sl Kc 19 [(116,4,Zz ([]:List R4))] ⟨[0,1],[],v9w,v9x⟩ ⟨[(8,.grow 1 4)],[],[]⟩ [] (pp (fl ([]:List R4) nn) nn))
theorem v9v (aH:Int) (l1:List R6) (x2:Int) (n:Nat) (vs:List AVal) (h:Yx (z4l aH l1 x2) n (x1q aH l1 x2)=.ret vs):Ur prog (Zy prog 47) (Za prog 47 [(.agg [(.int .i64 aH)]),(.dat l1.length (Zz l1)),(.int .i64 x2)] true []) vs:=by have:=Zc (w6w aH l1 x2) n _ (x7z aH l1 x2);rwa [h] at this
inductive swhS where
 | h0 (v4:List R6) (v10:Int)
def swhC (l0:List Pa):swhS→Cfg
 | .h0 v4 v10=>⟨⟨26,0,true⟩,none,(Zb prog 44 [1,1,0,1,0,0] 0),none,(Zy prog 14),⟨Yg [(4,(.dat v4.length (Zz v4))),(8,(.dat l0.length (Zz l0))),(9,(ii (l0.length:Int))),(10,(ii v10))],Wt [] 0,0,[],true⟩,[],.leaf⟩
def swhN0 :List (Option (List Nat)):=[some [4,8,9,10]]
def swhM0 :List (Option (List Nat)):=[]
def z6h (l0:List Pa):swhS→Xw swhS
 | .h0 v4 v10=>(bif (decide (v10<(l0.length:Int))) then (bif ((decide (0≤v10∧v10<(l0.length:Int)))&&true) then (bif (y2z .u (cvT v4) (cvT (rd l0 v10.toNat).s)) then (bif ((z5u .u (cvT v4) (cvT (rd l0 v10.toNat).s)) != 0) then (.ret [.nils,(.int .i64 (z5u .u (cvT v4) (cvT (rd l0 v10.toNat).s)))]) else (.to (.h0 (z2f .u (cvT v4) (cvT (rd l0 v10.toNat).s)) (wrap .i64 (v10+1))))) else .stuck) else .stuck) else (.ret [(.dat v4.length (Zz v4)),(.int .i64 0)]))
def x1f (l0:List Pa):Xw swhS:=(.to (.h0 ([]:List R6) 0))
theorem w6c (l0:List Pa): ∀s,Xu prog (Zy prog 44) (swhC l0) (swhC l0 s) (z6h l0 s)
 | .h0 v4 v10=>(lb (fun k0=>(lo fun aE=>(lo fun bE=>(lb (fun k1=>(lr 26 44 [1,1,0,1,0,0,1,1,0,0,1,1,1,1,0,0] 1 14 [(2,.nils),(3,(ii (z5u .u (cvT v4) (cvT (rd l0 (tn v10)).s))))] (sl Kc 44 [] ⟨[],[],[some [2,3]],[]⟩ ⟨[],[],[]⟩ (bl 2 3) (tt k1 (pp (pp (xr v4) (pp (xI R6 (rd l0 (tn v10)).s.length (Zz (rd l0 (tn v10)).s)) (xw bE))) (ww aE (tt k0 nn))))))) (fun k1=>(sl Kc 45 [] ⟨[],[],swhN0,swhM0⟩ ⟨[],[],[]⟩ (bl 2 1) (tt k1 (pp (pp (xr v4) (pp (xI R6 (rd l0 (tn v10)).s.length (Zz (rd l0 (tn v10)).s)) (xw bE))) (ww aE (tt k0 nn)))))))))) (fun k0=>(lr 26 3 [1,1,1,1,0] 1 14 [(2,(.dat v4.length (Zz v4))),(3,(ii 0))] (sl Kc 13 [] ⟨[],[],[some [2,3]],[]⟩ ⟨[],[],[]⟩ [false] (tt k0 nn)))))
theorem x7i (l0:List Pa):Xu prog (Zy prog 44) (swhC l0) (Za prog 44 [(.dat l0.length (Zz l0))] true []) (x1f l0):=(sl Kc 18 [] ⟨[],[],swhN0,swhM0⟩ ⟨[(4,.list 0 (Zz ([]:List R6)))],[],[]⟩ [] nn)
theorem v8y (l0:List Pa) (n:Nat) (vs:List AVal) (h:Yx (z6h l0) n (x1f l0)=.ret vs):Ur prog (Zy prog 44) (Za prog 44 [(.dat l0.length (Zz l0))] true []) vs:=by have:=Zc (w6c l0) n _ (x7i l0);rwa [h] at this
open Go.Sort Go.Shelf Go.RowKit Go.Lib
def y8c (a:Int) (L:List R6) (p:Int):List R4:=(L.filter fun r=>decide (y1b a r.a r.b r.c≤p)&&decide (p<y1b a r.d r.e r.f)).map fun r=>⟨z2u a r.a r.b r.c,z2t a r.a r.b r.c,z2u a r.d r.e r.f,z2t a r.d r.e r.f⟩
theorem w1y (a:Int) (L M:List R6) (p:Int):y8c a (L++M) p=y8c a L p++y8c a M p:=by
 grind [y8c]
theorem cutA_t (a:Int) {r:R6} {p:Int} (h1:y1b a r.a r.b r.c≤p) (h2:p<y1b a r.d r.e r.f):y8c a [r] p=[⟨z2u a r.a r.b r.c,z2t a r.a r.b r.c,z2u a r.d r.e r.f,z2t a r.d r.e r.f⟩]:=by
 grind [y8c]
theorem j7h (a:Int) {r:R6} {p:Int} (h1: ¬y1b a r.a r.b r.c≤p):y8c a [r] p=[]:=by
 grind [y8c]
theorem j7g (a:Int) {r:R6} {p:Int} (h2: ¬p<y1b a r.d r.e r.f):y8c a [r] p=[]:=by
 grind [y8c]
def Zg (a:Int) (L:List R6) (p:Int):List R4:=Ze (y8c a L p)
def Xr (a:Int) (L:List R6) (p:Int):Int:=We (y8c a L p)
def Xi (a:Int) (L:List R6) (p:Int):Bool:=axO a&&decide (L.length≤1000)
theorem u6n (a:Int) (L:List R6) (p:Int) (ha:axO a=true) (hl:L.length≤1000): ∀(k i:Nat) (acc:List R4),i+k=L.length→acc.length≤i→y8c a L p=acc++y8c a (L.drop i) p→
  ∃n,Yx (z4l a L p) n (.to (.h0 acc (i:Int)))=.ret [.dat (Zg a L p).length (Zz (Zg a L p)),.int .i64 (Xr a L p)]
 | 0,i,acc,h,h',e=>by
  rw [As (by omega),show y8c a [] p=[] from rfl,AF] at e;refine ⟨1,?_⟩
  grind [Zg,Xr,Zw,z4l,Zd,Jc,Zp]
 | k+1,i,acc,h,h',e=>by
  have hi:i<L.length:=by omega
  have oA: ∀x y z,Ux a x y z=true:=fun _ _ _=>ha;have oF: ∀x y z,z2s a x y z=true:=fun _ _ _=>ha;have e2:y8c a L p=(acc++y8c a [rd L i] p)++y8c a (L.drop (i+1)) p:=by rw [AN,←w1y,e,Yq hi];rfl
  obtain ⟨n,hn⟩:=u6n a L p ha hl k (i+1) (acc++y8c a [rd L i] p) (by omega) (by
   grind [y8c]) e2
  refine ⟨n+1,?_⟩;rw [Zw];by_cases h1:y1b a (rd L i).a (rd L i).b (rd L i).c ≤p
  ·by_cases h2:p<y1b a (rd L i).d (rd L i).e (rd L i).f
   ·rw [cutA_t a h1 h2] at hn;simp (disch:=omega) only [z4l,oA,oF,Xo,Zd,Zq,Zs,Zt,Yb,Yw,Yu,Zf,Zk,Zx,show Nat.beq 4 4=true from rfl,Zj,Af,Ao,Ah,Ak,Ae,Ac];exact hn
   ·rw [j7g a h2,AF] at hn
    grind [z4l,Zk,Zj]
  grind [j7h,z4l,Zk,Zj]
theorem j1x (a:Int) (L:List R6) (p:Int) (h:Xi a L p=true): ∃n,Yx (z4l a L p) n (x1q a L p)=.ret [.dat (Zg a L p).length (Zz (Zg a L p)),.int .i64 (Xr a L p)]:=by obtain ⟨h1,h2⟩:=BD.1 h;exact u6n a L p h1 (Aw h2) L.length 0 [] (Af _) (Aq _) rfl
def fSct :List AVal→Option (AVal×Bool)
 | [.agg [.int .i64 aH],a1,.int .i64 x2]=>match asL R6 a1 with
  | some (L1,g1,n1)=>some (.tup [.dat (Zg aH L1 x2).length (Zz (Zg aH L1 x2)),.int .i64 (Xr aH L1 x2)],isT R6 n1 g1&&(Xi aH L1 x2))
  | _=>none
 | _=>none
theorem j5q {S:Specs} (hS:Zu prog S):Zu prog (S.with nSCut fSct):=by
 refine Qi hS (by kernel_rfl) fun args v h=> ?_;unfold fSct at h;split at h
 ·rename_i aH a1 x2;split at h
  ·rename_i L1 g1 n1 e1;simp only [Ab,Aa,Ad] at h;obtain ⟨rfl,ho1,hw⟩:=h;obtain ⟨N,hN⟩:=j1x aH L1 x2 hw;exact ⟨_,_,(.cons (.refl _) (.cons (Yi e1 ho1) (.cons (.refl _) .nil))),rfl,v9v aH L1 x2 N _ hN,3,rfl⟩
  ·cases h
 ·cases h
def whE :List R6→List Pa→Int
 | _,[]=>0
 | acc,x::r=>bif z5u .u acc x.s != 0 then z5u .u acc x.s else whE (z2f .u acc x.s) r
def whL :List R6→List Pa→List R6
 | acc,[]=>acc
 | acc,x::r=>whL (z2f .u acc x.s) r
def Qu (l:List Pa):Int:=whE [] l
def Zo (l:List Pa):List R6:=y8b (whE [] l) (whL [] l)
def Qv (l:List Pa):Bool:=decide (l.length≤1000)
theorem u5f (l:List Pa) (hl:l.length≤1000): ∀(k i:Nat) (acc:List R6),i+k=l.length→ ∃n,Yx (z6h l) n (.to (.h0 acc (i:Int)))=.ret (z9p (whE acc (l.drop i)) (whL acc (l.drop i)))
 | 0,i,acc,h=>by rw [As (by omega)];refine ⟨1,?_⟩;rw [Zw];simp (disch:=omega) only [z6h,Yf,Ac,Zp];rfl
 | k+1,i,acc,h=>by
  have hi:i<l.length:=by omega
  obtain ⟨n,hn⟩:=u5f l hl k (i+1) (z2f .u acc (rd l i).s) (by omega);refine ⟨n+1,?_⟩;rw [Zw,Yq hi];have e:z6h l (.h0 acc (i:Int))=bif z5u .u acc (rd l i).s != 0 then .ret [.nils,.int .i64 (z5u .u acc (rd l i).s)] else .to (.h0 (z2f .u acc (rd l i).s) ((i+1:Nat):Int)):=by
   grind [z6h,Zd,y2z,Zk]
  rw [e];unfold whE whL;rcases Yk (z5u .u acc (rd l i).s != 0) with q | q;all_goals grind [Zp,Vh]
theorem j0p (l:List Pa) (h:Qv l=true): ∃n,Yx (z6h l) n (x1f l)=.ret (z9p (Qu l) (whL [] l)):=u5f l (Aw h) l.length 0 [] (Af _)
def fSwh :List AVal→Option (AVal×Bool)
 | [a0]=>match asL Pa a0 with
  | some (L0,g0,n0)=>some (.tup [.dat (Zo L0).length (Zz (Zo L0)),.int .i64 (Qu L0)],isT Pa n0 g0&&(Qv L0))
  | _=>none
 | _=>none
theorem j5j {S:Specs} (hS:Zu prog S):Zu prog (S.with v4x fSwh):=by
 refine v6j hS (by kernel_rfl) fun args v h=> ?_;unfold fSwh at h;split at h
 ·rename_i a0;split at h
  ·rename_i L0 g0 n0 e0;simp only [Ab,Aa,Ad] at h;obtain ⟨rfl,ho0,hw⟩:=h;obtain ⟨N,hN⟩:=j0p L0 hw;exact ⟨_,_,(.cons (Yi e0 ho0) .nil),z1k _ _,v8y L0 N _ hN,3,z6q _ _⟩
  ·cases h
 ·cases h
def Vb2 :Specs:=((Vb.with nSCut fSct).with v4x fSwh)
theorem Vb2_ok :Zu prog Vb2:=(j5j (j5q Kc))
inductive skcS where
 | h0 (v15:Int)
 | h1 (v28:Int)
 | h2 (v0:List R6) (v7:Int) (v8:Int) (dM:List R6) (aZ:Int) (cF:Int) (dF:List R6) (aD:Int) (bJ:Int) (bF:Int) (bT:Int) (cS:Int) (cT:Int) (cU:List R6)
 | h3 (v0:List Pa) (v7:Int) (v8:Int) (cF:Int) (aD:Int) (bJ:Int) (bF:Int) (bT:Int) (cS:Int) (cT:Int) (cU:List R6)
abbrev z5x (l0:List Pa) (v28:Int):=(R6.mk (rd l0 (tn v28)).a (rd l0 (tn v28)).b (rd l0 (tn v28)).c (rd l0 (tn v28)).d (rd l0 (tn v28)).e (rd l0 (tn v28)).f)
abbrev z4b (l0:List Pa) (aZ:Int):=(Zz (Ku l0 0 (tn aZ)))
def y1o (l0:List Pa):AVal:=(.dat l0.length (Zz l0))
def skcC (l0:List Pa):skcS→Cfg
 | .h0 v15=>⟨⟨54,0,true⟩,none,(Zb prog 20 [1,1,0,1,0,0] 0),none,(Zy prog 9),⟨Yg [(0,(y1o l0)),(13,(y1o l0)),(14,(ii (l0.length:Int))),(15,(ii v15))],Wt [] 0,0,[],true⟩,[],.leaf⟩
 | .h1 v28=>⟨⟨54,0,true⟩,none,(Zb prog 20 [1,1,1,0,1,0,0] 0),none,(Zy prog 9),⟨Yg [(0,(y1o l0)),(26,(y1o l0)),(27,(ii (l0.length:Int))),(28,(ii v28))],Wt [] 0,0,[],true⟩,[],.leaf⟩
 | .h2 v0 v7 v8 dM aZ cF dF aD bJ bF bT cS cT cU=>⟨⟨19,0,true⟩,none,(Zb prog 95 [1,0,1,0,0] 0),none,(Zy prog 6),⟨Yg [(0,(.dat v0.length (Zz v0))),(1,(.fn 53 [(.ptr 0 0)])),(7,(ii v7)),(8,(ii v8))],Wt [⟨[(ii aD),(ii bJ),(ii bF),(ii bT),(ii cS),(ii cT),(.dat cU.length (Zz cU))],59,none⟩] 0,1,[],true⟩,[⟨⟨9,0,true⟩,(Vj prog 57 [1,0] 2),(Zb prog 57 [1,0] 1),none,(Zy prog 6),Yg [(5,(.dat dM.length (Zz dM))),(6,(.fn 53 [(.ptr 0 0)]))]⟩,⟨⟨54,0,true⟩,(Vj prog 20 [1,1,1,0,1,0,0,1,1,0,0,1,1,1,0] 9),(Zb prog 20 [1,1,1,0,1,0,0,1,1,0,0,1,1,1,0] 1),none,(Zy prog 9),Yg [(0,(y1o l0)),(6,(ii aZ)),(9,(.fn 55 [(.ptr 0 0)])),(26,(y1o l0)),(27,(ii (l0.length:Int))),(28,(ii cF)),(40,(.bool false)),(42,(.dat dF.length (Zz dF))),(43,(.fn 53 [(.ptr 0 0)]))]⟩],.leaf⟩
 | .h3 v0 v7 v8 cF aD bJ bF bT cS cT cU=>⟨⟨19,0,true⟩,none,(Zb prog 96 [1,0,1,0,0] 0),none,(Zy prog 6),⟨Yg [(0,(.dat v0.length (Zz v0))),(1,(.fn 55 [(.ptr 0 0)])),(7,(ii v7)),(8,(ii v8))],Wt [⟨[(ii aD),(ii bJ),(ii bF),(ii bT),(ii cS),(ii cT),(.dat cU.length (Zz cU))],59,none⟩] 0,1,[],true⟩,[⟨⟨9,0,true⟩,(Vj prog 58 [1,0] 2),(Zb prog 58 [1,0] 1),none,(Zy prog 6),Yg [(5,(.dat v0.length (Zz v0))),(6,(.fn 55 [(.ptr 0 0)]))]⟩,⟨⟨54,0,true⟩,(Vj prog 20 [1,1,1,0,1,0,0,1,1,0,0,1,1,1,0] 16),(Zb prog 20 [1,1,1,0,1,0,0,1,1,0,0,1,1,1,0] 1),none,(Zy prog 9),Yg [(0,(y1o l0)),(26,(y1o l0)),(27,(ii (l0.length:Int))),(28,(ii cF)),(46,(.bool false)),(49,(.dat v0.length (Zz v0))),(50,(.fn 55 [(.ptr 0 0)]))]⟩],.leaf⟩
def skcN0 :List (Option (List Nat)):=[some [0,13,14,15]]
def skcM0 :List (Option (List Nat)):=[]
def j1r :List (Option (List Nat)):=[some [0,26,27,28]]
def j1t :List (Option (List Nat)):=[]
def skcN2 :List (Option (List Nat)):=[some [0,1,7,8],some [5,6],some [0,6,9,26,27,28,40,42,43]]
def skcM2 :List (Option (List Nat)):=[]
def j1q :List (Option (List Nat)):=[some [0,1,7,8],some [5,6],some [0,26,27,28,46,49,50]]
def j1s :List (Option (List Nat)):=[]
def Vw (l0:List Pa):skcS→Xw skcS
 | .h0 v15=>(bif (decide (v15<(l0.length:Int))) then (bif ((decide (0≤v15∧v15<(l0.length:Int)))&&true) then (bif (Vg (cvT (rd l0 v15.toNat).s)) then (bif ((Zr (cvT (rd l0 v15.toNat).s)) != 0) then (.ret [(.int .i64 (Zr (cvT (rd l0 v15.toNat).s)))]) else (.to (.h0 (wrap .i64 (v15+1))))) else .stuck) else .stuck) else (.to (.h1 0)))
 | .h1 v28=>(bif (decide (v28<(l0.length:Int))) then (bif ((decide (0≤v28∧v28<(l0.length:Int)))&&true) then (bif (Vg (cvT ([(R6.mk (rd l0 v28.toNat).a (rd l0 v28.toNat).b (rd l0 v28.toNat).c (rd l0 v28.toNat).d (rd l0 v28.toNat).e (rd l0 v28.toNat).f)]:List R6))) then (bif ((Zr (cvT ([(R6.mk (rd l0 v28.toNat).a (rd l0 v28.toNat).b (rd l0 v28.toNat).c (rd l0 v28.toNat).d (rd l0 v28.toNat).e (rd l0 v28.toNat).f)]:List R6))) != 0) then (.ret [(.int .i64 8)]) else (.to (.h2 (rd l0 v28.toNat).s (((rd l0 v28.toNat).s.length :Nat):Int) 0 (rd l0 v28.toNat).s v28 v28 (rd l0 v28.toNat).s (rd l0 v28.toNat).a (rd l0 v28.toNat).b (rd l0 v28.toNat).c (rd l0 v28.toNat).d (rd l0 v28.toNat).e (rd l0 v28.toNat).f (rd l0 v28.toNat).s))) else .stuck) else .stuck) else (.ret [(.int .i64 0)]))
 | .h2 v0 v7 v8 dM aZ cF dF aD bJ bF bT cS cT cU=>(bif (decide (v8<v7)) then (bif ((decide (0≤v8∧v8<(v0.length:Int)))&&true) then (bif (!(j4t (rd v0 v8.toNat).a (rd v0 v8.toNat).b (rd v0 v8.toNat).c (rd v0 v8.toNat).d (rd v0 v8.toNat).e (rd v0 v8.toNat).f aD bJ bF bT cS cT)) then (bif (decide (v8≥0)) then (.ret [(.int .i64 8)]) else (bif (decide (0≤aZ.toNat)) then (bif (decide (aZ.toNat≤l0.length)) then (bif (decide (0≤aZ)) then (.to (.h3 (Ku l0 0 aZ.toNat) ((aZ.toNat:Nat):Int) 0 cF aD bJ bF bT cS cT cU)) else .stuck) else .stuck) else .stuck)) else (.to (.h2 v0 v7 (wrap .i64 (v8+1)) dM aZ cF dF aD bJ bF bT cS cT cU))) else .stuck) else (bif (decide (0≤aZ.toNat)) then (bif (decide (aZ.toNat≤l0.length)) then (bif (decide (0≤aZ)) then (.to (.h3 (Ku l0 0 aZ.toNat) ((aZ.toNat:Nat):Int) 0 cF aD bJ bF bT cS cT cU)) else .stuck) else .stuck) else .stuck))
 | .h3 v0 v7 v8 cF aD bJ bF bT cS cT cU=>(bif (decide (v8<v7)) then (bif ((decide (0≤v8∧v8<(v0.length:Int)))&&true) then (bif (j4b aD bJ bF bT cS cT (rd v0 v8.toNat).a (rd v0 v8.toNat).b (rd v0 v8.toNat).c (rd v0 v8.toNat).d (rd v0 v8.toNat).e (rd v0 v8.toNat).f) then (bif (decide (v8≥0)) then (.ret [(.int .i64 8)]) else (.to (.h1 (wrap .i64 (cF+1))))) else (.to (.h3 v0 v7 (wrap .i64 (v8+1)) cF aD bJ bF bT cS cT cU))) else .stuck) else (.to (.h1 (wrap .i64 (cF+1)))))
def y3b (l0:List Pa):Xw skcS:=(bif (decide ((l0.length:Int)>50)) then (.ret [(.int .i64 4)]) else (.to (.h0 0)))
theorem w6t (l0:List Pa): ∀s,Xu prog (Zy prog 20) (skcC l0) (skcC l0 s) (Vw l0 s)
 | .h0 v15=>(lb (fun k0=>(lo fun aE=>(lo fun bE=>(lb (fun k1=>(lr 54 20 [1,1,0,1,0,0,1,1,0,0,1,1,1,0,0] 1 9 [(2,(ii (Zr (cvT (rd l0 (tn v15)).s))))] (sl Kc 34 [] ⟨[],[],[some [2]],[]⟩ ⟨[],[],[]⟩ (bl 2 3) (tt k1 (pp (pp (xI R6 (rd l0 (tn v15)).s.length (Zz (rd l0 (tn v15)).s)) (xw bE)) (ww aE (tt k0 nn))))))) (fun k1=>(sl Kc 36 [] ⟨[],[],skcN0,skcM0⟩ ⟨[],[],[]⟩ (bl 2 1) (tt k1 (pp (pp (xI R6 (rd l0 (tn v15)).s.length (Zz (rd l0 (tn v15)).s)) (xw bE)) (ww aE (tt k0 nn)))))))))) (fun k0=>(sl Kc 16 [] ⟨[],[],j1r,j1t⟩ ⟨[],[],[]⟩ [false] (tt k0 nn))))
 | .h1 v28=>(lb (fun k0=>(lo fun q1_0=>(Xd (sl Kc (C':=⟨⟨54,0,true⟩,(Vj prog 20 [1,1,1,0,1,0,0,1,1,0,0,1,1,1,0] 3),(Zb prog 20 [1,1,1,0,1,0,0,1,1,0,0,1,1,1,0] 1),none,(Zy prog 9),⟨Yg [(0,(.dat l0.length (Zz l0))),(6,(ii v28)),(7,(.ptr 0 0)),(8,(.fn 53 [(.ptr 0 0)])),(9,(.fn 55 [(.ptr 0 0)])),(26,(.dat l0.length (Zz l0))),(27,(ii (l0.length:Int))),(28,(ii v28)),(37,(.dat ([(z5x l0 v28)]:List R6).length (Zz ([(z5x l0 v28)]:List R6))))],Wt [⟨[(ii (rd l0 (tn v28)).a),(ii (rd l0 (tn v28)).b),(ii (rd l0 (tn v28)).c),(ii (rd l0 (tn v28)).d),(ii (rd l0 (tn v28)).e),(ii (rd l0 (tn v28)).f),(.dat (rd l0 (tn v28)).s.length (Zz (rd l0 (tn v28)).s))],59,none⟩] 0,1,[],true⟩,[],.leaf⟩) 33 [] ⟨[0],[1],[some [0,6,7,8,9,26,27,28,37]],[]⟩ ⟨[(37,.frz 1 ([(z5x l0 v28)]:List R6).length (Xf [(ii (rd l0 (tn v28)).a),(ii (rd l0 (tn v28)).b),(ii (rd l0 (tn v28)).c),(ii (rd l0 (tn v28)).d),(ii (rd l0 (tn v28)).e),(ii (rd l0 (tn v28)).f)] 0 6) (Zz ([(z5x l0 v28)]:List R6)))],[],[]⟩ [true] (pp (xZ (.dat 1 (Xf [(ii (rd l0 (tn v28)).a),(ii (rd l0 (tn v28)).b),(ii (rd l0 (tn v28)).c),(ii (rd l0 (tn v28)).d),(ii (rd l0 (tn v28)).e),(ii (rd l0 (tn v28)).f)] 0 6)) 1 (Xf [(ii (rd l0 (tn v28)).a),(ii (rd l0 (tn v28)).b),(ii (rd l0 (tn v28)).c),(ii (rd l0 (tn v28)).d),(ii (rd l0 (tn v28)).e),(ii (rd l0 (tn v28)).f)] 0 6)) (pp (xL 1 ([(z5x l0 v28)]:List R6).length) (pp (xS 1 (Xf [(ii (rd l0 (tn v28)).a),(ii (rd l0 (tn v28)).b),(ii (rd l0 (tn v28)).c),(ii (rd l0 (tn v28)).d),(ii (rd l0 (tn v28)).e),(ii (rd l0 (tn v28)).f)] 0 6) (Zz ([(z5x l0 v28)]:List R6))) (ww q1_0 (tt k0 nn)))))) (lo fun aE=>(lb (fun k1=>(lr 54 20 [1,1,1,0,1,0,0,1,1,0,0,1,1,1,1,0,0] 1 9 [(2,(ii 8))] (sl Kc 21 [] ⟨[],[],[some [2]],[]⟩ ⟨[],[],[]⟩ (trs 10 []) (tt k1 (pp (pp (xI R6 ([(z5x l0 v28)]:List R6).length (Zz ([(z5x l0 v28)]:List R6))) (xw aE)) nn))))) (fun k1=>(sl Kc 29 [] ⟨[0],[],skcN2,skcM2⟩ ⟨[],[],[]⟩ (bl 4 0) (tt k1 (pp (pp (xI R6 ([(z5x l0 v28)]:List R6).length (Zz ([(z5x l0 v28)]:List R6))) (xw aE)) nn))))))))) (fun k0=>(lr 54 3 [1,1,1,1,0] 1 9 [(2,(ii 0))] (sl Kc 11 [] ⟨[],[],[some [2]],[]⟩ ⟨[],[],[]⟩ [false] (tt k0 nn)))))
 | .h2 v0 v7 v8 dM aZ cF dF aD bJ bF bT cS cT cU=>(lb (fun k0=>(lo fun aE=>(lb (fun k1=>(lb (fun k2=>(lr 54 20 [1,1,1,0,1,0,0,1,1,0,0,1,1,1,1,0,0] 1 9 [(2,(ii 8))] (sl Kc 63 [] ⟨[],[],[some [2]],[]⟩ ⟨[],[],[]⟩ (trs 8 []) (tt k2 (tt k1 (ww aE (tt k0 nn))))))) (fun k2=>(lo fun o0=>(lo fun o1=>(lo fun o2=>(sl Kc 78 [] ⟨[0],[],j1q,j1s⟩ ⟨[(0,.list (Ku l0 0 (tn aZ)).length (z4b l0 aZ))],[],[[(5,.list (Ku l0 0 (tn aZ)).length (z4b l0 aZ))],[(49,.list (Ku l0 0 (tn aZ)).length (z4b l0 aZ))]]⟩ (bl 7 3) (pp (xL (tn aZ) (Ku l0 0 (tn aZ)).length) (pp (xS (tn aZ) (fun k=>(Zz l0) (0+k)) (z4b l0 aZ)) (pp (xL (tn aZ) (Ku l0 0 (tn aZ)).length) (pp (xS (tn aZ) (fun k=>(Zz l0) (0+k)) (z4b l0 aZ)) (pp (xL (tn aZ) (Ku l0 0 (tn aZ)).length) (pp (xS (tn aZ) (fun k=>(Zz l0) (0+k)) (z4b l0 aZ)) (pp (pp (xw o2) (pp nn (pp (xG (decide ((tn aZ)≤l0.length))) (pp (xG (decide (0≤(tn aZ)))) (xG (lenR l0.length (Zz l0) 7)))))) (tt k2 (tt k1 (ww aE (tt k0 nn)))))))))))))))))) (fun k1=>(sl Kc 46 [] ⟨[0],[],skcN2,skcM2⟩ ⟨[],[],[]⟩ (bl 2 1) (tt k1 (ww aE (tt k0 nn)))))))) (fun k0=>(lo fun o0=>(lo fun o1=>(lo fun o2=>(sl Kc 45 [] ⟨[0],[],j1q,j1s⟩ ⟨[(0,.list (Ku l0 0 (tn aZ)).length (z4b l0 aZ))],[],[[(5,.list (Ku l0 0 (tn aZ)).length (z4b l0 aZ))],[(49,.list (Ku l0 0 (tn aZ)).length (z4b l0 aZ))]]⟩ (bl 6 0) (pp (xL (tn aZ) (Ku l0 0 (tn aZ)).length) (pp (xS (tn aZ) (fun k=>(Zz l0) (0+k)) (z4b l0 aZ)) (pp (xL (tn aZ) (Ku l0 0 (tn aZ)).length) (pp (xS (tn aZ) (fun k=>(Zz l0) (0+k)) (z4b l0 aZ)) (pp (xL (tn aZ) (Ku l0 0 (tn aZ)).length) (pp (xS (tn aZ) (fun k=>(Zz l0) (0+k)) (z4b l0 aZ)) (pp (pp (xw o2) (pp nn (pp (xG (decide ((tn aZ)≤l0.length))) (pp (xG (decide (0≤(tn aZ)))) (xG (lenR l0.length (Zz l0) 7)))))) (tt k0 nn))))))))))))))
 | .h3 v0 v7 v8 cF aD bJ bF bT cS cT cU=>(lb (fun k0=>(lo fun aE=>(lb (fun k1=>(lb (fun k2=>(lr 54 20 [1,1,1,0,1,0,0,1,1,0,0,1,1,1,1,0,0] 1 9 [(2,(ii 8))] (sl Kc 56 [] ⟨[],[],[some [2]],[]⟩ ⟨[],[],[]⟩ (trs 3 []) (tt k2 (tt k1 (ww aE (tt k0 nn))))))) (fun k2=>(sl Kc 59 [] ⟨[],[],j1r,j1t⟩ ⟨[],[],[]⟩ (bl 3 3) (tt k2 (tt k1 (ww aE (tt k0 nn)))))))) (fun k1=>(sl Kc 46 [] ⟨[0],[],j1q,j1s⟩ ⟨[],[],[]⟩ (bl 2 1) (tt k1 (ww aE (tt k0 nn)))))))) (fun k0=>(sl Kc 26 [] ⟨[],[],j1r,j1t⟩ ⟨[],[],[]⟩ (bl 2 0) (tt k0 nn))))
theorem x7w (l0:List Pa):Xu prog (Zy prog 20) (skcC l0) (Za prog 20 [(.dat l0.length (Zz l0))] true []) (y3b l0):=(lb (fun k0=>(lr 54 20 [1,0,1,0,0] 1 9 [(2,(ii 4))] (sl Kc 16 [] ⟨[],[],[some [2]],[]⟩ ⟨[],[],[]⟩ [true] (tt k0 nn)))) (fun k0=>(sl Kc 22 [] ⟨[],[],skcN0,skcM0⟩ ⟨[],[],[]⟩ [false] (tt k0 nn))))
theorem v9t (l0:List Pa) (n:Nat) (vs:List AVal) (h:Yx (Vw l0) n (y3b l0)=.ret vs):Ur prog (Zy prog 20) (Za prog 20 [(.dat l0.length (Zz l0))] true []) vs:=by have:=Zc (w6t l0) n _ (x7w l0);rwa [h] at this
def bxP (x:Pa):R6:=⟨x.a,x.b,x.c,x.d,x.e,x.f⟩
def insR (r x:R6):Bool:=j4t r.a r.b r.c r.d r.e r.f x.a x.b x.c x.d x.e x.f
def u2m (x y:R6):Bool:=j4b x.a x.b x.c x.d x.e x.f y.a y.b y.c y.d y.e y.f
def w2l (l:List Pa) (i:Nat):Bool:=Zr [bxP (rd l i)] != 0||((rd l i).s.any (fun r=> !insR r (bxP (rd l i)))||(l.take i).any fun y=>u2m (bxP (rd l i)) (bxP y))
def skG (l:List Pa):Nat→Nat→Int
 | 0,_=>0
 | k+1,i=>bif w2l l i then 8 else skG l k (i+1)
def skE :List Pa→Int
 | []=>0
 | x::r=>bif Zr x.s != 0 then Zr x.s else skE r
def z2h (l:List Pa):Int:=bif decide (50<l.length) then 4 else bif skE l != 0 then skE l else skG l l.length 0
theorem w8f {l:List Pa} {i:Nat} (h:i≤l.length):Ku l 0 i=l.take i:=(v5l l 0 i).symm.trans (by rw [u2y l (by omega)];rfl)
def smP (l:List Pa):Bool:=decide (l.length≤1000)&&l.all fun x=>decide (x.s.length≤2000000)
def Qp (l:List Pa):Bool:=smP l
theorem z4k {l:List Pa} (h:smP l=true):l.length≤1000:=Aw (BD.1 h).1
theorem v2e {l:List Pa} (h:smP l=true) {i:Nat} (hi:i<l.length):(rd l i).s.length ≤2000000:=by rw [Yo hi];exact Aw (At.1 (BD.1 h).2 _ (A0 hi))
section
variable (l:List Pa) (hl:l.length≤1000)
include hl
theorem u6h (i:Nat) (hi:i<l.length) (x:R6) (S:List R6) (V:List Pa) (hV:V.length≤1000): ∀(k j:Nat),j+k=V.length→
  ∃n,∀N,Yx (Vw l) (N+n) (.to (.h3 V (V.length:Int) (j:Int) (i:Int) x.a x.b x.c x.d x.e x.f S))=bif (V.drop j).any (fun y=>u2m x (bxP y)) then .ret [.int .i64 8] else Yx (Vw l) N (.to (.h1 ((i+1:Nat):Int)))
 | 0,j,h=>by
  refine ⟨1,fun N=> ?_⟩
  grind [Zw,Vw,Zk]
 | k+1,j,h=>by
  have hj:j<V.length:=by omega
  obtain ⟨n,hn⟩:=u6h i hi x S V hV k (j+1) (by omega);refine ⟨n+1,fun N=> ?_⟩;rw [←AC,Zw,Yq hj,BI];have e:Vw l (.h3 V (V.length:Int) (j:Int) (i:Int) x.a x.b x.c x.d x.e x.f S)=bif u2m x (bxP (rd V j)) then .ret [.int .i64 8] else .to (.h3 V (V.length:Int) ((j+1:Nat):Int) (i:Int) x.a x.b x.c x.d x.e x.f S):=by
   grind [Vw,u2m,bxP,Zk]
  grind [Zp]
theorem u6i (i:Nat) (hi:i<l.length) (x:R6) (S:List R6) (hS:S.length≤2000000): ∀(k j:Nat),j+k=S.length→
  ∃n,∀N,Yx (Vw l) (N+n) (.to (.h2 S (S.length:Int) (j:Int) S (i:Int) (i:Int) S x.a x.b x.c x.d x.e x.f S))=bif (S.drop j).any (fun r=> !insR r x)||(l.take i).any (fun y=>u2m x (bxP y)) then .ret [.int .i64 8] else Yx (Vw l) N (.to (.h1 ((i+1:Nat):Int)))
 | 0,j,h=>by
  have e0:(l.take i).length =i:=by grind
  obtain ⟨n,hn⟩:=u6h l hl i hi x S (l.take i) (by omega) i 0 (by omega);refine ⟨n+1,fun N=> ?_⟩;rw [←AC,Zw,As (by omega)];have hn:=hn N;rw [e0,AT] at hn;simp (disch:=omega) only [Vw,Yf,Xo,Yb,Zj,w8f (show i≤l.length by omega),Ae,Ac,List.any_nil,Bool.false_or];exact hn
 | k+1,j,h=>by
  have hj:j<S.length:=by omega
  obtain ⟨n,hn⟩:=u6i i hi x S hS k (j+1) (by omega);refine ⟨n+1,fun N=> ?_⟩;rw [←AC,Zw,Yq hj,BI];have e:Vw l (.h2 S (S.length:Int) (j:Int) S (i:Int) (i:Int) S x.a x.b x.c x.d x.e x.f S)=bif !insR (rd S j) x then .ret [.int .i64 8] else .to (.h2 S (S.length:Int) ((j+1:Nat):Int) S (i:Int) (i:Int) S x.a x.b x.c x.d x.e x.f S):=by
   grind [Vw,insR,Zk]
  grind [Zp]
theorem u6j (hs:smP l=true): ∀(k i:Nat),i+k=l.length→ ∃n,Yx (Vw l) n (.to (.h1 (i:Int)))=.ret [.int .i64 (skG l k i)]
 | 0,i,h=>by refine ⟨1,?_⟩;rw [Zw];simp (disch:=omega) only [Vw,Yf,Ac,Zp];rfl
 | k+1,i,h=>by
  have hi:i<l.length:=by omega
  obtain ⟨m,hm⟩:=u6j hs k (i+1) (by omega);obtain ⟨n,hn⟩:=u6i l hl i hi (bxP (rd l i)) (rd l i).s (v2e hs hi) (rd l i).s.length 0 (Af _);refine ⟨m+n+1,?_⟩;have e:Vw l (.h1 (i:Int))=bif Zr [bxP (rd l i)] != 0 then .ret [.int .i64 8] else .to (.h2 (rd l i).s ((rd l i).s.length :Int) ((0:Nat):Int) (rd l i).s (i:Int) (i:Int) (rd l i).s (bxP (rd l i)).a (bxP (rd l i)).b (bxP (rd l i)).c (bxP (rd l i)).d (bxP (rd l i)).e (bxP (rd l i)).f (rd l i).s):=by simp_all [Vw,bxP,Zd,Vg]
  rw [Zw,e];show _=Xw.ret [.int .i64 (bif w2l l i then 8 else skG l k (i+1))];unfold w2l;rcases Yk (Zr [bxP (rd l i)] != 0) with q | q;all_goals grind [Zp]
theorem u6k (hs:smP l=true): ∀(k i:Nat),i+k=l.length→ ∃n,Yx (Vw l) n (.to (.h0 (i:Int)))=.ret [.int .i64 (bif skE (l.drop i) != 0 then skE (l.drop i) else skG l l.length 0)]
 | 0,i,h=>by obtain ⟨m,hm⟩:=u6j l hl hs l.length 0 (Af _);refine ⟨m+1,?_⟩;rw [Zw,As (by omega)];simp (disch:=omega) only [Vw,Yf,Ac];exact hm
 | k+1,i,h=>by
  have hi:i<l.length:=by omega
  obtain ⟨m,hm⟩:=u6k hs k (i+1) (by omega);refine ⟨m+1,?_⟩;have e:Vw l (.h0 (i:Int))=bif Zr (rd l i).s != 0 then .ret [.int .i64 (Zr (rd l i).s)] else .to (.h0 ((i+1:Nat):Int)):=by
   grind [Vw,Zd,Vg,Zk]
  rw [Zw,e,Yq hi];unfold skE;rcases Yk (Zr (rd l i).s != 0) with q | q;all_goals grind [Zp]
end
theorem j1p (l:List Pa) (h:Qp l=true): ∃n,Yx (Vw l) n (y3b l)=.ret [.int .i64 (z2h l)]:=by
 have hl:=z4k h;unfold y3b z2h;by_cases g:50<l.length
 ·exact ⟨0,by rw [Xy (by omega),An g];rfl⟩
 ·obtain ⟨n,hn⟩:=u6k l hl h l.length 0 (Af _)
  grind
def fSkc :List AVal→Option (AVal×Bool)
 | [a0]=>match asL Pa a0 with
  | some (L0,g0,n0)=>some (.int .i64 (z2h L0),isT Pa n0 g0&&(Qp L0))
  | _=>none
 | _=>none
theorem j5p {S:Specs} (hS:Zu prog S):Zu prog (S.with v5a fSkc):=by
 refine Qi hS (by kernel_rfl) fun args v h=> ?_;unfold fSkc at h;split at h
 ·rename_i a0;split at h
  ·rename_i L0 g0 n0 e0;simp only [Ab,Aa,Ad] at h;obtain ⟨rfl,ho0,hw⟩:=h;obtain ⟨N,hN⟩:=j1p L0 hw;exact ⟨_,_,(.cons (Yi e0 ho0) .nil),rfl,v9t L0 N _ hN,3,rfl⟩
  ·cases h
 ·cases h
def Vc :Specs:=(Vb2.with v5a fSkc)
theorem Wc :Zu prog Vc:=(j5p Vb2_ok)
inductive sknS where
 | h0 (v16:Int) (bY:List R7)
 | h1 (v5:List Int) (v10:Int) (bO:Int) (cE:Int) (aD:Int) (aA:List R7) (aM:Int) (aS:Int)
 | h2 (cK:Nat) (v6:Int) (v7:Int) (bO:Int) (aA:List R7) (aM:Int) (aS:Int) (aY:List Int)
 | h3 (v9:Int) (v55:List R4) (v56:Int) (v57:Int) (bV:Nat) (cL:Int) (cM:Int) (cI:Int) (aA:List R7) (aM:Int) (aS:Int) (aY:List Int)
abbrev y9c (aA:List R7) (aM:Int) (aS:Int) (v9:Int) (v55:List R4) (v57:Int):=(aA++[(R7.mk (wrap IntKind.u8 aM) (z2v aS v9 (rd v55 (tn v57)).a (rd v55 (tn v57)).b).a (z2v aS v9 (rd v55 (tn v57)).a (rd v55 (tn v57)).b).b (z2v aS v9 (rd v55 (tn v57)).a (rd v55 (tn v57)).b).c (z2v aS v9 (rd v55 (tn v57)).c (rd v55 (tn v57)).d).a (z2v aS v9 (rd v55 (tn v57)).c (rd v55 (tn v57)).d).b (z2v aS v9 (rd v55 (tn v57)).c (rd v55 (tn v57)).d).c)])
abbrev y9b (v5:List Int) (aD:Int) (l0:List Pa) (x1:Int) (v10:Int):=(v5++[(y1b aD (rd (rd l0 (tn x1)).s (tn v10)).a (rd (rd l0 (tn x1)).s (tn v10)).b (rd (rd l0 (tn x1)).s (tn v10)).c),(y1b aD (rd (rd l0 (tn x1)).s (tn v10)).d (rd (rd l0 (tn x1)).s (tn v10)).e (rd (rd l0 (tn x1)).s (tn v10)).f)])
def v2l (l0:List Pa) (x1:Int):AFr:=⟨⟨39,0,true⟩,(Vj prog 16 [1,1,1,1,1,0] 6),(Zb prog 16 [1,1,1,1,1,0] 1),none,(Zy prog 16),Yg [(34,(.dat (rd l0 (tn x1)).s.length (Zz (rd l0 (tn x1)).s))),(35,(.fn 46 [(.ptr 3 0)]))]⟩
abbrev y9a (v5:List Int):=(Wn (Yd v5.length (cOf (Zz (Xa (Yd v5.length (cOf (Zz v5))))))))
def y5l (l0:List Pa) (x1:Int):AVal:=(.dat (rd l0 (tn x1)).s.length (Zz (rd l0 (tn x1)).s))
def w3n (l0:List Pa):ABlk:=⟨[(.dat (Zo (cvT l0)).length (Zz (Zo (cvT l0))))],33,none⟩
abbrev u6g (v5:List Int) (aD:Int) (l0:List Pa) (x1:Int) (v10:Int):=(Yy (Zz v5) 0 v5.length 1 [(ii (y1b aD (rd (rd l0 (tn x1)).s (tn v10)).a (rd (rd l0 (tn x1)).s (tn v10)).b (rd (rd l0 (tn x1)).s (tn v10)).c)),(ii (y1b aD (rd (rd l0 (tn x1)).s (tn v10)).d (rd (rd l0 (tn x1)).s (tn v10)).e (rd (rd l0 (tn x1)).s (tn v10)).f))])
abbrev Ue (aY:List Int) (v7:Int):=(rd aY (0+(tn v7)))
abbrev z4a (l0:List Pa):=(cvT (Zo (cvT l0)))
abbrev y8z (aS:Int) (v9:Int) (v55:List R4) (v57:Int):=(z2v aS v9 (rd v55 (tn v57)).a (rd v55 (tn v57)).b)
abbrev z9z (aS:Int) (v9:Int) (v55:List R4) (v57:Int):=(z2v aS v9 (rd v55 (tn v57)).c (rd v55 (tn v57)).d)
abbrev Qr (l0:List Pa) (x1:Int):=(cvT (rd l0 (tn x1)).s)
def sknC (l0:List Pa) (x1:Int):sknS→Cfg
 | .h0 v16 bY=>⟨⟨87,0,true⟩,none,(Zb prog 45 [1,1,0,1,0,0] 0),none,(Zy prog 45),⟨Yg [(2,(.ptr 0 0)),(3,(.ptr 1 0)),(4,(.ptr 3 0)),(5,(.ptr 4 0)),(6,(.ptr 5 0)),(16,(ii v16))],Wt [⟨[(y5l l0 x1)],33,none⟩,⟨[(.fn 46 [(.ptr 2 0)])],85,none⟩,(w3n l0),⟨[.nils],38,none⟩,⟨[(ii 0)],24,none⟩,⟨[(.sla 6 7 0 bY.length (.un 7))],38,none⟩,⟨Ym bY.length (Zz bY),96,some ⟨7,bY.length,(Zz bY)⟩⟩] 0,7,[],true⟩,[⟨⟨39,0,true⟩,(Vj prog 16 [1,1,1,1,1,0] 6),(Zb prog 16 [1,1,1,1,1,0] 1),none,(Zy prog 16),Yg [(34,(y5l l0 x1)),(35,(.fn 46 [(.ptr 2 0)]))]⟩],.leaf⟩
 | .h1 v5 v10 bO cE aD aA aM aS=>⟨⟨31,0,true⟩,none,(Zb prog 79 [1,1,0,1,0,0] 0),none,(Zy prog 6),⟨Yg [(2,(.ptr 0 0)),(5,(.sla 9 1 0 v5.length (.un 1))),(8,(y5l l0 x1)),(9,(ii (((rd l0 (tn x1)).s.length :Nat):Int))),(10,(ii v10))],Wt [⟨[(ii aD)],79,none⟩,⟨[(y5l l0 x1)],33,none⟩,⟨[(.fn 46 [(.ptr 3 0)])],85,none⟩,(w3n l0),⟨[.nils],38,none⟩,⟨[(ii 0)],24,none⟩,⟨[(.sla 10 7 0 aA.length (.un 7))],38,none⟩,⟨[(ii aM)],3,none⟩,⟨[(ii aS)],79,none⟩,⟨Ym v5.length (Zz v5),3,some ⟨1,v5.length,(Zz v5)⟩⟩,⟨Ym aA.length (Zz aA),96,some ⟨7,aA.length,(Zz aA)⟩⟩] 0,11,[],true⟩,[⟨⟨87,0,true⟩,(Vj prog 45 [1,1,0,1,0,0,1,1,0,0,1,1,0] 2),(Zb prog 45 [1,1,0,1,0,0,1,1,0,0,1,1,0] 1),none,(Zy prog 45),Yg [(2,(.ptr 1 0)),(3,(.ptr 2 0)),(4,(.ptr 4 0)),(5,(.ptr 5 0)),(6,(.ptr 6 0)),(7,(.ptr 7 0)),(8,(.ptr 8 0)),(16,(ii bO)),(22,(.agg [(ii cE)])),(23,(y5l l0 x1))]⟩,(v2l l0 x1)],.leaf⟩
 | .h2 cK v6 v7 bO aA aM aS aY=>⟨⟨16,0,true⟩,none,(Zb prog 152 [1,0,0] 0),none,[],⟨Yg [(0,(.yld 0)),(5,(.sla 9 1 0 cK (.un 1))),(6,(ii v6)),(7,(ii v7))],z7i [(1,⟨[(y5l l0 x1)],33,none⟩),(2,⟨[(.fn 46 [(.ptr 3 0)])],85,none⟩),(3,(w3n l0)),(4,⟨[.nils],38,none⟩),(5,⟨[(ii 0)],24,none⟩),(6,⟨[(.sla 10 7 0 aA.length (.un 7))],38,none⟩),(7,⟨[(ii aM)],3,none⟩),(8,⟨[(ii aS)],79,none⟩),(9,⟨Ym aY.length (Zz aY),3,some ⟨1,aY.length,(Zz aY)⟩⟩),(10,⟨Ym aA.length (Zz aA),96,some ⟨7,aA.length,(Zz aA)⟩⟩)],11,[],true⟩,[⟨⟨87,0,true⟩,none,(.inRangeFunc 0::(Zb prog 45 [1,1,0,1,0,0,1,1,0,0,1,1,1,0] 1)),none,(Zy prog 45),Yg [(2,(.ptr 1 0)),(3,(.ptr 2 0)),(4,(.ptr 4 0)),(5,(.ptr 5 0)),(6,(.ptr 6 0)),(16,(ii bO))]⟩,(v2l l0 x1)],(y4a [(0,⟨.ready,none,87,Yg [(2,(.ptr 1 0)),(3,(.ptr 2 0)),(4,(.ptr 4 0)),(5,(.ptr 5 0)),(6,(.ptr 6 0)),(7,(.ptr 7 0)),(8,(.ptr 8 0))],[25],(Wo prog 45 [1,1,0,1,0,0,1,1,0,0,1,1,1,0,0]),(Wo prog 45 [1,1,0,1,0,0,1,1,0,0,1,1,1,0,1])⟩)])⟩
 | .h3 v9 v55 v56 v57 bV cL cM cI aA aM aS aY=>⟨⟨87,0,true⟩,none,(Zb prog 45 [1,1,0,1,0,0,1,1,0,0,1,1,1,0,1,0,1,1,1,1,1,1,0,0] 0),(some 0),[],⟨Yg [(6,(.ptr 6 0)),(7,(.ptr 7 0)),(8,(.ptr 8 0)),(9,(ii v9)),(55,(.dat v55.length (Zz v55))),(56,(ii v56)),(57,(ii v57))],z7i [(1,⟨[(y5l l0 x1)],33,none⟩),(2,⟨[(.fn 46 [(.ptr 3 0)])],85,none⟩),(3,(w3n l0)),(4,⟨[.nils],38,none⟩),(5,⟨[(ii 0)],24,none⟩),(6,⟨[(.sla 10 7 0 aA.length (.un 7))],38,none⟩),(7,⟨[(ii aM)],3,none⟩),(8,⟨[(ii aS)],79,none⟩),(9,⟨Ym aY.length (Zz aY),3,some ⟨1,aY.length,(Zz aY)⟩⟩),(10,⟨Ym aA.length (Zz aA),96,some ⟨7,aA.length,(Zz aA)⟩⟩)],11,[],true⟩,[⟨⟨16,0,true⟩,(Vj prog 152 [1,0,0,1,1,0,0,1,0] 2),(Zb prog 152 [1,0,0,1,1,0,0,1,0] 1),none,[],Yg [(0,(.yld 0)),(5,(.sla 9 1 0 bV (.un 1))),(6,(ii cL)),(7,(ii cM)),(11,(.yld 0)),(12,(ii v9))]⟩,⟨⟨87,0,true⟩,none,(.inRangeFunc 0::(Zb prog 45 [1,1,0,1,0,0,1,1,0,0,1,1,1,0] 1)),none,(Zy prog 45),Yg [(2,(.ptr 1 0)),(3,(.ptr 2 0)),(4,(.ptr 4 0)),(5,(.ptr 5 0)),(6,(.ptr 6 0)),(16,(ii cI))]⟩,(v2l l0 x1)],(y4a [(0,⟨.busy,none,87,Yg [(2,(.ptr 1 0)),(3,(.ptr 2 0)),(4,(.ptr 4 0)),(5,(.ptr 5 0)),(6,(.ptr 6 0)),(7,(.ptr 7 0)),(8,(.ptr 8 0))],[25],(Wo prog 45 [1,1,0,1,0,0,1,1,0,0,1,1,1,0,0]),(Wo prog 45 [1,1,0,1,0,0,1,1,0,0,1,1,1,0,1])⟩)])⟩
def sknN0 :List (Option (List Nat)):=[some [2,3,4,5,6,16],some [34,35]]
def sknM0 :List (Option (List Nat)):=[]
def sknN1 :List (Option (List Nat)):=[some [2,5,8,9,10],some [2,3,4,5,6,7,8,16,22,23],some [34,35]]
def sknM1 :List (Option (List Nat)):=[]
def sknN2 :List (Option (List Nat)):=[some [0,5,6,7],some [2,3,4,5,6,16],some [34,35]]
def sknM2 :List (Option (List Nat)):=[some [2,3,4,5,6,7,8],none,none,none,none,none,none,none,none,none,none]
def j1n :List (Option (List Nat)):=[some [6,7,8,9,55,56,57],some [0,5,6,7,11,12],some [2,3,4,5,6,16],some [34,35]]
def j1o :List (Option (List Nat)):=[some [2,3,4,5,6,7,8],none,none,none,none,none,none,none,none,none,none]
def Wp (l0:List Pa) (x1:Int):sknS→Xw sknS
 | .h0 v16 bY=>(bif (decide (v16<6)) then (.to (.h1 ([]:List Int) 0 v16 (wrap .i64 (Int.tdiv v16 2)) (wrap .i64 (Int.tdiv v16 2)) bY v16 (wrap .i64 (Int.tdiv v16 2)))) else (bif (decide ((bY.length:Int)>3000)) then (.ret [.nils,(.int .i64 4)]) else (.ret [(.dat bY.length (Zz bY)),(.int .i64 0)])))
 | .h1 v5 v10 bO cE aD aA aM aS=>(bif (decide (v10<(((rd l0 x1.toNat).s.length :Nat):Int))) then (bif ((decide (0≤v10∧v10<(((rd l0 x1.toNat).s.length :Nat):Int)))&&true) then (bif (Ux aD (rd (rd l0 x1.toNat).s v10.toNat).a (rd (rd l0 x1.toNat).s v10.toNat).b (rd (rd l0 x1.toNat).s v10.toNat).c) then (bif (Ux aD (rd (rd l0 x1.toNat).s v10.toNat).d (rd (rd l0 x1.toNat).s v10.toNat).e (rd (rd l0 x1.toNat).s v10.toNat).f) then (bif (Nat.beq 1 1&&((decide (0+v5.length=v5.length))&&decide ((v5.length+2+1)*(8+1)≤Kj))) then (.to (.h1 (v5++[(y1b aD (rd (rd l0 x1.toNat).s v10.toNat).a (rd (rd l0 x1.toNat).s v10.toNat).b (rd (rd l0 x1.toNat).s v10.toNat).c),(y1b aD (rd (rd l0 x1.toNat).s v10.toNat).d (rd (rd l0 x1.toNat).s v10.toNat).e (rd (rd l0 x1.toNat).s v10.toNat).f)]) (wrap .i64 (v10+1)) bO cE aD aA aM aS)) else .stuck) else .stuck) else .stuck) else .stuck) else (bif (decide (v5.length<4611686018427387904)) then (bif (decide (v5.length=v5.length)) then (.to (.h2 (v7q (Yd v5.length (cOf (Zz (Xa (Yd v5.length (cOf (Zz v5)))))))) (((v7q (Yd v5.length (cOf (Zz (Xa (Yd v5.length (cOf (Zz v5)))))))):Nat):Int) 0 bO aA aM aS (Wn (Yd v5.length (cOf (Zz (Xa (Yd v5.length (cOf (Zz v5)))))))))) else .stuck) else .stuck))
 | .h2 cK v6 v7 bO aA aM aS aY=>(bif (decide (v7<v6)) then (bif ((decide (0≤v7∧v7<((cK:Nat):Int)))&&true) then (bif (decide ((0+v7.toNat)<aY.length)) then (bif ((Int.tmod aM 2) == 1) then (bif (Xi aS (cvT (rd l0 x1.toNat).s) (rd aY (0+v7.toNat))) then (bif ((Xr aS (cvT (rd l0 x1.toNat).s) (rd aY (0+v7.toNat))) == 0) then (bif (Xi aS (cvT (Zo (cvT l0))) (wrap .i64 ((rd aY (0+v7.toNat)) - 1))) then (bif ((Xr aS (cvT (Zo (cvT l0))) (wrap .i64 ((rd aY (0+v7.toNat)) - 1))) != 0) then (.ret [.nils,(.int .i64 (Xr aS (cvT (Zo (cvT l0))) (wrap .i64 ((rd aY (0+v7.toNat)) - 1))))]) else (bif (Jh .d (cvT (Zg aS (cvT (rd l0 x1.toNat).s) (rd aY (0+v7.toNat)))) (cvT (Zg aS (cvT (Zo (cvT l0))) (wrap .i64 ((rd aY (0+v7.toNat)) - 1))))) then (bif ((Kq .d (cvT (Zg aS (cvT (rd l0 x1.toNat).s) (rd aY (0+v7.toNat)))) (cvT (Zg aS (cvT (Zo (cvT l0))) (wrap .i64 ((rd aY (0+v7.toNat)) - 1))))) != 0) then (.ret [.nils,(.int .i64 (Kq .d (cvT (Zg aS (cvT (rd l0 x1.toNat).s) (rd aY (0+v7.toNat)))) (cvT (Zg aS (cvT (Zo (cvT l0))) (wrap .i64 ((rd aY (0+v7.toNat)) - 1))))))]) else (.to (.h3 (rd aY (0+v7.toNat)) (Wy .d (cvT (Zg aS (cvT (rd l0 x1.toNat).s) (rd aY (0+v7.toNat)))) (cvT (Zg aS (cvT (Zo (cvT l0))) (wrap .i64 ((rd aY (0+v7.toNat)) - 1))))) (((Wy .d (cvT (Zg aS (cvT (rd l0 x1.toNat).s) (rd aY (0+v7.toNat)))) (cvT (Zg aS (cvT (Zo (cvT l0))) (wrap .i64 ((rd aY (0+v7.toNat)) - 1))))).length :Nat):Int) 0 cK v6 v7 bO aA aM aS aY))) else .stuck)) else .stuck) else (.ret [.nils,(.int .i64 (Xr aS (cvT (rd l0 x1.toNat).s) (rd aY (0+v7.toNat))))])) else .stuck) else (bif (Xi aS (cvT (rd l0 x1.toNat).s) (wrap .i64 ((rd aY (0+v7.toNat)) - 1))) then (bif ((Xr aS (cvT (rd l0 x1.toNat).s) (wrap .i64 ((rd aY (0+v7.toNat)) - 1))) == 0) then (bif (Xi aS (cvT (Zo (cvT l0))) (rd aY (0+v7.toNat))) then (bif ((Xr aS (cvT (Zo (cvT l0))) (rd aY (0+v7.toNat))) != 0) then (.ret [.nils,(.int .i64 (Xr aS (cvT (Zo (cvT l0))) (rd aY (0+v7.toNat))))]) else (bif (Jh .d (cvT (Zg aS (cvT (rd l0 x1.toNat).s) (wrap .i64 ((rd aY (0+v7.toNat)) - 1)))) (cvT (Zg aS (cvT (Zo (cvT l0))) (rd aY (0+v7.toNat))))) then (bif ((Kq .d (cvT (Zg aS (cvT (rd l0 x1.toNat).s) (wrap .i64 ((rd aY (0+v7.toNat)) - 1)))) (cvT (Zg aS (cvT (Zo (cvT l0))) (rd aY (0+v7.toNat))))) != 0) then (.ret [.nils,(.int .i64 (Kq .d (cvT (Zg aS (cvT (rd l0 x1.toNat).s) (wrap .i64 ((rd aY (0+v7.toNat)) - 1)))) (cvT (Zg aS (cvT (Zo (cvT l0))) (rd aY (0+v7.toNat))))))]) else (.to (.h3 (rd aY (0+v7.toNat)) (Wy .d (cvT (Zg aS (cvT (rd l0 x1.toNat).s) (wrap .i64 ((rd aY (0+v7.toNat)) - 1)))) (cvT (Zg aS (cvT (Zo (cvT l0))) (rd aY (0+v7.toNat))))) (((Wy .d (cvT (Zg aS (cvT (rd l0 x1.toNat).s) (wrap .i64 ((rd aY (0+v7.toNat)) - 1)))) (cvT (Zg aS (cvT (Zo (cvT l0))) (rd aY (0+v7.toNat))))).length :Nat):Int) 0 cK v6 v7 bO aA aM aS aY))) else .stuck)) else .stuck) else (.ret [.nils,(.int .i64 (Xr aS (cvT (rd l0 x1.toNat).s) (wrap .i64 ((rd aY (0+v7.toNat)) - 1))))])) else .stuck)) else .stuck) else .stuck) else (.to (.h0 (wrap .i64 (bO+1)) aA)))
 | .h3 v9 v55 v56 v57 bV cL cM cI aA aM aS aY=>(bif (decide (v57<v56)) then (bif ((decide (0≤v57∧v57<(v55.length:Int)))&&true) then (bif (Kg aS v9 (rd v55 v57.toNat).a (rd v55 v57.toNat).b) then (bif (Kg aS v9 (rd v55 v57.toNat).c (rd v55 v57.toNat).d) then (bif (Nat.beq 7 7&&((decide (0+aA.length=aA.length))&&decide ((aA.length+1+1)*(56+1)≤Kj))) then (.to (.h3 v9 v55 v56 (wrap .i64 (v57+1)) bV cL cM cI (aA++[(R7.mk (wrap IntKind.u8 aM) (z2v aS v9 (rd v55 v57.toNat).a (rd v55 v57.toNat).b).a (z2v aS v9 (rd v55 v57.toNat).a (rd v55 v57.toNat).b).b (z2v aS v9 (rd v55 v57.toNat).a (rd v55 v57.toNat).b).c (z2v aS v9 (rd v55 v57.toNat).c (rd v55 v57.toNat).d).a (z2v aS v9 (rd v55 v57.toNat).c (rd v55 v57.toNat).d).b (z2v aS v9 (rd v55 v57.toNat).c (rd v55 v57.toNat).d).c)]) aM aS aY)) else .stuck) else .stuck) else .stuck) else .stuck) else (.to (.h2 bV cL (wrap .i64 (cM+1)) cI aA aM aS aY)))
def y3a (l0:List Pa) (x1:Int):Xw sknS:=(bif (Qp (cvT l0)) then (bif ((z2h (cvT l0)) != 0) then (.ret [.nils,(.int .i64 (z2h (cvT l0)))]) else (bif (decide (x1<0)) then (.ret [.nils,(.int .i64 2)]) else (bif (decide (x1≥(l0.length:Int))) then (.ret [.nils,(.int .i64 2)]) else (bif (Qv (cvT l0)) then (bif ((Qu (cvT l0)) != 0) then (.ret [.nils,(.int .i64 (Qu (cvT l0)))]) else (bif ((decide (0≤x1∧x1<(l0.length:Int)))&&true) then (.to (.h0 0 ([]:List R7))) else .stuck)) else .stuck)))) else .stuck)
theorem w6s (l0:List Pa) (x1:Int): ∀s,Xu prog (Zy prog 16) (sknC l0 x1) (sknC l0 x1 s) (Wp l0 x1 s)
 | .h0 v16 bY=>(lb (fun k0=>(sl Wc 46 [(3,1,Zz ([]:List Int))] ⟨[9,0,1,2,3,4,5,7,8,10,6],[],sknN1,sknM1⟩ ⟨[(5,.grow 9 1)],[],[]⟩ [true] (pp (fl ([]:List Int) (fl bY nn)) (tt k0 nn)))) (fun k0=>(lb (fun k1=>(lr 39 3 [1,1,1,1,0] 1 16 [(4,.nils),(5,(ii 4))] (sl Wc 26 [] ⟨[],[],[some [4,5]],[]⟩ ⟨[],[],[]⟩ (bl 2 2) (tt k1 (tt k0 nn))))) (fun k1=>(lr 39 3 [1,1,1,1,0] 1 16 [(4,(.dat bY.length (Zz bY))),(5,(ii 0))] (sl Wc 28 [] ⟨[],[6],[some [4,5]],[]⟩ ⟨[(4,.frz bY.length bY.length (Zz bY) (Zz bY))],[],[]⟩ (bl 2 0) (pp (xZ (z7j 7 7 0 bY.length bY.length (Zz bY)) bY.length (Zz bY)) (pp (xL bY.length bY.length) (pp (xS bY.length (Zz bY) (Zz bY)) (pp (fl bY nn) (tt k1 (tt k0 nn))))))))))))
 | .h1 v5 v10 bO cE aD aA aM aS=>(lb (fun k0=>(lo fun o0=>(lo fun o1=>(lo fun o2=>(lo fun o3=>(sl Wc 23 [] ⟨[0,1,2,3,4,5,6,7,8,13,10],[],sknN1,sknM1⟩ ⟨[(5,.len (y9b v5 aD l0 x1 v10).length)],(kpB 9 [.rowed 1 (y9b v5 aD l0 x1 v10).length (Zz (y9b v5 aD l0 x1 v10)),.keep]),[]⟩ [true] (pp (xL (v5.length+2) (y9b v5 aD l0 x1 v10).length) (pp (xL (v5.length+2) (y9b v5 aD l0 x1 v10).length) (pp (xS (v5.length+2) (u6g v5 aD l0 x1 v10) (Zz (y9b v5 aD l0 x1 v10))) (pp (pp (xF (u6g v5 aD l0 x1 v10)) (fl aA nn)) (ww o3 (ww o2 (ww o1 (ww o0 (tt k0 nn))))))))))))))) (fun k0=>(lo fun o0=>(lo fun o1=>(sl Wc 42 [] ⟨[12,1,2,3,4,5,6,7,8,9,10],[],sknN2,sknM2⟩ ⟨[],(kpB 9 [.rowed 1 (y9a v5).length (Zz (y9a v5)),.keep]),[]⟩ [false] (pp (xL v5.length (y9a v5).length (by first | exact z2p _ _ | exact Un rfl)) (pp (xS v5.length (Zz (y9a v5)) (Zz (y9a v5))) (pp (fl (y9a v5) (fl aA nn)) (pp (pp (xG (Nat.beq 1 1)) (pp (xG (Nat.beq 1 1)) (pp (xG (Nat.beq 0 0)) (pp (xG (decide (v5.length=v5.length))) (pp (xG (isI (Zz (Xa (Yd v5.length (cOf (Zz v5))))))) (xG (decide (v5.length<4611686018427387904)))))))) (pp (pp (xG (Nat.beq 1 1)) (pp (xG (Nat.beq 1 1)) (pp (xG (Nat.beq 0 0)) (pp (xG (decide (v5.length=v5.length))) (pp (xG (isI (Zz v5))) (xG (decide (v5.length<4611686018427387904)))))))) (tt k0 nn)))))))))))
 | .h2 cK v6 v7 bO aA aM aS aY=>(lb (fun k0=>(lo fun aE=>(lo fun bE=>(lb (fun k1=>(lo fun bU=>(lb (fun k2=>(lo fun bZ=>(lb (fun k3=>(lr 39 3 [1,1,1,1,0] 1 16 [(4,.nils),(5,(ii (Xr aS (z4a l0) (wr ((Ue aY v7) - 1)))))] (sl Wc 136 [] ⟨[],[],[some [4,5]],[]⟩ ⟨[],[],[]⟩ (trs 6 []) (tt k3 (tt k3 (pp (pp (xI R6 (Zo (cvT l0)).length (Zz (Zo (cvT l0)))) (xw bZ)) (tt k2 (pp (pp (xI R6 (rd l0 (tn x1)).s.length (Zz (rd l0 (tn x1)).s)) (xw bU)) (tt k1 (ww bE (ww aE (tt k0 nn)))))))))))) (fun k3=>(lo fun cD=>(lb (fun k4=>(lr 39 3 [1,1,1,1,0] 1 16 [(4,.nils),(5,(ii (Kq .d (cvT (Zg aS (Qr l0 x1) (Ue aY v7))) (cvT (Zg aS (z4a l0) (wr ((Ue aY v7) - 1)))))))] (sl Wc 141 [] ⟨[],[],[some [4,5]],[]⟩ ⟨[],[],[]⟩ (trs 3 (bl 3 6)) (tt k4 (pp (pp (xI R4 (Zg aS (Qr l0 x1) (Ue aY v7)).length (Zz (Zg aS (Qr l0 x1) (Ue aY v7)))) (pp (xI R4 (Zg aS (z4a l0) (wr ((Ue aY v7) - 1))).length (Zz (Zg aS (z4a l0) (wr ((Ue aY v7) - 1))))) (xw cD))) (tt k3 (pp (pp (xI R6 (Zo (cvT l0)).length (Zz (Zo (cvT l0)))) (xw bZ)) (tt k2 (pp (pp (xI R6 (rd l0 (tn x1)).s.length (Zz (rd l0 (tn x1)).s)) (xw bU)) (tt k1 (ww bE (ww aE (tt k0 nn))))))))))))) (fun k4=>(sl Wc 132 [] ⟨(List.range 11),[],j1n,j1o⟩ ⟨[],[],[]⟩ (trs 3 (bl 2 0)) (pp (fl aY (fl aA nn)) (tt k4 (pp (pp (xI R4 (Zg aS (Qr l0 x1) (Ue aY v7)).length (Zz (Zg aS (Qr l0 x1) (Ue aY v7)))) (pp (xI R4 (Zg aS (z4a l0) (wr ((Ue aY v7) - 1))).length (Zz (Zg aS (z4a l0) (wr ((Ue aY v7) - 1))))) (xw cD))) (tt k3 (pp (pp (xI R6 (Zo (cvT l0)).length (Zz (Zo (cvT l0)))) (xw bZ)) (tt k2 (pp (pp (xI R6 (rd l0 (tn x1)).s.length (Zz (rd l0 (tn x1)).s)) (xw bU)) (tt k1 (ww bE (ww aE (tt k0 nn))))))))))))))))))) (fun k2=>(lr 39 3 [1,1,1,1,0] 1 16 [(4,.nils),(5,(ii (Xr aS (Qr l0 x1) (Ue aY v7))))] (sl Wc 93 [] ⟨[],[],[some [4,5]],[]⟩ ⟨[],[],[]⟩ (bl 5 27) (yt (v0b k2) (tt k2 (pp (pp (xI R6 (rd l0 (tn x1)).s.length (Zz (rd l0 (tn x1)).s)) (xw bU)) (tt k1 (ww bE (ww aE (tt k0 nn))))))))))))) (fun k1=>(lo fun bU=>(lb (fun k2=>(lo fun bZ=>(lb (fun k3=>(lr 39 3 [1,1,1,1,0] 1 16 [(4,.nils),(5,(ii (Xr aS (z4a l0) (Ue aY v7))))] (sl Wc 130 [] ⟨[],[],[some [4,5]],[]⟩ ⟨[],[],[]⟩ (bl 6 61) (tt k3 (tt k3 (pp (pp (xI R6 (Zo (cvT l0)).length (Zz (Zo (cvT l0)))) (xw bZ)) (tt k2 (pp (pp (xI R6 (rd l0 (tn x1)).s.length (Zz (rd l0 (tn x1)).s)) (xw bU)) (tt k1 (ww bE (ww aE (tt k0 nn)))))))))))) (fun k3=>(lo fun cD=>(lb (fun k4=>(lr 39 3 [1,1,1,1,0] 1 16 [(4,.nils),(5,(ii (Kq .d (cvT (Zg aS (Qr l0 x1) (wr ((Ue aY v7) - 1)))) (cvT (Zg aS (z4a l0) (Ue aY v7))))))] (sl Wc 135 [] ⟨[],[],[some [4,5]],[]⟩ ⟨[],[],[]⟩ (bl 6 53) (tt k4 (pp (pp (xI R4 (Zg aS (Qr l0 x1) (wr ((Ue aY v7) - 1))).length (Zz (Zg aS (Qr l0 x1) (wr ((Ue aY v7) - 1))))) (pp (xI R4 (Zg aS (z4a l0) (Ue aY v7)).length (Zz (Zg aS (z4a l0) (Ue aY v7)))) (xw cD))) (tt k3 (pp (pp (xI R6 (Zo (cvT l0)).length (Zz (Zo (cvT l0)))) (xw bZ)) (tt k2 (pp (pp (xI R6 (rd l0 (tn x1)).s.length (Zz (rd l0 (tn x1)).s)) (xw bU)) (tt k1 (ww bE (ww aE (tt k0 nn))))))))))))) (fun k4=>(sl Wc 126 [] ⟨(List.range 11),[],j1n,j1o⟩ ⟨[],[],[]⟩ (bl 5 5) (pp (fl aY (fl aA nn)) (tt k4 (pp (pp (xI R4 (Zg aS (Qr l0 x1) (wr ((Ue aY v7) - 1))).length (Zz (Zg aS (Qr l0 x1) (wr ((Ue aY v7) - 1))))) (pp (xI R4 (Zg aS (z4a l0) (Ue aY v7)).length (Zz (Zg aS (z4a l0) (Ue aY v7)))) (xw cD))) (tt k3 (pp (pp (xI R6 (Zo (cvT l0)).length (Zz (Zo (cvT l0)))) (xw bZ)) (tt k2 (pp (pp (xI R6 (rd l0 (tn x1)).s.length (Zz (rd l0 (tn x1)).s)) (xw bU)) (tt k1 (ww bE (ww aE (tt k0 nn))))))))))))))))))) (fun k2=>(lr 39 3 [1,1,1,1,0] 1 16 [(4,.nils),(5,(ii (Xr aS (Qr l0 x1) (wr ((Ue aY v7) - 1)))))] (sl Wc 87 [] ⟨[],[],[some [4,5]],[]⟩ ⟨[],[],[]⟩ (bl 5 25) (yt (v0b k2) (tt k2 (pp (pp (xI R6 (rd l0 (tn x1)).s.length (Zz (rd l0 (tn x1)).s)) (xw bU)) (tt k1 (ww bE (ww aE (tt k0 nn))))))))))))))))) (fun k0=>(sl Wc 16 [] ⟨[1,2,3,4,5,6,10],[],sknN0,sknM0⟩ ⟨[],[],[]⟩ [false] (pp (fl aA nn) (tt k0 nn)))))
 | .h3 v9 v55 v56 v57 bV cL cM cI aA aM aS aY=>(lb (fun k0=>(lo fun o0=>(lo fun o1=>(lo fun o2=>(lo fun o3=>(sl Wc 23 [] ⟨[0,1,2,3,4,5,6,7,8,9,13],[],j1n,j1o⟩ ⟨[],(kpB 6 [.cells [.len (y9c aA aM aS v9 v55 v57).length],.keep,.keep,.keep,.rowed 7 (y9c aA aM aS v9 v55 v57).length (Zz (y9c aA aM aS v9 v55 v57))]),[]⟩ [true] (pp (xL (aA.length+1) (y9c aA aM aS v9 v55 v57).length) (pp (xL (aA.length+1) (y9c aA aM aS v9 v55 v57).length) (pp (xS (aA.length+1) (Yy (Zz aA) 0 aA.length 7 [(.int .u8 (wrap IntKind.u8 aM)),(ii (y8z aS v9 v55 v57).a),(ii (y8z aS v9 v55 v57).b),(ii (y8z aS v9 v55 v57).c),(ii (z9z aS v9 v55 v57).a),(ii (z9z aS v9 v55 v57).b),(ii (z9z aS v9 v55 v57).c)]) (Zz (y9c aA aM aS v9 v55 v57))) (pp (fl aY (pp (xF (Yy (Zz aA) 0 aA.length 7 [(.int .u8 (wrap IntKind.u8 aM)),(ii (y8z aS v9 v55 v57).a),(ii (y8z aS v9 v55 v57).b),(ii (y8z aS v9 v55 v57).c),(ii (z9z aS v9 v55 v57).a),(ii (z9z aS v9 v55 v57).b),(ii (z9z aS v9 v55 v57).c)])) nn)) (ww o3 (ww o2 (ww o1 (ww o0 (tt k0 nn))))))))))))))) (fun k0=>(sl Wc 19 [] ⟨(List.range 11),[],sknN2,sknM2⟩ ⟨[],[],[]⟩ (bl 2 0) (pp (fl aY (fl aA nn)) (tt k0 nn)))))
theorem x7v (l0:List Pa) (x1:Int):Xu prog (Zy prog 16) (sknC l0 x1) (Za prog 16 [(.dat l0.length (Zz l0)),(.int .i64 x1)] true []) (y3a l0 x1):=(lo fun bN=>(lb (fun k0=>(lr 39 16 [1,0,1,1,0,0] 1 16 [(4,.nils),(5,(ii (z2h (cvT l0))))] (sl Wc 24 [] ⟨[],[],[some [4,5]],[]⟩ ⟨[],[],[]⟩ [true] (tt k0 (pp (pp (xr l0) (xw bN)) nn))))) (fun k0=>(lb (fun k1=>(lr 39 16 [1,1,0,1,0,0] 1 16 [(4,.nils),(5,(ii 2))] (sl Wc 37 [] ⟨[],[],[some [4,5]],[]⟩ ⟨[],[],[]⟩ [false,true,true,true,true,true] (tt k1 (tt k0 (pp (pp (xr l0) (xw bN)) nn)))))) (fun k1=>(lb (fun k2=>(lr 39 16 [1,1,0,1,0,0] 1 16 [(4,.nils),(5,(ii 2))] (sl Wc 37 [] ⟨[],[],[some [4,5]],[]⟩ ⟨[],[],[]⟩ [false,false,false,false,false,true] (tt k2 (tt k1 (tt k0 (pp (pp (xr l0) (xw bN)) nn))))))) (fun k2=>(lo fun bZ=>(lb (fun k3=>(lr 39 16 [1,1,1,1,0,1,0,0] 1 16 [(4,.nils),(5,(ii (Qu (cvT l0))))] (sl Wc 57 [] ⟨[],[],[some [4,5]],[]⟩ ⟨[],[],[]⟩ [false,false,false,false,false,false,true] (tt k3 (pp (pp (xr l0) (xw bZ)) (tt k2 (tt k1 (tt k0 (pp (pp (xr l0) (xw bN)) nn))))))))) (fun k3=>(lo fun o0=>(sl Wc 79 [(96,7,Zz ([]:List R7))] ⟨[1,2,0,3,4,5,6],[],sknN0,sknM0⟩ ⟨[],(kpB 5 [.cells [.grow 6 7],.keep]),[]⟩ [false,false,false,false,false,false,false] (pp (fl ([]:List R7) nn) (ww o0 (tt k3 (pp (pp (xr l0) (xw bZ)) (tt k2 (tt k1 (tt k0 (pp (pp (xr l0) (xw bN)) nn))))))))))))))))))))
theorem v9p (l0:List Pa) (x1:Int) (n:Nat) (vs:List AVal) (h:Yx (Wp l0 x1) n (y3a l0 x1)=.ret vs):Ur prog (Zy prog 16) (Za prog 16 [(.dat l0.length (Zz l0)),(.int .i64 x1)] true []) vs:=by have:=Zc (w6s l0 x1) n _ (x7v l0 x1);rwa [h] at this
inductive stpS where
 | h0 (v16:Int) (aA:List R7)
 | h1 (v5:List Int) (v10:Int) (bO:Int) (cE:Int) (aD:Int) (aM:List R7) (aS:Int) (aF:Int)
 | h2 (cK:Nat) (v6:Int) (v7:Int) (bO:Int) (aM:List R7) (aS:Int) (aF:Int) (aK:List Int)
 | h3 (v9:Int) (v55:List R4) (v56:Int) (v57:Int) (bV:Nat) (cL:Int) (cM:Int) (cI:Int) (aM:List R7) (aS:Int) (aF:Int) (aK:List Int)
abbrev Up (l0:List Pa) (x2:Int):=(R6.mk (rd l0 (tn x2)).a (rd l0 (tn x2)).b (rd l0 (tn x2)).c (rd l0 (tn x2)).d (rd l0 (tn x2)).e (rd l0 (tn x2)).f)
abbrev y8p (aM:List R7) (aS:Int) (aF:Int) (v9:Int) (v55:List R4) (v57:Int):=(aM++[(R7.mk (wrap IntKind.u8 aS) (z2v aF v9 (rd v55 (tn v57)).a (rd v55 (tn v57)).b).a (z2v aF v9 (rd v55 (tn v57)).a (rd v55 (tn v57)).b).b (z2v aF v9 (rd v55 (tn v57)).a (rd v55 (tn v57)).b).c (z2v aF v9 (rd v55 (tn v57)).c (rd v55 (tn v57)).d).a (z2v aF v9 (rd v55 (tn v57)).c (rd v55 (tn v57)).d).b (z2v aF v9 (rd v55 (tn v57)).c (rd v55 (tn v57)).d).c)])
abbrev y8o (v5:List Int) (aD:Int) (l0:List Pa) (x1:Int) (v10:Int):=(v5++[(y1b aD (rd (rd l0 (tn x1)).s (tn v10)).a (rd (rd l0 (tn x1)).s (tn v10)).b (rd (rd l0 (tn x1)).s (tn v10)).c),(y1b aD (rd (rd l0 (tn x1)).s (tn v10)).d (rd (rd l0 (tn x1)).s (tn v10)).e (rd (rd l0 (tn x1)).s (tn v10)).f)])
abbrev Jb (aK:List Int) (v7:Int):=(rd aK (0+(tn v7)))
def v1n (l0:List Pa) (x1:Int):AFr:=⟨⟨46,0,true⟩,(Vj prog 18 [1,1,1,0] 6),(Zb prog 18 [1,1,1,0] 1),none,(Zy prog 10),Yg [(41,(.dat (rd l0 (tn x1)).s.length (Zz (rd l0 (tn x1)).s))),(42,(.fn 50 [(.ptr 3 0),(.ptr 4 0)]))]⟩
abbrev y8n (v5:List Int):=(Wn (Yd v5.length (cOf (Zz (Xa (Yd v5.length (cOf (Zz v5))))))))
abbrev z3y (aF:Int) (l0:List Pa) (x2:Int) (aK:List Int) (v7:Int):=(Zg aF (cvT (rd l0 (tn x2)).s) (wr ((Jb aK v7) - 1)))
def y5a (l0:List Pa) (x1:Int):AVal:=(.dat (rd l0 (tn x1)).s.length (Zz (rd l0 (tn x1)).s))
abbrev z3x (aF:Int) (l0:List Pa) (x2:Int) (aK:List Int) (v7:Int):=(Zg aF (cvT (rd l0 (tn x2)).s) (Jb aK v7))
abbrev u5l (v5:List Int) (aD:Int) (l0:List Pa) (x1:Int) (v10:Int):=(Yy (Zz v5) 0 v5.length 1 [(ii (y1b aD (rd (rd l0 (tn x1)).s (tn v10)).a (rd (rd l0 (tn x1)).s (tn v10)).b (rd (rd l0 (tn x1)).s (tn v10)).c)),(ii (y1b aD (rd (rd l0 (tn x1)).s (tn v10)).d (rd (rd l0 (tn x1)).s (tn v10)).e (rd (rd l0 (tn x1)).s (tn v10)).f))])
abbrev Qo (l0:List Pa) (x1:Int):=(Zz (rd l0 (tn x1)).s)
abbrev z9w (aF:Int) (v9:Int) (v55:List R4) (v57:Int):=(z2v aF v9 (rd v55 (tn v57)).a (rd v55 (tn v57)).b)
abbrev z9v (aF:Int) (v9:Int) (v55:List R4) (v57:Int):=(z2v aF v9 (rd v55 (tn v57)).c (rd v55 (tn v57)).d)
def x7n :ABlk:=⟨[(.fn 50 [(.ptr 3 0),(.ptr 4 0)])],85,none⟩
abbrev Uu (aK:List Int) (v7:Int):=((Jb aK v7) - 1)
abbrev Qn (l0:List Pa) (x1:Int):=(cvT (rd l0 (tn x1)).s)
abbrev z1x (l0:List Pa) (x2:Int):=(Zz (rd l0 (tn x2)).s)
def x1h (l0:List Pa):ABlk:=⟨[(.dat l0.length (Zz l0))],22,none⟩
def stpC (l0:List Pa) (x1:Int) (x2:Int):stpS→Cfg
 | .h0 v16 aA=>⟨⟨87,0,true⟩,none,(Zb prog 45 [1,1,0,1,0,0] 0),none,(Zy prog 45),⟨Yg [(2,(.ptr 0 0)),(3,(.ptr 1 0)),(4,(.ptr 4 0)),(5,(.ptr 5 0)),(6,(.ptr 6 0)),(16,(ii v16))],Wt [⟨[(y5a l0 x1)],33,none⟩,⟨[(.fn 50 [(.ptr 2 0),(.ptr 3 0)])],85,none⟩,(x1h l0),⟨[(ii x2)],3,none⟩,⟨[.nils],38,none⟩,⟨[(ii 0)],24,none⟩,⟨[(.sla 7 7 0 aA.length (.un 7))],38,none⟩,⟨Ym aA.length (Zz aA),96,some ⟨7,aA.length,(Zz aA)⟩⟩] 0,8,[],true⟩,[⟨⟨46,0,true⟩,(Vj prog 18 [1,1,1,0] 6),(Zb prog 18 [1,1,1,0] 1),none,(Zy prog 10),Yg [(41,(y5a l0 x1)),(42,(.fn 50 [(.ptr 2 0),(.ptr 3 0)]))]⟩],.leaf⟩
 | .h1 v5 v10 bO cE aD aM aS aF=>⟨⟨31,0,true⟩,none,(Zb prog 79 [1,1,0,1,0,0] 0),none,(Zy prog 6),⟨Yg [(2,(.ptr 0 0)),(5,(.sla 10 1 0 v5.length (.un 1))),(8,(y5a l0 x1)),(9,(ii (((rd l0 (tn x1)).s.length :Nat):Int))),(10,(ii v10))],Wt [⟨[(ii aD)],79,none⟩,⟨[(y5a l0 x1)],33,none⟩,x7n,(x1h l0),⟨[(ii x2)],3,none⟩,⟨[.nils],38,none⟩,⟨[(ii 0)],24,none⟩,⟨[(.sla 11 7 0 aM.length (.un 7))],38,none⟩,⟨[(ii aS)],3,none⟩,⟨[(ii aF)],79,none⟩,⟨Ym v5.length (Zz v5),3,some ⟨1,v5.length,(Zz v5)⟩⟩,⟨Ym aM.length (Zz aM),96,some ⟨7,aM.length,(Zz aM)⟩⟩] 0,12,[],true⟩,[⟨⟨87,0,true⟩,(Vj prog 45 [1,1,0,1,0,0,1,1,0,0,1,1,0] 2),(Zb prog 45 [1,1,0,1,0,0,1,1,0,0,1,1,0] 1),none,(Zy prog 45),Yg [(2,(.ptr 1 0)),(3,(.ptr 2 0)),(4,(.ptr 5 0)),(5,(.ptr 6 0)),(6,(.ptr 7 0)),(7,(.ptr 8 0)),(8,(.ptr 9 0)),(16,(ii bO)),(22,(.agg [(ii cE)])),(23,(y5a l0 x1))]⟩,(v1n l0 x1)],.leaf⟩
 | .h2 cK v6 v7 bO aM aS aF aK=>⟨⟨16,0,true⟩,none,(Zb prog 152 [1,0,0] 0),none,[],⟨Yg [(0,(.yld 0)),(5,(.sla 10 1 0 cK (.un 1))),(6,(ii v6)),(7,(ii v7))],z7i [(1,⟨[(y5a l0 x1)],33,none⟩),(2,x7n),(3,(x1h l0)),(4,⟨[(ii x2)],3,none⟩),(5,⟨[.nils],38,none⟩),(6,⟨[(ii 0)],24,none⟩),(7,⟨[(.sla 11 7 0 aM.length (.un 7))],38,none⟩),(8,⟨[(ii aS)],3,none⟩),(9,⟨[(ii aF)],79,none⟩),(10,⟨Ym aK.length (Zz aK),3,some ⟨1,aK.length,(Zz aK)⟩⟩),(11,⟨Ym aM.length (Zz aM),96,some ⟨7,aM.length,(Zz aM)⟩⟩)],12,[],true⟩,[⟨⟨87,0,true⟩,none,(.inRangeFunc 0::(Zb prog 45 [1,1,0,1,0,0,1,1,0,0,1,1,1,0] 1)),none,(Zy prog 45),Yg [(2,(.ptr 1 0)),(3,(.ptr 2 0)),(4,(.ptr 5 0)),(5,(.ptr 6 0)),(6,(.ptr 7 0)),(16,(ii bO))]⟩,(v1n l0 x1)],(y4a [(0,⟨.ready,none,87,Yg [(2,(.ptr 1 0)),(3,(.ptr 2 0)),(4,(.ptr 5 0)),(5,(.ptr 6 0)),(6,(.ptr 7 0)),(7,(.ptr 8 0)),(8,(.ptr 9 0))],[25],(Wo prog 45 [1,1,0,1,0,0,1,1,0,0,1,1,1,0,0]),(Wo prog 45 [1,1,0,1,0,0,1,1,0,0,1,1,1,0,1])⟩)])⟩
 | .h3 v9 v55 v56 v57 bV cL cM cI aM aS aF aK=>⟨⟨87,0,true⟩,none,(Zb prog 45 [1,1,0,1,0,0,1,1,0,0,1,1,1,0,1,0,1,1,1,1,1,1,0,0] 0),(some 0),[],⟨Yg [(6,(.ptr 7 0)),(7,(.ptr 8 0)),(8,(.ptr 9 0)),(9,(ii v9)),(55,(.dat v55.length (Zz v55))),(56,(ii v56)),(57,(ii v57))],z7i [(1,⟨[(y5a l0 x1)],33,none⟩),(2,x7n),(3,(x1h l0)),(4,⟨[(ii x2)],3,none⟩),(5,⟨[.nils],38,none⟩),(6,⟨[(ii 0)],24,none⟩),(7,⟨[(.sla 11 7 0 aM.length (.un 7))],38,none⟩),(8,⟨[(ii aS)],3,none⟩),(9,⟨[(ii aF)],79,none⟩),(10,⟨Ym aK.length (Zz aK),3,some ⟨1,aK.length,(Zz aK)⟩⟩),(11,⟨Ym aM.length (Zz aM),96,some ⟨7,aM.length,(Zz aM)⟩⟩)],12,[],true⟩,[⟨⟨16,0,true⟩,(Vj prog 152 [1,0,0,1,1,0,0,1,0] 2),(Zb prog 152 [1,0,0,1,1,0,0,1,0] 1),none,[],Yg [(0,(.yld 0)),(5,(.sla 10 1 0 bV (.un 1))),(6,(ii cL)),(7,(ii cM)),(11,(.yld 0)),(12,(ii v9))]⟩,⟨⟨87,0,true⟩,none,(.inRangeFunc 0::(Zb prog 45 [1,1,0,1,0,0,1,1,0,0,1,1,1,0] 1)),none,(Zy prog 45),Yg [(2,(.ptr 1 0)),(3,(.ptr 2 0)),(4,(.ptr 5 0)),(5,(.ptr 6 0)),(6,(.ptr 7 0)),(16,(ii cI))]⟩,(v1n l0 x1)],(y4a [(0,⟨.busy,none,87,Yg [(2,(.ptr 1 0)),(3,(.ptr 2 0)),(4,(.ptr 5 0)),(5,(.ptr 6 0)),(6,(.ptr 7 0)),(7,(.ptr 8 0)),(8,(.ptr 9 0))],[25],(Wo prog 45 [1,1,0,1,0,0,1,1,0,0,1,1,1,0,0]),(Wo prog 45 [1,1,0,1,0,0,1,1,0,0,1,1,1,0,1])⟩)])⟩
def stpN0 :List (Option (List Nat)):=[some [2,3,4,5,6,16],some [41,42]]
def stpM0 :List (Option (List Nat)):=[]
def stpN1 :List (Option (List Nat)):=[some [2,5,8,9,10],some [2,3,4,5,6,7,8,16,22,23],some [41,42]]
def stpM1 :List (Option (List Nat)):=[]
def stpN2 :List (Option (List Nat)):=[some [0,5,6,7],some [2,3,4,5,6,16],some [41,42]]
def stpM2 :List (Option (List Nat)):=[some [2,3,4,5,6,7,8],none,none,none,none,none,none,none,none,none,none,none]
def j0w :List (Option (List Nat)):=[some [6,7,8,9,55,56,57],some [0,5,6,7,11,12],some [2,3,4,5,6,16],some [41,42]]
def j0x :List (Option (List Nat)):=[some [2,3,4,5,6,7,8],none,none,none,none,none,none,none,none,none,none,none]
def Wk (l0:List Pa) (x1:Int) (x2:Int):stpS→Xw stpS
 | .h0 v16 aA=>(bif (decide (v16<6)) then (.to (.h1 ([]:List Int) 0 v16 (wrap .i64 (Int.tdiv v16 2)) (wrap .i64 (Int.tdiv v16 2)) aA v16 (wrap .i64 (Int.tdiv v16 2)))) else (bif (decide ((aA.length:Int)>3000)) then (.ret [.nils,(.int .i64 4)]) else (.ret [(.dat aA.length (Zz aA)),(.int .i64 0)])))
 | .h1 v5 v10 bO cE aD aM aS aF=>(bif (decide (v10<(((rd l0 x1.toNat).s.length :Nat):Int))) then (bif ((decide (0≤v10∧v10<(((rd l0 x1.toNat).s.length :Nat):Int)))&&true) then (bif (Ux aD (rd (rd l0 x1.toNat).s v10.toNat).a (rd (rd l0 x1.toNat).s v10.toNat).b (rd (rd l0 x1.toNat).s v10.toNat).c) then (bif (Ux aD (rd (rd l0 x1.toNat).s v10.toNat).d (rd (rd l0 x1.toNat).s v10.toNat).e (rd (rd l0 x1.toNat).s v10.toNat).f) then (bif (Nat.beq 1 1&&((decide (0+v5.length=v5.length))&&decide ((v5.length+2+1)*(8+1)≤Kj))) then (.to (.h1 (v5++[(y1b aD (rd (rd l0 x1.toNat).s v10.toNat).a (rd (rd l0 x1.toNat).s v10.toNat).b (rd (rd l0 x1.toNat).s v10.toNat).c),(y1b aD (rd (rd l0 x1.toNat).s v10.toNat).d (rd (rd l0 x1.toNat).s v10.toNat).e (rd (rd l0 x1.toNat).s v10.toNat).f)]) (wrap .i64 (v10+1)) bO cE aD aM aS aF)) else .stuck) else .stuck) else .stuck) else .stuck) else (bif (decide (v5.length<4611686018427387904)) then (bif (decide (v5.length=v5.length)) then (.to (.h2 (v7q (Yd v5.length (cOf (Zz (Xa (Yd v5.length (cOf (Zz v5)))))))) (((v7q (Yd v5.length (cOf (Zz (Xa (Yd v5.length (cOf (Zz v5)))))))):Nat):Int) 0 bO aM aS aF (Wn (Yd v5.length (cOf (Zz (Xa (Yd v5.length (cOf (Zz v5)))))))))) else .stuck) else .stuck))
 | .h2 cK v6 v7 bO aM aS aF aK=>(bif (decide (v7<v6)) then (bif ((decide (0≤v7∧v7<((cK:Nat):Int)))&&true) then (bif (decide ((0+v7.toNat)<aK.length)) then (bif ((Int.tmod aS 2) == 1) then (bif (Xi aF (cvT (rd l0 x1.toNat).s) (rd aK (0+v7.toNat))) then (bif ((Xr aF (cvT (rd l0 x1.toNat).s) (rd aK (0+v7.toNat))) == 0) then (bif (Xi aF ([(R6.mk (rd l0 x2.toNat).a (rd l0 x2.toNat).b (rd l0 x2.toNat).c (rd l0 x2.toNat).d (rd l0 x2.toNat).e (rd l0 x2.toNat).f)]:List R6) (wrap .i64 ((rd aK (0+v7.toNat)) - 1))) then (bif ((decide (0≤x2∧x2<(l0.length:Int)))&&true) then (bif (Xi aF (cvT (rd l0 x2.toNat).s) (wrap .i64 ((rd aK (0+v7.toNat)) - 1))) then (bif ((Xr aF ([(R6.mk (rd l0 x2.toNat).a (rd l0 x2.toNat).b (rd l0 x2.toNat).c (rd l0 x2.toNat).d (rd l0 x2.toNat).e (rd l0 x2.toNat).f)]:List R6) (wrap .i64 ((rd aK (0+v7.toNat)) - 1))) != 0) then (.ret [.nils,(.int .i64 4)]) else (bif ((Xr aF (cvT (rd l0 x2.toNat).s) (wrap .i64 ((rd aK (0+v7.toNat)) - 1))) != 0) then (.ret [.nils,(.int .i64 4)]) else (bif (Jh .d (cvT (Zg aF ([(R6.mk (rd l0 x2.toNat).a (rd l0 x2.toNat).b (rd l0 x2.toNat).c (rd l0 x2.toNat).d (rd l0 x2.toNat).e (rd l0 x2.toNat).f)]:List R6) (wrap .i64 ((rd aK (0+v7.toNat)) - 1)))) (cvT (Zg aF (cvT (rd l0 x2.toNat).s) (wrap .i64 ((rd aK (0+v7.toNat)) - 1))))) then (bif ((Kq .d (cvT (Zg aF ([(R6.mk (rd l0 x2.toNat).a (rd l0 x2.toNat).b (rd l0 x2.toNat).c (rd l0 x2.toNat).d (rd l0 x2.toNat).e (rd l0 x2.toNat).f)]:List R6) (wrap .i64 ((rd aK (0+v7.toNat)) - 1)))) (cvT (Zg aF (cvT (rd l0 x2.toNat).s) (wrap .i64 ((rd aK (0+v7.toNat)) - 1))))) != 0) then (.ret [.nils,(.int .i64 (Kq .d (cvT (Zg aF ([(R6.mk (rd l0 x2.toNat).a (rd l0 x2.toNat).b (rd l0 x2.toNat).c (rd l0 x2.toNat).d (rd l0 x2.toNat).e (rd l0 x2.toNat).f)]:List R6) (wrap .i64 ((rd aK (0+v7.toNat)) - 1)))) (cvT (Zg aF (cvT (rd l0 x2.toNat).s) (wrap .i64 ((rd aK (0+v7.toNat)) - 1))))))]) else (bif (Jh .e (cvT (Zg aF (cvT (rd l0 x1.toNat).s) (rd aK (0+v7.toNat)))) (cvT (Wy .d (cvT (Zg aF ([(R6.mk (rd l0 x2.toNat).a (rd l0 x2.toNat).b (rd l0 x2.toNat).c (rd l0 x2.toNat).d (rd l0 x2.toNat).e (rd l0 x2.toNat).f)]:List R6) (wrap .i64 ((rd aK (0+v7.toNat)) - 1)))) (cvT (Zg aF (cvT (rd l0 x2.toNat).s) (wrap .i64 ((rd aK (0+v7.toNat)) - 1))))))) then (bif ((Kq .e (cvT (Zg aF (cvT (rd l0 x1.toNat).s) (rd aK (0+v7.toNat)))) (cvT (Wy .d (cvT (Zg aF ([(R6.mk (rd l0 x2.toNat).a (rd l0 x2.toNat).b (rd l0 x2.toNat).c (rd l0 x2.toNat).d (rd l0 x2.toNat).e (rd l0 x2.toNat).f)]:List R6) (wrap .i64 ((rd aK (0+v7.toNat)) - 1)))) (cvT (Zg aF (cvT (rd l0 x2.toNat).s) (wrap .i64 ((rd aK (0+v7.toNat)) - 1))))))) != 0) then (.ret [.nils,(.int .i64 (Kq .e (cvT (Zg aF (cvT (rd l0 x1.toNat).s) (rd aK (0+v7.toNat)))) (cvT (Wy .d (cvT (Zg aF ([(R6.mk (rd l0 x2.toNat).a (rd l0 x2.toNat).b (rd l0 x2.toNat).c (rd l0 x2.toNat).d (rd l0 x2.toNat).e (rd l0 x2.toNat).f)]:List R6) (wrap .i64 ((rd aK (0+v7.toNat)) - 1)))) (cvT (Zg aF (cvT (rd l0 x2.toNat).s) (wrap .i64 ((rd aK (0+v7.toNat)) - 1))))))))]) else (.to (.h3 (rd aK (0+v7.toNat)) (Wy .e (cvT (Zg aF (cvT (rd l0 x1.toNat).s) (rd aK (0+v7.toNat)))) (cvT (Wy .d (cvT (Zg aF ([(R6.mk (rd l0 x2.toNat).a (rd l0 x2.toNat).b (rd l0 x2.toNat).c (rd l0 x2.toNat).d (rd l0 x2.toNat).e (rd l0 x2.toNat).f)]:List R6) (wrap .i64 ((rd aK (0+v7.toNat)) - 1)))) (cvT (Zg aF (cvT (rd l0 x2.toNat).s) (wrap .i64 ((rd aK (0+v7.toNat)) - 1))))))) (((Wy .e (cvT (Zg aF (cvT (rd l0 x1.toNat).s) (rd aK (0+v7.toNat)))) (cvT (Wy .d (cvT (Zg aF ([(R6.mk (rd l0 x2.toNat).a (rd l0 x2.toNat).b (rd l0 x2.toNat).c (rd l0 x2.toNat).d (rd l0 x2.toNat).e (rd l0 x2.toNat).f)]:List R6) (wrap .i64 ((rd aK (0+v7.toNat)) - 1)))) (cvT (Zg aF (cvT (rd l0 x2.toNat).s) (wrap .i64 ((rd aK (0+v7.toNat)) - 1))))))).length :Nat):Int) 0 cK v6 v7 bO aM aS aF aK))) else .stuck)) else .stuck))) else .stuck) else .stuck) else .stuck) else (.ret [.nils,(.int .i64 (Xr aF (cvT (rd l0 x1.toNat).s) (rd aK (0+v7.toNat))))])) else .stuck) else (bif (Xi aF (cvT (rd l0 x1.toNat).s) (wrap .i64 ((rd aK (0+v7.toNat)) - 1))) then (bif ((Xr aF (cvT (rd l0 x1.toNat).s) (wrap .i64 ((rd aK (0+v7.toNat)) - 1))) == 0) then (bif (Xi aF ([(R6.mk (rd l0 x2.toNat).a (rd l0 x2.toNat).b (rd l0 x2.toNat).c (rd l0 x2.toNat).d (rd l0 x2.toNat).e (rd l0 x2.toNat).f)]:List R6) (rd aK (0+v7.toNat))) then (bif ((decide (0≤x2∧x2<(l0.length:Int)))&&true) then (bif (Xi aF (cvT (rd l0 x2.toNat).s) (rd aK (0+v7.toNat))) then (bif ((Xr aF ([(R6.mk (rd l0 x2.toNat).a (rd l0 x2.toNat).b (rd l0 x2.toNat).c (rd l0 x2.toNat).d (rd l0 x2.toNat).e (rd l0 x2.toNat).f)]:List R6) (rd aK (0+v7.toNat))) != 0) then (.ret [.nils,(.int .i64 4)]) else (bif ((Xr aF (cvT (rd l0 x2.toNat).s) (rd aK (0+v7.toNat))) != 0) then (.ret [.nils,(.int .i64 4)]) else (bif (Jh .d (cvT (Zg aF ([(R6.mk (rd l0 x2.toNat).a (rd l0 x2.toNat).b (rd l0 x2.toNat).c (rd l0 x2.toNat).d (rd l0 x2.toNat).e (rd l0 x2.toNat).f)]:List R6) (rd aK (0+v7.toNat)))) (cvT (Zg aF (cvT (rd l0 x2.toNat).s) (rd aK (0+v7.toNat))))) then (bif ((Kq .d (cvT (Zg aF ([(R6.mk (rd l0 x2.toNat).a (rd l0 x2.toNat).b (rd l0 x2.toNat).c (rd l0 x2.toNat).d (rd l0 x2.toNat).e (rd l0 x2.toNat).f)]:List R6) (rd aK (0+v7.toNat)))) (cvT (Zg aF (cvT (rd l0 x2.toNat).s) (rd aK (0+v7.toNat))))) != 0) then (.ret [.nils,(.int .i64 (Kq .d (cvT (Zg aF ([(R6.mk (rd l0 x2.toNat).a (rd l0 x2.toNat).b (rd l0 x2.toNat).c (rd l0 x2.toNat).d (rd l0 x2.toNat).e (rd l0 x2.toNat).f)]:List R6) (rd aK (0+v7.toNat)))) (cvT (Zg aF (cvT (rd l0 x2.toNat).s) (rd aK (0+v7.toNat))))))]) else (bif (Jh .e (cvT (Zg aF (cvT (rd l0 x1.toNat).s) (wrap .i64 ((rd aK (0+v7.toNat)) - 1)))) (cvT (Wy .d (cvT (Zg aF ([(R6.mk (rd l0 x2.toNat).a (rd l0 x2.toNat).b (rd l0 x2.toNat).c (rd l0 x2.toNat).d (rd l0 x2.toNat).e (rd l0 x2.toNat).f)]:List R6) (rd aK (0+v7.toNat)))) (cvT (Zg aF (cvT (rd l0 x2.toNat).s) (rd aK (0+v7.toNat))))))) then (bif ((Kq .e (cvT (Zg aF (cvT (rd l0 x1.toNat).s) (wrap .i64 ((rd aK (0+v7.toNat)) - 1)))) (cvT (Wy .d (cvT (Zg aF ([(R6.mk (rd l0 x2.toNat).a (rd l0 x2.toNat).b (rd l0 x2.toNat).c (rd l0 x2.toNat).d (rd l0 x2.toNat).e (rd l0 x2.toNat).f)]:List R6) (rd aK (0+v7.toNat)))) (cvT (Zg aF (cvT (rd l0 x2.toNat).s) (rd aK (0+v7.toNat))))))) != 0) then (.ret [.nils,(.int .i64 (Kq .e (cvT (Zg aF (cvT (rd l0 x1.toNat).s) (wrap .i64 ((rd aK (0+v7.toNat)) - 1)))) (cvT (Wy .d (cvT (Zg aF ([(R6.mk (rd l0 x2.toNat).a (rd l0 x2.toNat).b (rd l0 x2.toNat).c (rd l0 x2.toNat).d (rd l0 x2.toNat).e (rd l0 x2.toNat).f)]:List R6) (rd aK (0+v7.toNat)))) (cvT (Zg aF (cvT (rd l0 x2.toNat).s) (rd aK (0+v7.toNat))))))))]) else (.to (.h3 (rd aK (0+v7.toNat)) (Wy .e (cvT (Zg aF (cvT (rd l0 x1.toNat).s) (wrap .i64 ((rd aK (0+v7.toNat)) - 1)))) (cvT (Wy .d (cvT (Zg aF ([(R6.mk (rd l0 x2.toNat).a (rd l0 x2.toNat).b (rd l0 x2.toNat).c (rd l0 x2.toNat).d (rd l0 x2.toNat).e (rd l0 x2.toNat).f)]:List R6) (rd aK (0+v7.toNat)))) (cvT (Zg aF (cvT (rd l0 x2.toNat).s) (rd aK (0+v7.toNat))))))) (((Wy .e (cvT (Zg aF (cvT (rd l0 x1.toNat).s) (wrap .i64 ((rd aK (0+v7.toNat)) - 1)))) (cvT (Wy .d (cvT (Zg aF ([(R6.mk (rd l0 x2.toNat).a (rd l0 x2.toNat).b (rd l0 x2.toNat).c (rd l0 x2.toNat).d (rd l0 x2.toNat).e (rd l0 x2.toNat).f)]:List R6) (rd aK (0+v7.toNat)))) (cvT (Zg aF (cvT (rd l0 x2.toNat).s) (rd aK (0+v7.toNat))))))).length :Nat):Int) 0 cK v6 v7 bO aM aS aF aK))) else .stuck)) else .stuck))) else .stuck) else .stuck) else .stuck) else (.ret [.nils,(.int .i64 (Xr aF (cvT (rd l0 x1.toNat).s) (wrap .i64 ((rd aK (0+v7.toNat)) - 1))))])) else .stuck)) else .stuck) else .stuck) else (.to (.h0 (wrap .i64 (bO+1)) aM)))
 | .h3 v9 v55 v56 v57 bV cL cM cI aM aS aF aK=>(bif (decide (v57<v56)) then (bif ((decide (0≤v57∧v57<(v55.length:Int)))&&true) then (bif (Kg aF v9 (rd v55 v57.toNat).a (rd v55 v57.toNat).b) then (bif (Kg aF v9 (rd v55 v57.toNat).c (rd v55 v57.toNat).d) then (bif (Nat.beq 7 7&&((decide (0+aM.length=aM.length))&&decide ((aM.length+1+1)*(56+1)≤Kj))) then (.to (.h3 v9 v55 v56 (wrap .i64 (v57+1)) bV cL cM cI (aM++[(R7.mk (wrap IntKind.u8 aS) (z2v aF v9 (rd v55 v57.toNat).a (rd v55 v57.toNat).b).a (z2v aF v9 (rd v55 v57.toNat).a (rd v55 v57.toNat).b).b (z2v aF v9 (rd v55 v57.toNat).a (rd v55 v57.toNat).b).c (z2v aF v9 (rd v55 v57.toNat).c (rd v55 v57.toNat).d).a (z2v aF v9 (rd v55 v57.toNat).c (rd v55 v57.toNat).d).b (z2v aF v9 (rd v55 v57.toNat).c (rd v55 v57.toNat).d).c)]) aS aF aK)) else .stuck) else .stuck) else .stuck) else .stuck) else (.to (.h2 bV cL (wrap .i64 (cM+1)) cI aM aS aF aK)))
def y2v (l0:List Pa) (x1:Int) (x2:Int):Xw stpS:=(bif (Qp (cvT l0)) then (bif ((z2h (cvT l0)) != 0) then (.ret [.nils,(.int .i64 (z2h (cvT l0)))]) else (bif (decide (x1<0)) then (.ret [.nils,(.int .i64 2)]) else (bif (decide (x1≥(l0.length:Int))) then (.ret [.nils,(.int .i64 2)]) else (bif (decide (x2<0)) then (.ret [.nils,(.int .i64 2)]) else (bif (decide (x2≥(l0.length:Int))) then (.ret [.nils,(.int .i64 2)]) else (bif (x1 == x2) then (.ret [.nils,(.int .i64 2)]) else (bif ((decide (0≤x1∧x1<(l0.length:Int)))&&true) then (.to (.h0 0 ([]:List R7))) else .stuck))))))) else .stuck)
theorem w6f (l0:List Pa) (x1:Int) (x2:Int): ∀s,Xu prog (Zy prog 18) (stpC l0 x1 x2) (stpC l0 x1 x2 s) (Wk l0 x1 x2 s)
 | .h0 v16 aA=>(lb (fun k0=>(sl Wc 46 [(3,1,Zz ([]:List Int))] ⟨[10,0,1,2,3,4,5,6,8,9,11,7],[],stpN1,stpM1⟩ ⟨[(5,.grow 10 1)],[],[]⟩ [true] (pp (fl ([]:List Int) (fl aA nn)) (tt k0 nn)))) (fun k0=>(lb (fun k1=>(lr 46 3 [1,1,1,1,0] 1 10 [(6,.nils),(7,(ii 4))] (sl Wc 26 [] ⟨[],[],[some [6,7]],[]⟩ ⟨[],[],[]⟩ (bl 2 2) (tt k1 (tt k0 nn))))) (fun k1=>(lr 46 3 [1,1,1,1,0] 1 10 [(6,(.dat aA.length (Zz aA))),(7,(ii 0))] (sl Wc 28 [] ⟨[],[7],[some [6,7]],[]⟩ ⟨[(6,.frz aA.length aA.length (Zz aA) (Zz aA))],[],[]⟩ (bl 2 0) (pp (xZ (z7j 7 7 0 aA.length aA.length (Zz aA)) aA.length (Zz aA)) (pp (xL aA.length aA.length) (pp (xS aA.length (Zz aA) (Zz aA)) (pp (fl aA nn) (tt k1 (tt k0 nn))))))))))))
 | .h1 v5 v10 bO cE aD aM aS aF=>(lb (fun k0=>(lo fun o0=>(lo fun o1=>(lo fun o2=>(lo fun o3=>(sl Wc 23 [] ⟨[0,1,2,3,4,5,6,7,8,9,14,11],[],stpN1,stpM1⟩ ⟨[(5,.len (y8o v5 aD l0 x1 v10).length)],(kpB 10 [.rowed 1 (y8o v5 aD l0 x1 v10).length (Zz (y8o v5 aD l0 x1 v10)),.keep]),[]⟩ [true] (pp (xL (v5.length+2) (y8o v5 aD l0 x1 v10).length) (pp (xL (v5.length+2) (y8o v5 aD l0 x1 v10).length) (pp (xS (v5.length+2) (u5l v5 aD l0 x1 v10) (Zz (y8o v5 aD l0 x1 v10))) (pp (pp (xF (u5l v5 aD l0 x1 v10)) (fl aM nn)) (ww o3 (ww o2 (ww o1 (ww o0 (tt k0 nn))))))))))))))) (fun k0=>(lo fun o0=>(lo fun o1=>(sl Wc 42 [] ⟨[13,1,2,3,4,5,6,7,8,9,10,11],[],stpN2,stpM2⟩ ⟨[],(kpB 10 [.rowed 1 (y8n v5).length (Zz (y8n v5)),.keep]),[]⟩ [false] (pp (xL v5.length (y8n v5).length (by first | exact z2p _ _ | exact Un rfl)) (pp (xS v5.length (Zz (y8n v5)) (Zz (y8n v5))) (pp (fl (y8n v5) (fl aM nn)) (pp (pp (xG (Nat.beq 1 1)) (pp (xG (Nat.beq 1 1)) (pp (xG (Nat.beq 0 0)) (pp (xG (decide (v5.length=v5.length))) (pp (xG (isI (Zz (Xa (Yd v5.length (cOf (Zz v5))))))) (xG (decide (v5.length<4611686018427387904)))))))) (pp (pp (xG (Nat.beq 1 1)) (pp (xG (Nat.beq 1 1)) (pp (xG (Nat.beq 0 0)) (pp (xG (decide (v5.length=v5.length))) (pp (xG (isI (Zz v5))) (xG (decide (v5.length<4611686018427387904)))))))) (tt k0 nn)))))))))))
 | .h2 cK v6 v7 bO aM aS aF aK=>(lb (fun k0=>(lo fun aE=>(lo fun bE=>(lb (fun k1=>(lo fun bU=>(lb (fun k2=>(lo fun bZ=>(lo fun cN=>(lo fun dI=>(lb (fun k3=>(lr 46 3 [1,1,1,1,0] 1 10 [(6,.nils),(7,(ii 4))] (sl Wc 131 [] ⟨[],[],[some [6,7]],[]⟩ ⟨[],[],[]⟩ (trs 8 []) (tt k3 (pp (pp (xI R6 (rd l0 (tn x2)).s.length (z1x l0 x2)) (xw dI)) (ww cN (pp (pp (xI R6 1 (fun k=>([(ii (rd l0 (tn x2)).a),(ii (rd l0 (tn x2)).b),(ii (rd l0 (tn x2)).c),(ii (rd l0 (tn x2)).d),(ii (rd l0 (tn x2)).e),(ii (rd l0 (tn x2)).f)].drop (k*6)).take 6)) (xw bZ)) (ww cN (tt k2 (pp (pp (xI R6 (rd l0 (tn x1)).s.length (Qo l0 x1)) (xw bU)) (tt k1 (ww bE (ww aE (tt k0 nn)))))))))))))) (fun k3=>(lb (fun k4=>(lr 46 3 [1,1,1,1,0] 1 10 [(6,.nils),(7,(ii 4))] (sl Wc 131 [] ⟨[],[],[some [6,7]],[]⟩ ⟨[],[],[]⟩ (trs 3 (bl 5 28)) (tt k4 (tt k3 (pp (pp (xI R6 (rd l0 (tn x2)).s.length (z1x l0 x2)) (xw dI)) (ww cN (pp (pp (xI R6 1 (fun k=>([(ii (rd l0 (tn x2)).a),(ii (rd l0 (tn x2)).b),(ii (rd l0 (tn x2)).c),(ii (rd l0 (tn x2)).d),(ii (rd l0 (tn x2)).e),(ii (rd l0 (tn x2)).f)].drop (k*6)).take 6)) (xw bZ)) (ww cN (tt k2 (pp (pp (xI R6 (rd l0 (tn x1)).s.length (Qo l0 x1)) (xw bU)) (tt k1 (ww bE (ww aE (tt k0 nn))))))))))))))) (fun k4=>(lo fun cZ=>(lb (fun k5=>(lr 46 3 [1,1,1,1,0] 1 10 [(6,.nils),(7,(ii (Kq .d (cvT (Zg aF ([(Up l0 x2)]:List R6) (wr (Uu aK v7)))) (cvT (z3y aF l0 x2 aK v7)))))] (sl Wc 151 [] ⟨[],[],[some [6,7]],[]⟩ ⟨[],[],[]⟩ (trs 3 (bl 6 56)) (tt k5 (tt k5 (pp (pp (xI R4 (Zg aF ([(Up l0 x2)]:List R6) (wr (Uu aK v7))).length (Zz (Zg aF ([(Up l0 x2)]:List R6) (wr (Uu aK v7))))) (pp (xI R4 (z3y aF l0 x2 aK v7).length (Zz (z3y aF l0 x2 aK v7))) (xw cZ))) (tt k4 (tt k3 (pp (pp (xI R6 (rd l0 (tn x2)).s.length (z1x l0 x2)) (xw dI)) (ww cN (pp (pp (xI R6 1 (fun k=>([(ii (rd l0 (tn x2)).a),(ii (rd l0 (tn x2)).b),(ii (rd l0 (tn x2)).c),(ii (rd l0 (tn x2)).d),(ii (rd l0 (tn x2)).e),(ii (rd l0 (tn x2)).f)].drop (k*6)).take 6)) (xw bZ)) (ww cN (tt k2 (pp (pp (xI R6 (rd l0 (tn x1)).s.length (Qo l0 x1)) (xw bU)) (tt k1 (ww bE (ww aE (tt k0 nn)))))))))))))))))) (fun k5=>(lo fun dO=>(lb (fun k6=>(lr 46 3 [1,1,1,1,0] 1 10 [(6,.nils),(7,(ii (Kq .e (cvT (Zg aF (Qn l0 x1) (Jb aK v7))) (cvT (Wy .d (cvT (Zg aF ([(Up l0 x2)]:List R6) (wr (Uu aK v7)))) (cvT (z3y aF l0 x2 aK v7)))))))] (sl Wc 156 [] ⟨[],[],[some [6,7]],[]⟩ ⟨[],[],[]⟩ (trs 3 (bl 6 48)) (tt k6 (pp (pp (xI R4 (Zg aF (Qn l0 x1) (Jb aK v7)).length (Zz (Zg aF (Qn l0 x1) (Jb aK v7)))) (pp (xI R4 (Wy .d (cvT (Zg aF ([(Up l0 x2)]:List R6) (wr (Uu aK v7)))) (cvT (z3y aF l0 x2 aK v7))).length (Zz (Wy .d (cvT (Zg aF ([(Up l0 x2)]:List R6) (wr (Uu aK v7)))) (cvT (z3y aF l0 x2 aK v7))))) (xw dO))) (tt k5 (pp (pp (xI R4 (Zg aF ([(Up l0 x2)]:List R6) (wr (Uu aK v7))).length (Zz (Zg aF ([(Up l0 x2)]:List R6) (wr (Uu aK v7))))) (pp (xI R4 (z3y aF l0 x2 aK v7).length (Zz (z3y aF l0 x2 aK v7))) (xw cZ))) (tt k4 (tt k3 (pp (pp (xI R6 (rd l0 (tn x2)).s.length (z1x l0 x2)) (xw dI)) (ww cN (pp (pp (xI R6 1 (fun k=>([(ii (rd l0 (tn x2)).a),(ii (rd l0 (tn x2)).b),(ii (rd l0 (tn x2)).c),(ii (rd l0 (tn x2)).d),(ii (rd l0 (tn x2)).e),(ii (rd l0 (tn x2)).f)].drop (k*6)).take 6)) (xw bZ)) (ww cN (tt k2 (pp (pp (xI R6 (rd l0 (tn x1)).s.length (Qo l0 x1)) (xw bU)) (tt k1 (ww bE (ww aE (tt k0 nn))))))))))))))))))) (fun k6=>(sl Wc 147 [] ⟨(List.range 12),[],j0w,j0x⟩ ⟨[],[],[]⟩ (trs 3 (bl 5 0)) (pp (fl aK (fl aM nn)) (tt k6 (pp (pp (xI R4 (Zg aF (Qn l0 x1) (Jb aK v7)).length (Zz (Zg aF (Qn l0 x1) (Jb aK v7)))) (pp (xI R4 (Wy .d (cvT (Zg aF ([(Up l0 x2)]:List R6) (wr (Uu aK v7)))) (cvT (z3y aF l0 x2 aK v7))).length (Zz (Wy .d (cvT (Zg aF ([(Up l0 x2)]:List R6) (wr (Uu aK v7)))) (cvT (z3y aF l0 x2 aK v7))))) (xw dO))) (tt k5 (pp (pp (xI R4 (Zg aF ([(Up l0 x2)]:List R6) (wr (Uu aK v7))).length (Zz (Zg aF ([(Up l0 x2)]:List R6) (wr (Uu aK v7))))) (pp (xI R4 (z3y aF l0 x2 aK v7).length (Zz (z3y aF l0 x2 aK v7))) (xw cZ))) (tt k4 (tt k3 (pp (pp (xI R6 (rd l0 (tn x2)).s.length (z1x l0 x2)) (xw dI)) (ww cN (pp (pp (xI R6 1 (fun k=>([(ii (rd l0 (tn x2)).a),(ii (rd l0 (tn x2)).b),(ii (rd l0 (tn x2)).c),(ii (rd l0 (tn x2)).d),(ii (rd l0 (tn x2)).e),(ii (rd l0 (tn x2)).f)].drop (k*6)).take 6)) (xw bZ)) (ww cN (tt k2 (pp (pp (xI R6 (rd l0 (tn x1)).s.length (Qo l0 x1)) (xw bU)) (tt k1 (ww bE (ww aE (tt k0 nn)))))))))))))))))))))))))))))))) (fun k2=>(lr 46 3 [1,1,1,1,0] 1 10 [(6,.nils),(7,(ii (Xr aF (Qn l0 x1) (Jb aK v7))))] (sl Wc 93 [] ⟨[],[],[some [6,7]],[]⟩ ⟨[],[],[]⟩ (bl 5 27) (yt (v0b k2) (tt k2 (pp (pp (xI R6 (rd l0 (tn x1)).s.length (Qo l0 x1)) (xw bU)) (tt k1 (ww bE (ww aE (tt k0 nn))))))))))))) (fun k1=>(lo fun bU=>(lb (fun k2=>(lo fun bZ=>(lo fun cN=>(lo fun dI=>(lb (fun k3=>(lr 46 3 [1,1,1,1,0] 1 10 [(6,.nils),(7,(ii 4))] (sl Wc 125 [] ⟨[],[],[some [6,7]],[]⟩ ⟨[],[],[]⟩ (bl 8 253) (tt k3 (pp (pp (xI R6 (rd l0 (tn x2)).s.length (z1x l0 x2)) (xw dI)) (ww cN (pp (pp (xI R6 1 (fun k=>([(ii (rd l0 (tn x2)).a),(ii (rd l0 (tn x2)).b),(ii (rd l0 (tn x2)).c),(ii (rd l0 (tn x2)).d),(ii (rd l0 (tn x2)).e),(ii (rd l0 (tn x2)).f)].drop (k*6)).take 6)) (xw bZ)) (ww cN (tt k2 (pp (pp (xI R6 (rd l0 (tn x1)).s.length (Qo l0 x1)) (xw bU)) (tt k1 (ww bE (ww aE (tt k0 nn)))))))))))))) (fun k3=>(lb (fun k4=>(lr 46 3 [1,1,1,1,0] 1 10 [(6,.nils),(7,(ii 4))] (sl Wc 125 [] ⟨[],[],[some [6,7]],[]⟩ ⟨[],[],[]⟩ (bl 8 229) (tt k4 (tt k3 (pp (pp (xI R6 (rd l0 (tn x2)).s.length (z1x l0 x2)) (xw dI)) (ww cN (pp (pp (xI R6 1 (fun k=>([(ii (rd l0 (tn x2)).a),(ii (rd l0 (tn x2)).b),(ii (rd l0 (tn x2)).c),(ii (rd l0 (tn x2)).d),(ii (rd l0 (tn x2)).e),(ii (rd l0 (tn x2)).f)].drop (k*6)).take 6)) (xw bZ)) (ww cN (tt k2 (pp (pp (xI R6 (rd l0 (tn x1)).s.length (Qo l0 x1)) (xw bU)) (tt k1 (ww bE (ww aE (tt k0 nn))))))))))))))) (fun k4=>(lo fun cZ=>(lb (fun k5=>(lr 46 3 [1,1,1,1,0] 1 10 [(6,.nils),(7,(ii (Kq .d (cvT (Zg aF ([(Up l0 x2)]:List R6) (Jb aK v7))) (cvT (z3x aF l0 x2 aK v7)))))] (sl Wc 145 [] ⟨[],[],[some [6,7]],[]⟩ ⟨[],[],[]⟩ (bl 9 453) (tt k5 (tt k5 (pp (pp (xI R4 (Zg aF ([(Up l0 x2)]:List R6) (Jb aK v7)).length (Zz (Zg aF ([(Up l0 x2)]:List R6) (Jb aK v7)))) (pp (xI R4 (z3x aF l0 x2 aK v7).length (Zz (z3x aF l0 x2 aK v7))) (xw cZ))) (tt k4 (tt k3 (pp (pp (xI R6 (rd l0 (tn x2)).s.length (z1x l0 x2)) (xw dI)) (ww cN (pp (pp (xI R6 1 (fun k=>([(ii (rd l0 (tn x2)).a),(ii (rd l0 (tn x2)).b),(ii (rd l0 (tn x2)).c),(ii (rd l0 (tn x2)).d),(ii (rd l0 (tn x2)).e),(ii (rd l0 (tn x2)).f)].drop (k*6)).take 6)) (xw bZ)) (ww cN (tt k2 (pp (pp (xI R6 (rd l0 (tn x1)).s.length (Qo l0 x1)) (xw bU)) (tt k1 (ww bE (ww aE (tt k0 nn)))))))))))))))))) (fun k5=>(lo fun dO=>(lb (fun k6=>(lr 46 3 [1,1,1,1,0] 1 10 [(6,.nils),(7,(ii (Kq .e (cvT (Zg aF (Qn l0 x1) (wr (Uu aK v7)))) (cvT (Wy .d (cvT (Zg aF ([(Up l0 x2)]:List R6) (Jb aK v7))) (cvT (z3x aF l0 x2 aK v7)))))))] (sl Wc 150 [] ⟨[],[],[some [6,7]],[]⟩ ⟨[],[],[]⟩ (bl 9 389) (tt k6 (pp (pp (xI R4 (Zg aF (Qn l0 x1) (wr (Uu aK v7))).length (Zz (Zg aF (Qn l0 x1) (wr (Uu aK v7))))) (pp (xI R4 (Wy .d (cvT (Zg aF ([(Up l0 x2)]:List R6) (Jb aK v7))) (cvT (z3x aF l0 x2 aK v7))).length (Zz (Wy .d (cvT (Zg aF ([(Up l0 x2)]:List R6) (Jb aK v7))) (cvT (z3x aF l0 x2 aK v7))))) (xw dO))) (tt k5 (pp (pp (xI R4 (Zg aF ([(Up l0 x2)]:List R6) (Jb aK v7)).length (Zz (Zg aF ([(Up l0 x2)]:List R6) (Jb aK v7)))) (pp (xI R4 (z3x aF l0 x2 aK v7).length (Zz (z3x aF l0 x2 aK v7))) (xw cZ))) (tt k4 (tt k3 (pp (pp (xI R6 (rd l0 (tn x2)).s.length (z1x l0 x2)) (xw dI)) (ww cN (pp (pp (xI R6 1 (fun k=>([(ii (rd l0 (tn x2)).a),(ii (rd l0 (tn x2)).b),(ii (rd l0 (tn x2)).c),(ii (rd l0 (tn x2)).d),(ii (rd l0 (tn x2)).e),(ii (rd l0 (tn x2)).f)].drop (k*6)).take 6)) (xw bZ)) (ww cN (tt k2 (pp (pp (xI R6 (rd l0 (tn x1)).s.length (Qo l0 x1)) (xw bU)) (tt k1 (ww bE (ww aE (tt k0 nn))))))))))))))))))) (fun k6=>(sl Wc 141 [] ⟨(List.range 12),[],j0w,j0x⟩ ⟨[],[],[]⟩ (bl 8 5) (pp (fl aK (fl aM nn)) (tt k6 (pp (pp (xI R4 (Zg aF (Qn l0 x1) (wr (Uu aK v7))).length (Zz (Zg aF (Qn l0 x1) (wr (Uu aK v7))))) (pp (xI R4 (Wy .d (cvT (Zg aF ([(Up l0 x2)]:List R6) (Jb aK v7))) (cvT (z3x aF l0 x2 aK v7))).length (Zz (Wy .d (cvT (Zg aF ([(Up l0 x2)]:List R6) (Jb aK v7))) (cvT (z3x aF l0 x2 aK v7))))) (xw dO))) (tt k5 (pp (pp (xI R4 (Zg aF ([(Up l0 x2)]:List R6) (Jb aK v7)).length (Zz (Zg aF ([(Up l0 x2)]:List R6) (Jb aK v7)))) (pp (xI R4 (z3x aF l0 x2 aK v7).length (Zz (z3x aF l0 x2 aK v7))) (xw cZ))) (tt k4 (tt k3 (pp (pp (xI R6 (rd l0 (tn x2)).s.length (z1x l0 x2)) (xw dI)) (ww cN (pp (pp (xI R6 1 (fun k=>([(ii (rd l0 (tn x2)).a),(ii (rd l0 (tn x2)).b),(ii (rd l0 (tn x2)).c),(ii (rd l0 (tn x2)).d),(ii (rd l0 (tn x2)).e),(ii (rd l0 (tn x2)).f)].drop (k*6)).take 6)) (xw bZ)) (ww cN (tt k2 (pp (pp (xI R6 (rd l0 (tn x1)).s.length (Qo l0 x1)) (xw bU)) (tt k1 (ww bE (ww aE (tt k0 nn)))))))))))))))))))))))))))))))) (fun k2=>(lr 46 3 [1,1,1,1,0] 1 10 [(6,.nils),(7,(ii (Xr aF (Qn l0 x1) (wr (Uu aK v7)))))] (sl Wc 87 [] ⟨[],[],[some [6,7]],[]⟩ ⟨[],[],[]⟩ (bl 5 25) (yt (v0b k2) (tt k2 (pp (pp (xI R6 (rd l0 (tn x1)).s.length (Qo l0 x1)) (xw bU)) (tt k1 (ww bE (ww aE (tt k0 nn))))))))))))))))) (fun k0=>(sl Wc 16 [] ⟨[1,2,3,4,5,6,7,11],[],stpN0,stpM0⟩ ⟨[],[],[]⟩ [false] (pp (fl aM nn) (tt k0 nn)))))
 | .h3 v9 v55 v56 v57 bV cL cM cI aM aS aF aK=>(lb (fun k0=>(lo fun o0=>(lo fun o1=>(lo fun o2=>(lo fun o3=>(sl Wc 23 [] ⟨[0,1,2,3,4,5,6,7,8,9,10,14],[],j0w,j0x⟩ ⟨[],(kpB 7 [.cells [.len (y8p aM aS aF v9 v55 v57).length],.keep,.keep,.keep,.rowed 7 (y8p aM aS aF v9 v55 v57).length (Zz (y8p aM aS aF v9 v55 v57))]),[]⟩ [true] (pp (xL (aM.length+1) (y8p aM aS aF v9 v55 v57).length) (pp (xL (aM.length+1) (y8p aM aS aF v9 v55 v57).length) (pp (xS (aM.length+1) (Yy (Zz aM) 0 aM.length 7 [(.int .u8 (wrap IntKind.u8 aS)),(ii (z9w aF v9 v55 v57).a),(ii (z9w aF v9 v55 v57).b),(ii (z9w aF v9 v55 v57).c),(ii (z9v aF v9 v55 v57).a),(ii (z9v aF v9 v55 v57).b),(ii (z9v aF v9 v55 v57).c)]) (Zz (y8p aM aS aF v9 v55 v57))) (pp (fl aK (pp (xF (Yy (Zz aM) 0 aM.length 7 [(.int .u8 (wrap IntKind.u8 aS)),(ii (z9w aF v9 v55 v57).a),(ii (z9w aF v9 v55 v57).b),(ii (z9w aF v9 v55 v57).c),(ii (z9v aF v9 v55 v57).a),(ii (z9v aF v9 v55 v57).b),(ii (z9v aF v9 v55 v57).c)])) nn)) (ww o3 (ww o2 (ww o1 (ww o0 (tt k0 nn))))))))))))))) (fun k0=>(sl Wc 19 [] ⟨(List.range 12),[],stpN2,stpM2⟩ ⟨[],[],[]⟩ (bl 2 0) (pp (fl aK (fl aM nn)) (tt k0 nn)))))
theorem x7m (l0:List Pa) (x1:Int) (x2:Int):Xu prog (Zy prog 18) (stpC l0 x1 x2) (Za prog 18 [(.dat l0.length (Zz l0)),(.int .i64 x1),(.int .i64 x2)] true []) (y2v l0 x1 x2):=(lo fun bN=>(lb (fun k0=>(lr 46 18 [1,0,1,1,0,0] 1 10 [(6,.nils),(7,(ii (z2h (cvT l0))))] (sl Wc 26 [] ⟨[],[],[some [6,7]],[]⟩ ⟨[],[],[]⟩ [true] (tt k0 (pp (pp (xr l0) (xw bN)) nn))))) (fun k0=>(lb (fun k1=>(lr 46 18 [1,1,0,1,0,0] 1 10 [(6,.nils),(7,(ii 2))] (sl Wc 54 [] ⟨[],[],[some [6,7]],[]⟩ ⟨[],[],[]⟩ [false,true,true,true,true,true,true,true,true,true,true,true,true,true,true] (tt k1 (tt k0 (pp (pp (xr l0) (xw bN)) nn)))))) (fun k1=>(lb (fun k2=>(lr 46 18 [1,1,0,1,0,0] 1 10 [(6,.nils),(7,(ii 2))] (sl Wc 54 [] ⟨[],[],[some [6,7]],[]⟩ ⟨[],[],[]⟩ [false,false,false,false,false,true,true,true,true,true,true,true,true,true,true] (tt k2 (tt k1 (tt k0 (pp (pp (xr l0) (xw bN)) nn))))))) (fun k2=>(lb (fun k3=>(lr 46 18 [1,1,0,1,0,0] 1 10 [(6,.nils),(7,(ii 2))] (sl Wc 54 [] ⟨[],[],[some [6,7]],[]⟩ ⟨[],[],[]⟩ [false,false,false,false,false,false,false,true,true,true,true,true,true,true,true] (tt k3 (tt k2 (tt k1 (tt k0 (pp (pp (xr l0) (xw bN)) nn)))))))) (fun k3=>(lb (fun k4=>(lr 46 18 [1,1,0,1,0,0] 1 10 [(6,.nils),(7,(ii 2))] (sl Wc 54 [] ⟨[],[],[some [6,7]],[]⟩ ⟨[],[],[]⟩ [false,false,false,false,false,false,false,false,false,false,false,true,true,true,true] (tt k4 (tt k3 (tt k2 (tt k1 (tt k0 (pp (pp (xr l0) (xw bN)) nn))))))))) (fun k4=>(lb (fun k5=>(lr 46 18 [1,1,0,1,0,0] 1 10 [(6,.nils),(7,(ii 2))] (sl Wc 54 [] ⟨[],[],[some [6,7]],[]⟩ ⟨[],[],[]⟩ [false,false,false,false,false,false,false,false,false,false,false,false,false,false,true] (tt k5 (tt k4 (tt k3 (tt k2 (tt k1 (tt k0 (pp (pp (xr l0) (xw bN)) nn)))))))))) (fun k5=>(lo fun o0=>(sl Wc 77 [(96,7,Zz ([]:List R7))] ⟨[2,3,0,1,4,5,6,7],[],stpN0,stpM0⟩ ⟨[],(kpB 6 [.cells [.grow 7 7],.keep]),[]⟩ [false,false,false,false,false,false,false,false,false,false,false,false,false,false,false] (pp (fl ([]:List R7) nn) (ww o0 (tt k5 (tt k4 (tt k3 (tt k2 (tt k1 (tt k0 (pp (pp (xr l0) (xw bN)) nn))))))))))))))))))))))))
theorem v9b (l0:List Pa) (x1:Int) (x2:Int) (n:Nat) (vs:List AVal) (h:Yx (Wk l0 x1 x2) n (y2v l0 x1 x2)=.ret vs):Ur prog (Zy prog 18) (Za prog 18 [(.dat l0.length (Zz l0)),(.int .i64 x1),(.int .i64 x2)] true []) vs:=by have:=Zc (w6f l0 x1 x2) n _ (x7m l0 x1 x2);rwa [h] at this
theorem j1i (q:Op) (a b:List R6):(z2f q a b).length ≤400:=by
 unfold z2f y8b;rcases Yk (slE q a b != 0) with g | g
 ·grind
 ·rw [g,Ac];have h:slE q a b=0:=by simpa using g
  unfold slE at h;rcases Yk (Zr a != 0) with g1 | g1
  ·grind
  rcases Yk (Zr b != 0) with g2 | g2
  ·grind
  rw [g1,g2,Ac,Ac] at h;unfold eJ at h;revert h;generalize y7s (slA q a b) _ _ _=e;intro h;rcases Yk (e != 0) with g3 | g3;all_goals simp_all [z9h]
theorem x2d (q:Op) (a b:List R4):(Wy q a b).length ≤400:=by
 unfold Wy y8b;rcases Yk (rgE q a b != 0) with g | g
 ·grind
 ·rw [g,Ac];have h:rgE q a b=0:=by simpa using g
  unfold rgE at h;rcases Yk (y2i a != 0) with g1 | g1
  ·grind
  rcases Yk (y2i b != 0) with g2 | g2
  ·grind
  rw [g1,g2,Ac,Ac] at h;unfold eJ at h;revert h;generalize y7s (rgA q a b) _ _ _=e;intro h;rcases Yk (e != 0) with g3 | g3;all_goals simp_all [z9h]
theorem v1a : ∀(l:List Pa) (acc:List R6),acc.length≤400→(whL acc l).length ≤400
 | [],_,h=>h
 | x::r,acc,_=>v1a r _ (j1i .u acc x.s)
theorem j0q (l:List Pa):(Zo l).length ≤400:=by
 grind [Zo,y8b,v1a]
theorem x1o : ∀{l:List Pa},skE l=0→ ∀x∈l,Zr x.s=0
 | [],_,x,hx=>by cases hx
 | y::l,h,x,hx=>by
  unfold skE at h;rcases Yk (Zr y.s != 0) with q | q
  ·rw [q,Ae] at h;rw [h] at q;cases q
  ·rw [q,Ac] at h;rcases AG.1 hx with rfl | hx
   ·simpa using q
   ·exact x1o h x hx
theorem w3o {l:List Pa} (h:z2h l=0):l.length≤50∧skE l=0∧skG l l.length 0=0:=by
 unfold z2h at h
 grind
theorem x1n {l:List Pa} (h:z2h l=0) {i:Nat} (hi:i<l.length):Zr (rd l i).s =0∧(rd l i).s.length ≤400:=by
 grind [x1o,w3o,Yo,z5f]
def dhA (d:Int):Int:=wrap .i64 (Int.tdiv d 2)
def qdA (d a p:Int) (t:R4):R7:=⟨wrap IntKind.u8 d,(z2v a p t.a t.b).a,(z2v a p t.a t.b).b,(z2v a p t.a t.b).c,(z2v a p t.c t.d).a,(z2v a p t.c t.d).b,(z2v a p t.c t.d).c⟩
def Jg (a:Int) (L:List R6):List Int:=L.flatMap fun r=>[y1b a r.a r.b r.c,y1b a r.d r.e r.f]
theorem Jv (a:Int) (L:List R6):(Jg a L).length =2*L.length:=by
 induction L with
 | nil=>rfl
 | cons r l ih=>grind [Jg]
def plA (a:Int) (L:List R6):List Int:=Je (Jg a L)
theorem z0m (a:Int) (L:List R6):(plA a L).length ≤2*L.length:=by have h1:=Jy (Xa (Jg a L));have h2:=compact_length_le (Xa (Jg a L));rw [Vm,Jv] at h2;exact h2
def y4k (E:Int→Int):List Int→Int
 | []=>0
 | p::r=>bif E p != 0 then E p else y4k E r
def Jr (M:Int→Int→List R4) (d:Int) (ps:List Int):List R7:=ps.flatMap fun p=>(M d p).map (qdA d (dhA d) p)
theorem z7d {M:Int→Int→List R4} (hM: ∀d p,(M d p).length ≤400) (d:Int): ∀ps,(Jr M d ps).length ≤400*ps.length
 | []=>Aq _
 | p::ps=>by have:=z7d hM d ps;have h:=hM d p;show ((M d p).map (qdA d (dhA d) p)++Jr M d ps).length ≤_;rw [AQ,BK,Bn];omega
def v0e (E:Int→Int→Int) (S:List R6):Nat→Nat→Int
 | 0,_=>0
 | k+1,d=>bif y4k (E (d:Int)) (plA (dhA (d:Int)) S) != 0 then y4k (E (d:Int)) (plA (dhA (d:Int)) S) else v0e E S k (d+1)
def z6d (M:Int→Int→List R4) (S:List R6):Nat→Nat→List R7
 | 0,_=>[]
 | k+1,d=>Jr M (d:Int) (plA (dhA (d:Int)) S)++z6d M S k (d+1)
def w3g (E:Int→Int→Int) (M:Int→Int→List R4) (S:List R6):Int:=bif v0e E S 6 0 != 0 then v0e E S 6 0 else bif decide (((z6d M S 6 0).length :Int)>3000) then 4 else 0
def x9v (d p:Int):Int:=bif Int.tmod d 2 == 1 then p else wrap .i64 (p - 1)
def y7x (d p:Int):Int:=bif Int.tmod d 2 == 1 then wrap .i64 (p - 1) else p
theorem x0w {d:Nat} (h:d<6):axO (dhA (d:Int))=true:=by
 have:d=0∨d=1∨d=2∨d=3∨d=4∨d=5:=by omega
 rcases this with rfl | rfl | rfl | rfl | rfl | rfl <;> rfl
def y2g (S A:List R6) (d p:Int):Int:=bif Xr (dhA d) S (x9v d p) == 0 then (bif Xr (dhA d) A (y7x d p) != 0 then Xr (dhA d) A (y7x d p) else Kq .d (Zg (dhA d) S (x9v d p)) (Zg (dhA d) A (y7x d p))) else Xr (dhA d) S (x9v d p)
def z0a (S A:List R6) (d p:Int):List R4:=Wy .d (Zg (dhA d) S (x9v d p)) (Zg (dhA d) A (y7x d p))
def y2f (S T:List R6) (b:R6) (d p:Int):Int:=bif Xr (dhA d) S (x9v d p) == 0 then
  (bif Xr (dhA d) [b] (y7x d p) != 0 then 4 else bif Xr (dhA d) T (y7x d p) != 0 then 4 else bif Kq .d (Zg (dhA d) [b] (y7x d p)) (Zg (dhA d) T (y7x d p)) != 0 then Kq .d (Zg (dhA d) [b] (y7x d p)) (Zg (dhA d) T (y7x d p)) else
   Kq .e (Zg (dhA d) S (x9v d p)) (Wy .d (Zg (dhA d) [b] (y7x d p)) (Zg (dhA d) T (y7x d p))))
 else Xr (dhA d) S (x9v d p)
def Ja (S T:List R6) (b:R6) (d p:Int):List R4:=Wy .e (Zg (dhA d) S (x9v d p)) (Wy .d (Zg (dhA d) [b] (y7x d p)) (Zg (dhA d) T (y7x d p)))
theorem bif5 {α:Type} (x0 x1 x2 x3 x4:Int) (R:Int→α) (T:α):(bif x0 == 0 then (bif x1 != 0 then R 4 else bif x2 != 0 then R 4 else bif x3 != 0 then R x3 else bif x4 != 0 then R x4 else T) else R x0)=bif (bif x0 == 0 then (bif x1 != 0 then 4 else bif x2 != 0 then 4 else bif x3 != 0 then x3 else x4) else x0) != 0 then R (bif x0 == 0 then (bif x1 != 0 then 4 else bif x2 != 0 then 4 else bif x3 != 0 then x3 else x4) else x0) else T:=by grind
section
variable (l:List Pa) (x1:Int) (hx:0≤x1∧x1<(l.length:Int)) (hS:(rd l x1.toNat).s.length ≤400)
include hx hS
theorem u6e (d:Int) (hd:axO (dhA d)=true) (out:List R7): ∀(k j:Nat) (acc:List Int),j+k=(rd l x1.toNat).s.length →acc=Jg (dhA d) ((rd l x1.toNat).s.take j)→
  ∃n,∀N,Yx (Wp l x1) (N+n) (.to (.h1 acc (j:Int) d (dhA d) (dhA d) out d (dhA d)))=Yx (Wp l x1) N (.to (.h2 (plA (dhA d) (rd l x1.toNat).s).length ((plA (dhA d) (rd l x1.toNat).s).length :Int) 0 d out d (dhA d) (Wn (Xa (Jg (dhA d) (rd l x1.toNat).s)))))
 | 0,j,acc,h,h'=>by
  have _u:=hS;have _v:=hx;have e:acc=Jg (dhA d) (rd l x1.toNat).s :=by grind
  subst e;have hle:=Jv (dhA d) (rd l x1.toNat).s;refine ⟨1,fun N=> ?_⟩;rw [Zw];simp (disch:=omega) only [Wp,Jo,z0n,y0w,Yf,Yw,Yu,Ao,Ae,Ac];rfl
 | k+1,j,acc,h,h'=>by
  have hle:acc.length≤2*j:=by grind [Jv]
  have oA: ∀x y z,Ux (dhA d) x y z=true:=fun _ _ _=>hd;obtain ⟨n,hn⟩:=u6e d hd out k (j+1) (acc++Jg (dhA d) [rd (rd l x1.toNat).s j]) (by omega) (by
   rw [h',A2]
   grind [Yo,Jg])
  refine ⟨n+1,fun N=> ?_⟩;rw [←AC,Zw,←hn N];simp (disch:=omega) only [Wp,oA,Zd,Zq,Zs,Zt,Yb,Yw,Yu,Zf,Zk,Zx,Yc,Zj,Af,Ao,Ah,Ak,Ae,Ac];rfl
theorem u6c (d:Int) (hd:axO (dhA d)=true) (p:Int) (R:List R4) (hR:R.length≤400) (n5:Nat) (v6 v7:Int) (P:List Int): ∀(k j:Nat) (out:List R7),j+k=R.length→out.length≤10000000+j→
  ∃n,∀N,Yx (Wp l x1) (N+n) (.to (.h3 p R (R.length:Int) (j:Int) n5 v6 v7 d out d (dhA d) P))=Yx (Wp l x1) N (.to (.h2 n5 v6 (wrap .i64 (v7+1)) d (out++(R.drop j).map (qdA d (dhA d) p)) d (dhA d) P))
 | 0,j,out,h,h'=>by
  have _u:=hS;have _v:=hx;refine ⟨1,fun N=> ?_⟩
  grind [Zw,Wp]
 | k+1,j,out,h,h'=>by
  have hj:j<R.length:=by omega
  have oB: ∀x y z,Kg (dhA d) x y z=true:=fun _ _ _=>hd;obtain ⟨n,hn⟩:=u6c d hd p R hR n5 v6 v7 P k (j+1) (out++[qdA d (dhA d) p (rd R j)]) (by omega) (by grind);refine ⟨n+1,fun N=> ?_⟩;rw [Yq hj,AU,←AC,Zw,show out++qdA d (dhA d) p (rd R j)::(R.drop (j+1)).map (qdA d (dhA d) p)=(out++[qdA d (dhA d) p (rd R j)])++(R.drop (j+1)).map (qdA d (dhA d) p) by simp,←hn N];simp (disch:=omega) only [Wp,oB,Zd,Zq,Zs,Zt,Yb,Yw,Yu,Zf,Zk,Zx,show Nat.beq 7 7=true from rfl,Zj,Af,Ao,Ah,Ak,Ae,Ac];rfl
theorem skn_eS (d:Nat) (hd6:d<6) (i:Nat) (hi:i<(plA (dhA (d:Int)) (rd l x1.toNat).s).length) (out:List R7):Wp l x1 (.h2 (plA (dhA (d:Int)) (rd l x1.toNat).s).length ((plA (dhA (d:Int)) (rd l x1.toNat).s).length :Int) (i:Int) (d:Int) out (d:Int) (dhA (d:Int)) (Wn (Xa (Jg (dhA (d:Int)) (rd l x1.toNat).s))))=bif (y2g (rd l x1.toNat).s (Zo l)) (d:Int) (rd (plA (dhA (d:Int)) (rd l x1.toNat).s) i) != 0 then .ret [.nils,.int .i64 ((y2g (rd l x1.toNat).s (Zo l)) (d:Int) (rd (plA (dhA (d:Int)) (rd l x1.toNat).s) i))] else
   .to (.h3 (rd (plA (dhA (d:Int)) (rd l x1.toNat).s) i) ((z0a (rd l x1.toNat).s (Zo l)) (d:Int) (rd (plA (dhA (d:Int)) (rd l x1.toNat).s) i)) (((z0a (rd l x1.toNat).s (Zo l)) (d:Int) (rd (plA (dhA (d:Int)) (rd l x1.toNat).s) i)).length :Int) ((0:Nat):Int) (plA (dhA (d:Int)) (rd l x1.toNat).s).length ((plA (dhA (d:Int)) (rd l x1.toNat).s).length :Int) (i:Int) (d:Int) out (d:Int) (dhA (d:Int)) (Wn (Xa (Jg (dhA (d:Int)) (rd l x1.toNat).s)))):=by
  have _v:=hx;have hd:=x0w hd6;have hp:=z0m (dhA (d:Int)) (rd l x1.toNat).s;have hpl:(Wn (Xa (Jg (dhA (d:Int)) (rd l x1.toNat).s))).length =2*(rd l x1.toNat).s.length :=by rw [Jy,Vm,Jv]
  have r0:rd (Wn (Xa (Jg (dhA (d:Int)) (rd l x1.toNat).s))) i=rd (plA (dhA (d:Int)) (rd l x1.toNat).s) i:=z5z _ _ hi;have o: ∀L p,L.length≤400→Xi (dhA (d:Int)) L p=true:=fun L p hL=>by
   show (axO (dhA (d:Int))&&decide (L.length≤1000))=true
   grind
  have oS: ∀p,Xi (dhA (d:Int)) (rd l x1.toNat).s p=true:=fun p=>o _ _ hS;have oW: ∀p,Xi (dhA (d:Int)) (Zo l) p=true:=fun p=>o _ _ (j0q l);have ow:Qv l=Qv l:=rfl;have oR: ∀q a b,Jh q a b=true:=fun _ _ _=>rfl;rcases Yk (Int.tmod (d:Int) 2 == 1) with q | q
  ·simp (disch:=omega) only [Wp,q,r0,oS,oW,oR,Zd,Zq,Zs,Zt,Yb,Yw,Yu,Zj,Af,Ao,Ah,Ak,Ae,Ac,y2g,z0a,x9v,y7x]
   grind
  ·simp (disch:=omega) only [Wp,q,r0,oS,oW,oR,Zd,Zq,Zs,Zt,Yb,Yw,Yu,Zj,Af,Ao,Ah,Ak,Ae,Ac,y2g,z0a,x9v,y7x]
   grind
theorem u6d (d:Nat) (hd6:d<6): ∀(k i:Nat) (out:List R7),i+k=(plA (dhA (d:Int)) (rd l x1.toNat).s).length →out.length+400*k≤8000000→
  (y4k ((y2g (rd l x1.toNat).s (Zo l)) (d:Int)) ((plA (dhA (d:Int)) (rd l x1.toNat).s).drop i)=0→ ∃n,∀N,Yx (Wp l x1) (N+n) (.to (.h2 (plA (dhA (d:Int)) (rd l x1.toNat).s).length ((plA (dhA (d:Int)) (rd l x1.toNat).s).length :Int) (i:Int) (d:Int) out (d:Int) (dhA (d:Int)) (Wn (Xa (Jg (dhA (d:Int)) (rd l x1.toNat).s)))))=Yx (Wp l x1) N (.to (.h0 ((d+1:Nat):Int) (out++Jr (z0a (rd l x1.toNat).s (Zo l)) (d:Int) ((plA (dhA (d:Int)) (rd l x1.toNat).s).drop i)))))∧
  ((y4k ((y2g (rd l x1.toNat).s (Zo l)) (d:Int)) ((plA (dhA (d:Int)) (rd l x1.toNat).s).drop i) != 0)=true→ ∃n,∀N,Yx (Wp l x1) (N+n) (.to (.h2 (plA (dhA (d:Int)) (rd l x1.toNat).s).length ((plA (dhA (d:Int)) (rd l x1.toNat).s).length :Int) (i:Int) (d:Int) out (d:Int) (dhA (d:Int)) (Wn (Xa (Jg (dhA (d:Int)) (rd l x1.toNat).s)))))=.ret [.nils,.int .i64 (y4k ((y2g (rd l x1.toNat).s (Zo l)) (d:Int)) ((plA (dhA (d:Int)) (rd l x1.toNat).s).drop i))])
 | 0,i,out,h,h'=>by
  rw [As (show (plA (dhA (d:Int)) (rd l x1.toNat).s).length ≤i by omega)];refine ⟨fun _=>⟨1,fun N=> ?_⟩,fun e=>by cases e⟩
  grind [Jr,Zw,Wp,Zk]
 | k+1,i,out,h,h'=>by
  have hi:i<(plA (dhA (d:Int)) (rd l x1.toNat).s).length :=by omega
  have hp:=z0m (dhA (d:Int)) (rd l x1.toNat).s;rw [Yq hi];have eE:y4k ((y2g (rd l x1.toNat).s (Zo l)) (d:Int)) (rd (plA (dhA (d:Int)) (rd l x1.toNat).s) i::(plA (dhA (d:Int)) (rd l x1.toNat).s).drop (i+1))=bif (y2g (rd l x1.toNat).s (Zo l)) (d:Int) (rd (plA (dhA (d:Int)) (rd l x1.toNat).s) i) != 0 then (y2g (rd l x1.toNat).s (Zo l)) (d:Int) (rd (plA (dhA (d:Int)) (rd l x1.toNat).s) i) else y4k ((y2g (rd l x1.toNat).s (Zo l)) (d:Int)) ((plA (dhA (d:Int)) (rd l x1.toNat).s).drop (i+1)):=rfl;have eM:Jr (z0a (rd l x1.toNat).s (Zo l)) (d:Int) (rd (plA (dhA (d:Int)) (rd l x1.toNat).s) i::(plA (dhA (d:Int)) (rd l x1.toNat).s).drop (i+1))=((z0a (rd l x1.toNat).s (Zo l)) (d:Int) (rd (plA (dhA (d:Int)) (rd l x1.toNat).s) i)).map (qdA (d:Int) (dhA (d:Int)) (rd (plA (dhA (d:Int)) (rd l x1.toNat).s) i))++Jr (z0a (rd l x1.toNat).s (Zo l)) (d:Int) ((plA (dhA (d:Int)) (rd l x1.toNat).s).drop (i+1)):=rfl;rw [eE,eM];have eS:=skn_eS l x1 hx hS d hd6 i hi out;rcases Yk ((y2g (rd l x1.toNat).s (Zo l)) (d:Int) (rd (plA (dhA (d:Int)) (rd l x1.toNat).s) i) != 0) with z | z
  ·rw [z,Ae];refine ⟨fun e=>(by grind),fun _=>⟨1,fun N=> ?_⟩⟩
   grind [Zw,Zp]
  ·rw [z,Ac];have hm:((z0a (rd l x1.toNat).s (Zo l)) (d:Int) (rd (plA (dhA (d:Int)) (rd l x1.toNat).s) i)).length ≤400:=x2d _ _ _;obtain ⟨n2,h2⟩:=u6c l x1 hx hS (d:Int) (x0w hd6) (rd (plA (dhA (d:Int)) (rd l x1.toNat).s) i) ((z0a (rd l x1.toNat).s (Zo l)) (d:Int) (rd (plA (dhA (d:Int)) (rd l x1.toNat).s) i)) hm (plA (dhA (d:Int)) (rd l x1.toNat).s).length ((plA (dhA (d:Int)) (rd l x1.toNat).s).length :Int) (i:Int) (Wn (Xa (Jg (dhA (d:Int)) (rd l x1.toNat).s))) ((z0a (rd l x1.toNat).s (Zo l)) (d:Int) (rd (plA (dhA (d:Int)) (rd l x1.toNat).s) i)).length 0 out (Af _) (by omega);rw [AT] at h2;obtain ⟨a1,a2⟩:=u6d d hd6 k (i+1) (out++((z0a (rd l x1.toNat).s (Zo l)) (d:Int) (rd (plA (dhA (d:Int)) (rd l x1.toNat).s) i)).map (qdA (d:Int) (dhA (d:Int)) (rd (plA (dhA (d:Int)) (rd l x1.toNat).s) i))) (by omega) (by grind);have ew:wrap .i64 ((i:Int)+1)=((i+1:Nat):Int):=by grind [Zk]
   have st: ∀N,Yx (Wp l x1) (N+n2+1) (.to (.h2 (plA (dhA (d:Int)) (rd l x1.toNat).s).length ((plA (dhA (d:Int)) (rd l x1.toNat).s).length :Int) (i:Int) (d:Int) out (d:Int) (dhA (d:Int)) (Wn (Xa (Jg (dhA (d:Int)) (rd l x1.toNat).s)))))=Yx (Wp l x1) N (.to (.h2 (plA (dhA (d:Int)) (rd l x1.toNat).s).length ((plA (dhA (d:Int)) (rd l x1.toNat).s).length :Int) ((i+1:Nat):Int) (d:Int) (out++((z0a (rd l x1.toNat).s (Zo l)) (d:Int) (rd (plA (dhA (d:Int)) (rd l x1.toNat).s) i)).map (qdA (d:Int) (dhA (d:Int)) (rd (plA (dhA (d:Int)) (rd l x1.toNat).s) i))) (d:Int) (dhA (d:Int)) (Wn (Xa (Jg (dhA (d:Int)) (rd l x1.toNat).s))))):=fun N=>by
    grind [Zw]
   refine ⟨fun e=> ?_,fun e=> ?_⟩
   ·obtain ⟨n,hn⟩:=a1 e;refine ⟨n+n2+1,fun N=> ?_⟩
    grind
   ·obtain ⟨n,hn⟩:=a2 e;refine ⟨n+n2+1,fun N=> ?_⟩;rw [←hn N,←st (N+n),AC N,AC N,AC n]
theorem u6f : ∀(k d:Nat) (out:List R7),d+k=6→out.length≤400000*d→
  ∃n,Yx (Wp l x1) n (.to (.h0 (d:Int) out))=.ret (z9p (bif v0e (y2g (rd l x1.toNat).s (Zo l)) (rd l x1.toNat).s k d != 0 then v0e (y2g (rd l x1.toNat).s (Zo l)) (rd l x1.toNat).s k d else bif decide (((out++z6d (z0a (rd l x1.toNat).s (Zo l)) (rd l x1.toNat).s k d).length :Int)>3000) then 4 else 0) (out++z6d (z0a (rd l x1.toNat).s (Zo l)) (rd l x1.toNat).s k d))
 | 0,d,out,h,h'=>by refine ⟨1,?_⟩;rw [Zw,show z6d (z0a (rd l x1.toNat).s (Zo l)) (rd l x1.toNat).s 0 d=[] from rfl,AF];simp (disch:=omega) only [Wp,Yf,Ac];show Yx (Wp l x1) 0 _=.ret (z9p (bif decide ((out.length:Int)>3000) then 4 else 0) out);cases decide ((out.length:Int)>3000) <;> rfl
 | k+1,d,out,h,h'=>by
  have hp:=z0m (dhA (d:Int)) (rd l x1.toNat).s;obtain ⟨n1,h1⟩:=u6e l x1 hx hS (d:Int) (x0w (show d<6 by omega)) out (rd l x1.toNat).s.length 0 [] (Af _) rfl;obtain ⟨a1,a2⟩:=u6d l x1 hx hS d (by omega) (plA (dhA (d:Int)) (rd l x1.toNat).s).length 0 out (Af _) (by omega);rw [AT] at a1 a2;have e0:Wp l x1 (.h0 (d:Int) out)=.to (.h1 [] ((0:Nat):Int) (d:Int) (dhA (d:Int)) (dhA (d:Int)) out (d:Int) (dhA (d:Int))):=by simp (disch:=omega) only [Wp,Zs,Ae];rfl
  have eE:v0e (y2g (rd l x1.toNat).s (Zo l)) (rd l x1.toNat).s (k+1) d=bif y4k ((y2g (rd l x1.toNat).s (Zo l)) (d:Int)) (plA (dhA (d:Int)) (rd l x1.toNat).s) != 0 then y4k ((y2g (rd l x1.toNat).s (Zo l)) (d:Int)) (plA (dhA (d:Int)) (rd l x1.toNat).s) else v0e (y2g (rd l x1.toNat).s (Zo l)) (rd l x1.toNat).s k (d+1):=rfl;have eN:z6d (z0a (rd l x1.toNat).s (Zo l)) (rd l x1.toNat).s (k+1) d=Jr (z0a (rd l x1.toNat).s (Zo l)) (d:Int) (plA (dhA (d:Int)) (rd l x1.toNat).s)++z6d (z0a (rd l x1.toNat).s (Zo l)) (rd l x1.toNat).s k (d+1):=rfl;rw [eE,eN];rcases Yk (y4k ((y2g (rd l x1.toNat).s (Zo l)) (d:Int)) (plA (dhA (d:Int)) (rd l x1.toNat).s) != 0) with z | z
  ·obtain ⟨n2,h2⟩:=a2 z;refine ⟨0+n2+n1+1,?_⟩;rw [Zw,e0,h1 (0+n2),z,Ae,Vh _ (by grind),z,Ae];exact h2 0
  ·obtain ⟨n2,h2⟩:=a1 (by simpa using z);have hl:=z7d (M:=(z0a (rd l x1.toNat).s (Zo l))) (fun _ _=>x2d _ _ _) (d:Int) (plA (dhA (d:Int)) (rd l x1.toNat).s);obtain ⟨n3,h3⟩:=u6f k (d+1) (out++Jr (z0a (rd l x1.toNat).s (Zo l)) (d:Int) (plA (dhA (d:Int)) (rd l x1.toNat).s)) (by omega) (by grind);refine ⟨n3+n2+n1+1,?_⟩
   grind [Zw]
end
section
variable (l:List Pa) (x1 x2:Int) (hx:0≤x1∧x1<(l.length:Int)) (hS:(rd l x1.toNat).s.length ≤400) (hy:0≤x2∧x2<(l.length:Int)) (hT:(rd l x2.toNat).s.length ≤400)
include hx hS hy hT
theorem u5j (d:Int) (hd:axO (dhA d)=true) (out:List R7): ∀(k j:Nat) (acc:List Int),j+k=(rd l x1.toNat).s.length →acc=Jg (dhA d) ((rd l x1.toNat).s.take j)→
  ∃n,∀N,Yx (Wk l x1 x2) (N+n) (.to (.h1 acc (j:Int) d (dhA d) (dhA d) out d (dhA d)))=Yx (Wk l x1 x2) N (.to (.h2 (plA (dhA d) (rd l x1.toNat).s).length ((plA (dhA d) (rd l x1.toNat).s).length :Int) 0 d out d (dhA d) (Wn (Xa (Jg (dhA d) (rd l x1.toNat).s)))))
 | 0,j,acc,h,h'=>by
  have _u:=hS;have _v:=hx;have _w:=hy;have _y:=hT;have e:acc=Jg (dhA d) (rd l x1.toNat).s :=by grind
  subst e;have hle:=Jv (dhA d) (rd l x1.toNat).s;refine ⟨1,fun N=> ?_⟩;rw [Zw];simp (disch:=omega) only [Wk,Jo,z0n,y0w,Yf,Yw,Yu,Ao,Ae,Ac];rfl
 | k+1,j,acc,h,h'=>by
  have hle:acc.length≤2*j:=by grind [Jv]
  have oA: ∀x y z,Ux (dhA d) x y z=true:=fun _ _ _=>hd;obtain ⟨n,hn⟩:=u5j d hd out k (j+1) (acc++Jg (dhA d) [rd (rd l x1.toNat).s j]) (by omega) (by
   rw [h',A2]
   grind [Yo,Jg])
  refine ⟨n+1,fun N=> ?_⟩;rw [←AC,Zw,←hn N];simp (disch:=omega) only [Wk,oA,Zd,Zq,Zs,Zt,Yb,Yw,Yu,Zf,Zk,Zx,Yc,Zj,Af,Ao,Ah,Ak,Ae,Ac];rfl
theorem u5h (d:Int) (hd:axO (dhA d)=true) (p:Int) (R:List R4) (hR:R.length≤400) (n5:Nat) (v6 v7:Int) (P:List Int): ∀(k j:Nat) (out:List R7),j+k=R.length→out.length≤10000000+j→
  ∃n,∀N,Yx (Wk l x1 x2) (N+n) (.to (.h3 p R (R.length:Int) (j:Int) n5 v6 v7 d out d (dhA d) P))=Yx (Wk l x1 x2) N (.to (.h2 n5 v6 (wrap .i64 (v7+1)) d (out++(R.drop j).map (qdA d (dhA d) p)) d (dhA d) P))
 | 0,j,out,h,h'=>by
  have _u:=hS;have _v:=hx;have _w:=hy;have _y:=hT;refine ⟨1,fun N=> ?_⟩
  grind [Zw,Wk]
 | k+1,j,out,h,h'=>by
  have hj:j<R.length:=by omega
  have oB: ∀x y z,Kg (dhA d) x y z=true:=fun _ _ _=>hd;obtain ⟨n,hn⟩:=u5h d hd p R hR n5 v6 v7 P k (j+1) (out++[qdA d (dhA d) p (rd R j)]) (by omega) (by grind);refine ⟨n+1,fun N=> ?_⟩;rw [Yq hj,AU,←AC,Zw,show out++qdA d (dhA d) p (rd R j)::(R.drop (j+1)).map (qdA d (dhA d) p)=(out++[qdA d (dhA d) p (rd R j)])++(R.drop (j+1)).map (qdA d (dhA d) p) by simp,←hn N];simp (disch:=omega) only [Wk,oB,Zd,Zq,Zs,Zt,Yb,Yw,Yu,Zf,Zk,Zx,show Nat.beq 7 7=true from rfl,Zj,Af,Ao,Ah,Ak,Ae,Ac];rfl
theorem stp_eS (d:Nat) (hd6:d<6) (i:Nat) (hi:i<(plA (dhA (d:Int)) (rd l x1.toNat).s).length) (out:List R7):Wk l x1 x2 (.h2 (plA (dhA (d:Int)) (rd l x1.toNat).s).length ((plA (dhA (d:Int)) (rd l x1.toNat).s).length :Int) (i:Int) (d:Int) out (d:Int) (dhA (d:Int)) (Wn (Xa (Jg (dhA (d:Int)) (rd l x1.toNat).s))))=bif (y2f (rd l x1.toNat).s (rd l x2.toNat).s (bxP (rd l x2.toNat))) (d:Int) (rd (plA (dhA (d:Int)) (rd l x1.toNat).s) i) != 0 then .ret [.nils,.int .i64 ((y2f (rd l x1.toNat).s (rd l x2.toNat).s (bxP (rd l x2.toNat))) (d:Int) (rd (plA (dhA (d:Int)) (rd l x1.toNat).s) i))] else
   .to (.h3 (rd (plA (dhA (d:Int)) (rd l x1.toNat).s) i) ((Ja (rd l x1.toNat).s (rd l x2.toNat).s (bxP (rd l x2.toNat))) (d:Int) (rd (plA (dhA (d:Int)) (rd l x1.toNat).s) i)) (((Ja (rd l x1.toNat).s (rd l x2.toNat).s (bxP (rd l x2.toNat))) (d:Int) (rd (plA (dhA (d:Int)) (rd l x1.toNat).s) i)).length :Int) ((0:Nat):Int) (plA (dhA (d:Int)) (rd l x1.toNat).s).length ((plA (dhA (d:Int)) (rd l x1.toNat).s).length :Int) (i:Int) (d:Int) out (d:Int) (dhA (d:Int)) (Wn (Xa (Jg (dhA (d:Int)) (rd l x1.toNat).s)))):=by
  have _v:=hx;have _w:=hy;have _y:=hT;have hd:=x0w hd6;have hp:=z0m (dhA (d:Int)) (rd l x1.toNat).s;have hpl:(Wn (Xa (Jg (dhA (d:Int)) (rd l x1.toNat).s))).length =2*(rd l x1.toNat).s.length :=by rw [Jy,Vm,Jv]
  have r0:rd (Wn (Xa (Jg (dhA (d:Int)) (rd l x1.toNat).s))) i=rd (plA (dhA (d:Int)) (rd l x1.toNat).s) i:=z5z _ _ hi;have o: ∀L p,L.length≤400→Xi (dhA (d:Int)) L p=true:=fun L p hL=>by
   show (axO (dhA (d:Int))&&decide (L.length≤1000))=true
   grind
  have oS: ∀p,Xi (dhA (d:Int)) (rd l x1.toNat).s p=true:=fun p=>o _ _ hS;have oW: ∀p,Xi (dhA (d:Int)) (rd l x2.toNat).s p=true:=fun p=>o _ _ hT;have oB: ∀p,Xi (dhA (d:Int)) [bxP (rd l x2.toNat)] p=true:=fun p=>o _ _ (show 1≤400 by decide);unfold bxP at oB;have oR: ∀q a b,Jh q a b=true:=fun _ _ _=>rfl;rcases Yk (Int.tmod (d:Int) 2 == 1) with q | q
  ·simp (disch:=omega) only [Wk,q,r0,oS,oW,oB,oR,Zd,Zq,Zs,Zt,Yb,Yw,Yu,Zj,Af,Ao,Ah,Ak,Ae,Ac,y2f,Ja,x9v,y7x];exact bif5 _ _ _ _ _ (fun e=>Xw.ret [.nils,.int .i64 e]) _
  ·simp (disch:=omega) only [Wk,q,r0,oS,oW,oB,oR,Zd,Zq,Zs,Zt,Yb,Yw,Yu,Zj,Af,Ao,Ah,Ak,Ae,Ac,y2f,Ja,x9v,y7x];exact bif5 _ _ _ _ _ (fun e=>Xw.ret [.nils,.int .i64 e]) _
theorem u5i (d:Nat) (hd6:d<6): ∀(k i:Nat) (out:List R7),i+k=(plA (dhA (d:Int)) (rd l x1.toNat).s).length →out.length+400*k≤8000000→
  (y4k ((y2f (rd l x1.toNat).s (rd l x2.toNat).s (bxP (rd l x2.toNat))) (d:Int)) ((plA (dhA (d:Int)) (rd l x1.toNat).s).drop i)=0→ ∃n,∀N,Yx (Wk l x1 x2) (N+n) (.to (.h2 (plA (dhA (d:Int)) (rd l x1.toNat).s).length ((plA (dhA (d:Int)) (rd l x1.toNat).s).length :Int) (i:Int) (d:Int) out (d:Int) (dhA (d:Int)) (Wn (Xa (Jg (dhA (d:Int)) (rd l x1.toNat).s)))))=Yx (Wk l x1 x2) N (.to (.h0 ((d+1:Nat):Int) (out++Jr (Ja (rd l x1.toNat).s (rd l x2.toNat).s (bxP (rd l x2.toNat))) (d:Int) ((plA (dhA (d:Int)) (rd l x1.toNat).s).drop i)))))∧
  ((y4k ((y2f (rd l x1.toNat).s (rd l x2.toNat).s (bxP (rd l x2.toNat))) (d:Int)) ((plA (dhA (d:Int)) (rd l x1.toNat).s).drop i) != 0)=true→ ∃n,∀N,Yx (Wk l x1 x2) (N+n) (.to (.h2 (plA (dhA (d:Int)) (rd l x1.toNat).s).length ((plA (dhA (d:Int)) (rd l x1.toNat).s).length :Int) (i:Int) (d:Int) out (d:Int) (dhA (d:Int)) (Wn (Xa (Jg (dhA (d:Int)) (rd l x1.toNat).s)))))=.ret [.nils,.int .i64 (y4k ((y2f (rd l x1.toNat).s (rd l x2.toNat).s (bxP (rd l x2.toNat))) (d:Int)) ((plA (dhA (d:Int)) (rd l x1.toNat).s).drop i))])
 | 0,i,out,h,h'=>by
  rw [As (show (plA (dhA (d:Int)) (rd l x1.toNat).s).length ≤i by omega)];refine ⟨fun _=>⟨1,fun N=> ?_⟩,fun e=>by cases e⟩
  grind [Jr,Zw,Wk,Zk]
 | k+1,i,out,h,h'=>by
  have hi:i<(plA (dhA (d:Int)) (rd l x1.toNat).s).length :=by omega
  have hp:=z0m (dhA (d:Int)) (rd l x1.toNat).s;rw [Yq hi];have eE:y4k ((y2f (rd l x1.toNat).s (rd l x2.toNat).s (bxP (rd l x2.toNat))) (d:Int)) (rd (plA (dhA (d:Int)) (rd l x1.toNat).s) i::(plA (dhA (d:Int)) (rd l x1.toNat).s).drop (i+1))=bif (y2f (rd l x1.toNat).s (rd l x2.toNat).s (bxP (rd l x2.toNat))) (d:Int) (rd (plA (dhA (d:Int)) (rd l x1.toNat).s) i) != 0 then (y2f (rd l x1.toNat).s (rd l x2.toNat).s (bxP (rd l x2.toNat))) (d:Int) (rd (plA (dhA (d:Int)) (rd l x1.toNat).s) i) else y4k ((y2f (rd l x1.toNat).s (rd l x2.toNat).s (bxP (rd l x2.toNat))) (d:Int)) ((plA (dhA (d:Int)) (rd l x1.toNat).s).drop (i+1)):=rfl;have eM:Jr (Ja (rd l x1.toNat).s (rd l x2.toNat).s (bxP (rd l x2.toNat))) (d:Int) (rd (plA (dhA (d:Int)) (rd l x1.toNat).s) i::(plA (dhA (d:Int)) (rd l x1.toNat).s).drop (i+1))=((Ja (rd l x1.toNat).s (rd l x2.toNat).s (bxP (rd l x2.toNat))) (d:Int) (rd (plA (dhA (d:Int)) (rd l x1.toNat).s) i)).map (qdA (d:Int) (dhA (d:Int)) (rd (plA (dhA (d:Int)) (rd l x1.toNat).s) i))++Jr (Ja (rd l x1.toNat).s (rd l x2.toNat).s (bxP (rd l x2.toNat))) (d:Int) ((plA (dhA (d:Int)) (rd l x1.toNat).s).drop (i+1)):=rfl;rw [eE,eM];have eS:=stp_eS l x1 x2 hx hS hy hT d hd6 i hi out;rcases Yk ((y2f (rd l x1.toNat).s (rd l x2.toNat).s (bxP (rd l x2.toNat))) (d:Int) (rd (plA (dhA (d:Int)) (rd l x1.toNat).s) i) != 0) with z | z
  ·rw [z,Ae];refine ⟨fun e=>(by grind),fun _=>⟨1,fun N=> ?_⟩⟩
   grind [Zw,Zp]
  ·rw [z,Ac];have hm:((Ja (rd l x1.toNat).s (rd l x2.toNat).s (bxP (rd l x2.toNat))) (d:Int) (rd (plA (dhA (d:Int)) (rd l x1.toNat).s) i)).length ≤400:=x2d _ _ _;obtain ⟨n2,h2⟩:=u5h l x1 x2 hx hS hy hT (d:Int) (x0w hd6) (rd (plA (dhA (d:Int)) (rd l x1.toNat).s) i) ((Ja (rd l x1.toNat).s (rd l x2.toNat).s (bxP (rd l x2.toNat))) (d:Int) (rd (plA (dhA (d:Int)) (rd l x1.toNat).s) i)) hm (plA (dhA (d:Int)) (rd l x1.toNat).s).length ((plA (dhA (d:Int)) (rd l x1.toNat).s).length :Int) (i:Int) (Wn (Xa (Jg (dhA (d:Int)) (rd l x1.toNat).s))) ((Ja (rd l x1.toNat).s (rd l x2.toNat).s (bxP (rd l x2.toNat))) (d:Int) (rd (plA (dhA (d:Int)) (rd l x1.toNat).s) i)).length 0 out (Af _) (by omega);rw [AT] at h2;obtain ⟨a1,a2⟩:=u5i d hd6 k (i+1) (out++((Ja (rd l x1.toNat).s (rd l x2.toNat).s (bxP (rd l x2.toNat))) (d:Int) (rd (plA (dhA (d:Int)) (rd l x1.toNat).s) i)).map (qdA (d:Int) (dhA (d:Int)) (rd (plA (dhA (d:Int)) (rd l x1.toNat).s) i))) (by omega) (by grind);have ew:wrap .i64 ((i:Int)+1)=((i+1:Nat):Int):=by grind [Zk]
   have st: ∀N,Yx (Wk l x1 x2) (N+n2+1) (.to (.h2 (plA (dhA (d:Int)) (rd l x1.toNat).s).length ((plA (dhA (d:Int)) (rd l x1.toNat).s).length :Int) (i:Int) (d:Int) out (d:Int) (dhA (d:Int)) (Wn (Xa (Jg (dhA (d:Int)) (rd l x1.toNat).s)))))=Yx (Wk l x1 x2) N (.to (.h2 (plA (dhA (d:Int)) (rd l x1.toNat).s).length ((plA (dhA (d:Int)) (rd l x1.toNat).s).length :Int) ((i+1:Nat):Int) (d:Int) (out++((Ja (rd l x1.toNat).s (rd l x2.toNat).s (bxP (rd l x2.toNat))) (d:Int) (rd (plA (dhA (d:Int)) (rd l x1.toNat).s) i)).map (qdA (d:Int) (dhA (d:Int)) (rd (plA (dhA (d:Int)) (rd l x1.toNat).s) i))) (d:Int) (dhA (d:Int)) (Wn (Xa (Jg (dhA (d:Int)) (rd l x1.toNat).s))))):=fun N=>by
    grind [Zw]
   refine ⟨fun e=> ?_,fun e=> ?_⟩
   ·obtain ⟨n,hn⟩:=a1 e;refine ⟨n+n2+1,fun N=> ?_⟩
    grind
   ·obtain ⟨n,hn⟩:=a2 e;refine ⟨n+n2+1,fun N=> ?_⟩;rw [←hn N,←st (N+n),AC N,AC N,AC n]
theorem u5k : ∀(k d:Nat) (out:List R7),d+k=6→out.length≤400000*d→
  ∃n,Yx (Wk l x1 x2) n (.to (.h0 (d:Int) out))=.ret (z9p (bif v0e (y2f (rd l x1.toNat).s (rd l x2.toNat).s (bxP (rd l x2.toNat))) (rd l x1.toNat).s k d != 0 then v0e (y2f (rd l x1.toNat).s (rd l x2.toNat).s (bxP (rd l x2.toNat))) (rd l x1.toNat).s k d else bif decide (((out++z6d (Ja (rd l x1.toNat).s (rd l x2.toNat).s (bxP (rd l x2.toNat))) (rd l x1.toNat).s k d).length :Int)>3000) then 4 else 0) (out++z6d (Ja (rd l x1.toNat).s (rd l x2.toNat).s (bxP (rd l x2.toNat))) (rd l x1.toNat).s k d))
 | 0,d,out,h,h'=>by refine ⟨1,?_⟩;rw [Zw,show z6d (Ja (rd l x1.toNat).s (rd l x2.toNat).s (bxP (rd l x2.toNat))) (rd l x1.toNat).s 0 d=[] from rfl,AF];simp (disch:=omega) only [Wk,Yf,Ac];show Yx (Wk l x1 x2) 0 _=.ret (z9p (bif decide ((out.length:Int)>3000) then 4 else 0) out);cases decide ((out.length:Int)>3000) <;> rfl
 | k+1,d,out,h,h'=>by
  have hp:=z0m (dhA (d:Int)) (rd l x1.toNat).s;obtain ⟨n1,h1⟩:=u5j l x1 x2 hx hS hy hT (d:Int) (x0w (show d<6 by omega)) out (rd l x1.toNat).s.length 0 [] (Af _) rfl;obtain ⟨a1,a2⟩:=u5i l x1 x2 hx hS hy hT d (by omega) (plA (dhA (d:Int)) (rd l x1.toNat).s).length 0 out (Af _) (by omega);rw [AT] at a1 a2;have e0:Wk l x1 x2 (.h0 (d:Int) out)=.to (.h1 [] ((0:Nat):Int) (d:Int) (dhA (d:Int)) (dhA (d:Int)) out (d:Int) (dhA (d:Int))):=by simp (disch:=omega) only [Wk,Zs,Ae];rfl
  have eE:v0e (y2f (rd l x1.toNat).s (rd l x2.toNat).s (bxP (rd l x2.toNat))) (rd l x1.toNat).s (k+1) d=bif y4k ((y2f (rd l x1.toNat).s (rd l x2.toNat).s (bxP (rd l x2.toNat))) (d:Int)) (plA (dhA (d:Int)) (rd l x1.toNat).s) != 0 then y4k ((y2f (rd l x1.toNat).s (rd l x2.toNat).s (bxP (rd l x2.toNat))) (d:Int)) (plA (dhA (d:Int)) (rd l x1.toNat).s) else v0e (y2f (rd l x1.toNat).s (rd l x2.toNat).s (bxP (rd l x2.toNat))) (rd l x1.toNat).s k (d+1):=rfl;have eN:z6d (Ja (rd l x1.toNat).s (rd l x2.toNat).s (bxP (rd l x2.toNat))) (rd l x1.toNat).s (k+1) d=Jr (Ja (rd l x1.toNat).s (rd l x2.toNat).s (bxP (rd l x2.toNat))) (d:Int) (plA (dhA (d:Int)) (rd l x1.toNat).s)++z6d (Ja (rd l x1.toNat).s (rd l x2.toNat).s (bxP (rd l x2.toNat))) (rd l x1.toNat).s k (d+1):=rfl;rw [eE,eN];rcases Yk (y4k ((y2f (rd l x1.toNat).s (rd l x2.toNat).s (bxP (rd l x2.toNat))) (d:Int)) (plA (dhA (d:Int)) (rd l x1.toNat).s) != 0) with z | z
  ·obtain ⟨n2,h2⟩:=a2 z;refine ⟨0+n2+n1+1,?_⟩;rw [Zw,e0,h1 (0+n2),z,Ae,Vh _ (by grind),z,Ae];exact h2 0
  ·obtain ⟨n2,h2⟩:=a1 (by simpa using z);have hl:=z7d (M:=(Ja (rd l x1.toNat).s (rd l x2.toNat).s (bxP (rd l x2.toNat)))) (fun _ _=>x2d _ _ _) (d:Int) (plA (dhA (d:Int)) (rd l x1.toNat).s);obtain ⟨n3,h3⟩:=u5k k (d+1) (out++Jr (Ja (rd l x1.toNat).s (rd l x2.toNat).s (bxP (rd l x2.toNat))) (d:Int) (plA (dhA (d:Int)) (rd l x1.toNat).s)) (by omega) (by grind);refine ⟨n3+n2+n1+1,?_⟩
   grind [Zw]
end
def sknL (l:List Pa) (x:Int):List R7:=z6d (z0a (rd l x.toNat).s (Zo l)) (rd l x.toNat).s 6 0
def Ut (l:List Pa) (x:Int):Int:=bif z2h l != 0 then z2h l else bif decide (x<0)||decide (x≥(l.length:Int)) then 2 else bif Qu l != 0 then Qu l else w3g (y2g (rd l x.toNat).s (Zo l)) (z0a (rd l x.toNat).s (Zo l)) (rd l x.toNat).s
def Wd (l:List Pa) (x:Int):List R7:=y8b (Ut l x) (sknL l x)
def z2g (l:List Pa) (_:Int):Bool:=smP l
theorem j1l (l:List Pa) (x:Int) (h:z2g l x=true): ∃n,Yx (Wp l x) n (y3a l x)=.ret (z9p (Ut l x) (sknL l x)):=by
 have h:smP l=true:=h;have o2:Qv l=true:=An (z4k h);unfold y3a Ut;simp only [Zd,show Qp l=true from h,o2,Ae];rcases Yk (z2h l != 0) with q | q
 ·exact ⟨0,by rw [q,Ae,Ae,Vh _ q];rfl⟩
 by_cases g1:x<0
 ·exact ⟨0,by rw [q,An g1];rfl⟩
 by_cases g2:x≥(l.length:Int)
 ·exact ⟨0,by rw [q,Ay g1,An g2];rfl⟩
 rcases Yk (Qu l != 0) with q2 | q2
 ·exact ⟨0,by rw [q,Ay g1,Ay g2,q2];simp only [Ae,Ac,Bool.or_false];rw [Vh _ q2];rfl⟩
 have hx:0≤x∧x<(l.length:Int):=by omega
 obtain ⟨n,hn⟩:=u6f l x hx (x1n (by simpa using q) (show Int.toNat x<l.length by omega)).2 6 0 [] rfl (AB _)
 grind [w3g,sknL]
def fSkn :List AVal→Option (AVal×Bool)
 | [a0,.int .i64 x1]=>match asL Pa a0 with
  | some (L0,g0,n0)=>some (.tup [.dat (Wd L0 x1).length (Zz (Wd L0 x1)),.int .i64 (Ut L0 x1)],isT Pa n0 g0&&(z2g L0 x1))
  | _=>none
 | _=>none
theorem j5o {S:Specs} (hS:Zu prog S):Zu prog (S.with nSkin fSkn):=by
 refine v6j hS (by kernel_rfl) fun args v h=> ?_;unfold fSkn at h;split at h
 ·rename_i a0 x1;split at h
  ·rename_i L0 g0 n0 e0;simp only [Ab,Aa,Ad] at h;obtain ⟨rfl,ho0,hw⟩:=h;obtain ⟨N,hN⟩:=j1l L0 x1 hw;exact ⟨_,_,(.cons (Yi e0 ho0) (.cons (.refl _) .nil)),z1k _ _,v9p L0 x1 N _ hN,3,z6q _ _⟩
  ·cases h
 ·cases h
def stpL (l:List Pa) (x y:Int):List R7:=z6d (Ja (rd l x.toNat).s (rd l y.toNat).s (bxP (rd l y.toNat))) (rd l x.toNat).s 6 0
def Vn (l:List Pa) (x y:Int):Int:=bif z2h l != 0 then z2h l else bif decide (x<0)||(decide (x≥(l.length:Int))||(decide (y<0)||(decide (y≥(l.length:Int))||(x == y)))) then 2 else w3g (y2f (rd l x.toNat).s (rd l y.toNat).s (bxP (rd l y.toNat))) (Ja (rd l x.toNat).s (rd l y.toNat).s (bxP (rd l y.toNat))) (rd l x.toNat).s
def Ya (l:List Pa) (x y:Int):List R7:=y8b (Vn l x y) (stpL l x y)
def Qj (l:List Pa) (_ _:Int):Bool:=smP l
theorem j0u (l:List Pa) (x y:Int) (h:Qj l x y=true): ∃n,Yx (Wk l x y) n (y2v l x y)=.ret (z9p (Vn l x y) (stpL l x y)):=by
 have h:smP l=true:=h;unfold y2v Vn;simp only [Zd,show Qp l=true from h,Ae];rcases Yk (z2h l != 0) with q | q
 ·exact ⟨0,by rw [q,Ae,Ae,Vh _ q];rfl⟩
 by_cases g1:x<0
 ·exact ⟨0,by rw [q,An g1];rfl⟩
 by_cases g2:x≥(l.length:Int)
 ·exact ⟨0,by rw [q,Ay g1,An g2];rfl⟩
 by_cases g3:y<0
 ·exact ⟨0,by rw [q,Ay g1,Ay g2,An g3];rfl⟩
 by_cases g4:y≥(l.length:Int)
 ·exact ⟨0,by rw [q,Ay g1,Ay g2,Ay g3,An g4];rfl⟩
 rcases Yk (x == y) with q2 | q2
 ·exact ⟨0,by rw [q,Ay g1,Ay g2,Ay g3,Ay g4,q2];rfl⟩
 have hx:0≤x∧x<(l.length:Int):=by omega
 have hy:0≤y∧y<(l.length:Int):=by omega
 obtain ⟨n,hn⟩:=u5k l x y hx (x1n (by simpa using q) (show Int.toNat x<l.length by omega)).2 hy (x1n (by simpa using q) (show Int.toNat y<l.length by omega)).2 6 0 [] rfl (AB _)
 grind [w3g,stpL]
def fStp :List AVal→Option (AVal×Bool)
 | [a0,.int .i64 x1,.int .i64 x2]=>match asL Pa a0 with
  | some (L0,g0,n0)=>some (.tup [.dat (Ya L0 x1 x2).length (Zz (Ya L0 x1 x2)),.int .i64 (Vn L0 x1 x2)],isT Pa n0 g0&&(Qj L0 x1 x2))
  | _=>none
 | _=>none
theorem j5l {S:Specs} (hS:Zu prog S):Zu prog (S.with nStep fStp):=by
 refine v6j hS (by kernel_rfl) fun args v h=> ?_;unfold fStp at h;split at h
 ·rename_i a0 x1 x2;split at h
  ·rename_i L0 g0 n0 e0;simp only [Ab,Aa,Ad] at h;obtain ⟨rfl,ho0,hw⟩:=h;obtain ⟨N,hN⟩:=j0u L0 x1 x2 hw;exact ⟨_,_,(.cons (Yi e0 ho0) (.cons (.refl _) (.cons (.refl _) .nil))),z1k _ _,v9b L0 x1 x2 N _ hN,3,z6q _ _⟩
  ·cases h
 ·cases h
def Vg0 :Specs:=((Vc.with nSkin fSkn).with nStep fStp)
theorem Vg0_ok :Zu prog Vg0:=(j5l (j5o Wc))
def eqB (t r:R6):Bool:=(((t.a == r.a)&&((t.b == r.b)&&((t.c == r.c)&&true)))&&(((t.d == r.d)&&((t.e == r.e)&&((t.f == r.f)&&true)))&&true))
def w8c (x y:R6):R6:=z9q x.a x.b x.c x.d x.e x.f y.a y.b y.c y.d y.e y.f
def rvbR (x:R6):Bool:=rvbV x.a x.b x.c x.d x.e x.f
def o6 :R6:=⟨0,0,0,0,0,0⟩
def j3q (l:List Pa) (i:Nat):Bool:= !rvbR (bxP (rd l i))||((rd l i).s.any (fun r=> !eqB (w8c r (bxP (rd l i))) r)||(l.take i).any fun y=> !eqB (w8c (bxP (rd l i)) (bxP y)) o6)
def rkG (l:List Pa):Nat→Nat→Int
 | 0,_=>0
 | k+1,i=>bif j3q l i then 8 else rkG l k (i+1)
def rkE :List Pa→Int
 | []=>0
 | x::r=>bif z1l x.s != 0 then z1l x.s else rkE r
def u7n (l:List Pa):Int:=bif decide (50<l.length) then 4 else bif rkE l != 0 then rkE l else rkG l l.length 0
def z7y (l:List Pa):Bool:=smP l
theorem v1h {l:List Pa} {i j:Nat} (hj:j<i) (hi:i≤l.length):(l.take i).drop j=rd l j::(l.take i).drop (j+1):=by
 have h1:j<(l.take i).length :=by grind
 rw [Bq h1,BB,Yo (show j<l.length by omega)]
section
variable (l:List Pa) (hl:l.length≤1000)
include hl
theorem u7j (i:Nat) (hi:i<l.length): ∀(k j:Nat),j+k=i→ ∃n,∀N,Yx (Vv l) (N+n) (.to (.h3 (i:Int) (j:Int)))=bif ((l.take i).drop j).any (fun y=> !eqB (w8c (bxP (rd l i)) (bxP y)) o6) then .ret [.int .i64 8] else Yx (Vv l) N (.to (.h1 ((i+1:Nat):Int)))
 | 0,j,h=>by
  refine ⟨1,fun N=> ?_⟩
  grind [Zw,Vv,Zk]
 | k+1,j,h=>by
  have hj:j<i:=by omega
  obtain ⟨n,hn⟩:=u7j i hi k (j+1) (by omega);refine ⟨n+1,fun N=> ?_⟩;rw [←AC,Zw,v1h hj (by omega),BI];have e:Vv l (.h3 (i:Int) (j:Int))=bif !eqB (w8c (bxP (rd l i)) (bxP (rd l j))) o6 then .ret [.int .i64 8] else .to (.h3 (i:Int) ((j+1:Nat):Int)):=by
   grind [Vv,eqB,w8c,bxP,o6,Zk]
  grind [Zp]
theorem u7k (hs:smP l=true) (i:Nat) (hi:i<l.length): ∀(k j:Nat),j+k=(rd l i).s.length → ∃n,∀N,Yx (Vv l) (N+n) (.to (.h2 (i:Int) (j:Int)))=bif ((rd l i).s.drop j).any (fun r=> !eqB (w8c r (bxP (rd l i))) r)||(l.take i).any (fun y=> !eqB (w8c (bxP (rd l i)) (bxP y)) o6) then .ret [.int .i64 8] else Yx (Vv l) N (.to (.h1 ((i+1:Nat):Int)))
 | 0,j,h=>by obtain ⟨n,hn⟩:=u7j l hl i hi i 0 (by omega);refine ⟨n+1,fun N=> ?_⟩;rw [←AC,Zw,As (by omega)];simp_all [Vv]
 | k+1,j,h=>by
  have hS:=v2e hs hi;have hj:j<(rd l i).s.length :=by omega
  obtain ⟨n,hn⟩:=u7k hs i hi k (j+1) (by omega);refine ⟨n+1,fun N=> ?_⟩;rw [←AC,Zw,Yq hj,BI];have e:Vv l (.h2 (i:Int) (j:Int))=bif !eqB (w8c (rd (rd l i).s j) (bxP (rd l i))) (rd (rd l i).s j) then .ret [.int .i64 8] else .to (.h2 (i:Int) ((j+1:Nat):Int)):=by simp (disch:=omega) only [Vv,eqB,w8c,bxP,Zs,Zt,Zk,Zx,Zj,Ah,Ae]
  grind [Zp]
theorem u7l (hs:smP l=true): ∀(k i:Nat),i+k=l.length→ ∃n,Yx (Vv l) n (.to (.h1 (i:Int)))=.ret [.int .i64 (rkG l k i)]
 | 0,i,h=>by refine ⟨1,?_⟩;rw [Zw];simp (disch:=omega) only [Vv,Yf,Ac,Zp];rfl
 | k+1,i,h=>by
  have hi:i<l.length:=by omega
  obtain ⟨m,hm⟩:=u7l hs k (i+1) (by omega);obtain ⟨n,hn⟩:=u7k l hl hs i hi (rd l i).s.length 0 (Af _);refine ⟨m+n+1,?_⟩;have e:Vv l (.h1 (i:Int))=bif !rvbR (bxP (rd l i)) then .ret [.int .i64 8] else .to (.h2 (i:Int) ((0:Nat):Int)):=by simp_all [Vv,rvbR,bxP]
  rw [Zw,e];show _=Xw.ret [.int .i64 (bif j3q l i then 8 else rkG l k (i+1))];unfold j3q;rcases Yk (!rvbR (bxP (rd l i))) with q | q;all_goals grind [Zp]
theorem u7m (hs:smP l=true): ∀(k i:Nat),i+k=l.length→ ∃n,Yx (Vv l) n (.to (.h0 (i:Int)))=.ret [.int .i64 (bif rkE (l.drop i) != 0 then rkE (l.drop i) else rkG l l.length 0)]
 | 0,i,h=>by obtain ⟨m,hm⟩:=u7l l hl hs l.length 0 (Af _);refine ⟨m+1,?_⟩;rw [Zw,As (by omega)];simp (disch:=omega) only [Vv,Yf,Ac];exact hm
 | k+1,i,h=>by
  have hi:i<l.length:=by omega
  obtain ⟨m,hm⟩:=u7m hs k (i+1) (by omega);refine ⟨m+1,?_⟩;have e:Vv l (.h0 (i:Int))=bif z1l (rd l i).s != 0 then .ret [.int .i64 (z1l (rd l i).s)] else .to (.h0 ((i+1:Nat):Int)):=by
   grind [Vv,Zd,y5t,Zk]
  rw [Zw,e,Yq hi];unfold rkE;rcases Yk (z1l (rd l i).s != 0) with q | q;all_goals grind [Zp]
end
theorem j2p (l:List Pa) (h:z7y l=true): ∃n,Yx (Vv l) n (y3n l)=.ret [.int .i64 (u7n l)]:=by
 have hl:=z4k h;unfold y3n u7n;by_cases g:50<l.length
 ·exact ⟨0,by rw [Xy (by omega),An g];rfl⟩
 ·obtain ⟨n,hn⟩:=u7m l hl h l.length 0 (Af _)
  grind
def fRlc :List AVal→Option (AVal×Bool)
 | [a0]=>match asL Pa a0 with
  | some (L0,g0,n0)=>some (.int .i64 (u7n L0),isT Pa n0 g0&&(z7y L0))
  | _=>none
 | _=>none
theorem j5v {S:Specs} (hS:Zu prog S):Zu prog (S.with nRlc fRlc):=by
 refine Qi hS (by kernel_rfl) fun args v h=> ?_;unfold fRlc at h;split at h
 ·rename_i a0;split at h
  ·rename_i L0 g0 n0 e0;simp only [Ab,Aa,Ad] at h;obtain ⟨rfl,ho0,hw⟩:=h;obtain ⟨N,hN⟩:=j2p L0 hw;exact ⟨_,_,(.cons (Yi e0 ho0) .nil),rfl,u0s L0 N _ hN,3,rfl⟩
  ·cases h
 ·cases h
inductive rtwS where
 | h0 (v3:List Pa) (v4:Int)
def x8j (l0:List Pa):rtwS→Xw rtwS
 | .h0 v3 v4=>(bif (decide (v4<(l0.length:Int))) then (bif ((decide (0≤v4∧v4<(l0.length:Int)))&&true) then (bif (y4v (cvT (rd l0 v4.toNat).s)) then (bif (Nat.beq 7 7&&((decide (0+v3.length=v3.length))&&decide ((v3.length+1+1)*(72+1)≤Kj))) then (.to (.h0 (v3++[(Pa.mk (rd l0 v4.toNat).a (rd l0 v4.toNat).b (rd l0 v4.toNat).c (rd l0 v4.toNat).d (rd l0 v4.toNat).e (rd l0 v4.toNat).f (twiV (cvT (rd l0 v4.toNat).s)))]) (wrap .i64 (v4+1)))) else .stuck) else .stuck) else .stuck) else (.ret [(.dat v3.length (Zz v3))]))
theorem chg {L:List R2} (h:Can L) {y:Int} (hy:y∈z9k L) (hS:pt L (y - 1)↔pt L y):False:=by
 obtain ⟨s,hs,h1⟩:=AJ.1 hy;have hp:=h.pos s hs;have sepL: ∀t∈L,t=s∨t.b<s.a∨s.b<t.a:=fun t ht=>by
  obtain ⟨i,hi,ei⟩:=AK hs;obtain ⟨j,hj,ej⟩:=AK ht;have pw:=AY.1 h.sep
  grind
 simp only [AG,Bi,BR] at h1;rcases h1 with rfl | rfl
 ·obtain ⟨t,ht,t1,t2⟩:=hS.2 ⟨s,hs,AZ _,hp⟩
  grind
 ·obtain ⟨t,ht,t1,t2⟩:=hS.1 ⟨s,hs,by omega,by omega⟩
  grind
theorem y5z : ∀(l S:List Int),l.Pairwise (· ≠ ·)→(∀x∈l,x∈S)→l.length≤S.length
 | [],S,_,_=>AB _
 | x::l,S,h,hs=>by
  obtain ⟨h1,h2⟩:=AR.1 h;have hx:=hs x (by simp);have:=y5z l (S.erase x) h2 fun y hy=>(List.mem_erase_of_ne (fun e=>h1 y hy e.symm)).2 (hs y (by simp [hy]))
  grind
theorem j0l {a b:List R2} (ha:a.all z1e=true) (hb:b.all z1e=true):(spJ 2 a b).length +(spJ 2 b a).length ≤a.length+b.length:=by
 obtain ⟨c1,p1⟩:=y5i 2 ha hb;obtain ⟨c2,p2⟩:=y5i 2 hb ha;have q1: ∀y,pt (spJ 2 a b) y↔pt a y∧ ¬pt b y:=fun y=>by rw [show pt (spJ 2 a b) y↔_ from p1 y];unfold opB;simp
 have q2: ∀y,pt (spJ 2 b a) y↔pt b y∧ ¬pt a y:=fun y=>by rw [show pt (spJ 2 b a) y↔_ from p2 y];unfold opB;simp
 have f: ∀y:Int,∃z,(z=2*y∧ ¬(pt a (y - 1)↔pt a y))∨(z=2*y+1∧(pt a (y - 1)↔pt a y)):=fun y=>by
  by_cases h:pt a (y - 1)↔pt a y;all_goals simp_all
 have g: ∀y:Int,∃z,(z=2*y+1∧ ¬(pt b (y - 1)↔pt b y))∨(z=2*y∧(pt b (y - 1)↔pt b y)):=fun y=>by
  by_cases h:pt b (y - 1)↔pt b y;all_goals simp_all
 obtain ⟨f,hf⟩:=Classical.axiomOfChoice f;obtain ⟨g,hg⟩:=Classical.axiomOfChoice g;have key:=y5z ((z9k (spJ 2 a b)).map f++(z9k (spJ 2 b a)).map g) ((z9k a).map (2* ·)++(z9k b).map (2* · +1)) (by
  refine Bu.2 ⟨List.pairwise_map.2 ((z9j c1).imp fun {x y} h=> ?_),List.pairwise_map.2 ((z9j c2).imp fun {x y} h=> ?_),?_⟩
  ·grind
  ·grind
  ·intro x hx z hz;obtain ⟨y,hy,rfl⟩:=AO.1 hx;obtain ⟨y',hy',rfl⟩:=AO.1 hz;intro e;have e1:y'=y:=by have:=hf y;have:=hg y';omega
   subst e1;have n1:=chg c1 hy;have n2:=chg c2 hy'
   grind) (by
  intro x hx;rcases AM.1 hx with hx | hx
  ·obtain ⟨y,hy,rfl⟩:=AO.1 hx;have n1:=chg c1 hy
   grind [x2h]
  ·obtain ⟨y,hy,rfl⟩:=AO.1 hx;have n1:=chg c2 hy
   grind [x2h])
 grind [z1u]
theorem y1a : ∀(l m:List Int),l.Pairwise (· < ·)→m.Pairwise (· < ·)→(∀x,x∈l↔x∈m)→l=m
 | [],[],_,_,_=>rfl
 | [],y::m,_,_,h=>by have:=(h y).2 (by simp);cases this
 | x::l,[],_,_,h=>by have:=(h x).1 (by simp);cases this
 | x::l,y::m,hl,hm,h=>by
  obtain ⟨l1,l2⟩:=AR.1 hl;obtain ⟨m1,m2⟩:=AR.1 hm;have e:x=y:=by
   have hx:=(h x).1 (by simp);have hy:=(h y).2 (by simp);rcases AG.1 hx with hx | hx
   ·exact hx
   ·rcases AG.1 hy with hy | hy
    ·exact hy.symm
    ·have:=l1 y hy;have:=m1 x hx;omega
  subst e
  congr 1
  refine y1a l m l2 m2 fun z=>⟨fun hz=> ?_,fun hz=> ?_⟩
  ·have:=l1 z hz;rcases AG.1 ((h z).1 (by simp [hz])) with q | q
   ·omega
   ·exact q
  ·have:=m1 z hz;rcases AG.1 ((h z).2 (by simp [hz])) with q | q
   ·omega
   ·exact q
namespace Dim
variable {α β:Type} {D:Dim α β}
theorem w5n (l:List α):(D.cuts l).Pairwise (· < ·):=by show (Je (D.ends l)).Pairwise (· < ·);rw [Km];exact (Wv _).1
theorem u4j (l:List α) (x:Int):x∈D.cuts l↔x∈D.ends l:=by show x∈Je (D.ends l)↔_;rw [Km];exact (Wv _).2 x
theorem u4f (l:List α) (x:Int):x∈D.ends l↔ ∃r∈l,x=D.lo r∨x=D.hi r:=by
 induction l with
 | nil=>exact ⟨fun h=>(by cases h),fun ⟨r,h,_⟩=>(by cases h)⟩
 | cons r l ih=>
  show x∈D.lo r::D.hi r::D.ends l↔_
  grind
theorem cuts_comm (a b:List α):D.cuts (a++b)=D.cuts (b++a):=y1a _ _ (w5n _) (w5n _) fun x=>by
 grind [u4j,u4f]
end Dim
theorem u1m {a b:List R4} (ha: ∀r∈a,Uk r=true) (hb: ∀r∈b,Uk r=true):(rgJ 2 a b).length +(rgJ 2 b a).length ≤(a.length+b.length)*(a.length+b.length):=by
 have hv: ∀r∈a++b,D4.lo r<D4.hi r:=fun r hr=>by
  have hv:Uk r=true:=by
   grind
  simp only [Uk,Ad,Ar] at hv;exact hv.1
 have g1:=D4.goS_length (fun x=>spJ 2 (D4.inn a x) (D4.inn b x)) (D4.cuts (a++b)) ((D4.cuts (a++b)).length - 1) 0 ⟨[],[],0,0⟩;have g2:=D4.goS_length (fun x=>spJ 2 (D4.inn b x) (D4.inn a x)) (D4.cuts (a++b)) ((D4.cuts (a++b)).length - 1) 0 ⟨[],[],0,0⟩;have h2:=D4.open_sum (a++b) hv ((D4.cuts (a++b)).length - 1) (Nat.sub_le _ _);have e1:(rgJ 2 b a).length =(D4.goS (fun x=>spJ 2 (D4.inn b x) (D4.inn a x)) (D4.cuts (a++b)) ((D4.cuts (a++b)).length - 1) 0 ⟨[],[],0,0⟩).out.length :=by unfold rgJ;rw [Dim.cuts_comm b a]
 have e2:(rgJ 2 a b).length =(D4.goS (fun x=>spJ 2 (D4.inn a x) (D4.inn b x)) (D4.cuts (a++b)) ((D4.cuts (a++b)).length - 1) 0 ⟨[],[],0,0⟩).out.length :=rfl;rw [e1,e2];rw [AQ] at h2;refine AE (Nat.add_le_add g1 g2) (AE ?_ h2);simp only [List.length_nil,Af];generalize (D4.cuts (a++b)).length - 1=k
 induction k with
 | zero=>grind
 | succ k ih=>rw [BA,Bl,Bl,Bl,Bv,Bv,Bv];have:=j0l (Jn ha (rd (D4.cuts (a++b)) k)) (Jn hb (rd (D4.cuts (a++b)) k));simp only [AU,By,BJ,List.sum_nil];rw [D4.inn_append,AQ];omega
open Go.Proofs Go.Sort Go.Shelf Go.RowKit Go.Lib
def rowQ (P:Int→Int→Bool) (x:Int):Nat→Int→List R4
 | 0,_=>[]
 | k+1,y=>(bif P x y then [⟨x,y,x+1,y+1⟩] else [])++rowQ P x k (y+1)
def gridQ (P:Int→Int→Bool) (m:Nat) (y:Int):Nat→Int→List R4
 | 0,_=>[]
 | k+1,x=>rowQ P x m y++gridQ P m y k (x+1)
def uX (L:List R6) (i:Int):List Int:=bif i == 0 then cu9V L 1 else cu9V L 0
def uY (L:List R6) (i:Int):List Int:=bif i == 0 then cu9V L 2 else bif i == 1 then cu9V L 2 else cu9V L 1
def lastI (xs:List Int):Int:=rd xs (xs.length - 1)
def spanI (xs:List Int):Nat:=(lastI xs - rd xs 0).toNat
def wantQ (m:R6) (a p x y:Int):Bool:=bif eqB m o6 then true else u0x m.a m.b m.c m.d m.e m.f (u1z a p x y).a (u1z a p x y).b (u1z a p x y).c
def condQ (S N:List R6) (m:R6) (a own oth x y:Int):Bool:=wantQ m a oth x y&&(rh6V S (u1z a own x y).a (u1z a own x y).b (u1z a own x y).c && !rh6V N (u1z a oth x y).a (u1z a oth x y).b (u1z a oth x y).c)
def faceQ (S N:List R6) (m:R6) (d p:Int):List R4:=joV 2 (gridQ (condQ S N m (dhA d) (x9v d p) (y7x d p)) (spanI (uY S (dhA d))) (rd (uY S (dhA d)) 0) (spanI (uX S (dhA d))) (rd (uX S (dhA d)) 0)) []
def w8h (S:List R6):Bool:=decide (S.length≤6)&&S.all fun r=>decide (-12≤r.a∧r.a≤12)&&(decide (-12≤r.b∧r.b≤12)&&(decide (-12≤r.c∧r.c≤12)&&(decide (-12≤r.d∧r.d≤12)&&(decide (-12≤r.e∧r.e≤12)&&decide (-12≤r.f∧r.f≤12)))))
open Go.Proofs.Tryz
inductive swoS where
def swoC (l0:List Pa):swoS→Cfg
 :=nofun
def x7g (l0:List Pa):swoS→Xw swoS
 :=nofun
def y2s (l0:List Pa):Xw swoS:=(bif (Qp (cvT l0)) then (bif ((z2h (cvT l0)) != 0) then (.ret [.nils,(.int .i64 (z2h (cvT l0)))]) else (bif (Qv (cvT l0)) then (.ret [(.dat (Zo (cvT l0)).length (Zz (Zo (cvT l0)))),(.int .i64 (Qu (cvT l0)))]) else .stuck)) else .stuck)
theorem w6b (l0:List Pa): ∀s,Xu prog (Zy prog 14) (swoC l0) (swoC l0 s) (x7g l0 s)
 :=nofun
theorem x7h (l0:List Pa):Xu prog (Zy prog 14) (swoC l0) (Za prog 14 [(.dat l0.length (Zz l0))] true []) (y2s l0):=(lo fun bN=>(lb (fun k0=>(lr 14 14 [1,0,1,1,0,0] 1 14 [(2,.nils),(3,(ii (z2h (cvT l0))))] (sl Wc 24 [] ⟨[],[],[some [2,3]],[]⟩ ⟨[],[],[]⟩ [true] (tt k0 (pp (pp (xr l0) (xw bN)) nn))))) (fun k0=>(lo fun o0=>(lr 14 3 [1,1,1,1,0] 1 14 [(2,(.dat (Zo (cvT l0)).length (Zz (Zo (cvT l0))))),(3,(ii (Qu (cvT l0))))] (sl Wc 28 [] ⟨[],[],[some [2,3]],[]⟩ ⟨[],[],[]⟩ [false] (pp (pp (xr l0) (xw o0)) (tt k0 (pp (pp (xr l0) (xw bN)) nn)))))))))
theorem v8x (l0:List Pa) (n:Nat) (vs:List AVal) (h:Yx (x7g l0) n (y2s l0)=.ret vs):Ur prog (Zy prog 14) (Za prog 14 [(.dat l0.length (Zz l0))] true []) vs:=by have:=Zc (w6b l0) n _ (x7h l0);rwa [h] at this
def z1i (l:List Pa):Int:=bif z2h l != 0 then z2h l else Qu l
def Uq (l:List Pa):List R6:=y8b (z1i l) (whL [] l)
def z7l (l:List Pa):Bool:=smP l
theorem j0o (l:List Pa) (h:z7l l=true): ∃n,Yx (x7g l) n (y2s l)=.ret (bif z2h l != 0 then [.nils,.int .i64 (z2h l)] else [.dat (Zo l).length (Zz (Zo l)),.int .i64 (Qu l)]):=⟨0,by
 have h:smP l=true:=h;have o2:Qv l=true:=An (z4k h);unfold y2s;simp only [Zd,show Qp l=true from h,o2,Ae];cases z2h l != 0 <;> rfl⟩
def fSwo :List AVal→Option (AVal×Bool)
 | [a0]=>match asL Pa a0 with
  | some (L0,g0,n0)=>some (.tup [.dat (Uq L0).length (Zz (Uq L0)),.int .i64 (z1i L0)],isT Pa n0 g0&&(z7l L0))
  | _=>none
 | _=>none
theorem j0n (l:List Pa) (ρ:Rho) (u:Value) (hu:VRel ρ (z0c (bif z2h l != 0 then [.nils,.int .i64 (z2h l)] else [.dat (Zo l).length (Zz (Zo l)),.int .i64 (Qu l)])) u):VRel ρ (.tup [.dat (Uq l).length (Zz (Uq l)),.int .i64 (z1i l)]) u:=by
 unfold Uq z1i;rcases Yk (z2h l != 0) with q | q
 ·grind [z1k,Vh]
 ·rw [q,Ac] at hu ⊢;exact hu
theorem j5i {S:Specs} (hS:Zu prog S):Zu prog (S.with v4z fSwo):=by
 refine v6j hS (by kernel_rfl) fun args v h=> ?_;unfold fSwo at h;split at h
 ·rename_i a0;split at h
  ·rename_i L0 g0 n0 e0;simp only [Ab,Aa,Ad] at h;obtain ⟨rfl,ho0,hw⟩:=h;obtain ⟨N,hN⟩:=j0o L0 hw;exact ⟨_,_,(.cons (Yi e0 ho0) .nil),j0n L0,v8x L0 N _ hN,3,by cases z2h L0 != 0 <;> rfl⟩
  ·cases h
 ·cases h
theorem twi_id (L:List R6):twiV L=L:=rfl
theorem rtw_h0 (l:List Pa) (hs:smP l=true): ∀(k i:Nat) (acc:List Pa),i+k=l.length→acc=l.take i→ ∃n,Yx (x8j l) n (.to (.h0 acc (i:Int)))=.ret [.dat l.length (Zz l)]
 | 0,i,acc,h,ha=>by
  have hl:=z4k hs;refine ⟨1,?_⟩
  grind [Zw,x8j,Zp]
 | k+1,i,acc,h,ha=>by
  have hl:=z4k hs;have hi:i<l.length:=by omega
  have hS:=v2e hs hi;have hle:acc.length=i:=by grind
  obtain ⟨n,hn⟩:=rtw_h0 l hs k (i+1) (acc++[rd l i]) (by omega) (by
   simp_all [Yo])
  refine ⟨n+1,?_⟩;rw [Zw,←hn]
  congr 1
  have m1:decide (0+acc.length=acc.length)=true:=An (by omega);have b7:Nat.beq 7 7=true:=rfl;have oT:y4v (rd l i).s =true:=An hS;simp (disch:=omega) only [x8j,oT,twi_id,Zd,Zs,Zt,Zf,Zk,Zx,Zj,m1,b7,Ah,Ak,Ae]
def eqP (x y:Pa):Bool:=eqB (bxP x) (bxP y)&&Ke x.s y.s
def rlmF (l m:List Pa):Nat→Nat→Bool
 | 0,_=>true
 | k+1,i=>eqP (rd l i) (rd m i)&&rlmF l m k (i+1)
theorem rlm_h0 (l m:List Pa) (hs:smP l=true) (h6: ∀x∈l,x.s.length≤1000000) (hm:l.length=m.length): ∀(k i:Nat),i+k=l.length→ ∃n,Yx (y5m l m) n (.to (.h0 (i:Int)))=.ret [.bool (rlmF l m k i)]
 | 0,i,h=>by have hl:=z4k hs;refine ⟨1,?_⟩;rw [Zw];simp (disch:=omega) only [y5m,Yf,Ac,Zp];rfl
 | k+1,i,h=>by
  have hl:=z4k hs;have hi:i<l.length:=by omega
  obtain ⟨n,hn⟩:=rlm_h0 l m hs h6 hm k (i+1) (by omega);refine ⟨n+1,?_⟩;have o6': ∀y,Vd (rd l i).s y=true:=fun y=>An (h6 _ (by grind [Yo]));have e:y5m l m (.h0 (i:Int))=bif eqP (rd l i) (rd m i) then .to (.h0 ((i+1:Nat):Int)) else .ret [.bool false]:=by
   unfold eqP;cases q:eqB (bxP (rd l i)) (bxP (rd m i)) with
   | false=>
    grind [eqB,bxP,y5m]
   | true=>
    simp only [eqB,bxP,Ah] at q
    grind [y5m,Zd,Zk]
  grind [Zw,rlmF,Zp]
def nrX (x:Pa):Bool:= !decide ((x.s.length:Int)>6)&&(x9y x.s&&(x1z x.a x.b x.c (-2000000)&&x1z x.d x.e x.f (-2000000)))
def v0t (l:List Pa):Bool:=bif decide ((l.length:Int)>50) then decide ((l.length:Int)≤55) else l.all nrX&&decide ((l.length:Int)≤6)
def z7x (_l:List Pa):Bool:=true
theorem u7i (l:List Pa) (hl:l.length≤50): ∀(k i:Nat),i+k=l.length→ ∃n,Yx (z0q l) n (.to (.h0 (i:Int)))=.ret [.bool ((l.drop i).all nrX&&decide ((l.length:Int)≤6))]
 | 0,i,h=>by
  refine ⟨1,?_⟩
  grind [Zw,z0q,Zp]
 | k +1,i,h=>by
  have hi:i<l.length:=by omega
  obtain ⟨n,hn⟩:=u7i l hl k (i+1) (by omega);refine ⟨n+1,?_⟩;rw [Zw,Yq hi,List.all_cons];have e:z0q l (.h0 (i:Int))=bif nrX (rd l i) then .to (.h0 ((i+1:Nat):Int)) else .ret [.bool false]:=by
   unfold nrX;cases q1:decide (((rd l i).s.length :Int)>6) with
   | true=>grind [z0q]
   | false=>
    cases q2:x9y (rd l i).s with
    | false=>grind [z0q,Kn,Zd]
    | true=>
     cases q3:x1z (rd l i).a (rd l i).b (rd l i).c (-2000000) with
     | false=>grind [z0q,Kn]
     | true=>
      cases q4:x1z (rd l i).d (rd l i).e (rd l i).f (-2000000) with
      | false=>grind [z0q,Kn]
      | true=>grind [z0q,Kn,Zd,Zk]
  grind [Zp]
theorem j2o (l:List Pa) (h:z7x l=true): ∃n,Yx (z0q l) n (y3m l)=.ret [.bool (v0t l)]:=by
 unfold y3m v0t;by_cases g:(l.length:Int)>50
 ·exact ⟨0,by rw [Xy g];rfl⟩
 ·obtain ⟨n,hn⟩:=u7i l (by omega) l.length 0 (Af _)
  grind
def fRln :List AVal→Option (AVal×Bool)
 | [a0]=>match asL Pa a0 with
  | some (L0,g0,n0)=>some (.bool (v0t L0),isT Pa n0 g0&&(z7x L0))
  | _=>none
 | _=>none
theorem j5u {S:Specs} (hS:Zu prog S):Zu prog (S.with nRln fRln):=by
 refine Qi hS (by kernel_rfl) fun args v h=> ?_;unfold fRln at h;split at h
 ·rename_i a0;split at h
  ·rename_i L0 g0 n0 e0;simp only [Ab,Aa,Ad] at h;obtain ⟨rfl,ho0,hw⟩:=h;obtain ⟨N,hN⟩:=j2o L0 hw;exact ⟨_,_,(.cons (Yi e0 ho0) .nil),rfl,u0r L0 N _ hN,3,rfl⟩
  ·cases h
 ·cases h
def a7 (r:R7):Int:=marV r.a r.b r.c r.d r.e r.f r.g
theorem j4f {r:R7} (h0:0≤r.a) (h:v8m r=true):z2n r.a r.b r.c r.d r.e r.f r.g=true:=by
 grind [val7_a,z2n]
theorem owed_a {L:List R7} (h:z0u L=true) {r:R7} (hr:r∈L):0≤r.a:=by
 have:=At.1 h r hr
 grind
def y1s (L:List R7):Int:=bif w8l L != 0 then 0 else wrap .i64 (sm L a7)
def x0f (L:List R7):Int:=w8l L
def z8p (L:List R7):Bool:=z0u L
theorem u9m (L:List R7) (hl:L.length≤3000) (ho: ∀r∈L,0≤r.a∧v8m r=true): ∀(k i:Nat) (S:Int),i+k=L.length→ ∃N,Yx (y0n L) N (.to (.h0 (wrap .i64 S) (i:Int)))=.ret [.int .i64 (wrap .i64 (S+sm (L.drop i) a7)),.int .i64 0]
 | 0,i,S,h=>by
  refine ⟨1,?_⟩
  grind [Zw,u5v,y0n,Zp]
 | k+1,i,S,h=>by
  have hi:i<L.length:=by omega
  obtain ⟨N,hN⟩:=u9m L hl ho k (i+1) (S+a7 (rd L i)) (by omega);refine ⟨N+1,?_⟩;have hm:rd L i∈L:=by grind [Yo]
  have o:=j4f (ho _ hm).1 (ho _ hm).2;have w:wrap .i64 (wrap .i64 S+marV (rd L i).a (rd L i).b (rd L i).c (rd L i).d (rd L i).e (rd L i).f (rd L i).g)=wrap .i64 (S+a7 (rd L i)):=Cg.eq ((Cg.wrap S).add (Cg.refl _))
  grind [Zw,Yq,v2d,y0n,Zk,Zj]
theorem j4k (L:List R7) (h:z8p L=true): ∃N,Yx (y0n L) N (y3y L)=.ret [.int .i64 (y1s L),.int .i64 (x0f L)]:=by
 unfold y3y y1s x0f;simp only [Zd,show z0u L=true from h,Ae];rcases Yk (w8l L != 0) with q1 | q1
 ·exact ⟨0,by simp only [q1,Ae];rfl⟩
 ·have e:w8l L=0:=by grind
  obtain ⟨hl,hv⟩:=u2n e;obtain ⟨N,hN⟩:=u9m L hl (fun r hr=>⟨owed_a h hr,hv r hr⟩) L.length 0 0 (Af _);refine ⟨N,?_⟩;simp only [q1,Ac];rw [e];rw [AT,BM] at hN;exact hN
def fMAr :List AVal→Option (AVal×Bool)
 | [a0]=>match asL R7 a0 with
  | some (L0,g0,n0)=>some (.tup [.int .i64 (y1s L0),.int .i64 (x0f L0)],isT R7 n0 g0&&(z8p L0))
  | _=>none
 | _=>none
theorem j6h {S:Specs} (hS:Zu prog S):Zu prog (S.with u8y fMAr):=by
 refine Qi hS (by kernel_rfl) fun args v h=> ?_;unfold fMAr at h;split at h
 ·rename_i a0;split at h
  ·rename_i L0 g0 n0 e0;simp only [Ab,Aa,Ad] at h;obtain ⟨rfl,ho0,hw⟩:=h;obtain ⟨N,hN⟩:=j4k L0 hw;exact ⟨_,_,(.cons (Yi e0 ho0) .nil),rfl,u2x L0 N _ hN,3,rfl⟩
  ·cases h
 ·cases h
def W2 :Specs:=(((((Vg0.with v4z fSwo).with v5b fRsq).with nRln fRln).with nRlc fRlc).with u8r fSvo).with u8y fMAr
theorem z0y :Zu prog W2:=j6h (j5k (j5v (j5u (v6p (j5i Vg0_ok)))))
abbrev ld4 :List Pa:=[(Pa.mk 0 0 0 2 2 2 ([(R6.mk 0 0 0 2 2 1)]:List R6)),(Pa.mk 2 0 0 4 2 2 ([(R6.mk 2 0 0 4 2 2)]:List R6))]
inductive al4S where
def al4C :al4S→Cfg
 :=nofun
def w2q :al4S→Xw al4S
 :=nofun
def y4t :Xw al4S:=(bif (z7l (cvT ld4)) then (bif (z7m (cvT (Uq (cvT ld4)))) then (bif (Qj (cvT ld4) 1 0) then (bif (Qj (cvT ld4) 0 1) then (bif (z2g (cvT ld4) 0) then (bif (z8p (cvT (Wd (cvT ld4) 0))) then (bif ((z1i (cvT ld4)) == 0) then (bif ((z4i (cvT (Uq (cvT ld4)))) == 0) then (bif ((z3w (cvT (Uq (cvT ld4)))) == 12) then (bif ((Vn (cvT ld4) 1 0) == 0) then (bif (z7s (cvT (Ya (cvT ld4) 1 0)) (cvT ([(R7.mk 1 2 0 1 2 2 2)]:List R7))) then (bif (rsqV (cvT (Ya (cvT ld4) 1 0)) (cvT ([(R7.mk 1 2 0 1 2 2 2)]:List R7))) then (bif ((Vn (cvT ld4) 0 1) == 0) then (bif ((((Ya (cvT ld4) 0 1).length :Nat):Int) == 0) then (bif ((Ut (cvT ld4) 0) == 0) then (bif ((x0f (cvT (Wd (cvT ld4) 0))) == 0) then (.ret [(.bool ((y1s (cvT (Wd (cvT ld4) 0))) == 14))]) else (.ret [(.bool false)])) else (.ret [(.bool false)])) else (.ret [(.bool false)])) else (.ret [(.bool false)])) else (.ret [(.bool false)])) else .stuck) else (.ret [(.bool false)])) else (.ret [(.bool false)])) else (.ret [(.bool false)])) else (.ret [(.bool false)])) else .stuck) else .stuck) else .stuck) else .stuck) else .stuck) else .stuck)
theorem v0g : ∀s,Xu prog (Zy prog 24) (al4C) (al4C s) (w2q s)
 :=nofun
theorem w2r :Xu prog (Zy prog 24) (al4C) (Za prog 24 [] true []) (y4t):=(Xd (sl z0y (C':=⟨⟨86,0,true⟩,(Vj prog 24 [1,0] 1),(Zb prog 24 [1,0] 1),none,(Zy prog 24),⟨Yg [(14,(.sl 0 0 2 (.un 7)))],Wt [⟨[(ii 0),(ii 0),(ii 0),(ii 2),(ii 2),(ii 2),(.dat ([(R6.mk 0 0 0 2 2 1)]:List R6).length (Zz ([(R6.mk 0 0 0 2 2 1)]:List R6))),(ii 2),(ii 0),(ii 0),(ii 4),(ii 2),(ii 2),(.dat ([(R6.mk 2 0 0 4 2 2)]:List R6).length (Zz ([(R6.mk 2 0 0 4 2 2)]:List R6)))],59,none⟩] 0,1,[],true⟩,[],.leaf⟩) 97 [] ⟨[6],[2,5],[some [14]],[]⟩ ⟨[],[.cells [.keep,.keep,.keep,.keep,.keep,.keep,.frz 1 ([(R6.mk 0 0 0 2 2 1)]:List R6).length (Xf [(ii 0),(ii 0),(ii 0),(ii 2),(ii 2),(ii 1)] 0 6) (Zz ([(R6.mk 0 0 0 2 2 1)]:List R6)),.keep,.keep,.keep,.keep,.keep,.keep,.frz 1 ([(R6.mk 2 0 0 4 2 2)]:List R6).length (Xf [(ii 2),(ii 0),(ii 0),(ii 4),(ii 2),(ii 2)] 0 6) (Zz ([(R6.mk 2 0 0 4 2 2)]:List R6))]],[]⟩ [] (pp (xZ (.dat 1 (Xf [(ii 0),(ii 0),(ii 0),(ii 2),(ii 2),(ii 1)] 0 6)) 1 (Xf [(ii 0),(ii 0),(ii 0),(ii 2),(ii 2),(ii 1)] 0 6)) (pp (xL 1 ([(R6.mk 0 0 0 2 2 1)]:List R6).length) (pp (xS 1 (Xf [(ii 0),(ii 0),(ii 0),(ii 2),(ii 2),(ii 1)] 0 6) (Zz ([(R6.mk 0 0 0 2 2 1)]:List R6))) (pp (xZ (.dat 1 (Xf [(ii 2),(ii 0),(ii 0),(ii 4),(ii 2),(ii 2)] 0 6)) 1 (Xf [(ii 2),(ii 0),(ii 0),(ii 4),(ii 2),(ii 2)] 0 6)) (pp (xL 1 ([(R6.mk 2 0 0 4 2 2)]:List R6).length) (pp (xS 1 (Xf [(ii 2),(ii 0),(ii 0),(ii 4),(ii 2),(ii 2)] 0 6) (Zz ([(R6.mk 2 0 0 4 2 2)]:List R6))) nn))))))) (Xd (sl z0y (C':=⟨⟨86,0,true⟩,(Vj prog 24 [1,0] 1),(Zb prog 24 [1,0] 1),none,(Zy prog 24),⟨Yg [(14,(.dat ld4.length (Zz ld4)))],Wt [] 0,0,[],true⟩,[],.leaf⟩) 0 [] ⟨[],[0],[some [14]],[]⟩ ⟨[(14,.frz 2 ld4.length (Xf [(ii 0),(ii 0),(ii 0),(ii 2),(ii 2),(ii 2),(.dat ([(R6.mk 0 0 0 2 2 1)]:List R6).length (Zz ([(R6.mk 0 0 0 2 2 1)]:List R6))),(ii 2),(ii 0),(ii 0),(ii 4),(ii 2),(ii 2),(.dat ([(R6.mk 2 0 0 4 2 2)]:List R6).length (Zz ([(R6.mk 2 0 0 4 2 2)]:List R6)))] 0 7) (Zz ld4))],[],[]⟩ [] (pp (xZ (.dat 2 (Xf [(ii 0),(ii 0),(ii 0),(ii 2),(ii 2),(ii 2),(.dat ([(R6.mk 0 0 0 2 2 1)]:List R6).length (Zz ([(R6.mk 0 0 0 2 2 1)]:List R6))),(ii 2),(ii 0),(ii 0),(ii 4),(ii 2),(ii 2),(.dat ([(R6.mk 2 0 0 4 2 2)]:List R6).length (Zz ([(R6.mk 2 0 0 4 2 2)]:List R6)))] 0 7)) 2 (Xf [(ii 0),(ii 0),(ii 0),(ii 2),(ii 2),(ii 2),(.dat ([(R6.mk 0 0 0 2 2 1)]:List R6).length (Zz ([(R6.mk 0 0 0 2 2 1)]:List R6))),(ii 2),(ii 0),(ii 0),(ii 4),(ii 2),(ii 2),(.dat ([(R6.mk 2 0 0 4 2 2)]:List R6).length (Zz ([(R6.mk 2 0 0 4 2 2)]:List R6)))] 0 7)) (pp (xL 2 ld4.length) (pp (xS 2 (Xf [(ii 0),(ii 0),(ii 0),(ii 2),(ii 2),(ii 2),(.dat ([(R6.mk 0 0 0 2 2 1)]:List R6).length (Zz ([(R6.mk 0 0 0 2 2 1)]:List R6))),(ii 2),(ii 0),(ii 0),(ii 4),(ii 2),(ii 2),(.dat ([(R6.mk 2 0 0 4 2 2)]:List R6).length (Zz ([(R6.mk 2 0 0 4 2 2)]:List R6)))] 0 7) (Zz ld4)) nn)))) (lo fun q0_0=>(lo fun q0_1=>(Xd (sl z0y (C':=⟨⟨86,0,true⟩,(Vj prog 24 [1,1,1,0] 1),(Zb prog 24 [1,1,1,0] 1),none,(Zy prog 24),⟨Yg [(2,(ii (z1i (cvT ld4)))),(3,(ii (z3w (cvT (Uq (cvT ld4)))))),(4,(ii (z4i (cvT (Uq (cvT ld4)))))),(24,(.sl 0 0 2 (.un 7)))],Wt [⟨[(ii 0),(ii 0),(ii 0),(ii 2),(ii 2),(ii 2),(.dat ([(R6.mk 0 0 0 2 2 1)]:List R6).length (Zz ([(R6.mk 0 0 0 2 2 1)]:List R6))),(ii 2),(ii 0),(ii 0),(ii 4),(ii 2),(ii 2),(.dat ([(R6.mk 2 0 0 4 2 2)]:List R6).length (Zz ([(R6.mk 2 0 0 4 2 2)]:List R6)))],59,none⟩] 0,1,[],true⟩,[],.leaf⟩) 110 [] ⟨[6],[2,5],[some [2,3,4,24]],[]⟩ ⟨[],[.cells [.keep,.keep,.keep,.keep,.keep,.keep,.frz 1 ([(R6.mk 0 0 0 2 2 1)]:List R6).length (Xf [(ii 0),(ii 0),(ii 0),(ii 2),(ii 2),(ii 1)] 0 6) (Zz ([(R6.mk 0 0 0 2 2 1)]:List R6)),.keep,.keep,.keep,.keep,.keep,.keep,.frz 1 ([(R6.mk 2 0 0 4 2 2)]:List R6).length (Xf [(ii 2),(ii 0),(ii 0),(ii 4),(ii 2),(ii 2)] 0 6) (Zz ([(R6.mk 2 0 0 4 2 2)]:List R6))]],[]⟩ [] (pp (xZ (.dat 1 (Xf [(ii 0),(ii 0),(ii 0),(ii 2),(ii 2),(ii 1)] 0 6)) 1 (Xf [(ii 0),(ii 0),(ii 0),(ii 2),(ii 2),(ii 1)] 0 6)) (pp (xL 1 ([(R6.mk 0 0 0 2 2 1)]:List R6).length) (pp (xS 1 (Xf [(ii 0),(ii 0),(ii 0),(ii 2),(ii 2),(ii 1)] 0 6) (Zz ([(R6.mk 0 0 0 2 2 1)]:List R6))) (pp (xZ (.dat 1 (Xf [(ii 2),(ii 0),(ii 0),(ii 4),(ii 2),(ii 2)] 0 6)) 1 (Xf [(ii 2),(ii 0),(ii 0),(ii 4),(ii 2),(ii 2)] 0 6)) (pp (xL 1 ([(R6.mk 2 0 0 4 2 2)]:List R6).length) (pp (xS 1 (Xf [(ii 2),(ii 0),(ii 0),(ii 4),(ii 2),(ii 2)] 0 6) (Zz ([(R6.mk 2 0 0 4 2 2)]:List R6))) (pp (pp (xI R6 (Uq (cvT ld4)).length (Zz (Uq (cvT ld4)))) (xw q0_1)) (pp (pp (xI Pa ld4.length (Zz ld4)) (xw q0_0)) nn))))))))) (Xd (sl z0y (C':=⟨⟨86,0,true⟩,(Vj prog 24 [1,1,1,0] 1),(Zb prog 24 [1,1,1,0] 1),none,(Zy prog 24),⟨Yg [(2,(ii (z1i (cvT ld4)))),(3,(ii (z3w (cvT (Uq (cvT ld4)))))),(4,(ii (z4i (cvT (Uq (cvT ld4)))))),(24,(.dat ld4.length (Zz ld4)))],Wt [] 0,0,[],true⟩,[],.leaf⟩) 0 [] ⟨[],[0],[some [2,3,4,24]],[]⟩ ⟨[(24,.frz 2 ld4.length (Xf [(ii 0),(ii 0),(ii 0),(ii 2),(ii 2),(ii 2),(.dat ([(R6.mk 0 0 0 2 2 1)]:List R6).length (Zz ([(R6.mk 0 0 0 2 2 1)]:List R6))),(ii 2),(ii 0),(ii 0),(ii 4),(ii 2),(ii 2),(.dat ([(R6.mk 2 0 0 4 2 2)]:List R6).length (Zz ([(R6.mk 2 0 0 4 2 2)]:List R6)))] 0 7) (Zz ld4))],[],[]⟩ [] (pp (xZ (.dat 2 (Xf [(ii 0),(ii 0),(ii 0),(ii 2),(ii 2),(ii 2),(.dat ([(R6.mk 0 0 0 2 2 1)]:List R6).length (Zz ([(R6.mk 0 0 0 2 2 1)]:List R6))),(ii 2),(ii 0),(ii 0),(ii 4),(ii 2),(ii 2),(.dat ([(R6.mk 2 0 0 4 2 2)]:List R6).length (Zz ([(R6.mk 2 0 0 4 2 2)]:List R6)))] 0 7)) 2 (Xf [(ii 0),(ii 0),(ii 0),(ii 2),(ii 2),(ii 2),(.dat ([(R6.mk 0 0 0 2 2 1)]:List R6).length (Zz ([(R6.mk 0 0 0 2 2 1)]:List R6))),(ii 2),(ii 0),(ii 0),(ii 4),(ii 2),(ii 2),(.dat ([(R6.mk 2 0 0 4 2 2)]:List R6).length (Zz ([(R6.mk 2 0 0 4 2 2)]:List R6)))] 0 7)) (pp (xL 2 ld4.length) (pp (xS 2 (Xf [(ii 0),(ii 0),(ii 0),(ii 2),(ii 2),(ii 2),(.dat ([(R6.mk 0 0 0 2 2 1)]:List R6).length (Zz ([(R6.mk 0 0 0 2 2 1)]:List R6))),(ii 2),(ii 0),(ii 0),(ii 4),(ii 2),(ii 2),(.dat ([(R6.mk 2 0 0 4 2 2)]:List R6).length (Zz ([(R6.mk 2 0 0 4 2 2)]:List R6)))] 0 7) (Zz ld4)) nn)))) (lo fun q0_0=>(Xd (sl z0y (C':=⟨⟨86,0,true⟩,(Vj prog 24 [1,1,1,1,0] 1),(Zb prog 24 [1,1,1,1,0] 1),none,(Zy prog 24),⟨Yg [(2,(ii (z1i (cvT ld4)))),(3,(ii (z3w (cvT (Uq (cvT ld4)))))),(4,(ii (z4i (cvT (Uq (cvT ld4)))))),(5,(.dat (Ya (cvT ld4) 1 0).length (Zz (Ya (cvT ld4) 1 0)))),(6,(ii (Vn (cvT ld4) 1 0))),(29,(.sl 0 0 2 (.un 7)))],Wt [⟨[(ii 0),(ii 0),(ii 0),(ii 2),(ii 2),(ii 2),(.dat ([(R6.mk 0 0 0 2 2 1)]:List R6).length (Zz ([(R6.mk 0 0 0 2 2 1)]:List R6))),(ii 2),(ii 0),(ii 0),(ii 4),(ii 2),(ii 2),(.dat ([(R6.mk 2 0 0 4 2 2)]:List R6).length (Zz ([(R6.mk 2 0 0 4 2 2)]:List R6)))],59,none⟩] 0,1,[],true⟩,[],.leaf⟩) 100 [] ⟨[6],[2,5],[some [2,3,4,5,6,29]],[]⟩ ⟨[],[.cells [.keep,.keep,.keep,.keep,.keep,.keep,.frz 1 ([(R6.mk 0 0 0 2 2 1)]:List R6).length (Xf [(ii 0),(ii 0),(ii 0),(ii 2),(ii 2),(ii 1)] 0 6) (Zz ([(R6.mk 0 0 0 2 2 1)]:List R6)),.keep,.keep,.keep,.keep,.keep,.keep,.frz 1 ([(R6.mk 2 0 0 4 2 2)]:List R6).length (Xf [(ii 2),(ii 0),(ii 0),(ii 4),(ii 2),(ii 2)] 0 6) (Zz ([(R6.mk 2 0 0 4 2 2)]:List R6))]],[]⟩ [] (pp (xZ (.dat 1 (Xf [(ii 0),(ii 0),(ii 0),(ii 2),(ii 2),(ii 1)] 0 6)) 1 (Xf [(ii 0),(ii 0),(ii 0),(ii 2),(ii 2),(ii 1)] 0 6)) (pp (xL 1 ([(R6.mk 0 0 0 2 2 1)]:List R6).length) (pp (xS 1 (Xf [(ii 0),(ii 0),(ii 0),(ii 2),(ii 2),(ii 1)] 0 6) (Zz ([(R6.mk 0 0 0 2 2 1)]:List R6))) (pp (xZ (.dat 1 (Xf [(ii 2),(ii 0),(ii 0),(ii 4),(ii 2),(ii 2)] 0 6)) 1 (Xf [(ii 2),(ii 0),(ii 0),(ii 4),(ii 2),(ii 2)] 0 6)) (pp (xL 1 ([(R6.mk 2 0 0 4 2 2)]:List R6).length) (pp (xS 1 (Xf [(ii 2),(ii 0),(ii 0),(ii 4),(ii 2),(ii 2)] 0 6) (Zz ([(R6.mk 2 0 0 4 2 2)]:List R6))) (pp (pp (xI Pa ld4.length (Zz ld4)) (xw q0_0)) nn)))))))) (Xd (sl z0y (C':=⟨⟨86,0,true⟩,(Vj prog 24 [1,1,1,1,0] 1),(Zb prog 24 [1,1,1,1,0] 1),none,(Zy prog 24),⟨Yg [(2,(ii (z1i (cvT ld4)))),(3,(ii (z3w (cvT (Uq (cvT ld4)))))),(4,(ii (z4i (cvT (Uq (cvT ld4)))))),(5,(.dat (Ya (cvT ld4) 1 0).length (Zz (Ya (cvT ld4) 1 0)))),(6,(ii (Vn (cvT ld4) 1 0))),(29,(.dat ld4.length (Zz ld4)))],Wt [] 0,0,[],true⟩,[],.leaf⟩) 0 [] ⟨[],[0],[some [2,3,4,5,6,29]],[]⟩ ⟨[(29,.frz 2 ld4.length (Xf [(ii 0),(ii 0),(ii 0),(ii 2),(ii 2),(ii 2),(.dat ([(R6.mk 0 0 0 2 2 1)]:List R6).length (Zz ([(R6.mk 0 0 0 2 2 1)]:List R6))),(ii 2),(ii 0),(ii 0),(ii 4),(ii 2),(ii 2),(.dat ([(R6.mk 2 0 0 4 2 2)]:List R6).length (Zz ([(R6.mk 2 0 0 4 2 2)]:List R6)))] 0 7) (Zz ld4))],[],[]⟩ [] (pp (xZ (.dat 2 (Xf [(ii 0),(ii 0),(ii 0),(ii 2),(ii 2),(ii 2),(.dat ([(R6.mk 0 0 0 2 2 1)]:List R6).length (Zz ([(R6.mk 0 0 0 2 2 1)]:List R6))),(ii 2),(ii 0),(ii 0),(ii 4),(ii 2),(ii 2),(.dat ([(R6.mk 2 0 0 4 2 2)]:List R6).length (Zz ([(R6.mk 2 0 0 4 2 2)]:List R6)))] 0 7)) 2 (Xf [(ii 0),(ii 0),(ii 0),(ii 2),(ii 2),(ii 2),(.dat ([(R6.mk 0 0 0 2 2 1)]:List R6).length (Zz ([(R6.mk 0 0 0 2 2 1)]:List R6))),(ii 2),(ii 0),(ii 0),(ii 4),(ii 2),(ii 2),(.dat ([(R6.mk 2 0 0 4 2 2)]:List R6).length (Zz ([(R6.mk 2 0 0 4 2 2)]:List R6)))] 0 7)) (pp (xL 2 ld4.length) (pp (xS 2 (Xf [(ii 0),(ii 0),(ii 0),(ii 2),(ii 2),(ii 2),(.dat ([(R6.mk 0 0 0 2 2 1)]:List R6).length (Zz ([(R6.mk 0 0 0 2 2 1)]:List R6))),(ii 2),(ii 0),(ii 0),(ii 4),(ii 2),(ii 2),(.dat ([(R6.mk 2 0 0 4 2 2)]:List R6).length (Zz ([(R6.mk 2 0 0 4 2 2)]:List R6)))] 0 7) (Zz ld4)) nn)))) (lo fun q0_0=>(Xd (sl z0y (C':=⟨⟨86,0,true⟩,(Vj prog 24 [1,1,1,1,1,0] 1),(Zb prog 24 [1,1,1,1,1,0] 1),none,(Zy prog 24),⟨Yg [(2,(ii (z1i (cvT ld4)))),(3,(ii (z3w (cvT (Uq (cvT ld4)))))),(4,(ii (z4i (cvT (Uq (cvT ld4)))))),(5,(.dat (Ya (cvT ld4) 1 0).length (Zz (Ya (cvT ld4) 1 0)))),(6,(ii (Vn (cvT ld4) 1 0))),(7,(.dat (Ya (cvT ld4) 0 1).length (Zz (Ya (cvT ld4) 0 1)))),(8,(ii (Vn (cvT ld4) 0 1))),(34,(.sl 0 0 2 (.un 7)))],Wt [⟨[(ii 0),(ii 0),(ii 0),(ii 2),(ii 2),(ii 2),(.dat ([(R6.mk 0 0 0 2 2 1)]:List R6).length (Zz ([(R6.mk 0 0 0 2 2 1)]:List R6))),(ii 2),(ii 0),(ii 0),(ii 4),(ii 2),(ii 2),(.dat ([(R6.mk 2 0 0 4 2 2)]:List R6).length (Zz ([(R6.mk 2 0 0 4 2 2)]:List R6)))],59,none⟩] 0,1,[],true⟩,[],.leaf⟩) 100 [] ⟨[6],[2,5],[some [2,3,4,5,6,7,8,34]],[]⟩ ⟨[],[.cells [.keep,.keep,.keep,.keep,.keep,.keep,.frz 1 ([(R6.mk 0 0 0 2 2 1)]:List R6).length (Xf [(ii 0),(ii 0),(ii 0),(ii 2),(ii 2),(ii 1)] 0 6) (Zz ([(R6.mk 0 0 0 2 2 1)]:List R6)),.keep,.keep,.keep,.keep,.keep,.keep,.frz 1 ([(R6.mk 2 0 0 4 2 2)]:List R6).length (Xf [(ii 2),(ii 0),(ii 0),(ii 4),(ii 2),(ii 2)] 0 6) (Zz ([(R6.mk 2 0 0 4 2 2)]:List R6))]],[]⟩ [] (pp (xZ (.dat 1 (Xf [(ii 0),(ii 0),(ii 0),(ii 2),(ii 2),(ii 1)] 0 6)) 1 (Xf [(ii 0),(ii 0),(ii 0),(ii 2),(ii 2),(ii 1)] 0 6)) (pp (xL 1 ([(R6.mk 0 0 0 2 2 1)]:List R6).length) (pp (xS 1 (Xf [(ii 0),(ii 0),(ii 0),(ii 2),(ii 2),(ii 1)] 0 6) (Zz ([(R6.mk 0 0 0 2 2 1)]:List R6))) (pp (xZ (.dat 1 (Xf [(ii 2),(ii 0),(ii 0),(ii 4),(ii 2),(ii 2)] 0 6)) 1 (Xf [(ii 2),(ii 0),(ii 0),(ii 4),(ii 2),(ii 2)] 0 6)) (pp (xL 1 ([(R6.mk 2 0 0 4 2 2)]:List R6).length) (pp (xS 1 (Xf [(ii 2),(ii 0),(ii 0),(ii 4),(ii 2),(ii 2)] 0 6) (Zz ([(R6.mk 2 0 0 4 2 2)]:List R6))) (pp (pp (xI Pa ld4.length (Zz ld4)) (xw q0_0)) nn)))))))) (Xd (sl z0y (C':=⟨⟨86,0,true⟩,(Vj prog 24 [1,1,1,1,1,0] 1),(Zb prog 24 [1,1,1,1,1,0] 1),none,(Zy prog 24),⟨Yg [(2,(ii (z1i (cvT ld4)))),(3,(ii (z3w (cvT (Uq (cvT ld4)))))),(4,(ii (z4i (cvT (Uq (cvT ld4)))))),(5,(.dat (Ya (cvT ld4) 1 0).length (Zz (Ya (cvT ld4) 1 0)))),(6,(ii (Vn (cvT ld4) 1 0))),(7,(.dat (Ya (cvT ld4) 0 1).length (Zz (Ya (cvT ld4) 0 1)))),(8,(ii (Vn (cvT ld4) 0 1))),(34,(.dat ld4.length (Zz ld4)))],Wt [] 0,0,[],true⟩,[],.leaf⟩) 0 [] ⟨[],[0],[some [2,3,4,5,6,7,8,34]],[]⟩ ⟨[(34,.frz 2 ld4.length (Xf [(ii 0),(ii 0),(ii 0),(ii 2),(ii 2),(ii 2),(.dat ([(R6.mk 0 0 0 2 2 1)]:List R6).length (Zz ([(R6.mk 0 0 0 2 2 1)]:List R6))),(ii 2),(ii 0),(ii 0),(ii 4),(ii 2),(ii 2),(.dat ([(R6.mk 2 0 0 4 2 2)]:List R6).length (Zz ([(R6.mk 2 0 0 4 2 2)]:List R6)))] 0 7) (Zz ld4))],[],[]⟩ [] (pp (xZ (.dat 2 (Xf [(ii 0),(ii 0),(ii 0),(ii 2),(ii 2),(ii 2),(.dat ([(R6.mk 0 0 0 2 2 1)]:List R6).length (Zz ([(R6.mk 0 0 0 2 2 1)]:List R6))),(ii 2),(ii 0),(ii 0),(ii 4),(ii 2),(ii 2),(.dat ([(R6.mk 2 0 0 4 2 2)]:List R6).length (Zz ([(R6.mk 2 0 0 4 2 2)]:List R6)))] 0 7)) 2 (Xf [(ii 0),(ii 0),(ii 0),(ii 2),(ii 2),(ii 2),(.dat ([(R6.mk 0 0 0 2 2 1)]:List R6).length (Zz ([(R6.mk 0 0 0 2 2 1)]:List R6))),(ii 2),(ii 0),(ii 0),(ii 4),(ii 2),(ii 2),(.dat ([(R6.mk 2 0 0 4 2 2)]:List R6).length (Zz ([(R6.mk 2 0 0 4 2 2)]:List R6)))] 0 7)) (pp (xL 2 ld4.length) (pp (xS 2 (Xf [(ii 0),(ii 0),(ii 0),(ii 2),(ii 2),(ii 2),(.dat ([(R6.mk 0 0 0 2 2 1)]:List R6).length (Zz ([(R6.mk 0 0 0 2 2 1)]:List R6))),(ii 2),(ii 0),(ii 0),(ii 4),(ii 2),(ii 2),(.dat ([(R6.mk 2 0 0 4 2 2)]:List R6).length (Zz ([(R6.mk 2 0 0 4 2 2)]:List R6)))] 0 7) (Zz ld4)) nn)))) (lo fun bN=>(lo fun dR=>(lb (fun k0=>(lb (fun k1=>(lb (fun k2=>(lb (fun k3=>(Xd (sl z0y (C':=⟨⟨86,0,true⟩,(Vj prog 24 [1,1,1,1,1,1,1,0] 20),(Zb prog 24 [1,1,1,1,1,1,1,0] 1),none,(Zy prog 24),⟨Yg [(7,(.dat (Ya (cvT ld4) 0 1).length (Zz (Ya (cvT ld4) 0 1)))),(8,(ii (Vn (cvT ld4) 0 1))),(10,(ii (Ut (cvT ld4) 0))),(11,(ii (y1s (cvT (Wd (cvT ld4) 0))))),(12,(ii (x0f (cvT (Wd (cvT ld4) 0))))),(57,(.bool true)),(58,(.dat (Ya (cvT ld4) 1 0).length (Zz (Ya (cvT ld4) 1 0)))),(62,(.dat ([(R7.mk 1 2 0 1 2 2 2)]:List R7).length (Zz ([(R7.mk 1 2 0 1 2 2 2)]:List R7))))],Wt [] 0,0,[],true⟩,[],.leaf⟩) 39 [] ⟨[],[0],[some [7,8,10,11,12,57,58,62]],[]⟩ ⟨[(62,.frz 1 ([(R7.mk 1 2 0 1 2 2 2)]:List R7).length (Xf [(.int .u8 1),(ii 2),(ii 0),(ii 1),(ii 2),(ii 2),(ii 2)] 0 7) (Zz ([(R7.mk 1 2 0 1 2 2 2)]:List R7)))],[],[]⟩ (trs 11 []) (pp (xZ (.dat 1 (Xf [(.int .u8 1),(ii 2),(ii 0),(ii 1),(ii 2),(ii 2),(ii 2)] 0 7)) 1 (Xf [(.int .u8 1),(ii 2),(ii 0),(ii 1),(ii 2),(ii 2),(ii 2)] 0 7)) (pp (xL 1 ([(R7.mk 1 2 0 1 2 2 2)]:List R7).length) (pp (xS 1 (Xf [(.int .u8 1),(ii 2),(ii 0),(ii 1),(ii 2),(ii 2),(ii 2)] 0 7) (Zz ([(R7.mk 1 2 0 1 2 2 2)]:List R7))) (tt k3 (tt k2 (tt k1 (tt k0 (pp (pp (xI R7 (Wd (cvT ld4) 0).length (Zz (Wd (cvT ld4) 0))) (xw dR)) (pp (pp (xI Pa ld4.length (Zz ld4)) (xw bN)) nn)))))))))) (lo fun cD=>(lb (fun k4=>(lb (fun k5=>(lb (fun k6=>(lb (fun k7=>(lb (fun k8=>(lr 86 3 [1,1,1,1,0] 1 24 [(0,(.bool ((y1s (cvT (Wd (cvT ld4) 0))) == 14)))] (sl z0y 25 [] ⟨[],[],[some [0]],[]⟩ ⟨[],[],[]⟩ (trs 12 []) (tt k8 (tt k7 (tt k6 (tt k5 (tt k4 (pp (pp (xI R7 (Ya (cvT ld4) 1 0).length (Zz (Ya (cvT ld4) 1 0))) (pp (xI R7 ([(R7.mk 1 2 0 1 2 2 2)]:List R7).length (Zz ([(R7.mk 1 2 0 1 2 2 2)]:List R7))) (xw cD))) nn))))))))) (fun k8=>(lr 86 3 [1,1,1,1,0] 1 24 [(0,(.bool false))] (sl z0y 25 [] ⟨[],[],[some [0]],[]⟩ ⟨[],[],[]⟩ (trs 10 [false,false]) (tt k8 (tt k7 (tt k6 (tt k5 (tt k4 (pp (pp (xI R7 (Ya (cvT ld4) 1 0).length (Zz (Ya (cvT ld4) 1 0))) (pp (xI R7 ([(R7.mk 1 2 0 1 2 2 2)]:List R7).length (Zz ([(R7.mk 1 2 0 1 2 2 2)]:List R7))) (xw cD))) nn))))))))))) (fun k7=>(lr 86 3 [1,1,1,1,0] 1 24 [(0,(.bool false))] (sl z0y 25 [] ⟨[],[],[some [0]],[]⟩ ⟨[],[],[]⟩ (trs 8 [false,false,false,false]) (tt k7 (tt k6 (tt k5 (tt k4 (pp (pp (xI R7 (Ya (cvT ld4) 1 0).length (Zz (Ya (cvT ld4) 1 0))) (pp (xI R7 ([(R7.mk 1 2 0 1 2 2 2)]:List R7).length (Zz ([(R7.mk 1 2 0 1 2 2 2)]:List R7))) (xw cD))) nn)))))))))) (fun k6=>(lr 86 3 [1,1,1,1,0] 1 24 [(0,(.bool false))] (sl z0y 25 [] ⟨[],[],[some [0]],[]⟩ ⟨[],[],[]⟩ (trs 6 [false,false,false,false,false,false]) (tt k6 (tt k5 (tt k4 (pp (pp (xI R7 (Ya (cvT ld4) 1 0).length (Zz (Ya (cvT ld4) 1 0))) (pp (xI R7 ([(R7.mk 1 2 0 1 2 2 2)]:List R7).length (Zz ([(R7.mk 1 2 0 1 2 2 2)]:List R7))) (xw cD))) nn))))))))) (fun k5=>(lr 86 3 [1,1,1,1,0] 1 24 [(0,(.bool false))] (sl z0y 25 [] ⟨[],[],[some [0]],[]⟩ ⟨[],[],[]⟩ (trs 3 [false,false,false,false,false,false,false,false,false]) (tt k5 (tt k4 (pp (pp (xI R7 (Ya (cvT ld4) 1 0).length (Zz (Ya (cvT ld4) 1 0))) (pp (xI R7 ([(R7.mk 1 2 0 1 2 2 2)]:List R7).length (Zz ([(R7.mk 1 2 0 1 2 2 2)]:List R7))) (xw cD))) nn)))))))) (fun k4=>(lr 86 3 [1,1,1,1,0] 1 24 [(0,(.bool false))] (sl z0y 25 [] ⟨[],[],[some [0]],[]⟩ ⟨[],[],[]⟩ [true,false,false,false,false,false,false,false,false,false,false,false] (tt k4 (pp (pp (xI R7 (Ya (cvT ld4) 1 0).length (Zz (Ya (cvT ld4) 1 0))) (pp (xI R7 ([(R7.mk 1 2 0 1 2 2 2)]:List R7).length (Zz ([(R7.mk 1 2 0 1 2 2 2)]:List R7))) (xw cD))) nn))))))))) (fun k3=>(lr 86 3 [1,1,1,1,0] 1 24 [(0,(.bool false))] (sl z0y 64 [] ⟨[],[],[some [0]],[]⟩ ⟨[],[],[]⟩ (trs 6 [false,false,false,false,false,false,false,false,false,false,false,false,false,false,false,false,false]) (tt k3 (tt k2 (tt k1 (tt k0 (pp (pp (xI R7 (Wd (cvT ld4) 0).length (Zz (Wd (cvT ld4) 0))) (xw dR)) (pp (pp (xI Pa ld4.length (Zz ld4)) (xw bN)) nn))))))))))) (fun k2=>(lr 86 3 [1,1,1,1,0] 1 24 [(0,(.bool false))] (sl z0y 64 [] ⟨[],[],[some [0]],[]⟩ ⟨[],[],[]⟩ (trs 4 [false,false,false,false,false,false,false,false,false,false,false,false,false,false,false,false,false,false,false]) (tt k2 (tt k1 (tt k0 (pp (pp (xI R7 (Wd (cvT ld4) 0).length (Zz (Wd (cvT ld4) 0))) (xw dR)) (pp (pp (xI Pa ld4.length (Zz ld4)) (xw bN)) nn)))))))))) (fun k1=>(lr 86 3 [1,1,1,1,0] 1 24 [(0,(.bool false))] (sl z0y 64 [] ⟨[],[],[some [0]],[]⟩ ⟨[],[],[]⟩ [true,true,false,false,false,false,false,false,false,false,false,false,false,false,false,false,false,false,false,false,false,false,false] (tt k1 (tt k0 (pp (pp (xI R7 (Wd (cvT ld4) 0).length (Zz (Wd (cvT ld4) 0))) (xw dR)) (pp (pp (xI Pa ld4.length (Zz ld4)) (xw bN)) nn))))))))) (fun k0=>(lr 86 3 [1,1,1,1,0] 1 24 [(0,(.bool false))] (sl z0y 64 [] ⟨[],[],[some [0]],[]⟩ ⟨[],[],[]⟩ [false,false,false,false,false,false,false,false,false,false,false,false,false,false,false,false,false,false,false,false,false,false,false] (tt k0 (pp (pp (xI R7 (Wd (cvT ld4) 0).length (Zz (Wd (cvT ld4) 0))) (xw dR)) (pp (pp (xI Pa ld4.length (Zz ld4)) (xw bN)) nn)))))))))))))))))))))
theorem u4v (n:Nat) (vs:List AVal) (h:Yx (w2q) n (y4t)=.ret vs):Ur prog (Zy prog 24) (Za prog 24 [] true []) vs:=by have:=Zc (v0g) n _ (w2r);rwa [h] at this
inductive fi4S where
def fi4C (l0:List Pa):fi4S→Cfg
 :=nofun
def w1n (l0:List Pa):fi4S→Xw fi4S
 :=nofun
def y4j (l0:List Pa):Xw fi4S:=(bif (decide ((l0.length:Int)≤6)) then (bif (z7x (cvT l0)) then (bif (v0t (cvT l0)) then (bif (z7y (cvT l0)) then (.ret [(.bool ((u7n (cvT l0)) == 0))]) else .stuck) else (.ret [(.bool false)])) else .stuck) else (.ret [(.bool false)]))
theorem w9j (l0:List Pa): ∀s,Xu prog (Zy prog 25) (fi4C l0) (fi4C l0 s) (w1n l0 s)
 :=nofun
theorem w1o (l0:List Pa):Xu prog (Zy prog 25) (fi4C l0) (Za prog 25 [(.dat l0.length (Zz l0))] true []) (y4j l0):=(lb (fun k0=>(lo fun aE=>(lb (fun k1=>(lo fun o0=>(lr 15 3 [1,1,1,1,0] 1 9 [(2,(.bool ((u7n (cvT l0)) == 0)))] (sl z0y 20 [] ⟨[],[],[some [2]],[]⟩ ⟨[],[],[]⟩ (trs 5 []) (pp (pp (xr l0) (xw o0)) (tt k1 (pp (pp (xr l0) (xw aE)) (tt k0 nn)))))))) (fun k1=>(lr 15 3 [1,1,1,1,0] 1 9 [(2,(.bool false))] (sl z0y 20 [] ⟨[],[],[some [2]],[]⟩ ⟨[],[],[]⟩ [true,true,false,false,false] (tt k1 (pp (pp (xr l0) (xw aE)) (tt k0 nn))))))))) (fun k0=>(lr 15 3 [1,1,1,1,0] 1 9 [(2,(.bool false))] (sl z0y 20 [] ⟨[],[],[some [2]],[]⟩ ⟨[],[],[]⟩ [false,false,false,false,false] (tt k0 nn)))))
theorem u3t (l0:List Pa) (n:Nat) (vs:List AVal) (h:Yx (w1n l0) n (y4j l0)=.ret vs):Ur prog (Zy prog 25) (Za prog 25 [(.dat l0.length (Zz l0))] true []) vs:=by have:=Zc (w9j l0) n _ (w1o l0);rwa [h] at this
def inS (X:List R6) (x y z:Int):Prop:= ∃r∈X,(r.a≤x∧x<r.d)∧(r.b≤y∧y<r.e)∧(r.c≤z∧z<r.f)
theorem y0r (X:List R6) (x y z:Int):inS X x y z↔ptL x7y.inB X (z,x,y):=by
 constructor
 ·rintro ⟨r,hr,h1,h2,h3⟩;exact ⟨r,hr,h3.1,h3.2,h1.1,h1.2,h2.1,h2.2⟩
 ·rintro ⟨r,hr,h1,h2,h3,h4,h5,h6⟩;exact ⟨r,hr,⟨h3,h4⟩,⟨h5,h6⟩,h1,h2⟩
namespace Dim
variable {α β:Type} {D:Dim α β}
theorem j4u (hD:D.Fair) (s:List β) (a b x:Int):D.inn (s.map (D.put a b)) x=if a≤x∧x<b then s else []:=by
 unfold inn;have e:(s.map (D.put a b)).filter (fun r=>decide (D.lo r≤x)&&decide (x<D.hi r))=if a≤x∧x<b then s.map (D.put a b) else []:=by
  split
  ·rename_i h;refine List.filter_eq_self.2 fun r hr=> ?_;obtain ⟨c,_,rfl⟩:=AO.1 hr;rw [hD.lo_put,hD.hi_put,An h.1,An h.2];rfl
  ·rename_i h;refine List.filter_eq_nil_iff.2 fun r hr hq=>h ?_;obtain ⟨c,_,rfl⟩:=AO.1 hr;rw [hD.lo_put,hD.hi_put,Ad] at hq
   grind
 rw [e];split
 ·rw [List.map_map];exact (List.map_congr_left fun c _=>hD.pr_put a b c).trans (List.map_id _)
 ·rfl
theorem inn_can (hD:D.Fair) {γ:Type} (M:Sem β γ) (x:Int): ∀G:List (Qw β),z1h M G→M.can (D.inn (D.flat G) x)
 | [],_=>M.nil
 | g::r,h=>by
  rw [show D.flat (g::r)=g.s.map (D.put g.a g.b)++D.flat r from rfl,D.inn_append,j4u hD];split
  ·rename_i hx;have e:D.inn (D.flat r) x=[]:=by unfold inn;rw [List.map_eq_nil_iff,List.filter_eq_nil_iff];intro a ha hq;obtain ⟨k,hk,ha⟩:=AJ.1 ha;obtain ⟨c,_,rfl⟩:=AO.1 ha;rw [hD.lo_put,Ad] at hq;have h1:=Aw hq.1;have:=h.later k hk;omega
   rw [e,AF];exact h.head.2.1
  ·rw [A8];exact inn_can hD M x r h.tail
end Dim
theorem y3d {L:List R6} (hl:L.length≤400) (hv: ∀r∈L,z4e r=true) (hc:x7y.can L):Zr L=0:=by
 have hi: ∀z,D4.out (D6.inn L z)=D6.inn L z:=fun z=>by obtain ⟨h1,h2⟩:=z1z (y0z hv z) (AE (D6.inn_length L z) hl);obtain ⟨G,hG,e⟩:=hc;exact Wu.uniq _ _ h1 (by grind [Dim.inn_can,z7g]) h2
 have hs:Secs L:=fun z=>by rw [hi z];exact AE (D6.inn_length L z) hl
 obtain ⟨h1,h2⟩:=j1f hv hl hs;have e:=x7y.uniq _ _ h1 hc h2;have ok: ∀k i,okF L k i=true:=fun k=>by
  induction k with
  | zero=>intro i;rfl
  | succ k ih=>
   intro i;show (bif We (D6.inn L (rd (D6.cuts L) i)) != 0 then false else okF L k (i+1))=true;rw [(z1j (y0z hv _) (AE (D6.inn_length L _) hl) (hs _)).2]
   grind
 grind [Zr,Ke]
theorem j7o {L:List R6} (hc:x7y.can L) (hb: ∀x y z,inS L x y z→(-1000000≤x∧x<1000000)∧(-1000000≤y∧y<1000000)∧(-1000000≤z∧z<1000000)): ∀r∈L,z4e r=true:=fun r hr=>by
 have hp:r.a<r.d∧r.b<r.e∧r.c<r.f:=by obtain ⟨G,hG,e⟩:=hc;rw [e] at hr;obtain ⟨g,hg,hr⟩:=AJ.1 hr;obtain ⟨b,hb,rfl⟩:=AO.1 hr;obtain ⟨h1,⟨H,hH,e2⟩,_⟩:=hG.all g hg;rw [e2] at hb;obtain ⟨k,hk,hb⟩:=AJ.1 hb;obtain ⟨c,hc,rfl⟩:=AO.1 hb;obtain ⟨h2,h3,_⟩:=hH.all k hk;exact ⟨h2,Can.pos h3 c hc,h1⟩
 have h1:=hb r.a r.b r.c ⟨r,hr,by omega,by omega,by omega⟩;have h2:=hb (r.d - 1) (r.e - 1) (r.f - 1) ⟨r,hr,by omega,by omega,by omega⟩
 grind [x4a,x7f]
open Go.Proofs Go.Sort Go.Shelf Go.RowKit Go.Lib
theorem at_nil (z:Int):atV ([]:List R6) z=[]:=rfl
namespace Dim
variable {α β:Type} (D:Dim α β)
theorem refS (hs: ∀a b,D.same a b=true↔a=b) (sec:Int→List β) (cs:List Int): ∀(k i:Nat) (s:Sw α β) (out:List α) (last:List β) (first:Nat),
  s.out=out→s.last=last→(last≠ []→s.first=first)→(last=[]→out.length≤first)→(0<i→s.fin=rd cs i)→(i=0→last=[])→
  (D.goS sec cs k i s).out =D.ref sec cs k i out last first
 | 0,i,s,out,last,first,h1,h2,h3,h4,h5,h6=>h1
 | k +1,i,s,out,last,first,h1,h2,h3,h4,h5,h6=>by
  subst h1 h2;have e1:D.goS sec cs (k+1) i s=D.goS sec cs k (i+1) (D.oneS (sec (rd cs i)) (rd cs i) (rd cs (i+1)) s):=rfl;rw [e1];unfold ref;rcases Yk (decide (0<(sec (rd cs i)).length)&&((s.fin == rd cs i)&&D.same s.last (sec (rd cs i)))) with q | q
  ·have e:D.oneS (sec (rd cs i)) (rd cs i) (rd cs (i+1)) s=⟨D.grow s.out s.first (rd cs (i+1)),s.last,s.first,rd cs (i+1)⟩:=by unfold oneS;rw [q];rfl
   simp only [Ad,Ar] at q;obtain ⟨q1,q2,q3⟩:=q;have q3:=(hs _ _).1 q3;have hne:s.last≠ []:=fun h=>by rw [h] at q3;rw [←q3] at q1;exact BO _ q1
   have hi:0<i:=Nat.pos_of_ne_zero fun h=>hne (h6 h);have e2:(decide (0<i)&&D.same (sec (rd cs i)) s.last)=true:=by rw [An hi,Ak,hs,q3]
   rw [e2,Ae,e];refine refS hs sec cs k (i+1) _ _ _ _ ?_ rfl h3 (fun h=>absurd h hne) (fun _=>rfl) (fun h=>by omega);rw [h3 hne]
  ·have e:D.oneS (sec (rd cs i)) (rd cs i) (rd cs (i+1)) s=⟨s.out++(sec (rd cs i)).map (D.put (rd cs i) (rd cs (i+1))),sec (rd cs i),s.out.length,rd cs (i+1)⟩:=by unfold oneS;rw [q];rfl
   rcases Yk (decide (0<i)&&D.same (sec (rd cs i)) s.last) with q2 | q2
   ·rw [q2,Ae,e];simp only [Ad,Ar] at q2;obtain ⟨hi,q3⟩:=q2;have q3:=(hs _ _).1 q3;rw [(hs s.last (sec (rd cs i))).2 q3.symm,Ah,h5 hi] at q;have hz:sec (rd cs i)=[]:=by
     cases h:sec (rd cs i) with
     | nil=>rfl
     | cons a b=>rw [h] at q;simp at q
    have hl:s.last=[]:=(by rw [←q3,hz]);have hf:=h4 hl;rw [hz,By,AF];refine refS hs sec cs k (i+1) _ _ _ _ ?_ hl.symm (fun h=>absurd hl h) (fun _=> ?_) (fun _=>rfl) (fun h=>by omega)
    ·exact (D.grow_nil _ _ _ hf).symm
    ·rw [D.grow_length];exact hf
   ·rw [q2,Ac,e];exact refS hs sec cs k (i+1) _ _ _ _ rfl rfl (fun _=>rfl) (fun h=>by rw [h];simp) (fun _=>rfl) (fun h=>by omega)
theorem refS0 (hs: ∀a b,D.same a b=true↔a=b) (sec:Int→List β) (cs:List Int):D.ref sec cs (cs.length - 1) 0 [] [] 0=(D.goS sec cs (cs.length - 1) 0 ⟨[],[],0,0⟩).out :=
 (D.refS hs sec cs _ 0 _ [] [] 0 rfl rfl (fun _=>rfl) (fun _=>Aq _) (fun h=>absurd h (BO _)) (fun _=>rfl)).symm
end Dim
theorem j1u (l:List R4) (hv:l.all Uk=true) (x:Int):swV (D4.inn l x)=y9d 2 l [] x:=by
 have hin:=D4.inn_length l x;have hvi:(D4.inn l x).all z1e=true:=At.2 fun s hs=>by
  grind [z6w,Uk,z1e]
 obtain ⟨c1,c2⟩:=z9s _ hvi;obtain ⟨y1,y2⟩:=Wv (z1d l++z1d []);have e2:y9d 2 l [] x=y1z (ysV l []) ((ysV l []).map fun y=>z4d l x y):=by
  unfold y9d
  congr 1
  simp_all [v7l]
 obtain ⟨d1,d2⟩:=w5r (ysV l []) y1 (fun y=>z4d l x y) (D4.inn l x) (fun s hs=>by
  obtain ⟨r,hr,_,_,rfl⟩:=z6w hs;unfold ysV;exact ⟨(y2 _).2 (AM.2 (.inl (AJ.2 ⟨r,hr,by simp⟩))),(y2 _).2 (AM.2 (.inl (AJ.2 ⟨r,hr,by simp⟩)))⟩) (fun y=>by
  unfold z4d;rw [List.any_eq_true];constructor
  ·rintro ⟨r,hr,h⟩;simp only [in4,Ad,Ar] at h;exact ⟨_,v5j hr h.1 h.2.1,h.2.2.1,h.2.2.2⟩
  ·rintro ⟨s,hs,h1,h2⟩
   grind [z6w,in4])
 grind [w5q]
theorem j0r :swV []=[]:=by
 obtain ⟨h1,h2⟩:=z9s [] rfl;exact y0m z5e h1 fun q hq=>by obtain ⟨s,hs,_⟩:=(h2 q).1 hq;cases hs
theorem jo_sem {l:List R4} (hv: ∀r∈l,Uk r=true):Wu.can (joV 2 l [])∧ ∀p,ptL Wu.inB (joV 2 l []) p↔ptL Wu.inB l p:=by
 have e:joV 2 l []=(D4.goS (fun x=>swV (D4.inn l x)) (D4.cuts (l++[])) ((D4.cuts (l++[])).length - 1) 0 ⟨[],[],0,0⟩).out :=by rw [AF,joV,w4y,←v8k,←Dim.refS0 D4 z7p];simp_all [j1u]
 rw [e];have hs: ∀x,z5e.can (swV (D4.inn l x))∧ ∀y,ptL z5e.inB (swV (D4.inn l x)) y↔ptL z5e.inB (D4.inn l x) y:=fun x=>z9s _ (Jn hv x);obtain ⟨h1,h2⟩:=Dim.goJ_can z2d z7p z5e l [] (fun s _=>swV s) (fun x=>(hs x).1) j0r;refine ⟨h1,fun ⟨x,y⟩=> ?_⟩;rw [show ptL Wu.inB _ (x,y)↔_ from h2 x y,(hs x).2,Dim.pt_inn];rfl
def slJ2 (l:List R6):List R6:=D6.ref (y2h 2 l []) (D6.cuts l) ((D6.cuts l).length - 1) 0 [] [] 0
theorem jo_nil :joV 2 [] []=[]:=rfl
theorem v9o {l:List R6} (hv: ∀r∈l,z4e r=true):x7y.can (slJ2 l)∧ ∀x y z,inS (slJ2 l) x y z↔inS l x y z:=by
 have e:slJ2 l=(D6.goS (fun z=>joV 2 (D6.inn l z) []) (D6.cuts (l++[])) ((D6.cuts (l++[])).length - 1) 0 ⟨[],[],0,0⟩).out :=by rw [AF,←Dim.refS0 D6 z7o];rfl
 rw [e];have hq: ∀z,Wu.can (joV 2 (D6.inn l z) [])∧ ∀p,ptL Wu.inB (joV 2 (D6.inn l z) []) p↔ptL Wu.inB (D6.inn l z) p:=fun z=>jo_sem (y0z hv z);obtain ⟨h1,h2⟩:=Dim.goJ_can z7g z7o Wu l [] (fun s _=>joV 2 s []) (fun x=>(hq x).1) jo_nil;refine ⟨h1,fun x y z=> ?_⟩;rw [y0r,y0r,show ptL x7y.inB _ (z,x,y)↔_ from h2 z (x,y),(hq z).2,Dim.pt_inn];rfl
theorem u5b (a b:List R4):xsV a b=xsV (a++b) []:=by
 grind [xsV,z2z]
theorem ys_app (a b:List R4):ysV a b=ysV (a++b) []:=by
 grind [ysV,z1d]
theorem j1v (a b:List R4) (x:Int):y9d 2 a b x=y9d 2 (a++b) [] x:=by
 unfold y9d;rw [ys_app]
 congr 1
 simp_all [v8s,y1v,z4d]
theorem v5q (a b:List R4): ∀(k i:Nat) (out:List R4) (last:List R2) (first:Nat),jF 2 a b k i out last first=jF 2 (a++b) [] k i out last first
 | 0,_,_,_,_=>rfl
 | k+1,i,out,last,first=>by unfold jF;rw [u5b,j1v,v5q a b k,v5q a b k]
theorem jo_app (a b:List R4):joV 2 a b=joV 2 (a++b) []:=by unfold joV;rw [u5b,v5q]
theorem at_app (a b:List R6) (z:Int):atV (a++b) z=atV a z++atV b z:=by
 grind [atV]
theorem v9u (a b:List R6) (z:Int):y2h 2 a b z=y2h 2 (a++b) [] z:=by
 grind [y2h,jo_app,at_app,at_nil]
theorem v7f (a b:List R6):Vy a b=D6.cuts (a++b):=by
 grind [w3e,Vy,z2y]
def okJ (a b:List R6):Nat→Nat→Bool
 | 0,_=>true
 | k+1,i=>bif z8o 2 a b (rd (D6.cuts (a++b)) i) then false else okJ a b k (i+1)
theorem j4o (a b:List R6): ∀(k i:Nat) (out:List R6) (last:List R4) (first:Nat),jsF 2 a b k i out last first=bif okJ a b k i then some (D6.ref (y2h 2 (a++b) []) (D6.cuts (a++b)) k i out last first) else none
 | 0,_,_,_,_=>rfl
 | k+1,i,out,last,first=>by
  unfold jsF okJ Dim.ref;rw [v7f];rcases Yk (z8o 2 a b (rd (D6.cuts (a++b)) i)) with q | q
  ·rw [q];rfl
  ·rw [q,Ac,Ac,v9u,j4o a b k,j4o a b k];have e:D6.same (y2h 2 (a++b) [] (rd (D6.cuts (a++b)) i)) last=Uf (y2h 2 (a++b) [] (rd (D6.cuts (a++b)) i)) last:=rfl;rw [e];cases (decide (0<i)&&Uf (y2h 2 (a++b) [] (rd (D6.cuts (a++b)) i)) last) <;> rfl
theorem jsO_J (a b:List R6):jsO 2 a b=bif okJ a b ((D6.cuts (a++b)).length - 1) 0 then some (slJ2 (a++b)) else none:=by unfold jsO;rw [j4o,v7f];rfl
theorem j4n {a b:List R6} (h:y8a 2 a b=true):z4x 2 a b=slJ2 (a++b)∧(slJ2 (a++b)).length ≤400:=by
 unfold y8a at h;unfold z4x;rw [jsO_J] at h ⊢
 grind
theorem w1b (l:List R6) (x y z:Int):ptL Wu.inB (D6.inn l z) (x,y)↔inS l x y z:=by rw [y0r,Dim.pt_inn];rfl
open Go.Proofs Go.Sort Go.Shelf Go.RowKit Go.Lib
def stG {β:Type}:List (Qw β)→List Int
 | []=>[]
 | [g]=>[g.a,g.b]
 | g::h::r=>g.a::stG (h::r)
theorem v1r {β:Type}: ∀G:List (Qw β),G≠ []→(stG G).length =G.length+1
 | [],h=>absurd rfl h
 | [g],_=>rfl
 | g::h::r,_=>by show (stG (h::r)).length +1=_;rw [v1r (h::r) (by simp)];rfl
section
variable {β γ:Type} {M:Sem β γ}
def chG (M:Sem β γ) (G:List (Qw β)) (x:Int):Prop:= ∃q,¬(ptG M G (x - 1) q↔ptG M G x q)
theorem x7q : ∀(g:Qw β) (r:List (Qw β)),z1h M (g::r)→ ∀x∈stG (g::r),g.a≤x
 | g,[],h,x,hx=>by
  have:=h.head.1;have hx:x∈ [g.a,g.b]:=hx
  grind
 | g,k::r,h,x,hx=>by
  have hx:x∈g.a::stG (k::r):=hx;rcases AG.1 hx with rfl | hx
  ·grind
  ·have:=x7q k r h.tail x hx;have:=h.later k (by simp);have:=h.head.1;omega
theorem v1t : ∀G:List (Qw β),z1h M G→(stG G).Pairwise (· < ·)
 | [],_=>.nil
 | [g],h=>by have:=h.head.1;show [g.a,g.b].Pairwise (· < ·);simp [this]
 | g::k::r,h=>by refine AR.2 ⟨fun x hx=> ?_,v1t (k::r) h.tail⟩;have:=x7q k r h.tail x hx;have:=h.later k (by simp);have:=h.head.1;omega
theorem x4f {g:Qw β} {r:List (Qw β)} (h:z1h M (g::r)):chG M (g::r) g.a:=by obtain ⟨q,hq⟩:=M.some _ h.head.2.1 h.head.2.2;refine ⟨q,fun e=> ?_⟩;have:=h.low (e.2 ((h.sec0 ⟨AZ _,h.head.1⟩ q).2 hq));omega
theorem v1s : ∀G:List (Qw β),z1h M G→ ∀x∈stG G,chG M G x
 | [],_,x,hx=>by cases hx
 | [g],h,x,hx=>by
  have hx:x∈ [g.a,g.b]:=hx;simp only [AG,Bi,BR] at hx;rcases hx with rfl | rfl
  ·exact x4f h
  ·obtain ⟨q,hq⟩:=M.some _ h.head.2.1 h.head.2.2;have hp:=h.head.1;refine ⟨q,fun e=> ?_⟩;have:=e.1 ((h.sec0 ⟨by omega,by omega⟩ q).2 hq);obtain ⟨k,hk,_⟩:=(h.rest g.b q).2 ⟨AZ _,this⟩;cases hk
 | g::k::r,h,x,hx=>by
  have hx:x∈g.a::stG (k::r):=hx;rcases AG.1 hx with rfl | hx
  ·exact x4f h
  ·have h1:=x7q k r h.tail x hx;have h2:=h.later k (by simp);have hp:=h.head.1;obtain ⟨q,hq⟩:=v1s (k::r) h.tail x hx;by_cases e:g.b<x
   ·refine ⟨q,fun k1=>hq ?_⟩;rw [h.rest,h.rest,k1];constructor <;> exact fun ⟨_,m⟩=>⟨by omega,m⟩
   ·refine Bb fun hn=> ?_;have hn: ∀q,ptG M (g::k::r) (x - 1) q↔ptG M (g::k::r) x q:=fun q=>Bb fun m=>hn ⟨q,m⟩;cases h with
    | cons _ _ _ ok nx kk=>refine nx.2 (by omega) (M.uniq _ _ ok.2.1 kk.head.2.1 fun q=> ?_);have hk:=kk.head.1;rw [←(z1h.cons g k r ok nx kk).sec0 (x:=x - 1) ⟨by omega,by omega⟩ q,hn q,←kk.sec0 (x:=x) ⟨by omega,by omega⟩ q,(z1h.cons g k r ok nx kk).rest];exact ⟨fun m=>⟨by omega,m⟩,fun m=>m.2⟩
theorem v9n {G:List (Qw β)} (h:z1h M G) (U:List Int) (hU: ∀x,chG M G x→x∈U):G.length≤U.length - 1:=by
 cases G with
 | nil=>grind
 | cons g r=>
  have:=y5z (stG (g::r)) U ((v1t _ h).imp fun {a b} k=>by omega) fun x hx=>hU x (v1s _ h x hx)
  grind [v1r]
end
theorem v7w {β γ:Type} {M:Sem β γ}: ∀G:List (Qw β),z1h M G→G.Pairwise fun g k=>g.b≤k.a
 | [],_=>.nil
 | g::r,h=>AR.2 ⟨h.later,v7w r h.tail⟩
theorem v6d {α β:Type} (D:Dim α β) (k:Nat): ∀G:List (Qw β),(∀g∈G,g.s.length≤k)→(D.flat G).length ≤G.length*k
 | [],_=>AB _
 | g::r,h=>by have ih:=v6d D k r fun x hx=>h x (by simp [hx]);have:=h g (by simp);show ((g.s.map (D.put g.a g.b))++D.flat r).length ≤_;rw [AQ,BK,Bn,Nat.succ_mul];omega
theorem j7p {l:List R4} (hc:Wu.can l) (P:Int→Int→Prop) (hp: ∀x y,ptL Wu.inB l (x,y)↔P x y) (U:List Int) (hU: ∀x y,¬(P (x - 1) y↔P x y)→x∈U) (k:Nat)
  (hk: ∀(x:Int) (s:List R2),z5e.can s→(∀y,ptL z5e.inB s y↔P x y)→s.length≤k):l.length≤(U.length - 1)*k:=by
 obtain ⟨G,hG,rfl⟩:=hc;have e: ∀x y,ptG z5e G x y↔P x y:=fun x y=>by rw [←hp];exact (Dim.flat_pt z2d z5e G x y).symm
 refine AE (v6d D4 k G fun g hg=>hk g.a g.s (hG.all g hg).2.1 fun y=> ?_) (Az k (v9n hG U fun x ⟨q,hq⟩=>hU x q (by grind)));have hg1:=(hG.all g hg).1;have c1:=Dim.inn_can z2d z5e g.a G hG;rw [←hp];constructor
 ·intro m;exact (Dim.flat_pt z2d z5e G g.a y).2 ⟨g,hg,AZ _,hg1,m⟩
 ·intro m;obtain ⟨k,hk,k1,k2,k3⟩:=(Dim.flat_pt z2d z5e G g.a y).1 m;have:k=g:=by
   obtain ⟨i,hi,ei⟩:=AK hg;obtain ⟨j,hj,ej⟩:=AK hk;have pw:=v7w G hG;have pw:=AY.1 pw
   grind
  grind
theorem u9v (c:Nat): ∀(l E:List Int),l.Pairwise (· ≠ ·)→(∀x∈l,c≤E.count x)→c*l.length≤E.length
 | [],E,_,_=>AB _
 | x::l,E,h,hs=>by
  obtain ⟨h1,h2⟩:=AR.1 h;have hx:=hs x (by simp);have:=u9v c l (E.filter fun y=> !(y == x)) h2 fun y hy=>by
   rw [List.count_filter (by grind)]
   grind
  have e:E.length=E.count x+(E.filter fun y=> !(y == x)).length :=by
   have:=List.length_eq_countP_add_countP (fun y=>y == x) (l:=E);rw [this,List.countP_eq_length_filter (p:=fun a=>decide ¬(a == x)=true)]
   congr 2
   refine List.filter_congr fun a _=> ?_
   grind
  rw [Bn,Nat.mul_succ];omega
theorem j1a {s:List R2} (hc:z5e.can s) (E:List Int) (c:Nat) (hE: ∀y,¬(ptL z5e.inB s (y - 1)↔ptL z5e.inB s y)→c≤E.count y):c*(2*s.length)≤E.length:=by have hc:Can s:=hc;have:=u9v c (z9k s) E ((z9j hc).imp fun {a b} k=>by omega) fun y hy=>hE y fun e=>chg hc hy e;rwa [z1u] at this
def endsQ (q:Ax) (L:List R6):List Int:=L.flatMap fun r=>[q.lo r,q.hi r]
def plQ (q:Ax) (L:List R6):List Int:=Je (endsQ q L)
def Ax.inB (q:Ax) (r:R6) (p u v:Int):Prop:=(q.lo r≤p∧p<q.hi r)∧((q.rc r).a ≤u∧u<(q.rc r).c)∧((q.rc r).b ≤v∧v<(q.rc r).d)
def Ax.inL (q:Ax) (L:List R6) (p u v:Int):Prop:= ∃r∈L,q.inB r p u v
def Ax.to (q:Ax) (p u v:Int):Int×Int×Int:=match q with
 | .x =>(p,u,v)
 | .y =>(u,p,v)
 | .z =>(u,v,p)
theorem Ax.inL_S (q:Ax) (L:List R6) (p u v:Int):q.inL L p u v↔inS L (q.to p u v).1 (q.to p u v).2.1 (q.to p u v).2.2:=by
 cases q <;> constructor <;> rintro ⟨r,hr,h1,h2,h3⟩
 ·exact ⟨r,hr,h1,h2,h3⟩
 ·exact ⟨r,hr,h1,h2,h3⟩
 ·exact ⟨r,hr,h2,h1,h3⟩
 ·exact ⟨r,hr,h2,h1,h3⟩
 ·exact ⟨r,hr,h2,h3,h1⟩
 ·exact ⟨r,hr,h3,h1,h2⟩
theorem v8n (l:List R4) (u v:Int):ptL Wu.inB l (u,v)↔ ∃r∈l,(r.a≤u∧u<r.c)∧(r.b≤v∧v<r.d):=by
 constructor
 ·rintro ⟨r,hr,h1,h2,h3,h4⟩;exact ⟨r,hr,⟨h1,h2⟩,h3,h4⟩
 ·rintro ⟨r,hr,⟨h1,h2⟩,h3,h4⟩;exact ⟨r,hr,h1,h2,h3,h4⟩
theorem x6b (q:Ax) (L:List R6) (p u v:Int):ptL Wu.inB (z6c q L p) (u,v)↔q.inL L p u v:=by
 rw [v8n];constructor
 ·rintro ⟨s,hs,h⟩;obtain ⟨r,hr,rfl⟩:=AO.1 hs;obtain ⟨h1,h2⟩:=AV.1 hr;simp only [Ad,Ar] at h2;exact ⟨r,h1,h2,h⟩
 ·rintro ⟨r,hr,h1,h2⟩;exact ⟨q.rc r,AO.2 ⟨r,AV.2 ⟨hr,by grind⟩,rfl⟩,h2⟩
theorem Ax.val (q:Ax) {r:R6} (h:z4e r=true):Uk (q.rc r)=true∧q.lo r<q.hi r∧ -1000000≤q.lo r∧q.hi r≤1000000:=by
 have:=z2e h;cases q
 ·refine ⟨?_,by show r.a<r.d;omega,by show _≤r.a;omega,by show r.d≤_;omega⟩;show Uk ⟨r.b,r.c,r.e,r.f⟩=true
  grind [Uk]
 ·refine ⟨?_,by show r.b<r.e;omega,by show _≤r.b;omega,by show r.e≤_;omega⟩;show Uk ⟨r.a,r.c,r.d,r.f⟩=true
  grind [Uk]
 ·refine ⟨?_,by show r.c<r.f;omega,by show _≤r.c;omega,by show r.f≤_;omega⟩;show Uk ⟨r.a,r.b,r.d,r.e⟩=true
  grind [Uk]
theorem y0v (q:Ax) {L:List R6} (hv: ∀r∈L,z4e r=true) (p:Int): ∀s∈z6c q L p,Uk s=true:=fun s hs=>by obtain ⟨r,hr,rfl⟩:=AO.1 hs;exact (q.val (hv r (AV.1 hr).1)).1
theorem x3h (q:Ax) (L:List R6) (p:Int):(z6c q L p).length ≤L.length:=by
 grind [z6c]
theorem y4n {l:List R4} (hc:Wu.can l) (hb: ∀u v,ptL Wu.inB l (u,v)→(-1000000≤u∧u<1000000)∧(-1000000≤v∧v<1000000)): ∀r∈l,Uk r=true:=fun r hr=>by
 have hp:r.a<r.c∧r.b<r.d:=by obtain ⟨G,hG,e⟩:=hc;rw [e] at hr;obtain ⟨g,hg,hr⟩:=AJ.1 hr;obtain ⟨b,hb,rfl⟩:=AO.1 hr;obtain ⟨h1,h2,_⟩:=hG.all g hg;exact ⟨h1,Can.pos h2 b hb⟩
 have h1:=hb r.a r.b ((v8n _ _ _).2 ⟨r,hr,by omega,by omega⟩);have h2:=hb (r.c - 1) (r.d - 1) ((v8n _ _ _).2 ⟨r,hr,by omega,by omega⟩)
 grind [Uk]
theorem x1e {l:List R4} (hv: ∀r∈l,Uk r=true) {u v:Int} (h:ptL Wu.inB l (u,v)):(-1000000≤u∧u<1000000)∧(-1000000≤v∧v<1000000):=by
 grind [v8n,Uk]
structure Few (c l:List R4) (n:Nat):Prop where
 can:Wu.can l
 pts: ∀u v,ptL Wu.inB l (u,v)↔ptL Wu.inB c (u,v)
 val: ∀r∈l,Uk r=true
 len:l.length≤n*n
 sec: ∀x,(D4.inn l x).length ≤n
theorem j3v {l:List R4} (hv: ∀r∈l,Uk r=true) (hl:l.length≤400):(D4.out l).length ≤l.length*l.length:=by
 have h:=z0s 0 hv (fun r (h:r∈([]:List R4))=>by cases h);have e:rgJ 0 l []=D4.out l:=Wu.uniq _ _ h.1 (z1z hv hl).1 fun p=>by
  grind [z1z,y0i,opB]
 grind
theorem x2x {l:List R4} (hc:Wu.can l) (x:Int):z5e.can (D4.inn l x):=by
 obtain ⟨G,hG,e⟩:=hc
 grind [Dim.inn_can,z2d]
theorem v6i {c:List R4} (hv: ∀r∈c,Uk r=true) (hl:c.length≤20):Few c (D4.out c) c.length:=by
 obtain ⟨h1,h2⟩:=z1z hv (by omega);refine ⟨h1,fun u v=>h2 (u,v),y4n h1 fun u v h=>x1e hv ((h2 _).1 h),j3v hv (by omega),fun x=> ?_⟩;have h3:=z5d 0 (a:=D4.inn c x) (b:=[]) (Jn hv x) rfl;have h4:=y5i 0 (a:=D4.inn c x) (b:=[]) (Jn hv x) rfl;have e:spJ 0 (D4.inn c x) []=D4.inn (D4.out c) x:=z5e.uniq _ _ h4.1 (x2x h1 x) fun y=>by
  rw [h4.2];have a1:=x2i c x y;have a2:=x2i (D4.out c) x y;have: ¬pt [] y:=fun ⟨_,h,_⟩=>by cases h
  show _↔pt (D4.inn (D4.out c) x) y
  grind [opB]
 rw [←e];have:=D4.inn_length c x
 grind
theorem w3z {l:List R4} (hl:l.length≤400) (hv: ∀r∈l,Uk r=true) (hc:Wu.can l):y2i l=0:=by
 obtain ⟨h1,h2⟩:=z1z hv hl;have e:D4.out l=l:=Wu.uniq _ _ h1 hc h2
 grind [z2o,x6c,Wf,y8b,j4j,y2i,rgcF,Uf]
theorem w1p {E:Int→Int} {cs:List Int} (h: ∀x,E x=0): ∀k i,y7s E cs k i=0
 | 0,i=>rfl
 | k+1,i=>by show (bif E (rd cs i) != 0 then E (rd cs i) else y7s E cs k (i+1))=0;rw [h];exact w1p h k (i+1)
theorem x2e (o:Op) {a b:List R4} (la:a.length≤400) (lb:b.length≤400) (va: ∀r∈a,Uk r=true) (vb: ∀r∈b,Uk r=true) (ca:Wu.can a) (cb:Wu.can b)
  (sa: ∀x,(D4.inn a x).length +(D4.inn b x).length ≤400) (lj:(rgJ o.k a b).length ≤400):rgE o a b=0:=by
 have sc: ∀(l:List R4) (x:Int),l.length≤400→(∀r∈l,Uk r=true)→Wu.can l→y9l (D4.inn l x)=0:=fun l x hl hv hc=>
  (x1s _).2 ⟨AE (D4.inn_length l x) hl,Jn hv x,x2x hc x⟩
 have hz: ∀x,rgA o a b x=0:=fun x=>by
  unfold rgA spE;rw [sc a x la va ca,sc b x lb vb cb]
  grind [z5d,Jn,x6c]
 unfold rgE;rw [w3z la va ca,w3z lb vb cb,w1p hz];show x6c _=0
 grind [x6c]
def hiL (q:Ax) (L:List R6) (p:Int):List R4:=(L.filter fun r=>decide (q.hi r=p)).map q.rc
def loL (q:Ax) (L:List R6) (p:Int):List R4:=(L.filter fun r=>decide (q.lo r=p)).map q.rc
theorem v1f (q:Ax) {L:List R6} (hv: ∀r∈L,q.lo r<q.hi r) (p:Int):(hiL q L p).length +(loL q L p).length ≤L.length:=by
 unfold hiL loL;rw [BK,BK]
 induction L with
 | nil=>grind
 | cons r L ih=>
  grind
theorem hi_pt (q:Ax) (L:List R6) (p u v:Int):ptL Wu.inB (hiL q L p) (u,v)↔ ∃r∈L,q.hi r=p∧((q.rc r).a ≤u∧u<(q.rc r).c)∧((q.rc r).b ≤v∧v<(q.rc r).d):=by
 rw [v8n];constructor
 ·rintro ⟨s,hs,h⟩;obtain ⟨r,hr,rfl⟩:=AO.1 hs
  grind
 ·rintro ⟨r,hr,h1,h2⟩;exact ⟨q.rc r,AO.2 ⟨r,AV.2 ⟨hr,An h1⟩,rfl⟩,h2⟩
theorem lo_pt (q:Ax) (L:List R6) (p u v:Int):ptL Wu.inB (loL q L p) (u,v)↔ ∃r∈L,q.lo r=p∧((q.rc r).a ≤u∧u<(q.rc r).c)∧((q.rc r).b ≤v∧v<(q.rc r).d):=by
 rw [v8n];constructor
 ·rintro ⟨s,hs,h⟩;obtain ⟨r,hr,rfl⟩:=AO.1 hs
  grind
 ·rintro ⟨r,hr,h1,h2⟩;exact ⟨q.rc r,AO.2 ⟨r,AV.2 ⟨hr,An h1⟩,rfl⟩,h2⟩
theorem Ap6.not (q:Ax) {r s:R6} (h:Ap6 r s) {p u v:Int} (h1:q.inB r p u v) (h2:q.inB s p u v):False:=by obtain ⟨a1,a2,a3⟩:=h1;obtain ⟨b1,b2,b3⟩:=h2;unfold Ap6 at h;cases q <;> simp only [Ax.lo,Ax.hi,Ax.rc] at* <;> omega
theorem u8n {L:List R6} (hL:L.Pairwise Ap6) (q:Ax) {r s:R6} (hr:r∈L) (hs:s∈L) {p u v:Int} (h1:q.inB r p u v) (h2:q.inB s p u v):r=s:=by
 obtain ⟨i,hi,ei⟩:=AK hr;obtain ⟨j,hj,ej⟩:=AK hs;have pw:=AY.1 hL;rcases Bh i j with h | h | h
 ·have:=pw i j hi hj h;rw [ei,ej] at this;exact (this.not q h1 h2).elim
 ·grind
 ·have:=pw j i hj hi h;rw [ei,ej] at this;exact (this.not q h2 h1).elim
theorem v8w (q:Ax) {L:List R6} (hL:L.Pairwise Ap6) (hv: ∀r∈L,q.lo r<q.hi r) (p u v:Int):
  (q.inL L (p - 1) u v∧ ¬q.inL L p u v)↔(ptL Wu.inB (hiL q L p) (u,v)∧ ¬ptL Wu.inB (loL q L p) (u,v)):=by
 rw [hi_pt,lo_pt];constructor
 ·rintro ⟨⟨r,hr,h1,h2⟩,h3⟩;refine ⟨⟨r,hr,?_,h2⟩,fun ⟨s,hs,k1,k2⟩=>h3 ⟨s,hs,⟨by omega,by grind⟩,k2⟩⟩;refine Bb fun hn=>h3 ⟨r,hr,⟨by omega,by omega⟩,h2⟩
 ·rintro ⟨⟨r,hr,h1,h2⟩,h3⟩;have hlt:=hv r hr;have hb:q.inB r (p - 1) u v:=⟨⟨by omega,by omega⟩,h2⟩
  refine ⟨⟨r,hr,hb⟩,fun ⟨s,hs,k1,k2⟩=> ?_⟩;by_cases e:q.lo s=p
  ·grind
  ·have:=u8n hL q hr hs hb ⟨⟨by omega,by omega⟩,k2⟩
   grind
theorem w9s (q:Ax) {L:List R6} (hL:L.Pairwise Ap6) (hv: ∀r∈L,q.lo r<q.hi r) (p u v:Int):
  (q.inL L p u v∧ ¬q.inL L (p - 1) u v)↔(ptL Wu.inB (loL q L p) (u,v)∧ ¬ptL Wu.inB (hiL q L p) (u,v)):=by
 rw [hi_pt,lo_pt];constructor
 ·rintro ⟨⟨r,hr,h1,h2⟩,h3⟩;refine ⟨⟨r,hr,?_,h2⟩,fun ⟨s,hs,k1,k2⟩=>h3 ⟨s,hs,⟨by grind,by omega⟩,k2⟩⟩;refine Bb fun hn=>h3 ⟨r,hr,⟨by omega,by omega⟩,h2⟩
 ·rintro ⟨⟨r,hr,h1,h2⟩,h3⟩;have hlt:=hv r hr;have hb:q.inB r p u v:=⟨⟨by omega,by omega⟩,h2⟩
  refine ⟨⟨r,hr,hb⟩,fun ⟨s,hs,k1,k2⟩=> ?_⟩;by_cases e:q.hi s=p
  ·grind
  ·have:=u8n hL q hr hs hb ⟨⟨by omega,by omega⟩,k2⟩
   grind
def upF (q:Ax) (L:List R6) (p:Int):List R4:=rgJ 2 (D4.out (z6c q L (p - 1))) (D4.out (z6c q L p))
def dnF (q:Ax) (L:List R6) (p:Int):List R4:=rgJ 2 (D4.out (z6c q L p)) (D4.out (z6c q L (p - 1)))
section
variable (q:Ax) {L:List R6} (hv: ∀r∈L,z4e r=true) (hl:L.length≤20) (hL:L.Pairwise Ap6)
include hv hl
theorem fw (p:Int):Few (z6c q L p) (D4.out (z6c q L p)) (z6c q L p).length :=v6i (y0v q hv p) (AE (x3h q L p) hl)
theorem v1d (p:Int):Wu.can (upF q L p)∧ ∀u v,ptL Wu.inB (upF q L p) (u,v)↔(q.inL L (p - 1) u v∧ ¬q.inL L p u v):=by have f1:=fw q hv hl (p - 1);have f2:=fw q hv hl p;obtain ⟨h1,h2,_⟩:=z0s 2 f1.val f2.val;refine ⟨h1,fun u v=> ?_⟩;rw [show ptL Wu.inB (upF q L p) (u,v)↔_ from h2 (u,v),←x6b,←x6b,←f1.pts,←f2.pts];simp [opB]
theorem v7a (p:Int):Wu.can (dnF q L p)∧ ∀u v,ptL Wu.inB (dnF q L p) (u,v)↔(q.inL L p u v∧ ¬q.inL L (p - 1) u v):=by have f1:=fw q hv hl (p - 1);have f2:=fw q hv hl p;obtain ⟨h1,h2,_⟩:=z0s 2 f2.val f1.val;refine ⟨h1,fun u v=> ?_⟩;rw [show ptL Wu.inB (dnF q L p) (u,v)↔_ from h2 (u,v),←x6b,←x6b,←f1.pts,←f2.pts];simp [opB]
include hL
theorem v8v (p:Int):(upF q L p).length +(dnF q L p).length ≤((hiL q L p).length +(loL q L p).length)*((hiL q L p).length +(loL q L p).length):=by
 have hr: ∀r∈L,q.lo r<q.hi r:=fun r h=>(q.val (hv r h)).2.1;have va: ∀s∈hiL q L p,Uk s=true:=fun s hs=>by obtain ⟨r,hr,rfl⟩:=AO.1 hs;exact (q.val (hv r (AV.1 hr).1)).1
 have vb: ∀s∈loL q L p,Uk s=true:=fun s hs=>by obtain ⟨r,hr,rfl⟩:=AO.1 hs;exact (q.val (hv r (AV.1 hr).1)).1
 obtain ⟨a1,a2,_⟩:=z0s 2 va vb;obtain ⟨b1,b2,_⟩:=z0s 2 vb va;obtain ⟨u1,u2⟩:=v1d q hv hl p;obtain ⟨d1,d2⟩:=v7a q hv hl p;have e1:upF q L p=rgJ 2 (hiL q L p) (loL q L p):=Wu.uniq _ _ u1 a1 fun ⟨u,v⟩=>by
  grind [v8w,opB]
 have e2:dnF q L p=rgJ 2 (loL q L p) (hiL q L p):=Wu.uniq _ _ d1 b1 fun ⟨u,v⟩=>by
  grind [w9s,opB]
 rw [e1,e2];exact u1m va vb
end
def fcF (q:Ax) (s:Bool) (L:List R6) (p:Int):List R4:=match s with
 | true=>upF q L p
 | false=>dnF q L p
theorem y0j (q:Ax) (L:List R6):(plQ q L).Pairwise (· < ·):=by
 grind [plQ,Km,Wv]
theorem x2m (q:Ax) (L:List R6) (p:Int):p∈plQ q L↔ ∃r∈L,p=q.lo r∨p=q.hi r:=by
 grind [plQ,Km,Wv,endsQ]
theorem x7k (a:Int): ∀P:List Int,P.Pairwise (· < ·)→(P.map fun p=>if a=p then 1 else 0).sum ≤1
 | [],_=>AB _
 | p::P,h=>by
  obtain ⟨h1,h2⟩:=AR.1 h;rw [AU,BJ];by_cases e:a=p
  ·rw [AI e];have:(P.map fun p=>if a=p then 1 else 0)=P.map fun _=>0:=List.map_congr_left fun x hx=>by
    grind
   rw [this];have: ∀l:List Int,(l.map fun _=>0).sum =0:=fun l=>by induction l with
    | nil=>rfl
    | cons _ _ ih=>grind
   grind
  simp_all [x7k]
theorem y4z (f:R6→Int) (P:List Int) (hP:P.Pairwise (· < ·)) (g:R6→R4): ∀L:List R6,(P.map fun p=>((L.filter fun r=>decide (f r=p)).map g).length).sum ≤L.length
 | []=>by
  have: ∀l:List Int,(l.map fun p=>((([]:List R6).filter fun r=>decide (f r=p)).map g).length).sum =0:=fun l=>by induction l with
   | nil=>rfl
   | cons _ _ ih=>grind
  grind
 | r::L=>by
  have ih:=y4z f P hP g L;have h1:=x7k (f r) P hP;have: ∀l:List Int,(l.map fun p=>(((r::L).filter fun r=>decide (f r=p)).map g).length).sum =(l.map fun p=>if f r=p then 1 else 0).sum +(l.map fun p=>((L.filter fun r=>decide (f r=p)).map g).length).sum :=fun l=>by
   induction l with
   | nil=>rfl
   | cons p l ih=>
    grind
  grind
def x2z (x:Int):Prop:= -12≤x∧x<12
def nb2 (R:List R4):Prop:= ∀u v,ptL Wu.inB R (u,v)→x2z u∧x2z v
def nbS (L:List R6):Prop:= ∀x y z,inS L x y z→x2z x∧x2z y∧x2z z
def L25 :List Int:=(List.range 25).map fun (n:Nat)=>(n:Int) - 12
theorem v8j {x:Int} (h: -12≤x∧x≤12):x∈L25:=AO.2 ⟨(x+12).toNat,A3.2 (by omega),by omega⟩
theorem v3w {R:List R4} (hc:Wu.can R) (U W:List Int) (hU: ∀u v,¬(ptL Wu.inB R (u - 1,v)↔ptL Wu.inB R (u,v))→u∈U) (hW: ∀u v,¬(ptL Wu.inB R (u,v - 1)↔ptL Wu.inB R (u,v))→v∈W):
  R.length≤(U.length - 1)*(W.length / 2)∧ ∀x,(D4.inn R x).length ≤W.length / 2:=by
 have sp: ∀(x:Int) (s:List R2),z5e.can s→(∀y,ptL z5e.inB s y↔ptL Wu.inB R (x,y))→s.length≤W.length / 2:=fun x s hs hy=>by have:=j1a hs W 1 fun y hn=>List.count_pos_iff.2 (hW x y (by grind));omega
 exact ⟨j7p hc (fun u v=>ptL Wu.inB R (u,v)) (fun _ _=>Iff.rfl) U (fun x y hn=>hU x y hn) _ sp,fun x=>sp x _ (x2x hc x) fun y=>x2i R x y⟩
theorem y6c {R:List R4} (hc:Wu.can R) (h:nb2 R):R.length≤288∧ ∀x,(D4.inn R x).length ≤12:=by
 have key: ∀{a b:Prop} {x:Int},¬(a↔b)→(a→x2z (x - 1))→(b→x2z x)→x∈L25:=fun {a b x} hn ha hb=>v8j (by
  grind [x2z])
 have:=v3w hc L25 L25 (fun u v hn=>key hn (fun k=>(h _ _ k).1) fun k=>(h _ _ k).1) (fun u v hn=>key hn (fun k=>(h _ _ k).2) fun k=>(h _ _ k).2);have e:L25.length=25:=rfl
 grind
theorem v7g (q:Ax) (L:List R6) (p:Int):y8c q.ix L p=z6c q L p:=by cases q <;> rfl
theorem v4k (q:Ax) (L:List R6):plA q.ix L=plQ q L:=by cases q <;> rfl
section
variable {L:List R6} (h:Zr L=0)
include h
theorem z2b (q:Ax) (p:Int):Wu.can (D4.out (z6c q L p))∧(∀u v,ptL Wu.inB (D4.out (z6c q L p)) (u,v)↔q.inL L p u v)∧ ∀r∈D4.out (z6c q L p),Uk r=true:=by obtain ⟨hl,hv,_,_⟩:=Qy h;obtain ⟨h1,h2⟩:=z1z (y0v q hv p) (AE (x3h q L p) hl);exact ⟨h1,fun u v=>by rw [h2,x6b],y4n h1 fun u v k=>x1e (y0v q hv p) ((h2 _).1 k)⟩
theorem z4u (hn:nbS L) (q:Ax) {p u v:Int} (k:q.inL L p u v):x2z p∧x2z u∧x2z v:=by
 have _u:=h;rw [q.inL_S] at k;have:=hn _ _ _ k;cases q
 ·exact this
 ·exact ⟨this.2.1,this.1,this.2.2⟩
 ·exact ⟨this.2.2,this.1,this.2.1⟩
theorem w5o (hn:nbS L) (q:Ax) (p:Int):Xr q.ix L p=0∧Zg q.ix L p=D4.out (z6c q L p)∧(D4.out (z6c q L p)).length ≤288∧ ∀x,(D4.inn (D4.out (z6c q L p)) x).length ≤12:=by
 obtain ⟨hl,hv,_,_⟩:=Qy h;obtain ⟨c,pts,_⟩:=z2b h q p;obtain ⟨n1,n2⟩:=y6c c fun u v k=>(z4u h hn q ((pts u v).1 k)).2
 grind [z1j,y0v,x3h,Xr,Zg,v7g]
end
theorem w3p {L:List R6} (h:Zr L=0):x7y.can L:=by
 obtain ⟨hl,hv,_,_⟩:=Qy h
 grind [z1l,w5p,rckF,Ke,j4n,v9o]
theorem y6o {L:List R6} (h:Zr L=0) (z:Int):Wu.can (D6.inn L z)∧(∀r∈D6.inn L z,Uk r=true)∧(D6.inn L z).length ≤400∧D4.out (D6.inn L z)=D6.inn L z:=by
 obtain ⟨hl,hv,e,_⟩:=Qy h;have hc:x7y.can L:=w3p h;obtain ⟨G,hG,e⟩:=hc;have c:Wu.can (D6.inn L z):=by grind [Dim.inn_can,z7g]
 have v:=y0z hv z;have n:=AE (D6.inn_length L z) hl;exact ⟨c,v,n,Wu.uniq _ _ (z1z v (by omega)).1 c (z1z v (by omega)).2⟩
theorem inn_nb {L:List R6} (h:nbS L) (z:Int):nb2 (D6.inn L z):=fun u v k=>by
 have:=h u v z ((w1b L u v z).1 k)
 grind
section
variable {a b:List R6} (ha:Zr a=0) (hb:Zr b=0) (na:nbS a) (nb:nbS b)
include ha hb na nb
theorem sec_u (x:Int):slA .u a b x=0:=by
 obtain ⟨a1,a2,a3,a4⟩:=y6o ha x;obtain ⟨b1,b2,b3,b4⟩:=y6o hb x;obtain ⟨ma0,ma1⟩:=z1j a2 a3 (by grind);obtain ⟨mb0,mb1⟩:=z1j b2 b3 (by grind)
 grind [y6c,inn_nb,z0s,nb2,opB,x2e,slA]
theorem j1j :slE .u a b=x6c (slJ .u a b).length :=by unfold slE;rw [ha,hb,w1p (sec_u ha hb na nb)];rfl
theorem u_pts :x7y.can (slJ .u a b)∧ ∀x y z,inS (slJ .u a b) x y z↔inS a x y z∨inS b x y z:=by
 have hS: ∀x,slS .u a b x=rgJ 0 (D6.inn a x) (D6.inn b x):=fun x=>by
  grind [y6o,z1j,slS]
 have e:slJ .u a b=(D6.goS (fun x=>rgJ 0 (D6.inn a x) (D6.inn b x)) (D6.cuts (a++b)) ((D6.cuts (a++b)).length - 1) 0 ⟨[],[],0,0⟩).out :=by unfold slJ;rw [show slS .u a b=fun x=>rgJ 0 (D6.inn a x) (D6.inn b x) from funext hS]
 have j:=fun x=>z0s 0 (y6o ha x).2.1 (y6o hb x).2.1;obtain ⟨h1,h2⟩:=Dim.goJ_can z7g z7o Wu a b (rgJ 0) (fun x=>(j x).1) (by
  obtain ⟨j1,j2,j3⟩:=z0s 0 (a:=[]) (b:=[]) (fun r hr=>by cases hr) (fun r hr=>by cases hr);simp_all)
 rw [e];refine ⟨h1,fun x y z=> ?_⟩;have _u:=na;have _v:=nb;rw [y0r,show ptL x7y.inB _ (z,x,y)↔_ from h2 z (x,y),(j z).2.1,←w1b a,←w1b b];simp [opB]
theorem u_ok (h:z5u .u a b=0):Zr (z2f .u a b)=0∧nbS (z2f .u a b)∧ ∀x y z,inS (z2f .u a b) x y z↔inS a x y z∨inS b x y z:=by
 obtain ⟨c,pts⟩:=u_pts ha hb na nb;have h:slE .u a b=0:=h;have e:z2f .u a b=slJ .u a b:=by unfold z2f;rw [h];rfl
 grind [z9h,j1j,nbS,y3d,j7o,x2z]
end
theorem z8n {S:List R6} (h:w8h S=true):nbS S∧S.length≤6:=by
 obtain ⟨h1,h2⟩:=BD.1 h;refine ⟨fun x y z ⟨r,hr,k1,k2,k3⟩=> ?_,Aw h1⟩
 grind [x2z]
theorem v2o {l:List Pa}: ∀k i,skG l k i=0→ ∀j,i≤j→j<i+k→w2l l j=false
 | 0,i,_,j,h1,h2=>by omega
 | k+1,i,h,j,h1,h2=>by
  have h:(bif w2l l i then (8:Int) else skG l k (i+1))=0:=h;rcases Yk (w2l l i) with q | q
  ·rw [q] at h;cases h
  ·rw [q,Ac] at h;rcases A6 h1 with rfl | h1
   ·exact q
   ·exact v2o k (i+1) h j h1 (by omega)
def v8p (b:R6) (x y z:Int):Prop:=(b.a≤x∧x<b.d)∧(b.b≤y∧y<b.e)∧(b.c≤z∧z<b.f)
structure j7y (l:List Pa):Prop where
 len:l.length≤50
 sck: ∀i,i<l.length→Zr (rd l i).s =0
 val: ∀i,i<l.length→Zr [bxP (rd l i)]=0
 ins: ∀i,i<l.length→ ∀x y z,inS (rd l i).s x y z→v8p (bxP (rd l i)) x y z
 dis: ∀i j,i<l.length→j<l.length→ ∀x y z,v8p (bxP (rd l i)) x y z→v8p (bxP (rd l j)) x y z→i=j
theorem v5n {l:List Pa} (h:z2h l=0):j7y l:=by
 obtain ⟨h5,hE,hG⟩:=w3o h;have bad:=v2o _ _ hG;have b3: ∀i,i<l.length→Zr [bxP (rd l i)]=0∧(rd l i).s.any (fun r=> !insR r (bxP (rd l i)))=false∧(l.take i).any (fun y=>u2m (bxP (rd l i)) (bxP y))=false:=fun i hi=>by
  grind [w2l]
 have half: ∀i j,i<l.length→j<i→ ∀x y z,v8p (bxP (rd l i)) x y z→v8p (bxP (rd l j)) x y z→False:=fun i j hi hj x y z h1 h2=>by
  have:=List.any_eq_false.1 (b3 i hi).2.2 (rd l j) (by
   rw [Yo (show j<l.length by omega)];refine List.mem_iff_getElem.2 ⟨j,by grind,?_⟩
   grind)
  grind [v8p,u2m,j4b]
 refine ⟨h5,fun i hi=>(x1n h hi).1,fun i hi=>(b3 i hi).1,fun i hi x y z ⟨r,hr,k1,k2,k3⟩=> ?_,fun i j hi hj x y z h1 h2=> ?_⟩;all_goals grind [insR,j4t,v8p]
theorem x8b :Zr []=0:=by refine y3d (AB _) (fun r hr=>by cases hr) ⟨[],.nil,rfl⟩
theorem w0a :nbS []:=fun x y z ⟨r,hr,_⟩=>by cases hr
def Vt (q:Ax) (s:Bool):Nat:=match q,s with
 | .x,true=>0
 | .x,false=>1
 | .y,true=>2
 | .y,false=>3
 | .z,true=>4
 | .z,false=>5
theorem x0v (q:Ax) (s:Bool):dhA (Vt q s:Int)=q.ix:=by cases q <;> cases s <;> rfl
def Jm (s:Bool) (p:Int):Int:=match s with
 | true=>p - 1
 | false=>p
def Kp (s:Bool) (p:Int):Int:=match s with
 | true=>p
 | false=>p - 1
theorem v4m (q:Ax) (s:Bool) {p:Int} (hp: -12≤p∧p≤12):x9v (Vt q s:Int) p=Jm s p∧y7x (Vt q s:Int) p=Kp s p:=by have w:wrap .i64 (p - 1)=p - 1:=Zk (by omega);unfold x9v y7x Jm Kp;rw [w];cases q <;> cases s <;> exact ⟨rfl,rfl⟩
theorem u6m (L:List R6) (x y z:Int):rh6V L x y z=true↔inS L x y z:=by
 grind [rh6V,shsV,inS,shR]
theorem opD {A B:Prop} [Decidable A] [Decidable B]:opB 2 (decide A) (decide B)=true↔A∧ ¬B:=by simp [opB]
theorem opE {A B:Prop} [Decidable A] [Decidable B]:opB 1 (decide A) (decide B)=true↔A∧B:=by simp [opB]
theorem x9h (q:Op) {a b:List R4} (h:rgE q a b=0):Wy q a b=rgJ q.k a b:=by unfold Wy;rw [h];rfl
def FS (q:Ax) (s:Bool) (S A:List R6) (p:Int):List R4:=rgJ 2 (D4.out (z6c q S (Jm s p))) (D4.out (z6c q A (Kp s p)))
section
variable {S A:List R6} (hS:Zr S=0) (hA:Zr A=0) (nS:nbS S) (nA:nbS A)
include hS hA
theorem w5v (q:Ax) (s:Bool) (p:Int):Wu.can (FS q s S A p)∧ ∀u v,ptL Wu.inB (FS q s S A p) (u,v)↔q.inL S (Jm s p) u v∧ ¬q.inL A (Kp s p) u v:=by
 grind [z2b,z0s,FS,opD]
include nS
theorem j0e (q:Ax) (s:Bool) (p:Int):(FS q s S A p).length ≤288:=by obtain ⟨c,pts⟩:=w5v hS hA q s p;exact (y6c c fun u v k=>(z4u hS nS q ((pts u v).1 k).1).2).1
include nA
theorem x1m (q:Ax) (s:Bool) {p:Int} (hp: -12≤p∧p≤12):y2g S A (Vt q s:Int) p=0∧z0a S A (Vt q s:Int) p=FS q s S A p:=by obtain ⟨o1,o2⟩:=v4m q s hp;obtain ⟨a0,a1,a2,a3⟩:=w5o hS nS q (Jm s p);obtain ⟨b0,b1,b2,b3⟩:=w5o hA nA q (Kp s p);obtain ⟨ca,_,va⟩:=z2b hS q (Jm s p);obtain ⟨cb,_,vb⟩:=z2b hA q (Kp s p);have fl:=j0e hS hA nS q s p;have e:=x2e .d (by omega) (by omega) va vb ca cb (fun x=>by grind) (show (FS q s S A p).length ≤400 by omega);unfold y2g z0a;rw [x0v,o1,o2,a0,b0,a1,b1,x9h .d e];refine ⟨?_,rfl⟩;show rgE .d _ _=0;exact e
end
theorem pl12 {S:List R6} (h:w8h S=true) (q:Ax) {p:Int} (hp:p∈plQ q S): -12≤p∧p≤12:=by obtain ⟨r,hr,e⟩:=(x2m q S p).1 hp;have b:=At.1 (BD.1 h).2 r hr;simp only [Ad,Ar] at b;cases q <;> simp only [Ax.lo,Ax.hi] at e <;> omega
theorem u9u {d:Nat} (h:d<6): ∃q s,d=Vt q s:=by
 have:d=0∨d=1∨d=2∨d=3∨d=4∨d=5:=by omega
 rcases this with rfl | rfl | rfl | rfl | rfl | rfl
 ·exact ⟨.x,true,rfl⟩
 ·exact ⟨.x,false,rfl⟩
 ·exact ⟨.y,true,rfl⟩
 ·exact ⟨.y,false,rfl⟩
 ·exact ⟨.z,true,rfl⟩
 ·exact ⟨.z,false,rfl⟩
theorem x5w (E:Int→Int): ∀l:List Int,(∀p∈l,E p=0)→y4k E l=0
 | [],_=>rfl
 | p::l,h=>by unfold y4k;rw [h p (by simp)];exact x5w E l fun x hx=>h x (by simp [hx])
section
variable {S N:List R6} {m:R6} {E:Int→Int→Int} {M:Int→Int→List R4} (hr:w8h S=true)
 (hE: ∀q s p,-12≤p∧p≤12→E (Vt q s:Int) p=0) (hM: ∀q s p,-12≤p∧p≤12→M (Vt q s:Int) p=faceQ S N m (Vt q s:Int) p)
include hr
theorem y7f (hE: ∀q s p,-12≤p∧p≤12→E (Vt q s:Int) p=0): ∀k d,d+k=6→v0e E S k d=0
 | 0,_,_=>rfl
 | k+1,d,h=>by
  obtain ⟨q,s,e⟩:=u9u (show d<6 by omega);have z:y4k (E (d:Int)) (plA (dhA (d:Int)) S)=0:=by rw [e,x0v,v4k];exact x5w _ _ fun p hp=>hE q s p (pl12 hr q hp)
  show (bif y4k (E (d:Int)) (plA (dhA (d:Int)) S) != 0 then y4k (E (d:Int)) (plA (dhA (d:Int)) S) else v0e E S k (d+1))=0;rw [z];exact y7f hE k (d+1) (by omega)
end
theorem w5s (M:Int→Int→List R4) (S:List R6):(z6d M S 6 0).length =(Jr M (Vt .x true:Int) (plQ .x S)).length +(Jr M (Vt .x false:Int) (plQ .x S)).length +((Jr M (Vt .y true:Int) (plQ .y S)).length +(Jr M (Vt .y false:Int) (plQ .y S)).length)+((Jr M (Vt .z true:Int) (plQ .z S)).length +(Jr M (Vt .z false:Int) (plQ .z S)).length):=by
 have e:z6d M S 6 0=Jr M ((0:Nat):Int) (plA (dhA ((0:Nat):Int)) S)++(Jr M ((0+1:Nat):Int) (plA (dhA ((0+1:Nat):Int)) S)++(Jr M ((0+1+1:Nat):Int) (plA (dhA ((0+1+1:Nat):Int)) S)++(Jr M ((0+1+1+1:Nat):Int) (plA (dhA ((0+1+1+1:Nat):Int)) S)++(Jr M ((0+1+1+1+1:Nat):Int) (plA (dhA ((0+1+1+1+1:Nat):Int)) S)++(Jr M ((0+1+1+1+1+1:Nat):Int) (plA (dhA ((0+1+1+1+1+1:Nat):Int)) S)++[]))))):=rfl
 grind [Vt,x0v,v4k]
theorem x3f (M:Int→Int→List R4) (d:Int): ∀P:List Int,(Jr M d P).length =(P.map fun p=>(M d p).length).sum
 | []=>rfl
 | p::P=>by have ih:=x3f M d P;show ((M d p).map _++Jr M d P).length =_;rw [AQ,BK,ih,AU,BJ]
theorem v1k (e:Int) (f g:Int→Nat): ∀P:List Int,(∀p∈P,f p≤288∧(p≠e→f p≤g p))→(P.map f).sum ≤288*(P.map fun p=>if e=p then 1 else 0).sum +(P.map g).sum
 | [],_=>AB _
 | p::P,h=>by
  have ih:=v1k e f g P fun x hx=>h x (by simp [hx])
  grind
theorem w3i {e:Int} {f g:Int→Nat} {P:List Int} (hP:P.Pairwise (· < ·)) (h: ∀p∈P,f p≤288∧(p≠e→f p≤g p)):(P.map f).sum ≤288+(P.map g).sum :=by
 have h1:=v1k e f g P h;have h2:=x7k e P hP
 grind
theorem u3v {S:List R6} (h:Zr S=0) (hl:S.length≤6) (q:Ax):((plQ q S).map fun p=>(fcF q true S p).length).sum +((plQ q S).map fun p=>(fcF q false S p).length).sum ≤240:=by
 obtain ⟨_,hv,_,hL⟩:=Qy h;have hr: ∀r∈S,q.lo r<q.hi r:=fun r h=>(q.val (hv r h)).2.1;have key: ∀P:List Int,(P.map fun p=>(fcF q true S p).length).sum +(P.map fun p=>(fcF q false S p).length).sum ≤20*((P.map fun p=>(hiL q S p).length).sum +(P.map fun p=>(loL q S p).length).sum):=fun P=>by
  induction P with
  | nil=>grind
  | cons p P ih=>
   simp only [AU,BJ] at ih ⊢;have h1:=v8v q hv (by omega) hL p;have h2:(hiL q S p).length +(loL q S p).length ≤20:=by have:=v1f q hr p;omega
   have h3:=Az ((hiL q S p).length +(loL q S p).length) h2
   grind [fcF]
 have h1:=y4z q.hi (plQ q S) (y0j q S) q.rc S;have h2:=y4z q.lo (plQ q S) (y0j q S) q.rc S;have:=key (plQ q S);unfold hiL loL at this;omega
theorem x6e (q:Ax) (b:R6) (p u v:Int):q.inB b p u v↔v8p b (q.to p u v).1 (q.to p u v).2.1 (q.to p u v).2.2:=by
 cases q
 ·exact ⟨fun ⟨a,b,c⟩=>⟨a,b,c⟩,fun ⟨a,b,c⟩=>⟨a,b,c⟩⟩
 ·exact ⟨fun ⟨a,b,c⟩=>⟨b,a,c⟩,fun ⟨a,b,c⟩=>⟨b,a,c⟩⟩
 ·exact ⟨fun ⟨a,b,c⟩=>⟨b,c,a⟩,fun ⟨a,b,c⟩=>⟨c,a,b⟩⟩
def w6v (q:Ax) (s:Bool) (b:R6):Int:=match s with
 | true=>q.hi b
 | false=>q.lo b
theorem x0k {q:Ax} {s:Bool} {b:R6} {p u v:Int} (h:q.inB b (Jm s p) u v) (hne:p≠w6v q s b):q.inB b (Kp s p) u v:=by
 obtain ⟨h1,h2⟩:=h;refine ⟨?_,h2⟩;cases s with
 | true=>have h1:q.lo b≤p - 1∧p - 1<q.hi b:=h1;have hne:p≠q.hi b:=hne;show q.lo b≤p∧p<q.hi b;omega
 | false=>have h1:q.lo b≤p∧p<q.hi b:=h1;have hne:p≠q.lo b:=hne;show q.lo b≤p - 1∧p - 1<q.hi b;omega
theorem j5f {S:List R6} (h:Zr S=0) (hl:S.length≤6) (q:Ax) (s:Bool) (p:Int):Wu.can (fcF q s S p)∧ ∀u v,ptL Wu.inB (fcF q s S p) (u,v)↔q.inL S (Jm s p) u v∧ ¬q.inL S (Kp s p) u v:=by
 obtain ⟨_,hv,_,_⟩:=Qy h;cases s with
 | true=>exact v1d q hv (by omega) p
 | false=>exact v7a q hv (by omega) p
section
variable {l:List Pa} (L:j7y l) (hn: ∀x∈l,w8h x.s=true) {A:List R6} (hA:Zr A=0) (nA:nbS A) (pA: ∀x y z,inS A x y z↔ ∃p∈l,inS p.s x y z) {i:Nat} (hi:i<l.length)
include L hn hA nA pA hi
theorem v2m (q:Ax) (s:Bool) {p:Int} (hne:p≠w6v q s (bxP (rd l i))):(FS q s (rd l i).s A p).length ≤(fcF q s (rd l i).s p).length :=by
 have _u:=nA;have hS:=L.sck i hi;have hr:=hn (rd l i) (by grind [Yo]);obtain ⟨nS,l6⟩:=z8n hr;obtain ⟨c1,p1⟩:=w5v hS hA q s p;obtain ⟨c2,p2⟩:=j5f hS l6 q s p;have e:FS q s (rd l i).s A p=fcF q s (rd l i).s p:=Wu.uniq _ _ c1 c2 fun ⟨u,v⟩=>by
  rw [p1,p2];constructor
  ·rintro ⟨k1,k2⟩;refine ⟨k1,fun k=>k2 ?_⟩;rw [q.inL_S] at k ⊢
   grind [Yo]
  ·rintro ⟨k1,k2⟩;refine ⟨k1,fun k=>k2 ?_⟩;rw [q.inL_S] at k;obtain ⟨r,hr',kr⟩:=(pA _ _ _).1 k;obtain ⟨j,hj,rfl⟩:=AK hr';rw [←Yo hj] at kr;have b1:q.inB (bxP (rd l i)) (Jm s p) u v:=(x6e q _ _ _ _).2 (L.ins i hi _ _ _ ((q.inL_S _ _ _ _).1 k1));have b2:=(x6e q _ _ _ _).1 (x0k b1 hne);have b3:=L.ins j hj _ _ _ kr;have:=L.dis i j hi hj _ _ _ b2 b3;subst this;rw [q.inL_S];exact kr
 grind
theorem v9r :(z6d (z0a (rd l i).s A) (rd l i).s 6 0).length ≤3000:=by
 have hS:=L.sck i hi;have hr:=hn (rd l i) (by grind [Yo]);obtain ⟨nS,l6⟩:=z8n hr;have one: ∀q s,(Jr (z0a (rd l i).s A) (Vt q s:Int) (plQ q (rd l i).s)).length ≤288+((plQ q (rd l i).s).map fun p=>(fcF q s (rd l i).s p).length).sum :=fun q s=>by
  rw [x3f];refine w3i (e:=w6v q s (bxP (rd l i))) (y0j q _) fun p hp=> ?_;rw [(x1m hS hA nS nA q s (pl12 hr q hp)).2]
  grind [j0e,v2m]
 have two: ∀q,(Jr (z0a (rd l i).s A) (Vt q true:Int) (plQ q (rd l i).s)).length +(Jr (z0a (rd l i).s A) (Vt q false:Int) (plQ q (rd l i).s)).length ≤816:=fun q=>by have a:=one q true;have b:=one q false;have c:=u3v hS l6 q;omega
 grind [w5s]
theorem v2n :w3g (y2g (rd l i).s A) (z0a (rd l i).s A) (rd l i).s =0:=by
 have hS:=L.sck i hi
 grind [Yo,z8n,v9r,y7f,x1m,w3g]
end
theorem j7q {b:R6} (h:Zr [b]=0):z4e b=true:=(Qy h).2.1 b (by simp)
theorem j3w {b:R6} (h:Zr [b]=0) (q:Ax) (p:Int):Xr q.ix [b] p=0∧Zg q.ix [b] p=D4.out (z6c q [b] p)∧(D4.out (z6c q [b] p)).length ≤1∧(∀x,(D4.inn (D4.out (z6c q [b] p)) x).length ≤1):=by obtain ⟨hl,hv,_,_⟩:=Qy h;have n1:(z6c q [b] p).length ≤1:=x3h q [b] p;have f:=v6i (y0v q hv p) (by omega);have fl:(D4.out (z6c q [b] p)).length ≤1:=AE f.len (Nat.mul_le_mul n1 n1);obtain ⟨m0,m1⟩:=z1j (y0v q hv p) (by omega) (by omega);unfold Xr Zg;rw [v7g];exact ⟨m1,m0,fl,fun x=>AE (f.sec x) n1⟩
theorem y5x (q:Ax) (b:R6) (p u v:Int):q.inL [b] p u v↔q.inB b p u v:=by
 constructor
 ·rintro ⟨r,hr,k⟩
  grind
 ·exact fun k=>⟨b,by simp,k⟩
section
variable {S T:List R6} {b:R6} (hS:Zr S=0) (hT:Zr T=0) (hb:Zr [b]=0) (nS:nbS S) (nT:nbS T)
include hT hb
def ZS (q:Ax) (s:Bool) (T:List R6) (b:R6) (p:Int):List R4:=rgJ 2 (D4.out (z6c q [b] (Kp s p))) (D4.out (z6c q T (Kp s p)))
theorem v8h (q:Ax) (s:Bool) (p:Int):Wu.can (ZS q s T b p)∧(∀u v,ptL Wu.inB (ZS q s T b p) (u,v)↔q.inB b (Kp s p) u v∧ ¬q.inL T (Kp s p) u v)∧ ∀r∈ZS q s T b p,Uk r=true:=by
 obtain ⟨a1,a2,a3⟩:=z2b hb q (Kp s p);obtain ⟨b1,b2,b3⟩:=z2b hT q (Kp s p);obtain ⟨j1,j2,_⟩:=z0s 2 a3 b3;have pts: ∀u v,ptL Wu.inB (ZS q s T b p) (u,v)↔q.inB b (Kp s p) u v∧ ¬q.inL T (Kp s p) u v:=fun u v=>by
  grind [ZS,opD,y5x]
 refine ⟨j1,pts,y4n j1 fun u v k=> ?_⟩;have:=(j2 (u,v)).1 k;rw [opD] at this;exact x1e a3 this.1
include nT
theorem ZS_len (q:Ax) (s:Bool) (p:Int):(ZS q s T b p).length ≤400∧ ∀x,(D4.inn (ZS q s T b p) x).length ≤13:=by
 obtain ⟨c,pts,_⟩:=v8h hT hb q s p;have key: ∀{a a' b b':Prop} {x lo hi:Int},¬((a∧ ¬b)↔(a'∧ ¬b'))→(b→x2z (x - 1))→(b'→x2z x)→(x≠lo→x≠hi→(a↔a'))→x∈L25++[lo,hi]:=fun {a a' b b' x lo hi} hn h1 h2 h3=>by
  rw [AM];by_cases e1:x=lo;all_goals grind [v8j,x2z]
 have:=v3w c (L25++[(q.rc b).a,(q.rc b).c]) (L25++[(q.rc b).b,(q.rc b).d]) (fun u v hn=>by
  rw [pts,pts] at hn;refine key hn (fun k=>(z4u hT nT q k).2.1) (fun k=>(z4u hT nT q k).2.1) fun e1 e2=> ?_
  grind [Ax.inB]) (fun u v hn=>by
  rw [pts,pts] at hn;refine key hn (fun k=>(z4u hT nT q k).2.2) (fun k=>(z4u hT nT q k).2.2) fun e1 e2=> ?_
  grind [Ax.inB])
 grind [L25]
include hS nS
def PS (q:Ax) (s:Bool) (S T:List R6) (b:R6) (p:Int):List R4:=rgJ 1 (D4.out (z6c q S (Jm s p))) (ZS q s T b p)
theorem x6u (q:Ax) (s:Bool) (p:Int):Wu.can (PS q s S T b p)∧(∀u v,ptL Wu.inB (PS q s S T b p) (u,v)↔q.inL S (Jm s p) u v∧q.inB b (Kp s p) u v∧ ¬q.inL T (Kp s p) u v)∧(PS q s S T b p).length ≤288:=by
 obtain ⟨a1,a2,a3⟩:=z2b hS q (Jm s p);obtain ⟨z1,z2,z3⟩:=v8h hT hb q s p;obtain ⟨j1,j2,_⟩:=z0s 1 a3 z3;have _u:=nT;have pts: ∀u v,ptL Wu.inB (PS q s S T b p) (u,v)↔q.inL S (Jm s p) u v∧q.inB b (Kp s p) u v∧ ¬q.inL T (Kp s p) u v:=fun u v=>by
  grind [PS,opE]
 exact ⟨j1,pts,(y6c j1 fun u v k=>(z4u hS nS q ((pts u v).1 k).1).2).1⟩
theorem x1g (q:Ax) (s:Bool) {p:Int} (hp: -12≤p∧p≤12):y2f S T b (Vt q s:Int) p=0∧Ja S T b (Vt q s:Int) p=PS q s S T b p:=by obtain ⟨o1,o2⟩:=v4m q s hp;obtain ⟨a0,a1,a2,a3⟩:=w5o hS nS q (Jm s p);obtain ⟨t0,t1,t2,t3⟩:=w5o hT nT q (Kp s p);obtain ⟨b0,b1,b2,b3⟩:=j3w hb q (Kp s p);obtain ⟨ca,_,va⟩:=z2b hS q (Jm s p);obtain ⟨ct,_,vt⟩:=z2b hT q (Kp s p);obtain ⟨cb,_,vb⟩:=z2b hb q (Kp s p);obtain ⟨zl,zx⟩:=ZS_len hT hb nT q s p;obtain ⟨cz,_,vz⟩:=v8h hT hb q s p;obtain ⟨_,_,pl⟩:=x6u hS hT hb nS nT q s p;have e1:=x2e .d (by omega) (by omega) vb vt cb ct (fun x=>by grind) (show (ZS q s T b p).length ≤400 from zl);have e2:=x2e .e (show _≤400 by omega) zl va vz ca cz (fun x=>by grind) (show (PS q s S T b p).length ≤400 by omega);have z0:Wy .d (D4.out (z6c q [b] (Kp s p))) (D4.out (z6c q T (Kp s p)))=ZS q s T b p:=x9h .d e1;unfold y2f Ja;rw [x0v,o1,o2,a0,b0,t0,a1,b1,t1,z0,x9h .e e2];have e1:Kq .d (D4.out (z6c q [b] (Kp s p))) (D4.out (z6c q T (Kp s p)))=0:=e1;rw [e1];refine ⟨?_,rfl⟩;show rgE .e _ _=0;exact e2
end
section
variable {l:List Pa} (L:j7y l) (hn: ∀x∈l,w8h x.s=true) {i k:Nat} (hi:i<l.length) (hk:k<l.length) (hik:i≠k)
include L hn hi hk hik
theorem x7o :w3g (y2f (rd l i).s (rd l k).s (bxP (rd l k))) (Ja (rd l i).s (rd l k).s (bxP (rd l k))) (rd l i).s =0:=by
 have hS:=L.sck i hi;have hT:=L.sck k hk;have hb:=L.val k hk;have hr:=hn (rd l i) (by grind [Yo]);have hr2:=hn (rd l k) (by grind [Yo]);obtain ⟨nS,_⟩:=z8n hr;obtain ⟨nT,_⟩:=z8n hr2;have side: ∀q s p,p≠w6v q s (bxP (rd l i))→(PS q s (rd l i).s (rd l k).s (bxP (rd l k)) p).length ≤0:=fun q s p hne=>by
  obtain ⟨c,pts,_⟩:=x6u hS hT hb nS nT q s p;have:PS q s (rd l i).s (rd l k).s (bxP (rd l k)) p=[]:=y0m Wu c fun ⟨u,v⟩ m=>by obtain ⟨k1,k2,_⟩:=(pts u v).1 m;have b1:q.inB (bxP (rd l i)) (Jm s p) u v:=(x6e q _ _ _ _).2 (L.ins i hi _ _ _ ((q.inL_S _ _ _ _).1 k1));exact hik (L.dis i k hi hk _ _ _ ((x6e q _ _ _ _).1 (x0k b1 hne)) ((x6e q _ _ _ _).1 k2))
  grind
 have one: ∀q s,(Jr (Ja (rd l i).s (rd l k).s (bxP (rd l k))) (Vt q s:Int) (plQ q (rd l i).s)).length ≤288:=fun q s=>by
  rw [x3f];have:=w3i (e:=w6v q s (bxP (rd l i))) (f:=fun p=>(Ja (rd l i).s (rd l k).s (bxP (rd l k)) (Vt q s:Int) p).length) (g:=fun _=>0) (y0j q (rd l i).s) fun p hp=>by
   show (Ja (rd l i).s (rd l k).s (bxP (rd l k)) (Vt q s:Int) p).length ≤288∧(p≠w6v q s (bxP (rd l i))→(Ja (rd l i).s (rd l k).s (bxP (rd l k)) (Vt q s:Int) p).length ≤0);rw [(x1g hS hT hb nS nT q s (pl12 hr q hp)).2]
   grind [x6u]
  have z: ∀P:List Int,(P.map fun _=>(0:Nat)).sum =0:=fun P=>by
   induction P with
   | nil=>rfl
   | cons _ _ ih=>grind
  grind
 have dU:(z6d (Ja (rd l i).s (rd l k).s (bxP (rd l k))) (rd l i).s 6 0).length ≤3000:=by have a:=one .x true;have b:=one .x false;have c:=one .y true;have d:=one .y false;have e:=one .z true;have f:=one .z false;rw [w5s];omega
 grind [y7f,x1g,w3g]
end
theorem v2y (b:R6):rvbR b=true↔z4e b=true:=by
 grind [rvbR,rvbV,x1z,x4a,x7f]
theorem can1 (a b:Int) (h:a<b):z5e.can [⟨a,b⟩]:=⟨by simpa using h,by simp⟩
theorem y0l {b:R6} (h:z4e b=true):Zr [b]=0:=by have v:=z2e h;refine y3d (show 1≤400 by decide) (fun r hr=>by grind) ⟨[⟨b.c,b.f,[⟨b.a,b.b,b.d,b.e⟩]⟩],.one _ ⟨by grind,⟨[⟨b.a,b.d,[⟨b.b,b.e⟩]⟩],.one _ ⟨by grind,can1 b.b b.e (by omega),by simp⟩,rfl⟩,by simp⟩,rfl⟩
theorem u2k {a b:R6} (ha:z4e a=true) (hb:z4e b=true):u2m a b= !eqB (w8c a b) o6:=by
 have va:=z2e ha;have vb:=z2e hb;unfold u2m j4b w8c z9q
 grind [y6q,x3a,eqB,o6]
theorem j4s {a b:R6} (ha:z4e a=true):insR a b=eqB (w8c a b) a:=by
 have va:=z2e ha
 grind [insR,j4t,w8c,z9q,y6q,x3a,eqB]
theorem v2p : ∀l:List Pa,skE l=rkE l
 | []=>rfl
 | x::l=>by unfold skE rkE;rw [w5p,v2p l]
theorem any_cg {α:Type} {f g:α→Bool}: ∀{l:List α},(∀x∈l,f x=g x)→l.any f=l.any g
 | [],_=>rfl
 | x::l,h=>by grind
theorem u6l {l:List Pa} (hs: ∀x∈l,Zr x.s=0): ∀(k i:Nat),i+k≤l.length→(∀j,j<i→z4e (bxP (rd l j))=true)→skG l k i=rkG l k i
 | 0,_,_,_=>rfl
 | k +1,i,h,hv=>by
  have hi:i<l.length:=by omega
  have hsi:=hs (rd l i) (by grind [Yo]);obtain ⟨_,sv,_,_⟩:=Qy hsi;show (bif w2l l i then (8:Int) else skG l k (i+1))=bif j3q l i then 8 else rkG l k (i+1);by_cases hb:z4e (bxP (rd l i))=true
  ·have e1:(Zr [bxP (rd l i)] != 0)=false:=by rw [y0l hb];rfl
   have e2:(!rvbR (bxP (rd l i)))=false:=by rw [(v2y _).2 hb];rfl
   have e:w2l l i=j3q l i:=by
    unfold w2l j3q;rw [e1,e2]
    congr 2
    ·grind [j4s]
    ·refine any_cg fun y hy=> ?_;obtain ⟨j,hj,rfl⟩:=AK hy
     grind [Yo,u2k]
   rw [e,u6l hs k (i+1) (by omega) fun j hj=>by
    rcases A6 (Nat.le_of_lt_succ hj) with rfl | g
    ·exact hb
    ·exact hv j g]
  grind [j7q,v2y,w2l,j3q]
theorem u9x (l:List Pa):z2h l=u7n l:=by
 unfold z2h u7n;rw [v2p];cases g:decide (50<l.length) with
 | true=>rfl
 | false=>
  rw [Ac,Ac];rcases Yk (rkE l != 0) with q | q
  ·rw [q];rfl
  ·rw [q,Ac,Ac];have h0:skE l=0:=by rw [v2p];simpa using q
   grind [u6l,x1o]
end Go.Am
end
