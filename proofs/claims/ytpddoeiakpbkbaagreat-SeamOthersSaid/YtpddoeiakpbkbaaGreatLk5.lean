/- A part of a proof: several texts in one. -/
import Derived.Test.YtpddoeiakpbkbaaGreatLk4
set_option maxRecDepth 1000000
set_option maxHeartbeats 8000000
set_option linter.unusedVariables false
set_option linter.unusedSimpArgs false
noncomputable section
namespace Go.Am
open IntKind (wrap)
open Go.Proofs.Tryz
open Go.Proofs
inductive rlcS where
 | h0 (v3:Int)
 | h1 (v4:Int)
 | h2 (v4:Int) (v5:Int)
 | h3 (v4:Int) (v6:Int)
def rlcC (l0:List Pa):rlcS→Cfg
 | .h0 v3=>⟨⟨93,0,true⟩,none,(Zg prog 21 [1,1,0,1,0,0] 0),none,(Zy prog 9),⟨Yk [(0,(.dat l0.length (Zz l0))),(3,(ii v3))],Vv [] 0,0,[],true⟩,[],.leaf⟩
 | .h1 v4=>⟨⟨93,0,true⟩,none,(Zg prog 21 [1,1,1,0,1,0,0] 0),none,(Zy prog 9),⟨Yk [(0,(.dat l0.length (Zz l0))),(4,(ii v4))],Vv [] 0,0,[],true⟩,[],.leaf⟩
 | .h2 v4 v5=>⟨⟨93,0,true⟩,none,(Zg prog 21 [1,1,1,0,1,0,0,1,0,0,1,0,1,0,0] 0),none,(Zy prog 9),⟨Yk [(0,(.dat l0.length (Zz l0))),(4,(ii v4)),(5,(ii v5))],Vv [] 0,0,[],true⟩,[],.leaf⟩
 | .h3 v4 v6=>⟨⟨93,0,true⟩,none,(Zg prog 21 [1,1,1,0,1,0,0,1,0,0,1,1,1,0,0] 0),none,(Zy prog 9),⟨Yk [(0,(.dat l0.length (Zz l0))),(4,(ii v4)),(6,(ii v6))],Vv [] 0,0,[],true⟩,[],.leaf⟩
def rlcN0 :List (Option (List Nat)):=[some [0,3]]
def rlcM0 :List (Option (List Nat)):=[]
def rlcN1 :List (Option (List Nat)):=[some [0,4]]
def rlcM1 :List (Option (List Nat)):=[]
def rlcN2 :List (Option (List Nat)):=[some [0,4,5]]
def rlcM2 :List (Option (List Nat)):=[]
def rlcN3 :List (Option (List Nat)):=[some [0,4,6]]
def rlcM3 :List (Option (List Nat)):=[]
def Ve (l0:List Pa):rlcS→Xw rlcS
 | .h0 v3=>(bif (decide (v3<(l0.length:Int))) then (bif ((decide (0≤v3∧v3<(l0.length:Int)))&&true) then (bif (y6p (cvT (rd l0 v3.toNat).s)) then (bif ((z1w (cvT (rd l0 v3.toNat).s)) != 0) then (.ret [(.int .i64 (z1w (cvT (rd l0 v3.toNat).s)))]) else (.to (.h0 (wrap .i64 (v3+1))))) else .stuck) else .stuck) else (.to (.h1 0)))
 | .h1 v4=>(bif (decide (v4<(l0.length:Int))) then (bif ((decide (0≤v4∧v4<(l0.length:Int)))&&true) then (bif (!(rvbV (rd l0 v4.toNat).a (rd l0 v4.toNat).b (rd l0 v4.toNat).c (rd l0 v4.toNat).d (rd l0 v4.toNat).e (rd l0 v4.toNat).f)) then (.ret [(.int .i64 8)]) else (.to (.h2 v4 0))) else .stuck) else (.ret [(.int .i64 0)]))
 | .h2 v4 v5=>(bif ((decide (0≤v4∧v4<(l0.length:Int)))&&true) then (bif (decide (v5<(((rd l0 v4.toNat).s.length :Nat):Int))) then (bif ((decide (0≤v5∧v5<(((rd l0 v4.toNat).s.length :Nat):Int)))&&true) then (bif (!((((y0l (rd (rd l0 v4.toNat).s v5.toNat).a (rd (rd l0 v4.toNat).s v5.toNat).b (rd (rd l0 v4.toNat).s v5.toNat).c (rd (rd l0 v4.toNat).s v5.toNat).d (rd (rd l0 v4.toNat).s v5.toNat).e (rd (rd l0 v4.toNat).s v5.toNat).f (rd l0 v4.toNat).a (rd l0 v4.toNat).b (rd l0 v4.toNat).c (rd l0 v4.toNat).d (rd l0 v4.toNat).e (rd l0 v4.toNat).f).a == (rd (rd l0 v4.toNat).s v5.toNat).a)&&(((y0l (rd (rd l0 v4.toNat).s v5.toNat).a (rd (rd l0 v4.toNat).s v5.toNat).b (rd (rd l0 v4.toNat).s v5.toNat).c (rd (rd l0 v4.toNat).s v5.toNat).d (rd (rd l0 v4.toNat).s v5.toNat).e (rd (rd l0 v4.toNat).s v5.toNat).f (rd l0 v4.toNat).a (rd l0 v4.toNat).b (rd l0 v4.toNat).c (rd l0 v4.toNat).d (rd l0 v4.toNat).e (rd l0 v4.toNat).f).b == (rd (rd l0 v4.toNat).s v5.toNat).b)&&(((y0l (rd (rd l0 v4.toNat).s v5.toNat).a (rd (rd l0 v4.toNat).s v5.toNat).b (rd (rd l0 v4.toNat).s v5.toNat).c (rd (rd l0 v4.toNat).s v5.toNat).d (rd (rd l0 v4.toNat).s v5.toNat).e (rd (rd l0 v4.toNat).s v5.toNat).f (rd l0 v4.toNat).a (rd l0 v4.toNat).b (rd l0 v4.toNat).c (rd l0 v4.toNat).d (rd l0 v4.toNat).e (rd l0 v4.toNat).f).c == (rd (rd l0 v4.toNat).s v5.toNat).c)&&true)))&&((((y0l (rd (rd l0 v4.toNat).s v5.toNat).a (rd (rd l0 v4.toNat).s v5.toNat).b (rd (rd l0 v4.toNat).s v5.toNat).c (rd (rd l0 v4.toNat).s v5.toNat).d (rd (rd l0 v4.toNat).s v5.toNat).e (rd (rd l0 v4.toNat).s v5.toNat).f (rd l0 v4.toNat).a (rd l0 v4.toNat).b (rd l0 v4.toNat).c (rd l0 v4.toNat).d (rd l0 v4.toNat).e (rd l0 v4.toNat).f).d == (rd (rd l0 v4.toNat).s v5.toNat).d)&&(((y0l (rd (rd l0 v4.toNat).s v5.toNat).a (rd (rd l0 v4.toNat).s v5.toNat).b (rd (rd l0 v4.toNat).s v5.toNat).c (rd (rd l0 v4.toNat).s v5.toNat).d (rd (rd l0 v4.toNat).s v5.toNat).e (rd (rd l0 v4.toNat).s v5.toNat).f (rd l0 v4.toNat).a (rd l0 v4.toNat).b (rd l0 v4.toNat).c (rd l0 v4.toNat).d (rd l0 v4.toNat).e (rd l0 v4.toNat).f).e == (rd (rd l0 v4.toNat).s v5.toNat).e)&&(((y0l (rd (rd l0 v4.toNat).s v5.toNat).a (rd (rd l0 v4.toNat).s v5.toNat).b (rd (rd l0 v4.toNat).s v5.toNat).c (rd (rd l0 v4.toNat).s v5.toNat).d (rd (rd l0 v4.toNat).s v5.toNat).e (rd (rd l0 v4.toNat).s v5.toNat).f (rd l0 v4.toNat).a (rd l0 v4.toNat).b (rd l0 v4.toNat).c (rd l0 v4.toNat).d (rd l0 v4.toNat).e (rd l0 v4.toNat).f).f == (rd (rd l0 v4.toNat).s v5.toNat).f)&&true)))&&true))) then (.ret [(.int .i64 8)]) else (.to (.h2 v4 (wrap .i64 (v5+1))))) else .stuck) else (.to (.h3 v4 0))) else .stuck)
 | .h3 v4 v6=>(bif (decide (v6<v4)) then (bif ((decide (0≤v4∧v4<(l0.length:Int)))&&true) then (bif ((decide (0≤v6∧v6<(l0.length:Int)))&&true) then (bif (!((((y0l (rd l0 v4.toNat).a (rd l0 v4.toNat).b (rd l0 v4.toNat).c (rd l0 v4.toNat).d (rd l0 v4.toNat).e (rd l0 v4.toNat).f (rd l0 v6.toNat).a (rd l0 v6.toNat).b (rd l0 v6.toNat).c (rd l0 v6.toNat).d (rd l0 v6.toNat).e (rd l0 v6.toNat).f).a == 0)&&(((y0l (rd l0 v4.toNat).a (rd l0 v4.toNat).b (rd l0 v4.toNat).c (rd l0 v4.toNat).d (rd l0 v4.toNat).e (rd l0 v4.toNat).f (rd l0 v6.toNat).a (rd l0 v6.toNat).b (rd l0 v6.toNat).c (rd l0 v6.toNat).d (rd l0 v6.toNat).e (rd l0 v6.toNat).f).b == 0)&&(((y0l (rd l0 v4.toNat).a (rd l0 v4.toNat).b (rd l0 v4.toNat).c (rd l0 v4.toNat).d (rd l0 v4.toNat).e (rd l0 v4.toNat).f (rd l0 v6.toNat).a (rd l0 v6.toNat).b (rd l0 v6.toNat).c (rd l0 v6.toNat).d (rd l0 v6.toNat).e (rd l0 v6.toNat).f).c == 0)&&true)))&&((((y0l (rd l0 v4.toNat).a (rd l0 v4.toNat).b (rd l0 v4.toNat).c (rd l0 v4.toNat).d (rd l0 v4.toNat).e (rd l0 v4.toNat).f (rd l0 v6.toNat).a (rd l0 v6.toNat).b (rd l0 v6.toNat).c (rd l0 v6.toNat).d (rd l0 v6.toNat).e (rd l0 v6.toNat).f).d == 0)&&(((y0l (rd l0 v4.toNat).a (rd l0 v4.toNat).b (rd l0 v4.toNat).c (rd l0 v4.toNat).d (rd l0 v4.toNat).e (rd l0 v4.toNat).f (rd l0 v6.toNat).a (rd l0 v6.toNat).b (rd l0 v6.toNat).c (rd l0 v6.toNat).d (rd l0 v6.toNat).e (rd l0 v6.toNat).f).e == 0)&&(((y0l (rd l0 v4.toNat).a (rd l0 v4.toNat).b (rd l0 v4.toNat).c (rd l0 v4.toNat).d (rd l0 v4.toNat).e (rd l0 v4.toNat).f (rd l0 v6.toNat).a (rd l0 v6.toNat).b (rd l0 v6.toNat).c (rd l0 v6.toNat).d (rd l0 v6.toNat).e (rd l0 v6.toNat).f).f == 0)&&true)))&&true))) then (.ret [(.int .i64 8)]) else (.to (.h3 v4 (wrap .i64 (v6+1))))) else .stuck) else .stuck) else (.to (.h1 (wrap .i64 (v4+1)))))
def y4k (l0:List Pa):Xw rlcS:=(bif (decide ((l0.length:Int)>50)) then (.ret [(.int .i64 4)]) else (.to (.h0 0)))
theorem w8s (l0:List Pa): ∀s,Xv prog (Zy prog 21) (rlcC l0) (rlcC l0 s) (Ve l0 s)
 | .h0 v3=>(lb (fun k0=>(lo fun aI=>(lo fun bG=>(lb (fun k1=>(lr 93 21 [1,1,0,1,0,0,1,0,0,1,0,0] 1 9 [(2,(ii (z1w (cvT (rd l0 (tn v3)).s))))] (sl Jn 33 [] ⟨[],[],[some [2]],[]⟩ ⟨[],[],[]⟩ (bl 2 3) (pp (pp (xI R6 (rd l0 (tn v3)).s.length (Zz (rd l0 (tn v3)).s)) (xw bG)) (ww aI (tt k1 (pp (pp (xI R6 (rd l0 (tn v3)).s.length (Zz (rd l0 (tn v3)).s)) (xw bG)) (ww aI (tt k0 nn))))))))) (fun k1=>(sl Jn 31 [] ⟨[],[],rlcN0,rlcM0⟩ ⟨[],[],[]⟩ (bl 2 1) (tt k1 (pp (pp (xI R6 (rd l0 (tn v3)).s.length (Zz (rd l0 (tn v3)).s)) (xw bG)) (ww aI (tt k0 nn)))))))))) (fun k0=>(sl Jn 17 [] ⟨[],[],rlcN1,rlcM1⟩ ⟨[],[],[]⟩ [false] (tt k0 nn))))
 | .h1 v4=>(lb (fun k0=>(lo fun aI=>(lb (fun k1=>(lr 93 21 [1,1,1,0,1,0,0,1,0,0,0,1,0,0] 1 9 [(2,(ii 8))] (sl Jn 28 [] ⟨[],[],[some [2]],[]⟩ ⟨[],[],[]⟩ (bl 2 3) (tt k1 (ww aI (tt k0 nn)))))) (fun k1=>(sl Jn 32 [] ⟨[],[],rlcN2,rlcM2⟩ ⟨[],[],[]⟩ (bl 2 1) (tt k1 (ww aI (tt k0 nn)))))))) (fun k0=>(lr 93 3 [1,1,1,1,0] 1 9 [(2,(ii 0))] (sl Jn 14 [] ⟨[],[],[some [2]],[]⟩ ⟨[],[],[]⟩ [false] (tt k0 nn)))))
 | .h2 v4 v5=>(lo fun bP=>(lb (fun k0=>(lo fun aI=>(lb (fun k1=>(lr 93 21 [1,1,1,0,1,0,0,1,0,0,1,0,1,0,0,1,0,0,1,0,0] 1 9 [(2,(ii 8))] (sl Jn 23 [] ⟨[],[],[some [2]],[]⟩ ⟨[],[],[]⟩ (bl 2 3) (tt k1 (ww aI (ww bP (ww bP (ww aI (ww bP (tt k0 (ww bP nn))))))))))) (fun k1=>(sl Jn 27 [] ⟨[],[],rlcN2,rlcM2⟩ ⟨[],[],[]⟩ (bl 2 1) (tt k1 (ww aI (ww bP (ww bP (ww aI (ww bP (tt k0 (ww bP nn))))))))))))) (fun k0=>(sl Jn 20 [] ⟨[],[],rlcN3,rlcM3⟩ ⟨[],[],[]⟩ [false] (tt k0 (ww bP nn))))))
 | .h3 v4 v6=>(lb (fun k0=>(lo fun aI=>(lo fun bG=>(lb (fun k1=>(lr 93 21 [1,1,1,0,1,0,0,1,0,0,1,1,1,0,0,1,0,0,1,0,0] 1 9 [(2,(ii 8))] (sl Jn 18 [] ⟨[],[],[some [2]],[]⟩ ⟨[],[],[]⟩ (bl 2 3) (tt k1 (ww bG (ww aI (tt k0 nn))))))) (fun k1=>(sl Jn 22 [] ⟨[],[],rlcN3,rlcM3⟩ ⟨[],[],[]⟩ (bl 2 1) (tt k1 (ww bG (ww aI (tt k0 nn)))))))))) (fun k0=>(sl Jn 16 [] ⟨[],[],rlcN1,rlcM1⟩ ⟨[],[],[]⟩ [false] (tt k0 nn))))
theorem x9o (l0:List Pa):Xv prog (Zy prog 21) (rlcC l0) (Za prog 21 [(.dat l0.length (Zz l0))] true []) (y4k l0):=(lb (fun k0=>(lr 93 21 [1,0,1,0,0] 1 9 [(2,(ii 4))] (sl Jn 16 [] ⟨[],[],[some [2]],[]⟩ ⟨[],[],[]⟩ [true] (tt k0 nn)))) (fun k0=>(sl Jn 20 [] ⟨[],[],rlcN0,rlcM0⟩ ⟨[],[],[]⟩ [false] (tt k0 nn))))
theorem u2e (l0:List Pa) (n:Nat) (vs:List AVal) (h:Zt (Ve l0) n (y4k l0)=.ret vs):Uv prog (Zy prog 21) (Za prog 21 [(.dat l0.length (Zz l0))] true []) vs:=by have:=Ze (w8s l0) n _ (x9o l0);rwa [h] at this
inductive rlmS where
 | h0 (v5:Int)
def y6i (l0:List Pa) (l1:List Pa):rlmS→Xw rlmS
 | .h0 v5=>(bif (decide (v5<(l0.length:Int))) then (bif ((decide (0≤v5∧v5<(l0.length:Int)))&&true) then (bif ((decide (0≤v5∧v5<(l1.length:Int)))&&true) then (bif (!((((rd l0 v5.toNat).a == (rd l1 v5.toNat).a)&&(((rd l0 v5.toNat).b == (rd l1 v5.toNat).b)&&(((rd l0 v5.toNat).c == (rd l1 v5.toNat).c)&&true)))&&((((rd l0 v5.toNat).d == (rd l1 v5.toNat).d)&&(((rd l0 v5.toNat).e == (rd l1 v5.toNat).e)&&(((rd l0 v5.toNat).f == (rd l1 v5.toNat).f)&&true)))&&true))) then (.ret [(.bool false)]) else (bif (Vz (cvT (rd l0 v5.toNat).s) (cvT (rd l1 v5.toNat).s)) then (bif (!(Ka (cvT (rd l0 v5.toNat).s) (cvT (rd l1 v5.toNat).s))) then (.ret [(.bool false)]) else (.to (.h0 (wrap .i64 (v5+1))))) else .stuck)) else .stuck) else .stuck) else (.ret [(.bool true)]))
inductive rlnS where
 | h0 (v3:Int)
def rlnC (l0:List Pa):rlnS→Cfg
 | .h0 v3=>⟨⟨53,0,true⟩,none,(Zg prog 9 [1,1,0,1,0,0] 0),none,(Zy prog 9),⟨Yk [(0,(.dat l0.length (Zz l0))),(3,(ii v3))],Vv [] 0,0,[],true⟩,[],.leaf⟩
def rlnN0 :List (Option (List Nat)):=[some [0,3]]
def rlnM0 :List (Option (List Nat)):=[]
def z0z (l0:List Pa):rlnS→Xw rlnS
 | .h0 v3=>(bif (decide (v3<(l0.length:Int))) then (bif ((decide (0≤v3∧v3<(l0.length:Int)))&&true) then (bif (decide ((((rd l0 v3.toNat).s.length :Nat):Int)>6)) then (.ret [(.bool false)]) else (bif (Qk (cvT (rd l0 v3.toNat).s)) then (bif (!(w9j (cvT (rd l0 v3.toNat).s))) then (.ret [(.bool false)]) else (bif (!(x7s (rd l0 v3.toNat).a (rd l0 v3.toNat).b (rd l0 v3.toNat).c (-2000000))) then (.ret [(.bool false)]) else (bif (!(x7s (rd l0 v3.toNat).d (rd l0 v3.toNat).e (rd l0 v3.toNat).f (-2000000))) then (.ret [(.bool false)]) else (.to (.h0 (wrap .i64 (v3+1))))))) else .stuck)) else .stuck) else (.ret [(.bool (decide ((l0.length:Int)≤6)))]))
def y4j (l0:List Pa):Xw rlnS:=(bif (decide ((l0.length:Int)>50)) then (.ret [(.bool (decide ((l0.length:Int)≤55)))]) else (.to (.h0 0)))
theorem w8r (l0:List Pa): ∀s,Xv prog (Zy prog 9) (rlnC l0) (rlnC l0 s) (z0z l0 s)
 | .h0 v3=>(lb (fun k0=>(lo fun aI=>(lb (fun k1=>(lr 53 9 [1,1,0,1,0,0,1,0,0,1,1,0,0] 1 9 [(2,(.bool false))] (sl Jn 58 [] ⟨[],[],[some [2]],[]⟩ ⟨[],[],[]⟩ (trs 17 []) (tt k1 (ww aI (ww aI (tt k0 nn))))))) (fun k1=>(lo fun bX=>(lb (fun k2=>(lr 53 9 [1,1,0,1,0,0,1,0,0,1,1,0,0] 1 9 [(2,(.bool false))] (sl Jn 58 [] ⟨[],[],[some [2]],[]⟩ ⟨[],[],[]⟩ (bl 17 130817) (tt k2 (pp (pp (xI R6 (rd l0 (tn v3)).s.length (Zz (rd l0 (tn v3)).s)) (xw bX)) (ww aI (tt k1 (ww aI (ww aI (tt k0 nn)))))))))) (fun k2=>(lb (fun k3=>(lr 53 9 [1,1,0,1,0,0,1,0,0,1,1,0,0] 1 9 [(2,(.bool false))] (sl Jn 58 [] ⟨[],[],[some [2]],[]⟩ ⟨[],[],[]⟩ (bl 17 126977) (tt k3 (tt k2 (pp (pp (xI R6 (rd l0 (tn v3)).s.length (Zz (rd l0 (tn v3)).s)) (xw bX)) (ww aI (tt k1 (ww aI (ww aI (tt k0 nn))))))))))) (fun k3=>(lb (fun k4=>(lr 53 9 [1,1,0,1,0,0,1,0,0,1,1,0,0] 1 9 [(2,(.bool false))] (sl Jn 58 [] ⟨[],[],[some [2]],[]⟩ ⟨[],[],[]⟩ (bl 17 65537) (tt k4 (tt k3 (tt k2 (pp (pp (xI R6 (rd l0 (tn v3)).s.length (Zz (rd l0 (tn v3)).s)) (xw bX)) (ww aI (tt k1 (ww aI (ww aI (tt k0 nn)))))))))))) (fun k4=>(sl Jn 62 [] ⟨[],[],rlnN0,rlnM0⟩ ⟨[],[],[]⟩ (bl 17 1) (tt k4 (tt k3 (tt k2 (pp (pp (xI R6 (rd l0 (tn v3)).s.length (Zz (rd l0 (tn v3)).s)) (xw bX)) (ww aI (tt k1 (ww aI (ww aI (tt k0 nn))))))))))))))))))))) (fun k0=>(lr 53 3 [1,1,1,1,0] 1 9 [(2,(.bool (decide ((l0.length:Int)≤6))))] (sl Jn 17 [] ⟨[],[],[some [2]],[]⟩ ⟨[],[],[]⟩ [false] (tt k0 nn)))))
theorem x9n (l0:List Pa):Xv prog (Zy prog 9) (rlnC l0) (Za prog 9 [(.dat l0.length (Zz l0))] true []) (y4j l0):=(lb (fun k0=>(lr 53 9 [1,0,1,0,0] 1 9 [(2,(.bool (decide ((l0.length:Int)≤55))))] (sl Jn 19 [] ⟨[],[],[some [2]],[]⟩ ⟨[],[],[]⟩ [true] (tt k0 nn)))) (fun k0=>(sl Jn 20 [] ⟨[],[],rlnN0,rlnM0⟩ ⟨[],[],[]⟩ [false] (tt k0 nn))))
theorem u2c (l0:List Pa) (n:Nat) (vs:List AVal) (h:Zt (z0z l0) n (y4j l0)=.ret vs):Uv prog (Zy prog 9) (Za prog 9 [(.dat l0.length (Zz l0))] true []) vs:=by have:=Ze (w8r l0) n _ (x9n l0);rwa [h] at this
inductive sctS where
 | h0 (v8:List R4) (v17:Int)
abbrev x0c (v8:List R4) (aJ:Int) (l1:List R6) (v17:Int):=(v8++[(R4.mk (z3c aJ (rd l1 (tn v17)).a (rd l1 (tn v17)).b (rd l1 (tn v17)).c) (z3b aJ (rd l1 (tn v17)).a (rd l1 (tn v17)).b (rd l1 (tn v17)).c) (z3c aJ (rd l1 (tn v17)).d (rd l1 (tn v17)).e (rd l1 (tn v17)).f) (z3b aJ (rd l1 (tn v17)).d (rd l1 (tn v17)).e (rd l1 (tn v17)).f))])
abbrev u8a (v8:List R4) (aJ:Int) (l1:List R6) (v17:Int):=(Zr (Zz v8) 0 v8.length 4 [(ii (z3c aJ (rd l1 (tn v17)).a (rd l1 (tn v17)).b (rd l1 (tn v17)).c)),(ii (z3b aJ (rd l1 (tn v17)).a (rd l1 (tn v17)).b (rd l1 (tn v17)).c)),(ii (z3c aJ (rd l1 (tn v17)).d (rd l1 (tn v17)).e (rd l1 (tn v17)).f)),(ii (z3b aJ (rd l1 (tn v17)).d (rd l1 (tn v17)).e (rd l1 (tn v17)).f))])
def sctC (aJ:Int) (l1:List R6) (x2:Int):sctS→Cfg
 | .h0 v8 v17=>⟨⟨62,0,true⟩,none,(Zg prog 47 [1,1,0,1,0,0] 0),none,(Zy prog 10),⟨Yk [(2,(ii x2)),(3,(.ptr 0 0)),(8,(.sla 1 4 0 v8.length (.un 4))),(15,(.dat l1.length (Zz l1))),(16,(ii (l1.length:Int))),(17,(ii v17))],Vv [⟨[(ii aJ)],79,none⟩,⟨Ym v8.length (Zz v8),116,some ⟨4,v8.length,(Zz v8)⟩⟩] 0,2,[],true⟩,[],.leaf⟩
def u1g :List (Option (List Nat)):=[some [2,3,8,15,16,17]]
def u1h :List (Option (List Nat)):=[]
def z4x (aJ:Int) (l1:List R6) (x2:Int):sctS→Xw sctS
 | .h0 v8 v17=>(bif (decide (v17<(l1.length:Int))) then (bif ((decide (0≤v17∧v17<(l1.length:Int)))&&true) then (bif (Ue aJ (rd l1 v17.toNat).a (rd l1 v17.toNat).b (rd l1 v17.toNat).c) then (bif (decide ((y1x aJ (rd l1 v17.toNat).a (rd l1 v17.toNat).b (rd l1 v17.toNat).c)≤x2)) then (bif (Ue aJ (rd l1 v17.toNat).d (rd l1 v17.toNat).e (rd l1 v17.toNat).f) then (bif (decide (x2<(y1x aJ (rd l1 v17.toNat).d (rd l1 v17.toNat).e (rd l1 v17.toNat).f))) then (bif (z3a aJ (rd l1 v17.toNat).a (rd l1 v17.toNat).b (rd l1 v17.toNat).c) then (bif (z3a aJ (rd l1 v17.toNat).d (rd l1 v17.toNat).e (rd l1 v17.toNat).f) then (bif (Nat.beq 4 4&&((decide (0+v8.length=v8.length))&&decide ((v8.length+1+1)*(32+1)≤Jo))) then (.to (.h0 (v8++[(R4.mk (z3c aJ (rd l1 v17.toNat).a (rd l1 v17.toNat).b (rd l1 v17.toNat).c) (z3b aJ (rd l1 v17.toNat).a (rd l1 v17.toNat).b (rd l1 v17.toNat).c) (z3c aJ (rd l1 v17.toNat).d (rd l1 v17.toNat).e (rd l1 v17.toNat).f) (z3b aJ (rd l1 v17.toNat).d (rd l1 v17.toNat).e (rd l1 v17.toNat).f))]) (wrap .i64 (v17+1)))) else .stuck) else .stuck) else .stuck) else (.to (.h0 v8 (wrap .i64 (v17+1))))) else .stuck) else (.to (.h0 v8 (wrap .i64 (v17+1))))) else .stuck) else .stuck) else (bif (Uq (cvT v8)) then (.ret [(.dat (Zm (cvT v8)).length (Zz (Zm (cvT v8)))),(.int .i64 (Yo (cvT v8)))]) else .stuck))
def x2n (aJ:Int) (l1:List R6) (x2:Int):Xw sctS:=(.to (.h0 ([]:List R4) 0))
theorem w8a (aJ:Int) (l1:List R6) (x2:Int): ∀s,Xv prog (Zy prog 47) (sctC aJ l1 x2) (sctC aJ l1 x2 s) (z4x aJ l1 x2 s)
 | .h0 v8 v17=>(lb (fun k0=>(lo fun aI=>(lo fun bG=>(lb (fun k1=>(lo fun bX=>(lb (fun k2=>(lo fun o0=>(lo fun o1=>(lo fun o2=>(sl Qy 75 [] ⟨[0,4],[],u1g,u1h⟩ ⟨[(8,.len (x0c v8 aJ l1 v17).length)],[.keep,.rowed 4 (x0c v8 aJ l1 v17).length (Zz (x0c v8 aJ l1 v17))],[]⟩ (trs 8 []) (pp (xL (v8.length+1) (x0c v8 aJ l1 v17).length) (pp (xL (v8.length+1) (x0c v8 aJ l1 v17).length) (pp (xS (v8.length+1) (u8a v8 aJ l1 v17) (Zz (x0c v8 aJ l1 v17))) (pp (pp (xF (u8a v8 aJ l1 v17)) nn) (ww o2 (ww o1 (ww o0 (tt k2 (ww bX (tt k1 (ww bG (ww aI (tt k0 nn)))))))))))))))))) (fun k2=>(sl Qy 41 [] ⟨[0,1],[],u1g,u1h⟩ ⟨[],[],[]⟩ (trs 7 [false]) (pp (fl v8 nn) (tt k2 (ww bX (tt k1 (ww bG (ww aI (tt k0 nn)))))))))))) (fun k1=>(sl Qy 41 [] ⟨[0,1],[],u1g,u1h⟩ ⟨[],[],[]⟩ (bl 8 1) (pp (fl v8 nn) (tt k1 (ww bG (ww aI (tt k0 nn))))))))))) (fun k0=>(Xd (sl Qy (C':=⟨⟨62,0,true⟩,(Wr prog 47 [1,1,1,0] 1),(Zg prog 47 [1,1,1,0] 1),none,(Zy prog 10),⟨Yk [(58,(.dat v8.length (Zz v8)))],Vv [] 0,0,[],true⟩,[],.leaf⟩) 10 [] ⟨[],[1],[some [58]],[]⟩ ⟨[(58,.frz v8.length v8.length (Zz v8) (Zz v8))],[],[]⟩ [false] (pp (xZ (z4o 4 4 0 v8.length v8.length (Zz v8)) v8.length (Zz v8)) (pp (xL v8.length v8.length) (pp (xS v8.length (Zz v8) (Zz v8)) (pp (fl v8 nn) (tt k0 nn)))))) (lo fun o0=>(lr 62 3 [1,1,1,1,0] 1 10 [(6,(.dat (Zm (cvT v8)).length (Zz (Zm (cvT v8))))),(7,(ii (Yo (cvT v8))))] (sl Qy 6 [] ⟨[],[],[some [6,7]],[]⟩ ⟨[],[],[]⟩ [] (pp (pp (xr v8) (xw o0)) nn)))))))
theorem x8w (aJ:Int) (l1:List R6) (x2:Int):Xv prog (Zy prog 47) (sctC aJ l1 x2) (Za prog 47 [(.agg [(.int .i64 aJ)]),(.dat l1.length (Zz l1)),(.int .i64 x2)] true []) (x2n aJ l1 x2):=(sl Qy 19 [(116,4,Zz ([]:List R4))] ⟨[0,1],[],u1g,u1h⟩ ⟨[(8,.grow 1 4)],[],[]⟩ [] (pp (fl ([]:List R4) nn) nn))
theorem u1f (aJ:Int) (l1:List R6) (x2:Int) (n:Nat) (vs:List AVal) (h:Zt (z4x aJ l1 x2) n (x2n aJ l1 x2)=.ret vs):Uv prog (Zy prog 47) (Za prog 47 [(.agg [(.int .i64 aJ)]),(.dat l1.length (Zz l1)),(.int .i64 x2)] true []) vs:=by have:=Ze (w8a aJ l1 x2) n _ (x8w aJ l1 x2);rwa [h] at this
inductive swhS where
 | h0 (v4:List R6) (v10:Int)
def swhC (l0:List Pa):swhS→Cfg
 | .h0 v4 v10=>⟨⟨26,0,true⟩,none,(Zg prog 44 [1,1,0,1,0,0] 0),none,(Zy prog 14),⟨Yk [(4,(.dat v4.length (Zz v4))),(8,(.dat l0.length (Zz l0))),(9,(ii (l0.length:Int))),(10,(ii v10))],Vv [] 0,0,[],true⟩,[],.leaf⟩
def swhN0 :List (Option (List Nat)):=[some [4,8,9,10]]
def swhM0 :List (Option (List Nat)):=[]
def z6z (l0:List Pa):swhS→Xw swhS
 | .h0 v4 v10=>(bif (decide (v10<(l0.length:Int))) then (bif ((decide (0≤v10∧v10<(l0.length:Int)))&&true) then (bif (z1v .u (cvT v4) (cvT (rd l0 v10.toNat).s)) then (bif ((z1o .u (cvT v4) (cvT (rd l0 v10.toNat).s)) != 0) then (.ret [.nils,(.int .i64 (z1o .u (cvT v4) (cvT (rd l0 v10.toNat).s)))]) else (.to (.h0 (Qz .u (cvT v4) (cvT (rd l0 v10.toNat).s)) (wrap .i64 (v10+1))))) else .stuck) else .stuck) else (.ret [(.dat v4.length (Zz v4)),(.int .i64 0)]))
def x2d (l0:List Pa):Xw swhS:=(.to (.h0 ([]:List R6) 0))
theorem w7f (l0:List Pa): ∀s,Xv prog (Zy prog 44) (swhC l0) (swhC l0 s) (z6z l0 s)
 | .h0 v4 v10=>(lb (fun k0=>(lo fun aI=>(lo fun bG=>(lb (fun k1=>(lr 26 44 [1,1,0,1,0,0,1,1,0,0,1,1,1,1,0,0] 1 14 [(2,.nils),(3,(ii (z1o .u (cvT v4) (cvT (rd l0 (tn v10)).s))))] (sl Qy 44 [] ⟨[],[],[some [2,3]],[]⟩ ⟨[],[],[]⟩ (bl 2 3) (tt k1 (pp (pp (xr v4) (pp (xI R6 (rd l0 (tn v10)).s.length (Zz (rd l0 (tn v10)).s)) (xw bG))) (ww aI (tt k0 nn))))))) (fun k1=>(sl Qy 45 [] ⟨[],[],swhN0,swhM0⟩ ⟨[],[],[]⟩ (bl 2 1) (tt k1 (pp (pp (xr v4) (pp (xI R6 (rd l0 (tn v10)).s.length (Zz (rd l0 (tn v10)).s)) (xw bG))) (ww aI (tt k0 nn)))))))))) (fun k0=>(lr 26 3 [1,1,1,1,0] 1 14 [(2,(.dat v4.length (Zz v4))),(3,(ii 0))] (sl Qy 13 [] ⟨[],[],[some [2,3]],[]⟩ ⟨[],[],[]⟩ [false] (tt k0 nn)))))
theorem x8c (l0:List Pa):Xv prog (Zy prog 44) (swhC l0) (Za prog 44 [(.dat l0.length (Zz l0))] true []) (x2d l0):=(sl Qy 18 [] ⟨[],[],swhN0,swhM0⟩ ⟨[(4,.list 0 (Zz ([]:List R6)))],[],[]⟩ [] nn)
theorem u0g (l0:List Pa) (n:Nat) (vs:List AVal) (h:Zt (z6z l0) n (x2d l0)=.ret vs):Uv prog (Zy prog 44) (Za prog 44 [(.dat l0.length (Zz l0))] true []) vs:=by have:=Ze (w7f l0) n _ (x8c l0);rwa [h] at this
open Go.Sort Go.Shelf Go.RowKit Go.Lib
def y8z (a:Int) (L:List R6) (p:Int):List R4:=(L.filter fun r=>decide (y1x a r.a r.b r.c≤p)&&decide (p<y1x a r.d r.e r.f)).map fun r=>⟨z3c a r.a r.b r.c,z3b a r.a r.b r.c,z3c a r.d r.e r.f,z3b a r.d r.e r.f⟩
theorem w2u (a:Int) (L M:List R6) (p:Int):y8z a (L++M) p=y8z a L p++y8z a M p:=by
 grind [y8z]
theorem cutA_t (a:Int) {r:R6} {p:Int} (h1:y1x a r.a r.b r.c≤p) (h2:p<y1x a r.d r.e r.f):y8z a [r] p=[⟨z3c a r.a r.b r.c,z3b a r.a r.b r.c,z3c a r.d r.e r.f,z3b a r.d r.e r.f⟩]:=by
 grind [y8z]
theorem j9m (a:Int) {r:R6} {p:Int} (h1: ¬y1x a r.a r.b r.c≤p):y8z a [r] p=[]:=by
 grind [y8z]
theorem j9l (a:Int) {r:R6} {p:Int} (h2: ¬p<y1x a r.d r.e r.f):y8z a [r] p=[]:=by
 grind [y8z]
def Zd (a:Int) (L:List R6) (p:Int):List R4:=Zm (y8z a L p)
def Wj (a:Int) (L:List R6) (p:Int):Int:=Yo (y8z a L p)
def Ww (a:Int) (L:List R6) (p:Int):Bool:=axO a&&decide (L.length≤1000)
theorem u7z (a:Int) (L:List R6) (p:Int) (ha:axO a=true) (hl:L.length≤1000): ∀(k i:Nat) (acc:List R4),i+k=L.length→acc.length≤i→y8z a L p=acc++y8z a (L.drop i) p→
  ∃n,Zt (z4x a L p) n (.to (.h0 acc (i:Int)))=.ret [.dat (Zd a L p).length (Zz (Zd a L p)),.int .i64 (Wj a L p)]
 | 0,i,acc,h,h',e=>by
  rw [As (by omega),show y8z a [] p=[] from rfl,AC] at e;refine ⟨1,?_⟩
  grind [Zd,Wj,Zw,z4x,Zc,Uq,Zp]
 | k+1,i,acc,h,h',e=>by
  have hi:i<L.length:=by omega
  have oA: ∀x y z,Ue a x y z=true:=fun _ _ _=>ha;have oF: ∀x y z,z3a a x y z=true:=fun _ _ _=>ha;have e2:y8z a L p=(acc++y8z a [rd L i] p)++y8z a (L.drop (i+1)) p:=by rw [AK,←w2u,e,Yg hi];rfl
  obtain ⟨n,hn⟩:=u7z a L p ha hl k (i+1) (acc++y8z a [rd L i] p) (by omega) (by
   grind [y8z]) e2
  refine ⟨n+1,?_⟩;rw [Zw];by_cases h1:y1x a (rd L i).a (rd L i).b (rd L i).c ≤p
  ·by_cases h2:p<y1x a (rd L i).d (rd L i).e (rd L i).f
   ·rw [cutA_t a h1 h2] at hn;simp (disch:=omega) only [z4x,oA,oF,Wz,Zc,Zq,Zs,Zo,Yc,Yv,Yj,Zf,Zk,Zx,show Nat.beq 4 4=true from rfl,Zj,Af,Ao,Ah,Ai,Ab,Aa];exact hn
   ·rw [j9l a h2,AC] at hn
    grind [z4x,Zk,Zj]
  grind [j9m,z4x,Zk,Zj]
theorem j3u (a:Int) (L:List R6) (p:Int) (h:Ww a L p=true): ∃n,Zt (z4x a L p) n (x2n a L p)=.ret [.dat (Zd a L p).length (Zz (Zd a L p)),.int .i64 (Wj a L p)]:=by obtain ⟨h1,h2⟩:=BF.1 h;exact u7z a L p h1 (Av h2) L.length 0 [] (Af _) (Aq _) rfl
def fSct :List AVal→Option (AVal×Bool)
 | [.agg [.int .i64 aJ],a1,.int .i64 x2]=>match asL R6 a1 with
  | some (L1,g1,n1)=>some (.tup [.dat (Zd aJ L1 x2).length (Zz (Zd aJ L1 x2)),.int .i64 (Wj aJ L1 x2)],isT R6 n1 g1&&(Ww aJ L1 x2))
  | _=>none
 | _=>none
theorem j7s {S:Specs} (hS:Zu prog S):Zu prog (S.with nSCut fSct):=by
 refine z0k hS (by kernel_rfl) fun args v h=> ?_;unfold fSct at h;split at h
 ·rename_i aJ a1 x2;split at h
  ·rename_i L1 g1 n1 e1;simp only [Ad,Ac,Ae] at h;obtain ⟨rfl,ho1,hw⟩:=h;obtain ⟨N,hN⟩:=j3u aJ L1 x2 hw;exact ⟨_,_,(.cons (.refl _) (.cons (Yh e1 ho1) (.cons (.refl _) .nil))),rfl,u1f aJ L1 x2 N _ hN,3,rfl⟩
  ·cases h
 ·cases h
def whE :List R6→List Pa→Int
 | _,[]=>0
 | acc,x::r=>bif z1o .u acc x.s != 0 then z1o .u acc x.s else whE (Qz .u acc x.s) r
def whL :List R6→List Pa→List R6
 | acc,[]=>acc
 | acc,x::r=>whL (Qz .u acc x.s) r
def z0i (l:List Pa):Int:=whE [] l
def Yu (l:List Pa):List R6:=y7s (whE [] l) (whL [] l)
def Qh (l:List Pa):Bool:=decide (l.length≤1000)
theorem u6l (l:List Pa) (hl:l.length≤1000): ∀(k i:Nat) (acc:List R6),i+k=l.length→ ∃n,Zt (z6z l) n (.to (.h0 acc (i:Int)))=.ret (z8w (whE acc (l.drop i)) (whL acc (l.drop i)))
 | 0,i,acc,h=>by rw [As (by omega)];refine ⟨1,?_⟩;rw [Zw];simp (disch:=omega) only [z6z,Ye,Aa,Zp];rfl
 | k+1,i,acc,h=>by
  have hi:i<l.length:=by omega
  obtain ⟨n,hn⟩:=u6l l hl k (i+1) (Qz .u acc (rd l i).s) (by omega);refine ⟨n+1,?_⟩;rw [Zw,Yg hi];have e:z6z l (.h0 acc (i:Int))=bif z1o .u acc (rd l i).s != 0 then .ret [.nils,.int .i64 (z1o .u acc (rd l i).s)] else .to (.h0 (Qz .u acc (rd l i).s) ((i+1:Nat):Int)):=by
   grind [z6z,Zc,z1v,Zk]
  rw [e];unfold whE whL;rcases Yw (z1o .u acc (rd l i).s != 0) with q | q;all_goals grind [Zp,Vn]
theorem j2h (l:List Pa) (h:Qh l=true): ∃n,Zt (z6z l) n (x2d l)=.ret (z8w (z0i l) (whL [] l)):=u6l l (Av h) l.length 0 [] (Af _)
def fSwh :List AVal→Option (AVal×Bool)
 | [a0]=>match asL Pa a0 with
  | some (L0,g0,n0)=>some (.tup [.dat (Yu L0).length (Zz (Yu L0)),.int .i64 (z0i L0)],isT Pa n0 g0&&(Qh L0))
  | _=>none
 | _=>none
theorem j7k {S:Specs} (hS:Zu prog S):Zu prog (S.with v6j fSwh):=by
 refine w6l hS (by kernel_rfl) fun args v h=> ?_;unfold fSwh at h;split at h
 ·rename_i a0;split at h
  ·rename_i L0 g0 n0 e0;simp only [Ad,Ac,Ae] at h;obtain ⟨rfl,ho0,hw⟩:=h;obtain ⟨N,hN⟩:=j2h L0 hw;exact ⟨_,_,(.cons (Yh e0 ho0) .nil),z0n _ _,u0g L0 N _ hN,3,z5f _ _⟩
  ·cases h
 ·cases h
def Vb2 :Specs:=((Vb.with nSCut fSct).with v6j fSwh)
theorem Vb2_ok :Zu prog Vb2:=(j7k (j7s Qy))
inductive skcS where
 | h0 (v15:Int)
 | h1 (v28:Int)
 | h2 (v0:List R6) (v7:Int) (v8:Int) (dF:List R6) (bI:Int) (cE:Int) (dC:List R6) (aC:Int) (bH:Int) (bE:Int) (bT:Int) (cS:Int) (cT:Int) (cU:List R6)
 | h3 (v0:List Pa) (v7:Int) (v8:Int) (cE:Int) (aC:Int) (bH:Int) (bE:Int) (bT:Int) (cS:Int) (cT:Int) (cU:List R6)
abbrev z6p (l0:List Pa) (v28:Int):=(R6.mk (rd l0 (tn v28)).a (rd l0 (tn v28)).b (rd l0 (tn v28)).c (rd l0 (tn v28)).d (rd l0 (tn v28)).e (rd l0 (tn v28)).f)
abbrev z4m (l0:List Pa) (bI:Int):=(Zz (Kd l0 0 (tn bI)))
def y2l (l0:List Pa):AVal:=(.dat l0.length (Zz l0))
def skcC (l0:List Pa):skcS→Cfg
 | .h0 v15=>⟨⟨54,0,true⟩,none,(Zg prog 20 [1,1,0,1,0,0] 0),none,(Zy prog 9),⟨Yk [(0,(y2l l0)),(13,(y2l l0)),(14,(ii (l0.length:Int))),(15,(ii v15))],Vv [] 0,0,[],true⟩,[],.leaf⟩
 | .h1 v28=>⟨⟨54,0,true⟩,none,(Zg prog 20 [1,1,1,0,1,0,0] 0),none,(Zy prog 9),⟨Yk [(0,(y2l l0)),(26,(y2l l0)),(27,(ii (l0.length:Int))),(28,(ii v28))],Vv [] 0,0,[],true⟩,[],.leaf⟩
 | .h2 v0 v7 v8 dF bI cE dC aC bH bE bT cS cT cU=>⟨⟨19,0,true⟩,none,(Zg prog 95 [1,0,1,0,0] 0),none,(Zy prog 6),⟨Yk [(0,(.dat v0.length (Zz v0))),(1,(.fn 53 [(.ptr 0 0)])),(7,(ii v7)),(8,(ii v8))],Vv [⟨[(ii aC),(ii bH),(ii bE),(ii bT),(ii cS),(ii cT),(.dat cU.length (Zz cU))],59,none⟩] 0,1,[],true⟩,[⟨⟨9,0,true⟩,(Wr prog 57 [1,0] 2),(Zg prog 57 [1,0] 1),none,(Zy prog 6),Yk [(5,(.dat dF.length (Zz dF))),(6,(.fn 53 [(.ptr 0 0)]))]⟩,⟨⟨54,0,true⟩,(Wr prog 20 [1,1,1,0,1,0,0,1,1,0,0,1,1,1,0] 9),(Zg prog 20 [1,1,1,0,1,0,0,1,1,0,0,1,1,1,0] 1),none,(Zy prog 9),Yk [(0,(y2l l0)),(6,(ii bI)),(9,(.fn 55 [(.ptr 0 0)])),(26,(y2l l0)),(27,(ii (l0.length:Int))),(28,(ii cE)),(40,(.bool false)),(42,(.dat dC.length (Zz dC))),(43,(.fn 53 [(.ptr 0 0)]))]⟩],.leaf⟩
 | .h3 v0 v7 v8 cE aC bH bE bT cS cT cU=>⟨⟨19,0,true⟩,none,(Zg prog 96 [1,0,1,0,0] 0),none,(Zy prog 6),⟨Yk [(0,(.dat v0.length (Zz v0))),(1,(.fn 55 [(.ptr 0 0)])),(7,(ii v7)),(8,(ii v8))],Vv [⟨[(ii aC),(ii bH),(ii bE),(ii bT),(ii cS),(ii cT),(.dat cU.length (Zz cU))],59,none⟩] 0,1,[],true⟩,[⟨⟨9,0,true⟩,(Wr prog 58 [1,0] 2),(Zg prog 58 [1,0] 1),none,(Zy prog 6),Yk [(5,(.dat v0.length (Zz v0))),(6,(.fn 55 [(.ptr 0 0)]))]⟩,⟨⟨54,0,true⟩,(Wr prog 20 [1,1,1,0,1,0,0,1,1,0,0,1,1,1,0] 16),(Zg prog 20 [1,1,1,0,1,0,0,1,1,0,0,1,1,1,0] 1),none,(Zy prog 9),Yk [(0,(y2l l0)),(26,(y2l l0)),(27,(ii (l0.length:Int))),(28,(ii cE)),(46,(.bool false)),(49,(.dat v0.length (Zz v0))),(50,(.fn 55 [(.ptr 0 0)]))]⟩],.leaf⟩
def skcN0 :List (Option (List Nat)):=[some [0,13,14,15]]
def skcM0 :List (Option (List Nat)):=[]
def j3o :List (Option (List Nat)):=[some [0,26,27,28]]
def j3q :List (Option (List Nat)):=[]
def skcN2 :List (Option (List Nat)):=[some [0,1,7,8],some [5,6],some [0,6,9,26,27,28,40,42,43]]
def skcM2 :List (Option (List Nat)):=[]
def j3n :List (Option (List Nat)):=[some [0,1,7,8],some [5,6],some [0,26,27,28,46,49,50]]
def j3p :List (Option (List Nat)):=[]
def Vd (l0:List Pa):skcS→Xw skcS
 | .h0 v15=>(bif (decide (v15<(l0.length:Int))) then (bif ((decide (0≤v15∧v15<(l0.length:Int)))&&true) then (bif (Wt (cvT (rd l0 v15.toNat).s)) then (bif ((Zh (cvT (rd l0 v15.toNat).s)) != 0) then (.ret [(.int .i64 (Zh (cvT (rd l0 v15.toNat).s)))]) else (.to (.h0 (wrap .i64 (v15+1))))) else .stuck) else .stuck) else (.to (.h1 0)))
 | .h1 v28=>(bif (decide (v28<(l0.length:Int))) then (bif ((decide (0≤v28∧v28<(l0.length:Int)))&&true) then (bif (Wt (cvT ([(R6.mk (rd l0 v28.toNat).a (rd l0 v28.toNat).b (rd l0 v28.toNat).c (rd l0 v28.toNat).d (rd l0 v28.toNat).e (rd l0 v28.toNat).f)]:List R6))) then (bif ((Zh (cvT ([(R6.mk (rd l0 v28.toNat).a (rd l0 v28.toNat).b (rd l0 v28.toNat).c (rd l0 v28.toNat).d (rd l0 v28.toNat).e (rd l0 v28.toNat).f)]:List R6))) != 0) then (.ret [(.int .i64 8)]) else (.to (.h2 (rd l0 v28.toNat).s (((rd l0 v28.toNat).s.length :Nat):Int) 0 (rd l0 v28.toNat).s v28 v28 (rd l0 v28.toNat).s (rd l0 v28.toNat).a (rd l0 v28.toNat).b (rd l0 v28.toNat).c (rd l0 v28.toNat).d (rd l0 v28.toNat).e (rd l0 v28.toNat).f (rd l0 v28.toNat).s))) else .stuck) else .stuck) else (.ret [(.int .i64 0)]))
 | .h2 v0 v7 v8 dF bI cE dC aC bH bE bT cS cT cU=>(bif (decide (v8<v7)) then (bif ((decide (0≤v8∧v8<(v0.length:Int)))&&true) then (bif (!(j1h (rd v0 v8.toNat).a (rd v0 v8.toNat).b (rd v0 v8.toNat).c (rd v0 v8.toNat).d (rd v0 v8.toNat).e (rd v0 v8.toNat).f aC bH bE bT cS cT)) then (bif (decide (v8≥0)) then (.ret [(.int .i64 8)]) else (bif (decide (0≤bI.toNat)) then (bif (decide (bI.toNat≤l0.length)) then (bif (decide (0≤bI)) then (.to (.h3 (Kd l0 0 bI.toNat) ((bI.toNat:Nat):Int) 0 cE aC bH bE bT cS cT cU)) else .stuck) else .stuck) else .stuck)) else (.to (.h2 v0 v7 (wrap .i64 (v8+1)) dF bI cE dC aC bH bE bT cS cT cU))) else .stuck) else (bif (decide (0≤bI.toNat)) then (bif (decide (bI.toNat≤l0.length)) then (bif (decide (0≤bI)) then (.to (.h3 (Kd l0 0 bI.toNat) ((bI.toNat:Nat):Int) 0 cE aC bH bE bT cS cT cU)) else .stuck) else .stuck) else .stuck))
 | .h3 v0 v7 v8 cE aC bH bE bT cS cT cU=>(bif (decide (v8<v7)) then (bif ((decide (0≤v8∧v8<(v0.length:Int)))&&true) then (bif (j6e aC bH bE bT cS cT (rd v0 v8.toNat).a (rd v0 v8.toNat).b (rd v0 v8.toNat).c (rd v0 v8.toNat).d (rd v0 v8.toNat).e (rd v0 v8.toNat).f) then (bif (decide (v8≥0)) then (.ret [(.int .i64 8)]) else (.to (.h1 (wrap .i64 (cE+1))))) else (.to (.h3 v0 v7 (wrap .i64 (v8+1)) cE aC bH bE bT cS cT cU))) else .stuck) else (.to (.h1 (wrap .i64 (cE+1)))))
def y3x (l0:List Pa):Xw skcS:=(bif (decide ((l0.length:Int)>50)) then (.ret [(.int .i64 4)]) else (.to (.h0 0)))
theorem w7x (l0:List Pa): ∀s,Xv prog (Zy prog 20) (skcC l0) (skcC l0 s) (Vd l0 s)
 | .h0 v15=>(lb (fun k0=>(lo fun aI=>(lo fun bG=>(lb (fun k1=>(lr 54 20 [1,1,0,1,0,0,1,1,0,0,1,1,1,0,0] 1 9 [(2,(ii (Zh (cvT (rd l0 (tn v15)).s))))] (sl Qy 34 [] ⟨[],[],[some [2]],[]⟩ ⟨[],[],[]⟩ (bl 2 3) (tt k1 (pp (pp (xI R6 (rd l0 (tn v15)).s.length (Zz (rd l0 (tn v15)).s)) (xw bG)) (ww aI (tt k0 nn))))))) (fun k1=>(sl Qy 36 [] ⟨[],[],skcN0,skcM0⟩ ⟨[],[],[]⟩ (bl 2 1) (tt k1 (pp (pp (xI R6 (rd l0 (tn v15)).s.length (Zz (rd l0 (tn v15)).s)) (xw bG)) (ww aI (tt k0 nn)))))))))) (fun k0=>(sl Qy 16 [] ⟨[],[],j3o,j3q⟩ ⟨[],[],[]⟩ [false] (tt k0 nn))))
 | .h1 v28=>(lb (fun k0=>(lo fun q1_0=>(Xd (sl Qy (C':=⟨⟨54,0,true⟩,(Wr prog 20 [1,1,1,0,1,0,0,1,1,0,0,1,1,1,0] 3),(Zg prog 20 [1,1,1,0,1,0,0,1,1,0,0,1,1,1,0] 1),none,(Zy prog 9),⟨Yk [(0,(.dat l0.length (Zz l0))),(6,(ii v28)),(7,(.ptr 0 0)),(8,(.fn 53 [(.ptr 0 0)])),(9,(.fn 55 [(.ptr 0 0)])),(26,(.dat l0.length (Zz l0))),(27,(ii (l0.length:Int))),(28,(ii v28)),(37,(.dat ([(z6p l0 v28)]:List R6).length (Zz ([(z6p l0 v28)]:List R6))))],Vv [⟨[(ii (rd l0 (tn v28)).a),(ii (rd l0 (tn v28)).b),(ii (rd l0 (tn v28)).c),(ii (rd l0 (tn v28)).d),(ii (rd l0 (tn v28)).e),(ii (rd l0 (tn v28)).f),(.dat (rd l0 (tn v28)).s.length (Zz (rd l0 (tn v28)).s))],59,none⟩] 0,1,[],true⟩,[],.leaf⟩) 33 [] ⟨[0],[1],[some [0,6,7,8,9,26,27,28,37]],[]⟩ ⟨[(37,.frz 1 ([(z6p l0 v28)]:List R6).length (Xn [(ii (rd l0 (tn v28)).a),(ii (rd l0 (tn v28)).b),(ii (rd l0 (tn v28)).c),(ii (rd l0 (tn v28)).d),(ii (rd l0 (tn v28)).e),(ii (rd l0 (tn v28)).f)] 0 6) (Zz ([(z6p l0 v28)]:List R6)))],[],[]⟩ [true] (pp (xZ (.dat 1 (Xn [(ii (rd l0 (tn v28)).a),(ii (rd l0 (tn v28)).b),(ii (rd l0 (tn v28)).c),(ii (rd l0 (tn v28)).d),(ii (rd l0 (tn v28)).e),(ii (rd l0 (tn v28)).f)] 0 6)) 1 (Xn [(ii (rd l0 (tn v28)).a),(ii (rd l0 (tn v28)).b),(ii (rd l0 (tn v28)).c),(ii (rd l0 (tn v28)).d),(ii (rd l0 (tn v28)).e),(ii (rd l0 (tn v28)).f)] 0 6)) (pp (xL 1 ([(z6p l0 v28)]:List R6).length) (pp (xS 1 (Xn [(ii (rd l0 (tn v28)).a),(ii (rd l0 (tn v28)).b),(ii (rd l0 (tn v28)).c),(ii (rd l0 (tn v28)).d),(ii (rd l0 (tn v28)).e),(ii (rd l0 (tn v28)).f)] 0 6) (Zz ([(z6p l0 v28)]:List R6))) (ww q1_0 (tt k0 nn)))))) (lo fun aI=>(lb (fun k1=>(lr 54 20 [1,1,1,0,1,0,0,1,1,0,0,1,1,1,1,0,0] 1 9 [(2,(ii 8))] (sl Qy 21 [] ⟨[],[],[some [2]],[]⟩ ⟨[],[],[]⟩ (trs 10 []) (tt k1 (pp (pp (xI R6 ([(z6p l0 v28)]:List R6).length (Zz ([(z6p l0 v28)]:List R6))) (xw aI)) nn))))) (fun k1=>(sl Qy 29 [] ⟨[0],[],skcN2,skcM2⟩ ⟨[],[],[]⟩ (bl 4 0) (tt k1 (pp (pp (xI R6 ([(z6p l0 v28)]:List R6).length (Zz ([(z6p l0 v28)]:List R6))) (xw aI)) nn))))))))) (fun k0=>(lr 54 3 [1,1,1,1,0] 1 9 [(2,(ii 0))] (sl Qy 11 [] ⟨[],[],[some [2]],[]⟩ ⟨[],[],[]⟩ [false] (tt k0 nn)))))
 | .h2 v0 v7 v8 dF bI cE dC aC bH bE bT cS cT cU=>(lb (fun k0=>(lo fun aI=>(lb (fun k1=>(lb (fun k2=>(lr 54 20 [1,1,1,0,1,0,0,1,1,0,0,1,1,1,1,0,0] 1 9 [(2,(ii 8))] (sl Qy 63 [] ⟨[],[],[some [2]],[]⟩ ⟨[],[],[]⟩ (trs 8 []) (tt k2 (tt k1 (ww aI (tt k0 nn))))))) (fun k2=>(lo fun o0=>(lo fun o1=>(lo fun o2=>(sl Qy 78 [] ⟨[0],[],j3n,j3p⟩ ⟨[(0,.list (Kd l0 0 (tn bI)).length (z4m l0 bI))],[],[[(5,.list (Kd l0 0 (tn bI)).length (z4m l0 bI))],[(49,.list (Kd l0 0 (tn bI)).length (z4m l0 bI))]]⟩ (bl 7 3) (pp (xL (tn bI) (Kd l0 0 (tn bI)).length) (pp (xS (tn bI) (fun k=>(Zz l0) (0+k)) (z4m l0 bI)) (pp (xL (tn bI) (Kd l0 0 (tn bI)).length) (pp (xS (tn bI) (fun k=>(Zz l0) (0+k)) (z4m l0 bI)) (pp (xL (tn bI) (Kd l0 0 (tn bI)).length) (pp (xS (tn bI) (fun k=>(Zz l0) (0+k)) (z4m l0 bI)) (pp (pp (xw o2) (pp nn (pp (xG (decide ((tn bI)≤l0.length))) (pp (xG (decide (0≤(tn bI)))) (xG (lenR l0.length (Zz l0) 7)))))) (tt k2 (tt k1 (ww aI (tt k0 nn)))))))))))))))))) (fun k1=>(sl Qy 46 [] ⟨[0],[],skcN2,skcM2⟩ ⟨[],[],[]⟩ (bl 2 1) (tt k1 (ww aI (tt k0 nn)))))))) (fun k0=>(lo fun o0=>(lo fun o1=>(lo fun o2=>(sl Qy 45 [] ⟨[0],[],j3n,j3p⟩ ⟨[(0,.list (Kd l0 0 (tn bI)).length (z4m l0 bI))],[],[[(5,.list (Kd l0 0 (tn bI)).length (z4m l0 bI))],[(49,.list (Kd l0 0 (tn bI)).length (z4m l0 bI))]]⟩ (bl 6 0) (pp (xL (tn bI) (Kd l0 0 (tn bI)).length) (pp (xS (tn bI) (fun k=>(Zz l0) (0+k)) (z4m l0 bI)) (pp (xL (tn bI) (Kd l0 0 (tn bI)).length) (pp (xS (tn bI) (fun k=>(Zz l0) (0+k)) (z4m l0 bI)) (pp (xL (tn bI) (Kd l0 0 (tn bI)).length) (pp (xS (tn bI) (fun k=>(Zz l0) (0+k)) (z4m l0 bI)) (pp (pp (xw o2) (pp nn (pp (xG (decide ((tn bI)≤l0.length))) (pp (xG (decide (0≤(tn bI)))) (xG (lenR l0.length (Zz l0) 7)))))) (tt k0 nn))))))))))))))
 | .h3 v0 v7 v8 cE aC bH bE bT cS cT cU=>(lb (fun k0=>(lo fun aI=>(lb (fun k1=>(lb (fun k2=>(lr 54 20 [1,1,1,0,1,0,0,1,1,0,0,1,1,1,1,0,0] 1 9 [(2,(ii 8))] (sl Qy 56 [] ⟨[],[],[some [2]],[]⟩ ⟨[],[],[]⟩ (trs 3 []) (tt k2 (tt k1 (ww aI (tt k0 nn))))))) (fun k2=>(sl Qy 59 [] ⟨[],[],j3o,j3q⟩ ⟨[],[],[]⟩ (bl 3 3) (tt k2 (tt k1 (ww aI (tt k0 nn)))))))) (fun k1=>(sl Qy 46 [] ⟨[0],[],j3n,j3p⟩ ⟨[],[],[]⟩ (bl 2 1) (tt k1 (ww aI (tt k0 nn)))))))) (fun k0=>(sl Qy 26 [] ⟨[],[],j3o,j3q⟩ ⟨[],[],[]⟩ (bl 2 0) (tt k0 nn))))
theorem x8t (l0:List Pa):Xv prog (Zy prog 20) (skcC l0) (Za prog 20 [(.dat l0.length (Zz l0))] true []) (y3x l0):=(lb (fun k0=>(lr 54 20 [1,0,1,0,0] 1 9 [(2,(ii 4))] (sl Qy 16 [] ⟨[],[],[some [2]],[]⟩ ⟨[],[],[]⟩ [true] (tt k0 nn)))) (fun k0=>(sl Qy 22 [] ⟨[],[],skcN0,skcM0⟩ ⟨[],[],[]⟩ [false] (tt k0 nn))))
theorem u1d (l0:List Pa) (n:Nat) (vs:List AVal) (h:Zt (Vd l0) n (y3x l0)=.ret vs):Uv prog (Zy prog 20) (Za prog 20 [(.dat l0.length (Zz l0))] true []) vs:=by have:=Ze (w7x l0) n _ (x8t l0);rwa [h] at this
def bxP (x:Pa):R6:=⟨x.a,x.b,x.c,x.d,x.e,x.f⟩
def insR (r x:R6):Bool:=j1h r.a r.b r.c r.d r.e r.f x.a x.b x.c x.d x.e x.f
def w5t (x y:R6):Bool:=j6e x.a x.b x.c x.d x.e x.f y.a y.b y.c y.d y.e y.f
def x6z (l:List Pa) (i:Nat):Bool:=Zh [bxP (rd l i)] != 0||((rd l i).s.any (fun r=> !insR r (bxP (rd l i)))||(l.take i).any fun y=>w5t (bxP (rd l i)) (bxP y))
def skG (l:List Pa):Nat→Nat→Int
 | 0,_=>0
 | k+1,i=>bif x6z l i then 8 else skG l k (i+1)
def skE :List Pa→Int
 | []=>0
 | x::r=>bif Zh x.s != 0 then Zh x.s else skE r
def z0c (l:List Pa):Int:=bif decide (50<l.length) then 4 else bif skE l != 0 then skE l else skG l l.length 0
theorem w9h {l:List Pa} {i:Nat} (h:i≤l.length):Kd l 0 i=l.take i:=(v6y l 0 i).symm.trans (by rw [u4g l (by omega)];rfl)
def smP (l:List Pa):Bool:=decide (l.length≤1000)&&l.all fun x=>decide (x.s.length≤2000000)
def Uu (l:List Pa):Bool:=smP l
theorem z2l {l:List Pa} (h:smP l=true):l.length≤1000:=Av (BF.1 h).1
theorem w4h {l:List Pa} (h:smP l=true) {i:Nat} (hi:i<l.length):(rd l i).s.length ≤2000000:=by rw [Yr hi];exact Av (Ar.1 (BF.1 h).2 _ (AZ hi))
section
variable (l:List Pa) (hl:l.length≤1000)
include hl
theorem u7s (i:Nat) (hi:i<l.length) (x:R6) (S:List R6) (V:List Pa) (hV:V.length≤1000): ∀(k j:Nat),j+k=V.length→
  ∃n,∀N,Zt (Vd l) (N+n) (.to (.h3 V (V.length:Int) (j:Int) (i:Int) x.a x.b x.c x.d x.e x.f S))=bif (V.drop j).any (fun y=>w5t x (bxP y)) then .ret [.int .i64 8] else Zt (Vd l) N (.to (.h1 ((i+1:Nat):Int)))
 | 0,j,h=>by
  refine ⟨1,fun N=> ?_⟩
  grind [Zw,Vd,Zk]
 | k+1,j,h=>by
  have hj:j<V.length:=by omega
  obtain ⟨n,hn⟩:=u7s i hi x S V hV k (j+1) (by omega);refine ⟨n+1,fun N=> ?_⟩;rw [←AD,Zw,Yg hj,BJ];have e:Vd l (.h3 V (V.length:Int) (j:Int) (i:Int) x.a x.b x.c x.d x.e x.f S)=bif w5t x (bxP (rd V j)) then .ret [.int .i64 8] else .to (.h3 V (V.length:Int) ((j+1:Nat):Int) (i:Int) x.a x.b x.c x.d x.e x.f S):=by
   grind [Vd,w5t,bxP,Zk]
  grind [Zp]
theorem u7t (i:Nat) (hi:i<l.length) (x:R6) (S:List R6) (hS:S.length≤2000000): ∀(k j:Nat),j+k=S.length→
  ∃n,∀N,Zt (Vd l) (N+n) (.to (.h2 S (S.length:Int) (j:Int) S (i:Int) (i:Int) S x.a x.b x.c x.d x.e x.f S))=bif (S.drop j).any (fun r=> !insR r x)||(l.take i).any (fun y=>w5t x (bxP y)) then .ret [.int .i64 8] else Zt (Vd l) N (.to (.h1 ((i+1:Nat):Int)))
 | 0,j,h=>by
  have e0:(l.take i).length =i:=by grind
  obtain ⟨n,hn⟩:=u7s l hl i hi x S (l.take i) (by omega) i 0 (by omega);refine ⟨n+1,fun N=> ?_⟩;rw [←AD,Zw,As (by omega)];have hn:=hn N;rw [e0,AS] at hn;simp (disch:=omega) only [Vd,Ye,Wz,Yc,Zj,w9h (show i≤l.length by omega),Ab,Aa,List.any_nil,Bool.false_or];exact hn
 | k+1,j,h=>by
  have hj:j<S.length:=by omega
  obtain ⟨n,hn⟩:=u7t i hi x S hS k (j+1) (by omega);refine ⟨n+1,fun N=> ?_⟩;rw [←AD,Zw,Yg hj,BJ];have e:Vd l (.h2 S (S.length:Int) (j:Int) S (i:Int) (i:Int) S x.a x.b x.c x.d x.e x.f S)=bif !insR (rd S j) x then .ret [.int .i64 8] else .to (.h2 S (S.length:Int) ((j+1:Nat):Int) S (i:Int) (i:Int) S x.a x.b x.c x.d x.e x.f S):=by
   grind [Vd,insR,Zk]
  grind [Zp]
theorem u7u (hs:smP l=true): ∀(k i:Nat),i+k=l.length→ ∃n,Zt (Vd l) n (.to (.h1 (i:Int)))=.ret [.int .i64 (skG l k i)]
 | 0,i,h=>by refine ⟨1,?_⟩;rw [Zw];simp (disch:=omega) only [Vd,Ye,Aa,Zp];rfl
 | k+1,i,h=>by
  have hi:i<l.length:=by omega
  obtain ⟨m,hm⟩:=u7u hs k (i+1) (by omega);obtain ⟨n,hn⟩:=u7t l hl i hi (bxP (rd l i)) (rd l i).s (w4h hs hi) (rd l i).s.length 0 (Af _);refine ⟨m+n+1,?_⟩;have e:Vd l (.h1 (i:Int))=bif Zh [bxP (rd l i)] != 0 then .ret [.int .i64 8] else .to (.h2 (rd l i).s ((rd l i).s.length :Int) ((0:Nat):Int) (rd l i).s (i:Int) (i:Int) (rd l i).s (bxP (rd l i)).a (bxP (rd l i)).b (bxP (rd l i)).c (bxP (rd l i)).d (bxP (rd l i)).e (bxP (rd l i)).f (rd l i).s):=by simp_all [Vd,bxP,Zc,Wt]
  rw [Zw,e];show _=Xw.ret [.int .i64 (bif x6z l i then 8 else skG l k (i+1))];unfold x6z;rcases Yw (Zh [bxP (rd l i)] != 0) with q | q;all_goals grind [Zp]
theorem u7v (hs:smP l=true): ∀(k i:Nat),i+k=l.length→ ∃n,Zt (Vd l) n (.to (.h0 (i:Int)))=.ret [.int .i64 (bif skE (l.drop i) != 0 then skE (l.drop i) else skG l l.length 0)]
 | 0,i,h=>by obtain ⟨m,hm⟩:=u7u l hl hs l.length 0 (Af _);refine ⟨m+1,?_⟩;rw [Zw,As (by omega)];simp (disch:=omega) only [Vd,Ye,Aa];exact hm
 | k+1,i,h=>by
  have hi:i<l.length:=by omega
  obtain ⟨m,hm⟩:=u7v hs k (i+1) (by omega);refine ⟨m+1,?_⟩;have e:Vd l (.h0 (i:Int))=bif Zh (rd l i).s != 0 then .ret [.int .i64 (Zh (rd l i).s)] else .to (.h0 ((i+1:Nat):Int)):=by
   grind [Vd,Zc,Wt,Zk]
  rw [Zw,e,Yg hi];unfold skE;rcases Yw (Zh (rd l i).s != 0) with q | q;all_goals grind [Zp]
end
theorem j3m (l:List Pa) (h:Uu l=true): ∃n,Zt (Vd l) n (y3x l)=.ret [.int .i64 (z0c l)]:=by
 have hl:=z2l h;unfold y3x z0c;by_cases g:50<l.length
 ·exact ⟨0,by rw [Ys (by omega),An g];rfl⟩
 ·obtain ⟨n,hn⟩:=u7v l hl h l.length 0 (Af _)
  grind
def fSkc :List AVal→Option (AVal×Bool)
 | [a0]=>match asL Pa a0 with
  | some (L0,g0,n0)=>some (.int .i64 (z0c L0),isT Pa n0 g0&&(Uu L0))
  | _=>none
 | _=>none
theorem j7r {S:Specs} (hS:Zu prog S):Zu prog (S.with v6n fSkc):=by
 refine z0k hS (by kernel_rfl) fun args v h=> ?_;unfold fSkc at h;split at h
 ·rename_i a0;split at h
  ·rename_i L0 g0 n0 e0;simp only [Ad,Ac,Ae] at h;obtain ⟨rfl,ho0,hw⟩:=h;obtain ⟨N,hN⟩:=j3m L0 hw;exact ⟨_,_,(.cons (Yh e0 ho0) .nil),rfl,u1d L0 N _ hN,3,rfl⟩
  ·cases h
 ·cases h
def Vc :Specs:=(Vb2.with v6n fSkc)
theorem Xx :Zu prog Vc:=(j7r Vb2_ok)
inductive sknS where
 | h0 (v16:Int) (cB:List R7)
 | h1 (v5:List Int) (v10:Int) (bR:Int) (cD:Int) (aC:Int) (aB:List R7) (aM:Int) (aP:Int)
 | h2 (cI:Nat) (v6:Int) (v7:Int) (bR:Int) (aB:List R7) (aM:Int) (aP:Int) (bF:List Int)
 | h3 (v9:Int) (v55:List R4) (v56:Int) (v57:Int) (bY:Nat) (cJ:Int) (cK:Int) (cG:Int) (aB:List R7) (aM:Int) (aP:Int) (bF:List Int)
abbrev x0a (aB:List R7) (aM:Int) (aP:Int) (v9:Int) (v55:List R4) (v57:Int):=(aB++[(R7.mk (wrap IntKind.u8 aM) (z3d aP v9 (rd v55 (tn v57)).a (rd v55 (tn v57)).b).a (z3d aP v9 (rd v55 (tn v57)).a (rd v55 (tn v57)).b).b (z3d aP v9 (rd v55 (tn v57)).a (rd v55 (tn v57)).b).c (z3d aP v9 (rd v55 (tn v57)).c (rd v55 (tn v57)).d).a (z3d aP v9 (rd v55 (tn v57)).c (rd v55 (tn v57)).d).b (z3d aP v9 (rd v55 (tn v57)).c (rd v55 (tn v57)).d).c)])
abbrev y9z (v5:List Int) (aC:Int) (l0:List Pa) (x1:Int) (v10:Int):=(v5++[(y1x aC (rd (rd l0 (tn x1)).s (tn v10)).a (rd (rd l0 (tn x1)).s (tn v10)).b (rd (rd l0 (tn x1)).s (tn v10)).c),(y1x aC (rd (rd l0 (tn x1)).s (tn v10)).d (rd (rd l0 (tn x1)).s (tn v10)).e (rd (rd l0 (tn x1)).s (tn v10)).f)])
def v3s (l0:List Pa) (x1:Int):AFr:=⟨⟨39,0,true⟩,(Wr prog 16 [1,1,1,1,1,0] 6),(Zg prog 16 [1,1,1,1,1,0] 1),none,(Zy prog 16),Yk [(34,(.dat (rd l0 (tn x1)).s.length (Zz (rd l0 (tn x1)).s))),(35,(.fn 46 [(.ptr 3 0)]))]⟩
abbrev y9y (v5:List Int):=(Wy (Yq v5.length (cOf (Zz (Xk (Yq v5.length (cOf (Zz v5))))))))
def y6g (l0:List Pa) (x1:Int):AVal:=(.dat (rd l0 (tn x1)).s.length (Zz (rd l0 (tn x1)).s))
def w4n (l0:List Pa):ABlk:=⟨[(.dat (Yu (cvT l0)).length (Zz (Yu (cvT l0))))],33,none⟩
abbrev u7r (v5:List Int) (aC:Int) (l0:List Pa) (x1:Int) (v10:Int):=(Zr (Zz v5) 0 v5.length 1 [(ii (y1x aC (rd (rd l0 (tn x1)).s (tn v10)).a (rd (rd l0 (tn x1)).s (tn v10)).b (rd (rd l0 (tn x1)).s (tn v10)).c)),(ii (y1x aC (rd (rd l0 (tn x1)).s (tn v10)).d (rd (rd l0 (tn x1)).s (tn v10)).e (rd (rd l0 (tn x1)).s (tn v10)).f))])
abbrev Jz (bF:List Int) (v7:Int):=(rd bF (0+(tn v7)))
abbrev z4l (l0:List Pa):=(cvT (Yu (cvT l0)))
abbrev y9x (aP:Int) (v9:Int) (v55:List R4) (v57:Int):=(z3d aP v9 (rd v55 (tn v57)).a (rd v55 (tn v57)).b)
abbrev y0w (aP:Int) (v9:Int) (v55:List R4) (v57:Int):=(z3d aP v9 (rd v55 (tn v57)).c (rd v55 (tn v57)).d)
abbrev z0f (l0:List Pa) (x1:Int):=(cvT (rd l0 (tn x1)).s)
def sknC (l0:List Pa) (x1:Int):sknS→Cfg
 | .h0 v16 cB=>⟨⟨87,0,true⟩,none,(Zg prog 45 [1,1,0,1,0,0] 0),none,(Zy prog 45),⟨Yk [(2,(.ptr 0 0)),(3,(.ptr 1 0)),(4,(.ptr 3 0)),(5,(.ptr 4 0)),(6,(.ptr 5 0)),(16,(ii v16))],Vv [⟨[(y6g l0 x1)],33,none⟩,⟨[(.fn 46 [(.ptr 2 0)])],85,none⟩,(w4n l0),⟨[.nils],38,none⟩,⟨[(ii 0)],24,none⟩,⟨[(.sla 6 7 0 cB.length (.un 7))],38,none⟩,⟨Ym cB.length (Zz cB),96,some ⟨7,cB.length,(Zz cB)⟩⟩] 0,7,[],true⟩,[⟨⟨39,0,true⟩,(Wr prog 16 [1,1,1,1,1,0] 6),(Zg prog 16 [1,1,1,1,1,0] 1),none,(Zy prog 16),Yk [(34,(y6g l0 x1)),(35,(.fn 46 [(.ptr 2 0)]))]⟩],.leaf⟩
 | .h1 v5 v10 bR cD aC aB aM aP=>⟨⟨31,0,true⟩,none,(Zg prog 79 [1,1,0,1,0,0] 0),none,(Zy prog 6),⟨Yk [(2,(.ptr 0 0)),(5,(.sla 9 1 0 v5.length (.un 1))),(8,(y6g l0 x1)),(9,(ii (((rd l0 (tn x1)).s.length :Nat):Int))),(10,(ii v10))],Vv [⟨[(ii aC)],79,none⟩,⟨[(y6g l0 x1)],33,none⟩,⟨[(.fn 46 [(.ptr 3 0)])],85,none⟩,(w4n l0),⟨[.nils],38,none⟩,⟨[(ii 0)],24,none⟩,⟨[(.sla 10 7 0 aB.length (.un 7))],38,none⟩,⟨[(ii aM)],3,none⟩,⟨[(ii aP)],79,none⟩,⟨Ym v5.length (Zz v5),3,some ⟨1,v5.length,(Zz v5)⟩⟩,⟨Ym aB.length (Zz aB),96,some ⟨7,aB.length,(Zz aB)⟩⟩] 0,11,[],true⟩,[⟨⟨87,0,true⟩,(Wr prog 45 [1,1,0,1,0,0,1,1,0,0,1,1,0] 2),(Zg prog 45 [1,1,0,1,0,0,1,1,0,0,1,1,0] 1),none,(Zy prog 45),Yk [(2,(.ptr 1 0)),(3,(.ptr 2 0)),(4,(.ptr 4 0)),(5,(.ptr 5 0)),(6,(.ptr 6 0)),(7,(.ptr 7 0)),(8,(.ptr 8 0)),(16,(ii bR)),(22,(.agg [(ii cD)])),(23,(y6g l0 x1))]⟩,(v3s l0 x1)],.leaf⟩
 | .h2 cI v6 v7 bR aB aM aP bF=>⟨⟨16,0,true⟩,none,(Zg prog 152 [1,0,0] 0),none,[],⟨Yk [(0,(.yld 0)),(5,(.sla 9 1 0 cI (.un 1))),(6,(ii v6)),(7,(ii v7))],z5j [(1,⟨[(y6g l0 x1)],33,none⟩),(2,⟨[(.fn 46 [(.ptr 3 0)])],85,none⟩),(3,(w4n l0)),(4,⟨[.nils],38,none⟩),(5,⟨[(ii 0)],24,none⟩),(6,⟨[(.sla 10 7 0 aB.length (.un 7))],38,none⟩),(7,⟨[(ii aM)],3,none⟩),(8,⟨[(ii aP)],79,none⟩),(9,⟨Ym bF.length (Zz bF),3,some ⟨1,bF.length,(Zz bF)⟩⟩),(10,⟨Ym aB.length (Zz aB),96,some ⟨7,aB.length,(Zz aB)⟩⟩)],11,[],true⟩,[⟨⟨87,0,true⟩,none,(.inRangeFunc 0::(Zg prog 45 [1,1,0,1,0,0,1,1,0,0,1,1,1,0] 1)),none,(Zy prog 45),Yk [(2,(.ptr 1 0)),(3,(.ptr 2 0)),(4,(.ptr 4 0)),(5,(.ptr 5 0)),(6,(.ptr 6 0)),(16,(ii bR))]⟩,(v3s l0 x1)],(z9k [(0,⟨.ready,none,87,Yk [(2,(.ptr 1 0)),(3,(.ptr 2 0)),(4,(.ptr 4 0)),(5,(.ptr 5 0)),(6,(.ptr 6 0)),(7,(.ptr 7 0)),(8,(.ptr 8 0))],[25],(Wq prog 45 [1,1,0,1,0,0,1,1,0,0,1,1,1,0,0]),(Wq prog 45 [1,1,0,1,0,0,1,1,0,0,1,1,1,0,1])⟩)])⟩
 | .h3 v9 v55 v56 v57 bY cJ cK cG aB aM aP bF=>⟨⟨87,0,true⟩,none,(Zg prog 45 [1,1,0,1,0,0,1,1,0,0,1,1,1,0,1,0,1,1,1,1,1,1,0,0] 0),(some 0),[],⟨Yk [(6,(.ptr 6 0)),(7,(.ptr 7 0)),(8,(.ptr 8 0)),(9,(ii v9)),(55,(.dat v55.length (Zz v55))),(56,(ii v56)),(57,(ii v57))],z5j [(1,⟨[(y6g l0 x1)],33,none⟩),(2,⟨[(.fn 46 [(.ptr 3 0)])],85,none⟩),(3,(w4n l0)),(4,⟨[.nils],38,none⟩),(5,⟨[(ii 0)],24,none⟩),(6,⟨[(.sla 10 7 0 aB.length (.un 7))],38,none⟩),(7,⟨[(ii aM)],3,none⟩),(8,⟨[(ii aP)],79,none⟩),(9,⟨Ym bF.length (Zz bF),3,some ⟨1,bF.length,(Zz bF)⟩⟩),(10,⟨Ym aB.length (Zz aB),96,some ⟨7,aB.length,(Zz aB)⟩⟩)],11,[],true⟩,[⟨⟨16,0,true⟩,(Wr prog 152 [1,0,0,1,1,0,0,1,0] 2),(Zg prog 152 [1,0,0,1,1,0,0,1,0] 1),none,[],Yk [(0,(.yld 0)),(5,(.sla 9 1 0 bY (.un 1))),(6,(ii cJ)),(7,(ii cK)),(11,(.yld 0)),(12,(ii v9))]⟩,⟨⟨87,0,true⟩,none,(.inRangeFunc 0::(Zg prog 45 [1,1,0,1,0,0,1,1,0,0,1,1,1,0] 1)),none,(Zy prog 45),Yk [(2,(.ptr 1 0)),(3,(.ptr 2 0)),(4,(.ptr 4 0)),(5,(.ptr 5 0)),(6,(.ptr 6 0)),(16,(ii cG))]⟩,(v3s l0 x1)],(z9k [(0,⟨.busy,none,87,Yk [(2,(.ptr 1 0)),(3,(.ptr 2 0)),(4,(.ptr 4 0)),(5,(.ptr 5 0)),(6,(.ptr 6 0)),(7,(.ptr 7 0)),(8,(.ptr 8 0))],[25],(Wq prog 45 [1,1,0,1,0,0,1,1,0,0,1,1,1,0,0]),(Wq prog 45 [1,1,0,1,0,0,1,1,0,0,1,1,1,0,1])⟩)])⟩
def sknN0 :List (Option (List Nat)):=[some [2,3,4,5,6,16],some [34,35]]
def sknM0 :List (Option (List Nat)):=[]
def sknN1 :List (Option (List Nat)):=[some [2,5,8,9,10],some [2,3,4,5,6,7,8,16,22,23],some [34,35]]
def sknM1 :List (Option (List Nat)):=[]
def sknN2 :List (Option (List Nat)):=[some [0,5,6,7],some [2,3,4,5,6,16],some [34,35]]
def sknM2 :List (Option (List Nat)):=[some [2,3,4,5,6,7,8],none,none,none,none,none,none,none,none,none,none]
def j3i :List (Option (List Nat)):=[some [6,7,8,9,55,56,57],some [0,5,6,7,11,12],some [2,3,4,5,6,16],some [34,35]]
def j3j :List (Option (List Nat)):=[some [2,3,4,5,6,7,8],none,none,none,none,none,none,none,none,none,none]
def Wh (l0:List Pa) (x1:Int):sknS→Xw sknS
 | .h0 v16 cB=>(bif (decide (v16<6)) then (.to (.h1 ([]:List Int) 0 v16 (wrap .i64 (Int.tdiv v16 2)) (wrap .i64 (Int.tdiv v16 2)) cB v16 (wrap .i64 (Int.tdiv v16 2)))) else (bif (decide ((cB.length:Int)>3000)) then (.ret [.nils,(.int .i64 4)]) else (.ret [(.dat cB.length (Zz cB)),(.int .i64 0)])))
 | .h1 v5 v10 bR cD aC aB aM aP=>(bif (decide (v10<(((rd l0 x1.toNat).s.length :Nat):Int))) then (bif ((decide (0≤v10∧v10<(((rd l0 x1.toNat).s.length :Nat):Int)))&&true) then (bif (Ue aC (rd (rd l0 x1.toNat).s v10.toNat).a (rd (rd l0 x1.toNat).s v10.toNat).b (rd (rd l0 x1.toNat).s v10.toNat).c) then (bif (Ue aC (rd (rd l0 x1.toNat).s v10.toNat).d (rd (rd l0 x1.toNat).s v10.toNat).e (rd (rd l0 x1.toNat).s v10.toNat).f) then (bif (Nat.beq 1 1&&((decide (0+v5.length=v5.length))&&decide ((v5.length+2+1)*(8+1)≤Jo))) then (.to (.h1 (v5++[(y1x aC (rd (rd l0 x1.toNat).s v10.toNat).a (rd (rd l0 x1.toNat).s v10.toNat).b (rd (rd l0 x1.toNat).s v10.toNat).c),(y1x aC (rd (rd l0 x1.toNat).s v10.toNat).d (rd (rd l0 x1.toNat).s v10.toNat).e (rd (rd l0 x1.toNat).s v10.toNat).f)]) (wrap .i64 (v10+1)) bR cD aC aB aM aP)) else .stuck) else .stuck) else .stuck) else .stuck) else (bif (decide (v5.length<4611686018427387904)) then (bif (decide (v5.length=v5.length)) then (.to (.h2 (v1y (Yq v5.length (cOf (Zz (Xk (Yq v5.length (cOf (Zz v5)))))))) (((v1y (Yq v5.length (cOf (Zz (Xk (Yq v5.length (cOf (Zz v5)))))))):Nat):Int) 0 bR aB aM aP (Wy (Yq v5.length (cOf (Zz (Xk (Yq v5.length (cOf (Zz v5)))))))))) else .stuck) else .stuck))
 | .h2 cI v6 v7 bR aB aM aP bF=>(bif (decide (v7<v6)) then (bif ((decide (0≤v7∧v7<((cI:Nat):Int)))&&true) then (bif (decide ((0+v7.toNat)<bF.length)) then (bif ((Int.tmod aM 2) == 1) then (bif (Ww aP (cvT (rd l0 x1.toNat).s) (rd bF (0+v7.toNat))) then (bif ((Wj aP (cvT (rd l0 x1.toNat).s) (rd bF (0+v7.toNat))) == 0) then (bif (Ww aP (cvT (Yu (cvT l0))) (wrap .i64 ((rd bF (0+v7.toNat)) - 1))) then (bif ((Wj aP (cvT (Yu (cvT l0))) (wrap .i64 ((rd bF (0+v7.toNat)) - 1))) != 0) then (.ret [.nils,(.int .i64 (Wj aP (cvT (Yu (cvT l0))) (wrap .i64 ((rd bF (0+v7.toNat)) - 1))))]) else (bif (Kw .d (cvT (Zd aP (cvT (rd l0 x1.toNat).s) (rd bF (0+v7.toNat)))) (cvT (Zd aP (cvT (Yu (cvT l0))) (wrap .i64 ((rd bF (0+v7.toNat)) - 1))))) then (bif ((Ko .d (cvT (Zd aP (cvT (rd l0 x1.toNat).s) (rd bF (0+v7.toNat)))) (cvT (Zd aP (cvT (Yu (cvT l0))) (wrap .i64 ((rd bF (0+v7.toNat)) - 1))))) != 0) then (.ret [.nils,(.int .i64 (Ko .d (cvT (Zd aP (cvT (rd l0 x1.toNat).s) (rd bF (0+v7.toNat)))) (cvT (Zd aP (cvT (Yu (cvT l0))) (wrap .i64 ((rd bF (0+v7.toNat)) - 1))))))]) else (.to (.h3 (rd bF (0+v7.toNat)) (Wg .d (cvT (Zd aP (cvT (rd l0 x1.toNat).s) (rd bF (0+v7.toNat)))) (cvT (Zd aP (cvT (Yu (cvT l0))) (wrap .i64 ((rd bF (0+v7.toNat)) - 1))))) (((Wg .d (cvT (Zd aP (cvT (rd l0 x1.toNat).s) (rd bF (0+v7.toNat)))) (cvT (Zd aP (cvT (Yu (cvT l0))) (wrap .i64 ((rd bF (0+v7.toNat)) - 1))))).length :Nat):Int) 0 cI v6 v7 bR aB aM aP bF))) else .stuck)) else .stuck) else (.ret [.nils,(.int .i64 (Wj aP (cvT (rd l0 x1.toNat).s) (rd bF (0+v7.toNat))))])) else .stuck) else (bif (Ww aP (cvT (rd l0 x1.toNat).s) (wrap .i64 ((rd bF (0+v7.toNat)) - 1))) then (bif ((Wj aP (cvT (rd l0 x1.toNat).s) (wrap .i64 ((rd bF (0+v7.toNat)) - 1))) == 0) then (bif (Ww aP (cvT (Yu (cvT l0))) (rd bF (0+v7.toNat))) then (bif ((Wj aP (cvT (Yu (cvT l0))) (rd bF (0+v7.toNat))) != 0) then (.ret [.nils,(.int .i64 (Wj aP (cvT (Yu (cvT l0))) (rd bF (0+v7.toNat))))]) else (bif (Kw .d (cvT (Zd aP (cvT (rd l0 x1.toNat).s) (wrap .i64 ((rd bF (0+v7.toNat)) - 1)))) (cvT (Zd aP (cvT (Yu (cvT l0))) (rd bF (0+v7.toNat))))) then (bif ((Ko .d (cvT (Zd aP (cvT (rd l0 x1.toNat).s) (wrap .i64 ((rd bF (0+v7.toNat)) - 1)))) (cvT (Zd aP (cvT (Yu (cvT l0))) (rd bF (0+v7.toNat))))) != 0) then (.ret [.nils,(.int .i64 (Ko .d (cvT (Zd aP (cvT (rd l0 x1.toNat).s) (wrap .i64 ((rd bF (0+v7.toNat)) - 1)))) (cvT (Zd aP (cvT (Yu (cvT l0))) (rd bF (0+v7.toNat))))))]) else (.to (.h3 (rd bF (0+v7.toNat)) (Wg .d (cvT (Zd aP (cvT (rd l0 x1.toNat).s) (wrap .i64 ((rd bF (0+v7.toNat)) - 1)))) (cvT (Zd aP (cvT (Yu (cvT l0))) (rd bF (0+v7.toNat))))) (((Wg .d (cvT (Zd aP (cvT (rd l0 x1.toNat).s) (wrap .i64 ((rd bF (0+v7.toNat)) - 1)))) (cvT (Zd aP (cvT (Yu (cvT l0))) (rd bF (0+v7.toNat))))).length :Nat):Int) 0 cI v6 v7 bR aB aM aP bF))) else .stuck)) else .stuck) else (.ret [.nils,(.int .i64 (Wj aP (cvT (rd l0 x1.toNat).s) (wrap .i64 ((rd bF (0+v7.toNat)) - 1))))])) else .stuck)) else .stuck) else .stuck) else (.to (.h0 (wrap .i64 (bR+1)) aB)))
 | .h3 v9 v55 v56 v57 bY cJ cK cG aB aM aP bF=>(bif (decide (v57<v56)) then (bif ((decide (0≤v57∧v57<(v55.length:Int)))&&true) then (bif (Kr aP v9 (rd v55 v57.toNat).a (rd v55 v57.toNat).b) then (bif (Kr aP v9 (rd v55 v57.toNat).c (rd v55 v57.toNat).d) then (bif (Nat.beq 7 7&&((decide (0+aB.length=aB.length))&&decide ((aB.length+1+1)*(56+1)≤Jo))) then (.to (.h3 v9 v55 v56 (wrap .i64 (v57+1)) bY cJ cK cG (aB++[(R7.mk (wrap IntKind.u8 aM) (z3d aP v9 (rd v55 v57.toNat).a (rd v55 v57.toNat).b).a (z3d aP v9 (rd v55 v57.toNat).a (rd v55 v57.toNat).b).b (z3d aP v9 (rd v55 v57.toNat).a (rd v55 v57.toNat).b).c (z3d aP v9 (rd v55 v57.toNat).c (rd v55 v57.toNat).d).a (z3d aP v9 (rd v55 v57.toNat).c (rd v55 v57.toNat).d).b (z3d aP v9 (rd v55 v57.toNat).c (rd v55 v57.toNat).d).c)]) aM aP bF)) else .stuck) else .stuck) else .stuck) else .stuck) else (.to (.h2 bY cJ (wrap .i64 (cK+1)) cG aB aM aP bF)))
def y3v (l0:List Pa) (x1:Int):Xw sknS:=(bif (Uu (cvT l0)) then (bif ((z0c (cvT l0)) != 0) then (.ret [.nils,(.int .i64 (z0c (cvT l0)))]) else (bif (decide (x1<0)) then (.ret [.nils,(.int .i64 2)]) else (bif (decide (x1≥(l0.length:Int))) then (.ret [.nils,(.int .i64 2)]) else (bif (Qh (cvT l0)) then (bif ((z0i (cvT l0)) != 0) then (.ret [.nils,(.int .i64 (z0i (cvT l0)))]) else (bif ((decide (0≤x1∧x1<(l0.length:Int)))&&true) then (.to (.h0 0 ([]:List R7))) else .stuck)) else .stuck)))) else .stuck)
theorem w7w (l0:List Pa) (x1:Int): ∀s,Xv prog (Zy prog 16) (sknC l0 x1) (sknC l0 x1 s) (Wh l0 x1 s)
 | .h0 v16 cB=>(lb (fun k0=>(sl Xx 46 [(3,1,Zz ([]:List Int))] ⟨[9,0,1,2,3,4,5,7,8,10,6],[],sknN1,sknM1⟩ ⟨[(5,.grow 9 1)],[],[]⟩ [true] (pp (fl ([]:List Int) (fl cB nn)) (tt k0 nn)))) (fun k0=>(lb (fun k1=>(lr 39 3 [1,1,1,1,0] 1 16 [(4,.nils),(5,(ii 4))] (sl Xx 26 [] ⟨[],[],[some [4,5]],[]⟩ ⟨[],[],[]⟩ (bl 2 2) (tt k1 (tt k0 nn))))) (fun k1=>(lr 39 3 [1,1,1,1,0] 1 16 [(4,(.dat cB.length (Zz cB))),(5,(ii 0))] (sl Xx 28 [] ⟨[],[6],[some [4,5]],[]⟩ ⟨[(4,.frz cB.length cB.length (Zz cB) (Zz cB))],[],[]⟩ (bl 2 0) (pp (xZ (z4o 7 7 0 cB.length cB.length (Zz cB)) cB.length (Zz cB)) (pp (xL cB.length cB.length) (pp (xS cB.length (Zz cB) (Zz cB)) (pp (fl cB nn) (tt k1 (tt k0 nn))))))))))))
 | .h1 v5 v10 bR cD aC aB aM aP=>(lb (fun k0=>(lo fun o0=>(lo fun o1=>(lo fun o2=>(lo fun o3=>(sl Xx 23 [] ⟨[0,1,2,3,4,5,6,7,8,13,10],[],sknN1,sknM1⟩ ⟨[(5,.len (y9z v5 aC l0 x1 v10).length)],(kpB 9 [.rowed 1 (y9z v5 aC l0 x1 v10).length (Zz (y9z v5 aC l0 x1 v10)),.keep]),[]⟩ [true] (pp (xL (v5.length+2) (y9z v5 aC l0 x1 v10).length) (pp (xL (v5.length+2) (y9z v5 aC l0 x1 v10).length) (pp (xS (v5.length+2) (u7r v5 aC l0 x1 v10) (Zz (y9z v5 aC l0 x1 v10))) (pp (pp (xF (u7r v5 aC l0 x1 v10)) (fl aB nn)) (ww o3 (ww o2 (ww o1 (ww o0 (tt k0 nn))))))))))))))) (fun k0=>(lo fun o0=>(lo fun o1=>(sl Xx 42 [] ⟨[12,1,2,3,4,5,6,7,8,9,10],[],sknN2,sknM2⟩ ⟨[],(kpB 9 [.rowed 1 (y9y v5).length (Zz (y9y v5)),.keep]),[]⟩ [false] (pp (xL v5.length (y9y v5).length (by first | exact z1d _ _ | exact Vo rfl)) (pp (xS v5.length (Zz (y9y v5)) (Zz (y9y v5))) (pp (fl (y9y v5) (fl aB nn)) (pp (pp (xG (Nat.beq 1 1)) (pp (xG (Nat.beq 1 1)) (pp (xG (Nat.beq 0 0)) (pp (xG (decide (v5.length=v5.length))) (pp (xG (isI (Zz (Xk (Yq v5.length (cOf (Zz v5))))))) (xG (decide (v5.length<4611686018427387904)))))))) (pp (pp (xG (Nat.beq 1 1)) (pp (xG (Nat.beq 1 1)) (pp (xG (Nat.beq 0 0)) (pp (xG (decide (v5.length=v5.length))) (pp (xG (isI (Zz v5))) (xG (decide (v5.length<4611686018427387904)))))))) (tt k0 nn)))))))))))
 | .h2 cI v6 v7 bR aB aM aP bF=>(lb (fun k0=>(lo fun aI=>(lo fun bG=>(lb (fun k1=>(lo fun bX=>(lb (fun k2=>(lo fun cA=>(lb (fun k3=>(lr 39 3 [1,1,1,1,0] 1 16 [(4,.nils),(5,(ii (Wj aP (z4l l0) (wr ((Jz bF v7) - 1)))))] (sl Xx 136 [] ⟨[],[],[some [4,5]],[]⟩ ⟨[],[],[]⟩ (trs 6 []) (tt k3 (tt k3 (pp (pp (xI R6 (Yu (cvT l0)).length (Zz (Yu (cvT l0)))) (xw cA)) (tt k2 (pp (pp (xI R6 (rd l0 (tn x1)).s.length (Zz (rd l0 (tn x1)).s)) (xw bX)) (tt k1 (ww bG (ww aI (tt k0 nn)))))))))))) (fun k3=>(lo fun cC=>(lb (fun k4=>(lr 39 3 [1,1,1,1,0] 1 16 [(4,.nils),(5,(ii (Ko .d (cvT (Zd aP (z0f l0 x1) (Jz bF v7))) (cvT (Zd aP (z4l l0) (wr ((Jz bF v7) - 1)))))))] (sl Xx 141 [] ⟨[],[],[some [4,5]],[]⟩ ⟨[],[],[]⟩ (trs 3 (bl 3 6)) (tt k4 (pp (pp (xI R4 (Zd aP (z0f l0 x1) (Jz bF v7)).length (Zz (Zd aP (z0f l0 x1) (Jz bF v7)))) (pp (xI R4 (Zd aP (z4l l0) (wr ((Jz bF v7) - 1))).length (Zz (Zd aP (z4l l0) (wr ((Jz bF v7) - 1))))) (xw cC))) (tt k3 (pp (pp (xI R6 (Yu (cvT l0)).length (Zz (Yu (cvT l0)))) (xw cA)) (tt k2 (pp (pp (xI R6 (rd l0 (tn x1)).s.length (Zz (rd l0 (tn x1)).s)) (xw bX)) (tt k1 (ww bG (ww aI (tt k0 nn))))))))))))) (fun k4=>(sl Xx 132 [] ⟨(List.range 11),[],j3i,j3j⟩ ⟨[],[],[]⟩ (trs 3 (bl 2 0)) (pp (fl bF (fl aB nn)) (tt k4 (pp (pp (xI R4 (Zd aP (z0f l0 x1) (Jz bF v7)).length (Zz (Zd aP (z0f l0 x1) (Jz bF v7)))) (pp (xI R4 (Zd aP (z4l l0) (wr ((Jz bF v7) - 1))).length (Zz (Zd aP (z4l l0) (wr ((Jz bF v7) - 1))))) (xw cC))) (tt k3 (pp (pp (xI R6 (Yu (cvT l0)).length (Zz (Yu (cvT l0)))) (xw cA)) (tt k2 (pp (pp (xI R6 (rd l0 (tn x1)).s.length (Zz (rd l0 (tn x1)).s)) (xw bX)) (tt k1 (ww bG (ww aI (tt k0 nn))))))))))))))))))) (fun k2=>(lr 39 3 [1,1,1,1,0] 1 16 [(4,.nils),(5,(ii (Wj aP (z0f l0 x1) (Jz bF v7))))] (sl Xx 93 [] ⟨[],[],[some [4,5]],[]⟩ ⟨[],[],[]⟩ (bl 5 27) (yt (v1e k2) (tt k2 (pp (pp (xI R6 (rd l0 (tn x1)).s.length (Zz (rd l0 (tn x1)).s)) (xw bX)) (tt k1 (ww bG (ww aI (tt k0 nn))))))))))))) (fun k1=>(lo fun bX=>(lb (fun k2=>(lo fun cA=>(lb (fun k3=>(lr 39 3 [1,1,1,1,0] 1 16 [(4,.nils),(5,(ii (Wj aP (z4l l0) (Jz bF v7))))] (sl Xx 130 [] ⟨[],[],[some [4,5]],[]⟩ ⟨[],[],[]⟩ (bl 6 61) (tt k3 (tt k3 (pp (pp (xI R6 (Yu (cvT l0)).length (Zz (Yu (cvT l0)))) (xw cA)) (tt k2 (pp (pp (xI R6 (rd l0 (tn x1)).s.length (Zz (rd l0 (tn x1)).s)) (xw bX)) (tt k1 (ww bG (ww aI (tt k0 nn)))))))))))) (fun k3=>(lo fun cC=>(lb (fun k4=>(lr 39 3 [1,1,1,1,0] 1 16 [(4,.nils),(5,(ii (Ko .d (cvT (Zd aP (z0f l0 x1) (wr ((Jz bF v7) - 1)))) (cvT (Zd aP (z4l l0) (Jz bF v7))))))] (sl Xx 135 [] ⟨[],[],[some [4,5]],[]⟩ ⟨[],[],[]⟩ (bl 6 53) (tt k4 (pp (pp (xI R4 (Zd aP (z0f l0 x1) (wr ((Jz bF v7) - 1))).length (Zz (Zd aP (z0f l0 x1) (wr ((Jz bF v7) - 1))))) (pp (xI R4 (Zd aP (z4l l0) (Jz bF v7)).length (Zz (Zd aP (z4l l0) (Jz bF v7)))) (xw cC))) (tt k3 (pp (pp (xI R6 (Yu (cvT l0)).length (Zz (Yu (cvT l0)))) (xw cA)) (tt k2 (pp (pp (xI R6 (rd l0 (tn x1)).s.length (Zz (rd l0 (tn x1)).s)) (xw bX)) (tt k1 (ww bG (ww aI (tt k0 nn))))))))))))) (fun k4=>(sl Xx 126 [] ⟨(List.range 11),[],j3i,j3j⟩ ⟨[],[],[]⟩ (bl 5 5) (pp (fl bF (fl aB nn)) (tt k4 (pp (pp (xI R4 (Zd aP (z0f l0 x1) (wr ((Jz bF v7) - 1))).length (Zz (Zd aP (z0f l0 x1) (wr ((Jz bF v7) - 1))))) (pp (xI R4 (Zd aP (z4l l0) (Jz bF v7)).length (Zz (Zd aP (z4l l0) (Jz bF v7)))) (xw cC))) (tt k3 (pp (pp (xI R6 (Yu (cvT l0)).length (Zz (Yu (cvT l0)))) (xw cA)) (tt k2 (pp (pp (xI R6 (rd l0 (tn x1)).s.length (Zz (rd l0 (tn x1)).s)) (xw bX)) (tt k1 (ww bG (ww aI (tt k0 nn))))))))))))))))))) (fun k2=>(lr 39 3 [1,1,1,1,0] 1 16 [(4,.nils),(5,(ii (Wj aP (z0f l0 x1) (wr ((Jz bF v7) - 1)))))] (sl Xx 87 [] ⟨[],[],[some [4,5]],[]⟩ ⟨[],[],[]⟩ (bl 5 25) (yt (v1e k2) (tt k2 (pp (pp (xI R6 (rd l0 (tn x1)).s.length (Zz (rd l0 (tn x1)).s)) (xw bX)) (tt k1 (ww bG (ww aI (tt k0 nn))))))))))))))))) (fun k0=>(sl Xx 16 [] ⟨[1,2,3,4,5,6,10],[],sknN0,sknM0⟩ ⟨[],[],[]⟩ [false] (pp (fl aB nn) (tt k0 nn)))))
 | .h3 v9 v55 v56 v57 bY cJ cK cG aB aM aP bF=>(lb (fun k0=>(lo fun o0=>(lo fun o1=>(lo fun o2=>(lo fun o3=>(sl Xx 23 [] ⟨[0,1,2,3,4,5,6,7,8,9,13],[],j3i,j3j⟩ ⟨[],(kpB 6 [.cells [.len (x0a aB aM aP v9 v55 v57).length],.keep,.keep,.keep,.rowed 7 (x0a aB aM aP v9 v55 v57).length (Zz (x0a aB aM aP v9 v55 v57))]),[]⟩ [true] (pp (xL (aB.length+1) (x0a aB aM aP v9 v55 v57).length) (pp (xL (aB.length+1) (x0a aB aM aP v9 v55 v57).length) (pp (xS (aB.length+1) (Zr (Zz aB) 0 aB.length 7 [(.int .u8 (wrap IntKind.u8 aM)),(ii (y9x aP v9 v55 v57).a),(ii (y9x aP v9 v55 v57).b),(ii (y9x aP v9 v55 v57).c),(ii (y0w aP v9 v55 v57).a),(ii (y0w aP v9 v55 v57).b),(ii (y0w aP v9 v55 v57).c)]) (Zz (x0a aB aM aP v9 v55 v57))) (pp (fl bF (pp (xF (Zr (Zz aB) 0 aB.length 7 [(.int .u8 (wrap IntKind.u8 aM)),(ii (y9x aP v9 v55 v57).a),(ii (y9x aP v9 v55 v57).b),(ii (y9x aP v9 v55 v57).c),(ii (y0w aP v9 v55 v57).a),(ii (y0w aP v9 v55 v57).b),(ii (y0w aP v9 v55 v57).c)])) nn)) (ww o3 (ww o2 (ww o1 (ww o0 (tt k0 nn))))))))))))))) (fun k0=>(sl Xx 19 [] ⟨(List.range 11),[],sknN2,sknM2⟩ ⟨[],[],[]⟩ (bl 2 0) (pp (fl bF (fl aB nn)) (tt k0 nn)))))
theorem x8r (l0:List Pa) (x1:Int):Xv prog (Zy prog 16) (sknC l0 x1) (Za prog 16 [(.dat l0.length (Zz l0)),(.int .i64 x1)] true []) (y3v l0 x1):=(lo fun bP=>(lb (fun k0=>(lr 39 16 [1,0,1,1,0,0] 1 16 [(4,.nils),(5,(ii (z0c (cvT l0))))] (sl Xx 24 [] ⟨[],[],[some [4,5]],[]⟩ ⟨[],[],[]⟩ [true] (tt k0 (pp (pp (xr l0) (xw bP)) nn))))) (fun k0=>(lb (fun k1=>(lr 39 16 [1,1,0,1,0,0] 1 16 [(4,.nils),(5,(ii 2))] (sl Xx 37 [] ⟨[],[],[some [4,5]],[]⟩ ⟨[],[],[]⟩ [false,true,true,true,true,true] (tt k1 (tt k0 (pp (pp (xr l0) (xw bP)) nn)))))) (fun k1=>(lb (fun k2=>(lr 39 16 [1,1,0,1,0,0] 1 16 [(4,.nils),(5,(ii 2))] (sl Xx 37 [] ⟨[],[],[some [4,5]],[]⟩ ⟨[],[],[]⟩ [false,false,false,false,false,true] (tt k2 (tt k1 (tt k0 (pp (pp (xr l0) (xw bP)) nn))))))) (fun k2=>(lo fun cA=>(lb (fun k3=>(lr 39 16 [1,1,1,1,0,1,0,0] 1 16 [(4,.nils),(5,(ii (z0i (cvT l0))))] (sl Xx 57 [] ⟨[],[],[some [4,5]],[]⟩ ⟨[],[],[]⟩ [false,false,false,false,false,false,true] (tt k3 (pp (pp (xr l0) (xw cA)) (tt k2 (tt k1 (tt k0 (pp (pp (xr l0) (xw bP)) nn))))))))) (fun k3=>(lo fun o0=>(sl Xx 79 [(96,7,Zz ([]:List R7))] ⟨[1,2,0,3,4,5,6],[],sknN0,sknM0⟩ ⟨[],(kpB 5 [.cells [.grow 6 7],.keep]),[]⟩ [false,false,false,false,false,false,false] (pp (fl ([]:List R7) nn) (ww o0 (tt k3 (pp (pp (xr l0) (xw cA)) (tt k2 (tt k1 (tt k0 (pp (pp (xr l0) (xw bP)) nn))))))))))))))))))))
theorem u1b (l0:List Pa) (x1:Int) (n:Nat) (vs:List AVal) (h:Zt (Wh l0 x1) n (y3v l0 x1)=.ret vs):Uv prog (Zy prog 16) (Za prog 16 [(.dat l0.length (Zz l0)),(.int .i64 x1)] true []) vs:=by have:=Ze (w7w l0 x1) n _ (x8r l0 x1);rwa [h] at this
inductive stpS where
 | h0 (v16:Int) (aB:List R7)
 | h1 (v5:List Int) (v10:Int) (bR:Int) (cD:Int) (aC:Int) (aM:List R7) (aP:Int) (aF:Int)
 | h2 (cI:Nat) (v6:Int) (v7:Int) (bR:Int) (aM:List R7) (aP:Int) (aF:Int) (aL:List Int)
 | h3 (v9:Int) (v55:List R4) (v56:Int) (v57:Int) (bY:Nat) (cJ:Int) (cK:Int) (cG:Int) (aM:List R7) (aP:Int) (aF:Int) (aL:List Int)
abbrev Ur (l0:List Pa) (x2:Int):=(R6.mk (rd l0 (tn x2)).a (rd l0 (tn x2)).b (rd l0 (tn x2)).c (rd l0 (tn x2)).d (rd l0 (tn x2)).e (rd l0 (tn x2)).f)
abbrev y9n (aM:List R7) (aP:Int) (aF:Int) (v9:Int) (v55:List R4) (v57:Int):=(aM++[(R7.mk (wrap IntKind.u8 aP) (z3d aF v9 (rd v55 (tn v57)).a (rd v55 (tn v57)).b).a (z3d aF v9 (rd v55 (tn v57)).a (rd v55 (tn v57)).b).b (z3d aF v9 (rd v55 (tn v57)).a (rd v55 (tn v57)).b).c (z3d aF v9 (rd v55 (tn v57)).c (rd v55 (tn v57)).d).a (z3d aF v9 (rd v55 (tn v57)).c (rd v55 (tn v57)).d).b (z3d aF v9 (rd v55 (tn v57)).c (rd v55 (tn v57)).d).c)])
abbrev y9m (v5:List Int) (aC:Int) (l0:List Pa) (x1:Int) (v10:Int):=(v5++[(y1x aC (rd (rd l0 (tn x1)).s (tn v10)).a (rd (rd l0 (tn x1)).s (tn v10)).b (rd (rd l0 (tn x1)).s (tn v10)).c),(y1x aC (rd (rd l0 (tn x1)).s (tn v10)).d (rd (rd l0 (tn x1)).s (tn v10)).e (rd (rd l0 (tn x1)).s (tn v10)).f)])
abbrev Jt (aL:List Int) (v7:Int):=(rd aL (0+(tn v7)))
def v2r (l0:List Pa) (x1:Int):AFr:=⟨⟨46,0,true⟩,(Wr prog 18 [1,1,1,0] 6),(Zg prog 18 [1,1,1,0] 1),none,(Zy prog 10),Yk [(41,(.dat (rd l0 (tn x1)).s.length (Zz (rd l0 (tn x1)).s))),(42,(.fn 50 [(.ptr 3 0),(.ptr 4 0)]))]⟩
abbrev y9l (v5:List Int):=(Wy (Yq v5.length (cOf (Zz (Xk (Yq v5.length (cOf (Zz v5))))))))
abbrev z4j (aF:Int) (l0:List Pa) (x2:Int) (aL:List Int) (v7:Int):=(Zd aF (cvT (rd l0 (tn x2)).s) (wr ((Jt aL v7) - 1)))
def y5v (l0:List Pa) (x1:Int):AVal:=(.dat (rd l0 (tn x1)).s.length (Zz (rd l0 (tn x1)).s))
abbrev z4i (aF:Int) (l0:List Pa) (x2:Int) (aL:List Int) (v7:Int):=(Zd aF (cvT (rd l0 (tn x2)).s) (Jt aL v7))
abbrev u6r (v5:List Int) (aC:Int) (l0:List Pa) (x1:Int) (v10:Int):=(Zr (Zz v5) 0 v5.length 1 [(ii (y1x aC (rd (rd l0 (tn x1)).s (tn v10)).a (rd (rd l0 (tn x1)).s (tn v10)).b (rd (rd l0 (tn x1)).s (tn v10)).c)),(ii (y1x aC (rd (rd l0 (tn x1)).s (tn v10)).d (rd (rd l0 (tn x1)).s (tn v10)).e (rd (rd l0 (tn x1)).s (tn v10)).f))])
abbrev z0e (l0:List Pa) (x1:Int):=(Zz (rd l0 (tn x1)).s)
abbrev y0s (aF:Int) (v9:Int) (v55:List R4) (v57:Int):=(z3d aF v9 (rd v55 (tn v57)).a (rd v55 (tn v57)).b)
abbrev y0r (aF:Int) (v9:Int) (v55:List R4) (v57:Int):=(z3d aF v9 (rd v55 (tn v57)).c (rd v55 (tn v57)).d)
def x8i :ABlk:=⟨[(.fn 50 [(.ptr 3 0),(.ptr 4 0)])],85,none⟩
abbrev Ui (aL:List Int) (v7:Int):=((Jt aL v7) - 1)
abbrev z0d (l0:List Pa) (x1:Int):=(cvT (rd l0 (tn x1)).s)
abbrev z2j (l0:List Pa) (x2:Int):=(Zz (rd l0 (tn x2)).s)
def x2e (l0:List Pa):ABlk:=⟨[(.dat l0.length (Zz l0))],22,none⟩
def stpC (l0:List Pa) (x1:Int) (x2:Int):stpS→Cfg
 | .h0 v16 aB=>⟨⟨87,0,true⟩,none,(Zg prog 45 [1,1,0,1,0,0] 0),none,(Zy prog 45),⟨Yk [(2,(.ptr 0 0)),(3,(.ptr 1 0)),(4,(.ptr 4 0)),(5,(.ptr 5 0)),(6,(.ptr 6 0)),(16,(ii v16))],Vv [⟨[(y5v l0 x1)],33,none⟩,⟨[(.fn 50 [(.ptr 2 0),(.ptr 3 0)])],85,none⟩,(x2e l0),⟨[(ii x2)],3,none⟩,⟨[.nils],38,none⟩,⟨[(ii 0)],24,none⟩,⟨[(.sla 7 7 0 aB.length (.un 7))],38,none⟩,⟨Ym aB.length (Zz aB),96,some ⟨7,aB.length,(Zz aB)⟩⟩] 0,8,[],true⟩,[⟨⟨46,0,true⟩,(Wr prog 18 [1,1,1,0] 6),(Zg prog 18 [1,1,1,0] 1),none,(Zy prog 10),Yk [(41,(y5v l0 x1)),(42,(.fn 50 [(.ptr 2 0),(.ptr 3 0)]))]⟩],.leaf⟩
 | .h1 v5 v10 bR cD aC aM aP aF=>⟨⟨31,0,true⟩,none,(Zg prog 79 [1,1,0,1,0,0] 0),none,(Zy prog 6),⟨Yk [(2,(.ptr 0 0)),(5,(.sla 10 1 0 v5.length (.un 1))),(8,(y5v l0 x1)),(9,(ii (((rd l0 (tn x1)).s.length :Nat):Int))),(10,(ii v10))],Vv [⟨[(ii aC)],79,none⟩,⟨[(y5v l0 x1)],33,none⟩,x8i,(x2e l0),⟨[(ii x2)],3,none⟩,⟨[.nils],38,none⟩,⟨[(ii 0)],24,none⟩,⟨[(.sla 11 7 0 aM.length (.un 7))],38,none⟩,⟨[(ii aP)],3,none⟩,⟨[(ii aF)],79,none⟩,⟨Ym v5.length (Zz v5),3,some ⟨1,v5.length,(Zz v5)⟩⟩,⟨Ym aM.length (Zz aM),96,some ⟨7,aM.length,(Zz aM)⟩⟩] 0,12,[],true⟩,[⟨⟨87,0,true⟩,(Wr prog 45 [1,1,0,1,0,0,1,1,0,0,1,1,0] 2),(Zg prog 45 [1,1,0,1,0,0,1,1,0,0,1,1,0] 1),none,(Zy prog 45),Yk [(2,(.ptr 1 0)),(3,(.ptr 2 0)),(4,(.ptr 5 0)),(5,(.ptr 6 0)),(6,(.ptr 7 0)),(7,(.ptr 8 0)),(8,(.ptr 9 0)),(16,(ii bR)),(22,(.agg [(ii cD)])),(23,(y5v l0 x1))]⟩,(v2r l0 x1)],.leaf⟩
 | .h2 cI v6 v7 bR aM aP aF aL=>⟨⟨16,0,true⟩,none,(Zg prog 152 [1,0,0] 0),none,[],⟨Yk [(0,(.yld 0)),(5,(.sla 10 1 0 cI (.un 1))),(6,(ii v6)),(7,(ii v7))],z5j [(1,⟨[(y5v l0 x1)],33,none⟩),(2,x8i),(3,(x2e l0)),(4,⟨[(ii x2)],3,none⟩),(5,⟨[.nils],38,none⟩),(6,⟨[(ii 0)],24,none⟩),(7,⟨[(.sla 11 7 0 aM.length (.un 7))],38,none⟩),(8,⟨[(ii aP)],3,none⟩),(9,⟨[(ii aF)],79,none⟩),(10,⟨Ym aL.length (Zz aL),3,some ⟨1,aL.length,(Zz aL)⟩⟩),(11,⟨Ym aM.length (Zz aM),96,some ⟨7,aM.length,(Zz aM)⟩⟩)],12,[],true⟩,[⟨⟨87,0,true⟩,none,(.inRangeFunc 0::(Zg prog 45 [1,1,0,1,0,0,1,1,0,0,1,1,1,0] 1)),none,(Zy prog 45),Yk [(2,(.ptr 1 0)),(3,(.ptr 2 0)),(4,(.ptr 5 0)),(5,(.ptr 6 0)),(6,(.ptr 7 0)),(16,(ii bR))]⟩,(v2r l0 x1)],(z9k [(0,⟨.ready,none,87,Yk [(2,(.ptr 1 0)),(3,(.ptr 2 0)),(4,(.ptr 5 0)),(5,(.ptr 6 0)),(6,(.ptr 7 0)),(7,(.ptr 8 0)),(8,(.ptr 9 0))],[25],(Wq prog 45 [1,1,0,1,0,0,1,1,0,0,1,1,1,0,0]),(Wq prog 45 [1,1,0,1,0,0,1,1,0,0,1,1,1,0,1])⟩)])⟩
 | .h3 v9 v55 v56 v57 bY cJ cK cG aM aP aF aL=>⟨⟨87,0,true⟩,none,(Zg prog 45 [1,1,0,1,0,0,1,1,0,0,1,1,1,0,1,0,1,1,1,1,1,1,0,0] 0),(some 0),[],⟨Yk [(6,(.ptr 7 0)),(7,(.ptr 8 0)),(8,(.ptr 9 0)),(9,(ii v9)),(55,(.dat v55.length (Zz v55))),(56,(ii v56)),(57,(ii v57))],z5j [(1,⟨[(y5v l0 x1)],33,none⟩),(2,x8i),(3,(x2e l0)),(4,⟨[(ii x2)],3,none⟩),(5,⟨[.nils],38,none⟩),(6,⟨[(ii 0)],24,none⟩),(7,⟨[(.sla 11 7 0 aM.length (.un 7))],38,none⟩),(8,⟨[(ii aP)],3,none⟩),(9,⟨[(ii aF)],79,none⟩),(10,⟨Ym aL.length (Zz aL),3,some ⟨1,aL.length,(Zz aL)⟩⟩),(11,⟨Ym aM.length (Zz aM),96,some ⟨7,aM.length,(Zz aM)⟩⟩)],12,[],true⟩,[⟨⟨16,0,true⟩,(Wr prog 152 [1,0,0,1,1,0,0,1,0] 2),(Zg prog 152 [1,0,0,1,1,0,0,1,0] 1),none,[],Yk [(0,(.yld 0)),(5,(.sla 10 1 0 bY (.un 1))),(6,(ii cJ)),(7,(ii cK)),(11,(.yld 0)),(12,(ii v9))]⟩,⟨⟨87,0,true⟩,none,(.inRangeFunc 0::(Zg prog 45 [1,1,0,1,0,0,1,1,0,0,1,1,1,0] 1)),none,(Zy prog 45),Yk [(2,(.ptr 1 0)),(3,(.ptr 2 0)),(4,(.ptr 5 0)),(5,(.ptr 6 0)),(6,(.ptr 7 0)),(16,(ii cG))]⟩,(v2r l0 x1)],(z9k [(0,⟨.busy,none,87,Yk [(2,(.ptr 1 0)),(3,(.ptr 2 0)),(4,(.ptr 5 0)),(5,(.ptr 6 0)),(6,(.ptr 7 0)),(7,(.ptr 8 0)),(8,(.ptr 9 0))],[25],(Wq prog 45 [1,1,0,1,0,0,1,1,0,0,1,1,1,0,0]),(Wq prog 45 [1,1,0,1,0,0,1,1,0,0,1,1,1,0,1])⟩)])⟩
def stpN0 :List (Option (List Nat)):=[some [2,3,4,5,6,16],some [41,42]]
def stpM0 :List (Option (List Nat)):=[]
def stpN1 :List (Option (List Nat)):=[some [2,5,8,9,10],some [2,3,4,5,6,7,8,16,22,23],some [41,42]]
def stpM1 :List (Option (List Nat)):=[]
def stpN2 :List (Option (List Nat)):=[some [0,5,6,7],some [2,3,4,5,6,16],some [41,42]]
def stpM2 :List (Option (List Nat)):=[some [2,3,4,5,6,7,8],none,none,none,none,none,none,none,none,none,none,none]
def j2n :List (Option (List Nat)):=[some [6,7,8,9,55,56,57],some [0,5,6,7,11,12],some [2,3,4,5,6,16],some [41,42]]
def j2o :List (Option (List Nat)):=[some [2,3,4,5,6,7,8],none,none,none,none,none,none,none,none,none,none,none]
def We (l0:List Pa) (x1:Int) (x2:Int):stpS→Xw stpS
 | .h0 v16 aB=>(bif (decide (v16<6)) then (.to (.h1 ([]:List Int) 0 v16 (wrap .i64 (Int.tdiv v16 2)) (wrap .i64 (Int.tdiv v16 2)) aB v16 (wrap .i64 (Int.tdiv v16 2)))) else (bif (decide ((aB.length:Int)>3000)) then (.ret [.nils,(.int .i64 4)]) else (.ret [(.dat aB.length (Zz aB)),(.int .i64 0)])))
 | .h1 v5 v10 bR cD aC aM aP aF=>(bif (decide (v10<(((rd l0 x1.toNat).s.length :Nat):Int))) then (bif ((decide (0≤v10∧v10<(((rd l0 x1.toNat).s.length :Nat):Int)))&&true) then (bif (Ue aC (rd (rd l0 x1.toNat).s v10.toNat).a (rd (rd l0 x1.toNat).s v10.toNat).b (rd (rd l0 x1.toNat).s v10.toNat).c) then (bif (Ue aC (rd (rd l0 x1.toNat).s v10.toNat).d (rd (rd l0 x1.toNat).s v10.toNat).e (rd (rd l0 x1.toNat).s v10.toNat).f) then (bif (Nat.beq 1 1&&((decide (0+v5.length=v5.length))&&decide ((v5.length+2+1)*(8+1)≤Jo))) then (.to (.h1 (v5++[(y1x aC (rd (rd l0 x1.toNat).s v10.toNat).a (rd (rd l0 x1.toNat).s v10.toNat).b (rd (rd l0 x1.toNat).s v10.toNat).c),(y1x aC (rd (rd l0 x1.toNat).s v10.toNat).d (rd (rd l0 x1.toNat).s v10.toNat).e (rd (rd l0 x1.toNat).s v10.toNat).f)]) (wrap .i64 (v10+1)) bR cD aC aM aP aF)) else .stuck) else .stuck) else .stuck) else .stuck) else (bif (decide (v5.length<4611686018427387904)) then (bif (decide (v5.length=v5.length)) then (.to (.h2 (v1y (Yq v5.length (cOf (Zz (Xk (Yq v5.length (cOf (Zz v5)))))))) (((v1y (Yq v5.length (cOf (Zz (Xk (Yq v5.length (cOf (Zz v5)))))))):Nat):Int) 0 bR aM aP aF (Wy (Yq v5.length (cOf (Zz (Xk (Yq v5.length (cOf (Zz v5)))))))))) else .stuck) else .stuck))
 | .h2 cI v6 v7 bR aM aP aF aL=>(bif (decide (v7<v6)) then (bif ((decide (0≤v7∧v7<((cI:Nat):Int)))&&true) then (bif (decide ((0+v7.toNat)<aL.length)) then (bif ((Int.tmod aP 2) == 1) then (bif (Ww aF (cvT (rd l0 x1.toNat).s) (rd aL (0+v7.toNat))) then (bif ((Wj aF (cvT (rd l0 x1.toNat).s) (rd aL (0+v7.toNat))) == 0) then (bif (Ww aF ([(R6.mk (rd l0 x2.toNat).a (rd l0 x2.toNat).b (rd l0 x2.toNat).c (rd l0 x2.toNat).d (rd l0 x2.toNat).e (rd l0 x2.toNat).f)]:List R6) (wrap .i64 ((rd aL (0+v7.toNat)) - 1))) then (bif ((decide (0≤x2∧x2<(l0.length:Int)))&&true) then (bif (Ww aF (cvT (rd l0 x2.toNat).s) (wrap .i64 ((rd aL (0+v7.toNat)) - 1))) then (bif ((Wj aF ([(R6.mk (rd l0 x2.toNat).a (rd l0 x2.toNat).b (rd l0 x2.toNat).c (rd l0 x2.toNat).d (rd l0 x2.toNat).e (rd l0 x2.toNat).f)]:List R6) (wrap .i64 ((rd aL (0+v7.toNat)) - 1))) != 0) then (.ret [.nils,(.int .i64 4)]) else (bif ((Wj aF (cvT (rd l0 x2.toNat).s) (wrap .i64 ((rd aL (0+v7.toNat)) - 1))) != 0) then (.ret [.nils,(.int .i64 4)]) else (bif (Kw .d (cvT (Zd aF ([(R6.mk (rd l0 x2.toNat).a (rd l0 x2.toNat).b (rd l0 x2.toNat).c (rd l0 x2.toNat).d (rd l0 x2.toNat).e (rd l0 x2.toNat).f)]:List R6) (wrap .i64 ((rd aL (0+v7.toNat)) - 1)))) (cvT (Zd aF (cvT (rd l0 x2.toNat).s) (wrap .i64 ((rd aL (0+v7.toNat)) - 1))))) then (bif ((Ko .d (cvT (Zd aF ([(R6.mk (rd l0 x2.toNat).a (rd l0 x2.toNat).b (rd l0 x2.toNat).c (rd l0 x2.toNat).d (rd l0 x2.toNat).e (rd l0 x2.toNat).f)]:List R6) (wrap .i64 ((rd aL (0+v7.toNat)) - 1)))) (cvT (Zd aF (cvT (rd l0 x2.toNat).s) (wrap .i64 ((rd aL (0+v7.toNat)) - 1))))) != 0) then (.ret [.nils,(.int .i64 (Ko .d (cvT (Zd aF ([(R6.mk (rd l0 x2.toNat).a (rd l0 x2.toNat).b (rd l0 x2.toNat).c (rd l0 x2.toNat).d (rd l0 x2.toNat).e (rd l0 x2.toNat).f)]:List R6) (wrap .i64 ((rd aL (0+v7.toNat)) - 1)))) (cvT (Zd aF (cvT (rd l0 x2.toNat).s) (wrap .i64 ((rd aL (0+v7.toNat)) - 1))))))]) else (bif (Kw .e (cvT (Zd aF (cvT (rd l0 x1.toNat).s) (rd aL (0+v7.toNat)))) (cvT (Wg .d (cvT (Zd aF ([(R6.mk (rd l0 x2.toNat).a (rd l0 x2.toNat).b (rd l0 x2.toNat).c (rd l0 x2.toNat).d (rd l0 x2.toNat).e (rd l0 x2.toNat).f)]:List R6) (wrap .i64 ((rd aL (0+v7.toNat)) - 1)))) (cvT (Zd aF (cvT (rd l0 x2.toNat).s) (wrap .i64 ((rd aL (0+v7.toNat)) - 1))))))) then (bif ((Ko .e (cvT (Zd aF (cvT (rd l0 x1.toNat).s) (rd aL (0+v7.toNat)))) (cvT (Wg .d (cvT (Zd aF ([(R6.mk (rd l0 x2.toNat).a (rd l0 x2.toNat).b (rd l0 x2.toNat).c (rd l0 x2.toNat).d (rd l0 x2.toNat).e (rd l0 x2.toNat).f)]:List R6) (wrap .i64 ((rd aL (0+v7.toNat)) - 1)))) (cvT (Zd aF (cvT (rd l0 x2.toNat).s) (wrap .i64 ((rd aL (0+v7.toNat)) - 1))))))) != 0) then (.ret [.nils,(.int .i64 (Ko .e (cvT (Zd aF (cvT (rd l0 x1.toNat).s) (rd aL (0+v7.toNat)))) (cvT (Wg .d (cvT (Zd aF ([(R6.mk (rd l0 x2.toNat).a (rd l0 x2.toNat).b (rd l0 x2.toNat).c (rd l0 x2.toNat).d (rd l0 x2.toNat).e (rd l0 x2.toNat).f)]:List R6) (wrap .i64 ((rd aL (0+v7.toNat)) - 1)))) (cvT (Zd aF (cvT (rd l0 x2.toNat).s) (wrap .i64 ((rd aL (0+v7.toNat)) - 1))))))))]) else (.to (.h3 (rd aL (0+v7.toNat)) (Wg .e (cvT (Zd aF (cvT (rd l0 x1.toNat).s) (rd aL (0+v7.toNat)))) (cvT (Wg .d (cvT (Zd aF ([(R6.mk (rd l0 x2.toNat).a (rd l0 x2.toNat).b (rd l0 x2.toNat).c (rd l0 x2.toNat).d (rd l0 x2.toNat).e (rd l0 x2.toNat).f)]:List R6) (wrap .i64 ((rd aL (0+v7.toNat)) - 1)))) (cvT (Zd aF (cvT (rd l0 x2.toNat).s) (wrap .i64 ((rd aL (0+v7.toNat)) - 1))))))) (((Wg .e (cvT (Zd aF (cvT (rd l0 x1.toNat).s) (rd aL (0+v7.toNat)))) (cvT (Wg .d (cvT (Zd aF ([(R6.mk (rd l0 x2.toNat).a (rd l0 x2.toNat).b (rd l0 x2.toNat).c (rd l0 x2.toNat).d (rd l0 x2.toNat).e (rd l0 x2.toNat).f)]:List R6) (wrap .i64 ((rd aL (0+v7.toNat)) - 1)))) (cvT (Zd aF (cvT (rd l0 x2.toNat).s) (wrap .i64 ((rd aL (0+v7.toNat)) - 1))))))).length :Nat):Int) 0 cI v6 v7 bR aM aP aF aL))) else .stuck)) else .stuck))) else .stuck) else .stuck) else .stuck) else (.ret [.nils,(.int .i64 (Wj aF (cvT (rd l0 x1.toNat).s) (rd aL (0+v7.toNat))))])) else .stuck) else (bif (Ww aF (cvT (rd l0 x1.toNat).s) (wrap .i64 ((rd aL (0+v7.toNat)) - 1))) then (bif ((Wj aF (cvT (rd l0 x1.toNat).s) (wrap .i64 ((rd aL (0+v7.toNat)) - 1))) == 0) then (bif (Ww aF ([(R6.mk (rd l0 x2.toNat).a (rd l0 x2.toNat).b (rd l0 x2.toNat).c (rd l0 x2.toNat).d (rd l0 x2.toNat).e (rd l0 x2.toNat).f)]:List R6) (rd aL (0+v7.toNat))) then (bif ((decide (0≤x2∧x2<(l0.length:Int)))&&true) then (bif (Ww aF (cvT (rd l0 x2.toNat).s) (rd aL (0+v7.toNat))) then (bif ((Wj aF ([(R6.mk (rd l0 x2.toNat).a (rd l0 x2.toNat).b (rd l0 x2.toNat).c (rd l0 x2.toNat).d (rd l0 x2.toNat).e (rd l0 x2.toNat).f)]:List R6) (rd aL (0+v7.toNat))) != 0) then (.ret [.nils,(.int .i64 4)]) else (bif ((Wj aF (cvT (rd l0 x2.toNat).s) (rd aL (0+v7.toNat))) != 0) then (.ret [.nils,(.int .i64 4)]) else (bif (Kw .d (cvT (Zd aF ([(R6.mk (rd l0 x2.toNat).a (rd l0 x2.toNat).b (rd l0 x2.toNat).c (rd l0 x2.toNat).d (rd l0 x2.toNat).e (rd l0 x2.toNat).f)]:List R6) (rd aL (0+v7.toNat)))) (cvT (Zd aF (cvT (rd l0 x2.toNat).s) (rd aL (0+v7.toNat))))) then (bif ((Ko .d (cvT (Zd aF ([(R6.mk (rd l0 x2.toNat).a (rd l0 x2.toNat).b (rd l0 x2.toNat).c (rd l0 x2.toNat).d (rd l0 x2.toNat).e (rd l0 x2.toNat).f)]:List R6) (rd aL (0+v7.toNat)))) (cvT (Zd aF (cvT (rd l0 x2.toNat).s) (rd aL (0+v7.toNat))))) != 0) then (.ret [.nils,(.int .i64 (Ko .d (cvT (Zd aF ([(R6.mk (rd l0 x2.toNat).a (rd l0 x2.toNat).b (rd l0 x2.toNat).c (rd l0 x2.toNat).d (rd l0 x2.toNat).e (rd l0 x2.toNat).f)]:List R6) (rd aL (0+v7.toNat)))) (cvT (Zd aF (cvT (rd l0 x2.toNat).s) (rd aL (0+v7.toNat))))))]) else (bif (Kw .e (cvT (Zd aF (cvT (rd l0 x1.toNat).s) (wrap .i64 ((rd aL (0+v7.toNat)) - 1)))) (cvT (Wg .d (cvT (Zd aF ([(R6.mk (rd l0 x2.toNat).a (rd l0 x2.toNat).b (rd l0 x2.toNat).c (rd l0 x2.toNat).d (rd l0 x2.toNat).e (rd l0 x2.toNat).f)]:List R6) (rd aL (0+v7.toNat)))) (cvT (Zd aF (cvT (rd l0 x2.toNat).s) (rd aL (0+v7.toNat))))))) then (bif ((Ko .e (cvT (Zd aF (cvT (rd l0 x1.toNat).s) (wrap .i64 ((rd aL (0+v7.toNat)) - 1)))) (cvT (Wg .d (cvT (Zd aF ([(R6.mk (rd l0 x2.toNat).a (rd l0 x2.toNat).b (rd l0 x2.toNat).c (rd l0 x2.toNat).d (rd l0 x2.toNat).e (rd l0 x2.toNat).f)]:List R6) (rd aL (0+v7.toNat)))) (cvT (Zd aF (cvT (rd l0 x2.toNat).s) (rd aL (0+v7.toNat))))))) != 0) then (.ret [.nils,(.int .i64 (Ko .e (cvT (Zd aF (cvT (rd l0 x1.toNat).s) (wrap .i64 ((rd aL (0+v7.toNat)) - 1)))) (cvT (Wg .d (cvT (Zd aF ([(R6.mk (rd l0 x2.toNat).a (rd l0 x2.toNat).b (rd l0 x2.toNat).c (rd l0 x2.toNat).d (rd l0 x2.toNat).e (rd l0 x2.toNat).f)]:List R6) (rd aL (0+v7.toNat)))) (cvT (Zd aF (cvT (rd l0 x2.toNat).s) (rd aL (0+v7.toNat))))))))]) else (.to (.h3 (rd aL (0+v7.toNat)) (Wg .e (cvT (Zd aF (cvT (rd l0 x1.toNat).s) (wrap .i64 ((rd aL (0+v7.toNat)) - 1)))) (cvT (Wg .d (cvT (Zd aF ([(R6.mk (rd l0 x2.toNat).a (rd l0 x2.toNat).b (rd l0 x2.toNat).c (rd l0 x2.toNat).d (rd l0 x2.toNat).e (rd l0 x2.toNat).f)]:List R6) (rd aL (0+v7.toNat)))) (cvT (Zd aF (cvT (rd l0 x2.toNat).s) (rd aL (0+v7.toNat))))))) (((Wg .e (cvT (Zd aF (cvT (rd l0 x1.toNat).s) (wrap .i64 ((rd aL (0+v7.toNat)) - 1)))) (cvT (Wg .d (cvT (Zd aF ([(R6.mk (rd l0 x2.toNat).a (rd l0 x2.toNat).b (rd l0 x2.toNat).c (rd l0 x2.toNat).d (rd l0 x2.toNat).e (rd l0 x2.toNat).f)]:List R6) (rd aL (0+v7.toNat)))) (cvT (Zd aF (cvT (rd l0 x2.toNat).s) (rd aL (0+v7.toNat))))))).length :Nat):Int) 0 cI v6 v7 bR aM aP aF aL))) else .stuck)) else .stuck))) else .stuck) else .stuck) else .stuck) else (.ret [.nils,(.int .i64 (Wj aF (cvT (rd l0 x1.toNat).s) (wrap .i64 ((rd aL (0+v7.toNat)) - 1))))])) else .stuck)) else .stuck) else .stuck) else (.to (.h0 (wrap .i64 (bR+1)) aM)))
 | .h3 v9 v55 v56 v57 bY cJ cK cG aM aP aF aL=>(bif (decide (v57<v56)) then (bif ((decide (0≤v57∧v57<(v55.length:Int)))&&true) then (bif (Kr aF v9 (rd v55 v57.toNat).a (rd v55 v57.toNat).b) then (bif (Kr aF v9 (rd v55 v57.toNat).c (rd v55 v57.toNat).d) then (bif (Nat.beq 7 7&&((decide (0+aM.length=aM.length))&&decide ((aM.length+1+1)*(56+1)≤Jo))) then (.to (.h3 v9 v55 v56 (wrap .i64 (v57+1)) bY cJ cK cG (aM++[(R7.mk (wrap IntKind.u8 aP) (z3d aF v9 (rd v55 v57.toNat).a (rd v55 v57.toNat).b).a (z3d aF v9 (rd v55 v57.toNat).a (rd v55 v57.toNat).b).b (z3d aF v9 (rd v55 v57.toNat).a (rd v55 v57.toNat).b).c (z3d aF v9 (rd v55 v57.toNat).c (rd v55 v57.toNat).d).a (z3d aF v9 (rd v55 v57.toNat).c (rd v55 v57.toNat).d).b (z3d aF v9 (rd v55 v57.toNat).c (rd v55 v57.toNat).d).c)]) aP aF aL)) else .stuck) else .stuck) else .stuck) else .stuck) else (.to (.h2 bY cJ (wrap .i64 (cK+1)) cG aM aP aF aL)))
def y3q (l0:List Pa) (x1:Int) (x2:Int):Xw stpS:=(bif (Uu (cvT l0)) then (bif ((z0c (cvT l0)) != 0) then (.ret [.nils,(.int .i64 (z0c (cvT l0)))]) else (bif (decide (x1<0)) then (.ret [.nils,(.int .i64 2)]) else (bif (decide (x1≥(l0.length:Int))) then (.ret [.nils,(.int .i64 2)]) else (bif (decide (x2<0)) then (.ret [.nils,(.int .i64 2)]) else (bif (decide (x2≥(l0.length:Int))) then (.ret [.nils,(.int .i64 2)]) else (bif (x1 == x2) then (.ret [.nils,(.int .i64 2)]) else (bif ((decide (0≤x1∧x1<(l0.length:Int)))&&true) then (.to (.h0 0 ([]:List R7))) else .stuck))))))) else .stuck)
theorem w7i (l0:List Pa) (x1:Int) (x2:Int): ∀s,Xv prog (Zy prog 18) (stpC l0 x1 x2) (stpC l0 x1 x2 s) (We l0 x1 x2 s)
 | .h0 v16 aB=>(lb (fun k0=>(sl Xx 46 [(3,1,Zz ([]:List Int))] ⟨[10,0,1,2,3,4,5,6,8,9,11,7],[],stpN1,stpM1⟩ ⟨[(5,.grow 10 1)],[],[]⟩ [true] (pp (fl ([]:List Int) (fl aB nn)) (tt k0 nn)))) (fun k0=>(lb (fun k1=>(lr 46 3 [1,1,1,1,0] 1 10 [(6,.nils),(7,(ii 4))] (sl Xx 26 [] ⟨[],[],[some [6,7]],[]⟩ ⟨[],[],[]⟩ (bl 2 2) (tt k1 (tt k0 nn))))) (fun k1=>(lr 46 3 [1,1,1,1,0] 1 10 [(6,(.dat aB.length (Zz aB))),(7,(ii 0))] (sl Xx 28 [] ⟨[],[7],[some [6,7]],[]⟩ ⟨[(6,.frz aB.length aB.length (Zz aB) (Zz aB))],[],[]⟩ (bl 2 0) (pp (xZ (z4o 7 7 0 aB.length aB.length (Zz aB)) aB.length (Zz aB)) (pp (xL aB.length aB.length) (pp (xS aB.length (Zz aB) (Zz aB)) (pp (fl aB nn) (tt k1 (tt k0 nn))))))))))))
 | .h1 v5 v10 bR cD aC aM aP aF=>(lb (fun k0=>(lo fun o0=>(lo fun o1=>(lo fun o2=>(lo fun o3=>(sl Xx 23 [] ⟨[0,1,2,3,4,5,6,7,8,9,14,11],[],stpN1,stpM1⟩ ⟨[(5,.len (y9m v5 aC l0 x1 v10).length)],(kpB 10 [.rowed 1 (y9m v5 aC l0 x1 v10).length (Zz (y9m v5 aC l0 x1 v10)),.keep]),[]⟩ [true] (pp (xL (v5.length+2) (y9m v5 aC l0 x1 v10).length) (pp (xL (v5.length+2) (y9m v5 aC l0 x1 v10).length) (pp (xS (v5.length+2) (u6r v5 aC l0 x1 v10) (Zz (y9m v5 aC l0 x1 v10))) (pp (pp (xF (u6r v5 aC l0 x1 v10)) (fl aM nn)) (ww o3 (ww o2 (ww o1 (ww o0 (tt k0 nn))))))))))))))) (fun k0=>(lo fun o0=>(lo fun o1=>(sl Xx 42 [] ⟨[13,1,2,3,4,5,6,7,8,9,10,11],[],stpN2,stpM2⟩ ⟨[],(kpB 10 [.rowed 1 (y9l v5).length (Zz (y9l v5)),.keep]),[]⟩ [false] (pp (xL v5.length (y9l v5).length (by first | exact z1d _ _ | exact Vo rfl)) (pp (xS v5.length (Zz (y9l v5)) (Zz (y9l v5))) (pp (fl (y9l v5) (fl aM nn)) (pp (pp (xG (Nat.beq 1 1)) (pp (xG (Nat.beq 1 1)) (pp (xG (Nat.beq 0 0)) (pp (xG (decide (v5.length=v5.length))) (pp (xG (isI (Zz (Xk (Yq v5.length (cOf (Zz v5))))))) (xG (decide (v5.length<4611686018427387904)))))))) (pp (pp (xG (Nat.beq 1 1)) (pp (xG (Nat.beq 1 1)) (pp (xG (Nat.beq 0 0)) (pp (xG (decide (v5.length=v5.length))) (pp (xG (isI (Zz v5))) (xG (decide (v5.length<4611686018427387904)))))))) (tt k0 nn)))))))))))
 | .h2 cI v6 v7 bR aM aP aF aL=>(lb (fun k0=>(lo fun aI=>(lo fun bG=>(lb (fun k1=>(lo fun bX=>(lb (fun k2=>(lo fun cA=>(lo fun cM=>(lo fun dD=>(lb (fun k3=>(lr 46 3 [1,1,1,1,0] 1 10 [(6,.nils),(7,(ii 4))] (sl Xx 131 [] ⟨[],[],[some [6,7]],[]⟩ ⟨[],[],[]⟩ (trs 8 []) (tt k3 (pp (pp (xI R6 (rd l0 (tn x2)).s.length (z2j l0 x2)) (xw dD)) (ww cM (pp (pp (xI R6 1 (fun k=>([(ii (rd l0 (tn x2)).a),(ii (rd l0 (tn x2)).b),(ii (rd l0 (tn x2)).c),(ii (rd l0 (tn x2)).d),(ii (rd l0 (tn x2)).e),(ii (rd l0 (tn x2)).f)].drop (k*6)).take 6)) (xw cA)) (ww cM (tt k2 (pp (pp (xI R6 (rd l0 (tn x1)).s.length (z0e l0 x1)) (xw bX)) (tt k1 (ww bG (ww aI (tt k0 nn)))))))))))))) (fun k3=>(lb (fun k4=>(lr 46 3 [1,1,1,1,0] 1 10 [(6,.nils),(7,(ii 4))] (sl Xx 131 [] ⟨[],[],[some [6,7]],[]⟩ ⟨[],[],[]⟩ (trs 3 (bl 5 28)) (tt k4 (tt k3 (pp (pp (xI R6 (rd l0 (tn x2)).s.length (z2j l0 x2)) (xw dD)) (ww cM (pp (pp (xI R6 1 (fun k=>([(ii (rd l0 (tn x2)).a),(ii (rd l0 (tn x2)).b),(ii (rd l0 (tn x2)).c),(ii (rd l0 (tn x2)).d),(ii (rd l0 (tn x2)).e),(ii (rd l0 (tn x2)).f)].drop (k*6)).take 6)) (xw cA)) (ww cM (tt k2 (pp (pp (xI R6 (rd l0 (tn x1)).s.length (z0e l0 x1)) (xw bX)) (tt k1 (ww bG (ww aI (tt k0 nn))))))))))))))) (fun k4=>(lo fun cL=>(lb (fun k5=>(lr 46 3 [1,1,1,1,0] 1 10 [(6,.nils),(7,(ii (Ko .d (cvT (Zd aF ([(Ur l0 x2)]:List R6) (wr (Ui aL v7)))) (cvT (z4j aF l0 x2 aL v7)))))] (sl Xx 151 [] ⟨[],[],[some [6,7]],[]⟩ ⟨[],[],[]⟩ (trs 3 (bl 6 56)) (tt k5 (tt k5 (pp (pp (xI R4 (Zd aF ([(Ur l0 x2)]:List R6) (wr (Ui aL v7))).length (Zz (Zd aF ([(Ur l0 x2)]:List R6) (wr (Ui aL v7))))) (pp (xI R4 (z4j aF l0 x2 aL v7).length (Zz (z4j aF l0 x2 aL v7))) (xw cL))) (tt k4 (tt k3 (pp (pp (xI R6 (rd l0 (tn x2)).s.length (z2j l0 x2)) (xw dD)) (ww cM (pp (pp (xI R6 1 (fun k=>([(ii (rd l0 (tn x2)).a),(ii (rd l0 (tn x2)).b),(ii (rd l0 (tn x2)).c),(ii (rd l0 (tn x2)).d),(ii (rd l0 (tn x2)).e),(ii (rd l0 (tn x2)).f)].drop (k*6)).take 6)) (xw cA)) (ww cM (tt k2 (pp (pp (xI R6 (rd l0 (tn x1)).s.length (z0e l0 x1)) (xw bX)) (tt k1 (ww bG (ww aI (tt k0 nn)))))))))))))))))) (fun k5=>(lo fun dG=>(lb (fun k6=>(lr 46 3 [1,1,1,1,0] 1 10 [(6,.nils),(7,(ii (Ko .e (cvT (Zd aF (z0d l0 x1) (Jt aL v7))) (cvT (Wg .d (cvT (Zd aF ([(Ur l0 x2)]:List R6) (wr (Ui aL v7)))) (cvT (z4j aF l0 x2 aL v7)))))))] (sl Xx 156 [] ⟨[],[],[some [6,7]],[]⟩ ⟨[],[],[]⟩ (trs 3 (bl 6 48)) (tt k6 (pp (pp (xI R4 (Zd aF (z0d l0 x1) (Jt aL v7)).length (Zz (Zd aF (z0d l0 x1) (Jt aL v7)))) (pp (xI R4 (Wg .d (cvT (Zd aF ([(Ur l0 x2)]:List R6) (wr (Ui aL v7)))) (cvT (z4j aF l0 x2 aL v7))).length (Zz (Wg .d (cvT (Zd aF ([(Ur l0 x2)]:List R6) (wr (Ui aL v7)))) (cvT (z4j aF l0 x2 aL v7))))) (xw dG))) (tt k5 (pp (pp (xI R4 (Zd aF ([(Ur l0 x2)]:List R6) (wr (Ui aL v7))).length (Zz (Zd aF ([(Ur l0 x2)]:List R6) (wr (Ui aL v7))))) (pp (xI R4 (z4j aF l0 x2 aL v7).length (Zz (z4j aF l0 x2 aL v7))) (xw cL))) (tt k4 (tt k3 (pp (pp (xI R6 (rd l0 (tn x2)).s.length (z2j l0 x2)) (xw dD)) (ww cM (pp (pp (xI R6 1 (fun k=>([(ii (rd l0 (tn x2)).a),(ii (rd l0 (tn x2)).b),(ii (rd l0 (tn x2)).c),(ii (rd l0 (tn x2)).d),(ii (rd l0 (tn x2)).e),(ii (rd l0 (tn x2)).f)].drop (k*6)).take 6)) (xw cA)) (ww cM (tt k2 (pp (pp (xI R6 (rd l0 (tn x1)).s.length (z0e l0 x1)) (xw bX)) (tt k1 (ww bG (ww aI (tt k0 nn))))))))))))))))))) (fun k6=>(sl Xx 147 [] ⟨(List.range 12),[],j2n,j2o⟩ ⟨[],[],[]⟩ (trs 3 (bl 5 0)) (pp (fl aL (fl aM nn)) (tt k6 (pp (pp (xI R4 (Zd aF (z0d l0 x1) (Jt aL v7)).length (Zz (Zd aF (z0d l0 x1) (Jt aL v7)))) (pp (xI R4 (Wg .d (cvT (Zd aF ([(Ur l0 x2)]:List R6) (wr (Ui aL v7)))) (cvT (z4j aF l0 x2 aL v7))).length (Zz (Wg .d (cvT (Zd aF ([(Ur l0 x2)]:List R6) (wr (Ui aL v7)))) (cvT (z4j aF l0 x2 aL v7))))) (xw dG))) (tt k5 (pp (pp (xI R4 (Zd aF ([(Ur l0 x2)]:List R6) (wr (Ui aL v7))).length (Zz (Zd aF ([(Ur l0 x2)]:List R6) (wr (Ui aL v7))))) (pp (xI R4 (z4j aF l0 x2 aL v7).length (Zz (z4j aF l0 x2 aL v7))) (xw cL))) (tt k4 (tt k3 (pp (pp (xI R6 (rd l0 (tn x2)).s.length (z2j l0 x2)) (xw dD)) (ww cM (pp (pp (xI R6 1 (fun k=>([(ii (rd l0 (tn x2)).a),(ii (rd l0 (tn x2)).b),(ii (rd l0 (tn x2)).c),(ii (rd l0 (tn x2)).d),(ii (rd l0 (tn x2)).e),(ii (rd l0 (tn x2)).f)].drop (k*6)).take 6)) (xw cA)) (ww cM (tt k2 (pp (pp (xI R6 (rd l0 (tn x1)).s.length (z0e l0 x1)) (xw bX)) (tt k1 (ww bG (ww aI (tt k0 nn)))))))))))))))))))))))))))))))) (fun k2=>(lr 46 3 [1,1,1,1,0] 1 10 [(6,.nils),(7,(ii (Wj aF (z0d l0 x1) (Jt aL v7))))] (sl Xx 93 [] ⟨[],[],[some [6,7]],[]⟩ ⟨[],[],[]⟩ (bl 5 27) (yt (v1e k2) (tt k2 (pp (pp (xI R6 (rd l0 (tn x1)).s.length (z0e l0 x1)) (xw bX)) (tt k1 (ww bG (ww aI (tt k0 nn))))))))))))) (fun k1=>(lo fun bX=>(lb (fun k2=>(lo fun cA=>(lo fun cM=>(lo fun dD=>(lb (fun k3=>(lr 46 3 [1,1,1,1,0] 1 10 [(6,.nils),(7,(ii 4))] (sl Xx 125 [] ⟨[],[],[some [6,7]],[]⟩ ⟨[],[],[]⟩ (bl 8 253) (tt k3 (pp (pp (xI R6 (rd l0 (tn x2)).s.length (z2j l0 x2)) (xw dD)) (ww cM (pp (pp (xI R6 1 (fun k=>([(ii (rd l0 (tn x2)).a),(ii (rd l0 (tn x2)).b),(ii (rd l0 (tn x2)).c),(ii (rd l0 (tn x2)).d),(ii (rd l0 (tn x2)).e),(ii (rd l0 (tn x2)).f)].drop (k*6)).take 6)) (xw cA)) (ww cM (tt k2 (pp (pp (xI R6 (rd l0 (tn x1)).s.length (z0e l0 x1)) (xw bX)) (tt k1 (ww bG (ww aI (tt k0 nn)))))))))))))) (fun k3=>(lb (fun k4=>(lr 46 3 [1,1,1,1,0] 1 10 [(6,.nils),(7,(ii 4))] (sl Xx 125 [] ⟨[],[],[some [6,7]],[]⟩ ⟨[],[],[]⟩ (bl 8 229) (tt k4 (tt k3 (pp (pp (xI R6 (rd l0 (tn x2)).s.length (z2j l0 x2)) (xw dD)) (ww cM (pp (pp (xI R6 1 (fun k=>([(ii (rd l0 (tn x2)).a),(ii (rd l0 (tn x2)).b),(ii (rd l0 (tn x2)).c),(ii (rd l0 (tn x2)).d),(ii (rd l0 (tn x2)).e),(ii (rd l0 (tn x2)).f)].drop (k*6)).take 6)) (xw cA)) (ww cM (tt k2 (pp (pp (xI R6 (rd l0 (tn x1)).s.length (z0e l0 x1)) (xw bX)) (tt k1 (ww bG (ww aI (tt k0 nn))))))))))))))) (fun k4=>(lo fun cL=>(lb (fun k5=>(lr 46 3 [1,1,1,1,0] 1 10 [(6,.nils),(7,(ii (Ko .d (cvT (Zd aF ([(Ur l0 x2)]:List R6) (Jt aL v7))) (cvT (z4i aF l0 x2 aL v7)))))] (sl Xx 145 [] ⟨[],[],[some [6,7]],[]⟩ ⟨[],[],[]⟩ (bl 9 453) (tt k5 (tt k5 (pp (pp (xI R4 (Zd aF ([(Ur l0 x2)]:List R6) (Jt aL v7)).length (Zz (Zd aF ([(Ur l0 x2)]:List R6) (Jt aL v7)))) (pp (xI R4 (z4i aF l0 x2 aL v7).length (Zz (z4i aF l0 x2 aL v7))) (xw cL))) (tt k4 (tt k3 (pp (pp (xI R6 (rd l0 (tn x2)).s.length (z2j l0 x2)) (xw dD)) (ww cM (pp (pp (xI R6 1 (fun k=>([(ii (rd l0 (tn x2)).a),(ii (rd l0 (tn x2)).b),(ii (rd l0 (tn x2)).c),(ii (rd l0 (tn x2)).d),(ii (rd l0 (tn x2)).e),(ii (rd l0 (tn x2)).f)].drop (k*6)).take 6)) (xw cA)) (ww cM (tt k2 (pp (pp (xI R6 (rd l0 (tn x1)).s.length (z0e l0 x1)) (xw bX)) (tt k1 (ww bG (ww aI (tt k0 nn)))))))))))))))))) (fun k5=>(lo fun dG=>(lb (fun k6=>(lr 46 3 [1,1,1,1,0] 1 10 [(6,.nils),(7,(ii (Ko .e (cvT (Zd aF (z0d l0 x1) (wr (Ui aL v7)))) (cvT (Wg .d (cvT (Zd aF ([(Ur l0 x2)]:List R6) (Jt aL v7))) (cvT (z4i aF l0 x2 aL v7)))))))] (sl Xx 150 [] ⟨[],[],[some [6,7]],[]⟩ ⟨[],[],[]⟩ (bl 9 389) (tt k6 (pp (pp (xI R4 (Zd aF (z0d l0 x1) (wr (Ui aL v7))).length (Zz (Zd aF (z0d l0 x1) (wr (Ui aL v7))))) (pp (xI R4 (Wg .d (cvT (Zd aF ([(Ur l0 x2)]:List R6) (Jt aL v7))) (cvT (z4i aF l0 x2 aL v7))).length (Zz (Wg .d (cvT (Zd aF ([(Ur l0 x2)]:List R6) (Jt aL v7))) (cvT (z4i aF l0 x2 aL v7))))) (xw dG))) (tt k5 (pp (pp (xI R4 (Zd aF ([(Ur l0 x2)]:List R6) (Jt aL v7)).length (Zz (Zd aF ([(Ur l0 x2)]:List R6) (Jt aL v7)))) (pp (xI R4 (z4i aF l0 x2 aL v7).length (Zz (z4i aF l0 x2 aL v7))) (xw cL))) (tt k4 (tt k3 (pp (pp (xI R6 (rd l0 (tn x2)).s.length (z2j l0 x2)) (xw dD)) (ww cM (pp (pp (xI R6 1 (fun k=>([(ii (rd l0 (tn x2)).a),(ii (rd l0 (tn x2)).b),(ii (rd l0 (tn x2)).c),(ii (rd l0 (tn x2)).d),(ii (rd l0 (tn x2)).e),(ii (rd l0 (tn x2)).f)].drop (k*6)).take 6)) (xw cA)) (ww cM (tt k2 (pp (pp (xI R6 (rd l0 (tn x1)).s.length (z0e l0 x1)) (xw bX)) (tt k1 (ww bG (ww aI (tt k0 nn))))))))))))))))))) (fun k6=>(sl Xx 141 [] ⟨(List.range 12),[],j2n,j2o⟩ ⟨[],[],[]⟩ (bl 8 5) (pp (fl aL (fl aM nn)) (tt k6 (pp (pp (xI R4 (Zd aF (z0d l0 x1) (wr (Ui aL v7))).length (Zz (Zd aF (z0d l0 x1) (wr (Ui aL v7))))) (pp (xI R4 (Wg .d (cvT (Zd aF ([(Ur l0 x2)]:List R6) (Jt aL v7))) (cvT (z4i aF l0 x2 aL v7))).length (Zz (Wg .d (cvT (Zd aF ([(Ur l0 x2)]:List R6) (Jt aL v7))) (cvT (z4i aF l0 x2 aL v7))))) (xw dG))) (tt k5 (pp (pp (xI R4 (Zd aF ([(Ur l0 x2)]:List R6) (Jt aL v7)).length (Zz (Zd aF ([(Ur l0 x2)]:List R6) (Jt aL v7)))) (pp (xI R4 (z4i aF l0 x2 aL v7).length (Zz (z4i aF l0 x2 aL v7))) (xw cL))) (tt k4 (tt k3 (pp (pp (xI R6 (rd l0 (tn x2)).s.length (z2j l0 x2)) (xw dD)) (ww cM (pp (pp (xI R6 1 (fun k=>([(ii (rd l0 (tn x2)).a),(ii (rd l0 (tn x2)).b),(ii (rd l0 (tn x2)).c),(ii (rd l0 (tn x2)).d),(ii (rd l0 (tn x2)).e),(ii (rd l0 (tn x2)).f)].drop (k*6)).take 6)) (xw cA)) (ww cM (tt k2 (pp (pp (xI R6 (rd l0 (tn x1)).s.length (z0e l0 x1)) (xw bX)) (tt k1 (ww bG (ww aI (tt k0 nn)))))))))))))))))))))))))))))))) (fun k2=>(lr 46 3 [1,1,1,1,0] 1 10 [(6,.nils),(7,(ii (Wj aF (z0d l0 x1) (wr (Ui aL v7)))))] (sl Xx 87 [] ⟨[],[],[some [6,7]],[]⟩ ⟨[],[],[]⟩ (bl 5 25) (yt (v1e k2) (tt k2 (pp (pp (xI R6 (rd l0 (tn x1)).s.length (z0e l0 x1)) (xw bX)) (tt k1 (ww bG (ww aI (tt k0 nn))))))))))))))))) (fun k0=>(sl Xx 16 [] ⟨[1,2,3,4,5,6,7,11],[],stpN0,stpM0⟩ ⟨[],[],[]⟩ [false] (pp (fl aM nn) (tt k0 nn)))))
 | .h3 v9 v55 v56 v57 bY cJ cK cG aM aP aF aL=>(lb (fun k0=>(lo fun o0=>(lo fun o1=>(lo fun o2=>(lo fun o3=>(sl Xx 23 [] ⟨[0,1,2,3,4,5,6,7,8,9,10,14],[],j2n,j2o⟩ ⟨[],(kpB 7 [.cells [.len (y9n aM aP aF v9 v55 v57).length],.keep,.keep,.keep,.rowed 7 (y9n aM aP aF v9 v55 v57).length (Zz (y9n aM aP aF v9 v55 v57))]),[]⟩ [true] (pp (xL (aM.length+1) (y9n aM aP aF v9 v55 v57).length) (pp (xL (aM.length+1) (y9n aM aP aF v9 v55 v57).length) (pp (xS (aM.length+1) (Zr (Zz aM) 0 aM.length 7 [(.int .u8 (wrap IntKind.u8 aP)),(ii (y0s aF v9 v55 v57).a),(ii (y0s aF v9 v55 v57).b),(ii (y0s aF v9 v55 v57).c),(ii (y0r aF v9 v55 v57).a),(ii (y0r aF v9 v55 v57).b),(ii (y0r aF v9 v55 v57).c)]) (Zz (y9n aM aP aF v9 v55 v57))) (pp (fl aL (pp (xF (Zr (Zz aM) 0 aM.length 7 [(.int .u8 (wrap IntKind.u8 aP)),(ii (y0s aF v9 v55 v57).a),(ii (y0s aF v9 v55 v57).b),(ii (y0s aF v9 v55 v57).c),(ii (y0r aF v9 v55 v57).a),(ii (y0r aF v9 v55 v57).b),(ii (y0r aF v9 v55 v57).c)])) nn)) (ww o3 (ww o2 (ww o1 (ww o0 (tt k0 nn))))))))))))))) (fun k0=>(sl Xx 19 [] ⟨(List.range 12),[],stpN2,stpM2⟩ ⟨[],[],[]⟩ (bl 2 0) (pp (fl aL (fl aM nn)) (tt k0 nn)))))
theorem x8g (l0:List Pa) (x1:Int) (x2:Int):Xv prog (Zy prog 18) (stpC l0 x1 x2) (Za prog 18 [(.dat l0.length (Zz l0)),(.int .i64 x1),(.int .i64 x2)] true []) (y3q l0 x1 x2):=(lo fun bP=>(lb (fun k0=>(lr 46 18 [1,0,1,1,0,0] 1 10 [(6,.nils),(7,(ii (z0c (cvT l0))))] (sl Xx 26 [] ⟨[],[],[some [6,7]],[]⟩ ⟨[],[],[]⟩ [true] (tt k0 (pp (pp (xr l0) (xw bP)) nn))))) (fun k0=>(lb (fun k1=>(lr 46 18 [1,1,0,1,0,0] 1 10 [(6,.nils),(7,(ii 2))] (sl Xx 54 [] ⟨[],[],[some [6,7]],[]⟩ ⟨[],[],[]⟩ [false,true,true,true,true,true,true,true,true,true,true,true,true,true,true] (tt k1 (tt k0 (pp (pp (xr l0) (xw bP)) nn)))))) (fun k1=>(lb (fun k2=>(lr 46 18 [1,1,0,1,0,0] 1 10 [(6,.nils),(7,(ii 2))] (sl Xx 54 [] ⟨[],[],[some [6,7]],[]⟩ ⟨[],[],[]⟩ [false,false,false,false,false,true,true,true,true,true,true,true,true,true,true] (tt k2 (tt k1 (tt k0 (pp (pp (xr l0) (xw bP)) nn))))))) (fun k2=>(lb (fun k3=>(lr 46 18 [1,1,0,1,0,0] 1 10 [(6,.nils),(7,(ii 2))] (sl Xx 54 [] ⟨[],[],[some [6,7]],[]⟩ ⟨[],[],[]⟩ [false,false,false,false,false,false,false,true,true,true,true,true,true,true,true] (tt k3 (tt k2 (tt k1 (tt k0 (pp (pp (xr l0) (xw bP)) nn)))))))) (fun k3=>(lb (fun k4=>(lr 46 18 [1,1,0,1,0,0] 1 10 [(6,.nils),(7,(ii 2))] (sl Xx 54 [] ⟨[],[],[some [6,7]],[]⟩ ⟨[],[],[]⟩ [false,false,false,false,false,false,false,false,false,false,false,true,true,true,true] (tt k4 (tt k3 (tt k2 (tt k1 (tt k0 (pp (pp (xr l0) (xw bP)) nn))))))))) (fun k4=>(lb (fun k5=>(lr 46 18 [1,1,0,1,0,0] 1 10 [(6,.nils),(7,(ii 2))] (sl Xx 54 [] ⟨[],[],[some [6,7]],[]⟩ ⟨[],[],[]⟩ [false,false,false,false,false,false,false,false,false,false,false,false,false,false,true] (tt k5 (tt k4 (tt k3 (tt k2 (tt k1 (tt k0 (pp (pp (xr l0) (xw bP)) nn)))))))))) (fun k5=>(lo fun o0=>(sl Xx 77 [(96,7,Zz ([]:List R7))] ⟨[2,3,0,1,4,5,6,7],[],stpN0,stpM0⟩ ⟨[],(kpB 6 [.cells [.grow 7 7],.keep]),[]⟩ [false,false,false,false,false,false,false,false,false,false,false,false,false,false,false] (pp (fl ([]:List R7) nn) (ww o0 (tt k5 (tt k4 (tt k3 (tt k2 (tt k1 (tt k0 (pp (pp (xr l0) (xw bP)) nn))))))))))))))))))))))))
theorem u0j (l0:List Pa) (x1:Int) (x2:Int) (n:Nat) (vs:List AVal) (h:Zt (We l0 x1 x2) n (y3q l0 x1 x2)=.ret vs):Uv prog (Zy prog 18) (Za prog 18 [(.dat l0.length (Zz l0)),(.int .i64 x1),(.int .i64 x2)] true []) vs:=by have:=Ze (w7i l0 x1 x2) n _ (x8g l0 x1 x2);rwa [h] at this
theorem j3e (q:Op) (a b:List R6):(Qz q a b).length ≤400:=by
 unfold Qz y7s;rcases Yw (slE q a b != 0) with g | g
 ·grind
 ·rw [g,Aa];have h:slE q a b=0:=by simpa using g
  unfold slE at h;rcases Yw (Zh a != 0) with g1 | g1
  ·grind
  rcases Yw (Zh b != 0) with g2 | g2
  ·grind
  rw [g1,g2,Aa,Aa] at h;unfold eJ at h;revert h;generalize z7p (slA q a b) _ _ _=e;intro h;rcases Yw (e != 0) with g3 | g3;all_goals simp_all [y0d]
theorem x2y (q:Op) (a b:List R4):(Wg q a b).length ≤400:=by
 unfold Wg y7s;rcases Yw (rgE q a b != 0) with g | g
 ·grind
 ·rw [g,Aa];have h:rgE q a b=0:=by simpa using g
  unfold rgE at h;rcases Yw (z8v a != 0) with g1 | g1
  ·grind
  rcases Yw (z8v b != 0) with g2 | g2
  ·grind
  rw [g1,g2,Aa,Aa] at h;unfold eJ at h;revert h;generalize z7p (rgA q a b) _ _ _=e;intro h;rcases Yw (e != 0) with g3 | g3;all_goals simp_all [y0d]
theorem v2e : ∀(l:List Pa) (acc:List R6),acc.length≤400→(whL acc l).length ≤400
 | [],_,h=>h
 | x::r,acc,_=>v2e r _ (j3e .u acc x.s)
theorem j2i (l:List Pa):(Yu l).length ≤400:=by
 grind [Yu,y7s,v2e]
theorem x2l : ∀{l:List Pa},skE l=0→ ∀x∈l,Zh x.s=0
 | [],_,x,hx=>by cases hx
 | y::l,h,x,hx=>by
  unfold skE at h;rcases Yw (Zh y.s != 0) with q | q
  ·rw [q,Ab] at h;rw [h] at q;cases q
  ·rw [q,Aa] at h;rcases AI.1 hx with rfl | hx
   ·simpa using q
   ·exact x2l h x hx
theorem x2k {l:List Pa} (h:z0c l=0):l.length≤50∧skE l=0∧skG l l.length 0=0:=by
 unfold z0c at h
 grind
theorem y0x {l:List Pa} (h:z0c l=0) {i:Nat} (hi:i<l.length):Zh (rd l i).s =0∧(rd l i).s.length ≤400:=by
 grind [x2l,x2k,Yr,z5w]
def dhA (d:Int):Int:=wrap .i64 (Int.tdiv d 2)
def qdA (d a p:Int) (t:R4):R7:=⟨wrap IntKind.u8 d,(z3d a p t.a t.b).a,(z3d a p t.a t.b).b,(z3d a p t.a t.b).c,(z3d a p t.c t.d).a,(z3d a p t.c t.d).b,(z3d a p t.c t.d).c⟩
def Jr (a:Int) (L:List R6):List Int:=L.flatMap fun r=>[y1x a r.a r.b r.c,y1x a r.d r.e r.f]
theorem Jm (a:Int) (L:List R6):(Jr a L).length =2*L.length:=by
 induction L with
 | nil=>rfl
 | cons r l ih=>grind [Jr]
def plA (a:Int) (L:List R6):List Int:=Jg (Jr a L)
theorem z0v (a:Int) (L:List R6):(plA a L).length ≤2*L.length:=by have h1:=Uw (Xk (Jr a L));have h2:=compact_length_le (Xk (Jr a L));rw [Vg,Jm] at h2;exact h2
def y5g (E:Int→Int):List Int→Int
 | []=>0
 | p::r=>bif E p != 0 then E p else y5g E r
def z1l (M:Int→Int→List R4) (d:Int) (ps:List Int):List R7:=ps.flatMap fun p=>(M d p).map (qdA d (dhA d) p)
theorem z7v {M:Int→Int→List R4} (hM: ∀d p,(M d p).length ≤400) (d:Int): ∀ps,(z1l M d ps).length ≤400*ps.length
 | []=>Aq _
 | p::ps=>by have:=z7v hM d ps;have h:=hM d p;show ((M d p).map (qdA d (dhA d) p)++z1l M d ps).length ≤_;rw [AP,Bp,Br];omega
def v1h (E:Int→Int→Int) (S:List R6):Nat→Nat→Int
 | 0,_=>0
 | k+1,d=>bif y5g (E (d:Int)) (plA (dhA (d:Int)) S) != 0 then y5g (E (d:Int)) (plA (dhA (d:Int)) S) else v1h E S k (d+1)
def y5n (M:Int→Int→List R4) (S:List R6):Nat→Nat→List R7
 | 0,_=>[]
 | k+1,d=>z1l M (d:Int) (plA (dhA (d:Int)) S)++y5n M S k (d+1)
def v2k (E:Int→Int→Int) (M:Int→Int→List R4) (S:List R6):Int:=bif v1h E S 6 0 != 0 then v1h E S 6 0 else bif decide (((y5n M S 6 0).length :Int)>3000) then 4 else 0
def w0p (d p:Int):Int:=bif Int.tmod d 2 == 1 then p else wrap .i64 (p - 1)
def y8u (d p:Int):Int:=bif Int.tmod d 2 == 1 then wrap .i64 (p - 1) else p
theorem x1t {d:Nat} (h:d<6):axO (dhA (d:Int))=true:=by
 have:d=0∨d=1∨d=2∨d=3∨d=4∨d=5:=by omega
 rcases this with rfl | rfl | rfl | rfl | rfl | rfl <;> rfl
def y3w (S A:List R6) (d p:Int):Int:=bif Wj (dhA d) S (w0p d p) == 0 then (bif Wj (dhA d) A (y8u d p) != 0 then Wj (dhA d) A (y8u d p) else Ko .d (Zd (dhA d) S (w0p d p)) (Zd (dhA d) A (y8u d p))) else Wj (dhA d) S (w0p d p)
def z1i (S A:List R6) (d p:Int):List R4:=Wg .d (Zd (dhA d) S (w0p d p)) (Zd (dhA d) A (y8u d p))
def y3c (S T:List R6) (b:R6) (d p:Int):Int:=bif Wj (dhA d) S (w0p d p) == 0 then
  (bif Wj (dhA d) [b] (y8u d p) != 0 then 4 else bif Wj (dhA d) T (y8u d p) != 0 then 4 else bif Ko .d (Zd (dhA d) [b] (y8u d p)) (Zd (dhA d) T (y8u d p)) != 0 then Ko .d (Zd (dhA d) [b] (y8u d p)) (Zd (dhA d) T (y8u d p)) else
   Ko .e (Zd (dhA d) S (w0p d p)) (Wg .d (Zd (dhA d) [b] (y8u d p)) (Zd (dhA d) T (y8u d p))))
 else Wj (dhA d) S (w0p d p)
def Kv (S T:List R6) (b:R6) (d p:Int):List R4:=Wg .e (Zd (dhA d) S (w0p d p)) (Wg .d (Zd (dhA d) [b] (y8u d p)) (Zd (dhA d) T (y8u d p)))
theorem bif5 {α:Type} (x0 x1 x2 x3 x4:Int) (R:Int→α) (T:α):(bif x0 == 0 then (bif x1 != 0 then R 4 else bif x2 != 0 then R 4 else bif x3 != 0 then R x3 else bif x4 != 0 then R x4 else T) else R x0)=bif (bif x0 == 0 then (bif x1 != 0 then 4 else bif x2 != 0 then 4 else bif x3 != 0 then x3 else x4) else x0) != 0 then R (bif x0 == 0 then (bif x1 != 0 then 4 else bif x2 != 0 then 4 else bif x3 != 0 then x3 else x4) else x0) else T:=by grind
section
variable (l:List Pa) (x1:Int) (hx:0≤x1∧x1<(l.length:Int)) (hS:(rd l x1.toNat).s.length ≤400)
include hx hS
theorem u7p (d:Int) (hd:axO (dhA d)=true) (out:List R7): ∀(k j:Nat) (acc:List Int),j+k=(rd l x1.toNat).s.length →acc=Jr (dhA d) ((rd l x1.toNat).s.take j)→
  ∃n,∀N,Zt (Wh l x1) (N+n) (.to (.h1 acc (j:Int) d (dhA d) (dhA d) out d (dhA d)))=Zt (Wh l x1) N (.to (.h2 (plA (dhA d) (rd l x1.toNat).s).length ((plA (dhA d) (rd l x1.toNat).s).length :Int) 0 d out d (dhA d) (Wy (Xk (Jr (dhA d) (rd l x1.toNat).s)))))
 | 0,j,acc,h,h'=>by
  have _u:=hS;have _v:=hx;have e:acc=Jr (dhA d) (rd l x1.toNat).s :=by grind
  subst e;have hle:=Jm (dhA d) (rd l x1.toNat).s;refine ⟨1,fun N=> ?_⟩;rw [Zw];simp (disch:=omega) only [Wh,Jq,Qq,z7w,Ye,Yv,Yj,Ao,Ab,Aa];rfl
 | k+1,j,acc,h,h'=>by
  have hle:acc.length≤2*j:=by grind [Jm]
  have oA: ∀x y z,Ue (dhA d) x y z=true:=fun _ _ _=>hd;obtain ⟨n,hn⟩:=u7p d hd out k (j+1) (acc++Jr (dhA d) [rd (rd l x1.toNat).s j]) (by omega) (by
   rw [h',AX]
   grind [Yr,Jr])
  refine ⟨n+1,fun N=> ?_⟩;rw [←AD,Zw,←hn N];simp (disch:=omega) only [Wh,oA,Zc,Zq,Zs,Zo,Yc,Yv,Yj,Zf,Zk,Zx,Yb,Zj,Af,Ao,Ah,Ai,Ab,Aa];rfl
theorem u7n (d:Int) (hd:axO (dhA d)=true) (p:Int) (R:List R4) (hR:R.length≤400) (n5:Nat) (v6 v7:Int) (P:List Int): ∀(k j:Nat) (out:List R7),j+k=R.length→out.length≤10000000+j→
  ∃n,∀N,Zt (Wh l x1) (N+n) (.to (.h3 p R (R.length:Int) (j:Int) n5 v6 v7 d out d (dhA d) P))=Zt (Wh l x1) N (.to (.h2 n5 v6 (wrap .i64 (v7+1)) d (out++(R.drop j).map (qdA d (dhA d) p)) d (dhA d) P))
 | 0,j,out,h,h'=>by
  have _u:=hS;have _v:=hx;refine ⟨1,fun N=> ?_⟩
  grind [Zw,Wh]
 | k+1,j,out,h,h'=>by
  have hj:j<R.length:=by omega
  have oB: ∀x y z,Kr (dhA d) x y z=true:=fun _ _ _=>hd;obtain ⟨n,hn⟩:=u7n d hd p R hR n5 v6 v7 P k (j+1) (out++[qdA d (dhA d) p (rd R j)]) (by omega) (by grind);refine ⟨n+1,fun N=> ?_⟩;rw [Yg hj,AU,←AD,Zw,show out++qdA d (dhA d) p (rd R j)::(R.drop (j+1)).map (qdA d (dhA d) p)=(out++[qdA d (dhA d) p (rd R j)])++(R.drop (j+1)).map (qdA d (dhA d) p) by simp,←hn N];simp (disch:=omega) only [Wh,oB,Zc,Zq,Zs,Zo,Yc,Yv,Yj,Zf,Zk,Zx,show Nat.beq 7 7=true from rfl,Zj,Af,Ao,Ah,Ai,Ab,Aa];rfl
theorem skn_eS (d:Nat) (hd6:d<6) (i:Nat) (hi:i<(plA (dhA (d:Int)) (rd l x1.toNat).s).length) (out:List R7):Wh l x1 (.h2 (plA (dhA (d:Int)) (rd l x1.toNat).s).length ((plA (dhA (d:Int)) (rd l x1.toNat).s).length :Int) (i:Int) (d:Int) out (d:Int) (dhA (d:Int)) (Wy (Xk (Jr (dhA (d:Int)) (rd l x1.toNat).s))))=bif (y3w (rd l x1.toNat).s (Yu l)) (d:Int) (rd (plA (dhA (d:Int)) (rd l x1.toNat).s) i) != 0 then .ret [.nils,.int .i64 ((y3w (rd l x1.toNat).s (Yu l)) (d:Int) (rd (plA (dhA (d:Int)) (rd l x1.toNat).s) i))] else
   .to (.h3 (rd (plA (dhA (d:Int)) (rd l x1.toNat).s) i) ((z1i (rd l x1.toNat).s (Yu l)) (d:Int) (rd (plA (dhA (d:Int)) (rd l x1.toNat).s) i)) (((z1i (rd l x1.toNat).s (Yu l)) (d:Int) (rd (plA (dhA (d:Int)) (rd l x1.toNat).s) i)).length :Int) ((0:Nat):Int) (plA (dhA (d:Int)) (rd l x1.toNat).s).length ((plA (dhA (d:Int)) (rd l x1.toNat).s).length :Int) (i:Int) (d:Int) out (d:Int) (dhA (d:Int)) (Wy (Xk (Jr (dhA (d:Int)) (rd l x1.toNat).s)))):=by
  have _v:=hx;have hd:=x1t hd6;have hp:=z0v (dhA (d:Int)) (rd l x1.toNat).s;have hpl:(Wy (Xk (Jr (dhA (d:Int)) (rd l x1.toNat).s))).length =2*(rd l x1.toNat).s.length :=by rw [Uw,Vg,Jm]
  have r0:rd (Wy (Xk (Jr (dhA (d:Int)) (rd l x1.toNat).s))) i=rd (plA (dhA (d:Int)) (rd l x1.toNat).s) i:=z4n _ _ hi;have o: ∀L p,L.length≤400→Ww (dhA (d:Int)) L p=true:=fun L p hL=>by
   show (axO (dhA (d:Int))&&decide (L.length≤1000))=true
   grind
  have oS: ∀p,Ww (dhA (d:Int)) (rd l x1.toNat).s p=true:=fun p=>o _ _ hS;have oW: ∀p,Ww (dhA (d:Int)) (Yu l) p=true:=fun p=>o _ _ (j2i l);have ow:Qh l=Qh l:=rfl;have oR: ∀q a b,Kw q a b=true:=fun _ _ _=>rfl;rcases Yw (Int.tmod (d:Int) 2 == 1) with q | q
  ·simp (disch:=omega) only [Wh,q,r0,oS,oW,oR,Zc,Zq,Zs,Zo,Yc,Yv,Yj,Zj,Af,Ao,Ah,Ai,Ab,Aa,y3w,z1i,w0p,y8u]
   grind
  ·simp (disch:=omega) only [Wh,q,r0,oS,oW,oR,Zc,Zq,Zs,Zo,Yc,Yv,Yj,Zj,Af,Ao,Ah,Ai,Ab,Aa,y3w,z1i,w0p,y8u]
   grind
theorem u7o (d:Nat) (hd6:d<6): ∀(k i:Nat) (out:List R7),i+k=(plA (dhA (d:Int)) (rd l x1.toNat).s).length →out.length+400*k≤8000000→
  (y5g ((y3w (rd l x1.toNat).s (Yu l)) (d:Int)) ((plA (dhA (d:Int)) (rd l x1.toNat).s).drop i)=0→ ∃n,∀N,Zt (Wh l x1) (N+n) (.to (.h2 (plA (dhA (d:Int)) (rd l x1.toNat).s).length ((plA (dhA (d:Int)) (rd l x1.toNat).s).length :Int) (i:Int) (d:Int) out (d:Int) (dhA (d:Int)) (Wy (Xk (Jr (dhA (d:Int)) (rd l x1.toNat).s)))))=Zt (Wh l x1) N (.to (.h0 ((d+1:Nat):Int) (out++z1l (z1i (rd l x1.toNat).s (Yu l)) (d:Int) ((plA (dhA (d:Int)) (rd l x1.toNat).s).drop i)))))∧
  ((y5g ((y3w (rd l x1.toNat).s (Yu l)) (d:Int)) ((plA (dhA (d:Int)) (rd l x1.toNat).s).drop i) != 0)=true→ ∃n,∀N,Zt (Wh l x1) (N+n) (.to (.h2 (plA (dhA (d:Int)) (rd l x1.toNat).s).length ((plA (dhA (d:Int)) (rd l x1.toNat).s).length :Int) (i:Int) (d:Int) out (d:Int) (dhA (d:Int)) (Wy (Xk (Jr (dhA (d:Int)) (rd l x1.toNat).s)))))=.ret [.nils,.int .i64 (y5g ((y3w (rd l x1.toNat).s (Yu l)) (d:Int)) ((plA (dhA (d:Int)) (rd l x1.toNat).s).drop i))])
 | 0,i,out,h,h'=>by
  rw [As (show (plA (dhA (d:Int)) (rd l x1.toNat).s).length ≤i by omega)];refine ⟨fun _=>⟨1,fun N=> ?_⟩,fun e=>by cases e⟩
  grind [z1l,Zw,Wh,Zk]
 | k+1,i,out,h,h'=>by
  have hi:i<(plA (dhA (d:Int)) (rd l x1.toNat).s).length :=by omega
  have hp:=z0v (dhA (d:Int)) (rd l x1.toNat).s;rw [Yg hi];have eE:y5g ((y3w (rd l x1.toNat).s (Yu l)) (d:Int)) (rd (plA (dhA (d:Int)) (rd l x1.toNat).s) i::(plA (dhA (d:Int)) (rd l x1.toNat).s).drop (i+1))=bif (y3w (rd l x1.toNat).s (Yu l)) (d:Int) (rd (plA (dhA (d:Int)) (rd l x1.toNat).s) i) != 0 then (y3w (rd l x1.toNat).s (Yu l)) (d:Int) (rd (plA (dhA (d:Int)) (rd l x1.toNat).s) i) else y5g ((y3w (rd l x1.toNat).s (Yu l)) (d:Int)) ((plA (dhA (d:Int)) (rd l x1.toNat).s).drop (i+1)):=rfl;have eM:z1l (z1i (rd l x1.toNat).s (Yu l)) (d:Int) (rd (plA (dhA (d:Int)) (rd l x1.toNat).s) i::(plA (dhA (d:Int)) (rd l x1.toNat).s).drop (i+1))=((z1i (rd l x1.toNat).s (Yu l)) (d:Int) (rd (plA (dhA (d:Int)) (rd l x1.toNat).s) i)).map (qdA (d:Int) (dhA (d:Int)) (rd (plA (dhA (d:Int)) (rd l x1.toNat).s) i))++z1l (z1i (rd l x1.toNat).s (Yu l)) (d:Int) ((plA (dhA (d:Int)) (rd l x1.toNat).s).drop (i+1)):=rfl;rw [eE,eM];have eS:=skn_eS l x1 hx hS d hd6 i hi out;rcases Yw ((y3w (rd l x1.toNat).s (Yu l)) (d:Int) (rd (plA (dhA (d:Int)) (rd l x1.toNat).s) i) != 0) with z | z
  ·rw [z,Ab];refine ⟨fun e=>(by grind),fun _=>⟨1,fun N=> ?_⟩⟩
   grind [Zw,Zp]
  ·rw [z,Aa];have hm:((z1i (rd l x1.toNat).s (Yu l)) (d:Int) (rd (plA (dhA (d:Int)) (rd l x1.toNat).s) i)).length ≤400:=x2y _ _ _;obtain ⟨n2,h2⟩:=u7n l x1 hx hS (d:Int) (x1t hd6) (rd (plA (dhA (d:Int)) (rd l x1.toNat).s) i) ((z1i (rd l x1.toNat).s (Yu l)) (d:Int) (rd (plA (dhA (d:Int)) (rd l x1.toNat).s) i)) hm (plA (dhA (d:Int)) (rd l x1.toNat).s).length ((plA (dhA (d:Int)) (rd l x1.toNat).s).length :Int) (i:Int) (Wy (Xk (Jr (dhA (d:Int)) (rd l x1.toNat).s))) ((z1i (rd l x1.toNat).s (Yu l)) (d:Int) (rd (plA (dhA (d:Int)) (rd l x1.toNat).s) i)).length 0 out (Af _) (by omega);rw [AS] at h2;obtain ⟨a1,a2⟩:=u7o d hd6 k (i+1) (out++((z1i (rd l x1.toNat).s (Yu l)) (d:Int) (rd (plA (dhA (d:Int)) (rd l x1.toNat).s) i)).map (qdA (d:Int) (dhA (d:Int)) (rd (plA (dhA (d:Int)) (rd l x1.toNat).s) i))) (by omega) (by grind);have ew:wrap .i64 ((i:Int)+1)=((i+1:Nat):Int):=by grind [Zk]
   have st: ∀N,Zt (Wh l x1) (N+n2+1) (.to (.h2 (plA (dhA (d:Int)) (rd l x1.toNat).s).length ((plA (dhA (d:Int)) (rd l x1.toNat).s).length :Int) (i:Int) (d:Int) out (d:Int) (dhA (d:Int)) (Wy (Xk (Jr (dhA (d:Int)) (rd l x1.toNat).s)))))=Zt (Wh l x1) N (.to (.h2 (plA (dhA (d:Int)) (rd l x1.toNat).s).length ((plA (dhA (d:Int)) (rd l x1.toNat).s).length :Int) ((i+1:Nat):Int) (d:Int) (out++((z1i (rd l x1.toNat).s (Yu l)) (d:Int) (rd (plA (dhA (d:Int)) (rd l x1.toNat).s) i)).map (qdA (d:Int) (dhA (d:Int)) (rd (plA (dhA (d:Int)) (rd l x1.toNat).s) i))) (d:Int) (dhA (d:Int)) (Wy (Xk (Jr (dhA (d:Int)) (rd l x1.toNat).s))))):=fun N=>by
    grind [Zw]
   refine ⟨fun e=> ?_,fun e=> ?_⟩
   ·obtain ⟨n,hn⟩:=a1 e;refine ⟨n+n2+1,fun N=> ?_⟩
    grind
   ·obtain ⟨n,hn⟩:=a2 e;refine ⟨n+n2+1,fun N=> ?_⟩;rw [←hn N,←st (N+n),AD N,AD N,AD n]
theorem u7q : ∀(k d:Nat) (out:List R7),d+k=6→out.length≤400000*d→
  ∃n,Zt (Wh l x1) n (.to (.h0 (d:Int) out))=.ret (z8w (bif v1h (y3w (rd l x1.toNat).s (Yu l)) (rd l x1.toNat).s k d != 0 then v1h (y3w (rd l x1.toNat).s (Yu l)) (rd l x1.toNat).s k d else bif decide (((out++y5n (z1i (rd l x1.toNat).s (Yu l)) (rd l x1.toNat).s k d).length :Int)>3000) then 4 else 0) (out++y5n (z1i (rd l x1.toNat).s (Yu l)) (rd l x1.toNat).s k d))
 | 0,d,out,h,h'=>by refine ⟨1,?_⟩;rw [Zw,show y5n (z1i (rd l x1.toNat).s (Yu l)) (rd l x1.toNat).s 0 d=[] from rfl,AC];simp (disch:=omega) only [Wh,Ye,Aa];show Zt (Wh l x1) 0 _=.ret (z8w (bif decide ((out.length:Int)>3000) then 4 else 0) out);cases decide ((out.length:Int)>3000) <;> rfl
 | k+1,d,out,h,h'=>by
  have hp:=z0v (dhA (d:Int)) (rd l x1.toNat).s;obtain ⟨n1,h1⟩:=u7p l x1 hx hS (d:Int) (x1t (show d<6 by omega)) out (rd l x1.toNat).s.length 0 [] (Af _) rfl;obtain ⟨a1,a2⟩:=u7o l x1 hx hS d (by omega) (plA (dhA (d:Int)) (rd l x1.toNat).s).length 0 out (Af _) (by omega);rw [AS] at a1 a2;have e0:Wh l x1 (.h0 (d:Int) out)=.to (.h1 [] ((0:Nat):Int) (d:Int) (dhA (d:Int)) (dhA (d:Int)) out (d:Int) (dhA (d:Int))):=by simp (disch:=omega) only [Wh,Zs,Ab];rfl
  have eE:v1h (y3w (rd l x1.toNat).s (Yu l)) (rd l x1.toNat).s (k+1) d=bif y5g ((y3w (rd l x1.toNat).s (Yu l)) (d:Int)) (plA (dhA (d:Int)) (rd l x1.toNat).s) != 0 then y5g ((y3w (rd l x1.toNat).s (Yu l)) (d:Int)) (plA (dhA (d:Int)) (rd l x1.toNat).s) else v1h (y3w (rd l x1.toNat).s (Yu l)) (rd l x1.toNat).s k (d+1):=rfl;have eN:y5n (z1i (rd l x1.toNat).s (Yu l)) (rd l x1.toNat).s (k+1) d=z1l (z1i (rd l x1.toNat).s (Yu l)) (d:Int) (plA (dhA (d:Int)) (rd l x1.toNat).s)++y5n (z1i (rd l x1.toNat).s (Yu l)) (rd l x1.toNat).s k (d+1):=rfl;rw [eE,eN];rcases Yw (y5g ((y3w (rd l x1.toNat).s (Yu l)) (d:Int)) (plA (dhA (d:Int)) (rd l x1.toNat).s) != 0) with z | z
  ·obtain ⟨n2,h2⟩:=a2 z;refine ⟨0+n2+n1+1,?_⟩;rw [Zw,e0,h1 (0+n2),z,Ab,Vn _ (by grind),z,Ab];exact h2 0
  ·obtain ⟨n2,h2⟩:=a1 (by simpa using z);have hl:=z7v (M:=(z1i (rd l x1.toNat).s (Yu l))) (fun _ _=>x2y _ _ _) (d:Int) (plA (dhA (d:Int)) (rd l x1.toNat).s);obtain ⟨n3,h3⟩:=u7q k (d+1) (out++z1l (z1i (rd l x1.toNat).s (Yu l)) (d:Int) (plA (dhA (d:Int)) (rd l x1.toNat).s)) (by omega) (by grind);refine ⟨n3+n2+n1+1,?_⟩
   grind [Zw]
end
section
variable (l:List Pa) (x1 x2:Int) (hx:0≤x1∧x1<(l.length:Int)) (hS:(rd l x1.toNat).s.length ≤400) (hy:0≤x2∧x2<(l.length:Int)) (hT:(rd l x2.toNat).s.length ≤400)
include hx hS hy hT
theorem u6p (d:Int) (hd:axO (dhA d)=true) (out:List R7): ∀(k j:Nat) (acc:List Int),j+k=(rd l x1.toNat).s.length →acc=Jr (dhA d) ((rd l x1.toNat).s.take j)→
  ∃n,∀N,Zt (We l x1 x2) (N+n) (.to (.h1 acc (j:Int) d (dhA d) (dhA d) out d (dhA d)))=Zt (We l x1 x2) N (.to (.h2 (plA (dhA d) (rd l x1.toNat).s).length ((plA (dhA d) (rd l x1.toNat).s).length :Int) 0 d out d (dhA d) (Wy (Xk (Jr (dhA d) (rd l x1.toNat).s)))))
 | 0,j,acc,h,h'=>by
  have _u:=hS;have _v:=hx;have _w:=hy;have _y:=hT;have e:acc=Jr (dhA d) (rd l x1.toNat).s :=by grind
  subst e;have hle:=Jm (dhA d) (rd l x1.toNat).s;refine ⟨1,fun N=> ?_⟩;rw [Zw];simp (disch:=omega) only [We,Jq,Qq,z7w,Ye,Yv,Yj,Ao,Ab,Aa];rfl
 | k+1,j,acc,h,h'=>by
  have hle:acc.length≤2*j:=by grind [Jm]
  have oA: ∀x y z,Ue (dhA d) x y z=true:=fun _ _ _=>hd;obtain ⟨n,hn⟩:=u6p d hd out k (j+1) (acc++Jr (dhA d) [rd (rd l x1.toNat).s j]) (by omega) (by
   rw [h',AX]
   grind [Yr,Jr])
  refine ⟨n+1,fun N=> ?_⟩;rw [←AD,Zw,←hn N];simp (disch:=omega) only [We,oA,Zc,Zq,Zs,Zo,Yc,Yv,Yj,Zf,Zk,Zx,Yb,Zj,Af,Ao,Ah,Ai,Ab,Aa];rfl
theorem u6n (d:Int) (hd:axO (dhA d)=true) (p:Int) (R:List R4) (hR:R.length≤400) (n5:Nat) (v6 v7:Int) (P:List Int): ∀(k j:Nat) (out:List R7),j+k=R.length→out.length≤10000000+j→
  ∃n,∀N,Zt (We l x1 x2) (N+n) (.to (.h3 p R (R.length:Int) (j:Int) n5 v6 v7 d out d (dhA d) P))=Zt (We l x1 x2) N (.to (.h2 n5 v6 (wrap .i64 (v7+1)) d (out++(R.drop j).map (qdA d (dhA d) p)) d (dhA d) P))
 | 0,j,out,h,h'=>by
  have _u:=hS;have _v:=hx;have _w:=hy;have _y:=hT;refine ⟨1,fun N=> ?_⟩
  grind [Zw,We]
 | k+1,j,out,h,h'=>by
  have hj:j<R.length:=by omega
  have oB: ∀x y z,Kr (dhA d) x y z=true:=fun _ _ _=>hd;obtain ⟨n,hn⟩:=u6n d hd p R hR n5 v6 v7 P k (j+1) (out++[qdA d (dhA d) p (rd R j)]) (by omega) (by grind);refine ⟨n+1,fun N=> ?_⟩;rw [Yg hj,AU,←AD,Zw,show out++qdA d (dhA d) p (rd R j)::(R.drop (j+1)).map (qdA d (dhA d) p)=(out++[qdA d (dhA d) p (rd R j)])++(R.drop (j+1)).map (qdA d (dhA d) p) by simp,←hn N];simp (disch:=omega) only [We,oB,Zc,Zq,Zs,Zo,Yc,Yv,Yj,Zf,Zk,Zx,show Nat.beq 7 7=true from rfl,Zj,Af,Ao,Ah,Ai,Ab,Aa];rfl
theorem stp_eS (d:Nat) (hd6:d<6) (i:Nat) (hi:i<(plA (dhA (d:Int)) (rd l x1.toNat).s).length) (out:List R7):We l x1 x2 (.h2 (plA (dhA (d:Int)) (rd l x1.toNat).s).length ((plA (dhA (d:Int)) (rd l x1.toNat).s).length :Int) (i:Int) (d:Int) out (d:Int) (dhA (d:Int)) (Wy (Xk (Jr (dhA (d:Int)) (rd l x1.toNat).s))))=bif (y3c (rd l x1.toNat).s (rd l x2.toNat).s (bxP (rd l x2.toNat))) (d:Int) (rd (plA (dhA (d:Int)) (rd l x1.toNat).s) i) != 0 then .ret [.nils,.int .i64 ((y3c (rd l x1.toNat).s (rd l x2.toNat).s (bxP (rd l x2.toNat))) (d:Int) (rd (plA (dhA (d:Int)) (rd l x1.toNat).s) i))] else
   .to (.h3 (rd (plA (dhA (d:Int)) (rd l x1.toNat).s) i) ((Kv (rd l x1.toNat).s (rd l x2.toNat).s (bxP (rd l x2.toNat))) (d:Int) (rd (plA (dhA (d:Int)) (rd l x1.toNat).s) i)) (((Kv (rd l x1.toNat).s (rd l x2.toNat).s (bxP (rd l x2.toNat))) (d:Int) (rd (plA (dhA (d:Int)) (rd l x1.toNat).s) i)).length :Int) ((0:Nat):Int) (plA (dhA (d:Int)) (rd l x1.toNat).s).length ((plA (dhA (d:Int)) (rd l x1.toNat).s).length :Int) (i:Int) (d:Int) out (d:Int) (dhA (d:Int)) (Wy (Xk (Jr (dhA (d:Int)) (rd l x1.toNat).s)))):=by
  have _v:=hx;have _w:=hy;have _y:=hT;have hd:=x1t hd6;have hp:=z0v (dhA (d:Int)) (rd l x1.toNat).s;have hpl:(Wy (Xk (Jr (dhA (d:Int)) (rd l x1.toNat).s))).length =2*(rd l x1.toNat).s.length :=by rw [Uw,Vg,Jm]
  have r0:rd (Wy (Xk (Jr (dhA (d:Int)) (rd l x1.toNat).s))) i=rd (plA (dhA (d:Int)) (rd l x1.toNat).s) i:=z4n _ _ hi;have o: ∀L p,L.length≤400→Ww (dhA (d:Int)) L p=true:=fun L p hL=>by
   show (axO (dhA (d:Int))&&decide (L.length≤1000))=true
   grind
  have oS: ∀p,Ww (dhA (d:Int)) (rd l x1.toNat).s p=true:=fun p=>o _ _ hS;have oW: ∀p,Ww (dhA (d:Int)) (rd l x2.toNat).s p=true:=fun p=>o _ _ hT;have oB: ∀p,Ww (dhA (d:Int)) [bxP (rd l x2.toNat)] p=true:=fun p=>o _ _ (show 1≤400 by decide);unfold bxP at oB;have oR: ∀q a b,Kw q a b=true:=fun _ _ _=>rfl;rcases Yw (Int.tmod (d:Int) 2 == 1) with q | q
  ·simp (disch:=omega) only [We,q,r0,oS,oW,oB,oR,Zc,Zq,Zs,Zo,Yc,Yv,Yj,Zj,Af,Ao,Ah,Ai,Ab,Aa,y3c,Kv,w0p,y8u];exact bif5 _ _ _ _ _ (fun e=>Xw.ret [.nils,.int .i64 e]) _
  ·simp (disch:=omega) only [We,q,r0,oS,oW,oB,oR,Zc,Zq,Zs,Zo,Yc,Yv,Yj,Zj,Af,Ao,Ah,Ai,Ab,Aa,y3c,Kv,w0p,y8u];exact bif5 _ _ _ _ _ (fun e=>Xw.ret [.nils,.int .i64 e]) _
theorem u6o (d:Nat) (hd6:d<6): ∀(k i:Nat) (out:List R7),i+k=(plA (dhA (d:Int)) (rd l x1.toNat).s).length →out.length+400*k≤8000000→
  (y5g ((y3c (rd l x1.toNat).s (rd l x2.toNat).s (bxP (rd l x2.toNat))) (d:Int)) ((plA (dhA (d:Int)) (rd l x1.toNat).s).drop i)=0→ ∃n,∀N,Zt (We l x1 x2) (N+n) (.to (.h2 (plA (dhA (d:Int)) (rd l x1.toNat).s).length ((plA (dhA (d:Int)) (rd l x1.toNat).s).length :Int) (i:Int) (d:Int) out (d:Int) (dhA (d:Int)) (Wy (Xk (Jr (dhA (d:Int)) (rd l x1.toNat).s)))))=Zt (We l x1 x2) N (.to (.h0 ((d+1:Nat):Int) (out++z1l (Kv (rd l x1.toNat).s (rd l x2.toNat).s (bxP (rd l x2.toNat))) (d:Int) ((plA (dhA (d:Int)) (rd l x1.toNat).s).drop i)))))∧
  ((y5g ((y3c (rd l x1.toNat).s (rd l x2.toNat).s (bxP (rd l x2.toNat))) (d:Int)) ((plA (dhA (d:Int)) (rd l x1.toNat).s).drop i) != 0)=true→ ∃n,∀N,Zt (We l x1 x2) (N+n) (.to (.h2 (plA (dhA (d:Int)) (rd l x1.toNat).s).length ((plA (dhA (d:Int)) (rd l x1.toNat).s).length :Int) (i:Int) (d:Int) out (d:Int) (dhA (d:Int)) (Wy (Xk (Jr (dhA (d:Int)) (rd l x1.toNat).s)))))=.ret [.nils,.int .i64 (y5g ((y3c (rd l x1.toNat).s (rd l x2.toNat).s (bxP (rd l x2.toNat))) (d:Int)) ((plA (dhA (d:Int)) (rd l x1.toNat).s).drop i))])
 | 0,i,out,h,h'=>by
  rw [As (show (plA (dhA (d:Int)) (rd l x1.toNat).s).length ≤i by omega)];refine ⟨fun _=>⟨1,fun N=> ?_⟩,fun e=>by cases e⟩
  grind [z1l,Zw,We,Zk]
 | k+1,i,out,h,h'=>by
  have hi:i<(plA (dhA (d:Int)) (rd l x1.toNat).s).length :=by omega
  have hp:=z0v (dhA (d:Int)) (rd l x1.toNat).s;rw [Yg hi];have eE:y5g ((y3c (rd l x1.toNat).s (rd l x2.toNat).s (bxP (rd l x2.toNat))) (d:Int)) (rd (plA (dhA (d:Int)) (rd l x1.toNat).s) i::(plA (dhA (d:Int)) (rd l x1.toNat).s).drop (i+1))=bif (y3c (rd l x1.toNat).s (rd l x2.toNat).s (bxP (rd l x2.toNat))) (d:Int) (rd (plA (dhA (d:Int)) (rd l x1.toNat).s) i) != 0 then (y3c (rd l x1.toNat).s (rd l x2.toNat).s (bxP (rd l x2.toNat))) (d:Int) (rd (plA (dhA (d:Int)) (rd l x1.toNat).s) i) else y5g ((y3c (rd l x1.toNat).s (rd l x2.toNat).s (bxP (rd l x2.toNat))) (d:Int)) ((plA (dhA (d:Int)) (rd l x1.toNat).s).drop (i+1)):=rfl;have eM:z1l (Kv (rd l x1.toNat).s (rd l x2.toNat).s (bxP (rd l x2.toNat))) (d:Int) (rd (plA (dhA (d:Int)) (rd l x1.toNat).s) i::(plA (dhA (d:Int)) (rd l x1.toNat).s).drop (i+1))=((Kv (rd l x1.toNat).s (rd l x2.toNat).s (bxP (rd l x2.toNat))) (d:Int) (rd (plA (dhA (d:Int)) (rd l x1.toNat).s) i)).map (qdA (d:Int) (dhA (d:Int)) (rd (plA (dhA (d:Int)) (rd l x1.toNat).s) i))++z1l (Kv (rd l x1.toNat).s (rd l x2.toNat).s (bxP (rd l x2.toNat))) (d:Int) ((plA (dhA (d:Int)) (rd l x1.toNat).s).drop (i+1)):=rfl;rw [eE,eM];have eS:=stp_eS l x1 x2 hx hS hy hT d hd6 i hi out;rcases Yw ((y3c (rd l x1.toNat).s (rd l x2.toNat).s (bxP (rd l x2.toNat))) (d:Int) (rd (plA (dhA (d:Int)) (rd l x1.toNat).s) i) != 0) with z | z
  ·rw [z,Ab];refine ⟨fun e=>(by grind),fun _=>⟨1,fun N=> ?_⟩⟩
   grind [Zw,Zp]
  ·rw [z,Aa];have hm:((Kv (rd l x1.toNat).s (rd l x2.toNat).s (bxP (rd l x2.toNat))) (d:Int) (rd (plA (dhA (d:Int)) (rd l x1.toNat).s) i)).length ≤400:=x2y _ _ _;obtain ⟨n2,h2⟩:=u6n l x1 x2 hx hS hy hT (d:Int) (x1t hd6) (rd (plA (dhA (d:Int)) (rd l x1.toNat).s) i) ((Kv (rd l x1.toNat).s (rd l x2.toNat).s (bxP (rd l x2.toNat))) (d:Int) (rd (plA (dhA (d:Int)) (rd l x1.toNat).s) i)) hm (plA (dhA (d:Int)) (rd l x1.toNat).s).length ((plA (dhA (d:Int)) (rd l x1.toNat).s).length :Int) (i:Int) (Wy (Xk (Jr (dhA (d:Int)) (rd l x1.toNat).s))) ((Kv (rd l x1.toNat).s (rd l x2.toNat).s (bxP (rd l x2.toNat))) (d:Int) (rd (plA (dhA (d:Int)) (rd l x1.toNat).s) i)).length 0 out (Af _) (by omega);rw [AS] at h2;obtain ⟨a1,a2⟩:=u6o d hd6 k (i+1) (out++((Kv (rd l x1.toNat).s (rd l x2.toNat).s (bxP (rd l x2.toNat))) (d:Int) (rd (plA (dhA (d:Int)) (rd l x1.toNat).s) i)).map (qdA (d:Int) (dhA (d:Int)) (rd (plA (dhA (d:Int)) (rd l x1.toNat).s) i))) (by omega) (by grind);have ew:wrap .i64 ((i:Int)+1)=((i+1:Nat):Int):=by grind [Zk]
   have st: ∀N,Zt (We l x1 x2) (N+n2+1) (.to (.h2 (plA (dhA (d:Int)) (rd l x1.toNat).s).length ((plA (dhA (d:Int)) (rd l x1.toNat).s).length :Int) (i:Int) (d:Int) out (d:Int) (dhA (d:Int)) (Wy (Xk (Jr (dhA (d:Int)) (rd l x1.toNat).s)))))=Zt (We l x1 x2) N (.to (.h2 (plA (dhA (d:Int)) (rd l x1.toNat).s).length ((plA (dhA (d:Int)) (rd l x1.toNat).s).length :Int) ((i+1:Nat):Int) (d:Int) (out++((Kv (rd l x1.toNat).s (rd l x2.toNat).s (bxP (rd l x2.toNat))) (d:Int) (rd (plA (dhA (d:Int)) (rd l x1.toNat).s) i)).map (qdA (d:Int) (dhA (d:Int)) (rd (plA (dhA (d:Int)) (rd l x1.toNat).s) i))) (d:Int) (dhA (d:Int)) (Wy (Xk (Jr (dhA (d:Int)) (rd l x1.toNat).s))))):=fun N=>by
    grind [Zw]
   refine ⟨fun e=> ?_,fun e=> ?_⟩
   ·obtain ⟨n,hn⟩:=a1 e;refine ⟨n+n2+1,fun N=> ?_⟩
    grind
   ·obtain ⟨n,hn⟩:=a2 e;refine ⟨n+n2+1,fun N=> ?_⟩;rw [←hn N,←st (N+n),AD N,AD N,AD n]
theorem u6q : ∀(k d:Nat) (out:List R7),d+k=6→out.length≤400000*d→
  ∃n,Zt (We l x1 x2) n (.to (.h0 (d:Int) out))=.ret (z8w (bif v1h (y3c (rd l x1.toNat).s (rd l x2.toNat).s (bxP (rd l x2.toNat))) (rd l x1.toNat).s k d != 0 then v1h (y3c (rd l x1.toNat).s (rd l x2.toNat).s (bxP (rd l x2.toNat))) (rd l x1.toNat).s k d else bif decide (((out++y5n (Kv (rd l x1.toNat).s (rd l x2.toNat).s (bxP (rd l x2.toNat))) (rd l x1.toNat).s k d).length :Int)>3000) then 4 else 0) (out++y5n (Kv (rd l x1.toNat).s (rd l x2.toNat).s (bxP (rd l x2.toNat))) (rd l x1.toNat).s k d))
 | 0,d,out,h,h'=>by refine ⟨1,?_⟩;rw [Zw,show y5n (Kv (rd l x1.toNat).s (rd l x2.toNat).s (bxP (rd l x2.toNat))) (rd l x1.toNat).s 0 d=[] from rfl,AC];simp (disch:=omega) only [We,Ye,Aa];show Zt (We l x1 x2) 0 _=.ret (z8w (bif decide ((out.length:Int)>3000) then 4 else 0) out);cases decide ((out.length:Int)>3000) <;> rfl
 | k+1,d,out,h,h'=>by
  have hp:=z0v (dhA (d:Int)) (rd l x1.toNat).s;obtain ⟨n1,h1⟩:=u6p l x1 x2 hx hS hy hT (d:Int) (x1t (show d<6 by omega)) out (rd l x1.toNat).s.length 0 [] (Af _) rfl;obtain ⟨a1,a2⟩:=u6o l x1 x2 hx hS hy hT d (by omega) (plA (dhA (d:Int)) (rd l x1.toNat).s).length 0 out (Af _) (by omega);rw [AS] at a1 a2;have e0:We l x1 x2 (.h0 (d:Int) out)=.to (.h1 [] ((0:Nat):Int) (d:Int) (dhA (d:Int)) (dhA (d:Int)) out (d:Int) (dhA (d:Int))):=by simp (disch:=omega) only [We,Zs,Ab];rfl
  have eE:v1h (y3c (rd l x1.toNat).s (rd l x2.toNat).s (bxP (rd l x2.toNat))) (rd l x1.toNat).s (k+1) d=bif y5g ((y3c (rd l x1.toNat).s (rd l x2.toNat).s (bxP (rd l x2.toNat))) (d:Int)) (plA (dhA (d:Int)) (rd l x1.toNat).s) != 0 then y5g ((y3c (rd l x1.toNat).s (rd l x2.toNat).s (bxP (rd l x2.toNat))) (d:Int)) (plA (dhA (d:Int)) (rd l x1.toNat).s) else v1h (y3c (rd l x1.toNat).s (rd l x2.toNat).s (bxP (rd l x2.toNat))) (rd l x1.toNat).s k (d+1):=rfl;have eN:y5n (Kv (rd l x1.toNat).s (rd l x2.toNat).s (bxP (rd l x2.toNat))) (rd l x1.toNat).s (k+1) d=z1l (Kv (rd l x1.toNat).s (rd l x2.toNat).s (bxP (rd l x2.toNat))) (d:Int) (plA (dhA (d:Int)) (rd l x1.toNat).s)++y5n (Kv (rd l x1.toNat).s (rd l x2.toNat).s (bxP (rd l x2.toNat))) (rd l x1.toNat).s k (d+1):=rfl;rw [eE,eN];rcases Yw (y5g ((y3c (rd l x1.toNat).s (rd l x2.toNat).s (bxP (rd l x2.toNat))) (d:Int)) (plA (dhA (d:Int)) (rd l x1.toNat).s) != 0) with z | z
  ·obtain ⟨n2,h2⟩:=a2 z;refine ⟨0+n2+n1+1,?_⟩;rw [Zw,e0,h1 (0+n2),z,Ab,Vn _ (by grind),z,Ab];exact h2 0
  ·obtain ⟨n2,h2⟩:=a1 (by simpa using z);have hl:=z7v (M:=(Kv (rd l x1.toNat).s (rd l x2.toNat).s (bxP (rd l x2.toNat)))) (fun _ _=>x2y _ _ _) (d:Int) (plA (dhA (d:Int)) (rd l x1.toNat).s);obtain ⟨n3,h3⟩:=u6q k (d+1) (out++z1l (Kv (rd l x1.toNat).s (rd l x2.toNat).s (bxP (rd l x2.toNat))) (d:Int) (plA (dhA (d:Int)) (rd l x1.toNat).s)) (by omega) (by grind);refine ⟨n3+n2+n1+1,?_⟩
   grind [Zw]
end
def sknL (l:List Pa) (x:Int):List R7:=y5n (z1i (rd l x.toNat).s (Yu l)) (rd l x.toNat).s 6 0
def y2k (l:List Pa) (x:Int):Int:=bif z0c l != 0 then z0c l else bif decide (x<0)||decide (x≥(l.length:Int)) then 2 else bif z0i l != 0 then z0i l else v2k (y3w (rd l x.toNat).s (Yu l)) (z1i (rd l x.toNat).s (Yu l)) (rd l x.toNat).s
def Km (l:List Pa) (x:Int):List R7:=y7s (y2k l x) (sknL l x)
def z8f (l:List Pa) (_:Int):Bool:=smP l
theorem j3h (l:List Pa) (x:Int) (h:z8f l x=true): ∃n,Zt (Wh l x) n (y3v l x)=.ret (z8w (y2k l x) (sknL l x)):=by
 have h:smP l=true:=h;have o2:Qh l=true:=An (z2l h);unfold y3v y2k;simp only [Zc,show Uu l=true from h,o2,Ab];rcases Yw (z0c l != 0) with q | q
 ·exact ⟨0,by rw [q,Ab,Ab,Vn _ q];rfl⟩
 by_cases g1:x<0
 ·exact ⟨0,by rw [q,An g1];rfl⟩
 by_cases g2:x≥(l.length:Int)
 ·exact ⟨0,by rw [q,AB g1,An g2];rfl⟩
 rcases Yw (z0i l != 0) with q2 | q2
 ·exact ⟨0,by rw [q,AB g1,AB g2,q2];simp only [Ab,Aa,Bool.or_false];rw [Vn _ q2];rfl⟩
 have hx:0≤x∧x<(l.length:Int):=by omega
 obtain ⟨n,hn⟩:=u7q l x hx (y0x (by simpa using q) (show Int.toNat x<l.length by omega)).2 6 0 [] rfl (Ay _)
 grind [v2k,sknL]
def fSkn :List AVal→Option (AVal×Bool)
 | [a0,.int .i64 x1]=>match asL Pa a0 with
  | some (L0,g0,n0)=>some (.tup [.dat (Km L0 x1).length (Zz (Km L0 x1)),.int .i64 (y2k L0 x1)],isT Pa n0 g0&&(z8f L0 x1))
  | _=>none
 | _=>none
theorem j7q {S:Specs} (hS:Zu prog S):Zu prog (S.with nSkin fSkn):=by
 refine w6l hS (by kernel_rfl) fun args v h=> ?_;unfold fSkn at h;split at h
 ·rename_i a0 x1;split at h
  ·rename_i L0 g0 n0 e0;simp only [Ad,Ac,Ae] at h;obtain ⟨rfl,ho0,hw⟩:=h;obtain ⟨N,hN⟩:=j3h L0 x1 hw;exact ⟨_,_,(.cons (Yh e0 ho0) (.cons (.refl _) .nil)),z0n _ _,u1b L0 x1 N _ hN,3,z5f _ _⟩
  ·cases h
 ·cases h
def stpL (l:List Pa) (x y:Int):List R7:=y5n (Kv (rd l x.toNat).s (rd l y.toNat).s (bxP (rd l y.toNat))) (rd l x.toNat).s 6 0
def Qi (l:List Pa) (x y:Int):Int:=bif z0c l != 0 then z0c l else bif decide (x<0)||(decide (x≥(l.length:Int))||(decide (y<0)||(decide (y≥(l.length:Int))||(x == y)))) then 2 else v2k (y3c (rd l x.toNat).s (rd l y.toNat).s (bxP (rd l y.toNat))) (Kv (rd l x.toNat).s (rd l y.toNat).s (bxP (rd l y.toNat))) (rd l x.toNat).s
def Wp (l:List Pa) (x y:Int):List R7:=y7s (Qi l x y) (stpL l x y)
def z2r (l:List Pa) (_ _:Int):Bool:=smP l
theorem j2m (l:List Pa) (x y:Int) (h:z2r l x y=true): ∃n,Zt (We l x y) n (y3q l x y)=.ret (z8w (Qi l x y) (stpL l x y)):=by
 have h:smP l=true:=h;unfold y3q Qi;simp only [Zc,show Uu l=true from h,Ab];rcases Yw (z0c l != 0) with q | q
 ·exact ⟨0,by rw [q,Ab,Ab,Vn _ q];rfl⟩
 by_cases g1:x<0
 ·exact ⟨0,by rw [q,An g1];rfl⟩
 by_cases g2:x≥(l.length:Int)
 ·exact ⟨0,by rw [q,AB g1,An g2];rfl⟩
 by_cases g3:y<0
 ·exact ⟨0,by rw [q,AB g1,AB g2,An g3];rfl⟩
 by_cases g4:y≥(l.length:Int)
 ·exact ⟨0,by rw [q,AB g1,AB g2,AB g3,An g4];rfl⟩
 rcases Yw (x == y) with q2 | q2
 ·exact ⟨0,by rw [q,AB g1,AB g2,AB g3,AB g4,q2];rfl⟩
 have hx:0≤x∧x<(l.length:Int):=by omega
 have hy:0≤y∧y<(l.length:Int):=by omega
 obtain ⟨n,hn⟩:=u6q l x y hx (y0x (by simpa using q) (show Int.toNat x<l.length by omega)).2 hy (y0x (by simpa using q) (show Int.toNat y<l.length by omega)).2 6 0 [] rfl (Ay _)
 grind [v2k,stpL]
def fStp :List AVal→Option (AVal×Bool)
 | [a0,.int .i64 x1,.int .i64 x2]=>match asL Pa a0 with
  | some (L0,g0,n0)=>some (.tup [.dat (Wp L0 x1 x2).length (Zz (Wp L0 x1 x2)),.int .i64 (Qi L0 x1 x2)],isT Pa n0 g0&&(z2r L0 x1 x2))
  | _=>none
 | _=>none
theorem j7m {S:Specs} (hS:Zu prog S):Zu prog (S.with nStep fStp):=by
 refine w6l hS (by kernel_rfl) fun args v h=> ?_;unfold fStp at h;split at h
 ·rename_i a0 x1 x2;split at h
  ·rename_i L0 g0 n0 e0;simp only [Ad,Ac,Ae] at h;obtain ⟨rfl,ho0,hw⟩:=h;obtain ⟨N,hN⟩:=j2m L0 x1 x2 hw;exact ⟨_,_,(.cons (Yh e0 ho0) (.cons (.refl _) (.cons (.refl _) .nil))),z0n _ _,u0j L0 x1 x2 N _ hN,3,z5f _ _⟩
  ·cases h
 ·cases h
def Vg0 :Specs:=((Vc.with nSkin fSkn).with nStep fStp)
theorem Vg0_ok :Zu prog Vg0:=(j7m (j7q Xx))
def eqB (t r:R6):Bool:=(((t.a == r.a)&&((t.b == r.b)&&((t.c == r.c)&&true)))&&(((t.d == r.d)&&((t.e == r.e)&&((t.f == r.f)&&true)))&&true))
def w9f (x y:R6):R6:=y0l x.a x.b x.c x.d x.e x.f y.a y.b y.c y.d y.e y.f
def rvbR (x:R6):Bool:=rvbV x.a x.b x.c x.d x.e x.f
def o6 :R6:=⟨0,0,0,0,0,0⟩
def j5p (l:List Pa) (i:Nat):Bool:= !rvbR (bxP (rd l i))||((rd l i).s.any (fun r=> !eqB (w9f r (bxP (rd l i))) r)||(l.take i).any fun y=> !eqB (w9f (bxP (rd l i)) (bxP y)) o6)
def rkG (l:List Pa):Nat→Nat→Int
 | 0,_=>0
 | k+1,i=>bif j5p l i then 8 else rkG l k (i+1)
def rkE :List Pa→Int
 | []=>0
 | x::r=>bif z1w x.s != 0 then z1w x.s else rkE r
def u9a (l:List Pa):Int:=bif decide (50<l.length) then 4 else bif rkE l != 0 then rkE l else rkG l l.length 0
def z8r (l:List Pa):Bool:=smP l
theorem v2l {l:List Pa} {i j:Nat} (hj:j<i) (hi:i≤l.length):(l.take i).drop j=rd l j::(l.take i).drop (j+1):=by
 have h1:j<(l.take i).length :=by grind
 rw [Bu h1,BE,Yr (show j<l.length by omega)]
section
variable (l:List Pa) (hl:l.length≤1000)
include hl
theorem u8w (i:Nat) (hi:i<l.length): ∀(k j:Nat),j+k=i→ ∃n,∀N,Zt (Ve l) (N+n) (.to (.h3 (i:Int) (j:Int)))=bif ((l.take i).drop j).any (fun y=> !eqB (w9f (bxP (rd l i)) (bxP y)) o6) then .ret [.int .i64 8] else Zt (Ve l) N (.to (.h1 ((i+1:Nat):Int)))
 | 0,j,h=>by
  refine ⟨1,fun N=> ?_⟩
  grind [Zw,Ve,Zk]
 | k+1,j,h=>by
  have hj:j<i:=by omega
  obtain ⟨n,hn⟩:=u8w i hi k (j+1) (by omega);refine ⟨n+1,fun N=> ?_⟩;rw [←AD,Zw,v2l hj (by omega),BJ];have e:Ve l (.h3 (i:Int) (j:Int))=bif !eqB (w9f (bxP (rd l i)) (bxP (rd l j))) o6 then .ret [.int .i64 8] else .to (.h3 (i:Int) ((j+1:Nat):Int)):=by
   grind [Ve,eqB,w9f,bxP,o6,Zk]
  grind [Zp]
theorem u8x (hs:smP l=true) (i:Nat) (hi:i<l.length): ∀(k j:Nat),j+k=(rd l i).s.length → ∃n,∀N,Zt (Ve l) (N+n) (.to (.h2 (i:Int) (j:Int)))=bif ((rd l i).s.drop j).any (fun r=> !eqB (w9f r (bxP (rd l i))) r)||(l.take i).any (fun y=> !eqB (w9f (bxP (rd l i)) (bxP y)) o6) then .ret [.int .i64 8] else Zt (Ve l) N (.to (.h1 ((i+1:Nat):Int)))
 | 0,j,h=>by obtain ⟨n,hn⟩:=u8w l hl i hi i 0 (by omega);refine ⟨n+1,fun N=> ?_⟩;rw [←AD,Zw,As (by omega)];simp_all [Ve]
 | k+1,j,h=>by
  have hS:=w4h hs hi;have hj:j<(rd l i).s.length :=by omega
  obtain ⟨n,hn⟩:=u8x hs i hi k (j+1) (by omega);refine ⟨n+1,fun N=> ?_⟩;rw [←AD,Zw,Yg hj,BJ];have e:Ve l (.h2 (i:Int) (j:Int))=bif !eqB (w9f (rd (rd l i).s j) (bxP (rd l i))) (rd (rd l i).s j) then .ret [.int .i64 8] else .to (.h2 (i:Int) ((j+1:Nat):Int)):=by simp (disch:=omega) only [Ve,eqB,w9f,bxP,Zs,Zo,Zk,Zx,Zj,Ah,Ab]
  grind [Zp]
theorem u8y (hs:smP l=true): ∀(k i:Nat),i+k=l.length→ ∃n,Zt (Ve l) n (.to (.h1 (i:Int)))=.ret [.int .i64 (rkG l k i)]
 | 0,i,h=>by refine ⟨1,?_⟩;rw [Zw];simp (disch:=omega) only [Ve,Ye,Aa,Zp];rfl
 | k+1,i,h=>by
  have hi:i<l.length:=by omega
  obtain ⟨m,hm⟩:=u8y hs k (i+1) (by omega);obtain ⟨n,hn⟩:=u8x l hl hs i hi (rd l i).s.length 0 (Af _);refine ⟨m+n+1,?_⟩;have e:Ve l (.h1 (i:Int))=bif !rvbR (bxP (rd l i)) then .ret [.int .i64 8] else .to (.h2 (i:Int) ((0:Nat):Int)):=by simp_all [Ve,rvbR,bxP]
  rw [Zw,e];show _=Xw.ret [.int .i64 (bif j5p l i then 8 else rkG l k (i+1))];unfold j5p;rcases Yw (!rvbR (bxP (rd l i))) with q | q;all_goals grind [Zp]
theorem u8z (hs:smP l=true): ∀(k i:Nat),i+k=l.length→ ∃n,Zt (Ve l) n (.to (.h0 (i:Int)))=.ret [.int .i64 (bif rkE (l.drop i) != 0 then rkE (l.drop i) else rkG l l.length 0)]
 | 0,i,h=>by obtain ⟨m,hm⟩:=u8y l hl hs l.length 0 (Af _);refine ⟨m+1,?_⟩;rw [Zw,As (by omega)];simp (disch:=omega) only [Ve,Ye,Aa];exact hm
 | k+1,i,h=>by
  have hi:i<l.length:=by omega
  obtain ⟨m,hm⟩:=u8z hs k (i+1) (by omega);refine ⟨m+1,?_⟩;have e:Ve l (.h0 (i:Int))=bif z1w (rd l i).s != 0 then .ret [.int .i64 (z1w (rd l i).s)] else .to (.h0 ((i+1:Nat):Int)):=by
   grind [Ve,Zc,y6p,Zk]
  rw [Zw,e,Yg hi];unfold rkE;rcases Yw (z1w (rd l i).s != 0) with q | q;all_goals grind [Zp]
end
theorem j4q (l:List Pa) (h:z8r l=true): ∃n,Zt (Ve l) n (y4k l)=.ret [.int .i64 (u9a l)]:=by
 have hl:=z2l h;unfold y4k u9a;by_cases g:50<l.length
 ·exact ⟨0,by rw [Ys (by omega),An g];rfl⟩
 ·obtain ⟨n,hn⟩:=u8z l hl h l.length 0 (Af _)
  grind
def fRlc :List AVal→Option (AVal×Bool)
 | [a0]=>match asL Pa a0 with
  | some (L0,g0,n0)=>some (.int .i64 (u9a L0),isT Pa n0 g0&&(z8r L0))
  | _=>none
 | _=>none
theorem j7y {S:Specs} (hS:Zu prog S):Zu prog (S.with nRlc fRlc):=by
 refine z0k hS (by kernel_rfl) fun args v h=> ?_;unfold fRlc at h;split at h
 ·rename_i a0;split at h
  ·rename_i L0 g0 n0 e0;simp only [Ad,Ac,Ae] at h;obtain ⟨rfl,ho0,hw⟩:=h;obtain ⟨N,hN⟩:=j4q L0 hw;exact ⟨_,_,(.cons (Yh e0 ho0) .nil),rfl,u2e L0 N _ hN,3,rfl⟩
  ·cases h
 ·cases h
inductive rtwS where
 | h0 (v3:List Pa) (v4:Int)
def x9g (l0:List Pa):rtwS→Xw rtwS
 | .h0 v3 v4=>(bif (decide (v4<(l0.length:Int))) then (bif ((decide (0≤v4∧v4<(l0.length:Int)))&&true) then (bif (y5r (cvT (rd l0 v4.toNat).s)) then (bif (Nat.beq 7 7&&((decide (0+v3.length=v3.length))&&decide ((v3.length+1+1)*(72+1)≤Jo))) then (.to (.h0 (v3++[(Pa.mk (rd l0 v4.toNat).a (rd l0 v4.toNat).b (rd l0 v4.toNat).c (rd l0 v4.toNat).d (rd l0 v4.toNat).e (rd l0 v4.toNat).f (twiV (cvT (rd l0 v4.toNat).s)))]) (wrap .i64 (v4+1)))) else .stuck) else .stuck) else .stuck) else (.ret [(.dat v3.length (Zz v3))]))
theorem chg {L:List R2} (h:Can L) {y:Int} (hy:y∈y0g L) (hS:pt L (y - 1)↔pt L y):False:=by
 obtain ⟨s,hs,h1⟩:=AJ.1 hy;have hp:=h.pos s hs;have sepL: ∀t∈L,t=s∨t.b<s.a∨s.b<t.a:=fun t ht=>by
  obtain ⟨i,hi,ei⟩:=AN hs;obtain ⟨j,hj,ej⟩:=AN ht;have pw:=A1.1 h.sep
  grind
 simp only [AI,Bl,BS] at h1;rcases h1 with rfl | rfl
 ·obtain ⟨t,ht,t1,t2⟩:=hS.2 ⟨s,hs,A3 _,hp⟩
  grind
 ·obtain ⟨t,ht,t1,t2⟩:=hS.1 ⟨s,hs,by omega,by omega⟩
  grind
theorem y6x : ∀(l S:List Int),l.Pairwise (· ≠ ·)→(∀x∈l,x∈S)→l.length≤S.length
 | [],S,_,_=>Ay _
 | x::l,S,h,hs=>by
  obtain ⟨h1,h2⟩:=AR.1 h;have hx:=hs x (by simp);have:=y6x l (S.erase x) h2 fun y hy=>(List.mem_erase_of_ne (fun e=>h1 y hy e.symm)).2 (hs y (by simp [hy]))
  grind
theorem j2d {a b:List R2} (ha:a.all z1n=true) (hb:b.all z1n=true):(spJ 2 a b).length +(spJ 2 b a).length ≤a.length+b.length:=by
 obtain ⟨c1,p1⟩:=y0t 2 ha hb;obtain ⟨c2,p2⟩:=y0t 2 hb ha;have q1: ∀y,pt (spJ 2 a b) y↔pt a y∧ ¬pt b y:=fun y=>by rw [show pt (spJ 2 a b) y↔_ from p1 y];unfold opB;simp
 have q2: ∀y,pt (spJ 2 b a) y↔pt b y∧ ¬pt a y:=fun y=>by rw [show pt (spJ 2 b a) y↔_ from p2 y];unfold opB;simp
 have f: ∀y:Int,∃z,(z=2*y∧ ¬(pt a (y - 1)↔pt a y))∨(z=2*y+1∧(pt a (y - 1)↔pt a y)):=fun y=>by
  by_cases h:pt a (y - 1)↔pt a y;all_goals simp_all
 have g: ∀y:Int,∃z,(z=2*y+1∧ ¬(pt b (y - 1)↔pt b y))∨(z=2*y∧(pt b (y - 1)↔pt b y)):=fun y=>by
  by_cases h:pt b (y - 1)↔pt b y;all_goals simp_all
 obtain ⟨f,hf⟩:=Classical.axiomOfChoice f;obtain ⟨g,hg⟩:=Classical.axiomOfChoice g;have key:=y6x ((y0g (spJ 2 a b)).map f++(y0g (spJ 2 b a)).map g) ((y0g a).map (2* ·)++(y0g b).map (2* · +1)) (by
  refine By.2 ⟨List.pairwise_map.2 ((y0f c1).imp fun {x y} h=> ?_),List.pairwise_map.2 ((y0f c2).imp fun {x y} h=> ?_),?_⟩
  ·grind
  ·grind
  ·intro x hx z hz;obtain ⟨y,hy,rfl⟩:=AO.1 hx;obtain ⟨y',hy',rfl⟩:=AO.1 hz;intro e;have e1:y'=y:=by have:=hf y;have:=hg y';omega
   subst e1;have n1:=chg c1 hy;have n2:=chg c2 hy'
   grind) (by
  intro x hx;rcases AH.1 hx with hx | hx
  ·obtain ⟨y,hy,rfl⟩:=AO.1 hx;have n1:=chg c1 hy
   grind [x3c]
  ·obtain ⟨y,hy,rfl⟩:=AO.1 hx;have n1:=chg c2 hy
   grind [x3c])
 grind [z2g]
theorem y1w : ∀(l m:List Int),l.Pairwise (· < ·)→m.Pairwise (· < ·)→(∀x,x∈l↔x∈m)→l=m
 | [],[],_,_,_=>rfl
 | [],y::m,_,_,h=>by have:=(h y).2 (by simp);cases this
 | x::l,[],_,_,h=>by have:=(h x).1 (by simp);cases this
 | x::l,y::m,hl,hm,h=>by
  obtain ⟨l1,l2⟩:=AR.1 hl;obtain ⟨m1,m2⟩:=AR.1 hm;have e:x=y:=by
   have hx:=(h x).1 (by simp);have hy:=(h y).2 (by simp);rcases AI.1 hx with hx | hx
   ·exact hx
   ·rcases AI.1 hy with hy | hy
    ·exact hy.symm
    ·have:=l1 y hy;have:=m1 x hx;omega
  subst e
  congr 1
  refine y1w l m l2 m2 fun z=>⟨fun hz=> ?_,fun hz=> ?_⟩
  ·have:=l1 z hz;rcases AI.1 ((h z).1 (by simp [hz])) with q | q
   ·omega
   ·exact q
  ·have:=m1 z hz;rcases AI.1 ((h z).2 (by simp [hz])) with q | q
   ·omega
   ·exact q
namespace Dim
variable {α β:Type} {D:Dim α β}
theorem w6p (l:List α):(D.cuts l).Pairwise (· < ·):=by show (Jg (D.ends l)).Pairwise (· < ·);rw [Js];exact (Wx _).1
theorem u5q (l:List α) (x:Int):x∈D.cuts l↔x∈D.ends l:=by show x∈Jg (D.ends l)↔_;rw [Js];exact (Wx _).2 x
theorem u5m (l:List α) (x:Int):x∈D.ends l↔ ∃r∈l,x=D.lo r∨x=D.hi r:=by
 induction l with
 | nil=>exact ⟨fun h=>(by cases h),fun ⟨r,h,_⟩=>(by cases h)⟩
 | cons r l ih=>
  show x∈D.lo r::D.hi r::D.ends l↔_
  grind
theorem cuts_comm (a b:List α):D.cuts (a++b)=D.cuts (b++a):=y1w _ _ (w6p _) (w6p _) fun x=>by
 grind [u5q,u5m]
end Dim
theorem u2z {a b:List R4} (ha: ∀r∈a,Vi r=true) (hb: ∀r∈b,Vi r=true):(rgJ 2 a b).length +(rgJ 2 b a).length ≤(a.length+b.length)*(a.length+b.length):=by
 have hv: ∀r∈a++b,D4.lo r<D4.hi r:=fun r hr=>by
  have hv:Vi r=true:=by
   grind
  simp only [Vi,Ae,At] at hv;exact hv.1
 have g1:=D4.goS_length (fun x=>spJ 2 (D4.inn a x) (D4.inn b x)) (D4.cuts (a++b)) ((D4.cuts (a++b)).length - 1) 0 ⟨[],[],0,0⟩;have g2:=D4.goS_length (fun x=>spJ 2 (D4.inn b x) (D4.inn a x)) (D4.cuts (a++b)) ((D4.cuts (a++b)).length - 1) 0 ⟨[],[],0,0⟩;have h2:=D4.open_sum (a++b) hv ((D4.cuts (a++b)).length - 1) (Nat.sub_le _ _);have e1:(rgJ 2 b a).length =(D4.goS (fun x=>spJ 2 (D4.inn b x) (D4.inn a x)) (D4.cuts (a++b)) ((D4.cuts (a++b)).length - 1) 0 ⟨[],[],0,0⟩).out.length :=by unfold rgJ;rw [Dim.cuts_comm b a]
 have e2:(rgJ 2 a b).length =(D4.goS (fun x=>spJ 2 (D4.inn a x) (D4.inn b x)) (D4.cuts (a++b)) ((D4.cuts (a++b)).length - 1) 0 ⟨[],[],0,0⟩).out.length :=rfl;rw [e1,e2];rw [AP] at h2;refine AE (Nat.add_le_add g1 g2) (AE ?_ h2);simp only [List.length_nil,Af];generalize (D4.cuts (a++b)).length - 1=k
 induction k with
 | zero=>grind
 | succ k ih=>rw [BD,Bj,Bj,Bj,BB,BB,BB];have:=j2d (Jf ha (rd (D4.cuts (a++b)) k)) (Jf hb (rd (D4.cuts (a++b)) k));simp only [AU,BA,BK,List.sum_nil];rw [D4.inn_append,AP];omega
open Go.Proofs Go.Sort Go.Shelf Go.RowKit Go.Lib
def rowQ (P:Int→Int→Bool) (x:Int):Nat→Int→List R4
 | 0,_=>[]
 | k+1,y=>(bif P x y then [⟨x,y,x+1,y+1⟩] else [])++rowQ P x k (y+1)
def gridQ (P:Int→Int→Bool) (m:Nat) (y:Int):Nat→Int→List R4
 | 0,_=>[]
 | k+1,x=>rowQ P x m y++gridQ P m y k (x+1)
def uX (L:List R6) (i:Int):List Int:=bif i == 0 then cu9V L 1 else cu9V L 0
def uY (L:List R6) (i:Int):List Int:=bif i == 0 then cu9V L 2 else bif i == 1 then cu9V L 2 else cu9V L 1
def lastI (xs:List Int):Int:=rd xs (xs.length - 1)
def spanI (xs:List Int):Nat:=(lastI xs - rd xs 0).toNat
def wantQ (m:R6) (a p x y:Int):Bool:=bif eqB m o6 then true else ribV m.a m.b m.c m.d m.e m.f (u3k a p x y).a (u3k a p x y).b (u3k a p x y).c
def condQ (S N:List R6) (m:R6) (a own oth x y:Int):Bool:=wantQ m a oth x y&&(rh6V S (u3k a own x y).a (u3k a own x y).b (u3k a own x y).c && !rh6V N (u3k a oth x y).a (u3k a oth x y).b (u3k a oth x y).c)
def faceQ (S N:List R6) (m:R6) (d p:Int):List R4:=joV 2 (gridQ (condQ S N m (dhA d) (w0p d p) (y8u d p)) (spanI (uY S (dhA d))) (rd (uY S (dhA d)) 0) (spanI (uX S (dhA d))) (rd (uX S (dhA d)) 0)) []
def j0f (S:List R6):Bool:=decide (S.length≤6)&&S.all fun r=>decide (-12≤r.a∧r.a≤12)&&(decide (-12≤r.b∧r.b≤12)&&(decide (-12≤r.c∧r.c≤12)&&(decide (-12≤r.d∧r.d≤12)&&(decide (-12≤r.e∧r.e≤12)&&decide (-12≤r.f∧r.f≤12)))))
open Go.Proofs.Tryz
inductive swoS where
def swoC (l0:List Pa):swoS→Cfg
 :=nofun
def x8a (l0:List Pa):swoS→Xw swoS
 :=nofun
def y3n (l0:List Pa):Xw swoS:=(bif (Uu (cvT l0)) then (bif ((z0c (cvT l0)) != 0) then (.ret [.nils,(.int .i64 (z0c (cvT l0)))]) else (bif (Qh (cvT l0)) then (.ret [(.dat (Yu (cvT l0)).length (Zz (Yu (cvT l0)))),(.int .i64 (z0i (cvT l0)))]) else .stuck)) else .stuck)
theorem w7e (l0:List Pa): ∀s,Xv prog (Zy prog 14) (swoC l0) (swoC l0 s) (x8a l0 s)
 :=nofun
theorem x8b (l0:List Pa):Xv prog (Zy prog 14) (swoC l0) (Za prog 14 [(.dat l0.length (Zz l0))] true []) (y3n l0):=(lo fun bP=>(lb (fun k0=>(lr 14 14 [1,0,1,1,0,0] 1 14 [(2,.nils),(3,(ii (z0c (cvT l0))))] (sl Xx 24 [] ⟨[],[],[some [2,3]],[]⟩ ⟨[],[],[]⟩ [true] (tt k0 (pp (pp (xr l0) (xw bP)) nn))))) (fun k0=>(lo fun o0=>(lr 14 3 [1,1,1,1,0] 1 14 [(2,(.dat (Yu (cvT l0)).length (Zz (Yu (cvT l0))))),(3,(ii (z0i (cvT l0))))] (sl Xx 28 [] ⟨[],[],[some [2,3]],[]⟩ ⟨[],[],[]⟩ [false] (pp (pp (xr l0) (xw o0)) (tt k0 (pp (pp (xr l0) (xw bP)) nn)))))))))
theorem u0f (l0:List Pa) (n:Nat) (vs:List AVal) (h:Zt (x8a l0) n (y3n l0)=.ret vs):Uv prog (Zy prog 14) (Za prog 14 [(.dat l0.length (Zz l0))] true []) vs:=by have:=Ze (w7e l0) n _ (x8b l0);rwa [h] at this
def z1u (l:List Pa):Int:=bif z0c l != 0 then z0c l else z0i l
def Uo (l:List Pa):List R6:=y7s (z1u l) (whL [] l)
def z8b (l:List Pa):Bool:=smP l
theorem j2g (l:List Pa) (h:z8b l=true): ∃n,Zt (x8a l) n (y3n l)=.ret (bif z0c l != 0 then [.nils,.int .i64 (z0c l)] else [.dat (Yu l).length (Zz (Yu l)),.int .i64 (z0i l)]):=⟨0,by
 have h:smP l=true:=h;have o2:Qh l=true:=An (z2l h);unfold y3n;simp only [Zc,show Uu l=true from h,o2,Ab];cases z0c l != 0 <;> rfl⟩
def fSwo :List AVal→Option (AVal×Bool)
 | [a0]=>match asL Pa a0 with
  | some (L0,g0,n0)=>some (.tup [.dat (Uo L0).length (Zz (Uo L0)),.int .i64 (z1u L0)],isT Pa n0 g0&&(z8b L0))
  | _=>none
 | _=>none
theorem j2f (l:List Pa) (ρ:Rho) (u:Value) (hu:Yy ρ (Up (bif z0c l != 0 then [.nils,.int .i64 (z0c l)] else [.dat (Yu l).length (Zz (Yu l)),.int .i64 (z0i l)])) u):Yy ρ (.tup [.dat (Uo l).length (Zz (Uo l)),.int .i64 (z1u l)]) u:=by
 unfold Uo z1u;rcases Yw (z0c l != 0) with q | q
 ·grind [z0n,Vn]
 ·rw [q,Aa] at hu ⊢;exact hu
theorem j7j {S:Specs} (hS:Zu prog S):Zu prog (S.with v6m fSwo):=by
 refine w6l hS (by kernel_rfl) fun args v h=> ?_;unfold fSwo at h;split at h
 ·rename_i a0;split at h
  ·rename_i L0 g0 n0 e0;simp only [Ad,Ac,Ae] at h;obtain ⟨rfl,ho0,hw⟩:=h;obtain ⟨N,hN⟩:=j2g L0 hw;exact ⟨_,_,(.cons (Yh e0 ho0) .nil),j2f L0,u0f L0 N _ hN,3,by cases z0c L0 != 0 <;> rfl⟩
  ·cases h
 ·cases h
theorem twi_id (L:List R6):twiV L=L:=rfl
theorem rtw_h0 (l:List Pa) (hs:smP l=true): ∀(k i:Nat) (acc:List Pa),i+k=l.length→acc=l.take i→ ∃n,Zt (x9g l) n (.to (.h0 acc (i:Int)))=.ret [.dat l.length (Zz l)]
 | 0,i,acc,h,ha=>by
  have hl:=z2l hs;refine ⟨1,?_⟩
  grind [Zw,x9g,Zp]
 | k+1,i,acc,h,ha=>by
  have hl:=z2l hs;have hi:i<l.length:=by omega
  have hS:=w4h hs hi;have hle:acc.length=i:=by grind
  obtain ⟨n,hn⟩:=rtw_h0 l hs k (i+1) (acc++[rd l i]) (by omega) (by
   simp_all [Yr])
  refine ⟨n+1,?_⟩;rw [Zw,←hn]
  congr 1
  have m1:decide (0+acc.length=acc.length)=true:=An (by omega);have b7:Nat.beq 7 7=true:=rfl;have oT:y5r (rd l i).s =true:=An hS;simp (disch:=omega) only [x9g,oT,twi_id,Zc,Zs,Zo,Zf,Zk,Zx,Zj,m1,b7,Ah,Ai,Ab]
def eqP (x y:Pa):Bool:=eqB (bxP x) (bxP y)&&Ka x.s y.s
def rlmF (l m:List Pa):Nat→Nat→Bool
 | 0,_=>true
 | k+1,i=>eqP (rd l i) (rd m i)&&rlmF l m k (i+1)
theorem rlm_h0 (l m:List Pa) (hs:smP l=true) (h6: ∀x∈l,x.s.length≤1000000) (hm:l.length=m.length): ∀(k i:Nat),i+k=l.length→ ∃n,Zt (y6i l m) n (.to (.h0 (i:Int)))=.ret [.bool (rlmF l m k i)]
 | 0,i,h=>by have hl:=z2l hs;refine ⟨1,?_⟩;rw [Zw];simp (disch:=omega) only [y6i,Ye,Aa,Zp];rfl
 | k+1,i,h=>by
  have hl:=z2l hs;have hi:i<l.length:=by omega
  obtain ⟨n,hn⟩:=rlm_h0 l m hs h6 hm k (i+1) (by omega);refine ⟨n+1,?_⟩;have o6': ∀y,Vz (rd l i).s y=true:=fun y=>An (h6 _ (by grind [Yr]));have e:y6i l m (.h0 (i:Int))=bif eqP (rd l i) (rd m i) then .to (.h0 ((i+1:Nat):Int)) else .ret [.bool false]:=by
   unfold eqP;cases q:eqB (bxP (rd l i)) (bxP (rd m i)) with
   | false=>
    grind [eqB,bxP,y6i]
   | true=>
    simp only [eqB,bxP,Ah] at q
    grind [y6i,Zc,Zk]
  grind [Zw,rlmF,Zp]
def nrX (x:Pa):Bool:= !decide ((x.s.length:Int)>6)&&(w9j x.s&&(x7s x.a x.b x.c (-2000000)&&x7s x.d x.e x.f (-2000000)))
def u2d (l:List Pa):Bool:=bif decide ((l.length:Int)>50) then decide ((l.length:Int)≤55) else l.all nrX&&decide ((l.length:Int)≤6)
def z8q (_l:List Pa):Bool:=true
theorem u8v (l:List Pa) (hl:l.length≤50): ∀(k i:Nat),i+k=l.length→ ∃n,Zt (z0z l) n (.to (.h0 (i:Int)))=.ret [.bool ((l.drop i).all nrX&&decide ((l.length:Int)≤6))]
 | 0,i,h=>by
  refine ⟨1,?_⟩
  grind [Zw,z0z,Zp]
 | k +1,i,h=>by
  have hi:i<l.length:=by omega
  obtain ⟨n,hn⟩:=u8v l hl k (i+1) (by omega);refine ⟨n+1,?_⟩;rw [Zw,Yg hi,List.all_cons];have e:z0z l (.h0 (i:Int))=bif nrX (rd l i) then .to (.h0 ((i+1:Nat):Int)) else .ret [.bool false]:=by
   unfold nrX;cases q1:decide (((rd l i).s.length :Int)>6) with
   | true=>grind [z0z]
   | false=>
    cases q2:w9j (rd l i).s with
    | false=>grind [z0z,Qk,Zc]
    | true=>
     cases q3:x7s (rd l i).a (rd l i).b (rd l i).c (-2000000) with
     | false=>grind [z0z,Qk]
     | true=>
      cases q4:x7s (rd l i).d (rd l i).e (rd l i).f (-2000000) with
      | false=>grind [z0z,Qk]
      | true=>grind [z0z,Qk,Zc,Zk]
  grind [Zp]
theorem j4p (l:List Pa) (h:z8q l=true): ∃n,Zt (z0z l) n (y4j l)=.ret [.bool (u2d l)]:=by
 unfold y4j u2d;by_cases g:(l.length:Int)>50
 ·exact ⟨0,by rw [Ys g];rfl⟩
 ·obtain ⟨n,hn⟩:=u8v l (by omega) l.length 0 (Af _)
  grind
def fRln :List AVal→Option (AVal×Bool)
 | [a0]=>match asL Pa a0 with
  | some (L0,g0,n0)=>some (.bool (u2d L0),isT Pa n0 g0&&(z8q L0))
  | _=>none
 | _=>none
theorem j7x {S:Specs} (hS:Zu prog S):Zu prog (S.with nRln fRln):=by
 refine z0k hS (by kernel_rfl) fun args v h=> ?_;unfold fRln at h;split at h
 ·rename_i a0;split at h
  ·rename_i L0 g0 n0 e0;simp only [Ad,Ac,Ae] at h;obtain ⟨rfl,ho0,hw⟩:=h;obtain ⟨N,hN⟩:=j4p L0 hw;exact ⟨_,_,(.cons (Yh e0 ho0) .nil),rfl,u2c L0 N _ hN,3,rfl⟩
  ·cases h
 ·cases h
def a7 (r:R7):Int:=marV r.a r.b r.c r.d r.e r.f r.g
theorem j6i {r:R7} (h0:0≤r.a) (h:v9u r=true):z2x r.a r.b r.c r.d r.e r.f r.g=true:=by
 grind [val7_a,z2x]
theorem owed_a {L:List R7} (h:z1c L=true) {r:R7} (hr:r∈L):0≤r.a:=by
 have:=Ar.1 h r hr
 grind
def y2p (L:List R7):Int:=bif w9n L != 0 then 0 else wrap .i64 (sm L a7)
def x1d (L:List R7):Int:=w9n L
def z9j (L:List R7):Bool:=z1c L
theorem j1d (L:List R7) (hl:L.length≤3000) (ho: ∀r∈L,0≤r.a∧v9u r=true): ∀(k i:Nat) (S:Int),i+k=L.length→ ∃N,Zt (y1j L) N (.to (.h0 (wrap .i64 S) (i:Int)))=.ret [.int .i64 (wrap .i64 (S+sm (L.drop i) a7)),.int .i64 0]
 | 0,i,S,h=>by
  refine ⟨1,?_⟩
  grind [Zw,u7b,y1j,Zp]
 | k+1,i,S,h=>by
  have hi:i<L.length:=by omega
  obtain ⟨N,hN⟩:=j1d L hl ho k (i+1) (S+a7 (rd L i)) (by omega);refine ⟨N+1,?_⟩;have hm:rd L i∈L:=by grind [Yr]
  have o:=j6i (ho _ hm).1 (ho _ hm).2;have w:wrap .i64 (wrap .i64 S+marV (rd L i).a (rd L i).b (rd L i).c (rd L i).d (rd L i).e (rd L i).f (rd L i).g)=wrap .i64 (S+a7 (rd L i)):=Cg.eq ((Cg.wrap S).add (Cg.refl _))
  grind [Zw,Yg,v3i,y1j,Zk,Zj]
theorem j6m (L:List R7) (h:z9j L=true): ∃N,Zt (y1j L) N (y4v L)=.ret [.int .i64 (y2p L),.int .i64 (x1d L)]:=by
 unfold y4v y2p x1d;simp only [Zc,show z1c L=true from h,Ab];rcases Yw (w9n L != 0) with q1 | q1
 ·exact ⟨0,by simp only [q1,Ab];rfl⟩
 ·have e:w9n L=0:=by grind
  obtain ⟨hl,hv⟩:=u3v e;obtain ⟨N,hN⟩:=j1d L hl (fun r hr=>⟨owed_a h hr,hv r hr⟩) L.length 0 0 (Af _);refine ⟨N,?_⟩;simp only [q1,Aa];rw [e];rw [AS,BN] at hN;exact hN
def fMAr :List AVal→Option (AVal×Bool)
 | [a0]=>match asL R7 a0 with
  | some (L0,g0,n0)=>some (.tup [.int .i64 (y2p L0),.int .i64 (x1d L0)],isT R7 n0 g0&&(z9j L0))
  | _=>none
 | _=>none
theorem j8m {S:Specs} (hS:Zu prog S):Zu prog (S.with j0p fMAr):=by
 refine z0k hS (by kernel_rfl) fun args v h=> ?_;unfold fMAr at h;split at h
 ·rename_i a0;split at h
  ·rename_i L0 g0 n0 e0;simp only [Ad,Ac,Ae] at h;obtain ⟨rfl,ho0,hw⟩:=h;obtain ⟨N,hN⟩:=j6m L0 hw;exact ⟨_,_,(.cons (Yh e0 ho0) .nil),rfl,u4f L0 N _ hN,3,rfl⟩
  ·cases h
 ·cases h
def W2 :Specs:=(((((Vg0.with v6m fSwo).with v6o fRsq).with nRln fRln).with nRlc fRlc).with j0h fSvo).with j0p fMAr
theorem z1g :Zu prog W2:=j8m (j7l (j7y (j7x (v7z (j7j Vg0_ok)))))
abbrev ld4 :List Pa:=[(Pa.mk 0 0 0 2 2 2 ([(R6.mk 0 0 0 2 2 1)]:List R6)),(Pa.mk 2 0 0 4 2 2 ([(R6.mk 2 0 0 4 2 2)]:List R6))]
inductive al4S where
def al4C :al4S→Cfg
 :=nofun
def w3n :al4S→Xw al4S
 :=nofun
def y5p :Xw al4S:=(bif (z8b (cvT ld4)) then (bif (z8c (cvT (Uo (cvT ld4)))) then (bif (z2r (cvT ld4) 1 0) then (bif (z2r (cvT ld4) 0 1) then (bif (z8f (cvT ld4) 0) then (bif (z9j (cvT (Km (cvT ld4) 0))) then (bif ((z1u (cvT ld4)) == 0) then (bif ((z4v (cvT (Uo (cvT ld4)))) == 0) then (bif ((z4h (cvT (Uo (cvT ld4)))) == 12) then (bif ((Qi (cvT ld4) 1 0) == 0) then (bif (z8l (cvT (Wp (cvT ld4) 1 0)) (cvT ([(R7.mk 1 2 0 1 2 2 2)]:List R7))) then (bif (rsqV (cvT (Wp (cvT ld4) 1 0)) (cvT ([(R7.mk 1 2 0 1 2 2 2)]:List R7))) then (bif ((Qi (cvT ld4) 0 1) == 0) then (bif ((((Wp (cvT ld4) 0 1).length :Nat):Int) == 0) then (bif ((y2k (cvT ld4) 0) == 0) then (bif ((x1d (cvT (Km (cvT ld4) 0))) == 0) then (.ret [(.bool ((y2p (cvT (Km (cvT ld4) 0))) == 14))]) else (.ret [(.bool false)])) else (.ret [(.bool false)])) else (.ret [(.bool false)])) else (.ret [(.bool false)])) else (.ret [(.bool false)])) else .stuck) else (.ret [(.bool false)])) else (.ret [(.bool false)])) else (.ret [(.bool false)])) else (.ret [(.bool false)])) else .stuck) else .stuck) else .stuck) else .stuck) else .stuck) else .stuck)
theorem v1j : ∀s,Xv prog (Zy prog 24) (al4C) (al4C s) (w3n s)
 :=nofun
theorem w3o :Xv prog (Zy prog 24) (al4C) (Za prog 24 [] true []) (y5p):=(Xd (sl z1g (C':=⟨⟨86,0,true⟩,(Wr prog 24 [1,0] 1),(Zg prog 24 [1,0] 1),none,(Zy prog 24),⟨Yk [(14,(.sl 0 0 2 (.un 7)))],Vv [⟨[(ii 0),(ii 0),(ii 0),(ii 2),(ii 2),(ii 2),(.dat ([(R6.mk 0 0 0 2 2 1)]:List R6).length (Zz ([(R6.mk 0 0 0 2 2 1)]:List R6))),(ii 2),(ii 0),(ii 0),(ii 4),(ii 2),(ii 2),(.dat ([(R6.mk 2 0 0 4 2 2)]:List R6).length (Zz ([(R6.mk 2 0 0 4 2 2)]:List R6)))],59,none⟩] 0,1,[],true⟩,[],.leaf⟩) 97 [] ⟨[6],[2,5],[some [14]],[]⟩ ⟨[],[.cells [.keep,.keep,.keep,.keep,.keep,.keep,.frz 1 ([(R6.mk 0 0 0 2 2 1)]:List R6).length (Xn [(ii 0),(ii 0),(ii 0),(ii 2),(ii 2),(ii 1)] 0 6) (Zz ([(R6.mk 0 0 0 2 2 1)]:List R6)),.keep,.keep,.keep,.keep,.keep,.keep,.frz 1 ([(R6.mk 2 0 0 4 2 2)]:List R6).length (Xn [(ii 2),(ii 0),(ii 0),(ii 4),(ii 2),(ii 2)] 0 6) (Zz ([(R6.mk 2 0 0 4 2 2)]:List R6))]],[]⟩ [] (pp (xZ (.dat 1 (Xn [(ii 0),(ii 0),(ii 0),(ii 2),(ii 2),(ii 1)] 0 6)) 1 (Xn [(ii 0),(ii 0),(ii 0),(ii 2),(ii 2),(ii 1)] 0 6)) (pp (xL 1 ([(R6.mk 0 0 0 2 2 1)]:List R6).length) (pp (xS 1 (Xn [(ii 0),(ii 0),(ii 0),(ii 2),(ii 2),(ii 1)] 0 6) (Zz ([(R6.mk 0 0 0 2 2 1)]:List R6))) (pp (xZ (.dat 1 (Xn [(ii 2),(ii 0),(ii 0),(ii 4),(ii 2),(ii 2)] 0 6)) 1 (Xn [(ii 2),(ii 0),(ii 0),(ii 4),(ii 2),(ii 2)] 0 6)) (pp (xL 1 ([(R6.mk 2 0 0 4 2 2)]:List R6).length) (pp (xS 1 (Xn [(ii 2),(ii 0),(ii 0),(ii 4),(ii 2),(ii 2)] 0 6) (Zz ([(R6.mk 2 0 0 4 2 2)]:List R6))) nn))))))) (Xd (sl z1g (C':=⟨⟨86,0,true⟩,(Wr prog 24 [1,0] 1),(Zg prog 24 [1,0] 1),none,(Zy prog 24),⟨Yk [(14,(.dat ld4.length (Zz ld4)))],Vv [] 0,0,[],true⟩,[],.leaf⟩) 0 [] ⟨[],[0],[some [14]],[]⟩ ⟨[(14,.frz 2 ld4.length (Xn [(ii 0),(ii 0),(ii 0),(ii 2),(ii 2),(ii 2),(.dat ([(R6.mk 0 0 0 2 2 1)]:List R6).length (Zz ([(R6.mk 0 0 0 2 2 1)]:List R6))),(ii 2),(ii 0),(ii 0),(ii 4),(ii 2),(ii 2),(.dat ([(R6.mk 2 0 0 4 2 2)]:List R6).length (Zz ([(R6.mk 2 0 0 4 2 2)]:List R6)))] 0 7) (Zz ld4))],[],[]⟩ [] (pp (xZ (.dat 2 (Xn [(ii 0),(ii 0),(ii 0),(ii 2),(ii 2),(ii 2),(.dat ([(R6.mk 0 0 0 2 2 1)]:List R6).length (Zz ([(R6.mk 0 0 0 2 2 1)]:List R6))),(ii 2),(ii 0),(ii 0),(ii 4),(ii 2),(ii 2),(.dat ([(R6.mk 2 0 0 4 2 2)]:List R6).length (Zz ([(R6.mk 2 0 0 4 2 2)]:List R6)))] 0 7)) 2 (Xn [(ii 0),(ii 0),(ii 0),(ii 2),(ii 2),(ii 2),(.dat ([(R6.mk 0 0 0 2 2 1)]:List R6).length (Zz ([(R6.mk 0 0 0 2 2 1)]:List R6))),(ii 2),(ii 0),(ii 0),(ii 4),(ii 2),(ii 2),(.dat ([(R6.mk 2 0 0 4 2 2)]:List R6).length (Zz ([(R6.mk 2 0 0 4 2 2)]:List R6)))] 0 7)) (pp (xL 2 ld4.length) (pp (xS 2 (Xn [(ii 0),(ii 0),(ii 0),(ii 2),(ii 2),(ii 2),(.dat ([(R6.mk 0 0 0 2 2 1)]:List R6).length (Zz ([(R6.mk 0 0 0 2 2 1)]:List R6))),(ii 2),(ii 0),(ii 0),(ii 4),(ii 2),(ii 2),(.dat ([(R6.mk 2 0 0 4 2 2)]:List R6).length (Zz ([(R6.mk 2 0 0 4 2 2)]:List R6)))] 0 7) (Zz ld4)) nn)))) (lo fun q0_0=>(lo fun q0_1=>(Xd (sl z1g (C':=⟨⟨86,0,true⟩,(Wr prog 24 [1,1,1,0] 1),(Zg prog 24 [1,1,1,0] 1),none,(Zy prog 24),⟨Yk [(2,(ii (z1u (cvT ld4)))),(3,(ii (z4h (cvT (Uo (cvT ld4)))))),(4,(ii (z4v (cvT (Uo (cvT ld4)))))),(24,(.sl 0 0 2 (.un 7)))],Vv [⟨[(ii 0),(ii 0),(ii 0),(ii 2),(ii 2),(ii 2),(.dat ([(R6.mk 0 0 0 2 2 1)]:List R6).length (Zz ([(R6.mk 0 0 0 2 2 1)]:List R6))),(ii 2),(ii 0),(ii 0),(ii 4),(ii 2),(ii 2),(.dat ([(R6.mk 2 0 0 4 2 2)]:List R6).length (Zz ([(R6.mk 2 0 0 4 2 2)]:List R6)))],59,none⟩] 0,1,[],true⟩,[],.leaf⟩) 110 [] ⟨[6],[2,5],[some [2,3,4,24]],[]⟩ ⟨[],[.cells [.keep,.keep,.keep,.keep,.keep,.keep,.frz 1 ([(R6.mk 0 0 0 2 2 1)]:List R6).length (Xn [(ii 0),(ii 0),(ii 0),(ii 2),(ii 2),(ii 1)] 0 6) (Zz ([(R6.mk 0 0 0 2 2 1)]:List R6)),.keep,.keep,.keep,.keep,.keep,.keep,.frz 1 ([(R6.mk 2 0 0 4 2 2)]:List R6).length (Xn [(ii 2),(ii 0),(ii 0),(ii 4),(ii 2),(ii 2)] 0 6) (Zz ([(R6.mk 2 0 0 4 2 2)]:List R6))]],[]⟩ [] (pp (xZ (.dat 1 (Xn [(ii 0),(ii 0),(ii 0),(ii 2),(ii 2),(ii 1)] 0 6)) 1 (Xn [(ii 0),(ii 0),(ii 0),(ii 2),(ii 2),(ii 1)] 0 6)) (pp (xL 1 ([(R6.mk 0 0 0 2 2 1)]:List R6).length) (pp (xS 1 (Xn [(ii 0),(ii 0),(ii 0),(ii 2),(ii 2),(ii 1)] 0 6) (Zz ([(R6.mk 0 0 0 2 2 1)]:List R6))) (pp (xZ (.dat 1 (Xn [(ii 2),(ii 0),(ii 0),(ii 4),(ii 2),(ii 2)] 0 6)) 1 (Xn [(ii 2),(ii 0),(ii 0),(ii 4),(ii 2),(ii 2)] 0 6)) (pp (xL 1 ([(R6.mk 2 0 0 4 2 2)]:List R6).length) (pp (xS 1 (Xn [(ii 2),(ii 0),(ii 0),(ii 4),(ii 2),(ii 2)] 0 6) (Zz ([(R6.mk 2 0 0 4 2 2)]:List R6))) (pp (pp (xI R6 (Uo (cvT ld4)).length (Zz (Uo (cvT ld4)))) (xw q0_1)) (pp (pp (xI Pa ld4.length (Zz ld4)) (xw q0_0)) nn))))))))) (Xd (sl z1g (C':=⟨⟨86,0,true⟩,(Wr prog 24 [1,1,1,0] 1),(Zg prog 24 [1,1,1,0] 1),none,(Zy prog 24),⟨Yk [(2,(ii (z1u (cvT ld4)))),(3,(ii (z4h (cvT (Uo (cvT ld4)))))),(4,(ii (z4v (cvT (Uo (cvT ld4)))))),(24,(.dat ld4.length (Zz ld4)))],Vv [] 0,0,[],true⟩,[],.leaf⟩) 0 [] ⟨[],[0],[some [2,3,4,24]],[]⟩ ⟨[(24,.frz 2 ld4.length (Xn [(ii 0),(ii 0),(ii 0),(ii 2),(ii 2),(ii 2),(.dat ([(R6.mk 0 0 0 2 2 1)]:List R6).length (Zz ([(R6.mk 0 0 0 2 2 1)]:List R6))),(ii 2),(ii 0),(ii 0),(ii 4),(ii 2),(ii 2),(.dat ([(R6.mk 2 0 0 4 2 2)]:List R6).length (Zz ([(R6.mk 2 0 0 4 2 2)]:List R6)))] 0 7) (Zz ld4))],[],[]⟩ [] (pp (xZ (.dat 2 (Xn [(ii 0),(ii 0),(ii 0),(ii 2),(ii 2),(ii 2),(.dat ([(R6.mk 0 0 0 2 2 1)]:List R6).length (Zz ([(R6.mk 0 0 0 2 2 1)]:List R6))),(ii 2),(ii 0),(ii 0),(ii 4),(ii 2),(ii 2),(.dat ([(R6.mk 2 0 0 4 2 2)]:List R6).length (Zz ([(R6.mk 2 0 0 4 2 2)]:List R6)))] 0 7)) 2 (Xn [(ii 0),(ii 0),(ii 0),(ii 2),(ii 2),(ii 2),(.dat ([(R6.mk 0 0 0 2 2 1)]:List R6).length (Zz ([(R6.mk 0 0 0 2 2 1)]:List R6))),(ii 2),(ii 0),(ii 0),(ii 4),(ii 2),(ii 2),(.dat ([(R6.mk 2 0 0 4 2 2)]:List R6).length (Zz ([(R6.mk 2 0 0 4 2 2)]:List R6)))] 0 7)) (pp (xL 2 ld4.length) (pp (xS 2 (Xn [(ii 0),(ii 0),(ii 0),(ii 2),(ii 2),(ii 2),(.dat ([(R6.mk 0 0 0 2 2 1)]:List R6).length (Zz ([(R6.mk 0 0 0 2 2 1)]:List R6))),(ii 2),(ii 0),(ii 0),(ii 4),(ii 2),(ii 2),(.dat ([(R6.mk 2 0 0 4 2 2)]:List R6).length (Zz ([(R6.mk 2 0 0 4 2 2)]:List R6)))] 0 7) (Zz ld4)) nn)))) (lo fun q0_0=>(Xd (sl z1g (C':=⟨⟨86,0,true⟩,(Wr prog 24 [1,1,1,1,0] 1),(Zg prog 24 [1,1,1,1,0] 1),none,(Zy prog 24),⟨Yk [(2,(ii (z1u (cvT ld4)))),(3,(ii (z4h (cvT (Uo (cvT ld4)))))),(4,(ii (z4v (cvT (Uo (cvT ld4)))))),(5,(.dat (Wp (cvT ld4) 1 0).length (Zz (Wp (cvT ld4) 1 0)))),(6,(ii (Qi (cvT ld4) 1 0))),(29,(.sl 0 0 2 (.un 7)))],Vv [⟨[(ii 0),(ii 0),(ii 0),(ii 2),(ii 2),(ii 2),(.dat ([(R6.mk 0 0 0 2 2 1)]:List R6).length (Zz ([(R6.mk 0 0 0 2 2 1)]:List R6))),(ii 2),(ii 0),(ii 0),(ii 4),(ii 2),(ii 2),(.dat ([(R6.mk 2 0 0 4 2 2)]:List R6).length (Zz ([(R6.mk 2 0 0 4 2 2)]:List R6)))],59,none⟩] 0,1,[],true⟩,[],.leaf⟩) 100 [] ⟨[6],[2,5],[some [2,3,4,5,6,29]],[]⟩ ⟨[],[.cells [.keep,.keep,.keep,.keep,.keep,.keep,.frz 1 ([(R6.mk 0 0 0 2 2 1)]:List R6).length (Xn [(ii 0),(ii 0),(ii 0),(ii 2),(ii 2),(ii 1)] 0 6) (Zz ([(R6.mk 0 0 0 2 2 1)]:List R6)),.keep,.keep,.keep,.keep,.keep,.keep,.frz 1 ([(R6.mk 2 0 0 4 2 2)]:List R6).length (Xn [(ii 2),(ii 0),(ii 0),(ii 4),(ii 2),(ii 2)] 0 6) (Zz ([(R6.mk 2 0 0 4 2 2)]:List R6))]],[]⟩ [] (pp (xZ (.dat 1 (Xn [(ii 0),(ii 0),(ii 0),(ii 2),(ii 2),(ii 1)] 0 6)) 1 (Xn [(ii 0),(ii 0),(ii 0),(ii 2),(ii 2),(ii 1)] 0 6)) (pp (xL 1 ([(R6.mk 0 0 0 2 2 1)]:List R6).length) (pp (xS 1 (Xn [(ii 0),(ii 0),(ii 0),(ii 2),(ii 2),(ii 1)] 0 6) (Zz ([(R6.mk 0 0 0 2 2 1)]:List R6))) (pp (xZ (.dat 1 (Xn [(ii 2),(ii 0),(ii 0),(ii 4),(ii 2),(ii 2)] 0 6)) 1 (Xn [(ii 2),(ii 0),(ii 0),(ii 4),(ii 2),(ii 2)] 0 6)) (pp (xL 1 ([(R6.mk 2 0 0 4 2 2)]:List R6).length) (pp (xS 1 (Xn [(ii 2),(ii 0),(ii 0),(ii 4),(ii 2),(ii 2)] 0 6) (Zz ([(R6.mk 2 0 0 4 2 2)]:List R6))) (pp (pp (xI Pa ld4.length (Zz ld4)) (xw q0_0)) nn)))))))) (Xd (sl z1g (C':=⟨⟨86,0,true⟩,(Wr prog 24 [1,1,1,1,0] 1),(Zg prog 24 [1,1,1,1,0] 1),none,(Zy prog 24),⟨Yk [(2,(ii (z1u (cvT ld4)))),(3,(ii (z4h (cvT (Uo (cvT ld4)))))),(4,(ii (z4v (cvT (Uo (cvT ld4)))))),(5,(.dat (Wp (cvT ld4) 1 0).length (Zz (Wp (cvT ld4) 1 0)))),(6,(ii (Qi (cvT ld4) 1 0))),(29,(.dat ld4.length (Zz ld4)))],Vv [] 0,0,[],true⟩,[],.leaf⟩) 0 [] ⟨[],[0],[some [2,3,4,5,6,29]],[]⟩ ⟨[(29,.frz 2 ld4.length (Xn [(ii 0),(ii 0),(ii 0),(ii 2),(ii 2),(ii 2),(.dat ([(R6.mk 0 0 0 2 2 1)]:List R6).length (Zz ([(R6.mk 0 0 0 2 2 1)]:List R6))),(ii 2),(ii 0),(ii 0),(ii 4),(ii 2),(ii 2),(.dat ([(R6.mk 2 0 0 4 2 2)]:List R6).length (Zz ([(R6.mk 2 0 0 4 2 2)]:List R6)))] 0 7) (Zz ld4))],[],[]⟩ [] (pp (xZ (.dat 2 (Xn [(ii 0),(ii 0),(ii 0),(ii 2),(ii 2),(ii 2),(.dat ([(R6.mk 0 0 0 2 2 1)]:List R6).length (Zz ([(R6.mk 0 0 0 2 2 1)]:List R6))),(ii 2),(ii 0),(ii 0),(ii 4),(ii 2),(ii 2),(.dat ([(R6.mk 2 0 0 4 2 2)]:List R6).length (Zz ([(R6.mk 2 0 0 4 2 2)]:List R6)))] 0 7)) 2 (Xn [(ii 0),(ii 0),(ii 0),(ii 2),(ii 2),(ii 2),(.dat ([(R6.mk 0 0 0 2 2 1)]:List R6).length (Zz ([(R6.mk 0 0 0 2 2 1)]:List R6))),(ii 2),(ii 0),(ii 0),(ii 4),(ii 2),(ii 2),(.dat ([(R6.mk 2 0 0 4 2 2)]:List R6).length (Zz ([(R6.mk 2 0 0 4 2 2)]:List R6)))] 0 7)) (pp (xL 2 ld4.length) (pp (xS 2 (Xn [(ii 0),(ii 0),(ii 0),(ii 2),(ii 2),(ii 2),(.dat ([(R6.mk 0 0 0 2 2 1)]:List R6).length (Zz ([(R6.mk 0 0 0 2 2 1)]:List R6))),(ii 2),(ii 0),(ii 0),(ii 4),(ii 2),(ii 2),(.dat ([(R6.mk 2 0 0 4 2 2)]:List R6).length (Zz ([(R6.mk 2 0 0 4 2 2)]:List R6)))] 0 7) (Zz ld4)) nn)))) (lo fun q0_0=>(Xd (sl z1g (C':=⟨⟨86,0,true⟩,(Wr prog 24 [1,1,1,1,1,0] 1),(Zg prog 24 [1,1,1,1,1,0] 1),none,(Zy prog 24),⟨Yk [(2,(ii (z1u (cvT ld4)))),(3,(ii (z4h (cvT (Uo (cvT ld4)))))),(4,(ii (z4v (cvT (Uo (cvT ld4)))))),(5,(.dat (Wp (cvT ld4) 1 0).length (Zz (Wp (cvT ld4) 1 0)))),(6,(ii (Qi (cvT ld4) 1 0))),(7,(.dat (Wp (cvT ld4) 0 1).length (Zz (Wp (cvT ld4) 0 1)))),(8,(ii (Qi (cvT ld4) 0 1))),(34,(.sl 0 0 2 (.un 7)))],Vv [⟨[(ii 0),(ii 0),(ii 0),(ii 2),(ii 2),(ii 2),(.dat ([(R6.mk 0 0 0 2 2 1)]:List R6).length (Zz ([(R6.mk 0 0 0 2 2 1)]:List R6))),(ii 2),(ii 0),(ii 0),(ii 4),(ii 2),(ii 2),(.dat ([(R6.mk 2 0 0 4 2 2)]:List R6).length (Zz ([(R6.mk 2 0 0 4 2 2)]:List R6)))],59,none⟩] 0,1,[],true⟩,[],.leaf⟩) 100 [] ⟨[6],[2,5],[some [2,3,4,5,6,7,8,34]],[]⟩ ⟨[],[.cells [.keep,.keep,.keep,.keep,.keep,.keep,.frz 1 ([(R6.mk 0 0 0 2 2 1)]:List R6).length (Xn [(ii 0),(ii 0),(ii 0),(ii 2),(ii 2),(ii 1)] 0 6) (Zz ([(R6.mk 0 0 0 2 2 1)]:List R6)),.keep,.keep,.keep,.keep,.keep,.keep,.frz 1 ([(R6.mk 2 0 0 4 2 2)]:List R6).length (Xn [(ii 2),(ii 0),(ii 0),(ii 4),(ii 2),(ii 2)] 0 6) (Zz ([(R6.mk 2 0 0 4 2 2)]:List R6))]],[]⟩ [] (pp (xZ (.dat 1 (Xn [(ii 0),(ii 0),(ii 0),(ii 2),(ii 2),(ii 1)] 0 6)) 1 (Xn [(ii 0),(ii 0),(ii 0),(ii 2),(ii 2),(ii 1)] 0 6)) (pp (xL 1 ([(R6.mk 0 0 0 2 2 1)]:List R6).length) (pp (xS 1 (Xn [(ii 0),(ii 0),(ii 0),(ii 2),(ii 2),(ii 1)] 0 6) (Zz ([(R6.mk 0 0 0 2 2 1)]:List R6))) (pp (xZ (.dat 1 (Xn [(ii 2),(ii 0),(ii 0),(ii 4),(ii 2),(ii 2)] 0 6)) 1 (Xn [(ii 2),(ii 0),(ii 0),(ii 4),(ii 2),(ii 2)] 0 6)) (pp (xL 1 ([(R6.mk 2 0 0 4 2 2)]:List R6).length) (pp (xS 1 (Xn [(ii 2),(ii 0),(ii 0),(ii 4),(ii 2),(ii 2)] 0 6) (Zz ([(R6.mk 2 0 0 4 2 2)]:List R6))) (pp (pp (xI Pa ld4.length (Zz ld4)) (xw q0_0)) nn)))))))) (Xd (sl z1g (C':=⟨⟨86,0,true⟩,(Wr prog 24 [1,1,1,1,1,0] 1),(Zg prog 24 [1,1,1,1,1,0] 1),none,(Zy prog 24),⟨Yk [(2,(ii (z1u (cvT ld4)))),(3,(ii (z4h (cvT (Uo (cvT ld4)))))),(4,(ii (z4v (cvT (Uo (cvT ld4)))))),(5,(.dat (Wp (cvT ld4) 1 0).length (Zz (Wp (cvT ld4) 1 0)))),(6,(ii (Qi (cvT ld4) 1 0))),(7,(.dat (Wp (cvT ld4) 0 1).length (Zz (Wp (cvT ld4) 0 1)))),(8,(ii (Qi (cvT ld4) 0 1))),(34,(.dat ld4.length (Zz ld4)))],Vv [] 0,0,[],true⟩,[],.leaf⟩) 0 [] ⟨[],[0],[some [2,3,4,5,6,7,8,34]],[]⟩ ⟨[(34,.frz 2 ld4.length (Xn [(ii 0),(ii 0),(ii 0),(ii 2),(ii 2),(ii 2),(.dat ([(R6.mk 0 0 0 2 2 1)]:List R6).length (Zz ([(R6.mk 0 0 0 2 2 1)]:List R6))),(ii 2),(ii 0),(ii 0),(ii 4),(ii 2),(ii 2),(.dat ([(R6.mk 2 0 0 4 2 2)]:List R6).length (Zz ([(R6.mk 2 0 0 4 2 2)]:List R6)))] 0 7) (Zz ld4))],[],[]⟩ [] (pp (xZ (.dat 2 (Xn [(ii 0),(ii 0),(ii 0),(ii 2),(ii 2),(ii 2),(.dat ([(R6.mk 0 0 0 2 2 1)]:List R6).length (Zz ([(R6.mk 0 0 0 2 2 1)]:List R6))),(ii 2),(ii 0),(ii 0),(ii 4),(ii 2),(ii 2),(.dat ([(R6.mk 2 0 0 4 2 2)]:List R6).length (Zz ([(R6.mk 2 0 0 4 2 2)]:List R6)))] 0 7)) 2 (Xn [(ii 0),(ii 0),(ii 0),(ii 2),(ii 2),(ii 2),(.dat ([(R6.mk 0 0 0 2 2 1)]:List R6).length (Zz ([(R6.mk 0 0 0 2 2 1)]:List R6))),(ii 2),(ii 0),(ii 0),(ii 4),(ii 2),(ii 2),(.dat ([(R6.mk 2 0 0 4 2 2)]:List R6).length (Zz ([(R6.mk 2 0 0 4 2 2)]:List R6)))] 0 7)) (pp (xL 2 ld4.length) (pp (xS 2 (Xn [(ii 0),(ii 0),(ii 0),(ii 2),(ii 2),(ii 2),(.dat ([(R6.mk 0 0 0 2 2 1)]:List R6).length (Zz ([(R6.mk 0 0 0 2 2 1)]:List R6))),(ii 2),(ii 0),(ii 0),(ii 4),(ii 2),(ii 2),(.dat ([(R6.mk 2 0 0 4 2 2)]:List R6).length (Zz ([(R6.mk 2 0 0 4 2 2)]:List R6)))] 0 7) (Zz ld4)) nn)))) (lo fun bP=>(lo fun dI=>(lb (fun k0=>(lb (fun k1=>(lb (fun k2=>(lb (fun k3=>(Xd (sl z1g (C':=⟨⟨86,0,true⟩,(Wr prog 24 [1,1,1,1,1,1,1,0] 20),(Zg prog 24 [1,1,1,1,1,1,1,0] 1),none,(Zy prog 24),⟨Yk [(7,(.dat (Wp (cvT ld4) 0 1).length (Zz (Wp (cvT ld4) 0 1)))),(8,(ii (Qi (cvT ld4) 0 1))),(10,(ii (y2k (cvT ld4) 0))),(11,(ii (y2p (cvT (Km (cvT ld4) 0))))),(12,(ii (x1d (cvT (Km (cvT ld4) 0))))),(57,(.bool true)),(58,(.dat (Wp (cvT ld4) 1 0).length (Zz (Wp (cvT ld4) 1 0)))),(62,(.dat ([(R7.mk 1 2 0 1 2 2 2)]:List R7).length (Zz ([(R7.mk 1 2 0 1 2 2 2)]:List R7))))],Vv [] 0,0,[],true⟩,[],.leaf⟩) 39 [] ⟨[],[0],[some [7,8,10,11,12,57,58,62]],[]⟩ ⟨[(62,.frz 1 ([(R7.mk 1 2 0 1 2 2 2)]:List R7).length (Xn [(.int .u8 1),(ii 2),(ii 0),(ii 1),(ii 2),(ii 2),(ii 2)] 0 7) (Zz ([(R7.mk 1 2 0 1 2 2 2)]:List R7)))],[],[]⟩ (trs 11 []) (pp (xZ (.dat 1 (Xn [(.int .u8 1),(ii 2),(ii 0),(ii 1),(ii 2),(ii 2),(ii 2)] 0 7)) 1 (Xn [(.int .u8 1),(ii 2),(ii 0),(ii 1),(ii 2),(ii 2),(ii 2)] 0 7)) (pp (xL 1 ([(R7.mk 1 2 0 1 2 2 2)]:List R7).length) (pp (xS 1 (Xn [(.int .u8 1),(ii 2),(ii 0),(ii 1),(ii 2),(ii 2),(ii 2)] 0 7) (Zz ([(R7.mk 1 2 0 1 2 2 2)]:List R7))) (tt k3 (tt k2 (tt k1 (tt k0 (pp (pp (xI R7 (Km (cvT ld4) 0).length (Zz (Km (cvT ld4) 0))) (xw dI)) (pp (pp (xI Pa ld4.length (Zz ld4)) (xw bP)) nn)))))))))) (lo fun cC=>(lb (fun k4=>(lb (fun k5=>(lb (fun k6=>(lb (fun k7=>(lb (fun k8=>(lr 86 3 [1,1,1,1,0] 1 24 [(0,(.bool ((y2p (cvT (Km (cvT ld4) 0))) == 14)))] (sl z1g 25 [] ⟨[],[],[some [0]],[]⟩ ⟨[],[],[]⟩ (trs 12 []) (tt k8 (tt k7 (tt k6 (tt k5 (tt k4 (pp (pp (xI R7 (Wp (cvT ld4) 1 0).length (Zz (Wp (cvT ld4) 1 0))) (pp (xI R7 ([(R7.mk 1 2 0 1 2 2 2)]:List R7).length (Zz ([(R7.mk 1 2 0 1 2 2 2)]:List R7))) (xw cC))) nn))))))))) (fun k8=>(lr 86 3 [1,1,1,1,0] 1 24 [(0,(.bool false))] (sl z1g 25 [] ⟨[],[],[some [0]],[]⟩ ⟨[],[],[]⟩ (trs 10 [false,false]) (tt k8 (tt k7 (tt k6 (tt k5 (tt k4 (pp (pp (xI R7 (Wp (cvT ld4) 1 0).length (Zz (Wp (cvT ld4) 1 0))) (pp (xI R7 ([(R7.mk 1 2 0 1 2 2 2)]:List R7).length (Zz ([(R7.mk 1 2 0 1 2 2 2)]:List R7))) (xw cC))) nn))))))))))) (fun k7=>(lr 86 3 [1,1,1,1,0] 1 24 [(0,(.bool false))] (sl z1g 25 [] ⟨[],[],[some [0]],[]⟩ ⟨[],[],[]⟩ (trs 8 [false,false,false,false]) (tt k7 (tt k6 (tt k5 (tt k4 (pp (pp (xI R7 (Wp (cvT ld4) 1 0).length (Zz (Wp (cvT ld4) 1 0))) (pp (xI R7 ([(R7.mk 1 2 0 1 2 2 2)]:List R7).length (Zz ([(R7.mk 1 2 0 1 2 2 2)]:List R7))) (xw cC))) nn)))))))))) (fun k6=>(lr 86 3 [1,1,1,1,0] 1 24 [(0,(.bool false))] (sl z1g 25 [] ⟨[],[],[some [0]],[]⟩ ⟨[],[],[]⟩ (trs 6 [false,false,false,false,false,false]) (tt k6 (tt k5 (tt k4 (pp (pp (xI R7 (Wp (cvT ld4) 1 0).length (Zz (Wp (cvT ld4) 1 0))) (pp (xI R7 ([(R7.mk 1 2 0 1 2 2 2)]:List R7).length (Zz ([(R7.mk 1 2 0 1 2 2 2)]:List R7))) (xw cC))) nn))))))))) (fun k5=>(lr 86 3 [1,1,1,1,0] 1 24 [(0,(.bool false))] (sl z1g 25 [] ⟨[],[],[some [0]],[]⟩ ⟨[],[],[]⟩ (trs 3 [false,false,false,false,false,false,false,false,false]) (tt k5 (tt k4 (pp (pp (xI R7 (Wp (cvT ld4) 1 0).length (Zz (Wp (cvT ld4) 1 0))) (pp (xI R7 ([(R7.mk 1 2 0 1 2 2 2)]:List R7).length (Zz ([(R7.mk 1 2 0 1 2 2 2)]:List R7))) (xw cC))) nn)))))))) (fun k4=>(lr 86 3 [1,1,1,1,0] 1 24 [(0,(.bool false))] (sl z1g 25 [] ⟨[],[],[some [0]],[]⟩ ⟨[],[],[]⟩ [true,false,false,false,false,false,false,false,false,false,false,false] (tt k4 (pp (pp (xI R7 (Wp (cvT ld4) 1 0).length (Zz (Wp (cvT ld4) 1 0))) (pp (xI R7 ([(R7.mk 1 2 0 1 2 2 2)]:List R7).length (Zz ([(R7.mk 1 2 0 1 2 2 2)]:List R7))) (xw cC))) nn))))))))) (fun k3=>(lr 86 3 [1,1,1,1,0] 1 24 [(0,(.bool false))] (sl z1g 64 [] ⟨[],[],[some [0]],[]⟩ ⟨[],[],[]⟩ (trs 6 [false,false,false,false,false,false,false,false,false,false,false,false,false,false,false,false,false]) (tt k3 (tt k2 (tt k1 (tt k0 (pp (pp (xI R7 (Km (cvT ld4) 0).length (Zz (Km (cvT ld4) 0))) (xw dI)) (pp (pp (xI Pa ld4.length (Zz ld4)) (xw bP)) nn))))))))))) (fun k2=>(lr 86 3 [1,1,1,1,0] 1 24 [(0,(.bool false))] (sl z1g 64 [] ⟨[],[],[some [0]],[]⟩ ⟨[],[],[]⟩ (trs 4 [false,false,false,false,false,false,false,false,false,false,false,false,false,false,false,false,false,false,false]) (tt k2 (tt k1 (tt k0 (pp (pp (xI R7 (Km (cvT ld4) 0).length (Zz (Km (cvT ld4) 0))) (xw dI)) (pp (pp (xI Pa ld4.length (Zz ld4)) (xw bP)) nn)))))))))) (fun k1=>(lr 86 3 [1,1,1,1,0] 1 24 [(0,(.bool false))] (sl z1g 64 [] ⟨[],[],[some [0]],[]⟩ ⟨[],[],[]⟩ [true,true,false,false,false,false,false,false,false,false,false,false,false,false,false,false,false,false,false,false,false,false,false] (tt k1 (tt k0 (pp (pp (xI R7 (Km (cvT ld4) 0).length (Zz (Km (cvT ld4) 0))) (xw dI)) (pp (pp (xI Pa ld4.length (Zz ld4)) (xw bP)) nn))))))))) (fun k0=>(lr 86 3 [1,1,1,1,0] 1 24 [(0,(.bool false))] (sl z1g 64 [] ⟨[],[],[some [0]],[]⟩ ⟨[],[],[]⟩ [false,false,false,false,false,false,false,false,false,false,false,false,false,false,false,false,false,false,false,false,false,false,false] (tt k0 (pp (pp (xI R7 (Km (cvT ld4) 0).length (Zz (Km (cvT ld4) 0))) (xw dI)) (pp (pp (xI Pa ld4.length (Zz ld4)) (xw bP)) nn)))))))))))))))))))))
theorem u6d (n:Nat) (vs:List AVal) (h:Zt (w3n) n (y5p)=.ret vs):Uv prog (Zy prog 24) (Za prog 24 [] true []) vs:=by have:=Ze (v1j) n _ (w3o);rwa [h] at this
inductive fi4S where
def fi4C (l0:List Pa):fi4S→Cfg
 :=nofun
def w2i (l0:List Pa):fi4S→Xw fi4S
 :=nofun
def y5f (l0:List Pa):Xw fi4S:=(bif (decide ((l0.length:Int)≤6)) then (bif (z8q (cvT l0)) then (bif (u2d (cvT l0)) then (bif (z8r (cvT l0)) then (.ret [(.bool ((u9a (cvT l0)) == 0))]) else .stuck) else (.ret [(.bool false)])) else .stuck) else (.ret [(.bool false)]))
theorem v0l (l0:List Pa): ∀s,Xv prog (Zy prog 25) (fi4C l0) (fi4C l0 s) (w2i l0 s)
 :=nofun
theorem w2j (l0:List Pa):Xv prog (Zy prog 25) (fi4C l0) (Za prog 25 [(.dat l0.length (Zz l0))] true []) (y5f l0):=(lb (fun k0=>(lo fun aI=>(lb (fun k1=>(lo fun o0=>(lr 15 3 [1,1,1,1,0] 1 9 [(2,(.bool ((u9a (cvT l0)) == 0)))] (sl z1g 20 [] ⟨[],[],[some [2]],[]⟩ ⟨[],[],[]⟩ (trs 5 []) (pp (pp (xr l0) (xw o0)) (tt k1 (pp (pp (xr l0) (xw aI)) (tt k0 nn)))))))) (fun k1=>(lr 15 3 [1,1,1,1,0] 1 9 [(2,(.bool false))] (sl z1g 20 [] ⟨[],[],[some [2]],[]⟩ ⟨[],[],[]⟩ [true,true,false,false,false] (tt k1 (pp (pp (xr l0) (xw aI)) (tt k0 nn))))))))) (fun k0=>(lr 15 3 [1,1,1,1,0] 1 9 [(2,(.bool false))] (sl z1g 20 [] ⟨[],[],[some [2]],[]⟩ ⟨[],[],[]⟩ [false,false,false,false,false] (tt k0 nn)))))
theorem u5b (l0:List Pa) (n:Nat) (vs:List AVal) (h:Zt (w2i l0) n (y5f l0)=.ret vs):Uv prog (Zy prog 25) (Za prog 25 [(.dat l0.length (Zz l0))] true []) vs:=by have:=Ze (v0l l0) n _ (w2j l0);rwa [h] at this
def inS (X:List R6) (x y z:Int):Prop:= ∃r∈X,(r.a≤x∧x<r.d)∧(r.b≤y∧y<r.e)∧(r.c≤z∧z<r.f)
theorem Kj (X:List R6) (x y z:Int):inS X x y z↔ptL z1p.inB X (z,x,y):=by
 constructor
 ·rintro ⟨r,hr,h1,h2,h3⟩;exact ⟨r,hr,h3.1,h3.2,h1.1,h1.2,h2.1,h2.2⟩
 ·rintro ⟨r,hr,h1,h2,h3,h4,h5,h6⟩;exact ⟨r,hr,⟨h3,h4⟩,⟨h5,h6⟩,h1,h2⟩
namespace Dim
variable {α β:Type} {D:Dim α β}
theorem j6x (hD:D.Fair) (s:List β) (a b x:Int):D.inn (s.map (D.put a b)) x=if a≤x∧x<b then s else []:=by
 unfold inn;have e:(s.map (D.put a b)).filter (fun r=>decide (D.lo r≤x)&&decide (x<D.hi r))=if a≤x∧x<b then s.map (D.put a b) else []:=by
  split
  ·rename_i h;refine List.filter_eq_self.2 fun r hr=> ?_;obtain ⟨c,_,rfl⟩:=AO.1 hr;rw [hD.lo_put,hD.hi_put,An h.1,An h.2];rfl
  ·rename_i h;refine List.filter_eq_nil_iff.2 fun r hr hq=>h ?_;obtain ⟨c,_,rfl⟩:=AO.1 hr;rw [hD.lo_put,hD.hi_put,Ae] at hq
   grind
 rw [e];split
 ·rw [List.map_map];exact (List.map_congr_left fun c _=>hD.pr_put a b c).trans (List.map_id _)
 ·rfl
theorem inn_can (hD:D.Fair) {γ:Type} (M:Sem β γ) (x:Int): ∀G:List (Qe β),z1t M G→M.can (D.inn (D.flat G) x)
 | [],_=>M.nil
 | g::r,h=>by
  rw [show D.flat (g::r)=g.s.map (D.put g.a g.b)++D.flat r from rfl,D.inn_append,j6x hD];split
  ·rename_i hx;have e:D.inn (D.flat r) x=[]:=by unfold inn;rw [List.map_eq_nil_iff,List.filter_eq_nil_iff];intro a ha hq;obtain ⟨k,hk,ha⟩:=AJ.1 ha;obtain ⟨c,_,rfl⟩:=AO.1 ha;rw [hD.lo_put,Ae] at hq;have h1:=Av hq.1;have:=h.later k hk;omega
   rw [e,AC];exact h.head.2.1
  ·rw [A9];exact inn_can hD M x r h.tail
end Dim
theorem z8h {L:List R6} (hl:L.length≤400) (hv: ∀r∈L,Qf r=true) (hc:z1p.can L):Zh L=0:=by
 have hi: ∀z,D4.out (D6.inn L z)=D6.inn L z:=fun z=>by obtain ⟨h1,h2⟩:=Kn (z5r hv z) (AE (D6.inn_length L z) hl);obtain ⟨G,hG,e⟩:=hc;exact Xi.uniq _ _ h1 (by grind [Dim.inn_can,z2q]) h2
 have hs:Secs L:=fun z=>by rw [hi z];exact AE (D6.inn_length L z) hl
 obtain ⟨h1,h2⟩:=j2w hv hl hs;have e:=z1p.uniq _ _ h1 hc h2;have ok: ∀k i,okF L k i=true:=fun k=>by
  induction k with
  | zero=>intro i;rfl
  | succ k ih=>
   intro i;show (bif Yo (D6.inn L (rd (D6.cuts L) i)) != 0 then false else okF L k (i+1))=true;rw [(Qd (z5r hv _) (AE (D6.inn_length L _) hl) (hs _)).2]
   grind
 grind [Zh,Ka]
theorem v9a {L:List R6} (hc:z1p.can L) (hb: ∀x y z,inS L x y z→(-1000000≤x∧x<1000000)∧(-1000000≤y∧y<1000000)∧(-1000000≤z∧z<1000000)): ∀r∈L,Qf r=true:=fun r hr=>by
 have hp:r.a<r.d∧r.b<r.e∧r.c<r.f:=by obtain ⟨G,hG,e⟩:=hc;rw [e] at hr;obtain ⟨g,hg,hr⟩:=AJ.1 hr;obtain ⟨b,hb,rfl⟩:=AO.1 hr;obtain ⟨h1,⟨H,hH,e2⟩,_⟩:=hG.all g hg;rw [e2] at hb;obtain ⟨k,hk,hb⟩:=AJ.1 hb;obtain ⟨c,hc,rfl⟩:=AO.1 hb;obtain ⟨h2,h3,_⟩:=hH.all k hk;exact ⟨h2,Can.pos h3 c hc,h1⟩
 have h1:=hb r.a r.b r.c ⟨r,hr,by omega,by omega,by omega⟩;have h2:=hb (r.d - 1) (r.e - 1) (r.f - 1) ⟨r,hr,by omega,by omega,by omega⟩
 grind [y9i,x7r]
open Go.Proofs Go.Sort Go.Shelf Go.RowKit Go.Lib
theorem at_nil (z:Int):atV ([]:List R6) z=[]:=rfl
namespace Dim
variable {α β:Type} (D:Dim α β)
theorem refS (hs: ∀a b,D.same a b=true↔a=b) (sec:Int→List β) (cs:List Int): ∀(k i:Nat) (s:Sw α β) (out:List α) (last:List β) (first:Nat),
  s.out=out→s.last=last→(last≠ []→s.first=first)→(last=[]→out.length≤first)→(0<i→s.fin=rd cs i)→(i=0→last=[])→
  (D.goS sec cs k i s).out =D.ref sec cs k i out last first
 | 0,i,s,out,last,first,h1,h2,h3,h4,h5,h6=>h1
 | k +1,i,s,out,last,first,h1,h2,h3,h4,h5,h6=>by
  subst h1 h2;have e1:D.goS sec cs (k+1) i s=D.goS sec cs k (i+1) (D.oneS (sec (rd cs i)) (rd cs i) (rd cs (i+1)) s):=rfl;rw [e1];unfold ref;rcases Yw (decide (0<(sec (rd cs i)).length)&&((s.fin == rd cs i)&&D.same s.last (sec (rd cs i)))) with q | q
  ·have e:D.oneS (sec (rd cs i)) (rd cs i) (rd cs (i+1)) s=⟨D.grow s.out s.first (rd cs (i+1)),s.last,s.first,rd cs (i+1)⟩:=by unfold oneS;rw [q];rfl
   simp only [Ae,At] at q;obtain ⟨q1,q2,q3⟩:=q;have q3:=(hs _ _).1 q3;have hne:s.last≠ []:=fun h=>by rw [h] at q3;rw [←q3] at q1;exact BQ _ q1
   have hi:0<i:=Nat.pos_of_ne_zero fun h=>hne (h6 h);have e2:(decide (0<i)&&D.same (sec (rd cs i)) s.last)=true:=by rw [An hi,Ai,hs,q3]
   rw [e2,Ab,e];refine refS hs sec cs k (i+1) _ _ _ _ ?_ rfl h3 (fun h=>absurd h hne) (fun _=>rfl) (fun h=>by omega);rw [h3 hne]
  ·have e:D.oneS (sec (rd cs i)) (rd cs i) (rd cs (i+1)) s=⟨s.out++(sec (rd cs i)).map (D.put (rd cs i) (rd cs (i+1))),sec (rd cs i),s.out.length,rd cs (i+1)⟩:=by unfold oneS;rw [q];rfl
   rcases Yw (decide (0<i)&&D.same (sec (rd cs i)) s.last) with q2 | q2
   ·rw [q2,Ab,e];simp only [Ae,At] at q2;obtain ⟨hi,q3⟩:=q2;have q3:=(hs _ _).1 q3;rw [(hs s.last (sec (rd cs i))).2 q3.symm,Ah,h5 hi] at q;have hz:sec (rd cs i)=[]:=by
     cases h:sec (rd cs i) with
     | nil=>rfl
     | cons a b=>rw [h] at q;simp at q
    have hl:s.last=[]:=(by rw [←q3,hz]);have hf:=h4 hl;rw [hz,BA,AC];refine refS hs sec cs k (i+1) _ _ _ _ ?_ hl.symm (fun h=>absurd hl h) (fun _=> ?_) (fun _=>rfl) (fun h=>by omega)
    ·exact (D.grow_nil _ _ _ hf).symm
    ·rw [D.grow_length];exact hf
   ·rw [q2,Aa,e];exact refS hs sec cs k (i+1) _ _ _ _ rfl rfl (fun _=>rfl) (fun h=>by rw [h];simp) (fun _=>rfl) (fun h=>by omega)
theorem refS0 (hs: ∀a b,D.same a b=true↔a=b) (sec:Int→List β) (cs:List Int):D.ref sec cs (cs.length - 1) 0 [] [] 0=(D.goS sec cs (cs.length - 1) 0 ⟨[],[],0,0⟩).out :=
 (D.refS hs sec cs _ 0 _ [] [] 0 rfl rfl (fun _=>rfl) (fun _=>Aq _) (fun h=>absurd h (BQ _)) (fun _=>rfl)).symm
end Dim
theorem j3r (l:List R4) (hv:l.all Vi=true) (x:Int):swV (D4.inn l x)=x0b 2 l [] x:=by
 have hin:=D4.inn_length l x;have hvi:(D4.inn l x).all z1n=true:=Ar.2 fun s hs=>by
  grind [z7n,Vi,z1n]
 obtain ⟨c1,c2⟩:=y0o _ hvi;obtain ⟨y1,y2⟩:=Wx (z1m l++z1m []);have e2:x0b 2 l [] x=y2w (ysV l []) ((ysV l []).map fun y=>z4q l x y):=by
  unfold x0b
  congr 1
  simp_all [v8r]
 obtain ⟨d1,d2⟩:=w6u (ysV l []) y1 (fun y=>z4q l x y) (D4.inn l x) (fun s hs=>by
  obtain ⟨r,hr,_,_,rfl⟩:=z7n hs;unfold ysV;exact ⟨(y2 _).2 (AH.2 (.inl (AJ.2 ⟨r,hr,by simp⟩))),(y2 _).2 (AH.2 (.inl (AJ.2 ⟨r,hr,by simp⟩)))⟩) (fun y=>by
  unfold z4q;rw [List.any_eq_true];constructor
  ·rintro ⟨r,hr,h⟩;simp only [in4,Ae,At] at h;exact ⟨_,v6w hr h.1 h.2.1,h.2.2.1,h.2.2.2⟩
  ·rintro ⟨s,hs,h1,h2⟩
   grind [z7n,in4])
 grind [w6t]
theorem j2j :swV []=[]:=by
 obtain ⟨h1,h2⟩:=y0o [] rfl;exact z0w z4r h1 fun q hq=>by obtain ⟨s,hs,_⟩:=(h2 q).1 hq;cases hs
theorem jo_sem {l:List R4} (hv: ∀r∈l,Vi r=true):Xi.can (joV 2 l [])∧ ∀p,ptL Xi.inB (joV 2 l []) p↔ptL Xi.inB l p:=by
 have e:joV 2 l []=(D4.goS (fun x=>swV (D4.inn l x)) (D4.cuts (l++[])) ((D4.cuts (l++[])).length - 1) 0 ⟨[],[],0,0⟩).out :=by rw [AC,joV,w5z,←v9s,←Dim.refS0 D4 z8i];simp_all [j3r]
 rw [e];have hs: ∀x,z4r.can (swV (D4.inn l x))∧ ∀y,ptL z4r.inB (swV (D4.inn l x)) y↔ptL z4r.inB (D4.inn l x) y:=fun x=>y0o _ (Jf hv x);obtain ⟨h1,h2⟩:=Dim.goJ_can z1h z8i z4r l [] (fun s _=>swV s) (fun x=>(hs x).1) j2j;refine ⟨h1,fun ⟨x,y⟩=> ?_⟩;rw [show ptL Xi.inB _ (x,y)↔_ from h2 x y,(hs x).2,Dim.pt_inn];rfl
def slJ2 (l:List R6):List R6:=D6.ref (y3d 2 l []) (D6.cuts l) ((D6.cuts l).length - 1) 0 [] [] 0
theorem jo_nil :joV 2 [] []=[]:=rfl
theorem u1a {l:List R6} (hv: ∀r∈l,Qf r=true):z1p.can (slJ2 l)∧ ∀x y z,inS (slJ2 l) x y z↔inS l x y z:=by
 have e:slJ2 l=(D6.goS (fun z=>joV 2 (D6.inn l z) []) (D6.cuts (l++[])) ((D6.cuts (l++[])).length - 1) 0 ⟨[],[],0,0⟩).out :=by rw [AC,←Dim.refS0 D6 z2t];rfl
 rw [e];have hq: ∀z,Xi.can (joV 2 (D6.inn l z) [])∧ ∀p,ptL Xi.inB (joV 2 (D6.inn l z) []) p↔ptL Xi.inB (D6.inn l z) p:=fun z=>jo_sem (z5r hv z);obtain ⟨h1,h2⟩:=Dim.goJ_can z2q z2t Xi l [] (fun s _=>joV 2 s []) (fun x=>(hq x).1) jo_nil;refine ⟨h1,fun x y z=> ?_⟩;rw [Kj,Kj,show ptL z1p.inB _ (z,x,y)↔_ from h2 z (x,y),(hq z).2,Dim.pt_inn];rfl
theorem u6j (a b:List R4):xsV a b=xsV (a++b) []:=by
 grind [xsV,z3h]
theorem ys_app (a b:List R4):ysV a b=ysV (a++b) []:=by
 grind [ysV,z1m]
theorem j3s (a b:List R4) (x:Int):x0b 2 a b x=x0b 2 (a++b) [] x:=by
 unfold x0b;rw [ys_app]
 congr 1
 simp_all [v9y,y2s,z4q]
theorem v7c (a b:List R4): ∀(k i:Nat) (out:List R4) (last:List R2) (first:Nat),jF 2 a b k i out last first=jF 2 (a++b) [] k i out last first
 | 0,_,_,_,_=>rfl
 | k+1,i,out,last,first=>by unfold jF;rw [u6j,j3s,v7c a b k,v7c a b k]
theorem jo_app (a b:List R4):joV 2 a b=joV 2 (a++b) []:=by unfold joV;rw [u6j,v7c]
theorem at_app (a b:List R6) (z:Int):atV (a++b) z=atV a z++atV b z:=by
 grind [atV]
theorem u1e (a b:List R6) (z:Int):y3d 2 a b z=y3d 2 (a++b) [] z:=by
 grind [y3d,jo_app,at_app,at_nil]
theorem v8l (a b:List R6):Vu a b=D6.cuts (a++b):=by
 grind [w4b,Vu,z3g]
def okJ (a b:List R6):Nat→Nat→Bool
 | 0,_=>true
 | k+1,i=>bif z9i 2 a b (rd (D6.cuts (a++b)) i) then false else okJ a b k (i+1)
theorem j6s (a b:List R6): ∀(k i:Nat) (out:List R6) (last:List R4) (first:Nat),jsF 2 a b k i out last first=bif okJ a b k i then some (D6.ref (y3d 2 (a++b) []) (D6.cuts (a++b)) k i out last first) else none
 | 0,_,_,_,_=>rfl
 | k+1,i,out,last,first=>by
  unfold jsF okJ Dim.ref;rw [v8l];rcases Yw (z9i 2 a b (rd (D6.cuts (a++b)) i)) with q | q
  ·rw [q];rfl
  ·rw [q,Aa,Aa,u1e,j6s a b k,j6s a b k];have e:D6.same (y3d 2 (a++b) [] (rd (D6.cuts (a++b)) i)) last=Vh (y3d 2 (a++b) [] (rd (D6.cuts (a++b)) i)) last:=rfl;rw [e];cases (decide (0<i)&&Vh (y3d 2 (a++b) [] (rd (D6.cuts (a++b)) i)) last) <;> rfl
theorem jsO_J (a b:List R6):jsO 2 a b=bif okJ a b ((D6.cuts (a++b)).length - 1) 0 then some (slJ2 (a++b)) else none:=by unfold jsO;rw [j6s,v8l];rfl
theorem j6r {a b:List R6} (h:y8x 2 a b=true):z5m 2 a b=slJ2 (a++b)∧(slJ2 (a++b)).length ≤400:=by
 unfold y8x at h;unfold z5m;rw [jsO_J] at h ⊢
 grind
theorem w1s (l:List R6) (x y z:Int):ptL Xi.inB (D6.inn l z) (x,y)↔inS l x y z:=by rw [Kj,Dim.pt_inn];rfl
open Go.Proofs Go.Sort Go.Shelf Go.RowKit Go.Lib
def stG {β:Type}:List (Qe β)→List Int
 | []=>[]
 | [g]=>[g.a,g.b]
 | g::h::r=>g.a::stG (h::r)
theorem v2w {β:Type}: ∀G:List (Qe β),G≠ []→(stG G).length =G.length+1
 | [],h=>absurd rfl h
 | [g],_=>rfl
 | g::h::r,_=>by show (stG (h::r)).length +1=_;rw [v2w (h::r) (by simp)];rfl
section
variable {β γ:Type} {M:Sem β γ}
def chG (M:Sem β γ) (G:List (Qe β)) (x:Int):Prop:= ∃q,¬(ptG M G (x - 1) q↔ptG M G x q)
theorem x8k : ∀(g:Qe β) (r:List (Qe β)),z1t M (g::r)→ ∀x∈stG (g::r),g.a≤x
 | g,[],h,x,hx=>by
  have:=h.head.1;have hx:x∈ [g.a,g.b]:=hx
  grind
 | g,k::r,h,x,hx=>by
  have hx:x∈g.a::stG (k::r):=hx;rcases AI.1 hx with rfl | hx
  ·grind
  ·have:=x8k k r h.tail x hx;have:=h.later k (by simp);have:=h.head.1;omega
theorem v2y : ∀G:List (Qe β),z1t M G→(stG G).Pairwise (· < ·)
 | [],_=>.nil
 | [g],h=>by have:=h.head.1;show [g.a,g.b].Pairwise (· < ·);simp [this]
 | g::k::r,h=>by refine AR.2 ⟨fun x hx=> ?_,v2y (k::r) h.tail⟩;have:=x8k k r h.tail x hx;have:=h.later k (by simp);have:=h.head.1;omega
theorem x4w {g:Qe β} {r:List (Qe β)} (h:z1t M (g::r)):chG M (g::r) g.a:=by obtain ⟨q,hq⟩:=M.some _ h.head.2.1 h.head.2.2;refine ⟨q,fun e=> ?_⟩;have:=h.low (e.2 ((h.sec0 ⟨A3 _,h.head.1⟩ q).2 hq));omega
theorem v2x : ∀G:List (Qe β),z1t M G→ ∀x∈stG G,chG M G x
 | [],_,x,hx=>by cases hx
 | [g],h,x,hx=>by
  have hx:x∈ [g.a,g.b]:=hx;simp only [AI,Bl,BS] at hx;rcases hx with rfl | rfl
  ·exact x4w h
  ·obtain ⟨q,hq⟩:=M.some _ h.head.2.1 h.head.2.2;have hp:=h.head.1;refine ⟨q,fun e=> ?_⟩;have:=e.1 ((h.sec0 ⟨by omega,by omega⟩ q).2 hq);obtain ⟨k,hk,_⟩:=(h.rest g.b q).2 ⟨A3 _,this⟩;cases hk
 | g::k::r,h,x,hx=>by
  have hx:x∈g.a::stG (k::r):=hx;rcases AI.1 hx with rfl | hx
  ·exact x4w h
  ·have h1:=x8k k r h.tail x hx;have h2:=h.later k (by simp);have hp:=h.head.1;obtain ⟨q,hq⟩:=v2x (k::r) h.tail x hx;by_cases e:g.b<x
   ·refine ⟨q,fun k1=>hq ?_⟩;rw [h.rest,h.rest,k1];constructor <;> exact fun ⟨_,m⟩=>⟨by omega,m⟩
   ·refine A8 fun hn=> ?_;have hn: ∀q,ptG M (g::k::r) (x - 1) q↔ptG M (g::k::r) x q:=fun q=>A8 fun m=>hn ⟨q,m⟩;cases h with
    | cons _ _ _ ok nx kk=>refine nx.2 (by omega) (M.uniq _ _ ok.2.1 kk.head.2.1 fun q=> ?_);have hk:=kk.head.1;rw [←(z1t.cons g k r ok nx kk).sec0 (x:=x - 1) ⟨by omega,by omega⟩ q,hn q,←kk.sec0 (x:=x) ⟨by omega,by omega⟩ q,(z1t.cons g k r ok nx kk).rest];exact ⟨fun m=>⟨by omega,m⟩,fun m=>m.2⟩
theorem u0z {G:List (Qe β)} (h:z1t M G) (U:List Int) (hU: ∀x,chG M G x→x∈U):G.length≤U.length - 1:=by
 cases G with
 | nil=>grind
 | cons g r=>
  have:=y6x (stG (g::r)) U ((v2y _ h).imp fun {a b} k=>by omega) fun x hx=>hU x (v2x _ h x hx)
  grind [v2w]
end
theorem v9b {β γ:Type} {M:Sem β γ}: ∀G:List (Qe β),z1t M G→G.Pairwise fun g k=>g.b≤k.a
 | [],_=>.nil
 | g::r,h=>AR.2 ⟨h.later,v9b r h.tail⟩
theorem v7o {α β:Type} (D:Dim α β) (k:Nat): ∀G:List (Qe β),(∀g∈G,g.s.length≤k)→(D.flat G).length ≤G.length*k
 | [],_=>Ay _
 | g::r,h=>by have ih:=v7o D k r fun x hx=>h x (by simp [hx]);have:=h g (by simp);show ((g.s.map (D.put g.a g.b))++D.flat r).length ≤_;rw [AP,Bp,Br,Nat.succ_mul];omega
theorem j9t {l:List R4} (hc:Xi.can l) (P:Int→Int→Prop) (hp: ∀x y,ptL Xi.inB l (x,y)↔P x y) (U:List Int) (hU: ∀x y,¬(P (x - 1) y↔P x y)→x∈U) (k:Nat)
  (hk: ∀(x:Int) (s:List R2),z4r.can s→(∀y,ptL z4r.inB s y↔P x y)→s.length≤k):l.length≤(U.length - 1)*k:=by
 obtain ⟨G,hG,rfl⟩:=hc;have e: ∀x y,ptG z4r G x y↔P x y:=fun x y=>by rw [←hp];exact (Dim.flat_pt z1h z4r G x y).symm
 refine AE (v7o D4 k G fun g hg=>hk g.a g.s (hG.all g hg).2.1 fun y=> ?_) (AA k (u0z hG U fun x ⟨q,hq⟩=>hU x q (by grind)));have hg1:=(hG.all g hg).1;have c1:=Dim.inn_can z1h z4r g.a G hG;rw [←hp];constructor
 ·intro m;exact (Dim.flat_pt z1h z4r G g.a y).2 ⟨g,hg,A3 _,hg1,m⟩
 ·intro m;obtain ⟨k,hk,k1,k2,k3⟩:=(Dim.flat_pt z1h z4r G g.a y).1 m;have:k=g:=by
   obtain ⟨i,hi,ei⟩:=AN hg;obtain ⟨j,hj,ej⟩:=AN hk;have pw:=v9b G hG;have pw:=A1.1 pw
   grind
  grind
theorem j1o (c:Nat): ∀(l E:List Int),l.Pairwise (· ≠ ·)→(∀x∈l,c≤E.count x)→c*l.length≤E.length
 | [],E,_,_=>Ay _
 | x::l,E,h,hs=>by
  obtain ⟨h1,h2⟩:=AR.1 h;have hx:=hs x (by simp);have:=j1o c l (E.filter fun y=> !(y == x)) h2 fun y hy=>by
   rw [List.count_filter (by grind)]
   grind
  have e:E.length=E.count x+(E.filter fun y=> !(y == x)).length :=by
   have:=List.length_eq_countP_add_countP (fun y=>y == x) (l:=E);rw [this,List.countP_eq_length_filter (p:=fun a=>decide ¬(a == x)=true)]
   congr 2
   refine List.filter_congr fun a _=> ?_
   grind
  rw [Br,Nat.mul_succ];omega
theorem j2r {s:List R2} (hc:z4r.can s) (E:List Int) (c:Nat) (hE: ∀y,¬(ptL z4r.inB s (y - 1)↔ptL z4r.inB s y)→c≤E.count y):c*(2*s.length)≤E.length:=by have hc:Can s:=hc;have:=j1o c (y0g s) E ((y0f hc).imp fun {a b} k=>by omega) fun y hy=>hE y fun e=>chg hc hy e;rwa [z2g] at this
def endsQ (q:Ax) (L:List R6):List Int:=L.flatMap fun r=>[q.lo r,q.hi r]
def plQ (q:Ax) (L:List R6):List Int:=Jg (endsQ q L)
def Ax.inB (q:Ax) (r:R6) (p u v:Int):Prop:=(q.lo r≤p∧p<q.hi r)∧((q.rc r).a ≤u∧u<(q.rc r).c)∧((q.rc r).b ≤v∧v<(q.rc r).d)
def Ax.inL (q:Ax) (L:List R6) (p u v:Int):Prop:= ∃r∈L,q.inB r p u v
def Ax.to (q:Ax) (p u v:Int):Int×Int×Int:=match q with
 | .x =>(p,u,v)
 | .y =>(u,p,v)
 | .z =>(u,v,p)
theorem Ax.inL_S (q:Ax) (L:List R6) (p u v:Int):q.inL L p u v↔inS L (q.to p u v).1 (q.to p u v).2.1 (q.to p u v).2.2:=by
 cases q <;> constructor <;> rintro ⟨r,hr,h1,h2,h3⟩
 ·exact ⟨r,hr,h1,h2,h3⟩
 ·exact ⟨r,hr,h1,h2,h3⟩
 ·exact ⟨r,hr,h2,h1,h3⟩
 ·exact ⟨r,hr,h2,h1,h3⟩
 ·exact ⟨r,hr,h2,h3,h1⟩
 ·exact ⟨r,hr,h3,h1,h2⟩
theorem j5t (l:List R4) (u v:Int):ptL Xi.inB l (u,v)↔ ∃r∈l,(r.a≤u∧u<r.c)∧(r.b≤v∧v<r.d):=by
 constructor
 ·rintro ⟨r,hr,h1,h2,h3,h4⟩;exact ⟨r,hr,⟨h1,h2⟩,h3,h4⟩
 ·rintro ⟨r,hr,⟨h1,h2⟩,h3,h4⟩;exact ⟨r,hr,h1,h2,h3,h4⟩
theorem x6w (q:Ax) (L:List R6) (p u v:Int):ptL Xi.inB (z6u q L p) (u,v)↔q.inL L p u v:=by
 rw [j5t];constructor
 ·rintro ⟨s,hs,h⟩;obtain ⟨r,hr,rfl⟩:=AO.1 hs;obtain ⟨h1,h2⟩:=AV.1 hr;simp only [Ae,At] at h2;exact ⟨r,h1,h2,h⟩
 ·rintro ⟨r,hr,h1,h2⟩;exact ⟨q.rc r,AO.2 ⟨r,AV.2 ⟨hr,by grind⟩,rfl⟩,h2⟩
theorem Ax.val (q:Ax) {r:R6} (h:Qf r=true):Vi (q.rc r)=true∧q.lo r<q.hi r∧ -1000000≤q.lo r∧q.hi r≤1000000:=by
 have:=Ju h;cases q
 ·refine ⟨?_,by show r.a<r.d;omega,by show _≤r.a;omega,by show r.d≤_;omega⟩;show Vi ⟨r.b,r.c,r.e,r.f⟩=true
  grind [Vi]
 ·refine ⟨?_,by show r.b<r.e;omega,by show _≤r.b;omega,by show r.e≤_;omega⟩;show Vi ⟨r.a,r.c,r.d,r.f⟩=true
  grind [Vi]
 ·refine ⟨?_,by show r.c<r.f;omega,by show _≤r.c;omega,by show r.f≤_;omega⟩;show Vi ⟨r.a,r.b,r.d,r.e⟩=true
  grind [Vi]
theorem y1s (q:Ax) {L:List R6} (hv: ∀r∈L,Qf r=true) (p:Int): ∀s∈z6u q L p,Vi s=true:=fun s hs=>by obtain ⟨r,hr,rfl⟩:=AO.1 hs;exact (q.val (hv r (AV.1 hr).1)).1
theorem x3w (q:Ax) (L:List R6) (p:Int):(z6u q L p).length ≤L.length:=by
 grind [z6u]
theorem x4a {l:List R4} (hc:Xi.can l) (hb: ∀u v,ptL Xi.inB l (u,v)→(-1000000≤u∧u<1000000)∧(-1000000≤v∧v<1000000)): ∀r∈l,Vi r=true:=fun r hr=>by
 have hp:r.a<r.c∧r.b<r.d:=by obtain ⟨G,hG,e⟩:=hc;rw [e] at hr;obtain ⟨g,hg,hr⟩:=AJ.1 hr;obtain ⟨b,hb,rfl⟩:=AO.1 hr;obtain ⟨h1,h2,_⟩:=hG.all g hg;exact ⟨h1,Can.pos h2 b hb⟩
 have h1:=hb r.a r.b ((j5t _ _ _).2 ⟨r,hr,by omega,by omega⟩);have h2:=hb (r.c - 1) (r.d - 1) ((j5t _ _ _).2 ⟨r,hr,by omega,by omega⟩)
 grind [Vi]
theorem x2c {l:List R4} (hv: ∀r∈l,Vi r=true) {u v:Int} (h:ptL Xi.inB l (u,v)):(-1000000≤u∧u<1000000)∧(-1000000≤v∧v<1000000):=by
 grind [j5t,Vi]
structure Few (c l:List R4) (n:Nat):Prop where
 can:Xi.can l
 pts: ∀u v,ptL Xi.inB l (u,v)↔ptL Xi.inB c (u,v)
 val: ∀r∈l,Vi r=true
 len:l.length≤n*n
 sec: ∀x,(D4.inn l x).length ≤n
theorem j5v {l:List R4} (hv: ∀r∈l,Vi r=true) (hl:l.length≤400):(D4.out l).length ≤l.length*l.length:=by
 have h:=Qj 0 hv (fun r (h:r∈([]:List R4))=>by cases h);have e:rgJ 0 l []=D4.out l:=Xi.uniq _ _ h.1 (Kn hv hl).1 fun p=>by
  grind [Kn,z7j,opB]
 grind
theorem x3p {l:List R4} (hc:Xi.can l) (x:Int):z4r.can (D4.inn l x):=by
 obtain ⟨G,hG,e⟩:=hc
 grind [Dim.inn_can,z1h]
theorem v7t {c:List R4} (hv: ∀r∈c,Vi r=true) (hl:c.length≤20):Few c (D4.out c) c.length:=by
 obtain ⟨h1,h2⟩:=Kn hv (by omega);refine ⟨h1,fun u v=>h2 (u,v),x4a h1 fun u v h=>x2c hv ((h2 _).1 h),j5v hv (by omega),fun x=> ?_⟩;have h3:=z5v 0 (a:=D4.inn c x) (b:=[]) (Jf hv x) rfl;have h4:=y0t 0 (a:=D4.inn c x) (b:=[]) (Jf hv x) rfl;have e:spJ 0 (D4.inn c x) []=D4.inn (D4.out c) x:=z4r.uniq _ _ h4.1 (x3p h1 x) fun y=>by
  rw [h4.2];have a1:=y1g c x y;have a2:=y1g (D4.out c) x y;have: ¬pt [] y:=fun ⟨_,h,_⟩=>by cases h
  show _↔pt (D4.inn (D4.out c) x) y
  grind [opB]
 rw [←e];have:=D4.inn_length c x
 grind
theorem w4w {l:List R4} (hl:l.length≤400) (hv: ∀r∈l,Vi r=true) (hc:Xi.can l):z8v l=0:=by
 obtain ⟨h1,h2⟩:=Kn hv hl;have e:D4.out l=l:=Xi.uniq _ _ h1 hc h2
 grind [z2c,y5j,Wc,y7s,j1c,z8v,rgcF,Vh]
theorem y7r {E:Int→Int} {cs:List Int} (h: ∀x,E x=0): ∀k i,z7p E cs k i=0
 | 0,i=>rfl
 | k+1,i=>by show (bif E (rd cs i) != 0 then E (rd cs i) else z7p E cs k (i+1))=0;rw [h];exact y7r h k (i+1)
theorem x2z (o:Op) {a b:List R4} (la:a.length≤400) (lb:b.length≤400) (va: ∀r∈a,Vi r=true) (vb: ∀r∈b,Vi r=true) (ca:Xi.can a) (cb:Xi.can b)
  (sa: ∀x,(D4.inn a x).length +(D4.inn b x).length ≤400) (lj:(rgJ o.k a b).length ≤400):rgE o a b=0:=by
 have sc: ∀(l:List R4) (x:Int),l.length≤400→(∀r∈l,Vi r=true)→Xi.can l→y6h (D4.inn l x)=0:=fun l x hl hv hc=>
  (z5x _).2 ⟨AE (D4.inn_length l x) hl,Jf hv x,x3p hc x⟩
 have hz: ∀x,rgA o a b x=0:=fun x=>by
  unfold rgA spE;rw [sc a x la va ca,sc b x lb vb cb]
  grind [z5v,Jf,y5j]
 unfold rgE;rw [w4w la va ca,w4w lb vb cb,y7r hz];show y5j _=0
 grind [y5j]
def hiL (q:Ax) (L:List R6) (p:Int):List R4:=(L.filter fun r=>decide (q.hi r=p)).map q.rc
def loL (q:Ax) (L:List R6) (p:Int):List R4:=(L.filter fun r=>decide (q.lo r=p)).map q.rc
theorem v2j (q:Ax) {L:List R6} (hv: ∀r∈L,q.lo r<q.hi r) (p:Int):(hiL q L p).length +(loL q L p).length ≤L.length:=by
 unfold hiL loL;rw [Bp,Bp]
 induction L with
 | nil=>grind
 | cons r L ih=>
  grind
theorem hi_pt (q:Ax) (L:List R6) (p u v:Int):ptL Xi.inB (hiL q L p) (u,v)↔ ∃r∈L,q.hi r=p∧((q.rc r).a ≤u∧u<(q.rc r).c)∧((q.rc r).b ≤v∧v<(q.rc r).d):=by
 rw [j5t];constructor
 ·rintro ⟨s,hs,h⟩;obtain ⟨r,hr,rfl⟩:=AO.1 hs
  grind
 ·rintro ⟨r,hr,h1,h2⟩;exact ⟨q.rc r,AO.2 ⟨r,AV.2 ⟨hr,An h1⟩,rfl⟩,h2⟩
theorem lo_pt (q:Ax) (L:List R6) (p u v:Int):ptL Xi.inB (loL q L p) (u,v)↔ ∃r∈L,q.lo r=p∧((q.rc r).a ≤u∧u<(q.rc r).c)∧((q.rc r).b ≤v∧v<(q.rc r).d):=by
 rw [j5t];constructor
 ·rintro ⟨s,hs,h⟩;obtain ⟨r,hr,rfl⟩:=AO.1 hs
  grind
 ·rintro ⟨r,hr,h1,h2⟩;exact ⟨q.rc r,AO.2 ⟨r,AV.2 ⟨hr,An h1⟩,rfl⟩,h2⟩
theorem Ap6.not (q:Ax) {r s:R6} (h:Ap6 r s) {p u v:Int} (h1:q.inB r p u v) (h2:q.inB s p u v):False:=by obtain ⟨a1,a2,a3⟩:=h1;obtain ⟨b1,b2,b3⟩:=h2;unfold Ap6 at h;cases q <;> simp only [Ax.lo,Ax.hi,Ax.rc] at* <;> omega
theorem j0c {L:List R6} (hL:L.Pairwise Ap6) (q:Ax) {r s:R6} (hr:r∈L) (hs:s∈L) {p u v:Int} (h1:q.inB r p u v) (h2:q.inB s p u v):r=s:=by
 obtain ⟨i,hi,ei⟩:=AN hr;obtain ⟨j,hj,ej⟩:=AN hs;have pw:=A1.1 hL;rcases Bi i j with h | h | h
 ·have:=pw i j hi hj h;rw [ei,ej] at this;exact (this.not q h1 h2).elim
 ·grind
 ·have:=pw j i hj hi h;rw [ei,ej] at this;exact (this.not q h2 h1).elim
theorem u0e (q:Ax) {L:List R6} (hL:L.Pairwise Ap6) (hv: ∀r∈L,q.lo r<q.hi r) (p u v:Int):
  (q.inL L (p - 1) u v∧ ¬q.inL L p u v)↔(ptL Xi.inB (hiL q L p) (u,v)∧ ¬ptL Xi.inB (loL q L p) (u,v)):=by
 rw [hi_pt,lo_pt];constructor
 ·rintro ⟨⟨r,hr,h1,h2⟩,h3⟩;refine ⟨⟨r,hr,?_,h2⟩,fun ⟨s,hs,k1,k2⟩=>h3 ⟨s,hs,⟨by omega,by grind⟩,k2⟩⟩;refine A8 fun hn=>h3 ⟨r,hr,⟨by omega,by omega⟩,h2⟩
 ·rintro ⟨⟨r,hr,h1,h2⟩,h3⟩;have hlt:=hv r hr;have hb:q.inB r (p - 1) u v:=⟨⟨by omega,by omega⟩,h2⟩
  refine ⟨⟨r,hr,hb⟩,fun ⟨s,hs,k1,k2⟩=> ?_⟩;by_cases e:q.lo s=p
  ·grind
  ·have:=j0c hL q hr hs hb ⟨⟨by omega,by omega⟩,k2⟩
   grind
theorem v0u (q:Ax) {L:List R6} (hL:L.Pairwise Ap6) (hv: ∀r∈L,q.lo r<q.hi r) (p u v:Int):
  (q.inL L p u v∧ ¬q.inL L (p - 1) u v)↔(ptL Xi.inB (loL q L p) (u,v)∧ ¬ptL Xi.inB (hiL q L p) (u,v)):=by
 rw [hi_pt,lo_pt];constructor
 ·rintro ⟨⟨r,hr,h1,h2⟩,h3⟩;refine ⟨⟨r,hr,?_,h2⟩,fun ⟨s,hs,k1,k2⟩=>h3 ⟨s,hs,⟨by grind,by omega⟩,k2⟩⟩;refine A8 fun hn=>h3 ⟨r,hr,⟨by omega,by omega⟩,h2⟩
 ·rintro ⟨⟨r,hr,h1,h2⟩,h3⟩;have hlt:=hv r hr;have hb:q.inB r p u v:=⟨⟨by omega,by omega⟩,h2⟩
  refine ⟨⟨r,hr,hb⟩,fun ⟨s,hs,k1,k2⟩=> ?_⟩;by_cases e:q.hi s=p
  ·grind
  ·have:=j0c hL q hr hs hb ⟨⟨by omega,by omega⟩,k2⟩
   grind
def upF (q:Ax) (L:List R6) (p:Int):List R4:=rgJ 2 (D4.out (z6u q L (p - 1))) (D4.out (z6u q L p))
def dnF (q:Ax) (L:List R6) (p:Int):List R4:=rgJ 2 (D4.out (z6u q L p)) (D4.out (z6u q L (p - 1)))
section
variable (q:Ax) {L:List R6} (hv: ∀r∈L,Qf r=true) (hl:L.length≤20) (hL:L.Pairwise Ap6)
include hv hl
theorem fw (p:Int):Few (z6u q L p) (D4.out (z6u q L p)) (z6u q L p).length :=v7t (y1s q hv p) (AE (x3w q L p) hl)
theorem v2h (p:Int):Xi.can (upF q L p)∧ ∀u v,ptL Xi.inB (upF q L p) (u,v)↔(q.inL L (p - 1) u v∧ ¬q.inL L p u v):=by have f1:=fw q hv hl (p - 1);have f2:=fw q hv hl p;obtain ⟨h1,h2,_⟩:=Qj 2 f1.val f2.val;refine ⟨h1,fun u v=> ?_⟩;rw [show ptL Xi.inB (upF q L p) (u,v)↔_ from h2 (u,v),←x6w,←x6w,←f1.pts,←f2.pts];simp [opB]
theorem v8h (p:Int):Xi.can (dnF q L p)∧ ∀u v,ptL Xi.inB (dnF q L p) (u,v)↔(q.inL L p u v∧ ¬q.inL L (p - 1) u v):=by have f1:=fw q hv hl (p - 1);have f2:=fw q hv hl p;obtain ⟨h1,h2,_⟩:=Qj 2 f2.val f1.val;refine ⟨h1,fun u v=> ?_⟩;rw [show ptL Xi.inB (dnF q L p) (u,v)↔_ from h2 (u,v),←x6w,←x6w,←f1.pts,←f2.pts];simp [opB]
include hL
theorem u0d (p:Int):(upF q L p).length +(dnF q L p).length ≤((hiL q L p).length +(loL q L p).length)*((hiL q L p).length +(loL q L p).length):=by
 have hr: ∀r∈L,q.lo r<q.hi r:=fun r h=>(q.val (hv r h)).2.1;have va: ∀s∈hiL q L p,Vi s=true:=fun s hs=>by obtain ⟨r,hr,rfl⟩:=AO.1 hs;exact (q.val (hv r (AV.1 hr).1)).1
 have vb: ∀s∈loL q L p,Vi s=true:=fun s hs=>by obtain ⟨r,hr,rfl⟩:=AO.1 hs;exact (q.val (hv r (AV.1 hr).1)).1
 obtain ⟨a1,a2,_⟩:=Qj 2 va vb;obtain ⟨b1,b2,_⟩:=Qj 2 vb va;obtain ⟨u1,u2⟩:=v2h q hv hl p;obtain ⟨d1,d2⟩:=v8h q hv hl p;have e1:upF q L p=rgJ 2 (hiL q L p) (loL q L p):=Xi.uniq _ _ u1 a1 fun ⟨u,v⟩=>by
  grind [u0e,opB]
 have e2:dnF q L p=rgJ 2 (loL q L p) (hiL q L p):=Xi.uniq _ _ d1 b1 fun ⟨u,v⟩=>by
  grind [v0u,opB]
 rw [e1,e2];exact u2z va vb
end
def fcF (q:Ax) (s:Bool) (L:List R6) (p:Int):List R4:=match s with
 | true=>upF q L p
 | false=>dnF q L p
theorem y6q (q:Ax) (L:List R6):(plQ q L).Pairwise (· < ·):=by
 grind [plQ,Js,Wx]
theorem v5s (q:Ax) (L:List R6) (p:Int):p∈plQ q L↔ ∃r∈L,p=q.lo r∨p=q.hi r:=by
 grind [plQ,Js,Wx,endsQ]
theorem x8e (a:Int): ∀P:List Int,P.Pairwise (· < ·)→(P.map fun p=>if a=p then 1 else 0).sum ≤1
 | [],_=>Ay _
 | p::P,h=>by
  obtain ⟨h1,h2⟩:=AR.1 h;rw [AU,BK];by_cases e:a=p
  ·rw [AL e];have:(P.map fun p=>if a=p then 1 else 0)=P.map fun _=>0:=List.map_congr_left fun x hx=>by
    grind
   rw [this];have: ∀l:List Int,(l.map fun _=>0).sum =0:=fun l=>by induction l with
    | nil=>rfl
    | cons _ _ ih=>grind
   grind
  simp_all [x8e]
theorem y5u (f:R6→Int) (P:List Int) (hP:P.Pairwise (· < ·)) (g:R6→R4): ∀L:List R6,(P.map fun p=>((L.filter fun r=>decide (f r=p)).map g).length).sum ≤L.length
 | []=>by
  have: ∀l:List Int,(l.map fun p=>((([]:List R6).filter fun r=>decide (f r=p)).map g).length).sum =0:=fun l=>by induction l with
   | nil=>rfl
   | cons _ _ ih=>grind
  grind
 | r::L=>by
  have ih:=y5u f P hP g L;have h1:=x8e (f r) P hP;have: ∀l:List Int,(l.map fun p=>(((r::L).filter fun r=>decide (f r=p)).map g).length).sum =(l.map fun p=>if f r=p then 1 else 0).sum +(l.map fun p=>((L.filter fun r=>decide (f r=p)).map g).length).sum :=fun l=>by
   induction l with
   | nil=>rfl
   | cons p l ih=>
    grind
  grind
def w1t (x:Int):Prop:= -12≤x∧x<12
def nb2 (R:List R4):Prop:= ∀u v,ptL Xi.inB R (u,v)→w1t u∧w1t v
def nbS (L:List R6):Prop:= ∀x y z,inS L x y z→w1t x∧w1t y∧w1t z
def L25 :List Int:=(List.range 25).map fun (n:Nat)=>(n:Int) - 12
theorem v9q {x:Int} (h: -12≤x∧x≤12):x∈L25:=AO.2 ⟨(x+12).toNat,A5.2 (by omega),by omega⟩
theorem v5f {R:List R4} (hc:Xi.can R) (U W:List Int) (hU: ∀u v,¬(ptL Xi.inB R (u - 1,v)↔ptL Xi.inB R (u,v))→u∈U) (hW: ∀u v,¬(ptL Xi.inB R (u,v - 1)↔ptL Xi.inB R (u,v))→v∈W):
  R.length≤(U.length - 1)*(W.length / 2)∧ ∀x,(D4.inn R x).length ≤W.length / 2:=by
 have sp: ∀(x:Int) (s:List R2),z4r.can s→(∀y,ptL z4r.inB s y↔ptL Xi.inB R (x,y))→s.length≤W.length / 2:=fun x s hs hy=>by have:=j2r hs W 1 fun y hn=>List.count_pos_iff.2 (hW x y (by grind));omega
 exact ⟨j9t hc (fun u v=>ptL Xi.inB R (u,v)) (fun _ _=>Iff.rfl) U (fun x y hn=>hU x y hn) _ sp,fun x=>sp x _ (x3p hc x) fun y=>y1g R x y⟩
theorem x3f {R:List R4} (hc:Xi.can R) (h:nb2 R):R.length≤288∧ ∀x,(D4.inn R x).length ≤12:=by
 have key: ∀{a b:Prop} {x:Int},¬(a↔b)→(a→w1t (x - 1))→(b→w1t x)→x∈L25:=fun {a b x} hn ha hb=>v9q (by
  grind [w1t])
 have:=v5f hc L25 L25 (fun u v hn=>key hn (fun k=>(h _ _ k).1) fun k=>(h _ _ k).1) (fun u v hn=>key hn (fun k=>(h _ _ k).2) fun k=>(h _ _ k).2);have e:L25.length=25:=rfl
 grind
theorem v8m (q:Ax) (L:List R6) (p:Int):y8z q.ix L p=z6u q L p:=by cases q <;> rfl
theorem v5t (q:Ax) (L:List R6):plA q.ix L=plQ q L:=by cases q <;> rfl
section
variable {L:List R6} (h:Zh L=0)
include h
theorem z2o (q:Ax) (p:Int):Xi.can (D4.out (z6u q L p))∧(∀u v,ptL Xi.inB (D4.out (z6u q L p)) (u,v)↔q.inL L p u v)∧ ∀r∈D4.out (z6u q L p),Vi r=true:=by obtain ⟨hl,hv,_,_⟩:=Vk h;obtain ⟨h1,h2⟩:=Kn (y1s q hv p) (AE (x3w q L p) hl);exact ⟨h1,fun u v=>by rw [h2,x6w],x4a h1 fun u v k=>x2c (y1s q hv p) ((h2 _).1 k)⟩
theorem z7l (hn:nbS L) (q:Ax) {p u v:Int} (k:q.inL L p u v):w1t p∧w1t u∧w1t v:=by
 have _u:=h;rw [q.inL_S] at k;have:=hn _ _ _ k;cases q
 ·exact this
 ·exact ⟨this.2.1,this.1,this.2.2⟩
 ·exact ⟨this.2.2,this.1,this.2.1⟩
theorem w6q (hn:nbS L) (q:Ax) (p:Int):Wj q.ix L p=0∧Zd q.ix L p=D4.out (z6u q L p)∧(D4.out (z6u q L p)).length ≤288∧ ∀x,(D4.inn (D4.out (z6u q L p)) x).length ≤12:=by
 obtain ⟨hl,hv,_,_⟩:=Vk h;obtain ⟨c,pts,_⟩:=z2o h q p;obtain ⟨n1,n2⟩:=x3f c fun u v k=>(z7l h hn q ((pts u v).1 k)).2
 grind [Qd,y1s,x3w,Wj,Zd,v8m]
end
theorem w4o {L:List R6} (h:Zh L=0):z1p.can L:=by
 obtain ⟨hl,hv,_,_⟩:=Vk h
 grind [z1w,w6s,rckF,Ka,j6r,u1a]
theorem y7l {L:List R6} (h:Zh L=0) (z:Int):Xi.can (D6.inn L z)∧(∀r∈D6.inn L z,Vi r=true)∧(D6.inn L z).length ≤400∧D4.out (D6.inn L z)=D6.inn L z:=by
 obtain ⟨hl,hv,e,_⟩:=Vk h;have hc:z1p.can L:=w4o h;obtain ⟨G,hG,e⟩:=hc;have c:Xi.can (D6.inn L z):=by grind [Dim.inn_can,z2q]
 have v:=z5r hv z;have n:=AE (D6.inn_length L z) hl;exact ⟨c,v,n,Xi.uniq _ _ (Kn v (by omega)).1 c (Kn v (by omega)).2⟩
theorem inn_nb {L:List R6} (h:nbS L) (z:Int):nb2 (D6.inn L z):=fun u v k=>by
 have:=h u v z ((w1s L u v z).1 k)
 grind
section
variable {a b:List R6} (ha:Zh a=0) (hb:Zh b=0) (na:nbS a) (nb:nbS b)
include ha hb na nb
theorem sec_u (x:Int):slA .u a b x=0:=by
 obtain ⟨a1,a2,a3,a4⟩:=y7l ha x;obtain ⟨b1,b2,b3,b4⟩:=y7l hb x;obtain ⟨ma0,ma1⟩:=Qd a2 a3 (by grind);obtain ⟨mb0,mb1⟩:=Qd b2 b3 (by grind)
 grind [x3f,inn_nb,Qj,nb2,opB,x2z,slA]
theorem slE_u :slE .u a b=y5j (slJ .u a b).length :=by unfold slE;rw [ha,hb,y7r (sec_u ha hb na nb)];rfl
theorem u_pts :z1p.can (slJ .u a b)∧ ∀x y z,inS (slJ .u a b) x y z↔inS a x y z∨inS b x y z:=by
 have hS: ∀x,slS .u a b x=rgJ 0 (D6.inn a x) (D6.inn b x):=fun x=>by
  grind [y7l,Qd,slS]
 have e:slJ .u a b=(D6.goS (fun x=>rgJ 0 (D6.inn a x) (D6.inn b x)) (D6.cuts (a++b)) ((D6.cuts (a++b)).length - 1) 0 ⟨[],[],0,0⟩).out :=by unfold slJ;rw [show slS .u a b=fun x=>rgJ 0 (D6.inn a x) (D6.inn b x) from funext hS]
 have j:=fun x=>Qj 0 (y7l ha x).2.1 (y7l hb x).2.1;obtain ⟨h1,h2⟩:=Dim.goJ_can z2q z2t Xi a b (rgJ 0) (fun x=>(j x).1) (by
  obtain ⟨j1,j2,j3⟩:=Qj 0 (a:=[]) (b:=[]) (fun r hr=>by cases hr) (fun r hr=>by cases hr);simp_all)
 rw [e];refine ⟨h1,fun x y z=> ?_⟩;have _u:=na;have _v:=nb;rw [Kj,show ptL z1p.inB _ (z,x,y)↔_ from h2 z (x,y),(j z).2.1,←w1s a,←w1s b];simp [opB]
end
theorem x5x {S:List R6} (h:j0f S=true):nbS S∧S.length≤6:=by
 obtain ⟨h1,h2⟩:=BF.1 h;refine ⟨fun x y z ⟨r,hr,k1,k2,k3⟩=> ?_,Av h1⟩
 grind [w1t]
theorem x8u {l:List Pa}: ∀k i,skG l k i=0→ ∀j,i≤j→j<i+k→x6z l j=false
 | 0,i,_,j,h1,h2=>by omega
 | k+1,i,h,j,h1,h2=>by
  have h:(bif x6z l i then (8:Int) else skG l k (i+1))=0:=h;rcases Yw (x6z l i) with q | q
  ·rw [q] at h;cases h
  ·rw [q,Aa] at h;rcases A4 h1 with rfl | h1
   ·exact q
   ·exact x8u k (i+1) h j h1 (by omega)
def w6d (b:R6) (x y z:Int):Prop:=(b.a≤x∧x<b.d)∧(b.b≤y∧y<b.e)∧(b.c≤z∧z<b.f)
structure Land (l:List Pa):Prop where
 len:l.length≤50
 sck: ∀i,i<l.length→Zh (rd l i).s =0
 val: ∀i,i<l.length→Zh [bxP (rd l i)]=0
 ins: ∀i,i<l.length→ ∀x y z,inS (rd l i).s x y z→w6d (bxP (rd l i)) x y z
 dis: ∀i j,i<l.length→j<l.length→ ∀x y z,w6d (bxP (rd l i)) x y z→w6d (bxP (rd l j)) x y z→i=j
theorem y1l {l:List Pa} (h:z0c l=0):Land l:=by
 obtain ⟨h5,hE,hG⟩:=x2k h;have bad:=x8u _ _ hG;have b3: ∀i,i<l.length→Zh [bxP (rd l i)]=0∧(rd l i).s.any (fun r=> !insR r (bxP (rd l i)))=false∧(l.take i).any (fun y=>w5t (bxP (rd l i)) (bxP y))=false:=fun i hi=>by
  grind [x6z]
 have half: ∀i j,i<l.length→j<i→ ∀x y z,w6d (bxP (rd l i)) x y z→w6d (bxP (rd l j)) x y z→False:=fun i j hi hj x y z h1 h2=>by
  have:=List.any_eq_false.1 (b3 i hi).2.2 (rd l j) (by
   rw [Yr (show j<l.length by omega)];refine List.mem_iff_getElem.2 ⟨j,by grind,?_⟩
   grind)
  grind [w6d,w5t,j6e]
 refine ⟨h5,fun i hi=>(y0x h hi).1,fun i hi=>(b3 i hi).1,fun i hi x y z ⟨r,hr,k1,k2,k3⟩=> ?_,fun i j hi hj x y z h1 h2=> ?_⟩;all_goals grind [insR,j1h,w6d]
theorem j3y :Zh []=0:=by refine z8h (Ay _) (fun r hr=>by cases hr) ⟨[],.nil,rfl⟩
theorem j6c :nbS []:=fun x y z ⟨r,hr,_⟩=>by cases hr
def z6t (q:Ax) (s:Bool):Nat:=match q,s with
 | .x,true=>0
 | .x,false=>1
 | .y,true=>2
 | .y,false=>3
 | .z,true=>4
 | .z,false=>5
theorem x6v (q:Ax) (s:Bool):dhA (z6t q s:Int)=q.ix:=by cases q <;> cases s <;> rfl
def y8p (s:Bool) (p:Int):Int:=match s with
 | true=>p - 1
 | false=>p
def z5i (s:Bool) (p:Int):Int:=match s with
 | true=>p
 | false=>p - 1
theorem v5w (q:Ax) (s:Bool) {p:Int} (hp: -12≤p∧p≤12):w0p (z6t q s:Int) p=y8p s p∧y8u (z6t q s:Int) p=z5i s p:=by have w:wrap .i64 (p - 1)=p - 1:=Zk (by omega);unfold w0p y8u y8p z5i;rw [w];cases q <;> cases s <;> exact ⟨rfl,rfl⟩
theorem opD {A B:Prop} [Decidable A] [Decidable B]:opB 2 (decide A) (decide B)=true↔A∧ ¬B:=by simp [opB]
theorem opE {A B:Prop} [Decidable A] [Decidable B]:opB 1 (decide A) (decide B)=true↔A∧B:=by simp [opB]
theorem w0e (q:Op) {a b:List R4} (h:rgE q a b=0):Wg q a b=rgJ q.k a b:=by unfold Wg;rw [h];rfl
def FS (q:Ax) (s:Bool) (S A:List R6) (p:Int):List R4:=rgJ 2 (D4.out (z6u q S (y8p s p))) (D4.out (z6u q A (z5i s p)))
section
variable {S A:List R6} (hS:Zh S=0) (hA:Zh A=0) (nS:nbS S) (nA:nbS A)
include hS hA
theorem v9r (q:Ax) (s:Bool) (p:Int):Xi.can (FS q s S A p)∧ ∀u v,ptL Xi.inB (FS q s S A p) (u,v)↔q.inL S (y8p s p) u v∧ ¬q.inL A (z5i s p) u v:=by
 grind [z2o,Qj,FS,opD]
include nS
theorem j1u (q:Ax) (s:Bool) (p:Int):(FS q s S A p).length ≤288:=by obtain ⟨c,pts⟩:=v9r hS hA q s p;exact (x3f c fun u v k=>(z7l hS nS q ((pts u v).1 k).1).2).1
include nA
theorem x8s (q:Ax) (s:Bool) {p:Int} (hp: -12≤p∧p≤12):y3w S A (z6t q s:Int) p=0∧z1i S A (z6t q s:Int) p=FS q s S A p:=by obtain ⟨o1,o2⟩:=v5w q s hp;obtain ⟨a0,a1,a2,a3⟩:=w6q hS nS q (y8p s p);obtain ⟨b0,b1,b2,b3⟩:=w6q hA nA q (z5i s p);obtain ⟨ca,_,va⟩:=z2o hS q (y8p s p);obtain ⟨cb,_,vb⟩:=z2o hA q (z5i s p);have fl:=j1u hS hA nS q s p;have e:=x2z .d (by omega) (by omega) va vb ca cb (fun x=>by grind) (show (FS q s S A p).length ≤400 by omega);unfold y3w z1i;rw [x6v,o1,o2,a0,b0,a1,b1,w0e .d e];refine ⟨?_,rfl⟩;show rgE .d _ _=0;exact e
end
theorem pl12 {S:List R6} (h:j0f S=true) (q:Ax) {p:Int} (hp:p∈plQ q S): -12≤p∧p≤12:=by obtain ⟨r,hr,e⟩:=(v5s q S p).1 hp;have b:=Ar.1 (BF.1 h).2 r hr;simp only [Ae,At] at b;cases q <;> simp only [Ax.lo,Ax.hi] at e <;> omega
theorem dir_ex {d:Nat} (h:d<6): ∃q s,d=z6t q s:=by
 have:d=0∨d=1∨d=2∨d=3∨d=4∨d=5:=by omega
 rcases this with rfl | rfl | rfl | rfl | rfl | rfl
 ·exact ⟨.x,true,rfl⟩
 ·exact ⟨.x,false,rfl⟩
 ·exact ⟨.y,true,rfl⟩
 ·exact ⟨.y,false,rfl⟩
 ·exact ⟨.z,true,rfl⟩
 ·exact ⟨.z,false,rfl⟩
theorem x6r (E:Int→Int): ∀l:List Int,(∀p∈l,E p=0)→y5g E l=0
 | [],_=>rfl
 | p::l,h=>by unfold y5g;rw [h p (by simp)];exact x6r E l fun x hx=>h x (by simp [hx])
section
variable {S N:List R6} {m:R6} {E:Int→Int→Int} {M:Int→Int→List R4} (hr:j0f S=true)
 (hE: ∀q s p,-12≤p∧p≤12→E (z6t q s:Int) p=0) (hM: ∀q s p,-12≤p∧p≤12→M (z6t q s:Int) p=faceQ S N m (z6t q s:Int) p)
include hr
theorem y8c (hE: ∀q s p,-12≤p∧p≤12→E (z6t q s:Int) p=0): ∀k d,d+k=6→v1h E S k d=0
 | 0,_,_=>rfl
 | k+1,d,h=>by
  obtain ⟨q,s,e⟩:=dir_ex (show d<6 by omega);have z:y5g (E (d:Int)) (plA (dhA (d:Int)) S)=0:=by rw [e,x6v,v5t];exact x6r _ _ fun p hp=>hE q s p (pl12 hr q hp)
  show (bif y5g (E (d:Int)) (plA (dhA (d:Int)) S) != 0 then y5g (E (d:Int)) (plA (dhA (d:Int)) S) else v1h E S k (d+1))=0;rw [z];exact y8c hE k (d+1) (by omega)
end
theorem w6v (M:Int→Int→List R4) (S:List R6):(y5n M S 6 0).length =(z1l M (z6t .x true:Int) (plQ .x S)).length +(z1l M (z6t .x false:Int) (plQ .x S)).length +((z1l M (z6t .y true:Int) (plQ .y S)).length +(z1l M (z6t .y false:Int) (plQ .y S)).length)+((z1l M (z6t .z true:Int) (plQ .z S)).length +(z1l M (z6t .z false:Int) (plQ .z S)).length):=by
 have e:y5n M S 6 0=z1l M ((0:Nat):Int) (plA (dhA ((0:Nat):Int)) S)++(z1l M ((0+1:Nat):Int) (plA (dhA ((0+1:Nat):Int)) S)++(z1l M ((0+1+1:Nat):Int) (plA (dhA ((0+1+1:Nat):Int)) S)++(z1l M ((0+1+1+1:Nat):Int) (plA (dhA ((0+1+1+1:Nat):Int)) S)++(z1l M ((0+1+1+1+1:Nat):Int) (plA (dhA ((0+1+1+1+1:Nat):Int)) S)++(z1l M ((0+1+1+1+1+1:Nat):Int) (plA (dhA ((0+1+1+1+1+1:Nat):Int)) S)++[]))))):=rfl
 grind [z6t,x6v,v5t]
theorem x3u (M:Int→Int→List R4) (d:Int): ∀P:List Int,(z1l M d P).length =(P.map fun p=>(M d p).length).sum
 | []=>rfl
 | p::P=>by have ih:=x3u M d P;show ((M d p).map _++z1l M d P).length =_;rw [AP,Bp,ih,AU,BK]
theorem v2o (e:Int) (f g:Int→Nat): ∀P:List Int,(∀p∈P,f p≤288∧(p≠e→f p≤g p))→(P.map f).sum ≤288*(P.map fun p=>if e=p then 1 else 0).sum +(P.map g).sum
 | [],_=>Ay _
 | p::P,h=>by
  have ih:=v2o e f g P fun x hx=>h x (by simp [hx])
  grind
theorem w4e {e:Int} {f g:Int→Nat} {P:List Int} (hP:P.Pairwise (· < ·)) (h: ∀p∈P,f p≤288∧(p≠e→f p≤g p)):(P.map f).sum ≤288+(P.map g).sum :=by
 have h1:=v2o e f g P h;have h2:=x8e e P hP
 grind
theorem u5c {S:List R6} (h:Zh S=0) (hl:S.length≤6) (q:Ax):((plQ q S).map fun p=>(fcF q true S p).length).sum +((plQ q S).map fun p=>(fcF q false S p).length).sum ≤240:=by
 obtain ⟨_,hv,_,hL⟩:=Vk h;have hr: ∀r∈S,q.lo r<q.hi r:=fun r h=>(q.val (hv r h)).2.1;have key: ∀P:List Int,(P.map fun p=>(fcF q true S p).length).sum +(P.map fun p=>(fcF q false S p).length).sum ≤20*((P.map fun p=>(hiL q S p).length).sum +(P.map fun p=>(loL q S p).length).sum):=fun P=>by
  induction P with
  | nil=>grind
  | cons p P ih=>
   simp only [AU,BK] at ih ⊢;have h1:=u0d q hv (by omega) hL p;have h2:(hiL q S p).length +(loL q S p).length ≤20:=by have:=v2j q hr p;omega
   have h3:=AA ((hiL q S p).length +(loL q S p).length) h2
   grind [fcF]
 have h1:=y5u q.hi (plQ q S) (y6q q S) q.rc S;have h2:=y5u q.lo (plQ q S) (y6q q S) q.rc S;have:=key (plQ q S);unfold hiL loL at this;omega
theorem v9c (q:Ax) (b:R6) (p u v:Int):q.inB b p u v↔w6d b (q.to p u v).1 (q.to p u v).2.1 (q.to p u v).2.2:=by
 cases q
 ·exact ⟨fun ⟨a,b,c⟩=>⟨a,b,c⟩,fun ⟨a,b,c⟩=>⟨a,b,c⟩⟩
 ·exact ⟨fun ⟨a,b,c⟩=>⟨b,a,c⟩,fun ⟨a,b,c⟩=>⟨b,a,c⟩⟩
 ·exact ⟨fun ⟨a,b,c⟩=>⟨b,c,a⟩,fun ⟨a,b,c⟩=>⟨c,a,b⟩⟩
def w7z (q:Ax) (s:Bool) (b:R6):Int:=match s with
 | true=>q.hi b
 | false=>q.lo b
theorem x1i {q:Ax} {s:Bool} {b:R6} {p u v:Int} (h:q.inB b (y8p s p) u v) (hne:p≠w7z q s b):q.inB b (z5i s p) u v:=by
 obtain ⟨h1,h2⟩:=h;refine ⟨?_,h2⟩;cases s with
 | true=>have h1:q.lo b≤p - 1∧p - 1<q.hi b:=h1;have hne:p≠q.hi b:=hne;show q.lo b≤p∧p<q.hi b;omega
 | false=>have h1:q.lo b≤p∧p<q.hi b:=h1;have hne:p≠q.lo b:=hne;show q.lo b≤p - 1∧p - 1<q.hi b;omega
theorem j7g {S:List R6} (h:Zh S=0) (hl:S.length≤6) (q:Ax) (s:Bool) (p:Int):Xi.can (fcF q s S p)∧ ∀u v,ptL Xi.inB (fcF q s S p) (u,v)↔q.inL S (y8p s p) u v∧ ¬q.inL S (z5i s p) u v:=by
 obtain ⟨_,hv,_,_⟩:=Vk h;cases s with
 | true=>exact v2h q hv (by omega) p
 | false=>exact v8h q hv (by omega) p
section
variable {l:List Pa} (L:Land l) (hn: ∀x∈l,j0f x.s=true) {A:List R6} (hA:Zh A=0) (nA:nbS A) (pA: ∀x y z,inS A x y z↔ ∃p∈l,inS p.s x y z) {i:Nat} (hi:i<l.length)
include L hn hA nA pA hi
theorem v3t (q:Ax) (s:Bool) {p:Int} (hne:p≠w7z q s (bxP (rd l i))):(FS q s (rd l i).s A p).length ≤(fcF q s (rd l i).s p).length :=by
 have _u:=nA;have hS:=L.sck i hi;have hr:=hn (rd l i) (by grind [Yr]);obtain ⟨nS,l6⟩:=x5x hr;obtain ⟨c1,p1⟩:=v9r hS hA q s p;obtain ⟨c2,p2⟩:=j7g hS l6 q s p;have e:FS q s (rd l i).s A p=fcF q s (rd l i).s p:=Xi.uniq _ _ c1 c2 fun ⟨u,v⟩=>by
  rw [p1,p2];constructor
  ·rintro ⟨k1,k2⟩;refine ⟨k1,fun k=>k2 ?_⟩;rw [q.inL_S] at k ⊢
   grind [Yr]
  ·rintro ⟨k1,k2⟩;refine ⟨k1,fun k=>k2 ?_⟩;rw [q.inL_S] at k;obtain ⟨r,hr',kr⟩:=(pA _ _ _).1 k;obtain ⟨j,hj,rfl⟩:=AN hr';rw [←Yr hj] at kr;have b1:q.inB (bxP (rd l i)) (y8p s p) u v:=(v9c q _ _ _ _).2 (L.ins i hi _ _ _ ((q.inL_S _ _ _ _).1 k1));have b2:=(v9c q _ _ _ _).1 (x1i b1 hne);have b3:=L.ins j hj _ _ _ kr;have:=L.dis i j hi hj _ _ _ b2 b3;subst this;rw [q.inL_S];exact kr
 grind
theorem u1c :(y5n (z1i (rd l i).s A) (rd l i).s 6 0).length ≤3000:=by
 have hS:=L.sck i hi;have hr:=hn (rd l i) (by grind [Yr]);obtain ⟨nS,l6⟩:=x5x hr;have one: ∀q s,(z1l (z1i (rd l i).s A) (z6t q s:Int) (plQ q (rd l i).s)).length ≤288+((plQ q (rd l i).s).map fun p=>(fcF q s (rd l i).s p).length).sum :=fun q s=>by
  rw [x3u];refine w4e (e:=w7z q s (bxP (rd l i))) (y6q q _) fun p hp=> ?_;rw [(x8s hS hA nS nA q s (pl12 hr q hp)).2]
  grind [j1u,v3t]
 have two: ∀q,(z1l (z1i (rd l i).s A) (z6t q true:Int) (plQ q (rd l i).s)).length +(z1l (z1i (rd l i).s A) (z6t q false:Int) (plQ q (rd l i).s)).length ≤816:=fun q=>by have a:=one q true;have b:=one q false;have c:=u5c hS l6 q;omega
 grind [w6v]
theorem j3k :v2k (y3w (rd l i).s A) (z1i (rd l i).s A) (rd l i).s =0:=by
 have hS:=L.sck i hi
 grind [Yr,x5x,u1c,y8c,x8s,v2k]
end
theorem j9u {b:R6} (h:Zh [b]=0):Qf b=true:=(Vk h).2.1 b (by simp)
theorem j5x {b:R6} (h:Zh [b]=0) (q:Ax) (p:Int):Wj q.ix [b] p=0∧Zd q.ix [b] p=D4.out (z6u q [b] p)∧(D4.out (z6u q [b] p)).length ≤1∧(∀x,(D4.inn (D4.out (z6u q [b] p)) x).length ≤1):=by obtain ⟨hl,hv,_,_⟩:=Vk h;have n1:(z6u q [b] p).length ≤1:=x3w q [b] p;have f:=v7t (y1s q hv p) (by omega);have fl:(D4.out (z6u q [b] p)).length ≤1:=AE f.len (Nat.mul_le_mul n1 n1);obtain ⟨m0,m1⟩:=Qd (y1s q hv p) (by omega) (by omega);unfold Wj Zd;rw [v8m];exact ⟨m1,m0,fl,fun x=>AE (f.sec x) n1⟩
theorem y6v (q:Ax) (b:R6) (p u v:Int):q.inL [b] p u v↔q.inB b p u v:=by
 constructor
 ·rintro ⟨r,hr,k⟩
  grind
 ·exact fun k=>⟨b,by simp,k⟩
section
variable {S T:List R6} {b:R6} (hS:Zh S=0) (hT:Zh T=0) (hb:Zh [b]=0) (nS:nbS S) (nT:nbS T)
include hT hb
def ZS (q:Ax) (s:Bool) (T:List R6) (b:R6) (p:Int):List R4:=rgJ 2 (D4.out (z6u q [b] (z5i s p))) (D4.out (z6u q T (z5i s p)))
theorem v9o (q:Ax) (s:Bool) (p:Int):Xi.can (ZS q s T b p)∧(∀u v,ptL Xi.inB (ZS q s T b p) (u,v)↔q.inB b (z5i s p) u v∧ ¬q.inL T (z5i s p) u v)∧ ∀r∈ZS q s T b p,Vi r=true:=by
 obtain ⟨a1,a2,a3⟩:=z2o hb q (z5i s p);obtain ⟨b1,b2,b3⟩:=z2o hT q (z5i s p);obtain ⟨j1,j2,_⟩:=Qj 2 a3 b3;have pts: ∀u v,ptL Xi.inB (ZS q s T b p) (u,v)↔q.inB b (z5i s p) u v∧ ¬q.inL T (z5i s p) u v:=fun u v=>by
  grind [ZS,opD,y6v]
 refine ⟨j1,pts,x4a j1 fun u v k=> ?_⟩;have:=(j2 (u,v)).1 k;rw [opD] at this;exact x2c a3 this.1
include nT
theorem ZS_len (q:Ax) (s:Bool) (p:Int):(ZS q s T b p).length ≤400∧ ∀x,(D4.inn (ZS q s T b p) x).length ≤13:=by
 obtain ⟨c,pts,_⟩:=v9o hT hb q s p;have key: ∀{a a' b b':Prop} {x lo hi:Int},¬((a∧ ¬b)↔(a'∧ ¬b'))→(b→w1t (x - 1))→(b'→w1t x)→(x≠lo→x≠hi→(a↔a'))→x∈L25++[lo,hi]:=fun {a a' b b' x lo hi} hn h1 h2 h3=>by
  rw [AH];by_cases e1:x=lo;all_goals grind [v9q,w1t]
 have:=v5f c (L25++[(q.rc b).a,(q.rc b).c]) (L25++[(q.rc b).b,(q.rc b).d]) (fun u v hn=>by
  rw [pts,pts] at hn;refine key hn (fun k=>(z7l hT nT q k).2.1) (fun k=>(z7l hT nT q k).2.1) fun e1 e2=> ?_
  grind [Ax.inB]) (fun u v hn=>by
  rw [pts,pts] at hn;refine key hn (fun k=>(z7l hT nT q k).2.2) (fun k=>(z7l hT nT q k).2.2) fun e1 e2=> ?_
  grind [Ax.inB])
 grind [L25]
include hS nS
def PS (q:Ax) (s:Bool) (S T:List R6) (b:R6) (p:Int):List R4:=rgJ 1 (D4.out (z6u q S (y8p s p))) (ZS q s T b p)
theorem w6x (q:Ax) (s:Bool) (p:Int):Xi.can (PS q s S T b p)∧(∀u v,ptL Xi.inB (PS q s S T b p) (u,v)↔q.inL S (y8p s p) u v∧q.inB b (z5i s p) u v∧ ¬q.inL T (z5i s p) u v)∧(PS q s S T b p).length ≤288:=by
 obtain ⟨a1,a2,a3⟩:=z2o hS q (y8p s p);obtain ⟨z1,z2,z3⟩:=v9o hT hb q s p;obtain ⟨j1,j2,_⟩:=Qj 1 a3 z3;have _u:=nT;have pts: ∀u v,ptL Xi.inB (PS q s S T b p) (u,v)↔q.inL S (y8p s p) u v∧q.inB b (z5i s p) u v∧ ¬q.inL T (z5i s p) u v:=fun u v=>by
  grind [PS,opE]
 exact ⟨j1,pts,(x3f j1 fun u v k=>(z7l hS nS q ((pts u v).1 k).1).2).1⟩
theorem x8h (q:Ax) (s:Bool) {p:Int} (hp: -12≤p∧p≤12):y3c S T b (z6t q s:Int) p=0∧Kv S T b (z6t q s:Int) p=PS q s S T b p:=by obtain ⟨o1,o2⟩:=v5w q s hp;obtain ⟨a0,a1,a2,a3⟩:=w6q hS nS q (y8p s p);obtain ⟨t0,t1,t2,t3⟩:=w6q hT nT q (z5i s p);obtain ⟨b0,b1,b2,b3⟩:=j5x hb q (z5i s p);obtain ⟨ca,_,va⟩:=z2o hS q (y8p s p);obtain ⟨ct,_,vt⟩:=z2o hT q (z5i s p);obtain ⟨cb,_,vb⟩:=z2o hb q (z5i s p);obtain ⟨zl,zx⟩:=ZS_len hT hb nT q s p;obtain ⟨cz,_,vz⟩:=v9o hT hb q s p;obtain ⟨_,_,pl⟩:=w6x hS hT hb nS nT q s p;have e1:=x2z .d (by omega) (by omega) vb vt cb ct (fun x=>by grind) (show (ZS q s T b p).length ≤400 from zl);have e2:=x2z .e (show _≤400 by omega) zl va vz ca cz (fun x=>by grind) (show (PS q s S T b p).length ≤400 by omega);have z0:Wg .d (D4.out (z6u q [b] (z5i s p))) (D4.out (z6u q T (z5i s p)))=ZS q s T b p:=w0e .d e1;unfold y3c Kv;rw [x6v,o1,o2,a0,b0,t0,a1,b1,t1,z0,w0e .e e2];have e1:Ko .d (D4.out (z6u q [b] (z5i s p))) (D4.out (z6u q T (z5i s p)))=0:=e1;rw [e1];refine ⟨?_,rfl⟩;show rgE .e _ _=0;exact e2
end
section
variable {l:List Pa} (L:Land l) (hn: ∀x∈l,j0f x.s=true) {i k:Nat} (hi:i<l.length) (hk:k<l.length) (hik:i≠k)
include L hn hi hk hik
theorem v2s :v2k (y3c (rd l i).s (rd l k).s (bxP (rd l k))) (Kv (rd l i).s (rd l k).s (bxP (rd l k))) (rd l i).s =0:=by
 have hS:=L.sck i hi;have hT:=L.sck k hk;have hb:=L.val k hk;have hr:=hn (rd l i) (by grind [Yr]);have hr2:=hn (rd l k) (by grind [Yr]);obtain ⟨nS,_⟩:=x5x hr;obtain ⟨nT,_⟩:=x5x hr2;have side: ∀q s p,p≠w7z q s (bxP (rd l i))→(PS q s (rd l i).s (rd l k).s (bxP (rd l k)) p).length ≤0:=fun q s p hne=>by
  obtain ⟨c,pts,_⟩:=w6x hS hT hb nS nT q s p;have:PS q s (rd l i).s (rd l k).s (bxP (rd l k)) p=[]:=z0w Xi c fun ⟨u,v⟩ m=>by obtain ⟨k1,k2,_⟩:=(pts u v).1 m;have b1:q.inB (bxP (rd l i)) (y8p s p) u v:=(v9c q _ _ _ _).2 (L.ins i hi _ _ _ ((q.inL_S _ _ _ _).1 k1));exact hik (L.dis i k hi hk _ _ _ ((v9c q _ _ _ _).1 (x1i b1 hne)) ((v9c q _ _ _ _).1 k2))
  grind
 have one: ∀q s,(z1l (Kv (rd l i).s (rd l k).s (bxP (rd l k))) (z6t q s:Int) (plQ q (rd l i).s)).length ≤288:=fun q s=>by
  rw [x3u];have:=w4e (e:=w7z q s (bxP (rd l i))) (f:=fun p=>(Kv (rd l i).s (rd l k).s (bxP (rd l k)) (z6t q s:Int) p).length) (g:=fun _=>0) (y6q q (rd l i).s) fun p hp=>by
   show (Kv (rd l i).s (rd l k).s (bxP (rd l k)) (z6t q s:Int) p).length ≤288∧(p≠w7z q s (bxP (rd l i))→(Kv (rd l i).s (rd l k).s (bxP (rd l k)) (z6t q s:Int) p).length ≤0);rw [(x8h hS hT hb nS nT q s (pl12 hr q hp)).2]
   grind [w6x]
  have z: ∀P:List Int,(P.map fun _=>(0:Nat)).sum =0:=fun P=>by
   induction P with
   | nil=>rfl
   | cons _ _ ih=>grind
  grind
 have dQ:(y5n (Kv (rd l i).s (rd l k).s (bxP (rd l k))) (rd l i).s 6 0).length ≤3000:=by have a:=one .x true;have b:=one .x false;have c:=one .y true;have d:=one .y false;have e:=one .z true;have f:=one .z false;rw [w6v];omega
 grind [y8c,x8h,v2k]
end
theorem v4d (b:R6):rvbR b=true↔Qf b=true:=by
 grind [rvbR,rvbV,x7s,y9i,x7r]
theorem can1 (a b:Int) (h:a<b):z4r.can [⟨a,b⟩]:=⟨by simpa using h,by simp⟩
theorem y1i {b:R6} (h:Qf b=true):Zh [b]=0:=by have v:=Ju h;refine z8h (show 1≤400 by decide) (fun r hr=>by grind) ⟨[⟨b.c,b.f,[⟨b.a,b.b,b.d,b.e⟩]⟩],.one _ ⟨by grind,⟨[⟨b.a,b.d,[⟨b.b,b.e⟩]⟩],.one _ ⟨by grind,can1 b.b b.e (by omega),by simp⟩,rfl⟩,by simp⟩,rfl⟩
theorem u3t {a b:R6} (ha:Qf a=true) (hb:Qf b=true):w5t a b= !eqB (w9f a b) o6:=by
 have va:=Ju ha;have vb:=Ju hb;unfold w5t j6e w9f y0l
 grind [w1v,w1u,eqB,o6]
theorem j6w {a b:R6} (ha:Qf a=true):insR a b=eqB (w9f a b) a:=by
 have va:=Ju ha
 grind [insR,j1h,w9f,y0l,w1v,w1u,eqB]
theorem v3u : ∀l:List Pa,skE l=rkE l
 | []=>rfl
 | x::l=>by unfold skE rkE;rw [w6s,v3u l]
theorem any_cg {α:Type} {f g:α→Bool}: ∀{l:List α},(∀x∈l,f x=g x)→l.any f=l.any g
 | [],_=>rfl
 | x::l,h=>by grind
theorem u7x {l:List Pa} (hs: ∀x∈l,Zh x.s=0): ∀(k i:Nat),i+k≤l.length→(∀j,j<i→Qf (bxP (rd l j))=true)→skG l k i=rkG l k i
 | 0,_,_,_=>rfl
 | k +1,i,h,hv=>by
  have hi:i<l.length:=by omega
  have hsi:=hs (rd l i) (by grind [Yr]);obtain ⟨_,sv,_,_⟩:=Vk hsi;show (bif x6z l i then (8:Int) else skG l k (i+1))=bif j5p l i then 8 else rkG l k (i+1);by_cases hb:Qf (bxP (rd l i))=true
  ·have e1:(Zh [bxP (rd l i)] != 0)=false:=by rw [y1i hb];rfl
   have e2:(!rvbR (bxP (rd l i)))=false:=by rw [(v4d _).2 hb];rfl
   have e:x6z l i=j5p l i:=by
    unfold x6z j5p;rw [e1,e2]
    congr 2
    ·grind [j6w]
    ·refine any_cg fun y hy=> ?_;obtain ⟨j,hj,rfl⟩:=AN hy
     grind [Yr,u3t]
   rw [e,u7x hs k (i+1) (by omega) fun j hj=>by
    rcases A4 (Nat.le_of_lt_succ hj) with rfl | g
    ·exact hb
    ·exact hv j g]
  grind [j9u,v4d,x6z,j5p]
theorem chk_eq (l:List Pa):z0c l=u9a l:=by
 unfold z0c u9a;rw [v3u];cases g:decide (50<l.length) with
 | true=>rfl
 | false=>
  rw [Aa,Aa];rcases Yw (rkE l != 0) with q | q
  ·rw [q];rfl
  ·rw [q,Aa,Aa];have h0:skE l=0:=by rw [v3u];simpa using q
   grind [u7x,x2l]
end Go.Am
end
