/- A part of a proof: several texts in one. -/
import Derived.Test.YtpddoeiakpbkbaaGreatLm4
set_option maxRecDepth 1000000
set_option maxHeartbeats 8000000
set_option linter.unusedVariables false
set_option linter.unusedSimpArgs false
noncomputable section
namespace Go.Am
open IntKind (wrap)
open Go.Proofs.Tryz
open Go.Proofs
inductive rlcS where
 | h0 (v3:Int)
 | h1 (v4:Int)
 | h2 (v4:Int) (v5:Int)
 | h3 (v4:Int) (v6:Int)
def rlcC (l0:List Pa):rlcS→Cfg
 | .h0 v3=>⟨⟨93,0,true⟩,none,(Zb prog 21 [1,1,0,1,0,0] 0),none,(Zy prog 9),⟨Yg [(0,(.dat l0.length (Zz l0))),(3,(ii v3))],Vj [] 0,0,[],true⟩,[],.leaf⟩
 | .h1 v4=>⟨⟨93,0,true⟩,none,(Zb prog 21 [1,1,1,0,1,0,0] 0),none,(Zy prog 9),⟨Yg [(0,(.dat l0.length (Zz l0))),(4,(ii v4))],Vj [] 0,0,[],true⟩,[],.leaf⟩
 | .h2 v4 v5=>⟨⟨93,0,true⟩,none,(Zb prog 21 [1,1,1,0,1,0,0,1,0,0,1,0,1,0,0] 0),none,(Zy prog 9),⟨Yg [(0,(.dat l0.length (Zz l0))),(4,(ii v4)),(5,(ii v5))],Vj [] 0,0,[],true⟩,[],.leaf⟩
 | .h3 v4 v6=>⟨⟨93,0,true⟩,none,(Zb prog 21 [1,1,1,0,1,0,0,1,0,0,1,1,1,0,0] 0),none,(Zy prog 9),⟨Yg [(0,(.dat l0.length (Zz l0))),(4,(ii v4)),(6,(ii v6))],Vj [] 0,0,[],true⟩,[],.leaf⟩
def rlcN0 :List (Option (List Nat)):=[some [0,3]]
def rlcM0 :List (Option (List Nat)):=[]
def rlcN1 :List (Option (List Nat)):=[some [0,4]]
def rlcM1 :List (Option (List Nat)):=[]
def rlcN2 :List (Option (List Nat)):=[some [0,4,5]]
def rlcM2 :List (Option (List Nat)):=[]
def rlcN3 :List (Option (List Nat)):=[some [0,4,6]]
def rlcM3 :List (Option (List Nat)):=[]
def Vd (l0:List Pa):rlcS→Xw rlcS
 | .h0 v3=>(bif (decide (v3<(l0.length:Int))) then (bif ((decide (0≤v3∧v3<(l0.length:Int)))&&true) then (bif (y6l (cvT (rd l0 v3.toNat).s)) then (bif ((z1n (cvT (rd l0 v3.toNat).s)) != 0) then (.ret [(.int .i64 (z1n (cvT (rd l0 v3.toNat).s)))]) else (.to (.h0 (wrap .i64 (v3+1))))) else .stuck) else .stuck) else (.to (.h1 0)))
 | .h1 v4=>(bif (decide (v4<(l0.length:Int))) then (bif ((decide (0≤v4∧v4<(l0.length:Int)))&&true) then (bif (!(rvbV (rd l0 v4.toNat).a (rd l0 v4.toNat).b (rd l0 v4.toNat).c (rd l0 v4.toNat).d (rd l0 v4.toNat).e (rd l0 v4.toNat).f)) then (.ret [(.int .i64 8)]) else (.to (.h2 v4 0))) else .stuck) else (.ret [(.int .i64 0)]))
 | .h2 v4 v5=>(bif ((decide (0≤v4∧v4<(l0.length:Int)))&&true) then (bif (decide (v5<(((rd l0 v4.toNat).s.length :Nat):Int))) then (bif ((decide (0≤v5∧v5<(((rd l0 v4.toNat).s.length :Nat):Int)))&&true) then (bif (!((((y0c (rd (rd l0 v4.toNat).s v5.toNat).a (rd (rd l0 v4.toNat).s v5.toNat).b (rd (rd l0 v4.toNat).s v5.toNat).c (rd (rd l0 v4.toNat).s v5.toNat).d (rd (rd l0 v4.toNat).s v5.toNat).e (rd (rd l0 v4.toNat).s v5.toNat).f (rd l0 v4.toNat).a (rd l0 v4.toNat).b (rd l0 v4.toNat).c (rd l0 v4.toNat).d (rd l0 v4.toNat).e (rd l0 v4.toNat).f).a == (rd (rd l0 v4.toNat).s v5.toNat).a)&&(((y0c (rd (rd l0 v4.toNat).s v5.toNat).a (rd (rd l0 v4.toNat).s v5.toNat).b (rd (rd l0 v4.toNat).s v5.toNat).c (rd (rd l0 v4.toNat).s v5.toNat).d (rd (rd l0 v4.toNat).s v5.toNat).e (rd (rd l0 v4.toNat).s v5.toNat).f (rd l0 v4.toNat).a (rd l0 v4.toNat).b (rd l0 v4.toNat).c (rd l0 v4.toNat).d (rd l0 v4.toNat).e (rd l0 v4.toNat).f).b == (rd (rd l0 v4.toNat).s v5.toNat).b)&&(((y0c (rd (rd l0 v4.toNat).s v5.toNat).a (rd (rd l0 v4.toNat).s v5.toNat).b (rd (rd l0 v4.toNat).s v5.toNat).c (rd (rd l0 v4.toNat).s v5.toNat).d (rd (rd l0 v4.toNat).s v5.toNat).e (rd (rd l0 v4.toNat).s v5.toNat).f (rd l0 v4.toNat).a (rd l0 v4.toNat).b (rd l0 v4.toNat).c (rd l0 v4.toNat).d (rd l0 v4.toNat).e (rd l0 v4.toNat).f).c == (rd (rd l0 v4.toNat).s v5.toNat).c)&&true)))&&((((y0c (rd (rd l0 v4.toNat).s v5.toNat).a (rd (rd l0 v4.toNat).s v5.toNat).b (rd (rd l0 v4.toNat).s v5.toNat).c (rd (rd l0 v4.toNat).s v5.toNat).d (rd (rd l0 v4.toNat).s v5.toNat).e (rd (rd l0 v4.toNat).s v5.toNat).f (rd l0 v4.toNat).a (rd l0 v4.toNat).b (rd l0 v4.toNat).c (rd l0 v4.toNat).d (rd l0 v4.toNat).e (rd l0 v4.toNat).f).d == (rd (rd l0 v4.toNat).s v5.toNat).d)&&(((y0c (rd (rd l0 v4.toNat).s v5.toNat).a (rd (rd l0 v4.toNat).s v5.toNat).b (rd (rd l0 v4.toNat).s v5.toNat).c (rd (rd l0 v4.toNat).s v5.toNat).d (rd (rd l0 v4.toNat).s v5.toNat).e (rd (rd l0 v4.toNat).s v5.toNat).f (rd l0 v4.toNat).a (rd l0 v4.toNat).b (rd l0 v4.toNat).c (rd l0 v4.toNat).d (rd l0 v4.toNat).e (rd l0 v4.toNat).f).e == (rd (rd l0 v4.toNat).s v5.toNat).e)&&(((y0c (rd (rd l0 v4.toNat).s v5.toNat).a (rd (rd l0 v4.toNat).s v5.toNat).b (rd (rd l0 v4.toNat).s v5.toNat).c (rd (rd l0 v4.toNat).s v5.toNat).d (rd (rd l0 v4.toNat).s v5.toNat).e (rd (rd l0 v4.toNat).s v5.toNat).f (rd l0 v4.toNat).a (rd l0 v4.toNat).b (rd l0 v4.toNat).c (rd l0 v4.toNat).d (rd l0 v4.toNat).e (rd l0 v4.toNat).f).f == (rd (rd l0 v4.toNat).s v5.toNat).f)&&true)))&&true))) then (.ret [(.int .i64 8)]) else (.to (.h2 v4 (wrap .i64 (v5+1))))) else .stuck) else (.to (.h3 v4 0))) else .stuck)
 | .h3 v4 v6=>(bif (decide (v6<v4)) then (bif ((decide (0≤v4∧v4<(l0.length:Int)))&&true) then (bif ((decide (0≤v6∧v6<(l0.length:Int)))&&true) then (bif (!((((y0c (rd l0 v4.toNat).a (rd l0 v4.toNat).b (rd l0 v4.toNat).c (rd l0 v4.toNat).d (rd l0 v4.toNat).e (rd l0 v4.toNat).f (rd l0 v6.toNat).a (rd l0 v6.toNat).b (rd l0 v6.toNat).c (rd l0 v6.toNat).d (rd l0 v6.toNat).e (rd l0 v6.toNat).f).a == 0)&&(((y0c (rd l0 v4.toNat).a (rd l0 v4.toNat).b (rd l0 v4.toNat).c (rd l0 v4.toNat).d (rd l0 v4.toNat).e (rd l0 v4.toNat).f (rd l0 v6.toNat).a (rd l0 v6.toNat).b (rd l0 v6.toNat).c (rd l0 v6.toNat).d (rd l0 v6.toNat).e (rd l0 v6.toNat).f).b == 0)&&(((y0c (rd l0 v4.toNat).a (rd l0 v4.toNat).b (rd l0 v4.toNat).c (rd l0 v4.toNat).d (rd l0 v4.toNat).e (rd l0 v4.toNat).f (rd l0 v6.toNat).a (rd l0 v6.toNat).b (rd l0 v6.toNat).c (rd l0 v6.toNat).d (rd l0 v6.toNat).e (rd l0 v6.toNat).f).c == 0)&&true)))&&((((y0c (rd l0 v4.toNat).a (rd l0 v4.toNat).b (rd l0 v4.toNat).c (rd l0 v4.toNat).d (rd l0 v4.toNat).e (rd l0 v4.toNat).f (rd l0 v6.toNat).a (rd l0 v6.toNat).b (rd l0 v6.toNat).c (rd l0 v6.toNat).d (rd l0 v6.toNat).e (rd l0 v6.toNat).f).d == 0)&&(((y0c (rd l0 v4.toNat).a (rd l0 v4.toNat).b (rd l0 v4.toNat).c (rd l0 v4.toNat).d (rd l0 v4.toNat).e (rd l0 v4.toNat).f (rd l0 v6.toNat).a (rd l0 v6.toNat).b (rd l0 v6.toNat).c (rd l0 v6.toNat).d (rd l0 v6.toNat).e (rd l0 v6.toNat).f).e == 0)&&(((y0c (rd l0 v4.toNat).a (rd l0 v4.toNat).b (rd l0 v4.toNat).c (rd l0 v4.toNat).d (rd l0 v4.toNat).e (rd l0 v4.toNat).f (rd l0 v6.toNat).a (rd l0 v6.toNat).b (rd l0 v6.toNat).c (rd l0 v6.toNat).d (rd l0 v6.toNat).e (rd l0 v6.toNat).f).f == 0)&&true)))&&true))) then (.ret [(.int .i64 8)]) else (.to (.h3 v4 (wrap .i64 (v6+1))))) else .stuck) else .stuck) else (.to (.h1 (wrap .i64 (v4+1)))))
def y4h (l0:List Pa):Xw rlcS:=(bif (decide ((l0.length:Int)>50)) then (.ret [(.int .i64 4)]) else (.to (.h0 0)))
theorem w8y (l0:List Pa): ∀s,Yt prog (Zy prog 21) (rlcC l0) (rlcC l0 s) (Vd l0 s)
 | .h0 v3=>(lb (fun k0=>(lo fun aJ=>(lo fun bC=>(lb (fun k1=>(lr 93 21 [1,1,0,1,0,0,1,0,0,1,0,0] 1 9 [(2,(ii (z1n (cvT (rd l0 (tn v3)).s))))] (sl Jb 33 [] ⟨[],[],[some [2]],[]⟩ ⟨[],[],[]⟩ (bl 2 3) (pp (pp (xI R6 (rd l0 (tn v3)).s.length (Zz (rd l0 (tn v3)).s)) (xw bC)) (ww aJ (tt k1 (pp (pp (xI R6 (rd l0 (tn v3)).s.length (Zz (rd l0 (tn v3)).s)) (xw bC)) (ww aJ (tt k0 nn))))))))) (fun k1=>(sl Jb 31 [] ⟨[],[],rlcN0,rlcM0⟩ ⟨[],[],[]⟩ (bl 2 1) (tt k1 (pp (pp (xI R6 (rd l0 (tn v3)).s.length (Zz (rd l0 (tn v3)).s)) (xw bC)) (ww aJ (tt k0 nn)))))))))) (fun k0=>(sl Jb 17 [] ⟨[],[],rlcN1,rlcM1⟩ ⟨[],[],[]⟩ [false] (tt k0 nn))))
 | .h1 v4=>(lb (fun k0=>(lo fun aJ=>(lb (fun k1=>(lr 93 21 [1,1,1,0,1,0,0,1,0,0,0,1,0,0] 1 9 [(2,(ii 8))] (sl Jb 28 [] ⟨[],[],[some [2]],[]⟩ ⟨[],[],[]⟩ (bl 2 3) (tt k1 (ww aJ (tt k0 nn)))))) (fun k1=>(sl Jb 32 [] ⟨[],[],rlcN2,rlcM2⟩ ⟨[],[],[]⟩ (bl 2 1) (tt k1 (ww aJ (tt k0 nn)))))))) (fun k0=>(lr 93 3 [1,1,1,1,0] 1 9 [(2,(ii 0))] (sl Jb 14 [] ⟨[],[],[some [2]],[]⟩ ⟨[],[],[]⟩ [false] (tt k0 nn)))))
 | .h2 v4 v5=>(lo fun bV=>(lb (fun k0=>(lo fun aJ=>(lb (fun k1=>(lr 93 21 [1,1,1,0,1,0,0,1,0,0,1,0,1,0,0,1,0,0,1,0,0] 1 9 [(2,(ii 8))] (sl Jb 23 [] ⟨[],[],[some [2]],[]⟩ ⟨[],[],[]⟩ (bl 2 3) (tt k1 (ww aJ (ww bV (ww bV (ww aJ (ww bV (tt k0 (ww bV nn))))))))))) (fun k1=>(sl Jb 27 [] ⟨[],[],rlcN2,rlcM2⟩ ⟨[],[],[]⟩ (bl 2 1) (tt k1 (ww aJ (ww bV (ww bV (ww aJ (ww bV (tt k0 (ww bV nn))))))))))))) (fun k0=>(sl Jb 20 [] ⟨[],[],rlcN3,rlcM3⟩ ⟨[],[],[]⟩ [false] (tt k0 (ww bV nn))))))
 | .h3 v4 v6=>(lb (fun k0=>(lo fun aJ=>(lo fun bC=>(lb (fun k1=>(lr 93 21 [1,1,1,0,1,0,0,1,0,0,1,1,1,0,0,1,0,0,1,0,0] 1 9 [(2,(ii 8))] (sl Jb 18 [] ⟨[],[],[some [2]],[]⟩ ⟨[],[],[]⟩ (bl 2 3) (tt k1 (ww bC (ww aJ (tt k0 nn))))))) (fun k1=>(sl Jb 22 [] ⟨[],[],rlcN3,rlcM3⟩ ⟨[],[],[]⟩ (bl 2 1) (tt k1 (ww bC (ww aJ (tt k0 nn)))))))))) (fun k0=>(sl Jb 16 [] ⟨[],[],rlcN1,rlcM1⟩ ⟨[],[],[]⟩ [false] (tt k0 nn))))
theorem x9w (l0:List Pa):Yt prog (Zy prog 21) (rlcC l0) (Zg prog 21 [(.dat l0.length (Zz l0))] true []) (y4h l0):=(lb (fun k0=>(lr 93 21 [1,0,1,0,0] 1 9 [(2,(ii 4))] (sl Jb 16 [] ⟨[],[],[some [2]],[]⟩ ⟨[],[],[]⟩ [true] (tt k0 nn)))) (fun k0=>(sl Jb 20 [] ⟨[],[],rlcN0,rlcM0⟩ ⟨[],[],[]⟩ [false] (tt k0 nn))))
theorem u2b (l0:List Pa) (n:Nat) (vs:List AVal) (h:Zr (Vd l0) n (y4h l0)=.ret vs):Jy prog (Zy prog 21) (Zg prog 21 [(.dat l0.length (Zz l0))] true []) vs:=by have:=Zd (w8y l0) n _ (x9w l0);rwa [h] at this
inductive rlmS where
 | h0 (v5:Int)
def y6e (l0:List Pa) (l1:List Pa):rlmS→Xw rlmS
 | .h0 v5=>(bif (decide (v5<(l0.length:Int))) then (bif ((decide (0≤v5∧v5<(l0.length:Int)))&&true) then (bif ((decide (0≤v5∧v5<(l1.length:Int)))&&true) then (bif (!((((rd l0 v5.toNat).a == (rd l1 v5.toNat).a)&&(((rd l0 v5.toNat).b == (rd l1 v5.toNat).b)&&(((rd l0 v5.toNat).c == (rd l1 v5.toNat).c)&&true)))&&((((rd l0 v5.toNat).d == (rd l1 v5.toNat).d)&&(((rd l0 v5.toNat).e == (rd l1 v5.toNat).e)&&(((rd l0 v5.toNat).f == (rd l1 v5.toNat).f)&&true)))&&true))) then (.ret [(.bool false)]) else (bif (Vw (cvT (rd l0 v5.toNat).s) (cvT (rd l1 v5.toNat).s)) then (bif (!(Jf (cvT (rd l0 v5.toNat).s) (cvT (rd l1 v5.toNat).s))) then (.ret [(.bool false)]) else (.to (.h0 (wrap .i64 (v5+1))))) else .stuck)) else .stuck) else .stuck) else (.ret [(.bool true)]))
inductive rlnS where
 | h0 (v3:Int)
def rlnC (l0:List Pa):rlnS→Cfg
 | .h0 v3=>⟨⟨53,0,true⟩,none,(Zb prog 9 [1,1,0,1,0,0] 0),none,(Zy prog 9),⟨Yg [(0,(.dat l0.length (Zz l0))),(3,(ii v3))],Vj [] 0,0,[],true⟩,[],.leaf⟩
def rlnN0 :List (Option (List Nat)):=[some [0,3]]
def rlnM0 :List (Option (List Nat)):=[]
def z0u (l0:List Pa):rlnS→Xw rlnS
 | .h0 v3=>(bif (decide (v3<(l0.length:Int))) then (bif ((decide (0≤v3∧v3<(l0.length:Int)))&&true) then (bif (decide ((((rd l0 v3.toNat).s.length :Nat):Int)>6)) then (.ret [(.bool false)]) else (bif (Qw (cvT (rd l0 v3.toNat).s)) then (bif (!(w1b (cvT (rd l0 v3.toNat).s))) then (.ret [(.bool false)]) else (bif (!(x7z (rd l0 v3.toNat).a (rd l0 v3.toNat).b (rd l0 v3.toNat).c (-2000000))) then (.ret [(.bool false)]) else (bif (!(x7z (rd l0 v3.toNat).d (rd l0 v3.toNat).e (rd l0 v3.toNat).f (-2000000))) then (.ret [(.bool false)]) else (.to (.h0 (wrap .i64 (v3+1))))))) else .stuck)) else .stuck) else (.ret [(.bool (decide ((l0.length:Int)≤6)))]))
def y4g (l0:List Pa):Xw rlnS:=(bif (decide ((l0.length:Int)>50)) then (.ret [(.bool (decide ((l0.length:Int)≤55)))]) else (.to (.h0 0)))
theorem w8x (l0:List Pa): ∀s,Yt prog (Zy prog 9) (rlnC l0) (rlnC l0 s) (z0u l0 s)
 | .h0 v3=>(lb (fun k0=>(lo fun aJ=>(lb (fun k1=>(lr 53 9 [1,1,0,1,0,0,1,0,0,1,1,0,0] 1 9 [(2,(.bool false))] (sl Jb 58 [] ⟨[],[],[some [2]],[]⟩ ⟨[],[],[]⟩ (trs 17 []) (tt k1 (ww aJ (ww aJ (tt k0 nn))))))) (fun k1=>(lo fun bX=>(lb (fun k2=>(lr 53 9 [1,1,0,1,0,0,1,0,0,1,1,0,0] 1 9 [(2,(.bool false))] (sl Jb 58 [] ⟨[],[],[some [2]],[]⟩ ⟨[],[],[]⟩ (bl 17 130817) (tt k2 (pp (pp (xI R6 (rd l0 (tn v3)).s.length (Zz (rd l0 (tn v3)).s)) (xw bX)) (ww aJ (tt k1 (ww aJ (ww aJ (tt k0 nn)))))))))) (fun k2=>(lb (fun k3=>(lr 53 9 [1,1,0,1,0,0,1,0,0,1,1,0,0] 1 9 [(2,(.bool false))] (sl Jb 58 [] ⟨[],[],[some [2]],[]⟩ ⟨[],[],[]⟩ (bl 17 126977) (tt k3 (tt k2 (pp (pp (xI R6 (rd l0 (tn v3)).s.length (Zz (rd l0 (tn v3)).s)) (xw bX)) (ww aJ (tt k1 (ww aJ (ww aJ (tt k0 nn))))))))))) (fun k3=>(lb (fun k4=>(lr 53 9 [1,1,0,1,0,0,1,0,0,1,1,0,0] 1 9 [(2,(.bool false))] (sl Jb 58 [] ⟨[],[],[some [2]],[]⟩ ⟨[],[],[]⟩ (bl 17 65537) (tt k4 (tt k3 (tt k2 (pp (pp (xI R6 (rd l0 (tn v3)).s.length (Zz (rd l0 (tn v3)).s)) (xw bX)) (ww aJ (tt k1 (ww aJ (ww aJ (tt k0 nn)))))))))))) (fun k4=>(sl Jb 62 [] ⟨[],[],rlnN0,rlnM0⟩ ⟨[],[],[]⟩ (bl 17 1) (tt k4 (tt k3 (tt k2 (pp (pp (xI R6 (rd l0 (tn v3)).s.length (Zz (rd l0 (tn v3)).s)) (xw bX)) (ww aJ (tt k1 (ww aJ (ww aJ (tt k0 nn))))))))))))))))))))) (fun k0=>(lr 53 3 [1,1,1,1,0] 1 9 [(2,(.bool (decide ((l0.length:Int)≤6))))] (sl Jb 17 [] ⟨[],[],[some [2]],[]⟩ ⟨[],[],[]⟩ [false] (tt k0 nn)))))
theorem x9v (l0:List Pa):Yt prog (Zy prog 9) (rlnC l0) (Zg prog 9 [(.dat l0.length (Zz l0))] true []) (y4g l0):=(lb (fun k0=>(lr 53 9 [1,0,1,0,0] 1 9 [(2,(.bool (decide ((l0.length:Int)≤55))))] (sl Jb 19 [] ⟨[],[],[some [2]],[]⟩ ⟨[],[],[]⟩ [true] (tt k0 nn)))) (fun k0=>(sl Jb 20 [] ⟨[],[],rlnN0,rlnM0⟩ ⟨[],[],[]⟩ [false] (tt k0 nn))))
theorem u2a (l0:List Pa) (n:Nat) (vs:List AVal) (h:Zr (z0u l0) n (y4g l0)=.ret vs):Jy prog (Zy prog 9) (Zg prog 9 [(.dat l0.length (Zz l0))] true []) vs:=by have:=Zd (w8x l0) n _ (x9v l0);rwa [h] at this
inductive sctS where
 | h0 (v8:List R4) (v17:Int)
abbrev y9z (v8:List R4) (aH:Int) (l1:List R6) (v17:Int):=(v8++[(R4.mk (z2u aH (rd l1 (tn v17)).a (rd l1 (tn v17)).b (rd l1 (tn v17)).c) (z2t aH (rd l1 (tn v17)).a (rd l1 (tn v17)).b (rd l1 (tn v17)).c) (z2u aH (rd l1 (tn v17)).d (rd l1 (tn v17)).e (rd l1 (tn v17)).f) (z2t aH (rd l1 (tn v17)).d (rd l1 (tn v17)).e (rd l1 (tn v17)).f))])
abbrev u8a (v8:List R4) (aH:Int) (l1:List R6) (v17:Int):=(Zo (Zz v8) 0 v8.length 4 [(ii (z2u aH (rd l1 (tn v17)).a (rd l1 (tn v17)).b (rd l1 (tn v17)).c)),(ii (z2t aH (rd l1 (tn v17)).a (rd l1 (tn v17)).b (rd l1 (tn v17)).c)),(ii (z2u aH (rd l1 (tn v17)).d (rd l1 (tn v17)).e (rd l1 (tn v17)).f)),(ii (z2t aH (rd l1 (tn v17)).d (rd l1 (tn v17)).e (rd l1 (tn v17)).f))])
def sctC (aH:Int) (l1:List R6) (x2:Int):sctS→Cfg
 | .h0 v8 v17=>⟨⟨62,0,true⟩,none,(Zb prog 47 [1,1,0,1,0,0] 0),none,(Zy prog 10),⟨Yg [(2,(ii x2)),(3,(.ptr 0 0)),(8,(.sla 1 4 0 v8.length (.un 4))),(15,(.dat l1.length (Zz l1))),(16,(ii (l1.length:Int))),(17,(ii v17))],Vj [⟨[(ii aH)],79,none⟩,⟨Ym v8.length (Zz v8),116,some ⟨4,v8.length,(Zz v8)⟩⟩] 0,2,[],true⟩,[],.leaf⟩
def u1e :List (Option (List Nat)):=[some [2,3,8,15,16,17]]
def u1f :List (Option (List Nat)):=[]
def z4r (aH:Int) (l1:List R6) (x2:Int):sctS→Xw sctS
 | .h0 v8 v17=>(bif (decide (v17<(l1.length:Int))) then (bif ((decide (0≤v17∧v17<(l1.length:Int)))&&true) then (bif (Uq aH (rd l1 v17.toNat).a (rd l1 v17.toNat).b (rd l1 v17.toNat).c) then (bif (decide ((y1q aH (rd l1 v17.toNat).a (rd l1 v17.toNat).b (rd l1 v17.toNat).c)≤x2)) then (bif (Uq aH (rd l1 v17.toNat).d (rd l1 v17.toNat).e (rd l1 v17.toNat).f) then (bif (decide (x2<(y1q aH (rd l1 v17.toNat).d (rd l1 v17.toNat).e (rd l1 v17.toNat).f))) then (bif (z2s aH (rd l1 v17.toNat).a (rd l1 v17.toNat).b (rd l1 v17.toNat).c) then (bif (z2s aH (rd l1 v17.toNat).d (rd l1 v17.toNat).e (rd l1 v17.toNat).f) then (bif (Nat.beq 4 4&&((decide (0+v8.length=v8.length))&&decide ((v8.length+1+1)*(32+1)≤room))) then (.to (.h0 (v8++[(R4.mk (z2u aH (rd l1 v17.toNat).a (rd l1 v17.toNat).b (rd l1 v17.toNat).c) (z2t aH (rd l1 v17.toNat).a (rd l1 v17.toNat).b (rd l1 v17.toNat).c) (z2u aH (rd l1 v17.toNat).d (rd l1 v17.toNat).e (rd l1 v17.toNat).f) (z2t aH (rd l1 v17.toNat).d (rd l1 v17.toNat).e (rd l1 v17.toNat).f))]) (wrap .i64 (v17+1)))) else .stuck) else .stuck) else .stuck) else (.to (.h0 v8 (wrap .i64 (v17+1))))) else .stuck) else (.to (.h0 v8 (wrap .i64 (v17+1))))) else .stuck) else .stuck) else (bif (Uv (cvT v8)) then (.ret [(.dat (Ze (cvT v8)).length (Zz (Ze (cvT v8)))),(.int .i64 (Ww (cvT v8)))]) else .stuck))
def x2o (aH:Int) (l1:List R6) (x2:Int):Xw sctS:=(.to (.h0 ([]:List R4) 0))
theorem w8h (aH:Int) (l1:List R6) (x2:Int): ∀s,Yt prog (Zy prog 47) (sctC aH l1 x2) (sctC aH l1 x2 s) (z4r aH l1 x2 s)
 | .h0 v8 v17=>(lb (fun k0=>(lo fun aJ=>(lo fun bC=>(lb (fun k1=>(lo fun bX=>(lb (fun k2=>(lo fun o0=>(lo fun o1=>(lo fun o2=>(sl Kr 75 [] ⟨[0,4],[],u1e,u1f⟩ ⟨[(8,.len (y9z v8 aH l1 v17).length)],[.keep,.rowed 4 (y9z v8 aH l1 v17).length (Zz (y9z v8 aH l1 v17))],[]⟩ (trs 8 []) (pp (xL (v8.length+1) (y9z v8 aH l1 v17).length) (pp (xL (v8.length+1) (y9z v8 aH l1 v17).length) (pp (xS (v8.length+1) (u8a v8 aH l1 v17) (Zz (y9z v8 aH l1 v17))) (pp (pp (xF (u8a v8 aH l1 v17)) nn) (ww o2 (ww o1 (ww o0 (tt k2 (ww bX (tt k1 (ww bC (ww aJ (tt k0 nn)))))))))))))))))) (fun k2=>(sl Kr 41 [] ⟨[0,1],[],u1e,u1f⟩ ⟨[],[],[]⟩ (trs 7 [false]) (pp (fl v8 nn) (tt k2 (ww bX (tt k1 (ww bC (ww aJ (tt k0 nn)))))))))))) (fun k1=>(sl Kr 41 [] ⟨[0,1],[],u1e,u1f⟩ ⟨[],[],[]⟩ (bl 8 1) (pp (fl v8 nn) (tt k1 (ww bC (ww aJ (tt k0 nn))))))))))) (fun k0=>(Xa (sl Kr (C':=⟨⟨62,0,true⟩,(Vm prog 47 [1,1,1,0] 1),(Zb prog 47 [1,1,1,0] 1),none,(Zy prog 10),⟨Yg [(58,(.dat v8.length (Zz v8)))],Vj [] 0,0,[],true⟩,[],.leaf⟩) 10 [] ⟨[],[1],[some [58]],[]⟩ ⟨[(58,.frz v8.length v8.length (Zz v8) (Zz v8))],[],[]⟩ [false] (pp (xZ (z6e 4 4 0 v8.length v8.length (Zz v8)) v8.length (Zz v8)) (pp (xL v8.length v8.length) (pp (xS v8.length (Zz v8) (Zz v8)) (pp (fl v8 nn) (tt k0 nn)))))) (lo fun o0=>(lr 62 3 [1,1,1,1,0] 1 10 [(6,(.dat (Ze (cvT v8)).length (Zz (Ze (cvT v8))))),(7,(ii (Ww (cvT v8))))] (sl Kr 6 [] ⟨[],[],[some [6,7]],[]⟩ ⟨[],[],[]⟩ [] (pp (pp (xr v8) (xw o0)) nn)))))))
theorem x9f (aH:Int) (l1:List R6) (x2:Int):Yt prog (Zy prog 47) (sctC aH l1 x2) (Zg prog 47 [(.agg [(.int .i64 aH)]),(.dat l1.length (Zz l1)),(.int .i64 x2)] true []) (x2o aH l1 x2):=(sl Kr 19 [(116,4,Zz ([]:List R4))] ⟨[0,1],[],u1e,u1f⟩ ⟨[(8,.grow 1 4)],[],[]⟩ [] (pp (fl ([]:List R4) nn) nn))
theorem u1d (aH:Int) (l1:List R6) (x2:Int) (n:Nat) (vs:List AVal) (h:Zr (z4r aH l1 x2) n (x2o aH l1 x2)=.ret vs):Jy prog (Zy prog 47) (Zg prog 47 [(.agg [(.int .i64 aH)]),(.dat l1.length (Zz l1)),(.int .i64 x2)] true []) vs:=by have:=Zd (w8h aH l1 x2) n _ (x9f aH l1 x2);rwa [h] at this
inductive swhS where
 | h0 (v4:List R6) (v10:Int)
def swhC (l0:List Pa):swhS→Cfg
 | .h0 v4 v10=>⟨⟨26,0,true⟩,none,(Zb prog 44 [1,1,0,1,0,0] 0),none,(Zy prog 14),⟨Yg [(4,(.dat v4.length (Zz v4))),(8,(.dat l0.length (Zz l0))),(9,(ii (l0.length:Int))),(10,(ii v10))],Vj [] 0,0,[],true⟩,[],.leaf⟩
def swhN0 :List (Option (List Nat)):=[some [4,8,9,10]]
def swhM0 :List (Option (List Nat)):=[]
def z6v (l0:List Pa):swhS→Xw swhS
 | .h0 v4 v10=>(bif (decide (v10<(l0.length:Int))) then (bif ((decide (0≤v10∧v10<(l0.length:Int)))&&true) then (bif (y3s .u (cvT v4) (cvT (rd l0 v10.toNat).s)) then (bif ((z4q .u (cvT v4) (cvT (rd l0 v10.toNat).s)) != 0) then (.ret [.nils,(.int .i64 (z4q .u (cvT v4) (cvT (rd l0 v10.toNat).s)))]) else (.to (.h0 (z2i .u (cvT v4) (cvT (rd l0 v10.toNat).s)) (wrap .i64 (v10+1))))) else .stuck) else .stuck) else (.ret [(.dat v4.length (Zz v4)),(.int .i64 0)]))
def x2d (l0:List Pa):Xw swhS:=(.to (.h0 ([]:List R6) 0))
theorem w7n (l0:List Pa): ∀s,Yt prog (Zy prog 44) (swhC l0) (swhC l0 s) (z6v l0 s)
 | .h0 v4 v10=>(lb (fun k0=>(lo fun aJ=>(lo fun bC=>(lb (fun k1=>(lr 26 44 [1,1,0,1,0,0,1,1,0,0,1,1,1,1,0,0] 1 14 [(2,.nils),(3,(ii (z4q .u (cvT v4) (cvT (rd l0 (tn v10)).s))))] (sl Kr 44 [] ⟨[],[],[some [2,3]],[]⟩ ⟨[],[],[]⟩ (bl 2 3) (tt k1 (pp (pp (xr v4) (pp (xI R6 (rd l0 (tn v10)).s.length (Zz (rd l0 (tn v10)).s)) (xw bC))) (ww aJ (tt k0 nn))))))) (fun k1=>(sl Kr 45 [] ⟨[],[],swhN0,swhM0⟩ ⟨[],[],[]⟩ (bl 2 1) (tt k1 (pp (pp (xr v4) (pp (xI R6 (rd l0 (tn v10)).s.length (Zz (rd l0 (tn v10)).s)) (xw bC))) (ww aJ (tt k0 nn)))))))))) (fun k0=>(lr 26 3 [1,1,1,1,0] 1 14 [(2,(.dat v4.length (Zz v4))),(3,(ii 0))] (sl Kr 13 [] ⟨[],[],[some [2,3]],[]⟩ ⟨[],[],[]⟩ [false] (tt k0 nn)))))
theorem x8o (l0:List Pa):Yt prog (Zy prog 44) (swhC l0) (Zg prog 44 [(.dat l0.length (Zz l0))] true []) (x2d l0):=(sl Kr 18 [] ⟨[],[],swhN0,swhM0⟩ ⟨[(4,.list 0 (Zz ([]:List R6)))],[],[]⟩ [] nn)
theorem u0k (l0:List Pa) (n:Nat) (vs:List AVal) (h:Zr (z6v l0) n (x2d l0)=.ret vs):Jy prog (Zy prog 44) (Zg prog 44 [(.dat l0.length (Zz l0))] true []) vs:=by have:=Zd (w7n l0) n _ (x8o l0);rwa [h] at this
open Go.Sort Go.Shelf Go.RowKit Go.Lib
def y8x (a:Int) (L:List R6) (p:Int):List R4:=(L.filter fun r=>decide (y1q a r.a r.b r.c≤p)&&decide (p<y1q a r.d r.e r.f)).map fun r=>⟨z2u a r.a r.b r.c,z2t a r.a r.b r.c,z2u a r.d r.e r.f,z2t a r.d r.e r.f⟩
theorem w3f (a:Int) (L M:List R6) (p:Int):y8x a (L++M) p=y8x a L p++y8x a M p:=by
 grind [y8x]
theorem cutA_t (a:Int) {r:R6} {p:Int} (h1:y1q a r.a r.b r.c≤p) (h2:p<y1q a r.d r.e r.f):y8x a [r] p=[⟨z2u a r.a r.b r.c,z2t a r.a r.b r.c,z2u a r.d r.e r.f,z2t a r.d r.e r.f⟩]:=by
 grind [y8x]
theorem j9k (a:Int) {r:R6} {p:Int} (h1: ¬y1q a r.a r.b r.c≤p):y8x a [r] p=[]:=by
 grind [y8x]
theorem j9j (a:Int) {r:R6} {p:Int} (h2: ¬p<y1q a r.d r.e r.f):y8x a [r] p=[]:=by
 grind [y8x]
def Za (a:Int) (L:List R6) (p:Int):List R4:=Ze (y8x a L p)
def Wx (a:Int) (L:List R6) (p:Int):Int:=Ww (y8x a L p)
def Wz (a:Int) (L:List R6) (p:Int):Bool:=axO a&&decide (L.length≤1000)
theorem u7z (a:Int) (L:List R6) (p:Int) (ha:axO a=true) (hl:L.length≤1000): ∀(k i:Nat) (acc:List R4),i+k=L.length→acc.length≤i→y8x a L p=acc++y8x a (L.drop i) p→
  ∃n,Zr (z4r a L p) n (.to (.h0 acc (i:Int)))=.ret [.dat (Za a L p).length (Zz (Za a L p)),.int .i64 (Wx a L p)]
 | 0,i,acc,h,h',e=>by
  rw [Ar (by omega),show y8x a [] p=[] from rfl,AD] at e;refine ⟨1,?_⟩
  grind [Za,Wx,Zw,z4r,Zc,Uv,Zp]
 | k+1,i,acc,h,h',e=>by
  have hi:i<L.length:=by omega
  have oA: ∀x y z,Uq a x y z=true:=fun _ _ _=>ha;have oF: ∀x y z,z2s a x y z=true:=fun _ _ _=>ha;have e2:y8x a L p=(acc++y8x a [rd L i] p)++y8x a (L.drop (i+1)) p:=by rw [AJ,←w3f,e,Yq hi];rfl
  obtain ⟨n,hn⟩:=u7z a L p ha hl k (i+1) (acc++y8x a [rd L i] p) (by omega) (by
   grind [y8x]) e2
  refine ⟨n+1,?_⟩;rw [Zw];by_cases h1:y1q a (rd L i).a (rd L i).b (rd L i).c ≤p
  ·by_cases h2:p<y1q a (rd L i).d (rd L i).e (rd L i).f
   ·rw [cutA_t a h1 h2] at hn;simp (disch:=omega) only [z4r,oA,oF,Xs,Zc,Zq,Yz,Zt,Yc,Yv,Yj,Zf,Zk,Zx,show Nat.beq 4 4=true from rfl,Zj,Af,Ao,Ah,Aj,Ab,Aa];exact hn
   ·rw [j9j a h2,AD] at hn
    grind [z4r,Zk,Zj]
  grind [j9k,z4r,Zk,Zj]
theorem j3s (a:Int) (L:List R6) (p:Int) (h:Wz a L p=true): ∃n,Zr (z4r a L p) n (x2o a L p)=.ret [.dat (Za a L p).length (Zz (Za a L p)),.int .i64 (Wx a L p)]:=by obtain ⟨h1,h2⟩:=BF.1 h;exact u7z a L p h1 (Aw h2) L.length 0 [] (Af _) (Aq _) rfl
def fSct :List AVal→Option (AVal×Bool)
 | [.agg [.int .i64 aH],a1,.int .i64 x2]=>match asL R6 a1 with
  | some (L1,g1,n1)=>some (.tup [.dat (Za aH L1 x2).length (Zz (Za aH L1 x2)),.int .i64 (Wx aH L1 x2)],isT R6 n1 g1&&(Wz aH L1 x2))
  | _=>none
 | _=>none
theorem j7p {S:Specs} (hS:Zu prog S):Zu prog (S.with nSCut fSct):=by
 refine z0f hS (by kernel_rfl) fun args v h=> ?_;unfold fSct at h;split at h
 ·rename_i aH a1 x2;split at h
  ·rename_i L1 g1 n1 e1;simp only [Ad,Ac,Ae] at h;obtain ⟨rfl,ho1,hw⟩:=h;obtain ⟨N,hN⟩:=j3s aH L1 x2 hw;exact ⟨_,_,(.cons (.refl _) (.cons (Yh e1 ho1) (.cons (.refl _) .nil))),rfl,u1d aH L1 x2 N _ hN,3,rfl⟩
  ·cases h
 ·cases h
def whE :List R6→List Pa→Int
 | _,[]=>0
 | acc,x::r=>bif z4q .u acc x.s != 0 then z4q .u acc x.s else whE (z2i .u acc x.s) r
def whL :List R6→List Pa→List R6
 | acc,[]=>acc
 | acc,x::r=>whL (z2i .u acc x.s) r
def Kc (l:List Pa):Int:=whE [] l
def Zs (l:List Pa):List R6:=y8o (whE [] l) (whL [] l)
def Qb (l:List Pa):Bool:=decide (l.length≤1000)
theorem u6p (l:List Pa) (hl:l.length≤1000): ∀(k i:Nat) (acc:List R6),i+k=l.length→ ∃n,Zr (z6v l) n (.to (.h0 acc (i:Int)))=.ret (z7y (whE acc (l.drop i)) (whL acc (l.drop i)))
 | 0,i,acc,h=>by rw [Ar (by omega)];refine ⟨1,?_⟩;rw [Zw];simp (disch:=omega) only [z6v,Yf,Aa,Zp];rfl
 | k+1,i,acc,h=>by
  have hi:i<l.length:=by omega
  obtain ⟨n,hn⟩:=u6p l hl k (i+1) (z2i .u acc (rd l i).s) (by omega);refine ⟨n+1,?_⟩;rw [Zw,Yq hi];have e:z6v l (.h0 acc (i:Int))=bif z4q .u acc (rd l i).s != 0 then .ret [.nils,.int .i64 (z4q .u acc (rd l i).s)] else .to (.h0 (z2i .u acc (rd l i).s) ((i+1:Nat):Int)):=by
   grind [z6v,Zc,y3s,Zk]
  rw [e];unfold whE whL;rcases Yp (z4q .u acc (rd l i).s != 0) with q | q;all_goals grind [Zp,Uz]
theorem j2m (l:List Pa) (h:Qb l=true): ∃n,Zr (z6v l) n (x2d l)=.ret (z7y (Kc l) (whL [] l)):=u6p l (Aw h) l.length 0 [] (Af _)
def fSwh :List AVal→Option (AVal×Bool)
 | [a0]=>match asL Pa a0 with
  | some (L0,g0,n0)=>some (.tup [.dat (Zs L0).length (Zz (Zs L0)),.int .i64 (Kc L0)],isT Pa n0 g0&&(Qb L0))
  | _=>none
 | _=>none
theorem j7i {S:Specs} (hS:Zu prog S):Zu prog (S.with v6g fSwh):=by
 refine w6t hS (by kernel_rfl) fun args v h=> ?_;unfold fSwh at h;split at h
 ·rename_i a0;split at h
  ·rename_i L0 g0 n0 e0;simp only [Ad,Ac,Ae] at h;obtain ⟨rfl,ho0,hw⟩:=h;obtain ⟨N,hN⟩:=j2m L0 hw;exact ⟨_,_,(.cons (Yh e0 ho0) .nil),z0i _ _,u0k L0 N _ hN,3,z4y _ _⟩
  ·cases h
 ·cases h
def Vb2 :Specs:=((Vb.with nSCut fSct).with v6g fSwh)
theorem Vb2_ok :Zu prog Vb2:=(j7i (j7p Kr))
inductive skcS where
 | h0 (v15:Int)
 | h1 (v28:Int)
 | h2 (v0:List R6) (v7:Int) (v8:Int) (dE:List R6) (bD:Int) (cF:Int) (dB:List R6) (aD:Int) (bL:Int) (bG:Int) (bW:Int) (cP:Int) (cQ:Int) (cS:List R6)
 | h3 (v0:List Pa) (v7:Int) (v8:Int) (cF:Int) (aD:Int) (bL:Int) (bG:Int) (bW:Int) (cP:Int) (cQ:Int) (cS:List R6)
abbrev z6n (l0:List Pa) (v28:Int):=(R6.mk (rd l0 (tn v28)).a (rd l0 (tn v28)).b (rd l0 (tn v28)).c (rd l0 (tn v28)).d (rd l0 (tn v28)).e (rd l0 (tn v28)).f)
abbrev z4e (l0:List Pa) (bD:Int):=(Zz (Km l0 0 (tn bD)))
def y2f (l0:List Pa):AVal:=(.dat l0.length (Zz l0))
def skcC (l0:List Pa):skcS→Cfg
 | .h0 v15=>⟨⟨54,0,true⟩,none,(Zb prog 20 [1,1,0,1,0,0] 0),none,(Zy prog 9),⟨Yg [(0,(y2f l0)),(13,(y2f l0)),(14,(ii (l0.length:Int))),(15,(ii v15))],Vj [] 0,0,[],true⟩,[],.leaf⟩
 | .h1 v28=>⟨⟨54,0,true⟩,none,(Zb prog 20 [1,1,1,0,1,0,0] 0),none,(Zy prog 9),⟨Yg [(0,(y2f l0)),(26,(y2f l0)),(27,(ii (l0.length:Int))),(28,(ii v28))],Vj [] 0,0,[],true⟩,[],.leaf⟩
 | .h2 v0 v7 v8 dE bD cF dB aD bL bG bW cP cQ cS=>⟨⟨19,0,true⟩,none,(Zb prog 95 [1,0,1,0,0] 0),none,(Zy prog 6),⟨Yg [(0,(.dat v0.length (Zz v0))),(1,(.fn 53 [(.ptr 0 0)])),(7,(ii v7)),(8,(ii v8))],Vj [⟨[(ii aD),(ii bL),(ii bG),(ii bW),(ii cP),(ii cQ),(.dat cS.length (Zz cS))],59,none⟩] 0,1,[],true⟩,[⟨⟨9,0,true⟩,(Vm prog 57 [1,0] 2),(Zb prog 57 [1,0] 1),none,(Zy prog 6),Yg [(5,(.dat dE.length (Zz dE))),(6,(.fn 53 [(.ptr 0 0)]))]⟩,⟨⟨54,0,true⟩,(Vm prog 20 [1,1,1,0,1,0,0,1,1,0,0,1,1,1,0] 9),(Zb prog 20 [1,1,1,0,1,0,0,1,1,0,0,1,1,1,0] 1),none,(Zy prog 9),Yg [(0,(y2f l0)),(6,(ii bD)),(9,(.fn 55 [(.ptr 0 0)])),(26,(y2f l0)),(27,(ii (l0.length:Int))),(28,(ii cF)),(40,(.bool false)),(42,(.dat dB.length (Zz dB))),(43,(.fn 53 [(.ptr 0 0)]))]⟩],.leaf⟩
 | .h3 v0 v7 v8 cF aD bL bG bW cP cQ cS=>⟨⟨19,0,true⟩,none,(Zb prog 96 [1,0,1,0,0] 0),none,(Zy prog 6),⟨Yg [(0,(.dat v0.length (Zz v0))),(1,(.fn 55 [(.ptr 0 0)])),(7,(ii v7)),(8,(ii v8))],Vj [⟨[(ii aD),(ii bL),(ii bG),(ii bW),(ii cP),(ii cQ),(.dat cS.length (Zz cS))],59,none⟩] 0,1,[],true⟩,[⟨⟨9,0,true⟩,(Vm prog 58 [1,0] 2),(Zb prog 58 [1,0] 1),none,(Zy prog 6),Yg [(5,(.dat v0.length (Zz v0))),(6,(.fn 55 [(.ptr 0 0)]))]⟩,⟨⟨54,0,true⟩,(Vm prog 20 [1,1,1,0,1,0,0,1,1,0,0,1,1,1,0] 16),(Zb prog 20 [1,1,1,0,1,0,0,1,1,0,0,1,1,1,0] 1),none,(Zy prog 9),Yg [(0,(y2f l0)),(26,(y2f l0)),(27,(ii (l0.length:Int))),(28,(ii cF)),(46,(.bool false)),(49,(.dat v0.length (Zz v0))),(50,(.fn 55 [(.ptr 0 0)]))]⟩],.leaf⟩
def skcN0 :List (Option (List Nat)):=[some [0,13,14,15]]
def skcM0 :List (Option (List Nat)):=[]
def j3m :List (Option (List Nat)):=[some [0,26,27,28]]
def j3o :List (Option (List Nat)):=[]
def skcN2 :List (Option (List Nat)):=[some [0,1,7,8],some [5,6],some [0,6,9,26,27,28,40,42,43]]
def skcM2 :List (Option (List Nat)):=[]
def j3l :List (Option (List Nat)):=[some [0,1,7,8],some [5,6],some [0,26,27,28,46,49,50]]
def j3n :List (Option (List Nat)):=[]
def Vg (l0:List Pa):skcS→Xw skcS
 | .h0 v15=>(bif (decide (v15<(l0.length:Int))) then (bif ((decide (0≤v15∧v15<(l0.length:Int)))&&true) then (bif (Vx (cvT (rd l0 v15.toNat).s)) then (bif ((Zn (cvT (rd l0 v15.toNat).s)) != 0) then (.ret [(.int .i64 (Zn (cvT (rd l0 v15.toNat).s)))]) else (.to (.h0 (wrap .i64 (v15+1))))) else .stuck) else .stuck) else (.to (.h1 0)))
 | .h1 v28=>(bif (decide (v28<(l0.length:Int))) then (bif ((decide (0≤v28∧v28<(l0.length:Int)))&&true) then (bif (Vx (cvT ([(R6.mk (rd l0 v28.toNat).a (rd l0 v28.toNat).b (rd l0 v28.toNat).c (rd l0 v28.toNat).d (rd l0 v28.toNat).e (rd l0 v28.toNat).f)]:List R6))) then (bif ((Zn (cvT ([(R6.mk (rd l0 v28.toNat).a (rd l0 v28.toNat).b (rd l0 v28.toNat).c (rd l0 v28.toNat).d (rd l0 v28.toNat).e (rd l0 v28.toNat).f)]:List R6))) != 0) then (.ret [(.int .i64 8)]) else (.to (.h2 (rd l0 v28.toNat).s (((rd l0 v28.toNat).s.length :Nat):Int) 0 (rd l0 v28.toNat).s v28 v28 (rd l0 v28.toNat).s (rd l0 v28.toNat).a (rd l0 v28.toNat).b (rd l0 v28.toNat).c (rd l0 v28.toNat).d (rd l0 v28.toNat).e (rd l0 v28.toNat).f (rd l0 v28.toNat).s))) else .stuck) else .stuck) else (.ret [(.int .i64 0)]))
 | .h2 v0 v7 v8 dE bD cF dB aD bL bG bW cP cQ cS=>(bif (decide (v8<v7)) then (bif ((decide (0≤v8∧v8<(v0.length:Int)))&&true) then (bif (!(j1n (rd v0 v8.toNat).a (rd v0 v8.toNat).b (rd v0 v8.toNat).c (rd v0 v8.toNat).d (rd v0 v8.toNat).e (rd v0 v8.toNat).f aD bL bG bW cP cQ)) then (bif (decide (v8≥0)) then (.ret [(.int .i64 8)]) else (bif (decide (0≤bD.toNat)) then (bif (decide (bD.toNat≤l0.length)) then (bif (decide (0≤bD)) then (.to (.h3 (Km l0 0 bD.toNat) ((bD.toNat:Nat):Int) 0 cF aD bL bG bW cP cQ cS)) else .stuck) else .stuck) else .stuck)) else (.to (.h2 v0 v7 (wrap .i64 (v8+1)) dE bD cF dB aD bL bG bW cP cQ cS))) else .stuck) else (bif (decide (0≤bD.toNat)) then (bif (decide (bD.toNat≤l0.length)) then (bif (decide (0≤bD)) then (.to (.h3 (Km l0 0 bD.toNat) ((bD.toNat:Nat):Int) 0 cF aD bL bG bW cP cQ cS)) else .stuck) else .stuck) else .stuck))
 | .h3 v0 v7 v8 cF aD bL bG bW cP cQ cS=>(bif (decide (v8<v7)) then (bif ((decide (0≤v8∧v8<(v0.length:Int)))&&true) then (bif (j1a aD bL bG bW cP cQ (rd v0 v8.toNat).a (rd v0 v8.toNat).b (rd v0 v8.toNat).c (rd v0 v8.toNat).d (rd v0 v8.toNat).e (rd v0 v8.toNat).f) then (bif (decide (v8≥0)) then (.ret [(.int .i64 8)]) else (.to (.h1 (wrap .i64 (cF+1))))) else (.to (.h3 v0 v7 (wrap .i64 (v8+1)) cF aD bL bG bW cP cQ cS))) else .stuck) else (.to (.h1 (wrap .i64 (cF+1)))))
def y3u (l0:List Pa):Xw skcS:=(bif (decide ((l0.length:Int)>50)) then (.ret [(.int .i64 4)]) else (.to (.h0 0)))
theorem w8e (l0:List Pa): ∀s,Yt prog (Zy prog 20) (skcC l0) (skcC l0 s) (Vg l0 s)
 | .h0 v15=>(lb (fun k0=>(lo fun aJ=>(lo fun bC=>(lb (fun k1=>(lr 54 20 [1,1,0,1,0,0,1,1,0,0,1,1,1,0,0] 1 9 [(2,(ii (Zn (cvT (rd l0 (tn v15)).s))))] (sl Kr 34 [] ⟨[],[],[some [2]],[]⟩ ⟨[],[],[]⟩ (bl 2 3) (tt k1 (pp (pp (xI R6 (rd l0 (tn v15)).s.length (Zz (rd l0 (tn v15)).s)) (xw bC)) (ww aJ (tt k0 nn))))))) (fun k1=>(sl Kr 36 [] ⟨[],[],skcN0,skcM0⟩ ⟨[],[],[]⟩ (bl 2 1) (tt k1 (pp (pp (xI R6 (rd l0 (tn v15)).s.length (Zz (rd l0 (tn v15)).s)) (xw bC)) (ww aJ (tt k0 nn)))))))))) (fun k0=>(sl Kr 16 [] ⟨[],[],j3m,j3o⟩ ⟨[],[],[]⟩ [false] (tt k0 nn))))
 | .h1 v28=>(lb (fun k0=>(lo fun q1_0=>(Xa (sl Kr (C':=⟨⟨54,0,true⟩,(Vm prog 20 [1,1,1,0,1,0,0,1,1,0,0,1,1,1,0] 3),(Zb prog 20 [1,1,1,0,1,0,0,1,1,0,0,1,1,1,0] 1),none,(Zy prog 9),⟨Yg [(0,(.dat l0.length (Zz l0))),(6,(ii v28)),(7,(.ptr 0 0)),(8,(.fn 53 [(.ptr 0 0)])),(9,(.fn 55 [(.ptr 0 0)])),(26,(.dat l0.length (Zz l0))),(27,(ii (l0.length:Int))),(28,(ii v28)),(37,(.dat ([(z6n l0 v28)]:List R6).length (Zz ([(z6n l0 v28)]:List R6))))],Vj [⟨[(ii (rd l0 (tn v28)).a),(ii (rd l0 (tn v28)).b),(ii (rd l0 (tn v28)).c),(ii (rd l0 (tn v28)).d),(ii (rd l0 (tn v28)).e),(ii (rd l0 (tn v28)).f),(.dat (rd l0 (tn v28)).s.length (Zz (rd l0 (tn v28)).s))],59,none⟩] 0,1,[],true⟩,[],.leaf⟩) 33 [] ⟨[0],[1],[some [0,6,7,8,9,26,27,28,37]],[]⟩ ⟨[(37,.frz 1 ([(z6n l0 v28)]:List R6).length (Xh [(ii (rd l0 (tn v28)).a),(ii (rd l0 (tn v28)).b),(ii (rd l0 (tn v28)).c),(ii (rd l0 (tn v28)).d),(ii (rd l0 (tn v28)).e),(ii (rd l0 (tn v28)).f)] 0 6) (Zz ([(z6n l0 v28)]:List R6)))],[],[]⟩ [true] (pp (xZ (.dat 1 (Xh [(ii (rd l0 (tn v28)).a),(ii (rd l0 (tn v28)).b),(ii (rd l0 (tn v28)).c),(ii (rd l0 (tn v28)).d),(ii (rd l0 (tn v28)).e),(ii (rd l0 (tn v28)).f)] 0 6)) 1 (Xh [(ii (rd l0 (tn v28)).a),(ii (rd l0 (tn v28)).b),(ii (rd l0 (tn v28)).c),(ii (rd l0 (tn v28)).d),(ii (rd l0 (tn v28)).e),(ii (rd l0 (tn v28)).f)] 0 6)) (pp (xL 1 ([(z6n l0 v28)]:List R6).length) (pp (xS 1 (Xh [(ii (rd l0 (tn v28)).a),(ii (rd l0 (tn v28)).b),(ii (rd l0 (tn v28)).c),(ii (rd l0 (tn v28)).d),(ii (rd l0 (tn v28)).e),(ii (rd l0 (tn v28)).f)] 0 6) (Zz ([(z6n l0 v28)]:List R6))) (ww q1_0 (tt k0 nn)))))) (lo fun aJ=>(lb (fun k1=>(lr 54 20 [1,1,1,0,1,0,0,1,1,0,0,1,1,1,1,0,0] 1 9 [(2,(ii 8))] (sl Kr 21 [] ⟨[],[],[some [2]],[]⟩ ⟨[],[],[]⟩ (trs 10 []) (tt k1 (pp (pp (xI R6 ([(z6n l0 v28)]:List R6).length (Zz ([(z6n l0 v28)]:List R6))) (xw aJ)) nn))))) (fun k1=>(sl Kr 29 [] ⟨[0],[],skcN2,skcM2⟩ ⟨[],[],[]⟩ (bl 4 0) (tt k1 (pp (pp (xI R6 ([(z6n l0 v28)]:List R6).length (Zz ([(z6n l0 v28)]:List R6))) (xw aJ)) nn))))))))) (fun k0=>(lr 54 3 [1,1,1,1,0] 1 9 [(2,(ii 0))] (sl Kr 11 [] ⟨[],[],[some [2]],[]⟩ ⟨[],[],[]⟩ [false] (tt k0 nn)))))
 | .h2 v0 v7 v8 dE bD cF dB aD bL bG bW cP cQ cS=>(lb (fun k0=>(lo fun aJ=>(lb (fun k1=>(lb (fun k2=>(lr 54 20 [1,1,1,0,1,0,0,1,1,0,0,1,1,1,1,0,0] 1 9 [(2,(ii 8))] (sl Kr 63 [] ⟨[],[],[some [2]],[]⟩ ⟨[],[],[]⟩ (trs 8 []) (tt k2 (tt k1 (ww aJ (tt k0 nn))))))) (fun k2=>(lo fun o0=>(lo fun o1=>(lo fun o2=>(sl Kr 78 [] ⟨[0],[],j3l,j3n⟩ ⟨[(0,.list (Km l0 0 (tn bD)).length (z4e l0 bD))],[],[[(5,.list (Km l0 0 (tn bD)).length (z4e l0 bD))],[(49,.list (Km l0 0 (tn bD)).length (z4e l0 bD))]]⟩ (bl 7 3) (pp (xL (tn bD) (Km l0 0 (tn bD)).length) (pp (xS (tn bD) (fun k=>(Zz l0) (0+k)) (z4e l0 bD)) (pp (xL (tn bD) (Km l0 0 (tn bD)).length) (pp (xS (tn bD) (fun k=>(Zz l0) (0+k)) (z4e l0 bD)) (pp (xL (tn bD) (Km l0 0 (tn bD)).length) (pp (xS (tn bD) (fun k=>(Zz l0) (0+k)) (z4e l0 bD)) (pp (pp (xw o2) (pp nn (pp (xG (decide ((tn bD)≤l0.length))) (pp (xG (decide (0≤(tn bD)))) (xG (lenR l0.length (Zz l0) 7)))))) (tt k2 (tt k1 (ww aJ (tt k0 nn)))))))))))))))))) (fun k1=>(sl Kr 46 [] ⟨[0],[],skcN2,skcM2⟩ ⟨[],[],[]⟩ (bl 2 1) (tt k1 (ww aJ (tt k0 nn)))))))) (fun k0=>(lo fun o0=>(lo fun o1=>(lo fun o2=>(sl Kr 45 [] ⟨[0],[],j3l,j3n⟩ ⟨[(0,.list (Km l0 0 (tn bD)).length (z4e l0 bD))],[],[[(5,.list (Km l0 0 (tn bD)).length (z4e l0 bD))],[(49,.list (Km l0 0 (tn bD)).length (z4e l0 bD))]]⟩ (bl 6 0) (pp (xL (tn bD) (Km l0 0 (tn bD)).length) (pp (xS (tn bD) (fun k=>(Zz l0) (0+k)) (z4e l0 bD)) (pp (xL (tn bD) (Km l0 0 (tn bD)).length) (pp (xS (tn bD) (fun k=>(Zz l0) (0+k)) (z4e l0 bD)) (pp (xL (tn bD) (Km l0 0 (tn bD)).length) (pp (xS (tn bD) (fun k=>(Zz l0) (0+k)) (z4e l0 bD)) (pp (pp (xw o2) (pp nn (pp (xG (decide ((tn bD)≤l0.length))) (pp (xG (decide (0≤(tn bD)))) (xG (lenR l0.length (Zz l0) 7)))))) (tt k0 nn))))))))))))))
 | .h3 v0 v7 v8 cF aD bL bG bW cP cQ cS=>(lb (fun k0=>(lo fun aJ=>(lb (fun k1=>(lb (fun k2=>(lr 54 20 [1,1,1,0,1,0,0,1,1,0,0,1,1,1,1,0,0] 1 9 [(2,(ii 8))] (sl Kr 56 [] ⟨[],[],[some [2]],[]⟩ ⟨[],[],[]⟩ (trs 3 []) (tt k2 (tt k1 (ww aJ (tt k0 nn))))))) (fun k2=>(sl Kr 59 [] ⟨[],[],j3m,j3o⟩ ⟨[],[],[]⟩ (bl 3 3) (tt k2 (tt k1 (ww aJ (tt k0 nn)))))))) (fun k1=>(sl Kr 46 [] ⟨[0],[],j3l,j3n⟩ ⟨[],[],[]⟩ (bl 2 1) (tt k1 (ww aJ (tt k0 nn)))))))) (fun k0=>(sl Kr 26 [] ⟨[],[],j3m,j3o⟩ ⟨[],[],[]⟩ (bl 2 0) (tt k0 nn))))
theorem x9d (l0:List Pa):Yt prog (Zy prog 20) (skcC l0) (Zg prog 20 [(.dat l0.length (Zz l0))] true []) (y3u l0):=(lb (fun k0=>(lr 54 20 [1,0,1,0,0] 1 9 [(2,(ii 4))] (sl Kr 16 [] ⟨[],[],[some [2]],[]⟩ ⟨[],[],[]⟩ [true] (tt k0 nn)))) (fun k0=>(sl Kr 22 [] ⟨[],[],skcN0,skcM0⟩ ⟨[],[],[]⟩ [false] (tt k0 nn))))
theorem u1b (l0:List Pa) (n:Nat) (vs:List AVal) (h:Zr (Vg l0) n (y3u l0)=.ret vs):Jy prog (Zy prog 20) (Zg prog 20 [(.dat l0.length (Zz l0))] true []) vs:=by have:=Zd (w8e l0) n _ (x9d l0);rwa [h] at this
def bxP (x:Pa):R6:=⟨x.a,x.b,x.c,x.d,x.e,x.f⟩
def insR (r x:R6):Bool:=j1n r.a r.b r.c r.d r.e r.f x.a x.b x.c x.d x.e x.f
def v6x (x y:R6):Bool:=j1a x.a x.b x.c x.d x.e x.f y.a y.b y.c y.d y.e y.f
def x7h (l:List Pa) (i:Nat):Bool:=Zn [bxP (rd l i)] != 0||((rd l i).s.any (fun r=> !insR r (bxP (rd l i)))||(l.take i).any fun y=>v6x (bxP (rd l i)) (bxP y))
def skG (l:List Pa):Nat→Nat→Int
 | 0,_=>0
 | k+1,i=>bif x7h l i then 8 else skG l k (i+1)
def skE :List Pa→Int
 | []=>0
 | x::r=>bif Zn x.s != 0 then Zn x.s else skE r
def z1l (l:List Pa):Int:=bif decide (50<l.length) then 4 else bif skE l != 0 then skE l else skG l l.length 0
theorem w9n {l:List Pa} {i:Nat} (h:i≤l.length):Km l 0 i=l.take i:=(v6z l 0 i).symm.trans (by rw [u4l l (by omega)];rfl)
def smP (l:List Pa):Bool:=decide (l.length≤1000)&&l.all fun x=>decide (x.s.length≤2000000)
def Qh (l:List Pa):Bool:=smP l
theorem z4p {l:List Pa} (h:smP l=true):l.length≤1000:=Aw (BF.1 h).1
theorem w4r {l:List Pa} (h:smP l=true) {i:Nat} (hi:i<l.length):(rd l i).s.length ≤2000000:=by rw [Yo hi];exact Aw (At.1 (BF.1 h).2 _ (A1 hi))
section
variable (l:List Pa) (hl:l.length≤1000)
include hl
theorem u7s (i:Nat) (hi:i<l.length) (x:R6) (S:List R6) (V:List Pa) (hV:V.length≤1000): ∀(k j:Nat),j+k=V.length→
  ∃n,∀N,Zr (Vg l) (N+n) (.to (.h3 V (V.length:Int) (j:Int) (i:Int) x.a x.b x.c x.d x.e x.f S))=bif (V.drop j).any (fun y=>v6x x (bxP y)) then .ret [.int .i64 8] else Zr (Vg l) N (.to (.h1 ((i+1:Nat):Int)))
 | 0,j,h=>by
  refine ⟨1,fun N=> ?_⟩
  grind [Zw,Vg,Zk]
 | k+1,j,h=>by
  have hj:j<V.length:=by omega
  obtain ⟨n,hn⟩:=u7s i hi x S V hV k (j+1) (by omega);refine ⟨n+1,fun N=> ?_⟩;rw [←Ay,Zw,Yq hj,BK];have e:Vg l (.h3 V (V.length:Int) (j:Int) (i:Int) x.a x.b x.c x.d x.e x.f S)=bif v6x x (bxP (rd V j)) then .ret [.int .i64 8] else .to (.h3 V (V.length:Int) ((j+1:Nat):Int) (i:Int) x.a x.b x.c x.d x.e x.f S):=by
   grind [Vg,v6x,bxP,Zk]
  grind [Zp]
theorem u7t (i:Nat) (hi:i<l.length) (x:R6) (S:List R6) (hS:S.length≤2000000): ∀(k j:Nat),j+k=S.length→
  ∃n,∀N,Zr (Vg l) (N+n) (.to (.h2 S (S.length:Int) (j:Int) S (i:Int) (i:Int) S x.a x.b x.c x.d x.e x.f S))=bif (S.drop j).any (fun r=> !insR r x)||(l.take i).any (fun y=>v6x x (bxP y)) then .ret [.int .i64 8] else Zr (Vg l) N (.to (.h1 ((i+1:Nat):Int)))
 | 0,j,h=>by
  have e0:(l.take i).length =i:=by grind
  obtain ⟨n,hn⟩:=u7s l hl i hi x S (l.take i) (by omega) i 0 (by omega);refine ⟨n+1,fun N=> ?_⟩;rw [←Ay,Zw,Ar (by omega)];have hn:=hn N;rw [e0,AT] at hn;simp (disch:=omega) only [Vg,Yf,Xs,Yc,Zj,w9n (show i≤l.length by omega),Ab,Aa,List.any_nil,Bool.false_or];exact hn
 | k+1,j,h=>by
  have hj:j<S.length:=by omega
  obtain ⟨n,hn⟩:=u7t i hi x S hS k (j+1) (by omega);refine ⟨n+1,fun N=> ?_⟩;rw [←Ay,Zw,Yq hj,BK];have e:Vg l (.h2 S (S.length:Int) (j:Int) S (i:Int) (i:Int) S x.a x.b x.c x.d x.e x.f S)=bif !insR (rd S j) x then .ret [.int .i64 8] else .to (.h2 S (S.length:Int) ((j+1:Nat):Int) S (i:Int) (i:Int) S x.a x.b x.c x.d x.e x.f S):=by
   grind [Vg,insR,Zk]
  grind [Zp]
theorem u7u (hs:smP l=true): ∀(k i:Nat),i+k=l.length→ ∃n,Zr (Vg l) n (.to (.h1 (i:Int)))=.ret [.int .i64 (skG l k i)]
 | 0,i,h=>by refine ⟨1,?_⟩;rw [Zw];simp (disch:=omega) only [Vg,Yf,Aa,Zp];rfl
 | k+1,i,h=>by
  have hi:i<l.length:=by omega
  obtain ⟨m,hm⟩:=u7u hs k (i+1) (by omega);obtain ⟨n,hn⟩:=u7t l hl i hi (bxP (rd l i)) (rd l i).s (w4r hs hi) (rd l i).s.length 0 (Af _);refine ⟨m+n+1,?_⟩;have e:Vg l (.h1 (i:Int))=bif Zn [bxP (rd l i)] != 0 then .ret [.int .i64 8] else .to (.h2 (rd l i).s ((rd l i).s.length :Int) ((0:Nat):Int) (rd l i).s (i:Int) (i:Int) (rd l i).s (bxP (rd l i)).a (bxP (rd l i)).b (bxP (rd l i)).c (bxP (rd l i)).d (bxP (rd l i)).e (bxP (rd l i)).f (rd l i).s):=by simp_all [Vg,bxP,Zc,Vx]
  rw [Zw,e];show _=Xw.ret [.int .i64 (bif x7h l i then 8 else skG l k (i+1))];unfold x7h;rcases Yp (Zn [bxP (rd l i)] != 0) with q | q;all_goals grind [Zp]
theorem u7v (hs:smP l=true): ∀(k i:Nat),i+k=l.length→ ∃n,Zr (Vg l) n (.to (.h0 (i:Int)))=.ret [.int .i64 (bif skE (l.drop i) != 0 then skE (l.drop i) else skG l l.length 0)]
 | 0,i,h=>by obtain ⟨m,hm⟩:=u7u l hl hs l.length 0 (Af _);refine ⟨m+1,?_⟩;rw [Zw,Ar (by omega)];simp (disch:=omega) only [Vg,Yf,Aa];exact hm
 | k+1,i,h=>by
  have hi:i<l.length:=by omega
  obtain ⟨m,hm⟩:=u7v hs k (i+1) (by omega);refine ⟨m+1,?_⟩;have e:Vg l (.h0 (i:Int))=bif Zn (rd l i).s != 0 then .ret [.int .i64 (Zn (rd l i).s)] else .to (.h0 ((i+1:Nat):Int)):=by
   grind [Vg,Zc,Vx,Zk]
  rw [Zw,e,Yq hi];unfold skE;rcases Yp (Zn (rd l i).s != 0) with q | q;all_goals grind [Zp]
end
theorem j3k (l:List Pa) (h:Qh l=true): ∃n,Zr (Vg l) n (y3u l)=.ret [.int .i64 (z1l l)]:=by
 have hl:=z4p h;unfold y3u z1l;by_cases g:50<l.length
 ·exact ⟨0,by rw [Xv (by omega),An g];rfl⟩
 ·obtain ⟨n,hn⟩:=u7v l hl h l.length 0 (Af _)
  grind
def fSkc :List AVal→Option (AVal×Bool)
 | [a0]=>match asL Pa a0 with
  | some (L0,g0,n0)=>some (.int .i64 (z1l L0),isT Pa n0 g0&&(Qh L0))
  | _=>none
 | _=>none
theorem j7o {S:Specs} (hS:Zu prog S):Zu prog (S.with v6j fSkc):=by
 refine z0f hS (by kernel_rfl) fun args v h=> ?_;unfold fSkc at h;split at h
 ·rename_i a0;split at h
  ·rename_i L0 g0 n0 e0;simp only [Ad,Ac,Ae] at h;obtain ⟨rfl,ho0,hw⟩:=h;obtain ⟨N,hN⟩:=j3k L0 hw;exact ⟨_,_,(.cons (Yh e0 ho0) .nil),rfl,u1b L0 N _ hN,3,rfl⟩
  ·cases h
 ·cases h
def Vc :Specs:=(Vb2.with v6j fSkc)
theorem Wn :Zu prog Vc:=(j7o Vb2_ok)
inductive sknS where
 | h0 (v16:Int) (aP:List R7)
 | h1 (v5:List Int) (v10:Int) (bQ:Int) (cE:Int) (aD:Int) (aA:List R7) (aM:Int) (aQ:Int)
 | h2 (bN:Nat) (v6:Int) (v7:Int) (bQ:Int) (aA:List R7) (aM:Int) (aQ:Int) (aZ:List Int)
 | h3 (v9:Int) (v55:List R4) (v56:Int) (v57:Int) (bH:Nat) (bZ:Int) (cA:Int) (cI:Int) (aA:List R7) (aM:Int) (aQ:Int) (aZ:List Int)
abbrev y9x (aA:List R7) (aM:Int) (aQ:Int) (v9:Int) (v55:List R4) (v57:Int):=(aA++[(R7.mk (wrap IntKind.u8 aM) (z2v aQ v9 (rd v55 (tn v57)).a (rd v55 (tn v57)).b).a (z2v aQ v9 (rd v55 (tn v57)).a (rd v55 (tn v57)).b).b (z2v aQ v9 (rd v55 (tn v57)).a (rd v55 (tn v57)).b).c (z2v aQ v9 (rd v55 (tn v57)).c (rd v55 (tn v57)).d).a (z2v aQ v9 (rd v55 (tn v57)).c (rd v55 (tn v57)).d).b (z2v aQ v9 (rd v55 (tn v57)).c (rd v55 (tn v57)).d).c)])
abbrev y9w (v5:List Int) (aD:Int) (l0:List Pa) (x1:Int) (v10:Int):=(v5++[(y1q aD (rd (rd l0 (tn x1)).s (tn v10)).a (rd (rd l0 (tn x1)).s (tn v10)).b (rd (rd l0 (tn x1)).s (tn v10)).c),(y1q aD (rd (rd l0 (tn x1)).s (tn v10)).d (rd (rd l0 (tn x1)).s (tn v10)).e (rd (rd l0 (tn x1)).s (tn v10)).f)])
def v3u (l0:List Pa) (x1:Int):AFr:=⟨⟨39,0,true⟩,(Vm prog 16 [1,1,1,1,1,0] 6),(Zb prog 16 [1,1,1,1,1,0] 1),none,(Zy prog 16),Yg [(34,(.dat (rd l0 (tn x1)).s.length (Zz (rd l0 (tn x1)).s))),(35,(.fn 46 [(.ptr 3 0)]))]⟩
abbrev y9v (v5:List Int):=(Wu (Yu v5.length (cOf (Zz (Xp (Yu v5.length (cOf (Zz v5))))))))
def y6d (l0:List Pa) (x1:Int):AVal:=(.dat (rd l0 (tn x1)).s.length (Zz (rd l0 (tn x1)).s))
def w4u (l0:List Pa):ABlk:=⟨[(.dat (Zs (cvT l0)).length (Zz (Zs (cvT l0))))],33,none⟩
abbrev u7r (v5:List Int) (aD:Int) (l0:List Pa) (x1:Int) (v10:Int):=(Zo (Zz v5) 0 v5.length 1 [(ii (y1q aD (rd (rd l0 (tn x1)).s (tn v10)).a (rd (rd l0 (tn x1)).s (tn v10)).b (rd (rd l0 (tn x1)).s (tn v10)).c)),(ii (y1q aD (rd (rd l0 (tn x1)).s (tn v10)).d (rd (rd l0 (tn x1)).s (tn v10)).e (rd (rd l0 (tn x1)).s (tn v10)).f))])
abbrev Uo (aZ:List Int) (v7:Int):=(rd aZ (0+(tn v7)))
abbrev z4d (l0:List Pa):=(cvT (Zs (cvT l0)))
abbrev y9u (aQ:Int) (v9:Int) (v55:List R4) (v57:Int):=(z2v aQ v9 (rd v55 (tn v57)).a (rd v55 (tn v57)).b)
abbrev y0m (aQ:Int) (v9:Int) (v55:List R4) (v57:Int):=(z2v aQ v9 (rd v55 (tn v57)).c (rd v55 (tn v57)).d)
abbrev z0b (l0:List Pa) (x1:Int):=(cvT (rd l0 (tn x1)).s)
def sknC (l0:List Pa) (x1:Int):sknS→Cfg
 | .h0 v16 aP=>⟨⟨87,0,true⟩,none,(Zb prog 45 [1,1,0,1,0,0] 0),none,(Zy prog 45),⟨Yg [(2,(.ptr 0 0)),(3,(.ptr 1 0)),(4,(.ptr 3 0)),(5,(.ptr 4 0)),(6,(.ptr 5 0)),(16,(ii v16))],Vj [⟨[(y6d l0 x1)],33,none⟩,⟨[(.fn 46 [(.ptr 2 0)])],85,none⟩,(w4u l0),⟨[.nils],38,none⟩,⟨[(ii 0)],24,none⟩,⟨[(.sla 6 7 0 aP.length (.un 7))],38,none⟩,⟨Ym aP.length (Zz aP),96,some ⟨7,aP.length,(Zz aP)⟩⟩] 0,7,[],true⟩,[⟨⟨39,0,true⟩,(Vm prog 16 [1,1,1,1,1,0] 6),(Zb prog 16 [1,1,1,1,1,0] 1),none,(Zy prog 16),Yg [(34,(y6d l0 x1)),(35,(.fn 46 [(.ptr 2 0)]))]⟩],.leaf⟩
 | .h1 v5 v10 bQ cE aD aA aM aQ=>⟨⟨31,0,true⟩,none,(Zb prog 79 [1,1,0,1,0,0] 0),none,(Zy prog 6),⟨Yg [(2,(.ptr 0 0)),(5,(.sla 9 1 0 v5.length (.un 1))),(8,(y6d l0 x1)),(9,(ii (((rd l0 (tn x1)).s.length :Nat):Int))),(10,(ii v10))],Vj [⟨[(ii aD)],79,none⟩,⟨[(y6d l0 x1)],33,none⟩,⟨[(.fn 46 [(.ptr 3 0)])],85,none⟩,(w4u l0),⟨[.nils],38,none⟩,⟨[(ii 0)],24,none⟩,⟨[(.sla 10 7 0 aA.length (.un 7))],38,none⟩,⟨[(ii aM)],3,none⟩,⟨[(ii aQ)],79,none⟩,⟨Ym v5.length (Zz v5),3,some ⟨1,v5.length,(Zz v5)⟩⟩,⟨Ym aA.length (Zz aA),96,some ⟨7,aA.length,(Zz aA)⟩⟩] 0,11,[],true⟩,[⟨⟨87,0,true⟩,(Vm prog 45 [1,1,0,1,0,0,1,1,0,0,1,1,0] 2),(Zb prog 45 [1,1,0,1,0,0,1,1,0,0,1,1,0] 1),none,(Zy prog 45),Yg [(2,(.ptr 1 0)),(3,(.ptr 2 0)),(4,(.ptr 4 0)),(5,(.ptr 5 0)),(6,(.ptr 6 0)),(7,(.ptr 7 0)),(8,(.ptr 8 0)),(16,(ii bQ)),(22,(.agg [(ii cE)])),(23,(y6d l0 x1))]⟩,(v3u l0 x1)],.leaf⟩
 | .h2 bN v6 v7 bQ aA aM aQ aZ=>⟨⟨16,0,true⟩,none,(Zb prog 152 [1,0,0] 0),none,[],⟨Yg [(0,(.yld 0)),(5,(.sla 9 1 0 bN (.un 1))),(6,(ii v6)),(7,(ii v7))],z6q [(1,⟨[(y6d l0 x1)],33,none⟩),(2,⟨[(.fn 46 [(.ptr 3 0)])],85,none⟩),(3,(w4u l0)),(4,⟨[.nils],38,none⟩),(5,⟨[(ii 0)],24,none⟩),(6,⟨[(.sla 10 7 0 aA.length (.un 7))],38,none⟩),(7,⟨[(ii aM)],3,none⟩),(8,⟨[(ii aQ)],79,none⟩),(9,⟨Ym aZ.length (Zz aZ),3,some ⟨1,aZ.length,(Zz aZ)⟩⟩),(10,⟨Ym aA.length (Zz aA),96,some ⟨7,aA.length,(Zz aA)⟩⟩)],11,[],true⟩,[⟨⟨87,0,true⟩,none,(.inRangeFunc 0::(Zb prog 45 [1,1,0,1,0,0,1,1,0,0,1,1,1,0] 1)),none,(Zy prog 45),Yg [(2,(.ptr 1 0)),(3,(.ptr 2 0)),(4,(.ptr 4 0)),(5,(.ptr 5 0)),(6,(.ptr 6 0)),(16,(ii bQ))]⟩,(v3u l0 x1)],(y2m [(0,⟨.ready,none,87,Yg [(2,(.ptr 1 0)),(3,(.ptr 2 0)),(4,(.ptr 4 0)),(5,(.ptr 5 0)),(6,(.ptr 6 0)),(7,(.ptr 7 0)),(8,(.ptr 8 0))],[25],(Wt prog 45 [1,1,0,1,0,0,1,1,0,0,1,1,1,0,0]),(Wt prog 45 [1,1,0,1,0,0,1,1,0,0,1,1,1,0,1])⟩)])⟩
 | .h3 v9 v55 v56 v57 bH bZ cA cI aA aM aQ aZ=>⟨⟨87,0,true⟩,none,(Zb prog 45 [1,1,0,1,0,0,1,1,0,0,1,1,1,0,1,0,1,1,1,1,1,1,0,0] 0),(some 0),[],⟨Yg [(6,(.ptr 6 0)),(7,(.ptr 7 0)),(8,(.ptr 8 0)),(9,(ii v9)),(55,(.dat v55.length (Zz v55))),(56,(ii v56)),(57,(ii v57))],z6q [(1,⟨[(y6d l0 x1)],33,none⟩),(2,⟨[(.fn 46 [(.ptr 3 0)])],85,none⟩),(3,(w4u l0)),(4,⟨[.nils],38,none⟩),(5,⟨[(ii 0)],24,none⟩),(6,⟨[(.sla 10 7 0 aA.length (.un 7))],38,none⟩),(7,⟨[(ii aM)],3,none⟩),(8,⟨[(ii aQ)],79,none⟩),(9,⟨Ym aZ.length (Zz aZ),3,some ⟨1,aZ.length,(Zz aZ)⟩⟩),(10,⟨Ym aA.length (Zz aA),96,some ⟨7,aA.length,(Zz aA)⟩⟩)],11,[],true⟩,[⟨⟨16,0,true⟩,(Vm prog 152 [1,0,0,1,1,0,0,1,0] 2),(Zb prog 152 [1,0,0,1,1,0,0,1,0] 1),none,[],Yg [(0,(.yld 0)),(5,(.sla 9 1 0 bH (.un 1))),(6,(ii bZ)),(7,(ii cA)),(11,(.yld 0)),(12,(ii v9))]⟩,⟨⟨87,0,true⟩,none,(.inRangeFunc 0::(Zb prog 45 [1,1,0,1,0,0,1,1,0,0,1,1,1,0] 1)),none,(Zy prog 45),Yg [(2,(.ptr 1 0)),(3,(.ptr 2 0)),(4,(.ptr 4 0)),(5,(.ptr 5 0)),(6,(.ptr 6 0)),(16,(ii cI))]⟩,(v3u l0 x1)],(y2m [(0,⟨.busy,none,87,Yg [(2,(.ptr 1 0)),(3,(.ptr 2 0)),(4,(.ptr 4 0)),(5,(.ptr 5 0)),(6,(.ptr 6 0)),(7,(.ptr 7 0)),(8,(.ptr 8 0))],[25],(Wt prog 45 [1,1,0,1,0,0,1,1,0,0,1,1,1,0,0]),(Wt prog 45 [1,1,0,1,0,0,1,1,0,0,1,1,1,0,1])⟩)])⟩
def sknN0 :List (Option (List Nat)):=[some [2,3,4,5,6,16],some [34,35]]
def sknM0 :List (Option (List Nat)):=[]
def sknN1 :List (Option (List Nat)):=[some [2,5,8,9,10],some [2,3,4,5,6,7,8,16,22,23],some [34,35]]
def sknM1 :List (Option (List Nat)):=[]
def sknN2 :List (Option (List Nat)):=[some [0,5,6,7],some [2,3,4,5,6,16],some [34,35]]
def sknM2 :List (Option (List Nat)):=[some [2,3,4,5,6,7,8],none,none,none,none,none,none,none,none,none,none]
def j3i :List (Option (List Nat)):=[some [6,7,8,9,55,56,57],some [0,5,6,7,11,12],some [2,3,4,5,6,16],some [34,35]]
def j3j :List (Option (List Nat)):=[some [2,3,4,5,6,7,8],none,none,none,none,none,none,none,none,none,none]
def Wd (l0:List Pa) (x1:Int):sknS→Xw sknS
 | .h0 v16 aP=>(bif (decide (v16<6)) then (.to (.h1 ([]:List Int) 0 v16 (wrap .i64 (Int.tdiv v16 2)) (wrap .i64 (Int.tdiv v16 2)) aP v16 (wrap .i64 (Int.tdiv v16 2)))) else (bif (decide ((aP.length:Int)>3000)) then (.ret [.nils,(.int .i64 4)]) else (.ret [(.dat aP.length (Zz aP)),(.int .i64 0)])))
 | .h1 v5 v10 bQ cE aD aA aM aQ=>(bif (decide (v10<(((rd l0 x1.toNat).s.length :Nat):Int))) then (bif ((decide (0≤v10∧v10<(((rd l0 x1.toNat).s.length :Nat):Int)))&&true) then (bif (Uq aD (rd (rd l0 x1.toNat).s v10.toNat).a (rd (rd l0 x1.toNat).s v10.toNat).b (rd (rd l0 x1.toNat).s v10.toNat).c) then (bif (Uq aD (rd (rd l0 x1.toNat).s v10.toNat).d (rd (rd l0 x1.toNat).s v10.toNat).e (rd (rd l0 x1.toNat).s v10.toNat).f) then (bif (Nat.beq 1 1&&((decide (0+v5.length=v5.length))&&decide ((v5.length+2+1)*(8+1)≤room))) then (.to (.h1 (v5++[(y1q aD (rd (rd l0 x1.toNat).s v10.toNat).a (rd (rd l0 x1.toNat).s v10.toNat).b (rd (rd l0 x1.toNat).s v10.toNat).c),(y1q aD (rd (rd l0 x1.toNat).s v10.toNat).d (rd (rd l0 x1.toNat).s v10.toNat).e (rd (rd l0 x1.toNat).s v10.toNat).f)]) (wrap .i64 (v10+1)) bQ cE aD aA aM aQ)) else .stuck) else .stuck) else .stuck) else .stuck) else (bif (decide (v5.length<4611686018427387904)) then (bif (decide (v5.length=v5.length)) then (.to (.h2 (v1h (Yu v5.length (cOf (Zz (Xp (Yu v5.length (cOf (Zz v5)))))))) (((v1h (Yu v5.length (cOf (Zz (Xp (Yu v5.length (cOf (Zz v5)))))))):Nat):Int) 0 bQ aA aM aQ (Wu (Yu v5.length (cOf (Zz (Xp (Yu v5.length (cOf (Zz v5)))))))))) else .stuck) else .stuck))
 | .h2 bN v6 v7 bQ aA aM aQ aZ=>(bif (decide (v7<v6)) then (bif ((decide (0≤v7∧v7<((bN:Nat):Int)))&&true) then (bif (decide ((0+v7.toNat)<aZ.length)) then (bif ((Int.tmod aM 2) == 1) then (bif (Wz aQ (cvT (rd l0 x1.toNat).s) (rd aZ (0+v7.toNat))) then (bif ((Wx aQ (cvT (rd l0 x1.toNat).s) (rd aZ (0+v7.toNat))) == 0) then (bif (Wz aQ (cvT (Zs (cvT l0))) (wrap .i64 ((rd aZ (0+v7.toNat)) - 1))) then (bif ((Wx aQ (cvT (Zs (cvT l0))) (wrap .i64 ((rd aZ (0+v7.toNat)) - 1))) != 0) then (.ret [.nils,(.int .i64 (Wx aQ (cvT (Zs (cvT l0))) (wrap .i64 ((rd aZ (0+v7.toNat)) - 1))))]) else (bif (Vi .d (cvT (Za aQ (cvT (rd l0 x1.toNat).s) (rd aZ (0+v7.toNat)))) (cvT (Za aQ (cvT (Zs (cvT l0))) (wrap .i64 ((rd aZ (0+v7.toNat)) - 1))))) then (bif ((Jc .d (cvT (Za aQ (cvT (rd l0 x1.toNat).s) (rd aZ (0+v7.toNat)))) (cvT (Za aQ (cvT (Zs (cvT l0))) (wrap .i64 ((rd aZ (0+v7.toNat)) - 1))))) != 0) then (.ret [.nils,(.int .i64 (Jc .d (cvT (Za aQ (cvT (rd l0 x1.toNat).s) (rd aZ (0+v7.toNat)))) (cvT (Za aQ (cvT (Zs (cvT l0))) (wrap .i64 ((rd aZ (0+v7.toNat)) - 1))))))]) else (.to (.h3 (rd aZ (0+v7.toNat)) (Xc .d (cvT (Za aQ (cvT (rd l0 x1.toNat).s) (rd aZ (0+v7.toNat)))) (cvT (Za aQ (cvT (Zs (cvT l0))) (wrap .i64 ((rd aZ (0+v7.toNat)) - 1))))) (((Xc .d (cvT (Za aQ (cvT (rd l0 x1.toNat).s) (rd aZ (0+v7.toNat)))) (cvT (Za aQ (cvT (Zs (cvT l0))) (wrap .i64 ((rd aZ (0+v7.toNat)) - 1))))).length :Nat):Int) 0 bN v6 v7 bQ aA aM aQ aZ))) else .stuck)) else .stuck) else (.ret [.nils,(.int .i64 (Wx aQ (cvT (rd l0 x1.toNat).s) (rd aZ (0+v7.toNat))))])) else .stuck) else (bif (Wz aQ (cvT (rd l0 x1.toNat).s) (wrap .i64 ((rd aZ (0+v7.toNat)) - 1))) then (bif ((Wx aQ (cvT (rd l0 x1.toNat).s) (wrap .i64 ((rd aZ (0+v7.toNat)) - 1))) == 0) then (bif (Wz aQ (cvT (Zs (cvT l0))) (rd aZ (0+v7.toNat))) then (bif ((Wx aQ (cvT (Zs (cvT l0))) (rd aZ (0+v7.toNat))) != 0) then (.ret [.nils,(.int .i64 (Wx aQ (cvT (Zs (cvT l0))) (rd aZ (0+v7.toNat))))]) else (bif (Vi .d (cvT (Za aQ (cvT (rd l0 x1.toNat).s) (wrap .i64 ((rd aZ (0+v7.toNat)) - 1)))) (cvT (Za aQ (cvT (Zs (cvT l0))) (rd aZ (0+v7.toNat))))) then (bif ((Jc .d (cvT (Za aQ (cvT (rd l0 x1.toNat).s) (wrap .i64 ((rd aZ (0+v7.toNat)) - 1)))) (cvT (Za aQ (cvT (Zs (cvT l0))) (rd aZ (0+v7.toNat))))) != 0) then (.ret [.nils,(.int .i64 (Jc .d (cvT (Za aQ (cvT (rd l0 x1.toNat).s) (wrap .i64 ((rd aZ (0+v7.toNat)) - 1)))) (cvT (Za aQ (cvT (Zs (cvT l0))) (rd aZ (0+v7.toNat))))))]) else (.to (.h3 (rd aZ (0+v7.toNat)) (Xc .d (cvT (Za aQ (cvT (rd l0 x1.toNat).s) (wrap .i64 ((rd aZ (0+v7.toNat)) - 1)))) (cvT (Za aQ (cvT (Zs (cvT l0))) (rd aZ (0+v7.toNat))))) (((Xc .d (cvT (Za aQ (cvT (rd l0 x1.toNat).s) (wrap .i64 ((rd aZ (0+v7.toNat)) - 1)))) (cvT (Za aQ (cvT (Zs (cvT l0))) (rd aZ (0+v7.toNat))))).length :Nat):Int) 0 bN v6 v7 bQ aA aM aQ aZ))) else .stuck)) else .stuck) else (.ret [.nils,(.int .i64 (Wx aQ (cvT (rd l0 x1.toNat).s) (wrap .i64 ((rd aZ (0+v7.toNat)) - 1))))])) else .stuck)) else .stuck) else .stuck) else (.to (.h0 (wrap .i64 (bQ+1)) aA)))
 | .h3 v9 v55 v56 v57 bH bZ cA cI aA aM aQ aZ=>(bif (decide (v57<v56)) then (bif ((decide (0≤v57∧v57<(v55.length:Int)))&&true) then (bif (Ki aQ v9 (rd v55 v57.toNat).a (rd v55 v57.toNat).b) then (bif (Ki aQ v9 (rd v55 v57.toNat).c (rd v55 v57.toNat).d) then (bif (Nat.beq 7 7&&((decide (0+aA.length=aA.length))&&decide ((aA.length+1+1)*(56+1)≤room))) then (.to (.h3 v9 v55 v56 (wrap .i64 (v57+1)) bH bZ cA cI (aA++[(R7.mk (wrap IntKind.u8 aM) (z2v aQ v9 (rd v55 v57.toNat).a (rd v55 v57.toNat).b).a (z2v aQ v9 (rd v55 v57.toNat).a (rd v55 v57.toNat).b).b (z2v aQ v9 (rd v55 v57.toNat).a (rd v55 v57.toNat).b).c (z2v aQ v9 (rd v55 v57.toNat).c (rd v55 v57.toNat).d).a (z2v aQ v9 (rd v55 v57.toNat).c (rd v55 v57.toNat).d).b (z2v aQ v9 (rd v55 v57.toNat).c (rd v55 v57.toNat).d).c)]) aM aQ aZ)) else .stuck) else .stuck) else .stuck) else .stuck) else (.to (.h2 bH bZ (wrap .i64 (cA+1)) cI aA aM aQ aZ)))
def y3t (l0:List Pa) (x1:Int):Xw sknS:=(bif (Qh (cvT l0)) then (bif ((z1l (cvT l0)) != 0) then (.ret [.nils,(.int .i64 (z1l (cvT l0)))]) else (bif (decide (x1<0)) then (.ret [.nils,(.int .i64 2)]) else (bif (decide (x1≥(l0.length:Int))) then (.ret [.nils,(.int .i64 2)]) else (bif (Qb (cvT l0)) then (bif ((Kc (cvT l0)) != 0) then (.ret [.nils,(.int .i64 (Kc (cvT l0)))]) else (bif ((decide (0≤x1∧x1<(l0.length:Int)))&&true) then (.to (.h0 0 ([]:List R7))) else .stuck)) else .stuck)))) else .stuck)
theorem w8d (l0:List Pa) (x1:Int): ∀s,Yt prog (Zy prog 16) (sknC l0 x1) (sknC l0 x1 s) (Wd l0 x1 s)
 | .h0 v16 aP=>(lb (fun k0=>(sl Wn 46 [(3,1,Zz ([]:List Int))] ⟨[9,0,1,2,3,4,5,7,8,10,6],[],sknN1,sknM1⟩ ⟨[(5,.grow 9 1)],[],[]⟩ [true] (pp (fl ([]:List Int) (fl aP nn)) (tt k0 nn)))) (fun k0=>(lb (fun k1=>(lr 39 3 [1,1,1,1,0] 1 16 [(4,.nils),(5,(ii 4))] (sl Wn 26 [] ⟨[],[],[some [4,5]],[]⟩ ⟨[],[],[]⟩ (bl 2 2) (tt k1 (tt k0 nn))))) (fun k1=>(lr 39 3 [1,1,1,1,0] 1 16 [(4,(.dat aP.length (Zz aP))),(5,(ii 0))] (sl Wn 28 [] ⟨[],[6],[some [4,5]],[]⟩ ⟨[(4,.frz aP.length aP.length (Zz aP) (Zz aP))],[],[]⟩ (bl 2 0) (pp (xZ (z6e 7 7 0 aP.length aP.length (Zz aP)) aP.length (Zz aP)) (pp (xL aP.length aP.length) (pp (xS aP.length (Zz aP) (Zz aP)) (pp (fl aP nn) (tt k1 (tt k0 nn))))))))))))
 | .h1 v5 v10 bQ cE aD aA aM aQ=>(lb (fun k0=>(lo fun o0=>(lo fun o1=>(lo fun o2=>(lo fun o3=>(sl Wn 23 [] ⟨[0,1,2,3,4,5,6,7,8,13,10],[],sknN1,sknM1⟩ ⟨[(5,.len (y9w v5 aD l0 x1 v10).length)],(kpB 9 [.rowed 1 (y9w v5 aD l0 x1 v10).length (Zz (y9w v5 aD l0 x1 v10)),.keep]),[]⟩ [true] (pp (xL (v5.length+2) (y9w v5 aD l0 x1 v10).length) (pp (xL (v5.length+2) (y9w v5 aD l0 x1 v10).length) (pp (xS (v5.length+2) (u7r v5 aD l0 x1 v10) (Zz (y9w v5 aD l0 x1 v10))) (pp (pp (xF (u7r v5 aD l0 x1 v10)) (fl aA nn)) (ww o3 (ww o2 (ww o1 (ww o0 (tt k0 nn))))))))))))))) (fun k0=>(lo fun o0=>(lo fun o1=>(sl Wn 42 [] ⟨[12,1,2,3,4,5,6,7,8,9,10],[],sknN2,sknM2⟩ ⟨[],(kpB 9 [.rowed 1 (y9v v5).length (Zz (y9v v5)),.keep]),[]⟩ [false] (pp (xL v5.length (y9v v5).length (by first | exact z0z _ _ | exact Uy rfl)) (pp (xS v5.length (Zz (y9v v5)) (Zz (y9v v5))) (pp (fl (y9v v5) (fl aA nn)) (pp (pp (xG (Nat.beq 1 1)) (pp (xG (Nat.beq 1 1)) (pp (xG (Nat.beq 0 0)) (pp (xG (decide (v5.length=v5.length))) (pp (xG (isI (Zz (Xp (Yu v5.length (cOf (Zz v5))))))) (xG (decide (v5.length<4611686018427387904)))))))) (pp (pp (xG (Nat.beq 1 1)) (pp (xG (Nat.beq 1 1)) (pp (xG (Nat.beq 0 0)) (pp (xG (decide (v5.length=v5.length))) (pp (xG (isI (Zz v5))) (xG (decide (v5.length<4611686018427387904)))))))) (tt k0 nn)))))))))))
 | .h2 bN v6 v7 bQ aA aM aQ aZ=>(lb (fun k0=>(lo fun aJ=>(lo fun bC=>(lb (fun k1=>(lo fun bX=>(lb (fun k2=>(lo fun cC=>(lb (fun k3=>(lr 39 3 [1,1,1,1,0] 1 16 [(4,.nils),(5,(ii (Wx aQ (z4d l0) (wr ((Uo aZ v7) - 1)))))] (sl Wn 136 [] ⟨[],[],[some [4,5]],[]⟩ ⟨[],[],[]⟩ (trs 6 []) (tt k3 (tt k3 (pp (pp (xI R6 (Zs (cvT l0)).length (Zz (Zs (cvT l0)))) (xw cC)) (tt k2 (pp (pp (xI R6 (rd l0 (tn x1)).s.length (Zz (rd l0 (tn x1)).s)) (xw bX)) (tt k1 (ww bC (ww aJ (tt k0 nn)))))))))))) (fun k3=>(lo fun cD=>(lb (fun k4=>(lr 39 3 [1,1,1,1,0] 1 16 [(4,.nils),(5,(ii (Jc .d (cvT (Za aQ (z0b l0 x1) (Uo aZ v7))) (cvT (Za aQ (z4d l0) (wr ((Uo aZ v7) - 1)))))))] (sl Wn 141 [] ⟨[],[],[some [4,5]],[]⟩ ⟨[],[],[]⟩ (trs 3 (bl 3 6)) (tt k4 (pp (pp (xI R4 (Za aQ (z0b l0 x1) (Uo aZ v7)).length (Zz (Za aQ (z0b l0 x1) (Uo aZ v7)))) (pp (xI R4 (Za aQ (z4d l0) (wr ((Uo aZ v7) - 1))).length (Zz (Za aQ (z4d l0) (wr ((Uo aZ v7) - 1))))) (xw cD))) (tt k3 (pp (pp (xI R6 (Zs (cvT l0)).length (Zz (Zs (cvT l0)))) (xw cC)) (tt k2 (pp (pp (xI R6 (rd l0 (tn x1)).s.length (Zz (rd l0 (tn x1)).s)) (xw bX)) (tt k1 (ww bC (ww aJ (tt k0 nn))))))))))))) (fun k4=>(sl Wn 132 [] ⟨(List.range 11),[],j3i,j3j⟩ ⟨[],[],[]⟩ (trs 3 (bl 2 0)) (pp (fl aZ (fl aA nn)) (tt k4 (pp (pp (xI R4 (Za aQ (z0b l0 x1) (Uo aZ v7)).length (Zz (Za aQ (z0b l0 x1) (Uo aZ v7)))) (pp (xI R4 (Za aQ (z4d l0) (wr ((Uo aZ v7) - 1))).length (Zz (Za aQ (z4d l0) (wr ((Uo aZ v7) - 1))))) (xw cD))) (tt k3 (pp (pp (xI R6 (Zs (cvT l0)).length (Zz (Zs (cvT l0)))) (xw cC)) (tt k2 (pp (pp (xI R6 (rd l0 (tn x1)).s.length (Zz (rd l0 (tn x1)).s)) (xw bX)) (tt k1 (ww bC (ww aJ (tt k0 nn))))))))))))))))))) (fun k2=>(lr 39 3 [1,1,1,1,0] 1 16 [(4,.nils),(5,(ii (Wx aQ (z0b l0 x1) (Uo aZ v7))))] (sl Wn 93 [] ⟨[],[],[some [4,5]],[]⟩ ⟨[],[],[]⟩ (bl 5 27) (yt (v1l k2) (tt k2 (pp (pp (xI R6 (rd l0 (tn x1)).s.length (Zz (rd l0 (tn x1)).s)) (xw bX)) (tt k1 (ww bC (ww aJ (tt k0 nn))))))))))))) (fun k1=>(lo fun bX=>(lb (fun k2=>(lo fun cC=>(lb (fun k3=>(lr 39 3 [1,1,1,1,0] 1 16 [(4,.nils),(5,(ii (Wx aQ (z4d l0) (Uo aZ v7))))] (sl Wn 130 [] ⟨[],[],[some [4,5]],[]⟩ ⟨[],[],[]⟩ (bl 6 61) (tt k3 (tt k3 (pp (pp (xI R6 (Zs (cvT l0)).length (Zz (Zs (cvT l0)))) (xw cC)) (tt k2 (pp (pp (xI R6 (rd l0 (tn x1)).s.length (Zz (rd l0 (tn x1)).s)) (xw bX)) (tt k1 (ww bC (ww aJ (tt k0 nn)))))))))))) (fun k3=>(lo fun cD=>(lb (fun k4=>(lr 39 3 [1,1,1,1,0] 1 16 [(4,.nils),(5,(ii (Jc .d (cvT (Za aQ (z0b l0 x1) (wr ((Uo aZ v7) - 1)))) (cvT (Za aQ (z4d l0) (Uo aZ v7))))))] (sl Wn 135 [] ⟨[],[],[some [4,5]],[]⟩ ⟨[],[],[]⟩ (bl 6 53) (tt k4 (pp (pp (xI R4 (Za aQ (z0b l0 x1) (wr ((Uo aZ v7) - 1))).length (Zz (Za aQ (z0b l0 x1) (wr ((Uo aZ v7) - 1))))) (pp (xI R4 (Za aQ (z4d l0) (Uo aZ v7)).length (Zz (Za aQ (z4d l0) (Uo aZ v7)))) (xw cD))) (tt k3 (pp (pp (xI R6 (Zs (cvT l0)).length (Zz (Zs (cvT l0)))) (xw cC)) (tt k2 (pp (pp (xI R6 (rd l0 (tn x1)).s.length (Zz (rd l0 (tn x1)).s)) (xw bX)) (tt k1 (ww bC (ww aJ (tt k0 nn))))))))))))) (fun k4=>(sl Wn 126 [] ⟨(List.range 11),[],j3i,j3j⟩ ⟨[],[],[]⟩ (bl 5 5) (pp (fl aZ (fl aA nn)) (tt k4 (pp (pp (xI R4 (Za aQ (z0b l0 x1) (wr ((Uo aZ v7) - 1))).length (Zz (Za aQ (z0b l0 x1) (wr ((Uo aZ v7) - 1))))) (pp (xI R4 (Za aQ (z4d l0) (Uo aZ v7)).length (Zz (Za aQ (z4d l0) (Uo aZ v7)))) (xw cD))) (tt k3 (pp (pp (xI R6 (Zs (cvT l0)).length (Zz (Zs (cvT l0)))) (xw cC)) (tt k2 (pp (pp (xI R6 (rd l0 (tn x1)).s.length (Zz (rd l0 (tn x1)).s)) (xw bX)) (tt k1 (ww bC (ww aJ (tt k0 nn))))))))))))))))))) (fun k2=>(lr 39 3 [1,1,1,1,0] 1 16 [(4,.nils),(5,(ii (Wx aQ (z0b l0 x1) (wr ((Uo aZ v7) - 1)))))] (sl Wn 87 [] ⟨[],[],[some [4,5]],[]⟩ ⟨[],[],[]⟩ (bl 5 25) (yt (v1l k2) (tt k2 (pp (pp (xI R6 (rd l0 (tn x1)).s.length (Zz (rd l0 (tn x1)).s)) (xw bX)) (tt k1 (ww bC (ww aJ (tt k0 nn))))))))))))))))) (fun k0=>(sl Wn 16 [] ⟨[1,2,3,4,5,6,10],[],sknN0,sknM0⟩ ⟨[],[],[]⟩ [false] (pp (fl aA nn) (tt k0 nn)))))
 | .h3 v9 v55 v56 v57 bH bZ cA cI aA aM aQ aZ=>(lb (fun k0=>(lo fun o0=>(lo fun o1=>(lo fun o2=>(lo fun o3=>(sl Wn 23 [] ⟨[0,1,2,3,4,5,6,7,8,9,13],[],j3i,j3j⟩ ⟨[],(kpB 6 [.cells [.len (y9x aA aM aQ v9 v55 v57).length],.keep,.keep,.keep,.rowed 7 (y9x aA aM aQ v9 v55 v57).length (Zz (y9x aA aM aQ v9 v55 v57))]),[]⟩ [true] (pp (xL (aA.length+1) (y9x aA aM aQ v9 v55 v57).length) (pp (xL (aA.length+1) (y9x aA aM aQ v9 v55 v57).length) (pp (xS (aA.length+1) (Zo (Zz aA) 0 aA.length 7 [(.int .u8 (wrap IntKind.u8 aM)),(ii (y9u aQ v9 v55 v57).a),(ii (y9u aQ v9 v55 v57).b),(ii (y9u aQ v9 v55 v57).c),(ii (y0m aQ v9 v55 v57).a),(ii (y0m aQ v9 v55 v57).b),(ii (y0m aQ v9 v55 v57).c)]) (Zz (y9x aA aM aQ v9 v55 v57))) (pp (fl aZ (pp (xF (Zo (Zz aA) 0 aA.length 7 [(.int .u8 (wrap IntKind.u8 aM)),(ii (y9u aQ v9 v55 v57).a),(ii (y9u aQ v9 v55 v57).b),(ii (y9u aQ v9 v55 v57).c),(ii (y0m aQ v9 v55 v57).a),(ii (y0m aQ v9 v55 v57).b),(ii (y0m aQ v9 v55 v57).c)])) nn)) (ww o3 (ww o2 (ww o1 (ww o0 (tt k0 nn))))))))))))))) (fun k0=>(sl Wn 19 [] ⟨(List.range 11),[],sknN2,sknM2⟩ ⟨[],[],[]⟩ (bl 2 0) (pp (fl aZ (fl aA nn)) (tt k0 nn)))))
theorem x9b (l0:List Pa) (x1:Int):Yt prog (Zy prog 16) (sknC l0 x1) (Zg prog 16 [(.dat l0.length (Zz l0)),(.int .i64 x1)] true []) (y3t l0 x1):=(lo fun bV=>(lb (fun k0=>(lr 39 16 [1,0,1,1,0,0] 1 16 [(4,.nils),(5,(ii (z1l (cvT l0))))] (sl Wn 24 [] ⟨[],[],[some [4,5]],[]⟩ ⟨[],[],[]⟩ [true] (tt k0 (pp (pp (xr l0) (xw bV)) nn))))) (fun k0=>(lb (fun k1=>(lr 39 16 [1,1,0,1,0,0] 1 16 [(4,.nils),(5,(ii 2))] (sl Wn 37 [] ⟨[],[],[some [4,5]],[]⟩ ⟨[],[],[]⟩ [false,true,true,true,true,true] (tt k1 (tt k0 (pp (pp (xr l0) (xw bV)) nn)))))) (fun k1=>(lb (fun k2=>(lr 39 16 [1,1,0,1,0,0] 1 16 [(4,.nils),(5,(ii 2))] (sl Wn 37 [] ⟨[],[],[some [4,5]],[]⟩ ⟨[],[],[]⟩ [false,false,false,false,false,true] (tt k2 (tt k1 (tt k0 (pp (pp (xr l0) (xw bV)) nn))))))) (fun k2=>(lo fun cC=>(lb (fun k3=>(lr 39 16 [1,1,1,1,0,1,0,0] 1 16 [(4,.nils),(5,(ii (Kc (cvT l0))))] (sl Wn 57 [] ⟨[],[],[some [4,5]],[]⟩ ⟨[],[],[]⟩ [false,false,false,false,false,false,true] (tt k3 (pp (pp (xr l0) (xw cC)) (tt k2 (tt k1 (tt k0 (pp (pp (xr l0) (xw bV)) nn))))))))) (fun k3=>(lo fun o0=>(sl Wn 79 [(96,7,Zz ([]:List R7))] ⟨[1,2,0,3,4,5,6],[],sknN0,sknM0⟩ ⟨[],(kpB 5 [.cells [.grow 6 7],.keep]),[]⟩ [false,false,false,false,false,false,false] (pp (fl ([]:List R7) nn) (ww o0 (tt k3 (pp (pp (xr l0) (xw cC)) (tt k2 (tt k1 (tt k0 (pp (pp (xr l0) (xw bV)) nn))))))))))))))))))))
theorem u0z (l0:List Pa) (x1:Int) (n:Nat) (vs:List AVal) (h:Zr (Wd l0 x1) n (y3t l0 x1)=.ret vs):Jy prog (Zy prog 16) (Zg prog 16 [(.dat l0.length (Zz l0)),(.int .i64 x1)] true []) vs:=by have:=Zd (w8d l0 x1) n _ (x9b l0 x1);rwa [h] at this
inductive stpS where
 | h0 (v16:Int) (aA:List R7)
 | h1 (v5:List Int) (v10:Int) (bQ:Int) (cE:Int) (aD:Int) (aM:List R7) (aQ:Int) (aF:Int)
 | h2 (bN:Nat) (v6:Int) (v7:Int) (bQ:Int) (aM:List R7) (aQ:Int) (aF:Int) (aE:List Int)
 | h3 (v9:Int) (v55:List R4) (v56:Int) (v57:Int) (bH:Nat) (bZ:Int) (cA:Int) (cI:Int) (aM:List R7) (aQ:Int) (aF:Int) (aE:List Int)
abbrev Uh (l0:List Pa) (x2:Int):=(R6.mk (rd l0 (tn x2)).a (rd l0 (tn x2)).b (rd l0 (tn x2)).c (rd l0 (tn x2)).d (rd l0 (tn x2)).e (rd l0 (tn x2)).f)
abbrev y9k (aM:List R7) (aQ:Int) (aF:Int) (v9:Int) (v55:List R4) (v57:Int):=(aM++[(R7.mk (wrap IntKind.u8 aQ) (z2v aF v9 (rd v55 (tn v57)).a (rd v55 (tn v57)).b).a (z2v aF v9 (rd v55 (tn v57)).a (rd v55 (tn v57)).b).b (z2v aF v9 (rd v55 (tn v57)).a (rd v55 (tn v57)).b).c (z2v aF v9 (rd v55 (tn v57)).c (rd v55 (tn v57)).d).a (z2v aF v9 (rd v55 (tn v57)).c (rd v55 (tn v57)).d).b (z2v aF v9 (rd v55 (tn v57)).c (rd v55 (tn v57)).d).c)])
abbrev y9j (v5:List Int) (aD:Int) (l0:List Pa) (x1:Int) (v10:Int):=(v5++[(y1q aD (rd (rd l0 (tn x1)).s (tn v10)).a (rd (rd l0 (tn x1)).s (tn v10)).b (rd (rd l0 (tn x1)).s (tn v10)).c),(y1q aD (rd (rd l0 (tn x1)).s (tn v10)).d (rd (rd l0 (tn x1)).s (tn v10)).e (rd (rd l0 (tn x1)).s (tn v10)).f)])
abbrev Je (aE:List Int) (v7:Int):=(rd aE (0+(tn v7)))
def v2w (l0:List Pa) (x1:Int):AFr:=⟨⟨46,0,true⟩,(Vm prog 18 [1,1,1,0] 6),(Zb prog 18 [1,1,1,0] 1),none,(Zy prog 10),Yg [(41,(.dat (rd l0 (tn x1)).s.length (Zz (rd l0 (tn x1)).s))),(42,(.fn 50 [(.ptr 3 0),(.ptr 4 0)]))]⟩
abbrev y9i (v5:List Int):=(Wu (Yu v5.length (cOf (Zz (Xp (Yu v5.length (cOf (Zz v5))))))))
abbrev z4b (aF:Int) (l0:List Pa) (x2:Int) (aE:List Int) (v7:Int):=(Za aF (cvT (rd l0 (tn x2)).s) (wr ((Je aE v7) - 1)))
def y5s (l0:List Pa) (x1:Int):AVal:=(.dat (rd l0 (tn x1)).s.length (Zz (rd l0 (tn x1)).s))
abbrev z4a (aF:Int) (l0:List Pa) (x2:Int) (aE:List Int) (v7:Int):=(Za aF (cvT (rd l0 (tn x2)).s) (Je aE v7))
abbrev u6v (v5:List Int) (aD:Int) (l0:List Pa) (x1:Int) (v10:Int):=(Zo (Zz v5) 0 v5.length 1 [(ii (y1q aD (rd (rd l0 (tn x1)).s (tn v10)).a (rd (rd l0 (tn x1)).s (tn v10)).b (rd (rd l0 (tn x1)).s (tn v10)).c)),(ii (y1q aD (rd (rd l0 (tn x1)).s (tn v10)).d (rd (rd l0 (tn x1)).s (tn v10)).e (rd (rd l0 (tn x1)).s (tn v10)).f))])
abbrev z0a (l0:List Pa) (x1:Int):=(Zz (rd l0 (tn x1)).s)
abbrev y0j (aF:Int) (v9:Int) (v55:List R4) (v57:Int):=(z2v aF v9 (rd v55 (tn v57)).a (rd v55 (tn v57)).b)
abbrev y0i (aF:Int) (v9:Int) (v55:List R4) (v57:Int):=(z2v aF v9 (rd v55 (tn v57)).c (rd v55 (tn v57)).d)
def x8u :ABlk:=⟨[(.fn 50 [(.ptr 3 0),(.ptr 4 0)])],85,none⟩
abbrev Ug (aE:List Int) (v7:Int):=((Je aE v7) - 1)
abbrev Qt (l0:List Pa) (x1:Int):=(cvT (rd l0 (tn x1)).s)
abbrev z2a (l0:List Pa) (x2:Int):=(Zz (rd l0 (tn x2)).s)
def x2e (l0:List Pa):ABlk:=⟨[(.dat l0.length (Zz l0))],22,none⟩
def stpC (l0:List Pa) (x1:Int) (x2:Int):stpS→Cfg
 | .h0 v16 aA=>⟨⟨87,0,true⟩,none,(Zb prog 45 [1,1,0,1,0,0] 0),none,(Zy prog 45),⟨Yg [(2,(.ptr 0 0)),(3,(.ptr 1 0)),(4,(.ptr 4 0)),(5,(.ptr 5 0)),(6,(.ptr 6 0)),(16,(ii v16))],Vj [⟨[(y5s l0 x1)],33,none⟩,⟨[(.fn 50 [(.ptr 2 0),(.ptr 3 0)])],85,none⟩,(x2e l0),⟨[(ii x2)],3,none⟩,⟨[.nils],38,none⟩,⟨[(ii 0)],24,none⟩,⟨[(.sla 7 7 0 aA.length (.un 7))],38,none⟩,⟨Ym aA.length (Zz aA),96,some ⟨7,aA.length,(Zz aA)⟩⟩] 0,8,[],true⟩,[⟨⟨46,0,true⟩,(Vm prog 18 [1,1,1,0] 6),(Zb prog 18 [1,1,1,0] 1),none,(Zy prog 10),Yg [(41,(y5s l0 x1)),(42,(.fn 50 [(.ptr 2 0),(.ptr 3 0)]))]⟩],.leaf⟩
 | .h1 v5 v10 bQ cE aD aM aQ aF=>⟨⟨31,0,true⟩,none,(Zb prog 79 [1,1,0,1,0,0] 0),none,(Zy prog 6),⟨Yg [(2,(.ptr 0 0)),(5,(.sla 10 1 0 v5.length (.un 1))),(8,(y5s l0 x1)),(9,(ii (((rd l0 (tn x1)).s.length :Nat):Int))),(10,(ii v10))],Vj [⟨[(ii aD)],79,none⟩,⟨[(y5s l0 x1)],33,none⟩,x8u,(x2e l0),⟨[(ii x2)],3,none⟩,⟨[.nils],38,none⟩,⟨[(ii 0)],24,none⟩,⟨[(.sla 11 7 0 aM.length (.un 7))],38,none⟩,⟨[(ii aQ)],3,none⟩,⟨[(ii aF)],79,none⟩,⟨Ym v5.length (Zz v5),3,some ⟨1,v5.length,(Zz v5)⟩⟩,⟨Ym aM.length (Zz aM),96,some ⟨7,aM.length,(Zz aM)⟩⟩] 0,12,[],true⟩,[⟨⟨87,0,true⟩,(Vm prog 45 [1,1,0,1,0,0,1,1,0,0,1,1,0] 2),(Zb prog 45 [1,1,0,1,0,0,1,1,0,0,1,1,0] 1),none,(Zy prog 45),Yg [(2,(.ptr 1 0)),(3,(.ptr 2 0)),(4,(.ptr 5 0)),(5,(.ptr 6 0)),(6,(.ptr 7 0)),(7,(.ptr 8 0)),(8,(.ptr 9 0)),(16,(ii bQ)),(22,(.agg [(ii cE)])),(23,(y5s l0 x1))]⟩,(v2w l0 x1)],.leaf⟩
 | .h2 bN v6 v7 bQ aM aQ aF aE=>⟨⟨16,0,true⟩,none,(Zb prog 152 [1,0,0] 0),none,[],⟨Yg [(0,(.yld 0)),(5,(.sla 10 1 0 bN (.un 1))),(6,(ii v6)),(7,(ii v7))],z6q [(1,⟨[(y5s l0 x1)],33,none⟩),(2,x8u),(3,(x2e l0)),(4,⟨[(ii x2)],3,none⟩),(5,⟨[.nils],38,none⟩),(6,⟨[(ii 0)],24,none⟩),(7,⟨[(.sla 11 7 0 aM.length (.un 7))],38,none⟩),(8,⟨[(ii aQ)],3,none⟩),(9,⟨[(ii aF)],79,none⟩),(10,⟨Ym aE.length (Zz aE),3,some ⟨1,aE.length,(Zz aE)⟩⟩),(11,⟨Ym aM.length (Zz aM),96,some ⟨7,aM.length,(Zz aM)⟩⟩)],12,[],true⟩,[⟨⟨87,0,true⟩,none,(.inRangeFunc 0::(Zb prog 45 [1,1,0,1,0,0,1,1,0,0,1,1,1,0] 1)),none,(Zy prog 45),Yg [(2,(.ptr 1 0)),(3,(.ptr 2 0)),(4,(.ptr 5 0)),(5,(.ptr 6 0)),(6,(.ptr 7 0)),(16,(ii bQ))]⟩,(v2w l0 x1)],(y2m [(0,⟨.ready,none,87,Yg [(2,(.ptr 1 0)),(3,(.ptr 2 0)),(4,(.ptr 5 0)),(5,(.ptr 6 0)),(6,(.ptr 7 0)),(7,(.ptr 8 0)),(8,(.ptr 9 0))],[25],(Wt prog 45 [1,1,0,1,0,0,1,1,0,0,1,1,1,0,0]),(Wt prog 45 [1,1,0,1,0,0,1,1,0,0,1,1,1,0,1])⟩)])⟩
 | .h3 v9 v55 v56 v57 bH bZ cA cI aM aQ aF aE=>⟨⟨87,0,true⟩,none,(Zb prog 45 [1,1,0,1,0,0,1,1,0,0,1,1,1,0,1,0,1,1,1,1,1,1,0,0] 0),(some 0),[],⟨Yg [(6,(.ptr 7 0)),(7,(.ptr 8 0)),(8,(.ptr 9 0)),(9,(ii v9)),(55,(.dat v55.length (Zz v55))),(56,(ii v56)),(57,(ii v57))],z6q [(1,⟨[(y5s l0 x1)],33,none⟩),(2,x8u),(3,(x2e l0)),(4,⟨[(ii x2)],3,none⟩),(5,⟨[.nils],38,none⟩),(6,⟨[(ii 0)],24,none⟩),(7,⟨[(.sla 11 7 0 aM.length (.un 7))],38,none⟩),(8,⟨[(ii aQ)],3,none⟩),(9,⟨[(ii aF)],79,none⟩),(10,⟨Ym aE.length (Zz aE),3,some ⟨1,aE.length,(Zz aE)⟩⟩),(11,⟨Ym aM.length (Zz aM),96,some ⟨7,aM.length,(Zz aM)⟩⟩)],12,[],true⟩,[⟨⟨16,0,true⟩,(Vm prog 152 [1,0,0,1,1,0,0,1,0] 2),(Zb prog 152 [1,0,0,1,1,0,0,1,0] 1),none,[],Yg [(0,(.yld 0)),(5,(.sla 10 1 0 bH (.un 1))),(6,(ii bZ)),(7,(ii cA)),(11,(.yld 0)),(12,(ii v9))]⟩,⟨⟨87,0,true⟩,none,(.inRangeFunc 0::(Zb prog 45 [1,1,0,1,0,0,1,1,0,0,1,1,1,0] 1)),none,(Zy prog 45),Yg [(2,(.ptr 1 0)),(3,(.ptr 2 0)),(4,(.ptr 5 0)),(5,(.ptr 6 0)),(6,(.ptr 7 0)),(16,(ii cI))]⟩,(v2w l0 x1)],(y2m [(0,⟨.busy,none,87,Yg [(2,(.ptr 1 0)),(3,(.ptr 2 0)),(4,(.ptr 5 0)),(5,(.ptr 6 0)),(6,(.ptr 7 0)),(7,(.ptr 8 0)),(8,(.ptr 9 0))],[25],(Wt prog 45 [1,1,0,1,0,0,1,1,0,0,1,1,1,0,0]),(Wt prog 45 [1,1,0,1,0,0,1,1,0,0,1,1,1,0,1])⟩)])⟩
def stpN0 :List (Option (List Nat)):=[some [2,3,4,5,6,16],some [41,42]]
def stpM0 :List (Option (List Nat)):=[]
def stpN1 :List (Option (List Nat)):=[some [2,5,8,9,10],some [2,3,4,5,6,7,8,16,22,23],some [41,42]]
def stpM1 :List (Option (List Nat)):=[]
def stpN2 :List (Option (List Nat)):=[some [0,5,6,7],some [2,3,4,5,6,16],some [41,42]]
def stpM2 :List (Option (List Nat)):=[some [2,3,4,5,6,7,8],none,none,none,none,none,none,none,none,none,none,none]
def j2s :List (Option (List Nat)):=[some [6,7,8,9,55,56,57],some [0,5,6,7,11,12],some [2,3,4,5,6,16],some [41,42]]
def j2t :List (Option (List Nat)):=[some [2,3,4,5,6,7,8],none,none,none,none,none,none,none,none,none,none,none]
def Wb (l0:List Pa) (x1:Int) (x2:Int):stpS→Xw stpS
 | .h0 v16 aA=>(bif (decide (v16<6)) then (.to (.h1 ([]:List Int) 0 v16 (wrap .i64 (Int.tdiv v16 2)) (wrap .i64 (Int.tdiv v16 2)) aA v16 (wrap .i64 (Int.tdiv v16 2)))) else (bif (decide ((aA.length:Int)>3000)) then (.ret [.nils,(.int .i64 4)]) else (.ret [(.dat aA.length (Zz aA)),(.int .i64 0)])))
 | .h1 v5 v10 bQ cE aD aM aQ aF=>(bif (decide (v10<(((rd l0 x1.toNat).s.length :Nat):Int))) then (bif ((decide (0≤v10∧v10<(((rd l0 x1.toNat).s.length :Nat):Int)))&&true) then (bif (Uq aD (rd (rd l0 x1.toNat).s v10.toNat).a (rd (rd l0 x1.toNat).s v10.toNat).b (rd (rd l0 x1.toNat).s v10.toNat).c) then (bif (Uq aD (rd (rd l0 x1.toNat).s v10.toNat).d (rd (rd l0 x1.toNat).s v10.toNat).e (rd (rd l0 x1.toNat).s v10.toNat).f) then (bif (Nat.beq 1 1&&((decide (0+v5.length=v5.length))&&decide ((v5.length+2+1)*(8+1)≤room))) then (.to (.h1 (v5++[(y1q aD (rd (rd l0 x1.toNat).s v10.toNat).a (rd (rd l0 x1.toNat).s v10.toNat).b (rd (rd l0 x1.toNat).s v10.toNat).c),(y1q aD (rd (rd l0 x1.toNat).s v10.toNat).d (rd (rd l0 x1.toNat).s v10.toNat).e (rd (rd l0 x1.toNat).s v10.toNat).f)]) (wrap .i64 (v10+1)) bQ cE aD aM aQ aF)) else .stuck) else .stuck) else .stuck) else .stuck) else (bif (decide (v5.length<4611686018427387904)) then (bif (decide (v5.length=v5.length)) then (.to (.h2 (v1h (Yu v5.length (cOf (Zz (Xp (Yu v5.length (cOf (Zz v5)))))))) (((v1h (Yu v5.length (cOf (Zz (Xp (Yu v5.length (cOf (Zz v5)))))))):Nat):Int) 0 bQ aM aQ aF (Wu (Yu v5.length (cOf (Zz (Xp (Yu v5.length (cOf (Zz v5)))))))))) else .stuck) else .stuck))
 | .h2 bN v6 v7 bQ aM aQ aF aE=>(bif (decide (v7<v6)) then (bif ((decide (0≤v7∧v7<((bN:Nat):Int)))&&true) then (bif (decide ((0+v7.toNat)<aE.length)) then (bif ((Int.tmod aQ 2) == 1) then (bif (Wz aF (cvT (rd l0 x1.toNat).s) (rd aE (0+v7.toNat))) then (bif ((Wx aF (cvT (rd l0 x1.toNat).s) (rd aE (0+v7.toNat))) == 0) then (bif (Wz aF ([(R6.mk (rd l0 x2.toNat).a (rd l0 x2.toNat).b (rd l0 x2.toNat).c (rd l0 x2.toNat).d (rd l0 x2.toNat).e (rd l0 x2.toNat).f)]:List R6) (wrap .i64 ((rd aE (0+v7.toNat)) - 1))) then (bif ((decide (0≤x2∧x2<(l0.length:Int)))&&true) then (bif (Wz aF (cvT (rd l0 x2.toNat).s) (wrap .i64 ((rd aE (0+v7.toNat)) - 1))) then (bif ((Wx aF ([(R6.mk (rd l0 x2.toNat).a (rd l0 x2.toNat).b (rd l0 x2.toNat).c (rd l0 x2.toNat).d (rd l0 x2.toNat).e (rd l0 x2.toNat).f)]:List R6) (wrap .i64 ((rd aE (0+v7.toNat)) - 1))) != 0) then (.ret [.nils,(.int .i64 4)]) else (bif ((Wx aF (cvT (rd l0 x2.toNat).s) (wrap .i64 ((rd aE (0+v7.toNat)) - 1))) != 0) then (.ret [.nils,(.int .i64 4)]) else (bif (Vi .d (cvT (Za aF ([(R6.mk (rd l0 x2.toNat).a (rd l0 x2.toNat).b (rd l0 x2.toNat).c (rd l0 x2.toNat).d (rd l0 x2.toNat).e (rd l0 x2.toNat).f)]:List R6) (wrap .i64 ((rd aE (0+v7.toNat)) - 1)))) (cvT (Za aF (cvT (rd l0 x2.toNat).s) (wrap .i64 ((rd aE (0+v7.toNat)) - 1))))) then (bif ((Jc .d (cvT (Za aF ([(R6.mk (rd l0 x2.toNat).a (rd l0 x2.toNat).b (rd l0 x2.toNat).c (rd l0 x2.toNat).d (rd l0 x2.toNat).e (rd l0 x2.toNat).f)]:List R6) (wrap .i64 ((rd aE (0+v7.toNat)) - 1)))) (cvT (Za aF (cvT (rd l0 x2.toNat).s) (wrap .i64 ((rd aE (0+v7.toNat)) - 1))))) != 0) then (.ret [.nils,(.int .i64 (Jc .d (cvT (Za aF ([(R6.mk (rd l0 x2.toNat).a (rd l0 x2.toNat).b (rd l0 x2.toNat).c (rd l0 x2.toNat).d (rd l0 x2.toNat).e (rd l0 x2.toNat).f)]:List R6) (wrap .i64 ((rd aE (0+v7.toNat)) - 1)))) (cvT (Za aF (cvT (rd l0 x2.toNat).s) (wrap .i64 ((rd aE (0+v7.toNat)) - 1))))))]) else (bif (Vi .e (cvT (Za aF (cvT (rd l0 x1.toNat).s) (rd aE (0+v7.toNat)))) (cvT (Xc .d (cvT (Za aF ([(R6.mk (rd l0 x2.toNat).a (rd l0 x2.toNat).b (rd l0 x2.toNat).c (rd l0 x2.toNat).d (rd l0 x2.toNat).e (rd l0 x2.toNat).f)]:List R6) (wrap .i64 ((rd aE (0+v7.toNat)) - 1)))) (cvT (Za aF (cvT (rd l0 x2.toNat).s) (wrap .i64 ((rd aE (0+v7.toNat)) - 1))))))) then (bif ((Jc .e (cvT (Za aF (cvT (rd l0 x1.toNat).s) (rd aE (0+v7.toNat)))) (cvT (Xc .d (cvT (Za aF ([(R6.mk (rd l0 x2.toNat).a (rd l0 x2.toNat).b (rd l0 x2.toNat).c (rd l0 x2.toNat).d (rd l0 x2.toNat).e (rd l0 x2.toNat).f)]:List R6) (wrap .i64 ((rd aE (0+v7.toNat)) - 1)))) (cvT (Za aF (cvT (rd l0 x2.toNat).s) (wrap .i64 ((rd aE (0+v7.toNat)) - 1))))))) != 0) then (.ret [.nils,(.int .i64 (Jc .e (cvT (Za aF (cvT (rd l0 x1.toNat).s) (rd aE (0+v7.toNat)))) (cvT (Xc .d (cvT (Za aF ([(R6.mk (rd l0 x2.toNat).a (rd l0 x2.toNat).b (rd l0 x2.toNat).c (rd l0 x2.toNat).d (rd l0 x2.toNat).e (rd l0 x2.toNat).f)]:List R6) (wrap .i64 ((rd aE (0+v7.toNat)) - 1)))) (cvT (Za aF (cvT (rd l0 x2.toNat).s) (wrap .i64 ((rd aE (0+v7.toNat)) - 1))))))))]) else (.to (.h3 (rd aE (0+v7.toNat)) (Xc .e (cvT (Za aF (cvT (rd l0 x1.toNat).s) (rd aE (0+v7.toNat)))) (cvT (Xc .d (cvT (Za aF ([(R6.mk (rd l0 x2.toNat).a (rd l0 x2.toNat).b (rd l0 x2.toNat).c (rd l0 x2.toNat).d (rd l0 x2.toNat).e (rd l0 x2.toNat).f)]:List R6) (wrap .i64 ((rd aE (0+v7.toNat)) - 1)))) (cvT (Za aF (cvT (rd l0 x2.toNat).s) (wrap .i64 ((rd aE (0+v7.toNat)) - 1))))))) (((Xc .e (cvT (Za aF (cvT (rd l0 x1.toNat).s) (rd aE (0+v7.toNat)))) (cvT (Xc .d (cvT (Za aF ([(R6.mk (rd l0 x2.toNat).a (rd l0 x2.toNat).b (rd l0 x2.toNat).c (rd l0 x2.toNat).d (rd l0 x2.toNat).e (rd l0 x2.toNat).f)]:List R6) (wrap .i64 ((rd aE (0+v7.toNat)) - 1)))) (cvT (Za aF (cvT (rd l0 x2.toNat).s) (wrap .i64 ((rd aE (0+v7.toNat)) - 1))))))).length :Nat):Int) 0 bN v6 v7 bQ aM aQ aF aE))) else .stuck)) else .stuck))) else .stuck) else .stuck) else .stuck) else (.ret [.nils,(.int .i64 (Wx aF (cvT (rd l0 x1.toNat).s) (rd aE (0+v7.toNat))))])) else .stuck) else (bif (Wz aF (cvT (rd l0 x1.toNat).s) (wrap .i64 ((rd aE (0+v7.toNat)) - 1))) then (bif ((Wx aF (cvT (rd l0 x1.toNat).s) (wrap .i64 ((rd aE (0+v7.toNat)) - 1))) == 0) then (bif (Wz aF ([(R6.mk (rd l0 x2.toNat).a (rd l0 x2.toNat).b (rd l0 x2.toNat).c (rd l0 x2.toNat).d (rd l0 x2.toNat).e (rd l0 x2.toNat).f)]:List R6) (rd aE (0+v7.toNat))) then (bif ((decide (0≤x2∧x2<(l0.length:Int)))&&true) then (bif (Wz aF (cvT (rd l0 x2.toNat).s) (rd aE (0+v7.toNat))) then (bif ((Wx aF ([(R6.mk (rd l0 x2.toNat).a (rd l0 x2.toNat).b (rd l0 x2.toNat).c (rd l0 x2.toNat).d (rd l0 x2.toNat).e (rd l0 x2.toNat).f)]:List R6) (rd aE (0+v7.toNat))) != 0) then (.ret [.nils,(.int .i64 4)]) else (bif ((Wx aF (cvT (rd l0 x2.toNat).s) (rd aE (0+v7.toNat))) != 0) then (.ret [.nils,(.int .i64 4)]) else (bif (Vi .d (cvT (Za aF ([(R6.mk (rd l0 x2.toNat).a (rd l0 x2.toNat).b (rd l0 x2.toNat).c (rd l0 x2.toNat).d (rd l0 x2.toNat).e (rd l0 x2.toNat).f)]:List R6) (rd aE (0+v7.toNat)))) (cvT (Za aF (cvT (rd l0 x2.toNat).s) (rd aE (0+v7.toNat))))) then (bif ((Jc .d (cvT (Za aF ([(R6.mk (rd l0 x2.toNat).a (rd l0 x2.toNat).b (rd l0 x2.toNat).c (rd l0 x2.toNat).d (rd l0 x2.toNat).e (rd l0 x2.toNat).f)]:List R6) (rd aE (0+v7.toNat)))) (cvT (Za aF (cvT (rd l0 x2.toNat).s) (rd aE (0+v7.toNat))))) != 0) then (.ret [.nils,(.int .i64 (Jc .d (cvT (Za aF ([(R6.mk (rd l0 x2.toNat).a (rd l0 x2.toNat).b (rd l0 x2.toNat).c (rd l0 x2.toNat).d (rd l0 x2.toNat).e (rd l0 x2.toNat).f)]:List R6) (rd aE (0+v7.toNat)))) (cvT (Za aF (cvT (rd l0 x2.toNat).s) (rd aE (0+v7.toNat))))))]) else (bif (Vi .e (cvT (Za aF (cvT (rd l0 x1.toNat).s) (wrap .i64 ((rd aE (0+v7.toNat)) - 1)))) (cvT (Xc .d (cvT (Za aF ([(R6.mk (rd l0 x2.toNat).a (rd l0 x2.toNat).b (rd l0 x2.toNat).c (rd l0 x2.toNat).d (rd l0 x2.toNat).e (rd l0 x2.toNat).f)]:List R6) (rd aE (0+v7.toNat)))) (cvT (Za aF (cvT (rd l0 x2.toNat).s) (rd aE (0+v7.toNat))))))) then (bif ((Jc .e (cvT (Za aF (cvT (rd l0 x1.toNat).s) (wrap .i64 ((rd aE (0+v7.toNat)) - 1)))) (cvT (Xc .d (cvT (Za aF ([(R6.mk (rd l0 x2.toNat).a (rd l0 x2.toNat).b (rd l0 x2.toNat).c (rd l0 x2.toNat).d (rd l0 x2.toNat).e (rd l0 x2.toNat).f)]:List R6) (rd aE (0+v7.toNat)))) (cvT (Za aF (cvT (rd l0 x2.toNat).s) (rd aE (0+v7.toNat))))))) != 0) then (.ret [.nils,(.int .i64 (Jc .e (cvT (Za aF (cvT (rd l0 x1.toNat).s) (wrap .i64 ((rd aE (0+v7.toNat)) - 1)))) (cvT (Xc .d (cvT (Za aF ([(R6.mk (rd l0 x2.toNat).a (rd l0 x2.toNat).b (rd l0 x2.toNat).c (rd l0 x2.toNat).d (rd l0 x2.toNat).e (rd l0 x2.toNat).f)]:List R6) (rd aE (0+v7.toNat)))) (cvT (Za aF (cvT (rd l0 x2.toNat).s) (rd aE (0+v7.toNat))))))))]) else (.to (.h3 (rd aE (0+v7.toNat)) (Xc .e (cvT (Za aF (cvT (rd l0 x1.toNat).s) (wrap .i64 ((rd aE (0+v7.toNat)) - 1)))) (cvT (Xc .d (cvT (Za aF ([(R6.mk (rd l0 x2.toNat).a (rd l0 x2.toNat).b (rd l0 x2.toNat).c (rd l0 x2.toNat).d (rd l0 x2.toNat).e (rd l0 x2.toNat).f)]:List R6) (rd aE (0+v7.toNat)))) (cvT (Za aF (cvT (rd l0 x2.toNat).s) (rd aE (0+v7.toNat))))))) (((Xc .e (cvT (Za aF (cvT (rd l0 x1.toNat).s) (wrap .i64 ((rd aE (0+v7.toNat)) - 1)))) (cvT (Xc .d (cvT (Za aF ([(R6.mk (rd l0 x2.toNat).a (rd l0 x2.toNat).b (rd l0 x2.toNat).c (rd l0 x2.toNat).d (rd l0 x2.toNat).e (rd l0 x2.toNat).f)]:List R6) (rd aE (0+v7.toNat)))) (cvT (Za aF (cvT (rd l0 x2.toNat).s) (rd aE (0+v7.toNat))))))).length :Nat):Int) 0 bN v6 v7 bQ aM aQ aF aE))) else .stuck)) else .stuck))) else .stuck) else .stuck) else .stuck) else (.ret [.nils,(.int .i64 (Wx aF (cvT (rd l0 x1.toNat).s) (wrap .i64 ((rd aE (0+v7.toNat)) - 1))))])) else .stuck)) else .stuck) else .stuck) else (.to (.h0 (wrap .i64 (bQ+1)) aM)))
 | .h3 v9 v55 v56 v57 bH bZ cA cI aM aQ aF aE=>(bif (decide (v57<v56)) then (bif ((decide (0≤v57∧v57<(v55.length:Int)))&&true) then (bif (Ki aF v9 (rd v55 v57.toNat).a (rd v55 v57.toNat).b) then (bif (Ki aF v9 (rd v55 v57.toNat).c (rd v55 v57.toNat).d) then (bif (Nat.beq 7 7&&((decide (0+aM.length=aM.length))&&decide ((aM.length+1+1)*(56+1)≤room))) then (.to (.h3 v9 v55 v56 (wrap .i64 (v57+1)) bH bZ cA cI (aM++[(R7.mk (wrap IntKind.u8 aQ) (z2v aF v9 (rd v55 v57.toNat).a (rd v55 v57.toNat).b).a (z2v aF v9 (rd v55 v57.toNat).a (rd v55 v57.toNat).b).b (z2v aF v9 (rd v55 v57.toNat).a (rd v55 v57.toNat).b).c (z2v aF v9 (rd v55 v57.toNat).c (rd v55 v57.toNat).d).a (z2v aF v9 (rd v55 v57.toNat).c (rd v55 v57.toNat).d).b (z2v aF v9 (rd v55 v57.toNat).c (rd v55 v57.toNat).d).c)]) aQ aF aE)) else .stuck) else .stuck) else .stuck) else .stuck) else (.to (.h2 bH bZ (wrap .i64 (cA+1)) cI aM aQ aF aE)))
def y3o (l0:List Pa) (x1:Int) (x2:Int):Xw stpS:=(bif (Qh (cvT l0)) then (bif ((z1l (cvT l0)) != 0) then (.ret [.nils,(.int .i64 (z1l (cvT l0)))]) else (bif (decide (x1<0)) then (.ret [.nils,(.int .i64 2)]) else (bif (decide (x1≥(l0.length:Int))) then (.ret [.nils,(.int .i64 2)]) else (bif (decide (x2<0)) then (.ret [.nils,(.int .i64 2)]) else (bif (decide (x2≥(l0.length:Int))) then (.ret [.nils,(.int .i64 2)]) else (bif (x1 == x2) then (.ret [.nils,(.int .i64 2)]) else (bif ((decide (0≤x1∧x1<(l0.length:Int)))&&true) then (.to (.h0 0 ([]:List R7))) else .stuck))))))) else .stuck)
theorem w7q (l0:List Pa) (x1:Int) (x2:Int): ∀s,Yt prog (Zy prog 18) (stpC l0 x1 x2) (stpC l0 x1 x2 s) (Wb l0 x1 x2 s)
 | .h0 v16 aA=>(lb (fun k0=>(sl Wn 46 [(3,1,Zz ([]:List Int))] ⟨[10,0,1,2,3,4,5,6,8,9,11,7],[],stpN1,stpM1⟩ ⟨[(5,.grow 10 1)],[],[]⟩ [true] (pp (fl ([]:List Int) (fl aA nn)) (tt k0 nn)))) (fun k0=>(lb (fun k1=>(lr 46 3 [1,1,1,1,0] 1 10 [(6,.nils),(7,(ii 4))] (sl Wn 26 [] ⟨[],[],[some [6,7]],[]⟩ ⟨[],[],[]⟩ (bl 2 2) (tt k1 (tt k0 nn))))) (fun k1=>(lr 46 3 [1,1,1,1,0] 1 10 [(6,(.dat aA.length (Zz aA))),(7,(ii 0))] (sl Wn 28 [] ⟨[],[7],[some [6,7]],[]⟩ ⟨[(6,.frz aA.length aA.length (Zz aA) (Zz aA))],[],[]⟩ (bl 2 0) (pp (xZ (z6e 7 7 0 aA.length aA.length (Zz aA)) aA.length (Zz aA)) (pp (xL aA.length aA.length) (pp (xS aA.length (Zz aA) (Zz aA)) (pp (fl aA nn) (tt k1 (tt k0 nn))))))))))))
 | .h1 v5 v10 bQ cE aD aM aQ aF=>(lb (fun k0=>(lo fun o0=>(lo fun o1=>(lo fun o2=>(lo fun o3=>(sl Wn 23 [] ⟨[0,1,2,3,4,5,6,7,8,9,14,11],[],stpN1,stpM1⟩ ⟨[(5,.len (y9j v5 aD l0 x1 v10).length)],(kpB 10 [.rowed 1 (y9j v5 aD l0 x1 v10).length (Zz (y9j v5 aD l0 x1 v10)),.keep]),[]⟩ [true] (pp (xL (v5.length+2) (y9j v5 aD l0 x1 v10).length) (pp (xL (v5.length+2) (y9j v5 aD l0 x1 v10).length) (pp (xS (v5.length+2) (u6v v5 aD l0 x1 v10) (Zz (y9j v5 aD l0 x1 v10))) (pp (pp (xF (u6v v5 aD l0 x1 v10)) (fl aM nn)) (ww o3 (ww o2 (ww o1 (ww o0 (tt k0 nn))))))))))))))) (fun k0=>(lo fun o0=>(lo fun o1=>(sl Wn 42 [] ⟨[13,1,2,3,4,5,6,7,8,9,10,11],[],stpN2,stpM2⟩ ⟨[],(kpB 10 [.rowed 1 (y9i v5).length (Zz (y9i v5)),.keep]),[]⟩ [false] (pp (xL v5.length (y9i v5).length (by first | exact z0z _ _ | exact Uy rfl)) (pp (xS v5.length (Zz (y9i v5)) (Zz (y9i v5))) (pp (fl (y9i v5) (fl aM nn)) (pp (pp (xG (Nat.beq 1 1)) (pp (xG (Nat.beq 1 1)) (pp (xG (Nat.beq 0 0)) (pp (xG (decide (v5.length=v5.length))) (pp (xG (isI (Zz (Xp (Yu v5.length (cOf (Zz v5))))))) (xG (decide (v5.length<4611686018427387904)))))))) (pp (pp (xG (Nat.beq 1 1)) (pp (xG (Nat.beq 1 1)) (pp (xG (Nat.beq 0 0)) (pp (xG (decide (v5.length=v5.length))) (pp (xG (isI (Zz v5))) (xG (decide (v5.length<4611686018427387904)))))))) (tt k0 nn)))))))))))
 | .h2 bN v6 v7 bQ aM aQ aF aE=>(lb (fun k0=>(lo fun aJ=>(lo fun bC=>(lb (fun k1=>(lo fun bX=>(lb (fun k2=>(lo fun cC=>(lo fun cL=>(lo fun dC=>(lb (fun k3=>(lr 46 3 [1,1,1,1,0] 1 10 [(6,.nils),(7,(ii 4))] (sl Wn 131 [] ⟨[],[],[some [6,7]],[]⟩ ⟨[],[],[]⟩ (trs 8 []) (tt k3 (pp (pp (xI R6 (rd l0 (tn x2)).s.length (z2a l0 x2)) (xw dC)) (ww cL (pp (pp (xI R6 1 (fun k=>([(ii (rd l0 (tn x2)).a),(ii (rd l0 (tn x2)).b),(ii (rd l0 (tn x2)).c),(ii (rd l0 (tn x2)).d),(ii (rd l0 (tn x2)).e),(ii (rd l0 (tn x2)).f)].drop (k*6)).take 6)) (xw cC)) (ww cL (tt k2 (pp (pp (xI R6 (rd l0 (tn x1)).s.length (z0a l0 x1)) (xw bX)) (tt k1 (ww bC (ww aJ (tt k0 nn)))))))))))))) (fun k3=>(lb (fun k4=>(lr 46 3 [1,1,1,1,0] 1 10 [(6,.nils),(7,(ii 4))] (sl Wn 131 [] ⟨[],[],[some [6,7]],[]⟩ ⟨[],[],[]⟩ (trs 3 (bl 5 28)) (tt k4 (tt k3 (pp (pp (xI R6 (rd l0 (tn x2)).s.length (z2a l0 x2)) (xw dC)) (ww cL (pp (pp (xI R6 1 (fun k=>([(ii (rd l0 (tn x2)).a),(ii (rd l0 (tn x2)).b),(ii (rd l0 (tn x2)).c),(ii (rd l0 (tn x2)).d),(ii (rd l0 (tn x2)).e),(ii (rd l0 (tn x2)).f)].drop (k*6)).take 6)) (xw cC)) (ww cL (tt k2 (pp (pp (xI R6 (rd l0 (tn x1)).s.length (z0a l0 x1)) (xw bX)) (tt k1 (ww bC (ww aJ (tt k0 nn))))))))))))))) (fun k4=>(lo fun cT=>(lb (fun k5=>(lr 46 3 [1,1,1,1,0] 1 10 [(6,.nils),(7,(ii (Jc .d (cvT (Za aF ([(Uh l0 x2)]:List R6) (wr (Ug aE v7)))) (cvT (z4b aF l0 x2 aE v7)))))] (sl Wn 151 [] ⟨[],[],[some [6,7]],[]⟩ ⟨[],[],[]⟩ (trs 3 (bl 6 56)) (tt k5 (tt k5 (pp (pp (xI R4 (Za aF ([(Uh l0 x2)]:List R6) (wr (Ug aE v7))).length (Zz (Za aF ([(Uh l0 x2)]:List R6) (wr (Ug aE v7))))) (pp (xI R4 (z4b aF l0 x2 aE v7).length (Zz (z4b aF l0 x2 aE v7))) (xw cT))) (tt k4 (tt k3 (pp (pp (xI R6 (rd l0 (tn x2)).s.length (z2a l0 x2)) (xw dC)) (ww cL (pp (pp (xI R6 1 (fun k=>([(ii (rd l0 (tn x2)).a),(ii (rd l0 (tn x2)).b),(ii (rd l0 (tn x2)).c),(ii (rd l0 (tn x2)).d),(ii (rd l0 (tn x2)).e),(ii (rd l0 (tn x2)).f)].drop (k*6)).take 6)) (xw cC)) (ww cL (tt k2 (pp (pp (xI R6 (rd l0 (tn x1)).s.length (z0a l0 x1)) (xw bX)) (tt k1 (ww bC (ww aJ (tt k0 nn)))))))))))))))))) (fun k5=>(lo fun dG=>(lb (fun k6=>(lr 46 3 [1,1,1,1,0] 1 10 [(6,.nils),(7,(ii (Jc .e (cvT (Za aF (Qt l0 x1) (Je aE v7))) (cvT (Xc .d (cvT (Za aF ([(Uh l0 x2)]:List R6) (wr (Ug aE v7)))) (cvT (z4b aF l0 x2 aE v7)))))))] (sl Wn 156 [] ⟨[],[],[some [6,7]],[]⟩ ⟨[],[],[]⟩ (trs 3 (bl 6 48)) (tt k6 (pp (pp (xI R4 (Za aF (Qt l0 x1) (Je aE v7)).length (Zz (Za aF (Qt l0 x1) (Je aE v7)))) (pp (xI R4 (Xc .d (cvT (Za aF ([(Uh l0 x2)]:List R6) (wr (Ug aE v7)))) (cvT (z4b aF l0 x2 aE v7))).length (Zz (Xc .d (cvT (Za aF ([(Uh l0 x2)]:List R6) (wr (Ug aE v7)))) (cvT (z4b aF l0 x2 aE v7))))) (xw dG))) (tt k5 (pp (pp (xI R4 (Za aF ([(Uh l0 x2)]:List R6) (wr (Ug aE v7))).length (Zz (Za aF ([(Uh l0 x2)]:List R6) (wr (Ug aE v7))))) (pp (xI R4 (z4b aF l0 x2 aE v7).length (Zz (z4b aF l0 x2 aE v7))) (xw cT))) (tt k4 (tt k3 (pp (pp (xI R6 (rd l0 (tn x2)).s.length (z2a l0 x2)) (xw dC)) (ww cL (pp (pp (xI R6 1 (fun k=>([(ii (rd l0 (tn x2)).a),(ii (rd l0 (tn x2)).b),(ii (rd l0 (tn x2)).c),(ii (rd l0 (tn x2)).d),(ii (rd l0 (tn x2)).e),(ii (rd l0 (tn x2)).f)].drop (k*6)).take 6)) (xw cC)) (ww cL (tt k2 (pp (pp (xI R6 (rd l0 (tn x1)).s.length (z0a l0 x1)) (xw bX)) (tt k1 (ww bC (ww aJ (tt k0 nn))))))))))))))))))) (fun k6=>(sl Wn 147 [] ⟨(List.range 12),[],j2s,j2t⟩ ⟨[],[],[]⟩ (trs 3 (bl 5 0)) (pp (fl aE (fl aM nn)) (tt k6 (pp (pp (xI R4 (Za aF (Qt l0 x1) (Je aE v7)).length (Zz (Za aF (Qt l0 x1) (Je aE v7)))) (pp (xI R4 (Xc .d (cvT (Za aF ([(Uh l0 x2)]:List R6) (wr (Ug aE v7)))) (cvT (z4b aF l0 x2 aE v7))).length (Zz (Xc .d (cvT (Za aF ([(Uh l0 x2)]:List R6) (wr (Ug aE v7)))) (cvT (z4b aF l0 x2 aE v7))))) (xw dG))) (tt k5 (pp (pp (xI R4 (Za aF ([(Uh l0 x2)]:List R6) (wr (Ug aE v7))).length (Zz (Za aF ([(Uh l0 x2)]:List R6) (wr (Ug aE v7))))) (pp (xI R4 (z4b aF l0 x2 aE v7).length (Zz (z4b aF l0 x2 aE v7))) (xw cT))) (tt k4 (tt k3 (pp (pp (xI R6 (rd l0 (tn x2)).s.length (z2a l0 x2)) (xw dC)) (ww cL (pp (pp (xI R6 1 (fun k=>([(ii (rd l0 (tn x2)).a),(ii (rd l0 (tn x2)).b),(ii (rd l0 (tn x2)).c),(ii (rd l0 (tn x2)).d),(ii (rd l0 (tn x2)).e),(ii (rd l0 (tn x2)).f)].drop (k*6)).take 6)) (xw cC)) (ww cL (tt k2 (pp (pp (xI R6 (rd l0 (tn x1)).s.length (z0a l0 x1)) (xw bX)) (tt k1 (ww bC (ww aJ (tt k0 nn)))))))))))))))))))))))))))))))) (fun k2=>(lr 46 3 [1,1,1,1,0] 1 10 [(6,.nils),(7,(ii (Wx aF (Qt l0 x1) (Je aE v7))))] (sl Wn 93 [] ⟨[],[],[some [6,7]],[]⟩ ⟨[],[],[]⟩ (bl 5 27) (yt (v1l k2) (tt k2 (pp (pp (xI R6 (rd l0 (tn x1)).s.length (z0a l0 x1)) (xw bX)) (tt k1 (ww bC (ww aJ (tt k0 nn))))))))))))) (fun k1=>(lo fun bX=>(lb (fun k2=>(lo fun cC=>(lo fun cL=>(lo fun dC=>(lb (fun k3=>(lr 46 3 [1,1,1,1,0] 1 10 [(6,.nils),(7,(ii 4))] (sl Wn 125 [] ⟨[],[],[some [6,7]],[]⟩ ⟨[],[],[]⟩ (bl 8 253) (tt k3 (pp (pp (xI R6 (rd l0 (tn x2)).s.length (z2a l0 x2)) (xw dC)) (ww cL (pp (pp (xI R6 1 (fun k=>([(ii (rd l0 (tn x2)).a),(ii (rd l0 (tn x2)).b),(ii (rd l0 (tn x2)).c),(ii (rd l0 (tn x2)).d),(ii (rd l0 (tn x2)).e),(ii (rd l0 (tn x2)).f)].drop (k*6)).take 6)) (xw cC)) (ww cL (tt k2 (pp (pp (xI R6 (rd l0 (tn x1)).s.length (z0a l0 x1)) (xw bX)) (tt k1 (ww bC (ww aJ (tt k0 nn)))))))))))))) (fun k3=>(lb (fun k4=>(lr 46 3 [1,1,1,1,0] 1 10 [(6,.nils),(7,(ii 4))] (sl Wn 125 [] ⟨[],[],[some [6,7]],[]⟩ ⟨[],[],[]⟩ (bl 8 229) (tt k4 (tt k3 (pp (pp (xI R6 (rd l0 (tn x2)).s.length (z2a l0 x2)) (xw dC)) (ww cL (pp (pp (xI R6 1 (fun k=>([(ii (rd l0 (tn x2)).a),(ii (rd l0 (tn x2)).b),(ii (rd l0 (tn x2)).c),(ii (rd l0 (tn x2)).d),(ii (rd l0 (tn x2)).e),(ii (rd l0 (tn x2)).f)].drop (k*6)).take 6)) (xw cC)) (ww cL (tt k2 (pp (pp (xI R6 (rd l0 (tn x1)).s.length (z0a l0 x1)) (xw bX)) (tt k1 (ww bC (ww aJ (tt k0 nn))))))))))))))) (fun k4=>(lo fun cT=>(lb (fun k5=>(lr 46 3 [1,1,1,1,0] 1 10 [(6,.nils),(7,(ii (Jc .d (cvT (Za aF ([(Uh l0 x2)]:List R6) (Je aE v7))) (cvT (z4a aF l0 x2 aE v7)))))] (sl Wn 145 [] ⟨[],[],[some [6,7]],[]⟩ ⟨[],[],[]⟩ (bl 9 453) (tt k5 (tt k5 (pp (pp (xI R4 (Za aF ([(Uh l0 x2)]:List R6) (Je aE v7)).length (Zz (Za aF ([(Uh l0 x2)]:List R6) (Je aE v7)))) (pp (xI R4 (z4a aF l0 x2 aE v7).length (Zz (z4a aF l0 x2 aE v7))) (xw cT))) (tt k4 (tt k3 (pp (pp (xI R6 (rd l0 (tn x2)).s.length (z2a l0 x2)) (xw dC)) (ww cL (pp (pp (xI R6 1 (fun k=>([(ii (rd l0 (tn x2)).a),(ii (rd l0 (tn x2)).b),(ii (rd l0 (tn x2)).c),(ii (rd l0 (tn x2)).d),(ii (rd l0 (tn x2)).e),(ii (rd l0 (tn x2)).f)].drop (k*6)).take 6)) (xw cC)) (ww cL (tt k2 (pp (pp (xI R6 (rd l0 (tn x1)).s.length (z0a l0 x1)) (xw bX)) (tt k1 (ww bC (ww aJ (tt k0 nn)))))))))))))))))) (fun k5=>(lo fun dG=>(lb (fun k6=>(lr 46 3 [1,1,1,1,0] 1 10 [(6,.nils),(7,(ii (Jc .e (cvT (Za aF (Qt l0 x1) (wr (Ug aE v7)))) (cvT (Xc .d (cvT (Za aF ([(Uh l0 x2)]:List R6) (Je aE v7))) (cvT (z4a aF l0 x2 aE v7)))))))] (sl Wn 150 [] ⟨[],[],[some [6,7]],[]⟩ ⟨[],[],[]⟩ (bl 9 389) (tt k6 (pp (pp (xI R4 (Za aF (Qt l0 x1) (wr (Ug aE v7))).length (Zz (Za aF (Qt l0 x1) (wr (Ug aE v7))))) (pp (xI R4 (Xc .d (cvT (Za aF ([(Uh l0 x2)]:List R6) (Je aE v7))) (cvT (z4a aF l0 x2 aE v7))).length (Zz (Xc .d (cvT (Za aF ([(Uh l0 x2)]:List R6) (Je aE v7))) (cvT (z4a aF l0 x2 aE v7))))) (xw dG))) (tt k5 (pp (pp (xI R4 (Za aF ([(Uh l0 x2)]:List R6) (Je aE v7)).length (Zz (Za aF ([(Uh l0 x2)]:List R6) (Je aE v7)))) (pp (xI R4 (z4a aF l0 x2 aE v7).length (Zz (z4a aF l0 x2 aE v7))) (xw cT))) (tt k4 (tt k3 (pp (pp (xI R6 (rd l0 (tn x2)).s.length (z2a l0 x2)) (xw dC)) (ww cL (pp (pp (xI R6 1 (fun k=>([(ii (rd l0 (tn x2)).a),(ii (rd l0 (tn x2)).b),(ii (rd l0 (tn x2)).c),(ii (rd l0 (tn x2)).d),(ii (rd l0 (tn x2)).e),(ii (rd l0 (tn x2)).f)].drop (k*6)).take 6)) (xw cC)) (ww cL (tt k2 (pp (pp (xI R6 (rd l0 (tn x1)).s.length (z0a l0 x1)) (xw bX)) (tt k1 (ww bC (ww aJ (tt k0 nn))))))))))))))))))) (fun k6=>(sl Wn 141 [] ⟨(List.range 12),[],j2s,j2t⟩ ⟨[],[],[]⟩ (bl 8 5) (pp (fl aE (fl aM nn)) (tt k6 (pp (pp (xI R4 (Za aF (Qt l0 x1) (wr (Ug aE v7))).length (Zz (Za aF (Qt l0 x1) (wr (Ug aE v7))))) (pp (xI R4 (Xc .d (cvT (Za aF ([(Uh l0 x2)]:List R6) (Je aE v7))) (cvT (z4a aF l0 x2 aE v7))).length (Zz (Xc .d (cvT (Za aF ([(Uh l0 x2)]:List R6) (Je aE v7))) (cvT (z4a aF l0 x2 aE v7))))) (xw dG))) (tt k5 (pp (pp (xI R4 (Za aF ([(Uh l0 x2)]:List R6) (Je aE v7)).length (Zz (Za aF ([(Uh l0 x2)]:List R6) (Je aE v7)))) (pp (xI R4 (z4a aF l0 x2 aE v7).length (Zz (z4a aF l0 x2 aE v7))) (xw cT))) (tt k4 (tt k3 (pp (pp (xI R6 (rd l0 (tn x2)).s.length (z2a l0 x2)) (xw dC)) (ww cL (pp (pp (xI R6 1 (fun k=>([(ii (rd l0 (tn x2)).a),(ii (rd l0 (tn x2)).b),(ii (rd l0 (tn x2)).c),(ii (rd l0 (tn x2)).d),(ii (rd l0 (tn x2)).e),(ii (rd l0 (tn x2)).f)].drop (k*6)).take 6)) (xw cC)) (ww cL (tt k2 (pp (pp (xI R6 (rd l0 (tn x1)).s.length (z0a l0 x1)) (xw bX)) (tt k1 (ww bC (ww aJ (tt k0 nn)))))))))))))))))))))))))))))))) (fun k2=>(lr 46 3 [1,1,1,1,0] 1 10 [(6,.nils),(7,(ii (Wx aF (Qt l0 x1) (wr (Ug aE v7)))))] (sl Wn 87 [] ⟨[],[],[some [6,7]],[]⟩ ⟨[],[],[]⟩ (bl 5 25) (yt (v1l k2) (tt k2 (pp (pp (xI R6 (rd l0 (tn x1)).s.length (z0a l0 x1)) (xw bX)) (tt k1 (ww bC (ww aJ (tt k0 nn))))))))))))))))) (fun k0=>(sl Wn 16 [] ⟨[1,2,3,4,5,6,7,11],[],stpN0,stpM0⟩ ⟨[],[],[]⟩ [false] (pp (fl aM nn) (tt k0 nn)))))
 | .h3 v9 v55 v56 v57 bH bZ cA cI aM aQ aF aE=>(lb (fun k0=>(lo fun o0=>(lo fun o1=>(lo fun o2=>(lo fun o3=>(sl Wn 23 [] ⟨[0,1,2,3,4,5,6,7,8,9,10,14],[],j2s,j2t⟩ ⟨[],(kpB 7 [.cells [.len (y9k aM aQ aF v9 v55 v57).length],.keep,.keep,.keep,.rowed 7 (y9k aM aQ aF v9 v55 v57).length (Zz (y9k aM aQ aF v9 v55 v57))]),[]⟩ [true] (pp (xL (aM.length+1) (y9k aM aQ aF v9 v55 v57).length) (pp (xL (aM.length+1) (y9k aM aQ aF v9 v55 v57).length) (pp (xS (aM.length+1) (Zo (Zz aM) 0 aM.length 7 [(.int .u8 (wrap IntKind.u8 aQ)),(ii (y0j aF v9 v55 v57).a),(ii (y0j aF v9 v55 v57).b),(ii (y0j aF v9 v55 v57).c),(ii (y0i aF v9 v55 v57).a),(ii (y0i aF v9 v55 v57).b),(ii (y0i aF v9 v55 v57).c)]) (Zz (y9k aM aQ aF v9 v55 v57))) (pp (fl aE (pp (xF (Zo (Zz aM) 0 aM.length 7 [(.int .u8 (wrap IntKind.u8 aQ)),(ii (y0j aF v9 v55 v57).a),(ii (y0j aF v9 v55 v57).b),(ii (y0j aF v9 v55 v57).c),(ii (y0i aF v9 v55 v57).a),(ii (y0i aF v9 v55 v57).b),(ii (y0i aF v9 v55 v57).c)])) nn)) (ww o3 (ww o2 (ww o1 (ww o0 (tt k0 nn))))))))))))))) (fun k0=>(sl Wn 19 [] ⟨(List.range 12),[],stpN2,stpM2⟩ ⟨[],[],[]⟩ (bl 2 0) (pp (fl aE (fl aM nn)) (tt k0 nn)))))
theorem x8s (l0:List Pa) (x1:Int) (x2:Int):Yt prog (Zy prog 18) (stpC l0 x1 x2) (Zg prog 18 [(.dat l0.length (Zz l0)),(.int .i64 x1),(.int .i64 x2)] true []) (y3o l0 x1 x2):=(lo fun bV=>(lb (fun k0=>(lr 46 18 [1,0,1,1,0,0] 1 10 [(6,.nils),(7,(ii (z1l (cvT l0))))] (sl Wn 26 [] ⟨[],[],[some [6,7]],[]⟩ ⟨[],[],[]⟩ [true] (tt k0 (pp (pp (xr l0) (xw bV)) nn))))) (fun k0=>(lb (fun k1=>(lr 46 18 [1,1,0,1,0,0] 1 10 [(6,.nils),(7,(ii 2))] (sl Wn 54 [] ⟨[],[],[some [6,7]],[]⟩ ⟨[],[],[]⟩ [false,true,true,true,true,true,true,true,true,true,true,true,true,true,true] (tt k1 (tt k0 (pp (pp (xr l0) (xw bV)) nn)))))) (fun k1=>(lb (fun k2=>(lr 46 18 [1,1,0,1,0,0] 1 10 [(6,.nils),(7,(ii 2))] (sl Wn 54 [] ⟨[],[],[some [6,7]],[]⟩ ⟨[],[],[]⟩ [false,false,false,false,false,true,true,true,true,true,true,true,true,true,true] (tt k2 (tt k1 (tt k0 (pp (pp (xr l0) (xw bV)) nn))))))) (fun k2=>(lb (fun k3=>(lr 46 18 [1,1,0,1,0,0] 1 10 [(6,.nils),(7,(ii 2))] (sl Wn 54 [] ⟨[],[],[some [6,7]],[]⟩ ⟨[],[],[]⟩ [false,false,false,false,false,false,false,true,true,true,true,true,true,true,true] (tt k3 (tt k2 (tt k1 (tt k0 (pp (pp (xr l0) (xw bV)) nn)))))))) (fun k3=>(lb (fun k4=>(lr 46 18 [1,1,0,1,0,0] 1 10 [(6,.nils),(7,(ii 2))] (sl Wn 54 [] ⟨[],[],[some [6,7]],[]⟩ ⟨[],[],[]⟩ [false,false,false,false,false,false,false,false,false,false,false,true,true,true,true] (tt k4 (tt k3 (tt k2 (tt k1 (tt k0 (pp (pp (xr l0) (xw bV)) nn))))))))) (fun k4=>(lb (fun k5=>(lr 46 18 [1,1,0,1,0,0] 1 10 [(6,.nils),(7,(ii 2))] (sl Wn 54 [] ⟨[],[],[some [6,7]],[]⟩ ⟨[],[],[]⟩ [false,false,false,false,false,false,false,false,false,false,false,false,false,false,true] (tt k5 (tt k4 (tt k3 (tt k2 (tt k1 (tt k0 (pp (pp (xr l0) (xw bV)) nn)))))))))) (fun k5=>(lo fun o0=>(sl Wn 77 [(96,7,Zz ([]:List R7))] ⟨[2,3,0,1,4,5,6,7],[],stpN0,stpM0⟩ ⟨[],(kpB 6 [.cells [.grow 7 7],.keep]),[]⟩ [false,false,false,false,false,false,false,false,false,false,false,false,false,false,false] (pp (fl ([]:List R7) nn) (ww o0 (tt k5 (tt k4 (tt k3 (tt k2 (tt k1 (tt k0 (pp (pp (xr l0) (xw bV)) nn))))))))))))))))))))))))
theorem u0n (l0:List Pa) (x1:Int) (x2:Int) (n:Nat) (vs:List AVal) (h:Zr (Wb l0 x1 x2) n (y3o l0 x1 x2)=.ret vs):Jy prog (Zy prog 18) (Zg prog 18 [(.dat l0.length (Zz l0)),(.int .i64 x1),(.int .i64 x2)] true []) vs:=by have:=Zd (w7q l0 x1 x2) n _ (x8s l0 x1 x2);rwa [h] at this
theorem j3e (q:Op) (a b:List R6):(z2i q a b).length ≤400:=by
 unfold z2i y8o;rcases Yp (slE q a b != 0) with g | g
 ·grind
 ·rw [g,Aa];have h:slE q a b=0:=by simpa using g
  unfold slE at h;rcases Yp (Zn a != 0) with g1 | g1
  ·grind
  rcases Yp (Zn b != 0) with g2 | g2
  ·grind
  rw [g1,g2,Aa,Aa] at h;unfold eJ at h;revert h;generalize y7o (slA q a b) _ _ _=e;intro h;rcases Yp (e != 0) with g3 | g3;all_goals simp_all [z6h]
theorem x3b (q:Op) (a b:List R4):(Xc q a b).length ≤400:=by
 unfold Xc y8o;rcases Yp (rgE q a b != 0) with g | g
 ·grind
 ·rw [g,Aa];have h:rgE q a b=0:=by simpa using g
  unfold rgE at h;rcases Yp (y0s a != 0) with g1 | g1
  ·grind
  rcases Yp (y0s b != 0) with g2 | g2
  ·grind
  rw [g1,g2,Aa,Aa] at h;unfold eJ at h;revert h;generalize y7o (rgA q a b) _ _ _=e;intro h;rcases Yp (e != 0) with g3 | g3;all_goals simp_all [z6h]
theorem x8d : ∀(l:List Pa) (acc:List R6),acc.length≤400→(whL acc l).length ≤400
 | [],_,h=>h
 | x::r,acc,_=>x8d r _ (j3e .u acc x.s)
theorem j2n (l:List Pa):(Zs l).length ≤400:=by
 grind [Zs,y8o,x8d]
theorem x2m : ∀{l:List Pa},skE l=0→ ∀x∈l,Zn x.s=0
 | [],_,x,hx=>by cases hx
 | y::l,h,x,hx=>by
  unfold skE at h;rcases Yp (Zn y.s != 0) with q | q
  ·rw [q,Ab] at h;rw [h] at q;cases q
  ·rw [q,Aa] at h;rcases AI.1 hx with rfl | hx
   ·simpa using q
   ·exact x2m h x hx
theorem w4w {l:List Pa} (h:z1l l=0):l.length≤50∧skE l=0∧skG l l.length 0=0:=by
 unfold z1l at h
 grind
theorem x2l {l:List Pa} (h:z1l l=0) {i:Nat} (hi:i<l.length):Zn (rd l i).s =0∧(rd l i).s.length ≤400:=by
 grind [x2m,w4w,Yo,z5t]
def dhA (d:Int):Int:=wrap .i64 (Int.tdiv d 2)
def qdA (d a p:Int) (t:R4):R7:=⟨wrap IntKind.u8 d,(z2v a p t.a t.b).a,(z2v a p t.a t.b).b,(z2v a p t.a t.b).c,(z2v a p t.c t.d).a,(z2v a p t.c t.d).b,(z2v a p t.c t.d).c⟩
def Jd (a:Int) (L:List R6):List Int:=L.flatMap fun r=>[y1q a r.a r.b r.c,y1q a r.d r.e r.f]
theorem Jq (a:Int) (L:List R6):(Jd a L).length =2*L.length:=by
 induction L with
 | nil=>rfl
 | cons r l ih=>grind [Jd]
def plA (a:Int) (L:List R6):List Int:=Jn (Jd a L)
theorem z0q (a:Int) (L:List R6):(plA a L).length ≤2*L.length:=by have h1:=Vf (Xp (Jd a L));have h2:=compact_length_le (Xp (Jd a L));rw [Vy,Jq] at h2;exact h2
def y5f (E:Int→Int):List Int→Int
 | []=>0
 | p::r=>bif E p != 0 then E p else y5f E r
def z1b (M:Int→Int→List R4) (d:Int) (ps:List Int):List R7:=ps.flatMap fun p=>(M d p).map (qdA d (dhA d) p)
theorem z7r {M:Int→Int→List R4} (hM: ∀d p,(M d p).length ≤400) (d:Int): ∀ps,(z1b M d ps).length ≤400*ps.length
 | []=>Aq _
 | p::ps=>by have:=z7r hM d ps;have h:=hM d p;show ((M d p).map (qdA d (dhA d) p)++z1b M d ps).length ≤_;rw [AH,Bi,Bb];omega
def v1o (E:Int→Int→Int) (S:List R6):Nat→Nat→Int
 | 0,_=>0
 | k+1,d=>bif y5f (E (d:Int)) (plA (dhA (d:Int)) S) != 0 then y5f (E (d:Int)) (plA (dhA (d:Int)) S) else v1o E S k (d+1)
def z9x (M:Int→Int→List R4) (S:List R6):Nat→Nat→List R7
 | 0,_=>[]
 | k+1,d=>z1b M (d:Int) (plA (dhA (d:Int)) S)++z9x M S k (d+1)
def x8l (E:Int→Int→Int) (M:Int→Int→List R4) (S:List R6):Int:=bif v1o E S 6 0 != 0 then v1o E S 6 0 else bif decide (((z9x M S 6 0).length :Int)>3000) then 4 else 0
def w0y (d p:Int):Int:=bif Int.tmod d 2 == 1 then p else wrap .i64 (p - 1)
def y8t (d p:Int):Int:=bif Int.tmod d 2 == 1 then wrap .i64 (p - 1) else p
theorem x1s {d:Nat} (h:d<6):axO (dhA (d:Int))=true:=by
 have:d=0∨d=1∨d=2∨d=3∨d=4∨d=5:=by omega
 rcases this with rfl | rfl | rfl | rfl | rfl | rfl <;> rfl
def y2e (S A:List R6) (d p:Int):Int:=bif Wx (dhA d) S (w0y d p) == 0 then (bif Wx (dhA d) A (y8t d p) != 0 then Wx (dhA d) A (y8t d p) else Jc .d (Za (dhA d) S (w0y d p)) (Za (dhA d) A (y8t d p))) else Wx (dhA d) S (w0y d p)
def Qf (S A:List R6) (d p:Int):List R4:=Xc .d (Za (dhA d) S (w0y d p)) (Za (dhA d) A (y8t d p))
def y2z (S T:List R6) (b:R6) (d p:Int):Int:=bif Wx (dhA d) S (w0y d p) == 0 then
  (bif Wx (dhA d) [b] (y8t d p) != 0 then 4 else bif Wx (dhA d) T (y8t d p) != 0 then 4 else bif Jc .d (Za (dhA d) [b] (y8t d p)) (Za (dhA d) T (y8t d p)) != 0 then Jc .d (Za (dhA d) [b] (y8t d p)) (Za (dhA d) T (y8t d p)) else
   Jc .e (Za (dhA d) S (w0y d p)) (Xc .d (Za (dhA d) [b] (y8t d p)) (Za (dhA d) T (y8t d p))))
 else Wx (dhA d) S (w0y d p)
def Kz (S T:List R6) (b:R6) (d p:Int):List R4:=Xc .e (Za (dhA d) S (w0y d p)) (Xc .d (Za (dhA d) [b] (y8t d p)) (Za (dhA d) T (y8t d p)))
theorem bif5 {α:Type} (x0 x1 x2 x3 x4:Int) (R:Int→α) (T:α):(bif x0 == 0 then (bif x1 != 0 then R 4 else bif x2 != 0 then R 4 else bif x3 != 0 then R x3 else bif x4 != 0 then R x4 else T) else R x0)=bif (bif x0 == 0 then (bif x1 != 0 then 4 else bif x2 != 0 then 4 else bif x3 != 0 then x3 else x4) else x0) != 0 then R (bif x0 == 0 then (bif x1 != 0 then 4 else bif x2 != 0 then 4 else bif x3 != 0 then x3 else x4) else x0) else T:=by grind
section
variable (l:List Pa) (x1:Int) (hx:0≤x1∧x1<(l.length:Int)) (hS:(rd l x1.toNat).s.length ≤400)
include hx hS
theorem u7p (d:Int) (hd:axO (dhA d)=true) (out:List R7): ∀(k j:Nat) (acc:List Int),j+k=(rd l x1.toNat).s.length →acc=Jd (dhA d) ((rd l x1.toNat).s.take j)→
  ∃n,∀N,Zr (Wd l x1) (N+n) (.to (.h1 acc (j:Int) d (dhA d) (dhA d) out d (dhA d)))=Zr (Wd l x1) N (.to (.h2 (plA (dhA d) (rd l x1.toNat).s).length ((plA (dhA d) (rd l x1.toNat).s).length :Int) 0 d out d (dhA d) (Wu (Xp (Jd (dhA d) (rd l x1.toNat).s)))))
 | 0,j,acc,h,h'=>by
  have _u:=hS;have _v:=hx;have e:acc=Jd (dhA d) (rd l x1.toNat).s :=by grind
  subst e;have hle:=Jq (dhA d) (rd l x1.toNat).s;refine ⟨1,fun N=> ?_⟩;rw [Zw];simp (disch:=omega) only [Wd,Jj,Qv,z7t,Yf,Yv,Yj,Ao,Ab,Aa];rfl
 | k+1,j,acc,h,h'=>by
  have hle:acc.length≤2*j:=by grind [Jq]
  have oA: ∀x y z,Uq (dhA d) x y z=true:=fun _ _ _=>hd;obtain ⟨n,hn⟩:=u7p d hd out k (j+1) (acc++Jd (dhA d) [rd (rd l x1.toNat).s j]) (by omega) (by
   rw [h',AY]
   grind [Yo,Jd])
  refine ⟨n+1,fun N=> ?_⟩;rw [←Ay,Zw,←hn N];simp (disch:=omega) only [Wd,oA,Zc,Zq,Yz,Zt,Yc,Yv,Yj,Zf,Zk,Zx,Yd,Zj,Af,Ao,Ah,Aj,Ab,Aa];rfl
theorem u7n (d:Int) (hd:axO (dhA d)=true) (p:Int) (R:List R4) (hR:R.length≤400) (n5:Nat) (v6 v7:Int) (P:List Int): ∀(k j:Nat) (out:List R7),j+k=R.length→out.length≤10000000+j→
  ∃n,∀N,Zr (Wd l x1) (N+n) (.to (.h3 p R (R.length:Int) (j:Int) n5 v6 v7 d out d (dhA d) P))=Zr (Wd l x1) N (.to (.h2 n5 v6 (wrap .i64 (v7+1)) d (out++(R.drop j).map (qdA d (dhA d) p)) d (dhA d) P))
 | 0,j,out,h,h'=>by
  have _u:=hS;have _v:=hx;refine ⟨1,fun N=> ?_⟩
  grind [Zw,Wd]
 | k+1,j,out,h,h'=>by
  have hj:j<R.length:=by omega
  have oB: ∀x y z,Ki (dhA d) x y z=true:=fun _ _ _=>hd;obtain ⟨n,hn⟩:=u7n d hd p R hR n5 v6 v7 P k (j+1) (out++[qdA d (dhA d) p (rd R j)]) (by omega) (by grind);refine ⟨n+1,fun N=> ?_⟩;rw [Yq hj,AU,←Ay,Zw,show out++qdA d (dhA d) p (rd R j)::(R.drop (j+1)).map (qdA d (dhA d) p)=(out++[qdA d (dhA d) p (rd R j)])++(R.drop (j+1)).map (qdA d (dhA d) p) by simp,←hn N];simp (disch:=omega) only [Wd,oB,Zc,Zq,Yz,Zt,Yc,Yv,Yj,Zf,Zk,Zx,show Nat.beq 7 7=true from rfl,Zj,Af,Ao,Ah,Aj,Ab,Aa];rfl
theorem skn_eS (d:Nat) (hd6:d<6) (i:Nat) (hi:i<(plA (dhA (d:Int)) (rd l x1.toNat).s).length) (out:List R7):Wd l x1 (.h2 (plA (dhA (d:Int)) (rd l x1.toNat).s).length ((plA (dhA (d:Int)) (rd l x1.toNat).s).length :Int) (i:Int) (d:Int) out (d:Int) (dhA (d:Int)) (Wu (Xp (Jd (dhA (d:Int)) (rd l x1.toNat).s))))=bif (y2e (rd l x1.toNat).s (Zs l)) (d:Int) (rd (plA (dhA (d:Int)) (rd l x1.toNat).s) i) != 0 then .ret [.nils,.int .i64 ((y2e (rd l x1.toNat).s (Zs l)) (d:Int) (rd (plA (dhA (d:Int)) (rd l x1.toNat).s) i))] else
   .to (.h3 (rd (plA (dhA (d:Int)) (rd l x1.toNat).s) i) ((Qf (rd l x1.toNat).s (Zs l)) (d:Int) (rd (plA (dhA (d:Int)) (rd l x1.toNat).s) i)) (((Qf (rd l x1.toNat).s (Zs l)) (d:Int) (rd (plA (dhA (d:Int)) (rd l x1.toNat).s) i)).length :Int) ((0:Nat):Int) (plA (dhA (d:Int)) (rd l x1.toNat).s).length ((plA (dhA (d:Int)) (rd l x1.toNat).s).length :Int) (i:Int) (d:Int) out (d:Int) (dhA (d:Int)) (Wu (Xp (Jd (dhA (d:Int)) (rd l x1.toNat).s)))):=by
  have _v:=hx;have hd:=x1s hd6;have hp:=z0q (dhA (d:Int)) (rd l x1.toNat).s;have hpl:(Wu (Xp (Jd (dhA (d:Int)) (rd l x1.toNat).s))).length =2*(rd l x1.toNat).s.length :=by rw [Vf,Vy,Jq]
  have r0:rd (Wu (Xp (Jd (dhA (d:Int)) (rd l x1.toNat).s))) i=rd (plA (dhA (d:Int)) (rd l x1.toNat).s) i:=z5a _ _ hi;have o: ∀L p,L.length≤400→Wz (dhA (d:Int)) L p=true:=fun L p hL=>by
   show (axO (dhA (d:Int))&&decide (L.length≤1000))=true
   grind
  have oS: ∀p,Wz (dhA (d:Int)) (rd l x1.toNat).s p=true:=fun p=>o _ _ hS;have oW: ∀p,Wz (dhA (d:Int)) (Zs l) p=true:=fun p=>o _ _ (j2n l);have ow:Qb l=Qb l:=rfl;have oR: ∀q a b,Vi q a b=true:=fun _ _ _=>rfl;rcases Yp (Int.tmod (d:Int) 2 == 1) with q | q
  ·simp (disch:=omega) only [Wd,q,r0,oS,oW,oR,Zc,Zq,Yz,Zt,Yc,Yv,Yj,Zj,Af,Ao,Ah,Aj,Ab,Aa,y2e,Qf,w0y,y8t]
   grind
  ·simp (disch:=omega) only [Wd,q,r0,oS,oW,oR,Zc,Zq,Yz,Zt,Yc,Yv,Yj,Zj,Af,Ao,Ah,Aj,Ab,Aa,y2e,Qf,w0y,y8t]
   grind
theorem u7o (d:Nat) (hd6:d<6): ∀(k i:Nat) (out:List R7),i+k=(plA (dhA (d:Int)) (rd l x1.toNat).s).length →out.length+400*k≤8000000→
  (y5f ((y2e (rd l x1.toNat).s (Zs l)) (d:Int)) ((plA (dhA (d:Int)) (rd l x1.toNat).s).drop i)=0→ ∃n,∀N,Zr (Wd l x1) (N+n) (.to (.h2 (plA (dhA (d:Int)) (rd l x1.toNat).s).length ((plA (dhA (d:Int)) (rd l x1.toNat).s).length :Int) (i:Int) (d:Int) out (d:Int) (dhA (d:Int)) (Wu (Xp (Jd (dhA (d:Int)) (rd l x1.toNat).s)))))=Zr (Wd l x1) N (.to (.h0 ((d+1:Nat):Int) (out++z1b (Qf (rd l x1.toNat).s (Zs l)) (d:Int) ((plA (dhA (d:Int)) (rd l x1.toNat).s).drop i)))))∧
  ((y5f ((y2e (rd l x1.toNat).s (Zs l)) (d:Int)) ((plA (dhA (d:Int)) (rd l x1.toNat).s).drop i) != 0)=true→ ∃n,∀N,Zr (Wd l x1) (N+n) (.to (.h2 (plA (dhA (d:Int)) (rd l x1.toNat).s).length ((plA (dhA (d:Int)) (rd l x1.toNat).s).length :Int) (i:Int) (d:Int) out (d:Int) (dhA (d:Int)) (Wu (Xp (Jd (dhA (d:Int)) (rd l x1.toNat).s)))))=.ret [.nils,.int .i64 (y5f ((y2e (rd l x1.toNat).s (Zs l)) (d:Int)) ((plA (dhA (d:Int)) (rd l x1.toNat).s).drop i))])
 | 0,i,out,h,h'=>by
  rw [Ar (show (plA (dhA (d:Int)) (rd l x1.toNat).s).length ≤i by omega)];refine ⟨fun _=>⟨1,fun N=> ?_⟩,fun e=>by cases e⟩
  grind [z1b,Zw,Wd,Zk]
 | k+1,i,out,h,h'=>by
  have hi:i<(plA (dhA (d:Int)) (rd l x1.toNat).s).length :=by omega
  have hp:=z0q (dhA (d:Int)) (rd l x1.toNat).s;rw [Yq hi];have eE:y5f ((y2e (rd l x1.toNat).s (Zs l)) (d:Int)) (rd (plA (dhA (d:Int)) (rd l x1.toNat).s) i::(plA (dhA (d:Int)) (rd l x1.toNat).s).drop (i+1))=bif (y2e (rd l x1.toNat).s (Zs l)) (d:Int) (rd (plA (dhA (d:Int)) (rd l x1.toNat).s) i) != 0 then (y2e (rd l x1.toNat).s (Zs l)) (d:Int) (rd (plA (dhA (d:Int)) (rd l x1.toNat).s) i) else y5f ((y2e (rd l x1.toNat).s (Zs l)) (d:Int)) ((plA (dhA (d:Int)) (rd l x1.toNat).s).drop (i+1)):=rfl;have eM:z1b (Qf (rd l x1.toNat).s (Zs l)) (d:Int) (rd (plA (dhA (d:Int)) (rd l x1.toNat).s) i::(plA (dhA (d:Int)) (rd l x1.toNat).s).drop (i+1))=((Qf (rd l x1.toNat).s (Zs l)) (d:Int) (rd (plA (dhA (d:Int)) (rd l x1.toNat).s) i)).map (qdA (d:Int) (dhA (d:Int)) (rd (plA (dhA (d:Int)) (rd l x1.toNat).s) i))++z1b (Qf (rd l x1.toNat).s (Zs l)) (d:Int) ((plA (dhA (d:Int)) (rd l x1.toNat).s).drop (i+1)):=rfl;rw [eE,eM];have eS:=skn_eS l x1 hx hS d hd6 i hi out;rcases Yp ((y2e (rd l x1.toNat).s (Zs l)) (d:Int) (rd (plA (dhA (d:Int)) (rd l x1.toNat).s) i) != 0) with z | z
  ·rw [z,Ab];refine ⟨fun e=>(by grind),fun _=>⟨1,fun N=> ?_⟩⟩
   grind [Zw,Zp]
  ·rw [z,Aa];have hm:((Qf (rd l x1.toNat).s (Zs l)) (d:Int) (rd (plA (dhA (d:Int)) (rd l x1.toNat).s) i)).length ≤400:=x3b _ _ _;obtain ⟨n2,h2⟩:=u7n l x1 hx hS (d:Int) (x1s hd6) (rd (plA (dhA (d:Int)) (rd l x1.toNat).s) i) ((Qf (rd l x1.toNat).s (Zs l)) (d:Int) (rd (plA (dhA (d:Int)) (rd l x1.toNat).s) i)) hm (plA (dhA (d:Int)) (rd l x1.toNat).s).length ((plA (dhA (d:Int)) (rd l x1.toNat).s).length :Int) (i:Int) (Wu (Xp (Jd (dhA (d:Int)) (rd l x1.toNat).s))) ((Qf (rd l x1.toNat).s (Zs l)) (d:Int) (rd (plA (dhA (d:Int)) (rd l x1.toNat).s) i)).length 0 out (Af _) (by omega);rw [AT] at h2;obtain ⟨a1,a2⟩:=u7o d hd6 k (i+1) (out++((Qf (rd l x1.toNat).s (Zs l)) (d:Int) (rd (plA (dhA (d:Int)) (rd l x1.toNat).s) i)).map (qdA (d:Int) (dhA (d:Int)) (rd (plA (dhA (d:Int)) (rd l x1.toNat).s) i))) (by omega) (by grind);have ew:wrap .i64 ((i:Int)+1)=((i+1:Nat):Int):=by grind [Zk]
   have st: ∀N,Zr (Wd l x1) (N+n2+1) (.to (.h2 (plA (dhA (d:Int)) (rd l x1.toNat).s).length ((plA (dhA (d:Int)) (rd l x1.toNat).s).length :Int) (i:Int) (d:Int) out (d:Int) (dhA (d:Int)) (Wu (Xp (Jd (dhA (d:Int)) (rd l x1.toNat).s)))))=Zr (Wd l x1) N (.to (.h2 (plA (dhA (d:Int)) (rd l x1.toNat).s).length ((plA (dhA (d:Int)) (rd l x1.toNat).s).length :Int) ((i+1:Nat):Int) (d:Int) (out++((Qf (rd l x1.toNat).s (Zs l)) (d:Int) (rd (plA (dhA (d:Int)) (rd l x1.toNat).s) i)).map (qdA (d:Int) (dhA (d:Int)) (rd (plA (dhA (d:Int)) (rd l x1.toNat).s) i))) (d:Int) (dhA (d:Int)) (Wu (Xp (Jd (dhA (d:Int)) (rd l x1.toNat).s))))):=fun N=>by
    grind [Zw]
   refine ⟨fun e=> ?_,fun e=> ?_⟩
   ·obtain ⟨n,hn⟩:=a1 e;refine ⟨n+n2+1,fun N=> ?_⟩
    grind
   ·obtain ⟨n,hn⟩:=a2 e;refine ⟨n+n2+1,fun N=> ?_⟩;rw [←hn N,←st (N+n),Ay N,Ay N,Ay n]
theorem u7q : ∀(k d:Nat) (out:List R7),d+k=6→out.length≤400000*d→
  ∃n,Zr (Wd l x1) n (.to (.h0 (d:Int) out))=.ret (z7y (bif v1o (y2e (rd l x1.toNat).s (Zs l)) (rd l x1.toNat).s k d != 0 then v1o (y2e (rd l x1.toNat).s (Zs l)) (rd l x1.toNat).s k d else bif decide (((out++z9x (Qf (rd l x1.toNat).s (Zs l)) (rd l x1.toNat).s k d).length :Int)>3000) then 4 else 0) (out++z9x (Qf (rd l x1.toNat).s (Zs l)) (rd l x1.toNat).s k d))
 | 0,d,out,h,h'=>by refine ⟨1,?_⟩;rw [Zw,show z9x (Qf (rd l x1.toNat).s (Zs l)) (rd l x1.toNat).s 0 d=[] from rfl,AD];simp (disch:=omega) only [Wd,Yf,Aa];show Zr (Wd l x1) 0 _=.ret (z7y (bif decide ((out.length:Int)>3000) then 4 else 0) out);cases decide ((out.length:Int)>3000) <;> rfl
 | k+1,d,out,h,h'=>by
  have hp:=z0q (dhA (d:Int)) (rd l x1.toNat).s;obtain ⟨n1,h1⟩:=u7p l x1 hx hS (d:Int) (x1s (show d<6 by omega)) out (rd l x1.toNat).s.length 0 [] (Af _) rfl;obtain ⟨a1,a2⟩:=u7o l x1 hx hS d (by omega) (plA (dhA (d:Int)) (rd l x1.toNat).s).length 0 out (Af _) (by omega);rw [AT] at a1 a2;have e0:Wd l x1 (.h0 (d:Int) out)=.to (.h1 [] ((0:Nat):Int) (d:Int) (dhA (d:Int)) (dhA (d:Int)) out (d:Int) (dhA (d:Int))):=by simp (disch:=omega) only [Wd,Yz,Ab];rfl
  have eE:v1o (y2e (rd l x1.toNat).s (Zs l)) (rd l x1.toNat).s (k+1) d=bif y5f ((y2e (rd l x1.toNat).s (Zs l)) (d:Int)) (plA (dhA (d:Int)) (rd l x1.toNat).s) != 0 then y5f ((y2e (rd l x1.toNat).s (Zs l)) (d:Int)) (plA (dhA (d:Int)) (rd l x1.toNat).s) else v1o (y2e (rd l x1.toNat).s (Zs l)) (rd l x1.toNat).s k (d+1):=rfl;have eN:z9x (Qf (rd l x1.toNat).s (Zs l)) (rd l x1.toNat).s (k+1) d=z1b (Qf (rd l x1.toNat).s (Zs l)) (d:Int) (plA (dhA (d:Int)) (rd l x1.toNat).s)++z9x (Qf (rd l x1.toNat).s (Zs l)) (rd l x1.toNat).s k (d+1):=rfl;rw [eE,eN];rcases Yp (y5f ((y2e (rd l x1.toNat).s (Zs l)) (d:Int)) (plA (dhA (d:Int)) (rd l x1.toNat).s) != 0) with z | z
  ·obtain ⟨n2,h2⟩:=a2 z;refine ⟨0+n2+n1+1,?_⟩;rw [Zw,e0,h1 (0+n2),z,Ab,Uz _ (by grind),z,Ab];exact h2 0
  ·obtain ⟨n2,h2⟩:=a1 (by simpa using z);have hl:=z7r (M:=(Qf (rd l x1.toNat).s (Zs l))) (fun _ _=>x3b _ _ _) (d:Int) (plA (dhA (d:Int)) (rd l x1.toNat).s);obtain ⟨n3,h3⟩:=u7q k (d+1) (out++z1b (Qf (rd l x1.toNat).s (Zs l)) (d:Int) (plA (dhA (d:Int)) (rd l x1.toNat).s)) (by omega) (by grind);refine ⟨n3+n2+n1+1,?_⟩
   grind [Zw]
end
section
variable (l:List Pa) (x1 x2:Int) (hx:0≤x1∧x1<(l.length:Int)) (hS:(rd l x1.toNat).s.length ≤400) (hy:0≤x2∧x2<(l.length:Int)) (hT:(rd l x2.toNat).s.length ≤400)
include hx hS hy hT
theorem u6t (d:Int) (hd:axO (dhA d)=true) (out:List R7): ∀(k j:Nat) (acc:List Int),j+k=(rd l x1.toNat).s.length →acc=Jd (dhA d) ((rd l x1.toNat).s.take j)→
  ∃n,∀N,Zr (Wb l x1 x2) (N+n) (.to (.h1 acc (j:Int) d (dhA d) (dhA d) out d (dhA d)))=Zr (Wb l x1 x2) N (.to (.h2 (plA (dhA d) (rd l x1.toNat).s).length ((plA (dhA d) (rd l x1.toNat).s).length :Int) 0 d out d (dhA d) (Wu (Xp (Jd (dhA d) (rd l x1.toNat).s)))))
 | 0,j,acc,h,h'=>by
  have _u:=hS;have _v:=hx;have _w:=hy;have _y:=hT;have e:acc=Jd (dhA d) (rd l x1.toNat).s :=by grind
  subst e;have hle:=Jq (dhA d) (rd l x1.toNat).s;refine ⟨1,fun N=> ?_⟩;rw [Zw];simp (disch:=omega) only [Wb,Jj,Qv,z7t,Yf,Yv,Yj,Ao,Ab,Aa];rfl
 | k+1,j,acc,h,h'=>by
  have hle:acc.length≤2*j:=by grind [Jq]
  have oA: ∀x y z,Uq (dhA d) x y z=true:=fun _ _ _=>hd;obtain ⟨n,hn⟩:=u6t d hd out k (j+1) (acc++Jd (dhA d) [rd (rd l x1.toNat).s j]) (by omega) (by
   rw [h',AY]
   grind [Yo,Jd])
  refine ⟨n+1,fun N=> ?_⟩;rw [←Ay,Zw,←hn N];simp (disch:=omega) only [Wb,oA,Zc,Zq,Yz,Zt,Yc,Yv,Yj,Zf,Zk,Zx,Yd,Zj,Af,Ao,Ah,Aj,Ab,Aa];rfl
theorem u6r (d:Int) (hd:axO (dhA d)=true) (p:Int) (R:List R4) (hR:R.length≤400) (n5:Nat) (v6 v7:Int) (P:List Int): ∀(k j:Nat) (out:List R7),j+k=R.length→out.length≤10000000+j→
  ∃n,∀N,Zr (Wb l x1 x2) (N+n) (.to (.h3 p R (R.length:Int) (j:Int) n5 v6 v7 d out d (dhA d) P))=Zr (Wb l x1 x2) N (.to (.h2 n5 v6 (wrap .i64 (v7+1)) d (out++(R.drop j).map (qdA d (dhA d) p)) d (dhA d) P))
 | 0,j,out,h,h'=>by
  have _u:=hS;have _v:=hx;have _w:=hy;have _y:=hT;refine ⟨1,fun N=> ?_⟩
  grind [Zw,Wb]
 | k+1,j,out,h,h'=>by
  have hj:j<R.length:=by omega
  have oB: ∀x y z,Ki (dhA d) x y z=true:=fun _ _ _=>hd;obtain ⟨n,hn⟩:=u6r d hd p R hR n5 v6 v7 P k (j+1) (out++[qdA d (dhA d) p (rd R j)]) (by omega) (by grind);refine ⟨n+1,fun N=> ?_⟩;rw [Yq hj,AU,←Ay,Zw,show out++qdA d (dhA d) p (rd R j)::(R.drop (j+1)).map (qdA d (dhA d) p)=(out++[qdA d (dhA d) p (rd R j)])++(R.drop (j+1)).map (qdA d (dhA d) p) by simp,←hn N];simp (disch:=omega) only [Wb,oB,Zc,Zq,Yz,Zt,Yc,Yv,Yj,Zf,Zk,Zx,show Nat.beq 7 7=true from rfl,Zj,Af,Ao,Ah,Aj,Ab,Aa];rfl
theorem stp_eS (d:Nat) (hd6:d<6) (i:Nat) (hi:i<(plA (dhA (d:Int)) (rd l x1.toNat).s).length) (out:List R7):Wb l x1 x2 (.h2 (plA (dhA (d:Int)) (rd l x1.toNat).s).length ((plA (dhA (d:Int)) (rd l x1.toNat).s).length :Int) (i:Int) (d:Int) out (d:Int) (dhA (d:Int)) (Wu (Xp (Jd (dhA (d:Int)) (rd l x1.toNat).s))))=bif (y2z (rd l x1.toNat).s (rd l x2.toNat).s (bxP (rd l x2.toNat))) (d:Int) (rd (plA (dhA (d:Int)) (rd l x1.toNat).s) i) != 0 then .ret [.nils,.int .i64 ((y2z (rd l x1.toNat).s (rd l x2.toNat).s (bxP (rd l x2.toNat))) (d:Int) (rd (plA (dhA (d:Int)) (rd l x1.toNat).s) i))] else
   .to (.h3 (rd (plA (dhA (d:Int)) (rd l x1.toNat).s) i) ((Kz (rd l x1.toNat).s (rd l x2.toNat).s (bxP (rd l x2.toNat))) (d:Int) (rd (plA (dhA (d:Int)) (rd l x1.toNat).s) i)) (((Kz (rd l x1.toNat).s (rd l x2.toNat).s (bxP (rd l x2.toNat))) (d:Int) (rd (plA (dhA (d:Int)) (rd l x1.toNat).s) i)).length :Int) ((0:Nat):Int) (plA (dhA (d:Int)) (rd l x1.toNat).s).length ((plA (dhA (d:Int)) (rd l x1.toNat).s).length :Int) (i:Int) (d:Int) out (d:Int) (dhA (d:Int)) (Wu (Xp (Jd (dhA (d:Int)) (rd l x1.toNat).s)))):=by
  have _v:=hx;have _w:=hy;have _y:=hT;have hd:=x1s hd6;have hp:=z0q (dhA (d:Int)) (rd l x1.toNat).s;have hpl:(Wu (Xp (Jd (dhA (d:Int)) (rd l x1.toNat).s))).length =2*(rd l x1.toNat).s.length :=by rw [Vf,Vy,Jq]
  have r0:rd (Wu (Xp (Jd (dhA (d:Int)) (rd l x1.toNat).s))) i=rd (plA (dhA (d:Int)) (rd l x1.toNat).s) i:=z5a _ _ hi;have o: ∀L p,L.length≤400→Wz (dhA (d:Int)) L p=true:=fun L p hL=>by
   show (axO (dhA (d:Int))&&decide (L.length≤1000))=true
   grind
  have oS: ∀p,Wz (dhA (d:Int)) (rd l x1.toNat).s p=true:=fun p=>o _ _ hS;have oW: ∀p,Wz (dhA (d:Int)) (rd l x2.toNat).s p=true:=fun p=>o _ _ hT;have oB: ∀p,Wz (dhA (d:Int)) [bxP (rd l x2.toNat)] p=true:=fun p=>o _ _ (show 1≤400 by decide);unfold bxP at oB;have oR: ∀q a b,Vi q a b=true:=fun _ _ _=>rfl;rcases Yp (Int.tmod (d:Int) 2 == 1) with q | q
  ·simp (disch:=omega) only [Wb,q,r0,oS,oW,oB,oR,Zc,Zq,Yz,Zt,Yc,Yv,Yj,Zj,Af,Ao,Ah,Aj,Ab,Aa,y2z,Kz,w0y,y8t];exact bif5 _ _ _ _ _ (fun e=>Xw.ret [.nils,.int .i64 e]) _
  ·simp (disch:=omega) only [Wb,q,r0,oS,oW,oB,oR,Zc,Zq,Yz,Zt,Yc,Yv,Yj,Zj,Af,Ao,Ah,Aj,Ab,Aa,y2z,Kz,w0y,y8t];exact bif5 _ _ _ _ _ (fun e=>Xw.ret [.nils,.int .i64 e]) _
theorem u6s (d:Nat) (hd6:d<6): ∀(k i:Nat) (out:List R7),i+k=(plA (dhA (d:Int)) (rd l x1.toNat).s).length →out.length+400*k≤8000000→
  (y5f ((y2z (rd l x1.toNat).s (rd l x2.toNat).s (bxP (rd l x2.toNat))) (d:Int)) ((plA (dhA (d:Int)) (rd l x1.toNat).s).drop i)=0→ ∃n,∀N,Zr (Wb l x1 x2) (N+n) (.to (.h2 (plA (dhA (d:Int)) (rd l x1.toNat).s).length ((plA (dhA (d:Int)) (rd l x1.toNat).s).length :Int) (i:Int) (d:Int) out (d:Int) (dhA (d:Int)) (Wu (Xp (Jd (dhA (d:Int)) (rd l x1.toNat).s)))))=Zr (Wb l x1 x2) N (.to (.h0 ((d+1:Nat):Int) (out++z1b (Kz (rd l x1.toNat).s (rd l x2.toNat).s (bxP (rd l x2.toNat))) (d:Int) ((plA (dhA (d:Int)) (rd l x1.toNat).s).drop i)))))∧
  ((y5f ((y2z (rd l x1.toNat).s (rd l x2.toNat).s (bxP (rd l x2.toNat))) (d:Int)) ((plA (dhA (d:Int)) (rd l x1.toNat).s).drop i) != 0)=true→ ∃n,∀N,Zr (Wb l x1 x2) (N+n) (.to (.h2 (plA (dhA (d:Int)) (rd l x1.toNat).s).length ((plA (dhA (d:Int)) (rd l x1.toNat).s).length :Int) (i:Int) (d:Int) out (d:Int) (dhA (d:Int)) (Wu (Xp (Jd (dhA (d:Int)) (rd l x1.toNat).s)))))=.ret [.nils,.int .i64 (y5f ((y2z (rd l x1.toNat).s (rd l x2.toNat).s (bxP (rd l x2.toNat))) (d:Int)) ((plA (dhA (d:Int)) (rd l x1.toNat).s).drop i))])
 | 0,i,out,h,h'=>by
  rw [Ar (show (plA (dhA (d:Int)) (rd l x1.toNat).s).length ≤i by omega)];refine ⟨fun _=>⟨1,fun N=> ?_⟩,fun e=>by cases e⟩
  grind [z1b,Zw,Wb,Zk]
 | k+1,i,out,h,h'=>by
  have hi:i<(plA (dhA (d:Int)) (rd l x1.toNat).s).length :=by omega
  have hp:=z0q (dhA (d:Int)) (rd l x1.toNat).s;rw [Yq hi];have eE:y5f ((y2z (rd l x1.toNat).s (rd l x2.toNat).s (bxP (rd l x2.toNat))) (d:Int)) (rd (plA (dhA (d:Int)) (rd l x1.toNat).s) i::(plA (dhA (d:Int)) (rd l x1.toNat).s).drop (i+1))=bif (y2z (rd l x1.toNat).s (rd l x2.toNat).s (bxP (rd l x2.toNat))) (d:Int) (rd (plA (dhA (d:Int)) (rd l x1.toNat).s) i) != 0 then (y2z (rd l x1.toNat).s (rd l x2.toNat).s (bxP (rd l x2.toNat))) (d:Int) (rd (plA (dhA (d:Int)) (rd l x1.toNat).s) i) else y5f ((y2z (rd l x1.toNat).s (rd l x2.toNat).s (bxP (rd l x2.toNat))) (d:Int)) ((plA (dhA (d:Int)) (rd l x1.toNat).s).drop (i+1)):=rfl;have eM:z1b (Kz (rd l x1.toNat).s (rd l x2.toNat).s (bxP (rd l x2.toNat))) (d:Int) (rd (plA (dhA (d:Int)) (rd l x1.toNat).s) i::(plA (dhA (d:Int)) (rd l x1.toNat).s).drop (i+1))=((Kz (rd l x1.toNat).s (rd l x2.toNat).s (bxP (rd l x2.toNat))) (d:Int) (rd (plA (dhA (d:Int)) (rd l x1.toNat).s) i)).map (qdA (d:Int) (dhA (d:Int)) (rd (plA (dhA (d:Int)) (rd l x1.toNat).s) i))++z1b (Kz (rd l x1.toNat).s (rd l x2.toNat).s (bxP (rd l x2.toNat))) (d:Int) ((plA (dhA (d:Int)) (rd l x1.toNat).s).drop (i+1)):=rfl;rw [eE,eM];have eS:=stp_eS l x1 x2 hx hS hy hT d hd6 i hi out;rcases Yp ((y2z (rd l x1.toNat).s (rd l x2.toNat).s (bxP (rd l x2.toNat))) (d:Int) (rd (plA (dhA (d:Int)) (rd l x1.toNat).s) i) != 0) with z | z
  ·rw [z,Ab];refine ⟨fun e=>(by grind),fun _=>⟨1,fun N=> ?_⟩⟩
   grind [Zw,Zp]
  ·rw [z,Aa];have hm:((Kz (rd l x1.toNat).s (rd l x2.toNat).s (bxP (rd l x2.toNat))) (d:Int) (rd (plA (dhA (d:Int)) (rd l x1.toNat).s) i)).length ≤400:=x3b _ _ _;obtain ⟨n2,h2⟩:=u6r l x1 x2 hx hS hy hT (d:Int) (x1s hd6) (rd (plA (dhA (d:Int)) (rd l x1.toNat).s) i) ((Kz (rd l x1.toNat).s (rd l x2.toNat).s (bxP (rd l x2.toNat))) (d:Int) (rd (plA (dhA (d:Int)) (rd l x1.toNat).s) i)) hm (plA (dhA (d:Int)) (rd l x1.toNat).s).length ((plA (dhA (d:Int)) (rd l x1.toNat).s).length :Int) (i:Int) (Wu (Xp (Jd (dhA (d:Int)) (rd l x1.toNat).s))) ((Kz (rd l x1.toNat).s (rd l x2.toNat).s (bxP (rd l x2.toNat))) (d:Int) (rd (plA (dhA (d:Int)) (rd l x1.toNat).s) i)).length 0 out (Af _) (by omega);rw [AT] at h2;obtain ⟨a1,a2⟩:=u6s d hd6 k (i+1) (out++((Kz (rd l x1.toNat).s (rd l x2.toNat).s (bxP (rd l x2.toNat))) (d:Int) (rd (plA (dhA (d:Int)) (rd l x1.toNat).s) i)).map (qdA (d:Int) (dhA (d:Int)) (rd (plA (dhA (d:Int)) (rd l x1.toNat).s) i))) (by omega) (by grind);have ew:wrap .i64 ((i:Int)+1)=((i+1:Nat):Int):=by grind [Zk]
   have st: ∀N,Zr (Wb l x1 x2) (N+n2+1) (.to (.h2 (plA (dhA (d:Int)) (rd l x1.toNat).s).length ((plA (dhA (d:Int)) (rd l x1.toNat).s).length :Int) (i:Int) (d:Int) out (d:Int) (dhA (d:Int)) (Wu (Xp (Jd (dhA (d:Int)) (rd l x1.toNat).s)))))=Zr (Wb l x1 x2) N (.to (.h2 (plA (dhA (d:Int)) (rd l x1.toNat).s).length ((plA (dhA (d:Int)) (rd l x1.toNat).s).length :Int) ((i+1:Nat):Int) (d:Int) (out++((Kz (rd l x1.toNat).s (rd l x2.toNat).s (bxP (rd l x2.toNat))) (d:Int) (rd (plA (dhA (d:Int)) (rd l x1.toNat).s) i)).map (qdA (d:Int) (dhA (d:Int)) (rd (plA (dhA (d:Int)) (rd l x1.toNat).s) i))) (d:Int) (dhA (d:Int)) (Wu (Xp (Jd (dhA (d:Int)) (rd l x1.toNat).s))))):=fun N=>by
    grind [Zw]
   refine ⟨fun e=> ?_,fun e=> ?_⟩
   ·obtain ⟨n,hn⟩:=a1 e;refine ⟨n+n2+1,fun N=> ?_⟩
    grind
   ·obtain ⟨n,hn⟩:=a2 e;refine ⟨n+n2+1,fun N=> ?_⟩;rw [←hn N,←st (N+n),Ay N,Ay N,Ay n]
theorem u6u : ∀(k d:Nat) (out:List R7),d+k=6→out.length≤400000*d→
  ∃n,Zr (Wb l x1 x2) n (.to (.h0 (d:Int) out))=.ret (z7y (bif v1o (y2z (rd l x1.toNat).s (rd l x2.toNat).s (bxP (rd l x2.toNat))) (rd l x1.toNat).s k d != 0 then v1o (y2z (rd l x1.toNat).s (rd l x2.toNat).s (bxP (rd l x2.toNat))) (rd l x1.toNat).s k d else bif decide (((out++z9x (Kz (rd l x1.toNat).s (rd l x2.toNat).s (bxP (rd l x2.toNat))) (rd l x1.toNat).s k d).length :Int)>3000) then 4 else 0) (out++z9x (Kz (rd l x1.toNat).s (rd l x2.toNat).s (bxP (rd l x2.toNat))) (rd l x1.toNat).s k d))
 | 0,d,out,h,h'=>by refine ⟨1,?_⟩;rw [Zw,show z9x (Kz (rd l x1.toNat).s (rd l x2.toNat).s (bxP (rd l x2.toNat))) (rd l x1.toNat).s 0 d=[] from rfl,AD];simp (disch:=omega) only [Wb,Yf,Aa];show Zr (Wb l x1 x2) 0 _=.ret (z7y (bif decide ((out.length:Int)>3000) then 4 else 0) out);cases decide ((out.length:Int)>3000) <;> rfl
 | k+1,d,out,h,h'=>by
  have hp:=z0q (dhA (d:Int)) (rd l x1.toNat).s;obtain ⟨n1,h1⟩:=u6t l x1 x2 hx hS hy hT (d:Int) (x1s (show d<6 by omega)) out (rd l x1.toNat).s.length 0 [] (Af _) rfl;obtain ⟨a1,a2⟩:=u6s l x1 x2 hx hS hy hT d (by omega) (plA (dhA (d:Int)) (rd l x1.toNat).s).length 0 out (Af _) (by omega);rw [AT] at a1 a2;have e0:Wb l x1 x2 (.h0 (d:Int) out)=.to (.h1 [] ((0:Nat):Int) (d:Int) (dhA (d:Int)) (dhA (d:Int)) out (d:Int) (dhA (d:Int))):=by simp (disch:=omega) only [Wb,Yz,Ab];rfl
  have eE:v1o (y2z (rd l x1.toNat).s (rd l x2.toNat).s (bxP (rd l x2.toNat))) (rd l x1.toNat).s (k+1) d=bif y5f ((y2z (rd l x1.toNat).s (rd l x2.toNat).s (bxP (rd l x2.toNat))) (d:Int)) (plA (dhA (d:Int)) (rd l x1.toNat).s) != 0 then y5f ((y2z (rd l x1.toNat).s (rd l x2.toNat).s (bxP (rd l x2.toNat))) (d:Int)) (plA (dhA (d:Int)) (rd l x1.toNat).s) else v1o (y2z (rd l x1.toNat).s (rd l x2.toNat).s (bxP (rd l x2.toNat))) (rd l x1.toNat).s k (d+1):=rfl;have eN:z9x (Kz (rd l x1.toNat).s (rd l x2.toNat).s (bxP (rd l x2.toNat))) (rd l x1.toNat).s (k+1) d=z1b (Kz (rd l x1.toNat).s (rd l x2.toNat).s (bxP (rd l x2.toNat))) (d:Int) (plA (dhA (d:Int)) (rd l x1.toNat).s)++z9x (Kz (rd l x1.toNat).s (rd l x2.toNat).s (bxP (rd l x2.toNat))) (rd l x1.toNat).s k (d+1):=rfl;rw [eE,eN];rcases Yp (y5f ((y2z (rd l x1.toNat).s (rd l x2.toNat).s (bxP (rd l x2.toNat))) (d:Int)) (plA (dhA (d:Int)) (rd l x1.toNat).s) != 0) with z | z
  ·obtain ⟨n2,h2⟩:=a2 z;refine ⟨0+n2+n1+1,?_⟩;rw [Zw,e0,h1 (0+n2),z,Ab,Uz _ (by grind),z,Ab];exact h2 0
  ·obtain ⟨n2,h2⟩:=a1 (by simpa using z);have hl:=z7r (M:=(Kz (rd l x1.toNat).s (rd l x2.toNat).s (bxP (rd l x2.toNat)))) (fun _ _=>x3b _ _ _) (d:Int) (plA (dhA (d:Int)) (rd l x1.toNat).s);obtain ⟨n3,h3⟩:=u6u k (d+1) (out++z1b (Kz (rd l x1.toNat).s (rd l x2.toNat).s (bxP (rd l x2.toNat))) (d:Int) (plA (dhA (d:Int)) (rd l x1.toNat).s)) (by omega) (by grind);refine ⟨n3+n2+n1+1,?_⟩
   grind [Zw]
end
def sknL (l:List Pa) (x:Int):List R7:=z9x (Qf (rd l x.toNat).s (Zs l)) (rd l x.toNat).s 6 0
def Vz (l:List Pa) (x:Int):Int:=bif z1l l != 0 then z1l l else bif decide (x<0)||decide (x≥(l.length:Int)) then 2 else bif Kc l != 0 then Kc l else x8l (y2e (rd l x.toNat).s (Zs l)) (Qf (rd l x.toNat).s (Zs l)) (rd l x.toNat).s
def Yr (l:List Pa) (x:Int):List R7:=y8o (Vz l x) (sknL l x)
def Jw (l:List Pa) (_:Int):Bool:=smP l
theorem j3h (l:List Pa) (x:Int) (h:Jw l x=true): ∃n,Zr (Wd l x) n (y3t l x)=.ret (z7y (Vz l x) (sknL l x)):=by
 have h:smP l=true:=h;have o2:Qb l=true:=An (z4p h);unfold y3t Vz;simp only [Zc,show Qh l=true from h,o2,Ab];rcases Yp (z1l l != 0) with q | q
 ·exact ⟨0,by rw [q,Ab,Ab,Uz _ q];rfl⟩
 by_cases g1:x<0
 ·exact ⟨0,by rw [q,An g1];rfl⟩
 by_cases g2:x≥(l.length:Int)
 ·exact ⟨0,by rw [q,AB g1,An g2];rfl⟩
 rcases Yp (Kc l != 0) with q2 | q2
 ·exact ⟨0,by rw [q,AB g1,AB g2,q2];simp only [Ab,Aa,Bool.or_false];rw [Uz _ q2];rfl⟩
 have hx:0≤x∧x<(l.length:Int):=by omega
 obtain ⟨n,hn⟩:=u7q l x hx (x2l (by simpa using q) (show Int.toNat x<l.length by omega)).2 6 0 [] rfl (AC _)
 grind [x8l,sknL]
def fSkn :List AVal→Option (AVal×Bool)
 | [a0,.int .i64 x1]=>match asL Pa a0 with
  | some (L0,g0,n0)=>some (.tup [.dat (Yr L0 x1).length (Zz (Yr L0 x1)),.int .i64 (Vz L0 x1)],isT Pa n0 g0&&(Jw L0 x1))
  | _=>none
 | _=>none
theorem j7n {S:Specs} (hS:Zu prog S):Zu prog (S.with nSkin fSkn):=by
 refine w6t hS (by kernel_rfl) fun args v h=> ?_;unfold fSkn at h;split at h
 ·rename_i a0 x1;split at h
  ·rename_i L0 g0 n0 e0;simp only [Ad,Ac,Ae] at h;obtain ⟨rfl,ho0,hw⟩:=h;obtain ⟨N,hN⟩:=j3h L0 x1 hw;exact ⟨_,_,(.cons (Yh e0 ho0) (.cons (.refl _) .nil)),z0i _ _,u0z L0 x1 N _ hN,3,z4y _ _⟩
  ·cases h
 ·cases h
def stpL (l:List Pa) (x y:Int):List R7:=z9x (Kz (rd l x.toNat).s (rd l y.toNat).s (bxP (rd l y.toNat))) (rd l x.toNat).s 6 0
def Qc (l:List Pa) (x y:Int):Int:=bif z1l l != 0 then z1l l else bif decide (x<0)||(decide (x≥(l.length:Int))||(decide (y<0)||(decide (y≥(l.length:Int))||(x == y)))) then 2 else x8l (y2z (rd l x.toNat).s (rd l y.toNat).s (bxP (rd l y.toNat))) (Kz (rd l x.toNat).s (rd l y.toNat).s (bxP (rd l y.toNat))) (rd l x.toNat).s
def Wj (l:List Pa) (x y:Int):List R7:=y8o (Qc l x y) (stpL l x y)
def z2h (l:List Pa) (_ _:Int):Bool:=smP l
theorem j2r (l:List Pa) (x y:Int) (h:z2h l x y=true): ∃n,Zr (Wb l x y) n (y3o l x y)=.ret (z7y (Qc l x y) (stpL l x y)):=by
 have h:smP l=true:=h;unfold y3o Qc;simp only [Zc,show Qh l=true from h,Ab];rcases Yp (z1l l != 0) with q | q
 ·exact ⟨0,by rw [q,Ab,Ab,Uz _ q];rfl⟩
 by_cases g1:x<0
 ·exact ⟨0,by rw [q,An g1];rfl⟩
 by_cases g2:x≥(l.length:Int)
 ·exact ⟨0,by rw [q,AB g1,An g2];rfl⟩
 by_cases g3:y<0
 ·exact ⟨0,by rw [q,AB g1,AB g2,An g3];rfl⟩
 by_cases g4:y≥(l.length:Int)
 ·exact ⟨0,by rw [q,AB g1,AB g2,AB g3,An g4];rfl⟩
 rcases Yp (x == y) with q2 | q2
 ·exact ⟨0,by rw [q,AB g1,AB g2,AB g3,AB g4,q2];rfl⟩
 have hx:0≤x∧x<(l.length:Int):=by omega
 have hy:0≤y∧y<(l.length:Int):=by omega
 obtain ⟨n,hn⟩:=u6u l x y hx (x2l (by simpa using q) (show Int.toNat x<l.length by omega)).2 hy (x2l (by simpa using q) (show Int.toNat y<l.length by omega)).2 6 0 [] rfl (AC _)
 grind [x8l,stpL]
def fStp :List AVal→Option (AVal×Bool)
 | [a0,.int .i64 x1,.int .i64 x2]=>match asL Pa a0 with
  | some (L0,g0,n0)=>some (.tup [.dat (Wj L0 x1 x2).length (Zz (Wj L0 x1 x2)),.int .i64 (Qc L0 x1 x2)],isT Pa n0 g0&&(z2h L0 x1 x2))
  | _=>none
 | _=>none
theorem j7k {S:Specs} (hS:Zu prog S):Zu prog (S.with nStep fStp):=by
 refine w6t hS (by kernel_rfl) fun args v h=> ?_;unfold fStp at h;split at h
 ·rename_i a0 x1 x2;split at h
  ·rename_i L0 g0 n0 e0;simp only [Ad,Ac,Ae] at h;obtain ⟨rfl,ho0,hw⟩:=h;obtain ⟨N,hN⟩:=j2r L0 x1 x2 hw;exact ⟨_,_,(.cons (Yh e0 ho0) (.cons (.refl _) (.cons (.refl _) .nil))),z0i _ _,u0n L0 x1 x2 N _ hN,3,z4y _ _⟩
  ·cases h
 ·cases h
def Vg0 :Specs:=((Vc.with nSkin fSkn).with nStep fStp)
theorem Vg0_ok :Zu prog Vg0:=(j7k (j7n Wn))
def eqB (t r:R6):Bool:=(((t.a == r.a)&&((t.b == r.b)&&((t.c == r.c)&&true)))&&(((t.d == r.d)&&((t.e == r.e)&&((t.f == r.f)&&true)))&&true))
def w9l (x y:R6):R6:=y0c x.a x.b x.c x.d x.e x.f y.a y.b y.c y.d y.e y.f
def rvbR (x:R6):Bool:=rvbV x.a x.b x.c x.d x.e x.f
def o6 :R6:=⟨0,0,0,0,0,0⟩
def j5j (l:List Pa) (i:Nat):Bool:= !rvbR (bxP (rd l i))||((rd l i).s.any (fun r=> !eqB (w9l r (bxP (rd l i))) r)||(l.take i).any fun y=> !eqB (w9l (bxP (rd l i)) (bxP y)) o6)
def rkG (l:List Pa):Nat→Nat→Int
 | 0,_=>0
 | k+1,i=>bif j5j l i then 8 else rkG l k (i+1)
def rkE :List Pa→Int
 | []=>0
 | x::r=>bif z1n x.s != 0 then z1n x.s else rkE r
def u9a (l:List Pa):Int:=bif decide (50<l.length) then 4 else bif rkE l != 0 then rkE l else rkG l l.length 0
def z8l (l:List Pa):Bool:=smP l
theorem v2q {l:List Pa} {i j:Nat} (hj:j<i) (hi:i≤l.length):(l.take i).drop j=rd l j::(l.take i).drop (j+1):=by
 have h1:j<(l.take i).length :=by grind
 rw [Bs h1,Bz,Yo (show j<l.length by omega)]
section
variable (l:List Pa) (hl:l.length≤1000)
include hl
theorem u8w (i:Nat) (hi:i<l.length): ∀(k j:Nat),j+k=i→ ∃n,∀N,Zr (Vd l) (N+n) (.to (.h3 (i:Int) (j:Int)))=bif ((l.take i).drop j).any (fun y=> !eqB (w9l (bxP (rd l i)) (bxP y)) o6) then .ret [.int .i64 8] else Zr (Vd l) N (.to (.h1 ((i+1:Nat):Int)))
 | 0,j,h=>by
  refine ⟨1,fun N=> ?_⟩
  grind [Zw,Vd,Zk]
 | k+1,j,h=>by
  have hj:j<i:=by omega
  obtain ⟨n,hn⟩:=u8w i hi k (j+1) (by omega);refine ⟨n+1,fun N=> ?_⟩;rw [←Ay,Zw,v2q hj (by omega),BK];have e:Vd l (.h3 (i:Int) (j:Int))=bif !eqB (w9l (bxP (rd l i)) (bxP (rd l j))) o6 then .ret [.int .i64 8] else .to (.h3 (i:Int) ((j+1:Nat):Int)):=by
   grind [Vd,eqB,w9l,bxP,o6,Zk]
  grind [Zp]
theorem u8x (hs:smP l=true) (i:Nat) (hi:i<l.length): ∀(k j:Nat),j+k=(rd l i).s.length → ∃n,∀N,Zr (Vd l) (N+n) (.to (.h2 (i:Int) (j:Int)))=bif ((rd l i).s.drop j).any (fun r=> !eqB (w9l r (bxP (rd l i))) r)||(l.take i).any (fun y=> !eqB (w9l (bxP (rd l i)) (bxP y)) o6) then .ret [.int .i64 8] else Zr (Vd l) N (.to (.h1 ((i+1:Nat):Int)))
 | 0,j,h=>by obtain ⟨n,hn⟩:=u8w l hl i hi i 0 (by omega);refine ⟨n+1,fun N=> ?_⟩;rw [←Ay,Zw,Ar (by omega)];simp_all [Vd]
 | k+1,j,h=>by
  have hS:=w4r hs hi;have hj:j<(rd l i).s.length :=by omega
  obtain ⟨n,hn⟩:=u8x hs i hi k (j+1) (by omega);refine ⟨n+1,fun N=> ?_⟩;rw [←Ay,Zw,Yq hj,BK];have e:Vd l (.h2 (i:Int) (j:Int))=bif !eqB (w9l (rd (rd l i).s j) (bxP (rd l i))) (rd (rd l i).s j) then .ret [.int .i64 8] else .to (.h2 (i:Int) ((j+1:Nat):Int)):=by simp (disch:=omega) only [Vd,eqB,w9l,bxP,Yz,Zt,Zk,Zx,Zj,Ah,Ab]
  grind [Zp]
theorem u8y (hs:smP l=true): ∀(k i:Nat),i+k=l.length→ ∃n,Zr (Vd l) n (.to (.h1 (i:Int)))=.ret [.int .i64 (rkG l k i)]
 | 0,i,h=>by refine ⟨1,?_⟩;rw [Zw];simp (disch:=omega) only [Vd,Yf,Aa,Zp];rfl
 | k+1,i,h=>by
  have hi:i<l.length:=by omega
  obtain ⟨m,hm⟩:=u8y hs k (i+1) (by omega);obtain ⟨n,hn⟩:=u8x l hl hs i hi (rd l i).s.length 0 (Af _);refine ⟨m+n+1,?_⟩;have e:Vd l (.h1 (i:Int))=bif !rvbR (bxP (rd l i)) then .ret [.int .i64 8] else .to (.h2 (i:Int) ((0:Nat):Int)):=by simp_all [Vd,rvbR,bxP]
  rw [Zw,e];show _=Xw.ret [.int .i64 (bif j5j l i then 8 else rkG l k (i+1))];unfold j5j;rcases Yp (!rvbR (bxP (rd l i))) with q | q;all_goals grind [Zp]
theorem u8z (hs:smP l=true): ∀(k i:Nat),i+k=l.length→ ∃n,Zr (Vd l) n (.to (.h0 (i:Int)))=.ret [.int .i64 (bif rkE (l.drop i) != 0 then rkE (l.drop i) else rkG l l.length 0)]
 | 0,i,h=>by obtain ⟨m,hm⟩:=u8y l hl hs l.length 0 (Af _);refine ⟨m+1,?_⟩;rw [Zw,Ar (by omega)];simp (disch:=omega) only [Vd,Yf,Aa];exact hm
 | k+1,i,h=>by
  have hi:i<l.length:=by omega
  obtain ⟨m,hm⟩:=u8z hs k (i+1) (by omega);refine ⟨m+1,?_⟩;have e:Vd l (.h0 (i:Int))=bif z1n (rd l i).s != 0 then .ret [.int .i64 (z1n (rd l i).s)] else .to (.h0 ((i+1:Nat):Int)):=by
   grind [Vd,Zc,y6l,Zk]
  rw [Zw,e,Yq hi];unfold rkE;rcases Yp (z1n (rd l i).s != 0) with q | q;all_goals grind [Zp]
end
theorem j4k (l:List Pa) (h:z8l l=true): ∃n,Zr (Vd l) n (y4h l)=.ret [.int .i64 (u9a l)]:=by
 have hl:=z4p h;unfold y4h u9a;by_cases g:50<l.length
 ·exact ⟨0,by rw [Xv (by omega),An g];rfl⟩
 ·obtain ⟨n,hn⟩:=u8z l hl h l.length 0 (Af _)
  grind
def fRlc :List AVal→Option (AVal×Bool)
 | [a0]=>match asL Pa a0 with
  | some (L0,g0,n0)=>some (.int .i64 (u9a L0),isT Pa n0 g0&&(z8l L0))
  | _=>none
 | _=>none
theorem j7u {S:Specs} (hS:Zu prog S):Zu prog (S.with nRlc fRlc):=by
 refine z0f hS (by kernel_rfl) fun args v h=> ?_;unfold fRlc at h;split at h
 ·rename_i a0;split at h
  ·rename_i L0 g0 n0 e0;simp only [Ad,Ac,Ae] at h;obtain ⟨rfl,ho0,hw⟩:=h;obtain ⟨N,hN⟩:=j4k L0 hw;exact ⟨_,_,(.cons (Yh e0 ho0) .nil),rfl,u2b L0 N _ hN,3,rfl⟩
  ·cases h
 ·cases h
inductive rtwS where
 | h0 (v3:List Pa) (v4:Int)
def x9o (l0:List Pa):rtwS→Xw rtwS
 | .h0 v3 v4=>(bif (decide (v4<(l0.length:Int))) then (bif ((decide (0≤v4∧v4<(l0.length:Int)))&&true) then (bif (y5o (cvT (rd l0 v4.toNat).s)) then (bif (Nat.beq 7 7&&((decide (0+v3.length=v3.length))&&decide ((v3.length+1+1)*(72+1)≤room))) then (.to (.h0 (v3++[(Pa.mk (rd l0 v4.toNat).a (rd l0 v4.toNat).b (rd l0 v4.toNat).c (rd l0 v4.toNat).d (rd l0 v4.toNat).e (rd l0 v4.toNat).f (twiV (cvT (rd l0 v4.toNat).s)))]) (wrap .i64 (v4+1)))) else .stuck) else .stuck) else .stuck) else (.ret [(.dat v3.length (Zz v3))]))
theorem chg {L:List R2} (h:Can L) {y:Int} (hy:y∈z9w L) (hS:pt L (y - 1)↔pt L y):False:=by
 obtain ⟨s,hs,h1⟩:=AK.1 hy;have hp:=h.pos s hs;have sepL: ∀t∈L,t=s∨t.b<s.a∨s.b<t.a:=fun t ht=>by
  obtain ⟨i,hi,ei⟩:=AN hs;obtain ⟨j,hj,ej⟩:=AN ht;have pw:=AZ.1 h.sep
  grind
 simp only [AI,Bm,BU] at h1;rcases h1 with rfl | rfl
 ·obtain ⟨t,ht,t1,t2⟩:=hS.2 ⟨s,hs,A0 _,hp⟩
  grind
 ·obtain ⟨t,ht,t1,t2⟩:=hS.1 ⟨s,hs,by omega,by omega⟩
  grind
theorem y6s : ∀(l S:List Int),l.Pairwise (· ≠ ·)→(∀x∈l,x∈S)→l.length≤S.length
 | [],S,_,_=>AC _
 | x::l,S,h,hs=>by
  obtain ⟨h1,h2⟩:=AR.1 h;have hx:=hs x (by simp);have:=y6s l (S.erase x) h2 fun y hy=>(List.mem_erase_of_ne (fun e=>h1 y hy e.symm)).2 (hs y (by simp [hy]))
  grind
theorem j2h {a b:List R2} (ha:a.all z1h=true) (hb:b.all z1h=true):(spJ 2 a b).length +(spJ 2 b a).length ≤a.length+b.length:=by
 obtain ⟨c1,p1⟩:=y6a 2 ha hb;obtain ⟨c2,p2⟩:=y6a 2 hb ha;have q1: ∀y,pt (spJ 2 a b) y↔pt a y∧ ¬pt b y:=fun y=>by rw [show pt (spJ 2 a b) y↔_ from p1 y];unfold opB;simp
 have q2: ∀y,pt (spJ 2 b a) y↔pt b y∧ ¬pt a y:=fun y=>by rw [show pt (spJ 2 b a) y↔_ from p2 y];unfold opB;simp
 have f: ∀y:Int,∃z,(z=2*y∧ ¬(pt a (y - 1)↔pt a y))∨(z=2*y+1∧(pt a (y - 1)↔pt a y)):=fun y=>by
  by_cases h:pt a (y - 1)↔pt a y;all_goals simp_all
 have g: ∀y:Int,∃z,(z=2*y+1∧ ¬(pt b (y - 1)↔pt b y))∨(z=2*y∧(pt b (y - 1)↔pt b y)):=fun y=>by
  by_cases h:pt b (y - 1)↔pt b y;all_goals simp_all
 obtain ⟨f,hf⟩:=Classical.axiomOfChoice f;obtain ⟨g,hg⟩:=Classical.axiomOfChoice g;have key:=y6s ((z9w (spJ 2 a b)).map f++(z9w (spJ 2 b a)).map g) ((z9w a).map (2* ·)++(z9w b).map (2* · +1)) (by
  refine Bw.2 ⟨List.pairwise_map.2 ((z9v c1).imp fun {x y} h=> ?_),List.pairwise_map.2 ((z9v c2).imp fun {x y} h=> ?_),?_⟩
  ·grind
  ·grind
  ·intro x hx z hz;obtain ⟨y,hy,rfl⟩:=AP.1 hx;obtain ⟨y',hy',rfl⟩:=AP.1 hz;intro e;have e1:y'=y:=by have:=hf y;have:=hg y';omega
   subst e1;have n1:=chg c1 hy;have n2:=chg c2 hy'
   grind) (by
  intro x hx;rcases AM.1 hx with hx | hx
  ·obtain ⟨y,hy,rfl⟩:=AP.1 hx;have n1:=chg c1 hy
   grind [x3e]
  ·obtain ⟨y,hy,rfl⟩:=AP.1 hx;have n1:=chg c2 hy
   grind [x3e])
 grind [z1x]
theorem y1p : ∀(l m:List Int),l.Pairwise (· < ·)→m.Pairwise (· < ·)→(∀x,x∈l↔x∈m)→l=m
 | [],[],_,_,_=>rfl
 | [],y::m,_,_,h=>by have:=(h y).2 (by simp);cases this
 | x::l,[],_,_,h=>by have:=(h x).1 (by simp);cases this
 | x::l,y::m,hl,hm,h=>by
  obtain ⟨l1,l2⟩:=AR.1 hl;obtain ⟨m1,m2⟩:=AR.1 hm;have e:x=y:=by
   have hx:=(h x).1 (by simp);have hy:=(h y).2 (by simp);rcases AI.1 hx with hx | hx
   ·exact hx
   ·rcases AI.1 hy with hy | hy
    ·exact hy.symm
    ·have:=l1 y hy;have:=m1 x hx;omega
  subst e
  congr 1
  refine y1p l m l2 m2 fun z=>⟨fun hz=> ?_,fun hz=> ?_⟩
  ·have:=l1 z hz;rcases AI.1 ((h z).1 (by simp [hz])) with q | q
   ·omega
   ·exact q
  ·have:=m1 z hz;rcases AI.1 ((h z).2 (by simp [hz])) with q | q
   ·omega
   ·exact q
namespace Dim
variable {α β:Type} {D:Dim α β}
theorem w6x (l:List α):(D.cuts l).Pairwise (· < ·):=by show (Jn (D.ends l)).Pairwise (· < ·);rw [Kh];exact (Wg _).1
theorem u5u (l:List α) (x:Int):x∈D.cuts l↔x∈D.ends l:=by show x∈Jn (D.ends l)↔_;rw [Kh];exact (Wg _).2 x
theorem u5r (l:List α) (x:Int):x∈D.ends l↔ ∃r∈l,x=D.lo r∨x=D.hi r:=by
 induction l with
 | nil=>exact ⟨fun h=>(by cases h),fun ⟨r,h,_⟩=>(by cases h)⟩
 | cons r l ih=>
  show x∈D.lo r::D.hi r::D.ends l↔_
  grind
theorem cuts_comm (a b:List α):D.cuts (a++b)=D.cuts (b++a):=y1p _ _ (w6x _) (w6x _) fun x=>by
 grind [u5u,u5r]
end Dim
theorem u2u {a b:List R4} (ha: ∀r∈a,Uf r=true) (hb: ∀r∈b,Uf r=true):(rgJ 2 a b).length +(rgJ 2 b a).length ≤(a.length+b.length)*(a.length+b.length):=by
 have hv: ∀r∈a++b,D4.lo r<D4.hi r:=fun r hr=>by
  have hv:Uf r=true:=by
   grind
  simp only [Uf,Ae,As] at hv;exact hv.1
 have g1:=D4.goS_length (fun x=>spJ 2 (D4.inn a x) (D4.inn b x)) (D4.cuts (a++b)) ((D4.cuts (a++b)).length - 1) 0 ⟨[],[],0,0⟩;have g2:=D4.goS_length (fun x=>spJ 2 (D4.inn b x) (D4.inn a x)) (D4.cuts (a++b)) ((D4.cuts (a++b)).length - 1) 0 ⟨[],[],0,0⟩;have h2:=D4.open_sum (a++b) hv ((D4.cuts (a++b)).length - 1) (Nat.sub_le _ _);have e1:(rgJ 2 b a).length =(D4.goS (fun x=>spJ 2 (D4.inn b x) (D4.inn a x)) (D4.cuts (a++b)) ((D4.cuts (a++b)).length - 1) 0 ⟨[],[],0,0⟩).out.length :=by unfold rgJ;rw [Dim.cuts_comm b a]
 have e2:(rgJ 2 a b).length =(D4.goS (fun x=>spJ 2 (D4.inn a x) (D4.inn b x)) (D4.cuts (a++b)) ((D4.cuts (a++b)).length - 1) 0 ⟨[],[],0,0⟩).out.length :=rfl;rw [e1,e2];rw [AH] at h2;refine Av (Nat.add_le_add g1 g2) (Av ?_ h2);simp only [List.length_nil,Af];generalize (D4.cuts (a++b)).length - 1=k
 induction k with
 | zero=>grind
 | succ k ih=>rw [BC,Bh,Bh,Bh,By,By,By];have:=j2h (Jt ha (rd (D4.cuts (a++b)) k)) (Jt hb (rd (D4.cuts (a++b)) k));simp only [AU,Bx,BD,List.sum_nil];rw [D4.inn_append,AH];omega
open Go.Proofs Go.Sort Go.Shelf Go.RowKit Go.Lib
def rowQ (P:Int→Int→Bool) (x:Int):Nat→Int→List R4
 | 0,_=>[]
 | k+1,y=>(bif P x y then [⟨x,y,x+1,y+1⟩] else [])++rowQ P x k (y+1)
def gridQ (P:Int→Int→Bool) (m:Nat) (y:Int):Nat→Int→List R4
 | 0,_=>[]
 | k+1,x=>rowQ P x m y++gridQ P m y k (x+1)
def uX (L:List R6) (i:Int):List Int:=bif i == 0 then cu9V L 1 else cu9V L 0
def uY (L:List R6) (i:Int):List Int:=bif i == 0 then cu9V L 2 else bif i == 1 then cu9V L 2 else cu9V L 1
def lastI (xs:List Int):Int:=rd xs (xs.length - 1)
def spanI (xs:List Int):Nat:=(lastI xs - rd xs 0).toNat
def wantQ (m:R6) (a p x y:Int):Bool:=bif eqB m o6 then true else ribV m.a m.b m.c m.d m.e m.f (u3h a p x y).a (u3h a p x y).b (u3h a p x y).c
def condQ (S N:List R6) (m:R6) (a own oth x y:Int):Bool:=wantQ m a oth x y&&(rh6V S (u3h a own x y).a (u3h a own x y).b (u3h a own x y).c && !rh6V N (u3h a oth x y).a (u3h a oth x y).b (u3h a oth x y).c)
def faceQ (S N:List R6) (m:R6) (d p:Int):List R4:=joV 2 (gridQ (condQ S N m (dhA d) (w0y d p) (y8t d p)) (spanI (uY S (dhA d))) (rd (uY S (dhA d)) 0) (spanI (uX S (dhA d))) (rd (uX S (dhA d)) 0)) []
def x6d (S:List R6):Bool:=decide (S.length≤6)&&S.all fun r=>decide (-12≤r.a∧r.a≤12)&&(decide (-12≤r.b∧r.b≤12)&&(decide (-12≤r.c∧r.c≤12)&&(decide (-12≤r.d∧r.d≤12)&&(decide (-12≤r.e∧r.e≤12)&&decide (-12≤r.f∧r.f≤12)))))
open Go.Proofs.Tryz
inductive swoS where
def swoC (l0:List Pa):swoS→Cfg
 :=nofun
def x8m (l0:List Pa):swoS→Xw swoS
 :=nofun
def y3l (l0:List Pa):Xw swoS:=(bif (Qh (cvT l0)) then (bif ((z1l (cvT l0)) != 0) then (.ret [.nils,(.int .i64 (z1l (cvT l0)))]) else (bif (Qb (cvT l0)) then (.ret [(.dat (Zs (cvT l0)).length (Zz (Zs (cvT l0)))),(.int .i64 (Kc (cvT l0)))]) else .stuck)) else .stuck)
theorem w7m (l0:List Pa): ∀s,Yt prog (Zy prog 14) (swoC l0) (swoC l0 s) (x8m l0 s)
 :=nofun
theorem x8n (l0:List Pa):Yt prog (Zy prog 14) (swoC l0) (Zg prog 14 [(.dat l0.length (Zz l0))] true []) (y3l l0):=(lo fun bV=>(lb (fun k0=>(lr 14 14 [1,0,1,1,0,0] 1 14 [(2,.nils),(3,(ii (z1l (cvT l0))))] (sl Wn 24 [] ⟨[],[],[some [2,3]],[]⟩ ⟨[],[],[]⟩ [true] (tt k0 (pp (pp (xr l0) (xw bV)) nn))))) (fun k0=>(lo fun o0=>(lr 14 3 [1,1,1,1,0] 1 14 [(2,(.dat (Zs (cvT l0)).length (Zz (Zs (cvT l0))))),(3,(ii (Kc (cvT l0))))] (sl Wn 28 [] ⟨[],[],[some [2,3]],[]⟩ ⟨[],[],[]⟩ [false] (pp (pp (xr l0) (xw o0)) (tt k0 (pp (pp (xr l0) (xw bV)) nn)))))))))
theorem u0j (l0:List Pa) (n:Nat) (vs:List AVal) (h:Zr (x8m l0) n (y3l l0)=.ret vs):Jy prog (Zy prog 14) (Zg prog 14 [(.dat l0.length (Zz l0))] true []) vs:=by have:=Zd (w7m l0) n _ (x8n l0);rwa [h] at this
def Kb (l:List Pa):Int:=bif z1l l != 0 then z1l l else Kc l
def Xr (l:List Pa):List R6:=y8o (Kb l) (whL [] l)
def Qa (l:List Pa):Bool:=smP l
theorem j2l (l:List Pa) (h:Qa l=true): ∃n,Zr (x8m l) n (y3l l)=.ret (bif z1l l != 0 then [.nils,.int .i64 (z1l l)] else [.dat (Zs l).length (Zz (Zs l)),.int .i64 (Kc l)]):=⟨0,by
 have h:smP l=true:=h;have o2:Qb l=true:=An (z4p h);unfold y3l;simp only [Zc,show Qh l=true from h,o2,Ab];cases z1l l != 0 <;> rfl⟩
def fSwo :List AVal→Option (AVal×Bool)
 | [a0]=>match asL Pa a0 with
  | some (L0,g0,n0)=>some (.tup [.dat (Xr L0).length (Zz (Xr L0)),.int .i64 (Kb L0)],isT Pa n0 g0&&(Qa L0))
  | _=>none
 | _=>none
theorem j2k (l:List Pa) (ρ:Rho) (u:Value) (hu:Yx ρ (Ku (bif z1l l != 0 then [.nils,.int .i64 (z1l l)] else [.dat (Zs l).length (Zz (Zs l)),.int .i64 (Kc l)])) u):Yx ρ (.tup [.dat (Xr l).length (Zz (Xr l)),.int .i64 (Kb l)]) u:=by
 unfold Xr Kb;rcases Yp (z1l l != 0) with q | q
 ·grind [z0i,Uz]
 ·rw [q,Aa] at hu ⊢;exact hu
theorem j7h {S:Specs} (hS:Zu prog S):Zu prog (S.with v6i fSwo):=by
 refine w6t hS (by kernel_rfl) fun args v h=> ?_;unfold fSwo at h;split at h
 ·rename_i a0;split at h
  ·rename_i L0 g0 n0 e0;simp only [Ad,Ac,Ae] at h;obtain ⟨rfl,ho0,hw⟩:=h;obtain ⟨N,hN⟩:=j2l L0 hw;exact ⟨_,_,(.cons (Yh e0 ho0) .nil),j2k L0,u0j L0 N _ hN,3,by cases z1l L0 != 0 <;> rfl⟩
  ·cases h
 ·cases h
theorem twi_id (L:List R6):twiV L=L:=rfl
theorem rtw_h0 (l:List Pa) (hs:smP l=true): ∀(k i:Nat) (acc:List Pa),i+k=l.length→acc=l.take i→ ∃n,Zr (x9o l) n (.to (.h0 acc (i:Int)))=.ret [.dat l.length (Zz l)]
 | 0,i,acc,h,ha=>by
  have hl:=z4p hs;refine ⟨1,?_⟩
  grind [Zw,x9o,Zp]
 | k+1,i,acc,h,ha=>by
  have hl:=z4p hs;have hi:i<l.length:=by omega
  have hS:=w4r hs hi;have hle:acc.length=i:=by grind
  obtain ⟨n,hn⟩:=rtw_h0 l hs k (i+1) (acc++[rd l i]) (by omega) (by
   simp_all [Yo])
  refine ⟨n+1,?_⟩;rw [Zw,←hn]
  congr 1
  have m1:decide (0+acc.length=acc.length)=true:=An (by omega);have b7:Nat.beq 7 7=true:=rfl;have oT:y5o (rd l i).s =true:=An hS;simp (disch:=omega) only [x9o,oT,twi_id,Zc,Yz,Zt,Zf,Zk,Zx,Zj,m1,b7,Ah,Aj,Ab]
def eqP (x y:Pa):Bool:=eqB (bxP x) (bxP y)&&Jf x.s y.s
def rlmF (l m:List Pa):Nat→Nat→Bool
 | 0,_=>true
 | k+1,i=>eqP (rd l i) (rd m i)&&rlmF l m k (i+1)
theorem rlm_h0 (l m:List Pa) (hs:smP l=true) (h6: ∀x∈l,x.s.length≤1000000) (hm:l.length=m.length): ∀(k i:Nat),i+k=l.length→ ∃n,Zr (y6e l m) n (.to (.h0 (i:Int)))=.ret [.bool (rlmF l m k i)]
 | 0,i,h=>by have hl:=z4p hs;refine ⟨1,?_⟩;rw [Zw];simp (disch:=omega) only [y6e,Yf,Aa,Zp];rfl
 | k+1,i,h=>by
  have hl:=z4p hs;have hi:i<l.length:=by omega
  obtain ⟨n,hn⟩:=rlm_h0 l m hs h6 hm k (i+1) (by omega);refine ⟨n+1,?_⟩;have o6': ∀y,Vw (rd l i).s y=true:=fun y=>An (h6 _ (by grind [Yo]));have e:y6e l m (.h0 (i:Int))=bif eqP (rd l i) (rd m i) then .to (.h0 ((i+1:Nat):Int)) else .ret [.bool false]:=by
   unfold eqP;cases q:eqB (bxP (rd l i)) (bxP (rd m i)) with
   | false=>
    grind [eqB,bxP,y6e]
   | true=>
    simp only [eqB,bxP,Ah] at q
    grind [y6e,Zc,Zk]
  grind [Zw,rlmF,Zp]
def nrX (x:Pa):Bool:= !decide ((x.s.length:Int)>6)&&(w1b x.s&&(x7z x.a x.b x.c (-2000000)&&x7z x.d x.e x.f (-2000000)))
def v2e (l:List Pa):Bool:=bif decide ((l.length:Int)>50) then decide ((l.length:Int)≤55) else l.all nrX&&decide ((l.length:Int)≤6)
def z8k (_l:List Pa):Bool:=true
theorem u8v (l:List Pa) (hl:l.length≤50): ∀(k i:Nat),i+k=l.length→ ∃n,Zr (z0u l) n (.to (.h0 (i:Int)))=.ret [.bool ((l.drop i).all nrX&&decide ((l.length:Int)≤6))]
 | 0,i,h=>by
  refine ⟨1,?_⟩
  grind [Zw,z0u,Zp]
 | k +1,i,h=>by
  have hi:i<l.length:=by omega
  obtain ⟨n,hn⟩:=u8v l hl k (i+1) (by omega);refine ⟨n+1,?_⟩;rw [Zw,Yq hi,List.all_cons];have e:z0u l (.h0 (i:Int))=bif nrX (rd l i) then .to (.h0 ((i+1:Nat):Int)) else .ret [.bool false]:=by
   unfold nrX;cases q1:decide (((rd l i).s.length :Int)>6) with
   | true=>grind [z0u]
   | false=>
    cases q2:w1b (rd l i).s with
    | false=>grind [z0u,Qw,Zc]
    | true=>
     cases q3:x7z (rd l i).a (rd l i).b (rd l i).c (-2000000) with
     | false=>grind [z0u,Qw]
     | true=>
      cases q4:x7z (rd l i).d (rd l i).e (rd l i).f (-2000000) with
      | false=>grind [z0u,Qw]
      | true=>grind [z0u,Qw,Zc,Zk]
  grind [Zp]
theorem j4j (l:List Pa) (h:z8k l=true): ∃n,Zr (z0u l) n (y4g l)=.ret [.bool (v2e l)]:=by
 unfold y4g v2e;by_cases g:(l.length:Int)>50
 ·exact ⟨0,by rw [Xv g];rfl⟩
 ·obtain ⟨n,hn⟩:=u8v l (by omega) l.length 0 (Af _)
  grind
def fRln :List AVal→Option (AVal×Bool)
 | [a0]=>match asL Pa a0 with
  | some (L0,g0,n0)=>some (.bool (v2e L0),isT Pa n0 g0&&(z8k L0))
  | _=>none
 | _=>none
theorem j7t {S:Specs} (hS:Zu prog S):Zu prog (S.with nRln fRln):=by
 refine z0f hS (by kernel_rfl) fun args v h=> ?_;unfold fRln at h;split at h
 ·rename_i a0;split at h
  ·rename_i L0 g0 n0 e0;simp only [Ad,Ac,Ae] at h;obtain ⟨rfl,ho0,hw⟩:=h;obtain ⟨N,hN⟩:=j4j L0 hw;exact ⟨_,_,(.cons (Yh e0 ho0) .nil),rfl,u2a L0 N _ hN,3,rfl⟩
  ·cases h
 ·cases h
def a7 (r:R7):Int:=marV r.a r.b r.c r.d r.e r.f r.g
theorem j6f {r:R7} (h0:0≤r.a) (h:u0a r=true):z2o r.a r.b r.c r.d r.e r.f r.g=true:=by
 grind [val7_a,z2o]
theorem owed_a {L:List R7} (h:z0y L=true) {r:R7} (hr:r∈L):0≤r.a:=by
 have:=At.1 h r hr
 grind
def y2l (L:List R7):Int:=bif w9w L != 0 then 0 else wrap .i64 (sm L a7)
def x1b (L:List R7):Int:=w9w L
def z9c (L:List R7):Bool:=z0y L
theorem j1j (L:List R7) (hl:L.length≤3000) (ho: ∀r∈L,0≤r.a∧u0a r=true): ∀(k i:Nat) (S:Int),i+k=L.length→ ∃N,Zr (y1d L) N (.to (.h0 (wrap .i64 S) (i:Int)))=.ret [.int .i64 (wrap .i64 (S+sm (L.drop i) a7)),.int .i64 0]
 | 0,i,S,h=>by
  refine ⟨1,?_⟩
  grind [Zw,u7g,y1d,Zp]
 | k+1,i,S,h=>by
  have hi:i<L.length:=by omega
  obtain ⟨N,hN⟩:=j1j L hl ho k (i+1) (S+a7 (rd L i)) (by omega);refine ⟨N+1,?_⟩;have hm:rd L i∈L:=by grind [Yo]
  have o:=j6f (ho _ hm).1 (ho _ hm).2;have w:wrap .i64 (wrap .i64 S+marV (rd L i).a (rd L i).b (rd L i).c (rd L i).d (rd L i).e (rd L i).f (rd L i).g)=wrap .i64 (S+a7 (rd L i)):=Cg.eq ((Cg.wrap S).add (Cg.refl _))
  grind [Zw,Yq,v3n,y1d,Zk,Zj]
theorem j6k (L:List R7) (h:z9c L=true): ∃N,Zr (y1d L) N (y4t L)=.ret [.int .i64 (y2l L),.int .i64 (x1b L)]:=by
 unfold y4t y2l x1b;simp only [Zc,show z0y L=true from h,Ab];rcases Yp (w9w L != 0) with q1 | q1
 ·exact ⟨0,by simp only [q1,Ab];rfl⟩
 ·have e:w9w L=0:=by grind
  obtain ⟨hl,hv⟩:=u4a e;obtain ⟨N,hN⟩:=j1j L hl (fun r hr=>⟨owed_a h hr,hv r hr⟩) L.length 0 0 (Af _);refine ⟨N,?_⟩;simp only [q1,Aa];rw [e];rw [AT,BO] at hN;exact hN
def fMAr :List AVal→Option (AVal×Bool)
 | [a0]=>match asL R7 a0 with
  | some (L0,g0,n0)=>some (.tup [.int .i64 (y2l L0),.int .i64 (x1b L0)],isT R7 n0 g0&&(z9c L0))
  | _=>none
 | _=>none
theorem j8l {S:Specs} (hS:Zu prog S):Zu prog (S.with j0o fMAr):=by
 refine z0f hS (by kernel_rfl) fun args v h=> ?_;unfold fMAr at h;split at h
 ·rename_i a0;split at h
  ·rename_i L0 g0 n0 e0;simp only [Ad,Ac,Ae] at h;obtain ⟨rfl,ho0,hw⟩:=h;obtain ⟨N,hN⟩:=j6k L0 hw;exact ⟨_,_,(.cons (Yh e0 ho0) .nil),rfl,u4k L0 N _ hN,3,rfl⟩
  ·cases h
 ·cases h
def W2 :Specs:=(((((Vg0.with v6i fSwo).with v6k fRsq).with nRln fRln).with nRlc fRlc).with j0f fSvo).with j0o fMAr
theorem z1d :Zu prog W2:=j8l (j7j (j7u (j7t (v8f (j7h Vg0_ok)))))
abbrev ld4 :List Pa:=[(Pa.mk 0 0 0 2 2 2 ([(R6.mk 0 0 0 2 2 1)]:List R6)),(Pa.mk 2 0 0 4 2 2 ([(R6.mk 2 0 0 4 2 2)]:List R6))]
inductive al4S where
def al4C :al4S→Cfg
 :=nofun
def w3w :al4S→Xw al4S
 :=nofun
def y5m :Xw al4S:=(bif (Qa (cvT ld4)) then (bif (z8a (cvT (Xr (cvT ld4)))) then (bif (z2h (cvT ld4) 1 0) then (bif (z2h (cvT ld4) 0 1) then (bif (Jw (cvT ld4) 0) then (bif (z9c (cvT (Yr (cvT ld4) 0))) then (bif ((Kb (cvT ld4)) == 0) then (bif ((z4m (cvT (Xr (cvT ld4)))) == 0) then (bif ((z3z (cvT (Xr (cvT ld4)))) == 12) then (bif ((Qc (cvT ld4) 1 0) == 0) then (bif (Kd (cvT (Wj (cvT ld4) 1 0)) (cvT ([(R7.mk 1 2 0 1 2 2 2)]:List R7))) then (bif (u1u (cvT (Wj (cvT ld4) 1 0)) (cvT ([(R7.mk 1 2 0 1 2 2 2)]:List R7))) then (bif ((Qc (cvT ld4) 0 1) == 0) then (bif ((((Wj (cvT ld4) 0 1).length :Nat):Int) == 0) then (bif ((Vz (cvT ld4) 0) == 0) then (bif ((x1b (cvT (Yr (cvT ld4) 0))) == 0) then (.ret [(.bool ((y2l (cvT (Yr (cvT ld4) 0))) == 14))]) else (.ret [(.bool false)])) else (.ret [(.bool false)])) else (.ret [(.bool false)])) else (.ret [(.bool false)])) else (.ret [(.bool false)])) else .stuck) else (.ret [(.bool false)])) else (.ret [(.bool false)])) else (.ret [(.bool false)])) else (.ret [(.bool false)])) else .stuck) else .stuck) else .stuck) else .stuck) else .stuck) else .stuck)
theorem v1q : ∀s,Yt prog (Zy prog 24) (al4C) (al4C s) (w3w s)
 :=nofun
theorem w3x :Yt prog (Zy prog 24) (al4C) (Zg prog 24 [] true []) (y5m):=(Xa (sl z1d (C':=⟨⟨86,0,true⟩,(Vm prog 24 [1,0] 1),(Zb prog 24 [1,0] 1),none,(Zy prog 24),⟨Yg [(14,(.sl 0 0 2 (.un 7)))],Vj [⟨[(ii 0),(ii 0),(ii 0),(ii 2),(ii 2),(ii 2),(.dat ([(R6.mk 0 0 0 2 2 1)]:List R6).length (Zz ([(R6.mk 0 0 0 2 2 1)]:List R6))),(ii 2),(ii 0),(ii 0),(ii 4),(ii 2),(ii 2),(.dat ([(R6.mk 2 0 0 4 2 2)]:List R6).length (Zz ([(R6.mk 2 0 0 4 2 2)]:List R6)))],59,none⟩] 0,1,[],true⟩,[],.leaf⟩) 97 [] ⟨[6],[2,5],[some [14]],[]⟩ ⟨[],[.cells [.keep,.keep,.keep,.keep,.keep,.keep,.frz 1 ([(R6.mk 0 0 0 2 2 1)]:List R6).length (Xh [(ii 0),(ii 0),(ii 0),(ii 2),(ii 2),(ii 1)] 0 6) (Zz ([(R6.mk 0 0 0 2 2 1)]:List R6)),.keep,.keep,.keep,.keep,.keep,.keep,.frz 1 ([(R6.mk 2 0 0 4 2 2)]:List R6).length (Xh [(ii 2),(ii 0),(ii 0),(ii 4),(ii 2),(ii 2)] 0 6) (Zz ([(R6.mk 2 0 0 4 2 2)]:List R6))]],[]⟩ [] (pp (xZ (.dat 1 (Xh [(ii 0),(ii 0),(ii 0),(ii 2),(ii 2),(ii 1)] 0 6)) 1 (Xh [(ii 0),(ii 0),(ii 0),(ii 2),(ii 2),(ii 1)] 0 6)) (pp (xL 1 ([(R6.mk 0 0 0 2 2 1)]:List R6).length) (pp (xS 1 (Xh [(ii 0),(ii 0),(ii 0),(ii 2),(ii 2),(ii 1)] 0 6) (Zz ([(R6.mk 0 0 0 2 2 1)]:List R6))) (pp (xZ (.dat 1 (Xh [(ii 2),(ii 0),(ii 0),(ii 4),(ii 2),(ii 2)] 0 6)) 1 (Xh [(ii 2),(ii 0),(ii 0),(ii 4),(ii 2),(ii 2)] 0 6)) (pp (xL 1 ([(R6.mk 2 0 0 4 2 2)]:List R6).length) (pp (xS 1 (Xh [(ii 2),(ii 0),(ii 0),(ii 4),(ii 2),(ii 2)] 0 6) (Zz ([(R6.mk 2 0 0 4 2 2)]:List R6))) nn))))))) (Xa (sl z1d (C':=⟨⟨86,0,true⟩,(Vm prog 24 [1,0] 1),(Zb prog 24 [1,0] 1),none,(Zy prog 24),⟨Yg [(14,(.dat ld4.length (Zz ld4)))],Vj [] 0,0,[],true⟩,[],.leaf⟩) 0 [] ⟨[],[0],[some [14]],[]⟩ ⟨[(14,.frz 2 ld4.length (Xh [(ii 0),(ii 0),(ii 0),(ii 2),(ii 2),(ii 2),(.dat ([(R6.mk 0 0 0 2 2 1)]:List R6).length (Zz ([(R6.mk 0 0 0 2 2 1)]:List R6))),(ii 2),(ii 0),(ii 0),(ii 4),(ii 2),(ii 2),(.dat ([(R6.mk 2 0 0 4 2 2)]:List R6).length (Zz ([(R6.mk 2 0 0 4 2 2)]:List R6)))] 0 7) (Zz ld4))],[],[]⟩ [] (pp (xZ (.dat 2 (Xh [(ii 0),(ii 0),(ii 0),(ii 2),(ii 2),(ii 2),(.dat ([(R6.mk 0 0 0 2 2 1)]:List R6).length (Zz ([(R6.mk 0 0 0 2 2 1)]:List R6))),(ii 2),(ii 0),(ii 0),(ii 4),(ii 2),(ii 2),(.dat ([(R6.mk 2 0 0 4 2 2)]:List R6).length (Zz ([(R6.mk 2 0 0 4 2 2)]:List R6)))] 0 7)) 2 (Xh [(ii 0),(ii 0),(ii 0),(ii 2),(ii 2),(ii 2),(.dat ([(R6.mk 0 0 0 2 2 1)]:List R6).length (Zz ([(R6.mk 0 0 0 2 2 1)]:List R6))),(ii 2),(ii 0),(ii 0),(ii 4),(ii 2),(ii 2),(.dat ([(R6.mk 2 0 0 4 2 2)]:List R6).length (Zz ([(R6.mk 2 0 0 4 2 2)]:List R6)))] 0 7)) (pp (xL 2 ld4.length) (pp (xS 2 (Xh [(ii 0),(ii 0),(ii 0),(ii 2),(ii 2),(ii 2),(.dat ([(R6.mk 0 0 0 2 2 1)]:List R6).length (Zz ([(R6.mk 0 0 0 2 2 1)]:List R6))),(ii 2),(ii 0),(ii 0),(ii 4),(ii 2),(ii 2),(.dat ([(R6.mk 2 0 0 4 2 2)]:List R6).length (Zz ([(R6.mk 2 0 0 4 2 2)]:List R6)))] 0 7) (Zz ld4)) nn)))) (lo fun q0_0=>(lo fun q0_1=>(Xa (sl z1d (C':=⟨⟨86,0,true⟩,(Vm prog 24 [1,1,1,0] 1),(Zb prog 24 [1,1,1,0] 1),none,(Zy prog 24),⟨Yg [(2,(ii (Kb (cvT ld4)))),(3,(ii (z3z (cvT (Xr (cvT ld4)))))),(4,(ii (z4m (cvT (Xr (cvT ld4)))))),(24,(.sl 0 0 2 (.un 7)))],Vj [⟨[(ii 0),(ii 0),(ii 0),(ii 2),(ii 2),(ii 2),(.dat ([(R6.mk 0 0 0 2 2 1)]:List R6).length (Zz ([(R6.mk 0 0 0 2 2 1)]:List R6))),(ii 2),(ii 0),(ii 0),(ii 4),(ii 2),(ii 2),(.dat ([(R6.mk 2 0 0 4 2 2)]:List R6).length (Zz ([(R6.mk 2 0 0 4 2 2)]:List R6)))],59,none⟩] 0,1,[],true⟩,[],.leaf⟩) 110 [] ⟨[6],[2,5],[some [2,3,4,24]],[]⟩ ⟨[],[.cells [.keep,.keep,.keep,.keep,.keep,.keep,.frz 1 ([(R6.mk 0 0 0 2 2 1)]:List R6).length (Xh [(ii 0),(ii 0),(ii 0),(ii 2),(ii 2),(ii 1)] 0 6) (Zz ([(R6.mk 0 0 0 2 2 1)]:List R6)),.keep,.keep,.keep,.keep,.keep,.keep,.frz 1 ([(R6.mk 2 0 0 4 2 2)]:List R6).length (Xh [(ii 2),(ii 0),(ii 0),(ii 4),(ii 2),(ii 2)] 0 6) (Zz ([(R6.mk 2 0 0 4 2 2)]:List R6))]],[]⟩ [] (pp (xZ (.dat 1 (Xh [(ii 0),(ii 0),(ii 0),(ii 2),(ii 2),(ii 1)] 0 6)) 1 (Xh [(ii 0),(ii 0),(ii 0),(ii 2),(ii 2),(ii 1)] 0 6)) (pp (xL 1 ([(R6.mk 0 0 0 2 2 1)]:List R6).length) (pp (xS 1 (Xh [(ii 0),(ii 0),(ii 0),(ii 2),(ii 2),(ii 1)] 0 6) (Zz ([(R6.mk 0 0 0 2 2 1)]:List R6))) (pp (xZ (.dat 1 (Xh [(ii 2),(ii 0),(ii 0),(ii 4),(ii 2),(ii 2)] 0 6)) 1 (Xh [(ii 2),(ii 0),(ii 0),(ii 4),(ii 2),(ii 2)] 0 6)) (pp (xL 1 ([(R6.mk 2 0 0 4 2 2)]:List R6).length) (pp (xS 1 (Xh [(ii 2),(ii 0),(ii 0),(ii 4),(ii 2),(ii 2)] 0 6) (Zz ([(R6.mk 2 0 0 4 2 2)]:List R6))) (pp (pp (xI R6 (Xr (cvT ld4)).length (Zz (Xr (cvT ld4)))) (xw q0_1)) (pp (pp (xI Pa ld4.length (Zz ld4)) (xw q0_0)) nn))))))))) (Xa (sl z1d (C':=⟨⟨86,0,true⟩,(Vm prog 24 [1,1,1,0] 1),(Zb prog 24 [1,1,1,0] 1),none,(Zy prog 24),⟨Yg [(2,(ii (Kb (cvT ld4)))),(3,(ii (z3z (cvT (Xr (cvT ld4)))))),(4,(ii (z4m (cvT (Xr (cvT ld4)))))),(24,(.dat ld4.length (Zz ld4)))],Vj [] 0,0,[],true⟩,[],.leaf⟩) 0 [] ⟨[],[0],[some [2,3,4,24]],[]⟩ ⟨[(24,.frz 2 ld4.length (Xh [(ii 0),(ii 0),(ii 0),(ii 2),(ii 2),(ii 2),(.dat ([(R6.mk 0 0 0 2 2 1)]:List R6).length (Zz ([(R6.mk 0 0 0 2 2 1)]:List R6))),(ii 2),(ii 0),(ii 0),(ii 4),(ii 2),(ii 2),(.dat ([(R6.mk 2 0 0 4 2 2)]:List R6).length (Zz ([(R6.mk 2 0 0 4 2 2)]:List R6)))] 0 7) (Zz ld4))],[],[]⟩ [] (pp (xZ (.dat 2 (Xh [(ii 0),(ii 0),(ii 0),(ii 2),(ii 2),(ii 2),(.dat ([(R6.mk 0 0 0 2 2 1)]:List R6).length (Zz ([(R6.mk 0 0 0 2 2 1)]:List R6))),(ii 2),(ii 0),(ii 0),(ii 4),(ii 2),(ii 2),(.dat ([(R6.mk 2 0 0 4 2 2)]:List R6).length (Zz ([(R6.mk 2 0 0 4 2 2)]:List R6)))] 0 7)) 2 (Xh [(ii 0),(ii 0),(ii 0),(ii 2),(ii 2),(ii 2),(.dat ([(R6.mk 0 0 0 2 2 1)]:List R6).length (Zz ([(R6.mk 0 0 0 2 2 1)]:List R6))),(ii 2),(ii 0),(ii 0),(ii 4),(ii 2),(ii 2),(.dat ([(R6.mk 2 0 0 4 2 2)]:List R6).length (Zz ([(R6.mk 2 0 0 4 2 2)]:List R6)))] 0 7)) (pp (xL 2 ld4.length) (pp (xS 2 (Xh [(ii 0),(ii 0),(ii 0),(ii 2),(ii 2),(ii 2),(.dat ([(R6.mk 0 0 0 2 2 1)]:List R6).length (Zz ([(R6.mk 0 0 0 2 2 1)]:List R6))),(ii 2),(ii 0),(ii 0),(ii 4),(ii 2),(ii 2),(.dat ([(R6.mk 2 0 0 4 2 2)]:List R6).length (Zz ([(R6.mk 2 0 0 4 2 2)]:List R6)))] 0 7) (Zz ld4)) nn)))) (lo fun q0_0=>(Xa (sl z1d (C':=⟨⟨86,0,true⟩,(Vm prog 24 [1,1,1,1,0] 1),(Zb prog 24 [1,1,1,1,0] 1),none,(Zy prog 24),⟨Yg [(2,(ii (Kb (cvT ld4)))),(3,(ii (z3z (cvT (Xr (cvT ld4)))))),(4,(ii (z4m (cvT (Xr (cvT ld4)))))),(5,(.dat (Wj (cvT ld4) 1 0).length (Zz (Wj (cvT ld4) 1 0)))),(6,(ii (Qc (cvT ld4) 1 0))),(29,(.sl 0 0 2 (.un 7)))],Vj [⟨[(ii 0),(ii 0),(ii 0),(ii 2),(ii 2),(ii 2),(.dat ([(R6.mk 0 0 0 2 2 1)]:List R6).length (Zz ([(R6.mk 0 0 0 2 2 1)]:List R6))),(ii 2),(ii 0),(ii 0),(ii 4),(ii 2),(ii 2),(.dat ([(R6.mk 2 0 0 4 2 2)]:List R6).length (Zz ([(R6.mk 2 0 0 4 2 2)]:List R6)))],59,none⟩] 0,1,[],true⟩,[],.leaf⟩) 100 [] ⟨[6],[2,5],[some [2,3,4,5,6,29]],[]⟩ ⟨[],[.cells [.keep,.keep,.keep,.keep,.keep,.keep,.frz 1 ([(R6.mk 0 0 0 2 2 1)]:List R6).length (Xh [(ii 0),(ii 0),(ii 0),(ii 2),(ii 2),(ii 1)] 0 6) (Zz ([(R6.mk 0 0 0 2 2 1)]:List R6)),.keep,.keep,.keep,.keep,.keep,.keep,.frz 1 ([(R6.mk 2 0 0 4 2 2)]:List R6).length (Xh [(ii 2),(ii 0),(ii 0),(ii 4),(ii 2),(ii 2)] 0 6) (Zz ([(R6.mk 2 0 0 4 2 2)]:List R6))]],[]⟩ [] (pp (xZ (.dat 1 (Xh [(ii 0),(ii 0),(ii 0),(ii 2),(ii 2),(ii 1)] 0 6)) 1 (Xh [(ii 0),(ii 0),(ii 0),(ii 2),(ii 2),(ii 1)] 0 6)) (pp (xL 1 ([(R6.mk 0 0 0 2 2 1)]:List R6).length) (pp (xS 1 (Xh [(ii 0),(ii 0),(ii 0),(ii 2),(ii 2),(ii 1)] 0 6) (Zz ([(R6.mk 0 0 0 2 2 1)]:List R6))) (pp (xZ (.dat 1 (Xh [(ii 2),(ii 0),(ii 0),(ii 4),(ii 2),(ii 2)] 0 6)) 1 (Xh [(ii 2),(ii 0),(ii 0),(ii 4),(ii 2),(ii 2)] 0 6)) (pp (xL 1 ([(R6.mk 2 0 0 4 2 2)]:List R6).length) (pp (xS 1 (Xh [(ii 2),(ii 0),(ii 0),(ii 4),(ii 2),(ii 2)] 0 6) (Zz ([(R6.mk 2 0 0 4 2 2)]:List R6))) (pp (pp (xI Pa ld4.length (Zz ld4)) (xw q0_0)) nn)))))))) (Xa (sl z1d (C':=⟨⟨86,0,true⟩,(Vm prog 24 [1,1,1,1,0] 1),(Zb prog 24 [1,1,1,1,0] 1),none,(Zy prog 24),⟨Yg [(2,(ii (Kb (cvT ld4)))),(3,(ii (z3z (cvT (Xr (cvT ld4)))))),(4,(ii (z4m (cvT (Xr (cvT ld4)))))),(5,(.dat (Wj (cvT ld4) 1 0).length (Zz (Wj (cvT ld4) 1 0)))),(6,(ii (Qc (cvT ld4) 1 0))),(29,(.dat ld4.length (Zz ld4)))],Vj [] 0,0,[],true⟩,[],.leaf⟩) 0 [] ⟨[],[0],[some [2,3,4,5,6,29]],[]⟩ ⟨[(29,.frz 2 ld4.length (Xh [(ii 0),(ii 0),(ii 0),(ii 2),(ii 2),(ii 2),(.dat ([(R6.mk 0 0 0 2 2 1)]:List R6).length (Zz ([(R6.mk 0 0 0 2 2 1)]:List R6))),(ii 2),(ii 0),(ii 0),(ii 4),(ii 2),(ii 2),(.dat ([(R6.mk 2 0 0 4 2 2)]:List R6).length (Zz ([(R6.mk 2 0 0 4 2 2)]:List R6)))] 0 7) (Zz ld4))],[],[]⟩ [] (pp (xZ (.dat 2 (Xh [(ii 0),(ii 0),(ii 0),(ii 2),(ii 2),(ii 2),(.dat ([(R6.mk 0 0 0 2 2 1)]:List R6).length (Zz ([(R6.mk 0 0 0 2 2 1)]:List R6))),(ii 2),(ii 0),(ii 0),(ii 4),(ii 2),(ii 2),(.dat ([(R6.mk 2 0 0 4 2 2)]:List R6).length (Zz ([(R6.mk 2 0 0 4 2 2)]:List R6)))] 0 7)) 2 (Xh [(ii 0),(ii 0),(ii 0),(ii 2),(ii 2),(ii 2),(.dat ([(R6.mk 0 0 0 2 2 1)]:List R6).length (Zz ([(R6.mk 0 0 0 2 2 1)]:List R6))),(ii 2),(ii 0),(ii 0),(ii 4),(ii 2),(ii 2),(.dat ([(R6.mk 2 0 0 4 2 2)]:List R6).length (Zz ([(R6.mk 2 0 0 4 2 2)]:List R6)))] 0 7)) (pp (xL 2 ld4.length) (pp (xS 2 (Xh [(ii 0),(ii 0),(ii 0),(ii 2),(ii 2),(ii 2),(.dat ([(R6.mk 0 0 0 2 2 1)]:List R6).length (Zz ([(R6.mk 0 0 0 2 2 1)]:List R6))),(ii 2),(ii 0),(ii 0),(ii 4),(ii 2),(ii 2),(.dat ([(R6.mk 2 0 0 4 2 2)]:List R6).length (Zz ([(R6.mk 2 0 0 4 2 2)]:List R6)))] 0 7) (Zz ld4)) nn)))) (lo fun q0_0=>(Xa (sl z1d (C':=⟨⟨86,0,true⟩,(Vm prog 24 [1,1,1,1,1,0] 1),(Zb prog 24 [1,1,1,1,1,0] 1),none,(Zy prog 24),⟨Yg [(2,(ii (Kb (cvT ld4)))),(3,(ii (z3z (cvT (Xr (cvT ld4)))))),(4,(ii (z4m (cvT (Xr (cvT ld4)))))),(5,(.dat (Wj (cvT ld4) 1 0).length (Zz (Wj (cvT ld4) 1 0)))),(6,(ii (Qc (cvT ld4) 1 0))),(7,(.dat (Wj (cvT ld4) 0 1).length (Zz (Wj (cvT ld4) 0 1)))),(8,(ii (Qc (cvT ld4) 0 1))),(34,(.sl 0 0 2 (.un 7)))],Vj [⟨[(ii 0),(ii 0),(ii 0),(ii 2),(ii 2),(ii 2),(.dat ([(R6.mk 0 0 0 2 2 1)]:List R6).length (Zz ([(R6.mk 0 0 0 2 2 1)]:List R6))),(ii 2),(ii 0),(ii 0),(ii 4),(ii 2),(ii 2),(.dat ([(R6.mk 2 0 0 4 2 2)]:List R6).length (Zz ([(R6.mk 2 0 0 4 2 2)]:List R6)))],59,none⟩] 0,1,[],true⟩,[],.leaf⟩) 100 [] ⟨[6],[2,5],[some [2,3,4,5,6,7,8,34]],[]⟩ ⟨[],[.cells [.keep,.keep,.keep,.keep,.keep,.keep,.frz 1 ([(R6.mk 0 0 0 2 2 1)]:List R6).length (Xh [(ii 0),(ii 0),(ii 0),(ii 2),(ii 2),(ii 1)] 0 6) (Zz ([(R6.mk 0 0 0 2 2 1)]:List R6)),.keep,.keep,.keep,.keep,.keep,.keep,.frz 1 ([(R6.mk 2 0 0 4 2 2)]:List R6).length (Xh [(ii 2),(ii 0),(ii 0),(ii 4),(ii 2),(ii 2)] 0 6) (Zz ([(R6.mk 2 0 0 4 2 2)]:List R6))]],[]⟩ [] (pp (xZ (.dat 1 (Xh [(ii 0),(ii 0),(ii 0),(ii 2),(ii 2),(ii 1)] 0 6)) 1 (Xh [(ii 0),(ii 0),(ii 0),(ii 2),(ii 2),(ii 1)] 0 6)) (pp (xL 1 ([(R6.mk 0 0 0 2 2 1)]:List R6).length) (pp (xS 1 (Xh [(ii 0),(ii 0),(ii 0),(ii 2),(ii 2),(ii 1)] 0 6) (Zz ([(R6.mk 0 0 0 2 2 1)]:List R6))) (pp (xZ (.dat 1 (Xh [(ii 2),(ii 0),(ii 0),(ii 4),(ii 2),(ii 2)] 0 6)) 1 (Xh [(ii 2),(ii 0),(ii 0),(ii 4),(ii 2),(ii 2)] 0 6)) (pp (xL 1 ([(R6.mk 2 0 0 4 2 2)]:List R6).length) (pp (xS 1 (Xh [(ii 2),(ii 0),(ii 0),(ii 4),(ii 2),(ii 2)] 0 6) (Zz ([(R6.mk 2 0 0 4 2 2)]:List R6))) (pp (pp (xI Pa ld4.length (Zz ld4)) (xw q0_0)) nn)))))))) (Xa (sl z1d (C':=⟨⟨86,0,true⟩,(Vm prog 24 [1,1,1,1,1,0] 1),(Zb prog 24 [1,1,1,1,1,0] 1),none,(Zy prog 24),⟨Yg [(2,(ii (Kb (cvT ld4)))),(3,(ii (z3z (cvT (Xr (cvT ld4)))))),(4,(ii (z4m (cvT (Xr (cvT ld4)))))),(5,(.dat (Wj (cvT ld4) 1 0).length (Zz (Wj (cvT ld4) 1 0)))),(6,(ii (Qc (cvT ld4) 1 0))),(7,(.dat (Wj (cvT ld4) 0 1).length (Zz (Wj (cvT ld4) 0 1)))),(8,(ii (Qc (cvT ld4) 0 1))),(34,(.dat ld4.length (Zz ld4)))],Vj [] 0,0,[],true⟩,[],.leaf⟩) 0 [] ⟨[],[0],[some [2,3,4,5,6,7,8,34]],[]⟩ ⟨[(34,.frz 2 ld4.length (Xh [(ii 0),(ii 0),(ii 0),(ii 2),(ii 2),(ii 2),(.dat ([(R6.mk 0 0 0 2 2 1)]:List R6).length (Zz ([(R6.mk 0 0 0 2 2 1)]:List R6))),(ii 2),(ii 0),(ii 0),(ii 4),(ii 2),(ii 2),(.dat ([(R6.mk 2 0 0 4 2 2)]:List R6).length (Zz ([(R6.mk 2 0 0 4 2 2)]:List R6)))] 0 7) (Zz ld4))],[],[]⟩ [] (pp (xZ (.dat 2 (Xh [(ii 0),(ii 0),(ii 0),(ii 2),(ii 2),(ii 2),(.dat ([(R6.mk 0 0 0 2 2 1)]:List R6).length (Zz ([(R6.mk 0 0 0 2 2 1)]:List R6))),(ii 2),(ii 0),(ii 0),(ii 4),(ii 2),(ii 2),(.dat ([(R6.mk 2 0 0 4 2 2)]:List R6).length (Zz ([(R6.mk 2 0 0 4 2 2)]:List R6)))] 0 7)) 2 (Xh [(ii 0),(ii 0),(ii 0),(ii 2),(ii 2),(ii 2),(.dat ([(R6.mk 0 0 0 2 2 1)]:List R6).length (Zz ([(R6.mk 0 0 0 2 2 1)]:List R6))),(ii 2),(ii 0),(ii 0),(ii 4),(ii 2),(ii 2),(.dat ([(R6.mk 2 0 0 4 2 2)]:List R6).length (Zz ([(R6.mk 2 0 0 4 2 2)]:List R6)))] 0 7)) (pp (xL 2 ld4.length) (pp (xS 2 (Xh [(ii 0),(ii 0),(ii 0),(ii 2),(ii 2),(ii 2),(.dat ([(R6.mk 0 0 0 2 2 1)]:List R6).length (Zz ([(R6.mk 0 0 0 2 2 1)]:List R6))),(ii 2),(ii 0),(ii 0),(ii 4),(ii 2),(ii 2),(.dat ([(R6.mk 2 0 0 4 2 2)]:List R6).length (Zz ([(R6.mk 2 0 0 4 2 2)]:List R6)))] 0 7) (Zz ld4)) nn)))) (lo fun bV=>(lo fun dF=>(lb (fun k0=>(lb (fun k1=>(lb (fun k2=>(lb (fun k3=>(Xa (sl z1d (C':=⟨⟨86,0,true⟩,(Vm prog 24 [1,1,1,1,1,1,1,0] 20),(Zb prog 24 [1,1,1,1,1,1,1,0] 1),none,(Zy prog 24),⟨Yg [(7,(.dat (Wj (cvT ld4) 0 1).length (Zz (Wj (cvT ld4) 0 1)))),(8,(ii (Qc (cvT ld4) 0 1))),(10,(ii (Vz (cvT ld4) 0))),(11,(ii (y2l (cvT (Yr (cvT ld4) 0))))),(12,(ii (x1b (cvT (Yr (cvT ld4) 0))))),(57,(.bool true)),(58,(.dat (Wj (cvT ld4) 1 0).length (Zz (Wj (cvT ld4) 1 0)))),(62,(.dat ([(R7.mk 1 2 0 1 2 2 2)]:List R7).length (Zz ([(R7.mk 1 2 0 1 2 2 2)]:List R7))))],Vj [] 0,0,[],true⟩,[],.leaf⟩) 39 [] ⟨[],[0],[some [7,8,10,11,12,57,58,62]],[]⟩ ⟨[(62,.frz 1 ([(R7.mk 1 2 0 1 2 2 2)]:List R7).length (Xh [(.int .u8 1),(ii 2),(ii 0),(ii 1),(ii 2),(ii 2),(ii 2)] 0 7) (Zz ([(R7.mk 1 2 0 1 2 2 2)]:List R7)))],[],[]⟩ (trs 11 []) (pp (xZ (.dat 1 (Xh [(.int .u8 1),(ii 2),(ii 0),(ii 1),(ii 2),(ii 2),(ii 2)] 0 7)) 1 (Xh [(.int .u8 1),(ii 2),(ii 0),(ii 1),(ii 2),(ii 2),(ii 2)] 0 7)) (pp (xL 1 ([(R7.mk 1 2 0 1 2 2 2)]:List R7).length) (pp (xS 1 (Xh [(.int .u8 1),(ii 2),(ii 0),(ii 1),(ii 2),(ii 2),(ii 2)] 0 7) (Zz ([(R7.mk 1 2 0 1 2 2 2)]:List R7))) (tt k3 (tt k2 (tt k1 (tt k0 (pp (pp (xI R7 (Yr (cvT ld4) 0).length (Zz (Yr (cvT ld4) 0))) (xw dF)) (pp (pp (xI Pa ld4.length (Zz ld4)) (xw bV)) nn)))))))))) (lo fun cD=>(lb (fun k4=>(lb (fun k5=>(lb (fun k6=>(lb (fun k7=>(lb (fun k8=>(lr 86 3 [1,1,1,1,0] 1 24 [(0,(.bool ((y2l (cvT (Yr (cvT ld4) 0))) == 14)))] (sl z1d 25 [] ⟨[],[],[some [0]],[]⟩ ⟨[],[],[]⟩ (trs 12 []) (tt k8 (tt k7 (tt k6 (tt k5 (tt k4 (pp (pp (xI R7 (Wj (cvT ld4) 1 0).length (Zz (Wj (cvT ld4) 1 0))) (pp (xI R7 ([(R7.mk 1 2 0 1 2 2 2)]:List R7).length (Zz ([(R7.mk 1 2 0 1 2 2 2)]:List R7))) (xw cD))) nn))))))))) (fun k8=>(lr 86 3 [1,1,1,1,0] 1 24 [(0,(.bool false))] (sl z1d 25 [] ⟨[],[],[some [0]],[]⟩ ⟨[],[],[]⟩ (trs 10 [false,false]) (tt k8 (tt k7 (tt k6 (tt k5 (tt k4 (pp (pp (xI R7 (Wj (cvT ld4) 1 0).length (Zz (Wj (cvT ld4) 1 0))) (pp (xI R7 ([(R7.mk 1 2 0 1 2 2 2)]:List R7).length (Zz ([(R7.mk 1 2 0 1 2 2 2)]:List R7))) (xw cD))) nn))))))))))) (fun k7=>(lr 86 3 [1,1,1,1,0] 1 24 [(0,(.bool false))] (sl z1d 25 [] ⟨[],[],[some [0]],[]⟩ ⟨[],[],[]⟩ (trs 8 [false,false,false,false]) (tt k7 (tt k6 (tt k5 (tt k4 (pp (pp (xI R7 (Wj (cvT ld4) 1 0).length (Zz (Wj (cvT ld4) 1 0))) (pp (xI R7 ([(R7.mk 1 2 0 1 2 2 2)]:List R7).length (Zz ([(R7.mk 1 2 0 1 2 2 2)]:List R7))) (xw cD))) nn)))))))))) (fun k6=>(lr 86 3 [1,1,1,1,0] 1 24 [(0,(.bool false))] (sl z1d 25 [] ⟨[],[],[some [0]],[]⟩ ⟨[],[],[]⟩ (trs 6 [false,false,false,false,false,false]) (tt k6 (tt k5 (tt k4 (pp (pp (xI R7 (Wj (cvT ld4) 1 0).length (Zz (Wj (cvT ld4) 1 0))) (pp (xI R7 ([(R7.mk 1 2 0 1 2 2 2)]:List R7).length (Zz ([(R7.mk 1 2 0 1 2 2 2)]:List R7))) (xw cD))) nn))))))))) (fun k5=>(lr 86 3 [1,1,1,1,0] 1 24 [(0,(.bool false))] (sl z1d 25 [] ⟨[],[],[some [0]],[]⟩ ⟨[],[],[]⟩ (trs 3 [false,false,false,false,false,false,false,false,false]) (tt k5 (tt k4 (pp (pp (xI R7 (Wj (cvT ld4) 1 0).length (Zz (Wj (cvT ld4) 1 0))) (pp (xI R7 ([(R7.mk 1 2 0 1 2 2 2)]:List R7).length (Zz ([(R7.mk 1 2 0 1 2 2 2)]:List R7))) (xw cD))) nn)))))))) (fun k4=>(lr 86 3 [1,1,1,1,0] 1 24 [(0,(.bool false))] (sl z1d 25 [] ⟨[],[],[some [0]],[]⟩ ⟨[],[],[]⟩ [true,false,false,false,false,false,false,false,false,false,false,false] (tt k4 (pp (pp (xI R7 (Wj (cvT ld4) 1 0).length (Zz (Wj (cvT ld4) 1 0))) (pp (xI R7 ([(R7.mk 1 2 0 1 2 2 2)]:List R7).length (Zz ([(R7.mk 1 2 0 1 2 2 2)]:List R7))) (xw cD))) nn))))))))) (fun k3=>(lr 86 3 [1,1,1,1,0] 1 24 [(0,(.bool false))] (sl z1d 64 [] ⟨[],[],[some [0]],[]⟩ ⟨[],[],[]⟩ (trs 6 [false,false,false,false,false,false,false,false,false,false,false,false,false,false,false,false,false]) (tt k3 (tt k2 (tt k1 (tt k0 (pp (pp (xI R7 (Yr (cvT ld4) 0).length (Zz (Yr (cvT ld4) 0))) (xw dF)) (pp (pp (xI Pa ld4.length (Zz ld4)) (xw bV)) nn))))))))))) (fun k2=>(lr 86 3 [1,1,1,1,0] 1 24 [(0,(.bool false))] (sl z1d 64 [] ⟨[],[],[some [0]],[]⟩ ⟨[],[],[]⟩ (trs 4 [false,false,false,false,false,false,false,false,false,false,false,false,false,false,false,false,false,false,false]) (tt k2 (tt k1 (tt k0 (pp (pp (xI R7 (Yr (cvT ld4) 0).length (Zz (Yr (cvT ld4) 0))) (xw dF)) (pp (pp (xI Pa ld4.length (Zz ld4)) (xw bV)) nn)))))))))) (fun k1=>(lr 86 3 [1,1,1,1,0] 1 24 [(0,(.bool false))] (sl z1d 64 [] ⟨[],[],[some [0]],[]⟩ ⟨[],[],[]⟩ [true,true,false,false,false,false,false,false,false,false,false,false,false,false,false,false,false,false,false,false,false,false,false] (tt k1 (tt k0 (pp (pp (xI R7 (Yr (cvT ld4) 0).length (Zz (Yr (cvT ld4) 0))) (xw dF)) (pp (pp (xI Pa ld4.length (Zz ld4)) (xw bV)) nn))))))))) (fun k0=>(lr 86 3 [1,1,1,1,0] 1 24 [(0,(.bool false))] (sl z1d 64 [] ⟨[],[],[some [0]],[]⟩ ⟨[],[],[]⟩ [false,false,false,false,false,false,false,false,false,false,false,false,false,false,false,false,false,false,false,false,false,false,false] (tt k0 (pp (pp (xI R7 (Yr (cvT ld4) 0).length (Zz (Yr (cvT ld4) 0))) (xw dF)) (pp (pp (xI Pa ld4.length (Zz ld4)) (xw bV)) nn)))))))))))))))))))))
theorem u6f (n:Nat) (vs:List AVal) (h:Zr (w3w) n (y5m)=.ret vs):Jy prog (Zy prog 24) (Zg prog 24 [] true []) vs:=by have:=Zd (v1q) n _ (w3x);rwa [h] at this
inductive fi4S where
def fi4C (l0:List Pa):fi4S→Cfg
 :=nofun
def w2t (l0:List Pa):fi4S→Xw fi4S
 :=nofun
def y5d (l0:List Pa):Xw fi4S:=(bif (decide ((l0.length:Int)≤6)) then (bif (z8k (cvT l0)) then (bif (v2e (cvT l0)) then (bif (z8l (cvT l0)) then (.ret [(.bool ((u9a (cvT l0)) == 0))]) else .stuck) else (.ret [(.bool false)])) else .stuck) else (.ret [(.bool false)]))
theorem v0u (l0:List Pa): ∀s,Yt prog (Zy prog 25) (fi4C l0) (fi4C l0 s) (w2t l0 s)
 :=nofun
theorem w2u (l0:List Pa):Yt prog (Zy prog 25) (fi4C l0) (Zg prog 25 [(.dat l0.length (Zz l0))] true []) (y5d l0):=(lb (fun k0=>(lo fun aJ=>(lb (fun k1=>(lo fun o0=>(lr 15 3 [1,1,1,1,0] 1 9 [(2,(.bool ((u9a (cvT l0)) == 0)))] (sl z1d 20 [] ⟨[],[],[some [2]],[]⟩ ⟨[],[],[]⟩ (trs 5 []) (pp (pp (xr l0) (xw o0)) (tt k1 (pp (pp (xr l0) (xw aJ)) (tt k0 nn)))))))) (fun k1=>(lr 15 3 [1,1,1,1,0] 1 9 [(2,(.bool false))] (sl z1d 20 [] ⟨[],[],[some [2]],[]⟩ ⟨[],[],[]⟩ [true,true,false,false,false] (tt k1 (pp (pp (xr l0) (xw aJ)) (tt k0 nn))))))))) (fun k0=>(lr 15 3 [1,1,1,1,0] 1 9 [(2,(.bool false))] (sl z1d 20 [] ⟨[],[],[some [2]],[]⟩ ⟨[],[],[]⟩ [false,false,false,false,false] (tt k0 nn)))))
theorem u5f (l0:List Pa) (n:Nat) (vs:List AVal) (h:Zr (w2t l0) n (y5d l0)=.ret vs):Jy prog (Zy prog 25) (Zg prog 25 [(.dat l0.length (Zz l0))] true []) vs:=by have:=Zd (v0u l0) n _ (w2u l0);rwa [h] at this
def inS (X:List R6) (x y z:Int):Prop:= ∃r∈X,(r.a≤x∧x<r.d)∧(r.b≤y∧y<r.e)∧(r.c≤z∧z<r.f)
theorem z5i (X:List R6) (x y z:Int):inS X x y z↔ptL x5h.inB X (z,x,y):=by
 constructor
 ·rintro ⟨r,hr,h1,h2,h3⟩;exact ⟨r,hr,h3.1,h3.2,h1.1,h1.2,h2.1,h2.2⟩
 ·rintro ⟨r,hr,h1,h2,h3,h4,h5,h6⟩;exact ⟨r,hr,⟨h3,h4⟩,⟨h5,h6⟩,h1,h2⟩
namespace Dim
variable {α β:Type} {D:Dim α β}
theorem j6u (hD:D.Fair) (s:List β) (a b x:Int):D.inn (s.map (D.put a b)) x=if a≤x∧x<b then s else []:=by
 unfold inn;have e:(s.map (D.put a b)).filter (fun r=>decide (D.lo r≤x)&&decide (x<D.hi r))=if a≤x∧x<b then s.map (D.put a b) else []:=by
  split
  ·rename_i h;refine List.filter_eq_self.2 fun r hr=> ?_;obtain ⟨c,_,rfl⟩:=AP.1 hr;rw [hD.lo_put,hD.hi_put,An h.1,An h.2];rfl
  ·rename_i h;refine List.filter_eq_nil_iff.2 fun r hr hq=>h ?_;obtain ⟨c,_,rfl⟩:=AP.1 hr;rw [hD.lo_put,hD.hi_put,Ae] at hq
   grind
 rw [e];split
 ·rw [List.map_map];exact (BI fun c _=>hD.pr_put a b c).trans (List.map_id _)
 ·rfl
theorem inn_can (hD:D.Fair) {γ:Type} (M:Sem β γ) (x:Int): ∀G:List (Qg β),z1k M G→M.can (D.inn (D.flat G) x)
 | [],_=>M.nil
 | g::r,h=>by
  rw [show D.flat (g::r)=g.s.map (D.put g.a g.b)++D.flat r from rfl,D.inn_append,j6u hD];split
  ·rename_i hx;have e:D.inn (D.flat r) x=[]:=by unfold inn;rw [List.map_eq_nil_iff,List.filter_eq_nil_iff];intro a ha hq;obtain ⟨k,hk,ha⟩:=AK.1 ha;obtain ⟨c,_,rfl⟩:=AP.1 ha;rw [hD.lo_put,Ae] at hq;have h1:=Aw hq.1;have:=h.later k hk;omega
   rw [e,AD];exact h.head.2.1
  ·rw [A8];exact inn_can hD M x r h.tail
end Dim
theorem y3w {L:List R6} (hl:L.length≤400) (hv: ∀r∈L,z4g r=true) (hc:x5h.can L):Zn L=0:=by
 have hi: ∀z,D4.out (D6.inn L z)=D6.inn L z:=fun z=>by obtain ⟨h1,h2⟩:=z3f (y1o hv z) (Av (D6.inn_length L z) hl);obtain ⟨G,hG,e⟩:=hc;exact Wr.uniq _ _ h1 (by grind [Dim.inn_can,z7w]) h2
 have hs:Secs L:=fun z=>by rw [hi z];exact Av (D6.inn_length L z) hl
 obtain ⟨h1,h2⟩:=j3b hv hl hs;have e:=x5h.uniq _ _ h1 hc h2;have ok: ∀k i,okF L k i=true:=fun k=>by
  induction k with
  | zero=>intro i;rfl
  | succ k ih=>
   intro i;show (bif Ww (D6.inn L (rd (D6.cuts L) i)) != 0 then false else okF L k (i+1))=true;rw [(z1m (y1o hv _) (Av (D6.inn_length L _) hl) (hs _)).2]
   grind
 grind [Zn,Jf]
theorem j9r {L:List R6} (hc:x5h.can L) (hb: ∀x y z,inS L x y z→(-1000000≤x∧x<1000000)∧(-1000000≤y∧y<1000000)∧(-1000000≤z∧z<1000000)): ∀r∈L,z4g r=true:=fun r hr=>by
 have hp:r.a<r.d∧r.b<r.e∧r.c<r.f:=by obtain ⟨G,hG,e⟩:=hc;rw [e] at hr;obtain ⟨g,hg,hr⟩:=AK.1 hr;obtain ⟨b,hb,rfl⟩:=AP.1 hr;obtain ⟨h1,⟨H,hH,e2⟩,_⟩:=hG.all g hg;rw [e2] at hb;obtain ⟨k,hk,hb⟩:=AK.1 hb;obtain ⟨c,hc,rfl⟩:=AP.1 hb;obtain ⟨h2,h3,_⟩:=hH.all k hk;exact ⟨h2,Can.pos h3 c hc,h1⟩
 have h1:=hb r.a r.b r.c ⟨r,hr,by omega,by omega,by omega⟩;have h2:=hb (r.d - 1) (r.e - 1) (r.f - 1) ⟨r,hr,by omega,by omega,by omega⟩
 grind [x4z,x8k]
open Go.Proofs Go.Sort Go.Shelf Go.RowKit Go.Lib
theorem at_nil (z:Int):atV ([]:List R6) z=[]:=rfl
namespace Dim
variable {α β:Type} (D:Dim α β)
theorem refS (hs: ∀a b,D.same a b=true↔a=b) (sec:Int→List β) (cs:List Int): ∀(k i:Nat) (s:Sw α β) (out:List α) (last:List β) (first:Nat),
  s.out=out→s.last=last→(last≠ []→s.first=first)→(last=[]→out.length≤first)→(0<i→s.fin=rd cs i)→(i=0→last=[])→
  (D.goS sec cs k i s).out =D.ref sec cs k i out last first
 | 0,i,s,out,last,first,h1,h2,h3,h4,h5,h6=>h1
 | k +1,i,s,out,last,first,h1,h2,h3,h4,h5,h6=>by
  subst h1 h2;have e1:D.goS sec cs (k+1) i s=D.goS sec cs k (i+1) (D.oneS (sec (rd cs i)) (rd cs i) (rd cs (i+1)) s):=rfl;rw [e1];unfold ref;rcases Yp (decide (0<(sec (rd cs i)).length)&&((s.fin == rd cs i)&&D.same s.last (sec (rd cs i)))) with q | q
  ·have e:D.oneS (sec (rd cs i)) (rd cs i) (rd cs (i+1)) s=⟨D.grow s.out s.first (rd cs (i+1)),s.last,s.first,rd cs (i+1)⟩:=by unfold oneS;rw [q];rfl
   simp only [Ae,As] at q;obtain ⟨q1,q2,q3⟩:=q;have q3:=(hs _ _).1 q3;have hne:s.last≠ []:=fun h=>by rw [h] at q3;rw [←q3] at q1;exact BS _ q1
   have hi:0<i:=Nat.pos_of_ne_zero fun h=>hne (h6 h);have e2:(decide (0<i)&&D.same (sec (rd cs i)) s.last)=true:=by rw [An hi,Aj,hs,q3]
   rw [e2,Ab,e];refine refS hs sec cs k (i+1) _ _ _ _ ?_ rfl h3 (fun h=>absurd h hne) (fun _=>rfl) (fun h=>by omega);rw [h3 hne]
  ·have e:D.oneS (sec (rd cs i)) (rd cs i) (rd cs (i+1)) s=⟨s.out++(sec (rd cs i)).map (D.put (rd cs i) (rd cs (i+1))),sec (rd cs i),s.out.length,rd cs (i+1)⟩:=by unfold oneS;rw [q];rfl
   rcases Yp (decide (0<i)&&D.same (sec (rd cs i)) s.last) with q2 | q2
   ·rw [q2,Ab,e];simp only [Ae,As] at q2;obtain ⟨hi,q3⟩:=q2;have q3:=(hs _ _).1 q3;rw [(hs s.last (sec (rd cs i))).2 q3.symm,Ah,h5 hi] at q;have hz:sec (rd cs i)=[]:=by
     cases h:sec (rd cs i) with
     | nil=>rfl
     | cons a b=>rw [h] at q;simp at q
    have hl:s.last=[]:=(by rw [←q3,hz]);have hf:=h4 hl;rw [hz,Bx,AD];refine refS hs sec cs k (i+1) _ _ _ _ ?_ hl.symm (fun h=>absurd hl h) (fun _=> ?_) (fun _=>rfl) (fun h=>by omega)
    ·exact (D.grow_nil _ _ _ hf).symm
    ·rw [D.grow_length];exact hf
   ·rw [q2,Aa,e];exact refS hs sec cs k (i+1) _ _ _ _ rfl rfl (fun _=>rfl) (fun h=>by rw [h];simp) (fun _=>rfl) (fun h=>by omega)
theorem refS0 (hs: ∀a b,D.same a b=true↔a=b) (sec:Int→List β) (cs:List Int):D.ref sec cs (cs.length - 1) 0 [] [] 0=(D.goS sec cs (cs.length - 1) 0 ⟨[],[],0,0⟩).out :=
 (D.refS hs sec cs _ 0 _ [] [] 0 rfl rfl (fun _=>rfl) (fun _=>Aq _) (fun h=>absurd h (BS _)) (fun _=>rfl)).symm
end Dim
theorem j3p (l:List R4) (hv:l.all Uf=true) (x:Int):swV (D4.inn l x)=y9y 2 l [] x:=by
 have hin:=D4.inn_length l x;have hvi:(D4.inn l x).all z1h=true:=At.2 fun s hs=>by
  grind [z7k,Uf,z1h]
 obtain ⟨c1,c2⟩:=y0f _ hvi;obtain ⟨y1,y2⟩:=Wg (z1g l++z1g []);have e2:y9y 2 l [] x=y2t (ysV l []) ((ysV l []).map fun y=>z4h l x y):=by
  unfold y9y
  congr 1
  simp_all [v8z]
 obtain ⟨d1,d2⟩:=w7b (ysV l []) y1 (fun y=>z4h l x y) (D4.inn l x) (fun s hs=>by
  obtain ⟨r,hr,_,_,rfl⟩:=z7k hs;unfold ysV;exact ⟨(y2 _).2 (AM.2 (.inl (AK.2 ⟨r,hr,by simp⟩))),(y2 _).2 (AM.2 (.inl (AK.2 ⟨r,hr,by simp⟩)))⟩) (fun y=>by
  unfold z4h;rw [List.any_eq_true];constructor
  ·rintro ⟨r,hr,h⟩;simp only [in4,Ae,As] at h;exact ⟨_,v6w hr h.1 h.2.1,h.2.2.1,h.2.2.2⟩
  ·rintro ⟨s,hs,h1,h2⟩
   grind [z7k,in4])
 grind [w7a]
theorem j2o :swV []=[]:=by
 obtain ⟨h1,h2⟩:=y0f [] rfl;exact y1a z5s h1 fun q hq=>by obtain ⟨s,hs,_⟩:=(h2 q).1 hq;cases hs
theorem jo_sem {l:List R4} (hv: ∀r∈l,Uf r=true):Wr.can (joV 2 l [])∧ ∀p,ptL Wr.inB (joV 2 l []) p↔ptL Wr.inB l p:=by
 have e:joV 2 l []=(D4.goS (fun x=>swV (D4.inn l x)) (D4.cuts (l++[])) ((D4.cuts (l++[])).length - 1) 0 ⟨[],[],0,0⟩).out :=by rw [AD,joV,w6h,←v9y,←Dim.refS0 D4 z8d];simp_all [j3p]
 rw [e];have hs: ∀x,z5s.can (swV (D4.inn l x))∧ ∀y,ptL z5s.inB (swV (D4.inn l x)) y↔ptL z5s.inB (D4.inn l x) y:=fun x=>y0f _ (Jt hv x);obtain ⟨h1,h2⟩:=Dim.goJ_can z2g z8d z5s l [] (fun s _=>swV s) (fun x=>(hs x).1) j2o;refine ⟨h1,fun ⟨x,y⟩=> ?_⟩;rw [show ptL Wr.inB _ (x,y)↔_ from h2 x y,(hs x).2,Dim.pt_inn];rfl
def slJ2 (l:List R6):List R6:=D6.ref (y3a 2 l []) (D6.cuts l) ((D6.cuts l).length - 1) 0 [] [] 0
theorem jo_nil :joV 2 [] []=[]:=rfl
theorem u0y {l:List R6} (hv: ∀r∈l,z4g r=true):x5h.can (slJ2 l)∧ ∀x y z,inS (slJ2 l) x y z↔inS l x y z:=by
 have e:slJ2 l=(D6.goS (fun z=>joV 2 (D6.inn l z) []) (D6.cuts (l++[])) ((D6.cuts (l++[])).length - 1) 0 ⟨[],[],0,0⟩).out :=by rw [AD,←Dim.refS0 D6 z8c];rfl
 rw [e];have hq: ∀z,Wr.can (joV 2 (D6.inn l z) [])∧ ∀p,ptL Wr.inB (joV 2 (D6.inn l z) []) p↔ptL Wr.inB (D6.inn l z) p:=fun z=>jo_sem (y1o hv z);obtain ⟨h1,h2⟩:=Dim.goJ_can z7w z8c Wr l [] (fun s _=>joV 2 s []) (fun x=>(hq x).1) jo_nil;refine ⟨h1,fun x y z=> ?_⟩;rw [z5i,z5i,show ptL x5h.inB _ (z,x,y)↔_ from h2 z (x,y),(hq z).2,Dim.pt_inn];rfl
theorem u6l (a b:List R4):xsV a b=xsV (a++b) []:=by
 grind [xsV,z2z]
theorem ys_app (a b:List R4):ysV a b=ysV (a++b) []:=by
 grind [ysV,z1g]
theorem j3q (a b:List R4) (x:Int):y9y 2 a b x=y9y 2 (a++b) [] x:=by
 unfold y9y;rw [ys_app]
 congr 1
 simp_all [u0f,y2p,z4h]
theorem v7d (a b:List R4): ∀(k i:Nat) (out:List R4) (last:List R2) (first:Nat),jF 2 a b k i out last first=jF 2 (a++b) [] k i out last first
 | 0,_,_,_,_=>rfl
 | k+1,i,out,last,first=>by unfold jF;rw [u6l,j3q,v7d a b k,v7d a b k]
theorem jo_app (a b:List R4):joV 2 a b=joV 2 (a++b) []:=by unfold joV;rw [u6l,v7d]
theorem at_app (a b:List R6) (z:Int):atV (a++b) z=atV a z++atV b z:=by
 grind [atV]
theorem u1c (a b:List R6) (z:Int):y3a 2 a b z=y3a 2 (a++b) [] z:=by
 grind [y3a,jo_app,at_app,at_nil]
theorem v8t (a b:List R6):Vq a b=D6.cuts (a++b):=by
 grind [w4l,Vq,z2y]
def okJ (a b:List R6):Nat→Nat→Bool
 | 0,_=>true
 | k+1,i=>bif z9b 2 a b (rd (D6.cuts (a++b)) i) then false else okJ a b k (i+1)
theorem j6p (a b:List R6): ∀(k i:Nat) (out:List R6) (last:List R4) (first:Nat),jsF 2 a b k i out last first=bif okJ a b k i then some (D6.ref (y3a 2 (a++b) []) (D6.cuts (a++b)) k i out last first) else none
 | 0,_,_,_,_=>rfl
 | k+1,i,out,last,first=>by
  unfold jsF okJ Dim.ref;rw [v8t];rcases Yp (z9b 2 a b (rd (D6.cuts (a++b)) i)) with q | q
  ·rw [q];rfl
  ·rw [q,Aa,Aa,u1c,j6p a b k,j6p a b k];have e:D6.same (y3a 2 (a++b) [] (rd (D6.cuts (a++b)) i)) last=Ur (y3a 2 (a++b) [] (rd (D6.cuts (a++b)) i)) last:=rfl;rw [e];cases (decide (0<i)&&Ur (y3a 2 (a++b) [] (rd (D6.cuts (a++b)) i)) last) <;> rfl
theorem jsO_J (a b:List R6):jsO 2 a b=bif okJ a b ((D6.cuts (a++b)).length - 1) 0 then some (slJ2 (a++b)) else none:=by unfold jsO;rw [j6p,v8t];rfl
theorem j6o {a b:List R6} (h:y8w 2 a b=true):z5h 2 a b=slJ2 (a++b)∧(slJ2 (a++b)).length ≤400:=by
 unfold y8w at h;unfold z5h;rw [jsO_J] at h ⊢
 grind
theorem w2h (l:List R6) (x y z:Int):ptL Wr.inB (D6.inn l z) (x,y)↔inS l x y z:=by rw [z5i,Dim.pt_inn];rfl
open Go.Proofs Go.Sort Go.Shelf Go.RowKit Go.Lib
def stG {β:Type}:List (Qg β)→List Int
 | []=>[]
 | [g]=>[g.a,g.b]
 | g::h::r=>g.a::stG (h::r)
theorem v3b {β:Type}: ∀G:List (Qg β),G≠ []→(stG G).length =G.length+1
 | [],h=>absurd rfl h
 | [g],_=>rfl
 | g::h::r,_=>by show (stG (h::r)).length +1=_;rw [v3b (h::r) (by simp)];rfl
section
variable {β γ:Type} {M:Sem β γ}
def chG (M:Sem β γ) (G:List (Qg β)) (x:Int):Prop:= ∃q,¬(ptG M G (x - 1) q↔ptG M G x q)
theorem x8w : ∀(g:Qg β) (r:List (Qg β)),z1k M (g::r)→ ∀x∈stG (g::r),g.a≤x
 | g,[],h,x,hx=>by
  have:=h.head.1;have hx:x∈ [g.a,g.b]:=hx
  grind
 | g,k::r,h,x,hx=>by
  have hx:x∈g.a::stG (k::r):=hx;rcases AI.1 hx with rfl | hx
  ·grind
  ·have:=x8w k r h.tail x hx;have:=h.later k (by simp);have:=h.head.1;omega
theorem v3d : ∀G:List (Qg β),z1k M G→(stG G).Pairwise (· < ·)
 | [],_=>.nil
 | [g],h=>by have:=h.head.1;show [g.a,g.b].Pairwise (· < ·);simp [this]
 | g::k::r,h=>by refine AR.2 ⟨fun x hx=> ?_,v3d (k::r) h.tail⟩;have:=x8w k r h.tail x hx;have:=h.later k (by simp);have:=h.head.1;omega
theorem x5e {g:Qg β} {r:List (Qg β)} (h:z1k M (g::r)):chG M (g::r) g.a:=by obtain ⟨q,hq⟩:=M.some _ h.head.2.1 h.head.2.2;refine ⟨q,fun e=> ?_⟩;have:=h.low (e.2 ((h.sec0 ⟨A0 _,h.head.1⟩ q).2 hq));omega
theorem v3c : ∀G:List (Qg β),z1k M G→ ∀x∈stG G,chG M G x
 | [],_,x,hx=>by cases hx
 | [g],h,x,hx=>by
  have hx:x∈ [g.a,g.b]:=hx;simp only [AI,Bm,BU] at hx;rcases hx with rfl | rfl
  ·exact x5e h
  ·obtain ⟨q,hq⟩:=M.some _ h.head.2.1 h.head.2.2;have hp:=h.head.1;refine ⟨q,fun e=> ?_⟩;have:=e.1 ((h.sec0 ⟨by omega,by omega⟩ q).2 hq);obtain ⟨k,hk,_⟩:=(h.rest g.b q).2 ⟨A0 _,this⟩;cases hk
 | g::k::r,h,x,hx=>by
  have hx:x∈g.a::stG (k::r):=hx;rcases AI.1 hx with rfl | hx
  ·exact x5e h
  ·have h1:=x8w k r h.tail x hx;have h2:=h.later k (by simp);have hp:=h.head.1;obtain ⟨q,hq⟩:=v3c (k::r) h.tail x hx;by_cases e:g.b<x
   ·refine ⟨q,fun k1=>hq ?_⟩;rw [h.rest,h.rest,k1];constructor <;> exact fun ⟨_,m⟩=>⟨by omega,m⟩
   ·refine Bj fun hn=> ?_;have hn: ∀q,ptG M (g::k::r) (x - 1) q↔ptG M (g::k::r) x q:=fun q=>Bj fun m=>hn ⟨q,m⟩;cases h with
    | cons _ _ _ ok nx kk=>refine nx.2 (by omega) (M.uniq _ _ ok.2.1 kk.head.2.1 fun q=> ?_);have hk:=kk.head.1;rw [←(z1k.cons g k r ok nx kk).sec0 (x:=x - 1) ⟨by omega,by omega⟩ q,hn q,←kk.sec0 (x:=x) ⟨by omega,by omega⟩ q,(z1k.cons g k r ok nx kk).rest];exact ⟨fun m=>⟨by omega,m⟩,fun m=>m.2⟩
theorem u0x {G:List (Qg β)} (h:z1k M G) (U:List Int) (hU: ∀x,chG M G x→x∈U):G.length≤U.length - 1:=by
 cases G with
 | nil=>grind
 | cons g r=>
  have:=y6s (stG (g::r)) U ((v3d _ h).imp fun {a b} k=>by omega) fun x hx=>hU x (v3c _ h x hx)
  grind [v3b]
end
theorem v9g {β γ:Type} {M:Sem β γ}: ∀G:List (Qg β),z1k M G→G.Pairwise fun g k=>g.b≤k.a
 | [],_=>.nil
 | g::r,h=>AR.2 ⟨h.later,v9g r h.tail⟩
theorem v7s {α β:Type} (D:Dim α β) (k:Nat): ∀G:List (Qg β),(∀g∈G,g.s.length≤k)→(D.flat G).length ≤G.length*k
 | [],_=>AC _
 | g::r,h=>by have ih:=v7s D k r fun x hx=>h x (by simp [hx]);have:=h g (by simp);show ((g.s.map (D.put g.a g.b))++D.flat r).length ≤_;rw [AH,Bi,Bb,Nat.succ_mul];omega
theorem j9s {l:List R4} (hc:Wr.can l) (P:Int→Int→Prop) (hp: ∀x y,ptL Wr.inB l (x,y)↔P x y) (U:List Int) (hU: ∀x y,¬(P (x - 1) y↔P x y)→x∈U) (k:Nat)
  (hk: ∀(x:Int) (s:List R2),z5s.can s→(∀y,ptL z5s.inB s y↔P x y)→s.length≤k):l.length≤(U.length - 1)*k:=by
 obtain ⟨G,hG,rfl⟩:=hc;have e: ∀x y,ptG z5s G x y↔P x y:=fun x y=>by rw [←hp];exact (Dim.flat_pt z2g z5s G x y).symm
 refine Av (v7s D4 k G fun g hg=>hk g.a g.s (hG.all g hg).2.1 fun y=> ?_) (AA k (u0x hG U fun x ⟨q,hq⟩=>hU x q (by grind)));have hg1:=(hG.all g hg).1;have c1:=Dim.inn_can z2g z5s g.a G hG;rw [←hp];constructor
 ·intro m;exact (Dim.flat_pt z2g z5s G g.a y).2 ⟨g,hg,A0 _,hg1,m⟩
 ·intro m;obtain ⟨k,hk,k1,k2,k3⟩:=(Dim.flat_pt z2g z5s G g.a y).1 m;have:k=g:=by
   obtain ⟨i,hi,ei⟩:=AN hg;obtain ⟨j,hj,ej⟩:=AN hk;have pw:=v9g G hG;have pw:=AZ.1 pw
   grind
  grind
theorem j1t (c:Nat): ∀(l E:List Int),l.Pairwise (· ≠ ·)→(∀x∈l,c≤E.count x)→c*l.length≤E.length
 | [],E,_,_=>AC _
 | x::l,E,h,hs=>by
  obtain ⟨h1,h2⟩:=AR.1 h;have hx:=hs x (by simp);have:=j1t c l (E.filter fun y=> !(y == x)) h2 fun y hy=>by
   rw [List.count_filter (by grind)]
   grind
  have e:E.length=E.count x+(E.filter fun y=> !(y == x)).length :=by
   have:=List.length_eq_countP_add_countP (fun y=>y == x) (l:=E);rw [this,List.countP_eq_length_filter (p:=fun a=>decide ¬(a == x)=true)]
   congr 2
   refine List.filter_congr fun a _=> ?_
   grind
  rw [Bb,Nat.mul_succ];omega
theorem j2w {s:List R2} (hc:z5s.can s) (E:List Int) (c:Nat) (hE: ∀y,¬(ptL z5s.inB s (y - 1)↔ptL z5s.inB s y)→c≤E.count y):c*(2*s.length)≤E.length:=by have hc:Can s:=hc;have:=j1t c (z9w s) E ((z9v hc).imp fun {a b} k=>by omega) fun y hy=>hE y fun e=>chg hc hy e;rwa [z1x] at this
def z4i (q:Ax) (L:List R6):List Int:=L.flatMap fun r=>[q.lo r,q.hi r]
theorem z1u (q:Ax) (L:List R6):(z4i q L).length =2*L.length:=by
 induction L with
 | nil=>rfl
 | cons r l ih=>show (_::_::z4i q l).length =_;simp only [Bb,ih];omega
def plQ (q:Ax) (L:List R6):List Int:=Jn (z4i q L)
theorem y0x (q:Ax) (L:List R6):(plQ q L).length ≤2*L.length:=by have h1:=Vf (Xp (z4i q L));have h2:=compact_length_le (Xp (z4i q L));rw [Vy,z1u] at h2;exact h2
def Ax.inB (q:Ax) (r:R6) (p u v:Int):Prop:=(q.lo r≤p∧p<q.hi r)∧((q.rc r).a ≤u∧u<(q.rc r).c)∧((q.rc r).b ≤v∧v<(q.rc r).d)
def Ax.inL (q:Ax) (L:List R6) (p u v:Int):Prop:= ∃r∈L,q.inB r p u v
def Ax.to (q:Ax) (p u v:Int):Int×Int×Int:=match q with
 | .x =>(p,u,v)
 | .y =>(u,p,v)
 | .z =>(u,v,p)
theorem Ax.inL_S (q:Ax) (L:List R6) (p u v:Int):q.inL L p u v↔inS L (q.to p u v).1 (q.to p u v).2.1 (q.to p u v).2.2:=by
 cases q <;> constructor <;> rintro ⟨r,hr,h1,h2,h3⟩
 ·exact ⟨r,hr,h1,h2,h3⟩
 ·exact ⟨r,hr,h1,h2,h3⟩
 ·exact ⟨r,hr,h2,h1,h3⟩
 ·exact ⟨r,hr,h2,h1,h3⟩
 ·exact ⟨r,hr,h2,h3,h1⟩
 ·exact ⟨r,hr,h3,h1,h2⟩
theorem j5n (l:List R4) (u v:Int):ptL Wr.inB l (u,v)↔ ∃r∈l,(r.a≤u∧u<r.c)∧(r.b≤v∧v<r.d):=by
 constructor
 ·rintro ⟨r,hr,h1,h2,h3,h4⟩;exact ⟨r,hr,⟨h1,h2⟩,h3,h4⟩
 ·rintro ⟨r,hr,⟨h1,h2⟩,h3,h4⟩;exact ⟨r,hr,h1,h2,h3,h4⟩
theorem x7d (q:Ax) (L:List R6) (p u v:Int):ptL Wr.inB (Kg q L p) (u,v)↔q.inL L p u v:=by
 rw [j5n];constructor
 ·rintro ⟨s,hs,h⟩;obtain ⟨r,hr,rfl⟩:=AP.1 hs;obtain ⟨h1,h2⟩:=AV.1 hr;simp only [Ae,As] at h2;exact ⟨r,h1,h2,h⟩
 ·rintro ⟨r,hr,h1,h2⟩;exact ⟨q.rc r,AP.2 ⟨r,AV.2 ⟨hr,by grind⟩,rfl⟩,h2⟩
theorem Ax.val (q:Ax) {r:R6} (h:z4g r=true):Uf (q.rc r)=true∧q.lo r<q.hi r∧ -1000000≤q.lo r∧q.hi r≤1000000:=by
 have:=Ka h;cases q
 ·refine ⟨?_,by show r.a<r.d;omega,by show _≤r.a;omega,by show r.d≤_;omega⟩;show Uf ⟨r.b,r.c,r.e,r.f⟩=true
  grind [Uf]
 ·refine ⟨?_,by show r.b<r.e;omega,by show _≤r.b;omega,by show r.e≤_;omega⟩;show Uf ⟨r.a,r.c,r.d,r.f⟩=true
  grind [Uf]
 ·refine ⟨?_,by show r.c<r.f;omega,by show _≤r.c;omega,by show r.f≤_;omega⟩;show Uf ⟨r.a,r.b,r.d,r.e⟩=true
  grind [Uf]
theorem z7s (q:Ax) {L:List R6} (hv: ∀r∈L,z4g r=true) (p:Int): ∀s∈Kg q L p,Uf s=true:=fun s hs=>by obtain ⟨r,hr,rfl⟩:=AP.1 hs;exact (q.val (hv r (AV.1 hr).1)).1
theorem y1l (q:Ax) (L:List R6) (p:Int):(Kg q L p).length ≤L.length:=by
 grind [Kg]
theorem x4h {l:List R4} (hc:Wr.can l) (hb: ∀u v,ptL Wr.inB l (u,v)→(-1000000≤u∧u<1000000)∧(-1000000≤v∧v<1000000)): ∀r∈l,Uf r=true:=fun r hr=>by
 have hp:r.a<r.c∧r.b<r.d:=by obtain ⟨G,hG,e⟩:=hc;rw [e] at hr;obtain ⟨g,hg,hr⟩:=AK.1 hr;obtain ⟨b,hb,rfl⟩:=AP.1 hr;obtain ⟨h1,h2,_⟩:=hG.all g hg;exact ⟨h1,Can.pos h2 b hb⟩
 have h1:=hb r.a r.b ((j5n _ _ _).2 ⟨r,hr,by omega,by omega⟩);have h2:=hb (r.c - 1) (r.d - 1) ((j5n _ _ _).2 ⟨r,hr,by omega,by omega⟩)
 grind [Uf]
theorem x2b {l:List R4} (hv: ∀r∈l,Uf r=true) {u v:Int} (h:ptL Wr.inB l (u,v)):(-1000000≤u∧u<1000000)∧(-1000000≤v∧v<1000000):=by
 grind [j5n,Uf]
structure Few (c l:List R4) (n:Nat):Prop where
 can:Wr.can l
 pts: ∀u v,ptL Wr.inB l (u,v)↔ptL Wr.inB c (u,v)
 val: ∀r∈l,Uf r=true
 len:l.length≤n*n
 sec: ∀x,(D4.inn l x).length ≤n
theorem v5w {l:List R4} (hv: ∀r∈l,Uf r=true) (hl:l.length≤400):(D4.out l).length ≤l.length*l.length:=by
 have h:=z0w 0 hv (fun r (h:r∈([]:List R4))=>by cases h);have e:rgJ 0 l []=D4.out l:=Wr.uniq _ _ h.1 (z3f hv hl).1 fun p=>by
  grind [z3f,y6m,opB]
 grind
theorem x3x {l:List R4} (hc:Wr.can l) (x:Int):z5s.can (D4.inn l x):=by
 obtain ⟨G,hG,e⟩:=hc
 grind [Dim.inn_can,z2g]
theorem v7y {c:List R4} (hv: ∀r∈c,Uf r=true) (hl:c.length≤20):Few c (D4.out c) c.length:=by
 obtain ⟨h1,h2⟩:=z3f hv (by omega);refine ⟨h1,fun u v=>h2 (u,v),x4h h1 fun u v h=>x2b hv ((h2 _).1 h),v5w hv (by omega),fun x=> ?_⟩;have h3:=z5r 0 (a:=D4.inn c x) (b:=[]) (Jt hv x) rfl;have h4:=y6a 0 (a:=D4.inn c x) (b:=[]) (Jt hv x) rfl;have e:spJ 0 (D4.inn c x) []=D4.inn (D4.out c) x:=z5s.uniq _ _ h4.1 (x3x h1 x) fun y=>by
  rw [h4.2];have a1:=x3f c x y;have a2:=x3f (D4.out c) x y;have: ¬pt [] y:=fun ⟨_,h,_⟩=>by cases h
  show _↔pt (D4.inn (D4.out c) x) y
  grind [opB]
 rw [←e];have:=D4.inn_length c x
 grind
theorem j7e {c:List R4} (hv: ∀r∈c,Uf r=true) (hl:c.length≤20):Ze c=D4.out c∧Ww c=0:=by refine z1m hv (by omega) (Av (v5w hv (by omega)) ?_);exact Av (BN hl hl) (by decide)
theorem w5f {l:List R4} (hl:l.length≤400) (hv: ∀r∈l,Uf r=true) (hc:Wr.can l):y0s l=0:=by
 obtain ⟨h1,h2⟩:=z3f hv hl;have e:D4.out l=l:=Wr.uniq _ _ h1 hc h2
 grind [z2p,x7e,Wo,y8o,j6j,y0s,rgcF,Ur]
theorem w2v {E:Int→Int} {cs:List Int} (h: ∀x,E x=0): ∀k i,y7o E cs k i=0
 | 0,i=>rfl
 | k+1,i=>by show (bif E (rd cs i) != 0 then E (rd cs i) else y7o E cs k (i+1))=0;rw [h];exact w2v h k (i+1)
theorem y0t (o:Op) {a b:List R4} (la:a.length≤400) (lb:b.length≤400) (va: ∀r∈a,Uf r=true) (vb: ∀r∈b,Uf r=true) (ca:Wr.can a) (cb:Wr.can b)
  (sa: ∀x,(D4.inn a x).length +(D4.inn b x).length ≤400) (lj:(rgJ o.k a b).length ≤400):rgE o a b=0:=by
 have sc: ∀(l:List R4) (x:Int),l.length≤400→(∀r∈l,Uf r=true)→Wr.can l→x0g (D4.inn l x)=0:=fun l x hl hv hc=>
  (x2r _).2 ⟨Av (D4.inn_length l x) hl,Jt hv x,x3x hc x⟩
 have hz: ∀x,rgA o a b x=0:=fun x=>by
  unfold rgA spE;rw [sc a x la va ca,sc b x lb vb cb]
  grind [z5r,Jt,x7e]
 unfold rgE;rw [w5f la va ca,w5f lb vb cb,w2v hz];show x7e _=0
 grind [x7e]
def hiL (q:Ax) (L:List R6) (p:Int):List R4:=(L.filter fun r=>decide (q.hi r=p)).map q.rc
def loL (q:Ax) (L:List R6) (p:Int):List R4:=(L.filter fun r=>decide (q.lo r=p)).map q.rc
theorem y5p (q:Ax) {L:List R6} (hv: ∀r∈L,q.lo r<q.hi r) (p:Int):(hiL q L p).length +(loL q L p).length ≤L.length:=by
 unfold hiL loL;rw [Bi,Bi]
 induction L with
 | nil=>grind
 | cons r L ih=>
  grind
theorem hi_pt (q:Ax) (L:List R6) (p u v:Int):ptL Wr.inB (hiL q L p) (u,v)↔ ∃r∈L,q.hi r=p∧((q.rc r).a ≤u∧u<(q.rc r).c)∧((q.rc r).b ≤v∧v<(q.rc r).d):=by
 rw [j5n];constructor
 ·rintro ⟨s,hs,h⟩;obtain ⟨r,hr,rfl⟩:=AP.1 hs
  grind
 ·rintro ⟨r,hr,h1,h2⟩;exact ⟨q.rc r,AP.2 ⟨r,AV.2 ⟨hr,An h1⟩,rfl⟩,h2⟩
theorem lo_pt (q:Ax) (L:List R6) (p u v:Int):ptL Wr.inB (loL q L p) (u,v)↔ ∃r∈L,q.lo r=p∧((q.rc r).a ≤u∧u<(q.rc r).c)∧((q.rc r).b ≤v∧v<(q.rc r).d):=by
 rw [j5n];constructor
 ·rintro ⟨s,hs,h⟩;obtain ⟨r,hr,rfl⟩:=AP.1 hs
  grind
 ·rintro ⟨r,hr,h1,h2⟩;exact ⟨q.rc r,AP.2 ⟨r,AV.2 ⟨hr,An h1⟩,rfl⟩,h2⟩
theorem Ap6.not (q:Ax) {r s:R6} (h:Ap6 r s) {p u v:Int} (h1:q.inB r p u v) (h2:q.inB s p u v):False:=by obtain ⟨a1,a2,a3⟩:=h1;obtain ⟨b1,b2,b3⟩:=h2;unfold Ap6 at h;cases q <;> simp only [Ax.lo,Ax.hi,Ax.rc] at* <;> omega
theorem j0b {L:List R6} (hL:L.Pairwise Ap6) (q:Ax) {r s:R6} (hr:r∈L) (hs:s∈L) {p u v:Int} (h1:q.inB r p u v) (h2:q.inB s p u v):r=s:=by
 obtain ⟨i,hi,ei⟩:=AN hr;obtain ⟨j,hj,ej⟩:=AN hs;have pw:=AZ.1 hL;rcases Bf i j with h | h | h
 ·have:=pw i j hi hj h;rw [ei,ej] at this;exact (this.not q h1 h2).elim
 ·grind
 ·have:=pw j i hj hi h;rw [ei,ej] at this;exact (this.not q h2 h1).elim
theorem u0i (q:Ax) {L:List R6} (hL:L.Pairwise Ap6) (hv: ∀r∈L,q.lo r<q.hi r) (p u v:Int):
  (q.inL L (p - 1) u v∧ ¬q.inL L p u v)↔(ptL Wr.inB (hiL q L p) (u,v)∧ ¬ptL Wr.inB (loL q L p) (u,v)):=by
 rw [hi_pt,lo_pt];constructor
 ·rintro ⟨⟨r,hr,h1,h2⟩,h3⟩;refine ⟨⟨r,hr,?_,h2⟩,fun ⟨s,hs,k1,k2⟩=>h3 ⟨s,hs,⟨by omega,by grind⟩,k2⟩⟩;refine Bj fun hn=>h3 ⟨r,hr,⟨by omega,by omega⟩,h2⟩
 ·rintro ⟨⟨r,hr,h1,h2⟩,h3⟩;have hlt:=hv r hr;have hb:q.inB r (p - 1) u v:=⟨⟨by omega,by omega⟩,h2⟩
  refine ⟨⟨r,hr,hb⟩,fun ⟨s,hs,k1,k2⟩=> ?_⟩;by_cases e:q.lo s=p
  ·grind
  ·have:=j0b hL q hr hs hb ⟨⟨by omega,by omega⟩,k2⟩
   grind
theorem v1c (q:Ax) {L:List R6} (hL:L.Pairwise Ap6) (hv: ∀r∈L,q.lo r<q.hi r) (p u v:Int):
  (q.inL L p u v∧ ¬q.inL L (p - 1) u v)↔(ptL Wr.inB (loL q L p) (u,v)∧ ¬ptL Wr.inB (hiL q L p) (u,v)):=by
 rw [hi_pt,lo_pt];constructor
 ·rintro ⟨⟨r,hr,h1,h2⟩,h3⟩;refine ⟨⟨r,hr,?_,h2⟩,fun ⟨s,hs,k1,k2⟩=>h3 ⟨s,hs,⟨by grind,by omega⟩,k2⟩⟩;refine Bj fun hn=>h3 ⟨r,hr,⟨by omega,by omega⟩,h2⟩
 ·rintro ⟨⟨r,hr,h1,h2⟩,h3⟩;have hlt:=hv r hr;have hb:q.inB r p u v:=⟨⟨by omega,by omega⟩,h2⟩
  refine ⟨⟨r,hr,hb⟩,fun ⟨s,hs,k1,k2⟩=> ?_⟩;by_cases e:q.hi s=p
  ·grind
  ·have:=j0b hL q hr hs hb ⟨⟨by omega,by omega⟩,k2⟩
   grind
def upF (q:Ax) (L:List R6) (p:Int):List R4:=rgJ 2 (D4.out (Kg q L (p - 1))) (D4.out (Kg q L p))
def dnF (q:Ax) (L:List R6) (p:Int):List R4:=rgJ 2 (D4.out (Kg q L p)) (D4.out (Kg q L (p - 1)))
section
variable (q:Ax) {L:List R6} (hv: ∀r∈L,z4g r=true) (hl:L.length≤20) (hL:L.Pairwise Ap6)
include hv hl
theorem fw (p:Int):Few (Kg q L p) (D4.out (Kg q L p)) (Kg q L p).length :=v7y (z7s q hv p) (Av (y1l q L p) hl)
theorem v2o (p:Int):Wr.can (upF q L p)∧ ∀u v,ptL Wr.inB (upF q L p) (u,v)↔(q.inL L (p - 1) u v∧ ¬q.inL L p u v):=by have f1:=fw q hv hl (p - 1);have f2:=fw q hv hl p;obtain ⟨h1,h2,_⟩:=z0w 2 f1.val f2.val;refine ⟨h1,fun u v=> ?_⟩;rw [show ptL Wr.inB (upF q L p) (u,v)↔_ from h2 (u,v),←x7d,←x7d,←f1.pts,←f2.pts];simp [opB]
theorem v8n (p:Int):Wr.can (dnF q L p)∧ ∀u v,ptL Wr.inB (dnF q L p) (u,v)↔(q.inL L p u v∧ ¬q.inL L (p - 1) u v):=by have f1:=fw q hv hl (p - 1);have f2:=fw q hv hl p;obtain ⟨h1,h2,_⟩:=z0w 2 f2.val f1.val;refine ⟨h1,fun u v=> ?_⟩;rw [show ptL Wr.inB (dnF q L p) (u,v)↔_ from h2 (u,v),←x7d,←x7d,←f1.pts,←f2.pts];simp [opB]
include hL
theorem x2c (p:Int):(upF q L p).length +(dnF q L p).length ≤((hiL q L p).length +(loL q L p).length)*((hiL q L p).length +(loL q L p).length):=by
 have hr: ∀r∈L,q.lo r<q.hi r:=fun r h=>(q.val (hv r h)).2.1;have va: ∀s∈hiL q L p,Uf s=true:=fun s hs=>by obtain ⟨r,hr,rfl⟩:=AP.1 hs;exact (q.val (hv r (AV.1 hr).1)).1
 have vb: ∀s∈loL q L p,Uf s=true:=fun s hs=>by obtain ⟨r,hr,rfl⟩:=AP.1 hs;exact (q.val (hv r (AV.1 hr).1)).1
 obtain ⟨a1,a2,_⟩:=z0w 2 va vb;obtain ⟨b1,b2,_⟩:=z0w 2 vb va;obtain ⟨u1,u2⟩:=v2o q hv hl p;obtain ⟨d1,d2⟩:=v8n q hv hl p;have e1:upF q L p=rgJ 2 (hiL q L p) (loL q L p):=Wr.uniq _ _ u1 a1 fun ⟨u,v⟩=>by
  grind [u0i,opB]
 have e2:dnF q L p=rgJ 2 (loL q L p) (hiL q L p):=Wr.uniq _ _ d1 b1 fun ⟨u,v⟩=>by
  grind [v1c,opB]
 rw [e1,e2];exact u2u va vb
theorem x1l (p:Int):Ww (Kg q L p)=0∧Ze (Kg q L p)=D4.out (Kg q L p)∧rgE .d (D4.out (Kg q L (p - 1))) (D4.out (Kg q L p))=0∧rgE .d (D4.out (Kg q L p)) (D4.out (Kg q L (p - 1)))=0:=by
 have hr: ∀r∈L,q.lo r<q.hi r:=fun r h=>(q.val (hv r h)).2.1;have f1:=fw q hv hl (p - 1);have f2:=fw q hv hl p;have l1:=y1l q L (p - 1);have l2:=y1l q L p;have t:=y5p q hr p;have hud:=x2c q hv hl hL p;have h4:((hiL q L p).length +(loL q L p).length)*((hiL q L p).length +(loL q L p).length)≤400:=Av (BN (Av t hl) (Av t hl)) (by decide);obtain ⟨m0,m1⟩:=j7e (z7s q hv p) (Av l2 hl);have n1:=Av f1.len (Av (BN (Av l1 hl) (Av l1 hl)) (show 20*20≤400 by decide));have n2:=Av f2.len (Av (BN (Av l2 hl) (Av l2 hl)) (show 20*20≤400 by decide));refine ⟨m1,m0,y0t .d n1 n2 f1.val f2.val f1.can f2.can (fun x=> ?_) ?_,y0t .d n2 n1 f2.val f1.val f2.can f1.can (fun x=> ?_) ?_⟩
 ·have:=f1.sec x;have:=f2.sec x;omega
 ·grind [upF]
 ·have:=f1.sec x;have:=f2.sec x;omega
 grind [dnF]
end
def fcF (q:Ax) (s:Bool) (L:List R6) (p:Int):List R4:=match s with
 | true=>upF q L p
 | false=>dnF q L p
theorem z7f (q:Ax) (L:List R6):(plQ q L).Pairwise (· < ·):=by
 grind [plQ,Kh,Wg]
theorem w0x (q:Ax) (L:List R6) (p:Int):p∈plQ q L↔ ∃r∈L,p=q.lo r∨p=q.hi r:=by
 grind [plQ,Kh,Wg,z4i]
theorem x8q (a:Int): ∀P:List Int,P.Pairwise (· < ·)→(P.map fun p=>if a=p then 1 else 0).sum ≤1
 | [],_=>AC _
 | p::P,h=>by
  obtain ⟨h1,h2⟩:=AR.1 h;rw [AU,BD];by_cases e:a=p
  ·rw [AL e];have:(P.map fun p=>if a=p then 1 else 0)=P.map fun _=>0:=BI fun x hx=>by
    grind
   rw [this];have: ∀l:List Int,(l.map fun _=>0).sum =0:=fun l=>by induction l with
    | nil=>rfl
    | cons _ _ ih=>grind
   grind
  simp_all [x8q]
theorem z4n (f:R6→Int) (P:List Int) (hP:P.Pairwise (· < ·)) (g:R6→R4): ∀L:List R6,(P.map fun p=>((L.filter fun r=>decide (f r=p)).map g).length).sum ≤L.length
 | []=>by
  have: ∀l:List Int,(l.map fun p=>((([]:List R6).filter fun r=>decide (f r=p)).map g).length).sum =0:=fun l=>by induction l with
   | nil=>rfl
   | cons _ _ ih=>grind
  grind
 | r::L=>by
  have ih:=z4n f P hP g L;have h1:=x8q (f r) P hP;have: ∀l:List Int,(l.map fun p=>(((r::L).filter fun r=>decide (f r=p)).map g).length).sum =(l.map fun p=>if f r=p then 1 else 0).sum +(l.map fun p=>((L.filter fun r=>decide (f r=p)).map g).length).sum :=fun l=>by
   induction l with
   | nil=>rfl
   | cons p l ih=>
    grind
  grind
theorem y1k {α β:Type} {f g:α→List β}: ∀{l:List α},(∀a∈l,f a=g a)→l.flatMap f=l.flatMap g
 | [],_=>rfl
 | a::l,h=>by rw [List.flatMap_cons,List.flatMap_cons,h a (by simp),y1k fun x hx=>h x (by simp [hx])]
theorem y7m {α β:Type} (f:α→List β): ∀l:List α,(l.flatMap f).length =(l.map fun a=>(f a).length).sum
 | []=>rfl
 | a::l=>by simp_all
def x8b (x:Int):Prop:= -12≤x∧x<12
def nb2 (R:List R4):Prop:= ∀u v,ptL Wr.inB R (u,v)→x8b u∧x8b v
def nbS (L:List R6):Prop:= ∀x y z,inS L x y z→x8b x∧x8b y∧x8b z
def L25 :List Int:=(List.range 25).map fun (n:Nat)=>(n:Int) - 12
theorem v9x {x:Int} (h: -12≤x∧x≤12):x∈L25:=AP.2 ⟨(x+12).toNat,A3.2 (by omega),by omega⟩
theorem v5g {R:List R4} (hc:Wr.can R) (U W:List Int) (hU: ∀u v,¬(ptL Wr.inB R (u - 1,v)↔ptL Wr.inB R (u,v))→u∈U) (hW: ∀u v,¬(ptL Wr.inB R (u,v - 1)↔ptL Wr.inB R (u,v))→v∈W):
  R.length≤(U.length - 1)*(W.length / 2)∧ ∀x,(D4.inn R x).length ≤W.length / 2:=by
 have sp: ∀(x:Int) (s:List R2),z5s.can s→(∀y,ptL z5s.inB s y↔ptL Wr.inB R (x,y))→s.length≤W.length / 2:=fun x s hs hy=>by have:=j2w hs W 1 fun y hn=>List.count_pos_iff.2 (hW x y (by grind));omega
 exact ⟨j9s hc (fun u v=>ptL Wr.inB R (u,v)) (fun _ _=>Iff.rfl) U (fun x y hn=>hU x y hn) _ sp,fun x=>sp x _ (x3x hc x) fun y=>x3f R x y⟩
theorem x3k {R:List R4} (hc:Wr.can R) (h:nb2 R):R.length≤288∧ ∀x,(D4.inn R x).length ≤12:=by
 have key: ∀{a b:Prop} {x:Int},¬(a↔b)→(a→x8b (x - 1))→(b→x8b x)→x∈L25:=fun {a b x} hn ha hb=>v9x (by
  grind [x8b])
 have:=v5g hc L25 L25 (fun u v hn=>key hn (fun k=>(h _ _ k).1) fun k=>(h _ _ k).1) (fun u v hn=>key hn (fun k=>(h _ _ k).2) fun k=>(h _ _ k).2);have e:L25.length=25:=rfl
 grind
theorem v8u (q:Ax) (L:List R6) (p:Int):y8x q.ix L p=Kg q L p:=by cases q <;> rfl
theorem v5t (q:Ax) (L:List R6):plA q.ix L=plQ q L:=by cases q <;> rfl
section
variable {L:List R6} (h:Zn L=0)
include h
theorem z2e (q:Ax) (p:Int):Wr.can (D4.out (Kg q L p))∧(∀u v,ptL Wr.inB (D4.out (Kg q L p)) (u,v)↔q.inL L p u v)∧ ∀r∈D4.out (Kg q L p),Uf r=true:=by obtain ⟨hl,hv,_,_⟩:=Vh h;obtain ⟨h1,h2⟩:=z3f (z7s q hv p) (Av (y1l q L p) hl);exact ⟨h1,fun u v=>by rw [h2,x7d],x4h h1 fun u v k=>x2b (z7s q hv p) ((h2 _).1 k)⟩
theorem z7i (hn:nbS L) (q:Ax) {p u v:Int} (k:q.inL L p u v):x8b p∧x8b u∧x8b v:=by
 have _u:=h;rw [q.inL_S] at k;have:=hn _ _ _ k;cases q
 ·exact this
 ·exact ⟨this.2.1,this.1,this.2.2⟩
 ·exact ⟨this.2.2,this.1,this.2.1⟩
theorem w6y (hn:nbS L) (q:Ax) (p:Int):Wx q.ix L p=0∧Za q.ix L p=D4.out (Kg q L p)∧(D4.out (Kg q L p)).length ≤288∧ ∀x,(D4.inn (D4.out (Kg q L p)) x).length ≤12:=by
 obtain ⟨hl,hv,_,_⟩:=Vh h;obtain ⟨c,pts,_⟩:=z2e h q p;obtain ⟨n1,n2⟩:=x3k c fun u v k=>(z7i h hn q ((pts u v).1 k)).2
 grind [z1m,z7s,y1l,Wx,Za,v8u]
end
theorem y3x {L:List R6} (h:Zn L=0):x5h.can L:=by
 obtain ⟨hl,hv,_,_⟩:=Vh h
 grind [z1n,w6z,rckF,Jf,j6o,u0y]
theorem y7h {L:List R6} (h:Zn L=0) (z:Int):Wr.can (D6.inn L z)∧(∀r∈D6.inn L z,Uf r=true)∧(D6.inn L z).length ≤400∧D4.out (D6.inn L z)=D6.inn L z:=by
 obtain ⟨hl,hv,e,_⟩:=Vh h;have hc:x5h.can L:=y3x h;obtain ⟨G,hG,e⟩:=hc;have c:Wr.can (D6.inn L z):=by grind [Dim.inn_can,z7w]
 have v:=y1o hv z;have n:=Av (D6.inn_length L z) hl;exact ⟨c,v,n,Wr.uniq _ _ (z3f v (by omega)).1 c (z3f v (by omega)).2⟩
theorem inn_nb {L:List R6} (h:nbS L) (z:Int):nb2 (D6.inn L z):=fun u v k=>by
 have:=h u v z ((w2h L u v z).1 k)
 grind
section
variable {a b:List R6} (ha:Zn a=0) (hb:Zn b=0) (na:nbS a) (nb:nbS b)
include ha hb na nb
theorem sec_u (x:Int):slA .u a b x=0:=by
 obtain ⟨a1,a2,a3,a4⟩:=y7h ha x;obtain ⟨b1,b2,b3,b4⟩:=y7h hb x;obtain ⟨ma0,ma1⟩:=z1m a2 a3 (by grind);obtain ⟨mb0,mb1⟩:=z1m b2 b3 (by grind)
 grind [x3k,inn_nb,z0w,nb2,opB,y0t,slA]
theorem j3f :slE .u a b=x7e (slJ .u a b).length :=by unfold slE;rw [ha,hb,w2v (sec_u ha hb na nb)];rfl
theorem u_pts :x5h.can (slJ .u a b)∧ ∀x y z,inS (slJ .u a b) x y z↔inS a x y z∨inS b x y z:=by
 have hS: ∀x,slS .u a b x=rgJ 0 (D6.inn a x) (D6.inn b x):=fun x=>by
  grind [y7h,z1m,slS]
 have e:slJ .u a b=(D6.goS (fun x=>rgJ 0 (D6.inn a x) (D6.inn b x)) (D6.cuts (a++b)) ((D6.cuts (a++b)).length - 1) 0 ⟨[],[],0,0⟩).out :=by unfold slJ;rw [show slS .u a b=fun x=>rgJ 0 (D6.inn a x) (D6.inn b x) from funext hS]
 have j:=fun x=>z0w 0 (y7h ha x).2.1 (y7h hb x).2.1;obtain ⟨h1,h2⟩:=Dim.goJ_can z7w z8c Wr a b (rgJ 0) (fun x=>(j x).1) (by
  obtain ⟨j1,j2,j3⟩:=z0w 0 (a:=[]) (b:=[]) (fun r hr=>by cases hr) (fun r hr=>by cases hr);simp_all)
 rw [e];refine ⟨h1,fun x y z=> ?_⟩;have _u:=na;have _v:=nb;rw [z5i,show ptL x5h.inB _ (z,x,y)↔_ from h2 z (x,y),(j z).2.1,←w2h a,←w2h b];simp [opB]
theorem u_ok (h:z4q .u a b=0):Zn (z2i .u a b)=0∧nbS (z2i .u a b)∧ ∀x y z,inS (z2i .u a b) x y z↔inS a x y z∨inS b x y z:=by
 obtain ⟨c,pts⟩:=u_pts ha hb na nb;have h:slE .u a b=0:=h;have e:z2i .u a b=slJ .u a b:=by unfold z2i;rw [h];rfl
 grind [z6h,j3f,nbS,y3w,j9r,x8b]
end
theorem y3b {S:List R6} (h:x6d S=true):nbS S∧S.length≤6:=by
 obtain ⟨h1,h2⟩:=BF.1 h;refine ⟨fun x y z ⟨r,hr,k1,k2,k3⟩=> ?_,Aw h1⟩
 grind [x8b]
theorem v3x {l:List Pa}: ∀k i,skG l k i=0→ ∀j,i≤j→j<i+k→x7h l j=false
 | 0,i,_,j,h1,h2=>by omega
 | k+1,i,h,j,h1,h2=>by
  have h:(bif x7h l i then (8:Int) else skG l k (i+1))=0:=h;rcases Yp (x7h l i) with q | q
  ·rw [q] at h;cases h
  ·rw [q,Aa] at h;rcases A7 h1 with rfl | h1
   ·exact q
   ·exact v3x k (i+1) h j h1 (by omega)
def v7k (b:R6) (x y z:Int):Prop:=(b.a≤x∧x<b.d)∧(b.b≤y∧y<b.e)∧(b.c≤z∧z<b.f)
structure v2b (l:List Pa):Prop where
 len:l.length≤50
 sck: ∀i,i<l.length→Zn (rd l i).s =0
 val: ∀i,i<l.length→Zn [bxP (rd l i)]=0
 ins: ∀i,i<l.length→ ∀x y z,inS (rd l i).s x y z→v7k (bxP (rd l i)) x y z
 dis: ∀i j,i<l.length→j<l.length→ ∀x y z,v7k (bxP (rd l i)) x y z→v7k (bxP (rd l j)) x y z→i=j
theorem w1t {l:List Pa} (h:z1l l=0):v2b l:=by
 obtain ⟨h5,hE,hG⟩:=w4w h;have bad:=v3x _ _ hG;have b3: ∀i,i<l.length→Zn [bxP (rd l i)]=0∧(rd l i).s.any (fun r=> !insR r (bxP (rd l i)))=false∧(l.take i).any (fun y=>v6x (bxP (rd l i)) (bxP y))=false:=fun i hi=>by
  grind [x7h]
 have half: ∀i j,i<l.length→j<i→ ∀x y z,v7k (bxP (rd l i)) x y z→v7k (bxP (rd l j)) x y z→False:=fun i j hi hj x y z h1 h2=>by
  have:=List.any_eq_false.1 (b3 i hi).2.2 (rd l j) (by
   rw [Yo (show j<l.length by omega)];refine List.mem_iff_getElem.2 ⟨j,by grind,?_⟩
   grind)
  grind [v7k,v6x,j1a]
 refine ⟨h5,fun i hi=>(x2l h hi).1,fun i hi=>(b3 i hi).1,fun i hi x y z ⟨r,hr,k1,k2,k3⟩=> ?_,fun i j hi hj x y z h1 h2=> ?_⟩;all_goals grind [insR,j1n,v7k]
theorem x2p :Zn []=0:=by refine y3w (AC _) (fun r hr=>by cases hr) ⟨[],.nil,rfl⟩
theorem x3j :nbS []:=fun x y z ⟨r,hr,_⟩=>by cases hr
def z5m (q:Ax) (s:Bool):Nat:=match q,s with
 | .x,true=>0
 | .x,false=>1
 | .y,true=>2
 | .y,false=>3
 | .z,true=>4
 | .z,false=>5
theorem x7b (q:Ax) (s:Bool):dhA (z5m q s:Int)=q.ix:=by cases q <;> cases s <;> rfl
def y8n (s:Bool) (p:Int):Int:=match s with
 | true=>p - 1
 | false=>p
def z5c (s:Bool) (p:Int):Int:=match s with
 | true=>p
 | false=>p - 1
theorem v5v (q:Ax) (s:Bool) {p:Int} (hp: -12≤p∧p≤12):w0y (z5m q s:Int) p=y8n s p∧y8t (z5m q s:Int) p=z5c s p:=by have w:wrap .i64 (p - 1)=p - 1:=Zk (by omega);unfold w0y y8t y8n z5c;rw [w];cases q <;> cases s <;> exact ⟨rfl,rfl⟩
theorem opD {A B:Prop} [Decidable A] [Decidable B]:opB 2 (decide A) (decide B)=true↔A∧ ¬B:=by simp [opB]
theorem opE {A B:Prop} [Decidable A] [Decidable B]:opB 1 (decide A) (decide B)=true↔A∧B:=by simp [opB]
theorem w0m (q:Op) {a b:List R4} (h:rgE q a b=0):Xc q a b=rgJ q.k a b:=by unfold Xc;rw [h];rfl
def FS (q:Ax) (s:Bool) (S A:List R6) (p:Int):List R4:=rgJ 2 (D4.out (Kg q S (y8n s p))) (D4.out (Kg q A (z5c s p)))
section
variable {S A:List R6} (hS:Zn S=0) (hA:Zn A=0) (nS:nbS S) (nA:nbS A)
include hS hA
theorem w7g (q:Ax) (s:Bool) (p:Int):Wr.can (FS q s S A p)∧ ∀u v,ptL Wr.inB (FS q s S A p) (u,v)↔q.inL S (y8n s p) u v∧ ¬q.inL A (z5c s p) u v:=by
 grind [z2e,z0w,FS,opD]
include nS
theorem j1z (q:Ax) (s:Bool) (p:Int):(FS q s S A p).length ≤288:=by obtain ⟨c,pts⟩:=w7g hS hA q s p;exact (x3k c fun u v k=>(z7i hS nS q ((pts u v).1 k).1).2).1
include nA
theorem x2j (q:Ax) (s:Bool) {p:Int} (hp: -12≤p∧p≤12):y2e S A (z5m q s:Int) p=0∧Qf S A (z5m q s:Int) p=FS q s S A p:=by obtain ⟨o1,o2⟩:=v5v q s hp;obtain ⟨a0,a1,a2,a3⟩:=w6y hS nS q (y8n s p);obtain ⟨b0,b1,b2,b3⟩:=w6y hA nA q (z5c s p);obtain ⟨ca,_,va⟩:=z2e hS q (y8n s p);obtain ⟨cb,_,vb⟩:=z2e hA q (z5c s p);have fl:=j1z hS hA nS q s p;have e:=y0t .d (by omega) (by omega) va vb ca cb (fun x=>by grind) (show (FS q s S A p).length ≤400 by omega);unfold y2e Qf;rw [x7b,o1,o2,a0,b0,a1,b1,w0m .d e];refine ⟨?_,rfl⟩;show rgE .d _ _=0;exact e
end
theorem pl12 {S:List R6} (h:x6d S=true) (q:Ax) {p:Int} (hp:p∈plQ q S): -12≤p∧p≤12:=by obtain ⟨r,hr,e⟩:=(w0x q S p).1 hp;have b:=At.1 (BF.1 h).2 r hr;simp only [Ae,As] at b;cases q <;> simp only [Ax.lo,Ax.hi] at e <;> omega
theorem dir_ex {d:Nat} (h:d<6): ∃q s,d=z5m q s:=by
 have:d=0∨d=1∨d=2∨d=3∨d=4∨d=5:=by omega
 rcases this with rfl | rfl | rfl | rfl | rfl | rfl
 ·exact ⟨.x,true,rfl⟩
 ·exact ⟨.x,false,rfl⟩
 ·exact ⟨.y,true,rfl⟩
 ·exact ⟨.y,false,rfl⟩
 ·exact ⟨.z,true,rfl⟩
 ·exact ⟨.z,false,rfl⟩
theorem x6x (E:Int→Int): ∀l:List Int,(∀p∈l,E p=0)→y5f E l=0
 | [],_=>rfl
 | p::l,h=>by unfold y5f;rw [h p (by simp)];exact x6x E l fun x hx=>h x (by simp [hx])
section
variable {S N:List R6} {m:R6} {E:Int→Int→Int} {M:Int→Int→List R4} (hr:x6d S=true)
 (hE: ∀q s p,-12≤p∧p≤12→E (z5m q s:Int) p=0) (hM: ∀q s p,-12≤p∧p≤12→M (z5m q s:Int) p=faceQ S N m (z5m q s:Int) p)
include hr
theorem y8a (hE: ∀q s p,-12≤p∧p≤12→E (z5m q s:Int) p=0): ∀k d,d+k=6→v1o E S k d=0
 | 0,_,_=>rfl
 | k+1,d,h=>by
  obtain ⟨q,s,e⟩:=dir_ex (show d<6 by omega);have z:y5f (E (d:Int)) (plA (dhA (d:Int)) S)=0:=by rw [e,x7b,v5t];exact x6x _ _ fun p hp=>hE q s p (pl12 hr q hp)
  show (bif y5f (E (d:Int)) (plA (dhA (d:Int)) S) != 0 then y5f (E (d:Int)) (plA (dhA (d:Int)) S) else v1o E S k (d+1))=0;rw [z];exact y8a hE k (d+1) (by omega)
end
theorem w7c (M:Int→Int→List R4) (S:List R6):(z9x M S 6 0).length =(z1b M (z5m .x true:Int) (plQ .x S)).length +(z1b M (z5m .x false:Int) (plQ .x S)).length +((z1b M (z5m .y true:Int) (plQ .y S)).length +(z1b M (z5m .y false:Int) (plQ .y S)).length)+((z1b M (z5m .z true:Int) (plQ .z S)).length +(z1b M (z5m .z false:Int) (plQ .z S)).length):=by
 have e:z9x M S 6 0=z1b M ((0:Nat):Int) (plA (dhA ((0:Nat):Int)) S)++(z1b M ((0+1:Nat):Int) (plA (dhA ((0+1:Nat):Int)) S)++(z1b M ((0+1+1:Nat):Int) (plA (dhA ((0+1+1:Nat):Int)) S)++(z1b M ((0+1+1+1:Nat):Int) (plA (dhA ((0+1+1+1:Nat):Int)) S)++(z1b M ((0+1+1+1+1:Nat):Int) (plA (dhA ((0+1+1+1+1:Nat):Int)) S)++(z1b M ((0+1+1+1+1+1:Nat):Int) (plA (dhA ((0+1+1+1+1+1:Nat):Int)) S)++[]))))):=rfl
 grind [z5m,x7b,v5t]
theorem x4e (M:Int→Int→List R4) (d:Int): ∀P:List Int,(z1b M d P).length =(P.map fun p=>(M d p).length).sum
 | []=>rfl
 | p::P=>by have ih:=x4e M d P;show ((M d p).map _++z1b M d P).length =_;rw [AH,Bi,ih,AU,BD]
theorem v2t (e:Int) (f g:Int→Nat): ∀P:List Int,(∀p∈P,f p≤288∧(p≠e→f p≤g p))→(P.map f).sum ≤288*(P.map fun p=>if e=p then 1 else 0).sum +(P.map g).sum
 | [],_=>AC _
 | p::P,h=>by
  have ih:=v2t e f g P fun x hx=>h x (by simp [hx])
  grind
theorem w4o {e:Int} {f g:Int→Nat} {P:List Int} (hP:P.Pairwise (· < ·)) (h: ∀p∈P,f p≤288∧(p≠e→f p≤g p)):(P.map f).sum ≤288+(P.map g).sum :=by
 have h1:=v2t e f g P h;have h2:=x8q e P hP
 grind
theorem u5g {S:List R6} (h:Zn S=0) (hl:S.length≤6) (q:Ax):((plQ q S).map fun p=>(fcF q true S p).length).sum +((plQ q S).map fun p=>(fcF q false S p).length).sum ≤240:=by
 obtain ⟨_,hv,_,hL⟩:=Vh h;have hr: ∀r∈S,q.lo r<q.hi r:=fun r h=>(q.val (hv r h)).2.1;have key: ∀P:List Int,(P.map fun p=>(fcF q true S p).length).sum +(P.map fun p=>(fcF q false S p).length).sum ≤20*((P.map fun p=>(hiL q S p).length).sum +(P.map fun p=>(loL q S p).length).sum):=fun P=>by
  induction P with
  | nil=>grind
  | cons p P ih=>
   simp only [AU,BD] at ih ⊢;have h1:=x2c q hv (by omega) hL p;have h2:(hiL q S p).length +(loL q S p).length ≤20:=by have:=y5p q hr p;omega
   have h3:=AA ((hiL q S p).length +(loL q S p).length) h2
   grind [fcF]
 have h1:=z4n q.hi (plQ q S) (z7f q S) q.rc S;have h2:=z4n q.lo (plQ q S) (z7f q S) q.rc S;have:=key (plQ q S);unfold hiL loL at this;omega
theorem v9h (q:Ax) (b:R6) (p u v:Int):q.inB b p u v↔v7k b (q.to p u v).1 (q.to p u v).2.1 (q.to p u v).2.2:=by
 cases q
 ·exact ⟨fun ⟨a,b,c⟩=>⟨a,b,c⟩,fun ⟨a,b,c⟩=>⟨a,b,c⟩⟩
 ·exact ⟨fun ⟨a,b,c⟩=>⟨b,a,c⟩,fun ⟨a,b,c⟩=>⟨b,a,c⟩⟩
 ·exact ⟨fun ⟨a,b,c⟩=>⟨b,c,a⟩,fun ⟨a,b,c⟩=>⟨c,a,b⟩⟩
def w8g (q:Ax) (s:Bool) (b:R6):Int:=match s with
 | true=>q.hi b
 | false=>q.lo b
theorem x1g {q:Ax} {s:Bool} {b:R6} {p u v:Int} (h:q.inB b (y8n s p) u v) (hne:p≠w8g q s b):q.inB b (z5c s p) u v:=by
 obtain ⟨h1,h2⟩:=h;refine ⟨?_,h2⟩;cases s with
 | true=>have h1:q.lo b≤p - 1∧p - 1<q.hi b:=h1;have hne:p≠q.hi b:=hne;show q.lo b≤p∧p<q.hi b;omega
 | false=>have h1:q.lo b≤p∧p<q.hi b:=h1;have hne:p≠q.lo b:=hne;show q.lo b≤p - 1∧p - 1<q.hi b;omega
theorem v7z {S:List R6} (h:Zn S=0) (hl:S.length≤6) (q:Ax) (s:Bool) (p:Int):Wr.can (fcF q s S p)∧ ∀u v,ptL Wr.inB (fcF q s S p) (u,v)↔q.inL S (y8n s p) u v∧ ¬q.inL S (z5c s p) u v:=by
 obtain ⟨_,hv,_,_⟩:=Vh h;cases s with
 | true=>exact v2o q hv (by omega) p
 | false=>exact v8n q hv (by omega) p
section
variable {l:List Pa} (L:v2b l) (hn: ∀x∈l,x6d x.s=true) {A:List R6} (hA:Zn A=0) (nA:nbS A) (pA: ∀x y z,inS A x y z↔ ∃p∈l,inS p.s x y z) {i:Nat} (hi:i<l.length)
include L hn hA nA pA hi
theorem v3v (q:Ax) (s:Bool) {p:Int} (hne:p≠w8g q s (bxP (rd l i))):(FS q s (rd l i).s A p).length ≤(fcF q s (rd l i).s p).length :=by
 have _u:=nA;have hS:=L.sck i hi;have hr:=hn (rd l i) (by grind [Yo]);obtain ⟨nS,l6⟩:=y3b hr;obtain ⟨c1,p1⟩:=w7g hS hA q s p;obtain ⟨c2,p2⟩:=v7z hS l6 q s p;have e:FS q s (rd l i).s A p=fcF q s (rd l i).s p:=Wr.uniq _ _ c1 c2 fun ⟨u,v⟩=>by
  rw [p1,p2];constructor
  ·rintro ⟨k1,k2⟩;refine ⟨k1,fun k=>k2 ?_⟩;rw [q.inL_S] at k ⊢
   grind [Yo]
  ·rintro ⟨k1,k2⟩;refine ⟨k1,fun k=>k2 ?_⟩;rw [q.inL_S] at k;obtain ⟨r,hr',kr⟩:=(pA _ _ _).1 k;obtain ⟨j,hj,rfl⟩:=AN hr';rw [←Yo hj] at kr;have b1:q.inB (bxP (rd l i)) (y8n s p) u v:=(v9h q _ _ _ _).2 (L.ins i hi _ _ _ ((q.inL_S _ _ _ _).1 k1));have b2:=(v9h q _ _ _ _).1 (x1g b1 hne);have b3:=L.ins j hj _ _ _ kr;have:=L.dis i j hi hj _ _ _ b2 b3;subst this;rw [q.inL_S];exact kr
 grind
theorem u1a :(z9x (Qf (rd l i).s A) (rd l i).s 6 0).length ≤3000:=by
 have hS:=L.sck i hi;have hr:=hn (rd l i) (by grind [Yo]);obtain ⟨nS,l6⟩:=y3b hr;have one: ∀q s,(z1b (Qf (rd l i).s A) (z5m q s:Int) (plQ q (rd l i).s)).length ≤288+((plQ q (rd l i).s).map fun p=>(fcF q s (rd l i).s p).length).sum :=fun q s=>by
  rw [x4e];refine w4o (e:=w8g q s (bxP (rd l i))) (z7f q _) fun p hp=> ?_;rw [(x2j hS hA nS nA q s (pl12 hr q hp)).2]
  grind [j1z,v3v]
 have two: ∀q,(z1b (Qf (rd l i).s A) (z5m q true:Int) (plQ q (rd l i).s)).length +(z1b (Qf (rd l i).s A) (z5m q false:Int) (plQ q (rd l i).s)).length ≤816:=fun q=>by have a:=one q true;have b:=one q false;have c:=u5g hS l6 q;omega
 grind [w7c]
theorem x9c :x8l (y2e (rd l i).s A) (Qf (rd l i).s A) (rd l i).s =0:=by
 have hS:=L.sck i hi
 grind [Yo,y3b,u1a,y8a,x2j,x8l]
end
theorem j9t {b:R6} (h:Zn [b]=0):z4g b=true:=(Vh h).2.1 b (by simp)
theorem j5o {b:R6} (h:Zn [b]=0) (q:Ax) (p:Int):Wx q.ix [b] p=0∧Za q.ix [b] p=D4.out (Kg q [b] p)∧(D4.out (Kg q [b] p)).length ≤1∧(∀x,(D4.inn (D4.out (Kg q [b] p)) x).length ≤1):=by obtain ⟨hl,hv,_,_⟩:=Vh h;have n1:(Kg q [b] p).length ≤1:=y1l q [b] p;have f:=v7y (z7s q hv p) (by omega);have fl:(D4.out (Kg q [b] p)).length ≤1:=Av f.len (BN n1 n1);obtain ⟨m0,m1⟩:=z1m (z7s q hv p) (by omega) (by omega);unfold Wx Za;rw [v8u];exact ⟨m1,m0,fl,fun x=>Av (f.sec x) n1⟩
theorem y6q (q:Ax) (b:R6) (p u v:Int):q.inL [b] p u v↔q.inB b p u v:=by
 constructor
 ·rintro ⟨r,hr,k⟩
  grind
 ·exact fun k=>⟨b,by simp,k⟩
section
variable {S T:List R6} {b:R6} (hS:Zn S=0) (hT:Zn T=0) (hb:Zn [b]=0) (nS:nbS S) (nT:nbS T)
include hT hb
def ZS (q:Ax) (s:Bool) (T:List R6) (b:R6) (p:Int):List R4:=rgJ 2 (D4.out (Kg q [b] (z5c s p))) (D4.out (Kg q T (z5c s p)))
theorem v9u (q:Ax) (s:Bool) (p:Int):Wr.can (ZS q s T b p)∧(∀u v,ptL Wr.inB (ZS q s T b p) (u,v)↔q.inB b (z5c s p) u v∧ ¬q.inL T (z5c s p) u v)∧ ∀r∈ZS q s T b p,Uf r=true:=by
 obtain ⟨a1,a2,a3⟩:=z2e hb q (z5c s p);obtain ⟨b1,b2,b3⟩:=z2e hT q (z5c s p);obtain ⟨j1,j2,_⟩:=z0w 2 a3 b3;have pts: ∀u v,ptL Wr.inB (ZS q s T b p) (u,v)↔q.inB b (z5c s p) u v∧ ¬q.inL T (z5c s p) u v:=fun u v=>by
  grind [ZS,opD,y6q]
 refine ⟨j1,pts,x4h j1 fun u v k=> ?_⟩;have:=(j2 (u,v)).1 k;rw [opD] at this;exact x2b a3 this.1
include nT
theorem ZS_len (q:Ax) (s:Bool) (p:Int):(ZS q s T b p).length ≤400∧ ∀x,(D4.inn (ZS q s T b p) x).length ≤13:=by
 obtain ⟨c,pts,_⟩:=v9u hT hb q s p;have key: ∀{a a' b b':Prop} {x lo hi:Int},¬((a∧ ¬b)↔(a'∧ ¬b'))→(b→x8b (x - 1))→(b'→x8b x)→(x≠lo→x≠hi→(a↔a'))→x∈L25++[lo,hi]:=fun {a a' b b' x lo hi} hn h1 h2 h3=>by
  rw [AM];by_cases e1:x=lo;all_goals grind [v9x,x8b]
 have:=v5g c (L25++[(q.rc b).a,(q.rc b).c]) (L25++[(q.rc b).b,(q.rc b).d]) (fun u v hn=>by
  rw [pts,pts] at hn;refine key hn (fun k=>(z7i hT nT q k).2.1) (fun k=>(z7i hT nT q k).2.1) fun e1 e2=> ?_
  grind [Ax.inB]) (fun u v hn=>by
  rw [pts,pts] at hn;refine key hn (fun k=>(z7i hT nT q k).2.2) (fun k=>(z7i hT nT q k).2.2) fun e1 e2=> ?_
  grind [Ax.inB])
 grind [L25]
include hS nS
def PS (q:Ax) (s:Bool) (S T:List R6) (b:R6) (p:Int):List R4:=rgJ 1 (D4.out (Kg q S (y8n s p))) (ZS q s T b p)
theorem w7e (q:Ax) (s:Bool) (p:Int):Wr.can (PS q s S T b p)∧(∀u v,ptL Wr.inB (PS q s S T b p) (u,v)↔q.inL S (y8n s p) u v∧q.inB b (z5c s p) u v∧ ¬q.inL T (z5c s p) u v)∧(PS q s S T b p).length ≤288:=by
 obtain ⟨a1,a2,a3⟩:=z2e hS q (y8n s p);obtain ⟨z1,z2,z3⟩:=v9u hT hb q s p;obtain ⟨j1,j2,_⟩:=z0w 1 a3 z3;have _u:=nT;have pts: ∀u v,ptL Wr.inB (PS q s S T b p) (u,v)↔q.inL S (y8n s p) u v∧q.inB b (z5c s p) u v∧ ¬q.inL T (z5c s p) u v:=fun u v=>by
  grind [PS,opE]
 exact ⟨j1,pts,(x3k j1 fun u v k=>(z7i hS nS q ((pts u v).1 k).1).2).1⟩
theorem x8t (q:Ax) (s:Bool) {p:Int} (hp: -12≤p∧p≤12):y2z S T b (z5m q s:Int) p=0∧Kz S T b (z5m q s:Int) p=PS q s S T b p:=by obtain ⟨o1,o2⟩:=v5v q s hp;obtain ⟨a0,a1,a2,a3⟩:=w6y hS nS q (y8n s p);obtain ⟨t0,t1,t2,t3⟩:=w6y hT nT q (z5c s p);obtain ⟨b0,b1,b2,b3⟩:=j5o hb q (z5c s p);obtain ⟨ca,_,va⟩:=z2e hS q (y8n s p);obtain ⟨ct,_,vt⟩:=z2e hT q (z5c s p);obtain ⟨cb,_,vb⟩:=z2e hb q (z5c s p);obtain ⟨zl,zx⟩:=ZS_len hT hb nT q s p;obtain ⟨cz,_,vz⟩:=v9u hT hb q s p;obtain ⟨_,_,pl⟩:=w7e hS hT hb nS nT q s p;have e1:=y0t .d (by omega) (by omega) vb vt cb ct (fun x=>by grind) (show (ZS q s T b p).length ≤400 from zl);have e2:=y0t .e (show _≤400 by omega) zl va vz ca cz (fun x=>by grind) (show (PS q s S T b p).length ≤400 by omega);have z0:Xc .d (D4.out (Kg q [b] (z5c s p))) (D4.out (Kg q T (z5c s p)))=ZS q s T b p:=w0m .d e1;unfold y2z Kz;rw [x7b,o1,o2,a0,b0,t0,a1,b1,t1,z0,w0m .e e2];have e1:Jc .d (D4.out (Kg q [b] (z5c s p))) (D4.out (Kg q T (z5c s p)))=0:=e1;rw [e1];refine ⟨?_,rfl⟩;show rgE .e _ _=0;exact e2
end
section
variable {l:List Pa} (L:v2b l) (hn: ∀x∈l,x6d x.s=true) {i k:Nat} (hi:i<l.length) (hk:k<l.length) (hik:i≠k)
include L hn hi hk hik
theorem v2x :x8l (y2z (rd l i).s (rd l k).s (bxP (rd l k))) (Kz (rd l i).s (rd l k).s (bxP (rd l k))) (rd l i).s =0:=by
 have hS:=L.sck i hi;have hT:=L.sck k hk;have hb:=L.val k hk;have hr:=hn (rd l i) (by grind [Yo]);have hr2:=hn (rd l k) (by grind [Yo]);obtain ⟨nS,_⟩:=y3b hr;obtain ⟨nT,_⟩:=y3b hr2;have side: ∀q s p,p≠w8g q s (bxP (rd l i))→(PS q s (rd l i).s (rd l k).s (bxP (rd l k)) p).length ≤0:=fun q s p hne=>by
  obtain ⟨c,pts,_⟩:=w7e hS hT hb nS nT q s p;have:PS q s (rd l i).s (rd l k).s (bxP (rd l k)) p=[]:=y1a Wr c fun ⟨u,v⟩ m=>by obtain ⟨k1,k2,_⟩:=(pts u v).1 m;have b1:q.inB (bxP (rd l i)) (y8n s p) u v:=(v9h q _ _ _ _).2 (L.ins i hi _ _ _ ((q.inL_S _ _ _ _).1 k1));exact hik (L.dis i k hi hk _ _ _ ((v9h q _ _ _ _).1 (x1g b1 hne)) ((v9h q _ _ _ _).1 k2))
  grind
 have one: ∀q s,(z1b (Kz (rd l i).s (rd l k).s (bxP (rd l k))) (z5m q s:Int) (plQ q (rd l i).s)).length ≤288:=fun q s=>by
  rw [x4e];have:=w4o (e:=w8g q s (bxP (rd l i))) (f:=fun p=>(Kz (rd l i).s (rd l k).s (bxP (rd l k)) (z5m q s:Int) p).length) (g:=fun _=>0) (z7f q (rd l i).s) fun p hp=>by
   show (Kz (rd l i).s (rd l k).s (bxP (rd l k)) (z5m q s:Int) p).length ≤288∧(p≠w8g q s (bxP (rd l i))→(Kz (rd l i).s (rd l k).s (bxP (rd l k)) (z5m q s:Int) p).length ≤0);rw [(x8t hS hT hb nS nT q s (pl12 hr q hp)).2]
   grind [w7e]
  have z: ∀P:List Int,(P.map fun _=>(0:Nat)).sum =0:=fun P=>by
   induction P with
   | nil=>rfl
   | cons _ _ ih=>grind
  grind
 have dK:(z9x (Kz (rd l i).s (rd l k).s (bxP (rd l k))) (rd l i).s 6 0).length ≤3000:=by have a:=one .x true;have b:=one .x false;have c:=one .y true;have d:=one .y false;have e:=one .z true;have f:=one .z false;rw [w7c];omega
 grind [y8a,x8t,x8l]
end
theorem v4h (b:R6):rvbR b=true↔z4g b=true:=by
 grind [rvbR,rvbV,x7z,x4z,x8k]
theorem can1 (a b:Int) (h:a<b):z5s.can [⟨a,b⟩]:=⟨by simpa using h,by simp⟩
theorem y0z {b:R6} (h:z4g b=true):Zn [b]=0:=by have v:=Ka h;refine y3w (show 1≤400 by decide) (fun r hr=>by grind) ⟨[⟨b.c,b.f,[⟨b.a,b.b,b.d,b.e⟩]⟩],.one _ ⟨by grind,⟨[⟨b.a,b.d,[⟨b.b,b.e⟩]⟩],.one _ ⟨by grind,can1 b.b b.e (by omega),by simp⟩,rfl⟩,by simp⟩,rfl⟩
theorem u3v {a b:R6} (ha:z4g a=true) (hb:z4g b=true):v6x a b= !eqB (w9l a b) o6:=by
 have va:=Ka ha;have vb:=Ka hb;unfold v6x j1a w9l y0c
 grind [x3z,x3y,eqB,o6]
theorem j6t {a b:R6} (ha:z4g a=true):insR a b=eqB (w9l a b) a:=by
 have va:=Ka ha
 grind [insR,j1n,w9l,y0c,x3z,x3y,eqB]
theorem v3y : ∀l:List Pa,skE l=rkE l
 | []=>rfl
 | x::l=>by unfold skE rkE;rw [w6z,v3y l]
theorem any_cg {α:Type} {f g:α→Bool}: ∀{l:List α},(∀x∈l,f x=g x)→l.any f=l.any g
 | [],_=>rfl
 | x::l,h=>by grind
theorem u7x {l:List Pa} (hs: ∀x∈l,Zn x.s=0): ∀(k i:Nat),i+k≤l.length→(∀j,j<i→z4g (bxP (rd l j))=true)→skG l k i=rkG l k i
 | 0,_,_,_=>rfl
 | k +1,i,h,hv=>by
  have hi:i<l.length:=by omega
  have hsi:=hs (rd l i) (by grind [Yo]);obtain ⟨_,sv,_,_⟩:=Vh hsi;show (bif x7h l i then (8:Int) else skG l k (i+1))=bif j5j l i then 8 else rkG l k (i+1);by_cases hb:z4g (bxP (rd l i))=true
  ·have e1:(Zn [bxP (rd l i)] != 0)=false:=by rw [y0z hb];rfl
   have e2:(!rvbR (bxP (rd l i)))=false:=by rw [(v4h _).2 hb];rfl
   have e:x7h l i=j5j l i:=by
    unfold x7h j5j;rw [e1,e2]
    congr 2
    ·grind [j6t]
    ·refine any_cg fun y hy=> ?_;obtain ⟨j,hj,rfl⟩:=AN hy
     grind [Yo,u3v]
   rw [e,u7x hs k (i+1) (by omega) fun j hj=>by
    rcases A7 (Nat.le_of_lt_succ hj) with rfl | g
    ·exact hb
    ·exact hv j g]
  grind [j9t,v4h,x7h,j5j]
theorem chk_eq (l:List Pa):z1l l=u9a l:=by
 unfold z1l u9a;rw [v3y];cases g:decide (50<l.length) with
 | true=>rfl
 | false=>
  rw [Aa,Aa];rcases Yp (rkE l != 0) with q | q
  ·rw [q];rfl
  ·rw [q,Aa,Aa];have h0:skE l=0:=by rw [v3y];simpa using q
   grind [u7x,x2m]
end Go.Am
end
