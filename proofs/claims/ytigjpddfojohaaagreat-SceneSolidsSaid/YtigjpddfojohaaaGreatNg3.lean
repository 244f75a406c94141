/- A part of a proof: several texts in one. -/
import Derived.Test.YtigjpddfojohaaaGreatNg2
import Derived.Sort.AssemblyPlain
import Derived.Lib.BitFns
import Derived.Shelf.GgSortFunc.InsertionK
import Derived.Ground.SlsfProg
import Derived.Shelf.SlSortCmp.WholeK
import Derived.Shelf.Strings.Builder1
import Derived.Shelf.Strings.Builder2
import Derived.Shelf.Strings.OnBuilder
import Derived.Shelf.Small.Bits
import Derived.Shelf.Utf8.RuneCount
import Derived.Shelf.Strconv.Itoa0
import Derived.Shelf.Strings.Search1
import Derived.Shelf.Strings.Search2
import Derived.Shelf.Strings.Search3
import Derived.Shelf.Strings.Cut
import Derived.Shelf.Strings.Count
import Derived.Shelf.LaysM
import Derived.Shelf.Strings.Shaped
import Derived.Shelf.Sort.Plain
import Derived.Shelf.Strings.Prefix
import Derived.Shelf.Strings.Split
import Derived.Shelf.Strings.RuneCount
import Derived.Ground.Names2Prog
import Derived.Shelf.Slices.ReverseS
import Derived.Shelf.Slices.CompactI
import Derived.Shelf.Slices.SearchI
import Derived.Shelf.Slices.Cells
import Derived.Shelf.Slices.In.SortNone
import Derived.Test.YtigjpddfojohaaaGreatProg
import Derived.Shelf.SlSortCmp.NoneTotal
set_option maxRecDepth 1000000
set_option maxHeartbeats 8000000
set_option linter.unusedVariables false
set_option linter.unusedSimpArgs false
noncomputable section
namespace Go.Am
open IntKind (wrap)
open Go.Proofs.Tryz
open Go.Proofs
inductive Dw where
 | h0 (v3:zp) (v4:Int)
 | h1 (v3:zp) (v4:Int) (v5:Int)
def v4n (l0:zp):Dw->CI
 | .h0 v3 v4=>⟨⟨63,0,true⟩,none,(Zq prog 117 (pn 75) 0),none,(Zy prog 5),⟨Zs [(0,(dt l0)),(3,(.sla 0 1 0 v3.length (.un 1))),(4,(ii v4))],Xe [(rz v3 3 1)] 0,1,[],true⟩,[],.leaf⟩
 | .h1 v3 v4 v5=>⟨⟨63,0,true⟩,none,(Zq prog 117 (pn 8779) 0),none,(Zy prog 5),⟨Zs [(0,(dt l0)),(3,(.sla 0 1 0 v3.length (.un 1))),(4,(ii v4)),(5,(ii v5))],Xe [(rz v3 3 1)] 0,1,[],true⟩,[],.leaf⟩
def ZH :List (Option zr):=[some [0,3,4]]
def ZG :List (Option zr):=[]
def v4l :List (Option zr):=[some [0,3,4,5]]
def v4m :List (Option zr):=[]
def Ug (l0:zp):Dw->Yr Dw
 | .h0 v3 v4=>(bif (decide (v4<(l0.length:Int))) then (.to (.h1 v3 v4 (v3.length:Int))) else (.ret [(dt v3)]))
 | .h1 v3 v4 v5=>let a:=EX (v3++[0]) (0+v5.toNat) ((v3.length+1) - v5.toNat);let b:=rd l0 v4.toNat;(bif (decide (v5>0)) then (bif ((decide (0<=(wrap .i64 (v5 - 1))/\(wrap .i64 (v5 - 1))<(v3.length:Int)))&&true) then (bif (decide ((0+(Int.toNat (wrap .i64 (v5 - 1))))<v3.length)) then (bif ((decide (0<=v4/\v4<(l0.length:Int)))&&true) then (bif (decide ((rd v3 (0+(Int.toNat (wrap .i64 (v5 - 1)))))>b)) then (.to (.h1 v3 v4 (wrap .i64 (v5 - 1)))) else (bif ((rd v3 (0+(Int.toNat (wrap .i64 (v5 - 1))))) == b) then (.to (.h0 v3 (wrap .i64 (v4+1)))) else (bif (Nat.beq 1 1&&((decide (0+v3.length=v3.length))&&decide ((v3.length+1+1)*(8+1)<=Jm))) then (bif (true&&((decide (0<=(wrap .i64 (v5+1))))&&(decide ((v3.length+1)<=(v3.length+1))&&decide ((Int.toNat (wrap .i64 (v5+1)))<=(v3.length+1))))) then (bif (true&&((decide (0<=v5))&&(decide ((v3.length+1)<=(v3.length+1))&&decide (v5.toNat<=(v3.length+1))))) then (bif (decide ((0+v5.toNat)+((v3.length+1) - v5.toNat)<=(v3.length+1))) then (bif (decide ((0+(Int.toNat (wrap .i64 (v5+1))))+((v3.length+1) - (Int.toNat (wrap .i64 (v5+1))))<=(v3.length+1))) then (bif ((decide (0<=v5/\v5<(((v3.length+1):Nat):Int)))&&true) then (bif (decide ((0+v5.toNat)<(v3.length+1))) then (.to (.h0 ((Ea (v3++[0]) (0+(Int.toNat (wrap .i64 (v5+1)))) (Nat.min ((v3.length+1) - v5.toNat) ((v3.length+1) - (Int.toNat (wrap .i64 (v5+1))))) a).set (0+v5.toNat) b) (wrap .i64 (v4+1)))) else .stuck) else .stuck) else .stuck) else .stuck) else .stuck) else .stuck) else .stuck))) else .stuck) else .stuck) else .stuck) else (bif (Nat.beq 1 1&&((decide (0+v3.length=v3.length))&&decide ((v3.length+1+1)*(8+1)<=Jm))) then (bif (true&&((decide (0<=(wrap .i64 (v5+1))))&&(decide ((v3.length+1)<=(v3.length+1))&&decide ((Int.toNat (wrap .i64 (v5+1)))<=(v3.length+1))))) then (bif (true&&((decide (0<=v5))&&(decide ((v3.length+1)<=(v3.length+1))&&decide (v5.toNat<=(v3.length+1))))) then (bif (decide ((0+v5.toNat)+((v3.length+1) - v5.toNat)<=(v3.length+1))) then (bif (decide ((0+(Int.toNat (wrap .i64 (v5+1))))+((v3.length+1) - (Int.toNat (wrap .i64 (v5+1))))<=(v3.length+1))) then (bif ((decide (0<=v4/\v4<(l0.length:Int)))&&true) then (bif ((decide (0<=v5/\v5<(((v3.length+1):Nat):Int)))&&true) then (bif (decide ((0+v5.toNat)<(v3.length+1))) then (.to (.h0 ((Ea (v3++[0]) (0+(Int.toNat (wrap .i64 (v5+1)))) (Nat.min ((v3.length+1) - v5.toNat) ((v3.length+1) - (Int.toNat (wrap .i64 (v5+1))))) a).set (0+v5.toNat) b) (wrap .i64 (v4+1)))) else .stuck) else .stuck) else .stuck) else .stuck) else .stuck) else .stuck) else .stuck) else .stuck))
def W6 (l0:zp):Yr Dw:=(.to (.h0 ([]:zp) 0))
theorem x4w (l0:zp): ∀s,Xx prog (Zy prog 117) (v4n l0) (v4n l0 s) (Ug l0 s)
 | .h0 v3 v4=>(lb (fun k0=>(sl Zc 21 [] ⟨[0],[],v4l,v4m⟩ a6 [true] (pp (fl v3 nn) (tt k0 nn)))) (fun k0=>(lr 63 3 (pn 767) 1 5 [(2,(dt v3))] (sl Zc 15 [] ⟨[],[0],[some [2]],[]⟩ ⟨[(2,.frz v3.length v3.length (Zz v3) (Zz v3))],[],[]⟩ [false] (pp (xZ (Cv 1 1 0 v3.length v3.length (Zz v3)) v3.length (Zz v3)) (pp (xL v3.length v3.length) (pp (xS v3.length (Zz v3) (Zz v3)) (pp (fl v3 nn) (tt k0 nn)))))))))
 | .h1 v3 v4 v5=>let p:=v3.length+1;let i:=p;let r:=tn (wr (v5+1));let j:=r;let l:=i - (tn v5);let a:=Ea (v3++[0]) (0+j) (Nat.min l (i - j)) (EX (v3++[0]) (0+(tn v5)) l);let q:=rd l0 (tn v4);let d:=a.set (0+(tn v5)) q;let t:=p - (tn v5);let m:=Nat.min t (p - r);let n:=Zf (Zz v3) 0 v3.length 1 [(ii 0)];let o:=Ea (v3++[0]) (0+r) m (EX (v3++[0]) (0+(tn v5)) t);let s:=o.set (0+(tn v5)) q;let u:=decide ((0+(tn v5))+t<=p);let v:=Nat.beq 1 1;(lb (fun k0=>(lo fun aL=>(lo fun aT=>(lo fun bR=>let h:=ww bR (ww aT (ww aL (tt k0 nn)));(lb (fun k1=>(sl Zc 13 [] ⟨[0],[],v4l,v4m⟩ a6 (CK 11 []) (pp (fl v3 nn) (tt k1 h)))) (fun k1=>let e:=ww bR (ww aT (ww aL (tt k0 (tt k1 h))));(lb (fun k2=>(sl Zc 16 [] ⟨[0],[],ZH,ZG⟩ a6 (CK 10 (bl 12 4094)) (pp (fl v3 nn) (tt k2 e)))) (fun k2=>(lo fun o0=>(lo fun o1=>(lo fun o2=>(lo fun o3=>(lo fun o4=>(lo fun o5=>(lo fun o6=>let b:=xL p s.length;let f:=xG v;(sl Zc 36 [] ⟨[2],[],ZH,ZG⟩ ⟨[(3,.len d.length)],[.rowed 1 d.length (Zz d)],[]⟩ (CK 10 (bl 12 2046)) (pp b (pp b (pp (xS p (Xi (Uh n (0+r) m (fun k=>n ((0+(tn v5))+k))) (0+(tn v5)) 0 [(ii q)]) (Zz s)) (pp (pp (xF (Xi (Uh n (0+r) m (fun k=>n ((0+(tn v5))+k))) (0+(tn v5)) 0 [(ii q)])) nn) (ww o6 (ww o5 (ww bR (pp (pp f (pp f (pp (xw o4) (pp f (pp f (pp (xG u) (xG (ES 1 t (fun k=>n ((0+(tn v5))+k)))))))))) (ww o2 (ww o1 (ww o0 (tt k2 e)))))))))))))))))))))))))))) (fun k0=>(lo fun o0=>(lo fun o1=>(lo fun o2=>(lo fun o3=>(lo fun o4=>(lo fun o5=>(lo fun o6=>(lo fun o7=>let c:=xL p s.length;let g:=xG v;(sl Zc 36 [] ⟨[2],[],ZH,ZG⟩ ⟨[(3,.len d.length)],[.rowed 1 d.length (Zz d)],[]⟩ (bl 22 0) (pp c (pp c (pp (xS p (Xi (Uh n (0+r) m (fun k=>n ((0+(tn v5))+k))) (0+(tn v5)) 0 [(ii q)]) (Zz s)) (pp (pp (xF (Xi (Uh n (0+r) m (fun k=>n ((0+(tn v5))+k))) (0+(tn v5)) 0 [(ii q)])) nn) (ww o7 (ww o6 (ww o5 (pp (pp g (pp g (pp (xw o4) (pp g (pp g (pp (xG u) (xG (ES 1 t (fun k=>n ((0+(tn v5))+k)))))))))) (ww o2 (ww o1 (ww o0 (tt k0 (tt k0 nn))))))))))))))))))))))))
theorem x2j (l0:zp):Xx prog (Zy prog 117) (v4n l0) (Zp prog 117 [(dt l0)] true []) (W6 l0):=(sl Zc 15 [(3,1,Zz ([]:zp))] ⟨[0],[],ZH,ZG⟩ ⟨[(3,.grow 0 1)],[],[]⟩ [] (pp (fl ([]:zp) nn) nn))
theorem w8u (l0:zp) (n:Nat) (vs:zy) (h:Yx (Ug l0) n (W6 l0)=.ret vs):Vi prog (Zy prog 117) (Zp prog 117 [(dt l0)] true []) vs:=by have:=Zg (x4w l0) n _ (x2j l0);rwa [h] at this
inductive Ey where
 | h0 (v5:zq) (v6:Int)
def j4y (l0:zp) (l1:List Bool):Ey->CI
 | .h0 v5 v6=>⟨⟨61,0,true⟩,none,(Zq prog 122 (pn 75) 0),none,(Zy prog 4),⟨Zs [(0,(dt l0)),(1,(dt l1)),(5,(.sla 0 2 0 v5.length (.un 2))),(6,(ii v6))],Xe [(rz v5 180 2)] 0,1,[],true⟩,[],.leaf⟩
def Th :List (Option zr):=[some [0,1,5,6]]
def Tg :List (Option zr):=[]
def HG (l0:zp) (l1:List Bool):Ey->Yr Ey
 | .h0 v5 v6=>let c:=rd l0 v6.toNat;(bif (decide ((wrap .i64 (v6+1))<(l0.length:Int))) then (bif ((decide (0<=v6/\v6<(l1.length:Int)))&&true) then (bif (!(rd l1 v6.toNat)) then (.to (.h0 v5 (wrap .i64 (v6+1)))) else (bif (decide ((v5.length:Int)>0)) then (bif ((decide (0<=(wrap .i64 ((v5.length:Int) - 1))/\(wrap .i64 ((v5.length:Int) - 1))<(v5.length:Int)))&&true) then (bif (decide ((0+(Int.toNat (wrap .i64 ((v5.length:Int) - 1))))<v5.length)) then (bif ((decide (0<=v6/\v6<(l0.length:Int)))&&true) then (bif ((rd v5 (0+(Int.toNat (wrap .i64 ((v5.length:Int) - 1))))).b == c) then (bif ((decide (0<=(wrap .i64 (v6+1))/\(wrap .i64 (v6+1))<(l0.length:Int)))&&true) then (.to (.h0 (v5.set (0+(Int.toNat (wrap .i64 ((v5.length:Int) - 1)))) (R2.mk (rd v5 (0+(Int.toNat (wrap .i64 ((v5.length:Int) - 1))))).a (rd l0 (Int.toNat (wrap .i64 (v6+1)))))) (wrap .i64 (v6+1)))) else .stuck) else (bif ((decide (0<=(wrap .i64 (v6+1))/\(wrap .i64 (v6+1))<(l0.length:Int)))&&true) then (bif (Nat.beq 2 2&&((decide (0+v5.length=v5.length))&&decide ((v5.length+1+1)*(16+1)<=Jm))) then (.to (.h0 (v5++[(R2.mk c (rd l0 (Int.toNat (wrap .i64 (v6+1)))))]) (wrap .i64 (v6+1)))) else .stuck) else .stuck)) else .stuck) else .stuck) else .stuck) else (bif ((decide (0<=v6/\v6<(l0.length:Int)))&&true) then (bif ((decide (0<=(wrap .i64 (v6+1))/\(wrap .i64 (v6+1))<(l0.length:Int)))&&true) then (bif (Nat.beq 2 2&&((decide (0+v5.length=v5.length))&&decide ((v5.length+1+1)*(16+1)<=Jm))) then (.to (.h0 (v5++[(R2.mk c (rd l0 (Int.toNat (wrap .i64 (v6+1)))))]) (wrap .i64 (v6+1)))) else .stuck) else .stuck) else .stuck))) else .stuck) else (.ret [(dt v5)]))
def Y5 (l0:zp) (l1:List Bool):Yr Ey:=(.to (.h0 ([]:zq) 0))
theorem w0y (l0:zp) (l1:List Bool): ∀s,Xx prog (Zy prog 122) (j4y l0 l1) (j4y l0 l1 s) (HG l0 l1 s)
 | .h0 v5 v6=>(lb (fun k0=>(lo fun aL=>let h:=ww aL (tt k0 nn);(lb (fun k1=>(sl Zc 30 [] ⟨[0],[],Th,Tg⟩ a6 (bl 2 3) (pp (fl v5 nn) (tt k1 h)))) (fun k1=>let l:=rd l0 (tn (wr (v6+1)));let j:=l;let s:=rd l0 (tn v6);let b:=v5++[(R2.mk s j)];let n:=Zf (Zz v5) 0 v5.length 2 [(ii s),(ii l)];let o:=v5++[(R2.mk s l)];let q:=v5.length+1;(lb (fun k2=>(lo fun bS=>(lo fun cW=>(lo fun cX=>let g:=ww cX (ww cW (ww bS (tt k2 (tt k1 h))));(lb (fun k3=>(lo fun o0=>let m:=tn (wr ((v5.length:Int) - 1));let i:=m;let c:=v5.set (0+i) (R2.mk (rd v5 (0+i)).a j);let p:=v5.set (0+m) (R2.mk (rd v5 (0+m)).a l);let d:=xL v5.length p.length;let r:=Xi (Zz v5) (0+m) 1 [(ii l)];(sl Zc 53 [] ⟨[0],[],Th,Tg⟩ ⟨[(5,.len c.length)],[.rowed 2 c.length (Zz c)],[]⟩ (bl 14 16381) (pp d (pp d (pp (xS v5.length r (Zz p)) (pp (pp (xF r) nn) (ww cW (ww bS (ww o0 (tt k3 g))))))))))) (fun k3=>(lo fun o0=>(lo fun o1=>let e:=xL q o.length;(sl Zc 41 [] ⟨[2],[],Th,Tg⟩ ⟨[(5,.len b.length)],[.rowed 2 b.length (Zz b)],[]⟩ (bl 14 8189) (pp e (pp e (pp (xS q n (Zz o)) (pp (pp (xF n) nn) (ww o1 (ww o0 (ww cX (tt k3 g))))))))))))))))) (fun k2=>(lo fun o0=>(lo fun o1=>(lo fun o2=>let f:=xL q o.length;(sl Zc 41 [] ⟨[2],[],Th,Tg⟩ ⟨[(5,.len b.length)],[.rowed 2 b.length (Zz b)],[]⟩ (bl 14 1) (pp f (pp f (pp (xS q n (Zz o)) (pp (pp (xF n) nn) (ww o2 (ww o1 (ww o0 (tt k2 (tt k1 h))))))))))))))))))) (fun k0=>(lr 61 3 (pn 767) 1 4 [(4,(dt v5))] (sl Zc 16 [] ⟨[],[0],[some [4]],[]⟩ ⟨[(4,.frz v5.length v5.length (Zz v5) (Zz v5))],[],[]⟩ [false] (pp (xZ (Cv 2 2 0 v5.length v5.length (Zz v5)) v5.length (Zz v5)) (pp (xL v5.length v5.length) (pp (xS v5.length (Zz v5) (Zz v5)) (pp (fl v5 nn) (tt k0 nn)))))))))
theorem x5i (l0:zp) (l1:List Bool):Xx prog (Zy prog 122) (j4y l0 l1) (Zp prog 122 [(dt l0),(dt l1)] true []) (Y5 l0 l1):=(sl Zc 15 [(180,2,Zz ([]:zq))] ⟨[0],[],Th,Tg⟩ ⟨[(5,.grow 0 2)],[],[]⟩ [] (pp (fl ([]:zq) nn) nn))
theorem v5n (l0:zp) (l1:List Bool) (n:Nat) (vs:zy) (h:Yx (HG l0 l1) n (Y5 l0 l1)=.ret vs):Vi prog (Zy prog 122) (Zp prog 122 [(dt l0),(dt l1)] true []) vs:=by have:=Zg (w0y l0 l1) n _ (x5i l0 l1);rwa [h] at this
inductive Hm where
 | h0 (v5:Int)
def OK (l0:zq) (l1:zq):Hm->CI
 | .h0 v5=>⟨⟨26,0,true⟩,none,(Zq prog 123 (pn 75) 0),none,(Zy prog 4),⟨Zs [(0,(dt l0)),(1,(dt l1)),(5,(ii v5))],Xe [] 0,0,[],true⟩,[],.leaf⟩
def LE :List (Option zr):=[some [0,1,5]]
def LF :List (Option zr):=[]
def NF (l0:zq) (l1:zq):Hm->Yr Hm
 | .h0 v5=>let c:=rd l1 v5.toNat;let d:=rd l0 v5.toNat;(bif (decide (v5<(l0.length:Int))) then (bif ((decide (0<=v5/\v5<(l0.length:Int)))&&true) then (bif ((decide (0<=v5/\v5<(l1.length:Int)))&&true) then (bif (!((d.a == c.a)&&((d.b == c.b)&&true))) then (.ret [(.bool false)]) else (.to (.h0 (wrap .i64 (v5+1))))) else .stuck) else .stuck) else (.ret [(.bool true)]))
def SZ (l0:zq) (l1:zq):Yr Hm:=(bif ((l0.length:Int) != (l1.length:Int)) then (.ret [(.bool false)]) else (.to (.h0 0)))
theorem w8v (l0:zq) (l1:zq): ∀s,Xx prog (Zy prog 123) (OK l0 l1) (OK l0 l1 s) (NF l0 l1 s)
 | .h0 v5=>(lb (fun k0=>(lo fun aL=>(lo fun aT=>let a:=ww aT (ww aL (tt k0 nn));(lb (fun k1=>(lr 26 123 (pn 4683) 1 4 [(4,(.bool false))] (sl Zc 19 [] (a7 [4]) a6 (bl 2 3) (tt k1 a)))) (fun k1=>(sl Zc 23 [] ⟨[],[],LE,LF⟩ a6 (bl 2 1) (tt k1 a))))))) (fun k0=>(lr 26 3 (pn 767) 1 4 [(4,(.bool true))] (sl Zc 14 [] (a7 [4]) a6 [false] (tt k0 nn)))))
theorem x9f (l0:zq) (l1:zq):Xx prog (Zy prog 123) (OK l0 l1) (Zp prog 123 [(dt l0),(dt l1)] true []) (SZ l0 l1):=(lb (fun k0=>(lr 26 123 (pn 37) 1 4 [(4,(.bool false))] (sl Zc 18 [] (a7 [4]) a6 [true] (tt k0 nn)))) (fun k0=>(sl Zc 22 [] ⟨[],[],LE,LF⟩ a6 [false] (tt k0 nn))))
theorem u0x (l0:zq) (l1:zq) (n:Nat) (vs:zy) (h:Yx (NF l0 l1) n (SZ l0 l1)=.ret vs):Vi prog (Zy prog 123) (Zp prog 123 [(dt l0),(dt l1)] true []) vs:=by have:=Zg (w8v l0 l1) n _ (x9f l0 l1);rwa [h] at this
inductive Eu where
 | h0 (v7:Int)
def j4l (l0:zw) (x1:Int) (x2:Int):Eu->CI
 | .h0 v7=>⟨⟨48,0,true⟩,none,(Zq prog 121 (pn 37) 0),none,(Zy prog 3),⟨Zs [(0,(dt l0)),(1,(ii x1)),(2,(ii x2)),(7,(ii v7))],Xe [] 0,0,[],true⟩,[],.leaf⟩
def Tl :List (Option zr):=[some [0,1,2,7]]
def Tk :List (Option zr):=[]
def RR (l0:zw) (x1:Int) (x2:Int):Eu->Yr Eu
 | .h0 v7=>let e:=rd l0 v7.toNat;(bif (decide (v7<(l0.length:Int))) then (bif ((decide (0<=v7/\v7<(l0.length:Int)))&&true) then (bif (decide (e.a <=x1)) then (bif (decide (x1<e.c)) then (bif (decide (e.b <=x2)) then (bif (decide (x2<e.d)) then (.ret [(.bool true)]) else (.to (.h0 (wrap .i64 (v7+1))))) else (.to (.h0 (wrap .i64 (v7+1))))) else (.to (.h0 (wrap .i64 (v7+1))))) else (.to (.h0 (wrap .i64 (v7+1))))) else .stuck) else (.ret [(.bool false)]))
def WS (l0:zw) (x1:Int) (x2:Int):Yr Eu:=(.to (.h0 0))
theorem w0g (l0:zw) (x1:Int) (x2:Int): ∀s,Xx prog (Zy prog 121) (j4l l0 x1 x2) (j4l l0 x1 x2 s) (RR l0 x1 x2 s)
 | .h0 v7=>(lb (fun k0=>(lo fun aL=>let c:=ww aL (tt k0 nn);(lb (fun k1=>let a:=ww aL (tt k1 c);(lb (fun k2=>let d:=ww aL (tt k2 a);(lb (fun k3=>let b:=ww aL (tt k3 d);(lb (fun k4=>(lr 48 121 (pn 2341) 1 3 [(6,(.bool true))] (sl Zc 54 [] (a7 [6]) a6 (CK 23 []) (tt k4 b)))) (fun k4=>(sl Zc 58 [] ⟨[],[],Tl,Tk⟩ a6 (CK 22 [false]) (tt k4 b))))) (fun k3=>(sl Zc 58 [] ⟨[],[],Tl,Tk⟩ a6 (CK 15 (bl 8 0)) (tt k3 d))))) (fun k2=>(sl Zc 58 [] ⟨[],[],Tl,Tk⟩ a6 (CK 8 (bl 15 0)) (tt k2 a))))) (fun k1=>(sl Zc 58 [] ⟨[],[],Tl,Tk⟩ a6 (bl 23 1) (tt k1 c)))))) (fun k0=>(lr 48 3 (pn 767) 1 3 [(6,(.bool false))] (sl Zc 14 [] (a7 [6]) a6 [false] (tt k0 nn)))))
theorem x4z (l0:zw) (x1:Int) (x2:Int):Xx prog (Zy prog 121) (j4l l0 x1 x2) (Zp prog 121 [(dt l0),(.int .i64 x1),(.int .i64 x2)] true []) (WS l0 x1 x2):=(sl Zc 11 [] ⟨[],[],Tl,Tk⟩ a6 [] nn)
theorem v4w (l0:zw) (x1:Int) (x2:Int) (n:Nat) (vs:zy) (h:Yx (RR l0 x1 x2) n (WS l0 x1 x2)=.ret vs):Vi prog (Zy prog 121) (Zp prog 121 [(dt l0),(.int .i64 x1),(.int .i64 x2)] true []) vs:=by have:=Zg (w0g l0 x1 x2) n _ (x4z l0 x1 x2);rwa [h] at this
inductive Hl where
 | h0 (v5:Int)
def OJ (l0:zw) (l1:zw):Hl->CI
 | .h0 v5=>⟨⟨26,0,true⟩,none,(Zq prog 91 (pn 75) 0),none,(Zy prog 4),⟨Zs [(0,(dt l0)),(1,(dt l1)),(5,(ii v5))],Xe [] 0,0,[],true⟩,[],.leaf⟩
def LC :List (Option zr):=[some [0,1,5]]
def LD :List (Option zr):=[]
def NG (l0:zw) (l1:zw):Hl->Yr Hl
 | .h0 v5=>let e:=rd l1 v5.toNat;let f:=rd l0 v5.toNat;(bif (decide (v5<(l0.length:Int))) then (bif ((decide (0<=v5/\v5<(l0.length:Int)))&&true) then (bif ((decide (0<=v5/\v5<(l1.length:Int)))&&true) then (bif (!((f.a == e.a)&&((f.b == e.b)&&((f.c == e.c)&&((f.d == e.d)&&true))))) then (.ret [(.bool false)]) else (.to (.h0 (wrap .i64 (v5+1))))) else .stuck) else .stuck) else (.ret [(.bool true)]))
def S0 (l0:zw) (l1:zw):Yr Hl:=(bif ((l0.length:Int) != (l1.length:Int)) then (.ret [(.bool false)]) else (.to (.h0 0)))
theorem w8t (l0:zw) (l1:zw): ∀s,Xx prog (Zy prog 91) (OJ l0 l1) (OJ l0 l1 s) (NG l0 l1 s)
 | .h0 v5=>(lb (fun k0=>(lo fun aL=>(lo fun aT=>let a:=ww aT (ww aL (tt k0 nn));(lb (fun k1=>(lr 26 91 (pn 4683) 1 4 [(4,(.bool false))] (sl Zc 19 [] (a7 [4]) a6 (bl 2 3) (tt k1 a)))) (fun k1=>(sl Zc 23 [] ⟨[],[],LC,LD⟩ a6 (bl 2 1) (tt k1 a))))))) (fun k0=>(lr 26 3 (pn 767) 1 4 [(4,(.bool true))] (sl Zc 14 [] (a7 [4]) a6 [false] (tt k0 nn)))))
theorem x9e (l0:zw) (l1:zw):Xx prog (Zy prog 91) (OJ l0 l1) (Zp prog 91 [(dt l0),(dt l1)] true []) (S0 l0 l1):=(lb (fun k0=>(lr 26 91 (pn 37) 1 4 [(4,(.bool false))] (sl Zc 18 [] (a7 [4]) a6 [true] (tt k0 nn)))) (fun k0=>(sl Zc 22 [] ⟨[],[],LC,LD⟩ a6 [false] (tt k0 nn))))
theorem u0w (l0:zw) (l1:zw) (n:Nat) (vs:zy) (h:Yx (NG l0 l1) n (S0 l0 l1)=.ret vs):Vi prog (Zy prog 91) (Zp prog 91 [(dt l0),(dt l1)] true []) vs:=by have:=Zg (w8t l0 l1) n _ (x9e l0 l1);rwa [h] at this
inductive Ho where
 | h0 (v5:Int)
def OM (l0:zx) (l1:zx):Ho->CI
 | .h0 v5=>⟨⟨26,0,true⟩,none,(Zq prog 19 (pn 75) 0),none,(Zy prog 4),⟨Zs [(0,(dt l0)),(1,(dt l1)),(5,(ii v5))],Xe [] 0,0,[],true⟩,[],.leaf⟩
def LK :List (Option zr):=[some [0,1,5]]
def LL :List (Option zr):=[]
def NE (l0:zx) (l1:zx):Ho->Yr Ho
 | .h0 v5=>let g:=rd l1 v5.toNat;let h:=rd l0 v5.toNat;(bif (decide (v5<(l0.length:Int))) then (bif ((decide (0<=v5/\v5<(l0.length:Int)))&&true) then (bif ((decide (0<=v5/\v5<(l1.length:Int)))&&true) then (bif (!(((h.a == g.a)&&((h.b == g.b)&&((h.c == g.c)&&true)))&&(((h.d == g.d)&&((h.e == g.e)&&((h.f == g.f)&&true)))&&true))) then (.ret [(.bool false)]) else (.to (.h0 (wrap .i64 (v5+1))))) else .stuck) else .stuck) else (.ret [(.bool true)]))
def SY (l0:zx) (l1:zx):Yr Ho:=(bif ((l0.length:Int) != (l1.length:Int)) then (.ret [(.bool false)]) else (.to (.h0 0)))
theorem w8x (l0:zx) (l1:zx): ∀s,Xx prog (Zy prog 19) (OM l0 l1) (OM l0 l1 s) (NE l0 l1 s)
 | .h0 v5=>(lb (fun k0=>(lo fun aL=>(lo fun aT=>let a:=ww aT (ww aL (tt k0 nn));(lb (fun k1=>(lr 26 19 (pn 4683) 1 4 [(4,(.bool false))] (sl Zc 19 [] (a7 [4]) a6 (bl 2 3) (tt k1 a)))) (fun k1=>(sl Zc 23 [] ⟨[],[],LK,LL⟩ a6 (bl 2 1) (tt k1 a))))))) (fun k0=>(lr 26 3 (pn 767) 1 4 [(4,(.bool true))] (sl Zc 14 [] (a7 [4]) a6 [false] (tt k0 nn)))))
theorem x9h (l0:zx) (l1:zx):Xx prog (Zy prog 19) (OM l0 l1) (Zp prog 19 [(dt l0),(dt l1)] true []) (SY l0 l1):=(lb (fun k0=>(lr 26 19 (pn 37) 1 4 [(4,(.bool false))] (sl Zc 18 [] (a7 [4]) a6 [true] (tt k0 nn)))) (fun k0=>(sl Zc 22 [] ⟨[],[],LK,LL⟩ a6 [false] (tt k0 nn))))
theorem u1a (l0:zx) (l1:zx) (n:Nat) (vs:zy) (h:Yx (NE l0 l1) n (SY l0 l1)=.ret vs):Vi prog (Zy prog 19) (Zp prog 19 [(dt l0),(dt l1)] true []) vs:=by have:=Zg (w8x l0 l1) n _ (x9h l0 l1);rwa [h] at this
inductive IM where
 | h0 (v5:zw) (v6:Int)
def Oc (l0:zx) (x1:Int):IM->CI
 | .h0 v5 v6=>⟨⟨60,0,true⟩,none,(Zq prog 90 (pn 75) 0),none,(Zy prog 4),⟨Zs [(0,(dt l0)),(1,(ii x1)),(5,(.sla 0 4 0 v5.length (.un 4))),(6,(ii v6))],Xe [(rz v5 155 4)] 0,1,[],true⟩,[],.leaf⟩
def u2q :List (Option zr):=[some [0,1,5,6]]
def u2r :List (Option zr):=[]
def Mu (l0:zx) (x1:Int):IM->Yr IM
 | .h0 v5 v6=>let g:=rd l0 v6.toNat;(bif (decide (v6<(l0.length:Int))) then (bif ((decide (0<=v6/\v6<(l0.length:Int)))&&true) then (bif (decide (g.c <=x1)) then (bif (decide (x1<g.f)) then (bif (Nat.beq 4 4&&((decide (0+v5.length=v5.length))&&decide ((v5.length+1+1)*(32+1)<=Jm))) then (.to (.h0 (v5++[(R4.mk g.a g.b g.d g.e)]) (wrap .i64 (v6+1)))) else .stuck) else (.to (.h0 v5 (wrap .i64 (v6+1))))) else (.to (.h0 v5 (wrap .i64 (v6+1))))) else .stuck) else (.ret [(dt v5)]))
def XZ (l0:zx) (x1:Int):Yr IM:=(.to (.h0 ([]:zw) 0))
theorem v0a (l0:zx) (x1:Int): ∀s,Xx prog (Zy prog 90) (Oc l0 x1) (Oc l0 x1 s) (Mu l0 x1 s)
 | .h0 v5 v6=>(lb (fun k0=>(lo fun aL=>let h:=ww aL (tt k0 nn);(lb (fun k1=>let i:=ww aL (tt k1 h);(lb (fun k2=>(lo fun o0=>let j:=rd l0 (tn v6);let g:=j;let c:=v5++[(R4.mk g.a g.b g.d g.e)];let m:=v5++[(R4.mk j.a j.b j.d j.e)];let n:=v5.length+1;let f:=xL n m.length;let l:=Zf (Zz v5) 0 v5.length 4 [(ii j.a),(ii j.b),(ii j.d),(ii j.e)];(sl Zc 42 [] ⟨[2],[],u2q,u2r⟩ ⟨[(5,.len c.length)],[.rowed 4 c.length (Zz c)],[]⟩ (CK 10 []) (pp f (pp f (pp (xS n l (Zz m)) (pp (pp (xF l) nn) (ww o0 (ww aL (ww aL (ww aL (ww aL (tt k2 i))))))))))))) (fun k2=>(sl Zc 42 [] ⟨[0],[],u2q,u2r⟩ a6 (CK 9 [false]) (pp (fl v5 nn) (tt k2 i)))))) (fun k1=>(sl Zc 42 [] ⟨[0],[],u2q,u2r⟩ a6 (bl 10 1) (pp (fl v5 nn) (tt k1 h))))))) (fun k0=>(lr 60 3 (pn 767) 1 4 [(4,(dt v5))] (sl Zc 15 [] ⟨[],[0],[some [4]],[]⟩ ⟨[(4,.frz v5.length v5.length (Zz v5) (Zz v5))],[],[]⟩ [false] (pp (xZ (Cv 4 4 0 v5.length v5.length (Zz v5)) v5.length (Zz v5)) (pp (xL v5.length v5.length) (pp (xS v5.length (Zz v5) (Zz v5)) (pp (fl v5 nn) (tt k0 nn)))))))))
theorem w0z (l0:zx) (x1:Int):Xx prog (Zy prog 90) (Oc l0 x1) (Zp prog 90 [(dt l0),(.int .i64 x1)] true []) (XZ l0 x1):=(sl Zc 15 [(155,4,Zz ([]:zw))] ⟨[0],[],u2q,u2r⟩ ⟨[(5,.grow 0 4)],[],[]⟩ [] (pp (fl ([]:zw) nn) nn))
theorem u2p (l0:zx) (x1:Int) (n:Nat) (vs:zy) (h:Yx (Mu l0 x1) n (XZ l0 x1)=.ret vs):Vi prog (Zy prog 90) (Zp prog 90 [(dt l0),(.int .i64 x1)] true []) vs:=by have:=Zg (v0a l0 x1) n _ (w0z l0 x1);rwa [h] at this
inductive Io where
 | h0 (v13:Int)
def Q0 (l0:zq) (l1:zq):Io->CI
 | .h0 v13=>⟨⟨26,0,true⟩,none,(Zq prog 148 (pn 75) 0),none,(Zy prog 4),⟨Zs [(0,(dt l0)),(1,(dt l1)),(12,(ii (l0.length:Int))),(13,(ii v13))],Xe [] 0,0,[],true⟩,[],.leaf⟩
def M8 :List (Option zr):=[some [0,1,12,13]]
def M9 :List (Option zr):=[]
def Mi (l0:zq) (l1:zq):Io->Yr Io
 | .h0 v13=>let c:=rd l1 v13.toNat;let d:=rd l0 v13.toNat;(bif (decide (v13<(l0.length:Int))) then (bif ((decide (0<=v13/\v13<(l0.length:Int)))&&true) then (bif ((decide (0<=v13/\v13<(l1.length:Int)))&&true) then (bif (!((d.a == c.a)&&((d.b == c.b)&&true))) then (.ret [(.bool false)]) else (.to (.h0 (wrap .i64 (v13+1))))) else .stuck) else .stuck) else (.ret [(.bool true)]))
def TF (l0:zq) (l1:zq):Yr Io:=(bif ((l0.length:Int) != (l1.length:Int)) then (.ret [(.bool false)]) else (.to (.h0 0)))
theorem v1x (l0:zq) (l1:zq): ∀s,Xx prog (Zy prog 148) (Q0 l0 l1) (Q0 l0 l1 s) (Mi l0 l1 s)
 | .h0 v13=>(lb (fun k0=>(lo fun aL=>(lo fun aT=>let a:=ww aT (ww aL (tt k0 nn));(lb (fun k1=>(lr 26 148 (pn 19659) 1 4 [(4,(.bool false))] (sl Zc 21 [] (a7 [4]) a6 (bl 2 3) (tt k1 a)))) (fun k1=>(sl Zc 24 [] ⟨[],[],M8,M9⟩ a6 (bl 2 1) (tt k1 a))))))) (fun k0=>(lr 26 3 (pn 767) 1 4 [(4,(.bool true))] (sl Zc 11 [] (a7 [4]) a6 [false] (tt k0 nn)))))
theorem w3l (l0:zq) (l1:zq):Xx prog (Zy prog 148) (Q0 l0 l1) (Zp prog 148 [(dt l0),(dt l1)] true []) (TF l0 l1):=(lb (fun k0=>(lr 26 148 (pn 37) 1 4 [(4,(.bool false))] (sl Zc 18 [] (a7 [4]) a6 [true] (tt k0 nn)))) (fun k0=>(sl Zc 24 [] ⟨[],[],M8,M9⟩ a6 [false] (tt k0 nn))))
theorem u5e (l0:zq) (l1:zq) (n:Nat) (vs:zy) (h:Yx (Mi l0 l1) n (TF l0 l1)=.ret vs):Vi prog (Zy prog 148) (Zp prog 148 [(dt l0),(dt l1)] true []) vs:=by have:=Zg (v1x l0 l1) n _ (w3l l0 l1);rwa [h] at this
inductive Im where
 | h0 (v13:Int)
def QZ (l0:zw) (l1:zw):Im->CI
 | .h0 v13=>⟨⟨26,0,true⟩,none,(Zq prog 116 (pn 75) 0),none,(Zy prog 4),⟨Zs [(0,(dt l0)),(1,(dt l1)),(12,(ii (l0.length:Int))),(13,(ii v13))],Xe [] 0,0,[],true⟩,[],.leaf⟩
def M6 :List (Option zr):=[some [0,1,12,13]]
def M7 :List (Option zr):=[]
def Mj (l0:zw) (l1:zw):Im->Yr Im
 | .h0 v13=>let e:=rd l1 v13.toNat;let f:=rd l0 v13.toNat;(bif (decide (v13<(l0.length:Int))) then (bif ((decide (0<=v13/\v13<(l0.length:Int)))&&true) then (bif ((decide (0<=v13/\v13<(l1.length:Int)))&&true) then (bif (!((f.a == e.a)&&((f.b == e.b)&&((f.c == e.c)&&((f.d == e.d)&&true))))) then (.ret [(.bool false)]) else (.to (.h0 (wrap .i64 (v13+1))))) else .stuck) else .stuck) else (.ret [(.bool true)]))
def TG (l0:zw) (l1:zw):Yr Im:=(bif ((l0.length:Int) != (l1.length:Int)) then (.ret [(.bool false)]) else (.to (.h0 0)))
theorem v1w (l0:zw) (l1:zw): ∀s,Xx prog (Zy prog 116) (QZ l0 l1) (QZ l0 l1 s) (Mj l0 l1 s)
 | .h0 v13=>(lb (fun k0=>(lo fun aL=>(lo fun aT=>let a:=ww aT (ww aL (tt k0 nn));(lb (fun k1=>(lr 26 116 (pn 19659) 1 4 [(4,(.bool false))] (sl Zc 21 [] (a7 [4]) a6 (bl 2 3) (tt k1 a)))) (fun k1=>(sl Zc 24 [] ⟨[],[],M6,M7⟩ a6 (bl 2 1) (tt k1 a))))))) (fun k0=>(lr 26 3 (pn 767) 1 4 [(4,(.bool true))] (sl Zc 11 [] (a7 [4]) a6 [false] (tt k0 nn)))))
theorem w3k (l0:zw) (l1:zw):Xx prog (Zy prog 116) (QZ l0 l1) (Zp prog 116 [(dt l0),(dt l1)] true []) (TG l0 l1):=(lb (fun k0=>(lr 26 116 (pn 37) 1 4 [(4,(.bool false))] (sl Zc 18 [] (a7 [4]) a6 [true] (tt k0 nn)))) (fun k0=>(sl Zc 24 [] ⟨[],[],M6,M7⟩ a6 [false] (tt k0 nn))))
theorem u5d (l0:zw) (l1:zw) (n:Nat) (vs:zy) (h:Yx (Mj l0 l1) n (TG l0 l1)=.ret vs):Vi prog (Zy prog 116) (Zp prog 116 [(dt l0),(dt l1)] true []) vs:=by have:=Zg (v1w l0 l1) n _ (w3k l0 l1);rwa [h] at this
inductive Il where
 | h0 (v13:Int)
def QY (l0:zx) (l1:zx):Il->CI
 | .h0 v13=>⟨⟨26,0,true⟩,none,(Zq prog 54 (pn 75) 0),none,(Zy prog 4),⟨Zs [(0,(dt l0)),(1,(dt l1)),(12,(ii (l0.length:Int))),(13,(ii v13))],Xe [] 0,0,[],true⟩,[],.leaf⟩
def M4 :List (Option zr):=[some [0,1,12,13]]
def M5 :List (Option zr):=[]
def Mk (l0:zx) (l1:zx):Il->Yr Il
 | .h0 v13=>let g:=rd l1 v13.toNat;let h:=rd l0 v13.toNat;(bif (decide (v13<(l0.length:Int))) then (bif ((decide (0<=v13/\v13<(l0.length:Int)))&&true) then (bif ((decide (0<=v13/\v13<(l1.length:Int)))&&true) then (bif (!(((h.a == g.a)&&((h.b == g.b)&&((h.c == g.c)&&true)))&&(((h.d == g.d)&&((h.e == g.e)&&((h.f == g.f)&&true)))&&true))) then (.ret [(.bool false)]) else (.to (.h0 (wrap .i64 (v13+1))))) else .stuck) else .stuck) else (.ret [(.bool true)]))
def TH (l0:zx) (l1:zx):Yr Il:=(bif ((l0.length:Int) != (l1.length:Int)) then (.ret [(.bool false)]) else (.to (.h0 0)))
theorem v1v (l0:zx) (l1:zx): ∀s,Xx prog (Zy prog 54) (QY l0 l1) (QY l0 l1 s) (Mk l0 l1 s)
 | .h0 v13=>(lb (fun k0=>(lo fun aL=>(lo fun aT=>let a:=ww aT (ww aL (tt k0 nn));(lb (fun k1=>(lr 26 54 (pn 19659) 1 4 [(4,(.bool false))] (sl Zc 21 [] (a7 [4]) a6 (bl 2 3) (tt k1 a)))) (fun k1=>(sl Zc 24 [] ⟨[],[],M4,M5⟩ a6 (bl 2 1) (tt k1 a))))))) (fun k0=>(lr 26 3 (pn 767) 1 4 [(4,(.bool true))] (sl Zc 11 [] (a7 [4]) a6 [false] (tt k0 nn)))))
theorem w3j (l0:zx) (l1:zx):Xx prog (Zy prog 54) (QY l0 l1) (Zp prog 54 [(dt l0),(dt l1)] true []) (TH l0 l1):=(lb (fun k0=>(lr 26 54 (pn 37) 1 4 [(4,(.bool false))] (sl Zc 18 [] (a7 [4]) a6 [true] (tt k0 nn)))) (fun k0=>(sl Zc 24 [] ⟨[],[],M4,M5⟩ a6 [false] (tt k0 nn))))
theorem u5c (l0:zx) (l1:zx) (n:Nat) (vs:zy) (h:Yx (Mk l0 l1) n (TH l0 l1)=.ret vs):Vi prog (Zy prog 54) (Zp prog 54 [(dt l0),(dt l1)] true []) vs:=by have:=Zg (v1v l0 l1) n _ (w3j l0 l1);rwa [h] at this
inductive I5 where
def PW (x0:Int) (x1:Bool) (x2:Bool):I5->CI
 :=nofun
def w2l (x0:Int) (x1:Bool) (x2:Bool):I5->Yr I5
 :=nofun
def XQ (x0:Int) (x1:Bool) (x2:Bool):Yr I5:=(bif (x0 == 1) then (bif x1 then (.ret [(.bool x2)]) else (.ret [(.bool false)])) else (bif (x0 == 2) then (bif x1 then (.ret [(.bool true)]) else (.ret [(.bool x2)])) else (bif x1 then (.ret [(.bool (!x2))]) else (.ret [(.bool false)]))))
theorem v1b (x0:Int) (x1:Bool) (x2:Bool): ∀s,Xx prog (Zy prog 120) (PW x0 x1 x2) (PW x0 x1 x2 s) (w2l x0 x1 x2 s)
 :=nofun
theorem w2m (x0:Int) (x1:Bool) (x2:Bool):Xx prog (Zy prog 120) (PW x0 x1 x2) (Zp prog 120 [(.int .i64 x0),(.bool x1),(.bool x2)] true []) (XQ x0 x1 x2):=(lb (fun k0=>(lb (fun k1=>(lr 24 120 (pn 37) 1 3 [(6,(.bool x2))] (sl Zc 19 [] (a7 [6]) a6 (bl 2 3) (tt k1 (tt k0 nn))))) (fun k1=>(lr 24 120 (pn 37) 1 3 [(6,(.bool false))] (sl Zc 19 [] (a7 [6]) a6 (bl 2 1) (tt k1 (tt k0 nn))))))) (fun k0=>(lb (fun k1=>let a:=tt k1 (tt k0 nn);(lb (fun k2=>(lr 24 120 (pn 75) 1 3 [(6,(.bool true))] (sl Zc 27 [] (a7 [6]) a6 (bl 3 6) (tt k2 a)))) (fun k2=>(lr 24 120 (pn 75) 1 3 [(6,(.bool x2))] (sl Zc 27 [] (a7 [6]) a6 (bl 3 2) (tt k2 a)))))) (fun k1=>let b:=tt k1 (tt k0 nn);(lb (fun k2=>(lr 24 3 (pn 767) 1 3 [(6,(.bool (!x2)))] (sl Zc 29 [] (a7 [6]) a6 (bl 4 12) (tt k2 b)))) (fun k2=>(lr 24 3 (pn 767) 1 3 [(6,(.bool false))] (sl Zc 29 [] (a7 [6]) a6 (bl 4 0) (tt k2 b)))))))))
theorem u4h (x0:Int) (x1:Bool) (x2:Bool) (n:Nat) (vs:zy) (h:Yx (w2l x0 x1 x2) n (XQ x0 x1 x2)=.ret vs):Vi prog (Zy prog 120) (Zp prog 120 [(.int .i64 x0),(.bool x1),(.bool x2)] true []) vs:=by have:=Zg (v1b x0 x1 x2) n _ (w2m x0 x1 x2);rwa [h] at this
inductive I9 where
def P3 (x0:Bool) (x1:Bool):I9->CI
 :=nofun
def w2t (x0:Bool) (x1:Bool):I9->Yr I9
 :=nofun
def x3k (x0:Bool) (x1:Bool):Yr I9:=(.ret [(.bool x0)])
theorem v1g (x0:Bool) (x1:Bool): ∀s,Xx prog (Zy prog 168) (P3 x0 x1) (P3 x0 x1 s) (w2t x0 x1 s)
 :=nofun
theorem w2u (x0:Bool) (x1:Bool):Xx prog (Zy prog 168) (P3 x0 x1) (Zp prog 168 [(.bool x0),(.bool x1)] true []) (x3k x0 x1):=(lr 6 3 (pn 767) 1 4 [(4,(.bool x0))] (sl Zc 9 [] (a7 [4]) a6 [] nn))
theorem u4m (x0:Bool) (x1:Bool) (n:Nat) (vs:zy) (h:Yx (w2t x0 x1) n (x3k x0 x1)=.ret vs):Vi prog (Zy prog 168) (Zp prog 168 [(.bool x0),(.bool x1)] true []) vs:=by have:=Zg (v1g x0 x1) n _ (w2u x0 x1);rwa [h] at this
theorem Zt {a b:Int} (h:a<b):decide (a<b)=true:=Af h
theorem Ym {a b:Int} (h: ¬a<b):decide (a<b)=false:=An h
theorem Xs {a b:Int} (h:a<=b):decide (a<=b)=true:=Af h
theorem EU {a b:Int} (h: ¬a<=b):decide (a<=b)=false:=An h
theorem Ys {a b:Int} (h:a>b):decide (a>b)=true:=Af h
theorem Xg {a b:Int} (h: ¬a>b):decide (a>b)=false:=An h
theorem ET {a b:Int} (h:a>=b):decide (a>=b)=true:=Af h
theorem El {a b:Int} (h: ¬a>=b):decide (a>=b)=false:=An h
theorem Yq {a b:Nat} (h:a<b):decide (a<b)=true:=Af h
theorem Ye {a b:Nat} (h:a<=b):decide (a<=b)=true:=Af h
theorem Ya {a b:Nat} (h:a=b):decide (a=b)=true:=Af h
theorem Zr {a b:Int} (h:0<=a/\a<b):decide (0<=a/\a<b)=true:=Af h
theorem Zn {a:Nat} (h:a<=1099511627776):decide (a<=Jm)=true:=Af h
theorem Zk {n:Int} (h: -9223372036854775808<=n/\n<=9223372036854775807):wrap .i64 n=n:=w_in h.1 h.2
theorem EB :((0:Nat):Int)=0:=rfl
theorem Zu (i:Nat):(i:Int)+1=((i+1:Nat):Int):=rfl
theorem Yj (i:Nat):((i+1:Nat):Int) - 1=(i:Int):=by omega
theorem Ur {a b:Int} (h:a≠b):(a != b)=true:=by simp [h]
theorem Jz {a b:Int} (h:a=b):(a != b)=false:=by simp [h]
theorem TX {a b:Int} (h:a=b):(a == b)=true:=by simp [h]
theorem TW {a b:Int} (h:a≠b):(a == b)=false:=by simp [h]
theorem Yc (n:Nat):Nat.beq n n=true:=BK n
theorem Zj (n:Nat):Int.toNat (n:Int)=n:=Int.toNat_natCast n
theorem Xz (b:Bool):b=true\/b=false:=by cases b <;> simp
theorem Yo {α:Type} [Xa α] {L:List α} {i:Nat} (h:i<L.length):L.drop i=rd L i::L.drop (i+1):=by rw [Xm h];exact AT h
theorem Kv {P:Program} {S:CB} (hS:Zw P S) {f:FuncId} {F:zy->Option (B9×Bool)} (hf:(P.funcs[f]?).any (fun fn=>fn.body.isSome)=true)
  (hF: ∀args v,F args=some (v,true)-> ∃bs vs,Vg D1 args bs/\Uz vs=v/\Vi P (Zy P f) (Zp P f bs true []) vs/\ ∃d,pf d v=true):Zw P (S.with f F):=w7i hS hf hF
def Eg (out:zp) (x:Int):Nat->Nat
 | 0=>0
 | k+1=>bif decide (rd out k>x) then Eg out x k else k+1
def Do (out:zp) (x:Int):zp:=
 match Eg out x out.length with
 | 0=>x::out
 | k+1=>bif rd out k == x then out else out.take (k+1)++x::out.drop (k+1)
def Cg (l:zp):zp:=l.foldl Do []
def Qo (l:zp):Bool:=decide (l.length<=1000000)
theorem y7m (out:zp) (x:Int):(Do out x).length <=out.length+1:=by
 grind [Do]
theorem x6d (out:zp) (x:Int) (k:Nat) (hk:k<=out.length):
  (Ea (out++[0]) (k+1) (Nat.min (out.length+1 - k) (out.length+1 - (k+1))) (EX (out++[0]) k (out.length+1 - k))).set k x=out.take k++x::out.drop k:=by
 have hm:Nat.min (out.length+1 - k) (out.length+1 - (k+1))=out.length - k:=by
  grind
 rw [hm];apply BJ
 .simp [W9];omega
 .intro i h1 h2;have hi:i<out.length+1:=by grind
  rw [<-Xm h1,<-Xm h2]
  grind [u8v,Xm,v5f,u5o,u5n,x2r]
theorem w5d (l:zp) (out:zp) (i:Nat) (hi:i<l.length) (hl:l.length<=1000000) (ho:out.length<=i): ∀(k N:Nat),k<=out.length->
  (Eg out (rd l i) out.length=Eg out (rd l i) k)-> ∃m,∀N,Yx (Ug l) (N+m) (.to (.h1 out (i:Int) (k:Int)))=Yx (Ug l) N (.to (.h0 (Do out (rd l i)) ((i+1:Nat):Int)))
 | 0,N,hk,hp=>by
  refine ⟨1,fun N=> ?_⟩;have hins:Do out (rd l i)=(Ea (out++[0]) (0+1) (Nat.min (out.length+1 - 0) (out.length+1 - (0+1))) (EX (out++[0]) 0 (out.length+1 - 0))).set 0 (rd l i):=by rw [x6d out _ 0 (Ay _)];unfold Do;rw [hp];rfl
  rw [hins,Zx];simp (disch:=omega) only [Ug,Zn,As,Xg,Zt,Xs,Yq,Ye,Ya,Zr,Zk,Zu,Yc,Zj,Ah,Ai,Ak,Ab,Aa]
 | k +1,N,hk,hp=>by
  rcases Xz (decide (rd out k>rd l i)) with h | h
  .have hp':Eg out (rd l i) out.length=Eg out (rd l i) k:=by grind [Eg]
   obtain ⟨m,hm⟩:=w5d l out i hi hl ho k N (by omega) hp';refine ⟨m+1,fun N=> ?_⟩;rw [<-hm N,<-AL,Zx];simp (disch:=omega) only [Ug,Yj,h,Zn,As,Ys,Zt,Xs,Yq,Ye,Ya,Zr,Zk,Zu,Yc,Zj,Ah,Ai,Ak,Ab,Aa]
  .have hpk:Eg out (rd l i) out.length=k+1:=by rw [hp];unfold Eg;rw [h];rfl
   refine ⟨1,fun N=> ?_⟩;rw [Zx];rcases Xz (rd out k == rd l i) with q | q
   .have hins:Do out (rd l i)=out:=(by grind [Do]);rw [hins];simp (disch:=omega) only [Ug,Yj,h,q,Zn,As,Ys,Zt,Xs,Yq,Ye,Ya,Zr,Zk,Zu,Yc,Zj,Ah,Ai,Ak,Ab,Aa]
   .have hins:Do out (rd l i)=(Ea (out++[0]) (k+1+1) (Nat.min (out.length+1 - (k+1)) (out.length+1 - (k+1+1))) (EX (out++[0]) (k+1) (out.length+1 - (k+1)))).set (k+1) (rd l i):=by
     rw [x6d out _ (k+1) hk]
     grind [Do]
    rw [hins];simp (disch:=omega) only [Ug,Yj,h,q,Zn,As,Ys,Zt,Xs,Yq,Ye,Ya,Zr,Zk,Zu,Yc,Zj,Ah,Ai,Ak,Ab,Aa]
theorem w5e (l:zp) (hl:l.length<=1000000): ∀(k i:Nat) (out:zp),i+k=l.length->out.length<=i-> ∃m,Yx (Ug l) m (.to (.h0 out (i:Int)))=.ret [.dat ((l.drop i).foldl Do out).length (Zz ((l.drop i).foldl Do out))]
 | 0,i,out,h,ho=>by refine ⟨1,?_⟩;rw [Zx];simp (disch:=omega) only [Ug,Ym,Aa];rw [Av (by omega)];rfl
 | k+1,i,out,h,ho=>by
  obtain ⟨m1,h1⟩:=w5d l out i (by omega) hl ho out.length 0 (Ar _) rfl;obtain ⟨m2,h2⟩:=w5e l hl k (i+1) (Do out (rd l i)) (by omega) (AG (y7m _ _) (by omega));refine ⟨m2+m1+1,?_⟩
  grind [Zx,Ug,Yo]
theorem v4k (l:zp) (h:Qo l=true): ∃N,Yx (Ug l) N (W6 l)=.ret [.dat (Cg l).length (Zz (Cg l))]:=by
 have:=w5e l (Ax h) l.length 0 [] (by omega) (Ar _)
 simpa [W6,Cg] using this
theorem Yz (n:Nat):Int.toNat ((n:Int) - 1)=n - 1:=by omega
theorem u2u (x y:R2):((x.a == y.a)&&(x.b == y.b))=decide (x=y):=by
 obtain ⟨a,b⟩:=x;obtain ⟨c,d⟩:=y
 grind
theorem u2t (x y:R4):((x.a == y.a)&&((x.b == y.b)&&((x.c == y.c)&&(x.d == y.d))))=decide (x=y):=by
 obtain ⟨a,b,c,d⟩:=x;obtain ⟨e,f,g,h⟩:=y
 grind
theorem u2s (x y:R6):(((x.a == y.a)&&((x.b == y.b)&&(x.c == y.c)))&&((x.d == y.d)&&((x.e == y.e)&&(x.f == y.f))))=decide (x=y):=by
 obtain ⟨a,b,c,d,e,f⟩:=x;obtain ⟨a',b',c',d',e',f'⟩:=y
 grind
def Qt (l m:zq):Bool:=decide (l=m)
def Vs (l m:zw):Bool:=decide (l=m)
def Jv (l m:zx):Bool:=decide (l=m)
def Uj (l m:zq):Bool:=decide (l.length<=1000000)
def Wa (l m:zw):Bool:=decide (l.length<=1000000)
def Wk (l m:zx):Bool:=decide (l.length<=1000000)
theorem RK {α:Type} [DecidableEq α] (x y:α) (l m:List α):decide (x::l=y::m)=(decide (x=y)&&decide (l=m)):=by grind
theorem u7r (l m:zq) (hl:l.length<=1000000) (hm:l.length=m.length): ∀(k i:Nat),i+k=l.length-> ∃N,Yx (NF l m) N (.to (.h0 (i:Int)))=.ret [.bool (decide (l.drop i=m.drop i))]
 | 0,i,h=>by refine ⟨1,?_⟩;rw [Zx,Av (show l.length<=i by omega),Av (show m.length<=i by omega)];simp (disch:=omega) only [NF,Xg,Ys,Zt,Ym,Xs,Yq,Ye,Ya,Zr,Zk,Zn,Ur,Jz,As,Zu,Yj,Yz,Yc,Zj,Ah,Ai,Ak,Ab,Aa,Aw,Az,Zd]
 | k+1,i,h=>by
  obtain ⟨N,hN⟩:=u7r l m hl hm k (i+1) (by omega);refine ⟨N+1,?_⟩;rw [Zx,Yo (show i<l.length by omega),Yo (show i<m.length by omega),RK];rcases Xz (decide (rd l i=rd m i)) with q | q
  .simp (disch:=omega) only [NF,u2u,q,Xg,Ys,Zt,Ym,Xs,Yq,Ye,Ya,Zr,Zk,Zn,Ur,Jz,As,Zu,Yj,Yz,Yc,Zj,Ah,Ai,Ak,Ab,Aa,Aw,Az,Zd];exact hN
  .simp (disch:=omega) only [NF,u2u,q,Xg,Ys,Zt,Ym,Xs,Yq,Ye,Ya,Zr,Zk,Zn,Ur,Jz,As,Zu,Yj,Yz,Yc,Zj,Ah,Ai,Ak,Ab,Aa,Aw,Az,Zd,AW]
theorem j3h (l m:zq) (h:Uj l m=true): ∃N,Yx (NF l m) N (SZ l m)=.ret [.bool (Qt l m)]:=by
 have hl:l.length<=1000000:=Ax h;by_cases hm:l.length=m.length
 .obtain ⟨N,hN⟩:=u7r l m hl hm l.length 0 (Ah _);refine ⟨N,?_⟩;unfold SZ;rw [Jz (show (l.length:Int)=(m.length:Nat) by omega)];exact hN
 .refine ⟨0,?_⟩;unfold SZ;rw [Ur (show (l.length:Int)≠(m.length:Nat) by omega)];have:Qt l m=false:=An fun e=>hm (by rw [e]);rw [this];rfl
theorem u7q (l m:zw) (hl:l.length<=1000000) (hm:l.length=m.length): ∀(k i:Nat),i+k=l.length-> ∃N,Yx (NG l m) N (.to (.h0 (i:Int)))=.ret [.bool (decide (l.drop i=m.drop i))]
 | 0,i,h=>by refine ⟨1,?_⟩;rw [Zx,Av (show l.length<=i by omega),Av (show m.length<=i by omega)];simp (disch:=omega) only [NG,Xg,Ys,Zt,Ym,Xs,Yq,Ye,Ya,Zr,Zk,Zn,Ur,Jz,As,Zu,Yj,Yz,Yc,Zj,Ah,Ai,Ak,Ab,Aa,Aw,Az,Zd]
 | k+1,i,h=>by
  obtain ⟨N,hN⟩:=u7q l m hl hm k (i+1) (by omega);refine ⟨N+1,?_⟩;rw [Zx,Yo (show i<l.length by omega),Yo (show i<m.length by omega),RK];rcases Xz (decide (rd l i=rd m i)) with q | q
  .simp (disch:=omega) only [NG,u2t,q,Xg,Ys,Zt,Ym,Xs,Yq,Ye,Ya,Zr,Zk,Zn,Ur,Jz,As,Zu,Yj,Yz,Yc,Zj,Ah,Ai,Ak,Ab,Aa,Aw,Az,Zd];exact hN
  .simp (disch:=omega) only [NG,u2t,q,Xg,Ys,Zt,Ym,Xs,Yq,Ye,Ya,Zr,Zk,Zn,Ur,Jz,As,Zu,Yj,Yz,Yc,Zj,Ah,Ai,Ak,Ab,Aa,Aw,Az,Zd,AW]
theorem j3g (l m:zw) (h:Wa l m=true): ∃N,Yx (NG l m) N (S0 l m)=.ret [.bool (Vs l m)]:=by
 have hl:l.length<=1000000:=Ax h;by_cases hm:l.length=m.length
 .obtain ⟨N,hN⟩:=u7q l m hl hm l.length 0 (Ah _);refine ⟨N,?_⟩;unfold S0;rw [Jz (show (l.length:Int)=(m.length:Nat) by omega)];exact hN
 .refine ⟨0,?_⟩;unfold S0;rw [Ur (show (l.length:Int)≠(m.length:Nat) by omega)];have:Vs l m=false:=An fun e=>hm (by rw [e]);rw [this];rfl
theorem u7v (l m:zx) (hl:l.length<=1000000) (hm:l.length=m.length): ∀(k i:Nat),i+k=l.length-> ∃N,Yx (NE l m) N (.to (.h0 (i:Int)))=.ret [.bool (decide (l.drop i=m.drop i))]
 | 0,i,h=>by refine ⟨1,?_⟩;rw [Zx,Av (show l.length<=i by omega),Av (show m.length<=i by omega)];simp (disch:=omega) only [NE,Xg,Ys,Zt,Ym,Xs,Yq,Ye,Ya,Zr,Zk,Zn,Ur,Jz,As,Zu,Yj,Yz,Yc,Zj,Ah,Ai,Ak,Ab,Aa,Aw,Az,Zd]
 | k+1,i,h=>by
  obtain ⟨N,hN⟩:=u7v l m hl hm k (i+1) (by omega);refine ⟨N+1,?_⟩;rw [Zx,Yo (show i<l.length by omega),Yo (show i<m.length by omega),RK];rcases Xz (decide (rd l i=rd m i)) with q | q
  .simp (disch:=omega) only [NE,u2s,q,Xg,Ys,Zt,Ym,Xs,Yq,Ye,Ya,Zr,Zk,Zn,Ur,Jz,As,Zu,Yj,Yz,Yc,Zj,Ah,Ai,Ak,Ab,Aa,Aw,Az,Zd];exact hN
  .simp (disch:=omega) only [NE,u2s,q,Xg,Ys,Zt,Ym,Xs,Yq,Ye,Ya,Zr,Zk,Zn,Ur,Jz,As,Zu,Yj,Yz,Yc,Zj,Ah,Ai,Ak,Ab,Aa,Aw,Az,Zd,AW]
theorem j3l (l m:zx) (h:Wk l m=true): ∃N,Yx (NE l m) N (SY l m)=.ret [.bool (Jv l m)]:=by
 have hl:l.length<=1000000:=Ax h;by_cases hm:l.length=m.length
 .obtain ⟨N,hN⟩:=u7v l m hl hm l.length 0 (Ah _);refine ⟨N,?_⟩;unfold SY;rw [Jz (show (l.length:Int)=(m.length:Nat) by omega)];exact hN
 .refine ⟨0,?_⟩;unfold SY;rw [Ur (show (l.length:Int)≠(m.length:Nat) by omega)];have:Jv l m=false:=An fun e=>hm (by rw [e]);rw [this];rfl
theorem j0r (l m:zq) (hl:l.length<=1000000) (hm:l.length=m.length): ∀(k i:Nat),i+k=l.length-> ∃N,Yx (Mi l m) N (.to (.h0 (i:Int)))=.ret [.bool (decide (l.drop i=m.drop i))]
 | 0,i,h=>by refine ⟨1,?_⟩;rw [Zx,Av (show l.length<=i by omega),Av (show m.length<=i by omega)];simp (disch:=omega) only [Mi,Xg,Ys,Zt,Ym,Xs,Yq,Ye,Ya,Zr,Zk,Zn,Ur,Jz,As,Zu,Yj,Yz,Yc,Zj,Ah,Ai,Ak,Ab,Aa,Aw,Az,Zd]
 | k+1,i,h=>by
  obtain ⟨N,hN⟩:=j0r l m hl hm k (i+1) (by omega);refine ⟨N+1,?_⟩;rw [Zx,Yo (show i<l.length by omega),Yo (show i<m.length by omega),RK];rcases Xz (decide (rd l i=rd m i)) with q | q
  .simp (disch:=omega) only [Mi,u2u,q,Xg,Ys,Zt,Ym,Xs,Yq,Ye,Ya,Zr,Zk,Zn,Ur,Jz,As,Zu,Yj,Yz,Yc,Zj,Ah,Ai,Ak,Ab,Aa,Aw,Az,Zd];exact hN
  .simp (disch:=omega) only [Mi,u2u,q,Xg,Ys,Zt,Ym,Xs,Yq,Ye,Ya,Zr,Zk,Zn,Ur,Jz,As,Zu,Yj,Yz,Yc,Zj,Ah,Ai,Ak,Ab,Aa,Aw,Az,Zd,AW]
theorem j9p (l m:zq) (h:Uj l m=true): ∃N,Yx (Mi l m) N (TF l m)=.ret [.bool (Qt l m)]:=by
 have hl:l.length<=1000000:=Ax h;by_cases hm:l.length=m.length
 .obtain ⟨N,hN⟩:=j0r l m hl hm l.length 0 (Ah _);refine ⟨N,?_⟩;unfold TF;rw [Jz (show (l.length:Int)=(m.length:Nat) by omega)];exact hN
 .refine ⟨0,?_⟩;unfold TF;rw [Ur (show (l.length:Int)≠(m.length:Nat) by omega)];have:Qt l m=false:=An fun e=>hm (by rw [e]);rw [this];rfl
theorem j0q (l m:zw) (hl:l.length<=1000000) (hm:l.length=m.length): ∀(k i:Nat),i+k=l.length-> ∃N,Yx (Mj l m) N (.to (.h0 (i:Int)))=.ret [.bool (decide (l.drop i=m.drop i))]
 | 0,i,h=>by refine ⟨1,?_⟩;rw [Zx,Av (show l.length<=i by omega),Av (show m.length<=i by omega)];simp (disch:=omega) only [Mj,Xg,Ys,Zt,Ym,Xs,Yq,Ye,Ya,Zr,Zk,Zn,Ur,Jz,As,Zu,Yj,Yz,Yc,Zj,Ah,Ai,Ak,Ab,Aa,Aw,Az,Zd]
 | k+1,i,h=>by
  obtain ⟨N,hN⟩:=j0q l m hl hm k (i+1) (by omega);refine ⟨N+1,?_⟩;rw [Zx,Yo (show i<l.length by omega),Yo (show i<m.length by omega),RK];rcases Xz (decide (rd l i=rd m i)) with q | q
  .simp (disch:=omega) only [Mj,u2t,q,Xg,Ys,Zt,Ym,Xs,Yq,Ye,Ya,Zr,Zk,Zn,Ur,Jz,As,Zu,Yj,Yz,Yc,Zj,Ah,Ai,Ak,Ab,Aa,Aw,Az,Zd];exact hN
  .simp (disch:=omega) only [Mj,u2t,q,Xg,Ys,Zt,Ym,Xs,Yq,Ye,Ya,Zr,Zk,Zn,Ur,Jz,As,Zu,Yj,Yz,Yc,Zj,Ah,Ai,Ak,Ab,Aa,Aw,Az,Zd,AW]
theorem j9o (l m:zw) (h:Wa l m=true): ∃N,Yx (Mj l m) N (TG l m)=.ret [.bool (Vs l m)]:=by
 have hl:l.length<=1000000:=Ax h;by_cases hm:l.length=m.length
 .obtain ⟨N,hN⟩:=j0q l m hl hm l.length 0 (Ah _);refine ⟨N,?_⟩;unfold TG;rw [Jz (show (l.length:Int)=(m.length:Nat) by omega)];exact hN
 .refine ⟨0,?_⟩;unfold TG;rw [Ur (show (l.length:Int)≠(m.length:Nat) by omega)];have:Vs l m=false:=An fun e=>hm (by rw [e]);rw [this];rfl
theorem j0p (l m:zx) (hl:l.length<=1000000) (hm:l.length=m.length): ∀(k i:Nat),i+k=l.length-> ∃N,Yx (Mk l m) N (.to (.h0 (i:Int)))=.ret [.bool (decide (l.drop i=m.drop i))]
 | 0,i,h=>by refine ⟨1,?_⟩;rw [Zx,Av (show l.length<=i by omega),Av (show m.length<=i by omega)];simp (disch:=omega) only [Mk,Xg,Ys,Zt,Ym,Xs,Yq,Ye,Ya,Zr,Zk,Zn,Ur,Jz,As,Zu,Yj,Yz,Yc,Zj,Ah,Ai,Ak,Ab,Aa,Aw,Az,Zd]
 | k+1,i,h=>by
  obtain ⟨N,hN⟩:=j0p l m hl hm k (i+1) (by omega);refine ⟨N+1,?_⟩;rw [Zx,Yo (show i<l.length by omega),Yo (show i<m.length by omega),RK];rcases Xz (decide (rd l i=rd m i)) with q | q
  .simp (disch:=omega) only [Mk,u2s,q,Xg,Ys,Zt,Ym,Xs,Yq,Ye,Ya,Zr,Zk,Zn,Ur,Jz,As,Zu,Yj,Yz,Yc,Zj,Ah,Ai,Ak,Ab,Aa,Aw,Az,Zd];exact hN
  .simp (disch:=omega) only [Mk,u2s,q,Xg,Ys,Zt,Ym,Xs,Yq,Ye,Ya,Zr,Zk,Zn,Ur,Jz,As,Zu,Yj,Yz,Yc,Zj,Ah,Ai,Ak,Ab,Aa,Aw,Az,Zd,AW]
theorem j9n (l m:zx) (h:Wk l m=true): ∃N,Yx (Mk l m) N (TH l m)=.ret [.bool (Jv l m)]:=by
 have hl:l.length<=1000000:=Ax h;by_cases hm:l.length=m.length
 .obtain ⟨N,hN⟩:=j0p l m hl hm l.length 0 (Ah _);refine ⟨N,?_⟩;unfold TH;rw [Jz (show (l.length:Int)=(m.length:Nat) by omega)];exact hN
 .refine ⟨0,?_⟩;unfold TH;rw [Ur (show (l.length:Int)≠(m.length:Nat) by omega)];have:Jv l m=false:=An fun e=>hm (by rw [e]);rw [this];rfl
def PV (x y:Int) (r:R4):Bool:=decide (r.a<=x)&&(decide (x<r.c)&&(decide (r.b<=y)&&decide (y<r.d)))
def Js (l:zw) (x y:Int):Bool:=l.any (PV x y)
def R7 (l:zw) (x y:Int):Bool:=decide (l.length<=1000000)
theorem v4v (l:zw) (x y:Int) (hl:l.length<=1000000): ∀(k i:Nat),i+k=l.length-> ∃N,Yx (RR l x y) N (.to (.h0 (i:Int)))=.ret [.bool ((l.drop i).any (PV x y))]
 | 0,i,h=>by refine ⟨1,?_⟩;rw [Zx,Av (show l.length<=i by omega)];simp (disch:=omega) only [RR,Xg,Ys,Zt,Ym,Xs,Yq,Ye,Ya,Zr,Zk,Zn,Ur,Jz,As,Zu,Yj,Yz,Yc,Zj,Ah,Ai,Ak,Ab,Aa,Aw,Az,Zd];rfl
 | k+1,i,h=>by
  obtain ⟨N,hN⟩:=v4v l x y hl k (i+1) (by omega);refine ⟨N+1,?_⟩;rw [Zx,Yo (show i<l.length by omega),List.any_cons];unfold PV at hN ⊢;rcases Xz (decide ((rd l i).a <=x)) with q1 | q1 <;> rcases Xz (decide (x<(rd l i).c)) with q2 | q2 <;> rcases Xz (decide ((rd l i).b <=y)) with q3 | q3 <;> rcases Xz (decide (y<(rd l i).d)) with q4 | q4 <;>
   simp (disch:=omega) only [RR,q1,q2,q3,q4,Xg,Ys,Zt,Ym,Xs,Yq,Ye,Ya,Zr,Zk,Zn,Ur,Jz,As,Zu,Yj,Yz,Yc,Zj,Ah,Ai,Ak,Ab,Aa,Aw,Az,Zd,AW,A2,Bc,Bool.true_or] <;> exact hN
theorem u1u (l:zw) (x y:Int) (h:R7 l x y=true): ∃N,Yx (RR l x y) N (WS l x y)=.ret [.bool (Js l x y)]:=by
 have:=v4v l x y (Ax h) l.length 0 (Ah _)
 simpa [WS,Js] using this
def on6 (z:Int) (b:R6):Bool:=decide (b.c<=z)&&decide (z<b.f)
def j6r (b:R6):R4:=⟨b.a,b.b,b.d,b.e⟩
def CN (l:zx) (z:Int):zw:=(l.filter (on6 z)).map j6r
def RJ (l:zx) (z:Int):Bool:=decide (l.length<=1000000)
theorem v5o (l:zx) (z:Int) (hl:l.length<=1000000): ∀(k i:Nat) (out:zw),i+k=l.length->out.length<=i-> ∃N,Yx (Mu l z) N (.to (.h0 out (i:Int)))=.ret [.dat (out++CN (l.drop i) z).length (Zz (out++CN (l.drop i) z))]
 | 0,i,out,h,ho=>by refine ⟨1,?_⟩;rw [Zx,Av (show l.length<=i by omega)];simp (disch:=omega) only [Mu,Xg,Ys,Zt,Ym,Xs,Yq,Ye,Ya,Zr,Zk,Zn,Ur,Jz,As,Zu,Yj,Yz,Yc,Zj,Ah,Ai,Ak,Ab,Aa,Aw,Az,Zd,CN,List.filter_nil,BN,AA]
 | k+1,i,out,h,ho=>by
  rw [Yo (show i<l.length by omega)];have e:CN (rd l i::l.drop (i+1)) z=(bif on6 z (rd l i) then [j6r (rd l i)] else [])++CN (l.drop (i+1)) z:=by
   grind [CN]
  rw [e,<-AH];rcases Xz (decide ((rd l i).c <=z)) with q1 | q1 <;> rcases Xz (decide (z<(rd l i).f)) with q2 | q2
  .obtain ⟨N,hN⟩:=v5o l z hl k (i+1) (out++[j6r (rd l i)]) (by omega) (by simp;omega);refine ⟨N+1,?_⟩;rw [Zx];simp (disch:=omega) only [Mu,q1,q2,on6,Xg,Ys,Zt,Ym,Xs,Yq,Ye,Ya,Zr,Zk,Zn,Ur,Jz,As,Zu,Yj,Yz,Yc,Zj,Ah,Ai,Ak,Ab,Aa,Aw,Az,Zd];exact hN
  all_goals
   obtain ⟨N,hN⟩:=v5o l z hl k (i+1) out (by omega) (by omega);refine ⟨N+1,?_⟩;rw [Zx];simp (disch:=omega) only [Mu,q1,q2,on6,Xg,Ys,Zt,Ym,Xs,Yq,Ye,Ya,Zr,Zk,Zn,Ur,Jz,As,Zu,Yj,Yz,Yc,Zj,Ah,Ai,Ak,Ab,Aa,Aw,Az,Zd,AW,A2,AA];exact hN
theorem j4z (l:zx) (z:Int) (h:RJ l z=true): ∃N,Yx (Mu l z) N (XZ l z)=.ret [.dat (CN l z).length (Zz (CN l z))]:=by
 have:=v5o l z (Ax h) l.length 0 [] (Ah _) (Ar _)
 simpa [XZ] using this
def Fu (cuts:zp) (ins:List Bool):Nat->Nat->zq->zq
 | 0,_,out=>out
 | k+1,i,out=>Fu cuts ins k (i+1) (bif rd ins i then (bif decide (0<out.length)&&((rd out (out.length - 1)).b == rd cuts i) then out.set (out.length - 1) ⟨(rd out (out.length - 1)).a,rd cuts (i+1)⟩ else out++[⟨rd cuts i,rd cuts (i+1)⟩]) else out)
def DI (cuts:zp) (ins:List Bool):zq:=Fu cuts ins (cuts.length - 1) 0 []
def YZ (cuts:zp) (ins:List Bool):Bool:=decide (cuts.length<=1000000/\cuts.length<=ins.length+1)
theorem ZD (cuts:zp) (ins:List Bool) (hl:cuts.length<=1000000) (hi:cuts.length<=ins.length+1): ∀(k i:Nat) (out:zq),k=cuts.length - 1 - i->i<=cuts.length->out.length<=i-> ∃N,Yx (HG cuts ins) N (.to (.h0 out (i:Int)))=.ret [.dat (Fu cuts ins k i out).length (Zz (Fu cuts ins k i out))]
 | 0,i,out,h,hi2,ho=>by refine ⟨1,?_⟩;rw [Zx];simp (disch:=omega) only [HG,Xg,Ys,Zt,Ym,Xs,Yq,Ye,Ya,Zr,Zk,Zn,Ur,Jz,As,Zu,Yj,Yz,Yc,Zj,Ah,Ai,Ak,Ab,Aa,Aw,Az,Zd,Fu]
 | k+1,i,out,h,hi2,ho=>by
  unfold Fu;rcases Xz (rd ins i) with q | q
  .rcases Xz (decide (0<out.length)&&((rd out (out.length - 1)).b == rd cuts i)) with q2 | q2
   .obtain ⟨N,hN⟩:=ZD cuts ins hl hi k (i+1) (out.set (out.length - 1) ⟨(rd out (out.length - 1)).a,rd cuts (i+1)⟩) (by omega) (by omega) (by simp;omega);refine ⟨N+1,?_⟩;rw [Zx,q,q2];simp only [Ac,Ao] at q2;simp (disch:=omega) only [HG,q,q2.2,Xg,Ys,Zt,Ym,Xs,Yq,Ye,Ya,Zr,Zk,Zn,Ur,Jz,As,Zu,Yj,Yz,Yc,Zj,Ah,Ai,Ak,Ab,Aa,Aw,Az,Zd];exact hN
   .obtain ⟨N,hN⟩:=ZD cuts ins hl hi k (i+1) (out++[⟨rd cuts i,rd cuts (i+1)⟩]) (by omega) (by omega) (by simp;omega);refine ⟨N+1,?_⟩;rw [Zx,q,q2];by_cases h0:0<out.length
    .rw [Af h0,Ak] at q2;simp (disch:=omega) only [HG,q,q2,Xg,Ys,Zt,Ym,Xs,Yq,Ye,Ya,Zr,Zk,Zn,Ur,Jz,As,Zu,Yj,Yz,Yc,Zj,Ah,Ai,Ak,Ab,Aa,Aw,Az,Zd];exact hN
    .simp (disch:=omega) only [HG,q,Xg,Ys,Zt,Ym,Xs,Yq,Ye,Ya,Zr,Zk,Zn,Ur,Jz,As,Zu,Yj,Yz,Yc,Zj,Ah,Ai,Ak,Ab,Aa,Aw,Az,Zd];exact hN
  .obtain ⟨N,hN⟩:=ZD cuts ins hl hi k (i+1) out (by omega) (by omega) (by omega);refine ⟨N+1,?_⟩;rw [Zx,q];simp (disch:=omega) only [HG,q,Xg,Ys,Zt,Ym,Xs,Yq,Ye,Ya,Zr,Zk,Zn,Ur,Jz,As,Zu,Yj,Yz,Yc,Zj,Ah,Ai,Ak,Ab,Aa,Aw,Az,Zd];exact hN
theorem u2o (cuts:zp) (ins:List Bool) (h:YZ cuts ins=true): ∃N,Yx (HG cuts ins) N (Y5 cuts ins)=.ret [.dat (DI cuts ins).length (Zz (DI cuts ins))]:=by
 obtain ⟨h1,h2⟩:=Ax h;have:=ZD cuts ins h1 h2 (cuts.length - 1) 0 [] (by omega) (Ay _) (Ar _)
 simpa [Y5,DI] using this
abbrev v6d :Nat:=117
abbrev u9r :Nat:=122
abbrev u9n :Nat:=123
abbrev u9q :Nat:=120
abbrev MD :Nat:=121
abbrev u9m :Nat:=91
abbrev nXs :Nat:=118
abbrev nYs :Nat:=119
abbrev u9p :Nat:=89
abbrev u9l :Nat:=19
abbrev nAt :Nat:=90
abbrev ME :Nat:=88
abbrev u9o :Nat:=57
abbrev v6g :Nat:=32
abbrev VI :Nat:=148
abbrev VH :Nat:=116
abbrev VG :Nat:=54
abbrev u9k :Nat:=181
abbrev w5z :Nat:=182
abbrev MC :Nat:=109
abbrev w6a :Nat:=110
abbrev VF :Nat:=168
abbrev x5u :Nat:=145
abbrev w5y :Nat:=86
abbrev v6f :Nat:=115
abbrev w5w :Nat:=114
abbrev w5v :Nat:=52
abbrev x5v :Nat:=29
abbrev w5u :Nat:=149
abbrev VE :Nat:=130
abbrev nSpU :Nat:=96
abbrev w5x :Nat:=146
abbrev nRgU :Nat:=66
abbrev nSlU :Nat:=38
abbrev v6e :Nat:=62
def Fm (k:Int) (a b:Bool):Bool:=bif k == 1 then a&&b else bif k == 2 then a||b else a&& !b
def Es (a b:Bool):Bool:=a
theorem j6f (k:Int) (a b:Bool): ∃N,Yx (w2l k a b) N (XQ k a b)=.ret [.bool (Fm k a b)]:=by
 refine ⟨0,?_⟩;unfold XQ Fm;cases a <;> cases b <;> rcases Xz (k == 1) with q | q <;> rcases Xz (k == 2) with q2 | q2 <;> rw [q] <;> (try rw [q2]) <;> rfl
theorem j6l (a b:Bool): ∃N,Yx (w2t a b) N (x3k a b)=.ret [.bool (Es a b)]:=⟨0,rfl⟩
def Pi :zy->Option (B9×Bool)
 | [a0]=>match CY Int a0 with
  | some (L0,g0,n0)=>some (.dat (Cg L0).length (Zz (Cg L0)),CX Int n0 g0&&(Qo L0))
  | _=>none
 | _=>none
theorem j7d {S:CB} (hS:Zw prog S):Zw prog (S.with v6d Pi):=by
 refine Kv hS (by kernel_rfl) fun args v h=> ?_;unfold Pi at h;split at h
 .rename_i a0;split at h
  .rename_i L0 g0 n0 e0;simp only [Ad,Ae,Ac] at h;obtain ⟨rfl,ho0,hw⟩:=h;obtain ⟨N,hN⟩:=v4k L0 hw;exact ⟨_,_,(.cons (Yi e0 ho0) .nil),rfl,w8u L0 N _ hN,3,rfl⟩
  .cases h
 .cases h
def QW :zy->Option (B9×Bool)
 | [a0,a1]=>match CY Int a0,CY Bool a1 with
  | some (L0,g0,n0),some (L1,g1,n1)=>some (.dat (DI L0 L1).length (Zz (DI L0 L1)),CX Int n0 g0&&(CX Bool n1 g1&&(YZ L0 L1)))
  | _,_=>none
 | _=>none
theorem j9m {S:CB} (hS:Zw prog S):Zw prog (S.with u9r QW):=by
 refine Kv hS (by kernel_rfl) fun args v h=> ?_;unfold QW at h;split at h
 .rename_i a0 a1;split at h
  .rename_i L0 g0 n0 L1 g1 n1 e0 e1;simp only [Ad,Ae,Ac] at h;obtain ⟨rfl,ho0,ho1,hw⟩:=h;obtain ⟨N,hN⟩:=u2o L0 L1 hw;exact ⟨_,_,(.cons (Yi e0 ho0) (.cons (Yi e1 ho1) .nil)),rfl,v5n L0 L1 N _ hN,3,rfl⟩
  .cases h
 .cases h
def Rm :zy->Option (B9×Bool)
 | [a0,a1]=>match CY R2 a0,CY R2 a1 with
  | some (L0,g0,n0),some (L1,g1,n1)=>some (.bool (Qt L0 L1),CX R2 n0 g0&&(CX R2 n1 g1&&(Uj L0 L1)))
  | _,_=>none
 | _=>none
theorem v7k {S:CB} (hS:Zw prog S):Zw prog (S.with u9n Rm):=by
 refine Kv hS (by kernel_rfl) fun args v h=> ?_;unfold Rm at h;split at h
 .rename_i a0 a1;split at h
  .rename_i L0 g0 n0 L1 g1 n1 e0 e1;simp only [Ad,Ae,Ac] at h;obtain ⟨rfl,ho0,ho1,hw⟩:=h;obtain ⟨N,hN⟩:=j3h L0 L1 hw;exact ⟨_,_,(.cons (Yi e0 ho0) (.cons (Yi e1 ho1) .nil)),rfl,u0x L0 L1 N _ hN,3,rfl⟩
  .cases h
 .cases h
def Rn :zy->Option (B9×Bool)
 | [a0,a1]=>match CY R4 a0,CY R4 a1 with
  | some (L0,g0,n0),some (L1,g1,n1)=>some (.bool (Vs L0 L1),CX R4 n0 g0&&(CX R4 n1 g1&&(Wa L0 L1)))
  | _,_=>none
 | _=>none
theorem v7j {S:CB} (hS:Zw prog S):Zw prog (S.with u9m Rn):=by
 refine Kv hS (by kernel_rfl) fun args v h=> ?_;unfold Rn at h;split at h
 .rename_i a0 a1;split at h
  .rename_i L0 g0 n0 L1 g1 n1 e0 e1;simp only [Ad,Ae,Ac] at h;obtain ⟨rfl,ho0,ho1,hw⟩:=h;obtain ⟨N,hN⟩:=j3g L0 L1 hw;exact ⟨_,_,(.cons (Yi e0 ho0) (.cons (Yi e1 ho1) .nil)),rfl,u0w L0 L1 N _ hN,3,rfl⟩
  .cases h
 .cases h
def Ro :zy->Option (B9×Bool)
 | [a0,a1]=>match CY R6 a0,CY R6 a1 with
  | some (L0,g0,n0),some (L1,g1,n1)=>some (.bool (Jv L0 L1),CX R6 n0 g0&&(CX R6 n1 g1&&(Wk L0 L1)))
  | _,_=>none
 | _=>none
theorem v7i {S:CB} (hS:Zw prog S):Zw prog (S.with u9l Ro):=by
 refine Kv hS (by kernel_rfl) fun args v h=> ?_;unfold Ro at h;split at h
 .rename_i a0 a1;split at h
  .rename_i L0 g0 n0 L1 g1 n1 e0 e1;simp only [Ad,Ae,Ac] at h;obtain ⟨rfl,ho0,ho1,hw⟩:=h;obtain ⟨N,hN⟩:=j3l L0 L1 hw;exact ⟨_,_,(.cons (Yi e0 ho0) (.cons (Yi e1 ho1) .nil)),rfl,u1a L0 L1 N _ hN,3,rfl⟩
  .cases h
 .cases h
def j8x :zy->Option (B9×Bool)
 | [a0,.int .i64 x1,.int .i64 x2]=>match CY R4 a0 with
  | some (L0,g0,n0)=>some (.bool (Js L0 x1 x2),CX R4 n0 g0&&(R7 L0 x1 x2))
  | _=>none
 | _=>none
theorem u4y {S:CB} (hS:Zw prog S):Zw prog (S.with MD j8x):=by
 refine Kv hS (by kernel_rfl) fun args v h=> ?_;unfold j8x at h;split at h
 .rename_i a0 x1 x2;split at h
  .rename_i L0 g0 n0 e0;simp only [Ad,Ae,Ac] at h;obtain ⟨rfl,ho0,hw⟩:=h;obtain ⟨N,hN⟩:=u1u L0 x1 x2 hw;exact ⟨_,_,(.cons (Yi e0 ho0) (.cons (.refl _) (.cons (.refl _) .nil))),rfl,v4w L0 x1 x2 N _ hN,3,rfl⟩
  .cases h
 .cases h
def fAt :zy->Option (B9×Bool)
 | [a0,.int .i64 x1]=>match CY R6 a0 with
  | some (L0,g0,n0)=>some (.dat (CN L0 x1).length (Zz (CN L0 x1)),CX R6 n0 g0&&(RJ L0 x1))
  | _=>none
 | _=>none
theorem QX {S:CB} (hS:Zw prog S):Zw prog (S.with nAt fAt):=by
 refine Kv hS (by kernel_rfl) fun args v h=> ?_;unfold fAt at h;split at h
 .rename_i a0 x1;split at h
  .rename_i L0 g0 n0 e0;simp only [Ad,Ae,Ac] at h;obtain ⟨rfl,ho0,hw⟩:=h;obtain ⟨N,hN⟩:=j4z L0 x1 hw;exact ⟨_,_,(.cons (Yi e0 ho0) (.cons (.refl _) .nil)),rfl,u2p L0 x1 N _ hN,3,rfl⟩
  .cases h
 .cases h
def v7m :zy->Option (B9×Bool)
 | [.int .i64 x0,.bool b1,.bool b2]=>some (.bool (Fm x0 b1 b2),true)
 | _=>none
theorem v7l {S:CB} (hS:Zw prog S):Zw prog (S.with u9q v7m):=by
 refine Kv hS (by kernel_rfl) fun args v h=> ?_;unfold v7m at h;split at h
 .rename_i x0 b1 b2;simp only [Ad,Ae,and_true] at h;subst h;obtain ⟨N,hN⟩:=j6f x0 b1 b2;exact ⟨_,_,(.cons (.refl _) (.cons (.refl _) (.cons (.refl _) .nil))),rfl,u4h x0 b1 b2 N _ hN,3,rfl⟩
 .cases h
def QO :zy->Option (B9×Bool)
 | [.bool b0,.bool b1]=>some (.bool (Es b0 b1),true)
 | _=>none
theorem j9b {S:CB} (hS:Zw prog S):Zw prog (S.with VF QO):=by
 refine Kv hS (by kernel_rfl) fun args v h=> ?_;unfold QO at h;split at h
 .rename_i b0 b1;simp only [Ad,Ae,and_true] at h;subst h;obtain ⟨N,hN⟩:=j6l b0 b1;exact ⟨_,_,(.cons (.refl _) (.cons (.refl _) .nil)),rfl,u4m b0 b1 N _ hN,3,rfl⟩
 .cases h
theorem v1u {S:CB} (hS:Zw prog S):Zw prog (S.with VI Rm):=by
 refine Kv hS (by kernel_rfl) fun args v h=> ?_;unfold Rm at h;split at h
 .rename_i a0 a1;split at h
  .rename_i L0 g0 n0 L1 g1 n1 e0 e1;simp only [Ad,Ae,Ac] at h;obtain ⟨rfl,ho0,ho1,hw⟩:=h;obtain ⟨N,hN⟩:=j9p L0 L1 hw;exact ⟨_,_,(.cons (Yi e0 ho0) (.cons (Yi e1 ho1) .nil)),rfl,u5e L0 L1 N _ hN,3,rfl⟩
  .cases h
 .cases h
theorem v1t {S:CB} (hS:Zw prog S):Zw prog (S.with VH Rn):=by
 refine Kv hS (by kernel_rfl) fun args v h=> ?_;unfold Rn at h;split at h
 .rename_i a0 a1;split at h
  .rename_i L0 g0 n0 L1 g1 n1 e0 e1;simp only [Ad,Ae,Ac] at h;obtain ⟨rfl,ho0,ho1,hw⟩:=h;obtain ⟨N,hN⟩:=j9o L0 L1 hw;exact ⟨_,_,(.cons (Yi e0 ho0) (.cons (Yi e1 ho1) .nil)),rfl,u5d L0 L1 N _ hN,3,rfl⟩
  .cases h
 .cases h
theorem v1s {S:CB} (hS:Zw prog S):Zw prog (S.with VG Ro):=by
 refine Kv hS (by kernel_rfl) fun args v h=> ?_;unfold Ro at h;split at h
 .rename_i a0 a1;split at h
  .rename_i L0 g0 n0 L1 g1 n1 e0 e1;simp only [Ad,Ae,Ac] at h;obtain ⟨rfl,ho0,ho1,hw⟩:=h;obtain ⟨N,hN⟩:=j9n L0 L1 hw;exact ⟨_,_,(.cons (Yi e0 ho0) (.cons (Yi e1 ho1) .nil)),rfl,u5c L0 L1 N _ hN,3,rfl⟩
  .cases h
 .cases h
def T1 :CB:=((((((((((((Ez.with v6d Pi).with u9r QW).with u9n Rm).with u9m Rn).with u9l Ro).with MD j8x).with nAt fAt).with u9q v7m).with VF QO).with VI Rm).with VH Rn).with VG Ro)
theorem Dr :Zw prog T1:=v1s (v1t (v1u (j9b (v7l (QX (u4y (v7i (v7j (v7k (j9m (j7d Zc)))))))))))
inductive Hg where
 | h0 (v5:zp) (v6:Int)
 | h1 (v5:zp) (v7:Int)
def OA (l0:zw) (l1:zw):Hg->CI
 | .h0 v5 v6=>⟨⟨48,0,true⟩,none,(Zq prog 118 (pn 75) 0),none,(Zy prog 4),⟨Zs [(0,(dt l0)),(1,(dt l1)),(5,(.sla 0 1 0 v5.length (.un 1))),(6,(ii v6))],Xe [(rz v5 3 1)] 0,1,[],true⟩,[],.leaf⟩
 | .h1 v5 v7=>⟨⟨48,0,true⟩,none,(Zq prog 118 (pn 151) 0),none,(Zy prog 4),⟨Zs [(1,(dt l1)),(5,(.sla 0 1 0 v5.length (.un 1))),(7,(ii v7))],Xe [(rz v5 3 1)] 0,1,[],true⟩,[],.leaf⟩
def K1 :List (Option zr):=[some [0,1,5,6]]
def K3 :List (Option zr):=[]
def K0 :List (Option zr):=[some [1,5,7]]
def K2 :List (Option zr):=[]
def HC (l0:zw) (l1:zw):Hg->Yr Hg
 | .h0 v5 v6=>let b:=rd l0 v6.toNat;(bif (decide (v6<(l0.length:Int))) then (bif ((decide (0<=v6/\v6<(l0.length:Int)))&&true) then (bif (Nat.beq 1 1&&((decide (0+v5.length=v5.length))&&decide ((v5.length+2+1)*(8+1)<=Jm))) then (.to (.h0 (v5++[b.a,b.c]) (wrap .i64 (v6+1)))) else .stuck) else .stuck) else (.to (.h1 v5 0)))
 | .h1 v5 v7=>let b:=rd l1 v7.toNat;(bif (decide (v7<(l1.length:Int))) then (bif ((decide (0<=v7/\v7<(l1.length:Int)))&&true) then (bif (Nat.beq 1 1&&((decide (0+v5.length=v5.length))&&decide ((v5.length+2+1)*(8+1)<=Jm))) then (.to (.h1 (v5++[b.a,b.c]) (wrap .i64 (v7+1)))) else .stuck) else .stuck) else (bif (Qo (CA v5)) then (.ret [(.dat (Cg (CA v5)).length (Zz (Cg (CA v5))))]) else .stuck))
def YI (l0:zw) (l1:zw):Yr Hg:=(.to (.h0 ([]:zp) 0))
theorem w8n (l0:zw) (l1:zw): ∀s,Xx prog (Zy prog 118) (OA l0 l1) (OA l0 l1 s) (HC l0 l1 s)
 | .h0 v5 v6=>(lb (fun k0=>(lo fun o0=>(lo fun o1=>let f:=rd l0 (tn v6);let e:=f;let b:=v5++[e.a,e.c];let h:=v5++[f.a,f.c];let i:=v5.length+2;let d:=xL i h.length;let g:=Zf (Zz v5) 0 v5.length 1 [(ii f.a),(ii f.c)];(sl Dr 20 [] ⟨[2],[],K1,K3⟩ ⟨[(5,.len b.length)],[.rowed 1 b.length (Zz b)],[]⟩ [true] (pp d (pp d (pp (xS i g (Zz h)) (pp (pp (xF g) nn) (ww o1 (ww o0 (ww o0 (tt k0 nn)))))))))))) (fun k0=>(sl Dr 17 [] ⟨[0],[],K0,K2⟩ a6 [false] (pp (fl v5 nn) (tt k0 nn)))))
 | .h1 v5 v7=>(lb (fun k0=>(lo fun o0=>(lo fun o1=>let g:=rd l1 (tn v7);let e:=g;let b:=v5++[e.a,e.c];let i:=v5++[g.a,g.c];let j:=v5.length+2;let d:=xL j i.length;let h:=Zf (Zz v5) 0 v5.length 1 [(ii g.a),(ii g.c)];(sl Dr 20 [] ⟨[2],[],K0,K2⟩ ⟨[(5,.len b.length)],[.rowed 1 b.length (Zz b)],[]⟩ [true] (pp d (pp d (pp (xS j h (Zz i)) (pp (pp (xF h) nn) (ww o1 (ww o0 (ww o0 (tt k0 nn)))))))))))) (fun k0=>(Ve (sl Dr (C':=⟨⟨48,0,true⟩,(Wr prog 118 (pn 47) 1),(Zq prog 118 (pn 47) 1),none,(Zy prog 4),⟨Zs [(46,(dt v5))],Xe [] 0,0,[],true⟩,[],.leaf⟩) 13 [] ⟨[],[0],[some [46]],[]⟩ ⟨[(46,.frz v5.length v5.length (Zz v5) (Zz v5))],[],[]⟩ [false] (pp (xZ (Cv 1 1 0 v5.length v5.length (Zz v5)) v5.length (Zz v5)) (pp (xL v5.length v5.length) (pp (xS v5.length (Zz v5) (Zz v5)) (pp (fl v5 nn) (tt k0 nn)))))) (lo fun o0=>let f:=Cg (CA v5);(lr 48 3 (pn 767) 1 4 [(4,(dt f))] (sl Dr 3 [] (a7 [4]) a6 [] (pp (pp (xr v5) (xw o0)) nn)))))))
theorem x8w (l0:zw) (l1:zw):Xx prog (Zy prog 118) (OA l0 l1) (Zp prog 118 [(dt l0),(dt l1)] true []) (YI l0 l1):=(sl Dr 15 [(3,1,Zz ([]:zp))] ⟨[0],[],K1,K3⟩ ⟨[(5,.grow 0 1)],[],[]⟩ [] (pp (fl ([]:zp) nn) nn))
theorem u0q (l0:zw) (l1:zw) (n:Nat) (vs:zy) (h:Yx (HC l0 l1) n (YI l0 l1)=.ret vs):Vi prog (Zy prog 118) (Zp prog 118 [(dt l0),(dt l1)] true []) vs:=by have:=Zg (w8n l0 l1) n _ (x8w l0 l1);rwa [h] at this
inductive Hf where
 | h0 (v5:zp) (v6:Int)
 | h1 (v5:zp) (v7:Int)
def Nz (l0:zw) (l1:zw):Hf->CI
 | .h0 v5 v6=>⟨⟨48,0,true⟩,none,(Zq prog 119 (pn 75) 0),none,(Zy prog 4),⟨Zs [(0,(dt l0)),(1,(dt l1)),(5,(.sla 0 1 0 v5.length (.un 1))),(6,(ii v6))],Xe [(rz v5 3 1)] 0,1,[],true⟩,[],.leaf⟩
 | .h1 v5 v7=>⟨⟨48,0,true⟩,none,(Zq prog 119 (pn 151) 0),none,(Zy prog 4),⟨Zs [(1,(dt l1)),(5,(.sla 0 1 0 v5.length (.un 1))),(7,(ii v7))],Xe [(rz v5 3 1)] 0,1,[],true⟩,[],.leaf⟩
def KX :List (Option zr):=[some [0,1,5,6]]
def KZ :List (Option zr):=[]
def KW :List (Option zr):=[some [1,5,7]]
def KY :List (Option zr):=[]
def HD (l0:zw) (l1:zw):Hf->Yr Hf
 | .h0 v5 v6=>let a:=rd l0 v6.toNat;(bif (decide (v6<(l0.length:Int))) then (bif ((decide (0<=v6/\v6<(l0.length:Int)))&&true) then (bif (Nat.beq 1 1&&((decide (0+v5.length=v5.length))&&decide ((v5.length+2+1)*(8+1)<=Jm))) then (.to (.h0 (v5++[a.b,a.d]) (wrap .i64 (v6+1)))) else .stuck) else .stuck) else (.to (.h1 v5 0)))
 | .h1 v5 v7=>let a:=rd l1 v7.toNat;(bif (decide (v7<(l1.length:Int))) then (bif ((decide (0<=v7/\v7<(l1.length:Int)))&&true) then (bif (Nat.beq 1 1&&((decide (0+v5.length=v5.length))&&decide ((v5.length+2+1)*(8+1)<=Jm))) then (.to (.h1 (v5++[a.b,a.d]) (wrap .i64 (v7+1)))) else .stuck) else .stuck) else (bif (Qo (CA v5)) then (.ret [(.dat (Cg (CA v5)).length (Zz (Cg (CA v5))))]) else .stuck))
def YJ (l0:zw) (l1:zw):Yr Hf:=(.to (.h0 ([]:zp) 0))
theorem w8m (l0:zw) (l1:zw): ∀s,Xx prog (Zy prog 119) (Nz l0 l1) (Nz l0 l1 s) (HD l0 l1 s)
 | .h0 v5 v6=>(lb (fun k0=>(lo fun o0=>(lo fun o1=>let f:=rd l0 (tn v6);let e:=f;let a:=v5++[e.b,e.d];let h:=v5++[f.b,f.d];let i:=v5.length+2;let c:=xL i h.length;let g:=Zf (Zz v5) 0 v5.length 1 [(ii f.b),(ii f.d)];(sl Dr 20 [] ⟨[2],[],KX,KZ⟩ ⟨[(5,.len a.length)],[.rowed 1 a.length (Zz a)],[]⟩ [true] (pp c (pp c (pp (xS i g (Zz h)) (pp (pp (xF g) nn) (ww o1 (ww o0 (ww o0 (tt k0 nn)))))))))))) (fun k0=>(sl Dr 17 [] ⟨[0],[],KW,KY⟩ a6 [false] (pp (fl v5 nn) (tt k0 nn)))))
 | .h1 v5 v7=>(lb (fun k0=>(lo fun o0=>(lo fun o1=>let g:=rd l1 (tn v7);let e:=g;let a:=v5++[e.b,e.d];let i:=v5++[g.b,g.d];let j:=v5.length+2;let c:=xL j i.length;let h:=Zf (Zz v5) 0 v5.length 1 [(ii g.b),(ii g.d)];(sl Dr 20 [] ⟨[2],[],KW,KY⟩ ⟨[(5,.len a.length)],[.rowed 1 a.length (Zz a)],[]⟩ [true] (pp c (pp c (pp (xS j h (Zz i)) (pp (pp (xF h) nn) (ww o1 (ww o0 (ww o0 (tt k0 nn)))))))))))) (fun k0=>(Ve (sl Dr (C':=⟨⟨48,0,true⟩,(Wr prog 119 (pn 47) 1),(Zq prog 119 (pn 47) 1),none,(Zy prog 4),⟨Zs [(46,(dt v5))],Xe [] 0,0,[],true⟩,[],.leaf⟩) 13 [] ⟨[],[0],[some [46]],[]⟩ ⟨[(46,.frz v5.length v5.length (Zz v5) (Zz v5))],[],[]⟩ [false] (pp (xZ (Cv 1 1 0 v5.length v5.length (Zz v5)) v5.length (Zz v5)) (pp (xL v5.length v5.length) (pp (xS v5.length (Zz v5) (Zz v5)) (pp (fl v5 nn) (tt k0 nn)))))) (lo fun o0=>let f:=Cg (CA v5);(lr 48 3 (pn 767) 1 4 [(4,(dt f))] (sl Dr 3 [] (a7 [4]) a6 [] (pp (pp (xr v5) (xw o0)) nn)))))))
theorem x8v (l0:zw) (l1:zw):Xx prog (Zy prog 119) (Nz l0 l1) (Zp prog 119 [(dt l0),(dt l1)] true []) (YJ l0 l1):=(sl Dr 15 [(3,1,Zz ([]:zp))] ⟨[0],[],KX,KZ⟩ ⟨[(5,.grow 0 1)],[],[]⟩ [] (pp (fl ([]:zp) nn) nn))
theorem u0p (l0:zw) (l1:zw) (n:Nat) (vs:zy) (h:Yx (HD l0 l1) n (YJ l0 l1)=.ret vs):Vi prog (Zy prog 119) (Zp prog 119 [(dt l0),(dt l1)] true []) vs:=by have:=Zg (w8m l0 l1) n _ (x8v l0 l1);rwa [h] at this
inductive Ew where
 | h0 (v5:zp) (v6:Int)
 | h1 (v5:zp) (v7:Int)
def j4v (l0:zx) (l1:zx):Ew->CI
 | .h0 v5 v6=>⟨⟨52,0,true⟩,none,(Zq prog 88 (pn 75) 0),none,(Zy prog 4),⟨Zs [(0,(dt l0)),(1,(dt l1)),(5,(.sla 0 1 0 v5.length (.un 1))),(6,(ii v6))],Xe [(rz v5 3 1)] 0,1,[],true⟩,[],.leaf⟩
 | .h1 v5 v7=>⟨⟨52,0,true⟩,none,(Zq prog 88 (pn 151) 0),none,(Zy prog 4),⟨Zs [(1,(dt l1)),(5,(.sla 0 1 0 v5.length (.un 1))),(7,(ii v7))],Xe [(rz v5 3 1)] 0,1,[],true⟩,[],.leaf⟩
def u8x :List (Option zr):=[some [0,1,5,6]]
def u8z :List (Option zr):=[]
def u8w :List (Option zr):=[some [1,5,7]]
def u8y :List (Option zr):=[]
def HI (l0:zx) (l1:zx):Ew->Yr Ew
 | .h0 v5 v6=>let a:=rd l0 v6.toNat;(bif (decide (v6<(l0.length:Int))) then (bif ((decide (0<=v6/\v6<(l0.length:Int)))&&true) then (bif (Nat.beq 1 1&&((decide (0+v5.length=v5.length))&&decide ((v5.length+2+1)*(8+1)<=Jm))) then (.to (.h0 (v5++[a.c,a.f]) (wrap .i64 (v6+1)))) else .stuck) else .stuck) else (.to (.h1 v5 0)))
 | .h1 v5 v7=>let a:=rd l1 v7.toNat;(bif (decide (v7<(l1.length:Int))) then (bif ((decide (0<=v7/\v7<(l1.length:Int)))&&true) then (bif (Nat.beq 1 1&&((decide (0+v5.length=v5.length))&&decide ((v5.length+2+1)*(8+1)<=Jm))) then (.to (.h1 (v5++[a.c,a.f]) (wrap .i64 (v7+1)))) else .stuck) else .stuck) else (bif (Qo (CA v5)) then (.ret [(.dat (Cg (CA v5)).length (Zz (Cg (CA v5))))]) else .stuck))
def WQ (l0:zx) (l1:zx):Yr Ew:=(.to (.h0 ([]:zp) 0))
theorem w0v (l0:zx) (l1:zx): ∀s,Xx prog (Zy prog 88) (j4v l0 l1) (j4v l0 l1 s) (HI l0 l1 s)
 | .h0 v5 v6=>(lb (fun k0=>(lo fun o0=>(lo fun o1=>let e:=rd l0 (tn v6);let d:=e;let a:=v5++[d.c,d.f];let h:=v5++[e.c,e.f];let i:=v5.length+2;let b:=xL i h.length;let g:=Zf (Zz v5) 0 v5.length 1 [(ii e.c),(ii e.f)];(sl Dr 20 [] ⟨[2],[],u8x,u8z⟩ ⟨[(5,.len a.length)],[.rowed 1 a.length (Zz a)],[]⟩ [true] (pp b (pp b (pp (xS i g (Zz h)) (pp (pp (xF g) nn) (ww o1 (ww o0 (ww o0 (tt k0 nn)))))))))))) (fun k0=>(sl Dr 17 [] ⟨[0],[],u8w,u8y⟩ a6 [false] (pp (fl v5 nn) (tt k0 nn)))))
 | .h1 v5 v7=>(lb (fun k0=>(lo fun o0=>(lo fun o1=>let g:=rd l1 (tn v7);let d:=g;let a:=v5++[d.c,d.f];let i:=v5++[g.c,g.f];let j:=v5.length+2;let b:=xL j i.length;let h:=Zf (Zz v5) 0 v5.length 1 [(ii g.c),(ii g.f)];(sl Dr 20 [] ⟨[2],[],u8w,u8y⟩ ⟨[(5,.len a.length)],[.rowed 1 a.length (Zz a)],[]⟩ [true] (pp b (pp b (pp (xS j h (Zz i)) (pp (pp (xF h) nn) (ww o1 (ww o0 (ww o0 (tt k0 nn)))))))))))) (fun k0=>(Ve (sl Dr (C':=⟨⟨52,0,true⟩,(Wr prog 88 (pn 47) 1),(Zq prog 88 (pn 47) 1),none,(Zy prog 4),⟨Zs [(50,(dt v5))],Xe [] 0,0,[],true⟩,[],.leaf⟩) 13 [] ⟨[],[0],[some [50]],[]⟩ ⟨[(50,.frz v5.length v5.length (Zz v5) (Zz v5))],[],[]⟩ [false] (pp (xZ (Cv 1 1 0 v5.length v5.length (Zz v5)) v5.length (Zz v5)) (pp (xL v5.length v5.length) (pp (xS v5.length (Zz v5) (Zz v5)) (pp (fl v5 nn) (tt k0 nn)))))) (lo fun o0=>let e:=Cg (CA v5);(lr 52 3 (pn 767) 1 4 [(4,(dt e))] (sl Dr 3 [] (a7 [4]) a6 [] (pp (pp (xr v5) (xw o0)) nn)))))))
theorem x5g (l0:zx) (l1:zx):Xx prog (Zy prog 88) (j4v l0 l1) (Zp prog 88 [(dt l0),(dt l1)] true []) (WQ l0 l1):=(sl Dr 15 [(3,1,Zz ([]:zp))] ⟨[0],[],u8x,u8z⟩ ⟨[(5,.grow 0 1)],[],[]⟩ [] (pp (fl ([]:zp) nn) nn))
theorem v5i (l0:zx) (l1:zx) (n:Nat) (vs:zy) (h:Yx (HI l0 l1) n (WQ l0 l1)=.ret vs):Vi prog (Zy prog 88) (Zp prog 88 [(dt l0),(dt l1)] true []) vs:=by have:=Zg (w0v l0 l1) n _ (x5g l0 l1);rwa [h] at this
def Ds (l:zw):zp:=l.flatMap fun r=>[r.a,r.c]
def D5 (l:zw):zp:=l.flatMap fun r=>[r.b,r.d]
def Dt (l:zx):zp:=l.flatMap fun r=>[r.c,r.f]
def CO (l m:zw):zp:=Cg (Ds l++Ds m)
def YW (l m:zw):Bool:=decide (l.length<=10000/\m.length<=10000)
theorem z4t (l:zw):(Ds l).length =2*l.length:=by
 induction l with
 | nil=>rfl
 | cons r l ih=>grind [Ds]
theorem y9s (l:zw) (i:Nat) (h:i<l.length):Ds (l.drop i)=Ds [rd l i]++Ds (l.drop (i+1)):=by rw [Yo h];rfl
theorem u7j (l m:zw) (hl:l.length<=10000) (hm:m.length<=10000): ∀(k i:Nat) (out:zp),i+k=m.length->out.length=2*l.length+2*i-> ∃N,Yx (HC l m) N (.to (.h1 out (i:Int)))=.ret [.dat (Cg (out++Ds (m.drop i))).length (Zz (Cg (out++Ds (m.drop i))))]
 | 0,i,out,h,ho=>by refine ⟨1,?_⟩;have hw:Qo out=true:=Af (by omega);rw [Zx,Av (show m.length<=i by omega),show Ds []=[] from rfl,AA];simp (disch:=omega) only [HC,Xg,Ys,Zt,Ym,Xs,Yq,Ye,Ya,Zr,Zk,Zn,Ur,Jz,As,Zu,Yj,Yz,Yc,Zj,Ah,Ai,Ak,Ab,Aa,Aw,Az,Zd,Za,Zm,Ux,Xc,hw]
 | k+1,i,out,h,ho=>by obtain ⟨N,hN⟩:=u7j l m hl hm k (i+1) (out++Ds [rd m i]) (by omega) (by grind [z4t]);refine ⟨N+1,?_⟩;rw [y9s m i (by omega),<-AH,Zx];simp (disch:=omega) only [HC,Xg,Ys,Zt,Ym,Xs,Yq,Ye,Ya,Zr,Zk,Zn,Ur,Jz,As,Zu,Yj,Yz,Yc,Zj,Ah,Ai,Ak,Ab,Aa,Aw,Az,Zd,Za,Zm,Ux,Xc];exact hN
theorem u7k (l m:zw) (hl:l.length<=10000) (hm:m.length<=10000): ∀(k i:Nat) (out:zp),i+k=l.length->out.length=2*i-> ∃N,Yx (HC l m) N (.to (.h0 out (i:Int)))=.ret [.dat (Cg (out++Ds (l.drop i)++Ds m)).length (Zz (Cg (out++Ds (l.drop i)++Ds m)))]
 | 0,i,out,h,ho=>by obtain ⟨N,hN⟩:=u7j l m hl hm m.length 0 out (Ah _) (by omega);refine ⟨N+1,?_⟩;rw [Zx,Av (show l.length<=i by omega),show Ds []=[] from rfl,AA];simp (disch:=omega) only [HC,Xg,Ys,Zt,Ym,Xs,Yq,Ye,Ya,Zr,Zk,Zn,Ur,Jz,As,Zu,Yj,Yz,Yc,Zj,Ah,Ai,Ak,Ab,Aa,Aw,Az,Zd,Za,Zm,Ux,Xc];exact hN
 | k+1,i,out,h,ho=>by obtain ⟨N,hN⟩:=u7k l m hl hm k (i+1) (out++Ds [rd l i]) (by omega) (by grind [z4t]);refine ⟨N+1,?_⟩;rw [y9s l i (by omega),<-AH,Zx];simp (disch:=omega) only [HC,Xg,Ys,Zt,Ym,Xs,Yq,Ye,Ya,Zr,Zk,Zn,Ur,Jz,As,Zu,Yj,Yz,Yc,Zj,Ah,Ai,Ak,Ab,Aa,Aw,Az,Zd,Za,Zm,Ux,Xc];exact hN
theorem j2w (l m:zw) (h:YW l m=true): ∃N,Yx (HC l m) N (YI l m)=.ret [.dat (CO l m).length (Zz (CO l m))]:=by
 obtain ⟨h1,h2⟩:=Ax h;have:=u7k l m h1 h2 l.length 0 [] (Ah _) rfl
 simpa [YI,CO] using this
def CR (l m:zw):zp:=Cg (D5 l++D5 m)
def YX (l m:zw):Bool:=decide (l.length<=10000/\m.length<=10000)
theorem z4s (l:zw):(D5 l).length =2*l.length:=by
 induction l with
 | nil=>rfl
 | cons r l ih=>grind [D5]
theorem y9r (l:zw) (i:Nat) (h:i<l.length):D5 (l.drop i)=D5 [rd l i]++D5 (l.drop (i+1)):=by rw [Yo h];rfl
theorem u7h (l m:zw) (hl:l.length<=10000) (hm:m.length<=10000): ∀(k i:Nat) (out:zp),i+k=m.length->out.length=2*l.length+2*i-> ∃N,Yx (HD l m) N (.to (.h1 out (i:Int)))=.ret [.dat (Cg (out++D5 (m.drop i))).length (Zz (Cg (out++D5 (m.drop i))))]
 | 0,i,out,h,ho=>by refine ⟨1,?_⟩;have hw:Qo out=true:=Af (by omega);rw [Zx,Av (show m.length<=i by omega),show D5 []=[] from rfl,AA];simp (disch:=omega) only [HD,Xg,Ys,Zt,Ym,Xs,Yq,Ye,Ya,Zr,Zk,Zn,Ur,Jz,As,Zu,Yj,Yz,Yc,Zj,Ah,Ai,Ak,Ab,Aa,Aw,Az,Zd,Za,Zm,Ux,Xc,hw]
 | k+1,i,out,h,ho=>by obtain ⟨N,hN⟩:=u7h l m hl hm k (i+1) (out++D5 [rd m i]) (by omega) (by grind [z4s]);refine ⟨N+1,?_⟩;rw [y9r m i (by omega),<-AH,Zx];simp (disch:=omega) only [HD,Xg,Ys,Zt,Ym,Xs,Yq,Ye,Ya,Zr,Zk,Zn,Ur,Jz,As,Zu,Yj,Yz,Yc,Zj,Ah,Ai,Ak,Ab,Aa,Aw,Az,Zd,Za,Zm,Ux,Xc];exact hN
theorem u7i (l m:zw) (hl:l.length<=10000) (hm:m.length<=10000): ∀(k i:Nat) (out:zp),i+k=l.length->out.length=2*i-> ∃N,Yx (HD l m) N (.to (.h0 out (i:Int)))=.ret [.dat (Cg (out++D5 (l.drop i)++D5 m)).length (Zz (Cg (out++D5 (l.drop i)++D5 m)))]
 | 0,i,out,h,ho=>by obtain ⟨N,hN⟩:=u7h l m hl hm m.length 0 out (Ah _) (by omega);refine ⟨N+1,?_⟩;rw [Zx,Av (show l.length<=i by omega),show D5 []=[] from rfl,AA];simp (disch:=omega) only [HD,Xg,Ys,Zt,Ym,Xs,Yq,Ye,Ya,Zr,Zk,Zn,Ur,Jz,As,Zu,Yj,Yz,Yc,Zj,Ah,Ai,Ak,Ab,Aa,Aw,Az,Zd,Za,Zm,Ux,Xc];exact hN
 | k+1,i,out,h,ho=>by obtain ⟨N,hN⟩:=u7i l m hl hm k (i+1) (out++D5 [rd l i]) (by omega) (by grind [z4s]);refine ⟨N+1,?_⟩;rw [y9r l i (by omega),<-AH,Zx];simp (disch:=omega) only [HD,Xg,Ys,Zt,Ym,Xs,Yq,Ye,Ya,Zr,Zk,Zn,Ur,Jz,As,Zu,Yj,Yz,Yc,Zj,Ah,Ai,Ak,Ab,Aa,Aw,Az,Zd,Za,Zm,Ux,Xc];exact hN
theorem j2v (l m:zw) (h:YX l m=true): ∃N,Yx (HD l m) N (YJ l m)=.ret [.dat (CR l m).length (Zz (CR l m))]:=by
 obtain ⟨h1,h2⟩:=Ax h;have:=u7i l m h1 h2 l.length 0 [] (Ah _) rfl
 simpa [YJ,CR] using this
def Xj (l m:zx):zp:=Cg (Dt l++Dt m)
def Y2 (l m:zx):Bool:=decide (l.length<=40000/\m.length<=40000)
theorem z4r (l:zx):(Dt l).length =2*l.length:=by
 induction l with
 | nil=>rfl
 | cons r l ih=>grind [Dt]
theorem y9o (l:zx) (i:Nat) (h:i<l.length):Dt (l.drop i)=Dt [rd l i]++Dt (l.drop (i+1)):=by rw [Yo h];rfl
theorem v5g (l m:zx) (hl:l.length<=40000) (hm:m.length<=40000): ∀(k i:Nat) (out:zp),i+k=m.length->out.length=2*l.length+2*i-> ∃N,Yx (HI l m) N (.to (.h1 out (i:Int)))=.ret [.dat (Cg (out++Dt (m.drop i))).length (Zz (Cg (out++Dt (m.drop i))))]
 | 0,i,out,h,ho=>by refine ⟨1,?_⟩;have hw:Qo out=true:=Af (by omega);rw [Zx,Av (show m.length<=i by omega),show Dt []=[] from rfl,AA];simp (disch:=omega) only [HI,Xg,Ys,Zt,Ym,Xs,Yq,Ye,Ya,Zr,Zk,Zn,Ur,Jz,As,Zu,Yj,Yz,Yc,Zj,Ah,Ai,Ak,Ab,Aa,Aw,Az,Zd,Za,Zm,Ux,Xc,hw]
 | k+1,i,out,h,ho=>by obtain ⟨N,hN⟩:=v5g l m hl hm k (i+1) (out++Dt [rd m i]) (by omega) (by grind [z4r]);refine ⟨N+1,?_⟩;rw [y9o m i (by omega),<-AH,Zx];simp (disch:=omega) only [HI,Xg,Ys,Zt,Ym,Xs,Yq,Ye,Ya,Zr,Zk,Zn,Ur,Jz,As,Zu,Yj,Yz,Yc,Zj,Ah,Ai,Ak,Ab,Aa,Aw,Az,Zd,Za,Zm,Ux,Xc];exact hN
theorem v5h (l m:zx) (hl:l.length<=40000) (hm:m.length<=40000): ∀(k i:Nat) (out:zp),i+k=l.length->out.length=2*i-> ∃N,Yx (HI l m) N (.to (.h0 out (i:Int)))=.ret [.dat (Cg (out++Dt (l.drop i)++Dt m)).length (Zz (Cg (out++Dt (l.drop i)++Dt m)))]
 | 0,i,out,h,ho=>by obtain ⟨N,hN⟩:=v5g l m hl hm m.length 0 out (Ah _) (by omega);refine ⟨N+1,?_⟩;rw [Zx,Av (show l.length<=i by omega),show Dt []=[] from rfl,AA];simp (disch:=omega) only [HI,Xg,Ys,Zt,Ym,Xs,Yq,Ye,Ya,Zr,Zk,Zn,Ur,Jz,As,Zu,Yj,Yz,Yc,Zj,Ah,Ai,Ak,Ab,Aa,Aw,Az,Zd,Za,Zm,Ux,Xc];exact hN
 | k+1,i,out,h,ho=>by obtain ⟨N,hN⟩:=v5h l m hl hm k (i+1) (out++Dt [rd l i]) (by omega) (by grind [z4r]);refine ⟨N+1,?_⟩;rw [y9o l i (by omega),<-AH,Zx];simp (disch:=omega) only [HI,Xg,Ys,Zt,Ym,Xs,Yq,Ye,Ya,Zr,Zk,Zn,Ur,Jz,As,Zu,Yj,Yz,Yc,Zj,Ah,Ai,Ak,Ab,Aa,Aw,Az,Zd,Za,Zm,Ux,Xc];exact hN
theorem u2j (l m:zx) (h:Y2 l m=true): ∃N,Yx (HI l m) N (WQ l m)=.ret [.dat (Xj l m).length (Zz (Xj l m))]:=by
 obtain ⟨h1,h2⟩:=Ax h;have:=v5h l m h1 h2 l.length 0 [] (Ah _) rfl
 simpa [WQ,Xj] using this
def fXs :zy->Option (B9×Bool)
 | [a0,a1]=>match CY R4 a0,CY R4 a1 with
  | some (L0,g0,n0),some (L1,g1,n1)=>some (.dat (CO L0 L1).length (Zz (CO L0 L1)),CX R4 n0 g0&&(CX R4 n1 g1&&(YW L0 L1)))
  | _,_=>none
 | _=>none
theorem Pe {S:CB} (hS:Zw prog S):Zw prog (S.with nXs fXs):=by
 refine Kv hS (by kernel_rfl) fun args v h=> ?_;unfold fXs at h;split at h
 .rename_i a0 a1;split at h
  .rename_i L0 g0 n0 L1 g1 n1 e0 e1;simp only [Ad,Ae,Ac] at h;obtain ⟨rfl,ho0,ho1,hw⟩:=h;obtain ⟨N,hN⟩:=j2w L0 L1 hw;exact ⟨_,_,(.cons (Yi e0 ho0) (.cons (Yi e1 ho1) .nil)),rfl,u0q L0 L1 N _ hN,3,rfl⟩
  .cases h
 .cases h
def fYs :zy->Option (B9×Bool)
 | [a0,a1]=>match CY R4 a0,CY R4 a1 with
  | some (L0,g0,n0),some (L1,g1,n1)=>some (.dat (CR L0 L1).length (Zz (CR L0 L1)),CX R4 n0 g0&&(CX R4 n1 g1&&(YX L0 L1)))
  | _,_=>none
 | _=>none
theorem Pd {S:CB} (hS:Zw prog S):Zw prog (S.with nYs fYs):=by
 refine Kv hS (by kernel_rfl) fun args v h=> ?_;unfold fYs at h;split at h
 .rename_i a0 a1;split at h
  .rename_i L0 g0 n0 L1 g1 n1 e0 e1;simp only [Ad,Ae,Ac] at h;obtain ⟨rfl,ho0,ho1,hw⟩:=h;obtain ⟨N,hN⟩:=j2v L0 L1 hw;exact ⟨_,_,(.cons (Yi e0 ho0) (.cons (Yi e1 ho1) .nil)),rfl,u0p L0 L1 N _ hN,3,rfl⟩
  .cases h
 .cases h
def j9j :zy->Option (B9×Bool)
 | [a0,a1]=>match CY R6 a0,CY R6 a1 with
  | some (L0,g0,n0),some (L1,g1,n1)=>some (.dat (Xj L0 L1).length (Zz (Xj L0 L1)),CX R6 n0 g0&&(CX R6 n1 g1&&(Y2 L0 L1)))
  | _,_=>none
 | _=>none
theorem u4z {S:CB} (hS:Zw prog S):Zw prog (S.with ME j9j):=by
 refine Kv hS (by kernel_rfl) fun args v h=> ?_;unfold j9j at h;split at h
 .rename_i a0 a1;split at h
  .rename_i L0 g0 n0 L1 g1 n1 e0 e1;simp only [Ad,Ae,Ac] at h;obtain ⟨rfl,ho0,ho1,hw⟩:=h;obtain ⟨N,hN⟩:=u2j L0 L1 hw;exact ⟨_,_,(.cons (Yi e0 ho0) (.cons (Yi e1 ho1) .nil)),rfl,v5i L0 L1 N _ hN,3,rfl⟩
  .cases h
 .cases h
def T2 :CB:=((T1.with nXs fXs).with nYs fYs).with ME j9j
theorem FI :Zw prog T2:=u4z (Pd (Pe Dr))
inductive Hz where
 | h0 (v9:zw) (v10:zq) (v11:Int) (v12:Int)
 | h1 (v9:zw) (v10:zq) (v11:Int) (v12:Int) (v13:List Bool) (v14:Int)
 | h2 (v9:zw) (v10:zq) (v11:Int) (v12:Int) (v15:zq) (v17:Int)
 | h3 (v9:zw) (v10:zq) (v11:Int) (v12:Int) (v16:Int)
def O2 (x0:Int) (l1:zw) (l2:zw):Hz->CI
 | .h0 v9 v10 v11 v12=>⟨⟨121,0,true⟩,none,(Zq prog 89 (pn 607) 0),none,(Zy prog 3),⟨Zs [(0,(ii x0)),(1,(dt l1)),(2,(dt l2)),(7,(.dat (CO (CA l1) (CA l2)).length (Zz (CO (CA l1) (CA l2))))),(8,(.dat (CR (CA l1) (CA l2)).length (Zz (CR (CA l1) (CA l2))))),(9,(.sla 0 4 0 v9.length (.un 4))),(10,(dt v10)),(11,(ii v11)),(12,(ii v12))],Xe [(rz v9 155 4)] 0,1,[],true⟩,[],.leaf⟩
 | .h1 v9 v10 v11 v12 v13 v14=>⟨⟨121,0,true⟩,none,(Zq prog 89 (pn 152159) 0),none,(Zy prog 3),⟨Zs [(0,(ii x0)),(1,(dt l1)),(2,(dt l2)),(7,(.dat (CO (CA l1) (CA l2)).length (Zz (CO (CA l1) (CA l2))))),(8,(.dat (CR (CA l1) (CA l2)).length (Zz (CR (CA l1) (CA l2))))),(9,(.sla 1 4 0 v9.length (.un 4))),(10,(dt v10)),(11,(ii v11)),(12,(ii v12)),(13,(.sla 0 1 0 v13.length (.un 1))),(14,(ii v14))],Xe [(rz v13 4 1),(rz v9 155 4)] 0,2,[],true⟩,[],.leaf⟩
 | .h2 v9 v10 v11 v12 v15 v17=>⟨⟨121,0,true⟩,none,(Zq prog 89 (pn 1307231) 0),none,(Zy prog 3),⟨Zs [(0,(ii x0)),(1,(dt l1)),(2,(dt l2)),(7,(.dat (CO (CA l1) (CA l2)).length (Zz (CO (CA l1) (CA l2))))),(8,(.dat (CR (CA l1) (CA l2)).length (Zz (CR (CA l1) (CA l2))))),(9,(.sla 0 4 0 v9.length (.un 4))),(10,(dt v10)),(11,(ii v11)),(12,(ii v12)),(15,(dt v15)),(17,(ii v17))],Xe [(rz v9 155 4)] 0,1,[],true⟩,[],.leaf⟩
 | .h3 v9 v10 v11 v12 v16=>⟨⟨121,0,true⟩,none,(Zq prog 89 (pn 4813407) 0),none,(Zy prog 3),⟨Zs [(0,(ii x0)),(1,(dt l1)),(2,(dt l2)),(7,(.dat (CO (CA l1) (CA l2)).length (Zz (CO (CA l1) (CA l2))))),(8,(.dat (CR (CA l1) (CA l2)).length (Zz (CR (CA l1) (CA l2))))),(9,(.sla 0 4 0 v9.length (.un 4))),(10,(dt v10)),(11,(ii v11)),(12,(ii v12)),(16,(ii v16))],Xe [(rz v9 155 4)] 0,1,[],true⟩,[],.leaf⟩
def j4e :List (Option zr):=[some [0,1,2,7,8,9,10,11,12]]
def j4g :List (Option zr):=[]
def La :List (Option zr):=[some [0,1,2,7,8,9,10,11,12,13,14]]
def Lc :List (Option zr):=[]
def j4d :List (Option zr):=[some [0,1,2,7,8,9,10,11,12,15,17]]
def j4f :List (Option zr):=[]
def L9 :List (Option zr):=[some [0,1,2,7,8,9,10,11,12,16]]
def Lb :List (Option zr):=[]
def Vn (x0:Int) (l1:zw) (l2:zw):Hz->Yr Hz
 | .h0 v9 v10 v11 v12=>(bif (decide ((wrap .i64 (v12+1))<(((CO (CA l1) (CA l2)).length :Nat):Int))) then (.to (.h1 v9 v10 v11 v12 ([]:List Bool) 0)) else (.ret [(dt v9)]))
 | .h1 v9 v10 v11 v12 v13 v14=>let a:=CR (CA l1) (CA l2);let b:=rd (CO (CA l1) (CA l2)) v12.toNat;let c:=DI (CA a) (CA v13);let d:=rd a v14.toNat;(bif (decide (v14<((a.length :Nat):Int))) then (bif (R7 (CA l1) b d) then (bif ((decide (0<=v12/\v12<(((CO (CA l1) (CA l2)).length :Nat):Int)))&&true) then (bif ((decide (0<=v14/\v14<((a.length :Nat):Int)))&&true) then (bif (R7 (CA l2) b d) then (bif (Nat.beq 1 1&&((decide (0+v13.length=v13.length))&&decide ((v13.length+1+1)*(1+1)<=Jm))) then (.to (.h1 v9 v10 v11 v12 (v13++[(Fm x0 (Js (CA l1) b d) (Js (CA l2) b d))]) (wrap .i64 (v14+1)))) else .stuck) else .stuck) else .stuck) else .stuck) else .stuck) else (bif (YZ (CA a) (CA v13)) then (bif (decide (v12>0)) then (bif (Uj (CA c) (CA v10)) then (bif (Qt (CA c) (CA v10)) then (.to (.h3 v9 v10 v11 v12 v11)) else (.to (.h2 v9 c (v9.length:Int) v12 c 0))) else .stuck) else (.to (.h2 v9 c (v9.length:Int) v12 c 0))) else .stuck))
 | .h2 v9 v10 v11 v12 v15 v17=>let c:=CO (CA l1) (CA l2);let d:=rd v15 v17.toNat;(bif (decide (v17<(v15.length:Int))) then (bif ((decide (0<=v12/\v12<((c.length :Nat):Int)))&&true) then (bif ((decide (0<=(wrap .i64 (v12+1))/\(wrap .i64 (v12+1))<((c.length :Nat):Int)))&&true) then (bif ((decide (0<=v17/\v17<(v15.length:Int)))&&true) then (bif (Nat.beq 4 4&&((decide (0+v9.length=v9.length))&&decide ((v9.length+1+1)*(32+1)<=Jm))) then (.to (.h2 (v9++[(R4.mk (rd c v12.toNat) d.a (rd c (Int.toNat (wrap .i64 (v12+1)))) d.b)]) v10 v11 v12 v15 (wrap .i64 (v17+1)))) else .stuck) else .stuck) else .stuck) else .stuck) else (.to (.h0 v9 v10 v11 (wrap .i64 (v12+1)))))
 | .h3 v9 v10 v11 v12 v16=>let c:=rd v9 (0+v16.toNat);let e:=CO (CA l1) (CA l2);(bif (decide (v16<(v9.length:Int))) then (bif ((decide (0<=(wrap .i64 (v12+1))/\(wrap .i64 (v12+1))<((e.length :Nat):Int)))&&true) then (bif ((decide (0<=v16/\v16<(v9.length:Int)))&&true) then (bif (decide ((0+v16.toNat)<v9.length)) then (.to (.h3 (v9.set (0+v16.toNat) (R4.mk c.a c.b (rd e (Int.toNat (wrap .i64 (v12+1)))) c.d)) v10 v11 v12 (wrap .i64 (v16+1)))) else .stuck) else .stuck) else .stuck) else (.to (.h0 v9 v10 v11 (wrap .i64 (v12+1)))))
def X8 (x0:Int) (l1:zw) (l2:zw):Yr Hz:=(bif (YW (CA l1) (CA l2)) then (bif (YX (CA l1) (CA l2)) then (.to (.h0 ([]:zw) ([]:zq) 0 0)) else .stuck) else .stuck)
theorem w9m (x0:Int) (l1:zw) (l2:zw): ∀s,Xx prog (Zy prog 89) (O2 x0 l1 l2) (O2 x0 l1 l2 s) (Vn x0 l1 l2 s)
 | .h0 v9 v10 v11 v12=>(lb (fun k0=>(sl FI 24 [(4,1,Zz ([]:List Bool))] ⟨[1,0],[],La,Lc⟩ ⟨[(13,.grow 0 1)],[],[]⟩ [true] (pp (fl ([]:List Bool) (fl v9 nn)) (tt k0 nn)))) (fun k0=>(lr 121 3 (pn 767) 1 3 [(6,(dt v9))] (sl FI 16 [] ⟨[],[0],[some [6]],[]⟩ ⟨[(6,.frz v9.length v9.length (Zz v9) (Zz v9))],[],[]⟩ [false] (pp (xZ (Cv 4 4 0 v9.length v9.length (Zz v9)) v9.length (Zz v9)) (pp (xL v9.length v9.length) (pp (xS v9.length (Zz v9) (Zz v9)) (pp (fl v9 nn) (tt k0 nn)))))))))
 | .h1 v9 v10 v11 v12 v13 v14=>let j:=CR (CA l1) (CA l2);let c:=j;let n:=CO (CA l1) (CA l2);let d:=n;(lb (fun k0=>(lo fun o0=>(lo fun o1=>(lo fun o2=>(lo fun o3=>(lo fun o4=>let g:=rd d (tn v12);let h:=rd c (tn v14);let a:=v13++[(Fm x0 (Js (CA l1) g h) (Js (CA l2) g h))];let o:=rd n (tn v12);let p:=rd j (tn v14);let i:=Fm x0 (Js (CA l1) o p) (Js (CA l2) o p);let q:=v13.length+1;let b:=xL q (v13++[i]).length;let m:=Zf (Zz v13) 0 v13.length 1 [(.bool i)];(sl FI 20 [] ⟨[3,1],[],La,Lc⟩ ⟨[(13,.len a.length)],[.rowed 1 a.length (Zz a),.keep],[]⟩ [true] (pp b (pp b (pp (xS q m (Zz (v13++[i]))) (pp (pp (xF m) (fl v9 nn)) (ww o4 (pp (pp (xr l2) (xw o3)) (ww o2 (ww o1 (pp (pp (xr l1) (xw o0)) (ww o2 (ww o1 (tt k0 nn))))))))))))))))))) (fun k0=>(Ve (sl FI (C':=⟨⟨121,0,true⟩,(Wr prog 89 (pn 45663) 2),(Zq prog 89 (pn 45663) 1),none,(Zy prog 3),⟨Zs [(0,(ii x0)),(1,(dt l1)),(2,(dt l2)),(7,(dt d)),(8,(dt c)),(9,(.sla 0 4 0 v9.length (.un 4))),(10,(dt v10)),(11,(ii v11)),(12,(ii v12)),(62,(dt c)),(63,(dt v13))],Xe [(rz v9 155 4)] 0,1,[],true⟩,[],.leaf⟩) 14 [] ⟨[1],[0],[some [0,1,2,7,8,9,10,11,12,62,63]],[]⟩ ⟨[(63,.frz v13.length v13.length (Zz v13) (Zz v13))],[],[]⟩ [false] (pp (xZ (Cv 1 1 0 v13.length v13.length (Zz v13)) v13.length (Zz v13)) (pp (xL v13.length v13.length) (pp (xS v13.length (Zz v13) (Zz v13)) (pp (fl v9 nn) (pp (fl v13 nn) (tt k0 nn))))))) (lo fun aL=>let e:=pp (xr v13) (xw aL);(lb (fun k1=>(lo fun bO=>let f:=pp (xr v10) (xw bO);let l:=DI (CA j) (CA v13);(lb (fun k2=>(sl FI 23 [] ⟨[0],[],L9,Lb⟩ a6 (CK 4 []) (pp (fl v9 nn) (tt k2 (pp (pp (xI R2 l.length (Zz l)) f) (tt k1 (pp (pp (xI Int j.length (Zz j)) e) nn))))))) (fun k2=>(sl FI 30 [] ⟨[0],[],j4d,j4f⟩ a6 (CK 3 [false]) (pp (fl v9 nn) (tt k2 (pp (pp (xI R2 l.length (Zz l)) f) (tt k1 (pp (pp (xI Int j.length (Zz j)) e) nn)))))))))) (fun k1=>(sl FI 30 [] ⟨[0],[],j4d,j4f⟩ a6 (bl 4 0) (pp (fl v9 nn) (tt k1 (pp (pp (xI Int j.length (Zz j)) e) nn))))))))))
 | .h2 v9 v10 v11 v12 v15 v17=>(lb (fun k0=>(lo fun o0=>(lo fun o1=>(lo fun o2=>(lo fun o3=>let i:=CO (CA l1) (CA l2);let e:=i;let j:=rd v15 (tn v17);let f:=j;let l:=tn (wr (v12+1));let c:=v9++[(R4.mk (rd e (tn v12)) f.a (rd e l) f.b)];let m:=rd i (tn v12);let h:=v9++[(R4.mk m j.a (rd i l) j.b)];let n:=v9.length+1;let d:=xL n h.length;let g:=Zf (Zz v9) 0 v9.length 4 [(ii m),(ii j.a),(ii (rd i l)),(ii j.b)];(sl FI 20 [] ⟨[2],[],j4d,j4f⟩ ⟨[(9,.len c.length)],[.rowed 4 c.length (Zz c)],[]⟩ [true] (pp d (pp d (pp (xS n g (Zz h)) (pp (pp (xF g) nn) (ww o3 (ww o2 (ww o1 (ww o2 (ww o0 (tt k0 nn)))))))))))))))) (fun k0=>(sl FI 17 [] ⟨[0],[],j4e,j4g⟩ a6 [false] (pp (fl v9 nn) (tt k0 nn)))))
 | .h3 v9 v10 v11 v12 v16=>(lb (fun k0=>(lo fun o0=>(lo fun o1=>(lo fun o2=>let h:=rd v9 (0+(tn v16));let f:=h;let g:=rd (CO (CA l1) (CA l2)) (tn (wr (v12+1)));let c:=v9.set (0+(tn v16)) (R4.mk f.a f.b g f.d);let i:=v9.set (0+(tn v16)) (R4.mk h.a h.b g h.d);let e:=xL v9.length i.length;let j:=Xi (Zz v9) (0+(tn v16)) 2 [(ii g)];(sl FI 31 [] ⟨[0],[],L9,Lb⟩ ⟨[(9,.len c.length)],[.rowed 4 c.length (Zz c)],[]⟩ [true] (pp e (pp e (pp (xS v9.length j (Zz i)) (pp (pp (xF j) nn) (ww o2 (ww o1 (ww o0 (tt k0 nn))))))))))))) (fun k0=>(sl FI 17 [] ⟨[0],[],j4e,j4g⟩ a6 [false] (pp (fl v9 nn) (tt k0 nn)))))
theorem w0b (x0:Int) (l1:zw) (l2:zw):Xx prog (Zy prog 89) (O2 x0 l1 l2) (Zp prog 89 [(.int .i64 x0),(dt l1),(dt l2)] true []) (X8 x0 l1 l2):=(lo fun o0=>(lo fun o1=>(sl FI 34 [(155,4,Zz ([]:zw))] ⟨[0],[],j4e,j4g⟩ ⟨[(9,.grow 0 4),(10,.list 0 (Zz ([]:zq)))],[],[]⟩ [] (pp (fl ([]:zw) nn) (pp (pp (xr l1) (pp (xr l2) (xw o1))) (pp (pp (xr l1) (pp (xr l2) (xw o0))) nn))))))
theorem u1q (x0:Int) (l1:zw) (l2:zw) (n:Nat) (vs:zy) (h:Yx (Vn x0 l1 l2) n (X8 x0 l1 l2)=.ret vs):Vi prog (Zy prog 89) (Zp prog 89 [(.int .i64 x0),(dt l1),(dt l2)] true []) vs:=by have:=Zg (w9m x0 l1 l2) n _ (w0b x0 l1 l2);rwa [h] at this
theorem z3a : ∀(l out:zp),(l.foldl Do out).length <=out.length+l.length
 | [],out=>Ar _
 | x::l,out=>AG (z3a l (Do out x)) (by have:=y7m out x;simp;omega)
theorem z7k (l:zp):(Cg l).length <=l.length:=by
 grind [z3a,Cg]
theorem y8e (cuts:zp) (ins:List Bool): ∀(k i:Nat) (out:zq),(Fu cuts ins k i out).length <=out.length+k
 | 0,_,out=>Ar _
 | k+1,i,out=>by
  unfold Fu;refine AG (y8e cuts ins k (i+1) _) ?_;cases rd ins i
  .simp only [Aa];omega
  .simp only [Ab];cases (decide (0<out.length)&&((rd out (out.length - 1)).b == rd cuts i)) <;> simp <;> omega
theorem w3y (cuts:zp) (ins:List Bool):(DI cuts ins).length <=cuts.length:=by
 grind [y8e,DI]
section
variable (kind:Int) (l m:zw)
def Gi (x:Int) (y:Int):Bool:=Fm kind (Js l x y) (Js m x y)
def Dp (x:Int):zq:=DI (CR l m) ((CR l m).map (Gi kind l m x))
def Gj (out:zw) (first:Nat) (x:Int):zw:=out.take first++(out.drop first).map fun r=>⟨r.a,r.b,x,r.d⟩
def PQ (x x':Int) (s:zq):zw:=s.map fun p=>⟨x,p.a,x',p.b⟩
def jF :Nat->Nat->zw->zq->Nat->zw
 | 0,_,out,_,_=>out
 | k+1,i,out,last,first=>
  bif decide (0<i)&&Qt (Dp kind l m (rd (CO l m) i)) last then jF k (i+1) (Gj out first (rd (CO l m) (i+1))) last first
  else jF k (i+1) (out++PQ (rd (CO l m) i) (rd (CO l m) (i+1)) (Dp kind l m (rd (CO l m) i))) (Dp kind l m (rd (CO l m) i)) out.length
def C4 :zw:=jF kind l m ((CO l m).length - 1) 0 [] [] 0
end
def JC (_:Int) (l m:zw):Bool:=decide (l.length<=10000/\m.length<=10000)
theorem Qu (l m:zw):(CO l m).length <=2*l.length+2*m.length:=by
 refine AG (z7k _) ?_
 grind [z4t]
theorem y9p (l m:zw):(CR l m).length <=2*l.length+2*m.length:=by
 refine AG (z7k _) ?_
 grind [z4s]
section
variable (kind:Int) (l m:zw) (hl:l.length<=10000) (hm:m.length<=10000)
include hl hm
theorem u8j (out:zw) (last:zq) (first:Int) (i:Nat) (hi:i+1<(CO l m).length): ∀(k j:Nat) (acc:List Bool),j+k=(CR l m).length ->acc.length=j->
  ∃n,∀N,Yx (Vn kind l m) (N+n) (.to (.h1 out last first (i:Int) acc (j:Int)))=Yx (Vn kind l m) N (.to (.h1 out last first (i:Int) (acc++((CR l m).drop j).map (Gi kind l m (rd (CO l m) i))) ((CR l m).length :Int)))
 | 0,j,acc,h,ha=>by
  refine ⟨0,fun N=> ?_⟩
  grind
 | k+1,j,acc,h,ha=>by
  have hx:=Qu l m;have hy:=y9p l m;obtain ⟨n,hn⟩:=u8j out last first i hi k (j+1) (acc++[Gi kind l m (rd (CO l m) i) (rd (CR l m) j)]) (by omega) (by simp [ha])
  refine ⟨n+1,fun N=> ?_⟩;have w1: ∀x y,R7 l x y=true:=fun x y=>Af (by omega);have w2: ∀x y,R7 m x y=true:=fun x y=>Af (by omega);rw [Yo (show j<(CR l m).length by omega),A0,<-AL,Zx];simp (disch:=omega) only [Vn,Za,Zm,w1,w2,Zt,Zr,Ye,Ya,Zn,Zk,Zu,Yc,Zj,Ah,As,Ai,Ak,Ab];have:=hn N;rw [AH] at this;exact this
theorem u8i (last:zq) (first:Int) (i:Nat) (hi:i+1<(CO l m).length) (s:zq) (hs:s.length<=1000000): ∀(k j:Nat) (out:zw),j+k=s.length->out.length<=10000000000+j->
  ∃n,∀N,Yx (Vn kind l m) (N+n) (.to (.h2 out last first (i:Int) s (j:Int)))=Yx (Vn kind l m) N (.to (.h0 (out++PQ (rd (CO l m) i) (rd (CO l m) (i+1)) (s.drop j)) last first ((i+1:Nat):Int)))
 | 0,j,out,h,ho=>by
  have hx:=Qu l m;refine ⟨1,fun N=> ?_⟩
  grind [Zx,Vn,Zk,PQ]
 | k+1,j,out,h,ho=>by
  have hx:=Qu l m;obtain ⟨n,hn⟩:=u8i last first i hi s hs k (j+1) (out++PQ (rd (CO l m) i) (rd (CO l m) (i+1)) [rd s j]) (by omega) (by simp [PQ];omega)
  refine ⟨n+1,fun N=> ?_⟩;have:=hn N;rw [Yo (show j<s.length by omega),<-AL,Zx];simp (disch:=omega) only [Vn,Za,Zm,Zt,Zr,Ye,Ya,Zn,Zk,Zu,Yc,Zj,Ah,As,Ai,Ak,Ab];rw [AH] at this;exact this
theorem u5b (out:zw) (j:Nat) (x:Int) (h:j<out.length):Gj (out.set j ⟨(rd out j).a,(rd out j).b,x,(rd out j).d⟩) (j+1) x=Gj out j x:=by
 have _uhl:=hl;have _uhm:=hm;unfold Gj;rw [Yo h,A0];have e1:(out.set j ⟨(rd out j).a,(rd out j).b,x,(rd out j).d⟩).take (j+1)=out.take j++[⟨(rd out j).a,(rd out j).b,x,(rd out j).d⟩]:=by
  apply BJ;all_goals grind
 have e2:(out.set j ⟨(rd out j).a,(rd out j).b,x,(rd out j).d⟩).drop (j+1)=out.drop (j+1):=by rw [List.drop_set];grind
 grind
theorem u8h (last:zq) (first:Int) (i:Nat) (hi:i+1<(CO l m).length): ∀(k j:Nat) (out:zw),j+k=out.length->out.length<=10000000000->
  ∃n,∀N,Yx (Vn kind l m) (N+n) (.to (.h3 out last first (i:Int) (j:Int)))=Yx (Vn kind l m) N (.to (.h0 (Gj out j (rd (CO l m) (i+1))) last first ((i+1:Nat):Int)))
 | 0,j,out,h,ho=>by
  have hx:=Qu l m;refine ⟨1,fun N=> ?_⟩;have e:Gj out j (rd (CO l m) (i+1))=out:=by
   grind [Gj]
  grind [Zx,Vn,Zk]
 | k+1,j,out,h,ho=>by
  have hx:=Qu l m;obtain ⟨n,hn⟩:=u8h last first i hi k (j+1) (out.set j ⟨(rd out j).a,(rd out j).b,rd (CO l m) (i+1),(rd out j).d⟩) (by simp;omega) (by grind)
  refine ⟨n+1,fun N=> ?_⟩;have:=hn N;rw [u5b l m hl hm out j _ (by omega)] at this;rw [<-AL,Zx];simp (disch:=omega) only [Vn,Za,Zm,Zt,Zr,Yq,Ye,Ya,Zn,Zk,Zu,Yc,Zj,Ah,As,Ai,Ak,Ab];exact this
theorem v4u : ∀(k i:Nat) (out:zw) (last:zq) (first:Nat),k=(CO l m).length - 1 - i->i<=(CO l m).length ->out.length<=i*40000->last.length<=40000->first<=out.length->
  ∃n,Yx (Vn kind l m) n (.to (.h0 out last (first:Int) (i:Int)))=.ret [.dat (jF kind l m k i out last first).length (Zz (jF kind l m k i out last first))]
 | 0,i,out,last,first,h,hi,ho,hla,hf=>by
  have hx:=Qu l m;refine ⟨1,?_⟩
  grind [Zx,Vn,Za,Zk,Zd,jF]
 | k+1,i,out,last,first,h,hi,ho,hla,hf=>by
  have hx:=Qu l m;have hy:=y9p l m;have hi1:i+1<(CO l m).length :=by omega
  have hsl:(Dp kind l m (rd (CO l m) i)).length <=40000:=AG (w3y _ _) (by omega);have hbig:i*40000<=40000*40000:=AB _ (by omega);obtain ⟨n1,h1⟩:=u8j kind l m hl hm out last first i hi1 (CR l m).length 0 [] (Ah _) rfl
  simp only [AO,A1,EB] at h1;have w3:YZ (CR l m) ((CR l m).map (Gi kind l m (rd (CO l m) i)))=true:=Af ⟨by omega,by grind⟩;have w4:Uj (DI (CR l m) ((CR l m).map (Gi kind l m (rd (CO l m) i)))) last=true:=Af (AG hsl (by omega));have hy2:((CR l m).length :Int)=(((CR l m).length :Nat):Int):=rfl;unfold jF;rcases Xz (decide (0<i)&&Qt (Dp kind l m (rd (CO l m) i)) last) with q | q
  .obtain ⟨n3,h3⟩:=u8h kind l m hl hm last first i hi1 (out.length - first) first out (by omega) (by omega)
   obtain ⟨n0,h0⟩:=v4u k (i+1) (Gj out first (rd (CO l m) (i+1))) last first (by omega) (by omega) (by simp [Gj];omega) hla (by simp [Gj];omega)
   refine ⟨n0+n3+1+n1+1,?_⟩;rw [q,Ab,Zx];simp only [Ac,Ao] at q;have q2:Qt (DI (CR l m) ((CR l m).map (Gi kind l m (rd (CO l m) i)))) last=true:=q.2;simp (disch:=omega) only [Vn,Za,Zm,Zt,Zk,Zu,Ab];simp_all [Zx,Vn,Za]
  .obtain ⟨n2,h2⟩:=u8i kind l m hl hm (Dp kind l m (rd (CO l m) i)) (out.length:Int) i hi1 (Dp kind l m (rd (CO l m) i)) (by omega) (Dp kind l m (rd (CO l m) i)).length 0 out (Ah _) (by omega);obtain ⟨n0,h0⟩:=v4u k (i+1) (out++PQ (rd (CO l m) i) (rd (CO l m) (i+1)) (Dp kind l m (rd (CO l m) i))) (Dp kind l m (rd (CO l m) i)) out.length (by omega) (by omega) (by simp [PQ];omega) hsl (by simp);refine ⟨n0+n2+1+n1+1,?_⟩;rw [q,Aa,Zx];simp (disch:=omega) only [Vn,Za,Zm,Zt,Zk,Zu,Ab];have h1':=h1 (n0+n2+1);rw [h1',Zx];have h2':=h2 n0;simp only [AO,EB] at h2';by_cases hi0:0<i
   .rw [Af hi0,Ak] at q;have q2:Qt (DI (CR l m) ((CR l m).map (Gi kind l m (rd (CO l m) i)))) last=false:=q;simp (disch:=omega) only [Vn,Za,Zm,Ym,Ys,q2,w3,w4,Ab,Aa];rw [<-h0];exact h2'
   .simp (disch:=omega) only [Vn,Za,Zm,Ym,Xg,w3,w4,Ab,Aa];rw [<-h0];exact h2'
end
theorem j4c (kind:Int) (l m:zw) (h:JC kind l m=true): ∃N,Yx (Vn kind l m) N (X8 kind l m)=.ret [.dat (C4 kind l m).length (Zz (C4 kind l m))]:=by obtain ⟨hl,hm⟩:=Ax h;obtain ⟨N,hN⟩:=v4u kind l m hl hm ((CO l m).length - 1) 0 [] [] 0 rfl (Ay _) (Ay _) (Ay _) (Ar _);refine ⟨N,?_⟩;have w1:YW l m=true:=Af ⟨hl,hm⟩;have w2:YX l m=true:=Af ⟨hl,hm⟩;simp only [X8,Za,Zm,w1,w2,Ab];exact hN
theorem E4 {P:Program} {S:CB} (hS:Zw P S) {f:FuncId} {F:zy->Option (B9×Bool)} (hf:(P.funcs[f]?).any (fun fn=>fn.body.isSome)=true)
  (hF: ∀args v,F args=some (v,true)-> ∃bs vs,Vg D1 args bs/\(∀(ρ:CE) (u:Value),Yv ρ (Uz vs) u->Yv ρ v u)/\Vi P (Zy P f) (Zp P f bs true []) vs/\ ∃d,pf d (Uz vs)=true):Zw P (S.with f F):=
 y9u hS hf fun args v h=>by obtain ⟨bs,vs,h1,h2,h3,d,h4⟩:=hF args v h;exact ⟨vs,h2,y7v h1 h3,d,h4⟩
theorem Qn {cs cs':zy} (h:DE cs cs') (ρ:CE) (u:Value) (hv:Yv ρ (.tup cs) u):Yv ρ (.tup cs') u:=by
 cases hv with
 | tup _ vs hl hh=>exact .tup cs' vs (by rw [<-h.len];exact hl) fun i h1 h2=>h.sound i (by rw [h.len];exact h1) h1 (hh i (by rw [h.len];exact h1) h2)
theorem Mt (α:Type) [Xa α]:D1 .nils (.dat ([]:List α).length (Zz ([]:List α))):=.nild _
def fJo :zy->Option (B9×Bool)
 | [.int .i64 x0,a1,a2]=>match CY R4 a1,CY R4 a2 with
  | some (L1,g1,n1),some (L2,g2,n2)=>some (.dat (C4 x0 L1 L2).length (Zz (C4 x0 L1 L2)),CX R4 n1 g1&&(CX R4 n2 g2&&(JC x0 L1 L2)))
  | _,_=>none
 | _=>none
theorem QK {S:CB} (hS:Zw prog S):Zw prog (S.with u9p fJo):=by
 refine Kv hS (by kernel_rfl) fun args v h=> ?_;unfold fJo at h;split at h
 .rename_i x0 a1 a2;split at h
  .rename_i L1 g1 n1 L2 g2 n2 e1 e2;simp only [Ad,Ae,Ac] at h;obtain ⟨rfl,ho1,ho2,hw⟩:=h;obtain ⟨N,hN⟩:=j4c x0 L1 L2 hw;exact ⟨_,_,(.cons (.refl _) (.cons (Yi e1 ho1) (.cons (Yi e2 ho2) .nil))),rfl,u1q x0 L1 L2 N _ hN,3,rfl⟩
  .cases h
 .cases h
def T3 :CB:=T2.with u9p fJo
theorem FJ :Zw prog T3:=QK FI
open Go.Sort
def Q8 (r:R3):Bool:=decide (-1000000000<=r.a/\r.a<=1000000000)
def DN (l:zo):Bool:=l.all Q8
abbrev E3 :={r:R3 // Q8 r=true}
instance : Inhabited E3:=⟨⟨⟨0,0,0⟩,rfl⟩⟩
def Q5 (x y:E3):Int:=x.1.a - y.1.a
def IZ (x y:E3):Bool:=decide (Q5 x y<0)
theorem UD :SWO IZ where
 irrefl x:=by unfold IZ Q5;simp
 trans x y z h1 h2:=by unfold IZ Q5 at*;simp at*;omega
 ntrans x y z h1 h2:=by unfold IZ Q5 at*;simp at*;omega
def ED :(l:zo)->DN l=true->List E3
 | [],_=>[]
 | r::l,h=>⟨r,by simp [DN] at h;exact h.1⟩::ED l (by simp [DN] at h ⊢;exact h.2)
theorem XI : ∀(l:zo) (h:DN l=true),(ED l h).map Subtype.val=l
 | [],_=>rfl
 | r::l,h=>by rw [ED,A0,XI l]
theorem Qb (l:zo) (h:DN l=true):(ED l h).length =l.length:=by
 have:=AE List.length (XI l h)
 simpa using this
def Ch (l:zo):zo:=if h:DN l=true then (pdq IZ (ED l h).toArray 0 l.length (Lib.bitLen l.length) true true).toList.map Subtype.val else l
theorem Qr (l:zo) (h:DN l=true):(Ch l).Perm l/\ ∀i j,i<j->j<(Ch l).length ->(rd (Ch l) i).a <=(rd (Ch l) j).a :=by
 have hp:=pdq_sorts IZ UD (ED l h).toArray 0 l.length (Lib.bitLen l.length) true true (Ay _) (by simp [Qb]) (Or.inl rfl);obtain ⟨⟨h1,h2,h3⟩,h4⟩:=hp;have e:Ch l=(pdq IZ (ED l h).toArray 0 l.length (Lib.bitLen l.length) true true).toList.map Subtype.val:=by unfold Ch;rw [dif_pos h]
 generalize pdq IZ (ED l h).toArray 0 l.length (Lib.bitLen l.length) true true=d at*;have hs:d.size=l.length:=by rw [h1];simp [Qb]
 constructor
 .rw [e];have x1:(d.extract 0 l.length).toList =d.toList:=by rw [<-hs];simp
  have x2:((ED l h).toArray.extract 0 l.length).toList =ED l h:=by rw [show l.length=(ED l h).toArray.size by simp [Qb]];simp
  rw [x1,x2] at h3;have:=h3.map Subtype.val;rw [XI] at this;exact this
 .intro i j hij hj;rw [e] at hj ⊢;have hj':j<d.size:=by simpa using hj
  have:=h4 i j (Ay _) hij (by omega);rw [getElem!_pos d i (by omega),getElem!_pos d j hj'] at this;rw [Xm (by simp;omega),Xm hj];simp only [List.getElem_map,Array.getElem_toList];unfold IZ Q5 at this;have:=BL this;omega
open Go.RowKit Go.Shelf
variable {P:Program} {ρ:CE}
def Dq :B9->Value
 | .int k n=>.int k n
 | .bool b=>.bool b
 | _=>.tuple #[]
def Nd :B9->Bool
 | .int _ _=>true
 | .bool _=>true
 | _=>false
theorem w1o {α:Type} [Xa α] (L:List α) (n:Nat) (ty:TypeId) (a:Option Da):(⟨Go.Am.rows n (Zz L),ty,a⟩:CG).isObj =false:=x0m (fun k v hv=>Au.1 (Xa.sc _) v hv) _ _
theorem v2z {a:B9} (h:Nd a=true):Yv ρ a (Dq a):=by
 cases a <;> first
  | exact .int _ _
  | exact .bool _
  | (simp [Nd] at h;done)
theorem v5c {a:B9} {v:Value} (h:Nd a=true) (hv:Yv ρ a v):v=Dq a:=by
 cases hv <;> first
  | rfl
  | (simp [Nd] at h;done)
class j0z (α:Type) extends Xa α where
 num: ∀a:α,(cells a).all Nd=true
instance : j0z R2 where num _:=rfl
instance : j0z R3 where num _:=rfl
instance : j0z R4 where num _:=rfl
instance : j0z R6 where num _:=rfl
instance {α :Type} [Xa α]:Inhabited α:=⟨Xa.d⟩
section
variable {α:Type} [j0z α]
def FR (a:α):List Value:=(Xa.cells a).map Dq
theorem w3n (a:α):(FR a).length =Xa.w α:=by rw [FR,B0,Xa.len]
theorem w6v (L:List α) (t:Nat) (h:t<L.length*Xa.w α):(flatK FR (Xa.w α) L.toArray)[t]? =(Xa.cells (rd L (t / Xa.w α)))[t %Xa.w α]?.map Dq:=by
 have hw:=Xa.pos (α:=α);have hq:t / Xa.w α<L.length:=Bd (by grind);have hj:t %Xa.w α<Xa.w α:=Bx _ hw
 grind [flatK,FR,Xm,Xa.len]
theorem v4q (L:List α) (N t:Nat) (h:t<N*Xa.w α):(rows N (Zz L))[t]? =(Xa.cells (rd L (t / Xa.w α)))[t %Xa.w α]? :=by have hw:=Xa.pos (α:=α);have:=Vj (get:=Zz L) (sz:=Xa.w α) N (fun _ _=>Xa.len _) (t / Xa.w α) (t %Xa.w α) (Bd (by grind)) (Bx _ hw);rw [show t / Xa.w α*Xa.w α+t %Xa.w α=t by rw [BE];exact BA t _] at this;exact this
theorem WT (L:List α) (N:Nat):(rows N (Zz L)).length =N*Xa.w α:=Yg N fun _ _=>Xa.len _
theorem y7o (w:World) (n blk off:Nat) (d:Array Value) (os:Array Obj) (k:Nat) (hk:k<w.heap.size):
  (grow (putRow id (Go.Sort.ahead w n) blk off d) os).heap[k]? =if k=blk then (w.heap[k]?).map (onCells (putCells id off d)) else w.heap[k]? :=by
 show (((Go.Sort.ahead w n).heap.modify blk (onCells (putCells id off d)))++os)[k]? =_;rw [Array.getElem?_append_left (by simp_all),Array.getElem?_modify];show (if blk=k then _ else _)=_;by_cases h:k=blk
 .simp_all
 .rw [AC (fun e=>h e.symm),AC h];rfl
def ZR (α:Type) [Xa α] (srt:List α->List α) (bnd:List α->Bool) (g:FuncId) (args:zy) (mem:CJ):Option (B9×Nat×CG×Bool):=match args with
 | [.sla b sz off n cap,.fn f []]=>bif Nat.beq f g then match Yn mem b with
  | some ⟨_,ty,some A⟩=>some (.tup [],b,⟨rows A.n (Zz (srt (Cw α n A.get))),ty,some ⟨Xa.w α,A.n,Zz (srt (Cw α n A.get))⟩⟩,
    Nat.beq sz (Xa.w α)&&(Nat.beq A.sz (Xa.w α)&&(Nat.beq off 0&&((decide (n=A.n)&&(CX α n A.get&&decide (n<4611686018427387904)))&&bnd (Cw α n A.get)))))
  | _=>none
  else none
 | _=>none
theorem v7q {f g:FuncId} {srt:List α->List α} {bnd:List α->Bool} (hsl: ∀L,(srt L).length =L.length)
  (hC: ∀(blk off cap:Nat) (L:List α) (w:World),bnd L=true->HoldsK FR (Xa.w α) w blk off L.toArray->blk<w.heap.size->L.length<4611686018427387904->
   Calls P f #[.slice (some ⟨blk,off,none⟩) L.length cap,.func (.func g) #[] #[]] w fun e w'=>e=.returned (.tuple #[])/\ ∃n os,w'=sortWorldK FR (Xa.w α) w blk off n (srt L).toArray os)
  (hN: ∀(p:Option Addr) (cap:Nat) (fv:Value) (w:World),Calls P f #[.slice p 0 cap,fv] w fun e w'=>e=.returned (.tuple #[])/\w'=w):JO P f (ZR α srt bnd g):=by
 intro args mem v b blk h fH ρ next floor vals w hfl dC cZ
 have hw0:=Xa.pos (α:=α);unfold ZR at h;split at h
 .rename_i b0 sz off n cap f0;obtain ⟨hfg,h'⟩:=Qi h;clear h;obtain rfl:=Aj hfg;have h:=h';clear h';split at h
  .rename_i cells ty A hm;obtain ⟨asz,an,get⟩:=A;simp only [Ad,Ae,Ac] at h;obtain ⟨rfl,rfl,rfl,h1,h2,h3,⟨h4,h5,h6⟩,h7⟩:=h;have g1:=Aj h1;have g2:=Aj h2;have g3:=Aj h3;have g4:n=an:=Ax h4;have h6:n<4611686018427387904:=Ax h6;have g2:asz=Xa.w α:=g2;subst g1;subst g2;subst g3;subst g4;have h7:bnd (Cw α n get.get)=true:=h7;have dG:=w6k h5;have dG: ∀i,i<n->get.get i=Zz (Cw α n get.get) i:=dG;have hrows:rows n get.get=rows n (Zz (Cw α n get.get)):=y1w n dG;obtain ⟨u,hu,eM⟩: ∃u,Yv ρ (.sla b0 (Xa.w α) 0 n cap) u/\vals= #[u,.func (.func f0) #[] #[]]:=by
    obtain ⟨vl⟩:=vals;cases dC with
    | cons q1 q2=>cases q2 with
     | cons q3 q4=>
      cases q4;cases q3 with
      | fn _ _ cvs hl _=>
       grind
   subst eM;have hlt:b0<next:=by
    rcases A7 b0 next with q | q
    .exact q
    .have:=cZ.bd b0 q;grind
   show Calls P f _ w _;have hAget:(Da.get ⟨Xa.w α,n,get⟩)=get.get:=rfl;rw [hAget] at*;generalize hI:Cw α n get.get=I at*;have hIl:I.length=n:=by rw [<-hI];exact x0p _ _
   generalize hL:srt I=L;have hLl:L.length=n:=by grind
   have hnn:ρ b0=none-> ∀cs ty',Yn mem b0≠some ⟨cs,ty',none⟩:=fun _ cs ty' e=>by grind
   cases hu with
   | sla _ _ _ _ _ l cc e hc dA=>
    have hbk:=(cZ.blk b0 l _ e hm).rows rfl;obtain ⟨har,_,_⟩:=hbk.arr _ rfl;have har:cells=rows n get.get:=har;rw [hrows] at har;subst har;obtain ⟨cur,el,hh,hsz,dE⟩:=hbk.cells;simp only [WT] at dE;have htot:=hbk.tot;have hln:=hbk.n;simp only [WT] at hln;have dW: ∀t,t<n*Xa.w α->cur[l.base+t]? =(Xa.cells (rd I (t / Xa.w α)))[t %Xa.w α]?.map Dq:=fun t ht=>by
     obtain ⟨v,e1,e2⟩:=dE t ht;have hj:t %Xa.w α<Xa.w α:=Bx _ hw0;have hl2:t %Xa.w α<(Xa.cells (rd I (t / Xa.w α))).length :=by rw [Xa.len];exact hj
     have e3:=v4q I n t ht
     grind [v5c,j0z.num]
    have eF:=cZ.real b0 l e;have hH:HoldsK FR (Xa.w α) w l.blk (l.base+0*Xa.w α) I.toArray:=fun j hj=>by
     have hj:j<n*Xa.w α:=(by simp_all);have hs:j<(flatK FR (Xa.w α) I.toArray).size :=(by grind);have e1:=w6v I j (by grind)
     grind [World.cell?,World.frozen?]
    have dM:=hC l.blk (l.base+0*Xa.w α) cc I w h7 hH eF (by omega);rw [hIl,hL] at dM;refine dM.mono fun e' w' ⟨he,q,os,hw'⟩=>⟨_,he,?_,?_,?_⟩
    .exact .tup [] #[] rfl fun i h1 h2=>absurd h1 (AD _)
    .subst hw';refine CF.setArr ?_ ⟨Xa.w α,n,.flat (Zz L)⟩ (w1o _ _ _ _) rfl hw0 fun _ _=>Xa.len _;refine CF.rewritten cZ e hm (by simp only [WT]) (fun k hk hne=> ?_) ?_ hbk.noObj ?_
     .exact (y7o _ _ _ _ _ _ _ hk).trans (AC hne)
     .show _<=(((Go.Sort.ahead w q).heap.modify _ _)++os).size;simp_all
     .refine ⟨putCells id (l.base+0*Xa.w α) (flatK FR (Xa.w α) L.toArray) cur,el,?_,fun _ _ _=>hbk.typ _ _ _ hh,?_,fun i hi=> ?_⟩
      .refine (y7o _ _ _ _ _ _ _ eF).trans ?_;rw [AJ rfl,hh];rfl
      .grind [putCells]
      .rw [WT] at hi;have hj:i %Xa.w α<Xa.w α:=Bx _ hw0;have hl2:i %Xa.w α<(Xa.cells (rd L (i / Xa.w α))).length :=by rw [Xa.len];exact hj
       have hl3:i %Xa.w α<(Xa.cells (rd I (i / Xa.w α))).length :=(by grind);have e1:=w6v L i (by grind);rw [At hl2,BZ] at e1;have hs:i<(flatK FR (Xa.w α) L.toArray).size :=(by grind);rw [BB hs] at e1;have e3:=v4q L n i hi;rw [At (by grind),At hl2] at e3;refine ⟨Dq (Xa.cells (rd L (i / Xa.w α)))[i %Xa.w α],?_,?_⟩
       .simp_all [putCells]
       grind [v2z,j0z.num]
    .subst hw';refine Ev.rewritten cZ _ (fun l' _=>hfl) hnn (fun k hk hne=> ?_) ?_ rfl rfl rfl
     .exact (y7o _ _ _ _ _ _ _ hk).trans (AC (hne l e))
     .show _<=(((Go.Sort.ahead w q).heap.modify _ _)++os).size;simp_all
   | slan=>
    have hI0:I=[]:=BI hIl;have hL0:L=[]:=BI hLl;refine (hN none 0 _ w).mono fun e' w' ⟨he,hw'⟩=>⟨_,he,?_,?_,?_⟩
    .exact .tup [] #[] rfl fun i h1 h2=>absurd h1 (AD _)
    .subst hw';refine cZ.reblk hm fun l hρ hbk=> ?_;have hbk:=hbk.rows rfl;obtain ⟨har,eU,_⟩:=hbk.arr _ rfl;have har:cells=rows 0 get.get:=har;subst har;exact .plain ⟨hbk.typ,hbk.n,hbk.tot,fun B hB=>by obtain rfl:=Ag hB;exact ⟨rfl,hw0,fun i hi=>absurd hi (AD _)⟩,hbk.cells⟩
    grind [Ev.rewritten]
  .cases h
 .cases h
end
def CB.withE (S:CB) (f:FuncId) (F:zy->CJ->Option (B9×Nat×CG×Bool)):CB:=fun g=>bif Nat.beq g f then some (.eff F) else S g
theorem x1p {P:Program} {S:CB} (hS:Zw P S) {f:FuncId} {F:zy->CJ->Option (B9×Nat×CG×Bool)} (hf:(P.funcs[f]?).any (fun fn=>fn.body.isSome)=true) (hF:JO P f F):Zw P (S.withE f F):=by
 intro g G hg;unfold CB.withE at hg;cases hgf:Nat.beq g f with
 | false=>rw [hgf] at hg;exact hS g G hg
 | true=>
  rw [hgf] at hg;obtain rfl:Fh.eff F=G:=Ag hg;obtain rfl:g=f:=Aj hgf;refine ⟨?_,hF⟩
  grind
end Go.Am
namespace Go.Proofs
open Go.Proofs.Tryz
open Go.Shelf
def Tryz.lays156_ren :Go.Shelf.Ren:=⟨fun | 156=>42 | 165=>69 | 166=>70 | 169=>71 | 240=>97 | 241=>98 | 276=>131 | 277=>132 | n=>n,fun | 31=>77 | 9=>9 | 3=>3 | 4=>4 | 0=>0 | 20=>20 | 72=>117 | 76=>121 | 70=>114 | 37=>115 | 75=>120 | 127=>159 | 164=>195 | 5=>5 | 80=>123 | n=>n,fun | n=>n⟩
theorem Tryz.lays156 :Go.Proofs.Lays.n156 prog Tryz.lays156_ren:={
 mixed:=by kernel_rfl
 f156:=Tryz.func42.trans (congrArg some (by kernel_rfl))
 f165:=Tryz.func69.trans (congrArg some (by kernel_rfl))
 f166:=Tryz.func70.trans (congrArg some (by kernel_rfl))
 f169:=Tryz.func71.trans (congrArg some (by kernel_rfl))
 f240:=Tryz.func97.trans (congrArg some (by kernel_rfl))
 f241:=Tryz.func98.trans (congrArg some (by kernel_rfl))
 f276:=Tryz.func131.trans (congrArg some (by kernel_rfl))
 f277:=Tryz.func132.trans (congrArg some (by kernel_rfl))
 t0:=Tryz.underlying0
 a0:=Tryz.isAgg0
 z0:=Tryz.sizeOf0
 v0:=Tryz.zeroValue0
 t3:=Tryz.underlying3
 a3:=Tryz.isAgg3
 z3:=Tryz.sizeOf3
 v3:=Tryz.zeroValue3
 t4:=Tryz.underlying4
 a4:=Tryz.isAgg4
 z4:=Tryz.sizeOf4
 v4:=Tryz.zeroValue4
 t9:=Tryz.underlying9
 a9:=Tryz.isAgg9
 z9:=Tryz.sizeOf9
 v9:=Tryz.zeroValue9
 t20:=Tryz.underlying20
 a20:=Tryz.isAgg20
 z20:=Tryz.sizeOf20
 v20:=Tryz.zeroValue20
 t31:=Tryz.underlying77
 a31:=Tryz.isAgg77
 z31:=Tryz.sizeOf77
 v31:=Tryz.zeroValue77
 t37:=Tryz.underlying115
 a37:=Tryz.isAgg115
 z37:=Tryz.sizeOf115
 v37:=Tryz.zeroValue115
 t70:=Tryz.underlying114
 a70:=Tryz.isAgg114
 z70:=Tryz.sizeOf114
 v70:=Tryz.zeroValue114
 t72:=Tryz.underlying117
 a72:=Tryz.isAgg117
 z72:=Tryz.sizeOf117
 v72:=Tryz.zeroValue117
 t75:=Tryz.underlying120
 a75:=Tryz.isAgg120
 z75:=Tryz.sizeOf120
 v75:=Tryz.zeroValue120
 t76:=Tryz.underlying121
 a76:=Tryz.isAgg121
 z76:=Tryz.sizeOf121
 v76:=Tryz.zeroValue121
 t127:=Tryz.underlying159
 a127:=Tryz.isAgg159
 z127:=Tryz.sizeOf159
 v127:=Tryz.zeroValue159
 t164:=Tryz.underlying195
 a164:=Tryz.isAgg195
 z164:=Tryz.sizeOf195
 v164:=Tryz.zeroValue195}
theorem Tryz.Builder_Extra_156 :Builder.Extra prog Tryz.lays156_ren:={
 sizeBuilder:=by kernel_rfl
 liesBuilder:=by kernel_rfl
 t5:=Tryz.underlying5
 a5:=Tryz.isAgg5
 z5:=Tryz.sizeOf5
 v5:=Tryz.zeroValue5
 infoByte:=by kernel_rfl
 cellsByte:=by kernel_rfl
 sizeByte:=by kernel_rfl
 neB5:=by decide}
def Tryz.lays219_ren :Go.Shelf.Ren:=⟨fun | 219=>99 | 217=>133 | 225=>134 | 224=>135 | 267=>136 | 266=>151 | 314=>152 | n=>n,fun | 9=>9 | 3=>3 | 4=>4 | 5=>5 | 46=>199 | 146=>215 | 51=>214 | n=>n,fun | 1=>0 | n=>n⟩
theorem Tryz.lays219 :Go.Proofs.Lays.n219 prog Tryz.lays219_ren:={
 mixed:=by kernel_rfl
 f217:=Tryz.func133.trans (congrArg some (by kernel_rfl))
 f219:=Tryz.func99.trans (congrArg some (by kernel_rfl))
 f224:=Tryz.func135.trans (congrArg some (by kernel_rfl))
 f225:=Tryz.func134.trans (congrArg some (by kernel_rfl))
 f266:=Tryz.func151.trans (congrArg some (by kernel_rfl))
 f267:=Tryz.func136.trans (congrArg some (by kernel_rfl))
 f314:=Tryz.func152.trans (congrArg some (by kernel_rfl))
 t3:=Tryz.underlying3
 a3:=Tryz.isAgg3
 z3:=Tryz.sizeOf3
 v3:=Tryz.zeroValue3
 t4:=Tryz.underlying4
 a4:=Tryz.isAgg4
 z4:=Tryz.sizeOf4
 v4:=Tryz.zeroValue4
 t5:=Tryz.underlying5
 a5:=Tryz.isAgg5
 z5:=Tryz.sizeOf5
 v5:=Tryz.zeroValue5
 t9:=Tryz.underlying9
 a9:=Tryz.isAgg9
 z9:=Tryz.sizeOf9
 v9:=Tryz.zeroValue9
 t46:=Tryz.underlying199
 a46:=Tryz.isAgg199
 z46:=Tryz.sizeOf199
 v46:=Tryz.zeroValue199
 t51:=Tryz.underlying214
 a51:=Tryz.isAgg214
 z51:=Tryz.sizeOf214
 v51:=Tryz.zeroValue214
 t146:=Tryz.underlying215
 a146:=Tryz.isAgg215
 z146:=Tryz.sizeOf215
 v146:=Tryz.zeroValue215
 g1:=by kernel_rfl}
def Tryz.lays138_ren :Go.Shelf.Ren:=⟨fun | 138=>43 | 195=>72 | 218=>73 | 143=>74 | 219=>99 | 217=>133 | 225=>134 | 224=>135 | 267=>136 | 266=>151 | 314=>152 | n=>n,fun | 9=>9 | 3=>3 | 4=>4 | 5=>5 | 0=>0 | 46=>199 | 146=>215 | 51=>214 | n=>n,fun | 1=>0 | n=>n⟩
theorem Tryz.lays138 :Go.Proofs.Lays.n138 prog Tryz.lays138_ren:={
 mixed:=by kernel_rfl
 f138:=Tryz.func43.trans (congrArg some (by kernel_rfl))
 f143:=Tryz.func74.trans (congrArg some (by kernel_rfl))
 f195:=Tryz.func72.trans (congrArg some (by kernel_rfl))
 f217:=Tryz.func133.trans (congrArg some (by kernel_rfl))
 f218:=Tryz.func73.trans (congrArg some (by kernel_rfl))
 f219:=Tryz.func99.trans (congrArg some (by kernel_rfl))
 f224:=Tryz.func135.trans (congrArg some (by kernel_rfl))
 f225:=Tryz.func134.trans (congrArg some (by kernel_rfl))
 f266:=Tryz.func151.trans (congrArg some (by kernel_rfl))
 f267:=Tryz.func136.trans (congrArg some (by kernel_rfl))
 f314:=Tryz.func152.trans (congrArg some (by kernel_rfl))
 t0:=Tryz.underlying0
 a0:=Tryz.isAgg0
 z0:=Tryz.sizeOf0
 v0:=Tryz.zeroValue0
 t3:=Tryz.underlying3
 a3:=Tryz.isAgg3
 z3:=Tryz.sizeOf3
 v3:=Tryz.zeroValue3
 t4:=Tryz.underlying4
 a4:=Tryz.isAgg4
 z4:=Tryz.sizeOf4
 v4:=Tryz.zeroValue4
 t5:=Tryz.underlying5
 a5:=Tryz.isAgg5
 z5:=Tryz.sizeOf5
 v5:=Tryz.zeroValue5
 t9:=Tryz.underlying9
 a9:=Tryz.isAgg9
 z9:=Tryz.sizeOf9
 v9:=Tryz.zeroValue9
 t46:=Tryz.underlying199
 a46:=Tryz.isAgg199
 z46:=Tryz.sizeOf199
 v46:=Tryz.zeroValue199
 t51:=Tryz.underlying214
 a51:=Tryz.isAgg214
 z51:=Tryz.sizeOf214
 v51:=Tryz.zeroValue214
 t146:=Tryz.underlying215
 a146:=Tryz.isAgg215
 z146:=Tryz.sizeOf215
 v146:=Tryz.zeroValue215
 g1:=by kernel_rfl}
def Tryz.lays189_ren :Go.Shelf.Ren:=⟨fun | 189=>109 | 125=>141 | 257=>140 | 128=>162 | 129=>163 | 294=>153 | 295=>154 | 296=>155 | 297=>156 | 298=>157 | 299=>158 | 216=>159 | 300=>160 | 301=>161 | 328=>173 | 329=>174 | 330=>175 | 331=>176 | 332=>177 | 215=>178 | 343=>184 | n=>n,fun | 28=>93 | 3=>3 | 46=>199 | 0=>0 | 51=>214 | 53=>228 | 4=>4 | 183=>219 | 182=>218 | 131=>224 | 5=>5 | 9=>9 | 218=>237 | 222=>241 | 228=>250 | 229=>31 | n=>n,fun | n=>n⟩
theorem Tryz.lays189 :Go.Proofs.Lays.n189 prog Tryz.lays189_ren:={
 mixed:=by kernel_rfl
 f125:=Tryz.func141.trans (congrArg some (by kernel_rfl))
 f128:=Tryz.func162.trans (congrArg some (by kernel_rfl))
 f129:=Tryz.func163.trans (congrArg some (by kernel_rfl))
 f189:=Tryz.func109.trans (congrArg some (by kernel_rfl))
 f215:=Tryz.func178.trans (congrArg some (by kernel_rfl))
 f216:=Tryz.func159.trans (congrArg some (by kernel_rfl))
 f257:=Tryz.func140.trans (congrArg some (by kernel_rfl))
 f294:=Tryz.func153.trans (congrArg some (by kernel_rfl))
 f295:=Tryz.func154.trans (congrArg some (by kernel_rfl))
 f296:=Tryz.func155.trans (congrArg some (by kernel_rfl))
 f297:=Tryz.func156.trans (congrArg some (by kernel_rfl))
 f298:=Tryz.func157.trans (congrArg some (by kernel_rfl))
 f299:=Tryz.func158.trans (congrArg some (by kernel_rfl))
 f300:=Tryz.func160.trans (congrArg some (by kernel_rfl))
 f301:=Tryz.func161.trans (congrArg some (by kernel_rfl))
 f328:=Tryz.func173.trans (congrArg some (by kernel_rfl))
 f329:=Tryz.func174.trans (congrArg some (by kernel_rfl))
 f330:=Tryz.func175.trans (congrArg some (by kernel_rfl))
 f331:=Tryz.func176.trans (congrArg some (by kernel_rfl))
 f332:=Tryz.func177.trans (congrArg some (by kernel_rfl))
 f343:=Tryz.func184.trans (congrArg some (by kernel_rfl))
 t0:=Tryz.underlying0
 a0:=Tryz.isAgg0
 z0:=Tryz.sizeOf0
 v0:=Tryz.zeroValue0
 t3:=Tryz.underlying3
 a3:=Tryz.isAgg3
 z3:=Tryz.sizeOf3
 v3:=Tryz.zeroValue3
 t4:=Tryz.underlying4
 a4:=Tryz.isAgg4
 z4:=Tryz.sizeOf4
 v4:=Tryz.zeroValue4
 t5:=Tryz.underlying5
 a5:=Tryz.isAgg5
 z5:=Tryz.sizeOf5
 v5:=Tryz.zeroValue5
 t9:=Tryz.underlying9
 a9:=Tryz.isAgg9
 z9:=Tryz.sizeOf9
 v9:=Tryz.zeroValue9
 t28:=Tryz.underlying93
 a28:=Tryz.isAgg93
 z28:=Tryz.sizeOf93
 v28:=Tryz.zeroValue93
 t46:=Tryz.underlying199
 a46:=Tryz.isAgg199
 z46:=Tryz.sizeOf199
 v46:=Tryz.zeroValue199
 t51:=Tryz.underlying214
 a51:=Tryz.isAgg214
 z51:=Tryz.sizeOf214
 v51:=Tryz.zeroValue214
 t53:=Tryz.underlying228
 a53:=Tryz.isAgg228
 z53:=Tryz.sizeOf228
 v53:=Tryz.zeroValue228
 t131:=Tryz.underlying224
 a131:=Tryz.isAgg224
 z131:=Tryz.sizeOf224
 v131:=Tryz.zeroValue224
 t182:=Tryz.underlying218
 a182:=Tryz.isAgg218
 z182:=Tryz.sizeOf218
 v182:=Tryz.zeroValue218
 t183:=Tryz.underlying219
 a183:=Tryz.isAgg219
 z183:=Tryz.sizeOf219
 v183:=Tryz.zeroValue219
 t218:=Tryz.underlying237
 a218:=Tryz.isAgg237
 z218:=Tryz.sizeOf237
 v218:=Tryz.zeroValue237
 t222:=Tryz.underlying241
 a222:=Tryz.isAgg241
 z222:=Tryz.sizeOf241
 v222:=Tryz.zeroValue241
 t228:=Tryz.underlying250
 a228:=Tryz.isAgg250
 z228:=Tryz.sizeOf250
 v228:=Tryz.zeroValue250
 t229:=Tryz.underlying31
 a229:=Tryz.isAgg31
 z229:=Tryz.sizeOf31
 v229:=Tryz.zeroValue31}
open Go.Sort Go.RowKit in
theorem Tryz.slices_Sort_int (blk off cap:Nat) (zs:List Int) (w:World) (hH:Holds (Value.int .i64) w blk off zs.toArray) (eF:blk<w.heap.size) (hsz:zs.length<4611686018427387904):
  Calls prog 109 #[.slice (some ⟨blk,off,none⟩) zs.length cap] w fun e w'=>
   e=.returned (.tuple #[])/\ ∃n os,w'=grow (putRow (Value.int .i64) (Sort.ahead w n) blk off (zs.mergeSort fun x y=>decide (x<=y)).toArray) os:=Any.slices_Sort_int Tryz.lays189 blk off cap zs w hH eF hsz
def Tryz.laysNm220_ren :Go.Shelf.Ren:=⟨fun | 20=>110 | n=>n,fun | 22=>93 | 3=>3 | 4=>4 | 0=>0 | n=>n,fun | n=>n⟩
theorem Tryz.laysNm220 :Go.Proofs.Lays2.n20 prog Tryz.laysNm220_ren:={
 mixed:=by kernel_rfl
 f20:=Tryz.func110.trans (congrArg some (by kernel_rfl))
 t0:=Tryz.underlying0
 a0:=Tryz.isAgg0
 z0:=Tryz.sizeOf0
 v0:=Tryz.zeroValue0
 t3:=Tryz.underlying3
 a3:=Tryz.isAgg3
 z3:=Tryz.sizeOf3
 v3:=Tryz.zeroValue3
 t4:=Tryz.underlying4
 a4:=Tryz.isAgg4
 z4:=Tryz.sizeOf4
 v4:=Tryz.zeroValue4
 t22:=Tryz.underlying93
 a22:=Tryz.isAgg93
 z22:=Tryz.sizeOf93
 v22:=Tryz.zeroValue93
 i3:=by kernel_rfl}
open Go.RowKit Go.Lib Go.Sort in
theorem Tryz.slices_Compact_int (blk off cap:Nat) (zs:List Int) (w:World) (hH:Holds (Value.int .i64) w blk off zs.toArray) (hsz:zs.length<=9223372036854775807) (dH:zs.length<=cap):
  Calls prog 110 #[.slice (some ⟨blk,off,none⟩) zs.length cap] w fun e w'=>e=.returned (.slice (some ⟨blk,off,none⟩) (Lib.compact zs).length cap)/\ ∃q,w'=putRow (Value.int .i64) (Sort.ahead w q) blk off (Lib.compact zs++List.replicate (zs.length - (Lib.compact zs).length) 0).toArray :=Any.slices_Compact_int Tryz.laysNm220 blk off cap zs w hH hsz dH
open Go.RowKit Go.Lib Go.Sort in
theorem Tryz.slices_Compact_int_empty (a:Option Addr) (cap:Nat) (w:World):
  Calls prog 110 #[.slice a 0 cap] w fun e w'=>e=.returned (.slice a 0 cap)/\w'=w:=Any.slices_Compact_int_empty Tryz.laysNm220 a cap w
open Go.RowKit Go.Sort in
theorem Tryz.slices_Sort_int_none (p:Option Addr) (cap:Nat) (w:World):
  Calls prog 109 #[.slice p 0 cap] w fun e w'=>e=.returned (.tuple #[])/\w'=w:=Any.slices_Sort_int_none Tryz.lays189 p cap w
def Tryz.sortEnd_ren :Go.Shelf.Ren:=⟨fun | 6=>181 | 15=>141 | 14=>185 | 28=>162 | 29=>163 | 20=>187 | 21=>188 | 22=>189 | 23=>190 | 24=>191 | 25=>192 | 26=>193 | 27=>194 | 46=>195 | 47=>174 | 48=>175 | 49=>196 | 50=>197 | 57=>198 | n=>n,fun | 22=>245 | 24=>236 | 25=>247 | 3=>3 | 39=>199 | 0=>0 | 53=>214 | 55=>228 | 4=>4 | 46=>219 | 45=>218 | 50=>224 | 5=>5 | 9=>9 | 66=>237 | 70=>241 | 76=>250 | 77=>31 | n=>n,fun | n=>n⟩
theorem Tryz.sortEnd :Go.Proofs.SlLaysF0.n6 prog Tryz.sortEnd_ren:={
 mixed:=by kernel_rfl
 f6:=⟨Tryz.f181.name,by decide,Tryz.func181.trans (congrArg some (by kernel_rfl))⟩
 f14:=⟨Tryz.f185.name,by decide,Tryz.func185.trans (congrArg some (by kernel_rfl))⟩
 f15:=Tryz.func141.trans (congrArg some (by kernel_rfl))
 f20:=⟨Tryz.f187.name,by decide,Tryz.func187.trans (congrArg some (by kernel_rfl))⟩
 f21:=⟨Tryz.f188.name,by decide,Tryz.func188.trans (congrArg some (by kernel_rfl))⟩
 f22:=⟨Tryz.f189.name,by decide,Tryz.func189.trans (congrArg some (by kernel_rfl))⟩
 f23:=⟨Tryz.f190.name,by decide,Tryz.func190.trans (congrArg some (by kernel_rfl))⟩
 f24:=⟨Tryz.f191.name,by decide,Tryz.func191.trans (congrArg some (by kernel_rfl))⟩
 f25:=⟨Tryz.f192.name,by decide,Tryz.func192.trans (congrArg some (by kernel_rfl))⟩
 f26:=⟨Tryz.f193.name,by decide,Tryz.func193.trans (congrArg some (by kernel_rfl))⟩
 f27:=⟨Tryz.f194.name,by decide,Tryz.func194.trans (congrArg some (by kernel_rfl))⟩
 f28:=Tryz.func162.trans (congrArg some (by kernel_rfl))
 f29:=Tryz.func163.trans (congrArg some (by kernel_rfl))
 f46:=⟨Tryz.f195.name,by decide,Tryz.func195.trans (congrArg some (by kernel_rfl))⟩
 f47:=Tryz.func174.trans (congrArg some (by kernel_rfl))
 f48:=Tryz.func175.trans (congrArg some (by kernel_rfl))
 f49:=⟨Tryz.f196.name,by decide,Tryz.func196.trans (congrArg some (by kernel_rfl))⟩
 f50:=⟨Tryz.f197.name,by decide,Tryz.func197.trans (congrArg some (by kernel_rfl))⟩
 f57:=⟨Tryz.f198.name,by decide,Tryz.func198.trans (congrArg some (by kernel_rfl))⟩
 t0:=Tryz.underlying0
 a0:=Tryz.isAgg0
 z0:=Tryz.sizeOf0
 v0:=Tryz.zeroValue0
 t3:=Tryz.underlying3
 a3:=Tryz.isAgg3
 z3:=Tryz.sizeOf3
 v3:=Tryz.zeroValue3
 t4:=Tryz.underlying4
 a4:=Tryz.isAgg4
 z4:=Tryz.sizeOf4
 v4:=Tryz.zeroValue4
 t5:=Tryz.underlying5
 a5:=Tryz.isAgg5
 z5:=Tryz.sizeOf5
 v5:=Tryz.zeroValue5
 t9:=Tryz.underlying9
 a9:=Tryz.isAgg9
 z9:=Tryz.sizeOf9
 v9:=Tryz.zeroValue9
 t22:=Tryz.underlying245
 a22:=Tryz.isAgg245
 z22:=Tryz.sizeOf245
 v22:=Tryz.zeroValue245
 t25:=Tryz.underlying247
 a25:=Tryz.isAgg247
 z25:=Tryz.sizeOf247
 v25:=Tryz.zeroValue247
 t39:=Tryz.underlying199
 a39:=Tryz.isAgg199
 z39:=Tryz.sizeOf199
 v39:=Tryz.zeroValue199
 t45:=Tryz.underlying218
 a45:=Tryz.isAgg218
 z45:=Tryz.sizeOf218
 v45:=Tryz.zeroValue218
 t46:=Tryz.underlying219
 a46:=Tryz.isAgg219
 z46:=Tryz.sizeOf219
 v46:=Tryz.zeroValue219
 t50:=Tryz.underlying224
 a50:=Tryz.isAgg224
 z50:=Tryz.sizeOf224
 v50:=Tryz.zeroValue224
 t53:=Tryz.underlying214
 a53:=Tryz.isAgg214
 z53:=Tryz.sizeOf214
 v53:=Tryz.zeroValue214
 t55:=Tryz.underlying228
 a55:=Tryz.isAgg228
 z55:=Tryz.sizeOf228
 v55:=Tryz.zeroValue228
 t66:=Tryz.underlying237
 a66:=Tryz.isAgg237
 z66:=Tryz.sizeOf237
 v66:=Tryz.zeroValue237
 t70:=Tryz.underlying241
 a70:=Tryz.isAgg241
 z70:=Tryz.sizeOf241
 v70:=Tryz.zeroValue241
 t76:=Tryz.underlying250
 a76:=Tryz.isAgg250
 z76:=Tryz.sizeOf250
 v76:=Tryz.zeroValue250
 t77:=Tryz.underlying31
 a77:=Tryz.isAgg31
 z77:=Tryz.sizeOf31
 v77:=Tryz.zeroValue31}
open Go.RowKit Go.Lib Go.Sort
theorem Tryz.cmpEnd (a b c a' b' c':Int) (h: -1000000000<=a/\a<=1000000000) (h': -1000000000<=a'/\a'<=1000000000) (W:World):
  Calls prog 182 #[.agg #[.int .i64 a,.int .i64 b,.int .i64 c],.agg #[.int .i64 a',.int .i64 b',.int .i64 c']] W fun e w'=>e=.returned (.int .i64 (a - a'))/\ ∃q os',w'=grow (W.drewN q) os':=by
 go_enter Tryz.func182,Tryz.ntmps182
 go_wp2
 go_ret
 exact ⟨rfl,0,_,by rw [alloc_eq_grow,alloc_eq_grow,grow_grow];rfl⟩
end Go.Proofs
namespace Go.Am
open IntKind (wrap)
open Go.Proofs.Tryz
open Go.Proofs
inductive Hy where
 | h0 (v9:zx) (v10:zw) (v11:Int) (v12:Int)
 | h1 (v9:zx) (v10:zw) (v11:Int) (v12:Int) (v13:zw) (v15:Int)
 | h2 (v9:zx) (v10:zw) (v11:Int) (v12:Int) (v14:Int)
def O1 (x0:Int) (l1:zx) (l2:zx):Hy->CI
 | .h0 v9 v10 v11 v12=>⟨⟨137,0,true⟩,none,(Zq prog 57 (pn 607) 0),none,(Zy prog 39),⟨Zs [(0,(ii x0)),(1,(dt l1)),(2,(dt l2)),(8,(.dat (Xj (CA l1) (CA l2)).length (Zz (Xj (CA l1) (CA l2))))),(9,(.sla 0 6 0 v9.length (.un 6))),(10,(dt v10)),(11,(ii v11)),(12,(ii v12))],Xe [(rz v9 76 6)] 0,1,[],true⟩,[],.leaf⟩
 | .h1 v9 v10 v11 v12 v13 v15=>⟨⟨137,0,true⟩,none,(Zq prog 57 (pn 651871) 0),none,(Zy prog 39),⟨Zs [(0,(ii x0)),(1,(dt l1)),(2,(dt l2)),(8,(.dat (Xj (CA l1) (CA l2)).length (Zz (Xj (CA l1) (CA l2))))),(9,(.sla 0 6 0 v9.length (.un 6))),(10,(dt v10)),(11,(ii v11)),(12,(ii v12)),(13,(dt v13)),(15,(ii v15))],Xe [(rz v9 76 6)] 0,1,[],true⟩,[],.leaf⟩
 | .h2 v9 v10 v11 v12 v14=>⟨⟨137,0,true⟩,none,(Zq prog 57 (pn 2404959) 0),none,(Zy prog 39),⟨Zs [(0,(ii x0)),(1,(dt l1)),(2,(dt l2)),(8,(.dat (Xj (CA l1) (CA l2)).length (Zz (Xj (CA l1) (CA l2))))),(9,(.sla 0 6 0 v9.length (.un 6))),(10,(dt v10)),(11,(ii v11)),(12,(ii v12)),(14,(ii v14))],Xe [(rz v9 76 6)] 0,1,[],true⟩,[],.leaf⟩
def j3z :List (Option zr):=[some [0,1,2,8,9,10,11,12]]
def j4b :List (Option zr):=[]
def j3y :List (Option zr):=[some [0,1,2,8,9,10,11,12,13,15]]
def j4a :List (Option zr):=[]
def L7 :List (Option zr):=[some [0,1,2,8,9,10,11,12,14]]
def L8 :List (Option zr):=[]
def Uq (x0:Int) (l1:zx) (l2:zx):Hy->Yr Hy
 | .h0 v9 v10 v11 v12=>let e:=Xj (CA l1) (CA l2);let a:=rd e v12.toNat;let c:=CA (CN (CA l2) a);let d:=CA (CN (CA l1) a);let b:=C4 x0 d c;(bif (decide ((wrap .i64 (v12+1))<((e.length :Nat):Int))) then (bif (RJ (CA l1) a) then (bif ((decide (0<=v12/\v12<((e.length :Nat):Int)))&&true) then (bif (RJ (CA l2) a) then (bif (JC x0 d c) then (bif (decide (((b.length :Nat):Int)>400)) then (.ret [.nils,(.bool false)]) else (bif (JC 2 d ([]:zw)) then (bif (decide ((((C4 2 d ([]:zw)).length :Nat):Int)>400)) then (.ret [.nils,(.bool false)]) else (bif (JC 2 c ([]:zw)) then (bif (decide ((((C4 2 c ([]:zw)).length :Nat):Int)>400)) then (.ret [.nils,(.bool false)]) else (bif (decide (v12>0)) then (bif (Wa (CA b) (CA v10)) then (bif (Vs (CA b) (CA v10)) then (.to (.h2 v9 v10 v11 v12 v11)) else (.to (.h1 v9 b (v9.length:Int) v12 b 0))) else .stuck) else (.to (.h1 v9 b (v9.length:Int) v12 b 0)))) else .stuck)) else .stuck)) else .stuck) else .stuck) else .stuck) else .stuck) else (.ret [(dt v9),(.bool (decide ((v9.length:Int)<=400)))]))
 | .h1 v9 v10 v11 v12 v13 v15=>let e:=Xj (CA l1) (CA l2);let f:=rd v13 v15.toNat;(bif (decide (v15<(v13.length:Int))) then (bif ((decide (0<=v12/\v12<((e.length :Nat):Int)))&&true) then (bif ((decide (0<=v15/\v15<(v13.length:Int)))&&true) then (bif ((decide (0<=(wrap .i64 (v12+1))/\(wrap .i64 (v12+1))<((e.length :Nat):Int)))&&true) then (bif (Nat.beq 6 6&&((decide (0+v9.length=v9.length))&&decide ((v9.length+1+1)*(48+1)<=Jm))) then (.to (.h1 (v9++[(R6.mk f.a f.b (rd e v12.toNat) f.c f.d (rd e (Int.toNat (wrap .i64 (v12+1)))))]) v10 v11 v12 v13 (wrap .i64 (v15+1)))) else .stuck) else .stuck) else .stuck) else .stuck) else (.to (.h0 v9 v10 v11 (wrap .i64 (v12+1)))))
 | .h2 v9 v10 v11 v12 v14=>let f:=rd v9 (0+v14.toNat);let g:=Xj (CA l1) (CA l2);(bif (decide (v14<(v9.length:Int))) then (bif ((decide (0<=(wrap .i64 (v12+1))/\(wrap .i64 (v12+1))<((g.length :Nat):Int)))&&true) then (bif ((decide (0<=v14/\v14<(v9.length:Int)))&&true) then (bif (decide ((0+v14.toNat)<v9.length)) then (.to (.h2 (v9.set (0+v14.toNat) (R6.mk f.a f.b f.c f.d f.e (rd g (Int.toNat (wrap .i64 (v12+1)))))) v10 v11 v12 (wrap .i64 (v14+1)))) else .stuck) else .stuck) else .stuck) else (.to (.h0 v9 v10 v11 (wrap .i64 (v12+1)))))
def X9 (x0:Int) (l1:zx) (l2:zx):Yr Hy:=(bif (Y2 (CA l1) (CA l2)) then (.to (.h0 ([]:zx) ([]:zw) 0 0)) else .stuck)
theorem w9l (x0:Int) (l1:zx) (l2:zx): ∀s,Xx prog (Zy prog 57) (O1 x0 l1 l2) (O1 x0 l1 l2 s) (Uq x0 l1 l2 s)
 | .h0 v9 v10 v11 v12=>(lb (fun k0=>(lo fun aL=>(lo fun aT=>(lo fun bR=>(lo fun cG=>let l:=pp (xr l1) (xw aL);let m:=pp (xr l2) (xw bR);let a:=pp m (ww aT (pp l (ww aT (tt k0 nn))));let s:=rd (Xj (CA l1) (CA l2)) (tn v12);let t:=CN (CA l1) s;let u:=CN (CA l2) s;let w:=pn 152159;(lb (fun k1=>(lr 137 57 w 1 39 [(6,.nils),(7,(.bool false))] (sl FJ 50 [] (a7 [6,7]) a6 (CK 20 []) (tt k1 (pp (pp (xI R4 t.length (Zz t)) (pp (xI R4 u.length (Zz u)) (xw cG))) a))))) (fun k1=>(lo fun bO=>(lb (fun k2=>let b:=xI R4 t.length (Zz t);(lr 137 57 w 1 39 [(6,.nils),(7,(.bool false))] (sl FJ 50 [] (a7 [6,7]) a6 (bl 20 1047553) (tt k2 (pp (pp b (pp (xI R4 0 (fun _=>[])) (xw bO))) (pp l (ww aT (tt k1 (pp (pp b (pp (xI R4 u.length (Zz u)) (xw cG))) a))))))))) (fun k2=>(lo fun bS=>(lb (fun k3=>let c:=xI R4 t.length (Zz t);let g:=xI R4 u.length (Zz u);let o:=xI R4 0 (fun _=>[]);(lr 137 57 w 1 39 [(6,.nils),(7,(.bool false))] (sl FJ 50 [] (a7 [6,7]) a6 (bl 20 524289) (tt k3 (pp (pp g (pp o (xw bS))) (pp m (ww aT (tt k2 (pp (pp c (pp o (xw bO))) (pp l (ww aT (tt k1 (pp (pp c (pp g (xw cG))) a))))))))))))) (fun k3=>(lb (fun k4=>(lo fun cD=>let r:=pp (xr v10) (xw cD);let v:=C4 x0 (CA t) (CA u);(lb (fun k5=>let d:=xI R4 t.length (Zz t);let h:=xI R4 u.length (Zz u);let p:=xI R4 0 (fun _=>[]);(sl FJ 66 [] ⟨[0],[],L7,L8⟩ a6 (bl 24 15728641) (pp (fl v9 nn) (tt k5 (pp (pp (xI R4 v.length (Zz v)) r) (tt k4 (tt k3 (pp (pp h (pp p (xw bS))) (pp m (ww aT (tt k2 (pp (pp d (pp p (xw bO))) (pp l (ww aT (tt k1 (pp (pp d (pp h (xw cG))) a)))))))))))))))) (fun k5=>let e:=xI R4 t.length (Zz t);let j:=xI R4 u.length (Zz u);let q:=xI R4 0 (fun _=>[]);(sl FJ 73 [] ⟨[0],[],j3y,j4a⟩ a6 (bl 24 7340033) (pp (fl v9 nn) (tt k5 (pp (pp (xI R4 v.length (Zz v)) r) (tt k4 (tt k3 (pp (pp j (pp q (xw bS))) (pp m (ww aT (tt k2 (pp (pp e (pp q (xw bO))) (pp l (ww aT (tt k1 (pp (pp e (pp j (xw cG))) a))))))))))))))))))) (fun k4=>let f:=xI R4 t.length (Zz t);let i:=xI R4 u.length (Zz u);let n:=xI R4 0 (fun _=>[]);(sl FJ 73 [] ⟨[0],[],j3y,j4a⟩ a6 (bl 24 1) (pp (fl v9 nn) (tt k4 (tt k3 (pp (pp i (pp n (xw bS))) (pp m (ww aT (tt k2 (pp (pp f (pp n (xw bO))) (pp l (ww aT (tt k1 (pp (pp f (pp i (xw cG))) a)))))))))))))))))))))))))))) (fun k0=>(lr 137 3 (pn 767) 1 39 [(6,(dt v9)),(7,(.bool (decide ((v9.length:Int)<=400))))] (sl FJ 20 [] ⟨[],[0],[some [6,7]],[]⟩ ⟨[(6,.frz v9.length v9.length (Zz v9) (Zz v9))],[],[]⟩ [false] (pp (xZ (Cv 6 6 0 v9.length v9.length (Zz v9)) v9.length (Zz v9)) (pp (xL v9.length v9.length) (pp (xS v9.length (Zz v9) (Zz v9)) (pp (fl v9 nn) (tt k0 nn)))))))))
 | .h1 v9 v10 v11 v12 v13 v15=>(lb (fun k0=>(lo fun o0=>(lo fun o1=>(lo fun o2=>(lo fun o3=>let i:=rd v13 (tn v15);let g:=i;let m:=Xj (CA l1) (CA l2);let h:=m;let n:=tn (wr (v12+1));let e:=v9++[(R6.mk g.a g.b (rd h (tn v12)) g.c g.d (rd h n))];let o:=rd m (tn v12);let l:=v9++[(R6.mk i.a i.b o i.c i.d (rd m n))];let p:=v9.length+1;let f:=xL p l.length;let j:=Zf (Zz v9) 0 v9.length 6 [(ii i.a),(ii i.b),(ii o),(ii i.c),(ii i.d),(ii (rd m n))];(sl FJ 20 [] ⟨[2],[],j3y,j4a⟩ ⟨[(9,.len e.length)],[.rowed 6 e.length (Zz e)],[]⟩ [true] (pp f (pp f (pp (xS p j (Zz l)) (pp (pp (xF j) nn) (ww o3 (ww o2 (ww o1 (ww o1 (ww o0 (ww o1 (ww o1 (tt k0 nn)))))))))))))))))) (fun k0=>(sl FJ 17 [] ⟨[0],[],j3z,j4b⟩ a6 [false] (pp (fl v9 nn) (tt k0 nn)))))
 | .h2 v9 v10 v11 v12 v14=>(lb (fun k0=>(lo fun o0=>(lo fun o1=>(lo fun o2=>let l:=rd v9 (0+(tn v14));let h:=l;let j:=rd (Xj (CA l1) (CA l2)) (tn (wr (v12+1)));let f:=v9.set (0+(tn v14)) (R6.mk h.a h.b h.c h.d h.e j);let i:=v9.set (0+(tn v14)) (R6.mk l.a l.b l.c l.d l.e j);let g:=xL v9.length i.length;let m:=Xi (Zz v9) (0+(tn v14)) 5 [(ii j)];(sl FJ 32 [] ⟨[0],[],L7,L8⟩ ⟨[(9,.len f.length)],[.rowed 6 f.length (Zz f)],[]⟩ [true] (pp g (pp g (pp (xS v9.length m (Zz i)) (pp (pp (xF m) nn) (ww o2 (ww o1 (ww o0 (tt k0 nn))))))))))))) (fun k0=>(sl FJ 17 [] ⟨[0],[],j3z,j4b⟩ a6 [false] (pp (fl v9 nn) (tt k0 nn)))))
theorem w0a (x0:Int) (l1:zx) (l2:zx):Xx prog (Zy prog 57) (O1 x0 l1 l2) (Zp prog 57 [(.int .i64 x0),(dt l1),(dt l2)] true []) (X9 x0 l1 l2):=(lo fun o0=>(sl FJ 31 [(76,6,Zz ([]:zx))] ⟨[0],[],j3z,j4b⟩ ⟨[(9,.grow 0 6),(10,.list 0 (Zz ([]:zw)))],[],[]⟩ [] (pp (fl ([]:zx) nn) (pp (pp (xr l1) (pp (xr l2) (xw o0))) nn))))
theorem u1p (x0:Int) (l1:zx) (l2:zx) (n:Nat) (vs:zy) (h:Yx (Uq x0 l1 l2) n (X9 x0 l1 l2)=.ret vs):Vi prog (Zy prog 57) (Zp prog 57 [(.int .i64 x0),(dt l1),(dt l2)] true []) vs:=by have:=Zg (w9l x0 l1 l2) n _ (w0a x0 l1 l2);rwa [h] at this
theorem Qa (l m:zx):(Xj l m).length <=2*l.length+2*m.length:=by
 refine AG (z7k _) ?_
 grind [z4r]
theorem W1 (l:zx) (z:Int):(CN l z).length <=l.length:=by
 grind [CN]
def Gk (out:zx) (first:Nat) (z:Int):zx:=out.take first++(out.drop first).map fun r=>⟨r.a,r.b,r.c,r.d,r.e,z⟩
def PR (z z':Int) (s:zw):zx:=s.map fun p=>⟨p.a,p.b,z,p.c,p.d,z'⟩
section
variable (kind:Int) (l m:zx)
def DA (z:Int):zw:=C4 kind (CN l z) (CN m z)
def EC (z:Int):Bool:=decide (400<(DA kind l m z).length)||(decide (400<(C4 2 (CN l z) []).length)||decide (400<(C4 2 (CN m z) []).length))
def Gs :Nat->Nat->zx->zw->Nat->Option zx
 | 0,_,out,_,_=>some out
 | k+1,i,out,last,first=>
  bif EC kind l m (rd (Xj l m) i) then none
  else bif decide (0<i)&&Vs (DA kind l m (rd (Xj l m) i)) last then Gs k (i+1) (Gk out first (rd (Xj l m) (i+1))) last first
  else Gs k (i+1) (out++PR (rd (Xj l m) i) (rd (Xj l m) (i+1)) (DA kind l m (rd (Xj l m) i))) (DA kind l m (rd (Xj l m) i)) out.length
def Gr :Option zx:=Gs kind l m ((Xj l m).length - 1) 0 [] [] 0
def Nf :Option zx->zy
 | none=>[.nils,.bool false]
 | some out=>[.dat out.length (Zz out),.bool (decide ((out.length:Int)<=400))]
def Jr :zx:=(Gr kind l m).getD []
def EI :Bool:=match Gr kind l m with
 | none=>false
 | some out=>decide ((out.length:Int)<=400)
end
def VO (l:zx):Prop:=l.length<=40000/\ ∀z,(CN l z).length <=5000
theorem j0a {l:zx} (h:l.length<=5000):VO l:=⟨by omega,fun z=>AG (W1 l z) h⟩
def Kh (_:Int) (l m:zx):Bool:=pd (VO l/\VO m)
theorem ZW {k:Int} {l m:zx} (hl:l.length<=5000) (hm:m.length<=5000):Kh k l m=true:=Xt ⟨j0a hl,j0a hm⟩
section
variable (kind:Int) (l m:zx) (hl:VO l) (hm:VO m)
include hl hm
theorem u8g (last:zw) (first:Int) (i:Nat) (hi:i+1<(Xj l m).length) (s:zw) (hs:s.length<=1000000): ∀(k j:Nat) (out:zx),j+k=s.length->out.length<=10000000000+j->
  ∃n,∀N,Yx (Uq kind l m) (N+n) (.to (.h1 out last first (i:Int) s (j:Int)))=Yx (Uq kind l m) N (.to (.h0 (out++PR (rd (Xj l m) i) (rd (Xj l m) (i+1)) (s.drop j)) last first ((i+1:Nat):Int)))
 | 0,j,out,h,ho=>by
  have hx:=Qa l m;have hl1:=hl.1;have hm1:=hm.1;refine ⟨1,fun N=> ?_⟩
  grind [Zx,Uq,Zk,PR]
 | k+1,j,out,h,ho=>by
  have hx:=Qa l m;have hl1:=hl.1;have hm1:=hm.1;obtain ⟨n,hn⟩:=u8g last first i hi s hs k (j+1) (out++PR (rd (Xj l m) i) (rd (Xj l m) (i+1)) [rd s j]) (by omega) (by simp [PR];omega)
  refine ⟨n+1,fun N=> ?_⟩;have:=hn N;rw [Yo (show j<s.length by omega),<-AL,Zx];simp (disch:=omega) only [Uq,Za,Zm,Zt,Zr,Ye,Ya,Zn,Zk,Zu,Yc,Zj,Ah,As,Ai,Ak,Ab];rw [AH] at this;exact this
omit hl hm in
theorem u5a (out:zx) (j:Nat) (x:Int) (h:j<out.length):Gk (out.set j ⟨(rd out j).a,(rd out j).b,(rd out j).c,(rd out j).d,(rd out j).e,x⟩) (j+1) x=Gk out j x:=by
 unfold Gk;rw [Yo h,A0];have e1:(out.set j ⟨(rd out j).a,(rd out j).b,(rd out j).c,(rd out j).d,(rd out j).e,x⟩).take (j+1)=out.take j++[⟨(rd out j).a,(rd out j).b,(rd out j).c,(rd out j).d,(rd out j).e,x⟩]:=by
  apply BJ
  .simp;omega
  .intro n h1 h2;simp only [BG,List.getElem_set];by_cases e:j=n
   .subst e;rw [AJ rfl,Bm (by simp only [Bl];omega)];simp
   .rw [AC e,Bu (by simp at h1 ⊢;omega),BG]
 have e2:(out.set j ⟨(rd out j).a,(rd out j).b,(rd out j).c,(rd out j).d,(rd out j).e,x⟩).drop (j+1)=out.drop (j+1):=by rw [List.drop_set];rw [AJ (by omega)]
 rw [e1,e2,AH];rfl
theorem u8f (last:zw) (first:Int) (i:Nat) (hi:i+1<(Xj l m).length): ∀(k j:Nat) (out:zx),j+k=out.length->out.length<=10000000000->
  ∃n,∀N,Yx (Uq kind l m) (N+n) (.to (.h2 out last first (i:Int) (j:Int)))=Yx (Uq kind l m) N (.to (.h0 (Gk out j (rd (Xj l m) (i+1))) last first ((i+1:Nat):Int)))
 | 0,j,out,h,ho=>by
  have hx:=Qa l m;have hl1:=hl.1;have hm1:=hm.1;refine ⟨1,fun N=> ?_⟩;have e:Gk out j (rd (Xj l m) (i+1))=out:=by
   grind [Gk]
  grind [Zx,Uq,Zk]
 | k+1,j,out,h,ho=>by
  have hx:=Qa l m;have hl1:=hl.1;have hm1:=hm.1;obtain ⟨n,hn⟩:=u8f last first i hi k (j+1) (out.set j ⟨(rd out j).a,(rd out j).b,(rd out j).c,(rd out j).d,(rd out j).e,rd (Xj l m) (i+1)⟩) (by simp;omega) (by grind)
  refine ⟨n+1,fun N=> ?_⟩;have:=hn N;rw [u5a out j _ (by omega)] at this;rw [<-AL,Zx];simp (disch:=omega) only [Uq,Za,Zm,Zt,Zr,Yq,Ye,Ya,Zn,Zk,Zu,Yc,Zj,Ah,As,Ai,Ak,Ab];exact this
theorem v4t : ∀(k i:Nat) (out:zx) (last:zw) (first:Nat),k=(Xj l m).length - 1 - i->i<=(Xj l m).length ->out.length<=i*400->last.length<=400->first<=out.length->
  ∃n,Yx (Uq kind l m) n (.to (.h0 out last (first:Int) (i:Int)))=.ret (Nf (Gs kind l m k i out last first))
 | 0,i,out,last,first,h,hi,ho,hla,hf=>by
  have hx:=Qa l m;have hl1:=hl.1;have hm1:=hm.1;refine ⟨1,?_⟩
  grind [Zx,Uq,Za,Zk,Zd,Gs,Nf]
 | k+1,i,out,last,first,h,hi,ho,hla,hf=>by
  have hx:=Qa l m;have hl1:=hl.1;have hm1:=hm.1;have hi1:i+1<(Xj l m).length :=by omega
  have hbig:i*400<=160000*400:=AB _ (by omega);have a1:=fun z=>hl.2 z;have a2:=fun z=>hm.2 z;have w1: ∀z,RJ l z=true:=fun z=>Af (by omega);have w2: ∀z,RJ m z=true:=fun z=>Af (by omega);have w3: ∀k z,JC k (CN l z) (CN m z)=true:=fun k z=>Af (by grind);have w4: ∀k z,JC k (CN l z) ([]:zw)=true:=fun k z=>Af (by grind);have w5: ∀k z,JC k (CN m z) ([]:zw)=true:=fun k z=>Af (by grind);unfold Gs;have eC:DA kind l m (rd (Xj l m) i)=C4 kind (CN l (rd (Xj l m) i)) (CN m (rd (Xj l m) i)):=rfl;by_cases c1:400<(DA kind l m (rd (Xj l m) i)).length
  .refine ⟨1,?_⟩;have hb:EC kind l m (rd (Xj l m) i)=true:=by grind [EC]
   rw [hb,Ab,Zx];rw [eC] at c1;simp (disch:=omega) only [Uq,Za,Zm,Zt,Ys,Zr,Zk,Zu,Zj,w1,w2,w3,w4,w5,Ai,Ab,Zd,Nf]
  by_cases c2:400<(C4 2 (CN l (rd (Xj l m) i)) []).length
  .refine ⟨1,?_⟩;have hb:EC kind l m (rd (Xj l m) i)=true:=by grind [EC]
   rw [hb,Ab,Zx];rw [eC] at c1;simp (disch:=omega) only [Uq,Za,Zm,Zt,Ys,Xg,Zr,Zk,Zu,Zj,w1,w2,w3,w4,w5,Ai,Ab,Aa,Zd,Nf]
  by_cases c3:400<(C4 2 (CN m (rd (Xj l m) i)) []).length
  .refine ⟨1,?_⟩;have hb:EC kind l m (rd (Xj l m) i)=true:=by grind [EC]
   rw [hb,Ab,Zx];rw [eC] at c1;simp (disch:=omega) only [Uq,Za,Zm,Zt,Ys,Xg,Zr,Zk,Zu,Zj,w1,w2,w3,w4,w5,Ai,Ab,Aa,Zd,Nf]
  have hb:EC kind l m (rd (Xj l m) i)=false:=by grind [EC]
  rw [hb,Aa];have w6:Wa (C4 kind (CN l (rd (Xj l m) i)) (CN m (rd (Xj l m) i))) last=true:=Af (by grind);rcases Xz (decide (0<i)&&Vs (DA kind l m (rd (Xj l m) i)) last) with q | q
  .obtain ⟨n3,h3⟩:=u8f kind l m hl hm last first i hi1 (out.length - first) first out (by omega) (by omega)
   obtain ⟨n0,h0⟩:=v4t k (i+1) (Gk out first (rd (Xj l m) (i+1))) last first (by omega) (by omega) (by simp [Gk];omega) hla (by simp [Gk];omega)
   refine ⟨n0+n3+1,?_⟩;rw [q,Ab,Zx];simp only [Ac,Ao] at q;obtain ⟨q1,q2⟩:=q;rw [eC] at c1 q2;simp (disch:=omega) only [Uq,Za,Zm,Zt,Ys,Xg,Zr,Zk,Zu,Zj,w1,w2,w3,w4,w5,w6,q2,Ai,Ab,Aa]
   grind
  .obtain ⟨n2,h2⟩:=u8g kind l m hl hm (DA kind l m (rd (Xj l m) i)) (out.length:Int) i hi1 (DA kind l m (rd (Xj l m) i)) (by omega) (DA kind l m (rd (Xj l m) i)).length 0 out (Ah _) (by omega);obtain ⟨n0,h0⟩:=v4t k (i+1) (out++PR (rd (Xj l m) i) (rd (Xj l m) (i+1)) (DA kind l m (rd (Xj l m) i))) (DA kind l m (rd (Xj l m) i)) out.length (by omega) (by omega) (by simp [PR];omega) (by omega) (by simp);refine ⟨n0+n2+1,?_⟩;rw [q,Aa,Zx];have h2':=h2 n0;simp only [AO,EB] at h2';have c1':=c1;rw [eC] at c1';by_cases hi0:0<i
   .rw [Af hi0,Ak,eC] at q;simp (disch:=omega) only [Uq,Za,Zm,Zt,Ys,Xg,Zr,Zk,Zu,Zj,w1,w2,w3,w4,w5,w6,q,Ai,Ab,Aa]
    grind
   .simp (disch:=omega) only [Uq,Za,Zm,Zt,Ys,Xg,Zr,Zk,Zu,Zj,w1,w2,w3,w4,w5,w6,Ai,Ab,Aa]
    grind
end
theorem j3x (kind:Int) (l m:zx) (h:Kh kind l m=true): ∃N,Yx (Uq kind l m) N (X9 kind l m)=.ret (Nf (Gr kind l m)):=by obtain ⟨hl,hm⟩:=Jb h;have hl1:=hl.1;have hm1:=hm.1;obtain ⟨N,hN⟩:=v4t kind l m hl hm ((Xj l m).length - 1) 0 [] [] 0 rfl (Ay _) (Ay _) (Ay _) (Ar _);refine ⟨N,?_⟩;have w1:Y2 l m=true:=Af ⟨by omega,by omega⟩;simp only [X9,Za,Zm,w1,Ab];exact hN
def fJs :zy->Option (B9×Bool)
 | [.int .i64 x0,a1,a2]=>match CY R6 a1,CY R6 a2 with
  | some (L1,g1,n1),some (L2,g2,n2)=>some (.tup [.dat (Jr x0 L1 L2).length (Zz (Jr x0 L1 L2)),.bool (EI x0 L1 L2)],CX R6 n1 g1&&(CX R6 n2 g2&&(Kh x0 L1 L2)))
  | _,_=>none
 | _=>none
theorem QI {S:CB} (hS:Zw prog S):Zw prog (S.with u9o fJs):=by
 refine E4 hS (by kernel_rfl) fun args v h=> ?_;unfold fJs at h;split at h
 .rename_i x0 a1 a2;split at h
  .rename_i L1 g1 n1 L2 g2 n2 e1 e2;simp only [Ad,Ae,Ac] at h;obtain ⟨rfl,ho1,ho2,hw⟩:=h;obtain ⟨N,hN⟩:=j3x x0 L1 L2 hw;refine ⟨_,Nf (Gr x0 L1 L2),(.cons (.refl _) (.cons (Yi e1 ho1) (.cons (Yi e2 ho2) .nil))),?_,u1p x0 L1 L2 N _ hN,3,?_⟩
   .unfold Jr EI;cases Gr x0 L1 L2 with
    | none=>exact fun ρ u hu=>Qn (.cons (Mt R6) (DE.refl _)) ρ u hu
    | some out=>exact fun ρ u hu=>hu
   .cases Gr x0 L1 L2 <;> rfl
  .cases h
 .cases h
def T4 :CB:=T3.with u9o fJs
theorem WA :Zw prog T4:=QI FJ
open Go.Sort Go.Shelf Go.RowKit Go.Lib
def PL (x:E3):List Value:=FR x.1
theorem j9q (l:zo) (h:DN l=true):Go.Sort.flatK PL 3 (ED l h).toArray =Go.Sort.flatK FR 3 l.toArray:=by
 have hl:=Qb l h;unfold Go.Sort.flatK;rw [show (ED l h).toArray.size =l.toArray.size by simpa using hl];apply Array.ext
 .simp
 .intro t h1 h2;simp only [Array.getElem_map,Array.getElem_range];have ht:t<l.length*3:=by simpa using h1
  have hq:t / 3<l.length:=by omega
  congr 1
  rw [getElem!_pos (ED l h).toArray (t / 3) (by simpa [hl] using hq),getElem!_pos l.toArray (t / 3) (by simpa using hq)];unfold PL
  congr 1
  have:=XI l h;have e:=AE (fun z:zo=>z[t / 3]?) this;simp only [BR] at e;rw [At (by rw [hl];exact hq),At hq] at e
  simpa using e
theorem u4q (d:Array E3):Go.Sort.flatK PL 3 d=Go.Sort.flatK FR 3 (d.toList.map Subtype.val).toArray :=by
 unfold Go.Sort.flatK;rw [show d.size=(d.toList.map Subtype.val).toArray.size by simp];apply Array.ext
 .simp
 .intro t h1 h2;simp only [Array.getElem_map,Array.getElem_range];have ht:t<d.size*3:=by simpa using h1
  have hq:t / 3<d.size:=by omega
  congr 1
  rw [getElem!_pos d (t / 3) hq,getElem!_pos (d.toList.map Subtype.val).toArray (t / 3) (by simpa using hq)];simp [PL]
theorem y0l (l:zo):HT l.length (Ch (CA l)).length =true:=Us (by
 rw [Za];by_cases h:DN l=true
 .exact (Qr l h).1.length_eq.symm
 .unfold Ch;rw [dif_neg h])
theorem isAgg3 : ∀w,(isAgg (Tryz.sortEnd_ren.t 24)).run prog w=.ok true w:=fun w=>by rfl
theorem UH : ∀w,(Go.sizeOf (Tryz.sortEnd_ren.t 24)).run prog w=.ok 3 w:=fun w=>by rfl
theorem v3r :JO prog u9k (ZR R3 Ch DN w5z):=by
 refine v7q (fun L=> ?_) (fun blk off cap L w hb hH eF hsz=> ?_) fun p cap fv w=>AnyF.slices_SortFunc_none Tryz.sortEnd p cap fv w
 .by_cases h:DN L=true
  .exact (Qr L h).1.length_eq
  .unfold Ch;rw [dif_neg h]
 .have eg: ∀args w,(callFunc 182 args).run prog w=.ok (.enter 182 args) w:=enters_of Tryz.func182 (by kernel_rfl) rfl;have hcmp:CmpLays prog 182 #[] PL 3 Q5 blk off (ED L hb).toArray.size w:=fun m os dk _ x y=>by have hx:=Ax x.2;have hy:=Ax y.2;exact Tryz.cmpEnd x.1.a x.1.b x.1.c y.1.a y.1.b y.1.c hx hy _
  have hH':HoldsK PL 3 w blk off (ED L hb).toArray :=by unfold HoldsK;rw [j9q L hb];exact hH
  have hcon:=AnyQ.slices_SortFunc_eq Tryz.sortEnd 3 isAgg3 UH PL (fun x=>w3n x.1) (fun x v hv=>by
   obtain ⟨a,ha,rfl⟩:=Bh.1 hv;have:Nd a=true:=Au.1 (j0z.num x.1) a ha;cases a <;> first | rfl | (simp [Nd] at this;done)) Q5 UD 182 #[] blk off cap (ED L hb).toArray w eg hcmp hH' eF (by simpa [Qb] using hsz)
  have hs:(ED L hb).toArray.size =L.length:=by simp [Qb]
  rw [hs] at hcon;refine Calls.mono hcon fun e w' ⟨he,n,os,hw⟩=>⟨he,n,os,?_⟩
  rw [hw];unfold sortWorldK putRowK;rw [u4q];unfold Ch;rw [dif_pos hb];rfl
def Wz (zs:zp):zp:=zs.mergeSort fun x y=>decide (x<=y)
theorem v3q :JO prog MC (Ij Wz):=
 j9s (fun zs=>List.length_mergeSort zs) (fun blk off cap zs w hH hb hz=>Tryz.slices_Sort_int blk off cap zs w hH hb hz) fun p cap w=>Tryz.slices_Sort_int_none p cap w
def Wf (zs:zp):zp:=compact zs++List.replicate (zs.length - (compact zs).length) 0
def MQ (zs:zp):Nat:=(compact zs).length
theorem Qp (zs:zp):(Wf zs).length =zs.length:=by have:=compact_length_le zs;simp [Wf];omega
theorem S8 (n:Nat) (c:Nat->Int):HT n (Wf (Yy n c)).length =true:=Us (by rw [Qp];simp [Yy])
theorem v6w (w:World):grow w #[]=w:=by simp [grow]
theorem w3v :JO prog w6a (Ik Wf MQ):=
 j9t (fun zs=>by have:=compact_length_le zs;simp [Wf];omega) (fun zs=>compact_length_le zs)
  (fun blk off cap zs w hH hb hz dH=>(Tryz.slices_Compact_int blk off cap zs w hH (by omega) dH).mono fun e w' ⟨he,q,hw⟩=>⟨he,q, #[],by rw [hw,v6w];rfl⟩)
  fun p cap w=>Tryz.slices_Compact_int_empty p cap w
def T5 :CB:=((T4.withE u9k (ZR R3 Ch DN w5z)).withE MC (Ij Wz)).withE w6a (Ik Wf MQ)
theorem DP :Zw prog T5:=x1p (x1p (x1p WA (by kernel_rfl) v3r) (by kernel_rfl) v3q) (by kernel_rfl) w3v
inductive H6 where
 | h0 (v8:Int)
 | h1 (v3:zo) (v17:Int)
 | h2 (v5:zo) (v6:Int) (v7:Int) (aB:Int) (bJ:Int) (bB:Int) (aH:Bool) (aE:zq)
def Nr (l0:zq):H6->CI
 | .h0 v8=>⟨⟨19,0,true⟩,none,(Zq prog 179 (pn 37) 0),none,(Zy prog 4),⟨Zs [(0,(dt l0)),(1,(.fn 166 [])),(7,(ii (l0.length:Int))),(8,(ii v8))],Xe [] 0,0,[],true⟩,[⟨⟨9,0,true⟩,(Wr prog 165 [1,0] 2),(Zq prog 165 [1,0] 1),none,(Zy prog 4),Zs [(5,(dt l0)),(6,(.fn 166 []))]⟩,⟨⟨11,0,true⟩,(Wr prog 145 (pn 19) 1),(Zq prog 145 (pn 19) 1),none,(Zy prog 17),Zs [(0,(dt l0)),(7,(dt l0))]⟩],.leaf⟩
 | .h1 v3 v17=>⟨⟨38,0,true⟩,none,(Zq prog 172 (pn 19659) 0),none,(Zy prog 5),⟨Zs [(3,(.sla 7 3 0 v3.length (.un 3))),(4,(ii 0)),(8,(.sl 0 0 2 (.un 1))),(9,(ii 2)),(10,(ii 0)),(15,(dt l0)),(16,(ii (l0.length:Int))),(17,(ii v17))],Xe [⟨[(dt l0),.nils],173,none⟩,⟨[(.fn 168 [])],194,none⟩,⟨[(ii 0),(ii 0)],232,none⟩,⟨[.nils],173,none⟩,⟨[(ii 0)],3,none⟩,⟨[(.bool false)],4,none⟩,⟨[(.fn 171 [(.ptr 5 0),(.ptr 4 0),(.ptr 3 0)])],118,none⟩,(rz v3 236 3)] 0,8,[],true⟩,[⟨⟨42,0,true⟩,(Wr prog 150 (pn 159) 3),(Zq prog 150 (pn 159) 1),none,(Zy prog 3),Zs [(5,(.ptr 1 0)),(6,.nils),(7,(.ptr 2 0)),(8,(.ptr 3 0)),(9,(.ptr 4 0)),(10,(.ptr 5 0)),(11,(.ptr 6 0)),(16,(.sl 0 0 2 (.un 1)))]⟩,⟨⟨11,0,true⟩,(Wr prog 145 (pn 23) 1),(Zq prog 145 (pn 23) 1),none,(Zy prog 17),Zs [(9,(dt l0))]⟩],.leaf⟩
 | .h2 v5 v6 v7 aB bJ bB aH aE=>⟨⟨16,0,true⟩,none,(Zq prog 186 [1,0,0] 0),none,[],⟨Zs [(0,(.yld 0)),(5,(.sla 7 3 0 v5.length (.un 3))),(6,(ii v6)),(7,(ii v7))],Cj [(1,⟨[(.fn 168 [])],194,none⟩),(2,⟨[(ii aB),(ii bJ)],232,none⟩),(3,⟨[(ii bB)],3,none⟩),(4,⟨[(.bool aH)],4,none⟩),(5,⟨[(.fn 171 [(.ptr 4 0),(.ptr 3 0),(.ptr 6 0)])],118,none⟩),(6,⟨[(.sla 8 2 0 aE.length (.un 2))],173,none⟩),(7,(rz v5 236 3)),(8,(rz aE 180 2))],9,[],true⟩,[⟨⟨42,0,true⟩,none,(.inRangeFunc 0::(Zq prog 150 (pn 351) 1)),none,(Zy prog 3),Zs [(6,.nils),(8,(.ptr 6 0))]⟩,⟨⟨11,0,true⟩,(Wr prog 145 (pn 23) 1),(Zq prog 145 (pn 23) 1),none,(Zy prog 17),Zs [(9,(dt l0))]⟩],(Co [(0,⟨.ready,none,42,Zs [(5,(.ptr 1 0)),(7,(.ptr 2 0)),(9,(.ptr 3 0)),(10,(.ptr 4 0)),(11,(.ptr 5 0))],[18],(Wx prog 150 [1,1,1,1,1,0,1,0,0]),(Wx prog 150 [1,1,1,1,1,0,1,0,1])⟩)])⟩
def J5 :List (Option zr):=[some [0,1,7,8],some [5,6],some [0,7]]
def J6 :List (Option zr):=[]
def Tz :List (Option zr):=[some [3,4,8,9,10,15,16,17],some [5,6,7,8,9,10,11,16],some [9]]
def Ty :List (Option zr):=[]
def GL :List (Option zr):=[some [0,5,6,7],some [6,8],some [9]]
def GK :List (Option zr):=[some [5,7,9,10,11],none,none,none,none,none,none,none,none]
def Jx (l0:zq):H6->Yr H6
 | .h0 v8=>let c:=rd l0 v8.toNat;(bif (decide (v8<(l0.length:Int))) then (bif ((decide (0<=v8/\v8<(l0.length:Int)))&&true) then (bif (decide (c.a <c.b)) then (bif (decide (c.a >=(-1000000))) then (bif (!(decide (c.b <=1000000))) then (bif (decide (v8>=0)) then (.ret [.nils,(.int .i64 8)]) else (.to (.h1 ([]:zo) 0))) else (.to (.h0 (wrap .i64 (v8+1))))) else (bif (decide (v8>=0)) then (.ret [.nils,(.int .i64 8)]) else (.to (.h1 ([]:zo) 0)))) else (bif (decide (v8>=0)) then (.ret [.nils,(.int .i64 8)]) else (.to (.h1 ([]:zo) 0)))) else .stuck) else (.to (.h1 ([]:zo) 0)))
 | .h1 v3 v17=>let c:=rd l0 v17.toNat;(bif (decide (v17<(l0.length:Int))) then (bif ((decide (0<=v17/\v17<(l0.length:Int)))&&true) then (bif (Nat.beq 3 3&&((decide (0+v3.length=v3.length))&&decide ((v3.length+2+1)*(24+1)<=Jm))) then (.to (.h1 (v3++[(R3.mk c.a 0 1),(R3.mk c.b 0 (-1))]) (wrap .i64 (v17+1)))) else .stuck) else .stuck) else (bif (DN (CA v3)) then (bif (decide (v3.length<4611686018427387904)) then (bif (decide (v3.length=v3.length)) then (.to (.h2 (Ch (CA v3)) (v3.length:Int) 0 0 0 0 false ([]:zq))) else .stuck) else .stuck) else .stuck))
 | .h2 v5 v6 v7 aB bJ bB aH aE=>let d:=rd v5 (0+v7.toNat);(bif (decide (v7<v6)) then (bif ((decide (0<=v7/\v7<(v5.length:Int)))&&true) then (bif (decide ((0+v7.toNat)<v5.length)) then (bif (!aH) then (bif (decide (d.b =Int.ofNat 0)) then (.to (.h2 v5 v6 (wrap .i64 (v7+1)) (wrap .i64 (aB+d.c)) bJ d.a (Es (decide ((wrap .i64 (aB+d.c))>0)) (decide (bJ>0))) aE)) else (bif (decide (d.b =Int.ofNat 1)) then (.to (.h2 v5 v6 (wrap .i64 (v7+1)) aB (wrap .i64 (bJ+d.c)) d.a (Es (decide (aB>0)) (decide ((wrap .i64 (bJ+d.c))>0))) aE)) else .stuck)) else (bif (bB == d.a) then (bif (decide (d.b =Int.ofNat 0)) then (.to (.h2 v5 v6 (wrap .i64 (v7+1)) (wrap .i64 (aB+d.c)) bJ d.a (Es (decide ((wrap .i64 (aB+d.c))>0)) (decide (bJ>0))) aE)) else (bif (decide (d.b =Int.ofNat 1)) then (.to (.h2 v5 v6 (wrap .i64 (v7+1)) aB (wrap .i64 (bJ+d.c)) d.a (Es (decide (aB>0)) (decide ((wrap .i64 (bJ+d.c))>0))) aE)) else .stuck)) else (bif (decide ((aE.length:Int)>0)) then (bif ((decide (0<=(wrap .i64 ((aE.length:Int) - 1))/\(wrap .i64 ((aE.length:Int) - 1))<(aE.length:Int)))&&true) then (bif (decide ((0+(Int.toNat (wrap .i64 ((aE.length:Int) - 1))))<aE.length)) then (bif ((rd aE (0+(Int.toNat (wrap .i64 ((aE.length:Int) - 1))))).b == bB) then (bif (decide (d.b =Int.ofNat 0)) then (.to (.h2 v5 v6 (wrap .i64 (v7+1)) (wrap .i64 (aB+d.c)) bJ d.a (Es (decide ((wrap .i64 (aB+d.c))>0)) (decide (bJ>0))) (aE.set (0+(Int.toNat (wrap .i64 ((aE.length:Int) - 1)))) (R2.mk (rd aE (0+(Int.toNat (wrap .i64 ((aE.length:Int) - 1))))).a d.a)))) else (bif (decide (d.b =Int.ofNat 1)) then (.to (.h2 v5 v6 (wrap .i64 (v7+1)) aB (wrap .i64 (bJ+d.c)) d.a (Es (decide (aB>0)) (decide ((wrap .i64 (bJ+d.c))>0))) (aE.set (0+(Int.toNat (wrap .i64 ((aE.length:Int) - 1)))) (R2.mk (rd aE (0+(Int.toNat (wrap .i64 ((aE.length:Int) - 1))))).a d.a)))) else .stuck)) else (bif (Nat.beq 2 2&&((decide (0+aE.length=aE.length))&&decide ((aE.length+1+1)*(16+1)<=Jm))) then (bif (decide (d.b =Int.ofNat 0)) then (.to (.h2 v5 v6 (wrap .i64 (v7+1)) (wrap .i64 (aB+d.c)) bJ d.a (Es (decide ((wrap .i64 (aB+d.c))>0)) (decide (bJ>0))) (aE++[(R2.mk bB d.a)]))) else (bif (decide (d.b =Int.ofNat 1)) then (.to (.h2 v5 v6 (wrap .i64 (v7+1)) aB (wrap .i64 (bJ+d.c)) d.a (Es (decide (aB>0)) (decide ((wrap .i64 (bJ+d.c))>0))) (aE++[(R2.mk bB d.a)]))) else .stuck)) else .stuck)) else .stuck) else .stuck) else (bif (Nat.beq 2 2&&((decide (0+aE.length=aE.length))&&decide ((aE.length+1+1)*(16+1)<=Jm))) then (bif (decide (d.b =Int.ofNat 0)) then (.to (.h2 v5 v6 (wrap .i64 (v7+1)) (wrap .i64 (aB+d.c)) bJ d.a (Es (decide ((wrap .i64 (aB+d.c))>0)) (decide (bJ>0))) (aE++[(R2.mk bB d.a)]))) else (bif (decide (d.b =Int.ofNat 1)) then (.to (.h2 v5 v6 (wrap .i64 (v7+1)) aB (wrap .i64 (bJ+d.c)) d.a (Es (decide (aB>0)) (decide ((wrap .i64 (bJ+d.c))>0))) (aE++[(R2.mk bB d.a)]))) else .stuck)) else .stuck)))) else .stuck) else .stuck) else (.ret [(dt aE),(.int .i64 0)]))
def YR (l0:zq):Yr H6:=(bif (decide ((l0.length:Int)>400)) then (.ret [.nils,(.int .i64 4)]) else (.to (.h0 0)))
theorem w7v (l0:zq): ∀s,Xx prog (Zy prog 145) (Nr l0) (Nr l0 s) (Jx l0 s)
 | .h0 v8=>let b:=fl ([]:zo) nn;(lb (fun k0=>(lo fun aL=>let a:=ww aL (tt k0 nn);(lb (fun k1=>(lb (fun k2=>let c:=tt k2 (tt k1 a);(lb (fun k3=>(lb (fun k4=>(lr 11 145 (pn 75) 1 17 [(2,.nils),(3,(ii 8))] (sl DP 79 [] (a7 [2,3]) a6 (CK 9 []) (tt k4 (tt k3 c))))) (fun k4=>(sl DP 154 [(236,3,Zz ([]:zo))] ⟨[8,2,3,4,5,6,7,9],[],Tz,Ty⟩ ⟨[(3,.grow 7 3)],[],[]⟩ (CK 8 (bl 2 2)) (pp b (tt k4 (tt k3 c))))))) (fun k3=>(sl DP 69 [] ⟨[],[],J5,J6⟩ a6 (CK 7 [false]) (tt k3 c))))) (fun k2=>let d:=tt k2 (tt k1 a);(lb (fun k3=>(lr 11 145 (pn 75) 1 17 [(2,.nils),(3,(ii 8))] (sl DP 79 [] (a7 [2,3]) a6 (CK 4 (bl 5 24)) (tt k3 d)))) (fun k3=>(sl DP 154 [(236,3,Zz ([]:zo))] ⟨[8,2,3,4,5,6,7,9],[],Tz,Ty⟩ ⟨[(3,.grow 7 3)],[],[]⟩ (CK 4 (bl 6 40)) (pp b (tt k3 d)))))))) (fun k1=>(lb (fun k2=>(lr 11 145 (pn 75) 1 17 [(2,.nils),(3,(ii 8))] (sl DP 79 [] (a7 [2,3]) a6 (bl 9 385) (tt k2 (tt k1 a))))) (fun k2=>(sl DP 154 [(236,3,Zz ([]:zo))] ⟨[8,2,3,4,5,6,7,9],[],Tz,Ty⟩ ⟨[(3,.grow 7 3)],[],[]⟩ (bl 10 641) (pp b (tt k2 (tt k1 a)))))))))) (fun k0=>(sl DP 98 [(236,3,Zz ([]:zo))] ⟨[6,0,1,2,3,4,5,7],[],Tz,Ty⟩ ⟨[(3,.grow 7 3)],[],[]⟩ (bl 3 4) (pp b (tt k0 nn)))))
 | .h1 v3 v17=>(lb (fun k0=>(lo fun o0=>(lo fun o1=>let h:=rd l0 (tn v17);let c:=v3++[(R3.mk h.a 0 1),(R3.mk h.b 0 (-1))];let d:=xL (v3.length+2) (v3++[(R3.mk (rd l0 (tn v17)).a 0 1),(R3.mk (rd l0 (tn v17)).b 0 (-1))]).length;(sl DP 36 [] ⟨[0,1,2,3,4,5,6,10],[],Tz,Ty⟩ ⟨[(3,.len c.length)],(DG 7 [.rowed 3 c.length (Zz c)]),[]⟩ [true] (pp d (pp d (pp (xS (v3.length+2) (Zf (Zz v3) 0 v3.length 3 [(ii (rd l0 (tn v17)).a),(ii 0),(ii 1),(ii (rd l0 (tn v17)).b),(ii 0),(ii (-1))]) (Zz (v3++[(R3.mk (rd l0 (tn v17)).a 0 1),(R3.mk (rd l0 (tn v17)).b 0 (-1))]))) (pp (pp (xF (Zf (Zz v3) 0 v3.length 3 [(ii (rd l0 (tn v17)).a),(ii 0),(ii 1),(ii (rd l0 (tn v17)).b),(ii 0),(ii (-1))])) nn) (ww o1 (ww o0 (tt k0 nn))))))))))) (fun k0=>(lo fun o0=>(lo fun o1=>(lo fun o2=>let e:=xL v3.length (Ch (CA v3)).length (by first | exact y0l _ | exact Us rfl);let f:=Ch (CA v3);let g:=xG (Nat.beq 3 3);(sl DP 92 [(180,2,Zz ([]:zq))] ⟨[9,1,2,4,5,6,3,7,10],[],GL,GK⟩ ⟨[(5,.len f.length)],(DG 6 [.cells [.grow 8 2],.rowed 3 f.length (Zz f),.keep]),[]⟩ (bl 4 2) (pp e (pp e (pp (xS v3.length (Zz (Ch (CA v3))) (Zz (Ch (CA v3)))) (pp (fl f (fl ([]:zq) nn)) (pp (pp g (pp g (pp (xG (Nat.beq 0 0)) (pp (pp (xG (decide (v3.length=v3.length))) (pp (xr v3) (xG (decide (v3.length<4611686018427387904))))) (xG (DN (CA v3))))))) (tt k0 nn))))))))))))
 | .h2 v5 v6 v7 aB bJ bB aH aE=>(lb (fun k0=>(lo fun aL=>(lo fun aT=>let o:=List.range 9;let p:=fl v5 (fl aE nn);let q:=ww aT (ww aL (tt k0 nn));(lb (fun k1=>(lb (fun k2=>(sl DP 62 [] ⟨o,[],GL,GK⟩ a6 (CK 5 (bl 3 0)) (pp p (ww k2 (tt k1 q))))) (fun k2=>(lb (fun k3=>(sl DP 62 [] ⟨o,[],GL,GK⟩ a6 (CK 6 (bl 4 2)) (pp p (ww k3 (tt k1 q))))) (fun k3=>trivial))))) (fun k1=>let d:=tt k1 q;(lb (fun k2=>(lb (fun k3=>(sl DP 62 [] ⟨o,[],GL,GK⟩ a6 (bl 8 17) (pp p (ww k3 (tt k2 d))))) (fun k3=>(lb (fun k4=>(sl DP 62 [] ⟨o,[],GL,GK⟩ a6 (bl 10 177) (pp p (ww k4 (tt k2 d))))) (fun k4=>trivial))))) (fun k2=>let D:=rd v5 (0+(tn v7));let u:=D;let h:=aE++[(R2.mk bB u.a)];let c:=DG 6 [.cells [.len h.length],.keep,.rowed 2 h.length (Zz h)];let w:=Zf (Zz aE) 0 aE.length 2 [(ii bB),(ii D.a)];let z:=aE++[(R2.mk bB D.a)];let C:=aE.length+1;(lb (fun k3=>(lo fun bT=>(lo fun cN=>let g:=ww cN (ww bT (tt k3 (tt k2 d)));(lb (fun k4=>let B:=tn (wr ((aE.length:Int) - 1));let r:=B;let b:=aE.set (0+r) (R2.mk (rd aE (0+r)).a u.a);let n:=DG 6 [.cells [.len b.length],.keep,.rowed 2 b.length (Zz b)];let s:=ww cN (ww bT (tt k4 g));let y:=aE.set (0+B) (R2.mk (rd aE (0+B)).a D.a);let A:=Xi (Zz aE) (0+B) 1 [(ii D.a)];(lb (fun k5=>let f:=xL aE.length y.length;(sl DP 81 [] ⟨o,[],GL,GK⟩ ⟨[],n,[]⟩ (bl 17 16353) (pp f (pp f (pp (xS aE.length A (Zz y)) (pp (fl v5 (pp (xF A) nn)) (ww k5 s))))))) (fun k5=>(lb (fun k6=>let e:=xL aE.length y.length;(sl DP 81 [] ⟨o,[],GL,GK⟩ ⟨[],n,[]⟩ (bl 19 98273) (pp e (pp e (pp (xS aE.length A (Zz y)) (pp (fl v5 (pp (xF A) nn)) (ww k6 s))))))) (fun k6=>trivial))))) (fun k4=>(lo fun cD=>let v:=ww cD (tt k4 g);(lb (fun k5=>let i:=xL C z.length;(sl DP 81 [] ⟨[0,1,2,3,4,5,6,7,12],[],GL,GK⟩ ⟨[],c,[]⟩ (bl 17 8161) (pp i (pp i (pp (xS C w (Zz z)) (pp (fl v5 (pp (xF w) nn)) (ww k5 v))))))) (fun k5=>(lb (fun k6=>let m:=xL C z.length;(sl DP 81 [] ⟨[0,1,2,3,4,5,6,7,12],[],GL,GK⟩ ⟨[],c,[]⟩ (bl 19 90081) (pp m (pp m (pp (xS C w (Zz z)) (pp (fl v5 (pp (xF w) nn)) (ww k6 v))))))) (fun k6=>trivial)))))))))) (fun k3=>(lo fun bT=>let t:=ww bT (tt k3 (tt k2 d));(lb (fun k4=>let j:=xL C z.length;(sl DP 81 [] ⟨[0,1,2,3,4,5,6,7,12],[],GL,GK⟩ ⟨[],c,[]⟩ (bl 17 1) (pp j (pp j (pp (xS C w (Zz z)) (pp (fl v5 (pp (xF w) nn)) (ww k4 t))))))) (fun k4=>(lb (fun k5=>let l:=xL C z.length;(sl DP 81 [] ⟨[0,1,2,3,4,5,6,7,12],[],GL,GK⟩ ⟨[],c,[]⟩ (bl 19 81921) (pp l (pp l (pp (xS C w (Zz z)) (pp (fl v5 (pp (xF w) nn)) (ww k5 t))))))) (fun k5=>trivial)))))))))))))) (fun k0=>(lr 11 3 (pn 767) 1 17 [(2,(dt aE)),(3,(ii 0))] (sl DP 19 [] ⟨[],[8],[some [2,3]],[]⟩ ⟨[(2,.frz aE.length aE.length (Zz aE) (Zz aE))],[],[]⟩ [false] (pp (xZ (Cv 2 2 0 aE.length aE.length (Zz aE)) aE.length (Zz aE)) (pp (xL aE.length aE.length) (pp (xS aE.length (Zz aE) (Zz aE)) (pp (fl aE nn) (tt k0 nn)))))))))
theorem x8h (l0:zq):Xx prog (Zy prog 145) (Nr l0) (Zp prog 145 [(dt l0)] true []) (YR l0):=(lb (fun k0=>(lr 11 145 (pn 37) 1 17 [(2,.nils),(3,(ii 4))] (sl DP 18 [] (a7 [2,3]) a6 [true] (tt k0 nn)))) (fun k0=>(sl DP 41 [] ⟨[],[],J5,J6⟩ a6 [false] (tt k0 nn))))
theorem v9h (l0:zq) (n:Nat) (vs:zy) (h:Yx (Jx l0) n (YR l0)=.ret vs):Vi prog (Zy prog 145) (Zp prog 145 [(dt l0)] true []) vs:=by have:=Zg (w7v l0) n _ (x8h l0);rwa [h] at this
def C5 (s:R2):Bool:=decide (s.a<s.b)&&(decide (s.a>= -1000000)&&decide (s.b<=1000000))
def DH (l:zq):zo:=l.flatMap fun s=>[⟨s.a,0,1⟩,⟨s.b,0,-1⟩]
def Ui (out:zq) (last:Int) (inn:Bool) (at':Int):zq:=
 bif !inn then out else bif last == at' then out else
 bif decide (0<out.length)&&((rd out (out.length - 1)).b == last) then out.set (out.length - 1) ⟨(rd out (out.length - 1)).a,at'⟩ else out++[⟨last,at'⟩]
def Gn :zo->Int->Int->Bool->zq->zq
 | [],_,_,_,out=>out
 | e::r,o,last,inn,out=>Gn r (o+e.c) e.a (decide (o+e.c>0)) (Ui out last inn e.a)
def Du (l:zq):zq:=Gn (Ch (DH l)) 0 0 false []
def Wp (l:zq):zq:=bif decide (400<l.length) then [] else bif l.all C5 then Du l else []
def u6i (l:zq):Int:=bif decide (400<l.length) then 4 else bif l.all C5 then 0 else 8
def y6g (l:zq):Bool:=true
def Tn (l:zq):zy:=bif decide (400<l.length) then [.nils,.int .i64 4] else bif l.all C5 then [.dat (Du l).length (Zz (Du l)),.int .i64 0] else [.nils,.int .i64 8]
theorem z5s (l:zq):(DH l).length =2*l.length:=by
 induction l with
 | nil=>rfl
 | cons r l ih=>grind [DH]
theorem z4a (out:zq) (last:Int) (inn:Bool) (a:Int):(Ui out last inn a).length <=out.length+1:=by
 grind [Ui]
theorem YS (e:R3) (r:zo) (o last:Int) (inn:Bool) (out:zq):Gn (e::r) o last inn out=Gn r (o+e.c) e.a (decide (o+e.c>0)) (Ui out last inn e.a):=rfl
theorem j5k {a:Int} (k:Nat) (h:a=(k:Int)):decide (a=Int.ofNat k)=true:=by grind
section
variable (l:zq) (hl:l.length<=400)
include hl
theorem u6f (L:zo) (hL:L.length<=800) (hE: ∀i,i<L.length->(rd L i).b =0/\((rd L i).c =1\/(rd L i).c = -1)): ∀(k i:Nat) (o last:Int) (inn:Bool) (out:zq),i+k=L.length-> -(i:Int)<=o->o<=i->out.length<=i->
  ∃n,Yx (Jx l) n (.to (.h2 L (L.length:Int) (i:Int) o 0 last inn out))=.ret [.dat (Gn (L.drop i) o last inn out).length (Zz (Gn (L.drop i) o last inn out)),.int .i64 0]
 | 0,i,o,last,inn,out,h,ho1,ho2,hout=>by
  have _uhl:=hl;refine ⟨1,?_⟩
  grind [Zx,Jx,Zd,Gn]
 | k +1,i,o,last,inn,out,h,ho1,ho2,hout=>by
  obtain ⟨hb,hc⟩:=hE i (by omega);have hcl:=z4a out last inn (rd L i).a;obtain ⟨n,hn⟩:=u6f L hL hE k (i+1) (o+(rd L i).c) (rd L i).a (decide (o+(rd L i).c >0)) (Ui out last inn (rd L i).a) (by omega) (by grind) (by grind) (by omega);refine ⟨n+1,?_⟩;rw [Yo (show i<L.length by omega),Zx];have hf: ∀b,Es b (decide ((0:Int)>0))=b:=fun b=>rfl;have hw:wrap .i64 (o+(rd L i).c)=o+(rd L i).c :=Zk (by grind);rw [YS];have hf': ∀b,Es b false=b:=fun b=>rfl;have hz:=j5k 0 hb;unfold Ui at hn ⊢;cases inn with
  | false=>simp only [Az,Ab] at hn ⊢;simp (disch:=omega) only [Jx,Az,hz,hw,hf,hf',Zt,Zr,Yq,Zk,Zu,Zj,Ah,Ai,Ab];exact hn
  | true=>
   simp only [Aw,Aa] at hn ⊢;rcases Xz (last == (rd L i).a) with q | q
   .rw [q] at hn ⊢;simp only [Ab] at hn ⊢;simp (disch:=omega) only [Jx,Aw,q,hz,hw,hf,hf',Zt,Zr,Yq,Zk,Zu,Zj,Ah,Ai,Ab,Aa];exact hn
   .rw [q] at hn ⊢;simp only [Aa] at hn ⊢;by_cases h0:0<out.length
    .rw [Af h0,Ak] at hn ⊢;rcases Xz ((rd out (out.length - 1)).b == last) with q2 | q2
     .rw [q2] at hn ⊢;simp only [Ab] at hn ⊢;simp (disch:=omega) only [Jx,Aw,q,q2,hz,hw,hf,hf',Zt,Ys,Zr,Yq,Zk,Zu,Zj,Yz,Ah,Ai,Ab,Aa];exact hn
     .rw [q2] at hn ⊢;simp only [Aa] at hn ⊢;simp (disch:=omega) only [Jx,Aw,q,q2,hz,hw,hf,hf',Zt,Ys,Zr,Yq,Ya,Zn,Yc,As,Zk,Zu,Zj,Yz,Ah,Ai,Ak,Ab,Aa];exact hn
    .rw [An h0,AW] at hn ⊢;simp only [Aa] at hn ⊢;simp (disch:=omega) only [Jx,Aw,q,hz,hw,hf,hf',Zt,Xg,Zr,Yq,Ya,Zn,Yc,As,Zk,Zu,Zj,Ah,Ai,Ak,Ab,Aa];exact hn
theorem v7p (h:l.all C5=true): ∀e∈DH l,Q8 e=true/\e.b=0/\(e.c=1\/e.c= -1):=by
 have _uhl:=hl;intro e he;obtain ⟨s,hs,h1⟩:=AM.1 he;have hv:=Au.1 h s hs;simp only [C5,Ac,Ao] at hv;simp only [AN,List.not_mem_nil,or_false] at h1;rcases h1 with rfl | rfl
 .exact ⟨Af (by grind),rfl,.inl rfl⟩
 .exact ⟨Af (by grind),rfl,.inr rfl⟩
theorem u6g (hv:l.all C5=true): ∀(k i:Nat) (acc:zo),i+k=l.length->acc=DH (l.take i)-> ∃n,Yx (Jx l) n (.to (.h1 acc (i:Int)))=.ret [.dat (Du l).length (Zz (Du l)),.int .i64 0]
 | 0,i,acc,h,ha=>by
  have e:acc=DH l:=by grind
  subst e;have hle:=z5s l;have eB:=v7p l hl hv;have hb:DN (DH l)=true:=Au.2 fun e he=>(eB e he).1;obtain ⟨hp,_⟩:=Qr (DH l) hb;have hpl:=hp.length_eq;obtain ⟨n,hn⟩:=u6f l hl (Ch (DH l)) (by omega) (fun i hi=>by
   grind [Xm]) (Ch (DH l)).length 0 0 0 false [] (Ah _) (by omega) (by omega) (Ay _)
  refine ⟨n+1,?_⟩;rw [Zx];simp (disch:=omega) only [Jx,Za,Zm,hb,Ym,Yq,Ya,As,Ab,Aa];rw [<-hpl];simp only [EB,AO] at hn;exact hn
 | k+1,i,acc,h,ha=>by
  have hle:=z5s (l.take i);have eH:acc.length<=2*i:=by grind
  obtain ⟨n,hn⟩:=u6g hv k (i+1) (acc++DH [rd l i]) (by omega) (by
   rw [ha,AX]
   grind [Xm,DH])
  refine ⟨n+1,?_⟩;rw [Zx];simp (disch:=omega) only [Jx,Zt,Zr,Ye,Ya,Zn,Yc,As,Zk,Zu,Zj,Ah,Ai,Ak,Ab];exact hn
theorem u6h : ∀(k i:Nat),i+k=l.length->(∀s∈l.take i,C5 s=true)-> ∃n,Yx (Jx l) n (.to (.h0 (i:Int)))=.ret (bif l.all C5 then [.dat (Du l).length (Zz (Du l)),.int .i64 0] else [.nils,.int .i64 8])
 | 0,i,h,ht=>by
  have hv:l.all C5=true:=Au.2 fun s hs=>ht s (by grind);obtain ⟨n,hn⟩:=u6g l hl hv l.length 0 [] (Ah _) rfl;refine ⟨n+1,?_⟩
  grind [Zx,Jx]
 | k+1,i,h,ht=>by
  have hi:i<l.length:=by omega
  rcases Xz (C5 (rd l i)) with q | q
  .obtain ⟨n,hn⟩:=u6h k (i+1) (by omega) (fun s hs=>by
    rw [AX] at hs
    grind [Xm])
   refine ⟨n+1,?_⟩
   grind [Zx,C5,Jx,Zk]
  .have hv:l.all C5=false:=A5.2 fun e=>by
    grind [Xm]
   refine ⟨1,?_⟩;rw [Zx,hv,Aa];unfold C5 at q;rcases Xz (decide ((rd l i).a <(rd l i).b)) with q1 | q1 <;> rcases Xz (decide ((rd l i).a >= -1000000)) with q2 | q2 <;> rcases Xz (decide ((rd l i).b <=1000000)) with q3 | q3 <;>
    rw [q1,q2,q3] at q <;> first
    | (exfalso;revert q;decide)
    | simp (disch:=omega) only [Jx,q1,q2,q3,Zt,ET,Zr,Zk,Zu,Zj,Aw,Az,Ai,Ab,Aa,Zd]
end
theorem j1u (l:zq): ∃n,Yx (Jx l) n (YR l)=.ret (Tn l):=by
 unfold YR Tn;by_cases h:400<l.length
 .refine ⟨0,?_⟩;rw [Af h,Ys (show (l.length:Int)>400 by omega)];rfl
 .obtain ⟨n,hn⟩:=u6h l (by omega) l.length 0 (Ah _) (fun s hs=>by simp at hs)
  grind
def Pj :zy->Option (B9×Bool)
 | [a1]=>match CY R2 a1 with
  | some (L1,g1,n1)=>some (.tup [.dat (Wp L1).length (Zz (Wp L1)),.int .i64 (u6i L1)],CX R2 n1 g1&&y6g L1)
  | _=>none
 | _=>none
theorem j7e {S:CB} (hS:Zw prog S):Zw prog (S.with x5u Pj):=by
 refine E4 hS (by kernel_rfl) fun args v h=> ?_;unfold Pj at h;split at h
 .rename_i a1;split at h
  .rename_i L1 g1 n1 e1;simp only [Ad,Ae,Ac] at h;obtain ⟨rfl,ho1,hw⟩:=h;obtain ⟨N,hN⟩:=j1u L1;refine ⟨_,Tn L1,(.cons (Yi e1 ho1) .nil),?_,v9h L1 N _ hN,3,?_⟩
   .unfold Wp u6i Tn;cases decide (400<L1.length) <;> simp only [Ab,Aa]
    .cases L1.all C5 <;> simp only [Ab,Aa]
     .exact fun ρ u hu=>Qn (.cons (Mt R2) (DE.refl _)) ρ u hu
     .exact fun ρ u hu=>hu
    .exact fun ρ u hu=>Qn (.cons (Mt R2) (DE.refl _)) ρ u hu
   .unfold Tn;cases decide (400<L1.length) <;> simp only [Ab,Aa]
    .cases L1.all C5 <;> rfl
    .rfl
  .cases h
 .cases h
def T6 :CB:=T5.with x5u Pj
theorem Kr :Zw prog T6:=j7e DP
theorem Sr {γ:Type} (a b:Bool) (x y:γ):(bif a&&b then x else y)=bif a then (bif b then x else y) else y:=by grind
theorem Re {γ:Type} (a:Bool) (x y:γ):(bif !a then x else y)=bif a then y else x:=by grind
structure CM (α β:Type) where
 lo:α->Int
 hi:α->Int
 pr:α->β
 put:Int->Int->β->α
 ext:Int->α->α
 mak:List β->List β
 same:List β->List β->Bool
structure Sw (α β:Type) where
 out:List α
 last:List β
 first:Nat
 fin:Int
def Ki (zs:zp):zp:=compact (Wz zs)
theorem Su (zs:zp):MQ (Wz zs)=(Ki zs).length :=rfl
theorem Ky (zs:zp):(Wz zs).length =zs.length:=List.length_mergeSort zs
theorem x3p (zs:zp):(Ki zs).length <=zs.length:=by have:=compact_length_le (Wz zs);rw [Ky] at this;exact this
theorem Ga (zs:zp) (i:Nat) (h:i<(Ki zs).length):rd (Wf (Wz zs)) i=rd (Ki zs) i:=by
 change i<(compact (Wz zs)).length at h;show rd (compact (Wz zs)++_) i=rd (compact (Wz zs)) i
 grind [Xm]
theorem Sh (zs:zp):Yy zs.length (CS (Zz (Wz zs)))=Wz zs:=by
 grind [Qm,Ky]
namespace CM
variable {α β:Type} (D:CM α β) (l:List α)
def ends :zp:=l.flatMap fun r=>[D.lo r,D.hi r]
def cuts :zp:=Ki (D.ends l)
def inn (x:Int):List β:=(l.filter fun r=>decide (D.lo r<=x)&&decide (x<D.hi r)).map D.pr
def sec (x:Int):List β:=D.mak (D.inn l x)
def grow (out:List α) (k:Nat) (x:Int):List α:=out.take k++(out.drop k).map (D.ext x)
def one (x x':Int) (s:Sw α β):Sw α β:=
 bif decide (0<(D.sec l x).length)&&((s.fin == x)&&D.same s.last (D.sec l x)) then ⟨D.grow s.out s.first x',s.last,s.first,x'⟩
 else ⟨s.out++(D.sec l x).map (D.put x x'),D.sec l x,s.out.length,x'⟩
def go :Nat->Nat->Sw α β->Sw α β
 | 0,_,s=>s
 | k+1,i,s=>go k (i+1) (D.one l (rd (D.cuts l) i) (rd (D.cuts l) (i+1)) s)
def out :List α:=(D.go l ((D.cuts l).length - 1) 0 ⟨[],[],0,0⟩).out
theorem ends_length :(D.ends l).length =2*l.length:=by
 induction l with
 | nil=>rfl
 | cons r l ih=>show (_::_::D.ends l).length =_;grind
theorem cuts_length :(D.cuts l).length <=2*l.length:=by have:=x3p (D.ends l);rw [D.ends_length] at this;exact this
theorem ends_append (m:List α):D.ends (l++m)=D.ends l++D.ends m:=by simp [ends]
theorem inn_append (m:List α) (x:Int):D.inn (l++m) x=D.inn l x++D.inn m x:=by simp [inn]
theorem inn_length (x:Int):(D.inn l x).length <=l.length:=by grind [inn]
theorem inn_t (r:α) (x:Int) (h1:D.lo r<=x) (h2:x<D.hi r):D.inn [r] x=[D.pr r]:=by simp [inn,h1,h2]
theorem inn_f1 (r:α) (x:Int) (h1: ¬D.lo r<=x):D.inn [r] x=[]:=by simp [inn,h1]
theorem inn_f2 (r:α) (x:Int) (h1: ¬x<D.hi r):D.inn [r] x=[]:=by simp [inn,h1]
theorem grow_nil (out:List α) (k:Nat) (x:Int) (h:out.length<=k):D.grow out k x=out:=by unfold grow;rw [Av h,BN,AA,A3 h]
theorem grow_length (out:List α) (k:Nat) (x:Int):(D.grow out k x).length =out.length:=by unfold grow;simp;omega
theorem grow_set [Xa α] (out:List α) (j:Nat) (x:Int) (h:j<out.length):D.grow (out.set j (D.ext x (rd out j))) (j+1) x=D.grow out j x:=by
 unfold grow;rw [Yo h,A0];have e1:(out.set j (D.ext x (rd out j))).take (j+1)=out.take j++[D.ext x (rd out j)]:=by
  apply BJ;all_goals grind
 have e2:(out.set j (D.ext x (rd out j))).drop (j+1)=out.drop (j+1):=by rw [List.drop_set];grind
 grind
theorem one_length (x x':Int) (s:Sw α β):(D.one l x x' s).out.length <=s.out.length+(D.sec l x).length :=by
 grind [one,grow_length]
end CM
open Go.Proofs.Tryz
open Go.Proofs
inductive HZ where
def Nm (aF:Int) (aQ:Int) (aP:Int) (aO:Int):HZ->CI
 :=nofun
def x7w (aF:Int) (aQ:Int) (aP:Int) (aO:Int):HZ->Yr HZ
 :=nofun
def YT (aF:Int) (aQ:Int) (aP:Int) (aO:Int):Yr HZ:=(bif (decide (aF<aP)) then (bif (decide (aQ<aO)) then (bif (decide (aF>=(-1000000))) then (bif (decide (aF<=1000000)) then (bif (decide (aP>=(-1000000))) then (bif (decide (aP<=1000000)) then (bif (decide (aQ>=(-1000000))) then (bif (decide (aQ<=1000000)) then (bif (decide (aO>=(-1000000))) then (.ret [(.bool (decide (aO<=1000000)))]) else (.ret [(.bool false)])) else (.ret [(.bool false)])) else (.ret [(.bool false)])) else (.ret [(.bool false)])) else (.ret [(.bool false)])) else (.ret [(.bool false)])) else (.ret [(.bool false)])) else (.ret [(.bool false)])) else (.ret [(.bool false)]))
theorem w7l (aF:Int) (aQ:Int) (aP:Int) (aO:Int): ∀s,Xx prog (Zy prog 114) (Nm aF aQ aP aO) (Nm aF aQ aP aO s) (x7w aF aQ aP aO s)
 :=nofun
theorem x7x (aF:Int) (aQ:Int) (aP:Int) (aO:Int):Xx prog (Zy prog 114) (Nm aF aQ aP aO) (Zp prog 114 [(.agg [(.int .i64 aF),(.int .i64 aQ),(.int .i64 aP),(.int .i64 aO)])] true []) (YT aF aQ aP aO):=(lb (fun k0=>(lb (fun k1=>let c:=tt k1 (tt k0 nn);(lb (fun k2=>(lb (fun k3=>let a:=tt k3 (tt k2 c);(lb (fun k4=>(lb (fun k5=>let d:=tt k5 (tt k4 a);(lb (fun k6=>let b:=tt k6 d;(lb (fun k7=>(lb (fun k8=>(lr 35 3 (pn 767) 1 5 [(2,(.bool (decide (aO<=1000000))))] (sl Kr 101 [] (a7 [2]) a6 (CK 25 []) (tt k8 (tt k7 b))))) (fun k8=>(lr 35 3 (pn 767) 1 5 [(2,(.bool false))] (sl Kr 101 [] (a7 [2]) a6 (CK 23 (bl 2 0)) (tt k8 (tt k7 b))))))) (fun k7=>(lr 35 3 (pn 767) 1 5 [(2,(.bool false))] (sl Kr 86 [] (a7 [2]) a6 (CK 20 (bl 3 0)) (tt k7 b)))))) (fun k6=>(lr 35 3 (pn 767) 1 5 [(2,(.bool false))] (sl Kr 86 [] (a7 [2]) a6 (CK 18 (bl 5 0)) (tt k6 d)))))) (fun k5=>(lr 35 3 (pn 767) 1 5 [(2,(.bool false))] (sl Kr 71 [] (a7 [2]) a6 (CK 15 (bl 6 0)) (tt k5 (tt k4 a))))))) (fun k4=>(lr 35 3 (pn 767) 1 5 [(2,(.bool false))] (sl Kr 71 [] (a7 [2]) a6 (CK 13 (bl 8 0)) (tt k4 a)))))) (fun k3=>(lr 35 3 (pn 767) 1 5 [(2,(.bool false))] (sl Kr 56 [] (a7 [2]) a6 (CK 10 (bl 9 0)) (tt k3 (tt k2 c))))))) (fun k2=>(lr 35 3 (pn 767) 1 5 [(2,(.bool false))] (sl Kr 56 [] (a7 [2]) a6 (CK 8 (bl 11 0)) (tt k2 c)))))) (fun k1=>(lr 35 3 (pn 767) 1 5 [(2,(.bool false))] (sl Kr 41 [] (a7 [2]) a6 (CK 5 (bl 12 0)) (tt k1 (tt k0 nn))))))) (fun k0=>(lr 35 3 (pn 767) 1 5 [(2,(.bool false))] (sl Kr 41 [] (a7 [2]) a6 (bl 17 0) (tt k0 nn)))))
theorem v9c (aF:Int) (aQ:Int) (aP:Int) (aO:Int) (n:Nat) (vs:zy) (h:Yx (x7w aF aQ aP aO) n (YT aF aQ aP aO)=.ret vs):Vi prog (Zy prog 114) (Zp prog 114 [(.agg [(.int .i64 aF),(.int .i64 aQ),(.int .i64 aP),(.int .i64 aO)])] true []) vs:=by have:=Zg (w7l aF aQ aP aO) n _ (x7x aF aQ aP aO);rwa [h] at this
inductive IY where
 | h0 (v16:Int) (aB:zp)
 | h1 (v4:Int) (aW:zw) (bY:zq) (cA:Int) (cB:Int) (bH:Nat) (bL:zp)
 | h2 (v4:Int) (v38:Int) (aW:zw) (bY:zq) (cA:Int) (cB:Int) (bH:Nat) (bL:zp) (aE:Int) (cH:Int) (aU:zq)
 | h3 (v1:Int) (v2:Int) (v71:zq) (v72:Int) (v73:Int) (bX:zq) (aV:Int) (aC:zw) (bF:zq) (bE:Int) (bH:Nat) (bL:zp) (aE:zq)
 | h4 (v2:Int) (v8:Int) (cK:Int) (bX:zq) (aV:Int) (aC:zw) (bF:zq) (bE:Int) (bP:Int) (cC:Nat) (cJ:zp) (aU:zq)
def Oz (l0:zw):IY->CI
 | .h0 v16 aB=>⟨⟨34,0,true⟩,none,(Zq prog 144 (pn 19659) 0),none,(Zy prog 5),⟨Zs [(1,(.ptr 0 0)),(3,(.ptr 2 0)),(8,(.sl 1 0 1 (.un 1))),(9,(ii 1)),(10,(ii 0)),(14,(dt l0)),(15,(ii (l0.length:Int))),(16,(ii v16))],Xe [⟨[(.sl 1 0 1 (.un 1))],144,none⟩,⟨[(dt l0)],138,none⟩,⟨[(.sla 4 1 0 aB.length (.un 1))],93,none⟩,⟨[.nils,.nils,(ii 0),(ii 0)],184,none⟩,(rz aB 3 1)] 0,5,[],true⟩,[⟨⟨29,0,true⟩,(Wr prog 115 (pn 19) 2),(Zq prog 115 (pn 19) 1),none,(Zy prog 17),Zs [(2,.nils),(3,(ii 0)),(4,(.ptr 3 0)),(9,(.sl 1 0 1 (.un 1)))]⟩],.leaf⟩
 | .h1 v4 aW bY cA cB bH bL=>⟨⟨76,0,true⟩,none,(Zq prog 164 [1,0,0] 0),none,[],⟨Zs [(0,(.yld 0)),(1,(.ptr 2 0)),(2,(.ptr 4 0)),(4,(ii v4))],Cj [(1,⟨[(.sla 6 4 0 aW.length (.un 4)),(dt bY),(ii cA),(ii cB)],184,none⟩),(2,⟨[(.sla 3 1 0 bH (.un 1))],93,none⟩),(3,(rz bL 3 1)),(4,⟨[(.sl 5 0 1 (.un 1))],144,none⟩),(5,⟨[(dt l0)],138,none⟩),(6,(rz aW 155 4))],7,[],true⟩,[⟨⟨29,0,true⟩,none,(.inRangeFunc 0::(Zq prog 115 (pn 43) 1)),none,(Zy prog 17),Zs [(2,.nils),(3,(ii 0)),(4,(.ptr 1 0))]⟩],(Co [(0,⟨.ready,none,29,Zs [(4,(.ptr 1 0))],[11],(Wx prog 115 [1,1,0,1,0,0]),(Wx prog 115 [1,1,0,1,0,1])⟩)])⟩
 | .h2 v4 v38 aW bY cA cB bH bL aE cH aU=>⟨⟨76,0,true⟩,none,(Zq prog 164 (pn 629065) 0),none,[],⟨Zs [(0,(.yld 0)),(1,(.ptr 2 0)),(2,(.ptr 4 0)),(4,(ii v4)),(5,(.ptr 6 0)),(6,(ii 0)),(29,(.sl 5 0 1 (.un 1))),(30,(ii 1)),(31,(ii 0)),(36,(dt l0)),(37,(ii (l0.length:Int))),(38,(ii v38))],Cj [(1,⟨[(.sla 9 4 0 aW.length (.un 4)),(dt bY),(ii cA),(ii cB)],184,none⟩),(2,⟨[(.sla 3 1 0 bH (.un 1))],93,none⟩),(3,(rz bL 3 1)),(4,⟨[(.sl 5 0 1 (.un 1))],144,none⟩),(5,⟨[(dt l0)],138,none⟩),(6,⟨[(ii aE),(ii cH),(.sl 7 0 1 (.ex 1))],189,none⟩),(7,⟨[(.sla 8 2 0 aU.length (.un 2))],173,none⟩),(8,(rz aU 180 2)),(9,(rz aW 155 4))],10,[],true⟩,[⟨⟨29,0,true⟩,none,(.inRangeFunc 0::(Zq prog 115 (pn 43) 1)),none,(Zy prog 17),Zs [(2,.nils),(3,(ii 0)),(4,(.ptr 1 0))]⟩],(Co [(0,⟨.ready,none,29,Zs [(4,(.ptr 1 0))],[11],(Wx prog 115 [1,1,0,1,0,0]),(Wx prog 115 [1,1,0,1,0,1])⟩)])⟩
 | .h3 v1 v2 v71 v72 v73 bX aV aC bF bE bH bL aE=>⟨⟨94,0,true⟩,none,(Zq prog 127 (pn 39) 0),none,[],⟨Zs [(0,(.ptr 0 0)),(1,(ii v1)),(2,(ii v2)),(71,(dt v71)),(72,(ii v72)),(73,(ii v73))],Cj [(0,⟨[(.sla 7 4 0 aC.length (.un 4)),(dt bF),(ii bE),(ii v2)],184,none⟩),(2,⟨[(.sla 3 1 0 bH (.un 1))],93,none⟩),(3,(rz bL 3 1)),(4,⟨[(.sl 5 0 1 (.un 1))],144,none⟩),(5,⟨[(dt l0)],138,none⟩),(6,⟨[(dt aE)],173,none⟩),(7,(rz aC 155 4))],8,[],true⟩,[⟨⟨29,0,true⟩,(Wr prog 115 (pn 427) 5),(Zq prog 115 (pn 427) 1),(some 1),[],Zs [(4,(.ptr 0 0)),(21,(ii v1)),(23,(ii v2)),(24,(dt bX))]⟩,⟨⟨76,0,true⟩,(Wr prog 164 (pn 713) 2),(Zq prog 164 (pn 713) 1),none,[],Zs [(0,(.yld 1)),(1,(.ptr 2 0)),(2,(.ptr 4 0)),(4,(ii aV)),(72,(.yld 1)),(73,(.agg [(ii v1),(ii v2),(.sl 6 0 1 (.ex 1))]))]⟩,⟨⟨29,0,true⟩,none,(.inRangeFunc 1::(Zq prog 115 (pn 43) 1)),none,(Zy prog 17),Zs [(2,.nils),(3,(ii 0)),(4,(.ptr 0 0))]⟩],(Co [(1,⟨.busy,none,29,Zs [(4,(.ptr 0 0))],[11],(Wx prog 115 [1,1,0,1,0,0]),(Wx prog 115 [1,1,0,1,0,1])⟩)])⟩
 | .h4 v2 v8 cK bX aV aC bF bE bP cC cJ aU=>⟨⟨94,0,true⟩,none,(Zq prog 127 (pn 146) 0),none,[],⟨Zs [(0,(.ptr 0 0)),(2,(ii v2)),(8,(ii v8))],Cj [(0,⟨[(.sla 1 4 0 aC.length (.un 4)),(dt bF),(ii bE),(ii bP)],184,none⟩),(1,(rz aC 155 4)),(3,⟨[(.sla 4 1 0 cC (.un 1))],93,none⟩),(4,(rz cJ 3 1)),(5,⟨[(.sl 6 0 1 (.un 1))],144,none⟩),(6,⟨[(dt l0)],138,none⟩),(7,⟨[(dt aU)],173,none⟩)],8,[],true⟩,[⟨⟨29,0,true⟩,(Wr prog 115 (pn 427) 5),(Zq prog 115 (pn 427) 1),(some 2),[],Zs [(4,(.ptr 0 0)),(21,(ii cK)),(23,(ii v2)),(24,(dt bX))]⟩,⟨⟨76,0,true⟩,(Wr prog 164 (pn 713) 2),(Zq prog 164 (pn 713) 1),none,[],Zs [(0,(.yld 2)),(1,(.ptr 3 0)),(2,(.ptr 5 0)),(4,(ii aV)),(72,(.yld 2)),(73,(.agg [(ii cK),(ii v2),(.sl 7 0 1 (.ex 1))]))]⟩,⟨⟨29,0,true⟩,none,(.inRangeFunc 2::(Zq prog 115 (pn 43) 1)),none,(Zy prog 17),Zs [(2,.nils),(3,(ii 0)),(4,(.ptr 0 0))]⟩],(Co [(2,⟨.busy,none,29,Zs [(4,(.ptr 0 0))],[11],(Wx prog 115 [1,1,0,1,0,0]),(Wx prog 115 [1,1,0,1,0,1])⟩)])⟩
def MH :List (Option zr):=[some [1,3,8,9,10,14,15,16],some [2,3,4,9]]
def MJ :List (Option zr):=[]
def j5o :List (Option zr):=[some [0,1,2,4],some [2,3,4]]
def j5p :List (Option zr):=[some [4],none,none,none,none,none,none]
def u3p :List (Option zr):=[some [0,1,2,4,5,6,29,30,31,36,37,38],some [2,3,4]]
def u3r :List (Option zr):=[some [4],none,none,none,none,none,none,none,none,none]
def u3o :List (Option zr):=[some [0,1,2,71,72,73],some [4,21,23,24],some [0,1,2,4,72,73],some [2,3,4]]
def u3q :List (Option zr):=[none,some [4],none,none,none,none,none,none]
def MG :List (Option zr):=[some [0,2,8],some [4,21,23,24],some [0,1,2,4,72,73],some [2,3,4]]
def MI :List (Option zr):=[none,none,some [4],none,none,none,none,none]
def Wb (l0:zw):IY->Yr IY
 | .h0 v16 aB=>let b:=Yy aB.length (CS (Zz (Wz (Yy aB.length (CS (Zz aB))))));let d:=rd l0 v16.toNat;(bif (decide (v16<(l0.length:Int))) then (bif ((decide (0<=v16/\v16<(l0.length:Int)))&&true) then (bif (Nat.beq 1 1&&((decide (0+aB.length=aB.length))&&decide ((aB.length+2+1)*(8+1)<=Jm))) then (.to (.h0 (wrap .i64 (v16+1)) (aB++[d.a,d.c]))) else .stuck) else .stuck) else (bif (decide (aB.length<4611686018427387904)) then (bif (decide (aB.length=aB.length)) then (.to (.h1 1 ([]:zw) ([]:zq) 0 0 (MQ b) (Wf b))) else .stuck) else .stuck))
 | .h1 v4 aW bY cA cB bH bL=>(bif (decide (v4<((bH:Nat):Int))) then (bif ((decide (0<=(wrap .i64 (v4 - 1))/\(wrap .i64 (v4 - 1))<((bH:Nat):Int)))&&true) then (bif (decide ((0+(Int.toNat (wrap .i64 (v4 - 1))))<bL.length)) then (bif ((decide (0<=v4/\v4<((bH:Nat):Int)))&&true) then (bif (decide ((0+v4.toNat)<bL.length)) then (.to (.h2 v4 0 aW bY cA cB bH bL (rd bL (0+(Int.toNat (wrap .i64 (v4 - 1))))) (rd bL (0+v4.toNat)) ([]:zq))) else .stuck) else .stuck) else .stuck) else .stuck) else (bif (decide ((aW.length:Int)>400)) then (.ret [.nils,(.int .i64 4)]) else (.ret [(dt aW),(.int .i64 0)])))
 | .h2 v4 v38 aW bY cA cB bH bL aE cH aU=>let e:=Wp (CA aU);let f:=rd l0 v38.toNat;(bif (decide (v38<(l0.length:Int))) then (bif ((decide (0<=v38/\v38<(l0.length:Int)))&&true) then (bif (decide (f.a <=aE)) then (bif (decide (aE<f.c)) then (bif (Nat.beq 2 2&&((decide (0+aU.length=aU.length))&&decide ((aU.length+1+1)*(16+1)<=Jm))) then (.to (.h2 v4 (wrap .i64 (v38+1)) aW bY cA cB bH bL aE cH (aU++[(R2.mk f.b f.d)]))) else .stuck) else (.to (.h2 v4 (wrap .i64 (v38+1)) aW bY cA cB bH bL aE cH aU))) else (.to (.h2 v4 (wrap .i64 (v38+1)) aW bY cA cB bH bL aE cH aU))) else .stuck) else (bif (y6g (CA aU)) then (bif (decide (((e.length :Nat):Int)>0)) then (bif (cB == aE) then (bif (Uj (CA bY) (CA e)) then (bif (Qt (CA bY) (CA e)) then (.to (.h4 cH cA aE e v4 aW bY cA cB bH bL aU)) else (.to (.h3 aE cH e ((e.length :Nat):Int) 0 e v4 aW e (aW.length:Int) bH bL aU))) else .stuck) else (.to (.h3 aE cH e ((e.length :Nat):Int) 0 e v4 aW e (aW.length:Int) bH bL aU))) else (.to (.h3 aE cH e ((e.length :Nat):Int) 0 e v4 aW e (aW.length:Int) bH bL aU))) else .stuck))
 | .h3 v1 v2 v71 v72 v73 bX aV aC bF bE bH bL aE=>let c:=rd v71 v73.toNat;(bif (decide (v73<v72)) then (bif ((decide (0<=v73/\v73<(v71.length:Int)))&&true) then (bif (Nat.beq 4 4&&((decide (0+aC.length=aC.length))&&decide ((aC.length+1+1)*(32+1)<=Jm))) then (.to (.h3 v1 v2 v71 v72 (wrap .i64 (v73+1)) bX aV (aC++[(R4.mk v1 c.a v2 c.b)]) bF bE bH bL aE)) else .stuck) else .stuck) else (.to (.h1 (wrap .i64 (aV+1)) aC bF bE v2 bH bL)))
 | .h4 v2 v8 cK bX aV aC bF bE bP cC cJ aU=>let c:=rd aC (0+v8.toNat);(bif (decide (v8<(aC.length:Int))) then (bif ((decide (0<=v8/\v8<(aC.length:Int)))&&true) then (bif (decide ((0+v8.toNat)<aC.length)) then (.to (.h4 v2 (wrap .i64 (v8+1)) cK bX aV (aC.set (0+v8.toNat) (R4.mk c.a c.b v2 c.d)) bF bE bP cC cJ aU)) else .stuck) else .stuck) else (.to (.h1 (wrap .i64 (aV+1)) aC bF bE v2 cC cJ)))
def x2y (l0:zw):Yr IY:=(.to (.h0 0 ([]:zp)))
theorem v0m (l0:zw): ∀s,Xx prog (Zy prog 115) (Oz l0) (Oz l0 s) (Wb l0 s)
 | .h0 v16 aB=>(lb (fun k0=>(lo fun o0=>(lo fun o1=>let j:=rd l0 (tn v16);let d:=aB++[j.a,j.c];let e:=xL (aB.length+2) (aB++[(rd l0 (tn v16)).a,(rd l0 (tn v16)).c]).length;(sl Kr 32 [] ⟨[0,1,2,3,7],[],MH,MJ⟩ ⟨[],[.keep,.keep,.cells [.len d.length],.keep,.rowed 1 d.length (Zz d)],[]⟩ [true] (pp e (pp e (pp (xS (aB.length+2) (Zf (Zz aB) 0 aB.length 1 [(ii (rd l0 (tn v16)).a),(ii (rd l0 (tn v16)).c)]) (Zz (aB++[(rd l0 (tn v16)).a,(rd l0 (tn v16)).c]))) (pp (pp (xF (Zf (Zz aB) 0 aB.length 1 [(ii (rd l0 (tn v16)).a),(ii (rd l0 (tn v16)).c)])) nn) (ww o1 (ww o0 (tt k0 nn))))))))))) (fun k0=>(lo fun o0=>(lo fun o1=>let b:=Wf (Yy aB.length (CS (Zz (Wz (Yy aB.length (CS (Zz aB)))))));let f:=xG (Nat.beq 1 1);let g:=xG (decide (aB.length<4611686018427387904));let h:=xG (decide (aB.length=aB.length));let i:=xG (Nat.beq 0 0);(sl Kr 46 [(155,4,Zz ([]:zw))] ⟨[5,3,2,4,0,1,6],[],j5o,j5p⟩ ⟨[],[.keep,.cells [.grow 6 4,.list 0 (Zz ([]:zq)),.keep,.keep],.keep,.rowed 1 b.length (Zz b),.keep,.keep,.keep],[]⟩ (bl 2 0) (pp (xL aB.length (Wf (Yy aB.length (CS (Zz (Wz (Yy aB.length (CS (Zz aB)))))))).length (by first | exact S8 _ _ | exact Us rfl)) (pp (xS aB.length (Zz (Wf (Yy aB.length (CS (Zz (Wz (Yy aB.length (CS (Zz aB))))))))) (Zz (Wf (Yy aB.length (CS (Zz (Wz (Yy aB.length (CS (Zz aB)))))))))) (pp (fl b (fl ([]:zw) nn)) (pp (pp f (pp f (pp i (pp h (pp (xG (FB (Zz (Wz (Yy aB.length (CS (Zz aB))))))) g))))) (pp (pp f (pp f (pp i (pp h (pp (xG (FB (Zz aB))) g))))) (tt k0 nn)))))))))))
 | .h1 v4 aW bY cA cB bH bL=>(lb (fun k0=>(lo fun o0=>(lo fun o1=>(lo fun o2=>(lo fun o3=>(sl Kr 48 [(180,2,Zz ([]:zq))] ⟨[0,1,2,3,4,5,7,8,9,6],[],u3p,u3r⟩ ⟨[],(DG 7 [.cells [.grow 8 2],.keep,.keep]),[]⟩ (CK 3 []) (pp (fl bL (fl ([]:zq) (fl aW nn))) (ww o3 (ww o2 (ww o1 (ww o0 (tt k0 nn)))))))))))) (fun k0=>(lb (fun k1=>(lr 29 3 (pn 767) 1 17 [(2,.nils),(3,(ii 4))] (sl Kr 43 [] (a7 [2,3]) a6 (bl 2 2) (tt k1 (tt k0 nn))))) (fun k1=>(lr 29 3 (pn 767) 1 17 [(2,(dt aW)),(3,(ii 0))] (sl Kr 48 [] ⟨[],[6],[some [2,3]],[]⟩ ⟨[(2,.frz aW.length aW.length (Zz aW) (Zz aW))],[],[]⟩ (bl 2 0) (pp (xZ (Cv 4 4 0 aW.length aW.length (Zz aW)) aW.length (Zz aW)) (pp (xL aW.length aW.length) (pp (xS aW.length (Zz aW) (Zz aW)) (pp (fl aW nn) (tt k1 (tt k0 nn))))))))))))
 | .h2 v4 v38 aW bY cA cB bH bL aE cH aU=>(lb (fun k0=>(lo fun aL=>let g:=ww aL (tt k0 nn);let j:=fl bL (fl aU (fl aW nn));let p:=List.range 10;(lb (fun k1=>(lb (fun k2=>(lo fun o0=>let q:=rd l0 (tn v38);let o:=q;let a:=aU++[(R2.mk o.b o.d)];let t:=aU++[(R2.mk q.b q.d)];let u:=aU.length+1;let e:=xL u t.length;let r:=Zf (Zz aU) 0 aU.length 2 [(ii q.b),(ii q.d)];(sl Kr 39 [] ⟨[0,1,2,3,4,5,6,7,12,9],[],u3p,u3r⟩ ⟨[],(DG 7 [.cells [.len a.length],.rowed 2 a.length (Zz a),.keep]),[]⟩ (CK 7 []) (pp e (pp e (pp (xS u r (Zz t)) (pp (fl bL (pp (xF r) (fl aW nn))) (ww o0 (tt k2 (tt k1 g)))))))))) (fun k2=>(sl Kr 39 [] ⟨p,[],u3p,u3r⟩ a6 (CK 6 [false]) (pp j (tt k2 (tt k1 g))))))) (fun k1=>(sl Kr 39 [] ⟨p,[],u3p,u3r⟩ a6 (bl 7 1) (pp j (tt k1 g))))))) (fun k0=>let f:=xZ (Cv 2 2 0 aU.length aU.length (Zz aU)) aU.length (Zz aU);let i:=xS aU.length (Zz aU) (Zz aU);let l:=xL aU.length aU.length;let m:=fl aW (fl bL nn);(Ve (sl Kr (C':=⟨⟨29,0,true⟩,(Wr prog 115 (pn 299) 4),(Zq prog 115 (pn 299) 1),(some 0),[],⟨Zs [(4,(.ptr 1 0)),(5,(.ptr 3 0)),(16,(dt aU))],Cj [(1,⟨[(.sla 2 4 0 aW.length (.un 4)),(dt bY),(ii cA),(ii cB)],184,none⟩),(2,(rz aW 155 4)),(3,⟨[(ii aE),(ii cH),(.sl 4 0 1 (.ex 1))],189,none⟩),(4,⟨[(dt aU)],173,none⟩),(5,⟨[(.sla 6 1 0 bH (.un 1))],93,none⟩),(6,(rz bL 3 1)),(7,⟨[(.sl 8 0 1 (.un 1))],144,none⟩),(8,⟨[(dt l0)],138,none⟩)],9,[],true⟩,[⟨⟨76,0,true⟩,(Wr prog 164 (pn 713) 2),(Zq prog 164 (pn 713) 1),none,[],Zs [(0,(.yld 0)),(1,(.ptr 5 0)),(2,(.ptr 7 0)),(4,(ii v4)),(72,(.yld 0)),(73,(.agg [(ii aE),(ii cH),(.sl 4 0 1 (.ex 1))]))]⟩,⟨⟨29,0,true⟩,none,(.inRangeFunc 0::(Zq prog 115 (pn 43) 1)),none,(Zy prog 17),Zs [(2,.nils),(3,(ii 0)),(4,(.ptr 1 0))]⟩],(Co [(0,⟨.busy,none,29,Zs [(4,(.ptr 1 0))],[11],(Wx prog 115 [1,1,0,1,0,0]),(Wx prog 115 [1,1,0,1,0,1])⟩)])⟩) 37 [] ⟨[0,1,9,10,7,2,3,4,5],[8],[some [4,5,16],some [0,1,2,4,72,73],some [2,3,4]],[some [4],none,none,none,none,none,none,none,none]⟩ ⟨[(16,.frz aU.length aU.length (Zz aU) (Zz aU))],[.keep,.keep,.keep,.keep,.cells [.frz aU.length aU.length (Zz aU) (Zz aU)],.keep,.keep,.keep,.keep],[]⟩ (bl 2 0) (pp f (pp l (pp i (pp f (pp l (pp i (pp m (pp (fl aU nn) (tt k0 nn)))))))))) (lo fun aL=>let c:=pp (pp (xr aU) (xw aL)) nn;let h:=fl bL (fl aW nn);(lb (fun k1=>(lb (fun k2=>(lo fun bS=>let n:=tt k2 (tt k1 c);let s:=Wp (CA aU);(lb (fun k3=>(sl Kr 49 [] ⟨[1,2,0,5,6,7,8,4],[],MG,MI⟩ a6 (CK 13 []) (pp m (tt k3 (pp (pp (xr bY) (pp (xI R2 s.length (Zz s)) (xw bS))) n))))) (fun k3=>(sl Kr 69 [] ⟨[1,0,5,6,7,8,4,2],[],u3o,u3q⟩ a6 (CK 12 [false]) (pp h (tt k3 (pp (pp (xr bY) (pp (xI R2 s.length (Zz s)) (xw bS))) n)))))))) (fun k2=>(sl Kr 69 [] ⟨[1,0,5,6,7,8,4,2],[],u3o,u3q⟩ a6 (CK 6 (bl 7 0)) (pp h (tt k2 (tt k1 c))))))) (fun k1=>(sl Kr 69 [] ⟨[1,0,5,6,7,8,4,2],[],u3o,u3q⟩ a6 (bl 13 0) (pp h (tt k1 c)))))))))
 | .h3 v1 v2 v71 v72 v73 bX aV aC bF bE bH bL aE=>(lb (fun k0=>(lo fun o0=>(lo fun o1=>let f:=rd v71 (tn v73);let e:=f;let c:=aC++[(R4.mk v1 e.a v2 e.b)];let h:=aC++[(R4.mk v1 f.a v2 f.b)];let i:=aC.length+1;let d:=xL i h.length;let g:=Zf (Zz aC) 0 aC.length 4 [(ii v1),(ii f.a),(ii v2),(ii f.b)];(sl Kr 23 [] ⟨[0,1,2,3,4,5,6,10],[],u3o,u3q⟩ ⟨[],[.cells [.len c.length,.keep,.keep,.keep],.keep,.keep,.keep,.keep,.keep,.keep,.rowed 4 c.length (Zz c)],[]⟩ [true] (pp d (pp d (pp (xS i g (Zz h)) (pp (fl bL (pp (xF g) nn)) (ww o1 (ww o0 (tt k0 nn))))))))))) (fun k0=>(sl Kr 22 [] ⟨[1,0,2,3,4,5,7],[],j5o,j5p⟩ a6 (bl 2 0) (pp (fl bL (fl aC nn)) (tt k0 nn)))))
 | .h4 v2 v8 cK bX aV aC bF bE bP cC cJ aU=>(lb (fun k0=>(lo fun o0=>(lo fun o1=>let g:=rd aC (0+(tn v8));let f:=g;let c:=aC.set (0+(tn v8)) (R4.mk f.a f.b v2 f.d);let h:=aC.set (0+(tn v8)) (R4.mk g.a g.b v2 g.d);let e:=xL aC.length h.length;let i:=Xi (Zz aC) (0+(tn v8)) 2 [(ii v2)];(sl Kr 33 [] ⟨(List.range 8),[],MG,MI⟩ ⟨[],[.cells [.len c.length,.keep,.keep,.keep],.rowed 4 c.length (Zz c),.keep,.keep,.keep,.keep,.keep,.keep],[]⟩ [true] (pp e (pp e (pp (xS aC.length i (Zz h)) (pp (pp (xF i) (fl cJ nn)) (ww o1 (ww o0 (tt k0 nn))))))))))) (fun k0=>(sl Kr 36 [] ⟨[2,0,3,4,5,6,1],[],j5o,j5p⟩ a6 (bl 2 0) (pp (fl cJ (fl aC nn)) (tt k0 nn)))))
theorem w1r (l0:zw):Xx prog (Zy prog 115) (Oz l0) (Zp prog 115 [(dt l0)] true []) (x2y l0):=(sl Kr 56 [(3,1,Zz ([]:zp))] ⟨[2,1,3,0,4],[],MH,MJ⟩ ⟨[],[.keep,.keep,.cells [.grow 4 1],.keep,.keep],[]⟩ [true] (pp (fl ([]:zp) nn) nn))
theorem u3n (l0:zw) (n:Nat) (vs:zy) (h:Yx (Wb l0) n (x2y l0)=.ret vs):Vi prog (Zy prog 115) (Zp prog 115 [(dt l0)] true []) vs:=by have:=Zg (v0m l0) n _ (w1r l0);rwa [h] at this
end Go.Am
end
