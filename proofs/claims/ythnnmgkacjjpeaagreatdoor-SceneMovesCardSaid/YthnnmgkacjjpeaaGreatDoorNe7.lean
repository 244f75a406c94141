/- A part of a proof: several texts in one. -/
import Derived.Test.YthnnmgkacjjpeaaGreatDoorNe6
import Derived.ChangeArms
import Derived.WideShapes
import Derived.ChangeShapes
set_option maxRecDepth 1000000
set_option maxHeartbeats 8000000
set_option linter.unusedVariables false
set_option linter.unusedSimpArgs false
noncomputable section
namespace Go.Am
open IntKind (wrap)
open Go.Proofs.Tryz
open Go.Proofs
abbrev Md (l0:zr) (v21:Int):=(Wq (CB (rd l0 (tn v21)).s) (Yf (CB l0) v21).a (Yf (CB l0) v21).b (Yf (CB l0) v21).c (Yf (CB l0) v21).d)
abbrev RQ (l0:zr):=(Wq (CB (rd l0 0).s) (Yf (CB l0) 0).a (Yf (CB l0) 0).b (Yf (CB l0) 0).c (Yf (CB l0) 0).d)
def x8s :=(Zk prog 29 (pn 607) 0)
abbrev v3d (l0:zr) (x1:Int):=(Wq (CB (rd l0 (tn x1)).s) (Wa (CB l0) x1).a (Wa (CB l0) x1).b (Wa (CB l0) x1).c (Wa (CB l0) x1).d)
inductive IP where
def OE (l0:zr) (x1:Int):IP->CJ
 :=nofun
def w1e (l0:zr) (x1:Int):IP->Xk IP
 :=nofun
def XK (l0:zr) (x1:Int):Xk IP:=(bif (Jb (CB l0) x1) then (bif ((Ea (CB l0) x1) != 0) then (.ret [.nils,(.int .i64 (Ea (CB l0) x1))]) else (bif ((decide (0<=x1/\x1<(l0.length:Int)))&&true) then (bif (Jc (CB (rd l0 x1.toNat).s) (Wa (CB l0) x1).a (Wa (CB l0) x1).b (Wa (CB l0) x1).c (Wa (CB l0) x1).d) then (.ret [(.dat (Wq (CB (rd l0 x1.toNat).s) (Wa (CB l0) x1).a (Wa (CB l0) x1).b (Wa (CB l0) x1).c (Wa (CB l0) x1).d).length (Zz (Wq (CB (rd l0 x1.toNat).s) (Wa (CB l0) x1).a (Wa (CB l0) x1).b (Wa (CB l0) x1).c (Wa (CB l0) x1).d))),(.int .i64 (Vo (CB (rd l0 x1.toNat).s) (Wa (CB l0) x1).a (Wa (CB l0) x1).b (Wa (CB l0) x1).c (Wa (CB l0) x1).d))]) else .stuck) else .stuck)) else .stuck)
theorem w9z (l0:zr) (x1:Int): ∀s,Xh prog (Zy prog 26) (OE l0 x1) (OE l0 x1 s) (w1e l0 x1 s)
 :=nofun
theorem w1f (l0:zr) (x1:Int):Xh prog (Zy prog 26) (OE l0 x1) (Zb prog 26 [(dt l0),(.int .i64 x1)] true []) (XK l0 x1):=(lo fun cA=>let f:=pp (pp (xr l0) (xw cA)) nn;(lb (fun k0=>(lr 26 26 (pn 75) 1 17 [(4,.nils),(5,(ii (Ea (CB l0) x1)))] (sl Ut 30 [] (b8 [4,5]) b7 [true] (tt k0 f)))) (fun k0=>(lo fun o0=>(lo fun o1=>let e:=Wa (CB l0) x1;let g:=rd l0 (tn x1);(lr 26 3 (pn 191) 1 17 [(4,(.dat (v3d l0 x1).length (Zz (v3d l0 x1)))),(5,(ii (Vo (CB g.s) e.a e.b e.c e.d)))] (sl Ut 27 [] (b8 [4,5]) b7 [false] (pp (pp (xI R6 g.s.length (Zz g.s)) (xw o1)) (ww o0 (tt k0 f))))))))))
theorem u3q (l0:zr) (x1:Int) (n:Nat) (vs:zy) (h:Yj (w1e l0 x1) n (XK l0 x1)=.ret vs):Ji prog (Zy prog 26) (Zb prog 26 [(dt l0),(.int .i64 x1)] true []) vs:=by have:=Zf (w9z l0 x1) n _ (w1f l0 x1);rwa [h] at this
inductive H4 where
 | h0
 | h1 (v5:List zx) (v21:Int)
 | h2
 | h3 (v51:List zx) (v52:Int)
 | h4 (v10:zx) (v51:List zx) (v52:Int) (v53:Int)
def NC (l0:zr):H4->CJ
 | .h0 =>⟨⟨68,0,true⟩,none,(Zk prog 29 (pn 151) 0),none,(Zy prog 10),⟨Yy [(0,(dt l0)),(5,.nils),(20,(ii (l0.length:Int))),(21,(ii 0))],Wf [] 0,0,[],true⟩,[],.leaf⟩
 | .h1 v5 v21=>⟨⟨68,0,true⟩,none,(Zk prog 29 (pn 151) 0),none,(Zy prog 10),⟨Yy [(0,(dt l0)),(5,(.sla 0 1 0 v5.length (.un 1))),(20,(ii (l0.length:Int))),(21,(ii v21))],Wf [(rz v5 46 1)] 0,1,[],true⟩,[],.leaf⟩
 | .h2 =>⟨⟨68,0,true⟩,none,x8s,none,(Zy prog 10),⟨Yy [(10,.nils),(51,.nils),(52,(ii 0)),(53,(ii 0))],Wf [] 0,0,[],true⟩,[],.leaf⟩
 | .h3 v51 v52=>⟨⟨68,0,true⟩,none,x8s,none,(Zy prog 10),⟨Yy [(10,.nils),(51,(.sla 0 1 0 v51.length (.un 1))),(52,(ii v52)),(53,(ii 0))],Wf [(rz v51 46 1)] 0,1,[],true⟩,[],.leaf⟩
 | .h4 v10 v51 v52 v53=>⟨⟨68,0,true⟩,none,x8s,none,(Zy prog 10),⟨Yy [(10,(dt v10)),(51,(.sla 0 1 0 v51.length (.un 1))),(52,(ii v52)),(53,(ii v53))],Wf [(rz v51 46 1)] 0,1,[],true⟩,[],.leaf⟩
def TY :List (Option zt):=[some [0,5,20,21]]
def Tb :List (Option zt):=[]
def JU :List (Option zt):=[some [0,5,20,21]]
def JW :List (Option zt):=[]
def TX :List (Option zt):=[some [10,51,52,53]]
def Ta :List (Option zt):=[]
def TW :List (Option zt):=[some [10,51,52,53]]
def T0 :List (Option zt):=[]
def JT :List (Option zt):=[some [10,51,52,53]]
def JV :List (Option zt):=[]
def Ux (l0:zr):H4->Xk H4
 | .h0 =>let e:=Yf (CB l0) 0;let f:=CB (rd l0 0).s;let g:=Vo f e.a e.b e.c e.d;(bif (decide (0<(l0.length:Int))) then (bif (Vb (CB l0) 0) then (bif ((Qw (CB l0) 0) != 0) then (.ret [.nils,(.int .i64 (Qw (CB l0) 0))]) else (bif ((decide ((0:Int)<=0/\0<(l0.length:Int)))&&true) then (bif (Jc f e.a e.b e.c e.d) then (bif (g != 0) then (.ret [.nils,(.int .i64 g)]) else (.to (.h1 ([(Wq f e.a e.b e.c e.d)]:List zx) 1))) else .stuck) else .stuck)) else .stuck) else (.to (.h2)))
 | .h1 v5 v21=>let e:=Yf (CB l0) v21;let f:=CB (rd l0 v21.toNat).s;let g:=Vo f e.a e.b e.c e.d;let h:=Qw (CB l0) v21;(bif (decide (v21<(l0.length:Int))) then (bif (Vb (CB l0) v21) then (bif (h != 0) then (.ret [.nils,(.int .i64 h)]) else (bif ((decide (0<=v21/\v21<(l0.length:Int)))&&true) then (bif (Jc f e.a e.b e.c e.d) then (bif (g != 0) then (.ret [.nils,(.int .i64 g)]) else (bif (Nat.beq 1 1&&((decide (0+v5.length=v5.length))&&decide ((v5.length+1+1)*(24+1)<=Vg))) then (.to (.h1 (v5++[(Wq f e.a e.b e.c e.d)]) (wrap .i64 (v21+1)))) else .stuck)) else .stuck) else .stuck)) else .stuck) else (.to (.h3 v5 (v5.length:Int))))
 | .h2 =>(.ret [.nils,(.int .i64 0)])
 | .h3 v51 v52=>let a:=CB (rd v51 0);(bif (decide (0<v52)) then (bif ((decide ((0:Int)<=0/\0<(v51.length:Int)))&&true) then (bif (decide (0<v51.length)) then (bif (x5l ([]:zx) a) then (bif ((R5 ([]:zx) a) != 0) then (.ret [.nils,(.int .i64 (R5 ([]:zx) a))]) else (.to (.h4 (u7n ([]:zx) a) v51 v52 1))) else .stuck) else .stuck) else .stuck) else (.ret [.nils,(.int .i64 0)]))
 | .h4 v10 v51 v52 v53=>let a:=CB (rd v51 (0+v53.toNat));let b:=R5 (CB v10) a;(bif (decide (v53<v52)) then (bif ((decide (0<=v53/\v53<(v51.length:Int)))&&true) then (bif (decide ((0+v53.toNat)<v51.length)) then (bif (x5l (CB v10) a) then (bif (b != 0) then (.ret [.nils,(.int .i64 b)]) else (.to (.h4 (u7n (CB v10) a) v51 v52 (wrap .i64 (v53+1))))) else .stuck) else .stuck) else .stuck) else (.ret [(dt v10),(.int .i64 0)]))
def YD (l0:zr):Xk H4:=(bif (Yt (CB l0)) then (bif ((Ki (CB l0)) != 0) then (.ret [.nils,(.int .i64 (Ki (CB l0)))]) else (.to (.h0))) else .stuck)
theorem w7s (l0:zr): ∀s,Xh prog (Zy prog 29) (NC l0) (NC l0 s) (Ux l0 s)
 | .h0 =>(lb (fun k0=>(lo fun aK=>let e:=pp (pp (xr l0) (xw aK)) (tt k0 nn);(lb (fun k1=>(lr 68 29 (pn 154007) 1 10 [(2,.nils),(3,(ii (Qw (CB l0) 0)))] (sl Ut 39 [] (b8 [2,3]) b7 (bl 2 3) (tt k1 e)))) (fun k1=>(lo fun bS=>(lo fun dS=>let g:=ww bS (tt k1 e);let i:=Zz (rd l0 0).s;(lb (fun k2=>let f:=Yf (CB l0) 0;(lr 68 29 (pn 620951) 1 10 [(2,.nils),(3,(ii (Vo (CB (rd l0 0).s) f.a f.b f.c f.d)))] (sl Ut 49 [] (b8 [2,3]) b7 (bl 3 5) (tt k2 (pp (pp (xI R6 (rd l0 0).s.length i) (xw dS)) g))))) (fun k2=>let h:=Zz ([(RQ l0)]:List zx);(sl Ut 57 [] ⟨[2],[],JU,JW⟩ ⟨[(5,.grow 0 1)],[.rowed 1 ([(RQ l0)]:List zx).length h],[]⟩ (bl 3 1) (pp (xG (YZ [(.dat (RQ l0).length (Zz (RQ l0)))] 1 ([(RQ l0)]:List zx).length h)) (tt k2 (pp (pp (xI R6 (rd l0 0).s.length i) (xw dS)) g)))))))))))) (fun k0=>(sl Ut 20 [] ⟨[],[],TX,Ta⟩ b7 [false] (tt k0 nn))))
 | .h1 v5 v21=>(lb (fun k0=>(lo fun aK=>let e:=pp (pp (xr l0) (xw aK)) (tt k0 nn);(lb (fun k1=>(lr 68 29 (pn 154007) 1 10 [(2,.nils),(3,(ii (Qw (CB l0) v21)))] (sl Ut 39 [] (b8 [2,3]) b7 (bl 2 3) (tt k1 e)))) (fun k1=>(lo fun bS=>(lo fun dS=>let i:=ww bS (tt k1 e);let l:=rd l0 (tn v21);(lb (fun k2=>let f:=Yf (CB l0) v21;(lr 68 29 (pn 620951) 1 10 [(2,.nils),(3,(ii (Vo (CB l.s) f.a f.b f.c f.d)))] (sl Ut 49 [] (b8 [2,3]) b7 (bl 3 5) (tt k2 (pp (pp (xI R6 l.s.length (Zz l.s)) (xw dS)) i))))) (fun k2=>(lo fun o0=>let m:=Md l0 v21;let n:=v5.length+1;let g:=xL n (v5++[m]).length;let h:=v5++[m];let j:=Zr (Zz v5) 0 v5.length 1 [(.dat m.length (Zz m))];(sl Ut 57 [] ⟨[3],[],JU,JW⟩ ⟨[(5,.len h.length)],[.rowed 1 h.length (Zz h)],[]⟩ (bl 3 1) (pp g (pp g (pp (xS n j (Zz (v5++[m]))) (pp (pp (xF j) nn) (ww o0 (tt k2 (pp (pp (xI R6 l.s.length (Zz l.s)) (xw dS)) i))))))))))))))))) (fun k0=>(sl Ut 20 [] ⟨[0],[],TW,T0⟩ b7 [false] (pp (fl v5 nn) (tt k0 nn)))))
 | .h2 =>(lr 68 3 (pn 191) 1 10 [(2,.nils),(3,(ii 0))] (sl Ut 13 [] (b8 [2,3]) b7 [false] nn))
 | .h3 v51 v52=>(lb (fun k0=>(lo fun aK=>(lo fun bH=>(lo fun cY=>let a:=ww bH (ww aK (tt k0 nn));let b:=Zz (rd v51 0);(lb (fun k1=>(lr 68 29 (pn 648799) 1 10 [(2,.nils),(3,(ii (R5 ([]:zx) (CB (rd v51 0)))))] (sl Ut 42 [] (b8 [2,3]) b7 (bl 2 3) (tt k1 (pp (pp (xI R6 0 (fun _=>[])) (pp (xI R6 (rd v51 0).length b) (xw cY))) a))))) (fun k1=>(sl Ut 43 [] ⟨[0],[],JT,JV⟩ b7 (bl 2 1) (pp (fl v51 nn) (tt k1 (pp (pp (xI R6 0 (fun _=>[])) (pp (xI R6 (rd v51 0).length b) (xw cY))) a)))))))))) (fun k0=>(lr 68 3 (pn 191) 1 10 [(2,.nils),(3,(ii 0))] (sl Ut 13 [] (b8 [2,3]) b7 [false] (tt k0 nn)))))
 | .h4 v10 v51 v52 v53=>(lb (fun k0=>(lo fun aK=>(lo fun bH=>(lo fun cY=>let a:=ww bH (ww aK (tt k0 nn));let b:=rd v51 (0+(tn v53));(lb (fun k1=>(lr 68 29 (pn 648799) 1 10 [(2,.nils),(3,(ii (R5 (CB v10) (CB b))))] (sl Ut 42 [] (b8 [2,3]) b7 (bl 2 3) (tt k1 (pp (pp (xr v10) (pp (xI R6 b.length (Zz b)) (xw cY))) a))))) (fun k1=>(sl Ut 43 [] ⟨[0],[],JT,JV⟩ b7 (bl 2 1) (pp (fl v51 nn) (tt k1 (pp (pp (xr v10) (pp (xI R6 b.length (Zz b)) (xw cY))) a)))))))))) (fun k0=>(lr 68 3 (pn 191) 1 10 [(2,(dt v10)),(3,(ii 0))] (sl Ut 13 [] (b8 [2,3]) b7 [false] (tt k0 nn)))))
theorem x8h (l0:zr):Xh prog (Zy prog 29) (NC l0) (Zb prog 29 [(dt l0)] true []) (YD l0):=(lo fun cA=>let a:=pp (pp (xr l0) (xw cA)) nn;(lb (fun k0=>(lr 68 29 (pn 77) 1 10 [(2,.nils),(3,(ii (Ki (CB l0))))] (sl Ut 24 [] (b8 [2,3]) b7 [true] (tt k0 a)))) (fun k0=>(sl Ut 32 [] ⟨[],[],TY,Tb⟩ b7 [false] (tt k0 a)))))
theorem u0f (l0:zr) (n:Nat) (vs:zy) (h:Yj (Ux l0) n (YD l0)=.ret vs):Ji prog (Zy prog 29) (Zb prog 29 [(dt l0)] true []) vs:=by have:=Zf (w7s l0) n _ (x8h l0);rwa [h] at this
inductive Hc where
 | h0 (v5:Int) (v18:Int)
def NX (l0:zx):Hc->CJ
 | .h0 v5 v18=>⟨⟨37,0,true⟩,none,(Zk prog 27 (pn 151) 0),none,(Zy prog 10),⟨Yy [(5,(ii v5)),(16,(dt l0)),(17,(ii (l0.length:Int))),(18,(ii v18))],Wf [] 0,0,[],true⟩,[],.leaf⟩
def J4 :List (Option zt):=[some [5,16,17,18]]
def J5 :List (Option zt):=[]
def RP (l0:zx):Hc->Xk Hc
 | .h0 v5 v18=>let g:=rd l0 v18.toNat;(bif (decide (v18<(l0.length:Int))) then (bif ((decide (0<=v18/\v18<(l0.length:Int)))&&true) then (.to (.h0 (wrap .i64 (v5+(wrap .i64 ((wrap .i64 ((wrap .i64 (g.d - g.a))*(wrap .i64 (g.e - g.b))))*(wrap .i64 (g.f - g.c)))))) (wrap .i64 (v18+1)))) else .stuck) else (.ret [(.int .i64 v5),(.int .i64 0)]))
def X9 (l0:zx):Xk Hc:=(bif (Jg (CB l0)) then (bif ((Yv (CB l0)) != 0) then (.ret [(.int .i64 0),(.int .i64 (Yv (CB l0)))]) else (.to (.h0 0 0))) else .stuck)
theorem w7x (l0:zx): ∀s,Xh prog (Zy prog 27) (NX l0) (NX l0 s) (RP l0 s)
 | .h0 v5 v18=>(lb (fun k0=>(lo fun o0=>(sl Ut 54 [] ⟨[],[],J4,J5⟩ b7 [true] (ww o0 (tt k0 nn))))) (fun k0=>(lr 37 3 (pn 191) 1 10 [(2,(ii v5)),(3,(ii 0))] (sl Ut 13 [] (b8 [2,3]) b7 [false] (tt k0 nn)))))
theorem x8u (l0:zx):Xh prog (Zy prog 27) (NX l0) (Zb prog 27 [(dt l0)] true []) (X9 l0):=(lo fun cA=>let a:=pp (pp (xr l0) (xw cA)) nn;(lb (fun k0=>(lr 37 27 (pn 77) 1 10 [(2,(ii 0)),(3,(ii (Yv (CB l0))))] (sl Ut 24 [] (b8 [2,3]) b7 [true] (tt k0 a)))) (fun k0=>(sl Ut 32 [] ⟨[],[],J4,J5⟩ b7 [false] (tt k0 a)))))
theorem u0l (l0:zx) (n:Nat) (vs:zy) (h:Yj (RP l0) n (X9 l0)=.ret vs):Ji prog (Zy prog 27) (Zb prog 27 [(dt l0)] true []) vs:=by have:=Zf (w7x l0) n _ (x8u l0);rwa [h] at this
inductive Ha where
def NU (l0:zx):Ha->CJ
 :=nofun
def x8q (l0:zx):Ha->Xk Ha
 :=nofun
def SM (l0:zx):Xk Ha:=(bif (decide ((0+l0.length+1)*(48+1)<=Vg)) then (.ret [(.dat l0.length (Zz l0))]) else .stuck)
theorem w7v (l0:zx): ∀s,Xh prog (Zy prog 63) (NU l0) (NU l0 s) (x8q l0 s)
 :=nofun
theorem x8r (l0:zx):Xh prog (Zy prog 63) (NU l0) (Zb prog 63 [(dt l0)] true []) (SM l0):=(lo fun o0=>(lr 6 3 (pn 191) 1 9 [(2,(dt l0))] (sl Ut 11 [] ⟨[],[1],[some [2]],[]⟩ ⟨[(2,.frz (0+l0.length) l0.length (Jf (fun k=>(([]:zy).drop (k*6)).take 6) 0 (Zz l0)) (Zz l0))],[],[]⟩ [] (pp (xZ (DE 6 6 0 (0+l0.length) (0+l0.length) (Jf (fun k=>(([]:zy).drop (k*6)).take 6) 0 (Zz l0))) (0+l0.length) (Jf (fun k=>(([]:zy).drop (k*6)).take 6) 0 (Zz l0))) (pp (xL (0+l0.length) l0.length (Jj (Ah _))) (pp (xS (0+l0.length) (Jf (fun k=>(([]:zy).drop (k*6)).take 6) 0 (Zz l0)) (Zz l0)) (pp (pp (xF (Jf (fun k=>(([]:zy).drop (k*6)).take 6) 0 (Zz l0))) nn) (pp (pp nn (pp (xG (EY 6 l0.length (Zz l0))) (xw o0))) nn))))))))
theorem u0i (l0:zx) (n:Nat) (vs:zy) (h:Yj (x8q l0) n (SM l0)=.ret vs):Ji prog (Zy prog 63) (Zb prog 63 [(dt l0)] true []) vs:=by have:=Zf (w7v l0) n _ (x8r l0);rwa [h] at this
open Go.Sort Go.Shelf Go.RowKit Go.Lib
def HB (l:zr) (i:Int):Int:=bif Ea l i != 0 then Ea l i else Vo (rd l i.toNat).s (Wa l i).a (Wa l i).b (Wa l i).c (Wa l i).d
def Js (l:zr) (i:Int):zx:=bif Ea l i != 0 then [] else Wq (rd l i.toNat).s (Wa l i).a (Wa l i).b (Wa l i).c (Wa l i).d
def SS (l:zr) (i:Int):Bool:=Jb l i
theorem u9w {l:zr} {i:Int} (ho:Jb l i=true) (h:Ea l i=0):Ki l=0/\(∃j:Nat,i=(j:Int)/\j<l.length)/\Wa l i=(Qq l i).1/\(Qq l i).2=0/\0<=(Wa l i).a :=by
 unfold Jb at ho;rw [Ac] at ho;have hc:Gv l i=0:=by
  unfold Ea at h;by_cases e:Gv l i=0
  .exact e
  .rw [Jy e,Ab] at h;exact h
 have hs:Ki l=0:=by
  unfold Gv at hc;by_cases e:Ki l=0
  .exact e
  .rw [Jy e,Ab] at hc;exact absurd hc e
 have hi: ∃j:Nat,i=(j:Int)/\j<l.length:=by
  unfold Gv at hc;rw [Vp hs,Aa] at hc;by_cases e1:i<0
  .rw [Af e1] at hc;cases hc
  .rw [An e1,Aa] at hc;by_cases e2:i>=(l.length:Int)
   .rw [Af e2] at hc;cases hc
   .exact ⟨i.toNat,by omega,by omega⟩
 have e0:Wa l i=(Qq l i).1:=by unfold Wa;rw [Vp hc];rfl
 have e1:(Qq l i).2=0:=by unfold Ea at h;rw [Vp hc] at h;exact h
 refine ⟨hs,hi,e0,e1,?_⟩;obtain ⟨j,rfl,hj⟩:=hi;rw [e0];exact Q6 (RN (by rw [hs];rfl) hj).1 ho.2 (j+1) j (Bg j) (Aq j)
theorem j5o (l:zr) (i:Int) (ho:SS l i=true): ∃N vs,Yj (w1e l i) N (XK l i)=.ret vs/\(∀(ρ:CF) (u:Value),VRel ρ (Jd vs) u->VRel ρ (.tup [.dat (Js l i).length (Zz (Js l i)),.int .i64 (HB l i)]) u)/\ ∃d,pf d (Jd vs)=true:=by
 have ho':Jb l i=true:=ho;unfold XK;simp only [Zd];rw [Yk ho'];by_cases h:Ea l i=0
 .obtain ⟨h1,⟨j,rfl,hj⟩,h3,h4,h5⟩:=u9w ho' h;refine ⟨0,_,by rw [Vp h,Aa,Aj,Yk (Zn (by omega)),Yk (show Jc _ _ _ _ _=true from Af h5)];rfl,?_,3,rfl⟩;unfold Js HB;rw [Vp h];exact fun ρ u hu=>hu
 .refine ⟨0,_,by rw [Jy h,Ab];rfl,?_,3,rfl⟩;unfold Js HB;rw [Jy h];exact fun ρ u hu=>FJ (.cons (.nild _) (.cons (.refl _) .nil)) ρ u hu
def P4 :zy->Option (CA×Bool)
 | [a0,.int .i64 i]=>match C4 CD a0 with
  | some (L,g,n)=>some (.tup [.dat (Js L i).length (Zz (Js L i)),.int .i64 (HB L i)],CU CD n g&&SS L i)
  | _=>none
 | _=>none
theorem j8f {S:CC} (hS:Zu prog S):Zu prog (S.with UN P4):=GR hS (by kernel_rfl) fun args v h=>by
 unfold P4 at h;split at h
 .rename_i a0 i;split at h
  .rename_i L g n e0;simp only [Ae,Ad,Ac] at h;obtain ⟨rfl,ho0,hw⟩:=h;obtain ⟨N,vs,hN,hv,hp⟩:=j5o L i hw;exact ⟨_,vs,(.cons (Xy e0 ho0) (.cons (.refl _) .nil)),hv,u3q L i N _ hN,hp⟩
  .cases h
 .cases h
def FV :zx->Int->Int
 | [],n=>n
 | r::l,n=>FV l (wrap .i64 (n+(wrap .i64 ((wrap .i64 ((wrap .i64 (r.d - r.a))*(wrap .i64 (r.e - r.b))))*(wrap .i64 (r.f - r.c))))))
def GG (l:zx):Int:=bif Yv l != 0 then 0 else FV l 0
def Mv (l:zx):Int:=Yv l
def Q9 (l:zx):Bool:=true
theorem u6x {l:zx} (hl:l.length<=400): ∀(k i:Nat) (n:Int),i+k=l.length-> ∃N,Yj (RP l) N (.to (.h0 n (i:Int)))=.ret [.int .i64 (FV (l.drop i) n),.int .i64 0]
 | 0,i,n,h=>by refine ⟨1,?_⟩;rw [Zx,Aw (by omega)];unfold RP;simp only [];rw [Yc (by omega)];rfl
 | k+1,i,n,h=>by
  have hi:i<l.length:=by omega
  have w2:wrap .i64 ((i:Int)+1)=((i+1:Nat):Int):=Zq (by omega);obtain ⟨N,hN⟩:=u6x hl k (i+1) (wrap .i64 (n+(wrap .i64 ((wrap .i64 ((wrap .i64 ((rd l i).d - (rd l i).a))*(wrap .i64 ((rd l i).e - (rd l i).b))))*(wrap .i64 ((rd l i).f - (rd l i).c)))))) (by omega);refine ⟨N+1,?_⟩;rw [Zx,Yn hi,FV];rw [<-hN]
  congr 1
  unfold RP;simp only [Zj,w2];rw [Yk (Zt (by omega)),Aj,Yk (Zn (by omega))]
theorem j2k (l:zx) (h:Q9 l=true): ∃N,Yj (RP l) N (X9 l)=.ret [.int .i64 (GG l),.int .i64 (Mv l)]:=by
 unfold X9 GG Mv;simp only [Zd];rw [Yk (show Jg l=true from rfl)];by_cases q:Yv l=0
 .obtain ⟨N,hN⟩:=u6x (WW (Vp q)) l.length 0 0 (Ah _);refine ⟨N,?_⟩;rw [Vp q,q];exact hN
 .exact ⟨0,by rw [Jy q];rfl⟩
def PM :zy->Option (CA×Bool)
 | [a0]=>match C4 R6 a0 with
  | some (L0,g0,n0)=>some (.tup [.int .i64 (GG L0),.int .i64 (Mv L0)],CU R6 n0 g0&&Q9 L0)
  | _=>none
 | _=>none
theorem j7l {S:CC} (hS:Zu prog S):Zu prog (S.with j0c PM):=C3 hS (by kernel_rfl) fun args v h=>by
 unfold PM at h;split at h
 .rename_i a0;split at h
  .rename_i L0 g0 n0 e0;simp only [Ae,Ad,Ac] at h;obtain ⟨rfl,ho0,hw⟩:=h;obtain ⟨N,hN⟩:=j2k L0 hw;exact ⟨_,_,(.cons (Xy e0 ho0) .nil),rfl,u0l L0 N _ hN,3,rfl⟩
  .cases h
 .cases h
def EG (l:zx):zx:=l
def Ql (l:zx):Bool:=decide (l.length<=1000000)
theorem j2e (l:zx) (h:Ql l=true): ∃N,Yj (x8q l) N (SM l)=.ret [.dat (EG l).length (Zz (EG l))]:=⟨0,by
 have:=Ay h;show SM l=_;unfold SM;rw [Yk (Zh (by omega))];rfl⟩
def PL :zy->Option (CA×Bool)
 | [a0]=>match C4 R6 a0 with
  | some (L0,g0,n0)=>some (.dat (EG L0).length (Zz (EG L0)),CU R6 n0 g0&&Ql L0)
  | _=>none
 | _=>none
theorem j7k {S:CC} (hS:Zu prog S):Zu prog (S.with Tm PL):=C3 hS (by kernel_rfl) fun args v h=>by
 unfold PL at h;split at h
 .rename_i a0;split at h
  .rename_i L0 g0 n0 e0;simp only [Ae,Ad,Ac] at h;obtain ⟨rfl,ho0,hw⟩:=h;obtain ⟨N,hN⟩:=j2e L0 hw;exact ⟨_,_,(.cons (Xy e0 ho0) .nil),rfl,u0i L0 N _ hN,3,rfl⟩
  .cases h
 .cases h
def DZ (l:zr) (j:Nat):Int:=bif Qw l (j:Int) != 0 then Qw l (j:Int) else Vo (rd l j).s (Yf l (j:Int)).a (Yf l (j:Int)).b (Yf l (j:Int)).c (Yf l (j:Int)).d
def Gs (l:zr) (j:Nat):zx:=Wq (rd l j).s (Yf l (j:Int)).a (Yf l (j:Int)).b (Yf l (j:Int)).c (Yf l (j:Int)).d
def EI (l:zr):Nat->Nat->Int
 | 0,_=>0
 | k+1,i=>bif DZ l i != 0 then DZ l i else EI l k (i+1)
def Gi (l:zr):Nat->Nat->List zx
 | 0,_=>[]
 | k+1,i=>Gs l i::Gi l k (i+1)
def Ds :List zx->zx->zx×Int
 | [],acc=>(acc,0)
 | x::r,acc=>bif E1 .u acc x != 0 then ([],E1 .u acc x) else Ds r (Fp .u acc x)
def ES (l:zr):zx×Int:=bif Ki l != 0 then ([],Ki l) else bif EI l l.length 0 != 0 then ([],EI l l.length 0) else Ds (Gi l l.length 0) []
def Ys (l:zr):zx:=(ES l).1
def Xu (l:zr):Int:=(ES l).2
def Uw (l:zr):Bool:=Yt l&&l.all fun x=>decide (0<=x.t)
def Eq (q:zx×Int):zy:=bif q.2 != 0 then [.nils,.int .i64 q.2] else [.dat q.1.length (Zz q.1),.int .i64 0]
theorem u6u {l:zr} {L:List zx} (hL:L.length<=1000000): ∀(k i:Nat) (acc:zx),i+k=L.length-> ∃N,Yj (Ux l) N (.to (.h4 acc L (L.length:Int) (i:Int)))=.ret (Eq (Ds (L.drop i) acc))
 | 0,i,acc,h=>by
  refine ⟨1,?_⟩;have e:Ux l (.h4 acc L (L.length:Int) (i:Int))=.ret [.dat acc.length (Zz acc),.int .i64 0]:=by unfold Ux;simp only [];rw [Yc (by omega)];rfl
  rw [Zx,e,Aw (by omega)];rfl
 | k+1,i,acc,h=>by
  have hi:i<L.length:=by omega
  have w2:wrap .i64 ((i:Int)+1)=((i+1:Nat):Int):=Zq (by omega);have e:Ux l (.h4 acc L (L.length:Int) (i:Int))=bif E1 .u acc (rd L i) != 0 then .ret [.nils,.int .i64 (E1 .u acc (rd L i))] else .to (.h4 (Fp .u acc (rd L i)) L (L.length:Int) ((i+1:Nat):Int)):=by unfold Ux;simp only [Zj,w2,Zd,Ah];rw [Yk (Zt (by omega)),Aj,Yk (Zn (by omega)),Yk (Af hi)];rfl
  rw [Yn hi,Ds];cases g:E1 .u acc (rd L i) != 0 with
  | true=>refine ⟨1,?_⟩;rw [Zx,e,g,Ab,Ab];unfold Eq;rw [g];rfl
  | false=>obtain ⟨N,hN⟩:=u6u (l:=l) hL k (i+1) (Fp .u acc (rd L i)) (by omega);exact ⟨N+1,by rw [Zx,e,g,Aa,Aa,hN]⟩
theorem NB {l:zr} {L:List zx} (hL:L.length<=1000000) (h0:0<L.length): ∃N,Yj (Ux l) N (.to (.h3 L (L.length:Int)))=.ret (Eq (Ds L [])):=by
 have e:Ux l (.h3 L (L.length:Int))=bif E1 .u [] (rd L 0) != 0 then .ret [.nils,.int .i64 (E1 .u [] (rd L 0))] else .to (.h4 (Fp .u [] (rd L 0)) L (L.length:Int) ((1:Nat):Int)):=by unfold Ux;simp only [Zd];rw [Yk (Zt (by omega)),Yk (IY (j:=0) (by omega) (by omega)),Yk (Af h0)];rfl
 have hd:=Yn h0;rw [AR] at hd
 conv=>enter [1,N];rhs;rw [hd]
 rw [Ds];cases g:E1 .u [] (rd L 0) != 0 with
 | true=>refine ⟨1,?_⟩;rw [Zx,e,g,Ab,Ab];unfold Eq;rw [g];rfl
 | false=>obtain ⟨N,hN⟩:=u6u (l:=l) hL (L.length - 1) 1 (Fp .u [] (rd L 0)) (by omega);exact ⟨N+1,by rw [Zx,e,g,Aa,Aa,hN]⟩
theorem u6v {l:zr} (ht:(l.all fun x=>decide (0<=x.t))=true) (h:Ki l=0): ∀(k i:Nat) (acc:List zx),i+k=l.length->acc.length=i->1<=i->
  ∃N,Yj (Ux l) N (.to (.h1 acc (i:Int)))=.ret (bif EI l k i != 0 then [.nils,.int .i64 (EI l k i)] else Eq (Ds (acc++Gi l k i) []))
 | 0,i,acc,hk,ha,h1=>by
  have hl:=(Qh (l:=l) (by rw [h];rfl)).1;have e:Ux l (.h1 acc (i:Int))=.to (.h3 acc (acc.length:Int)):=by unfold Ux;simp only [];rw [Yc (by omega)];rfl
  obtain ⟨N,hN⟩:=NB (l:=l) (L:=acc) (by omega) (by omega);refine ⟨N+1,?_⟩;rw [Zx,e,hN];show _=Xk.ret (Eq (Ds (acc++[]) []));rw [AG]
 | k+1,i,acc,hk,ha,h1=>by
  have h':(Ki l != 0)=false:=by rw [h];rfl
  have hl:=(Qh h').1;have hi:i<l.length:=by omega
  have w2:wrap .i64 ((i:Int)+1)=((i+1:Nat):Int):=Zq (by omega);have hpo:Vb l (i:Int)=true:=x9m ht h' (by omega) (by omega);have htu:0<=(Yf l (i:Int)).a :=Q6 (RN h' hi).1 ht (i+1) i (Bg i) (Aq i);have e:Ux l (.h1 acc (i:Int))=bif DZ l i != 0 then .ret [.nils,.int .i64 (DZ l i)] else .to (.h1 (acc++[Gs l i]) ((i+1:Nat):Int)):=by
   unfold Ux DZ Gs;simp only [Zj,w2,Zd];rw [Yk (Zt (by omega)),Yk hpo];cases g:Qw l (i:Int) != 0 with
   | true=>rw [Ab,Ab,g];rfl
   | false=>rw [Aa,Aa,Aj,Yk (Zn (by omega)),Yk (show Jc _ _ _ _ _=true from Af htu),Yk (Y0 (by omega))]
  rw [EI,Gi];cases g:DZ l i != 0 with
  | true=>refine ⟨1,?_⟩;rw [Zx,e,g,Ab,Ab,g];rfl
  | false=>obtain ⟨N,hN⟩:=u6v ht h k (i+1) (acc++[Gs l i]) (by omega) (by rw [AO,List.length_singleton,ha]) (by omega);refine ⟨N+1,?_⟩;rw [Zx,e,g,Aa,Aa,hN,AH];rfl
theorem j1v (l:zr) (ho:Uw l=true): ∃N vs,Yj (Ux l) N (YD l)=.ret vs/\(vs=Eq (ES l)\/(vs=[.nils,.int .i64 0]/\ES l=([],0))):=by
 unfold Uw at ho;rw [Ac] at ho;obtain ⟨ho,ht⟩:=ho;unfold YD ES;simp only [Zd];rw [Yk ho];by_cases h:Ki l=0
 .rw [Vp h,Aa,Aa];have h':(Ki l != 0)=false:=by rw [h];rfl
  by_cases h0:l.length=0
  .refine ⟨2,[.nils,.int .i64 0],?_,.inr ⟨rfl,?_⟩⟩
   .have e:Ux l .h0 =.to .h2 :=by unfold Ux;simp only [];rw [Yc (by omega)];rfl
    rw [Zx,e,Zx];rfl
   .rw [h0];rfl
  .have hi:0<l.length:=by omega
   have hpo:Vb l ((0:Nat):Int)=true:=x9m ht h' (by omega) (by omega);have htu:0<=(Yf l ((0:Nat):Int)).a :=Q6 (RN h' hi).1 ht 1 0 (Bg 0) (Aq 0);have e:Ux l .h0 =bif DZ l 0 != 0 then .ret [.nils,.int .i64 (DZ l 0)] else .to (.h1 [Gs l 0] ((1:Nat):Int)):=by
    unfold Ux DZ Gs;simp only [Zd];rw [Yk (Zt (by omega))];have hpo:Vb l 0=true:=hpo;have htu:0<=(Yf l 0).a :=htu;rw [Yk hpo];show (bif Qw l 0 != 0 then _ else _)=bif (bif Qw l 0 != 0 then Qw l 0 else _) != 0 then _ else _;cases g:Qw l 0 != 0 with
    | true=>rw [Ab,Ab,g];rfl
    | false=>rw [Aa,Aa,Yk (IY (j:=0) (by omega) (by omega)),Yk (show Jc _ _ _ _ _=true from Af htu)];rfl
   obtain ⟨k,hk⟩: ∃k,l.length=k+1:=⟨l.length - 1,by omega⟩
   rw [hk,EI,Gi];cases g:DZ l 0 != 0 with
   | true=>
    refine ⟨1,[.nils,.int .i64 (DZ l 0)],?_,.inl ?_⟩
    .rw [Zx,e,g];rfl
    .rw [Ab,g,Ab];unfold Eq;rw [g];rfl
   | false=>
    obtain ⟨N,hN⟩:=u6v ht h k 1 [Gs l 0] (by omega) rfl (Aq 1);refine ⟨N+1,_,by rw [Zx,e,g,Aa];exact hN,.inl ?_⟩;rw [Aa];cases g2:EI l k 1 != 0 with
    | true=>rw [Ab,Ab];unfold Eq;rw [g2];rfl
    | false=>rfl
 .refine ⟨0,[.nils,.int .i64 (Ki l)],by rw [Jy h];rfl,.inl ?_⟩;rw [Jy h,Ab];unfold Eq;rw [Jy h];rfl
def PI :zy->Option (CA×Bool)
 | [a0]=>match C4 CD a0 with
  | some (L,g,n)=>some (.tup [.dat (Ys L).length (Zz (Ys L)),.int .i64 (Xu L)],CU CD n g&&Uw L)
  | _=>none
 | _=>none
theorem v7h : ∀(L:List zx) (acc:zx),(Ds L acc).2≠0->(Ds L acc).1=[]
 | [],acc,h=>absurd rfl h
 | x::r,acc,h=>by
  rw [Ds] at h ⊢;cases g:E1 .u acc x != 0 with
  | true=>rfl
  | false=>rw [g] at h;exact v7h r _ h
theorem j1w (l:zr) (h:(ES l).2≠0):(ES l).1=[]:=by
 unfold ES at h ⊢;cases g:Ki l != 0 with
 | true=>rfl
 | false=>
  rw [g,Aa] at h;cases g2:EI l l.length 0 != 0 with
  | true=>rw [Aa,Ab]
  | false=>rw [g2] at h;exact v7h _ _ h
theorem NA {l:zr} {vs:zy} (h:vs=Eq (ES l)\/(vs=[.nils,.int .i64 0]/\ES l=([],0))) (ρ:CF) (u:Value) (hu:VRel ρ (Jd vs) u):VRel ρ (.tup [.dat (Ys l).length (Zz (Ys l)),.int .i64 (Xu l)]) u:=by
 unfold Ys Xu;rcases h with rfl | ⟨rfl,h2⟩
 .unfold Eq at hu;by_cases g:(ES l).2=0
  .rw [Vp g] at hu;rw [g];exact hu
  .rw [Jy g] at hu;rw [j1w l g];exact FJ (.cons (.nild _) (.cons (.refl _) .nil)) ρ u hu
 .rw [h2];exact FJ (.cons (.nild _) (.cons (.refl _) .nil)) ρ u hu
theorem Mz {l:zr} {vs:zy} (h:vs=Eq (ES l)\/(vs=[.nils,.int .i64 0]/\ES l=([],0))):pf 5 (Jd vs)=true:=by
 rcases h with rfl | ⟨rfl,_⟩
 .unfold Eq;cases (ES l).2 != 0 <;> rfl
 .rfl
theorem j7h {S:CC} (hS:Zu prog S):Zu prog (S.with TZ PI):=GR hS (by kernel_rfl) fun args v h=>by
 unfold PI at h;split at h
 .rename_i a0;split at h
  .rename_i L g n e0;simp only [Ae,Ad,Ac] at h;obtain ⟨rfl,ho0,hw⟩:=h;obtain ⟨N,vs,hN,hv⟩:=j1v L hw;exact ⟨_,vs,(.cons (Xy e0 ho0) .nil),NA hv,u0f L N _ hN,5,Mz hv⟩
  .cases h
 .cases h
def Sv3 :CC:=(((Sv2.with UN P4).with j0c PM).with Tm PL).with TZ PI
theorem Wm :Zu prog Sv3:=j7h (j7k (j7l (j8f Ut)))
abbrev y2e (v14:zr) (v15:Int) (bT:Int) (bU:Int) (bV:Int) (bW:Int):=(v14.set (0+(tn v15)) (CD.mk (rd v14 (0+(tn v15))).n (rd v14 (0+(tn v15))).a (Uq (rd v14 (0+(tn v15))).t (rd v14 (0+(tn v15))).x (rd v14 (0+(tn v15))).y (rd v14 (0+(tn v15))).z bT bU bV bW).a (Uq (rd v14 (0+(tn v15))).t (rd v14 (0+(tn v15))).x (rd v14 (0+(tn v15))).y (rd v14 (0+(tn v15))).z bT bU bV bW).b (Uq (rd v14 (0+(tn v15))).t (rd v14 (0+(tn v15))).x (rd v14 (0+(tn v15))).y (rd v14 (0+(tn v15))).z bT bU bV bW).c (Uq (rd v14 (0+(tn v15))).t (rd v14 (0+(tn v15))).x (rd v14 (0+(tn v15))).y (rd v14 (0+(tn v15))).z bT bU bV bW).d (rd v14 (0+(tn v15))).s))
abbrev y2d (v3:zr) (l0:zr) (v4:Int):=(v3++[(CD.mk (rd l0 (tn v4)).n (rd l0 (tn v4)).a (rd l0 (tn v4)).t (rd l0 (tn v4)).x (rd l0 (tn v4)).y (rd l0 (tn v4)).z (EG (CB (rd l0 (tn v4)).s)))])
abbrev Ir (v14:zr) (v15:Int) (bT:Int) (bU:Int) (bV:Int) (bW:Int):=(Uq (rd v14 (0+(tn v15))).t (rd v14 (0+(tn v15))).x (rd v14 (0+(tn v15))).y (rd v14 (0+(tn v15))).z bT bU bV bW)
def Is (l0:zr):CA:=(.dat l0.length (Zz l0))
abbrev v7b (l0:zr):=(Zz ([(CD.mk (rd l0 0).n (rd l0 0).a (rd l0 0).t (rd l0 0).x (rd l0 0).y (rd l0 0).z (EG (CB (rd l0 0).s)))]:zr))
inductive F6 where
 | h0
 | h1 (v3:zr) (v4:Int)
 | h2
 | h3 (v14:zr) (v15:Int)
def OZ (l0:zr) (x1:Int) (bT:Int) (bU:Int) (bV:Int) (bW:Int):F6->CJ
 | .h0 =>⟨⟨25,0,true⟩,none,(Zk prog 28 (pn 75) 0),none,(Zy prog 9),⟨Yy [(0,(Is l0)),(3,.nils),(4,(ii 0))],Wf [⟨[(.int .u8 bT),(ii bU),(ii bV),(ii bW)],42,none⟩] 0,1,[],true⟩,[⟨⟨174,0,true⟩,(Wz prog 7 (pn 47) 1),(Zk prog 7 (pn 47) 1),none,(Zy prog 7),Yy [(0,(Is l0)),(5,(.ptr 0 0)),(7,(.bool true)),(81,(Is l0))]⟩],.leaf⟩
 | .h1 v3 v4=>⟨⟨25,0,true⟩,none,(Zk prog 28 (pn 75) 0),none,(Zy prog 9),⟨Yy [(0,(Is l0)),(3,(.sla 0 7 0 v3.length (.un 7))),(4,(ii v4))],Wf [(rz v3 48 7),⟨[(.int .u8 bT),(ii bU),(ii bV),(ii bW)],42,none⟩] 0,2,[],true⟩,[⟨⟨174,0,true⟩,(Wz prog 7 (pn 47) 1),(Zk prog 7 (pn 47) 1),none,(Zy prog 7),Yy [(0,(Is l0)),(5,(.ptr 1 0)),(7,(.bool true)),(81,(Is l0))]⟩],.leaf⟩
 | .h2 =>⟨⟨174,0,true⟩,none,(Zk prog 7 (pn 607) 0),none,(Zy prog 7),⟨Yy [(0,(Is l0)),(5,(.ptr 0 0)),(7,(.bool true)),(14,.nils),(15,(ii 0))],Wf [⟨[(.int .u8 bT),(ii bU),(ii bV),(ii bW)],42,none⟩] 0,1,[],true⟩,[],.leaf⟩
 | .h3 v14 v15=>⟨⟨174,0,true⟩,none,(Zk prog 7 (pn 607) 0),none,(Zy prog 7),⟨Yy [(0,(Is l0)),(5,(.ptr 0 0)),(7,(.bool true)),(14,(.sla 1 7 0 v14.length (.un 7))),(15,(ii v15))],Wf [⟨[(.int .u8 bT),(ii bU),(ii bV),(ii bW)],42,none⟩,(rz v14 48 7)] 0,2,[],true⟩,[],.leaf⟩
def ZV :List (Option zt):=[some [0,3,4],some [0,5,7,81]]
def ZU :List (Option zt):=[]
def Lk :List (Option zt):=[some [0,3,4],some [0,5,7,81]]
def Ll :List (Option zt):=[]
def UY :List (Option zt):=[some [0,5,7,14,15]]
def UZ :List (Option zt):=[]
def j6d :List (Option zt):=[some [0,5,7,14,15]]
def j6e :List (Option zt):=[]
def Jx (l0:zr) (x1:Int) (bT:Int) (bU:Int) (bV:Int) (bW:Int):F6->Xk F6
 | .h0 =>let b:=CB (rd l0 0).s;(bif (decide (0<(l0.length:Int))) then (bif ((decide ((0:Int)<=0/\0<(l0.length:Int)))&&true) then (bif (Ql b) then (.to (.h1 ([(CD.mk (rd l0 0).n (rd l0 0).a (rd l0 0).t (rd l0 0).x (rd l0 0).y (rd l0 0).z (EG b))]:zr) 1)) else .stuck) else .stuck) else (.to (.h2)))
 | .h1 v3 v4=>let b:=rd l0 v4.toNat;(bif (decide (v4<(l0.length:Int))) then (bif ((decide (0<=v4/\v4<(l0.length:Int)))&&true) then (bif (Ql (CB b.s)) then (bif (Nat.beq 7 7&&((decide (0+v3.length=v3.length))&&decide ((v3.length+1+1)*(80+1)<=Vg))) then (.to (.h1 (v3++[(CD.mk b.n b.a b.t b.x b.y b.z (EG (CB b.s)))]) (wrap .i64 (v4+1)))) else .stuck) else .stuck) else .stuck) else (.to (.h3 v3 0)))
 | .h2 =>let a:=CB (Ys (CB l0));let b:=Xu (CB l0);let c:=CB (Wq a bT bU bV bW);(bif (Uw (CB l0)) then (bif (Uw ([]:zr)) then (bif (b != 0) then (bif (b == 16) then (bif ((Xu ([]:zr)) == 0) then (.ret [(.bool true)]) else (bif ((Xu ([]:zr)) == 16) then (.ret [(.bool true)]) else (.ret [(.bool ((Xu ([]:zr)) == 4))]))) else (bif (b == 4) then (bif ((Xu ([]:zr)) == 0) then (.ret [(.bool true)]) else (bif ((Xu ([]:zr)) == 16) then (.ret [(.bool true)]) else (.ret [(.bool ((Xu ([]:zr)) == 4))]))) else (.ret [(.bool false)]))) else (bif ((Xu ([]:zr)) != 0) then (bif ((Xu ([]:zr)) == 16) then (.ret [(.bool true)]) else (.ret [(.bool ((Xu ([]:zr)) == 4))])) else (bif (Jc a bT bU bV bW) then (bif ((Vo a bT bU bV bW) != 0) then (.ret [(.bool true)]) else (bif (Vm (CB (Ys ([]:zr))) c) then (.ret [(.bool (Kx (CB (Ys ([]:zr))) c))]) else .stuck)) else .stuck))) else .stuck) else .stuck)
 | .h3 v14 v15=>let e:=rd v14 (0+v15.toNat);let f:=Xu (CB v14);let g:=Uq e.t e.x e.y e.z bT bU bV bW;let h:=CB (Ys (CB l0));let i:=Jr e.t e.x e.y e.z bT bU bV bW;let j:=Xu (CB l0);let l:=CB (Wq h bT bU bV bW);let m:=CB (Ys (CB v14));(bif (decide (v15<(v14.length:Int))) then (bif ((decide (0<=v15/\v15<(v14.length:Int)))&&true) then (bif (decide ((0+v15.toNat)<v14.length)) then (bif (decide (e.a >=0)) then (.to (.h3 v14 (wrap .i64 (v15+1)))) else (bif (Jq e.t e.x e.y e.z bT bU bV bW) then (bif (i != 0) then (.ret [(.bool (i == 16))]) else (.to (.h3 (v14.set (0+v15.toNat) (CD.mk e.n e.a g.a g.b g.c g.d e.s)) (wrap .i64 (v15+1))))) else .stuck)) else .stuck) else .stuck) else (bif (Uw (CB l0)) then (bif (Uw (CB v14)) then (bif (j != 0) then (bif (j == 16) then (bif (f == 0) then (.ret [(.bool true)]) else (bif (f == 16) then (.ret [(.bool true)]) else (.ret [(.bool (f == 4))]))) else (bif (j == 4) then (bif (f == 0) then (.ret [(.bool true)]) else (bif (f == 16) then (.ret [(.bool true)]) else (.ret [(.bool (f == 4))]))) else (.ret [(.bool false)]))) else (bif (f != 0) then (bif (f == 16) then (.ret [(.bool true)]) else (.ret [(.bool (f == 4))])) else (bif (Jc h bT bU bV bW) then (bif ((Vo h bT bU bV bW) != 0) then (.ret [(.bool true)]) else (bif (Vm m l) then (.ret [(.bool (Kx m l))]) else .stuck)) else .stuck))) else .stuck) else .stuck))
def XH (l0:zr) (x1:Int) (bT:Int) (bU:Int) (bV:Int) (bW:Int):Xk F6:=(bif (!(Oa (CB l0))) then (bif (decide ((l0.length:Int)<=12)) then (bif (Yt (CB l0)) then (bif (!((Ki (CB l0)) == 0)) then (.ret [(.bool true)]) else (bif ((CT bT bU bV bW) != 0) then (.ret [(.bool true)]) else (bif (decide (x1>=0)) then (bif (decide (x1<(l0.length:Int))) then (bif (SS (CB l0) x1) then (bif (Q9 (CB (Js (CB l0) x1))) then (bif ((decide (0<=x1/\x1<(l0.length:Int)))&&true) then (bif (Q9 (CB (rd l0 x1.toNat).s)) then (bif ((HB (CB l0) x1) == 0) then (bif ((Mv (CB (Js (CB l0) x1))) != 0) then (.ret [(.bool false)]) else (bif ((Mv (CB (rd l0 x1.toNat).s)) != 0) then (.ret [(.bool false)]) else (bif ((GG (CB (Js (CB l0) x1))) != (GG (CB (rd l0 x1.toNat).s))) then (.ret [(.bool false)]) else (.to (.h0))))) else (.to (.h0))) else .stuck) else .stuck) else .stuck) else .stuck) else (.to (.h0))) else (.to (.h0))))) else .stuck) else (.ret [(.bool true)])) else (.ret [(.bool true)]))
theorem v0j (l0:zr) (x1:Int) (bT:Int) (bU:Int) (bV:Int) (bW:Int): ∀s,Xh prog (Zy prog 7) (OZ l0 x1 bT bU bV bW) (OZ l0 x1 bT bU bV bW s) (Jx l0 x1 bT bU bV bW s)
 | .h0 =>(lb (fun k0=>(lo fun o0=>(lo fun o1=>let c:=EG (CB (rd l0 0).s);let b:=CD.mk (rd l0 0).n (rd l0 0).a (rd l0 0).t (rd l0 0).x (rd l0 0).y (rd l0 0).z c;(sl Wm 43 [] ⟨[3,0],[],Lk,Ll⟩ ⟨[(3,.grow 0 7)],[.rowed 7 ([b]:zr).length (v7b l0),.keep],[]⟩ [true] (pp (xG (YZ [(.str (rd l0 0).n),(ii (rd l0 0).a),(.int .u8 (rd l0 0).t),(ii (rd l0 0).x),(ii (rd l0 0).y),(ii (rd l0 0).z),(.dat c.length (Zz c))] 7 ([b]:zr).length (v7b l0))) (pp (pp (xI R6 (rd l0 0).s.length (Zz (rd l0 0).s)) (xw o1)) (ww o0 (tt k0 nn)))))))) (fun k0=>(sl Wm 25 [] ⟨[0],[],UY,UZ⟩ b7 [false] (tt k0 nn))))
 | .h1 v3 v4=>(lb (fun k0=>(lo fun o0=>(lo fun o1=>(lo fun o2=>let f:=y2d v3 l0 v4;let g:=v3.length+1;let b:=xL g f.length;let c:=f;let e:=rd l0 (tn v4);let h:=EG (CB e.s);let d:=Zr (Zz v3) 0 v3.length 7 [(.str e.n),(ii e.a),(.int .u8 e.t),(ii e.x),(ii e.y),(ii e.z),(.dat h.length (Zz h))];(sl Wm 43 [] ⟨[4,1],[],Lk,Ll⟩ ⟨[(3,.len c.length)],[.rowed 7 c.length (Zz c),.keep],[]⟩ [true] (pp b (pp b (pp (xS g d (Zz f)) (pp (pp (xF d) nn) (ww o2 (pp (pp (xI R6 e.s.length (Zz e.s)) (xw o1)) (ww o0 (tt k0 nn))))))))))))) (fun k0=>(sl Wm 25 [] ⟨[1,0],[],j6d,j6e⟩ b7 [false] (pp (fl v3 nn) (tt k0 nn)))))
 | .h2 =>(lo fun cA=>(lo fun dB=>let a:=pp (pp (xr l0) (xw cA)) nn;let b:=Xu ([]:zr);(lb (fun k0=>(lb (fun k1=>(lb (fun k2=>(lr 174 7 (pn 4863) 1 7 [(6,(.bool true))] (sl Wm 70 [] (b8 [6]) b7 (bl 24 16776830) (tt k2 (tt k1 (yt (GH k0) (tt k0 (pp (pp (xI CD 0 (fun _=>[])) (xw dB)) a)))))))) (fun k2=>(lb (fun k3=>(lr 174 7 (pn 4863) 1 7 [(6,(.bool true))] (sl Wm 70 [] (b8 [6]) b7 (bl 24 16383614) (tt k3 (tt k2 (tt k1 (yt (GH k0) (tt k0 (pp (pp (xI CD 0 (fun _=>[])) (xw dB)) a))))))))) (fun k3=>(lr 174 7 (pn 4863) 1 7 [(6,(.bool (b == 4)))] (sl Wm 70 [] (b8 [6]) b7 (bl 24 10092158) (tt k3 (tt k2 (tt k1 (yt (GH k0) (tt k0 (pp (pp (xI CD 0 (fun _=>[])) (xw dB)) a))))))))))))) (fun k1=>(lb (fun k2=>(lb (fun k3=>(lr 174 7 (pn 4863) 1 7 [(6,(.bool true))] (sl Wm 70 [] (b8 [6]) b7 (bl 24 16770686) (tt k3 (tt k2 (tt k1 (yt (GH k0) (tt k0 (pp (pp (xI CD 0 (fun _=>[])) (xw dB)) a))))))))) (fun k3=>(lb (fun k4=>(lr 174 7 (pn 4863) 1 7 [(6,(.bool true))] (sl Wm 70 [] (b8 [6]) b7 (bl 24 16377470) (tt k4 (tt k3 (tt k2 (tt k1 (yt (GH k0) (tt k0 (pp (pp (xI CD 0 (fun _=>[])) (xw dB)) a)))))))))) (fun k4=>(lr 174 7 (pn 4863) 1 7 [(6,(.bool (b == 4)))] (sl Wm 70 [] (b8 [6]) b7 (bl 24 10086014) (tt k4 (tt k3 (tt k2 (tt k1 (yt (GH k0) (tt k0 (pp (pp (xI CD 0 (fun _=>[])) (xw dB)) a)))))))))))))) (fun k2=>(lr 174 7 (pn 4863) 1 7 [(6,(.bool false))] (sl Wm 70 [] (b8 [6]) b7 (bl 20 9854) (tt k2 (tt k1 (yt (GH k0) (tt k0 (pp (pp (xI CD 0 (fun _=>[])) (xw dB)) a)))))))))))) (fun k0=>(lb (fun k1=>(lb (fun k2=>(lr 174 7 (pn 4863) 1 7 [(6,(.bool true))] (sl Wm 70 [] (b8 [6]) b7 (bl 24 16383992) (tt k2 (yt (GH k1) (yt (u6i k0) (tt k1 (tt k0 (pp (pp (xI CD 0 (fun _=>[])) (xw dB)) a))))))))) (fun k2=>(lr 174 7 (pn 4863) 1 7 [(6,(.bool (b == 4)))] (sl Wm 70 [] (b8 [6]) b7 (bl 24 10092536) (tt k2 (yt (GH k1) (yt (u6i k0) (tt k1 (tt k0 (pp (pp (xI CD 0 (fun _=>[])) (xw dB)) a))))))))))) (fun k1=>(lo fun bS=>let d:=Ys (CB l0);(lb (fun k2=>(lr 174 3 (pn 191) 1 7 [(6,(.bool true))] (sl Wm 67 [] (b8 [6]) b7 (bl 11 2032) (tt k2 (pp (pp (xI R6 d.length (Zz d)) (xw bS)) (tt k1 (tt k0 (pp (pp (xI CD 0 (fun _=>[])) (xw dB)) a)))))))) (fun k2=>(lo fun o0=>let c:=Wq (CB d) bT bU bV bW;let e:=Ys ([]:zr);(lr 174 3 (pn 191) 1 7 [(6,(.bool (Kx (CB e) (CB c))))] (sl Wm 67 [] (b8 [6]) b7 (bl 11 1136) (pp (pp (xI R6 e.length (Zz e)) (pp (xI R6 c.length (Zz c)) (xw o0))) (tt k2 (pp (pp (xI R6 d.length (Zz d)) (xw bS)) (tt k1 (tt k0 (pp (pp (xI CD 0 (fun _=>[])) (xw dB)) a))))))))))))))))))
 | .h3 v14 v15=>(lb (fun k0=>(lo fun aK=>(lo fun bH=>let n:=ww bH (ww aK (tt k0 nn));(lb (fun k1=>(sl Wm 30 [] ⟨[0,1],[],j6d,j6e⟩ b7 (bl 2 3) (pp (fl v14 nn) (tt k1 n)))) (fun k1=>(lo fun bS=>let h:=ww bS (ww bH (ww aK (tt k1 n)));(lb (fun k2=>let g:=rd v14 (0+(tn v15));(lr 174 7 (pn 307807) 1 7 [(6,(.bool ((Jr g.t g.x g.y g.z bT bU bV bW) == 16)))] (sl Wm 42 [] (b8 [6]) b7 (bl 5 29) (tt k2 h)))) (fun k2=>let w:=y2e v14 v15 bT bU bV bW;let i:=w;let j:=xL v14.length w.length;let u:=Ir v14 v15 bT bU bV bW;let s:=Xg (Zz v14) (0+(tn v15)) 2 [(.int .u8 u.a),(ii u.b),(ii u.c),(ii u.d)];(sl Wm 49 [] ⟨[0,1],[],j6d,j6e⟩ ⟨[(14,.len i.length)],[.keep,.rowed 7 i.length (Zz i)],[]⟩ (bl 3 1) (pp j (pp j (pp (xS v14.length s (Zz w)) (pp (pp (xF s) nn) (ww bH (ww aK (tt k2 h)))))))))))))))) (fun k0=>(lo fun q1_0=>let v:=Ys (CB l0);let p:=v;(Un (sl Wm (C':=⟨⟨174,0,true⟩,(Wz prog 7 (pn 383) 1),(Zk prog 7 (pn 383) 1),none,(Zy prog 7),⟨Yy [(5,(.ptr 0 0)),(7,(.bool true)),(18,(dt p)),(19,(ii (Xu (CB l0)))),(123,(dt v14))],Wf [⟨[(.int .u8 bT),(ii bU),(ii bV),(ii bW)],42,none⟩] 0,1,[],true⟩,[],.leaf⟩) 23 [] ⟨[0],[1],[some [5,7,18,19,123]],[]⟩ ⟨[(123,.frz v14.length v14.length (Zz v14) (Zz v14))],[],[]⟩ [false] (pp (xZ (DE 7 7 0 v14.length v14.length (Zz v14)) v14.length (Zz v14)) (pp (xL v14.length v14.length) (pp (xS v14.length (Zz v14) (Zz v14)) (pp (fl v14 nn) (pp (pp (xr l0) (xw q1_0)) (tt k0 nn))))))) (lo fun aK=>let f:=pp (pp (xr v14) (xw aK)) nn;let o:=Xu (CB v14);(lb (fun k1=>let e:=yt (GH k1) (tt k1 f);(lb (fun k2=>(lb (fun k3=>(lr 174 7 (pn 4863) 1 7 [(6,(.bool true))] (sl Wm 47 [] (b8 [6]) b7 (CL 6 (bl 17 131068)) (tt k3 (tt k2 e))))) (fun k3=>let q:=tt k3 (tt k2 e);(lb (fun k4=>(lr 174 7 (pn 4863) 1 7 [(6,(.bool true))] (sl Wm 47 [] (b8 [6]) b7 (CL 6 (bl 17 127996)) (tt k4 q)))) (fun k4=>(lr 174 7 (pn 4863) 1 7 [(6,(.bool (o == 4)))] (sl Wm 47 [] (b8 [6]) b7 (CL 6 (bl 17 78844)) (tt k4 q)))))))) (fun k2=>(lb (fun k3=>let m:=tt k3 (tt k2 e);(lb (fun k4=>(lr 174 7 (pn 4863) 1 7 [(6,(.bool true))] (sl Wm 47 [] (b8 [6]) b7 (CL 6 (bl 17 131020)) (tt k4 m)))) (fun k4=>(lb (fun k5=>(lr 174 7 (pn 4863) 1 7 [(6,(.bool true))] (sl Wm 47 [] (b8 [6]) b7 (CL 6 (bl 17 127948)) (tt k5 (tt k4 m))))) (fun k5=>(lr 174 7 (pn 4863) 1 7 [(6,(.bool (o == 4)))] (sl Wm 47 [] (b8 [6]) b7 (CL 6 (bl 17 78796)) (tt k5 (tt k4 m))))))))) (fun k3=>(lr 174 7 (pn 4863) 1 7 [(6,(.bool false))] (sl Wm 47 [] (b8 [6]) b7 (CL 6 (bl 13 76)) (tt k3 (tt k2 e))))))))) (fun k1=>(lb (fun k2=>let l:=yt (GH k2) (yt (u6i k1) (tt k2 (tt k1 f)));(lb (fun k3=>(lr 174 7 (pn 4863) 1 7 [(6,(.bool true))] (sl Wm 47 [] (b8 [6]) b7 (bl 23 8191996) (tt k3 l)))) (fun k3=>(lr 174 7 (pn 4863) 1 7 [(6,(.bool (o == 4)))] (sl Wm 47 [] (b8 [6]) b7 (bl 23 5046268) (tt k3 l)))))) (fun k2=>(lo fun cT=>let r:=tt k2 (tt k1 f);(lb (fun k3=>(lr 174 3 (pn 191) 1 7 [(6,(.bool true))] (sl Wm 44 [] (b8 [6]) b7 (bl 10 1016) (tt k3 (pp (pp (xI R6 v.length (Zz v)) (xw cT)) r))))) (fun k3=>(lo fun o0=>let A:=Ys (CB v14);let B:=Wq (CB v) bT bU bV bW;(lr 174 3 (pn 191) 1 7 [(6,(.bool (Kx (CB A) (CB (Wq (CB p) bT bU bV bW)))))] (sl Wm 44 [] (b8 [6]) b7 (bl 10 568) (pp (pp (xI R6 A.length (Zz A)) (pp (xI R6 B.length (Zz B)) (xw o0))) (tt k3 (pp (pp (xI R6 v.length (Zz v)) (xw cT)) r))))))))))))))))))
theorem w1r (l0:zr) (x1:Int) (bT:Int) (bU:Int) (bV:Int) (bW:Int):Xh prog (Zy prog 7) (OZ l0 x1 bT bU bV bW) (Zb prog 7 [(dt l0),(.int .i64 x1),(.agg [(.int .u8 bT),(.int .i64 bU),(.int .i64 bV),(.int .i64 bW)])] true []) (XH l0 x1 bT bU bV bW):=let d:=pp (xr l0) nn;(lb (fun k0=>(lb (fun k1=>(lo fun bS=>let b:=pp (pp (xr l0) (xw bS)) (tt k1 (tt k0 d));(lb (fun k2=>(lr 174 7 (pn 75) 1 7 [(6,(.bool true))] (sl Wm 54 [] (b8 [6]) b7 (CL 12 []) (tt k2 b)))) (fun k2=>(lb (fun k3=>(lr 174 7 (pn 75) 1 7 [(6,(.bool true))] (sl Wm 54 [] (b8 [6]) b7 (CL 6 (bl 6 56)) (tt k3 (tt k2 b))))) (fun k3=>let c:=tt k3 (tt k2 b);(lb (fun k4=>(lb (fun k5=>(lo fun dU=>(lo fun dZ=>(lo fun eA=>(lo fun eB=>let a:=pp (pp (xr l0) (xw dU)) (tt k5 (tt k4 c));(lb (fun k6=>(lb (fun k7=>(lr 174 7 (pn 5079) 1 7 [(6,(.bool false))] (sl Wm 121 [] (b8 [6]) b7 (CL 6 (bl 23 8388544)) (tt k7 (tt k6 (pp (pp (xI R6 (rd l0 (tn x1)).s.length (Zz (rd l0 (tn x1)).s)) (xw eB)) (ww eA (pp (pp (xI R6 (Js (CB l0) x1).length (Zz (Js (CB l0) x1))) (xw dZ)) a)))))))) (fun k7=>(lb (fun k8=>(lr 174 7 (pn 5079) 1 7 [(6,(.bool false))] (sl Wm 121 [] (b8 [6]) b7 (CL 6 (bl 23 8339392)) (tt k8 (tt k7 (tt k6 (pp (pp (xI R6 (rd l0 (tn x1)).s.length (Zz (rd l0 (tn x1)).s)) (xw eB)) (ww eA (pp (pp (xI R6 (Js (CB l0) x1).length (Zz (Js (CB l0) x1))) (xw dZ)) a))))))))) (fun k8=>(lb (fun k9=>(lr 174 7 (pn 5079) 1 7 [(6,(.bool false))] (sl Wm 121 [] (b8 [6]) b7 (CL 6 (bl 23 6504384)) (tt k9 (tt k8 (tt k7 (tt k6 (pp (pp (xI R6 (rd l0 (tn x1)).s.length (Zz (rd l0 (tn x1)).s)) (xw eB)) (ww eA (pp (pp (xI R6 (Js (CB l0) x1).length (Zz (Js (CB l0) x1))) (xw dZ)) a)))))))))) (fun k9=>(sl Wm 137 [] ⟨[0],[],ZV,ZU⟩ b7 (CL 6 (bl 23 2310080)) (tt k9 (tt k8 (tt k7 (tt k6 (pp (pp (xI R6 (rd l0 (tn x1)).s.length (Zz (rd l0 (tn x1)).s)) (xw eB)) (ww eA (pp (pp (xI R6 (Js (CB l0) x1).length (Zz (Js (CB l0) x1))) (xw dZ)) a))))))))))))))) (fun k6=>(sl Wm 137 [] ⟨[0],[],ZV,ZU⟩ b7 (CL 6 (bl 18 1984)) (tt k6 (pp (pp (xI R6 (rd l0 (tn x1)).s.length (Zz (rd l0 (tn x1)).s)) (xw eB)) (ww eA (pp (pp (xI R6 (Js (CB l0) x1).length (Zz (Js (CB l0) x1))) (xw dZ)) a)))))))))))) (fun k5=>(sl Wm 83 [] ⟨[0],[],ZV,ZU⟩ b7 (CL 6 (bl 11 960)) (tt k5 (tt k4 c)))))) (fun k4=>(sl Wm 83 [] ⟨[0],[],ZV,ZU⟩ b7 (CL 6 (bl 11 0)) (tt k4 c)))))))))) (fun k1=>(lr 174 7 (pn 75) 1 7 [(6,(.bool true))] (sl Wm 54 [] (b8 [6]) b7 (CL 3 (bl 9 504)) (tt k1 (tt k0 d))))))) (fun k0=>(lr 174 7 (pn 75) 1 7 [(6,(.bool true))] (sl Wm 54 [] (b8 [6]) b7 (bl 12 4032) (tt k0 d)))))
theorem lmv_ends (l0:zr) (x1:Int) (bT:Int) (bU:Int) (bV:Int) (bW:Int) (n:Nat) (vs:zy) (h:Yj (Jx l0 x1 bT bU bV bW) n (XH l0 x1 bT bU bV bW)=.ret vs):Ji prog (Zy prog 7) (Zb prog 7 [(dt l0),(.int .i64 x1),(.agg [(.int .u8 bT),(.int .i64 bU),(.int .i64 bV),(.int .i64 bW)])] true []) vs:=by have:=Zf (v0j l0 x1 bT bU bV bW) n _ (w1r l0 x1 bT bU bV bW);rwa [h] at this
def DC (X:zx) (x y z:Int):Prop:= ∃r∈X,(r.a<=x/\x<r.d)/\(r.b<=y/\y<r.e)/\(r.c<=z/\z<r.f)
theorem MU (X:zx) (x y z:Int):DC X x y z↔CQ Ch.inB X (z,x,y):=by
 constructor
 .rintro ⟨r,hr,h1,h2,h3⟩;exact ⟨r,hr,h3.1,h3.2,h1.1,h1.2,h2.1,h2.2⟩
 .rintro ⟨r,hr,h1,h2,h3,h4,h5,h6⟩;exact ⟨r,hr,⟨h3,h4⟩,⟨h5,h6⟩,h1,h2⟩
namespace CM
variable {α β:Type} {D:CM α β}
theorem j6p (hD:D.Fair) (s:List β) (a b x:Int):D.inn (s.map (D.put a b)) x=if a<=x/\x<b then s else []:=by
 unfold inn;have e:(s.map (D.put a b)).filter (fun r=>decide (D.lo r<=x)&&decide (x<D.hi r))=if a<=x/\x<b then s.map (D.put a b) else []:=by
  split
  .rename_i h;refine List.filter_eq_self.2 fun r hr=> ?_;obtain ⟨c,_,rfl⟩:=A2.1 hr;rw [hD.lo_put,hD.hi_put,Af h.1,Af h.2];rfl
  .rename_i h;refine List.filter_eq_nil_iff.2 fun r hr hq=>h ?_;obtain ⟨c,_,rfl⟩:=A2.1 hr;rw [hD.lo_put,hD.hi_put,Ac] at hq;exact ⟨Ay hq.1,Ay hq.2⟩
 rw [e];split
 .rw [BW];exact (BZ fun c _=>hD.pr_put a b c).trans (List.map_id _)
 .rfl
theorem inn_can (hD:D.Fair) {γ:Type} (M:Sem β γ) (x:Int): ∀G:List (C8 β),Cf M G->M.can (D.inn (D.flat G) x)
 | [],_=>M.nil
 | g::r,h=>by
  rw [show D.flat (g::r)=g.s.map (D.put g.a g.b)++D.flat r from rfl,D.inn_append,j6p hD];split
  .rename_i hx;have e:D.inn (D.flat r) x=[]:=by unfold inn;rw [List.map_eq_nil_iff,List.filter_eq_nil_iff];intro a ha hq;obtain ⟨k,hk,ha⟩:=AM.1 ha;obtain ⟨c,_,rfl⟩:=A2.1 ha;rw [hD.lo_put,Ac] at hq;have h1:=Ay hq.1;have:=h.later k hk;omega
   rw [e,AG];exact h.head.2.1
  .rw [A0];exact inn_can hD M x r h.tail
end CM
theorem x2q {L:zx} (hl:L.length<=400) (hv: ∀r∈L,CX r=true) (hc:Ch.can L):Yv L=0:=by
 have hi: ∀z,D4.out (D6.inn L z)=D6.inn L z:=fun z=>by obtain ⟨h1,h2⟩:=M0 (RE hv z) (AI (D6.inn_length L z) hl);obtain ⟨G,hG,e⟩:=hc;exact C5.uniq _ _ h1 (by rw [e];exact CM.inn_can MN C5 z G hG) h2
 have hs:V5 L:=fun z=>by rw [hi z];exact AI (D6.inn_length L z) hl
 obtain ⟨h1,h2⟩:=j2w hv hl hs;have e:=Ch.uniq _ _ h1 hc h2;have ok: ∀k i,Cp L k i=true:=fun k=>by
  induction k with
  | zero=>intro i;rfl
  | succ k ih=>intro i;show (bif Xx (D6.inn L (rd (D6.cuts L) i)) != 0 then false else Cp L k (i+1))=true;rw [(SF (RE hv _) (AI (D6.inn_length L _) hl) (hs _)).2];exact ih (i+1)
 unfold Yv;rw [An (by omega),As.2 hv,ok,e,An (by omega),show Kx L L=true from Af rfl];rfl
theorem w5d :Yv []=0:=x2q (AA _) (fun r hr=>by cases hr) ⟨[],.nil,rfl⟩
open Go.Proofs Go.Sort Go.Shelf Go.RowKit Go.Lib
theorem CM.goS_cg {α β:Type} (D:CM α β) (f g:Int->List β) (cs:zq): ∀(k i:Nat) (s:Sw α β),(∀j,i<=j->j<i+k->f (rd cs j)=g (rd cs j))->D.goS f cs k i s=D.goS g cs k i s
 | 0,i,s,_=>rfl
 | k+1,i,s,h=>by show D.goS f cs k (i+1) (D.oneS (f (rd cs i)) _ _ s)=D.goS g cs k (i+1) (D.oneS (g (rd cs i)) _ _ s);rw [h i (Aq _) (by omega)];exact goS_cg D f g cs k (i+1) _ fun j h1 h2=>h j (by omega) (by omega)
theorem y8h {n:Nat} (h:Dc n=0):n<=400:=by
 unfold Dc at h;by_cases q:(n:Int)>400
 .rw [Af q] at h;cases h
 .omega
theorem v5e {l:zu} (h:Xx l=0):l.length<=400/\(∀r∈l,CW r=true)/\Za l=D4.out l:=by
 unfold Xx at h;cases g1:decide (400<l.length) with
 | true=>rw [g1] at h;cases h
 | false=>
  cases g2:l.all CW with
  | false=>rw [g1,g2] at h;cases h
  | true=>
   rw [g1,g2,Aa,Ab] at h;have hl:l.length<=400:=by have:=BF g1;omega
   refine ⟨hl,As.1 g2,?_⟩;exact (SF (As.1 g2) hl (y8h h)).1
theorem w5y {l:zx}: ∀(k i:Nat),Cp l k i=true-> ∀j,i<=j->j<i+k->Xx (D6.inn l (rd (D6.cuts l) j))=0
 | 0,i,h,j,h1,h2=>by omega
 | k+1,i,h,j,h1,h2=>by
  unfold Cp at h;rcases Xw (Ew l (rd (D6.cuts l) i)) with q | q
  .rw [q] at h;cases h
  .rw [q,Aa] at h;rcases Bm h1 with e | e
   .rw [<-e];unfold Ew at q
    simpa using q
   .exact w5y k (i+1) h j e (by omega)
theorem w5a {l:zx} (h:Jm l=0):l.length<=400/\(∀r∈l,CX r=true)/\Cp l ((D6.cuts l).length - 1) 0=true/\(D6.out l).length <=400:=by
 unfold Jm at h;cases g1:decide (400<l.length) with
 | true=>rw [g1] at h;cases h
 | false=>
  cases g2:l.all CX with
  | false=>rw [g1,g2] at h;cases h
  | true=>
   rw [g1,g2,Aa,Ab] at h;cases g3:Cp l ((D6.cuts l).length - 1) 0 with
   | false=>rw [g3,Aa] at h;have:=Yl _ _ g3;rw [h] at this;cases this
   | true=>rw [g3,Ab] at h;exact ⟨by have:=BF g1;omega,As.1 g2,rfl,y8h h⟩
theorem v3w {l:zx} (h:Jm l=0):Qx l=D6.out l:=by unfold Qx E6;rw [h];rfl
theorem x9e {l:zx} (h:Jm l=0):Ch.can (Qx l)/\ ∀x y z,DC (Qx l) x y z↔DC l x y z:=by
 obtain ⟨hl,hv,hok,ho⟩:=w5a h;have hf:=w5y _ _ hok;rw [v3w h];have hc:(D6.cuts l).Pairwise (· < ·):=by show (Kr (D6.ends l)).Pairwise (· < ·);rw [Fi];exact (Vi _).1
 have eS:D6.out l=(D6.goS (fun x=>bif Xx (D6.inn l x) != 0 then [] else Za (D6.inn l x)) (D6.cuts l) ((D6.cuts l).length - 1) 0 ⟨[],[],0,0⟩).out :=by unfold CM.out;rw [D6.go_goS,D6.goS_cg (D6.sec l) (fun x=>bif Xx (D6.inn l x) != 0 then [] else Za (D6.inn l x))];intro j h1 h2;show _=bif Xx (D6.inn l _) != 0 then _ else _;rw [hf j h1 h2];rfl
 have hs: ∀x,C5.can (bif Xx (D6.inn l x) != 0 then [] else Za (D6.inn l x)):=fun x=>by
  cases g:(Xx (D6.inn l x) != 0) with
  | true=>exact C5.nil
  | false=>obtain ⟨m1,m2,m3⟩:=v5e (show Xx (D6.inn l x)=0 by simpa using g);rw [Aa,m3];exact (M0 m2 m1).1
 obtain ⟨h1,h2⟩:=CM.goS_can MN y6o C5 (cs:=D6.cuts l) hc hs;rw [eS];refine ⟨h1,fun x y z=> ?_⟩;rw [MU,MU,show CQ Ch.inB _ (z,x,y)↔_ from h2 z (x,y)];have ia: ∀j,j+1<(D6.cuts l).length ->rd (D6.cuts l) j<=z->z<rd (D6.cuts l) (j+1)->(CQ C5.inB (bif Xx (D6.inn l (rd (D6.cuts l) j)) != 0 then [] else Za (D6.inn l (rd (D6.cuts l) j))) (x,y)↔CQ Ch.inB l (z,x,y)):=fun j j1 j2 j3=>by have q:=hf j (AA _) (by omega);obtain ⟨m1,m2,m3⟩:=v5e q;rw [q,show ((0:Int) != 0)=false from rfl,Aa,m3,(M0 m2 m1).2,CM.inn_slab l l (fun r hr=>hr) j1 j2 j3];exact CM.pt_inn (D:=D6) C5.inB l z (x,y)
 constructor
 .rintro ⟨j,j1,j2,j3,j4⟩;exact (ia j j1 j2 j3).1 j4
 .intro hp;refine A9 fun hn=> ?_;have hx: ∀j,j+1<(D6.cuts l).length -> ¬(rd (D6.cuts l) j<=z/\z<rd (D6.cuts l) (j+1)):=fun j j1 j2=>hn ⟨j,j1,j2.1,j2.2,(ia j j1 j2.1 j2.2).2 hp⟩;have g:=(CM.pt_inn (D:=D6) C5.inB l z (x,y)).2 hp;rw [CM.inn_out l l (fun r hr=>hr) hx] at g;exact Sm _ _ g
theorem u0s {L:zx} (h:Yv L=0):Jm L=0/\Qx L=L:=by
 have hs:=JF h;have key:Jm L=0:=by
  unfold Yv at h;unfold Jm;cases g1:decide (400<L.length) with
  | true=>rw [g1] at h;cases h
  | false=>
   cases g2:L.all CX with
   | false=>rw [g1,g2] at h;cases h
   | true=>
    rw [g1,g2,Aa,Ab] at h;cases g3:Cp L ((D6.cuts L).length - 1) 0 with
    | false=>rw [g3] at h;cases h
    | true=>rw [Aa,Ab,Ab];unfold Dc;rw [<-hs.2.2.1,Xb (by have:=hs.1;omega)];rfl
 exact ⟨key,(v3w key).trans hs.2.2.1.symm⟩
theorem x9j {L:zx} (h:Yv L=0):Ch.can L:=by obtain ⟨h1,h2⟩:=u0s h;have:=(x9e h1).1;rwa [h2] at this
theorem u1i {L M:zx} (hL:Yv L=0) (hM:Yv M=0) (h: ∀x y z,DC L x y z↔DC M x y z):L=M:=
 Ch.uniq L M (x9j hL) (x9j hM) fun ⟨z,x,y⟩=>by rw [<-MU,<-MU];exact h x y z
def Fx (a b t:Int):Int:=if a<=t/\t<b then 1 else 0
def GU (lo:Int) (n:Nat):zq:=(List.range n).map fun (k:Nat)=>lo+(k:Int)
theorem v7o (a b lo:Int): ∀n:Nat,sm (GU lo n) (Fx a b)=ovl a b lo (lo+n)
 | 0=>by show (0:Int)=_;unfold ovl;omega
 | n+1=>by unfold GU;rw [Bw,BC,y6m];have:=v7o a b lo n;unfold GU at this;rw [this,AT,BL,Kp,ZI];unfold Fx ovl;split <;> omega
theorem y2h (a b t:Int):0<=Fx a b t:=by unfold Fx;split <;> omega
def Pts (p:zq):Prop:=(∀a b,-1000005<=a/\b<=1000005->sm p (Fx a b)=max 0 (b - a))/\p.length=2000010
def Di (p:zq) (f:Int->Int->Int->Int):Int:=sm p fun x=>sm p fun y=>sm p fun z=>f x y z
theorem u6p {p:zq} {f g:Int->Int->Int->Int} (h: ∀x y z,f x y z=g x y z):Di p f=Di p g:=by
 have:f=g:=by funext x y z;exact h x y z
 rw [this]
theorem V7 {p:zq} {α:Type} (l:List α) (f:α->Int->Int->Int->Int):Di p (fun x y z=>sm l fun a=>f a x y z)=sm l fun a=>Di p (f a):=by unfold Di;rw [Sq l p];refine Ve fun x _=> ?_;rw [Sq l p];exact Ve fun y _=>Sq _ _ _
theorem QN {p:zq} (f g h:Int->Int):Di p (fun x y z=>f x*g y*h z)=sm p f*sm p g*sm p h:=by unfold Di;simp only [j2x,Int.mul_assoc];rw [<-u7k];refine Ve fun x _=> ?_;rw [<-u7k]
def inR (r:R6) (x y z:Int):Int:=Fx r.a r.d x*Fx r.b r.e y*Fx r.c r.f z
theorem x1k (r:R6) (x y z:Int):0<=inR r x y z:=Int.mul_nonneg (Int.mul_nonneg (y2h ..) (y2h ..)) (y2h ..)
theorem ZD (r:R6) (x y z:Int):inR r x y z=if (r.a<=x/\x<r.d)/\(r.b<=y/\y<r.e)/\(r.c<=z/\z<r.f) then 1 else 0:=by unfold inR Fx;by_cases h1:r.a<=x/\x<r.d <;> by_cases h2:r.b<=y/\y<r.e <;> by_cases h3:r.c<=z/\z<r.f <;> simp [h1,h2,h3]
def EU (X:zx) (x y z:Int):Int:=sm X fun r=>inR r x y z
theorem v1x (X:zx) (x y z:Int):0<=EU X x y z:=x5k fun r _=>x1k r x y z
theorem j1i : ∀(X:zx),X.Pairwise Rt-> ∀x y z,EU X x y z<=1
 | [],_,x,y,z=>by show (0:Int)<=1;omega
 | r::X,h,x,y,z=>by
  obtain ⟨h1,h2⟩:=A5.1 h;have ih:=j1i X h2 x y z;have e:EU (r::X) x y z=inR r x y z+EU X x y z:=Kp _ _ _;rw [e,ZD];split
  .rename_i hp;have:EU X x y z=0:=by
    have:EU X x y z=sm X fun _=>0:=Ve fun s hs=>by rw [ZD];refine Az fun hq=> ?_;have:=h1 s hs;unfold Rt at this;omega
    rw [this,HN]
   omega
  .omega
theorem TG (X:zx) (hX:X.Pairwise Rt) (x y z:Int):(DC X x y z->EU X x y z=1)/\(¬DC X x y z->EU X x y z=0):=by
 have h0:=v1x X x y z;have h1:=j1i X hX x y z;constructor
 .rintro ⟨r,hr,hp⟩;have:EU X x y z≠0:=fun e=>by have:=w8l (fun r _=>x1k r x y z) e r hr;rw [ZD,AF hp] at this;cases this
  omega
 .intro hn;have:EU X x y z=sm X fun _=>0:=Ve fun r hr=>by rw [ZD];exact Az fun hp=>hn ⟨r,hr,hp⟩
  rw [this,HN]
structure GD (X:zx):Prop where
 len:X.length<=400
 val: ∀r∈X,CX r=true
 ap:X.Pairwise Rt
theorem GD.of {X:zx} (h:Yv X=0):GD X:=⟨(JF h).1,(JF h).2.1,(JF h).2.2.2⟩
theorem GD.bnd {X:zx} (h:GD X) {x y z:Int} (hp:DC X x y z):(-1000000<=x/\x<1000000)/\(-1000000<=y/\y<1000000)/\(-1000000<=z/\z<1000000):=by obtain ⟨r,hr,h1,h2,h3⟩:=hp;have:=Mg (h.val r hr);omega
theorem VL {p:zq} (hp:Pts p) (r:R6) (hr:CX r=true):Di p (inR r)=VM r:=by have hv:=Mg hr;show Di p (fun x y z=>Fx r.a r.d x*Fx r.b r.e y*Fx r.c r.f z)=_;rw [QN,hp.1 _ _ (by omega),hp.1 _ _ (by omega),hp.1 _ _ (by omega)];unfold VM;rw [show max 0 (r.d - r.a)=r.d - r.a by omega,show max 0 (r.e - r.b)=r.e - r.b by omega,show max 0 (r.f - r.c)=r.f - r.c by omega]
theorem NP {p:zq} (hp:Pts p) {X:zx} (h:GD X):sm X VM=Di p (EU X):=by show _=Di p (fun x y z=>sm X fun r=>inR r x y z);rw [V7];exact Ve fun r hr=>(VL hp r (h.val r hr)).symm
theorem x7c (E:Int->Int) (cs:zq): ∀(k i:Nat),DK E cs k i=0-> ∀j,i<=j->j<i+k->E (rd cs j)=0
 | 0,i,_,j,h1,h2=>by omega
 | k+1,i,h,j,h1,h2=>by
  change (bif E (rd cs i) != 0 then E (rd cs i) else DK E cs k (i+1))=0 at h;cases g:(E (rd cs i) != 0) with
  | true=>rw [g,Ab] at h;rw [h] at g;cases g
  | false=>
   rw [g,Aa] at h;rcases Bm h1 with e | e
   .rw [<-e];simpa using g
   .exact x7c E cs k (i+1) h j e (by omega)
theorem CM.goS_congr {α β:Type} (D:CM α β) (f g:Int->List β) (cs:zq): ∀(k i:Nat) (s:Sw α β),(∀j,i<=j->j<i+k->f (rd cs j)=g (rd cs j))->D.goS f cs k i s=D.goS g cs k i s
 | 0,i,s,_=>rfl
 | k+1,i,s,h=>by show D.goS f cs k (i+1) (D.oneS (f (rd cs i)) _ _ s)=D.goS g cs k (i+1) (D.oneS (g (rd cs i)) _ _ s);rw [h i (Aq _) (by omega)];exact goS_congr D f g cs k (i+1) _ fun j h1 h2=>h j (by omega) (by omega)
theorem w5b {q:Op} {a b:zx} (h:FA q a b=0):Yv a=0/\Yv b=0/\DK (Cv q a b) (D6.cuts (a++b)) ((D6.cuts (a++b)).length - 1) 0=0:=by
 unfold FA at h;cases g1:(Yv a != 0) with
 | true=>rw [g1,Ab] at h;rw [h] at g1;cases g1
 | false=>
  cases g2:(Yv b != 0) with
  | true=>rw [g1,g2,Aa,Ab] at h;rw [h] at g2;cases g2
  | false=>
   rw [g1,g2,Aa,Aa] at h;unfold eJ at h;refine ⟨by simpa using g1,by simpa using g2,?_⟩;cases g3:(DK (Cv q a b) (D6.cuts (a++b)) ((D6.cuts (a++b)).length - 1) 0 != 0) with
   | true=>rw [g3,Ab] at h;rw [h] at g3;cases g3
   | false=>simpa using g3
theorem v5i {l:zu} (h:DU l=0): ∀r∈l,CW r=true:=by
 unfold DU at h;cases g1:decide (400<l.length) with
 | true=>rw [g1] at h;cases h
 | false=>
  cases g2:l.all CW with
  | false=>rw [g1,g2] at h;cases h
  | true=>exact As.1 g2
theorem v5g {l:zu} (h:Xx l=0):l.length<=400/\(∀r∈l,CW r=true)/\Za l=D4.out l:=by
 unfold Xx at h;cases g1:decide (400<l.length) with
 | true=>rw [g1] at h;cases h
 | false=>
  cases g2:l.all CW with
  | false=>rw [g1,g2] at h;cases h
  | true=>
   rw [g1,g2,Aa,Ab] at h;have hl:l.length<=400:=by have:=BF g1;omega
   refine ⟨hl,As.1 g2,?_⟩;have h2:(D4.out l).length <=400:=Wl h;exact (SF (As.1 g2) hl h2).1
instance ptDec6 (l:zx) (p:Int×Int×Int):Decidable (CQ Ch.inB l p):=Classical.propDecidable _
theorem v3z {q:Op} {a b:zx} {x:Int} (h:Cv q a b x=0):C5.can (Cb q a b x)/\ ∀p,CQ C5.inB (Cb q a b x) p↔Dr q.k (decide (CQ Ch.inB a (x,p))) (decide (CQ Ch.inB b (x,p)))=true:=by
 obtain ⟨h1,h2,h3⟩:=x2n h;obtain ⟨c1,c2,_⟩:=w5n h3;obtain ⟨k1,k2,_⟩:=j4x q.k (v5i c1) (v5i c2);refine ⟨k1,fun p=> ?_⟩;have e: ∀l:zx,Xx (D6.inn l x)=0->decide (CQ C5.inB (Za (D6.inn l x)) p)=decide (CQ Ch.inB l (x,p)):=fun l hl=>by
  obtain ⟨m1,m2,m3⟩:=v5g hl;have:CQ C5.inB (Za (D6.inn l x)) p↔CQ Ch.inB l (x,p):=by rw [m3,(M0 m2 m1).2 p];exact CM.pt_inn (D:=D6) C5.inB l x p
  exact decide_eq_decide.2 this
 rw [show CQ C5.inB (Cb q a b x) p↔_ from k2 p,e a h1,e b h2]
theorem u1f {q:Op} {a b:zx} (h:DK (Cv q a b) (D6.cuts (a++b)) ((D6.cuts (a++b)).length - 1) 0=0):Ch.can (FY q a b)/\ ∀p,CQ Ch.inB (FY q a b) p↔Dr q.k (decide (CQ Ch.inB a p)) (decide (CQ Ch.inB b p))=true:=by
 have hf:=x7c _ _ _ _ h;have hc:(D6.cuts (a++b)).Pairwise (· < ·):=by show (Kr (D6.ends (a++b))).Pairwise (· < ·);rw [Fi];exact (Vi _).1
 have eS:FY q a b=(D6.goS (fun x=>bif Cv q a b x != 0 then [] else Cb q a b x) (D6.cuts (a++b)) ((D6.cuts (a++b)).length - 1) 0 ⟨[],[],0,0⟩).out :=by unfold FY;rw [D6.goS_congr (Cb q a b) (fun x=>bif Cv q a b x != 0 then [] else Cb q a b x)];intro j h1 h2;show _=bif Cv q a b _ != 0 then _ else _;rw [hf j h1 h2];rfl
 have hs: ∀x,C5.can (bif Cv q a b x != 0 then [] else Cb q a b x):=fun x=>by
  cases g:(Cv q a b x != 0) with
  | true=>exact C5.nil
  | false=>exact (v3z (by simpa using g)).1
 obtain ⟨h1,h2⟩:=CM.goS_can MN y6o C5 (cs:=D6.cuts (a++b)) hc hs;rw [eS];refine ⟨h1,fun ⟨x,p⟩=> ?_⟩;rw [show CQ Ch.inB _ (x,p)↔_ from h2 x p];have ia: ∀j,j+1<(D6.cuts (a++b)).length ->rd (D6.cuts (a++b)) j<=x->x<rd (D6.cuts (a++b)) (j+1)->(CQ C5.inB (bif Cv q a b (rd (D6.cuts (a++b)) j) != 0 then [] else Cb q a b (rd (D6.cuts (a++b)) j)) p↔Dr q.k (decide (CQ Ch.inB a (x,p))) (decide (CQ Ch.inB b (x,p)))=true):=fun j j1 j2 j3=>by
  have z:=hf j (AA _) (by omega);have e: ∀l:zx,(∀r∈l,r∈a++b)->decide (CQ Ch.inB l (rd (D6.cuts (a++b)) j,p))=decide (CQ Ch.inB l (x,p)):=fun l hl=>by
   have:CQ Ch.inB l (rd (D6.cuts (a++b)) j,p)↔CQ Ch.inB l (x,p):=by rw [show CQ Ch.inB l (rd (D6.cuts (a++b)) j,p)↔_ from (CM.pt_inn (D:=D6) C5.inB l _ p).symm,CM.inn_slab (a++b) l hl j1 j2 j3];exact CM.pt_inn (D:=D6) C5.inB l x p
   exact decide_eq_decide.2 this
  rw [z,show ((0:Int) != 0)=false from rfl,Aa,(v3z z).2,e a fun r hr=>AJ.2 (.inl hr),e b fun r hr=>AJ.2 (.inr hr)]
 constructor
 .rintro ⟨j,j1,j2,j3,j4⟩;exact (ia j j1 j2 j3).1 j4
 .intro hp;refine A9 fun hn=> ?_;have hx: ∀j,j+1<(D6.cuts (a++b)).length -> ¬(rd (D6.cuts (a++b)) j<=x/\x<rd (D6.cuts (a++b)) (j+1)):=fun j j1 j2=>hn ⟨j,j1,j2.1,j2.2,(ia j j1 j2.1 j2.2).2 hp⟩;have e: ∀l:zx,(∀r∈l,r∈a++b)->decide (CQ Ch.inB l (x,p))=false:=fun l hl=>An fun g=>by have g:=(CM.pt_inn (D:=D6) C5.inB l x p).2 g;rw [CM.inn_out (a++b) l hl hx] at g;exact Sm _ _ g
  rw [e a fun r hr=>AJ.2 (.inl hr),e b fun r hr=>AJ.2 (.inr hr),u9y] at hp;cases hp
instance inSDec (l:zx) (x y z:Int):Decidable (DC l x y z):=Classical.propDecidable _
theorem j3h {q:Op} {a b:zx} (h:FA q a b=0):Ch.can (FY q a b)/\ ∀p,CQ Ch.inB (FY q a b) p↔Dr q.k (decide (CQ Ch.inB a p)) (decide (CQ Ch.inB b p))=true:=u1f (w5b h).2.2
theorem TJ (x y z:Int):Fy x y z=true↔DV x y z:=RG x y z
theorem v9i {L:zx} (hc:Ch.can L) (hb: ∀x y z,DC L x y z->(-1000000<=x/\x<1000000)/\(-1000000<=y/\y<1000000)/\(-1000000<=z/\z<1000000)): ∀r∈L,CX r=true:=fun r hr=>by
 have hp:r.a<r.d/\r.b<r.e/\r.c<r.f:=by obtain ⟨G,hG,e⟩:=hc;rw [e] at hr;obtain ⟨g,hg,hr⟩:=AM.1 hr;obtain ⟨b,hb,rfl⟩:=A2.1 hr;obtain ⟨h1,⟨H,hH,e2⟩,_⟩:=hG.all g hg;rw [e2] at hb;obtain ⟨k,hk,hb⟩:=AM.1 hb;obtain ⟨c,hc,rfl⟩:=A2.1 hb;obtain ⟨h2,h3,_⟩:=hH.all k hk;exact ⟨h2,DD.pos h3 c hc,h1⟩
 have h1:=hb r.a r.b r.c ⟨r,hr,by omega,by omega,by omega⟩;have h2:=hb (r.d - 1) (r.e - 1) (r.f - 1) ⟨r,hr,by omega,by omega,by omega⟩;rw [TV];simp only [E7,Ac,Ao];omega
theorem u0r {bx:zx} (h:Jm bx=0): ∀r∈Qx bx,CX r=true:=by obtain ⟨hl,hv,_,_⟩:=w5a h;obtain ⟨c,pts⟩:=x9e h;refine v9i c fun x y z k=> ?_;obtain ⟨r,hr,h1,h2,h3⟩:=(pts x y z).1 k;have:=Mg (hv r hr);omega
theorem j3a (l:zx):(Qx l).length <=400:=by
 unfold Qx E6;cases g:(Jm l != 0) with
 | true=>exact AA _
 | false=>
  rw [Aa];have h:Jm l=0:=by simpa using g
  unfold Jm at h;cases g1:decide (400<l.length) with
  | true=>rw [g1] at h;cases h
  | false=>
   cases g2:l.all CX with
   | false=>rw [g1,g2] at h;cases h
   | true=>
    rw [g1,g2,Aa,Ab] at h;cases g3:Cp l ((D6.cuts l).length - 1) 0 with
    | false=>rw [g3,Aa] at h;have:=Yl _ _ g3;rw [h] at this;cases this
    | true=>rw [g3,Ab] at h;exact Wl h
inductive P6 where
 | xyz | xzy | yxz | yzx | zxy | zyx
def P6.a (p:P6) (x y z:Int):Int:=match p with
 | .xyz =>x
 | .xzy =>x
 | .yxz =>y
 | .yzx =>y
 | .zxy =>z
 | .zyx =>z
def P6.b (p:P6) (x y z:Int):Int:=match p with
 | .xyz =>y
 | .xzy =>z
 | .yxz =>x
 | .yzx =>z
 | .zxy =>x
 | .zyx =>y
def P6.c (p:P6) (x y z:Int):Int:=match p with
 | .xyz =>z
 | .xzy =>y
 | .yxz =>z
 | .yzx =>x
 | .zxy =>y
 | .zyx =>x
def sg (s:Bool) (x:Int):Int:=match s with
 | true=>x
 | false=> -x
theorem Sr (t:Int) (h0:0<=t) (h:t<24): ∃(p:P6) (s1 s2 s3:Bool),∀x y z:Int,x*(CE t).a +y*(CE t).d +z*(CE t).g =sg s1 (p.a x y z)/\x*(CE t).b +y*(CE t).e +z*(CE t).h =sg s2 (p.b x y z)/\x*(CE t).c +y*(CE t).f +z*(CE t).i =sg s3 (p.c x y z):=by
 have:t=0\/t=1\/t=2\/t=3\/t=4\/t=5\/t=6\/t=7\/t=8\/t=9\/t=10\/t=11\/t=12\/t=13\/t=14\/t=15\/t=16\/t=17\/t=18\/t=19\/t=20\/t=21\/t=22\/t=23:=by omega
 rcases this with rfl | rfl | rfl | rfl | rfl | rfl | rfl | rfl | rfl | rfl | rfl | rfl | rfl | rfl | rfl | rfl | rfl | rfl | rfl | rfl | rfl | rfl | rfl | rfl
 .rw [show CE 0=⟨1,0,0,0,1,0,0,0,1⟩ by kernel_rfl];exact ⟨.xyz,true,true,true,fun x y z=>⟨by simp [sg,P6.a],by simp [sg,P6.b],by simp [sg,P6.c]⟩⟩
 .rw [show CE 1=⟨1,0,0,0,-1,0,0,0,-1⟩ by kernel_rfl];exact ⟨.xyz,true,false,false,fun x y z=>⟨by simp [sg,P6.a],by simp [sg,P6.b],by simp [sg,P6.c]⟩⟩
 .rw [show CE 2=⟨1,0,0,0,0,1,0,-1,0⟩ by kernel_rfl];exact ⟨.xzy,true,false,true,fun x y z=>⟨by simp [sg,P6.a],by simp [sg,P6.b],by simp [sg,P6.c]⟩⟩
 .rw [show CE 3=⟨1,0,0,0,0,-1,0,1,0⟩ by kernel_rfl];exact ⟨.xzy,true,true,false,fun x y z=>⟨by simp [sg,P6.a],by simp [sg,P6.b],by simp [sg,P6.c]⟩⟩
 .rw [show CE 4=⟨-1,0,0,0,1,0,0,0,-1⟩ by kernel_rfl];exact ⟨.xyz,false,true,false,fun x y z=>⟨by simp [sg,P6.a],by simp [sg,P6.b],by simp [sg,P6.c]⟩⟩
 .rw [show CE 5=⟨-1,0,0,0,-1,0,0,0,1⟩ by kernel_rfl];exact ⟨.xyz,false,false,true,fun x y z=>⟨by simp [sg,P6.a],by simp [sg,P6.b],by simp [sg,P6.c]⟩⟩
 .rw [show CE 6=⟨-1,0,0,0,0,1,0,1,0⟩ by kernel_rfl];exact ⟨.xzy,false,true,true,fun x y z=>⟨by simp [sg,P6.a],by simp [sg,P6.b],by simp [sg,P6.c]⟩⟩
 .rw [show CE 7=⟨-1,0,0,0,0,-1,0,-1,0⟩ by kernel_rfl];exact ⟨.xzy,false,false,false,fun x y z=>⟨by simp [sg,P6.a],by simp [sg,P6.b],by simp [sg,P6.c]⟩⟩
 .rw [show CE 8=⟨0,1,0,1,0,0,0,0,-1⟩ by kernel_rfl];exact ⟨.yxz,true,true,false,fun x y z=>⟨by simp [sg,P6.a],by simp [sg,P6.b],by simp [sg,P6.c]⟩⟩
 .rw [show CE 9=⟨0,1,0,-1,0,0,0,0,1⟩ by kernel_rfl];exact ⟨.yxz,false,true,true,fun x y z=>⟨by simp [sg,P6.a],by simp [sg,P6.b],by simp [sg,P6.c]⟩⟩
 .rw [show CE 10=⟨0,1,0,0,0,1,1,0,0⟩ by kernel_rfl];exact ⟨.zxy,true,true,true,fun x y z=>⟨by simp [sg,P6.a],by simp [sg,P6.b],by simp [sg,P6.c]⟩⟩
 .rw [show CE 11=⟨0,1,0,0,0,-1,-1,0,0⟩ by kernel_rfl];exact ⟨.zxy,false,true,false,fun x y z=>⟨by simp [sg,P6.a],by simp [sg,P6.b],by simp [sg,P6.c]⟩⟩
 .rw [show CE 12=⟨0,-1,0,1,0,0,0,0,1⟩ by kernel_rfl];exact ⟨.yxz,true,false,true,fun x y z=>⟨by simp [sg,P6.a],by simp [sg,P6.b],by simp [sg,P6.c]⟩⟩
 .rw [show CE 13=⟨0,-1,0,-1,0,0,0,0,-1⟩ by kernel_rfl];exact ⟨.yxz,false,false,false,fun x y z=>⟨by simp [sg,P6.a],by simp [sg,P6.b],by simp [sg,P6.c]⟩⟩
 .rw [show CE 14=⟨0,-1,0,0,0,1,-1,0,0⟩ by kernel_rfl];exact ⟨.zxy,false,false,true,fun x y z=>⟨by simp [sg,P6.a],by simp [sg,P6.b],by simp [sg,P6.c]⟩⟩
 .rw [show CE 15=⟨0,-1,0,0,0,-1,1,0,0⟩ by kernel_rfl];exact ⟨.zxy,true,false,false,fun x y z=>⟨by simp [sg,P6.a],by simp [sg,P6.b],by simp [sg,P6.c]⟩⟩
 .rw [show CE 16=⟨0,0,1,1,0,0,0,1,0⟩ by kernel_rfl];exact ⟨.yzx,true,true,true,fun x y z=>⟨by simp [sg,P6.a],by simp [sg,P6.b],by simp [sg,P6.c]⟩⟩
 .rw [show CE 17=⟨0,0,1,-1,0,0,0,-1,0⟩ by kernel_rfl];exact ⟨.yzx,false,false,true,fun x y z=>⟨by simp [sg,P6.a],by simp [sg,P6.b],by simp [sg,P6.c]⟩⟩
 .rw [show CE 18=⟨0,0,1,0,1,0,-1,0,0⟩ by kernel_rfl];exact ⟨.zyx,false,true,true,fun x y z=>⟨by simp [sg,P6.a],by simp [sg,P6.b],by simp [sg,P6.c]⟩⟩
 .rw [show CE 19=⟨0,0,1,0,-1,0,1,0,0⟩ by kernel_rfl];exact ⟨.zyx,true,false,true,fun x y z=>⟨by simp [sg,P6.a],by simp [sg,P6.b],by simp [sg,P6.c]⟩⟩
 .rw [show CE 20=⟨0,0,-1,1,0,0,0,-1,0⟩ by kernel_rfl];exact ⟨.yzx,true,false,false,fun x y z=>⟨by simp [sg,P6.a],by simp [sg,P6.b],by simp [sg,P6.c]⟩⟩
 .rw [show CE 21=⟨0,0,-1,-1,0,0,0,1,0⟩ by kernel_rfl];exact ⟨.yzx,false,true,false,fun x y z=>⟨by simp [sg,P6.a],by simp [sg,P6.b],by simp [sg,P6.c]⟩⟩
 .rw [show CE 22=⟨0,0,-1,0,1,0,1,0,0⟩ by kernel_rfl];exact ⟨.zyx,true,true,false,fun x y z=>⟨by simp [sg,P6.a],by simp [sg,P6.b],by simp [sg,P6.c]⟩⟩
 .rw [show CE 23=⟨0,0,-1,0,-1,0,-1,0,0⟩ by kernel_rfl];exact ⟨.zyx,false,false,false,fun x y z=>⟨by simp [sg,P6.a],by simp [sg,P6.b],by simp [sg,P6.c]⟩⟩
theorem P6.fine (p:P6) {x y z:Int} (h:DV x y z):DV (p.a x y z) (p.b x y z) (p.c x y z):=by unfold DV at*;cases p <;> simp only [P6.a,P6.b,P6.c] <;> omega
theorem v4a (s:Bool) {x:Int} (h: -1000000<=x/\x<=1000000): -1000000<=sg s x/\sg s x<=1000000:=by cases s <;> simp only [sg] <;> omega
theorem w5 (x y z A D G a v:Int) (e:x*A+y*D+z*G=v) (hv: -1000000<=v/\v<=1000000) (ha: -1000000<=a/\a<=1000000):w4 (x*A) (y*D) (z*G) a=v+a:=by unfold w4;rw [e];exact Zq (by omega)
theorem j1c {t:Int} {p:P6} {s1 s2 s3:Bool} (ht: ∀x y z:Int,x*(CE t).a +y*(CE t).d +z*(CE t).g =sg s1 (p.a x y z)/\x*(CE t).b +y*(CE t).e +z*(CE t).h =sg s2 (p.b x y z)/\x*(CE t).c +y*(CE t).f +z*(CE t).i =sg s3 (p.c x y z)) {a b c x y z:Int} (ha:DV a b c) (hx:DV x y z):
  Cm t a b c x y z=⟨sg s1 (p.a x y z)+a,sg s2 (p.b x y z)+b,sg s3 (p.c x y z)+c⟩:=by
 obtain ⟨e1,e2,e3⟩:=ht x y z;obtain ⟨f1,f2,f3⟩:=p.fine hx;unfold Cm;rw [w5 _ _ _ _ _ _ _ _ e1 (v4a s1 f1) ha.1,w5 _ _ _ _ _ _ _ _ e2 (v4a s2 f2) ha.2.1,w5 _ _ _ _ _ _ _ _ e3 (v4a s3 f3) ha.2.2]
def Fw (s:Bool) (k lo hi:Int):Int:=match s with
 | true=>lo+k
 | false=> -hi+k
def GA (s:Bool) (k lo hi:Int):Int:=match s with
 | true=>hi+k
 | false=> -lo+k
def Ct (s:Bool) (k x:Int):Int:=match s with
 | true=>x+k
 | false=> -x+k - 1
theorem OT (s:Bool) (k:Int) {lo hi:Int} (h:lo<hi):Kz (sg s lo+k) (sg s hi+k)=Fw s k lo hi/\Ky (sg s lo+k) (sg s hi+k)=GA s k lo hi:=by rw [HI,HG];cases s <;> simp only [sg,Fw,GA] <;> omega
theorem IF (s:Bool) (k lo hi x:Int):(Fw s k lo hi<=Ct s k x/\Ct s k x<GA s k lo hi)↔(lo<=x/\x<hi):=by cases s <;> simp only [Fw,GA,Ct] <;> omega
theorem OW (s:Bool) (k:Int) {lo hi:Int} (h:lo<hi):Fw s k lo hi<GA s k lo hi:=by cases s <;> simp only [Fw,GA] <;> omega
def Gb (p:P6) (s1 s2 s3:Bool) (a b c:Int) (r:R6):R6:=⟨Fw s1 a (p.a r.a r.b r.c) (p.a r.d r.e r.f),Fw s2 b (p.b r.a r.b r.c) (p.b r.d r.e r.f),Fw s3 c (p.c r.a r.b r.c) (p.c r.d r.e r.f),GA s1 a (p.a r.a r.b r.c) (p.a r.d r.e r.f),GA s2 b (p.b r.a r.b r.c) (p.b r.d r.e r.f),GA s3 c (p.c r.a r.b r.c) (p.c r.d r.e r.f)⟩
theorem P6.lt (p:P6) {r:R6} (h:CX r=true):p.a r.a r.b r.c<p.a r.d r.e r.f/\p.b r.a r.b r.c<p.b r.d r.e r.f/\p.c r.a r.b r.c<p.c r.d r.e r.f:=by have v:=Mg h;cases p <;> simp only [P6.a,P6.b,P6.c] <;> omega
theorem w7d {r:R6} (h:CX r=true):DV r.a r.b r.c/\DV r.d r.e r.f:=by have v:=Mg h;unfold DV;omega
theorem j2c {r:R6} (h:r.a<r.d/\r.b<r.e/\r.c<r.f/\ -1000000<=r.a/\ -1000000<=r.b/\ -1000000<=r.c/\r.d<=1000000/\r.e<=1000000/\r.f<=1000000):E7 r=true:=by simp only [E7,Ac,Ao];omega
section
variable {t a b c:Int} {p:P6} {s1 s2 s3:Bool} (ht: ∀x y z:Int,x*(CE t).a +y*(CE t).d +z*(CE t).g =sg s1 (p.a x y z)/\x*(CE t).b +y*(CE t).e +z*(CE t).h =sg s2 (p.b x y z)/\x*(CE t).c +y*(CE t).f +z*(CE t).i =sg s3 (p.c x y z)) (h24:t<24) (ha:DV a b c)
include ht h24 ha
theorem v8f :CT t a b c=0:=by have _u:=ht;unfold CT;rw [An (by omega),(TJ a b c).2 ha];rfl
theorem j1d {x y z:Int} (hx:DV x y z) (h:Fg t a b c x y z=0):Ze t a b c x y z=⟨sg s1 (p.a x y z)+a,sg s2 (p.b x y z)+b,sg s3 (p.c x y z)+c⟩/\DV (sg s1 (p.a x y z)+a) (sg s2 (p.b x y z)+b) (sg s3 (p.c x y z)+c):=by
 have e:=j1c ht ha hx;refine ⟨by unfold Ze;rw [h,e];rfl,?_⟩;unfold Fg at h;rw [v8f ht h24 ha,(TJ x y z).2 hx,e] at h;rw [<-TJ];cases g:Fy (sg s1 (p.a x y z)+a) (sg s2 (p.b x y z)+b) (sg s3 (p.c x y z)+c) with
 | true=>rfl
 | false=>simp only [g] at h;cases h
theorem Y8 {r:R6} (hr:CX r=true) (ho:HA t a b c r=true):Fe t a b c r=Gb p s1 s2 s3 a b c r/\CX (Gb p s1 s2 s3 a b c r)=true:=by obtain ⟨f1,f2⟩:=w7d hr;unfold HA at ho;simp only [Ac,Bh,bne_eq_false_iff_eq] at ho;obtain ⟨e1,g1⟩:=j1d ht h24 ha f1 ho.1;obtain ⟨e2,g2⟩:=j1d ht h24 ha f2 ho.2;obtain ⟨l1,l2,l3⟩:=p.lt hr;obtain ⟨m1,m2⟩:=OT s1 a l1;obtain ⟨m3,m4⟩:=OT s2 b l2;obtain ⟨m5,m6⟩:=OT s3 c l3;refine ⟨by unfold Fe Gb;rw [e1,e2];simp only [m1,m2,m3,m4,m5,m6],?_⟩;rw [TV];unfold DV at g1 g2;rw [HI] at m1 m3 m5;rw [HG] at m2 m4 m6;have k1:=OW s1 a l1;have k2:=OW s2 b l2;have k3:=OW s3 c l3;refine j2c ⟨k1,k2,k3,?_,?_,?_,?_,?_,?_⟩ <;> simp only [Gb] <;> omega
end
theorem j1l (p:P6) (s1 s2 s3:Bool) (a b c:Int) (r:R6) (x y z:Int):(((Gb p s1 s2 s3 a b c r).a <=Ct s1 a (p.a x y z)/\Ct s1 a (p.a x y z)<(Gb p s1 s2 s3 a b c r).d)/\((Gb p s1 s2 s3 a b c r).b <=Ct s2 b (p.b x y z)/\Ct s2 b (p.b x y z)<(Gb p s1 s2 s3 a b c r).e)/\((Gb p s1 s2 s3 a b c r).c <=Ct s3 c (p.c x y z)/\Ct s3 c (p.c x y z)<(Gb p s1 s2 s3 a b c r).f))↔((r.a<=x/\x<r.d)/\(r.b<=y/\y<r.e)/\(r.c<=z/\z<r.f)):=by unfold Gb;simp only [IF];cases p <;> simp only [P6.a,P6.b,P6.c] <;> omega
theorem x6j {L:zx} {t a b c:Int} {p:P6} {s1 s2 s3:Bool} (ht: ∀x y z:Int,x*(CE t).a +y*(CE t).d +z*(CE t).g =sg s1 (p.a x y z)/\x*(CE t).b +y*(CE t).e +z*(CE t).h =sg s2 (p.b x y z)/\x*(CE t).c +y*(CE t).f +z*(CE t).i =sg s3 (p.c x y z)) (h24:t<24) (ha:DV a b c) (hL:Yv L=0) (h:Vo L t a b c=0):
  Yv (Wq L t a b c)=0/\(∀x y z,DC (Wq L t a b c) (Ct s1 a (p.a x y z)) (Ct s2 b (p.b x y z)) (Ct s3 c (p.c x y z))↔DC L x y z)/\(∀x y z,DC (Wq L t a b c) x y z-> ∃r∈L,(Fw s1 a (p.a r.a r.b r.c) (p.a r.d r.e r.f)<=x/\x<GA s1 a (p.a r.a r.b r.c) (p.a r.d r.e r.f))/\(Fw s2 b (p.b r.a r.b r.c) (p.b r.d r.e r.f)<=y/\y<GA s2 b (p.b r.a r.b r.c) (p.b r.d r.e r.f))/\(Fw s3 c (p.c r.a r.b r.c) (p.c r.d r.e r.f)<=z/\z<GA s3 c (p.c r.a r.b r.c) (p.c r.d r.e r.f))):=by
 have hv:=(JF hL).2.1;have hk:=v8f ht h24 ha;unfold Vo at h;rw [hL,hk] at h;have h:(bif L.all (HA t a b c) then Jm (L.map (Fe t a b c)) else 16)=0:=h;cases g:L.all (HA t a b c) with
 | false=>rw [g] at h;cases h
 | true=>
  rw [g,Ab] at h;have e0:Wq L t a b c=Qx (L.map (Fe t a b c)):=by unfold Wq;rw [hL,hk,g];rfl
  rw [e0];obtain ⟨c1,c2⟩:=x9e h;refine ⟨x2q (j3a _) (u0r h) c1,fun x y z=> ?_,fun x y z k=> ?_⟩
  rotate_left
  .obtain ⟨m,hm,k⟩:=(c2 x y z).1 k;obtain ⟨r,hr,rfl⟩:=A2.1 hm;rw [(Y8 ht h24 ha (hv r hr) (As.1 g r hr)).1] at k;exact ⟨r,hr,k⟩
  rw [c2];constructor
  .rintro ⟨m,hm,k⟩;obtain ⟨r,hr,rfl⟩:=A2.1 hm;rw [(Y8 ht h24 ha (hv r hr) (As.1 g r hr)).1] at k;exact ⟨r,hr,(j1l p s1 s2 s3 a b c r x y z).1 k⟩
  .rintro ⟨r,hr,k⟩;refine ⟨_,A2.2 ⟨r,hr,rfl⟩,?_⟩;rw [(Y8 ht h24 ha (hv r hr) (As.1 g r hr)).1];exact (j1l p s1 s2 s3 a b c r x y z).2 k
theorem v3v (g:Int->Int) (c:Int): ∀P:zq,c ∉ P->sm P (fun x=>if x=c then g x else 0)=0
 | [],_=>rfl
 | x::P,h=>by rw [Kp,v3v g c P (fun k=>h (by simp [k])),Az (fun e=>h (by simp [e]))];rfl
theorem u7j (g:Int->Int) (c:Int): ∀P:zq,P.Pairwise (· < ·)->(c ∉ P->g c=0)->sm P (fun x=>if x=c then g x else 0)=g c
 | [],_,h=>(h (by simp)).symm
 | x::P,hP,h=>by
  obtain ⟨h1,h2⟩:=A5.1 hP;rw [Kp];by_cases e:x=c
  .subst e;rw [AF rfl,v3v g x P fun k=>by have:=h1 x k;omega];omega
  .rw [Az e,u7j g c P h2 fun k=>h (by simp [k,Ne.symm e])];omega
theorem u7h (g:Int->Int) (lo:Int) (P:zq) (hP:P.Pairwise (· < ·)) (hl: ∀x∈P,lo<=x) (hz: ∀x,x ∉ P->g x=0): ∀n:Nat,sm P (fun x=>if x<lo+(n:Int) then g x else 0)=sm (GU lo n) g
 | 0=>by show _=(0:Int);rw [Ve (g:=fun _=>0) fun x hx=>Az (by have:=hl x hx;omega),HN]
 | n+1=>by
  have ih:=u7h g lo P hP hl hz n;unfold GU at ih ⊢;rw [Bw,BC,y6m,<-ih,AT,BL,Kp,ZI,<-u7j g (lo+(n:Int)) P hP (hz _),Int.add_zero,<-u7m];exact Ve fun x _=>by
   by_cases h1:x<lo+(n:Int)
   .rw [AF h1,AF (by omega),Az (by omega)];omega
   .by_cases h2:x=lo+(n:Int)
    .rw [Az h1,AF h2,AF (by omega)];omega
    .rw [Az h1,Az h2,Az (by omega)];rfl
structure WA (p:zq):Prop where
 pts:Pts p
 sum: ∀(g:Int->Int) (P:zq),P.Pairwise (· < ·)->(∀x∈P,-1000005<=x/\x<1000005)->(∀x,x ∉ P->g x=0)->sm P g=sm p g
theorem Nv : ∃p,WA p:=by
 have key: ∀N:Nat,(N:Int)=2000010->WA (GU (-1000005) N):=fun N hN=>by
  refine ⟨⟨fun a b h=> ?_,?_⟩,fun g P hP hb hz=> ?_⟩
  .rw [v7o];unfold ovl;omega
  .simp only [GU,B3,List.length_range];omega
  .rw [<-u7h g (-1000005) P hP (fun x hx=>(hb x hx).1) hz N];exact Ve fun x hx=>(AF (by have:=hb x hx;omega)).symm
 exact ⟨_,key 2000010 rfl⟩
abbrev F3 :=Int->Int->Int->Int
def Bd (c:F3):Prop:= ∀x y z,c x y z≠0->DV x y z
theorem u3l (lo:Int) (n:Nat):(GU lo n).Pairwise (· < ·):=
 List.pairwise_map.2 (List.pairwise_lt_range.imp fun {a b} h=>by omega)
theorem w5t (lo:Int) (n:Nat) (x:Int):x∈GU lo n↔lo<=x/\x<lo+(n:Int):=by
 unfold GU;rw [A2];constructor
 .rintro ⟨k,hk,rfl⟩;have:=AL.1 hk;omega
 .intro h;exact ⟨(x - lo).toNat,AL.2 (by omega),by omega⟩
theorem u7i (g:Int->Int): ∀(m:Nat) (A:Int),sm (List.range m) (fun i:Nat=>g (A+(m:Int) - 1 - (i:Int)))=sm (List.range m) fun i:Nat=>g (A+(i:Int))
 | 0,_=>rfl
 | m+1,A=>by
  have ih:=u7i g m (A+1);have e:(sm (List.range (m+1)) fun i:Nat=>g (A+(i:Int)))=g A+sm (List.range m) fun i:Nat=>g (A+1+(i:Int)):=by
   rw [List.range_succ_eq_map,Kp,u7l]
   congr 1
   .congr 1;omega
   .exact Ve fun i _=>by congr 1;omega
  rw [e,<-ih,Bw,y6m,Kp,ZI,Int.add_zero,Int.add_comm (g A)]
  congr 1
  .exact Ve fun i _=>by congr 1;omega
  .congr 1;omega
section
variable {p:zq} (hp:WA p)
include hp
theorem u0q {g:Int->Int} {A:Int} {m:Nat} (h1: -1000005<=A) (h2:A+(m:Int)<=1000005) (hg: ∀x,g x≠0->A<=x/\x<A+(m:Int)):sm p g=sm (List.range m) fun i:Nat=>g (A+(i:Int)):=by rw [<-hp.sum g (GU A m) (u3l A m) (fun x hx=>by have:=(w5t A m x).1 hx;omega) fun x hx=>A9 fun k=>hx ((w5t A m x).2 (hg x k))];exact u7l _ _ _
theorem Tq (s:Bool) (k:Int) {g:Int->Int} (h1: ∀x,g x≠0-> -1000000<=x/\x<=1000000) (h2: ∀x,g (sg s x+k)≠0-> -1000000<=x/\x<=1000000):sm p (fun x=>g (sg s x+k))=sm p g:=by
 by_cases hn: ∀x,g x=0
 .rw [Ve (g:=fun _=>0) fun x _=>hn _,HN,Ve (g:=fun _=>0) fun x _=>hn _,HN]
 .have hn: ∃x,g x≠0:=A9 fun k=>hn fun x=>A9 fun j=>k ⟨x,j⟩;obtain ⟨x0,hx0⟩:=hn;have b0:=h1 x0 hx0;cases s with
  | true=>
   have c0:=h2 (x0 - k) (by show g (x0 - k+k)≠0;rwa [Int.sub_add_cancel]);have sup: ∀x,g x≠0->max (-1000000) (-1000000+k)<=x/\x<=min 1000000 (1000000+k):=fun x hx=>by have a:=h1 x hx;have b:=h2 (x - k) (by show g (x - k+k)≠0;rwa [Int.sub_add_cancel]);omega
   rw [u0q hp (g:=g) (A:=max (-1000000) (-1000000+k)) (m:=(min 1000000 (1000000+k) - max (-1000000) (-1000000+k)+1).toNat) (by omega) (by omega) fun x hx=>by have:=sup x hx;omega];show sm p (fun x=>g (x+k))=_;rw [u0q hp (g:=fun x=>g (x+k)) (A:=max (-1000000) (-1000000+k) - k) (m:=(min 1000000 (1000000+k) - max (-1000000) (-1000000+k)+1).toNat) (by omega) (by omega) fun x hx=>by have:=sup (x+k) hx;omega];exact Ve fun i _=>by congr 1;omega
  | false=>
   have c0:=h2 (k - x0) (by show g (-(k - x0)+k)≠0;rwa [show -(k - x0)+k=x0 by omega]);have sup: ∀x,g x≠0->max (-1000000) (k - 1000000)<=x/\x<=min 1000000 (k+1000000):=fun x hx=>by have a:=h1 x hx;have b:=h2 (k - x) (by show g (-(k - x)+k)≠0;rwa [show -(k - x)+k=x by omega]);omega
   rw [u0q hp (g:=g) (A:=max (-1000000) (k - 1000000)) (m:=(min 1000000 (k+1000000) - max (-1000000) (k - 1000000)+1).toNat) (by omega) (by omega) fun x hx=>by have:=sup x hx;omega,<-u7i];show sm p (fun x=>g (-x+k))=_;rw [u0q hp (g:=fun x=>g (-x+k)) (A:=k - min 1000000 (k+1000000)) (m:=(min 1000000 (k+1000000) - max (-1000000) (k - 1000000)+1).toNat) (by omega) (by omega) fun x hx=>by have:=sup (-x+k) hx;omega];exact Ve fun i _=>by congr 1;omega
theorem V8 (s:Bool) (k:Int) {G:F3} (h1: ∀x y z,G x y z≠0-> -1000000<=x/\x<=1000000) (h2: ∀x y z,G (sg s x+k) y z≠0-> -1000000<=x/\x<=1000000):Di p (fun x y z=>G (sg s x+k) y z)=Di p G:=by
 have nz: ∀x,(sm p fun y=>sm p fun z=>G x y z)≠0-> ∃y z,G x y z≠0:=fun x h=>A9 fun k=>h (by
  rw [Ve (g:=fun _=>0) fun y _=>by rw [Ve (g:=fun _=>0) fun z _=>A9 fun j=>k ⟨y,z,j⟩,HN],HN])
 exact Tq hp s k (g:=fun x=>sm p fun y=>sm p fun z=>G x y z) (fun x h=>by obtain ⟨y,z,j⟩:=nz x h;exact h1 x y z j) fun x h=>by obtain ⟨y,z,j⟩:=nz _ h;exact h2 x y z j
end
def Og (c:F3):F3:=fun x y z=>c y x z
def FU (c:F3):F3:=fun x y z=>c x z y
def Rp (s:Bool) (k:Int) (c:F3):F3:=fun x y z=>c (Ct s k x) y z
def OQ (s:Bool) (k:Int) (c:F3):F3:=fun x y z=>c x (Ct s k y) z
def OP (s:Bool) (k:Int) (c:F3):F3:=fun x y z=>c x y (Ct s k z)
theorem Vl (p:zq) (G:F3):Di p (fun x y z=>G y x z)=Di p G:=Sq p p _
theorem V9 (p:zq) (G:F3):Di p (fun x y z=>G x z y)=Di p G:=Ve fun x _=>Sq p p _
structure Gf (W:F3->Int):Prop where
 s12: ∀c,W (Og c)=W c
 s23: ∀c,W (FU c)=W c
 t1: ∀s k c,Bd c->Bd (Rp s k c)->W (Rp s k c)=W c
theorem Bd.s12 {c:F3} (h:Bd c):Bd (Og c):=fun x y z k=>by have:=h y x z k;unfold DV at*;omega
theorem Bd.s23 {c:F3} (h:Bd c):Bd (FU c):=fun x y z k=>by have:=h x z y k;unfold DV at*;omega
namespace Gf
variable {W:F3->Int} (h:Gf W)
include h
theorem t2 (s:Bool) (k:Int) (c:F3) (h1:Bd c) (h2:Bd (OQ s k c)):W (OQ s k c)=W c:=by have e:OQ s k c=Og (Rp s k (Og c)):=rfl;rw [e,h.s12,h.t1 s k _ h1.s12 (by rw [e] at h2;exact h2.s12),h.s12]
theorem t3 (s:Bool) (k:Int) (c:F3) (h1:Bd c) (h2:Bd (OP s k c)):W (OP s k c)=W c:=by have e:OP s k c=FU (OQ s k (FU c)):=rfl;rw [e,h.s23,h.t2 s k _ h1.s23 (by rw [e] at h2;exact h2.s23),h.s23]
theorem perm (p:P6) (c:F3):W (fun x y z=>c (p.a x y z) (p.b x y z) (p.c x y z))=W c:=by
 cases p
 .rfl
 .exact h.s23 c
 .exact h.s12 c
 .exact (h.s12 (FU c)).trans (h.s23 c)
 .exact (h.s23 (Og c)).trans (h.s12 c)
 .exact (h.s12 (FU (Og c))).trans ((h.s23 (Og c)).trans (h.s12 c))
theorem place (p:P6) (s1 s2 s3:Bool) (a b e:Int) {c:F3} (hc:Bd c) (h1: ∀x y z,c (Ct s1 a x) y z≠0-> -1000000<=x/\x<=1000000) (h2: ∀x y z,c x (Ct s2 b y) z≠0-> -1000000<=y/\y<=1000000) (h3: ∀x y z,c x y (Ct s3 e z)≠0-> -1000000<=z/\z<=1000000):
  W (fun x y z=>c (Ct s1 a (p.a x y z)) (Ct s2 b (p.b x y z)) (Ct s3 e (p.c x y z)))=W c:=by
 have b3:Bd (OP s3 e c):=fun x y z k=>⟨(hc _ _ _ k).1,(hc _ _ _ k).2.1,h3 _ _ _ k⟩
 have b2:Bd (OQ s2 b (OP s3 e c)):=fun x y z k=>⟨(hc _ _ _ k).1,h2 _ _ _ k,h3 _ _ _ k⟩
 have b1:Bd (Rp s1 a (OQ s2 b (OP s3 e c))):=fun x y z k=>⟨h1 _ _ _ k,h2 _ _ _ k,h3 _ _ _ k⟩
 refine (h.perm p (Rp s1 a (OQ s2 b (OP s3 e c)))).trans ?_;rw [h.t1 _ _ _ b2 b1,h.t2 _ _ _ b3 b2,h.t3 _ _ _ hc b3]
end Gf
theorem MJ {p:zq} (hp:WA p) (s:Bool) (k j:Int) {G H:F3} (e: ∀x y z,H x y z=G (sg s x+j) y z) (h1: ∀x y z,G x y z≠0-> -1000000<=x/\x<=1000000) (h2: ∀x y z,H x y z≠0-> -1000000<=x/\x<=1000000):Di p H=Di p G:=by rw [u6p e];exact V8 hp s j h1 fun x y z k=>h2 x y z (by rw [e];exact k)
theorem QH {p:zq} (hp:WA p):Gf (Di p):=by
 refine ⟨fun c=>Vl p c,fun c=>V9 p c,fun s k c h1 h2=> ?_⟩;cases s with
 | true=>exact MJ hp true k k (G:=c) (fun x y z=>rfl) (fun x y z k=>(h1 _ _ _ k).1) fun x y z k=>(h2 _ _ _ k).1
 | false=>exact MJ hp false k (k - 1) (G:=c) (fun x y z=>by simp only [Rp,Ct,sg];congr 1;omega) (fun x y z k=>(h1 _ _ _ k).1) fun x y z k=>(h2 _ _ _ k).1
theorem w1h {L:zx} {t a b c:Int} (h0:0<=t) (h24:t<24) (ha:DV a b c) (hL:Yv L=0) (h:Vo L t a b c=0):
  Yv (Wq L t a b c)=0/\ ∀{W:F3->Int},Gf W->W (EU L)=W (EU (Wq L t a b c)):=by
 obtain ⟨p,s1,s2,s3,ht⟩:=Sr t h0 h24;obtain ⟨k1,k2,k3⟩:=x6j ht h24 ha hL h;refine ⟨k1,fun {W} hW=> ?_⟩;have sL:=GD.of hL;have sP:=GD.of k1;have nz: ∀(X:zx),GD X-> ∀x y z,EU X x y z≠0->DC X x y z:=fun X hX x y z k=>A9 fun j=>k ((TG _ hX.ap x y z).2 j);have e:EU L=fun x y z=>EU (Wq L t a b c) (Ct s1 a (p.a x y z)) (Ct s2 b (p.b x y z)) (Ct s3 c (p.c x y z)):=by
  funext x y z
  by_cases g:DC L x y z
  .rw [(TG L sL.ap x y z).1 g,(TG _ sP.ap _ _ _).1 ((k2 x y z).2 g)]
  .rw [(TG L sL.ap x y z).2 g,(TG _ sP.ap _ _ _).2 fun j=>g ((k2 x y z).1 j)]
 have fin: ∀r∈L,DV (p.a r.a r.b r.c) (p.b r.a r.b r.c) (p.c r.a r.b r.c)/\DV (p.a r.d r.e r.f) (p.b r.d r.e r.f) (p.c r.d r.e r.f):=fun r hr=>by obtain ⟨f1,f2⟩:=w7d (sL.val r hr);exact ⟨p.fine f1,p.fine f2⟩
 rw [e];refine hW.place p s1 s2 s3 a b c (fun x y z k=> ?_) (fun x y z k=> ?_) (fun x y z k=> ?_) (fun x y z k=> ?_)
 .have:=sP.bnd (nz _ sP _ _ _ k);unfold DV;omega
 .obtain ⟨r,hr,j,_,_⟩:=k3 _ _ _ (nz _ sP _ _ _ k);have:=(IF ..).1 j;have f:=fin r hr;unfold DV at f;omega
 .obtain ⟨r,hr,_,j,_⟩:=k3 _ _ _ (nz _ sP _ _ _ k);have:=(IF ..).1 j;have f:=fin r hr;unfold DV at f;omega
 .obtain ⟨r,hr,_,_,j⟩:=k3 _ _ _ (nz _ sP _ _ _ k);have:=(IF ..).1 j;have f:=fin r hr;unfold DV at f;omega
open Go.Proofs
section
attribute [local irreducible] Ki Wa Ea
end
open Go.Sort Go.Shelf Go.RowKit Go.Lib
theorem w1g {l:zr} (hN: ∀j,j<l.length->Gu (rd l j)) (hok: ∀j,j<l.length->Ei l j): ∀(m j:Nat),j<m->j<l.length->((Qq l (j:Int)).2=0/\CT (Qq l (j:Int)).1.a (Qq l (j:Int)).1.b (Qq l (j:Int)).1.c (Qq l (j:Int)).1.d =0)\/(Qq l (j:Int)).2=16
 | 0,j,h,_=>absurd h (AD _)
 | m+1,j,hm,hj=>by
  have hk:CT (rd l j).t (rd l j).x (rd l j).y (rd l j).z =0:=by have h:=hN j hj;have ht:=h.t;unfold CT;rw [An (show ¬24<=(rd l j).t by omega),Aa,(RG _ _ _).2 ⟨h.x,h.y,h.z⟩];rfl
  rw [Rx (hok j hj).1 (Aq j)];have hb:=Ke (hok j hj).1 (Aq j);by_cases h:(rd l j).a <0
  .rw [Af h];exact .inl ⟨rfl,hk⟩
  .obtain ⟨p,hp⟩: ∃p:Nat,(rd l j).a =(p:Int):=⟨(rd l j).a.toNat,by omega⟩
   rw [An h,Aa,hp];rcases w1g hN hok m p (by omega) (by omega) with ⟨e1,e2⟩ | e
   .rw [Vp e1,Aa];show ((Oj (EJ (rd l j)) (Qq l (p:Int)).1).2=0/\_)\/(Oj (EJ (rd l j)) (Qq l (p:Int)).1).2=16;unfold Oj EJ;simp only [];unfold Uq Jr;rw [Vp hk,Aa,Vp e2,Aa];generalize Cq (rd l j).t (rd l j).x (rd l j).y (rd l j).z (Qq l (p:Int)).1.a (Qq l (p:Int)).1.b (Qq l (p:Int)).1.c (Qq l (p:Int)).1.d =w;by_cases e3:CT w.a w.b w.c w.d=0
    .rw [Vp e3];exact .inl ⟨rfl,e3⟩
    .rw [Jy e3];exact .inr rfl
   .right;rw [show ((Qq l (p:Int)).2 != 0)=true by rw [e];rfl,Ab];exact e
structure Im (f:R4) (x y z u v w:Int):Prop where
 a:2*u+1=(2*x+1)*(CE f.a).a +(2*y+1)*(CE f.a).d +(2*z+1)*(CE f.a).g +2*f.b
 b:2*v+1=(2*x+1)*(CE f.a).b +(2*y+1)*(CE f.a).e +(2*z+1)*(CE f.a).h +2*f.c
 c:2*w+1=(2*x+1)*(CE f.a).c +(2*y+1)*(CE f.a).f +(2*z+1)*(CE f.a).i +2*f.d
theorem Im.uniq {f:R4} {x y z u v w u' v' w':Int} (h:Im f x y z u v w) (h':Im f x y z u' v' w'):u=u'/\v=v'/\w=w':=by have a1:=h.a;have a2:=h'.a;have b1:=h.b;have b2:=h'.b;have c1:=h.c;have c2:=h'.c;rw [<-a1] at a2;rw [<-b1] at b2;rw [<-c1] at c2;omega
abbrev QI (t:Int) (p:P6) (s1 s2 s3:Bool):Prop:= ∀x y z:Int,x*(CE t).a +y*(CE t).d +z*(CE t).g =sg s1 (p.a x y z)/\x*(CE t).b +y*(CE t).e +z*(CE t).h =sg s2 (p.b x y z)/\x*(CE t).c +y*(CE t).f +z*(CE t).i =sg s3 (p.c x y z)
theorem j6q {f:R4} {p:P6} {s1 s2 s3:Bool} (ht:QI f.a p s1 s2 s3) (x y z:Int):Im f x y z (Ct s1 f.b (p.a x y z)) (Ct s2 f.c (p.b x y z)) (Ct s3 f.d (p.c x y z)):=by
 obtain ⟨e1,e2,e3⟩:=ht (2*x+1) (2*y+1) (2*z+1);have d1:p.a (2*x+1) (2*y+1) (2*z+1)=2*p.a x y z+1:=by cases p <;> rfl
 have d2:p.b (2*x+1) (2*y+1) (2*z+1)=2*p.b x y z+1:=by cases p <;> rfl
 have d3:p.c (2*x+1) (2*y+1) (2*z+1)=2*p.c x y z+1:=by cases p <;> rfl
 have g: ∀(s:Bool) (k u:Int),2*Ct s k u+1=sg s (2*u+1)+2*k:=fun s k u=>by cases s <;> simp only [Ct,sg] <;> omega
 exact ⟨by rw [e1,d1,g],by rw [e2,d2,g],by rw [e3,d3,g]⟩
theorem w0x (s:Bool) (k u:Int): ∃x,Ct s k x=u:=by
 cases s with
 | true=>exact ⟨u - k,by simp only [Ct];omega⟩
 | false=>exact ⟨k - 1 - u,by simp only [Ct];omega⟩
theorem j5p (p:P6) (u v w:Int): ∃x y z,p.a x y z=u/\p.b x y z=v/\p.c x y z=w:=by
 cases p
 .exact ⟨u,v,w,rfl,rfl,rfl⟩
 .exact ⟨u,w,v,rfl,rfl,rfl⟩
 .exact ⟨v,u,w,rfl,rfl,rfl⟩
 .exact ⟨w,u,v,rfl,rfl,rfl⟩
 .exact ⟨v,w,u,rfl,rfl,rfl⟩
 .exact ⟨w,v,u,rfl,rfl,rfl⟩
structure D8 (f:R4):Prop where
 t0:0<=f.a
 t24:f.a<24
 at_:DV f.b f.c f.d
theorem w2s {f:R4} (h0:0<=f.a) (h:CT f.a f.b f.c f.d=0):D8 f:=by
 unfold CT at h;by_cases g:24<=f.a
 .rw [Af g] at h;cases h
 .rw [An g,Aa] at h;cases g2:Fy f.b f.c f.d with
  | false=>rw [g2] at h;cases h
  | true=>exact ⟨h0,by omega,(TJ _ _ _).1 g2⟩
theorem D8.fk {f:R4} (h:D8 f):CT f.a f.b f.c f.d=0:=by unfold CT;have:=h.t24;rw [An (show ¬24<=f.a by omega),Aa,(TJ _ _ _).2 h.at_];rfl
theorem Im.ex {f:R4} (h:D8 f) (x y z:Int): ∃u v w,Im f x y z u v w:=by obtain ⟨p,s1,s2,s3,ht⟩:=Sr f.a h.t0 h.t24;exact ⟨_,_,_,j6q ht x y z⟩
theorem x3l {L:zx} {f:R4} (h:D8 f) (hL:Yv L=0) (hp:Vo L f.a f.b f.c f.d=0):Yv (Wq L f.a f.b f.c f.d)=0/\ ∀u v w,DC (Wq L f.a f.b f.c f.d) u v w↔ ∃x y z,DC L x y z/\Im f x y z u v w:=by
 obtain ⟨p,s1,s2,s3,ht⟩:=Sr f.a h.t0 h.t24;obtain ⟨k1,k2,_⟩:=x6j ht h.t24 h.at_ hL hp;refine ⟨k1,fun u v w=>⟨fun k=> ?_,fun ⟨x,y,z,k,i⟩=> ?_⟩⟩
 .obtain ⟨u0,hu⟩:=w0x s1 f.b u;obtain ⟨v0,hv⟩:=w0x s2 f.c v;obtain ⟨w0,hw⟩:=w0x s3 f.d w;obtain ⟨x,y,z,q1,q2,q3⟩:=j5p p u0 v0 w0;have i:=j6q ht x y z;rw [q1,q2,q3,hu,hv,hw] at i;refine ⟨x,y,z,(k2 x y z).1 ?_,i⟩;rw [q1,q2,q3,hu,hv,hw];exact k
 .obtain ⟨e1,e2,e3⟩:=Im.uniq i (j6q ht x y z);rw [e1,e2,e3];exact (k2 x y z).2 k
theorem j2h :((List.range 24).all fun s=>(List.range 24).all fun t=>
  let A:=CE (s:Int);let B:=CE (t:Int);let K:=CE (DP (k9 (s:Int) (t:Int)))
  (K.a == A.a*B.a+A.b*B.d+A.c*B.g)&&((K.b == A.a*B.b+A.b*B.e+A.c*B.h)&&((K.c == A.a*B.c+A.b*B.f+A.c*B.i)&&
  ((K.d == A.d*B.a+A.e*B.d+A.f*B.g)&&((K.e == A.d*B.b+A.e*B.e+A.f*B.h)&&((K.f == A.d*B.c+A.e*B.f+A.f*B.i)&&
  ((K.g == A.g*B.a+A.h*B.d+A.i*B.g)&&((K.h == A.g*B.b+A.h*B.e+A.i*B.h)&&(K.i == A.g*B.c+A.h*B.f+A.i*B.i)))))))))=true:=by kernel_rfl
theorem NW {s t:Int} (hs:0<=s/\s<24) (ht:0<=t/\t<24):
  (CE (DP (k9 s t))).a =(CE s).a *(CE t).a +(CE s).b *(CE t).d +(CE s).c *(CE t).g /\
  (CE (DP (k9 s t))).b =(CE s).a *(CE t).b +(CE s).b *(CE t).e +(CE s).c *(CE t).h /\
  (CE (DP (k9 s t))).c =(CE s).a *(CE t).c +(CE s).b *(CE t).f +(CE s).c *(CE t).i /\
  (CE (DP (k9 s t))).d =(CE s).d *(CE t).a +(CE s).e *(CE t).d +(CE s).f *(CE t).g /\
  (CE (DP (k9 s t))).e =(CE s).d *(CE t).b +(CE s).e *(CE t).e +(CE s).f *(CE t).h /\
  (CE (DP (k9 s t))).f =(CE s).d *(CE t).c +(CE s).e *(CE t).f +(CE s).f *(CE t).i /\
  (CE (DP (k9 s t))).g =(CE s).g *(CE t).a +(CE s).h *(CE t).d +(CE s).i *(CE t).g /\
  (CE (DP (k9 s t))).h =(CE s).g *(CE t).b +(CE s).h *(CE t).e +(CE s).i *(CE t).h /\
  (CE (DP (k9 s t))).i =(CE s).g *(CE t).c +(CE s).h *(CE t).f +(CE s).i *(CE t).i :=by
 have h:=As.1 (As.1 j2h s.toNat (AL.2 (by omega))) t.toNat (AL.2 (by omega));rw [show ((s.toNat:Nat):Int)=s by omega,show ((t.toNat:Nat):Int)=t by omega] at h;simp only [Ac,Bi] at h;exact h
theorem WO {f g:R4} (hf:D8 f) (hg:D8 g) (hw:Jr g.a g.b g.c g.d f.a f.b f.c f.d=0):D8 (Uq g.a g.b g.c g.d f.a f.b f.c f.d)/\
  ∀x y z u v w u' v' w',Im g x y z u v w->Im f u v w u' v' w'->Im (Uq g.a g.b g.c g.d f.a f.b f.c f.d) x y z u' v' w':=by
 have e0:Uq g.a g.b g.c g.d f.a f.b f.c f.d=Cq g.a g.b g.c g.d f.a f.b f.c f.d:=by unfold Uq;rw [Vp hw];rfl
 rw [e0];unfold Jr at hw;rw [Vp hg.fk,Aa,Vp hf.fk,Aa] at hw;have hk:CT (Cq g.a g.b g.c g.d f.a f.b f.c f.d).a (Cq g.a g.b g.c g.d f.a f.b f.c f.d).b (Cq g.a g.b g.c g.d f.a f.b f.c f.d).c (Cq g.a g.b g.c g.d f.a f.b f.c f.d).d =0:=by
  by_cases e:CT (Cq g.a g.b g.c g.d f.a f.b f.c f.d).a (Cq g.a g.b g.c g.d f.a f.b f.c f.d).b (Cq g.a g.b g.c g.d f.a f.b f.c f.d).c (Cq g.a g.b g.c g.d f.a f.b f.c f.d).d =0
  .exact e
  .rw [Jy e] at hw;cases hw
 have hturn:=(v3e (s:=g.a) (t:=f.a) (Af ⟨hg.t0,hg.t24⟩) (Af ⟨hf.t0,hf.t24⟩)).2;refine ⟨w2s hturn.1 hk,fun x y z u v w u' v' w' i j=> ?_⟩;obtain ⟨p,s1,s2,s3,ht⟩:=Sr f.a hf.t0 hf.t24;have hfi:=j1c ht hf.at_ hg.at_;obtain ⟨t1,t2,t3⟩:=ht g.b g.c g.d;rw [<-t1,<-t2,<-t3] at hfi;obtain ⟨m1,m2,m3,m4,m5,m6,m7,m8,m9⟩:=NW ⟨hg.t0,hg.t24⟩ ⟨hf.t0,hf.t24⟩;have i1:=i.a;have i2:=i.b;have i3:=i.c;have j1:=j.a;have j2:=j.b;have j3:=j.c;refine ⟨?_,?_,?_⟩
 .show 2*u'+1=(2*x+1)*(CE (DP (k9 g.a f.a))).a +(2*y+1)*(CE (DP (k9 g.a f.a))).d +(2*z+1)*(CE (DP (k9 g.a f.a))).g +2*(Cm f.a f.b f.c f.d g.b g.c g.d).a;rw [hfi,m1,m4,m7,j1,i1,i2,i3];generalize CE g.a=A;generalize CE f.a=B;show _=_+2*(g.b*B.a+g.c*B.d+g.d*B.g+f.b)
  grind
 .show 2*v'+1=(2*x+1)*(CE (DP (k9 g.a f.a))).b +(2*y+1)*(CE (DP (k9 g.a f.a))).e +(2*z+1)*(CE (DP (k9 g.a f.a))).h +2*(Cm f.a f.b f.c f.d g.b g.c g.d).b;rw [hfi,m2,m5,m8,j2,i1,i2,i3];generalize CE g.a=A;generalize CE f.a=B;show _=_+2*(g.b*B.b+g.c*B.e+g.d*B.h+f.c)
  grind
 .show 2*w'+1=(2*x+1)*(CE (DP (k9 g.a f.a))).c +(2*y+1)*(CE (DP (k9 g.a f.a))).f +(2*z+1)*(CE (DP (k9 g.a f.a))).i +2*(Cm f.a f.b f.c f.d g.b g.c g.d).c;rw [hfi,m3,m6,m9,j3,i1,i2,i3];generalize CE g.a=A;generalize CE f.a=B;show _=_+2*(g.b*B.c+g.c*B.f+g.d*B.i+f.d)
  grind
def Lf (x:CD) (f:R4):R4:=Uq x.t x.x x.y x.z f.a f.b f.c f.d
def G6 (x:CD) (f:R4):CD:=bif decide (x.a<0) then {x with t:=(Lf x f).a,x:=(Lf x f).b,y:=(Lf x f).c,z:=(Lf x f).d} else x
structure Mvd (l m:zr) (f:R4):Prop where
 len:m.length=l.length
 node: ∀i,i<l.length->rd m i=G6 (rd l i) f
 ok: ∀i,i<l.length->(rd l i).a <0->Jr (rd l i).t (rd l i).x (rd l i).y (rd l i).z f.a f.b f.c f.d=0
theorem Te (x:CD) (f:R4):(G6 x f).a =x.a/\(G6 x f).n =x.n/\(G6 x f).s =x.s:=by unfold G6;cases decide (x.a<0) <;> exact ⟨rfl,rfl,rfl⟩
theorem RI {x:CD} (h:Gu x):D8 (EJ x):=⟨h.t.1,h.t.2,h.x,h.y,h.z⟩
section
variable {l m:zr} {f:R4} (hf:D8 f) (hm:Mvd l m f) (hN: ∀j,j<l.length->Gu (rd l j)) (hok: ∀j,j<l.length->Ei l j)
include hf hm hN hok
theorem Le {i:Nat} (hi:i<l.length):D8 (EJ (rd m i)):=by
 have _u:=hok;rw [hm.node i hi];unfold G6;by_cases h:(rd l i).a <0
 .rw [Af h];have:=(WO hf (RI (hN i hi)) (hm.ok i hi h)).1;exact this
 .rw [An h];exact RI (hN i hi)
theorem OO {i:Nat} (hi:i<l.length):Ej m i=true:=As.2 fun j hj=>by have _u:=hf;have _v:=hN;have hj:=AL.1 hj;have:=Ke (hok i hi).1 (show j<=i by omega);rw [hm.node j (by omega),(Te _ _).1,Ac,Ao,Ao];exact this
theorem v6t : ∀(k i:Nat),i<k->i<l.length->(Qq l (i:Int)).2=0->(Qq m (i:Int)).2=0->D8 (Qq l (i:Int)).1/\D8 (Qq m (i:Int)).1/\
  ∀x y z u v w u' v' w',Im (Qq l (i:Int)).1 x y z u v w->Im f u v w u' v' w'->Im (Qq m (i:Int)).1 x y z u' v' w'
 | 0,i,h,_,_,_=>absurd h (AD _)
 | k+1,i,hk,hi,e1,e2=>by
  have hb:=Ke (hok i hi).1 (Aq i);have q1:=Rx (hok i hi).1 (Aq i);have q2:=Rx (OO hf hm hN hok hi) (Aq i);have hn:=hm.node i hi;have ha:(rd m i).a =(rd l i).a :=by rw [hn,(Te _ _).1]
  rw [ha] at q2;by_cases h:(rd l i).a <0
  .rw [Af h,Ab] at q1 q2;have hw:=hm.ok i hi h;obtain ⟨c1,c2⟩:=WO hf (RI (hN i hi)) hw;have e3:EJ (rd m i)=Uq (EJ (rd l i)).a (EJ (rd l i)).b (EJ (rd l i)).c (EJ (rd l i)).d f.a f.b f.c f.d:=by rw [hn];unfold G6;rw [Af h];rfl
   rw [q1,q2];show D8 (EJ (rd l i))/\D8 (EJ (rd m i))/\ ∀x y z u v w u' v' w',Im (EJ (rd l i)) x y z u v w->Im f u v w u' v' w'->Im (EJ (rd m i)) x y z u' v' w';rw [e3];exact ⟨RI (hN i hi),c1,c2⟩
  .obtain ⟨q,hq⟩: ∃q:Nat,(rd l i).a =(q:Int):=⟨(rd l i).a.toNat,by omega⟩
   have hmn:rd m i=rd l i:=by rw [hn];unfold G6;rw [An h];rfl
   rw [An h,Aa,hq] at q1 q2;rw [hmn] at q2;rw [q1] at e1;rw [q2] at e2;by_cases z1:(Qq l (q:Int)).2=0
   .by_cases z2:(Qq m (q:Int)).2=0
    .rw [Vp z1,Aa] at q1 e1;rw [Vp z2,Aa] at q2 e2;obtain ⟨f1,f2,ih⟩:=v6t k q (by omega) (by omega) z1 z2;have g0:=RI (hN i hi);obtain ⟨c1,c2⟩:=WO f1 g0 e1;obtain ⟨c3,c4⟩:=WO f2 g0 e2;rw [q1,q2];refine ⟨c1,c3,fun x y z u v w u' v' w' i1 i2=> ?_⟩;obtain ⟨a,b,c,k1⟩:=Im.ex g0 x y z;obtain ⟨a',b',c',k2⟩:=Im.ex f1 a b c;have k3:=c2 _ _ _ _ _ _ _ _ _ k1 k2;obtain ⟨r1,r2,r3⟩:=Im.uniq i1 k3;subst r1;subst r2;subst r3;exact c4 _ _ _ _ _ _ _ _ _ k1 (ih _ _ _ _ _ _ _ _ _ k2 i2)
    .rw [Jy z2,Ab] at e2;exact absurd e2 z2
   .rw [Jy z1,Ab] at e1;exact absurd e1 z1
end
theorem u8a {a b:zx} (h:E1 .u a b=0):Yv (Fp .u a b)=0/\ ∀x y z,DC (Fp .u a b) x y z↔DC a x y z\/DC b x y z:=by
 have h:FA .u a b=0:=h;obtain ⟨ha,hb,hf⟩:=w5b h;obtain ⟨c,pts⟩:=j3h h;have e0:Fp .u a b=FY .u a b:=by unfold Fp E6;rw [Vp h];rfl
 have hp: ∀x y z,DC (FY .u a b) x y z↔DC a x y z\/DC b x y z:=fun x y z=>by rw [MU,MU,MU,pts (z,x,y)];simp [Dr,Op.k]
 have sa:=GD.of ha;have sb:=GD.of hb;have hv: ∀r∈FY .u a b,CX r=true:=v9i c fun x y z k=>by
  rcases (hp x y z).1 k with k | k
  .exact sa.bnd k
  .exact sb.bnd k
 have hl:(FY .u a b).length <=400:=by unfold FA at h;rw [Vp ha,Aa,Vp hb,Aa,hf] at h;unfold eJ at h;rw [Vp rfl,Aa] at h;exact y8h h
 rw [e0];exact ⟨x2q hl hv c,hp⟩
theorem Lr : ∀(L:List zx) (acc:zx),Yv acc=0->(Ds L acc).2=0->Yv (Ds L acc).1=0/\ ∀x y z,DC (Ds L acc).1 x y z↔DC acc x y z\/ ∃s∈L,DC s x y z
 | [],acc,ha,_=>⟨ha,fun x y z=>⟨.inl,fun h=>by
   rcases h with h | ⟨s,hs,_⟩
   .exact h
   .cases hs⟩⟩
 | s ::L,acc,ha,h=>by
  rw [Ds] at h ⊢;by_cases g:E1 .u acc s=0
  .rw [Vp g,Aa] at h ⊢;obtain ⟨k1,k2⟩:=u8a g;obtain ⟨k3,k4⟩:=Lr L _ k1 h;refine ⟨k3,fun x y z=> ?_⟩;rw [k4,k2];constructor
   .rintro ((k | k) | ⟨t,ht,k⟩)
    .exact .inl k
    .exact .inr ⟨s,Bc,k⟩
    .exact .inr ⟨t,Bb _ ht,k⟩
   .rintro (k | ⟨t,ht,k⟩)
    .exact .inl (.inl k)
    .rcases AN.1 ht with rfl | ht
     .exact .inl (.inr k)
     .exact .inr ⟨t,ht,k⟩
  .rw [Jy g,Ab] at h;exact absurd h g
theorem YC {l:zr}: ∀(k i:Nat),EI l k i=0-> ∀j,i<=j->j<i+k->DZ l j=0
 | 0,i,_,j,h1,h2=>by omega
 | k+1,i,h,j,h1,h2=>by
  rw [EI] at h;by_cases g:DZ l i=0
  .rw [Vp g,Aa] at h;by_cases e:j=i
   .rw [e];exact g
   .exact YC k (i+1) h j (by omega) (by omega)
  .rw [Jy g,Ab] at h;exact absurd h g
theorem WT {l:zr} {s:zx}: ∀(k i:Nat),s∈Gi l k i↔ ∃j,i<=j/\j<i+k/\s=Gs l j
 | 0,i=>⟨fun h=>(by cases h),fun ⟨j,h1,h2,_⟩=>by omega⟩
 | k+1,i=>by
  rw [Gi,AN,WT k (i+1)];constructor
  .rintro (h | ⟨j,h1,h2,h3⟩)
   .exact ⟨i,Aq _,by omega,h⟩
   .exact ⟨j,by omega,by omega,h3⟩
  .rintro ⟨j,h1,h2,h3⟩;by_cases e:j=i
   .exact .inl (by rw [<-e];exact h3)
   .exact .inr ⟨j,by omega,by omega,h3⟩
theorem w1i {l:zr} {j:Nat} (h:DZ l j=0):(Qq l (j:Int)).2=0/\Vo (rd l j).s (Qq l (j:Int)).1.a (Qq l (j:Int)).1.b (Qq l (j:Int)).1.c (Qq l (j:Int)).1.d =0:=by
 unfold DZ at h;by_cases g:Qw l (j:Int)=0
 .rw [Vp g,Aa] at h;exact ⟨g,h⟩
 .rw [Jy g,Ab] at h;exact absurd h g
theorem w4p {l:zr} (h:Xu l=0):Ki l=0/\EI l l.length 0=0/\(Ds (Gi l l.length 0) []).2=0/\Ys l=(Ds (Gi l l.length 0) []).1:=by
 unfold Xu ES at h;unfold Ys ES;by_cases g:Ki l=0
 .rw [Vp g,Aa] at h ⊢;by_cases g2:EI l l.length 0=0
  .rw [Vp g2,Aa] at h ⊢;exact ⟨g,g2,h,rfl⟩
  .rw [Jy g2,Ab] at h;exact absurd h g2
 .rw [Jy g,Ab] at h;exact absurd h g
theorem v2w {l:zr} (hP: ∀j,j<l.length->(Qq l (j:Int)).2=0->D8 (Qq l (j:Int)).1) (h:Xu l=0):Yv (Ys l)=0/\ ∀u v w,DC (Ys l) u v w↔ ∃j,j<l.length/\ ∃x y z,DC (rd l j).s x y z/\Im (Qq l (j:Int)).1 x y z u v w:=by
 obtain ⟨h1,h2,h3,h4⟩:=w4p h;obtain ⟨k1,k2⟩:=Lr _ [] w5d h3;have hsol:=(Qh (l:=l) (by rw [h1];rfl)).2.1;rw [h4];refine ⟨k1,fun u v w=> ?_⟩;rw [k2];have hpc: ∀j,j<l.length-> ∀u v w,DC (Gs l j) u v w↔ ∃x y z,DC (rd l j).s x y z/\Im (Qq l (j:Int)).1 x y z u v w:=fun j hj=>by obtain ⟨e1,e2⟩:=w1i (YC _ _ h2 j (AA _) (by omega));exact (x3l (hP j hj e1) (Q3 hsol (Iv hj)) e2).2
 constructor
 .rintro (⟨r,hr,_⟩ | ⟨s,hs,k⟩)
  .cases hr
  .obtain ⟨j,_,hj,rfl⟩:=(WT _ _).1 hs;exact ⟨j,by omega,(hpc j (by omega) u v w).1 k⟩
 .rintro ⟨j,hj,k⟩;exact .inr ⟨Gs l j,(WT _ _).2 ⟨j,AA _,by omega,rfl⟩,(hpc j hj u v w).2 k⟩
theorem L3 {l:zu} (hl:l.length<=400) (hv: ∀r∈l,CW r=true) (hc:C5.can l):DU l=0:=by
 obtain ⟨h1,h2⟩:=M0 hv hl;have e:D4.out l=l:=C5.uniq _ _ h1 hc h2;have m1:Fh l=0:=by show Dc (D4.out l).length =0;rw [e];unfold Dc;rw [An (by omega)];rfl
 have m0:Vy l=l:=by unfold Vy E6;rw [show Ob l=0 from m1,e];rfl
 unfold DU G3;rw [An (by omega),As.2 hv,m1,m0,show Uh l l=true from Af rfl];rfl
theorem LZ {l:zu} (x:Int) (hl:l.length<=400) (hv: ∀r∈l,CW r=true) (hc:C5.can l):Dp (D4.inn l x)=0:=by refine (x2k _).2 ⟨AI (D4.inn_length l x) hl,QW hv x,?_⟩;obtain ⟨G,hG,e⟩:=hc;rw [e];exact CM.inn_can S9 Eb x G hG
theorem u7z {l:zx} (hl:Yv l=0) (x:Int):(D6.inn l x).length <=400/\(∀r∈D6.inn l x,CW r=true)/\C5.can (D6.inn l x)/\Xx (D6.inn l x)=0/\Za (D6.inn l x)=D6.inn l x:=by
 obtain ⟨sl,sv,_⟩:=JF hl;have v:=RE sv x;have n:=AI (D6.inn_length l x) sl;have c:C5.can (D6.inn l x):=by obtain ⟨G,hG,e⟩:=x9j hl;rw [e];exact CM.inn_can MN C5 x G hG
 obtain ⟨h1,h2⟩:=M0 v n;have e:D4.out (D6.inn l x)=D6.inn l x:=C5.uniq _ _ h1 c h2;obtain ⟨r0,r1⟩:=SF v n (by rw [e];exact n);exact ⟨n,v,c,r1,r0.trans e⟩
theorem v9h (n:Nat):Dc n=0\/Dc n=4:=by
 unfold Dc;cases decide ((n:Int)>400)
 .exact .inl rfl
 .exact .inr rfl
theorem MG {e:Int} (h:e=0\/e=4) (n:Nat):eJ e n=0\/eJ e n=4:=by
 rcases h with rfl | rfl
 .exact v9h n
 .exact .inr rfl
theorem w2z {E:Int->Int} (h: ∀x,E x=0\/E x=4) (cs:zq): ∀k i,DK E cs k i=0\/DK E cs k i=4
 | 0,i=>.inl rfl
 | k+1,i=>by
  show (bif E (rd cs i) != 0 then E (rd cs i) else DK E cs k (i+1))=0\/(bif E (rd cs i) != 0 then E (rd cs i) else DK E cs k (i+1))=4;rcases h (rd cs i) with e | e
  .rw [e];exact w2z h cs k (i+1)
  .rw [e];exact .inr rfl
theorem N4 (q:Op) {a b:zx} (ha:Yv a=0) (hb:Yv b=0):FA q a b=0\/FA q a b=4:=by unfold FA;rw [ha,hb];refine MG (w2z (fun x=> ?_) _ _ _) _;obtain ⟨a1,a2,a3,a4,a5⟩:=u7z ha x;obtain ⟨b1,b2,b3,b4,b5⟩:=u7z hb x;unfold Cv Fv;rw [a4,b4,a5,b5,L3 a1 a2 a3,L3 b1 b2 b3];refine MG (w2z (fun y=> ?_) _ _ _) _;unfold Dh Hg;rw [LZ y a1 a2 a3,LZ y b1 b2 b3];exact v9h _
theorem u6t (n:Nat):Dc n=0\/Dc n=4:=by
 unfold Dc;cases decide ((n:Int)>400)
 .exact .inl rfl
 .exact .inr rfl
theorem M9 {l:zu} (hv: ∀r∈l,CW r=true):Xx l=0\/Xx l=4:=by
 unfold Xx;rw [As.2 hv];cases decide (400<l.length)
 .exact u6t _
 .exact .inr rfl
theorem M8 {l:zx} (hv: ∀r∈l,CX r=true):Jm l=0\/Jm l=4:=by
 have e: ∀k i,GB l k i=0\/GB l k i=4:=fun k=>by
  induction k with
  | zero=>exact fun _=>.inl rfl
  | succ k ih=>
   intro i;show (bif Ew l (rd (D6.cuts l) i) then Xx (D6.inn l (rd (D6.cuts l) i)) else GB l k (i+1))=0\/(bif Ew l (rd (D6.cuts l) i) then Xx (D6.inn l (rd (D6.cuts l) i)) else GB l k (i+1))=4;cases Ew l (rd (D6.cuts l) i)
   .exact ih _
   .exact M9 (RE hv _)
 unfold Jm;rw [As.2 hv];cases decide (400<l.length)
 .cases Cp l ((D6.cuts l).length - 1) 0
  .exact e _ _
  .exact u6t _
 .exact .inr rfl
theorem j5m {L:zx} {f:R4} (h:D8 f) (hL:Yv L=0):Vo L f.a f.b f.c f.d=0\/Vo L f.a f.b f.c f.d=16\/Vo L f.a f.b f.c f.d=4:=by
 obtain ⟨p,s1,s2,s3,ht⟩:=Sr f.a h.t0 h.t24;have hv:=(JF hL).2.1;unfold Vo;rw [Vp hL,Aa,Vp h.fk,Aa];cases g:L.all (HA f.a f.b f.c f.d) with
 | false=>exact .inr (.inl rfl)
 | true=>
  rw [Ab];have: ∀r∈L.map (Fe f.a f.b f.c f.d),CX r=true:=fun r hr=>by obtain ⟨q,hq,rfl⟩:=A2.1 hr;obtain ⟨e1,e2⟩:=Y8 ht h.t24 h.at_ (hv q hq) (As.1 g q hq);rw [e1];exact e2
  rcases M8 this with e | e
  .exact .inl e
  .exact .inr (.inr e)
theorem j0v : ∀(L:List zx) (acc:zx),Yv acc=0->(∀s∈L,Yv s=0)->(Ds L acc).2=0\/(Ds L acc).2=4
 | [],acc,_,_=>.inl rfl
 | s::L,acc,ha,hs=>by
  rw [Ds];rcases N4 .u ha (hs s Bc) with e | e
  .have e:E1 .u acc s=0:=e;rw [Vp e,Aa];exact j0v L _ (u8a e).1 fun t ht=>hs t (Bb _ ht)
  .have e:E1 .u acc s=4:=e;rw [show (E1 .u acc s != 0)=true by rw [e];rfl,Ab];exact .inr e
theorem v2y {l:zr} (h: ∀j,j<l.length->DZ l j=0\/DZ l j=16\/DZ l j=4): ∀k i,i+k=l.length->EI l k i=0\/EI l k i=16\/EI l k i=4
 | 0,i,_=>.inl rfl
 | k+1,i,hk=>by
  rw [EI];by_cases g:DZ l i=0
  .rw [Vp g,Aa];exact v2y h k (i+1) (by omega)
  .rw [Jy g,Ab];exact h i (by omega)
theorem TM {l:zr} (ht:(l.all fun x=>decide (0<=x.t))=true) (hN: ∀j,j<l.length->Gu (rd l j)) (hok: ∀j,j<l.length->Ei l j) {j:Nat} (hj:j<l.length) (h:(Qq l (j:Int)).2=0):D8 (Qq l (j:Int)).1:=by
 rcases w1g hN hok (j+1) j (Bg j) hj with ⟨_,e⟩ | e
 .exact w2s (Q6 (hok j hj).1 ht (j+1) j (Bg j) (Aq j)) e
 .rw [h] at e;cases e
theorem v2x {l:zr} (ht:(l.all fun x=>decide (0<=x.t))=true) (hN: ∀j,j<l.length->Gu (rd l j)) (hok: ∀j,j<l.length->Ei l j) (h:Ki l=0):Xu l=0\/Xu l=16\/Xu l=4:=by
 have hsol:=(Qh (l:=l) (by rw [h];rfl)).2.1;have hpc: ∀j,j<l.length->DZ l j=0\/DZ l j=16\/DZ l j=4:=fun j hj=>by
  unfold DZ;by_cases g:Qw l (j:Int)=0
  .rw [Vp g,Aa];exact j5m (TM ht hN hok hj g) (Q3 hsol (Iv hj))
  .rw [Jy g,Ab];rcases w1g hN hok (j+1) j (Bg j) hj with ⟨e,_⟩ | e
   .exact absurd e g
   .exact .inr (.inl e)
 unfold Xu ES;rw [Vp h,Aa];by_cases g:EI l l.length 0=0
 .rw [Vp g,Aa];have hs: ∀s∈Gi l l.length 0,Yv s=0:=fun s hs=>by obtain ⟨j,_,hj,rfl⟩:=(WT _ _).1 hs;obtain ⟨e1,e2⟩:=w1i (YC _ _ g j (AA _) hj);exact (x3l (TM ht hN hok (by omega) e1) (Q3 hsol (Iv (by omega))) e2).1
  rcases j0v _ [] w5d hs with e | e
  .exact .inl e
  .exact .inr (.inr e)
 .rw [Jy g,Ab];exact v2y hpc _ _ (Ah _)
theorem w4r {l m:zr} {t:Nat} (ht:Ej l t=true) (h: ∀j,j<=t->(rd m j).n =(rd l j).n /\(rd m j).a =(rd l j).a): ∀(k:Nat) (i:Int),i<=(t:Int)->C6 m k i=C6 l k i
 | 0,i,_=>rfl
 | k+1,i,hi=>by
  unfold C6;by_cases g:0<=i
  .obtain ⟨j,rfl⟩: ∃j:Nat,i=(j:Int):=⟨i.toNat,by omega⟩
   have hb:=Ke ht (show j<=t by omega);rw [Af g,Ab,Ab,Zj,(h j (by omega)).1,(h j (by omega)).2,w4r ht h k _ (by omega)]
  .rw [An g];rfl
theorem ON {l m:zr} {f:R4} (hf:D8 f) (hm:Mvd l m f) (hN: ∀j,j<l.length->Gu (rd l j)) (hok: ∀j,j<l.length->Ei l j) (h:Ki l=0):Ki m=0:=by
 obtain ⟨h1,h2,h3⟩:=Qh (l:=l) (by rw [h];rfl);have same: ∀j,j<l.length->(rd m j).a =(rd l j).a /\(rd m j).n =(rd l j).n /\(rd m j).s =(rd l j).s :=fun j hj=>by rw [hm.node j hj];exact Te _ _
 have eK:=hm.len;have hs:E9 m=0:=j2v fun x hx=>by obtain ⟨j,hj,rfl⟩:=AQ hx;rw [<-Xm hj,(same j (by omega)).2.2];exact Q3 h2 (Iv (by omega))
 rw [N7 (by omega) hs];have hb:(List.range m.length).any (D0 m)=false:=List.any_eq_false.2 fun j hj=>by
  have hj:j<l.length:=by have:=AL.1 hj;omega
  have b:=h3 j hj;obtain ⟨s1,s2,s3⟩:=same j hj;have hp:Ce m (j:Int)=Ce l (j:Int):=by unfold Ce;rw [w4r (hok j hj).1 (fun i hi=>⟨(same i (by omega)).2.1,(same i (by omega)).1⟩) _ _ (A3 _)]
  have ht:twin m j=twin l j:=by
   unfold twin;have e: ∀k∈List.range j,(((rd m k).a == (rd m j).a)&&((rd m k).n == (rd m j).n))=(((rd l k).a == (rd l j).a)&&((rd l k).n == (rd l j).n)):=fun k hk=>by have hk:=AL.1 hk;obtain ⟨k1,k2,_⟩:=same k (by omega);rw [k1,k2,s1,s2]
   rw [AV,BQ,BQ];constructor
   .rintro ⟨k,hk,hk2⟩;exact ⟨k,hk,by rw [<-e k hk];exact hk2⟩
   .rintro ⟨k,hk,hk2⟩;exact ⟨k,hk,by rw [e k hk];exact hk2⟩
  have hfk:=(Le hf hm hN hok hj).fk;have hfk:CT (rd m j).t (rd m j).x (rd m j).y (rd m j).z =0:=hfk;unfold D0 Eu at b ⊢;rw [hp,ht,s1,s2,hfk];rw [AP,AP,AP,AP] at b;obtain ⟨⟨b1,b2,b3,_⟩,b4⟩:=b;rw [b1,b2,b3,b4];decide
 rw [hb];rfl
theorem w4v : ∀(l:zx) (n:Int),(∀r∈l,CX r=true)-> -9223372036854775808<=n/\n<=9223372036854775807->FV l n=wrap .i64 (n+sm l VM)
 | [],n,_,hn=>by show n=wrap .i64 (n+0);rw [Int.add_zero,Zq hn]
 | r::l,n,hv,hn=>by
  have v:=Mg (hv r Bc);have w1:wrap .i64 (r.d - r.a)=r.d - r.a:=Zq (by omega);have w2:wrap .i64 (r.e - r.b)=r.e - r.b:=Zq (by omega);have w3':wrap .i64 (r.f - r.c)=r.f - r.c:=Zq (by omega);rw [FV,w1,w2,w3'];have hw: ∀z:Int,-9223372036854775808<=wrap .i64 z/\wrap .i64 z<=9223372036854775807:=fun z=>by rw [JY];omega
  rw [w4v l _ (fun s hs=>hv s (Bb _ hs)) (hw _),Kp];have e:VM r=(r.d - r.a)*(r.e - r.b)*(r.f - r.c):=rfl;rw [e];generalize (r.d - r.a)*(r.e - r.b)=A;generalize hB:r.f - r.c=B;have e2:wrap .i64 (wrap .i64 A*B)=wrap .i64 (A*B):=by
   rw [JY A,JY,JY];obtain ⟨k,hk⟩: ∃k:Int,(A+9223372036854775808) %18446744073709551616 - 9223372036854775808=A - 18446744073709551616*k:=⟨(A+9223372036854775808) / 18446744073709551616,by omega⟩
   rw [hk,Int.sub_mul,Int.mul_assoc];generalize k*B=q;omega
  rw [e2];simp only [JY];omega
theorem u6y {X:zx} (h:Yv X=0) {p:zq} (hp:Pts p):GG X=wrap .i64 (Di p (EU X)):=by unfold GG;rw [Vp h,Aa,w4v X 0 (GD.of h).val (by omega),Int.zero_add,NP hp (GD.of h)]
theorem v0a {L:zx} {f:R4} (h:D8 f) (hL:Yv L=0) (hp:Vo L f.a f.b f.c f.d=0):Yv (Wq L f.a f.b f.c f.d)=0/\GG (Wq L f.a f.b f.c f.d)=GG L:=by obtain ⟨p,hP⟩:=Nv;obtain ⟨k1,k2⟩:=w1h h.t0 h.t24 h.at_ hL hp;refine ⟨k1,?_⟩;rw [u6y k1 hP.pts,u6y hL hP.pts,k2 (QH hP)]
theorem My {s a b c:Int} {f:R4} (h1:CT s a b c=0) (h2:CT f.a f.b f.c f.d=0):Jr s a b c f.a f.b f.c f.d=0\/Jr s a b c f.a f.b f.c f.d=16:=by
 unfold Jr;rw [Vp h1,Aa,Vp h2,Aa];generalize (CT (Cq s a b c f.a f.b f.c f.d).a (Cq s a b c f.a f.b f.c f.d).b (Cq s a b c f.a f.b f.c f.d).c (Cq s a b c f.a f.b f.c f.d).d != 0)=q;cases q
 .exact .inl rfl
 .exact .inr rfl
theorem Y6 {l:zr} (h:Xu l=0) {j:Nat} (hj:j<l.length):(Qq l (j:Int)).2=0:=by obtain ⟨h1,h2,h3,h4⟩:=w4p h;exact (w1i (YC _ _ h2 j (AA _) (by omega))).1
section
variable {l m:zr} {x1:Int} {f:R4} (hf:D8 f) (hN: ∀j,j<l.length->Gu (rd l j)) (hok: ∀j,j<l.length->Ei l j) (ho:Yt l=true) (ht:(l.all fun x=>decide (0<=x.t))=true) (h:Ki l=0)
include hf hN hok ho ht h
theorem v7a (hm:Mvd l m f):((bif (Uw l) then (bif (Uw m) then (bif ((Xu l) != 0) then (bif ((Xu l) == 16) then (bif ((Xu m) == 0) then (.ret [(.bool true)]) else (bif ((Xu m) == 16) then (.ret [(.bool true)]) else (.ret [(.bool ((Xu m) == 4))]))) else (bif ((Xu l) == 4) then (bif ((Xu m) == 0) then (.ret [(.bool true)]) else (bif ((Xu m) == 16) then (.ret [(.bool true)]) else (.ret [(.bool ((Xu m) == 4))]))) else (.ret [(.bool false)]))) else (bif ((Xu m) != 0) then (bif ((Xu m) == 16) then (.ret [(.bool true)]) else (.ret [(.bool ((Xu m) == 4))])) else (bif (Jc (Ys l) f.a f.b f.c f.d) then (bif ((Vo (Ys l) f.a f.b f.c f.d) != 0) then (.ret [(.bool true)]) else (bif (Vm (Ys m) (Wq (Ys l) f.a f.b f.c f.d)) then (.ret [(.bool (Kx (Ys m) (Wq (Ys l) f.a f.b f.c f.d)))]) else .stuck)) else .stuck))) else .stuck) else .stuck):Xk F6)=.ret [.bool true]:=by
 have eK:=hm.len;have hoM:Yt m=true:=by unfold Yt at ho ⊢;rw [Ac,Ao,As] at ho;rw [Ac,Ao,As];refine ⟨by omega,fun x hx=> ?_⟩;obtain ⟨j,hj,rfl⟩:=AQ hx;rw [<-Xm hj,hm.node j (by omega),(Te _ _).2.1];exact ho.2 _ (Iv (by omega))
 have htM:(m.all fun x=>decide (0<=x.t))=true:=As.2 fun x hx=>by obtain ⟨j,hj,rfl⟩:=AQ hx;rw [<-Xm hj];exact Af (Le hf hm hN hok (show j<l.length by omega)).t0
 have hM:Ki m=0:=ON hf hm hN hok h;have hNm: ∀j,j<m.length->Gu (rd m j):=fun j hj=>v4h htM hM hj;have hokm: ∀j,j<m.length->Ei m j:=fun j hj=>RN (by rw [hM];rfl) hj;have eL:=v2x ht hN hok h;have eM:=v2x htM hNm hokm hM;rw [Yk (show Uw l=true by unfold Uw;rw [ho,ht];rfl),Yk (show Uw m=true by unfold Uw;rw [hoM,htM];rfl)];rcases eL with a | a | a
 .rw [Vp a,Aa];rcases eM with b | b | b
  .rw [Vp b,Aa,Yk (show Jc (Ys l) f.a f.b f.c f.d=true from Af hf.t0)];by_cases c:Vo (Ys l) f.a f.b f.c f.d=0
   .obtain ⟨s1,p1⟩:=v2w (fun j hj e=>TM ht hN hok hj e) a;obtain ⟨s2,p2⟩:=v2w (fun j hj e=>TM htM hNm hokm hj e) b;obtain ⟨s3,p3⟩:=x3l hf s1 c;have hs: ∀j,j<l.length->(rd m j).s =(rd l j).s :=fun j hj=>by rw [hm.node j hj,(Te _ _).2.2]
    have e:Ys m=Wq (Ys l) f.a f.b f.c f.d:=u1i s2 s3 fun u v w=>by
     rw [p2,p3];constructor
     .rintro ⟨j,hj,x,y,z,q,i1⟩;have hj:j<l.length:=(by omega);obtain ⟨c1,c2,c3⟩:=v6t hf hm hN hok (j+1) j (Bg j) hj (Y6 a hj) (Y6 b (by omega));obtain ⟨a',b',c',k1⟩:=Im.ex c1 x y z;obtain ⟨u',v',w',k2⟩:=Im.ex hf a' b' c';obtain ⟨r1,r2,r3⟩:=Im.uniq i1 (c3 _ _ _ _ _ _ _ _ _ k1 k2);subst r1;subst r2;subst r3;exact ⟨a',b',c',(p1 _ _ _).2 ⟨j,hj,x,y,z,hs j hj ▸ q,k1⟩,k2⟩
     .rintro ⟨x,y,z,q,i1⟩;obtain ⟨j,hj,a',b',c',q2,k1⟩:=(p1 _ _ _).1 q;obtain ⟨c1,c2,c3⟩:=v6t hf hm hN hok (j+1) j (Bg j) hj (Y6 a hj) (Y6 b (by omega));exact ⟨j,by omega,a',b',c',by rw [hs j hj];exact q2,c3 _ _ _ _ _ _ _ _ _ k1 i1⟩
    have hl:(Ys m).length <=1000000:=by have:=(JF s2).1;omega
    rw [Vp c,Aa,<-e,Yk (show Vm (Ys m) (Ys m)=true from Af hl),show Kx (Ys m) (Ys m)=true from Af rfl]
   .rw [Jy c];rfl
  .rw [b];rfl
  .rw [b];rfl
 .rw [a];rcases eM with b | b | b
  .rw [b];rfl
  .rw [b];rfl
  .rw [b];rfl
 .rw [a];rcases eM with b | b | b
  .rw [b];rfl
  .rw [b];rfl
  .rw [b];rfl
theorem v6z (hl:l.length<=12): ∀(k i:Nat) (M:zr),i+k=l.length->M.length=l.length->(∀j,j<l.length->rd M j=if j<i then G6 (rd l j) f else rd l j)->(∀j,j<i->(rd l j).a <0->Jr (rd l j).t (rd l j).x (rd l j).y (rd l j).z f.a f.b f.c f.d=0)-> ∃N,Yj (Jx l x1 f.a f.b f.c f.d) N (.to (.h3 M (i:Int)))=.ret [.bool true]
 | 0,i,M,hk,hM,hn,hw=>by
  have hm:Mvd l M f:=⟨hM,fun j hj=>by rw [hn j hj,AF (by omega)],fun j hj=>hw j (by omega)⟩
  refine ⟨1,?_⟩;rw [Zx];show Jx l x1 f.a f.b f.c f.d (.h3 M (i:Int))=_;rw [<-v7a hf hN hok ho ht h hm];unfold Jx;simp only [Zd];rw [An (show ¬((i:Int)<(M.length:Int)) by omega),Aa]
 | k + 1,i,M,hk,hM,hn,hw=>by
  have hi:i<l.length:=by omega
  have hMi:rd M i=rd l i:=by rw [hn i hi,Az (B1 i)]
  have w2:wrap .i64 ((i:Int)+1)=((i+1:Nat):Int):=Zq (by omega);by_cases ha:(rd l i).a <0
  .rcases My (RI (hN i hi)).fk hf.fk with e | e
   .have e:Jr (rd l i).t (rd l i).x (rd l i).y (rd l i).z f.a f.b f.c f.d=0:=e;obtain ⟨N,h0⟩:=v6z hl k (i+1) (M.set i (CD.mk (rd l i).n (rd l i).a (Lf (rd l i) f).a (Lf (rd l i) f).b (Lf (rd l i) f).c (Lf (rd l i) f).d (rd l i).s)) (by omega) (by rw [BT];exact hM) (fun j hj=>by
      rw [v5n (by omega)];by_cases g:j=i
      .subst g;rw [AF rfl,AF (by omega)];unfold G6;rw [Af ha];rfl
      .rw [Az g,hn j hj];by_cases g2:j<i
       .rw [AF g2,AF (by omega)]
       .rw [Az g2,Az (by omega)]) (fun j hj hb=>by
      by_cases g:j=i
      .subst g;exact e
      .exact hw j (by omega) hb)
    refine ⟨N+1,?_⟩;rw [Zx,<-h0]
    congr 1
    unfold Jx;simp only [Zj,Ah,w2,hMi];rw [Yk (Zt (by omega)),Aj,Yk (Zn (by omega)),Yk (Af (show i<M.length by omega)),An (show ¬(rd l i).a >=0 by omega),Aa,Yk (show Jq (rd l i).t (rd l i).x (rd l i).y (rd l i).z f.a f.b f.c f.d=true by unfold Jq;rw [Af (RK ht i),Af hf.t0];rfl),Vp e,Aa];rfl
   .have e:Jr (rd l i).t (rd l i).x (rd l i).y (rd l i).z f.a f.b f.c f.d=16:=e;refine ⟨1,?_⟩;rw [Zx];show Jx l x1 f.a f.b f.c f.d (.h3 M (i:Int))=_;unfold Jx;simp only [Zj,Ah,w2,hMi];rw [Yk (Zt (by omega)),Aj,Yk (Zn (by omega)),Yk (Af (show i<M.length by omega)),An (show ¬(rd l i).a >=0 by omega),Aa,Yk (show Jq (rd l i).t (rd l i).x (rd l i).y (rd l i).z f.a f.b f.c f.d=true by unfold Jq;rw [Af (RK ht i),Af hf.t0];rfl),e];rfl
  .obtain ⟨N,h0⟩:=v6z hl k (i+1) M (by omega) hM (fun j hj=>by
     rw [hn j hj];by_cases g:j=i
     .subst g;rw [Az (B1 _),AF (by omega)];unfold G6;rw [An ha];rfl
     .by_cases g2:j<i
      .rw [AF g2,AF (by omega)]
      .rw [Az g2,Az (by omega)]) (fun j hj hb=>by
     by_cases g:j=i
     .subst g;exact absurd hb ha
     .exact hw j (by omega) hb)
   refine ⟨N+1,?_⟩;rw [Zx,<-h0]
   congr 1
   unfold Jx;simp only [Zj,Ah,w2,hMi];rw [Yk (Zt (by omega)),Aj,Yk (Zn (by omega)),Yk (Af (show i<M.length by omega)),Af (show (rd l i).a >=0 by omega),Ab]
theorem j0p (hl:l.length<=12) (hs: ∀x∈l,x.s.length<=12): ∀(k i:Nat),i+k=l.length->0<i-> ∃N,Yj (Jx l x1 f.a f.b f.c f.d) N (.to (.h1 (l.take i) (i:Int)))=.ret [.bool true]
 | 0,i,hk,hi=>by
  have hi:l.length<=i:=by omega
  obtain ⟨N,h0⟩:=v6z (x1:=x1) hf hN hok ho ht h hl l.length 0 l (Ah _) rfl (fun j hj=>by rw [Az (AD j)]) (fun j hj=>absurd hj (AD j));refine ⟨N+1,?_⟩;rw [Zx,<-h0,A6 hi]
  congr 1
  unfold Jx;simp only [];rw [An (show ¬((i:Int)<(l.length:Int)) by omega)];rfl
 | k+1,i,hk,_=>by
  have hi:i<l.length:=by omega
  have w2:wrap .i64 ((i:Int)+1)=((i+1:Nat):Int):=Zq (by omega);have hlt:(l.take i).length =i:=List.length_take_of_le (by omega);obtain ⟨N,h0⟩:=j0p hl hs k (i+1) (by omega) (Nat.succ_pos _);refine ⟨N+1,?_⟩;have r1:decide (((l.take i).length +1+1)*(80+1)<=Vg)=true:=Zh (by omega);have e:l.take (i+1)=l.take i++[CD.mk (rd l i).n (rd l i).a (rd l i).t (rd l i).x (rd l i).y (rd l i).z (EG (rd l i).s)]:=by rw [<-List.take_append_getElem hi,<-Xm hi];rfl
  rw [Zx,<-h0]
  congr 1
  unfold Jx;simp only [Zj,Zd,w2];rw [Yk (Zt (by omega)),Aj,Yk (Zn (by omega)),Yk (show Ql (rd l i).s =true from Af (by have:=hs _ (Iv hi);omega)),r1,show Nat.beq 7 7=true from rfl,Af (Ah _),e];rfl
theorem OY (hl:l.length<=12) (hs: ∀x∈l,x.s.length<=12): ∃N,Yj (Jx l x1 f.a f.b f.c f.d) N (.to .h0)=.ret [.bool true]:=by
 by_cases hz:0<l.length
 .obtain ⟨N,h0⟩:=j0p (x1:=x1) hf hN hok ho ht h hl hs (l.length - 1) 1 (by omega) Nat.one_pos;refine ⟨N+1,?_⟩;have e:l.take 1=[CD.mk (rd l 0).n (rd l 0).a (rd l 0).t (rd l 0).x (rd l 0).y (rd l 0).z (EG (rd l 0).s)]:=by have:=List.take_append_getElem hz;rw [<-this,<-Xm hz];rfl
  rw [Zx,<-h0,e]
  congr 1
  unfold Jx;simp only [Zd];rw [Yk (Zt (by omega)),Aj,Yk (Zn (by omega)),Yk (show Ql (rd l 0).s =true from Af (by have:=hs _ (Iv hz);omega))];rfl
 .obtain rfl:l=[]:=List.length_eq_zero_iff.1 (by omega);refine ⟨2,?_⟩;have e:=v7a hf hN hok ho ht h (m:=[]) ⟨rfl,fun j hj=>absurd hj (AD j),fun j hj=>absurd hj (AD j)⟩;rw [Zx];show Jx [] x1 f.a f.b f.c f.d .h2 =_;rw [<-e];unfold Jx;simp only [Zd]
omit hf in
theorem j5n (x0:x1>=0) (xl:x1<(l.length:Int)) (hp:HB l x1=0):Mv (Js l x1)=0/\Mv (rd l x1.toNat).s =0/\GG (Js l x1)=GG (rd l x1.toNat).s :=by
 have ho':Jb l x1=true:=by unfold Jb;rw [ho,ht];rfl
 have hsol:=(Qh (l:=l) (by rw [h];rfl)).2.1;by_cases e:Ea l x1=0
 .obtain ⟨h1,⟨j,rfl,hj⟩,h3,h4,h5⟩:=u9w ho' e;unfold HB at hp;unfold Js;rw [Vp e,Aa,h3,Zj] at hp;rw [Vp e,Aa,h3,Zj];have hL:=Q3 hsol (Iv hj);obtain ⟨k1,k2⟩:=v0a (TM ht hN hok hj h4) hL hp;exact ⟨k1,hL,k2⟩
 .unfold HB at hp;rw [Jy e,Ab] at hp;exact absurd hp e
end
theorem lmv_run (l:zr) (x1 f0 f1 f2 f3:Int) (ht:(l.all fun x=>decide (0<=x.t))=true) (hf0:0<=f0): ∃N,Yj (Jx l x1 f0 f1 f2 f3) N (XH l x1 f0 f1 f2 f3)=.ret [.bool true]:=by
 unfold XH;simp only [Zd];cases g:Oa l with
 | true=>exact ⟨0,rfl⟩
 | false=>
  rw [AB,Ab];by_cases h12:l.length<=12
  .have ho:=u4y g;have hs: ∀x∈l,x.s.length<=12:=fun x hx=>((v7u g).2.2 x hx).1;rw [Af (show (l.length:Int)<=12 by omega),Ab,Yk ho];by_cases h:Ki l=0
   .rw [Mo h,Ax,Aa];by_cases hk:CT f0 f1 f2 f3=0
    .have hf:D8 ⟨f0,f1,f2,f3⟩:=w2s hf0 hk;obtain ⟨hT,hn,hok⟩:=u1o ho ht h;obtain ⟨N,hgo⟩:=OY (x1:=x1) hf hT.node hok ho ht h h12 hs;have K: ∀X:Xk F6,X=.to .h0 -> ∃N,Yj (Jx l x1 f0 f1 f2 f3) N X=.ret [.bool true]:=fun X e=>⟨N,e ▸ hgo⟩
     apply K;rw [Vp hk,Aa];by_cases x0:x1>=0
     .rw [Af x0,Ab];by_cases xl:x1<(l.length:Int)
      .rw [Af xl,Ab,Yk (show SS l x1=true by unfold SS Jb;rw [ho,ht];rfl),Yk (show Q9 _=true from rfl),Aj,Yk (Zn ⟨x0,xl⟩),Yk (show Q9 _=true from rfl)];by_cases p:HB l x1=0
       .obtain ⟨v0,v1,v2⟩:=j5n hT.node hok ho ht h x0 xl p;rw [Mo p,Ab,Vp v0,Aa,Vp v1,Aa,Vp v2,Aa]
       .rw [Mn p];rfl
      .rw [An xl];rfl
     .rw [An x0];rfl
    .exact ⟨0,by rw [Jy hk];rfl⟩
   .exact ⟨0,by rw [Mn h];rfl⟩
  .exact ⟨0,by rw [An (show ¬(l.length:Int)<=12 by omega)];rfl⟩
open Go.ChangeShapes Go.WideShapes Go.Deep
section
variable {P:Program}
def j7a (P:Program) (e:TypeId):List (TypeId×Nat):=match P.underlying e with
 | some (.struct fs)=>fs.toList.map fun f=>(f.type,f.offset)
 | _=>[]
theorem v8a {e t0 t1 t2 t3:TypeId} {a b c d:Nat} (h:j7a P e=[(t0,a),(t1,b),(t2,c),(t3,d)]): ∃fs:Array Field,P.underlying e=some (.struct fs)/\fs.size=4/\(∃f0,fs[0]? =some f0/\f0.type=t0/\f0.offset=a)/\(∃f1,fs[1]? =some f1/\f1.type=t1/\f1.offset=b)/\(∃f2,fs[2]? =some f2/\f2.type=t2/\f2.offset=c)/\ ∃f3,fs[3]? =some f3/\f3.type=t3/\f3.offset=d:=by
 unfold j7a at h;split at h
 .rename_i fs hu;refine ⟨fs,hu,?_⟩;obtain ⟨l⟩:=fs;simp only at h
  match l,h with
  | [f0,f1,f2,f3],h=>simp only [AT,BL,Bn,Ad,B9] at h;exact ⟨rfl,⟨f0,rfl,h.1.1,h.1.2⟩,⟨f1,rfl,h.2.1.1,h.2.1.2⟩,⟨f2,rfl,h.2.2.1.1,h.2.2.1.2⟩,f3,rfl,h.2.2.2.1,h.2.2.2.2⟩
 .cases h
abbrev O2 :List IntKind:=[.i64,.i64,.i64,.i64,.i64,.i64]
abbrev ksF :List IntKind:=[.u8,.i64,.i64,.i64]
variable {HH:Type} {enc:TypeId×Value->HH} {w:World} {base:Nat} {gT:Bool}
theorem v0b {t e:TypeId} {ks:List IntKind} {cs:List Value} {x:DataW HH×List MemPlace} {fuel:Nat} (ht:P.underlying t=some (.slice e)) (hk:JK P 30 e=some ks) (hks:1<=ks.length)
  (h:DataW.trod enc P w base (fun _=>true) gT fuel t cs=some x):
  ∃(v:Value) (n:Nat) (c:Nat->Nat->Int),cs=[v]/\VRel (rhoOf fun k=>w.heap[k]?) (.dat n (fun i=>JS ks (c i))) v:=by
 rcases open_slice ht h with ⟨h0,rfl⟩ | ⟨a,len,cap,m,fl,D,Pl,hcs,hb,hl,eT,hm,rfl,hi⟩
 .exact ⟨_,0,fun _ _=>0,h0,.datn _⟩
 .simp only [if_true] at hm;subst hm;by_cases hc0:m=0
  .subst hc0;obtain rfl:len=0:=by omega
   exact ⟨_,0,fun _ _=>0,hcs,.datz _ _ _⟩
  .have hspot:a.spot=none:=by
    obtain ⟨cs',hc',ht'⟩:=hi 0 (by omega);have I:=S5 30 e ks hk _ _ _ ht';obtain ⟨_,eK,fG⟩:=World.cells?_some hc';have h1:=fG 0 (by rw [<-eK,I.length];exact hks);obtain ⟨blk,off,spot⟩:=a;have h2:cs'[0]? =some (cs'[0]'(by rw [I.length];exact hks)):=(by simp);rw [h2] at h1
    simpa [Addr.add] using World.cell?_spot h1
   obtain ⟨blk,off,spot⟩:=a;simp only at hspot;subst hspot;obtain ⟨c,h1,h2⟩:=u5x (w:=w) hk hl hl hi;exact ⟨_,len,c,hcs,h1⟩
def QO (x:CD):Prop:=(0<=x.t/\x.t<256)/\(-9223372036854775808<=x.a/\x.a<=9223372036854775807)/\(-9223372036854775808<=x.x/\x.x<=9223372036854775807)/\(-9223372036854775808<=x.y/\x.y<=9223372036854775807)/\(-9223372036854775808<=x.z/\x.z<=9223372036854775807)
theorem open_nodes {t e tS tI tF tL b:TypeId} {v:Value} {d:DataW HH} {p:List MemPlace} (ht:P.underlying t=some (.slice e)) (hs:j7a P e=[(tS,0),(tI,1),(tF,2),(tL,6)]) (ce:P.cellsOf e=7) (c0:P.cellsOf tS=1) (c1:P.cellsOf tI=1) (c2:P.cellsOf tF=4) (c3:P.cellsOf tL=1)
  (uS:P.underlying tS=some .string) (kI:JK P 30 tI=some [.i64]) (kF:JK P 30 tF=some ksF) (u1:P.underlying tL=some (.slice b)) (kb:JK P 30 b=some O2) {b0:Nat} (hv:Value.okWide P w .any b0 t v) (h:DataW.Trod enc P w base (fun _=>true) gT t v d p):
  ∃X:zr,VRel (rhoOf fun k=>w.heap[k]?) (.dat X.length (Zz X)) v/\ ∀x∈X,QO x:=by
 obtain ⟨fuel,h⟩:=h;have hvc:v.cells.toList=[v]:=by
  unfold Value.okWide at hv;rw [ht] at hv;unfold Cell.okWide at hv;rw [ht] at hv;cases v <;> first | rfl | (simp [Cell.ok,ht] at hv)
 rcases open_slice ht h with ⟨h0,_⟩ | ⟨a,len,cap,m,fl,D,Pl,hcs,hb,hl,eT,hm,hx,hi⟩
 .rw [hvc] at h0;obtain rfl:v=.slice none 0 0:=by simpa using h0
  exact ⟨[],.datn _,fun x hx=>by cases hx⟩
 .rw [hvc] at hcs;obtain rfl:v=.slice (some a) len cap:=by simpa using hcs
  have hspot:a.spot=none:=by unfold Value.okWide at hv;rw [ht] at hv;unfold Cell.okWide at hv;rw [ht] at hv;simp only [Cell.ok,ht] at hv;exact hv.2.2.2.1
  obtain ⟨blk,off,spot⟩:=a;simp only at hspot;subst hspot;simp only [if_true] at hm;subst hm;obtain ⟨fs,hu,hsz,⟨f0,hf0,rfl,o0⟩,⟨f1,hf1,rfl,o1⟩,⟨f2,hf2,rfl,o2⟩,f3,hf3,rfl,o3⟩:=v8a hs;have key: ∀i,i<len-> ∃q:CD×(Nat->Value),(∀j,j<7->w.cell? ⟨blk,off+(i*7+j),none⟩=some (q.2 j))/\(∀j (hj:j<7),VRel (rhoOf fun k=>w.heap[k]?) ((Xp.cells q.1)[j]'hj) (q.2 j))/\QO q.1:=by
   intro i hil;obtain ⟨cs',hc',ht'⟩:=hi i (by omega);obtain ⟨xs,n,_,hx',hcl,hxl,hf⟩:=DataW.trod_struct hu ht';have eK:cs'.length=7:=hcl.trans ce;have fG:=(World.cells?_some hc').2.2;have g0:=hf 0 f0 hf0;have g1:=hf 1 f1 hf1;have g2:=hf 2 f2 hf2;have g3:=hf 3 f3 hf3;rw [o0,c0,AR] at g0;rw [o1,c1] at g1;rw [o2,c2] at g2;rw [o3,c3] at g3;rw [At (show 0<xs.length by omega)] at g0;rw [At (show 1<xs.length by omega)] at g1;rw [At (show 2<xs.length by omega)] at g2;rw [At (show 3<xs.length by omega)] at g3;obtain ⟨s,s1,_,_⟩:=DataW.trod_string uS g0;obtain ⟨ns,n1,n2,n3⟩:=S5 30 _ _ kI _ _ _ g1;obtain ⟨ms,m1,m2,m3⟩:=S5 30 _ _ kF _ _ _ g2;obtain ⟨u,n',c,e1,e2⟩:=v0b u1 kb (by decide) g3
   match ns,n1,ms,m1 with
   | [a],_,[q0,q1,q2,q3],_=>
    have ecs:cs'=[.string s,.int .i64 a,.int .u8 q0,.int .i64 q1,.int .i64 q2,.int .i64 q3,u]:=by
     have h1:cs'=cs'.take 1++((cs'.drop 1).take 1++((cs'.drop 2).take 4++(cs'.drop 6).take 1)):=by
      match cs',eK with
      | [_,_,_,_,_,_,_],_=>rfl
     rw [h1,s1,n2,m2,e1];rfl
    have hb: ∀(k:IntKind) (n:Int),k.has n->k.min<=n/\n<=k.max:=fun k n h=>h;have b1:=hb .i64 a (n3 (.i64,a) (by simp));have b2:=hb .u8 q0 (m3 (.u8,q0) (by simp));have b3:=hb .i64 q1 (m3 (.i64,q1) (by simp));have b4:=hb .i64 q2 (m3 (.i64,q2) (by simp));have b5:=hb .i64 q3 (m3 (.i64,q3) (by simp));rw [show IntKind.i64.min= -9223372036854775808 from rfl,show IntKind.i64.max=9223372036854775807 from rfl] at b1 b3 b4 b5;rw [show IntKind.u8.min=0 from rfl,show IntKind.u8.max=255 from rfl] at b2;refine ⟨(⟨s.data.toList,a,q0,q1,q2,q3,Cl R6 n' fun i=>JS O2 (c i)⟩,fun j=>cs'.getD j undef),fun j hj=> ?_,fun j hj=> ?_,?_⟩
    .have:=fG j (by omega);rw [ce] at this;simp only [Xf] at this;rw [show off+(i*7+j)=off+i*7+j by omega,this];show cs'[j]? =some (cs'.getD j undef);rw [Bk,At (by omega)];rfl
    .have last:=(Xy (α:=R6) (v:=.dat n' fun i=>JS O2 (c i)) rfl (Xo fun i _=>rfl)).sound e2;rw [ecs]
     match j,hj with
     | 0,_=>exact .str s.data.toList
     | 1,_=>exact .int _ _
     | 2,_=>exact .int _ _
     | 3,_=>exact .int _ _
     | 4,_=>exact .int _ _
     | 5,_=>exact .int _ _
     | 6,_=>exact last
    .exact ⟨⟨b2.1,Int.lt_of_le_of_lt b2.2 (by decide)⟩,b1,b3,b4,b5⟩
  let Q:Nat->CD×(Nat->Value):=fun i=>if hil:i<len then (key i hil).choose else (Xp.d,fun _=>undef)
  have hQ: ∀i,i<len->(∀j,j<7->w.cell? ⟨blk,off+(i*7+j),none⟩=some ((Q i).2 j))/\(∀j (hj:j<7),VRel (rhoOf fun k=>w.heap[k]?) ((Xp.cells (Q i).1)[j]'hj) ((Q i).2 j))/\QO (Q i).1:=by intro i hil;have:=(key i hil).choose_spec;simp only [Q,hil,dif_pos];exact this
  have hXl:((List.range len).map fun i=>(Q i).1).length =len:=by simp
  have fR: ∀i,i<len->Zz ((List.range len).map fun i=>(Q i).1) i=Xp.cells (Q i).1:=fun i hi=>by show Xp.cells (rd _ i)=_;rw [Xm (by rw [hXl];exact hi)];simp only [B7,List.getElem_range]
  refine ⟨(List.range len).map fun i=>(Q i).1,?_,fun x hx2=> ?_⟩
  .rw [hXl];refine .dat len _ blk off 7 m (fun i j=>(Q i).2 j) hl (fun i hil=>by rw [fR i hil];rfl) (fun i j hil hj=> ?_) (fun i j hil hj=> ?_)
   .have hj7:j<7:=by rw [fR i hil] at hj;exact hj
    have:=(hQ i hil).2.1 j hj7;simp only [fR i hil];exact this
   .have e2:=(hQ i hil).1 j hj;unfold World.cell? at e2;split at e2
    .rename_i cl el fz hb2;simp only [Option.isSome_none,Bool.false_eq_true,if_false] at e2;exact ⟨cl,el,fz,hb2,e2⟩
    .cases e2
  .obtain ⟨i,hi2,rfl⟩:=A2.1 hx2;exact (hQ i (AL.1 hi2)).2.2
end
section
variable {P:Program} {w:World} {base:Nat}
theorem u6d {u:TypeId} {k:IntKind} {v:Value} (hu:P.underlying u=some (.int k)) (h:Cell.okWide P w .any base u v): ∃n,v=.int k n/\k.has n=true:=by simp only [Cell.okWide,hu] at h;cases v <;> simp_all [Cell.ok]
theorem w5l : ∀(us:List TypeId) (ks:List IntKind) (cs:List Value),cs.length=us.length->us.map P.underlying=ks.map (fun k=>some (.int k))->
  (∀(i:Nat) (v:Value),cs[i]? =some v-> ∃u,us[i]? =some u/\Cell.okWide P w .any base u v)->
  ∃ns:zq,ns.length=ks.length/\cs=List.zipWith Value.int ks ns/\ ∀p∈List.zip ks ns,p.1.has p.2=true
 | [],[],[],_,_,_=>⟨[],rfl,rfl,fun p hp=>by cases hp⟩
 | u::us,k::ks,c::cs,hl,hk,h=>by
  simp only [AT,Bn] at hk;obtain ⟨u',hu',hc⟩:=h 0 c rfl;obtain rfl:u=u':=Ag hu';obtain ⟨n,rfl,hn⟩:=u6d hk.1 hc;obtain ⟨ns,h1,h2,h3⟩:=w5l us ks cs (by simpa using hl) hk.2 fun i v hi=>h (i+1) v hi;refine ⟨n::ns,by simp [h1],by rw [h2];rfl,fun p hp=> ?_⟩;rw [List.zip_cons_cons,AN] at hp;rcases hp with rfl | hp
  .exact hn
  .exact h3 p hp
 | [],_::_,_,_,hk,_=>by simp at hk
 | _::_,[],_,_,hk,_=>by simp at hk
 | _::_,_::_,[],hl,_,_=>by simp at hl
 | [],[],_::_,hl,_,_=>by simp at hl
def VR (P:Program) (t:TypeId):Bool:=match P.underlying t with | some (.struct _) | some (.array _ _)=>true | _=>false
theorem open_agg_ints {t:TypeId} {us:List TypeId} {ks:List IntKind} {v:Value} (hs:VR P t=true) (hc:P.cellTypes P.depth t=some us) (hn:P.cellsOf t=us.length)
  (hk:us.map P.underlying=ks.map (fun k=>some (.int k))) (hv:Value.okWide P w .any base t v):
  ∃ns:zq,ns.length=ks.length/\v=.agg (List.zipWith Value.int ks ns).toArray /\ ∀p∈List.zip ks ns,p.1.has p.2=true:=by
 have h: ∃cs,v=.agg cs/\cs.size=P.cellsOf t/\Row.okWide P w .any base t cs:=by
  unfold Value.okWide at hv;unfold VR at hs;split at hv
  .exact hv
  .exact hv
  .rename_i h1 h2;split at hs
   .rename_i fs h;exact absurd h (h1 fs)
   .rename_i a b h;exact absurd h (h2 a b)
   .cases hs
 obtain ⟨cs,rfl,hsz,ts,hts,_,fR⟩:=h;obtain rfl:us=ts:=Ag (hc.symm.trans hts);have hl:cs.toList.length=us.length:=by simpa using hsz.trans hn
 obtain ⟨ns,h1,h2,h3⟩:=w5l us ks cs.toList hl hk fun i v hi=>by
  have hi':cs[i]? =some v:=by simpa using hi
  obtain ⟨u,hu,hc⟩:=fR i v hi';have hlt:i<us.length:=by
   have:=(AC.mp hi').1
   simpa [<-hl] using this
  rw [Nat.mod_eq_of_lt hlt] at hu;exact ⟨u,hu,hc⟩
 exact ⟨ns,h1,by rw [<-h2],h3⟩
theorem vrel_ints {ρ:CF} (ks:List IntKind) (ns:zq):VRel ρ (.agg (List.zipWith CA.int ks ns)) (.agg (List.zipWith Value.int ks ns).toArray):=by refine .agg _ _ (by simp) fun i h1 h2=> ?_;simp only [List.getElem_zipWith,List.getElem_toArray];exact .int _ _
end
end Go.Am
end
