/- A part of a proof: several texts in one. -/
import Derived.Test.YthnnmgkacjjpeaaGreatDoorNf6
import Derived.ChangeArms
set_option maxRecDepth 1000000
set_option maxHeartbeats 8000000
set_option linter.unusedVariables false
set_option linter.unusedSimpArgs false
noncomputable section
namespace Go.Am
open IntKind (wrap)
open Go.Proofs Go.Sort Go.Shelf Go.RowKit Go.Lib
section
variable {s:zy} {ps w4 w86 w5:List zy} {i:Int} {t a b c:Int} {sol:zt} {pre:zu}
theorem ne9 {v14:List zy} (h:4=v14.length) (hx:(rd v14 0).length <=1000000):Zd s (.h9 v14 4 ps w5 i w86 t a b c sol pre)=(CY (rd v14 0)).elim (eF CN) fun v=>.to (.h13 v14 4 ps w5 i w86 v t a b c sol pre):=by rw [<-EU hx];unfold Zd;simp only [];rw [Zu (show decide ((0:Int)<4)=true from rfl),Zu (DT (j:=0) (by omega) (by omega))];rfl
theorem ne13 {v14:List zy} {e:Int} (h:4=v14.length) (hx:(rd v14 1).length <=1000000):Zd s (.h13 v14 4 ps w5 i w86 e t a b c sol pre)=(CY (rd v14 1)).elim (eF CN) fun v=>.to (.h17 v14 4 ps w5 i w86 e v t a b c sol pre):=by rw [<-EU hx];unfold Zd;simp only [];rw [Zu (show decide ((1:Int)<4)=true from rfl),Zu (DT (j:=1) (by omega) (by omega))];rfl
theorem ne17 {v14:List zy} {e f:Int} (h:4=v14.length) (hx:(rd v14 2).length <=1000000):Zd s (.h17 v14 4 ps w5 i w86 e f t a b c sol pre)=(CY (rd v14 2)).elim (eF CN) fun v=>.to (.h19 v14 4 ps w5 i w86 e f v t a b c sol pre):=by rw [<-EU hx];unfold Zd;simp only [];rw [Zu (show decide ((2:Int)<4)=true from rfl),Zu (DT (j:=2) (by omega) (by omega))];rfl
theorem ne19 {v14:List zy} {e f g:Int} (h:4=v14.length) (hx:(rd v14 3).length <=1000000):Zd s (.h19 v14 4 ps w5 i w86 e f g t a b c sol pre)=(CY (rd v14 3)).elim (eF CN) fun v=>.to (.h21 v14 4 ps w5 i w86 e f g v t a b c sol pre):=by rw [<-EU hx];unfold Zd;simp only [];rw [Zu (show decide ((3:Int)<4)=true from rfl),Zu (DT (j:=3) (by omega) (by omega))];rfl
theorem ne21 {v14:List zy} {e f g h:Int} (h1:pre.length<=1000000) (h2:ps.length<=1000000) (h5:1<w5.length):Zd s (.h21 v14 4 ps w5 i w86 e f g h t a b c sol pre)=bif decide (0<=e)&&decide (e<=23) then .to (.h7 (ps++[rd w5 1]) (wrap .i64 (i+1)) e f g h [] (pre++[DE t a b c sol])) else eF CN:=by
 have hl:(pre++[(B8.mk ([]:zy) 0 t a b c sol)]).length <=1000001:=by rw [Ap,AE];omega
 unfold Zd;simp only [];rw [show decide ((4:Int)<4)=false from rfl,Ab];by_cases g1:e<0
 .rw [Aa g1,Ah (show ¬0<=e by omega)];rfl
 .rw [Ah g1,Aa (show 0<=e by omega),Ab,As];by_cases g2:e>23
  .rw [Aa g2,Ah (show ¬e<=23 by omega)];rfl
  .rw [Ah g2,Aa (show e<=23 by omega),Ab,Af];rw [Zu (Fp (by omega)),Zu (by simp),Zu (DT (j:=1) (by omega) (by omega)),Zu (Fp (by omega)),Zu (by simp),w8 e (by omega)]
theorem be10 {v14:List zy} (h6:6=v14.length) (hx:(rd v14 0).length <=1000000):Zd s (.h10 v14 6 w4 ps i w86 t a b c sol pre)=(CY (rd v14 0)).elim (eF CN) fun v=>.to (.h14 v14 6 w4 ps i w86 v t a b c sol pre):=by rw [<-EU hx];unfold Zd;simp only [];rw [Zu (show decide ((0:Int)<6)=true from rfl),Zu (DT (j:=0) (by omega) (by omega))];rfl
theorem be14 {v14:List zy} {e:Int} (h6:6=v14.length) (hx:(rd v14 1).length <=1000000):Zd s (.h14 v14 6 w4 ps i w86 e t a b c sol pre)=(CY (rd v14 1)).elim (eF CN) fun v=>.to (.h18 v14 6 w4 ps i w86 e v t a b c sol pre):=by rw [<-EU hx];unfold Zd;simp only [];rw [Zu (show decide ((1:Int)<6)=true from rfl),Zu (DT (j:=1) (by omega) (by omega))];rfl
theorem be18 {v14:List zy} {e f:Int} (h6:6=v14.length) (hx:(rd v14 2).length <=1000000):Zd s (.h18 v14 6 w4 ps i w86 e f t a b c sol pre)=(CY (rd v14 2)).elim (eF CN) fun v=>.to (.h20 v14 6 w4 ps i w86 e f v t a b c sol pre):=by rw [<-EU hx];unfold Zd;simp only [];rw [Zu (show decide ((2:Int)<6)=true from rfl),Zu (DT (j:=2) (by omega) (by omega))];rfl
theorem be20 {v14:List zy} {e f g:Int} (h6:6=v14.length) (hx:(rd v14 3).length <=1000000):Zd s (.h20 v14 6 w4 ps i w86 e f g t a b c sol pre)=(CY (rd v14 3)).elim (eF CN) fun v=>.to (.h22 v14 6 w4 ps i w86 e f g v t a b c sol pre):=by rw [<-EU hx];unfold Zd;simp only [];rw [Zu (show decide ((3:Int)<6)=true from rfl),Zu (DT (j:=3) (by omega) (by omega))];rfl
theorem be22 {v14:List zy} {e f g h:Int} (h6:6=v14.length) (hx:(rd v14 4).length <=1000000):Zd s (.h22 v14 6 w4 ps i w86 e f g h t a b c sol pre)=(CY (rd v14 4)).elim (eF CN) fun v=>.to (.h23 v14 6 w4 ps i w86 e f g h v t a b c sol pre):=by rw [<-EU hx];unfold Zd;simp only [];rw [Zu (show decide ((4:Int)<6)=true from rfl),Zu (DT (j:=4) (by omega) (by omega))];rfl
theorem be23 {v14:List zy} {e f g h k:Int} (h6:6=v14.length) (hx:(rd v14 5).length <=1000000):Zd s (.h23 v14 6 w4 ps i w86 e f g h k t a b c sol pre)=(CY (rd v14 5)).elim (eF CN) fun v=>.to (.h24 v14 6 w4 ps i w86 e f g h k v t a b c sol pre):=by rw [<-EU hx];unfold Zd;simp only [];rw [Zu (show decide ((5:Int)<6)=true from rfl),Zu (DT (j:=5) (by omega) (by omega))];rfl
theorem be24 {v14:List zy} {e f g h k l:Int} (h1:pre.length<=1000000) (h2:sol.length<=1000000):Zd s (.h24 v14 6 w4 ps i w86 e f g h k l t a b c sol pre)=.to (.h7 ps (wrap .i64 (i+1)) t a b c (sol++[⟨e,f,g,h,k,l⟩]) pre):=by
 have w:wrap .i64 ((((pre.length+1):Nat):Int) - 1)=(pre.length:Int):=by rw [Zq (by omega)];omega
 unfold Zd;simp only [];rw [show decide ((6:Int)<6)=false from rfl,Ab,w,Zj,Ar,Zu (Yx (by omega)),Ak,Zu (Ww _),Zu (HB (by omega)),Zu (Aa (by omega))]
end
section
variable {s:zy} {ps w4 w86 w5:List zy} {i:Int} {t a b c:Int} {sol:zt} {pre:zu}
theorem Vm (w:zy) (r:List zy):Jz (w::r)=(CY w).bind fun n=>(Jz r).bind fun l=>some (n::l):=by
 rw [Jz];cases CY w with
 | none=>rfl
 | some n=>cases Jz r <;> rfl
theorem Va {σ:Type} (st:σ->Xy σ) (n:Nat):Zt st n (eF σ)=eF σ:=Za _ _ _
theorem u1l {e1 e2 e3 e4:zy} (h1:pre.length<=1000000) (h2:ps.length<=1000000) (h5:1<w5.length) (l1:e1.length<=1000000) (l2:e2.length<=1000000) (l3:e3.length<=1000000) (l4:e4.length<=1000000) (N:Nat):
  Zt (Zd s) (N+5) (.to (.h9 [e1,e2,e3,e4] 4 ps w5 i w86 t a b c sol pre))=DM (fun p t' x y z=>Zt (Zd s) N (.to (.h7 (ps++[p]) (wrap .i64 (i+1)) t' x y z [] (pre++[DE t a b c sol])))) (fun _=>eF CN) ((Jz [e1,e2,e3,e4]).bind (EL (rd w5 1))):=by
 rw [Zx,ne9 (v14:=[e1,e2,e3,e4]) rfl l1,show rd [e1,e2,e3,e4] 0=e1 from rfl,Vm e1];cases CY e1 with
 | none=>exact Va _ _
 | some x1=>
  show Zt _ (N+4) (.to (CN.h13 _ _ _ _ _ _ x1 _ _ _ _ _ _))=_;rw [Zx,ne13 (v14:=[e1,e2,e3,e4]) rfl l2,show rd [e1,e2,e3,e4] 1=e2 from rfl,Vm e2];cases CY e2 with
  | none=>exact Va _ _
  | some x2=>
   show Zt _ (N+3) (.to (CN.h17 _ _ _ _ _ _ x1 x2 _ _ _ _ _ _))=_;rw [Zx,ne17 (v14:=[e1,e2,e3,e4]) rfl l3,show rd [e1,e2,e3,e4] 2=e3 from rfl,Vm e3];cases CY e3 with
   | none=>exact Va _ _
   | some x3=>
    show Zt _ (N+2) (.to (CN.h19 _ _ _ _ _ _ x1 x2 x3 _ _ _ _ _ _))=_;rw [Zx,ne19 (v14:=[e1,e2,e3,e4]) rfl l4,show rd [e1,e2,e3,e4] 3=e4 from rfl,Vm e4];cases CY e4 with
    | none=>exact Va _ _
    | some x4=>
     show Zt _ (N+1) (.to (CN.h21 _ _ _ _ _ _ x1 x2 x3 x4 _ _ _ _ _ _))=_;rw [Zx,ne21 h1 h2 h5];show _=DM _ _ (bif decide (0<=x1)&&decide (x1<=23) then some (.nod (rd w5 1) x1 x2 x3 x4) else none);cases decide (0<=x1)&&decide (x1<=23) with
     | true=>rfl
     | false=>exact Va _ _
theorem j2f {e1 e2 e3 e4 e5 e6:zy} (h1:pre.length<=1000000) (h2:sol.length<=1000000) (l1:e1.length<=1000000) (l2:e2.length<=1000000) (l3:e3.length<=1000000) (l4:e4.length<=1000000) (l5:e5.length<=1000000) (l6:e6.length<=1000000) (N:Nat):
  Zt (Zd s) (N+7) (.to (.h10 [e1,e2,e3,e4,e5,e6] 6 w4 ps i w86 t a b c sol pre))=DM (fun _ _ _ _ _=>eF CN) (fun r=>Zt (Zd s) N (.to (.h7 ps (wrap .i64 (i+1)) t a b c (sol++[r]) pre))) ((Jz [e1,e2,e3,e4,e5,e6]).bind Ea):=by
 rw [Zx,be10 (v14:=[e1,e2,e3,e4,e5,e6]) rfl l1,show rd [e1,e2,e3,e4,e5,e6] 0=e1 from rfl,Vm e1];cases CY e1 with
 | none=>exact Va _ _
 | some x1=>
  show Zt _ (N+6) (.to (CN.h14 _ _ _ _ _ _ x1 _ _ _ _ _ _))=_;rw [Zx,be14 (v14:=[e1,e2,e3,e4,e5,e6]) rfl l2,show rd [e1,e2,e3,e4,e5,e6] 1=e2 from rfl,Vm e2];cases CY e2 with
  | none=>exact Va _ _
  | some x2=>
   show Zt _ (N+5) (.to (CN.h18 _ _ _ _ _ _ x1 x2 _ _ _ _ _ _))=_;rw [Zx,be18 (v14:=[e1,e2,e3,e4,e5,e6]) rfl l3,show rd [e1,e2,e3,e4,e5,e6] 2=e3 from rfl,Vm e3];cases CY e3 with
   | none=>exact Va _ _
   | some x3=>
    show Zt _ (N+4) (.to (CN.h20 _ _ _ _ _ _ x1 x2 x3 _ _ _ _ _ _))=_;rw [Zx,be20 (v14:=[e1,e2,e3,e4,e5,e6]) rfl l4,show rd [e1,e2,e3,e4,e5,e6] 3=e4 from rfl,Vm e4];cases CY e4 with
    | none=>exact Va _ _
    | some x4=>
     show Zt _ (N+3) (.to (CN.h22 _ _ _ _ _ _ x1 x2 x3 x4 _ _ _ _ _ _))=_;rw [Zx,be22 (v14:=[e1,e2,e3,e4,e5,e6]) rfl l5,show rd [e1,e2,e3,e4,e5,e6] 4=e5 from rfl,Vm e5];cases CY e5 with
     | none=>exact Va _ _
     | some x5=>
      show Zt _ (N+2) (.to (CN.h23 _ _ _ _ _ _ x1 x2 x3 x4 x5 _ _ _ _ _ _))=_;rw [Zx,be23 (v14:=[e1,e2,e3,e4,e5,e6]) rfl l6,show rd [e1,e2,e3,e4,e5,e6] 5=e6 from rfl,Vm e6];cases CY e6 with
      | none=>exact Va _ _
      | some x6=>show Zt _ (N+1) (.to (CN.h24 _ _ _ _ _ _ x1 x2 x3 x4 x5 x6 _ _ _ _ _ _))=_;rw [Zx,be24 h1 h2];rfl
end
def pB {σ:Type} (ws:List zy) (g0:Bool) (Kb:Xy σ):Xy σ:=
 bif (rd ws 0 == ([98,111,120]:zy)) then
  bif g0 then
   bif decide (1<=ws.length) then bif decide (ws.length<=ws.length) then
    bif ((((ws.length - 1):Nat):Int) != 6) then eF σ else Kb
   else .stuck else .stuck
  else eF σ
 else eF σ
def pT {σ:Type} (ws:List zy) (g0:Bool) (Kn Kb:Xy σ):Xy σ:=
 bif (decide ((0:Int)<=0/\0<(ws.length:Int))&&true) then
  bif (rd ws 0 == ([110,111,100,101]:zy)) then
   bif decide ((ws.length:Int)>1) then
    bif (decide ((0:Int)<=1/\1<(ws.length:Int))&&true) then
     bif (rd ws 1 == ([]:zy)) then eF σ else
      bif Vs (rd ws 1) then
       bif (C3 (rd ws 1) != 0) then eF σ else
        bif decide (2<=ws.length) then bif decide (ws.length<=ws.length) then
         bif ((((ws.length - 2):Nat):Int) != 4) then eF σ else Kn
        else .stuck else .stuck
      else .stuck
    else .stuck
   else pB ws g0 Kb
  else pB ws g0 Kb
 else .stuck
theorem LJ {σ:Type} {w:zy} {r:List zy} {Kb:Xy σ}:pB (w::r) true Kb=bif decide (w=DS)&&decide (r.length=6) then Kb else eF σ:=by
 unfold pB;rw [show (rd (w::r) 0 == ([98,111,120]:zy))=decide (w=DS) from Fm w _];cases decide (w=DS) with
 | false=>rfl
 | true=>
  rw [Af,Af,Zu (Aa (by rw [Aq];omega)),Zu (Aa (Aj _)),As];by_cases h:r.length=6
  .rw [Aa h,Qo (by rw [Aq];omega)];rfl
  .rw [Ah h,Qm (by rw [Aq];omega)];rfl
def pN {σ:Type} (Kn:Xy σ):List zy->Xy σ
 | p::q=>bif decide (q.length=4)&&(!decide (p=[])&&decide (C3 p=0)) then Kn else eF σ
 | []=>eF σ
theorem LH {σ:Type} {w:zy} {r:List zy} {Kn Kb:Xy σ} (hs: ∀p∈r,p.length<=1000000):
  pT (w::r) true Kn Kb=bif decide (w=E2) then pN Kn r else bif decide (w=DS)&&decide (r.length=6) then Kb else eF σ:=by
 have hb:=LJ (w:=w) (r:=r) (Kb:=Kb);unfold pT;rw [Zu (DT (j:=0) (by omega) (by rw [Aq];omega))];rw [show (rd (w::r) 0 == ([110,111,100,101]:zy))=decide (w=E2) from Fm w _];by_cases hw:w=E2
 .have hbx:pB (w::r) true Kb=eF σ:=by rw [hb,Ah (show ¬w=DS by rw [hw];decide)];rfl
  rw [Aa hw,Af,Af,hbx]
  match r,hs with
  | [],_=>rfl
  | p::q,hs=>
   rw [Xv (by rw [Aq,Aq];omega),Af,Zu (DT (j:=1) (by omega) (by rw [Aq,Aq];omega))];rw [show rd (w::p::q) 1=p from rfl,Fm p [],Zu (show Vs p=true from Aa (hs p (by simp)))];rw [Zu (show decide (2<=(w::p::q).length)=true from Aa (by rw [Aq,Aq];omega)),Zu (show decide ((w::p::q).length <=(w::p::q).length)=true from Aa (Aj _))];show _=bif decide (q.length=4)&&(!decide (p=[])&&decide (C3 p=0)) then Kn else eF σ;have e4:((((w::p::q).length - 2:Nat):Int) != 4)= !decide (q.length=4):=by
    rw [Aq,Aq];by_cases h:q.length=4
    .rw [Aa h,Qo (by omega)];rfl
    .rw [Ah h,Qm (by omega)];rfl
   have e0:(C3 p != 0)= !decide (C3 p=0):=by
    by_cases h:C3 p=0
    .rw [Aa h,Qo h];rfl
    .rw [Ah h,Qm h];rfl
   rw [e4,e0];cases decide (p=[]) <;> cases decide (C3 p=0) <;> cases decide (q.length=4) <;> rfl
 .rw [Ah hw,Ab,Ab];exact hb
theorem N4 {s:zy} {ls ps:List zy} {i:Nat} {t a b c:Int} {sol:zt} {pre:zu} {w:zy} {r:List zy} (hls:Jp (Yg s [10]) [10]=ls) (hi:i<ls.length) (hx:(rd ls i).length <=1000000) (hw:Ye 32 [] (rd ls i)=w::r):
  Zd s (.h7 ps (i:Int) t a b c sol pre)=pT (w::r) true (.to (.h9 (Vy (w::r) 2 ((w::r).length - 2)) ((((w::r).length - 2):Nat):Int) ps (w::r) (i:Int) (Vy (w::r) 2 ((w::r).length - 2)) t a b c sol pre))
   (.to (.h10 (Vy (w::r) 1 ((w::r).length - 1)) ((((w::r).length - 1):Nat):Int) (Vy (w::r) 1 ((w::r).length - 1)) ps (i:Int) (Vy (w::r) 1 ((w::r).length - 1)) t a b c sol pre)):=by
 have hW:Jp (rd ls i) [32]=w::r:=by rw [Re];exact hw
 have g0:decide ((((pre.length+1):Nat):Int)>0)=true:=Aa (by omega);unfold Zd;simp only [hls,Zj,hW];rw [Zu (Ym (by omega)),Zu (BM.2 ⟨Yx (by omega),rfl⟩)];rw [Zu (show Ji (rd ls i) [32]=true by unfold Ji;rw [Aa (show (rd ls i).length <4294967281 by omega)];rfl),g0];rfl
theorem u1h {s:zy} {ls ps:List zy} {i:Nat} {t a b c:Int} {sol:zt} {pre:zu} (hls:Jp (Yg s [10]) [10]=ls) (hi:i<ls.length) (hx:(rd ls i).length <=1000000) (hn:ls.length<=1000000) (h1:pre.length<=1000000) (h2:sol.length<=1000000) (h3:ps.length<=1000000):
  ∃M,∀N,Zt (Zd s) (N+M) (.to (.h7 ps (i:Int) t a b c sol pre))=DM (fun p t' x y z=>Zt (Zd s) N (.to (.h7 (ps++[p]) ((i+1:Nat):Int) t' x y z [] (pre++[DE t a b c sol])))) (fun q=>Zt (Zd s) N (.to (.h7 ps ((i+1:Nat):Int) t a b c (sol++[q]) pre))) (ED (rd ls i)):=by
 have w1:wrap .i64 ((i:Int)+1)=((i+1:Nat):Int):=Zq (by omega);have hne:=G7 32 (rd ls i) [];have hpc: ∀p,p∈Ye 32 [] (rd ls i)->p.length<=(rd ls i).length :=fun p hp=>by have:=Vn 32 (rd ls i) [] p hp;simpa using this
 unfold ED;cases hw:Ye 32 [] (rd ls i) with
 | nil=>exact absurd hw hne
 | cons w r=>
  rw [hw] at hpc;have hs: ∀p∈r,p.length<=1000000:=fun p hp=>by have:=hpc p (A5 _ hp);omega
  have e:=N4 (s:=s) (ps:=ps) (t:=t) (a:=a) (b:=b) (c:=c) (sol:=sol) (pre:=pre) hls hi hx hw;rw [LH hs] at e;rw [U7];cases gw:decide (w=E2) with
  | true=>
   rw [gw,Af] at e;rw [Af]
   match r,hs,hw,e with
   | [],_,_,e=>exact ⟨1,fun N=>by rw [Zx,e];exact Va _ _⟩
   | p ::q,hs,hw,e=>
    have e:Zd s (.h7 ps (i:Int) t a b c sol pre)=bif decide (q.length=4)&&(!decide (p=[])&&decide (C3 p=0)) then _ else _:=e;show∃M,∀N,_=DM _ _ (bif decide (q.length=4)&&(!decide (p=[])&&decide (C3 p=0)) then (Jz q).bind (EL p) else none);cases g2:decide (q.length=4)&&(!decide (p=[])&&decide (C3 p=0)) with
    | false=>rw [g2,Ab] at e;exact ⟨1,fun N=>by rw [Zx,e];exact Va _ _⟩
    | true=>
     rw [g2,Af] at e;rw [Ad,An] at g2
     match q,g2.1,hs,e with
     | [e1,e2,e3,e4],_,hs,e=>
      have e:Zd s (.h7 ps (i:Int) t a b c sol pre)=.to (.h9 [e1,e2,e3,e4] 4 ps [w,p,e1,e2,e3,e4] (i:Int) [e1,e2,e3,e4] t a b c sol pre):=e;refine ⟨6,fun N=> ?_⟩;rw [show N+6=(N+5)+1 from rfl,Zx,e,u1l h1 h3 (by simp) (hs e1 (by simp)) (hs e2 (by simp)) (hs e3 (by simp)) (hs e4 (by simp)) N,w1];have hb: ∀L,EL p L=none\/ ∃t' x y z,EL p L=some (.nod p t' x y z):=fun L=>by
       unfold EL;split
       .rename_i t' x y z;cases decide (0<=t')&&decide (t'<=23) with
        | true=>exact .inr ⟨_,_,_,_,rfl⟩
        | false=>exact .inl rfl
       .exact .inl rfl
      show DM _ _ ((Jz [e1,e2,e3,e4]).bind (EL p))=DM _ _ ((Jz [e1,e2,e3,e4]).bind (EL p));cases Jz [e1,e2,e3,e4] with
      | none=>rfl
      | some L=>
       show DM _ _ (EL p L)=DM _ _ (EL p L);rcases hb L with hb | ⟨t',x,y,z,hb⟩ <;> rw [hb] <;> rfl
  | false=>
   rw [gw,Ab] at e;rw [Ab];cases g2:decide (w=DS)&&decide (r.length=6) with
   | false=>rw [g2,Ab] at e;exact ⟨1,fun N=>by rw [Zx,e];exact Va _ _⟩
   | true=>
    rw [g2,Af] at e;rw [Ad,An,An] at g2
    match r,g2.2,hs,e with
    | [e1,e2,e3,e4,e5,e6],_,hs,e=>
     have e:Zd s (.h7 ps (i:Int) t a b c sol pre)=.to (.h10 [e1,e2,e3,e4,e5,e6] 6 [e1,e2,e3,e4,e5,e6] ps (i:Int) [e1,e2,e3,e4,e5,e6] t a b c sol pre):=e;refine ⟨8,fun N=> ?_⟩;rw [show N+8=(N+7)+1 from rfl,Zx,e,j2f h1 h2 (hs e1 (by simp)) (hs e2 (by simp)) (hs e3 (by simp)) (hs e4 (by simp)) (hs e5 (by simp)) (hs e6 (by simp)) N,w1];show DM _ _ ((Jz [e1,e2,e3,e4,e5,e6]).bind Ea)=DM _ _ ((Jz [e1,e2,e3,e4,e5,e6]).bind Ea);have hb: ∀L,Ea L=none\/ ∃q,Ea L=some (.box q):=fun L=>by
      unfold Ea;split
      .exact .inr ⟨_,rfl⟩
      .exact .inl rfl
     cases Jz [e1,e2,e3,e4,e5,e6] with
     | none=>rfl
     | some L=>
      show DM _ _ (Ea L)=DM _ _ (Ea L);rcases hb L with hb | ⟨q,hb⟩ <;> rw [hb] <;> rfl
theorem ZP {v:zy} (hv: ∀x∈v,(x == 47)=false): ∀(u cur:zy),Ye 47 cur (u++47::v)=Ye 47 cur u++[v]
 | [],cur=>by
  have e: ∀(v cur:zy),(∀x∈v,(x == 47)=false)->Ye 47 cur v=[cur++v]:=fun v=>by
   induction v with
   | nil=>intro cur _;simp [Ye]
   | cons x r ih=>intro cur h;rw [Ye,h x Bh,Ab,ih _ fun y hy=>h y (A5 _ hy),AI];rfl
  show Ye 47 cur (47::v)=[cur]++[v]
  rw [Ye,show ((47:UInt8) == 47)=true from rfl,Af,e v [] hv];rfl
 | x::u,cur=>by
  show Ye 47 cur (x::(u++47::v))=Ye 47 cur (x::u)++[v]
  rw [Ye,Ye];cases x == 47 with
  | true=>rw [Af,Af,ZP hv u []];rfl
  | false=>rw [Ab,Ab,ZP hv u (cur++[x])]
theorem Y3 : ∀(u cur:zy),joinTail [47] (Ye 47 cur u)=47::(cur++u)
 | [],cur=>by simp [Ye,joinTail]
 | x::u,cur=>by
  rw [Ye];cases h:x == 47 with
  | true=>
   rw [Af,Y9,Y3 u []];have:x=47:=by simpa using h
   rw [this];simp
  | false=>rw [Ab,Y3 u (cur++[x])];simp
theorem u2w (u:zy):Lib.join (Ye 47 [] u) [47]=u:=by
 have h:=Y3 u [];have hne:=G7 47 u [];cases hc:Ye 47 [] u with
 | nil=>exact absurd hc hne
 | cons p l=>
  rw [hc,Y9] at h;rw [join_cons]
  simpa using h
theorem v4b {u v:zy} (hv: ∀x∈v,(x == 47)=false):Ja (u++47::v)=Ye 47 [] u++[v]/\GF (Ja (u++47::v)).dropLast =u:=by
 have e:Ja (u++47::v)=Ye 47 [] u++[v]:=by unfold Ja;rw [show ((u++47::v) == ([]:zy))=false by cases u <;> rfl,Ab,ZP hv]
 refine ⟨e,?_⟩;rw [e,List.dropLast_concat];exact u2w u
def OM (p:zy):Nat->Int
 | 0=> -1
 | j+1=>bif CW p j == 47 then (j:Int) else OM p j
theorem v4l {s p:zy} {l:zu} {i n:Int} {ps:List zy} {mp:List (zy×Int)} (hp:p.length<=1000000): ∀j,j<=p.length-> ∃M,∀N,
  Zt (Zd s) (N+M) (.to (.h15 p ((j:Int) - 1) p l i p p ps n i p mp))=Zt (Zd s) N (Zd s (.h15 p (OM p j) p l i p p ps n i p mp))
 | 0,_=>⟨1,fun N=>by rw [Zx];rfl⟩
 | j+1,hj=>by
  have ej:(((j+1:Nat):Int) - 1)=(j:Int):=by omega
  have w1:wrap .i64 ((j:Int) - 1)=(j:Int) - 1:=Zq (by omega);rw [ej];cases g:CW p j == 47 with
  | true=>refine ⟨1,fun N=> ?_⟩;rw [Zx,OM,g];rfl
  | false=>
   obtain ⟨M,hM⟩:=v4l (s:=s) (l:=l) (i:=i) (n:=n) (ps:=ps) (mp:=mp) hp j (by omega);refine ⟨M+1,fun N=> ?_⟩;have e:Zd s (.h15 p (j:Int) p l i p p ps n i p mp)=.to (.h15 p ((j:Int) - 1) p l i p p ps n i p mp):=by unfold Zd;simp only [Zj,w1];rw [Zu (Dr (by omega)),Zu (Yx (by omega)),g];rfl
   rw [<-AN,Zx,e,OM,g,Ab];exact hM N
def GI (ps:List zy) (i:Nat) (q:zy):Option Int:=bif q == [] then some (-1) else (Qc ps q i 0).map fun k=>(k:Int)
def EF (mp:List (zy×Int)) (q:zy):Option Int:=bif Cx mp q then some (getK 0 mp q) else none
theorem v5m (q:zy):EF [] q=none:=rfl
theorem RR (k:zy) (v:Int) (l:List (zy×Int)) (q:zy):EF ((k,v)::l) q=bif q == k then some v else EF l q:=by unfold EF Cx;rw [B4];show (bif (q == k)||l.any _ then some (getK 0 ((k,v)::l) q) else none)=_;have e:getK 0 ((k,v)::l) q=bif q == k then v else getK 0 l q:=rfl;rw [e];cases q == k <;> rfl
theorem Z2 : ∀(mp:List (zy×Int)) (k:zy) (v:Int) (q:zy),EF (Cy mp k v) q=bif q == k then some v else EF mp q
 | [],k,v,q=>RR k v [] q
 | (k',v')::l,k,v,q=>by
  have e:Cy ((k',v')::l) k v=bif k == k' then (k',v)::l else (k',v')::Cy l k v:=rfl;rw [e];cases h:k == k' with
  | true=>
   have:k=k':=by simpa using h
   subst this;rw [Af,RR,RR];cases q == k <;> rfl
  | false=>
   rw [Ab,RR,RR,Z2 l k v q];cases h1:q == k' with
   | true=>
    have:q=k':=(by simpa using h1);subst this;have:(q == k)=false:=by rw [AY] at h ⊢;intro e;exact h (by have:=AR.1 e;rw [this];exact AR.2 rfl)
    rw [this];rfl
   | false=>rfl
theorem u8o {p:zy} {j:Nat} (h:j<p.length):(CW p j == 47)=(p[j] == 47):=by
 rw [w3n h,AK,AR,AR];constructor
 .intro e;have this:p[j].toNat =47:=by omega
  exact UInt8.toNat_inj.1 (by rw [this];rfl)
 .intro e;rw [e];rfl
theorem w5j (p:zy): ∀j,j<=p.length->(OM p j= -1/\ ∀m (h:m<p.length),m<j->(p[m] == 47)=false)\/ ∃k,OM p j=((k:Nat):Int)/\k<j/\(∀h:k<p.length,p[k]=47)/\ ∀m (h:m<p.length),k<m->m<j->(p[m] == 47)=false
 | 0,_=>.inl ⟨rfl,fun m _ hm=>absurd hm (AJ _)⟩
 | j+1,hj=>by
  have hb:=u8o (p:=p) (j:=j) (by omega);unfold OM;cases g:CW p j == 47 with
  | true=>rw [g] at hb;exact .inr ⟨j,rfl,Nat.lt_succ_self j,fun _=>AR.1 hb.symm,fun m _ h1 h2=>by omega⟩
  | false=>
   rw [g] at hb;rw [Ab];rcases w5j p j (by omega) with ⟨h1,h2⟩ | ⟨k,h1,h2,h3,h4⟩
   .refine .inl ⟨h1,fun m h hm=> ?_⟩;by_cases e:m=j
    .subst e;exact hb.symm
    .exact h2 m h (by omega)
   .refine .inr ⟨k,h1,by omega,h3,fun m h hk hm=> ?_⟩;by_cases e:m=j
    .subst e;exact hb.symm
    .exact h4 m h hk (by omega)
theorem Sq {l:zu} {i:Nat} (hi:i<l.length) (n:zy) (a:Int):(l.set i (B8.mk (rd l i).n a (rd l i).t (rd l i).x (rd l i).y (rd l i).z (rd l i).s)).set i (B8.mk n (rd (l.set i (B8.mk (rd l i).n a (rd l i).t (rd l i).x (rd l i).y (rd l i).z (rd l i).s)) i).a (rd (l.set i (B8.mk (rd l i).n a (rd l i).t (rd l i).x (rd l i).y (rd l i).z (rd l i).s)) i).t (rd (l.set i (B8.mk (rd l i).n a (rd l i).t (rd l i).x (rd l i).y (rd l i).z (rd l i).s)) i).x (rd (l.set i (B8.mk (rd l i).n a (rd l i).t (rd l i).x (rd l i).y (rd l i).z (rd l i).s)) i).y (rd (l.set i (B8.mk (rd l i).n a (rd l i).t (rd l i).x (rd l i).y (rd l i).z (rd l i).s)) i).z (rd (l.set i (B8.mk (rd l i).n a (rd l i).t (rd l i).x (rd l i).y (rd l i).z (rd l i).s)) i).s)=l.set i {rd l i with n:=n,a:=a}:=by rw [Iy hi,AG rfl,List.set_set]
theorem u1i {s p:zy} {l:zu} {i:Nat} {n:Int} {ps:List zy} {mp:List (zy×Int)} (hi:i<l.length) (hl:l.length<=1000000) (h0:Cx mp []=true):
  Zd s (.h15 p (-1) p l (i:Int) p p ps n (i:Int) p mp)=.to (.h11 (l.set i {rd l i with n:=p,a:=getK 0 mp []}) ps n ((i+1:Nat):Int) (bif Cx mp p then mp else Cy mp p (i:Int))):=by
 have w1:wrap .i64 ((i:Int)+1)=((i+1:Nat):Int):=Zq (by omega);unfold Zd;simp only [Zj,Ak,Ar,w1,h0];rw [show decide ((-1:Int)>=0)=false from rfl,Ab,Ay,Ab,Zu (Yx (by omega)),Zu (Aa (by omega)),Sq hi];cases Cx mp p <;> rfl
theorem u1j {s p:zy} {l:zu} {i k:Nat} {n:Int} {ps:List zy} {mp:List (zy×Int)} (hi:i<l.length) (hl:l.length<=1000000) (hk:k<p.length) (hp:p.length<=1000000) (hb:(CW p k == 47)=true):
  Zd s (.h15 p (k:Int) p l (i:Int) p p ps n (i:Int) p mp)=bif Cx mp (p.take k) then .to (.h11 (l.set i {rd l i with n:=p.drop (k+1),a:=getK 0 mp (p.take k)}) ps n ((i+1:Nat):Int) (bif Cx mp p then mp else Cy mp p (i:Int))) else .ret [.nils,.int .i64 6]:=by
 have w1:wrap .i64 ((i:Int)+1)=((i+1:Nat):Int):=Zq (by omega);have w2:wrap .i64 ((k:Int)+1)=((k+1:Nat):Int):=Zq (by omega);have ht:(p.drop (k+1)).take (p.length - (k+1))=p.drop (k+1):=A4 (by rw [Be];omega);unfold Zd;simp only [Zj,Ak,Ar,w1,w2,AM,ht];rw [Zu (Dr (by omega)),Zu (Yx (by omega)),hb,Af,Zu (Aa (by omega)),Zu (Aa (by omega)),Zu (Aa (by omega)),Zu (Aa (by omega))];cases Cx mp (p.take k) with
 | false=>rfl
 | true=>rw [Ay,Ab,Af,Zu (Yx (by omega)),Zu (Aa (by omega)),Sq hi];cases Cx mp p <;> rfl
theorem x7n : ∀(v cur:zy),(∀x∈v,(x == 47)=false)->Ye 47 cur v=[cur++v]
 | [],cur,_=>by simp [Ye]
 | x::r,cur,h=>by rw [Ye,h x Bh,Ab,x7n r _ fun y hy=>h y (A5 _ hy),AI];rfl
theorem j1w {p:zy} (h:p≠ []):Ja p=Ye 47 [] p:=by unfold Ja;rw [Fm p [],Ah h];rfl
theorem j1x {p:zy} (h:LI p): ∀q∈Ja p,Vk q=true:=by
 obtain ⟨h0,h1,h2⟩:=h;unfold C3 at h1;by_cases g1:4000<p.length
 .rw [Aa g1] at h1;cases h1
 .rw [Ah g1,Ab] at h1;by_cases g2:40<(Ja p).length
  .rw [Aa g2] at h1;cases h1
  .rw [Ah g2,Ab] at h1;cases g3:(Ja p).all Vk with
   | false=>rw [g3] at h1;cases h1
   | true=>exact Ax.1 g3
theorem j2z :Vk []=false:=rfl
theorem v1u (ps:List zy) (i:Nat) (q:zy):GI ps (i+1) q=match GI ps i q with
  | some x=>some x
  | none=>bif rd ps i == q then some (i:Int) else none:=by
 unfold GI;rw [YV,Ak];cases q == [] with
 | true=>rfl
 | false=>
  rw [Ab,Ab];cases Qc ps q i 0 with
  | some x=>rfl
  | none=>cases rd ps i == q <;> rfl
theorem v5l {ps:List zy} {i:Nat} {mp:List (zy×Int)} (h: ∀q,EF mp q=GI ps i q) (q:zy):EF (bif Cx mp (rd ps i) then mp else Cy mp (rd ps i) (i:Int)) q=GI ps (i+1) q:=by
 rw [v1u];have hp:=h (rd ps i);cases g:Cx mp (rd ps i) with
 | true=>
  rw [Af,h q];cases hv:GI ps i q with
  | some x=>rfl
  | none=>
   show none=bif rd ps i == q then some (i:Int) else none;cases e:rd ps i == q with
   | false=>rfl
   | true=>rw [<-AR.1 e] at hv;rw [hv] at hp;unfold EF at hp;rw [g] at hp;cases hp
 | false=>
  rw [Ab,Z2,h q];unfold EF at hp;rw [g,Ab] at hp;cases e:q == rd ps i with
  | true=>have e:=AR.1 e;subst e;rw [<-hp,BI]
  | false=>
   have e2:(rd ps i == q)=false:=by rw [Fm] at e ⊢;rw [AS] at e ⊢;exact fun h=>e h.symm
   rw [Ab,e2];cases GI ps i q <;> rfl
theorem w5l {mp:List (zy×Int)} {q:zy} {x:Int} (h:EF mp q=some x):Cx mp q=true/\getK 0 mp q=x:=by
 unfold EF at h;cases g:Cx mp q with
 | true=>rw [g,Af] at h;exact ⟨rfl,Ag h⟩
 | false=>rw [g] at h;cases h
theorem j3d {mp:List (zy×Int)} {q:zy} (h:EF mp q=none):Cx mp q=false:=by
 unfold EF at h;cases g:Cx mp q with
 | true=>rw [g] at h;cases h
 | false=>rfl
theorem u1k {s:zy} {l:zu} {ps:List zy} {mp:List (zy×Int)} (hl:l.length<=1000000) (he:l.length=ps.length) (hn:Fj l):
  Zd s (.h11 l ps (ps.length:Int) (ps.length:Int) mp)=.ret (JK (some l)):=by
 unfold Zd;simp only [Zj,Ak];rw [Yo (by omega),Ab];have hf:(Nat.beq 7 7&&(decide (l.length<=l.length)&&Cv (Zz l)))=true:=by rw [Ad,Ad];exact ⟨rfl,Aa (Aj _),Xh _⟩
 rw [Zu hf];have hl':CG B8 l.length (fun k=>Zz l k)=l:=Zr l;rw [hl',Zu (w4h hn hl)];unfold JK;simp only [];cases Kv l != 0 <;> rfl
theorem w1b {s:zy} {ps:List zy} (hps: ∀p∈ps,LI p) (hpl:ps.length<=1000000): ∀(k i:Nat) (l:zu) (mp:List (zy×Int)),i+k=l.length->l.length=ps.length->Fj l->(∀q,EF mp q=GI ps i q)->
  ∃N,Zt (Zd s) N (.to (.h11 l ps (ps.length:Int) (i:Int) mp))=.ret (JK (Uv ps k i l))
 | 0,i,l,mp,hk,he,hn,hm=>by
  refine ⟨1,?_⟩;have hi:i=ps.length:=by omega
  rw [Zx,hi,u1k (by omega) he hn];rfl
 | k+1,i,l,mp,hk,he,hn,hm=>by
  have hi:i<l.length:=by omega
  have hp:=hps (rd ps i) (Gg (by omega));obtain ⟨c1,c2,c3⟩:=v4c hp;have fH:(rd (Ja (rd ps i)) ((Ja (rd ps i)).length - 1)).length <=500:=c3 _ (Gg (by omega));have ht:=(hn (rd l i) (Gg hi)).2;have hpl2:=hp.2.2;have e11:Zd s (.h11 l ps (ps.length:Int) (i:Int) mp)=.to (.h15 (rd ps i) (((rd ps i).length :Int) - 1) (rd ps i) l (i:Int) (rd ps i) (rd ps i) ps (ps.length:Int) (i:Int) (rd ps i) mp):=by have w1:wrap .i64 (((rd ps i).length :Int) - 1)=((rd ps i).length :Int) - 1:=Zq (by omega);unfold Zd;simp only [Zj,Ak,w1];rw [Zu (Ym (by omega)),Ar,Zu (Yx (by omega)),Zu (Aa (by omega))]
  have hnext:=v5l hm;have hnil:EF mp []=some (-1):=hm [];obtain ⟨hn1,hn2⟩:=w5l hnil;have hrc:=j1w hp.1;obtain ⟨M,hM⟩:=v4l (s:=s) (p:=rd ps i) (l:=l) (i:=(i:Int)) (n:=(ps.length:Int)) (ps:=ps) (mp:=mp) hpl2 (rd ps i).length (Aj _);rcases w5j (rd ps i) (rd ps i).length (Aj _) with ⟨s1,s2⟩ | ⟨j,s1,s2,s3,s4⟩
  .have hno: ∀x∈rd ps i,(x == 47)=false:=fun x hx=>by obtain ⟨m,hm,rfl⟩:=A6 hx;exact s2 m hm hm
   have eS:Ja (rd ps i)=[rd ps i]:=by rw [hrc,x7n _ _ hno];rfl
   have ha:=w6o (ps:=ps) (i:=i) (by rw [eS];rfl);rw [eS] at ha fH;have ha:MS ps i=some (-1,rd ps i):=ha;have fH:(rd ps i).length <=500:=fH;obtain ⟨N,hN⟩:=w1b (s:=s) hps hpl k (i+1) (l.set i {rd l i with n:=rd ps i,a:= -1}) _ (by rw [AX];omega) (by rw [AX];exact he) (XB hn ⟨fH,ht⟩) hnext;refine ⟨N+M+1,?_⟩;rw [Zx,e11,hM N,s1,u1i hi (by omega) hn1,hn2,Uv,ha];exact hN
  .have hj:j<(rd ps i).length :=s2;have hsp:rd ps i=(rd ps i).take j++47::(rd ps i).drop (j+1):=by
    conv=>lhs;rw [<-List.take_append_drop j (rd ps i)]
    rw [AQ hj,s3 hj]
   have hno: ∀x∈(rd ps i).drop (j+1),(x == 47)=false:=fun x hx=>by obtain ⟨m,hm,rfl⟩:=A6 hx;rw [Be] at hm;rw [List.getElem_drop];exact s4 _ (by omega) (by omega) (by omega)
   obtain ⟨r1,r2⟩:=v4b (u:=(rd ps i).take j) hno;rw [<-hsp] at r1 r2;have hne:=G7 47 ((rd ps i).take j) [];have eC:(Ja (rd ps i)).length =(Ye 47 [] ((rd ps i).take j)).length +1:=by rw [r1,Ap,AE]
   have fM:0<(Ye 47 [] ((rd ps i).take j)).length :=List.length_pos_iff.2 hne;have ha:=w6n (ps:=ps) (i:=i) (by omega);have fF:rd (Ja (rd ps i)) ((Ja (rd ps i)).length - 1)=(rd ps i).drop (j+1):=by rw [Wv (by omega)];simp only [r1,Ap,AE,Nat.add_sub_cancel];rw [Bq (Aj _)];simp
   rw [r2,fF] at ha;rw [fF] at fH;have hu:(rd ps i).take j≠ []:=fun e=>by
    have:([]:zy)∈Ja (rd ps i):=by rw [r1,e];exact List.mem_append_left _ (by simp [Ye])
    have:=j1x hp _ this;rw [j2z] at this;cases this
   have hv:GI ps i ((rd ps i).take j)=(Qc ps ((rd ps i).take j) i 0).map fun k=>(k:Int):=by unfold GI;rw [Fm,Ah hu];rfl
   have hlk:=hm ((rd ps i).take j);rw [hv] at hlk;have hb:(CW (rd ps i) j == 47)=true:=by rw [u8o hj,s3 hj];rfl
   have hk15:=u1j (s:=s) (l:=l) (n:=(ps.length:Int)) (ps:=ps) (mp:=mp) hi (by omega) hj hpl2 hb;cases hf:Qc ps ((rd ps i).take j) i 0 with
   | none=>rw [hf] at hlk ha;refine ⟨0+M+1,?_⟩;rw [Zx,e11,hM 0,s1,hk15,j3d hlk,Uv,ha];rfl
   | some q=>rw [hf] at hlk ha;obtain ⟨g1,g2⟩:=w5l hlk;have ha:MS ps i=some ((q:Int),(rd ps i).drop (j+1)):=ha;obtain ⟨N,hN⟩:=w1b (s:=s) hps hpl k (i+1) (l.set i {rd l i with n:=(rd ps i).drop (j+1),a:=(q:Int)}) _ (by rw [AX];omega) (by rw [AX];exact he) (XB hn ⟨fH,ht⟩) hnext;refine ⟨N+M+1,?_⟩;rw [Zx,e11,hM N,s1,hk15,g1,g2,Uv,ha];exact hN
theorem j2i {s:zy} {ls ps:List zy} {i:Nat} {t a b c:Int} {sol:zt} {pre:zu} (hls:Jp (Yg s [10]) [10]=ls) (hi:i=ls.length):
  Zd s (.h7 ps (i:Int) t a b c sol pre)=.to (.h11 (pre++[DE t a b c sol]) ps (ps.length:Int) 0 (Cy ([]:List (zy×Int)) ([]:zy) (-1))):=by
 unfold Zd;simp only [hls];rw [Yo (by omega),Ab]
theorem w1a {s:zy} {ls:List zy} (hls:Jp (Yg s [10]) [10]=ls) (hx: ∀p∈ls,p.length<=1000000) (hn:ls.length<=900000): ∀(k i:Nat) (ps:List zy) (t a b c:Int) (sol:zt) (pre:zu),i+k=ls.length->pre.length<=i->sol.length<=i->ps.length=pre.length+1->(∀p∈ps,LI p)->Fj pre->0<=t->
  ∃N,Zt (Zd s) N (.to (.h7 ps (i:Int) t a b c sol pre))=.ret (H1 (Ft (ls.drop i) pre (DE t a b c sol) ps))
 | 0,i,ps,t,a,b,c,sol,pre,h,h1,h2,h3,h4,h5,h6=>by
  have hn':Fj (pre++[DE t a b c sol]):=fun x hx=>by
   rcases AW.1 hx with hx | hx
   .exact h5 x hx
   .rw [Ba.1 hx];exact ⟨AH _,h6⟩
  obtain ⟨N,hN⟩:=w1b (s:=s) h4 (by omega) (pre++[DE t a b c sol]).length 0 (pre++[DE t a b c sol]) (Cy ([]:List (zy×Int)) ([]:zy) (-1)) (Ak _) (by rw [Ap,AE,h3]) hn' (fun q=>by
   rw [Z2,v5m];unfold GI;cases q == [] <;> rfl)
  refine ⟨N+1,?_⟩;rw [Zx,j2i hls (by omega),Av (by omega)];show Zt _ N (.to (CN.h11 _ ps _ ((0:Nat):Int) _))=.ret (H1 (some (pre++[DE t a b c sol],ps)));rw [hN,v4s]
 | k +1,i,ps,t,a,b,c,sol,pre,h,h1,h2,h3,h4,h5,h6=>by
  have hi:i<ls.length:=by omega
  have hpl:(rd ls i).length <=1000000:=hx _ (Gg hi);rw [Yt hi];obtain ⟨M,hM⟩:=u1h (ps:=ps) (t:=t) (a:=a) (b:=b) (c:=c) (sol:=sol) (pre:=pre) hls hi hpl (by omega) (by omega) (by omega) (by omega);cases g:ED (rd ls i) with
  | none=>refine ⟨0+M,?_⟩;rw [hM 0,g,Ft,g];rfl
  | some q=>
   cases q with
   | nod p t' x y z=>
    obtain ⟨q1,q2⟩:=WP g;have hn':Fj (pre++[DE t a b c sol]):=fun x hx=>by
     rcases AW.1 hx with hx | hx
     .exact h5 x hx
     .rw [Ba.1 hx];exact ⟨AH _,h6⟩
    obtain ⟨N,hN⟩:=w1a hls hx hn k (i+1) (ps++[p]) t' x y z [] (pre++[DE t a b c sol]) (by omega) (by rw [Ap,AE];omega) (AH _) (by simp only [Ap,AE];omega) (fun r hr=>by
     rcases AW.1 hr with hr | hr
     .exact h4 r hr
     .rw [Ba.1 hr];exact q1 hpl) hn' q2
    refine ⟨N+M,?_⟩;rw [hM N,g,Ft,g];exact hN
   | box r=>obtain ⟨N,hN⟩:=w1a hls hx hn k (i+1) ps t a b c (sol++[r]) pre (by omega) (by omega) (by rw [Ap,AE];omega) h3 h4 h5 h6;refine ⟨N+M,?_⟩;rw [hM N,g,Ft,g];exact hN
section
variable {s:zy} {ls:List zy} {w p e1 e2 e3 e4:zy}
theorem f5 {X:zy} (hX:rd (Jp (Yg s [10]) [10]) 0=X) (hW:Jp X [32]=[w,p,e1,e2,e3,e4]) (hx:e1.length<=1000000):Zd s .h5 =(CY e1).elim (eF CN) fun _=>.to .h6 :=by rw [<-EU hx];unfold Zd;simp only [hX,hW];rw [Zu (show decide ((0:Int)<((([w,p,e1,e2,e3,e4].length - 2:Nat)):Int))=true from rfl),Zu (DT (j:=0) (by omega) (by show (0:Int)<((4:Nat):Int);omega))];rfl
theorem f6 {X:zy} (hX:rd (Jp (Yg s [10]) [10]) 0=X) (hW:Jp X [32]=[w,p,e1,e2,e3,e4]) (hx:e2.length<=1000000):Zd s .h6 =(CY e2).elim (eF CN) fun _=>.to .h8 :=by rw [<-EU hx];unfold Zd;simp only [hX,hW];rw [Zu (show decide ((1:Int)<((([w,p,e1,e2,e3,e4].length - 2:Nat)):Int))=true from rfl),Zu (DT (j:=1) (by omega) (by show (1:Int)<((4:Nat):Int);omega))];rfl
theorem f8 {X:zy} (hX:rd (Jp (Yg s [10]) [10]) 0=X) (hW:Jp X [32]=[w,p,e1,e2,e3,e4]) (hx:e3.length<=1000000):Zd s .h8 =(CY e3).elim (eF CN) fun _=>.to .h12 :=by rw [<-EU hx];unfold Zd;simp only [hX,hW];rw [Zu (show decide ((2:Int)<((([w,p,e1,e2,e3,e4].length - 2:Nat)):Int))=true from rfl),Zu (DT (j:=2) (by omega) (by show (2:Int)<((4:Nat):Int);omega))];rfl
theorem f12 {X:zy} (hX:rd (Jp (Yg s [10]) [10]) 0=X) (hW:Jp X [32]=[w,p,e1,e2,e3,e4]) (hx:e4.length<=1000000):Zd s .h12 =(CY e4).elim (eF CN) fun _=>.to .h16 :=by rw [<-EU hx];unfold Zd;simp only [hX,hW];rw [Zu (show decide ((3:Int)<((([w,p,e1,e2,e3,e4].length - 2:Nat)):Int))=true from rfl),Zu (DT (j:=3) (by omega) (by show (3:Int)<((4:Nat):Int);omega))];rfl
theorem VS {x:zy} {n:Int} (h:CY x=some n):Xz x=n:=by
 unfold CY at h;unfold Xz;cases g:atoiAll x with
 | ok v=>
  rw [g] at h;have h:(bif decide (itoa v=x/\ -9999999<=v/\v<=9999999) then some v else none)=some n:=h;show v=n;cases hd:decide (itoa v=x/\ -9999999<=v/\v<=9999999) with
  | true=>rw [hd] at h;exact Ag h
  | false=>rw [hd] at h;cases h
 | _=>rw [g] at h;cases h
theorem f16 {X:zy} (hX:rd (Jp (Yg s [10]) [10]) 0=X) (hW:Jp X [32]=[w,p,e1,e2,e3,e4]) {n1 n2 n3 n4:Int} (h1:Xz e1=n1) (h2:Xz e2=n2) (h3:Xz e3=n3) (h4:Xz e4=n4):
  Zd s .h16 =bif decide (0<=n1)&&decide (n1<=23) then .to (.h7 [p] 1 n1 n2 n3 n4 [] []) else eF CN:=by
 have r2:rd [w,p,e1,e2,e3,e4] 2=e1:=rfl;have r3:rd [w,p,e1,e2,e3,e4] 3=e2:=rfl;have r4:rd [w,p,e1,e2,e3,e4] 4=e3:=rfl;have r5:rd [w,p,e1,e2,e3,e4] 5=e4:=rfl;have r1:rd [w,p,e1,e2,e3,e4] 1=p:=rfl;unfold Zd;simp only [hX,hW,r1,r2,r3,r4,r5,h1,h2,h3,h4];rw [show decide ((4:Int)<((([w,p,e1,e2,e3,e4].length - 2:Nat)):Int))=false from rfl,Ab];by_cases g1:n1<0
 .rw [Aa g1,Ah (show ¬0<=n1 by omega)];rfl
 .rw [Ah g1,Aa (show 0<=n1 by omega),Ab,As];by_cases g2:n1>23
  .rw [Aa g2,Ah (show ¬n1<=23 by omega)];rfl
  .rw [Ah g2,Aa (show n1<=23 by omega),Ab,Af];rw [Zu (Fp (by omega)),Zu (DT (j:=1) (by omega) (by show (1:Int)<((6:Nat):Int);omega)),Zu (Fp (by omega)),w8 n1 (by omega)]
theorem v4m {X:zy} (hX:rd (Jp (Yg s [10]) [10]) 0=X) (hW:Jp X [32]=[w,p,e1,e2,e3,e4]) (l1:e1.length<=1000000) (l2:e2.length<=1000000) (l3:e3.length<=1000000) (l4:e4.length<=1000000) (N:Nat):
  Zt (Zd s) (N+5) (.to .h5)=DM (fun p t' x y z=>Zt (Zd s) N (.to (.h7 [p] 1 t' x y z [] []))) (fun _=>eF CN) ((Jz [e1,e2,e3,e4]).bind (EL p)):=by
 rw [Zx,f5 hX hW l1,Vm e1];cases g1:CY e1 with
 | none=>exact Va _ _
 | some x1=>
  show Zt _ (N+4) (.to CN.h6)=_;rw [Zx,f6 hX hW l2,Vm e2];cases g2:CY e2 with
  | none=>exact Va _ _
  | some x2=>
   show Zt _ (N+3) (.to CN.h8)=_;rw [Zx,f8 hX hW l3,Vm e3];cases g3:CY e3 with
   | none=>exact Va _ _
   | some x3=>
    show Zt _ (N+2) (.to CN.h12)=_;rw [Zx,f12 hX hW l4,Vm e4];cases g4:CY e4 with
    | none=>exact Va _ _
    | some x4=>
     show Zt _ (N+1) (.to CN.h16)=_;rw [Zx,f16 hX hW (VS g1) (VS g2) (VS g3) (VS g4)];show _=DM _ _ (bif decide (0<=x1)&&decide (x1<=23) then some (.nod p x1 x2 x3 x4) else none);cases decide (0<=x1)&&decide (x1<=23) with
     | true=>rfl
     | false=>exact Va _ _
end
theorem Ti {σ:Type} {w:zy} {r:List zy} {Kb:Xy σ}:pB (w::r) false Kb=eF σ:=by unfold pB;cases rd (w::r) 0 == ([98,111,120]:zy) <;> rfl
theorem Th {σ:Type} {w:zy} {r:List zy} {Kn Kb:Xy σ} (hs: ∀p∈r,p.length<=1000000):
  pT (w::r) false Kn Kb=bif decide (w=E2) then pN Kn r else eF σ:=by
 have h:=LH (w:=w) (r:=r) (Kn:=Kn) (Kb:=eF σ) hs;have e:pT (w::r) true Kn (eF σ)=pT (w::r) false Kn Kb:=by
  have hb:pB (w::r) true (eF σ)=pB (w::r) false Kb:=by rw [Ti,LJ];cases decide (w=DS)&&decide (r.length=6) <;> rfl
  unfold pT;rw [hb]
 rw [<-e,h];cases decide (w=E2) with
 | true=>rfl
 | false=>rw [Ab,Ab];cases decide (w=DS)&&decide (r.length=6) <;> rfl
theorem N5 {s:zy} {ls:List zy} {w:zy} {r:List zy} (hls:Jp (Yg s [10]) [10]=ls) (hi:0<ls.length) (hx:(rd ls 0).length <=1000000) (hw:Ye 32 [] (rd ls 0)=w::r):
  Zd s .h3 =pT (w::r) false (.to .h5) (eF CN):=by
 have hW:Jp (rd ls 0) [32]=w::r:=by rw [Re];exact hw
 unfold Zd;simp only [hls,hW];rw [Zu (Ym (by omega)),Zu (DT (j:=0) (by omega) (by omega))];rw [Zu (show Ji (rd ls 0) [32]=true by unfold Ji;rw [Aa (show (rd ls 0).length <4294967281 by omega)];rfl)];rfl
theorem v4n {s:zy} {ls:List zy} (hls:Jp (Yg s [10]) [10]=ls) (hi:0<ls.length) (hx:(rd ls 0).length <=1000000):
  ∃M,∀N,Zt (Zd s) (N+M) (.to .h3)=DM (fun p t' x y z=>Zt (Zd s) N (.to (.h7 [p] 1 t' x y z [] []))) (fun q=>eF CN) (ED (rd ls 0)):=by
 have hne:=G7 32 (rd ls 0) [];have hpc: ∀p,p∈Ye 32 [] (rd ls 0)->p.length<=(rd ls 0).length :=fun p hp=>by have:=Vn 32 (rd ls 0) [] p hp;simpa using this
 unfold ED;cases hw:Ye 32 [] (rd ls 0) with
 | nil=>exact absurd hw hne
 | cons w r=>
  rw [hw] at hpc;have hs: ∀p∈r,p.length<=1000000:=fun p hp=>by have:=hpc p (A5 _ hp);omega
  have e:=N5 (s:=s) hls hi hx hw;rw [Th hs] at e;rw [U7];cases gw:decide (w=E2) with
  | true=>
   rw [gw,Af] at e;rw [Af]
   match r,hs,hw,e with
   | [],_,_,e=>exact ⟨1,fun N=>by rw [Zx,e];exact Va _ _⟩
   | p::q,hs,hw,e=>
    have e:Zd s .h3 =bif decide (q.length=4)&&(!decide (p=[])&&decide (C3 p=0)) then _ else _:=e;show∃M,∀N,_=DM _ _ (bif decide (q.length=4)&&(!decide (p=[])&&decide (C3 p=0)) then (Jz q).bind (EL p) else none);cases g2:decide (q.length=4)&&(!decide (p=[])&&decide (C3 p=0)) with
    | false=>rw [g2,Ab] at e;exact ⟨1,fun N=>by rw [Zx,e];exact Va _ _⟩
    | true=>
     rw [g2,Af] at e;have e5:Zd s .h3 =.to .h5 :=e;rw [Ad,An] at g2
     match q,g2.1,hs,hw with
     | [e1,e2,e3,e4],_,hs,hw=>refine ⟨6,fun N=> ?_⟩;rw [show N+6=(N+5)+1 from rfl,Zx,e5,Af];rw [v4m (X:=rd ls 0) (by rw [hls]) (by rw [Re];exact hw) (hs e1 (by simp)) (hs e2 (by simp)) (hs e3 (by simp)) (hs e4 (by simp)) N]
  | false=>
   rw [gw,Ab] at e;rw [Ab];refine ⟨1,fun N=> ?_⟩;rw [Zx,e];cases g2:decide (w=DS)&&decide (r.length=6) with
   | false=>exact Va _ _
   | true=>
    rw [Af];cases hq:Jz r with
    | none=>exact Va _ _
    | some L=>
     show _=DM _ _ (Ea L);unfold Ea;split
     .exact Va _ _
     .exact Va _ _
open Go.Proofs.Tryz
theorem v4o {s:zy} {ls:List zy} (hls:Jp (Yg s [10]) [10]=ls) (hn:ls.length<=1000000): ∀(k i c:Nat),i+k=ls.length->c<=i-> ∀N,
  Zt (Zd s) (N+k) (.to (.h1 (c:Int) (i:Int)))=Zt (Zd s) N (.to (.h1 ((c+Cw (ls.drop i):Nat):Int) (ls.length:Int)))
 | 0,i,c,hk,hc,N=>by rw [Av (by omega),show i=ls.length by omega];rfl
 | k+1,i,c,hk,hc,N=>by
  have hi:i<ls.length:=by omega
  have w1:wrap .i64 ((i:Int)+1)=((i+1:Nat):Int):=Zq (by omega);have w2:wrap .i64 ((c:Int)+1)=((c+1:Nat):Int):=Zq (by omega);have e:Zd s (.h1 (c:Int) (i:Int))=.to (.h1 ((c+(bif (rd ls i).take 5 == DZ then 1 else 0):Nat):Int) ((i+1:Nat):Int)):=by
   unfold Zd;simp only [hls,Zj,w1,w2,AM];rw [Zu (Ym (by omega)),Ar,Zu (Yx (by omega))];generalize rd ls i=x;by_cases g:5<=x.length
   .rw [Aa (show (x.length:Int)>=5 by omega),Aa g,Af,Af];show (bif x.take 5 == DZ then _ else _)=_;cases x.take 5 == DZ <;> rfl
   .rw [Ah (show ¬(x.length:Int)>=5 by omega),Ab];have:(x.take 5 == DZ)=false:=by rw [Fm];refine Ah fun h=> ?_;have:=Au List.length h;rw [Bf] at this;have e5:DZ.length=5:=rfl;omega
    rw [this];rfl
  have hb:(bif (rd ls i).take 5 == DZ then 1 else 0)<=1:=by cases (rd ls i).take 5 == DZ <;> simp
  rw [show N+(k+1)=(N+k)+1 from rfl,Zx,e,v4o hls hn k (i+1) _ (by omega) (by omega) N,Yt hi,x1e,AN]
theorem N6 {s:zy} {ls:List zy} (hls:Jp (Yg s [10]) [10]=ls) (m:Nat):
  Zd s (.h1 (m:Int) (ls.length:Int))=bif decide (60000<s.length)||decide (200<m) then .ret [.nils,.int .i64 4] else bif !(EG s [10]) then eF CN else .to .h3 :=by
 unfold Zd;simp only [hls];rw [Yo (by omega),Ab];rw [show decide ((s.length:Int)>60000)=decide (60000<s.length) by rw [AK,An,An];omega];rw [show decide ((m:Int)>200)=decide (200<m) by rw [AK,An,An];omega];cases decide (60000<s.length) <;> cases decide (200<m) <;> rfl
theorem v5j (l:List zy):Cw (l++[[]])=Cw l:=by unfold Cw;rw [List.filter_append,Ap];rfl
theorem j2h (s:zy) (h:MM s=true): ∃N vs,Zt (Zd s) N (MJ s)=.ret vs/\(vs=Co s\/(vs=[.nils,.int .i64 0]/\DU s=([],0))):=by
 have hs:s.length<=100000:=Aw h;by_cases h0:s=[]
 .subst h0;refine ⟨3,[.nils,.int .i64 0],?_,.inr ⟨rfl,?_⟩⟩
  .have e4:Zd [] .h4 =.ret [.nils,.int .i64 0]:=by unfold Zd;simp only [];rw [Zu (show Xw ([]:zu)=true from rfl),Wl];rfl
   show Zt (Zd []) 3 (.to .h0)=_;rw [Zx,show Zd [] .h0 =.to .h2 from rfl,Zx,show Zd [] .h2 =.to .h4 from rfl,Zx,e4];rfl
  .show FJ (some ([],[]))=_;exact SB Wl
 .have fM:1<=s.length:=by
   cases s with
   | nil=>exact absurd rfl h0
   | cons a l=>rw [Aq];omega
  obtain ⟨t,b,hb⟩: ∃t b,s=t++[b]:=⟨s.dropLast,s.getLast h0,(List.dropLast_concat_getLast h0).symm⟩
  have eC:s.length=t.length+1:=by rw [hb,Ap,AE]
  have hc1:EG s [10]=(b == 10):=by unfold EG;rw [Aa (show ([10]:zy).length <=s.length from fM),As,show s.length - ([10]:zy).length =t.length from by rw [AE];omega,hb,List.drop_left];show (b == 10&&([]:zy) == [])=_;rw [show (([]:zy) == [])=true from rfl,Ar]
  have hso:Qe s [10]=true:=by unfold Qe;rw [Aa (show s.length<=1000000 by omega)];rfl
  have hco:Ji (Yg s [10]) [10]=true:=by have:=v7i (s:=s) (f:=[10]);unfold Ji;rw [Aa (show (Yg s [10]).length <4294967281 by omega)];rfl
  have hstart:MJ s=.to (.h1 ((0:Nat):Int) ((0:Nat):Int)):=by
   unfold MJ;rw [show (s == ([]:zy))=false by cases s with
    | nil=>exact absurd rfl h0
    | cons a l=>rfl,Ab,Zu hso,Zu hco];rfl
  have hV: ∀ls,Jp (Yg s [10]) [10]=ls->ls.length<=900000-> ∀N,Zt (Zd s) (N+1+ls.length) (MJ s)=Zt (Zd s) N (bif decide (60000<s.length)||decide (200<Cw ls) then .ret [.nils,.int .i64 4] else bif !(EG s [10]) then eF CN else .to .h3):=fun ls hls hn N=>by have hc:=v4o hls (by omega) ls.length 0 0 (Ak _) (Aj _) (N+1);rw [AM,Ak] at hc;rw [hstart,hc,Zx,N6 hls]
  have hW4: ∀m,Cw (Ye 10 [] s)=m->(decide (60000<s.length)||decide (200<m))=true->Co s=[.nils,.int .i64 4]:=fun m hm g=>by
   have e:DU s=([],4):=by unfold DU;rw [hm,g];rfl
   unfold Co;rw [e];rfl
  have hWR: ∀m,Cw (Ye 10 [] s)=m->(decide (60000<s.length)||decide (200<m))=false->Co s=H1 ((E5 s).bind EN):=fun m hm g=>by rw [AT,AS,AS] at g;exact v4p g.1 (by rw [hm];exact g.2)
  by_cases h10:b=10
  .subst h10;have eN:Yg s [10]=t:=by unfold Yg;rw [hc1,show ((10:UInt8) == 10)=true from rfl,Af,show s.length - ([10]:zy).length =t.length from by rw [AE];omega,hb,List.take_left]
   have hls:Jp (Yg s [10]) [10]=Ye 10 [] t:=by rw [eN,Re]
   have hne:=G7 10 t [];have hcl:=Vt 10 t [];have hp:0<(Ye 10 [] t).length :=List.length_pos_iff.2 hne;have hcs:Ye 10 [] s=Ye 10 [] t++[[]]:=by rw [hb,VH]
   have hm:Cw (Ye 10 [] s)=Cw (Ye 10 [] t):=by rw [hcs,v5j]
   have hr:E5 s=some (Ye 10 [] t):=by unfold E5;rw [hb,VH,List.getLast?_append,List.getLast?_singleton];show some ((Ye 10 [] t++[[]]).dropLast)=_;rw [List.dropLast_concat]
   have hx: ∀p∈Ye 10 [] t,p.length<=1000000:=fun p hp=>by have:=Vn 10 t [] p hp;simp at this;omega
   have hV:=hV _ hls (by omega);rw [hc1] at hV;cases g:decide (60000<s.length)||decide (200<Cw (Ye 10 [] t)) with
   | true=>rw [g] at hV;exact ⟨0+1+(Ye 10 [] t).length,Co s,by rw [hV 0,hW4 _ hm g];rfl,.inl rfl⟩
   | false=>
    rw [g] at hV;have hV: ∀N,Zt (Zd s) (N+1+(Ye 10 [] t).length) (MJ s)=Zt (Zd s) N (.to .h3):=hV;have hW:=hWR _ hm g;rw [hr] at hW;have hd:=Yt hp;rw [AM] at hd;have hW:Co s=H1 (EN (Ye 10 [] t)):=hW;rw [hd] at hW;obtain ⟨M,hM⟩:=v4n hls hp (hx _ (Gg hp));cases gl:ED (rd (Ye 10 [] t) 0) with
    | none=>rw [gl] at hM;refine ⟨0+M+1+(Ye 10 [] t).length,Co s,?_,.inl rfl⟩;rw [hV (0+M),hM 0,hW,EN,gl];rfl
    | some q=>
     cases q with
     | box r=>rw [gl] at hM;refine ⟨0+M+1+(Ye 10 [] t).length,Co s,?_,.inl rfl⟩;rw [hV (0+M),hM 0,hW,EN,gl];rfl
     | nod p t' x y z=>rw [gl] at hM;obtain ⟨q1,q2⟩:=WP gl;obtain ⟨N,hN⟩:=w1a hls hx (by omega) ((Ye 10 [] t).length - 1) 1 [p] t' x y z [] [] (by omega) (AH _) (AH _) rfl (fun u hu=>by rw [Ba.1 hu];exact q1 (hx _ (Gg hp))) (fun u hu=>by cases hu) q2;refine ⟨N+M+1+(Ye 10 [] t).length,Co s,?_,.inl rfl⟩;rw [hV (N+M),hM N,hW,EN,gl];exact hN
  .have hbe:(b == 10)=false:=by rw [AY];exact fun e=>h10 (AR.1 e)
   have eN:Yg s [10]=s:=by unfold Yg;rw [hc1,hbe];rfl
   have hls:Jp (Yg s [10]) [10]=Ye 10 [] s:=by rw [eN,Re]
   have hcl:=Vt 10 s [];have hV:=hV _ hls (by omega);rw [hc1,hbe] at hV;have hr:E5 s=none:=by
    unfold E5;cases hc:(Ye 10 [] s).getLast? with
    | none=>rfl
    | some p=>
     cases p with
     | cons _ _=>rfl
     | nil=>
      exfalso;rcases ZN 10 s [] hc with ⟨_,e⟩ | ⟨t',e⟩
      .exact h0 e
      .rw [hb] at e;have:=List.append_inj_right' e rfl;injection this with this _;exact h10 this
   cases g:decide (60000<s.length)||decide (200<Cw (Ye 10 [] s)) with
   | true=>rw [g] at hV;exact ⟨0+1+(Ye 10 [] s).length,Co s,by rw [hV 0,hW4 _ rfl g];rfl,.inl rfl⟩
   | false=>rw [g] at hV;exact ⟨0+1+(Ye 10 [] s).length,Co s,by rw [hV 0,hWR _ rfl g,hr];rfl,.inl rfl⟩
theorem j4x {S:B7} (hS:Zv prog S):Zv prog (S.with T0 FT):=OZ hS (by kernel_rfl) fun args v h=>by
 unfold FT at h;split at h
 .rename_i s;simp only [Ae,Ac] at h;obtain ⟨rfl,ho⟩:=h;obtain ⟨N,vs,hN,hv⟩:=j2h s ho;exact ⟨_,vs,.cons (.refl _) .nil,u6w hv,u1m s N _ hN,5,u6v hv⟩
 .cases h
def SYp :B7:=SY.with T0 FT
theorem HM :Zv prog SYp:=j4x UQ
inductive H7 where
 | h0 (v5:Int)
def My (l0:zu) (l1:zu):H7->CH
 | .h0 v5=>⟨⟨68,0,true⟩,none,(Zf prog 14 (pn 75) 0),none,(Zy prog 3),⟨Yh [(0,(dt l0)),(1,(dt l1)),(5,(ii v5))],Wd [] 0,0,[],true⟩,[],.leaf⟩
def J4 :List (Option zw):=[some [0,1,5]]
def J5 :List (Option zw):=[]
def ME (l0:zu) (l1:zu):H7->Xy H7
 | .h0 v5=>let b:=rd l1 v5.toNat;let c:=rd l0 v5.toNat;(bif (decide (v5<(l0.length:Int))) then (bif ((decide (0<=v5/\v5<(l0.length:Int)))&&true) then (bif ((decide (0<=v5/\v5<(l1.length:Int)))&&true) then (bif (!(c.n == b.n)) then (.ret [(.bool false)]) else (bif (c.a != b.a) then (.ret [(.bool false)]) else (bif (!((c.t == b.t)&&(((c.x == b.x)&&((c.y == b.y)&&((c.z == b.z)&&true)))&&true))) then (.ret [(.bool false)]) else (bif (Us (B6 c.s) (B6 b.s)) then (bif (!(Dy (B6 c.s) (B6 b.s))) then (.ret [(.bool false)]) else (.to (.h0 (wrap .i64 (v5+1))))) else .stuck)))) else .stuck) else .stuck) else (.ret [(.bool true)]))
def WA (l0:zu) (l1:zu):Xy H7:=(bif ((l0.length:Int) != (l1.length:Int)) then (.ret [(.bool false)]) else (.to (.h0 0)))
theorem w7q (l0:zu) (l1:zu): ∀s,Wu prog (Zy prog 14) (My l0 l1) (My l0 l1 s) (ME l0 l1 s)
 | .h0 v5=>(lb (fun k0=>(lo fun aB=>(lo fun aL=>let c:=ww aL (ww aB (tt k0 nn));(lb (fun k1=>(lr 68 14 (pn 4683) 1 3 [(4,(.bool false))] (sl HM 19 [] (b8 [4]) b7 (CC 36 []) (tt k1 c)))) (fun k1=>let a:=ww aL (ww aB (tt k1 c));(lb (fun k2=>(lr 68 14 (pn 4683) 1 3 [(4,(.bool false))] (sl HM 19 [] (b8 [4]) b7 (bl 36 68719472641) (tt k2 a)))) (fun k2=>let d:=ww aL (ww aB (tt k2 a));(lb (fun k3=>(lr 68 14 (pn 4683) 1 3 [(4,(.bool false))] (sl HM 19 [] (b8 [4]) b7 (bl 36 68711088129) (tt k3 d)))) (fun k3=>(lo fun cN=>let b:=ww aL (ww aB (tt k3 d));let e:=rd l0 (tn v5);let f:=rd l1 (tn v5);(lb (fun k4=>(lr 68 14 (pn 4683) 1 3 [(4,(.bool false))] (sl HM 19 [] (b8 [4]) b7 (bl 36 34359738369) (tt k4 (pp (pp (xI R6 e.s.length (Zz e.s)) (pp (xI R6 f.s.length (Zz f.s)) (xw cN))) b))))) (fun k4=>(sl HM 23 [] ⟨[],[],J4,J5⟩ b7 (bl 36 1) (tt k4 (pp (pp (xI R6 e.s.length (Zz e.s)) (pp (xI R6 f.s.length (Zz f.s)) (xw cN))) b))))))))))))))) (fun k0=>(lr 68 3 (pn 191) 1 3 [(4,(.bool true))] (sl HM 14 [] (b8 [4]) b7 [false] (tt k0 nn)))))
theorem x9f (l0:zu) (l1:zu):Wu prog (Zy prog 14) (My l0 l1) (Zm prog 14 [(dt l0),(dt l1)] true []) (WA l0 l1):=(lb (fun k0=>(lr 68 14 (pn 37) 1 3 [(4,(.bool false))] (sl HM 18 [] (b8 [4]) b7 [true] (tt k0 nn)))) (fun k0=>(sl HM 22 [] ⟨[],[],J4,J5⟩ b7 [false] (tt k0 nn))))
theorem v9f (l0:zu) (l1:zu) (n:Nat) (vs:zx) (h:Zt (ME l0 l1) n (WA l0 l1)=.ret vs):Kw prog (Zy prog 14) (Zm prog 14 [(dt l0),(dt l1)] true []) vs:=by have:=Zb (w7q l0 l1) n _ (x9f l0 l1);rwa [h] at this
def FF (x y:B8):Bool:=bif !(x.n == y.n) then false else bif x.a != y.a then false else bif !((x.t == y.t)&&(((x.x == y.x)&&((x.y == y.y)&&((x.z == y.z)&&true)))&&true)) then false else Dy x.s y.s
def FE (l m:zu):Nat->Nat->Bool
 | 0,_=>true
 | k+1,i=>bif FF (rd l i) (rd m i) then FE l m k (i+1) else false
def JO (l m:zu):Bool:=bif decide (l.length=m.length) then FE l m l.length 0 else false
def Kq (l m:zu):Bool:=decide (l.length<=1000000)&&l.all fun x=>decide (x.s.length<=1000000)
theorem v2u (x:B8):FF x x=true:=by unfold FF Dy;rw [show (x.n == x.n)=true from BI _,show (x.a != x.a)=false by simp,show (x.t == x.t)=true from BI _,show (x.x == x.x)=true from BI _,show (x.y == x.y)=true from BI _,show (x.z == x.z)=true from BI _];exact Aa rfl
theorem x5i (l:zu): ∀k i,FE l l k i=true
 | 0,i=>rfl
 | k+1,i=>by rw [FE,v2u,Af,x5i l k]
theorem v2t (l:zu):JO l l=true:=by unfold JO;rw [Aa rfl,Af,x5i]
theorem u5g {l m:zu} (ho:Kq l m=true) (hm:l.length=m.length): ∀(k i:Nat),i+k=l.length-> ∃N,Zt (ME l m) N (.to (.h0 (i:Int)))=.ret [.bool (FE l m k i)]
 | 0,i,h=>by refine ⟨1,?_⟩;rw [Zx];unfold ME;simp only [];rw [Yo (by omega)];rfl
 | k +1,i,h=>by
  have ho':=ho;unfold Kq at ho;rw [Ad,An] at ho;have hi:i<l.length:=by omega
  have w2:wrap .i64 ((i:Int)+1)=((i+1:Nat):Int):=Zq (by omega);have hs:Us (rd l i).s (rd m i).s =true:=Ax.1 ho.2 _ (Gg hi);have e:ME l m (.h0 (i:Int))=bif FF (rd l i) (rd m i) then .to (.h0 ((i+1:Nat):Int)) else .ret [.bool false]:=by
   unfold ME FF;simp only [Zj,w2,Yb];rw [Zu (Ym (by omega)),Ar,Zu (Yx (by omega)),Ar,Zu (Yx (by omega)),Zu hs];cases (rd l i).n == (rd m i).n with
   | false=>rfl
   | true=>
    cases (rd l i).a != (rd m i).a with
    | true=>rfl
    | false=>
     cases ((rd l i).t == (rd m i).t)&&(((rd l i).x == (rd m i).x)&&(((rd l i).y == (rd m i).y)&&(((rd l i).z == (rd m i).z)&&true))&&true) with
     | false=>rfl
     | true=>cases Dy (rd l i).s (rd m i).s <;> rfl
  rw [FE];cases g:FF (rd l i) (rd m i) with
  | false=>exact ⟨1,by rw [Zx,e,g];rfl⟩
  | true=>obtain ⟨N,hN⟩:=u5g ho' hm k (i+1) (by omega);exact ⟨N+1,by rw [Zx,e,g,Af,Af,hN]⟩
theorem u9t (l m:zu) (h:Kq l m=true): ∃N,Zt (ME l m) N (WA l m)=.ret [.bool (JO l m)]:=by
 unfold WA JO;by_cases hm:l.length=m.length
 .obtain ⟨N,hN⟩:=u5g h hm l.length 0 (Ak _);refine ⟨N,?_⟩;rw [show ((l.length:Int) != (m.length:Int))=false by rw [hm];simp,Ab,Aa hm,Af];exact hN
 .refine ⟨0,?_⟩;rw [show ((l.length:Int) != (m.length:Int))=true by simp;omega,Ah hm];rfl
def Ol :zx->Option (B5×Bool)
 | [a0,a1]=>match C5 B8 a0,C5 B8 a1 with
  | some (L0,g0,n0),some (L1,g1,n1)=>some (.bool (JO L0 L1),CV B8 n0 g0&&(CV B8 n1 g1&&(Kq L0 L1)))
  | _,_=>none
 | _=>none
theorem j4e {S:B7} (hS:Zv prog S):Zv prog (S.with Ss Ol):=CU hS (by kernel_rfl) fun args v h=>by
 unfold Ol at h;split at h
 .rename_i a0 a1;split at h
  .rename_i L0 g0 n0 L1 g1 n1 e0 e1;simp only [Ae,Ac,Ad] at h;obtain ⟨rfl,ho0,ho1,hw⟩:=h;obtain ⟨N,hN⟩:=u9t L0 L1 hw;exact ⟨_,_,(.cons (Xd e0 ho0) (.cons (Xd e1 ho1) .nil)),rfl,v9f L0 L1 N _ hN,3,rfl⟩
  .cases h
 .cases h
def SYq :B7:=SYp.with Ss Ol
theorem P8 :Zv prog SYq:=j4e HM
def SYt :B7:=(SYq.with Sv FQ).with TE FT
theorem It :Zv prog SYt:=j4l (j4g P8)
theorem j3p {l:zu} (h:JH l=false):l.length<=220/\(l.length<=12\/200<l.length)/\ ∀x∈l,x.s.length<=12/\x.n.length<=500:=by
 unfold JH at h;rw [AT] at h;have h2:=h.2;unfold greZ at h2;rw [AT,AS,Bool.and_eq_false_iff,AS,AS] at h2;have hl:l.length<=220:=by omega
 refine ⟨hl,by omega,fun x hx=> ?_⟩;have ht:l.take 300=l:=A4 (by omega);have h1:=h.1;rw [ht] at h1;have:=List.any_eq_false.1 h1 x hx;unfold FP at this;simp at this;omega
theorem u3c {l:zu} (h:JH l=false):Xw l=true:=by obtain ⟨h1,h2,h3⟩:=j3p h;unfold Xw;rw [Ad,An];exact ⟨by omega,Ax.2 fun x hx=>Aa (h3 x hx).2⟩
theorem j2g {s:zy} (h:Qy s=0):Kv (Wc s)=0:=by
 unfold Qy at h;unfold Wc;unfold DU at h ⊢;cases g:decide (60000<s.length)||decide (200<Cw (Ye 10 [] s)) with
 | true=>rw [g] at h;cases h
 | false=>
  rw [g,Ab] at h;rw [Ab];cases hr:(E5 s).bind EN with
  | none=>rw [hr] at h;cases h
  | some z=>
   obtain ⟨l,Q⟩:=z;rw [hr] at h;have h:(GE (Uv Q l.length 0 l)).2=0:=h;show Kv (GE (Uv Q l.length 0 l)).1=0;cases hS:Uv Q l.length 0 l with
   | none=>rw [hS] at h;cases h
   | some L=>
    rw [hS] at h;have hL:Kv L=0:=by
     by_cases e:Kv L=0
     .exact e
     .rw [v4q e] at h;exact absurd h e
    rw [SB hL];exact hL
theorem u9o {l:zu} (h:Kv l=0):Kq l l=true:=by obtain ⟨h1,h2,_⟩:=WB (l:=l) (by rw [h];rfl);unfold Kq;rw [Aa (show l.length<=1000000 by omega),As];refine Ax.2 fun x hx=>Aa ?_;have:=(w4j (w4g h2 hx)).1;omega
theorem j2j (s:zy):Kq (Wc s) (Wc s)=true:=by
 by_cases h:Qy s=0
 .exact u9o (j2g h)
 .rw [w4x s h];rfl
section
attribute [local irreducible] Kv Wc Qy EH EI
inductive GR where
def OL (l0:zu) (x1:zy):GR->CH
 :=nofun
def w1l (l0:zu) (x1:zy):GR->Xy GR
 :=nofun
def Rn (l0:zu) (x1:zy):Xy GR:=(bif (JH (B6 l0)) then (.ret [(.bool true)]) else (bif (decide ((x1.length:Int)>4000)) then (bif (decide ((x1.length:Int)<=60000)) then (.ret [(.bool true)]) else (bif (decide ((x1.length:Int)>61000)) then (.ret [(.bool true)]) else (bif (Jv (B6 l0)) then (bif (MM x1) then (bif (Kq (B6 (Wc x1)) (B6 (Wc x1))) then (bif (JO (B6 (Wc x1)) (B6 (Wc x1))) then (.ret [(.bool ((Qy x1) == (Qy x1)))]) else (.ret [(.bool false)])) else .stuck) else .stuck) else .stuck))) else (bif (decide ((x1.length:Int)>61000)) then (.ret [(.bool true)]) else (bif (Jv (B6 l0)) then (bif (MM x1) then (bif (Kq (B6 (Wc x1)) (B6 (Wc x1))) then (bif (JO (B6 (Wc x1)) (B6 (Wc x1))) then (.ret [(.bool ((Qy x1) == (Qy x1)))]) else (.ret [(.bool false)])) else .stuck) else .stuck) else .stuck))))
theorem w9k (l0:zu) (x1:zy): ∀s,Wu prog (Zy prog 3) (OL l0 x1) (OL l0 x1 s) (w1l l0 x1 s)
 :=nofun
theorem w1m (l0:zu) (x1:zy):Wu prog (Zy prog 3) (OL l0 x1) (Zm prog 3 [(dt l0),(.str x1)] true []) (Rn l0 x1):=let l:=pp (xr l0) nn;(lb (fun k0=>(lr 68 3 (pn 37) 1 3 [(4,(.bool true))] (sl It 30 [] (b8 [4]) b7 (CC 9 []) (tt k0 l)))) (fun k0=>let a:=tt k0 l;(lb (fun k1=>(lb (fun k2=>(lr 68 3 (pn 37) 1 3 [(4,(.bool true))] (sl It 30 [] (b8 [4]) b7 (bl 12 3952) (tt k2 (tt k1 a))))) (fun k2=>let j:=tt k2 (tt k1 a);(lb (fun k3=>(lr 68 3 (pn 37) 1 3 [(4,(.bool true))] (sl It 30 [] (b8 [4]) b7 (bl 12 2160) (tt k3 j)))) (fun k3=>(lo fun cN=>(lo fun dQ=>(lo fun dS=>let h:=pp (xr l0) (xw cN);let b:=ww dQ (ww dQ (pp h (pp h (tt k3 j))));(lb (fun k4=>let e:=xI B8 (Wc x1).length (Zz (Wc x1));(lr 68 3 (pn 191) 1 3 [(4,(.bool ((Qy x1) == (Qy x1))))] (sl It 89 [] (b8 [4]) b7 (bl 21 2093168) (tt k4 (pp (pp e (pp e (xw dS))) (pp (xG (((EI (B6 l0)) == (EI (B6 l0))) == true) (by simp)) (pp (xG (((EH (B6 l0)) == (EH (B6 l0))) == true) (by simp)) b))))))) (fun k4=>let g:=xI B8 (Wc x1).length (Zz (Wc x1));(lr 68 3 (pn 191) 1 3 [(4,(.bool false))] (sl It 89 [] (b8 [4]) b7 (bl 21 258160) (tt k4 (pp (pp g (pp g (xw dS))) (pp (xG (((EI (B6 l0)) == (EI (B6 l0))) == true) (by simp)) (pp (xG (((EH (B6 l0)) == (EH (B6 l0))) == true) (by simp)) b)))))))))))))))) (fun k1=>(lb (fun k2=>(lr 68 3 (pn 37) 1 3 [(4,(.bool true))] (sl It 30 [] (b8 [4]) b7 (bl 12 2048) (tt k2 (tt k1 a))))) (fun k2=>(lo fun cD=>(lo fun dO=>(lo fun dP=>let i:=pp (xr l0) (xw cD);let c:=ww dO (ww dO (pp i (pp i (tt k2 (tt k1 a)))));(lb (fun k3=>let f:=xI B8 (Wc x1).length (Zz (Wc x1));(lr 68 3 (pn 191) 1 3 [(4,(.bool ((Qy x1) == (Qy x1))))] (sl It 89 [] (b8 [4]) b7 (bl 21 2093056) (tt k3 (pp (pp f (pp f (xw dP))) (pp (xG (((EI (B6 l0)) == (EI (B6 l0))) == true) (by simp)) (pp (xG (((EH (B6 l0)) == (EH (B6 l0))) == true) (by simp)) c))))))) (fun k3=>let d:=xI B8 (Wc x1).length (Zz (Wc x1));(lr 68 3 (pn 191) 1 3 [(4,(.bool false))] (sl It 89 [] (b8 [4]) b7 (bl 21 258048) (tt k3 (pp (pp d (pp d (xw dP))) (pp (xG (((EI (B6 l0)) == (EI (B6 l0))) == true) (by simp)) (pp (xG (((EH (B6 l0)) == (EH (B6 l0))) == true) (by simp)) c)))))))))))))))))
theorem ltx_ends (l0:zu) (x1:zy) (n:Nat) (vs:zx) (h:Zt (w1l l0 x1) n (Rn l0 x1)=.ret vs):Kw prog (Zy prog 3) (Zm prog 3 [(dt l0),(.str x1)] true []) vs:=by have:=Zb (w9k l0 x1) n _ (w1m l0 x1);rwa [h] at this
end
theorem ltx_run (l:zu) (s:zy) (ht:(l.all fun x=>decide (0<=x.t))=true): ∃N,Zt (w1l l s) N (Rn l s)=.ret [.bool true]:=⟨0,by
 show Rn l s=_;have fin:JH l=false->s.length<=61000->(bif (Jv l) then (bif (MM s) then (bif (Kq (Wc s) (Wc s)) then (bif (JO (Wc s) (Wc s)) then (.ret [(.bool ((Qy s) == (Qy s)))]) else (.ret [(.bool false)])) else .stuck) else .stuck) else (.stuck :Xy GR))=.ret [.bool true]:=fun g hs=>by have ho:=u3c g;rw [Zu (show Jv l=true by unfold Jv;rw [ho,ht];rfl),Zu (show MM s=true from Aa (by omega)),Zu (j2j s),Zu (v2t _),BI]
 unfold Rn;simp only [Yb];cases g:JH l with
 | true=>rfl
 | false=>
  rw [Ab];by_cases c4:(s.length:Int)>4000
  .rw [Aa c4,Af];by_cases c5:(s.length:Int)<=60000
   .rw [Aa c5];rfl
   .rw [Ah c5,Ab];by_cases c6:(s.length:Int)>61000
    .rw [Aa c6];rfl
    .rw [Ah c6,Ab];exact fin g (by omega)
  .rw [Ah c4,Ab];by_cases c6:(s.length:Int)>61000
   .rw [Aa c6];rfl
   .rw [Ah c6,Ab];exact fin g (by omega)⟩
open Go.ChangeShapes Go.WideShapes Go.Deep
section
variable {P:Program}
def j3s (P:Program) (e:TypeId):List (TypeId×Nat):=match P.underlying e with
 | some (.struct fs)=>fs.toList.map fun f=>(f.type,f.offset)
 | _=>[]
theorem v6h {e t0 t1 t2 t3:TypeId} {a b c d:Nat} (h:j3s P e=[(t0,a),(t1,b),(t2,c),(t3,d)]): ∃fs:Array Field,P.underlying e=some (.struct fs)/\fs.size=4/\(∃f0,fs[0]? =some f0/\f0.type=t0/\f0.offset=a)/\(∃f1,fs[1]? =some f1/\f1.type=t1/\f1.offset=b)/\(∃f2,fs[2]? =some f2/\f2.type=t2/\f2.offset=c)/\ ∃f3,fs[3]? =some f3/\f3.type=t3/\f3.offset=d:=by
 unfold j3s at h;split at h
 .rename_i fs hu;refine ⟨fs,hu,?_⟩;obtain ⟨l⟩:=fs;simp only at h
  match l,h with
  | [f0,f1,f2,f3],h=>simp only [A8,List.map_nil,Bk,Ac,B2] at h;exact ⟨rfl,⟨f0,rfl,h.1.1,h.1.2⟩,⟨f1,rfl,h.2.1.1,h.2.1.2⟩,⟨f2,rfl,h.2.2.1.1,h.2.2.1.2⟩,f3,rfl,h.2.2.2.1,h.2.2.2.2⟩
 .cases h
abbrev OQ :List IntKind:=[.i64,.i64,.i64,.i64,.i64,.i64]
abbrev ksF :List IntKind:=[.u8,.i64,.i64,.i64]
variable {HH:Type} {enc:TypeId×Value->HH} {w:World} {base:Nat} {gL:Bool}
theorem w9c {t e:TypeId} {ks:List IntKind} {cs:List Value} {x:DataW HH×List MemPlace} {fuel:Nat} (ht:P.underlying t=some (.slice e)) (hk:Iw P 30 e=some ks) (hks:1<=ks.length)
  (h:DataW.trod enc P w base (fun _=>true) gL fuel t cs=some x):
  ∃(v:Value) (n:Nat) (c:Nat->Nat->Int),cs=[v]/\Zn (DI fun k=>w.heap[k]?) (.dat n (fun i=>JD ks (c i))) v:=by
 rcases open_slice ht h with ⟨h0,rfl⟩ | ⟨a,len,cap,m,fl,D,Pl,hcs,hb,hl,eJ,hm,rfl,hi⟩
 .exact ⟨_,0,fun _ _=>0,h0,.datn _⟩
 .simp only [if_true] at hm;subst hm;by_cases hc0:m=0
  .subst hc0;obtain rfl:len=0:=by omega
   exact ⟨_,0,fun _ _=>0,hcs,.datz _ _ _⟩
  .have hspot:a.spot=none:=by
    obtain ⟨cs',hc',ht'⟩:=hi 0 (by omega);have I:=RV 30 e ks hk _ _ _ ht';obtain ⟨_,eC,eW⟩:=World.cells?_some hc';have h1:=eW 0 (by rw [<-eC,I.length];exact hks);obtain ⟨blk,off,spot⟩:=a;have h2:cs'[0]? =some (cs'[0]'(by rw [I.length];exact hks)):=(by simp);rw [h2] at h1
    simpa [Addr.add] using World.cell?_spot h1
   obtain ⟨blk,off,spot⟩:=a;simp only at hspot;subst hspot;obtain ⟨c,h1,h2⟩:=u3w (w:=w) hk hl hl hi;exact ⟨_,len,c,hcs,h1⟩
def P9 (x:B8):Prop:=(0<=x.t/\x.t<256)/\(-9223372036854775808<=x.a/\x.a<=9223372036854775807)/\(-9223372036854775808<=x.x/\x.x<=9223372036854775807)/\(-9223372036854775808<=x.y/\x.y<=9223372036854775807)/\(-9223372036854775808<=x.z/\x.z<=9223372036854775807)
theorem open_nodes {t e tS tI tF tL b:TypeId} {v:Value} {d:DataW HH} {p:List MemPlace} (ht:P.underlying t=some (.slice e)) (hs:j3s P e=[(tS,0),(tI,1),(tF,2),(tL,6)]) (ce:P.cellsOf e=7) (c0:P.cellsOf tS=1) (c1:P.cellsOf tI=1) (c2:P.cellsOf tF=4) (c3:P.cellsOf tL=1)
  (uS:P.underlying tS=some .string) (kI:Iw P 30 tI=some [.i64]) (kF:Iw P 30 tF=some ksF) (u1:P.underlying tL=some (.slice b)) (kb:Iw P 30 b=some OQ) {b0:Nat} (hv:Value.okWide P w .any b0 t v) (h:DataW.Trod enc P w base (fun _=>true) gL t v d p):
  ∃X:zu,Zn (DI fun k=>w.heap[k]?) (.dat X.length (Zz X)) v/\ ∀x∈X,P9 x:=by
 obtain ⟨fuel,h⟩:=h;have hvc:v.cells.toList=[v]:=by
  unfold Value.okWide at hv;rw [ht] at hv;unfold Cell.okWide at hv;rw [ht] at hv;cases v <;> first | rfl | (simp [Cell.ok,ht] at hv)
 rcases open_slice ht h with ⟨h0,_⟩ | ⟨a,len,cap,m,fl,D,Pl,hcs,hb,hl,eJ,hm,hx,hi⟩
 .rw [hvc] at h0;obtain rfl:v=.slice none 0 0:=by simpa using h0
  exact ⟨[],.datn _,fun x hx=>by cases hx⟩
 .rw [hvc] at hcs;obtain rfl:v=.slice (some a) len cap:=by simpa using hcs
  have hspot:a.spot=none:=by unfold Value.okWide at hv;rw [ht] at hv;unfold Cell.okWide at hv;rw [ht] at hv;simp only [Cell.ok,ht] at hv;exact hv.2.2.2.1
  obtain ⟨blk,off,spot⟩:=a;simp only at hspot;subst hspot;simp only [if_true] at hm;subst hm;obtain ⟨fs,hu,hsz,⟨f0,hf0,rfl,o0⟩,⟨f1,hf1,rfl,o1⟩,⟨f2,hf2,rfl,o2⟩,f3,hf3,rfl,o3⟩:=v6h hs;have key: ∀i,i<len-> ∃q:B8×(Nat->Value),(∀j,j<7->w.cell? ⟨blk,off+(i*7+j),none⟩=some (q.2 j))/\(∀j (hj:j<7),Zn (DI fun k=>w.heap[k]?) ((Xg.cells q.1)[j]'hj) (q.2 j))/\P9 q.1:=by
   intro i hil;obtain ⟨cs',hc',ht'⟩:=hi i (by omega);obtain ⟨xs,n,_,hx',hcl,hxl,hf⟩:=DataW.trod_struct hu ht';have eC:cs'.length=7:=hcl.trans ce;have eW:=(World.cells?_some hc').2.2;have g0:=hf 0 f0 hf0;have g1:=hf 1 f1 hf1;have g2:=hf 2 f2 hf2;have g3:=hf 3 f3 hf3;rw [o0,c0,AM] at g0;rw [o1,c1] at g1;rw [o2,c2] at g2;rw [o3,c3] at g3;rw [At (show 0<xs.length by omega)] at g0;rw [At (show 1<xs.length by omega)] at g1;rw [At (show 2<xs.length by omega)] at g2;rw [At (show 3<xs.length by omega)] at g3;obtain ⟨s,s1,_,_⟩:=DataW.trod_string uS g0;obtain ⟨ns,n1,n2,n3⟩:=RV 30 _ _ kI _ _ _ g1;obtain ⟨ms,m1,m2,m3⟩:=RV 30 _ _ kF _ _ _ g2;obtain ⟨u,n',c,e1,e2⟩:=w9c u1 kb (by decide) g3
   match ns,n1,ms,m1 with
   | [a],_,[q0,q1,q2,q3],_=>
    have ecs:cs'=[.string s,.int .i64 a,.int .u8 q0,.int .i64 q1,.int .i64 q2,.int .i64 q3,u]:=by
     have h1:cs'=cs'.take 1++((cs'.drop 1).take 1++((cs'.drop 2).take 4++(cs'.drop 6).take 1)):=by
      match cs',eC with
      | [_,_,_,_,_,_,_],_=>rfl
     rw [h1,s1,n2,m2,e1];rfl
    have hb: ∀(k:IntKind) (n:Int),k.has n->k.min<=n/\n<=k.max:=fun k n h=>h;have b1:=hb .i64 a (n3 (.i64,a) (by simp));have b2:=hb .u8 q0 (m3 (.u8,q0) (by simp));have b3:=hb .i64 q1 (m3 (.i64,q1) (by simp));have b4:=hb .i64 q2 (m3 (.i64,q2) (by simp));have b5:=hb .i64 q3 (m3 (.i64,q3) (by simp));rw [show IntKind.i64.min= -9223372036854775808 from rfl,show IntKind.i64.max=9223372036854775807 from rfl] at b1 b3 b4 b5;rw [show IntKind.u8.min=0 from rfl,show IntKind.u8.max=255 from rfl] at b2;refine ⟨(⟨s.data.toList,a,q0,q1,q2,q3,CG R6 n' fun i=>JD OQ (c i)⟩,fun j=>cs'.getD j undef),fun j hj=> ?_,fun j hj=> ?_,?_⟩
    .have:=eW j (by omega);rw [ce] at this;simp only [Xo] at this;rw [show off+(i*7+j)=off+i*7+j by omega,this];show cs'[j]? =some (cs'.getD j undef);rw [A9,At (by omega)];rfl
    .have last:=(Xd (α:=R6) (v:=.dat n' fun i=>JD OQ (c i)) rfl (Xj fun i _=>rfl)).sound e2;rw [ecs]
     match j,hj with
     | 0,_=>exact .str s.data.toList
     | 1,_=>exact .int _ _
     | 2,_=>exact .int _ _
     | 3,_=>exact .int _ _
     | 4,_=>exact .int _ _
     | 5,_=>exact .int _ _
     | 6,_=>exact last
    .exact ⟨⟨b2.1,Int.lt_of_le_of_lt b2.2 (by decide)⟩,b1,b3,b4,b5⟩
  let Q:Nat->B8×(Nat->Value):=fun i=>if hil:i<len then (key i hil).choose else (Xg.d,fun _=>undef)
  have hQ: ∀i,i<len->(∀j,j<7->w.cell? ⟨blk,off+(i*7+j),none⟩=some ((Q i).2 j))/\(∀j (hj:j<7),Zn (DI fun k=>w.heap[k]?) ((Xg.cells (Q i).1)[j]'hj) ((Q i).2 j))/\P9 (Q i).1:=by intro i hil;have:=(key i hil).choose_spec;simp only [Q,hil,dif_pos];exact this
  have hXl:((List.range len).map fun i=>(Q i).1).length =len:=by simp
  have fQ: ∀i,i<len->Zz ((List.range len).map fun i=>(Q i).1) i=Xg.cells (Q i).1:=fun i hi=>by show Xg.cells (rd _ i)=_;rw [Wv (by rw [hXl];exact hi)];simp only [BQ,List.getElem_range]
  refine ⟨(List.range len).map fun i=>(Q i).1,?_,fun x hx2=> ?_⟩
  .rw [hXl];refine .dat len _ blk off 7 m (fun i j=>(Q i).2 j) hl (fun i hil=>by rw [fQ i hil];rfl) (fun i j hil hj=> ?_) (fun i j hil hj=> ?_)
   .have hj7:j<7:=by rw [fQ i hil] at hj;exact hj
    have:=(hQ i hil).2.1 j hj7;simp only [fQ i hil];exact this
   .have e2:=(hQ i hil).1 j hj;unfold World.cell? at e2;split at e2
    .rename_i cl el fz hb2;simp only [Option.isSome_none,Bool.false_eq_true,if_false] at e2;exact ⟨cl,el,fz,hb2,e2⟩
    .cases e2
  .obtain ⟨i,hi2,rfl⟩:=List.mem_map.1 hx2;exact (hQ i (A0.1 hi2)).2.2
end
end Go.Am
end
