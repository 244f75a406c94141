/- A part of a proof: several texts in one. -/
import Derived.Test.YtigjpddfojohaaaGreatNg5
set_option maxRecDepth 1000000
set_option maxHeartbeats 8000000
set_option linter.unusedVariables false
set_option linter.unusedSimpArgs false
noncomputable section
namespace Go.Am
open IntKind (wrap)
open Go.Proofs.Tryz
open Go.Proofs
open Go.Sort Go.Shelf Go.RowKit Go.Lib
def H9 (k:Nat) (a b:zq):Int:=bif Dj a != 0 then Dj a else bif Dj b != 0 then Dj b else DX (EH k a b).length
theorem y3g (i:Int) (l:zq):(Vw i l).length =2*l.length:=by
 induction l with
 | nil=>rfl
 | cons r l ih=>grind [Vw]
theorem x1f (j:Int) (l:zq) (i:Nat) (h:i<l.length):Vw j (l.drop i)=Vw j [rd l i]++Vw j (l.drop (i+1)):=by rw [Yo h];rfl
theorem v7o {j:Int} {l:zq} {e:R3} (h:e∈Vw j l):e.b=j/\(e.c=1\/e.c= -1):=by
 obtain ⟨s,_,h⟩:=AM.1 h
 grind
theorem w4u (f:Bool->Bool->Bool) (e:R3) (r:zo) (o p last:Int) (inn:Bool) (out:zq):Dv f (e::r) o p last inn out=Dv f r (bif e.b == 0 then o+e.c else o) (bif e.b == 0 then p else p+e.c) e.a (f (decide ((bif e.b == 0 then o+e.c else o)>0)) (decide ((bif e.b == 0 then p else p+e.c)>0))) (Ui out last inn e.a):=rfl
section
variable (q:Op) (a b:zq)
theorem u6j (L:zo) (hL:L.length<=2000) (hE: ∀i,i<L.length->((rd L i).b =0\/(rd L i).b =1)/\((rd L i).c =1\/(rd L i).c = -1)): ∀(k i:Nat) (o p last:Int) (inn:Bool) (out:zq),i+k=L.length-> -(i:Int)<=o->o<=i-> -(i:Int)<=p->p<=i->out.length<=i->
  ∃n,Yx (Vx q a b) n (.to (.h2 L (L.length:Int) (i:Int) o p last inn out))=.ret (Qv (Dv (Df q.k) (L.drop i) o p last inn out))
 | 0,i,o,p,last,inn,out,h,ho1,ho2,hp1,hp2,hout=>by
  refine ⟨1,?_⟩;rw [Zx,Av (by omega)];unfold Qv;show _=Yr.ret (bif decide ((out.length:Int)>400) then _ else _);rcases Xz (decide ((out.length:Int)>400)) with g | g <;>
  simp (disch:=omega) only [Vx,Ym,g,Ab,Aa,Zd];rfl
 | k + 1,i,o,p,last,inn,out,h,ho1,ho2,hp1,hp2,hout=>by
  obtain ⟨hb,hc⟩:=hE i (by omega);have hcl:=z4a out last inn (rd L i).a;have hcf: ∀x y,cV q x y=Df q.k x y:=fun _ _=>rfl;have hlt:decide ((i:Int)<(L.length:Int))=true:=Af (by omega);have hw:wrap .i64 (o+(rd L i).c)=o+(rd L i).c :=Zk (by grind);have hw':wrap .i64 (p+(rd L i).c)=p+(rd L i).c :=Zk (by grind);have key: ∀(o' p':Int) (out':zq),-((i+1:Nat):Int)<=o'->o'<=((i+1:Nat):Int)-> -((i+1:Nat):Int)<=p'->p'<=((i+1:Nat):Int)->out'=Ui out last inn (rd L i).a ->
    Vx q a b (.h2 L (L.length:Int) (i:Int) o p last inn out)=.to (.h2 L (L.length:Int) ((i+1:Nat):Int) o' p' (rd L i).a (Df q.k (decide (o'>0)) (decide (p'>0))) out')->
    Dv (Df q.k) (L.drop i) o p last inn out=Dv (Df q.k) (L.drop (i+1)) o' p' (rd L i).a (Df q.k (decide (o'>0)) (decide (p'>0))) out'->
    ∃n,Yx (Vx q a b) n (.to (.h2 L (L.length:Int) (i:Int) o p last inn out))=.ret (Qv (Dv (Df q.k) (L.drop i) o p last inn out)):=fun o' p' out' b1 b2 b3 b4 eo hs hq=>by
   obtain ⟨n,hn⟩:=u6j L hL hE k (i+1) o' p' (rd L i).a (Df q.k (decide (o'>0)) (decide (p'>0))) out' (by omega) b1 b2 b3 b4 (by grind);refine ⟨n+1,?_⟩;rw [Zx,hs,hq];exact hn
  rcases hb with hb | hb
  .have hz:decide ((rd L i).b =Int.ofNat 0)=true:=Af hb;have hb0:((rd L i).b == 0)=true:=by rw [hb];rfl
   refine key (o+(rd L i).c) p (Ui out last inn (rd L i).a) (by grind) (by grind) (by omega) (by omega) rfl ?_ ?_
   .unfold Ui;cases inn with
    | false=>simp (disch:=omega) only [Vx,hlt,hz,hw,hw',hcf,Zt,Zr,Yq,Zk,Zu,Zj,Ah,Ai,Ab,Aa,Az]
    | true=>
     rcases Xz (last == (rd L i).a) with g | g
     .simp (disch:=omega) only [Vx,hlt,hz,hw,hw',hcf,Zt,Zr,Yq,Zk,Zu,Zj,Ah,Ai,Ab,Aa,Aw,g]
     .by_cases h0:0<out.length
      .rw [Af h0,Ak];rcases Xz ((rd out (out.length - 1)).b == last) with q2 | q2
       .simp (disch:=omega) only [Vx,hlt,hz,hw,hw',hcf,Zt,Zr,Yq,Zk,Zu,Zj,Ah,Ai,Ab,Aa,Aw,g,q2,Ys,Yz]
       .simp (disch:=omega) only [Vx,hlt,hz,hw,hw',hcf,Zt,Zr,Yq,Zk,Zu,Zj,Ah,Ai,Ab,Aa,Aw,Ak,g,q2,Ys,Yz,Ya,Zn,Yc,As]
      .rw [An h0,AW];simp (disch:=omega) only [Vx,hlt,hz,hw,hw',hcf,Zt,Zr,Yq,Zk,Zu,Zj,Ah,Ai,Ab,Aa,Aw,Ak,g,Xg,Ya,Zn,Yc,As]
   simp_all [Yo,w4u]
  .have hz0:decide ((rd L i).b =Int.ofNat 0)=false:=An (by grind);have hz:decide ((rd L i).b =Int.ofNat 1)=true:=Af hb;have hb0:((rd L i).b == 0)=false:=by rw [hb];rfl
   refine key o (p+(rd L i).c) (Ui out last inn (rd L i).a) (by omega) (by omega) (by grind) (by grind) rfl ?_ ?_
   .unfold Ui;cases inn with
    | false=>simp (disch:=omega) only [Vx,hlt,hz0,hz,hw,hw',hcf,Zt,Zr,Yq,Zk,Zu,Zj,Ah,Ai,Ab,Aa,Az]
    | true=>
     rcases Xz (last == (rd L i).a) with g | g
     .simp (disch:=omega) only [Vx,hlt,hz0,hz,hw,hw',hcf,Zt,Zr,Yq,Zk,Zu,Zj,Ah,Ai,Ab,Aa,Aw,g]
     .by_cases h0:0<out.length
      .rw [Af h0,Ak];rcases Xz ((rd out (out.length - 1)).b == last) with q2 | q2
       .simp (disch:=omega) only [Vx,hlt,hz0,hz,hw,hw',hcf,Zt,Zr,Yq,Zk,Zu,Zj,Ah,Ai,Ab,Aa,Aw,g,q2,Ys,Yz]
       .simp (disch:=omega) only [Vx,hlt,hz0,hz,hw,hw',hcf,Zt,Zr,Yq,Zk,Zu,Zj,Ah,Ai,Ab,Aa,Aw,Ak,g,q2,Ys,Yz,Ya,Zn,Yc,As]
      .rw [An h0,AW];simp (disch:=omega) only [Vx,hlt,hz0,hz,hw,hw',hcf,Zt,Zr,Yq,Zk,Zu,Zj,Ah,Ai,Ab,Aa,Aw,Ak,g,Xg,Ya,Zn,Yc,As]
   simp_all [Yo,w4u]
theorem u6k (ha:a.length<=400) (hb:b.length<=400) (va:a.all C5=true) (vb:b.all C5=true): ∀(k i:Nat) (E:zo),i+k=b.length->E.length=2*a.length+2*i->E++Vw 1 (b.drop i)=Vw 0 a++Vw 1 b-> ∃n,Yx (Vx q a b) n (.to (.h1 E (i:Int)))=.ret (Qv (EH q.k a b))
 | 0,i,E,h,hl,he=>by
  rw [Av (by omega),show Vw 1 []=[] from rfl,AA] at he;subst he;have hbnd:DN (Vw 0 a++Vw 1 b)=true:=by
   grind [x6m,DN]
  have hsl:=y6f (Vw 0 a++Vw 1 b);obtain ⟨hp,_⟩:=Qr _ hbnd;obtain ⟨n,hn⟩:=u6j q a b (Ch (Vw 0 a++Vw 1 b)) (by grind) (fun i hi=>by
   have hm:rd (Ch (Vw 0 a++Vw 1 b)) i∈Vw 0 a++Vw 1 b:=hp.mem_iff.1 (by grind [Xm])
   grind [v7o]) (Ch (Vw 0 a++Vw 1 b)).length 0 0 0 0 false [] (Ah _) (by omega) (by omega) (by omega) (by omega) (Ay _)
  refine ⟨n+1,?_⟩;rw [Zx];have step:Vx q a b (.h1 (Vw 0 a++Vw 1 b) (i:Int))=.to (.h2 (Ch (Vw 0 a++Vw 1 b)) (((Vw 0 a++Vw 1 b).length :Nat):Int) 0 0 0 0 false []):=by
   grind [Vx,Za]
  rw [step,<-hsl];exact hn
 | k+1,i,E,h,hl,he=>by rw [x1f 1 b i (by omega),<-AH] at he;obtain ⟨n,hn⟩:=u6k ha hb va vb k (i+1) (E++Vw 1 [rd b i]) (by omega) (by grind [y3g]) he;refine ⟨n+1,?_⟩;rw [Zx];simp (disch:=omega) only [Vx,Ya,Zn,Yc,As,Ak,Zt,Zr,Yq,Zk,Zu,Zj,Ah,Ai,Ab,Aa];exact hn
theorem u6l (ha:a.length<=400) (hb:b.length<=400) (va:a.all C5=true) (vb:b.all C5=true): ∀(k i:Nat) (E:zo),i+k=a.length->E.length=2*i->E++Vw 0 (a.drop i)=Vw 0 a-> ∃n,Yx (Vx q a b) n (.to (.h0 E (i:Int)))=.ret (Qv (EH q.k a b))
 | 0,i,E,h,hl,he=>by
  rw [Av (by omega),show Vw 0 []=[] from rfl,AA] at he;subst he;obtain ⟨n,hn⟩:=u6k q a b ha hb va vb b.length 0 (Vw 0 a) (Ah _) (by omega) (by grind);refine ⟨n+1,?_⟩
  grind [Zx,Vx]
 | k+1,i,E,h,hl,he=>by rw [x1f 0 a i (by omega),<-AH] at he;obtain ⟨n,hn⟩:=u6l ha hb va vb k (i+1) (E++Vw 0 [rd a i]) (by omega) (by grind [y3g]) he;refine ⟨n+1,?_⟩;rw [Zx];simp (disch:=omega) only [Vx,Ya,Zn,Yc,As,Ak,Zt,Zr,Yq,Zk,Zu,Zj,Ah,Ai,Ab,Aa];exact hn
theorem j1w : ∃n,Yx (Vx q a b) n (YQ q a b)=.ret (DU (H9 q.k a b) (EH q.k a b)):=by
 unfold YQ;have o: ∀l,Sf l=true:=fun _=>rfl;simp only [Za,o,Ab];rcases Xz (Dj a != 0) with q1 | q1
 .exact ⟨0,by simp only [H9,q1,Ab,Kd _ q1];rfl⟩
 rcases Xz (Dj b != 0) with q2 | q2
 .exact ⟨0,by simp only [H9,q1,q2,Ab,Aa,Kd _ q2];rfl⟩
 obtain ⟨a1,a2,_⟩:=(x1w a).1 (by grind);obtain ⟨b1,b2,_⟩:=(x1w b).1 (by grind);obtain ⟨n,hn⟩:=u6l q a b a1 b1 a2 b2 a.length 0 [] (Ah _) rfl (by grind)
 grind [H9,Y0]
end
def EL (q:Op) (a b:zq):zq:=Dn (H9 q.k a b) (EH q.k a b)
def SB (q:Op) (a b:zq):Int:=H9 q.k a b
def x1x (q:Op) (a b:zq):Bool:=true
def fSp (q:Op):zy->Option (B9×Bool)
 | [a1,a2]=>match CY R2 a1,CY R2 a2 with
  | some (L1,g1,n1),some (L2,g2,n2)=>some (.tup [.dat (EL q L1 L2).length (Zz (EL q L1 L2)),.int .i64 (SB q L1 L2)],CX R2 n1 g1&&(CX R2 n2 g2&&x1x q L1 L2))
  | _,_=>none
 | _=>none
theorem Pm (q:Op) {S:CB} (hS:Zw prog S):Zw prog (S.with (nSp q) (fSp q)):=by
 refine E4 hS (by cases q <;> kernel_rfl) fun args v h=> ?_;unfold fSp at h;split at h
 .rename_i a1 a2;split at h
  .rename_i L1 g1 n1 L2 g2 n2 e1 e2;simp only [Ad,Ae,Ac] at h;obtain ⟨rfl,ho1,ho2,_⟩:=h;obtain ⟨N,hN⟩:=j1w q L1 L2;exact ⟨_,_,(.cons (Yi e1 ho1) (.cons (Yi e2 ho2) .nil)),NO _ _,v9i q L1 L2 N _ hN,3,Mv _ _⟩
  .cases h
 .cases h
def Ub :CB:=Ua.with (nSp .u) (fSp .u)
theorem GH :Zw prog Ub:=Pm .u Dh
inductive IE where
 | h0 (v8:Int)
def O6 (l0:zw):IE->CI
 | .h0 v8=>⟨⟨19,0,true⟩,none,(Zq prog 180 (pn 37) 0),none,(Zy prog 4),⟨Zs [(0,(dt l0)),(1,(.fn 170 [])),(7,(ii (l0.length:Int))),(8,(ii v8))],Xe [] 0,0,[],true⟩,[⟨⟨9,0,true⟩,(Wr prog 169 [1,0] 2),(Zq prog 169 [1,0] 1),none,(Zy prog 4),Zs [(5,(dt l0)),(6,(.fn 170 []))]⟩,⟨⟨23,0,true⟩,(Wr prog 146 (pn 19) 1),(Zq prog 146 (pn 19) 1),none,(Zy prog 5),Zs [(0,(dt l0)),(8,(dt l0))]⟩],.leaf⟩
def Ln :List (Option zr):=[some [0,1,7,8],some [5,6],some [0,8]]
def Lo :List (Option zr):=[]
def HB (l0:zw):IE->Yr IE
 | .h0 v8=>let e:=CA (Vz (CA l0));let f:=rd l0 v8.toNat;(bif (decide (v8<(l0.length:Int))) then (bif ((decide (0<=v8/\v8<(l0.length:Int)))&&true) then (bif (!(PT f.a f.b f.c f.d)) then (bif (decide (v8>=0)) then (.ret [(.int .i64 8)]) else (bif (JF (CA l0)) then (bif ((Fk (CA l0)) != 0) then (.ret [(.int .i64 8)]) else (bif (Wa e (CA l0)) then (bif (!(Vs e (CA l0))) then (.ret [(.int .i64 8)]) else (.ret [(.int .i64 0)])) else .stuck)) else .stuck)) else (.to (.h0 (wrap .i64 (v8+1))))) else .stuck) else (bif (JF (CA l0)) then (bif ((Fk (CA l0)) != 0) then (.ret [(.int .i64 8)]) else (bif (Wa e (CA l0)) then (bif (!(Vs e (CA l0))) then (.ret [(.int .i64 8)]) else (.ret [(.int .i64 0)])) else .stuck)) else .stuck))
def SR (l0:zw):Yr IE:=(bif (decide ((l0.length:Int)>400)) then (.ret [(.int .i64 4)]) else (.to (.h0 0)))
theorem w9r (l0:zw): ∀s,Xx prog (Zy prog 146) (O6 l0) (O6 l0 s) (HB l0 s)
 | .h0 v8=>let f:=Vz (CA l0);(lb (fun k0=>(lo fun aL=>let c:=ww aL (tt k0 nn);(lb (fun k1=>(lb (fun k2=>(lr 23 146 (pn 75) 1 5 [(2,(ii 8))] (sl GH 53 [] (a7 [2]) a6 (CK 3 []) (tt k2 (tt k1 c))))) (fun k2=>(lo fun bS=>let a:=pp (pp (xr l0) (xw bS)) (tt k2 (tt k1 c));(lb (fun k3=>(lr 23 146 (pn 311) 1 5 [(2,(ii 8))] (sl GH 77 [] (a7 [2]) a6 (bl 8 251) (tt k3 a)))) (fun k3=>(lo fun bT=>let d:=pp (xr l0) (xw bT);(lb (fun k4=>(lr 23 146 (pn 311) 1 5 [(2,(ii 8))] (sl GH 77 [] (a7 [2]) a6 (bl 8 131) (tt k4 (pp (pp (xI R4 f.length (Zz f)) d) (tt k3 a)))))) (fun k4=>(lr 23 3 (pn 767) 1 5 [(2,(ii 0))] (sl GH 78 [] (a7 [2]) a6 (bl 8 3) (tt k4 (pp (pp (xI R4 f.length (Zz f)) d) (tt k3 a)))))))))))))) (fun k1=>(sl GH 44 [] ⟨[],[],Ln,Lo⟩ a6 (bl 2 1) (tt k1 c)))))) (fun k0=>(lo fun aL=>let b:=pp (pp (xr l0) (xw aL)) (tt k0 nn);(lb (fun k1=>(lr 23 146 (pn 311) 1 5 [(2,(ii 8))] (sl GH 46 [] (a7 [2]) a6 (bl 7 124) (tt k1 b)))) (fun k1=>(lo fun bO=>let e:=pp (xr l0) (xw bO);(lb (fun k2=>(lr 23 146 (pn 311) 1 5 [(2,(ii 8))] (sl GH 46 [] (a7 [2]) a6 (bl 7 64) (tt k2 (pp (pp (xI R4 f.length (Zz f)) e) (tt k1 b)))))) (fun k2=>(lr 23 3 (pn 767) 1 5 [(2,(ii 0))] (sl GH 47 [] (a7 [2]) a6 (bl 7 0) (tt k2 (pp (pp (xI R4 f.length (Zz f)) e) (tt k1 b)))))))))))))
theorem w0l (l0:zw):Xx prog (Zy prog 146) (O6 l0) (Zp prog 146 [(dt l0)] true []) (SR l0):=(lb (fun k0=>(lr 23 146 (pn 37) 1 5 [(2,(ii 4))] (sl GH 16 [] (a7 [2]) a6 [true] (tt k0 nn)))) (fun k0=>(sl GH 40 [] ⟨[],[],Ln,Lo⟩ a6 [false] (tt k0 nn))))
theorem u2f (l0:zw) (n:Nat) (vs:zy) (h:Yx (HB l0) n (SR l0)=.ret vs):Vi prog (Zy prog 146) (Zp prog 146 [(dt l0)] true []) vs:=by have:=Zg (w9r l0) n _ (w0l l0);rwa [h] at this
def GX (l:zw):Int:=bif Fk l != 0 then 8 else bif Vs (Vz l) l then 0 else 8
def DO (l:zw):Int:=bif decide (400<l.length) then 4 else bif l.all Kc then GX l else 8
def Sa (l:zw):Bool:=true
theorem w1s (l:zw):(Vz l).length <=400:=by
 grind [Vz,PO,Dn,DX]
theorem u8s (l:zw) (hl:l.length<=400): ∀(k i:Nat),i+k=l.length->(∀s∈l.take i,Kc s=true)-> ∃n,Yx (HB l) n (.to (.h0 (i:Int)))=.ret (bif l.all Kc then [.int .i64 (GX l)] else [.int .i64 8])
 | 0,i,h,ht=>by
  have hv:l.all Kc=true:=Au.2 fun s hs=>ht s (by grind);have w:JF l=true:=Af hl;refine ⟨1,?_⟩;rw [Zx,hv,Ab];have w2:Wa (Vz l) l=true:=Af (by have:=w1s l;omega);unfold GX;rcases Xz (Fk l != 0) with q | q
  .grind [HB,Za,Zd]
  .rcases Xz (Vs (Vz l) l) with q2 | q2 <;>
   simp (disch:=omega) only [HB,Za,w,w2,q,q2,Ym,Aw,Az,Ab,Aa,Zd]
 | k+1,i,h,ht=>by
  have hi:i<l.length:=by omega
  have hs:HB l (.h0 (i:Int))=bif Kc (rd l i) then .to (.h0 ((i+1:Nat):Int)) else .ret [.int .i64 8]:=by have e:PT (rd l i).a (rd l i).b (rd l i).c (rd l i).d =Kc (rd l i):=rfl;simp (disch:=omega) only [HB,e,Re,TZ,ZP,Zr,Zk,Zu,Zj,Ai,Ab,Aa]
  rcases Xz (Kc (rd l i)) with q | q
  .obtain ⟨n,hn⟩:=u8s l hl k (i+1) (by omega) (fun s hs=>by
    rw [AX] at hs
    grind [Xm])
   refine ⟨n+1,?_⟩
   grind [Zx]
  .have hv:l.all Kc=false:=A5.2 fun e=>by
    grind [Xm]
   refine ⟨1,?_⟩
   grind [Zx,Zd]
theorem u2e (l:zw): ∃n,Yx (HB l) n (SR l)=.ret (bif decide (400<l.length) then [.int .i64 4] else bif l.all Kc then [.int .i64 (GX l)] else [.int .i64 8]):=by
 unfold SR;by_cases h:400<l.length
 .refine ⟨0,?_⟩;rw [Af h,Ys (show (l.length:Int)>400 by omega)];rfl
 .obtain ⟨n,hn⟩:=u8s l (by omega) l.length 0 (Ah _) (fun s hs=>by simp at hs)
  grind
theorem j4p (l:zw) (h:Sa l=true): ∃n,Yx (HB l) n (SR l)=.ret [.int .i64 (DO l)]:=by
 obtain ⟨n,hn⟩:=u2e l
 grind [DO]
def Pz :zy->Option (B9×Bool)
 | [a0]=>match CY R4 a0 with
  | some (L0,g0,n0)=>some (.int .i64 (DO L0),CX R4 n0 g0&&(Sa L0))
  | _=>none
 | _=>none
theorem j8e {S:CB} (hS:Zw prog S):Zw prog (S.with w5x Pz):=by
 refine Kv hS (by kernel_rfl) fun args v h=> ?_;unfold Pz at h;split at h
 .rename_i a0;split at h
  .rename_i L0 g0 n0 e0;simp only [Ad,Ae,Ac] at h;obtain ⟨rfl,ho0,hw⟩:=h;obtain ⟨N,hN⟩:=j4p L0 hw;exact ⟨_,_,(.cons (Yi e0 ho0) .nil),rfl,u2f L0 N _ hN,3,rfl⟩
  .cases h
 .cases h
def Uc :CB:=(Ub.with w5x Pz)
theorem Qy :Zw prog Uc:=(j8e GH)
inductive ID where
 | h0 (v16:Int) (aB:zp)
 | h1 (v16:Int) (aB:zp)
 | h2 (v4:Int) (aH:zw) (aS:zq) (aZ:Int) (bA:Int) (aG:Nat) (aM:zp)
 | h3 (v4:Int) (v38:Int) (aH:zw) (aS:zq) (aZ:Int) (bA:Int) (aG:Nat) (aM:zp) (aR:Int) (aY:Int) (aA:zq)
 | h4 (v4:Int) (v38:Int) (aH:zw) (aS:zq) (aZ:Int) (bA:Int) (aG:Nat) (aM:zp) (aR:Int) (aY:Int) (aA:zq) (aK:zq)
 | h5 (v1:Int) (v2:Int) (v71:zq) (v72:Int) (v73:Int) (aV:Int) (aC:zw) (bE:Int) (aG:Nat) (aM:zp) (aR:zq) (aY:zq)
 | h6 (v2:Int) (v8:Int) (cL:Int) (cM:zq) (aV:Int) (aC:zw) (bF:zq) (bE:Int) (bP:Int) (bI:Nat) (bM:zp) (aA:zq) (aK:zq)
def GW (q:Op) (l0:zw) (l1:zw):ID->CI
 | .h0 v16 aB=>⟨⟨34,0,true⟩,none,(Zq prog 126 (pn 19659) 0),none,(Zy prog 5),⟨Zs [(1,(.ptr 0 0)),(3,(.ptr 2 0)),(8,(.sl 1 0 2 (.un 1))),(9,(ii 2)),(10,(ii 0)),(14,(dt l0)),(15,(ii (l0.length:Int))),(16,(ii v16))],Xe [⟨[(.sl 1 0 2 (.un 1))],209,none⟩,⟨[(dt l0),(dt l1)],139,none⟩,⟨[(.sla 7 1 0 aB.length (.un 1))],93,none⟩,⟨[(.fn 96 [])],158,none⟩,⟨[.nils],139,none⟩,⟨[(ii 0)],24,none⟩,⟨[.nils,.nils,(ii 0),(ii 0)],184,none⟩,(rz aB 3 1)] 0,8,[],true⟩,[⟨⟨49,0,true⟩,(Wr prog 95 (pn 39) 3),(Zq prog 95 (pn 39) 1),none,(Zy prog 95),Zs [(5,(.ptr 3 0)),(6,(.ptr 4 0)),(7,(.ptr 5 0)),(9,(.ptr 6 0)),(21,(.sl 1 0 2 (.un 1)))]⟩,⟨⟨11,0,true⟩,(Wr prog 66 [1,0] 2),(Zq prog 66 [1,0] 1),none,(Zy prog 6),Zs [(6,(dt l0)),(7,(dt l1))]⟩],.leaf⟩
 | .h1 v16 aB=>⟨⟨34,0,true⟩,none,(Zq prog 126 (pn 19659) 0),none,(Zy prog 5),⟨Zs [(1,(.ptr 0 0)),(3,(.ptr 2 0)),(8,(.sl 1 0 2 (.un 1))),(9,(ii 2)),(10,(ii 1)),(14,(dt l1)),(15,(ii (l1.length:Int))),(16,(ii v16))],Xe [⟨[(.sl 1 0 2 (.un 1))],209,none⟩,⟨[(dt l0),(dt l1)],139,none⟩,⟨[(.sla 7 1 0 aB.length (.un 1))],93,none⟩,⟨[(.fn 96 [])],158,none⟩,⟨[.nils],139,none⟩,⟨[(ii 0)],24,none⟩,⟨[.nils,.nils,(ii 0),(ii 0)],184,none⟩,(rz aB 3 1)] 0,8,[],true⟩,[⟨⟨49,0,true⟩,(Wr prog 95 (pn 39) 3),(Zq prog 95 (pn 39) 1),none,(Zy prog 95),Zs [(5,(.ptr 3 0)),(6,(.ptr 4 0)),(7,(.ptr 5 0)),(9,(.ptr 6 0)),(21,(.sl 1 0 2 (.un 1)))]⟩,⟨⟨11,0,true⟩,(Wr prog 66 [1,0] 2),(Zq prog 66 [1,0] 1),none,(Zy prog 6),Zs [(6,(dt l0)),(7,(dt l1))]⟩],.leaf⟩
 | .h2 v4 aH aS aZ bA aG aM=>⟨⟨76,0,true⟩,none,(Zq prog 147 [1,0,0] 0),none,[],⟨Zs [(0,(.yld 0)),(1,(.ptr 5 0)),(2,(.ptr 7 0)),(4,(ii v4))],Cj [(1,⟨[(.fn 96 [])],158,none⟩),(2,⟨[.nils],139,none⟩),(3,⟨[(ii 0)],24,none⟩),(4,⟨[(.sla 9 4 0 aH.length (.un 4)),(dt aS),(ii aZ),(ii bA)],184,none⟩),(5,⟨[(.sla 6 1 0 aG (.un 1))],93,none⟩),(6,(rz aM 3 1)),(7,⟨[(.sl 8 0 2 (.un 1))],209,none⟩),(8,⟨[(dt l0),(dt l1)],139,none⟩),(9,(rz aH 155 4))],10,[],true⟩,[⟨⟨49,0,true⟩,none,(.inRangeFunc 0::(Zq prog 95 (pn 87) 1)),none,(Zy prog 95),Zs [(6,(.ptr 2 0)),(7,(.ptr 3 0)),(9,(.ptr 4 0))]⟩,⟨⟨11,0,true⟩,(Wr prog 66 [1,0] 2),(Zq prog 66 [1,0] 1),none,(Zy prog 6),Zs [(6,(dt l0)),(7,(dt l1))]⟩],(Co [(0,⟨.ready,none,49,Zs [(5,(.ptr 1 0)),(6,(.ptr 2 0)),(7,(.ptr 3 0)),(9,(.ptr 4 0))],[23],(Wx prog 95 [1,1,1,0,1,0,0]),(Wx prog 95 [1,1,1,0,1,0,1])⟩)])⟩
 | .h3 v4 v38 aH aS aZ bA aG aM aR aY aA=>⟨⟨76,0,true⟩,none,(Zq prog 147 (pn 629065) 0),none,[],⟨Zs [(0,(.yld 0)),(1,(.ptr 5 0)),(2,(.ptr 7 0)),(4,(ii v4)),(5,(.ptr 9 0)),(6,(ii 0)),(29,(.sl 8 0 2 (.un 1))),(30,(ii 2)),(31,(ii 0)),(36,(dt l0)),(37,(ii (l0.length:Int))),(38,(ii v38))],Cj [(1,⟨[(.fn 96 [])],158,none⟩),(2,⟨[.nils],139,none⟩),(3,⟨[(ii 0)],24,none⟩),(4,⟨[(.sla 12 4 0 aH.length (.un 4)),(dt aS),(ii aZ),(ii bA)],184,none⟩),(5,⟨[(.sla 6 1 0 aG (.un 1))],93,none⟩),(6,(rz aM 3 1)),(7,⟨[(.sl 8 0 2 (.un 1))],209,none⟩),(8,⟨[(dt l0),(dt l1)],139,none⟩),(9,⟨[(ii aR),(ii aY),(.sl 10 0 2 (.ex 2))],189,none⟩),(10,⟨[(.sla 11 2 0 aA.length (.un 2)),.nils],173,none⟩),(11,(rz aA 180 2)),(12,(rz aH 155 4))],13,[],true⟩,[⟨⟨49,0,true⟩,none,(.inRangeFunc 0::(Zq prog 95 (pn 87) 1)),none,(Zy prog 95),Zs [(6,(.ptr 2 0)),(7,(.ptr 3 0)),(9,(.ptr 4 0))]⟩,⟨⟨11,0,true⟩,(Wr prog 66 [1,0] 2),(Zq prog 66 [1,0] 1),none,(Zy prog 6),Zs [(6,(dt l0)),(7,(dt l1))]⟩],(Co [(0,⟨.ready,none,49,Zs [(5,(.ptr 1 0)),(6,(.ptr 2 0)),(7,(.ptr 3 0)),(9,(.ptr 4 0))],[23],(Wx prog 95 [1,1,1,0,1,0,0]),(Wx prog 95 [1,1,1,0,1,0,1])⟩)])⟩
 | .h4 v4 v38 aH aS aZ bA aG aM aR aY aA aK=>⟨⟨76,0,true⟩,none,(Zq prog 147 (pn 629065) 0),none,[],⟨Zs [(0,(.yld 0)),(1,(.ptr 5 0)),(2,(.ptr 7 0)),(4,(ii v4)),(5,(.ptr 9 0)),(6,(ii 1)),(29,(.sl 8 0 2 (.un 1))),(30,(ii 2)),(31,(ii 1)),(36,(dt l1)),(37,(ii (l1.length:Int))),(38,(ii v38))],Cj [(1,⟨[(.fn 96 [])],158,none⟩),(2,⟨[.nils],139,none⟩),(3,⟨[(ii 0)],24,none⟩),(4,⟨[(.sla 13 4 0 aH.length (.un 4)),(dt aS),(ii aZ),(ii bA)],184,none⟩),(5,⟨[(.sla 6 1 0 aG (.un 1))],93,none⟩),(6,(rz aM 3 1)),(7,⟨[(.sl 8 0 2 (.un 1))],209,none⟩),(8,⟨[(dt l0),(dt l1)],139,none⟩),(9,⟨[(ii aR),(ii aY),(.sl 10 0 2 (.ex 2))],189,none⟩),(10,⟨[(.sla 11 2 0 aA.length (.un 2)),(.sla 12 2 0 aK.length (.un 2))],173,none⟩),(11,(rz aA 180 2)),(12,(rz aK 180 2)),(13,(rz aH 155 4))],14,[],true⟩,[⟨⟨49,0,true⟩,none,(.inRangeFunc 0::(Zq prog 95 (pn 87) 1)),none,(Zy prog 95),Zs [(6,(.ptr 2 0)),(7,(.ptr 3 0)),(9,(.ptr 4 0))]⟩,⟨⟨11,0,true⟩,(Wr prog 66 [1,0] 2),(Zq prog 66 [1,0] 1),none,(Zy prog 6),Zs [(6,(dt l0)),(7,(dt l1))]⟩],(Co [(0,⟨.ready,none,49,Zs [(5,(.ptr 1 0)),(6,(.ptr 2 0)),(7,(.ptr 3 0)),(9,(.ptr 4 0))],[23],(Wx prog 95 [1,1,1,0,1,0,0]),(Wx prog 95 [1,1,1,0,1,0,1])⟩)])⟩
 | .h5 v1 v2 v71 v72 v73 aV aC bE aG aM aR aY=>⟨⟨94,0,true⟩,none,(Zq prog 127 (pn 39) 0),none,[],⟨Zs [(0,(.ptr 0 0)),(1,(ii v1)),(2,(ii v2)),(71,(dt v71)),(72,(ii v72)),(73,(ii v73))],Cj [(0,⟨[(.sla 10 4 0 aC.length (.un 4)),(dt v71),(ii bE),(ii v2)],184,none⟩),(2,⟨[(.fn 96 [])],158,none⟩),(3,⟨[.nils],139,none⟩),(4,⟨[(ii 0)],24,none⟩),(5,⟨[(.sla 6 1 0 aG (.un 1))],93,none⟩),(6,(rz aM 3 1)),(7,⟨[(.sl 8 0 2 (.un 1))],209,none⟩),(8,⟨[(dt l0),(dt l1)],139,none⟩),(9,⟨[(dt aR),(dt aY)],173,none⟩),(10,(rz aC 155 4))],11,[],true⟩,[⟨⟨49,0,true⟩,(Wr prog 95 (pn 1879) 5),(Zq prog 95 (pn 1879) 1),(some 1),[],Zs [(9,(.ptr 0 0)),(41,(ii v1)),(43,(ii v2)),(44,(dt v71))]⟩,⟨⟨76,0,true⟩,(Wr prog 147 (pn 713) 2),(Zq prog 147 (pn 713) 1),none,[],Zs [(0,(.yld 1)),(1,(.ptr 5 0)),(2,(.ptr 7 0)),(4,(ii aV)),(72,(.yld 1)),(73,(.agg [(ii v1),(ii v2),(.sl 9 0 2 (.ex 2))]))]⟩,⟨⟨49,0,true⟩,none,(.inRangeFunc 1::(Zq prog 95 (pn 87) 1)),none,(Zy prog 95),Zs [(6,(.ptr 3 0)),(7,(.ptr 4 0)),(9,(.ptr 0 0))]⟩,⟨⟨11,0,true⟩,(Wr prog 66 [1,0] 2),(Zq prog 66 [1,0] 1),none,(Zy prog 6),Zs [(6,(dt l0)),(7,(dt l1))]⟩],(Co [(1,⟨.busy,none,49,Zs [(5,(.ptr 2 0)),(6,(.ptr 3 0)),(7,(.ptr 4 0)),(9,(.ptr 0 0))],[23],(Wx prog 95 [1,1,1,0,1,0,0]),(Wx prog 95 [1,1,1,0,1,0,1])⟩)])⟩
 | .h6 v2 v8 cL cM aV aC bF bE bP bI bM aA aK=>⟨⟨94,0,true⟩,none,(Zq prog 127 (pn 146) 0),none,[],⟨Zs [(0,(.ptr 0 0)),(2,(ii v2)),(8,(ii v8))],Cj [(0,⟨[(.sla 1 4 0 aC.length (.un 4)),(dt bF),(ii bE),(ii bP)],184,none⟩),(1,(rz aC 155 4)),(3,⟨[(.fn 96 [])],158,none⟩),(4,⟨[.nils],139,none⟩),(5,⟨[(ii 0)],24,none⟩),(6,⟨[(.sla 7 1 0 bI (.un 1))],93,none⟩),(7,(rz bM 3 1)),(8,⟨[(.sl 9 0 2 (.un 1))],209,none⟩),(9,⟨[(dt l0),(dt l1)],139,none⟩),(10,⟨[(dt aA),(dt aK)],173,none⟩)],11,[],true⟩,[⟨⟨49,0,true⟩,(Wr prog 95 (pn 1879) 5),(Zq prog 95 (pn 1879) 1),(some 2),[],Zs [(9,(.ptr 0 0)),(41,(ii cL)),(43,(ii v2)),(44,(dt cM))]⟩,⟨⟨76,0,true⟩,(Wr prog 147 (pn 713) 2),(Zq prog 147 (pn 713) 1),none,[],Zs [(0,(.yld 2)),(1,(.ptr 6 0)),(2,(.ptr 8 0)),(4,(ii aV)),(72,(.yld 2)),(73,(.agg [(ii cL),(ii v2),(.sl 10 0 2 (.ex 2))]))]⟩,⟨⟨49,0,true⟩,none,(.inRangeFunc 2::(Zq prog 95 (pn 87) 1)),none,(Zy prog 95),Zs [(6,(.ptr 4 0)),(7,(.ptr 5 0)),(9,(.ptr 0 0))]⟩,⟨⟨11,0,true⟩,(Wr prog 66 [1,0] 2),(Zq prog 66 [1,0] 1),none,(Zy prog 6),Zs [(6,(dt l0)),(7,(dt l1))]⟩],(Co [(2,⟨.busy,none,49,Zs [(5,(.ptr 3 0)),(6,(.ptr 4 0)),(7,(.ptr 5 0)),(9,(.ptr 0 0))],[23],(Wx prog 95 [1,1,1,0,1,0,0]),(Wx prog 95 [1,1,1,0,1,0,1])⟩)])⟩
def Lj :List (Option zr):=[some [1,3,8,9,10,14,15,16],some [5,6,7,9,21],some [6,7]]
def Lm :List (Option zr):=[]
def Li :List (Option zr):=[some [1,3,8,9,10,14,15,16],some [5,6,7,9,21],some [6,7]]
def Ll :List (Option zr):=[]
def j4n :List (Option zr):=[some [0,1,2,4],some [6,7,9],some [6,7]]
def j4o :List (Option zr):=[some [5,6,7,9],none,none,none,none,none,none,none,none,none]
def u2a :List (Option zr):=[some [0,1,2,4,5,6,29,30,31,36,37,38],some [6,7,9],some [6,7]]
def u2d :List (Option zr):=[some [5,6,7,9],none,none,none,none,none,none,none,none,none,none,none,none]
def u1z :List (Option zr):=[some [0,1,2,4,5,6,29,30,31,36,37,38],some [6,7,9],some [6,7]]
def u2c :List (Option zr):=[some [5,6,7,9],none,none,none,none,none,none,none,none,none,none,none,none,none]
def u1y :List (Option zr):=[some [0,1,2,71,72,73],some [9,41,43,44],some [0,1,2,4,72,73],some [6,7,9],some [6,7]]
def u2b :List (Option zr):=[none,some [5,6,7,9],none,none,none,none,none,none,none,none,none]
def Lh :List (Option zr):=[some [0,2,8],some [9,41,43,44],some [0,1,2,4,72,73],some [6,7,9],some [6,7]]
def Lk :List (Option zr):=[none,none,some [5,6,7,9],none,none,none,none,none,none,none,none]
def Xu (q:Op) (l0:zw) (l1:zw):ID->Yr ID
 | .h0 v16 aB=>let b:=rd l0 v16.toNat;(bif (decide (v16<(l0.length:Int))) then (bif ((decide (0<=v16/\v16<(l0.length:Int)))&&true) then (bif (Nat.beq 1 1&&((decide (0+aB.length=aB.length))&&decide ((aB.length+2+1)*(8+1)<=Jm))) then (.to (.h0 (wrap .i64 (v16+1)) (aB++[b.a,b.c]))) else .stuck) else .stuck) else (.to (.h1 0 aB)))
 | .h1 v16 aB=>let b:=Yy aB.length (CS (Zz (Wz (Yy aB.length (CS (Zz aB))))));let d:=rd l1 v16.toNat;(bif (decide (v16<(l1.length:Int))) then (bif ((decide (0<=v16/\v16<(l1.length:Int)))&&true) then (bif (Nat.beq 1 1&&((decide (0+aB.length=aB.length))&&decide ((aB.length+2+1)*(8+1)<=Jm))) then (.to (.h1 (wrap .i64 (v16+1)) (aB++[d.a,d.c]))) else .stuck) else .stuck) else (bif (decide (aB.length<4611686018427387904)) then (bif (decide (aB.length=aB.length)) then (.to (.h2 1 ([]:zw) ([]:zq) 0 0 (MQ b) (Wf b))) else .stuck) else .stuck))
 | .h2 v4 aH aS aZ bA aG aM=>(bif (decide (v4<((aG:Nat):Int))) then (bif ((decide (0<=(wrap .i64 (v4 - 1))/\(wrap .i64 (v4 - 1))<((aG:Nat):Int)))&&true) then (bif (decide ((0+(Int.toNat (wrap .i64 (v4 - 1))))<aM.length)) then (bif ((decide (0<=v4/\v4<((aG:Nat):Int)))&&true) then (bif (decide ((0+v4.toNat)<aM.length)) then (.to (.h3 v4 0 aH aS aZ bA aG aM (rd aM (0+(Int.toNat (wrap .i64 (v4 - 1))))) (rd aM (0+v4.toNat)) ([]:zq))) else .stuck) else .stuck) else .stuck) else .stuck) else (bif (decide ((aH.length:Int)>400)) then (.ret [.nils,(.int .i64 4)]) else (.ret [(dt aH),(.int .i64 0)])))
 | .h3 v4 v38 aH aS aZ bA aG aM aR aY aA=>let e:=rd l0 v38.toNat;(bif (decide (v38<(l0.length:Int))) then (bif ((decide (0<=v38/\v38<(l0.length:Int)))&&true) then (bif (decide (e.a <=aR)) then (bif (decide (aR<e.c)) then (bif (Nat.beq 2 2&&((decide (0+aA.length=aA.length))&&decide ((aA.length+1+1)*(16+1)<=Jm))) then (.to (.h3 v4 (wrap .i64 (v38+1)) aH aS aZ bA aG aM aR aY (aA++[(R2.mk e.b e.d)]))) else .stuck) else (.to (.h3 v4 (wrap .i64 (v38+1)) aH aS aZ bA aG aM aR aY aA))) else (.to (.h3 v4 (wrap .i64 (v38+1)) aH aS aZ bA aG aM aR aY aA))) else .stuck) else (.to (.h4 v4 0 aH aS aZ bA aG aM aR aY aA ([]:zq))))
 | .h4 v4 v38 aH aS aZ bA aG aM aR aY aA aK=>let e:=rd l1 v38.toNat;let f:=CA ((EL q) (CA aA) (CA aK));(bif (decide (v38<(l1.length:Int))) then (bif ((decide (0<=v38/\v38<(l1.length:Int)))&&true) then (bif (decide (e.a <=aR)) then (bif (decide (aR<e.c)) then (bif (Nat.beq 2 2&&((decide (0+aK.length=aK.length))&&decide ((aK.length+1+1)*(16+1)<=Jm))) then (.to (.h4 v4 (wrap .i64 (v38+1)) aH aS aZ bA aG aM aR aY aA (aK++[(R2.mk e.b e.d)]))) else .stuck) else (.to (.h4 v4 (wrap .i64 (v38+1)) aH aS aZ bA aG aM aR aY aA aK))) else (.to (.h4 v4 (wrap .i64 (v38+1)) aH aS aZ bA aG aM aR aY aA aK))) else .stuck) else (bif ((x1x q) (CA aA) (CA aK)) then (bif (((SB q) (CA aA) (CA aK)) != 0) then (.ret [.nils,(.int .i64 ((SB q) (CA aA) (CA aK)))]) else (bif (decide (((((EL q) (CA aA) (CA aK)).length :Nat):Int)>0)) then (bif (bA == aR) then (bif (Uj (CA aS) f) then (bif (Qt (CA aS) f) then (.to (.h6 aY aZ aR ((EL q) (CA aA) (CA aK)) v4 aH aS aZ bA aG aM aA aK)) else (.to (.h5 aR aY ((EL q) (CA aA) (CA aK)) ((((EL q) (CA aA) (CA aK)).length :Nat):Int) 0 v4 aH (aH.length:Int) aG aM aA aK))) else .stuck) else (.to (.h5 aR aY ((EL q) (CA aA) (CA aK)) ((((EL q) (CA aA) (CA aK)).length :Nat):Int) 0 v4 aH (aH.length:Int) aG aM aA aK))) else (.to (.h5 aR aY ((EL q) (CA aA) (CA aK)) ((((EL q) (CA aA) (CA aK)).length :Nat):Int) 0 v4 aH (aH.length:Int) aG aM aA aK)))) else .stuck))
 | .h5 v1 v2 v71 v72 v73 aV aC bE aG aM aR aY=>let c:=rd v71 v73.toNat;(bif (decide (v73<v72)) then (bif ((decide (0<=v73/\v73<(v71.length:Int)))&&true) then (bif (Nat.beq 4 4&&((decide (0+aC.length=aC.length))&&decide ((aC.length+1+1)*(32+1)<=Jm))) then (.to (.h5 v1 v2 v71 v72 (wrap .i64 (v73+1)) aV (aC++[(R4.mk v1 c.a v2 c.b)]) bE aG aM aR aY)) else .stuck) else .stuck) else (.to (.h2 (wrap .i64 (aV+1)) aC v71 bE v2 aG aM)))
 | .h6 v2 v8 cL cM aV aC bF bE bP bI bM aA aK=>let c:=rd aC (0+v8.toNat);(bif (decide (v8<(aC.length:Int))) then (bif ((decide (0<=v8/\v8<(aC.length:Int)))&&true) then (bif (decide ((0+v8.toNat)<aC.length)) then (.to (.h6 v2 (wrap .i64 (v8+1)) cL cM aV (aC.set (0+v8.toNat) (R4.mk c.a c.b v2 c.d)) bF bE bP bI bM aA aK)) else .stuck) else .stuck) else (.to (.h2 (wrap .i64 (aV+1)) aC bF bE v2 bI bM)))
def X5 (q:Op) (l0:zw) (l1:zw):Yr ID:=(bif (Sa (CA l0)) then (bif ((DO (CA l0)) != 0) then (.ret [.nils,(.int .i64 (DO (CA l0)))]) else (bif (Sa (CA l1)) then (bif ((DO (CA l1)) != 0) then (.ret [.nils,(.int .i64 (DO (CA l1)))]) else (.to (.h0 0 ([]:zp)))) else .stuck)) else .stuck)
theorem w9q (q:Op) (l0:zw) (l1:zw): ∀s,Xx prog (Zy prog 66) (GW q l0 l1) (GW q l0 l1 s) (Xu q l0 l1 s):=by cases q <;> refine (?f: ∀q:Op,∀s,Xx prog (Zy prog 66) (GW q l0 l1) (GW q l0 l1 s) (Xu q l0 l1 s)) _ <;> exact fun q=>fun
 | .h0 v16 aB=>(lb (fun k0=>(lo fun o0=>(lo fun o1=>let f:=rd l0 (tn v16);let e:=f;let b:=aB++[e.a,e.c];let h:=aB++[f.a,f.c];let i:=aB.length+2;let d:=xL i h.length;let g:=Zf (Zz aB) 0 aB.length 1 [(ii f.a),(ii f.c)];(sl Qy 32 [] ⟨[0,1,2,3,4,5,6,10],[],Lj,Lm⟩ ⟨[],[.keep,.keep,.cells [.len b.length],.keep,.keep,.keep,.keep,.rowed 1 b.length (Zz b)],[]⟩ [true] (pp d (pp d (pp (xS i g (Zz h)) (pp (pp (xF g) nn) (ww o1 (ww o0 (tt k0 nn))))))))))) (fun k0=>(sl Qy 36 [] ⟨(List.range 8),[],Li,Ll⟩ a6 (bl 2 2) (pp (fl aB nn) (tt k0 nn)))))
 | .h1 v16 aB=>(lb (fun k0=>(lo fun o0=>(lo fun o1=>let j:=rd l1 (tn v16);let d:=aB++[j.a,j.c];let e:=xL (aB.length+2) (aB++[(rd l1 (tn v16)).a,(rd l1 (tn v16)).c]).length;(sl Qy 32 [] ⟨[0,1,2,3,4,5,6,10],[],Li,Ll⟩ ⟨[],[.keep,.keep,.cells [.len d.length],.keep,.keep,.keep,.keep,.rowed 1 d.length (Zz d)],[]⟩ [true] (pp e (pp e (pp (xS (aB.length+2) (Zf (Zz aB) 0 aB.length 1 [(ii (rd l1 (tn v16)).a),(ii (rd l1 (tn v16)).c)]) (Zz (aB++[(rd l1 (tn v16)).a,(rd l1 (tn v16)).c]))) (pp (pp (xF (Zf (Zz aB) 0 aB.length 1 [(ii (rd l1 (tn v16)).a),(ii (rd l1 (tn v16)).c)])) nn) (ww o1 (ww o0 (tt k0 nn))))))))))) (fun k0=>(lo fun o0=>(lo fun o1=>let b:=Wf (Yy aB.length (CS (Zz (Wz (Yy aB.length (CS (Zz aB)))))));let f:=xG (Nat.beq 1 1);let g:=xG (decide (aB.length<4611686018427387904));let h:=xG (decide (aB.length=aB.length));let i:=xG (Nat.beq 0 0);(sl Qy 46 [(155,4,Zz ([]:zw))] ⟨[8,3,4,5,6,2,7,0,1,9],[],j4n,j4o⟩ ⟨[],(DG 4 [.cells [.grow 9 4,.list 0 (Zz ([]:zq)),.keep,.keep],.keep,.rowed 1 b.length (Zz b),.keep,.keep,.keep]),[]⟩ (bl 2 0) (pp (xL aB.length (Wf (Yy aB.length (CS (Zz (Wz (Yy aB.length (CS (Zz aB)))))))).length (by first | exact S8 _ _ | exact Us rfl)) (pp (xS aB.length (Zz (Wf (Yy aB.length (CS (Zz (Wz (Yy aB.length (CS (Zz aB))))))))) (Zz (Wf (Yy aB.length (CS (Zz (Wz (Yy aB.length (CS (Zz aB)))))))))) (pp (fl b (fl ([]:zw) nn)) (pp (pp f (pp f (pp i (pp h (pp (xG (FB (Zz (Wz (Yy aB.length (CS (Zz aB))))))) g))))) (pp (pp f (pp f (pp i (pp h (pp (xG (FB (Zz aB))) g))))) (tt k0 nn)))))))))))
 | .h2 v4 aH aS aZ bA aG aM=>(lb (fun k0=>(lo fun o0=>(lo fun o1=>(lo fun o2=>(lo fun o3=>(sl Qy 48 [(180,2,Zz ([]:zq))] ⟨[0,1,2,3,4,5,6,7,8,10,11,12,9],[],u2a,u2d⟩ ⟨[],(DG 10 [.cells [.grow 11 2,.keep],.keep,.keep]),[]⟩ (CK 3 []) (pp (fl aM (fl ([]:zq) (fl aH nn))) (ww o3 (ww o2 (ww o1 (ww o0 (tt k0 nn)))))))))))) (fun k0=>(lb (fun k1=>(lr 11 3 (pn 767) 1 6 [(4,.nils),(5,(ii 4))] (sl Qy 49 [] (a7 [4,5]) a6 (bl 2 2) (tt k1 (tt k0 nn))))) (fun k1=>(lr 11 3 (pn 767) 1 6 [(4,(dt aH)),(5,(ii 0))] (sl Qy 54 [] ⟨[],[9],[some [4,5]],[]⟩ ⟨[(4,.frz aH.length aH.length (Zz aH) (Zz aH))],[],[]⟩ (bl 2 0) (pp (xZ (Cv 4 4 0 aH.length aH.length (Zz aH)) aH.length (Zz aH)) (pp (xL aH.length aH.length) (pp (xS aH.length (Zz aH) (Zz aH)) (pp (fl aH nn) (tt k1 (tt k0 nn))))))))))))
 | .h3 v4 v38 aH aS aZ bA aG aM aR aY aA=>(lb (fun k0=>(lo fun aL=>let e:=ww aL (tt k0 nn);let f:=fl aM (fl aA (fl aH nn));let h:=List.range 13;(lb (fun k1=>(lb (fun k2=>(lo fun o0=>let i:=rd l0 (tn v38);let g:=i;let a:=aA++[(R2.mk g.b g.d)];let l:=aA++[(R2.mk i.b i.d)];let m:=aA.length+1;let c:=xL m l.length;let j:=Zf (Zz aA) 0 aA.length 2 [(ii i.b),(ii i.d)];(sl Qy 39 [] ⟨[0,1,2,3,4,5,6,7,8,9,10,15,12],[],u2a,u2d⟩ ⟨[],(DG 10 [.cells [.len a.length,.keep],.rowed 2 a.length (Zz a),.keep]),[]⟩ (CK 7 []) (pp c (pp c (pp (xS m j (Zz l)) (pp (fl aM (pp (xF j) (fl aH nn))) (ww o0 (tt k2 (tt k1 e)))))))))) (fun k2=>(sl Qy 39 [] ⟨h,[],u2a,u2d⟩ a6 (CK 6 [false]) (pp f (tt k2 (tt k1 e))))))) (fun k1=>(sl Qy 39 [] ⟨h,[],u2a,u2d⟩ a6 (bl 7 1) (pp f (tt k1 e))))))) (fun k0=>(sl Qy 38 [(180,2,Zz ([]:zq))] ⟨[0,1,2,3,4,5,6,7,8,9,10,11,13,12],[],u1z,u2c⟩ ⟨[],(DG 10 [.cells [.keep,.grow 12 2],.keep,.keep,.keep]),[]⟩ (bl 2 2) (pp (fl aM (fl aA (fl ([]:zq) (fl aH nn)))) (tt k0 nn)))))
 | .h4 v4 v38 aH aS aZ bA aG aM aR aY aA aK=>(lb (fun k0=>(lo fun aL=>let f:=ww aL (tt k0 nn);let g:=fl aM (fl aA (fl aK (fl aH nn)));let m:=List.range 14;(lb (fun k1=>(lb (fun k2=>(lo fun o0=>let n:=rd l1 (tn v38);let l:=n;let c:=aK++[(R2.mk l.b l.d)];let r:=aK++[(R2.mk n.b n.d)];let s:=aK.length+1;let e:=xL s r.length;let o:=Zf (Zz aK) 0 aK.length 2 [(ii n.b),(ii n.d)];(sl Qy 39 [] ⟨[0,1,2,3,4,5,6,7,8,9,10,11,16,13],[],u1z,u2c⟩ ⟨[],(DG 10 [.cells [.keep,.len c.length],.keep,.rowed 2 c.length (Zz c),.keep]),[]⟩ (CK 7 []) (pp e (pp e (pp (xS s o (Zz r)) (pp (fl aM (fl aA (pp (xF o) (fl aH nn)))) (ww o0 (tt k2 (tt k1 f)))))))))) (fun k2=>(sl Qy 39 [] ⟨m,[],u1z,u2c⟩ a6 (CK 6 [false]) (pp g (tt k2 (tt k1 f))))))) (fun k1=>(sl Qy 39 [] ⟨m,[],u1z,u2c⟩ a6 (bl 7 1) (pp g (tt k1 f))))))) (fun k0=>let j:=fl aH (fl aM nn);(Ve (sl Qy (C':=⟨⟨49,0,true⟩,none,(Zq prog 95 (pn 599) 0),(some 0),[],⟨Zs [(5,(.ptr 1 0)),(6,(.ptr 2 0)),(7,(.ptr 3 0)),(9,(.ptr 4 0)),(10,(.ptr 6 0))],Cj [(1,⟨[(.fn 96 [])],158,none⟩),(2,⟨[.nils],139,none⟩),(3,⟨[(ii 0)],24,none⟩),(4,⟨[(.sla 5 4 0 aH.length (.un 4)),(dt aS),(ii aZ),(ii bA)],184,none⟩),(5,(rz aH 155 4)),(6,⟨[(ii aR),(ii aY),(.sl 7 0 2 (.ex 2))],189,none⟩),(7,⟨[(dt aA),(dt aK)],173,none⟩),(8,⟨[(.sla 9 1 0 aG (.un 1))],93,none⟩),(9,(rz aM 3 1)),(10,⟨[(.sl 11 0 2 (.un 1))],209,none⟩),(11,⟨[(dt l0),(dt l1)],139,none⟩)],12,[],true⟩,[⟨⟨76,0,true⟩,(Wr prog 147 (pn 713) 2),(Zq prog 147 (pn 713) 1),none,[],Zs [(0,(.yld 0)),(1,(.ptr 8 0)),(2,(.ptr 10 0)),(4,(ii v4)),(72,(.yld 0)),(73,(.agg [(ii aR),(ii aY),(.sl 7 0 2 (.ex 2))]))]⟩,⟨⟨49,0,true⟩,none,(.inRangeFunc 0::(Zq prog 95 (pn 87) 1)),none,(Zy prog 95),Zs [(6,(.ptr 2 0)),(7,(.ptr 3 0)),(9,(.ptr 4 0))]⟩,⟨⟨11,0,true⟩,(Wr prog 66 [1,0] 2),(Zq prog 66 [1,0] 1),none,(Zy prog 6),Zs [(6,(dt l0)),(7,(dt l1))]⟩],(Co [(0,⟨.busy,none,49,Zs [(5,(.ptr 1 0)),(6,(.ptr 2 0)),(7,(.ptr 3 0)),(9,(.ptr 4 0))],[23],(Wx prog 95 [1,1,1,0,1,0,0]),(Wx prog 95 [1,1,1,0,1,0,1])⟩)])⟩) 32 [] ⟨[0,1,2,3,4,13,14,10,5,6,7,8],[11,12],[some [5,6,7,9,10],some [0,1,2,4,72,73],some [6,7,9],some [6,7]],[some [5,6,7,9],none,none,none,none,none,none,none,none,none,none,none]⟩ ⟨[],[.keep,.keep,.keep,.keep,.keep,.keep,.keep,.cells [.frz aA.length aA.length (Zz aA) (Zz aA),.frz aK.length aK.length (Zz aK) (Zz aK)],.keep,.keep,.keep,.keep],[]⟩ (bl 2 0) (pp (xZ (Cv 2 2 0 aA.length aA.length (Zz aA)) aA.length (Zz aA)) (pp (xL aA.length aA.length) (pp (xS aA.length (Zz aA) (Zz aA)) (pp (xZ (Cv 2 2 0 aK.length aK.length (Zz aK)) aK.length (Zz aK)) (pp (xL aK.length aK.length) (pp (xS aK.length (Zz aK) (Zz aK)) (pp j (pp (fl aA (fl aK nn)) (tt k0 nn)))))))))) (lo fun aL=>let a:=pp (pp (xr aA) (pp (xr aK) (xw aL))) nn;(lb (fun k1=>(lr 11 3 (pn 767) 1 6 [(4,.nils),(5,(ii ((SB q) (CA aA) (CA aK))))] (sl Qy 26 [] (a7 [4,5]) a6 (bl 2 3) (tt k1 a)))) (fun k1=>let h:=fl aM (fl aH nn);(lb (fun k2=>let i:=tt k2 (tt k1 a);(lb (fun k3=>(lo fun bT=>let p:=Zz ((EL q) (CA aA) (CA aK));(lb (fun k4=>(sl Qy 51 [] ⟨[4,5,0,1,2,3,8,9,10,11,7],[],Lh,Lk⟩ a6 (bl 14 16382) (pp j (tt k4 (pp (pp (xr aS) (pp (xI R2 ((EL q) (CA aA) (CA aK)).length p) (xw bT))) (tt k3 i)))))) (fun k4=>(sl Qy 71 [] ⟨[4,0,1,2,3,8,9,10,11,7,5],[],u1y,u2b⟩ a6 (bl 14 8190) (pp h (tt k4 (pp (pp (xr aS) (pp (xI R2 ((EL q) (CA aA) (CA aK)).length p) (xw bT))) (tt k3 i))))))))) (fun k3=>(sl Qy 71 [] ⟨[4,0,1,2,3,8,9,10,11,7,5],[],u1y,u2b⟩ a6 (bl 14 126) (pp h (tt k3 i)))))) (fun k2=>(sl Qy 71 [] ⟨[4,0,1,2,3,8,9,10,11,7,5],[],u1y,u2b⟩ a6 (bl 14 0) (pp h (tt k2 (tt k1 a))))))))))))
 | .h5 v1 v2 v71 v72 v73 aV aC bE aG aM aR aY=>(lb (fun k0=>(lo fun o0=>(lo fun o1=>let f:=rd v71 (tn v73);let e:=f;let c:=aC++[(R4.mk v1 e.a v2 e.b)];let h:=aC++[(R4.mk v1 f.a v2 f.b)];let i:=aC.length+1;let d:=xL i h.length;let g:=Zf (Zz aC) 0 aC.length 4 [(ii v1),(ii f.a),(ii v2),(ii f.b)];(sl Qy 23 [] ⟨[0,1,2,3,4,5,6,7,8,9,13],[],u1y,u2b⟩ ⟨[],[.cells [.len c.length,.keep,.keep,.keep],.keep,.keep,.keep,.keep,.keep,.keep,.keep,.keep,.keep,.rowed 4 c.length (Zz c)],[]⟩ [true] (pp d (pp d (pp (xS i g (Zz h)) (pp (fl aM (pp (xF g) nn)) (ww o1 (ww o0 (tt k0 nn))))))))))) (fun k0=>(sl Qy 22 [] ⟨[1,2,3,4,0,5,6,7,8,10],[],j4n,j4o⟩ a6 (bl 2 0) (pp (fl aM (fl aC nn)) (tt k0 nn)))))
 | .h6 v2 v8 cL cM aV aC bF bE bP bI bM aA aK=>(lb (fun k0=>(lo fun o0=>(lo fun o1=>let g:=rd aC (0+(tn v8));let f:=g;let c:=aC.set (0+(tn v8)) (R4.mk f.a f.b v2 f.d);let h:=aC.set (0+(tn v8)) (R4.mk g.a g.b v2 g.d);let e:=xL aC.length h.length;let i:=Xi (Zz aC) (0+(tn v8)) 2 [(ii v2)];(sl Qy 33 [] ⟨(List.range 11),[],Lh,Lk⟩ ⟨[],[.cells [.len c.length,.keep,.keep,.keep],.rowed 4 c.length (Zz c),.keep,.keep,.keep,.keep,.keep,.keep,.keep,.keep,.keep],[]⟩ [true] (pp e (pp e (pp (xS aC.length i (Zz h)) (pp (pp (xF i) (fl bM nn)) (ww o1 (ww o0 (tt k0 nn))))))))))) (fun k0=>(sl Qy 36 [] ⟨[2,3,4,5,0,6,7,8,9,1],[],j4n,j4o⟩ a6 (bl 2 0) (pp (fl bM (fl aC nn)) (tt k0 nn)))))
theorem w0k (q:Op) (l0:zw) (l1:zw):Xx prog (Zy prog 66) (GW q l0 l1) (Zp prog 66 [(dt l0),(dt l1)] true []) (X5 q l0 l1):=by cases q <;> exact (lo fun bG=>(lb (fun k0=>(lr 11 3 (pn 767) 1 6 [(4,.nils),(5,(ii (DO (CA l0))))] (sl Qy 65 [] (a7 [4,5]) a6 (bl 2 3) (tt k0 (tt k0 (pp (pp (xr l0) (xw bG)) nn)))))) (fun k0=>(lo fun aL=>(lb (fun k1=>(lr 11 3 (pn 767) 1 6 [(4,.nils),(5,(ii (DO (CA l1))))] (sl Qy 67 [] (a7 [4,5]) a6 (bl 2 2) (tt k1 (pp (pp (xr l1) (xw aL)) (tt k0 (pp (pp (xr l0) (xw bG)) nn))))))) (fun k1=>(sl Qy 108 [(3,1,Zz ([]:zp))] ⟨[5,4,6,0,1,2,3,7],[],Lj,Lm⟩ ⟨[],[.keep,.keep,.cells [.grow 7 1],.keep,.keep,.keep,.keep,.keep],[]⟩ (bl 3 4) (pp (fl ([]:zp) nn) (tt k1 (pp (pp (xr l1) (xw aL)) (tt k0 (pp (pp (xr l0) (xw bG)) nn))))))))))))
theorem u1x (q:Op) (l0:zw) (l1:zw) (n:Nat) (vs:zy) (h:Yx (Xu q l0 l1) n (X5 q l0 l1)=.ret vs):Vi prog (Zy prog 66) (Zp prog 66 [(dt l0),(dt l1)] true []) vs:=by have:=Zg (w9q q l0 l1) n _ (w0k q l0 l1);rwa [h] at this
def Ct (E:Int->Int) (cs:zp):Nat->Nat->Int
 | 0,_=>0
 | k+1,i=>bif E (rd cs i) != 0 then E (rd cs i) else Ct E cs k (i+1)
def eJ (e:Int) (n:Nat):Int:=bif e != 0 then e else DX n
theorem w5j {α:Type} [Xa α] (L:List α):DU (eJ 0 L.length) L=Qv L:=(Y0 L).symm
theorem TD {n:Nat} (h:DX n=0):n<=400:=by
 grind [DX]
theorem x6l {α:Type} {e:Int} (L:List α) (h:(e != 0)=false):Dn e L=L:=by unfold Dn;rw [h];rfl
def Cp (q:Op) (a b:zw) (x:Int):zq:=EH q.k (D4.inn a x) (D4.inn b x)
def DV (q:Op) (a b:zw) (x:Int):Int:=H9 q.k (D4.inn a x) (D4.inn b x)
theorem j4q (q:Op) (a b:zw) (x:Int) (h:(DV q a b x != 0)=false):(Cp q a b x).length <=1000:=by
 have h:DV q a b x=0:=by simpa using h
 unfold DV H9 at h;cases g1:(Dj (D4.inn a x) != 0) with
 | true=>grind
 | false=>
  cases g2:(Dj (D4.inn b x) != 0) with
  | true=>grind
  | false=>rw [g1,g2,Aa,Aa] at h;exact AG (TD h) (by omega)
section
variable (q:Op) (a b:zw) (ha:a.length<=400) (hb:b.length<=400)
include ha hb
theorem u8p (i:Nat) (out:zw) (last:zq) (first fin x x':Int): ∀(k j:Nat) (acc:zq),j+k=a.length->acc.length<=j->
  ∃n,∀N,Yx (Xu q a b) (N+n) (.to (.h3 (i:Int) (j:Int) out last first fin ((D4.cuts (a++b)).length) (Wf (Wz (D4.ends (a++b)))) x x' acc))=Yx (Xu q a b) N (.to (.h4 (i:Int) 0 out last first fin ((D4.cuts (a++b)).length) (Wf (Wz (D4.ends (a++b)))) x x' (acc++D4.inn (a.drop j) x) []))
 | 0,j,acc,h,h'=>by
  have _u:=ha;have _v:=hb;refine ⟨1,fun N=> ?_⟩;rw [Av (by omega),show D4.inn ([]:zw) x=[] from rfl,AA,Zx]
  grind [Xu]
 | k+1,j,acc,h,h'=>by
  have hj:j<a.length:=by omega
  obtain ⟨n,hn⟩:=u8p i out last first fin x x' k (j+1) (acc++D4.inn [rd a j] x) (by omega) (by have:=D4.inn_length [rd a j] x;grind)
  refine ⟨n+1,fun N=> ?_⟩;have e:D4.inn (a.drop j) x=D4.inn [rd a j] x++D4.inn (a.drop (j+1)) x:=by rw [Yo hj,<-D4.inn_append];rfl
  rw [e,<-AL,Zx,<-AH,<-hn N];by_cases h1:D4.lo (rd a j)<=x
  .by_cases h2:x<D4.hi (rd a j)
   .rw [D4.inn_t _ _ h1 h2];simp only [D4] at h1 h2 ⊢;simp (disch:=omega) only [Xu,Xs,Za,Zm,Zt,Zr,Ye,Yq,Ya,Zn,Zk,Zu,Yc,Zj,Ah,As,Ai,Ak,Ab,Aa]
   .rw [D4.inn_f2 _ _ h2,AA];simp only [D4] at h1 h2;simp (disch:=omega) only [Xu,Xs,Ym,Za,Zm,Zt,Zr,Ye,Yq,Ya,Zn,Zk,Zu,Yc,Zj,Ah,As,Ai,Ak,Ab,Aa]
  .rw [D4.inn_f1 _ _ h1,AA];simp only [D4] at h1;simp (disch:=omega) only [Xu,EU,Za,Zm,Zt,Zr,Ye,Yq,Ya,Zn,Zk,Zu,Yc,Zj,Ah,As,Ai,Ak,Ab,Aa]
theorem u8o (i:Nat) (out:zw) (last:zq) (first fin x x':Int) (o1:zq): ∀(k j:Nat) (acc:zq),j+k=b.length->acc.length<=j->
  ∃n,∀N,Yx (Xu q a b) (N+n) (.to (.h4 (i:Int) (j:Int) out last first fin ((D4.cuts (a++b)).length) (Wf (Wz (D4.ends (a++b)))) x x' o1 acc))=Yx (Xu q a b) N (.to (.h4 (i:Int) (b.length:Int) out last first fin ((D4.cuts (a++b)).length) (Wf (Wz (D4.ends (a++b)))) x x' o1 (acc++D4.inn (b.drop j) x)))
 | 0,j,acc,h,h'=>by have _u:=ha;have _v:=hb;refine ⟨0,fun N=> ?_⟩;rw [Av (by omega),show D4.inn ([]:zw) x=[] from rfl,AA,Bg,show j=b.length by omega]
 | k+1,j,acc,h,h'=>by
  have hj:j<b.length:=by omega
  obtain ⟨n,hn⟩:=u8o i out last first fin x x' o1 k (j+1) (acc++D4.inn [rd b j] x) (by omega) (by have:=D4.inn_length [rd b j] x;grind)
  refine ⟨n+1,fun N=> ?_⟩;have e:D4.inn (b.drop j) x=D4.inn [rd b j] x++D4.inn (b.drop (j+1)) x:=by rw [Yo hj,<-D4.inn_append];rfl
  rw [e,<-AL,Zx,<-AH,<-hn N];by_cases h1:D4.lo (rd b j)<=x
  .by_cases h2:x<D4.hi (rd b j)
   .rw [D4.inn_t _ _ h1 h2];simp only [D4] at h1 h2 ⊢;simp (disch:=omega) only [Xu,Xs,Za,Zm,Zt,Zr,Ye,Yq,Ya,Zn,Zk,Zu,Yc,Zj,Ah,As,Ai,Ak,Ab,Aa]
   .rw [D4.inn_f2 _ _ h2,AA];simp only [D4] at h1 h2;simp (disch:=omega) only [Xu,Xs,Ym,Za,Zm,Zt,Zr,Ye,Yq,Ya,Zn,Zk,Zu,Yc,Zj,Ah,As,Ai,Ak,Ab,Aa]
  .rw [D4.inn_f1 _ _ h1,AA];simp only [D4] at h1;simp (disch:=omega) only [Xu,EU,Za,Zm,Zt,Zr,Ye,Yq,Ya,Zn,Zk,Zu,Yc,Zj,Ah,As,Ai,Ak,Ab,Aa]
theorem u8n (i:Nat) (hi:i<=2000) (x x':Int) (s:zq) (first:Int) (o1 o2:zq) (hs:s.length<=1000): ∀(k j:Nat) (out:zw),j+k=s.length->out.length<=10000000+j->
  ∃n,∀N,Yx (Xu q a b) (N+n) (.to (.h5 x x' s (s.length:Int) (j:Int) (i:Int) out first ((D4.cuts (a++b)).length) (Wf (Wz (D4.ends (a++b)))) o1 o2))=Yx (Xu q a b) N (.to (.h2 ((i+1:Nat):Int) (out++(s.drop j).map (D4.put x x')) s first x' ((D4.cuts (a++b)).length) (Wf (Wz (D4.ends (a++b))))))
 | 0,j,out,h,ho=>by
  have _u:=ha;have _v:=hb;refine ⟨1,fun N=> ?_⟩
  grind [Zx,Xu,Zk]
 | k+1,j,out,h,ho=>by
  obtain ⟨n,hn⟩:=u8n i hi x x' s first o1 o2 hs k (j+1) (out++[D4.put x x' (rd s j)]) (by omega) (by simp;omega)
  refine ⟨n+1,fun N=> ?_⟩;have:=hn N;rw [Yo (show j<s.length by omega),A0,<-AL,Zx];simp (disch:=omega) only [Xu,Za,Zm,Zt,Zr,Ye,Yq,Ya,Zn,Zk,Zu,Yc,Zj,Ah,As,Ai,Ak,Ab,Aa];rw [AH] at this;exact this
theorem u8m (i:Nat) (hi:i<=2000) (x x' fin:Int) (s last:zq) (first:Int) (o1 o2:zq): ∀(k j:Nat) (out:zw),j+k=out.length->out.length<=10000000->
  ∃n,∀N,Yx (Xu q a b) (N+n) (.to (.h6 x' (j:Int) x s (i:Int) out last first fin ((D4.cuts (a++b)).length) (Wf (Wz (D4.ends (a++b)))) o1 o2))=Yx (Xu q a b) N (.to (.h2 ((i+1:Nat):Int) (D4.grow out j x') last first x' ((D4.cuts (a++b)).length) (Wf (Wz (D4.ends (a++b))))))
 | 0,j,out,h,ho=>by
  have _u:=ha;have _v:=hb;refine ⟨1,fun N=> ?_⟩;rw [D4.grow_nil _ _ _ (by omega),Zx]
  grind [Xu,Zk]
 | k+1,j,out,h,ho=>by
  obtain ⟨n,hn⟩:=u8m i hi x x' fin s last first o1 o2 k (j+1) (out.set j (D4.ext x' (rd out j))) (by simp;omega) (by grind)
  refine ⟨n+1,fun N=> ?_⟩;have:=hn N;rw [D4.grow_set out j _ (by omega)] at this;rw [<-AL,Zx];simp (disch:=omega) only [Xu,Za,Zm,Zt,Zr,Ye,Yq,Ya,Zn,Zk,Zu,Yc,Zj,Ah,As,Ai,Ak,Ab,Aa];exact this
theorem v4z : ∀(k i:Nat) (s:Sw R4 R2),k=(D4.cuts (a++b)).length - 1 - i->i<=(D4.cuts (a++b)).length ->s.out.length<=i*1000->s.last.length<=1000->s.first<=s.out.length->
  ∃n,Yx (Xu q a b) n (.to (.h2 ((i+1:Nat):Int) s.out s.last (s.first:Int) s.fin ((D4.cuts (a++b)).length) (Wf (Wz (D4.ends (a++b))))))=.ret (DU (eJ (Ct (DV q a b) (D4.cuts (a++b)) k i) (D4.goS (Cp q a b) (D4.cuts (a++b)) k i s).out.length) (D4.goS (Cp q a b) (D4.cuts (a++b)) k i s).out)
 | 0,i,s,h,hi,ho,hla,hf=>by
  have _u:=ha;have _v:=hb;have hc:=D4.cuts_length (a++b);refine ⟨1,?_⟩;rw [Zx,show D4.goS (Cp q a b) (D4.cuts (a++b)) 0 i s=s from rfl,show Ct (DV q a b) (D4.cuts (a++b)) 0 i=0 from rfl,w5j]
  grind [Qv,Xu,Zd]
 | k +1,i,s,h,hi,ho,hla,hf=>by
  have hc:=D4.cuts_length (a++b);rw [AK] at hc;have hi1:i+1<(D4.cuts (a++b)).length :=by omega
  have hpl:(Wf (Wz (D4.ends (a++b)))).length =2*(a.length+b.length):=by rw [Qp,Ky,D4.ends_length,AK]
  have r0:rd (Wf (Wz (D4.ends (a++b)))) i=rd (D4.cuts (a++b)) i:=Ga _ _ (by show i<(D4.cuts (a++b)).length;omega);have r1:rd (Wf (Wz (D4.ends (a++b)))) (i+1)=rd (D4.cuts (a++b)) (i+1):=Ga _ _ (by show i+1<(D4.cuts (a++b)).length;omega);have hbig:i*1000<=2000*1000:=AB _ (by omega);have hgo:D4.goS (Cp q a b) (D4.cuts (a++b)) (k+1) i s=D4.goS (Cp q a b) (D4.cuts (a++b)) k (i+1) (D4.oneS (Cp q a b (rd (D4.cuts (a++b)) i)) (rd (D4.cuts (a++b)) i) (rd (D4.cuts (a++b)) (i+1)) s):=rfl;have hfe: ∀x,x=rd (D4.cuts (a++b)) i->(DV q a b x != 0)=false->Ct (DV q a b) (D4.cuts (a++b)) (k+1) i=Ct (DV q a b) (D4.cuts (a++b)) k (i+1):=fun x hx z=>by
   show (bif DV q a b (rd (D4.cuts (a++b)) i) != 0 then _ else _)=_
   grind
  revert hgo hfe r0;generalize hx:rd (D4.cuts (a++b)) i=x;generalize hx':rd (D4.cuts (a++b)) (i+1)=x' at r1;intro r0 hgo hfe;obtain ⟨n3,h3⟩:=u8p q a b ha hb (i+1) s.out s.last (s.first:Int) s.fin x x' a.length 0 [] (Ah _) (Ar _);simp only [AO,A1,EB] at h3;obtain ⟨n4,h4⟩:=u8o q a b ha hb (i+1) s.out s.last (s.first:Int) s.fin x x' (D4.inn a x) b.length 0 [] (Ah _) (Ar _);simp only [AO,A1,EB] at h4;have st0: ∀N,Yx (Xu q a b) (N+n4+n3+1) (.to (.h2 ((i+1:Nat):Int) s.out s.last (s.first:Int) s.fin ((D4.cuts (a++b)).length) (Wf (Wz (D4.ends (a++b))))))=Yx (Xu q a b) N (.to (.h4 ((i+1:Nat):Int) (b.length:Int) s.out s.last (s.first:Int) s.fin ((D4.cuts (a++b)).length) (Wf (Wz (D4.ends (a++b)))) x x' (D4.inn a x) (D4.inn b x))):=fun N=>by
   rw [<-h4 N,<-h3 (N+n4),Zx];have e1:wrap .i64 (((i+1:Nat):Int) - 1)=(i:Int):=by rw [Yj];exact Zk (by omega)
   simp (disch:=omega) only [Xu,e1,r0,r1,Za,Zm,Zt,Zr,Ye,Yq,Ya,Zn,Zk,Zu,Yc,Zj,Ah,As,Ai,Ak,Ab,Aa]
  have w1:x1x q (D4.inn a x) (D4.inn b x)=true:=rfl;have f1:DQ (Zz (D4.inn a x))=true:=Xc _;have f2:DQ (Zz (D4.inn b x))=true:=Xc _;rcases Xz (DV q a b x != 0) with z | z
  .have z':(SB q (D4.inn a x) (D4.inn b x) != 0)=true:=z;refine ⟨1+n4+n3+1,?_⟩;rw [st0 1,Zx];have e:Ct (DV q a b) (D4.cuts (a++b)) (k+1) i=DV q a b x:=by show (bif DV q a b (rd (D4.cuts (a++b)) i) != 0 then DV q a b (rd (D4.cuts (a++b)) i) else _)=_;grind
   simp (disch:=omega) only [Xu,Ym,z',w1,f1,f2,Za,Zm,Zt,Zr,Ye,Yq,Ya,Zn,Zk,Zu,Yc,Zj,Ah,As,Ai,Ak,Ab,Aa,Zd];rw [e,show eJ (DV q a b x) _=DV q a b x by unfold eJ;rw [z];rfl,Kd _ z];rfl
  have z':(SB q (D4.inn a x) (D4.inn b x) != 0)=false:=z;have v:EL q (D4.inn a x) (D4.inn b x)=Cp q a b x:=x6l _ z;have hsl:=j4q q a b x z;have w2:Uj s.last (Cp q a b x)=true:=Af (by omega);rw [hgo,hfe x rfl z];have ol:(D4.oneS (Cp q a b x) x x' s).out.length <=s.out.length+(Cp q a b x).length :=by
   grind [CM.oneS,CM.grow_length]
  rcases Xz (decide (0<(Cp q a b x).length)&&((s.fin == x)&&D4.same s.last (Cp q a b x))) with g | g
  .obtain ⟨n6,h6⟩:=u8m q a b ha hb (i+1) (by omega) x x' s.fin (Cp q a b x) s.last (s.first:Int) (D4.inn a x) (D4.inn b x) (s.out.length - s.first) s.first s.out (by omega) (by omega)
   have e:D4.oneS (Cp q a b x) x x' s=⟨D4.grow s.out s.first x',s.last,s.first,x'⟩:=by unfold CM.oneS;rw [g];rfl
   obtain ⟨n0,h0⟩:=v4z k (i+1) (D4.oneS (Cp q a b x) x x' s) (by omega) (by omega) (by omega) (by grind) (by grind [CM.grow_length]);refine ⟨n0+n6+1+n4+n3+1,?_⟩;rw [st0 (n0+n6+1),Zx];simp only [Ac,Ao] at g;obtain ⟨g1,g2,g3⟩:=g;have g3':Qt s.last (Cp q a b x)=true:=g3;simp (disch:=omega) only [Xu,Ym,Ys,z',v,g2,g3',w1,f1,f2,w2,Za,Zm,Zt,Zr,Ye,Yq,Ya,Zn,Zk,Zu,Yc,Zj,Ah,As,Ai,Ak,Ab,Aa]
   grind
  .obtain ⟨n5,h5⟩:=u8n q a b ha hb (i+1) (by omega) x x' (Cp q a b x) (s.out.length:Int) (D4.inn a x) (D4.inn b x) hsl (Cp q a b x).length 0 s.out (Ah _) (by omega);simp only [AO,EB] at h5;have e:D4.oneS (Cp q a b x) x x' s=⟨s.out++(Cp q a b x).map (D4.put x x'),Cp q a b x,s.out.length,x'⟩:=by unfold CM.oneS;rw [g];rfl
   obtain ⟨n0,h0⟩:=v4z k (i+1) (D4.oneS (Cp q a b x) x x' s) (by omega) (by omega) (by omega) (by grind) (by rw [e];simp);have hg:Yx (Xu q a b) 1 (.to (.h4 ((i+1:Nat):Int) (b.length:Int) s.out s.last (s.first:Int) s.fin ((D4.cuts (a++b)).length) (Wf (Wz (D4.ends (a++b)))) x x' (D4.inn a x) (D4.inn b x)))=.to (.h5 x x' (Cp q a b x) ((Cp q a b x).length :Int) 0 ((i+1:Nat):Int) s.out (s.out.length:Int) ((D4.cuts (a++b)).length) (Wf (Wz (D4.ends (a++b)))) (D4.inn a x) (D4.inn b x)):=by
    rw [show (1:Nat)=0+1 from rfl,Zx];have e3:D4.same s.last (Cp q a b x)=Qt s.last (Cp q a b x):=rfl;rw [e3] at g;by_cases g1:0<(Cp q a b x).length
    .rw [Af g1,Ak] at g;rcases Xz (s.fin == x) with g2 | g2
     .rw [g2,Ak] at g;simp (disch:=omega) only [Xu,Ym,Ys,z',v,g2,g,w1,f1,f2,w2,Za,Zm,Zt,Zr,Ye,Yq,Ya,Zn,Zk,Zu,Yc,Zj,Ah,As,Ai,Ak,Ab,Aa];rfl
     .simp (disch:=omega) only [Xu,Ym,Ys,z',v,g2,w1,f1,f2,w2,Za,Zm,Zt,Zr,Ye,Yq,Ya,Zn,Zk,Zu,Yc,Zj,Ah,As,Ai,Ak,Ab,Aa];rfl
    .simp (disch:=omega) only [Xu,Ym,Xg,z',v,w1,f1,f2,w2,Za,Zm,Zt,Zr,Ye,Yq,Ya,Zn,Zk,Zu,Yc,Zj,Ah,As,Ai,Ak,Ab,Aa];rfl
   refine ⟨n0+n5+1+n4+n3+1,?_⟩;simp_all [NP]
theorem u8q : ∀(k i:Nat) (acc:zp),i+k=b.length->acc=D4.ends (a++b.take i)-> ∃n,Yx (Xu q a b) n (.to (.h1 (i:Int) acc))=.ret (DU (eJ (Ct (DV q a b) (D4.cuts (a++b)) ((D4.cuts (a++b)).length - 1) 0) (D4.goS (Cp q a b) (D4.cuts (a++b)) ((D4.cuts (a++b)).length - 1) 0 ⟨[],[],0,0⟩).out.length) (D4.goS (Cp q a b) (D4.cuts (a++b)) ((D4.cuts (a++b)).length - 1) 0 ⟨[],[],0,0⟩).out)
 | 0,i,acc,h,h'=>by
  have _u:=ha;have _v:=hb;have e:acc=D4.ends (a++b):=by grind
  subst e;have hle:=D4.ends_length (a++b);rw [AK] at hle;obtain ⟨n,hn⟩:=v4z q a b ha hb ((D4.cuts (a++b)).length - 1) 0 ⟨[],[],0,0⟩ (by omega) (Ay _) (Ay _) (Ay _) (Ay _);refine ⟨n+1,?_⟩;rw [Zx];simp (disch:=omega) only [Xu,Qm,Sh,Su,Ym,Yq,Ya,As,Ab,Aa];exact hn
 | k+1,i,acc,h,h'=>by
  have hle:acc.length<=2*(400+i):=by rw [h',D4.ends_length];grind
  obtain ⟨n,hn⟩:=u8q k (i+1) (acc++D4.ends [rd b i]) (by omega) (by
   rw [h',AX]
   grind [Xm,CM.ends])
  refine ⟨n+1,?_⟩;rw [Zx];simp (disch:=omega) only [Xu,Za,Zm,Zt,Zr,Ye,Yq,Ya,Zn,Zk,Zu,Yc,Zj,Ah,As,Ai,Ak,Ab,Aa];exact hn
theorem u8r : ∀(k i:Nat) (acc:zp),i+k=a.length->acc=D4.ends (a.take i)-> ∃n,Yx (Xu q a b) n (.to (.h0 (i:Int) acc))=.ret (DU (eJ (Ct (DV q a b) (D4.cuts (a++b)) ((D4.cuts (a++b)).length - 1) 0) (D4.goS (Cp q a b) (D4.cuts (a++b)) ((D4.cuts (a++b)).length - 1) 0 ⟨[],[],0,0⟩).out.length) (D4.goS (Cp q a b) (D4.cuts (a++b)) ((D4.cuts (a++b)).length - 1) 0 ⟨[],[],0,0⟩).out)
 | 0,i,acc,h,h'=>by
  have _u:=ha;have _v:=hb;obtain ⟨n,hn⟩:=u8q q a b ha hb b.length 0 acc (Ah _) (by grind);refine ⟨n+1,?_⟩
  grind [Zx,Xu]
 | k+1,i,acc,h,h'=>by
  have hle:acc.length<=2*(400+i):=by rw [h',D4.ends_length];grind
  obtain ⟨n,hn⟩:=u8r k (i+1) (acc++D4.ends [rd a i]) (by omega) (by
   rw [h',AX]
   grind [Xm,CM.ends])
  refine ⟨n+1,?_⟩;rw [Zx];simp (disch:=omega) only [Xu,Za,Zm,Zt,Zr,Ye,Yq,Ya,Zn,Zk,Zu,Yc,Zj,Ah,As,Ai,Ak,Ab,Aa];exact hn
end
def FX (q:Op) (a b:zw):Int:=bif DO a != 0 then DO a else bif DO b != 0 then DO b else eJ (Ct (DV q a b) (D4.cuts (a++b)) ((D4.cuts (a++b)).length - 1) 0) (Dx q.k a b).length
def EK (q:Op) (a b:zw):zw:=Dn (FX q a b) (Dx q.k a b)
def Ry (q:Op) (a b:zw):Int:=FX q a b
def X4 (q:Op) (a b:zw):Bool:=true
theorem w5h {l:zw} (h:(DO l != 0)=false):l.length<=400:=by
 grind [DO]
theorem O7 (q:Op) (a b:zw) (h:X4 q a b=true): ∃n,Yx (Xu q a b) n (X5 q a b)=.ret (DU (FX q a b) (Dx q.k a b)):=by
 unfold X5;have o: ∀l,Sa l=true:=fun _=>rfl;simp only [Za,o,Ab];rcases Xz (DO a != 0) with q1 | q1
 .exact ⟨0,by simp only [FX,q1,Ab,Kd _ q1];rfl⟩
 rcases Xz (DO b != 0) with q2 | q2
 .exact ⟨0,by simp only [FX,q1,q2,Ab,Aa,Kd _ q2];rfl⟩
 obtain ⟨n,hn⟩:=u8r q a b (w5h q1) (w5h q2) a.length 0 [] (Ah _) rfl;refine ⟨n,?_⟩;simp only [FX,q1,q2,Aa];exact hn
def fRg (q:Op):zy->Option (B9×Bool)
 | [a0,a1]=>match CY R4 a0,CY R4 a1 with
  | some (L0,g0,n0),some (L1,g1,n1)=>some (.tup [.dat (EK q L0 L1).length (Zz (EK q L0 L1)),.int .i64 (Ry q L0 L1)],CX R4 n0 g0&&(CX R4 n1 g1&&(X4 q L0 L1)))
  | _,_=>none
 | _=>none
theorem QA (q:Op) {S:CB} (hS:Zw prog S):Zw prog (S.with (nRg q) (fRg q)):=by
 refine E4 hS (by cases q <;> kernel_rfl) fun args v h=> ?_;unfold fRg at h;split at h
 .rename_i a0 a1;split at h
  .rename_i L0 g0 n0 L1 g1 n1 e0 e1;simp only [Ad,Ae,Ac] at h;obtain ⟨rfl,ho0,ho1,hw⟩:=h;obtain ⟨N,hN⟩:=O7 q L0 L1 hw;exact ⟨_,_,(.cons (Yi e0 ho0) (.cons (Yi e1 ho1) .nil)),NO _ _,u1x q L0 L1 N _ hN,3,Mv _ _⟩
  .cases h
 .cases h
def Ud :CB:=Uc.with (nRg .u) (fRg .u)
theorem Wo :Zw prog Ud:=QA .u Qy
inductive Ha where
 | h0 (v8:Int)
 | h1 (v16:Int) (aB:zp)
 | h2 (v4:Int) (aH:zx) (aS:zw) (aZ:Int) (bA:Int) (aG:Nat) (aM:zp)
 | h3 (v4:Int) (v38:Int) (aH:zx) (aS:zw) (aZ:Int) (bA:Int) (aG:Nat) (aM:zp) (aR:Int) (aY:Int) (aA:zw)
 | h4 (v1:Int) (v2:Int) (v72:zw) (v73:Int) (v74:Int) (bK:zw) (aV:Int) (aC:zx) (bF:zw) (bE:Int) (aG:Nat) (aM:zp) (aR:zw)
 | h5 (v2:Int) (v8:Int) (bQ:Int) (bK:zw) (aV:Int) (aC:zx) (bF:zw) (bE:Int) (bP:Int) (bI:Nat) (bM:zp) (aA:zw)
def Nt (l0:zx):Ha->CI
 | .h0 v8=>⟨⟨19,0,true⟩,none,(Zq prog 124 (pn 37) 0),none,(Zy prog 4),⟨Zs [(0,(dt l0)),(1,(.fn 94 [])),(7,(ii (l0.length:Int))),(8,(ii v8))],Xe [] 0,0,[],true⟩,[⟨⟨9,0,true⟩,(Wr prog 93 [1,0] 2),(Zq prog 93 [1,0] 1),none,(Zy prog 4),Zs [(5,(dt l0)),(6,(.fn 94 []))]⟩,⟨⟨15,0,true⟩,(Wr prog 62 (pn 19) 1),(Zq prog 62 (pn 19) 1),none,(Zy prog 17),Zs [(0,(dt l0)),(7,(dt l0))]⟩],.leaf⟩
 | .h1 v16 aB=>⟨⟨36,0,true⟩,none,(Zq prog 85 (pn 19659) 0),none,(Zy prog 5),⟨Zs [(1,(.ptr 0 0)),(3,(.ptr 2 0)),(8,(.sl 1 0 1 (.un 1))),(9,(ii 1)),(10,(ii 0)),(14,(dt l0)),(15,(ii (l0.length:Int))),(16,(ii v16))],Xe [⟨[(.sl 1 0 1 (.un 1))],137,none⟩,⟨[(dt l0)],45,none⟩,⟨[(.sla 7 1 0 aB.length (.un 1))],93,none⟩,⟨[.nilf],99,none⟩,⟨[.nils],46,none⟩,⟨[(ii 0)],24,none⟩,⟨[.nils,.nils,(ii 0),(ii 0)],141,none⟩,(rz aB 3 1)] 0,8,[],true⟩,[⟨⟨65,0,true⟩,(Wr prog 53 (pn 19) 1),(Zq prog 53 (pn 19) 1),none,(Zy prog 53),Zs [(2,(.ptr 3 0)),(4,(.ptr 4 0)),(5,(.ptr 5 0)),(6,(.ptr 6 0)),(13,(.sl 1 0 1 (.un 1)))]⟩,⟨⟨15,0,true⟩,(Wr prog 62 (pn 23) 3),(Zq prog 62 (pn 23) 1),none,(Zy prog 17),Zs [(9,(.agg [.nilf])),(11,(.sl 1 0 1 (.un 1)))]⟩],.leaf⟩
 | .h2 v4 aH aS aZ bA aG aM=>⟨⟨86,0,true⟩,none,(Zq prog 111 [1,0,0] 0),none,[],⟨Zs [(0,(.yld 0)),(1,(.ptr 5 0)),(2,(.ptr 7 0)),(4,(ii v4))],Cj [(1,⟨[.nilf],99,none⟩),(2,⟨[.nils],46,none⟩),(3,⟨[(ii 0)],24,none⟩),(4,⟨[(.sla 9 6 0 aH.length (.un 6)),(dt aS),(ii aZ),(ii bA)],141,none⟩),(5,⟨[(.sla 6 1 0 aG (.un 1))],93,none⟩),(6,(rz aM 3 1)),(7,⟨[(.sl 8 0 1 (.un 1))],137,none⟩),(8,⟨[(dt l0)],45,none⟩),(9,(rz aH 76 6))],10,[],true⟩,[⟨⟨65,0,true⟩,none,(.inRangeFunc 0::(Zq prog 53 (pn 43) 1)),none,(Zy prog 53),Zs [(4,(.ptr 2 0)),(5,(.ptr 3 0)),(6,(.ptr 4 0))]⟩,⟨⟨15,0,true⟩,(Wr prog 62 (pn 23) 3),(Zq prog 62 (pn 23) 1),none,(Zy prog 17),Zs [(9,(.agg [.nilf])),(11,(.sl 8 0 1 (.un 1)))]⟩],(Co [(0,⟨.ready,none,65,Zs [(2,(.ptr 1 0)),(4,(.ptr 2 0)),(5,(.ptr 3 0)),(6,(.ptr 4 0))],[15],(Wx prog 53 [1,1,0,1,0,0]),(Wx prog 53 [1,1,0,1,0,1])⟩)])⟩
 | .h3 v4 v38 aH aS aZ bA aG aM aR aY aA=>⟨⟨86,0,true⟩,none,(Zq prog 111 (pn 629065) 0),none,[],⟨Zs [(0,(.yld 0)),(1,(.ptr 5 0)),(2,(.ptr 7 0)),(4,(ii v4)),(5,(.ptr 9 0)),(6,(ii 0)),(29,(.sl 8 0 1 (.un 1))),(30,(ii 1)),(31,(ii 0)),(36,(dt l0)),(37,(ii (l0.length:Int))),(38,(ii v38))],Cj [(1,⟨[.nilf],99,none⟩),(2,⟨[.nils],46,none⟩),(3,⟨[(ii 0)],24,none⟩),(4,⟨[(.sla 12 6 0 aH.length (.un 6)),(dt aS),(ii aZ),(ii bA)],141,none⟩),(5,⟨[(.sla 6 1 0 aG (.un 1))],93,none⟩),(6,(rz aM 3 1)),(7,⟨[(.sl 8 0 1 (.un 1))],137,none⟩),(8,⟨[(dt l0)],45,none⟩),(9,⟨[(ii aR),(ii aY),(.sl 10 0 1 (.ex 1))],146,none⟩),(10,⟨[(.sla 11 4 0 aA.length (.un 4))],138,none⟩),(11,(rz aA 155 4)),(12,(rz aH 76 6))],13,[],true⟩,[⟨⟨65,0,true⟩,none,(.inRangeFunc 0::(Zq prog 53 (pn 43) 1)),none,(Zy prog 53),Zs [(4,(.ptr 2 0)),(5,(.ptr 3 0)),(6,(.ptr 4 0))]⟩,⟨⟨15,0,true⟩,(Wr prog 62 (pn 23) 3),(Zq prog 62 (pn 23) 1),none,(Zy prog 17),Zs [(9,(.agg [.nilf])),(11,(.sl 8 0 1 (.un 1)))]⟩],(Co [(0,⟨.ready,none,65,Zs [(2,(.ptr 1 0)),(4,(.ptr 2 0)),(5,(.ptr 3 0)),(6,(.ptr 4 0))],[15],(Wx prog 53 [1,1,0,1,0,0]),(Wx prog 53 [1,1,0,1,0,1])⟩)])⟩
 | .h4 v1 v2 v72 v73 v74 bK aV aC bF bE aG aM aR=>⟨⟨101,0,true⟩,none,(Zq prog 87 (pn 39) 0),none,[],⟨Zs [(0,(.ptr 0 0)),(1,(ii v1)),(2,(ii v2)),(72,(dt v72)),(73,(ii v73)),(74,(ii v74))],Cj [(0,⟨[(.sla 10 6 0 aC.length (.un 6)),(dt bF),(ii bE),(ii v2)],141,none⟩),(2,⟨[.nilf],99,none⟩),(3,⟨[.nils],46,none⟩),(4,⟨[(ii 0)],24,none⟩),(5,⟨[(.sla 6 1 0 aG (.un 1))],93,none⟩),(6,(rz aM 3 1)),(7,⟨[(.sl 8 0 1 (.un 1))],137,none⟩),(8,⟨[(dt l0)],45,none⟩),(9,⟨[(dt aR)],138,none⟩),(10,(rz aC 76 6))],11,[],true⟩,[⟨⟨65,0,true⟩,(Wr prog 53 (pn 1963) 5),(Zq prog 53 (pn 1963) 1),(some 1),[],Zs [(6,(.ptr 0 0)),(54,(ii v1)),(56,(ii v2)),(57,(dt bK))]⟩,⟨⟨86,0,true⟩,(Wr prog 111 (pn 713) 2),(Zq prog 111 (pn 713) 1),none,[],Zs [(0,(.yld 1)),(1,(.ptr 5 0)),(2,(.ptr 7 0)),(4,(ii aV)),(82,(.yld 1)),(83,(.agg [(ii v1),(ii v2),(.sl 9 0 1 (.ex 1))]))]⟩,⟨⟨65,0,true⟩,none,(.inRangeFunc 1::(Zq prog 53 (pn 43) 1)),none,(Zy prog 53),Zs [(4,(.ptr 3 0)),(5,(.ptr 4 0)),(6,(.ptr 0 0))]⟩,⟨⟨15,0,true⟩,(Wr prog 62 (pn 23) 3),(Zq prog 62 (pn 23) 1),none,(Zy prog 17),Zs [(9,(.agg [.nilf])),(11,(.sl 8 0 1 (.un 1)))]⟩],(Co [(1,⟨.busy,none,65,Zs [(2,(.ptr 2 0)),(4,(.ptr 3 0)),(5,(.ptr 4 0)),(6,(.ptr 0 0))],[15],(Wx prog 53 [1,1,0,1,0,0]),(Wx prog 53 [1,1,0,1,0,1])⟩)])⟩
 | .h5 v2 v8 bQ bK aV aC bF bE bP bI bM aA=>⟨⟨101,0,true⟩,none,(Zq prog 87 (pn 146) 0),none,[],⟨Zs [(0,(.ptr 0 0)),(2,(ii v2)),(8,(ii v8))],Cj [(0,⟨[(.sla 1 6 0 aC.length (.un 6)),(dt bF),(ii bE),(ii bP)],141,none⟩),(1,(rz aC 76 6)),(3,⟨[.nilf],99,none⟩),(4,⟨[.nils],46,none⟩),(5,⟨[(ii 0)],24,none⟩),(6,⟨[(.sla 7 1 0 bI (.un 1))],93,none⟩),(7,(rz bM 3 1)),(8,⟨[(.sl 9 0 1 (.un 1))],137,none⟩),(9,⟨[(dt l0)],45,none⟩),(10,⟨[(dt aA)],138,none⟩)],11,[],true⟩,[⟨⟨65,0,true⟩,(Wr prog 53 (pn 1963) 5),(Zq prog 53 (pn 1963) 1),(some 2),[],Zs [(6,(.ptr 0 0)),(54,(ii bQ)),(56,(ii v2)),(57,(dt bK))]⟩,⟨⟨86,0,true⟩,(Wr prog 111 (pn 713) 2),(Zq prog 111 (pn 713) 1),none,[],Zs [(0,(.yld 2)),(1,(.ptr 6 0)),(2,(.ptr 8 0)),(4,(ii aV)),(82,(.yld 2)),(83,(.agg [(ii bQ),(ii v2),(.sl 10 0 1 (.ex 1))]))]⟩,⟨⟨65,0,true⟩,none,(.inRangeFunc 2::(Zq prog 53 (pn 43) 1)),none,(Zy prog 53),Zs [(4,(.ptr 4 0)),(5,(.ptr 5 0)),(6,(.ptr 0 0))]⟩,⟨⟨15,0,true⟩,(Wr prog 62 (pn 23) 3),(Zq prog 62 (pn 23) 1),none,(Zy prog 17),Zs [(9,(.agg [.nilf])),(11,(.sl 9 0 1 (.un 1)))]⟩],(Co [(2,⟨.busy,none,65,Zs [(2,(.ptr 3 0)),(4,(.ptr 4 0)),(5,(.ptr 5 0)),(6,(.ptr 0 0))],[15],(Wx prog 53 [1,1,0,1,0,0]),(Wx prog 53 [1,1,0,1,0,1])⟩)])⟩
def KC :List (Option zr):=[some [0,1,7,8],some [5,6],some [0,7]]
def KE :List (Option zr):=[]
def j2e :List (Option zr):=[some [1,3,8,9,10,14,15,16],some [2,4,5,6,13],some [9,11]]
def j2g :List (Option zr):=[]
def j2d :List (Option zr):=[some [0,1,2,4],some [4,5,6],some [9,11]]
def j2f :List (Option zr):=[some [2,4,5,6],none,none,none,none,none,none,none,none,none]
def v9o :List (Option zr):=[some [0,1,2,4,5,6,29,30,31,36,37,38],some [4,5,6],some [9,11]]
def Z9 :List (Option zr):=[some [2,4,5,6],none,none,none,none,none,none,none,none,none,none,none,none]
def v9n :List (Option zr):=[some [0,1,2,72,73,74],some [6,54,56,57],some [0,1,2,4,82,83],some [4,5,6],some [9,11]]
def Zl :List (Option zr):=[none,some [2,4,5,6],none,none,none,none,none,none,none,none,none]
def KB :List (Option zr):=[some [0,2,8],some [6,54,56,57],some [0,1,2,4,82,83],some [4,5,6],some [9,11]]
def KD :List (Option zr):=[none,none,some [2,4,5,6],none,none,none,none,none,none,none,none]
def Xn (l0:zx):Ha->Yr Ha
 | .h0 v8=>let g:=rd l0 v8.toNat;(bif (decide (v8<(l0.length:Int))) then (bif ((decide (0<=v8/\v8<(l0.length:Int)))&&true) then (bif (!(PU g.a g.b g.c g.d g.e g.f)) then (bif (decide (v8>=0)) then (.ret [.nils,(.int .i64 8)]) else (.to (.h1 0 ([]:zp)))) else (.to (.h0 (wrap .i64 (v8+1))))) else .stuck) else (.to (.h1 0 ([]:zp))))
 | .h1 v16 aB=>let a:=Yy aB.length (CS (Zz (Wz (Yy aB.length (CS (Zz aB))))));let b:=rd l0 v16.toNat;(bif (decide (v16<(l0.length:Int))) then (bif ((decide (0<=v16/\v16<(l0.length:Int)))&&true) then (bif (Nat.beq 1 1&&((decide (0+aB.length=aB.length))&&decide ((aB.length+2+1)*(8+1)<=Jm))) then (.to (.h1 (wrap .i64 (v16+1)) (aB++[b.c,b.f]))) else .stuck) else .stuck) else (bif (decide (aB.length<4611686018427387904)) then (bif (decide (aB.length=aB.length)) then (.to (.h2 1 ([]:zx) ([]:zw) 0 0 (MQ a) (Wf a))) else .stuck) else .stuck))
 | .h2 v4 aH aS aZ bA aG aM=>(bif (decide (v4<((aG:Nat):Int))) then (bif ((decide (0<=(wrap .i64 (v4 - 1))/\(wrap .i64 (v4 - 1))<((aG:Nat):Int)))&&true) then (bif (decide ((0+(Int.toNat (wrap .i64 (v4 - 1))))<aM.length)) then (bif ((decide (0<=v4/\v4<((aG:Nat):Int)))&&true) then (bif (decide ((0+v4.toNat)<aM.length)) then (.to (.h3 v4 0 aH aS aZ bA aG aM (rd aM (0+(Int.toNat (wrap .i64 (v4 - 1))))) (rd aM (0+v4.toNat)) ([]:zw))) else .stuck) else .stuck) else .stuck) else .stuck) else (bif (decide ((aH.length:Int)>400)) then (.ret [.nils,(.int .i64 4)]) else (.ret [(dt aH),(.int .i64 0)])))
 | .h3 v4 v38 aH aS aZ bA aG aM aR aY aA=>let g:=Zb (CA aA);let h:=rd l0 v38.toNat;(bif (decide (v38<(l0.length:Int))) then (bif ((decide (0<=v38/\v38<(l0.length:Int)))&&true) then (bif (decide (h.c <=aR)) then (bif (decide (aR<h.f)) then (bif (Nat.beq 4 4&&((decide (0+aA.length=aA.length))&&decide ((aA.length+1+1)*(32+1)<=Jm))) then (.to (.h3 v4 (wrap .i64 (v38+1)) aH aS aZ bA aG aM aR aY (aA++[(R4.mk h.a h.b h.d h.e)]))) else .stuck) else (.to (.h3 v4 (wrap .i64 (v38+1)) aH aS aZ bA aG aM aR aY aA))) else (.to (.h3 v4 (wrap .i64 (v38+1)) aH aS aZ bA aG aM aR aY aA))) else .stuck) else (bif (Jf (CA aA)) then (bif ((Xk (CA aA)) != 0) then (.ret [.nils,(.int .i64 (Xk (CA aA)))]) else (bif (decide (((g.length :Nat):Int)>0)) then (bif (bA == aR) then (bif (Wa (CA aS) (CA g)) then (bif (Vs (CA aS) (CA g)) then (.to (.h5 aY aZ aR g v4 aH aS aZ bA aG aM aA)) else (.to (.h4 aR aY g ((g.length :Nat):Int) 0 g v4 aH g (aH.length:Int) aG aM aA))) else .stuck) else (.to (.h4 aR aY g ((g.length :Nat):Int) 0 g v4 aH g (aH.length:Int) aG aM aA))) else (.to (.h4 aR aY g ((g.length :Nat):Int) 0 g v4 aH g (aH.length:Int) aG aM aA)))) else .stuck))
 | .h4 v1 v2 v72 v73 v74 bK aV aC bF bE aG aM aR=>let e:=rd v72 v74.toNat;(bif (decide (v74<v73)) then (bif ((decide (0<=v74/\v74<(v72.length:Int)))&&true) then (bif (Nat.beq 6 6&&((decide (0+aC.length=aC.length))&&decide ((aC.length+1+1)*(48+1)<=Jm))) then (.to (.h4 v1 v2 v72 v73 (wrap .i64 (v74+1)) bK aV (aC++[(R6.mk e.a e.b v1 e.c e.d v2)]) bF bE aG aM aR)) else .stuck) else .stuck) else (.to (.h2 (wrap .i64 (aV+1)) aC bF bE v2 aG aM)))
 | .h5 v2 v8 bQ bK aV aC bF bE bP bI bM aA=>let f:=rd aC (0+v8.toNat);(bif (decide (v8<(aC.length:Int))) then (bif ((decide (0<=v8/\v8<(aC.length:Int)))&&true) then (bif (decide ((0+v8.toNat)<aC.length)) then (.to (.h5 v2 (wrap .i64 (v8+1)) bQ bK aV (aC.set (0+v8.toNat) (R6.mk f.a f.b f.c f.d f.e v2)) bF bE bP bI bM aA)) else .stuck) else .stuck) else (.to (.h2 (wrap .i64 (aV+1)) aC bF bE v2 bI bM)))
def YO (l0:zx):Yr Ha:=(bif (decide ((l0.length:Int)>400)) then (.ret [.nils,(.int .i64 4)]) else (.to (.h0 0)))
theorem w8b (l0:zx): ∀s,Xx prog (Zy prog 62) (Nt l0) (Nt l0 s) (Xn l0 s)
 | .h0 v8=>let b:=fl ([]:zp) nn;(lb (fun k0=>(lo fun aL=>let a:=ww aL (tt k0 nn);(lb (fun k1=>(lb (fun k2=>(lr 15 62 (pn 75) 1 17 [(2,.nils),(3,(ii 8))] (sl Wo 54 [] (a7 [2,3]) a6 (CK 3 []) (tt k2 (tt k1 a))))) (fun k2=>(sl Wo 112 [(3,1,Zz ([]:zp))] ⟨[6,1,7,2,3,4,5,8],[],j2e,j2g⟩ ⟨[],[.keep,.keep,.cells [.grow 7 1],.keep,.keep,.keep,.keep,.keep],[]⟩ (bl 4 11) (pp b (tt k2 (tt k1 a))))))) (fun k1=>(sl Wo 44 [] ⟨[],[],KC,KE⟩ a6 (bl 2 1) (tt k1 a)))))) (fun k0=>(sl Wo 81 [(3,1,Zz ([]:zp))] ⟨[5,0,6,1,2,3,4,7],[],j2e,j2g⟩ ⟨[],[.keep,.keep,.cells [.grow 7 1],.keep,.keep,.keep,.keep,.keep],[]⟩ (bl 3 4) (pp b (tt k0 nn)))))
 | .h1 v16 aB=>(lb (fun k0=>(lo fun o0=>(lo fun o1=>let j:=rd l0 (tn v16);let b:=aB++[j.c,j.f];let d:=xL (aB.length+2) (aB++[(rd l0 (tn v16)).c,(rd l0 (tn v16)).f]).length;(sl Wo 34 [] ⟨[0,1,2,3,4,5,6,10],[],j2e,j2g⟩ ⟨[],[.keep,.keep,.cells [.len b.length],.keep,.keep,.keep,.keep,.rowed 1 b.length (Zz b)],[]⟩ [true] (pp d (pp d (pp (xS (aB.length+2) (Zf (Zz aB) 0 aB.length 1 [(ii (rd l0 (tn v16)).c),(ii (rd l0 (tn v16)).f)]) (Zz (aB++[(rd l0 (tn v16)).c,(rd l0 (tn v16)).f]))) (pp (pp (xF (Zf (Zz aB) 0 aB.length 1 [(ii (rd l0 (tn v16)).c),(ii (rd l0 (tn v16)).f)])) nn) (ww o1 (ww o0 (tt k0 nn))))))))))) (fun k0=>(lo fun o0=>(lo fun o1=>let a:=Wf (Yy aB.length (CS (Zz (Wz (Yy aB.length (CS (Zz aB)))))));let e:=xG (Nat.beq 1 1);let g:=xG (decide (aB.length<4611686018427387904));let h:=xG (decide (aB.length=aB.length));let i:=xG (Nat.beq 0 0);(sl Wo 46 [(76,6,Zz ([]:zx))] ⟨[8,3,4,5,6,2,7,0,1,9],[],j2d,j2f⟩ ⟨[],(DG 4 [.cells [.grow 9 6,.list 0 (Zz ([]:zw)),.keep,.keep],.keep,.rowed 1 a.length (Zz a),.keep,.keep,.keep]),[]⟩ (bl 2 0) (pp (xL aB.length (Wf (Yy aB.length (CS (Zz (Wz (Yy aB.length (CS (Zz aB)))))))).length (by first | exact S8 _ _ | exact Us rfl)) (pp (xS aB.length (Zz (Wf (Yy aB.length (CS (Zz (Wz (Yy aB.length (CS (Zz aB))))))))) (Zz (Wf (Yy aB.length (CS (Zz (Wz (Yy aB.length (CS (Zz aB)))))))))) (pp (fl a (fl ([]:zx) nn)) (pp (pp e (pp e (pp i (pp h (pp (xG (FB (Zz (Wz (Yy aB.length (CS (Zz aB))))))) g))))) (pp (pp e (pp e (pp i (pp h (pp (xG (FB (Zz aB))) g))))) (tt k0 nn)))))))))))
 | .h2 v4 aH aS aZ bA aG aM=>(lb (fun k0=>(lo fun o0=>(lo fun o1=>(lo fun o2=>(lo fun o3=>(sl Wo 48 [(155,4,Zz ([]:zw))] ⟨[0,1,2,3,4,5,6,7,8,10,11,12,9],[],v9o,Z9⟩ ⟨[],(DG 10 [.cells [.grow 11 4],.keep,.keep]),[]⟩ (CK 3 []) (pp (fl aM (fl ([]:zw) (fl aH nn))) (ww o3 (ww o2 (ww o1 (ww o0 (tt k0 nn)))))))))))) (fun k0=>(lb (fun k1=>(lr 15 3 (pn 767) 1 17 [(2,.nils),(3,(ii 4))] (sl Wo 33 [] (a7 [2,3]) a6 (bl 2 2) (tt k1 (tt k0 nn))))) (fun k1=>(lr 15 3 (pn 767) 1 17 [(2,(dt aH)),(3,(ii 0))] (sl Wo 36 [] ⟨[],[9],[some [2,3]],[]⟩ ⟨[(2,.frz aH.length aH.length (Zz aH) (Zz aH))],[],[]⟩ (bl 2 0) (pp (xZ (Cv 6 6 0 aH.length aH.length (Zz aH)) aH.length (Zz aH)) (pp (xL aH.length aH.length) (pp (xS aH.length (Zz aH) (Zz aH)) (pp (fl aH nn) (tt k1 (tt k0 nn))))))))))))
 | .h3 v4 v38 aH aS aZ bA aG aM aR aY aA=>(lb (fun k0=>(lo fun aL=>let j:=ww aL (tt k0 nn);let o:=fl aM (fl aA (fl aH nn));let r:=List.range 13;(lb (fun k1=>(lb (fun k2=>(lo fun o0=>let s:=rd l0 (tn v38);let i:=s;let c:=aA++[(R4.mk i.a i.b i.d i.e)];let v:=aA++[(R4.mk s.a s.b s.d s.e)];let w:=aA.length+1;let f:=xL w v.length;let t:=Zf (Zz aA) 0 aA.length 4 [(ii s.a),(ii s.b),(ii s.d),(ii s.e)];(sl Wo 41 [] ⟨[0,1,2,3,4,5,6,7,8,9,10,15,12],[],v9o,Z9⟩ ⟨[],(DG 10 [.cells [.len c.length],.rowed 4 c.length (Zz c),.keep]),[]⟩ (CK 8 []) (pp f (pp f (pp (xS w t (Zz v)) (pp (fl aM (pp (xF t) (fl aH nn))) (ww o0 (tt k2 (tt k1 j)))))))))) (fun k2=>(sl Wo 41 [] ⟨r,[],v9o,Z9⟩ a6 (CK 7 [false]) (pp o (tt k2 (tt k1 j))))))) (fun k1=>(sl Wo 41 [] ⟨r,[],v9o,Z9⟩ a6 (bl 8 1) (pp o (tt k1 j))))))) (fun k0=>let h:=xZ (Cv 4 4 0 aA.length aA.length (Zz aA)) aA.length (Zz aA);let n:=xS aA.length (Zz aA) (Zz aA);let p:=xL aA.length aA.length;let q:=fl aH (fl aM nn);(Ve (sl Wo (C':=⟨⟨65,0,true⟩,(Wr prog 53 (pn 299) 4),(Zq prog 53 (pn 299) 1),(some 0),[],⟨Zs [(2,(.ptr 1 0)),(4,(.ptr 2 0)),(5,(.ptr 3 0)),(6,(.ptr 4 0)),(7,(.ptr 6 0)),(20,(dt aA))],Cj [(1,⟨[.nilf],99,none⟩),(2,⟨[.nils],46,none⟩),(3,⟨[(ii 0)],24,none⟩),(4,⟨[(.sla 5 6 0 aH.length (.un 6)),(dt aS),(ii aZ),(ii bA)],141,none⟩),(5,(rz aH 76 6)),(6,⟨[(ii aR),(ii aY),(.sl 7 0 1 (.ex 1))],146,none⟩),(7,⟨[(dt aA)],138,none⟩),(8,⟨[(.sla 9 1 0 aG (.un 1))],93,none⟩),(9,(rz aM 3 1)),(10,⟨[(.sl 11 0 1 (.un 1))],137,none⟩),(11,⟨[(dt l0)],45,none⟩)],12,[],true⟩,[⟨⟨86,0,true⟩,(Wr prog 111 (pn 713) 2),(Zq prog 111 (pn 713) 1),none,[],Zs [(0,(.yld 0)),(1,(.ptr 8 0)),(2,(.ptr 10 0)),(4,(ii v4)),(82,(.yld 0)),(83,(.agg [(ii aR),(ii aY),(.sl 7 0 1 (.ex 1))]))]⟩,⟨⟨65,0,true⟩,none,(.inRangeFunc 0::(Zq prog 53 (pn 43) 1)),none,(Zy prog 53),Zs [(4,(.ptr 2 0)),(5,(.ptr 3 0)),(6,(.ptr 4 0))]⟩,⟨⟨15,0,true⟩,(Wr prog 62 (pn 23) 3),(Zq prog 62 (pn 23) 1),none,(Zy prog 17),Zs [(9,(.agg [.nilf])),(11,(.sl 11 0 1 (.un 1)))]⟩],(Co [(0,⟨.busy,none,65,Zs [(2,(.ptr 1 0)),(4,(.ptr 2 0)),(5,(.ptr 3 0)),(6,(.ptr 4 0))],[15],(Wx prog 53 [1,1,0,1,0,0]),(Wx prog 53 [1,1,0,1,0,1])⟩)])⟩) 37 [] ⟨[0,1,2,3,4,12,13,10,5,6,7,8],[11],[some [2,4,5,6,7,20],some [0,1,2,4,82,83],some [4,5,6],some [9,11]],[some [2,4,5,6],none,none,none,none,none,none,none,none,none,none,none]⟩ ⟨[(20,.frz aA.length aA.length (Zz aA) (Zz aA))],[.keep,.keep,.keep,.keep,.keep,.keep,.keep,.cells [.frz aA.length aA.length (Zz aA) (Zz aA)],.keep,.keep,.keep,.keep],[]⟩ (bl 2 0) (pp h (pp p (pp n (pp h (pp p (pp n (pp q (pp (fl aA nn) (tt k0 nn)))))))))) (lo fun aL=>let g:=pp (pp (xr aA) (xw aL)) nn;(lb (fun k1=>(lr 15 3 (pn 767) 1 17 [(2,.nils),(3,(ii (Xk (CA aA))))] (sl Wo 50 [] (a7 [2,3]) a6 (bl 3 6) (tt k1 g)))) (fun k1=>let l:=fl aM (fl aH nn);(lb (fun k2=>let m:=tt k2 (tt k1 g);(lb (fun k3=>(lo fun bT=>let u:=Zb (CA aA);(lb (fun k4=>(sl Wo 75 [] ⟨[4,5,0,1,2,3,8,9,10,11,7],[],KB,KD⟩ a6 (bl 15 32764) (pp q (tt k4 (pp (pp (xr aS) (pp (xI R4 u.length (Zz u)) (xw bT))) (tt k3 m)))))) (fun k4=>(sl Wo 95 [] ⟨[4,0,1,2,3,8,9,10,11,7,5],[],v9n,Zl⟩ a6 (bl 15 16380) (pp l (tt k4 (pp (pp (xr aS) (pp (xI R4 u.length (Zz u)) (xw bT))) (tt k3 m))))))))) (fun k3=>(sl Wo 95 [] ⟨[4,0,1,2,3,8,9,10,11,7,5],[],v9n,Zl⟩ a6 (bl 15 252) (pp l (tt k3 m)))))) (fun k2=>(sl Wo 95 [] ⟨[4,0,1,2,3,8,9,10,11,7,5],[],v9n,Zl⟩ a6 (bl 15 0) (pp l (tt k2 (tt k1 g))))))))))))
 | .h4 v1 v2 v72 v73 v74 bK aV aC bF bE aG aM aR=>(lb (fun k0=>(lo fun o0=>(lo fun o1=>let h:=rd v72 (tn v74);let g:=h;let e:=aC++[(R6.mk g.a g.b v1 g.c g.d v2)];let j:=aC++[(R6.mk h.a h.b v1 h.c h.d v2)];let l:=aC.length+1;let f:=xL l j.length;let i:=Zf (Zz aC) 0 aC.length 6 [(ii h.a),(ii h.b),(ii v1),(ii h.c),(ii h.d),(ii v2)];(sl Wo 23 [] ⟨[0,1,2,3,4,5,6,7,8,9,13],[],v9n,Zl⟩ ⟨[],[.cells [.len e.length,.keep,.keep,.keep],.keep,.keep,.keep,.keep,.keep,.keep,.keep,.keep,.keep,.rowed 6 e.length (Zz e)],[]⟩ [true] (pp f (pp f (pp (xS l i (Zz j)) (pp (fl aM (pp (xF i) nn)) (ww o1 (ww o0 (tt k0 nn))))))))))) (fun k0=>(sl Wo 22 [] ⟨[1,2,3,4,0,5,6,7,8,10],[],j2d,j2f⟩ a6 (bl 2 0) (pp (fl aM (fl aC nn)) (tt k0 nn)))))
 | .h5 v2 v8 bQ bK aV aC bF bE bP bI bM aA=>(lb (fun k0=>(lo fun o0=>(lo fun o1=>let i:=rd aC (0+(tn v8));let h:=i;let f:=aC.set (0+(tn v8)) (R6.mk h.a h.b h.c h.d h.e v2);let j:=aC.set (0+(tn v8)) (R6.mk i.a i.b i.c i.d i.e v2);let g:=xL aC.length j.length;let l:=Xi (Zz aC) (0+(tn v8)) 5 [(ii v2)];(sl Wo 34 [] ⟨(List.range 11),[],KB,KD⟩ ⟨[],[.cells [.len f.length,.keep,.keep,.keep],.rowed 6 f.length (Zz f),.keep,.keep,.keep,.keep,.keep,.keep,.keep,.keep,.keep],[]⟩ [true] (pp g (pp g (pp (xS aC.length l (Zz j)) (pp (pp (xF l) (fl bM nn)) (ww o1 (ww o0 (tt k0 nn))))))))))) (fun k0=>(sl Wo 36 [] ⟨[2,3,4,5,0,6,7,8,9,1],[],j2d,j2f⟩ a6 (bl 2 0) (pp (fl bM (fl aC nn)) (tt k0 nn)))))
theorem x8n (l0:zx):Xx prog (Zy prog 62) (Nt l0) (Zp prog 62 [(dt l0)] true []) (YO l0):=(lb (fun k0=>(lr 15 62 (pn 37) 1 17 [(2,.nils),(3,(ii 4))] (sl Wo 18 [] (a7 [2,3]) a6 [true] (tt k0 nn)))) (fun k0=>(sl Wo 41 [] ⟨[],[],KC,KE⟩ a6 [false] (tt k0 nn))))
theorem v9m (l0:zx) (n:Nat) (vs:zy) (h:Yx (Xn l0) n (YO l0)=.ret vs):Vi prog (Zy prog 62) (Zp prog 62 [(dt l0)] true []) vs:=by have:=Zg (w8b l0) n _ (x8n l0);rwa [h] at this
def UF :zy:=[.nils,.int .i64 8]
def Gt (l:zx):Nat->Nat->Int
 | 0,_=>0
 | k+1,i=>bif E0 l (rd (D6.cuts l) i) then Xk (D6.inn l (rd (D6.cuts l) i)) else Gt l k (i+1)
def FT (l:zx) (k i:Nat):zy:=[.nils,.int .i64 (Gt l k i)]
section
variable (l:zx) (hl:l.length<=400)
include hl
theorem u6q (i:Nat) (out:zx) (last:zw) (first fin x x':Int): ∀(k j:Nat) (acc:zw),j+k=l.length->acc.length<=j->
  ∃n,∀N,Yx (Xn l) (N+n) (.to (.h3 (i:Int) (j:Int) out last first fin ((D6.cuts l).length) (Wf (Wz (D6.ends l))) x x' acc))=Yx (Xn l) N (.to (.h3 (i:Int) (l.length:Int) out last first fin ((D6.cuts l).length) (Wf (Wz (D6.ends l))) x x' (acc++D6.inn (l.drop j) x)))
 | 0,j,acc,h,ha=>by refine ⟨0,fun N=> ?_⟩;rw [Av (by omega),show D6.inn ([]:zx) x=[] from rfl,AA,Bg,show j=l.length by omega]
 | k+1,j,acc,h,ha=>by
  have hj:j<l.length:=by omega
  obtain ⟨n,hn⟩:=u6q i out last first fin x x' k (j+1) (acc++D6.inn [rd l j] x) (by omega) (by have:=D6.inn_length [rd l j] x;simp only [AK,Bp] at*;omega)
  refine ⟨n+1,fun N=> ?_⟩;have e:D6.inn (l.drop j) x=D6.inn [rd l j] x++D6.inn (l.drop (j+1)) x:=by rw [Yo hj,<-D6.inn_append];rfl
  rw [e,<-AL,Zx,<-AH,<-hn N];by_cases h1:D6.lo (rd l j)<=x
  .by_cases h2:x<D6.hi (rd l j)
   .rw [D6.inn_t _ _ h1 h2];simp only [D6] at h1 h2 ⊢;simp (disch:=omega) only [Xn,Xs,Za,Zm,Zt,Zr,Ye,Yq,Ya,Zn,Zk,Zu,Yc,Zj,Ah,As,Ai,Ak,Ab,Aa]
   .rw [D6.inn_f2 _ _ h2,AA];simp only [D6] at h1 h2;simp (disch:=omega) only [Xn,Xs,Ym,Za,Zm,Zt,Zr,Ye,Yq,Ya,Zn,Zk,Zu,Yc,Zj,Ah,As,Ai,Ak,Ab,Aa]
  .rw [D6.inn_f1 _ _ h1,AA];simp only [D6] at h1;simp (disch:=omega) only [Xn,EU,Za,Zm,Zt,Zr,Ye,Yq,Ya,Zn,Zk,Zu,Yc,Zj,Ah,As,Ai,Ak,Ab,Aa]
theorem u6p (i:Nat) (hi:i<=1000) (x x':Int) (s last:zw) (first:Int) (inn:zw) (hs:s.length<=1000): ∀(k j:Nat) (out:zx),j+k=s.length->out.length<=10000000+j->
  ∃n,∀N,Yx (Xn l) (N+n) (.to (.h4 x x' s (s.length:Int) (j:Int) s (i:Int) out last first ((D6.cuts l).length) (Wf (Wz (D6.ends l))) inn))=Yx (Xn l) N (.to (.h2 ((i+1:Nat):Int) (out++(s.drop j).map (D6.put x x')) last first x' ((D6.cuts l).length) (Wf (Wz (D6.ends l)))))
 | 0,j,out,h,ho=>by have _u:=hl;refine ⟨1,fun N=> ?_⟩;rw [Av (by omega),Zx];simp (disch:=omega) only [Xn,Ym,Zk,Zu,Aa,BN,AA]
 | k+1,j,out,h,ho=>by
  obtain ⟨n,hn⟩:=u6p i hi x x' s last first inn hs k (j+1) (out++[D6.put x x' (rd s j)]) (by omega) (by simp;omega)
  refine ⟨n+1,fun N=> ?_⟩;have:=hn N;rw [Yo (show j<s.length by omega),A0,<-AL,Zx];simp (disch:=omega) only [Xn,Za,Zm,Zt,Zr,Ye,Yq,Ya,Zn,Zk,Zu,Yc,Zj,Ah,As,Ai,Ak,Ab,Aa];rw [AH] at this;exact this
theorem u6o (i:Nat) (hi:i<=1000) (x x' fin:Int) (s last:zw) (first:Int) (inn:zw): ∀(k j:Nat) (out:zx),j+k=out.length->out.length<=10000000->
  ∃n,∀N,Yx (Xn l) (N+n) (.to (.h5 x' (j:Int) x s (i:Int) out last first fin ((D6.cuts l).length) (Wf (Wz (D6.ends l))) inn))=Yx (Xn l) N (.to (.h2 ((i+1:Nat):Int) (D6.grow out j x') last first x' ((D6.cuts l).length) (Wf (Wz (D6.ends l)))))
 | 0,j,out,h,ho=>by have _u:=hl;refine ⟨1,fun N=> ?_⟩;rw [D6.grow_nil _ _ _ (by omega),Zx];simp (disch:=omega) only [Xn,Ym,Zk,Zu,Aa]
 | k+1,j,out,h,ho=>by
  obtain ⟨n,hn⟩:=u6o i hi x x' fin s last first inn k (j+1) (out.set j (D6.ext x' (rd out j))) (by simp;omega) (by simpa using ho)
  refine ⟨n+1,fun N=> ?_⟩;have:=hn N;rw [D6.grow_set out j _ (by omega)] at this;rw [<-AL,Zx];simp (disch:=omega) only [Xn,Za,Zm,Zt,Zr,Ye,Yq,Ya,Zn,Zk,Zu,Yc,Zj,Ah,As,Ai,Ak,Ab,Aa];exact this
theorem v3u : ∀(k i:Nat) (s:Sw R6 R4),k=(D6.cuts l).length - 1 - i->i<=(D6.cuts l).length ->s.out.length<=i*1000->s.last.length<=1000->s.first<=s.out.length->
  ∃n,Yx (Xn l) n (.to (.h2 ((i+1:Nat):Int) s.out s.last (s.first:Int) s.fin ((D6.cuts l).length) (Wf (Wz (D6.ends l)))))=.ret ((bif Ce l k i then Qv (D6.go l k i s).out else FT l k i))
 | 0,i,s,h,hi,ho,hla,hf=>by
  have hc:=D6.cuts_length l;refine ⟨1,?_⟩;rw [Zx,show D6.go l 0 i s=s from rfl,show Ce l 0 i=true from rfl,Ab];unfold Qv;by_cases q:(s.out.length:Int)>400
  .simp (disch:=omega) only [Xn,Ym,Ys,Ab,Aa,Zd]
  .simp (disch:=omega) only [Xn,Za,Ym,Xg,Ab,Aa,Zd]
 | k +1,i,s,h,hi,ho,hla,hf=>by
  have hc:=D6.cuts_length l;have hi1:i+1<(D6.cuts l).length :=by omega
  have hpl:(Wf (Wz (D6.ends l))).length =2*l.length:=by rw [Qp,Ky,D6.ends_length]
  have r0:rd (Wf (Wz (D6.ends l))) i=rd (D6.cuts l) i:=Ga _ _ (by show i<(D6.cuts l).length;omega);have r1:rd (Wf (Wz (D6.ends l))) (i+1)=rd (D6.cuts l) (i+1):=Ga _ _ (by show i+1<(D6.cuts l).length;omega);have hbig:i*1000<=1000*1000:=AB _ (by omega);have hsl:=j1b l (rd (D6.cuts l) i);have hsd:D6.sec l (rd (D6.cuts l) i)=Zb (D6.inn l (rd (D6.cuts l) i)):=rfl;obtain ⟨n3,h3⟩:=u6q l hl (i+1) s.out s.last (s.first:Int) s.fin (rd (D6.cuts l) i) (rd (D6.cuts l) (i+1)) l.length 0 [] (Ah _) (Ar _);simp only [AO,A1,EB] at h3;have w1:Jf (D6.inn l (rd (D6.cuts l) i))=true:=rfl;have w2:Wa s.last (Zb (D6.inn l (rd (D6.cuts l) i)))=true:=Af (by omega);have ol:=D6.one_length l (rd (D6.cuts l) i) (rd (D6.cuts l) (i+1)) s;have st0: ∀N,Yx (Xn l) (N+n3+1) (.to (.h2 ((i+1:Nat):Int) s.out s.last (s.first:Int) s.fin ((D6.cuts l).length) (Wf (Wz (D6.ends l)))))=Yx (Xn l) N (.to (.h3 ((i+1:Nat):Int) (l.length:Int) s.out s.last (s.first:Int) s.fin ((D6.cuts l).length) (Wf (Wz (D6.ends l))) (rd (D6.cuts l) i) (rd (D6.cuts l) (i+1)) (D6.inn l (rd (D6.cuts l) i)))):=fun N=>by
   rw [<-h3 N,Zx];have e1:wrap .i64 (((i+1:Nat):Int) - 1)=(i:Int):=by rw [Yj];exact Zk (by omega)
   simp (disch:=omega) only [Xn,e1,r0,r1,Za,Zm,Zt,Zr,Ye,Yq,Ya,Zn,Zk,Zu,Yc,Zj,Ah,As,Ai,Ak,Ab,Aa]
  rcases Xz (E0 l (rd (D6.cuts l) i)) with q0 | q0
  .refine ⟨1+n3+1,?_⟩;rw [st0 1,Zx];simp only [Ce,FT,Gt,q0,Ab,Aa];have q0':(Xk (D6.inn l (rd (D6.cuts l) i)) != 0)=true:=q0;simp (disch:=omega) only [Xn,Za,Zm,Ym,q0',w1,Ab,Aa,Zd]
  have q0':(Xk (D6.inn l (rd (D6.cuts l) i)) != 0)=false:=q0;rcases Xz (decide (0<(D6.sec l (rd (D6.cuts l) i)).length)&&((s.fin == rd (D6.cuts l) i)&&D6.same s.last (D6.sec l (rd (D6.cuts l) i)))) with q | q
  .obtain ⟨n5,h5⟩:=u6o l hl (i+1) (by omega) (rd (D6.cuts l) i) (rd (D6.cuts l) (i+1)) s.fin (D6.sec l (rd (D6.cuts l) i)) s.last (s.first:Int) (D6.inn l (rd (D6.cuts l) i)) (s.out.length - s.first) s.first s.out (by omega) (by omega)
   have e:D6.one l (rd (D6.cuts l) i) (rd (D6.cuts l) (i+1)) s=⟨D6.grow s.out s.first (rd (D6.cuts l) (i+1)),s.last,s.first,rd (D6.cuts l) (i+1)⟩:=by unfold CM.one;rw [q];rfl
   obtain ⟨n0,h0⟩:=v3u k (i+1) (D6.one l (rd (D6.cuts l) i) (rd (D6.cuts l) (i+1)) s) (by omega) (by omega) (by omega) (by rw [e];exact hla) (by rw [e];simpa [CM.grow_length] using hf);refine ⟨n0+n5+1+n3+1,?_⟩;rw [st0 (n0+n5+1),Zx];simp only [Ac,Ao] at q;obtain ⟨q1,q2,q3⟩:=q;have q3':Vs s.last (Zb (D6.inn l (rd (D6.cuts l) i)))=true:=q3;rw [hsd] at q1;simp (disch:=omega) only [Xn,Za,Zm,Ym,Ys,q0',q2,q3',w1,w2,Ab,Aa];rw [<-hsd,h5 n0];simp only [Ce,FT,Gt,q0,Aa];simp only [CM.go];rw [e] at h0 ⊢;exact h0
  .obtain ⟨n4,h4⟩:=u6p l hl (i+1) (by omega) (rd (D6.cuts l) i) (rd (D6.cuts l) (i+1)) (D6.sec l (rd (D6.cuts l) i)) (D6.sec l (rd (D6.cuts l) i)) (s.out.length:Int) (D6.inn l (rd (D6.cuts l) i)) hsl (D6.sec l (rd (D6.cuts l) i)).length 0 s.out (Ah _) (by omega);simp only [AO,EB] at h4;have e:D6.one l (rd (D6.cuts l) i) (rd (D6.cuts l) (i+1)) s=⟨s.out++(D6.sec l (rd (D6.cuts l) i)).map (D6.put (rd (D6.cuts l) i) (rd (D6.cuts l) (i+1))),D6.sec l (rd (D6.cuts l) i),s.out.length,rd (D6.cuts l) (i+1)⟩:=by unfold CM.one;rw [q];rfl
   obtain ⟨n0,h0⟩:=v3u k (i+1) (D6.one l (rd (D6.cuts l) i) (rd (D6.cuts l) (i+1)) s) (by omega) (by omega) (by omega) (by rw [e];exact hsl) (by rw [e];simp);have hg:Yx (Xn l) 1 (.to (.h3 ((i+1:Nat):Int) (l.length:Int) s.out s.last (s.first:Int) s.fin ((D6.cuts l).length) (Wf (Wz (D6.ends l))) (rd (D6.cuts l) i) (rd (D6.cuts l) (i+1)) (D6.inn l (rd (D6.cuts l) i))))=.to (.h4 (rd (D6.cuts l) i) (rd (D6.cuts l) (i+1)) (D6.sec l (rd (D6.cuts l) i)) ((D6.sec l (rd (D6.cuts l) i)).length :Int) 0 (D6.sec l (rd (D6.cuts l) i)) ((i+1:Nat):Int) s.out (D6.sec l (rd (D6.cuts l) i)) (s.out.length:Int) ((D6.cuts l).length) (Wf (Wz (D6.ends l))) (D6.inn l (rd (D6.cuts l) i))):=by
    rw [show (1:Nat)=0+1 from rfl,Zx];rw [hsd] at q ⊢;have e3:D6.same s.last (Zb (D6.inn l (rd (D6.cuts l) i)))=Vs s.last (Zb (D6.inn l (rd (D6.cuts l) i))):=rfl;rw [e3] at q;by_cases q1:0<(Zb (D6.inn l (rd (D6.cuts l) i))).length
    .rw [Af q1,Ak] at q;rcases Xz (s.fin == rd (D6.cuts l) i) with q2 | q2
     .rw [q2,Ak] at q;simp (disch:=omega) only [Xn,Za,Zm,Ym,Ys,q0',q2,q,w1,w2,Ab,Aa];rfl
     .simp (disch:=omega) only [Xn,Za,Zm,Ym,Ys,q0',q2,w1,w2,Ab,Aa];rfl
    .simp (disch:=omega) only [Xn,Za,Zm,Ym,Xg,q0',w1,w2,Ab,Aa];rfl
   refine ⟨n0+n4+1+n3+1,?_⟩;rw [st0 (n0+n4+1),NP _ (n0+n4) 1,hg,h4 n0];simp only [Ce,FT,Gt,q0,Aa];simp only [CM.go];rw [e] at h0 ⊢;exact h0
theorem u6r : ∀(k i:Nat) (acc:zp),i+k=l.length->acc=D6.ends (l.take i)-> ∃n,Yx (Xn l) n (.to (.h1 (i:Int) acc))=.ret ((bif Ce l ((D6.cuts l).length - 1) 0 then Qv (D6.go l ((D6.cuts l).length - 1) 0 ⟨[],[],0,0⟩).out else FT l ((D6.cuts l).length - 1) 0))
 | 0,i,acc,h,ha=>by
  have e:acc=D6.ends l:=by rw [ha,A3 (by omega)]
  subst e;have hle:=D6.ends_length l;obtain ⟨n,hn⟩:=v3u l hl ((D6.cuts l).length - 1) 0 ⟨[],[],0,0⟩ (by omega) (Ay _) (Ay _) (Ay _) (Ay _);refine ⟨n+1,?_⟩;rw [Zx];simp (disch:=omega) only [Xn,Qm,Sh,Su,Ym,Yq,Ya,As,Ab,Aa];exact hn
 | k+1,i,acc,h,ha=>by
  have hle:=D6.ends_length (l.take i);have eH:acc.length<=2*i:=by rw [ha,hle];simp;omega
  obtain ⟨n,hn⟩:=u6r k (i+1) (acc++D6.ends [rd l i]) (by omega) (by
   rw [ha,AX];have:l[i]? =some (rd l i):=by rw [Xm (show i<l.length by omega)];exact At _
   rw [this,D6.ends_append];rfl)
  refine ⟨n+1,?_⟩;rw [Zx];simp (disch:=omega) only [Xn,Za,Zm,Zt,Zr,Ye,Yq,Ya,Zn,Zk,Zu,Yc,Zj,Ah,As,Ai,Ak,Ab,Aa];exact hn
theorem u6s : ∀(k i:Nat),i+k=l.length->(∀s∈l.take i,Kt s=true)-> ∃n,Yx (Xn l) n (.to (.h0 (i:Int)))=.ret (bif l.all Kt then (bif Ce l ((D6.cuts l).length - 1) 0 then Qv (D6.go l ((D6.cuts l).length - 1) 0 ⟨[],[],0,0⟩).out else FT l ((D6.cuts l).length - 1) 0) else UF)
 | 0,i,h,ht=>by have hv:l.all Kt=true:=Au.2 fun s hs=>ht s (by rw [A3 (by omega)];exact hs);obtain ⟨n,hn⟩:=u6r l hl l.length 0 [] (Ah _) rfl;refine ⟨n+1,?_⟩;rw [Zx,hv,Ab];simp (disch:=omega) only [Xn,Ym,Aa];exact hn
 | k+1,i,h,ht=>by
  have hi:i<l.length:=by omega
  have hs:Xn l (.h0 (i:Int))=bif Kt (rd l i) then .to (.h0 ((i+1:Nat):Int)) else .ret UF:=by have e:PU (rd l i).a (rd l i).b (rd l i).c (rd l i).d (rd l i).e (rd l i).f =Kt (rd l i):=rfl;simp (disch:=omega) only [Xn,e,Re,TZ,ZP,Zr,Zk,Zu,Zj,Ai,Ab,Aa];rfl
  rcases Xz (Kt (rd l i)) with q | q
  .obtain ⟨n,hn⟩:=u6s k (i+1) (by omega) (fun s hs=>by
    rw [AX] at hs;have e:l[i]? =some (rd l i):=by rw [Xm hi];exact At _
    rw [e] at hs;simp only [Option.toList_some,AF,BM] at hs;rcases hs with hs | rfl
    .exact ht s hs
    .exact q)
   refine ⟨n+1,?_⟩;rw [Zx,hs,q,Ab];exact hn
  .have hv:l.all Kt=false:=A5.2 fun e=>by have:=Au.1 e (rd l i) (by rw [Xm hi];exact AS hi);rw [this] at q;cases q
   refine ⟨1,?_⟩;rw [Zx,hv,Aa,hs,q,Aa,Zd]
end
theorem ZQ {l:zx}: ∀(k i:Nat),Ce l k i=false->(Gt l k i != 0)=true
 | 0,i,h=>by cases h
 | k+1,i,h=>by
  unfold Ce at h;unfold Gt;rcases Xz (E0 l (rd (D6.cuts l) i)) with q | q
  .rw [q,Ab];exact q
  .rw [q,Aa] at h ⊢;exact ZQ k (i+1) h
def Jw (l:zx):Int:=bif decide (400<l.length) then 4 else bif l.all Kt then (bif Ce l ((D6.cuts l).length - 1) 0 then DX (D6.out l).length else Gt l ((D6.cuts l).length - 1) 0) else 8
def Qx (l:zx):zx:=Dn (Jw l) (D6.out l)
def WY (l:zx):Bool:=true
theorem j2c (l:zx) (h:WY l=true): ∃n,Yx (Xn l) n (YO l)=.ret (DU (Jw l) (D6.out l)):=by
 unfold YO Jw;by_cases h:400<l.length
 .refine ⟨0,?_⟩;rw [Af h,Ys (show (l.length:Int)>400 by omega)];rfl
 .obtain ⟨n,hn⟩:=u6s l (by omega) l.length 0 (Ah _) (fun s hs=>by simp at hs);refine ⟨n,?_⟩;rw [An h,Xg (show ¬(l.length:Int)>400 by omega),Aa,Aa];rw [EB] at hn;rw [hn];rcases Xz (l.all Kt) with q | q
  .rw [q,Ab,Ab];rcases Xz (Ce l ((D6.cuts l).length - 1) 0) with q2 | q2
   .rw [q2,Ab,Ab,Y0];rfl
   .rw [q2,Aa,Aa,Kd _ (ZQ _ _ q2)];rfl
  .rw [q];rfl
def Pn :zy->Option (B9×Bool)
 | [a0]=>match CY R6 a0 with
  | some (L0,g0,n0)=>some (.tup [.dat (Qx L0).length (Zz (Qx L0)),.int .i64 (Jw L0)],CX R6 n0 g0&&(WY L0))
  | _=>none
 | _=>none
theorem j7g {S:CB} (hS:Zw prog S):Zw prog (S.with v6e Pn):=by
 refine E4 hS (by kernel_rfl) fun args v h=> ?_;unfold Pn at h;split at h
 .rename_i a0;split at h
  .rename_i L0 g0 n0 e0;simp only [Ad,Ae,Ac] at h;obtain ⟨rfl,ho0,hw⟩:=h;obtain ⟨N,hN⟩:=j2c L0 hw;exact ⟨_,_,(.cons (Yi e0 ho0) .nil),NO _ _,v9m L0 N _ hN,3,Mv _ _⟩
  .cases h
 .cases h
inductive Hb where
 | h0 (v16:Int) (aB:zp)
 | h1 (v16:Int) (aB:zp)
 | h2 (v4:Int) (aH:zx) (aS:zw) (aZ:Int) (bA:Int) (aG:Nat) (aM:zp)
 | h3 (v4:Int) (v38:Int) (aH:zx) (aS:zw) (aZ:Int) (bA:Int) (aG:Nat) (aM:zp) (aR:Int) (aY:Int) (aA:zw)
 | h4 (v4:Int) (v38:Int) (aH:zx) (aS:zw) (aZ:Int) (bA:Int) (aG:Nat) (aM:zp) (aR:Int) (aY:Int) (aA:zw) (aK:zw)
 | h5 (v1:Int) (v2:Int) (v72:zw) (v73:Int) (v74:Int) (aV:Int) (aC:zx) (bE:Int) (aG:Nat) (aM:zp) (aR:zw) (aY:zw)
 | h6 (v2:Int) (v8:Int) (bQ:Int) (bK:zw) (aV:Int) (aC:zx) (bF:zw) (bE:Int) (bP:Int) (bI:Nat) (bM:zp) (aA:zw) (aK:zw)
def GQ (q:Op) (l0:zx) (l1:zx):Hb->CI
 | .h0 v16 aB=>⟨⟨36,0,true⟩,none,(Zq prog 85 (pn 19659) 0),none,(Zy prog 5),⟨Zs [(1,(.ptr 0 0)),(3,(.ptr 2 0)),(8,(.sl 1 0 2 (.un 1))),(9,(ii 2)),(10,(ii 0)),(14,(dt l0)),(15,(ii (l0.length:Int))),(16,(ii v16))],Xe [⟨[(.sl 1 0 2 (.un 1))],137,none⟩,⟨[(dt l0),(dt l1)],45,none⟩,⟨[(.sla 7 1 0 aB.length (.un 1))],93,none⟩,⟨[(.fn 66 [])],99,none⟩,⟨[.nils],46,none⟩,⟨[(ii 0)],24,none⟩,⟨[.nils,.nils,(ii 0),(ii 0)],141,none⟩,(rz aB 3 1)] 0,8,[],true⟩,[⟨⟨65,0,true⟩,(Wr prog 53 (pn 19) 1),(Zq prog 53 (pn 19) 1),none,(Zy prog 53),Zs [(2,(.ptr 3 0)),(4,(.ptr 4 0)),(5,(.ptr 5 0)),(6,(.ptr 6 0)),(13,(.sl 1 0 2 (.un 1)))]⟩,⟨⟨27,0,true⟩,(Wr prog 65 (pn 23) 4),(Zq prog 65 (pn 23) 1),none,(Zy prog 39),Zs [(20,(.agg [(.fn 66 [])])),(23,(.sl 1 0 2 (.un 1)))]⟩,⟨⟨12,0,true⟩,(Wr prog 38 [1,0] 3),(Zq prog 38 [1,0] 1),none,(Zy prog 6),Zs [(6,(dt l0)),(7,(dt l1)),(8,(.agg [(.fn 66 [])]))]⟩],.leaf⟩
 | .h1 v16 aB=>⟨⟨36,0,true⟩,none,(Zq prog 85 (pn 19659) 0),none,(Zy prog 5),⟨Zs [(1,(.ptr 0 0)),(3,(.ptr 2 0)),(8,(.sl 1 0 2 (.un 1))),(9,(ii 2)),(10,(ii 1)),(14,(dt l1)),(15,(ii (l1.length:Int))),(16,(ii v16))],Xe [⟨[(.sl 1 0 2 (.un 1))],137,none⟩,⟨[(dt l0),(dt l1)],45,none⟩,⟨[(.sla 7 1 0 aB.length (.un 1))],93,none⟩,⟨[(.fn 66 [])],99,none⟩,⟨[.nils],46,none⟩,⟨[(ii 0)],24,none⟩,⟨[.nils,.nils,(ii 0),(ii 0)],141,none⟩,(rz aB 3 1)] 0,8,[],true⟩,[⟨⟨65,0,true⟩,(Wr prog 53 (pn 19) 1),(Zq prog 53 (pn 19) 1),none,(Zy prog 53),Zs [(2,(.ptr 3 0)),(4,(.ptr 4 0)),(5,(.ptr 5 0)),(6,(.ptr 6 0)),(13,(.sl 1 0 2 (.un 1)))]⟩,⟨⟨27,0,true⟩,(Wr prog 65 (pn 23) 4),(Zq prog 65 (pn 23) 1),none,(Zy prog 39),Zs [(20,(.agg [(.fn 66 [])])),(23,(.sl 1 0 2 (.un 1)))]⟩,⟨⟨12,0,true⟩,(Wr prog 38 [1,0] 3),(Zq prog 38 [1,0] 1),none,(Zy prog 6),Zs [(6,(dt l0)),(7,(dt l1)),(8,(.agg [(.fn 66 [])]))]⟩],.leaf⟩
 | .h2 v4 aH aS aZ bA aG aM=>⟨⟨86,0,true⟩,none,(Zq prog 111 [1,0,0] 0),none,[],⟨Zs [(0,(.yld 0)),(1,(.ptr 5 0)),(2,(.ptr 7 0)),(4,(ii v4))],Cj [(1,⟨[(.fn 66 [])],99,none⟩),(2,⟨[.nils],46,none⟩),(3,⟨[(ii 0)],24,none⟩),(4,⟨[(.sla 9 6 0 aH.length (.un 6)),(dt aS),(ii aZ),(ii bA)],141,none⟩),(5,⟨[(.sla 6 1 0 aG (.un 1))],93,none⟩),(6,(rz aM 3 1)),(7,⟨[(.sl 8 0 2 (.un 1))],137,none⟩),(8,⟨[(dt l0),(dt l1)],45,none⟩),(9,(rz aH 76 6))],10,[],true⟩,[⟨⟨65,0,true⟩,none,(.inRangeFunc 0::(Zq prog 53 (pn 43) 1)),none,(Zy prog 53),Zs [(4,(.ptr 2 0)),(5,(.ptr 3 0)),(6,(.ptr 4 0))]⟩,⟨⟨27,0,true⟩,(Wr prog 65 (pn 23) 4),(Zq prog 65 (pn 23) 1),none,(Zy prog 39),Zs [(20,(.agg [(.fn 66 [])])),(23,(.sl 8 0 2 (.un 1)))]⟩,⟨⟨12,0,true⟩,(Wr prog 38 [1,0] 3),(Zq prog 38 [1,0] 1),none,(Zy prog 6),Zs [(6,(dt l0)),(7,(dt l1)),(8,(.agg [(.fn 66 [])]))]⟩],(Co [(0,⟨.ready,none,65,Zs [(2,(.ptr 1 0)),(4,(.ptr 2 0)),(5,(.ptr 3 0)),(6,(.ptr 4 0))],[15],(Wx prog 53 [1,1,0,1,0,0]),(Wx prog 53 [1,1,0,1,0,1])⟩)])⟩
 | .h3 v4 v38 aH aS aZ bA aG aM aR aY aA=>⟨⟨86,0,true⟩,none,(Zq prog 111 (pn 629065) 0),none,[],⟨Zs [(0,(.yld 0)),(1,(.ptr 5 0)),(2,(.ptr 7 0)),(4,(ii v4)),(5,(.ptr 9 0)),(6,(ii 0)),(29,(.sl 8 0 2 (.un 1))),(30,(ii 2)),(31,(ii 0)),(36,(dt l0)),(37,(ii (l0.length:Int))),(38,(ii v38))],Cj [(1,⟨[(.fn 66 [])],99,none⟩),(2,⟨[.nils],46,none⟩),(3,⟨[(ii 0)],24,none⟩),(4,⟨[(.sla 12 6 0 aH.length (.un 6)),(dt aS),(ii aZ),(ii bA)],141,none⟩),(5,⟨[(.sla 6 1 0 aG (.un 1))],93,none⟩),(6,(rz aM 3 1)),(7,⟨[(.sl 8 0 2 (.un 1))],137,none⟩),(8,⟨[(dt l0),(dt l1)],45,none⟩),(9,⟨[(ii aR),(ii aY),(.sl 10 0 2 (.ex 2))],146,none⟩),(10,⟨[(.sla 11 4 0 aA.length (.un 4)),.nils],138,none⟩),(11,(rz aA 155 4)),(12,(rz aH 76 6))],13,[],true⟩,[⟨⟨65,0,true⟩,none,(.inRangeFunc 0::(Zq prog 53 (pn 43) 1)),none,(Zy prog 53),Zs [(4,(.ptr 2 0)),(5,(.ptr 3 0)),(6,(.ptr 4 0))]⟩,⟨⟨27,0,true⟩,(Wr prog 65 (pn 23) 4),(Zq prog 65 (pn 23) 1),none,(Zy prog 39),Zs [(20,(.agg [(.fn 66 [])])),(23,(.sl 8 0 2 (.un 1)))]⟩,⟨⟨12,0,true⟩,(Wr prog 38 [1,0] 3),(Zq prog 38 [1,0] 1),none,(Zy prog 6),Zs [(6,(dt l0)),(7,(dt l1)),(8,(.agg [(.fn 66 [])]))]⟩],(Co [(0,⟨.ready,none,65,Zs [(2,(.ptr 1 0)),(4,(.ptr 2 0)),(5,(.ptr 3 0)),(6,(.ptr 4 0))],[15],(Wx prog 53 [1,1,0,1,0,0]),(Wx prog 53 [1,1,0,1,0,1])⟩)])⟩
 | .h4 v4 v38 aH aS aZ bA aG aM aR aY aA aK=>⟨⟨86,0,true⟩,none,(Zq prog 111 (pn 629065) 0),none,[],⟨Zs [(0,(.yld 0)),(1,(.ptr 5 0)),(2,(.ptr 7 0)),(4,(ii v4)),(5,(.ptr 9 0)),(6,(ii 1)),(29,(.sl 8 0 2 (.un 1))),(30,(ii 2)),(31,(ii 1)),(36,(dt l1)),(37,(ii (l1.length:Int))),(38,(ii v38))],Cj [(1,⟨[(.fn 66 [])],99,none⟩),(2,⟨[.nils],46,none⟩),(3,⟨[(ii 0)],24,none⟩),(4,⟨[(.sla 13 6 0 aH.length (.un 6)),(dt aS),(ii aZ),(ii bA)],141,none⟩),(5,⟨[(.sla 6 1 0 aG (.un 1))],93,none⟩),(6,(rz aM 3 1)),(7,⟨[(.sl 8 0 2 (.un 1))],137,none⟩),(8,⟨[(dt l0),(dt l1)],45,none⟩),(9,⟨[(ii aR),(ii aY),(.sl 10 0 2 (.ex 2))],146,none⟩),(10,⟨[(.sla 11 4 0 aA.length (.un 4)),(.sla 12 4 0 aK.length (.un 4))],138,none⟩),(11,(rz aA 155 4)),(12,(rz aK 155 4)),(13,(rz aH 76 6))],14,[],true⟩,[⟨⟨65,0,true⟩,none,(.inRangeFunc 0::(Zq prog 53 (pn 43) 1)),none,(Zy prog 53),Zs [(4,(.ptr 2 0)),(5,(.ptr 3 0)),(6,(.ptr 4 0))]⟩,⟨⟨27,0,true⟩,(Wr prog 65 (pn 23) 4),(Zq prog 65 (pn 23) 1),none,(Zy prog 39),Zs [(20,(.agg [(.fn 66 [])])),(23,(.sl 8 0 2 (.un 1)))]⟩,⟨⟨12,0,true⟩,(Wr prog 38 [1,0] 3),(Zq prog 38 [1,0] 1),none,(Zy prog 6),Zs [(6,(dt l0)),(7,(dt l1)),(8,(.agg [(.fn 66 [])]))]⟩],(Co [(0,⟨.ready,none,65,Zs [(2,(.ptr 1 0)),(4,(.ptr 2 0)),(5,(.ptr 3 0)),(6,(.ptr 4 0))],[15],(Wx prog 53 [1,1,0,1,0,0]),(Wx prog 53 [1,1,0,1,0,1])⟩)])⟩
 | .h5 v1 v2 v72 v73 v74 aV aC bE aG aM aR aY=>⟨⟨101,0,true⟩,none,(Zq prog 87 (pn 39) 0),none,[],⟨Zs [(0,(.ptr 0 0)),(1,(ii v1)),(2,(ii v2)),(72,(dt v72)),(73,(ii v73)),(74,(ii v74))],Cj [(0,⟨[(.sla 10 6 0 aC.length (.un 6)),(dt v72),(ii bE),(ii v2)],141,none⟩),(2,⟨[(.fn 66 [])],99,none⟩),(3,⟨[.nils],46,none⟩),(4,⟨[(ii 0)],24,none⟩),(5,⟨[(.sla 6 1 0 aG (.un 1))],93,none⟩),(6,(rz aM 3 1)),(7,⟨[(.sl 8 0 2 (.un 1))],137,none⟩),(8,⟨[(dt l0),(dt l1)],45,none⟩),(9,⟨[(dt aR),(dt aY)],138,none⟩),(10,(rz aC 76 6))],11,[],true⟩,[⟨⟨65,0,true⟩,(Wr prog 53 (pn 1963) 5),(Zq prog 53 (pn 1963) 1),(some 1),[],Zs [(6,(.ptr 0 0)),(54,(ii v1)),(56,(ii v2)),(57,(dt v72))]⟩,⟨⟨86,0,true⟩,(Wr prog 111 (pn 713) 2),(Zq prog 111 (pn 713) 1),none,[],Zs [(0,(.yld 1)),(1,(.ptr 5 0)),(2,(.ptr 7 0)),(4,(ii aV)),(82,(.yld 1)),(83,(.agg [(ii v1),(ii v2),(.sl 9 0 2 (.ex 2))]))]⟩,⟨⟨65,0,true⟩,none,(.inRangeFunc 1::(Zq prog 53 (pn 43) 1)),none,(Zy prog 53),Zs [(4,(.ptr 3 0)),(5,(.ptr 4 0)),(6,(.ptr 0 0))]⟩,⟨⟨27,0,true⟩,(Wr prog 65 (pn 23) 4),(Zq prog 65 (pn 23) 1),none,(Zy prog 39),Zs [(20,(.agg [(.fn 66 [])])),(23,(.sl 8 0 2 (.un 1)))]⟩,⟨⟨12,0,true⟩,(Wr prog 38 [1,0] 3),(Zq prog 38 [1,0] 1),none,(Zy prog 6),Zs [(6,(dt l0)),(7,(dt l1)),(8,(.agg [(.fn 66 [])]))]⟩],(Co [(1,⟨.busy,none,65,Zs [(2,(.ptr 2 0)),(4,(.ptr 3 0)),(5,(.ptr 4 0)),(6,(.ptr 0 0))],[15],(Wx prog 53 [1,1,0,1,0,0]),(Wx prog 53 [1,1,0,1,0,1])⟩)])⟩
 | .h6 v2 v8 bQ bK aV aC bF bE bP bI bM aA aK=>⟨⟨101,0,true⟩,none,(Zq prog 87 (pn 146) 0),none,[],⟨Zs [(0,(.ptr 0 0)),(2,(ii v2)),(8,(ii v8))],Cj [(0,⟨[(.sla 1 6 0 aC.length (.un 6)),(dt bF),(ii bE),(ii bP)],141,none⟩),(1,(rz aC 76 6)),(3,⟨[(.fn 66 [])],99,none⟩),(4,⟨[.nils],46,none⟩),(5,⟨[(ii 0)],24,none⟩),(6,⟨[(.sla 7 1 0 bI (.un 1))],93,none⟩),(7,(rz bM 3 1)),(8,⟨[(.sl 9 0 2 (.un 1))],137,none⟩),(9,⟨[(dt l0),(dt l1)],45,none⟩),(10,⟨[(dt aA),(dt aK)],138,none⟩)],11,[],true⟩,[⟨⟨65,0,true⟩,(Wr prog 53 (pn 1963) 5),(Zq prog 53 (pn 1963) 1),(some 2),[],Zs [(6,(.ptr 0 0)),(54,(ii bQ)),(56,(ii v2)),(57,(dt bK))]⟩,⟨⟨86,0,true⟩,(Wr prog 111 (pn 713) 2),(Zq prog 111 (pn 713) 1),none,[],Zs [(0,(.yld 2)),(1,(.ptr 6 0)),(2,(.ptr 8 0)),(4,(ii aV)),(82,(.yld 2)),(83,(.agg [(ii bQ),(ii v2),(.sl 10 0 2 (.ex 2))]))]⟩,⟨⟨65,0,true⟩,none,(.inRangeFunc 2::(Zq prog 53 (pn 43) 1)),none,(Zy prog 53),Zs [(4,(.ptr 4 0)),(5,(.ptr 5 0)),(6,(.ptr 0 0))]⟩,⟨⟨27,0,true⟩,(Wr prog 65 (pn 23) 4),(Zq prog 65 (pn 23) 1),none,(Zy prog 39),Zs [(20,(.agg [(.fn 66 [])])),(23,(.sl 9 0 2 (.un 1)))]⟩,⟨⟨12,0,true⟩,(Wr prog 38 [1,0] 3),(Zq prog 38 [1,0] 1),none,(Zy prog 6),Zs [(6,(dt l0)),(7,(dt l1)),(8,(.agg [(.fn 66 [])]))]⟩],(Co [(2,⟨.busy,none,65,Zs [(2,(.ptr 3 0)),(4,(.ptr 4 0)),(5,(.ptr 5 0)),(6,(.ptr 0 0))],[15],(Wx prog 53 [1,1,0,1,0,0]),(Wx prog 53 [1,1,0,1,0,1])⟩)])⟩
def KH :List (Option zr):=[some [1,3,8,9,10,14,15,16],some [2,4,5,6,13],some [20,23],some [6,7,8]]
def KK :List (Option zr):=[]
def KG :List (Option zr):=[some [1,3,8,9,10,14,15,16],some [2,4,5,6,13],some [20,23],some [6,7,8]]
def KJ :List (Option zr):=[]
def j2h :List (Option zr):=[some [0,1,2,4],some [4,5,6],some [20,23],some [6,7,8]]
def j2i :List (Option zr):=[some [2,4,5,6],none,none,none,none,none,none,none,none,none]
def Z6 :List (Option zr):=[some [0,1,2,4,5,6,29,30,31,36,37,38],some [4,5,6],some [20,23],some [6,7,8]]
def Z3 :List (Option zr):=[some [2,4,5,6],none,none,none,none,none,none,none,none,none,none,none,none]
def Z7 :List (Option zr):=[some [0,1,2,4,5,6,29,30,31,36,37,38],some [4,5,6],some [20,23],some [6,7,8]]
def Z4 :List (Option zr):=[some [2,4,5,6],none,none,none,none,none,none,none,none,none,none,none,none,none]
def Z8 :List (Option zr):=[some [0,1,2,72,73,74],some [6,54,56,57],some [0,1,2,4,82,83],some [4,5,6],some [20,23],some [6,7,8]]
def Z5 :List (Option zr):=[none,some [2,4,5,6],none,none,none,none,none,none,none,none,none]
def KF :List (Option zr):=[some [0,2,8],some [6,54,56,57],some [0,1,2,4,82,83],some [4,5,6],some [20,23],some [6,7,8]]
def KI :List (Option zr):=[none,none,some [2,4,5,6],none,none,none,none,none,none,none,none]
def Xw (q:Op) (l0:zx) (l1:zx):Hb->Yr Hb
 | .h0 v16 aB=>let a:=rd l0 v16.toNat;(bif (decide (v16<(l0.length:Int))) then (bif ((decide (0<=v16/\v16<(l0.length:Int)))&&true) then (bif (Nat.beq 1 1&&((decide (0+aB.length=aB.length))&&decide ((aB.length+2+1)*(8+1)<=Jm))) then (.to (.h0 (wrap .i64 (v16+1)) (aB++[a.c,a.f]))) else .stuck) else .stuck) else (.to (.h1 0 aB)))
 | .h1 v16 aB=>let a:=Yy aB.length (CS (Zz (Wz (Yy aB.length (CS (Zz aB))))));let b:=rd l1 v16.toNat;(bif (decide (v16<(l1.length:Int))) then (bif ((decide (0<=v16/\v16<(l1.length:Int)))&&true) then (bif (Nat.beq 1 1&&((decide (0+aB.length=aB.length))&&decide ((aB.length+2+1)*(8+1)<=Jm))) then (.to (.h1 (wrap .i64 (v16+1)) (aB++[b.c,b.f]))) else .stuck) else .stuck) else (bif (decide (aB.length<4611686018427387904)) then (bif (decide (aB.length=aB.length)) then (.to (.h2 1 ([]:zx) ([]:zw) 0 0 (MQ a) (Wf a))) else .stuck) else .stuck))
 | .h2 v4 aH aS aZ bA aG aM=>(bif (decide (v4<((aG:Nat):Int))) then (bif ((decide (0<=(wrap .i64 (v4 - 1))/\(wrap .i64 (v4 - 1))<((aG:Nat):Int)))&&true) then (bif (decide ((0+(Int.toNat (wrap .i64 (v4 - 1))))<aM.length)) then (bif ((decide (0<=v4/\v4<((aG:Nat):Int)))&&true) then (bif (decide ((0+v4.toNat)<aM.length)) then (.to (.h3 v4 0 aH aS aZ bA aG aM (rd aM (0+(Int.toNat (wrap .i64 (v4 - 1))))) (rd aM (0+v4.toNat)) ([]:zw))) else .stuck) else .stuck) else .stuck) else .stuck) else (bif (decide ((aH.length:Int)>400)) then (.ret [.nils,(.int .i64 4)]) else (.ret [(dt aH),(.int .i64 0)])))
 | .h3 v4 v38 aH aS aZ bA aG aM aR aY aA=>let g:=rd l0 v38.toNat;(bif (decide (v38<(l0.length:Int))) then (bif ((decide (0<=v38/\v38<(l0.length:Int)))&&true) then (bif (decide (g.c <=aR)) then (bif (decide (aR<g.f)) then (bif (Nat.beq 4 4&&((decide (0+aA.length=aA.length))&&decide ((aA.length+1+1)*(32+1)<=Jm))) then (.to (.h3 v4 (wrap .i64 (v38+1)) aH aS aZ bA aG aM aR aY (aA++[(R4.mk g.a g.b g.d g.e)]))) else .stuck) else (.to (.h3 v4 (wrap .i64 (v38+1)) aH aS aZ bA aG aM aR aY aA))) else (.to (.h3 v4 (wrap .i64 (v38+1)) aH aS aZ bA aG aM aR aY aA))) else .stuck) else (.to (.h4 v4 0 aH aS aZ bA aG aM aR aY aA ([]:zw))))
 | .h4 v4 v38 aH aS aZ bA aG aM aR aY aA aK=>let g:=CA (Zb (CA aK));let h:=CA (Zb (CA aA));let i:=rd l1 v38.toNat;let j:=CA ((EK q) h g);(bif (decide (v38<(l1.length:Int))) then (bif ((decide (0<=v38/\v38<(l1.length:Int)))&&true) then (bif (decide (i.c <=aR)) then (bif (decide (aR<i.f)) then (bif (Nat.beq 4 4&&((decide (0+aK.length=aK.length))&&decide ((aK.length+1+1)*(32+1)<=Jm))) then (.to (.h4 v4 (wrap .i64 (v38+1)) aH aS aZ bA aG aM aR aY aA (aK++[(R4.mk i.a i.b i.d i.e)]))) else .stuck) else (.to (.h4 v4 (wrap .i64 (v38+1)) aH aS aZ bA aG aM aR aY aA aK))) else (.to (.h4 v4 (wrap .i64 (v38+1)) aH aS aZ bA aG aM aR aY aA aK))) else .stuck) else (bif (Jf (CA aA)) then (bif ((Xk (CA aA)) == 0) then (bif (Jf (CA aK)) then (bif ((Xk (CA aK)) == 0) then (bif ((X4 q) h g) then (bif (((Ry q) h g) != 0) then (.ret [.nils,(.int .i64 ((Ry q) h g))]) else (bif (decide (((((EK q) h g).length :Nat):Int)>0)) then (bif (bA == aR) then (bif (Wa (CA aS) j) then (bif (Vs (CA aS) j) then (.to (.h6 aY aZ aR ((EK q) h g) v4 aH aS aZ bA aG aM aA aK)) else (.to (.h5 aR aY ((EK q) h g) ((((EK q) h g).length :Nat):Int) 0 v4 aH (aH.length:Int) aG aM aA aK))) else .stuck) else (.to (.h5 aR aY ((EK q) h g) ((((EK q) h g).length :Nat):Int) 0 v4 aH (aH.length:Int) aG aM aA aK))) else (.to (.h5 aR aY ((EK q) h g) ((((EK q) h g).length :Nat):Int) 0 v4 aH (aH.length:Int) aG aM aA aK)))) else .stuck) else (.ret [.nils,(.int .i64 (Xk (CA aK)))])) else .stuck) else (.ret [.nils,(.int .i64 (Xk (CA aA)))])) else .stuck))
 | .h5 v1 v2 v72 v73 v74 aV aC bE aG aM aR aY=>let e:=rd v72 v74.toNat;(bif (decide (v74<v73)) then (bif ((decide (0<=v74/\v74<(v72.length:Int)))&&true) then (bif (Nat.beq 6 6&&((decide (0+aC.length=aC.length))&&decide ((aC.length+1+1)*(48+1)<=Jm))) then (.to (.h5 v1 v2 v72 v73 (wrap .i64 (v74+1)) aV (aC++[(R6.mk e.a e.b v1 e.c e.d v2)]) bE aG aM aR aY)) else .stuck) else .stuck) else (.to (.h2 (wrap .i64 (aV+1)) aC v72 bE v2 aG aM)))
 | .h6 v2 v8 bQ bK aV aC bF bE bP bI bM aA aK=>let f:=rd aC (0+v8.toNat);(bif (decide (v8<(aC.length:Int))) then (bif ((decide (0<=v8/\v8<(aC.length:Int)))&&true) then (bif (decide ((0+v8.toNat)<aC.length)) then (.to (.h6 v2 (wrap .i64 (v8+1)) bQ bK aV (aC.set (0+v8.toNat) (R6.mk f.a f.b f.c f.d f.e v2)) bF bE bP bI bM aA aK)) else .stuck) else .stuck) else (.to (.h2 (wrap .i64 (aV+1)) aC bF bE v2 bI bM)))
def YN (q:Op) (l0:zx) (l1:zx):Yr Hb:=(bif (Qj (CA l0)) then (bif ((Yt (CA l0)) != 0) then (.ret [.nils,(.int .i64 (Yt (CA l0)))]) else (bif (Qj (CA l1)) then (bif ((Yt (CA l1)) != 0) then (.ret [.nils,(.int .i64 (Yt (CA l1)))]) else (.to (.h0 0 ([]:zp)))) else .stuck)) else .stuck)
theorem w8c (q:Op) (l0:zx) (l1:zx): ∀s,Xx prog (Zy prog 38) (GQ q l0 l1) (GQ q l0 l1 s) (Xw q l0 l1 s):=by cases q <;> refine (?f: ∀q:Op,∀s,Xx prog (Zy prog 38) (GQ q l0 l1) (GQ q l0 l1 s) (Xw q l0 l1 s)) _ <;> exact fun q=>fun
 | .h0 v16 aB=>(lb (fun k0=>(lo fun o0=>(lo fun o1=>let e:=rd l0 (tn v16);let d:=e;let a:=aB++[d.c,d.f];let h:=aB++[e.c,e.f];let i:=aB.length+2;let b:=xL i h.length;let g:=Zf (Zz aB) 0 aB.length 1 [(ii e.c),(ii e.f)];(sl Wo 34 [] ⟨[0,1,2,3,4,5,6,10],[],KH,KK⟩ ⟨[],[.keep,.keep,.cells [.len a.length],.keep,.keep,.keep,.keep,.rowed 1 a.length (Zz a)],[]⟩ [true] (pp b (pp b (pp (xS i g (Zz h)) (pp (pp (xF g) nn) (ww o1 (ww o0 (tt k0 nn))))))))))) (fun k0=>(sl Wo 36 [] ⟨(List.range 8),[],KG,KJ⟩ a6 (bl 2 2) (pp (fl aB nn) (tt k0 nn)))))
 | .h1 v16 aB=>(lb (fun k0=>(lo fun o0=>(lo fun o1=>let j:=rd l1 (tn v16);let b:=aB++[j.c,j.f];let d:=xL (aB.length+2) (aB++[(rd l1 (tn v16)).c,(rd l1 (tn v16)).f]).length;(sl Wo 34 [] ⟨[0,1,2,3,4,5,6,10],[],KG,KJ⟩ ⟨[],[.keep,.keep,.cells [.len b.length],.keep,.keep,.keep,.keep,.rowed 1 b.length (Zz b)],[]⟩ [true] (pp d (pp d (pp (xS (aB.length+2) (Zf (Zz aB) 0 aB.length 1 [(ii (rd l1 (tn v16)).c),(ii (rd l1 (tn v16)).f)]) (Zz (aB++[(rd l1 (tn v16)).c,(rd l1 (tn v16)).f]))) (pp (pp (xF (Zf (Zz aB) 0 aB.length 1 [(ii (rd l1 (tn v16)).c),(ii (rd l1 (tn v16)).f)])) nn) (ww o1 (ww o0 (tt k0 nn))))))))))) (fun k0=>(lo fun o0=>(lo fun o1=>let a:=Wf (Yy aB.length (CS (Zz (Wz (Yy aB.length (CS (Zz aB)))))));let e:=xG (Nat.beq 1 1);let g:=xG (decide (aB.length<4611686018427387904));let h:=xG (decide (aB.length=aB.length));let i:=xG (Nat.beq 0 0);(sl Wo 46 [(76,6,Zz ([]:zx))] ⟨[8,3,4,5,6,2,7,0,1,9],[],j2h,j2i⟩ ⟨[],(DG 4 [.cells [.grow 9 6,.list 0 (Zz ([]:zw)),.keep,.keep],.keep,.rowed 1 a.length (Zz a),.keep,.keep,.keep]),[]⟩ (bl 2 0) (pp (xL aB.length (Wf (Yy aB.length (CS (Zz (Wz (Yy aB.length (CS (Zz aB)))))))).length (by first | exact S8 _ _ | exact Us rfl)) (pp (xS aB.length (Zz (Wf (Yy aB.length (CS (Zz (Wz (Yy aB.length (CS (Zz aB))))))))) (Zz (Wf (Yy aB.length (CS (Zz (Wz (Yy aB.length (CS (Zz aB)))))))))) (pp (fl a (fl ([]:zx) nn)) (pp (pp e (pp e (pp i (pp h (pp (xG (FB (Zz (Wz (Yy aB.length (CS (Zz aB))))))) g))))) (pp (pp e (pp e (pp i (pp h (pp (xG (FB (Zz aB))) g))))) (tt k0 nn)))))))))))
 | .h2 v4 aH aS aZ bA aG aM=>(lb (fun k0=>(lo fun o0=>(lo fun o1=>(lo fun o2=>(lo fun o3=>(sl Wo 48 [(155,4,Zz ([]:zw))] ⟨[0,1,2,3,4,5,6,7,8,10,11,12,9],[],Z6,Z3⟩ ⟨[],(DG 10 [.cells [.grow 11 4,.keep],.keep,.keep]),[]⟩ (CK 3 []) (pp (fl aM (fl ([]:zw) (fl aH nn))) (ww o3 (ww o2 (ww o1 (ww o0 (tt k0 nn)))))))))))) (fun k0=>(lb (fun k1=>(lr 12 3 (pn 767) 1 6 [(4,.nils),(5,(ii 4))] (sl Wo 39 [] (a7 [4,5]) a6 (bl 2 2) (tt k1 (tt k0 nn))))) (fun k1=>(lr 12 3 (pn 767) 1 6 [(4,(dt aH)),(5,(ii 0))] (sl Wo 42 [] ⟨[],[9],[some [4,5]],[]⟩ ⟨[(4,.frz aH.length aH.length (Zz aH) (Zz aH))],[],[]⟩ (bl 2 0) (pp (xZ (Cv 6 6 0 aH.length aH.length (Zz aH)) aH.length (Zz aH)) (pp (xL aH.length aH.length) (pp (xS aH.length (Zz aH) (Zz aH)) (pp (fl aH nn) (tt k1 (tt k0 nn))))))))))))
 | .h3 v4 v38 aH aS aZ bA aG aM aR aY aA=>(lb (fun k0=>(lo fun aL=>let h:=ww aL (tt k0 nn);let i:=fl aM (fl aA (fl aH nn));let j:=List.range 13;(lb (fun k1=>(lb (fun k2=>(lo fun o0=>let l:=rd l0 (tn v38);let g:=l;let c:=aA++[(R4.mk g.a g.b g.d g.e)];let n:=aA++[(R4.mk l.a l.b l.d l.e)];let o:=aA.length+1;let f:=xL o n.length;let m:=Zf (Zz aA) 0 aA.length 4 [(ii l.a),(ii l.b),(ii l.d),(ii l.e)];(sl Wo 41 [] ⟨[0,1,2,3,4,5,6,7,8,9,10,15,12],[],Z6,Z3⟩ ⟨[],(DG 10 [.cells [.len c.length,.keep],.rowed 4 c.length (Zz c),.keep]),[]⟩ (CK 8 []) (pp f (pp f (pp (xS o m (Zz n)) (pp (fl aM (pp (xF m) (fl aH nn))) (ww o0 (tt k2 (tt k1 h)))))))))) (fun k2=>(sl Wo 41 [] ⟨j,[],Z6,Z3⟩ a6 (CK 7 [false]) (pp i (tt k2 (tt k1 h))))))) (fun k1=>(sl Wo 41 [] ⟨j,[],Z6,Z3⟩ a6 (bl 8 1) (pp i (tt k1 h))))))) (fun k0=>(sl Wo 38 [(155,4,Zz ([]:zw))] ⟨[0,1,2,3,4,5,6,7,8,9,10,11,13,12],[],Z7,Z4⟩ ⟨[],(DG 10 [.cells [.keep,.grow 12 4],.keep,.keep,.keep]),[]⟩ (bl 2 2) (pp (fl aM (fl aA (fl ([]:zw) (fl aH nn)))) (tt k0 nn)))))
 | .h4 v4 v38 aH aS aZ bA aG aM aR aY aA aK=>(lb (fun k0=>(lo fun aL=>let o:=ww aL (tt k0 nn);let p:=fl aM (fl aA (fl aK (fl aH nn)));let G:=List.range 14;(lb (fun k1=>(lb (fun k2=>(lo fun o0=>let J:=rd l1 (tn v38);let l:=J;let c:=aK++[(R4.mk l.a l.b l.d l.e)];let N:=aK++[(R4.mk J.a J.b J.d J.e)];let P:=aK.length+1;let h:=xL P N.length;let M:=Zf (Zz aK) 0 aK.length 4 [(ii J.a),(ii J.b),(ii J.d),(ii J.e)];(sl Wo 41 [] ⟨[0,1,2,3,4,5,6,7,8,9,10,11,16,13],[],Z7,Z4⟩ ⟨[],(DG 10 [.cells [.keep,.len c.length],.keep,.rowed 4 c.length (Zz c),.keep]),[]⟩ (CK 8 []) (pp h (pp h (pp (xS P M (Zz N)) (pp (fl aM (fl aA (pp (xF M) (fl aH nn)))) (ww o0 (tt k2 (tt k1 o)))))))))) (fun k2=>(sl Wo 41 [] ⟨G,[],Z7,Z4⟩ a6 (CK 7 [false]) (pp p (tt k2 (tt k1 o))))))) (fun k1=>(sl Wo 41 [] ⟨G,[],Z7,Z4⟩ a6 (bl 8 1) (pp p (tt k1 o))))))) (fun k0=>let f:=Co [(0,⟨.busy,none,65,Zs [(2,(.ptr 1 0)),(4,(.ptr 2 0)),(5,(.ptr 3 0)),(6,(.ptr 4 0))],[15],(Wx prog 53 [1,1,0,1,0,0]),(Wx prog 53 [1,1,0,1,0,1])⟩)];let i:=xZ (Cv 4 4 0 aA.length aA.length (Zz aA)) aA.length (Zz aA);let m:=Wr prog 111 (pn 713) 2;let n:=Zq prog 111 (pn 713) 1;let s:=xS aA.length (Zz aA) (Zz aA);let w:=Zq prog 53 (pn 43) 1;let y:=Wr prog 65 (pn 23) 4;let z:=Zq prog 65 (pn 23) 1;let A:=xL aA.length aA.length;let D:=Wr prog 38 [1,0] 3;let E:=Zq prog 38 [1,0] 1;let H:=Zy prog 53;let I:=Zy prog 39;let Q:=rz aH 76 6;(Ve (sl Wo (C':=⟨⟨65,0,true⟩,(Wr prog 53 (pn 299) 4),(Zq prog 53 (pn 299) 1),(some 0),[],⟨Zs [(2,(.ptr 1 0)),(4,(.ptr 2 0)),(5,(.ptr 3 0)),(6,(.ptr 4 0)),(7,(.ptr 6 0)),(20,(dt aA))],Cj [(1,⟨[(.fn 66 [])],99,none⟩),(2,⟨[.nils],46,none⟩),(3,⟨[(ii 0)],24,none⟩),(4,⟨[(.sla 5 6 0 aH.length (.un 6)),(dt aS),(ii aZ),(ii bA)],141,none⟩),(5,Q),(6,⟨[(ii aR),(ii aY),(.sl 7 0 2 (.ex 2))],146,none⟩),(7,⟨[(dt aA),(.sla 8 4 0 aK.length (.un 4))],138,none⟩),(8,(rz aK 155 4)),(9,⟨[(.sla 10 1 0 aG (.un 1))],93,none⟩),(10,(rz aM 3 1)),(11,⟨[(.sl 12 0 2 (.un 1))],137,none⟩),(12,⟨[(dt l0),(dt l1)],45,none⟩)],13,[],true⟩,[⟨⟨86,0,true⟩,m,n,none,[],Zs [(0,(.yld 0)),(1,(.ptr 9 0)),(2,(.ptr 11 0)),(4,(ii v4)),(82,(.yld 0)),(83,(.agg [(ii aR),(ii aY),(.sl 7 0 2 (.ex 2))]))]⟩,⟨⟨65,0,true⟩,none,(.inRangeFunc 0::w),none,H,Zs [(4,(.ptr 2 0)),(5,(.ptr 3 0)),(6,(.ptr 4 0))]⟩,⟨⟨27,0,true⟩,y,z,none,I,Zs [(20,(.agg [(.fn 66 [])])),(23,(.sl 12 0 2 (.un 1)))]⟩,⟨⟨12,0,true⟩,D,E,none,(Zy prog 6),Zs [(6,(dt l0)),(7,(dt l1)),(8,(.agg [(.fn 66 [])]))]⟩],f⟩) 37 [] ⟨[0,1,2,3,4,13,14,10,12,5,6,7,8],[11],[some [2,4,5,6,7,20],some [0,1,2,4,82,83],some [4,5,6],some [20,23],some [6,7,8]],[some [2,4,5,6],none,none,none,none,none,none,none,none,none,none,none,none]⟩ ⟨[(20,.frz aA.length aA.length (Zz aA) (Zz aA))],[.keep,.keep,.keep,.keep,.keep,.keep,.keep,.cells [.frz aA.length aA.length (Zz aA) (Zz aA),.keep],.keep,.keep,.keep,.keep,.keep],[]⟩ (bl 2 0) (pp i (pp A (pp s (pp i (pp A (pp s (pp (fl aH (fl aK (fl aM nn))) (pp (fl aA nn) (tt k0 nn)))))))))) (lo fun aL=>let u:=pp (pp (xr aA) (xw aL)) nn;(lb (fun k1=>let j:=xZ (Cv 4 4 0 aK.length aK.length (Zz aK)) aK.length (Zz aK);let t:=xS aK.length (Zz aK) (Zz aK);let L:=Zb (CA aA);let B:=L;let C:=xL aK.length aK.length;let F:=fl aH (fl aM nn);let R:=pn 2831019;(Ve (sl Wo (C':=⟨⟨65,0,true⟩,(Wr prog 53 R 1),(Zq prog 53 R 1),(some 0),[],⟨Zs [(2,(.ptr 1 0)),(4,(.ptr 2 0)),(5,(.ptr 3 0)),(6,(.ptr 4 0)),(7,(.ptr 6 0)),(8,(dt B)),(26,(.sl 7 1 1 (.ex 1))),(27,(ii 1)),(28,(ii 0)),(35,(dt aK))],Cj [(1,⟨[(.fn 66 [])],99,none⟩),(2,⟨[.nils],46,none⟩),(3,⟨[(ii 0)],24,none⟩),(4,⟨[(.sla 5 6 0 aH.length (.un 6)),(dt aS),(ii aZ),(ii bA)],141,none⟩),(5,Q),(6,⟨[(ii aR),(ii aY),(.sl 7 0 2 (.ex 2))],146,none⟩),(7,⟨[(dt aA),(dt aK)],138,none⟩),(8,⟨[(.sla 9 1 0 aG (.un 1))],93,none⟩),(9,(rz aM 3 1)),(10,⟨[(.sl 11 0 2 (.un 1))],137,none⟩),(11,⟨[(dt l0),(dt l1)],45,none⟩)],12,[],true⟩,[⟨⟨86,0,true⟩,m,n,none,[],Zs [(0,(.yld 0)),(1,(.ptr 8 0)),(2,(.ptr 10 0)),(4,(ii v4)),(82,(.yld 0)),(83,(.agg [(ii aR),(ii aY),(.sl 7 0 2 (.ex 2))]))]⟩,⟨⟨65,0,true⟩,none,(.inRangeFunc 0::w),none,H,Zs [(4,(.ptr 2 0)),(5,(.ptr 3 0)),(6,(.ptr 4 0))]⟩,⟨⟨27,0,true⟩,y,z,none,I,Zs [(20,(.agg [(.fn 66 [])])),(23,(.sl 11 0 2 (.un 1)))]⟩,⟨⟨12,0,true⟩,D,E,none,(Zy prog 6),Zs [(6,(dt l0)),(7,(dt l1)),(8,(.agg [(.fn 66 [])]))]⟩],f⟩) 46 [] ⟨[0,1,2,3,4,5,6,7,9,10,11,12],[8],[some [2,4,5,6,7,8,26,27,28,35],some [0,1,2,4,82,83],some [4,5,6],some [20,23],some [6,7,8]],[some [2,4,5,6],none,none,none,none,none,none,none,none,none,none,none]⟩ ⟨[(35,.frz aK.length aK.length (Zz aK) (Zz aK))],[.keep,.keep,.keep,.keep,.keep,.keep,.keep,.cells [.keep,.frz aK.length aK.length (Zz aK) (Zz aK)],.keep,.keep,.keep,.keep],[]⟩ (bl 2 3) (pp j (pp C (pp t (pp j (pp C (pp t (pp F (pp (fl aK nn) (tt k1 u)))))))))) (lo fun bO=>let v:=pp (pp (xr aK) (xw bO)) nn;(lb (fun k2=>(lo fun bS=>let g:=tt k2 v;let K:=Zb (CA aK);(lb (fun k3=>(lr 12 3 (pn 767) 1 6 [(4,.nils),(5,(ii ((Ry q) (CA B) (CA K))))] (sl Wo 69 [] (a7 [4,5]) a6 (bl 4 13) (tt k3 (pp (pp (xI R4 L.length (Zz L)) (pp (xI R4 K.length (Zz K)) (xw bS))) g))))) (fun k3=>let r:=fl aM (fl aH nn);(lb (fun k4=>(lb (fun k5=>(lo fun cU=>let O:=Zz ((EK q) (CA L) (CA K));(lb (fun k6=>(sl Wo 88 [] ⟨[4,5,0,1,2,3,8,9,10,11,7],[],KF,KI⟩ a6 (bl 16 65529) (pp F (tt k6 (pp (pp (xr aS) (pp (xI R4 ((EK q) (CA L) (CA K)).length O) (xw cU))) (tt k5 (tt k4 (tt k3 (pp (pp (xI R4 L.length (Zz L)) (pp (xI R4 K.length (Zz K)) (xw bS))) g))))))))) (fun k6=>(sl Wo 108 [] ⟨[4,0,1,2,3,8,9,10,11,7,5],[],Z8,Z5⟩ a6 (bl 16 32761) (pp r (tt k6 (pp (pp (xr aS) (pp (xI R4 ((EK q) (CA L) (CA K)).length O) (xw cU))) (tt k5 (tt k4 (tt k3 (pp (pp (xI R4 L.length (Zz L)) (pp (xI R4 K.length (Zz K)) (xw bS))) g)))))))))))) (fun k5=>(sl Wo 108 [] ⟨[4,0,1,2,3,8,9,10,11,7,5],[],Z8,Z5⟩ a6 (bl 16 505) (pp r (tt k5 (tt k4 (tt k3 (pp (pp (xI R4 L.length (Zz L)) (pp (xI R4 K.length (Zz K)) (xw bS))) g))))))))) (fun k4=>(sl Wo 108 [] ⟨[4,0,1,2,3,8,9,10,11,7,5],[],Z8,Z5⟩ a6 (bl 16 1) (pp r (tt k4 (tt k3 (pp (pp (xI R4 L.length (Zz L)) (pp (xI R4 K.length (Zz K)) (xw bS))) g))))))))))) (fun k2=>(lr 12 3 (pn 767) 1 6 [(4,.nils),(5,(ii (Xk (CA aK))))] (sl Wo 58 [] (a7 [4,5]) a6 (bl 4 12) (yt (Mc k2) (tt k2 v))))))))) (fun k1=>(lr 12 3 (pn 767) 1 6 [(4,.nils),(5,(ii (Xk (CA aA))))] (sl Wo 84 [] (a7 [4,5]) a6 (bl 5 25) (yt (Mc k1) (tt k1 u))))))))))
 | .h5 v1 v2 v72 v73 v74 aV aC bE aG aM aR aY=>(lb (fun k0=>(lo fun o0=>(lo fun o1=>let h:=rd v72 (tn v74);let g:=h;let e:=aC++[(R6.mk g.a g.b v1 g.c g.d v2)];let j:=aC++[(R6.mk h.a h.b v1 h.c h.d v2)];let l:=aC.length+1;let f:=xL l j.length;let i:=Zf (Zz aC) 0 aC.length 6 [(ii h.a),(ii h.b),(ii v1),(ii h.c),(ii h.d),(ii v2)];(sl Wo 23 [] ⟨[0,1,2,3,4,5,6,7,8,9,13],[],Z8,Z5⟩ ⟨[],[.cells [.len e.length,.keep,.keep,.keep],.keep,.keep,.keep,.keep,.keep,.keep,.keep,.keep,.keep,.rowed 6 e.length (Zz e)],[]⟩ [true] (pp f (pp f (pp (xS l i (Zz j)) (pp (fl aM (pp (xF i) nn)) (ww o1 (ww o0 (tt k0 nn))))))))))) (fun k0=>(sl Wo 22 [] ⟨[1,2,3,4,0,5,6,7,8,10],[],j2h,j2i⟩ a6 (bl 2 0) (pp (fl aM (fl aC nn)) (tt k0 nn)))))
 | .h6 v2 v8 bQ bK aV aC bF bE bP bI bM aA aK=>(lb (fun k0=>(lo fun o0=>(lo fun o1=>let i:=rd aC (0+(tn v8));let h:=i;let f:=aC.set (0+(tn v8)) (R6.mk h.a h.b h.c h.d h.e v2);let j:=aC.set (0+(tn v8)) (R6.mk i.a i.b i.c i.d i.e v2);let g:=xL aC.length j.length;let l:=Xi (Zz aC) (0+(tn v8)) 5 [(ii v2)];(sl Wo 34 [] ⟨(List.range 11),[],KF,KI⟩ ⟨[],[.cells [.len f.length,.keep,.keep,.keep],.rowed 6 f.length (Zz f),.keep,.keep,.keep,.keep,.keep,.keep,.keep,.keep,.keep],[]⟩ [true] (pp g (pp g (pp (xS aC.length l (Zz j)) (pp (pp (xF l) (fl bM nn)) (ww o1 (ww o0 (tt k0 nn))))))))))) (fun k0=>(sl Wo 36 [] ⟨[2,3,4,5,0,6,7,8,9,1],[],j2h,j2i⟩ a6 (bl 2 0) (pp (fl bM (fl aC nn)) (tt k0 nn)))))
theorem x8o (q:Op) (l0:zx) (l1:zx):Xx prog (Zy prog 38) (GQ q l0 l1) (Zp prog 38 [(dt l0),(dt l1)] true []) (YN q l0 l1):=by cases q <;> exact (lo fun bG=>(lb (fun k0=>(lr 12 3 (pn 767) 1 6 [(4,.nils),(5,(ii (Yt (CA l0))))] (sl Wo 42 [] (a7 [4,5]) a6 [true] (tt k0 (pp (pp (xr l0) (xw bG)) nn))))) (fun k0=>(lo fun aL=>(lb (fun k1=>(lr 12 3 (pn 767) 1 6 [(4,.nils),(5,(ii (Yt (CA l1))))] (sl Wo 56 [] (a7 [4,5]) a6 (bl 2 2) (tt k1 (pp (pp (xr l1) (xw aL)) (tt k0 (pp (pp (xr l0) (xw bG)) nn))))))) (fun k1=>(sl Wo 108 [(3,1,Zz ([]:zp))] ⟨[6,1,7,2,3,4,5,8],[],KH,KK⟩ ⟨[],[.keep,.keep,.cells [.grow 7 1],.keep,.keep,.keep,.keep,.keep],[]⟩ (bl 3 4) (pp (fl ([]:zp) nn) (tt k1 (pp (pp (xr l1) (xw aL)) (tt k0 (pp (pp (xr l0) (xw bG)) nn))))))))))))
theorem v9r (q:Op) (l0:zx) (l1:zx) (n:Nat) (vs:zy) (h:Yx (Xw q l0 l1) n (YN q l0 l1)=.ret vs):Vi prog (Zy prog 38) (Zp prog 38 [(dt l0),(dt l1)] true []) vs:=by have:=Zg (w8c q l0 l1) n _ (x8o q l0 l1);rwa [h] at this
theorem y1x (l:zw):(Xk l == 0)= !(Xk l != 0):=by grind
def C8 (q:Op) (a b:zx) (x:Int):zw:=Dx q.k (Zb (D6.inn a x)) (Zb (D6.inn b x))
def Ck (q:Op) (a b:zx) (x:Int):Int:=bif Xk (D6.inn a x) != 0 then Xk (D6.inn a x) else bif Xk (D6.inn b x) != 0 then Xk (D6.inn b x) else FX q (Zb (D6.inn a x)) (Zb (D6.inn b x))
theorem w5i {q:Op} {a b:zw} (h:FX q a b=0):DO a=0/\DO b=0/\(Dx q.k a b).length <=400:=by
 unfold FX at h;cases g1:(DO a != 0) with
 | true=>grind
 | false=>
  cases g2:(DO b != 0) with
  | true=>grind
  | false=>
   rw [g1,g2,Aa,Aa] at h;unfold eJ at h;refine ⟨by grind,by grind,?_⟩;revert h;generalize Ct (DV q a b) _ _ _=e;intro h;cases g3:(e != 0) with
   | true=>grind
   | false=>simp_all [TD]
theorem x2a {q:Op} {a b:zx} {x:Int} (h:Ck q a b x=0):Xk (D6.inn a x)=0/\Xk (D6.inn b x)=0/\FX q (Zb (D6.inn a x)) (Zb (D6.inn b x))=0:=by
 grind [Ck]
theorem j2j (q:Op) (a b:zx) (x:Int) (h:(Ck q a b x != 0)=false):(C8 q a b x).length <=1000:=
 AG (w5i (x2a (by simpa using h)).2.2).2.2 (by omega)
section
variable (q:Op) (a b:zx) (ha:a.length<=400) (hb:b.length<=400)
include ha hb
theorem u6w (i:Nat) (out:zx) (last:zw) (first fin x x':Int): ∀(k j:Nat) (acc:zw),j+k=a.length->acc.length<=j->
  ∃n,∀N,Yx (Xw q a b) (N+n) (.to (.h3 (i:Int) (j:Int) out last first fin ((D6.cuts (a++b)).length) (Wf (Wz (D6.ends (a++b)))) x x' acc))=Yx (Xw q a b) N (.to (.h4 (i:Int) 0 out last first fin ((D6.cuts (a++b)).length) (Wf (Wz (D6.ends (a++b)))) x x' (acc++D6.inn (a.drop j) x) []))
 | 0,j,acc,h,h'=>by
  have _u:=ha;have _v:=hb;refine ⟨1,fun N=> ?_⟩;rw [Av (by omega),show D6.inn ([]:zx) x=[] from rfl,AA,Zx]
  grind [Xw]
 | k+1,j,acc,h,h'=>by
  have hj:j<a.length:=by omega
  obtain ⟨n,hn⟩:=u6w i out last first fin x x' k (j+1) (acc++D6.inn [rd a j] x) (by omega) (by have:=D6.inn_length [rd a j] x;grind)
  refine ⟨n+1,fun N=> ?_⟩;have e:D6.inn (a.drop j) x=D6.inn [rd a j] x++D6.inn (a.drop (j+1)) x:=by rw [Yo hj,<-D6.inn_append];rfl
  rw [e,<-AL,Zx,<-AH,<-hn N];by_cases h1:D6.lo (rd a j)<=x
  .by_cases h2:x<D6.hi (rd a j)
   .rw [D6.inn_t _ _ h1 h2];simp only [D6] at h1 h2 ⊢;simp (disch:=omega) only [Xw,Xs,Za,Zm,Zt,Zr,Ye,Yq,Ya,Zn,Zk,Zu,Yc,Zj,Ah,As,Ai,Ak,Ab,Aa]
   .rw [D6.inn_f2 _ _ h2,AA];simp only [D6] at h1 h2;simp (disch:=omega) only [Xw,Xs,Ym,Za,Zm,Zt,Zr,Ye,Yq,Ya,Zn,Zk,Zu,Yc,Zj,Ah,As,Ai,Ak,Ab,Aa]
  .rw [D6.inn_f1 _ _ h1,AA];simp only [D6] at h1;simp (disch:=omega) only [Xw,EU,Za,Zm,Zt,Zr,Ye,Yq,Ya,Zn,Zk,Zu,Yc,Zj,Ah,As,Ai,Ak,Ab,Aa]
theorem u6v (i:Nat) (out:zx) (last:zw) (first fin x x':Int) (o1:zw): ∀(k j:Nat) (acc:zw),j+k=b.length->acc.length<=j->
  ∃n,∀N,Yx (Xw q a b) (N+n) (.to (.h4 (i:Int) (j:Int) out last first fin ((D6.cuts (a++b)).length) (Wf (Wz (D6.ends (a++b)))) x x' o1 acc))=Yx (Xw q a b) N (.to (.h4 (i:Int) (b.length:Int) out last first fin ((D6.cuts (a++b)).length) (Wf (Wz (D6.ends (a++b)))) x x' o1 (acc++D6.inn (b.drop j) x)))
 | 0,j,acc,h,h'=>by have _u:=ha;have _v:=hb;refine ⟨0,fun N=> ?_⟩;rw [Av (by omega),show D6.inn ([]:zx) x=[] from rfl,AA,Bg,show j=b.length by omega]
 | k+1,j,acc,h,h'=>by
  have hj:j<b.length:=by omega
  obtain ⟨n,hn⟩:=u6v i out last first fin x x' o1 k (j+1) (acc++D6.inn [rd b j] x) (by omega) (by have:=D6.inn_length [rd b j] x;grind)
  refine ⟨n+1,fun N=> ?_⟩;have e:D6.inn (b.drop j) x=D6.inn [rd b j] x++D6.inn (b.drop (j+1)) x:=by rw [Yo hj,<-D6.inn_append];rfl
  rw [e,<-AL,Zx,<-AH,<-hn N];by_cases h1:D6.lo (rd b j)<=x
  .by_cases h2:x<D6.hi (rd b j)
   .rw [D6.inn_t _ _ h1 h2];simp only [D6] at h1 h2 ⊢;simp (disch:=omega) only [Xw,Xs,Za,Zm,Zt,Zr,Ye,Yq,Ya,Zn,Zk,Zu,Yc,Zj,Ah,As,Ai,Ak,Ab,Aa]
   .rw [D6.inn_f2 _ _ h2,AA];simp only [D6] at h1 h2;simp (disch:=omega) only [Xw,Xs,Ym,Za,Zm,Zt,Zr,Ye,Yq,Ya,Zn,Zk,Zu,Yc,Zj,Ah,As,Ai,Ak,Ab,Aa]
  .rw [D6.inn_f1 _ _ h1,AA];simp only [D6] at h1;simp (disch:=omega) only [Xw,EU,Za,Zm,Zt,Zr,Ye,Yq,Ya,Zn,Zk,Zu,Yc,Zj,Ah,As,Ai,Ak,Ab,Aa]
theorem u6u (i:Nat) (hi:i<=2000) (x x':Int) (s:zw) (first:Int) (o1 o2:zw) (hs:s.length<=1000): ∀(k j:Nat) (out:zx),j+k=s.length->out.length<=10000000+j->
  ∃n,∀N,Yx (Xw q a b) (N+n) (.to (.h5 x x' s (s.length:Int) (j:Int) (i:Int) out first ((D6.cuts (a++b)).length) (Wf (Wz (D6.ends (a++b)))) o1 o2))=Yx (Xw q a b) N (.to (.h2 ((i+1:Nat):Int) (out++(s.drop j).map (D6.put x x')) s first x' ((D6.cuts (a++b)).length) (Wf (Wz (D6.ends (a++b))))))
 | 0,j,out,h,ho=>by
  have _u:=ha;have _v:=hb;refine ⟨1,fun N=> ?_⟩
  grind [Zx,Xw,Zk]
 | k+1,j,out,h,ho=>by
  obtain ⟨n,hn⟩:=u6u i hi x x' s first o1 o2 hs k (j+1) (out++[D6.put x x' (rd s j)]) (by omega) (by simp;omega)
  refine ⟨n+1,fun N=> ?_⟩;have:=hn N;rw [Yo (show j<s.length by omega),A0,<-AL,Zx];simp (disch:=omega) only [Xw,Za,Zm,Zt,Zr,Ye,Yq,Ya,Zn,Zk,Zu,Yc,Zj,Ah,As,Ai,Ak,Ab,Aa];rw [AH] at this;exact this
theorem u6t (i:Nat) (hi:i<=2000) (x x' fin:Int) (s last:zw) (first:Int) (o1 o2:zw): ∀(k j:Nat) (out:zx),j+k=out.length->out.length<=10000000->
  ∃n,∀N,Yx (Xw q a b) (N+n) (.to (.h6 x' (j:Int) x s (i:Int) out last first fin ((D6.cuts (a++b)).length) (Wf (Wz (D6.ends (a++b)))) o1 o2))=Yx (Xw q a b) N (.to (.h2 ((i+1:Nat):Int) (D6.grow out j x') last first x' ((D6.cuts (a++b)).length) (Wf (Wz (D6.ends (a++b))))))
 | 0,j,out,h,ho=>by
  have _u:=ha;have _v:=hb;refine ⟨1,fun N=> ?_⟩;rw [D6.grow_nil _ _ _ (by omega),Zx]
  grind [Xw,Zk]
 | k+1,j,out,h,ho=>by
  obtain ⟨n,hn⟩:=u6t i hi x x' fin s last first o1 o2 k (j+1) (out.set j (D6.ext x' (rd out j))) (by simp;omega) (by grind)
  refine ⟨n+1,fun N=> ?_⟩;have:=hn N;rw [D6.grow_set out j _ (by omega)] at this;rw [<-AL,Zx];simp (disch:=omega) only [Xw,Za,Zm,Zt,Zr,Ye,Yq,Ya,Zn,Zk,Zu,Yc,Zj,Ah,As,Ai,Ak,Ab,Aa];exact this
theorem v3v : ∀(k i:Nat) (s:Sw R6 R4),k=(D6.cuts (a++b)).length - 1 - i->i<=(D6.cuts (a++b)).length ->s.out.length<=i*1000->s.last.length<=1000->s.first<=s.out.length->
  ∃n,Yx (Xw q a b) n (.to (.h2 ((i+1:Nat):Int) s.out s.last (s.first:Int) s.fin ((D6.cuts (a++b)).length) (Wf (Wz (D6.ends (a++b))))))=.ret (DU (eJ (Ct (Ck q a b) (D6.cuts (a++b)) k i) (D6.goS (C8 q a b) (D6.cuts (a++b)) k i s).out.length) (D6.goS (C8 q a b) (D6.cuts (a++b)) k i s).out)
 | 0,i,s,h,hi,ho,hla,hf=>by
  have _u:=ha;have _v:=hb;have hc:=D6.cuts_length (a++b);refine ⟨1,?_⟩;rw [Zx,show D6.goS (C8 q a b) (D6.cuts (a++b)) 0 i s=s from rfl,show Ct (Ck q a b) (D6.cuts (a++b)) 0 i=0 from rfl,w5j]
  grind [Qv,Xw,Zd]
 | k +1,i,s,h,hi,ho,hla,hf=>by
  have hc:=D6.cuts_length (a++b);rw [AK] at hc;have hi1:i+1<(D6.cuts (a++b)).length :=by omega
  have hpl:(Wf (Wz (D6.ends (a++b)))).length =2*(a.length+b.length):=by rw [Qp,Ky,D6.ends_length,AK]
  have r0:rd (Wf (Wz (D6.ends (a++b)))) i=rd (D6.cuts (a++b)) i:=Ga _ _ (by show i<(D6.cuts (a++b)).length;omega);have r1:rd (Wf (Wz (D6.ends (a++b)))) (i+1)=rd (D6.cuts (a++b)) (i+1):=Ga _ _ (by show i+1<(D6.cuts (a++b)).length;omega);have hbig:i*1000<=2000*1000:=AB _ (by omega);have hgo:D6.goS (C8 q a b) (D6.cuts (a++b)) (k+1) i s=D6.goS (C8 q a b) (D6.cuts (a++b)) k (i+1) (D6.oneS (C8 q a b (rd (D6.cuts (a++b)) i)) (rd (D6.cuts (a++b)) i) (rd (D6.cuts (a++b)) (i+1)) s):=rfl;have hfe: ∀x,x=rd (D6.cuts (a++b)) i->(Ck q a b x != 0)=false->Ct (Ck q a b) (D6.cuts (a++b)) (k+1) i=Ct (Ck q a b) (D6.cuts (a++b)) k (i+1):=fun x hx z=>by
   show (bif Ck q a b (rd (D6.cuts (a++b)) i) != 0 then _ else _)=_
   grind
  revert hgo hfe r0;generalize hx:rd (D6.cuts (a++b)) i=x;generalize hx':rd (D6.cuts (a++b)) (i+1)=x' at r1;intro r0 hgo hfe;obtain ⟨n3,h3⟩:=u6w q a b ha hb (i+1) s.out s.last (s.first:Int) s.fin x x' a.length 0 [] (Ah _) (Ar _);simp only [AO,A1,EB] at h3;obtain ⟨n4,h4⟩:=u6v q a b ha hb (i+1) s.out s.last (s.first:Int) s.fin x x' (D6.inn a x) b.length 0 [] (Ah _) (Ar _);simp only [AO,A1,EB] at h4;have st0: ∀N,Yx (Xw q a b) (N+n4+n3+1) (.to (.h2 ((i+1:Nat):Int) s.out s.last (s.first:Int) s.fin ((D6.cuts (a++b)).length) (Wf (Wz (D6.ends (a++b))))))=Yx (Xw q a b) N (.to (.h4 ((i+1:Nat):Int) (b.length:Int) s.out s.last (s.first:Int) s.fin ((D6.cuts (a++b)).length) (Wf (Wz (D6.ends (a++b)))) x x' (D6.inn a x) (D6.inn b x))):=fun N=>by
   rw [<-h4 N,<-h3 (N+n4),Zx];have e1:wrap .i64 (((i+1:Nat):Int) - 1)=(i:Int):=by rw [Yj];exact Zk (by omega)
   simp (disch:=omega) only [Xw,e1,r0,r1,Za,Zm,Zt,Zr,Ye,Yq,Ya,Zn,Zk,Zu,Yc,Zj,Ah,As,Ai,Ak,Ab,Aa]
  have w1:Jf (D6.inn a x)=true:=rfl;have w3:Jf (D6.inn b x)=true:=rfl;have w4:X4 q (Zb (D6.inn a x)) (Zb (D6.inn b x))=true:=rfl;rcases Xz (Ck q a b x != 0) with z | z
  .refine ⟨1+n4+n3+1,?_⟩;rw [st0 1,Zx];have e:Ct (Ck q a b) (D6.cuts (a++b)) (k+1) i=Ck q a b x:=by show (bif Ck q a b (rd (D6.cuts (a++b)) i) != 0 then Ck q a b (rd (D6.cuts (a++b)) i) else _)=_;grind
   rw [e,show eJ (Ck q a b x) _=Ck q a b x by unfold eJ;rw [z];rfl,Kd _ z];unfold Ck at z ⊢;rcases Xz (Xk (D6.inn a x) != 0) with y1 | y1
   .simp (disch:=omega) only [Xw,Ym,y1x,y1,Aw,w1,w3,w4,Za,Zm,Zt,Zr,Ye,Yq,Ya,Zn,Zk,Zu,Yc,Zj,Ah,As,Ai,Ak,Ab,Aa,Zd]
   .rcases Xz (Xk (D6.inn b x) != 0) with y2 | y2
    .simp (disch:=omega) only [Xw,Ym,y1x,y1,y2,Aw,Az,w1,w3,w4,Za,Zm,Zt,Zr,Ye,Yq,Ya,Zn,Zk,Zu,Yc,Zj,Ah,As,Ai,Ak,Ab,Aa,Zd]
    .rw [y1,y2,Aa,Aa] at z;have z':(Ry q (Zb (D6.inn a x)) (Zb (D6.inn b x)) != 0)=true:=z;simp (disch:=omega) only [Xw,Ym,y1x,y1,y2,z',Az,w1,w3,w4,Za,Zm,Zt,Zr,Ye,Yq,Ya,Zn,Zk,Zu,Yc,Zj,Ah,As,Ai,Ak,Ab,Aa,Zd];rfl
  obtain ⟨y1,y2,y3⟩:=x2a (show Ck q a b x=0 by simpa using z);have y1:(Xk (D6.inn a x) == 0)=true:=by rw [y1];rfl
  have y2:(Xk (D6.inn b x) == 0)=true:=by rw [y2];rfl
  have z':(Ry q (Zb (D6.inn a x)) (Zb (D6.inn b x)) != 0)=false:=by show (FX q _ _ != 0)=false;rw [y3];rfl
  have v:EK q (Zb (D6.inn a x)) (Zb (D6.inn b x))=C8 q a b x:=x6l _ z';have hsl:=j2j q a b x z;have w2:Wa s.last (C8 q a b x)=true:=Af (by omega);rw [hgo,hfe x rfl z];have ol:(D6.oneS (C8 q a b x) x x' s).out.length <=s.out.length+(C8 q a b x).length :=by
   grind [CM.oneS,CM.grow_length]
  rcases Xz (decide (0<(C8 q a b x).length)&&((s.fin == x)&&D6.same s.last (C8 q a b x))) with g | g
  .obtain ⟨n6,h6⟩:=u6t q a b ha hb (i+1) (by omega) x x' s.fin (C8 q a b x) s.last (s.first:Int) (D6.inn a x) (D6.inn b x) (s.out.length - s.first) s.first s.out (by omega) (by omega)
   have e:D6.oneS (C8 q a b x) x x' s=⟨D6.grow s.out s.first x',s.last,s.first,x'⟩:=by unfold CM.oneS;rw [g];rfl
   obtain ⟨n0,h0⟩:=v3v k (i+1) (D6.oneS (C8 q a b x) x x' s) (by omega) (by omega) (by omega) (by grind) (by grind [CM.grow_length]);refine ⟨n0+n6+1+n4+n3+1,?_⟩;rw [st0 (n0+n6+1),Zx];simp only [Ac,Ao] at g;obtain ⟨g1,g2,g3⟩:=g;have g3':Vs s.last (C8 q a b x)=true:=g3;simp (disch:=omega) only [Xw,Ym,Ys,y1,y2,z',v,g2,g3',w1,w3,w4,w2,Za,Zm,Zt,Zr,Ye,Yq,Ya,Zn,Zk,Zu,Yc,Zj,Ah,As,Ai,Ak,Ab,Aa]
   grind
  .obtain ⟨n5,h5⟩:=u6u q a b ha hb (i+1) (by omega) x x' (C8 q a b x) (s.out.length:Int) (D6.inn a x) (D6.inn b x) hsl (C8 q a b x).length 0 s.out (Ah _) (by omega);simp only [AO,EB] at h5;have e:D6.oneS (C8 q a b x) x x' s=⟨s.out++(C8 q a b x).map (D6.put x x'),C8 q a b x,s.out.length,x'⟩:=by unfold CM.oneS;rw [g];rfl
   obtain ⟨n0,h0⟩:=v3v k (i+1) (D6.oneS (C8 q a b x) x x' s) (by omega) (by omega) (by omega) (by grind) (by rw [e];simp);have hg:Yx (Xw q a b) 1 (.to (.h4 ((i+1:Nat):Int) (b.length:Int) s.out s.last (s.first:Int) s.fin ((D6.cuts (a++b)).length) (Wf (Wz (D6.ends (a++b)))) x x' (D6.inn a x) (D6.inn b x)))=.to (.h5 x x' (C8 q a b x) ((C8 q a b x).length :Int) 0 ((i+1:Nat):Int) s.out (s.out.length:Int) ((D6.cuts (a++b)).length) (Wf (Wz (D6.ends (a++b)))) (D6.inn a x) (D6.inn b x)):=by
    rw [show (1:Nat)=0+1 from rfl,Zx];have e3:D6.same s.last (C8 q a b x)=Vs s.last (C8 q a b x):=rfl;rw [e3] at g;by_cases g1:0<(C8 q a b x).length
    .rw [Af g1,Ak] at g;rcases Xz (s.fin == x) with g2 | g2
     .rw [g2,Ak] at g;simp (disch:=omega) only [Xw,Ym,Ys,y1,y2,z',v,g2,g,w1,w3,w4,w2,Za,Zm,Zt,Zr,Ye,Yq,Ya,Zn,Zk,Zu,Yc,Zj,Ah,As,Ai,Ak,Ab,Aa];rfl
     .simp (disch:=omega) only [Xw,Ym,Ys,y1,y2,z',v,g2,w1,w3,w4,w2,Za,Zm,Zt,Zr,Ye,Yq,Ya,Zn,Zk,Zu,Yc,Zj,Ah,As,Ai,Ak,Ab,Aa];rfl
    .simp (disch:=omega) only [Xw,Ym,Xg,y1,y2,z',v,w1,w3,w4,w2,Za,Zm,Zt,Zr,Ye,Yq,Ya,Zn,Zk,Zu,Yc,Zj,Ah,As,Ai,Ak,Ab,Aa];rfl
   refine ⟨n0+n5+1+n4+n3+1,?_⟩;simp_all [NP]
theorem u6x : ∀(k i:Nat) (acc:zp),i+k=b.length->acc=D6.ends (a++b.take i)-> ∃n,Yx (Xw q a b) n (.to (.h1 (i:Int) acc))=.ret (DU (eJ (Ct (Ck q a b) (D6.cuts (a++b)) ((D6.cuts (a++b)).length - 1) 0) (D6.goS (C8 q a b) (D6.cuts (a++b)) ((D6.cuts (a++b)).length - 1) 0 ⟨[],[],0,0⟩).out.length) (D6.goS (C8 q a b) (D6.cuts (a++b)) ((D6.cuts (a++b)).length - 1) 0 ⟨[],[],0,0⟩).out)
 | 0,i,acc,h,h'=>by
  have _u:=ha;have _v:=hb;have e:acc=D6.ends (a++b):=by grind
  subst e;have hle:=D6.ends_length (a++b);rw [AK] at hle;obtain ⟨n,hn⟩:=v3v q a b ha hb ((D6.cuts (a++b)).length - 1) 0 ⟨[],[],0,0⟩ (by omega) (Ay _) (Ay _) (Ay _) (Ay _);refine ⟨n+1,?_⟩;rw [Zx];simp (disch:=omega) only [Xw,Qm,Sh,Su,Ym,Yq,Ya,As,Ab,Aa];exact hn
 | k+1,i,acc,h,h'=>by
  have hle:acc.length<=2*(400+i):=by rw [h',D6.ends_length];grind
  obtain ⟨n,hn⟩:=u6x k (i+1) (acc++D6.ends [rd b i]) (by omega) (by
   rw [h',AX]
   grind [Xm,CM.ends])
  refine ⟨n+1,?_⟩;rw [Zx];simp (disch:=omega) only [Xw,Za,Zm,Zt,Zr,Ye,Yq,Ya,Zn,Zk,Zu,Yc,Zj,Ah,As,Ai,Ak,Ab,Aa];exact hn
theorem u6y : ∀(k i:Nat) (acc:zp),i+k=a.length->acc=D6.ends (a.take i)-> ∃n,Yx (Xw q a b) n (.to (.h0 (i:Int) acc))=.ret (DU (eJ (Ct (Ck q a b) (D6.cuts (a++b)) ((D6.cuts (a++b)).length - 1) 0) (D6.goS (C8 q a b) (D6.cuts (a++b)) ((D6.cuts (a++b)).length - 1) 0 ⟨[],[],0,0⟩).out.length) (D6.goS (C8 q a b) (D6.cuts (a++b)) ((D6.cuts (a++b)).length - 1) 0 ⟨[],[],0,0⟩).out)
 | 0,i,acc,h,h'=>by
  have _u:=ha;have _v:=hb;obtain ⟨n,hn⟩:=u6x q a b ha hb b.length 0 acc (Ah _) (by grind);refine ⟨n+1,?_⟩
  grind [Zx,Xw]
 | k+1,i,acc,h,h'=>by
  have hle:acc.length<=2*(400+i):=by rw [h',D6.ends_length];grind
  obtain ⟨n,hn⟩:=u6y k (i+1) (acc++D6.ends [rd a i]) (by omega) (by
   rw [h',AX]
   grind [Xm,CM.ends])
  refine ⟨n+1,?_⟩;rw [Zx];simp (disch:=omega) only [Xw,Za,Zm,Zt,Zr,Ye,Yq,Ya,Zn,Zk,Zu,Yc,Zj,Ah,As,Ai,Ak,Ab,Aa];exact hn
end
def Fx (q:Op) (a b:zx):zx:=(D6.goS (C8 q a b) (D6.cuts (a++b)) ((D6.cuts (a++b)).length - 1) 0 ⟨[],[],0,0⟩).out
def Gq (q:Op) (a b:zx):Int:=bif Yt a != 0 then Yt a else bif Yt b != 0 then Yt b else eJ (Ct (Ck q a b) (D6.cuts (a++b)) ((D6.cuts (a++b)).length - 1) 0) (Fx q a b).length
def EW (q:Op) (a b:zx):zx:=Dn (Gq q a b) (Fx q a b)
def DL (q:Op) (a b:zx):Int:=Gq q a b
def x1z (q:Op) (a b:zx):Bool:=true
theorem W7 {l:zx} (h:(Yt l != 0)=false):l.length<=400:=by
 grind [Yt]
theorem Nu (q:Op) (a b:zx) (h:x1z q a b=true): ∃n,Yx (Xw q a b) n (YN q a b)=.ret (DU (Gq q a b) (Fx q a b)):=by
 unfold YN;have o: ∀l,Qj l=true:=fun _=>rfl;simp only [Za,o,Ab];rcases Xz (Yt a != 0) with q1 | q1
 .exact ⟨0,by simp only [Gq,q1,Ab,Kd _ q1];rfl⟩
 rcases Xz (Yt b != 0) with q2 | q2
 .exact ⟨0,by simp only [Gq,q1,q2,Ab,Aa,Kd _ q2];rfl⟩
 obtain ⟨n,hn⟩:=u6y q a b (W7 q1) (W7 q2) a.length 0 [] (Ah _) rfl;refine ⟨n,?_⟩;simp only [Gq,q1,q2,Aa];exact hn
def fSl (q:Op):zy->Option (B9×Bool)
 | [a0,a1]=>match CY R6 a0,CY R6 a1 with
  | some (L0,g0,n0),some (L1,g1,n1)=>some (.tup [.dat (EW q L0 L1).length (Zz (EW q L0 L1)),.int .i64 (DL q L0 L1)],CX R6 n0 g0&&(CX R6 n1 g1&&(x1z q L0 L1)))
  | _,_=>none
 | _=>none
theorem Po (q:Op) {S:CB} (hS:Zw prog S):Zw prog (S.with (nSl q) (fSl q)):=by
 refine E4 hS (by cases q <;> kernel_rfl) fun args v h=> ?_;unfold fSl at h;split at h
 .rename_i a0 a1;split at h
  .rename_i L0 g0 n0 L1 g1 n1 e0 e1;simp only [Ad,Ae,Ac] at h;obtain ⟨rfl,ho0,ho1,hw⟩:=h;obtain ⟨N,hN⟩:=Nu q L0 L1 hw;exact ⟨_,_,(.cons (Yi e0 ho0) (.cons (Yi e1 ho1) .nil)),NO _ _,v9r q L0 L1 N _ hN,3,Mv _ _⟩
  .cases h
 .cases h
theorem VQ {n:Nat} {j:Int} (h0:0<=j) (h:j<(n:Int)):(decide ((0:Int)<=j/\j<((n:Nat):Int))&&true)=true:=by rw [Ai];exact Af ⟨h0,h⟩
def Sv0 :CB:=(WB.with v6e Pn).with (nSl .u) (fSl .u)
theorem NT :Zw prog Sv0:=Po .u (j7g t0e)
inductive Ii where
def Pc (aF:Int) (aQ:Int) (aP:Int) (aO:Int) (aD:Int) (aI:Int) (aJ:Int):Ii->CI
 :=nofun
def w3h (aF:Int) (aQ:Int) (aP:Int) (aO:Int) (aD:Int) (aI:Int) (aJ:Int):Ii->Yr Ii
 :=nofun
def XL (aF:Int) (aQ:Int) (aP:Int) (aO:Int) (aD:Int) (aI:Int) (aJ:Int):Yr Ii:=(bif ((CW aF aQ aP aO) != 0) then (.ret [(.agg [(.int .i64 0),(.int .i64 0),(.int .i64 0)]),(.int .i64 (CW aF aQ aP aO))]) else (bif (decide ((Jc (Jc aD aI) aJ)>=(-1000000))) then (bif (!(decide ((Jd (Jd aD aI) aJ)<=1000000))) then (.ret [(.agg [(.int .i64 0),(.int .i64 0),(.int .i64 0)]),(.int .i64 2)]) else (bif (Ut aF aQ aP aO aD aI aJ) then (bif (decide ((Jc (Jc (CU aF aQ aP aO aD aI aJ).a (CU aF aQ aP aO aD aI aJ).b) (CU aF aQ aP aO aD aI aJ).c)>=(-1000000))) then (bif (!(decide ((Jd (Jd (CU aF aQ aP aO aD aI aJ).a (CU aF aQ aP aO aD aI aJ).b) (CU aF aQ aP aO aD aI aJ).c)<=1000000))) then (.ret [(.agg [(.int .i64 0),(.int .i64 0),(.int .i64 0)]),(.int .i64 16)]) else (.ret [(.agg [(.int .i64 (CU aF aQ aP aO aD aI aJ).a),(.int .i64 (CU aF aQ aP aO aD aI aJ).b),(.int .i64 (CU aF aQ aP aO aD aI aJ).c)]),(.int .i64 0)])) else (.ret [(.agg [(.int .i64 0),(.int .i64 0),(.int .i64 0)]),(.int .i64 16)])) else .stuck)) else (.ret [(.agg [(.int .i64 0),(.int .i64 0),(.int .i64 0)]),(.int .i64 2)])))
theorem v1r (aF:Int) (aQ:Int) (aP:Int) (aO:Int) (aD:Int) (aI:Int) (aJ:Int): ∀s,Xx prog (Zy prog 61) (Pc aF aQ aP aO aD aI aJ) (Pc aF aQ aP aO aD aI aJ s) (w3h aF aQ aP aO aD aI aJ s)
 :=nofun
theorem w3i (aF:Int) (aQ:Int) (aP:Int) (aO:Int) (aD:Int) (aI:Int) (aJ:Int):Xx prog (Zy prog 61) (Pc aF aQ aP aO aD aI aJ) (Zp prog 61 [(.agg [(.int .u8 aF),(.int .i64 aQ),(.int .i64 aP),(.int .i64 aO)]),(.agg [(.int .i64 aD),(.int .i64 aI),(.int .i64 aJ)])] true []) (XL aF aQ aP aO aD aI aJ):=let e:=Zy prog 61;(lb (fun k0=>(Yu ⟨⟨25,0,true⟩,none,(Zq prog 61 (pn 77) 1),none,e,⟨Zs [(4,(.ptr 0 0)),(5,(ii (CW aF aQ aP aO)))],Xe [⟨[(ii 0),(ii 0),(ii 0)],34,none⟩] 0,1,[],true⟩,[],.leaf⟩ (sl NT 27 [] ⟨[2],[],[some [4,5]],[]⟩ a6 [true] (tt k0 nn)) rfl (by kernel_rfl))) (fun k0=>let h:=Zq prog 61 (pn 75) 1;(lb (fun k1=>let i:=tt k1 (tt k0 nn);(lb (fun k2=>(Yu ⟨⟨25,0,true⟩,none,h,none,e,⟨Zs [(4,(.ptr 0 0)),(5,(ii 2))],Xe [⟨[(ii 0),(ii 0),(ii 0)],34,none⟩] 0,1,[],true⟩,[],.leaf⟩ (sl NT 64 [] ⟨[2],[],[some [4,5]],[]⟩ a6 (bl 10 1022) (tt k2 i)) rfl (by kernel_rfl))) (fun k2=>(lo fun bS=>let d:=ww bS (tt k2 i);let g:=Zq prog 61 (pn 303) 1;(lb (fun k3=>(lb (fun k4=>(Yu ⟨⟨25,0,true⟩,none,g,none,e,⟨Zs [(4,(.ptr 0 0)),(5,(ii 16))],Xe [⟨[(ii 0),(ii 0),(ii 0)],34,none⟩] 0,1,[],true⟩,[],.leaf⟩ (sl NT 109 [] ⟨[2],[],[some [4,5]],[]⟩ a6 (bl 19 523774) (tt k4 (tt k3 d))) rfl (by kernel_rfl))) (fun k4=>let f:=CU aF aQ aP aO aD aI aJ;(Yu ⟨⟨25,0,true⟩,none,(Zq prog 3 (pn 767) 1),none,e,⟨Zs [(4,(.ptr 0 0)),(5,(ii 0))],Xe [⟨[(ii f.a),(ii f.b),(ii f.c)],34,none⟩] 0,1,[],true⟩,[],.leaf⟩ (sl NT 110 [] ⟨[2],[],[some [4,5]],[]⟩ a6 (bl 19 261630) (tt k4 (tt k3 d))) rfl (by kernel_rfl))))) (fun k3=>(Yu ⟨⟨25,0,true⟩,none,g,none,e,⟨Zs [(4,(.ptr 0 0)),(5,(ii 16))],Xe [⟨[(ii 0),(ii 0),(ii 0)],34,none⟩] 0,1,[],true⟩,[],.leaf⟩ (sl NT 109 [] ⟨[2],[],[some [4,5]],[]⟩ a6 (bl 19 262654) (tt k3 d)) rfl (by kernel_rfl)))))))) (fun k1=>(Yu ⟨⟨25,0,true⟩,none,h,none,e,⟨Zs [(4,(.ptr 0 0)),(5,(ii 2))],Xe [⟨[(ii 0),(ii 0),(ii 0)],34,none⟩] 0,1,[],true⟩,[],.leaf⟩ (sl NT 64 [] ⟨[2],[],[some [4,5]],[]⟩ a6 (bl 10 512) (tt k1 (tt k0 nn))) rfl (by kernel_rfl))))))
theorem u4x (aF:Int) (aQ:Int) (aP:Int) (aO:Int) (aD:Int) (aI:Int) (aJ:Int) (n:Nat) (vs:zy) (h:Yx (w3h aF aQ aP aO aD aI aJ) n (XL aF aQ aP aO aD aI aJ)=.ret vs):Vi prog (Zy prog 61) (Zp prog 61 [(.agg [(.int .u8 aF),(.int .i64 aQ),(.int .i64 aP),(.int .i64 aO)]),(.agg [(.int .i64 aD),(.int .i64 aI),(.int .i64 aJ)])] true []) vs:=by have:=Zg (v1r aF aQ aP aO aD aI aJ) n _ (w3i aF aQ aP aO aD aI aJ);rwa [h] at this
def EN (t a b c x y z:Int):Int:=bif CW t a b c != 0 then CW t a b c else bif GZ x y z then (bif GZ (CU t a b c x y z).a (CU t a b c x y z).b (CU t a b c x y z).c then 0 else 16) else 2
def Zh (t a b c x y z:Int):R3:=bif EN t a b c x y z != 0 then ⟨0,0,0⟩ else CU t a b c x y z
def S5 (t a b c x y z:Int):Bool:=decide (0<=t)
theorem v6u (x y z:Int):GZ x y z=(decide (Jc (Jc x y) z>=(-1000000))&&decide (Jd (Jd x y) z<=1000000)):=by rw [AU,ZA,Ac,Ao,Ao,GF,GF,GE,GE];omega
theorem j6y (t a b c x y z:Int) (ho:S5 t a b c x y z=true): ∃N,Yx (w3h t a b c x y z) N (XL t a b c x y z)=.ret [.agg [.int .i64 (Zh t a b c x y z).a,.int .i64 (Zh t a b c x y z).b,.int .i64 (Zh t a b c x y z).c],.int .i64 (EN t a b c x y z)]:=⟨0,by
 unfold XL Zh EN;rw [v6u,v6u];cases q:CW t a b c != 0 with
 | true=>simp only [Ab,q];rfl
 | false=>
  have hf:Ut t a b c x y z=true:=It q (Ax ho);rw [hf];cases decide (Jc (Jc x y) z>=(-1000000)) <;> cases decide (Jd (Jd x y) z<=1000000) <;> cases decide (Jc (Jc (CU t a b c x y z).a (CU t a b c x y z).b) (CU t a b c x y z).c >=(-1000000)) <;> cases decide (Jd (Jd (CU t a b c x y z).a (CU t a b c x y z).b) (CU t a b c x y z).c <=1000000) <;> rfl⟩
def QS :zy->Option (B9×Bool)
 | [.agg [.int .u8 t,.int .i64 a,.int .i64 b,.int .i64 c],.agg [.int .i64 x,.int .i64 y,.int .i64 z]]=>some (.tup [.agg [.int .i64 (Zh t a b c x y z).a,.int .i64 (Zh t a b c x y z).b,.int .i64 (Zh t a b c x y z).c],.int .i64 (EN t a b c x y z)],S5 t a b c x y z)
 | _=>none
theorem j9i {S:CB} (hS:Zw prog S):Zw prog (S.with V7 QS):=by
 refine Kv hS (by kernel_rfl) fun args v h=> ?_;unfold QS at h;split at h
 .rename_i t a b c x y z;simp only [Ad,Ae] at h;obtain ⟨rfl,ho⟩:=h;obtain ⟨N,hN⟩:=j6y t a b c x y z ho;exact ⟨_,_,(.cons (.refl _) (.cons (.refl _) .nil)),rfl,u4x t a b c x y z N _ hN,3,rfl⟩
 .cases h
def Sv1 :CB:=Sv0.with V7 QS
theorem HL :Zw prog Sv1:=j9i NT
inductive IQ where
 | h0 (v8:zx) (v27:Int)
def Og (l0:zx) (aD:Int) (aI:Int) (aJ:Int) (aN:Int):IQ->CI
 | .h0 v8 v27=>⟨⟨92,0,true⟩,none,(Zq prog 36 (pn 303) 0),none,(Zy prog 6),⟨Zs [(3,(.ptr 0 0)),(8,(.sla 1 6 0 v8.length (.un 6))),(25,(dt l0)),(26,(ii (l0.length:Int))),(27,(ii v27))],Xe [⟨[(.int .u8 aD),(ii aI),(ii aJ),(ii aN)],36,none⟩,(rz v8 76 6)] 0,2,[],true⟩,[],.leaf⟩
def Lx :List (Option zr):=[some [3,8,25,26,27]]
def Ly :List (Option zr):=[]
def Iv (l0:zx) (aD:Int) (aI:Int) (aJ:Int) (aN:Int):IQ->Yr IQ
 | .h0 v8 v27=>let g:=rd l0 v27.toNat;let h:=Zh aD aI aJ aN g.d g.e g.f;let i:=Zh aD aI aJ aN g.a g.b g.c;(bif (decide (v27<(l0.length:Int))) then (bif ((decide (0<=v27/\v27<(l0.length:Int)))&&true) then (bif (S5 aD aI aJ aN g.a g.b g.c) then (bif (S5 aD aI aJ aN g.d g.e g.f) then (bif ((EN aD aI aJ aN g.a g.b g.c) != 0) then (.ret [.nils,(.int .i64 16)]) else (bif ((EN aD aI aJ aN g.d g.e g.f) != 0) then (.ret [.nils,(.int .i64 16)]) else (bif (Nat.beq 6 6&&((decide (0+v8.length=v8.length))&&decide ((v8.length+1+1)*(48+1)<=Jm))) then (.to (.h0 (v8++[(R6.mk (Jc i.a h.a) (Jc i.b h.b) (Jc i.c h.c) (Jd i.a h.a) (Jd i.b h.b) (Jd i.c h.c))]) (wrap .i64 (v27+1)))) else .stuck))) else .stuck) else .stuck) else .stuck) else (bif (WY (CA v8)) then (.ret [(.dat (Qx (CA v8)).length (Zz (Qx (CA v8)))),(.int .i64 (Jw (CA v8)))]) else .stuck))
def XX (l0:zx) (aD:Int) (aI:Int) (aJ:Int) (aN:Int):Yr IQ:=(bif (Qj (CA l0)) then (bif ((Yt (CA l0)) != 0) then (.ret [.nils,(.int .i64 (Yt (CA l0)))]) else (bif ((CW aD aI aJ aN) != 0) then (.ret [.nils,(.int .i64 (CW aD aI aJ aN))]) else (.to (.h0 ([]:zx) 0)))) else .stuck)
theorem v0d (l0:zx) (aD:Int) (aI:Int) (aJ:Int) (aN:Int): ∀s,Xx prog (Zy prog 36) (Og l0 aD aI aJ aN) (Og l0 aD aI aJ aN s) (Iv l0 aD aI aJ aN s)
 | .h0 v8 v27=>(lb (fun k0=>(lo fun aL=>(lo fun aT=>(lo fun bR=>let m:=ww bR (ww aT (ww aL (tt k0 nn)));(lb (fun k1=>(lr 92 36 (pn 619311) 1 6 [(4,.nils),(5,(ii 16))] (sl HL 58 [] (a7 [4,5]) a6 (CK 4 []) (tt k1 m)))) (fun k1=>(lb (fun k2=>(lr 92 36 (pn 619311) 1 6 [(4,.nils),(5,(ii 16))] (sl HL 58 [] (a7 [4,5]) a6 (bl 4 9) (tt k2 (tt k1 m))))) (fun k2=>(lo fun o0=>let o:=rd l0 (tn v27);let i:=o;let j:=Zh aD aI aJ aN i.a i.b i.c;let l:=Zh aD aI aJ aN i.d i.e i.f;let g:=v8++[(R6.mk (Jc j.a l.a) (Jc j.b l.b) (Jc j.c l.c) (Jd j.a l.a) (Jd j.b l.b) (Jd j.c l.c))];let p:=Zh aD aI aJ aN o.a o.b o.c;let q:=Zh aD aI aJ aN o.d o.e o.f;let u:=Jc p.a q.a;let v:=Jc p.b q.b;let w:=Jc p.c q.c;let y:=Jd p.a q.a;let z:=Jd p.b q.b;let A:=Jd p.c q.c;let s:=v8++[(R6.mk u v w y z A)];let t:=v8.length+1;let h:=xL t s.length;let r:=Zf (Zz v8) 0 v8.length 6 [(ii u),(ii v),(ii w),(ii y),(ii z),(ii A)];(sl HL 99 [] ⟨[0,6],[],Lx,Ly⟩ ⟨[(8,.len g.length)],[.keep,.rowed 6 g.length (Zz g)],[]⟩ (bl 4 1) (pp h (pp h (pp (xS t r (Zz s)) (pp (pp (xF r) nn) (ww o0 (tt k2 (tt k1 m))))))))))))))))) (fun k0=>(Ve (sl HL (C':=⟨⟨92,0,true⟩,(Wr prog 36 (pn 95) 1),(Zq prog 36 (pn 95) 1),none,(Zy prog 6),⟨Zs [(88,(dt v8))],Xe [] 0,0,[],true⟩,[],.leaf⟩) 10 [] ⟨[],[1],[some [88]],[]⟩ ⟨[(88,.frz v8.length v8.length (Zz v8) (Zz v8))],[],[]⟩ [false] (pp (xZ (Cv 6 6 0 v8.length v8.length (Zz v8)) v8.length (Zz v8)) (pp (xL v8.length v8.length) (pp (xS v8.length (Zz v8) (Zz v8)) (pp (fl v8 nn) (tt k0 nn)))))) (lo fun o0=>let n:=Qx (CA v8);(lr 92 3 (pn 767) 1 6 [(4,(dt n)),(5,(ii (Jw (CA v8))))] (sl HL 6 [] (a7 [4,5]) a6 [] (pp (pp (xr v8) (xw o0)) nn)))))))
theorem w1g (l0:zx) (aD:Int) (aI:Int) (aJ:Int) (aN:Int):Xx prog (Zy prog 36) (Og l0 aD aI aJ aN) (Zp prog 36 [(dt l0),(.agg [(.int .u8 aD),(.int .i64 aI),(.int .i64 aJ),(.int .i64 aN)])] true []) (XX l0 aD aI aJ aN):=(lo fun bG=>let a:=pp (pp (xr l0) (xw bG)) nn;(lb (fun k0=>(lr 92 36 (pn 77) 1 6 [(4,.nils),(5,(ii (Yt (CA l0))))] (sl HL 25 [] (a7 [4,5]) a6 [true] (tt k0 a)))) (fun k0=>(lb (fun k1=>(lr 92 36 (pn 155) 1 6 [(4,.nils),(5,(ii (CW aD aI aJ aN)))] (sl HL 39 [] (a7 [4,5]) a6 (bl 2 2) (tt k1 (tt k0 a))))) (fun k1=>(sl HL 47 [(76,6,Zz ([]:zx))] ⟨[0,1],[],Lx,Ly⟩ ⟨[(8,.grow 1 6)],[],[]⟩ (bl 2 0) (pp (fl ([]:zx) nn) (tt k1 (tt k0 a)))))))))
theorem u2y (l0:zx) (aD:Int) (aI:Int) (aJ:Int) (aN:Int) (n:Nat) (vs:zy) (h:Yx (Iv l0 aD aI aJ aN) n (XX l0 aD aI aJ aN)=.ret vs):Vi prog (Zy prog 36) (Zp prog 36 [(dt l0),(.agg [(.int .u8 aD),(.int .i64 aI),(.int .i64 aJ),(.int .i64 aN)])] true []) vs:=by have:=Zg (v0d l0 aD aI aJ aN) n _ (w1g l0 aD aI aJ aN);rwa [h] at this
def FC (t a b c:Int) (r:R6):R6:=⟨Jc (Zh t a b c r.a r.b r.c).a (Zh t a b c r.d r.e r.f).a,Jc (Zh t a b c r.a r.b r.c).b (Zh t a b c r.d r.e r.f).b,Jc (Zh t a b c r.a r.b r.c).c (Zh t a b c r.d r.e r.f).c,Jd (Zh t a b c r.a r.b r.c).a (Zh t a b c r.d r.e r.f).a,Jd (Zh t a b c r.a r.b r.c).b (Zh t a b c r.d r.e r.f).b,Jd (Zh t a b c r.a r.b r.c).c (Zh t a b c r.d r.e r.f).c⟩
def E6 (t a b c:Int) (r:R6):Bool:= !(EN t a b c r.a r.b r.c != 0)&& !(EN t a b c r.d r.e r.f != 0)
def Ji (L:zx) (t a b c:Int):Int:=bif Yt L != 0 then Yt L else bif CW t a b c != 0 then CW t a b c else bif L.all (E6 t a b c) then Jw (L.map (FC t a b c)) else 16
def Wj (L:zx) (t a b c:Int):zx:=bif Yt L != 0 then [] else bif CW t a b c != 0 then [] else bif L.all (E6 t a b c) then Qx (L.map (FC t a b c)) else []
def Ke (L:zx) (t a b c:Int):Bool:=decide (0<=t)
def IR (L M:zx) (t a b c:Int):zy:=bif M.all (E6 t a b c) then [.dat (Qx (L.map (FC t a b c))).length (Zz (Qx (L.map (FC t a b c)))),.int .i64 (Jw (L.map (FC t a b c)))] else [.nils,.int .i64 16]
theorem u9f (L:zx) (hl:L.length<=400) (t a b c:Int) (ht:0<=t): ∀(k i:Nat) (acc:zx),i+k=L.length->acc=(L.take i).map (FC t a b c)-> ∃N,Yx (Iv L t a b c) N (.to (.h0 acc (i:Int)))=.ret (IR L (L.drop i) t a b c)
 | 0,i,acc,h,ha=>by
  refine ⟨1,?_⟩;have:i=L.length:=by omega
  subst this;rw [Zx,Av (Ar _)];rw [B6] at ha;subst ha;have g:decide ((L.length:Int)<(L.length:Int))=false:=An (by omega);simp only [Iv,Za,g,show∀l,WY l=true from fun _=>rfl,Ab,Aa];rfl
 | k+1,i,acc,h,ha=>by
  have hi:i<L.length:=by omega
  have eH:acc.length=i:=by rw [ha,B0,Bl];omega
  obtain ⟨N,hN⟩:=u9f L hl t a b c ht k (i+1) (acc++[FC t a b c (rd L i)]) (by omega) (by
   rw [ha,AX,At hi,BF,Xm hi];rfl)
  refine ⟨N+1,?_⟩;have g1:decide ((i:Int)<(L.length:Int))=true:=Af (by omega);have g2:decide (0<=(i:Int)/\(i:Int)<(L.length:Int))=true:=Af (by omega);have w3:wrap .i64 ((i:Int)+1)=((i+1:Nat):Int):=by rw [Zk (by omega)];rfl
  have r1:decide ((acc.length+1+1)*(48+1)<=Jm)=true:=Zn (by omega);have l1:decide (0+acc.length=acc.length)=true:=Af (by omega);have b6:Nat.beq 6 6=true:=rfl;have fo: ∀x y z,S5 t a b c x y z=true:=fun _ _ _=>Af ht;rw [Zx,Yo hi];unfold IR at hN ⊢;rw [BH];unfold FC at hN;unfold E6 at hN ⊢;rcases Xz (EN t a b c (rd L i).a (rd L i).b (rd L i).c != 0) with q1 | q1
  .simp only [Iv,Za,g1,g2,Zj,fo,q1,Ai,Aw,AW,Ab,Aa,Zd]
  rcases Xz (EN t a b c (rd L i).d (rd L i).e (rd L i).f != 0) with q2 | q2
  .simp only [Iv,Za,g1,g2,Zj,fo,q1,q2,Ai,Aw,Az,A2,AW,Ab,Aa,Zd]
  simp only [Iv,Za,g1,g2,w3,Zj,fo,q1,q2,r1,l1,b6,Ai,Ak,Az,Ab,Aa];exact hN
theorem j5e (L:zx) (t a b c:Int) (ht:0<=t): ∃n vs,Yx (Iv L t a b c) n (XX L t a b c)=.ret vs/\(∀(ρ:CE) (u:Value),Yv ρ (Uz vs) u->Yv ρ (.tup [.dat (Wj L t a b c).length (Zz (Wj L t a b c)),.int .i64 (Ji L t a b c)]) u)/\ ∃d,pf d (Uz vs)=true:=by
 unfold XX;simp only [Za,show∀l,Qj l=true from fun _=>rfl,Ab];rcases Xz (Yt L != 0) with q1 | q1
 .refine ⟨0,_,by rw [q1,Ab];rfl,?_,3,rfl⟩;unfold Wj Ji;rw [q1,Ab,Ab];exact fun ρ u hu=>Qn (.cons (.nild _) (.cons (.refl _) .nil)) ρ u hu
 rcases Xz (CW t a b c != 0) with q2 | q2
 .refine ⟨0,_,by rw [q1,q2,Aa,Ab];rfl,?_,3,rfl⟩;unfold Wj Ji;rw [q1,q2,Aa,Ab,Aa,Ab];exact fun ρ u hu=>Qn (.cons (.nild _) (.cons (.refl _) .nil)) ρ u hu
 obtain ⟨N,hN⟩:=u9f L (W7 q1) t a b c ht L.length 0 [] (Ah _) rfl;rw [AO] at hN;refine ⟨N,IR L L t a b c,by rw [q1,q2,Aa,Aa];exact hN,?_⟩;unfold Wj Ji IR;rw [q1,q2,Aa,Aa,Aa,Aa];rcases Xz (L.all (E6 t a b c)) with q3 | q3 <;> rw [q3]
 .exact ⟨fun ρ u hu=>hu,3,rfl⟩
 .exact ⟨fun ρ u hu=>Qn (.cons (.nild _) (.cons (.refl _) .nil)) ρ u hu,3,rfl⟩
def F9 :zy->Option (B9×Bool)
 | [a0,.agg [.int .u8 t,.int .i64 a,.int .i64 b,.int .i64 c]]=>match CY R6 a0 with
  | some (L0,g0,n0)=>some (.tup [.dat (Wj L0 t a b c).length (Zz (Wj L0 t a b c)),.int .i64 (Ji L0 t a b c)],CX R6 n0 g0&&Ke L0 t a b c)
  | _=>none
 | _=>none
theorem j8m {S:CB} (hS:Zw prog S):Zw prog (S.with J7 F9):=by
 refine E4 hS (by kernel_rfl) fun args v h=> ?_;unfold F9 at h;split at h
 .rename_i a0 t a b c;split at h
  .rename_i L0 g0 n0 e0;simp only [Ad,Ae,Ac] at h;obtain ⟨rfl,ho0,hw⟩:=h;obtain ⟨N,vs,hN,hv,hp⟩:=j5e L0 t a b c (Ax hw);exact ⟨_,vs,(.cons (Yi e0 ho0) (.cons (.refl _) .nil)),hv,u2y L0 t a b c N _ hN,hp⟩
  .cases h
 .cases h
abbrev u6n (a b:zx):zx:=EW .u a b
abbrev Rw (a b:zx):Int:=DL .u a b
abbrev x4s (a b:zx):Bool:=x1z .u a b
def Sv2 :CB:=Sv1.with J7 F9
theorem Kz :Zw prog Sv2:=j8m HL
inductive IT where
def Oj (l0:zt) (x1:Int):IT->CI
 :=nofun
def w1j (l0:zt) (x1:Int):IT->Yr IT
 :=nofun
def XW (l0:zt) (x1:Int):Yr IT:=(bif (Ue (CA l0) x1) then (bif ((Jh (CA l0) x1) != 0) then (.ret [.nils,(.int .i64 (Jh (CA l0) x1))]) else (bif ((decide (0<=x1/\x1<(l0.length:Int)))&&true) then (bif (Ke (CA (rd l0 x1.toNat).s) (Yd (CA l0) x1).a (Yd (CA l0) x1).b (Yd (CA l0) x1).c (Yd (CA l0) x1).d) then (.ret [(.dat (Wj (CA (rd l0 x1.toNat).s) (Yd (CA l0) x1).a (Yd (CA l0) x1).b (Yd (CA l0) x1).c (Yd (CA l0) x1).d).length (Zz (Wj (CA (rd l0 x1.toNat).s) (Yd (CA l0) x1).a (Yd (CA l0) x1).b (Yd (CA l0) x1).c (Yd (CA l0) x1).d))),(.int .i64 (Ji (CA (rd l0 x1.toNat).s) (Yd (CA l0) x1).a (Yd (CA l0) x1).b (Yd (CA l0) x1).c (Yd (CA l0) x1).d))]) else .stuck) else .stuck)) else .stuck)
theorem v0f (l0:zt) (x1:Int): ∀s,Xx prog (Zy prog 15) (Oj l0 x1) (Oj l0 x1 s) (w1j l0 x1 s)
 :=nofun
theorem w1k (l0:zt) (x1:Int):Xx prog (Zy prog 15) (Oj l0 x1) (Zp prog 15 [(dt l0),(.int .i64 x1)] true []) (XW l0 x1):=(lo fun bG=>let g:=pp (pp (xr l0) (xw bG)) nn;(lb (fun k0=>(lr 26 15 (pn 75) 1 6 [(4,.nils),(5,(ii (Jh (CA l0) x1)))] (sl Kz 30 [] (a7 [4,5]) a6 [true] (tt k0 g)))) (fun k0=>(lo fun o0=>(lo fun o1=>let e:=Yd (CA l0) x1;let i:=rd l0 (tn x1);let f:=CA i.s;let h:=Wj f e.a e.b e.c e.d;(lr 26 3 (pn 767) 1 6 [(4,(dt h)),(5,(ii (Ji f e.a e.b e.c e.d)))] (sl Kz 27 [] (a7 [4,5]) a6 [false] (pp (pp (xI R6 i.s.length (Zz i.s)) (xw o1)) (ww o0 (tt k0 g))))))))))
theorem u2z (l0:zt) (x1:Int) (n:Nat) (vs:zy) (h:Yx (w1j l0 x1) n (XW l0 x1)=.ret vs):Vi prog (Zy prog 15) (Zp prog 15 [(dt l0),(.int .i64 x1)] true []) vs:=by have:=Zg (v0f l0 x1) n _ (w1k l0 x1);rwa [h] at this
inductive H4 where
def Nn (l0:zx):H4->CI
 :=nofun
def x8c (l0:zx):H4->Yr H4
 :=nofun
def S4 (l0:zx):Yr H4:=(bif (decide ((0+l0.length+1)*(48+1)<=Jm)) then (.ret [(.dat l0.length (Zz l0))]) else .stuck)
theorem w7m (l0:zx): ∀s,Xx prog (Zy prog 35) (Nn l0) (Nn l0 s) (x8c l0 s)
 :=nofun
theorem x8d (l0:zx):Xx prog (Zy prog 35) (Nn l0) (Zp prog 35 [(dt l0)] true []) (S4 l0):=(lo fun o0=>(lr 6 3 (pn 767) 1 5 [(2,(dt l0))] (sl Kz 11 [] ⟨[],[1],[some [2]],[]⟩ ⟨[(2,.frz (0+l0.length) l0.length (Jq (fun k=>(([]:zy).drop (k*6)).take 6) 0 (Zz l0)) (Zz l0))],[],[]⟩ [] (pp (xZ (Cv 6 6 0 (0+l0.length) (0+l0.length) (Jq (fun k=>(([]:zy).drop (k*6)).take 6) 0 (Zz l0))) (0+l0.length) (Jq (fun k=>(([]:zy).drop (k*6)).take 6) 0 (Zz l0))) (pp (xL (0+l0.length) l0.length (Us (Ah _))) (pp (xS (0+l0.length) (Jq (fun k=>(([]:zy).drop (k*6)).take 6) 0 (Zz l0)) (Zz l0)) (pp (pp (xF (Jq (fun k=>(([]:zy).drop (k*6)).take 6) 0 (Zz l0))) nn) (pp (pp nn (pp (xG (ES 6 l0.length (Zz l0))) (xw o0))) nn))))))))
theorem v9e (l0:zx) (n:Nat) (vs:zy) (h:Yx (x8c l0) n (S4 l0)=.ret vs):Vi prog (Zy prog 35) (Zp prog 35 [(dt l0)] true []) vs:=by have:=Zg (w7m l0) n _ (x8d l0);rwa [h] at this
inductive HX where
 | h0
 | h1 (v5:List zx) (v21:Int)
 | h2
 | h3 (v51:List zx) (v52:Int)
 | h4 (v10:zx) (v51:List zx) (v52:Int) (v53:Int)
def N8 (l0:zt):HX->CI
 | .h0 =>⟨⟨68,0,true⟩,none,(Zq prog 17 (pn 151) 0),none,(Zy prog 17),⟨Zs [(0,(dt l0)),(5,.nils),(20,(ii (l0.length:Int))),(21,(ii 0))],Xe [] 0,0,[],true⟩,[],.leaf⟩
 | .h1 v5 v21=>⟨⟨68,0,true⟩,none,(Zq prog 17 (pn 151) 0),none,(Zy prog 17),⟨Zs [(0,(dt l0)),(5,(.sla 0 1 0 v5.length (.un 1))),(20,(ii (l0.length:Int))),(21,(ii v21))],Xe [(rz v5 46 1)] 0,1,[],true⟩,[],.leaf⟩
 | .h2 =>⟨⟨68,0,true⟩,none,(Zq prog 17 (pn 607) 0),none,(Zy prog 17),⟨Zs [(10,.nils),(51,.nils),(52,(ii 0)),(53,(ii 0))],Xe [] 0,0,[],true⟩,[],.leaf⟩
 | .h3 v51 v52=>⟨⟨68,0,true⟩,none,(Zq prog 17 (pn 607) 0),none,(Zy prog 17),⟨Zs [(10,.nils),(51,(.sla 0 1 0 v51.length (.un 1))),(52,(ii v52)),(53,(ii 0))],Xe [(rz v51 46 1)] 0,1,[],true⟩,[],.leaf⟩
 | .h4 v10 v51 v52 v53=>⟨⟨68,0,true⟩,none,(Zq prog 17 (pn 607) 0),none,(Zy prog 17),⟨Zs [(10,(dt v10)),(51,(.sla 0 1 0 v51.length (.un 1))),(52,(ii v52)),(53,(ii v53))],Xe [(rz v51 46 1)] 0,1,[],true⟩,[],.leaf⟩
def Tq :List (Option zr):=[some [0,5,20,21]]
def Tu :List (Option zr):=[]
def JW :List (Option zr):=[some [0,5,20,21]]
def JY :List (Option zr):=[]
def Tp :List (Option zr):=[some [10,51,52,53]]
def Tt :List (Option zr):=[]
def To :List (Option zr):=[some [10,51,52,53]]
def Ts :List (Option zr):=[]
def JV :List (Option zr):=[some [10,51,52,53]]
def JX :List (Option zr):=[]
def Vr (l0:zt):HX->Yr HX
 | .h0 =>let e:=Ze (CA l0) 0;let f:=CA (rd l0 0).s;let g:=Ji f e.a e.b e.c e.d;(bif (decide (0<(l0.length:Int))) then (bif (Wh (CA l0) 0) then (bif ((Km (CA l0) 0) != 0) then (.ret [.nils,(.int .i64 (Km (CA l0) 0))]) else (bif ((decide ((0:Int)<=0/\0<(l0.length:Int)))&&true) then (bif (Ke f e.a e.b e.c e.d) then (bif (g != 0) then (.ret [.nils,(.int .i64 g)]) else (.to (.h1 ([(Wj f e.a e.b e.c e.d)]:List zx) 1))) else .stuck) else .stuck)) else .stuck) else (.to (.h2)))
 | .h1 v5 v21=>let e:=Ze (CA l0) v21;let f:=CA (rd l0 v21.toNat).s;let g:=Ji f e.a e.b e.c e.d;let h:=Km (CA l0) v21;(bif (decide (v21<(l0.length:Int))) then (bif (Wh (CA l0) v21) then (bif (h != 0) then (.ret [.nils,(.int .i64 h)]) else (bif ((decide (0<=v21/\v21<(l0.length:Int)))&&true) then (bif (Ke f e.a e.b e.c e.d) then (bif (g != 0) then (.ret [.nils,(.int .i64 g)]) else (bif (Nat.beq 1 1&&((decide (0+v5.length=v5.length))&&decide ((v5.length+1+1)*(24+1)<=Jm))) then (.to (.h1 (v5++[(Wj f e.a e.b e.c e.d)]) (wrap .i64 (v21+1)))) else .stuck)) else .stuck) else .stuck)) else .stuck) else (.to (.h3 v5 (v5.length:Int))))
 | .h2 =>(.ret [.nils,(.int .i64 0)])
 | .h3 v51 v52=>let a:=CA (rd v51 0);(bif (decide (0<v52)) then (bif ((decide ((0:Int)<=0/\0<(v51.length:Int)))&&true) then (bif (decide (0<v51.length)) then (bif (x4s ([]:zx) a) then (bif ((Rw ([]:zx) a) != 0) then (.ret [.nils,(.int .i64 (Rw ([]:zx) a))]) else (.to (.h4 (u6n ([]:zx) a) v51 v52 1))) else .stuck) else .stuck) else .stuck) else (.ret [.nils,(.int .i64 0)]))
 | .h4 v10 v51 v52 v53=>let a:=CA (rd v51 (0+v53.toNat));let b:=Rw (CA v10) a;(bif (decide (v53<v52)) then (bif ((decide (0<=v53/\v53<(v51.length:Int)))&&true) then (bif (decide ((0+v53.toNat)<v51.length)) then (bif (x4s (CA v10) a) then (bif (b != 0) then (.ret [.nils,(.int .i64 b)]) else (.to (.h4 (u6n (CA v10) a) v51 v52 (wrap .i64 (v53+1))))) else .stuck) else .stuck) else .stuck) else (.ret [(dt v10),(.int .i64 0)]))
def YV (l0:zt):Yr HX:=(bif (Yh (CA l0)) then (bif ((Kx (CA l0)) != 0) then (.ret [.nils,(.int .i64 (Kx (CA l0)))]) else (.to (.h0))) else .stuck)
theorem w7j (l0:zt): ∀s,Xx prog (Zy prog 17) (N8 l0) (N8 l0 s) (Vr l0 s)
 | .h0 =>(lb (fun k0=>(lo fun aL=>let f:=pp (pp (xr l0) (xw aL)) (tt k0 nn);(lb (fun k1=>(lr 68 17 (pn 154007) 1 17 [(2,.nils),(3,(ii (Km (CA l0) 0)))] (sl Kz 39 [] (a7 [2,3]) a6 (bl 2 3) (tt k1 f)))) (fun k1=>(lo fun bO=>(lo fun cI=>let l:=Ze (CA l0) 0;let e:=l;let n:=CA (rd l0 0).s;let h:=n;let i:=ww bO (tt k1 f);let m:=Zz (rd l0 0).s;(lb (fun k2=>(lr 68 17 (pn 620951) 1 17 [(2,.nils),(3,(ii (Ji h e.a e.b e.c e.d)))] (sl Kz 49 [] (a7 [2,3]) a6 (bl 3 5) (tt k2 (pp (pp (xI R6 (rd l0 0).s.length m) (xw cI)) i))))) (fun k2=>let g:=Wj h e.a e.b e.c e.d;let j:=Wj n l.a l.b l.c l.d;(sl Kz 57 [] ⟨[2],[],JW,JY⟩ ⟨[(5,.grow 0 1)],[.rowed 1 ([g]:List zx).length (Zz ([g]:List zx))],[]⟩ (bl 3 1) (pp (xG (TB [(.dat j.length (Zz j))] 1 ([j]:List zx).length (Zz ([j]:List zx)))) (tt k2 (pp (pp (xI R6 (rd l0 0).s.length m) (xw cI)) i)))))))))))) (fun k0=>(sl Kz 20 [] ⟨[],[],Tp,Tt⟩ a6 [false] (tt k0 nn))))
 | .h1 v5 v21=>(lb (fun k0=>(lo fun aL=>let h:=pp (pp (xr l0) (xw aL)) (tt k0 nn);(lb (fun k1=>(lr 68 17 (pn 154007) 1 17 [(2,.nils),(3,(ii (Km (CA l0) v21)))] (sl Kz 39 [] (a7 [2,3]) a6 (bl 2 3) (tt k1 h)))) (fun k1=>(lo fun bO=>(lo fun cI=>let n:=Ze (CA l0) v21;let g:=n;let m:=rd l0 (tn v21);let i:=CA m.s;let j:=ww bO (tt k1 h);(lb (fun k2=>(lr 68 17 (pn 620951) 1 17 [(2,.nils),(3,(ii (Ji i g.a g.b g.c g.d)))] (sl Kz 49 [] (a7 [2,3]) a6 (bl 3 5) (tt k2 (pp (pp (xI R6 m.s.length (Zz m.s)) (xw cI)) j))))) (fun k2=>(lo fun o0=>let e:=v5++[(Wj i g.a g.b g.c g.d)];let l:=Wj (CA m.s) n.a n.b n.c n.d;let p:=v5.length+1;let f:=xL p (v5++[l]).length;let o:=Zf (Zz v5) 0 v5.length 1 [(.dat l.length (Zz l))];(sl Kz 57 [] ⟨[3],[],JW,JY⟩ ⟨[(5,.len e.length)],[.rowed 1 e.length (Zz e)],[]⟩ (bl 3 1) (pp f (pp f (pp (xS p o (Zz (v5++[l]))) (pp (pp (xF o) nn) (ww o0 (tt k2 (pp (pp (xI R6 m.s.length (Zz m.s)) (xw cI)) j))))))))))))))))) (fun k0=>(sl Kz 20 [] ⟨[0],[],To,Ts⟩ a6 [false] (pp (fl v5 nn) (tt k0 nn)))))
 | .h2 =>(lr 68 3 (pn 767) 1 17 [(2,.nils),(3,(ii 0))] (sl Kz 13 [] (a7 [2,3]) a6 [false] nn))
 | .h3 v51 v52=>(lb (fun k0=>(lo fun aL=>(lo fun aT=>(lo fun bR=>let a:=ww aT (ww aL (tt k0 nn));let b:=Zz (rd v51 0);(lb (fun k1=>(lr 68 17 (pn 648799) 1 17 [(2,.nils),(3,(ii (Rw ([]:zx) (CA (rd v51 0)))))] (sl Kz 42 [] (a7 [2,3]) a6 (bl 2 3) (tt k1 (pp (pp (xI R6 0 (fun _=>[])) (pp (xI R6 (rd v51 0).length b) (xw bR))) a))))) (fun k1=>(sl Kz 43 [] ⟨[0],[],JV,JX⟩ a6 (bl 2 1) (pp (fl v51 nn) (tt k1 (pp (pp (xI R6 0 (fun _=>[])) (pp (xI R6 (rd v51 0).length b) (xw bR))) a)))))))))) (fun k0=>(lr 68 3 (pn 767) 1 17 [(2,.nils),(3,(ii 0))] (sl Kz 13 [] (a7 [2,3]) a6 [false] (tt k0 nn)))))
 | .h4 v10 v51 v52 v53=>(lb (fun k0=>(lo fun aL=>(lo fun aT=>(lo fun bR=>let a:=ww aT (ww aL (tt k0 nn));let b:=rd v51 (0+(tn v53));(lb (fun k1=>(lr 68 17 (pn 648799) 1 17 [(2,.nils),(3,(ii (Rw (CA v10) (CA b))))] (sl Kz 42 [] (a7 [2,3]) a6 (bl 2 3) (tt k1 (pp (pp (xr v10) (pp (xI R6 b.length (Zz b)) (xw bR))) a))))) (fun k1=>(sl Kz 43 [] ⟨[0],[],JV,JX⟩ a6 (bl 2 1) (pp (fl v51 nn) (tt k1 (pp (pp (xr v10) (pp (xI R6 b.length (Zz b)) (xw bR))) a)))))))))) (fun k0=>(lr 68 3 (pn 767) 1 17 [(2,(dt v10)),(3,(ii 0))] (sl Kz 13 [] (a7 [2,3]) a6 [false] (tt k0 nn)))))
theorem x7s (l0:zt):Xx prog (Zy prog 17) (N8 l0) (Zp prog 17 [(dt l0)] true []) (YV l0):=(lo fun bG=>let a:=pp (pp (xr l0) (xw bG)) nn;(lb (fun k0=>(lr 68 17 (pn 77) 1 17 [(2,.nils),(3,(ii (Kx (CA l0))))] (sl Kz 24 [] (a7 [2,3]) a6 [true] (tt k0 a)))) (fun k0=>(sl Kz 32 [] ⟨[],[],Tq,Tu⟩ a6 [false] (tt k0 a)))))
theorem v9a (l0:zt) (n:Nat) (vs:zy) (h:Yx (Vr l0) n (YV l0)=.ret vs):Vi prog (Zy prog 17) (Zp prog 17 [(dt l0)] true []) vs:=by have:=Zg (w7j l0) n _ (x7s l0);rwa [h] at this
def EY (l:zt) (i:Int):Int:=bif Jh l i != 0 then Jh l i else Ji (rd l i.toNat).s (Yd l i).a (Yd l i).b (Yd l i).c (Yd l i).d
def Yp (l:zt) (i:Int):zx:=bif Jh l i != 0 then [] else Wj (rd l i.toNat).s (Yd l i).a (Yd l i).b (Yd l i).c (Yd l i).d
def Vc (l:zt) (i:Int):Bool:=Ue l i
theorem u9e {l:zt} {i:Int} (ho:Ue l i=true) (h:Jh l i=0):Kx l=0/\(∃j:Nat,i=(j:Int)/\j<l.length)/\Yd l i=(Qz l i).1/\(Qz l i).2=0/\0<=(Yd l i).a :=by
 unfold Ue at ho;rw [Ac] at ho;have hc:Ee l i=0:=by
  unfold Jh at h;by_cases e:Ee l i=0
  .exact e
  .rw [Ur e,Ab] at h;exact h
 have hs:Kx l=0:=by
  unfold Ee at hc;by_cases e:Kx l=0
  .exact e
  .rw [Ur e,Ab] at hc;exact absurd hc e
 have hi: ∃j:Nat,i=(j:Int)/\j<l.length:=by
  unfold Ee at hc;rw [Jz hs,Aa] at hc;by_cases e1:i<0
  .rw [Af e1] at hc;cases hc
  .rw [An e1,Aa] at hc;by_cases e2:i>=(l.length:Int)
   .rw [Af e2] at hc;cases hc
   .exact ⟨i.toNat,by omega,by omega⟩
 have e0:Yd l i=(Qz l i).1:=by unfold Yd;rw [Jz hc];rfl
 have e1:(Qz l i).2=0:=by unfold Jh at h;rw [Jz hc] at h;exact h
 refine ⟨hs,hi,e0,e1,?_⟩;obtain ⟨j,rfl,hj⟩:=hi;rw [e0];exact RW (TC (by rw [hs];rfl) hj).1 ho.2 (j+1) j (Bf j) (Ar j)
theorem j5f (l:zt) (i:Int) (ho:Vc l i=true): ∃N vs,Yx (w1j l i) N (XW l i)=.ret vs/\(∀(ρ:CE) (u:Value),Yv ρ (Uz vs) u->Yv ρ (.tup [.dat (Yp l i).length (Zz (Yp l i)),.int .i64 (EY l i)]) u)/\ ∃d,pf d (Uz vs)=true:=by
 have ho':Ue l i=true:=ho;unfold XW;simp only [Za];rw [Zi ho'];by_cases h:Jh l i=0
 .obtain ⟨h1,⟨j,rfl,hj⟩,h3,h4,h5⟩:=u9e ho' h;refine ⟨0,_,by rw [Jz h,Aa,Ai,Zi (Zr (by omega)),Zi (show Ke _ _ _ _ _=true from Af h5)];rfl,?_,3,rfl⟩;unfold Yp EY;rw [Jz h];exact fun ρ u hu=>hu
 .refine ⟨0,_,by rw [Ur h,Ab];rfl,?_,3,rfl⟩;unfold Yp EY;rw [Ur h];exact fun ρ u hu=>Qn (.cons (.nild _) (.cons (.refl _) .nil)) ρ u hu
def Fa :zy->Option (B9×Bool)
 | [a0,.int .i64 i]=>match CY CD a0 with
  | some (L,g,n)=>some (.tup [.dat (Yp L i).length (Zz (Yp L i)),.int .i64 (EY L i)],CX CD n g&&Vc L i)
  | _=>none
 | _=>none
theorem j8n {S:CB} (hS:Zw prog S):Zw prog (S.with VA Fa):=E4 hS (by kernel_rfl) fun args v h=>by
 unfold Fa at h;split at h
 .rename_i a0 i;split at h
  .rename_i L g n e0;simp only [Ad,Ae,Ac] at h;obtain ⟨rfl,ho0,hw⟩:=h;obtain ⟨N,vs,hN,hv,hp⟩:=j5f L i hw;exact ⟨_,vs,(.cons (Yi e0 ho0) (.cons (.refl _) .nil)),hv,u2z L i N _ hN,hp⟩
  .cases h
 .cases h
def Dk (l:zx):zx:=l
def R1 (l:zx):Bool:=decide (l.length<=1000000)
theorem j1m (l:zx) (h:R1 l=true): ∃N,Yx (x8c l) N (S4 l)=.ret [.dat (Dk l).length (Zz (Dk l))]:=⟨0,by
 have:=Ax h;show S4 l=_;unfold S4;rw [Zi (Zn (by omega))];rfl⟩
def Ph :zy->Option (B9×Bool)
 | [a0]=>match CY R6 a0 with
  | some (L0,g0,n0)=>some (.dat (Dk L0).length (Zz (Dk L0)),CX R6 n0 g0&&R1 L0)
  | _=>none
 | _=>none
theorem j7c {S:CB} (hS:Zw prog S):Zw prog (S.with UC Ph):=Kv hS (by kernel_rfl) fun args v h=>by
 unfold Ph at h;split at h
 .rename_i a0;split at h
  .rename_i L0 g0 n0 e0;simp only [Ad,Ae,Ac] at h;obtain ⟨rfl,ho0,hw⟩:=h;obtain ⟨N,hN⟩:=j1m L0 hw;exact ⟨_,_,(.cons (Yi e0 ho0) .nil),rfl,v9e L0 N _ hN,3,rfl⟩
  .cases h
 .cases h
def Di (l:zt) (j:Nat):Int:=bif Km l (j:Int) != 0 then Km l (j:Int) else Ji (rd l j).s (Ze l (j:Int)).a (Ze l (j:Int)).b (Ze l (j:Int)).c (Ze l (j:Int)).d
def DR (l:zt) (j:Nat):zx:=Wj (rd l j).s (Ze l (j:Int)).a (Ze l (j:Int)).b (Ze l (j:Int)).c (Ze l (j:Int)).d
def E5 (l:zt):Nat->Nat->Int
 | 0,_=>0
 | k+1,i=>bif Di l i != 0 then Di l i else E5 l k (i+1)
def HO (l:zt):Nat->Nat->List zx
 | 0,_=>[]
 | k+1,i=>DR l i::HO l k (i+1)
def EP :List zx->zx->zx×Int
 | [],acc=>(acc,0)
 | x::r,acc=>bif DL .u acc x != 0 then ([],DL .u acc x) else EP r (EW .u acc x)
def EG (l:zt):zx×Int:=bif Kx l != 0 then ([],Kx l) else bif E5 l l.length 0 != 0 then ([],E5 l l.length 0) else EP (HO l l.length 0) []
def Wq (l:zt):zx:=(EG l).1
def N5 (l:zt):Int:=(EG l).2
def Um (l:zt):Bool:=Yh l&&l.all fun x=>decide (0<=x.t)
def De (q:zx×Int):zy:=bif q.2 != 0 then [.nils,.int .i64 q.2] else [.dat q.1.length (Zz q.1),.int .i64 0]
theorem u6b {l:zt} {L:List zx} (hL:L.length<=1000000): ∀(k i:Nat) (acc:zx),i+k=L.length-> ∃N,Yx (Vr l) N (.to (.h4 acc L (L.length:Int) (i:Int)))=.ret (De (EP (L.drop i) acc))
 | 0,i,acc,h=>by
  refine ⟨1,?_⟩;have e:Vr l (.h4 acc L (L.length:Int) (i:Int))=.ret [.dat acc.length (Zz acc),.int .i64 0]:=by unfold Vr;simp only [];rw [Ym (by omega)];rfl
  rw [Zx,e,Av (by omega)];rfl
 | k+1,i,acc,h=>by
  have hi:i<L.length:=by omega
  have w2:wrap .i64 ((i:Int)+1)=((i+1:Nat):Int):=Zk (by omega);have e:Vr l (.h4 acc L (L.length:Int) (i:Int))=bif DL .u acc (rd L i) != 0 then .ret [.nils,.int .i64 (DL .u acc (rd L i))] else .to (.h4 (EW .u acc (rd L i)) L (L.length:Int) ((i+1:Nat):Int)):=by unfold Vr;simp only [Zj,w2,Za,Ah];rw [Zi (Zt (by omega)),Ai,Zi (Zr (by omega)),Zi (Af hi)];rfl
  rw [Yo hi,EP];cases g:DL .u acc (rd L i) != 0 with
  | true=>refine ⟨1,?_⟩;rw [Zx,e,g,Ab,Ab];unfold De;rw [g];rfl
  | false=>obtain ⟨N,hN⟩:=u6b (l:=l) hL k (i+1) (EW .u acc (rd L i)) (by omega);exact ⟨N+1,by rw [Zx,e,g,Aa,Aa,hN]⟩
theorem N7 {l:zt} {L:List zx} (hL:L.length<=1000000) (h0:0<L.length): ∃N,Yx (Vr l) N (.to (.h3 L (L.length:Int)))=.ret (De (EP L [])):=by
 have e:Vr l (.h3 L (L.length:Int))=bif DL .u [] (rd L 0) != 0 then .ret [.nils,.int .i64 (DL .u [] (rd L 0))] else .to (.h4 (EW .u [] (rd L 0)) L (L.length:Int) ((1:Nat):Int)):=by unfold Vr;simp only [Za];rw [Zi (Zt (by omega)),Zi (VQ (j:=0) (by omega) (by omega)),Zi (Af h0)];rfl
 have hd:=Yo h0;rw [AO] at hd
 conv=>enter [1,N];rhs;rw [hd]
 rw [EP];cases g:DL .u [] (rd L 0) != 0 with
 | true=>refine ⟨1,?_⟩;rw [Zx,e,g,Ab,Ab];unfold De;rw [g];rfl
 | false=>obtain ⟨N,hN⟩:=u6b (l:=l) hL (L.length - 1) 1 (EW .u [] (rd L 0)) (by omega);exact ⟨N+1,by rw [Zx,e,g,Aa,Aa,hN]⟩
theorem u6c {l:zt} (ht:(l.all fun x=>decide (0<=x.t))=true) (h:Kx l=0): ∀(k i:Nat) (acc:List zx),i+k=l.length->acc.length=i->1<=i->
  ∃N,Yx (Vr l) N (.to (.h1 acc (i:Int)))=.ret (bif E5 l k i != 0 then [.nils,.int .i64 (E5 l k i)] else De (EP (acc++HO l k i) []))
 | 0,i,acc,hk,ha,h1=>by
  have hl:=(Qh (l:=l) (by rw [h];rfl)).1;have e:Vr l (.h1 acc (i:Int))=.to (.h3 acc (acc.length:Int)):=by unfold Vr;simp only [];rw [Ym (by omega)];rfl
  obtain ⟨N,hN⟩:=N7 (l:=l) (L:=acc) (by omega) (by omega);refine ⟨N+1,?_⟩;rw [Zx,e,hN];show _=Yr.ret (De (EP (acc++[]) []));rw [AA]
 | k+1,i,acc,hk,ha,h1=>by
  have h':(Kx l != 0)=false:=by rw [h];rfl
  have hl:=(Qh h').1;have hi:i<l.length:=by omega
  have w2:wrap .i64 ((i:Int)+1)=((i+1:Nat):Int):=Zk (by omega);have hpo:Wh l (i:Int)=true:=ZI ht h' (by omega) (by omega);have htu:0<=(Ze l (i:Int)).a :=RW (TC h' hi).1 ht (i+1) i (Bf i) (Ar i);have e:Vr l (.h1 acc (i:Int))=bif Di l i != 0 then .ret [.nils,.int .i64 (Di l i)] else .to (.h1 (acc++[DR l i]) ((i+1:Nat):Int)):=by
   unfold Vr Di DR;simp only [Zj,w2,Za];rw [Zi (Zt (by omega)),Zi hpo];cases g:Km l (i:Int) != 0 with
   | true=>rw [Ab,Ab,g];rfl
   | false=>rw [Aa,Aa,Ai,Zi (Zr (by omega)),Zi (show Ke _ _ _ _ _=true from Af htu),Zi (NB (by omega))]
  rw [E5,HO];cases g:Di l i != 0 with
  | true=>refine ⟨1,?_⟩;rw [Zx,e,g,Ab,Ab,g];rfl
  | false=>obtain ⟨N,hN⟩:=u6c ht h k (i+1) (acc++[DR l i]) (by omega) (by rw [AK,Bp,ha]) (by omega);refine ⟨N+1,?_⟩;rw [Zx,e,g,Aa,Aa,hN,AH];rfl
theorem j1d (l:zt) (ho:Um l=true): ∃N vs,Yx (Vr l) N (YV l)=.ret vs/\(vs=De (EG l)\/(vs=[.nils,.int .i64 0]/\EG l=([],0))):=by
 unfold Um at ho;rw [Ac] at ho;obtain ⟨ho,ht⟩:=ho;unfold YV EG;simp only [Za];rw [Zi ho];by_cases h:Kx l=0
 .rw [Jz h,Aa,Aa];have h':(Kx l != 0)=false:=by rw [h];rfl
  by_cases h0:l.length=0
  .refine ⟨2,[.nils,.int .i64 0],?_,.inr ⟨rfl,?_⟩⟩
   .have e:Vr l .h0 =.to .h2 :=by unfold Vr;simp only [];rw [Ym (by omega)];rfl
    rw [Zx,e,Zx];rfl
   .rw [h0];rfl
  .have hi:0<l.length:=by omega
   have hpo:Wh l ((0:Nat):Int)=true:=ZI ht h' (by omega) (by omega);have htu:0<=(Ze l ((0:Nat):Int)).a :=RW (TC h' hi).1 ht 1 0 (Bf 0) (Ar 0);have e:Vr l .h0 =bif Di l 0 != 0 then .ret [.nils,.int .i64 (Di l 0)] else .to (.h1 [DR l 0] ((1:Nat):Int)):=by
    unfold Vr Di DR;simp only [Za];rw [Zi (Zt (by omega))];have hpo:Wh l 0=true:=hpo;have htu:0<=(Ze l 0).a :=htu;rw [Zi hpo];show (bif Km l 0 != 0 then _ else _)=bif (bif Km l 0 != 0 then Km l 0 else _) != 0 then _ else _;cases g:Km l 0 != 0 with
    | true=>rw [Ab,Ab,g];rfl
    | false=>rw [Aa,Aa,Zi (VQ (j:=0) (by omega) (by omega)),Zi (show Ke _ _ _ _ _=true from Af htu)];rfl
   obtain ⟨k,hk⟩: ∃k,l.length=k+1:=⟨l.length - 1,by omega⟩
   rw [hk,E5,HO];cases g:Di l 0 != 0 with
   | true=>
    refine ⟨1,[.nils,.int .i64 (Di l 0)],?_,.inl ?_⟩
    .rw [Zx,e,g];rfl
    .rw [Ab,g,Ab];unfold De;rw [g];rfl
   | false=>
    obtain ⟨N,hN⟩:=u6c ht h k 1 [DR l 0] (by omega) rfl (Ar 1);refine ⟨N+1,_,by rw [Zx,e,g,Aa];exact hN,.inl ?_⟩;rw [Aa];cases g2:E5 l k 1 != 0 with
    | true=>rw [Ab,Ab];unfold De;rw [g2];rfl
    | false=>rfl
 .refine ⟨0,[.nils,.int .i64 (Kx l)],by rw [Ur h];rfl,.inl ?_⟩;rw [Ur h,Ab];unfold De;rw [Ur h];rfl
def F5 :zy->Option (B9×Bool)
 | [a0]=>match CY CD a0 with
  | some (L,g,n)=>some (.tup [.dat (Wq L).length (Zz (Wq L)),.int .i64 (N5 L)],CX CD n g&&Um L)
  | _=>none
 | _=>none
theorem v6o : ∀(L:List zx) (acc:zx),(EP L acc).2≠0->(EP L acc).1=[]
 | [],acc,h=>absurd rfl h
 | x::r,acc,h=>by
  rw [EP] at h ⊢;cases g:DL .u acc x != 0 with
  | true=>rfl
  | false=>rw [g] at h;exact v6o r _ h
theorem j1f (l:zt) (h:(EG l).2≠0):(EG l).1=[]:=by
 unfold EG at h ⊢;cases g:Kx l != 0 with
 | true=>rfl
 | false=>
  rw [g,Aa] at h;cases g2:E5 l l.length 0 != 0 with
  | true=>rw [Aa,Ab]
  | false=>rw [g2] at h;exact v6o _ _ h
theorem u6a {l:zt} {vs:zy} (h:vs=De (EG l)\/(vs=[.nils,.int .i64 0]/\EG l=([],0))) (ρ:CE) (u:Value) (hu:Yv ρ (Uz vs) u):Yv ρ (.tup [.dat (Wq l).length (Zz (Wq l)),.int .i64 (N5 l)]) u:=by
 unfold Wq N5;rcases h with rfl | ⟨rfl,h2⟩
 .unfold De at hu;by_cases g:(EG l).2=0
  .rw [Jz g] at hu;rw [g];exact hu
  .rw [Ur g] at hu;rw [j1f l g];exact Qn (.cons (.nild _) (.cons (.refl _) .nil)) ρ u hu
 .rw [h2];exact Qn (.cons (.nild _) (.cons (.refl _) .nil)) ρ u hu
theorem u5z {l:zt} {vs:zy} (h:vs=De (EG l)\/(vs=[.nils,.int .i64 0]/\EG l=([],0))):pf 5 (Uz vs)=true:=by
 rcases h with rfl | ⟨rfl,_⟩
 .unfold De;cases (EG l).2 != 0 <;> rfl
 .rfl
theorem j6z {S:CB} (hS:Zw prog S):Zw prog (S.with Tr F5):=E4 hS (by kernel_rfl) fun args v h=>by
 unfold F5 at h;split at h
 .rename_i a0;split at h
  .rename_i L g n e0;simp only [Ad,Ae,Ac] at h;obtain ⟨rfl,ho0,hw⟩:=h;obtain ⟨N,vs,hN,hv⟩:=j1d L hw;exact ⟨_,vs,(.cons (Yi e0 ho0) .nil),u6a hv,v9a L N _ hN,5,u5z hv⟩
  .cases h
 .cases h
def Sv3 :CB:=((Sv2.with VA Fa).with UC Ph).with Tr F5
theorem Vh :Zw prog Sv3:=j6z (j7c (j8n Kz))
inductive Hj where
def OF (aF:Int) (aQ:Int) (aP:Int) (aO:Int) (bD:Int) (bC:Int):Hj->CI
 :=nofun
def x9a (aF:Int) (aQ:Int) (aP:Int) (aO:Int) (bD:Int) (bC:Int):Hj->Yr Hj
 :=nofun
def S1 (aF:Int) (aQ:Int) (aP:Int) (aO:Int) (bD:Int) (bC:Int):Yr Hj:=(bif (decide (aF>=(-1000000))) then (bif (decide (aQ>=(-1000000))) then (bif (decide (aP>=(-1000000))) then (bif (decide (aF<=1000000)) then (bif (decide (aQ<=1000000)) then (bif (decide (aP<=1000000)) then (bif (decide (aO>=(-1000000))) then (bif (decide (bD>=(-1000000))) then (bif (decide (bC>=(-1000000))) then (bif (decide (aO<=1000000)) then (bif (decide (bD<=1000000)) then (bif (decide (bC<=1000000)) then (bif (decide (aF<aO)) then (bif (decide (aQ<bD)) then (.ret [(.bool (decide (aP<bC)))]) else (.ret [(.bool false)])) else (.ret [(.bool false)])) else (.ret [(.bool false)])) else (.ret [(.bool false)])) else (.ret [(.bool false)])) else (.ret [(.bool false)])) else (.ret [(.bool false)])) else (.ret [(.bool false)])) else (.ret [(.bool false)])) else (.ret [(.bool false)])) else (.ret [(.bool false)])) else (.ret [(.bool false)])) else (.ret [(.bool false)])) else (.ret [(.bool false)]))
theorem w8q (aF:Int) (aQ:Int) (aP:Int) (aO:Int) (bD:Int) (bC:Int): ∀s,Xx prog (Zy prog 56) (OF aF aQ aP aO bD bC) (OF aF aQ aP aO bD bC s) (x9a aF aQ aP aO bD bC s)
 :=nofun
theorem x9b (aF:Int) (aQ:Int) (aP:Int) (aO:Int) (bD:Int) (bC:Int):Xx prog (Zy prog 56) (OF aF aQ aP aO bD bC) (Zp prog 56 [(.agg [(.int .i64 aF),(.int .i64 aQ),(.int .i64 aP),(.int .i64 aO),(.int .i64 bD),(.int .i64 bC)])] true []) (S1 aF aQ aP aO bD bC):=(lb (fun k0=>(lb (fun k1=>let g:=tt k1 (tt k0 nn);(lb (fun k2=>let b:=tt k2 g;(lb (fun k3=>(lb (fun k4=>let d:=tt k4 (tt k3 b);(lb (fun k5=>(lb (fun k6=>let a:=tt k6 (tt k5 d);(lb (fun k7=>(lb (fun k8=>let e:=tt k8 (tt k7 a);(lb (fun k9=>(lb (fun k10=>let c:=tt k10 (tt k9 e);(lb (fun k11=>(lb (fun k12=>let f:=tt k12 (tt k11 c);(lb (fun k13=>(lr 40 3 (pn 767) 1 5 [(2,(.bool (decide (aP<bC))))] (sl Vh 131 [] (a7 [2]) a6 (CK 58 []) (tt k13 f)))) (fun k13=>(lr 40 3 (pn 767) 1 5 [(2,(.bool false))] (sl Vh 131 [] (a7 [2]) a6 (CK 51 (bl 7 0)) (tt k13 f)))))) (fun k12=>(lr 40 3 (pn 767) 1 5 [(2,(.bool false))] (sl Vh 131 [] (a7 [2]) a6 (CK 44 (bl 14 0)) (tt k12 (tt k11 c))))))) (fun k11=>(lr 40 3 (pn 767) 1 5 [(2,(.bool false))] (sl Vh 131 [] (a7 [2]) a6 (CK 37 (bl 21 0)) (tt k11 c)))))) (fun k10=>(lr 40 3 (pn 767) 1 5 [(2,(.bool false))] (sl Vh 131 [] (a7 [2]) a6 (CK 34 (bl 24 0)) (tt k10 (tt k9 e))))))) (fun k9=>(lr 40 3 (pn 767) 1 5 [(2,(.bool false))] (sl Vh 131 [] (a7 [2]) a6 (CK 31 (bl 27 0)) (tt k9 e)))))) (fun k8=>(lr 40 3 (pn 767) 1 5 [(2,(.bool false))] (sl Vh 131 [] (a7 [2]) a6 (CK 28 (bl 30 0)) (tt k8 (tt k7 a))))))) (fun k7=>(lr 40 3 (pn 767) 1 5 [(2,(.bool false))] (sl Vh 131 [] (a7 [2]) a6 (CK 24 (bl 34 0)) (tt k7 a)))))) (fun k6=>(lr 40 3 (pn 767) 1 5 [(2,(.bool false))] (sl Vh 131 [] (a7 [2]) a6 (CK 20 (bl 38 0)) (tt k6 (tt k5 d))))))) (fun k5=>(lr 40 3 (pn 767) 1 5 [(2,(.bool false))] (sl Vh 90 [] (a7 [2]) a6 (CK 17 (bl 24 0)) (tt k5 d)))))) (fun k4=>(lr 40 3 (pn 767) 1 5 [(2,(.bool false))] (sl Vh 90 [] (a7 [2]) a6 (CK 14 (bl 27 0)) (tt k4 (tt k3 b))))))) (fun k3=>(lr 40 3 (pn 767) 1 5 [(2,(.bool false))] (sl Vh 90 [] (a7 [2]) a6 (CK 11 (bl 30 0)) (tt k3 b)))))) (fun k2=>(lr 40 3 (pn 767) 1 5 [(2,(.bool false))] (sl Vh 90 [] (a7 [2]) a6 (CK 8 (bl 33 0)) (tt k2 g)))))) (fun k1=>(lr 40 3 (pn 767) 1 5 [(2,(.bool false))] (sl Vh 90 [] (a7 [2]) a6 (CK 4 (bl 37 0)) (tt k1 (tt k0 nn))))))) (fun k0=>(lr 40 3 (pn 767) 1 5 [(2,(.bool false))] (sl Vh 90 [] (a7 [2]) a6 (bl 41 0) (tt k0 nn)))))
theorem u0t (aF:Int) (aQ:Int) (aP:Int) (aO:Int) (bD:Int) (bC:Int) (n:Nat) (vs:zy) (h:Yx (x9a aF aQ aP aO bD bC) n (S1 aF aQ aP aO bD bC)=.ret vs):Vi prog (Zy prog 56) (Zp prog 56 [(.agg [(.int .i64 aF),(.int .i64 aQ),(.int .i64 aP),(.int .i64 aO),(.int .i64 bD),(.int .i64 bC)])] true []) vs:=by have:=Zg (w8q aF aQ aP aO bD bC) n _ (x9b aF aQ aP aO bD bC);rwa [h] at this
inductive Hr where
def OS (aF:Int) (aQ:Int) (aP:Int) (aO:Int) (bD:Int) (bC:Int) (aD:Int) (aI:Int) (aJ:Int) (aN:Int):Hr->CI
 :=nofun
def x9o (aF:Int) (aQ:Int) (aP:Int) (aO:Int) (bD:Int) (bC:Int) (aD:Int) (aI:Int) (aJ:Int) (aN:Int):Hr->Yr Hr
 :=nofun
def SW (aF:Int) (aQ:Int) (aP:Int) (aO:Int) (bD:Int) (bC:Int) (aD:Int) (aI:Int) (aJ:Int) (aN:Int):Yr Hr:=(bif (Ut aD aI aJ aN aF aQ aP) then (bif (Ut aD aI aJ aN aO bD bC) then (.ret [(.agg [(.int .i64 (Jc (CU aD aI aJ aN aF aQ aP).a (CU aD aI aJ aN aO bD bC).a)),(.int .i64 (Jc (CU aD aI aJ aN aF aQ aP).b (CU aD aI aJ aN aO bD bC).b)),(.int .i64 (Jc (CU aD aI aJ aN aF aQ aP).c (CU aD aI aJ aN aO bD bC).c)),(.int .i64 (Jd (CU aD aI aJ aN aF aQ aP).a (CU aD aI aJ aN aO bD bC).a)),(.int .i64 (Jd (CU aD aI aJ aN aF aQ aP).b (CU aD aI aJ aN aO bD bC).b)),(.int .i64 (Jd (CU aD aI aJ aN aF aQ aP).c (CU aD aI aJ aN aO bD bC).c))])]) else .stuck) else .stuck)
theorem w9c (aF:Int) (aQ:Int) (aP:Int) (aO:Int) (bD:Int) (bC:Int) (aD:Int) (aI:Int) (aJ:Int) (aN:Int): ∀s,Xx prog (Zy prog 63) (OS aF aQ aP aO bD bC aD aI aJ aN) (OS aF aQ aP aO bD bC aD aI aJ aN s) (x9o aF aQ aP aO bD bC aD aI aJ aN s)
 :=nofun
theorem x9p (aF:Int) (aQ:Int) (aP:Int) (aO:Int) (bD:Int) (bC:Int) (aD:Int) (aI:Int) (aJ:Int) (aN:Int):Xx prog (Zy prog 63) (OS aF aQ aP aO bD bC aD aI aJ aN) (Zp prog 63 [(.agg [(.int .i64 aF),(.int .i64 aQ),(.int .i64 aP),(.int .i64 aO),(.int .i64 bD),(.int .i64 bC)]),(.agg [(.int .u8 aD),(.int .i64 aI),(.int .i64 aJ),(.int .i64 aN)])] true []) (SW aF aQ aP aO bD bC aD aI aJ aN):=(lo fun o0=>(lo fun o1=>let d:=CU aD aI aJ aN aF aQ aP;let e:=CU aD aI aJ aN aO bD bC;(Yu ⟨⟨48,0,true⟩,none,(Zq prog 3 (pn 767) 1),none,(Zy prog 63),⟨Zs [(4,(.ptr 0 0))],Xe [⟨[(ii (Jc d.a e.a)),(ii (Jc d.b e.b)),(ii (Jc d.c e.c)),(ii (Jd d.a e.a)),(ii (Jd d.b e.b)),(ii (Jd d.c e.c))],76,none⟩] 0,1,[],true⟩,[],.leaf⟩ (sl Vh 45 [] ⟨[2],[],[some [4]],[]⟩ a6 [] (ww o1 (ww o0 nn))) rfl (by kernel_rfl))))
theorem u1f (aF:Int) (aQ:Int) (aP:Int) (aO:Int) (bD:Int) (bC:Int) (aD:Int) (aI:Int) (aJ:Int) (aN:Int) (n:Nat) (vs:zy) (h:Yx (x9o aF aQ aP aO bD bC aD aI aJ aN) n (SW aF aQ aP aO bD bC aD aI aJ aN)=.ret vs):Vi prog (Zy prog 63) (Zp prog 63 [(.agg [(.int .i64 aF),(.int .i64 aQ),(.int .i64 aP),(.int .i64 aO),(.int .i64 bD),(.int .i64 bC)]),(.agg [(.int .u8 aD),(.int .i64 aI),(.int .i64 aJ),(.int .i64 aN)])] true []) vs:=by have:=Zg (w9c aF aQ aP aO bD bC aD aI aJ aN) n _ (x9p aF aQ aP aO bD bC aD aI aJ aN);rwa [h] at this
inductive IA where
def O3 (x0:Int) (l1:zx) (l2:zx):IA->CI
 :=nofun
def w0c (x0:Int) (l1:zx) (l2:zx):IA->Yr IA
 :=nofun
def X7 (x0:Int) (l1:zx) (l2:zx):Yr IA:=(bif (Qq (CA l1)) then (bif ((Ju (CA l1)) != 0) then (.ret [.nils,(.int .i64 (Ju (CA l1)))]) else (bif (Qq (CA l2)) then (bif ((Ju (CA l2)) != 0) then (.ret [.nils,(.int .i64 (Ju (CA l2)))]) else (bif (Kh x0 (CA l1) (CA l2)) then (bif (!(EI x0 (CA l1) (CA l2))) then (.ret [.nils,(.int .i64 4)]) else (.ret [(.dat (Jr x0 (CA l1) (CA l2)).length (Zz (Jr x0 (CA l1) (CA l2)))),(.int .i64 0)])) else .stuck)) else .stuck)) else .stuck)
theorem w9n (x0:Int) (l1:zx) (l2:zx): ∀s,Xx prog (Zy prog 39) (O3 x0 l1 l2) (O3 x0 l1 l2 s) (w0c x0 l1 l2 s)
 :=nofun
theorem w0d (x0:Int) (l1:zx) (l2:zx):Xx prog (Zy prog 39) (O3 x0 l1 l2) (Zp prog 39 [(.int .i64 x0),(dt l1),(dt l2)] true []) (X7 x0 l1 l2):=(lo fun bG=>let a:=pp (xr l1) (xw bG);(lb (fun k0=>(lr 27 39 (pn 37) 1 39 [(6,.nils),(7,(ii (Ju (CA l1))))] (sl Vh 60 [] (a7 [6,7]) a6 (CK 3 []) (pp a (tt k0 (pp a (tt k0 (pp a (tt k0 (pp a nn)))))))))) (fun k0=>(lo fun aL=>let e:=pp (xr l2) (xw aL);let c:=pp e (tt k0 (pp a nn));(lb (fun k1=>(lr 27 39 (pn 37) 1 39 [(6,.nils),(7,(ii (Ju (CA l2))))] (sl Vh 62 [] (a7 [6,7]) a6 (bl 3 2) (pp e (tt k0 (pp a (tt k1 c))))))) (fun k1=>(lo fun bO=>let b:=pp (pp (xr l1) (pp (xr l2) (xw bO))) (tt k1 c);(lb (fun k2=>(lr 27 39 (pn 151) 1 39 [(6,.nils),(7,(ii 4))] (sl Vh 59 [] (a7 [6,7]) a6 (bl 3 4) (tt k2 b)))) (fun k2=>let d:=Jr x0 (CA l1) (CA l2);(lr 27 3 (pn 767) 1 39 [(6,(dt d)),(7,(ii 0))] (sl Vh 61 [] (a7 [6,7]) a6 (bl 3 0) (tt k2 b))))))))))))
theorem u1r (x0:Int) (l1:zx) (l2:zx) (n:Nat) (vs:zy) (h:Yx (w0c x0 l1 l2) n (X7 x0 l1 l2)=.ret vs):Vi prog (Zy prog 39) (Zp prog 39 [(.int .i64 x0),(dt l1),(dt l2)] true []) vs:=by have:=Zg (w9n x0 l1 l2) n _ (w0d x0 l1 l2);rwa [h] at this
inductive He where
 | h0 (v5:Int)
def Ny (l0:zt) (l1:zt):He->CI
 | .h0 v5=>⟨⟨68,0,true⟩,none,(Zq prog 20 (pn 75) 0),none,(Zy prog 4),⟨Zs [(0,(dt l0)),(1,(dt l1)),(5,(ii v5))],Xe [] 0,0,[],true⟩,[],.leaf⟩
def KT :List (Option zr):=[some [0,1,5]]
def KU :List (Option zr):=[]
def NI (l0:zt) (l1:zt):He->Yr He
 | .h0 v5=>let b:=rd l1 v5.toNat;let c:=rd l0 v5.toNat;(bif (decide (v5<(l0.length:Int))) then (bif ((decide (0<=v5/\v5<(l0.length:Int)))&&true) then (bif ((decide (0<=v5/\v5<(l1.length:Int)))&&true) then (bif (!(c.n == b.n)) then (.ret [(.bool false)]) else (bif (c.a != b.a) then (.ret [(.bool false)]) else (bif (!((c.t == b.t)&&(((c.x == b.x)&&((c.y == b.y)&&((c.z == b.z)&&true)))&&true))) then (.ret [(.bool false)]) else (bif (Wk (CA c.s) (CA b.s)) then (bif (!(Jv (CA c.s) (CA b.s))) then (.ret [(.bool false)]) else (.to (.h0 (wrap .i64 (v5+1))))) else .stuck)))) else .stuck) else .stuck) else (.ret [(.bool true)]))
def YK (l0:zt) (l1:zt):Yr He:=(bif ((l0.length:Int) != (l1.length:Int)) then (.ret [(.bool false)]) else (.to (.h0 0)))
theorem w8j (l0:zt) (l1:zt): ∀s,Xx prog (Zy prog 20) (Ny l0 l1) (Ny l0 l1 s) (NI l0 l1 s)
 | .h0 v5=>(lb (fun k0=>(lo fun aL=>(lo fun aT=>let c:=ww aT (ww aL (tt k0 nn));(lb (fun k1=>(lr 68 20 (pn 4683) 1 4 [(4,(.bool false))] (sl Vh 19 [] (a7 [4]) a6 (CK 36 []) (tt k1 c)))) (fun k1=>let a:=ww aT (ww aL (tt k1 c));(lb (fun k2=>(lr 68 20 (pn 4683) 1 4 [(4,(.bool false))] (sl Vh 19 [] (a7 [4]) a6 (bl 36 68719472641) (tt k2 a)))) (fun k2=>let d:=ww aT (ww aL (tt k2 a));(lb (fun k3=>(lr 68 20 (pn 4683) 1 4 [(4,(.bool false))] (sl Vh 19 [] (a7 [4]) a6 (bl 36 68711088129) (tt k3 d)))) (fun k3=>(lo fun bT=>let b:=ww aT (ww aL (tt k3 d));let e:=rd l0 (tn v5);let f:=rd l1 (tn v5);(lb (fun k4=>(lr 68 20 (pn 4683) 1 4 [(4,(.bool false))] (sl Vh 19 [] (a7 [4]) a6 (bl 36 34359738369) (tt k4 (pp (pp (xI R6 e.s.length (Zz e.s)) (pp (xI R6 f.s.length (Zz f.s)) (xw bT))) b))))) (fun k4=>(sl Vh 23 [] ⟨[],[],KT,KU⟩ a6 (bl 36 1) (tt k4 (pp (pp (xI R6 e.s.length (Zz e.s)) (pp (xI R6 f.s.length (Zz f.s)) (xw bT))) b))))))))))))))) (fun k0=>(lr 68 3 (pn 767) 1 4 [(4,(.bool true))] (sl Vh 14 [] (a7 [4]) a6 [false] (tt k0 nn)))))
theorem x8s (l0:zt) (l1:zt):Xx prog (Zy prog 20) (Ny l0 l1) (Zp prog 20 [(dt l0),(dt l1)] true []) (YK l0 l1):=(lb (fun k0=>(lr 68 20 (pn 37) 1 4 [(4,(.bool false))] (sl Vh 18 [] (a7 [4]) a6 [true] (tt k0 nn)))) (fun k0=>(sl Vh 22 [] ⟨[],[],KT,KU⟩ a6 [false] (tt k0 nn))))
theorem u0n (l0:zt) (l1:zt) (n:Nat) (vs:zy) (h:Yx (NI l0 l1) n (YK l0 l1)=.ret vs):Vi prog (Zy prog 20) (Zp prog 20 [(dt l0),(dt l1)] true []) vs:=by have:=Zg (w8j l0 l1) n _ (x8s l0 l1);rwa [h] at this
theorem w0t {α:Type} [Xa α] {l:List α} {i:Nat} (h:i<l.length):rd l i∈l:=by rw [Xm h];exact AS h
def FV (x y:CD):Bool:=bif !(x.n == y.n) then false else bif x.a != y.a then false else bif !((x.t == y.t)&&(((x.x == y.x)&&((x.y == y.y)&&((x.z == y.z)&&true)))&&true)) then false else Jv x.s y.s
def FU (l m:zt):Nat->Nat->Bool
 | 0,_=>true
 | k+1,i=>bif FV (rd l i) (rd m i) then FU l m k (i+1) else false
def H2 (l m:zt):Bool:=bif decide (l.length=m.length) then FU l m l.length 0 else false
def JI (l m:zt):Bool:=decide (l.length<=1000000)&&l.all fun x=>decide (x.s.length<=1000000)
theorem v4g (x:CD):FV x x=true:=by unfold FV Jv;rw [show (x.n == x.n)=true from Bw _,show (x.a != x.a)=false by simp,show (x.t == x.t)=true from Bw _,show (x.x == x.x)=true from Bw _,show (x.y == x.y)=true from Bw _,show (x.z == x.z)=true from Bw _];exact Af rfl
theorem x4v (l:zt): ∀k i,FU l l k i=true
 | 0,i=>rfl
 | k+1,i=>by rw [FU,v4g,Ab,x4v l k]
theorem x4u (l:zt):H2 l l=true:=by unfold H2;rw [Af rfl,Ab,x4v]
theorem u7g {l m:zt} (ho:JI l m=true) (hm:l.length=m.length): ∀(k i:Nat),i+k=l.length-> ∃N,Yx (NI l m) N (.to (.h0 (i:Int)))=.ret [.bool (FU l m k i)]
 | 0,i,h=>by refine ⟨1,?_⟩;rw [Zx];unfold NI;simp only [];rw [Ym (by omega)];rfl
 | k +1,i,h=>by
  have ho':=ho;unfold JI at ho;rw [Ac,Ao] at ho;have hi:i<l.length:=by omega
  have w2:wrap .i64 ((i:Int)+1)=((i+1:Nat):Int):=Zk (by omega);have hs:Wk (rd l i).s (rd m i).s =true:=Au.1 ho.2 _ (w0t hi);have e:NI l m (.h0 (i:Int))=bif FV (rd l i) (rd m i) then .to (.h0 ((i+1:Nat):Int)) else .ret [.bool false]:=by
   unfold NI FV;simp only [Zj,w2,Za];rw [Zi (Zt (by omega)),Ai,Zi (Zr (by omega)),Ai,Zi (Zr (by omega)),Zi hs];cases (rd l i).n == (rd m i).n with
   | false=>rfl
   | true=>
    cases (rd l i).a != (rd m i).a with
    | true=>rfl
    | false=>
     cases ((rd l i).t == (rd m i).t)&&(((rd l i).x == (rd m i).x)&&(((rd l i).y == (rd m i).y)&&(((rd l i).z == (rd m i).z)&&true))&&true) with
     | false=>rfl
     | true=>cases Jv (rd l i).s (rd m i).s <;> rfl
  rw [FU];cases g:FV (rd l i) (rd m i) with
  | false=>exact ⟨1,by rw [Zx,e,g];rfl⟩
  | true=>obtain ⟨N,hN⟩:=u7g ho' hm k (i+1) (by omega);exact ⟨N+1,by rw [Zx,e,g,Ab,Ab,hN]⟩
theorem j2u (l m:zt) (h:JI l m=true): ∃N,Yx (NI l m) N (YK l m)=.ret [.bool (H2 l m)]:=by
 unfold YK H2;by_cases hm:l.length=m.length
 .obtain ⟨N,hN⟩:=u7g h hm l.length 0 (Ah _);refine ⟨N,?_⟩;rw [show ((l.length:Int) != (m.length:Int))=false by rw [hm];simp,Aa,Af hm,Ab];exact hN
 .refine ⟨0,?_⟩;rw [show ((l.length:Int) != (m.length:Int))=true by simp;omega,An hm];rfl
def Pq :zy->Option (B9×Bool)
 | [a0,a1]=>match CY CD a0,CY CD a1 with
  | some (L0,g0,n0),some (L1,g1,n1)=>some (.bool (H2 L0 L1),CX CD n0 g0&&(CX CD n1 g1&&(JI L0 L1)))
  | _,_=>none
 | _=>none
theorem j7j {S:CB} (hS:Zw prog S):Zw prog (S.with UJ Pq):=Kv hS (by kernel_rfl) fun args v h=>by
 unfold Pq at h;split at h
 .rename_i a0 a1;split at h
  .rename_i L0 g0 n0 L1 g1 n1 e0 e1;simp only [Ad,Ae,Ac] at h;obtain ⟨rfl,ho0,ho1,hw⟩:=h;obtain ⟨N,hN⟩:=j2u L0 L1 hw;exact ⟨_,_,(.cons (Yi e0 ho0) (.cons (Yi e1 ho1) .nil)),rfl,u0n L0 L1 N _ hN,3,rfl⟩
  .cases h
 .cases h
theorem retb {σ:Type} (a b:Bool):(bif a then (.ret [.bool b]:Yr σ) else .ret [.bool false])=.ret [.bool (a&&b)]:=by cases a <;> rfl
def GR (a b c d e f:Int):Bool:=Kt ⟨a,b,c,d,e,f⟩
theorem j2z (a b c d e f:Int): ∃N,Yx (x9a a b c d e f) N (S1 a b c d e f)=.ret [.bool (GR a b c d e f)]:=⟨0,by
 show S1 a b c d e f=_;unfold S1;simp only [retb]
 congr 3
 rw [AU];unfold GR Kt;simp only [Ac,Ao,GF,GE];omega⟩
def Pr :zy->Option (B9×Bool)
 | [.agg [.int .i64 aF,.int .i64 aQ,.int .i64 aP,.int .i64 aO,.int .i64 bD,.int .i64 bC]]=>some (.bool (GR aF aQ aP aO bD bC),true)
 | _=>none
theorem j7m {S:CB} (hS:Zw prog S):Zw prog (S.with UN Pr):=by
 refine Kv hS (by kernel_rfl) fun args v h=> ?_;unfold Pr at h;split at h
 .rename_i aF aQ aP aO bD bC;simp only [Ad,Ae,and_true] at h;subst h;obtain ⟨N,hN⟩:=j2z aF aQ aP aO bD bC;exact ⟨_,_,(.cons (.refl _) .nil),rfl,u0t aF aQ aP aO bD bC N _ hN,3,rfl⟩
 .cases h
def Jp (a b c d e f t x y z:Int):R6:=⟨Jc (CU t x y z a b c).a (CU t x y z d e f).a,Jc (CU t x y z a b c).b (CU t x y z d e f).b,Jc (CU t x y z a b c).c (CU t x y z d e f).c,Jd (CU t x y z a b c).a (CU t x y z d e f).a,Jd (CU t x y z a b c).b (CU t x y z d e f).b,Jd (CU t x y z a b c).c (CU t x y z d e f).c⟩
def R0 (a b c d e f t x y z:Int):Bool:=Ut t x y z a b c&&Ut t x y z d e f
theorem j3q (a b c d e f t x y z:Int) (h:R0 a b c d e f t x y z=true): ∃N,Yx (x9o a b c d e f t x y z) N (SW a b c d e f t x y z)=.ret [.agg [.int .i64 (Jp a b c d e f t x y z).a,.int .i64 (Jp a b c d e f t x y z).b,.int .i64 (Jp a b c d e f t x y z).c,.int .i64 (Jp a b c d e f t x y z).d,.int .i64 (Jp a b c d e f t x y z).e,.int .i64 (Jp a b c d e f t x y z).f]]:=⟨0,by
 unfold R0 at h;rw [Ac] at h;show SW a b c d e f t x y z=_;unfold SW;rw [Zi h.1,Zi h.2];rfl⟩
def Pu :zy->Option (B9×Bool)
 | [.agg [.int .i64 a,.int .i64 b,.int .i64 c,.int .i64 d,.int .i64 e,.int .i64 f],.agg [.int .u8 t,.int .i64 x,.int .i64 y,.int .i64 z]]=>some (.agg [.int .i64 (Jp a b c d e f t x y z).a,.int .i64 (Jp a b c d e f t x y z).b,.int .i64 (Jp a b c d e f t x y z).c,.int .i64 (Jp a b c d e f t x y z).d,.int .i64 (Jp a b c d e f t x y z).e,.int .i64 (Jp a b c d e f t x y z).f],R0 a b c d e f t x y z)
 | _=>none
theorem j7u {S:CB} (hS:Zw prog S):Zw prog (S.with LT Pu):=by
 refine Kv hS (by kernel_rfl) fun args v h=> ?_;unfold Pu at h;split at h
 .rename_i a b c d e f t x y z;simp only [Ad,Ae] at h;obtain ⟨rfl,hw⟩:=h;obtain ⟨N,hN⟩:=j3q a b c d e f t x y z hw;exact ⟨_,_,(.cons (.refl _) (.cons (.refl _) .nil)),rfl,u1f a b c d e f t x y z N _ hN,3,rfl⟩
 .cases h
def FG (k:Int) (l m:zx):Int:=bif Ju l != 0 then Ju l else bif Ju m != 0 then Ju m else bif EI k l m then 0 else 4
def Rt (k:Int) (l m:zx):zx:=Dn (FG k l m) (Jr k l m)
def RZ (k:Int) (l m:zx):Bool:=Kh k l m
theorem j4h (k:Int) (l m:zx) (h:RZ k l m=true): ∃N,Yx (w0c k l m) N (X7 k l m)=.ret (DU (FG k l m) (Jr k l m)):=⟨0,by
 unfold X7 FG;simp only [Za,show∀l,Qq l=true from fun _=>rfl,show Kh k l m=true from h,Ab];rcases Xz (Ju l != 0) with q | q
 .rw [q,Ab,Ab,Kd _ q];rfl
 rcases Xz (Ju m != 0) with q2 | q2
 .rw [q,q2,Aa,Aa,Ab,Ab,Kd _ q2];rfl
 rw [q,q2];cases EI k l m <;> rfl⟩
def Pw :zy->Option (B9×Bool)
 | [.int .i64 k,a1,a2]=>match CY R6 a1,CY R6 a2 with
  | some (L1,g1,n1),some (L2,g2,n2)=>some (.tup [.dat (Rt k L1 L2).length (Zz (Rt k L1 L2)),.int .i64 (FG k L1 L2)],CX R6 n1 g1&&(CX R6 n2 g2&&(RZ k L1 L2)))
  | _,_=>none
 | _=>none
theorem j8b {S:CB} (hS:Zw prog S):Zw prog (S.with UY Pw):=by
 refine E4 hS (by kernel_rfl) fun args v h=> ?_;unfold Pw at h;split at h
 .rename_i k a1 a2;split at h
  .rename_i L1 g1 n1 L2 g2 n2 e1 e2;simp only [Ad,Ae,Ac] at h;obtain ⟨rfl,ho1,ho2,hw⟩:=h;obtain ⟨N,hN⟩:=j4h k L1 L2 hw;exact ⟨_,_,(.cons (.refl _) (.cons (Yi e1 ho1) (.cons (Yi e2 ho2) .nil))),NO _ _,u1r k L1 L2 N _ hN,3,Mv _ _⟩
  .cases h
 .cases h
def Sr0 :CB:=(((Sv3.with UN Pr).with LT Pu).with UY Pw).with UJ Pq
theorem NS :Zw prog Sr0:=j7j (j8b (j7u (j7m Vh)))
end Go.Am
end
