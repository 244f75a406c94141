/- A part of a proof: several texts in one. -/
import Derived.Test.YtigjpddfojohaaaGreatNg6
import Derived.ChangeArms
set_option maxRecDepth 1000000
set_option maxHeartbeats 8000000
set_option linter.unusedVariables false
set_option linter.unusedSimpArgs false
noncomputable section
namespace Go.Am
open IntKind (wrap)
open Go.Proofs.Tryz
open Go.Proofs
inductive Hu where
 | h0 (v4:Int)
def OX (l0:zx):Hu->CI
 | .h0 v4=>⟨⟨30,0,true⟩,none,(Zq prog 64 (pn 75) 0),none,(Zy prog 17),⟨Zs [(0,(dt l0)),(4,(ii v4))],Xe [] 0,0,[],true⟩,[],.leaf⟩
def L3 :List (Option zr):=[some [0,4]]
def L4 :List (Option zr):=[]
def Mz (l0:zx):Hu->Yr Hu
 | .h0 v4=>let g:=rd l0 v4.toNat;(bif (decide (v4<(l0.length:Int))) then (bif ((decide (0<=v4/\v4<(l0.length:Int)))&&true) then (bif (!(GR g.a g.b g.c g.d g.e g.f)) then (.ret [.nils,(.int .i64 8)]) else (.to (.h0 (wrap .i64 (v4+1))))) else .stuck) else (bif (Kh 2 (CA l0) ([]:zx)) then (bif (!(EI 2 (CA l0) ([]:zx))) then (.ret [.nils,(.int .i64 4)]) else (.ret [(.dat (Jr 2 (CA l0) ([]:zx)).length (Zz (Jr 2 (CA l0) ([]:zx)))),(.int .i64 0)])) else .stuck))
def YA (l0:zx):Yr Hu:=(bif (decide ((l0.length:Int)>400)) then (.ret [.nils,(.int .i64 4)]) else (.to (.h0 0)))
theorem w9h (l0:zx): ∀s,Xx prog (Zy prog 64) (OX l0) (OX l0 s) (Mz l0 s)
 | .h0 v4=>(lb (fun k0=>(lo fun aL=>let b:=ww aL (tt k0 nn);(lb (fun k1=>(lr 30 64 (pn 4683) 1 17 [(2,.nils),(3,(ii 8))] (sl NS 27 [] (a7 [2,3]) a6 (bl 2 3) (tt k1 b)))) (fun k1=>(sl NS 30 [] ⟨[],[],L3,L4⟩ a6 (bl 2 1) (tt k1 b)))))) (fun k0=>(lo fun aL=>(lb (fun k1=>(lr 30 64 (pn 303) 1 17 [(2,.nils),(3,(ii 4))] (sl NS 32 [] (a7 [2,3]) a6 (bl 2 2) (tt k1 (pp (pp (xr l0) (pp (xI R6 0 (fun _=>[])) (xw aL))) (tt k0 nn)))))) (fun k1=>let a:=Jr 2 (CA l0) ([]:zx);(lr 30 3 (pn 767) 1 17 [(2,(dt a)),(3,(ii 0))] (sl NS 34 [] (a7 [2,3]) a6 (bl 2 0) (tt k1 (pp (pp (xr l0) (pp (xI R6 0 (fun _=>[])) (xw aL))) (tt k0 nn))))))))))
theorem x9u (l0:zx):Xx prog (Zy prog 64) (OX l0) (Zp prog 64 [(dt l0)] true []) (YA l0):=(lb (fun k0=>(lr 30 64 (pn 37) 1 17 [(2,.nils),(3,(ii 4))] (sl NS 18 [] (a7 [2,3]) a6 [true] (tt k0 nn)))) (fun k0=>(sl NS 21 [] ⟨[],[],L3,L4⟩ a6 [false] (tt k0 nn))))
theorem u1l (l0:zx) (n:Nat) (vs:zy) (h:Yx (Mz l0) n (YA l0)=.ret vs):Vi prog (Zy prog 64) (Zp prog 64 [(dt l0)] true []) vs:=by have:=Zg (w9h l0) n _ (x9u l0);rwa [h] at this
open Go.Sort Go.Shelf Go.RowKit Go.Lib
def Gb (l:zx):Int:=bif decide (400<l.length) then 4 else bif l.all Kt then (bif EI 2 l [] then 0 else 4) else 8
def Gu (l:zx):zx:=Dn (Gb l) (Jr 2 l [])
def Sc (l:zx):Bool:=Kh 2 l []
theorem u8d {l:zx} (hl:l.length<=400) (ho:Sc l=true): ∀(k i:Nat),i+k=l.length-> ∃N,Yx (Mz l) N (.to (.h0 (i:Int)))=.ret (DU (bif (l.drop i).all Kt then (bif EI 2 l [] then 0 else 4) else 8) (Jr 2 l []))
 | 0,i,h=>by refine ⟨1,?_⟩;rw [Zx,Av (by omega)];have ho:Kh 2 l []=true:=ho;unfold Mz;simp only [Za];rw [Ym (by omega),Aa,Zi ho,List.all_nil,Ab];cases EI 2 l [] <;> rfl
 | k+1,i,h=>by
  have hi:i<l.length:=by omega
  have w2:wrap .i64 ((i:Int)+1)=((i+1:Nat):Int):=Zk (by omega);have e:Mz l (.h0 (i:Int))=bif Kt (rd l i) then .to (.h0 ((i+1:Nat):Int)) else .ret [.nils,.int .i64 8]:=by unfold Mz;simp only [Zj,w2];rw [Zi (Zt (by omega)),Ai,Zi (Zr (by omega))];show (bif !(Kt (rd l i)) then _ else _)=_;cases Kt (rd l i) <;> rfl
  rw [Yo hi,BH];cases g:Kt (rd l i) with
  | false=>refine ⟨1,?_⟩;rw [Zx,e,g];rfl
  | true=>obtain ⟨N,hN⟩:=u8d hl ho k (i+1) (by omega);exact ⟨N+1,by rw [Zx,e,g,Ab,Ak,hN]⟩
theorem j3t (l:zx) (h:Sc l=true): ∃n,Yx (Mz l) n (YA l)=.ret (DU (Gb l) (Jr 2 l [])):=by
 unfold YA Gb;by_cases h4:400<l.length
 .refine ⟨0,?_⟩;rw [Af h4,Ys (show (l.length:Int)>400 by omega)];rfl
 .obtain ⟨n,hn⟩:=u8d (l:=l) (by omega) h l.length 0 (Ah _);refine ⟨n,?_⟩;rw [An h4,Xg (show ¬(l.length:Int)>400 by omega),Aa,Aa];rw [AO] at hn;exact hn
def Pv :zy->Option (B9×Bool)
 | [a0]=>match CY R6 a0 with
  | some (L0,g0,n0)=>some (.tup [.dat (Gu L0).length (Zz (Gu L0)),.int .i64 (Gb L0)],CX R6 n0 g0&&(Sc L0))
  | _=>none
 | _=>none
theorem j7x {S:CB} (hS:Zw prog S):Zw prog (S.with UU Pv):=by
 refine E4 hS (by kernel_rfl) fun args v h=> ?_;unfold Pv at h;split at h
 .rename_i a0;split at h
  .rename_i L0 g0 n0 e0;simp only [Ad,Ae,Ac] at h;obtain ⟨rfl,ho0,hw⟩:=h;obtain ⟨N,hN⟩:=j3t L0 hw;exact ⟨_,_,(.cons (Yi e0 ho0) .nil),NO _ _,u1l L0 N _ hN,3,Mv _ _⟩
  .cases h
 .cases h
def Sr1 :CB:=Sr0.with UU Pv
theorem HK :Zw prog Sr1:=j7x NS
abbrev z4j (v6:zx) (l0:zx) (v7:Int) (aD:Int) (aI:Int) (aJ:Int) (aN:Int):=(v6++[(R6.mk (Jp (rd l0 (tn v7)).a (rd l0 (tn v7)).b (rd l0 (tn v7)).c (rd l0 (tn v7)).d (rd l0 (tn v7)).e (rd l0 (tn v7)).f aD aI aJ aN).a (Jp (rd l0 (tn v7)).a (rd l0 (tn v7)).b (rd l0 (tn v7)).c (rd l0 (tn v7)).d (rd l0 (tn v7)).e (rd l0 (tn v7)).f aD aI aJ aN).b (Jp (rd l0 (tn v7)).a (rd l0 (tn v7)).b (rd l0 (tn v7)).c (rd l0 (tn v7)).d (rd l0 (tn v7)).e (rd l0 (tn v7)).f aD aI aJ aN).c (Jp (rd l0 (tn v7)).a (rd l0 (tn v7)).b (rd l0 (tn v7)).c (rd l0 (tn v7)).d (rd l0 (tn v7)).e (rd l0 (tn v7)).f aD aI aJ aN).d (Jp (rd l0 (tn v7)).a (rd l0 (tn v7)).b (rd l0 (tn v7)).c (rd l0 (tn v7)).d (rd l0 (tn v7)).e (rd l0 (tn v7)).f aD aI aJ aN).e (Jp (rd l0 (tn v7)).a (rd l0 (tn v7)).b (rd l0 (tn v7)).c (rd l0 (tn v7)).d (rd l0 (tn v7)).e (rd l0 (tn v7)).f aD aI aJ aN).f)])
abbrev Ru (l0:zx) (v7:Int) (aD:Int) (aI:Int) (aJ:Int) (aN:Int):=(Jp (rd l0 (tn v7)).a (rd l0 (tn v7)).b (rd l0 (tn v7)).c (rd l0 (tn v7)).d (rd l0 (tn v7)).e (rd l0 (tn v7)).f aD aI aJ aN)
abbrev u7x (v6:zx) (l0:zx) (v7:Int) (aD:Int) (aI:Int) (aJ:Int) (aN:Int):=(Zf (Zz v6) 0 v6.length 6 [(ii (Ru l0 v7 aD aI aJ aN).a),(ii (Ru l0 v7 aD aI aJ aN).b),(ii (Ru l0 v7 aD aI aJ aN).c),(ii (Ru l0 v7 aD aI aJ aN).d),(ii (Ru l0 v7 aD aI aJ aN).e),(ii (Ru l0 v7 aD aI aJ aN).f)])
inductive GU where
 | h0 (v6:zx) (v7:Int)
def OP (l0:zx) (aD:Int) (aI:Int) (aJ:Int) (aN:Int):GU->CI
 | .h0 v6 v7=>⟨⟨43,0,true⟩,none,(Zq prog 37 (pn 303) 0),none,(Zy prog 6),⟨Zs [(0,(dt l0)),(3,(.ptr 0 0)),(6,(.sla 1 6 0 v6.length (.un 6))),(7,(ii v7))],Xe [⟨[(.int .u8 aD),(ii aI),(ii aJ),(ii aN)],36,none⟩,(rz v6 76 6)] 0,2,[],true⟩,[],.leaf⟩
def LN :List (Option zr):=[some [0,3,6,7]]
def LO :List (Option zr):=[]
def ND (l0:zx) (aD:Int) (aI:Int) (aJ:Int) (aN:Int):GU->Yr GU
 | .h0 v6 v7=>let i:=rd l0 v7.toNat;let g:=Jp i.a i.b i.c i.d i.e i.f aD aI aJ aN;let h:=rd (v6++[(R6.mk g.a g.b g.c g.d g.e g.f)]) (0+v7.toNat);(bif (decide (v7<(l0.length:Int))) then (bif ((decide (0<=v7/\v7<(l0.length:Int)))&&true) then (bif (R0 i.a i.b i.c i.d i.e i.f aD aI aJ aN) then (bif (Nat.beq 6 6&&((decide (0+v6.length=v6.length))&&decide ((v6.length+1+1)*(48+1)<=Jm))) then (bif ((decide (0<=v7/\v7<(((v6.length+1):Nat):Int)))&&true) then (bif (decide ((0+v7.toNat)<(v6++[(R6.mk g.a g.b g.c g.d g.e g.f)]).length)) then (bif (!(GR h.a h.b h.c h.d h.e h.f)) then (.ret [.nils,(.int .i64 16)]) else (.to (.h0 (v6++[(R6.mk g.a g.b g.c g.d g.e g.f)]) (wrap .i64 (v7+1))))) else .stuck) else .stuck) else .stuck) else .stuck) else .stuck) else (bif (Sc (CA v6)) then (.ret [(.dat (Gu (CA v6)).length (Zz (Gu (CA v6)))),(.int .i64 (Gb (CA v6)))]) else .stuck))
def YF (l0:zx) (aD:Int) (aI:Int) (aJ:Int) (aN:Int):Yr GU:=(bif (Qq (CA l0)) then (bif ((Ju (CA l0)) != 0) then (.ret [.nils,(.int .i64 (Ju (CA l0)))]) else (bif ((CW aD aI aJ aN) != 0) then (.ret [.nils,(.int .i64 (CW aD aI aJ aN))]) else (.to (.h0 ([]:zx) 0)))) else .stuck)
theorem w8z (l0:zx) (aD:Int) (aI:Int) (aJ:Int) (aN:Int): ∀s,Xx prog (Zy prog 37) (OP l0 aD aI aJ aN) (OP l0 aD aI aJ aN s) (ND l0 aD aI aJ aN s)
 | .h0 v6 v7=>(lb (fun k0=>(lo fun q1_0=>(lo fun q1_1=>(lo fun q1_2=>(lo fun q1_3=>let d:=z4j v6 l0 v7 aD aI aJ aN;let a:=d;let f:=v6.length+1;let b:=xL f d.length;let e:=u7x v6 l0 v7 aD aI aJ aN;(Ve (sl HK (C':=⟨⟨43,0,true⟩,(Wr prog 37 (pn 10543) 3),(Zq prog 37 (pn 10543) 1),none,(Zy prog 6),⟨Zs [(0,(dt l0)),(3,(.ptr 0 0)),(6,(.sla 1 6 0 a.length (.un 6))),(7,(ii v7)),(35,(.epa 1 6 (0+(tn v7)) 0))],Xe [⟨[(.int .u8 aD),(ii aI),(ii aJ),(ii aN)],36,none⟩,(rz a 76 6)] 0,2,[],true⟩,[],.leaf⟩) 19 [] ⟨[0,3],[],[some [0,3,6,7,35]],[]⟩ ⟨[(6,.len a.length)],[.keep,.rowed 6 a.length (Zz a)],[]⟩ [true] (pp b (pp b (pp (xS f e (Zz d)) (pp (pp (xF e) nn) (ww q1_3 (ww q1_2 (ww q1_1 (ww q1_0 (tt k0 nn)))))))))) (lo fun aL=>(lb (fun k1=>(lr 43 37 (pn 39215) 1 6 [(4,.nils),(5,(ii 16))] (sl HK 10 [] (a7 [4,5]) a6 [true] (tt k1 (ww aL nn))))) (fun k1=>(sl HK 13 [] ⟨[0,1],[],LN,LO⟩ a6 [false] (pp (fl a nn) (tt k1 (ww aL nn))))))))))))) (fun k0=>(Ve (sl HK (C':=⟨⟨43,0,true⟩,(Wr prog 37 (pn 95) 1),(Zq prog 37 (pn 95) 1),none,(Zy prog 6),⟨Zs [(39,(dt v6))],Xe [] 0,0,[],true⟩,[],.leaf⟩) 13 [] ⟨[],[1],[some [39]],[]⟩ ⟨[(39,.frz v6.length v6.length (Zz v6) (Zz v6))],[],[]⟩ [false] (pp (xZ (Cv 6 6 0 v6.length v6.length (Zz v6)) v6.length (Zz v6)) (pp (xL v6.length v6.length) (pp (xS v6.length (Zz v6) (Zz v6)) (pp (fl v6 nn) (tt k0 nn)))))) (lo fun o0=>let c:=Gu (CA v6);(lr 43 3 (pn 767) 1 6 [(4,(dt c)),(5,(ii (Gb (CA v6))))] (sl HK 6 [] (a7 [4,5]) a6 [] (pp (pp (xr v6) (xw o0)) nn)))))))
theorem x9k (l0:zx) (aD:Int) (aI:Int) (aJ:Int) (aN:Int):Xx prog (Zy prog 37) (OP l0 aD aI aJ aN) (Zp prog 37 [(dt l0),(.agg [(.int .u8 aD),(.int .i64 aI),(.int .i64 aJ),(.int .i64 aN)])] true []) (YF l0 aD aI aJ aN):=(lo fun bG=>let a:=pp (xr l0) (xw bG);(lb (fun k0=>(lr 43 37 (pn 37) 1 6 [(4,.nils),(5,(ii (Ju (CA l0))))] (sl HK 21 [] (a7 [4,5]) a6 [true] (pp a (tt k0 (pp a nn)))))) (fun k0=>let b:=tt k0 (pp a nn);(lb (fun k1=>(lr 43 37 (pn 75) 1 6 [(4,.nils),(5,(ii (CW aD aI aJ aN)))] (sl HK 30 [] (a7 [4,5]) a6 (bl 2 2) (tt k1 b)))) (fun k1=>(sl HK 35 [(76,6,Zz ([]:zx))] ⟨[0,1],[],LN,LO⟩ ⟨[(6,.grow 1 6)],[],[]⟩ (bl 2 0) (pp (fl ([]:zx) nn) (tt k1 b))))))))
theorem u1c (l0:zx) (aD:Int) (aI:Int) (aJ:Int) (aN:Int) (n:Nat) (vs:zy) (h:Yx (ND l0 aD aI aJ aN) n (YF l0 aD aI aJ aN)=.ret vs):Vi prog (Zy prog 37) (Zp prog 37 [(dt l0),(.agg [(.int .u8 aD),(.int .i64 aI),(.int .i64 aJ),(.int .i64 aN)])] true []) vs:=by have:=Zg (w8z l0 aD aI aJ aN) n _ (x9k l0 aD aI aJ aN);rwa [h] at this
def MT (X:zx) (x y z:Int):Prop:= ∃r∈X,(r.a<=x/\x<r.d)/\(r.b<=y/\y<r.e)/\(r.c<=z/\z<r.f)
theorem Mo (X:zx) (x y z:Int):MT X x y z↔CT DB.inB X (z,x,y):=by
 constructor
 .rintro ⟨r,hr,h1,h2,h3⟩;exact ⟨r,hr,h3.1,h3.2,h1.1,h1.2,h2.1,h2.2⟩
 .rintro ⟨r,hr,h1,h2,h3,h4,h5,h6⟩;exact ⟨r,hr,⟨h3,h4⟩,⟨h5,h6⟩,h1,h2⟩
theorem CM.goS_cg {α β:Type} (D:CM α β) (f g:Int->List β) (cs:zp): ∀(k i:Nat) (s:Sw α β),(∀j,i<=j->j<i+k->f (rd cs j)=g (rd cs j))->D.goS f cs k i s=D.goS g cs k i s
 | 0,i,s,_=>rfl
 | k+1,i,s,h=>by show D.goS f cs k (i+1) (D.oneS (f (rd cs i)) _ _ s)=D.goS g cs k (i+1) (D.oneS (g (rd cs i)) _ _ s);rw [h i (Ar _) (by omega)];exact goS_cg D f g cs k (i+1) _ fun j h1 h2=>h j (by omega) (by omega)
theorem x6r {n:Nat} (h:DX n=0):n<=400:=by
 unfold DX at h;by_cases q:(n:Int)>400
 .rw [Af q] at h;cases h
 .omega
theorem w0i {l:zw} (h:Xk l=0):l.length<=400/\(∀r∈l,Kc r=true)/\Zb l=D4.out l:=by
 unfold Xk at h;cases g1:decide (400<l.length) with
 | true=>rw [g1] at h;cases h
 | false=>
  cases g2:l.all Kc with
  | false=>rw [g1,g2] at h;cases h
  | true=>
   rw [g1,g2,Aa,Ab] at h;have hl:l.length<=400:=by have:=BL g1;omega
   refine ⟨hl,Au.1 g2,?_⟩;exact (x2p (Au.1 g2) hl (x6r h)).1
theorem x2x {l:zx}: ∀(k i:Nat),Ce l k i=true-> ∀j,i<=j->j<i+k->Xk (D6.inn l (rd (D6.cuts l) j))=0
 | 0,i,h,j,h1,h2=>by omega
 | k+1,i,h,j,h1,h2=>by
  unfold Ce at h;rcases Xz (E0 l (rd (D6.cuts l) i)) with q | q
  .rw [q] at h;cases h
  .rw [q,Aa] at h;rcases Be h1 with e | e
   .rw [<-e];unfold E0 at q
    simpa using q
   .exact x2x k (i+1) h j e (by omega)
theorem v9k {l:zx} (h:Jw l=0):l.length<=400/\(∀r∈l,Kt r=true)/\Ce l ((D6.cuts l).length - 1) 0=true/\(D6.out l).length <=400:=by
 unfold Jw at h;cases g1:decide (400<l.length) with
 | true=>rw [g1] at h;cases h
 | false=>
  cases g2:l.all Kt with
  | false=>rw [g1,g2] at h;cases h
  | true=>
   rw [g1,g2,Aa,Ab] at h;cases g3:Ce l ((D6.cuts l).length - 1) 0 with
   | false=>rw [g3,Aa] at h;have:=ZQ _ _ g3;rw [h] at this;cases this
   | true=>rw [g3,Ab] at h;exact ⟨by have:=BL g1;omega,Au.1 g2,rfl,x6r h⟩
theorem v3s {l:zx} (h:Jw l=0):Qx l=D6.out l:=by unfold Qx Dn;rw [h];rfl
theorem j2b {l:zx} (h:Jw l=0):DB.can (Qx l)/\ ∀x y z,MT (Qx l) x y z↔MT l x y z:=by
 obtain ⟨hl,hv,hok,ho⟩:=v9k h;have hf:=x2x _ _ hok;rw [v3s h];have hc:(D6.cuts l).Pairwise (· < ·):=by show (Ki (D6.ends l)).Pairwise (· < ·);rw [Fn];exact (Vk _).1
 have eS:D6.out l=(D6.goS (fun x=>bif Xk (D6.inn l x) != 0 then [] else Zb (D6.inn l x)) (D6.cuts l) ((D6.cuts l).length - 1) 0 ⟨[],[],0,0⟩).out :=by unfold CM.out;rw [D6.go_goS,D6.goS_cg (D6.sec l) (fun x=>bif Xk (D6.inn l x) != 0 then [] else Zb (D6.inn l x))];intro j h1 h2;show _=bif Xk (D6.inn l _) != 0 then _ else _;rw [hf j h1 h2];rfl
 have hs: ∀x,Qs.can (bif Xk (D6.inn l x) != 0 then [] else Zb (D6.inn l x)):=fun x=>by
  cases g:(Xk (D6.inn l x) != 0) with
  | true=>exact Qs.nil
  | false=>obtain ⟨m1,m2,m3⟩:=w0i (show Xk (D6.inn l x)=0 by simpa using g);rw [Aa,m3];exact (Mx m2 m1).1
 obtain ⟨h1,h2⟩:=CM.goS_can Ra Se Qs (cs:=D6.cuts l) hc hs;rw [eS];refine ⟨h1,fun x y z=> ?_⟩;rw [Mo,Mo,show CT DB.inB _ (z,x,y)↔_ from h2 z (x,y)];have ia: ∀j,j+1<(D6.cuts l).length ->rd (D6.cuts l) j<=z->z<rd (D6.cuts l) (j+1)->(CT Qs.inB (bif Xk (D6.inn l (rd (D6.cuts l) j)) != 0 then [] else Zb (D6.inn l (rd (D6.cuts l) j))) (x,y)↔CT DB.inB l (z,x,y)):=fun j j1 j2 j3=>by have q:=hf j (Ay _) (by omega);obtain ⟨m1,m2,m3⟩:=w0i q;rw [q,show ((0:Int) != 0)=false from rfl,Aa,m3,(Mx m2 m1).2,CM.inn_slab l l (fun r hr=>hr) j1 j2 j3];exact CM.pt_inn (D:=D6) Qs.inB l z (x,y)
 constructor
 .rintro ⟨j,j1,j2,j3,j4⟩;exact (ia j j1 j2 j3).1 j4
 .intro hp;refine BT fun hn=> ?_;have hx: ∀j,j+1<(D6.cuts l).length -> ¬(rd (D6.cuts l) j<=z/\z<rd (D6.cuts l) (j+1)):=fun j j1 j2=>hn ⟨j,j1,j2.1,j2.2,(ia j j1 j2.1 j2.2).2 hp⟩;have g:=(CM.pt_inn (D:=D6) Qs.inB l z (x,y)).2 hp;rw [CM.inn_out l l (fun r hr=>hr) hx] at g;exact Sz _ _ g
theorem v9l {L:zx} (h:Yt L=0):Jw L=0/\Qx L=L:=by
 have hs:=S3 h;have key:Jw L=0:=by
  unfold Yt at h;unfold Jw;cases g1:decide (400<L.length) with
  | true=>rw [g1] at h;cases h
  | false=>
   cases g2:L.all Kt with
   | false=>rw [g1,g2] at h;cases h
   | true=>
    rw [g1,g2,Aa,Ab] at h;cases g3:Ce L ((D6.cuts L).length - 1) 0 with
    | false=>rw [g3] at h;cases h
    | true=>rw [Aa,Ab,Ab];unfold DX;rw [<-hs.2.2.1,Xg (by have:=hs.1;omega)];rfl
 exact ⟨key,(v3s key).trans hs.2.2.1.symm⟩
theorem j2o {L:zx} (h:Yt L=0):DB.can L:=by obtain ⟨h1,h2⟩:=v9l h;have:=(j2b h1).1;rwa [h2] at this
namespace CM
variable {α β:Type} {D:CM α β}
theorem j6e (hD:D.Fair) (s:List β) (a b x:Int):D.inn (s.map (D.put a b)) x=if a<=x/\x<b then s else []:=by
 unfold inn;have e:(s.map (D.put a b)).filter (fun r=>decide (D.lo r<=x)&&decide (x<D.hi r))=if a<=x/\x<b then s.map (D.put a b) else []:=by
  split
  .rename_i h;refine List.filter_eq_self.2 fun r hr=> ?_;obtain ⟨c,_,rfl⟩:=Bh.1 hr;rw [hD.lo_put,hD.hi_put,Af h.1,Af h.2];rfl
  .rename_i h;refine List.filter_eq_nil_iff.2 fun r hr hq=>h ?_;obtain ⟨c,_,rfl⟩:=Bh.1 hr;rw [hD.lo_put,hD.hi_put,Ac] at hq
   grind
 rw [e];split
 .rw [B4];exact (BX fun c _=>hD.pr_put a b c).trans (List.map_id _)
 .rfl
theorem inn_can (hD:D.Fair) {γ:Type} (M:Sem β γ) (x:Int): ∀G:List (C6 β),Cc M G->M.can (D.inn (D.flat G) x)
 | [],_=>M.nil
 | g::r,h=>by
  rw [show D.flat (g::r)=g.s.map (D.put g.a g.b)++D.flat r from rfl,D.inn_append,j6e hD];split
  .rename_i hx;have e:D.inn (D.flat r) x=[]:=by unfold inn;rw [List.map_eq_nil_iff,List.filter_eq_nil_iff];intro a ha hq;obtain ⟨k,hk,ha⟩:=AM.1 ha;obtain ⟨c,_,rfl⟩:=Bh.1 ha;rw [hD.lo_put,Ac] at hq;have h1:=Ax hq.1;have:=h.later k hk;omega
   rw [e,AA];exact h.head.2.1
  .rw [A1];exact inn_can hD M x r h.tail
end CM
open Go.Proofs Go.Sort Go.Shelf Go.RowKit Go.Lib
def E7 (x y z:Int):Prop:=(-1000000<=x/\x<=1000000)/\(-1000000<=y/\y<=1000000)/\(-1000000<=z/\z<=1000000)
theorem JM (x y z:Int):GZ x y z=true↔E7 x y z:=ZA x y z
theorem v3t (l:zx):(Qx l).length <=400:=by
 unfold Qx Dn;cases g:(Jw l != 0) with
 | true=>exact Ay _
 | false=>
  rw [Aa];have h:Jw l=0:=by simpa using g
  unfold Jw at h;cases g1:decide (400<l.length) with
  | true=>rw [g1] at h;cases h
  | false=>
   cases g2:l.all Kt with
   | false=>rw [g1,g2] at h;cases h
   | true=>
    rw [g1,g2,Aa,Ab] at h;cases g3:Ce l ((D6.cuts l).length - 1) 0 with
    | false=>rw [g3,Aa] at h;have:=ZQ _ _ g3;rw [h] at this;cases this
    | true=>rw [g3,Ab] at h;exact TD h
inductive P6 where
 | xyz | xzy | yxz | yzx | zxy | zyx
def P6.a (p:P6) (x y z:Int):Int:=match p with
 | .xyz =>x
 | .xzy =>x
 | .yxz =>y
 | .yzx =>y
 | .zxy =>z
 | .zyx =>z
def P6.b (p:P6) (x y z:Int):Int:=match p with
 | .xyz =>y
 | .xzy =>z
 | .yxz =>x
 | .yzx =>z
 | .zxy =>x
 | .zyx =>y
def P6.c (p:P6) (x y z:Int):Int:=match p with
 | .xyz =>z
 | .xzy =>y
 | .yxz =>z
 | .yzx =>x
 | .zxy =>y
 | .zyx =>x
def sg (s:Bool) (x:Int):Int:=match s with
 | true=>x
 | false=> -x
theorem j1n (t:Int) (h0:0<=t) (h:t<24): ∃(p:P6) (s1 s2 s3:Bool),∀x y z:Int,x*(CC t).a +y*(CC t).d +z*(CC t).g =sg s1 (p.a x y z)/\x*(CC t).b +y*(CC t).e +z*(CC t).h =sg s2 (p.b x y z)/\x*(CC t).c +y*(CC t).f +z*(CC t).i =sg s3 (p.c x y z):=by
 have:t=0\/t=1\/t=2\/t=3\/t=4\/t=5\/t=6\/t=7\/t=8\/t=9\/t=10\/t=11\/t=12\/t=13\/t=14\/t=15\/t=16\/t=17\/t=18\/t=19\/t=20\/t=21\/t=22\/t=23:=by omega
 rcases this with rfl | rfl | rfl | rfl | rfl | rfl | rfl | rfl | rfl | rfl | rfl | rfl | rfl | rfl | rfl | rfl | rfl | rfl | rfl | rfl | rfl | rfl | rfl | rfl
 .rw [show CC 0=⟨1,0,0,0,1,0,0,0,1⟩ by kernel_rfl];exact ⟨.xyz,true,true,true,fun x y z=>⟨by simp [sg,P6.a],by simp [sg,P6.b],by simp [sg,P6.c]⟩⟩
 .rw [show CC 1=⟨1,0,0,0,-1,0,0,0,-1⟩ by kernel_rfl];exact ⟨.xyz,true,false,false,fun x y z=>⟨by simp [sg,P6.a],by simp [sg,P6.b],by simp [sg,P6.c]⟩⟩
 .rw [show CC 2=⟨1,0,0,0,0,1,0,-1,0⟩ by kernel_rfl];exact ⟨.xzy,true,false,true,fun x y z=>⟨by simp [sg,P6.a],by simp [sg,P6.b],by simp [sg,P6.c]⟩⟩
 .rw [show CC 3=⟨1,0,0,0,0,-1,0,1,0⟩ by kernel_rfl];exact ⟨.xzy,true,true,false,fun x y z=>⟨by simp [sg,P6.a],by simp [sg,P6.b],by simp [sg,P6.c]⟩⟩
 .rw [show CC 4=⟨-1,0,0,0,1,0,0,0,-1⟩ by kernel_rfl];exact ⟨.xyz,false,true,false,fun x y z=>⟨by simp [sg,P6.a],by simp [sg,P6.b],by simp [sg,P6.c]⟩⟩
 .rw [show CC 5=⟨-1,0,0,0,-1,0,0,0,1⟩ by kernel_rfl];exact ⟨.xyz,false,false,true,fun x y z=>⟨by simp [sg,P6.a],by simp [sg,P6.b],by simp [sg,P6.c]⟩⟩
 .rw [show CC 6=⟨-1,0,0,0,0,1,0,1,0⟩ by kernel_rfl];exact ⟨.xzy,false,true,true,fun x y z=>⟨by simp [sg,P6.a],by simp [sg,P6.b],by simp [sg,P6.c]⟩⟩
 .rw [show CC 7=⟨-1,0,0,0,0,-1,0,-1,0⟩ by kernel_rfl];exact ⟨.xzy,false,false,false,fun x y z=>⟨by simp [sg,P6.a],by simp [sg,P6.b],by simp [sg,P6.c]⟩⟩
 .rw [show CC 8=⟨0,1,0,1,0,0,0,0,-1⟩ by kernel_rfl];exact ⟨.yxz,true,true,false,fun x y z=>⟨by simp [sg,P6.a],by simp [sg,P6.b],by simp [sg,P6.c]⟩⟩
 .rw [show CC 9=⟨0,1,0,-1,0,0,0,0,1⟩ by kernel_rfl];exact ⟨.yxz,false,true,true,fun x y z=>⟨by simp [sg,P6.a],by simp [sg,P6.b],by simp [sg,P6.c]⟩⟩
 .rw [show CC 10=⟨0,1,0,0,0,1,1,0,0⟩ by kernel_rfl];exact ⟨.zxy,true,true,true,fun x y z=>⟨by simp [sg,P6.a],by simp [sg,P6.b],by simp [sg,P6.c]⟩⟩
 .rw [show CC 11=⟨0,1,0,0,0,-1,-1,0,0⟩ by kernel_rfl];exact ⟨.zxy,false,true,false,fun x y z=>⟨by simp [sg,P6.a],by simp [sg,P6.b],by simp [sg,P6.c]⟩⟩
 .rw [show CC 12=⟨0,-1,0,1,0,0,0,0,1⟩ by kernel_rfl];exact ⟨.yxz,true,false,true,fun x y z=>⟨by simp [sg,P6.a],by simp [sg,P6.b],by simp [sg,P6.c]⟩⟩
 .rw [show CC 13=⟨0,-1,0,-1,0,0,0,0,-1⟩ by kernel_rfl];exact ⟨.yxz,false,false,false,fun x y z=>⟨by simp [sg,P6.a],by simp [sg,P6.b],by simp [sg,P6.c]⟩⟩
 .rw [show CC 14=⟨0,-1,0,0,0,1,-1,0,0⟩ by kernel_rfl];exact ⟨.zxy,false,false,true,fun x y z=>⟨by simp [sg,P6.a],by simp [sg,P6.b],by simp [sg,P6.c]⟩⟩
 .rw [show CC 15=⟨0,-1,0,0,0,-1,1,0,0⟩ by kernel_rfl];exact ⟨.zxy,true,false,false,fun x y z=>⟨by simp [sg,P6.a],by simp [sg,P6.b],by simp [sg,P6.c]⟩⟩
 .rw [show CC 16=⟨0,0,1,1,0,0,0,1,0⟩ by kernel_rfl];exact ⟨.yzx,true,true,true,fun x y z=>⟨by simp [sg,P6.a],by simp [sg,P6.b],by simp [sg,P6.c]⟩⟩
 .rw [show CC 17=⟨0,0,1,-1,0,0,0,-1,0⟩ by kernel_rfl];exact ⟨.yzx,false,false,true,fun x y z=>⟨by simp [sg,P6.a],by simp [sg,P6.b],by simp [sg,P6.c]⟩⟩
 .rw [show CC 18=⟨0,0,1,0,1,0,-1,0,0⟩ by kernel_rfl];exact ⟨.zyx,false,true,true,fun x y z=>⟨by simp [sg,P6.a],by simp [sg,P6.b],by simp [sg,P6.c]⟩⟩
 .rw [show CC 19=⟨0,0,1,0,-1,0,1,0,0⟩ by kernel_rfl];exact ⟨.zyx,true,false,true,fun x y z=>⟨by simp [sg,P6.a],by simp [sg,P6.b],by simp [sg,P6.c]⟩⟩
 .rw [show CC 20=⟨0,0,-1,1,0,0,0,-1,0⟩ by kernel_rfl];exact ⟨.yzx,true,false,false,fun x y z=>⟨by simp [sg,P6.a],by simp [sg,P6.b],by simp [sg,P6.c]⟩⟩
 .rw [show CC 21=⟨0,0,-1,-1,0,0,0,1,0⟩ by kernel_rfl];exact ⟨.yzx,false,true,false,fun x y z=>⟨by simp [sg,P6.a],by simp [sg,P6.b],by simp [sg,P6.c]⟩⟩
 .rw [show CC 22=⟨0,0,-1,0,1,0,1,0,0⟩ by kernel_rfl];exact ⟨.zyx,true,true,false,fun x y z=>⟨by simp [sg,P6.a],by simp [sg,P6.b],by simp [sg,P6.c]⟩⟩
 .rw [show CC 23=⟨0,0,-1,0,-1,0,-1,0,0⟩ by kernel_rfl];exact ⟨.zyx,false,false,false,fun x y z=>⟨by simp [sg,P6.a],by simp [sg,P6.b],by simp [sg,P6.c]⟩⟩
theorem P6.fine (p:P6) {x y z:Int} (h:E7 x y z):E7 (p.a x y z) (p.b x y z) (p.c x y z):=by unfold E7 at*;cases p <;> simp only [P6.a,P6.b,P6.c] <;> omega
theorem v3x (s:Bool) {x:Int} (h: -1000000<=x/\x<=1000000): -1000000<=sg s x/\sg s x<=1000000:=by cases s <;> simp only [sg] <;> omega
theorem w5 (x y z A D G a v:Int) (e:x*A+y*D+z*G=v) (hv: -1000000<=v/\v<=1000000) (ha: -1000000<=a/\a<=1000000):w4 (x*A) (y*D) (z*G) a=v+a:=by unfold w4;rw [e];exact Zk (by omega)
theorem P7 {t:Int} {p:P6} {s1 s2 s3:Bool} (ht: ∀x y z:Int,x*(CC t).a +y*(CC t).d +z*(CC t).g =sg s1 (p.a x y z)/\x*(CC t).b +y*(CC t).e +z*(CC t).h =sg s2 (p.b x y z)/\x*(CC t).c +y*(CC t).f +z*(CC t).i =sg s3 (p.c x y z)) {a b c x y z:Int} (ha:E7 a b c) (hx:E7 x y z):
  CU t a b c x y z=⟨sg s1 (p.a x y z)+a,sg s2 (p.b x y z)+b,sg s3 (p.c x y z)+c⟩:=by
 obtain ⟨e1,e2,e3⟩:=ht x y z;obtain ⟨f1,f2,f3⟩:=p.fine hx;unfold CU;rw [w5 _ _ _ _ _ _ _ _ e1 (v3x s1 f1) ha.1,w5 _ _ _ _ _ _ _ _ e2 (v3x s2 f2) ha.2.1,w5 _ _ _ _ _ _ _ _ e3 (v3x s3 f3) ha.2.2]
def PE (s:Bool) (k lo hi:Int):Int:=match s with
 | true=>lo+k
 | false=> -hi+k
def PX (s:Bool) (k lo hi:Int):Int:=match s with
 | true=>hi+k
 | false=> -lo+k
theorem Ow (s:Bool) (k:Int) {lo hi:Int} (h:lo<hi):Jc (sg s lo+k) (sg s hi+k)=PE s k lo hi/\Jd (sg s lo+k) (sg s hi+k)=PX s k lo hi:=by rw [GF,GE];cases s <;> simp only [sg,PE,PX] <;> omega
theorem PA (s:Bool) (k:Int) {lo hi:Int} (h:lo<hi):PE s k lo hi<PX s k lo hi:=by cases s <;> simp only [PE,PX] <;> omega
def bxT (p:P6) (s1 s2 s3:Bool) (a b c:Int) (r:R6):R6:=⟨PE s1 a (p.a r.a r.b r.c) (p.a r.d r.e r.f),PE s2 b (p.b r.a r.b r.c) (p.b r.d r.e r.f),PE s3 c (p.c r.a r.b r.c) (p.c r.d r.e r.f),PX s1 a (p.a r.a r.b r.c) (p.a r.d r.e r.f),PX s2 b (p.b r.a r.b r.c) (p.b r.d r.e r.f),PX s3 c (p.c r.a r.b r.c) (p.c r.d r.e r.f)⟩
theorem P6.lt (p:P6) {r:R6} (h:Kt r=true):p.a r.a r.b r.c<p.a r.d r.e r.f/\p.b r.a r.b r.c<p.b r.d r.e r.f/\p.c r.a r.b r.c<p.c r.d r.e r.f:=by have v:=WZ h;cases p <;> simp only [P6.a,P6.b,P6.c] <;> omega
theorem w6w {r:R6} (h:Kt r=true):E7 r.a r.b r.c/\E7 r.d r.e r.f:=by have v:=WZ h;unfold E7;omega
theorem j1l {r:R6} (h:r.a<r.d/\r.b<r.e/\r.c<r.f/\ -1000000<=r.a/\ -1000000<=r.b/\ -1000000<=r.c/\r.d<=1000000/\r.e<=1000000/\r.f<=1000000):Eb r=true:=by simp only [Eb,Ac,Ao];omega
section
variable {t a b c:Int} {p:P6} {s1 s2 s3:Bool} (ht: ∀x y z:Int,x*(CC t).a +y*(CC t).d +z*(CC t).g =sg s1 (p.a x y z)/\x*(CC t).b +y*(CC t).e +z*(CC t).h =sg s2 (p.b x y z)/\x*(CC t).c +y*(CC t).f +z*(CC t).i =sg s3 (p.c x y z)) (h24:t<24) (ha:E7 a b c)
include ht h24 ha
theorem j6s :CW t a b c=0:=by have _u:=ht;unfold CW;rw [An (by omega),(JM a b c).2 ha];rfl
theorem j0o {x y z:Int} (hx:E7 x y z) (h:EN t a b c x y z=0):Zh t a b c x y z=⟨sg s1 (p.a x y z)+a,sg s2 (p.b x y z)+b,sg s3 (p.c x y z)+c⟩/\E7 (sg s1 (p.a x y z)+a) (sg s2 (p.b x y z)+b) (sg s3 (p.c x y z)+c):=by
 have e:=P7 ht ha hx;refine ⟨by unfold Zh;rw [h,e];rfl,?_⟩;unfold EN at h;rw [j6s ht h24 ha,(JM x y z).2 hx,e] at h;rw [<-JM];cases g:GZ (sg s1 (p.a x y z)+a) (sg s2 (p.b x y z)+b) (sg s3 (p.c x y z)+c) with
 | true=>rfl
 | false=>simp only [g] at h;cases h
theorem Q7 {r:R6} (hr:Kt r=true) (ho:E6 t a b c r=true):FC t a b c r=bxT p s1 s2 s3 a b c r/\Kt (bxT p s1 s2 s3 a b c r)=true:=by obtain ⟨f1,f2⟩:=w6w hr;unfold E6 at ho;simp only [Ac,A8,bne_eq_false_iff_eq] at ho;obtain ⟨e1,g1⟩:=j0o ht h24 ha f1 ho.1;obtain ⟨e2,g2⟩:=j0o ht h24 ha f2 ho.2;obtain ⟨l1,l2,l3⟩:=p.lt hr;obtain ⟨m1,m2⟩:=Ow s1 a l1;obtain ⟨m3,m4⟩:=Ow s2 b l2;obtain ⟨m5,m6⟩:=Ow s3 c l3;refine ⟨by unfold FC bxT;rw [e1,e2];simp only [m1,m2,m3,m4,m5,m6],?_⟩;rw [Z2];unfold E7 at g1 g2;rw [GF] at m1 m3 m5;rw [GE] at m2 m4 m6;have k1:=PA s1 a l1;have k2:=PA s2 b l2;have k3:=PA s3 c l3;refine j1l ⟨k1,k2,k3,?_,?_,?_,?_,?_,?_⟩ <;> simp only [bxT] <;> omega
end
theorem v8g (z:Int):CN ([]:zx) z=[]:=rfl
namespace CM
variable {α β:Type} (D:CM α β)
theorem refS (hs: ∀a b,D.same a b=true↔a=b) (sec:Int->List β) (cs:zp): ∀(k i:Nat) (s:Sw α β) (out:List α) (last:List β) (first:Nat),
  s.out=out->s.last=last->(last≠ []->s.first=first)->(last=[]->out.length<=first)->(0<i->s.fin=rd cs i)->(i=0->last=[])->
  (D.goS sec cs k i s).out =D.ref sec cs k i out last first
 | 0,i,s,out,last,first,h1,h2,h3,h4,h5,h6=>h1
 | k +1,i,s,out,last,first,h1,h2,h3,h4,h5,h6=>by
  subst h1 h2;have e1:D.goS sec cs (k+1) i s=D.goS sec cs k (i+1) (D.oneS (sec (rd cs i)) (rd cs i) (rd cs (i+1)) s):=rfl;rw [e1];unfold ref;rcases Xz (decide (0<(sec (rd cs i)).length)&&((s.fin == rd cs i)&&D.same s.last (sec (rd cs i)))) with q | q
  .have e:D.oneS (sec (rd cs i)) (rd cs i) (rd cs (i+1)) s=⟨D.grow s.out s.first (rd cs (i+1)),s.last,s.first,rd cs (i+1)⟩:=by unfold oneS;rw [q];rfl
   simp only [Ac,Ao] at q;obtain ⟨q1,q2,q3⟩:=q;have q3:=(hs _ _).1 q3;have hne:s.last≠ []:=fun h=>by rw [h] at q3;rw [<-q3] at q1;exact B7 _ q1
   have hi:0<i:=Nat.pos_of_ne_zero fun h=>hne (h6 h);have e2:(decide (0<i)&&D.same (sec (rd cs i)) s.last)=true:=by rw [Af hi,Ak,hs,q3]
   rw [e2,Ab,e];refine refS hs sec cs k (i+1) _ _ _ _ ?_ rfl h3 (fun h=>absurd h hne) (fun _=>rfl) (fun h=>by omega);rw [h3 hne]
  .have e:D.oneS (sec (rd cs i)) (rd cs i) (rd cs (i+1)) s=⟨s.out++(sec (rd cs i)).map (D.put (rd cs i) (rd cs (i+1))),sec (rd cs i),s.out.length,rd cs (i+1)⟩:=by unfold oneS;rw [q];rfl
   rcases Xz (decide (0<i)&&D.same (sec (rd cs i)) s.last) with q2 | q2
   .rw [q2,Ab,e];simp only [Ac,Ao] at q2;obtain ⟨hi,q3⟩:=q2;have q3:=(hs _ _).1 q3;rw [(hs s.last (sec (rd cs i))).2 q3.symm,Ai,h5 hi] at q;have hz:sec (rd cs i)=[]:=by
     cases h:sec (rd cs i) with
     | nil=>rfl
     | cons a b=>rw [h] at q;simp at q
    have hl:s.last=[]:=(by rw [<-q3,hz]);have hf:=h4 hl;rw [hz,BN,AA];refine refS hs sec cs k (i+1) _ _ _ _ ?_ hl.symm (fun h=>absurd hl h) (fun _=> ?_) (fun _=>rfl) (fun h=>by omega)
    .exact (D.grow_nil _ _ _ hf).symm
    .rw [D.grow_length];exact hf
   .rw [q2,Aa,e];exact refS hs sec cs k (i+1) _ _ _ _ rfl rfl (fun _=>rfl) (fun h=>by rw [h];simp) (fun _=>rfl) (fun h=>by omega)
theorem refS0 (hs: ∀a b,D.same a b=true↔a=b) (sec:Int->List β) (cs:zp):D.ref sec cs (cs.length - 1) 0 [] [] 0=(D.goS sec cs (cs.length - 1) 0 ⟨[],[],0,0⟩).out :=
 (D.refS hs sec cs _ 0 _ [] [] 0 rfl rfl (fun _=>rfl) (fun _=>Ar _) (fun h=>absurd h (B7 _)) (fun _=>rfl)).symm
end CM
theorem j2k (l:zw) (hv:l.all Kc=true) (x:Int):Du (D4.inn l x)=Dp 2 l [] x:=by
 have hin:=D4.inn_length l x;have hvi:(D4.inn l x).all C5=true:=Au.2 fun s hs=>by
  grind [Mp,Kc,C5]
 obtain ⟨c1,c2⟩:=Ri _ hvi;obtain ⟨y1,y2⟩:=Vk (D5 l++D5 []);have e2:Dp 2 l [] x=DI (CR l []) ((CR l []).map fun y=>Js l x y):=by
  unfold Dp
  congr 1
  simp_all [v8a]
 obtain ⟨d1,d2⟩:=w7d (CR l []) y1 (fun y=>Js l x y) (D4.inn l x) (fun s hs=>by
  obtain ⟨r,hr,_,_,rfl⟩:=Mp hs;unfold CR;exact ⟨(y2 _).2 (AF.2 (.inl (AM.2 ⟨r,hr,by simp⟩))),(y2 _).2 (AF.2 (.inl (AM.2 ⟨r,hr,by simp⟩)))⟩) (fun y=>by
  unfold Js;rw [BU];constructor
  .rintro ⟨r,hr,h⟩;simp only [PV,Ac,Ao] at h;exact ⟨_,v6h hr h.1 h.2.1,h.2.2.1,h.2.2.2⟩
  .rintro ⟨s,hs,h1,h2⟩
   grind [Mp,PV])
 grind [ZO]
theorem j1q :Du []=[]:=by
 obtain ⟨h1,h2⟩:=Ri [] rfl;exact x0n DZ h1 fun q hq=>by obtain ⟨s,hs,_⟩:=(h2 q).1 hq;cases hs
theorem HN {l:zw} (hv: ∀r∈l,Kc r=true):Qs.can (C4 2 l [])/\ ∀p,CT Qs.inB (C4 2 l []) p↔CT Qs.inB l p:=by
 have e:C4 2 l []=(D4.goS (fun x=>Du (D4.inn l x)) (D4.cuts (l++[])) ((D4.cuts (l++[])).length - 1) 0 ⟨[],[],0,0⟩).out :=by rw [AA,C4,ZV,<-v8s,<-CM.refS0 D4 WW];simp_all [j2k]
 rw [e];have hs: ∀x,DZ.can (Du (D4.inn l x))/\ ∀y,CT DZ.inB (Du (D4.inn l x)) y↔CT DZ.inB (D4.inn l x) y:=fun x=>Ri _ (HF hv x);obtain ⟨h1,h2⟩:=CM.goJ_can R8 WW DZ l [] (fun s _=>Du s) (fun x=>(hs x).1) j1q;refine ⟨h1,fun ⟨x,y⟩=> ?_⟩;rw [show CT Qs.inB _ (x,y)↔_ from h2 x y,(hs x).2,CM.pt_inn];rfl
def H3 (l:zx):zx:=D6.ref (DA 2 l []) (D6.cuts l) ((D6.cuts l).length - 1) 0 [] [] 0
theorem j0c :C4 2 [] []=[]:=rfl
theorem v9z {l:zx} (hv: ∀r∈l,Kt r=true):DB.can (H3 l)/\ ∀x y z,MT (H3 l) x y z↔MT l x y z:=by
 have e:H3 l=(D6.goS (fun z=>C4 2 (D6.inn l z) []) (D6.cuts (l++[])) ((D6.cuts (l++[])).length - 1) 0 ⟨[],[],0,0⟩).out :=by rw [AA,<-CM.refS0 D6 Se];rfl
 rw [e];have hq: ∀z,Qs.can (C4 2 (D6.inn l z) [])/\ ∀p,CT Qs.inB (C4 2 (D6.inn l z) []) p↔CT Qs.inB (D6.inn l z) p:=fun z=>HN (Y7 hv z);obtain ⟨h1,h2⟩:=CM.goJ_can Ra Se Qs l [] (fun s _=>C4 2 s []) (fun x=>(hq x).1) j0c;refine ⟨h1,fun x y z=> ?_⟩;rw [Mo,Mo,show CT DB.inB _ (z,x,y)↔_ from h2 z (x,y),(hq z).2,CM.pt_inn];rfl
theorem u5y (a b:zw):CO a b=CO (a++b) []:=by
 grind [CO,Ds]
theorem NR (a b:zw):CR a b=CR (a++b) []:=by
 grind [CR,D5]
theorem j2l (a b:zw) (x:Int):Dp 2 a b x=Dp 2 (a++b) [] x:=by
 unfold Dp;rw [NR]
 congr 1
 simp_all [Gi,Fm,Js]
theorem v6p (a b:zw): ∀(k i:Nat) (out:zw) (last:zq) (first:Nat),jF 2 a b k i out last first=jF 2 (a++b) [] k i out last first
 | 0,_,_,_,_=>rfl
 | k+1,i,out,last,first=>by unfold jF;rw [u5y,j2l,v6p a b k,v6p a b k]
theorem j0d (a b:zw):C4 2 a b=C4 2 (a++b) []:=by unfold C4;rw [u5y,v6p]
theorem Ql (a b:zx) (z:Int):CN (a++b) z=CN a z++CN b z:=by
 grind [CN]
theorem u0c (a b:zx) (z:Int):DA 2 a b z=DA 2 (a++b) [] z:=by
 grind [DA,j0d,Ql,v8g]
theorem v7v (a b:zx):Xj a b=D6.cuts (a++b):=by
 grind [w4o,Xj,Dt]
def IV (a b:zx):Nat->Nat->Bool
 | 0,_=>true
 | k+1,i=>bif EC 2 a b (rd (D6.cuts (a++b)) i) then false else IV a b k (i+1)
theorem j6a (a b:zx): ∀(k i:Nat) (out:zx) (last:zw) (first:Nat),Gs 2 a b k i out last first=bif IV a b k i then some (D6.ref (DA 2 (a++b) []) (D6.cuts (a++b)) k i out last first) else none
 | 0,_,_,_,_=>rfl
 | k+1,i,out,last,first=>by
  unfold Gs IV CM.ref;rw [v7v];rcases Xz (EC 2 a b (rd (D6.cuts (a++b)) i)) with q | q
  .rw [q];rfl
  .rw [q,Aa,Aa,u0c,j6a a b k,j6a a b k];have e:D6.same (DA 2 (a++b) [] (rd (D6.cuts (a++b)) i)) last=Vs (DA 2 (a++b) [] (rd (D6.cuts (a++b)) i)) last:=rfl;rw [e];cases (decide (0<i)&&Vs (DA 2 (a++b) [] (rd (D6.cuts (a++b)) i)) last) <;> rfl
theorem MO (a b:zx):Gr 2 a b=bif IV a b ((D6.cuts (a++b)).length - 1) 0 then some (H3 (a++b)) else none:=by unfold Gr;rw [j6a,v7v];rfl
theorem u5l {X Y:zx} (hX:DB.can X) (hY:DB.can Y) (h: ∀x y z,MT X x y z↔MT Y x y z):X=Y:=
 DB.uniq X Y hX hY fun ⟨z,x,y⟩=>by simp_all [Mo]
open Go.Proofs Go.Sort Go.Shelf Go.RowKit Go.Lib
theorem Mh (n:Nat):DX n=bif decide (400<n) then 4 else 0:=by
 unfold DX;by_cases h:400<n
 .rw [Af h,Af (by omega)]
 .rw [An h,An (by omega)]
theorem j0b {S:zw} (hv: ∀r∈S,Kc r=true) (hl:S.length<=400):C4 2 S []=D4.out S:=
 Qs.uniq _ _ (HN hv).1 (Mx hv hl).1 fun p=>((HN hv).2 p).trans ((Mx hv hl).2 p).symm
theorem U1 {S:zw} (hv: ∀r∈S,Kc r=true) (hl:S.length<=400):Xk S=bif decide (400<(D4.out S).length) then 4 else 0:=by unfold Xk;rw [An (by omega),Aa,Au.2 hv,Ab];exact Mh _
section
variable {l:zx} (hv: ∀r∈l,Kt r=true) (hl:l.length<=400)
include hv hl
theorem u3m (z:Int):EC 2 l [] z=E0 l z:=by
 have v:=Y7 hv z;have n:=AG (D6.inn_length l z) hl;have e:C4 2 (CN l z) []=D4.out (D6.inn l z):=j0b v n;unfold EC DA E0;rw [v8g,e,j0c,U1 v n];by_cases h:400<(D4.out (D6.inn l z)).length
 .rw [Af h];rfl
 .rw [An h];rfl
theorem MB : ∀k i,IV l [] k i=Ce l k i
 | 0,i=>rfl
 | k+1,i=>by
  unfold IV Ce;rw [AA,u3m hv hl];cases E0 l (rd (D6.cuts l) i) with
  | true=>rfl
  | false=>exact MB k (i+1)
theorem Ma : ∀k i,Ce l k i=false->Gt l k i=4
 | 0,i,h=>by cases h
 | k+1,i,h=>by
  unfold Ce at h;unfold Gt;rcases Xz (E0 l (rd (D6.cuts l) i)) with q | q
  .rw [q,Ab];unfold E0 at q;rw [U1 (Y7 hv _) (AG (D6.inn_length l _) hl)] at q ⊢;cases g:decide (400<(D4.out (D6.inn l (rd (D6.cuts l) i))).length) with
   | true=>rfl
   | false=>rw [g] at q;cases q
  .rw [q,Aa] at h ⊢;exact Ma k (i+1) h
theorem Oo (h:Ce l ((D6.cuts l).length - 1) 0=true):D6.out l=H3 l:=by have _v:=hv;have _w:=hl;have hf:=x2x _ _ h;unfold H3 CM.out;rw [CM.refS0 D6 Se,D6.go_goS,D6.goS_cg (D6.sec l) (DA 2 l [])];intro j h1 h2;obtain ⟨m1,m2,m3⟩:=w0i (hf j h1 h2);show Zb (D6.inn l _)=C4 2 (CN l _) (CN [] _);rw [v8g,m3];exact (j0b m2 m1).symm
end
theorem MF (l:zx):Gb l=Jw l/\Gu l=Qx l:=by
 have key:Gb l=Jw l/\(Jw l=0->Jr 2 l []=D6.out l):=by
  unfold Gb Jw;by_cases h4:400<l.length
  .rw [Af h4];exact ⟨rfl,fun h=>by cases h⟩
  rw [An h4,Aa,Aa];cases hv:l.all Kt with
  | false=>exact ⟨rfl,fun h=>by cases h⟩
  | true=>
   have hv:=Au.1 hv;have hl:l.length<=400:=by omega
   rw [Ab,Ab];unfold EI Jr;rw [MO,AA,MB hv hl];cases q:Ce l ((D6.cuts l).length - 1) 0 with
   | false=>rw [Aa,Aa,Ma hv hl _ _ q];exact ⟨rfl,fun h=>by cases h⟩
   | true=>
    rw [Ab,Ab,Oo hv hl q,Mh];refine ⟨?_,fun _=>rfl⟩;show (bif decide (((H3 l).length :Int)<=400) then (0:Int) else 4)=_;by_cases h:400<(H3 l).length
    .rw [Af h,An (by omega)];rfl
    .rw [An h,Af (by omega)];rfl
 refine ⟨key.1,?_⟩;unfold Gu Qx Dn;rw [key.1];by_cases h:Jw l=0
 .rw [key.2 h]
 .rw [Ur h];rfl
theorem x6k (E:Int->Int) (cs:zp): ∀(k i:Nat),Ct E cs k i=0-> ∀j,i<=j->j<i+k->E (rd cs j)=0
 | 0,i,_,j,h1,h2=>by omega
 | k+1,i,h,j,h1,h2=>by
  change (bif E (rd cs i) != 0 then E (rd cs i) else Ct E cs k (i+1))=0 at h;cases g:(E (rd cs i) != 0) with
  | true=>rw [g,Ab] at h;rw [h] at g;cases g
  | false=>
   rw [g,Aa] at h;rcases Be h1 with e | e
   .rw [<-e];simpa using g
   .exact x6k E cs k (i+1) h j e (by omega)
theorem CM.goS_congr {α β:Type} (D:CM α β) (f g:Int->List β) (cs:zp): ∀(k i:Nat) (s:Sw α β),(∀j,i<=j->j<i+k->f (rd cs j)=g (rd cs j))->D.goS f cs k i s=D.goS g cs k i s
 | 0,i,s,_=>rfl
 | k+1,i,s,h=>by show D.goS f cs k (i+1) (D.oneS (f (rd cs i)) _ _ s)=D.goS g cs k (i+1) (D.oneS (g (rd cs i)) _ _ s);rw [h i (Ar _) (by omega)];exact goS_congr D f g cs k (i+1) _ fun j h1 h2=>h j (by omega) (by omega)
theorem v5a {l:zw} (h:DO l=0): ∀r∈l,Kc r=true:=by
 unfold DO at h;cases g1:decide (400<l.length) with
 | true=>rw [g1] at h;cases h
 | false=>
  cases g2:l.all Kc with
  | false=>rw [g1,g2] at h;cases h
  | true=>exact Au.1 g2
theorem v4y {l:zw} (h:Xk l=0):l.length<=400/\(∀r∈l,Kc r=true)/\Zb l=D4.out l:=by
 unfold Xk at h;cases g1:decide (400<l.length) with
 | true=>rw [g1] at h;cases h
 | false=>
  cases g2:l.all Kc with
  | false=>rw [g1,g2] at h;cases h
  | true=>
   rw [g1,g2,Aa,Ab] at h;have hl:l.length<=400:=by have:=BL g1;omega
   refine ⟨hl,Au.1 g2,?_⟩;have h2:(D4.out l).length <=400:=TD h;exact (x2p (Au.1 g2) hl h2).1
instance ptDec6 (l:zx) (p:Int×Int×Int):Decidable (CT DB.inB l p):=Classical.propDecidable _
theorem v3w {q:Op} {a b:zx} {x:Int} (h:Ck q a b x=0):Qs.can (C8 q a b x)/\ ∀p,CT Qs.inB (C8 q a b x) p↔Df q.k (decide (CT DB.inB a (x,p))) (decide (CT DB.inB b (x,p)))=true:=by
 obtain ⟨h1,h2,h3⟩:=x2a h;obtain ⟨c1,c2,_⟩:=w5i h3;obtain ⟨k1,k2,_⟩:=w0m q.k (v5a c1) (v5a c2);refine ⟨k1,fun p=> ?_⟩;have e: ∀l:zx,Xk (D6.inn l x)=0->decide (CT Qs.inB (Zb (D6.inn l x)) p)=decide (CT DB.inB l (x,p)):=fun l hl=>by
  obtain ⟨m1,m2,m3⟩:=v4y hl;have:CT Qs.inB (Zb (D6.inn l x)) p↔CT DB.inB l (x,p):=by rw [m3,(Mx m2 m1).2 p];exact CM.pt_inn (D:=D6) Qs.inB l x p
  exact decide_eq_decide.2 this
 rw [show CT Qs.inB (C8 q a b x) p↔_ from k2 p,e a h1,e b h2]
theorem v9y {q:Op} {a b:zx} (h:Ct (Ck q a b) (D6.cuts (a++b)) ((D6.cuts (a++b)).length - 1) 0=0):DB.can (Fx q a b)/\ ∀p,CT DB.inB (Fx q a b) p↔Df q.k (decide (CT DB.inB a p)) (decide (CT DB.inB b p))=true:=by
 have hf:=x6k _ _ _ _ h;have hc:(D6.cuts (a++b)).Pairwise (· < ·):=by show (Ki (D6.ends (a++b))).Pairwise (· < ·);rw [Fn];exact (Vk _).1
 have eS:Fx q a b=(D6.goS (fun x=>bif Ck q a b x != 0 then [] else C8 q a b x) (D6.cuts (a++b)) ((D6.cuts (a++b)).length - 1) 0 ⟨[],[],0,0⟩).out :=by unfold Fx;rw [D6.goS_congr (C8 q a b) (fun x=>bif Ck q a b x != 0 then [] else C8 q a b x)];intro j h1 h2;show _=bif Ck q a b _ != 0 then _ else _;rw [hf j h1 h2];rfl
 have hs: ∀x,Qs.can (bif Ck q a b x != 0 then [] else C8 q a b x):=fun x=>by
  cases g:(Ck q a b x != 0) with
  | true=>exact Qs.nil
  | false=>exact (v3w (by simpa using g)).1
 obtain ⟨h1,h2⟩:=CM.goS_can Ra Se Qs (cs:=D6.cuts (a++b)) hc hs;rw [eS];refine ⟨h1,fun ⟨x,p⟩=> ?_⟩;rw [show CT DB.inB _ (x,p)↔_ from h2 x p];have ia: ∀j,j+1<(D6.cuts (a++b)).length ->rd (D6.cuts (a++b)) j<=x->x<rd (D6.cuts (a++b)) (j+1)->(CT Qs.inB (bif Ck q a b (rd (D6.cuts (a++b)) j) != 0 then [] else C8 q a b (rd (D6.cuts (a++b)) j)) p↔Df q.k (decide (CT DB.inB a (x,p))) (decide (CT DB.inB b (x,p)))=true):=fun j j1 j2 j3=>by
  have z:=hf j (Ay _) (by omega);have e: ∀l:zx,(∀r∈l,r∈a++b)->decide (CT DB.inB l (rd (D6.cuts (a++b)) j,p))=decide (CT DB.inB l (x,p)):=fun l hl=>by
   have:CT DB.inB l (rd (D6.cuts (a++b)) j,p)↔CT DB.inB l (x,p):=by rw [show CT DB.inB l (rd (D6.cuts (a++b)) j,p)↔_ from (CM.pt_inn (D:=D6) Qs.inB l _ p).symm,CM.inn_slab (a++b) l hl j1 j2 j3];exact CM.pt_inn (D:=D6) Qs.inB l x p
   exact decide_eq_decide.2 this
  rw [z,show ((0:Int) != 0)=false from rfl,Aa,(v3w z).2,e a fun r hr=>AF.2 (.inl hr),e b fun r hr=>AF.2 (.inr hr)]
 constructor
 .rintro ⟨j,j1,j2,j3,j4⟩;exact (ia j j1 j2 j3).1 j4
 .intro hp;refine BT fun hn=> ?_;have hx: ∀j,j+1<(D6.cuts (a++b)).length -> ¬(rd (D6.cuts (a++b)) j<=x/\x<rd (D6.cuts (a++b)) (j+1)):=fun j j1 j2=>hn ⟨j,j1,j2.1,j2.2,(ia j j1 j2.1 j2.2).2 hp⟩;have e: ∀l:zx,(∀r∈l,r∈a++b)->decide (CT DB.inB l (x,p))=false:=fun l hl=>An fun g=>by have g:=(CM.pt_inn (D:=D6) Qs.inB l x p).2 g;rw [CM.inn_out (a++b) l hl hx] at g;exact Sz _ _ g
  rw [e a fun r hr=>AF.2 (.inl hr),e b fun r hr=>AF.2 (.inr hr),u9h] at hp;cases hp
instance inSDec (l:zx) (x y z:Int):Decidable (MT l x y z):=Classical.propDecidable _
theorem M1 {E:Int->Int} {cs:zp} (h: ∀x,E x=0): ∀k i,Ct E cs k i=0
 | 0,_=>rfl
 | k+1,i=>by unfold Ct;rw [h];exact M1 h k (i+1)
theorem M2 {E:Int->Int} (cs:zp) (h: ∀x,E x=0\/E x=4): ∀k i,Ct E cs k i=0\/Ct E cs k i=4
 | 0,_=>.inl rfl
 | k+1,i=>by
  unfold Ct;rcases h (rd cs i) with e | e <;> rw [e]
  .exact M2 cs h k (i+1)
  .exact .inr rfl
theorem cap4 (n:Nat):DX n=0\/DX n=4:=by rw [Mh];cases decide (400<n) <;> simp
theorem Vl {n:Nat} (h:n<=400):DX n=0:=by rw [Mh,An (by omega)];rfl
theorem Lq {l:zw} (hl:l.length<=400) (hv: ∀r∈l,Kc r=true) (hc:Qs.can l):DO l=0:=by
 obtain ⟨h1,h2⟩:=Mx hv hl;have e:D4.out l=l:=Qs.uniq _ _ h1 hc h2;have m1:Fk l=0:=by show DX (D4.out l).length =0;rw [e];exact Vl hl
 have m0:Vz l=l:=by unfold Vz Dn;rw [show PO l=0 from m1,e];rfl
 unfold DO GX;rw [An (by omega),Au.2 hv,m1,m0,show Vs l l=true from Af rfl];rfl
theorem j0h {l:zw} (x:Int) (hc:Qs.can l):DZ.can (D4.inn l x):=by obtain ⟨G,hG,e⟩:=hc;rw [e];exact CM.inn_can R8 DZ x G hG
theorem Lp {l:zw} (x:Int) (hl:l.length<=400) (hv: ∀r∈l,Kc r=true) (hc:Qs.can l):Dj (D4.inn l x)=0:=
 (x1w _).2 ⟨AG (D4.inn_length l x) hl,HF hv x,j0h x hc⟩
theorem Z0 {l:zx} (hl:Yt l=0) (x:Int):(D6.inn l x).length <=400/\(∀r∈D6.inn l x,Kc r=true)/\Qs.can (D6.inn l x)/\Xk (D6.inn l x)=0/\Zb (D6.inn l x)=D6.inn l x:=by
 obtain ⟨sl,sv,_⟩:=S3 hl;have v:=Y7 sv x;have n:=AG (D6.inn_length l x) sl;have c:Qs.can (D6.inn l x):=by obtain ⟨G,hG,e⟩:=j2o hl;rw [e];exact CM.inn_can Ra Qs x G hG
 obtain ⟨h1,h2⟩:=Mx v n;have e:D4.out (D6.inn l x)=D6.inn l x:=Qs.uniq _ _ h1 c h2;obtain ⟨r0,r1⟩:=x2p v n (by rw [e];exact n);exact ⟨n,v,c,r1,r0.trans e⟩
theorem U2 {A B:zw} (la:A.length<=400) (lb:B.length<=400) (va: ∀r∈A,Kc r=true) (vb: ∀r∈B,Kc r=true) (ca:Qs.can A) (cb:Qs.can B):FX .u A B=DX (Dx 0 A B).length :=by
 obtain ⟨j1,j2,_⟩:=w0m 0 va vb;have hs: ∀x,EH 0 (D4.inn A x) (D4.inn B x)=D4.inn (Dx 0 A B) x:=fun x=>by
  obtain ⟨s1,s2⟩:=x8l 0 (HF va x) (HF vb x);refine DZ.uniq _ _ s1 (j0h x j1) fun y=> ?_;rw [s2,show CT DZ.inB (D4.inn (Dx 0 A B) x) y↔_ from w1c _ x y,j2]
  grind [w1c]
 have hz: ∀x,DV .u A B x=DX (D4.inn (Dx 0 A B) x).length :=fun x=>by rw [<-hs];unfold DV H9;rw [Lp x la va ca,Lp x lb vb cb];rfl
 unfold FX;rw [Lq la va ca,Lq lb vb cb];show eJ (Ct (DV .u A B) (D4.cuts (A++B)) ((D4.cuts (A++B)).length - 1) 0) (Dx 0 A B).length =_;by_cases h:(Dx 0 A B).length <=400
 .rw [M1 fun x=>by rw [hz];exact Vl (AG (D4.inn_length _ x) h)];rfl
 .rcases M2 (E:=DV .u A B) (D4.cuts (A++B)) (fun x=>by rw [hz];exact cap4 _) ((D4.cuts (A++B)).length - 1) 0 with e | e <;> rw [e]
  .rfl
  .rw [Mh,Af (by omega)];rfl
section
variable {a b:zx} (ha:Yt a=0) (hb:Yt b=0)
include ha hb
theorem UG (x:Int):Ck .u a b x=DX (Dx 0 (D6.inn a x) (D6.inn b x)).length :=by obtain ⟨a1,a2,a3,a4,a5⟩:=Z0 ha x;obtain ⟨b1,b2,b3,b4,b5⟩:=Z0 hb x;unfold Ck;rw [a4,b4,a5,b5];exact U2 a1 b1 a2 b2 a3 b3
theorem Ox (z:Int):EC 2 a b z=decide (400<(Dx 0 (D6.inn a z) (D6.inn b z)).length):=by
 obtain ⟨a1,a2,a3,_⟩:=Z0 ha z;obtain ⟨b1,b2,b3,_⟩:=Z0 hb z;obtain ⟨j1,j2,_⟩:=w0m 0 a2 b2;have v: ∀r∈D6.inn a z++D6.inn b z,Kc r=true:=fun r hr=>(AF.1 hr).elim (a2 r) (b2 r);have e1:C4 2 (CN a z) []=D6.inn a z:=Qs.uniq _ _ (HN a2).1 a3 (HN a2).2;have e2:C4 2 (CN b z) []=D6.inn b z:=Qs.uniq _ _ (HN b2).1 b3 (HN b2).2;have e3:DA 2 a b z=Dx 0 (D6.inn a z) (D6.inn b z):=by show C4 2 (D6.inn a z) (D6.inn b z)=_;rw [j0d];refine Qs.uniq _ _ (HN v).1 j1 fun p=>((HN v).2 p).trans ?_;rw [j2,x0i];simp [Df]
 unfold EC;rw [e1,e2,e3,An (show ¬400<(D6.inn a z).length by omega),An (show ¬400<(D6.inn b z).length by omega),BY,BY]
theorem j6u : ∀k i,Ct (Ck .u a b) (D6.cuts (a++b)) k i=bif IV a b k i then 0 else 4
 | 0,i=>rfl
 | k+1,i=>by
  unfold Ct IV;rw [UG ha hb,Ox ha hb,Mh];cases decide (400<(Dx 0 (D6.inn a (rd (D6.cuts (a++b)) i)) (D6.inn b (rd (D6.cuts (a++b)) i))).length) with
  | true=>rfl
  | false=>exact j6u k (i+1)
end
theorem v9d (a b:zx):FG 2 a b=DL .u a b/\Rt 2 a b=EW .u a b:=by
 have key:FG 2 a b=DL .u a b/\(DL .u a b=0->Jr 2 a b=Fx .u a b):=by
  unfold FG DL Gq;rw [<-XK,<-XK];by_cases ha:Yt a=0
  .by_cases hb:Yt b=0
   .rw [Jz ha,Jz hb,Aa,Aa,Aa,Aa,j6u ha hb];have va:=(S3 ha).2.1;have vb:=(S3 hb).2.1;unfold EI Jr;rw [MO];cases q:IV a b ((D6.cuts (a++b)).length - 1) 0 with
    | false=>exact ⟨rfl,fun h=>by cases h⟩
    | true=>
     have hf:=j6u ha hb ((D6.cuts (a++b)).length - 1) 0;rw [q] at hf;obtain ⟨c1,p1⟩:=v9y (q:=.u) hf;obtain ⟨c2,p2⟩:=v9z (l:=a++b) fun r hr=>(AF.1 hr).elim (va r) (vb r);have e:H3 (a++b)=Fx .u a b:=u5l c2 c1 fun x y z=>by rw [p2,Mo,Mo,p1,x0i];show _↔Df 0 _ _=true;simp [Df]
     rw [Ab,Ab,e];refine ⟨?_,fun _=>rfl⟩;show (bif decide (((Fx .u a b).length :Int)<=400) then (0:Int) else 4)=eJ 0 (Fx .u a b).length;show _=DX _;rw [Mh];by_cases h:400<(Fx .u a b).length
     .rw [Af h,An (by omega)];rfl
     .rw [An h,Af (by omega)];rfl
   .rw [Jz ha,Ur hb];exact ⟨rfl,fun h=>absurd h hb⟩
  .rw [Ur ha];exact ⟨rfl,fun h=>absurd h ha⟩
 refine ⟨key.1,?_⟩;unfold Rt EW Dn;rw [key.1];by_cases h:DL .u a b=0
 .rw [key.2 h];rfl
 .show (bif DL .u a b != 0 then _ else _)=bif DL .u a b != 0 then _ else _;rw [Ur h];rfl
open Go.Proofs.Tryz
def rb (t a b c:Int) (r:R6):R6:=Jp r.a r.b r.c r.d r.e r.f t a b c
theorem u7w (L:zx) (hl:L.length<=400) (t a b c:Int) (hk:CW t a b c=0) (ht:0<=t): ∀(k i:Nat) (acc:zx),i+k=L.length->acc=(L.take i).map (rb t a b c)->
  ∃N,Yx (ND L t a b c) N (.to (.h0 acc (i:Int)))=.ret (bif (L.drop i).all (fun r=>Kt (rb t a b c r)) then [.dat (Gu (L.map (rb t a b c))).length (Zz (Gu (L.map (rb t a b c)))),.int .i64 (Gb (L.map (rb t a b c)))] else [.nils,.int .i64 16])
 | 0,i,acc,h,ha=>by
  refine ⟨1,?_⟩;have:i=L.length:=by omega
  subst this;rw [B6] at ha;subst ha;rw [Zx,Av (Ar _)];unfold ND;simp only [Za];rw [Ym (by omega),Aa,Zi (show Sc (L.map (rb t a b c))=true from ZW (by rw [B0];omega) (Ay _))];rfl
 | k+1,i,acc,h,ha=>by
  have hi:i<L.length:=by omega
  have eH:acc.length=i:=by rw [ha,B0,Bl];omega
  obtain ⟨N,hN⟩:=u7w L hl t a b c hk ht k (i+1) (acc++[rb t a b c (rd L i)]) (by omega) (by
   rw [ha,AX,At hi,BF,Xm hi];rfl)
  have w3:wrap .i64 ((i:Int)+1)=((i+1:Nat):Int):=Zk (by omega);have fo:R0 (rd L i).a (rd L i).b (rd L i).c (rd L i).d (rd L i).e (rd L i).f t a b c=true:=by have q: ∀x y z,Ut t a b c x y z=true:=fun x y z=>It (Jz hk) ht;unfold R0;rw [q,q];rfl
  have e:ND L t a b c (.h0 acc (i:Int))=bif Kt (rb t a b c (rd L i)) then .to (.h0 (acc++[rb t a b c (rd L i)]) ((i+1:Nat):Int)) else .ret [.nils,.int .i64 16]:=by
   have r:rd (acc++[rb t a b c (rd L i)]) (0+i)=rb t a b c (rd L i):=by rw [Ah,Xm (by rw [AK,eH];exact Bf i),Bm (by omega)];simp [eH]
   unfold ND;simp only [Zj,w3];rw [Zi (Zt (by omega)),Ai,Zi (Zr (by omega)),Zi fo,Zi (NB (by omega)),Ai,Zi (Zr (by omega))];show (bif decide (0+i<(acc++[rb t a b c (rd L i)]).length) then (bif !(Kt (rd (acc++[rb t a b c (rd L i)]) (0+i))) then Yr.ret [.nils,.int .i64 16] else Yr.to (GU.h0 (acc++[rb t a b c (rd L i)]) ((i+1:Nat):Int))) else Yr.stuck)=_;rw [Zi (Af (by rw [AK,eH];exact Nat.lt_of_le_of_lt (B5 (Ah i)) (Bf i))),r];cases Kt (rb t a b c (rd L i)) <;> rfl
  rw [Yo hi,BH];cases g:Kt (rb t a b c (rd L i)) with
  | false=>exact ⟨1,by rw [Zx,e,g];rfl⟩
  | true=>exact ⟨N+1,by rw [Zx,e,g,Ab,Ak,hN]⟩
theorem MA {t a b c:Int} (hk:CW t a b c=0) (ht:0<=t) {r:R6} (hr:Kt r=true):E6 t a b c r=Kt (rb t a b c r)/\(E6 t a b c r=true->FC t a b c r=rb t a b c r):=by
 have hf:t<24/\E7 a b c:=by
  unfold CW at hk;by_cases g:24<=t
  .rw [Af g] at hk;cases hk
  .rw [An g,Aa] at hk;cases q:GZ a b c with
   | true=>exact ⟨by omega,(JM a b c).1 q⟩
   | false=>rw [q] at hk;cases hk
 obtain ⟨p,s1,s2,s3,hT⟩:=j1n t ht hf.1;obtain ⟨f1,f2⟩:=w6w hr;have v0: ∀x y z,EN t a b c x y z=0->Zh t a b c x y z=CU t a b c x y z:=fun x y z h=>by unfold Zh;rw [h];rfl
 have two:E6 t a b c r=true->FC t a b c r=rb t a b c r:=fun h=>by unfold E6 at h;simp only [Ac,A8,bne_eq_false_iff_eq] at h;unfold FC rb Jp;rw [v0 _ _ _ h.1,v0 _ _ _ h.2]
 refine ⟨?_,two⟩;cases g:E6 t a b c r with
 | true=>have q:=Q7 hT hf.1 hf.2 hr g;rw [<-two g,q.1,q.2]
 | false=>
  cases w:Kt (rb t a b c r) with
  | false=>rfl
  | true=>
   exfalso;have w:=WZ w;unfold rb Jp at w;simp only [GF,GE] at w;have i1:EN t a b c r.a r.b r.c=0:=by unfold EN;rw [Jz hk,(JM _ _ _).2 f1,Aa,Ab,(JM _ _ _).2 (by unfold E7;omega)];rfl
   have i2:EN t a b c r.d r.e r.f=0:=by unfold EN;rw [Jz hk,(JM _ _ _).2 f2,Aa,Ab,(JM _ _ _).2 (by unfold E7;omega)];rfl
   unfold E6 at g;rw [i1,i2] at g;cases g
theorem OO {L:zx} {t a b c:Int} (hs:Yt L=0) (hk:CW t a b c=0) (ht:0<=t):L.all (E6 t a b c)=L.all (fun r=>Kt (rb t a b c r))/\(L.all (E6 t a b c)=true->L.map (FC t a b c)=L.map (rb t a b c)):=by
 have hv:=(S3 hs).2.1;refine ⟨?_,fun h=>BX fun r hr=>(MA hk ht (hv r hr)).2 (Au.1 h r hr)⟩;clear hs
 induction L with
 | nil=>rfl
 | cons r L ih=>rw [BH,BH,(MA hk ht (hv r (Br ..))).1,ih fun x hx=>hv x (Bz _ hx)]
theorem j3n (L:zx) (t a b c:Int) (ht:0<=t): ∃n vs,Yx (ND L t a b c) n (YF L t a b c)=.ret vs/\(∀(ρ:CE) (u:Value),Yv ρ (Uz vs) u->Yv ρ (.tup [.dat (Wj L t a b c).length (Zz (Wj L t a b c)),.int .i64 (Ji L t a b c)]) u)/\ ∃d,pf d (Uz vs)=true:=by
 unfold YF;simp only [Za,show∀l,Qq l=true from fun _=>rfl,Ab];rw [<-XK];rcases Xz (Yt L != 0) with q1 | q1
 .refine ⟨0,_,by rw [q1,Ab];rfl,?_,3,rfl⟩;unfold Wj Ji;rw [q1,Ab,Ab];exact fun ρ u hu=>Qn (.cons (.nild _) (.cons (.refl _) .nil)) ρ u hu
 rcases Xz (CW t a b c != 0) with q2 | q2
 .refine ⟨0,_,by rw [q1,q2,Aa,Ab];rfl,?_,3,rfl⟩;unfold Wj Ji;rw [q1,q2,Aa,Ab,Aa,Ab];exact fun ρ u hu=>Qn (.cons (.nild _) (.cons (.refl _) .nil)) ρ u hu
 have hk:CW t a b c=0:=by simpa using q2
 have hs:Yt L=0:=by simpa using q1
 obtain ⟨N,hN⟩:=u7w L (W7 q1) t a b c hk ht L.length 0 [] (Ah _) rfl;rw [AO] at hN;refine ⟨N,_,by rw [q1,q2,Aa,Aa];exact hN,?_⟩;obtain ⟨e1,e2⟩:=OO hs hk ht;unfold Wj Ji;rw [q1,q2,Aa,Aa,Aa,Aa,<-e1];rcases Xz (L.all (E6 t a b c)) with q3 | q3 <;> rw [q3]
 .rw [e2 q3,(MF _).1,(MF _).2];exact ⟨fun ρ u hu=>hu,3,rfl⟩
 .exact ⟨fun ρ u hu=>Qn (.cons (.nild _) (.cons (.refl _) .nil)) ρ u hu,3,rfl⟩
theorem j7r {S:CB} (hS:Zw prog S):Zw prog (S.with LS F9):=by
 refine E4 hS (by kernel_rfl) fun args v h=> ?_;unfold F9 at h;split at h
 .rename_i a0 t a b c;split at h
  .rename_i L0 g0 n0 e0;simp only [Ad,Ae,Ac] at h;obtain ⟨rfl,ho0,hw⟩:=h;obtain ⟨N,vs,hN,hv,hp⟩:=j3n L0 t a b c (Ax hw);exact ⟨_,vs,(.cons (Yi e0 ho0) (.cons (.refl _) .nil)),hv,u1c L0 t a b c N _ hN,hp⟩
  .cases h
 .cases h
def Sr2 :CB:=Sr1.with LS F9
theorem v8q :Zw prog Sr2:=j7r HK
inductive Hq where
def OR (l0:zt) (x1:Int):Hq->CI
 :=nofun
def x9m (l0:zt) (x1:Int):Hq->Yr Hq
 :=nofun
def YD (l0:zt) (x1:Int):Yr Hq:=(bif (Ue (CA l0) x1) then (bif ((Jh (CA l0) x1) != 0) then (.ret [.nils,(.int .i64 (Jh (CA l0) x1))]) else (bif ((decide (0<=x1/\x1<(l0.length:Int)))&&true) then (bif (Ke (CA (rd l0 x1.toNat).s) (Yd (CA l0) x1).a (Yd (CA l0) x1).b (Yd (CA l0) x1).c (Yd (CA l0) x1).d) then (.ret [(.dat (Wj (CA (rd l0 x1.toNat).s) (Yd (CA l0) x1).a (Yd (CA l0) x1).b (Yd (CA l0) x1).c (Yd (CA l0) x1).d).length (Zz (Wj (CA (rd l0 x1.toNat).s) (Yd (CA l0) x1).a (Yd (CA l0) x1).b (Yd (CA l0) x1).c (Yd (CA l0) x1).d))),(.int .i64 (Ji (CA (rd l0 x1.toNat).s) (Yd (CA l0) x1).a (Yd (CA l0) x1).b (Yd (CA l0) x1).c (Yd (CA l0) x1).d))]) else .stuck) else .stuck)) else .stuck)
theorem w9b (l0:zt) (x1:Int): ∀s,Xx prog (Zy prog 16) (OR l0 x1) (OR l0 x1 s) (x9m l0 x1 s)
 :=nofun
theorem x9n (l0:zt) (x1:Int):Xx prog (Zy prog 16) (OR l0 x1) (Zp prog 16 [(dt l0),(.int .i64 x1)] true []) (YD l0 x1):=(lo fun bG=>let g:=pp (pp (xr l0) (xw bG)) nn;(lb (fun k0=>(lr 26 16 (pn 75) 1 6 [(4,.nils),(5,(ii (Jh (CA l0) x1)))] (sl v8q 30 [] (a7 [4,5]) a6 [true] (tt k0 g)))) (fun k0=>(lo fun o0=>(lo fun o1=>let e:=Yd (CA l0) x1;let i:=rd l0 (tn x1);let f:=CA i.s;let h:=Wj f e.a e.b e.c e.d;(lr 26 3 (pn 767) 1 6 [(4,(dt h)),(5,(ii (Ji f e.a e.b e.c e.d)))] (sl v8q 27 [] (a7 [4,5]) a6 [false] (pp (pp (xI R6 i.s.length (Zz i.s)) (xw o1)) (ww o0 (tt k0 g))))))))))
theorem u1e (l0:zt) (x1:Int) (n:Nat) (vs:zy) (h:Yx (x9m l0 x1) n (YD l0 x1)=.ret vs):Vi prog (Zy prog 16) (Zp prog 16 [(dt l0),(.int .i64 x1)] true []) vs:=by have:=Zg (w9b l0 x1) n _ (x9n l0 x1);rwa [h] at this
theorem j3p (l:zt) (i:Int) (ho:Vc l i=true): ∃N vs,Yx (x9m l i) N (YD l i)=.ret vs/\(∀(ρ:CE) (u:Value),Yv ρ (Uz vs) u->Yv ρ (.tup [.dat (Yp l i).length (Zz (Yp l i)),.int .i64 (EY l i)]) u)/\ ∃d,pf d (Uz vs)=true:=by
 have ho':Ue l i=true:=ho;unfold YD;simp only [Za];rw [Zi ho'];by_cases h:Jh l i=0
 .obtain ⟨h1,⟨j,rfl,hj⟩,h3,h4,h5⟩:=u9e ho' h;refine ⟨0,_,by rw [Jz h,Aa,Ai,Zi (Zr (by omega)),Zi (show Ke _ _ _ _ _=true from Af h5)];rfl,?_,3,rfl⟩;unfold Yp EY;rw [Jz h];exact fun ρ u hu=>hu
 .refine ⟨0,_,by rw [Ur h,Ab];rfl,?_,3,rfl⟩;unfold Yp EY;rw [Ur h];exact fun ρ u hu=>Qn (.cons (.nild _) (.cons (.refl _) .nil)) ρ u hu
theorem j7t {S:CB} (hS:Zw prog S):Zw prog (S.with LR Fa):=E4 hS (by kernel_rfl) fun args v h=>by
 unfold Fa at h;split at h
 .rename_i a0 i;split at h
  .rename_i L g n e0;simp only [Ad,Ae,Ac] at h;obtain ⟨rfl,ho0,hw⟩:=h;obtain ⟨N,vs,hN,hv,hp⟩:=j3p L i hw;exact ⟨_,vs,(.cons (Yi e0 ho0) (.cons (.refl _) .nil)),hv,u1e L i N _ hN,hp⟩
  .cases h
 .cases h
def Sr3 :CB:=Sr2.with LR Fa
theorem Fj :Zw prog Sr3:=j7t v8q
inductive Hi where
 | h0 (v4:Int)
 | h1
 | h2 (v7:zx) (v8:Int)
def OE (l0:zt):Hi->CI
 | .h0 v4=>⟨⟨56,0,true⟩,none,(Zq prog 18 (pn 75) 0),none,(Zy prog 17),⟨Zs [(0,(dt l0)),(4,(ii v4))],Xe [] 0,0,[],true⟩,[],.leaf⟩
 | .h1 =>⟨⟨56,0,true⟩,none,(Zq prog 18 (pn 303) 0),none,(Zy prog 17),⟨Zs [(0,(dt l0)),(7,.nils),(8,(ii 0))],Xe [] 0,0,[],true⟩,[],.leaf⟩
 | .h2 v7 v8=>⟨⟨56,0,true⟩,none,(Zq prog 18 (pn 303) 0),none,(Zy prog 17),⟨Zs [(0,(dt l0)),(7,(dt v7)),(8,(ii v8))],Xe [] 0,0,[],true⟩,[],.leaf⟩
def K6 :List (Option zr):=[some [0,4]]
def K8 :List (Option zr):=[]
def UL :List (Option zr):=[some [0,7,8]]
def UM :List (Option zr):=[]
def K5 :List (Option zr):=[some [0,7,8]]
def K7 :List (Option zr):=[]
def Uk (l0:zt):Hi->Yr Hi
 | .h0 v4=>let a:=EY (CA l0) v4;(bif (decide (v4<(l0.length:Int))) then (bif (Vc (CA l0) v4) then (bif (a != 0) then (.ret [.nils,(.int .i64 a)]) else (.to (.h0 (wrap .i64 (v4+1))))) else .stuck) else (.to (.h1)))
 | .h1 =>let a:=CA (Yp (CA l0) 0);(bif (decide (0<(l0.length:Int))) then (bif (Vc (CA l0) 0) then (bif (RZ 2 ([]:zx) a) then (bif ((FG 2 ([]:zx) a) != 0) then (.ret [.nils,(.int .i64 (FG 2 ([]:zx) a))]) else (.to (.h2 (Rt 2 ([]:zx) a) 1))) else .stuck) else .stuck) else (.ret [.nils,(.int .i64 0)]))
 | .h2 v7 v8=>let a:=CA (Yp (CA l0) v8);let b:=FG 2 (CA v7) a;(bif (decide (v8<(l0.length:Int))) then (bif (Vc (CA l0) v8) then (bif (RZ 2 (CA v7) a) then (bif (b != 0) then (.ret [.nils,(.int .i64 b)]) else (.to (.h2 (Rt 2 (CA v7) a) (wrap .i64 (v8+1))))) else .stuck) else .stuck) else (.ret [(dt v7),(.int .i64 0)]))
def YH (l0:zt):Yr Hi:=(bif (Yh (CA l0)) then (bif ((Kx (CA l0)) != 0) then (.ret [.nils,(.int .i64 (Kx (CA l0)))]) else (.to (.h0 0))) else .stuck)
theorem w8p (l0:zt): ∀s,Xx prog (Zy prog 18) (OE l0) (OE l0 s) (Uk l0 s)
 | .h0 v4=>(lb (fun k0=>(lo fun aL=>let a:=pp (pp (xr l0) (xw aL)) (tt k0 nn);(lb (fun k1=>(lr 56 18 (pn 9803) 1 17 [(2,.nils),(3,(ii (EY (CA l0) v4)))] (sl Fj 35 [] (a7 [2,3]) a6 (bl 2 3) (tt k1 a)))) (fun k1=>(sl Fj 37 [] ⟨[],[],K6,K8⟩ a6 (bl 2 1) (tt k1 a)))))) (fun k0=>(sl Fj 21 [] ⟨[],[],UL,UM⟩ a6 [false] (tt k0 nn))))
 | .h1 =>(lb (fun k0=>(lo fun aL=>(lo fun aT=>let a:=pp (pp (xr l0) (xw aL)) (tt k0 nn);let b:=Yp (CA l0) 0;(lb (fun k1=>(lr 56 18 (pn 153903) 1 17 [(2,.nils),(3,(ii (FG 2 ([]:zx) (CA b))))] (sl Fj 47 [] (a7 [2,3]) a6 (bl 2 3) (tt k1 (pp (pp (xI R6 0 (fun _=>[])) (pp (xI R6 b.length (Zz b)) (xw aT))) a))))) (fun k1=>(sl Fj 53 [] ⟨[],[],K5,K7⟩ a6 (bl 2 1) (tt k1 (pp (pp (xI R6 0 (fun _=>[])) (pp (xI R6 b.length (Zz b)) (xw aT))) a)))))))) (fun k0=>(lr 56 3 (pn 767) 1 17 [(2,.nils),(3,(ii 0))] (sl Fj 16 [] (a7 [2,3]) a6 [false] (tt k0 nn)))))
 | .h2 v7 v8=>(lb (fun k0=>(lo fun aL=>(lo fun aT=>let a:=pp (pp (xr l0) (xw aL)) (tt k0 nn);let b:=Yp (CA l0) v8;(lb (fun k1=>(lr 56 18 (pn 153903) 1 17 [(2,.nils),(3,(ii (FG 2 (CA v7) (CA b))))] (sl Fj 47 [] (a7 [2,3]) a6 (bl 2 3) (tt k1 (pp (pp (xr v7) (pp (xI R6 b.length (Zz b)) (xw aT))) a))))) (fun k1=>(sl Fj 53 [] ⟨[],[],K5,K7⟩ a6 (bl 2 1) (tt k1 (pp (pp (xr v7) (pp (xI R6 b.length (Zz b)) (xw aT))) a)))))))) (fun k0=>(lr 56 3 (pn 767) 1 17 [(2,(dt v7)),(3,(ii 0))] (sl Fj 16 [] (a7 [2,3]) a6 [false] (tt k0 nn)))))
theorem x8z (l0:zt):Xx prog (Zy prog 18) (OE l0) (Zp prog 18 [(dt l0)] true []) (YH l0):=(lo fun bG=>let a:=pp (xr l0) (xw bG);(lb (fun k0=>(lr 56 18 (pn 37) 1 17 [(2,.nils),(3,(ii (Kx (CA l0))))] (sl Fj 20 [] (a7 [2,3]) a6 [true] (pp a (tt k0 (pp a nn)))))) (fun k0=>(sl Fj 21 [] ⟨[],[],K6,K8⟩ a6 [false] (tt k0 (pp a nn))))))
theorem u0s (l0:zt) (n:Nat) (vs:zy) (h:Yx (Uk l0) n (YH l0)=.ret vs):Vi prog (Zy prog 18) (Zp prog 18 [(dt l0)] true []) vs:=by have:=Zg (w8p l0) n _ (x8z l0);rwa [h] at this
theorem NZ {c:Bool} {x y:zx} (hx:x.length<=400) (hy:y.length<=400):(bif c then x else y).length <=400:=by
 cases c
 .exact hy
 .exact hx
theorem u9g (l:zt) (j:Nat):(DR l j).length <=400:=by unfold DR Wj;exact NZ (Ay _) (NZ (Ay _) (NZ (v3t _) (Ay _)))
theorem v3b (a b:zx):(EW .u a b).length <=400:=by
 unfold EW Dn;cases g:Gq .u a b != 0 with
 | true=>exact Ay _
 | false=>
  have h:Gq .u a b=0:=by simpa using g
  unfold Gq at h;by_cases ha:Yt a=0
  .by_cases hb:Yt b=0
   .rw [Jz ha,Jz hb,Aa,Aa] at h;unfold eJ at h;cases q:Ct (Ck .u a b) (D6.cuts (a++b)) ((D6.cuts (a++b)).length - 1) 0 != 0 with
    | true=>rw [q,Ab] at h;simp [h] at q
    | false=>rw [q,Aa] at h;exact TD h
   .rw [Jz ha,Ur hb] at h;exact absurd h hb
  .rw [Ur ha] at h;exact absurd h ha
theorem j5h {l:zt} (hs:Kx l=0) {j:Nat} (hj:j<l.length):EY l (j:Int)=Di l j/\(Di l j=0->Yp l (j:Int)=DR l j):=by
 have hc:Ee l (j:Int)=0:=by unfold Ee;rw [Jz hs,An (show ¬(j:Int)<0 by omega),An (show ¬(j:Int)>=(l.length:Int) by omega)];rfl
 have e1:Jh l (j:Int)=Km l (j:Int):=by unfold Jh;rw [Jz hc];rfl
 have e0:Yd l (j:Int)=Ze l (j:Int):=by unfold Yd;rw [Jz hc];rfl
 unfold EY Yp Di DR;rw [e1,e0,Zj];refine ⟨rfl,fun h=> ?_⟩;by_cases g:Km l (j:Int)=0
 .rw [Jz g];rfl
 .rw [Ur g,Ab] at h;exact absurd h g
theorem JZ {l:zt}: ∀(k i:Nat),E5 l k i=0-> ∀j,i<=j->j<i+k->Di l j=0
 | 0,i,h,j,h1,h2=>by omega
 | k+1,i,h,j,h1,h2=>by
  rw [E5] at h;by_cases g:Di l i=0
  .rw [Jz g,Aa] at h;by_cases e:j=i
   .rw [e];exact g
   .exact JZ k (i+1) h j (by omega) (by omega)
  .rw [Ur g,Ab] at h;exact absurd h g
section
variable {l:zt} (ho:Um l=true) (hs:Kx l=0)
include ho hs
theorem u7m : ∀(k i:Nat),i+k=l.length-> ∃N,Yx (Uk l) N (.to (.h0 (i:Int)))=bif E5 l k i != 0 then .ret [.nils,.int .i64 (E5 l k i)] else .to .h1
 | 0,i,h=>by
  refine ⟨1,?_⟩;have e:Uk l (.h0 (i:Int))=.to .h1 :=by unfold Uk;simp only [];rw [Ym (by omega)];rfl
  rw [Zx,e];rfl
 | k+1,i,h=>by
  have hl:=(Qh (l:=l) (by rw [hs];rfl)).1;have w2:wrap .i64 ((i:Int)+1)=((i+1:Nat):Int):=Zk (by omega);have e:Uk l (.h0 (i:Int))=bif Di l i != 0 then .ret [.nils,.int .i64 (Di l i)] else .to (.h0 ((i+1:Nat):Int)):=by unfold Uk;simp only [w2,Za];rw [Zi (Zt (by omega)),Zi (show Vc l (i:Int)=true from ho),(j5h hs (by omega)).1]
  rw [E5];cases g:Di l i != 0 with
  | true=>exact ⟨1,by rw [Zx,e,g,Ab,Ab,g];rfl⟩
  | false=>obtain ⟨N,hN⟩:=u7m k (i+1) (by omega);exact ⟨N+1,by rw [Zx,e,g,Aa,Aa,hN]⟩
variable (hp: ∀j,j<l.length->Di l j=0)
include hp
theorem u7l : ∀(k i:Nat) (acc:zx),i+k=l.length->acc.length<=400-> ∃N,Yx (Uk l) N (.to (.h2 acc (i:Int)))=.ret (De (EP (HO l k i) acc))
 | 0,i,acc,h,ha=>by
  refine ⟨1,?_⟩;have e:Uk l (.h2 acc (i:Int))=.ret [.dat acc.length (Zz acc),.int .i64 0]:=by unfold Uk;simp only [];rw [Ym (by omega)];rfl
  rw [Zx,e];rfl
 | k+1,i,acc,h,ha=>by
  have hl:=(Qh (l:=l) (by rw [hs];rfl)).1;have hi:i<l.length:=by omega
  have w2:wrap .i64 ((i:Int)+1)=((i+1:Nat):Int):=Zk (by omega);have e:Uk l (.h2 acc (i:Int))=bif DL .u acc (DR l i) != 0 then .ret [.nils,.int .i64 (DL .u acc (DR l i))] else .to (.h2 (EW .u acc (DR l i)) ((i+1:Nat):Int)):=by unfold Uk;simp only [w2,Za];rw [Zi (Zt (by omega)),Zi (show Vc l (i:Int)=true from ho),(j5h hs hi).2 (hp i hi),Zi (show RZ 2 acc (DR l i)=true from ZW (by omega) (AG (u9g l i) (by omega))),(v9d _ _).1,(v9d _ _).2]
  rw [HO,EP];cases g:DL .u acc (DR l i) != 0 with
  | true=>refine ⟨1,?_⟩;rw [Zx,e,g,Ab,Ab];unfold De;rw [g];rfl
  | false=>obtain ⟨N,hN⟩:=u7l k (i+1) (EW .u acc (DR l i)) (by omega) (v3b _ _);exact ⟨N+1,by rw [Zx,e,g,Aa,Aa,hN]⟩
theorem OD (h0:0<l.length): ∃N,Yx (Uk l) N (.to .h1)=.ret (De (EP (HO l l.length 0) [])):=by
 have hl:=(Qh (l:=l) (by rw [hs];rfl)).1;obtain ⟨k,hk⟩: ∃k,l.length=k+1:=⟨l.length - 1,by omega⟩
 have e:Uk l .h1 =bif DL .u [] (DR l 0) != 0 then .ret [.nils,.int .i64 (DL .u [] (DR l 0))] else .to (.h2 (EW .u [] (DR l 0)) ((1:Nat):Int)):=by have q:Yp l 0=DR l 0:=(j5h hs h0).2 (hp 0 h0);unfold Uk;simp only [Za];rw [Zi (Zt (by omega)),Zi (show Vc l 0=true from ho),q,Zi (show RZ 2 [] (DR l 0)=true from ZW (Ay _) (AG (u9g l 0) (by omega))),(v9d _ _).1,(v9d _ _).2];rfl
 rw [hk,HO,EP];cases g:DL .u [] (DR l 0) != 0 with
 | true=>refine ⟨1,?_⟩;rw [Zx,e,g,Ab,Ab];unfold De;rw [g];rfl
 | false=>obtain ⟨N,hN⟩:=u7l ho hs hp k 1 (EW .u [] (DR l 0)) (by omega) (v3b _ _);exact ⟨N+1,by rw [Zx,e,g,Aa,Aa,hN]⟩
end
theorem j2y (l:zt) (ho:Um l=true): ∃N vs,Yx (Uk l) N (YH l)=.ret vs/\(vs=De (EG l)\/(vs=[.nils,.int .i64 0]/\EG l=([],0))):=by
 have hso:Yh l=true:=by unfold Um at ho;rw [Ac] at ho;exact ho.1
 unfold YH EG;simp only [Za];rw [Zi hso];by_cases hs:Kx l=0
 .rw [Jz hs,Aa,Aa];obtain ⟨N,hN⟩:=u7m ho hs l.length 0 (Ah _);have hN:Yx (Uk l) N (.to (.h0 0))=_:=hN;by_cases hw:E5 l l.length 0=0
  .rw [Jz hw,Aa] at hN ⊢;by_cases h0:0<l.length
   .obtain ⟨M,hM⟩:=OD ho hs (fun j hj=>JZ _ _ hw j (Ay _) (by omega)) h0;exact ⟨M+N,_,by rw [NP,hN];exact hM,.inl rfl⟩
   .refine ⟨1+N,[.nils,.int .i64 0],?_,.inr ⟨rfl,?_⟩⟩
    .have e:Uk l .h1 =.ret [.nils,.int .i64 0]:=by unfold Uk;simp only [];rw [Ym (by omega)];rfl
     rw [NP,hN,Zx,e];rfl
    .rw [show l.length=0 by omega];rfl
  .rw [Ur hw,Ab] at hN ⊢;refine ⟨N,_,hN,.inl ?_⟩;unfold De;rw [Ur hw];rfl
 .refine ⟨0,[.nils,.int .i64 (Kx l)],by rw [Ur hs];rfl,.inl ?_⟩;rw [Ur hs,Ab];unfold De;rw [Ur hs];rfl
theorem j7l {S:CB} (hS:Zw prog S):Zw prog (S.with K4 F5):=E4 hS (by kernel_rfl) fun args v h=>by
 unfold F5 at h;split at h
 .rename_i a0;split at h
  .rename_i L g n e0;simp only [Ad,Ae,Ac] at h;obtain ⟨rfl,ho0,hw⟩:=h;obtain ⟨N,vs,hN,hv⟩:=j2y L hw;exact ⟨_,vs,(.cons (Yi e0 ho0) .nil),u6a hv,u0s L N _ hN,5,u5z hv⟩
  .cases h
 .cases h
def Sr4 :CB:=Sr3.with K4 F5
theorem E9 :Zw prog Sr4:=j7l Fj
inductive I0 where
 | h0
 | h1 (v3:zt) (v4:Int)
def PC (l0:zt) (x1:Int):I0->CI
 | .h0 =>⟨⟨25,0,true⟩,none,(Zq prog 14 (pn 75) 0),none,(Zy prog 5),⟨Zs [(0,(dt l0)),(3,.nils),(4,(ii 0))],Xe [] 0,0,[],true⟩,[⟨⟨63,0,true⟩,(Wr prog 4 [1,1,0] 1),(Zq prog 4 [1,1,0] 1),none,(Zy prog 4),Zs [(0,(dt l0)),(1,(ii x1)),(16,(dt l0))]⟩],.leaf⟩
 | .h1 v3 v4=>⟨⟨25,0,true⟩,none,(Zq prog 14 (pn 75) 0),none,(Zy prog 5),⟨Zs [(0,(dt l0)),(3,(.sla 0 7 0 v3.length (.un 7))),(4,(ii v4))],Xe [(rz v3 57 7)] 0,1,[],true⟩,[⟨⟨63,0,true⟩,(Wr prog 4 [1,1,0] 1),(Zq prog 4 [1,1,0] 1),none,(Zy prog 4),Zs [(0,(dt l0)),(1,(ii x1)),(16,(dt l0))]⟩],.leaf⟩
def VJ :List (Option zr):=[some [0,3,4],some [0,1,16]]
def VK :List (Option zr):=[]
def MK :List (Option zr):=[some [0,3,4],some [0,1,16]]
def ML :List (Option zr):=[]
def GG (l0:zt) (x1:Int):I0->Yr I0
 | .h0 =>let b:=CA (Yp (CA l0) x1);let c:=CA (Wq (CA l0));let d:=CA (rd l0 0).s;(bif (decide (0<(l0.length:Int))) then (bif ((decide ((0:Int)<=0/\0<(l0.length:Int)))&&true) then (bif (R1 d) then (.to (.h1 ([(CD.mk (rd l0 0).n (rd l0 0).a (rd l0 0).t (rd l0 0).x (rd l0 0).y (rd l0 0).z (Dk d))]:zt) 1)) else .stuck) else .stuck) else (bif (Vc ([]:zt) x1) then (bif (Vc (CA l0) x1) then (bif (Um ([]:zt)) then (bif (Um (CA l0)) then (bif (Wk (CA (Yp ([]:zt) x1)) b) then (bif (Jv (CA (Yp ([]:zt) x1)) b) then (bif ((EY ([]:zt) x1) == (EY (CA l0) x1)) then (bif (Wk (CA (Wq ([]:zt))) c) then (bif (Jv (CA (Wq ([]:zt))) c) then (bif ((N5 ([]:zt)) == (N5 (CA l0))) then (bif (JI ([]:zt) (CA l0)) then (.ret [(.bool (H2 ([]:zt) (CA l0)))]) else .stuck) else (.ret [(.bool false)])) else (.ret [(.bool false)])) else .stuck) else (.ret [(.bool false)])) else (.ret [(.bool false)])) else .stuck) else .stuck) else .stuck) else .stuck) else .stuck))
 | .h1 v3 v4=>let b:=rd l0 v4.toNat;let c:=CA (Yp (CA v3) x1);let d:=CA (Yp (CA l0) x1);let e:=CA (Wq (CA v3));let f:=CA (Wq (CA l0));(bif (decide (v4<(l0.length:Int))) then (bif ((decide (0<=v4/\v4<(l0.length:Int)))&&true) then (bif (R1 (CA b.s)) then (bif (Nat.beq 7 7&&((decide (0+v3.length=v3.length))&&decide ((v3.length+1+1)*(80+1)<=Jm))) then (.to (.h1 (v3++[(CD.mk b.n b.a b.t b.x b.y b.z (Dk (CA b.s)))]) (wrap .i64 (v4+1)))) else .stuck) else .stuck) else .stuck) else (bif (Vc (CA v3) x1) then (bif (Vc (CA l0) x1) then (bif (Um (CA v3)) then (bif (Um (CA l0)) then (bif (Wk c d) then (bif (Jv c d) then (bif ((EY (CA v3) x1) == (EY (CA l0) x1)) then (bif (Wk e f) then (bif (Jv e f) then (bif ((N5 (CA v3)) == (N5 (CA l0))) then (bif (JI (CA v3) (CA l0)) then (.ret [(.bool (H2 (CA v3) (CA l0)))]) else .stuck) else (.ret [(.bool false)])) else (.ret [(.bool false)])) else .stuck) else (.ret [(.bool false)])) else (.ret [(.bool false)])) else .stuck) else .stuck) else .stuck) else .stuck) else .stuck))
def XU (l0:zt) (x1:Int):Yr I0:=(bif (MS (CA l0)) then (.ret [(.bool true)]) else (.to (.h0)))
theorem v0n (l0:zt) (x1:Int): ∀s,Xx prog (Zy prog 4) (PC l0 x1) (PC l0 x1 s) (GG l0 x1 s)
 | .h0 =>(lb (fun k0=>(lo fun o0=>(lo fun o1=>let q:=Dk (CA (rd l0 0).s);let j:=CD.mk (rd l0 0).n (rd l0 0).a (rd l0 0).t (rd l0 0).x (rd l0 0).y (rd l0 0).z q;let b:=j;(sl E9 43 [] ⟨[2],[],MK,ML⟩ ⟨[(3,.grow 0 7)],[.rowed 7 ([b]:zt).length (Zz ([b]:zt))],[]⟩ [true] (pp (xG (TB [(.str (rd l0 0).n),(ii (rd l0 0).a),(.int .u8 (rd l0 0).t),(ii (rd l0 0).x),(ii (rd l0 0).y),(ii (rd l0 0).z),(.dat q.length (Zz q))] 7 ([j]:zt).length (Zz ([j]:zt)))) (pp (pp (xI R6 (rd l0 0).s.length (Zz (rd l0 0).s)) (xw o1)) (ww o0 (tt k0 nn)))))))) (fun k0=>(lo fun aL=>(lo fun aT=>(lo fun bR=>(lo fun cG=>(lo fun cQ=>let c:=pp (xr l0) (xw cG);let d:=pp (xr l0) (xw aT);let l:=Yp ([]:zt) x1;let m:=Yp (CA l0) x1;(lb (fun k1=>(lb (fun k2=>(lo fun bS=>let o:=Wq ([]:zt);let p:=Wq (CA l0);(lb (fun k3=>(lb (fun k4=>(lo fun o0=>let e:=xI CD 0 (fun _=>[]);(lr 63 3 (pn 767) 1 4 [(4,(.bool (H2 ([]:zt) (CA l0))))] (sl E9 87 [] (a7 [4]) a6 (bl 13 8190) (pp (pp e (pp (xr l0) (xw o0))) (tt k4 (tt k3 (pp (pp (xI R6 o.length (Zz o)) (pp (xI R6 p.length (Zz p)) (xw bS))) (tt k2 (tt k1 (pp (pp (xI R6 l.length (Zz l)) (pp (xI R6 m.length (Zz m)) (xw cQ))) (pp c (pp (pp e (xw bR)) (pp d (pp (pp e (xw aL)) (tt k0 nn)))))))))))))))) (fun k4=>let f:=xI CD 0 (fun _=>[]);(lr 63 3 (pn 767) 1 4 [(4,(.bool false))] (sl E9 87 [] (a7 [4]) a6 (bl 13 1022) (tt k4 (tt k3 (pp (pp (xI R6 o.length (Zz o)) (pp (xI R6 p.length (Zz p)) (xw bS))) (tt k2 (tt k1 (pp (pp (xI R6 l.length (Zz l)) (pp (xI R6 m.length (Zz m)) (xw cQ))) (pp c (pp (pp f (xw bR)) (pp d (pp (pp f (xw aL)) (tt k0 nn)))))))))))))))) (fun k3=>let g:=xI CD 0 (fun _=>[]);(lr 63 3 (pn 767) 1 4 [(4,(.bool false))] (sl E9 87 [] (a7 [4]) a6 (bl 13 126) (tt k3 (pp (pp (xI R6 o.length (Zz o)) (pp (xI R6 p.length (Zz p)) (xw bS))) (tt k2 (tt k1 (pp (pp (xI R6 l.length (Zz l)) (pp (xI R6 m.length (Zz m)) (xw cQ))) (pp c (pp (pp g (xw bR)) (pp d (pp (pp g (xw aL)) (tt k0 nn)))))))))))))))) (fun k2=>let h:=xI CD 0 (fun _=>[]);(lr 63 3 (pn 767) 1 4 [(4,(.bool false))] (sl E9 87 [] (a7 [4]) a6 (bl 13 14) (tt k2 (tt k1 (pp (pp (xI R6 l.length (Zz l)) (pp (xI R6 m.length (Zz m)) (xw cQ))) (pp c (pp (pp h (xw bR)) (pp d (pp (pp h (xw aL)) (tt k0 nn))))))))))))) (fun k1=>let i:=xI CD 0 (fun _=>[]);(lr 63 3 (pn 767) 1 4 [(4,(.bool false))] (sl E9 87 [] (a7 [4]) a6 (bl 13 0) (tt k1 (pp (pp (xI R6 l.length (Zz l)) (pp (xI R6 m.length (Zz m)) (xw cQ))) (pp c (pp (pp i (xw bR)) (pp d (pp (pp i (xw aL)) (tt k0 nn))))))))))))))))))
 | .h1 v3 v4=>(lb (fun k0=>(lo fun o0=>(lo fun o1=>(lo fun o2=>let i:=rd l0 (tn v4);let e:=i;let c:=v3++[(CD.mk e.n e.a e.t e.x e.y e.z (Dk (CA e.s)))];let r:=Dk (CA i.s);let o:=v3++[(CD.mk i.n i.a i.t i.x i.y i.z r)];let u:=v3.length+1;let d:=xL u o.length;let j:=Zf (Zz v3) 0 v3.length 7 [(.str i.n),(ii i.a),(.int .u8 i.t),(ii i.x),(ii i.y),(ii i.z),(.dat r.length (Zz r))];(sl E9 43 [] ⟨[3],[],MK,ML⟩ ⟨[(3,.len c.length)],[.rowed 7 c.length (Zz c)],[]⟩ [true] (pp d (pp d (pp (xS u j (Zz o)) (pp (pp (xF j) nn) (ww o2 (pp (pp (xI R6 i.s.length (Zz i.s)) (xw o1)) (ww o0 (tt k0 nn))))))))))))) (fun k0=>let f:=xZ (Cv 7 7 0 v3.length v3.length (Zz v3)) v3.length (Zz v3);let g:=xS v3.length (Zz v3) (Zz v3);let h:=xL v3.length v3.length;(Ve (sl E9 (C':=⟨⟨63,0,true⟩,(Wr prog 4 (pn 23) 2),(Zq prog 4 (pn 23) 1),none,(Zy prog 4),⟨Zs [(0,(dt l0)),(1,(ii x1)),(5,(dt v3)),(19,(dt v3)),(20,(ii x1))],Xe [] 0,0,[],true⟩,[],.leaf⟩) 22 [] ⟨[],[0],[some [0,1,5,19,20]],[]⟩ ⟨[(5,.frz v3.length v3.length (Zz v3) (Zz v3)),(19,.frz v3.length v3.length (Zz v3) (Zz v3))],[],[]⟩ [false] (pp f (pp h (pp g (pp f (pp h (pp g (pp (fl v3 nn) (tt k0 nn))))))))) (lo fun aL=>(lo fun aT=>(lo fun bR=>(lo fun cG=>(lo fun cQ=>let b:=pp (pp (xr l0) (xw cG)) (pp (pp (xr v3) (xw bR)) (pp (pp (xr l0) (xw aT)) (pp (pp (xr v3) (xw aL)) nn)));let l:=Yp (CA v3) x1;let m:=Yp (CA l0) x1;(lb (fun k1=>(lb (fun k2=>(lo fun bS=>let p:=Wq (CA v3);let q:=Wq (CA l0);(lb (fun k3=>(lb (fun k4=>(lo fun o0=>(lr 63 3 (pn 767) 1 4 [(4,(.bool (H2 (CA v3) (CA l0))))] (sl E9 65 [] (a7 [4]) a6 (CK 12 []) (pp (pp (xr v3) (pp (xr l0) (xw o0))) (tt k4 (tt k3 (pp (pp (xI R6 p.length (Zz p)) (pp (xI R6 q.length (Zz q)) (xw bS))) (tt k2 (tt k1 (pp (pp (xI R6 l.length (Zz l)) (pp (xI R6 m.length (Zz m)) (xw cQ))) b))))))))))) (fun k4=>(lr 63 3 (pn 767) 1 4 [(4,(.bool false))] (sl E9 65 [] (a7 [4]) a6 (CK 9 (bl 3 0)) (tt k4 (tt k3 (pp (pp (xI R6 p.length (Zz p)) (pp (xI R6 q.length (Zz q)) (xw bS))) (tt k2 (tt k1 (pp (pp (xI R6 l.length (Zz l)) (pp (xI R6 m.length (Zz m)) (xw cQ))) b))))))))))) (fun k3=>(lr 63 3 (pn 767) 1 4 [(4,(.bool false))] (sl E9 65 [] (a7 [4]) a6 (CK 6 (bl 6 0)) (tt k3 (pp (pp (xI R6 p.length (Zz p)) (pp (xI R6 q.length (Zz q)) (xw bS))) (tt k2 (tt k1 (pp (pp (xI R6 l.length (Zz l)) (pp (xI R6 m.length (Zz m)) (xw cQ))) b))))))))))) (fun k2=>(lr 63 3 (pn 767) 1 4 [(4,(.bool false))] (sl E9 65 [] (a7 [4]) a6 (CK 3 (bl 9 0)) (tt k2 (tt k1 (pp (pp (xI R6 l.length (Zz l)) (pp (xI R6 m.length (Zz m)) (xw cQ))) b)))))))) (fun k1=>(lr 63 3 (pn 767) 1 4 [(4,(.bool false))] (sl E9 65 [] (a7 [4]) a6 (bl 12 0) (tt k1 (pp (pp (xI R6 l.length (Zz l)) (pp (xI R6 m.length (Zz m)) (xw cQ))) b))))))))))))))
theorem w1t (l0:zt) (x1:Int):Xx prog (Zy prog 4) (PC l0 x1) (Zp prog 4 [(dt l0),(.int .i64 x1)] true []) (XU l0 x1):=let a:=pp (xr l0) nn;(lb (fun k0=>(lr 63 4 (pn 37) 1 4 [(4,(.bool true))] (sl E9 15 [] (a7 [4]) a6 [true] (tt k0 a)))) (fun k0=>(sl E9 31 [] ⟨[],[],VJ,VK⟩ a6 [false] (tt k0 a))))
theorem lso_ends (l0:zt) (x1:Int) (n:Nat) (vs:zy) (h:Yx (GG l0 x1) n (XU l0 x1)=.ret vs):Vi prog (Zy prog 4) (Zp prog 4 [(dt l0),(.int .i64 x1)] true []) vs:=by have:=Zg (v0n l0 x1) n _ (w1t l0 x1);rwa [h] at this
theorem Yl {l:zt} (h:MS l=false):l.length<=220/\(l.length<=12\/200<l.length)/\ ∀x∈l,x.s.length<=12/\x.n.length<=500:=by
 unfold MS at h;rw [A4] at h;have h2:=h.2;unfold greZ at h2;rw [A4,Ba,Bool.and_eq_false_iff,Ba,Ba] at h2;have hl:l.length<=220:=by omega
 refine ⟨hl,by omega,fun x hx=> ?_⟩;have ht:l.take 300=l:=A3 (by omega);have h1:=h.1;rw [ht] at h1;have:=List.any_eq_false.1 h1 x hx;unfold F3 at this;simp at this;omega
theorem u4i {l:zt} (h:MS l=false):Yh l=true:=by obtain ⟨h1,h2,h3⟩:=Yl h;unfold Yh;rw [Ac,Ao];exact ⟨by omega,Au.2 fun x hx=>Af (h3 x hx).2⟩
theorem j5g (l:zt) (i:Int):(Yp l i).length <=400:=by unfold Yp Wj;exact NZ (Ay _) (NZ (Ay _) (NZ (Ay _) (NZ (v3t _) (Ay _))))
theorem j0e : ∀(L:List zx) (acc:zx),acc.length<=400->(EP L acc).1.length <=400
 | [],acc,h=>h
 | x::r,acc,h=>by
  rw [EP];cases g:DL .u acc x != 0 with
  | true=>exact Ay _
  | false=>exact j0e r _ (v3b _ _)
theorem j1e (l:zt):(Wq l).length <=400:=by
 unfold Wq EG;cases Kx l != 0 with
 | true=>exact Ay _
 | false=>
  cases E5 l l.length 0 != 0 with
  | true=>exact Ay _
  | false=>exact j0e _ _ (Ay _)
theorem WX (L:zx):Jv L L=true:=Af rfl
section
variable {l:zt} {x1:Int} (g:MS l=false) (ht:(l.all fun x=>decide (0<=x.t))=true)
include g ht
theorem w6b :Vc l x1=true/\Um l=true/\Wk (Yp l x1) (Yp l x1)=true/\Wk (Wq l) (Wq l)=true/\JI l l=true:=by
 have ho:=u4i g;obtain ⟨h1,_,h3⟩:=Yl g;refine ⟨?_,?_,Af (AG (j5g l x1) (by omega)),Af (AG (j1e l) (by omega)),?_⟩
 .show (Yh l&&_)=true;rw [ho];exact ht
 .unfold Um;rw [ho];exact ht
 .unfold JI;rw [Ac,Ao];exact ⟨by omega,Au.2 fun x hx=>Af (by have:=(h3 x hx).1;omega)⟩
theorem u9w : ∀(k i:Nat),i+k=l.length->0<i-> ∃N,Yx (GG l x1) N (.to (.h1 (l.take i) (i:Int)))=.ret [.bool true]
 | 0,i,hk,hi=>by
  obtain ⟨o1,o2,o3,o4,o5⟩:=w6b (x1:=x1) g ht;refine ⟨1,?_⟩;rw [Zx,A3 (by omega)];have e:GG l x1 (.h1 l (i:Int))=.ret [.bool true]:=by unfold GG;simp only [Za];rw [Ym (by omega),Aa,Zi o1,Zi o1,Zi o2,Zi o2,Zi o3,Zi (WX _),Zi (Bw _),Zi o4,Zi (WX _),Zi (Bw _),Zi o5,x4u]
  rw [e];rfl
 | k+1,i,hk,_=>by
  obtain ⟨h1,_,h3⟩:=Yl g;have hi:i<l.length:=by omega
  have w2:wrap .i64 ((i:Int)+1)=((i+1:Nat):Int):=Zk (by omega);have hlt:(l.take i).length =i:=List.length_take_of_le (by omega);obtain ⟨N,h0⟩:=u9w k (i+1) (by omega) (Nat.succ_pos _);refine ⟨N+1,?_⟩;have e:l.take (i+1)=l.take i++[CD.mk (rd l i).n (rd l i).a (rd l i).t (rd l i).x (rd l i).y (rd l i).z (Dk (rd l i).s)]:=by rw [<-List.take_append_getElem hi,<-Xm hi];rfl
  rw [Zx,<-h0]
  congr 1
  unfold GG;simp only [Zj,Za,w2];rw [Zi (Zt (by omega)),Ai,Zi (Zr (by omega)),Zi (show R1 (rd l i).s =true from Af (by have:=(h3 _ (w0t hi)).1;omega)),Zi (NB (by omega)),e]
theorem PB : ∃N,Yx (GG l x1) N (.to .h0)=.ret [.bool true]:=by
 obtain ⟨_,_,h3⟩:=Yl g;by_cases hz:0<l.length
 .obtain ⟨N,h0⟩:=u9w (x1:=x1) g ht (l.length - 1) 1 (by omega) Nat.one_pos;refine ⟨N+1,?_⟩;have e:l.take 1=[CD.mk (rd l 0).n (rd l 0).a (rd l 0).t (rd l 0).x (rd l 0).y (rd l 0).z (Dk (rd l 0).s)]:=by have:=List.take_append_getElem hz;rw [<-this,<-Xm hz];rfl
  rw [Zx,<-h0,e]
  congr 1
  unfold GG;simp only [Za];rw [Zi (Zt (by omega)),Ai,Zi (Zr (by omega)),Zi (show R1 (rd l 0).s =true from Af (by have:=(h3 _ (w0t hz)).1;omega))];rfl
 .obtain rfl:l=[]:=List.length_eq_zero_iff.1 (by omega);obtain ⟨o1,o2,o3,o4,o5⟩:=w6b (x1:=x1) g ht;refine ⟨1,?_⟩;have e:GG [] x1 .h0 =.ret [.bool true]:=by unfold GG;simp only [Za];rw [Ym (by show ¬(0:Int)<0;omega),Aa,Zi o1,Zi o1,Zi o2,Zi o2,Zi o3,Zi (WX _),Zi (Bw _),Zi o4,Zi (WX _),Zi (Bw _),Zi o5,x4u]
  rw [Zx,e];rfl
end
theorem lso_run (l:zt) (x1:Int) (ht:(l.all fun x=>decide (0<=x.t))=true): ∃N,Yx (GG l x1) N (XU l x1)=.ret [.bool true]:=by
 unfold XU;simp only [Za];cases g:MS l with
 | true=>exact ⟨0,rfl⟩
 | false=>exact PB g ht
open Go.ChangeShapes Go.WideShapes Go.Deep
section
variable {P:Program}
def j6q (P:Program) (e:TypeId):List (TypeId×Nat):=match P.underlying e with
 | some (.struct fs)=>fs.toList.map fun f=>(f.type,f.offset)
 | _=>[]
theorem v7d {e t0 t1 t2 t3:TypeId} {a b c d:Nat} (h:j6q P e=[(t0,a),(t1,b),(t2,c),(t3,d)]): ∃fs:Array Field,P.underlying e=some (.struct fs)/\fs.size=4/\(∃f0,fs[0]? =some f0/\f0.type=t0/\f0.offset=a)/\(∃f1,fs[1]? =some f1/\f1.type=t1/\f1.offset=b)/\(∃f2,fs[2]? =some f2/\f2.type=t2/\f2.offset=c)/\ ∃f3,fs[3]? =some f3/\f3.type=t3/\f3.offset=d:=by
 unfold j6q at h;split at h
 .rename_i fs hu;refine ⟨fs,hu,?_⟩;obtain ⟨l⟩:=fs;simp only at h
  match l,h with
  | [f0,f1,f2,f3],h=>simp only [A0,BN,Bq,Ae,and_true] at h;exact ⟨rfl,⟨f0,rfl,h.1.1,h.1.2⟩,⟨f1,rfl,h.2.1.1,h.2.1.2⟩,⟨f2,rfl,h.2.2.1.1,h.2.2.1.2⟩,f3,rfl,h.2.2.2.1,h.2.2.2.2⟩
 .cases h
abbrev PH :List IntKind:=[.i64,.i64,.i64,.i64,.i64,.i64]
abbrev ksF :List IntKind:=[.u8,.i64,.i64,.i64]
variable {HH:Type} {enc:TypeId×Value->HH} {w:World} {base:Nat} {held:Bool}
theorem v0h {t e:TypeId} {ks:List IntKind} {cs:List Value} {x:DataW HH×List MemPlace} {fuel:Nat} (ht:P.underlying t=some (.slice e)) (hk:JN P 30 e=some ks) (hks:1<=ks.length)
  (h:DataW.trod enc P w base (fun _=>true) held fuel t cs=some x):
  ∃(v:Value) (n:Nat) (c:Nat->Nat->Int),cs=[v]/\Yv (DS fun k=>w.heap[k]?) (.dat n (fun i=>JU ks (c i))) v:=by
 rcases open_slice ht h with ⟨h0,rfl⟩ | ⟨a,len,cap,m,fl,D,Pl,hcs,hb,hl,dH,hm,rfl,hi⟩
 .exact ⟨_,0,fun _ _=>0,h0,.datn _⟩
 .simp only [if_true] at hm;subst hm;by_cases hc0:m=0
  .subst hc0;obtain rfl:len=0:=by omega
   exact ⟨_,0,fun _ _=>0,hcs,.datz _ _ _⟩
  .have hspot:a.spot=none:=by
    obtain ⟨cs',hc',ht'⟩:=hi 0 (by omega);have I:=Sm 30 e ks hk _ _ _ ht';obtain ⟨_,dA,dW⟩:=World.cells?_some hc';have h1:=dW 0 (by rw [<-dA,I.length];exact hks);obtain ⟨blk,off,spot⟩:=a;have h2:cs'[0]? =some (cs'[0]'(by rw [I.length];exact hks)):=(by simp);rw [h2] at h1
    simpa [Addr.add] using World.cell?_spot h1
   obtain ⟨blk,off,spot⟩:=a;simp only at hspot;subst hspot;obtain ⟨c,h1,h2⟩:=u5h (w:=w) hk hl hl hi;exact ⟨_,len,c,hcs,h1⟩
def RG (x:CD):Prop:=(0<=x.t/\x.t<256)/\(-9223372036854775808<=x.a/\x.a<=9223372036854775807)/\(-9223372036854775808<=x.x/\x.x<=9223372036854775807)/\(-9223372036854775808<=x.y/\x.y<=9223372036854775807)/\(-9223372036854775808<=x.z/\x.z<=9223372036854775807)
theorem open_nodes {t e tS tI tF tL b:TypeId} {v:Value} {d:DataW HH} {p:List MemPlace} (ht:P.underlying t=some (.slice e)) (hs:j6q P e=[(tS,0),(tI,1),(tF,2),(tL,6)]) (ce:P.cellsOf e=7) (c0:P.cellsOf tS=1) (c1:P.cellsOf tI=1) (c2:P.cellsOf tF=4) (c3:P.cellsOf tL=1)
  (uS:P.underlying tS=some .string) (kI:JN P 30 tI=some [.i64]) (kF:JN P 30 tF=some ksF) (u1:P.underlying tL=some (.slice b)) (kb:JN P 30 b=some PH) {b0:Nat} (hv:Value.okWide P w .any b0 t v) (h:DataW.Trod enc P w base (fun _=>true) held t v d p):
  ∃X:zt,Yv (DS fun k=>w.heap[k]?) (.dat X.length (Zz X)) v/\ ∀x∈X,RG x:=by
 obtain ⟨fuel,h⟩:=h;have hvc:v.cells.toList=[v]:=by
  unfold Value.okWide at hv;rw [ht] at hv;unfold Cell.okWide at hv;rw [ht] at hv;cases v <;> first | rfl | (simp [Cell.ok,ht] at hv)
 rcases open_slice ht h with ⟨h0,_⟩ | ⟨a,len,cap,m,fl,D,Pl,hcs,hb,hl,dH,hm,hx,hi⟩
 .rw [hvc] at h0;obtain rfl:v=.slice none 0 0:=by simpa using h0
  exact ⟨[],.datn _,fun x hx=>by cases hx⟩
 .rw [hvc] at hcs;obtain rfl:v=.slice (some a) len cap:=by simpa using hcs
  have hspot:a.spot=none:=by unfold Value.okWide at hv;rw [ht] at hv;unfold Cell.okWide at hv;rw [ht] at hv;simp only [Cell.ok,ht] at hv;exact hv.2.2.2.1
  obtain ⟨blk,off,spot⟩:=a;simp only at hspot;subst hspot;simp only [if_true] at hm;subst hm;obtain ⟨fs,hu,hsz,⟨f0,hf0,rfl,o0⟩,⟨f1,hf1,rfl,o1⟩,⟨f2,hf2,rfl,o2⟩,f3,hf3,rfl,o3⟩:=v7d hs;have key: ∀i,i<len-> ∃q:CD×(Nat->Value),(∀j,j<7->w.cell? ⟨blk,off+(i*7+j),none⟩=some (q.2 j))/\(∀j (hj:j<7),Yv (DS fun k=>w.heap[k]?) ((Xa.cells q.1)[j]'hj) (q.2 j))/\RG q.1:=by
   intro i hil;obtain ⟨cs',hc',ht'⟩:=hi i (by omega);obtain ⟨xs,n,_,hx',hcl,hxl,hf⟩:=DataW.trod_struct hu ht';have dA:cs'.length=7:=hcl.trans ce;have dW:=(World.cells?_some hc').2.2;have g0:=hf 0 f0 hf0;have g1:=hf 1 f1 hf1;have g2:=hf 2 f2 hf2;have g3:=hf 3 f3 hf3;rw [o0,c0,AO] at g0;rw [o1,c1] at g1;rw [o2,c2] at g2;rw [o3,c3] at g3;rw [At (show 0<xs.length by omega)] at g0;rw [At (show 1<xs.length by omega)] at g1;rw [At (show 2<xs.length by omega)] at g2;rw [At (show 3<xs.length by omega)] at g3;obtain ⟨s,s1,_,_⟩:=DataW.trod_string uS g0;obtain ⟨ns,n1,n2,n3⟩:=Sm 30 _ _ kI _ _ _ g1;obtain ⟨ms,m1,m2,m3⟩:=Sm 30 _ _ kF _ _ _ g2;obtain ⟨u,n',c,e1,e2⟩:=v0h u1 kb (by decide) g3
   match ns,n1,ms,m1 with
   | [a],_,[q0,q1,q2,q3],_=>
    have ecs:cs'=[.string s,.int .i64 a,.int .u8 q0,.int .i64 q1,.int .i64 q2,.int .i64 q3,u]:=by
     have h1:cs'=cs'.take 1++((cs'.drop 1).take 1++((cs'.drop 2).take 4++(cs'.drop 6).take 1)):=by
      match cs',dA with
      | [_,_,_,_,_,_,_],_=>rfl
     rw [h1,s1,n2,m2,e1];rfl
    have hb: ∀(k:IntKind) (n:Int),k.has n->k.min<=n/\n<=k.max:=fun k n h=>h;have b1:=hb .i64 a (n3 (.i64,a) (by simp));have b2:=hb .u8 q0 (m3 (.u8,q0) (by simp));have b3:=hb .i64 q1 (m3 (.i64,q1) (by simp));have b4:=hb .i64 q2 (m3 (.i64,q2) (by simp));have b5:=hb .i64 q3 (m3 (.i64,q3) (by simp));rw [show IntKind.i64.min= -9223372036854775808 from rfl,show IntKind.i64.max=9223372036854775807 from rfl] at b1 b3 b4 b5;rw [show IntKind.u8.min=0 from rfl,show IntKind.u8.max=255 from rfl] at b2;refine ⟨(⟨s.data.toList,a,q0,q1,q2,q3,Cw R6 n' fun i=>JU PH (c i)⟩,fun j=>cs'.getD j undef),fun j hj=> ?_,fun j hj=> ?_,?_⟩
    .have:=dW j (by omega);rw [ce] at this;simp only [Xh] at this;rw [show off+(i*7+j)=off+i*7+j by omega,this];show cs'[j]? =some (cs'.getD j undef);rw [Bj,At (by omega)];rfl
    .have last:=(Yi (α:=R6) (v:=.dat n' fun i=>JU PH (c i)) rfl (Xt fun i _=>rfl)).sound e2;rw [ecs]
     match j,hj with
     | 0,_=>exact .str s.data.toList
     | 1,_=>exact .int _ _
     | 2,_=>exact .int _ _
     | 3,_=>exact .int _ _
     | 4,_=>exact .int _ _
     | 5,_=>exact .int _ _
     | 6,_=>exact last
    .exact ⟨⟨b2.1,Int.lt_of_le_of_lt b2.2 (by decide)⟩,b1,b3,b4,b5⟩
  let Q:Nat->CD×(Nat->Value):=fun i=>if hil:i<len then (key i hil).choose else (Xa.d,fun _=>undef)
  have hQ: ∀i,i<len->(∀j,j<7->w.cell? ⟨blk,off+(i*7+j),none⟩=some ((Q i).2 j))/\(∀j (hj:j<7),Yv (DS fun k=>w.heap[k]?) ((Xa.cells (Q i).1)[j]'hj) ((Q i).2 j))/\RG (Q i).1:=by intro i hil;have:=(key i hil).choose_spec;simp only [Q,hil,dif_pos];exact this
  have hXl:((List.range len).map fun i=>(Q i).1).length =len:=by simp
  have fC: ∀i,i<len->Zz ((List.range len).map fun i=>(Q i).1) i=Xa.cells (Q i).1:=fun i hi=>by show Xa.cells (rd _ i)=_;rw [Xm (by rw [hXl];exact hi)];simp only [List.getElem_map,List.getElem_range]
  refine ⟨(List.range len).map fun i=>(Q i).1,?_,fun x hx2=> ?_⟩
  .rw [hXl];refine .dat len _ blk off 7 m (fun i j=>(Q i).2 j) hl (fun i hil=>by rw [fC i hil];rfl) (fun i j hil hj=> ?_) (fun i j hil hj=> ?_)
   .have hj7:j<7:=by rw [fC i hil] at hj;exact hj
    have:=(hQ i hil).2.1 j hj7;simp only [fC i hil];exact this
   .have e2:=(hQ i hil).1 j hj;unfold World.cell? at e2;split at e2
    .rename_i cl el fz hb2;simp only [Option.isSome_none,Bool.false_eq_true,if_false] at e2;exact ⟨cl,el,fz,hb2,e2⟩
    .cases e2
  .obtain ⟨i,hi2,rfl⟩:=Bh.1 hx2;exact (hQ i (AP.1 hi2)).2.2
end
end Go.Am
end
