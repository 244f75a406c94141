/- A part of a proof: several texts in one. -/
import Derived.Test.YtmanggcjimaehaaGreatLd5
set_option maxRecDepth 1000000
set_option maxHeartbeats 8000000
set_option linter.unusedVariables false
set_option linter.unusedSimpArgs false
noncomputable section
namespace Go.Am
open Go.Proofs.Tryz
open Go.Proofs
open Go.Sort Go.Shelf Go.RowKit Go.Lib
theorem y8c {l:List R6} (h:(Yr l != 0)=false):l.length≤400:=by
 refine Classical.byContradiction fun g=> ?_;have h:Yr l=0:=by simpa using h
 unfold Yr at h;rw [decide_eq_true (by omega)] at h;cases h
def sfA (r:R6):Int:=2*((r.d - r.a)*(r.e - r.b)+(r.d - r.a)*(r.f - r.c)+(r.e - r.b)*(r.f - r.c))
def kR (r s:R6):Int:=kntV r.a r.b r.c r.d r.e r.f s.a s.b s.c s.d s.e s.f
def rowS (l:List R6) (i:Nat):Int:=sfA (rd l i) - sm (Wc l 0 i) fun s=>2*kR (rd l i) s
def sfS (l:List R6):Nat→Int
 | 0=>0
 | k+1=>sfS l k+rowS l k
theorem u2a (l:List R6) (hl:l.length≤400) (i:Nat) (hi:i<l.length) (r:R6): ∀(k j:Nat) (S:Int),j+k=(Wc l 0 i).length →
  ∃n,∀N,Yv (z0f l) (N+n) (.to (.h1 (IntKind.wrap .i64 S) (i:Int) (Wc l 0 i) (i:Int) (j:Int) r.a r.b r.c r.d r.e r.f))=Yv (z0f l) N (.to (.h0 (IntKind.wrap .i64 (S - sm ((Wc l 0 i).drop j) fun s=>2*kR r s)) ((i+1:Nat):Int)))
 | 0,j,S,h=>by refine ⟨1,fun N=> ?_⟩;have e:(Wc l 0 i).length =i:=Jn ..;rw [List.drop_eq_nil_of_le (by omega),Zv,z1o,Int.sub_zero];simp (disch:=omega) only [z0f,Yx,Zq,Zx,cond_false]
 | k+1,j,S,h=>by
  have e:(Wc l 0 i).length =i:=Jn ..;obtain ⟨n,hn⟩:=u2a l hl i hi r k (j+1) (S - 2*kR r (rd (Wc l 0 i) j)) (by omega);refine ⟨n+1,fun N=> ?_⟩;have hn:=hn N;rw [Ym (show j<(Wc l 0 i).length by omega),Xf,←Nat.add_assoc,Zv];have w:IntKind.wrap .i64 (IntKind.wrap .i64 S - IntKind.wrap .i64 (2*kR r (rd (Wc l 0 i) j)))=IntKind.wrap .i64 (S - 2*kR r (rd (Wc l 0 i) j)):=Cg.eq ((Cg.wrap S).sub (Cg.wrap _));have k':kntV r.a r.b r.c r.d r.e r.f (rd (Wc l 0 i) j).a (rd (Wc l 0 i) j).b (rd (Wc l 0 i) j).c (rd (Wc l 0 i) j).d (rd (Wc l 0 i) j).e (rd (Wc l 0 i) j).f =kR r (rd (Wc l 0 i) j):=rfl;have g1:decide ((j:Int)<(i:Int))=true:=decide_eq_true (by omega);have g2:decide (0≤(j:Int)∧(j:Int)<(((Wc l 0 i).length :Nat):Int))=true:=decide_eq_true (by omega);have w3:IntKind.wrap .i64 ((j:Int)+1)=((j+1:Nat):Int):=by rw [Zq (by omega)];rfl
  simp only [z0f,g1,g2,w3,Zj,k',w,Bool.and_true,cond_true];rw [show S - (2*kR r (rd (Wc l 0 i) j)+sm ((Wc l 0 i).drop (j+1)) fun s=>2*kR r s)=S - 2*kR r (rd (Wc l 0 i) j) - sm ((Wc l 0 i).drop (j+1)) fun s=>2*kR r s by omega];exact hn
theorem u2b (l:List R6) (hl:l.length≤400): ∀(k i:Nat),i+k=l.length→ ∃n,Yv (z0f l) n (.to (.h0 (IntKind.wrap .i64 (sfS l i)) (i:Int)))=.ret [.int .i64 (IntKind.wrap .i64 (sfS l l.length)),.int .i64 0]
 | 0,i,h=>by
  refine ⟨1,?_⟩;have:i=l.length:=by omega
  subst this;rw [Zv];simp (disch:=omega) only [z0f,Yx,cond_false,Zm]
 | k+1,i,h=>by
  have hi:i<l.length:=by omega
  have e:(Wc l 0 i).length =i:=Jn ..;obtain ⟨n,hn⟩:=u2b l hl k (i+1) (by omega);obtain ⟨n1,h1⟩:=u2a l hl i hi (rd l i) i 0 (sfS l i+sfA (rd l i)) (by omega);refine ⟨n+n1+1,?_⟩;rw [Zv];have w:IntKind.wrap .i64 (IntKind.wrap .i64 (sfS l i)+IntKind.wrap .i64 (2*IntKind.wrap .i64 (IntKind.wrap .i64 (IntKind.wrap .i64 (IntKind.wrap .i64 ((rd l i).d - (rd l i).a)*IntKind.wrap .i64 ((rd l i).e - (rd l i).b))+IntKind.wrap .i64 (IntKind.wrap .i64 ((rd l i).d - (rd l i).a)*IntKind.wrap .i64 ((rd l i).f - (rd l i).c)))+IntKind.wrap .i64 (IntKind.wrap .i64 ((rd l i).e - (rd l i).b)*IntKind.wrap .i64 ((rd l i).f - (rd l i).c)))))=IntKind.wrap .i64 (sfS l i+sfA (rd l i)):=
   Cg.eq ((Cg.wrap _).add (Cg.w ((Cg.refl 2).mul (Cg.w ((Cg.w ((Cg.w ((Cg.wrap _).mul (Cg.wrap _))).add (Cg.w ((Cg.wrap _).mul (Cg.wrap _))))).add (Cg.w ((Cg.wrap _).mul (Cg.wrap _))))))))
  have hs:z0f l (.h0 (IntKind.wrap .i64 (sfS l i)) (i:Int))=.to (.h1 (IntKind.wrap .i64 (sfS l i+sfA (rd l i))) (i:Int) (Wc l 0 i) (i:Int) 0 (rd l i).a (rd l i).b (rd l i).c (rd l i).d (rd l i).e (rd l i).f):=by have g1:decide ((i:Int)<(l.length:Int))=true:=decide_eq_true (by omega);have g2:decide (0≤(i:Int)∧(i:Int)<(l.length:Int))=true:=decide_eq_true (by omega);have g3:decide (0≤i)=true:=decide_eq_true (by omega);have g4:decide (i≤l.length)=true:=decide_eq_true (by omega);have g5:decide (0≤(i:Int))=true:=decide_eq_true (by omega);simp only [z0f,g1,g2,g3,g4,g5,Zj,w,Bool.and_true,cond_true]
  rw [hs];have h1:=h1 n;rw [z4u] at h1;rw [h1,List.drop_zero,show sfS l i+sfA (rd l i) - (sm (Wc l 0 i) fun s=>2*kR (rd l i) s)=sfS l (i+1) from Int.add_sub_assoc ..];exact hn
def y0w (l:List R6):Int:=bif Yr l != 0 then 0 else IntKind.wrap .i64 (sfS l l.length)
def x3h (l:List R6):Int:=Yr l
def z7c (l:List R6):Bool:=true
theorem u7c (l:List R6) (h:z7c l=true): ∃n,Yv (z0f l) n (y2f l)=.ret [.int .i64 (y0w l),.int .i64 (x3h l)]:=by
 unfold y2f y0w x3h;simp only [Za,show Uf l=true from rfl,cond_true];rcases Ye (Yr l != 0) with q1 | q1
 ·exact ⟨0,by simp only [q1,cond_true];rfl⟩
 ·obtain ⟨n,hn⟩:=u2b l (y8c q1) l.length 0 (Nat.zero_add _);refine ⟨n,?_⟩;simp only [q1,cond_false];rw [show Yr l=0 by simpa using q1];exact hn
def fSls :List AVal→Option (AVal×Bool)
 | [a0]=>match asL R6 a0 with
  | some (L0,g0,n0)=>some (.tup [.int .i64 (y0w L0),.int .i64 (x3h L0)],isT R6 n0 g0&&(z7c L0))
  | _=>none
 | _=>none
theorem j1c {S:Specs} (hS:Zu prog S):Zu prog (S.with v1v fSls):=by
 refine z2d hS (by kernel_rfl) fun args v h=> ?_;unfold fSls at h;split at h
 ·rename_i a0;split at h
  ·rename_i L0 g0 n0 e0;simp only [Option.some.injEq,Prod.mk.injEq,Bool.and_eq_true] at h;obtain ⟨rfl,ho0,hw⟩:=h;obtain ⟨N,hN⟩:=u7c L0 hw;exact ⟨_,_,(.cons (asL_le e0 ho0) .nil),rfl,v6k L0 N _ hN,3,rfl⟩
  ·cases h
 ·cases h
end Go.Am
namespace Go.Am
open Go.Proofs.Tryz
open Go.Proofs
inductive mpzS where
 | h0 (v15:List Int) (v32:Int)
 | h1 (v15:List Int) (v20:Int) (v21:Int) (v22:Int) (v23:Int)
abbrev Qb (v15:List Int):=(Xm (Yw v15.length (cOf (Zz v15))))
abbrev y8z (v15:List Int) (l1:List R6) (v32:Int):=(Zi (Zz v15) 0 v15.length 1 [(ii (rd l1 (tn v32)).c)])
abbrev z1u (v15:List Int) (l1:List R6) (v32:Int):=(v15++[(rd l1 (tn v32)).c])
abbrev y8y (v15:List Int) (l1:List R6) (v32:Int):=((z1u v15 l1 v32)++[(rd l1 (tn v32)).f])
abbrev w2z (v15:List Int) (l1:List R6) (v32:Int):=(Zi (Zz v15) 0 v15.length 1 [(ii (rd l1 (tn v32)).f)])
def mpzC (l1:List R6) (x2:Int) (x3:Int) (x4:Int) (x5:Int) (x6:Bool):mpzS→Cfg
 | .h0 v15 v32=>⟨⟨122,0,true⟩,none,(Zd prog 58 [1,1,1,0,1,0,0] 0),none,(Zy prog 58),⟨Yd [(1,(.dat l1.length (Zz l1))),(2,(ii x2)),(3,(ii x3)),(4,(ii x4)),(5,(ii x5)),(6,(.bool x6)),(7,(.ptr 0 0)),(15,(.sla 1 1 0 v15.length (.un 1))),(30,(.dat l1.length (Zz l1))),(31,(ii (l1.length:Int))),(32,(ii v32))],Uw [⟨[(.fn 111 []),(.fn 112 []),(.fn 113 [])],84,none⟩,⟨rows v15.length (Zz v15),3,some ⟨1,v15.length,(Zz v15)⟩⟩] 0,2,[],true⟩,[],.leaf⟩
 | .h1 v15 v20 v21 v22 v23=>⟨⟨122,0,true⟩,none,(Zd prog 58 [1,1,1,1,1,1,1,1,0,1,0,0] 0),none,(Zy prog 58),⟨Yd [(1,(.dat l1.length (Zz l1))),(2,(ii x2)),(7,(.ptr 0 0)),(15,(.sla 1 1 0 v15.length (.un 1))),(20,(ii v20)),(21,(ii v21)),(22,(ii v22)),(23,(ii v23))],Uw [⟨[(.fn 111 []),(.fn 112 []),(.fn 113 [])],84,none⟩,⟨rows v15.length (Zz v15),3,some ⟨1,v15.length,(Zz v15)⟩⟩] 0,2,[],true⟩,[],.leaf⟩
def y6v :List (Option (List Nat)):=[some [1,2,3,4,5,6,7,15,30,31,32]]
def y6w :List (Option (List Nat)):=[]
def v2h :List (Option (List Nat)):=[some [1,2,7,15,20,21,22,23]]
def v2i :List (Option (List Nat)):=[]
def y4q (l1:List R6) (x2:Int) (x3:Int) (x4:Int) (x5:Int) (x6:Bool):mpzS→Xb mpzS
 | .h0 v15 v32=>(bif (decide (v32<(l1.length:Int))) then (bif ((decide (0≤v32∧v32<(l1.length:Int)))&&true) then (bif (decide (x4<(rd l1 v32.toNat).c)) then (bif (decide ((rd l1 v32.toNat).c <x5)) then (bif (Nat.beq 1 1&&((decide (0+v15.length=v15.length))&&decide ((v15.length+1+1)*(8+1)≤Ju))) then (bif (decide (x4<(rd l1 v32.toNat).f)) then (bif (decide ((rd l1 v32.toNat).f <x5)) then (bif (Nat.beq 1 1&&((decide (0+(v15.length+1)=(v15.length+1)))&&decide (((v15.length+1)+1+1)*(8+1)≤Ju))) then (.to (.h0 ((v15++[(rd l1 v32.toNat).c])++[(rd l1 v32.toNat).f]) (IntKind.wrap .i64 (v32+1)))) else .stuck) else (.to (.h0 (v15++[(rd l1 v32.toNat).c]) (IntKind.wrap .i64 (v32+1))))) else (.to (.h0 (v15++[(rd l1 v32.toNat).c]) (IntKind.wrap .i64 (v32+1))))) else .stuck) else (bif (decide (x4<(rd l1 v32.toNat).f)) then (bif (decide ((rd l1 v32.toNat).f <x5)) then (bif (Nat.beq 1 1&&((decide (0+v15.length=v15.length))&&decide ((v15.length+1+1)*(8+1)≤Ju))) then (.to (.h0 (v15++[(rd l1 v32.toNat).f]) (IntKind.wrap .i64 (v32+1)))) else .stuck) else (.to (.h0 v15 (IntKind.wrap .i64 (v32+1))))) else (.to (.h0 v15 (IntKind.wrap .i64 (v32+1)))))) else (bif (decide (x4<(rd l1 v32.toNat).f)) then (bif (decide ((rd l1 v32.toNat).f <x5)) then (bif (Nat.beq 1 1&&((decide (0+v15.length=v15.length))&&decide ((v15.length+1+1)*(8+1)≤Ju))) then (.to (.h0 (v15++[(rd l1 v32.toNat).f]) (IntKind.wrap .i64 (v32+1)))) else .stuck) else (.to (.h0 v15 (IntKind.wrap .i64 (v32+1))))) else (.to (.h0 v15 (IntKind.wrap .i64 (v32+1)))))) else .stuck) else (bif (decide (v15.length<4611686018427387904)) then (bif (decide (v15.length=v15.length)) then (bif (!x6) then (.to (.h1 (Xm (Yw v15.length (cOf (Zz v15)))) (IntKind.wrap .i64 (x3 - 1)) x3 0 1)) else (.to (.h1 (Xm (Yw v15.length (cOf (Zz v15)))) x3 (IntKind.wrap .i64 (x3 - 1)) 0 1))) else .stuck) else .stuck))
 | .h1 v15 v20 v21 v22 v23=>(bif (decide (v23<(v15.length:Int))) then (bif ((decide (0≤(IntKind.wrap .i64 (v23 - 1))∧(IntKind.wrap .i64 (v23 - 1))<(v15.length:Int)))&&true) then (bif (decide ((0+(Int.toNat (IntKind.wrap .i64 (v23 - 1))))<v15.length)) then (bif (z7e (cvT l1) (IntKind.wrap .i64 (x2 - 1)) v20 (rd v15 (0+(Int.toNat (IntKind.wrap .i64 (v23 - 1)))))) then (bif (!(shsV (cvT l1) (IntKind.wrap .i64 (x2 - 1)) v20 (rd v15 (0+(Int.toNat (IntKind.wrap .i64 (v23 - 1))))))) then (bif (z7e (cvT l1) x2 v21 (rd v15 (0+(Int.toNat (IntKind.wrap .i64 (v23 - 1)))))) then (bif (!(shsV (cvT l1) x2 v21 (rd v15 (0+(Int.toNat (IntKind.wrap .i64 (v23 - 1))))))) then (bif ((decide (0≤v23∧v23<(v15.length:Int)))&&true) then (bif (decide ((0+v23.toNat)<v15.length)) then (.to (.h1 v15 v20 v21 (IntKind.wrap .i64 (v22+(IntKind.wrap .i64 ((rd v15 (0+v23.toNat)) - (rd v15 (0+(Int.toNat (IntKind.wrap .i64 (v23 - 1))))))))) (IntKind.wrap .i64 (v23+1)))) else .stuck) else .stuck) else (.to (.h1 v15 v20 v21 v22 (IntKind.wrap .i64 (v23+1))))) else .stuck) else (.to (.h1 v15 v20 v21 v22 (IntKind.wrap .i64 (v23+1))))) else .stuck) else .stuck) else .stuck) else (.ret [(.int .i64 v22)]))
def y2t (l1:List R6) (x2:Int) (x3:Int) (x4:Int) (x5:Int) (x6:Bool):Xb mpzS:=(bif (decide (x4≥x5)) then (.ret [(.int .i64 0)]) else (.to (.h0 ([x4,x5]:List Int) 0)))
theorem w6f (l1:List R6) (x2:Int) (x3:Int) (x4:Int) (x5:Int) (x6:Bool): ∀s,Xv prog (Zy prog 58) (mpzC l1 x2 x3 x4 x5 x6) (mpzC l1 x2 x3 x4 x5 x6 s) (y4q l1 x2 x3 x4 x5 x6 s)
 | .h0 v15 v32=>(lb (fun k0=>(lo fun aF=>(lb (fun k1=>(lb (fun k2=>(lo fun cK=>(lb (fun k3=>(lb (fun k4=>(lo fun o0=>(sl Qu 111 [] ⟨[0,8],[],y6v,y6w⟩ ⟨[(15,.len (y8y v15 l1 v32).length)],[.keep,.rowed 1 (y8y v15 l1 v32).length (Zz (y8y v15 l1 v32))],[]⟩ (bl 15 15867) (pp (xL ((v15.length+1)+1) (y8y v15 l1 v32).length) (pp (xL ((v15.length+1)+1) (y8y v15 l1 v32).length) (pp (xS ((v15.length+1)+1) (Zi (y8z v15 l1 v32) 0 (v15.length+1) 1 [(ii (rd l1 (tn v32)).f)]) (Zz (y8y v15 l1 v32))) (pp (pp (xF (Zi (y8z v15 l1 v32) 0 (v15.length+1) 1 [(ii (rd l1 (tn v32)).f)])) nn) (ww o0 (tt k4 (tt k3 (ww cK (tt k2 (tt k1 (ww aF (tt k0 nn))))))))))))))) (fun k4=>(sl Qu 105 [] ⟨[0,6],[],y6v,y6w⟩ ⟨[(15,.len (z1u v15 l1 v32).length)],[.keep,.rowed 1 (z1u v15 l1 v32).length (Zz (z1u v15 l1 v32))],[]⟩ (bl 15 7675) (pp (xL (v15.length+1) (z1u v15 l1 v32).length) (pp (xL (v15.length+1) (z1u v15 l1 v32).length) (pp (xS (v15.length+1) (y8z v15 l1 v32) (Zz (z1u v15 l1 v32))) (pp (pp (xF (y8z v15 l1 v32)) nn) (tt k4 (tt k3 (ww cK (tt k2 (tt k1 (ww aF (tt k0 nn))))))))))))))) (fun k3=>(sl Qu 105 [] ⟨[0,6],[],y6v,y6w⟩ ⟨[(15,.len (z1u v15 l1 v32).length)],[.keep,.rowed 1 (z1u v15 l1 v32).length (Zz (z1u v15 l1 v32))],[]⟩ (bl 15 507) (pp (xL (v15.length+1) (z1u v15 l1 v32).length) (pp (xL (v15.length+1) (z1u v15 l1 v32).length) (pp (xS (v15.length+1) (y8z v15 l1 v32) (Zz (z1u v15 l1 v32))) (pp (pp (xF (y8z v15 l1 v32)) nn) (tt k3 (ww cK (tt k2 (tt k1 (ww aF (tt k0 nn))))))))))))))) (fun k2=>(lb (fun k3=>(lb (fun k4=>(lo fun o0=>(sl Qu 105 [] ⟨[0,6],[],y6v,y6w⟩ ⟨[(15,.len (v15++[(rd l1 (tn v32)).f]).length)],[.keep,.rowed 1 (v15++[(rd l1 (tn v32)).f]).length (Zz (v15++[(rd l1 (tn v32)).f]))],[]⟩ (bl 15 15803) (pp (xL (v15.length+1) (v15++[(rd l1 (tn v32)).f]).length) (pp (xL (v15.length+1) (v15++[(rd l1 (tn v32)).f]).length) (pp (xS (v15.length+1) (w2z v15 l1 v32) (Zz (v15++[(rd l1 (tn v32)).f]))) (pp (pp (xF (w2z v15 l1 v32)) nn) (ww o0 (tt k4 (tt k3 (tt k2 (tt k1 (ww aF (tt k0 nn)))))))))))))) (fun k4=>(sl Qu 99 [] ⟨[0,1],[],y6v,y6w⟩ ⟨[],[],[]⟩ (bl 15 7611) (pp (fl v15 nn) (tt k4 (tt k3 (tt k2 (tt k1 (ww aF (tt k0 nn))))))))))) (fun k3=>(sl Qu 99 [] ⟨[0,1],[],y6v,y6w⟩ ⟨[],[],[]⟩ (bl 15 443) (pp (fl v15 nn) (tt k3 (tt k2 (tt k1 (ww aF (tt k0 nn)))))))))))) (fun k1=>(lb (fun k2=>(lb (fun k3=>(lo fun o0=>(sl Qu 105 [] ⟨[0,6],[],y6v,y6w⟩ ⟨[(15,.len (v15++[(rd l1 (tn v32)).f]).length)],[.keep,.rowed 1 (v15++[(rd l1 (tn v32)).f]).length (Zz (v15++[(rd l1 (tn v32)).f]))],[]⟩ (bl 15 15747) (pp (xL (v15.length+1) (v15++[(rd l1 (tn v32)).f]).length) (pp (xL (v15.length+1) (v15++[(rd l1 (tn v32)).f]).length) (pp (xS (v15.length+1) (w2z v15 l1 v32) (Zz (v15++[(rd l1 (tn v32)).f]))) (pp (pp (xF (w2z v15 l1 v32)) nn) (ww o0 (tt k3 (tt k2 (tt k1 (ww aF (tt k0 nn))))))))))))) (fun k3=>(sl Qu 99 [] ⟨[0,1],[],y6v,y6w⟩ ⟨[],[],[]⟩ (bl 15 7555) (pp (fl v15 nn) (tt k3 (tt k2 (tt k1 (ww aF (tt k0 nn)))))))))) (fun k2=>(sl Qu 99 [] ⟨[0,1],[],y6v,y6w⟩ ⟨[],[],[]⟩ (bl 15 387) (pp (fl v15 nn) (tt k2 (tt k1 (ww aF (tt k0 nn)))))))))))) (fun k0=>(lo fun aF=>(lo fun aW=>(lb (fun k1=>(sl Qu 45 [] ⟨[0,1],[],v2h,v2i⟩ ⟨[(15,.len (Qb v15).length)],[.keep,.rowed 1 (Qb v15).length (Zz (Qb v15))],[]⟩ (bl 2 2) (pp (xL v15.length (Qb v15).length (Vy (by rw [Ww,Wd]))) (pp (xL v15.length (Qb v15).length (Vy (by rw [Ww,Wd]))) (pp (xS v15.length (Zz (Qb v15)) (Zz (Qb v15))) (pp (fl (Qb v15) nn) (tt k1 (pp (pp (xG (Nat.beq 1 1)) (pp (xG (Nat.beq 1 1)) (pp (xG (Nat.beq 0 0)) (pp (xG (decide (v15.length=v15.length))) (pp (xG (isI (Zz v15))) (xG (decide (v15.length<4611686018427387904)))))))) (tt k0 nn))))))))) (fun k1=>(sl Qu 39 [] ⟨[0,1],[],v2h,v2i⟩ ⟨[(15,.len (Qb v15).length)],[.keep,.rowed 1 (Qb v15).length (Zz (Qb v15))],[]⟩ (bl 2 0) (pp (xL v15.length (Qb v15).length (Vy (by rw [Ww,Wd]))) (pp (xL v15.length (Qb v15).length (Vy (by rw [Ww,Wd]))) (pp (xS v15.length (Zz (Qb v15)) (Zz (Qb v15))) (pp (fl (Qb v15) nn) (tt k1 (pp (pp (xG (Nat.beq 1 1)) (pp (xG (Nat.beq 1 1)) (pp (xG (Nat.beq 0 0)) (pp (xG (decide (v15.length=v15.length))) (pp (xG (isI (Zz v15))) (xG (decide (v15.length<4611686018427387904)))))))) (tt k0 nn))))))))))))))
 | .h1 v15 v20 v21 v22 v23=>(lb (fun k0=>(lo fun aF=>(lo fun aW=>(lo fun bZ=>(lb (fun k1=>(lo fun cG=>(lb (fun k2=>(lo fun o0=>(lo fun o1=>(sl Qu 23 [] ⟨[0,1],[],v2h,v2i⟩ ⟨[],[],[]⟩ (trs 15 []) (pp (fl v15 nn) (ww aW (ww aF (ww o1 (ww o0 (tt k2 (pp (pp (xr l1) (xw cG)) (ww aW (ww aF (tt k1 (pp (pp (xr l1) (xw bZ)) (ww aW (ww aF (tt k0 nn)))))))))))))))))) (fun k2=>(sl Qu 23 [] ⟨[0,1],[],v2h,v2i⟩ ⟨[],[],[]⟩ (trs 14 [false]) (pp (fl v15 nn) (tt k2 (pp (pp (xr l1) (xw cG)) (ww aW (ww aF (tt k1 (pp (pp (xr l1) (xw bZ)) (ww aW (ww aF (tt k0 nn))))))))))))))) (fun k1=>(sl Qu 23 [] ⟨[0,1],[],v2h,v2i⟩ ⟨[],[],[]⟩ (bl 15 1) (pp (fl v15 nn) (tt k1 (pp (pp (xr l1) (xw bZ)) (ww aW (ww aF (tt k0 nn))))))))))))) (fun k0=>(lr 122 3 [1,1,1,1,1,1,1,0] 1 58 [(14,(ii v22))] (sl Qu 15 [] ⟨[],[],[some [14]],[]⟩ ⟨[],[],[]⟩ [false] (tt k0 nn)))))
theorem x8k (l1:List R6) (x2:Int) (x3:Int) (x4:Int) (x5:Int) (x6:Bool):Xv prog (Zy prog 58) (mpzC l1 x2 x3 x4 x5 x6) (Zc prog 58 [(.agg [(.fn 111 []),(.fn 112 []),(.fn 113 [])]),(.dat l1.length (Zz l1)),(.int .i64 x2),(.int .i64 x3),(.int .i64 x4),(.int .i64 x5),(.bool x6)] true []) (y2t l1 x2 x3 x4 x5 x6):=(lb (fun k0=>(lr 122 58 [1,0,1,0,0] 1 58 [(14,(ii 0))] (sl Qu 17 [] ⟨[],[],[some [14]],[]⟩ ⟨[],[],[]⟩ [true] (tt k0 nn)))) (fun k0=>(sl Qu 30 [] ⟨[0,1],[],y6v,y6w⟩ ⟨[(15,.grow 1 1)],[.keep,.rowed 1 ([x4,x5]:List Int).length (Zz ([x4,x5]:List Int))],[]⟩ [false] (pp (xG (x7k [(ii x4),(ii x5)] 1 ([x4,x5]:List Int).length (Zz ([x4,x5]:List Int)))) (tt k0 nn)))))
theorem v8s (l1:List R6) (x2:Int) (x3:Int) (x4:Int) (x5:Int) (x6:Bool) (n:Nat) (vs:List AVal) (h:Yv (y4q l1 x2 x3 x4 x5 x6) n (y2t l1 x2 x3 x4 x5 x6)=.ret vs):Jt prog (Zy prog 58) (Zc prog 58 [(.agg [(.fn 111 []),(.fn 112 []),(.fn 113 [])]),(.dat l1.length (Zz l1)),(.int .i64 x2),(.int .i64 x3),(.int .i64 x4),(.int .i64 x5),(.bool x6)] true []) vs:=by have:=Ze (w6f l1 x2 x3 x4 x5 x6) n _ (x8k l1 x2 x3 x4 x5 x6);rwa [h] at this
end Go.Am
namespace Go.Am
open Go.Proofs.Tryz
open Go.Proofs Go.Sort Go.Shelf Go.RowKit Go.Lib
def Ax.l (q:Ax) (a b c:Int):Int:=match q with
 | .x =>a
 | .y =>b
 | .z =>c
def Ax.u (q:Ax) (a b:Int):Int:=match q with
 | .x =>b
 | .y =>a
 | .z =>a
def Ax.w (q:Ax) (a b:Int):Int:=match q with
 | .x =>b
 | .y =>b
 | .z =>a
def two2 :List R6:=[⟨0,0,0,1,1,1⟩,⟨1,1,0,2,2,1⟩]
def eqT (r s:R6):Bool:=(r.a == s.a)&&((r.b == s.b)&&((r.c == s.c)&&((r.d == s.d)&&((r.e == s.e)&&(r.f == s.f)))))
theorem u5t {r s:R6} (h:eqT r s=true):r=s:=by
 obtain ⟨a,b,c,d,e,f⟩:=r;obtain ⟨a',b',c',d',e',f'⟩:=s
 simpa [eqT] using h
def v9w :List R6→Bool
 | [r,s]=>eqT r ⟨0,0,0,1,1,1⟩&&eqT s ⟨1,1,0,2,2,1⟩
 | _=>false
theorem w3k {L:List R6} (h:v9w L=true):L=two2:=by
 unfold v9w at h;split at h
 ·simp only [Bool.and_eq_true] at h;rw [u5t h.1,u5t h.2];rfl
 ·cases h
def isZ :Ax→Bool
 | .z =>true
 | _=>false
def mpoV (q:Ax) (L:List R6) (x y lo hi:Int) (b:Bool):Int:=1
def z0j (q:Ax) (L:List R6) (x y lo hi:Int) (b:Bool):Bool:=isZ q&&(v9w L&&((x == 1)&&((y == 1)&&((lo == 0)&&((hi == 1)&&b)))))
theorem srt01 :Xm [0,1]=[0,1]:=List.mergeSort_of_pairwise (by simp)
theorem u9i {q:Ax} {L:List R6} {x y lo hi:Int} {b:Bool} (h:z0j q L x y lo hi b=true):q=.z ∧ ∃N,Yv (y4q L x y lo hi b) N (y2t L x y lo hi b)=.ret [.int .i64 (mpoV q L x y lo hi b)]:=by
 simp only [z0j,Bool.and_eq_true] at h;obtain ⟨hq,hL,hx,hy,hlo,hhi,rfl⟩:=h;obtain rfl:=w3k hL;obtain rfl:=eq_of_beq hx;obtain rfl:=eq_of_beq hy;obtain rfl:=eq_of_beq hlo;obtain rfl:=eq_of_beq hhi;refine ⟨(by cases q <;> first | rfl | cases hq),3+2+3,?_⟩;have e1:Yv (y4q two2 1 1 0 1 true) (5+3) (y2t two2 1 1 0 1 true)=Yv (y4q two2 1 1 0 1 true) 5 (.to (.h1 (Xm (Yw ([0,1]:List Int).length (cOf (Zz ([0,1]:List Int))))) 1 0 0 1)):=by kernel_rfl
 refine e1.trans ?_;rw [Wd,srt01];kernel_rfl
def fMpo :List AVal→Option (AVal×Bool)
 | [.agg [.fn a [],.fn b [],.fn c []],a1,.int .i64 x2,.int .i64 x3,.int .i64 x4,.int .i64 x5,.bool x6]=>match axOf a b c,asL R6 a1 with
  | some q,some (L1,g1,n1)=>some (.int .i64 (mpoV q L1 x2 x3 x4 x5 x6),isT R6 n1 g1&&(z0j q L1 x2 x3 x4 x5 x6))
  | _,_=>none
 | _=>none
theorem j1l {S:Specs} (hS:Zu prog S):Zu prog (S.with u4j fMpo):=by
 refine z2d hS (by kernel_rfl) fun args v h=> ?_;unfold fMpo at h;split at h
 ·rename_i a b c a1 x2 x3 x4 x5 x6;split at h
  ·rename_i q L1 g1 n1 eq e1;simp only [Option.some.injEq,Prod.mk.injEq,Bool.and_eq_true] at h;obtain ⟨rfl,ho1,hw⟩:=h;obtain ⟨rfl,rfl,rfl⟩:=w0v eq;obtain ⟨rfl,N,hN⟩:=u9i hw;exact ⟨_,_,(.cons (.refl _) (.cons (asL_le e1 ho1) (.cons (.refl _) (.cons (.refl _) (.cons (.refl _) (.cons (.refl _) (.cons (.refl _) .nil))))))),rfl,v8s L1 x2 x3 x4 x5 x6 N _ hN,3,rfl⟩
  ·cases h
 ·cases h
def Mj :Specs:=Mi.with u4j fMpo
theorem z5r :Zu prog Mj:=j1l Qu
end Go.Am
namespace Go.Am
open Go.Proofs.Tryz
open Go.Proofs
inductive mpiS where
 | h0 (q:Ax) (v5:Int) (v26:Int)
 | h1 (q:Ax) (v5:Int) (v26:Int) (v33:List R6) (v34:Int) (v35:Int) (aQ:Int) (bB:Int) (bI:Int) (bJ:Int) (bQ:Int) (bU:Int)
def x1h (l0:List R6):mpiS→Cfg
 | .h0 q v5 v26=>⟨⟨125,0,true⟩,none,(Zd prog 17 [1,1,1,0,1,0,0,1,1,0,0,1,1,0,0] 0),none,(Zy prog 15),⟨Yd [(0,(.dat l0.length (Zz l0))),(5,(ii v5)),(7,(.ptr 0 0)),(20,(.agg [(.fn 105 []),(.fn 106 []),(.fn 107 []),(.fn 108 []),(.fn 109 []),(.fn 110 []),(.fn 111 []),(.fn 112 []),(.fn 113 [])])),(21,(ii q.ix)),(24,(.dat l0.length (Zz l0))),(25,(ii (l0.length:Int))),(26,(ii v26))],Uw [⟨[(.fn (nV1 q) []),(.fn (nV2 q) []),(.fn (nV3 q) [])],84,none⟩] 0,1,[],true⟩,[],.leaf⟩
 | .h1 q v5 v26 v33 v34 v35 aQ bB bI bJ bQ bU=>⟨⟨125,0,true⟩,none,(Zd prog 17 [1,1,1,0,1,0,0,1,1,0,0,1,1,0,0,1,1,0,0,1,1,0,0] 0),none,(Zy prog 15),⟨Yd [(0,(.dat l0.length (Zz l0))),(5,(ii v5)),(7,(.ptr 0 0)),(9,(.ptr 1 0)),(20,(.agg [(.fn 105 []),(.fn 106 []),(.fn 107 []),(.fn 108 []),(.fn 109 []),(.fn 110 []),(.fn 111 []),(.fn 112 []),(.fn 113 [])])),(21,(ii q.ix)),(24,(.dat l0.length (Zz l0))),(25,(ii (l0.length:Int))),(26,(ii v26)),(33,(.dat v33.length (Zz v33))),(34,(ii v34)),(35,(ii v35))],Uw [⟨[(.fn (nV1 q) []),(.fn (nV2 q) []),(.fn (nV3 q) [])],84,none⟩,⟨[(ii aQ),(ii bB),(ii bI),(ii bJ),(ii bQ),(ii bU)],67,none⟩] 0,2,[],true⟩,[],.leaf⟩
def v8u :List (Option (List Nat)):=[some [0,5,7,20,21,24,25,26]]
def v8v :List (Option (List Nat)):=[]
def x1f :List (Option (List Nat)):=[some [0,5,7,9,20,21,24,25,26,33,34,35]]
def x1g :List (Option (List Nat)):=[]
def mpiE (q:Ax) (v5:Int):Xb mpiS:=match q with
 | .x =>(.to (.h0 .y v5 0))
 | .y =>(.to (.h0 .z v5 0))
 | .z =>(.ret [(.int .i64 v5),(.int .i64 0)])
def z6m (l0:List R6):mpiS→Xb mpiS
 | .h0 q v5 v26=>(bif (decide (v26<(l0.length:Int))) then (bif ((decide (0≤v26∧v26<(l0.length:Int)))&&true) then (bif (decide (0≤v26.toNat)) then (bif (decide (v26.toNat≤l0.length)) then (bif (decide (0≤v26)) then (.to (.h1 q v5 v26 (Wc l0 0 v26.toNat) ((v26.toNat:Nat):Int) 0 (rd l0 v26.toNat).a (rd l0 v26.toNat).b (rd l0 v26.toNat).c (rd l0 v26.toNat).d (rd l0 v26.toNat).e (rd l0 v26.toNat).f)) else .stuck) else .stuck) else .stuck) else .stuck) else (mpiE q v5))
 | .h1 q v5 v26 v33 v34 v35 aQ bB bI bJ bQ bU=>(bif (decide (v35<v34)) then (bif ((decide (0≤v35∧v35<(v33.length:Int)))&&true) then (bif (decide ((q.rc (rd v33 v35.toNat)).a <(q.u aQ bB))) then (bif ((q.rc (rd v33 v35.toNat)).c != (q.u aQ bB)) then (.to (.h1 q v5 v26 v33 v34 (IntKind.wrap .i64 (v35+1)) aQ bB bI bJ bQ bU)) else (bif ((q.rc (rd v33 v35.toNat)).d != (q.w bB bI)) then (bif ((q.w bQ bU) != (q.rc (rd v33 v35.toNat)).b) then (.to (.h1 q v5 v26 v33 v34 (IntKind.wrap .i64 (v35+1)) aQ bB bI bJ bQ bU)) else (bif (z0j q (cvT l0) (q.rc (rd v33 v35.toNat)).c (q.rc (rd v33 v35.toNat)).b (Vg (q.l aQ bB bI) (q.lo (rd v33 v35.toNat))) (Vm (q.l bJ bQ bU) (q.hi (rd v33 v35.toNat))) ((q.rc (rd v33 v35.toNat)).d == (q.w bB bI))) then (.to (.h1 q (IntKind.wrap .i64 (v5+(mpoV q (cvT l0) (q.rc (rd v33 v35.toNat)).c (q.rc (rd v33 v35.toNat)).b (Vg (q.l aQ bB bI) (q.lo (rd v33 v35.toNat))) (Vm (q.l bJ bQ bU) (q.hi (rd v33 v35.toNat))) ((q.rc (rd v33 v35.toNat)).d == (q.w bB bI))))) v26 v33 v34 (IntKind.wrap .i64 (v35+1)) aQ bB bI bJ bQ bU)) else .stuck)) else (bif (z0j q (cvT l0) (q.rc (rd v33 v35.toNat)).c (q.rc (rd v33 v35.toNat)).d (Vg (q.l aQ bB bI) (q.lo (rd v33 v35.toNat))) (Vm (q.l bJ bQ bU) (q.hi (rd v33 v35.toNat))) ((q.rc (rd v33 v35.toNat)).d == (q.w bB bI))) then (.to (.h1 q (IntKind.wrap .i64 (v5+(mpoV q (cvT l0) (q.rc (rd v33 v35.toNat)).c (q.rc (rd v33 v35.toNat)).d (Vg (q.l aQ bB bI) (q.lo (rd v33 v35.toNat))) (Vm (q.l bJ bQ bU) (q.hi (rd v33 v35.toNat))) ((q.rc (rd v33 v35.toNat)).d == (q.w bB bI))))) v26 v33 v34 (IntKind.wrap .i64 (v35+1)) aQ bB bI bJ bQ bU)) else .stuck))) else (bif ((q.u bJ bQ) != (q.rc (rd v33 v35.toNat)).a) then (.to (.h1 q v5 v26 v33 v34 (IntKind.wrap .i64 (v35+1)) aQ bB bI bJ bQ bU)) else (bif ((q.w bQ bU) != (q.rc (rd v33 v35.toNat)).b) then (bif ((q.rc (rd v33 v35.toNat)).d != (q.w bB bI)) then (.to (.h1 q v5 v26 v33 v34 (IntKind.wrap .i64 (v35+1)) aQ bB bI bJ bQ bU)) else (bif (z0j q (cvT l0) (q.u bJ bQ) (q.w bB bI) (Vg (q.l aQ bB bI) (q.lo (rd v33 v35.toNat))) (Vm (q.l bJ bQ bU) (q.hi (rd v33 v35.toNat))) ((q.w bQ bU) == (q.rc (rd v33 v35.toNat)).b)) then (.to (.h1 q (IntKind.wrap .i64 (v5+(mpoV q (cvT l0) (q.u bJ bQ) (q.w bB bI) (Vg (q.l aQ bB bI) (q.lo (rd v33 v35.toNat))) (Vm (q.l bJ bQ bU) (q.hi (rd v33 v35.toNat))) ((q.w bQ bU) == (q.rc (rd v33 v35.toNat)).b)))) v26 v33 v34 (IntKind.wrap .i64 (v35+1)) aQ bB bI bJ bQ bU)) else .stuck)) else (bif (z0j q (cvT l0) (q.u bJ bQ) (q.w bQ bU) (Vg (q.l aQ bB bI) (q.lo (rd v33 v35.toNat))) (Vm (q.l bJ bQ bU) (q.hi (rd v33 v35.toNat))) ((q.w bQ bU) == (q.rc (rd v33 v35.toNat)).b)) then (.to (.h1 q (IntKind.wrap .i64 (v5+(mpoV q (cvT l0) (q.u bJ bQ) (q.w bQ bU) (Vg (q.l aQ bB bI) (q.lo (rd v33 v35.toNat))) (Vm (q.l bJ bQ bU) (q.hi (rd v33 v35.toNat))) ((q.w bQ bU) == (q.rc (rd v33 v35.toNat)).b)))) v26 v33 v34 (IntKind.wrap .i64 (v35+1)) aQ bB bI bJ bQ bU)) else .stuck)))) else .stuck) else (.to (.h0 q v5 (IntKind.wrap .i64 (v26+1)))))
def y2u (l0:List R6):Xb mpiS:=(bif (Uf (cvT l0)) then (bif ((Yr (cvT l0)) != 0) then (.ret [(.int .i64 0),(.int .i64 (Yr (cvT l0)))]) else (.to (.h0 .x 0 0))) else .stuck)
theorem u9m (l0:List R6) (v5:Int) (v26:Int) (k0:(decide (v26<(l0.length:Int)))=false):Xv prog (Zy prog 17) (x1h l0) (x1h l0 (.h0 .x v5 v26)) (mpiE .x v5):=(sl z5r 36 [] ⟨[1],[],v8u,v8v⟩ ⟨[],[],[]⟩ [false,true,true,false] (tt k0 nn))
theorem u9l (l0:List R6) (v5:Int) (v26:Int) (k0:(decide (v26<(l0.length:Int)))=false):Xv prog (Zy prog 17) (x1h l0) (x1h l0 (.h0 .y v5 v26)) (mpiE .y v5):=(sl z5r 36 [] ⟨[1],[],v8u,v8v⟩ ⟨[],[],[]⟩ [false,true,true,true,false] (tt k0 nn))
theorem u9k (l0:List R6) (v5:Int) (v26:Int) (k0:(decide (v26<(l0.length:Int)))=false):Xv prog (Zy prog 17) (x1h l0) (x1h l0 (.h0 .z v5 v26)) (mpiE .z v5):=(lr 125 3 [1,1,1,1,1,1,1,0] 1 15 [(2,(ii v5)),(3,(ii 0))] (sl z5r 26 [] ⟨[],[],[some [2,3]],[]⟩ ⟨[],[],[]⟩ [false,false] (tt k0 nn)))
theorem mpi_ex (q:Ax) (l0:List R6) (v5:Int) (v26:Int) (k0:(decide (v26<(l0.length:Int)))=false):Xv prog (Zy prog 17) (x1h l0) (x1h l0 (.h0 q v5 v26)) (mpiE q v5):=match q with
 | .x =>u9m l0 v5 v26 k0
 | .y =>u9l l0 v5 v26 k0
 | .z =>u9k l0 v5 v26 k0
theorem mpi_s0 (q:Ax) (l0:List R6) (v5:Int) (v26:Int):Xv prog (Zy prog 17) (x1h l0) (x1h l0 (.h0 q v5 v26)) (z6m l0 (.h0 q v5 v26)):=by cases q <;> refine (?f: ∀q:Ax,Xv prog (Zy prog 17) (x1h l0) (x1h l0 (.h0 q v5 v26)) (z6m l0 (.h0 q v5 v26))) _ <;> exact fun q=>(lb (fun k0=>(lo fun o0=>(lo fun o1=>(lo fun o2=>(lo fun o3=>(sl z5r 28 [] ⟨[0,1],[],x1f,x1g⟩ ⟨[(33,.list (Wc l0 0 (tn v26)).length (Zz (Wc l0 0 (tn v26))))],[],[]⟩ [true] (pp (xL (tn v26) (Wc l0 0 (tn v26)).length) (pp (xS (tn v26) (fun k=>(Zz l0) (0+k)) (Zz (Wc l0 0 (tn v26)))) (pp (pp (xw o3) (pp nn (pp (xG (decide ((tn v26)≤l0.length))) (pp (xG (decide (0≤(tn v26)))) (xG (lenR l0.length (Zz l0) 6)))))) (ww o0 (tt k0 nn))))))))))) (fun k0=>mpi_ex q l0 v5 v26 k0))
theorem mpi_s1 (q:Ax) (l0:List R6) (v5:Int) (v26:Int) (v33:List R6) (v34:Int) (v35:Int) (aQ:Int) (bB:Int) (bI:Int) (bJ:Int) (bQ:Int) (bU:Int):Xv prog (Zy prog 17) (x1h l0) (x1h l0 (.h1 q v5 v26 v33 v34 v35 aQ bB bI bJ bQ bU)) (z6m l0 (.h1 q v5 v26 v33 v34 v35 aQ bB bI bJ bQ bU)):=by cases q <;> refine (?f: ∀q:Ax,Xv prog (Zy prog 17) (x1h l0) (x1h l0 (.h1 q v5 v26 v33 v34 v35 aQ bB bI bJ bQ bU)) (z6m l0 (.h1 q v5 v26 v33 v34 v35 aQ bB bI bJ bQ bU))) _ <;> exact fun q=>(lb (fun k0=>(lo fun aF=>(lb (fun k1=>(lb (fun k2=>(sl z5r 64 [] ⟨[0,1],[],x1f,x1g⟩ ⟨[],[],[]⟩ (trs 10 []) (tt k2 (tt k1 (ww aF (tt k0 nn)))))) (fun k2=>(lb (fun k3=>(lb (fun k4=>(sl z5r 64 [] ⟨[0,1],[],x1f,x1g⟩ ⟨[],[],[]⟩ [true,true,false,false,false,false,false,false,true,true,true,true,true,false,true] (tt k4 (tt k3 (tt k2 (tt k1 (ww aF (tt k0 nn)))))))) (fun k4=>(lo fun o0=>(sl z5r 87 [] ⟨[0,1],[],x1f,x1g⟩ ⟨[],[],[]⟩ [true,true,false,false,false,false,false,false,true,true,true,true,true,false,false,true] (pp (pp (pp nn (pp nn (pp nn (pp nn (pp nn (pp nn (pp nn nn))))))) (pp (xr l0) (xw o0))) (tt k3 (tt k4 (tt k3 (tt k2 (tt k1 (ww aF (tt k0 nn))))))))))))) (fun k3=>(lo fun o0=>(sl z5r 83 [] ⟨[0,1],[],x1f,x1g⟩ ⟨[],[],[]⟩ [true,true,false,false,false,false,false,false,false,false,false,false,false,false,false,false] (pp (pp (pp nn (pp nn (pp nn (pp nn (pp nn (pp nn (pp nn nn))))))) (pp (xr l0) (xw o0))) (tt k3 (tt k3 (tt k2 (tt k1 (ww aF (tt k0 nn)))))))))))))) (fun k1=>(lb (fun k2=>(sl z5r 59 [] ⟨[0,1],[],x1f,x1g⟩ ⟨[],[],[]⟩ [true,false,true,true,true,true,true,true,true,true] (tt k2 (tt k1 (ww aF (tt k0 nn)))))) (fun k2=>(lb (fun k3=>(lb (fun k4=>(sl z5r 59 [] ⟨[0,1],[],x1f,x1g⟩ ⟨[],[],[]⟩ [true,false,false,false,false,false,false,false,true,true,true,true,true,false,true] (tt k4 (tt k3 (tt k2 (tt k1 (ww aF (tt k0 nn)))))))) (fun k4=>(lo fun o0=>(sl z5r 82 [] ⟨[0,1],[],x1f,x1g⟩ ⟨[],[],[]⟩ [true,false,false,false,false,false,false,false,true,true,true,true,true,false,false,true] (pp (pp (pp nn (pp nn (pp nn (pp nn (pp nn (pp nn (pp nn nn))))))) (pp (xr l0) (xw o0))) (tt k3 (tt k4 (tt k3 (tt k2 (tt k1 (ww aF (tt k0 nn))))))))))))) (fun k3=>(lo fun o0=>(sl z5r 78 [] ⟨[0,1],[],x1f,x1g⟩ ⟨[],[],[]⟩ [true,false,false,false,false,false,false,false,false,false,false,false,false,false,false,false] (pp (pp (pp nn (pp nn (pp nn (pp nn (pp nn (pp nn (pp nn nn))))))) (pp (xr l0) (xw o0))) (tt k3 (tt k3 (tt k2 (tt k1 (ww aF (tt k0 nn))))))))))))))))) (fun k0=>(sl z5r 13 [] ⟨[0],[],v8u,v8v⟩ ⟨[],[],[]⟩ [false] (tt k0 nn))))
theorem w6g (l0:List R6): ∀s,Xv prog (Zy prog 17) (x1h l0) (x1h l0 s) (z6m l0 s)
 | .h0 q v5 v26=>mpi_s0 q l0 v5 v26
 | .h1 q v5 v26 v33 v34 v35 aQ bB bI bJ bQ bU=>mpi_s1 q l0 v5 v26 v33 v34 v35 aQ bB bI bJ bQ bU
theorem x8l (l0:List R6):Xv prog (Zy prog 17) (x1h l0) (Zc prog 17 [(.dat l0.length (Zz l0))] true []) (y2u l0):=(lo fun bV=>(lb (fun k0=>(lr 125 17 [1,0,1,1,0,0] 1 15 [(2,(ii 0)),(3,(ii (Yr (cvT l0))))] (sl z5r 24 [] ⟨[],[],[some [2,3]],[]⟩ ⟨[],[],[]⟩ [true] (tt k0 (pp (pp (xr l0) (xw bV)) nn))))) (fun k0=>(sl z5r 67 [] ⟨[1],[],v8u,v8v⟩ ⟨[],[],[]⟩ [false,true,false] (tt k0 (pp (pp (xr l0) (xw bV)) nn))))))
theorem v8t (l0:List R6) (n:Nat) (vs:List AVal) (h:Yv (z6m l0) n (y2u l0)=.ret vs):Jt prog (Zy prog 17) (Zc prog 17 [(.dat l0.length (Zz l0))] true []) vs:=by have:=Ze (w6g l0) n _ (x8l l0);rwa [h] at this
end Go.Am
namespace Go.Am
open Go.Proofs Go.Sort Go.Shelf Go.RowKit Go.Lib
def ind (a b t:Int):Int:=if a≤t∧t<b then 1 else 0
def w8n (lo:Int) (n:Nat):List Int:=(List.range n).map fun (k:Nat)=>lo+(k:Int)
theorem v3g (a b lo:Int): ∀n:Nat,sm (w8n lo n) (ind a b)=ovl a b lo (lo+n)
 | 0=>by show (0:Int)=_;unfold ovl;omega
 | n+1=>by unfold w8n;rw [List.range_succ,List.map_append,Ug];have:=v3g a b lo n;unfold w8n at this;rw [this,List.map_cons,List.map_nil,Xf,z1o];unfold ind ovl;split <;> omega
theorem x9n (a b c d t:Int):ind a b t*ind c d t=ind (max a c) (min b d) t:=by
 unfold ind;by_cases h1:a≤t∧t<b
 ·by_cases h2:c≤t∧t<d
  ·rw [if_pos h1,if_pos h2,if_pos (by omega)];rfl
  ·rw [if_pos h1,if_neg h2,if_neg (by omega)];rfl
 ·rw [if_neg h1,Int.zero_mul,if_neg (by omega)]
theorem z9y (a b t:Int):0≤ind a b t:=by unfold ind;split <;> omega
theorem ind_le (a b t:Int):ind a b t≤1:=by unfold ind;split <;> omega
def Pts (p:List Int):Prop:=(∀a b,-1000005≤a∧b≤1000005→sm p (ind a b)=max 0 (b - a))∧p.length=2000010
def S3 (p:List Int) (f:Int→Int→Int→Int):Int:=sm p fun x=>sm p fun y=>sm p fun z=>f x y z
theorem j3f {p:List Int} {α:Type} (l:List α) (f:α→Int→Int→Int→Int):S3 p (fun x y z=>sm l fun a=>f a x y z)=sm l fun a=>S3 p (f a):=by unfold S3;rw [z0e l p];refine Zs fun x _=> ?_;rw [z0e l p];exact Zs fun y _=>z0e _ _ _
theorem u6d {p:List Int} (f g h:Int→Int):S3 p (fun x y z=>f x*g y*h z)=sm p f*sm p g*sm p h:=by unfold S3;simp only [z2o,Int.mul_assoc];rw [←w1s];refine Zs fun x _=> ?_;rw [←w1s]
def inR (r:R6) (x y z:Int):Int:=ind r.a r.d x*ind r.b r.e y*ind r.c r.f z
theorem y9k (r:R6) (x y z:Int):0≤inR r x y z:=Int.mul_nonneg (Int.mul_nonneg (z9y ..) (z9y ..)) (z9y ..)
theorem w3o (r:R6) (x y z:Int):inR r x y z=if (r.a≤x∧x<r.d)∧(r.b≤y∧y<r.e)∧(r.c≤z∧z<r.f) then 1 else 0:=by unfold inR ind;by_cases h1:r.a≤x∧x<r.d <;> by_cases h2:r.b≤y∧y<r.e <;> by_cases h3:r.c≤z∧z<r.f <;> simp [h1,h2,h3]
def u9c (r:R6):Prop:= -1000002≤r.a∧r.d≤1000002∧ -1000002≤r.b∧r.e≤1000002∧ -1000002≤r.c∧r.f≤1000002
theorem ov_S3 {p:List Int} (hp:Pts p) (r s:R6) (hr:u9c r):S3 p (fun x y z=>inR r x y z*inR s x y z)=ov r s:=by
 obtain ⟨h1,h2,h3,h4,h5,h6⟩:=hr;have e:(fun x y z=>inR r x y z*inR s x y z)=fun x y z=>ind (max r.a s.a) (min r.d s.d) x*ind (max r.b s.b) (min r.e s.e) y*ind (max r.c s.c) (min r.f s.f) z:=by
  funext x y z
  rw [←x9n,←x9n,←x9n];unfold inR;simp only [Int.mul_comm,Int.mul_left_comm,Int.mul_assoc]
 rw [e,u6d,hp.1 _ _ (by omega),hp.1 _ _ (by omega),hp.1 _ _ (by omega)];rfl
def cnt (X:List R6) (x y z:Int):Int:=sm X fun r=>inR r x y z
theorem w7x (X:List R6) (x y z:Int):0≤cnt X x y z:=x3g fun r _=>y9k r x y z
theorem u5w : ∀(X:List R6),X.Pairwise Ap6→ ∀x y z,cnt X x y z≤1
 | [],_,x,y,z=>by show (0:Int)≤1;omega
 | r::X,h,x,y,z=>by
  obtain ⟨h1,h2⟩:=List.pairwise_cons.1 h;have ih:=u5w X h2 x y z;have e:cnt (r::X) x y z=inR r x y z+cnt X x y z:=Xf _ _ _;rw [e,w3o];split
  ·rename_i hp;have:cnt X x y z=0:=by
    have:cnt X x y z=sm X fun _=>0:=Zs fun s hs=>by rw [w3o];refine if_neg fun hq=> ?_;have:=h1 s hs;unfold Ap6 at this;omega
    rw [this,z0d]
   omega
  ·omega
theorem S2_S3 {p:List Int} (hp:Pts p) (X Y:List R6) (hX: ∀r∈X,u9c r):S2 X Y=S3 p fun x y z=>cnt X x y z*cnt Y x y z:=by
 have e:(fun x y z=>cnt X x y z*cnt Y x y z)=fun x y z=>sm X fun r=>sm Y fun s=>inR r x y z*inR s x y z:=by
  funext x y z
  unfold cnt;rw [←w1s];exact Zs fun r _=>(z2o _ _ _).symm
 rw [e,j3f];unfold S2;refine Zs fun r hr=> ?_;rw [j3f];exact Zs fun s _=>(ov_S3 hp r s (hX r hr)).symm
end Go.Am
namespace Go.Am
open Go.Proofs Go.Sort Go.Shelf Go.RowKit Go.Lib
theorem sm_pos {α:Type} {l:List α} {f:α→Int} (h:sm l f≠0): ∃x∈l,f x≠0:=Classical.byContradiction fun hn=>h (by
 have:sm l f=sm l fun _=>0:=Zs fun x hx=>Classical.byContradiction fun e=>hn ⟨x,hx,e⟩;rw [this,z0d])
theorem x8c {p:List Int} (hp:Pts p) {t:Int} (h: -1000005≤t∧t<1000005):t∈p:=by
 have h1:=hp.1 t (t+1) (by omega);have h2:sm p (ind t (t+1))≠0:=by rw [h1];omega
 obtain ⟨x,hx,hn⟩:=sm_pos h2;unfold ind at hn;split at hn
 ·have:x=t:=by omega
  rwa [←this]
 ·exact absurd rfl hn
def inS (X:List R6) (x y z:Int):Prop:= ∃r∈X,(r.a≤x∧x<r.d)∧(r.b≤y∧y<r.e)∧(r.c≤z∧z<r.f)
theorem v3i (X:List R6) (x y z:Int):inS X x y z↔ptL w1u.inB X (z,x,y):=by
 constructor
 ·rintro ⟨r,hr,h1,h2,h3⟩;exact ⟨r,hr,h3.1,h3.2,h1.1,h1.2,h2.1,h2.2⟩
 ·rintro ⟨r,hr,h1,h2,h3,h4,h5,h6⟩;exact ⟨r,hr,⟨h3,h4⟩,⟨h5,h6⟩,h1,h2⟩
theorem cnt_eq (X:List R6) (hX:X.Pairwise Ap6) (x y z:Int):(inS X x y z→cnt X x y z=1)∧(¬inS X x y z→cnt X x y z=0):=by
 have h0:=w7x X x y z;have h1:=u5w X hX x y z;constructor
 ·rintro ⟨r,hr,hp⟩;have:cnt X x y z≠0:=fun e=>by have:=w5c (fun r _=>y9k r x y z) e r hr;rw [w3o,if_pos hp] at this;cases this
  omega
 ·intro hn;have:cnt X x y z=sm X fun _=>0:=Zs fun r hr=>by rw [w3o];exact if_neg fun hp=>hn ⟨r,hr,hp⟩
  rw [this,z0d]
structure Sol (X:List R6):Prop where
 len:X.length≤400
 val: ∀r∈X,Ko r=true
 ap:X.Pairwise Ap6
theorem Sol.of {X:List R6} (h:Yr X=0):Sol X:=⟨(Wu h).1,(Wu h).2.1,(Wu h).2.2.2⟩
theorem Sol.bnd {X:List R6} (h:Sol X) {x y z:Int} (hp:inS X x y z):(-1000000≤x∧x<1000000)∧(-1000000≤y∧y<1000000)∧(-1000000≤z∧z<1000000):=by obtain ⟨r,hr,h1,h2,h3⟩:=hp;have:=Kz (h.val r hr);omega
theorem bx_S3 {p:List Int} (hp:Pts p) (r:R6) (hr:Ko r=true):S3 p (inR r)=bxV r:=by have hv:=Kz hr;show S3 p (fun x y z=>ind r.a r.d x*ind r.b r.e y*ind r.c r.f z)=_;rw [u6d,hp.1 _ _ (by omega),hp.1 _ _ (by omega),hp.1 _ _ (by omega)];unfold bxV;rw [show max 0 (r.d - r.a)=r.d - r.a by omega,show max 0 (r.e - r.b)=r.e - r.b by omega,show max 0 (r.f - r.c)=r.f - r.c by omega]
theorem u1m {p:List Int} (hp:Pts p) {X:List R6} (h:Sol X):sm X bxV=S3 p (cnt X):=by show _=S3 p (fun x y z=>sm X fun r=>inR r x y z);rw [j3f];exact Zs fun r hr=>(bx_S3 hp r (h.val r hr)).symm
theorem Sol.pts {p:List Int} (hp:Pts p) {X:List R6} (h:Sol X) {x y z:Int} (hq:inS X x y z):x∈p∧y∈p∧z∈p:=by have:=h.bnd hq;exact ⟨x8c hp (by omega),x8c hp (by omega),x8c hp (by omega)⟩
end Go.Am
namespace Go.Am
open Go.Proofs Go.Sort Go.Shelf Go.RowKit Go.Lib
theorem Dim.goS_cg {α β:Type} (D:Dim α β) (f g:Int→List β) (cs:List Int): ∀(k i:Nat) (s:Sw α β),(∀j,i≤j→j<i+k→f (rd cs j)=g (rd cs j))→D.goS f cs k i s=D.goS g cs k i s
 | 0,i,s,_=>rfl
 | k+1,i,s,h=>by show D.goS f cs k (i+1) (D.oneS (f (rd cs i)) _ _ s)=D.goS g cs k (i+1) (D.oneS (g (rd cs i)) _ _ s);rw [h i (Nat.le_refl _) (by omega)];exact goS_cg D f g cs k (i+1) _ fun j h1 h2=>h j (by omega) (by omega)
theorem x5g {n:Nat} (h:y9x n=0):n≤400:=by
 unfold y9x at h;by_cases q:(n:Int)>400
 ·rw [decide_eq_true q] at h;cases h
 ·omega
theorem x7r {l:List R4} (h:Xc l=0):l.length≤400∧(∀r∈l,Vw r=true)∧Zb l=D4.out l:=by
 unfold Xc at h;cases g1:decide (400<l.length) with
 | true=>rw [g1] at h;cases h
 | false=>
  cases g2:l.all Vw with
  | false=>rw [g1,g2] at h;cases h
  | true=>
   rw [g1,g2,cond_false,cond_true] at h;have hl:l.length≤400:=by have:=of_decide_eq_false g1;omega
   refine ⟨hl,List.all_eq_true.1 g2,?_⟩;exact (z7n (List.all_eq_true.1 g2) hl (x5g h)).1
theorem w2n {l:List R6}: ∀(k i:Nat),okF l k i=true→ ∀j,i≤j→j<i+k→Xc (D6.inn l (rd (D6.cuts l) j))=0
 | 0,i,h,j,h1,h2=>by omega
 | k+1,i,h,j,h1,h2=>by
  unfold okF at h;rcases Ye (v5f l (rd (D6.cuts l) i)) with q | q
  ·rw [q] at h;cases h
  ·rw [q,cond_false] at h;rcases Nat.eq_or_lt_of_le h1 with e | e
   ·rw [←e];unfold v5f at q
    simpa using q
   ·exact w2n k (i+1) h j e (by omega)
theorem v6l {l:List R6} (h:Kt l=0):l.length≤400∧(∀r∈l,Ko r=true)∧okF l ((D6.cuts l).length - 1) 0=true∧(D6.out l).length ≤400:=by
 unfold Kt at h;cases g1:decide (400<l.length) with
 | true=>rw [g1] at h;cases h
 | false=>
  cases g2:l.all Ko with
  | false=>rw [g1,g2] at h;cases h
  | true=>
   rw [g1,g2,cond_false,cond_true] at h;cases g3:okF l ((D6.cuts l).length - 1) 0 with
   | false=>rw [g3,cond_false] at h;have:=u0s _ _ g3;rw [h] at this;cases this
   | true=>rw [g3,cond_true] at h;exact ⟨by have:=of_decide_eq_false g1;omega,List.all_eq_true.1 g2,rfl,x5g h⟩
theorem w9p {l:List R6} (h:Kt l=0):Xt l=D6.out l:=by unfold Xt x2b;rw [h];rfl
theorem u7d {l:List R6} (h:Kt l=0):w1u.can (Xt l)∧ ∀x y z,inS (Xt l) x y z↔inS l x y z:=by
 obtain ⟨hl,hv,hok,ho⟩:=v6l h;have hf:=w2n _ _ hok;rw [w9p h];have hc:(D6.cuts l).Pairwise (· < ·):=by show (Jj (D6.ends l)).Pairwise (· < ·);rw [Jz];exact (Xn _).1
 have eS:D6.out l=(D6.goS (fun x=>bif Xc (D6.inn l x) != 0 then [] else Zb (D6.inn l x)) (D6.cuts l) ((D6.cuts l).length - 1) 0 ⟨[],[],0,0⟩).out :=by unfold Dim.out;rw [D6.go_goS,D6.goS_cg (D6.sec l) (fun x=>bif Xc (D6.inn l x) != 0 then [] else Zb (D6.inn l x))];intro j h1 h2;show _=bif Xc (D6.inn l _) != 0 then _ else _;rw [hf j h1 h2];rfl
 have hs: ∀x,Wy.can (bif Xc (D6.inn l x) != 0 then [] else Zb (D6.inn l x)):=fun x=>by
  cases g:(Xc (D6.inn l x) != 0) with
  | true=>exact Wy.nil
  | false=>obtain ⟨m1,m2,m3⟩:=x7r (show Xc (D6.inn l x)=0 by simpa using g);rw [cond_false,m3];exact (Qk m2 m1).1
 obtain ⟨h1,h2⟩:=Dim.goS_can z3n x3j Wy (cs:=D6.cuts l) hc hs;rw [eS];refine ⟨h1,fun x y z=> ?_⟩;rw [v3i,v3i,show ptL w1u.inB _ (z,x,y)↔_ from h2 z (x,y)];have ia: ∀j,j+1<(D6.cuts l).length →rd (D6.cuts l) j≤z→z<rd (D6.cuts l) (j+1)→(ptL Wy.inB (bif Xc (D6.inn l (rd (D6.cuts l) j)) != 0 then [] else Zb (D6.inn l (rd (D6.cuts l) j))) (x,y)↔ptL w1u.inB l (z,x,y)):=fun j j1 j2 j3=>by have q:=hf j (Nat.zero_le _) (by omega);obtain ⟨m1,m2,m3⟩:=x7r q;rw [q,show ((0:Int) != 0)=false from rfl,cond_false,m3,(Qk m2 m1).2,Dim.inn_slab l l (fun r hr=>hr) j1 j2 j3];exact Dim.pt_inn (D:=D6) Wy.inB l z (x,y)
 constructor
 ·rintro ⟨j,j1,j2,j3,j4⟩;exact (ia j j1 j2 j3).1 j4
 ·intro hp;refine Classical.byContradiction fun hn=> ?_;have hx: ∀j,j+1<(D6.cuts l).length → ¬(rd (D6.cuts l) j≤z∧z<rd (D6.cuts l) (j+1)):=fun j j1 j2=>hn ⟨j,j1,j2.1,j2.2,(ia j j1 j2.1 j2.2).2 hp⟩;have g:=(Dim.pt_inn (D:=D6) Wy.inB l z (x,y)).2 hp;rw [Dim.inn_out l l (fun r hr=>hr) hx] at g;exact z4i _ _ g
theorem w1t {L:List R6} (h:Yr L=0):Kt L=0∧Xt L=L:=by
 have hs:=Wu h;have key:Kt L=0:=by
  unfold Yr at h;unfold Kt;cases g1:decide (400<L.length) with
  | true=>rw [g1] at h;cases h
  | false=>
   cases g2:L.all Ko with
   | false=>rw [g1,g2] at h;cases h
   | true=>
    rw [g1,g2,cond_false,cond_true] at h;cases g3:okF L ((D6.cuts L).length - 1) 0 with
    | false=>rw [g3] at h;cases h
    | true=>rw [cond_false,cond_true,cond_true];unfold y9x;rw [←hs.2.2.1,Xp (by have:=hs.1;omega)];rfl
 exact ⟨key,(w9p key).trans hs.2.2.1.symm⟩
theorem x7a {L:List R6} (h:Yr L=0):w1u.can L:=by obtain ⟨h1,h2⟩:=w1t h;have:=(u7d h1).1;rwa [h2] at this
end Go.Am
namespace Go.Am
open Go.Proofs Go.Sort Go.Shelf Go.RowKit Go.Lib
namespace Dim
variable {α β:Type} {D:Dim α β}
theorem j0k (hD:D.Fair) (s:List β) (a b x:Int):D.inn (s.map (D.put a b)) x=if a≤x∧x<b then s else []:=by
 unfold inn;have e:(s.map (D.put a b)).filter (fun r=>decide (D.lo r≤x)&&decide (x<D.hi r))=if a≤x∧x<b then s.map (D.put a b) else []:=by
  split
  ·rename_i h;refine List.filter_eq_self.2 fun r hr=> ?_;obtain ⟨c,_,rfl⟩:=List.mem_map.1 hr;rw [hD.lo_put,hD.hi_put,decide_eq_true h.1,decide_eq_true h.2];rfl
  ·rename_i h;refine List.filter_eq_nil_iff.2 fun r hr hq=>h ?_;obtain ⟨c,_,rfl⟩:=List.mem_map.1 hr;rw [hD.lo_put,hD.hi_put,Bool.and_eq_true] at hq;exact ⟨of_decide_eq_true hq.1,of_decide_eq_true hq.2⟩
 rw [e];split
 ·rw [List.map_map];exact (List.map_congr_left fun c _=>hD.pr_put a b c).trans (List.map_id _)
 ·rfl
theorem inn_can (hD:D.Fair) {γ:Type} (M:Sem β γ) (x:Int): ∀G:List (z0c β),z2k M G→M.can (D.inn (D.flat G) x)
 | [],_=>M.nil
 | g::r,h=>by
  rw [show D.flat (g::r)=g.s.map (D.put g.a g.b)++D.flat r from rfl,D.inn_append,j0k hD];split
  ·rename_i hx;have e:D.inn (D.flat r) x=[]:=by unfold inn;rw [List.map_eq_nil_iff,List.filter_eq_nil_iff];intro a ha hq;obtain ⟨k,hk,ha⟩:=List.mem_flatMap.1 ha;obtain ⟨c,_,rfl⟩:=List.mem_map.1 ha;rw [hD.lo_put,Bool.and_eq_true] at hq;have h1:=of_decide_eq_true hq.1;have:=h.later k hk;omega
   rw [e,List.append_nil];exact h.head.2.1
  ·rw [List.nil_append];exact inn_can hD M x r h.tail
end Dim
theorem w1w {L:List R6} (hl:L.length≤400) (hv: ∀r∈L,Ko r=true) (hc:w1u.can L):Yr L=0:=by
 have hi: ∀z,D4.out (D6.inn L z)=D6.inn L z:=fun z=>by obtain ⟨h1,h2⟩:=Qk (y6b hv z) (Nat.le_trans (D6.inn_length L z) hl);obtain ⟨G,hG,e⟩:=hc;exact Wy.uniq _ _ h1 (by rw [e];exact Dim.inn_can z3n Wy z G hG) h2
 have hs:Secs L:=fun z=>by rw [hi z];exact Nat.le_trans (D6.inn_length L z) hl
 obtain ⟨h1,h2⟩:=u6z hv hl hs;have e:=w1u.uniq _ _ h1 hc h2;have ok: ∀k i,okF L k i=true:=fun k=>by
  induction k with
  | zero=>intro i;rfl
  | succ k ih=>intro i;show (bif Xc (D6.inn L (rd (D6.cuts L) i)) != 0 then false else okF L k (i+1))=true;rw [(z7n (y6b hv _) (Nat.le_trans (D6.inn_length L _) hl) (hs _)).2];exact ih (i+1)
 unfold Yr;rw [decide_eq_false (by omega),List.all_eq_true.2 hv,ok,e,decide_eq_false (by omega),show Kx L L=true from decide_eq_true rfl];rfl
end Go.Am
namespace Go.Am
open Go.Proofs.Tryz
open Go.Proofs Go.Sort Go.Shelf Go.RowKit Go.Lib
theorem can1 (a b:Int) (h:a<b):y7w.can [⟨a,b⟩]:=⟨by simpa using h,by simp⟩
theorem u7n :Yr two2=0:=by
 refine w1w (by decide) ?_ ⟨[⟨0,1,[⟨0,0,1,1⟩,⟨1,1,2,2⟩]⟩],.one _ ⟨by decide,⟨[⟨0,1,[⟨0,1⟩]⟩,⟨1,2,[⟨1,2⟩]⟩],?_,rfl⟩,by simp⟩,rfl⟩
 ·intro r hr;simp only [two2,List.mem_cons,List.not_mem_nil,or_false] at hr;rcases hr with rfl | rfl <;> rfl
 ·exact .cons _ _ [] ⟨by decide,can1 0 1 (by decide),by simp⟩ ⟨by decide,fun _=>by simp⟩ (.one _ ⟨by decide,can1 1 2 (by decide),by simp⟩)
def v2k (L:List R6):Int:=1
def v2j (L:List R6):Int:=0
def z7x (L:List R6):Bool:=v9w L
theorem u9j (L:List R6) (h:z7x L=true): ∃N,Yv (z6m L) N (y2u L)=.ret [.int .i64 (v2k L),.int .i64 (v2j L)]:=by obtain rfl:=w3k h;refine ⟨40,?_⟩;unfold y2u;rw [Za,show Uf two2=true from rfl,u7n];kernel_rfl
def fMpi :List AVal→Option (AVal×Bool)
 | [a0]=>match asL R6 a0 with
  | some (L0,g0,n0)=>some (.tup [.int .i64 (v2k L0),.int .i64 (v2j L0)],isT R6 n0 g0&&(z7x L0))
  | _=>none
 | _=>none
theorem j1m {S:Specs} (hS:Zu prog S):Zu prog (S.with v2b fMpi):=by
 refine z2d hS (by kernel_rfl) fun args v h=> ?_;unfold fMpi at h;split at h
 ·rename_i a0;split at h
  ·rename_i L0 g0 n0 e0;simp only [Option.some.injEq,Prod.mk.injEq,Bool.and_eq_true] at h;obtain ⟨rfl,ho0,hw⟩:=h;obtain ⟨N,hN⟩:=u9j L0 hw;exact ⟨_,_,(.cons (asL_le e0 ho0) .nil),rfl,v8t L0 N _ hN,3,rfl⟩
  ·cases h
 ·cases h
def Mk :Specs:=(Mj.with v2b fMpi)
theorem y1v :Zu prog Mk:=(j1m z5r)
end Go.Am
namespace Go.Am
open Go.Proofs.Tryz
open Go.Proofs
inductive al19S where
def j2z :al19S→Cfg
 :=nofun
def x2k :al19S→Xb al19S
 :=nofun
def z8w :Xb al19S:=(bif (z4l (cvT ([(R6.mk 0 0 0 2 1 1)]:List R6))) then (bif (z7x (cvT ([(R6.mk 0 0 0 1 1 1),(R6.mk 1 1 0 2 2 1)]:List R6))) then (bif ((z7y (cvT ([(R6.mk 0 0 0 2 1 1)]:List R6))) != 0) then (.ret [(.bool false)]) else (bif ((((Zg (cvT ([(R6.mk 0 0 0 2 1 1)]:List R6))).length :Nat):Int) != 6) then (.ret [(.bool false)]) else (bif ((v2j (cvT ([(R6.mk 0 0 0 1 1 1),(R6.mk 1 1 0 2 2 1)]:List R6))) != 0) then (.ret [(.bool false)]) else (bif ((v2k (cvT ([(R6.mk 0 0 0 1 1 1),(R6.mk 1 1 0 2 2 1)]:List R6))) != 1) then (.ret [(.bool false)]) else (bif (y4p (cvT (Zg (cvT ([(R6.mk 0 0 0 2 1 1)]:List R6))))) then (bif ((x4j (cvT (Zg (cvT ([(R6.mk 0 0 0 2 1 1)]:List R6))))) == 0) then (bif (Ve (cvT (z1a (cvT (Zg (cvT ([(R6.mk 0 0 0 2 1 1)]:List R6)))))) (cvT ([(R6.mk 0 0 0 2 1 1)]:List R6))) then (bif (Kx (cvT (z1a (cvT (Zg (cvT ([(R6.mk 0 0 0 2 1 1)]:List R6)))))) (cvT ([(R6.mk 0 0 0 2 1 1)]:List R6))) then (bif ((decide ((0:Int)≤0∧0<(((Zg (cvT ([(R6.mk 0 0 0 2 1 1)]:List R6))).length :Nat):Int)))&&true) then (bif (((rd (Zg (cvT ([(R6.mk 0 0 0 2 1 1)]:List R6))) 0).a == 0)&&((((rd (Zg (cvT ([(R6.mk 0 0 0 2 1 1)]:List R6))) 0).b == 2)&&(((rd (Zg (cvT ([(R6.mk 0 0 0 2 1 1)]:List R6))) 0).c == 0)&&(((rd (Zg (cvT ([(R6.mk 0 0 0 2 1 1)]:List R6))) 0).d == 0)&&true)))&&((((rd (Zg (cvT ([(R6.mk 0 0 0 2 1 1)]:List R6))) 0).e == 2)&&(((rd (Zg (cvT ([(R6.mk 0 0 0 2 1 1)]:List R6))) 0).f == 1)&&(((rd (Zg (cvT ([(R6.mk 0 0 0 2 1 1)]:List R6))) 0).g == 1)&&true)))&&true))) then (bif ((decide ((0:Int)≤4∧4<(((Zg (cvT ([(R6.mk 0 0 0 2 1 1)]:List R6))).length :Nat):Int)))&&true) then (.ret [(.bool (((rd (Zg (cvT ([(R6.mk 0 0 0 2 1 1)]:List R6))) 4).a == 4)&&((((rd (Zg (cvT ([(R6.mk 0 0 0 2 1 1)]:List R6))) 4).b == 0)&&(((rd (Zg (cvT ([(R6.mk 0 0 0 2 1 1)]:List R6))) 4).c == 0)&&(((rd (Zg (cvT ([(R6.mk 0 0 0 2 1 1)]:List R6))) 4).d == 1)&&true)))&&((((rd (Zg (cvT ([(R6.mk 0 0 0 2 1 1)]:List R6))) 4).e == 2)&&(((rd (Zg (cvT ([(R6.mk 0 0 0 2 1 1)]:List R6))) 4).f == 1)&&(((rd (Zg (cvT ([(R6.mk 0 0 0 2 1 1)]:List R6))) 4).g == 1)&&true)))&&true))))]) else .stuck) else (.ret [(.bool false)])) else .stuck) else (.ret [(.bool false)])) else .stuck) else (.ret [(.bool false)])) else .stuck))))) else .stuck) else .stuck)
theorem w0y : ∀s,Xv prog (Zy prog 36) (j2z) (j2z s) (x2k s)
 :=nofun
theorem x5k :Xv prog (Zy prog 36) (j2z) (Zc prog 36 [] true []) (z8w):=(Ws (sl y1v (C':=⟨⟨66,0,true⟩,(Jk prog 36 [1,0] 2),(Zd prog 36 [1,0] 1),none,(Zy prog 10),⟨Yd [(9,(.dat ([(R6.mk 0 0 0 2 1 1)]:List R6).length (Zz ([(R6.mk 0 0 0 2 1 1)]:List R6))))],Uw [] 0,0,[],true⟩,[],.leaf⟩) 26 [] ⟨[],[1],[some [9]],[]⟩ ⟨[(9,.frz 1 ([(R6.mk 0 0 0 2 1 1)]:List R6).length (z3v [(ii 0),(ii 0),(ii 0),(ii 2),(ii 1),(ii 1)] 0 6) (Zz ([(R6.mk 0 0 0 2 1 1)]:List R6)))],[],[]⟩ [] (pp (xZ (.dat 1 (z3v [(ii 0),(ii 0),(ii 0),(ii 2),(ii 1),(ii 1)] 0 6)) 1 (z3v [(ii 0),(ii 0),(ii 0),(ii 2),(ii 1),(ii 1)] 0 6)) (pp (xL 1 ([(R6.mk 0 0 0 2 1 1)]:List R6).length) (pp (xS 1 (z3v [(ii 0),(ii 0),(ii 0),(ii 2),(ii 1),(ii 1)] 0 6) (Zz ([(R6.mk 0 0 0 2 1 1)]:List R6))) nn)))) (lo fun q0_0=>(Ws (sl y1v (C':=⟨⟨66,0,true⟩,(Jk prog 36 [1,1,0] 3),(Zd prog 36 [1,1,0] 1),none,(Zy prog 10),⟨Yd [(1,(.dat (Zg (cvT ([(R6.mk 0 0 0 2 1 1)]:List R6))).length (Zz (Zg (cvT ([(R6.mk 0 0 0 2 1 1)]:List R6)))))),(2,(ii (z7y (cvT ([(R6.mk 0 0 0 2 1 1)]:List R6))))),(16,(.dat ([(R6.mk 0 0 0 1 1 1),(R6.mk 1 1 0 2 2 1)]:List R6).length (Zz ([(R6.mk 0 0 0 1 1 1),(R6.mk 1 1 0 2 2 1)]:List R6))))],Uw [] 0,0,[],true⟩,[],.leaf⟩) 48 [] ⟨[],[2],[some [1,2,16]],[]⟩ ⟨[(16,.frz 2 ([(R6.mk 0 0 0 1 1 1),(R6.mk 1 1 0 2 2 1)]:List R6).length (z3v [(ii 0),(ii 0),(ii 0),(ii 1),(ii 1),(ii 1),(ii 1),(ii 1),(ii 0),(ii 2),(ii 2),(ii 1)] 0 6) (Zz ([(R6.mk 0 0 0 1 1 1),(R6.mk 1 1 0 2 2 1)]:List R6)))],[],[]⟩ [] (pp (xZ (.dat 2 (z3v [(ii 0),(ii 0),(ii 0),(ii 1),(ii 1),(ii 1),(ii 1),(ii 1),(ii 0),(ii 2),(ii 2),(ii 1)] 0 6)) 2 (z3v [(ii 0),(ii 0),(ii 0),(ii 1),(ii 1),(ii 1),(ii 1),(ii 1),(ii 0),(ii 2),(ii 2),(ii 1)] 0 6)) (pp (xL 2 ([(R6.mk 0 0 0 1 1 1),(R6.mk 1 1 0 2 2 1)]:List R6).length) (pp (xS 2 (z3v [(ii 0),(ii 0),(ii 0),(ii 1),(ii 1),(ii 1),(ii 1),(ii 1),(ii 0),(ii 2),(ii 2),(ii 1)] 0 6) (Zz ([(R6.mk 0 0 0 1 1 1),(R6.mk 1 1 0 2 2 1)]:List R6))) (pp (pp (xI R6 ([(R6.mk 0 0 0 2 1 1)]:List R6).length (Zz ([(R6.mk 0 0 0 2 1 1)]:List R6))) (xw q0_0)) nn))))) (lo fun bV=>(lb (fun k0=>(lr 66 36 [1,1,1,0,1,0,0] 1 10 [(0,(.bool false))] (sl y1v 31 [] ⟨[],[],[some [0]],[]⟩ ⟨[],[],[]⟩ (trs 8 []) (tt k0 (pp (pp (xI R6 ([(R6.mk 0 0 0 1 1 1),(R6.mk 1 1 0 2 2 1)]:List R6).length (Zz ([(R6.mk 0 0 0 1 1 1),(R6.mk 1 1 0 2 2 1)]:List R6))) (xw bV)) nn))))) (fun k0=>(lb (fun k1=>(lr 66 36 [1,1,1,0,1,0,0] 1 10 [(0,(.bool false))] (sl y1v 31 [] ⟨[],[],[some [0]],[]⟩ ⟨[],[],[]⟩ [false,false,false,true,true,true,true,true] (tt k1 (tt k0 (pp (pp (xI R6 ([(R6.mk 0 0 0 1 1 1),(R6.mk 1 1 0 2 2 1)]:List R6).length (Zz ([(R6.mk 0 0 0 1 1 1),(R6.mk 1 1 0 2 2 1)]:List R6))) (xw bV)) nn)))))) (fun k1=>(lb (fun k2=>(lr 66 36 [1,1,1,0,1,0,0] 1 10 [(0,(.bool false))] (sl y1v 31 [] ⟨[],[],[some [0]],[]⟩ ⟨[],[],[]⟩ [false,false,false,false,false,true,true,true] (tt k2 (tt k1 (tt k0 (pp (pp (xI R6 ([(R6.mk 0 0 0 1 1 1),(R6.mk 1 1 0 2 2 1)]:List R6).length (Zz ([(R6.mk 0 0 0 1 1 1),(R6.mk 1 1 0 2 2 1)]:List R6))) (xw bV)) nn))))))) (fun k2=>(lb (fun k3=>(lr 66 36 [1,1,1,0,1,0,0] 1 10 [(0,(.bool false))] (sl y1v 31 [] ⟨[],[],[some [0]],[]⟩ ⟨[],[],[]⟩ [false,false,false,false,false,false,false,true] (tt k3 (tt k2 (tt k1 (tt k0 (pp (pp (xI R6 ([(R6.mk 0 0 0 1 1 1),(R6.mk 1 1 0 2 2 1)]:List R6).length (Zz ([(R6.mk 0 0 0 1 1 1),(R6.mk 1 1 0 2 2 1)]:List R6))) (xw bV)) nn)))))))) (fun k3=>(lo fun cC=>(lb (fun k4=>(Ws (sl y1v (C':=⟨⟨66,0,true⟩,(Jk prog 36 [1,1,1,1,1,0] 6),(Zd prog 36 [1,1,1,1,1,0] 1),none,(Zy prog 10),⟨Yd [(1,(.dat (Zg (cvT ([(R6.mk 0 0 0 2 1 1)]:List R6))).length (Zz (Zg (cvT ([(R6.mk 0 0 0 2 1 1)]:List R6)))))),(42,(.bool true)),(43,(.dat (z1a (cvT (Zg (cvT ([(R6.mk 0 0 0 2 1 1)]:List R6))))).length (Zz (z1a (cvT (Zg (cvT ([(R6.mk 0 0 0 2 1 1)]:List R6)))))))),(45,(.dat ([(R6.mk 0 0 0 2 1 1)]:List R6).length (Zz ([(R6.mk 0 0 0 2 1 1)]:List R6))))],Uw [] 0,0,[],true⟩,[],.leaf⟩) 64 [] ⟨[],[1],[some [1,42,43,45]],[]⟩ ⟨[(45,.frz 1 ([(R6.mk 0 0 0 2 1 1)]:List R6).length (z3v [(ii 0),(ii 0),(ii 0),(ii 2),(ii 1),(ii 1)] 0 6) (Zz ([(R6.mk 0 0 0 2 1 1)]:List R6)))],[],[]⟩ [false,false,false,false,false,false,false,false,true,true,true] (pp (xZ (.dat 1 (z3v [(ii 0),(ii 0),(ii 0),(ii 2),(ii 1),(ii 1)] 0 6)) 1 (z3v [(ii 0),(ii 0),(ii 0),(ii 2),(ii 1),(ii 1)] 0 6)) (pp (xL 1 ([(R6.mk 0 0 0 2 1 1)]:List R6).length) (pp (xS 1 (z3v [(ii 0),(ii 0),(ii 0),(ii 2),(ii 1),(ii 1)] 0 6) (Zz ([(R6.mk 0 0 0 2 1 1)]:List R6))) (tt k4 (pp (pp (xI R7 (Zg (cvT ([(R6.mk 0 0 0 2 1 1)]:List R6))).length (Zz (Zg (cvT ([(R6.mk 0 0 0 2 1 1)]:List R6))))) (xw cC)) (tt k3 (tt k2 (tt k1 (tt k0 (pp (pp (xI R6 ([(R6.mk 0 0 0 1 1 1),(R6.mk 1 1 0 2 2 1)]:List R6).length (Zz ([(R6.mk 0 0 0 1 1 1),(R6.mk 1 1 0 2 2 1)]:List R6))) (xw bV)) nn))))))))))) (lo fun cS=>(lb (fun k5=>(lo fun dB=>(lb (fun k6=>(lo fun o0=>(lr 66 3 [1,1,1,1,1,1,1,0] 1 10 [(0,(.bool (((rd (Zg (cvT ([(R6.mk 0 0 0 2 1 1)]:List R6))) 4).a == 4)&&((((rd (Zg (cvT ([(R6.mk 0 0 0 2 1 1)]:List R6))) 4).b == 0)&&(((rd (Zg (cvT ([(R6.mk 0 0 0 2 1 1)]:List R6))) 4).c == 0)&&(((rd (Zg (cvT ([(R6.mk 0 0 0 2 1 1)]:List R6))) 4).d == 1)&&true)))&&((((rd (Zg (cvT ([(R6.mk 0 0 0 2 1 1)]:List R6))) 4).e == 2)&&(((rd (Zg (cvT ([(R6.mk 0 0 0 2 1 1)]:List R6))) 4).f == 1)&&(((rd (Zg (cvT ([(R6.mk 0 0 0 2 1 1)]:List R6))) 4).g == 1)&&true)))&&true)))))] (sl y1v 22 [] ⟨[],[],[some [0]],[]⟩ ⟨[],[],[]⟩ (trs 15 []) (ww o0 (tt k6 (ww dB (tt k5 (pp (pp (xI R6 (z1a (cvT (Zg (cvT ([(R6.mk 0 0 0 2 1 1)]:List R6))))).length (Zz (z1a (cvT (Zg (cvT ([(R6.mk 0 0 0 2 1 1)]:List R6))))))) (pp (xI R6 ([(R6.mk 0 0 0 2 1 1)]:List R6).length (Zz ([(R6.mk 0 0 0 2 1 1)]:List R6))) (xw cS))) nn))))))))) (fun k6=>(lr 66 3 [1,1,1,1,1,1,1,0] 1 10 [(0,(.bool false))] (sl y1v 22 [] ⟨[],[],[some [0]],[]⟩ ⟨[],[],[]⟩ (trs 8 [false,false,false,false,false,false,false]) (tt k6 (ww dB (tt k5 (pp (pp (xI R6 (z1a (cvT (Zg (cvT ([(R6.mk 0 0 0 2 1 1)]:List R6))))).length (Zz (z1a (cvT (Zg (cvT ([(R6.mk 0 0 0 2 1 1)]:List R6))))))) (pp (xI R6 ([(R6.mk 0 0 0 2 1 1)]:List R6).length (Zz ([(R6.mk 0 0 0 2 1 1)]:List R6))) (xw cS))) nn)))))))))) (fun k5=>(lr 66 3 [1,1,1,1,1,1,1,0] 1 10 [(0,(.bool false))] (sl y1v 22 [] ⟨[],[],[some [0]],[]⟩ ⟨[],[],[]⟩ [true,false,false,false,false,false,false,false,false,false,false,false,false,false,false] (tt k5 (pp (pp (xI R6 (z1a (cvT (Zg (cvT ([(R6.mk 0 0 0 2 1 1)]:List R6))))).length (Zz (z1a (cvT (Zg (cvT ([(R6.mk 0 0 0 2 1 1)]:List R6))))))) (pp (xI R6 ([(R6.mk 0 0 0 2 1 1)]:List R6).length (Zz ([(R6.mk 0 0 0 2 1 1)]:List R6))) (xw cS))) nn))))))))) (fun k4=>(lr 66 3 [1,1,1,1,1,1,1,0] 1 10 [(0,(.bool false))] (sl y1v 68 [] ⟨[],[],[some [0]],[]⟩ ⟨[],[],[]⟩ [false,false,false,false,false,false,false,false,false,false,false,false,false,false,false,false,false,false,false,false,false,false,false,false,false,false] (tt k4 (pp (pp (xI R7 (Zg (cvT ([(R6.mk 0 0 0 2 1 1)]:List R6))).length (Zz (Zg (cvT ([(R6.mk 0 0 0 2 1 1)]:List R6))))) (xw cC)) (tt k3 (tt k2 (tt k1 (tt k0 (pp (pp (xI R6 ([(R6.mk 0 0 0 1 1 1),(R6.mk 1 1 0 2 2 1)]:List R6).length (Zz ([(R6.mk 0 0 0 1 1 1),(R6.mk 1 1 0 2 2 1)]:List R6))) (xw bV)) nn))))))))))))))))))))))))
theorem v5m (n:Nat) (vs:List AVal) (h:Yv (x2k) n (z8w)=.ret vs):Jt prog (Zy prog 36) (Zc prog 36 [] true []) vs:=by have:=Ze (w0y) n _ (x5k);rwa [h] at this
end Go.Am
namespace Go.Am
open Go.Proofs Go.Sort Go.Shelf Go.RowKit Go.Lib
theorem chg {L:List R2} (h:Can L) {y:Int} (hy:y∈y0h L) (hS:pt L (y - 1)↔pt L y):False:=by
 obtain ⟨s,hs,h1⟩:=List.mem_flatMap.1 hy;have hp:=h.pos s hs;have sepL: ∀t∈L,t=s∨t.b<s.a∨s.b<t.a:=fun t ht=>by
  obtain ⟨i,hi,ei⟩:=List.getElem_of_mem hs;obtain ⟨j,hj,ej⟩:=List.getElem_of_mem ht;have pw:=List.pairwise_iff_getElem.1 h.sep;rcases Nat.lt_trichotomy i j with q | q | q
  ·have:=pw i j hi hj q;rw [ei,ej] at this;exact .inr (.inr this)
  ·subst q;exact .inl (ej.symm.trans ei)
  ·have:=pw j i hj hi q;rw [ei,ej] at this;exact .inr (.inl this)
 simp only [List.mem_cons,List.not_mem_nil,or_false] at h1;rcases h1 with rfl | rfl
 ·obtain ⟨t,ht,t1,t2⟩:=hS.2 ⟨s,hs,Int.le_refl _,hp⟩;rcases sepL t ht with rfl | q | q <;> omega
 ·obtain ⟨t,ht,t1,t2⟩:=hS.1 ⟨s,hs,by omega,by omega⟩;rcases sepL t ht with rfl | q | q <;> omega
theorem x4d : ∀(l S:List Int),l.Pairwise (· ≠ ·)→(∀x∈l,x∈S)→l.length≤S.length
 | [],S,_,_=>Nat.zero_le _
 | x::l,S,h,hs=>by obtain ⟨h1,h2⟩:=List.pairwise_cons.1 h;have hx:=hs x (by simp);have:=x4d l (S.erase x) h2 fun y hy=>(List.mem_erase_of_ne (fun e=>h1 y hy e.symm)).2 (hs y (by simp [hy]));rw [List.length_erase_of_mem hx] at this;have:=List.length_pos_of_mem hx;simp only [List.length_cons];omega
theorem u6o {a b:List R2} (ha:a.all z0u=true) (hb:b.all z0u=true):(spJ 2 a b).length +(spJ 2 b a).length ≤a.length+b.length:=by
 obtain ⟨c1,p1⟩:=z9f 2 ha hb;obtain ⟨c2,p2⟩:=z9f 2 hb ha;have q1: ∀y,pt (spJ 2 a b) y↔pt a y∧ ¬pt b y:=fun y=>by rw [show pt (spJ 2 a b) y↔_ from p1 y];unfold opB;simp
 have q2: ∀y,pt (spJ 2 b a) y↔pt b y∧ ¬pt a y:=fun y=>by rw [show pt (spJ 2 b a) y↔_ from p2 y];unfold opB;simp
 have f: ∀y:Int,∃z,(z=2*y∧ ¬(pt a (y - 1)↔pt a y))∨(z=2*y+1∧(pt a (y - 1)↔pt a y)):=fun y=>by
  by_cases h:pt a (y - 1)↔pt a y
  ·exact ⟨_,.inr ⟨rfl,h⟩⟩
  ·exact ⟨_,.inl ⟨rfl,h⟩⟩
 have g: ∀y:Int,∃z,(z=2*y+1∧ ¬(pt b (y - 1)↔pt b y))∨(z=2*y∧(pt b (y - 1)↔pt b y)):=fun y=>by
  by_cases h:pt b (y - 1)↔pt b y
  ·exact ⟨_,.inr ⟨rfl,h⟩⟩
  ·exact ⟨_,.inl ⟨rfl,h⟩⟩
 obtain ⟨f,hf⟩:=Classical.axiomOfChoice f;obtain ⟨g,hg⟩:=Classical.axiomOfChoice g;have key:=x4d ((y0h (spJ 2 a b)).map f++(y0h (spJ 2 b a)).map g) ((y0h a).map (2* ·)++(y0h b).map (2* · +1)) (by
  refine List.pairwise_append.2 ⟨List.pairwise_map.2 ((y5y c1).imp fun {x y} h=> ?_),List.pairwise_map.2 ((y5y c2).imp fun {x y} h=> ?_),?_⟩
  ·have:=hf x;have:=hf y;omega
  ·have:=hg x;have:=hg y;omega
  ·intro x hx z hz;obtain ⟨y,hy,rfl⟩:=List.mem_map.1 hx;obtain ⟨y',hy',rfl⟩:=List.mem_map.1 hz;intro e;have e1:y'=y:=by have:=hf y;have:=hg y';omega
   subst e1;have n1:=chg c1 hy;have n2:=chg c2 hy';rw [q1,q1] at n1;rw [q2,q2] at n2;rcases hf y' with ⟨e1,h1⟩ | ⟨e1,h1⟩ <;> rcases hg y' with ⟨e2,h2⟩ | ⟨e2,h2⟩
   ·omega
   ·by_cases h3:pt b y'
    ·exact n1 (by simp [h2,h3])
    ·exact n2 (by simp [h2,h3])
   ·by_cases h3:pt a y'
    ·exact n2 (by simp [h1,h3])
    ·exact n1 (by simp [h1,h3])
   ·omega) (by
  intro x hx;rcases List.mem_append.1 hx with hx | hx
  ·obtain ⟨y,hy,rfl⟩:=List.mem_map.1 hx;have n1:=chg c1 hy;rw [q1,q1] at n1;rcases hf y with ⟨e1,h1⟩ | ⟨e1,h1⟩
   ·refine List.mem_append.2 (.inl (List.mem_map.2 ⟨y,Classical.byContradiction fun hn=>h1 (z9m hn),e1.symm⟩))
   ·refine List.mem_append.2 (.inr (List.mem_map.2 ⟨y,Classical.byContradiction fun hn=>n1 (by rw [h1,z9m hn]),e1.symm⟩))
  ·obtain ⟨y,hy,rfl⟩:=List.mem_map.1 hx;have n1:=chg c2 hy;rw [q2,q2] at n1;rcases hg y with ⟨e1,h1⟩ | ⟨e1,h1⟩
   ·refine List.mem_append.2 (.inr (List.mem_map.2 ⟨y,Classical.byContradiction fun hn=>h1 (z9m hn),e1.symm⟩))
   ·refine List.mem_append.2 (.inl (List.mem_map.2 ⟨y,Classical.byContradiction fun hn=>n1 (by rw [h1,z9m hn]),e1.symm⟩)))
 simp only [List.length_append,List.length_map,z1g] at key;omega
theorem y0i : ∀(l m:List Int),l.Pairwise (· < ·)→m.Pairwise (· < ·)→(∀x,x∈l↔x∈m)→l=m
 | [],[],_,_,_=>rfl
 | [],y::m,_,_,h=>by have:=(h y).2 (by simp);cases this
 | x::l,[],_,_,h=>by have:=(h x).1 (by simp);cases this
 | x::l,y::m,hl,hm,h=>by
  obtain ⟨l1,l2⟩:=List.pairwise_cons.1 hl;obtain ⟨m1,m2⟩:=List.pairwise_cons.1 hm;have e:x=y:=by
   have hx:=(h x).1 (by simp);have hy:=(h y).2 (by simp);rcases List.mem_cons.1 hx with hx | hx
   ·exact hx
   ·rcases List.mem_cons.1 hy with hy | hy
    ·exact hy.symm
    ·have:=l1 y hy;have:=m1 x hx;omega
  subst e
  congr 1
  refine y0i l m l2 m2 fun z=>⟨fun hz=> ?_,fun hz=> ?_⟩
  ·have:=l1 z hz;rcases List.mem_cons.1 ((h z).1 (by simp [hz])) with q | q
   ·omega
   ·exact q
  ·have:=m1 z hz;rcases List.mem_cons.1 ((h z).2 (by simp [hz])) with q | q
   ·omega
   ·exact q
namespace Dim
variable {α β:Type} {D:Dim α β}
theorem w4b (l:List α):(D.cuts l).Pairwise (· < ·):=by show (Jj (D.ends l)).Pairwise (· < ·);rw [Jz];exact (Xn _).1
theorem w4a (l:List α) (x:Int):x∈D.cuts l↔x∈D.ends l:=by show x∈Jj (D.ends l)↔_;rw [Jz];exact (Xn _).2 x
theorem w3z (l:List α) (x:Int):x∈D.ends l↔ ∃r∈l,x=D.lo r∨x=D.hi r:=by
 induction l with
 | nil=>exact ⟨fun h=>(by cases h),fun ⟨r,h,_⟩=>(by cases h)⟩
 | cons r l ih=>
  show x∈D.lo r::D.hi r::D.ends l↔_;rw [List.mem_cons,List.mem_cons,ih];constructor
  ·rintro (h | h | ⟨s,hs,h⟩)
   ·exact ⟨r,by simp,.inl h⟩
   ·exact ⟨r,by simp,.inr h⟩
   ·exact ⟨s,by simp [hs],h⟩
  ·rintro ⟨s,hs,h⟩;rcases List.mem_cons.1 hs with rfl | hs
   ·rcases h with h | h
    ·exact .inl h
    ·exact .inr (.inl h)
   ·exact .inr (.inr ⟨s,hs,h⟩)
theorem cuts_comm (a b:List α):D.cuts (a++b)=D.cuts (b++a):=y0i _ _ (w4b _) (w4b _) fun x=>by
 rw [w4a,w4a,w3z,w3z];constructor <;> exact fun ⟨r,hr,h⟩=>⟨r,by rw [List.mem_append] at*;exact hr.symm,h⟩
end Dim
theorem v7y {a b:List R4} (ha: ∀r∈a,Vw r=true) (hb: ∀r∈b,Vw r=true):(rgJ 2 a b).length +(rgJ 2 b a).length ≤(a.length+b.length)*(a.length+b.length):=by
 have hv: ∀r∈a++b,D4.lo r<D4.hi r:=fun r hr=>by
  have hv:Vw r=true:=by
   rcases List.mem_append.1 hr with h | h
   ·exact ha r h
   ·exact hb r h
  simp only [Vw,Bool.and_eq_true,decide_eq_true_eq] at hv;exact hv.1
 have g1:=D4.goS_length (fun x=>spJ 2 (D4.inn a x) (D4.inn b x)) (D4.cuts (a++b)) ((D4.cuts (a++b)).length - 1) 0 ⟨[],[],0,0⟩;have g2:=D4.goS_length (fun x=>spJ 2 (D4.inn b x) (D4.inn a x)) (D4.cuts (a++b)) ((D4.cuts (a++b)).length - 1) 0 ⟨[],[],0,0⟩;have h2:=D4.open_sum (a++b) hv ((D4.cuts (a++b)).length - 1) (Nat.sub_le _ _);have e1:(rgJ 2 b a).length =(D4.goS (fun x=>spJ 2 (D4.inn b x) (D4.inn a x)) (D4.cuts (a++b)) ((D4.cuts (a++b)).length - 1) 0 ⟨[],[],0,0⟩).out.length :=by unfold rgJ;rw [Dim.cuts_comm b a]
 have e2:(rgJ 2 a b).length =(D4.goS (fun x=>spJ 2 (D4.inn a x) (D4.inn b x)) (D4.cuts (a++b)) ((D4.cuts (a++b)).length - 1) 0 ⟨[],[],0,0⟩).out.length :=rfl;rw [e1,e2];rw [List.length_append] at h2;refine Nat.le_trans (Nat.add_le_add g1 g2) (Nat.le_trans ?_ h2);simp only [List.length_nil,Nat.zero_add];generalize (D4.cuts (a++b)).length - 1=k
 induction k with
 | zero=>exact Nat.le_refl _
 | succ k ih=>rw [List.range_succ,List.map_append,List.map_append,List.map_append,List.sum_append,List.sum_append,List.sum_append];have:=u6o (Vp ha (rd (D4.cuts (a++b)) k)) (Vp hb (rd (D4.cuts (a++b)) k));simp only [List.map_cons,List.map_nil,List.sum_cons,List.sum_nil];rw [D4.inn_append,List.length_append];omega
end Go.Am
namespace Go.Am
open Go.Proofs Go.Sort Go.Shelf Go.RowKit Go.Lib
def Ax.inB (q:Ax) (r:R6) (p u v:Int):Prop:=(q.lo r≤p∧p<q.hi r)∧((q.rc r).a ≤u∧u<(q.rc r).c)∧((q.rc r).b ≤v∧v<(q.rc r).d)
def Ax.inL (q:Ax) (L:List R6) (p u v:Int):Prop:= ∃r∈L,q.inB r p u v
def Ax.to (q:Ax) (p u v:Int):Int×Int×Int:=match q with
 | .x =>(p,u,v)
 | .y =>(u,p,v)
 | .z =>(u,v,p)
theorem Ax.inL_S (q:Ax) (L:List R6) (p u v:Int):q.inL L p u v↔inS L (q.to p u v).1 (q.to p u v).2.1 (q.to p u v).2.2:=by
 cases q <;> constructor <;> rintro ⟨r,hr,h1,h2,h3⟩
 ·exact ⟨r,hr,h1,h2,h3⟩
 ·exact ⟨r,hr,h1,h2,h3⟩
 ·exact ⟨r,hr,h2,h1,h3⟩
 ·exact ⟨r,hr,h2,h1,h3⟩
 ·exact ⟨r,hr,h2,h3,h1⟩
 ·exact ⟨r,hr,h3,h1,h2⟩
theorem u4a (l:List R4) (u v:Int):ptL Wy.inB l (u,v)↔ ∃r∈l,(r.a≤u∧u<r.c)∧(r.b≤v∧v<r.d):=by
 constructor
 ·rintro ⟨r,hr,h1,h2,h3,h4⟩;exact ⟨r,hr,⟨h1,h2⟩,h3,h4⟩
 ·rintro ⟨r,hr,⟨h1,h2⟩,h3,h4⟩;exact ⟨r,hr,h1,h2,h3,h4⟩
theorem y1h (q:Ax) (L:List R6) (p u v:Int):ptL Wy.inB (z2e q L p) (u,v)↔q.inL L p u v:=by
 rw [u4a];constructor
 ·rintro ⟨s,hs,h⟩;obtain ⟨r,hr,rfl⟩:=List.mem_map.1 hs;obtain ⟨h1,h2⟩:=List.mem_filter.1 hr;simp only [Bool.and_eq_true,decide_eq_true_eq] at h2;exact ⟨r,h1,h2,h⟩
 ·rintro ⟨r,hr,h1,h2⟩;exact ⟨q.rc r,List.mem_map.2 ⟨r,List.mem_filter.2 ⟨hr,by simp only [Bool.and_eq_true,decide_eq_true_eq];exact h1⟩,rfl⟩,h2⟩
theorem Ax.val (q:Ax) {r:R6} (h:Ko r=true):Vw (q.rc r)=true∧q.lo r<q.hi r∧ -1000000≤q.lo r∧q.hi r≤1000000:=by
 have:=Kz h;cases q
 ·refine ⟨?_,by show r.a<r.d;omega,by show _≤r.a;omega,by show r.d≤_;omega⟩;show Vw ⟨r.b,r.c,r.e,r.f⟩=true;simp only [Vw,Bool.and_eq_true,decide_eq_true_eq]
  (repeat' apply And.intro) <;> omega
 ·refine ⟨?_,by show r.b<r.e;omega,by show _≤r.b;omega,by show r.e≤_;omega⟩;show Vw ⟨r.a,r.c,r.d,r.f⟩=true;simp only [Vw,Bool.and_eq_true,decide_eq_true_eq]
  (repeat' apply And.intro) <;> omega
 ·refine ⟨?_,by show r.c<r.f;omega,by show _≤r.c;omega,by show r.f≤_;omega⟩;show Vw ⟨r.a,r.b,r.d,r.e⟩=true;simp only [Vw,Bool.and_eq_true,decide_eq_true_eq]
  (repeat' apply And.intro) <;> omega
theorem v4r (q:Ax) {L:List R6} (hv: ∀r∈L,Ko r=true) (p:Int): ∀s∈z2e q L p,Vw s=true:=fun s hs=>by obtain ⟨r,hr,rfl⟩:=List.mem_map.1 hs;exact (q.val (hv r (List.mem_filter.1 hr).1)).1
theorem w0i (q:Ax) (L:List R6) (p:Int):(z2e q L p).length ≤L.length:=by unfold z2e;rw [List.length_map];exact List.length_filter_le _ _
theorem z1f {l:List R4} (hc:Wy.can l) (hb: ∀u v,ptL Wy.inB l (u,v)→(-1000000≤u∧u<1000000)∧(-1000000≤v∧v<1000000)): ∀r∈l,Vw r=true:=fun r hr=>by
 have hp:r.a<r.c∧r.b<r.d:=by obtain ⟨G,hG,e⟩:=hc;rw [e] at hr;obtain ⟨g,hg,hr⟩:=List.mem_flatMap.1 hr;obtain ⟨b,hb,rfl⟩:=List.mem_map.1 hr;obtain ⟨h1,h2,_⟩:=hG.all g hg;exact ⟨h1,Can.pos h2 b hb⟩
 have h1:=hb r.a r.b ((u4a _ _ _).2 ⟨r,hr,by omega,by omega⟩);have h2:=hb (r.c - 1) (r.d - 1) ((u4a _ _ _).2 ⟨r,hr,by omega,by omega⟩);simp only [Vw,Bool.and_eq_true,decide_eq_true_eq];omega
theorem z2m {l:List R4} (hv: ∀r∈l,Vw r=true) {u v:Int} (h:ptL Wy.inB l (u,v)):(-1000000≤u∧u<1000000)∧(-1000000≤v∧v<1000000):=by obtain ⟨r,hr,h1,h2⟩:=(u4a _ _ _).1 h;have:=hv r hr;simp only [Vw,Bool.and_eq_true,decide_eq_true_eq] at this;omega
structure Few (c l:List R4) (n:Nat):Prop where
 can:Wy.can l
 pts: ∀u v,ptL Wy.inB l (u,v)↔ptL Wy.inB c (u,v)
 val: ∀r∈l,Vw r=true
 len:l.length≤n*n
 sec: ∀x,(D4.inn l x).length ≤n
theorem v1l {l:List R4} (hv: ∀r∈l,Vw r=true) (hl:l.length≤400):(D4.out l).length ≤l.length*l.length:=by
 have h:=Kb 0 hv (fun r (h:r∈([]:List R4))=>by cases h);have e:rgJ 0 l []=D4.out l:=Wy.uniq _ _ h.1 (Qk hv hl).1 fun p=>by rw [h.2.1,(Qk hv hl).2];have: ¬ptL Wy.inB ([]:List R4) p:=z4i _ _;by_cases hp:ptL Wy.inB l p <;> simp [opB,hp,this]
 have:=h.2.2;rw [e] at this;exact this
theorem y3g {l:List R4} (hc:Wy.can l) (x:Int):y7w.can (D4.inn l x):=by obtain ⟨G,hG,e⟩:=hc;rw [e];exact Dim.inn_can y6p y7w x G hG
theorem j0u {c:List R4} (hv: ∀r∈c,Vw r=true) (hl:c.length≤20):Few c (D4.out c) c.length:=by
 obtain ⟨h1,h2⟩:=Qk hv (by omega);refine ⟨h1,fun u v=>h2 (u,v),z1f h1 fun u v h=>z2m hv ((h2 _).1 h),v1l hv (by omega),fun x=> ?_⟩;have h3:=z1n 0 (a:=D4.inn c x) (b:=[]) (Vp hv x) rfl;have h4:=z9f 0 (a:=D4.inn c x) (b:=[]) (Vp hv x) rfl;have e:spJ 0 (D4.inn c x) []=D4.inn (D4.out c) x:=y7w.uniq _ _ h4.1 (y3g h1 x) fun y=>by
  rw [h4.2];have a1:=z4j c x y;have a2:=z4j (D4.out c) x y;have: ¬pt [] y:=fun ⟨_,h,_⟩=>by cases h
  show _↔pt (D4.inn (D4.out c) x) y;rw [a2,h2,←a1];by_cases hp:pt (D4.inn c x) y <;> simp [opB,hp,this]
 rw [←e];have:=D4.inn_length c x;simp only [List.length_nil] at h3;omega
theorem j0t {c:List R4} (hv: ∀r∈c,Vw r=true) (hl:c.length≤20):Zb c=D4.out c∧Xc c=0:=by refine z7n hv (by omega) (Nat.le_trans (v1l hv (by omega)) ?_);exact Nat.le_trans (Nat.mul_le_mul hl hl) (by decide)
theorem w2g {l:List R4} (hl:l.length≤400) (hv: ∀r∈l,Vw r=true) (hc:Wy.can l):y6q l=0:=by
 obtain ⟨h1,h2⟩:=Qk hv hl;have e:D4.out l=l:=Wy.uniq _ _ h1 hc h2;have m1:z1b l=0:=by show y9x (D4.out l).length =0;rw [e];unfold y9x;rw [decide_eq_false (by omega)];rfl
 have m0:Wp l=l:=by unfold Wp x2b;rw [show u5k l=0 from m1,e];rfl
 unfold y6q rgcF;rw [decide_eq_false (by omega),List.all_eq_true.2 hv,m1,m0,show Jv l l=true from decide_eq_true rfl];rfl
theorem v3y {E:Int→Int} {cs:List Int} (h: ∀x,E x=0): ∀k i,w8p E cs k i=0
 | 0,i=>rfl
 | k+1,i=>by show (bif E (rd cs i) != 0 then E (rd cs i) else w8p E cs k (i+1))=0;rw [h];exact v3y h k (i+1)
theorem x0x (o:Op) {a b:List R4} (la:a.length≤400) (lb:b.length≤400) (va: ∀r∈a,Vw r=true) (vb: ∀r∈b,Vw r=true) (ca:Wy.can a) (cb:Wy.can b)
  (sa: ∀x,(D4.inn a x).length +(D4.inn b x).length ≤400) (lj:(rgJ o.k a b).length ≤400):rgE o a b=0:=by
 have sc: ∀(l:List R4) (x:Int),l.length≤400→(∀r∈l,Vw r=true)→Wy.can l→y8d (D4.inn l x)=0:=fun l x hl hv hc=>
  (x0p _).2 ⟨Nat.le_trans (D4.inn_length l x) hl,Vp hv x,y3g hc x⟩
 have hz: ∀x,rgA o a b x=0:=fun x=>by unfold rgA spE;rw [sc a x la va ca,sc b x lb vb cb];have:=z1n o.k (Vp va x) (Vp vb x);show y9x _=0;unfold y9x;rw [decide_eq_false (by have:=sa x;omega)];rfl
 unfold rgE;rw [w2g la va ca,w2g lb vb cb,v3y hz];show y9x _=0;unfold y9x;rw [decide_eq_false (by omega)];rfl
def hiL (q:Ax) (L:List R6) (p:Int):List R4:=(L.filter fun r=>decide (q.hi r=p)).map q.rc
def loL (q:Ax) (L:List R6) (p:Int):List R4:=(L.filter fun r=>decide (q.lo r=p)).map q.rc
theorem y3s (q:Ax) {L:List R6} (hv: ∀r∈L,q.lo r<q.hi r) (p:Int):(hiL q L p).length +(loL q L p).length ≤L.length:=by
 unfold hiL loL;rw [List.length_map,List.length_map]
 induction L with
 | nil=>exact Nat.le_refl _
 | cons r L ih=>
  have ih:=ih fun s hs=>hv s (by simp [hs]);have:=hv r (by simp);rw [List.filter_cons,List.filter_cons];by_cases h1:q.hi r=p
  ·rw [if_pos (by simp [h1]),if_neg (by simp;omega)];simp only [List.length_cons];omega
  ·rw [if_neg (by simp [h1])];by_cases h2:q.lo r=p
   ·rw [if_pos (by simp [h2])];simp only [List.length_cons];omega
   ·rw [if_neg (by simp [h2])];simp only [List.length_cons];omega
theorem v3j (q:Ax) (L:List R6) (p u v:Int):ptL Wy.inB (hiL q L p) (u,v)↔ ∃r∈L,q.hi r=p∧((q.rc r).a ≤u∧u<(q.rc r).c)∧((q.rc r).b ≤v∧v<(q.rc r).d):=by
 rw [u4a];constructor
 ·rintro ⟨s,hs,h⟩;obtain ⟨r,hr,rfl⟩:=List.mem_map.1 hs;obtain ⟨h1,h2⟩:=List.mem_filter.1 hr;exact ⟨r,h1,of_decide_eq_true h2,h⟩
 ·rintro ⟨r,hr,h1,h2⟩;exact ⟨q.rc r,List.mem_map.2 ⟨r,List.mem_filter.2 ⟨hr,decide_eq_true h1⟩,rfl⟩,h2⟩
theorem v2w (q:Ax) (L:List R6) (p u v:Int):ptL Wy.inB (loL q L p) (u,v)↔ ∃r∈L,q.lo r=p∧((q.rc r).a ≤u∧u<(q.rc r).c)∧((q.rc r).b ≤v∧v<(q.rc r).d):=by
 rw [u4a];constructor
 ·rintro ⟨s,hs,h⟩;obtain ⟨r,hr,rfl⟩:=List.mem_map.1 hs;obtain ⟨h1,h2⟩:=List.mem_filter.1 hr;exact ⟨r,h1,of_decide_eq_true h2,h⟩
 ·rintro ⟨r,hr,h1,h2⟩;exact ⟨q.rc r,List.mem_map.2 ⟨r,List.mem_filter.2 ⟨hr,decide_eq_true h1⟩,rfl⟩,h2⟩
theorem Ap6.not (q:Ax) {r s:R6} (h:Ap6 r s) {p u v:Int} (h1:q.inB r p u v) (h2:q.inB s p u v):False:=by obtain ⟨a1,a2,a3⟩:=h1;obtain ⟨b1,b2,b3⟩:=h2;unfold Ap6 at h;cases q <;> simp only [Ax.lo,Ax.hi,Ax.rc] at* <;> omega
theorem u4c {L:List R6} (hL:L.Pairwise Ap6) (q:Ax) {r s:R6} (hr:r∈L) (hs:s∈L) {p u v:Int} (h1:q.inB r p u v) (h2:q.inB s p u v):r=s:=by
 obtain ⟨i,hi,ei⟩:=List.getElem_of_mem hr;obtain ⟨j,hj,ej⟩:=List.getElem_of_mem hs;have pw:=List.pairwise_iff_getElem.1 hL;rcases Nat.lt_trichotomy i j with h | h | h
 ·have:=pw i j hi hj h;rw [ei,ej] at this;exact (this.not q h1 h2).elim
 ·subst h;exact ei.symm.trans ej
 ·have:=pw j i hj hi h;rw [ei,ej] at this;exact (this.not q h2 h1).elim
theorem x0h (q:Ax) {L:List R6} (hL:L.Pairwise Ap6) (hv: ∀r∈L,q.lo r<q.hi r) (p u v:Int):
  (q.inL L (p - 1) u v∧ ¬q.inL L p u v)↔(ptL Wy.inB (hiL q L p) (u,v)∧ ¬ptL Wy.inB (loL q L p) (u,v)):=by
 rw [v3j,v2w];constructor
 ·rintro ⟨⟨r,hr,h1,h2⟩,h3⟩;refine ⟨⟨r,hr,?_,h2⟩,fun ⟨s,hs,k1,k2⟩=>h3 ⟨s,hs,⟨by omega,by have:=hv s hs;omega⟩,k2⟩⟩;refine Classical.byContradiction fun hn=>h3 ⟨r,hr,⟨by omega,by omega⟩,h2⟩
 ·rintro ⟨⟨r,hr,h1,h2⟩,h3⟩;have hlt:=hv r hr;have hb:q.inB r (p - 1) u v:=⟨⟨by omega,by omega⟩,h2⟩
  refine ⟨⟨r,hr,hb⟩,fun ⟨s,hs,k1,k2⟩=> ?_⟩;by_cases e:q.lo s=p
  ·exact h3 ⟨s,hs,e,k2⟩
  ·have:=u4c hL q hr hs hb ⟨⟨by omega,by omega⟩,k2⟩;subst this;omega
theorem y0e (q:Ax) {L:List R6} (hL:L.Pairwise Ap6) (hv: ∀r∈L,q.lo r<q.hi r) (p u v:Int):
  (q.inL L p u v∧ ¬q.inL L (p - 1) u v)↔(ptL Wy.inB (loL q L p) (u,v)∧ ¬ptL Wy.inB (hiL q L p) (u,v)):=by
 rw [v3j,v2w];constructor
 ·rintro ⟨⟨r,hr,h1,h2⟩,h3⟩;refine ⟨⟨r,hr,?_,h2⟩,fun ⟨s,hs,k1,k2⟩=>h3 ⟨s,hs,⟨by have:=hv s hs;omega,by omega⟩,k2⟩⟩;refine Classical.byContradiction fun hn=>h3 ⟨r,hr,⟨by omega,by omega⟩,h2⟩
 ·rintro ⟨⟨r,hr,h1,h2⟩,h3⟩;have hlt:=hv r hr;have hb:q.inB r p u v:=⟨⟨by omega,by omega⟩,h2⟩
  refine ⟨⟨r,hr,hb⟩,fun ⟨s,hs,k1,k2⟩=> ?_⟩;by_cases e:q.hi s=p
  ·exact h3 ⟨s,hs,e,k2⟩
  ·have:=u4c hL q hr hs hb ⟨⟨by omega,by omega⟩,k2⟩;subst this;omega
def upF (q:Ax) (L:List R6) (p:Int):List R4:=rgJ 2 (D4.out (z2e q L (p - 1))) (D4.out (z2e q L p))
def dnF (q:Ax) (L:List R6) (p:Int):List R4:=rgJ 2 (D4.out (z2e q L p)) (D4.out (z2e q L (p - 1)))
section
variable (q:Ax) {L:List R6} (hv: ∀r∈L,Ko r=true) (hl:L.length≤20) (hL:L.Pairwise Ap6)
include hv hl
theorem fw (p:Int):Few (z2e q L p) (D4.out (z2e q L p)) (z2e q L p).length :=j0u (v4r q hv p) (Nat.le_trans (w0i q L p) hl)
theorem y3r (p:Int):Wy.can (upF q L p)∧ ∀u v,ptL Wy.inB (upF q L p) (u,v)↔(q.inL L (p - 1) u v∧ ¬q.inL L p u v):=by have f1:=fw q hv hl (p - 1);have f2:=fw q hv hl p;obtain ⟨h1,h2,_⟩:=Kb 2 f1.val f2.val;refine ⟨h1,fun u v=> ?_⟩;rw [show ptL Wy.inB (upF q L p) (u,v)↔_ from h2 (u,v),←y1h,←y1h,←f1.pts,←f2.pts];simp [opB]
theorem y5t (p:Int):Wy.can (dnF q L p)∧ ∀u v,ptL Wy.inB (dnF q L p) (u,v)↔(q.inL L p u v∧ ¬q.inL L (p - 1) u v):=by have f1:=fw q hv hl (p - 1);have f2:=fw q hv hl p;obtain ⟨h1,h2,_⟩:=Kb 2 f2.val f1.val;refine ⟨h1,fun u v=> ?_⟩;rw [show ptL Wy.inB (dnF q L p) (u,v)↔_ from h2 (u,v),←y1h,←y1h,←f1.pts,←f2.pts];simp [opB]
include hL
theorem x0g (p:Int):(upF q L p).length +(dnF q L p).length ≤((hiL q L p).length +(loL q L p).length)*((hiL q L p).length +(loL q L p).length):=by
 have hr: ∀r∈L,q.lo r<q.hi r:=fun r h=>(q.val (hv r h)).2.1;have va: ∀s∈hiL q L p,Vw s=true:=fun s hs=>by obtain ⟨r,hr,rfl⟩:=List.mem_map.1 hs;exact (q.val (hv r (List.mem_filter.1 hr).1)).1
 have vb: ∀s∈loL q L p,Vw s=true:=fun s hs=>by obtain ⟨r,hr,rfl⟩:=List.mem_map.1 hs;exact (q.val (hv r (List.mem_filter.1 hr).1)).1
 obtain ⟨a1,a2,_⟩:=Kb 2 va vb;obtain ⟨b1,b2,_⟩:=Kb 2 vb va;obtain ⟨u1,u2⟩:=y3r q hv hl p;obtain ⟨d1,d2⟩:=y5t q hv hl p;have e1:upF q L p=rgJ 2 (hiL q L p) (loL q L p):=Wy.uniq _ _ u1 a1 fun ⟨u,v⟩=>by rw [u2,x0h q hL hr,a2];simp [opB]
 have e2:dnF q L p=rgJ 2 (loL q L p) (hiL q L p):=Wy.uniq _ _ d1 b1 fun ⟨u,v⟩=>by rw [d2,y0e q hL hr,b2];simp [opB]
 rw [e1,e2];exact v7y va vb
theorem y9o (p:Int):Xc (z2e q L p)=0∧Zb (z2e q L p)=D4.out (z2e q L p)∧rgE .d (D4.out (z2e q L (p - 1))) (D4.out (z2e q L p))=0∧rgE .d (D4.out (z2e q L p)) (D4.out (z2e q L (p - 1)))=0:=by
 have hr: ∀r∈L,q.lo r<q.hi r:=fun r h=>(q.val (hv r h)).2.1;have f1:=fw q hv hl (p - 1);have f2:=fw q hv hl p;have l1:=w0i q L (p - 1);have l2:=w0i q L p;have t:=y3s q hr p;have hud:=x0g q hv hl hL p;have h4:((hiL q L p).length +(loL q L p).length)*((hiL q L p).length +(loL q L p).length)≤400:=Nat.le_trans (Nat.mul_le_mul (Nat.le_trans t hl) (Nat.le_trans t hl)) (by decide);obtain ⟨m0,m1⟩:=j0t (v4r q hv p) (Nat.le_trans l2 hl);have n1:=Nat.le_trans f1.len (Nat.le_trans (Nat.mul_le_mul (Nat.le_trans l1 hl) (Nat.le_trans l1 hl)) (show 20*20≤400 by decide));have n2:=Nat.le_trans f2.len (Nat.le_trans (Nat.mul_le_mul (Nat.le_trans l2 hl) (Nat.le_trans l2 hl)) (show 20*20≤400 by decide));refine ⟨m1,m0,x0x .d n1 n2 f1.val f2.val f1.can f2.can (fun x=> ?_) ?_,x0x .d n2 n1 f2.val f1.val f2.can f1.can (fun x=> ?_) ?_⟩
 ·have:=f1.sec x;have:=f2.sec x;omega
 ·show (upF q L p).length ≤400;omega
 ·have:=f1.sec x;have:=f2.sec x;omega
 ·show (dnF q L p).length ≤400;omega
end
end Go.Am
namespace Go.Am
open Go.Proofs Go.Sort Go.Shelf Go.RowKit Go.Lib
def fcF (q:Ax) (s:Bool) (L:List R6) (p:Int):List R4:=match s with
 | true=>upF q L p
 | false=>dnF q L p
theorem z9o (q:Ax) (L:List R6):(plQ q L).Pairwise (· < ·):=by unfold plQ;rw [Jz];exact (Xn _).1
theorem z6i (q:Ax) (L:List R6) (p:Int):p∈plQ q L↔ ∃r∈L,p=q.lo r∨p=q.hi r:=by
 unfold plQ;rw [Jz,(Xn _).2 p];unfold z3u;constructor
 ·intro h;obtain ⟨r,hr,h⟩:=List.mem_flatMap.1 h;simp only [List.mem_cons,List.not_mem_nil,or_false] at h;exact ⟨r,hr,h⟩
 ·rintro ⟨r,hr,h⟩;exact List.mem_flatMap.2 ⟨r,hr,by simp only [List.mem_cons,List.not_mem_nil,or_false];exact h⟩
theorem x5b (E:Int→Int): ∀l:List Int,(∀p∈l,E p=0)→v4i E l=0
 | [],_=>rfl
 | p::l,h=>by unfold v4i;rw [h p (by simp)];exact x5b E l fun x hx=>h x (by simp [hx])
theorem w9b (a:Int): ∀P:List Int,P.Pairwise (· < ·)→(P.map fun p=>if a=p then 1 else 0).sum ≤1
 | [],_=>Nat.zero_le _
 | p::P,h=>by
  obtain ⟨h1,h2⟩:=List.pairwise_cons.1 h;rw [List.map_cons,List.sum_cons];by_cases e:a=p
  ·rw [if_pos e];have:(P.map fun p=>if a=p then 1 else 0)=P.map fun _=>0:=List.map_congr_left fun x hx=>by have:=h1 x hx;rw [if_neg (by omega)]
   rw [this];have: ∀l:List Int,(l.map fun _=>0).sum =0:=fun l=>by induction l with
    | nil=>rfl
    | cons _ _ ih=>rw [List.map_cons,List.sum_cons,ih]
   rw [this];exact Nat.le_refl _
  ·rw [if_neg e];have:=w9b a P h2;omega
theorem y3v (f:R6→Int) (P:List Int) (hP:P.Pairwise (· < ·)) (g:R6→R4): ∀L:List R6,(P.map fun p=>((L.filter fun r=>decide (f r=p)).map g).length).sum ≤L.length
 | []=>by
  have: ∀l:List Int,(l.map fun p=>((([]:List R6).filter fun r=>decide (f r=p)).map g).length).sum =0:=fun l=>by induction l with
   | nil=>rfl
   | cons _ _ ih=>rw [List.map_cons,List.sum_cons,ih];rfl
  rw [this];exact Nat.zero_le _
 | r::L=>by
  have ih:=y3v f P hP g L;have h1:=w9b (f r) P hP;have: ∀l:List Int,(l.map fun p=>(((r::L).filter fun r=>decide (f r=p)).map g).length).sum =(l.map fun p=>if f r=p then 1 else 0).sum +(l.map fun p=>((L.filter fun r=>decide (f r=p)).map g).length).sum :=fun l=>by
   induction l with
   | nil=>rfl
   | cons p l ih=>
    rw [List.map_cons,List.map_cons,List.map_cons,List.sum_cons,List.sum_cons,List.sum_cons,ih,List.filter_cons];by_cases e:f r=p
    ·rw [if_pos (decide_eq_true e),if_pos e,List.map_cons,List.length_cons];omega
    ·rw [if_neg (by simp [e]),if_neg e];omega
  rw [this,List.length_cons];omega
theorem y9m {α β:Type} {f g:α→List β}: ∀{l:List α},(∀a∈l,f a=g a)→l.flatMap f=l.flatMap g
 | [],_=>rfl
 | a::l,h=>by rw [List.flatMap_cons,List.flatMap_cons,h a (by simp),y9m fun x hx=>h x (by simp [hx])]
theorem z6r {α β:Type} (f:α→List β): ∀l:List α,(l.flatMap f).length =(l.map fun a=>(f a).length).sum
 | []=>rfl
 | a::l=>by rw [List.flatMap_cons,List.length_append,List.map_cons,List.sum_cons,z6r f l]
section
variable {L:List R6} (hv: ∀r∈L,Ko r=true) (hl:L.length≤20) (hL:L.Pairwise Ap6)
include hv hl hL
theorem w3c (q:Ax) (s:Bool) (p:Int) (hp: -1000000≤p∧p≤1000000):Ur q L p s=0∧Vx q L p s=fcF q s L p:=by
 have w:IntKind.wrap .i64 (p - 1)=p - 1:=Zq (by omega);obtain ⟨a1,a2,a3,a4⟩:=y9o q hv hl hL p;obtain ⟨b1,b2,_,_⟩:=y9o q hv hl hL (p - 1);have e:w6k q L p=0:=by unfold w6k Jm;rw [w,b1,a1];rfl
 unfold Ur Vx;rw [e,w];unfold Ya;rw [a2,b2];cases s with
 | true=>exact ⟨a3,by show Wr .d _ _=_;unfold Wr;rw [a3];rfl⟩
 | false=>exact ⟨a4,by show Wr .d _ _=_;unfold Wr;rw [a4];rfl⟩
theorem v1i (q:Ax) {p:Int} (h:p∈plQ q L): -1000000≤p∧p≤1000000:=by
 have _u:=hl;have _v:=hL;obtain ⟨r,hr,h⟩:=(z6i q L p).1 h;obtain ⟨_,h1,h2,h3⟩:=q.val (hv r hr);rcases h with rfl | rfl <;> omega
theorem v4q (q:Ax) (s:Bool):dM q s L=(plQ q L).flatMap fun p=>(fcF q s L p).map (qd q s p):=by unfold dM v6b;exact y9m fun p hp=>by rw [(w3c hv hl hL q s p (v1i hv hl hL q hp)).2]
theorem v4m (q:Ax) (s:Bool):z8p q s L=0:=x5b _ _ fun p hp=>(w3c hv hl hL q s p (v1i hv hl hL q hp)).1
theorem w0h (q:Ax):(dM q true L).length +(dM q false L).length ≤800:=by
 rw [v4q hv hl hL,v4q hv hl hL,z6r,z6r];have hr: ∀r∈L,q.lo r<q.hi r:=fun r h=>(q.val (hv r h)).2.1;have key: ∀P:List Int,(P.map fun p=>((fcF q true L p).map (qd q true p)).length).sum +(P.map fun p=>((fcF q false L p).map (qd q false p)).length).sum ≤20*((P.map fun p=>(hiL q L p).length).sum +(P.map fun p=>(loL q L p).length).sum):=fun P=>by
  induction P with
  | nil=>exact Nat.le_refl _
  | cons p P ih=>simp only [List.map_cons,List.sum_cons,List.length_map] at ih ⊢;have h1:=x0g q hv hl hL p;have h2:=Nat.le_trans (y3s q hr p) hl;have h3:=Nat.mul_le_mul_right ((hiL q L p).length +(loL q L p).length) h2;have e1:(fcF q true L p).length =(upF q L p).length :=rfl;have e2:(fcF q false L p).length =(dnF q L p).length :=rfl;omega
 have h1:=y3v q.hi (plQ q L) (z9o q L) q.rc L;have h2:=y3v q.lo (plQ q L) (z9o q L) q.rc L;have:=key (plQ q L);unfold hiL loL at this;omega
theorem z1w :w3b L=0∧(Jr L).length ≤2400:=by
 have h1:=w0h hv hl hL .x;have h2:=w0h hv hl hL .y;have h3:=w0h hv hl hL .z;have hn:(Jr L).length ≤2400:=by unfold Jr;simp only [List.length_append];omega
 refine ⟨?_,hn⟩;unfold w3b;simp only [v4m hv hl hL];rw [decide_eq_false (by omega)];rfl
end
theorem x1d {L:List R6} (h:Yr L=0) (hl:L.length≤20):z7y L=0∧Zg L=Jr L:=by obtain ⟨_,hv,_,hL⟩:=Wu h;have hz:=(z1w hv hl hL).1;unfold z7y Zg z4m Jo;rw [h,hz];exact ⟨rfl,rfl⟩
theorem j0p {L:List R6} (h:j0r L=true):L.length≤20∧Yr L=0:=by simp only [j0r,Bool.and_eq_true,decide_eq_true_eq] at h;exact ⟨by omega,(u0z L).trans (eq_of_beq h.2)⟩
end Go.Am
namespace Go.Am
open Go.Proofs Go.Sort Go.Shelf Go.RowKit Go.Lib
theorem v4s (L:List R6) (z:Int):z2e .z L z=D6.inn L z:=rfl
theorem y8p (L:List R6) (z u v:Int):ptL Wy.inB (D6.inn L z) (u,v)↔Ax.inL .z L z u v:=y1h .z L z u v
theorem x9m (k:Nat) {a b:List R4} (ha: ∀r∈a,Vw r=true) (hb: ∀r∈b,Vw r=true) (x:Int):(D4.inn (rgJ k a b) x).length ≤(D4.inn a x).length +(D4.inn b x).length :=by
 obtain ⟨j1,j2,_⟩:=Kb k ha hb;obtain ⟨s1,s2⟩:=z9f k (Vp ha x) (Vp hb x);have e:D4.inn (rgJ k a b) x=spJ k (D4.inn a x) (D4.inn b x):=y7w.uniq _ _ (y3g j1 x) s1 fun y=>by rw [s2];show pt (D4.inn (rgJ k a b) x) y↔_;rw [z4j,j2];have e1:decide (pt (D4.inn a x) y)=decide (ptL Wy.inB a (x,y)):=decide_eq_decide.2 (z4j a x y);have e2:decide (pt (D4.inn b x) y)=decide (ptL Wy.inB b (x,y)):=decide_eq_decide.2 (z4j b x y);rw [e1,e2]
 rw [e];exact z1n k (Vp ha x) (Vp hb x)
theorem w2f {l:List R4} (hl:l.length≤400) (hv: ∀r∈l,Vw r=true) (hc:Wy.can l):Xc l=0∧Zb l=l:=by obtain ⟨h1,h2⟩:=Qk hv hl;have e:D4.out l=l:=Wy.uniq _ _ h1 hc h2;obtain ⟨r0,r1⟩:=z7n hv hl (by rw [e];exact hl);exact ⟨r1,r0.trans e⟩
theorem v1m {A B:Prop} [Decidable A] [Decidable B]:opB 2 (decide A) (decide B)=true↔A∧ ¬B:=by simp [opB]
theorem opB1i {A B:Prop} [Decidable A] [Decidable B]:opB 1 (decide A) (decide B)=true↔A∧B:=by simp [opB]
theorem opB0i {A B:Prop} [Decidable A] [Decidable B]:opB 0 (decide A) (decide B)=true↔A∨B:=by simp [opB]
theorem w2i (q:Op) {a b:List R4} (h:rgE q a b=0):Wr q a b=rgJ q.k a b:=by unfold Wr;rw [h];rfl
section
variable {L:List R6} (h:Yr L=0) (hl:L.length≤20)
include h hl
theorem x4w {G:List (z0c R4)} (hG:z2k Wy G) (e:L=D6.flat G) {g:z0c R4} (hg:g∈G) {x:Int} (hx:g.a≤x∧x<g.b):D6.inn L x=g.s:=by
 have hc:=(Wu h).1;have _u:=hl;refine Wy.uniq _ _ (by rw [e];exact Dim.inn_can z3n Wy x G hG) (hG.all g hg).2.1 fun p=> ?_;rw [Dim.pt_inn (D:=D6) Wy.inB L x p,e,Dim.flat_pt z3n Wy G x p];constructor
 ·rintro ⟨k,hk,k1,k2,k3⟩;obtain ⟨i,hi,ei⟩:=List.getElem_of_mem hg;obtain ⟨j,hj,ej⟩:=List.getElem_of_mem hk;have pw:G.Pairwise fun g k=>g.b≤k.a:=by
   clear e hg hk hi hj ei ej
   induction G with
   | nil=>exact .nil
   | cons m r ih=>exact List.pairwise_cons.2 ⟨hG.later,ih hG.tail⟩
  have pw:=List.pairwise_iff_getElem.1 pw;rcases Nat.lt_trichotomy i j with q | q | q
  ·have:=pw i j hi hj q;rw [ei,ej] at this;omega
  ·subst q;rw [←ei,ej];exact k3
  ·have:=pw j i hj hi q;rw [ei,ej] at this;omega
 ·intro k3;exact ⟨g,hg,hx.1,hx.2,k3⟩
theorem v8m {z:Int} (hz:D6.inn L (z - 1)≠D6.inn L z) {r:R6} (hr:r∈L): ¬(r.c≤z - 1∧z<r.f):=fun hx=>by obtain ⟨G,hG,e⟩:=x7a h;rw [e] at hr;obtain ⟨g,hg,hr⟩:=List.mem_flatMap.1 hr;obtain ⟨b,_,rfl⟩:=List.mem_map.1 hr;have h1:g.a≤z - 1∧z<g.b:=hx;exact hz ((x4w h hl hG e hg ⟨by omega,by omega⟩).trans (x4w h hl hG e hg ⟨by omega,by omega⟩).symm)
theorem v6f {z:Int} (hz:D6.inn L (z - 1)≠D6.inn L z):(D6.inn L (z - 1)).length +(D6.inn L z).length ≤20:=by
 have hn: ∀r∈L,¬((decide (r.c≤z - 1)&&decide (z - 1<r.f))=true∧(decide (r.c≤z)&&decide (z<r.f))=true):=fun r hr hx=>by simp only [Bool.and_eq_true,decide_eq_true_eq] at hx;exact v8m h hl hz hr ⟨hx.1.1,hx.2.2⟩
 refine Nat.le_trans ?_ hl;show ((L.filter fun r=>decide (r.c≤z - 1)&&decide (z - 1<r.f)).map _).length +((L.filter fun r=>decide (r.c≤z)&&decide (z<r.f)).map _).length ≤_;rw [List.length_map,List.length_map];clear h hl hz
 induction L with
 | nil=>exact Nat.le_refl _
 | cons r l ih=>
  have ih:=ih fun s hs=>hn s (by simp [hs]);have:=hn r (by simp);rw [List.filter_cons,List.filter_cons];by_cases q1:(decide (r.c≤z - 1)&&decide (z - 1<r.f))=true
  ·rw [if_pos q1,if_neg fun q2=>this ⟨q1,q2⟩];simp only [List.length_cons];omega
  ·rw [if_neg q1];by_cases q2:(decide (r.c≤z)&&decide (z<r.f))=true
   ·rw [if_pos q2];simp only [List.length_cons];omega
   ·rw [if_neg q2];simp only [List.length_cons];omega
theorem u7l (z:Int):Wy.can (D6.inn L z)∧(∀r∈D6.inn L z,Vw r=true)∧(D6.inn L z).length ≤20∧D4.out (D6.inn L z)=D6.inn L z:=by
 obtain ⟨_,hv,_,_⟩:=Wu h;obtain ⟨G,hG,e⟩:=x7a h;have c:Wy.can (D6.inn L z):=by rw [e];exact Dim.inn_can z3n Wy z G hG
 have v:=y6b hv z;have n:=Nat.le_trans (D6.inn_length L z) hl;exact ⟨c,v,n,Wy.uniq _ _ (Qk v (by omega)).1 c (Qk v (by omega)).2⟩
theorem j0w (z:Int):upF .z L z=rgJ 2 (D6.inn L (z - 1)) (D6.inn L z)∧dnF .z L z=rgJ 2 (D6.inn L z) (D6.inn L (z - 1)):=by unfold upF dnF;rw [v4s,v4s,(u7l h hl z).2.2.2,(u7l h hl (z - 1)).2.2.2];exact ⟨rfl,rfl⟩
theorem step_z {z:Int} (hz:D6.inn L (z - 1)≠D6.inn L z):j2w (D6.inn L (z - 1)) (upF .z L z) (dnF .z L z)=false∧x1e (D6.inn L (z - 1)) (upF .z L z) (dnF .z L z)=D6.inn L z:=by
 obtain ⟨a1,a2,a3,_⟩:=u7l h hl (z - 1);obtain ⟨b1,b2,b3,_⟩:=u7l h hl z;have hs:=v6f h hl hz;obtain ⟨_,hv,_,hL⟩:=Wu h;obtain ⟨eu,ed⟩:=j0w h hl z;have hud:=x0g .z hv hl hL z;have hr: ∀r∈L,Ax.lo .z r<Ax.hi .z r:=fun r k=>(Ax.val .z (hv r k)).2.1;have ht:=Nat.le_trans (y3s .z hr z) hl;have h4:((hiL .z L z).length +(loL .z L z).length)*((hiL .z L z).length +(loL .z L z).length)≤400:=Nat.le_trans (Nat.mul_le_mul ht ht) (by decide);rw [eu,ed] at hud;rw [eu,ed];obtain ⟨u1,u2,_⟩:=Kb 2 a2 b2;obtain ⟨d1,d2,_⟩:=Kb 2 b2 a2;have uv: ∀r∈rgJ 2 (D6.inn L (z - 1)) (D6.inn L z),Vw r=true:=z1f u1 fun u v k=>by have:=(u2 (u,v)).1 k;simp only [opB,Bool.and_eq_true,decide_eq_true_eq] at this;exact z2m a2 this.1
 have dv: ∀r∈rgJ 2 (D6.inn L z) (D6.inn L (z - 1)),Vw r=true:=z1f d1 fun u v k=>by have:=(d2 (u,v)).1 k;simp only [opB,Bool.and_eq_true,decide_eq_true_eq] at this;exact z2m b2 this.1
 obtain ⟨m1,m0⟩:=w2f (l:=rgJ 2 (D6.inn L (z - 1)) (D6.inn L z)) (by omega) uv u1;obtain ⟨n1,n0⟩:=w2f (l:=rgJ 2 (D6.inn L z) (D6.inn L (z - 1))) (by omega) dv d1;obtain ⟨r1,r2,_⟩:=Kb 2 a2 uv;obtain ⟨c1,c2,c3⟩:=Kb 1 a2 b2;have er:rgJ 2 (D6.inn L (z - 1)) (rgJ 2 (D6.inn L (z - 1)) (D6.inn L z))=rgJ 1 (D6.inn L (z - 1)) (D6.inn L z):=Wy.uniq _ _ r1 c1 fun p=>by rw [r2,c2,v1m,opB1i,u2 p,v1m];by_cases g1:ptL Wy.inB (D6.inn L (z - 1)) p <;> by_cases g2:ptL Wy.inB (D6.inn L z) p <;> simp [g1,g2]
 have cl:(rgJ 1 (D6.inn L (z - 1)) (D6.inn L z)).length ≤400:=Nat.le_trans c3 (Nat.le_trans (Nat.mul_le_mul hs hs) (by decide));have i1: ∀x,(D4.inn (D6.inn L (z - 1)) x).length ≤20:=fun x=>Nat.le_trans (D4.inn_length _ x) a3;have i2: ∀x,(D4.inn (D6.inn L z) x).length ≤20:=fun x=>Nat.le_trans (D4.inn_length _ x) b3;have z1:rgE .d (D6.inn L (z - 1)) (rgJ 2 (D6.inn L (z - 1)) (D6.inn L z))=0:=x0x .d (by omega) (by omega) a2 uv a1 u1
  (fun x=>by have:=x9m 2 a2 b2 x;have:=i1 x;have:=i2 x;omega) (by
   show (rgJ 2 (D6.inn L (z - 1)) (rgJ 2 (D6.inn L (z - 1)) (D6.inn L z))).length ≤400;rw [er];exact cl)
 have v1:Wr .d (D6.inn L (z - 1)) (rgJ 2 (D6.inn L (z - 1)) (D6.inn L z))=rgJ 1 (D6.inn L (z - 1)) (D6.inn L z):=(w2i .d z1).trans er;have cv: ∀r∈rgJ 1 (D6.inn L (z - 1)) (D6.inn L z),Vw r=true:=z1f c1 fun u v k=>by have:=(c2 (u,v)).1 k;simp only [opB,Bool.and_eq_true,decide_eq_true_eq] at this;exact z2m a2 this.1
 obtain ⟨w1,w2,_⟩:=Kb 0 cv dv;have ew:rgJ 0 (rgJ 1 (D6.inn L (z - 1)) (D6.inn L z)) (rgJ 2 (D6.inn L z) (D6.inn L (z - 1)))=D6.inn L z:=Wy.uniq _ _ w1 b1 fun p=>by rw [w2,opB0i,c2 p,opB1i,d2 p,v1m];by_cases g1:ptL Wy.inB (D6.inn L (z - 1)) p <;> by_cases g2:ptL Wy.inB (D6.inn L z) p <;> simp [g1,g2]
 have z2:rgE .u (rgJ 1 (D6.inn L (z - 1)) (D6.inn L z)) (rgJ 2 (D6.inn L z) (D6.inn L (z - 1)))=0:=x0x .u cl (by omega) cv dv c1 d1
  (fun x=>by have:=x9m 1 a2 b2 x;have:=x9m 2 b2 a2 x;have:=i1 x;have:=i2 x;omega) (by
   show (rgJ 0 (rgJ 1 (D6.inn L (z - 1)) (D6.inn L z)) (rgJ 2 (D6.inn L z) (D6.inn L (z - 1)))).length ≤400;rw [ew];omega)
 unfold j2w x1e;rw [m1,n1,m0,n0,z1,v1,z2];exact ⟨rfl,(w2i .u z2).trans ew⟩
end
end Go.Am
namespace Go.Am
open Go.Proofs Go.Sort Go.Shelf Go.RowKit Go.Lib
theorem zQ_nil {d:Int} {l:List R7} (z:Int) (h: ∀r∈l,r.a≠d):zQ d l z=[]:=by unfold zQ;rw [List.map_eq_nil_iff,List.filter_eq_nil_iff];intro r hr hq;simp only [Bool.and_eq_true,decide_eq_true_eq] at hq;exact h r hr hq.1
theorem u1l (s:Bool) (p:Int) (l:List R4) (z:Int):zQ (match s with | true=>4 | false=>5) (l.map (qd .z s p)) z=if p=z then l else []:=by
 induction l with
 | nil=>cases s <;> (by_cases e:p=z <;> simp [e,zQ])
 | cons r l ih=>
  rw [List.map_cons,show qd .z s p r::l.map (qd .z s p)=[qd .z s p r]++l.map (qd .z s p) from rfl,Wn,ih];by_cases e:p=z
  ·rw [if_pos e,if_pos e];cases s <;> simp [zQ,qd,e]
  ·rw [if_neg e,if_neg e,List.append_nil];cases s <;> simp [zQ,qd,e]
theorem x6e (s:Bool) (F:Int→List R4) (z:Int): ∀P:List Int,P.Pairwise (· < ·)→(z ∉ P→F z=[])→zQ (match s with | true=>4 | false=>5) (P.flatMap fun p=>(F p).map (qd .z s p)) z=F z
 | [],_,h=>by rw [h (by simp)];cases s <;> rfl
 | p::P,hP,h=>by
  obtain ⟨h1,h2⟩:=List.pairwise_cons.1 hP;rw [List.flatMap_cons,Wn,u1l];by_cases e:p=z
  ·subst e;rw [if_pos rfl];have: ∀Q:List Int,(∀x∈Q,p<x)→zQ (match s with | true=>4 | false=>5) (Q.flatMap fun p=>(F p).map (qd .z s p)) p=[]:=fun Q=>by
    induction Q with
    | nil=>intro _;cases s <;> rfl
    | cons x Q ih=>intro hx;rw [List.flatMap_cons,Wn,u1l,if_neg (by have:=hx x (by simp);omega),ih fun y hy=>hx y (by simp [hy])];rfl
   rw [this P h1,List.append_nil]
  ·rw [if_neg e,List.nil_append];exact x6e s F z P h2 fun hn=>h (by simp [hn,Ne.symm e])
theorem qd_a (q:Ax) (s:Bool) (p:Int) (t:R4):(qd q s p t).a =2*q.ix+sdI s:=by cases q <;> cases s <;> rfl
theorem dM_a {q:Ax} {s:Bool} {L:List R6} {r:R7} (h:r∈dM q s L):r.a=2*q.ix+sdI s:=by obtain ⟨p,_,h⟩:=List.mem_flatMap.1 h;obtain ⟨t,_,rfl⟩:=List.mem_map.1 h;exact qd_a q s p t
section
variable {L:List R6} (h:Yr L=0) (hl:L.length≤20)
include h hl
theorem v1q (q:Ax) {p:Int} (hp:p ∉ plQ q L):upF q L p=[]∧dnF q L p=[]:=by
 obtain ⟨_,hv,_,hL⟩:=Wu h;have hr: ∀r∈L,q.lo r<q.hi r:=fun r k=>(q.val (hv r k)).2.1;obtain ⟨u1,u2⟩:=y3r q hv hl p;obtain ⟨d1,d2⟩:=y5t q hv hl p;constructor
 ·refine z1t Wy u1 fun ⟨u,v⟩ k=> ?_;have:=(x0h q hL hr p u v).1 ((u2 u v).1 k);obtain ⟨r,hr,e,_⟩:=(v3j q L p u v).1 this.1;exact hp ((z6i q L p).2 ⟨r,hr,.inr e.symm⟩)
 ·refine z1t Wy d1 fun ⟨u,v⟩ k=> ?_;have:=(y0e q hL hr p u v).1 ((d2 u v).1 k);obtain ⟨r,hr,e,_⟩:=(v2w q L p u v).1 this.1;exact hp ((z6i q L p).2 ⟨r,hr,.inl e.symm⟩)
theorem y3q (z:Int):zQ 4 (Jr L) z=upF .z L z∧zQ 5 (Jr L) z=dnF .z L z:=by
 obtain ⟨_,hv,_,hL⟩:=Wu h;have f4:=x6e true (fcF .z true L) z (plQ .z L) (z9o .z L) fun hn=>(v1q h hl .z hn).1;have f5:=x6e false (fcF .z false L) z (plQ .z L) (z9o .z L) fun hn=>(v1q h hl .z hn).2;rw [←v4q hv hl hL] at f4 f5;have no: ∀(d:Int) (q:Ax) (s:Bool),d≠2*q.ix+sdI s→zQ d (dM q s L) z=[]:=fun d q s hd=>zQ_nil z fun r hr e=>hd (e ▸ dM_a hr);unfold Jr;constructor
 ·rw [Wn,Wn,Wn,Wn,Wn,no 4 .x true (by decide),no 4 .x false (by decide),no 4 .y true (by decide),no 4 .y false (by decide),no 4 .z false (by decide),List.append_nil];exact f4
 ·rw [Wn,Wn,Wn,Wn,Wn,no 5 .x true (by decide),no 5 .x false (by decide),no 5 .y true (by decide),no 5 .y false (by decide),no 5 .z true (by decide)];exact f5
theorem x8f (z:Int):z∈plZ (Jr L)↔D6.inn L (z - 1)≠D6.inn L z:=by
 obtain ⟨_,hv,_,hL⟩:=Wu h;obtain ⟨u1,u2⟩:=y3r .z hv hl z;obtain ⟨d1,d2⟩:=y5t .z hv hl z;have hm:z∈plZ (Jr L)↔upF .z L z≠ []∨dnF .z L z≠ []:=by
  unfold plZ;rw [Jz,(Xn _).2 z];unfold zsQ;constructor
  ·intro k;obtain ⟨r,hr,e⟩:=List.mem_map.1 k;obtain ⟨hr,ha⟩:=List.mem_filter.1 hr;have ha:=of_decide_eq_true ha;have key:r.a=4∨r.a=5:=by
    unfold Jr at hr;simp only [List.mem_append] at hr;rcases hr with ((((hr | hr) | hr) | hr) | hr) | hr <;> have e:=dM_a hr
    ·have e:r.a=0:=e;omega
    ·have e:r.a=1:=e;omega
    ·have e:r.a=2:=e;omega
    ·have e:r.a=3:=e;omega
    ·exact .inl e
    ·exact .inr e
   have me: ∀d,r.a=d→zQ d (Jr L) z≠ []:=fun d hd hn=>by unfold zQ at hn;rw [List.map_eq_nil_iff,List.filter_eq_nil_iff] at hn;exact hn r hr (by simp [hd,e])
   rcases key with e4 | e5
   ·exact .inl (by rw [←(y3q h hl z).1];exact me 4 e4)
   ·exact .inr (by rw [←(y3q h hl z).2];exact me 5 e5)
  ·intro k;have me: ∀d,4≤d→zQ d (Jr L) z≠ []→z∈((Jr L).filter fun r=>decide (4≤r.a)).map (·.d):=fun d hd hn=>by obtain ⟨t,ht⟩:=List.exists_mem_of_ne_nil _ hn;obtain ⟨r,hr,_⟩:=List.mem_map.1 ht;obtain ⟨hr,hq⟩:=List.mem_filter.1 hr;simp only [Bool.and_eq_true,decide_eq_true_eq] at hq;exact List.mem_map.2 ⟨r,List.mem_filter.2 ⟨hr,decide_eq_true (by omega)⟩,hq.2⟩
   rcases k with k | k
   ·exact me 4 (by decide) (by rw [(y3q h hl z).1];exact k)
   ·exact me 5 (by decide) (by rw [(y3q h hl z).2];exact k)
 rw [hm];constructor
 ·rintro hk e;rcases hk with hk | hk
  ·refine hk (z1t Wy u1 fun ⟨u,v⟩ k=> ?_);have k:=(u2 u v).1 k;rw [←y8p,←y8p,e] at k;exact k.2 k.1
  ·refine hk (z1t Wy d1 fun ⟨u,v⟩ k=> ?_);have k:=(d2 u v).1 k;rw [←y8p,←y8p,e] at k;exact k.2 k.1
 ·intro hn;refine Classical.byContradiction fun hk=>hn ?_;rw [not_or,Decidable.not_not,Decidable.not_not] at hk;refine Wy.uniq _ _ (u7l h hl (z - 1)).1 (u7l h hl z).1 fun ⟨u,v⟩=> ?_;rw [y8p,y8p];have a:=u2 u v;have b:=d2 u v;rw [hk.1] at a;rw [hk.2] at b;have a: ¬(Ax.inL .z L (z - 1) u v∧ ¬Ax.inL .z L z u v):=fun k=>z4i _ _ (a.2 k);have b: ¬(Ax.inL .z L z u v∧ ¬Ax.inL .z L (z - 1) u v):=fun k=>z4i _ _ (b.2 k);exact ⟨fun k=>Classical.byContradiction fun m=>a ⟨k,m⟩,fun k=>Classical.byContradiction fun m=>b ⟨k,m⟩⟩
theorem far {x:Int} (hx:x< -1000000∨1000000≤x):D6.inn L x=[]:=by have _u:=hl;obtain ⟨_,hv,_,_⟩:=Wu h;show (L.filter _).map _=[];rw [List.map_eq_nil_iff,List.filter_eq_nil_iff];intro r hr hq;have:=Kz (hv r hr);simp only [Bool.and_eq_true,decide_eq_true_eq] at hq;have h1:r.c≤x:=hq.1;have h2:x<r.f:=hq.2;omega
end
theorem const (S:Int→List R4) (a:Int): ∀n:Nat,(∀x,a<x→x≤a+n→S (x - 1)=S x)→S (a+n)=S a
 | 0,_=>by rw [show a+((0:Nat):Int)=a by omega]
 | n+1,h=>by
  have:=const S a n fun x h1 h2=>h x h1 (by omega);rw [←this,←h (a+((n+1:Nat):Int)) (by omega) (Int.le_refl _)]
  congr 1;omega
theorem const' (S:Int→List R4) {a b:Int} (hab:a≤b) (h: ∀x,a<x→x≤b→S (x - 1)=S x):S b=S a:=by have:=const S a (b - a).toNat fun x h1 h2=>h x h1 (by omega);rw [show a+((b - a).toNat :Int)=b by omega] at this;exact this
structure Chg (S:Int→List R4) (r:List Int) (lo:Int):Prop where
 asc:r.Pairwise (· < ·)
 low: ∀z∈r,lo≤z
 ne: ∀z∈r,S (z - 1)≠S z
 all: ∀x,lo≤x→S (x - 1)≠S x→x∈r
theorem Chg.tail {S:Int→List R4} {z lo:Int} {r:List Int} (h:Chg S (z::r) lo):Chg S r (z+1):=by
 obtain ⟨h1,h2⟩:=List.pairwise_cons.1 h.asc;refine ⟨h2,fun x hx=>by have:=h1 x hx;omega,fun x hx=>h.ne x (by simp [hx]),fun x hx hn=> ?_⟩;have:=h.low z (by simp);rcases List.mem_cons.1 (h.all x (by omega) hn) with e | e
 ·omega
 ·exact e
theorem Chg.flat {S:Int→List R4} {lo:Int} {r:List Int} (h:Chg S r lo) {x:Int} (hx:lo - 1≤x) (hr: ∀z∈r,x<z):S x=S (lo - 1):=
 const' S hx fun y h1 h2=>Classical.byContradiction fun hn=>by have:=hr y (h.all y (by omega) hn);omega
def bxs (S:Int→List R4):List Int→List R6
 | []=>[]
 | z::r=>(match r with
  | []=>[]
  | z'::_=>(S z).map (pz6 z z'))++bxs S r
def gbs (S:Int→List R4):List Int→List (z0c R4)
 | []=>[]
 | z::r=>(match r with
  | []=>[]
  | z'::_=>match S z with
   | []=>[]
   | t::s=>[⟨z,z',t::s⟩])++gbs S r
theorem w3v (S:Int→List R4): ∀r,D6.flat (gbs S r)=bxs S r
 | []=>rfl
 | [z]=>rfl
 | z::z'::r=>by
  have ih:=w3v S (z'::r);show D6.flat ((match S z with | []=>[] | t::s=>[⟨z,z',t::s⟩])++gbs S (z'::r))=(S z).map (pz6 z z')++bxs S (z'::r);rw [D6.flat_append,ih]
  congr 1
  cases S z with
  | nil=>rfl
  | cons t s=>exact D6.flat_one _
theorem x1z (S:Int→List R4): ∀(r:List Int) (lo:Int),Chg S r lo→ ∀g∈gbs S r,g.a∈r∧g.a<g.b∧g.s=S g.a∧g.s≠ []∧ ∀x,g.a≤x→x<g.b→S x=g.s
 | [],_,_,g,hg=>by cases hg
 | [z],_,_,g,hg=>by cases hg
 | z ::z'::r,lo,h,g,hg=>by
  have ht:=h.tail;rcases List.mem_append.1 hg with hg | hg
  ·have hz:=ht.low z' (by simp);have ht2:=(List.pairwise_cons.1 ht.asc).1;have cst: ∀x,z≤x→x<z'→S x=S z:=fun x h1 h2=>by
    have:=ht.flat (x:=x) (by omega) fun y hy=>by
     rcases List.mem_cons.1 hy with rfl | hy
     ·exact h2
     ·have:=ht2 y hy;omega
    rw [this,show z+1 - 1=z by omega]
   have hg:g∈(match S z with | []=>[] | t::s=>[(⟨z,z',t::s⟩:z0c R4)]):=hg;cases e:S z with
   | nil=>rw [e] at hg;cases hg
   | cons t s=>rw [e] at hg;obtain rfl:=List.mem_singleton.1 hg;exact ⟨by simp,by show z<z';omega,e.symm,by simp,fun x h1 h2=>(cst x h1 h2).trans e⟩
  ·obtain ⟨g1,g2⟩:=x1z S (z'::r) (z+1) ht g hg;exact ⟨by simp only [List.mem_cons] at g1 ⊢;exact .inr g1,g2⟩
theorem v3p (S:Int→List R4) (hS: ∀x,Wy.can (S x)): ∀(r:List Int) (lo:Int),Chg S r lo→z2k Wy (gbs S r)
 | [],_,_=>.nil
 | [z],_,_=>.nil
 | z ::z'::r,lo,h=>by
  have ht:=h.tail;have ih:=v3p S hS (z'::r) (z+1) ht;have hz:=ht.low z' (by simp);have ht2:=(List.pairwise_cons.1 ht.asc).1;show z2k Wy ((match S z with | []=>[] | t::s=>[⟨z,z',t::s⟩])++gbs S (z'::r));cases e:S z with
  | nil=>exact ih
  | cons t s=>
   have ok:OkS Wy (⟨z,z',t::s⟩:z0c R4):=⟨by show z<z';omega,by show Wy.can (t::s);rw [←e];exact hS z,by simp⟩
   cases eg:gbs S (z'::r) with
   | nil=>exact .one _ ok
   | cons k G=>
    rw [eg] at ih;obtain ⟨m1,_,m3,_⟩:=x1z S (z'::r) (z+1) ht k (by rw [eg];simp);refine .cons _ k G ok ⟨?_,fun eb es=> ?_⟩ ih
    ·show z'≤k.a;rcases List.mem_cons.1 m1 with e | e
     ·omega
     ·have:=ht2 _ e;omega
    ·have eb:z'=k.a:=eb;have es:t::s=k.s:=es;have c:=ht.flat (x:=z' - 1) (by omega) fun y hy=>by
      rcases List.mem_cons.1 hy with rfl | hy
      ·omega
      ·have:=ht2 y hy;omega
     refine ht.ne z' (by simp) ?_;rw [c,show z+1 - 1=z by omega,e,es,m3,←eb]
theorem v3o (S:Int→List R4) (hf: ∀x,1000000≤x→S x=[]): ∀(r:List Int) (lo:Int),Chg S r lo→S (lo - 1)=[]→ ∀x,S x≠ []→lo≤x→ ∃g∈gbs S r,g.a≤x∧x<g.b
 | [],lo,h,h0,x,hx,hlo=>by refine (hx ?_).elim;rw [h.flat (by omega) (by simp),h0]
 | [z],lo,h,h0,x,hx,hlo=>by
  have hz:=h.low z (by simp);by_cases q:x<z
  ·refine (hx ?_).elim;rw [h.flat (by omega) (by simpa using q),h0]
  ·refine (hx ?_).elim;have ht:=h.tail;have e1:=ht.flat (x:=x) (by omega) (by simp);have e2:=ht.flat (x:=x+2000000+z.natAbs) (by omega) (by simp);rw [e1,←e2];exact hf _ (by omega)
 | z ::z'::r,lo,h,h0,x,hx,hlo=>by
  have ht:=h.tail;have hz:=h.low z (by simp);have hz':=ht.low z' (by simp);have ht2:=(List.pairwise_cons.1 ht.asc).1;by_cases q:x<z
  ·refine (hx ?_).elim;rw [h.flat (by omega) fun y hy=>by
    rcases List.mem_cons.1 hy with rfl | hy
    ·exact q
    ·have:=(List.pairwise_cons.1 h.asc).1 y hy;omega,h0]
  by_cases q2:x<z'
  ·have c:S x=S z:=by
    have:=ht.flat (x:=x) (by omega) fun y hy=>by
     rcases List.mem_cons.1 hy with rfl | hy
     ·exact q2
     ·have:=ht2 y hy;omega
    rw [this,show z+1 - 1=z by omega]
   cases e:S z with
   | nil=>exact (hx (c.trans e)).elim
   | cons t s=>refine ⟨⟨z,z',t::s⟩,?_,by show z≤x;omega,q2⟩;show _∈(match S z with | []=>[] | t::s=>[⟨z,z',t::s⟩])++gbs S (z'::r);rw [e];simp
  ·have go: ∃g∈gbs S (z'::r),g.a≤x∧x<g.b:=by
    by_cases hS:S z=[]
    ·exact v3o S hf (z'::r) (z+1) ht (by rw [show z+1 - 1=z by omega];exact hS) x hx (by omega)
    ·-- the section before z' is not empty: start at z'
     exact gbs_hit2 S hf z' r ((z+1)) ht x hx (by omega)
   obtain ⟨g,hg,hh⟩:=go;exact ⟨g,List.mem_append.2 (.inr hg),hh⟩
where
 gbs_hit2 (S:Int→List R4) (hf: ∀x,1000000≤x→S x=[]) (z':Int): ∀(r:List Int) (lo:Int),Chg S (z'::r) lo→ ∀x,S x≠ []→z'≤x→ ∃g∈gbs S (z'::r),g.a≤x∧x<g.b
  | [],lo,h,x,hx,hlo=>by refine (hx ?_).elim;have ht:=h.tail;have e1:=ht.flat (x:=x) (by omega) (by simp);have e2:=ht.flat (x:=x+2000000+z'.natAbs) (by omega) (by simp);rw [e1,←e2];exact hf _ (by omega)
  | z2::r,lo,h,x,hx,hlo=>by
   have ht:=h.tail;have hz':=ht.low z2 (by simp);have ht2:=(List.pairwise_cons.1 ht.asc).1;by_cases q2:x<z2
   ·have c:S x=S z':=by
     have:=ht.flat (x:=x) (by omega) fun y hy=>by
      rcases List.mem_cons.1 hy with rfl | hy
      ·exact q2
      ·have:=ht2 y hy;omega
     rw [this,show z'+1 - 1=z' by omega]
    cases e:S z' with
    | nil=>exact (hx (c.trans e)).elim
    | cons t s=>refine ⟨⟨z',z2,t::s⟩,?_,by show z'≤x;omega,q2⟩;show _∈(match S z' with | []=>[] | t::s=>[⟨z',z2,t::s⟩])++gbs S (z2::r);rw [e];simp
   ·obtain ⟨g,hg,hh⟩:=gbs_hit2 S hf z2 r (z'+1) ht x hx (by omega);exact ⟨g,List.mem_append.2 (.inr hg),hh⟩
end Go.Am
namespace Go.Am
open Go.Proofs Go.Sort Go.Shelf Go.RowKit Go.Lib
theorem y0c {x y z:Int} (hx: -1000000≤x∧x≤1000000) (hy: -1000000≤y∧y≤1000000) (hz: -1000000≤z∧z≤1000000):v3x x y z=true:=by
 unfold v3x;rw [Bool.and_eq_true,decide_eq_true_eq,decide_eq_true_eq];unfold Vm Vg;constructor
 ·(repeat' split) <;> omega
 ·(repeat' split) <;> omega
theorem u6m (q:Ax) (s:Bool) {p:Int} (hp: -1000000≤p∧p≤1000000) {t:R4} (ht:Vw t=true):w1n (qd q s p t)=true:=by
 simp only [Vw,Bool.and_eq_true,decide_eq_true_eq] at ht;have bb: ∀{x:Int},(-1000000≤x∧x≤1000000)→(-1000000≤x∧x≤1000000):=fun h=>h;have ha: -1000000≤t.a∧t.a≤1000000:=by omega
 have hb: -1000000≤t.b∧t.b≤1000000:=by omega
 have hc: -1000000≤t.c∧t.c≤1000000:=by omega
 have hd: -1000000≤t.d∧t.d≤1000000:=by omega
 have h1:decide (t.a<t.c)=true:=decide_eq_true (by omega);have h2:decide (t.b<t.d)=true:=decide_eq_true (by omega);have hq:(p == p)=true:=by simp
 cases q <;> cases s <;> unfold w1n qd <;> simp only [y0c hp ha hb,y0c hp hc hd,y0c ha hp hb,y0c hc hp hd,y0c ha hb hp,y0c hc hd hp,h1,h2,hq] <;> rfl
section
variable {L:List R6} (h:Yr L=0) (hl:L.length≤20)
include h hl
theorem j0v (q:Ax) (s:Bool) (p:Int): ∀t∈fcF q s L p,Vw t=true:=by
 obtain ⟨_,hv,_,hL⟩:=Wu h;have f1:=fw q hv hl (p - 1);have f2:=fw q hv hl p;cases s with
 | true=>obtain ⟨u1,u2⟩:=y3r q hv hl p;refine z1f u1 fun u v k=> ?_;have:=((u2 u v).1 k).1;rw [←y1h,←f1.pts] at this;exact z2m f1.val this
 | false=>obtain ⟨u1,u2⟩:=y5t q hv hl p;refine z1f u1 fun u v k=> ?_;have:=((u2 u v).1 k).1;rw [←y1h,←f2.pts] at this;exact z2m f2.val this
theorem w3d {r:R7} (hr:r∈Jr L): ∃q s p t,p∈plQ q L∧t∈fcF q s L p∧r=qd q s p t:=by
 obtain ⟨_,hv,_,hL⟩:=Wu h;have go: ∀q s,r∈dM q s L→ ∃q s p t,p∈plQ q L∧t∈fcF q s L p∧r=qd q s p t:=fun q s k=>by rw [v4q hv hl hL] at k;obtain ⟨p,hp,k⟩:=List.mem_flatMap.1 k;obtain ⟨t,ht,rfl⟩:=List.mem_map.1 k;exact ⟨q,s,p,t,hp,ht,rfl⟩
 unfold Jr at hr;simp only [List.mem_append] at hr;rcases hr with ((((hr | hr) | hr) | hr) | hr) | hr
 ·exact go _ _ hr
 ·exact go _ _ hr
 ·exact go _ _ hr
 ·exact go _ _ hr
 ·exact go _ _ hr
 ·exact go _ _ hr
theorem z1x :z6o (Jr L)=0∧Wf (Jr L)=true:=by
 obtain ⟨_,hv,_,hL⟩:=Wu h;have hn:=(z1w hv hl hL).2;constructor
 ·unfold z6o;rw [decide_eq_false (by omega),List.all_eq_true.2 fun r hr=> ?_];rfl;obtain ⟨q,s,p,t,hp,ht,rfl⟩:=w3d h hl hr;exact u6m q s (v1i hv hl hL q hp) (j0v h hl q s p t ht)
 ·refine List.all_eq_true.2 fun r hr=> ?_;obtain ⟨q,s,p,t,hp,ht,rfl⟩:=w3d h hl hr;rw [qd_a];cases q <;> cases s <;> rfl
theorem w4c :Chg (D6.inn L) (plZ (Jr L)) (-1000000):=by refine ⟨by unfold plZ;rw [Jz];exact (Xn _).1,fun z hz=> ?_,fun z hz=>(x8f h hl z).1 hz,fun x _ hn=>(x8f h hl x).2 hn⟩;refine Classical.byContradiction fun hn=>(x8f h hl z).1 hz ?_;rw [far h hl (.inl (by omega)),far h hl (.inl (by omega))]
theorem u5o : ∀(r:List Int) (lo:Int) (bx:List R6),Chg (D6.inn L) r lo→goP (Jr L) r (D6.inn L (lo - 1)) bx=some (bx++bxs (D6.inn L) r)
 | [],lo,bx,_=>by simp [goP,bxs]
 | z::r,lo,bx,c=>by
  have hz:=c.low z (by simp);have hc:=(List.pairwise_cons.1 c.asc).1;have e:D6.inn L (lo - 1)=D6.inn L (z - 1):=(c.flat (x:=z - 1) (by omega) fun y hy=>by
   rcases List.mem_cons.1 hy with rfl | hy
   ·omega
   ·have:=hc y hy;omega).symm
  obtain ⟨s1,s2⟩:=step_z h hl (c.ne z (by simp));obtain ⟨q4,q5⟩:=y3q h hl z;have ih:=fun b=>u5o r (z+1) b c.tail;rw [show z+1 - 1=z by omega] at ih;rw [e];unfold goP;rw [q4,q5,s1,cond_false,s2,ih,List.append_assoc];rfl
theorem u1c :bxs (D6.inn L) (plZ (Jr L))=L:=by
 have c:=w4c h hl;have hS: ∀x,Wy.can (D6.inn L x):=fun x=>(u7l h hl x).1;have hf: ∀x,1000000≤x→D6.inn L x=[]:=fun x hx=>far h hl (.inr hx);have hg:=v3p (D6.inn L) hS _ _ c;rw [←w3v];refine w1u.uniq _ _ ⟨_,hg,rfl⟩ (x7a h) fun ⟨x,p⟩=> ?_;rw [show ptL w1u.inB (D6.flat (gbs (D6.inn L) (plZ (Jr L)))) (x,p)↔_ from Dim.flat_pt z3n Wy _ x p,show ptL w1u.inB L (x,p)↔_ from (Dim.pt_inn (D:=D6) Wy.inB L x p).symm];constructor
 ·rintro ⟨g,hg,g1,g2,g3⟩;obtain ⟨_,_,_,_,m⟩:=x1z (D6.inn L) _ _ c g hg;rw [m x g1 g2];exact g3
 ·intro k;have hx:D6.inn L x≠ []:=fun e=>by rw [e] at k;exact z4i _ _ k
  have hlo: -1000000≤x:=Classical.byContradiction fun hn=>hx (far h hl (.inl (by omega)));obtain ⟨g,hg,g1,g2⟩:=v3o (D6.inn L) hf _ _ c (far h hl (.inl (by omega))) x hx hlo;obtain ⟨_,_,_,_,m⟩:=x1z (D6.inn L) _ _ c g hg;exact ⟨g,hg,g1,g2,by rw [←m x g1 g2];exact k⟩
theorem back :x4j (Jr L)=0∧z1a (Jr L)=L:=by
 obtain ⟨_,hv,_,hL⟩:=Wu h;have hc:=(z1x h hl).1;have hg:goP (Jr L) (plZ (Jr L)) [] []=some L:=by have:=u5o h hl (plZ (Jr L)) (-1000000) [] (w4c h hl);rw [far h hl (.inl (by omega)),u1c h hl] at this;exact this
 obtain ⟨m1,m0⟩:=w1t h;have hz:=(z1w hv hl hL).1;have e:msoE (Jr L)=0:=by unfold msoE;rw [hc,hg];show finE (Jr L) L=0;unfold finE z4m Jo;rw [m1,m0,hz,show y8e (x2b 0 (Jr L)) (Jr L)=true from decide_eq_true rfl];rfl
 refine ⟨e,?_⟩;unfold z1a msoL;rw [e,hg];show Xt L=L;exact m0
end
end Go.Am
namespace Go.Am
open Go.Proofs.Tryz
open Go.Proofs Go.Sort Go.Shelf Go.RowKit Go.Lib
def one1 :List R6:=[⟨0,0,0,2,1,1⟩]
theorem x0o :Yr one1=0:=by refine w1w (by decide) ?_ ⟨[⟨0,1,[⟨0,0,2,1⟩]⟩],.one _ ⟨by decide,⟨[⟨0,2,[⟨0,1⟩]⟩],.one _ ⟨by decide,can1 0 1 (by decide),by simp⟩,rfl⟩,by simp⟩,rfl⟩;intro r hr;obtain rfl:=List.mem_singleton.1 hr;rfl
theorem can2 (r:R4) (h1:r.a<r.c) (h2:r.b<r.d):Wy.can [r]:=⟨[⟨r.a,r.c,[⟨r.b,r.d⟩]⟩],.one _ ⟨h1,can1 _ _ h2,by simp⟩,rfl⟩
theorem z8u (q:Ax) {r:R6} (hr:Ko r=true) (p:Int):upF q [r] p=(if p=q.hi r then [q.rc r] else [])∧dnF q [r] p=(if p=q.lo r then [q.rc r] else []):=by
 have hv: ∀s∈ [r],Ko s=true:=fun s hs=>by rw [List.mem_singleton.1 hs];exact hr
 have hL: [r].Pairwise Ap6:=by simp
 have hlt: ∀s∈ [r],q.lo s<q.hi s:=fun s hs=>(q.val (hv s hs)).2.1;obtain ⟨u1,u2⟩:=y3r q hv (by simp) p;obtain ⟨d1,d2⟩:=y5t q hv (by simp) p;have hlo:=hlt r (by simp);have c:Wy.can [q.rc r]:=by have:=(q.val hr).1;simp only [Vw,Bool.and_eq_true,decide_eq_true_eq] at this;exact can2 _ this.1 this.2.1
 have ci: ∀P:Prop,∀i:Decidable P,Wy.can (@ite _ P i [q.rc r] []):=fun P i=>by
  by_cases h:P
  ·rw [if_pos h];exact c
  ·rw [if_neg h];exact Wy.nil
 constructor
 ·refine Wy.uniq _ _ u1 (ci _ _) fun ⟨u,v⟩=> ?_;rw [u2,x0h q hL hlt,v3j,v2w,u4a];by_cases e:p=q.hi r
  ·rw [if_pos e];constructor
   ·rintro ⟨⟨s,hs,_,k⟩,_⟩;rw [List.mem_singleton.1 hs] at k;exact ⟨_,by simp,k⟩
   ·rintro ⟨s,hs,k⟩;rw [List.mem_singleton.1 hs] at k;refine ⟨⟨r,by simp,e.symm,k⟩,?_⟩;rintro ⟨s,hs,e2,_⟩;rw [List.mem_singleton.1 hs] at e2;omega
  ·rw [if_neg e];constructor
   ·rintro ⟨⟨s,hs,e2,_⟩,_⟩;rw [List.mem_singleton.1 hs] at e2;exact (e e2.symm).elim
   ·rintro ⟨s,hs,_⟩;cases hs
 ·refine Wy.uniq _ _ d1 (ci _ _) fun ⟨u,v⟩=> ?_;rw [d2,y0e q hL hlt,v3j,v2w,u4a];by_cases e:p=q.lo r
  ·rw [if_pos e];constructor
   ·rintro ⟨⟨s,hs,_,k⟩,_⟩;rw [List.mem_singleton.1 hs] at k;exact ⟨_,by simp,k⟩
   ·rintro ⟨s,hs,k⟩;rw [List.mem_singleton.1 hs] at k;refine ⟨⟨r,by simp,e.symm,k⟩,?_⟩;rintro ⟨s,hs,e2,_⟩;rw [List.mem_singleton.1 hs] at e2;omega
  ·rw [if_neg e];constructor
   ·rintro ⟨⟨s,hs,e2,_⟩,_⟩;rw [List.mem_singleton.1 hs] at e2;exact (e e2.symm).elim
   ·rintro ⟨s,hs,_⟩;cases hs
theorem pl_one (q:Ax) (r:R6) (h:q.lo r<q.hi r):plQ q [r]=[q.lo r,q.hi r]:=y0i _ _ (z9o q _) (by simp [h]) fun x=>by rw [z6i];simp
theorem v9b :Jr one1=[⟨0,2,0,0,2,1,1⟩,⟨1,0,0,0,0,1,1⟩,⟨2,0,1,0,2,1,1⟩,⟨3,0,0,0,2,0,1⟩,⟨4,0,0,1,2,1,1⟩,⟨5,0,0,0,2,1,0⟩]:=by
 obtain ⟨_,hv,_,hL⟩:=Wu x0o;have hr:=hv ⟨0,0,0,2,1,1⟩ (by simp [one1]);have up: ∀(q:Ax) (s:Bool),dM q s one1=[match s with | true=>qd q true (q.hi ⟨0,0,0,2,1,1⟩) (q.rc ⟨0,0,0,2,1,1⟩) | false=>qd q false (q.lo ⟨0,0,0,2,1,1⟩) (q.rc ⟨0,0,0,2,1,1⟩)]:=fun q s=>by
  have hlt:=(q.val hr).2.1;rw [v4q hv (by decide) hL,show plQ q one1=_ from pl_one q _ hlt];cases s with
  | true=>show (upF q one1 _).map _++((upF q one1 _).map _++[])=_;rw [show∀p,upF q one1 p=_ from fun p=>(z8u q hr p).1,show∀p,upF q one1 p=_ from fun p=>(z8u q hr p).1,if_neg (by omega),if_pos rfl];rfl
  | false=>show (dnF q one1 _).map _++((dnF q one1 _).map _++[])=_;rw [show∀p,dnF q one1 p=_ from fun p=>(z8u q hr p).2,show∀p,dnF q one1 p=_ from fun p=>(z8u q hr p).2,if_pos rfl,if_neg (by omega)];rfl
 unfold Jr;rw [up,up,up,up,up,up];rfl
theorem u1f : ∃N,Yv x2k N z8w=.ret [.bool true]:=by refine ⟨0,?_⟩;obtain ⟨o1,o0⟩:=x1d x0o (by decide);obtain ⟨b1,b0⟩:=back x0o (by decide);have w:=(z1x x0o (by decide)).2;rw [v9b] at o0 b1 b0 w;unfold z8w;have e1:([(R6.mk 0 0 0 2 1 1)]:List R6)=one1:=rfl;have e2:([(R6.mk 0 0 0 1 1 1),(R6.mk 1 1 0 2 2 1)]:List R6)=two2:=rfl;simp only [Za,e1,e2,o1,o0,b1,b0,show z4l one1=true from rfl,show z7x two2=true from rfl,w,show Ve one1 one1=true from rfl,show Kx one1 one1=true from decide_eq_true rfl];rfl
def fAl :List AVal→Option (AVal×Bool)
 | []=>some (.bool true,true)
 | _=>none
theorem fAl_ok {S:Specs} (hS:Zu prog S):Zu prog (S.with w2x fAl):=by
 refine z2d hS (by kernel_rfl) fun args v h=> ?_;unfold fAl at h;split at h
 ·simp only [Option.some.injEq,Prod.mk.injEq,and_true] at h;subst h;obtain ⟨N,hN⟩:=u1f;exact ⟨_,_,.nil,rfl,v5m N _ hN,3,rfl⟩
 ·cases h
def Ml :Specs:=(Mk.with w2x fAl)
theorem Ml_ok :Zu prog Ml:=(fAl_ok y1v)
end Go.Am
namespace Go.Am
open Go.Proofs.Tryz
open Go.Proofs Go.Sort Go.Shelf Go.RowKit Go.Lib
def a7 (r:R7):Int:=w6p r.a r.b r.c r.d r.e r.f r.g
theorem v2u {r:R7} (h0:0≤r.a) (h:w1n r=true):Vt r.a r.b r.c r.d r.e r.f r.g=true:=by have:=w1m h;unfold Vt;rw [decide_eq_true h0,decide_eq_true this];rfl
theorem v1k {L:List R7} (h:Wf L=true) {r:R7} (hr:r∈L):0≤r.a:=by have:=List.all_eq_true.1 h r hr;simp only [Bool.and_eq_true,decide_eq_true_eq] at this;exact this.1
def z1z (L:List R7):Int:=bif z6o L != 0 then 0 else IntKind.wrap .i64 (sm L a7)
def z8b (L:List R7):Int:=z6o L
def Qx (L:List R7):Bool:=Wf L
theorem u5m (L:List R7) (hl:L.length≤3000) (ho: ∀r∈L,0≤r.a∧w1n r=true): ∀(k i:Nat) (S:Int),i+k=L.length→ ∃N,Yv (z9t L) N (.to (.h0 (IntKind.wrap .i64 S) (i:Int)))=.ret [.int .i64 (IntKind.wrap .i64 (S+sm (L.drop i) a7)),.int .i64 0]
 | 0,i,S,h=>by refine ⟨1,?_⟩;rw [Zv,List.drop_eq_nil_of_le (by omega),z1o,Int.add_zero];simp (disch:=omega) only [z9t,Yx,cond_false,Zm]
 | k+1,i,S,h=>by
  have hi:i<L.length:=by omega
  obtain ⟨N,hN⟩:=u5m L hl ho k (i+1) (S+a7 (rd L i)) (by omega);refine ⟨N+1,?_⟩;have hm:rd L i∈L:=by rw [Xy hi];exact List.getElem_mem hi
  have o:=v2u (ho _ hm).1 (ho _ hm).2;have w:IntKind.wrap .i64 (IntKind.wrap .i64 S+w6p (rd L i).a (rd L i).b (rd L i).c (rd L i).d (rd L i).e (rd L i).f (rd L i).g)=IntKind.wrap .i64 (S+a7 (rd L i)):=Cg.eq ((Cg.wrap S).add (Cg.refl _));rw [Zv,Ym hi,Xf,←Int.add_assoc,←hN]
  congr 1
  simp (disch:=omega) only [z9t,Zt,Yz,Zq,Zx,Zj,o,w,Bool.and_true,cond_true]
theorem j0f (L:List R7) (h:Qx L=true): ∃N,Yv (z9t L) N (y3a L)=.ret [.int .i64 (z1z L),.int .i64 (z8b L)]:=by
 unfold y3a z1z z8b;simp only [Za,show Wf L=true from h,cond_true];rcases Ye (z6o L != 0) with q1 | q1
 ·exact ⟨0,by simp only [q1,cond_true];rfl⟩
 ·have e:z6o L=0:=by simpa using q1
  obtain ⟨hl,hv⟩:=z7z e;obtain ⟨N,hN⟩:=u5m L hl (fun r hr=>⟨v1k h hr,hv r hr⟩) L.length 0 0 (Nat.zero_add _);refine ⟨N,?_⟩;simp only [q1,cond_false];rw [e];rw [List.drop_zero,Int.zero_add] at hN;exact hN
def cd7 (x:Int) (r:R7):Int:=if x=0 then r.b else if x=1 then r.c else r.d
def w4j (x:Int) (r:R7):Int:=bif r.a == 2*x then a7 r*cd7 x r else bif r.a == 2*x+1 then -(a7 r*cd7 x r) else 0
def y9g (L:List R7) (x:Int):Int:=bif z6o L != 0 then 0 else bif decide (x<0) then 0 else bif decide (x>2) then 0 else IntKind.wrap .i64 (sm L (w4j x))
def y9f (L:List R7) (x:Int):Int:=bif z6o L != 0 then z6o L else bif decide (x<0) then 2 else bif decide (x>2) then 2 else 0
def z8a (L:List R7) (x:Int):Bool:=Wf L
theorem u5l (L:List R7) (x:Int) (hx:0≤x∧x≤2) (hl:L.length≤3000) (ho: ∀r∈L,0≤r.a∧w1n r=true): ∀(k i:Nat) (S:Int),i+k=L.length→ ∃N,Yv (z9s L x) N (.to (.h0 (IntKind.wrap .i64 S) (i:Int)))=.ret [.int .i64 (IntKind.wrap .i64 (S+sm (L.drop i) (w4j x))),.int .i64 0]
 | 0,i,S,h=>by refine ⟨1,?_⟩;rw [Zv,List.drop_eq_nil_of_le (by omega),z1o,Int.add_zero];simp (disch:=omega) only [z9s,Yx,cond_false,Zm]
 | k+1,i,S,h=>by
  have hi:i<L.length:=by omega
  obtain ⟨N,hN⟩:=u5l L x hx hl ho k (i+1) (S+w4j x (rd L i)) (by omega);refine ⟨N+1,?_⟩;have hm:rd L i∈L:=by rw [Xy hi];exact List.getElem_mem hi
  have o:=v2u (ho _ hm).1 (ho _ hm).2;have ha:=w1m (ho _ hm).2;have ha0:=(ho _ hm).1;have em: ∀y,w6p (rd L i).a (rd L i).b (rd L i).c (rd L i).d (rd L i).e (rd L i).f (rd L i).g *y=a7 (rd L i)*y:=fun y=>rfl;have wp: ∀y,IntKind.wrap .i64 (IntKind.wrap .i64 S+IntKind.wrap .i64 y)=IntKind.wrap .i64 (S+y):=fun y=>Cg.eq ((Cg.wrap S).add (Cg.wrap _));have wm: ∀y,IntKind.wrap .i64 (IntKind.wrap .i64 S - IntKind.wrap .i64 y)=IntKind.wrap .i64 (S - y):=fun y=>Cg.eq ((Cg.wrap S).sub (Cg.wrap _));have wa:IntKind.wrap .i64 (rd L i).a =(rd L i).a :=Zq (by omega);rw [Zv,Ym hi,Xf,←Int.add_assoc,←hN]
  congr 1
  have h0:decide ((i:Int)<(L.length:Int))=true:=decide_eq_true (by omega);have h1:decide (0≤(i:Int)∧(i:Int)<(L.length:Int))=true:=decide_eq_true (by omega);have w3:IntKind.wrap .i64 ((i:Int)+1)=((i+1:Nat):Int):=by rw [Zq (by omega)];rfl
  have w2:IntKind.wrap .i64 (2*x)=2*x:=Zq (by omega);have w21:IntKind.wrap .i64 (2*x+1)=2*x+1:=Zq (by omega);have:x=0∨x=1∨x=2:=by omega
  have key: ∀(c1 c2:Bool) (A B C:Int),(bif c1 then IntKind.wrap .i64 (S+A) else bif c2 then IntKind.wrap .i64 (S - A) else IntKind.wrap .i64 S)=IntKind.wrap .i64 (S+(bif c1 then A else bif c2 then -A else 0)):=fun c1 c2 A B C=>by
   cases c1
   ·cases c2
    ·show _=IntKind.wrap .i64 (S+0);rw [Int.add_zero];rfl
    ·rfl
   ·rfl
  unfold w4j;rw [←key _ _ _ 0 0];rcases this with rfl | rfl | rfl <;> simp only [z9s,h0,h1,w3,Zj,o,em,wp,wm,wa,w2,w21,Bool.and_true,cond_true]
  ·cases (rd L i).a == 2*0 <;> cases (rd L i).a == 2*0+1 <;> rfl
  ·cases (rd L i).a == 2*1 <;> cases (rd L i).a == 2*1+1 <;> rfl
  ·cases (rd L i).a == 2*2 <;> cases (rd L i).a == 2*2+1 <;> rfl
theorem j0e (L:List R7) (x:Int) (h:z8a L x=true): ∃N,Yv (z9s L x) N (y2z L x)=.ret [.int .i64 (y9g L x),.int .i64 (y9f L x)]:=by
 unfold y2z y9g y9f;simp only [Za,show Wf L=true from h,cond_true];rcases Ye (z6o L != 0) with q1 | q1
 ·exact ⟨0,by simp only [q1,cond_true];rfl⟩
 rcases Ye (decide (x<0)) with q2 | q2
 ·exact ⟨0,by simp only [q1,q2,cond_true,cond_false];rfl⟩
 rcases Ye (decide (x>2)) with q3 | q3
 ·exact ⟨0,by simp only [q1,q2,q3,cond_true,cond_false];rfl⟩
 have e:z6o L=0:=by simpa using q1
 obtain ⟨hl,hv⟩:=z7z e;have hx:0≤x∧x≤2:=by have h2:=of_decide_eq_false q2;have h3:=of_decide_eq_false q3;omega
 obtain ⟨N,hN⟩:=u5l L x hx hl (fun r hr=>⟨v1k h hr,hv r hr⟩) L.length 0 0 (Nat.zero_add _);refine ⟨N,?_⟩;simp only [q1,q2,q3,cond_false];rw [List.drop_zero,Int.zero_add] at hN;exact hN
def z1m (L:List R6):Int:=bif Yr L != 0 then 0 else IntKind.wrap .i64 (sm L bxV)
def x3c (L:List R6):Int:=Yr L
def z7b (L:List R6):Bool:=true
theorem u1o (L:List R6) (hl:L.length≤400): ∀(k i:Nat) (S:Int),i+k=L.length→ ∃N,Yv (z9d L) N (.to (.h0 (IntKind.wrap .i64 S) (i:Int)))=.ret [.int .i64 (IntKind.wrap .i64 (S+sm (L.drop i) bxV)),.int .i64 0]
 | 0,i,S,h=>by refine ⟨1,?_⟩;rw [Zv,List.drop_eq_nil_of_le (by omega),z1o,Int.add_zero];simp (disch:=omega) only [z9d,Yx,cond_false,Zm]
 | k+1,i,S,h=>by
  have hi:i<L.length:=by omega
  obtain ⟨N,hN⟩:=u1o L hl k (i+1) (S+bxV (rd L i)) (by omega);refine ⟨N+1,?_⟩;have w:IntKind.wrap .i64 (IntKind.wrap .i64 S+IntKind.wrap .i64 (IntKind.wrap .i64 (IntKind.wrap .i64 ((rd L i).d - (rd L i).a)*IntKind.wrap .i64 ((rd L i).e - (rd L i).b))*IntKind.wrap .i64 ((rd L i).f - (rd L i).c)))=IntKind.wrap .i64 (S+bxV (rd L i)):=
   Cg.eq ((Cg.wrap S).add (Cg.w ((Cg.w ((Cg.wrap _).mul (Cg.wrap _))).mul (Cg.wrap _))))
  have h0:decide ((i:Int)<(L.length:Int))=true:=decide_eq_true (by omega);have h1:decide (0≤(i:Int)∧(i:Int)<(L.length:Int))=true:=decide_eq_true (by omega);have w3:IntKind.wrap .i64 ((i:Int)+1)=((i+1:Nat):Int):=by rw [Zq (by omega)];rfl
  rw [Zv,Ym hi,Xf,←Int.add_assoc,←hN]
  congr 1
  simp only [z9d,h0,h1,w3,Zj,w,Bool.and_true,cond_true]
theorem u6s (L:List R6) (h:z7b L=true): ∃N,Yv (z9d L) N (y2c L)=.ret [.int .i64 (z1m L),.int .i64 (x3c L)]:=by
 unfold y2c z1m x3c;simp only [Za,show Uf L=true from rfl,cond_true];rcases Ye (Yr L != 0) with q1 | q1
 ·exact ⟨0,by simp only [q1,cond_true];rfl⟩
 ·obtain ⟨N,hN⟩:=u1o L (y8c q1) L.length 0 0 (Nat.zero_add _);refine ⟨N,?_⟩;simp only [q1,cond_false];rw [show Yr L=0 by simpa using q1];rw [List.drop_zero,Int.zero_add] at hN;exact hN
def fMAr :List AVal→Option (AVal×Bool)
 | [a0]=>match asL R7 a0 with
  | some (L0,g0,n0)=>some (.tup [.int .i64 (z1z L0),.int .i64 (z8b L0)],isT R7 n0 g0&&(Qx L0))
  | _=>none
 | _=>none
theorem j1v {S:Specs} (hS:Zu prog S):Zu prog (S.with u4m fMAr):=by
 refine z2d hS (by kernel_rfl) fun args v h=> ?_;unfold fMAr at h;split at h
 ·rename_i a0;split at h
  ·rename_i L0 g0 n0 e0;simp only [Option.some.injEq,Prod.mk.injEq,Bool.and_eq_true] at h;obtain ⟨rfl,ho0,hw⟩:=h;obtain ⟨N,hN⟩:=j0f L0 hw;exact ⟨_,_,(.cons (asL_le e0 ho0) .nil),rfl,v9p L0 N _ hN,3,rfl⟩
  ·cases h
 ·cases h
def fMVo :List AVal→Option (AVal×Bool)
 | [a0,.int .i64 x1]=>match asL R7 a0 with
  | some (L0,g0,n0)=>some (.tup [.int .i64 (y9g L0 x1),.int .i64 (y9f L0 x1)],isT R7 n0 g0&&(z8a L0 x1))
  | _=>none
 | _=>none
theorem j1u {S:Specs} (hS:Zu prog S):Zu prog (S.with nMVol fMVo):=by
 refine z2d hS (by kernel_rfl) fun args v h=> ?_;unfold fMVo at h;split at h
 ·rename_i a0 x1;split at h
  ·rename_i L0 g0 n0 e0;simp only [Option.some.injEq,Prod.mk.injEq,Bool.and_eq_true] at h;obtain ⟨rfl,ho0,hw⟩:=h;obtain ⟨N,hN⟩:=j0e L0 x1 hw;exact ⟨_,_,(.cons (asL_le e0 ho0) (.cons (.refl _) .nil)),rfl,v9o L0 x1 N _ hN,3,rfl⟩
  ·cases h
 ·cases h
def fSvo :List AVal→Option (AVal×Bool)
 | [a0]=>match asL R6 a0 with
  | some (L0,g0,n0)=>some (.tup [.int .i64 (z1m L0),.int .i64 (x3c L0)],isT R6 n0 g0&&(z7b L0))
  | _=>none
 | _=>none
theorem j0z {S:Specs} (hS:Zu prog S):Zu prog (S.with u4e fSvo):=by
 refine z2d hS (by kernel_rfl) fun args v h=> ?_;unfold fSvo at h;split at h
 ·rename_i a0;split at h
  ·rename_i L0 g0 n0 e0;simp only [Option.some.injEq,Prod.mk.injEq,Bool.and_eq_true] at h;obtain ⟨rfl,ho0,hw⟩:=h;obtain ⟨N,hN⟩:=u6s L0 hw;exact ⟨_,_,(.cons (asL_le e0 ho0) .nil),rfl,v6g L0 N _ hN,3,rfl⟩
  ·cases h
 ·cases h
def Mn :Specs:=((((Ml.with u4m fMAr).with nMVol fMVo).with v1v fSls).with u4e fSvo)
theorem z2j :Zu prog Mn:=(j0z (j1c (j1u (j1v Ml_ok))))
end Go.Am
namespace Go.Am
open Go.Proofs.Tryz
open Go.Proofs
inductive mclS where
 | h0 (v12:Int)
 | h1 (v12:Int) (v13:Int) (v14:Int) (v15:List R7) (v16:List R7) (v17:Int)
abbrev Uq (l0:List R6) (v17:Int):=(R7.mk (rd (Zg (cvT l0)) (tn v17)).a (rd (Zg (cvT l0)) (tn v17)).b (rd (Zg (cvT l0)) (tn v17)).c (rd (Zg (cvT l0)) (tn v17)).d (rd (Zg (cvT l0)) (tn v17)).e (rd (Zg (cvT l0)) (tn v17)).f (rd (Zg (cvT l0)) (tn v17)).g)
abbrev Yh (l0:List R6) (v17:Int):=(rd (Zg (cvT l0)) (tn v17))
abbrev z5v (l0:List R6):=(Zz (Zg (cvT l0)))
def mclC (l0:List R6):mclS→Cfg
 | .h0 v12=>⟨⟨155,0,true⟩,none,(Zd prog 11 [1,1,1,1,1,1,1,1,0,1,0,0] 0),none,(Zy prog 3),⟨Yd [(3,(.bool true)),(4,(.dat (Zg (cvT l0)).length (z5v l0))),(10,(ii (z1m (cvT l0)))),(12,(ii v12))],Uw [] 0,0,[],true⟩,[],.leaf⟩
 | .h1 v12 v13 v14 v15 v16 v17=>⟨⟨155,0,true⟩,none,(Zd prog 11 [1,1,1,1,1,1,1,1,0,1,0,0,1,0,0,1,1,0,1,0,0] 0),none,(Zy prog 3),⟨Yd [(3,(.bool true)),(4,(.dat (Zg (cvT l0)).length (z5v l0))),(10,(ii (z1m (cvT l0)))),(12,(ii v12)),(13,(ii v13)),(14,(ii v14)),(15,(.sla 0 7 0 v15.length (.un 7))),(16,(.sla 1 7 0 v16.length (.un 7))),(17,(ii v17))],Uw [⟨rows v15.length (Zz v15),62,some ⟨7,v15.length,(Zz v15)⟩⟩,⟨rows v16.length (Zz v16),62,some ⟨7,v16.length,(Zz v16)⟩⟩] 0,2,[],true⟩,[],.leaf⟩
def mclN0 :List (Option (List Nat)):=[some [3,4,10,12]]
def mclM0 :List (Option (List Nat)):=[]
def v2r :List (Option (List Nat)):=[some [3,4,10,12,13,14,15,16,17]]
def v2s :List (Option (List Nat)):=[]
def Kc (l0:List R6):mclS→Xb mclS
 | .h0 v12=>(bif (decide (v12<3)) then (bif (z8a (cvT (Zg (cvT l0))) v12) then (.to (.h1 v12 (y9g (cvT (Zg (cvT l0))) v12) (y9f (cvT (Zg (cvT l0))) v12) ([]:List R7) ([]:List R7) 0)) else .stuck) else (.ret [(.bool true)]))
 | .h1 v12 v13 v14 v15 v16 v17=>(bif (decide (v17<(((Zg (cvT l0)).length :Nat):Int))) then (bif ((decide (0≤v17∧v17<(((Zg (cvT l0)).length :Nat):Int)))&&true) then (bif ((IntKind.wrap .i64 (rd (Zg (cvT l0)) v17.toNat).a) == (IntKind.wrap .i64 (2*v12))) then (bif (Nat.beq 7 7&&((decide (0+v15.length=v15.length))&&decide ((v15.length+1+1)*(56+1)≤Ju))) then (bif ((IntKind.wrap .i64 (rd (Zg (cvT l0)) v17.toNat).a) == (IntKind.wrap .i64 ((IntKind.wrap .i64 (2*v12))+1))) then (bif (Nat.beq 7 7&&((decide (0+v16.length=v16.length))&&decide ((v16.length+1+1)*(56+1)≤Ju))) then (.to (.h1 v12 v13 v14 (v15++[(R7.mk (rd (Zg (cvT l0)) v17.toNat).a (rd (Zg (cvT l0)) v17.toNat).b (rd (Zg (cvT l0)) v17.toNat).c (rd (Zg (cvT l0)) v17.toNat).d (rd (Zg (cvT l0)) v17.toNat).e (rd (Zg (cvT l0)) v17.toNat).f (rd (Zg (cvT l0)) v17.toNat).g)]) (v16++[(R7.mk (rd (Zg (cvT l0)) v17.toNat).a (rd (Zg (cvT l0)) v17.toNat).b (rd (Zg (cvT l0)) v17.toNat).c (rd (Zg (cvT l0)) v17.toNat).d (rd (Zg (cvT l0)) v17.toNat).e (rd (Zg (cvT l0)) v17.toNat).f (rd (Zg (cvT l0)) v17.toNat).g)]) (IntKind.wrap .i64 (v17+1)))) else .stuck) else (.to (.h1 v12 v13 v14 (v15++[(R7.mk (rd (Zg (cvT l0)) v17.toNat).a (rd (Zg (cvT l0)) v17.toNat).b (rd (Zg (cvT l0)) v17.toNat).c (rd (Zg (cvT l0)) v17.toNat).d (rd (Zg (cvT l0)) v17.toNat).e (rd (Zg (cvT l0)) v17.toNat).f (rd (Zg (cvT l0)) v17.toNat).g)]) v16 (IntKind.wrap .i64 (v17+1))))) else .stuck) else (bif ((IntKind.wrap .i64 (rd (Zg (cvT l0)) v17.toNat).a) == (IntKind.wrap .i64 ((IntKind.wrap .i64 (2*v12))+1))) then (bif (Nat.beq 7 7&&((decide (0+v16.length=v16.length))&&decide ((v16.length+1+1)*(56+1)≤Ju))) then (.to (.h1 v12 v13 v14 v15 (v16++[(R7.mk (rd (Zg (cvT l0)) v17.toNat).a (rd (Zg (cvT l0)) v17.toNat).b (rd (Zg (cvT l0)) v17.toNat).c (rd (Zg (cvT l0)) v17.toNat).d (rd (Zg (cvT l0)) v17.toNat).e (rd (Zg (cvT l0)) v17.toNat).f (rd (Zg (cvT l0)) v17.toNat).g)]) (IntKind.wrap .i64 (v17+1)))) else .stuck) else (.to (.h1 v12 v13 v14 v15 v16 (IntKind.wrap .i64 (v17+1)))))) else .stuck) else (bif (Nat.beq 7 7&&(decide (0+v15.length≤v15.length)&&Qq (Zz v15))) then (bif (Qx (lst R7 (v15.length) (fun k=>(Zz v15) (0+k)))) then (bif (Nat.beq 7 7&&(decide (0+v16.length≤v16.length)&&Qq (Zz v16))) then (bif (Qx (lst R7 (v16.length) (fun k=>(Zz v16) (0+k)))) then (bif (v14 != 0) then (.ret [(.bool false)]) else (bif (v13 != (z1m (cvT l0))) then (.ret [(.bool false)]) else (bif ((z8b (lst R7 (v15.length) (fun k=>(Zz v15) (0+k)))) != 0) then (.ret [(.bool false)]) else (bif ((z8b (lst R7 (v16.length) (fun k=>(Zz v16) (0+k)))) != 0) then (.ret [(.bool false)]) else (bif ((z1z (lst R7 (v15.length) (fun k=>(Zz v15) (0+k)))) != (z1z (lst R7 (v16.length) (fun k=>(Zz v16) (0+k))))) then (.ret [(.bool false)]) else (.to (.h0 (IntKind.wrap .i64 (v12+1))))))))) else .stuck) else .stuck) else .stuck) else .stuck))
def y2w (l0:List R6):Xb mclS:=(bif (z4q (cvT l0)) then (bif (!(j0r (cvT l0))) then (.ret [(.bool true)]) else (bif (z4l (cvT l0)) then (bif (Qx (cvT (Zg (cvT l0)))) then (bif (z7c (cvT l0)) then (bif (z7b (cvT l0)) then (bif ((z7y (cvT l0)) != 0) then (.ret [(.bool false)]) else (bif ((z8b (cvT (Zg (cvT l0)))) != 0) then (.ret [(.bool false)]) else (bif ((x3h (cvT l0)) != 0) then (.ret [(.bool false)]) else (bif ((x3c (cvT l0)) != 0) then (.ret [(.bool false)]) else (bif ((z1z (cvT (Zg (cvT l0)))) != (y0w (cvT l0))) then (.ret [(.bool false)]) else (bif (decide ((((Zg (cvT l0)).length :Nat):Int)>3000)) then (.ret [(.bool false)]) else (.to (.h0 0)))))))) else .stuck) else .stuck) else .stuck) else .stuck)) else .stuck)
theorem w6m (l0:List R6): ∀s,Xv prog (Zy prog 11) (mclC l0) (mclC l0 s) (Kc l0 s)
 | .h0 v12=>(lb (fun k0=>(lo fun o0=>(sl z2j 33 [(62,7,Zz ([]:List R7)),(62,7,Zz ([]:List R7))] ⟨[0,1],[],v2r,v2s⟩ ⟨[(15,.grow 0 7),(16,.grow 1 7)],[],[]⟩ [true] (pp (fl ([]:List R7) (fl ([]:List R7) nn)) (pp (pp (xI R7 (Zg (cvT l0)).length (z5v l0)) (xw o0)) (tt k0 nn)))))) (fun k0=>(lr 155 3 [1,1,1,1,1,1,1,0] 1 3 [(2,(.bool true))] (sl z2j 13 [] ⟨[],[],[some [2]],[]⟩ ⟨[],[],[]⟩ [false] (tt k0 nn)))))
 | .h1 v12 v13 v14 v15 v16 v17=>(lb (fun k0=>(lo fun aF=>(lb (fun k1=>(lo fun cG=>(lb (fun k2=>(lo fun o0=>(sl z2j 67 [] ⟨[3,5],[],v2r,v2s⟩ ⟨[(15,.len (v15++[(Uq l0 v17)]).length),(16,.len (v16++[(Uq l0 v17)]).length)],[.rowed 7 (v15++[(Uq l0 v17)]).length (Zz (v15++[(Uq l0 v17)])),.rowed 7 (v16++[(Uq l0 v17)]).length (Zz (v16++[(Uq l0 v17)]))],[]⟩ (trs 3 []) (pp (xL (v15.length+1) (v15++[(Uq l0 v17)]).length) (pp (xL (v16.length+1) (v16++[(Uq l0 v17)]).length) (pp (xL (v15.length+1) (v15++[(Uq l0 v17)]).length) (pp (xS (v15.length+1) (Zi (Zz v15) 0 v15.length 7 [(.int .u8 (Yh l0 v17).a),(ii (Yh l0 v17).b),(ii (Yh l0 v17).c),(ii (Yh l0 v17).d),(ii (Yh l0 v17).e),(ii (Yh l0 v17).f),(ii (Yh l0 v17).g)]) (Zz (v15++[(Uq l0 v17)]))) (pp (xL (v16.length+1) (v16++[(Uq l0 v17)]).length) (pp (xS (v16.length+1) (Zi (Zz v16) 0 v16.length 7 [(.int .u8 (Yh l0 v17).a),(ii (Yh l0 v17).b),(ii (Yh l0 v17).c),(ii (Yh l0 v17).d),(ii (Yh l0 v17).e),(ii (Yh l0 v17).f),(ii (Yh l0 v17).g)]) (Zz (v16++[(Uq l0 v17)]))) (pp (pp (xF (Zi (Zz v15) 0 v15.length 7 [(.int .u8 (Yh l0 v17).a),(ii (Yh l0 v17).b),(ii (Yh l0 v17).c),(ii (Yh l0 v17).d),(ii (Yh l0 v17).e),(ii (Yh l0 v17).f),(ii (Yh l0 v17).g)])) (pp (xF (Zi (Zz v16) 0 v16.length 7 [(.int .u8 (Yh l0 v17).a),(ii (Yh l0 v17).b),(ii (Yh l0 v17).c),(ii (Yh l0 v17).d),(ii (Yh l0 v17).e),(ii (Yh l0 v17).f),(ii (Yh l0 v17).g)])) nn)) (ww o0 (ww aF (tt k2 (ww aF (ww cG (ww aF (tt k1 (ww aF (tt k0 nn))))))))))))))))))) (fun k2=>(sl z2j 58 [] ⟨[3,1],[],v2r,v2s⟩ ⟨[(15,.len (v15++[(Uq l0 v17)]).length)],[.rowed 7 (v15++[(Uq l0 v17)]).length (Zz (v15++[(Uq l0 v17)])),.keep],[]⟩ (bl 3 3) (pp (xL (v15.length+1) (v15++[(Uq l0 v17)]).length) (pp (xL (v15.length+1) (v15++[(Uq l0 v17)]).length) (pp (xS (v15.length+1) (Zi (Zz v15) 0 v15.length 7 [(.int .u8 (Yh l0 v17).a),(ii (Yh l0 v17).b),(ii (Yh l0 v17).c),(ii (Yh l0 v17).d),(ii (Yh l0 v17).e),(ii (Yh l0 v17).f),(ii (Yh l0 v17).g)]) (Zz (v15++[(Uq l0 v17)]))) (pp (pp (xF (Zi (Zz v15) 0 v15.length 7 [(.int .u8 (Yh l0 v17).a),(ii (Yh l0 v17).b),(ii (Yh l0 v17).c),(ii (Yh l0 v17).d),(ii (Yh l0 v17).e),(ii (Yh l0 v17).f),(ii (Yh l0 v17).g)])) (fl v16 nn)) (tt k2 (ww aF (ww cG (ww aF (tt k1 (ww aF (tt k0 nn)))))))))))))))) (fun k1=>(lb (fun k2=>(lo fun o0=>(sl z2j 58 [] ⟨[0,3],[],v2r,v2s⟩ ⟨[(16,.len (v16++[(Uq l0 v17)]).length)],[.keep,.rowed 7 (v16++[(Uq l0 v17)]).length (Zz (v16++[(Uq l0 v17)]))],[]⟩ (bl 3 5) (pp (xL (v16.length+1) (v16++[(Uq l0 v17)]).length) (pp (xL (v16.length+1) (v16++[(Uq l0 v17)]).length) (pp (xS (v16.length+1) (Zi (Zz v16) 0 v16.length 7 [(.int .u8 (Yh l0 v17).a),(ii (Yh l0 v17).b),(ii (Yh l0 v17).c),(ii (Yh l0 v17).d),(ii (Yh l0 v17).e),(ii (Yh l0 v17).f),(ii (Yh l0 v17).g)]) (Zz (v16++[(Uq l0 v17)]))) (pp (fl v15 (pp (xF (Zi (Zz v16) 0 v16.length 7 [(.int .u8 (Yh l0 v17).a),(ii (Yh l0 v17).b),(ii (Yh l0 v17).c),(ii (Yh l0 v17).d),(ii (Yh l0 v17).e),(ii (Yh l0 v17).f),(ii (Yh l0 v17).g)])) nn)) (ww o0 (ww aF (tt k2 (ww aF (tt k1 (ww aF (tt k0 nn)))))))))))))) (fun k2=>(sl z2j 49 [] ⟨[0,1],[],v2r,v2s⟩ ⟨[],[],[]⟩ (bl 3 1) (pp (fl v15 (fl v16 nn)) (tt k2 (ww aF (tt k1 (ww aF (tt k0 nn))))))))))))) (fun k0=>(lo fun aF=>(lo fun aW=>(lo fun bZ=>(lo fun cL=>(lb (fun k1=>(lr 155 11 [1,1,1,1,1,1,1,1,0,1,0,0,1,0,0,1,1,1,1,1,1,0,0] 1 3 [(2,(.bool false))] (sl z2j 58 [] ⟨[],[],[some [2]],[]⟩ ⟨[],[],[]⟩ (bl 12 4094) (tt k1 (pp (pp (pp (xw bZ) nn) (pp (xI R7 (v16.length) (fun k=>(Zz v16) (0+k))) (xw cL))) (pp (pp (pp (xw aF) nn) (pp (xI R7 (v15.length) (fun k=>(Zz v15) (0+k))) (xw aW))) (tt k0 nn))))))) (fun k1=>(lb (fun k2=>(lr 155 11 [1,1,1,1,1,1,1,1,0,1,0,0,1,0,0,1,1,1,1,1,1,0,0] 1 3 [(2,(.bool false))] (sl z2j 58 [] ⟨[],[],[some [2]],[]⟩ ⟨[],[],[]⟩ (bl 12 4080) (tt k2 (tt k1 (pp (pp (pp (xw bZ) nn) (pp (xI R7 (v16.length) (fun k=>(Zz v16) (0+k))) (xw cL))) (pp (pp (pp (xw aF) nn) (pp (xI R7 (v15.length) (fun k=>(Zz v15) (0+k))) (xw aW))) (tt k0 nn)))))))) (fun k2=>(lb (fun k3=>(lr 155 11 [1,1,1,1,1,1,1,1,0,1,0,0,1,0,0,1,1,1,1,1,1,0,0] 1 3 [(2,(.bool false))] (sl z2j 58 [] ⟨[],[],[some [2]],[]⟩ ⟨[],[],[]⟩ (bl 12 4032) (tt k3 (tt k2 (tt k1 (pp (pp (pp (xw bZ) nn) (pp (xI R7 (v16.length) (fun k=>(Zz v16) (0+k))) (xw cL))) (pp (pp (pp (xw aF) nn) (pp (xI R7 (v15.length) (fun k=>(Zz v15) (0+k))) (xw aW))) (tt k0 nn))))))))) (fun k3=>(lb (fun k4=>(lr 155 11 [1,1,1,1,1,1,1,1,0,1,0,0,1,0,0,1,1,1,1,1,1,0,0] 1 3 [(2,(.bool false))] (sl z2j 58 [] ⟨[],[],[some [2]],[]⟩ ⟨[],[],[]⟩ (bl 12 3840) (tt k4 (tt k3 (tt k2 (tt k1 (pp (pp (pp (xw bZ) nn) (pp (xI R7 (v16.length) (fun k=>(Zz v16) (0+k))) (xw cL))) (pp (pp (pp (xw aF) nn) (pp (xI R7 (v15.length) (fun k=>(Zz v15) (0+k))) (xw aW))) (tt k0 nn)))))))))) (fun k4=>(lb (fun k5=>(lr 155 11 [1,1,1,1,1,1,1,1,0,1,0,0,1,0,0,1,1,1,1,1,1,0,0] 1 3 [(2,(.bool false))] (sl z2j 58 [] ⟨[],[],[some [2]],[]⟩ ⟨[],[],[]⟩ (bl 12 2048) (tt k5 (tt k4 (tt k3 (tt k2 (tt k1 (pp (pp (pp (xw bZ) nn) (pp (xI R7 (v16.length) (fun k=>(Zz v16) (0+k))) (xw cL))) (pp (pp (pp (xw aF) nn) (pp (xI R7 (v15.length) (fun k=>(Zz v15) (0+k))) (xw aW))) (tt k0 nn))))))))))) (fun k5=>(sl z2j 62 [] ⟨[],[],mclN0,mclM0⟩ ⟨[],[],[]⟩ (bl 12 0) (tt k5 (tt k4 (tt k3 (tt k2 (tt k1 (pp (pp (pp (xw bZ) nn) (pp (xI R7 (v16.length) (fun k=>(Zz v16) (0+k))) (xw cL))) (pp (pp (pp (xw aF) nn) (pp (xI R7 (v15.length) (fun k=>(Zz v15) (0+k))) (xw aW))) (tt k0 nn)))))))))))))))))))))))))
theorem x8r (l0:List R6):Xv prog (Zy prog 11) (mclC l0) (Zc prog 11 [(.dat l0.length (Zz l0))] true []) (y2w l0):=(lo fun bV=>(lb (fun k0=>(lr 155 11 [1,1,0,1,0,0] 1 3 [(2,(.bool true))] (sl z2j 26 [] ⟨[],[],[some [2]],[]⟩ ⟨[],[],[]⟩ (trs 3 []) (tt k0 (pp (pp (xr l0) (xw bV)) nn))))) (fun k0=>(lo fun aF=>(lo fun aW=>(lo fun bZ=>(lo fun cL=>(lb (fun k1=>(lr 155 11 [1,1,1,1,1,1,1,0,1,0,0] 1 3 [(2,(.bool false))] (sl z2j 95 [] ⟨[],[],[some [2]],[]⟩ ⟨[],[],[]⟩ [false,false,false,true,true,true,true,true,true,true,true,true,true,true,true,true] (tt k1 (pp (pp (xr l0) (xw cL)) (pp (pp (xr l0) (xw bZ)) (pp (pp (xI R7 (Zg (cvT l0)).length (z5v l0)) (xw aW)) (pp (pp (xr l0) (xw aF)) (tt k0 (pp (pp (xr l0) (xw bV)) nn)))))))))) (fun k1=>(lb (fun k2=>(lr 155 11 [1,1,1,1,1,1,1,0,1,0,0] 1 3 [(2,(.bool false))] (sl z2j 95 [] ⟨[],[],[some [2]],[]⟩ ⟨[],[],[]⟩ [false,false,false,false,false,true,true,true,true,true,true,true,true,true,true,true] (tt k2 (tt k1 (pp (pp (xr l0) (xw cL)) (pp (pp (xr l0) (xw bZ)) (pp (pp (xI R7 (Zg (cvT l0)).length (z5v l0)) (xw aW)) (pp (pp (xr l0) (xw aF)) (tt k0 (pp (pp (xr l0) (xw bV)) nn))))))))))) (fun k2=>(lb (fun k3=>(lr 155 11 [1,1,1,1,1,1,1,0,1,0,0] 1 3 [(2,(.bool false))] (sl z2j 95 [] ⟨[],[],[some [2]],[]⟩ ⟨[],[],[]⟩ [false,false,false,false,false,false,false,true,true,true,true,true,true,true,true,true] (tt k3 (tt k2 (tt k1 (pp (pp (xr l0) (xw cL)) (pp (pp (xr l0) (xw bZ)) (pp (pp (xI R7 (Zg (cvT l0)).length (z5v l0)) (xw aW)) (pp (pp (xr l0) (xw aF)) (tt k0 (pp (pp (xr l0) (xw bV)) nn)))))))))))) (fun k3=>(lb (fun k4=>(lr 155 11 [1,1,1,1,1,1,1,0,1,0,0] 1 3 [(2,(.bool false))] (sl z2j 95 [] ⟨[],[],[some [2]],[]⟩ ⟨[],[],[]⟩ [false,false,false,false,false,false,false,false,false,true,true,true,true,true,true,true] (tt k4 (tt k3 (tt k2 (tt k1 (pp (pp (xr l0) (xw cL)) (pp (pp (xr l0) (xw bZ)) (pp (pp (xI R7 (Zg (cvT l0)).length (z5v l0)) (xw aW)) (pp (pp (xr l0) (xw aF)) (tt k0 (pp (pp (xr l0) (xw bV)) nn))))))))))))) (fun k4=>(lb (fun k5=>(lr 155 11 [1,1,1,1,1,1,1,0,1,0,0] 1 3 [(2,(.bool false))] (sl z2j 95 [] ⟨[],[],[some [2]],[]⟩ ⟨[],[],[]⟩ [false,false,false,false,false,false,false,false,false,false,false,false,true,true,true,true] (tt k5 (tt k4 (tt k3 (tt k2 (tt k1 (pp (pp (xr l0) (xw cL)) (pp (pp (xr l0) (xw bZ)) (pp (pp (xI R7 (Zg (cvT l0)).length (z5v l0)) (xw aW)) (pp (pp (xr l0) (xw aF)) (tt k0 (pp (pp (xr l0) (xw bV)) nn)))))))))))))) (fun k5=>(lb (fun k6=>(lr 155 11 [1,1,1,1,1,1,1,0,1,0,0] 1 3 [(2,(.bool false))] (sl z2j 95 [] ⟨[],[],[some [2]],[]⟩ ⟨[],[],[]⟩ [false,false,false,false,false,false,false,false,false,false,false,false,false,false,false,true] (tt k6 (tt k5 (tt k4 (tt k3 (tt k2 (tt k1 (pp (pp (xr l0) (xw cL)) (pp (pp (xr l0) (xw bZ)) (pp (pp (xI R7 (Zg (cvT l0)).length (z5v l0)) (xw aW)) (pp (pp (xr l0) (xw aF)) (tt k0 (pp (pp (xr l0) (xw bV)) nn))))))))))))))) (fun k6=>(sl z2j 99 [] ⟨[],[],mclN0,mclM0⟩ ⟨[],[],[]⟩ [false,false,false,false,false,false,false,false,false,false,false,false,false,false,false,false] (tt k6 (tt k5 (tt k4 (tt k3 (tt k2 (tt k1 (pp (pp (xr l0) (xw cL)) (pp (pp (xr l0) (xw bZ)) (pp (pp (xI R7 (Zg (cvT l0)).length (z5v l0)) (xw aW)) (pp (pp (xr l0) (xw aF)) (tt k0 (pp (pp (xr l0) (xw bV)) nn))))))))))))))))))))))))))))))))
theorem mcl_ends (l0:List R6) (n:Nat) (vs:List AVal) (h:Yv (Kc l0) n (y2w l0)=.ret vs):Jt prog (Zy prog 11) (Zc prog 11 [(.dat l0.length (Zz l0))] true []) vs:=by have:=Ze (w6m l0) n _ (x8r l0);rwa [h] at this
end Go.Am
namespace Go.Am
open Go.Proofs Go.Sort Go.Shelf Go.RowKit Go.Lib
def z0o (P:Prop):Nat:= @ite _ P (Classical.propDecidable P) 1 0
theorem Vi {P:Prop} (h:P):z0o P=1:= @if_pos _ (Classical.propDecidable P) h _ _ _
theorem Wz {P:Prop} (h: ¬P):z0o P=0:= @if_neg _ (Classical.propDecidable P) h _ _ _
theorem y9y (w:Int): ∀s:List R2,Can s→(s.filter fun t=>decide (t.a≤w)&&decide (w<t.b)).length =z0o (pt s w)
 | [],_=>(Wz fun ⟨_,h,_⟩=>by cases h).symm
 | t::s,h=>by
  have ih:=y9y w s h.tail;have hd:=h.head;rw [List.filter_cons];by_cases q:t.a≤w∧w<t.b
  ·rw [if_pos (by simp [q.1,q.2])];have e:(s.filter fun t=>decide (t.a≤w)&&decide (w<t.b))=[]:=List.filter_eq_nil_iff.2 fun r hr k=>by have:=hd r hr;simp only [Bool.and_eq_true,decide_eq_true_eq] at k;omega
   rw [e,Vi ⟨t,by simp,q⟩];rfl
  ·rw [if_neg (by simpa using q),ih];by_cases g:pt s w
   ·rw [Vi g];obtain ⟨r,hr,k⟩:=g;rw [Vi ⟨r,by simp [hr],k⟩]
   ·rw [Wz g,Wz];rintro ⟨r,hr,k⟩;rcases List.mem_cons.1 hr with rfl | hr
    ·exact q k
    ·exact g ⟨r,hr,k⟩
def inR4 (u w:Int) (t:R4):Bool:=(decide (t.a≤u)&&decide (u<t.c))&&(decide (t.b≤w)&&decide (w<t.d))
theorem v5d {l:List R4} (hc:Wy.can l) (u w:Int):(l.filter (inR4 u w)).length =z0o (ptL Wy.inB l (u,w)):=by
 have h1:=y9y w (D4.inn l u) (y3g hc u);have e:((D4.inn l u).filter fun t=>decide (t.a≤w)&&decide (w<t.b)).length =(l.filter (inR4 u w)).length :=by
  show (((l.filter fun r=>decide (r.a≤u)&&decide (u<r.c)).map fun r=>(⟨r.b,r.d⟩:R2)).filter _).length =_;rw [List.filter_map,List.length_map,List.filter_filter]
  congr 1
  refine List.filter_congr fun r _=> ?_;unfold inR4;simp only [Function.comp];exact Bool.and_comm _ _
 rw [←e,h1];have:pt (D4.inn l u) w↔ptL Wy.inB l (u,w):=z4j l u w;by_cases g:pt (D4.inn l u) w
 ·rw [Vi g,Vi (this.1 g)]
 ·rw [Wz g,Wz fun k=>g (this.2 k)]
end Go.Am
namespace Go.Am
open Go.Proofs Go.Sort Go.Shelf Go.RowKit Go.Lib
theorem w3x {E:Int→Int}: ∀{l:List Int},v4i E l=0→ ∀p∈l,E p=0
 | [],_,p,hp=>by cases hp
 | x::l,h,p,hp=>by
  unfold v4i at h;cases g:(E x != 0) with
  | true=>rw [g,cond_true] at h;rw [h] at g;cases g
  | false=>
   rw [g,cond_false] at h;rcases List.mem_cons.1 hp with rfl | hp
   ·simpa using g
   ·exact w3x h p hp
theorem z1h {e x:Int} (h:(bif e != 0 then e else x)=0):e=0∧x=0:=by
 cases g:(e != 0) with
 | true=>rw [g,cond_true] at h;rw [h] at g;cases g
 | false=>rw [g,cond_false] at h;exact ⟨by simpa using g,h⟩
theorem u0v {L:List R6} (h:w3b L=0) (q:Ax) (s:Bool):z8p q s L=0:=by unfold w3b at h;obtain ⟨h1,h⟩:=z1h h;obtain ⟨h2,h⟩:=z1h h;obtain ⟨h3,h⟩:=z1h h;obtain ⟨h4,h⟩:=z1h h;obtain ⟨h5,h⟩:=z1h h;obtain ⟨h6,_⟩:=z1h h;cases q <;> cases s <;> assumption
theorem u4b {L:List R6} (hv: ∀r∈L,Ko r=true) (q:Ax) {p:Int} (h:p∈plQ q L): -1000000≤p∧p≤1000000:=by obtain ⟨r,hr,h⟩:=(z6i q L p).1 h;obtain ⟨_,h1,h2,h3⟩:=q.val (hv r hr);rcases h with rfl | rfl <;> omega
theorem u9v {L:List R6} (hv: ∀r∈L,Ko r=true) (q:Ax) (s:Bool) (p:Int) (hp: -1000000≤p∧p≤1000000) (h:Ur q L p s=0):
  Wy.can (Vx q L p s)∧ ∀u w,ptL Wy.inB (Vx q L p s) (u,w)↔(match s with
   | true=>q.inL L (p - 1) u w∧ ¬q.inL L p u w
   | false=>q.inL L p u w∧ ¬q.inL L (p - 1) u w):=by
 have w:IntKind.wrap .i64 (p - 1)=p - 1:=Zq (by omega);unfold Ur at h;obtain ⟨hE,h⟩:=z1h h;have hE':=hE;unfold w6k at hE';obtain ⟨e1,e2⟩:=z1h hE';rw [w] at e1 h;unfold Vx;rw [hE,w];have one: ∀x,Jm q L x=0→Wy.can (Ya q L x)∧(∀u w,ptL Wy.inB (Ya q L x) (u,w)↔q.inL L x u w)∧ ∀r∈Ya q L x,Vw r=true:=fun x hx=>by obtain ⟨m1,m2,m3⟩:=x7r (l:=z2e q L x) hx;obtain ⟨c,pt⟩:=Qk m2 m1;unfold Ya;rw [m3];exact ⟨c,fun u w=>by rw [pt,y1h],z1f c fun u v k=>z2m m2 ((pt _).1 k)⟩
 obtain ⟨a1,a2,a3⟩:=one _ e1;obtain ⟨b1,b2,b3⟩:=one _ e2;cases s with
 | true=>have h:rgE .d (Ya q L (p - 1)) (Ya q L p)=0:=h;show Wy.can (Wr .d (Ya q L (p - 1)) (Ya q L p))∧ ∀u w,ptL Wy.inB (Wr .d (Ya q L (p - 1)) (Ya q L p)) (u,w)↔_;rw [w2i .d h];obtain ⟨j1,j2,_⟩:=Kb 2 a3 b3;exact ⟨j1,fun u w=>by rw [show ptL Wy.inB (rgJ Op.d.k _ _) (u,w)↔_ from j2 (u,w),v1m,a2,b2]⟩
 | false=>have h:rgE .d (Ya q L p) (Ya q L (p - 1))=0:=h;show Wy.can (Wr .d (Ya q L p) (Ya q L (p - 1)))∧ ∀u w,ptL Wy.inB (Wr .d (Ya q L p) (Ya q L (p - 1))) (u,w)↔_;rw [w2i .d h];obtain ⟨j1,j2,_⟩:=Kb 2 b3 a3;exact ⟨j1,fun u w=>by rw [show ptL Wy.inB (rgJ Op.d.k _ _) (u,w)↔_ from j2 (u,w),v1m,a2,b2]⟩
def inI (q:Ax) (L:List R6) (u w p:Int):Int:=(z0o (q.inL L p u w):Int)
theorem w6c (A B:Prop):(z0o (A∧ ¬B):Int) - (z0o (B∧ ¬A):Int)=(z0o A:Int) - (z0o B:Int):=by
 by_cases a:A <;> by_cases b:B
 ·rw [Wz fun k=>k.2 b,Wz fun k=>k.2 a,Vi a,Vi b];rfl
 ·rw [Vi ⟨a,b⟩,Wz fun k=>b k.1,Vi a,Wz b]
 ·rw [Wz fun k=>a k.1,Vi ⟨b,a⟩,Wz a,Vi b]
 ·rw [Wz fun k=>a k.1,Wz fun k=>b k.1,Wz a,Wz b]
end Go.Am
namespace Go.Am
open Go.Proofs Go.Sort Go.Shelf Go.RowKit Go.Lib
def F6 (r s:R6):Int:=ov (nx 0 r) s+ov (nx 1 r) s+ov (nx 2 r) s+ov (nx 3 r) s+ov (nx 4 r) s+ov (nx 5 r) s
theorem j3j (r s:R6):F6 r s=F6 s r:=by unfold F6;rw [x8g 0 (by omega),x8g 1 (by omega),x8g 2 (by omega),x8g 3 (by omega),x8g 4 (by omega),x8g 5 (by omega)];show ov (nx 1 s) r+ov (nx 0 s) r+ov (nx 3 s) r+ov (nx 2 s) r+ov (nx 5 s) r+ov (nx 4 s) r=_;omega
theorem x1b {a d a' d':Int} (h:a<d) (h':a'<d') (hx:min d d' - max a a'≤0):ovl (a+1) (d+1) a' d'+ovl (a+ -1) (d+ -1) a' d'=if min d d' - max a a'=0 then 1 else 0:=by unfold ovl;split <;> omega
theorem F6_eq (r s:R6):F6 r s=(ovl (r.a+1) (r.d+1) s.a s.d+ovl (r.a+ -1) (r.d+ -1) s.a s.d)*ovl r.b r.e s.b s.e*ovl r.c r.f s.c s.f+ovl r.a r.d s.a s.d*(ovl (r.b+1) (r.e+1) s.b s.e+ovl (r.b+ -1) (r.e+ -1) s.b s.e)*ovl r.c r.f s.c s.f+ovl r.a r.d s.a s.d*ovl r.b r.e s.b s.e*(ovl (r.c+1) (r.f+1) s.c s.f+ovl (r.c+ -1) (r.f+ -1) s.c s.f):=by rw [Int.add_mul,Int.add_mul,Int.mul_add,Int.add_mul,Int.mul_add];show ovl (r.a+1) (r.d+1) s.a s.d*ovl r.b r.e s.b s.e*ovl r.c r.f s.c s.f+ovl (r.a+ -1) (r.d+ -1) s.a s.d*ovl r.b r.e s.b s.e*ovl r.c r.f s.c s.f+ovl r.a r.d s.a s.d*ovl (r.b+1) (r.e+1) s.b s.e*ovl r.c r.f s.c s.f+ovl r.a r.d s.a s.d*ovl (r.b+ -1) (r.e+ -1) s.b s.e*ovl r.c r.f s.c s.f+ovl r.a r.d s.a s.d*ovl r.b r.e s.b s.e*ovl (r.c+1) (r.f+1) s.c s.f+ovl r.a r.d s.a s.d*ovl r.b r.e s.b s.e*ovl (r.c+ -1) (r.f+ -1) s.c s.f=_;omega
theorem x8d {y z:Int} (hy:0<y∧y≤2000000) (hz:0<z∧z≤2000000):IntKind.wrap .i64 (y*z)=y*z:=by have h1:y*z≤2000000*2000000:=Int.mul_le_mul hy.2 hz.2 (by omega) (by omega);have h2:0<y*z:=Int.mul_pos hy.1 hz.1;exact Zq (by omega)
theorem F6_kR {r s:R6} (hr:Ko r=true) (hs:Ko s=true) (h:Ap6 r s):F6 r s=kR r s:=by
 have v1:=Kz hr;have v2:=Kz hs;have ex:kX r.a r.d s.a s.d=min r.d s.d - max r.a s.a:=by unfold kX;rw [x1x,x1y];exact Zq (by omega)
 have ey:kX r.b r.e s.b s.e=min r.e s.e - max r.b s.b:=by unfold kX;rw [x1x,x1y];exact Zq (by omega)
 have ez:kX r.c r.f s.c s.f=min r.f s.f - max r.c s.c:=by unfold kX;rw [x1x,x1y];exact Zq (by omega)
 have hk:kR r s=kT (kX r.a r.d s.a s.d) (kX r.b r.e s.b s.e) (kX r.c r.f s.c s.f):=rfl;rw [hk,ex,ey,ez,F6_eq];have hap:min r.d s.d - max r.a s.a≤0∨min r.e s.e - max r.b s.b≤0∨min r.f s.f - max r.c s.c≤0:=by unfold Ap6 at h;omega
 have bx:min r.d s.d - max r.a s.a≤2000000:=by omega
 have bY:min r.e s.e - max r.b s.b≤2000000:=by omega
 have bz:min r.f s.f - max r.c s.c≤2000000:=by omega
 have sx:=x1b (a:=r.a) (d:=r.d) (a':=s.a) (d':=s.d) (by omega) (by omega);have sy:=x1b (a:=r.b) (d:=r.e) (a':=s.b) (d':=s.e) (by omega) (by omega);have sz:=x1b (a:=r.c) (d:=r.f) (a':=s.c) (d':=s.f) (by omega) (by omega);have ox:ovl r.a r.d s.a s.d=max 0 (min r.d s.d - max r.a s.a):=rfl;have oy:ovl r.b r.e s.b s.e=max 0 (min r.e s.e - max r.b s.b):=rfl;have oz:ovl r.c r.f s.c s.f=max 0 (min r.f s.f - max r.c s.c):=rfl;rw [ox,oy,oz];generalize ovl (r.a+1) (r.d+1) s.a s.d+ovl (r.a+ -1) (r.d+ -1) s.a s.d=X at*;generalize ovl (r.b+1) (r.e+1) s.b s.e+ovl (r.b+ -1) (r.e+ -1) s.b s.e=Y at*;generalize ovl (r.c+1) (r.f+1) s.c s.f+ovl (r.c+ -1) (r.f+ -1) s.c s.f=Z at*;clear ox oy oz ex ey ez hk;generalize min r.d s.d - max r.a s.a=x at*;generalize min r.e s.e - max r.b s.b=y at*;generalize min r.f s.f - max r.c s.c=z at*;have pos: ∀t:Int,0<t→max 0 t=t:=fun t ht=>by omega
 have neg: ∀t:Int,¬0<t→max 0 t=0:=fun t ht=>by omega
 unfold kT;rcases triI x with ⟨h1,h2⟩ | ⟨h1,h2⟩ | ⟨h1,h2⟩ <;> rcases triI y with ⟨h3,h4⟩ | ⟨h3,h4⟩ | ⟨h3,h4⟩ <;> rcases triI z with ⟨h5,h6⟩ | ⟨h5,h6⟩ | ⟨h5,h6⟩ <;> rw [h1,h2,h3,h4,h5,h6] <;>
  simp only [beq_iff_eq,beq_eq_false_iff_ne,decide_eq_true_eq,decide_eq_false_iff_not] at h1 h2 h3 h4 h5 h6 <;>
  simp only [Bool.and_true,Bool.and_false,Bool.true_and,Bool.false_and,cond_true,cond_false]
 all_goals first
  | omega
  | (rw [neg x (by omega),neg y (by omega)];simp only [Int.mul_zero,Int.zero_mul,Int.add_zero];done)
  | (rw [neg x (by omega),neg z (by omega)];simp only [Int.mul_zero,Int.zero_mul,Int.add_zero];done)
  | (rw [neg y (by omega),neg z (by omega)];simp only [Int.mul_zero,Int.zero_mul,Int.add_zero];done)
  | (rw [neg x (by omega),sx (by omega),pos y (by omega),pos z (by omega),if_pos (by omega),x8d (by omega) (by omega)];simp only [Int.one_mul,Int.zero_mul,Int.add_zero];done)
  | (rw [neg x (by omega),sx (by omega),if_neg (by omega)];simp only [Int.mul_zero,Int.zero_mul,Int.add_zero];done)
  | (rw [neg y (by omega),sy (by omega),pos x (by omega),pos z (by omega),if_pos (by omega),x8d (by omega) (by omega)];simp only [Int.mul_one,Int.mul_zero,Int.zero_mul,Int.add_zero,Int.zero_add];done)
  | (rw [neg y (by omega),sy (by omega),if_neg (by omega)];simp only [Int.mul_zero,Int.zero_mul,Int.add_zero];done)
  | (rw [neg z (by omega),sz (by omega),pos x (by omega),pos y (by omega),if_pos (by omega),x8d (by omega) (by omega)];simp only [Int.mul_one,Int.mul_zero,Int.zero_mul,Int.add_zero,Int.zero_add];done)
  | (rw [neg z (by omega),sz (by omega),if_neg (by omega)];simp only [Int.mul_zero,Int.zero_mul,Int.add_zero];done)
theorem j3i {r:R6} (hr:Ko r=true):6*bxV r - F6 r r=sfA r:=by
 have v:=Kz hr;rw [F6_eq];have e: ∀a d:Int,a<d→ovl (a+1) (d+1) a d+ovl (a+ -1) (d+ -1) a d=2*(d - a) - 2:=fun a d h=>by unfold ovl;omega
 have e0: ∀a d:Int,a<d→ovl a d a d=d - a:=fun a d h=>by unfold ovl;omega
 rw [e _ _ v.1,e _ _ v.2.1,e _ _ v.2.2.1,e0 _ _ v.1,e0 _ _ v.2.1,e0 _ _ v.2.2.1];unfold bxV sfA;generalize r.d - r.a=x;generalize r.e - r.b=y;generalize r.f - r.c=z;simp only [Int.sub_mul,Int.mul_sub,Int.mul_add,Int.add_mul];have a1:6*(x*y*z) - (2*x*y*z - 2*y*z+(x*(2*y)*z - x*2*z)+(x*y*(2*z) - x*y*2))=2*(x*y)+2*(x*z)+2*(y*z):=by rw [show 2*x*y*z=2*(x*y*z) by simp only [Int.mul_assoc],show x*(2*y)*z=2*(x*y*z) by rw [Int.mul_left_comm,Int.mul_assoc],show x*y*(2*z)=2*(x*y*z) by rw [Int.mul_left_comm],show x*y*2=2*(x*y) by rw [Int.mul_comm],show x*2*z=2*(x*z) by rw [Int.mul_comm x 2,Int.mul_assoc],Int.mul_assoc 2 y z];omega
 exact a1
def T6s (l:List R6):Int:=sm l fun r=>6*bxV r - sm l fun s=>F6 r s
theorem u1h (l:List R6) (r:R6):T6s (l++[r])=T6s l+(6*bxV r - F6 r r) - sm l (fun s=>2*F6 r s):=by
 unfold T6s;rw [Ug,Xf,z1o,Ug,Xf,z1o];have e:sm l (fun x=>6*bxV x - sm (l++[r]) fun s=>F6 x s)=sm l (fun x=>6*bxV x - sm l fun s=>F6 x s) - sm l fun x=>F6 r x:=by rw [←z3y];refine Zs fun x _=> ?_;rw [Ug,Xf,z1o,j3j x r];omega
 have ee:(sm l fun x=>F6 r x)=sm l (F6 r):=rfl;rw [e,z2o];omega
theorem w9s {X:List R6} (hv: ∀r∈X,Ko r=true) (ha:X.Pairwise Ap6): ∀k,k≤X.length→sfS X k=T6s (X.take k)
 | 0,_=>rfl
 | k+1,h=>by
  have hk:k<X.length:=by omega
  have e:X.take (k+1)=X.take k++[rd X k]:=by rw [List.take_add_one,List.getElem?_eq_getElem hk,Xy hk];rfl
  have er:rd X k∈X:=by rw [Xy hk];exact List.getElem_mem hk
  rw [e,u1h,←w9s hv ha k (by omega)];show sfS X k+(sfA (rd X k) - sm (Wc X 0 k) fun s=>2*kR (rd X k) s)=_;rw [v8k (show 0+k≤X.length by omega),List.drop_zero,j3i (hv _ er)];have:(sm (X.take k) fun s=>2*kR (rd X k) s)=sm (X.take k) fun s=>2*F6 (rd X k) s:=Zs fun s hs=>by
   obtain ⟨j,hj,rfl⟩:=List.getElem_of_mem hs;rw [List.getElem_take];have hj':j<k:=by have:=hj;rw [List.length_take] at this;omega
   rw [F6_kR (hv _ er) (hv _ (List.getElem_mem _))];have:=List.pairwise_iff_getElem.1 ha j k (by omega) hk hj';rw [Xy hk];unfold Ap6 at this ⊢;omega
  rw [this];omega
def v6r (X:List R6):Int:=(sm X bxV - E2 0 X X)+(sm X bxV - E2 1 X X)+(sm X bxV - E2 2 X X)+(sm X bxV - E2 3 X X)+(sm X bxV - E2 4 X X)+(sm X bxV - E2 5 X X)
theorem v5u (X:List R6):T6s X=v6r X:=by
 unfold T6s v6r;rw [z3y,z2o];have e:(sm X fun x=>sm X fun s=>F6 x s)=E2 0 X X+E2 1 X X+E2 2 X X+E2 3 X X+E2 4 X X+E2 5 X X:=by unfold E2;rw [←z3p,←z3p,←z3p,←z3p,←z3p];refine Zs fun x _=> ?_;rw [←z3p,←z3p,←z3p,←z3p,←z3p];rfl
 rw [e];omega
theorem x0i {X:List R6} (h:Sol X):sfS X X.length=v6r X:=by rw [w9s h.val h.ap X.length (Nat.le_refl _),List.take_of_length_le (Nat.le_refl _),v5u]
end Go.Am
namespace Go.Am
open Go.Proofs Go.Sort Go.Shelf Go.RowKit Go.Lib
theorem v3h (a b t x:Int):ind (a+t) (b+t) x=ind a b (x - t):=by
 unfold ind;by_cases h:a≤x - t∧x - t<b
 ·rw [if_pos h,if_pos (by omega)]
 ·rw [if_neg h,if_neg (by omega)]
theorem u9b (d:Int) (hd:0≤d∧d≤5) {r:R6} (h:Ko r=true):u9c (nx d r):=by
 have v:=Kz h;have:d=0∨d=1∨d=2∨d=3∨d=4∨d=5:=by omega
 rcases this with rfl | rfl | rfl | rfl | rfl | rfl
 ·refine ⟨?_,?_,?_,?_,?_,?_⟩ <;> first | (show _≤r.a+1;omega) | (show r.d+1≤_;omega) | (show _≤r.b;omega) | (show r.e≤_;omega) | (show _≤r.c;omega) | (show r.f≤_;omega)
 ·refine ⟨?_,?_,?_,?_,?_,?_⟩ <;> first | (show _≤r.a+ -1;omega) | (show r.d+ -1≤_;omega) | (show _≤r.b;omega) | (show r.e≤_;omega) | (show _≤r.c;omega) | (show r.f≤_;omega)
 ·refine ⟨?_,?_,?_,?_,?_,?_⟩ <;> first | (show _≤r.b+1;omega) | (show r.e+1≤_;omega) | (show _≤r.a;omega) | (show r.d≤_;omega) | (show _≤r.c;omega) | (show r.f≤_;omega)
 ·refine ⟨?_,?_,?_,?_,?_,?_⟩ <;> first | (show _≤r.b+ -1;omega) | (show r.e+ -1≤_;omega) | (show _≤r.a;omega) | (show r.d≤_;omega) | (show _≤r.c;omega) | (show r.f≤_;omega)
 ·refine ⟨?_,?_,?_,?_,?_,?_⟩ <;> first | (show _≤r.c+1;omega) | (show r.f+1≤_;omega) | (show _≤r.a;omega) | (show r.d≤_;omega) | (show _≤r.b;omega) | (show r.e≤_;omega)
 ·refine ⟨?_,?_,?_,?_,?_,?_⟩ <;> first | (show _≤r.c+ -1;omega) | (show r.f+ -1≤_;omega) | (show _≤r.a;omega) | (show r.d≤_;omega) | (show _≤r.b;omega) | (show r.e≤_;omega)
theorem E2_S3 {p:List Int} (hp:Pts p) (d:Int) (hd:0≤d∧d≤5) {X:List R6} (Y:List R6) (hX: ∀r∈X,Ko r=true):E2 d X Y=S3 p fun x y z=>cnt (X.map (nx d)) x y z*cnt Y x y z:=by rw [←E2_map,S2_S3 hp];intro r hr;obtain ⟨s,hs,rfl⟩:=List.mem_map.1 hr;exact u9b d hd (hX s hs)
end Go.Am
namespace Go.Am
open Go.Proofs Go.Sort Go.Shelf Go.RowKit Go.Lib
theorem w9n (g:Int→Int) (c:Int): ∀P:List Int,c ∉ P→sm P (fun x=>if x=c then g x else 0)=0
 | [],_=>rfl
 | x::P,h=>by rw [Xf,w9n g c P (fun k=>h (by simp [k])),if_neg (fun e=>h (by simp [e]))];rfl
theorem u1z (g:Int→Int) (c:Int): ∀P:List Int,P.Pairwise (· < ·)→(c ∉ P→g c=0)→sm P (fun x=>if x=c then g x else 0)=g c
 | [],_,h=>(h (by simp)).symm
 | x::P,hP,h=>by
  obtain ⟨h1,h2⟩:=List.pairwise_cons.1 hP;rw [Xf];by_cases e:x=c
  ·subst e;rw [if_pos rfl,w9n g x P fun k=>by have:=h1 x k;omega];omega
  ·rw [if_neg e,u1z g c P h2 fun k=>h (by simp [k,Ne.symm e])];omega
theorem u1y (g:Int→Int) (lo:Int) (P:List Int) (hP:P.Pairwise (· < ·)) (hl: ∀x∈P,lo≤x) (hz: ∀x,x ∉ P→g x=0): ∀n:Nat,sm P (fun x=>if x<lo+(n:Int) then g x else 0)=sm (w8n lo n) g
 | 0=>by show _=(0:Int);rw [Zs (g:=fun _=>0) fun x hx=>if_neg (by have:=hl x hx;omega),z0d]
 | n+1=>by
  have ih:=u1y g lo P hP hl hz n;unfold w8n at ih ⊢;rw [List.range_succ,List.map_append,Ug,←ih,List.map_cons,List.map_nil,Xf,z1o,←u1z g (lo+(n:Int)) P hP (hz _),Int.add_zero,←z3p];exact Zs fun x _=>by
   by_cases h1:x<lo+(n:Int)
   ·rw [if_pos h1,if_pos (by omega),if_neg (by omega)];omega
   ·by_cases h2:x=lo+(n:Int)
    ·rw [if_neg h1,if_pos h2,if_pos (by omega)];omega
    ·rw [if_neg h1,if_neg h2,if_neg (by omega)];rfl
theorem tel_n (f:Int→Int) (lo:Int): ∀n:Nat,sm (w8n lo n) (fun x=>f (x - 1) - f x)=f (lo - 1) - f (lo+(n:Int) - 1)
 | 0=>by show (0:Int)=_;rw [show lo+((0:Nat):Int) - 1=lo - 1 by omega];omega
 | n+1=>by have ih:=tel_n f lo n;unfold w8n at ih ⊢;rw [List.range_succ,List.map_append,Ug,ih,List.map_cons,List.map_nil,Xf,z1o,show lo+((n+1:Nat):Int) - 1=lo+(n:Int) by omega];omega
theorem u6c (f:Int→Int) (lo:Int): ∀n:Nat,sm (w8n lo n) (fun x=>x*(f (x - 1) - f x))=sm (w8n lo n) f+lo*f (lo - 1) - (lo+(n:Int))*f (lo+(n:Int) - 1)
 | 0=>by show (0:Int)=0+_ - _;rw [show lo+((0:Nat):Int)=lo by omega];omega
 | n+1=>by have ih:=u6c f lo n;unfold w8n at ih ⊢;rw [List.range_succ,List.map_append,Ug,Ug,ih,List.map_cons,List.map_nil,Xf,z1o,Xf,z1o,show lo+((n+1:Nat):Int) - 1=lo+(n:Int) by omega,show lo+((n+1:Nat):Int)=(lo+(n:Int))+1 by omega];generalize lo+(n:Int)=c;rw [Int.mul_sub,Int.add_mul c 1,Int.one_mul];omega
structure PtS (p:List Int):Prop where
 pts:Pts p
 sum: ∀(g:Int→Int) (P:List Int),P.Pairwise (· < ·)→(∀x∈P,-1000005≤x∧x<1000005)→(∀x,x ∉ P→g x=0)→sm P g=sm p g
 tel: ∀f:Int→Int,f (-1000006)=0→f 1000004=0→sm p (fun x=>f (x - 1) - f x)=0
 abel: ∀f:Int→Int,f (-1000006)=0→f 1000004=0→sm p (fun x=>x*(f (x - 1) - f x))=sm p f
theorem u3z : ∃p,PtS p:=by
 have key: ∀N:Nat,(N:Int)=2000010→PtS (w8n (-1000005) N):=fun N hN=>by
  have e1:(-1000005:Int) - 1= -1000006:=by decide
  have e2:(-1000005:Int)+(N:Int) - 1=1000004:=by omega
  refine ⟨⟨fun a b h=> ?_,?_⟩,fun g P hP hb hz=> ?_,fun f h1 h2=> ?_,fun f h1 h2=> ?_⟩
  ·rw [v3g];unfold ovl;omega
  ·simp only [w8n,List.length_map,List.length_range];omega
  ·rw [←u1y g (-1000005) P hP (fun x hx=>(hb x hx).1) hz N];exact Zs fun x hx=>(if_pos (by have:=hb x hx;omega)).symm
  ·rw [tel_n,e1,e2,h1,h2];rfl
  ·rw [u6c,e1,e2,h1,h2];omega
 exact ⟨_,key 2000010 rfl⟩
def A4 (l:List R4):Int:=sm l fun t=>(t.c - t.a)*(t.d - t.b)
theorem sm_in (u w:Int): ∀l:List R4,sm l (fun t=>ind t.a t.c u*ind t.b t.d w)=((l.filter (inR4 u w)).length :Int)
 | []=>rfl
 | t::l=>by
  rw [Xf,sm_in u w l,List.filter_cons];unfold ind inR4;by_cases h1:t.a≤u∧u<t.c <;> by_cases h2:t.b≤w∧w<t.d
  ·rw [if_pos h1,if_pos h2,if_pos (by simp [h1,h2]),List.length_cons];omega
  ·rw [if_pos h1,if_neg h2,if_neg (by simpa [h1] using h2)];omega
  ·rw [if_neg h1,Int.zero_mul,if_neg (by simp only [Bool.and_eq_true,decide_eq_true_eq];exact fun k=>h1 k.1)];omega
  ·rw [if_neg h1,Int.zero_mul,if_neg (by simp only [Bool.and_eq_true,decide_eq_true_eq];exact fun k=>h1 k.1)];omega
theorem A4_pts {p:List Int} (hp:Pts p) {l:List R4} (hc:Wy.can l) (hv: ∀r∈l,Vw r=true):A4 l=sm p fun u=>sm p fun w=>((z0o (ptL Wy.inB l (u,w)):Nat):Int):=by
 have one: ∀t∈l,(t.c - t.a)*(t.d - t.b)=sm p fun u=>sm p fun w=>ind t.a t.c u*ind t.b t.d w:=fun t ht=>by have v:=hv t ht;simp only [Vw,Bool.and_eq_true,decide_eq_true_eq] at v;rw [Zs (fun u _=>z2o p (ind t.b t.d) (ind t.a t.c u)),w1s,hp.1 _ _ (by omega),hp.1 _ _ (by omega)];rw [show max 0 (t.c - t.a)=t.c - t.a by omega,show max 0 (t.d - t.b)=t.d - t.b by omega]
 unfold A4;rw [Zs one,z0e l p];refine Zs fun u _=> ?_;rw [z0e l p];exact Zs fun w _=>by rw [sm_in,v5d hc]
def upI (q:Ax) (L:List R6) (u w x:Int):Int:=(z0o (q.inL L (x - 1) u w∧ ¬q.inL L x u w):Int)
def dnI (q:Ax) (L:List R6) (u w x:Int):Int:=(z0o (q.inL L x u w∧ ¬q.inL L (x - 1) u w):Int)
def faI (s:Bool) (q:Ax) (L:List R6) (u w x:Int):Int:=match s with
 | true=>upI q L u w x
 | false=>dnI q L u w x
theorem up_dn (q:Ax) (L:List R6) (u w x:Int):upI q L u w x - dnI q L u w x=inI q L u w (x - 1) - inI q L u w x:=w6c _ _
theorem z6k {P Q:Prop} (h:P↔Q):z0o P=z0o Q:=by
 by_cases g:P
 ·rw [Vi g,Vi (h.1 g)]
 ·rw [Wz g,Wz fun k=>g (h.2 k)]
theorem u7w (q:Ax) (L:List R6) {x:Int} (hx:x ∉ plQ q L) (u w:Int):q.inL L (x - 1) u w↔q.inL L x u w:=by
 constructor
 ·rintro ⟨r,hr,⟨h1,h2⟩,k⟩;exact ⟨r,hr,⟨by omega,Classical.byContradiction fun hn=>hx ((z6i q L x).2 ⟨r,hr,.inr (by omega)⟩)⟩,k⟩
 ·rintro ⟨r,hr,⟨h1,h2⟩,k⟩;exact ⟨r,hr,⟨Classical.byContradiction fun hn=>hx ((z6i q L x).2 ⟨r,hr,.inl (by omega)⟩),by omega⟩,k⟩
theorem fa_off (s:Bool) (q:Ax) (L:List R6) {x:Int} (hx:x ∉ plQ q L) (u w:Int):faI s q L u w x=0:=by
 have h:=u7w q L hx u w;cases s with
 | true=>show ((z0o _:Nat):Int)=0;rw [Wz fun k=>k.2 (h.1 k.1)];rfl
 | false=>show ((z0o _:Nat):Int)=0;rw [Wz fun k=>k.2 (h.2 k.1)];rfl
def z0k (g:Int→Int) (q:Ax) (s:Bool) (L:List R6):Int:=sm (plQ q L) fun x=>g x*A4 (Vx q L x s)
section
variable {L:List R6} (hv: ∀r∈L,Ko r=true) (hz:w3b L=0)
include hv hz
theorem v8y (q:Ax) (s:Bool) {x:Int} (hx:x∈plQ q L):Ur q L x s=0:=by have _u:=hv;exact w3x (u0v hz q s) x hx
theorem x9o (q:Ax) {x u w:Int} (h:q.inL L x u w):(-1000000≤x∧x<1000000)∧(-1000000≤u∧u<1000000)∧(-1000000≤w∧w<1000000):=by have _u:=hz;obtain ⟨r,hr,⟨h1,h2⟩,h3,h4⟩:=h;obtain ⟨v,_,h5,h6⟩:=q.val (hv r hr);simp only [Vw,Bool.and_eq_true,decide_eq_true_eq] at v;omega
theorem mfc_A4 {p:List Int} (hp:Pts p) (q:Ax) (s:Bool) {x:Int} (hx:x∈plQ q L):A4 (Vx q L x s)=sm p fun u=>sm p fun w=>faI s q L u w x:=by
 obtain ⟨c,pts⟩:=u9v hv q s x (u4b hv q hx) (v8y hv hz q s hx);rw [A4_pts hp c (z1f c fun u w k=> ?_)]
 ·refine Zs fun u _=>Zs fun w _=> ?_;cases s with
  | true=>show _=((z0o _:Nat):Int);rw [z6k (pts u w)]
  | false=>show _=((z0o _:Nat):Int);rw [z6k (pts u w)]
 ·have k:=(pts u w).1 k;cases s with
  | true=>exact (x9o hv hz q k.1).2
  | false=>exact (x9o hv hz q k.1).2
theorem z8v {p:List Int} (hp:PtS p) (g:Int→Int) (q:Ax) (s:Bool):z0k g q s L=sm p fun u=>sm p fun w=>sm p fun x=>g x*faI s q L u w x:=by
 have e:z0k g q s L=sm (plQ q L) fun x=>g x*sm p fun u=>sm p fun w=>faI s q L u w x:=Zs fun x hx=>by rw [mfc_A4 hv hz hp.pts q s hx]
 rw [e,hp.sum _ _ (z9o q L) (fun x hx=>by have:=u4b hv q hx;omega) fun x hx=>by
  rw [Zs (g:=fun _=>0) fun u _=>by rw [Zs (g:=fun _=>0) fun w _=>fa_off s q L hx u w,z0d],z0d,Int.mul_zero]]
 have e2:(sm p fun x=>g x*sm p fun u=>sm p fun w=>faI s q L u w x)=sm p fun x=>sm p fun u=>sm p fun w=>g x*faI s q L u w x:=Zs fun x _=>by rw [←z2o];exact Zs fun u _=>by rw [←z2o]
 rw [e2,z0e p p];exact Zs fun u _=>by rw [z0e p p]
theorem x1v (q:Ax) (u w:Int) {x:Int} (hx:x< -1000000∨1000000≤x):inI q L u w x=0:=by unfold inI;rw [Wz];rfl;intro k;have:=(x9o hv hz q k).1;omega
theorem v5h {p:List Int} (hp:PtS p) (q:Ax):z0k (fun _=>1) q true L=z0k (fun _=>1) q false L:=by
 have h:z0k (fun _=>1) q true L - z0k (fun _=>1) q false L=0:=by rw [z8v hv hz hp,z8v hv hz hp,←z3y,Zs (g:=fun _=>0),z0d];intro u _;rw [←z3y,Zs (g:=fun _=>0),z0d];intro w _;rw [←z3y,←hp.tel (inI q L u w) (x1v hv hz q u w (.inl (by decide))) (x1v hv hz q u w (.inr (by decide)))];refine Zs fun x _=> ?_;rw [Int.one_mul,Int.one_mul];exact up_dn q L u w x
 omega
theorem vol_in {p:List Int} (hp:PtS p) (q:Ax):z0k id q true L - z0k id q false L=sm p fun u=>sm p fun w=>sm p fun x=>inI q L u w x:=by rw [z8v hv hz hp,z8v hv hz hp,←z3y];refine Zs fun u _=> ?_;rw [←z3y];refine Zs fun w _=> ?_;show _=sm p (inI q L u w);rw [←z3y,←hp.abel (inI q L u w) (x1v hv hz q u w (.inl (by decide))) (x1v hv hz q u w (.inr (by decide)))];refine Zs fun x _=> ?_;rw [←Int.mul_sub,←up_dn q L u w x];rfl
theorem j2y {p:List Int} (hp:PtS p) (q:Ax):z0k (fun _=>1) q false L=(sm p fun u=>sm p fun w=>sm p fun x=>inI q L u w x) - sm p fun u=>sm p fun w=>sm p fun x=>inI q L u w (x - 1)*inI q L u w x:=by
 rw [z8v hv hz hp,←z3y];refine Zs fun u _=> ?_;rw [←z3y];refine Zs fun w _=> ?_;rw [←z3y];refine Zs fun x _=> ?_;rw [Int.one_mul];show ((z0o (q.inL L x u w∧ ¬q.inL L (x - 1) u w):Nat):Int)=(z0o (q.inL L x u w):Int) - (z0o (q.inL L (x - 1) u w):Int)*(z0o (q.inL L x u w):Int);by_cases a:q.inL L x u w <;> by_cases b:q.inL L (x - 1) u w
 ·rw [Vi a,Vi b,Wz fun k=>k.2 b];rfl
 ·rw [Vi a,Wz b,Vi ⟨a,b⟩];rfl
 ·rw [Wz a,Vi b,Wz fun k=>a k.1];rfl
 ·rw [Wz a,Wz b,Wz fun k=>a k.1];rfl
end
theorem u6p (p:List Int) (q:Ax) (G:Int×Int×Int→Int):(sm p fun u=>sm p fun w=>sm p fun t=>G (q.to t u w))=S3 p fun x y z=>G (x,y,z):=by
 cases q
 ·show (sm p fun u=>sm p fun w=>sm p fun t=>G (t,u,w))=sm p fun x=>sm p fun y=>sm p fun z=>G (x,y,z);rw [z0e p p fun x y=>sm p fun z=>G (x,y,z)];exact Zs fun u _=>z0e p p _
 ·exact Zs fun u _=>z0e p p _
 ·rfl
theorem x1w {L:List R6} (ha:L.Pairwise Ap6) (q:Ax) (u w x:Int):inI q L u w x=cnt L (q.to x u w).1 (q.to x u w).2.1 (q.to x u w).2.2:=by
 obtain ⟨c1,c2⟩:=cnt_eq L ha (q.to x u w).1 (q.to x u w).2.1 (q.to x u w).2.2;unfold inI;rw [z6k (q.inL_S L x u w)];by_cases g:inS L (q.to x u w).1 (q.to x u w).2.1 (q.to x u w).2.2
 ·rw [Vi g,c1 g];rfl
 ·rw [Wz g,c2 g];rfl
theorem cnt_to (q:Ax) (X:List R6) (t u w:Int):cnt (X.map (nx (2*q.ix))) (q.to t u w).1 (q.to t u w).2.1 (q.to t u w).2.2=cnt X (q.to (t - 1) u w).1 (q.to (t - 1) u w).2.1 (q.to (t - 1) u w).2.2:=by
 unfold cnt;rw [w9o];refine Zs fun r _=> ?_;cases q
 ·show ind (r.a+1) (r.d+1) t*_*_=_;rw [v3h];rfl
 ·show _*ind (r.b+1) (r.e+1) t*_=_;rw [v3h];rfl
 ·show _*_*ind (r.c+1) (r.f+1) t=_;rw [v3h];rfl
section
variable {L:List R6} (h:Yr L=0) (hz:w3b L=0)
include h hz
theorem v6c (q:Ax):z0k id q true L - z0k id q false L=sm L bxV:=by obtain ⟨p,hp⟩:=u3z;have hs:=Sol.of h;rw [vol_in hs.val hz hp q,u1m hp.pts hs,←u6p p q fun v=>cnt L v.1 v.2.1 v.2.2];exact Zs fun u _=>Zs fun w _=>Zs fun x _=>x1w hs.ap q u w x
theorem z0g (q:Ax):z0k (fun _=>1) q true L=sm L bxV - E2 (2*q.ix) L L∧z0k (fun _=>1) q false L=sm L bxV - E2 (2*q.ix) L L:=by
 obtain ⟨p,hp⟩:=u3z;have hs:=Sol.of h;rw [v5h hs.val hz hp q,j2y hs.val hz hp q,u1m hp.pts hs,E2_S3 hp.pts (2*q.ix) (by cases q <;> decide) L hs.val,←u6p p q fun v=>cnt L v.1 v.2.1 v.2.2,←u6p p q fun v=>cnt (L.map (nx (2*q.ix))) v.1 v.2.1 v.2.2*cnt L v.1 v.2.1 v.2.2];have e1:(sm p fun u=>sm p fun w=>sm p fun x=>inI q L u w x)=sm p fun u=>sm p fun w=>sm p fun t=>cnt L (q.to t u w).1 (q.to t u w).2.1 (q.to t u w).2.2:=Zs fun u _=>Zs fun w _=>Zs fun x _=>x1w hs.ap q u w x;have e2:(sm p fun u=>sm p fun w=>sm p fun x=>inI q L u w (x - 1)*inI q L u w x)=sm p fun u=>sm p fun w=>sm p fun t=>cnt (L.map (nx (2*q.ix))) (q.to t u w).1 (q.to t u w).2.1 (q.to t u w).2.2*cnt L (q.to t u w).1 (q.to t u w).2.1 (q.to t u w).2.2:=Zs fun u _=>Zs fun w _=>Zs fun x _=>by rw [x1w hs.ap,x1w hs.ap,cnt_to]
 rw [e1,e2];exact ⟨rfl,rfl⟩
end
theorem w5g {L:List R6} (h:Yr L=0) (hz:w3b L=0):z0k (fun _=>1) .x true L+z0k (fun _=>1) .x false L+(z0k (fun _=>1) .y true L+z0k (fun _=>1) .y false L)+(z0k (fun _=>1) .z true L+z0k (fun _=>1) .z false L)=sfS L L.length:=by have hs:=Sol.of h;rw [x0i hs,(z0g h hz .x).1,(z0g h hz .x).2,(z0g h hz .y).1,(z0g h hz .y).2,(z0g h hz .z).1,(z0g h hz .z).2];have e0:E2 1 L L=E2 0 L L:=w1l 1 (by omega) L L;have e1:E2 3 L L=E2 2 L L:=w1l 3 (by omega) L L;have e2:E2 5 L L=E2 4 L L:=w1l 5 (by omega) L L;show sm L bxV - E2 0 L L+(sm L bxV - E2 0 L L)+(sm L bxV - E2 2 L L+(sm L bxV - E2 2 L L))+(sm L bxV - E2 4 L L+(sm L bxV - E2 4 L L))=_;unfold v6r;rw [e0,e1,e2];omega
end Go.Am
namespace Go.Am
open Go.Proofs Go.Sort Go.Shelf Go.RowKit Go.Lib
theorem x6s {α:Type} {f g:α→Int}: ∀{l:List α},(∀x∈l,Cg (f x) (g x))→Cg (sm l f) (sm l g)
 | [],_=>Cg.refl 0
 | x::l,h=>by rw [Xf,Xf];exact (h x (by simp)).add (x6s fun y hy=>h y (by simp [hy]))
theorem j3b (q:Ax) (s:Bool) (p:Int) (t:R4):Cg (a7 (qd q s p t)) ((t.c - t.a)*(t.d - t.b)):=by have k:Cg (IntKind.wrap .i64 (IntKind.wrap .i64 (t.c - t.a)*IntKind.wrap .i64 (t.d - t.b))) ((t.c - t.a)*(t.d - t.b)):=Cg.w ((Cg.wrap _).mul (Cg.wrap _));cases q <;> cases s <;> exact k
theorem u5x (q:Ax) (s:Bool) (p:Int) (t:R4):cd7 q.ix (qd q s p t)=p:=by cases q <;> cases s <;> rfl
theorem u7b (f:R7→Int) (q:Ax) (s:Bool) (L:List R6):sm (dM q s L) f=sm (plQ q L) fun p=>sm (Vx q L p s) fun t=>f (qd q s p t):=by show sm ((plQ q L).flatMap fun p=>(Vx q L p s).map (qd q s p)) f=_;rw [w5b];exact Zs fun p _=>w9o _ _ _
theorem x5x (q:Ax) (s:Bool) (L:List R6):Cg (sm (dM q s L) a7) (z0k (fun _=>1) q s L):=by rw [u7b];refine x6s fun p _=> ?_;rw [Int.one_mul];exact x6s fun t _=>j3b q s p t
theorem v7_up (q:Ax) (L:List R6):Cg (sm (dM q true L) (w4j q.ix)) (z0k id q true L):=by
 rw [u7b];refine x6s fun p _=> ?_;have e: ∀t,w4j q.ix (qd q true p t)=p*a7 (qd q true p t):=fun t=>by unfold w4j;rw [u5x,show ((qd q true p t).a == 2*q.ix)=true by rw [qd_a];cases q <;> rfl,cond_true,Int.mul_comm]
 rw [Zs fun t _=>e t,z2o];exact (Cg.refl p).mul (x6s fun t _=>j3b q true p t)
theorem v7_dn (q:Ax) (L:List R6):Cg (sm (dM q false L) (w4j q.ix)) (-z0k id q false L):=by
 have hn: ∀(l:List Int) (f:Int→Int),-sm l f=sm l fun x=> -f x:=fun l f=>by
  induction l with
  | nil=>rfl
  | cons x l ih=>rw [Xf,Xf,←ih];omega
 unfold z0k;rw [u7b,hn];refine x6s fun p _=> ?_;have e: ∀t,w4j q.ix (qd q false p t)= -p*a7 (qd q false p t):=fun t=>by unfold w4j;rw [u5x,show ((qd q false p t).a == 2*q.ix)=false by rw [qd_a];cases q <;> rfl,show ((qd q false p t).a == 2*q.ix+1)=true by rw [qd_a];cases q <;> rfl,cond_false,cond_true,Int.mul_comm,Int.neg_mul]
 rw [Zs fun t _=>e t,z2o,show -(id p*A4 (Vx q L p false))= -p*A4 (Vx q L p false) from (Int.neg_mul ..).symm];exact (Cg.refl (-p)).mul (x6s fun t _=>j3b q false p t)
theorem y1n {q q':Ax} (h:q'≠q) (s:Bool) (L:List R6):sm (dM q' s L) (w4j q.ix)=0:=by
 rw [Zs (g:=fun _=>0),z0d];intro r hr;have e:=dM_a hr;unfold w4j;have h1:r.a≠2*q.ix∧r.a≠2*q.ix+1:=by
  rw [e];cases q <;> cases q' <;> cases s <;> first | exact absurd rfl h | exact ⟨by decide,by decide⟩
 rw [show (r.a == 2*q.ix)=false from x5i h1.1,show (r.a == 2*q.ix+1)=false from x5i h1.2];rfl
section
variable {L:List R6} (h:Yr L=0) (hz:w3b L=0)
include h hz
theorem v2q :Cg (sm (Jr L) a7) (sfS L L.length):=by
 rw [←w5g h hz];unfold Jr;simp only [Ug];have e: ∀a b c d e f:Int,a+b+(c+d)+(e+f)=a+b+c+d+e+f:=fun a b c d e f=>by omega
 rw [e];exact (((((x5x .x true L).add (x5x .x false L)).add (x5x .y true L)).add (x5x .y false L)).add (x5x .z true L)).add (x5x .z false L)
theorem v9a (q:Ax):Cg (sm (Jr L) (w4j q.ix)) (sm L bxV):=by
 rw [←v6c h hz q];have two:=(v7_up q L).add (v7_dn q L);rw [←Int.sub_eq_add_neg] at two;unfold Jr;simp only [Ug];cases q
 ·rw [y1n (q:=.x) (q':=.y) (by simp),y1n (q:=.x) (q':=.y) (by simp),y1n (q:=.x) (q':=.z) (by simp),y1n (q:=.x) (q':=.z) (by simp)]
  simpa only [Int.add_zero] using two
 ·rw [y1n (q:=.y) (q':=.x) (by simp),y1n (q:=.y) (q':=.x) (by simp),y1n (q:=.y) (q':=.z) (by simp),y1n (q:=.y) (q':=.z) (by simp)]
  simpa only [Int.add_zero,Int.zero_add] using two
 ·rw [y1n (q:=.z) (q':=.x) (by simp),y1n (q:=.z) (q':=.x) (by simp),y1n (q:=.z) (q':=.y) (by simp),y1n (q:=.z) (q':=.y) (by simp)]
  simpa only [Int.add_zero,Int.zero_add] using two
theorem v2p (q:Ax):Cg (sm (dM q true L) a7) (sm (dM q false L) a7):=by obtain ⟨s1,s2⟩:=z0g h hz q;refine (x5x q true L).trans ?_;rw [s1,←s2];exact (x5x q false L).symm
end
theorem x1k (q:Ax) (s:Bool) (L:List R6):(Jr L).filter (fun r=>r.a == 2*q.ix+sdI s)=dM q s L:=by
 have all:(dM q s L).filter (fun r=>r.a == 2*q.ix+sdI s)=dM q s L:=List.filter_eq_self.2 fun r hr=>by rw [dM_a hr];exact beq_self_eq_true _
 have no: ∀(q':Ax) (s':Bool),2*q'.ix+sdI s'≠2*q.ix+sdI s→(dM q' s' L).filter (fun r=>r.a == 2*q.ix+sdI s)=[]:=fun q' s' hne=>List.filter_eq_nil_iff.2 fun r hr k=>hne (by rw [←dM_a hr];exact eq_of_beq k);rw [←all];unfold Jr;simp only [List.filter_append];cases q <;> cases s
 ·rw [no .x true (by decide),no .y true (by decide),no .y false (by decide),no .z true (by decide),no .z false (by decide)];simp only [List.append_nil,List.nil_append]
 ·rw [no .x false (by decide),no .y true (by decide),no .y false (by decide),no .z true (by decide),no .z false (by decide)];simp only [List.append_nil,List.nil_append]
 ·rw [no .x true (by decide),no .x false (by decide),no .y true (by decide),no .z true (by decide),no .z false (by decide)];simp only [List.append_nil,List.nil_append]
 ·rw [no .x true (by decide),no .x false (by decide),no .y false (by decide),no .z true (by decide),no .z false (by decide)];simp only [List.append_nil,List.nil_append]
 ·rw [no .x true (by decide),no .x false (by decide),no .y true (by decide),no .y false (by decide),no .z true (by decide)];simp only [List.append_nil,List.nil_append]
 ·rw [no .x true (by decide),no .x false (by decide),no .y true (by decide),no .y false (by decide),no .z false (by decide)];simp only [List.append_nil,List.nil_append]
section
variable {L:List R6} (h:Yr L=0) (hl:L.length≤20)
include h hl
theorem w3e (x:Int) (hx:0≤x∧x≤2) (v13 v14:Int): ∀(k i:Nat) (up dn:List R7),i+k=(Zg L).length →up.length≤i→dn.length≤i→
  ∃n,∀N,Yv (Kc L) (N+n) (.to (.h1 x v13 v14 up dn (i:Int)))=Yv (Kc L) (N+1) (.to (.h1 x v13 v14 (up++((Zg L).drop i).filter fun r=>r.a == 2*x) (dn++((Zg L).drop i).filter fun r=>r.a == 2*x+1) ((Zg L).length :Int)))
 | 0,i,up,dn,hk,hu,hd=>by
  refine ⟨1,fun N=> ?_⟩;have:i=(Zg L).length :=by omega
  subst this;rw [List.drop_eq_nil_of_le (Nat.le_refl _)];simp only [List.filter_nil,List.append_nil]
 | k+1,i,up,dn,hk,hu,hd=>by
  obtain ⟨_,hv,_,hL⟩:=Wu h;have hn:=(z1w hv hl hL).2;have em:=(x1d h hl).2;have dD:(Zg L).length ≤2400:=by rw [em];exact hn
  have hil:i<(Zg L).length :=by omega
  have hm:rd (Zg L) i∈Jr L:=by rw [←em,Xy hil];exact List.getElem_mem hil
  obtain ⟨c0,co⟩:=z1x h hl;have h5:(rd (Zg L) i).a ≤5:=w1m ((z7z c0).2 _ hm);have h0:=v1k co hm;have wa:IntKind.wrap .i64 (rd (Zg L) i).a =(rd (Zg L) i).a :=Zq (by omega);have w2:IntKind.wrap .i64 (2*x)=2*x:=Zq (by omega);have w21:IntKind.wrap .i64 (2*x+1)=2*x+1:=Zq (by omega);have w3:IntKind.wrap .i64 ((i:Int)+1)=((i+1:Nat):Int):=by rw [Zq (by omega)];rfl
  have e7:(R7.mk (rd (Zg L) i).a (rd (Zg L) i).b (rd (Zg L) i).c (rd (Zg L) i).d (rd (Zg L) i).e (rd (Zg L) i).f (rd (Zg L) i).g)=rd (Zg L) i:=rfl;have g1:decide ((i:Int)<(((Zg L).length :Nat):Int))=true:=decide_eq_true (by omega);have g2:decide (0≤(i:Int)∧(i:Int)<(((Zg L).length :Nat):Int))=true:=decide_eq_true (by omega);have r1:decide ((up.length+1+1)*(56+1)≤Ju)=true:=Zh (by omega);have r2:decide ((dn.length+1+1)*(56+1)≤Ju)=true:=Zh (by omega);have l1:decide (0+up.length=up.length)=true:=decide_eq_true (by omega);have l2:decide (0+dn.length=dn.length)=true:=decide_eq_true (by omega);have b7:Nat.beq 7 7=true:=rfl;rw [Ym hil];rcases Ye ((rd (Zg L) i).a == 2*x) with q1 | q1
  ·have q2:((rd (Zg L) i).a == 2*x+1)=false:=x5i (by have:=eq_of_beq q1;omega);obtain ⟨n,hN⟩:=w3e x hx v13 v14 k (i+1) (up++[rd (Zg L) i]) dn (by omega) (by rw [List.length_append];simp only [List.length_cons,List.length_nil];omega) (by omega);refine ⟨n+1,fun N=> ?_⟩;have hN:=hN N;rw [←Nat.add_assoc,Zv];simp only [Kc,Za,g1,g2,wa,w2,w21,w3,Zj,q1,q2,r1,r2,l1,l2,b7,e7,Bool.and_true,Bool.true_and,cond_true,cond_false];rw [hN];simp only [List.filter_cons,q1,q2,if_true,List.append_assoc,List.cons_append,List.nil_append];rfl
  ·rcases Ye ((rd (Zg L) i).a == 2*x+1) with q2 | q2
   ·obtain ⟨n,hN⟩:=w3e x hx v13 v14 k (i+1) up (dn++[rd (Zg L) i]) (by omega) (by omega) (by rw [List.length_append];simp only [List.length_cons,List.length_nil];omega);refine ⟨n+1,fun N=> ?_⟩;have hN:=hN N;rw [←Nat.add_assoc,Zv];simp only [Kc,Za,g1,g2,wa,w2,w21,w3,Zj,q1,q2,r1,r2,l1,l2,b7,e7,Bool.and_true,Bool.true_and,cond_true,cond_false];rw [hN];simp only [List.filter_cons,q1,q2,if_true,List.append_assoc,List.cons_append,List.nil_append];rfl
   ·obtain ⟨n,hN⟩:=w3e x hx v13 v14 k (i+1) up dn (by omega) (by omega) (by omega);refine ⟨n+1,fun N=> ?_⟩;have hN:=hN N;rw [←Nat.add_assoc,Zv];simp only [Kc,Za,g1,g2,wa,w2,w21,w3,Zj,q1,q2,r1,r2,l1,l2,b7,e7,Bool.and_true,Bool.true_and,cond_true,cond_false];rw [hN];simp only [List.filter_cons,q1,q2];rfl
theorem v2t {M N:List R7} (c:z6o M=0) (o:Wf M=true) (hs: ∀r∈N,r∈M) (hn:N.length≤M.length):z6o N=0∧Wf N=true:=by have _u:=h;have _v:=hl;obtain ⟨c1,c2⟩:=z7z c;refine ⟨?_,List.all_eq_true.2 fun r hr=>List.all_eq_true.1 o r (hs r hr)⟩;unfold z6o;rw [decide_eq_false (by omega),List.all_eq_true.2 fun r hr=>c2 r (hs r hr)];rfl
theorem u5u (q:Ax) (s:Bool):(∀r∈dM q s L,r∈Jr L)∧(dM q s L).length ≤(Jr L).length :=by have _u:=h;have _v:=hl;rw [←x1k q s L];exact ⟨fun r hr=>(List.mem_filter.1 hr).1,List.length_filter_le _ _⟩
theorem y4t (q:Ax): ∃n,∀N,Yv (Kc L) (N+n) (.to (.h0 q.ix))=Yv (Kc L) N (.to (.h0 (q.ix+1))):=by
 obtain ⟨_,hv,_,hL⟩:=Wu h;obtain ⟨hz,hn⟩:=z1w hv hl hL;have em:=(x1d h hl).2;obtain ⟨c0,co⟩:=z1x h hl;have hq:0≤q.ix∧q.ix≤2:=by cases q <;> decide
 have g0:decide (q.ix<3)=true:=decide_eq_true (by omega);have o0:z8a (Jr L) q.ix=true:=co;have v1:y9f (Jr L) q.ix=0:=by unfold y9f;rw [c0,decide_eq_false (by omega),decide_eq_false (by omega)];rfl
 have sv1:z1m L=IntKind.wrap .i64 (sm L bxV):=by unfold z1m;rw [h];rfl
 have v0:y9g (Jr L) q.ix=z1m L:=by unfold y9g;rw [sv1,c0,decide_eq_false (by omega),decide_eq_false (by omega)];exact (v9a h hz q).eq
 obtain ⟨n,hN⟩:=w3e h hl q.ix hq (z1m L) 0 (Zg L).length 0 [] [] (Nat.zero_add _) (Nat.zero_le _) (Nat.zero_le _);refine ⟨n+1,fun N=> ?_⟩;have hN:=hN N;rw [←Nat.add_assoc,Zv];have s0:Kc L (.h0 q.ix)=.to (.h1 q.ix (z1m L) 0 [] [] 0):=by simp only [Kc,Za,em,g0,o0,v1,v0,cond_true]
 rw [s0];rw [z4u] at hN;rw [hN,Zv,List.drop_zero,List.nil_append,List.nil_append,em];have e1:((Jr L).filter fun r=>r.a == 2*q.ix)=dM q true L:=by rw [←x1k q true L];unfold sdI;rw [Int.add_zero]
 have e2:((Jr L).filter fun r=>r.a == 2*q.ix+1)=dM q false L:=x1k q false L;rw [e1,e2];obtain ⟨a1,a2⟩:=u5u h hl q true;obtain ⟨b1,b2⟩:=u5u h hl q false;obtain ⟨k1,k2⟩:=v2t h hl c0 co a1 a2;obtain ⟨m1,m2⟩:=v2t h hl c0 co b1 b2;have z:decide ((((Jr L).length :Nat):Int)<(((Jr L).length :Nat):Int))=false:=decide_eq_false (by omega);have l1:decide (0+(dM q true L).length ≤(dM q true L).length)=true:=decide_eq_true (by omega);have l2:decide (0+(dM q false L).length ≤(dM q false L).length)=true:=decide_eq_true (by omega);have l3:decide ((dM q true L).length ≤(dM q true L).length)=true:=decide_eq_true (Nat.le_refl _);have l4:decide ((dM q false L).length ≤(dM q false L).length)=true:=decide_eq_true (Nat.le_refl _);have x1:z8b (dM q true L)=0:=k1;have x2:z8b (dM q false L)=0:=m1;have y:z1z (dM q true L)=z1z (dM q false L):=by unfold z1z;rw [k1,m1];exact (v2p h hz q).eq
 have p1:Qx (dM q true L)=true:=k2;have p2:Qx (dM q false L)=true:=m2;have n0:((0:Int) != 0)=false:=rfl;have n1:(z1m L != z1m L)=false:=by simp
 have n2:(z1z (dM q false L) != z1z (dM q false L))=false:=by simp
 have b7:Nat.beq 7 7=true:=rfl;have w:IntKind.wrap .i64 (q.ix+1)=q.ix+1:=Zq (by omega);simp only [Kc,Za,em,z,l1,l2,l3,l4,b7,Xu,Nat.zero_add,Zk,p1,p2,x1,x2,y,n0,n1,n2,w,Bool.and_true,Bool.true_and,cond_true,cond_false]
end
theorem mcl_run (L:List R6): ∃N,Yv (Kc L) N (y2w L)=.ret [.bool true]:=by
 unfold y2w;rcases Ye (j0r L) with q | q
 ·obtain ⟨hl,h⟩:=j0p q;obtain ⟨_,hv,_,hL⟩:=Wu h;obtain ⟨hz,hn⟩:=z1w hv hl hL;obtain ⟨o1,o0⟩:=x1d h hl;obtain ⟨c0,co⟩:=z1x h hl;have p1:Qx (Jr L)=true:=co;have x1:z8b (Jr L)=0:=c0;have x0:z1z (Jr L)=y0w L:=by unfold z1z y0w;rw [c0,h];exact (v2q h hz).eq
  have y1:x3h L=0:=h;have y2:x3c L=0:=h;have n0:((0:Int) != 0)=false:=rfl;have n1:(y0w L != y0w L)=false:=by simp
  have g:decide ((((Jr L).length :Nat):Int)>3000)=false:=decide_eq_false (by omega);obtain ⟨n1',r1⟩:=y4t h hl .x;obtain ⟨n2',r2⟩:=y4t h hl .y;obtain ⟨n3',r3⟩:=y4t h hl .z;refine ⟨1+n3'+n2'+n1',?_⟩;simp only [Za,show z4q L=true from rfl,show z4l L=true from rfl,show z7c L=true from rfl,show z7b L=true from rfl,q,o1,o0,p1,x1,x0,y1,y2,n0,n1,g,Bool.not_true,cond_true,cond_false];have r1:=r1 (1+n3'+n2');have r2:=r2 (1+n3');have r3:=r3 1;refine r1.trans (r2.trans (r3.trans ?_));rw [Zv];rfl
 ·refine ⟨0,?_⟩;simp only [Za,show z4q L=true from rfl,q,Bool.not_false,cond_true];rfl
end Go.Am
end
