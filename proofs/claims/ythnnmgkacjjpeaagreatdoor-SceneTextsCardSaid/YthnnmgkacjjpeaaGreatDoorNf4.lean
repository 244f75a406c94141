/- A part of a proof: several texts in one. -/
import Derived.Test.YthnnmgkacjjpeaaGreatDoorNf3
import Derived.Lib.ItoaLen
import Derived.Lib.AtoiAll
import Derived.Lib.SplitLaws
set_option maxRecDepth 1000000
set_option maxHeartbeats 8000000
set_option linter.unusedVariables false
set_option linter.unusedSimpArgs false
noncomputable section
namespace Go.Am
open IntKind (wrap)
open Go.Proofs
def D9 (s:R2):Bool:=decide (s.a<s.b)&&(decide (s.a>= -1000000)&&decide (s.b<=1000000))
def Cu (l:zp):List R3:=l.flatMap fun s=>[⟨s.a,0,1⟩,⟨s.b,0,-1⟩]
def EV (out:zp) (last:Int) (inn:Bool) (at':Int):zp:=
 bif !inn then out else bif last == at' then out else
 bif decide (0<out.length)&&((rd out (out.length - 1)).b == last) then out.set (out.length - 1) ⟨(rd out (out.length - 1)).a,at'⟩ else out++[⟨last,at'⟩]
def Gv :List R3->Int->Int->Bool->zp->zp
 | [],_,_,_,out=>out
 | e::r,o,last,inn,out=>Gv r (o+e.c) e.a (decide (o+e.c>0)) (EV out last inn e.a)
def Fi (l:zp):zp:=Gv (DB (Cu l)) 0 0 false []
def Vq (l:zp):zp:=bif decide (400<l.length) then [] else bif l.all D9 then Fi l else []
def u4x (l:zp):Int:=bif decide (400<l.length) then 4 else bif l.all D9 then 0 else 8
def Z6 (l:zp):Bool:=true
def SQ (l:zp):zx:=bif decide (400<l.length) then [.nils,.int .i64 4] else bif l.all D9 then [.dat (Fi l).length (Zz (Fi l)),.int .i64 0] else [.nils,.int .i64 8]
theorem Y2 (l:zp):(Cu l).length =2*l.length:=by
 induction l with
 | nil=>rfl
 | cons r l ih=>grind [Cu]
theorem y1r (out:zp) (last:Int) (inn:Bool) (a:Int):(EV out last inn a).length <=out.length+1:=by
 grind [EV]
theorem WF (e:R3) (r:List R3) (o last:Int) (inn:Bool) (out:zp):Gv (e::r) o last inn out=Gv r (o+e.c) e.a (decide (o+e.c>0)) (EV out last inn e.a):=rfl
theorem j2n {a:Int} (k:Nat) (h:a=(k:Int)):decide (a=Int.ofNat k)=true:=by grind
section
variable (l:zp) (hl:l.length<=400)
include hl
theorem u4u (L:List R3) (hL:L.length<=800) (hE: ∀i,i<L.length->(rd L i).b =0/\((rd L i).c =1\/(rd L i).c = -1)): ∀(k i:Nat) (o last:Int) (inn:Bool) (out:zp),i+k=L.length-> -(i:Int)<=o->o<=i->out.length<=i->
  ∃n,Zt (Jh l) n (.to (.h2 L (L.length:Int) (i:Int) o 0 last inn out))=.ret [.dat (Gv (L.drop i) o last inn out).length (Zz (Gv (L.drop i) o last inn out)),.int .i64 0]
 | 0,i,o,last,inn,out,h,ho1,ho2,hout=>by
  have _uhl:=hl;refine ⟨1,?_⟩
  grind [Zx,Jh,Za,Gv]
 | k +1,i,o,last,inn,out,h,ho1,ho2,hout=>by
  obtain ⟨hb,hc⟩:=hE i (by omega);have hcl:=y1r out last inn (rd L i).a;obtain ⟨n,hn⟩:=u4u L hL hE k (i+1) (o+(rd L i).c) (rd L i).a (decide (o+(rd L i).c >0)) (EV out last inn (rd L i).a) (by omega) (by grind) (by grind) (by omega);refine ⟨n+1,?_⟩;rw [Yt (show i<L.length by omega),Zx];have hf: ∀b,Ec b (decide ((0:Int)>0))=b:=fun b=>rfl;have hw:wrap .i64 (o+(rd L i).c)=o+(rd L i).c :=Zq (by grind);rw [WF];have hf': ∀b,Ec b false=b:=fun b=>rfl;have hz:=j2n 0 hb;unfold EV at hn ⊢;cases inn with
  | false=>simp only [AC,Af] at hn ⊢;simp (disch:=omega) only [Jh,AC,hz,hw,hf,hf',Ym,Yx,Xs,Zq,Zk,Zj,Ak,Ar,Af];exact hn
  | true=>
   simp only [Ay,Ab] at hn ⊢;rcases Uz (last == (rd L i).a) with q | q
   .rw [q] at hn ⊢;simp only [Af] at hn ⊢;simp (disch:=omega) only [Jh,Ay,q,hz,hw,hf,hf',Ym,Yx,Xs,Zq,Zk,Zj,Ak,Ar,Af,Ab];exact hn
   .rw [q] at hn ⊢;simp only [Ab] at hn ⊢;by_cases h0:0<out.length
    .rw [Aa h0,As] at hn ⊢;rcases Uz ((rd out (out.length - 1)).b == last) with q2 | q2
     .rw [q2] at hn ⊢;simp only [Af] at hn ⊢;simp (disch:=omega) only [Jh,Ay,q,q2,hz,hw,hf,hf',Ym,Xv,Yx,Xs,Zq,Zk,Zj,Zo,Ak,Ar,Af,Ab];exact hn
     .rw [q2] at hn ⊢;simp only [Ab] at hn ⊢;simp (disch:=omega) only [Jh,Ay,q,q2,hz,hw,hf,hf',Ym,Xv,Yx,Xs,Wx,Yf,Ww,AA,Zq,Zk,Zj,Zo,Ak,Ar,As,Af,Ab];exact hn
    .rw [Ah h0,A3] at hn ⊢;simp only [Ab] at hn ⊢;simp (disch:=omega) only [Jh,Ay,q,hz,hw,hf,hf',Ym,Xb,Yx,Xs,Wx,Yf,Ww,AA,Zq,Zk,Zj,Ak,Ar,As,Af,Ab];exact hn
theorem v6y (h:l.all D9=true): ∀e∈Cu l,P0 e=true/\e.b=0/\(e.c=1\/e.c= -1):=by
 have _uhl:=hl;intro e he;obtain ⟨s,hs,h1⟩:=BA.1 he;have hv:=Ax.1 h s hs;simp only [D9,Ad,An] at hv;simp only [AZ,List.not_mem_nil,or_false] at h1;rcases h1 with rfl | rfl
 .exact ⟨Aa (by grind),rfl,.inl rfl⟩
 .exact ⟨Aa (by grind),rfl,.inr rfl⟩
theorem u4v (hv:l.all D9=true): ∀(k i:Nat) (acc:List R3),i+k=l.length->acc=Cu (l.take i)-> ∃n,Zt (Jh l) n (.to (.h1 acc (i:Int)))=.ret [.dat (Fi l).length (Zz (Fi l)),.int .i64 0]
 | 0,i,acc,h,ha=>by
  have e:acc=Cu l:=by grind
  subst e;have hle:=Y2 l;have fC:=v6y l hl hv;have hb:Dm (Cu l)=true:=Ax.2 fun e he=>(fC e he).1;obtain ⟨hp,_⟩:=Pt (Cu l) hb;have hpl:=hp.length_eq;obtain ⟨n,hn⟩:=u4u l hl (DB (Cu l)) (by omega) (fun i hi=>by
   grind [Wv]) (DB (Cu l)).length 0 0 0 false [] (Ak _) (by omega) (by omega) (AH _)
  refine ⟨n+1,?_⟩;rw [Zx];simp (disch:=omega) only [Jh,Yb,Zr,hb,Yo,Xs,Wx,AA,Af,Ab];rw [<-hpl];simp only [HT,AM] at hn;exact hn
 | k+1,i,acc,h,ha=>by
  have hle:=Y2 (l.take i);have hacc:acc.length<=2*i:=by grind
  obtain ⟨n,hn⟩:=u4v hv k (i+1) (acc++Cu [rd l i]) (by omega) (by
   rw [ha,Bp]
   grind [Wv,Cu])
  refine ⟨n+1,?_⟩;rw [Zx];simp (disch:=omega) only [Jh,Ym,Yx,Xe,Wx,Yf,Ww,AA,Zq,Zk,Zj,Ak,Ar,As,Af];exact hn
theorem u4w : ∀(k i:Nat),i+k=l.length->(∀s∈l.take i,D9 s=true)-> ∃n,Zt (Jh l) n (.to (.h0 (i:Int)))=.ret (bif l.all D9 then [.dat (Fi l).length (Zz (Fi l)),.int .i64 0] else [.nils,.int .i64 8])
 | 0,i,h,ht=>by
  have hv:l.all D9=true:=Ax.2 fun s hs=>ht s (by grind);obtain ⟨n,hn⟩:=u4v l hl hv l.length 0 [] (Ak _) rfl;refine ⟨n+1,?_⟩
  grind [Zx,Jh]
 | k+1,i,h,ht=>by
  have hi:i<l.length:=by omega
  rcases Uz (D9 (rd l i)) with q | q
  .obtain ⟨n,hn⟩:=u4w k (i+1) (by omega) (fun s hs=>by
    rw [Bp] at hs
    grind [Wv])
   refine ⟨n+1,?_⟩
   grind [Zx,D9,Jh,Zq]
  .have hv:l.all D9=false:=AY.2 fun e=>by
    grind [Wv]
   refine ⟨1,?_⟩;rw [Zx,hv,Ab];unfold D9 at q;rcases Uz (decide ((rd l i).a <(rd l i).b)) with q1 | q1 <;> rcases Uz (decide ((rd l i).a >= -1000000)) with q2 | q2 <;> rcases Uz (decide ((rd l i).b <=1000000)) with q3 | q3 <;>
    rw [q1,q2,q3] at q <;> first
    | (exfalso;revert q;decide)
    | simp (disch:=omega) only [Jh,q1,q2,q3,Ym,Dr,Yx,Zq,Zk,Zj,Ay,AC,Ar,Af,Ab,Za]
end
theorem u9h (l:zp): ∃n,Zt (Jh l) n (WE l)=.ret (SQ l):=by
 unfold WE SQ;by_cases h:400<l.length
 .refine ⟨0,?_⟩;rw [Aa h,Xv (show (l.length:Int)>400 by omega)];rfl
 .obtain ⟨n,hn⟩:=u4w l (by omega) l.length 0 (Ak _) (fun s hs=>by simp at hs)
  grind
open Go.Proofs.Tryz
def Oj :zx->Option (B5×Bool)
 | [a1]=>match C5 R2 a1 with
  | some (L1,g1,n1)=>some (.tup [.dat (Vq L1).length (Zz (Vq L1)),.int .i64 (u4x L1)],CV R2 n1 g1&&Z6 L1)
  | _=>none
 | _=>none
theorem j4b {S:B7} (hS:Zv prog S):Zv prog (S.with x6s Oj):=by
 refine OZ hS (by kernel_rfl) fun args v h=> ?_;unfold Oj at h;split at h
 .rename_i a1;split at h
  .rename_i L1 g1 n1 e1;simp only [Ae,Ac,Ad] at h;obtain ⟨rfl,ho1,hw⟩:=h;obtain ⟨N,hN⟩:=u9h L1;refine ⟨_,SQ L1,(.cons (Xd e1 ho1) .nil),?_,v8r L1 N _ hN,3,?_⟩
   .unfold Vq u4x SQ;cases decide (400<L1.length) <;> simp only [Af,Ab]
    .cases L1.all D9 <;> simp only [Af,Ab]
     .exact fun ρ u hu=>G6 (.cons (Gb R2) (Cd.refl _)) ρ u hu
     .exact fun ρ u hu=>hu
    .exact fun ρ u hu=>G6 (.cons (Gb R2) (Cd.refl _)) ρ u hu
   .unfold SQ;cases decide (400<L1.length) <;> simp only [Af,Ab]
    .cases L1.all D9 <;> rfl
    .rfl
  .cases h
 .cases h
def T6 :B7:=T5.with x6s Oj
theorem Qi :Zv prog T6:=j4b DH
open Go.Sort Go.Shelf Go.RowKit Go.Lib
theorem w3k {γ:Type} (a b:Bool) (x y:γ):(bif a&&b then x else y)=bif a then (bif b then x else y) else y:=by grind
theorem w3j {γ:Type} (a:Bool) (x y:γ):(bif !a then x else y)=bif a then y else x:=by grind
structure DV (α β:Type) where
 lo:α->Int
 hi:α->Int
 pr:α->β
 put:Int->Int->β->α
 ext:Int->α->α
 mak:List β->List β
 same:List β->List β->Bool
structure Sw (α β:Type) where
 out:List α
 last:List β
 first:Nat
 fin:Int
def MW (zs:zq):zq:=compact (Kc zs)
theorem v7l (zs:zq):GW (Kc zs)=(MW zs).length :=rfl
theorem U6 (zs:zq):(Kc zs).length =zs.length:=List.length_mergeSort zs
theorem x3w (zs:zq):(MW zs).length <=zs.length:=by have:=compact_length_le (Kc zs);rw [U6] at this;exact this
theorem XO (zs:zq) (i:Nat) (h:i<(MW zs).length):rd (CZ (Kc zs)) i=rd (MW zs) i:=by
 change i<(compact (Kc zs)).length at h;show rd (compact (Kc zs)++_) i=rd (compact (Kc zs)) i
 grind [Wv]
theorem x1k (zs:zq):Xk zs.length (Cb (Zz (Kc zs)))=Kc zs:=by
 grind [YW,U6]
namespace DV
variable {α β:Type} (D:DV α β) (l:List α)
def ends :zq:=l.flatMap fun r=>[D.lo r,D.hi r]
def cuts :zq:=MW (D.ends l)
def inn (x:Int):List β:=(l.filter fun r=>decide (D.lo r<=x)&&decide (x<D.hi r)).map D.pr
def sec (x:Int):List β:=D.mak (D.inn l x)
def grow (out:List α) (k:Nat) (x:Int):List α:=out.take k++(out.drop k).map (D.ext x)
def one (x x':Int) (s:Sw α β):Sw α β:=
 bif decide (0<(D.sec l x).length)&&((s.fin == x)&&D.same s.last (D.sec l x)) then ⟨D.grow s.out s.first x',s.last,s.first,x'⟩
 else ⟨s.out++(D.sec l x).map (D.put x x'),D.sec l x,s.out.length,x'⟩
def go :Nat->Nat->Sw α β->Sw α β
 | 0,_,s=>s
 | k+1,i,s=>go k (i+1) (D.one l (rd (D.cuts l) i) (rd (D.cuts l) (i+1)) s)
def out :List α:=(D.go l ((D.cuts l).length - 1) 0 ⟨[],[],0,0⟩).out
theorem ends_length :(D.ends l).length =2*l.length:=by
 induction l with
 | nil=>rfl
 | cons r l ih=>show (_::_::D.ends l).length =_;grind
theorem cuts_length :(D.cuts l).length <=2*l.length:=by have:=x3w (D.ends l);rw [D.ends_length] at this;exact this
theorem ends_append (m:List α):D.ends (l++m)=D.ends l++D.ends m:=by simp [ends]
theorem inn_append (m:List α) (x:Int):D.inn (l++m) x=D.inn l x++D.inn m x:=by simp [inn]
theorem inn_length (x:Int):(D.inn l x).length <=l.length:=by grind [inn]
theorem inn_t (r:α) (x:Int) (h1:D.lo r<=x) (h2:x<D.hi r):D.inn [r] x=[D.pr r]:=by simp [inn,h1,h2]
theorem inn_f1 (r:α) (x:Int) (h1: ¬D.lo r<=x):D.inn [r] x=[]:=by simp [inn,h1]
theorem inn_f2 (r:α) (x:Int) (h1: ¬x<D.hi r):D.inn [r] x=[]:=by simp [inn,h1]
theorem grow_nil (out:List α) (k:Nat) (x:Int) (h:out.length<=k):D.grow out k x=out:=by unfold grow;rw [Av h,List.map_nil,AO,A4 h]
theorem grow_length (out:List α) (k:Nat) (x:Int):(D.grow out k x).length =out.length:=by unfold grow;simp;omega
theorem grow_set [Xg α] (out:List α) (j:Nat) (x:Int) (h:j<out.length):D.grow (out.set j (D.ext x (rd out j))) (j+1) x=D.grow out j x:=by
 unfold grow;rw [Yt h,A8];have e1:(out.set j (D.ext x (rd out j))).take (j+1)=out.take j++[D.ext x (rd out j)]:=by
  apply Bt;all_goals grind
 have e2:(out.set j (D.ext x (rd out j))).drop (j+1)=out.drop (j+1):=by rw [List.drop_set];grind
 grind
theorem one_length (x x':Int) (s:Sw α β):(D.one l x x' s).out.length <=s.out.length+(D.sec l x).length :=by
 grind [one,grow_length]
end DV
def Ca (a b:zy):Bool:=Nat.ble (a.length+b.length) 9223372036854775807
def sLe (a:zy):Bool:=decide (a.length<=9223372036854775807)
theorem Gl {a b:zy} (h:a.length+b.length<=1000000000000):Ca a b=true:=by unfold Ca;exact AU (by omega)
theorem Su {a:zy} (h:a.length<=1000000000000):sLe a=true:=by unfold sLe;exact Aa (by omega)
open Go.Proofs.Tryz
open Go.Proofs Go.Lib
theorem j6o :Zv prog SC:=x4t (Gk (Gk (Gk Zp (by kernel_rfl) u7z) (by kernel_rfl) u4y) (by kernel_rfl) u8p) (by kernel_rfl) v7j
def I3 (n:Int):zy:=[]
def ZQ (n:Int):Bool:=false
def j5l :zx->Option (B5×Bool)
 | [.int .i64 n]=>some (.str (I3 n),ZQ n)
 | _=>none
theorem j6a (args:zx) (v:B5):j5l args≠some (v,true):=by intro h;unfold j5l at h;split at h <;> simp [ZQ] at h
def SD0 :B7:=SC.with GV j5l
theorem XF :Zv prog SD0:=Gk j6o (by kernel_rfl) fun args v h=>absurd h (j6a args v)
def JG (n:Int):zy:=itoa n
def WN (n:Int):Bool:=decide (0<=n/\n<=9223372036854775807)
def L3 :zx->Option (B5×Bool)
 | [.int .i64 n]=>some (.str (JG n),WN n)
 | _=>none
def SD1 :B7:=SC.with GV L3
inductive I4 where
 | h0 (v0:Int) (v3:zy)
def PS (x0:Int):I4->CH
 | .h0 v0 v3=>⟨⟨23,0,true⟩,none,(Zf prog 78 (pn 39) 0),none,(Zy prog 9),⟨Yh [(0,(ii v0)),(3,(.str v3))],Wd [] 0,0,[],true⟩,[],.leaf⟩
def La :List (Option zw):=[some [0,3]]
def Lb :List (Option zw):=[]
def QC (x0:Int):I4->Xy I4
 | .h0 v0 v3=>(bif (decide (0<=(wrap IntKind.u8 (wrap .i64 (48+(Int.tmod v0 10))))/\(wrap IntKind.u8 (wrap .i64 (48+(Int.tmod v0 10))))<256)) then (bif (Ca ([UInt8.ofNat (Int.toNat (wrap IntKind.u8 (wrap .i64 (48+(Int.tmod v0 10)))))]:zy) v3) then (bif ((wrap .i64 (Int.tdiv v0 10)) == 0) then (.ret [(.str (([UInt8.ofNat (Int.toNat (wrap IntKind.u8 (wrap .i64 (48+(Int.tmod v0 10)))))]:zy)++v3))]) else (.to (.h0 (wrap .i64 (Int.tdiv v0 10)) (([UInt8.ofNat (Int.toNat (wrap IntKind.u8 (wrap .i64 (48+(Int.tmod v0 10)))))]:zy)++v3)))) else .stuck) else .stuck)
def Rg (x0:Int):Xy I4:=(bif (decide (x0<0)) then (bif (ZQ (wrap .i64 (0 - x0))) then (bif (Ca ([45]:zy) (I3 (wrap .i64 (0 - x0)))) then (.ret [(.str (([45]:zy)++(I3 (wrap .i64 (0 - x0)))))]) else .stuck) else .stuck) else (.to (.h0 x0 ([]:zy))))
theorem v0p (x0:Int): ∀s,Wu prog (Zy prog 78) (PS x0) (PS x0 s) (QC x0 s)
 | .h0 v0 v3=>(lo fun cP=>(lo fun dI=>let a:=ww dI (pp (pp (xw cP) nn) nn);(lb (fun k0=>(lr 23 78 (pn 2503) 1 9 [(2,(.str (([UInt8.ofNat (tn (wrap IntKind.u8 (wr (48+(Int.tmod v0 10)))))]:zy)++v3)))] (sl XF 30 [] (b8 [2]) b7 [true] (tt k0 a)))) (fun k0=>(sl XF 28 [] ⟨[],[],La,Lb⟩ b7 [false] (tt k0 a))))))
theorem w2x (x0:Int):Wu prog (Zy prog 78) (PS x0) (Zm prog 78 [(.int .i64 x0)] true []) (Rg x0):=(lb (fun k0=>(lo fun o0=>(lo fun o1=>(lr 23 78 (pn 37) 1 9 [(2,(.str (([45]:zy)++(I3 (wr (0 - x0))))))] (sl XF 19 [] (b8 [2]) b7 [true] (ww o1 (ww o0 (tt k0 nn)))))))) (fun k0=>(sl XF 18 [] ⟨[],[],La,Lb⟩ b7 [false] (tt k0 nn))))
theorem w6j (x0:Int) (n:Nat) (vs:zx) (h:Zt (QC x0) n (Rg x0)=.ret vs):Kw prog (Zy prog 78) (Zm prog 78 [(.int .i64 x0)] true []) vs:=by have:=Zb (v0p x0) n _ (w2x x0);rwa [h] at this
theorem w8 (n:Int) (h:0<=n/\n<256):wrap .u8 n=n:=by unfold wrap;simp [IntKind.signed,IntKind.bits];omega
theorem Mp (u:Nat):Int.tmod (u:Int) 10=((u %10:Nat):Int):=rfl
theorem Mq (u:Nat):Int.tdiv (u:Int) 10=((u / 10:Nat):Int):=rfl
theorem j5z {x:Int} (u:Nat) (acc:zy) (hu:u<=9223372036854775807) (ha:acc.length<=1000):
  QC x (.h0 (u:Int) acc)=bif (((u / 10:Nat):Int) == 0) then .ret [.str ([UInt8.ofNat (48+u %10)]++acc)] else .to (.h0 ((u / 10:Nat):Int) ([UInt8.ofNat (48+u %10)]++acc)):=by
 have e1:wrap .i64 (48+Int.tmod (u:Int) 10)=((48+u %10:Nat):Int):=by rw [Mp,Zq (by omega)];rfl
 have e2:wrap .u8 ((48+u %10:Nat):Int)=((48+u %10:Nat):Int):=w8 _ (by omega);have e3:wrap .i64 (Int.tdiv (u:Int) 10)=((u / 10:Nat):Int):=by rw [Mq,Zq (by omega)]
 unfold QC;simp only [e1,e2,e3,Zj];rw [Zu (Aa (by omega)),Zu (Gl (by simp only [AE];omega))]
theorem u8h {x:Int}: ∀(k u:Nat) (acc:zy),u<10 ^ (k+1)->k<=40->u<=9223372036854775807->acc.length+k<=1000-> ∃N,Zt (QC x) N (.to (.h0 (u:Int) acc))=.ret [.str (decDigits u++acc)]
 | k,u,acc,h,hk,hu,ha=>by
  have est:=j5z (x:=x) u acc hu (by omega);by_cases h0:u<10
  .refine ⟨1,?_⟩;have:u / 10=0:=by omega
   rw [Zx,est,this,Zu (by rfl),Za,decDigits,dif_pos h0,Nat.mod_eq_of_lt h0]
  .have hb:(((u / 10:Nat):Int) == 0)=false:=HO (by omega)
   match k,h,hk,ha with
   | 0,h,_,_=>omega
   | k+1,h,hk,ha=>obtain ⟨N,hN⟩:=u8h (x:=x) k (u / 10) ([UInt8.ofNat (48+u %10)]++acc) (by rw [B1] at h;omega) (by omega) (by omega) (by rw [Ap,AE];omega);refine ⟨N+1,?_⟩;rw [Zx,est,hb,Ab,hN,decDigits.eq_def u,dif_neg h0,AI]
theorem w6i (n:Int) (h:WN n=true): ∃N,Zt (QC n) N (Rg n)=.ret [.str (JG n)]:=by
 have h:0<=n/\n<=9223372036854775807:=Aw h;obtain ⟨u,rfl⟩: ∃u:Nat,n=(u:Int):=⟨n.toNat,by omega⟩
 obtain ⟨N,hN⟩:=u8h (x:=(u:Int)) 19 u [] (by omega) (by decide) (by omega) (by decide);refine ⟨N,?_⟩;have e:Rg (u:Int)=.to (.h0 (u:Int) []):=by unfold Rg;rw [Ah (by omega),Ab]
 rw [e,hN,AO];unfold JG itoa;rw [Az (by omega)];rfl
theorem XG :Zv prog SD1:=CU j6o (by kernel_rfl) fun args v h=>by
 unfold L3 at h;split at h
 .rename_i n;simp only [Ae,Ac] at h;obtain ⟨rfl,ho⟩:=h;obtain ⟨N,hN⟩:=w6i n ho;exact ⟨_,_,.cons (.refl _) .nil,rfl,w6j n N _ hN,3,rfl⟩
 .cases h
inductive I5 where
 | h0 (v0:Int) (v3:zy)
def PT (x0:Int):I5->CH
 | .h0 v0 v3=>⟨⟨23,0,true⟩,none,(Zf prog 78 (pn 39) 0),none,(Zy prog 9),⟨Yh [(0,(ii v0)),(3,(.str v3))],Wd [] 0,0,[],true⟩,[],.leaf⟩
def Lc :List (Option zw):=[some [0,3]]
def Ld :List (Option zw):=[]
def v7c (x0:Int):I5->Xy I5
 | .h0 v0 v3=>(bif (decide (0<=(wrap IntKind.u8 (wrap .i64 (48+(Int.tmod v0 10))))/\(wrap IntKind.u8 (wrap .i64 (48+(Int.tmod v0 10))))<256)) then (bif (Ca ([UInt8.ofNat (Int.toNat (wrap IntKind.u8 (wrap .i64 (48+(Int.tmod v0 10)))))]:zy) v3) then (bif ((wrap .i64 (Int.tdiv v0 10)) == 0) then (.ret [(.str (([UInt8.ofNat (Int.toNat (wrap IntKind.u8 (wrap .i64 (48+(Int.tmod v0 10)))))]:zy)++v3))]) else (.to (.h0 (wrap .i64 (Int.tdiv v0 10)) (([UInt8.ofNat (Int.toNat (wrap IntKind.u8 (wrap .i64 (48+(Int.tmod v0 10)))))]:zy)++v3)))) else .stuck) else .stuck)
def VI (x0:Int):Xy I5:=(bif (decide (x0<0)) then (bif (WN (wrap .i64 (0 - x0))) then (bif (Ca ([45]:zy) (JG (wrap .i64 (0 - x0)))) then (.ret [(.str (([45]:zy)++(JG (wrap .i64 (0 - x0)))))]) else .stuck) else .stuck) else (.to (.h0 x0 ([]:zy))))
theorem v0q (x0:Int): ∀s,Wu prog (Zy prog 78) (PT x0) (PT x0 s) (v7c x0 s)
 | .h0 v0 v3=>(lo fun cP=>(lo fun dI=>let a:=ww dI (pp (pp (xw cP) nn) nn);(lb (fun k0=>(lr 23 78 (pn 2503) 1 9 [(2,(.str (([UInt8.ofNat (tn (wrap IntKind.u8 (wr (48+(Int.tmod v0 10)))))]:zy)++v3)))] (sl XG 30 [] (b8 [2]) b7 [true] (tt k0 a)))) (fun k0=>(sl XG 28 [] ⟨[],[],Lc,Ld⟩ b7 [false] (tt k0 a))))))
theorem w2z (x0:Int):Wu prog (Zy prog 78) (PT x0) (Zm prog 78 [(.int .i64 x0)] true []) (VI x0):=(lb (fun k0=>(lo fun o0=>(lo fun o1=>(lr 23 78 (pn 37) 1 9 [(2,(.str (([45]:zy)++(JG (wr (0 - x0))))))] (sl XG 19 [] (b8 [2]) b7 [true] (ww o1 (ww o0 (tt k0 nn)))))))) (fun k0=>(sl XG 18 [] ⟨[],[],Lc,Ld⟩ b7 [false] (tt k0 nn))))
theorem u3v (x0:Int) (n:Nat) (vs:zx) (h:Zt (v7c x0) n (VI x0)=.ret vs):Kw prog (Zy prog 78) (Zm prog 78 [(.int .i64 x0)] true []) vs:=by have:=Zb (v0q x0) n _ (w2z x0);rwa [h] at this
structure R7 where
 (a b c d e f g:Int)
instance : Xg R7 where
 w:=7
 d:=⟨0,0,0,0,0,0,0⟩
 cells x:=[.int .u8 x.a,.int .i64 x.b,.int .i64 x.c,.int .i64 x.d,.int .i64 x.e,.int .i64 x.f,.int .i64 x.g]
 of l:=⟨Cn (l.getD 0 .undef),Cn (l.getD 1 .undef),Cn (l.getD 2 .undef),Cn (l.getD 3 .undef),Cn (l.getD 4 .undef),Cn (l.getD 5 .undef),Cn (l.getD 6 .undef)⟩
 len _:=rfl
 pos:=by decide
 flat _:=rfl
 sc _:=rfl
 back _:=rfl
def Uh (n:Int):zy:=itoa n
def Vc (n:Int):Bool:=decide (-9223372036854775807<=n/\n<=9223372036854775807)
def IW :zx->Option (B5×Bool)
 | [.int .i64 n]=>some (.str (Uh n),Vc n)
 | _=>none
theorem w2y (n:Int) (h: -9223372036854775808<=n/\n<=9223372036854775807):(JG n).length <=21:=itoa_length_le n h.1 h.2
theorem v6v {S:B7} (hS:Zv prog S):Zv prog (S.with GV IW):=CU hS (by kernel_rfl) fun args v h=>by
 unfold IW at h;split at h
 .rename_i n;simp only [Ae,Ac] at h;obtain ⟨rfl,ho⟩:=h;have ho: -9223372036854775807<=n/\n<=9223372036854775807:=Aw ho;by_cases hn:n<0
  .have e:VI n=.ret [.str (Uh n)]:=by unfold VI;rw [Zu (Aa hn),Zq (by omega),Zu (show WN (0 - n)=true from Aa (by omega))];have:=w2y (0 - n) (by omega);rw [Zu (Gl (by simp only [AE];omega))];unfold JG Uh itoa;rw [Az (by omega),AG hn,show (0 - n).toNat =n.natAbs by omega];rfl
   exact ⟨_,_,.cons (.refl _) .nil,rfl,u3v n 0 _ (by rw [e];rfl),3,rfl⟩
  .obtain ⟨N,hN⟩:=w6i n (Aa (by omega));exact ⟨_,_,.cons (.refl _) .nil,rfl,w6j n N _ hN,3,rfl⟩
 .cases h
def SD :B7:=SC.with GV IW
theorem Dq :Zv prog SD:=v6v j6o
inductive IN where
def Oc (bE:Int) (bD:Int) (bC:Int):IN->CH
 :=nofun
def w2o (bE:Int) (bD:Int) (bC:Int):IN->Xy IN
 :=nofun
def VJ (bE:Int) (bD:Int) (bC:Int):Xy IN:=(bif (decide ((Cl (Cl bE bD) bC)>=(-1000000))) then (.ret [(.bool (decide ((Ck (Ck bE bD) bC)<=1000000)))]) else (.ret [(.bool false)]))
theorem v0f (bE:Int) (bD:Int) (bC:Int): ∀s,Wu prog (Zy prog 97) (Oc bE bD bC) (Oc bE bD bC s) (w2o bE bD bC s)
 :=nofun
theorem w2p (bE:Int) (bD:Int) (bC:Int):Wu prog (Zy prog 97) (Oc bE bD bC) (Zm prog 97 [(.agg [(.int .i64 bE),(.int .i64 bD),(.int .i64 bC)])] true []) (VJ bE bD bC):=(lb (fun k0=>(lr 21 3 (pn 191) 1 9 [(2,(.bool (decide ((Ck (Ck bE bD) bC)<=1000000))))] (sl Dq 27 [] (b8 [2]) b7 (CC 8 []) (tt k0 nn)))) (fun k0=>(lr 21 3 (pn 191) 1 9 [(2,(.bool false))] (sl Dq 27 [] (b8 [2]) b7 (bl 8 0) (tt k0 nn)))))
theorem u3j (bE:Int) (bD:Int) (bC:Int) (n:Nat) (vs:zx) (h:Zt (w2o bE bD bC) n (VJ bE bD bC)=.ret vs):Kw prog (Zy prog 97) (Zm prog 97 [(.agg [(.int .i64 bE),(.int .i64 bD),(.int .i64 bC)])] true []) vs:=by have:=Zb (v0f bE bD bC) n _ (w2p bE bD bC);rwa [h] at this
inductive Ho where
def NU (bE:Int) (bD:Int) (bC:Int) (x1:Int):Ho->CH
 :=nofun
def w0f (bE:Int) (bD:Int) (bC:Int) (x1:Int):Ho->Xy Ho
 :=nofun
def VY (bE:Int) (bD:Int) (bC:Int) (x1:Int):Xy Ho:=(bif (decide (bE>=x1)) then (bif (decide (bD>=x1)) then (bif (decide (bC>=x1)) then (bif (decide (bE<=1000000)) then (bif (decide (bD<=1000000)) then (.ret [(.bool (decide (bC<=1000000)))]) else (.ret [(.bool false)])) else (.ret [(.bool false)])) else (.ret [(.bool false)])) else (.ret [(.bool false)])) else (.ret [(.bool false)]))
theorem w8q (bE:Int) (bD:Int) (bC:Int) (x1:Int): ∀s,Wu prog (Zy prog 60) (NU bE bD bC x1) (NU bE bD bC x1 s) (w0f bE bD bC x1 s)
 :=nofun
theorem w0g (bE:Int) (bD:Int) (bC:Int) (x1:Int):Wu prog (Zy prog 60) (NU bE bD bC x1) (Zm prog 60 [(.agg [(.int .i64 bE),(.int .i64 bD),(.int .i64 bC)]),(.int .i64 x1)] true []) (VY bE bD bC x1):=(lb (fun k0=>(lb (fun k1=>let a:=tt k1 (tt k0 nn);(lb (fun k2=>(lb (fun k3=>let b:=tt k3 (tt k2 a);(lb (fun k4=>(lr 36 3 (pn 191) 1 3 [(4,(.bool (decide (bC<=1000000))))] (sl Dq 40 [] (b8 [4]) b7 (CC 17 []) (tt k4 b)))) (fun k4=>(lr 36 3 (pn 191) 1 3 [(4,(.bool false))] (sl Dq 40 [] (b8 [4]) b7 (CC 14 (bl 3 0)) (tt k4 b)))))) (fun k3=>(lr 36 3 (pn 191) 1 3 [(4,(.bool false))] (sl Dq 40 [] (b8 [4]) b7 (CC 11 (bl 6 0)) (tt k3 (tt k2 a))))))) (fun k2=>(lr 36 3 (pn 191) 1 3 [(4,(.bool false))] (sl Dq 40 [] (b8 [4]) b7 (CC 8 (bl 9 0)) (tt k2 a)))))) (fun k1=>(lr 36 3 (pn 191) 1 3 [(4,(.bool false))] (sl Dq 40 [] (b8 [4]) b7 (CC 4 (bl 13 0)) (tt k1 (tt k0 nn))))))) (fun k0=>(lr 36 3 (pn 191) 1 3 [(4,(.bool false))] (sl Dq 40 [] (b8 [4]) b7 (bl 17 0) (tt k0 nn)))))
theorem u0i (bE:Int) (bD:Int) (bC:Int) (x1:Int) (n:Nat) (vs:zx) (h:Zt (w0f bE bD bC x1) n (VY bE bD bC x1)=.ret vs):Kw prog (Zy prog 60) (Zm prog 60 [(.agg [(.int .i64 bE),(.int .i64 bD),(.int .i64 bC)]),(.int .i64 x1)] true []) vs:=by have:=Zb (w8q bE bD bC x1) n _ (w0g bE bD bC x1);rwa [h] at this
inductive I7 where
def PV (bE:Int) (bD:Int) (bC:Int) (x1:Int):I7->CH
 :=nofun
def w3d (bE:Int) (bD:Int) (bC:Int) (x1:Int):I7->Xy I7
 :=nofun
def VG (bE:Int) (bD:Int) (bC:Int) (x1:Int):Xy I7:=(bif (x1 == 0) then (.ret [(.int .i64 bE)]) else (bif (x1 == 1) then (.ret [(.int .i64 bD)]) else (.ret [(.int .i64 bC)])))
theorem v0u (bE:Int) (bD:Int) (bC:Int) (x1:Int): ∀s,Wu prog (Zy prog 95) (PV bE bD bC x1) (PV bE bD bC x1 s) (w3d bE bD bC x1 s)
 :=nofun
theorem w3e (bE:Int) (bD:Int) (bC:Int) (x1:Int):Wu prog (Zy prog 95) (PV bE bD bC x1) (Zm prog 95 [(.agg [(.int .i64 bE),(.int .i64 bD),(.int .i64 bC)]),(.int .i64 x1)] true []) (VG bE bD bC x1):=(lb (fun k0=>(lr 15 95 (pn 37) 1 3 [(4,(ii bE))] (sl Dq 18 [] (b8 [4]) b7 [true] (tt k0 nn)))) (fun k0=>(lb (fun k1=>(lr 15 95 (pn 75) 1 3 [(4,(ii bD))] (sl Dq 26 [] (b8 [4]) b7 (bl 2 2) (tt k1 (tt k0 nn))))) (fun k1=>(lr 15 3 (pn 191) 1 3 [(4,(ii bC))] (sl Dq 27 [] (b8 [4]) b7 (bl 2 0) (tt k1 (tt k0 nn))))))))
theorem u3z (bE:Int) (bD:Int) (bC:Int) (x1:Int) (n:Nat) (vs:zx) (h:Zt (w3d bE bD bC x1) n (VG bE bD bC x1)=.ret vs):Kw prog (Zy prog 95) (Zm prog 95 [(.agg [(.int .i64 bE),(.int .i64 bD),(.int .i64 bC)]),(.int .i64 x1)] true []) vs:=by have:=Zb (v0u bE bD bC x1) n _ (w3e bE bD bC x1);rwa [h] at this
inductive Hb where
 | h0 (v5:Int)
def NF (l0:List R7) (l1:List R7):Hb->CH
 | .h0 v5=>⟨⟨26,0,true⟩,none,(Zf prog 24 (pn 75) 0),none,(Zy prog 3),⟨Yh [(0,(dt l0)),(1,(dt l1)),(5,(ii v5))],Wd [] 0,0,[],true⟩,[],.leaf⟩
def KL :List (Option zw):=[some [0,1,5]]
def KM :List (Option zw):=[]
def MC (l0:List R7) (l1:List R7):Hb->Xy Hb
 | .h0 v5=>let h:=rd l1 v5.toNat;let i:=rd l0 v5.toNat;(bif (decide (v5<(l0.length:Int))) then (bif ((decide (0<=v5/\v5<(l0.length:Int)))&&true) then (bif ((decide (0<=v5/\v5<(l1.length:Int)))&&true) then (bif (!((i.a == h.a)&&(((i.b == h.b)&&((i.c == h.c)&&((i.d == h.d)&&true)))&&(((i.e == h.e)&&((i.f == h.f)&&((i.g == h.g)&&true)))&&true)))) then (.ret [(.bool false)]) else (.to (.h0 (wrap .i64 (v5+1))))) else .stuck) else .stuck) else (.ret [(.bool true)]))
def V7 (l0:List R7) (l1:List R7):Xy Hb:=(bif ((l0.length:Int) != (l1.length:Int)) then (.ret [(.bool false)]) else (.to (.h0 0)))
theorem w7y (l0:List R7) (l1:List R7): ∀s,Wu prog (Zy prog 24) (NF l0 l1) (NF l0 l1 s) (MC l0 l1 s)
 | .h0 v5=>(lb (fun k0=>(lo fun aB=>(lo fun aL=>let a:=ww aL (ww aB (tt k0 nn));(lb (fun k1=>(lr 26 24 (pn 4683) 1 3 [(4,(.bool false))] (sl Dq 19 [] (b8 [4]) b7 (bl 2 3) (tt k1 a)))) (fun k1=>(sl Dq 23 [] ⟨[],[],KL,KM⟩ b7 (bl 2 1) (tt k1 a))))))) (fun k0=>(lr 26 3 (pn 191) 1 3 [(4,(.bool true))] (sl Dq 14 [] (b8 [4]) b7 [false] (tt k0 nn)))))
theorem x9o (l0:List R7) (l1:List R7):Wu prog (Zy prog 24) (NF l0 l1) (Zm prog 24 [(dt l0),(dt l1)] true []) (V7 l0 l1):=(lb (fun k0=>(lr 26 24 (pn 37) 1 3 [(4,(.bool false))] (sl Dq 18 [] (b8 [4]) b7 [true] (tt k0 nn)))) (fun k0=>(sl Dq 22 [] ⟨[],[],KL,KM⟩ b7 [false] (tt k0 nn))))
theorem v9m (l0:List R7) (l1:List R7) (n:Nat) (vs:zx) (h:Zt (MC l0 l1) n (V7 l0 l1)=.ret vs):Kw prog (Zy prog 24) (Zm prog 24 [(dt l0),(dt l1)] true []) vs:=by have:=Zb (w7y l0 l1) n _ (x9o l0 l1);rwa [h] at this
open Go.Sort Go.Shelf Go.RowKit
def Eb (x y z:Int):Bool:=decide (Cl (Cl x y) z>=(-1000000))&&decide (Ck (Ck x y) z<=1000000)
theorem j3u (x y z:Int): ∃N,Zt (w2o x y z) N (VJ x y z)=.ret [.bool (Eb x y z)]:=⟨0,by
 unfold VJ Eb;cases decide (Cl (Cl x y) z>=(-1000000)) <;> rfl⟩
def PJ :zx->Option (B5×Bool)
 | [.agg [.int .i64 bE,.int .i64 bD,.int .i64 bC]]=>some (.bool (Eb bE bD bC),true)
 | _=>none
theorem j5j {S:B7} (hS:Zv prog S):Zv prog (S.with u7j PJ):=by
 refine CU hS (by kernel_rfl) fun args v h=> ?_;unfold PJ at h;split at h
 .rename_i bE bD bC;simp only [Ae,Ac,B2] at h;subst h;obtain ⟨N,hN⟩:=j3u bE bD bC;exact ⟨_,_,(.cons (.refl _) .nil),rfl,u3j bE bD bC N _ hN,3,rfl⟩
 .cases h
def O4 (x y z lo:Int):Bool:=decide (x>=lo)&&(decide (y>=lo)&&(decide (z>=lo)&&(decide (x<=1000000)&&(decide (y<=1000000)&&decide (z<=1000000)))))
theorem j1l (x y z lo:Int): ∃N,Zt (w0f x y z lo) N (VY x y z lo)=.ret [.bool (O4 x y z lo)]:=⟨0,by
 unfold VY O4;cases decide (x>=lo) <;> cases decide (y>=lo) <;> cases decide (z>=lo) <;> cases decide (x<=1000000) <;> cases decide (y<=1000000) <;> rfl⟩
def Ou :zx->Option (B5×Bool)
 | [.agg [.int .i64 x,.int .i64 y,.int .i64 z],.int .i64 lo]=>some (.bool (O4 x y z lo),true)
 | _=>none
theorem j4q {S:B7} (hS:Zv prog S):Zv prog (S.with LL Ou):=by
 refine CU hS (by kernel_rfl) fun args v h=> ?_;unfold Ou at h;split at h
 .rename_i x y z lo;simp only [Ae,Ac,B2] at h;subst h;obtain ⟨N,hN⟩:=j1l x y z lo;exact ⟨_,_,(.cons (.refl _) (.cons (.refl _) .nil)),rfl,u0i x y z lo N _ hN,3,rfl⟩
 .cases h
def DG (x y z i:Int):Int:=bif i == 0 then x else bif i == 1 then y else z
theorem j6d (x y z i:Int): ∃N,Zt (w3d x y z i) N (VG x y z i)=.ret [.int .i64 (DG x y z i)]:=⟨0,by
 unfold VG DG;cases (i == 0) <;> cases (i == 1) <;> rfl⟩
def PL :zx->Option (B5×Bool)
 | [.agg [.int .i64 bE,.int .i64 bD,.int .i64 bC],.int .i64 x1]=>some (.int .i64 (DG bE bD bC x1),true)
 | _=>none
theorem j5o {S:B7} (hS:Zv prog S):Zv prog (S.with u7n PL):=by
 refine CU hS (by kernel_rfl) fun args v h=> ?_;unfold PL at h;split at h
 .rename_i bE bD bC x1;simp only [Ae,Ac,B2] at h;subst h;obtain ⟨N,hN⟩:=j6d bE bD bC x1;exact ⟨_,_,(.cons (.refl _) (.cons (.refl _) .nil)),rfl,u3z bE bD bC x1 N _ hN,3,rfl⟩
 .cases h
instance : DecidableEq R7:=Classical.typeDecidableEq _
def Mx (l m:List R7):Bool:=decide (l=m)
def UF (r s:R7):Bool:=(r.a == s.a)&&(((r.b == s.b)&&((r.c == s.c)&&((r.d == s.d)&&true)))&&(((r.e == s.e)&&((r.f == s.f)&&((r.g == s.g)&&true)))&&true))
theorem v6x (r s:R7):UF r s=true↔r=s:=by obtain ⟨a,b,c,d,e,f,g⟩:=r;obtain ⟨a',b',c',d',e',f',g'⟩:=s;simp [UF,and_assoc]
def Sy (l m:List R7):Bool:=Mx l m
def x5k (l m:List R7):Bool:=decide (l.length<=1000000)
theorem u5q (l m:List R7) (hl:l.length<=1000000) (hm:l.length=m.length): ∀(k i:Nat),i+k=l.length-> ∃N,Zt (MC l m) N (.to (.h0 (i:Int)))=.ret [.bool (decide (l.drop i=m.drop i))]
 | 0,i,h=>by
  refine ⟨1,?_⟩
  grind [Zx,MC,Za]
 | k+1,i,h=>by
  have hi:i<l.length:=by omega
  obtain ⟨N,hN⟩:=u5q l m hl hm k (i+1) (by omega);refine ⟨N+1,?_⟩;rw [Zx,Yt hi,Yt (show i<m.length by omega)];have e:MC l m (.h0 (i:Int))=bif !(UF (rd l i) (rd m i)) then .ret [.bool false] else .to (.h0 ((i+1:Nat):Int)):=by
   grind [MC,UF,Zq]
  rw [e];by_cases q:rd l i=rd m i
  .rw [(v6x _ _).2 q,Ay,Ab,hN];simp_all
  .rw [show UF (rd l i) (rd m i)=false from AY.2 fun h=>q ((v6x _ _).1 h),AC,Af,Za];simp_all
theorem j0g (l m:List R7) (h:x5k l m=true): ∃N,Zt (MC l m) N (V7 l m)=.ret [.bool (Sy l m)]:=by
 have hl:l.length<=1000000:=Aw h;unfold V7;by_cases hm:l.length=m.length
 .obtain ⟨N,hN⟩:=u5q l m hl hm l.length 0 (Ak _);refine ⟨N,?_⟩;rw [show ((l.length:Int) != (m.length:Int))=false by rw [hm];simp,Ab];exact hN
 .refine ⟨0,?_⟩;rw [show ((l.length:Int) != (m.length:Int))=true by simp;omega,Af,Za]
  congr 3
  exact (Ah fun e=>hm (by rw [e])).symm
def Oo :zx->Option (B5×Bool)
 | [a0,a1]=>match C5 R7 a0,C5 R7 a1 with
  | some (L0,g0,n0),some (L1,g1,n1)=>some (.bool (Sy L0 L1),CV R7 n0 g0&&(CV R7 n1 g1&&(x5k L0 L1)))
  | _,_=>none
 | _=>none
theorem j4i {S:B7} (hS:Zv prog S):Zv prog (S.with Sn Oo):=by
 refine CU hS (by kernel_rfl) fun args v h=> ?_;unfold Oo at h;split at h
 .rename_i a0 a1;split at h
  .rename_i L0 g0 n0 L1 g1 n1 e0 e1;simp only [Ae,Ac,Ad] at h;obtain ⟨rfl,ho0,ho1,hw⟩:=h;obtain ⟨N,hN⟩:=j0g L0 L1 hw;exact ⟨_,_,(.cons (Xd e0 ho0) (.cons (Xd e1 ho1) .nil)),rfl,v9m L0 L1 N _ hN,3,rfl⟩
  .cases h
 .cases h
def S1 :B7:=(((SD.with u7j PJ).with LL Ou).with u7n PL).with Sn Oo
theorem Ko :Zv prog S1:=j4i (j5o (j4q (j5j Dq)))
inductive IB where
 | h0 (v14:Int)
def OI (l0:List R7):IB->CH
 | .h0 v14=>⟨⟨70,0,true⟩,none,(Zf prog 59 (pn 151) 0),none,(Zy prog 9),⟨Yh [(3,(.ptr 0 0)),(12,(dt l0)),(13,(ii (l0.length:Int))),(14,(ii v14))],Wd [⟨[(.fn 128 []),(.fn 129 []),(.fn 130 []),(.fn 131 []),(.fn 132 []),(.fn 133 []),(.fn 134 []),(.fn 135 []),(.fn 136 [])],164,none⟩] 0,1,[],true⟩,[],.leaf⟩
def YB :List (Option zw):=[some [3,12,13,14]]
def YA :List (Option zw):=[]
def Ls (l0:List R7):IB->Xy IB
 | .h0 v14=>let h:=rd l0 v14.toNat;(bif (decide (v14<(l0.length:Int))) then (bif ((decide (0<=v14/\v14<(l0.length:Int)))&&true) then (bif (decide (h.a >5)) then (.ret [(.int .i64 8)]) else (bif (!(Eb h.b h.c h.d)) then (.ret [(.int .i64 8)]) else (bif (!(Eb h.e h.f h.g)) then (.ret [(.int .i64 8)]) else (bif (decide ((wrap IntKind.u8 (Int.tdiv h.a 2))=Int.ofNat 0)) then (bif (h.b != h.e) then (.ret [(.int .i64 8)]) else (bif (decide (h.c >=h.f)) then (.ret [(.int .i64 8)]) else (bif (decide (h.d >=h.g)) then (.ret [(.int .i64 8)]) else (.to (.h0 (wrap .i64 (v14+1))))))) else (bif (decide ((wrap IntKind.u8 (Int.tdiv h.a 2))=Int.ofNat 1)) then (bif (h.c != h.f) then (.ret [(.int .i64 8)]) else (bif (decide (h.b >=h.e)) then (.ret [(.int .i64 8)]) else (bif (decide (h.d >=h.g)) then (.ret [(.int .i64 8)]) else (.to (.h0 (wrap .i64 (v14+1))))))) else (bif (decide ((wrap IntKind.u8 (Int.tdiv h.a 2))=Int.ofNat 2)) then (bif (h.d != h.g) then (.ret [(.int .i64 8)]) else (bif (decide (h.b >=h.e)) then (.ret [(.int .i64 8)]) else (bif (decide (h.c >=h.f)) then (.ret [(.int .i64 8)]) else (.to (.h0 (wrap .i64 (v14+1))))))) else .stuck)))))) else .stuck) else (.ret [(.int .i64 0)]))
def VQ (l0:List R7):Xy IB:=(bif (decide ((l0.length:Int)>3000)) then (.ret [(.int .i64 4)]) else (.to (.h0 0)))
theorem w9i (l0:List R7): ∀s,Wu prog (Zy prog 59) (OI l0) (OI l0 s) (Ls l0 s)
 | .h0 v14=>(lb (fun k0=>(lo fun aB=>let b:=ww aB (tt k0 nn);(lb (fun k1=>(lr 70 59 (pn 76183) 1 9 [(2,(ii 8))] (sl Ko 40 [] (b8 [2]) b7 (CC 10 []) (tt k1 b)))) (fun k1=>(lb (fun k2=>(lr 70 59 (pn 76183) 1 9 [(2,(ii 8))] (sl Ko 40 [] (b8 [2]) b7 (bl 10 993) (tt k2 (tt k1 b))))) (fun k2=>let f:=tt k2 (tt k1 b);(lb (fun k3=>(lr 70 59 (pn 76183) 1 9 [(2,(ii 8))] (sl Ko 40 [] (b8 [2]) b7 (bl 10 513) (tt k3 f)))) (fun k3=>let a:=tt k3 f;let g:=pn 326039;(lb (fun k4=>(lb (fun k5=>(lr 70 59 g 1 9 [(2,(ii 8))] (sl Ko 124 [] (b8 [2]) b7 (bl 22 4192257) (tt k5 (ww k4 a))))) (fun k5=>let c:=tt k5 (ww k4 a);(lb (fun k6=>(lr 70 59 g 1 9 [(2,(ii 8))] (sl Ko 124 [] (b8 [2]) b7 (bl 22 4128769) (tt k6 c)))) (fun k6=>(lb (fun k7=>(lr 70 59 g 1 9 [(2,(ii 8))] (sl Ko 124 [] (b8 [2]) b7 (bl 22 2097153) (tt k7 (tt k6 c))))) (fun k7=>(sl Ko 127 [] ⟨[0],[],YB,YA⟩ b7 (bl 22 1) (tt k7 (tt k6 c)))))))))) (fun k4=>(lb (fun k5=>(lb (fun k6=>(lr 70 59 g 1 9 [(2,(ii 8))] (sl Ko 124 [] (b8 [2]) b7 (bl 23 8385537) (tt k6 (ww k5 a))))) (fun k6=>let d:=tt k6 (ww k5 a);(lb (fun k7=>(lr 70 59 g 1 9 [(2,(ii 8))] (sl Ko 124 [] (b8 [2]) b7 (bl 23 8258561) (tt k7 d)))) (fun k7=>(lb (fun k8=>(lr 70 59 g 1 9 [(2,(ii 8))] (sl Ko 124 [] (b8 [2]) b7 (bl 23 4195329) (tt k8 (tt k7 d))))) (fun k8=>(sl Ko 127 [] ⟨[0],[],YB,YA⟩ b7 (bl 23 1025) (tt k8 (tt k7 d)))))))))) (fun k5=>(lb (fun k6=>(lb (fun k7=>(lr 70 59 g 1 9 [(2,(ii 8))] (sl Ko 124 [] (b8 [2]) b7 (bl 24 16772097) (tt k7 (ww k6 a))))) (fun k7=>let e:=tt k7 (ww k6 a);(lb (fun k8=>(lr 70 59 g 1 9 [(2,(ii 8))] (sl Ko 124 [] (b8 [2]) b7 (bl 24 16518145) (tt k8 e)))) (fun k8=>(lb (fun k9=>(lr 70 59 g 1 9 [(2,(ii 8))] (sl Ko 124 [] (b8 [2]) b7 (bl 24 8391681) (tt k9 (tt k8 e))))) (fun k9=>(sl Ko 127 [] ⟨[0],[],YB,YA⟩ b7 (bl 24 3073) (tt k9 (tt k8 e)))))))))) (fun k6=>trivial)))))))))))))) (fun k0=>(lr 70 3 (pn 191) 1 9 [(2,(ii 0))] (sl Ko 11 [] (b8 [2]) b7 [false] (tt k0 nn)))))
theorem w1j (l0:List R7):Wu prog (Zy prog 59) (OI l0) (Zm prog 59 [(dt l0)] true []) (VQ l0):=(lb (fun k0=>(lr 70 59 (pn 37) 1 9 [(2,(ii 4))] (sl Ko 16 [] (b8 [2]) b7 [true] (tt k0 nn)))) (fun k0=>(sl Ko 41 [] ⟨[1],[],YB,YA⟩ b7 [false] (tt k0 nn))))
theorem u2d (l0:List R7) (n:Nat) (vs:zx) (h:Zt (Ls l0) n (VQ l0)=.ret vs):Kw prog (Zy prog 59) (Zm prog 59 [(dt l0)] true []) vs:=by have:=Zb (w9i l0) n _ (w1j l0);rwa [h] at this
inductive GK where
def NB (bE:Int) (bD:Int) (bC:Int) (bS:Int) (cK:Int) (cL:Int) (cT:Int):GK->CH
 :=nofun
def x9j (bE:Int) (bD:Int) (bC:Int) (bS:Int) (cK:Int) (cL:Int) (cT:Int):GK->Xy GK
 :=nofun
def V8 (bE:Int) (bD:Int) (bC:Int) (bS:Int) (cK:Int) (cL:Int) (cT:Int):Xy GK:=(bif (decide (bE>5)) then (.ret [(.bool false)]) else (bif (!(O4 bD bC bS (-1000000))) then (.ret [(.bool false)]) else (bif (!(O4 cK cL cT (-1000000))) then (.ret [(.bool false)]) else (bif ((wrap .i64 (Int.tdiv (wrap .i64 bE) 2)) == 0) then (bif ((DG bD bC bS (wrap .i64 (Int.tdiv (wrap .i64 bE) 2))) == (DG cK cL cT (wrap .i64 (Int.tdiv (wrap .i64 bE) 2)))) then (bif (decide ((DG bD bC bS 1)<(DG cK cL cT 1))) then (.ret [(.bool (decide ((DG bD bC bS 2)<(DG cK cL cT 2))))]) else (.ret [(.bool false)])) else (.ret [(.bool false)])) else (bif ((wrap .i64 (Int.tdiv (wrap .i64 bE) 2)) == 1) then (bif ((DG bD bC bS (wrap .i64 (Int.tdiv (wrap .i64 bE) 2))) == (DG cK cL cT (wrap .i64 (Int.tdiv (wrap .i64 bE) 2)))) then (bif (decide ((DG bD bC bS 0)<(DG cK cL cT 0))) then (.ret [(.bool (decide ((DG bD bC bS 2)<(DG cK cL cT 2))))]) else (.ret [(.bool false)])) else (.ret [(.bool false)])) else (bif ((DG bD bC bS (wrap .i64 (Int.tdiv (wrap .i64 bE) 2))) == (DG cK cL cT (wrap .i64 (Int.tdiv (wrap .i64 bE) 2)))) then (bif (decide ((DG bD bC bS 0)<(DG cK cL cT 0))) then (.ret [(.bool (decide ((DG bD bC bS 1)<(DG cK cL cT 1))))]) else (.ret [(.bool false)])) else (.ret [(.bool false)])))))))
theorem w7u (bE:Int) (bD:Int) (bC:Int) (bS:Int) (cK:Int) (cL:Int) (cT:Int): ∀s,Wu prog (Zy prog 58) (NB bE bD bC bS cK cL cT) (NB bE bD bC bS cK cL cT s) (x9j bE bD bC bS cK cL cT s)
 :=nofun
theorem x9k (bE:Int) (bD:Int) (bC:Int) (bS:Int) (cK:Int) (cL:Int) (cT:Int):Wu prog (Zy prog 58) (NB bE bD bC bS cK cL cT) (Zm prog 58 [(.agg [(.int .u8 bE),(.int .i64 bD),(.int .i64 bC),(.int .i64 bS),(.int .i64 cK),(.int .i64 cL),(.int .i64 cT)])] true []) (V8 bE bD bC bS cK cL cT):=(lb (fun k0=>(lr 63 58 (pn 37) 1 9 [(2,(.bool false))] (sl Ko 29 [] (b8 [2]) b7 (CC 9 []) (tt k0 nn)))) (fun k0=>(lb (fun k1=>(lr 63 58 (pn 37) 1 9 [(2,(.bool false))] (sl Ko 29 [] (b8 [2]) b7 (bl 9 496) (tt k1 (tt k0 nn))))) (fun k1=>let e:=tt k1 (tt k0 nn);(lb (fun k2=>(lr 63 58 (pn 37) 1 9 [(2,(.bool false))] (sl Ko 29 [] (b8 [2]) b7 (bl 9 256) (tt k2 e)))) (fun k2=>let a:=tt k2 e;let b:=decide ((DG bD bC bS 2)<(DG cK cL cT 2));(lb (fun k3=>(lb (fun k4=>let f:=tt k4 (tt k3 a);(lb (fun k5=>(lr 63 3 (pn 191) 1 9 [(2,(.bool b))] (sl Ko 66 [] (b8 [2]) b7 (bl 28 268434944) (tt k5 f)))) (fun k5=>(lr 63 3 (pn 191) 1 9 [(2,(.bool false))] (sl Ko 66 [] (b8 [2]) b7 (bl 28 523776) (tt k5 f)))))) (fun k4=>(lr 63 3 (pn 191) 1 9 [(2,(.bool false))] (sl Ko 66 [] (b8 [2]) b7 (bl 28 512) (tt k4 (tt k3 a))))))) (fun k3=>(lb (fun k4=>let c:=tt k4 (tt k3 a);(lb (fun k5=>(lb (fun k6=>(lr 63 3 (pn 191) 1 9 [(2,(.bool b))] (sl Ko 74 [] (b8 [2]) b7 (bl 29 536869888) (tt k6 (tt k5 c))))) (fun k6=>(lr 63 3 (pn 191) 1 9 [(2,(.bool false))] (sl Ko 74 [] (b8 [2]) b7 (bl 29 1047552) (tt k6 (tt k5 c))))))) (fun k5=>(lr 63 3 (pn 191) 1 9 [(2,(.bool false))] (sl Ko 74 [] (b8 [2]) b7 (bl 29 1024) (tt k5 c)))))) (fun k4=>let d:=tt k4 (tt k3 a);(lb (fun k5=>(lb (fun k6=>(lr 63 3 (pn 191) 1 9 [(2,(.bool (decide ((DG bD bC bS 1)<(DG cK cL cT 1)))))] (sl Ko 75 [] (b8 [2]) b7 (bl 29 536868864) (tt k6 (tt k5 d))))) (fun k6=>(lr 63 3 (pn 191) 1 9 [(2,(.bool false))] (sl Ko 75 [] (b8 [2]) b7 (bl 29 1046528) (tt k6 (tt k5 d))))))) (fun k5=>(lr 63 3 (pn 191) 1 9 [(2,(.bool false))] (sl Ko 75 [] (b8 [2]) b7 (bl 29 0) (tt k5 d)))))))))))))))
theorem v9i (bE:Int) (bD:Int) (bC:Int) (bS:Int) (cK:Int) (cL:Int) (cT:Int) (n:Nat) (vs:zx) (h:Zt (x9j bE bD bC bS cK cL cT) n (V8 bE bD bC bS cK cL cT)=.ret vs):Kw prog (Zy prog 58) (Zm prog 58 [(.agg [(.int .u8 bE),(.int .i64 bD),(.int .i64 bC),(.int .i64 bS),(.int .i64 cK),(.int .i64 cL),(.int .i64 cT)])] true []) vs:=by have:=Zb (w7u bE bD bC bS cK cL cT) n _ (x9k bE bD bC bS cK cL cT);rwa [h] at this
def GH (r:R7):Bool:=decide (r.a<=5)&&(Eb r.b r.c r.d&&(Eb r.e r.f r.g&&
 (bif decide (r.a<2) then (r.b == r.e)&&(decide (r.c<r.f)&&decide (r.d<r.g)) else bif decide (r.a<4) then (r.c == r.f)&&(decide (r.b<r.e)&&decide (r.d<r.g)) else (r.d == r.g)&&(decide (r.b<r.e)&&decide (r.c<r.f)))))
def FM (L:List R7):Int:=bif decide (3000<L.length) then 4 else bif L.all GH then 0 else 8
def Po (L:List R7):Bool:=L.all fun r=>decide (0<=r.a)&&decide (r.a<256)
theorem v6b (a b:Int):decide (a>=b)= !decide (a<b):=by
 by_cases h:a<b
 .rw [Aa h];exact Ah (by omega)
 .rw [Ah h];exact Aa (by omega)
theorem u8x {a:Int} (h0:0<=a) (h5:a<=5):wrap IntKind.u8 (Int.tdiv a 2)=(if a<2 then 0 else if a<4 then 1 else 2):=by
 have:a=0\/a=1\/a=2\/a=3\/a=4\/a=5:=by omega
 rcases this with rfl | rfl | rfl | rfl | rfl | rfl <;> rfl
theorem u7p (L:List R7) (hl:L.length<=3000) (ho:Po L=true): ∀(k i:Nat),i+k=L.length-> ∃N,Zt (Ls L) N (.to (.h0 (i:Int)))=.ret [.int .i64 (bif (L.drop i).all GH then 0 else 8)]
 | 0,i,h=>by refine ⟨1,?_⟩;rw [Zx,Av (by omega)];simp (disch:=omega) only [Ls,Yo,Ab];rfl
 | k +1,i,h=>by
  have hi:i<L.length:=by omega
  obtain ⟨N,hN⟩:=u7p L hl ho k (i+1) (by omega);have hb:0<=(rd L i).a /\(rd L i).a <256:=by
   have:=Ax.1 ho (rd L i) (by rw [Wv hi];exact AL hi)
   simpa using this
  refine ⟨N+1,?_⟩;rw [Zx,Yt hi,BJ];have e:Ls L (.h0 (i:Int))=bif GH (rd L i) then .to (.h0 ((i+1:Nat):Int)) else .ret [.int .i64 8]:=by
   have hw:wrap .i64 ((i:Int)+1)=((i+1:Nat):Int):=Zq (by omega);simp (disch:=omega) only [Ls,Ym,Yx,hw,Zj,Ar,Af];unfold GH;by_cases h5:(rd L i).a <=5
   .rw [Xb (by omega),Wj h5,Ab,u8x hb.1 h5];cases Eb (rd L i).b (rd L i).c (rd L i).d <;> cases Eb (rd L i).e (rd L i).f (rd L i).g <;> try rfl
    by_cases h2:(rd L i).a <2
    .rw [AG h2,Ym h2];simp only [v6b,bne];cases ((rd L i).b == (rd L i).e) <;> cases decide ((rd L i).c <(rd L i).f) <;> cases decide ((rd L i).d <(rd L i).g) <;> rfl
    .rw [Az h2,Yo h2];by_cases h4:(rd L i).a <4
     .rw [AG h4,Ym h4];simp only [v6b,bne];cases ((rd L i).c == (rd L i).f) <;> cases decide ((rd L i).b <(rd L i).e) <;> cases decide ((rd L i).d <(rd L i).g) <;> rfl
     .rw [Az h4,Yo h4];simp only [v6b,bne];cases ((rd L i).d == (rd L i).g) <;> cases decide ((rd L i).b <(rd L i).e) <;> cases decide ((rd L i).c <(rd L i).f) <;> rfl
   .rw [Xv (by omega),Ew h5];rfl
  rw [e];rcases Uz (GH (rd L i)) with q | q
  .rw [q,Af,As];exact hN
  .rw [q,Ab,A3];exact Za _ _ _
theorem j2s (L:List R7) (h:Po L=true): ∃N,Zt (Ls L) N (VQ L)=.ret [.int .i64 (FM L)]:=by
 unfold VQ FM;by_cases g:3000<L.length
 .refine ⟨0,?_⟩;rw [Xv (by omega),Aa g];rfl
 .obtain ⟨N,hN⟩:=u7p L (by omega) h L.length 0 (Ak _);refine ⟨N,?_⟩;rw [Xb (by omega),Ah g];exact hN
def Oz :zx->Option (B5×Bool)
 | [a0]=>match C5 R7 a0 with
  | some (L0,g0,n0)=>some (.int .i64 (FM L0),CV R7 n0 g0&&(Po L0))
  | _=>none
 | _=>none
theorem j4z {S:B7} (hS:Zv prog S):Zv prog (S.with Tq Oz):=by
 refine CU hS (by kernel_rfl) fun args v h=> ?_;unfold Oz at h;split at h
 .rename_i a0;split at h
  .rename_i L0 g0 n0 e0;simp only [Ae,Ac,Ad] at h;obtain ⟨rfl,ho0,hw⟩:=h;obtain ⟨N,hN⟩:=j2s L0 hw;exact ⟨_,_,(.cons (Xd e0 ho0) .nil),rfl,u2d L0 N _ hN,3,rfl⟩
  .cases h
 .cases h
def fn3 (x y z:Int):Prop:=(-1000000<=x/\x<=1000000)/\(-1000000<=y/\y<=1000000)/\(-1000000<=z/\z<=1000000)
theorem u3k (x y z:Int):Eb x y z=true↔fn3 x y z:=by unfold Eb fn3;rw [Ad,An,An,Lp,Lp,Lo,Lo];omega
theorem v6m (x y z:Int):O4 x y z (-1000000)=Eb x y z:=by rw [AK,u3k];unfold O4 fn3;simp only [Ad,An];omega
def GJ (a b c d e f g:Int):Bool:=GH ⟨a,b,c,d,e,f,g⟩
def UT (a b c d e f g:Int):Bool:=decide (0<=a)&&decide (a<256)
theorem u9w (a b c d e f g:Int) (h:UT a b c d e f g=true): ∃N,Zt (x9j a b c d e f g) N (V8 a b c d e f g)=.ret [.bool (GJ a b c d e f g)]:=⟨0,by
 have h0:0<=a:=Aw (BM.1 h).1;unfold V8 GJ GH;rw [v6m,v6m];by_cases h5:a<=5
 .rw [Aa h5,Ah (by omega: ¬a>5),Ab,As];cases Eb b c d
  .rfl
  cases Eb e f g
  .rfl
  have:a=0\/a=1\/a=2\/a=3\/a=4\/a=5:=by omega
  have two: ∀p q r:Bool,(bif p then (bif q then (Xy.ret [B5.bool r]:Xy GK) else .ret [.bool false]) else .ret [.bool false])=.ret [.bool (p&&(q&&r))]:=fun p q r=>by cases p <;> cases q <;> rfl
  rcases this with rfl | rfl | rfl | rfl | rfl | rfl <;> exact two _ _ _
 .rw [Aa (by omega:a>5),Ah h5];rfl⟩
def Om :zx->Option (B5×Bool)
 | [.agg [.int .u8 a,.int .i64 b,.int .i64 c,.int .i64 d,.int .i64 e,.int .i64 f,.int .i64 g]]=>some (.bool (GJ a b c d e f g),UT a b c d e f g)
 | _=>none
theorem j4f {S:B7} (hS:Zv prog S):Zv prog (S.with u4r Om):=by
 refine CU hS (by kernel_rfl) fun args v h=> ?_;unfold Om at h;split at h
 .rename_i a b c d e f g;simp only [Ae,Ac] at h;obtain ⟨rfl,hw⟩:=h;obtain ⟨N,hN⟩:=u9w a b c d e f g hw;exact ⟨_,_,(.cons (.refl _) .nil),rfl,v9i a b c d e f g N _ hN,3,rfl⟩
 .cases h
def S2 :B7:=(S1.with Tq Oz).with u4r Om
theorem Q5 :Zv prog S2:=j4f (j4z Ko)
inductive Hv where
 | h0 (v3:Int)
def N1 (l0:List R7):Hv->CH
 | .h0 v3=>⟨⟨19,0,true⟩,none,(Zf prog 21 (pn 75) 0),none,(Zy prog 9),⟨Yh [(0,(dt l0)),(3,(ii v3))],Wd [] 0,0,[],true⟩,[],.leaf⟩
def K9 :List (Option zw):=[some [0,3]]
def Kl :List (Option zw):=[]
def Lv (l0:List R7):Hv->Xy Hv
 | .h0 v3=>let h:=rd l0 v3.toNat;(bif (decide (v3<(l0.length:Int))) then (bif ((decide (0<=v3/\v3<(l0.length:Int)))&&true) then (bif (UT h.a h.b h.c h.d h.e h.f h.g) then (bif (!(GJ h.a h.b h.c h.d h.e h.f h.g)) then (.ret [(.int .i64 8)]) else (.to (.h0 (wrap .i64 (v3+1))))) else .stuck) else .stuck) else (.ret [(.int .i64 0)]))
def VV (l0:List R7):Xy Hv:=(bif (decide ((l0.length:Int)>3000)) then (.ret [(.int .i64 4)]) else (.to (.h0 0)))
theorem w8y (l0:List R7): ∀s,Wu prog (Zy prog 21) (N1 l0) (N1 l0 s) (Lv l0 s)
 | .h0 v3=>(lb (fun k0=>(lo fun aB=>(lo fun aL=>let a:=ww aL (ww aB (tt k0 nn));(lb (fun k1=>(lr 19 21 (pn 4683) 1 9 [(2,(ii 8))] (sl Q5 26 [] (b8 [2]) b7 (bl 2 3) (tt k1 a)))) (fun k1=>(sl Q5 30 [] ⟨[],[],K9,Kl⟩ b7 (bl 2 1) (tt k1 a))))))) (fun k0=>(lr 19 3 (pn 191) 1 9 [(2,(ii 0))] (sl Q5 14 [] (b8 [2]) b7 [false] (tt k0 nn)))))
theorem w0v (l0:List R7):Wu prog (Zy prog 21) (N1 l0) (Zm prog 21 [(dt l0)] true []) (VV l0):=(lb (fun k0=>(lr 19 21 (pn 37) 1 9 [(2,(ii 4))] (sl Q5 16 [] (b8 [2]) b7 [true] (tt k0 nn)))) (fun k0=>(sl Q5 20 [] ⟨[],[],K9,Kl⟩ b7 [false] (tt k0 nn))))
theorem u0y (l0:List R7) (n:Nat) (vs:zx) (h:Zt (Lv l0) n (VV l0)=.ret vs):Kw prog (Zy prog 21) (Zm prog 21 [(dt l0)] true []) vs:=by have:=Zb (w8y l0) n _ (w0v l0);rwa [h] at this
def N0 (L:List R7):Int:=FM L
def x6c (L:List R7):Bool:=Po L
theorem u6s {L:List R7} (hl:L.length<=3000) (hw:Po L=true): ∀(k i:Nat),i+k=L.length-> ∃N,Zt (Lv L) N (.to (.h0 (i:Int)))=.ret [.int .i64 (bif (L.drop i).all GH then 0 else 8)]
 | 0,i,h=>by refine ⟨1,?_⟩;rw [Zx,Av (by omega)];simp (disch:=omega) only [Lv,Yo,Ab,Za,List.all_nil,Af]
 | k+1,i,h=>by
  have hi:i<L.length:=by omega
  obtain ⟨N,hN⟩:=u6s hl hw k (i+1) (by omega);refine ⟨N+1,?_⟩;have ho:=Ax.1 hw (rd L i) (by rw [Wv hi];exact AL hi);rw [Zx,Yt hi,BJ];have e:Lv L (.h0 (i:Int))=bif !(GH (rd L i)) then .ret [.int .i64 8] else .to (.h0 ((i+1:Nat):Int)):=by simp (disch:=omega) only [Lv,Ym,Yx,Zq,Zk,Zj,Ar,Af,show UT (rd L i).a (rd L i).b (rd L i).c (rd L i).d (rd L i).e (rd L i).f (rd L i).g =true from ho,show GJ (rd L i).a (rd L i).b (rd L i).c (rd L i).d (rd L i).e (rd L i).f (rd L i).g =GH (rd L i) from rfl]
  rw [e];cases GH (rd L i) with
  | true=>rw [Ay,Ab,hN,As]
  | false=>rw [AC,Af,Za,A3,Ab]
theorem j2a (L:List R7) (h:x6c L=true): ∃N,Zt (Lv L) N (VV L)=.ret [.int .i64 (N0 L)]:=by
 unfold VV N0 FM;by_cases g:3000<L.length
 .refine ⟨0,?_⟩;rw [Aa g,Aa (show (L.length:Int)>3000 by omega),Af,Af,Za]
 .rw [Ah g,Ah (show ¬(L.length:Int)>3000 by omega),Ab,Ab];exact u6s (by omega) h L.length 0 (Ak _)
def Oy :zx->Option (B5×Bool)
 | [a0]=>match C5 R7 a0 with
  | some (L0,g0,n0)=>some (.int .i64 (N0 L0),CV R7 n0 g0&&(x6c L0))
  | _=>none
 | _=>none
theorem j4v {S:B7} (hS:Zv prog S):Zv prog (S.with TP Oy):=by
 refine CU hS (by kernel_rfl) fun args v h=> ?_;unfold Oy at h;split at h
 .rename_i a0;split at h
  .rename_i L0 g0 n0 e0;simp only [Ae,Ac,Ad] at h;obtain ⟨rfl,ho0,hw⟩:=h;obtain ⟨N,hN⟩:=j2a L0 hw;exact ⟨_,_,(.cons (Xd e0 ho0) .nil),rfl,u0y L0 N _ hN,3,rfl⟩
  .cases h
 .cases h
def S3 :B7:=S2.with TP Oy
theorem Dp :Zv prog S3:=j4v Q5
theorem Fp {a:Nat} (h:a<=1099511627776):decide (a<=Vw)=true:=Aa h
theorem HB {z n m:Nat} (h:(n+1+1)*(m+1)<=1099511627776):(Nat.beq z z&&((decide (0+n=n))&&decide ((n+1+1)*(m+1)<=Vw)))=true:=by rw [Ad,Ad];exact ⟨Bu z,Aa (Ak n),Fp h⟩
def H4 :zq->zy
 | []=>[]
 | n::r=>32::(itoa n++H4 r)
theorem Qb {n:Int} (h: -1000000<=n/\n<=1000000):(itoa n).length <=21:=itoa_length_le n (by omega) (by omega)
theorem G2 {n:Int} (h: -1000000<=n/\n<=1000000):Vc n=true/\ ∃d,Uh n=d/\itoa n=d/\d.length<=21:=⟨Aa (by omega),_,rfl,rfl,Qb h⟩
theorem XL {n:Int} (h: -1000000<=n/\n<=1000000):Yd n=true/\ ∃d,Wg n=d/\itoa n=d/\d.length<=21:=⟨Aa (by omega),_,rfl,rfl,Qb h⟩
theorem j6f (s:zy):(CJ s).length =s.length:=rfl
inductive Hy where
 | h0 (v4:Int) (v5:Int) (v6:Int)
def OE (x0:zy):Hy->CH
 | .h0 v4 v5 v6=>⟨⟨61,0,true⟩,none,(Zf prog 125 (pn 151) 0),none,(Zy prog 10),⟨Yh [(0,(.str x0)),(4,(ii v4)),(5,(ii v5)),(6,(ii v6))],Wd [] 0,0,[],true⟩,[],.leaf⟩
def YE :List (Option zw):=[some [0,4,5,6]]
def YD :List (Option zw):=[]
def Ib (x0:zy):Hy->Xy Hy
 | .h0 v4 v5 v6=>let a:=CW x0 v6.toNat;(bif (decide (v6<(x0.length:Int))) then (bif (decide (0<=v6/\v6<(x0.length:Int))) then (bif (decide (a<48)) then (.ret [(.int .i64 0),(.bool false)]) else (bif (decide (a>57)) then (.ret [(.int .i64 0),(.bool false)]) else (bif (decide (v6>(wrap .i64 (v4+9)))) then (.ret [(.int .i64 0),(.bool false)]) else (.to (.h0 v4 (wrap .i64 ((wrap .i64 (10*v5))+(wrap .i64 (wrap IntKind.u8 (a - 48))))) (wrap .i64 (v6+1))))))) else .stuck) else (bif (v4 == 1) then (bif (decide ((x0.length:Int)>v4)) then (bif (Vc (wrap .i64 (0 - v5))) then (.ret [(.int .i64 (wrap .i64 (0 - v5))),(.bool ((Uh (wrap .i64 (0 - v5))) == x0))]) else .stuck) else (.ret [(.int .i64 (wrap .i64 (0 - v5))),(.bool false)])) else (bif (decide ((x0.length:Int)>v4)) then (bif (Vc v5) then (.ret [(.int .i64 v5),(.bool ((Uh v5) == x0))]) else .stuck) else (.ret [(.int .i64 v5),(.bool false)]))))
def Ro (x0:zy):Xy Hy:=(bif (decide ((x0.length:Int)>0)) then (bif (decide ((0:Int)<=0/\0<(x0.length:Int))) then (bif ((CW x0 0) == 45) then (.to (.h0 1 0 1)) else (.to (.h0 0 0 0))) else .stuck) else (.to (.h0 0 0 0)))
theorem w9d (x0:zy): ∀s,Wu prog (Zy prog 125) (OE x0) (OE x0 s) (Ib x0 s)
 | .h0 v4 v5 v6=>(lb (fun k0=>(lo fun aB=>let c:=ww aB (tt k0 nn);(lb (fun k1=>(lr 61 125 (pn 18583) 1 10 [(2,(ii 0)),(3,(.bool false))] (sl Dp 38 [] (b8 [2,3]) b7 (CC 10 []) (tt k1 c)))) (fun k1=>let a:=ww aB (tt k1 c);(lb (fun k2=>(lr 61 125 (pn 18583) 1 10 [(2,(ii 0)),(3,(.bool false))] (sl Dp 38 [] (b8 [2,3]) b7 (bl 10 993) (tt k2 a)))) (fun k2=>(lb (fun k3=>(lr 61 125 (pn 18583) 1 10 [(2,(ii 0)),(3,(.bool false))] (sl Dp 38 [] (b8 [2,3]) b7 (bl 10 513) (tt k3 (tt k2 a))))) (fun k3=>(sl Dp 52 [] ⟨[],[],YE,YD⟩ b7 (bl 10 1) (ww aB (tt k3 (tt k2 a)))))))))))) (fun k0=>(lb (fun k1=>let b:=wr (0 - v5);let d:=tt k1 (tt k0 nn);(lb (fun k2=>(lo fun o0=>(lr 61 3 (pn 191) 1 10 [(2,(ii b)),(3,(.bool ((Uh b) == x0)))] (sl Dp 38 [] (b8 [2,3]) b7 (bl 6 62) (ww o0 (tt k2 d)))))) (fun k2=>(lr 61 3 (pn 191) 1 10 [(2,(ii b)),(3,(.bool false))] (sl Dp 38 [] (b8 [2,3]) b7 (bl 6 2) (tt k2 d)))))) (fun k1=>let e:=tt k1 (tt k0 nn);(lb (fun k2=>(lo fun o0=>(lr 61 3 (pn 191) 1 10 [(2,(ii v5)),(3,(.bool ((Uh v5) == x0)))] (sl Dp 34 [] (b8 [2,3]) b7 (bl 6 60) (ww o0 (tt k2 e)))))) (fun k2=>(lr 61 3 (pn 191) 1 10 [(2,(ii v5)),(3,(.bool false))] (sl Dp 34 [] (b8 [2,3]) b7 (bl 6 0) (tt k2 e)))))))))
theorem w1f (x0:zy):Wu prog (Zy prog 125) (OE x0) (Zm prog 125 [(.str x0)] true []) (Ro x0):=(lb (fun k0=>(lo fun aB=>let a:=ww aB (tt k0 nn);(lb (fun k1=>(sl Dp 34 [] ⟨[],[],YE,YD⟩ b7 (CC 4 []) (tt k1 a))) (fun k1=>(sl Dp 32 [] ⟨[],[],YE,YD⟩ b7 (CC 3 [false]) (tt k1 a)))))) (fun k0=>(sl Dp 32 [] ⟨[],[],YE,YD⟩ b7 (bl 4 0) (tt k0 nn))))
theorem u1r (x0:zy) (n:Nat) (vs:zx) (h:Zt (Ib x0) n (Ro x0)=.ret vs):Kw prog (Zy prog 125) (Zm prog 125 [(.str x0)] true []) vs:=by have:=Zb (w9d x0) n _ (w1f x0);rwa [h] at this
inductive Hr where
 | h0 (v5:List zy) (v6:Int) (v7:Int)
def NY (x0:zy) (x1:Int):Hr->CH
 | .h0 v5 v6 v7=>⟨⟨35,0,true⟩,none,(Zf prog 49 (pn 151) 0),none,(Zy prog 3),⟨Yh [(0,(.str x0)),(1,(.int .u8 x1)),(5,(.sla 0 1 0 v5.length (.un 1))),(6,(ii v6)),(7,(ii v7))],Wd [(rz v5 9 1)] 0,1,[],true⟩,[],.leaf⟩
def YP :List (Option zw):=[some [0,1,5,6,7]]
def YO :List (Option zw):=[]
def Gf (x0:zy) (x1:Int):Hr->Xy Hr
 | .h0 v5 v6 v7=>(bif (decide (v7<=(x0.length:Int))) then (bif (v7 == (x0.length:Int)) then (bif (decide (v6.toNat<=v7.toNat)) then (bif (decide (v7.toNat<=x0.length)) then (bif (decide (0<=v6)) then (bif (decide (0<=v7)) then (bif (Nat.beq 1 1&&((decide (0+v5.length=v5.length))&&decide ((v5.length+1+1)*(16+1)<=Vw))) then (.to (.h0 (v5++[((x0.drop v6.toNat).take (v7.toNat - v6.toNat))]) (wrap .i64 (v7+1)) (wrap .i64 (v7+1)))) else .stuck) else .stuck) else .stuck) else .stuck) else .stuck) else (bif (decide (0<=v7/\v7<(x0.length:Int))) then (bif ((CW x0 v7.toNat) == x1) then (bif (decide (v6.toNat<=v7.toNat)) then (bif (decide (v7.toNat<=x0.length)) then (bif (decide (0<=v6)) then (bif (decide (0<=v7)) then (bif (Nat.beq 1 1&&((decide (0+v5.length=v5.length))&&decide ((v5.length+1+1)*(16+1)<=Vw))) then (.to (.h0 (v5++[((x0.drop v6.toNat).take (v7.toNat - v6.toNat))]) (wrap .i64 (v7+1)) (wrap .i64 (v7+1)))) else .stuck) else .stuck) else .stuck) else .stuck) else .stuck) else (.to (.h0 v5 v6 (wrap .i64 (v7+1))))) else .stuck)) else (.ret [(dt v5)]))
def x2x (x0:zy) (x1:Int):Xy Hr:=(.to (.h0 ([]:List zy) 0 0))
theorem w8w (x0:zy) (x1:Int): ∀s,Wu prog (Zy prog 49) (NY x0 x1) (NY x0 x1 s) (Gf x0 x1 s)
 | .h0 v5 v6 v7=>(lb (fun k0=>let j:=x0.drop (tn v6);let l:=j.take ((tn v7) - (tn v6));let f:=v5++[l];let a:=f;let e:=Zg (Zz v5) 0 v5.length 1 [(.str l)];let g:=v5.length+1;let h:=decide ((tn v7)<=x0.length);let i:=decide ((tn v6)<=(tn v7));(lb (fun k1=>(lo fun o0=>(lo fun o1=>(lo fun o2=>(lo fun o3=>(lo fun o4=>let b:=xL g f.length;(sl Dp 50 [] ⟨[2],[],YP,YO⟩ ⟨[(5,.len a.length)],[.rowed 1 a.length (Zz a)],[]⟩ (CC 7 []) (pp b (pp b (pp (xS g e (Zz f)) (pp (pp (xF e) nn) (ww o4 (pp (pp (xw o3) (pp (xw o2) (pp (xG h) (xG i)))) (tt k1 (tt k0 nn))))))))))))))) (fun k1=>(lo fun bO=>let d:=ww bO (tt k1 (tt k0 nn));(lb (fun k2=>(lo fun o0=>(lo fun o1=>(lo fun o2=>(lo fun o3=>(lo fun o4=>let c:=xL g f.length;(sl Dp 50 [] ⟨[2],[],YP,YO⟩ ⟨[(5,.len a.length)],[.rowed 1 a.length (Zz a)],[]⟩ (bl 7 65) (pp c (pp c (pp (xS g e (Zz f)) (pp (pp (xF e) nn) (ww o4 (pp (pp (xw o3) (pp (xw o2) (pp (xG h) (xG i)))) (tt k2 d)))))))))))))) (fun k2=>(sl Dp 35 [] ⟨[0],[],YP,YO⟩ b7 (bl 7 1) (pp (fl v5 nn) (tt k2 d))))))))) (fun k0=>(lr 35 3 (pn 191) 1 3 [(4,(dt v5))] (sl Dp 15 [] ⟨[],[0],[some [4]],[]⟩ ⟨[(4,.frz v5.length v5.length (Zz v5) (Zz v5))],[],[]⟩ [false] (pp (xZ (Cz 1 1 0 v5.length v5.length (Zz v5)) v5.length (Zz v5)) (pp (xL v5.length v5.length) (pp (xS v5.length (Zz v5) (Zz v5)) (pp (fl v5 nn) (tt k0 nn)))))))))
theorem w0q (x0:zy) (x1:Int):Wu prog (Zy prog 49) (NY x0 x1) (Zm prog 49 [(.str x0),(.int .u8 x1)] true []) (x2x x0 x1):=(sl Dp 19 [(9,1,Zz ([]:List zy))] ⟨[0],[],YP,YO⟩ ⟨[(5,.grow 0 1)],[],[]⟩ [] (pp (fl ([]:List zy) nn) nn))
theorem u0q (x0:zy) (x1:Int) (n:Nat) (vs:zx) (h:Zt (Gf x0 x1) n (x2x x0 x1)=.ret vs):Kw prog (Zy prog 49) (Zm prog 49 [(.str x0),(.int .u8 x1)] true []) vs:=by have:=Zb (w8w x0 x1) n _ (w0q x0 x1);rwa [h] at this
def CY (s:zy):Option Int:=match atoiAll s with
 | .ok v=>bif decide (itoa v=s/\ -9999999<=v/\v<=9999999) then some v else none
 | _=>none
def Dz :zy->Nat->Nat->Option Nat
 | [],_,n=>some n
 | c::r,j,n=>bif decide (c.toNat<48)||(decide (57<c.toNat)||decide (9<j)) then none else Dz r (j+1) (10*n+(c.toNat - 48))
def GG (s:zy):Bool:=match s with
 | c::_=>decide (c.toNat=45)
 | []=>false
def DF (s:zy):Nat:=bif GG s then 1 else 0
def Ku (s:zy):Int:=match Dz (s.drop (DF s)) 0 0 with
 | some n=>bif GG s then -(n:Int) else n
 | none=>0
def FY (s:zy):Bool:=match Dz (s.drop (DF s)) 0 0 with
 | some n=>decide (DF s<s.length)&&decide (itoa (bif GG s then -(n:Int) else n)=s)
 | none=>false
def Qs (s:zy):Bool:=bif decide (8<s.length) then false else FY s&&(decide (-9999999<=Ku s)&&decide (Ku s<=9999999))
def Kp (s:zy):Int:=bif decide (8<s.length) then 0 else Ku s
theorem WR (c:UInt8) (r:zy) (j n:Nat):Dz (c::r) j n=bif decide (c.toNat<48)||(decide (57<c.toNat)||decide (9<j)) then none else Dz r (j+1) (10*n+(c.toNat - 48)):=rfl
def badQ :NumEnd Nat:=parseUint10 0 [58]
theorem y2n (c:UInt8) (r:zy) (n:Nat):parseUint10 n (c::r)=if 48<=c.toNat/\c.toNat<=57 then
   if 1844674407370955162<=n then .range
   else if 18446744073709551616<=n*10+(c.toNat - 48) then .range
   else parseUint10 (n*10+(c.toNat - 48)) r
  else badQ:=by
 rw [parseUint10];rfl
theorem x6m (n:Nat):parseUint10 n []=.ok n:=by rw [parseUint10]
theorem y7f : ∀(l m:zy) (j n:Nat),Dz (l++m) j n=match Dz l j n with
  | none=>none
  | some v=>Dz m (j+l.length) v
 | [],m,j,n=>rfl
 | c::r,m,j,n=>by
  rw [Bl,WR,WR];cases decide (c.toNat<48)||(decide (57<c.toNat)||decide (9<j)) with
  | true=>rfl
  | false=>rw [Ab,Ab,y7f r m (j+1)];rw [Aq,show j+1+r.length=j+(r.length+1) by omega]
theorem z2n : ∀(l m:zy) (n:Nat),parseUint10 n (l++m)=match parseUint10 n l with
  | .ok v=>parseUint10 v m
  | e=>e
 | [],m,n=>by rw [x6m];rfl
 | c::r,m,n=>by
  rw [Bl,y2n,y2n];split
  .split
   .rfl
   .split
    .rfl
    .exact z2n r m _
  .rfl
theorem YS {u:Nat} (h:u<10):(UInt8.ofNat (48+u)).toNat =48+u:=by rw [UInt8.toNat_ofNat'];omega
theorem Qd : ∀(k u:Nat),u<10 ^ (k+1)->(decDigits u).length <=k+1
 | 0,u,h=>by rw [decDigits,dif_pos (by simpa using h)];exact Aj _
 | k+1,u,h=>by
  by_cases g:u<10
  .rw [decDigits,dif_pos g];simp
  .rw [decDigits,dif_neg g,Ap,AE];have:=Qd k (u / 10) (by rw [B1] at h;omega);omega
theorem y1o (u:Nat):1<=(decDigits u).length :=by
 rw [decDigits];split
 .exact Aj _
 .rw [Ap,AE];omega
theorem w5b {u j n:Nat} (h:u<10) (hj:j<=9):Dz [UInt8.ofNat (48+u)] j n=some (10*n+u):=by rw [WR,YS h,Ah (by omega),Ah (by omega),Ah (show ¬9<j by omega)];show some (10*n+(48+u - 48))=_;rw [show 48+u - 48=u by omega]
theorem x6l {u n:Nat} (h:u<10) (hn:n<1000000000000):parseUint10 n [UInt8.ofNat (48+u)]=.ok (10*n+u):=by rw [y2n,YS h,AG (by omega),Az (by omega),Az (by omega),x6m];rw [show n*10+(48+u - 48)=10*n+u by omega]
theorem x3i : ∀(k u:Nat),u<10 ^ (k+1)->k<=9->Dz (decDigits u) 0 0=some u
 | k,u,h,hk=>by
  by_cases g:u<10
  .rw [decDigits,dif_pos g,w5b g (by omega)];simp
  .match k,h,hk with
   | 0,h,_=>omega
   | k+1,h,hk=>
    have hs:u / 10<10 ^ (k+1):=by rw [B1] at h;omega
    have hl:=Qd k (u / 10) hs;rw [decDigits,dif_neg g,y7f,x3i k (u / 10) hs (by omega)];show Dz _ (0+(decDigits (u / 10)).length) _=_;rw [w5b (by omega) (by omega),show 10*(u / 10)+u %10=u by omega]
theorem Z4 : ∀(k u:Nat),u<10 ^ (k+1)->k<=9->parseUint10 0 (decDigits u)=.ok u
 | k,u,h,hk=>by
  by_cases g:u<10
  .rw [decDigits,dif_pos g,x6l g (by omega)];simp
  .match k,h,hk with
   | 0,h,_=>omega
   | k+1,h,hk=>
    have hs:u / 10<10 ^ (k+1):=by rw [B1] at h;omega
    have hb:(10:Nat) ^ (k+1)<=10 ^ 10:=BN (by decide) (by omega);rw [decDigits,dif_neg g,z2n,Z4 k (u / 10) hs (by omega)];show parseUint10 _ _=_;rw [x6l (by omega) (by omega),show 10*(u / 10)+u %10=u by omega]
theorem x0c : ∀(u:Nat),∃c r,decDigits u=c::r/\48<=c.toNat/\c.toNat<=57:=by
 intro u
 induction u using Nat.strongRecOn with
 | _ u ih=>
  by_cases g:u<10
  .refine ⟨_,[],by rw [decDigits,dif_pos g],?_⟩;rw [YS g];omega
  .obtain ⟨c,r,e,h⟩:=ih (u / 10) (by omega);refine ⟨c,r++[UInt8.ofNat (48+u %10)],?_,h⟩;rw [decDigits,dif_neg g,e];rfl
theorem x7q {n:Int} {s:zy} (hs:itoa n=s) (h0: -9999999<=n) (h1:n<=9999999):
  atoiAll s=.ok n/\s.length<=8/\FY s=true/\Ku s=n:=by
 by_cases hn:n<0
 .have hu : n.natAbs < 10 ^ (6 + 1) := by have:(10:Nat) ^ (6+1)=10000000:=by decide
                                          omega
  have e:s=45::decDigits n.natAbs:=by rw [<-hs];unfold itoa;rw [AG hn]
  have hl:=Qd 6 _ hu;have hp:=y1o n.natAbs;have h45:(45:UInt8).toNat =45:=rfl;have hsg:GG s=true:=by rw [e];rfl
  have hsn:DF s=1:=by unfold DF;rw [hsg];rfl
  have hnl:Dz (s.drop (DF s)) 0 0=some n.natAbs:=by rw [hsn,e];exact x3i 6 _ hu (by decide)
  refine ⟨?_,by rw [e,Aq];omega,?_,?_⟩
  .rw [e];unfold atoiAll;simp only [h45,or_true,if_true];have hm:parseMag (decDigits n.natAbs)=.ok n.natAbs:=by unfold parseMag;rw [Az (by intro hh;rw [hh] at hp;simp at hp),Z4 6 _ hu (by decide)]
   rw [hm];have: ¬9223372036854775808<n.natAbs:=by omega
   simp [this];omega
  .unfold FY;rw [hnl,hsg,hsn];show (decide (1<s.length)&&decide (itoa (-(n.natAbs:Int))=s))=true;rw [Aa (by rw [e,Aq];omega),show (-(n.natAbs:Int))=n by omega,Aa hs];rfl
  .unfold Ku;rw [hnl,hsg];show -(n.natAbs:Int)=n;omega
 .have hu : n.toNat < 10 ^ (6 + 1) := by have:(10:Nat) ^ (6+1)=10000000:=by decide
                                         omega
  have e:s=decDigits n.toNat:=by rw [<-hs];unfold itoa;rw [Az hn]
  have hl:=Qd 6 _ hu;have hp:=y1o n.toNat;obtain ⟨c,r,ec,hc⟩:=x0c n.toNat;have hsg:GG s=false:=by rw [e,ec];exact Ah (by omega)
  have hsn:DF s=0:=by unfold DF;rw [hsg];rfl
  have hnl:Dz (s.drop (DF s)) 0 0=some n.toNat:=by rw [hsn,e];exact x3i 6 _ hu (by decide)
  refine ⟨?_,by rw [e];omega,?_,?_⟩
  .have hm:parseMag (decDigits n.toNat)=.ok n.toNat:=by unfold parseMag;rw [Az (by intro hh;rw [hh] at hp;simp at hp),Z4 6 _ hu (by decide)]
   rw [e];rw [ec] at hm ⊢;unfold atoiAll;have g1: ¬(c.toNat=43\/c.toNat=45):=by omega
   have g2: ¬c.toNat=45:=by omega
   have g3: ¬9223372036854775808<=n.toNat:=by omega
   simp only [Az g1,hm];simp [g2,g3];omega
  .unfold FY;rw [hnl,hsg,hsn];show (decide (0<s.length)&&decide (itoa (n.toNat:Int)=s))=true;rw [Aa (by rw [e];omega),show ((n.toNat:Nat):Int)=n by omega,Aa hs];rfl
  .unfold Ku;rw [hnl,hsg];show (n.toNat:Int)=n;omega
theorem v5a {n:Int} {s:zy} (hs:itoa n=s) (h0: -9999999<=n) (h1:n<=9999999):CY s=some n:=by unfold CY;rw [(x7q hs h0 h1).1];show (bif decide _ then some n else none)=_;rw [Aa ⟨hs,h0,h1⟩];rfl
theorem v4z {s:zy} {n:Int} (h:CY s=some n):itoa n=s/\ -9999999<=n/\n<=9999999:=by
 unfold CY at h;split at h
 .rename_i v _;by_cases g:itoa v=s/\ -9999999<=v/\v<=9999999
  .rw [Aa g] at h;obtain rfl:=Ag h;exact g
  .rw [Ah g] at h;cases h
 .cases h
theorem v5b {s:zy} (h:FY s=true):itoa (Ku s)=s:=by
 unfold FY at h;unfold Ku;cases e:Dz (s.drop (DF s)) 0 0 with
 | none=>rw [e] at h;cases h
 | some n=>rw [e] at h;exact Aw (BM.1 h).2
theorem u0b (s:zy):Qs s=(CY s).isSome /\(Qs s=true->CY s=some (Kp s)):=by
 have key:Qs s=true->CY s=some (Kp s):=fun h=>by
  unfold Qs at h;unfold Kp;by_cases g:8<s.length
  .rw [Aa g] at h;cases h
  .rw [Ah g,Ab] at h ⊢;simp only [Ad,An] at h;exact v5a (v5b h.1) h.2.1 h.2.2
 refine ⟨?_,key⟩;cases hx:CY s with
 | none=>
  cases hr:Qs s with
  | false=>rfl
  | true=>rw [key hr] at hx;cases hx
 | some n=>obtain ⟨h1,h2,h3⟩:=v4z hx;obtain ⟨_,b2,b3,b4⟩:=x7q h1 h2 h3;unfold Qs;rw [Ah (by omega),Ab,b3,b4,Aa h2,Aa h3];rfl
def Ye (b:UInt8):zy->zy->List zy
 | cur,[]=>[cur]
 | cur,x::r=>bif x == b then cur::Ye b [] r else Ye b (cur++[x]) r
theorem UW (b:UInt8): ∀(s cur:zy),Ye b cur s=match Ye b [] s with
  | []=>[]
  | p::l=>(cur++p)::l
 | [],cur=>by simp [Ye]
 | x::r,cur=>by
  unfold Ye;cases x == b with
  | true=>simp
  | false=>
   rw [Ab,Ab,UW b r (cur++[x]),UW b r ([]++[x])];cases Ye b [] r with
   | nil=>rfl
   | cons p l=>simp
theorem G7 (b:UInt8) (s cur:zy):Ye b cur s≠ []:=by
 induction s generalizing cur with
 | nil=>simp [Ye]
 | cons x r ih=>
  unfold Ye;cases x == b with
  | true=>simp
  | false=>exact ih _
theorem y9r {b x:UInt8} (h:x≠b) (k:Nat) (s:zy):splitK [b] 0 k (x::s)=match splitK [b] 0 k s with
  | []=>[]
  | p::l=>(x::p)::l:=by
 have hp:([b]:zy).isPrefixOf (x::s)=false:=by simp [List.isPrefixOf,Ne.symm h]
 have hix:index (x::s) [b]=if index s [b] == -1 then -1 else index s [b]+1:=by rw [index,hp];simp
 have hge:=index_ge s [b];cases k with
 | zero=>rfl
 | succ k=>
  unfold splitK;by_cases hm:index s [b]= -1
  .rw [hix,AG (AR.2 hm),AG (by decide),AG (AR.2 hm)]
  .have h1: ¬(index s [b] == -1)=true:=fun e=>hm (AR.1 e);have h2: ¬(index s [b]+1 == -1)=true:=fun e=>by have:=AR.1 e;omega
   obtain ⟨j,hj⟩: ∃j:Nat,index s [b]=j:=⟨(index s [b]).toNat,by omega⟩
   rw [hix,Az h1,Az h1,Az h2,hj];have e1:((j:Int)+1).toNat =j+1:=by omega
   have e2:(j:Int).toNat =j:=by omega
   rw [e1,e2];simp only [AE,Bn,List.take_succ_cons];rw [show j+1+1=(j+1)+1 from rfl,List.drop_succ_cons]
theorem x5f (b:UInt8): ∀s:zy,split s [b]=Ye b [] s
 | []=>by unfold split;rw [count_one];rfl
 | x::r=>by
  have ih:=x5f b r;unfold split at ih ⊢;by_cases h:x=b
  .subst h;rw [count_cons_eq,Nat.add_comm];have hix:index (x::r) [x]=0:=by rw [index];simp [List.isPrefixOf]
   rw [splitK,hix,Az (by decide)];simp only [Int.toNat_zero,Bn,List.take_zero,AE,Ak,List.drop_succ_cons,AM];rw [ih,Ye];simp
  .rw [count_cons_ne x b r h,y9r h,ih,Ye];have hb:(x == b)=false:=by simpa using h
   rw [hb,Ab,UW b r ([]++[x])];cases Ye b [] r with
   | nil=>rfl
   | cons p l=>rfl
theorem VH (b:UInt8): ∀(s cur:zy),Ye b cur (s++[b])=Ye b cur s++[[]]
 | [],cur=>by simp [Ye]
 | x::r,cur=>by
  rw [Bl,Ye,Ye];cases x == b with
  | true=>rw [Af,Af,VH b r];rfl
  | false=>rw [Ab,Ab,VH b r]
theorem ZN (b:UInt8): ∀(s cur:zy),(Ye b cur s).getLast? =some []->(cur=[]/\s=[])\/ ∃t,s=t++[b]
 | [],cur,h=>by left;simp [Ye] at h;exact ⟨h,rfl⟩
 | x ::r,cur,h=>by
  rw [Ye] at h;by_cases hx:x=b
  .subst hx;right;rw [show (x == x)=true by simp,Af,List.getLast?_cons] at h;have hne:=G7 x r [];have h':(Ye x [] r).getLast? =some []:=by
    cases hc:Ye x [] r with
    | nil=>exact absurd hc hne
    | cons p l=>
     rw [hc] at h;rw [List.getLast?_cons] at h ⊢
     simpa using h
   rcases ZN x r [] h' with ⟨_,rfl⟩ | ⟨t,rfl⟩
   .exact ⟨[],rfl⟩
   .exact ⟨x::t,rfl⟩
  .rw [show (x == b)=false by simpa using hx,Ab] at h;rcases ZN b r _ h with ⟨e,_⟩ | ⟨t,rfl⟩
   .simp at e
   .exact .inr ⟨x::t,rfl⟩
theorem Vt (b:UInt8): ∀(s cur:zy),(Ye b cur s).length <=s.length+1
 | [],cur=>by simp [Ye]
 | x::r,cur=>by
  rw [Ye,Aq];cases x == b with
  | true=>have:=Vt b r [];rw [Af,Aq];omega
  | false=>have:=Vt b r (cur++[x]);rw [Ab];omega
theorem Vn (b:UInt8): ∀(s cur p:zy),p∈Ye b cur s->p.length<=cur.length+s.length
 | [],cur,p,h=>by simp [Ye] at h;subst h;simp
 | x::r,cur,p,h=>by
  rw [Ye] at h;cases hx:x == b with
  | true=>
   rw [hx,Af] at h;rcases AZ.1 h with rfl | h
   .simp
   .have:=Vn b r [] p h;simp at this ⊢;omega
  | false=>rw [hx,Ab] at h;have:=Vn b r _ p h;simp at this ⊢;omega
theorem w3n {s:zy} {i:Nat} (h:i<s.length):CW s i=((s[i].toNat :Nat):Int):=by unfold CW;rw [A9,At h];rfl
theorem JI (c:UInt8):c.toNat<256:=UInt8.toNat_lt c
def GP (s:zy) (f:Nat):Option Nat->zx
 | none=>[.int .i64 0,.bool false]
 | some m=>[.int .i64 (bif Nat.beq f 1 then -(m:Int) else m),.bool (decide (f<s.length)&&decide (itoa (bif Nat.beq f 1 then -(m:Int) else m)=s))]
theorem u7c {s:zy} {f:Nat} (hf:f=0\/f=1) (hs:s.length<=1000000): ∀(k i n:Nat),i+k=s.length->f<=i->i - f<=10->n<10 ^ (i - f)->
  ∃N,Zt (Ib s) N (.to (.h0 (f:Int) (n:Int) (i:Int)))=.ret (GP s f (Dz (s.drop i) (i - f) n))
 | 0,i,n,h,hfi,hj,hn=>by
  refine ⟨1,?_⟩;have hp:(10:Nat) ^ (i - f)<=10 ^ 10:=BN (by decide) hj;have hd: ∀v:Int,(Uh v == s)=decide (itoa v=s):=fun v=>by unfold Uh;rw [AK];simp
  rw [Zx,Av (by omega)];have e:Ib s (.h0 (f:Int) (n:Int) (i:Int))=.ret (GP s f (some n)):=by
   unfold Ib GP;simp only [];rw [Yo (by omega),Ab];have w:wrap .i64 (0 - (n:Int))= -(n:Int):=by rw [Zq (by omega)];omega
   rcases hf with rfl | rfl
   .rw [show (((0:Nat):Int) == 1)=false from rfl,Ab,show Nat.beq 0 1=false from rfl,Ab];by_cases g:0<s.length
    .rw [Xv (by omega),Af,Zu (show Vc (n:Int)=true from Aa (by omega)),hd,Aa g];rfl
    .rw [Xb (by omega),Ab,Ah g];rfl
   .rw [show (((1:Nat):Int) == 1)=true from rfl,Af,show Nat.beq 1 1=true from rfl,Af,w];by_cases g:1<s.length
    .rw [Xv (by omega),Af,Zu (show Vc (-(n:Int))=true from Aa (by omega)),hd,Aa g];rfl
    .rw [Xb (by omega),Ab,Ah g];rfl
  rw [e];rfl
 | k +1,i,n,h,hfi,hj,hn=>by
  have hi:i<s.length:=by omega
  have hp:(10:Nat) ^ (i - f)<=10 ^ 10:=BN (by decide) hj;have hc:=JI s[i];rw [AQ hi,WR];have w1:wrap .i64 ((f:Int)+9)=(f:Int)+9:=Zq (by omega);have w2:wrap .i64 ((i:Int)+1)=((i+1:Nat):Int):=Zq (by omega);have e:Ib s (.h0 (f:Int) (n:Int) (i:Int))=bif decide (s[i].toNat <48)||(decide (57<s[i].toNat)||decide (9<i - f)) then .ret [.int .i64 0,.bool false] else .to (.h0 (f:Int) ((10*n+(s[i].toNat - 48):Nat):Int) ((i+1:Nat):Int)):=by
   unfold Ib;simp only [Zj,w3n hi,w1,w2];rw [Zu (Ym (by omega)),Zu (Yx (by omega))];by_cases g1:s[i].toNat <48
   .rw [Ym (by omega),Aa g1];rfl
   .rw [Yo (by omega),Ah g1,Ab];by_cases g2:57<s[i].toNat
    .rw [Xv (by omega),Aa g2];rfl
    .rw [Xb (by omega),Ah g2,Ab];by_cases g3:9<i - f
     .rw [Xv (by omega),Aa g3];rfl
     .rw [Xb (by omega),Ah g3,Ab,w8 _ (by omega),Zq (n:=((s[i].toNat :Nat):Int) - 48) (by omega),Zq (n:=10*(n:Int)) (by omega),Zq (by omega)];show Xy.to _=Xy.to _
      congr 2
      omega
  by_cases g:(decide (s[i].toNat <48)||(decide (57<s[i].toNat)||decide (9<i - f)))=true
  .refine ⟨1,?_⟩;rw [Zx,e,g,Af,Af,Za];rfl
  .have g':=AY.2 g;have g3:i - f<=9:=by simp only [AT,AS] at g';omega
   have g4:s[i].toNat <=57:=by simp only [AT,AS] at g';omega
   obtain ⟨N,hN⟩:=u7c hf hs k (i+1) (10*n+(s[i].toNat - 48)) (by omega) (by omega) (by omega) (by
    rw [show i+1 - f=(i - f)+1 by omega,B1];omega)
   refine ⟨N+1,?_⟩;rw [Zx,e,g',Ab,Ab,hN,show i+1 - f=i - f+1 by omega]
def WS (s:zy):Bool:=decide (s.length<=1000000)
theorem j2p (s:zy):GP s (DF s) (Dz (s.drop (DF s)) 0 0)=[.int .i64 (Ku s),.bool (FY s)]:=by
 have hb:Nat.beq (DF s) 1=GG s:=by unfold DF;cases GG s <;> rfl
 unfold Ku FY;cases e:Dz (s.drop (DF s)) 0 0 with
 | none=>rfl
 | some m=>unfold GP;simp only [hb]
theorem j2o (s:zy) (h:WS s=true): ∃N,Zt (Ib s) N (Ro s)=.ret [.int .i64 (Ku s),.bool (FY s)]:=by
 have hs:s.length<=1000000:=Aw h;rw [<-j2p];have e:Ro s=.to (.h0 (DF s:Int) ((0:Nat):Int) (DF s:Int)):=by
  unfold Ro
  match s with
  | []=>rfl
  | c::r=>
   rw [Zu (Xv (by rw [Aq];omega)),Zu (Aa ⟨BO _,by rw [Aq];omega⟩)];have hb:(CW (c::r) 0 == 45)=GG (c::r):=by show (((c.toNat:Nat):Int) == 45)=decide (c.toNat=45);rw [AK];simp;omega
   rw [hb];unfold DF;cases GG (c::r) <;> rfl
 rw [e];have hle:DF s<=s.length:=by
  unfold DF
  match s with
  | []=>exact Aj _
  | c::r=>cases GG (c::r) <;> simp
 have h01:DF s=0\/DF s=1:=by unfold DF;cases GG s <;> simp
 obtain ⟨N,hN⟩:=u7c h01 hs (s.length - DF s) (DF s) 0 (by omega) (Aj _) (by omega) (by rw [BR];decide);rw [BR] at hN;exact ⟨N,hN⟩
def IU :zx->Option (B5×Bool)
 | [.str s]=>some (.tup [.int .i64 (Ku s),.bool (FY s)],WS s)
 | _=>none
theorem v6s {S:B7} (hS:Zv prog S):Zv prog (S.with OD IU):=CU hS (by kernel_rfl) fun args v h=>by
 unfold IU at h;split at h
 .rename_i s;simp only [Ae,Ac] at h;obtain ⟨rfl,ho⟩:=h;obtain ⟨N,hN⟩:=j2o s ho;exact ⟨_,_,.cons (.refl _) .nil,rfl,u1r s N _ hN,3,rfl⟩
 .cases h
def Qt (s:zy) (b:Int):List zy:=Ye (UInt8.ofNat b.toNat) [] s
def Jk (s:zy) (b:Int):Bool:=decide (s.length<=1000000)&&decide (0<=b/\b<256)
theorem v4a {s:zy} {b:Nat} (hb:b<256) (hs:s.length<=1000000): ∀(k i fr:Nat) (out:List zy),i+k=s.length->fr<=i->out.length<=i->
  ∃N,Zt (Gf s (b:Int)) N (.to (.h0 out (fr:Int) (i:Int)))=.ret [.dat (out++Ye (UInt8.ofNat b) ((s.drop fr).take (i - fr)) (s.drop i)).length (Zz (out++Ye (UInt8.ofNat b) ((s.drop fr).take (i - fr)) (s.drop i)))]
 | 0,i,fr,out,h,hfi,ho=>by
  refine ⟨2,?_⟩;have w2:wrap .i64 ((i:Int)+1)=((i+1:Nat):Int):=Zq (by omega);have e:Gf s (b:Int) (.h0 out (fr:Int) (i:Int))=.to (.h0 (out++[(s.drop fr).take (i - fr)]) ((i+1:Nat):Int) ((i+1:Nat):Int)):=by unfold Gf;simp only [Zj,w2];rw [Zu (Wj (by omega)),Zu (QJ (by omega)),Zu (Xe hfi),Zu (Xe (by omega)),Zu (Wj (by omega)),Zu (Wj (by omega)),Zu];rw [Ad,Ad];exact ⟨rfl,Aa (by omega),Fp (by omega)⟩
  have e2: ∀o,Gf s (b:Int) (.h0 o ((i+1:Nat):Int) ((i+1:Nat):Int))=.ret [.dat o.length (Zz o)]:=fun o=>by unfold Gf;simp only [];rw [Ew (by omega),Ab]
  rw [Zx,e,Zx,e2,Av (show s.length<=i by omega)];rfl
 | k+1,i,fr,out,h,hfi,ho=>by
  have hi:i<s.length:=by omega
  have hc:=JI s[i];have w2:wrap .i64 ((i:Int)+1)=((i+1:Nat):Int):=Zq (by omega);have hbb:((((s[i].toNat :Nat):Int)) == (b:Int))=(s[i] == UInt8.ofNat b):=by
   rw [AK,AR,AR];constructor
   .intro h;apply UInt8.toNat_inj.1;rw [UInt8.toNat_ofNat'];omega
   .intro h;rw [h,UInt8.toNat_ofNat'];omega
  have e:Gf s (b:Int) (.h0 out (fr:Int) (i:Int))=bif s[i] == UInt8.ofNat b then .to (.h0 (out++[(s.drop fr).take (i - fr)]) ((i+1:Nat):Int) ((i+1:Nat):Int)) else .to (.h0 out (fr:Int) ((i+1:Nat):Int)):=by
   unfold Gf;simp only [Zj,w2,w3n hi,hbb];rw [Zu (Wj (by omega)),HO (by omega),Ab,Zu (Yx (by omega))];have hr:(Nat.beq 1 1&&((decide (0+out.length=out.length))&&decide ((out.length+1+1)*(16+1)<=Vw)))=true:=by rw [Ad,Ad];exact ⟨rfl,Aa (by omega),Fp (by omega)⟩
   rw [Zu (Xe hfi),Zu (Xe (by omega)),Zu (Wj (by omega)),Zu (Wj (by omega)),Zu hr]
  rw [AQ hi,Ye];cases g:s[i] == UInt8.ofNat b with
  | true=>obtain ⟨N,hN⟩:=v4a hb hs k (i+1) (i+1) (out++[(s.drop fr).take (i - fr)]) (by omega) (Aj _) (by rw [Ap,AE];omega);refine ⟨N+1,?_⟩;rw [Zx,e,g,Af,Af,hN,BR,List.take_zero,AI];rfl
  | false=>
   obtain ⟨N,hN⟩:=v4a hb hs k (i+1) fr out (by omega) (by omega) (by omega);refine ⟨N+1,?_⟩;have ht:(s.drop fr).take (i+1 - fr)=(s.drop fr).take (i - fr)++[s[i]]:=by
    rw [show i+1 - fr=(i - fr)+1 by omega,Bp]
    congr 1
    rw [BV,show fr+(i - fr)=i by omega,At hi];rfl
   rw [Zx,e,g,Ab,Ab,hN,ht]
theorem j1u (s:zy) (b:Int) (h:Jk s b=true): ∃N,Zt (Gf s b) N (x2x s b)=.ret [.dat (Qt s b).length (Zz (Qt s b))]:=by
 unfold Jk at h;rw [Ad,An,An] at h;obtain ⟨n,rfl⟩: ∃n:Nat,b=(n:Int):=⟨b.toNat,by omega⟩
 obtain ⟨N,hN⟩:=v4a (b:=n) (by omega) h.1 s.length 0 0 [] (Ak _) (Aj _) (Aj _);exact ⟨N,hN⟩
def IT :zx->Option (B5×Bool)
 | [.str s,.int .u8 b]=>some (.dat (Qt s b).length (Zz (Qt s b)),Jk s b)
 | _=>none
theorem v6r {S:B7} (hS:Zv prog S):Zv prog (S.with NX IT):=CU hS (by kernel_rfl) fun args v h=>by
 unfold IT at h;split at h
 .rename_i s b;simp only [Ae,Ac] at h;obtain ⟨rfl,ho⟩:=h;obtain ⟨N,hN⟩:=j1u s b ho;exact ⟨_,_,.cons (.refl _) (.cons (.refl _) .nil),rfl,u0q s b N _ hN,3,rfl⟩
 .cases h
def S4 :B7:=(S3.with OD IU).with NX IT
theorem SR :Zv prog S4:=v6r (v6s Dp)
inductive Hj where
def NP (x0:zy):Hj->CH
 :=nofun
def x9z (x0:zy):Hj->Xy Hj
 :=nofun
def V2 (x0:zy):Xy Hj:=(bif (decide ((x0.length:Int)>8)) then (.ret [(.int .i64 0),(.bool false)]) else (bif (WS x0) then (bif (FY x0) then (bif (decide ((Ku x0)>=(-9999999))) then (.ret [(.int .i64 (Ku x0)),(.bool (decide ((Ku x0)<=9999999)))]) else (.ret [(.int .i64 (Ku x0)),(.bool false)])) else (.ret [(.int .i64 (Ku x0)),(.bool false)])) else .stuck))
theorem w8j (x0:zy): ∀s,Wu prog (Zy prog 88) (NP x0) (NP x0 s) (x9z x0 s)
 :=nofun
theorem w0a (x0:zy):Wu prog (Zy prog 88) (NP x0) (Zm prog 88 [(.str x0)] true []) (V2 x0):=(lb (fun k0=>(lr 24 88 (pn 37) 1 10 [(2,(ii 0)),(3,(.bool false))] (sl SR 18 [] (b8 [2,3]) b7 [true] (tt k0 nn)))) (fun k0=>(lo fun aB=>let a:=ww aB (tt k0 nn);let b:=ii (Ku x0);(lb (fun k1=>(lb (fun k2=>(lr 24 3 (pn 191) 1 10 [(2,b),(3,(.bool (decide ((Ku x0)<=9999999))))] (sl SR 39 [] (b8 [2,3]) b7 (bl 5 30) (tt k2 (tt k1 a))))) (fun k2=>(lr 24 3 (pn 191) 1 10 [(2,b),(3,(.bool false))] (sl SR 39 [] (b8 [2,3]) b7 (bl 5 6) (tt k2 (tt k1 a))))))) (fun k1=>(lr 24 3 (pn 191) 1 10 [(2,b),(3,(.bool false))] (sl SR 39 [] (b8 [2,3]) b7 (bl 5 0) (tt k1 a))))))))
theorem u0c (x0:zy) (n:Nat) (vs:zx) (h:Zt (x9z x0) n (V2 x0)=.ret vs):Kw prog (Zy prog 88) (Zm prog 88 [(.str x0)] true []) vs:=by have:=Zb (w8j x0) n _ (w0a x0);rwa [h] at this
def Pr (s:zy):Bool:=decide (s.length<=1000000)
theorem j0y (s:zy) (h:Pr s=true): ∃N,Zt (x9z s) N (V2 s)=.ret [.int .i64 (Kp s),.bool (Qs s)]:=⟨0,by
 have ho:WS s=true:=h;unfold V2 Kp Qs;by_cases g:8<s.length
 .rw [Xv (by omega),Aa g];rfl
 .rw [Xb (by omega),Ah g,Ab,Ab,Ab,Zu ho];cases FY s with
  | false=>rfl
  | true=>
   by_cases g1: -9999999<=Ku s
   .rw [Aa g1];rfl
   .rw [Ah g1];rfl⟩
def IS :zx->Option (B5×Bool)
 | [.str s]=>some (.tup [.int .i64 (Kp s),.bool (Qs s)],Pr s)
 | _=>none
theorem v6q {S:B7} (hS:Zv prog S):Zv prog (S.with NO IS):=CU hS (by kernel_rfl) fun args v h=>by
 unfold IS at h;split at h
 .rename_i s;simp only [Ae,Ac] at h;obtain ⟨rfl,ho⟩:=h;obtain ⟨N,hN⟩:=j0y s ho;exact ⟨_,_,.cons (.refl _) .nil,rfl,u0c s N _ hN,3,rfl⟩
 .cases h
def S5 :B7:=S4.with NO IS
theorem SS :Zv prog S5:=v6q SR
inductive Hf where
 | h0 (v6:zq) (v7:Int)
def NJ (l0:List zy) (x1:Int):Hf->CH
 | .h0 v6 v7=>⟨⟨35,0,true⟩,none,(Zf prog 51 (pn 151) 0),none,(Zy prog 17),⟨Yh [(0,(dt l0)),(6,(.sla 0 1 0 v6.length (.un 1))),(7,(ii v7))],Wd [(rz v6 3 1)] 0,1,[],true⟩,[],.leaf⟩
def KV :List (Option zw):=[some [0,6,7]]
def KW :List (Option zw):=[]
def If (l0:List zy) (x1:Int):Hf->Xy Hf
 | .h0 v6 v7=>let a:=rd l0 v7.toNat;(bif (decide (v7<(l0.length:Int))) then (bif ((decide (0<=v7/\v7<(l0.length:Int)))&&true) then (bif (Pr a) then (bif (!(Qs a)) then (.ret [.nils,(.bool false)]) else (bif (Nat.beq 1 1&&((decide (0+v6.length=v6.length))&&decide ((v6.length+1+1)*(8+1)<=Vw))) then (.to (.h0 (v6++[(Kp a)]) (wrap .i64 (v7+1)))) else .stuck)) else .stuck) else .stuck) else (.ret [(dt v6),(.bool true)]))
def V5 (l0:List zy) (x1:Int):Xy Hf:=(bif ((l0.length:Int) != x1) then (.ret [.nils,(.bool false)]) else (.to (.h0 ([]:zq) 0)))
theorem w8d (l0:List zy) (x1:Int): ∀s,Wu prog (Zy prog 51) (NJ l0 x1) (NJ l0 x1 s) (If l0 x1 s)
 | .h0 v6 v7=>(lb (fun k0=>(lo fun aB=>(lo fun aL=>let c:=ww aL (ww aB (tt k0 nn));(lb (fun k1=>(lr 35 51 (pn 38039) 1 17 [(4,.nils),(5,(.bool false))] (sl SS 37 [] (b8 [4,5]) b7 (bl 2 3) (tt k1 c)))) (fun k1=>(lo fun o0=>let d:=Kp (rd l0 (tn v7));let a:=v6++[d];let f:=v6.length+1;let b:=xL f (v6++[d]).length;let e:=Zg (Zz v6) 0 v6.length 1 [(ii d)];(sl SS 47 [] ⟨[2],[],KV,KW⟩ ⟨[(6,.len a.length)],[.rowed 1 a.length (Zz a)],[]⟩ (bl 2 1) (pp b (pp b (pp (xS f e (Zz (v6++[d]))) (pp (pp (xF e) nn) (ww o0 (tt k1 c))))))))))))) (fun k0=>(lr 35 3 (pn 191) 1 17 [(4,(dt v6)),(5,(.bool true))] (sl SS 16 [] ⟨[],[0],[some [4,5]],[]⟩ ⟨[(4,.frz v6.length v6.length (Zz v6) (Zz v6))],[],[]⟩ [false] (pp (xZ (Cz 1 1 0 v6.length v6.length (Zz v6)) v6.length (Zz v6)) (pp (xL v6.length v6.length) (pp (xS v6.length (Zz v6) (Zz v6)) (pp (fl v6 nn) (tt k0 nn)))))))))
theorem x9s (l0:List zy) (x1:Int):Wu prog (Zy prog 51) (NJ l0 x1) (Zm prog 51 [(dt l0),(.int .i64 x1)] true []) (V5 l0 x1):=(lb (fun k0=>(lr 35 51 (pn 37) 1 17 [(4,.nils),(5,(.bool false))] (sl SS 19 [] (b8 [4,5]) b7 [true] (tt k0 nn)))) (fun k0=>(sl SS 26 [(3,1,Zz ([]:zq))] ⟨[0],[],KV,KW⟩ ⟨[(6,.grow 0 1)],[],[]⟩ [false] (pp (fl ([]:zq) nn) (tt k0 nn)))))
theorem v9r (l0:List zy) (x1:Int) (n:Nat) (vs:zx) (h:Zt (If l0 x1) n (V5 l0 x1)=.ret vs):Kw prog (Zy prog 51) (Zm prog 51 [(dt l0),(.int .i64 x1)] true []) vs:=by have:=Zb (w8d l0 x1) n _ (x9s l0 x1);rwa [h] at this
def O6 (L:List zy) (m:Int):Bool:=decide ((L.length:Int)=m)&&L.all Qs
def Yp (L:List zy) (m:Int):zq:=bif O6 L m then L.map Kp else []
def Qk (L:List zy) (m:Int):Bool:=O6 L m
def Vj (L:List zy) (m:Int):Bool:=decide (L.length<=1000000)&&L.all Pr
def Hg (ok:Bool) (L:zq):zx:=bif ok then [.dat L.length (Zz L),.bool true] else [.nils,.bool false]
theorem u5x {L:List zy} {m:Int} (hl:L.length<=1000000) (ho:L.all Pr=true): ∀(k i:Nat) (out:zq),i+k=L.length->out.length<=i->
  ∃N,Zt (If L m) N (.to (.h0 out (i:Int)))=.ret (Hg ((L.drop i).all Qs) (out++(L.drop i).map Kp))
 | 0,i,out,h,hi=>by
  refine ⟨1,?_⟩;have e:If L m (.h0 out (i:Int))=.ret [.dat out.length (Zz out),.bool true]:=by unfold If;simp only [];rw [Yo (by omega),Ab]
  rw [Zx,Av (by omega),e,List.map_nil,AO];rfl
 | k+1,i,out,h,hi'=>by
  have hi:i<L.length:=by omega
  have w2:wrap .i64 ((i:Int)+1)=((i+1:Nat):Int):=Zq (by omega);have hr:Pr (rd L i)=true:=Ax.1 ho _ (by rw [Wv hi];exact AL hi);have e:If L m (.h0 out (i:Int))=bif !(Qs (rd L i)) then .ret [.nils,.bool false] else .to (.h0 (out++[Kp (rd L i)]) ((i+1:Nat):Int)):=by
   unfold If;simp only [Zj,w2,hr,Af];have hr:(Nat.beq 1 1&&((decide (0+out.length=out.length))&&decide ((out.length+1+1)*(8+1)<=Vw)))=true:=by rw [Ad,Ad];exact ⟨rfl,Aa (by omega),Fp (by omega)⟩
   rw [Zu (Ym (by omega)),Zu (BM.2 ⟨Yx (by omega),rfl⟩),Zu hr]
  rw [Yt hi,BJ,A8];cases g:Qs (rd L i) with
  | false=>refine ⟨1,?_⟩;rw [Zx,e,g,AC,Af,Za];rfl
  | true=>obtain ⟨N,hN⟩:=u5x (m:=m) hl ho k (i+1) (out++[Kp (rd L i)]) (by omega) (by rw [Ap,AE];omega);refine ⟨N+1,?_⟩;rw [Zx,e,g,Ay,Ab,hN,As,AI];rfl
theorem j0m (L:List zy) (m:Int) (h:Vj L m=true): ∃N,Zt (If L m) N (V5 L m)=.ret (Hg (O6 L m) (L.map Kp)):=by
 unfold Vj at h;rw [Ad,An] at h;unfold V5 O6;by_cases g:(L.length:Int)=m
 .rw [Qo g,Ab,Aa g,As];obtain ⟨N,hN⟩:=u5x (m:=m) h.1 h.2 L.length 0 [] (Ak _) (Aj _);exact ⟨N,hN⟩
 .rw [Qm g,Af,Ah g];exact ⟨0,rfl⟩
def Oq :zx->Option (B5×Bool)
 | [a0,.int .i64 m]=>match C5 zy a0 with
  | some (L0,g0,n0)=>some (.tup [.dat (Yp L0 m).length (Zz (Yp L0 m)),.bool (Qk L0 m)],CV zy n0 g0&&Vj L0 m)
  | _=>none
 | _=>none
theorem j4k {S:B7} (hS:Zv prog S):Zv prog (S.with TA Oq):=OZ hS (by kernel_rfl) fun args v h=>by
 unfold Oq at h;split at h
 .rename_i a0 m;split at h
  .rename_i L0 g0 n0 e0;simp only [Ae,Ac,Ad] at h;obtain ⟨rfl,ho0,hw⟩:=h;obtain ⟨N,hN⟩:=j0m L0 m hw;refine ⟨_,_,(.cons (Xd e0 ho0) (.cons (.refl _) .nil)),?_,v9r L0 m N _ hN,3,?_⟩
   .unfold Hg Yp Qk;cases O6 L0 m with
    | true=>exact fun ρ u hu=>hu
    | false=>exact fun ρ u hu=>G6 (.cons (Gb Int) (Cd.refl _)) ρ u hu
   .unfold Hg;cases O6 L0 m <;> rfl
  .cases h
 .cases h
def Jz :List zy->Option zq
 | []=>some []
 | w::r=>match CY w with
  | none=>none
  | some n=>match Jz r with
   | none=>none
   | some l=>some (n::l)
def E5 (s:zy):Option (List zy):=match (Ye 10 [] s).getLast? with
 | some []=>some (Ye 10 [] s).dropLast
 | _=>none
theorem Y4 : ∀(l:List zy) (m:zq),Jz l=some m->m.length=l.length
 | [],m,h=>by obtain rfl:=Ag h;rfl
 | w::r,m,h=>by
  unfold Jz at h;cases hw:CY w with
  | none=>rw [hw] at h;cases h
  | some n=>
   rw [hw] at h;cases hr:Jz r with
   | none=>rw [hr] at h;cases h
   | some l=>rw [hr] at h;obtain rfl:=Ag h;rw [Aq,Aq,Y4 r l hr]
theorem x6n : ∀(l:List zy),Jz l=bif l.all Qs then some (l.map Kp) else none
 | []=>rfl
 | w::r=>by
  obtain ⟨h1,h2⟩:=u0b w;rw [BJ,A8];unfold Jz;rw [x6n r];cases g:Qs w with
  | false=>
   rw [g] at h1;have:CY w=none:=by cases hx:CY w with
    | none=>rfl
    | some n=>rw [hx] at h1;cases h1
   rw [this];rfl
  | true=>rw [h2 g,As];cases r.all Qs <;> rfl
section
attribute [local irreducible] FM Po
end
theorem Le (x:zy):Qt x 32=Ye 32 [] x:=rfl
theorem Gn (x:zy):Qt x 10=Ye 10 [] x:=rfl
theorem v0y {x:zy} {v:Int} (h:atoiAll x=.ok v): -9223372036854775808<=v/\v<=9223372036854775807:=by
 unfold atoiAll at h;split at h
 .cases h
 .simp only [] at h;split at h
  .cases h
  .cases h
  .rename_i u hu;split at h
   .cases h
   .split at h
    .cases h
    .rename_i h1 h2;injection h with h;subst h;split <;> omega
def wN {σ:Type} (x:zy) (R:Xy σ) (K:Int->Xy σ):Xy σ:=(bif (Wf x) then (bif (!(Js x)) then R else (bif (Yd (Xz x)) then (bif (!((Wg (Xz x)) == x)) then R else (bif (decide ((Xz x)<(-9999999))) then R else (bif (decide ((Xz x)>9999999)) then R else K (Xz x)))) else .stuck)) else .stuck)
theorem EU {σ:Type} {x:zy} {R:Xy σ} {K:Int->Xy σ} (hx:x.length<=1000000):wN x R K=(CY x).elim R K:=by
 unfold wN;rw [Zu (show Wf x=true from Aa (by omega))];unfold CY Js Xz;cases h:atoiAll x with
 | ok v=>
  have hr:=v0y h;show (bif !true then R else bif Yd v then (bif !(Wg v == x) then R else bif decide (v< -9999999) then R else bif decide (v>9999999) then R else K v) else .stuck)=(bif decide (itoa v=x/\ -9999999<=v/\v<=9999999) then some v else none).elim R K;rw [Ay,Ab,Zu (show Yd v=true from Aa hr)];have hb:(Wg v == x)=decide (itoa v=x):=by rw [AK,AR,An];rfl
  rw [hb];by_cases g1:itoa v=x
  .rw [Aa g1,Ay,Ab];by_cases g2:v< -9999999
   .rw [Aa g2,Ah (show ¬(itoa v=x/\ -9999999<=v/\v<=9999999) by omega)];rfl
   .rw [Ah g2,Ab];by_cases g3:v>9999999
    .rw [Aa g3,Ah (show ¬(itoa v=x/\ -9999999<=v/\v<=9999999) by omega)];rfl
    .rw [Ah g3,Aa (show (itoa v=x/\ -9999999<=v/\v<=9999999) from ⟨g1,by omega,by omega⟩)];rfl
  .rw [Ah g1,Ah (show ¬(itoa v=x/\ -9999999<=v/\v<=9999999) from fun h=>g1 h.1)];rfl
 | _=>rfl
theorem DT {n:Nat} {j:Int} (h0:0<=j) (h:j<(n:Int)):(decide ((0:Int)<=j/\j<((n:Nat):Int))&&true)=true:=by rw [Ar];exact Aa ⟨h0,h⟩
theorem Re (x:zy) (b:UInt8):Jp x [b]=Ye b [] x:=x5f b x
inductive HX where
def Mk (bE:Int) (bD:Int) (bC:Int) (bS:Int):HX->CH
 :=nofun
def x8n (bE:Int) (bD:Int) (bC:Int) (bS:Int):HX->Xy HX
 :=nofun
def WG (bE:Int) (bD:Int) (bC:Int) (bS:Int):Xy HX:=(bif (decide (bE<bC)) then (bif (decide (bD<bS)) then (bif (decide (bE>=(-1000000))) then (bif (decide (bE<=1000000)) then (bif (decide (bC>=(-1000000))) then (bif (decide (bC<=1000000)) then (bif (decide (bD>=(-1000000))) then (bif (decide (bD<=1000000)) then (bif (decide (bS>=(-1000000))) then (.ret [(.bool (decide (bS<=1000000)))]) else (.ret [(.bool false)])) else (.ret [(.bool false)])) else (.ret [(.bool false)])) else (.ret [(.bool false)])) else (.ret [(.bool false)])) else (.ret [(.bool false)])) else (.ret [(.bool false)])) else (.ret [(.bool false)])) else (.ret [(.bool false)]))
theorem w6x (bE:Int) (bD:Int) (bC:Int) (bS:Int): ∀s,Wu prog (Zy prog 166) (Mk bE bD bC bS) (Mk bE bD bC bS s) (x8n bE bD bC bS s)
 :=nofun
theorem x8o (bE:Int) (bD:Int) (bC:Int) (bS:Int):Wu prog (Zy prog 166) (Mk bE bD bC bS) (Zm prog 166 [(.agg [(.int .i64 bE),(.int .i64 bD),(.int .i64 bC),(.int .i64 bS)])] true []) (WG bE bD bC bS):=(lb (fun k0=>(lb (fun k1=>let c:=tt k1 (tt k0 nn);(lb (fun k2=>(lb (fun k3=>let a:=tt k3 (tt k2 c);(lb (fun k4=>(lb (fun k5=>let d:=tt k5 (tt k4 a);(lb (fun k6=>let b:=tt k6 d;(lb (fun k7=>(lb (fun k8=>(lr 35 3 (pn 191) 1 9 [(2,(.bool (decide (bS<=1000000))))] (sl Qi 101 [] (b8 [2]) b7 (CC 25 []) (tt k8 (tt k7 b))))) (fun k8=>(lr 35 3 (pn 191) 1 9 [(2,(.bool false))] (sl Qi 101 [] (b8 [2]) b7 (CC 23 (bl 2 0)) (tt k8 (tt k7 b))))))) (fun k7=>(lr 35 3 (pn 191) 1 9 [(2,(.bool false))] (sl Qi 86 [] (b8 [2]) b7 (CC 20 (bl 3 0)) (tt k7 b)))))) (fun k6=>(lr 35 3 (pn 191) 1 9 [(2,(.bool false))] (sl Qi 86 [] (b8 [2]) b7 (CC 18 (bl 5 0)) (tt k6 d)))))) (fun k5=>(lr 35 3 (pn 191) 1 9 [(2,(.bool false))] (sl Qi 71 [] (b8 [2]) b7 (CC 15 (bl 6 0)) (tt k5 (tt k4 a))))))) (fun k4=>(lr 35 3 (pn 191) 1 9 [(2,(.bool false))] (sl Qi 71 [] (b8 [2]) b7 (CC 13 (bl 8 0)) (tt k4 a)))))) (fun k3=>(lr 35 3 (pn 191) 1 9 [(2,(.bool false))] (sl Qi 56 [] (b8 [2]) b7 (CC 10 (bl 9 0)) (tt k3 (tt k2 c))))))) (fun k2=>(lr 35 3 (pn 191) 1 9 [(2,(.bool false))] (sl Qi 56 [] (b8 [2]) b7 (CC 8 (bl 11 0)) (tt k2 c)))))) (fun k1=>(lr 35 3 (pn 191) 1 9 [(2,(.bool false))] (sl Qi 41 [] (b8 [2]) b7 (CC 5 (bl 12 0)) (tt k1 (tt k0 nn))))))) (fun k0=>(lr 35 3 (pn 191) 1 9 [(2,(.bool false))] (sl Qi 41 [] (b8 [2]) b7 (bl 17 0) (tt k0 nn)))))
theorem v8n (bE:Int) (bD:Int) (bC:Int) (bS:Int) (n:Nat) (vs:zx) (h:Zt (x8n bE bD bC bS) n (WG bE bD bC bS)=.ret vs):Kw prog (Zy prog 166) (Zm prog 166 [(.agg [(.int .i64 bE),(.int .i64 bD),(.int .i64 bC),(.int .i64 bS)])] true []) vs:=by have:=Zb (w6x bE bD bC bS) n _ (x8o bE bD bC bS);rwa [h] at this
inductive IC where
 | h0 (v16:Int) (aG:zq)
 | h1 (v4:Int) (aC:zr) (bJ:zp) (bT:Int) (cB:Int) (bY:Nat) (aF:zq)
 | h2 (v4:Int) (v38:Int) (aC:zr) (bJ:zp) (bT:Int) (cB:Int) (bY:Nat) (aF:zq) (aK:Int) (dB:Int) (bI:zp)
 | h3 (v1:Int) (v2:Int) (v71:zp) (v72:Int) (v73:Int) (cR:zp) (cM:Int) (aN:zr) (aA:zp) (bF:Int) (bY:Nat) (aF:zq) (aK:zp)
 | h4 (v2:Int) (v8:Int) (dM:Int) (cR:zp) (cM:Int) (aN:zr) (aA:zp) (bF:Int) (bH:Int) (cZ:Nat) (dJ:zq) (bI:zp)
def OK (l0:zr):IC->CH
 | .h0 v16 aG=>⟨⟨34,0,true⟩,none,(Zf prog 199 (pn 19659) 0),none,(Zy prog 9),⟨Yh [(1,(.ptr 0 0)),(3,(.ptr 2 0)),(8,(.sl 1 0 1 (.un 1))),(9,(ii 1)),(10,(ii 0)),(14,(dt l0)),(15,(ii (l0.length:Int))),(16,(ii v16))],Wd [⟨[(.sl 1 0 1 (.un 1))],201,none⟩,⟨[(dt l0)],195,none⟩,⟨[(.sla 4 1 0 aG.length (.un 1))],83,none⟩,⟨[.nils,.nils,(ii 0),(ii 0)],235,none⟩,(rz aG 3 1)] 0,5,[],true⟩,[⟨⟨29,0,true⟩,(C4 prog 167 (pn 19) 2),(Zf prog 167 (pn 19) 1),none,(Zy prog 10),Yh [(2,.nils),(3,(ii 0)),(4,(.ptr 3 0)),(9,(.sl 1 0 1 (.un 1)))]⟩],.leaf⟩
 | .h1 v4 aC bJ bT cB bY aF=>⟨⟨76,0,true⟩,none,(Zf prog 225 [1,0,0] 0),none,[],⟨Yh [(0,(.yld 0)),(1,(.ptr 2 0)),(2,(.ptr 4 0)),(4,(ii v4))],Ee [(1,⟨[(.sla 6 4 0 aC.length (.un 4)),(dt bJ),(ii bT),(ii cB)],235,none⟩),(2,⟨[(.sla 3 1 0 bY (.un 1))],83,none⟩),(3,(rz aF 3 1)),(4,⟨[(.sl 5 0 1 (.un 1))],201,none⟩),(5,⟨[(dt l0)],195,none⟩),(6,(rz aC 168 4))],7,[],true⟩,[⟨⟨29,0,true⟩,none,(.inRangeFunc 0::(Zf prog 167 (pn 43) 1)),none,(Zy prog 10),Yh [(2,.nils),(3,(ii 0)),(4,(.ptr 1 0))]⟩],(Ed [(0,⟨.ready,none,29,Yh [(4,(.ptr 1 0))],[11],(Cr prog 167 [1,1,0,1,0,0]),(Cr prog 167 [1,1,0,1,0,1])⟩)])⟩
 | .h2 v4 v38 aC bJ bT cB bY aF aK dB bI=>⟨⟨76,0,true⟩,none,(Zf prog 225 (pn 629065) 0),none,[],⟨Yh [(0,(.yld 0)),(1,(.ptr 2 0)),(2,(.ptr 4 0)),(4,(ii v4)),(5,(.ptr 6 0)),(6,(ii 0)),(29,(.sl 5 0 1 (.un 1))),(30,(ii 1)),(31,(ii 0)),(36,(dt l0)),(37,(ii (l0.length:Int))),(38,(ii v38))],Ee [(1,⟨[(.sla 9 4 0 aC.length (.un 4)),(dt bJ),(ii bT),(ii cB)],235,none⟩),(2,⟨[(.sla 3 1 0 bY (.un 1))],83,none⟩),(3,(rz aF 3 1)),(4,⟨[(.sl 5 0 1 (.un 1))],201,none⟩),(5,⟨[(dt l0)],195,none⟩),(6,⟨[(ii aK),(ii dB),(.sl 7 0 1 (.ex 1))],240,none⟩),(7,⟨[(.sla 8 2 0 bI.length (.un 2))],233,none⟩),(8,(rz bI 260 2)),(9,(rz aC 168 4))],10,[],true⟩,[⟨⟨29,0,true⟩,none,(.inRangeFunc 0::(Zf prog 167 (pn 43) 1)),none,(Zy prog 10),Yh [(2,.nils),(3,(ii 0)),(4,(.ptr 1 0))]⟩],(Ed [(0,⟨.ready,none,29,Yh [(4,(.ptr 1 0))],[11],(Cr prog 167 [1,1,0,1,0,0]),(Cr prog 167 [1,1,0,1,0,1])⟩)])⟩
 | .h3 v1 v2 v71 v72 v73 cR cM aN aA bF bY aF aK=>⟨⟨94,0,true⟩,none,(Zf prog 171 (pn 39) 0),none,[],⟨Yh [(0,(.ptr 0 0)),(1,(ii v1)),(2,(ii v2)),(71,(dt v71)),(72,(ii v72)),(73,(ii v73))],Ee [(0,⟨[(.sla 7 4 0 aN.length (.un 4)),(dt aA),(ii bF),(ii v2)],235,none⟩),(2,⟨[(.sla 3 1 0 bY (.un 1))],83,none⟩),(3,(rz aF 3 1)),(4,⟨[(.sl 5 0 1 (.un 1))],201,none⟩),(5,⟨[(dt l0)],195,none⟩),(6,⟨[(dt aK)],233,none⟩),(7,(rz aN 168 4))],8,[],true⟩,[⟨⟨29,0,true⟩,(C4 prog 167 (pn 427) 5),(Zf prog 167 (pn 427) 1),(some 1),[],Yh [(4,(.ptr 0 0)),(21,(ii v1)),(23,(ii v2)),(24,(dt cR))]⟩,⟨⟨76,0,true⟩,(C4 prog 225 (pn 713) 2),(Zf prog 225 (pn 713) 1),none,[],Yh [(0,(.yld 1)),(1,(.ptr 2 0)),(2,(.ptr 4 0)),(4,(ii cM)),(72,(.yld 1)),(73,(.agg [(ii v1),(ii v2),(.sl 6 0 1 (.ex 1))]))]⟩,⟨⟨29,0,true⟩,none,(.inRangeFunc 1::(Zf prog 167 (pn 43) 1)),none,(Zy prog 10),Yh [(2,.nils),(3,(ii 0)),(4,(.ptr 0 0))]⟩],(Ed [(1,⟨.busy,none,29,Yh [(4,(.ptr 0 0))],[11],(Cr prog 167 [1,1,0,1,0,0]),(Cr prog 167 [1,1,0,1,0,1])⟩)])⟩
 | .h4 v2 v8 dM cR cM aN aA bF bH cZ dJ bI=>⟨⟨94,0,true⟩,none,(Zf prog 171 (pn 146) 0),none,[],⟨Yh [(0,(.ptr 0 0)),(2,(ii v2)),(8,(ii v8))],Ee [(0,⟨[(.sla 1 4 0 aN.length (.un 4)),(dt aA),(ii bF),(ii bH)],235,none⟩),(1,(rz aN 168 4)),(3,⟨[(.sla 4 1 0 cZ (.un 1))],83,none⟩),(4,(rz dJ 3 1)),(5,⟨[(.sl 6 0 1 (.un 1))],201,none⟩),(6,⟨[(dt l0)],195,none⟩),(7,⟨[(dt bI)],233,none⟩)],8,[],true⟩,[⟨⟨29,0,true⟩,(C4 prog 167 (pn 427) 5),(Zf prog 167 (pn 427) 1),(some 2),[],Yh [(4,(.ptr 0 0)),(21,(ii dM)),(23,(ii v2)),(24,(dt cR))]⟩,⟨⟨76,0,true⟩,(C4 prog 225 (pn 713) 2),(Zf prog 225 (pn 713) 1),none,[],Yh [(0,(.yld 2)),(1,(.ptr 3 0)),(2,(.ptr 5 0)),(4,(ii cM)),(72,(.yld 2)),(73,(.agg [(ii dM),(ii v2),(.sl 7 0 1 (.ex 1))]))]⟩,⟨⟨29,0,true⟩,none,(.inRangeFunc 2::(Zf prog 167 (pn 43) 1)),none,(Zy prog 10),Yh [(2,.nils),(3,(ii 0)),(4,(.ptr 0 0))]⟩],(Ed [(2,⟨.busy,none,29,Yh [(4,(.ptr 0 0))],[11],(Cr prog 167 [1,1,0,1,0,0]),(Cr prog 167 [1,1,0,1,0,1])⟩)])⟩
def LP :List (Option zw):=[some [1,3,8,9,10,14,15,16],some [2,3,4,9]]
def LR :List (Option zw):=[]
def j2v :List (Option zw):=[some [0,1,2,4],some [2,3,4]]
def j2w :List (Option zw):=[some [4],none,none,none,none,none,none]
def X9 :List (Option zw):=[some [0,1,2,4,5,6,29,30,31,36,37,38],some [2,3,4]]
def X7 :List (Option zw):=[some [4],none,none,none,none,none,none,none,none,none]
def Xl :List (Option zw):=[some [0,1,2,71,72,73],some [4,21,23,24],some [0,1,2,4,72,73],some [2,3,4]]
def X8 :List (Option zw):=[none,some [4],none,none,none,none,none,none]
def LO :List (Option zw):=[some [0,2,8],some [4,21,23,24],some [0,1,2,4,72,73],some [2,3,4]]
def LQ :List (Option zw):=[none,none,some [4],none,none,none,none,none]
def Wo (l0:zr):IC->Xy IC
 | .h0 v16 aG=>let b:=Xk aG.length (Cb (Zz (Kc (Xk aG.length (Cb (Zz aG))))));let d:=rd l0 v16.toNat;(bif (decide (v16<(l0.length:Int))) then (bif ((decide (0<=v16/\v16<(l0.length:Int)))&&true) then (bif (Nat.beq 1 1&&((decide (0+aG.length=aG.length))&&decide ((aG.length+2+1)*(8+1)<=Vw))) then (.to (.h0 (wrap .i64 (v16+1)) (aG++[d.a,d.c]))) else .stuck) else .stuck) else (bif (decide (aG.length<4611686018427387904)) then (bif (decide (aG.length=aG.length)) then (.to (.h1 1 ([]:zr) ([]:zp) 0 0 (GW b) (CZ b))) else .stuck) else .stuck))
 | .h1 v4 aC bJ bT cB bY aF=>(bif (decide (v4<((bY:Nat):Int))) then (bif ((decide (0<=(wrap .i64 (v4 - 1))/\(wrap .i64 (v4 - 1))<((bY:Nat):Int)))&&true) then (bif (decide ((0+(Int.toNat (wrap .i64 (v4 - 1))))<aF.length)) then (bif ((decide (0<=v4/\v4<((bY:Nat):Int)))&&true) then (bif (decide ((0+v4.toNat)<aF.length)) then (.to (.h2 v4 0 aC bJ bT cB bY aF (rd aF (0+(Int.toNat (wrap .i64 (v4 - 1))))) (rd aF (0+v4.toNat)) ([]:zp))) else .stuck) else .stuck) else .stuck) else .stuck) else (bif (decide ((aC.length:Int)>400)) then (.ret [.nils,(.int .i64 4)]) else (.ret [(dt aC),(.int .i64 0)])))
 | .h2 v4 v38 aC bJ bT cB bY aF aK dB bI=>let e:=Vq (B6 bI);let f:=rd l0 v38.toNat;(bif (decide (v38<(l0.length:Int))) then (bif ((decide (0<=v38/\v38<(l0.length:Int)))&&true) then (bif (decide (f.a <=aK)) then (bif (decide (aK<f.c)) then (bif (Nat.beq 2 2&&((decide (0+bI.length=bI.length))&&decide ((bI.length+1+1)*(16+1)<=Vw))) then (.to (.h2 v4 (wrap .i64 (v38+1)) aC bJ bT cB bY aF aK dB (bI++[(R2.mk f.b f.d)]))) else .stuck) else (.to (.h2 v4 (wrap .i64 (v38+1)) aC bJ bT cB bY aF aK dB bI))) else (.to (.h2 v4 (wrap .i64 (v38+1)) aC bJ bT cB bY aF aK dB bI))) else .stuck) else (bif (Z6 (B6 bI)) then (bif (decide (((e.length :Nat):Int)>0)) then (bif (cB == aK) then (bif (Ke (B6 bJ) (B6 e)) then (bif (EW (B6 bJ) (B6 e)) then (.to (.h4 dB bT aK e v4 aC bJ bT cB bY aF bI)) else (.to (.h3 aK dB e ((e.length :Nat):Int) 0 e v4 aC e (aC.length:Int) bY aF bI))) else .stuck) else (.to (.h3 aK dB e ((e.length :Nat):Int) 0 e v4 aC e (aC.length:Int) bY aF bI))) else (.to (.h3 aK dB e ((e.length :Nat):Int) 0 e v4 aC e (aC.length:Int) bY aF bI))) else .stuck))
 | .h3 v1 v2 v71 v72 v73 cR cM aN aA bF bY aF aK=>let c:=rd v71 v73.toNat;(bif (decide (v73<v72)) then (bif ((decide (0<=v73/\v73<(v71.length:Int)))&&true) then (bif (Nat.beq 4 4&&((decide (0+aN.length=aN.length))&&decide ((aN.length+1+1)*(32+1)<=Vw))) then (.to (.h3 v1 v2 v71 v72 (wrap .i64 (v73+1)) cR cM (aN++[(R4.mk v1 c.a v2 c.b)]) aA bF bY aF aK)) else .stuck) else .stuck) else (.to (.h1 (wrap .i64 (cM+1)) aN aA bF v2 bY aF)))
 | .h4 v2 v8 dM cR cM aN aA bF bH cZ dJ bI=>let c:=rd aN (0+v8.toNat);(bif (decide (v8<(aN.length:Int))) then (bif ((decide (0<=v8/\v8<(aN.length:Int)))&&true) then (bif (decide ((0+v8.toNat)<aN.length)) then (.to (.h4 v2 (wrap .i64 (v8+1)) dM cR cM (aN.set (0+v8.toNat) (R4.mk c.a c.b v2 c.d)) aA bF bH cZ dJ bI)) else .stuck) else .stuck) else (.to (.h1 (wrap .i64 (cM+1)) aN aA bF v2 cZ dJ)))
def x3k (l0:zr):Xy IC:=(.to (.h0 0 ([]:zq)))
theorem w9j (l0:zr): ∀s,Wu prog (Zy prog 167) (OK l0) (OK l0 s) (Wo l0 s)
 | .h0 v16 aG=>(lb (fun k0=>(lo fun o0=>(lo fun o1=>let m:=rd l0 (tn v16);let j:=m;let d:=aG++[j.a,j.c];let p:=aG++[m.a,m.c];let q:=aG.length+2;let e:=xL q p.length;let n:=Zg (Zz aG) 0 aG.length 1 [(ii m.a),(ii m.c)];(sl Qi 32 [] ⟨[0,1,2,3,7],[],LP,LR⟩ ⟨[],[.keep,.keep,.cells [.len d.length],.keep,.rowed 1 d.length (Zz d)],[]⟩ [true] (pp e (pp e (pp (xS q n (Zz p)) (pp (pp (xF n) nn) (ww o1 (ww o0 (tt k0 nn))))))))))) (fun k0=>(lo fun o0=>(lo fun o1=>let o:=Zz (Kc (Xk aG.length (Cb (Zz aG))));let l:=CZ (Xk aG.length (Cb o));let b:=l;let f:=xG (Nat.beq 1 1);let g:=xG (decide (aG.length<4611686018427387904));let h:=xG (decide (aG.length=aG.length));let i:=xG (Nat.beq 0 0);(sl Qi 46 [(168,4,Zz ([]:zr))] ⟨[5,3,2,4,0,1,6],[],j2v,j2w⟩ ⟨[],[.keep,.cells [.grow 6 4,.list 0 (Zz ([]:zp)),.keep,.keep],.keep,.rowed 1 b.length (Zz b),.keep,.keep,.keep],[]⟩ (bl 2 0) (pp (xL aG.length l.length (by first | exact x6x _ _ | exact Yc rfl)) (pp (xS aG.length (Zz l) (Zz l)) (pp (fl b (fl ([]:zr) nn)) (pp (pp f (pp f (pp i (pp h (pp (xG (LW o)) g))))) (pp (pp f (pp f (pp i (pp h (pp (xG (LW (Zz aG))) g))))) (tt k0 nn)))))))))))
 | .h1 v4 aC bJ bT cB bY aF=>(lb (fun k0=>(lo fun o0=>(lo fun o1=>(lo fun o2=>(lo fun o3=>(sl Qi 48 [(260,2,Zz ([]:zp))] ⟨[0,1,2,3,4,5,7,8,9,6],[],X9,X7⟩ ⟨[],(II 7 [.cells [.grow 8 2],.keep,.keep]),[]⟩ (CC 3 []) (pp (fl aF (fl ([]:zp) (fl aC nn))) (ww o3 (ww o2 (ww o1 (ww o0 (tt k0 nn)))))))))))) (fun k0=>(lb (fun k1=>(lr 29 3 (pn 191) 1 10 [(2,.nils),(3,(ii 4))] (sl Qi 43 [] (b8 [2,3]) b7 (bl 2 2) (tt k1 (tt k0 nn))))) (fun k1=>(lr 29 3 (pn 191) 1 10 [(2,(dt aC)),(3,(ii 0))] (sl Qi 48 [] ⟨[],[6],[some [2,3]],[]⟩ ⟨[(2,.frz aC.length aC.length (Zz aC) (Zz aC))],[],[]⟩ (bl 2 0) (pp (xZ (Cz 4 4 0 aC.length aC.length (Zz aC)) aC.length (Zz aC)) (pp (xL aC.length aC.length) (pp (xS aC.length (Zz aC) (Zz aC)) (pp (fl aC nn) (tt k1 (tt k0 nn))))))))))))
 | .h2 v4 v38 aC bJ bT cB bY aF aK dB bI=>(lb (fun k0=>(lo fun aB=>let g:=ww aB (tt k0 nn);let j:=fl aF (fl bI (fl aC nn));let p:=List.range 10;(lb (fun k1=>(lb (fun k2=>(lo fun o0=>let q:=rd l0 (tn v38);let o:=q;let a:=bI++[(R2.mk o.b o.d)];let t:=bI++[(R2.mk q.b q.d)];let u:=bI.length+1;let e:=xL u t.length;let r:=Zg (Zz bI) 0 bI.length 2 [(ii q.b),(ii q.d)];(sl Qi 39 [] ⟨[0,1,2,3,4,5,6,7,12,9],[],X9,X7⟩ ⟨[],(II 7 [.cells [.len a.length],.rowed 2 a.length (Zz a),.keep]),[]⟩ (CC 7 []) (pp e (pp e (pp (xS u r (Zz t)) (pp (fl aF (pp (xF r) (fl aC nn))) (ww o0 (tt k2 (tt k1 g)))))))))) (fun k2=>(sl Qi 39 [] ⟨p,[],X9,X7⟩ b7 (CC 6 [false]) (pp j (tt k2 (tt k1 g))))))) (fun k1=>(sl Qi 39 [] ⟨p,[],X9,X7⟩ b7 (bl 7 1) (pp j (tt k1 g))))))) (fun k0=>let f:=xZ (Cz 2 2 0 bI.length bI.length (Zz bI)) bI.length (Zz bI);let i:=xS bI.length (Zz bI) (Zz bI);let l:=xL bI.length bI.length;let m:=fl aC (fl aF nn);(Up (sl Qi (C':=⟨⟨29,0,true⟩,(C4 prog 167 (pn 299) 4),(Zf prog 167 (pn 299) 1),(some 0),[],⟨Yh [(4,(.ptr 1 0)),(5,(.ptr 3 0)),(16,(dt bI))],Ee [(1,⟨[(.sla 2 4 0 aC.length (.un 4)),(dt bJ),(ii bT),(ii cB)],235,none⟩),(2,(rz aC 168 4)),(3,⟨[(ii aK),(ii dB),(.sl 4 0 1 (.ex 1))],240,none⟩),(4,⟨[(dt bI)],233,none⟩),(5,⟨[(.sla 6 1 0 bY (.un 1))],83,none⟩),(6,(rz aF 3 1)),(7,⟨[(.sl 8 0 1 (.un 1))],201,none⟩),(8,⟨[(dt l0)],195,none⟩)],9,[],true⟩,[⟨⟨76,0,true⟩,(C4 prog 225 (pn 713) 2),(Zf prog 225 (pn 713) 1),none,[],Yh [(0,(.yld 0)),(1,(.ptr 5 0)),(2,(.ptr 7 0)),(4,(ii v4)),(72,(.yld 0)),(73,(.agg [(ii aK),(ii dB),(.sl 4 0 1 (.ex 1))]))]⟩,⟨⟨29,0,true⟩,none,(.inRangeFunc 0::(Zf prog 167 (pn 43) 1)),none,(Zy prog 10),Yh [(2,.nils),(3,(ii 0)),(4,(.ptr 1 0))]⟩],(Ed [(0,⟨.busy,none,29,Yh [(4,(.ptr 1 0))],[11],(Cr prog 167 [1,1,0,1,0,0]),(Cr prog 167 [1,1,0,1,0,1])⟩)])⟩) 37 [] ⟨[0,1,9,10,7,2,3,4,5],[8],[some [4,5,16],some [0,1,2,4,72,73],some [2,3,4]],[some [4],none,none,none,none,none,none,none,none]⟩ ⟨[(16,.frz bI.length bI.length (Zz bI) (Zz bI))],[.keep,.keep,.keep,.keep,.cells [.frz bI.length bI.length (Zz bI) (Zz bI)],.keep,.keep,.keep,.keep],[]⟩ (bl 2 0) (pp f (pp l (pp i (pp f (pp l (pp i (pp m (pp (fl bI nn) (tt k0 nn)))))))))) (lo fun aB=>let c:=pp (pp (xr bI) (xw aB)) nn;let h:=fl aF (fl aC nn);(lb (fun k1=>(lb (fun k2=>(lo fun cD=>let n:=tt k2 (tt k1 c);let s:=Vq (B6 bI);(lb (fun k3=>(sl Qi 49 [] ⟨[1,2,0,5,6,7,8,4],[],LO,LQ⟩ b7 (CC 13 []) (pp m (tt k3 (pp (pp (xr bJ) (pp (xI R2 s.length (Zz s)) (xw cD))) n))))) (fun k3=>(sl Qi 69 [] ⟨[1,0,5,6,7,8,4,2],[],Xl,X8⟩ b7 (CC 12 [false]) (pp h (tt k3 (pp (pp (xr bJ) (pp (xI R2 s.length (Zz s)) (xw cD))) n)))))))) (fun k2=>(sl Qi 69 [] ⟨[1,0,5,6,7,8,4,2],[],Xl,X8⟩ b7 (CC 6 (bl 7 0)) (pp h (tt k2 (tt k1 c))))))) (fun k1=>(sl Qi 69 [] ⟨[1,0,5,6,7,8,4,2],[],Xl,X8⟩ b7 (bl 13 0) (pp h (tt k1 c)))))))))
 | .h3 v1 v2 v71 v72 v73 cR cM aN aA bF bY aF aK=>(lb (fun k0=>(lo fun o0=>(lo fun o1=>let f:=rd v71 (tn v73);let e:=f;let c:=aN++[(R4.mk v1 e.a v2 e.b)];let h:=aN++[(R4.mk v1 f.a v2 f.b)];let i:=aN.length+1;let d:=xL i h.length;let g:=Zg (Zz aN) 0 aN.length 4 [(ii v1),(ii f.a),(ii v2),(ii f.b)];(sl Qi 23 [] ⟨[0,1,2,3,4,5,6,10],[],Xl,X8⟩ ⟨[],[.cells [.len c.length,.keep,.keep,.keep],.keep,.keep,.keep,.keep,.keep,.keep,.rowed 4 c.length (Zz c)],[]⟩ [true] (pp d (pp d (pp (xS i g (Zz h)) (pp (fl aF (pp (xF g) nn)) (ww o1 (ww o0 (tt k0 nn))))))))))) (fun k0=>(sl Qi 22 [] ⟨[1,0,2,3,4,5,7],[],j2v,j2w⟩ b7 (bl 2 0) (pp (fl aF (fl aN nn)) (tt k0 nn)))))
 | .h4 v2 v8 dM cR cM aN aA bF bH cZ dJ bI=>(lb (fun k0=>(lo fun o0=>(lo fun o1=>let g:=rd aN (0+(tn v8));let f:=g;let c:=aN.set (0+(tn v8)) (R4.mk f.a f.b v2 f.d);let h:=aN.set (0+(tn v8)) (R4.mk g.a g.b v2 g.d);let e:=xL aN.length h.length;let i:=Yr (Zz aN) (0+(tn v8)) 2 [(ii v2)];(sl Qi 33 [] ⟨(List.range 8),[],LO,LQ⟩ ⟨[],[.cells [.len c.length,.keep,.keep,.keep],.rowed 4 c.length (Zz c),.keep,.keep,.keep,.keep,.keep,.keep],[]⟩ [true] (pp e (pp e (pp (xS aN.length i (Zz h)) (pp (pp (xF i) (fl dJ nn)) (ww o1 (ww o0 (tt k0 nn))))))))))) (fun k0=>(sl Qi 36 [] ⟨[2,0,3,4,5,6,1],[],j2v,j2w⟩ b7 (bl 2 0) (pp (fl dJ (fl aN nn)) (tt k0 nn)))))
theorem w1k (l0:zr):Wu prog (Zy prog 167) (OK l0) (Zm prog 167 [(dt l0)] true []) (x3k l0):=(sl Qi 56 [(3,1,Zz ([]:zq))] ⟨[2,1,3,0,4],[],LP,LR⟩ ⟨[],[.keep,.keep,.cells [.grow 4 1],.keep,.keep],[]⟩ [true] (pp (fl ([]:zq) nn) nn))
theorem u2h (l0:zr) (n:Nat) (vs:zx) (h:Zt (Wo l0) n (x3k l0)=.ret vs):Kw prog (Zy prog 167) (Zm prog 167 [(dt l0)] true []) vs:=by have:=Zb (w9j l0) n _ (w1k l0);rwa [h] at this
theorem v7a {i n:Nat} (h:i<n):decide ((i:Int)<(n:Int))=true:=by grind
theorem x7j {σ:Type} (step:σ->Xy σ) (a b:Nat) (s:Xy σ):Zt step (a+b) s=Zt step a (Zt step b s):=by
 induction b generalizing s with
 | zero=>cases s <;> simp [Zt]
 | succ b ih=>cases s with
  | «to» s=>exact ih (step s)
  | ret vs=>simp only [Za]
  | stuck=>cases a <;> cases b <;> rfl
theorem u8g {i:Nat}:decide ((i:Int)>=0)=true:=by grind
def QK {α:Type} [Xg α] (out:List α):zx:=bif decide ((out.length:Int)>400) then [.nils,.int .i64 4] else [.dat out.length (Zz out),.int .i64 0]
def JM {α:Type} [Xg α] (e:Int) (L:List α):zx:=bif e != 0 then [.nils,.int .i64 e] else [.dat L.length (Zz L),.int .i64 0]
def GT {α:Type} (e:Int) (L:List α):List α:=bif e != 0 then [] else L
theorem u0o {α:Type} [Xg α] (e:Int) (L:List α) (ρ:B9) (u:Value) (hu:Zn ρ (Kg (JM e L)) u):Zn ρ (.tup [.dat (GT e L).length (Zz (GT e L)),.int .i64 e]) u:=by
 unfold JM at hu;unfold GT;by_cases h:e=0
 .subst h;exact hu
 .have h:(e != 0)=true:=by simpa using h
  rw [h] at hu ⊢;exact G6 (.cons (Gb α) (Cd.refl _)) ρ u hu
theorem j1r {α:Type} [Xg α] (e:Int) (L:List α):pf 3 (Kg (JM e L))=true:=by unfold JM;cases (e != 0) <;> rfl
def I8 (n:Nat):Int:=bif decide ((n:Int)>400) then 4 else 0
theorem v7o {α:Type} [Xg α] (L:List α):QK L=JM (I8 L.length) L:=by
 grind [QK,JM,I8]
theorem x0t : ∀(L:List R3) (o last:Int) (inn:Bool) (out:zp),(Gv L o last inn out).length <=out.length+L.length
 | [],_,_,_,out=>Aj _
 | e::r,o,last,inn,out=>by rw [WF];have:=x0t r (o+e.c) e.a (decide (o+e.c>0)) (EV out last inn e.a);have:=y1r out last inn e.a;simp only [Aq];omega
theorem x8x (l:List R3):(DB l).length =l.length:=by
 by_cases h:Dm l=true
 .exact (Pt l h).1.length_eq
 .unfold DB;grind
theorem x8z (l:zp):(Vq l).length <=800:=by
 grind [Vq,Fi,x0t,x8x,Y2]
def D0 (r:R4):Bool:=decide (r.a<r.c)&&(decide (r.b<r.d)&&(decide (r.a>= -1000000)&&(decide (r.a<=1000000)&&(decide (r.c>= -1000000)&&(decide (r.c<=1000000)&&(decide (r.b>= -1000000)&&(decide (r.b<=1000000)&&(decide (r.d>= -1000000)&&decide (r.d<=1000000)))))))))
def D4 :DV R4 R2:=⟨R4.a,R4.c,fun r=>⟨r.b,r.d⟩,fun x x' s=>⟨x,s.a,x',s.b⟩,fun x r=>⟨r.a,r.b,x,r.d⟩,Vq,EW⟩
theorem Pc (l:zr) (x:Int):(D4.sec l x).length <=1000:=AP (x8z _) (by omega)
section
variable (l:zr) (hl:l.length<=400)
include hl
theorem u7s (i:Nat) (out:zr) (last:zp) (first fin x x':Int): ∀(k j:Nat) (acc:zp),j+k=l.length->acc.length<=j->
  ∃n,∀N,Zt (Wo l) (N+n) (.to (.h2 (i:Int) (j:Int) out last first fin ((D4.cuts l).length) (CZ (Kc (D4.ends l))) x x' acc))=Zt (Wo l) N (.to (.h2 (i:Int) (l.length:Int) out last first fin ((D4.cuts l).length) (CZ (Kc (D4.ends l))) x x' (acc++D4.inn (l.drop j) x)))
 | 0,j,acc,h,ha=>by refine ⟨0,fun N=> ?_⟩;rw [Av (by omega),show D4.inn ([]:zr) x=[] from rfl,AO,Bn,show j=l.length by omega]
 | k+1,j,acc,h,ha=>by
  have hj:j<l.length:=by omega
  obtain ⟨n,hn⟩:=u7s i out last first fin x x' k (j+1) (acc++D4.inn [rd l j] x) (by omega) (by have:=D4.inn_length [rd l j] x;grind)
  refine ⟨n+1,fun N=> ?_⟩;have e:D4.inn (l.drop j) x=D4.inn [rd l j] x++D4.inn (l.drop (j+1)) x:=by rw [Yt hj,<-D4.inn_append];rfl
  rw [e,<-AN,Zx,<-AI,<-hn N];by_cases h1:D4.lo (rd l j)<=x
  .by_cases h2:x<D4.hi (rd l j)
   .rw [D4.inn_t _ _ h1 h2];simp only [D4] at h1 h2 ⊢;simp (disch:=omega) only [Wo,Wj,Yb,Zr,Ym,Yx,Xe,Xs,Wx,Yf,Zq,Zk,Ww,Zj,Ak,AA,Ar,As,Af,Ab]
   .rw [D4.inn_f2 _ _ h2,AO];simp only [D4] at h1 h2;simp (disch:=omega) only [Wo,Wj,Yo,Yb,Zr,Ym,Yx,Xe,Xs,Wx,Yf,Zq,Zk,Ww,Zj,Ak,AA,Ar,As,Af,Ab]
  .rw [D4.inn_f1 _ _ h1,AO];simp only [D4] at h1;simp (disch:=omega) only [Wo,Ew,Yb,Zr,Ym,Yx,Xe,Xs,Wx,Yf,Zq,Zk,Ww,Zj,Ak,AA,Ar,As,Af,Ab]
theorem u7r (i:Nat) (hi:i<=1000) (x x':Int) (s last:zp) (first:Int) (inn:zp) (hs:s.length<=1000): ∀(k j:Nat) (out:zr),j+k=s.length->out.length<=10000000+j->
  ∃n,∀N,Zt (Wo l) (N+n) (.to (.h3 x x' s (s.length:Int) (j:Int) s (i:Int) out last first ((D4.cuts l).length) (CZ (Kc (D4.ends l))) inn))=Zt (Wo l) N (.to (.h1 ((i+1:Nat):Int) (out++(s.drop j).map (D4.put x x')) last first x' ((D4.cuts l).length) (CZ (Kc (D4.ends l)))))
 | 0,j,out,h,ho=>by
  have _u:=hl;refine ⟨1,fun N=> ?_⟩
  grind [Zx,Wo,Zq]
 | k+1,j,out,h,ho=>by
  obtain ⟨n,hn⟩:=u7r i hi x x' s last first inn hs k (j+1) (out++[D4.put x x' (rd s j)]) (by omega) (by simp;omega)
  refine ⟨n+1,fun N=> ?_⟩;have:=hn N;rw [Yt (show j<s.length by omega),A8,<-AN,Zx];simp (disch:=omega) only [Wo,Yb,Zr,Ym,Yx,Xe,Xs,Wx,Yf,Zq,Zk,Ww,Zj,Ak,AA,Ar,As,Af,Ab];rw [AI] at this;exact this
theorem u7q (i:Nat) (hi:i<=1000) (x x' fin:Int) (s last:zp) (first:Int) (inn:zp): ∀(k j:Nat) (out:zr),j+k=out.length->out.length<=10000000->
  ∃n,∀N,Zt (Wo l) (N+n) (.to (.h4 x' (j:Int) x s (i:Int) out last first fin ((D4.cuts l).length) (CZ (Kc (D4.ends l))) inn))=Zt (Wo l) N (.to (.h1 ((i+1:Nat):Int) (D4.grow out j x') last first x' ((D4.cuts l).length) (CZ (Kc (D4.ends l)))))
 | 0,j,out,h,ho=>by
  have _u:=hl;refine ⟨1,fun N=> ?_⟩;rw [D4.grow_nil _ _ _ (by omega),Zx]
  grind [Wo,Zq]
 | k+1,j,out,h,ho=>by
  obtain ⟨n,hn⟩:=u7q i hi x x' fin s last first inn k (j+1) (out.set j (D4.ext x' (rd out j))) (by simp;omega) (by grind)
  refine ⟨n+1,fun N=> ?_⟩;have:=hn N;rw [D4.grow_set out j _ (by omega)] at this;rw [<-AN,Zx];simp (disch:=omega) only [Wo,Yb,Zr,Ym,Yx,Xe,Xs,Wx,Yf,Zq,Zk,Ww,Zj,Ak,AA,Ar,As,Af,Ab];exact this
theorem v5k : ∀(k i:Nat) (s:Sw R4 R2),k=(D4.cuts l).length - 1 - i->i<=(D4.cuts l).length ->s.out.length<=i*1000->s.last.length<=1000->s.first<=s.out.length->
  ∃n,Zt (Wo l) n (.to (.h1 ((i+1:Nat):Int) s.out s.last (s.first:Int) s.fin ((D4.cuts l).length) (CZ (Kc (D4.ends l)))))=.ret (QK (D4.go l k i s).out)
 | 0,i,s,h,hi,ho,hla,hf=>by
  have hc:=D4.cuts_length l;refine ⟨1,?_⟩;rw [Zx,show D4.go l 0 i s=s from rfl]
  grind [QK,Wo,Za]
 | k +1,i,s,h,hi,ho,hla,hf=>by
  have hc:=D4.cuts_length l;have hi1:i+1<(D4.cuts l).length :=by omega
  have hpl:(CZ (Kc (D4.ends l))).length =2*l.length:=by rw [YX,U6,D4.ends_length]
  have r0:rd (CZ (Kc (D4.ends l))) i=rd (D4.cuts l) i:=XO _ _ (by show i<(D4.cuts l).length;omega);have r1:rd (CZ (Kc (D4.ends l))) (i+1)=rd (D4.cuts l) (i+1):=XO _ _ (by show i+1<(D4.cuts l).length;omega);have hbig:i*1000<=1000*1000:=AD _ (by omega);have hsl:=Pc l (rd (D4.cuts l) i);have hsd:D4.sec l (rd (D4.cuts l) i)=Vq (D4.inn l (rd (D4.cuts l) i)):=rfl;obtain ⟨n3,h3⟩:=u7s l hl (i+1) s.out s.last (s.first:Int) s.fin (rd (D4.cuts l) i) (rd (D4.cuts l) (i+1)) l.length 0 [] (Ak _) (Aj _);simp only [AM,Bd,HT] at h3;have w1:Z6 (D4.inn l (rd (D4.cuts l) i))=true:=rfl;have w2:Ke s.last (Vq (D4.inn l (rd (D4.cuts l) i)))=true:=Aa (by omega);have ol:=D4.one_length l (rd (D4.cuts l) i) (rd (D4.cuts l) (i+1)) s;have st0: ∀N,Zt (Wo l) (N+n3+1) (.to (.h1 ((i+1:Nat):Int) s.out s.last (s.first:Int) s.fin ((D4.cuts l).length) (CZ (Kc (D4.ends l)))))=Zt (Wo l) N (.to (.h2 ((i+1:Nat):Int) (l.length:Int) s.out s.last (s.first:Int) s.fin ((D4.cuts l).length) (CZ (Kc (D4.ends l))) (rd (D4.cuts l) i) (rd (D4.cuts l) (i+1)) (D4.inn l (rd (D4.cuts l) i)))):=fun N=>by
   rw [<-h3 N,Zx];have e1:wrap .i64 (((i+1:Nat):Int) - 1)=(i:Int):=by rw [Yy];exact Zq (by omega)
   simp (disch:=omega) only [Wo,e1,r0,r1,Yb,Zr,Ym,Yx,Xe,Xs,Wx,Yf,Zq,Zk,Ww,Zj,Ak,AA,Ar,As,Af,Ab]
  rcases Uz (decide (0<(D4.sec l (rd (D4.cuts l) i)).length)&&((s.fin == rd (D4.cuts l) i)&&D4.same s.last (D4.sec l (rd (D4.cuts l) i)))) with q | q
  .obtain ⟨n5,h5⟩:=u7q l hl (i+1) (by omega) (rd (D4.cuts l) i) (rd (D4.cuts l) (i+1)) s.fin (D4.sec l (rd (D4.cuts l) i)) s.last (s.first:Int) (D4.inn l (rd (D4.cuts l) i)) (s.out.length - s.first) s.first s.out (by omega) (by omega)
   have e:D4.one l (rd (D4.cuts l) i) (rd (D4.cuts l) (i+1)) s=⟨D4.grow s.out s.first (rd (D4.cuts l) (i+1)),s.last,s.first,rd (D4.cuts l) (i+1)⟩:=by unfold DV.one;rw [q];rfl
   obtain ⟨n0,h0⟩:=v5k k (i+1) (D4.one l (rd (D4.cuts l) i) (rd (D4.cuts l) (i+1)) s) (by omega) (by omega) (by omega) (by grind) (by grind [DV.grow_length]);refine ⟨n0+n5+1+n3+1,?_⟩;rw [st0 (n0+n5+1),Zx];simp only [Ad,An] at q;obtain ⟨q1,q2,q3⟩:=q;have q3':EW s.last (Vq (D4.inn l (rd (D4.cuts l) i)))=true:=q3
   grind [Wo,Yb,DV.go]
  .obtain ⟨n4,h4⟩:=u7r l hl (i+1) (by omega) (rd (D4.cuts l) i) (rd (D4.cuts l) (i+1)) (D4.sec l (rd (D4.cuts l) i)) (D4.sec l (rd (D4.cuts l) i)) (s.out.length:Int) (D4.inn l (rd (D4.cuts l) i)) hsl (D4.sec l (rd (D4.cuts l) i)).length 0 s.out (Ak _) (by omega);simp only [AM,HT] at h4;have e:D4.one l (rd (D4.cuts l) i) (rd (D4.cuts l) (i+1)) s=⟨s.out++(D4.sec l (rd (D4.cuts l) i)).map (D4.put (rd (D4.cuts l) i) (rd (D4.cuts l) (i+1))),D4.sec l (rd (D4.cuts l) i),s.out.length,rd (D4.cuts l) (i+1)⟩:=by unfold DV.one;rw [q];rfl
   obtain ⟨n0,h0⟩:=v5k k (i+1) (D4.one l (rd (D4.cuts l) i) (rd (D4.cuts l) (i+1)) s) (by omega) (by omega) (by omega) (by grind) (by rw [e];simp);have hg:Zt (Wo l) 1 (.to (.h2 ((i+1:Nat):Int) (l.length:Int) s.out s.last (s.first:Int) s.fin ((D4.cuts l).length) (CZ (Kc (D4.ends l))) (rd (D4.cuts l) i) (rd (D4.cuts l) (i+1)) (D4.inn l (rd (D4.cuts l) i))))=.to (.h3 (rd (D4.cuts l) i) (rd (D4.cuts l) (i+1)) (D4.sec l (rd (D4.cuts l) i)) ((D4.sec l (rd (D4.cuts l) i)).length :Int) 0 (D4.sec l (rd (D4.cuts l) i)) ((i+1:Nat):Int) s.out (D4.sec l (rd (D4.cuts l) i)) (s.out.length:Int) ((D4.cuts l).length) (CZ (Kc (D4.ends l))) (D4.inn l (rd (D4.cuts l) i))):=by
    rw [show (1:Nat)=0+1 from rfl,Zx];rw [hsd] at q ⊢;have e3:D4.same s.last (Vq (D4.inn l (rd (D4.cuts l) i)))=EW s.last (Vq (D4.inn l (rd (D4.cuts l) i))):=rfl;rw [e3] at q;by_cases q1:0<(Vq (D4.inn l (rd (D4.cuts l) i))).length
    .rw [Aa q1,As] at q;rcases Uz (s.fin == rd (D4.cuts l) i) with q2 | q2
     .rw [q2,As] at q;simp (disch:=omega) only [Wo,Yb,Zr,Yo,Xv,q2,q,w1,w2,Af,Ab];rfl
     .simp (disch:=omega) only [Wo,Yb,Zr,Yo,Xv,q2,w1,w2,Af,Ab];rfl
    .simp (disch:=omega) only [Wo,Yb,Zr,Yo,Xb,w1,w2,Af,Ab];rfl
   refine ⟨n0+n4+1+n3+1,?_⟩;simp_all [x7j,DV.go]
theorem u7t : ∀(k i:Nat) (acc:zq),i+k=l.length->acc=D4.ends (l.take i)-> ∃n,Zt (Wo l) n (.to (.h0 (i:Int) acc))=.ret (QK (D4.go l ((D4.cuts l).length - 1) 0 ⟨[],[],0,0⟩).out)
 | 0,i,acc,h,ha=>by
  have e:acc=D4.ends l:=by grind
  subst e;have hle:=D4.ends_length l;obtain ⟨n,hn⟩:=v5k l hl ((D4.cuts l).length - 1) 0 ⟨[],[],0,0⟩ (by omega) (AH _) (AH _) (AH _) (AH _);refine ⟨n+1,?_⟩;rw [Zx];simp (disch:=omega) only [Wo,YW,x1k,v7l,Yo,Xs,Wx,AA,Af,Ab];exact hn
 | k+1,i,acc,h,ha=>by
  have hle:=D4.ends_length (l.take i);have hacc:acc.length<=2*i:=by grind
  obtain ⟨n,hn⟩:=u7t k (i+1) (acc++D4.ends [rd l i]) (by omega) (by
   rw [ha,Bp];have:l[i]? =some (rd l i):=by grind [Wv]
   rw [this,D4.ends_append];rfl)
  refine ⟨n+1,?_⟩;rw [Zx];simp (disch:=omega) only [Wo,Yb,Zr,Ym,Yx,Xe,Xs,Wx,Yf,Zq,Zk,Ww,Zj,Ak,AA,Ar,As,Af,Ab];exact hn
end
def GQ (l:zr):Int:=I8 (D4.out l).length
def F0 (l:zr):zr:=GT (GQ l) (D4.out l)
def M6 (l:zr):Int:=GQ l
def RH (l:zr):Bool:=decide (l.length<=400)
theorem j2u (l:zr) (h:RH l=true): ∃n,Zt (Wo l) n (x3k l)=.ret (JM (GQ l) (D4.out l)):=by rw [show JM (GQ l) (D4.out l)=QK (D4.out l) from (v7o _).symm];exact u7t l (Aw h) l.length 0 [] (Ak _) rfl
def GA (a b c d:Int):Bool:=D0 ⟨a,b,c,d⟩
theorem u8u (a b c d:Int): ∃N,Zt (x8n a b c d) N (WG a b c d)=.ret [.bool (GA a b c d)]:=⟨0,by
 unfold WG GA D0;simp only [w3k];cases decide (a<c) <;> cases decide (b<d) <;> cases decide (a>= -1000000) <;> cases decide (a<=1000000) <;> cases decide (c>= -1000000) <;> cases decide (c<=1000000) <;> cases decide (b>= -1000000) <;> cases decide (b<=1000000) <;> cases decide (d>= -1000000) <;> rfl⟩
def Oh :zx->Option (B5×Bool)
 | [.agg [.int .i64 bE,.int .i64 bD,.int .i64 bC,.int .i64 bS]]=>some (.bool (GA bE bD bC bS),true)
 | _=>none
theorem j3x {S:B7} (hS:Zv prog S):Zv prog (S.with w5e Oh):=by
 refine CU hS (by kernel_rfl) fun args v h=> ?_;unfold Oh at h;split at h
 .rename_i bE bD bC bS;simp only [Ae,Ac,B2] at h;subst h;obtain ⟨N,hN⟩:=u8u bE bD bC bS;exact ⟨_,_,(.cons (.refl _) .nil),rfl,v8n bE bD bC bS N _ hN,3,rfl⟩
 .cases h
def PA :zx->Option (B5×Bool)
 | [a0]=>match C5 R4 a0 with
  | some (L0,g0,n0)=>some (.tup [.dat (F0 L0).length (Zz (F0 L0)),.int .i64 (M6 L0)],CV R4 n0 g0&&(RH L0))
  | _=>none
 | _=>none
theorem j5a {S:B7} (hS:Zv prog S):Zv prog (S.with v5h PA):=by
 refine OZ hS (by kernel_rfl) fun args v h=> ?_;unfold PA at h;split at h
 .rename_i a0;split at h
  .rename_i L0 g0 n0 e0;simp only [Ae,Ac,Ad] at h;obtain ⟨rfl,ho0,hw⟩:=h;obtain ⟨N,hN⟩:=j2u L0 hw;exact ⟨_,_,(.cons (Xd e0 ho0) .nil),u0o _ _,u2h L0 N _ hN,3,j1r _ _⟩
  .cases h
 .cases h
def T6v :B7:=(T6.with w5e Oh)
theorem P5 :Zv prog T6v:=(j3x Qi)
def T6m :B7:=(T6v.with v5h PA)
theorem MO :Zv prog T6m:=(j5a P5)
inductive Hp where
 | h0 (v8:Int)
def NV (l0:zr):Hp->CH
 | .h0 v8=>⟨⟨19,0,true⟩,none,(Zf prog 197 (pn 37) 0),none,(Zy prog 3),⟨Yh [(0,(dt l0)),(1,(.fn 165 [])),(7,(ii (l0.length:Int))),(8,(ii v8))],Wd [] 0,0,[],true⟩,[⟨⟨9,0,true⟩,(C4 prog 164 [1,0] 2),(Zf prog 164 [1,0] 1),none,(Zy prog 3),Yh [(5,(dt l0)),(6,(.fn 165 []))]⟩,⟨⟨13,0,true⟩,(C4 prog 140 (pn 19) 1),(Zf prog 140 (pn 19) 1),none,(Zy prog 10),Yh [(0,(dt l0)),(7,(dt l0))]⟩],.leaf⟩
def K7 :List (Option zw):=[some [0,1,7,8],some [5,6],some [0,7]]
def K8 :List (Option zw):=[]
def Id (l0:zr):Hp->Xy Hp
 | .h0 v8=>let e:=rd l0 v8.toNat;let f:=F0 (B6 l0);(bif (decide (v8<(l0.length:Int))) then (bif ((decide (0<=v8/\v8<(l0.length:Int)))&&true) then (bif (!(GA e.a e.b e.c e.d)) then (bif (decide (v8>=0)) then (.ret [.nils,(.int .i64 8)]) else (bif (RH (B6 l0)) then (.ret [(.dat f.length (Zz f)),(.int .i64 (M6 (B6 l0)))]) else .stuck)) else (.to (.h0 (wrap .i64 (v8+1))))) else .stuck) else (bif (RH (B6 l0)) then (.ret [(.dat f.length (Zz f)),(.int .i64 (M6 (B6 l0)))]) else .stuck))
def Rr (l0:zr):Xy Hp:=(bif (decide ((l0.length:Int)>400)) then (.ret [.nils,(.int .i64 4)]) else (.to (.h0 0)))
theorem w8r (l0:zr): ∀s,Wu prog (Zy prog 140) (NV l0) (NV l0 s) (Id l0 s)
 | .h0 v8=>let a:=F0 (B6 l0);let c:=ii (M6 (B6 l0));(lb (fun k0=>(lo fun aB=>let b:=ww aB (tt k0 nn);(lb (fun k1=>(lb (fun k2=>(lr 13 140 (pn 75) 1 10 [(2,.nils),(3,(ii 8))] (sl MO 54 [] (b8 [2,3]) b7 (CC 3 []) (tt k2 (tt k1 b))))) (fun k2=>(lo fun o0=>(lr 13 3 (pn 191) 1 10 [(2,(dt a)),(3,c)] (sl MO 59 [] (b8 [2,3]) b7 (bl 3 3) (pp (pp (xr l0) (xw o0)) (tt k2 (tt k1 b))))))))) (fun k1=>(sl MO 44 [] ⟨[],[],K7,K8⟩ b7 (bl 2 1) (tt k1 b)))))) (fun k0=>(lo fun o0=>(lr 13 3 (pn 191) 1 10 [(2,(dt a)),(3,c)] (sl MO 28 [] (b8 [2,3]) b7 (bl 2 0) (pp (pp (xr l0) (xw o0)) (tt k0 nn)))))))
theorem w0j (l0:zr):Wu prog (Zy prog 140) (NV l0) (Zm prog 140 [(dt l0)] true []) (Rr l0):=(lb (fun k0=>(lr 13 140 (pn 37) 1 10 [(2,.nils),(3,(ii 4))] (sl MO 18 [] (b8 [2,3]) b7 [true] (tt k0 nn)))) (fun k0=>(sl MO 41 [] ⟨[],[],K7,K8⟩ b7 [false] (tt k0 nn))))
theorem u0m (l0:zr) (n:Nat) (vs:zx) (h:Zt (Id l0) n (Rr l0)=.ret vs):Kw prog (Zy prog 140) (Zm prog 140 [(dt l0)] true []) vs:=by have:=Zb (w8r l0) n _ (w0j l0);rwa [h] at this
theorem u6j (l:zr) (hl:l.length<=400): ∀(k i:Nat),i+k=l.length->(∀s∈l.take i,D0 s=true)-> ∃n,Zt (Id l) n (.to (.h0 (i:Int)))=.ret (bif l.all D0 then [.dat (F0 l).length (Zz (F0 l)),.int .i64 (M6 l)] else [.nils,.int .i64 8])
 | 0,i,h,ht=>by
  have hv:l.all D0=true:=Ax.2 fun s hs=>ht s (by grind);have w:RH l=true:=Aa hl;refine ⟨1,?_⟩
  grind [Zx,Id,Yb,Za]
 | k+1,i,h,ht=>by
  have hi:i<l.length:=by omega
  have hs:Id l (.h0 (i:Int))=bif D0 (rd l i) then .to (.h0 ((i+1:Nat):Int)) else .ret [.nils,.int .i64 8]:=by have e:GA (rd l i).a (rd l i).b (rd l i).c (rd l i).d =D0 (rd l i):=rfl;simp (disch:=omega) only [Id,e,w3j,v7a,u8g,Yx,Zq,Zk,Zj,Ar,Af,Ab]
  rcases Uz (D0 (rd l i)) with q | q
  .obtain ⟨n,hn⟩:=u6j l hl k (i+1) (by omega) (fun s hs=>by
    rw [Bp] at hs
    grind [Wv])
   refine ⟨n+1,?_⟩
   grind [Zx]
  .have hv:l.all D0=false:=AY.2 fun e=>by
    grind [Wv]
   refine ⟨1,?_⟩
   grind [Zx,Za]
theorem u0l (l:zr): ∃n,Zt (Id l) n (Rr l)=.ret (bif decide (400<l.length) then [.nils,.int .i64 4] else bif l.all D0 then [.dat (F0 l).length (Zz (F0 l)),.int .i64 (M6 l)] else [.nils,.int .i64 8]):=by
 unfold Rr;by_cases h:400<l.length
 .refine ⟨0,?_⟩;rw [Aa h,Xv (show (l.length:Int)>400 by omega)];rfl
 .obtain ⟨n,hn⟩:=u6j l (by omega) l.length 0 (Ak _) (fun s hs=>by simp at hs)
  grind
def Wt (l:zr):zr:=bif decide (400<l.length) then [] else bif l.all D0 then (bif decide (((D4.out l).length :Int)>400) then [] else D4.out l) else []
def HP (l:zr):Int:=bif decide (400<l.length) then 4 else bif l.all D0 then (bif decide (((D4.out l).length :Int)>400) then 4 else 0) else 8
def WX (l:zr):Bool:=true
theorem j1o (l:zr) (h:WX l=true): ∃n,Zt (Id l) n (Rr l)=.ret (bif decide (400<l.length) then [.nils,.int .i64 4] else bif l.all D0 then [.dat (Wt l).length (Zz (Wt l)),.int .i64 (HP l)] else [.nils,.int .i64 8]):=by
 obtain ⟨n,hn⟩:=u0l l
 grind [F0,Wt,GQ,GT,I8,M6,HP]
def Ov :zx->Option (B5×Bool)
 | [a0]=>match C5 R4 a0 with
  | some (L0,g0,n0)=>some (.tup [.dat (Wt L0).length (Zz (Wt L0)),.int .i64 (HP L0)],CV R4 n0 g0&&(WX L0))
  | _=>none
 | _=>none
theorem j4r {S:B7} (hS:Zv prog S):Zv prog (S.with w5f Ov):=by
 refine OZ hS (by kernel_rfl) fun args v h=> ?_;unfold Ov at h;split at h
 .rename_i a0;split at h
  .rename_i L0 g0 n0 e0;simp only [Ae,Ac,Ad] at h;obtain ⟨rfl,ho0,hw⟩:=h;obtain ⟨N,hN⟩:=j1o L0 hw;refine ⟨_,_,(.cons (Xd e0 ho0) .nil),?_,u0m L0 N _ hN,3,?_⟩
   .cases h1:decide (400<L0.length) <;> cases h2:L0.all D0 <;> simp only [Wt,HP,h1,h2,Af,Ab]
    .exact fun ρ u hu=>G6 (.cons (Gb R4) (Cd.refl _)) ρ u hu
    .exact fun ρ u hu=>hu
    .exact fun ρ u hu=>G6 (.cons (Gb R4) (Cd.refl _)) ρ u hu
    .exact fun ρ u hu=>G6 (.cons (Gb R4) (Cd.refl _)) ρ u hu
   .cases decide (400<L0.length) <;> cases L0.all D0 <;> rfl
  .cases h
 .cases h
def T7 :B7:=(T6m.with w5f Ov)
theorem Iz :Zv prog T7:=(j4r MO)
inductive HW where
def Mj (bE:Int) (bD:Int) (bC:Int) (bS:Int) (cK:Int) (cL:Int):HW->CH
 :=nofun
def x8l (bE:Int) (bD:Int) (bC:Int) (bS:Int) (cK:Int) (cL:Int):HW->Xy HW
 :=nofun
def WH (bE:Int) (bD:Int) (bC:Int) (bS:Int) (cK:Int) (cL:Int):Xy HW:=(bif (decide (bE<bS)) then (bif (decide (bD<cK)) then (bif (decide (bC<cL)) then (bif (decide ((Cl (Cl bE bD) bC)>=(-1000000))) then (bif (decide ((Ck (Ck bE bD) bC)<=1000000)) then (bif (decide ((Cl (Cl bS cK) cL)>=(-1000000))) then (.ret [(.bool (decide ((Ck (Ck bS cK) cL)<=1000000)))]) else (.ret [(.bool false)])) else (.ret [(.bool false)])) else (.ret [(.bool false)])) else (.ret [(.bool false)])) else (.ret [(.bool false)])) else (.ret [(.bool false)]))
theorem w6w (bE:Int) (bD:Int) (bC:Int) (bS:Int) (cK:Int) (cL:Int): ∀s,Wu prog (Zy prog 101) (Mj bE bD bC bS cK cL) (Mj bE bD bC bS cK cL s) (x8l bE bD bC bS cK cL s)
 :=nofun
theorem x8m (bE:Int) (bD:Int) (bC:Int) (bS:Int) (cK:Int) (cL:Int):Wu prog (Zy prog 101) (Mj bE bD bC bS cK cL) (Zm prog 101 [(.agg [(.int .i64 bE),(.int .i64 bD),(.int .i64 bC),(.int .i64 bS),(.int .i64 cK),(.int .i64 cL)])] true []) (WH bE bD bC bS cK cL):=(lb (fun k0=>(lb (fun k1=>let b:=tt k1 (tt k0 nn);(lb (fun k2=>let a:=tt k2 b;(lb (fun k3=>(lb (fun k4=>let c:=tt k4 (tt k3 a);(lb (fun k5=>(lr 38 3 (pn 191) 1 9 [(2,(.bool (decide ((Ck (Ck bS cK) cL)<=1000000))))] (sl Iz 100 [] (b8 [2]) b7 (CC 36 []) (tt k5 c)))) (fun k5=>(lr 38 3 (pn 191) 1 9 [(2,(.bool false))] (sl Iz 100 [] (b8 [2]) b7 (CC 28 (bl 8 0)) (tt k5 c)))))) (fun k4=>(lr 38 3 (pn 191) 1 9 [(2,(.bool false))] (sl Iz 72 [] (b8 [2]) b7 (CC 25 (bl 3 0)) (tt k4 (tt k3 a))))))) (fun k3=>(lr 38 3 (pn 191) 1 9 [(2,(.bool false))] (sl Iz 72 [] (b8 [2]) b7 (CC 17 (bl 11 0)) (tt k3 a)))))) (fun k2=>(lr 38 3 (pn 191) 1 9 [(2,(.bool false))] (sl Iz 44 [] (b8 [2]) b7 (CC 14 (bl 6 0)) (tt k2 b)))))) (fun k1=>(lr 38 3 (pn 191) 1 9 [(2,(.bool false))] (sl Iz 44 [] (b8 [2]) b7 (CC 7 (bl 13 0)) (tt k1 (tt k0 nn))))))) (fun k0=>(lr 38 3 (pn 191) 1 9 [(2,(.bool false))] (sl Iz 44 [] (b8 [2]) b7 (bl 20 0) (tt k0 nn)))))
theorem v8m (bE:Int) (bD:Int) (bC:Int) (bS:Int) (cK:Int) (cL:Int) (n:Nat) (vs:zx) (h:Zt (x8l bE bD bC bS cK cL) n (WH bE bD bC bS cK cL)=.ret vs):Kw prog (Zy prog 101) (Zm prog 101 [(.agg [(.int .i64 bE),(.int .i64 bD),(.int .i64 bC),(.int .i64 bS),(.int .i64 cK),(.int .i64 cL)])] true []) vs:=by have:=Zb (w6w bE bD bC bS cK cL) n _ (x8m bE bD bC bS cK cL);rwa [h] at this
def D1 (r:R6):Bool:=decide (r.a<r.d)&&(decide (r.b<r.e)&&(decide (r.c<r.f)&&(decide ((Cl (Cl r.a r.b) r.c)>=(-1000000))&&(decide ((Ck (Ck r.a r.b) r.c)<=1000000)&&(decide ((Cl (Cl r.d r.e) r.f)>=(-1000000))&&decide ((Ck (Ck r.d r.e) r.f)<=1000000))))))
def Fy (a b c d e f:Int):Bool:=D1 ⟨a,b,c,d,e,f⟩
theorem u8t (a b c d e f:Int): ∃N,Zt (x8l a b c d e f) N (WH a b c d e f)=.ret [.bool (Fy a b c d e f)]:=⟨0,by
 unfold WH Fy D1;simp only [w3k];cases decide (a<d) <;> cases decide (b<e) <;> cases decide (c<f) <;> cases decide ((Cl (Cl a b) c)>=(-1000000)) <;> cases decide ((Ck (Ck a b) c)<=1000000) <;> cases decide ((Cl (Cl d e) f)>=(-1000000)) <;> rfl⟩
def Og :zx->Option (B5×Bool)
 | [.agg [.int .i64 bE,.int .i64 bD,.int .i64 bC,.int .i64 bS,.int .i64 cK,.int .i64 cL]]=>some (.bool (Fy bE bD bC bS cK cL),true)
 | _=>none
theorem j3w {S:B7} (hS:Zv prog S):Zv prog (S.with w5d Og):=by
 refine CU hS (by kernel_rfl) fun args v h=> ?_;unfold Og at h;split at h
 .rename_i bE bD bC bS cK cL;simp only [Ae,Ac,B2] at h;subst h;obtain ⟨N,hN⟩:=u8t bE bD bC bS cK cL;exact ⟨_,_,(.cons (.refl _) .nil),rfl,v8m bE bD bC bS cK cL N _ hN,3,rfl⟩
 .cases h
def T7v :B7:=(T7.with w5d Og)
theorem Uo :Zv prog T7v:=(j3w Iz)
inductive H5 where
 | h0 (v8:Int)
 | h1 (v16:Int) (aG:zq)
 | h2 (v4:Int) (cA:zt) (cS:zr) (cX:Int) (cY:Int) (bZ:Nat) (cF:zq)
 | h3 (v4:Int) (v38:Int) (cA:zt) (cS:zr) (cX:Int) (cY:Int) (bZ:Nat) (cF:zq) (cQ:Int) (dC:Int) (bB:zr)
 | h4 (v1:Int) (v2:Int) (v72:zr) (v73:Int) (v74:Int) (bK:zr) (cM:Int) (aN:zt) (aA:zr) (bF:Int) (bZ:Nat) (cF:zq) (cQ:zr)
 | h5 (v2:Int) (v8:Int) (dN:Int) (bK:zr) (cM:Int) (aN:zt) (aA:zr) (bF:Int) (bH:Int) (dA:Nat) (dK:zq) (bB:zr)
def Mv (l0:zt):H5->CH
 | .h0 v8=>⟨⟨19,0,true⟩,none,(Zf prog 137 (pn 37) 0),none,(Zy prog 3),⟨Yh [(0,(dt l0)),(1,(.fn 100 [])),(7,(ii (l0.length:Int))),(8,(ii v8))],Wd [] 0,0,[],true⟩,[⟨⟨9,0,true⟩,(C4 prog 99 [1,0] 2),(Zf prog 99 [1,0] 1),none,(Zy prog 3),Yh [(5,(dt l0)),(6,(.fn 100 []))]⟩,⟨⟨25,0,true⟩,(C4 prog 61 (pn 19) 1),(Zf prog 61 (pn 19) 1),none,(Zy prog 9),Yh [(0,(dt l0)),(8,(dt l0))]⟩],.leaf⟩
 | .h1 v16 aG=>⟨⟨36,0,true⟩,none,(Zf prog 139 (pn 19659) 0),none,(Zy prog 9),⟨Yh [(1,(.ptr 0 0)),(3,(.ptr 2 0)),(8,(.sl 1 0 1 (.un 1))),(9,(ii 1)),(10,(ii 0)),(14,(dt l0)),(15,(ii (l0.length:Int))),(16,(ii v16))],Wd [⟨[(.sl 1 0 1 (.un 1))],194,none⟩,⟨[(dt l0)],45,none⟩,⟨[(.sla 7 1 0 aG.length (.un 1))],83,none⟩,⟨[.nilf],174,none⟩,⟨[.nils],46,none⟩,⟨[(ii 0)],24,none⟩,⟨[.nils,.nils,(ii 0),(ii 0)],198,none⟩,(rz aG 3 1)] 0,8,[],true⟩,[⟨⟨65,0,true⟩,(C4 prog 102 (pn 19) 1),(Zf prog 102 (pn 19) 1),none,(Zy prog 102),Yh [(2,(.ptr 3 0)),(4,(.ptr 4 0)),(5,(.ptr 5 0)),(6,(.ptr 6 0)),(13,(.sl 1 0 1 (.un 1)))]⟩,⟨⟨25,0,true⟩,(C4 prog 61 (pn 39) 3),(Zf prog 61 (pn 39) 1),none,(Zy prog 9),Yh [(0,(dt l0)),(11,(.agg [.nilf])),(13,(.sl 1 0 1 (.un 1)))]⟩],.leaf⟩
 | .h2 v4 cA cS cX cY bZ cF=>⟨⟨86,0,true⟩,none,(Zf prog 163 [1,0,0] 0),none,[],⟨Yh [(0,(.yld 0)),(1,(.ptr 5 0)),(2,(.ptr 7 0)),(4,(ii v4))],Ee [(1,⟨[.nilf],174,none⟩),(2,⟨[.nils],46,none⟩),(3,⟨[(ii 0)],24,none⟩),(4,⟨[(.sla 9 6 0 cA.length (.un 6)),(dt cS),(ii cX),(ii cY)],198,none⟩),(5,⟨[(.sla 6 1 0 bZ (.un 1))],83,none⟩),(6,(rz cF 3 1)),(7,⟨[(.sl 8 0 1 (.un 1))],194,none⟩),(8,⟨[(dt l0)],45,none⟩),(9,(rz cA 79 6))],10,[],true⟩,[⟨⟨65,0,true⟩,none,(.inRangeFunc 0::(Zf prog 102 (pn 43) 1)),none,(Zy prog 102),Yh [(4,(.ptr 2 0)),(5,(.ptr 3 0)),(6,(.ptr 4 0))]⟩,⟨⟨25,0,true⟩,(C4 prog 61 (pn 39) 3),(Zf prog 61 (pn 39) 1),none,(Zy prog 9),Yh [(0,(dt l0)),(11,(.agg [.nilf])),(13,(.sl 8 0 1 (.un 1)))]⟩],(Ed [(0,⟨.ready,none,65,Yh [(2,(.ptr 1 0)),(4,(.ptr 2 0)),(5,(.ptr 3 0)),(6,(.ptr 4 0))],[15],(Cr prog 102 [1,1,0,1,0,0]),(Cr prog 102 [1,1,0,1,0,1])⟩)])⟩
 | .h3 v4 v38 cA cS cX cY bZ cF cQ dC bB=>⟨⟨86,0,true⟩,none,(Zf prog 163 (pn 629065) 0),none,[],⟨Yh [(0,(.yld 0)),(1,(.ptr 5 0)),(2,(.ptr 7 0)),(4,(ii v4)),(5,(.ptr 9 0)),(6,(ii 0)),(29,(.sl 8 0 1 (.un 1))),(30,(ii 1)),(31,(ii 0)),(36,(dt l0)),(37,(ii (l0.length:Int))),(38,(ii v38))],Ee [(1,⟨[.nilf],174,none⟩),(2,⟨[.nils],46,none⟩),(3,⟨[(ii 0)],24,none⟩),(4,⟨[(.sla 12 6 0 cA.length (.un 6)),(dt cS),(ii cX),(ii cY)],198,none⟩),(5,⟨[(.sla 6 1 0 bZ (.un 1))],83,none⟩),(6,(rz cF 3 1)),(7,⟨[(.sl 8 0 1 (.un 1))],194,none⟩),(8,⟨[(dt l0)],45,none⟩),(9,⟨[(ii cQ),(ii dC),(.sl 10 0 1 (.ex 1))],203,none⟩),(10,⟨[(.sla 11 4 0 bB.length (.un 4))],195,none⟩),(11,(rz bB 168 4)),(12,(rz cA 79 6))],13,[],true⟩,[⟨⟨65,0,true⟩,none,(.inRangeFunc 0::(Zf prog 102 (pn 43) 1)),none,(Zy prog 102),Yh [(4,(.ptr 2 0)),(5,(.ptr 3 0)),(6,(.ptr 4 0))]⟩,⟨⟨25,0,true⟩,(C4 prog 61 (pn 39) 3),(Zf prog 61 (pn 39) 1),none,(Zy prog 9),Yh [(0,(dt l0)),(11,(.agg [.nilf])),(13,(.sl 8 0 1 (.un 1)))]⟩],(Ed [(0,⟨.ready,none,65,Yh [(2,(.ptr 1 0)),(4,(.ptr 2 0)),(5,(.ptr 3 0)),(6,(.ptr 4 0))],[15],(Cr prog 102 [1,1,0,1,0,0]),(Cr prog 102 [1,1,0,1,0,1])⟩)])⟩
 | .h4 v1 v2 v72 v73 v74 bK cM aN aA bF bZ cF cQ=>⟨⟨101,0,true⟩,none,(Zf prog 141 (pn 39) 0),none,[],⟨Yh [(0,(.ptr 0 0)),(1,(ii v1)),(2,(ii v2)),(72,(dt v72)),(73,(ii v73)),(74,(ii v74))],Ee [(0,⟨[(.sla 10 6 0 aN.length (.un 6)),(dt aA),(ii bF),(ii v2)],198,none⟩),(2,⟨[.nilf],174,none⟩),(3,⟨[.nils],46,none⟩),(4,⟨[(ii 0)],24,none⟩),(5,⟨[(.sla 6 1 0 bZ (.un 1))],83,none⟩),(6,(rz cF 3 1)),(7,⟨[(.sl 8 0 1 (.un 1))],194,none⟩),(8,⟨[(dt l0)],45,none⟩),(9,⟨[(dt cQ)],195,none⟩),(10,(rz aN 79 6))],11,[],true⟩,[⟨⟨65,0,true⟩,(C4 prog 102 (pn 1963) 5),(Zf prog 102 (pn 1963) 1),(some 1),[],Yh [(6,(.ptr 0 0)),(54,(ii v1)),(56,(ii v2)),(57,(dt bK))]⟩,⟨⟨86,0,true⟩,(C4 prog 163 (pn 713) 2),(Zf prog 163 (pn 713) 1),none,[],Yh [(0,(.yld 1)),(1,(.ptr 5 0)),(2,(.ptr 7 0)),(4,(ii cM)),(82,(.yld 1)),(83,(.agg [(ii v1),(ii v2),(.sl 9 0 1 (.ex 1))]))]⟩,⟨⟨65,0,true⟩,none,(.inRangeFunc 1::(Zf prog 102 (pn 43) 1)),none,(Zy prog 102),Yh [(4,(.ptr 3 0)),(5,(.ptr 4 0)),(6,(.ptr 0 0))]⟩,⟨⟨25,0,true⟩,(C4 prog 61 (pn 39) 3),(Zf prog 61 (pn 39) 1),none,(Zy prog 9),Yh [(0,(dt l0)),(11,(.agg [.nilf])),(13,(.sl 8 0 1 (.un 1)))]⟩],(Ed [(1,⟨.busy,none,65,Yh [(2,(.ptr 2 0)),(4,(.ptr 3 0)),(5,(.ptr 4 0)),(6,(.ptr 0 0))],[15],(Cr prog 102 [1,1,0,1,0,0]),(Cr prog 102 [1,1,0,1,0,1])⟩)])⟩
 | .h5 v2 v8 dN bK cM aN aA bF bH dA dK bB=>⟨⟨101,0,true⟩,none,(Zf prog 141 (pn 146) 0),none,[],⟨Yh [(0,(.ptr 0 0)),(2,(ii v2)),(8,(ii v8))],Ee [(0,⟨[(.sla 1 6 0 aN.length (.un 6)),(dt aA),(ii bF),(ii bH)],198,none⟩),(1,(rz aN 79 6)),(3,⟨[.nilf],174,none⟩),(4,⟨[.nils],46,none⟩),(5,⟨[(ii 0)],24,none⟩),(6,⟨[(.sla 7 1 0 dA (.un 1))],83,none⟩),(7,(rz dK 3 1)),(8,⟨[(.sl 9 0 1 (.un 1))],194,none⟩),(9,⟨[(dt l0)],45,none⟩),(10,⟨[(dt bB)],195,none⟩)],11,[],true⟩,[⟨⟨65,0,true⟩,(C4 prog 102 (pn 1963) 5),(Zf prog 102 (pn 1963) 1),(some 2),[],Yh [(6,(.ptr 0 0)),(54,(ii dN)),(56,(ii v2)),(57,(dt bK))]⟩,⟨⟨86,0,true⟩,(C4 prog 163 (pn 713) 2),(Zf prog 163 (pn 713) 1),none,[],Yh [(0,(.yld 2)),(1,(.ptr 6 0)),(2,(.ptr 8 0)),(4,(ii cM)),(82,(.yld 2)),(83,(.agg [(ii dN),(ii v2),(.sl 10 0 1 (.ex 1))]))]⟩,⟨⟨65,0,true⟩,none,(.inRangeFunc 2::(Zf prog 102 (pn 43) 1)),none,(Zy prog 102),Yh [(4,(.ptr 4 0)),(5,(.ptr 5 0)),(6,(.ptr 0 0))]⟩,⟨⟨25,0,true⟩,(C4 prog 61 (pn 39) 3),(Zf prog 61 (pn 39) 1),none,(Zy prog 9),Yh [(0,(dt l0)),(11,(.agg [.nilf])),(13,(.sl 9 0 1 (.un 1)))]⟩],(Ed [(2,⟨.busy,none,65,Yh [(2,(.ptr 3 0)),(4,(.ptr 4 0)),(5,(.ptr 5 0)),(6,(.ptr 0 0))],[15],(Cr prog 102 [1,1,0,1,0,0]),(Cr prog 102 [1,1,0,1,0,1])⟩)])⟩
def JX :List (Option zw):=[some [0,1,7,8],some [5,6],some [0,8]]
def JZ :List (Option zw):=[]
def u9l :List (Option zw):=[some [1,3,8,9,10,14,15,16],some [2,4,5,6,13],some [0,11,13]]
def u9n :List (Option zw):=[]
def u9k :List (Option zw):=[some [0,1,2,4],some [4,5,6],some [0,11,13]]
def u9m :List (Option zw):=[some [2,4,5,6],none,none,none,none,none,none,none,none,none]
def XT :List (Option zw):=[some [0,1,2,4,5,6,29,30,31,36,37,38],some [4,5,6],some [0,11,13]]
def XR :List (Option zw):=[some [2,4,5,6],none,none,none,none,none,none,none,none,none,none,none,none]
def XU :List (Option zw):=[some [0,1,2,72,73,74],some [6,54,56,57],some [0,1,2,4,82,83],some [4,5,6],some [0,11,13]]
def XS :List (Option zw):=[none,some [2,4,5,6],none,none,none,none,none,none,none,none,none]
def JW :List (Option zw):=[some [0,2,8],some [6,54,56,57],some [0,1,2,4,82,83],some [4,5,6],some [0,11,13]]
def JY :List (Option zw):=[none,none,some [2,4,5,6],none,none,none,none,none,none,none,none]
def Xr (l0:zt):H5->Xy H5
 | .h0 v8=>let g:=rd l0 v8.toNat;(bif (decide (v8<(l0.length:Int))) then (bif ((decide (0<=v8/\v8<(l0.length:Int)))&&true) then (bif (!(Fy g.a g.b g.c g.d g.e g.f)) then (bif (decide (v8>=0)) then (.ret [(.int .i64 8)]) else (.to (.h1 0 ([]:zq)))) else (.to (.h0 (wrap .i64 (v8+1))))) else .stuck) else (.to (.h1 0 ([]:zq))))
 | .h1 v16 aG=>let a:=Xk aG.length (Cb (Zz (Kc (Xk aG.length (Cb (Zz aG))))));let b:=rd l0 v16.toNat;(bif (decide (v16<(l0.length:Int))) then (bif ((decide (0<=v16/\v16<(l0.length:Int)))&&true) then (bif (Nat.beq 1 1&&((decide (0+aG.length=aG.length))&&decide ((aG.length+2+1)*(8+1)<=Vw))) then (.to (.h1 (wrap .i64 (v16+1)) (aG++[b.c,b.f]))) else .stuck) else .stuck) else (bif (decide (aG.length<4611686018427387904)) then (bif (decide (aG.length=aG.length)) then (.to (.h2 1 ([]:zt) ([]:zr) 0 0 (GW a) (CZ a))) else .stuck) else .stuck))
 | .h2 v4 cA cS cX cY bZ cF=>(bif (decide (v4<((bZ:Nat):Int))) then (bif ((decide (0<=(wrap .i64 (v4 - 1))/\(wrap .i64 (v4 - 1))<((bZ:Nat):Int)))&&true) then (bif (decide ((0+(Int.toNat (wrap .i64 (v4 - 1))))<cF.length)) then (bif ((decide (0<=v4/\v4<((bZ:Nat):Int)))&&true) then (bif (decide ((0+v4.toNat)<cF.length)) then (.to (.h3 v4 0 cA cS cX cY bZ cF (rd cF (0+(Int.toNat (wrap .i64 (v4 - 1))))) (rd cF (0+v4.toNat)) ([]:zr))) else .stuck) else .stuck) else .stuck) else .stuck) else (bif (decide ((cA.length:Int)>400)) then (.ret [(.int .i64 8)]) else (bif (Nat.beq 6 6&&(decide (0+cA.length<=cA.length)&&Cv (Zz cA))) then (bif (Us (CG R6 (cA.length) (fun k=>(Zz cA) (0+k))) (B6 l0)) then (bif (!(Dy (CG R6 (cA.length) (fun k=>(Zz cA) (0+k))) (B6 l0))) then (.ret [(.int .i64 8)]) else (.ret [(.int .i64 0)])) else .stuck) else .stuck)))
 | .h3 v4 v38 cA cS cX cY bZ cF cQ dC bB=>let g:=Wt (B6 bB);let h:=rd l0 v38.toNat;(bif (decide (v38<(l0.length:Int))) then (bif ((decide (0<=v38/\v38<(l0.length:Int)))&&true) then (bif (decide (h.c <=cQ)) then (bif (decide (cQ<h.f)) then (bif (Nat.beq 4 4&&((decide (0+bB.length=bB.length))&&decide ((bB.length+1+1)*(32+1)<=Vw))) then (.to (.h3 v4 (wrap .i64 (v38+1)) cA cS cX cY bZ cF cQ dC (bB++[(R4.mk h.a h.b h.d h.e)]))) else .stuck) else (.to (.h3 v4 (wrap .i64 (v38+1)) cA cS cX cY bZ cF cQ dC bB))) else (.to (.h3 v4 (wrap .i64 (v38+1)) cA cS cX cY bZ cF cQ dC bB))) else .stuck) else (bif (WX (B6 bB)) then (bif ((HP (B6 bB)) != 0) then (.ret [(.int .i64 8)]) else (bif (decide (((g.length :Nat):Int)>0)) then (bif (cY == cQ) then (bif (Kd (B6 cS) (B6 g)) then (bif (EX (B6 cS) (B6 g)) then (.to (.h5 dC cX cQ g v4 cA cS cX cY bZ cF bB)) else (.to (.h4 cQ dC g ((g.length :Nat):Int) 0 g v4 cA g (cA.length:Int) bZ cF bB))) else .stuck) else (.to (.h4 cQ dC g ((g.length :Nat):Int) 0 g v4 cA g (cA.length:Int) bZ cF bB))) else (.to (.h4 cQ dC g ((g.length :Nat):Int) 0 g v4 cA g (cA.length:Int) bZ cF bB)))) else .stuck))
 | .h4 v1 v2 v72 v73 v74 bK cM aN aA bF bZ cF cQ=>let e:=rd v72 v74.toNat;(bif (decide (v74<v73)) then (bif ((decide (0<=v74/\v74<(v72.length:Int)))&&true) then (bif (Nat.beq 6 6&&((decide (0+aN.length=aN.length))&&decide ((aN.length+1+1)*(48+1)<=Vw))) then (.to (.h4 v1 v2 v72 v73 (wrap .i64 (v74+1)) bK cM (aN++[(R6.mk e.a e.b v1 e.c e.d v2)]) aA bF bZ cF cQ)) else .stuck) else .stuck) else (.to (.h2 (wrap .i64 (cM+1)) aN aA bF v2 bZ cF)))
 | .h5 v2 v8 dN bK cM aN aA bF bH dA dK bB=>let f:=rd aN (0+v8.toNat);(bif (decide (v8<(aN.length:Int))) then (bif ((decide (0<=v8/\v8<(aN.length:Int)))&&true) then (bif (decide ((0+v8.toNat)<aN.length)) then (.to (.h5 v2 (wrap .i64 (v8+1)) dN bK cM (aN.set (0+v8.toNat) (R6.mk f.a f.b f.c f.d f.e v2)) aA bF bH dA dK bB)) else .stuck) else .stuck) else (.to (.h2 (wrap .i64 (cM+1)) aN aA bF v2 dA dK)))
def WD (l0:zt):Xy H5:=(bif (decide ((l0.length:Int)>400)) then (.ret [(.int .i64 4)]) else (.to (.h0 0)))
theorem w7n (l0:zt): ∀s,Wu prog (Zy prog 61) (Mv l0) (Mv l0 s) (Xr l0 s)
 | .h0 v8=>let b:=fl ([]:zq) nn;(lb (fun k0=>(lo fun aB=>let a:=ww aB (tt k0 nn);(lb (fun k1=>(lb (fun k2=>(lr 25 61 (pn 75) 1 9 [(2,(ii 8))] (sl Uo 53 [] (b8 [2]) b7 (CC 3 []) (tt k2 (tt k1 a))))) (fun k2=>(sl Uo 113 [(3,1,Zz ([]:zq))] ⟨[6,1,7,2,3,4,5,8],[],u9l,u9n⟩ ⟨[],[.keep,.keep,.cells [.grow 7 1],.keep,.keep,.keep,.keep,.keep],[]⟩ (bl 4 11) (pp b (tt k2 (tt k1 a))))))) (fun k1=>(sl Uo 44 [] ⟨[],[],JX,JZ⟩ b7 (bl 2 1) (tt k1 a)))))) (fun k0=>(sl Uo 82 [(3,1,Zz ([]:zq))] ⟨[5,0,6,1,2,3,4,7],[],u9l,u9n⟩ ⟨[],[.keep,.keep,.cells [.grow 7 1],.keep,.keep,.keep,.keep,.keep],[]⟩ (bl 3 4) (pp b (tt k0 nn)))))
 | .h1 v16 aG=>(lb (fun k0=>(lo fun o0=>(lo fun o1=>let m:=rd l0 (tn v16);let j:=m;let b:=aG++[j.c,j.f];let p:=aG++[m.c,m.f];let q:=aG.length+2;let d:=xL q p.length;let n:=Zg (Zz aG) 0 aG.length 1 [(ii m.c),(ii m.f)];(sl Uo 34 [] ⟨[0,1,2,3,4,5,6,10],[],u9l,u9n⟩ ⟨[],[.keep,.keep,.cells [.len b.length],.keep,.keep,.keep,.keep,.rowed 1 b.length (Zz b)],[]⟩ [true] (pp d (pp d (pp (xS q n (Zz p)) (pp (pp (xF n) nn) (ww o1 (ww o0 (tt k0 nn))))))))))) (fun k0=>(lo fun o0=>(lo fun o1=>let o:=Zz (Kc (Xk aG.length (Cb (Zz aG))));let l:=CZ (Xk aG.length (Cb o));let a:=l;let e:=xG (Nat.beq 1 1);let g:=xG (decide (aG.length<4611686018427387904));let h:=xG (decide (aG.length=aG.length));let i:=xG (Nat.beq 0 0);(sl Uo 46 [(79,6,Zz ([]:zt))] ⟨[8,3,4,5,6,2,7,0,1,9],[],u9k,u9m⟩ ⟨[],(II 4 [.cells [.grow 9 6,.list 0 (Zz ([]:zr)),.keep,.keep],.keep,.rowed 1 a.length (Zz a),.keep,.keep,.keep]),[]⟩ (bl 2 0) (pp (xL aG.length l.length (by first | exact x6x _ _ | exact Yc rfl)) (pp (xS aG.length (Zz l) (Zz l)) (pp (fl a (fl ([]:zt) nn)) (pp (pp e (pp e (pp i (pp h (pp (xG (LW o)) g))))) (pp (pp e (pp e (pp i (pp h (pp (xG (LW (Zz aG))) g))))) (tt k0 nn)))))))))))
 | .h2 v4 cA cS cX cY bZ cF=>(lb (fun k0=>(lo fun o0=>(lo fun o1=>(lo fun o2=>(lo fun o3=>(sl Uo 48 [(168,4,Zz ([]:zr))] ⟨[0,1,2,3,4,5,6,7,8,10,11,12,9],[],XT,XR⟩ ⟨[],(II 10 [.cells [.grow 11 4],.keep,.keep]),[]⟩ (CC 3 []) (pp (fl cF (fl ([]:zr) (fl cA nn))) (ww o3 (ww o2 (ww o1 (ww o0 (tt k0 nn)))))))))))) (fun k0=>(lb (fun k1=>(lr 25 61 (pn 311) 1 9 [(2,(ii 8))] (sl Uo 50 [] (b8 [2]) b7 (bl 7 126) (tt k1 (tt k0 nn))))) (fun k1=>(lo fun bO=>(lo fun dG=>let a:=pp (xw bO) (pp nn nn);let b:=pp (xr l0) (xw dG);let c:=tt k1 (tt k0 nn);(lb (fun k2=>(lr 25 61 (pn 311) 1 9 [(2,(ii 8))] (sl Uo 53 [] (b8 [2]) b7 (bl 7 64) (tt k2 (pp (pp a (pp (xI R6 (cA.length) (fun k=>(Zz cA) (0+k))) b)) c))))) (fun k2=>(lr 25 3 (pn 191) 1 9 [(2,(ii 0))] (sl Uo 54 [] (b8 [2]) b7 (bl 7 0) (tt k2 (pp (pp a (pp (xI R6 (cA.length) (fun k=>(Zz cA) (0+k))) b)) c))))))))))))
 | .h3 v4 v38 cA cS cX cY bZ cF cQ dC bB=>(lb (fun k0=>(lo fun aB=>let j:=ww aB (tt k0 nn);let o:=fl cF (fl bB (fl cA nn));let r:=List.range 13;(lb (fun k1=>(lb (fun k2=>(lo fun o0=>let s:=rd l0 (tn v38);let i:=s;let c:=bB++[(R4.mk i.a i.b i.d i.e)];let v:=bB++[(R4.mk s.a s.b s.d s.e)];let w:=bB.length+1;let f:=xL w v.length;let t:=Zg (Zz bB) 0 bB.length 4 [(ii s.a),(ii s.b),(ii s.d),(ii s.e)];(sl Uo 41 [] ⟨[0,1,2,3,4,5,6,7,8,9,10,15,12],[],XT,XR⟩ ⟨[],(II 10 [.cells [.len c.length],.rowed 4 c.length (Zz c),.keep]),[]⟩ (CC 8 []) (pp f (pp f (pp (xS w t (Zz v)) (pp (fl cF (pp (xF t) (fl cA nn))) (ww o0 (tt k2 (tt k1 j)))))))))) (fun k2=>(sl Uo 41 [] ⟨r,[],XT,XR⟩ b7 (CC 7 [false]) (pp o (tt k2 (tt k1 j))))))) (fun k1=>(sl Uo 41 [] ⟨r,[],XT,XR⟩ b7 (bl 8 1) (pp o (tt k1 j))))))) (fun k0=>let h:=xZ (Cz 4 4 0 bB.length bB.length (Zz bB)) bB.length (Zz bB);let n:=xS bB.length (Zz bB) (Zz bB);let p:=xL bB.length bB.length;let q:=fl cA (fl cF nn);(Up (sl Uo (C':=⟨⟨65,0,true⟩,(C4 prog 102 (pn 299) 4),(Zf prog 102 (pn 299) 1),(some 0),[],⟨Yh [(2,(.ptr 1 0)),(4,(.ptr 2 0)),(5,(.ptr 3 0)),(6,(.ptr 4 0)),(7,(.ptr 6 0)),(20,(dt bB))],Ee [(1,⟨[.nilf],174,none⟩),(2,⟨[.nils],46,none⟩),(3,⟨[(ii 0)],24,none⟩),(4,⟨[(.sla 5 6 0 cA.length (.un 6)),(dt cS),(ii cX),(ii cY)],198,none⟩),(5,(rz cA 79 6)),(6,⟨[(ii cQ),(ii dC),(.sl 7 0 1 (.ex 1))],203,none⟩),(7,⟨[(dt bB)],195,none⟩),(8,⟨[(.sla 9 1 0 bZ (.un 1))],83,none⟩),(9,(rz cF 3 1)),(10,⟨[(.sl 11 0 1 (.un 1))],194,none⟩),(11,⟨[(dt l0)],45,none⟩)],12,[],true⟩,[⟨⟨86,0,true⟩,(C4 prog 163 (pn 713) 2),(Zf prog 163 (pn 713) 1),none,[],Yh [(0,(.yld 0)),(1,(.ptr 8 0)),(2,(.ptr 10 0)),(4,(ii v4)),(82,(.yld 0)),(83,(.agg [(ii cQ),(ii dC),(.sl 7 0 1 (.ex 1))]))]⟩,⟨⟨65,0,true⟩,none,(.inRangeFunc 0::(Zf prog 102 (pn 43) 1)),none,(Zy prog 102),Yh [(4,(.ptr 2 0)),(5,(.ptr 3 0)),(6,(.ptr 4 0))]⟩,⟨⟨25,0,true⟩,(C4 prog 61 (pn 39) 3),(Zf prog 61 (pn 39) 1),none,(Zy prog 9),Yh [(0,(dt l0)),(11,(.agg [.nilf])),(13,(.sl 11 0 1 (.un 1)))]⟩],(Ed [(0,⟨.busy,none,65,Yh [(2,(.ptr 1 0)),(4,(.ptr 2 0)),(5,(.ptr 3 0)),(6,(.ptr 4 0))],[15],(Cr prog 102 [1,1,0,1,0,0]),(Cr prog 102 [1,1,0,1,0,1])⟩)])⟩) 37 [] ⟨[0,1,2,3,4,12,13,10,5,6,7,8],[11],[some [2,4,5,6,7,20],some [0,1,2,4,82,83],some [4,5,6],some [0,11,13]],[some [2,4,5,6],none,none,none,none,none,none,none,none,none,none,none]⟩ ⟨[(20,.frz bB.length bB.length (Zz bB) (Zz bB))],[.keep,.keep,.keep,.keep,.keep,.keep,.keep,.cells [.frz bB.length bB.length (Zz bB) (Zz bB)],.keep,.keep,.keep,.keep],[]⟩ (bl 2 0) (pp h (pp p (pp n (pp h (pp p (pp n (pp q (pp (fl bB nn) (tt k0 nn)))))))))) (lo fun aB=>let g:=pp (pp (xr bB) (xw aB)) nn;(lb (fun k1=>(lr 25 61 (pn 311) 1 9 [(2,(ii 8))] (sl Uo 67 [] (b8 [2]) b7 (bl 8 254) (tt k1 (tt k1 g))))) (fun k1=>let l:=fl cF (fl cA nn);(lb (fun k2=>let m:=tt k2 (tt k1 g);(lb (fun k3=>(lo fun cN=>let u:=Wt (B6 bB);(lb (fun k4=>(sl Uo 75 [] ⟨[4,5,0,1,2,3,8,9,10,11,7],[],JW,JY⟩ b7 (bl 15 32764) (pp q (tt k4 (pp (pp (xr cS) (pp (xI R4 u.length (Zz u)) (xw cN))) (tt k3 m)))))) (fun k4=>(sl Uo 95 [] ⟨[4,0,1,2,3,8,9,10,11,7,5],[],XU,XS⟩ b7 (bl 15 16380) (pp l (tt k4 (pp (pp (xr cS) (pp (xI R4 u.length (Zz u)) (xw cN))) (tt k3 m))))))))) (fun k3=>(sl Uo 95 [] ⟨[4,0,1,2,3,8,9,10,11,7,5],[],XU,XS⟩ b7 (bl 15 252) (pp l (tt k3 m)))))) (fun k2=>(sl Uo 95 [] ⟨[4,0,1,2,3,8,9,10,11,7,5],[],XU,XS⟩ b7 (bl 15 0) (pp l (tt k2 (tt k1 g))))))))))))
 | .h4 v1 v2 v72 v73 v74 bK cM aN aA bF bZ cF cQ=>(lb (fun k0=>(lo fun o0=>(lo fun o1=>let h:=rd v72 (tn v74);let g:=h;let e:=aN++[(R6.mk g.a g.b v1 g.c g.d v2)];let j:=aN++[(R6.mk h.a h.b v1 h.c h.d v2)];let l:=aN.length+1;let f:=xL l j.length;let i:=Zg (Zz aN) 0 aN.length 6 [(ii h.a),(ii h.b),(ii v1),(ii h.c),(ii h.d),(ii v2)];(sl Uo 23 [] ⟨[0,1,2,3,4,5,6,7,8,9,13],[],XU,XS⟩ ⟨[],[.cells [.len e.length,.keep,.keep,.keep],.keep,.keep,.keep,.keep,.keep,.keep,.keep,.keep,.keep,.rowed 6 e.length (Zz e)],[]⟩ [true] (pp f (pp f (pp (xS l i (Zz j)) (pp (fl cF (pp (xF i) nn)) (ww o1 (ww o0 (tt k0 nn))))))))))) (fun k0=>(sl Uo 22 [] ⟨[1,2,3,4,0,5,6,7,8,10],[],u9k,u9m⟩ b7 (bl 2 0) (pp (fl cF (fl aN nn)) (tt k0 nn)))))
 | .h5 v2 v8 dN bK cM aN aA bF bH dA dK bB=>(lb (fun k0=>(lo fun o0=>(lo fun o1=>let i:=rd aN (0+(tn v8));let h:=i;let f:=aN.set (0+(tn v8)) (R6.mk h.a h.b h.c h.d h.e v2);let j:=aN.set (0+(tn v8)) (R6.mk i.a i.b i.c i.d i.e v2);let g:=xL aN.length j.length;let l:=Yr (Zz aN) (0+(tn v8)) 5 [(ii v2)];(sl Uo 34 [] ⟨(List.range 11),[],JW,JY⟩ ⟨[],[.cells [.len f.length,.keep,.keep,.keep],.rowed 6 f.length (Zz f),.keep,.keep,.keep,.keep,.keep,.keep,.keep,.keep,.keep],[]⟩ [true] (pp g (pp g (pp (xS aN.length l (Zz j)) (pp (pp (xF l) (fl dK nn)) (ww o1 (ww o0 (tt k0 nn))))))))))) (fun k0=>(sl Uo 36 [] ⟨[2,3,4,5,0,6,7,8,9,1],[],u9k,u9m⟩ b7 (bl 2 0) (pp (fl dK (fl aN nn)) (tt k0 nn)))))
theorem x9c (l0:zt):Wu prog (Zy prog 61) (Mv l0) (Zm prog 61 [(dt l0)] true []) (WD l0):=(lb (fun k0=>(lr 25 61 (pn 37) 1 9 [(2,(ii 4))] (sl Uo 16 [] (b8 [2]) b7 [true] (tt k0 nn)))) (fun k0=>(sl Uo 40 [] ⟨[],[],JX,JZ⟩ b7 [false] (tt k0 nn))))
theorem v8u (l0:zt) (n:Nat) (vs:zx) (h:Zt (Xr l0) n (WD l0)=.ret vs):Kw prog (Zy prog 61) (Zm prog 61 [(dt l0)] true []) vs:=by have:=Zb (w7n l0) n _ (x9c l0);rwa [h] at this
theorem w0k (l:zr):(Wt l).length <=400:=by
 grind [Wt]
def D6 :DV R6 R4:=⟨R6.c,R6.f,fun r=>⟨r.a,r.b,r.d,r.e⟩,fun x x' s=>⟨s.a,s.b,x,s.c,s.d,x'⟩,fun x r=>⟨r.a,r.b,r.c,r.d,r.e,x⟩,Wt,EX⟩
theorem Pb (l:zt) (x:Int):(D6.sec l x).length <=1000:=AP (w0k _) (by omega)
def Ct :zx:=[.int .i64 8]
def SP (l out:zt):zx:=bif decide ((out.length:Int)>400) then [.int .i64 8] else bif Dy out l then [.int .i64 0] else [.int .i64 8]
def FW (l:zt) (x:Int):Bool:=HP (D6.inn l x) != 0
def FK (l:zt):Nat->Nat->Bool
 | 0,_=>true
 | k+1,i=>bif FW l (rd (D6.cuts l) i) then false else FK l k (i+1)
section
variable (l:zt) (hl:l.length<=400)
include hl
theorem u5b (i:Nat) (out:zt) (last:zr) (first fin x x':Int): ∀(k j:Nat) (acc:zr),j+k=l.length->acc.length<=j->
  ∃n,∀N,Zt (Xr l) (N+n) (.to (.h3 (i:Int) (j:Int) out last first fin ((D6.cuts l).length) (CZ (Kc (D6.ends l))) x x' acc))=Zt (Xr l) N (.to (.h3 (i:Int) (l.length:Int) out last first fin ((D6.cuts l).length) (CZ (Kc (D6.ends l))) x x' (acc++D6.inn (l.drop j) x)))
 | 0,j,acc,h,ha=>by refine ⟨0,fun N=> ?_⟩;rw [Av (by omega),show D6.inn ([]:zt) x=[] from rfl,AO,Bn,show j=l.length by omega]
 | k+1,j,acc,h,ha=>by
  have hj:j<l.length:=by omega
  obtain ⟨n,hn⟩:=u5b i out last first fin x x' k (j+1) (acc++D6.inn [rd l j] x) (by omega) (by have:=D6.inn_length [rd l j] x;grind)
  refine ⟨n+1,fun N=> ?_⟩;have e:D6.inn (l.drop j) x=D6.inn [rd l j] x++D6.inn (l.drop (j+1)) x:=by rw [Yt hj,<-D6.inn_append];rfl
  rw [e,<-AN,Zx,<-AI,<-hn N];by_cases h1:D6.lo (rd l j)<=x
  .by_cases h2:x<D6.hi (rd l j)
   .rw [D6.inn_t _ _ h1 h2];simp only [D6] at h1 h2 ⊢;simp (disch:=omega) only [Xr,Wj,Yb,Zr,Ym,Yx,Xe,Xs,Wx,Yf,Zq,Zk,Ww,Zj,Ak,AA,Ar,As,Af,Ab]
   .rw [D6.inn_f2 _ _ h2,AO];simp only [D6] at h1 h2;simp (disch:=omega) only [Xr,Wj,Yo,Yb,Zr,Ym,Yx,Xe,Xs,Wx,Yf,Zq,Zk,Ww,Zj,Ak,AA,Ar,As,Af,Ab]
  .rw [D6.inn_f1 _ _ h1,AO];simp only [D6] at h1;simp (disch:=omega) only [Xr,Ew,Yb,Zr,Ym,Yx,Xe,Xs,Wx,Yf,Zq,Zk,Ww,Zj,Ak,AA,Ar,As,Af,Ab]
theorem u5a (i:Nat) (hi:i<=1000) (x x':Int) (s last:zr) (first:Int) (inn:zr) (hs:s.length<=1000): ∀(k j:Nat) (out:zt),j+k=s.length->out.length<=10000000+j->
  ∃n,∀N,Zt (Xr l) (N+n) (.to (.h4 x x' s (s.length:Int) (j:Int) s (i:Int) out last first ((D6.cuts l).length) (CZ (Kc (D6.ends l))) inn))=Zt (Xr l) N (.to (.h2 ((i+1:Nat):Int) (out++(s.drop j).map (D6.put x x')) last first x' ((D6.cuts l).length) (CZ (Kc (D6.ends l)))))
 | 0,j,out,h,ho=>by
  have _u:=hl;refine ⟨1,fun N=> ?_⟩
  grind [Zx,Xr,Zq]
 | k+1,j,out,h,ho=>by
  obtain ⟨n,hn⟩:=u5a i hi x x' s last first inn hs k (j+1) (out++[D6.put x x' (rd s j)]) (by omega) (by simp;omega)
  refine ⟨n+1,fun N=> ?_⟩;have:=hn N;rw [Yt (show j<s.length by omega),A8,<-AN,Zx];simp (disch:=omega) only [Xr,Yb,Zr,Ym,Yx,Xe,Xs,Wx,Yf,Zq,Zk,Ww,Zj,Ak,AA,Ar,As,Af,Ab];rw [AI] at this;exact this
theorem u4z (i:Nat) (hi:i<=1000) (x x' fin:Int) (s last:zr) (first:Int) (inn:zr): ∀(k j:Nat) (out:zt),j+k=out.length->out.length<=10000000->
  ∃n,∀N,Zt (Xr l) (N+n) (.to (.h5 x' (j:Int) x s (i:Int) out last first fin ((D6.cuts l).length) (CZ (Kc (D6.ends l))) inn))=Zt (Xr l) N (.to (.h2 ((i+1:Nat):Int) (D6.grow out j x') last first x' ((D6.cuts l).length) (CZ (Kc (D6.ends l)))))
 | 0,j,out,h,ho=>by
  have _u:=hl;refine ⟨1,fun N=> ?_⟩;rw [D6.grow_nil _ _ _ (by omega),Zx]
  grind [Xr,Zq]
 | k+1,j,out,h,ho=>by
  obtain ⟨n,hn⟩:=u4z i hi x x' fin s last first inn k (j+1) (out.set j (D6.ext x' (rd out j))) (by simp;omega) (by grind)
  refine ⟨n+1,fun N=> ?_⟩;have:=hn N;rw [D6.grow_set out j _ (by omega)] at this;rw [<-AN,Zx];simp (disch:=omega) only [Xr,Yb,Zr,Ym,Yx,Xe,Xs,Wx,Yf,Zq,Zk,Ww,Zj,Ak,AA,Ar,As,Af,Ab];exact this
theorem v2m : ∀(k i:Nat) (s:Sw R6 R4),k=(D6.cuts l).length - 1 - i->i<=(D6.cuts l).length ->s.out.length<=i*1000->s.last.length<=1000->s.first<=s.out.length->
  ∃n,Zt (Xr l) n (.to (.h2 ((i+1:Nat):Int) s.out s.last (s.first:Int) s.fin ((D6.cuts l).length) (CZ (Kc (D6.ends l)))))=.ret ((bif FK l k i then SP l (D6.go l k i s).out else Ct))
 | 0,i,s,h,hi,ho,hla,hf=>by
  have hc:=D6.cuts_length l;refine ⟨1,?_⟩;rw [Zx,show D6.go l 0 i s=s from rfl,show FK l 0 i=true from rfl,Af];unfold SP;by_cases q:(s.out.length:Int)>400
  .grind [Xr,Za]
  .have e:CG R6 s.out.length (fun k=>(Zz s.out) k)=s.out:=Zr s.out;have w:Us s.out l=true:=Aa (by omega);have f:Cv (Zz s.out)=true:=Xh _;rcases Uz (Dy s.out l) with q2 | q2 <;>
   simp (disch:=omega) only [Xr,Yb,e,w,f,q2,Yo,Xb,Xe,Ww,Ak,Ay,AC,Ar,Af,Ab,Za]
 | k +1,i,s,h,hi,ho,hla,hf=>by
  have hc:=D6.cuts_length l;have hi1:i+1<(D6.cuts l).length :=by omega
  have hpl:(CZ (Kc (D6.ends l))).length =2*l.length:=by rw [YX,U6,D6.ends_length]
  have r0:rd (CZ (Kc (D6.ends l))) i=rd (D6.cuts l) i:=XO _ _ (by show i<(D6.cuts l).length;omega);have r1:rd (CZ (Kc (D6.ends l))) (i+1)=rd (D6.cuts l) (i+1):=XO _ _ (by show i+1<(D6.cuts l).length;omega);have hbig:i*1000<=1000*1000:=AD _ (by omega);have hsl:=Pb l (rd (D6.cuts l) i);have hsd:D6.sec l (rd (D6.cuts l) i)=Wt (D6.inn l (rd (D6.cuts l) i)):=rfl;obtain ⟨n3,h3⟩:=u5b l hl (i+1) s.out s.last (s.first:Int) s.fin (rd (D6.cuts l) i) (rd (D6.cuts l) (i+1)) l.length 0 [] (Ak _) (Aj _);simp only [AM,Bd,HT] at h3;have w1:WX (D6.inn l (rd (D6.cuts l) i))=true:=rfl;have w2:Kd s.last (Wt (D6.inn l (rd (D6.cuts l) i)))=true:=Aa (by omega);have ol:=D6.one_length l (rd (D6.cuts l) i) (rd (D6.cuts l) (i+1)) s;have st0: ∀N,Zt (Xr l) (N+n3+1) (.to (.h2 ((i+1:Nat):Int) s.out s.last (s.first:Int) s.fin ((D6.cuts l).length) (CZ (Kc (D6.ends l)))))=Zt (Xr l) N (.to (.h3 ((i+1:Nat):Int) (l.length:Int) s.out s.last (s.first:Int) s.fin ((D6.cuts l).length) (CZ (Kc (D6.ends l))) (rd (D6.cuts l) i) (rd (D6.cuts l) (i+1)) (D6.inn l (rd (D6.cuts l) i)))):=fun N=>by
   rw [<-h3 N,Zx];have e1:wrap .i64 (((i+1:Nat):Int) - 1)=(i:Int):=by rw [Yy];exact Zq (by omega)
   simp (disch:=omega) only [Xr,e1,r0,r1,Yb,Zr,Ym,Yx,Xe,Xs,Wx,Yf,Zq,Zk,Ww,Zj,Ak,AA,Ar,As,Af,Ab]
  rcases Uz (FW l (rd (D6.cuts l) i)) with q0 | q0
  .refine ⟨1+n3+1,?_⟩;rw [st0 1,Zx];simp only [FK,q0,Af,Ab];have q0':(HP (D6.inn l (rd (D6.cuts l) i)) != 0)=true:=q0;simp (disch:=omega) only [Xr,Yb,Zr,Yo,q0',w1,Af,Ab,Za];rfl
  have q0':(HP (D6.inn l (rd (D6.cuts l) i)) != 0)=false:=q0;rcases Uz (decide (0<(D6.sec l (rd (D6.cuts l) i)).length)&&((s.fin == rd (D6.cuts l) i)&&D6.same s.last (D6.sec l (rd (D6.cuts l) i)))) with q | q
  .obtain ⟨n5,h5⟩:=u4z l hl (i+1) (by omega) (rd (D6.cuts l) i) (rd (D6.cuts l) (i+1)) s.fin (D6.sec l (rd (D6.cuts l) i)) s.last (s.first:Int) (D6.inn l (rd (D6.cuts l) i)) (s.out.length - s.first) s.first s.out (by omega) (by omega)
   have e:D6.one l (rd (D6.cuts l) i) (rd (D6.cuts l) (i+1)) s=⟨D6.grow s.out s.first (rd (D6.cuts l) (i+1)),s.last,s.first,rd (D6.cuts l) (i+1)⟩:=by unfold DV.one;rw [q];rfl
   obtain ⟨n0,h0⟩:=v2m k (i+1) (D6.one l (rd (D6.cuts l) i) (rd (D6.cuts l) (i+1)) s) (by omega) (by omega) (by omega) (by grind) (by grind [DV.grow_length]);refine ⟨n0+n5+1+n3+1,?_⟩;rw [st0 (n0+n5+1),Zx];simp only [Ad,An] at q;obtain ⟨q1,q2,q3⟩:=q;have q3':EX s.last (Wt (D6.inn l (rd (D6.cuts l) i)))=true:=q3
   grind [Xr,Yb,FK,DV.go]
  .obtain ⟨n4,h4⟩:=u5a l hl (i+1) (by omega) (rd (D6.cuts l) i) (rd (D6.cuts l) (i+1)) (D6.sec l (rd (D6.cuts l) i)) (D6.sec l (rd (D6.cuts l) i)) (s.out.length:Int) (D6.inn l (rd (D6.cuts l) i)) hsl (D6.sec l (rd (D6.cuts l) i)).length 0 s.out (Ak _) (by omega);simp only [AM,HT] at h4;have e:D6.one l (rd (D6.cuts l) i) (rd (D6.cuts l) (i+1)) s=⟨s.out++(D6.sec l (rd (D6.cuts l) i)).map (D6.put (rd (D6.cuts l) i) (rd (D6.cuts l) (i+1))),D6.sec l (rd (D6.cuts l) i),s.out.length,rd (D6.cuts l) (i+1)⟩:=by unfold DV.one;rw [q];rfl
   obtain ⟨n0,h0⟩:=v2m k (i+1) (D6.one l (rd (D6.cuts l) i) (rd (D6.cuts l) (i+1)) s) (by omega) (by omega) (by omega) (by grind) (by rw [e];simp);have hg:Zt (Xr l) 1 (.to (.h3 ((i+1:Nat):Int) (l.length:Int) s.out s.last (s.first:Int) s.fin ((D6.cuts l).length) (CZ (Kc (D6.ends l))) (rd (D6.cuts l) i) (rd (D6.cuts l) (i+1)) (D6.inn l (rd (D6.cuts l) i))))=.to (.h4 (rd (D6.cuts l) i) (rd (D6.cuts l) (i+1)) (D6.sec l (rd (D6.cuts l) i)) ((D6.sec l (rd (D6.cuts l) i)).length :Int) 0 (D6.sec l (rd (D6.cuts l) i)) ((i+1:Nat):Int) s.out (D6.sec l (rd (D6.cuts l) i)) (s.out.length:Int) ((D6.cuts l).length) (CZ (Kc (D6.ends l))) (D6.inn l (rd (D6.cuts l) i))):=by
    rw [show (1:Nat)=0+1 from rfl,Zx];rw [hsd] at q ⊢;have e3:D6.same s.last (Wt (D6.inn l (rd (D6.cuts l) i)))=EX s.last (Wt (D6.inn l (rd (D6.cuts l) i))):=rfl;rw [e3] at q;by_cases q1:0<(Wt (D6.inn l (rd (D6.cuts l) i))).length
    .rw [Aa q1,As] at q;rcases Uz (s.fin == rd (D6.cuts l) i) with q2 | q2
     .rw [q2,As] at q;simp (disch:=omega) only [Xr,Yb,Zr,Yo,Xv,q0',q2,q,w1,w2,Af,Ab];rfl
     .simp (disch:=omega) only [Xr,Yb,Zr,Yo,Xv,q0',q2,w1,w2,Af,Ab];rfl
    .simp (disch:=omega) only [Xr,Yb,Zr,Yo,Xb,q0',w1,w2,Af,Ab];rfl
   refine ⟨n0+n4+1+n3+1,?_⟩;simp_all [x7j,FK,DV.go]
theorem u5c : ∀(k i:Nat) (acc:zq),i+k=l.length->acc=D6.ends (l.take i)-> ∃n,Zt (Xr l) n (.to (.h1 (i:Int) acc))=.ret ((bif FK l ((D6.cuts l).length - 1) 0 then SP l (D6.go l ((D6.cuts l).length - 1) 0 ⟨[],[],0,0⟩).out else Ct))
 | 0,i,acc,h,ha=>by
  have e:acc=D6.ends l:=by grind
  subst e;have hle:=D6.ends_length l;obtain ⟨n,hn⟩:=v2m l hl ((D6.cuts l).length - 1) 0 ⟨[],[],0,0⟩ (by omega) (AH _) (AH _) (AH _) (AH _);refine ⟨n+1,?_⟩;rw [Zx];simp (disch:=omega) only [Xr,YW,x1k,v7l,Yo,Xs,Wx,AA,Af,Ab];exact hn
 | k+1,i,acc,h,ha=>by
  have hle:=D6.ends_length (l.take i);have hacc:acc.length<=2*i:=by grind
  obtain ⟨n,hn⟩:=u5c k (i+1) (acc++D6.ends [rd l i]) (by omega) (by
   rw [ha,Bp];have:l[i]? =some (rd l i):=by grind [Wv]
   rw [this,D6.ends_append];rfl)
  refine ⟨n+1,?_⟩;rw [Zx];simp (disch:=omega) only [Xr,Yb,Zr,Ym,Yx,Xe,Xs,Wx,Yf,Zq,Zk,Ww,Zj,Ak,AA,Ar,As,Af,Ab];exact hn
theorem u5d : ∀(k i:Nat),i+k=l.length->(∀s∈l.take i,D1 s=true)-> ∃n,Zt (Xr l) n (.to (.h0 (i:Int)))=.ret (bif l.all D1 then (bif FK l ((D6.cuts l).length - 1) 0 then SP l (D6.go l ((D6.cuts l).length - 1) 0 ⟨[],[],0,0⟩).out else Ct) else Ct)
 | 0,i,h,ht=>by
  have hv:l.all D1=true:=Ax.2 fun s hs=>ht s (by grind);obtain ⟨n,hn⟩:=u5c l hl l.length 0 [] (Ak _) rfl;refine ⟨n+1,?_⟩
  grind [Zx,Xr]
 | k+1,i,h,ht=>by
  have hi:i<l.length:=by omega
  have hs:Xr l (.h0 (i:Int))=bif D1 (rd l i) then .to (.h0 ((i+1:Nat):Int)) else .ret Ct:=by have e:Fy (rd l i).a (rd l i).b (rd l i).c (rd l i).d (rd l i).e (rd l i).f =D1 (rd l i):=rfl;simp (disch:=omega) only [Xr,e,w3j,v7a,u8g,Yx,Zq,Zk,Zj,Ar,Af,Ab];rfl
  rcases Uz (D1 (rd l i)) with q | q
  .obtain ⟨n,hn⟩:=u5d k (i+1) (by omega) (fun s hs=>by
    rw [Bp] at hs
    grind [Wv])
   refine ⟨n+1,?_⟩
   grind [Zx]
  .have hv:l.all D1=false:=AY.2 fun e=>by
    grind [Wv]
   refine ⟨1,?_⟩
   grind [Zx,Za]
end
def Uw (l:zt):Int:=bif decide (400<l.length) then 4 else bif l.all D1 then (bif FK l ((D6.cuts l).length - 1) 0 then (bif decide (((D6.out l).length :Int)>400) then 8 else bif Dy (D6.out l) l then 0 else 8) else 8) else 8
def v2n (l:zt):Bool:=true
theorem u9j (l:zt): ∃n,Zt (Xr l) n (WD l)=.ret [.int .i64 (Uw l)]:=by
 unfold WD Uw;by_cases h:400<l.length
 .refine ⟨0,?_⟩;rw [Aa h,Xv (show (l.length:Int)>400 by omega)];rfl
 .obtain ⟨n,hn⟩:=u5d l (by omega) l.length 0 (Ak _) (fun s hs=>by simp at hs);refine ⟨n,?_⟩;rw [Ah h,Xb (show ¬(l.length:Int)>400 by omega),Ab,Ab];rw [HT] at hn;rw [hn];unfold Ct SP;cases l.all D1 <;> simp only [Af,Ab];cases FK l ((D6.cuts l).length - 1) 0 <;> simp only [Af,Ab];show Xy.ret (bif decide (((D6.out l).length :Int)>400) then _ else bif Dy (D6.out l) l then _ else _)=_
  grind
def Ok :zx->Option (B5×Bool)
 | [a1]=>match C5 R6 a1 with
  | some (L1,g1,n1)=>some (.int .i64 (Uw L1),CV R6 n1 g1&&v2n L1)
  | _=>none
 | _=>none
theorem j4c {S:B7} (hS:Zv prog S):Zv prog (S.with x6t Ok):=by
 refine CU hS (by kernel_rfl) fun args v h=> ?_;unfold Ok at h;split at h
 .rename_i a1;split at h
  .rename_i L1 g1 n1 e1;simp only [Ae,Ac,Ad] at h;obtain ⟨rfl,ho1,hw⟩:=h;obtain ⟨N,hN⟩:=u9j L1;exact ⟨_,_,(.cons (Xd e1 ho1) .nil),rfl,v8u L1 N _ hN,3,rfl⟩
  .cases h
 .cases h
def T8 :B7:=T7v.with x6t Ok
theorem DQ :Zv prog T8:=j4c Uo
def x9d (l:zt):Bool:=true
def w0s (l:zt):Bool:=true
inductive Ei where
 | h0 (v3:Int)
def j1y (l0:zt):Ei->CH
 | .h0 v3=>⟨⟨34,0,true⟩,none,(Zf prog 76 (pn 75) 0),none,(Zy prog 9),⟨Yh [(0,(dt l0)),(3,(ii v3))],Wd [] 0,0,[],true⟩,[],.leaf⟩
def u6q :List (Option zw):=[some [0,3]]
def u6r :List (Option zw):=[]
def Im (l0:zt):Ei->Xy Ei
 | .h0 v3=>let g:=rd l0 v3.toNat;(bif (decide (v3<(l0.length:Int))) then (bif ((decide (0<=v3/\v3<(l0.length:Int)))&&true) then (bif (decide (g.a >=(-1000000))) then (bif (decide (g.b >=(-1000000))) then (bif (decide (g.c >=(-1000000))) then (bif (decide (g.a <=1000000)) then (bif (decide (g.b <=1000000)) then (bif (decide (g.c <=1000000)) then (bif (decide (g.d >=(-1000000))) then (bif (decide (g.e >=(-1000000))) then (bif (decide (g.f >=(-1000000))) then (bif (decide (g.d <=1000000)) then (bif (decide (g.e <=1000000)) then (bif (decide (g.f <=1000000)) then (bif (decide (g.a <g.d)) then (bif (decide (g.b <g.e)) then (bif (!(decide (g.c <g.f))) then (.ret [(.int .i64 8)]) else (.to (.h0 (wrap .i64 (v3+1))))) else (.ret [(.int .i64 8)])) else (.ret [(.int .i64 8)])) else (.ret [(.int .i64 8)])) else (.ret [(.int .i64 8)])) else (.ret [(.int .i64 8)])) else (.ret [(.int .i64 8)])) else (.ret [(.int .i64 8)])) else (.ret [(.int .i64 8)])) else (.ret [(.int .i64 8)])) else (.ret [(.int .i64 8)])) else (.ret [(.int .i64 8)])) else (.ret [(.int .i64 8)])) else (.ret [(.int .i64 8)])) else (.ret [(.int .i64 8)])) else .stuck) else (bif (Rl 2 (B6 l0) ([]:zt)) then (bif (!(JA 2 (B6 l0) ([]:zt))) then (.ret [(.int .i64 8)]) else (bif (Us (B6 (EM 2 (B6 l0) ([]:zt))) (B6 l0)) then (bif (!(Dy (B6 (EM 2 (B6 l0) ([]:zt))) (B6 l0))) then (.ret [(.int .i64 8)]) else (.ret [(.int .i64 0)])) else .stuck)) else .stuck))
def WU (l0:zt):Xy Ei:=(bif (decide ((l0.length:Int)>400)) then (.ret [(.int .i64 4)]) else (.to (.h0 0)))
theorem w0t (l0:zt): ∀s,Wu prog (Zy prog 76) (j1y l0) (j1y l0 s) (Im l0 s)
 | .h0 v3=>(lb (fun k0=>(lo fun aB=>let f:=ww aB (tt k0 nn);(lb (fun k1=>(lb (fun k2=>let c:=tt k2 (tt k1 f);(lb (fun k3=>let i:=bl 31 1073741824;(lb (fun k4=>let g:=tt k4 (tt k3 c);let l:=bl 28 134217728;(lb (fun k5=>let m:=bl 25 16777216;(lb (fun k6=>let a:=tt k6 (tt k5 g);(lb (fun k7=>(lb (fun k8=>let j:=tt k8 (tt k7 a);(lb (fun k9=>let d:=tt k9 j;(lb (fun k10=>(lb (fun k11=>let b:=tt k11 (tt k10 d);(lb (fun k12=>(lb (fun k13=>let e:=tt k13 (tt k12 b);(lb (fun k14=>(lb (fun k15=>(lr 34 76 (pn 4683) 1 9 [(2,(ii 8))] (sl DQ 158 [] (b8 [2]) b7 (CC 60 []) (tt k15 (tt k14 e))))) (fun k15=>(sl DQ 162 [] ⟨[],[],u6q,u6r⟩ b7 (CC 59 [false]) (tt k15 (tt k14 e)))))) (fun k14=>(lr 34 76 (pn 4683) 1 9 [(2,(ii 8))] (sl DQ 158 [] (b8 [2]) b7 (CC 52 (bl 8 128)) (tt k14 e)))))) (fun k13=>(lr 34 76 (pn 4683) 1 9 [(2,(ii 8))] (sl DQ 158 [] (b8 [2]) b7 (CC 45 (bl 15 16384)) (tt k13 (tt k12 b))))))) (fun k12=>(lr 34 76 (pn 4683) 1 9 [(2,(ii 8))] (sl DQ 158 [] (b8 [2]) b7 (CC 38 (bl 22 2097152)) (tt k12 b)))))) (fun k11=>(lr 34 76 (pn 4683) 1 9 [(2,(ii 8))] (sl DQ 158 [] (b8 [2]) b7 (CC 35 m) (tt k11 (tt k10 d))))))) (fun k10=>(lr 34 76 (pn 4683) 1 9 [(2,(ii 8))] (sl DQ 158 [] (b8 [2]) b7 (CC 32 l) (tt k10 d)))))) (fun k9=>(lr 34 76 (pn 4683) 1 9 [(2,(ii 8))] (sl DQ 158 [] (b8 [2]) b7 (CC 29 i) (tt k9 j)))))) (fun k8=>(lr 34 76 (pn 4683) 1 9 [(2,(ii 8))] (sl DQ 158 [] (b8 [2]) b7 (CC 25 (bl 35 17179869184)) (tt k8 (tt k7 a))))))) (fun k7=>(lr 34 76 (pn 4683) 1 9 [(2,(ii 8))] (sl DQ 158 [] (b8 [2]) b7 (CC 21 (bl 39 274877906944)) (tt k7 a)))))) (fun k6=>(lr 34 76 (pn 4683) 1 9 [(2,(ii 8))] (sl DQ 117 [] (b8 [2]) b7 (CC 18 m) (tt k6 (tt k5 g))))))) (fun k5=>(lr 34 76 (pn 4683) 1 9 [(2,(ii 8))] (sl DQ 117 [] (b8 [2]) b7 (CC 15 l) (tt k5 g)))))) (fun k4=>(lr 34 76 (pn 4683) 1 9 [(2,(ii 8))] (sl DQ 117 [] (b8 [2]) b7 (CC 12 i) (tt k4 (tt k3 c))))))) (fun k3=>(lr 34 76 (pn 4683) 1 9 [(2,(ii 8))] (sl DQ 117 [] (b8 [2]) b7 (CC 9 (bl 34 8589934592)) (tt k3 c)))))) (fun k2=>(lr 34 76 (pn 4683) 1 9 [(2,(ii 8))] (sl DQ 117 [] (b8 [2]) b7 (CC 5 (bl 38 137438953472)) (tt k2 (tt k1 f))))))) (fun k1=>(lr 34 76 (pn 4683) 1 9 [(2,(ii 8))] (sl DQ 117 [] (b8 [2]) b7 (bl 43 4398046511105) (tt k1 f))))))) (fun k0=>(lo fun aB=>(lb (fun k1=>(lr 34 76 (pn 303) 1 9 [(2,(ii 8))] (sl DQ 37 [] (b8 [2]) b7 (bl 6 62) (tt k1 (pp (pp (xr l0) (pp (xI R6 0 (fun _=>[])) (xw aB))) (tt k0 nn)))))) (fun k1=>(lo fun bO=>let h:=pp (xr l0) (xw bO);let n:=EM 2 (B6 l0) ([]:zt);(lb (fun k2=>(lr 34 76 (pn 303) 1 9 [(2,(ii 8))] (sl DQ 37 [] (b8 [2]) b7 (bl 6 32) (tt k2 (pp (pp (xI R6 n.length (Zz n)) h) (tt k1 (pp (pp (xr l0) (pp (xI R6 0 (fun _=>[])) (xw aB))) (tt k0 nn)))))))) (fun k2=>(lr 34 3 (pn 191) 1 9 [(2,(ii 0))] (sl DQ 38 [] (b8 [2]) b7 (bl 6 0) (tt k2 (pp (pp (xI R6 n.length (Zz n)) h) (tt k1 (pp (pp (xr l0) (pp (xI R6 0 (fun _=>[])) (xw aB))) (tt k0 nn)))))))))))))))
theorem x5y (l0:zt):Wu prog (Zy prog 76) (j1y l0) (Zm prog 76 [(dt l0)] true []) (WU l0):=(lb (fun k0=>(lr 34 76 (pn 37) 1 9 [(2,(ii 4))] (sl DQ 16 [] (b8 [2]) b7 [true] (tt k0 nn)))) (fun k0=>(sl DQ 20 [] ⟨[],[],u6q,u6r⟩ b7 [false] (tt k0 nn))))
theorem v4g (l0:zt) (n:Nat) (vs:zx) (h:Zt (Im l0) n (WU l0)=.ret vs):Kw prog (Zy prog 76) (Zm prog 76 [(dt l0)] true []) vs:=by have:=Zb (w0t l0) n _ (x5y l0);rwa [h] at this
def Fg (r:R6):Bool:=decide (r.a>= -1000000)&&(decide (r.b>= -1000000)&&(decide (r.c>= -1000000)&&(decide (r.a<=1000000)&&(decide (r.b<=1000000)&&(decide (r.c<=1000000)&&(decide (r.d>= -1000000)&&(decide (r.e>= -1000000)&&(decide (r.f>= -1000000)&&(decide (r.d<=1000000)&&(decide (r.e<=1000000)&&(decide (r.f<=1000000)&&(decide (r.a<r.d)&&(decide (r.b<r.e)&&decide (r.c<r.f))))))))))))))
def Hu (l:zt):Int:=bif JA 2 l [] then (bif Dy (EM 2 l []) l then 0 else 8) else 8
def Ix (l:zt):Int:=bif decide (400<l.length) then 4 else bif l.all Fg then Hu l else 8
def v4e (l:zt):Bool:=true
theorem w9x (k:Int) (l m:zt):(EM k l m).length <=400\/JA k l m=false:=by
 grind [EM,JA]
section
variable (l:zt) (hl:l.length<=400)
include hl
theorem v4f : ∀(k i:Nat),i+k=l.length->(∀s∈l.take i,Fg s=true)-> ∃n,Zt (Im l) n (.to (.h0 (i:Int)))=.ret [.int .i64 (bif l.all Fg then Hu l else 8)]
 | 0,i,h,ht=>by
  have hv:l.all Fg=true:=Ax.2 fun s hs=>ht s (by grind);have w1:Rl 2 l []=true:=OR (by omega) (by simp);refine ⟨1,?_⟩;rw [Zx,hv,Af];unfold Hu;rcases Uz (JA 2 l []) with q | q
  .have w2:Us (EM 2 l []) l=true:=Aa (by
    grind [w9x])
   rcases Uz (Dy (EM 2 l []) l) with q2 | q2 <;>
   simp (disch:=omega) only [Im,Yb,Yo,q,q2,w1,w2,Ay,AC,Af,Ab,Za]
  grind [Im,Yb,Za]
 | k+1,i,h,ht=>by
  have hi:i<l.length:=by omega
  have hs:Im l (.h0 (i:Int))=bif Fg (rd l i) then .to (.h0 ((i+1:Nat):Int)) else .ret [.int .i64 8]:=by simp (disch:=omega) only [Im,Fg,w3k,w3j,v7a,Yx,Zq,Zk,Zj,Ar,Af,Ab]
  rcases Uz (Fg (rd l i)) with q | q
  .obtain ⟨n,hn⟩:=v4f k (i+1) (by omega) (fun s hs=>by
    rw [Bp] at hs
    grind [Wv])
   refine ⟨n+1,?_⟩
   grind [Zx]
  .have hv:l.all Fg=false:=AY.2 fun e=>by
    grind [Wv]
   refine ⟨1,?_⟩
   grind [Zx,Za]
end
theorem u0w (l:zt): ∃n,Zt (Im l) n (WU l)=.ret [.int .i64 (Ix l)]:=by
 unfold WU Ix;by_cases h:400<l.length
 .refine ⟨0,?_⟩;rw [Aa h,Xv (show (l.length:Int)>400 by omega)];rfl
 .obtain ⟨n,hn⟩:=v4f l (by omega) l.length 0 (Ak _) (fun s hs=>by simp at hs)
  grind
def Ox :zx->Option (B5×Bool)
 | [a1]=>match C5 R6 a1 with
  | some (L1,g1,n1)=>some (.int .i64 (Ix L1),CV R6 n1 g1&&v4e L1)
  | _=>none
 | _=>none
theorem j4u {S:B7} (hS:Zv prog S):Zv prog (S.with v5i Ox):=by
 refine CU hS (by kernel_rfl) fun args v h=> ?_;unfold Ox at h;split at h
 .rename_i a1;split at h
  .rename_i L1 g1 n1 e1;simp only [Ae,Ac,Ad] at h;obtain ⟨rfl,ho1,hw⟩:=h;obtain ⟨N,hN⟩:=u0w L1;exact ⟨_,_,(.cons (Xd e1 ho1) .nil),rfl,v4g L1 N _ hN,3,rfl⟩
  .cases h
 .cases h
def T9 :B7:=T8.with v5i Ox
theorem UI :Zv prog T9:=j4u DQ
def C7 (s sep:zy):Int:=Lib.indexByte s (sep.headD 0)
def ZZ (s sep:zy):Bool:=Nat.beq sep.length 1
def PG :zx->Option (B5×Bool)
 | [.str s,.str sep]=>some (.int .i64 (C7 s sep),ZZ s sep)
 | _=>none
theorem w5a {sep:zy} (h:Nat.beq sep.length 1=true):sep=[sep.headD 0]:=by
 have h1:=Ai h
 match sep,h1 with
 | [b],_=>rfl
theorem j5f {S:B7} (hS:Zv prog S):Zv prog (S.with UA PG):=Gk hS (by kernel_rfl) (RN fun args v hv H vals w eD hH hG=>by
 unfold PG at hv;split at hv
 .rename_i s sep;simp only [Ae,Ac] at hv;obtain ⟨rfl,ho⟩:=hv;have hs:=w5a ho;obtain rfl:vals= #[.string ⟨s.toArray⟩,.string ⟨sep.toArray⟩]:=by
   obtain ⟨vl⟩:=vals;cases eD with
   | cons h1 h2=>cases h2 with
    | cons h2 h3=>cases h3;cases h1;cases h2;rfl
  rw [hs];refine (Any.stringslite_Index_one Tryz.lays219 ⟨s.toArray⟩ (sep.headD 0) w).mono fun e w' ⟨he,hw⟩=>⟨_,he,.int _ _,?_⟩
  subst hw;exact RowKit.Below.refl _ _
 .cases hv)
def PX (s sep:zy):Int:=((Lib.countByte s (sep.headD 0):Nat):Int)
def ZM (s sep:zy):Bool:=Nat.beq sep.length 1
def PM :zx->Option (B5×Bool)
 | [.str s,.str sep]=>some (.int .i64 (PX s sep),ZM s sep)
 | _=>none
theorem j5p {S:B7} (hS:Zv prog S):Zv prog (S.with UH PM):=Gk hS (by kernel_rfl) (RN fun args v hv H vals w eD hH hG=>by
 unfold PM at hv;split at hv
 .rename_i s sep;simp only [Ae,Ac] at hv;obtain ⟨rfl,ho⟩:=hv;have hs:=w5a ho;obtain rfl:vals= #[.string ⟨s.toArray⟩,.string ⟨sep.toArray⟩]:=by
   obtain ⟨vl⟩:=vals;cases eD with
   | cons h1 h2=>cases h2 with
    | cons h2 h3=>cases h3;cases h1;cases h2;rfl
  rw [hs];refine (Any.strings_Count_one Tryz.lays138 ⟨s.toArray⟩ (sep.headD 0) w).mono fun e w' ⟨he,hw⟩=>⟨_,he,.int _ _,?_⟩
  subst hw;exact RowKit.Below.refl _ _
 .cases hv)
def O0 (L:List zy) (sep:zy):zy:=Lib.join L sep
def Qa (L:List zy) (sep:zy):Bool:=decide (L.length<=1000000)&&decide ((O0 L sep).length <=1000000)
def PE :zx->Option (B5×Bool)
 | [a0,.str sep]=>match C5 zy a0 with
  | some (L,g,n)=>some (.str (O0 L sep),CV zy n g&&Qa L sep)
  | _=>none
 | _=>none
theorem j5e {S:B7} (hS:Zv prog S):Zv prog (S.with OT PE):=Gk hS (by kernel_rfl) (RN fun args v hv H vals w eD hH hG=>by
 unfold PE at hv;split at hv
 .rename_i a0 sep;split at hv
  .rename_i L g n e0;simp only [Ae,Ac,Ad] at hv;obtain ⟨rfl,ht,ho⟩:=hv;unfold Qa at ho;rw [Ad,An,An] at ho;obtain ⟨v0,rfl,eB⟩: ∃v0,vals= #[v0,.string ⟨sep.toArray⟩]/\Zn (DI H) (.dat L.length (Zz L)) v0:=by
    obtain ⟨vl⟩:=vals;cases eD with
    | cons h1 h2=>cases h2 with
     | cons h2 h3=>cases h3;cases h2;exact ⟨_,rfl,(Xd e0 ht).sound h1⟩
   have hmap:(L.map fun s=>(⟨s.toArray⟩:ByteArray)).map (·.data.toList)=L:=by rw [List.map_map];exact (List.map_congr_left fun s _=>rfl).trans (List.map_id L)
   have hlenm:(L.map fun s=>(⟨s.toArray⟩:ByteArray)).length =L.length:=BW _;have none: ∀(a:Option Addr) (c:Nat),L.length=0->Calls prog OT #[.slice a 0 c,.string ⟨sep.toArray⟩] w fun e w'=> ∃u,e=.returned u/\Zn (DI H) (.str (O0 L sep)) u/\RowKit.Below w.heap.size w w':=fun a c h0=>by
    obtain rfl:=Br h0;refine (Any.strings_Join_none Tryz.lays156 Tryz.Builder_Extra_156 a c ⟨sep.toArray⟩ w).mono fun e w' ⟨he,hw⟩=>⟨_,he,?_,?_⟩
    .exact .str _
    .subst hw;exact RowKit.Below.refl _ _
   generalize hn:L.length=m at eB;cases eB with
   | datn=>exact none _ _ hn
   | datz _ a c=>exact none _ _ hn
   | dat _ _ blk base sz cap val eJ hsz hv hh=>
    by_cases h0:L.length=0
    .rw [<-hn,h0];exact none _ _ h0
    have fQ: ∀i,(hi:i<L.length)->Zz L i=[.str L[i]]:=fun i hi=>by show Xg.cells (rd L i)=_;rw [Wv hi];rfl
    have hsz1:sz=1:=by have:=hsz 0 (by omega);rw [fQ 0 (by omega)] at this;exact this.symm
    subst hsz1;have eT: ∀i,(hi:i<L.length)->val i 0=.string ⟨L[i].toArray⟩:=fun i hi=>by have:=hv i 0 (by omega) (by rw [fQ i hi];exact Nat.one_pos);simp only [fQ i hi,List.getElem_cons_zero] at this;generalize val i 0=z at this;cases this;rfl
    have eW: ∀i,(hi:i<L.length)-> ∃cs el fz,w.heap[blk]? =some (.cells cs el fz)/\cs[base+i]? =some (.string ⟨L[i].toArray⟩):=fun i hi=>by obtain ⟨cs,el,fz,e1,e2⟩:=hh i 0 (by omega) Nat.one_pos;rw [eT i hi,Nat.mul_one,Bn] at e2;exact ⟨cs,el,fz,hH _ _ e1,e2⟩
    have hJ:=Any.strings_Join Tryz.lays156 Tryz.Builder_Extra_156 blk base cap (L.map fun s=>(⟨s.toArray⟩:ByteArray)) ⟨sep.toArray⟩ w (fun j x hx=>by
      have hj:j<L.length:=by rw [<-hlenm];exact (Bb.1 hx).1
      obtain ⟨cs,el,fz,e1,e2⟩:=eW j hj;rw [BK,At hj] at hx;obtain rfl:=Ag hx;simp [World.cell?,e1,e2])
     (by obtain ⟨cs,el,fz,e1,_⟩:=eW 0 (by omega);exact (AB.1 e1).1)
     (by rw [hlenm];omega) (by rw [hlenm];omega) (by rw [hmap];exact AP ho.2 (by omega))
    rw [hmap,hlenm,hn] at hJ;refine hJ.mono fun e w' ⟨he,hw⟩=>⟨_,he,?_,hw⟩
    exact .str _
  .cases hv
 .cases hv)
def UP :B7:=((T9.with UA PG).with UH PM).with OT PE
theorem Xq :Zv prog UP:=j5e (j5p (j5f UI))
inductive IG where
def OP (x0:zy) (x1:zy):IG->CH
 :=nofun
def w1s (x0:zy) (x1:zy):IG->Xy IG
 :=nofun
def Rm (x0:zy) (x1:zy):Xy IG:=(bif (ZZ x0 x1) then (bif (decide ((C7 x0 x1)>=0)) then (bif (decide ((Int.toNat (C7 x0 x1))<=x0.length)) then (bif (decide (0<=(C7 x0 x1))) then (bif (decide ((Int.toNat (wrap .i64 ((C7 x0 x1)+(x1.length:Int))))<=x0.length)) then (bif (decide (0<=(wrap .i64 ((C7 x0 x1)+(x1.length:Int))))) then (.ret [(.str ((x0.drop 0).take (Int.toNat (C7 x0 x1)))),(.str ((x0.drop (Int.toNat (wrap .i64 ((C7 x0 x1)+(x1.length:Int))))).take (x0.length - (Int.toNat (wrap .i64 ((C7 x0 x1)+(x1.length:Int))))))),(.bool true)]) else .stuck) else .stuck) else .stuck) else .stuck) else (.ret [(.str x0),(.str []),(.bool false)])) else .stuck)
theorem w9w (x0:zy) (x1:zy): ∀s,Wu prog (Zy prog 122) (OP x0 x1) (OP x0 x1 s) (w1s x0 x1 s)
 :=nofun
theorem w1t (x0:zy) (x1:zy):Wu prog (Zy prog 122) (OP x0 x1) (Zm prog 122 [(.str x0),(.str x1)] true []) (Rm x0 x1):=(lo fun cP=>let d:=b8 [4,5,6];(lb (fun k0=>(lo fun o0=>(lo fun o1=>(lo fun o2=>(lo fun o3=>let b:=tn (wr ((C7 x0 x1)+(x1.length:Int)));let a:=b;let c:=tn (C7 x0 x1);(lr 13 3 (pn 191) 1 122 [(4,(.str ((x0.drop 0).take c))),(5,(.str ((x0.drop a).take (x0.length - a)))),(6,(.bool true))] (sl Xq 41 [] d b7 [true] (pp (pp nn (pp (xw o3) (pp (xG (decide (x0.length<=x0.length)) (Aa (Aj _))) (xG (decide (b<=x0.length)))))) (pp (pp (xw o1) (pp nn (pp (xG (decide (c<=x0.length))) (xG (decide (0<=c)))))) (tt k0 (ww cP nn))))))))))) (fun k0=>(lr 13 3 (pn 191) 1 122 [(4,(.str x0)),(5,(.str [])),(6,(.bool false))] (sl Xq 47 [] d b7 [false] (tt k0 (ww cP nn)))))))
theorem u2s (x0:zy) (x1:zy) (n:Nat) (vs:zx) (h:Zt (w1s x0 x1) n (Rm x0 x1)=.ret vs):Kw prog (Zy prog 122) (Zm prog 122 [(.str x0),(.str x1)] true []) vs:=by have:=Zb (w9w x0 x1) n _ (w1t x0 x1);rwa [h] at this
inductive I6 where
def PU (x0:zy) (x1:zy):I6->CH
 :=nofun
def w3b (x0:zy) (x1:zy):I6->Xy I6
 :=nofun
def Rf (x0:zy) (x1:zy):Xy I6:=(bif (decide ((x0.length:Int)>=(x1.length:Int))) then (bif (decide ((Int.toNat (wrap .i64 ((x0.length:Int) - (x1.length:Int))))<=x0.length)) then (bif (decide (0<=(wrap .i64 ((x0.length:Int) - (x1.length:Int))))) then (bif (!(((x0.drop (Int.toNat (wrap .i64 ((x0.length:Int) - (x1.length:Int))))).take (x0.length - (Int.toNat (wrap .i64 ((x0.length:Int) - (x1.length:Int)))))) == x1)) then (.ret [(.str x0),(.bool false)]) else (.ret [(.str ((x0.drop 0).take (Int.toNat (wrap .i64 ((x0.length:Int) - (x1.length:Int)))))),(.bool true)])) else .stuck) else .stuck) else (.ret [(.str x0),(.bool false)]))
theorem v0t (x0:zy) (x1:zy): ∀s,Wu prog (Zy prog 79) (PU x0 x1) (PU x0 x1 s) (w3b x0 x1 s)
 :=nofun
theorem w3c (x0:zy) (x1:zy):Wu prog (Zy prog 79) (PU x0 x1) (Zm prog 79 [(.str x0),(.str x1)] true []) (Rf x0 x1):=(lb (fun k0=>(lo fun aB=>(lo fun aL=>let b:=tn (wr ((x0.length:Int) - (x1.length:Int)));let c:=decide (x0.length<=x0.length);let d:=decide (b<=x0.length);(lb (fun k1=>(lr 11 3 (pn 191) 1 17 [(4,(.str x0)),(5,(.bool false))] (sl Xq 61 [] (b8 [4,5]) b7 (CC 10 []) (tt k1 (pp (pp nn (pp (xw aL) (pp (xG c (Aa (Aj _))) (xG d)))) (tt k0 nn)))))) (fun k1=>let a:=xG d;(lr 11 3 (pn 191) 1 17 [(4,(.str ((x0.drop 0).take b))),(5,(.bool true))] (sl Xq 68 [] (b8 [4,5]) b7 (CC 9 [false]) (pp (pp (xw aL) (pp nn (pp a (xG (decide (0<=b)))))) (tt k1 (pp (pp nn (pp (xw aL) (pp (xG c (Aa (Aj _))) a))) (tt k0 nn))))))))))) (fun k0=>(lr 11 3 (pn 191) 1 17 [(4,(.str x0)),(5,(.bool false))] (sl Xq 61 [] (b8 [4,5]) b7 (bl 10 512) (tt k0 nn)))))
theorem u3y (x0:zy) (x1:zy) (n:Nat) (vs:zx) (h:Zt (w3b x0 x1) n (Rf x0 x1)=.ret vs):Kw prog (Zy prog 79) (Zm prog 79 [(.str x0),(.str x1)] true []) vs:=by have:=Zb (v0t x0 x1) n _ (w3c x0 x1);rwa [h] at this
inductive IA where
 | h0 (cG:Nat)
def OH (x0:zy):IA->CH
 | .h0 cG=>⟨⟨44,0,true⟩,none,(Zf prog 67 (pn 75) 0),none,(Zy prog 9),⟨Yh [(15,(.ptr 0 0))],Wd [⟨[(.obj (.it x0 cG))],9,none⟩] 0,1,[],true⟩,[],.leaf⟩
def QY :List (Option zw):=[some [15]]
def QX :List (Option zw):=[]
def Lt (x0:zy):IA->Xy IA
 | .h0 cG=>let a:=Di x0 cG;(bif (decide (cG<x0.length)) then (bif (decide (a>=97)) then (bif (!(decide (a<=122))) then (bif (((cG:Nat):Int) == 0) then (.ret [(.bool false)]) else (bif (a != 45) then (bif (decide (a<48)) then (.ret [(.bool false)]) else (bif (decide (a>57)) then (.ret [(.bool false)]) else (.to (.h0 (cG+Fn x0 cG))))) else (.to (.h0 (cG+Fn x0 cG))))) else (.to (.h0 (cG+Fn x0 cG)))) else (bif (((cG:Nat):Int) == 0) then (.ret [(.bool false)]) else (bif (a != 45) then (bif (decide (a<48)) then (.ret [(.bool false)]) else (bif (decide (a>57)) then (.ret [(.bool false)]) else (.to (.h0 (cG+Fn x0 cG))))) else (.to (.h0 (cG+Fn x0 cG)))))) else (.ret [(.bool true)]))
def VR (x0:zy):Xy IA:=(bif ((x0.length:Int) == 0) then (.ret [(.bool false)]) else (bif (decide ((x0.length:Int)>40)) then (.ret [(.bool false)]) else (.to (.h0 0))))
theorem w9f (x0:zy): ∀s,Wu prog (Zy prog 67) (OH x0) (OH x0 s) (Lt x0 s)
 | .h0 cG=>(lb (fun k0=>(lb (fun k1=>let d:=tt k1 (tt k0 nn);(lb (fun k2=>let a:=tt k2 d;(lb (fun k3=>(lr 44 67 (pn 20171) 1 9 [(2,(.bool false))] (sl Xq 52 [] (b8 [2]) b7 (CC 13 []) (tt k3 a)))) (fun k3=>(lb (fun k4=>let c:=tt k4 (tt k3 a);(lb (fun k5=>(lr 44 67 (pn 20171) 1 9 [(2,(.bool false))] (sl Xq 52 [] (b8 [2]) b7 (CC 7 (bl 12 3576)) (tt k5 c)))) (fun k5=>(lb (fun k6=>(lr 44 67 (pn 20171) 1 9 [(2,(.bool false))] (sl Xq 52 [] (b8 [2]) b7 (CC 7 (bl 12 3384)) (tt k6 (tt k5 c))))) (fun k6=>(sl Xq 51 [] ⟨[0],[],QY,QX⟩ b7 (CC 7 (bl 12 1336)) (tt k6 (tt k5 c)))))))) (fun k4=>(sl Xq 51 [] ⟨[0],[],QY,QX⟩ b7 (CC 7 (bl 10 256)) (tt k4 (tt k3 a)))))))) (fun k2=>(sl Xq 51 [] ⟨[0],[],QY,QX⟩ b7 (CC 4 (bl 5 0)) (tt k2 d))))) (fun k1=>let e:=tt k1 (tt k0 nn);(lb (fun k2=>(lr 44 67 (pn 20171) 1 9 [(2,(.bool false))] (sl Xq 52 [] (b8 [2]) b7 (bl 13 8179) (tt k2 e)))) (fun k2=>let b:=tt k2 e;(lb (fun k3=>(lb (fun k4=>(lr 44 67 (pn 20171) 1 9 [(2,(.bool false))] (sl Xq 52 [] (b8 [2]) b7 (bl 19 457843) (tt k4 (tt k3 b))))) (fun k4=>let f:=tt k4 (tt k3 b);(lb (fun k5=>(lr 44 67 (pn 20171) 1 9 [(2,(.bool false))] (sl Xq 52 [] (b8 [2]) b7 (bl 19 433267) (tt k5 f)))) (fun k5=>(sl Xq 51 [] ⟨[0],[],QY,QX⟩ b7 (bl 19 171123) (tt k5 f))))))) (fun k3=>(sl Xq 51 [] ⟨[0],[],QY,QX⟩ b7 (bl 17 32883) (tt k3 b))))))))) (fun k0=>(lr 44 3 (pn 191) 1 9 [(2,(.bool true))] (sl Xq 12 [] (b8 [2]) b7 (bl 2 0) (tt k0 nn)))))
theorem w1i (x0:zy):Wu prog (Zy prog 67) (OH x0) (Zm prog 67 [(.str x0)] true []) (VR x0):=(lb (fun k0=>(lr 44 67 (pn 37) 1 9 [(2,(.bool false))] (sl Xq 21 [] (b8 [2]) b7 (CC 4 []) (tt k0 nn)))) (fun k0=>(lb (fun k1=>(lr 44 67 (pn 37) 1 9 [(2,(.bool false))] (sl Xq 21 [] (b8 [2]) b7 (bl 4 8) (tt k1 (tt k0 nn))))) (fun k1=>(sl Xq 26 [] ⟨[0],[],QY,QX⟩ b7 (bl 4 0) (tt k1 (tt k0 nn)))))))
theorem u2c (x0:zy) (n:Nat) (vs:zx) (h:Zt (Lt x0) n (VR x0)=.ret vs):Kw prog (Zy prog 67) (Zm prog 67 [(.str x0)] true []) vs:=by have:=Zb (w9f x0) n _ (w1i x0);rwa [h] at this
inductive Hk where
 | h0 (v3:Int)
def NQ (x0:zy):Hk->CH
 | .h0 v3=>⟨⟨40,0,true⟩,none,(Zf prog 77 (pn 37) 0),none,(Zy prog 9),⟨Yh [(0,(.str x0)),(3,(ii v3))],Wd [] 0,0,[],true⟩,[],.leaf⟩
def Q1 :List (Option zw):=[some [0,3]]
def Q0 :List (Option zw):=[]
def Lx (x0:zy):Hk->Xy Hk
 | .h0 v3=>let a:=CW x0 v3.toNat;(bif (decide (v3<(x0.length:Int))) then (bif (decide (0<=v3/\v3<(x0.length:Int))) then (bif (decide (a>=97)) then (bif (!(decide (a<=122))) then (bif (v3 == 0) then (.ret [(.bool false)]) else (bif (a != 45) then (bif (decide (a>=48)) then (bif (!(decide (a<=57))) then (.ret [(.bool false)]) else (.to (.h0 (wrap .i64 (v3+1))))) else (.ret [(.bool false)])) else (.to (.h0 (wrap .i64 (v3+1)))))) else (.to (.h0 (wrap .i64 (v3+1))))) else (bif (v3 == 0) then (.ret [(.bool false)]) else (bif (a != 45) then (bif (decide (a>=48)) then (bif (!(decide (a<=57))) then (.ret [(.bool false)]) else (.to (.h0 (wrap .i64 (v3+1))))) else (.ret [(.bool false)])) else (.to (.h0 (wrap .i64 (v3+1))))))) else .stuck) else (bif (decide ((x0.length:Int)>=1)) then (.ret [(.bool (decide ((x0.length:Int)<=40)))]) else (.ret [(.bool false)])))
def x2v (x0:zy):Xy Hk:=(.to (.h0 0))
theorem w8k (x0:zy): ∀s,Wu prog (Zy prog 77) (NQ x0) (NQ x0 s) (Lx x0 s)
 | .h0 v3=>(lb (fun k0=>(lo fun aB=>let a:=ww aB (tt k0 nn);(lb (fun k1=>(lb (fun k2=>let f:=tt k2 (tt k1 a);(lb (fun k3=>(lr 40 77 (pn 2341) 1 9 [(2,(.bool false))] (sl Xq 57 [] (b8 [2]) b7 (CC 14 []) (tt k3 f)))) (fun k3=>let d:=ww aB (tt k3 f);(lb (fun k4=>let b:=ww aB (tt k4 d);(lb (fun k5=>(lb (fun k6=>(lr 40 77 (pn 2341) 1 9 [(2,(.bool false))] (sl Xq 72 [] (b8 [2]) b7 (CC 6 (bl 15 28640)) (tt k6 (tt k5 b))))) (fun k6=>(sl Xq 76 [] ⟨[],[],Q1,Q0⟩ b7 (CC 6 (bl 15 12256)) (tt k6 (tt k5 b)))))) (fun k5=>(lr 40 77 (pn 2341) 1 9 [(2,(.bool false))] (sl Xq 72 [] (b8 [2]) b7 (CC 6 (bl 15 27104)) (tt k5 b)))))) (fun k4=>(sl Xq 61 [] ⟨[],[],Q1,Q0⟩ b7 (CC 6 (bl 13 2048)) (tt k4 d))))))) (fun k2=>(sl Xq 61 [] ⟨[],[],Q1,Q0⟩ b7 (CC 3 (bl 5 0)) (tt k2 (tt k1 a)))))) (fun k1=>(lb (fun k2=>(lr 40 77 (pn 2341) 1 9 [(2,(.bool false))] (sl Xq 57 [] (b8 [2]) b7 (bl 14 16377) (tt k2 (tt k1 a))))) (fun k2=>let e:=ww aB (tt k2 (tt k1 a));(lb (fun k3=>let c:=ww aB (tt k3 e);(lb (fun k4=>(lb (fun k5=>(lr 40 77 (pn 2341) 1 9 [(2,(.bool false))] (sl Xq 72 [] (b8 [2]) b7 (bl 21 1833017) (tt k5 (tt k4 c))))) (fun k5=>(sl Xq 76 [] ⟨[],[],Q1,Q0⟩ b7 (bl 21 784441) (tt k5 (tt k4 c)))))) (fun k4=>(lr 40 77 (pn 2341) 1 9 [(2,(.bool false))] (sl Xq 72 [] (b8 [2]) b7 (bl 21 1734713) (tt k4 c)))))) (fun k3=>(sl Xq 61 [] ⟨[],[],Q1,Q0⟩ b7 (bl 19 131129) (tt k3 e)))))))))) (fun k0=>(lb (fun k1=>(lr 40 3 (pn 191) 1 9 [(2,(.bool (decide ((x0.length:Int)<=40))))] (sl Xq 22 [] (b8 [2]) b7 (bl 4 14) (tt k1 (tt k0 nn))))) (fun k1=>(lr 40 3 (pn 191) 1 9 [(2,(.bool false))] (sl Xq 22 [] (b8 [2]) b7 (bl 4 0) (tt k1 (tt k0 nn))))))))
theorem w0b (x0:zy):Wu prog (Zy prog 77) (NQ x0) (Zm prog 77 [(.str x0)] true []) (x2v x0):=(sl Xq 11 [] ⟨[],[],Q1,Q0⟩ b7 [] nn)
theorem u0e (x0:zy) (n:Nat) (vs:zx) (h:Zt (Lx x0) n (x2v x0)=.ret vs):Kw prog (Zy prog 77) (Zm prog 77 [(.str x0)] true []) vs:=by have:=Zb (w8k x0) n _ (w0b x0);rwa [h] at this
inductive Hs where
 | h0 (v3:List zy) (v4:Int) (v5:Int)
def NZ (x0:zy):Hs->CH
 | .h0 v3 v4 v5=>⟨⟨34,0,true⟩,none,(Zf prog 52 (pn 303) 0),none,(Zy prog 9),⟨Yh [(0,(.str x0)),(3,(.sla 0 1 0 v3.length (.un 1))),(4,(ii v4)),(5,(ii v5))],Wd [(rz v3 9 1)] 0,1,[],true⟩,[],.leaf⟩
def YN :List (Option zw):=[some [0,3,4,5]]
def YM :List (Option zw):=[]
def Ge (x0:zy):Hs->Xy Hs
 | .h0 v3 v4 v5=>(bif (decide (v5<=(x0.length:Int))) then (bif (v5 == (x0.length:Int)) then (bif (decide (v4.toNat<=v5.toNat)) then (bif (decide (v5.toNat<=x0.length)) then (bif (decide (0<=v4)) then (bif (decide (0<=v5)) then (bif (Nat.beq 1 1&&((decide (0+v3.length=v3.length))&&decide ((v3.length+1+1)*(16+1)<=Vw))) then (.to (.h0 (v3++[((x0.drop v4.toNat).take (v5.toNat - v4.toNat))]) (wrap .i64 (v5+1)) (wrap .i64 (v5+1)))) else .stuck) else .stuck) else .stuck) else .stuck) else .stuck) else (bif (decide (0<=v5/\v5<(x0.length:Int))) then (bif ((CW x0 v5.toNat) == 47) then (bif (decide (v4.toNat<=v5.toNat)) then (bif (decide (v5.toNat<=x0.length)) then (bif (decide (0<=v4)) then (bif (decide (0<=v5)) then (bif (Nat.beq 1 1&&((decide (0+v3.length=v3.length))&&decide ((v3.length+1+1)*(16+1)<=Vw))) then (.to (.h0 (v3++[((x0.drop v4.toNat).take (v5.toNat - v4.toNat))]) (wrap .i64 (v5+1)) (wrap .i64 (v5+1)))) else .stuck) else .stuck) else .stuck) else .stuck) else .stuck) else (.to (.h0 v3 v4 (wrap .i64 (v5+1))))) else .stuck)) else (.ret [(dt v3)]))
def VW (x0:zy):Xy Hs:=(bif (x0 == ([]:zy)) then (.ret [.nils]) else (.to (.h0 ([]:List zy) 0 0)))
theorem w8x (x0:zy): ∀s,Wu prog (Zy prog 52) (NZ x0) (NZ x0 s) (Ge x0 s)
 | .h0 v3 v4 v5=>(lb (fun k0=>let j:=x0.drop (tn v4);let l:=j.take ((tn v5) - (tn v4));let f:=v3++[l];let a:=f;let e:=Zg (Zz v3) 0 v3.length 1 [(.str l)];let g:=v3.length+1;let h:=decide ((tn v5)<=x0.length);let i:=decide ((tn v4)<=(tn v5));(lb (fun k1=>(lo fun o0=>(lo fun o1=>(lo fun o2=>(lo fun o3=>(lo fun o4=>let b:=xL g f.length;(sl Xq 49 [] ⟨[2],[],YN,YM⟩ ⟨[(3,.len a.length)],[.rowed 1 a.length (Zz a)],[]⟩ (CC 6 []) (pp b (pp b (pp (xS g e (Zz f)) (pp (pp (xF e) nn) (ww o4 (pp (pp (xw o3) (pp (xw o2) (pp (xG h) (xG i)))) (tt k1 (tt k0 nn))))))))))))))) (fun k1=>(lo fun bO=>let d:=ww bO (tt k1 (tt k0 nn));(lb (fun k2=>(lo fun o0=>(lo fun o1=>(lo fun o2=>(lo fun o3=>(lo fun o4=>let c:=xL g f.length;(sl Xq 49 [] ⟨[2],[],YN,YM⟩ ⟨[(3,.len a.length)],[.rowed 1 a.length (Zz a)],[]⟩ (bl 6 33) (pp c (pp c (pp (xS g e (Zz f)) (pp (pp (xF e) nn) (ww o4 (pp (pp (xw o3) (pp (xw o2) (pp (xG h) (xG i)))) (tt k2 d)))))))))))))) (fun k2=>(sl Xq 34 [] ⟨[0],[],YN,YM⟩ b7 (bl 6 1) (pp (fl v3 nn) (tt k2 d))))))))) (fun k0=>(lr 34 3 (pn 191) 1 9 [(2,(dt v3))] (sl Xq 15 [] ⟨[],[0],[some [2]],[]⟩ ⟨[(2,.frz v3.length v3.length (Zz v3) (Zz v3))],[],[]⟩ [false] (pp (xZ (Cz 1 1 0 v3.length v3.length (Zz v3)) v3.length (Zz v3)) (pp (xL v3.length v3.length) (pp (xS v3.length (Zz v3) (Zz v3)) (pp (fl v3 nn) (tt k0 nn)))))))))
theorem w0r (x0:zy):Wu prog (Zy prog 52) (NZ x0) (Zm prog 52 [(.str x0)] true []) (VW x0):=(lb (fun k0=>(lr 34 52 (pn 37) 1 9 [(2,.nils)] (sl Xq 15 [] (b8 [2]) b7 [true] (tt k0 nn)))) (fun k0=>let a:=zy;(sl Xq 27 [(9,1,Zz ([]:List a))] ⟨[0],[],YN,YM⟩ ⟨[(3,.grow 0 1)],[],[]⟩ [false] (pp (fl ([]:List a) nn) (tt k0 nn)))))
theorem u0t (x0:zy) (n:Nat) (vs:zx) (h:Zt (Ge x0) n (VW x0)=.ret vs):Kw prog (Zy prog 52) (Zm prog 52 [(.str x0)] true []) vs:=by have:=Zb (w8x x0) n _ (w0r x0);rwa [h] at this
theorem UC {s:zy} {i:Nat} (h:i<s.length):(⟨s.toArray⟩:ByteArray).get! i=s[i]:=by simp [ByteArray.get!,h]
theorem w6k {s:zy} {i:Nat} (h:i<s.length) (ha:s[i].toNat <128):Di s i=((s[i].toNat :Nat):Int)/\Fn s i=1:=by
 have e:Utf8.decode ⟨s.toArray⟩ i=(s[i].toNat,1):=by unfold Utf8.decode;simp only [Bn,UC h];rw [AG ha]
 unfold Di Fn;rw [e];exact ⟨rfl,rfl⟩
theorem u8j {s:zy} {i:Nat} (h:i<s.length) (ha: ¬s[i].toNat <128):128<=Di s i:=by
 have e:128<=(Utf8.decode ⟨s.toArray⟩ i).1:=by
  unfold Utf8.decode;simp only [Bn,UC h];rw [Az ha];repeat' split
  all_goals (try simp only [Utf8.runeError,Ad,An,ge_iff_le] at*)
  all_goals omega
 unfold Di;omega
end Go.Am
end
