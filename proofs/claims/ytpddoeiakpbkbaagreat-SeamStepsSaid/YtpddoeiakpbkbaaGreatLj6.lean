/- A part of a proof: several texts in one. -/
import Derived.Test.YtpddoeiakpbkbaaGreatLj5
import Derived.ChangeArms
import Derived.WideShapes
import Derived.ChangeShapes
set_option maxRecDepth 1000000
set_option maxHeartbeats 8000000
set_option linter.unusedVariables false
set_option linter.unusedSimpArgs false
noncomputable section
namespace Go.Am
open IntKind (wrap)
open Go.Proofs.Tryz
open Go.Proofs Go.Sort Go.Shelf Go.RowKit Go.Lib
def bA :R6:=⟨0,0,0,2,2,1⟩
def bB :R6:=⟨2,0,0,4,2,2⟩
def wh4 :List R6:=[⟨0,0,0,4,2,1⟩,⟨2,0,1,4,2,2⟩]
theorem can2 (r:R4) (h1:r.a<r.c) (h2:r.b<r.d):Wu.can [r]:=⟨[⟨r.a,r.c,[⟨r.b,r.d⟩]⟩],.one _ ⟨h1,can1 _ _ h2,by simp⟩,rfl⟩
theorem y9f :Zr wh4=0:=by
 refine y3d (by decide) ?_ ⟨[⟨0,1,[⟨0,0,4,2⟩]⟩,⟨1,2,[⟨2,0,4,2⟩]⟩],.cons _ _ [] ⟨by decide,can2 _ (by decide) (by decide),by simp⟩ ⟨by decide,fun _=>by simp⟩ (.one _ ⟨by decide,can2 _ (by decide) (by decide),by simp⟩),rfl⟩;intro r hr;simp only [wh4,AG,Bi,BR] at hr;rcases hr with rfl | rfl <;> rfl
theorem x1r :Zr [bA]=0:=y0l rfl
theorem w6y :Zr [bB]=0:=y0l rfl
theorem nb_A :nbS [bA]:=(z8n (S:=[bA]) rfl).1
theorem nb_B :nbS [bB]:=(z8n (S:=[bB]) rfl).1
theorem nb_W :nbS wh4:=(z8n (S:=wh4) rfl).1
theorem un_is {a b W:List R6} (ha:Zr a=0) (hb:Zr b=0) (na:nbS a) (nb:nbS b) (hW:Zr W=0) (h: ∀x y z,inS W x y z↔inS a x y z∨inS b x y z):z5u .u a b=0∧z2f .u a b=W:=by
 obtain ⟨c,pts⟩:=u_pts ha hb na nb;have e:slJ .u a b=W:=x7y.uniq _ _ c (w3p hW) fun ⟨z,x,y⟩=>by rw [←y0r,←y0r,pts,h]
 have e1:slE .u a b=0:=by
  grind [j1j,Qy,x6c]
 refine ⟨e1,?_⟩;unfold z2f;rw [e1];exact e
theorem in_wh (x y z:Int):inS wh4 x y z↔inS [bA] x y z∨inS [bB] x y z:=by unfold inS wh4 bA bB;simp;omega
theorem wh_ld :whE [] ld4=0∧whL [] ld4=wh4:=by
 obtain ⟨a1,a0⟩:=un_is x8b x1r w0a nb_A x1r fun x y z=>by
  constructor
  ·exact .inr
  ·rintro (⟨r,hr,_⟩ | h);all_goals grind
 obtain ⟨b1,b0⟩:=un_is x1r w6y nb_A nb_B y9f in_wh;constructor
 ·show (bif z5u .u [] [bA] != 0 then _ else bif z5u .u (z2f .u [] [bA]) [bB] != 0 then _ else _)=_;rw [a1,a0,b1];rfl
 ·show z2f .u (z2f .u [] [bA]) [bB]=_;rw [a0,b0]
theorem x4h :z2h ld4=0:=by
 have g0:w2l ld4 0=false:=by show (Zr [⟨0,0,0,2,2,2⟩] != 0||_)=false;rw [y0l (b:=⟨0,0,0,2,2,2⟩) rfl];rfl
 have g1:w2l ld4 1=false:=by show (Zr [⟨2,0,0,4,2,2⟩] != 0||_)=false;rw [y0l (b:=⟨2,0,0,4,2,2⟩) rfl];rfl
 have e:skE ld4=0:=by show (bif Zr [bA] != 0 then _ else bif Zr [bB] != 0 then _ else _)=_;rw [x1r,w6y];rfl
 show (bif skE ld4 != 0 then _ else bif w2l ld4 0 then 8 else bif w2l ld4 1 then 8 else 0)=_
 grind
theorem w0p :j7y ld4:=v5n x4h
theorem j3y : ∀x∈ld4,w8h x.s=true:=fun x hx=>by
 simp only [ld4,AG,Bi,BR] at hx;rcases hx with rfl | rfl <;> rfl
theorem swo_ld :z1i ld4=0∧Uq ld4=wh4:=by
 obtain ⟨e,l⟩:=wh_ld;have h1:z1i ld4=0:=by
  grind [z1i,Qu,x4h]
 refine ⟨h1,?_⟩;unfold Uq;rw [h1,l];rfl
theorem svo_ld :z4i wh4=0∧z3w wh4=12:=by refine ⟨y9f,?_⟩;unfold z3w;rw [y9f];rfl
theorem z8j (q:Ax) (r:R6) (h:q.lo r<q.hi r):plQ q [r]=[q.lo r,q.hi r]:=y1a _ _ (y0j q _) (by simp [h]) fun x=>by rw [x2m];simp
theorem x3e (M:Int→Int→List R4) (d a b:Int):Jr M d [a,b]=(M d a).map (qdA d (dhA d) a)++(M d b).map (qdA d (dhA d) b):=by
 show (M d a).map (qdA d (dhA d) a)++((M d b).map (qdA d (dhA d) b)++[])=_
 grind
theorem y4r (M:Int→Int→List R4) (S:List R6):z6d M S 6 0=Jr M 0 (plQ .x S)++(Jr M 1 (plQ .x S)++(Jr M 2 (plQ .y S)++(Jr M 3 (plQ .y S)++(Jr M 4 (plQ .z S)++Jr M 5 (plQ .z S))))):=by
 have e:z6d M S 6 0=Jr M ((0:Nat):Int) (plA (dhA ((0:Nat):Int)) S)++(Jr M ((0+1:Nat):Int) (plA (dhA ((0+1:Nat):Int)) S)++(Jr M ((0+1+1:Nat):Int) (plA (dhA ((0+1+1:Nat):Int)) S)++(Jr M ((0+1+1+1:Nat):Int) (plA (dhA ((0+1+1+1:Nat):Int)) S)++(Jr M ((0+1+1+1+1:Nat):Int) (plA (dhA ((0+1+1+1+1:Nat):Int)) S)++(Jr M ((0+1+1+1+1+1:Nat):Int) (plA (dhA ((0+1+1+1+1+1:Nat):Int)) S)++[]))))):=rfl;have p: ∀q s,plA (dhA (Vt q s:Int)) S=plQ q S:=fun q s=>by rw [x0v,v4k]
 have p0:plA (dhA ((0:Nat):Int)) S=plQ .x S:=p .x true;have p1:plA (dhA ((0+1:Nat):Int)) S=plQ .x S:=p .x false;have p2:plA (dhA ((0+1+1:Nat):Int)) S=plQ .y S:=p .y true;have p3:plA (dhA ((0+1+1+1:Nat):Int)) S=plQ .y S:=p .y false;have p4:plA (dhA ((0+1+1+1+1:Nat):Int)) S=plQ .z S:=p .z true
 grind [dhA]
theorem fs_is (q:Ax) (s:Bool) (p:Int) (R:List R4) (cR:Wu.can R) (h: ∀u v,ptL Wu.inB R (u,v)↔q.inL [bA] (Jm s p) u v∧ ¬q.inL wh4 (Kp s p) u v):FS q s [bA] wh4 p=R:=by obtain ⟨c,pts⟩:=w5v x1r y9f q s p;exact Wu.uniq _ _ c cR fun ⟨u,v⟩=>by rw [pts,h]
theorem v4j (u v:Int):ptL Wu.inB [] (u,v)↔False:=⟨fun h=>y0i _ _ h,fun h=>h.elim⟩
theorem u8m (r:R4) (u v:Int):ptL Wu.inB [r] (u,v)↔(r.a≤u∧u<r.c)∧(r.b≤v∧v<r.d):=by rw [v8n];simp
theorem u9p (q:Ax) (p u v:Int):q.inL wh4 p u v↔q.inB ⟨0,0,0,4,2,1⟩ p u v∨q.inB ⟨2,0,1,4,2,2⟩ p u v:=by unfold Ax.inL wh4;simp
theorem fs_ld :FS .x true [bA] wh4 0=[]∧FS .x true [bA] wh4 2=[]∧FS .x false [bA] wh4 0=[⟨0,0,2,1⟩]∧FS .x false [bA] wh4 2=[]∧
  FS .y true [bA] wh4 0=[]∧FS .y true [bA] wh4 2=[⟨0,0,2,1⟩]∧FS .y false [bA] wh4 0=[⟨0,0,2,1⟩]∧FS .y false [bA] wh4 2=[]∧
  FS .z true [bA] wh4 0=[]∧FS .z true [bA] wh4 1=[⟨0,0,2,2⟩]∧FS .z false [bA] wh4 0=[⟨0,0,2,2⟩]∧FS .z false [bA] wh4 1=[]:=by
 refine ⟨?_,?_,?_,?_,?_,?_,?_,?_,?_,?_,?_,?_⟩ <;>
 first
  | (refine fs_is _ _ _ [] Wu.nil fun u v=> ?_
     rw [v4j,u9p,y5x];refine ⟨False.elim,fun h=> ?_⟩;simp only [Ax.inB,Ax.lo,Ax.hi,Ax.rc,bA,Jm,Kp] at h;omega)
  | (refine fs_is _ _ _ [_] ?_ fun u v=> ?_
     ·exact can2 _ (by decide) (by decide)
     grind [u8m,u9p,y5x,Ax.inB,Ax.lo,Ax.hi,Ax.rc,bA,Jm,Kp])
theorem z3z (q:Ax) (s:Bool) {p:Int} (hp: -12≤p∧p≤12):z0a [bA] wh4 (Vt q s:Int) p=FS q s [bA] wh4 p:=(x1m x1r y9f nb_A nb_W q s hp).2
def sk4 :List R7:=[⟨1,0,0,0,0,2,1⟩,⟨2,0,2,0,2,2,1⟩,⟨3,0,0,0,2,0,1⟩,⟨4,0,0,1,2,2,1⟩,⟨5,0,0,0,2,2,0⟩]
theorem skl_ld :z6d (z0a [bA] wh4) [bA] 6 0=sk4:=by
 obtain ⟨f1,f2,f3,f4,f5,f6,f7,f8,f9,fa,fb,fc⟩:=fs_ld;rw [y4r,z8j .x bA (by decide),z8j .y bA (by decide),z8j .z bA (by decide)];rw [show (Ax.x).lo bA=0 from rfl,show (Ax.x).hi bA=2 from rfl,show (Ax.y).lo bA=0 from rfl,show (Ax.y).hi bA=2 from rfl,show (Ax.z).lo bA=0 from rfl,show (Ax.z).hi bA=1 from rfl];simp only [x3e];rw [show z0a [bA] wh4 0 0=_ from z3z .x true (by omega),show z0a [bA] wh4 0 2=_ from z3z .x true (by omega),show z0a [bA] wh4 1 0=_ from z3z .x false (by omega),show z0a [bA] wh4 1 2=_ from z3z .x false (by omega),
  show z0a [bA] wh4 2 0=_ from z3z .y true (by omega),show z0a [bA] wh4 2 2=_ from z3z .y true (by omega),show z0a [bA] wh4 3 0=_ from z3z .y false (by omega),show z0a [bA] wh4 3 2=_ from z3z .y false (by omega),
  show z0a [bA] wh4 4 0=_ from z3z .z true (by omega),show z0a [bA] wh4 4 1=_ from z3z .z true (by omega),show z0a [bA] wh4 5 0=_ from z3z .z false (by omega),show z0a [bA] wh4 5 1=_ from z3z .z false (by omega)]
 rw [f1,f2,f3,f4,f5,f6,f7,f8,f9,fa,fb,fc];rfl
theorem skn_ld :Ut ld4 0=0∧Wd ld4 0=sk4:=by
 obtain ⟨e,l⟩:=wh_ld;have hw:Zo ld4=wh4:=by unfold Zo;rw [e,l];rfl
 have s1:=v2n w0p j3y (A:=wh4) y9f nb_W (fun x y z=>by
  rw [in_wh];constructor
  ·rintro (h | h)
   ·exact ⟨_,List.mem_cons_self ..,h⟩
   ·exact ⟨_,List.mem_cons_of_mem _ (List.mem_cons_self ..),h⟩
  ·rintro ⟨p,hp,h⟩;simp only [ld4,AG,Bi,BR] at hp;rcases hp with rfl | rfl
   ·exact .inl h
   ·exact .inr h) (i:=0) (by decide)
 have h1:Ut ld4 0=0:=by show (bif z2h ld4 != 0 then _ else bif Qu ld4 != 0 then _ else w3g (y2g [bA] (Zo ld4)) (z0a [bA] (Zo ld4)) [bA])=0;rw [x4h,show Qu ld4=0 from e,hw];exact s1
 refine ⟨h1,?_⟩;unfold Wd;rw [h1];show z6d (z0a [bA] (Zo ld4)) [bA] 6 0=_;rw [hw,skl_ld]
theorem v1m {S T:List R6} {b:R6} (hS:Zr S=0) (hT:Zr T=0) (hb:Zr [b]=0) (nS:nbS S) (nT:nbS T) (q:Ax) (s:Bool) {p:Int} (hp: -12≤p∧p≤12) (R:List R4) (cR:Wu.can R)
  (h: ∀u v,ptL Wu.inB R (u,v)↔q.inL S (Jm s p) u v∧q.inB b (Kp s p) u v∧ ¬q.inL T (Kp s p) u v):Ja S T b (Vt q s:Int) p=R:=by
 rw [(x1g hS hT hb nS nT q s hp).2];obtain ⟨c,pts,_⟩:=x6u hS hT hb nS nT q s p;exact Wu.uniq _ _ c cR fun ⟨u,v⟩=>by rw [pts,h]
theorem u6u :Zr [(⟨0,0,0,2,2,2⟩:R6)]=0:=y0l rfl
theorem v1u (q:Ax) (s:Bool) {p:Int} (hp: -12≤p∧p≤12) (h: ¬(q=.x ∧s=false∧p=2)):Ja [bB] [bA] ⟨0,0,0,2,2,2⟩ (Vt q s:Int) p=[]:=by
 refine v1m w6y x1r u6u nb_B nb_A q s hp [] Wu.nil fun u v=> ?_;rw [v4j,y5x,y5x];refine ⟨False.elim,fun k=> ?_⟩;cases q <;> cases s <;> simp only [Ax.inB,Ax.lo,Ax.hi,Ax.rc,bA,bB,Jm,Kp] at k <;> first | omega | grind
theorem st10x :Ja [bB] [bA] ⟨0,0,0,2,2,2⟩ (Vt .x false:Int) 2=[⟨0,1,2,2⟩]:=by
 refine v1m w6y x1r u6u nb_B nb_A .x false (by decide) [_] ?_ fun u v=> ?_
 ·exact can2 _ (by decide) (by decide)
 grind [u8m,y5x,Ax.inB,Ax.lo,Ax.hi,Ax.rc,bA,bB,Jm,Kp]
theorem v0s (q:Ax) (s:Bool) {p:Int} (hp: -12≤p∧p≤12):Ja [bA] [bB] bB (Vt q s:Int) p=[]:=by
 refine v1m x1r w6y w6y nb_A nb_B q s hp [] Wu.nil fun u v=> ?_
 grind [v4j,y5x]
theorem stl_01 :z6d (Ja [bA] [bB] bB) [bA] 6 0=[]:=by
 rw [y4r,z8j .x bA (by decide),z8j .y bA (by decide),z8j .z bA (by decide)];rw [show (Ax.x).lo bA=0 from rfl,show (Ax.x).hi bA=2 from rfl,show (Ax.y).lo bA=0 from rfl,show (Ax.y).hi bA=2 from rfl,show (Ax.z).lo bA=0 from rfl,show (Ax.z).hi bA=1 from rfl];simp only [x3e];rw [show Ja [bA] [bB] bB 0 0=_ from v0s .x true (by omega),show Ja [bA] [bB] bB 0 2=_ from v0s .x true (by omega),show Ja [bA] [bB] bB 1 0=_ from v0s .x false (by omega),show Ja [bA] [bB] bB 1 2=_ from v0s .x false (by omega),
  show Ja [bA] [bB] bB 2 0=_ from v0s .y true (by omega),show Ja [bA] [bB] bB 2 2=_ from v0s .y true (by omega),show Ja [bA] [bB] bB 3 0=_ from v0s .y false (by omega),show Ja [bA] [bB] bB 3 2=_ from v0s .y false (by omega),
  show Ja [bA] [bB] bB 4 0=_ from v0s .z true (by omega),show Ja [bA] [bB] bB 4 1=_ from v0s .z true (by omega),show Ja [bA] [bB] bB 5 0=_ from v0s .z false (by omega),show Ja [bA] [bB] bB 5 1=_ from v0s .z false (by omega)]
 rfl
theorem stl_10 :z6d (Ja [bB] [bA] ⟨0,0,0,2,2,2⟩) [bB] 6 0=[⟨1,2,0,1,2,2,2⟩]:=by
 rw [y4r,z8j .x bB (by decide),z8j .y bB (by decide),z8j .z bB (by decide)];rw [show (Ax.x).lo bB=2 from rfl,show (Ax.x).hi bB=4 from rfl,show (Ax.y).lo bB=0 from rfl,show (Ax.y).hi bB=2 from rfl,show (Ax.z).lo bB=0 from rfl,show (Ax.z).hi bB=2 from rfl];simp only [x3e];rw [show Ja [bB] [bA] ⟨0,0,0,2,2,2⟩ 0 2=_ from v1u .x true (by omega) (by simp),show Ja [bB] [bA] ⟨0,0,0,2,2,2⟩ 0 4=_ from v1u .x true (by omega) (by simp),show Ja [bB] [bA] ⟨0,0,0,2,2,2⟩ 1 2=_ from st10x,show Ja [bB] [bA] ⟨0,0,0,2,2,2⟩ 1 4=_ from v1u .x false (by omega) (by simp),
  show Ja [bB] [bA] ⟨0,0,0,2,2,2⟩ 2 0=_ from v1u .y true (by omega) (by simp),show Ja [bB] [bA] ⟨0,0,0,2,2,2⟩ 2 2=_ from v1u .y true (by omega) (by simp),show Ja [bB] [bA] ⟨0,0,0,2,2,2⟩ 3 0=_ from v1u .y false (by omega) (by simp),show Ja [bB] [bA] ⟨0,0,0,2,2,2⟩ 3 2=_ from v1u .y false (by omega) (by simp),
  show Ja [bB] [bA] ⟨0,0,0,2,2,2⟩ 4 0=_ from v1u .z true (by omega) (by simp),show Ja [bB] [bA] ⟨0,0,0,2,2,2⟩ 4 2=_ from v1u .z true (by omega) (by simp),show Ja [bB] [bA] ⟨0,0,0,2,2,2⟩ 5 0=_ from v1u .z false (by omega) (by simp),show Ja [bB] [bA] ⟨0,0,0,2,2,2⟩ 5 2=_ from v1u .z false (by omega) (by simp)]
 rfl
theorem stp_ld :(Vn ld4 1 0=0∧Ya ld4 1 0=[⟨1,2,0,1,2,2,2⟩])∧Vn ld4 0 1=0∧Ya ld4 0 1=[]:=by
 have s1:=x7o w0p j3y (i:=1) (k:=0) (by decide) (by decide) (by decide);have t1:=x7o w0p j3y (i:=0) (k:=1) (by decide) (by decide) (by decide);have h1:Vn ld4 1 0=0:=by show (bif z2h ld4 != 0 then _ else w3g (y2f [bB] [bA] ⟨0,0,0,2,2,2⟩) (Ja [bB] [bA] ⟨0,0,0,2,2,2⟩) [bB])=0;rw [x4h];exact s1
 have h2:Vn ld4 0 1=0:=by show (bif z2h ld4 != 0 then _ else w3g (y2f [bA] [bB] bB) (Ja [bA] [bB] bB) [bA])=0;rw [x4h];exact t1
 refine ⟨⟨h1,?_⟩,h2,?_⟩
 ·unfold Ya;rw [h1];exact stl_10
 ·unfold Ya;rw [h2];exact stl_01
theorem mar_ld :x0f sk4=0∧y1s sk4=14:=by
 have e:w8l sk4=0:=by decide
 refine ⟨e,?_⟩;unfold y1s;rw [e];rfl
theorem j7u : ∃N,Yx w2q N y4t=.ret [.bool true]:=by
 refine ⟨0,?_⟩;have e:([(Pa.mk 0 0 0 2 2 2 ([(R6.mk 0 0 0 2 2 1)]:List R6)),(Pa.mk 2 0 0 4 2 2 ([(R6.mk 2 0 0 4 2 2)]:List R6))]:List Pa)=ld4:=rfl;obtain ⟨w1,w0⟩:=swo_ld;obtain ⟨v1,v0⟩:=svo_ld;obtain ⟨k1,k0⟩:=skn_ld;obtain ⟨⟨s1,s0⟩,t1,t0⟩:=stp_ld;obtain ⟨m1,m0⟩:=mar_ld;have sm:smP ld4=true:=by decide
 unfold y4t;simp only [Zd,e,w1,w0,v1,v0,k1,k0,s1,s0,t1,t0,m1,m0,show z7l ld4=true from sm,show z7m wh4=true from rfl,show Qj ld4 1 0=true from sm,show Qj ld4 0 1=true from sm,show z2g ld4 0=true from sm,show z8p sk4=true from rfl,show z7s [(R7.mk 1 2 0 1 2 2 2)] [(R7.mk 1 2 0 1 2 2 2)]=true from rfl,show rsqV [(R7.mk 1 2 0 1 2 2 2)] [(R7.mk 1 2 0 1 2 2 2)]=true from An rfl];rfl
def fAl4 :List AVal→Option (AVal×Bool)
 | []=>some (.bool true,true)
 | _=>none
theorem j6u {S:Specs} (hS:Zu prog S):Zu prog (S.with v5i fAl4):=by
 refine Qi hS (by kernel_rfl) fun args v h=> ?_;unfold fAl4 at h;split at h
 ·simp only [Ab,Aa,Bd] at h;subst h;obtain ⟨N,hN⟩:=j7u;exact ⟨_,_,.nil,rfl,u4v N _ hN,3,rfl⟩
 ·cases h
inductive rcvS where
 | h0 (v8:Int) (v9:Int) (v10:Int)
def rcvC (l0:List R7) (aP:Int) (aR:Int) (aQ:Int) (x2:Int):rcvS→Cfg
 | .h0 v8 v9 v10=>⟨⟨88,0,true⟩,none,(Zb prog 31 [1,1,1,1,1,0,1,0,0] 0),none,(Zy prog 3),⟨Yg [(0,(.dat l0.length (Zz l0))),(2,(ii x2)),(4,(.ptr 0 0)),(7,(ii (wr (Int.tdiv x2 2)))),(8,(ii v8)),(9,(ii v9)),(10,(ii v10))],Wt [⟨[(ii aP),(ii aR),(ii aQ)],50,none⟩] 0,1,[],true⟩,[],.leaf⟩
def Qa :List (Option (List Nat)):=[some [0,2,4,7,8,9,10]]
def Qb :List (Option (List Nat)):=[]
def z6r (l0:List R7) (aP:Int) (aR:Int) (aQ:Int) (x2:Int):rcvS→Xw rcvS
 | .h0 v8 v9 v10=>(bif (decide (v10<(l0.length:Int))) then (bif ((decide (0≤v10∧v10<(l0.length:Int)))&&true) then (bif ((wrap .i64 (rd l0 v10.toNat).a) != x2) then (.to (.h0 v8 v9 (wrap .i64 (v10+1)))) else (bif ((z1c (rd l0 v10.toNat).b (rd l0 v10.toNat).c (rd l0 v10.toNat).d (wrap .i64 (Int.tdiv x2 2))) != v8) then (.to (.h0 v8 v9 (wrap .i64 (v10+1)))) else (bif (0 == (wrap .i64 (Int.tdiv x2 2))) then (bif (1 == (wrap .i64 (Int.tdiv x2 2))) then (bif (2 == (wrap .i64 (Int.tdiv x2 2))) then (.to (.h0 v8 (wrap .i64 (v9+1)) (wrap .i64 (v10+1)))) else (bif (decide ((z1c (rd l0 v10.toNat).b (rd l0 v10.toNat).c (rd l0 v10.toNat).d 2)≤(z1c aP aR aQ 2))) then (bif (decide ((z1c aP aR aQ 2)<(z1c (rd l0 v10.toNat).e (rd l0 v10.toNat).f (rd l0 v10.toNat).g 2))) then (.to (.h0 v8 (wrap .i64 (v9+1)) (wrap .i64 (v10+1)))) else (.to (.h0 v8 v9 (wrap .i64 (v10+1))))) else (.to (.h0 v8 v9 (wrap .i64 (v10+1)))))) else (bif (decide ((z1c (rd l0 v10.toNat).b (rd l0 v10.toNat).c (rd l0 v10.toNat).d 1)≤(z1c aP aR aQ 1))) then (bif (decide ((z1c aP aR aQ 1)<(z1c (rd l0 v10.toNat).e (rd l0 v10.toNat).f (rd l0 v10.toNat).g 1))) then (bif (2 == (wrap .i64 (Int.tdiv x2 2))) then (.to (.h0 v8 (wrap .i64 (v9+1)) (wrap .i64 (v10+1)))) else (bif (decide ((z1c (rd l0 v10.toNat).b (rd l0 v10.toNat).c (rd l0 v10.toNat).d 2)≤(z1c aP aR aQ 2))) then (bif (decide ((z1c aP aR aQ 2)<(z1c (rd l0 v10.toNat).e (rd l0 v10.toNat).f (rd l0 v10.toNat).g 2))) then (.to (.h0 v8 (wrap .i64 (v9+1)) (wrap .i64 (v10+1)))) else (.to (.h0 v8 v9 (wrap .i64 (v10+1))))) else (.to (.h0 v8 v9 (wrap .i64 (v10+1)))))) else (.to (.h0 v8 v9 (wrap .i64 (v10+1))))) else (.to (.h0 v8 v9 (wrap .i64 (v10+1)))))) else (bif (decide ((z1c (rd l0 v10.toNat).b (rd l0 v10.toNat).c (rd l0 v10.toNat).d 0)≤(z1c aP aR aQ 0))) then (bif (decide ((z1c aP aR aQ 0)<(z1c (rd l0 v10.toNat).e (rd l0 v10.toNat).f (rd l0 v10.toNat).g 0))) then (bif (1 == (wrap .i64 (Int.tdiv x2 2))) then (bif (2 == (wrap .i64 (Int.tdiv x2 2))) then (.to (.h0 v8 (wrap .i64 (v9+1)) (wrap .i64 (v10+1)))) else (bif (decide ((z1c (rd l0 v10.toNat).b (rd l0 v10.toNat).c (rd l0 v10.toNat).d 2)≤(z1c aP aR aQ 2))) then (bif (decide ((z1c aP aR aQ 2)<(z1c (rd l0 v10.toNat).e (rd l0 v10.toNat).f (rd l0 v10.toNat).g 2))) then (.to (.h0 v8 (wrap .i64 (v9+1)) (wrap .i64 (v10+1)))) else (.to (.h0 v8 v9 (wrap .i64 (v10+1))))) else (.to (.h0 v8 v9 (wrap .i64 (v10+1)))))) else (bif (decide ((z1c (rd l0 v10.toNat).b (rd l0 v10.toNat).c (rd l0 v10.toNat).d 1)≤(z1c aP aR aQ 1))) then (bif (decide ((z1c aP aR aQ 1)<(z1c (rd l0 v10.toNat).e (rd l0 v10.toNat).f (rd l0 v10.toNat).g 1))) then (bif (2 == (wrap .i64 (Int.tdiv x2 2))) then (.to (.h0 v8 (wrap .i64 (v9+1)) (wrap .i64 (v10+1)))) else (bif (decide ((z1c (rd l0 v10.toNat).b (rd l0 v10.toNat).c (rd l0 v10.toNat).d 2)≤(z1c aP aR aQ 2))) then (bif (decide ((z1c aP aR aQ 2)<(z1c (rd l0 v10.toNat).e (rd l0 v10.toNat).f (rd l0 v10.toNat).g 2))) then (.to (.h0 v8 (wrap .i64 (v9+1)) (wrap .i64 (v10+1)))) else (.to (.h0 v8 v9 (wrap .i64 (v10+1))))) else (.to (.h0 v8 v9 (wrap .i64 (v10+1)))))) else (.to (.h0 v8 v9 (wrap .i64 (v10+1))))) else (.to (.h0 v8 v9 (wrap .i64 (v10+1)))))) else (.to (.h0 v8 v9 (wrap .i64 (v10+1))))) else (.to (.h0 v8 v9 (wrap .i64 (v10+1)))))))) else .stuck) else (.ret [(.int .i64 v9)]))
def z8e (l0:List R7) (aP:Int) (aR:Int) (aQ:Int) (x2:Int):Xw rcvS:=(bif ((Int.tmod x2 2) == 0) then (.to (.h0 (wrap .i64 ((z1c aP aR aQ (wrap .i64 (Int.tdiv x2 2)))+1)) 0 0)) else (.to (.h0 (z1c aP aR aQ (wrap .i64 (Int.tdiv x2 2))) 0 0)))
theorem w7z (l0:List R7) (aP:Int) (aR:Int) (aQ:Int) (x2:Int): ∀s,Xu prog (Zy prog 31) (rcvC l0 aP aR aQ x2) (rcvC l0 aP aR aQ x2 s) (z6r l0 aP aR aQ x2 s)
 | .h0 v8 v9 v10=>(lb (fun k0=>(lo fun aE=>(lb (fun k1=>(sl Wh 43 [] ⟨[0],[],Qa,Qb⟩ ⟨[],[],[]⟩ (trs 11 []) (tt k1 (ww aE (tt k0 nn))))) (fun k1=>(lb (fun k2=>(sl Wh 43 [] ⟨[0],[],Qa,Qb⟩ ⟨[],[],[]⟩ (bl 11 1025) (tt k2 (ww aE (tt k1 (ww aE (tt k0 nn))))))) (fun k2=>(lb (fun k3=>(lb (fun k4=>(lb (fun k5=>(sl Wh 238 [] ⟨[0],[],Qa,Qb⟩ ⟨[],[],[]⟩ (bl 64 13835058055282161665) (tt k5 (tt k4 (tt k3 (tt k2 (ww aE (tt k1 (ww aE (tt k0 nn)))))))))) (fun k5=>(lb (fun k6=>(lb (fun k7=>(sl Wh 238 [] ⟨[0],[],Qa,Qb⟩ ⟨[],[],[]⟩ (bl 73 6492102118341062162433) (tt k7 (ww aE (tt k6 (ww aE (tt k5 (tt k4 (tt k3 (tt k2 (ww aE (tt k1 (ww aE (tt k0 nn)))))))))))))) (fun k7=>(sl Wh 234 [] ⟨[0],[],Qa,Qb⟩ ⟨[],[],[]⟩ (bl 73 1769735635471416948737) (tt k7 (ww aE (tt k6 (ww aE (tt k5 (tt k4 (tt k3 (tt k2 (ww aE (tt k1 (ww aE (tt k0 nn)))))))))))))))) (fun k6=>(sl Wh 234 [] ⟨[0],[],Qa,Qb⟩ ⟨[],[],[]⟩ (bl 73 1180592746617318144001) (tt k6 (ww aE (tt k5 (tt k4 (tt k3 (tt k2 (ww aE (tt k1 (ww aE (tt k0 nn)))))))))))))))) (fun k4=>(lb (fun k5=>(lb (fun k6=>(lb (fun k7=>(sl Wh 238 [] ⟨[0],[],Qa,Qb⟩ ⟨[],[],[]⟩ (bl 73 7083545211917337360385) (tt k7 (tt k6 (ww aE (tt k5 (ww aE (tt k4 (tt k3 (tt k2 (ww aE (tt k1 (ww aE (tt k0 nn)))))))))))))) (fun k7=>(lb (fun k8=>(lb (fun k9=>(sl Wh 238 [] ⟨[0],[],Qa,Qb⟩ ⟨[],[],[]⟩ (bl 82 3323956280078236697753601) (tt k9 (ww aE (tt k8 (ww aE (tt k7 (tt k6 (ww aE (tt k5 (ww aE (tt k4 (tt k3 (tt k2 (ww aE (tt k1 (ww aE (tt k0 nn)))))))))))))))))) (fun k9=>(sl Wh 234 [] ⟨[0],[],Qa,Qb⟩ ⟨[],[],[]⟩ (bl 82 906104640848978348341249) (tt k9 (ww aE (tt k8 (ww aE (tt k7 (tt k6 (ww aE (tt k5 (ww aE (tt k4 (tt k3 (tt k2 (ww aE (tt k1 (ww aE (tt k0 nn)))))))))))))))))))) (fun k8=>(sl Wh 234 [] ⟨[0],[],Qa,Qb⟩ ⟨[],[],[]⟩ (bl 82 604463481755679760316417) (tt k8 (ww aE (tt k7 (tt k6 (ww aE (tt k5 (ww aE (tt k4 (tt k3 (tt k2 (ww aE (tt k1 (ww aE (tt k0 nn)))))))))))))))))))) (fun k6=>(sl Wh 234 [] ⟨[0],[],Qa,Qb⟩ ⟨[],[],[]⟩ (bl 62 31516409888503809) (tt k6 (ww aE (tt k5 (ww aE (tt k4 (tt k3 (tt k2 (ww aE (tt k1 (ww aE (tt k0 nn))))))))))))))) (fun k5=>(sl Wh 234 [] ⟨[0],[],Qa,Qb⟩ ⟨[],[],[]⟩ (bl 62 27021606354155521) (tt k5 (ww aE (tt k4 (tt k3 (tt k2 (ww aE (tt k1 (ww aE (tt k0 nn))))))))))))))) (fun k3=>(lb (fun k4=>(lb (fun k5=>(lb (fun k6=>(lb (fun k7=>(sl Wh 238 [] ⟨[0],[],Qa,Qb⟩ ⟨[],[],[]⟩ (bl 73 7083549724270041036801) (tt k7 (tt k6 (tt k5 (ww aE (tt k4 (ww aE (tt k3 (tt k2 (ww aE (tt k1 (ww aE (tt k0 nn)))))))))))))) (fun k7=>(lb (fun k8=>(lb (fun k9=>(sl Wh 238 [] ⟨[0],[],Qa,Qb⟩ ⟨[],[],[]⟩ (bl 82 3323956284590589401430017) (tt k9 (ww aE (tt k8 (ww aE (tt k7 (tt k6 (tt k5 (ww aE (tt k4 (ww aE (tt k3 (tt k2 (ww aE (tt k1 (ww aE (tt k0 nn)))))))))))))))))) (fun k9=>(sl Wh 234 [] ⟨[0],[],Qa,Qb⟩ ⟨[],[],[]⟩ (bl 82 906104645361331052017665) (tt k9 (ww aE (tt k8 (ww aE (tt k7 (tt k6 (tt k5 (ww aE (tt k4 (ww aE (tt k3 (tt k2 (ww aE (tt k1 (ww aE (tt k0 nn)))))))))))))))))))) (fun k8=>(sl Wh 234 [] ⟨[0],[],Qa,Qb⟩ ⟨[],[],[]⟩ (bl 82 604463486268032463992833) (tt k8 (ww aE (tt k7 (tt k6 (tt k5 (ww aE (tt k4 (ww aE (tt k3 (tt k2 (ww aE (tt k1 (ww aE (tt k0 nn)))))))))))))))))))) (fun k6=>(lb (fun k7=>(lb (fun k8=>(lb (fun k9=>(sl Wh 238 [] ⟨[0],[],Qa,Qb⟩ ⟨[],[],[]⟩ (bl 82 3626775148501642302781441) (tt k9 (tt k8 (ww aE (tt k7 (ww aE (tt k6 (tt k5 (ww aE (tt k4 (ww aE (tt k3 (tt k2 (ww aE (tt k1 (ww aE (tt k0 nn)))))))))))))))))) (fun k9=>(lb (fun k10=>(lb (fun k11=>(sl Wh 238 [] ⟨[0],[],Qa,Qb⟩ ⟨[],[],[]⟩ (bl 91 1701865615400057154824108033) (tt k11 (ww aE (tt k10 (ww aE (tt k9 (tt k8 (ww aE (tt k7 (ww aE (tt k6 (tt k5 (ww aE (tt k4 (ww aE (tt k3 (tt k2 (ww aE (tt k1 (ww aE (tt k0 nn)))))))))))))))))))))) (fun k11=>(sl Wh 234 [] ⟨[0],[],Qa,Qb⟩ ⟨[],[],[]⟩ (bl 91 463925576114676879924983809) (tt k11 (ww aE (tt k10 (ww aE (tt k9 (tt k8 (ww aE (tt k7 (ww aE (tt k6 (tt k5 (ww aE (tt k4 (ww aE (tt k3 (tt k2 (ww aE (tt k1 (ww aE (tt k0 nn)))))))))))))))))))))))) (fun k10=>(sl Wh 234 [] ⟨[0],[],Qa,Qb⟩ ⟨[],[],[]⟩ (bl 91 309485302658908002856269825) (tt k10 (ww aE (tt k9 (tt k8 (ww aE (tt k7 (ww aE (tt k6 (tt k5 (ww aE (tt k4 (ww aE (tt k3 (tt k2 (ww aE (tt k1 (ww aE (tt k0 nn)))))))))))))))))))))))) (fun k8=>(sl Wh 234 [] ⟨[0],[],Qa,Qb⟩ ⟨[],[],[]⟩ (bl 71 16136401828488214529) (tt k8 (ww aE (tt k7 (ww aE (tt k6 (tt k5 (ww aE (tt k4 (ww aE (tt k3 (tt k2 (ww aE (tt k1 (ww aE (tt k0 nn))))))))))))))))))) (fun k7=>(sl Wh 234 [] ⟨[0],[],Qa,Qb⟩ ⟨[],[],[]⟩ (bl 71 13835062418901891073) (tt k7 (ww aE (tt k6 (tt k5 (ww aE (tt k4 (ww aE (tt k3 (tt k2 (ww aE (tt k1 (ww aE (tt k0 nn))))))))))))))))))) (fun k5=>(sl Wh 234 [] ⟨[0],[],Qa,Qb⟩ ⟨[],[],[]⟩ (bl 51 9036544145409) (tt k5 (ww aE (tt k4 (ww aE (tt k3 (tt k2 (ww aE (tt k1 (ww aE (tt k0 nn)))))))))))))) (fun k4=>(sl Wh 234 [] ⟨[0],[],Qa,Qb⟩ ⟨[],[],[]⟩ (bl 51 9002251515905) (tt k4 (ww aE (tt k3 (tt k2 (ww aE (tt k1 (ww aE (tt k0 nn))))))))))))))))))) (fun k0=>(lr 88 3 [1,1,1,1,0] 1 3 [(6,(ii v9))] (sl Wh 15 [] ⟨[],[],[some [6]],[]⟩ ⟨[],[],[]⟩ [false] (tt k0 nn)))))
theorem x9k (l0:List R7) (aP:Int) (aR:Int) (aQ:Int) (x2:Int):Xu prog (Zy prog 31) (rcvC l0 aP aR aQ x2) (Za prog 31 [(.dat l0.length (Zz l0)),(.agg [(.int .i64 aP),(.int .i64 aR),(.int .i64 aQ)]),(.int .i64 x2)] true []) (z8e l0 aP aR aQ x2):=(lb (fun k0=>(sl Wh 42 [] ⟨[0],[],Qa,Qb⟩ ⟨[],[],[]⟩ [true] (tt k0 nn))) (fun k0=>(sl Wh 38 [] ⟨[0],[],Qa,Qb⟩ ⟨[],[],[]⟩ [false] (tt k0 nn))))
theorem u1o (l0:List R7) (aP:Int) (aR:Int) (aQ:Int) (x2:Int) (n:Nat) (vs:List AVal) (h:Yx (z6r l0 aP aR aQ x2) n (z8e l0 aP aR aQ x2)=.ret vs):Ur prog (Zy prog 31) (Za prog 31 [(.dat l0.length (Zz l0)),(.agg [(.int .i64 aP),(.int .i64 aR),(.int .i64 aQ)]),(.int .i64 x2)] true []) vs:=by have:=Zc (w7z l0 aP aR aQ x2) n _ (x9k l0 aP aR aQ x2);rwa [h] at this
def axD (d:Int):Int:=wrap .i64 (Int.tdiv d 2)
def u2b (x y z d:Int):Int:=bif Int.tmod d 2 == 0 then wrap .i64 (z1c x y z (axD d)+1) else z1c x y z (axD d)
def inK (r:R7) (x y z a k:Int):Bool:=(k == a)||(decide (z1c r.b r.c r.d k≤z1c x y z k)&&decide (z1c x y z k<z1c r.e r.f r.g k))
def cvQ (x y z d:Int) (r:R7):Bool:=(wrap .i64 r.a == d)&&((z1c r.b r.c r.d (axD d) == u2b x y z d)&&(inK r x y z (axD d) 0&&(inK r x y z (axD d) 1&&inK r x y z (axD d) 2)))
def w8a (L:List R7) (x y z d:Int):Int:=(L.countP (cvQ x y z d):Int)
def Qg (L:List R7) (x y z d:Int):Bool:=decide (L.length≤1000000)
theorem cv_lem {α:Type} (A B:α) (b1 b2 e0 l0 h0 e1 l1 h1 e2 l2 h2:Bool):
  (bif !b1 then B else bif !b2 then B else bif e0 then (bif e1 then (bif e2 then A else bif l2 then (bif h2 then A else B) else B) else bif l1 then (bif h1 then (bif e2 then A else bif l2 then (bif h2 then A else B) else B) else B) else B)
   else bif l0 then (bif h0 then (bif e1 then (bif e2 then A else bif l2 then (bif h2 then A else B) else B) else bif l1 then (bif h1 then (bif e2 then A else bif l2 then (bif h2 then A else B) else B) else B) else B) else B) else B)=
  bif b1&&(b2&&((e0||(l0&&h0))&&((e1||(l1&&h1))&&(e2||(l2&&h2))))) then A else B:=by grind
theorem v3z (L:List R7) (x y z d:Int) (hl:L.length≤1000000): ∀(k i n:Nat),i+k=L.length→n≤i→ ∃N,Yx (z6r L x y z d) N (.to (.h0 (u2b x y z d) (n:Int) (i:Int)))=.ret [.int .i64 ((n+(L.drop i).countP (cvQ x y z d):Nat):Int)]
 | 0,i,n,h,hn=>by
  refine ⟨1,?_⟩
  grind [Zw,z6r,Zp]
 | k+1,i,n,h,hn=>by
  have hi:i<L.length:=by omega
  have w1:wrap .i64 ((i:Int)+1)=((i+1:Nat):Int):=by rw [Zk (by omega)];rfl
  have w2:wrap .i64 ((n:Int)+1)=((n+1:Nat):Int):=by rw [Zk (by omega)];rfl
  have e:z6r L x y z d (.h0 (u2b x y z d) (n:Int) (i:Int))=bif cvQ x y z d (rd L i) then .to (.h0 (u2b x y z d) ((n+1:Nat):Int) ((i+1:Nat):Int)) else .to (.h0 (u2b x y z d) (n:Int) ((i+1:Nat):Int)):=by have h0:decide ((i:Int)<(L.length:Int))=true:=An (by omega);have h1:decide (0≤(i:Int)∧(i:Int)<(L.length:Int))=true:=An (by omega);simp only [z6r,h0,h1,w1,w2,Zj,Ah,Ae];exact cv_lem _ _ _ _ _ _ _ _ _ _ _ _ _
  rw [Yq hi,List.countP_cons];rcases Yk (cvQ x y z d (rd L i)) with q | q
  ·obtain ⟨N,hN⟩:=v3z L x y z d hl k (i+1) (n+1) (by omega) (by omega);refine ⟨N+1,?_⟩
   grind [Zw]
  ·obtain ⟨N,hN⟩:=v3z L x y z d hl k (i+1) n (by omega) (by omega);refine ⟨N+1,?_⟩
   grind [Zw]
theorem j3l (L:List R7) (x y z d:Int) (h:Qg L x y z d=true): ∃N,Yx (z6r L x y z d) N (z8e L x y z d)=.ret [.int .i64 (w8a L x y z d)]:=by
 have hl:L.length≤1000000:=Aw h;obtain ⟨N,hN⟩:=v3z L x y z d hl L.length 0 0 (Af _) (Aq _);have e:z8e L x y z d=.to (.h0 (u2b x y z d) ((0:Nat):Int) ((0:Nat):Int)):=by unfold z8e u2b;cases Int.tmod d 2 == 0 <;> rfl
 refine ⟨N,?_⟩;rw [e,hN,AT,Af];rfl
def fRcv :List AVal→Option (AVal×Bool)
 | [a0,.agg [.int .i64 x,.int .i64 y,.int .i64 z],.int .i64 d]=>match asL R7 a0 with
  | some (L0,g0,n0)=>some (.int .i64 (w8a L0 x y z d),isT R7 n0 g0&&(Qg L0 x y z d))
  | _=>none
 | _=>none
theorem j5y {S:Specs} (hS:Zu prog S):Zu prog (S.with v5h fRcv):=by
 refine Qi hS (by kernel_rfl) fun args v h=> ?_;unfold fRcv at h;split at h
 ·rename_i a0 x y z d;split at h
  ·rename_i L0 g0 n0 e0;simp only [Ab,Aa,Ad] at h;obtain ⟨rfl,ho0,hw⟩:=h;obtain ⟨N,hN⟩:=j3l L0 x y z d hw;exact ⟨_,_,(.cons (Yi e0 ho0) (.cons (.refl _) (.cons (.refl _) .nil))),rfl,u1o L0 x y z d N _ hN,3,rfl⟩
  ·cases h
 ·cases h
def u3u (l:List Pa):Bool:=bif decide ((l.length:Int)≤6) then (bif v0t l then u7n l == 0 else false) else false
def z8w (l:List Pa):Bool:=true
theorem u7h {l:List Pa} (h:v0t l=true) (h6:l.length≤6):smP l=true:=by unfold v0t at h;rw [Ay (by omega),Ac,Ad] at h;unfold smP;rw [An (by omega),Ak];refine At.2 fun x hx=> ?_;have:=At.1 h.1 x hx;unfold nrX at this;simp only [Ad,Bg,Bc] at this;exact An (by omega)
theorem j5e (l:List Pa) (h:z8w l=true): ∃N,Yx (w1n l) N (y4j l)=.ret [.bool (u3u l)]:=⟨0,by
 unfold y4j u3u;by_cases g:(l.length:Int)≤6
 ·rw [An g,Ae,Ae];simp only [Zd,show z7x l=true from rfl,Ae];rcases Yk (v0t l) with q | q
  ·simp only [q,Ae,show z7y l=true from u7h q (by omega)];rfl
  ·simp only [q,Ac];rfl
 ·rw [Ay g,Ac,Ac];rfl⟩
def fFit :List AVal→Option (AVal×Bool)
 | [a0]=>match asL Pa a0 with
  | some (L0,g0,n0)=>some (.bool (u3u L0),isT Pa n0 g0&&(z8w L0))
  | _=>none
 | _=>none
theorem j6m {S:Specs} (hS:Zu prog S):Zu prog (S.with nFit4 fFit):=by
 refine Qi hS (by kernel_rfl) fun args v h=> ?_;unfold fFit at h;split at h
 ·rename_i a0;split at h
  ·rename_i L0 g0 n0 e0;simp only [Ab,Aa,Ad] at h;obtain ⟨rfl,ho0,hw⟩:=h;obtain ⟨N,hN⟩:=j5e L0 hw;exact ⟨_,_,(.cons (Yi e0 ho0) .nil),rfl,u3t L0 N _ hN,3,rfl⟩
  ·cases h
 ·cases h
def W3 :Specs:=(((((((W2.with v5i fAl4).with nFit4 fFit).with w0b fRin).with v5f fPlu).with u9c fDrc).with v5c fRh6).with nRib fRib).with v5h fRcv
theorem z0x :Zu prog W3:=j5y (v6r (v6s (j6o (j6b (v6q (j6m (j6u z0y)))))))
inductive lssS where
def lssC (l0:List Pa) (x1:Int) (x2:Int) (cA:Int) (cB:Int) (cC:Int) (x4:Int):lssS→Cfg
 :=nofun
def w0k (l0:List Pa) (x1:Int) (x2:Int) (cA:Int) (cB:Int) (cC:Int) (x4:Int):lssS→Xw lssS
 :=nofun
def y3z (l0:List Pa) (x1:Int) (x2:Int) (cA:Int) (cB:Int) (cC:Int) (x4:Int):Xw lssS:=(bif (z8w (cvT l0)) then (bif (!(u3u (cvT l0))) then (.ret [(.bool true)]) else (bif (decide (x1<0)) then (.ret [(.bool true)]) else (bif (decide (x1≥(l0.length:Int))) then (.ret [(.bool true)]) else (bif (decide (x2<0)) then (.ret [(.bool true)]) else (bif (decide (x2≥(l0.length:Int))) then (.ret [(.bool true)]) else (bif (x1 == x2) then (.ret [(.bool true)]) else (bif (decide (x4>5)) then (.ret [(.bool true)]) else (bif (!(x1z cA cB cC (-100))) then (.ret [(.bool true)]) else (bif (decide ((Qh (Qh cA cB) cC)>100)) then (.ret [(.bool true)]) else (bif (Qj (cvT l0) x1 x2) then (bif (z2g (cvT l0) x1) then (bif ((Vn (cvT l0) x1 x2) != 0) then (bif ((Vn (cvT l0) x1 x2) == 4) then (bif ((Ut (cvT l0) x1) == 0) then (.ret [(.bool true)]) else (.ret [(.bool ((Ut (cvT l0) x1) == 4))])) else (.ret [(.bool false)])) else (bif ((Ut (cvT l0) x1) != 0) then (.ret [(.bool ((Ut (cvT l0) x1) == 4))]) else (bif ((decide (0≤x1∧x1<(l0.length:Int)))&&true) then (bif (z2j (cvT (rd l0 x1.toNat).s) cA cB cC) then (bif (rh6V (cvT (rd l0 x1.toNat).s) cA cB cC) then (bif ((decide (0≤x2∧x2<(l0.length:Int)))&&true) then (bif (u0x (rd l0 x2.toNat).a (rd l0 x2.toNat).b (rd l0 x2.toNat).c (rd l0 x2.toNat).d (rd l0 x2.toNat).e (rd l0 x2.toNat).f (x2l cA cB cC (z1b (wrap .i64 x4)).a (z1b (wrap .i64 x4)).b (z1b (wrap .i64 x4)).c).a (x2l cA cB cC (z1b (wrap .i64 x4)).a (z1b (wrap .i64 x4)).b (z1b (wrap .i64 x4)).c).b (x2l cA cB cC (z1b (wrap .i64 x4)).a (z1b (wrap .i64 x4)).b (z1b (wrap .i64 x4)).c).c) then (bif (z2j (cvT (rd l0 x2.toNat).s) (x2l cA cB cC (z1b (wrap .i64 x4)).a (z1b (wrap .i64 x4)).b (z1b (wrap .i64 x4)).c).a (x2l cA cB cC (z1b (wrap .i64 x4)).a (z1b (wrap .i64 x4)).b (z1b (wrap .i64 x4)).c).b (x2l cA cB cC (z1b (wrap .i64 x4)).a (z1b (wrap .i64 x4)).b (z1b (wrap .i64 x4)).c).c) then (bif (Qg (cvT (Ya (cvT l0) x1 x2)) cA cB cC (wrap .i64 x4)) then (bif (((w8a (cvT (Ya (cvT l0) x1 x2)) cA cB cC (wrap .i64 x4)) == 1) == (!(rh6V (cvT (rd l0 x2.toNat).s) (x2l cA cB cC (z1b (wrap .i64 x4)).a (z1b (wrap .i64 x4)).b (z1b (wrap .i64 x4)).c).a (x2l cA cB cC (z1b (wrap .i64 x4)).a (z1b (wrap .i64 x4)).b (z1b (wrap .i64 x4)).c).b (x2l cA cB cC (z1b (wrap .i64 x4)).a (z1b (wrap .i64 x4)).b (z1b (wrap .i64 x4)).c).c))) then (bif (decide ((w8a (cvT (Ya (cvT l0) x1 x2)) cA cB cC (wrap .i64 x4))≤1)) then (bif (!(!(rh6V (cvT (rd l0 x2.toNat).s) (x2l cA cB cC (z1b (wrap .i64 x4)).a (z1b (wrap .i64 x4)).b (z1b (wrap .i64 x4)).c).a (x2l cA cB cC (z1b (wrap .i64 x4)).a (z1b (wrap .i64 x4)).b (z1b (wrap .i64 x4)).c).b (x2l cA cB cC (z1b (wrap .i64 x4)).a (z1b (wrap .i64 x4)).b (z1b (wrap .i64 x4)).c).c))) then (.ret [(.bool true)]) else (bif (Qg (cvT (Wd (cvT l0) x1)) cA cB cC (wrap .i64 x4)) then (.ret [(.bool ((w8a (cvT (Wd (cvT l0) x1)) cA cB cC (wrap .i64 x4)) == 1))]) else .stuck)) else (.ret [(.bool false)])) else (.ret [(.bool false)])) else .stuck) else .stuck) else (bif (Qg (cvT (Ya (cvT l0) x1 x2)) cA cB cC (wrap .i64 x4)) then (bif (((w8a (cvT (Ya (cvT l0) x1 x2)) cA cB cC (wrap .i64 x4)) == 1) == false) then (bif (decide ((w8a (cvT (Ya (cvT l0) x1 x2)) cA cB cC (wrap .i64 x4))≤1)) then (.ret [(.bool true)]) else (.ret [(.bool false)])) else (.ret [(.bool false)])) else .stuck)) else .stuck) else (bif (Qg (cvT (Ya (cvT l0) x1 x2)) cA cB cC (wrap .i64 x4)) then (bif (((w8a (cvT (Ya (cvT l0) x1 x2)) cA cB cC (wrap .i64 x4)) == 1) == false) then (bif (decide ((w8a (cvT (Ya (cvT l0) x1 x2)) cA cB cC (wrap .i64 x4))≤1)) then (.ret [(.bool true)]) else (.ret [(.bool false)])) else (.ret [(.bool false)])) else .stuck)) else .stuck) else .stuck))) else .stuck) else .stuck)))))))))) else .stuck)
theorem w8p (l0:List Pa) (x1:Int) (x2:Int) (cA:Int) (cB:Int) (cC:Int) (x4:Int): ∀s,Xu prog (Zy prog 5) (lssC l0 x1 x2 cA cB cC x4) (lssC l0 x1 x2 cA cB cC x4 s) (w0k l0 x1 x2 cA cB cC x4 s)
 :=nofun
theorem w0l (l0:List Pa) (x1:Int) (x2:Int) (cA:Int) (cB:Int) (cC:Int) (x4:Int):Xu prog (Zy prog 5) (lssC l0 x1 x2 cA cB cC x4) (Za prog 5 [(.dat l0.length (Zz l0)),(.int .i64 x1),(.int .i64 x2),(.agg [(.int .i64 cA),(.int .i64 cB),(.int .i64 cC)]),(.int .u8 x4)] true []) (y3z l0 x1 x2 cA cB cC x4):=(lo fun bN=>(lb (fun k0=>(lr 167 5 [1,1,0,1,0,0] 1 5 [(10,(.bool true))] (sl z0x 71 [] ⟨[],[],[some [10]],[]⟩ ⟨[],[],[]⟩ (trs 31 []) (tt k0 (pp (pp (xr l0) (xw bN)) nn))))) (fun k0=>(lb (fun k1=>(lr 167 5 [1,1,0,1,0,0] 1 5 [(10,(.bool true))] (sl z0x 71 [] ⟨[],[],[some [10]],[]⟩ ⟨[],[],[]⟩ [false,false,true,true,true,true,true,true,true,true,true,true,true,true,true,true,true,true,true,true,true,true,true,true,true,true,true,true,true,true,true] (tt k1 (tt k0 (pp (pp (xr l0) (xw bN)) nn)))))) (fun k1=>(lb (fun k2=>(lr 167 5 [1,1,0,1,0,0] 1 5 [(10,(.bool true))] (sl z0x 71 [] ⟨[],[],[some [10]],[]⟩ ⟨[],[],[]⟩ [false,false,false,false,false,false,true,true,true,true,true,true,true,true,true,true,true,true,true,true,true,true,true,true,true,true,true,true,true,true,true] (tt k2 (tt k1 (tt k0 (pp (pp (xr l0) (xw bN)) nn))))))) (fun k2=>(lb (fun k3=>(lr 167 5 [1,1,0,1,0,0] 1 5 [(10,(.bool true))] (sl z0x 71 [] ⟨[],[],[some [10]],[]⟩ ⟨[],[],[]⟩ [false,false,false,false,false,false,false,false,true,true,true,true,true,true,true,true,true,true,true,true,true,true,true,true,true,true,true,true,true,true,true] (tt k3 (tt k2 (tt k1 (tt k0 (pp (pp (xr l0) (xw bN)) nn)))))))) (fun k3=>(lb (fun k4=>(lr 167 5 [1,1,0,1,0,0] 1 5 [(10,(.bool true))] (sl z0x 71 [] ⟨[],[],[some [10]],[]⟩ ⟨[],[],[]⟩ [false,false,false,false,false,false,false,false,false,false,false,false,true,true,true,true,true,true,true,true,true,true,true,true,true,true,true,true,true,true,true] (tt k4 (tt k3 (tt k2 (tt k1 (tt k0 (pp (pp (xr l0) (xw bN)) nn))))))))) (fun k4=>(lb (fun k5=>(lr 167 5 [1,1,0,1,0,0] 1 5 [(10,(.bool true))] (sl z0x 71 [] ⟨[],[],[some [10]],[]⟩ ⟨[],[],[]⟩ [false,false,false,false,false,false,false,false,false,false,false,false,false,false,false,true,true,true,true,true,true,true,true,true,true,true,true,true,true,true,true] (tt k5 (tt k4 (tt k3 (tt k2 (tt k1 (tt k0 (pp (pp (xr l0) (xw bN)) nn)))))))))) (fun k5=>(lb (fun k6=>(lr 167 5 [1,1,0,1,0,0] 1 5 [(10,(.bool true))] (sl z0x 71 [] ⟨[],[],[some [10]],[]⟩ ⟨[],[],[]⟩ [false,false,false,false,false,false,false,false,false,false,false,false,false,false,false,false,false,true,true,true,true,true,true,true,true,true,true,true,true,true,true] (tt k6 (tt k5 (tt k4 (tt k3 (tt k2 (tt k1 (tt k0 (pp (pp (xr l0) (xw bN)) nn))))))))))) (fun k6=>(lb (fun k7=>(lr 167 5 [1,1,0,1,0,0] 1 5 [(10,(.bool true))] (sl z0x 71 [] ⟨[],[],[some [10]],[]⟩ ⟨[],[],[]⟩ [false,false,false,false,false,false,false,false,false,false,false,false,false,false,false,false,false,false,false,false,true,true,true,true,true,true,true,true,true,true,true] (tt k7 (tt k6 (tt k5 (tt k4 (tt k3 (tt k2 (tt k1 (tt k0 (pp (pp (xr l0) (xw bN)) nn)))))))))))) (fun k7=>(lb (fun k8=>(lr 167 5 [1,1,0,1,0,0] 1 5 [(10,(.bool true))] (sl z0x 71 [] ⟨[],[],[some [10]],[]⟩ ⟨[],[],[]⟩ [false,false,false,false,false,false,false,false,false,false,false,false,false,false,false,false,false,false,false,false,false,false,false,false,false,false,false,false,true,true,true] (tt k8 (tt k7 (tt k6 (tt k5 (tt k4 (tt k3 (tt k2 (tt k1 (tt k0 (pp (pp (xr l0) (xw bN)) nn))))))))))))) (fun k8=>(lo fun dJ=>(lo fun dK=>(lb (fun k9=>(lb (fun k10=>(lb (fun k11=>(lr 167 5 [1,1,1,1,1,0,1,0,0] 1 5 [(10,(.bool true))] (sl z0x 122 [] ⟨[],[],[some [10]],[]⟩ ⟨[],[],[]⟩ [false,false,false,false,false,false,false,false,false,false,false,false,false,false,false,false,false,false,false,false,false,false,false,false,false,false,false,false,false,false,false,true,true,true,true,true,true,false,false,true,true,true,true,true,true,true] (tt k11 (tt k10 (yt (u4p k9) (tt k9 (pp (pp (xr l0) (xw dK)) (pp (pp (xr l0) (xw dJ)) (tt k8 (tt k7 (tt k6 (tt k5 (tt k4 (tt k3 (tt k2 (tt k1 (tt k0 (pp (pp (xr l0) (xw bN)) nn))))))))))))))))))) (fun k11=>(lr 167 5 [1,1,1,1,1,0,1,0,0] 1 5 [(10,(.bool ((Ut (cvT l0) x1) == 4)))] (sl z0x 122 [] ⟨[],[],[some [10]],[]⟩ ⟨[],[],[]⟩ [false,false,false,false,false,false,false,false,false,false,false,false,false,false,false,false,false,false,false,false,false,false,false,false,false,false,false,false,false,false,false,true,true,true,true,true,true,false,false,true,true,true,true,false,false,true] (tt k11 (tt k10 (yt (u4p k9) (tt k9 (pp (pp (xr l0) (xw dK)) (pp (pp (xr l0) (xw dJ)) (tt k8 (tt k7 (tt k6 (tt k5 (tt k4 (tt k3 (tt k2 (tt k1 (tt k0 (pp (pp (xr l0) (xw bN)) nn))))))))))))))))))))) (fun k10=>(lr 167 5 [1,1,1,1,1,0,1,0,0] 1 5 [(10,(.bool false))] (sl z0x 122 [] ⟨[],[],[some [10]],[]⟩ ⟨[],[],[]⟩ [false,false,false,false,false,false,false,false,false,false,false,false,false,false,false,false,false,false,false,false,false,false,false,false,false,false,false,false,false,false,false,true,true,true,true,true,true,false,false,true,false,false,false,false] (tt k10 (yt (u4p k9) (tt k9 (pp (pp (xr l0) (xw dK)) (pp (pp (xr l0) (xw dJ)) (tt k8 (tt k7 (tt k6 (tt k5 (tt k4 (tt k3 (tt k2 (tt k1 (tt k0 (pp (pp (xr l0) (xw bN)) nn)))))))))))))))))))) (fun k9=>(lb (fun k10=>(lr 167 5 [1,1,1,1,1,0,1,0,0] 1 5 [(10,(.bool ((Ut (cvT l0) x1) == 4)))] (sl z0x 122 [] ⟨[],[],[some [10]],[]⟩ ⟨[],[],[]⟩ [false,false,false,false,false,false,false,false,false,false,false,false,false,false,false,false,false,false,false,false,false,false,false,false,false,false,false,false,false,false,false,false,false,true,true,true,true,true,true,true,true,true,true,false,false,true] (yt (u4p k10) (yt (beq_f k9) (tt k10 (tt k9 (pp (pp (xr l0) (xw dK)) (pp (pp (xr l0) (xw dJ)) (tt k8 (tt k7 (tt k6 (tt k5 (tt k4 (tt k3 (tt k2 (tt k1 (tt k0 (pp (pp (xr l0) (xw bN)) nn))))))))))))))))))) (fun k10=>(lo fun dG=>(lo fun dH=>(lb (fun k11=>(lo fun cW=>(lb (fun k12=>(lo fun dN=>(lo fun dP=>(lb (fun k13=>(lb (fun k14=>(lb (fun k15=>(lr 167 3 [1,1,1,1,0] 1 5 [(10,(.bool true))] (sl z0x 142 [] ⟨[],[],[some [10]],[]⟩ ⟨[],[],[]⟩ [false,false,false,false,false,false,false,false,false,false,false,false,false,false,false,false,false,false,false,false,false,false,false,false,false,false,false,false,false,false,false,false,false,false,true,true,true,true,true,true,true,true,true,true,true,true,true,true,true,true,true,true,true,true,true,true,true,true,true,true,true,true,true,true,true] (tt k15 (tt k14 (tt k13 (pp (pp (xI R7 (Ya (cvT l0) x1 x2).length (Zz (Ya (cvT l0) x1 x2))) (xw dP)) (pp (pp (xI R6 (rd l0 (tn x2)).s.length (Zz (rd l0 (tn x2)).s)) (xw dN)) (ww cW (tt k12 (ww cW (tt k11 (pp (pp (xI R6 (rd l0 (tn x1)).s.length (Zz (rd l0 (tn x1)).s)) (xw dH)) (ww dG (tt k10 (tt k9 (pp (pp (xr l0) (xw dK)) (pp (pp (xr l0) (xw dJ)) (tt k8 (tt k7 (tt k6 (tt k5 (tt k4 (tt k3 (tt k2 (tt k1 (tt k0 (pp (pp (xr l0) (xw bN)) nn)))))))))))))))))))))))))))) (fun k15=>(lo fun o0=>(lr 167 3 [1,1,1,1,0] 1 5 [(10,(.bool ((w8a (cvT (Wd (cvT l0) x1)) cA cB cC (wr x4)) == 1)))] (sl z0x 142 [] ⟨[],[],[some [10]],[]⟩ ⟨[],[],[]⟩ [false,false,false,false,false,false,false,false,false,false,false,false,false,false,false,false,false,false,false,false,false,false,false,false,false,false,false,false,false,false,false,false,false,false,true,true,true,true,true,true,true,true,true,true,true,true,true,true,true,true,true,true,true,true,true,true,true,true,false,false,false,false,false,false,true] (pp (pp (xI R7 (Wd (cvT l0) x1).length (Zz (Wd (cvT l0) x1))) (xw o0)) (tt k15 (tt k14 (tt k13 (pp (pp (xI R7 (Ya (cvT l0) x1 x2).length (Zz (Ya (cvT l0) x1 x2))) (xw dP)) (pp (pp (xI R6 (rd l0 (tn x2)).s.length (Zz (rd l0 (tn x2)).s)) (xw dN)) (ww cW (tt k12 (ww cW (tt k11 (pp (pp (xI R6 (rd l0 (tn x1)).s.length (Zz (rd l0 (tn x1)).s)) (xw dH)) (ww dG (tt k10 (tt k9 (pp (pp (xr l0) (xw dK)) (pp (pp (xr l0) (xw dJ)) (tt k8 (tt k7 (tt k6 (tt k5 (tt k4 (tt k3 (tt k2 (tt k1 (tt k0 (pp (pp (xr l0) (xw bN)) nn)))))))))))))))))))))))))))))))) (fun k14=>(lr 167 3 [1,1,1,1,0] 1 5 [(10,(.bool false))] (sl z0x 142 [] ⟨[],[],[some [10]],[]⟩ ⟨[],[],[]⟩ [false,false,false,false,false,false,false,false,false,false,false,false,false,false,false,false,false,false,false,false,false,false,false,false,false,false,false,false,false,false,false,false,false,false,true,true,true,true,true,true,true,true,true,true,true,true,true,true,true,true,true,true,true,true,true,false,false,false,false] (tt k14 (tt k13 (pp (pp (xI R7 (Ya (cvT l0) x1 x2).length (Zz (Ya (cvT l0) x1 x2))) (xw dP)) (pp (pp (xI R6 (rd l0 (tn x2)).s.length (Zz (rd l0 (tn x2)).s)) (xw dN)) (ww cW (tt k12 (ww cW (tt k11 (pp (pp (xI R6 (rd l0 (tn x1)).s.length (Zz (rd l0 (tn x1)).s)) (xw dH)) (ww dG (tt k10 (tt k9 (pp (pp (xr l0) (xw dK)) (pp (pp (xr l0) (xw dJ)) (tt k8 (tt k7 (tt k6 (tt k5 (tt k4 (tt k3 (tt k2 (tt k1 (tt k0 (pp (pp (xr l0) (xw bN)) nn))))))))))))))))))))))))))))) (fun k13=>(lr 167 3 [1,1,1,1,0] 1 5 [(10,(.bool false))] (sl z0x 142 [] ⟨[],[],[some [10]],[]⟩ ⟨[],[],[]⟩ [false,false,false,false,false,false,false,false,false,false,false,false,false,false,false,false,false,false,false,false,false,false,false,false,false,false,false,false,false,false,false,false,false,false,true,true,true,true,true,true,true,true,true,true,true,true,true,true,true,true,true,true,true,false,false,false,false,false,false] (tt k13 (pp (pp (xI R7 (Ya (cvT l0) x1 x2).length (Zz (Ya (cvT l0) x1 x2))) (xw dP)) (pp (pp (xI R6 (rd l0 (tn x2)).s.length (Zz (rd l0 (tn x2)).s)) (xw dN)) (ww cW (tt k12 (ww cW (tt k11 (pp (pp (xI R6 (rd l0 (tn x1)).s.length (Zz (rd l0 (tn x1)).s)) (xw dH)) (ww dG (tt k10 (tt k9 (pp (pp (xr l0) (xw dK)) (pp (pp (xr l0) (xw dJ)) (tt k8 (tt k7 (tt k6 (tt k5 (tt k4 (tt k3 (tt k2 (tt k1 (tt k0 (pp (pp (xr l0) (xw bN)) nn)))))))))))))))))))))))))))))) (fun k12=>(lo fun dN=>(lb (fun k13=>(lb (fun k14=>(lr 167 3 [1,1,1,1,0] 1 5 [(10,(.bool true))] (sl z0x 142 [] ⟨[],[],[some [10]],[]⟩ ⟨[],[],[]⟩ [false,false,false,false,false,false,false,false,false,false,false,false,false,false,false,false,false,false,false,false,false,false,false,false,false,false,false,false,false,false,false,false,false,false,true,true,true,true,true,true,true,false,false,false,false,false,false,false,false,true,true,true,true,true,true,true,true,true,true,true,true,true,true,true,true] (tt k14 (tt k13 (pp (pp (xI R7 (Ya (cvT l0) x1 x2).length (Zz (Ya (cvT l0) x1 x2))) (xw dN)) (tt k12 (ww cW (tt k11 (pp (pp (xI R6 (rd l0 (tn x1)).s.length (Zz (rd l0 (tn x1)).s)) (xw dH)) (ww dG (tt k10 (tt k9 (pp (pp (xr l0) (xw dK)) (pp (pp (xr l0) (xw dJ)) (tt k8 (tt k7 (tt k6 (tt k5 (tt k4 (tt k3 (tt k2 (tt k1 (tt k0 (pp (pp (xr l0) (xw bN)) nn))))))))))))))))))))))))) (fun k14=>(lr 167 3 [1,1,1,1,0] 1 5 [(10,(.bool false))] (sl z0x 142 [] ⟨[],[],[some [10]],[]⟩ ⟨[],[],[]⟩ [false,false,false,false,false,false,false,false,false,false,false,false,false,false,false,false,false,false,false,false,false,false,false,false,false,false,false,false,false,false,false,false,false,false,true,true,true,true,true,true,true,false,false,false,false,false,false,false,false,true,true,true,true,true,true,false,false,false,false] (tt k14 (tt k13 (pp (pp (xI R7 (Ya (cvT l0) x1 x2).length (Zz (Ya (cvT l0) x1 x2))) (xw dN)) (tt k12 (ww cW (tt k11 (pp (pp (xI R6 (rd l0 (tn x1)).s.length (Zz (rd l0 (tn x1)).s)) (xw dH)) (ww dG (tt k10 (tt k9 (pp (pp (xr l0) (xw dK)) (pp (pp (xr l0) (xw dJ)) (tt k8 (tt k7 (tt k6 (tt k5 (tt k4 (tt k3 (tt k2 (tt k1 (tt k0 (pp (pp (xr l0) (xw bN)) nn))))))))))))))))))))))))))) (fun k13=>(lr 167 3 [1,1,1,1,0] 1 5 [(10,(.bool false))] (sl z0x 142 [] ⟨[],[],[some [10]],[]⟩ ⟨[],[],[]⟩ [false,false,false,false,false,false,false,false,false,false,false,false,false,false,false,false,false,false,false,false,false,false,false,false,false,false,false,false,false,false,false,false,false,false,true,true,true,true,true,true,true,false,false,false,false,false,false,false,false,true,true,true,true,false,false,false,false,false,false] (tt k13 (pp (pp (xI R7 (Ya (cvT l0) x1 x2).length (Zz (Ya (cvT l0) x1 x2))) (xw dN)) (tt k12 (ww cW (tt k11 (pp (pp (xI R6 (rd l0 (tn x1)).s.length (Zz (rd l0 (tn x1)).s)) (xw dH)) (ww dG (tt k10 (tt k9 (pp (pp (xr l0) (xw dK)) (pp (pp (xr l0) (xw dJ)) (tt k8 (tt k7 (tt k6 (tt k5 (tt k4 (tt k3 (tt k2 (tt k1 (tt k0 (pp (pp (xr l0) (xw bN)) nn)))))))))))))))))))))))))))))) (fun k11=>(lo fun cW=>(lb (fun k12=>(lb (fun k13=>(lr 167 3 [1,1,1,1,0] 1 5 [(10,(.bool true))] (sl z0x 142 [] ⟨[],[],[some [10]],[]⟩ ⟨[],[],[]⟩ [false,false,false,false,false,false,false,false,false,false,false,false,false,false,false,false,false,false,false,false,false,false,false,false,false,false,false,false,false,false,false,false,false,false,false,false,false,false,false,false,false,false,false,false,false,false,false,false,false,true,true,true,true,true,true,true,true,true,true,true,true,true,true,true,true] (tt k13 (tt k12 (pp (pp (xI R7 (Ya (cvT l0) x1 x2).length (Zz (Ya (cvT l0) x1 x2))) (xw cW)) (tt k11 (pp (pp (xI R6 (rd l0 (tn x1)).s.length (Zz (rd l0 (tn x1)).s)) (xw dH)) (ww dG (tt k10 (tt k9 (pp (pp (xr l0) (xw dK)) (pp (pp (xr l0) (xw dJ)) (tt k8 (tt k7 (tt k6 (tt k5 (tt k4 (tt k3 (tt k2 (tt k1 (tt k0 (pp (pp (xr l0) (xw bN)) nn))))))))))))))))))))))) (fun k13=>(lr 167 3 [1,1,1,1,0] 1 5 [(10,(.bool false))] (sl z0x 142 [] ⟨[],[],[some [10]],[]⟩ ⟨[],[],[]⟩ [false,false,false,false,false,false,false,false,false,false,false,false,false,false,false,false,false,false,false,false,false,false,false,false,false,false,false,false,false,false,false,false,false,false,false,false,false,false,false,false,false,false,false,false,false,false,false,false,false,true,true,true,true,true,true,false,false,false,false] (tt k13 (tt k12 (pp (pp (xI R7 (Ya (cvT l0) x1 x2).length (Zz (Ya (cvT l0) x1 x2))) (xw cW)) (tt k11 (pp (pp (xI R6 (rd l0 (tn x1)).s.length (Zz (rd l0 (tn x1)).s)) (xw dH)) (ww dG (tt k10 (tt k9 (pp (pp (xr l0) (xw dK)) (pp (pp (xr l0) (xw dJ)) (tt k8 (tt k7 (tt k6 (tt k5 (tt k4 (tt k3 (tt k2 (tt k1 (tt k0 (pp (pp (xr l0) (xw bN)) nn))))))))))))))))))))))))) (fun k12=>(lr 167 3 [1,1,1,1,0] 1 5 [(10,(.bool false))] (sl z0x 142 [] ⟨[],[],[some [10]],[]⟩ ⟨[],[],[]⟩ [false,false,false,false,false,false,false,false,false,false,false,false,false,false,false,false,false,false,false,false,false,false,false,false,false,false,false,false,false,false,false,false,false,false,false,false,false,false,false,false,false,false,false,false,false,false,false,false,false,true,true,true,true,false,false,false,false,false,false] (tt k12 (pp (pp (xI R7 (Ya (cvT l0) x1 x2).length (Zz (Ya (cvT l0) x1 x2))) (xw cW)) (tt k11 (pp (pp (xI R6 (rd l0 (tn x1)).s.length (Zz (rd l0 (tn x1)).s)) (xw dH)) (ww dG (tt k10 (tt k9 (pp (pp (xr l0) (xw dK)) (pp (pp (xr l0) (xw dJ)) (tt k8 (tt k7 (tt k6 (tt k5 (tt k4 (tt k3 (tt k2 (tt k1 (tt k0 (pp (pp (xr l0) (xw bN)) nn)))))))))))))))))))))))))))))))))))))))))))))))))))))
theorem lss_ends (l0:List Pa) (x1:Int) (x2:Int) (cA:Int) (cB:Int) (cC:Int) (x4:Int) (n:Nat) (vs:List AVal) (h:Yx (w0k l0 x1 x2 cA cB cC x4) n (y3z l0 x1 x2 cA cB cC x4)=.ret vs):Ur prog (Zy prog 5) (Za prog 5 [(.dat l0.length (Zz l0)),(.int .i64 x1),(.int .i64 x2),(.agg [(.int .i64 cA),(.int .i64 cB),(.int .i64 cC)]),(.int .u8 x4)] true []) vs:=by have:=Zc (w8p l0 x1 x2 cA cB cC x4) n _ (w0l l0 x1 x2 cA cB cC x4);rwa [h] at this
theorem can_ap {R:List R4} (hc:Wu.can R) (hv: ∀r∈R,Uk r=true) (hl:R.length≤400):R.Pairwise Ap4:=by
 obtain ⟨h1,h2⟩:=z1z hv hl;have e:D4.out R=R:=Wu.uniq _ _ h1 hc h2;obtain ⟨m0,_⟩:=z1j hv hl (by grind)
 grind [x4o]
def inQ (u w:Int) (t:R4):Bool:=(decide (t.a≤u)&&decide (u<t.c))&&(decide (t.b≤w)&&decide (w<t.d))
theorem x2y (u w:Int) (t:R4):inQ u w t=true↔(t.a≤u∧u<t.c)∧(t.b≤w∧w<t.d):=by
 grind [inQ]
theorem v7n : ∀{R:List R4},R.Pairwise Ap4→ ∀u w,R.countP (inQ u w)≤1∧(R.countP (inQ u w)=1↔ptL Wu.inB R (u,w))
 | [],_,u,w=>⟨AB _,⟨fun h=>(by cases h),fun h=>(y0i _ _ h).elim⟩⟩
 | r::R,h,u,w=>by
  obtain ⟨h1,h2⟩:=AR.1 h;obtain ⟨i1,i2⟩:=v7n h2 u w;rw [List.countP_cons];rcases Yk (inQ u w r) with q | q
  ·have z:R.countP (inQ u w)=0:=BG.2 fun t ht k=>by have a:=(x2y u w r).1 (by simpa using q);have b:=(x2y u w t).1 k;have:=h1 t ht;unfold Ap4 at this;omega
   rw [q,z];refine ⟨Aq _,fun _=> ?_,fun _=>rfl⟩;rw [v8n];exact ⟨r,by simp,(x2y u w r).1 (by simpa using q)⟩
  ·rw [q,AD (by decide),A7,i2];refine ⟨i1,?_⟩;rw [v8n,v8n];constructor
   ·rintro ⟨t,ht,k⟩;exact ⟨t,by simp [ht],k⟩
   ·rintro ⟨t,ht,k⟩;rcases AG.1 ht with rfl | ht
    ·rw [(x2y u w t).2 k] at q;cases q
    ·exact ⟨t,ht,k⟩
theorem x5z (M:Int→Int→List R4) (d p:Int) (ps:List Int):Jr M d (p::ps)=(M d p).map (qdA d (dhA d) p)++Jr M d ps:=rfl
theorem u9w (M:Int→Int→List R4) (d:Int) (f:R7→Bool) (hf: ∀p t,f (qdA d (dhA d) p t)=false): ∀ps,(Jr M d ps).countP f=0
 | []=>rfl
 | p::ps=>by rw [x5z,Bx,u9w M d f hf ps,List.countP_map,A7];exact BG.2 fun t _=>by simp [hf]
theorem v7m (M:Int→Int→List R4) (d pl u w:Int) (f:R7→Bool) (hf: ∀p t,f (qdA d (dhA d) p t)=(decide (p=pl)&&inQ u w t)): ∀ps:List Int,ps.Pairwise (· < ·)→
  (Jr M d ps).countP f=if pl∈ps then (M d pl).countP (inQ u w) else 0
 | [],_=>rfl
 | p::ps,h=>by
  obtain ⟨h1,h2⟩:=AR.1 h;rw [x5z,Bx,v7m M d pl u w f hf ps h2,List.countP_map];by_cases e:p=pl
  ·subst e;have n: ¬p∈ps:=fun k=>by have:=h1 p k;omega
   rw [AD n,AI (by simp),A7];exact List.countP_congr fun t _=>by simp [hf]
  ·have z:(M d p).countP (f∘qdA d (dhA d) p)=0:=BG.2 fun t _=>by simp [hf,e]
   rw [z,Af];by_cases k:pl∈ps
   ·rw [AI k,AI (by simp [k])]
   ·rw [AD k,AD (by simp [k];exact fun q=>e q.symm)]
theorem j7d (q:Ax) (s:Bool) {pl u w:Int} (hp: -1000≤pl∧pl≤1000) (p:Int) (t:R4):
  cvQ (q.to (Jm s pl) u w).1 (q.to (Jm s pl) u w).2.1 (q.to (Jm s pl) u w).2.2 (Vt q s:Int) (qdA (Vt q s:Int) (dhA (Vt q s:Int)) p t)=(decide (p=pl)&&inQ u w t):=by
 rw [x0v];unfold cvQ;have a1:(wrap .i64 (qdA (Vt q s:Int) q.ix p t).a == (Vt q s:Int))=true:=by cases q <;> cases s <;> rfl
 have a2:axD (Vt q s:Int)=q.ix:=by cases q <;> cases s <;> rfl
 have a3:u2b (q.to (Jm s pl) u w).1 (q.to (Jm s pl) u w).2.1 (q.to (Jm s pl) u w).2.2 (Vt q s:Int)=pl:=by
  unfold u2b;rw [a2];cases s with
  | true=>
   have e:z1c (q.to (Jm true pl) u w).1 (q.to (Jm true pl) u w).2.1 (q.to (Jm true pl) u w).2.2 q.ix=pl - 1:=by cases q <;> rfl
   have e2:(Int.tmod (Vt q true:Int) 2 == 0)=true:=by cases q <;> rfl
   grind [Zk]
  | false=>
   have e:z1c (q.to (Jm false pl) u w).1 (q.to (Jm false pl) u w).2.1 (q.to (Jm false pl) u w).2.2 q.ix=pl:=by cases q <;> rfl
   have e2:(Int.tmod (Vt q false:Int) 2 == 0)=false:=by cases q <;> rfl
   grind
 have a4:z1c (qdA (Vt q s:Int) q.ix p t).b (qdA (Vt q s:Int) q.ix p t).c (qdA (Vt q s:Int) q.ix p t).d q.ix=p:=by cases q <;> rfl
 have a5:(inK (qdA (Vt q s:Int) q.ix p t) (q.to (Jm s pl) u w).1 (q.to (Jm s pl) u w).2.1 (q.to (Jm s pl) u w).2.2 q.ix 0&&(inK (qdA (Vt q s:Int) q.ix p t) (q.to (Jm s pl) u w).1 (q.to (Jm s pl) u w).2.1 (q.to (Jm s pl) u w).2.2 q.ix 1&&inK (qdA (Vt q s:Int) q.ix p t) (q.to (Jm s pl) u w).1 (q.to (Jm s pl) u w).2.1 (q.to (Jm s pl) u w).2.2 q.ix 2))=inQ u w t:=by
  unfold inQ;cases q
  ·show (true&&((false||(decide (t.a≤u)&&decide (u<t.c)))&&(false||(decide (t.b≤w)&&decide (w<t.d)))))=_;simp
  ·show ((false||(decide (t.a≤u)&&decide (u<t.c)))&&(true&&(false||(decide (t.b≤w)&&decide (w<t.d)))))=_;simp
  ·show ((false||(decide (t.a≤u)&&decide (u<t.c)))&&((false||(decide (t.b≤w)&&decide (w<t.d)))&&true))=_;simp
 grind
theorem j7e (q q':Ax) (s s':Bool) (h: ¬(q'=q∧s'=s)) (x y z p:Int) (t:R4):cvQ x y z (Vt q s:Int) (qdA (Vt q' s':Int) (dhA (Vt q' s':Int)) p t)=false:=by
 unfold cvQ;have a1:(wrap .i64 (qdA (Vt q' s':Int) (dhA (Vt q' s':Int)) p t).a == (Vt q s:Int))=false:=by
  cases q <;> cases q' <;> cases s <;> cases s' <;> first | rfl | grind
 grind
theorem v7o (M:Int→Int→List R4) (S:List R6) (q:Ax) (s:Bool) {pl u w:Int} (hp: -1000≤pl∧pl≤1000):
  (z6d M S 6 0).countP (cvQ (q.to (Jm s pl) u w).1 (q.to (Jm s pl) u w).2.1 (q.to (Jm s pl) u w).2.2 (Vt q s:Int))=if pl∈plQ q S then (M (Vt q s:Int) pl).countP (inQ u w) else 0:=by
 have y1:=v7m M (Vt q s:Int) pl u w _ (j7d q s (u:=u) (w:=w) hp) (plQ q S) (y0j q S);have n1: ∀(q':Ax) (s':Bool),¬(q'=q∧s'=s)→ ∀ps,(Jr M (Vt q' s':Int) ps).countP (cvQ (q.to (Jm s pl) u w).1 (q.to (Jm s pl) u w).2.1 (q.to (Jm s pl) u w).2.2 (Vt q s:Int))=0:=fun q' s' h ps=>u9w M _ _ (fun p t=>j7e q q' s s' h _ _ _ p t) ps;rw [←y1,y4r];simp only [Bx];have d0:(0:Int)=(Vt .x true:Int):=rfl;have d1:(1:Int)=(Vt .x false:Int):=rfl;have d2:(2:Int)=(Vt .y true:Int):=rfl;have d3:(3:Int)=(Vt .y false:Int):=rfl;have d4:(4:Int)=(Vt .z true:Int):=rfl;have d5:(5:Int)=(Vt .z false:Int):=rfl;rw [show Jr M 0 (plQ .x S)=Jr M (Vt .x true:Int) (plQ .x S) from rfl,show Jr M 1 (plQ .x S)=Jr M (Vt .x false:Int) (plQ .x S) from rfl,show Jr M 2 (plQ .y S)=Jr M (Vt .y true:Int) (plQ .y S) from rfl,show Jr M 3 (plQ .y S)=Jr M (Vt .y false:Int) (plQ .y S) from rfl,show Jr M 4 (plQ .z S)=Jr M (Vt .z true:Int) (plQ .z S) from rfl,show Jr M 5 (plQ .z S)=Jr M (Vt .z false:Int) (plQ .z S) from rfl];cases q <;> cases s;all_goals grind
theorem v1g {E:Int→Int→Int} {M:Int→Int→List R4} {S:List R6} (h:w3g E M S=0):(z6d M S 6 0).length ≤3000:=by
 unfold w3g at h
 grind
theorem u0q {l:List Pa} (h:v0t l=true) (h5:l.length≤50): ∀x∈l,w8h x.s=true:=by unfold v0t at h;rw [Ay (by omega),Ac,Ad] at h;intro x hx;have hx:=At.1 h.1 x hx;unfold nrX at hx;simp only [Ad,Bg,Bc] at hx;obtain ⟨h6,h9,_⟩:=hx;unfold x9y at h9;rw [Ay (by omega),Ac,Ad] at h9;unfold w8h;rw [An (by omega),Ak];refine At.2 fun r hr=> ?_;have:=At.1 h9.1 r hr;unfold u2h at this;simp only [x3a,y6q,Ad,Ar,Bg,Bc] at this ⊢;omega
theorem v9q (l:List Pa) (x:Int):(Wd l x).length ≤3000:=by
 unfold Wd y8b;rcases Yk (Ut l x != 0) with q | q
 ·grind
 ·rw [q,Ac];have z:Ut l x=0:=by simpa using q
  unfold Ut at z;rcases Yk (z2h l != 0) with a | a
  ·grind
  rw [a,Ac] at z;rcases Yk (decide (x<0)||decide (x≥(l.length:Int))) with b | b
  ·grind
  rw [b,Ac] at z;rcases Yk (Qu l != 0) with c | c
  ·grind
  rw [c,Ac] at z;exact v1g z
theorem v9c (l:List Pa) (x y:Int):(Ya l x y).length ≤3000:=by
 unfold Ya y8b;rcases Yk (Vn l x y != 0) with q | q
 ·grind
 ·rw [q,Ac];have z:Vn l x y=0:=by simpa using q
  unfold Vn at z;rcases Yk (z2h l != 0) with a | a
  ·grind
  rw [a,Ac] at z;rcases Yk (decide (x<0)||(decide (x≥(l.length:Int))||(decide (y<0)||(decide (y≥(l.length:Int))||(x == y))))) with b | b
  ·grind
  rw [b,Ac] at z;exact v1g z
theorem in_pl {q:Ax} {s:Bool} {S:List R6} {pl u w:Int} (h:q.inL S (Jm s pl) u w) (hn: ¬pl∈plQ q S):q.inL S (Kp s pl) u w:=by
 obtain ⟨r,hr,k1,k2⟩:=h;have n1:pl≠q.lo r:=fun e=>hn ((x2m q S pl).2 ⟨r,hr,.inl e⟩);have n2:pl≠q.hi r:=fun e=>hn ((x2m q S pl).2 ⟨r,hr,.inr e⟩);refine ⟨r,hr,?_,k2⟩;unfold Jm at k1
 grind [Kp]
theorem u9y {R:List R4} {S:List R6} (hS:Zr S=0) (nS:nbS S) {q:Ax} {p:Int} (hc:Wu.can R) (h: ∀u v,ptL Wu.inB R (u,v)→q.inL S p u v):R.Pairwise Ap4:=by
 have b: ∀u v,ptL Wu.inB R (u,v)→x2z u∧x2z v:=fun u v k=>(z4u hS nS q (h u v k)).2;refine can_ap hc (y4n hc fun u v k=> ?_) (AE (y6c hc b).1 (by decide))
 grind [x2z]
section
variable {l:List Pa} (L:j7y l) (hn: ∀x∈l,w8h x.s=true) {i k:Nat} (hi:i<l.length) (hk:k<l.length) (hik:i≠k) (q:Ax) (s:Bool) {pl u w:Int} (hp: -1000≤pl∧pl≤1000)
include L hn hi hp
theorem v9s {A:List R6} (hA:Zr A=0) (nA:nbS A) (pA: ∀x y z,inS A x y z↔ ∃p∈l,inS p.s x y z) (h1:q.inL (rd l i).s (Jm s pl) u w) (h2: ¬q.inL A (Kp s pl) u w):
  (z6d (z0a (rd l i).s A) (rd l i).s 6 0).countP (cvQ (q.to (Jm s pl) u w).1 (q.to (Jm s pl) u w).2.1 (q.to (Jm s pl) u w).2.2 (Vt q s:Int))=1:=by
 have hS:=L.sck i hi;have hm:rd l i∈l:=by grind [Yo]
 have hr:=hn _ hm;obtain ⟨nS,_⟩:=z8n hr;have hpl:pl∈plQ q (rd l i).s :=Bb fun k=>h2 (by
  have:=in_pl h1 k;rw [q.inL_S] at this ⊢
  grind)
 rw [v7o _ _ q s hp,AI hpl,(x1m hS hA nS nA q s (pl12 hr q hpl)).2];obtain ⟨c,pts⟩:=w5v hS hA q s pl;exact ((v7n (u9y hS nS c fun u v k=>((pts u v).1 k).1) u w).2).2 ((pts u w).2 ⟨h1,h2⟩)
include hk hik
theorem v9d :(z6d (Ja (rd l i).s (rd l k).s (bxP (rd l k))) (rd l i).s 6 0).countP (cvQ (q.to (Jm s pl) u w).1 (q.to (Jm s pl) u w).2.1 (q.to (Jm s pl) u w).2.2 (Vt q s:Int))≤1∧
  ((z6d (Ja (rd l i).s (rd l k).s (bxP (rd l k))) (rd l i).s 6 0).countP (cvQ (q.to (Jm s pl) u w).1 (q.to (Jm s pl) u w).2.1 (q.to (Jm s pl) u w).2.2 (Vt q s:Int))=1↔
    q.inL (rd l i).s (Jm s pl) u w∧q.inB (bxP (rd l k)) (Kp s pl) u w∧ ¬q.inL (rd l k).s (Kp s pl) u w):=by
 have hS:=L.sck i hi;have hT:=L.sck k hk;have hb:=L.val k hk;have hr:=hn (rd l i) (by grind [Yo]);obtain ⟨nS,_⟩:=z8n hr;obtain ⟨nT,_⟩:=z8n (hn (rd l k) (by grind [Yo]));rw [v7o _ _ q s hp];by_cases hpl:pl∈plQ q (rd l i).s
 ·rw [AI hpl,(x1g hS hT hb nS nT q s (pl12 hr q hpl)).2];obtain ⟨c,pts,_⟩:=x6u hS hT hb nS nT q s pl;obtain ⟨a,b⟩:=v7n (u9y hS nS c fun u v k=>((pts u v).1 k).1) u w
  grind
 ·rw [AD hpl];refine ⟨AB _,fun h=>(by cases h),fun ⟨h1,h2,_⟩=> ?_⟩;have h3:=in_pl h1 hpl;rw [q.inL_S] at h3;exact (hik (L.dis i k hi hk _ _ _ (L.ins i hi _ _ _ h3) ((x6e q _ _ _ _).1 h2))).elim
end
theorem dir_pt (q:Ax) (s:Bool) {x y z:Int} (hx: -100≤x∧x≤100) (hy: -100≤y∧y≤100) (hz: -100≤z∧z≤100):
  ∃pl u w,x=(q.to (Jm s pl) u w).1∧y=(q.to (Jm s pl) u w).2.1∧z=(q.to (Jm s pl) u w).2.2∧(-1000≤pl∧pl≤1000)∧
   x2l x y z (z1b (Vt q s:Int)).a (z1b (Vt q s:Int)).b (z1b (Vt q s:Int)).c =⟨(q.to (Kp s pl) u w).1,(q.to (Kp s pl) u w).2.1,(q.to (Kp s pl) u w).2.2⟩:=by
 have w0: ∀n:Int,-100≤n∧n≤100→wrap .i64 (n+0)=n:=fun n h=>by rw [Int.add_zero,Zk (by omega)]
 have w1: ∀n:Int,-100≤n∧n≤100→wrap .i64 (n+1)=n+1:=fun n h=>Zk (by omega);have w2: ∀n:Int,-100≤n∧n≤100→wrap .i64 (n+ -1)=n - 1:=fun n h=>Zk (by omega);cases q <;> cases s
 ·refine ⟨x,y,z,rfl,rfl,rfl,by omega,?_⟩;show (⟨wrap .i64 (x+ -1),wrap .i64 (y+0),wrap .i64 (z+0)⟩:R3)=⟨x - 1,y,z⟩
  grind
 ·refine ⟨x+1,y,z,by show x=x+1 - 1;omega,rfl,rfl,by omega,?_⟩;show (⟨wrap .i64 (x+1),wrap .i64 (y+0),wrap .i64 (z+0)⟩:R3)=⟨x+1,y,z⟩
  grind
 ·refine ⟨y,x,z,rfl,rfl,rfl,by omega,?_⟩;show (⟨wrap .i64 (x+0),wrap .i64 (y+ -1),wrap .i64 (z+0)⟩:R3)=⟨x,y - 1,z⟩
  grind
 ·refine ⟨y+1,x,z,rfl,by show y=y+1 - 1;omega,rfl,by omega,?_⟩;show (⟨wrap .i64 (x+0),wrap .i64 (y+1),wrap .i64 (z+0)⟩:R3)=⟨x,y+1,z⟩
  grind
 ·refine ⟨z,x,y,rfl,rfl,rfl,by omega,?_⟩;show (⟨wrap .i64 (x+0),wrap .i64 (y+0),wrap .i64 (z+ -1)⟩:R3)=⟨x,y,z - 1⟩
  grind
 ·refine ⟨z+1,x,y,rfl,rfl,by show z=z+1 - 1;omega,by omega,?_⟩;show (⟨wrap .i64 (x+0),wrap .i64 (y+0),wrap .i64 (z+1)⟩:R3)=⟨x,y,z+1⟩
  grind
theorem u3r {l:List Pa} (h:u3u l=true):v0t l=true∧smP l=true∧j7y l∧ ∀x∈l,w8h x.s=true:=by
 unfold u3u at h;by_cases g:(l.length:Int)≤6
 ·rw [An g,Ae] at h;rcases Yk (v0t l) with q | q;all_goals grind [v5n,u9x,u7h,u0q]
 grind
theorem u5d : ∀(l:List Pa) (acc:List R6),Zr acc=0→nbS acc→(∀x∈l,Zr x.s=0∧nbS x.s)→whE acc l=0∨whE acc l=4
 | [],_,_,_,_=>.inl rfl
 | p::l,acc,ha,na,hl=>by
  obtain ⟨hp,np⟩:=hl p (by simp);unfold whE;rcases Yk (z5u .u acc p.s != 0) with q | q
  ·rw [q,Ae];have e:z5u .u acc p.s=x6c (slJ .u acc p.s).length :=j1j ha hp na np;rw [e] at q ⊢;unfold x6c at q ⊢;by_cases g:((slJ .u acc p.s).length :Int)>400
   ·rw [An g];exact .inr rfl
   ·rw [Ay g] at q;cases q
  ·rw [q,Ac];obtain ⟨o1,o2,_⟩:=u_ok ha hp na np (by simpa using q);exact u5d l _ o1 o2 fun x hx=>hl x (by simp [hx])
theorem j5b {l:List Pa} (h:u3u l=true):z2h l=0:=by simp_all [u3u,u9x]
theorem u5c : ∀(l:List Pa) (acc:List R6),Zr acc=0→nbS acc→(∀x∈l,Zr x.s=0∧nbS x.s)→whE acc l=0→
  True∧Zr (whL acc l)=0∧nbS (whL acc l)∧ ∀x y z,inS (whL acc l) x y z↔inS acc x y z∨ ∃p∈l,inS p.s x y z
 | [],acc,ha,na,_,_=>⟨trivial,ha,na,fun x y z=>⟨.inl,fun k=>by
   rcases k with k | ⟨p,hp,_⟩
   ·exact k
   ·cases hp⟩⟩
 | p::l,acc,ha,na,hl,h=>by
  obtain ⟨hp,np⟩:=hl p (by simp);unfold whE at h;unfold whL;rcases Yk (z5u .u acc p.s != 0) with q | q
  ·grind
  ·rw [q,Ac] at h;obtain ⟨o1,o2,o3⟩:=u_ok ha hp na np (by simpa using q);obtain ⟨_,j2,j3,j4⟩:=u5c l (z2f .u acc p.s) o1 o2 (fun x hx=>hl x (by simp [hx])) h
   grind
section
variable {l:List Pa} (hc:z2h l=0) (L:j7y l) (hn: ∀x∈l,w8h x.s=true) {x:Int} (hx:0≤x∧x<(l.length:Int))
include hc L hn hx
theorem j1m :(Ut l x=0∨Ut l x=4)∧(Ut l x=0→Wd l x=z6d (z0a (rd l x.toNat).s (whL [] l)) (rd l x.toNat).s 6 0∧Zr (whL [] l)=0∧nbS (whL [] l)∧ ∀a b c,inS (whL [] l) a b c↔ ∃p∈l,inS p.s a b c):=by
 have hl: ∀x∈l,Zr x.s=0∧nbS x.s:=fun x hx=>by obtain ⟨i,hi,rfl⟩:=AK hx;rw [←Yo hi];exact ⟨L.sck i hi,(z8n (hn _ (by grind [Yo]))).1⟩
 have e:Ut l x=bif whE [] l != 0 then whE [] l else w3g (y2g (rd l x.toNat).s (Zo l)) (z0a (rd l x.toNat).s (Zo l)) (rd l x.toNat).s :=by unfold Ut;rw [hc,Ay (show ¬x<0 by omega),Ay (show ¬x≥(l.length:Int) by omega)];rfl
 rcases u5d l [] x8b w0a hl with z | z
 ·obtain ⟨_,a2,a3,a4⟩:=(u5c l [] x8b w0a hl) z;have ev:Zo l=whL [] l:=by unfold Zo;rw [z];rfl
  have pA: ∀a b c,inS (whL [] l) a b c↔ ∃p∈l,inS p.s a b c:=fun a b c=>by
   rw [a4];constructor
   ·rintro (⟨r,hr,_⟩ | k);all_goals grind
   ·exact .inr
  rw [z,ev] at e;have e:Ut l x=0:=e.trans (v2n L hn a2 a3 pA (i:=Int.toNat x) (by omega));refine ⟨.inl e,fun _=>⟨?_,a2,a3,pA⟩⟩;unfold Wd;rw [e];show z6d (z0a (rd l x.toNat).s (Zo l)) (rd l x.toNat).s 6 0=_;rw [ev]
 grind
theorem j0v {y:Int} (hy:0≤y∧y<(l.length:Int)) (hxy:x≠y):Vn l x y=0∧Ya l x y=z6d (Ja (rd l x.toNat).s (rd l y.toNat).s (bxP (rd l y.toNat))) (rd l x.toNat).s 6 0:=by
 have s1:=x7o L hn (i:=Int.toNat x) (k:=Int.toNat y) (by omega) (by omega) (by omega);have e:Vn l x y=0:=by
  grind [Vn]
 refine ⟨e,?_⟩;unfold Ya;rw [e];rfl
end
theorem j3c (b:R6) (x y z:Int):u0x b.a b.b b.c b.d b.e b.f x y z=true↔v8p b x y z:=by
 grind [u0x,v8p]
theorem v4w (n:Nat):(((n:Nat):Int) == 1)=decide (n=1):=by grind
theorem lss_run (l0:List Pa) (x1 x2 a b c d:Int) (hd:0≤d∧d<256): ∃N,Yx (w0k l0 x1 x2 a b c d) N (y3z l0 x1 x2 a b c d)=.ret [.bool true]:=by
 refine ⟨0,?_⟩;unfold y3z;simp only [Zd,show z8w l0=true from rfl,Ae];rcases Yk (u3u l0) with q | q
 rotate_left
 ·rw [q];rfl
 rw [q,Av,Ac];by_cases g1:x1<0
 ·rw [An g1];rfl
 rw [Ay g1,Ac];by_cases g2:x1≥(l0.length:Int)
 ·rw [An g2];rfl
 rw [Ay g2,Ac];by_cases g3:x2<0
 ·rw [An g3];rfl
 rw [Ay g3,Ac];by_cases g4:x2≥(l0.length:Int)
 ·rw [An g4];rfl
 rw [Ay g4,Ac];by_cases g5:x1=x2
 ·rw [show (x1 == x2)=true by grind];rfl
 rw [show (x1 == x2)=false from beq_eq_false_iff_ne.2 g5,Ac];by_cases g6:d>5
 ·rw [An g6];rfl
 rw [Ay g6,Ac];rcases Yk (x1z a b c (-100)) with g7 | g7
 rotate_left
 ·rw [g7];rfl
 rw [g7,Av,Ac];by_cases g8:Qh (Qh a b) c>100
 ·rw [An g8];rfl
 rw [Ay g8,Ac];simp only [y6q] at g8;simp only [x1z,Ad,Ar] at g7;obtain ⟨hr,hs,L,hnr⟩:=u3r q;have hc:=j5b q;have hw:wrap .i64 d=d:=Zk (by omega);have hx1:0≤x1∧x1<(l0.length:Int):=by omega
 have hx2:0≤x2∧x2<(l0.length:Int):=by omega
 obtain ⟨Q,s,hQ⟩:=u9u (show Int.toNat d<6 by omega);have hdq:d=(Vt Q s:Int):=by omega
 obtain ⟨pl,u,w,ea,eb,ec,hp,hnx⟩:=dir_pt Q s (x:=a) (y:=b) (z:=c) (by omega) (by omega) (by omega);rw [←hdq] at hnx;obtain ⟨s1,s0⟩:=j0v hc L hnr hx1 hx2 g5;obtain ⟨k1,k0⟩:=j1m hc L hnr hx1;have d1:decide (0≤x1∧x1<(l0.length:Int))=true:=An hx1;have d2:decide (0≤x2∧x2<(l0.length:Int))=true:=An hx2;have i1:Int.toNat x1<l0.length:=by omega
 have i2:Int.toNat x2<l0.length:=by omega
 have n1:=(z8n (hnr (rd l0 x1.toNat) (by grind [Yo]))).2;have n2:=(z8n (hnr (rd l0 x2.toNat) (by grind [Yo]))).2;have o1: ∀x y z,z2j (rd l0 x1.toNat).s x y z=true:=fun _ _ _=>An (by omega);have o2: ∀x y z,z2j (rd l0 x2.toNat).s x y z=true:=fun _ _ _=>An (by omega);have o3:Qg (Ya l0 x1 x2) a b c d=true:=An (by have:=v9c l0 x1 x2;omega);have o4:Qg (Wd l0 x1) a b c d=true:=An (by have:=v9q l0 x1;omega);simp only [hw,hnx,s1,d1,d2,o1,o2,o3,o4,show Qj l0 x1 x2=true from hs,show z2g l0 x1=true from hs,Ae,show ((0:Int) != 0)=false from rfl,Ac,Ah];rcases k1 with k1 | k1
 rotate_left
 ·rw [k1];rfl
 obtain ⟨t0,tA,tn,tp⟩:=k0 k1;obtain ⟨c1,c2⟩:=v9d L hnr i1 i2 (by omega) Q s (u:=u) (w:=w) hp;rw [←ea,←eb,←ec,←hdq,←s0] at c1 c2;have m1:rh6V (rd l0 x1.toNat).s a b c=true↔Q.inL (rd l0 x1.toNat).s (Jm s pl) u w:=by rw [u6m,Q.inL_S,ea,eb,ec]
 have m2:rh6V (rd l0 x2.toNat).s (Q.to (Kp s pl) u w).1 (Q.to (Kp s pl) u w).2.1 (Q.to (Kp s pl) u w).2.2=true↔Q.inL (rd l0 x2.toNat).s (Kp s pl) u w:=by rw [u6m,Q.inL_S]
 have m3:u0x (rd l0 x2.toNat).a (rd l0 x2.toNat).b (rd l0 x2.toNat).c (rd l0 x2.toNat).d (rd l0 x2.toNat).e (rd l0 x2.toNat).f (Q.to (Kp s pl) u w).1 (Q.to (Kp s pl) u w).2.1 (Q.to (Kp s pl) u w).2.2=true↔Q.inB (bxP (rd l0 x2.toNat)) (Kp s pl) u w:=by rw [x6e];exact j3c (bxP (rd l0 x2.toNat)) _ _ _
 have hle:decide (w8a (Ya l0 x1 x2) a b c d≤1)=true:=An (by show ((_:Nat):Int)≤1;omega);rw [←m1,←m2,←m3] at c2;have h1:(w8a (Ya l0 x1 x2) a b c d == 1)=decide ((Ya l0 x1 x2).countP (cvQ a b c d)=1):=v4w _;have h2:(w8a (Wd l0 x1) a b c d == 1)=decide ((Wd l0 x1).countP (cvQ a b c d)=1):=v4w _;have sk:Q.inL (rd l0 x1.toNat).s (Jm s pl) u w→Q.inB (bxP (rd l0 x2.toNat)) (Kp s pl) u w→ ¬Q.inL (rd l0 x2.toNat).s (Kp s pl) u w→(Wd l0 x1).countP (cvQ a b c d)=1:=fun j1 j2 j3=>by
  have:=v9s L hnr i1 Q s (u:=u) (w:=w) hp tA tn tp j1 fun k=>by rw [Q.inL_S,tp] at k;obtain ⟨p,hp2,k⟩:=k;obtain ⟨j,hj,rfl⟩:=AK hp2;rw [←Yo hj] at k;have:=L.dis j _ hj i2 _ _ _ (L.ins j hj _ _ _ k) ((x6e Q _ _ _ _).1 j2);subst this;exact j3 (by rw [Q.inL_S];exact k)
  grind
 rw [←m1,←m2,←m3] at sk;rw [k1,h1,h2,hle];generalize rh6V (rd l0 x1.toNat).s a b c=H1 at c2 sk ⊢;generalize rh6V (rd l0 x2.toNat).s (Q.to (Kp s pl) u w).1 (Q.to (Kp s pl) u w).2.1 (Q.to (Kp s pl) u w).2.2=H3 at c2 sk ⊢;generalize u0x (rd l0 x2.toNat).a (rd l0 x2.toNat).b (rd l0 x2.toNat).c (rd l0 x2.toNat).d (rd l0 x2.toNat).e (rd l0 x2.toNat).f (Q.to (Kp s pl) u w).1 (Q.to (Kp s pl) u w).2.1 (Q.to (Kp s pl) u w).2.2=H2 at c2 sk ⊢;cases H1 with
 | false=>rw [Ay (by rw [c2];simp)];rfl
 | true=>
  cases H2 with
  | false=>rw [Ay (by rw [c2];simp)];rfl
  | true=>
   cases H3 with
   | true=>rw [Ay (by rw [c2];simp)];rfl
   | false=>rw [An (c2.2 ⟨rfl,rfl,by simp⟩),An (sk rfl rfl (by simp))];rfl
open Go.ChangeShapes Go.WideShapes Go.Deep
section
variable {P:Program}
def v6c (P:Program) (e:TypeId):List (TypeId×Nat):=match P.underlying e with
 | some (.struct fs)=>fs.toList.map fun f=>(f.type,f.offset)
 | _=>[]
def elsD {H:Type}:DataW H→List (DataW H)
 | .slice es _=>es
 | _=>[]
def w7l {H:Type} (n:Nat) (q:DataW H):Prop:=n=(elsD q).length ∧ ∀y∈elsD q,∃z r,y=.agg (z::r)
theorem w5i {e t0 t1:TypeId} {a b:Nat} (h:v6c P e=[(t0,a),(t1,b)]): ∃fs:Array Field,P.underlying e=some (.struct fs)∧fs.size=2∧(∃f0,fs[0]? =some f0∧f0.type=t0∧f0.offset=a)∧ ∃f1,fs[1]? =some f1∧f1.type=t1∧f1.offset=b:=by
 unfold v6c at h;split at h
 ·rename_i fs hu;refine ⟨fs,hu,?_⟩;obtain ⟨l⟩:=fs;simp only at h
  match l,h with
  | [f0,f1],h=>simp only [AU,By,List.cons.injEq,Aa,Bd] at h;exact ⟨rfl,⟨f0,rfl,h.1.1,h.1.2⟩,f1,rfl,h.2.1,h.2.2⟩
 ·cases h
abbrev ks6 :List IntKind:=[.i64,.i64,.i64,.i64,.i64,.i64]
variable {HH:Type} {enc:TypeId×Value→HH} {w:World} {base:Nat} {held:Bool}
theorem w8g {t e f0 f1:TypeId} {o0 o1:Nat} {ks:List IntKind} {cs:List Value} {x:DataW HH×List MemPlace} {fuel:Nat} (ht:P.underlying t=some (.slice e)) (hk:y6k P 30 e=some ks) (hks:1≤ks.length) (hfl:v6c P e=[(f0,o0),(f1,o1)])
  (h:DataW.trod enc P w base (fun _=>true) held fuel t cs=some x):
  ∃(v:Value) (n:Nat) (c:Nat→Nat→Int),cs=[v]∧VRel (rhoOf fun k=>w.heap[k]?) (.dat n (fun i=>x1y ks (c i))) v∧w7l n x.1:=by
 rcases open_slice ht h with ⟨h0,rfl⟩ | ⟨a,len,cap,m,fl,D,Pl,hcs,hb,hl,eA,hm,rfl,hi⟩
 ·exact ⟨_,0,fun _ _=>0,h0,.datn _,rfl,fun y hy=>by cases hy⟩
 ·simp only [if_true] at hm;subst hm;have hL:w7l len (DataW.slice ((List.range len).map D) ((List.range (m - len)).map fun j=>D (len+j))):=by
   refine ⟨by simp [elsD],fun y hy=> ?_⟩;obtain ⟨i,hi2,rfl⟩:=AO.1 hy;have hil:=A3.1 hi2;obtain ⟨cs',_,ht'⟩:=hi i (by omega);obtain ⟨fs,hu,hsz,_⟩:=w5i hfl;obtain ⟨xs,_,_,hx,_,hxl,_⟩:=DataW.trod_struct hu ht';have hx:=(Prod.mk.inj hx).1
   match xs,hxl with
   | [],hxl=>simp at hxl;omega
   | z::r,_=>exact ⟨_,_,hx⟩
  by_cases hc0:m=0
  ·subst hc0;obtain rfl:len=0:=by omega
   exact ⟨_,0,fun _ _=>0,hcs,.datz _ _ _,hL⟩
  ·have hspot:a.spot=none:=by
    obtain ⟨cs',hc',ht'⟩:=hi 0 (by omega);have I:=z3k 30 e ks hk _ _ _ ht';obtain ⟨_,dU,eZ⟩:=World.cells?_some hc';have h1:=eZ 0 (by rw [←dU,I.length];exact hks);obtain ⟨blk,off,spot⟩:=a;have h2:cs'[0]? =some (cs'[0]'(by rw [I.length];exact hks)):=(by simp);rw [h2] at h1
    simpa [Addr.add] using World.cell?_spot h1
   obtain ⟨blk,off,spot⟩:=a;simp only at hspot;subst hspot;obtain ⟨c,h1,h2⟩:=u4i (w:=w) hk hl hl hi;exact ⟨_,len,c,hcs,h1,hL⟩
theorem open_land {t e t0 t1 b f0 f1:TypeId} {o0 o1:Nat} {v:Value} {d:DataW HH} {p:List MemPlace} (ht:P.underlying t=some (.slice e)) (hs:v6c P e=[(t0,0),(t1,6)]) (ce:P.cellsOf e=7) (c0:P.cellsOf t0=6) (c1:P.cellsOf t1=1)
  (k0:y6k P 30 t0=some ks6) (u1:P.underlying t1=some (.slice b)) (kb:y6k P 30 b=some ks6) (fb:v6c P b=[(f0,o0),(f1,o1)]) {b0:Nat} (hv:Value.okWide P w .any b0 t v) (h:DataW.Trod enc P w base (fun _=>true) held t v d p):
  ∃X:List Pa,VRel (rhoOf fun k=>w.heap[k]?) (.dat X.length (Zz X)) v∧ ∀x∈X,∃es sp ps q,d=.slice es sp∧DataW.agg ps∈es∧q∈ps∧w7l x.s.length q:=by
 obtain ⟨fuel,h⟩:=h;have hvc:v.cells.toList=[v]:=by
  unfold Value.okWide at hv;rw [ht] at hv;unfold Cell.okWide at hv;rw [ht] at hv;cases v <;> first | rfl | (simp [Cell.ok,ht] at hv)
 rcases open_slice ht h with ⟨h0,_⟩ | ⟨a,len,cap,m,fl,D,Pl,hcs,hb,hl,eA,hm,hx,hi⟩
 ·rw [hvc] at h0;obtain rfl:v=.slice none 0 0:=by simpa using h0
  exact ⟨[],.datn _,fun x hx=>by cases hx⟩
 ·rw [hvc] at hcs;obtain rfl:v=.slice (some a) len cap:=by simpa using hcs
  have hspot:a.spot=none:=by unfold Value.okWide at hv;rw [ht] at hv;unfold Cell.okWide at hv;rw [ht] at hv;simp only [Cell.ok,ht] at hv;exact hv.2.2.2.1
  obtain ⟨blk,off,spot⟩:=a;simp only at hspot;subst hspot;simp only [if_true] at hm;subst hm;obtain ⟨fs,hu,hsz,⟨f0,hf0,rfl,o0⟩,f1,hf1,rfl,o1⟩:=w5i hs;have key: ∀i,i<len→ ∃q:Pa×(Nat→Value),(∀j,j<7→w.cell? ⟨blk,off+(i*7+j),none⟩=some (q.2 j))∧(∀j (hj:j<7),VRel (rhoOf fun k=>w.heap[k]?) ((Xk.cells q.1)[j]'hj) (q.2 j))∧ ∃ps z,D i=DataW.agg ps∧z∈ps∧w7l q.1.s.length z:=by
   intro i hil;obtain ⟨cs',hc',ht'⟩:=hi i (by omega);obtain ⟨xs,n,_,hx',hcl,hxl,hf⟩:=DataW.trod_struct hu ht';have dU:cs'.length=7:=hcl.trans ce;have eZ:=(World.cells?_some hc').2.2;have g0:=hf 0 f0 hf0;have g1:=hf 1 f1 hf1;rw [o0,c0,AT] at g0;rw [o1,c1] at g1;have hx0:0<xs.length:=by omega
   have hx1:1<xs.length:=by omega
   rw [Au hx0] at g0;rw [Au hx1] at g1;obtain ⟨ns,n1,n2,_⟩:=z3k 30 _ _ k0 _ _ _ g0;obtain ⟨u,n',c,e1,e2,e3⟩:=w8g u1 kb (by decide) fb g1
   match ns,n1 with
   | [m0,m1,m2,m3,m4,m5],_=>
    have ecs:cs'=[.int .i64 m0,.int .i64 m1,.int .i64 m2,.int .i64 m3,.int .i64 m4,.int .i64 m5,u]:=by
     rw [←List.take_append_drop 6 cs',n2];have:cs'.drop 6=[u]:=by rw [←e1,A9 (by rw [List.length_drop];omega)]
     rw [this];rfl
    refine ⟨(⟨m0,m1,m2,m3,m4,m5,lst R6 n' fun i=>x1y ks6 (c i)⟩,fun j=>cs'.getD j undef),fun j hj=> ?_,fun j hj=> ?_,xs.map (·.1),xs[1].1,(Prod.mk.inj hx').1,AO.2 ⟨xs[1],A0 hx1,rfl⟩,?_⟩
    ·have:=eZ j (by omega);rw [ce] at this;simp only [Xg] at this;rw [show off+(i*7+j)=off+i*7+j by omega,this];show cs'[j]? =some (cs'.getD j undef);rw [List.getD_eq_getElem?_getD,Au (by omega)];rfl
    ·have last:=(Yi (α:=R6) (v:=.dat n' fun i=>x1y ks6 (c i)) rfl (Xz fun i _=>rfl)).sound e2;rw [ecs]
     match j,hj with
     | 0,_=>exact .int _ _
     | 1,_=>exact .int _ _
     | 2,_=>exact .int _ _
     | 3,_=>exact .int _ _
     | 4,_=>exact .int _ _
     | 5,_=>exact .int _ _
     | 6,_=>exact last
    ·have:(lst R6 n' fun i=>x1y ks6 (c i)).length =n':=(by simp [lst]);show w7l (lst R6 n' _).length _;rw [this];exact e3
  let Q:Nat→Pa×(Nat→Value):=fun i=>if hil:i<len then (key i hil).choose else (Xk.d,fun _=>undef)
  have hQ: ∀i,i<len→(∀j,j<7→w.cell? ⟨blk,off+(i*7+j),none⟩=some ((Q i).2 j))∧(∀j (hj:j<7),VRel (rhoOf fun k=>w.heap[k]?) ((Xk.cells (Q i).1)[j]'hj) ((Q i).2 j))∧ ∃ps z,D i=DataW.agg ps∧z∈ps∧w7l (Q i).1.s.length z:=by intro i hil;have:=(key i hil).choose_spec;simp only [Q,hil,dif_pos];exact this
  have hXl:((List.range len).map fun i=>(Q i).1).length =len:=by simp
  have gB: ∀i,i<len→Zz ((List.range len).map fun i=>(Q i).1) i=Xk.cells (Q i).1:=fun i hi=>by show Xk.cells (rd _ i)=_;rw [Yo (by rw [hXl];exact hi)];simp only [List.getElem_map,List.getElem_range]
  refine ⟨(List.range len).map fun i=>(Q i).1,?_,fun x hx2=> ?_⟩
  ·rw [hXl];refine .dat len _ blk off 7 m (fun i j=>(Q i).2 j) hl (fun i hil=>by rw [gB i hil];rfl) (fun i j hil hj=> ?_) (fun i j hil hj=> ?_)
   ·have hj7:j<7:=by rw [gB i hil] at hj;exact hj
    have:=(hQ i hil).2.1 j hj7;simp only [gB i hil];exact this
   ·have e2:=(hQ i hil).1 j hj;unfold World.cell? at e2;split at e2
    ·rename_i cl el fz hb2;simp only [Option.isSome_none,Bool.false_eq_true,if_false] at e2;exact ⟨cl,el,fz,hb2,e2⟩
    ·cases e2
  ·obtain ⟨i,hi2,rfl⟩:=AO.1 hx2;have hil:=A3.1 hi2;obtain ⟨ps,z,h1,h2,h3⟩:=(hQ i hil).2.2;exact ⟨_,_,ps,z,(Prod.mk.inj hx).1,AO.2 ⟨i,hi2,h1⟩,h2,h3⟩
end
section
variable {P:Program} {w:World} {base:Nat}
theorem u4l {u:TypeId} {k:IntKind} {v:Value} (hu:P.underlying u=some (.int k)) (h:Cell.okWide P w .any base u v): ∃n,v=.int k n∧k.has n=true:=by simp only [Cell.okWide,hu] at h;cases v <;> simp_all [Cell.ok]
theorem w3v : ∀(us:List TypeId) (ks:List IntKind) (cs:List Value),cs.length=us.length→us.map P.underlying=ks.map (fun k=>some (.int k))→
  (∀(i:Nat) (v:Value),cs[i]? =some v→ ∃u,us[i]? =some u∧Cell.okWide P w .any base u v)→
  ∃ns:List Int,ns.length=ks.length∧cs=List.zipWith Value.int ks ns∧ ∀p∈List.zip ks ns,p.1.has p.2=true
 | [],[],[],_,_,_=>⟨[],rfl,rfl,fun p hp=>by cases hp⟩
 | u::us,k::ks,c::cs,hl,hk,h=>by
  simp only [AU,List.cons.injEq] at hk;obtain ⟨u',hu',hc⟩:=h 0 c rfl;obtain rfl:u=u':=Ag hu';obtain ⟨n,rfl,hn⟩:=u4l hk.1 hc;obtain ⟨ns,h1,h2,h3⟩:=w3v us ks cs (by simpa using hl) hk.2 fun i v hi=>h (i+1) v hi;refine ⟨n::ns,by simp [h1],by rw [h2];rfl,fun p hp=> ?_⟩;rw [List.zip_cons_cons,AG] at hp;rcases hp with rfl | hp
  ·exact hn
  ·exact h3 p hp
 | [],_::_,_,_,hk,_=>by simp at hk
 | _::_,[],_,_,hk,_=>by simp at hk
 | _::_,_::_,[],hl,_,_=>by simp at hl
 | [],[],_::_,hl,_,_=>by simp at hl
def aggT (P:Program) (t:TypeId):Bool:=match P.underlying t with | some (.struct _) | some (.array _ _)=>true | _=>false
theorem open_agg_ints {t:TypeId} {us:List TypeId} {ks:List IntKind} {v:Value} (hs:aggT P t=true) (hc:P.cellTypes P.depth t=some us) (hn:P.cellsOf t=us.length)
  (hk:us.map P.underlying=ks.map (fun k=>some (.int k))) (hv:Value.okWide P w .any base t v):
  ∃ns:List Int,ns.length=ks.length∧v=.agg (List.zipWith Value.int ks ns).toArray ∧ ∀p∈List.zip ks ns,p.1.has p.2=true:=by
 have h: ∃cs,v=.agg cs∧cs.size=P.cellsOf t∧Row.okWide P w .any base t cs:=by
  unfold Value.okWide at hv;unfold aggT at hs;split at hv
  ·exact hv
  ·exact hv
  ·rename_i h1 h2;split at hs
   ·rename_i fs h;exact absurd h (h1 fs)
   ·rename_i a b h;exact absurd h (h2 a b)
   ·cases hs
 obtain ⟨cs,rfl,hsz,ts,hts,_,gB⟩:=h;obtain rfl:us=ts:=Ag (hc.symm.trans hts);have hl:cs.toList.length=us.length:=by simpa using hsz.trans hn
 obtain ⟨ns,h1,h2,h3⟩:=w3v us ks cs.toList hl hk fun i v hi=>by
  have hi':cs[i]? =some v:=by simpa using hi
  obtain ⟨u,hu,hc⟩:=gB i v hi';have hlt:i<us.length:=by
   have:=(AL.mp hi').1
   simpa [←hl] using this
  rw [Nat.mod_eq_of_lt hlt] at hu;exact ⟨u,hu,hc⟩
 exact ⟨ns,h1,by rw [←h2],h3⟩
theorem vrel_ints {ρ:Rho} (ks:List IntKind) (ns:List Int):VRel ρ (.agg (List.zipWith AVal.int ks ns)) (.agg (List.zipWith Value.int ks ns).toArray):=by refine .agg _ _ (by simp) fun i h1 h2=> ?_;simp only [List.getElem_zipWith,List.getElem_toArray];exact .int _ _
end
end Go.Am
end
