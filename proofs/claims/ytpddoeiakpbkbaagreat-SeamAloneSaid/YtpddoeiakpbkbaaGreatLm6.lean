/- A part of a proof: several texts in one. -/
import Derived.Test.YtpddoeiakpbkbaaGreatLm5
import Derived.ChangeArms
set_option maxRecDepth 1000000
set_option maxHeartbeats 8000000
set_option linter.unusedVariables false
set_option linter.unusedSimpArgs false
noncomputable section
namespace Go.Am
open IntKind (wrap)
open Go.Proofs.Tryz
open Go.Proofs Go.Sort Go.Shelf Go.RowKit Go.Lib
def bA :R6:=⟨0,0,0,2,2,1⟩
def bB :R6:=⟨2,0,0,4,2,2⟩
def wh4 :List R6:=[⟨0,0,0,4,2,1⟩,⟨2,0,1,4,2,2⟩]
theorem can2 (r:R4) (h1:r.a<r.c) (h2:r.b<r.d):Wr.can [r]:=⟨[⟨r.a,r.c,[⟨r.b,r.d⟩]⟩],.one _ ⟨h1,can1 _ _ h2,by simp⟩,rfl⟩
theorem x0a :Zn wh4=0:=by
 refine y3w (by decide) ?_ ⟨[⟨0,1,[⟨0,0,4,2⟩]⟩,⟨1,2,[⟨2,0,4,2⟩]⟩],.cons _ _ [] ⟨by decide,can2 _ (by decide) (by decide),by simp⟩ ⟨by decide,fun _=>by simp⟩ (.one _ ⟨by decide,can2 _ (by decide) (by decide),by simp⟩),rfl⟩;intro r hr;simp only [wh4,AI,Bm,BU] at hr;rcases hr with rfl | rfl <;> rfl
theorem x2q :Zn [bA]=0:=y0z rfl
theorem w8j :Zn [bB]=0:=y0z rfl
theorem nb_A :nbS [bA]:=(y3b (S:=[bA]) rfl).1
theorem nb_B :nbS [bB]:=(y3b (S:=[bB]) rfl).1
theorem nb_W :nbS wh4:=(y3b (S:=wh4) rfl).1
theorem j2f {a b W:List R6} (ha:Zn a=0) (hb:Zn b=0) (na:nbS a) (nb:nbS b) (hW:Zn W=0) (h: ∀x y z,inS W x y z↔inS a x y z∨inS b x y z):z4q .u a b=0∧z2i .u a b=W:=by
 obtain ⟨c,pts⟩:=u_pts ha hb na nb;have e:slJ .u a b=W:=x5h.uniq _ _ c (y3x hW) fun ⟨z,x,y⟩=>by rw [←z5i,←z5i,pts,h]
 have e1:slE .u a b=0:=by
  grind [j3f,Vh,x7e]
 refine ⟨e1,?_⟩;unfold z2i;rw [e1];exact e
theorem in_wh (x y z:Int):inS wh4 x y z↔inS [bA] x y z∨inS [bB] x y z:=by unfold inS wh4 bA bB;simp;omega
theorem wh_ld :whE [] ld4=0∧whL [] ld4=wh4:=by
 obtain ⟨a1,a0⟩:=j2f x2p x2q x3j nb_A x2q fun x y z=>by
  constructor
  ·exact .inr
  ·rintro (⟨r,hr,_⟩ | h);all_goals grind
 obtain ⟨b1,b0⟩:=j2f x2q w8j nb_A nb_B x0a in_wh;constructor
 ·show (bif z4q .u [] [bA] != 0 then _ else bif z4q .u (z2i .u [] [bA]) [bB] != 0 then _ else _)=_;rw [a1,a0,b1];rfl
 ·show z2i .u (z2i .u [] [bA]) [bB]=_;rw [a0,b0]
theorem x5g :z1l ld4=0:=by
 have g0:x7h ld4 0=false:=by show (Zn [⟨0,0,0,2,2,2⟩] != 0||_)=false;rw [y0z (b:=⟨0,0,0,2,2,2⟩) rfl];rfl
 have g1:x7h ld4 1=false:=by show (Zn [⟨2,0,0,4,2,2⟩] != 0||_)=false;rw [y0z (b:=⟨2,0,0,4,2,2⟩) rfl];rfl
 have e:skE ld4=0:=by show (bif Zn [bA] != 0 then _ else bif Zn [bB] != 0 then _ else _)=_;rw [x2q,w8j];rfl
 show (bif skE ld4 != 0 then _ else bif x7h ld4 0 then 8 else bif x7h ld4 1 then 8 else 0)=_
 grind
theorem w1u :v2b ld4:=w1t x5g
theorem j5r : ∀x∈ld4,x6d x.s=true:=fun x hx=>by
 simp only [ld4,AI,Bm,BU] at hx;rcases hx with rfl | rfl <;> rfl
theorem swo_ld :Kb ld4=0∧Xr ld4=wh4:=by
 obtain ⟨e,l⟩:=wh_ld;have h1:Kb ld4=0:=by
  grind [Kb,Kc,x5g]
 refine ⟨h1,?_⟩;unfold Xr;rw [h1,l];rfl
theorem svo_ld :z4m wh4=0∧z3z wh4=12:=by refine ⟨x0a,?_⟩;unfold z3z;rw [x0a];rfl
theorem z8v (q:Ax) (r:R6) (h:q.lo r<q.hi r):plQ q [r]=[q.lo r,q.hi r]:=y1p _ _ (z7f q _) (by simp [h]) fun x=>by rw [w0x];simp
theorem x4d (M:Int→Int→List R4) (d a b:Int):z1b M d [a,b]=(M d a).map (qdA d (dhA d) a)++(M d b).map (qdA d (dhA d) b):=by
 show (M d a).map (qdA d (dhA d) a)++((M d b).map (qdA d (dhA d) b)++[])=_
 grind
theorem y5k (M:Int→Int→List R4) (S:List R6):z9x M S 6 0=z1b M 0 (plQ .x S)++(z1b M 1 (plQ .x S)++(z1b M 2 (plQ .y S)++(z1b M 3 (plQ .y S)++(z1b M 4 (plQ .z S)++z1b M 5 (plQ .z S))))):=by
 have e:z9x M S 6 0=z1b M ((0:Nat):Int) (plA (dhA ((0:Nat):Int)) S)++(z1b M ((0+1:Nat):Int) (plA (dhA ((0+1:Nat):Int)) S)++(z1b M ((0+1+1:Nat):Int) (plA (dhA ((0+1+1:Nat):Int)) S)++(z1b M ((0+1+1+1:Nat):Int) (plA (dhA ((0+1+1+1:Nat):Int)) S)++(z1b M ((0+1+1+1+1:Nat):Int) (plA (dhA ((0+1+1+1+1:Nat):Int)) S)++(z1b M ((0+1+1+1+1+1:Nat):Int) (plA (dhA ((0+1+1+1+1+1:Nat):Int)) S)++[]))))):=rfl;have p: ∀q s,plA (dhA (z5m q s:Int)) S=plQ q S:=fun q s=>by rw [x7b,v5t]
 have p0:plA (dhA ((0:Nat):Int)) S=plQ .x S:=p .x true;have p1:plA (dhA ((0+1:Nat):Int)) S=plQ .x S:=p .x false;have p2:plA (dhA ((0+1+1:Nat):Int)) S=plQ .y S:=p .y true;have p3:plA (dhA ((0+1+1+1:Nat):Int)) S=plQ .y S:=p .y false;have p4:plA (dhA ((0+1+1+1+1:Nat):Int)) S=plQ .z S:=p .z true
 grind [dhA]
theorem fs_is (q:Ax) (s:Bool) (p:Int) (R:List R4) (cR:Wr.can R) (h: ∀u v,ptL Wr.inB R (u,v)↔q.inL [bA] (y8n s p) u v∧ ¬q.inL wh4 (z5c s p) u v):FS q s [bA] wh4 p=R:=by obtain ⟨c,pts⟩:=w7g x2q x0a q s p;exact Wr.uniq _ _ c cR fun ⟨u,v⟩=>by rw [pts,h]
theorem v5s (u v:Int):ptL Wr.inB [] (u,v)↔False:=⟨fun h=>y6m _ _ h,fun h=>h.elim⟩
theorem u9z (r:R4) (u v:Int):ptL Wr.inB [r] (u,v)↔(r.a≤u∧u<r.c)∧(r.b≤v∧v<r.d):=by rw [j5n];simp
theorem j1o (q:Ax) (p u v:Int):q.inL wh4 p u v↔q.inB ⟨0,0,0,4,2,1⟩ p u v∨q.inB ⟨2,0,1,4,2,2⟩ p u v:=by unfold Ax.inL wh4;simp
theorem fs_ld :FS .x true [bA] wh4 0=[]∧FS .x true [bA] wh4 2=[]∧FS .x false [bA] wh4 0=[⟨0,0,2,1⟩]∧FS .x false [bA] wh4 2=[]∧
  FS .y true [bA] wh4 0=[]∧FS .y true [bA] wh4 2=[⟨0,0,2,1⟩]∧FS .y false [bA] wh4 0=[⟨0,0,2,1⟩]∧FS .y false [bA] wh4 2=[]∧
  FS .z true [bA] wh4 0=[]∧FS .z true [bA] wh4 1=[⟨0,0,2,2⟩]∧FS .z false [bA] wh4 0=[⟨0,0,2,2⟩]∧FS .z false [bA] wh4 1=[]:=by
 refine ⟨?_,?_,?_,?_,?_,?_,?_,?_,?_,?_,?_,?_⟩ <;>
 first
  | (refine fs_is _ _ _ [] Wr.nil fun u v=> ?_
     rw [v5s,j1o,y6q];refine ⟨False.elim,fun h=> ?_⟩;simp only [Ax.inB,Ax.lo,Ax.hi,Ax.rc,bA,y8n,z5c] at h;omega)
  | (refine fs_is _ _ _ [_] ?_ fun u v=> ?_
     ·exact can2 _ (by decide) (by decide)
     grind [u9z,j1o,y6q,Ax.inB,Ax.lo,Ax.hi,Ax.rc,bA,y8n,z5c])
theorem z4c (q:Ax) (s:Bool) {p:Int} (hp: -12≤p∧p≤12):Qf [bA] wh4 (z5m q s:Int) p=FS q s [bA] wh4 p:=(x2j x2q x0a nb_A nb_W q s hp).2
def sk4 :List R7:=[⟨1,0,0,0,0,2,1⟩,⟨2,0,2,0,2,2,1⟩,⟨3,0,0,0,2,0,1⟩,⟨4,0,0,1,2,2,1⟩,⟨5,0,0,0,2,2,0⟩]
theorem skl_ld :z9x (Qf [bA] wh4) [bA] 6 0=sk4:=by
 obtain ⟨f1,f2,f3,f4,f5,f6,f7,f8,f9,fa,fb,fc⟩:=fs_ld;rw [y5k,z8v .x bA (by decide),z8v .y bA (by decide),z8v .z bA (by decide)];rw [show (Ax.x).lo bA=0 from rfl,show (Ax.x).hi bA=2 from rfl,show (Ax.y).lo bA=0 from rfl,show (Ax.y).hi bA=2 from rfl,show (Ax.z).lo bA=0 from rfl,show (Ax.z).hi bA=1 from rfl];simp only [x4d];rw [show Qf [bA] wh4 0 0=_ from z4c .x true (by omega),show Qf [bA] wh4 0 2=_ from z4c .x true (by omega),show Qf [bA] wh4 1 0=_ from z4c .x false (by omega),show Qf [bA] wh4 1 2=_ from z4c .x false (by omega),
  show Qf [bA] wh4 2 0=_ from z4c .y true (by omega),show Qf [bA] wh4 2 2=_ from z4c .y true (by omega),show Qf [bA] wh4 3 0=_ from z4c .y false (by omega),show Qf [bA] wh4 3 2=_ from z4c .y false (by omega),
  show Qf [bA] wh4 4 0=_ from z4c .z true (by omega),show Qf [bA] wh4 4 1=_ from z4c .z true (by omega),show Qf [bA] wh4 5 0=_ from z4c .z false (by omega),show Qf [bA] wh4 5 1=_ from z4c .z false (by omega)]
 rw [f1,f2,f3,f4,f5,f6,f7,f8,f9,fa,fb,fc];rfl
theorem skn_ld :Vz ld4 0=0∧Yr ld4 0=sk4:=by
 obtain ⟨e,l⟩:=wh_ld;have hw:Zs ld4=wh4:=by unfold Zs;rw [e,l];rfl
 have s1:=x9c w1u j5r (A:=wh4) x0a nb_W (fun x y z=>by
  rw [in_wh];constructor
  ·rintro (h | h)
   ·exact ⟨_,List.mem_cons_self ..,h⟩
   ·exact ⟨_,List.mem_cons_of_mem _ (List.mem_cons_self ..),h⟩
  ·rintro ⟨p,hp,h⟩;simp only [ld4,AI,Bm,BU] at hp;rcases hp with rfl | rfl
   ·exact .inl h
   ·exact .inr h) (i:=0) (by decide)
 have h1:Vz ld4 0=0:=by show (bif z1l ld4 != 0 then _ else bif Kc ld4 != 0 then _ else x8l (y2e [bA] (Zs ld4)) (Qf [bA] (Zs ld4)) [bA])=0;rw [x5g,show Kc ld4=0 from e,hw];exact s1
 refine ⟨h1,?_⟩;unfold Yr;rw [h1];show z9x (Qf [bA] (Zs ld4)) [bA] 6 0=_;rw [hw,skl_ld]
theorem v2v {S T:List R6} {b:R6} (hS:Zn S=0) (hT:Zn T=0) (hb:Zn [b]=0) (nS:nbS S) (nT:nbS T) (q:Ax) (s:Bool) {p:Int} (hp: -12≤p∧p≤12) (R:List R4) (cR:Wr.can R)
  (h: ∀u v,ptL Wr.inB R (u,v)↔q.inL S (y8n s p) u v∧q.inB b (z5c s p) u v∧ ¬q.inL T (z5c s p) u v):Kz S T b (z5m q s:Int) p=R:=by
 rw [(x8t hS hT hb nS nT q s hp).2];obtain ⟨c,pts,_⟩:=w7e hS hT hb nS nT q s p;exact Wr.uniq _ _ c cR fun ⟨u,v⟩=>by rw [pts,h]
theorem u8g :Zn [(⟨0,0,0,2,2,2⟩:R6)]=0:=y0z rfl
theorem v3e (q:Ax) (s:Bool) {p:Int} (hp: -12≤p∧p≤12) (h: ¬(q=.x ∧s=false∧p=2)):Kz [bB] [bA] ⟨0,0,0,2,2,2⟩ (z5m q s:Int) p=[]:=by
 refine v2v w8j x2q u8g nb_B nb_A q s hp [] Wr.nil fun u v=> ?_;rw [v5s,y6q,y6q];refine ⟨False.elim,fun k=> ?_⟩;cases q <;> cases s <;> simp only [Ax.inB,Ax.lo,Ax.hi,Ax.rc,bA,bB,y8n,z5c] at k <;> first | omega | grind
theorem st10x :Kz [bB] [bA] ⟨0,0,0,2,2,2⟩ (z5m .x false:Int) 2=[⟨0,1,2,2⟩]:=by
 refine v2v w8j x2q u8g nb_B nb_A .x false (by decide) [_] ?_ fun u v=> ?_
 ·exact can2 _ (by decide) (by decide)
 grind [u9z,y6q,Ax.inB,Ax.lo,Ax.hi,Ax.rc,bA,bB,y8n,z5c]
theorem v2d (q:Ax) (s:Bool) {p:Int} (hp: -12≤p∧p≤12):Kz [bA] [bB] bB (z5m q s:Int) p=[]:=by
 refine v2v x2q w8j w8j nb_A nb_B q s hp [] Wr.nil fun u v=> ?_
 grind [v5s,y6q]
theorem stl_01 :z9x (Kz [bA] [bB] bB) [bA] 6 0=[]:=by
 rw [y5k,z8v .x bA (by decide),z8v .y bA (by decide),z8v .z bA (by decide)];rw [show (Ax.x).lo bA=0 from rfl,show (Ax.x).hi bA=2 from rfl,show (Ax.y).lo bA=0 from rfl,show (Ax.y).hi bA=2 from rfl,show (Ax.z).lo bA=0 from rfl,show (Ax.z).hi bA=1 from rfl];simp only [x4d];rw [show Kz [bA] [bB] bB 0 0=_ from v2d .x true (by omega),show Kz [bA] [bB] bB 0 2=_ from v2d .x true (by omega),show Kz [bA] [bB] bB 1 0=_ from v2d .x false (by omega),show Kz [bA] [bB] bB 1 2=_ from v2d .x false (by omega),
  show Kz [bA] [bB] bB 2 0=_ from v2d .y true (by omega),show Kz [bA] [bB] bB 2 2=_ from v2d .y true (by omega),show Kz [bA] [bB] bB 3 0=_ from v2d .y false (by omega),show Kz [bA] [bB] bB 3 2=_ from v2d .y false (by omega),
  show Kz [bA] [bB] bB 4 0=_ from v2d .z true (by omega),show Kz [bA] [bB] bB 4 1=_ from v2d .z true (by omega),show Kz [bA] [bB] bB 5 0=_ from v2d .z false (by omega),show Kz [bA] [bB] bB 5 1=_ from v2d .z false (by omega)]
 rfl
theorem stl_10 :z9x (Kz [bB] [bA] ⟨0,0,0,2,2,2⟩) [bB] 6 0=[⟨1,2,0,1,2,2,2⟩]:=by
 rw [y5k,z8v .x bB (by decide),z8v .y bB (by decide),z8v .z bB (by decide)];rw [show (Ax.x).lo bB=2 from rfl,show (Ax.x).hi bB=4 from rfl,show (Ax.y).lo bB=0 from rfl,show (Ax.y).hi bB=2 from rfl,show (Ax.z).lo bB=0 from rfl,show (Ax.z).hi bB=2 from rfl];simp only [x4d];rw [show Kz [bB] [bA] ⟨0,0,0,2,2,2⟩ 0 2=_ from v3e .x true (by omega) (by simp),show Kz [bB] [bA] ⟨0,0,0,2,2,2⟩ 0 4=_ from v3e .x true (by omega) (by simp),show Kz [bB] [bA] ⟨0,0,0,2,2,2⟩ 1 2=_ from st10x,show Kz [bB] [bA] ⟨0,0,0,2,2,2⟩ 1 4=_ from v3e .x false (by omega) (by simp),
  show Kz [bB] [bA] ⟨0,0,0,2,2,2⟩ 2 0=_ from v3e .y true (by omega) (by simp),show Kz [bB] [bA] ⟨0,0,0,2,2,2⟩ 2 2=_ from v3e .y true (by omega) (by simp),show Kz [bB] [bA] ⟨0,0,0,2,2,2⟩ 3 0=_ from v3e .y false (by omega) (by simp),show Kz [bB] [bA] ⟨0,0,0,2,2,2⟩ 3 2=_ from v3e .y false (by omega) (by simp),
  show Kz [bB] [bA] ⟨0,0,0,2,2,2⟩ 4 0=_ from v3e .z true (by omega) (by simp),show Kz [bB] [bA] ⟨0,0,0,2,2,2⟩ 4 2=_ from v3e .z true (by omega) (by simp),show Kz [bB] [bA] ⟨0,0,0,2,2,2⟩ 5 0=_ from v3e .z false (by omega) (by simp),show Kz [bB] [bA] ⟨0,0,0,2,2,2⟩ 5 2=_ from v3e .z false (by omega) (by simp)]
 rfl
theorem stp_ld :(Qc ld4 1 0=0∧Wj ld4 1 0=[⟨1,2,0,1,2,2,2⟩])∧Qc ld4 0 1=0∧Wj ld4 0 1=[]:=by
 have s1:=v2x w1u j5r (i:=1) (k:=0) (by decide) (by decide) (by decide);have t1:=v2x w1u j5r (i:=0) (k:=1) (by decide) (by decide) (by decide);have h1:Qc ld4 1 0=0:=by show (bif z1l ld4 != 0 then _ else x8l (y2z [bB] [bA] ⟨0,0,0,2,2,2⟩) (Kz [bB] [bA] ⟨0,0,0,2,2,2⟩) [bB])=0;rw [x5g];exact s1
 have h2:Qc ld4 0 1=0:=by show (bif z1l ld4 != 0 then _ else x8l (y2z [bA] [bB] bB) (Kz [bA] [bB] bB) [bA])=0;rw [x5g];exact t1
 refine ⟨⟨h1,?_⟩,h2,?_⟩
 ·unfold Wj;rw [h1];exact stl_10
 ·unfold Wj;rw [h2];exact stl_01
theorem mar_ld :x1b sk4=0∧y2l sk4=14:=by
 have e:w9w sk4=0:=by decide
 refine ⟨e,?_⟩;unfold y2l;rw [e];rfl
theorem j9y : ∃N,Zr w3w N y5m=.ret [.bool true]:=by
 refine ⟨0,?_⟩;have e:([(Pa.mk 0 0 0 2 2 2 ([(R6.mk 0 0 0 2 2 1)]:List R6)),(Pa.mk 2 0 0 4 2 2 ([(R6.mk 2 0 0 4 2 2)]:List R6))]:List Pa)=ld4:=rfl;obtain ⟨w1,w0⟩:=swo_ld;obtain ⟨v1,v0⟩:=svo_ld;obtain ⟨k1,k0⟩:=skn_ld;obtain ⟨⟨s1,s0⟩,t1,t0⟩:=stp_ld;obtain ⟨m1,m0⟩:=mar_ld;have sm:smP ld4=true:=by decide
 unfold y5m;simp only [Zc,e,w1,w0,v1,v0,k1,k0,s1,s0,t1,t0,m1,m0,show Qa ld4=true from sm,show z8a wh4=true from rfl,show z2h ld4 1 0=true from sm,show z2h ld4 0 1=true from sm,show Jw ld4 0=true from sm,show z9c sk4=true from rfl,show Kd [(R7.mk 1 2 0 1 2 2 2)] [(R7.mk 1 2 0 1 2 2 2)]=true from rfl,show u1u [(R7.mk 1 2 0 1 2 2 2)] [(R7.mk 1 2 0 1 2 2 2)]=true from An rfl];rfl
def fAl4 :List AVal→Option (AVal×Bool)
 | []=>some (.bool true,true)
 | _=>none
theorem j8x {S:Specs} (hS:Zu prog S):Zu prog (S.with v6q fAl4):=by
 refine z0f hS (by kernel_rfl) fun args v h=> ?_;unfold fAl4 at h;split at h
 ·simp only [Ad,Ac,Bk] at h;subst h;obtain ⟨N,hN⟩:=j9y;exact ⟨_,_,.nil,rfl,u6f N _ hN,3,rfl⟩
 ·cases h
def v7x (l:List Pa):Bool:=bif decide ((l.length:Int)≤6) then (bif v2e l then u9a l == 0 else false) else false
def z9j (l:List Pa):Bool:=true
theorem u8t {l:List Pa} (h:v2e l=true) (h6:l.length≤6):smP l=true:=by unfold v2e at h;rw [AB (by omega),Aa,Ae] at h;unfold smP;rw [An (by omega),Aj];refine At.2 fun x hx=> ?_;have:=At.1 h.1 x hx;unfold nrX at this;simp only [Ae,Be,Ba] at this;exact An (by omega)
theorem j7d (l:List Pa) (h:z9j l=true): ∃N,Zr (w2t l) N (y5d l)=.ret [.bool (v7x l)]:=⟨0,by
 unfold y5d v7x;by_cases g:(l.length:Int)≤6
 ·rw [An g,Ab,Ab];simp only [Zc,show z8k l=true from rfl,Ab];rcases Yp (v2e l) with q | q
  ·simp only [q,Ab,show z8l l=true from u8t q (by omega)];rfl
  ·simp only [q,Aa];rfl
 ·rw [AB g,Aa,Aa];rfl⟩
def fFit :List AVal→Option (AVal×Bool)
 | [a0]=>match asL Pa a0 with
  | some (L0,g0,n0)=>some (.bool (v7x L0),isT Pa n0 g0&&(z9j L0))
  | _=>none
 | _=>none
theorem j8q {S:Specs} (hS:Zu prog S):Zu prog (S.with nFit4 fFit):=by
 refine z0f hS (by kernel_rfl) fun args v h=> ?_;unfold fFit at h;split at h
 ·rename_i a0;split at h
  ·rename_i L0 g0 n0 e0;simp only [Ad,Ac,Ae] at h;obtain ⟨rfl,ho0,hw⟩:=h;obtain ⟨N,hN⟩:=j7d L0 hw;exact ⟨_,_,(.cons (Yh e0 ho0) .nil),rfl,u5f L0 N _ hN,3,rfl⟩
  ·cases h
 ·cases h
abbrev nV1 :Ax→Nat
 | .x =>nMv1
 | .y =>nMv4
 | .z =>nMv7
abbrev nV2 :Ax→Nat
 | .x =>nMv2
 | .y =>nMv5
 | .z =>nMv8
abbrev nV3 :Ax→Nat
 | .x =>nMv3
 | .y =>nMv6
 | .z =>nMv9
def isV (q:Ax) (a b c:Nat):Bool:=Nat.beq a (nV1 q)&&(Nat.beq b (nV2 q)&&Nat.beq c (nV3 q))
theorem v7f {q:Ax} {a b c:Nat} (h:isV q a b c=true):a=nV1 q∧b=nV2 q∧c=nV3 q:=by simp only [isV,Ae] at h;exact ⟨Ai h.1,Ai h.2.1,Ai h.2.2⟩
def axOf (a b c:Nat):Option Ax:=bif isV .x a b c then some .x else bif isV .y a b c then some .y else bif isV .z a b c then some .z else none
theorem v9j {a b c:Nat} {q:Ax} (h:axOf a b c=some q):a=nV1 q∧b=nV2 q∧c=nV3 q:=by
 unfold axOf at h;cases hx:isV .x a b c with
 | true=>rw [hx,Ab] at h;obtain rfl:=Ag h;exact v7f hx
 | false=>
  rw [hx,Aa] at h;cases hy:isV .y a b c with
  | true=>rw [hy,Ab] at h;obtain rfl:=Ag h;exact v7f hy
  | false=>
   rw [hy,Aa] at h;cases hz:isV .z a b c with
   | true=>rw [hz,Ab] at h;obtain rfl:=Ag h;exact v7f hz
   | false=>rw [hz,Aa] at h;cases h
abbrev Ma :Specs:=Ud
theorem w4k :Zu prog Ma:=Jo
inductive mctS where
 | h0 (v8:List R4) (v13:Int)
def mctC (q:Ax) (l1:List R6) (x2:Int):mctS→Cfg
 | .h0 v8 v13=>⟨⟨47,0,true⟩,none,(Zb prog 146 [1,1,0,1,0,0] 0),none,(Zy prog 10),⟨Yg [(2,(ii x2)),(3,(.ptr 0 0)),(8,(.sla 1 4 0 v8.length (.un 4))),(11,(.dat l1.length (Zz l1))),(12,(ii (l1.length:Int))),(13,(ii v13))],Vj [⟨[(.fn (nV1 q) []),(.fn (nV2 q) []),(.fn (nV3 q) [])],135,none⟩,⟨Ym v8.length (Zz v8),116,some ⟨4,v8.length,(Zz v8)⟩⟩] 0,2,[],true⟩,[],.leaf⟩
def u3y :List (Option (List Nat)):=[some [2,3,8,11,12,13]]
def u3z :List (Option (List Nat)):=[]
def z3m (q:Ax) (l1:List R6) (x2:Int):mctS→Xw mctS
 | .h0 v8 v13=>(bif (decide (v13<(l1.length:Int))) then (bif ((decide (0≤v13∧v13<(l1.length:Int)))&&true) then (bif (decide ((q.lo (rd l1 v13.toNat))≤x2)) then (bif (decide (x2<(q.hi (rd l1 v13.toNat)))) then (bif (Nat.beq 4 4&&((decide (0+v8.length=v8.length))&&decide ((v8.length+1+1)*(32+1)≤room))) then (.to (.h0 (v8++[(q.rc (rd l1 v13.toNat))]) (wrap .i64 (v13+1)))) else .stuck) else (.to (.h0 v8 (wrap .i64 (v13+1))))) else (.to (.h0 v8 (wrap .i64 (v13+1))))) else .stuck) else (bif (Uv (cvT v8)) then (.ret [(.dat (Ze (cvT v8)).length (Zz (Ze (cvT v8)))),(.int .i64 (Ww (cvT v8)))]) else .stuck))
def x3n (q:Ax) (l1:List R6) (x2:Int):Xw mctS:=(.to (.h0 ([]:List R4) 0))
theorem w9u (q:Ax) (l1:List R6) (x2:Int): ∀s,Yt prog (Zy prog 146) (mctC q l1 x2) (mctC q l1 x2 s) (z3m q l1 x2 s):=by cases q <;> refine (?f: ∀q:Ax,∀s,Yt prog (Zy prog 146) (mctC q l1 x2) (mctC q l1 x2 s) (z3m q l1 x2 s)) _ <;> exact fun q=>fun
 | .h0 v8 v13=>(lb (fun k0=>(lo fun aJ=>(lb (fun k1=>(lb (fun k2=>(lo fun o0=>(sl w4k 137 [] ⟨[0,12],[],u3y,u3z⟩ ⟨[(8,.len (v8++[(q.rc (rd l1 (tn v13)))]).length)],[.keep,.rowed 4 (v8++[(q.rc (rd l1 (tn v13)))]).length (Zz (v8++[(q.rc (rd l1 (tn v13)))]))],[]⟩ (trs 9 []) (pp (xL (v8.length+1) (v8++[(q.rc (rd l1 (tn v13)))]).length) (pp (xL (v8.length+1) (v8++[(q.rc (rd l1 (tn v13)))]).length) (pp (xS (v8.length+1) (Zo (Zz v8) 0 v8.length 4 (Xq.cells (q.rc (rd l1 (tn v13))))) (Zz (v8++[(q.rc (rd l1 (tn v13)))]))) (pp (pp (xF (Zo (Zz v8) 0 v8.length 4 (Xq.cells (q.rc (rd l1 (tn v13)))))) nn) (ww o0 (tt k2 (tt k1 (ww aJ (tt k0 nn)))))))))))) (fun k2=>(sl w4k 67 [] ⟨[0,1],[],u3y,u3z⟩ ⟨[],[],[]⟩ (trs 8 [false]) (pp (fl v8 nn) (tt k2 (tt k1 (ww aJ (tt k0 nn))))))))) (fun k1=>(sl w4k 55 [] ⟨[0,1],[],u3y,u3z⟩ ⟨[],[],[]⟩ (bl 9 1) (pp (fl v8 nn) (tt k1 (ww aJ (tt k0 nn))))))))) (fun k0=>(Xa (sl w4k (C':=⟨⟨47,0,true⟩,(Vm prog 146 [1,1,1,0] 1),(Zb prog 146 [1,1,1,0] 1),none,(Zy prog 10),⟨Yg [(43,(.dat v8.length (Zz v8)))],Vj [] 0,0,[],true⟩,[],.leaf⟩) 10 [] ⟨[],[1],[some [43]],[]⟩ ⟨[(43,.frz v8.length v8.length (Zz v8) (Zz v8))],[],[]⟩ [false] (pp (xZ (z6e 4 4 0 v8.length v8.length (Zz v8)) v8.length (Zz v8)) (pp (xL v8.length v8.length) (pp (xS v8.length (Zz v8) (Zz v8)) (pp (fl v8 nn) (tt k0 nn)))))) (lo fun o0=>(lr 47 3 [1,1,1,1,0] 1 10 [(6,(.dat (Ze (cvT v8)).length (Zz (Ze (cvT v8))))),(7,(ii (Ww (cvT v8))))] (sl w4k 6 [] ⟨[],[],[some [6,7]],[]⟩ ⟨[],[],[]⟩ [] (pp (pp (xr v8) (xw o0)) nn)))))))
theorem w1j (q:Ax) (l1:List R6) (x2:Int):Yt prog (Zy prog 146) (mctC q l1 x2) (Zg prog 146 [(.agg [(.fn (nV1 q) []),(.fn (nV2 q) []),(.fn (nV3 q) [])]),(.dat l1.length (Zz l1)),(.int .i64 x2)] true []) (x3n q l1 x2):=by cases q <;> exact (sl w4k 19 [(116,4,Zz ([]:List R4))] ⟨[0,1],[],u3y,u3z⟩ ⟨[(8,.grow 1 4)],[],[]⟩ [] (pp (fl ([]:List R4) nn) nn))
theorem u3x (q:Ax) (l1:List R6) (x2:Int) (n:Nat) (vs:List AVal) (h:Zr (z3m q l1 x2) n (x3n q l1 x2)=.ret vs):Jy prog (Zy prog 146) (Zg prog 146 [(.agg [(.fn (nV1 q) []),(.fn (nV2 q) []),(.fn (nV3 q) [])]),(.dat l1.length (Zz l1)),(.int .i64 x2)] true []) vs:=by have:=Zd (w9u q l1 x2) n _ (w1j q l1 x2);rwa [h] at this
theorem w3e (q:Ax) (L M:List R6) (p:Int):Kg q (L++M) p=Kg q L p++Kg q M p:=by unfold Kg;rw [List.filter_append,Bh]
theorem cutL_t (q:Ax) {r:R6} {p:Int} (h1:q.lo r≤p) (h2:p<q.hi r):Kg q [r] p=[q.rc r]:=by unfold Kg;rw [List.filter_cons,AL (by simp [h1,h2])];rfl
theorem j9i (q:Ax) {r:R6} {p:Int} (h1: ¬q.lo r≤p):Kg q [r] p=[]:=by unfold Kg;rw [List.filter_cons,AF (by simp [h1])];rfl
theorem j9h (q:Ax) {r:R6} {p:Int} (h2: ¬p<q.hi r):Kg q [r] p=[]:=by unfold Kg;rw [List.filter_cons,AF (by simp [h2])];rfl
def Xx (q:Ax) (L:List R6) (p:Int):List R4:=Ze (Kg q L p)
def Kk (q:Ax) (L:List R6) (p:Int):Int:=Ww (Kg q L p)
def z2n (q:Ax) (L:List R6) (p:Int):Bool:=decide (L.length≤400)
theorem j1b (q:Ax) (L:List R6) (p:Int) (hl:L.length≤400): ∀(k i:Nat) (acc:List R4),i+k=L.length→acc.length≤i→Kg q L p=acc++Kg q (L.drop i) p→
  ∃n,Zr (z3m q L p) n (.to (.h0 acc (i:Int)))=.ret [.dat (Xx q L p).length (Zz (Xx q L p)),.int .i64 (Kk q L p)]
 | 0,i,acc,h,h',e=>by rw [Ar (by omega),show Kg q [] p=[] from rfl,AD] at e;refine ⟨1,?_⟩;unfold Xx Kk;rw [Zw,e];simp (disch:=omega) only [z3m,Zc,show∀l,Uv l=true from fun _=>rfl,Yf,Ab,Aa,Zp]
 | k+1,i,acc,h,h',e=>by
  have hi:i<L.length:=by omega
  have e2:Kg q L p=(acc++Kg q [rd L i] p)++Kg q (L.drop (i+1)) p:=by rw [AJ,←w3e,e,Yq hi];rfl
  obtain ⟨n,hn⟩:=j1b q L p hl k (i+1) (acc++Kg q [rd L i] p) (by omega) (by
   have:(Kg q [rd L i] p).length ≤1:=by unfold Kg;rw [Bi];exact List.length_filter_le _ _
   rw [AH];omega) e2
  refine ⟨n+1,?_⟩;rw [Zw];by_cases h1:q.lo (rd L i)≤p
  ·by_cases h2:p<q.hi (rd L i)
   ·rw [cutL_t q h1 h2] at hn;simp (disch:=omega) only [z3m,Xs,Zc,Zq,Yz,Zt,Yc,Yv,Yj,Zf,Zk,Zx,Yd,Zj,Af,Ao,Ah,Aj,Ab,Aa];exact hn
   ·rw [j9h q h2,AD] at hn;simp (disch:=omega) only [z3m,Xs,Yf,Zc,Zq,Yz,Zt,Zk,Zx,Zj,Ah,Ab,Aa];exact hn
  ·rw [j9i q h1,AD] at hn;simp (disch:=omega) only [z3m,w3b,Zc,Zq,Yz,Zt,Zk,Zx,Zj,Ah,Ab,Aa];exact hn
theorem j6b (q:Ax) (L:List R6) (p:Int) (h:z2n q L p=true): ∃n,Zr (z3m q L p) n (x3n q L p)=.ret [.dat (Xx q L p).length (Zz (Xx q L p)),.int .i64 (Kk q L p)]:=
 j1b q L p (Aw h) L.length 0 [] (Af _) (Aq _) rfl
def fMct :List AVal→Option (AVal×Bool)
 | [.agg [.fn a [],.fn b [],.fn c []],a1,.int .i64 x2]=>match axOf a b c,asL R6 a1 with
  | some q,some (L1,g1,n1)=>some (.tup [.dat (Xx q L1 x2).length (Zz (Xx q L1 x2)),.int .i64 (Kk q L1 x2)],isT R6 n1 g1&&(z2n q L1 x2))
  | _,_=>none
 | _=>none
theorem j8h {S:Specs} (hS:Zu prog S):Zu prog (S.with nMCut fMct):=by
 refine z0f hS (by kernel_rfl) fun args v h=> ?_;unfold fMct at h;split at h
 ·rename_i a b c a1 x2;split at h
  ·rename_i q L1 g1 n1 eq e1;simp only [Ad,Ac,Ae] at h;obtain ⟨rfl,ho1,hw⟩:=h;obtain ⟨rfl,rfl,rfl⟩:=v9j eq;obtain ⟨N,hN⟩:=j6b q L1 x2 hw;exact ⟨_,_,(.cons (.refl _) (.cons (Yh e1 ho1) (.cons (.refl _) .nil))),rfl,u3x q L1 x2 N _ hN,3,rfl⟩
  ·cases h
 ·cases h
def Mb :Specs:=Ma.with nMCut fMct
theorem v9v :Zu prog Mb:=j8h w4k
inductive mfcS where
def mfcC (q:Ax) (l1:List R6) (x2:Int) (x3:Bool):mfcS→Cfg
 :=nofun
def x3m (q:Ax) (l1:List R6) (x2:Int) (x3:Bool):mfcS→Xw mfcS
 :=nofun
def z3l (q:Ax) (l1:List R6) (x2:Int) (x3:Bool):Xw mfcS:=(bif (z2n q (cvT l1) (wrap .i64 (x2 - 1))) then (bif (z2n q (cvT l1) x2) then (bif ((Kk q (cvT l1) (wrap .i64 (x2 - 1))) != 0) then (.ret [.nils,(.int .i64 (Kk q (cvT l1) (wrap .i64 (x2 - 1))))]) else (bif ((Kk q (cvT l1) x2) != 0) then (.ret [.nils,(.int .i64 (Kk q (cvT l1) x2))]) else (bif x3 then (bif (Vi .d (cvT (Xx q (cvT l1) (wrap .i64 (x2 - 1)))) (cvT (Xx q (cvT l1) x2))) then (.ret [(.dat (Xc .d (cvT (Xx q (cvT l1) (wrap .i64 (x2 - 1)))) (cvT (Xx q (cvT l1) x2))).length (Zz (Xc .d (cvT (Xx q (cvT l1) (wrap .i64 (x2 - 1)))) (cvT (Xx q (cvT l1) x2))))),(.int .i64 (Jc .d (cvT (Xx q (cvT l1) (wrap .i64 (x2 - 1)))) (cvT (Xx q (cvT l1) x2))))]) else .stuck) else (bif (Vi .d (cvT (Xx q (cvT l1) x2)) (cvT (Xx q (cvT l1) (wrap .i64 (x2 - 1))))) then (.ret [(.dat (Xc .d (cvT (Xx q (cvT l1) x2)) (cvT (Xx q (cvT l1) (wrap .i64 (x2 - 1))))).length (Zz (Xc .d (cvT (Xx q (cvT l1) x2)) (cvT (Xx q (cvT l1) (wrap .i64 (x2 - 1))))))),(.int .i64 (Jc .d (cvT (Xx q (cvT l1) x2)) (cvT (Xx q (cvT l1) (wrap .i64 (x2 - 1))))))]) else .stuck)))) else .stuck) else .stuck)
theorem w9s (q:Ax) (l1:List R6) (x2:Int) (x3:Bool): ∀s,Yt prog (Zy prog 100) (mfcC q l1 x2 x3) (mfcC q l1 x2 x3 s) (x3m q l1 x2 x3 s)
 :=nofun
theorem w1g (q:Ax) (l1:List R6) (x2:Int) (x3:Bool):Yt prog (Zy prog 100) (mfcC q l1 x2 x3) (Zg prog 100 [(.agg [(.fn (nV1 q) []),(.fn (nV2 q) []),(.fn (nV3 q) [])]),(.dat l1.length (Zz l1)),(.int .i64 x2),(.bool x3)] true []) (z3l q l1 x2 x3):=by cases q <;> refine (?f: ∀q:Ax,Yt prog (Zy prog 100) (mfcC q l1 x2 x3) (Zg prog 100 [(.agg [(.fn (nV1 q) []),(.fn (nV2 q) []),(.fn (nV3 q) [])]),(.dat l1.length (Zz l1)),(.int .i64 x2),(.bool x3)] true []) (z3l q l1 x2 x3)) _ <;> exact fun q=>(lo fun bV=>(lo fun dF=>(lb (fun k0=>(lr 50 100 [1,1,1,0,1,0,0] 1 50 [(8,.nils),(9,(ii (Kk q (cvT l1) (wr (x2 - 1)))))] (sl v9v 96 [] ⟨[],[],[some [8,9]],[]⟩ ⟨[],[],[]⟩ (trs 5 []) (tt k0 (tt k0 (pp (pp (pp nn (pp nn (pp nn nn))) (pp (xr l1) (xw dF))) (pp (pp (pp nn (pp nn (pp nn nn))) (pp (xr l1) (xw bV))) nn))))))) (fun k0=>(lb (fun k1=>(lr 50 100 [1,1,1,0,1,0,0] 1 50 [(8,.nils),(9,(ii (Kk q (cvT l1) x2)))] (sl v9v 125 [] ⟨[],[],[some [8,9]],[]⟩ ⟨[],[],[]⟩ [false,false,true,true,false,true,true] (tt k1 (tt k0 (tt k1 (tt k0 (pp (pp (pp nn (pp nn (pp nn nn))) (pp (xr l1) (xw dF))) (pp (pp (pp nn (pp nn (pp nn nn))) (pp (xr l1) (xw bV))) nn))))))))) (fun k1=>(lb (fun k2=>(lo fun o0=>(lr 50 100 [1,1,1,1,0,1,0,0] 1 50 [(8,(.dat (Xc .d (cvT (Xx q (cvT l1) (wr (x2 - 1)))) (cvT (Xx q (cvT l1) x2))).length (Zz (Xc .d (cvT (Xx q (cvT l1) (wr (x2 - 1)))) (cvT (Xx q (cvT l1) x2)))))),(9,(ii (Jc .d (cvT (Xx q (cvT l1) (wr (x2 - 1)))) (cvT (Xx q (cvT l1) x2)))))] (sl v9v 59 [] ⟨[],[],[some [8,9]],[]⟩ ⟨[],[],[]⟩ [false,false,false,true] (pp (pp (xI R4 (Xx q (cvT l1) (wr (x2 - 1))).length (Zz (Xx q (cvT l1) (wr (x2 - 1))))) (pp (xI R4 (Xx q (cvT l1) x2).length (Zz (Xx q (cvT l1) x2))) (xw o0))) (tt k2 (tt k1 (tt k0 (pp (pp (pp nn (pp nn (pp nn nn))) (pp (xr l1) (xw dF))) (pp (pp (pp nn (pp nn (pp nn nn))) (pp (xr l1) (xw bV))) nn)))))))))) (fun k2=>(lo fun o0=>(lr 50 3 [1,1,1,1,0] 1 50 [(8,(.dat (Xc .d (cvT (Xx q (cvT l1) x2)) (cvT (Xx q (cvT l1) (wr (x2 - 1))))).length (Zz (Xc .d (cvT (Xx q (cvT l1) x2)) (cvT (Xx q (cvT l1) (wr (x2 - 1)))))))),(9,(ii (Jc .d (cvT (Xx q (cvT l1) x2)) (cvT (Xx q (cvT l1) (wr (x2 - 1)))))))] (sl v9v 60 [] ⟨[],[],[some [8,9]],[]⟩ ⟨[],[],[]⟩ [false,false,false,false] (pp (pp (xI R4 (Xx q (cvT l1) x2).length (Zz (Xx q (cvT l1) x2))) (pp (xI R4 (Xx q (cvT l1) (wr (x2 - 1))).length (Zz (Xx q (cvT l1) (wr (x2 - 1))))) (xw o0))) (tt k2 (tt k1 (tt k0 (pp (pp (pp nn (pp nn (pp nn nn))) (pp (xr l1) (xw dF))) (pp (pp (pp nn (pp nn (pp nn nn))) (pp (xr l1) (xw bV))) nn)))))))))))))))))
theorem u3u (q:Ax) (l1:List R6) (x2:Int) (x3:Bool) (n:Nat) (vs:List AVal) (h:Zr (x3m q l1 x2 x3) n (z3l q l1 x2 x3)=.ret vs):Jy prog (Zy prog 100) (Zg prog 100 [(.agg [(.fn (nV1 q) []),(.fn (nV2 q) []),(.fn (nV3 q) [])]),(.dat l1.length (Zz l1)),(.int .i64 x2),(.bool x3)] true []) vs:=by have:=Zd (w9s q l1 x2 x3) n _ (w1g q l1 x2 x3);rwa [h] at this
def v2g (q:Ax) (L:List R6) (p:Int):Int:=bif Kk q L (wrap .i64 (p - 1)) != 0 then Kk q L (wrap .i64 (p - 1)) else Kk q L p
def Kj (q:Ax) (L:List R6) (p:Int) (s:Bool):Int:=bif v2g q L p != 0 then v2g q L p else
 bif s then rgE .d (Xx q L (wrap .i64 (p - 1))) (Xx q L p) else rgE .d (Xx q L p) (Xx q L (wrap .i64 (p - 1)))
def Ji (q:Ax) (L:List R6) (p:Int) (s:Bool):List R4:=bif v2g q L p != 0 then [] else
 bif s then Xc .d (Xx q L (wrap .i64 (p - 1))) (Xx q L p) else Xc .d (Xx q L p) (Xx q L (wrap .i64 (p - 1)))
def z5d (q:Ax) (L:List R6) (p:Int) (s:Bool):Bool:=decide (L.length≤400)
theorem j5z (q:Ax) (L:List R6) (p:Int) (s:Bool) (h:z5d q L p s=true): ∃n vs,Zr (x3m q L p s) n (z3l q L p s)=.ret vs∧
  ∀(ρ:Rho) (u:Value),Yx ρ (Ku vs) u→Yx ρ (.tup [.dat (Ji q L p s).length (Zz (Ji q L p s)),.int .i64 (Kj q L p s)]) u:=by
 have o: ∀x,z2n q L x=true:=fun _=>h;unfold z3l;simp only [Zc,o,show∀a b,Vi .d a b=true from fun _ _=>rfl,Ab];rcases Yp (Kk q L (wrap .i64 (p - 1)) != 0) with q1 | q1
 ·refine ⟨0,_,by rw [q1,Ab];rfl,?_⟩;have e:v2g q L p=Kk q L (wrap .i64 (p - 1)):=by unfold v2g;rw [q1];rfl
  unfold Ji Kj;rw [e,q1,Ab,Ab];exact fun ρ u hu=>z6m (.cons (.nild _) (.cons (.refl _) .nil)) ρ u hu
 rcases Yp (Kk q L p != 0) with q2 | q2
 ·refine ⟨0,_,by rw [q1,q2,Aa,Ab];rfl,?_⟩;have e:v2g q L p=Kk q L p:=by unfold v2g;rw [q1];rfl
  unfold Ji Kj;rw [e,q2,Ab,Ab];exact fun ρ u hu=>z6m (.cons (.nild _) (.cons (.refl _) .nil)) ρ u hu
 have e:(v2g q L p != 0)=false:=by unfold v2g;rw [q1,Aa];exact q2
 cases s with
 | true=>refine ⟨0,_,by rw [q1,q2,Aa,Aa,Ab];rfl,?_⟩;unfold Ji Kj;rw [e];exact fun ρ u hu=>hu
 | false=>refine ⟨0,_,by rw [q1,q2,Aa,Aa,Aa];rfl,?_⟩;unfold Ji Kj;rw [e];exact fun ρ u hu=>hu
def fMfc :List AVal→Option (AVal×Bool)
 | [.agg [.fn a [],.fn b [],.fn c []],a1,.int .i64 x2,.bool s]=>match axOf a b c,asL R6 a1 with
  | some q,some (L1,g1,n1)=>some (.tup [.dat (Ji q L1 x2 s).length (Zz (Ji q L1 x2 s)),.int .i64 (Kj q L1 x2 s)],isT R6 n1 g1&&(z5d q L1 x2 s))
  | _,_=>none
 | _=>none
theorem mfc_pf (q:Ax) (L:List R6) (p:Int) (s:Bool) (n:Nat) (vs:List AVal) (h:Zr (x3m q L p s) n (z3l q L p s)=.ret vs) (ho:z5d q L p s=true): ∃d,pf d (Ku vs)=true:=by
 have o: ∀x,z2n q L x=true:=fun _=>ho;unfold z3l at h;simp only [Zc,o,show∀a b,Vi .d a b=true from fun _ _=>rfl,Ab] at h;cases h1:(Kk q L (wrap .i64 (p - 1)) != 0) <;> rw [h1] at h <;> simp only [Ab,Aa] at h
 ·cases h2:(Kk q L p != 0) <;> rw [h2] at h <;> simp only [Ab,Aa] at h
  ·cases s <;> simp only [Ab,Aa,Zp] at h <;> obtain rfl:=Xw.ret.inj h <;> exact ⟨3,rfl⟩
  ·rw [Zp] at h;obtain rfl:=Xw.ret.inj h;exact ⟨3,rfl⟩
 ·rw [Zp] at h;obtain rfl:=Xw.ret.inj h;exact ⟨3,rfl⟩
theorem j8f {S:Specs} (hS:Zu prog S):Zu prog (S.with v6n fMfc):=by
 refine w6t hS (by kernel_rfl) fun args v h=> ?_;unfold fMfc at h;split at h
 ·rename_i a b c a1 x2 s;split at h
  ·rename_i q L1 g1 n1 eq e1;simp only [Ad,Ac,Ae] at h;obtain ⟨rfl,ho1,hw⟩:=h;obtain ⟨rfl,rfl,rfl⟩:=v9j eq;obtain ⟨N,vs,hN,hv⟩:=j5z q L1 x2 s hw;exact ⟨_,vs,(.cons (.refl _) (.cons (Yh e1 ho1) (.cons (.refl _) (.cons (.refl _) .nil)))),hv,u3u q L1 x2 s N _ hN,mfc_pf q L1 x2 s N vs hN hw⟩
  ·cases h
 ·cases h
def Mc :Specs:=Mb.with v6n fMfc
theorem y1x :Zu prog Mc:=j8f v9v
inductive mmdS where
 | h0 (q:Ax) (s:Bool) (v5:List Int) (v10:Int) (aC:List R7) (aP:List R7)
 | h1 (q:Ax) (s:Bool) (bN:Nat) (v6:Int) (v7:Int) (aC:List R7) (aP:List R7) (aE:List Int)
 | h2 (q:Ax) (s:Bool) (v8:Int) (v37:List R4) (v38:Int) (v39:Int) (bH:Nat) (bZ:Int) (cA:Int) (aC:List R7) (aP:List R7) (aE:List Int)
def j0z (q:Ax) (s:Bool):AFr:=⟨⟨75,0,true⟩,none,(.inRangeFunc 0::(Zb prog 65 [1,1,0,1,0,0,1,1,0,0,1,1,0,0,1,1,0,0,1,1,0] 1)),none,(Zy prog 65),Yg [(1,(.ptr 1 0)),(2,(.ptr 2 0)),(3,(.ptr 4 0)),(4,(.ptr 5 0)),(5,(.ptr 7 0)),(6,(.ptr 8 0)),(13,(.agg [(.fn 137 []),(.fn 138 []),(.fn 139 []),(.fn 140 []),(.fn 141 []),(.fn 142 []),(.fn 143 []),(.fn 144 []),(.fn 145 [])])),(14,(ii q.ix)),(18,(ii (sdI s)))]⟩
def w6a (q:Ax):ABlk:=⟨[(.fn (nV1 q) []),(.fn (nV2 q) []),(.fn (nV3 q) [])],135,none⟩
def j0y :=(Wt prog 65 [1,1,0,1,0,0,1,1,0,0,1,1,0,0,1,1,0,0,1,1,0,0])
def j0x :=(Wt prog 65 [1,1,0,1,0,0,1,1,0,0,1,1,0,0,1,1,0,0,1,1,0,1])
def y1c (l0:List R6):mmdS→Cfg
 | .h0 q s v5 v10 aC aP=>⟨⟨33,0,true⟩,none,(Zb prog 99 [1,1,0,1,0,0] 0),none,(Zy prog 6),⟨Yg [(2,(.ptr 0 0)),(5,(.sla 10 1 0 v5.length (.un 1))),(8,(.dat l0.length (Zz l0))),(9,(ii (l0.length:Int))),(10,(ii v10))],Vj [(w6a q),⟨[(.dat l0.length (Zz l0))],33,none⟩,⟨[(.sla 3 7 0 aC.length (.un 7))],38,none⟩,⟨Ym aC.length (Zz aC),96,some ⟨7,aC.length,(Zz aC)⟩⟩,⟨[(ii 0)],24,none⟩,⟨[(.sla 6 7 0 aP.length (.un 7))],38,none⟩,⟨Ym aP.length (Zz aP),96,some ⟨7,aP.length,(Zz aP)⟩⟩,⟨[(ii q.ix)],3,none⟩,(w6a q),⟨[(ii (sdI s))],3,none⟩,⟨Ym v5.length (Zz v5),3,some ⟨1,v5.length,(Zz v5)⟩⟩] 0,11,[],true⟩,[⟨⟨75,0,true⟩,(Vm prog 65 [1,1,0,1,0,0,1,1,0,0,1,1,0,0,1,1,0,0,1,0] 2),(Zb prog 65 [1,1,0,1,0,0,1,1,0,0,1,1,0,0,1,1,0,0,1,0] 1),none,(Zy prog 65),Yg [(1,(.ptr 1 0)),(2,(.ptr 2 0)),(3,(.ptr 4 0)),(4,(.ptr 5 0)),(5,(.ptr 7 0)),(6,(.ptr 8 0)),(7,(.ptr 9 0)),(13,(.agg [(.fn 137 []),(.fn 138 []),(.fn 139 []),(.fn 140 []),(.fn 141 []),(.fn 142 []),(.fn 143 []),(.fn 144 []),(.fn 145 [])])),(14,(ii q.ix)),(18,(ii (sdI s))),(21,(.agg [(.fn (nV1 q) []),(.fn (nV2 q) []),(.fn (nV3 q) [])])),(22,(.dat l0.length (Zz l0)))]⟩],.leaf⟩
 | .h1 q s bN v6 v7 aC aP aE=>⟨⟨16,0,true⟩,none,(Zb prog 152 [1,0,0] 0),none,[],⟨Yg [(0,(.yld 0)),(5,(.sla 10 1 0 bN (.un 1))),(6,(ii v6)),(7,(ii v7))],z6q [(1,⟨[(.dat l0.length (Zz l0))],33,none⟩),(2,⟨[(.sla 3 7 0 aC.length (.un 7))],38,none⟩),(3,⟨Ym aC.length (Zz aC),96,some ⟨7,aC.length,(Zz aC)⟩⟩),(4,⟨[(ii 0)],24,none⟩),(5,⟨[(.sla 6 7 0 aP.length (.un 7))],38,none⟩),(6,⟨Ym aP.length (Zz aP),96,some ⟨7,aP.length,(Zz aP)⟩⟩),(7,⟨[(ii q.ix)],3,none⟩),(8,(w6a q)),(9,⟨[(ii (sdI s))],3,none⟩),(10,⟨Ym aE.length (Zz aE),3,some ⟨1,aE.length,(Zz aE)⟩⟩)],11,[],true⟩,[(j0z q s)],(y2m [(0,⟨.ready,none,75,Yg [(1,(.ptr 1 0)),(2,(.ptr 2 0)),(3,(.ptr 4 0)),(4,(.ptr 5 0)),(5,(.ptr 7 0)),(6,(.ptr 8 0)),(7,(.ptr 9 0))],[24],j0y,j0x⟩)])⟩
 | .h2 q s v8 v37 v38 v39 bH bZ cA aC aP aE=>⟨⟨75,0,true⟩,none,(Zb prog 65 [1,1,0,1,0,0,1,1,0,0,1,1,0,0,1,1,0,0,1,1,0,1,0,1,1,1,0,0] 0),(some 0),[],⟨Yg [(4,(.ptr 5 0)),(5,(.ptr 7 0)),(6,(.ptr 8 0)),(7,(.ptr 9 0)),(8,(ii v8)),(37,(.dat v37.length (Zz v37))),(38,(ii v38)),(39,(ii v39))],z6q [(1,⟨[(.dat l0.length (Zz l0))],33,none⟩),(2,⟨[(.sla 3 7 0 aC.length (.un 7))],38,none⟩),(3,⟨Ym aC.length (Zz aC),96,some ⟨7,aC.length,(Zz aC)⟩⟩),(4,⟨[(ii 0)],24,none⟩),(5,⟨[(.sla 6 7 0 aP.length (.un 7))],38,none⟩),(6,⟨Ym aP.length (Zz aP),96,some ⟨7,aP.length,(Zz aP)⟩⟩),(7,⟨[(ii q.ix)],3,none⟩),(8,(w6a q)),(9,⟨[(ii (sdI s))],3,none⟩),(10,⟨Ym aE.length (Zz aE),3,some ⟨1,aE.length,(Zz aE)⟩⟩)],11,[],true⟩,[⟨⟨16,0,true⟩,(Vm prog 152 [1,0,0,1,1,0,0,1,0] 2),(Zb prog 152 [1,0,0,1,1,0,0,1,0] 1),none,[],Yg [(0,(.yld 0)),(5,(.sla 10 1 0 bH (.un 1))),(6,(ii bZ)),(7,(ii cA)),(11,(.yld 0)),(12,(ii v8))]⟩,(j0z q s)],(y2m [(0,⟨.busy,none,75,Yg [(1,(.ptr 1 0)),(2,(.ptr 2 0)),(3,(.ptr 4 0)),(4,(.ptr 5 0)),(5,(.ptr 7 0)),(6,(.ptr 8 0)),(7,(.ptr 9 0))],[24],j0y,j0x⟩)])⟩
def v6r :List (Option (List Nat)):=[some [2,5,8,9,10],some [1,2,3,4,5,6,7,13,14,18,21,22]]
def v6s :List (Option (List Nat)):=[]
def mmdN1 :List (Option (List Nat)):=[some [0,5,6,7],some [1,2,3,4,5,6,13,14,18]]
def mmdM1 :List (Option (List Nat)):=[some [1,2,3,4,5,6,7],none,none,none,none,none,none,none,none,none,none]
def mmdN2 :List (Option (List Nat)):=[some [4,5,6,7,8,37,38,39],some [0,5,6,7,11,12],some [1,2,3,4,5,6,13,14,18]]
def mmdM2 :List (Option (List Nat)):=[some [1,2,3,4,5,6,7],none,none,none,none,none,none,none,none,none,none]
def v6t (q:Ax) (s:Bool) (aC:List R7) (aP:List R7):Xw mmdS:=match q,s with
 | q,true=>(.to (.h0 q false ([]:List Int) 0 aC aP))
 | .x,false=>(.to (.h0 .y true ([]:List Int) 0 aC aP))
 | .y,false=>(.to (.h0 .z true ([]:List Int) 0 aC aP))
 | .z,false=>(bif (decide ((aP.length:Int)>3000)) then (.ret [.nils,(.int .i64 4)]) else (.ret [(.dat aP.length (Zz aP)),(.int .i64 0)]))
def Xd (l0:List R6):mmdS→Xw mmdS
 | .h0 q s v5 v10 aC aP=>(bif (decide (v10<(l0.length:Int))) then (bif ((decide (0≤v10∧v10<(l0.length:Int)))&&true) then (bif (Nat.beq 1 1&&((decide (0+v5.length=v5.length))&&decide ((v5.length+2+1)*(8+1)≤room))) then (.to (.h0 q s (v5++[(q.lo (rd l0 v10.toNat)),(q.hi (rd l0 v10.toNat))]) (wrap .i64 (v10+1)) aC aP)) else .stuck) else .stuck) else (bif (decide (v5.length<4611686018427387904)) then (bif (decide (v5.length=v5.length)) then (.to (.h1 q s (v1h (Yu v5.length (cOf (Zz (Xp (Yu v5.length (cOf (Zz v5)))))))) (((v1h (Yu v5.length (cOf (Zz (Xp (Yu v5.length (cOf (Zz v5)))))))):Nat):Int) 0 aC aP (Wu (Yu v5.length (cOf (Zz (Xp (Yu v5.length (cOf (Zz v5)))))))))) else .stuck) else .stuck))
 | .h2 q s v8 v37 v38 v39 bH bZ cA aC aP aE=>(bif (decide (v39<v38)) then (bif ((decide (0≤v39∧v39<(v37.length:Int)))&&true) then (bif (Nat.beq 7 7&&((decide (0+aP.length=aP.length))&&decide ((aP.length+1+1)*(56+1)≤room))) then (.to (.h2 q s v8 v37 v38 (wrap .i64 (v39+1)) bH bZ cA aC (aP++[(qd q s v8 (rd v37 v39.toNat))]) aE)) else .stuck) else .stuck) else (.to (.h1 q s bH bZ (wrap .i64 (cA+1)) aC aP aE)))
 | .h1 q s bN v6 v7 aC aP aE=>(bif (decide (v7<v6)) then (bif ((decide (0≤v7∧v7<((bN:Nat):Int)))&&true) then (bif (decide ((0+v7.toNat)<aE.length)) then (bif (z5d q (cvT l0) (rd aE (0+v7.toNat)) s) then (bif ((Kj q (cvT l0) (rd aE (0+v7.toNat)) s) != 0) then (.ret [.nils,(.int .i64 (Kj q (cvT l0) (rd aE (0+v7.toNat)) s))]) else (.to (.h2 q s (rd aE (0+v7.toNat)) (Ji q (cvT l0) (rd aE (0+v7.toNat)) s) (((Ji q (cvT l0) (rd aE (0+v7.toNat)) s).length :Nat):Int) 0 bN v6 v7 aC aP aE))) else .stuck) else .stuck) else .stuck) else (v6t q s aC aP))
def x3l (l0:List R6):Xw mmdS:=(.to (.h0 .x true ([]:List Int) 0 ([]:List R7) ([]:List R7)))
theorem j5y (l0:List R6) (q:Ax) (bN:Nat) (v6:Int) (v7:Int) (aC:List R7) (aP:List R7) (aE:List Int) (k0:(decide (v7<v6))=false):Yt prog (Zy prog 65) (y1c l0) (y1c l0 (.h1 q true bN v6 v7 aC aP aE)) (v6t q true aC aP):=by cases q <;> refine (?f: ∀q:Ax,Yt prog (Zy prog 65) (y1c l0) (y1c l0 (.h1 q true bN v6 v7 aC aP aE)) (v6t q true aC aP)) _ <;> exact fun q=>(sl y1x 54 [(3,1,Zz ([]:List Int))] ⟨[12,1,2,3,4,5,6,7,8,11,13],[],v6r,v6s⟩ ⟨[(5,.grow 10 1)],[],[]⟩ [false,true] (pp (fl aC (fl aP (fl ([]:List Int) nn))) (tt k0 nn)))
theorem j5x (l0:List R6) (bN:Nat) (v6:Int) (v7:Int) (aC:List R7) (aP:List R7) (aE:List Int) (k0:(decide (v7<v6))=false):Yt prog (Zy prog 65) (y1c l0) (y1c l0 (.h1 .x false bN v6 v7 aC aP aE)) (v6t .x false aC aP):=(sl y1x 91 [(3,1,Zz ([]:List Int))] ⟨[14,1,2,3,4,5,6,11,12,13,15],[],v6r,v6s⟩ ⟨[(5,.grow 10 1)],[],[]⟩ [false,false,true,true,false,true] (pp (fl aC (fl aP (fl ([]:List Int) nn))) (tt k0 nn)))
theorem j5w (l0:List R6) (bN:Nat) (v6:Int) (v7:Int) (aC:List R7) (aP:List R7) (aE:List Int) (k0:(decide (v7<v6))=false):Yt prog (Zy prog 65) (y1c l0) (y1c l0 (.h1 .y false bN v6 v7 aC aP aE)) (v6t .y false aC aP):=(sl y1x 91 [(3,1,Zz ([]:List Int))] ⟨[14,1,2,3,4,5,6,11,12,13,15],[],v6r,v6s⟩ ⟨[(5,.grow 10 1)],[],[]⟩ [false,false,true,true,true,false,true] (pp (fl aC (fl aP (fl ([]:List Int) nn))) (tt k0 nn)))
theorem j5v (l0:List R6) (bN:Nat) (v6:Int) (v7:Int) (aC:List R7) (aP:List R7) (aE:List Int) (k0:(decide (v7<v6))=false):Yt prog (Zy prog 65) (y1c l0) (y1c l0 (.h1 .z false bN v6 v7 aC aP aE)) (v6t .z false aC aP):=(lb (fun k1=>(Kf ⟨⟨75,0,true⟩,none,(Zb prog 65 [1,1,1,0,1,0,0] 1),none,(Zy prog 65),⟨Yg [(2,(.ptr 0 0)),(3,(.ptr 1 0))],Vj [⟨[.nils],38,none⟩,⟨[(ii 4)],24,none⟩] 0,2,[],true⟩,[],.leaf⟩ (sl y1x 49 [] ⟨[2,4],[],[some [2,3]],[]⟩ ⟨[],[],[]⟩ [false,false,false,true] (tt k1 (tt k0 nn))) rfl (by kernel_rfl))) (fun k1=>(Kf ⟨⟨75,0,true⟩,none,(Zb prog 3 [1,1,1,1,0] 1),none,(Zy prog 65),⟨Yg [(2,(.ptr 0 0)),(3,(.ptr 1 0))],Vj [⟨[(.dat aP.length (Zz aP))],38,none⟩,⟨[(ii 0)],24,none⟩] 0,2,[],true⟩,[],.leaf⟩ (sl y1x 51 [] ⟨[2,4],[6],[some [2,3]],[]⟩ ⟨[],[.cells [.frz aP.length aP.length (Zz aP) (Zz aP)],.keep],[]⟩ [false,false,false,false] (pp (xZ (z6e 7 7 0 aP.length aP.length (Zz aP)) aP.length (Zz aP)) (pp (xL aP.length aP.length) (pp (xS aP.length (Zz aP) (Zz aP)) (pp (fl aP nn) (tt k1 (tt k0 nn))))))) rfl (by kernel_rfl))))
theorem mmd_ex (l0:List R6) (q:Ax) (s:Bool) (bN:Nat) (v6:Int) (v7:Int) (aC:List R7) (aP:List R7) (aE:List Int) (k0:(decide (v7<v6))=false):Yt prog (Zy prog 65) (y1c l0) (y1c l0 (.h1 q s bN v6 v7 aC aP aE)) (v6t q s aC aP):=match q,s with
 | q,true=>j5y l0 q bN v6 v7 aC aP aE k0
 | .x,false=>j5x l0 bN v6 v7 aC aP aE k0
 | .y,false=>j5w l0 bN v6 v7 aC aP aE k0
 | .z,false=>j5v l0 bN v6 v7 aC aP aE k0
theorem mmd_s0 (q:Ax) (s:Bool) (l0:List R6) (v5:List Int) (v10:Int) (aC:List R7) (aP:List R7):Yt prog (Zy prog 65) (y1c l0) (y1c l0 (.h0 q s v5 v10 aC aP)) (Xd l0 (.h0 q s v5 v10 aC aP)):=by cases q <;> cases s <;> refine (?f: ∀(q:Ax) (s:Bool),Yt prog (Zy prog 65) (y1c l0) (y1c l0 (.h0 q s v5 v10 aC aP)) (Xd l0 (.h0 q s v5 v10 aC aP))) _ _ <;> exact fun q s=>(lb (fun k0=>(lo fun o0=>(lo fun o1=>(sl y1x 23 [] ⟨[0,1,2,3,4,5,6,7,8,9,15],[],v6r,v6s⟩ ⟨[(5,.len (v5++[(q.lo (rd l0 (tn v10))),(q.hi (rd l0 (tn v10)))]).length)],(kpB 10 [.rowed 1 (v5++[(q.lo (rd l0 (tn v10))),(q.hi (rd l0 (tn v10)))]).length (Zz (v5++[(q.lo (rd l0 (tn v10))),(q.hi (rd l0 (tn v10)))]))]),[]⟩ [true] (pp (xL (v5.length+2) (v5++[(q.lo (rd l0 (tn v10))),(q.hi (rd l0 (tn v10)))]).length) (pp (xL (v5.length+2) (v5++[(q.lo (rd l0 (tn v10))),(q.hi (rd l0 (tn v10)))]).length) (pp (xS (v5.length+2) (Zo (Zz v5) 0 v5.length 1 [(ii (q.lo (rd l0 (tn v10)))),(ii (q.hi (rd l0 (tn v10))))]) (Zz (v5++[(q.lo (rd l0 (tn v10))),(q.hi (rd l0 (tn v10)))]))) (pp (fl aC (fl aP (pp (xF (Zo (Zz v5) 0 v5.length 1 [(ii (q.lo (rd l0 (tn v10)))),(ii (q.hi (rd l0 (tn v10))))])) nn))) (ww o1 (ww o0 (tt k0 nn))))))))))) (fun k0=>(lo fun o0=>(lo fun o1=>(sl y1x 42 [] ⟨[12,1,2,3,4,5,6,7,8,9,10],[],mmdN1,mmdM1⟩ ⟨[],(kpB 10 [.rowed 1 (Wu (Yu v5.length (cOf (Zz (Xp (Yu v5.length (cOf (Zz v5)))))))).length (Zz (Wu (Yu v5.length (cOf (Zz (Xp (Yu v5.length (cOf (Zz v5)))))))))]),[]⟩ [false] (pp (xL v5.length (Wu (Yu v5.length (cOf (Zz (Xp (Yu v5.length (cOf (Zz v5)))))))).length (by first | exact z0z _ _ | exact Uy rfl)) (pp (xS v5.length (Zz (Wu (Yu v5.length (cOf (Zz (Xp (Yu v5.length (cOf (Zz v5))))))))) (Zz (Wu (Yu v5.length (cOf (Zz (Xp (Yu v5.length (cOf (Zz v5)))))))))) (pp (fl aC (fl aP (fl (Wu (Yu v5.length (cOf (Zz (Xp (Yu v5.length (cOf (Zz v5)))))))) nn))) (pp (pp (xG (Nat.beq 1 1)) (pp (xG (Nat.beq 1 1)) (pp (xG (Nat.beq 0 0)) (pp (xG (decide (v5.length=v5.length))) (pp (xG (isI (Zz (Xp (Yu v5.length (cOf (Zz v5))))))) (xG (decide (v5.length<4611686018427387904)))))))) (pp (pp (xG (Nat.beq 1 1)) (pp (xG (Nat.beq 1 1)) (pp (xG (Nat.beq 0 0)) (pp (xG (decide (v5.length=v5.length))) (pp (xG (isI (Zz v5))) (xG (decide (v5.length<4611686018427387904)))))))) (tt k0 nn)))))))))))
theorem mmd_s1 (q:Ax) (s:Bool) (l0:List R6) (bN:Nat) (v6:Int) (v7:Int) (aC:List R7) (aP:List R7) (aE:List Int):Yt prog (Zy prog 65) (y1c l0) (y1c l0 (.h1 q s bN v6 v7 aC aP aE)) (Xd l0 (.h1 q s bN v6 v7 aC aP aE)):=by cases q <;> cases s <;> refine (?f: ∀(q:Ax) (s:Bool),Yt prog (Zy prog 65) (y1c l0) (y1c l0 (.h1 q s bN v6 v7 aC aP aE)) (Xd l0 (.h1 q s bN v6 v7 aC aP aE))) _ _ <;> exact fun q s=>(lb (fun k0=>(lo fun aJ=>(lo fun bC=>(lo fun cK=>(lb (fun k1=>(Kf ⟨⟨75,0,true⟩,none,(.code .ret ::(Zb prog 65 [1,1,0,1,0,0,1,1,0,0,1,1,0,0,1,1,0,0,1,1,0] 1)),none,(Zy prog 65),⟨Yg [(2,(.ptr 0 0)),(3,(.ptr 1 0))],Vj [⟨[.nils],38,none⟩,⟨[(ii (Kj q (cvT l0) (rd aE (0+(tn v7))) s))],24,none⟩] 0,2,[],true⟩,[],.leaf⟩ (sl y1x 58 [] ⟨[2,4],[],[some [2,3]],[]⟩ ⟨[],[],[]⟩ (trs 3 []) (tt k1 (pp (pp (pp nn (pp nn (pp nn (pp nn nn)))) (pp (xr l0) (xw cK))) (ww bC (ww aJ (tt k0 nn)))))) rfl (by kernel_rfl))) (fun k1=>(sl y1x 55 [] ⟨(List.range 11),[],mmdN2,mmdM2⟩ ⟨[],[],[]⟩ [true,false] (pp (fl aC (fl aP (fl aE nn))) (tt k1 (pp (pp (pp nn (pp nn (pp nn (pp nn nn)))) (pp (xr l0) (xw cK))) (ww bC (ww aJ (tt k0 nn))))))))))))) (fun k0=>mmd_ex l0 q s bN v6 v7 aC aP aE k0))
theorem mmd_s2 (q:Ax) (s:Bool) (l0:List R6) (v8:Int) (v37:List R4) (v38:Int) (v39:Int) (bH:Nat) (bZ:Int) (cA:Int) (aC:List R7) (aP:List R7) (aE:List Int):Yt prog (Zy prog 65) (y1c l0) (y1c l0 (.h2 q s v8 v37 v38 v39 bH bZ cA aC aP aE)) (Xd l0 (.h2 q s v8 v37 v38 v39 bH bZ cA aC aP aE)):=by cases q <;> cases s <;> refine (?f: ∀(q:Ax) (s:Bool),Yt prog (Zy prog 65) (y1c l0) (y1c l0 (.h2 q s v8 v37 v38 v39 bH bZ cA aC aP aE)) (Xd l0 (.h2 q s v8 v37 v38 v39 bH bZ cA aC aP aE))) _ _ <;> exact fun q s=>(lb (fun k0=>(lo fun o0=>(lo fun o1=>(sl y1x 23 [] ⟨[0,1,2,3,4,5,15,7,8,9,10],[],mmdN2,mmdM2⟩ ⟨[],(kpB 5 [.cells [.len (aP++[(qd q s v8 (rd v37 (tn v39)))]).length],.rowed 7 (aP++[(qd q s v8 (rd v37 (tn v39)))]).length (Zz (aP++[(qd q s v8 (rd v37 (tn v39)))])),.keep,.keep,.keep,.keep]),[]⟩ [true] (pp (xL (aP.length+1) (aP++[(qd q s v8 (rd v37 (tn v39)))]).length) (pp (xL (aP.length+1) (aP++[(qd q s v8 (rd v37 (tn v39)))]).length) (pp (xS (aP.length+1) (Zo (Zz aP) 0 aP.length 7 (Xq.cells (qd q s v8 (rd v37 (tn v39))))) (Zz (aP++[(qd q s v8 (rd v37 (tn v39)))]))) (pp (fl aC (pp (xF (Zo (Zz aP) 0 aP.length 7 (Xq.cells (qd q s v8 (rd v37 (tn v39)))))) (fl aE nn))) (ww o1 (ww o0 (tt k0 nn))))))))))) (fun k0=>(sl y1x 19 [] ⟨(List.range 11),[],mmdN1,mmdM1⟩ ⟨[],[],[]⟩ [false,false] (pp (fl aC (fl aP (fl aE nn))) (tt k0 nn)))))
theorem w9r (l0:List R6): ∀s,Yt prog (Zy prog 65) (y1c l0) (y1c l0 s) (Xd l0 s)
 | .h0 q s v5 v10 aC aP=>mmd_s0 q s l0 v5 v10 aC aP
 | .h1 q s bN v6 v7 aC aP aE=>mmd_s1 q s l0 bN v6 v7 aC aP aE
 | .h2 q s v8 v37 v38 v39 bH bZ cA aC aP aE=>mmd_s2 q s l0 v8 v37 v38 v39 bH bZ cA aC aP aE
theorem w1f (l0:List R6):Yt prog (Zy prog 65) (y1c l0) (Zg prog 65 [(.dat l0.length (Zz l0))] true []) (x3l l0):=(sl y1x 93 [(96,7,Zz ([]:List R7)),(96,7,Zz ([]:List R7)),(3,1,Zz ([]:List Int))] ⟨[8,0,1,9,2,3,10,5,6,7,11],[],v6r,v6s⟩ ⟨[(5,.grow 10 1)],[.keep,.keep,.cells [.grow 3 7],.keep,.keep,.cells [.grow 6 7],.keep,.keep,.keep,.keep,.keep],[]⟩ [true,false,true] (pp (fl ([]:List R7) (fl ([]:List R7) (fl ([]:List Int) nn))) nn))
theorem u3t (l0:List R6) (n:Nat) (vs:List AVal) (h:Zr (Xd l0) n (x3l l0)=.ret vs):Jy prog (Zy prog 65) (Zg prog 65 [(.dat l0.length (Zz l0))] true []) vs:=by have:=Zd (w9r l0) n _ (w1f l0);rwa [h] at this
theorem rgE_le {q:Op} {a b:List R4}:(Xc q a b).length ≤400:=by
 unfold Xc y8o;cases g:(rgE q a b != 0) with
 | true=>exact AC _
 | false=>
  rw [Aa];have h:rgE q a b=0:=by simpa using g
  unfold rgE at h;cases g1:(y0s a != 0) with
  | true=>rw [g1,Ab] at h;rw [h] at g1;cases g1
  | false=>
   cases g2:(y0s b != 0) with
   | true=>rw [g1,g2,Aa,Ab] at h;rw [h] at g2;cases g2
   | false=>
    rw [g1,g2,Aa,Aa] at h;unfold eJ at h;revert h;generalize y7o (rgA q a b) _ _ _=e;intro h;cases g3:(e != 0) with
    | true=>rw [g3,Ab] at h;rw [h] at g3;cases g3
    | false=>rw [g3,Aa] at h;exact z6h h
theorem v6u (q:Ax) (L:List R6) (p:Int) (s:Bool):(Ji q L p s).length ≤400:=by
 unfold Ji;cases (v2g q L p != 0) with
 | true=>exact AC _
 | false=>cases s <;> exact rgE_le
def u5m (E:Int→Int):List Int→Int
 | []=>0
 | p::r=>bif E p != 0 then E p else u5m E r
def y0d (q:Ax) (s:Bool) (L:List R6):Int:=u5m (fun p=>Kj q L p s) (plQ q L)
def u0e (q:Ax) (s:Bool) (L:List R6) (ps:List Int):List R7:=ps.flatMap fun p=>(Ji q L p s).map (qd q s p)
theorem y7t (q:Ax) (s:Bool) (L:List R6): ∀ps,(u0e q s L ps).length ≤400*ps.length
 | []=>Aq _
 | p::ps=>by have:=y7t q s L ps;have h:=v6u q L p s;show ((Ji q L p s).map (qd q s p)++u0e q s L ps).length ≤_;rw [AH,Bi,Bb];omega
section
variable (L:List R6) (hL:L.length≤400)
include hL
theorem j0w (q:Ax) (s:Bool) (v2 out:List R7): ∀(k i:Nat) (acc:List Int),i+k=L.length→acc=z4i q (L.take i)→
  ∃n,∀N,Zr (Xd L) (N+n) (.to (.h0 q s acc (i:Int) v2 out))=Zr (Xd L) N (.to (.h1 q s (plQ q L).length ((plQ q L).length :Int) 0 v2 out (Wu (Xp (z4i q L)))))
 | 0,i,acc,h,h'=>by
  have e:acc=z4i q L:=by rw [h',A6 (by omega)]
  subst e;have hle:=z1u q L;refine ⟨1,fun N=> ?_⟩;rw [Zw];simp (disch:=omega) only [Xd,Jj,Qv,z7t,Yf,Yv,Yj,Ao,Ab,Aa];rfl
 | k+1,i,acc,h,h'=>by
  have hle:acc.length≤2*i:=by rw [h',z1u,List.length_take];omega
  obtain ⟨n,hn⟩:=j0w q s v2 out k (i+1) (acc++z4i q [rd L i]) (by omega) (by
   rw [h',AY];have:L[i]? =some (rd L i):=by rw [Yo (show i<L.length by omega)];exact Au _
   rw [this];simp [z4i])
  refine ⟨n+1,fun N=> ?_⟩;rw [←Ay,Zw,←hn N];simp (disch:=omega) only [Xd,Zc,Zq,Yz,Zt,Yc,Yv,Yj,Zf,Zk,Zx,Yd,Zj,Af,Ao,Ah,Aj,Ab,Aa];rfl
theorem j0u (q:Ax) (s:Bool) (p:Int) (R:List R4) (hR:R.length≤400) (n5:Nat) (v6 v7:Int) (v2:List R7) (P:List Int): ∀(k j:Nat) (out:List R7),j+k=R.length→out.length≤10000000+j→
  ∃n,∀N,Zr (Xd L) (N+n) (.to (.h2 q s p R (R.length:Int) (j:Int) n5 v6 v7 v2 out P))=Zr (Xd L) N (.to (.h1 q s n5 v6 (wrap .i64 (v7+1)) v2 (out++(R.drop j).map (qd q s p)) P))
 | 0,j,out,h,h'=>by have _u:=hL;refine ⟨1,fun N=> ?_⟩;rw [Ar (by omega),Bx,AD,Zw];simp (disch:=omega) only [Xd,Yf,Aa]
 | k+1,j,out,h,h'=>by
  have hj:j<R.length:=by omega
  obtain ⟨n,hn⟩:=j0u q s p R hR n5 v6 v7 v2 P k (j+1) (out++[qd q s p (rd R j)]) (by omega) (by simp only [AH,List.length_singleton];omega);refine ⟨n+1,fun N=> ?_⟩;rw [Yq hj,AU,←Ay,Zw,show out++qd q s p (rd R j)::(R.drop (j+1)).map (qd q s p)=(out++[qd q s p (rd R j)])++(R.drop (j+1)).map (qd q s p) by simp,←hn N];simp (disch:=omega) only [Xd,Zc,Zq,Yz,Zt,Yc,Yv,Yj,Zf,Zk,Zx,Yd,Zj,Af,Ao,Ah,Aj,Ab,Aa]
theorem j0v (q:Ax) (s:Bool) (v2:List R7): ∀(k i:Nat) (out:List R7),i+k=(plQ q L).length →out.length+400*k≤8000000→
  (u5m (fun p=>Kj q L p s) ((plQ q L).drop i)=0→ ∃n,∀N,Zr (Xd L) (N+n) (.to (.h1 q s (plQ q L).length ((plQ q L).length :Int) (i:Int) v2 out (Wu (Xp (z4i q L)))))=Zr (Xd L) N (v6t q s v2 (out++u0e q s L ((plQ q L).drop i))))∧
  ((u5m (fun p=>Kj q L p s) ((plQ q L).drop i) != 0)=true→ ∃n,∀N,Zr (Xd L) (N+n) (.to (.h1 q s (plQ q L).length ((plQ q L).length :Int) (i:Int) v2 out (Wu (Xp (z4i q L)))))=.ret [.nils,.int .i64 (u5m (fun p=>Kj q L p s) ((plQ q L).drop i))])
 | 0,i,out,h,h'=>by have _u:=hL;rw [Ar (show (plQ q L).length ≤i by omega)];refine ⟨fun _=>⟨1,fun N=> ?_⟩,fun e=>by cases e⟩;rw [show u0e q s L []=[] from rfl,AD,Zw];simp (disch:=omega) only [Xd,Yf,Aa]
 | k+1,i,out,h,h'=>by
  have hi:i<(plQ q L).length :=by omega
  have hp:=y0x q L;have hpl:(Wu (Xp (z4i q L))).length =2*L.length:=by rw [Vf,Vy,z1u]
  have r0:rd (Wu (Xp (z4i q L))) i=rd (plQ q L) i:=z5a _ _ hi;have o:z5d q L (rd (plQ q L) i) s=true:=An hL;rw [Yq hi];have eE:u5m (fun p=>Kj q L p s) (rd (plQ q L) i::(plQ q L).drop (i+1))=bif Kj q L (rd (plQ q L) i) s != 0 then Kj q L (rd (plQ q L) i) s else u5m (fun p=>Kj q L p s) ((plQ q L).drop (i+1)):=rfl;have eM:u0e q s L (rd (plQ q L) i::(plQ q L).drop (i+1))=(Ji q L (rd (plQ q L) i) s).map (qd q s (rd (plQ q L) i))++u0e q s L ((plQ q L).drop (i+1)):=rfl;rw [eE,eM];rcases Yp (Kj q L (rd (plQ q L) i) s != 0) with z | z
  ·rw [z,Ab];refine ⟨fun e=>(by rw [e] at z;cases z),fun _=>⟨1,fun N=> ?_⟩⟩;rw [Zw];simp (disch:=omega) only [Xd,r0,o,z,Zc,Zq,Yz,Zt,Yv,Zj,Af,Ao,Ah,Aj,Ab,Aa,Zp]
  ·rw [z,Aa];have hm:=v6u q L (rd (plQ q L) i) s;obtain ⟨n2,h2⟩:=j0u L hL q s (rd (plQ q L) i) (Ji q L (rd (plQ q L) i) s) hm (plQ q L).length ((plQ q L).length :Int) (i:Int) v2 (Wu (Xp (z4i q L))) (Ji q L (rd (plQ q L) i) s).length 0 out (Af _) (by omega);rw [AT] at h2;obtain ⟨a1,a2⟩:=j0v q s v2 k (i+1) (out++(Ji q L (rd (plQ q L) i) s).map (qd q s (rd (plQ q L) i))) (by omega) (by rw [AH,Bi];omega);have ew:wrap .i64 ((i:Int)+1)=((i+1:Nat):Int):=by rw [Zk (by omega)];exact Zx i
   have st: ∀N,Zr (Xd L) (N+n2+1) (.to (.h1 q s (plQ q L).length ((plQ q L).length :Int) (i:Int) v2 out (Wu (Xp (z4i q L)))))=Zr (Xd L) N (.to (.h1 q s (plQ q L).length ((plQ q L).length :Int) ((i+1:Nat):Int) v2 (out++(Ji q L (rd (plQ q L) i) s).map (qd q s (rd (plQ q L) i))) (Wu (Xp (z4i q L))))):=fun N=>by rw [←ew,←h2 N,Zw];simp (disch:=omega) only [Xd,r0,o,z,Zc,Zq,Yz,Zt,Yv,Zj,Af,Ao,Ah,Aj,Ab,Aa];rfl
   refine ⟨fun e=> ?_,fun e=> ?_⟩
   ·obtain ⟨n,hn⟩:=a1 e;refine ⟨n+n2+1,fun N=> ?_⟩;rw [←AJ,←hn N,←st (N+n),Ay N,Ay N,Ay n]
   ·obtain ⟨n,hn⟩:=a2 e;refine ⟨n+n2+1,fun N=> ?_⟩;rw [←hn N,←st (N+n),Ay N,Ay N,Ay n]
theorem y1b (q:Ax) (s:Bool) (v2 out:List R7) (ho:out.length≤2000000):
  (y0d q s L=0→ ∃n,∀N,Zr (Xd L) (N+n) (.to (.h0 q s [] 0 v2 out))=Zr (Xd L) N (v6t q s v2 (out++u0e q s L (plQ q L))))∧
  ((y0d q s L != 0)=true→ ∃n,∀N,Zr (Xd L) (N+n) (.to (.h0 q s [] 0 v2 out))=.ret [.nils,.int .i64 (y0d q s L)]):=by
 have hp:=y0x q L;obtain ⟨n0,h0⟩:=j0w L hL q s v2 out L.length 0 [] (Af _) rfl;obtain ⟨a1,a2⟩:=j0v L hL q s v2 (plQ q L).length 0 out (Af _) (by omega);rw [AT] at a1 a2;refine ⟨fun e=> ?_,fun e=> ?_⟩
 ·obtain ⟨n,hn⟩:=a1 e;exact ⟨n+n0,fun N=>by rw [←Ay];exact (h0 (N+n)).trans (hn N)⟩
 ·obtain ⟨n,hn⟩:=a2 e;exact ⟨n+n0,fun N=>by rw [←Ay];exact (h0 (N+n)).trans (hn N)⟩
end
def dM (q:Ax) (s:Bool) (L:List R6):List R7:=u0e q s L (plQ q L)
def x8a (L:List R6):List R7:=dM .x true L++dM .x false L++dM .y true L++dM .y false L++dM .z true L++dM .z false L
def mmdZ (L:List R6):Int:=bif y0d .x true L != 0 then y0d .x true L else bif y0d .x false L != 0 then y0d .x false L else bif y0d .y true L != 0 then y0d .y true L else
 bif y0d .y false L != 0 then y0d .y false L else bif y0d .z true L != 0 then y0d .z true L else bif y0d .z false L != 0 then y0d .z false L else bif decide (((x8a L).length :Int)>3000) then 4 else 0
def y2k (L:List R6):List R7:=y8o (mmdZ L) (x8a L)
def y6v (L:List R6):Int:=mmdZ L
def z9a (L:List R6):Bool:=decide (L.length≤400)
theorem z5n (q:Ax) (s:Bool) {L:List R6} (h:L.length≤400):(dM q s L).length ≤320000:=by have h1:=y7t q s L (plQ q L);have h2:=y0x q L;unfold dM;omega
theorem j5u (L:List R6) (h:z9a L=true): ∃n,Zr (Xd L) n (x3l L)=.ret (z7y (y6v L) (x8a L)):=by
 have hL:L.length≤400:=Aw h;have l1:=z5n .x true hL;have l2:=z5n .x false hL;have l3:=z5n .y true hL;have l4:=z5n .y false hL;have l5:=z5n .z true hL;have d1:=y1b L hL .x true [] [] (AC _);have d2:=y1b L hL .x false [] (dM .x true L) (by omega);have d3:=y1b L hL .y true [] (dM .x true L++dM .x false L) (by simp only [AH];omega);have d4:=y1b L hL .y false [] (dM .x true L++dM .x false L++dM .y true L) (by simp only [AH];omega);have d5:=y1b L hL .z true [] (dM .x true L++dM .x false L++dM .y true L++dM .y false L) (by simp only [AH];omega);have d6:=y1b L hL .z false [] (dM .x true L++dM .x false L++dM .y true L++dM .y false L++dM .z true L) (by simp only [AH];omega);have go: ∀(q:Ax) (s:Bool) (out:List R7) (V:List AVal),((y0d q s L=0→ ∃n,∀N,Zr (Xd L) (N+n) (.to (.h0 q s [] 0 [] out))=Zr (Xd L) N (v6t q s [] (out++u0e q s L (plQ q L))))∧
   ((y0d q s L != 0)=true→ ∃n,∀N,Zr (Xd L) (N+n) (.to (.h0 q s [] 0 [] out))=.ret [.nils,.int .i64 (y0d q s L)]))→
   (∃n,Zr (Xd L) n (v6t q s [] (out++dM q s L))=.ret V)→ ∃n,Zr (Xd L) n (.to (.h0 q s [] 0 [] out))=.ret (bif y0d q s L != 0 then [.nils,.int .i64 (y0d q s L)] else V):=fun q s out V d ⟨n,hn⟩=>by
  rcases Yp (y0d q s L != 0) with z | z
  ·obtain ⟨m,hm⟩:=d.2 z;refine ⟨0+m,?_⟩;rw [hm 0,z,Ab]
  ·obtain ⟨m,hm⟩:=d.1 (by simpa using z);refine ⟨n+m,?_⟩;rw [hm n,z,Aa];exact hn
 have e6:=go .z false _ (bif decide (((x8a L).length :Int)>3000) then [.nils,.int .i64 4] else [.dat (x8a L).length (Zz (x8a L)),.int .i64 0]) d6 ⟨0,by
  show Zr (Xd L) 0 (bif decide (((x8a L).length :Int)>3000) then _ else _)=_;cases decide (((x8a L).length :Int)>3000) <;> rfl⟩
 obtain ⟨n,hn⟩:=go .x true _ _ d1 (go .x false _ _ d2 (go .y true _ _ d3 (go .y false _ _ d4 (go .z true _ _ d5 e6))));refine ⟨n,hn.trans ?_⟩;unfold z7y y6v mmdZ
 congr 1
 cases z1:(y0d .x true L != 0) with
 | true=>simp only [z1,Ab]
 | false=>cases z2:(y0d .x false L != 0) with
  | true=>simp only [z2,Ab,Aa]
  | false=>cases z3:(y0d .y true L != 0) with
   | true=>simp only [z3,Ab,Aa]
   | false=>cases z4:(y0d .y false L != 0) with
    | true=>simp only [z4,Ab,Aa]
    | false=>cases z5:(y0d .z true L != 0) with
     | true=>simp only [z5,Ab,Aa]
     | false=>cases z6:(y0d .z false L != 0) with
      | true=>simp only [z6,Ab,Aa]
      | false=>cases z7:decide (((x8a L).length :Int)>3000) <;> rfl
def fMmd :List AVal→Option (AVal×Bool)
 | [a0]=>match asL R6 a0 with
  | some (L0,g0,n0)=>some (.tup [.dat (y2k L0).length (Zz (y2k L0)),.int .i64 (y6v L0)],isT R6 n0 g0&&(z9a L0))
  | _=>none
 | _=>none
theorem j8e {S:Specs} (hS:Zu prog S):Zu prog (S.with j0m fMmd):=by
 refine w6t hS (by kernel_rfl) fun args v h=> ?_;unfold fMmd at h;split at h
 ·rename_i a0;split at h
  ·rename_i L0 g0 n0 e0;simp only [Ad,Ac,Ae] at h;obtain ⟨rfl,ho0,hw⟩:=h;obtain ⟨N,hN⟩:=j5u L0 hw;exact ⟨_,_,(.cons (Yh e0 ho0) .nil),z0i _ _,u3t L0 N _ hN,3,z4y _ _⟩
  ·cases h
 ·cases h
def Md :Specs:=Mc.with j0m fMmd
theorem Md_ok :Zu prog Md:=j8e y1x
inductive mofS where
def mofC (l0:List R6):mofS→Cfg
 :=nofun
def w1d (l0:List R6):mofS→Xw mofS
 :=nofun
def y4p (l0:List R6):Xw mofS:=(bif (Vx (cvT l0)) then (bif ((Zn (cvT l0)) != 0) then (.ret [.nils,(.int .i64 (Zn (cvT l0)))]) else (bif (z9a (cvT l0)) then (.ret [(.dat (y2k (cvT l0)).length (Zz (y2k (cvT l0)))),(.int .i64 (y6v (cvT l0)))]) else .stuck)) else .stuck)
theorem w9q (l0:List R6): ∀s,Yt prog (Zy prog 32) (mofC l0) (mofC l0 s) (w1d l0 s)
 :=nofun
theorem w1e (l0:List R6):Yt prog (Zy prog 32) (mofC l0) (Zg prog 32 [(.dat l0.length (Zz l0))] true []) (y4p l0):=(lo fun bV=>(lb (fun k0=>(lr 14 32 [1,0,1,1,0,0] 1 14 [(2,.nils),(3,(ii (Zn (cvT l0))))] (sl Md_ok 24 [] ⟨[],[],[some [2,3]],[]⟩ ⟨[],[],[]⟩ [true] (tt k0 (pp (pp (xr l0) (xw bV)) nn))))) (fun k0=>(lo fun o0=>(lr 14 3 [1,1,1,1,0] 1 14 [(2,(.dat (y2k (cvT l0)).length (Zz (y2k (cvT l0))))),(3,(ii (y6v (cvT l0))))] (sl Md_ok 28 [] ⟨[],[],[some [2,3]],[]⟩ ⟨[],[],[]⟩ [false] (pp (pp (xr l0) (xw o0)) (tt k0 (pp (pp (xr l0) (xw bV)) nn)))))))))
theorem u3s (l0:List R6) (n:Nat) (vs:List AVal) (h:Zr (w1d l0) n (y4p l0)=.ret vs):Jy prog (Zy prog 32) (Zg prog 32 [(.dat l0.length (Zz l0))] true []) vs:=by have:=Zd (w9q l0) n _ (w1e l0);rwa [h] at this
def Kt (L:List R6):List R7:=bif Zn L != 0 then [] else y2k L
def y2j (L:List R6):Int:=bif Zn L != 0 then Zn L else y6v L
def z8z (L:List R6):Bool:=true
theorem j5t (L:List R6): ∃n vs,Zr (w1d L) n (y4p L)=.ret vs∧(∀(ρ:Rho) (u:Value),Yx ρ (Ku vs) u→Yx ρ (.tup [.dat (Kt L).length (Zz (Kt L)),.int .i64 (y2j L)]) u)∧ ∃d,pf d (Ku vs)=true:=by
 unfold y4p;simp only [Zc,show∀l,Vx l=true from fun _=>rfl,Ab];rcases Yp (Zn L != 0) with q1 | q1
 ·refine ⟨0,_,by rw [q1,Ab];rfl,?_,3,rfl⟩;unfold Kt y2j;rw [q1,Ab,Ab];exact fun ρ u hu=>z6m (.cons (.nild _) (.cons (.refl _) .nil)) ρ u hu
 ·have o:z9a L=true:=An (Vh (by simpa using q1)).1;refine ⟨0,_,by rw [q1,o,Aa,Ab];rfl,?_,3,rfl⟩;unfold Kt y2j;rw [q1,Aa,Aa];exact fun ρ u hu=>hu
def fMof :List AVal→Option (AVal×Bool)
 | [a0]=>match asL R6 a0 with
  | some (L0,g0,n0)=>some (.tup [.dat (Kt L0).length (Zz (Kt L0)),.int .i64 (y2j L0)],isT R6 n0 g0&&(z8z L0))
  | _=>none
 | _=>none
theorem j8d {S:Specs} (hS:Zu prog S):Zu prog (S.with nMOf fMof):=by
 refine w6t hS (by kernel_rfl) fun args v h=> ?_;unfold fMof at h;split at h
 ·rename_i a0;split at h
  ·rename_i L0 g0 n0 e0;simp only [Ad,Ac,Ae] at h;obtain ⟨rfl,ho0,hw⟩:=h;obtain ⟨N,vs,hN,hv,hp⟩:=j5t L0;exact ⟨_,vs,(.cons (Yh e0 ho0) .nil),hv,u3s L0 N _ hN,hp⟩
  ·cases h
 ·cases h
def W5 :Specs:=((W2.with v6q fAl4).with nFit4 fFit).with nMOf fMof
theorem z5p :Zu prog W5:=j8d (j8q (j8x z1d))
inductive lalS where
 | h0 (v10:List Pa) (v11:Int)
def lalC (l0:List Pa) (x1:Int):lalS→Cfg
 | .h0 v10 v11=>⟨⟨148,0,true⟩,none,(Zb prog 6 [1,1,1,1,1,1,1,0,1,0,0] 0),none,(Zy prog 6),⟨Yg [(0,(.dat l0.length (Zz l0))),(1,(ii x1)),(5,(.bool true)),(10,(.sla 0 7 0 v10.length (.un 7))),(11,(ii v11))],Vj [⟨Ym v10.length (Zz v10),59,some ⟨7,v10.length,(Zz v10)⟩⟩] 0,1,[],true⟩,[],.leaf⟩
def lalN0 :List (Option (List Nat)):=[some [0,1,5,10,11]]
def lalM0 :List (Option (List Nat)):=[]
def z5f (l0:List Pa) (x1:Int):lalS→Xw lalS
 | .h0 v10 v11=>(bif (decide (v11≥0)) then (bif ((decide (0≤v11∧v11<(l0.length:Int)))&&true) then (bif (Nat.beq 7 7&&((decide (0+v10.length=v10.length))&&decide ((v10.length+1+1)*(72+1)≤room))) then (.to (.h0 (v10++[(Pa.mk (rd l0 v11.toNat).a (rd l0 v11.toNat).b (rd l0 v11.toNat).c (rd l0 v11.toNat).d (rd l0 v11.toNat).e (rd l0 v11.toNat).f (rd l0 v11.toNat).s)]) (wrap .i64 (v11 - 1)))) else .stuck) else .stuck) else (bif (Jw (cvT l0) x1) then (bif (Jw (cvT v10) (wrap .i64 ((wrap .i64 ((l0.length:Int) - 1)) - x1))) then (bif (Qa (cvT l0)) then (bif (Qa (cvT v10)) then (bif ((Vz (cvT l0) x1) != 0) then (bif ((Vz (cvT l0) x1) == 4) then (bif ((Vz (cvT v10) (wrap .i64 ((wrap .i64 ((l0.length:Int) - 1)) - x1))) == 0) then (.ret [(.bool true)]) else (.ret [(.bool ((Vz (cvT v10) (wrap .i64 ((wrap .i64 ((l0.length:Int) - 1)) - x1))) == 4))])) else (.ret [(.bool false)])) else (bif ((Vz (cvT v10) (wrap .i64 ((wrap .i64 ((l0.length:Int) - 1)) - x1))) != 0) then (.ret [(.bool ((Vz (cvT v10) (wrap .i64 ((wrap .i64 ((l0.length:Int) - 1)) - x1))) == 4))]) else (bif ((Kb (cvT l0)) != 0) then (.ret [(.bool true)]) else (bif ((Kb (cvT v10)) != 0) then (.ret [(.bool true)]) else (bif (Kd (cvT (Yr (cvT l0) x1)) (cvT (Yr (cvT v10) (wrap .i64 ((wrap .i64 ((l0.length:Int) - 1)) - x1))))) then (bif (u1u (cvT (Yr (cvT l0) x1)) (cvT (Yr (cvT v10) (wrap .i64 ((wrap .i64 ((l0.length:Int) - 1)) - x1))))) then (bif (Vw (cvT (Xr (cvT l0))) (cvT (Xr (cvT v10)))) then (.ret [(.bool (Jf (cvT (Xr (cvT l0))) (cvT (Xr (cvT v10)))))]) else .stuck) else (.ret [(.bool false)])) else .stuck))))) else .stuck) else .stuck) else .stuck) else .stuck))
def y4v (l0:List Pa) (x1:Int):Xw lalS:=(bif (z9j (cvT l0)) then (bif (!(v7x (cvT l0))) then (.ret [(.bool true)]) else (bif (decide (x1<0)) then (.ret [(.bool true)]) else (bif (decide (x1≥(l0.length:Int))) then (.ret [(.bool true)]) else (bif ((decide (0≤x1∧x1<(l0.length:Int)))&&true) then (bif (Jw (cvT ([(Pa.mk (rd l0 x1.toNat).a (rd l0 x1.toNat).b (rd l0 x1.toNat).c (rd l0 x1.toNat).d (rd l0 x1.toNat).e (rd l0 x1.toNat).f (rd l0 x1.toNat).s)]:List Pa)) 0) then (bif (z8z (cvT (rd l0 x1.toNat).s)) then (bif ((Vz (cvT ([(Pa.mk (rd l0 x1.toNat).a (rd l0 x1.toNat).b (rd l0 x1.toNat).c (rd l0 x1.toNat).d (rd l0 x1.toNat).e (rd l0 x1.toNat).f (rd l0 x1.toNat).s)]:List Pa)) 0) != (y2j (cvT (rd l0 x1.toNat).s))) then (.ret [(.bool false)]) else (bif (Kd (cvT (Yr (cvT ([(Pa.mk (rd l0 x1.toNat).a (rd l0 x1.toNat).b (rd l0 x1.toNat).c (rd l0 x1.toNat).d (rd l0 x1.toNat).e (rd l0 x1.toNat).f (rd l0 x1.toNat).s)]:List Pa)) 0)) (cvT (Kt (cvT (rd l0 x1.toNat).s)))) then (bif (!(u1u (cvT (Yr (cvT ([(Pa.mk (rd l0 x1.toNat).a (rd l0 x1.toNat).b (rd l0 x1.toNat).c (rd l0 x1.toNat).d (rd l0 x1.toNat).e (rd l0 x1.toNat).f (rd l0 x1.toNat).s)]:List Pa)) 0)) (cvT (Kt (cvT (rd l0 x1.toNat).s))))) then (.ret [(.bool false)]) else (.to (.h0 ([]:List Pa) (wrap .i64 ((l0.length:Int) - 1))))) else .stuck)) else .stuck) else .stuck) else .stuck)))) else .stuck)
theorem v0j (l0:List Pa) (x1:Int): ∀s,Yt prog (Zy prog 6) (lalC l0 x1) (lalC l0 x1 s) (z5f l0 x1 s)
 | .h0 v10 v11=>(lb (fun k0=>(lo fun o0=>(lo fun o1=>(sl z5p 27 [] ⟨[2],[],lalN0,lalM0⟩ ⟨[(10,.len (v10++[(Pa.mk (rd l0 (tn v11)).a (rd l0 (tn v11)).b (rd l0 (tn v11)).c (rd l0 (tn v11)).d (rd l0 (tn v11)).e (rd l0 (tn v11)).f (rd l0 (tn v11)).s)]).length)],[.rowed 7 (v10++[(Pa.mk (rd l0 (tn v11)).a (rd l0 (tn v11)).b (rd l0 (tn v11)).c (rd l0 (tn v11)).d (rd l0 (tn v11)).e (rd l0 (tn v11)).f (rd l0 (tn v11)).s)]).length (Zz (v10++[(Pa.mk (rd l0 (tn v11)).a (rd l0 (tn v11)).b (rd l0 (tn v11)).c (rd l0 (tn v11)).d (rd l0 (tn v11)).e (rd l0 (tn v11)).f (rd l0 (tn v11)).s)]))],[]⟩ [true] (pp (xL (v10.length+1) (v10++[(Pa.mk (rd l0 (tn v11)).a (rd l0 (tn v11)).b (rd l0 (tn v11)).c (rd l0 (tn v11)).d (rd l0 (tn v11)).e (rd l0 (tn v11)).f (rd l0 (tn v11)).s)]).length) (pp (xL (v10.length+1) (v10++[(Pa.mk (rd l0 (tn v11)).a (rd l0 (tn v11)).b (rd l0 (tn v11)).c (rd l0 (tn v11)).d (rd l0 (tn v11)).e (rd l0 (tn v11)).f (rd l0 (tn v11)).s)]).length) (pp (xS (v10.length+1) (Zo (Zz v10) 0 v10.length 7 [(ii (rd l0 (tn v11)).a),(ii (rd l0 (tn v11)).b),(ii (rd l0 (tn v11)).c),(ii (rd l0 (tn v11)).d),(ii (rd l0 (tn v11)).e),(ii (rd l0 (tn v11)).f),(.dat (rd l0 (tn v11)).s.length (Zz (rd l0 (tn v11)).s))]) (Zz (v10++[(Pa.mk (rd l0 (tn v11)).a (rd l0 (tn v11)).b (rd l0 (tn v11)).c (rd l0 (tn v11)).d (rd l0 (tn v11)).e (rd l0 (tn v11)).f (rd l0 (tn v11)).s)]))) (pp (pp (xF (Zo (Zz v10) 0 v10.length 7 [(ii (rd l0 (tn v11)).a),(ii (rd l0 (tn v11)).b),(ii (rd l0 (tn v11)).c),(ii (rd l0 (tn v11)).d),(ii (rd l0 (tn v11)).e),(ii (rd l0 (tn v11)).f),(.dat (rd l0 (tn v11)).s.length (Zz (rd l0 (tn v11)).s))])) nn) (ww o1 (ww o0 (tt k0 nn))))))))))) (fun k0=>(lo fun q1_0=>(Xa (sl z5p (C':=⟨⟨148,0,true⟩,(Vm prog 6 [1,1,1,1,1,1,1,1,1,0] 6),(Zb prog 6 [1,1,1,1,1,1,1,1,1,0] 1),none,(Zy prog 6),⟨Yg [(0,(.dat l0.length (Zz l0))),(5,(.bool true)),(10,(.dat v10.length (Zz v10))),(12,(.dat (Yr (cvT l0) x1).length (Zz (Yr (cvT l0) x1)))),(13,(ii (Vz (cvT l0) x1))),(87,(.dat v10.length (Zz v10))),(92,(ii (wr ((wr ((l0.length:Int) - 1)) - x1))))],Vj [] 0,0,[],true⟩,[],.leaf⟩) 27 [] ⟨[],[0],[some [0,5,10,12,13,87,92]],[]⟩ ⟨[(10,.frz v10.length v10.length (Zz v10) (Zz v10)),(87,.frz v10.length v10.length (Zz v10) (Zz v10))],[],[]⟩ [false] (pp (xZ (z6e 7 7 0 v10.length v10.length (Zz v10)) v10.length (Zz v10)) (pp (xL v10.length v10.length) (pp (xS v10.length (Zz v10) (Zz v10)) (pp (xZ (z6e 7 7 0 v10.length v10.length (Zz v10)) v10.length (Zz v10)) (pp (xL v10.length v10.length) (pp (xS v10.length (Zz v10) (Zz v10)) (pp (fl v10 nn) (pp (pp (xr l0) (xw q1_0)) (tt k0 nn)))))))))) (lo fun aJ=>(lo fun bC=>(lo fun cK=>(lb (fun k1=>(lb (fun k2=>(lb (fun k3=>(lr 148 6 [1,1,1,1,1,1,1,1,1,1,1,1,0,1,0,0] 1 6 [(4,(.bool true))] (sl z5p 67 [] ⟨[],[],[some [4]],[]⟩ ⟨[],[],[]⟩ (trs 10 (bl 9 508)) (tt k3 (tt k2 (yt (u5z k1) (tt k1 (pp (pp (xr v10) (xw cK)) (pp (pp (xr l0) (xw bC)) (pp (pp (xr v10) (xw aJ)) nn)))))))))) (fun k3=>(lr 148 6 [1,1,1,1,1,1,1,1,1,1,1,1,0,1,0,0] 1 6 [(4,(.bool ((Vz (cvT v10) (wr ((wr ((l0.length:Int) - 1)) - x1))) == 4)))] (sl z5p 67 [] ⟨[],[],[some [4]],[]⟩ ⟨[],[],[]⟩ (trs 10 (bl 9 316)) (tt k3 (tt k2 (yt (u5z k1) (tt k1 (pp (pp (xr v10) (xw cK)) (pp (pp (xr l0) (xw bC)) (pp (pp (xr v10) (xw aJ)) nn)))))))))))) (fun k2=>(lr 148 6 [1,1,1,1,1,1,1,1,1,1,1,1,0,1,0,0] 1 6 [(4,(.bool false))] (sl z5p 67 [] ⟨[],[],[some [4]],[]⟩ ⟨[],[],[]⟩ (trs 10 (bl 7 4)) (tt k2 (yt (u5z k1) (tt k1 (pp (pp (xr v10) (xw cK)) (pp (pp (xr l0) (xw bC)) (pp (pp (xr v10) (xw aJ)) nn))))))))))) (fun k1=>(lb (fun k2=>(lr 148 6 [1,1,1,1,1,1,1,1,1,1,1,1,0,1,0,0] 1 6 [(4,(.bool ((Vz (cvT v10) (wr ((wr ((l0.length:Int) - 1)) - x1))) == 4)))] (sl z5p 67 [] ⟨[],[],[some [4]],[]⟩ ⟨[],[],[]⟩ (bl 19 327676) (yt (u5z k2) (yt (v9i k1) (tt k2 (tt k1 (pp (pp (xr v10) (xw cK)) (pp (pp (xr l0) (xw bC)) (pp (pp (xr v10) (xw aJ)) nn)))))))))) (fun k2=>(lb (fun k3=>(lr 148 6 [1,1,1,1,1,1,1,1,1,1,1,1,0,1,0,0] 1 6 [(4,(.bool true))] (sl z5p 67 [] ⟨[],[],[some [4]],[]⟩ ⟨[],[],[]⟩ (bl 19 524272) (yt (v9i k2) (yt (v9i k1) (tt k3 (tt k2 (tt k1 (pp (pp (xr v10) (xw cK)) (pp (pp (xr l0) (xw bC)) (pp (pp (xr v10) (xw aJ)) nn))))))))))) (fun k3=>(lb (fun k4=>(lr 148 6 [1,1,1,1,1,1,1,1,1,1,1,1,0,1,0,0] 1 6 [(4,(.bool true))] (sl z5p 67 [] ⟨[],[],[some [4]],[]⟩ ⟨[],[],[]⟩ (bl 19 524224) (yt (v9i k2) (yt (v9i k1) (tt k4 (tt k3 (tt k2 (tt k1 (pp (pp (xr v10) (xw cK)) (pp (pp (xr l0) (xw bC)) (pp (pp (xr v10) (xw aJ)) nn)))))))))))) (fun k4=>(lo fun cT=>(lb (fun k5=>(lo fun o0=>(lr 148 3 [1,1,1,1,0] 1 6 [(4,(.bool (Jf (cvT (Xr (cvT l0))) (cvT (Xr (cvT v10))))))] (sl z5p 62 [] ⟨[],[],[some [4]],[]⟩ ⟨[],[],[]⟩ (bl 13 8064) (pp (pp (xI R6 (Xr (cvT l0)).length (Zz (Xr (cvT l0)))) (pp (xI R6 (Xr (cvT v10)).length (Zz (Xr (cvT v10)))) (xw o0))) (tt k5 (pp (pp (xI R7 (Yr (cvT l0) x1).length (Zz (Yr (cvT l0) x1))) (pp (xI R7 (Yr (cvT v10) (wr ((wr ((l0.length:Int) - 1)) - x1))).length (Zz (Yr (cvT v10) (wr ((wr ((l0.length:Int) - 1)) - x1))))) (xw cT))) (tt k4 (tt k3 (tt k2 (tt k1 (pp (pp (xr v10) (xw cK)) (pp (pp (xr l0) (xw bC)) (pp (pp (xr v10) (xw aJ)) nn)))))))))))))) (fun k5=>(lr 148 3 [1,1,1,1,0] 1 6 [(4,(.bool false))] (sl z5p 62 [] ⟨[],[],[some [4]],[]⟩ ⟨[],[],[]⟩ (bl 13 896) (tt k5 (pp (pp (xI R7 (Yr (cvT l0) x1).length (Zz (Yr (cvT l0) x1))) (pp (xI R7 (Yr (cvT v10) (wr ((wr ((l0.length:Int) - 1)) - x1))).length (Zz (Yr (cvT v10) (wr ((wr ((l0.length:Int) - 1)) - x1))))) (xw cT))) (tt k4 (tt k3 (tt k2 (tt k1 (pp (pp (xr v10) (xw cK)) (pp (pp (xr l0) (xw bC)) (pp (pp (xr v10) (xw aJ)) nn)))))))))))))))))))))))))))))
theorem w1v (l0:List Pa) (x1:Int):Yt prog (Zy prog 6) (lalC l0 x1) (Zg prog 6 [(.dat l0.length (Zz l0)),(.int .i64 x1)] true []) (y4v l0 x1):=(lo fun bV=>(lb (fun k0=>(lr 148 6 [1,1,0,1,0,0] 1 6 [(4,(.bool true))] (sl z5p 36 [] ⟨[],[],[some [4]],[]⟩ ⟨[],[],[]⟩ (trs 9 []) (tt k0 (pp (pp (xr l0) (xw bV)) nn))))) (fun k0=>(lb (fun k1=>(lr 148 6 [1,1,0,1,0,0] 1 6 [(4,(.bool true))] (sl z5p 36 [] ⟨[],[],[some [4]],[]⟩ ⟨[],[],[]⟩ [false,false,true,true,true,true,true,true,true] (tt k1 (tt k0 (pp (pp (xr l0) (xw bV)) nn)))))) (fun k1=>(lb (fun k2=>(lr 148 6 [1,1,0,1,0,0] 1 6 [(4,(.bool true))] (sl z5p 36 [] ⟨[],[],[some [4]],[]⟩ ⟨[],[],[]⟩ [false,false,false,false,false,false,true,true,true] (tt k2 (tt k1 (tt k0 (pp (pp (xr l0) (xw bV)) nn))))))) (fun k2=>(lo fun q3_0=>(Xa (sl z5p (C':=⟨⟨148,0,true⟩,(Vm prog 6 [1,1,1,0] 5),(Zb prog 6 [1,1,1,0] 1),none,(Zy prog 6),⟨Yg [(0,(.dat l0.length (Zz l0))),(1,(ii x1)),(5,(.bool true)),(44,(.dat ([(Pa.mk (rd l0 (tn x1)).a (rd l0 (tn x1)).b (rd l0 (tn x1)).c (rd l0 (tn x1)).d (rd l0 (tn x1)).e (rd l0 (tn x1)).f (rd l0 (tn x1)).s)]:List Pa).length (Zz ([(Pa.mk (rd l0 (tn x1)).a (rd l0 (tn x1)).b (rd l0 (tn x1)).c (rd l0 (tn x1)).d (rd l0 (tn x1)).e (rd l0 (tn x1)).f (rd l0 (tn x1)).s)]:List Pa))))],Vj [] 0,0,[],true⟩,[],.leaf⟩) 39 [] ⟨[],[0],[some [0,1,5,44]],[]⟩ ⟨[(44,.frz 1 ([(Pa.mk (rd l0 (tn x1)).a (rd l0 (tn x1)).b (rd l0 (tn x1)).c (rd l0 (tn x1)).d (rd l0 (tn x1)).e (rd l0 (tn x1)).f (rd l0 (tn x1)).s)]:List Pa).length (Xh [(ii (rd l0 (tn x1)).a),(ii (rd l0 (tn x1)).b),(ii (rd l0 (tn x1)).c),(ii (rd l0 (tn x1)).d),(ii (rd l0 (tn x1)).e),(ii (rd l0 (tn x1)).f),(.dat (rd l0 (tn x1)).s.length (Zz (rd l0 (tn x1)).s))] 0 7) (Zz ([(Pa.mk (rd l0 (tn x1)).a (rd l0 (tn x1)).b (rd l0 (tn x1)).c (rd l0 (tn x1)).d (rd l0 (tn x1)).e (rd l0 (tn x1)).f (rd l0 (tn x1)).s)]:List Pa)))],[],[]⟩ [false,false,false,false,false,false,false,false,false] (pp (xZ (.dat 1 (Xh [(ii (rd l0 (tn x1)).a),(ii (rd l0 (tn x1)).b),(ii (rd l0 (tn x1)).c),(ii (rd l0 (tn x1)).d),(ii (rd l0 (tn x1)).e),(ii (rd l0 (tn x1)).f),(.dat (rd l0 (tn x1)).s.length (Zz (rd l0 (tn x1)).s))] 0 7)) 1 (Xh [(ii (rd l0 (tn x1)).a),(ii (rd l0 (tn x1)).b),(ii (rd l0 (tn x1)).c),(ii (rd l0 (tn x1)).d),(ii (rd l0 (tn x1)).e),(ii (rd l0 (tn x1)).f),(.dat (rd l0 (tn x1)).s.length (Zz (rd l0 (tn x1)).s))] 0 7)) (pp (xL 1 ([(Pa.mk (rd l0 (tn x1)).a (rd l0 (tn x1)).b (rd l0 (tn x1)).c (rd l0 (tn x1)).d (rd l0 (tn x1)).e (rd l0 (tn x1)).f (rd l0 (tn x1)).s)]:List Pa).length) (pp (xS 1 (Xh [(ii (rd l0 (tn x1)).a),(ii (rd l0 (tn x1)).b),(ii (rd l0 (tn x1)).c),(ii (rd l0 (tn x1)).d),(ii (rd l0 (tn x1)).e),(ii (rd l0 (tn x1)).f),(.dat (rd l0 (tn x1)).s.length (Zz (rd l0 (tn x1)).s))] 0 7) (Zz ([(Pa.mk (rd l0 (tn x1)).a (rd l0 (tn x1)).b (rd l0 (tn x1)).c (rd l0 (tn x1)).d (rd l0 (tn x1)).e (rd l0 (tn x1)).f (rd l0 (tn x1)).s)]:List Pa))) (ww q3_0 (tt k2 (tt k1 (tt k0 (pp (pp (xr l0) (xw bV)) nn))))))))) (lo fun cC=>(lo fun cL=>(lb (fun k3=>(lr 148 6 [1,1,1,1,1,0,1,0,0] 1 6 [(4,(.bool false))] (sl z5p 39 [] ⟨[],[],[some [4]],[]⟩ ⟨[],[],[]⟩ (trs 5 []) (tt k3 (pp (pp (xI R6 (rd l0 (tn x1)).s.length (Zz (rd l0 (tn x1)).s)) (xw cL)) (ww q3_0 (pp (pp (xI Pa ([(Pa.mk (rd l0 (tn x1)).a (rd l0 (tn x1)).b (rd l0 (tn x1)).c (rd l0 (tn x1)).d (rd l0 (tn x1)).e (rd l0 (tn x1)).f (rd l0 (tn x1)).s)]:List Pa).length (Zz ([(Pa.mk (rd l0 (tn x1)).a (rd l0 (tn x1)).b (rd l0 (tn x1)).c (rd l0 (tn x1)).d (rd l0 (tn x1)).e (rd l0 (tn x1)).f (rd l0 (tn x1)).s)]:List Pa))) (xw cC)) nn))))))) (fun k3=>(lo fun cD=>(lb (fun k4=>(lr 148 6 [1,1,1,1,1,0,1,0,0] 1 6 [(4,(.bool false))] (sl z5p 39 [] ⟨[],[],[some [4]],[]⟩ ⟨[],[],[]⟩ [false,false,false,false,true] (tt k4 (pp (pp (xI R7 (Yr (cvT ([(Pa.mk (rd l0 (tn x1)).a (rd l0 (tn x1)).b (rd l0 (tn x1)).c (rd l0 (tn x1)).d (rd l0 (tn x1)).e (rd l0 (tn x1)).f (rd l0 (tn x1)).s)]:List Pa)) 0).length (Zz (Yr (cvT ([(Pa.mk (rd l0 (tn x1)).a (rd l0 (tn x1)).b (rd l0 (tn x1)).c (rd l0 (tn x1)).d (rd l0 (tn x1)).e (rd l0 (tn x1)).f (rd l0 (tn x1)).s)]:List Pa)) 0))) (pp (xI R7 (Kt (cvT (rd l0 (tn x1)).s)).length (Zz (Kt (cvT (rd l0 (tn x1)).s)))) (xw cD))) (tt k3 (pp (pp (xI R6 (rd l0 (tn x1)).s.length (Zz (rd l0 (tn x1)).s)) (xw cL)) (ww q3_0 (pp (pp (xI Pa ([(Pa.mk (rd l0 (tn x1)).a (rd l0 (tn x1)).b (rd l0 (tn x1)).c (rd l0 (tn x1)).d (rd l0 (tn x1)).e (rd l0 (tn x1)).f (rd l0 (tn x1)).s)]:List Pa).length (Zz ([(Pa.mk (rd l0 (tn x1)).a (rd l0 (tn x1)).b (rd l0 (tn x1)).c (rd l0 (tn x1)).d (rd l0 (tn x1)).e (rd l0 (tn x1)).f (rd l0 (tn x1)).s)]:List Pa))) (xw cC)) nn))))))))) (fun k4=>(sl z5p 50 [(59,7,Zz ([]:List Pa))] ⟨[0],[],lalN0,lalM0⟩ ⟨[(10,.grow 0 7)],[],[]⟩ [false,false,false,false,false] (pp (fl ([]:List Pa) nn) (tt k4 (pp (pp (xI R7 (Yr (cvT ([(Pa.mk (rd l0 (tn x1)).a (rd l0 (tn x1)).b (rd l0 (tn x1)).c (rd l0 (tn x1)).d (rd l0 (tn x1)).e (rd l0 (tn x1)).f (rd l0 (tn x1)).s)]:List Pa)) 0).length (Zz (Yr (cvT ([(Pa.mk (rd l0 (tn x1)).a (rd l0 (tn x1)).b (rd l0 (tn x1)).c (rd l0 (tn x1)).d (rd l0 (tn x1)).e (rd l0 (tn x1)).f (rd l0 (tn x1)).s)]:List Pa)) 0))) (pp (xI R7 (Kt (cvT (rd l0 (tn x1)).s)).length (Zz (Kt (cvT (rd l0 (tn x1)).s)))) (xw cD))) (tt k3 (pp (pp (xI R6 (rd l0 (tn x1)).s.length (Zz (rd l0 (tn x1)).s)) (xw cL)) (ww q3_0 (pp (pp (xI Pa ([(Pa.mk (rd l0 (tn x1)).a (rd l0 (tn x1)).b (rd l0 (tn x1)).c (rd l0 (tn x1)).d (rd l0 (tn x1)).e (rd l0 (tn x1)).f (rd l0 (tn x1)).s)]:List Pa).length (Zz ([(Pa.mk (rd l0 (tn x1)).a (rd l0 (tn x1)).b (rd l0 (tn x1)).c (rd l0 (tn x1)).d (rd l0 (tn x1)).e (rd l0 (tn x1)).f (rd l0 (tn x1)).s)]:List Pa))) (xw cC)) nn))))))))))))))))))))))))
theorem lal_ends (l0:List Pa) (x1:Int) (n:Nat) (vs:List AVal) (h:Zr (z5f l0 x1) n (y4v l0 x1)=.ret vs):Jy prog (Zy prog 6) (Zg prog 6 [(.dat l0.length (Zz l0)),(.int .i64 x1)] true []) vs:=by have:=Zd (v0j l0 x1) n _ (w1v l0 x1);rwa [h] at this
theorem x6y (E:Int→Int): ∀l:List Int,(∀p∈l,E p=0)→u5m E l=0
 | [],_=>rfl
 | p::l,h=>by unfold u5m;rw [h p (by simp)];exact x6y E l fun x hx=>h x (by simp [hx])
section
variable {L:List R6} (hv: ∀r∈L,z4g r=true) (hl:L.length≤20) (hL:L.Pairwise Ap6)
include hv hl hL
theorem w6b (q:Ax) (s:Bool) (p:Int) (hp: -1000000≤p∧p≤1000000):Kj q L p s=0∧Ji q L p s=fcF q s L p:=by
 have w:wrap .i64 (p - 1)=p - 1:=Zk (by omega);obtain ⟨a1,a2,a3,a4⟩:=x1l q hv hl hL p;obtain ⟨b1,b2,_,_⟩:=x1l q hv hl hL (p - 1);have e:v2g q L p=0:=by unfold v2g Kk;rw [w,b1,a1];rfl
 unfold Kj Ji;rw [e,w];unfold Xx;rw [a2,b2];cases s with
 | true=>exact ⟨a3,by show Xc .d _ _=_;unfold Xc;rw [a3];rfl⟩
 | false=>exact ⟨a4,by show Xc .d _ _=_;unfold Xc;rw [a4];rfl⟩
theorem j0a (q:Ax) {p:Int} (h:p∈plQ q L): -1000000≤p∧p≤1000000:=by
 have _u:=hl;have _v:=hL;obtain ⟨r,hr,h⟩:=(w0x q L p).1 h;obtain ⟨_,h1,h2,h3⟩:=q.val (hv r hr);rcases h with rfl | rfl <;> omega
theorem j9f (q:Ax) (s:Bool):dM q s L=(plQ q L).flatMap fun p=>(fcF q s L p).map (qd q s p):=by unfold dM u0e;exact y1k fun p hp=>by rw [(w6b hv hl hL q s p (j0a hv hl hL q hp)).2]
theorem v8o (q:Ax) (s:Bool):y0d q s L=0:=x6y _ _ fun p hp=>(w6b hv hl hL q s p (j0a hv hl hL q hp)).1
theorem w3d (q:Ax):(dM q true L).length +(dM q false L).length ≤800:=by
 rw [j9f hv hl hL,j9f hv hl hL,y7m,y7m];have hr: ∀r∈L,q.lo r<q.hi r:=fun r h=>(q.val (hv r h)).2.1;have key: ∀P:List Int,(P.map fun p=>((fcF q true L p).map (qd q true p)).length).sum +(P.map fun p=>((fcF q false L p).map (qd q false p)).length).sum ≤20*((P.map fun p=>(hiL q L p).length).sum +(P.map fun p=>(loL q L p).length).sum):=fun P=>by
  induction P with
  | nil=>exact Aq _
  | cons p P ih=>simp only [AU,BD,Bi] at ih ⊢;have h1:=x2c q hv hl hL p;have h2:=Av (y5p q hr p) hl;have h3:=AA ((hiL q L p).length +(loL q L p).length) h2;have e1:(fcF q true L p).length =(upF q L p).length :=rfl;have e2:(fcF q false L p).length =(dnF q L p).length :=rfl;omega
 have h1:=z4n q.hi (plQ q L) (z7f q L) q.rc L;have h2:=z4n q.lo (plQ q L) (z7f q L) q.rc L;have:=key (plQ q L);unfold hiL loL at this;omega
theorem v6v :mmdZ L=0∧(x8a L).length ≤2400:=by
 have h1:=w3d hv hl hL .x;have h2:=w3d hv hl hL .y;have h3:=w3d hv hl hL .z;have hn:(x8a L).length ≤2400:=by unfold x8a;simp only [AH];omega
 refine ⟨?_,hn⟩;unfold mmdZ;simp only [v8o hv hl hL];rw [AB (by omega)];rfl
end
theorem j5p {L:List R6} (h:Zn L=0) (hl:L.length≤20):y2j L=0∧Kt L=x8a L:=by obtain ⟨_,hv,_,hL⟩:=Vh h;have hz:=(v6v hv hl hL).1;unfold y2j Kt y6v y2k;rw [h,hz];exact ⟨rfl,rfl⟩
instance ptDec6 (l:List R6) (p:Int×Int×Int):Decidable (ptL x5h.inB l p):=Classical.propDecidable _
instance inSDec (l:List R6) (x y z:Int):Decidable (inS l x y z):=Classical.propDecidable _
def dwnV (x n:Int):Int:=bif decide (wrap .i64 (wrap .i64 (Int.tdiv x n)*n)>x) then wrap .i64 (wrap .i64 (wrap .i64 (Int.tdiv x n) - 1)*n) else wrap .i64 (wrap .i64 (Int.tdiv x n)*n)
def upV (x n:Int):Int:=wrap .i64 (0 - dwnV (wrap .i64 (0 - x)) n)
def oB (n:Int) (r:R6):R6:=⟨dwnV r.a n,dwnV r.b n,dwnV r.c n,upV r.d n,upV r.e n,upV r.f n⟩
theorem j9u {a:Int} (h:(a != 0)=false):a=0:=by simpa using h
theorem u7y : ∀{l:List Pa},(∀x∈l,Zn x.s=0)→skE l=0
 | [],_=>rfl
 | x::r,h=>by unfold skE;rw [h x (by simp)];exact u7y fun y hy=>h y (by simp [hy])
theorem u7w {l:List Pa}: ∀k i,(∀j,i≤j→j<i+k→x7h l j=false)→skG l k i=0
 | 0,i,_=>rfl
 | k+1,i,h=>by unfold skG;rw [h i (Aq _) (by omega)];exact u7w k (i+1) fun j h1 h2=>h j (by omega) (by omega)
theorem x3i {l:List Pa} (L:v2b l):z1l l=0:=by
 unfold z1l;rw [AB (show ¬50<l.length by have:=L.len;omega),Aa,u7y fun x hx=> ?_]
 ·show skG _ l.length 0=0;refine u7w _ _ fun i _ hj=> ?_;have hi:i<l.length:=by omega
  have v:=Ka ((Vh (L.val i hi)).2.1 (bxP (rd l i)) (by simp));unfold x7h;rw [L.val i hi];have h1:(rd l i).s.any (fun r=> !insR r (bxP (rd l i)))=false:=List.any_eq_false.2 fun r hr=>by
   have v:=Ka ((Vh (L.sck i hi)).2.1 r hr);have a1:=L.ins i hi r.a r.b r.c ⟨r,hr,by omega,by omega,by omega⟩;have a2:=L.ins i hi (r.d - 1) (r.e - 1) (r.f - 1) ⟨r,hr,by omega,by omega,by omega⟩;unfold v7k at a1 a2;unfold insR j1n
   grind
  have h2:(l.take i).any (fun y=>v6x (bxP (rd l i)) (bxP y))=false:=List.any_eq_false.2 fun y hy=>by
   obtain ⟨m,hm,rfl⟩:=List.mem_iff_getElem.1 hy;have hm:m<i:=by rw [List.length_take] at hm;omega
   have hm':m<l.length:=by omega
   have w:=Ka ((Vh (L.val m hm')).2.1 (bxP (rd l m)) (by simp));have d:=L.dis i m hi hm' (max (bxP (rd l i)).a (bxP (rd l m)).a) (max (bxP (rd l i)).b (bxP (rd l m)).b) (max (bxP (rd l i)).c (bxP (rd l m)).c);rw [Bz,←Yo hm'];intro k;unfold v6x j1a at k;simp only [Ae,As] at k;have:=d (by unfold v7k;omega) (by unfold v7k;omega);omega
  rw [h1,h2];rfl
 ·obtain ⟨m,hm,rfl⟩:=List.mem_iff_getElem.1 hx;have:=L.sck m hm;rwa [Yo hm] at this
theorem j2i {E:Int→Int→Int} {M:Int→Int→List R4} {S:List R6} (h:x8l E M S=0):(z9x M S 6 0).length ≤3000:=by
 unfold x8l at h
 grind
theorem u1z {l:List Pa} (h:v2e l=true) (h5:l.length≤50): ∀x∈l,x6d x.s=true:=by unfold v2e at h;rw [AB (by omega),Aa,Ae] at h;intro x hx;have hx:=At.1 h.1 x hx;unfold nrX at hx;simp only [Ae,Be,Ba] at hx;obtain ⟨h6,h9,_⟩:=hx;unfold w1b at h9;rw [AB (by omega),Aa,Ae] at h9;unfold x6d;rw [An (by omega),Aj];refine At.2 fun r hr=> ?_;have:=At.1 h9.1 r hr;unfold u3p at this;simp only [x3y,x3z,Ae,As,Be,Ba] at this ⊢;omega
theorem w4v (l:List Pa) (x:Int):(Yr l x).length ≤3000:=by
 unfold Yr y8o;rcases Yp (Vz l x != 0) with q | q
 ·grind
 ·rw [q,Aa];have z:Vz l x=0:=by simpa using q
  unfold Vz at z;rcases Yp (z1l l != 0) with a | a
  ·grind
  rw [a,Aa] at z;rcases Yp (decide (x<0)||decide (x≥(l.length:Int))) with b | b
  ·grind
  rw [b,Aa] at z;rcases Yp (Kc l != 0) with c | c
  ·grind
  rw [c,Aa] at z;exact j2i z
theorem u6n : ∀(l:List Pa) (acc:List R6),Zn acc=0→nbS acc→(∀x∈l,Zn x.s=0∧nbS x.s)→whE acc l=0∨whE acc l=4
 | [],_,_,_,_=>.inl rfl
 | p::l,acc,ha,na,hl=>by
  obtain ⟨hp,np⟩:=hl p (by simp);unfold whE;rcases Yp (z4q .u acc p.s != 0) with q | q
  ·rw [q,Ab];have e:z4q .u acc p.s=x7e (slJ .u acc p.s).length :=j3f ha hp na np;rw [e] at q ⊢;unfold x7e at q ⊢;by_cases g:((slJ .u acc p.s).length :Int)>400
   ·rw [An g];exact .inr rfl
   ·rw [AB g] at q;cases q
  ·rw [q,Aa];obtain ⟨o1,o2,_⟩:=u_ok ha hp na np (by simpa using q);exact u6n l _ o1 o2 fun x hx=>hl x (by simp [hx])
theorem u6m : ∀(l:List Pa) (acc:List R6),Zn acc=0→nbS acc→(∀x∈l,Zn x.s=0∧nbS x.s)→whE acc l=0→
  True∧Zn (whL acc l)=0∧nbS (whL acc l)∧ ∀x y z,inS (whL acc l) x y z↔inS acc x y z∨ ∃p∈l,inS p.s x y z
 | [],acc,ha,na,_,_=>⟨trivial,ha,na,fun x y z=>⟨.inl,fun k=>by
   rcases k with k | ⟨p,hp,_⟩
   ·exact k
   ·cases hp⟩⟩
 | p::l,acc,ha,na,hl,h=>by
  obtain ⟨hp,np⟩:=hl p (by simp);unfold whE at h;unfold whL;rcases Yp (z4q .u acc p.s != 0) with q | q
  ·grind
  ·rw [q,Aa] at h;obtain ⟨o1,o2,o3⟩:=u_ok ha hp na np (by simpa using q);obtain ⟨_,j2,j3,j4⟩:=u6m l (z2i .u acc p.s) o1 o2 (fun x hx=>hl x (by simp [hx])) h
   grind
section
variable {l:List Pa} (hc:z1l l=0) (L:v2b l) (hn: ∀x∈l,x6d x.s=true) {x:Int} (hx:0≤x∧x<(l.length:Int))
include hc L hn hx
theorem x2k :(Vz l x=0∨Vz l x=4)∧(Vz l x=0→Yr l x=z9x (Qf (rd l x.toNat).s (whL [] l)) (rd l x.toNat).s 6 0∧Zn (whL [] l)=0∧nbS (whL [] l)∧ ∀a b c,inS (whL [] l) a b c↔ ∃p∈l,inS p.s a b c):=by
 have hl: ∀x∈l,Zn x.s=0∧nbS x.s:=fun x hx=>by obtain ⟨i,hi,rfl⟩:=AN hx;rw [←Yo hi];exact ⟨L.sck i hi,(y3b (hn _ (by grind [Yo]))).1⟩
 have e:Vz l x=bif whE [] l != 0 then whE [] l else x8l (y2e (rd l x.toNat).s (Zs l)) (Qf (rd l x.toNat).s (Zs l)) (rd l x.toNat).s :=by unfold Vz;rw [hc,AB (show ¬x<0 by omega),AB (show ¬x≥(l.length:Int) by omega)];rfl
 rcases u6n l [] x2p x3j hl with z | z
 ·obtain ⟨_,a2,a3,a4⟩:=(u6m l [] x2p x3j hl) z;have ev:Zs l=whL [] l:=by unfold Zs;rw [z];rfl
  have pA: ∀a b c,inS (whL [] l) a b c↔ ∃p∈l,inS p.s a b c:=fun a b c=>by
   rw [a4];constructor
   ·rintro (⟨r,hr,_⟩ | k);all_goals grind
   ·exact .inr
  rw [z,ev] at e;have e:Vz l x=0:=e.trans (x9c L hn a2 a3 pA (i:=Int.toNat x) (by omega));refine ⟨.inl e,fun _=>⟨?_,a2,a3,pA⟩⟩;unfold Yr;rw [e];show z9x (Qf (rd l x.toNat).s (Zs l)) (rd l x.toNat).s 6 0=_;rw [ev]
 grind
end
theorem qdA_qd (q:Ax) (s:Bool) (p:Int) (t:R4):qdA (z5m q s:Int) (dhA (z5m q s:Int)) p t=qd q s p t:=by cases q <;> cases s <;> rfl
theorem v3w {S:List R6} (hS:Zn S=0) (hr:x6d S=true):z9x (Qf S S) S 6 0=x8a S:=by
 obtain ⟨nS,l6⟩:=y3b hr;obtain ⟨_,hv,_,hL⟩:=Vh hS;have one: ∀q s,z1b (Qf S S) (z5m q s:Int) (plQ q S)=dM q s S:=fun q s=>by rw [j9f hv (by omega) hL q s];refine y1k fun p hp=> ?_;rw [(x2j hS hS nS nS q s (pl12 hr q hp)).2];obtain ⟨c1,p1⟩:=w7g hS hS q s p;obtain ⟨c2,p2⟩:=v7z hS l6 q s p;have e:FS q s S S p=fcF q s S p:=Wr.uniq _ _ c1 c2 fun ⟨u,v⟩=>(p1 u v).trans (p2 u v).symm;rw [e];exact BI fun t _=>qdA_qd q s p t
 have a1:=one .x true;have a2:=one .x false;have a3:=one .y true;have a4:=one .y false;have a5:=one .z true;have a6:=one .z false;rw [y5k];unfold x8a;rw [←a1,←a2,←a3,←a4,←a5,←a6];simp only [AJ];rfl
theorem u3k {l:List Pa} (L:v2b l) {i:Nat} (hi:i<l.length):v2b [rd l i]:=by
 have e: ∀j,j<[rd l i].length →rd [rd l i] j=rd l i:=fun j hj=>by
  obtain rfl:j=0:=by simp at hj;exact hj
  rfl
 refine ⟨by simp,fun j hj=> ?_,fun j hj=> ?_,fun j hj=> ?_,fun j k hj hk _ _ _ _ _=>by simp at hj hk;omega⟩;all_goals rw [e j hj]
 ·exact L.sck i hi
 ·exact L.val i hi
 ·exact L.ins i hi
theorem u3j {l:List Pa} (L:v2b l) (hn: ∀x∈l,x6d x.s=true) {i:Nat} (hi:i<l.length):Vz [rd l i] 0=0∧Yr [rd l i] 0=x8a (rd l i).s :=by
 have LP:=u3k L hi;have hS:=L.sck i hi;have hr:=hn (rd l i) (by grind [Yo]);obtain ⟨nS,_⟩:=y3b hr;obtain ⟨a1,a0⟩:=j2f x2p hS x3j nS hS fun x y z=>⟨.inr,by
  rintro (⟨r,hr,_⟩ | h)
  ·cases hr
  ·exact h⟩
 have w:whE [] [rd l i]=0∧whL [] [rd l i]=(rd l i).s :=by
  constructor
  ·show (bif z4q .u [] (rd l i).s != 0 then _ else _)=_;rw [a1];rfl
  ·exact a0
 have ws:Zs [rd l i]=(rd l i).s :=by unfold Zs;rw [w.1,w.2];rfl
 have so:=x9c LP (fun x hx=>by rw [BL.1 hx];exact hr) hS nS (fun x y z=>by simp) (i:=0) (by simp);have e:Vz [rd l i] 0=0:=by show (bif z1l [rd l i] != 0 then _ else bif Kc [rd l i] != 0 then _ else x8l (y2e (rd l i).s (Zs [rd l i])) (Qf (rd l i).s (Zs [rd l i])) (rd l i).s)=0;rw [x3i LP,show Kc [rd l i]=0 from w.1,ws];exact so
 refine ⟨e,?_⟩;unfold Yr;rw [e];show z9x (Qf (rd l i).s (Zs [rd l i])) (rd l i).s 6 0=_;rw [ws];exact v3w hS hr
theorem x0q (l:List Pa) {j:Nat} (hj:j<l.length):rd l.reverse j=rd l (l.length - 1 - j):=by rw [Yo (by rw [Bg];exact hj),Yo (by omega),List.getElem_reverse]
theorem w5h {l:List Pa} (L:v2b l):v2b l.reverse:=by
 refine ⟨by rw [Bg];exact L.len,fun j hj=> ?_,fun j hj=> ?_,fun j hj=> ?_,fun j k hj hk=> ?_⟩;all_goals rw [Bg] at hj
 ·rw [x0q l hj];exact L.sck _ (by omega)
 ·rw [x0q l hj];exact L.val _ (by omega)
 ·rw [x0q l hj];exact L.ins _ (by omega)
 ·rw [Bg] at hk;rw [x0q l hj,x0q l hk];intro x y z h1 h2;have:=L.dis _ _ (show l.length - 1 - j<l.length by omega) (show l.length - 1 - k<l.length by omega) x y z h1 h2;omega
theorem u2w {l:List Pa} (L:v2b l) (hn: ∀x∈l,x6d x.s=true) {x:Int} (hx:0≤x∧x<(l.length:Int)) (h1:Vz l x=0) (h2:Vz l.reverse (l.length - 1 - x)=0):
  Yr l x=Yr l.reverse (l.length - 1 - x)∧whL [] l=whL [] l.reverse:=by
 have LR:=w5h L;obtain ⟨e1,a1,_,p1⟩:=(x2k (x3i L) L hn hx).2 h1;obtain ⟨e2,a2,_,p2⟩:=(x2k (x3i LR) LR (fun y hy=>hn y (List.mem_reverse.1 hy)) (x:=l.length - 1 - x) (by rw [Bg];omega)).2 h2;have ew:whL [] l=whL [] l.reverse:=x5h.uniq _ _ (y3x a1) (y3x a2) fun ⟨z,x,y⟩=>by rw [←z5i,←z5i,p1,p2];simp
 have er:rd l.reverse (Int.toNat (l.length - 1 - x))=rd l x.toNat:=by
  rw [x0q l (by omega)]
  congr 1
  omega
 refine ⟨?_,ew⟩;rw [e1,e2,er,ew]
theorem y5e {l:List Pa} (h:v7x l=true):l.length≤6∧z1l l=0∧smP l=true:=by
 unfold v7x at h;rcases Yp (decide ((l.length:Int)≤6)) with a | a
 ·rw [a,Ab] at h;have h6:l.length≤6:=by have:=Aw a;omega
  rcases Yp (v2e l) with b | b
  ·rw [b,Ab] at h;exact ⟨h6,by rw [chk_eq];exact eq_of_beq h,u8t b h6⟩
  ·rw [b] at h;cases h
 ·rw [a] at h;cases h
theorem u8u {l:List Pa} (h:v7x l=true): ∀x∈l,x6d x.s=true:=by
 have h5:=(y5e h).1;unfold v7x at h;rw [An (show (l.length:Int)≤6 by omega),Ab] at h;rcases Yp (v2e l) with b | b
 ·exact u1z b (by omega)
 ·rw [b] at h;cases h
theorem u7f {l:List Pa} (h:smP l=true):smP l.reverse=true:=by unfold smP at h ⊢;rw [Bg,List.all_reverse];exact h
theorem j6n {l:List Pa} {x:Int} (q:v7x l=true) (hx:0≤x∧x<(l.length:Int)): ∃N,Zr (z5f l x) N (.to (.h0 l.reverse (-1)))=.ret [.bool true]:=by
 obtain ⟨h6,hc,hs⟩:=y5e q;have hn:=u8u q;have L:=w1t hc;have LR:=w5h L;have hcr:=x3i LR;have hnr: ∀y∈l.reverse,x6d y.s=true:=fun y hy=>hn y (List.mem_reverse.1 hy);have hxr:0≤(l.length:Int) - 1 - x∧(l.length:Int) - 1 - x<(l.reverse.length:Int):=by rw [Bg];omega
 have f1:=(x2k hc L hn hx).1;have f2:=(x2k hcr LR hnr hxr).1;refine ⟨1,?_⟩;rw [Zw];simp (disch:=omega) only [z5f,Zc,dge_f,Zk,Aa,show Jw l x=true from hs,show∀y,Jw l.reverse y=true from fun _=>u7f hs,show Qa l=true from hs,show Qa l.reverse=true from u7f hs,Ab];rcases f1 with z1 | z1
 ·rw [z1];rcases f2 with z2 | z2
  ·obtain ⟨e1,e2⟩:=u2w L hn hx z1 z2;have w: ∀{m:List Pa},z1l m=0→Kb m=0→Xr m=whL [] m:=fun hm h=>by unfold Xr;rw [h];rfl
   rw [z2];rcases Yp (Kb l != 0) with a | a
   ·rw [a];rfl
   rcases Yp (Kb l.reverse != 0) with b | b
   ·rw [a,b];rfl
   have so:Kd (Yr l x) (Yr l.reverse (l.length - 1 - x))=true:=An (by have:=w4v l x;omega);have sv:u1u (Yr l x) (Yr l.reverse (l.length - 1 - x))=true:=An e1;have wo:Vw (Xr l) (Xr l.reverse)=true:=An (by
    rw [w hc (j9u a)];have:=x8d l [] (AC _);omega)
   have wv:Jf (Xr l) (Xr l.reverse)=true:=An (by rw [w hc (j9u a),w hcr (j9u b)];exact e2);rw [a,b,so,sv,wo,wv];rfl
  ·rw [z2];rfl
 ·rw [z1];rcases f2 with z2 | z2;all_goals rw [z2];rfl
theorem j1k {l:List Pa} {x:Int} (q:v7x l=true) (hx:0≤x∧x<(l.length:Int)): ∀n:Nat,n≤l.length→ ∃N,Zr (z5f l x) N (.to (.h0 (l.drop n).reverse ((n:Int) - 1)))=.ret [.bool true]
 | 0,_=>by obtain ⟨N,hN⟩:=j6n q hx;exact ⟨N,hN⟩
 | n+1,h=>by
  have h6:=(y5e q).1;obtain ⟨N,hN⟩:=j1k q hx n (by omega);refine ⟨N+1,?_⟩;rw [Yq (show n<l.length by omega),List.reverse_cons] at hN;have e:((n+1:Nat):Int) - 1=(n:Int):=by omega
  have rm:((l.drop (n+1)).reverse.length +1+1)*(72+1)≤room:=by rw [Bg,BR];unfold room;omega
  rw [Zw,e];simp (disch:=omega) only [z5f,dge_t,Zt,Zj,Zk,Ah,Ab,Af];rw [An rm];simp only [Ao,Ah,Nat.beq_refl,Ab];exact hN
theorem lal_run (l:List Pa) (x:Int): ∃N,Zr (z5f l x) N (y4v l x)=.ret [.bool true]:=by
 unfold y4v;simp only [Zc,show z9j l=true from rfl,Ab];rcases (Yp (v7x l)).symm with q | q
 ·exact ⟨0,by rw [q];rfl⟩
 rw [q];by_cases g1:x<0
 ·exact ⟨0,by rw [An g1];rfl⟩
 by_cases g2:x≥(l.length:Int)
 ·exact ⟨0,by rw [AB g1,An g2];rfl⟩
 obtain ⟨h6,hc,hs⟩:=y5e q;have hn:=u8u q;have L:=w1t hc;have hx:0≤x∧x<(l.length:Int):=by omega
 have hi:x.toNat<l.length:=by omega
 obtain ⟨k1,k0⟩:=u3j L hn hi;obtain ⟨m1,m0⟩:=j5p (L.sck _ hi) (by have:=(y3b (hn (rd l x.toNat) (by grind [Yo]))).2;omega);have so:Jw [rd l x.toNat] 0=true:=by show smP [rd l x.toNat]=true;have:=w4r hs hi;unfold smP;simp;omega
 have sq:Kd (Yr [rd l x.toNat] 0) (Kt (rd l x.toNat).s)=true:=An (by have:=w4v [rd l x.toNat] 0;omega);have sv:u1u (Yr [rd l x.toNat] 0) (Kt (rd l x.toNat).s)=true:=An (by rw [k0,m0]);obtain ⟨N,hN⟩:=j1k q hx l.length (Aq _);refine ⟨N,?_⟩;rw [AB g1,AB g2,An hx];show Zr (z5f l x) N (bif Jw [rd l x.toNat] 0 then (bif z8z (rd l x.toNat).s then (bif (Vz [rd l x.toNat] 0 != y2j (rd l x.toNat).s) then _ else bif Kd (Yr [rd l x.toNat] 0) (Kt (rd l x.toNat).s) then (bif !(u1u (Yr [rd l x.toNat] 0) (Kt (rd l x.toNat).s)) then _ else _) else _) else _) else _)=_;rw [so,k1,m1,sq,sv,show z8z (rd l x.toNat).s =true from rfl];simp (disch:=omega) only [bne_self_eq_false,Az,Ab,Aa,Zk];rw [Ar (Aq _)] at hN;exact hN
open Go.ChangeShapes Go.WideShapes Go.Deep
section
variable {P:Program}
def v7r (P:Program) (e:TypeId):List (TypeId×Nat):=match P.underlying e with
 | some (.struct fs)=>fs.toList.map fun f=>(f.type,f.offset)
 | _=>[]
def elsD {H:Type}:DataW H→List (DataW H)
 | .slice es _=>es
 | _=>[]
def w8w {H:Type} (n:Nat) (q:DataW H):Prop:=n=(elsD q).length ∧ ∀y∈elsD q,∃z r,y=.agg (z::r)
theorem w6r {e t0 t1:TypeId} {a b:Nat} (h:v7r P e=[(t0,a),(t1,b)]): ∃fs:Array Field,P.underlying e=some (.struct fs)∧fs.size=2∧(∃f0,fs[0]? =some f0∧f0.type=t0∧f0.offset=a)∧ ∃f1,fs[1]? =some f1∧f1.type=t1∧f1.offset=b:=by
 unfold v7r at h;split at h
 ·rename_i fs hu;refine ⟨fs,hu,?_⟩;obtain ⟨l⟩:=fs;simp only at h
  match l,h with
  | [f0,f1],h=>simp only [AU,Bx,List.cons.injEq,Ac,Bk] at h;exact ⟨rfl,⟨f0,rfl,h.1.1,h.1.2⟩,f1,rfl,h.2.1,h.2.2⟩
 ·cases h
abbrev ks6 :List IntKind:=[.i64,.i64,.i64,.i64,.i64,.i64]
variable {HH:Type} {enc:TypeId×Value→HH} {w:World} {base:Nat} {held:Bool}
theorem w9o {t e f0 f1:TypeId} {o0 o1:Nat} {ks:List IntKind} {cs:List Value} {x:DataW HH×List MemPlace} {fuel:Nat} (ht:P.underlying t=some (.slice e)) (hk:y7d P 30 e=some ks) (hks:1≤ks.length) (hfl:v7r P e=[(f0,o0),(f1,o1)])
  (h:DataW.trod enc P w base (fun _=>true) held fuel t cs=some x):
  ∃(v:Value) (n:Nat) (c:Nat→Nat→Int),cs=[v]∧Yx (z2c fun k=>w.heap[k]?) (.dat n (fun i=>x2x ks (c i))) v∧w8w n x.1:=by
 rcases open_slice ht h with ⟨h0,rfl⟩ | ⟨a,len,cap,m,fl,D,Pl,hcs,hb,hl,dR,hm,rfl,hi⟩
 ·exact ⟨_,0,fun _ _=>0,h0,.datn _,rfl,fun y hy=>by cases hy⟩
 ·simp only [if_true] at hm;subst hm;have hL:w8w len (DataW.slice ((List.range len).map D) ((List.range (m - len)).map fun j=>D (len+j))):=by
   refine ⟨by simp [elsD],fun y hy=> ?_⟩;obtain ⟨i,hi2,rfl⟩:=AP.1 hy;have hil:=A3.1 hi2;obtain ⟨cs',_,ht'⟩:=hi i (by omega);obtain ⟨fs,hu,hsz,_⟩:=w6r hfl;obtain ⟨xs,_,_,hx,_,hxl,_⟩:=DataW.trod_struct hu ht';have hx:=(Prod.mk.inj hx).1
   match xs,hxl with
   | [],hxl=>simp at hxl;omega
   | z::r,_=>exact ⟨_,_,hx⟩
  by_cases hc0:m=0
  ·subst hc0;obtain rfl:len=0:=by omega
   exact ⟨_,0,fun _ _=>0,hcs,.datz _ _ _,hL⟩
  ·have hspot:a.spot=none:=by
    obtain ⟨cs',hc',ht'⟩:=hi 0 (by omega);have I:=z3n 30 e ks hk _ _ _ ht';obtain ⟨_,dK,eP⟩:=World.cells?_some hc';have h1:=eP 0 (by rw [←dK,I.length];exact hks);obtain ⟨blk,off,spot⟩:=a;have h2:cs'[0]? =some (cs'[0]'(by rw [I.length];exact hks)):=(by simp);rw [h2] at h1
    simpa [Addr.add] using World.cell?_spot h1
   obtain ⟨blk,off,spot⟩:=a;simp only at hspot;subst hspot;obtain ⟨c,h1,h2⟩:=u5t (w:=w) hk hl hl hi;exact ⟨_,len,c,hcs,h1,hL⟩
theorem open_land {t e t0 t1 b f0 f1:TypeId} {o0 o1:Nat} {v:Value} {d:DataW HH} {p:List MemPlace} (ht:P.underlying t=some (.slice e)) (hs:v7r P e=[(t0,0),(t1,6)]) (ce:P.cellsOf e=7) (c0:P.cellsOf t0=6) (c1:P.cellsOf t1=1)
  (k0:y7d P 30 t0=some ks6) (u1:P.underlying t1=some (.slice b)) (kb:y7d P 30 b=some ks6) (fb:v7r P b=[(f0,o0),(f1,o1)]) {b0:Nat} (hv:Value.okWide P w .any b0 t v) (h:DataW.Trod enc P w base (fun _=>true) held t v d p):
  ∃X:List Pa,Yx (z2c fun k=>w.heap[k]?) (.dat X.length (Zz X)) v∧ ∀x∈X,∃es sp ps q,d=.slice es sp∧DataW.agg ps∈es∧q∈ps∧w8w x.s.length q:=by
 obtain ⟨fuel,h⟩:=h;have hvc:v.cells.toList=[v]:=by
  unfold Value.okWide at hv;rw [ht] at hv;unfold Cell.okWide at hv;rw [ht] at hv;cases v <;> first | rfl | (simp [Cell.ok,ht] at hv)
 rcases open_slice ht h with ⟨h0,_⟩ | ⟨a,len,cap,m,fl,D,Pl,hcs,hb,hl,dR,hm,hx,hi⟩
 ·rw [hvc] at h0;obtain rfl:v=.slice none 0 0:=by simpa using h0
  exact ⟨[],.datn _,fun x hx=>by cases hx⟩
 ·rw [hvc] at hcs;obtain rfl:v=.slice (some a) len cap:=by simpa using hcs
  have hspot:a.spot=none:=by unfold Value.okWide at hv;rw [ht] at hv;unfold Cell.okWide at hv;rw [ht] at hv;simp only [Cell.ok,ht] at hv;exact hv.2.2.2.1
  obtain ⟨blk,off,spot⟩:=a;simp only at hspot;subst hspot;simp only [if_true] at hm;subst hm;obtain ⟨fs,hu,hsz,⟨f0,hf0,rfl,o0⟩,f1,hf1,rfl,o1⟩:=w6r hs;have key: ∀i,i<len→ ∃q:Pa×(Nat→Value),(∀j,j<7→w.cell? ⟨blk,off+(i*7+j),none⟩=some (q.2 j))∧(∀j (hj:j<7),Yx (z2c fun k=>w.heap[k]?) ((Xq.cells q.1)[j]'hj) (q.2 j))∧ ∃ps z,D i=DataW.agg ps∧z∈ps∧w8w q.1.s.length z:=by
   intro i hil;obtain ⟨cs',hc',ht'⟩:=hi i (by omega);obtain ⟨xs,n,_,hx',hcl,hxl,hf⟩:=DataW.trod_struct hu ht';have dK:cs'.length=7:=hcl.trans ce;have eP:=(World.cells?_some hc').2.2;have g0:=hf 0 f0 hf0;have g1:=hf 1 f1 hf1;rw [o0,c0,AT] at g0;rw [o1,c1] at g1;have hx0:0<xs.length:=by omega
   have hx1:1<xs.length:=by omega
   rw [Au hx0] at g0;rw [Au hx1] at g1;obtain ⟨ns,n1,n2,_⟩:=z3n 30 _ _ k0 _ _ _ g0;obtain ⟨u,n',c,e1,e2,e3⟩:=w9o u1 kb (by decide) fb g1
   match ns,n1 with
   | [m0,m1,m2,m3,m4,m5],_=>
    have ecs:cs'=[.int .i64 m0,.int .i64 m1,.int .i64 m2,.int .i64 m3,.int .i64 m4,.int .i64 m5,u]:=by
     rw [←List.take_append_drop 6 cs',n2];have:cs'.drop 6=[u]:=by rw [←e1,A6 (by rw [BR];omega)]
     rw [this];rfl
    refine ⟨(⟨m0,m1,m2,m3,m4,m5,lst R6 n' fun i=>x2x ks6 (c i)⟩,fun j=>cs'.getD j undef),fun j hj=> ?_,fun j hj=> ?_,xs.map (·.1),xs[1].1,(Prod.mk.inj hx').1,AP.2 ⟨xs[1],A1 hx1,rfl⟩,?_⟩
    ·have:=eP j (by omega);rw [ce] at this;simp only [Xf] at this;rw [show off+(i*7+j)=off+i*7+j by omega,this];show cs'[j]? =some (cs'.getD j undef);rw [List.getD_eq_getElem?_getD,Au (by omega)];rfl
    ·have last:=(Yh (α:=R6) (v:=.dat n' fun i=>x2x ks6 (c i)) rfl (Xy fun i _=>rfl)).sound e2;rw [ecs]
     match j,hj with
     | 0,_=>exact .int _ _
     | 1,_=>exact .int _ _
     | 2,_=>exact .int _ _
     | 3,_=>exact .int _ _
     | 4,_=>exact .int _ _
     | 5,_=>exact .int _ _
     | 6,_=>exact last
    ·have:(lst R6 n' fun i=>x2x ks6 (c i)).length =n':=(by simp [lst]);show w8w (lst R6 n' _).length _;rw [this];exact e3
  let Q:Nat→Pa×(Nat→Value):=fun i=>if hil:i<len then (key i hil).choose else (Xq.d,fun _=>undef)
  have hQ: ∀i,i<len→(∀j,j<7→w.cell? ⟨blk,off+(i*7+j),none⟩=some ((Q i).2 j))∧(∀j (hj:j<7),Yx (z2c fun k=>w.heap[k]?) ((Xq.cells (Q i).1)[j]'hj) ((Q i).2 j))∧ ∃ps z,D i=DataW.agg ps∧z∈ps∧w8w (Q i).1.s.length z:=by intro i hil;have:=(key i hil).choose_spec;simp only [Q,hil,dif_pos];exact this
  have hXl:((List.range len).map fun i=>(Q i).1).length =len:=by simp
  have hrow: ∀i,i<len→Zz ((List.range len).map fun i=>(Q i).1) i=Xq.cells (Q i).1:=fun i hi=>by show Xq.cells (rd _ i)=_;rw [Yo (by rw [hXl];exact hi)];simp only [List.getElem_map,List.getElem_range]
  refine ⟨(List.range len).map fun i=>(Q i).1,?_,fun x hx2=> ?_⟩
  ·rw [hXl];refine .dat len _ blk off 7 m (fun i j=>(Q i).2 j) hl (fun i hil=>by rw [hrow i hil];rfl) (fun i j hil hj=> ?_) (fun i j hil hj=> ?_)
   ·have hj7:j<7:=by rw [hrow i hil] at hj;exact hj
    have:=(hQ i hil).2.1 j hj7;simp only [hrow i hil];exact this
   ·have e2:=(hQ i hil).1 j hj;unfold World.cell? at e2;split at e2
    ·rename_i cl el fz hb2;simp only [Option.isSome_none,Bool.false_eq_true,if_false] at e2;exact ⟨cl,el,fz,hb2,e2⟩
    ·cases e2
  ·obtain ⟨i,hi2,rfl⟩:=AP.1 hx2;have hil:=A3.1 hi2;obtain ⟨ps,z,h1,h2,h3⟩:=(hQ i hil).2.2;exact ⟨_,_,ps,z,(Prod.mk.inj hx).1,AP.2 ⟨i,hi2,h1⟩,h2,h3⟩
end
end Go.Am
end
