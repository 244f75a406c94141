/- A part of a proof: several texts in one. -/
import Derived.Test.YtpddoeiakpbkbaaGreatLk5
import Derived.ChangeArms
set_option maxRecDepth 1000000
set_option maxHeartbeats 8000000
set_option linter.unusedVariables false
set_option linter.unusedSimpArgs false
noncomputable section
namespace Go.Am
open IntKind (wrap)
open Go.Proofs.Tryz
open Go.Proofs Go.Sort Go.Shelf Go.RowKit Go.Lib
def bA :R6:=⟨0,0,0,2,2,1⟩
def bB :R6:=⟨2,0,0,4,2,2⟩
def wh4 :List R6:=[⟨0,0,0,4,2,1⟩,⟨2,0,1,4,2,2⟩]
theorem can2 (r:R4) (h1:r.a<r.c) (h2:r.b<r.d):Xi.can [r]:=⟨[⟨r.a,r.c,[⟨r.b,r.d⟩]⟩],.one _ ⟨h1,can1 _ _ h2,by simp⟩,rfl⟩
theorem x0d :Zh wh4=0:=by
 refine z8h (by decide) ?_ ⟨[⟨0,1,[⟨0,0,4,2⟩]⟩,⟨1,2,[⟨2,0,4,2⟩]⟩],.cons _ _ [] ⟨by decide,can2 _ (by decide) (by decide),by simp⟩ ⟨by decide,fun _=>by simp⟩ (.one _ ⟨by decide,can2 _ (by decide) (by decide),by simp⟩),rfl⟩;intro r hr;simp only [wh4,AI,Bl,BS] at hr;rcases hr with rfl | rfl <;> rfl
theorem x2o :Zh [bA]=0:=y1i rfl
theorem w8d :Zh [bB]=0:=y1i rfl
theorem nb_A :nbS [bA]:=(x5x (S:=[bA]) rfl).1
theorem nb_B :nbS [bB]:=(x5x (S:=[bB]) rfl).1
theorem nb_W :nbS wh4:=(x5x (S:=wh4) rfl).1
theorem un_is {a b W:List R6} (ha:Zh a=0) (hb:Zh b=0) (na:nbS a) (nb:nbS b) (hW:Zh W=0) (h: ∀x y z,inS W x y z↔inS a x y z∨inS b x y z):z1o .u a b=0∧Qz .u a b=W:=by
 obtain ⟨c,pts⟩:=u_pts ha hb na nb;have e:slJ .u a b=W:=z1p.uniq _ _ c (w4o hW) fun ⟨z,x,y⟩=>by rw [←Kj,←Kj,pts,h]
 have e1:slE .u a b=0:=by
  grind [slE_u,Vk,y5j]
 refine ⟨e1,?_⟩;unfold Qz;rw [e1];exact e
theorem in_wh (x y z:Int):inS wh4 x y z↔inS [bA] x y z∨inS [bB] x y z:=by unfold inS wh4 bA bB;simp;omega
theorem wh_ld :whE [] ld4=0∧whL [] ld4=wh4:=by
 obtain ⟨a1,a0⟩:=un_is j3y x2o j6c nb_A x2o fun x y z=>by
  constructor
  ·exact .inr
  ·rintro (⟨r,hr,_⟩ | h);all_goals grind
 obtain ⟨b1,b0⟩:=un_is x2o w8d nb_A nb_B x0d in_wh;constructor
 ·show (bif z1o .u [] [bA] != 0 then _ else bif z1o .u (Qz .u [] [bA]) [bB] != 0 then _ else _)=_;rw [a1,a0,b1];rfl
 ·show Qz .u (Qz .u [] [bA]) [bB]=_;rw [a0,b0]
theorem x4y :z0c ld4=0:=by
 have g0:x6z ld4 0=false:=by show (Zh [⟨0,0,0,2,2,2⟩] != 0||_)=false;rw [y1i (b:=⟨0,0,0,2,2,2⟩) rfl];rfl
 have g1:x6z ld4 1=false:=by show (Zh [⟨2,0,0,4,2,2⟩] != 0||_)=false;rw [y1i (b:=⟨2,0,0,4,2,2⟩) rfl];rfl
 have e:skE ld4=0:=by show (bif Zh [bA] != 0 then _ else bif Zh [bB] != 0 then _ else _)=_;rw [x2o,w8d];rfl
 show (bif skE ld4 != 0 then _ else bif x6z ld4 0 then 8 else bif x6z ld4 1 then 8 else 0)=_
 grind
theorem w1g :Land ld4:=y1l x4y
theorem j5z : ∀x∈ld4,j0f x.s=true:=fun x hx=>by
 simp only [ld4,AI,Bl,BS] at hx;rcases hx with rfl | rfl <;> rfl
theorem swo_ld :z1u ld4=0∧Uo ld4=wh4:=by
 obtain ⟨e,l⟩:=wh_ld;have h1:z1u ld4=0:=by
  grind [z1u,z0i,x4y]
 refine ⟨h1,?_⟩;unfold Uo;rw [h1,l];rfl
theorem svo_ld :z4v wh4=0∧z4h wh4=12:=by refine ⟨x0d,?_⟩;unfold z4h;rw [x0d];rfl
theorem z9d (q:Ax) (r:R6) (h:q.lo r<q.hi r):plQ q [r]=[q.lo r,q.hi r]:=y1w _ _ (y6q q _) (by simp [h]) fun x=>by rw [v5s];simp
theorem x3t (M:Int→Int→List R4) (d a b:Int):z1l M d [a,b]=(M d a).map (qdA d (dhA d) a)++(M d b).map (qdA d (dhA d) b):=by
 show (M d a).map (qdA d (dhA d) a)++((M d b).map (qdA d (dhA d) b)++[])=_
 grind
theorem x4e (M:Int→Int→List R4) (S:List R6):y5n M S 6 0=z1l M 0 (plQ .x S)++(z1l M 1 (plQ .x S)++(z1l M 2 (plQ .y S)++(z1l M 3 (plQ .y S)++(z1l M 4 (plQ .z S)++z1l M 5 (plQ .z S))))):=by
 have e:y5n M S 6 0=z1l M ((0:Nat):Int) (plA (dhA ((0:Nat):Int)) S)++(z1l M ((0+1:Nat):Int) (plA (dhA ((0+1:Nat):Int)) S)++(z1l M ((0+1+1:Nat):Int) (plA (dhA ((0+1+1:Nat):Int)) S)++(z1l M ((0+1+1+1:Nat):Int) (plA (dhA ((0+1+1+1:Nat):Int)) S)++(z1l M ((0+1+1+1+1:Nat):Int) (plA (dhA ((0+1+1+1+1:Nat):Int)) S)++(z1l M ((0+1+1+1+1+1:Nat):Int) (plA (dhA ((0+1+1+1+1+1:Nat):Int)) S)++[]))))):=rfl;have p: ∀q s,plA (dhA (z6t q s:Int)) S=plQ q S:=fun q s=>by rw [x6v,v5t]
 have p0:plA (dhA ((0:Nat):Int)) S=plQ .x S:=p .x true;have p1:plA (dhA ((0+1:Nat):Int)) S=plQ .x S:=p .x false;have p2:plA (dhA ((0+1+1:Nat):Int)) S=plQ .y S:=p .y true;have p3:plA (dhA ((0+1+1+1:Nat):Int)) S=plQ .y S:=p .y false;have p4:plA (dhA ((0+1+1+1+1:Nat):Int)) S=plQ .z S:=p .z true
 grind [dhA]
theorem fs_is (q:Ax) (s:Bool) (p:Int) (R:List R4) (cR:Xi.can R) (h: ∀u v,ptL Xi.inB R (u,v)↔q.inL [bA] (y8p s p) u v∧ ¬q.inL wh4 (z5i s p) u v):FS q s [bA] wh4 p=R:=by obtain ⟨c,pts⟩:=v9r x2o x0d q s p;exact Xi.uniq _ _ c cR fun ⟨u,v⟩=>by rw [pts,h]
theorem v5r (u v:Int):ptL Xi.inB [] (u,v)↔False:=⟨fun h=>z7j _ _ h,fun h=>h.elim⟩
theorem u9y (r:R4) (u v:Int):ptL Xi.inB [r] (u,v)↔(r.a≤u∧u<r.c)∧(r.b≤v∧v<r.d):=by rw [j5t];simp
theorem j1i (q:Ax) (p u v:Int):q.inL wh4 p u v↔q.inB ⟨0,0,0,4,2,1⟩ p u v∨q.inB ⟨2,0,1,4,2,2⟩ p u v:=by unfold Ax.inL wh4;simp
theorem fs_ld :FS .x true [bA] wh4 0=[]∧FS .x true [bA] wh4 2=[]∧FS .x false [bA] wh4 0=[⟨0,0,2,1⟩]∧FS .x false [bA] wh4 2=[]∧
  FS .y true [bA] wh4 0=[]∧FS .y true [bA] wh4 2=[⟨0,0,2,1⟩]∧FS .y false [bA] wh4 0=[⟨0,0,2,1⟩]∧FS .y false [bA] wh4 2=[]∧
  FS .z true [bA] wh4 0=[]∧FS .z true [bA] wh4 1=[⟨0,0,2,2⟩]∧FS .z false [bA] wh4 0=[⟨0,0,2,2⟩]∧FS .z false [bA] wh4 1=[]:=by
 refine ⟨?_,?_,?_,?_,?_,?_,?_,?_,?_,?_,?_,?_⟩ <;>
 first
  | (refine fs_is _ _ _ [] Xi.nil fun u v=> ?_
     rw [v5r,j1i,y6v];refine ⟨False.elim,fun h=> ?_⟩;simp only [Ax.inB,Ax.lo,Ax.hi,Ax.rc,bA,y8p,z5i] at h;omega)
  | (refine fs_is _ _ _ [_] ?_ fun u v=> ?_
     ·exact can2 _ (by decide) (by decide)
     grind [u9y,j1i,y6v,Ax.inB,Ax.lo,Ax.hi,Ax.rc,bA,y8p,z5i])
theorem z4k (q:Ax) (s:Bool) {p:Int} (hp: -12≤p∧p≤12):z1i [bA] wh4 (z6t q s:Int) p=FS q s [bA] wh4 p:=(x8s x2o x0d nb_A nb_W q s hp).2
def sk4 :List R7:=[⟨1,0,0,0,0,2,1⟩,⟨2,0,2,0,2,2,1⟩,⟨3,0,0,0,2,0,1⟩,⟨4,0,0,1,2,2,1⟩,⟨5,0,0,0,2,2,0⟩]
theorem skl_ld :y5n (z1i [bA] wh4) [bA] 6 0=sk4:=by
 obtain ⟨f1,f2,f3,f4,f5,f6,f7,f8,f9,fa,fb,fc⟩:=fs_ld;rw [x4e,z9d .x bA (by decide),z9d .y bA (by decide),z9d .z bA (by decide)];rw [show (Ax.x).lo bA=0 from rfl,show (Ax.x).hi bA=2 from rfl,show (Ax.y).lo bA=0 from rfl,show (Ax.y).hi bA=2 from rfl,show (Ax.z).lo bA=0 from rfl,show (Ax.z).hi bA=1 from rfl];simp only [x3t];rw [show z1i [bA] wh4 0 0=_ from z4k .x true (by omega),show z1i [bA] wh4 0 2=_ from z4k .x true (by omega),show z1i [bA] wh4 1 0=_ from z4k .x false (by omega),show z1i [bA] wh4 1 2=_ from z4k .x false (by omega),
  show z1i [bA] wh4 2 0=_ from z4k .y true (by omega),show z1i [bA] wh4 2 2=_ from z4k .y true (by omega),show z1i [bA] wh4 3 0=_ from z4k .y false (by omega),show z1i [bA] wh4 3 2=_ from z4k .y false (by omega),
  show z1i [bA] wh4 4 0=_ from z4k .z true (by omega),show z1i [bA] wh4 4 1=_ from z4k .z true (by omega),show z1i [bA] wh4 5 0=_ from z4k .z false (by omega),show z1i [bA] wh4 5 1=_ from z4k .z false (by omega)]
 rw [f1,f2,f3,f4,f5,f6,f7,f8,f9,fa,fb,fc];rfl
theorem skn_ld :y2k ld4 0=0∧Km ld4 0=sk4:=by
 obtain ⟨e,l⟩:=wh_ld;have hw:Yu ld4=wh4:=by unfold Yu;rw [e,l];rfl
 have s1:=j3k w1g j5z (A:=wh4) x0d nb_W (fun x y z=>by
  rw [in_wh];constructor
  ·rintro (h | h)
   ·exact ⟨_,List.mem_cons_self ..,h⟩
   ·exact ⟨_,List.mem_cons_of_mem _ (List.mem_cons_self ..),h⟩
  ·rintro ⟨p,hp,h⟩;simp only [ld4,AI,Bl,BS] at hp;rcases hp with rfl | rfl
   ·exact .inl h
   ·exact .inr h) (i:=0) (by decide)
 have h1:y2k ld4 0=0:=by show (bif z0c ld4 != 0 then _ else bif z0i ld4 != 0 then _ else v2k (y3w [bA] (Yu ld4)) (z1i [bA] (Yu ld4)) [bA])=0;rw [x4y,show z0i ld4=0 from e,hw];exact s1
 refine ⟨h1,?_⟩;unfold Km;rw [h1];show y5n (z1i [bA] (Yu ld4)) [bA] 6 0=_;rw [hw,skl_ld]
theorem v2q {S T:List R6} {b:R6} (hS:Zh S=0) (hT:Zh T=0) (hb:Zh [b]=0) (nS:nbS S) (nT:nbS T) (q:Ax) (s:Bool) {p:Int} (hp: -12≤p∧p≤12) (R:List R4) (cR:Xi.can R)
  (h: ∀u v,ptL Xi.inB R (u,v)↔q.inL S (y8p s p) u v∧q.inB b (z5i s p) u v∧ ¬q.inL T (z5i s p) u v):Kv S T b (z6t q s:Int) p=R:=by
 rw [(x8h hS hT hb nS nT q s hp).2];obtain ⟨c,pts,_⟩:=w6x hS hT hb nS nT q s p;exact Xi.uniq _ _ c cR fun ⟨u,v⟩=>by rw [pts,h]
theorem u8h :Zh [(⟨0,0,0,2,2,2⟩:R6)]=0:=y1i rfl
theorem v2z (q:Ax) (s:Bool) {p:Int} (hp: -12≤p∧p≤12) (h: ¬(q=.x ∧s=false∧p=2)):Kv [bB] [bA] ⟨0,0,0,2,2,2⟩ (z6t q s:Int) p=[]:=by
 refine v2q w8d x2o u8h nb_B nb_A q s hp [] Xi.nil fun u v=> ?_;rw [v5r,y6v,y6v];refine ⟨False.elim,fun k=> ?_⟩;cases q <;> cases s <;> simp only [Ax.inB,Ax.lo,Ax.hi,Ax.rc,bA,bB,y8p,z5i] at k <;> first | omega | grind
theorem st10x :Kv [bB] [bA] ⟨0,0,0,2,2,2⟩ (z6t .x false:Int) 2=[⟨0,1,2,2⟩]:=by
 refine v2q w8d x2o u8h nb_B nb_A .x false (by decide) [_] ?_ fun u v=> ?_
 ·exact can2 _ (by decide) (by decide)
 grind [u9y,y6v,Ax.inB,Ax.lo,Ax.hi,Ax.rc,bA,bB,y8p,z5i]
theorem v1v (q:Ax) (s:Bool) {p:Int} (hp: -12≤p∧p≤12):Kv [bA] [bB] bB (z6t q s:Int) p=[]:=by
 refine v2q x2o w8d w8d nb_A nb_B q s hp [] Xi.nil fun u v=> ?_
 grind [v5r,y6v]
theorem stl_01 :y5n (Kv [bA] [bB] bB) [bA] 6 0=[]:=by
 rw [x4e,z9d .x bA (by decide),z9d .y bA (by decide),z9d .z bA (by decide)];rw [show (Ax.x).lo bA=0 from rfl,show (Ax.x).hi bA=2 from rfl,show (Ax.y).lo bA=0 from rfl,show (Ax.y).hi bA=2 from rfl,show (Ax.z).lo bA=0 from rfl,show (Ax.z).hi bA=1 from rfl];simp only [x3t];rw [show Kv [bA] [bB] bB 0 0=_ from v1v .x true (by omega),show Kv [bA] [bB] bB 0 2=_ from v1v .x true (by omega),show Kv [bA] [bB] bB 1 0=_ from v1v .x false (by omega),show Kv [bA] [bB] bB 1 2=_ from v1v .x false (by omega),
  show Kv [bA] [bB] bB 2 0=_ from v1v .y true (by omega),show Kv [bA] [bB] bB 2 2=_ from v1v .y true (by omega),show Kv [bA] [bB] bB 3 0=_ from v1v .y false (by omega),show Kv [bA] [bB] bB 3 2=_ from v1v .y false (by omega),
  show Kv [bA] [bB] bB 4 0=_ from v1v .z true (by omega),show Kv [bA] [bB] bB 4 1=_ from v1v .z true (by omega),show Kv [bA] [bB] bB 5 0=_ from v1v .z false (by omega),show Kv [bA] [bB] bB 5 1=_ from v1v .z false (by omega)]
 rfl
theorem stl_10 :y5n (Kv [bB] [bA] ⟨0,0,0,2,2,2⟩) [bB] 6 0=[⟨1,2,0,1,2,2,2⟩]:=by
 rw [x4e,z9d .x bB (by decide),z9d .y bB (by decide),z9d .z bB (by decide)];rw [show (Ax.x).lo bB=2 from rfl,show (Ax.x).hi bB=4 from rfl,show (Ax.y).lo bB=0 from rfl,show (Ax.y).hi bB=2 from rfl,show (Ax.z).lo bB=0 from rfl,show (Ax.z).hi bB=2 from rfl];simp only [x3t];rw [show Kv [bB] [bA] ⟨0,0,0,2,2,2⟩ 0 2=_ from v2z .x true (by omega) (by simp),show Kv [bB] [bA] ⟨0,0,0,2,2,2⟩ 0 4=_ from v2z .x true (by omega) (by simp),show Kv [bB] [bA] ⟨0,0,0,2,2,2⟩ 1 2=_ from st10x,show Kv [bB] [bA] ⟨0,0,0,2,2,2⟩ 1 4=_ from v2z .x false (by omega) (by simp),
  show Kv [bB] [bA] ⟨0,0,0,2,2,2⟩ 2 0=_ from v2z .y true (by omega) (by simp),show Kv [bB] [bA] ⟨0,0,0,2,2,2⟩ 2 2=_ from v2z .y true (by omega) (by simp),show Kv [bB] [bA] ⟨0,0,0,2,2,2⟩ 3 0=_ from v2z .y false (by omega) (by simp),show Kv [bB] [bA] ⟨0,0,0,2,2,2⟩ 3 2=_ from v2z .y false (by omega) (by simp),
  show Kv [bB] [bA] ⟨0,0,0,2,2,2⟩ 4 0=_ from v2z .z true (by omega) (by simp),show Kv [bB] [bA] ⟨0,0,0,2,2,2⟩ 4 2=_ from v2z .z true (by omega) (by simp),show Kv [bB] [bA] ⟨0,0,0,2,2,2⟩ 5 0=_ from v2z .z false (by omega) (by simp),show Kv [bB] [bA] ⟨0,0,0,2,2,2⟩ 5 2=_ from v2z .z false (by omega) (by simp)]
 rfl
theorem stp_ld :(Qi ld4 1 0=0∧Wp ld4 1 0=[⟨1,2,0,1,2,2,2⟩])∧Qi ld4 0 1=0∧Wp ld4 0 1=[]:=by
 have s1:=v2s w1g j5z (i:=1) (k:=0) (by decide) (by decide) (by decide);have t1:=v2s w1g j5z (i:=0) (k:=1) (by decide) (by decide) (by decide);have h1:Qi ld4 1 0=0:=by show (bif z0c ld4 != 0 then _ else v2k (y3c [bB] [bA] ⟨0,0,0,2,2,2⟩) (Kv [bB] [bA] ⟨0,0,0,2,2,2⟩) [bB])=0;rw [x4y];exact s1
 have h2:Qi ld4 0 1=0:=by show (bif z0c ld4 != 0 then _ else v2k (y3c [bA] [bB] bB) (Kv [bA] [bB] bB) [bA])=0;rw [x4y];exact t1
 refine ⟨⟨h1,?_⟩,h2,?_⟩
 ·unfold Wp;rw [h1];exact stl_10
 ·unfold Wp;rw [h2];exact stl_01
theorem mar_ld :x1d sk4=0∧y2p sk4=14:=by
 have e:w9n sk4=0:=by decide
 refine ⟨e,?_⟩;unfold y2p;rw [e];rfl
theorem j9y : ∃N,Zt w3n N y5p=.ret [.bool true]:=by
 refine ⟨0,?_⟩;have e:([(Pa.mk 0 0 0 2 2 2 ([(R6.mk 0 0 0 2 2 1)]:List R6)),(Pa.mk 2 0 0 4 2 2 ([(R6.mk 2 0 0 4 2 2)]:List R6))]:List Pa)=ld4:=rfl;obtain ⟨w1,w0⟩:=swo_ld;obtain ⟨v1,v0⟩:=svo_ld;obtain ⟨k1,k0⟩:=skn_ld;obtain ⟨⟨s1,s0⟩,t1,t0⟩:=stp_ld;obtain ⟨m1,m0⟩:=mar_ld;have sm:smP ld4=true:=by decide
 unfold y5p;simp only [Zc,e,w1,w0,v1,v0,k1,k0,s1,s0,t1,t0,m1,m0,show z8b ld4=true from sm,show z8c wh4=true from rfl,show z2r ld4 1 0=true from sm,show z2r ld4 0 1=true from sm,show z8f ld4 0=true from sm,show z9j sk4=true from rfl,show z8l [(R7.mk 1 2 0 1 2 2 2)] [(R7.mk 1 2 0 1 2 2 2)]=true from rfl,show rsqV [(R7.mk 1 2 0 1 2 2 2)] [(R7.mk 1 2 0 1 2 2 2)]=true from An rfl];rfl
def fAl4 :List AVal→Option (AVal×Bool)
 | []=>some (.bool true,true)
 | _=>none
theorem j9a {S:Specs} (hS:Zu prog S):Zu prog (S.with v6v fAl4):=by
 refine z0k hS (by kernel_rfl) fun args v h=> ?_;unfold fAl4 at h;split at h
 ·simp only [Ad,Ac,Bk] at h;subst h;obtain ⟨N,hN⟩:=j9y;exact ⟨_,_,.nil,rfl,u6d N _ hN,3,rfl⟩
 ·cases h
def j7f (l:List Pa):Bool:=bif decide ((l.length:Int)≤6) then (bif u2d l then u9a l == 0 else false) else false
def z9q (l:List Pa):Bool:=true
theorem u8u {l:List Pa} (h:u2d l=true) (h6:l.length≤6):smP l=true:=by unfold u2d at h;rw [AB (by omega),Aa,Ae] at h;unfold smP;rw [An (by omega),Ai];refine Ar.2 fun x hx=> ?_;have:=Ar.1 h.1 x hx;unfold nrX at this;simp only [Ae,Bn,Ba] at this;exact An (by omega)
theorem j7e (l:List Pa) (h:z9q l=true): ∃N,Zt (w2i l) N (y5f l)=.ret [.bool (j7f l)]:=⟨0,by
 unfold y5f j7f;by_cases g:(l.length:Int)≤6
 ·rw [An g,Ab,Ab];simp only [Zc,show z8q l=true from rfl,Ab];rcases Yw (u2d l) with q | q
  ·simp only [q,Ab,show z8r l=true from u8u q (by omega)];rfl
  ·simp only [q,Aa];rfl
 ·rw [AB g,Aa,Aa];rfl⟩
def fFit :List AVal→Option (AVal×Bool)
 | [a0]=>match asL Pa a0 with
  | some (L0,g0,n0)=>some (.bool (j7f L0),isT Pa n0 g0&&(z9q L0))
  | _=>none
 | _=>none
theorem j8r {S:Specs} (hS:Zu prog S):Zu prog (S.with nFit4 fFit):=by
 refine z0k hS (by kernel_rfl) fun args v h=> ?_;unfold fFit at h;split at h
 ·rename_i a0;split at h
  ·rename_i L0 g0 n0 e0;simp only [Ad,Ac,Ae] at h;obtain ⟨rfl,ho0,hw⟩:=h;obtain ⟨N,hN⟩:=j7e L0 hw;exact ⟨_,_,(.cons (Yh e0 ho0) .nil),rfl,u5b L0 N _ hN,3,rfl⟩
  ·cases h
 ·cases h
theorem x6p (E:Int→Int) (cs:List Int): ∀(k i:Nat),z7p E cs k i=0→ ∀j,i≤j→j<i+k→E (rd cs j)=0
 | 0,i,_,j,h1,h2=>by omega
 | k+1,i,h,j,h1,h2=>by
  change (bif E (rd cs i) != 0 then E (rd cs i) else z7p E cs k (i+1))=0 at h;cases g:(E (rd cs i) != 0) with
  | true=>rw [g,Ab] at h;rw [h] at g;cases g
  | false=>
   rw [g,Aa] at h;rcases A4 h1 with e | e
   ·rw [←e];simpa using g
   ·exact x6p E cs k (i+1) h j e (by omega)
theorem Dim.goS_congr {α β:Type} (D:Dim α β) (f g:Int→List β) (cs:List Int): ∀(k i:Nat) (s:Sw α β),(∀j,i≤j→j<i+k→f (rd cs j)=g (rd cs j))→D.goS f cs k i s=D.goS g cs k i s
 | 0,i,s,_=>rfl
 | k+1,i,s,h=>by show D.goS f cs k (i+1) (D.oneS (f (rd cs i)) _ _ s)=D.goS g cs k (i+1) (D.oneS (g (rd cs i)) _ _ s);rw [h i (Aq _) (by omega)];exact goS_congr D f g cs k (i+1) _ fun j h1 h2=>h j (by omega) (by omega)
theorem w4m {q:Op} {a b:List R6} (h:slE q a b=0):Zh a=0∧Zh b=0∧z7p (slA q a b) (D6.cuts (a++b)) ((D6.cuts (a++b)).length - 1) 0=0:=by
 unfold slE at h;cases g1:(Zh a != 0) with
 | true=>rw [g1,Ab] at h;rw [h] at g1;cases g1
 | false=>
  cases g2:(Zh b != 0) with
  | true=>rw [g1,g2,Aa,Ab] at h;rw [h] at g2;cases g2
  | false=>
   rw [g1,g2,Aa,Aa] at h;unfold eJ at h;refine ⟨by simpa using g1,by simpa using g2,?_⟩;cases g3:(z7p (slA q a b) (D6.cuts (a++b)) ((D6.cuts (a++b)).length - 1) 0 != 0) with
   | true=>rw [g3,Ab] at h;rw [h] at g3;cases g3
   | false=>simpa using g3
theorem v5c {l:List R4} (h:z8v l=0): ∀r∈l,Vi r=true:=by
 unfold z8v at h;cases g1:decide (400<l.length) with
 | true=>rw [g1] at h;cases h
 | false=>
  cases g2:l.all Vi with
  | false=>rw [g1,g2] at h;cases h
  | true=>exact Ar.1 g2
theorem v4x {l:List R4} (h:Yo l=0):l.length≤400∧(∀r∈l,Vi r=true)∧Zm l=D4.out l:=by
 unfold Yo at h;cases g1:decide (400<l.length) with
 | true=>rw [g1] at h;cases h
 | false=>
  cases g2:l.all Vi with
  | false=>rw [g1,g2] at h;cases h
  | true=>
   rw [g1,g2,Aa,Ab] at h;have hl:l.length≤400:=by have:=Bb g1;omega
   refine ⟨hl,Ar.1 g2,?_⟩;have h2:(D4.out l).length ≤400:=y0d h;exact (Qd (Ar.1 g2) hl h2).1
instance ptDec6 (l:List R6) (p:Int×Int×Int):Decidable (ptL z1p.inB l p):=Classical.propDecidable _
theorem v3r {q:Op} {a b:List R6} {x:Int} (h:slA q a b x=0):Xi.can (slS q a b x)∧ ∀p,ptL Xi.inB (slS q a b x) p↔opB q.k (decide (ptL z1p.inB a (x,p))) (decide (ptL z1p.inB b (x,p)))=true:=by
 obtain ⟨h1,h2,h3⟩:=x2j h;obtain ⟨c1,c2,_⟩:=w4y h3;obtain ⟨k1,k2,_⟩:=Qj q.k (v5c c1) (v5c c2);refine ⟨k1,fun p=> ?_⟩;have e: ∀l:List R6,Yo (D6.inn l x)=0→decide (ptL Xi.inB (Zm (D6.inn l x)) p)=decide (ptL z1p.inB l (x,p)):=fun l hl=>by
  obtain ⟨m1,m2,m3⟩:=v4x hl;have:ptL Xi.inB (Zm (D6.inn l x)) p↔ptL z1p.inB l (x,p):=by rw [m3,(Kn m2 m1).2 p];exact Dim.pt_inn (D:=D6) Xi.inB l x p
  exact decide_eq_decide.2 this
 rw [show ptL Xi.inB (slS q a b x) p↔_ from k2 p,e a h1,e b h2]
theorem w4l {q:Op} {a b:List R6} (h:z7p (slA q a b) (D6.cuts (a++b)) ((D6.cuts (a++b)).length - 1) 0=0):z1p.can (slJ q a b)∧ ∀p,ptL z1p.inB (slJ q a b) p↔opB q.k (decide (ptL z1p.inB a p)) (decide (ptL z1p.inB b p))=true:=by
 have hf:=x6p _ _ _ _ h;have hc:(D6.cuts (a++b)).Pairwise (· < ·):=by show (Jg (D6.ends (a++b))).Pairwise (· < ·);rw [Js];exact (Wx _).1
 have eS:slJ q a b=(D6.goS (fun x=>bif slA q a b x != 0 then [] else slS q a b x) (D6.cuts (a++b)) ((D6.cuts (a++b)).length - 1) 0 ⟨[],[],0,0⟩).out :=by unfold slJ;rw [D6.goS_congr (slS q a b) (fun x=>bif slA q a b x != 0 then [] else slS q a b x)];intro j h1 h2;show _=bif slA q a b _ != 0 then _ else _;rw [hf j h1 h2];rfl
 have hs: ∀x,Xi.can (bif slA q a b x != 0 then [] else slS q a b x):=fun x=>by
  cases g:(slA q a b x != 0) with
  | true=>exact Xi.nil
  | false=>exact (v3r (by simpa using g)).1
 obtain ⟨h1,h2⟩:=Dim.goS_can z2q z2t Xi (cs:=D6.cuts (a++b)) hc hs;rw [eS];refine ⟨h1,fun ⟨x,p⟩=> ?_⟩;rw [show ptL z1p.inB _ (x,p)↔_ from h2 x p];have ia: ∀j,j+1<(D6.cuts (a++b)).length →rd (D6.cuts (a++b)) j≤x→x<rd (D6.cuts (a++b)) (j+1)→(ptL Xi.inB (bif slA q a b (rd (D6.cuts (a++b)) j) != 0 then [] else slS q a b (rd (D6.cuts (a++b)) j)) p↔opB q.k (decide (ptL z1p.inB a (x,p))) (decide (ptL z1p.inB b (x,p)))=true):=fun j j1 j2 j3=>by
  have z:=hf j (Ay _) (by omega);have e: ∀l:List R6,(∀r∈l,r∈a++b)→decide (ptL z1p.inB l (rd (D6.cuts (a++b)) j,p))=decide (ptL z1p.inB l (x,p)):=fun l hl=>by
   have:ptL z1p.inB l (rd (D6.cuts (a++b)) j,p)↔ptL z1p.inB l (x,p):=by rw [show ptL z1p.inB l (rd (D6.cuts (a++b)) j,p)↔_ from (Dim.pt_inn (D:=D6) Xi.inB l _ p).symm,Dim.inn_slab (a++b) l hl j1 j2 j3];exact Dim.pt_inn (D:=D6) Xi.inB l x p
   exact decide_eq_decide.2 this
  rw [z,show ((0:Int) != 0)=false from rfl,Aa,(v3r z).2,e a fun r hr=>AH.2 (.inl hr),e b fun r hr=>AH.2 (.inr hr)]
 constructor
 ·rintro ⟨j,j1,j2,j3,j4⟩;exact (ia j j1 j2 j3).1 j4
 ·intro hp;refine A8 fun hn=> ?_;have hx: ∀j,j+1<(D6.cuts (a++b)).length → ¬(rd (D6.cuts (a++b)) j≤x∧x<rd (D6.cuts (a++b)) (j+1)):=fun j j1 j2=>hn ⟨j,j1,j2.1,j2.2,(ia j j1 j2.1 j2.2).2 hp⟩;have e: ∀l:List R6,(∀r∈l,r∈a++b)→decide (ptL z1p.inB l (x,p))=false:=fun l hl=>AB fun g=>by have g:=(Dim.pt_inn (D:=D6) Xi.inB l x p).2 g;rw [Dim.inn_out (a++b) l hl hx] at g;exact z7j _ _ g
  rw [e a fun r hr=>AH.2 (.inl hr),e b fun r hr=>AH.2 (.inr hr),j0b] at hp;cases hp
instance inSDec (l:List R6) (x y z:Int):Decidable (inS l x y z):=Classical.propDecidable _
theorem j3f {q:Op} {a b:List R6} (h:slE q a b=0):z1p.can (slJ q a b)∧ ∀p,ptL z1p.inB (slJ q a b) p↔opB q.k (decide (ptL z1p.inB a p)) (decide (ptL z1p.inB b p))=true:=w4l (w4m h).2.2
inductive slmS where
 | h0 (v8:Int)
 | h1 (v16:Int) (aD:List Int)
 | h2 (v4:Int) (aG:List R6) (aR:List R4) (bC:Int) (bD:Int) (aE:Nat) (aK:List Int)
 | h3 (v4:Int) (v38:Int) (aG:List R6) (aR:List R4) (bC:Int) (bD:Int) (aE:Nat) (aK:List Int) (aF:Int) (aZ:Int) (aA:List R4)
 | h4 (v1:Int) (v2:Int) (v72:List R4) (v73:Int) (v74:Int) (bN:List R4) (aY:Int) (aC:List R6) (bH:List R4) (bE:Int) (aE:Nat) (aK:List Int) (aF:List R4)
 | h5 (v2:Int) (v8:Int) (bZ:Int) (bN:List R4) (aY:Int) (aC:List R6) (bH:List R4) (bE:Int) (bT:Int) (bL:Nat) (bS:List Int) (aA:List R4)
def slmC (l0:List R6):slmS→Cfg
 | .h0 v8=>⟨⟨19,0,true⟩,none,(Zg prog 148 [1,0,1,0,0] 0),none,(Zy prog 6),⟨Yk [(0,(.dat l0.length (Zz l0))),(1,(.fn 104 [])),(7,(ii (l0.length:Int))),(8,(ii v8))],Vv [] 0,0,[],true⟩,[⟨⟨9,0,true⟩,(Wr prog 103 [1,0] 2),(Zg prog 103 [1,0] 1),none,(Zy prog 6),Yk [(5,(.dat l0.length (Zz l0))),(6,(.fn 104 []))]⟩,⟨⟨15,0,true⟩,(Wr prog 74 [1,1,0,0] 1),(Zg prog 74 [1,1,0,0] 1),none,(Zy prog 14),Yk [(0,(.dat l0.length (Zz l0))),(7,(.dat l0.length (Zz l0)))]⟩],.leaf⟩
 | .h1 v16 aD=>⟨⟨36,0,true⟩,none,(Zg prog 135 [1,1,0,1,0,0,1,1,0,0,1,1,0,0] 0),none,(Zy prog 9),⟨Yk [(1,(.ptr 0 0)),(3,(.ptr 2 0)),(8,(.sl 1 0 1 (.un 1))),(9,(ii 1)),(10,(ii 0)),(14,(.dat l0.length (Zz l0))),(15,(ii (l0.length:Int))),(16,(ii v16))],Vv [⟨[(.sl 1 0 1 (.un 1))],177,none⟩,⟨[(.dat l0.length (Zz l0))],32,none⟩,⟨[(.sla 7 1 0 aD.length (.un 1))],125,none⟩,⟨[.nilf],101,none⟩,⟨[.nils],33,none⟩,⟨[(ii 0)],24,none⟩,⟨[.nils,.nils,(ii 0),(ii 0)],179,none⟩,⟨Ym aD.length (Zz aD),3,some ⟨1,aD.length,(Zz aD)⟩⟩] 0,8,[],true⟩,[⟨⟨65,0,true⟩,(Wr prog 93 [1,1,0,0] 1),(Zg prog 93 [1,1,0,0] 1),none,(Zy prog 93),Yk [(2,(.ptr 3 0)),(4,(.ptr 4 0)),(5,(.ptr 5 0)),(6,(.ptr 6 0)),(13,(.sl 1 0 1 (.un 1)))]⟩,⟨⟨15,0,true⟩,(Wr prog 74 [1,1,1,0] 3),(Zg prog 74 [1,1,1,0] 1),none,(Zy prog 14),Yk [(9,(.agg [.nilf])),(11,(.sl 1 0 1 (.un 1)))]⟩],.leaf⟩
 | .h2 v4 aG aR bC bD aE aK=>⟨⟨86,0,true⟩,none,(Zg prog 162 [1,0,0] 0),none,[],⟨Yk [(0,(.yld 0)),(1,(.ptr 5 0)),(2,(.ptr 7 0)),(4,(ii v4))],z5j [(1,⟨[.nilf],101,none⟩),(2,⟨[.nils],33,none⟩),(3,⟨[(ii 0)],24,none⟩),(4,⟨[(.sla 9 6 0 aG.length (.un 6)),(.dat aR.length (Zz aR)),(ii bC),(ii bD)],179,none⟩),(5,⟨[(.sla 6 1 0 aE (.un 1))],125,none⟩),(6,⟨Ym aK.length (Zz aK),3,some ⟨1,aK.length,(Zz aK)⟩⟩),(7,⟨[(.sl 8 0 1 (.un 1))],177,none⟩),(8,⟨[(.dat l0.length (Zz l0))],32,none⟩),(9,⟨Ym aG.length (Zz aG),57,some ⟨6,aG.length,(Zz aG)⟩⟩)],10,[],true⟩,[⟨⟨65,0,true⟩,none,(.inRangeFunc 0::(Zg prog 93 [1,1,0,1,0] 1)),none,(Zy prog 93),Yk [(4,(.ptr 2 0)),(5,(.ptr 3 0)),(6,(.ptr 4 0))]⟩,⟨⟨15,0,true⟩,(Wr prog 74 [1,1,1,0] 3),(Zg prog 74 [1,1,1,0] 1),none,(Zy prog 14),Yk [(9,(.agg [.nilf])),(11,(.sl 8 0 1 (.un 1)))]⟩],(z9k [(0,⟨.ready,none,65,Yk [(2,(.ptr 1 0)),(4,(.ptr 2 0)),(5,(.ptr 3 0)),(6,(.ptr 4 0))],[15],(Wq prog 93 [1,1,0,1,0,0]),(Wq prog 93 [1,1,0,1,0,1])⟩)])⟩
 | .h3 v4 v38 aG aR bC bD aE aK aF aZ aA=>⟨⟨86,0,true⟩,none,(Zg prog 162 [1,0,0,1,0,0,1,0,1,0,0,1,1,0,0,1,1,0,0] 0),none,[],⟨Yk [(0,(.yld 0)),(1,(.ptr 5 0)),(2,(.ptr 7 0)),(4,(ii v4)),(5,(.ptr 9 0)),(6,(ii 0)),(29,(.sl 8 0 1 (.un 1))),(30,(ii 1)),(31,(ii 0)),(36,(.dat l0.length (Zz l0))),(37,(ii (l0.length:Int))),(38,(ii v38))],z5j [(1,⟨[.nilf],101,none⟩),(2,⟨[.nils],33,none⟩),(3,⟨[(ii 0)],24,none⟩),(4,⟨[(.sla 12 6 0 aG.length (.un 6)),(.dat aR.length (Zz aR)),(ii bC),(ii bD)],179,none⟩),(5,⟨[(.sla 6 1 0 aE (.un 1))],125,none⟩),(6,⟨Ym aK.length (Zz aK),3,some ⟨1,aK.length,(Zz aK)⟩⟩),(7,⟨[(.sl 8 0 1 (.un 1))],177,none⟩),(8,⟨[(.dat l0.length (Zz l0))],32,none⟩),(9,⟨[(ii aF),(ii aZ),(.sl 10 0 1 (.ex 1))],184,none⟩),(10,⟨[(.sla 11 4 0 aA.length (.un 4))],80,none⟩),(11,⟨Ym aA.length (Zz aA),116,some ⟨4,aA.length,(Zz aA)⟩⟩),(12,⟨Ym aG.length (Zz aG),57,some ⟨6,aG.length,(Zz aG)⟩⟩)],13,[],true⟩,[⟨⟨65,0,true⟩,none,(.inRangeFunc 0::(Zg prog 93 [1,1,0,1,0] 1)),none,(Zy prog 93),Yk [(4,(.ptr 2 0)),(5,(.ptr 3 0)),(6,(.ptr 4 0))]⟩,⟨⟨15,0,true⟩,(Wr prog 74 [1,1,1,0] 3),(Zg prog 74 [1,1,1,0] 1),none,(Zy prog 14),Yk [(9,(.agg [.nilf])),(11,(.sl 8 0 1 (.un 1)))]⟩],(z9k [(0,⟨.ready,none,65,Yk [(2,(.ptr 1 0)),(4,(.ptr 2 0)),(5,(.ptr 3 0)),(6,(.ptr 4 0))],[15],(Wq prog 93 [1,1,0,1,0,0]),(Wq prog 93 [1,1,0,1,0,1])⟩)])⟩
 | .h4 v1 v2 v72 v73 v74 bN aY aC bH bE aE aK aF=>⟨⟨101,0,true⟩,none,(Zg prog 136 [1,1,1,0,0] 0),none,[],⟨Yk [(0,(.ptr 0 0)),(1,(ii v1)),(2,(ii v2)),(72,(.dat v72.length (Zz v72))),(73,(ii v73)),(74,(ii v74))],z5j [(0,⟨[(.sla 10 6 0 aC.length (.un 6)),(.dat bH.length (Zz bH)),(ii bE),(ii v2)],179,none⟩),(2,⟨[.nilf],101,none⟩),(3,⟨[.nils],33,none⟩),(4,⟨[(ii 0)],24,none⟩),(5,⟨[(.sla 6 1 0 aE (.un 1))],125,none⟩),(6,⟨Ym aK.length (Zz aK),3,some ⟨1,aK.length,(Zz aK)⟩⟩),(7,⟨[(.sl 8 0 1 (.un 1))],177,none⟩),(8,⟨[(.dat l0.length (Zz l0))],32,none⟩),(9,⟨[(.dat aF.length (Zz aF))],80,none⟩),(10,⟨Ym aC.length (Zz aC),57,some ⟨6,aC.length,(Zz aC)⟩⟩)],11,[],true⟩,[⟨⟨65,0,true⟩,(Wr prog 93 [1,1,0,1,0,1,0,1,1,1] 5),(Zg prog 93 [1,1,0,1,0,1,0,1,1,1] 1),(some 1),[],Yk [(6,(.ptr 0 0)),(54,(ii v1)),(56,(ii v2)),(57,(.dat bN.length (Zz bN)))]⟩,⟨⟨86,0,true⟩,(Wr prog 162 [1,0,0,1,0,0,1,1,0] 2),(Zg prog 162 [1,0,0,1,0,0,1,1,0] 1),none,[],Yk [(0,(.yld 1)),(1,(.ptr 5 0)),(2,(.ptr 7 0)),(4,(ii aY)),(82,(.yld 1)),(83,(.agg [(ii v1),(ii v2),(.sl 9 0 1 (.ex 1))]))]⟩,⟨⟨65,0,true⟩,none,(.inRangeFunc 1::(Zg prog 93 [1,1,0,1,0] 1)),none,(Zy prog 93),Yk [(4,(.ptr 3 0)),(5,(.ptr 4 0)),(6,(.ptr 0 0))]⟩,⟨⟨15,0,true⟩,(Wr prog 74 [1,1,1,0] 3),(Zg prog 74 [1,1,1,0] 1),none,(Zy prog 14),Yk [(9,(.agg [.nilf])),(11,(.sl 8 0 1 (.un 1)))]⟩],(z9k [(1,⟨.busy,none,65,Yk [(2,(.ptr 2 0)),(4,(.ptr 3 0)),(5,(.ptr 4 0)),(6,(.ptr 0 0))],[15],(Wq prog 93 [1,1,0,1,0,0]),(Wq prog 93 [1,1,0,1,0,1])⟩)])⟩
 | .h5 v2 v8 bZ bN aY aC bH bE bT bL bS aA=>⟨⟨101,0,true⟩,none,(Zg prog 136 [0,1,0,0,1,0,0] 0),none,[],⟨Yk [(0,(.ptr 0 0)),(2,(ii v2)),(8,(ii v8))],z5j [(0,⟨[(.sla 1 6 0 aC.length (.un 6)),(.dat bH.length (Zz bH)),(ii bE),(ii bT)],179,none⟩),(1,⟨Ym aC.length (Zz aC),57,some ⟨6,aC.length,(Zz aC)⟩⟩),(3,⟨[.nilf],101,none⟩),(4,⟨[.nils],33,none⟩),(5,⟨[(ii 0)],24,none⟩),(6,⟨[(.sla 7 1 0 bL (.un 1))],125,none⟩),(7,⟨Ym bS.length (Zz bS),3,some ⟨1,bS.length,(Zz bS)⟩⟩),(8,⟨[(.sl 9 0 1 (.un 1))],177,none⟩),(9,⟨[(.dat l0.length (Zz l0))],32,none⟩),(10,⟨[(.dat aA.length (Zz aA))],80,none⟩)],11,[],true⟩,[⟨⟨65,0,true⟩,(Wr prog 93 [1,1,0,1,0,1,0,1,1,1] 5),(Zg prog 93 [1,1,0,1,0,1,0,1,1,1] 1),(some 2),[],Yk [(6,(.ptr 0 0)),(54,(ii bZ)),(56,(ii v2)),(57,(.dat bN.length (Zz bN)))]⟩,⟨⟨86,0,true⟩,(Wr prog 162 [1,0,0,1,0,0,1,1,0] 2),(Zg prog 162 [1,0,0,1,0,0,1,1,0] 1),none,[],Yk [(0,(.yld 2)),(1,(.ptr 6 0)),(2,(.ptr 8 0)),(4,(ii aY)),(82,(.yld 2)),(83,(.agg [(ii bZ),(ii v2),(.sl 10 0 1 (.ex 1))]))]⟩,⟨⟨65,0,true⟩,none,(.inRangeFunc 2::(Zg prog 93 [1,1,0,1,0] 1)),none,(Zy prog 93),Yk [(4,(.ptr 4 0)),(5,(.ptr 5 0)),(6,(.ptr 0 0))]⟩,⟨⟨15,0,true⟩,(Wr prog 74 [1,1,1,0] 3),(Zg prog 74 [1,1,1,0] 1),none,(Zy prog 14),Yk [(9,(.agg [.nilf])),(11,(.sl 9 0 1 (.un 1)))]⟩],(z9k [(2,⟨.busy,none,65,Yk [(2,(.ptr 3 0)),(4,(.ptr 4 0)),(5,(.ptr 5 0)),(6,(.ptr 0 0))],[15],(Wq prog 93 [1,1,0,1,0,0]),(Wq prog 93 [1,1,0,1,0,1])⟩)])⟩
def slmN0 :List (Option (List Nat)):=[some [0,1,7,8],some [5,6],some [0,7]]
def slmM0 :List (Option (List Nat)):=[]
def j2z :List (Option (List Nat)):=[some [1,3,8,9,10,14,15,16],some [2,4,5,6,13],some [9,11]]
def j3b :List (Option (List Nat)):=[]
def j2y :List (Option (List Nat)):=[some [0,1,2,4],some [4,5,6],some [9,11]]
def j3a :List (Option (List Nat)):=[some [2,4,5,6],none,none,none,none,none,none,none,none,none]
def u0p :List (Option (List Nat)):=[some [0,1,2,4,5,6,29,30,31,36,37,38],some [4,5,6],some [9,11]]
def u0r :List (Option (List Nat)):=[some [2,4,5,6],none,none,none,none,none,none,none,none,none,none,none,none]
def u0o :List (Option (List Nat)):=[some [0,1,2,72,73,74],some [6,54,56,57],some [0,1,2,4,82,83],some [4,5,6],some [9,11]]
def u0q :List (Option (List Nat)):=[none,some [2,4,5,6],none,none,none,none,none,none,none,none,none]
def slmN5 :List (Option (List Nat)):=[some [0,2,8],some [6,54,56,57],some [0,1,2,4,82,83],some [4,5,6],some [9,11]]
def slmM5 :List (Option (List Nat)):=[none,none,some [2,4,5,6],none,none,none,none,none,none,none,none]
def Xb (l0:List R6):slmS→Xw slmS
 | .h0 v8=>(bif (decide (v8<(l0.length:Int))) then (bif ((decide (0≤v8∧v8<(l0.length:Int)))&&true) then (bif (!(j1y (rd l0 v8.toNat).a (rd l0 v8.toNat).b (rd l0 v8.toNat).c (rd l0 v8.toNat).d (rd l0 v8.toNat).e (rd l0 v8.toNat).f)) then (bif (decide (v8≥0)) then (.ret [.nils,(.int .i64 8)]) else (.to (.h1 0 ([]:List Int)))) else (.to (.h0 (wrap .i64 (v8+1))))) else .stuck) else (.to (.h1 0 ([]:List Int))))
 | .h1 v16 aD=>(bif (decide (v16<(l0.length:Int))) then (bif ((decide (0≤v16∧v16<(l0.length:Int)))&&true) then (bif (Nat.beq 1 1&&((decide (0+aD.length=aD.length))&&decide ((aD.length+2+1)*(8+1)≤Jo))) then (.to (.h1 (wrap .i64 (v16+1)) (aD++[(rd l0 v16.toNat).c,(rd l0 v16.toNat).f]))) else .stuck) else .stuck) else (bif (decide (aD.length<4611686018427387904)) then (bif (decide (aD.length=aD.length)) then (.to (.h2 1 ([]:List R6) ([]:List R4) 0 0 (v1y (Yq aD.length (cOf (Zz (Xk (Yq aD.length (cOf (Zz aD)))))))) (Wy (Yq aD.length (cOf (Zz (Xk (Yq aD.length (cOf (Zz aD)))))))))) else .stuck) else .stuck))
 | .h2 v4 aG aR bC bD aE aK=>(bif (decide (v4<((aE:Nat):Int))) then (bif ((decide (0≤(wrap .i64 (v4 - 1))∧(wrap .i64 (v4 - 1))<((aE:Nat):Int)))&&true) then (bif (decide ((0+(Int.toNat (wrap .i64 (v4 - 1))))<aK.length)) then (bif ((decide (0≤v4∧v4<((aE:Nat):Int)))&&true) then (bif (decide ((0+v4.toNat)<aK.length)) then (.to (.h3 v4 0 aG aR bC bD aE aK (rd aK (0+(Int.toNat (wrap .i64 (v4 - 1))))) (rd aK (0+v4.toNat)) ([]:List R4))) else .stuck) else .stuck) else .stuck) else .stuck) else (bif (decide ((aG.length:Int)>400)) then (.ret [.nils,(.int .i64 4)]) else (.ret [(.dat aG.length (Zz aG)),(.int .i64 0)])))
 | .h3 v4 v38 aG aR bC bD aE aK aF aZ aA=>(bif (decide (v38<(l0.length:Int))) then (bif ((decide (0≤v38∧v38<(l0.length:Int)))&&true) then (bif (decide ((rd l0 v38.toNat).c ≤aF)) then (bif (decide (aF<(rd l0 v38.toNat).f)) then (bif (Nat.beq 4 4&&((decide (0+aA.length=aA.length))&&decide ((aA.length+1+1)*(32+1)≤Jo))) then (.to (.h3 v4 (wrap .i64 (v38+1)) aG aR bC bD aE aK aF aZ (aA++[(R4.mk (rd l0 v38.toNat).a (rd l0 v38.toNat).b (rd l0 v38.toNat).d (rd l0 v38.toNat).e)]))) else .stuck) else (.to (.h3 v4 (wrap .i64 (v38+1)) aG aR bC bD aE aK aF aZ aA))) else (.to (.h3 v4 (wrap .i64 (v38+1)) aG aR bC bD aE aK aF aZ aA))) else .stuck) else (bif (Uq (cvT aA)) then (bif ((Yo (cvT aA)) != 0) then (.ret [.nils,(.int .i64 (Yo (cvT aA)))]) else (bif (decide ((((Zm (cvT aA)).length :Nat):Int)>0)) then (bif (bD == aF) then (bif (Wv (cvT aR) (cvT (Zm (cvT aA)))) then (bif (Vh (cvT aR) (cvT (Zm (cvT aA)))) then (.to (.h5 aZ bC aF (Zm (cvT aA)) v4 aG aR bC bD aE aK aA)) else (.to (.h4 aF aZ (Zm (cvT aA)) (((Zm (cvT aA)).length :Nat):Int) 0 (Zm (cvT aA)) v4 aG (Zm (cvT aA)) (aG.length:Int) aE aK aA))) else .stuck) else (.to (.h4 aF aZ (Zm (cvT aA)) (((Zm (cvT aA)).length :Nat):Int) 0 (Zm (cvT aA)) v4 aG (Zm (cvT aA)) (aG.length:Int) aE aK aA))) else (.to (.h4 aF aZ (Zm (cvT aA)) (((Zm (cvT aA)).length :Nat):Int) 0 (Zm (cvT aA)) v4 aG (Zm (cvT aA)) (aG.length:Int) aE aK aA)))) else .stuck))
 | .h4 v1 v2 v72 v73 v74 bN aY aC bH bE aE aK aF=>(bif (decide (v74<v73)) then (bif ((decide (0≤v74∧v74<(v72.length:Int)))&&true) then (bif (Nat.beq 6 6&&((decide (0+aC.length=aC.length))&&decide ((aC.length+1+1)*(48+1)≤Jo))) then (.to (.h4 v1 v2 v72 v73 (wrap .i64 (v74+1)) bN aY (aC++[(R6.mk (rd v72 v74.toNat).a (rd v72 v74.toNat).b v1 (rd v72 v74.toNat).c (rd v72 v74.toNat).d v2)]) bH bE aE aK aF)) else .stuck) else .stuck) else (.to (.h2 (wrap .i64 (aY+1)) aC bH bE v2 aE aK)))
 | .h5 v2 v8 bZ bN aY aC bH bE bT bL bS aA=>(bif (decide (v8<(aC.length:Int))) then (bif ((decide (0≤v8∧v8<(aC.length:Int)))&&true) then (bif (decide ((0+v8.toNat)<aC.length)) then (.to (.h5 v2 (wrap .i64 (v8+1)) bZ bN aY (aC.set (0+v8.toNat) (R6.mk (rd aC (0+v8.toNat)).a (rd aC (0+v8.toNat)).b (rd aC (0+v8.toNat)).c (rd aC (0+v8.toNat)).d (rd aC (0+v8.toNat)).e v2)) bH bE bT bL bS aA)) else .stuck) else .stuck) else (.to (.h2 (wrap .i64 (aY+1)) aC bH bE v2 bL bS)))
def y3t (l0:List R6):Xw slmS:=(bif (decide ((l0.length:Int)>400)) then (.ret [.nils,(.int .i64 4)]) else (.to (.h0 0)))
theorem w7u (l0:List R6): ∀s,Xv prog (Zy prog 74) (slmC l0) (slmC l0 s) (Xb l0 s)
 | .h0 v8=>(lb (fun k0=>(lo fun aI=>(lb (fun k1=>(lb (fun k2=>(lr 15 74 [1,1,0,1,0,0] 1 14 [(2,.nils),(3,(ii 8))] (sl Xx 54 [] ⟨[],[],[some [2,3]],[]⟩ ⟨[],[],[]⟩ (trs 3 []) (tt k2 (tt k1 (ww aI (tt k0 nn))))))) (fun k2=>(sl Xx 112 [(3,1,Zz ([]:List Int))] ⟨[6,1,7,2,3,4,5,8],[],j2z,j3b⟩ ⟨[],[.keep,.keep,.cells [.grow 7 1],.keep,.keep,.keep,.keep,.keep],[]⟩ (bl 4 11) (pp (fl ([]:List Int) nn) (tt k2 (tt k1 (ww aI (tt k0 nn))))))))) (fun k1=>(sl Xx 44 [] ⟨[],[],slmN0,slmM0⟩ ⟨[],[],[]⟩ (bl 2 1) (tt k1 (ww aI (tt k0 nn)))))))) (fun k0=>(sl Xx 81 [(3,1,Zz ([]:List Int))] ⟨[5,0,6,1,2,3,4,7],[],j2z,j3b⟩ ⟨[],[.keep,.keep,.cells [.grow 7 1],.keep,.keep,.keep,.keep,.keep],[]⟩ (bl 3 4) (pp (fl ([]:List Int) nn) (tt k0 nn)))))
 | .h1 v16 aD=>(lb (fun k0=>(lo fun o0=>(lo fun o1=>(sl Xx 34 [] ⟨[0,1,2,3,4,5,6,10],[],j2z,j3b⟩ ⟨[],[.keep,.keep,.cells [.len (aD++[(rd l0 (tn v16)).c,(rd l0 (tn v16)).f]).length],.keep,.keep,.keep,.keep,.rowed 1 (aD++[(rd l0 (tn v16)).c,(rd l0 (tn v16)).f]).length (Zz (aD++[(rd l0 (tn v16)).c,(rd l0 (tn v16)).f]))],[]⟩ [true] (pp (xL (aD.length+2) (aD++[(rd l0 (tn v16)).c,(rd l0 (tn v16)).f]).length) (pp (xL (aD.length+2) (aD++[(rd l0 (tn v16)).c,(rd l0 (tn v16)).f]).length) (pp (xS (aD.length+2) (Zr (Zz aD) 0 aD.length 1 [(ii (rd l0 (tn v16)).c),(ii (rd l0 (tn v16)).f)]) (Zz (aD++[(rd l0 (tn v16)).c,(rd l0 (tn v16)).f]))) (pp (pp (xF (Zr (Zz aD) 0 aD.length 1 [(ii (rd l0 (tn v16)).c),(ii (rd l0 (tn v16)).f)])) nn) (ww o1 (ww o0 (tt k0 nn))))))))))) (fun k0=>(lo fun o0=>(lo fun o1=>(sl Xx 46 [(57,6,Zz ([]:List R6))] ⟨[8,3,4,5,6,2,7,0,1,9],[],j2y,j3a⟩ ⟨[],(kpB 4 [.cells [.grow 9 6,.list 0 (Zz ([]:List R4)),.keep,.keep],.keep,.rowed 1 (Wy (Yq aD.length (cOf (Zz (Xk (Yq aD.length (cOf (Zz aD)))))))).length (Zz (Wy (Yq aD.length (cOf (Zz (Xk (Yq aD.length (cOf (Zz aD))))))))),.keep,.keep,.keep]),[]⟩ (bl 2 0) (pp (xL aD.length (Wy (Yq aD.length (cOf (Zz (Xk (Yq aD.length (cOf (Zz aD)))))))).length (by first | exact z1d _ _ | exact Vo rfl)) (pp (xS aD.length (Zz (Wy (Yq aD.length (cOf (Zz (Xk (Yq aD.length (cOf (Zz aD))))))))) (Zz (Wy (Yq aD.length (cOf (Zz (Xk (Yq aD.length (cOf (Zz aD)))))))))) (pp (fl (Wy (Yq aD.length (cOf (Zz (Xk (Yq aD.length (cOf (Zz aD)))))))) (fl ([]:List R6) nn)) (pp (pp (xG (Nat.beq 1 1)) (pp (xG (Nat.beq 1 1)) (pp (xG (Nat.beq 0 0)) (pp (xG (decide (aD.length=aD.length))) (pp (xG (isI (Zz (Xk (Yq aD.length (cOf (Zz aD))))))) (xG (decide (aD.length<4611686018427387904)))))))) (pp (pp (xG (Nat.beq 1 1)) (pp (xG (Nat.beq 1 1)) (pp (xG (Nat.beq 0 0)) (pp (xG (decide (aD.length=aD.length))) (pp (xG (isI (Zz aD))) (xG (decide (aD.length<4611686018427387904)))))))) (tt k0 nn)))))))))))
 | .h2 v4 aG aR bC bD aE aK=>(lb (fun k0=>(lo fun o0=>(lo fun o1=>(lo fun o2=>(lo fun o3=>(sl Xx 48 [(116,4,Zz ([]:List R4))] ⟨[0,1,2,3,4,5,6,7,8,10,11,12,9],[],u0p,u0r⟩ ⟨[],(kpB 10 [.cells [.grow 11 4],.keep,.keep]),[]⟩ (trs 3 []) (pp (fl aK (fl ([]:List R4) (fl aG nn))) (ww o3 (ww o2 (ww o1 (ww o0 (tt k0 nn)))))))))))) (fun k0=>(lb (fun k1=>(lr 15 3 [1,1,1,1,0] 1 14 [(2,.nils),(3,(ii 4))] (sl Xx 33 [] ⟨[],[],[some [2,3]],[]⟩ ⟨[],[],[]⟩ (bl 2 2) (tt k1 (tt k0 nn))))) (fun k1=>(lr 15 3 [1,1,1,1,0] 1 14 [(2,(.dat aG.length (Zz aG))),(3,(ii 0))] (sl Xx 36 [] ⟨[],[9],[some [2,3]],[]⟩ ⟨[(2,.frz aG.length aG.length (Zz aG) (Zz aG))],[],[]⟩ (bl 2 0) (pp (xZ (z4o 6 6 0 aG.length aG.length (Zz aG)) aG.length (Zz aG)) (pp (xL aG.length aG.length) (pp (xS aG.length (Zz aG) (Zz aG)) (pp (fl aG nn) (tt k1 (tt k0 nn))))))))))))
 | .h3 v4 v38 aG aR bC bD aE aK aF aZ aA=>(lb (fun k0=>(lo fun aI=>(lb (fun k1=>(lb (fun k2=>(lo fun o0=>(sl Xx 41 [] ⟨[0,1,2,3,4,5,6,7,8,9,10,15,12],[],u0p,u0r⟩ ⟨[],(kpB 10 [.cells [.len (aA++[(R4.mk (rd l0 (tn v38)).a (rd l0 (tn v38)).b (rd l0 (tn v38)).d (rd l0 (tn v38)).e)]).length],.rowed 4 (aA++[(R4.mk (rd l0 (tn v38)).a (rd l0 (tn v38)).b (rd l0 (tn v38)).d (rd l0 (tn v38)).e)]).length (Zz (aA++[(R4.mk (rd l0 (tn v38)).a (rd l0 (tn v38)).b (rd l0 (tn v38)).d (rd l0 (tn v38)).e)])),.keep]),[]⟩ (trs 8 []) (pp (xL (aA.length+1) (aA++[(R4.mk (rd l0 (tn v38)).a (rd l0 (tn v38)).b (rd l0 (tn v38)).d (rd l0 (tn v38)).e)]).length) (pp (xL (aA.length+1) (aA++[(R4.mk (rd l0 (tn v38)).a (rd l0 (tn v38)).b (rd l0 (tn v38)).d (rd l0 (tn v38)).e)]).length) (pp (xS (aA.length+1) (Zr (Zz aA) 0 aA.length 4 [(ii (rd l0 (tn v38)).a),(ii (rd l0 (tn v38)).b),(ii (rd l0 (tn v38)).d),(ii (rd l0 (tn v38)).e)]) (Zz (aA++[(R4.mk (rd l0 (tn v38)).a (rd l0 (tn v38)).b (rd l0 (tn v38)).d (rd l0 (tn v38)).e)]))) (pp (fl aK (pp (xF (Zr (Zz aA) 0 aA.length 4 [(ii (rd l0 (tn v38)).a),(ii (rd l0 (tn v38)).b),(ii (rd l0 (tn v38)).d),(ii (rd l0 (tn v38)).e)])) (fl aG nn))) (ww o0 (tt k2 (tt k1 (ww aI (tt k0 nn)))))))))))) (fun k2=>(sl Xx 41 [] ⟨(List.range 13),[],u0p,u0r⟩ ⟨[],[],[]⟩ (trs 7 [false]) (pp (fl aK (fl aA (fl aG nn))) (tt k2 (tt k1 (ww aI (tt k0 nn))))))))) (fun k1=>(sl Xx 41 [] ⟨(List.range 13),[],u0p,u0r⟩ ⟨[],[],[]⟩ (bl 8 1) (pp (fl aK (fl aA (fl aG nn))) (tt k1 (ww aI (tt k0 nn))))))))) (fun k0=>(Xd (sl Xx (C':=⟨⟨65,0,true⟩,(Wr prog 93 [1,1,0,1,0,1,0,0] 4),(Zg prog 93 [1,1,0,1,0,1,0,0] 1),(some 0),[],⟨Yk [(2,(.ptr 1 0)),(4,(.ptr 2 0)),(5,(.ptr 3 0)),(6,(.ptr 4 0)),(7,(.ptr 6 0)),(20,(.dat aA.length (Zz aA)))],z5j [(1,⟨[.nilf],101,none⟩),(2,⟨[.nils],33,none⟩),(3,⟨[(ii 0)],24,none⟩),(4,⟨[(.sla 5 6 0 aG.length (.un 6)),(.dat aR.length (Zz aR)),(ii bC),(ii bD)],179,none⟩),(5,⟨Ym aG.length (Zz aG),57,some ⟨6,aG.length,(Zz aG)⟩⟩),(6,⟨[(ii aF),(ii aZ),(.sl 7 0 1 (.ex 1))],184,none⟩),(7,⟨[(.dat aA.length (Zz aA))],80,none⟩),(8,⟨[(.sla 9 1 0 aE (.un 1))],125,none⟩),(9,⟨Ym aK.length (Zz aK),3,some ⟨1,aK.length,(Zz aK)⟩⟩),(10,⟨[(.sl 11 0 1 (.un 1))],177,none⟩),(11,⟨[(.dat l0.length (Zz l0))],32,none⟩)],12,[],true⟩,[⟨⟨86,0,true⟩,(Wr prog 162 [1,0,0,1,0,0,1,1,0] 2),(Zg prog 162 [1,0,0,1,0,0,1,1,0] 1),none,[],Yk [(0,(.yld 0)),(1,(.ptr 8 0)),(2,(.ptr 10 0)),(4,(ii v4)),(82,(.yld 0)),(83,(.agg [(ii aF),(ii aZ),(.sl 7 0 1 (.ex 1))]))]⟩,⟨⟨65,0,true⟩,none,(.inRangeFunc 0::(Zg prog 93 [1,1,0,1,0] 1)),none,(Zy prog 93),Yk [(4,(.ptr 2 0)),(5,(.ptr 3 0)),(6,(.ptr 4 0))]⟩,⟨⟨15,0,true⟩,(Wr prog 74 [1,1,1,0] 3),(Zg prog 74 [1,1,1,0] 1),none,(Zy prog 14),Yk [(9,(.agg [.nilf])),(11,(.sl 11 0 1 (.un 1)))]⟩],(z9k [(0,⟨.busy,none,65,Yk [(2,(.ptr 1 0)),(4,(.ptr 2 0)),(5,(.ptr 3 0)),(6,(.ptr 4 0))],[15],(Wq prog 93 [1,1,0,1,0,0]),(Wq prog 93 [1,1,0,1,0,1])⟩)])⟩) 37 [] ⟨[0,1,2,3,4,12,13,10,5,6,7,8],[11],[some [2,4,5,6,7,20],some [0,1,2,4,82,83],some [4,5,6],some [9,11]],[some [2,4,5,6],none,none,none,none,none,none,none,none,none,none,none]⟩ ⟨[(20,.frz aA.length aA.length (Zz aA) (Zz aA))],[.keep,.keep,.keep,.keep,.keep,.keep,.keep,.cells [.frz aA.length aA.length (Zz aA) (Zz aA)],.keep,.keep,.keep,.keep],[]⟩ (bl 2 0) (pp (xZ (z4o 4 4 0 aA.length aA.length (Zz aA)) aA.length (Zz aA)) (pp (xL aA.length aA.length) (pp (xS aA.length (Zz aA) (Zz aA)) (pp (xZ (z4o 4 4 0 aA.length aA.length (Zz aA)) aA.length (Zz aA)) (pp (xL aA.length aA.length) (pp (xS aA.length (Zz aA) (Zz aA)) (pp (fl aG (fl aK nn)) (pp (fl aA nn) (tt k0 nn)))))))))) (lo fun aI=>(lb (fun k1=>(lr 15 3 [1,1,1,1,0] 1 14 [(2,.nils),(3,(ii (Yo (cvT aA))))] (sl Xx 50 [] ⟨[],[],[some [2,3]],[]⟩ ⟨[],[],[]⟩ (bl 3 6) (tt k1 (pp (pp (xr aA) (xw aI)) nn))))) (fun k1=>(lb (fun k2=>(lb (fun k3=>(lo fun cC=>(lb (fun k4=>(sl Xx 75 [] ⟨[4,5,0,1,2,3,8,9,10,11,7],[],slmN5,slmM5⟩ ⟨[],[],[]⟩ (bl 15 32764) (pp (fl aG (fl aK nn)) (tt k4 (pp (pp (xr aR) (pp (xI R4 (Zm (cvT aA)).length (Zz (Zm (cvT aA)))) (xw cC))) (tt k3 (tt k2 (tt k1 (pp (pp (xr aA) (xw aI)) nn))))))))) (fun k4=>(sl Xx 95 [] ⟨[4,0,1,2,3,8,9,10,11,7,5],[],u0o,u0q⟩ ⟨[],[],[]⟩ (bl 15 16380) (pp (fl aK (fl aG nn)) (tt k4 (pp (pp (xr aR) (pp (xI R4 (Zm (cvT aA)).length (Zz (Zm (cvT aA)))) (xw cC))) (tt k3 (tt k2 (tt k1 (pp (pp (xr aA) (xw aI)) nn)))))))))))) (fun k3=>(sl Xx 95 [] ⟨[4,0,1,2,3,8,9,10,11,7,5],[],u0o,u0q⟩ ⟨[],[],[]⟩ (bl 15 252) (pp (fl aK (fl aG nn)) (tt k3 (tt k2 (tt k1 (pp (pp (xr aA) (xw aI)) nn))))))))) (fun k2=>(sl Xx 95 [] ⟨[4,0,1,2,3,8,9,10,11,7,5],[],u0o,u0q⟩ ⟨[],[],[]⟩ (bl 15 0) (pp (fl aK (fl aG nn)) (tt k2 (tt k1 (pp (pp (xr aA) (xw aI)) nn)))))))))))))
 | .h4 v1 v2 v72 v73 v74 bN aY aC bH bE aE aK aF=>(lb (fun k0=>(lo fun o0=>(lo fun o1=>(sl Xx 23 [] ⟨[0,1,2,3,4,5,6,7,8,9,13],[],u0o,u0q⟩ ⟨[],[.cells [.len (aC++[(R6.mk (rd v72 (tn v74)).a (rd v72 (tn v74)).b v1 (rd v72 (tn v74)).c (rd v72 (tn v74)).d v2)]).length,.keep,.keep,.keep],.keep,.keep,.keep,.keep,.keep,.keep,.keep,.keep,.keep,.rowed 6 (aC++[(R6.mk (rd v72 (tn v74)).a (rd v72 (tn v74)).b v1 (rd v72 (tn v74)).c (rd v72 (tn v74)).d v2)]).length (Zz (aC++[(R6.mk (rd v72 (tn v74)).a (rd v72 (tn v74)).b v1 (rd v72 (tn v74)).c (rd v72 (tn v74)).d v2)]))],[]⟩ [true] (pp (xL (aC.length+1) (aC++[(R6.mk (rd v72 (tn v74)).a (rd v72 (tn v74)).b v1 (rd v72 (tn v74)).c (rd v72 (tn v74)).d v2)]).length) (pp (xL (aC.length+1) (aC++[(R6.mk (rd v72 (tn v74)).a (rd v72 (tn v74)).b v1 (rd v72 (tn v74)).c (rd v72 (tn v74)).d v2)]).length) (pp (xS (aC.length+1) (Zr (Zz aC) 0 aC.length 6 [(ii (rd v72 (tn v74)).a),(ii (rd v72 (tn v74)).b),(ii v1),(ii (rd v72 (tn v74)).c),(ii (rd v72 (tn v74)).d),(ii v2)]) (Zz (aC++[(R6.mk (rd v72 (tn v74)).a (rd v72 (tn v74)).b v1 (rd v72 (tn v74)).c (rd v72 (tn v74)).d v2)]))) (pp (fl aK (pp (xF (Zr (Zz aC) 0 aC.length 6 [(ii (rd v72 (tn v74)).a),(ii (rd v72 (tn v74)).b),(ii v1),(ii (rd v72 (tn v74)).c),(ii (rd v72 (tn v74)).d),(ii v2)])) nn)) (ww o1 (ww o0 (tt k0 nn))))))))))) (fun k0=>(sl Xx 22 [] ⟨[1,2,3,4,0,5,6,7,8,10],[],j2y,j3a⟩ ⟨[],[],[]⟩ (bl 2 0) (pp (fl aK (fl aC nn)) (tt k0 nn)))))
 | .h5 v2 v8 bZ bN aY aC bH bE bT bL bS aA=>(lb (fun k0=>(lo fun o0=>(lo fun o1=>(sl Xx 34 [] ⟨(List.range 11),[],slmN5,slmM5⟩ ⟨[],[.cells [.len (aC.set (0+(tn v8)) (R6.mk (rd aC (0+(tn v8))).a (rd aC (0+(tn v8))).b (rd aC (0+(tn v8))).c (rd aC (0+(tn v8))).d (rd aC (0+(tn v8))).e v2)).length,.keep,.keep,.keep],.rowed 6 (aC.set (0+(tn v8)) (R6.mk (rd aC (0+(tn v8))).a (rd aC (0+(tn v8))).b (rd aC (0+(tn v8))).c (rd aC (0+(tn v8))).d (rd aC (0+(tn v8))).e v2)).length (Zz (aC.set (0+(tn v8)) (R6.mk (rd aC (0+(tn v8))).a (rd aC (0+(tn v8))).b (rd aC (0+(tn v8))).c (rd aC (0+(tn v8))).d (rd aC (0+(tn v8))).e v2))),.keep,.keep,.keep,.keep,.keep,.keep,.keep,.keep,.keep],[]⟩ [true] (pp (xL aC.length (aC.set (0+(tn v8)) (R6.mk (rd aC (0+(tn v8))).a (rd aC (0+(tn v8))).b (rd aC (0+(tn v8))).c (rd aC (0+(tn v8))).d (rd aC (0+(tn v8))).e v2)).length) (pp (xL aC.length (aC.set (0+(tn v8)) (R6.mk (rd aC (0+(tn v8))).a (rd aC (0+(tn v8))).b (rd aC (0+(tn v8))).c (rd aC (0+(tn v8))).d (rd aC (0+(tn v8))).e v2)).length) (pp (xS aC.length (Xm (Zz aC) (0+(tn v8)) 5 [(ii v2)]) (Zz (aC.set (0+(tn v8)) (R6.mk (rd aC (0+(tn v8))).a (rd aC (0+(tn v8))).b (rd aC (0+(tn v8))).c (rd aC (0+(tn v8))).d (rd aC (0+(tn v8))).e v2)))) (pp (pp (xF (Xm (Zz aC) (0+(tn v8)) 5 [(ii v2)])) (fl bS nn)) (ww o1 (ww o0 (tt k0 nn))))))))))) (fun k0=>(sl Xx 36 [] ⟨[2,3,4,5,0,6,7,8,9,1],[],j2y,j3a⟩ ⟨[],[],[]⟩ (bl 2 0) (pp (fl bS (fl aC nn)) (tt k0 nn)))))
theorem x8o (l0:List R6):Xv prog (Zy prog 74) (slmC l0) (Za prog 74 [(.dat l0.length (Zz l0))] true []) (y3t l0):=(lb (fun k0=>(lr 15 74 [1,0,1,0,0] 1 14 [(2,.nils),(3,(ii 4))] (sl Xx 18 [] ⟨[],[],[some [2,3]],[]⟩ ⟨[],[],[]⟩ [true] (tt k0 nn)))) (fun k0=>(sl Xx 41 [] ⟨[],[],slmN0,slmM0⟩ ⟨[],[],[]⟩ [false] (tt k0 nn))))
theorem u0n (l0:List R6) (n:Nat) (vs:List AVal) (h:Zt (Xb l0) n (y3t l0)=.ret vs):Uv prog (Zy prog 74) (Za prog 74 [(.dat l0.length (Zz l0))] true []) vs:=by have:=Ze (w7u l0) n _ (x8o l0);rwa [h] at this
inductive dwnS where
def dwnC (x0:Int) (x1:Int):dwnS→Cfg
 :=nofun
def w2q (x0:Int) (x1:Int):dwnS→Xw dwnS
 :=nofun
def y5h (x0:Int) (x1:Int):Xw dwnS:=(bif (!decide (x1=0)) then (bif (decide ((wrap .i64 ((wrap .i64 (Int.tdiv x0 x1))*x1))>x0)) then (.ret [(.int .i64 (wrap .i64 ((wrap .i64 ((wrap .i64 (Int.tdiv x0 x1)) - 1))*x1)))]) else (.ret [(.int .i64 (wrap .i64 ((wrap .i64 (Int.tdiv x0 x1))*x1)))])) else .stuck)
theorem v0t (x0:Int) (x1:Int): ∀s,Xv prog (Zy prog 72) (dwnC x0 x1) (dwnC x0 x1 s) (w2q x0 x1 s)
 :=nofun
theorem w2r (x0:Int) (x1:Int):Xv prog (Zy prog 72) (dwnC x0 x1) (Za prog 72 [(.int .i64 x0),(.int .i64 x1)] true []) (y5h x0 x1):=(lo fun bP=>(lb (fun k0=>(lr 19 3 [1,1,1,1,0] 1 6 [(4,(ii (wr ((wr ((wr (Int.tdiv x0 x1)) - 1))*x1))))] (sl Xx 33 [] ⟨[],[],[some [4]],[]⟩ ⟨[],[],[]⟩ [true] (tt k0 (ww bP nn))))) (fun k0=>(lr 19 3 [1,1,1,1,0] 1 6 [(4,(ii (wr ((wr (Int.tdiv x0 x1))*x1))))] (sl Xx 29 [] ⟨[],[],[some [4]],[]⟩ ⟨[],[],[]⟩ [false] (tt k0 (ww bP nn)))))))
theorem u5n (x0:Int) (x1:Int) (n:Nat) (vs:List AVal) (h:Zt (w2q x0 x1) n (y5h x0 x1)=.ret vs):Uv prog (Zy prog 72) (Za prog 72 [(.int .i64 x0),(.int .i64 x1)] true []) vs:=by have:=Ze (v0t x0 x1) n _ (w2r x0 x1);rwa [h] at this
def slmX :List AVal:=[.nils,.int .i64 8]
def eF (l:List R6):Nat→Nat→Int
 | 0,_=>0
 | k+1,i=>bif v2a l (rd (D6.cuts l) i) then Yo (D6.inn l (rd (D6.cuts l) i)) else eF l k (i+1)
def slmE (l:List R6) (k i:Nat):List AVal:=[.nils,.int .i64 (eF l k i)]
section
variable (l:List R6) (hl:l.length≤400)
include hl
theorem u7e (i:Nat) (out:List R6) (last:List R4) (first fin x x':Int): ∀(k j:Nat) (acc:List R4),j+k=l.length→acc.length≤j→
  ∃n,∀N,Zt (Xb l) (N+n) (.to (.h3 (i:Int) (j:Int) out last first fin ((D6.cuts l).length) (Wy (Xk (D6.ends l))) x x' acc))=Zt (Xb l) N (.to (.h3 (i:Int) (l.length:Int) out last first fin ((D6.cuts l).length) (Wy (Xk (D6.ends l))) x x' (acc++D6.inn (l.drop j) x)))
 | 0,j,acc,h,ha=>by refine ⟨0,fun N=> ?_⟩;rw [As (by omega),show D6.inn ([]:List R6) x=[] from rfl,AC,Bg,show j=l.length by omega]
 | k+1,j,acc,h,ha=>by
  have hj:j<l.length:=by omega
  obtain ⟨n,hn⟩:=u7e i out last first fin x x' k (j+1) (acc++D6.inn [rd l j] x) (by omega) (by have:=D6.inn_length [rd l j] x;simp only [AP,List.length_singleton] at*;omega)
  refine ⟨n+1,fun N=> ?_⟩;have e:D6.inn (l.drop j) x=D6.inn [rd l j] x++D6.inn (l.drop (j+1)) x:=by rw [Yg hj,←D6.inn_append];rfl
  rw [e,←AD,Zw,←AK,←hn N];by_cases h1:D6.lo (rd l j)≤x
  ·by_cases h2:x<D6.hi (rd l j)
   ·rw [D6.inn_t _ _ h1 h2];simp only [D6] at h1 h2 ⊢;simp (disch:=omega) only [Xb,Wz,Zc,Zq,Zs,Zo,Yc,Yv,Yj,Zf,Zk,Zx,Yb,Zj,Af,Ao,Ah,Ai,Ab,Aa]
   ·rw [D6.inn_f2 _ _ h2,AC];simp only [D6] at h1 h2;simp (disch:=omega) only [Xb,Wz,Ye,Zc,Zq,Zs,Zo,Yc,Yv,Yj,Zf,Zk,Zx,Yb,Zj,Af,Ao,Ah,Ai,Ab,Aa]
  ·rw [D6.inn_f1 _ _ h1,AC];simp only [D6] at h1;simp (disch:=omega) only [Xb,w2s,Zc,Zq,Zs,Zo,Yc,Yv,Yj,Zf,Zk,Zx,Yb,Zj,Af,Ao,Ah,Ai,Ab,Aa]
theorem u7d (i:Nat) (hi:i≤1000) (x x':Int) (s last:List R4) (first:Int) (inn:List R4) (hs:s.length≤1000): ∀(k j:Nat) (out:List R6),j+k=s.length→out.length≤10000000+j→
  ∃n,∀N,Zt (Xb l) (N+n) (.to (.h4 x x' s (s.length:Int) (j:Int) s (i:Int) out last first ((D6.cuts l).length) (Wy (Xk (D6.ends l))) inn))=Zt (Xb l) N (.to (.h2 ((i+1:Nat):Int) (out++(s.drop j).map (D6.put x x')) last first x' ((D6.cuts l).length) (Wy (Xk (D6.ends l)))))
 | 0,j,out,h,ho=>by have _u:=hl;refine ⟨1,fun N=> ?_⟩;rw [As (by omega),Zw];simp (disch:=omega) only [Xb,Ye,Zk,Zx,Aa,BA,AC]
 | k+1,j,out,h,ho=>by
  obtain ⟨n,hn⟩:=u7d i hi x x' s last first inn hs k (j+1) (out++[D6.put x x' (rd s j)]) (by omega) (by simp;omega)
  refine ⟨n+1,fun N=> ?_⟩;have:=hn N;rw [Yg (show j<s.length by omega),AU,←AD,Zw];simp (disch:=omega) only [Xb,Zc,Zq,Zs,Zo,Yc,Yv,Yj,Zf,Zk,Zx,Yb,Zj,Af,Ao,Ah,Ai,Ab,Aa];rw [AK] at this;exact this
theorem u7c (i:Nat) (hi:i≤1000) (x x' fin:Int) (s last:List R4) (first:Int) (inn:List R4): ∀(k j:Nat) (out:List R6),j+k=out.length→out.length≤10000000→
  ∃n,∀N,Zt (Xb l) (N+n) (.to (.h5 x' (j:Int) x s (i:Int) out last first fin ((D6.cuts l).length) (Wy (Xk (D6.ends l))) inn))=Zt (Xb l) N (.to (.h2 ((i+1:Nat):Int) (D6.grow out j x') last first x' ((D6.cuts l).length) (Wy (Xk (D6.ends l)))))
 | 0,j,out,h,ho=>by have _u:=hl;refine ⟨1,fun N=> ?_⟩;rw [D6.grow_nil _ _ _ (by omega),Zw];simp (disch:=omega) only [Xb,Ye,Zk,Zx,Aa]
 | k+1,j,out,h,ho=>by
  obtain ⟨n,hn⟩:=u7c i hi x x' fin s last first inn k (j+1) (out.set j (D6.ext x' (rd out j))) (by simp;omega) (by simpa using ho)
  refine ⟨n+1,fun N=> ?_⟩;have:=hn N;rw [D6.grow_set out j _ (by omega)] at this;rw [←AD,Zw];simp (disch:=omega) only [Xb,Zc,Zq,Zs,Zo,Yc,Yv,Yj,Zf,Zk,Zx,Yb,Zj,Af,Ao,Ah,Ai,Ab,Aa];exact this
theorem v3k : ∀(k i:Nat) (s:Sw R6 R4),k=(D6.cuts l).length - 1 - i→i≤(D6.cuts l).length →s.out.length≤i*1000→s.last.length≤1000→s.first≤s.out.length→
  ∃n,Zt (Xb l) n (.to (.h2 ((i+1:Nat):Int) s.out s.last (s.first:Int) s.fin ((D6.cuts l).length) (Wy (Xk (D6.ends l)))))=.ret ((bif okF l k i then Qw (D6.go l k i s).out else slmE l k i))
 | 0,i,s,h,hi,ho,hla,hf=>by
  have hc:=D6.cuts_length l;refine ⟨1,?_⟩;rw [Zw,show D6.go l 0 i s=s from rfl,show okF l 0 i=true from rfl,Ab];unfold Qw;by_cases q:(s.out.length:Int)>400
  ·simp (disch:=omega) only [Xb,Ye,Ys,Ab,Aa,Zp]
  ·simp (disch:=omega) only [Xb,Zc,Ye,Xt,Ab,Aa,Zp]
 | k +1,i,s,h,hi,ho,hla,hf=>by
  have hc:=D6.cuts_length l;have hi1:i+1<(D6.cuts l).length :=by omega
  have hpl:(Wy (Xk (D6.ends l))).length =2*l.length:=by rw [Uw,Vg,D6.ends_length]
  have r0:rd (Wy (Xk (D6.ends l))) i=rd (D6.cuts l) i:=z4n _ _ (by show i<(D6.cuts l).length;omega);have r1:rd (Wy (Xk (D6.ends l))) (i+1)=rd (D6.cuts l) (i+1):=z4n _ _ (by show i+1<(D6.cuts l).length;omega);have hbig:i*1000≤1000*1000:=AA _ (by omega);have hsl:=j1v l (rd (D6.cuts l) i);have hsd:D6.sec l (rd (D6.cuts l) i)=Zm (D6.inn l (rd (D6.cuts l) i)):=rfl;obtain ⟨n3,h3⟩:=u7e l hl (i+1) s.out s.last (s.first:Int) s.fin (rd (D6.cuts l) i) (rd (D6.cuts l) (i+1)) l.length 0 [] (Af _) (Aq _);simp only [AS,A9,z4a] at h3;have w1:Uq (D6.inn l (rd (D6.cuts l) i))=true:=rfl;have w2:Wv s.last (Zm (D6.inn l (rd (D6.cuts l) i)))=true:=An (by omega);have ol:=D6.one_length l (rd (D6.cuts l) i) (rd (D6.cuts l) (i+1)) s;have st0: ∀N,Zt (Xb l) (N+n3+1) (.to (.h2 ((i+1:Nat):Int) s.out s.last (s.first:Int) s.fin ((D6.cuts l).length) (Wy (Xk (D6.ends l)))))=Zt (Xb l) N (.to (.h3 ((i+1:Nat):Int) (l.length:Int) s.out s.last (s.first:Int) s.fin ((D6.cuts l).length) (Wy (Xk (D6.ends l))) (rd (D6.cuts l) i) (rd (D6.cuts l) (i+1)) (D6.inn l (rd (D6.cuts l) i)))):=fun N=>by
   rw [←h3 N,Zw];have e1:wrap .i64 (((i+1:Nat):Int) - 1)=(i:Int):=by rw [Yz];exact Zk (by omega)
   simp (disch:=omega) only [Xb,e1,r0,r1,Zc,Zq,Zs,Zo,Yc,Yv,Yj,Zf,Zk,Zx,Yb,Zj,Af,Ao,Ah,Ai,Ab,Aa]
  rcases Yw (v2a l (rd (D6.cuts l) i)) with q0 | q0
  ·refine ⟨1+n3+1,?_⟩;rw [st0 1,Zw];simp only [okF,slmE,eF,q0,Ab,Aa];have q0':(Yo (D6.inn l (rd (D6.cuts l) i)) != 0)=true:=q0;simp (disch:=omega) only [Xb,Zc,Zq,Ye,q0',w1,Ab,Aa,Zp]
  have q0':(Yo (D6.inn l (rd (D6.cuts l) i)) != 0)=false:=q0;rcases Yw (decide (0<(D6.sec l (rd (D6.cuts l) i)).length)&&((s.fin == rd (D6.cuts l) i)&&D6.same s.last (D6.sec l (rd (D6.cuts l) i)))) with q | q
  ·obtain ⟨n5,h5⟩:=u7c l hl (i+1) (by omega) (rd (D6.cuts l) i) (rd (D6.cuts l) (i+1)) s.fin (D6.sec l (rd (D6.cuts l) i)) s.last (s.first:Int) (D6.inn l (rd (D6.cuts l) i)) (s.out.length - s.first) s.first s.out (by omega) (by omega)
   have e:D6.one l (rd (D6.cuts l) i) (rd (D6.cuts l) (i+1)) s=⟨D6.grow s.out s.first (rd (D6.cuts l) (i+1)),s.last,s.first,rd (D6.cuts l) (i+1)⟩:=by unfold Dim.one;rw [q];rfl
   obtain ⟨n0,h0⟩:=v3k k (i+1) (D6.one l (rd (D6.cuts l) i) (rd (D6.cuts l) (i+1)) s) (by omega) (by omega) (by omega) (by rw [e];exact hla) (by rw [e];simpa [Dim.grow_length] using hf);refine ⟨n0+n5+1+n3+1,?_⟩;rw [st0 (n0+n5+1),Zw];simp only [Ae,At] at q;obtain ⟨q1,q2,q3⟩:=q;have q3':Vh s.last (Zm (D6.inn l (rd (D6.cuts l) i)))=true:=q3;rw [hsd] at q1;simp (disch:=omega) only [Xb,Zc,Zq,Ye,Ys,q0',q2,q3',w1,w2,Ab,Aa];rw [←hsd,h5 n0];simp only [okF,slmE,eF,q0,Aa];simp only [Dim.go];rw [e] at h0 ⊢;exact h0
  ·obtain ⟨n4,h4⟩:=u7d l hl (i+1) (by omega) (rd (D6.cuts l) i) (rd (D6.cuts l) (i+1)) (D6.sec l (rd (D6.cuts l) i)) (D6.sec l (rd (D6.cuts l) i)) (s.out.length:Int) (D6.inn l (rd (D6.cuts l) i)) hsl (D6.sec l (rd (D6.cuts l) i)).length 0 s.out (Af _) (by omega);simp only [AS,z4a] at h4;have e:D6.one l (rd (D6.cuts l) i) (rd (D6.cuts l) (i+1)) s=⟨s.out++(D6.sec l (rd (D6.cuts l) i)).map (D6.put (rd (D6.cuts l) i) (rd (D6.cuts l) (i+1))),D6.sec l (rd (D6.cuts l) i),s.out.length,rd (D6.cuts l) (i+1)⟩:=by unfold Dim.one;rw [q];rfl
   obtain ⟨n0,h0⟩:=v3k k (i+1) (D6.one l (rd (D6.cuts l) i) (rd (D6.cuts l) (i+1)) s) (by omega) (by omega) (by omega) (by rw [e];exact hsl) (by rw [e];simp);have hg:Zt (Xb l) 1 (.to (.h3 ((i+1:Nat):Int) (l.length:Int) s.out s.last (s.first:Int) s.fin ((D6.cuts l).length) (Wy (Xk (D6.ends l))) (rd (D6.cuts l) i) (rd (D6.cuts l) (i+1)) (D6.inn l (rd (D6.cuts l) i))))=.to (.h4 (rd (D6.cuts l) i) (rd (D6.cuts l) (i+1)) (D6.sec l (rd (D6.cuts l) i)) ((D6.sec l (rd (D6.cuts l) i)).length :Int) 0 (D6.sec l (rd (D6.cuts l) i)) ((i+1:Nat):Int) s.out (D6.sec l (rd (D6.cuts l) i)) (s.out.length:Int) ((D6.cuts l).length) (Wy (Xk (D6.ends l))) (D6.inn l (rd (D6.cuts l) i))):=by
    rw [show (1:Nat)=0+1 from rfl,Zw];rw [hsd] at q ⊢;have e3:D6.same s.last (Zm (D6.inn l (rd (D6.cuts l) i)))=Vh s.last (Zm (D6.inn l (rd (D6.cuts l) i))):=rfl;rw [e3] at q;by_cases q1:0<(Zm (D6.inn l (rd (D6.cuts l) i))).length
    ·rw [An q1,Ai] at q;rcases Yw (s.fin == rd (D6.cuts l) i) with q2 | q2
     ·rw [q2,Ai] at q;simp (disch:=omega) only [Xb,Zc,Zq,Ye,Ys,q0',q2,q,w1,w2,Ab,Aa];rfl
     ·simp (disch:=omega) only [Xb,Zc,Zq,Ye,Ys,q0',q2,w1,w2,Ab,Aa];rfl
    ·simp (disch:=omega) only [Xb,Zc,Zq,Ye,Xt,q0',w1,w2,Ab,Aa];rfl
   refine ⟨n0+n4+1+n3+1,?_⟩;rw [st0 (n0+n4+1),z5n _ (n0+n4) 1,hg,h4 n0];simp only [okF,slmE,eF,q0,Aa];simp only [Dim.go];rw [e] at h0 ⊢;exact h0
theorem u7f : ∀(k i:Nat) (acc:List Int),i+k=l.length→acc=D6.ends (l.take i)→ ∃n,Zt (Xb l) n (.to (.h1 (i:Int) acc))=.ret ((bif okF l ((D6.cuts l).length - 1) 0 then Qw (D6.go l ((D6.cuts l).length - 1) 0 ⟨[],[],0,0⟩).out else slmE l ((D6.cuts l).length - 1) 0))
 | 0,i,acc,h,ha=>by
  have e:acc=D6.ends l:=by rw [ha,A2 (by omega)]
  subst e;have hle:=D6.ends_length l;obtain ⟨n,hn⟩:=v3k l hl ((D6.cuts l).length - 1) 0 ⟨[],[],0,0⟩ (by omega) (Ay _) (Ay _) (Ay _) (Ay _);refine ⟨n+1,?_⟩;rw [Zw];simp (disch:=omega) only [Xb,Jq,Qq,z7w,Ye,Yv,Yj,Ao,Ab,Aa];exact hn
 | k+1,i,acc,h,ha=>by
  have hle:=D6.ends_length (l.take i);have fX:acc.length≤2*i:=by rw [ha,hle];simp;omega
  obtain ⟨n,hn⟩:=u7f k (i+1) (acc++D6.ends [rd l i]) (by omega) (by
   rw [ha,AX];have:l[i]? =some (rd l i):=by rw [Yr (show i<l.length by omega)];exact Au _
   rw [this,D6.ends_append];rfl)
  refine ⟨n+1,?_⟩;rw [Zw];simp (disch:=omega) only [Xb,Zc,Zq,Zs,Zo,Yc,Yv,Yj,Zf,Zk,Zx,Yb,Zj,Af,Ao,Ah,Ai,Ab,Aa];exact hn
theorem u7g : ∀(k i:Nat),i+k=l.length→(∀s∈l.take i,Qf s=true)→ ∃n,Zt (Xb l) n (.to (.h0 (i:Int)))=.ret (bif l.all Qf then (bif okF l ((D6.cuts l).length - 1) 0 then Qw (D6.go l ((D6.cuts l).length - 1) 0 ⟨[],[],0,0⟩).out else slmE l ((D6.cuts l).length - 1) 0) else slmX)
 | 0,i,h,ht=>by have hv:l.all Qf=true:=Ar.2 fun s hs=>ht s (by rw [A2 (by omega)];exact hs);obtain ⟨n,hn⟩:=u7f l hl l.length 0 [] (Af _) rfl;refine ⟨n+1,?_⟩;rw [Zw,hv,Ab];simp (disch:=omega) only [Xb,Ye,Aa];exact hn
 | k+1,i,h,ht=>by
  have hi:i<l.length:=by omega
  have hs:Xb l (.h0 (i:Int))=bif Qf (rd l i) then .to (.h0 ((i+1:Nat):Int)) else .ret slmX:=by have e:j1y (rd l i).a (rd l i).b (rd l i).c (rd l i).d (rd l i).e (rd l i).f =Qf (rd l i):=rfl;simp (disch:=omega) only [Xb,e,y1u,x6u,w6o,Zo,Zk,Zx,Zj,Ah,Ab,Aa];rfl
  rcases Yw (Qf (rd l i)) with q | q
  ·obtain ⟨n,hn⟩:=u7g k (i+1) (by omega) (fun s hs=>by
    rw [AX] at hs;have e:l[i]? =some (rd l i):=by rw [Yr hi];exact Au _
    rw [e] at hs;simp only [Option.toList_some,AH,BL] at hs;rcases hs with hs | rfl
    ·exact ht s hs
    ·exact q)
   refine ⟨n+1,?_⟩;rw [Zw,hs,q,Ab];exact hn
  ·have hv:l.all Qf=false:=A0.2 fun e=>by have:=Ar.1 e (rd l i) (by rw [Yr hi];exact AZ hi);rw [this] at q;cases q
   refine ⟨1,?_⟩;rw [Zw,hv,Aa,hs,q,Aa,Zp]
end
theorem j9i {l:List R6}: ∀(k i:Nat),okF l k i=false→(eF l k i != 0)=true
 | 0,i,h=>by cases h
 | k+1,i,h=>by
  unfold okF at h;unfold eF;rcases Yw (v2a l (rd (D6.cuts l) i)) with q | q
  ·rw [q,Ab];exact q
  ·rw [q,Aa] at h ⊢;exact j9i k (i+1) h
def Kh (l:List R6):Int:=bif decide (400<l.length) then 4 else bif l.all Qf then (bif okF l ((D6.cuts l).length - 1) 0 then y5j (D6.out l).length else eF l ((D6.cuts l).length - 1) 0) else 8
def z0y (l:List R6):List R6:=y7s (Kh l) (D6.out l)
def z8e (l:List R6):Bool:=true
theorem j2x (l:List R6) (h:z8e l=true): ∃n,Zt (Xb l) n (y3t l)=.ret (z8w (Kh l) (D6.out l)):=by
 unfold y3t Kh;by_cases h:400<l.length
 ·refine ⟨0,?_⟩;rw [An h,Ys (show (l.length:Int)>400 by omega)];rfl
 ·obtain ⟨n,hn⟩:=u7g l (by omega) l.length 0 (Af _) (fun s hs=>by simp at hs);refine ⟨n,?_⟩;rw [AB h,Xt (show ¬(l.length:Int)>400 by omega),Aa,Aa];rw [z4a] at hn;rw [hn];rcases Yw (l.all Qf) with q | q
  ·rw [q,Ab,Ab];rcases Yw (okF l ((D6.cuts l).length - 1) 0) with q2 | q2
   ·rw [q2,Ab,Ab,y0c];rfl
   ·rw [q2,Aa,Aa,Vn _ (j9i _ _ q2)];rfl
  ·rw [q];rfl
def fSlm :List AVal→Option (AVal×Bool)
 | [a0]=>match asL R6 a0 with
  | some (L0,g0,n0)=>some (.tup [.dat (z0y L0).length (Zz (z0y L0)),.int .i64 (Kh L0)],isT R6 n0 g0&&(z8e L0))
  | _=>none
 | _=>none
theorem j7p {S:Specs} (hS:Zu prog S):Zu prog (S.with v6l fSlm):=by
 refine w6l hS (by kernel_rfl) fun args v h=> ?_;unfold fSlm at h;split at h
 ·rename_i a0;split at h
  ·rename_i L0 g0 n0 e0;simp only [Ad,Ac,Ae] at h;obtain ⟨rfl,ho0,hw⟩:=h;obtain ⟨N,hN⟩:=j2x L0 hw;exact ⟨_,_,(.cons (Yh e0 ho0) .nil),z0n _ _,u0n L0 N _ hN,3,z5f _ _⟩
  ·cases h
 ·cases h
def Vp (x n:Int):Int:=bif decide (wrap .i64 (wrap .i64 (Int.tdiv x n)*n)>x) then wrap .i64 (wrap .i64 (wrap .i64 (Int.tdiv x n) - 1)*n) else wrap .i64 (wrap .i64 (Int.tdiv x n)*n)
def Ky (x n:Int):Bool:= !decide (n=0)
theorem j9j (x n:Int) (h:Ky x n=true): ∃N,Zt (w2q x n) N (y5h x n)=.ret [.int .i64 (Vp x n)]:=⟨0,by
 have h:(!decide (n=0))=true:=h;unfold y5h Vp;rw [h,Ab];cases decide (wrap .i64 (wrap .i64 (Int.tdiv x n)*n)>x) <;> rfl⟩
def fDwn :List AVal→Option (AVal×Bool)
 | [.int .i64 x0,.int .i64 x1]=>some (.int .i64 (Vp x0 x1),Ky x0 x1)
 | _=>none
theorem j8t {S:Specs} (hS:Zu prog S):Zu prog (S.with nDown fDwn):=by
 refine z0k hS (by kernel_rfl) fun args v h=> ?_;unfold fDwn at h;split at h
 ·rename_i x0 x1;simp only [Ad,Ac,Ae] at h;obtain ⟨rfl,hw⟩:=h;obtain ⟨N,hN⟩:=j9j x0 x1 hw;exact ⟨_,_,(.cons (.refl _) (.cons (.refl _) .nil)),rfl,u5n x0 x1 N _ hN,3,rfl⟩
 ·cases h
def Vo1 :Specs:=(Vc.with v6l fSlm).with nDown fDwn
theorem z6y :Zu prog Vo1:=j8t (j7p Xx)
theorem Dim.goS_cg {α β:Type} (D:Dim α β) (f g:Int→List β) (cs:List Int): ∀(k i:Nat) (s:Sw α β),(∀j,i≤j→j<i+k→f (rd cs j)=g (rd cs j))→D.goS f cs k i s=D.goS g cs k i s
 | 0,i,s,_=>rfl
 | k+1,i,s,h=>by show D.goS f cs k (i+1) (D.oneS (f (rd cs i)) _ _ s)=D.goS g cs k (i+1) (D.oneS (g (rd cs i)) _ _ s);rw [h i (Aq _) (by omega)];exact goS_cg D f g cs k (i+1) _ fun j h1 h2=>h j (by omega) (by omega)
theorem y7x {n:Nat} (h:y5j n=0):n≤400:=by
 unfold y5j at h;by_cases q:(n:Int)>400
 ·rw [An q] at h;cases h
 ·omega
theorem v4v {l:List R4} (h:Yo l=0):l.length≤400∧(∀r∈l,Vi r=true)∧Zm l=D4.out l:=by
 unfold Yo at h;cases g1:decide (400<l.length) with
 | true=>rw [g1] at h;cases h
 | false=>
  cases g2:l.all Vi with
  | false=>rw [g1,g2] at h;cases h
  | true=>
   rw [g1,g2,Aa,Ab] at h;have hl:l.length≤400:=by have:=Bb g1;omega
   refine ⟨hl,Ar.1 g2,?_⟩;exact (Qd (Ar.1 g2) hl (y7x h)).1
theorem w5f {l:List R6}: ∀(k i:Nat),okF l k i=true→ ∀j,i≤j→j<i+k→Yo (D6.inn l (rd (D6.cuts l) j))=0
 | 0,i,h,j,h1,h2=>by omega
 | k+1,i,h,j,h1,h2=>by
  unfold okF at h;rcases Yw (v2a l (rd (D6.cuts l) i)) with q | q
  ·rw [q] at h;cases h
  ·rw [q,Aa] at h;rcases A4 h1 with e | e
   ·rw [←e];unfold v2a at q
    simpa using q
   ·exact w5f k (i+1) h j e (by omega)
theorem w4i {l:List R6} (h:Kh l=0):l.length≤400∧(∀r∈l,Qf r=true)∧okF l ((D6.cuts l).length - 1) 0=true∧(D6.out l).length ≤400:=by
 unfold Kh at h;cases g1:decide (400<l.length) with
 | true=>rw [g1] at h;cases h
 | false=>
  cases g2:l.all Qf with
  | false=>rw [g1,g2] at h;cases h
  | true=>
   rw [g1,g2,Aa,Ab] at h;cases g3:okF l ((D6.cuts l).length - 1) 0 with
   | false=>rw [g3,Aa] at h;have:=j9i _ _ g3;rw [h] at this;cases this
   | true=>rw [g3,Ab] at h;exact ⟨by have:=Bb g1;omega,Ar.1 g2,rfl,y7x h⟩
theorem x8p {l:List R6} (h:Kh l=0):z0y l=D6.out l:=by unfold z0y y7s;rw [h];rfl
theorem v3j {l:List R6} (h:Kh l=0):z1p.can (z0y l)∧ ∀x y z,inS (z0y l) x y z↔inS l x y z:=by
 obtain ⟨hl,hv,hok,ho⟩:=w4i h;have hf:=w5f _ _ hok;rw [x8p h];have hc:(D6.cuts l).Pairwise (· < ·):=by show (Jg (D6.ends l)).Pairwise (· < ·);rw [Js];exact (Wx _).1
 have eS:D6.out l=(D6.goS (fun x=>bif Yo (D6.inn l x) != 0 then [] else Zm (D6.inn l x)) (D6.cuts l) ((D6.cuts l).length - 1) 0 ⟨[],[],0,0⟩).out :=by unfold Dim.out;rw [D6.go_goS,D6.goS_cg (D6.sec l) (fun x=>bif Yo (D6.inn l x) != 0 then [] else Zm (D6.inn l x))];intro j h1 h2;show _=bif Yo (D6.inn l _) != 0 then _ else _;rw [hf j h1 h2];rfl
 have hs: ∀x,Xi.can (bif Yo (D6.inn l x) != 0 then [] else Zm (D6.inn l x)):=fun x=>by
  cases g:(Yo (D6.inn l x) != 0) with
  | true=>exact Xi.nil
  | false=>obtain ⟨m1,m2,m3⟩:=v4v (show Yo (D6.inn l x)=0 by simpa using g);rw [Aa,m3];exact (Kn m2 m1).1
 obtain ⟨h1,h2⟩:=Dim.goS_can z2q z2t Xi (cs:=D6.cuts l) hc hs;rw [eS];refine ⟨h1,fun x y z=> ?_⟩;rw [Kj,Kj,show ptL z1p.inB _ (z,x,y)↔_ from h2 z (x,y)];have ia: ∀j,j+1<(D6.cuts l).length →rd (D6.cuts l) j≤z→z<rd (D6.cuts l) (j+1)→(ptL Xi.inB (bif Yo (D6.inn l (rd (D6.cuts l) j)) != 0 then [] else Zm (D6.inn l (rd (D6.cuts l) j))) (x,y)↔ptL z1p.inB l (z,x,y)):=fun j j1 j2 j3=>by have q:=hf j (Ay _) (by omega);obtain ⟨m1,m2,m3⟩:=v4v q;rw [q,show ((0:Int) != 0)=false from rfl,Aa,m3,(Kn m2 m1).2,Dim.inn_slab l l (fun r hr=>hr) j1 j2 j3];exact Dim.pt_inn (D:=D6) Xi.inB l z (x,y)
 constructor
 ·rintro ⟨j,j1,j2,j3,j4⟩;exact (ia j j1 j2 j3).1 j4
 ·intro hp;refine A8 fun hn=> ?_;have hx: ∀j,j+1<(D6.cuts l).length → ¬(rd (D6.cuts l) j≤z∧z<rd (D6.cuts l) (j+1)):=fun j j1 j2=>hn ⟨j,j1,j2.1,j2.2,(ia j j1 j2.1 j2.2).2 hp⟩;have g:=(Dim.pt_inn (D:=D6) Xi.inB l z (x,y)).2 hp;rw [Dim.inn_out l l (fun r hr=>hr) hx] at g;exact z7j _ _ g
theorem u0m {L:List R6} (h:Zh L=0):Kh L=0∧z0y L=L:=by
 have hs:=Vk h;have key:Kh L=0:=by
  unfold Zh at h;unfold Kh;cases g1:decide (400<L.length) with
  | true=>rw [g1] at h;cases h
  | false=>
   cases g2:L.all Qf with
   | false=>rw [g1,g2] at h;cases h
   | true=>
    rw [g1,g2,Aa,Ab] at h;cases g3:okF L ((D6.cuts L).length - 1) 0 with
    | false=>rw [g3] at h;cases h
    | true=>rw [Aa,Ab,Ab];unfold y5j;rw [←hs.2.2.1,Xt (by have:=hs.1;omega)];rfl
 exact ⟨key,(x8p key).trans hs.2.2.1.symm⟩
theorem j3z {L:List R6} (h:Zh L=0):z1p.can L:=by obtain ⟨h1,h2⟩:=u0m h;have:=(v3j h1).1;rwa [h2] at this
theorem opB2 {a b:Bool} (h:a=true→b=true): ¬opB 2 a b=true:=fun k=>by
 cases a <;> cases b
 ·cases k
 ·cases k
 ·cases h rfl
 ·cases k
theorem spN {a b:List R2} (ha:y6h a=0) (hb:y6h b=0) (h: ∀y,pt a y→pt b y):spE 2 a b=0:=by obtain ⟨a1,a2,a3⟩:=(z5x a).1 ha;obtain ⟨b1,b2,b3⟩:=(z5x b).1 hb;obtain ⟨c1,c2⟩:=y0t 2 a2 b2;have e:spJ 2 a b=[]:=z0w z4r c1 fun y hy=>opB2 (fun q=>An (h y (Av q))) ((c2 y).1 hy);unfold spE;rw [ha,hb,e];rfl
theorem u2y {l:List R4} (hl:l.length≤400) (hv: ∀r∈l,Vi r=true) (hc:Xi.can l):z8v l=0:=by
 obtain ⟨h1,h2⟩:=Kn hv hl;have e:D4.out l=l:=Xi.uniq _ _ h1 hc h2;have m1:z2c l=0:=by show y5j (D4.out l).length =0;rw [e];unfold y5j;rw [AB (by omega)];rfl
 have m0:Wc l=l:=by unfold Wc y7s;rw [show j1c l=0 from m1,e];rfl
 unfold z8v rgcF;rw [AB (by omega),Ar.2 hv,m1,m0,show Vh l l=true from An rfl];rfl
theorem u2x {l:List R4} (x:Int) (hl:l.length≤400) (hv: ∀r∈l,Vi r=true) (hc:Xi.can l):y6h (D4.inn l x)=0:=by refine (z5x _).2 ⟨AE (D4.inn_length l x) hl,Jf hv x,?_⟩;obtain ⟨G,hG,e⟩:=hc;rw [e];exact Dim.inn_can z1h z4r x G hG
theorem rgN {a b:List R4} (la:a.length≤400) (lb:b.length≤400) (va: ∀r∈a,Vi r=true) (vb: ∀r∈b,Vi r=true) (ca:Xi.can a) (cb:Xi.can b) (h: ∀p,ptL Xi.inB a p→ptL Xi.inB b p):rgE .d a b=0:=by have hz: ∀x,rgA .d a b x=0:=fun x=>spN (u2x x la va ca) (u2x x lb vb cb) fun y hy=>(y1g b x y).2 (h _ ((y1g a x y).1 hy));obtain ⟨j1,j2,_⟩:=Qj 2 va vb;have e:rgJ 2 a b=[]:=z0w Xi j1 fun p hp=>opB2 (fun q=>An (h p (Av q))) ((j2 p).1 hp);unfold rgE;rw [u2y la va ca,u2y lb vb cb,y7r hz];show eJ 0 (rgJ 2 a b).length =0;rw [e];rfl
theorem w4k {l:List R6} (hl:Zh l=0) (x:Int):(D6.inn l x).length ≤400∧(∀r∈D6.inn l x,Vi r=true)∧Xi.can (D6.inn l x)∧Yo (D6.inn l x)=0∧Zm (D6.inn l x)=D6.inn l x:=by
 obtain ⟨sl,sv,_⟩:=Vk hl;have v:=z5r sv x;have n:=AE (D6.inn_length l x) sl;have c:Xi.can (D6.inn l x):=by obtain ⟨G,hG,e⟩:=j3z hl;rw [e];exact Dim.inn_can z2q Xi x G hG
 obtain ⟨h1,h2⟩:=Kn v n;have e:D4.out (D6.inn l x)=D6.inn l x:=Xi.uniq _ _ h1 c h2;obtain ⟨r0,r1⟩:=Qd v n (by rw [e];exact n);exact ⟨n,v,c,r1,r0.trans e⟩
theorem slN {a b:List R6} (ha:Zh a=0) (hb:Zh b=0) (h: ∀x y z,inS a x y z→inS b x y z):z1o .d a b=0∧Qz .d a b=[]:=by
 have hz: ∀x,slA .d a b x=0:=fun x=>by obtain ⟨a1,a2,a3,a4,a5⟩:=w4k ha x;obtain ⟨b1,b2,b3,b4,b5⟩:=w4k hb x;unfold slA;rw [a4,b4,a5,b5];exact rgN a1 b1 a2 b2 a3 b3 fun ⟨u,v⟩ hp=>(Dim.pt_inn (D:=D6) Xi.inB b x (u,v)).2 ((Kj b u v x).1 (h u v x ((Kj a u v x).2 ((Dim.pt_inn (D:=D6) Xi.inB a x (u,v)).1 hp))))
 have hf:=y7r (cs:=D6.cuts (a++b)) hz ((D6.cuts (a++b)).length - 1) 0;obtain ⟨j1,j2⟩:=w4l hf;have e:slJ .d a b=[]:=z0w z1p j1 fun ⟨z,x,y⟩ hp=>opB2 (fun q=>An ((Kj b x y z).1 (h x y z ((Kj a x y z).2 (Av q))))) ((j2 (z,x,y)).1 hp);have e1:slE .d a b=0:=by unfold slE;rw [ha,hb,hf,e];rfl
 refine ⟨e1,?_⟩;unfold Qz;rw [e1,e];rfl
theorem x3z (n:Nat):y5j n=0∨y5j n=4:=by
 unfold y5j;cases decide ((n:Int)>400)
 ·exact .inl rfl
 ·exact .inr rfl
theorem eJ_04 {e:Int} (h:e=0∨e=4) (n:Nat):eJ e n=0∨eJ e n=4:=by
 rcases h with rfl | rfl
 ·exact x3z n
 ·exact .inr rfl
theorem w2k {E:Int→Int} (h: ∀x,E x=0∨E x=4) (cs:List Int): ∀k i,z7p E cs k i=0∨z7p E cs k i=4
 | 0,i=>.inl rfl
 | k+1,i=>by
  show (bif E (rd cs i) != 0 then E (rd cs i) else z7p E cs k (i+1))=0∨(bif E (rd cs i) != 0 then E (rd cs i) else z7p E cs k (i+1))=4;rcases h (rd cs i) with e | e
  ·rw [e];exact w2k h cs k (i+1)
  ·rw [e];exact .inr rfl
theorem slE_04 (q:Op) {a b:List R6} (ha:Zh a=0) (hb:Zh b=0):slE q a b=0∨slE q a b=4:=by unfold slE;rw [ha,hb];refine eJ_04 (w2k (fun x=> ?_) _ _ _) _;obtain ⟨a1,a2,a3,a4,a5⟩:=w4k ha x;obtain ⟨b1,b2,b3,b4,b5⟩:=w4k hb x;unfold slA rgE;rw [a4,b4,a5,b5,u2y a1 a2 a3,u2y b1 b2 b3];refine eJ_04 (w2k (fun y=> ?_) _ _ _) _;unfold rgA spE;rw [u2x y a1 a2 a3,u2x y b1 b2 b3];exact x3z _
inductive outeS where
 | h0 (v7:List R6) (v19:Int)
def j5u (l0:List R6) (x1:Int):outeS→Cfg
 | .h0 v7 v19=>⟨⟨89,0,true⟩,none,(Zg prog 38 [1,1,1,0,1,0,0] 0),none,(Zy prog 16),⟨Yk [(1,(ii x1)),(7,(.sla 0 6 0 v7.length (.un 6))),(17,(.dat l0.length (Zz l0))),(18,(ii (l0.length:Int))),(19,(ii v19))],Vv [⟨Ym v7.length (Zz v7),57,some ⟨6,v7.length,(Zz v7)⟩⟩] 0,1,[],true⟩,[],.leaf⟩
def u9z :List (Option (List Nat)):=[some [1,7,17,18,19]]
def j0a :List (Option (List Nat)):=[]
def z3p (l0:List R6) (x1:Int):outeS→Xw outeS
 | .h0 v7 v19=>(bif (decide (v19<(l0.length:Int))) then (bif ((decide (0≤v19∧v19<(l0.length:Int)))&&true) then (bif (Ky (rd l0 v19.toNat).a x1) then (bif (Ky (rd l0 v19.toNat).b x1) then (bif (Ky (rd l0 v19.toNat).c x1) then (bif (Ky (wrap .i64 (0 - (rd l0 v19.toNat).d)) x1) then (bif (Ky (wrap .i64 (0 - (rd l0 v19.toNat).e)) x1) then (bif (Ky (wrap .i64 (0 - (rd l0 v19.toNat).f)) x1) then (bif (decide ((Ke (Ke (Vp (rd l0 v19.toNat).a x1) (Vp (rd l0 v19.toNat).b x1)) (Vp (rd l0 v19.toNat).c x1))<(-1000000))) then (.ret [.nils,(.int .i64 16)]) else (bif (decide ((Kf (Kf (wrap .i64 (0 - (Vp (wrap .i64 (0 - (rd l0 v19.toNat).d)) x1))) (wrap .i64 (0 - (Vp (wrap .i64 (0 - (rd l0 v19.toNat).e)) x1)))) (wrap .i64 (0 - (Vp (wrap .i64 (0 - (rd l0 v19.toNat).f)) x1))))>1000000)) then (.ret [.nils,(.int .i64 16)]) else (bif (Nat.beq 6 6&&((decide (0+v7.length=v7.length))&&decide ((v7.length+1+1)*(48+1)≤Jo))) then (.to (.h0 (v7++[(R6.mk (Vp (rd l0 v19.toNat).a x1) (Vp (rd l0 v19.toNat).b x1) (Vp (rd l0 v19.toNat).c x1) (wrap .i64 (0 - (Vp (wrap .i64 (0 - (rd l0 v19.toNat).d)) x1))) (wrap .i64 (0 - (Vp (wrap .i64 (0 - (rd l0 v19.toNat).e)) x1))) (wrap .i64 (0 - (Vp (wrap .i64 (0 - (rd l0 v19.toNat).f)) x1))))]) (wrap .i64 (v19+1)))) else .stuck))) else .stuck) else .stuck) else .stuck) else .stuck) else .stuck) else .stuck) else .stuck) else (bif (z8e (cvT v7)) then (.ret [(.dat (z0y (cvT v7)).length (Zz (z0y (cvT v7)))),(.int .i64 (Kh (cvT v7)))]) else .stuck))
def z9f (l0:List R6) (x1:Int):Xw outeS:=(bif (Wt (cvT l0)) then (bif ((Zh (cvT l0)) != 0) then (.ret [.nils,(.int .i64 (Zh (cvT l0)))]) else (bif (decide (x1<1)) then (.ret [.nils,(.int .i64 2)]) else (bif (decide (x1>1000)) then (.ret [.nils,(.int .i64 2)]) else (.to (.h0 ([]:List R6) 0))))) else .stuck)
theorem w0q (l0:List R6) (x1:Int): ∀s,Xv prog (Zy prog 38) (j5u l0 x1) (j5u l0 x1 s) (z3p l0 x1 s)
 | .h0 v7 v19=>(lb (fun k0=>(lo fun aI=>(lo fun bG=>(lo fun cP=>(lo fun dH=>(lo fun dJ=>(lo fun dK=>(lo fun dL=>(lb (fun k1=>(lr 89 38 [1,1,1,0,1,0,0,1,1,0,0,1,1,0,1,0,0] 1 16 [(4,.nils),(5,(ii 16))] (sl z6y 52 [] ⟨[],[],[some [4,5]],[]⟩ ⟨[],[],[]⟩ (trs 13 []) (tt k1 (ww dL (ww dK (ww dJ (ww dH (ww cP (ww bG (ww aI (tt k0 nn)))))))))))) (fun k1=>(lb (fun k2=>(lr 89 38 [1,1,1,0,1,0,0,1,1,0,0,1,1,0,1,0,0] 1 16 [(4,.nils),(5,(ii 16))] (sl z6y 52 [] ⟨[],[],[some [4,5]],[]⟩ ⟨[],[],[]⟩ (bl 13 4097) (tt k2 (tt k1 (ww dL (ww dK (ww dJ (ww dH (ww cP (ww bG (ww aI (tt k0 nn))))))))))))) (fun k2=>(lo fun o0=>(sl z6y 61 [] ⟨[4],[],u9z,j0a⟩ ⟨[(7,.len (v7++[(R6.mk (Vp (rd l0 (tn v19)).a x1) (Vp (rd l0 (tn v19)).b x1) (Vp (rd l0 (tn v19)).c x1) (wr (0 - (Vp (wr (0 - (rd l0 (tn v19)).d)) x1))) (wr (0 - (Vp (wr (0 - (rd l0 (tn v19)).e)) x1))) (wr (0 - (Vp (wr (0 - (rd l0 (tn v19)).f)) x1))))]).length)],[.rowed 6 (v7++[(R6.mk (Vp (rd l0 (tn v19)).a x1) (Vp (rd l0 (tn v19)).b x1) (Vp (rd l0 (tn v19)).c x1) (wr (0 - (Vp (wr (0 - (rd l0 (tn v19)).d)) x1))) (wr (0 - (Vp (wr (0 - (rd l0 (tn v19)).e)) x1))) (wr (0 - (Vp (wr (0 - (rd l0 (tn v19)).f)) x1))))]).length (Zz (v7++[(R6.mk (Vp (rd l0 (tn v19)).a x1) (Vp (rd l0 (tn v19)).b x1) (Vp (rd l0 (tn v19)).c x1) (wr (0 - (Vp (wr (0 - (rd l0 (tn v19)).d)) x1))) (wr (0 - (Vp (wr (0 - (rd l0 (tn v19)).e)) x1))) (wr (0 - (Vp (wr (0 - (rd l0 (tn v19)).f)) x1))))]))],[]⟩ (bl 13 1) (pp (xL (v7.length+1) (v7++[(R6.mk (Vp (rd l0 (tn v19)).a x1) (Vp (rd l0 (tn v19)).b x1) (Vp (rd l0 (tn v19)).c x1) (wr (0 - (Vp (wr (0 - (rd l0 (tn v19)).d)) x1))) (wr (0 - (Vp (wr (0 - (rd l0 (tn v19)).e)) x1))) (wr (0 - (Vp (wr (0 - (rd l0 (tn v19)).f)) x1))))]).length) (pp (xL (v7.length+1) (v7++[(R6.mk (Vp (rd l0 (tn v19)).a x1) (Vp (rd l0 (tn v19)).b x1) (Vp (rd l0 (tn v19)).c x1) (wr (0 - (Vp (wr (0 - (rd l0 (tn v19)).d)) x1))) (wr (0 - (Vp (wr (0 - (rd l0 (tn v19)).e)) x1))) (wr (0 - (Vp (wr (0 - (rd l0 (tn v19)).f)) x1))))]).length) (pp (xS (v7.length+1) (Zr (Zz v7) 0 v7.length 6 [(ii (Vp (rd l0 (tn v19)).a x1)),(ii (Vp (rd l0 (tn v19)).b x1)),(ii (Vp (rd l0 (tn v19)).c x1)),(ii (wr (0 - (Vp (wr (0 - (rd l0 (tn v19)).d)) x1)))),(ii (wr (0 - (Vp (wr (0 - (rd l0 (tn v19)).e)) x1)))),(ii (wr (0 - (Vp (wr (0 - (rd l0 (tn v19)).f)) x1))))]) (Zz (v7++[(R6.mk (Vp (rd l0 (tn v19)).a x1) (Vp (rd l0 (tn v19)).b x1) (Vp (rd l0 (tn v19)).c x1) (wr (0 - (Vp (wr (0 - (rd l0 (tn v19)).d)) x1))) (wr (0 - (Vp (wr (0 - (rd l0 (tn v19)).e)) x1))) (wr (0 - (Vp (wr (0 - (rd l0 (tn v19)).f)) x1))))]))) (pp (pp (xF (Zr (Zz v7) 0 v7.length 6 [(ii (Vp (rd l0 (tn v19)).a x1)),(ii (Vp (rd l0 (tn v19)).b x1)),(ii (Vp (rd l0 (tn v19)).c x1)),(ii (wr (0 - (Vp (wr (0 - (rd l0 (tn v19)).d)) x1)))),(ii (wr (0 - (Vp (wr (0 - (rd l0 (tn v19)).e)) x1)))),(ii (wr (0 - (Vp (wr (0 - (rd l0 (tn v19)).f)) x1))))])) nn) (ww o0 (tt k2 (tt k1 (ww dL (ww dK (ww dJ (ww dH (ww cP (ww bG (ww aI (tt k0 nn))))))))))))))))))))))))))))) (fun k0=>(Xd (sl z6y (C':=⟨⟨89,0,true⟩,(Wr prog 38 [1,1,1,1,0] 1),(Zg prog 38 [1,1,1,1,0] 1),none,(Zy prog 16),⟨Yk [(85,(.dat v7.length (Zz v7)))],Vv [] 0,0,[],true⟩,[],.leaf⟩) 10 [] ⟨[],[0],[some [85]],[]⟩ ⟨[(85,.frz v7.length v7.length (Zz v7) (Zz v7))],[],[]⟩ [false] (pp (xZ (z4o 6 6 0 v7.length v7.length (Zz v7)) v7.length (Zz v7)) (pp (xL v7.length v7.length) (pp (xS v7.length (Zz v7) (Zz v7)) (pp (fl v7 nn) (tt k0 nn)))))) (lo fun o0=>(lr 89 3 [1,1,1,1,0] 1 16 [(4,(.dat (z0y (cvT v7)).length (Zz (z0y (cvT v7))))),(5,(ii (Kh (cvT v7))))] (sl z6y 6 [] ⟨[],[],[some [4,5]],[]⟩ ⟨[],[],[]⟩ [] (pp (pp (xr v7) (xw o0)) nn)))))))
theorem x5s (l0:List R6) (x1:Int):Xv prog (Zy prog 38) (j5u l0 x1) (Za prog 38 [(.dat l0.length (Zz l0)),(.int .i64 x1)] true []) (z9f l0 x1):=(lo fun bP=>(lb (fun k0=>(lr 89 38 [1,0,1,1,0,0] 1 16 [(4,.nils),(5,(ii (Zh (cvT l0))))] (sl z6y 48 [] ⟨[],[],[some [4,5]],[]⟩ ⟨[],[],[]⟩ [true,true] (tt k0 (tt k0 (pp (pp (xr l0) (xw bP)) nn)))))) (fun k0=>(lb (fun k1=>(lr 89 38 [1,0,1,1,0,0] 1 16 [(4,.nils),(5,(ii 2))] (sl z6y 59 [] ⟨[],[],[some [4,5]],[]⟩ ⟨[],[],[]⟩ [false,true,true,true,true] (tt k1 (tt k0 (pp (pp (xr l0) (xw bP)) nn)))))) (fun k1=>(lb (fun k2=>(lr 89 38 [1,0,1,1,0,0] 1 16 [(4,.nils),(5,(ii 2))] (sl z6y 59 [] ⟨[],[],[some [4,5]],[]⟩ ⟨[],[],[]⟩ [false,false,false,true,true] (tt k2 (tt k1 (tt k0 (pp (pp (xr l0) (xw bP)) nn))))))) (fun k2=>(sl z6y 68 [(57,6,Zz ([]:List R6))] ⟨[0],[],u9z,j0a⟩ ⟨[(7,.grow 0 6)],[],[]⟩ [false,false,false,false,false] (pp (fl ([]:List R6) nn) (tt k2 (tt k1 (tt k0 (pp (pp (xr l0) (xw bP)) nn)))))))))))))
theorem v5y (l0:List R6) (x1:Int) (n:Nat) (vs:List AVal) (h:Zt (z3p l0 x1) n (z9f l0 x1)=.ret vs):Uv prog (Zy prog 38) (Za prog 38 [(.dat l0.length (Zz l0)),(.int .i64 x1)] true []) vs:=by have:=Ze (w0q l0 x1) n _ (x5s l0 x1);rwa [h] at this
def upV (x n:Int):Int:=wrap .i64 (0 - Vp (wrap .i64 (0 - x)) n)
theorem dwn_o {x n:Int} (h:n≠0):Ky x n=true:=by unfold Ky;rw [AB h];rfl
def oB (n:Int) (r:R6):R6:=⟨Vp r.a n,Vp r.b n,Vp r.c n,upV r.d n,upV r.e n,upV r.f n⟩
def oOk (n:Int) (r:R6):Bool:= !decide (Ke (Ke (Vp r.a n) (Vp r.b n)) (Vp r.c n)<(-1000000))&& !decide (Kf (Kf (upV r.d n) (upV r.e n)) (upV r.f n)>1000000)
def outR (n:Int) (L:List R6) (ok:Bool):List AVal:=bif ok then [.dat (z0y (L.map (oB n))).length (Zz (z0y (L.map (oB n)))),.int .i64 (Kh (L.map (oB n)))] else [.nils,.int .i64 16]
theorem v5x {L:List R6} {n:Int} (hl:L.length≤400) (hn:n≠0): ∀(k i:Nat) (acc:List R6),i+k=L.length→acc=(L.take i).map (oB n)→ ∃N,Zt (z3p L n) N (.to (.h0 acc (i:Int)))=.ret (outR n L ((L.drop i).all (oOk n)))
 | 0,i,acc,h,ha=>by refine ⟨1,?_⟩;rw [A2 (by omega)] at ha;subst ha;rw [Zw,As (by omega)];simp (disch:=omega) only [z3p,Ye,Zc,show∀l,z8e l=true from fun _=>rfl,Ab,Aa,Zp,outR,List.all_nil]
 | k+1,i,acc,h,ha=>by
  have hi:i<L.length:=by omega
  have hla:acc.length=i:=by rw [ha,Bp,List.length_take];omega
  obtain ⟨N,hN⟩:=v5x hl hn k (i+1) (acc++[oB n (rd L i)]) (by omega) (by rw [ha,Yr hi,←List.map_singleton,←Bj,List.take_append_getElem]);have hw:wrap .i64 ((i:Int)+1)=((i+1:Nat):Int):=Zk (by omega);have hs:z3p L n (.h0 acc (i:Int))=bif oOk n (rd L i) then .to (.h0 (acc++[oB n (rd L i)]) ((i+1:Nat):Int)) else .ret [.nils,.int .i64 16]:=by simp (disch:=omega) only [z3p,Zs,Zo,hw,Zj,dwn_o hn,Yj,Zf,Yb,Af,Ao,Ah,Ai,Ab];unfold oOk upV oB;cases decide (Ke (Ke (Vp (rd L i).a n) (Vp (rd L i).b n)) (Vp (rd L i).c n)<(-1000000)) <;> cases decide (Kf (Kf (wrap .i64 (0 - Vp (wrap .i64 (0 - (rd L i).d)) n)) (wrap .i64 (0 - Vp (wrap .i64 (0 - (rd L i).e)) n))) (wrap .i64 (0 - Vp (wrap .i64 (0 - (rd L i).f)) n))>1000000) <;> rfl
  refine ⟨N+1,?_⟩;rw [Zw,hs,Yg hi,List.all_cons];rcases Yw (oOk n (rd L i)) with q | q
  ·rw [q,Ab,Ai];exact hN
  ·rw [q,Aa,Bd];exact Zp _ _ _
def outP (L:List R6) (n:Int):Bool:=(Zh L == 0)&&(!decide (n<1)&&(!decide (n>1000)&&L.all (oOk n)))
def Vq (L:List R6) (n:Int):List R6:=bif outP L n then z0y (L.map (oB n)) else []
def Ji (L:List R6) (n:Int):Int:=bif Zh L != 0 then Zh L else bif decide (n<1)||decide (n>1000) then 2 else bif L.all (oOk n) then Kh (L.map (oB n)) else 16
def outW (L:List R6) (n:Int):List AVal:=bif outP L n then [.dat (Vq L n).length (Zz (Vq L n)),.int .i64 (Ji L n)] else [.nils,.int .i64 (Ji L n)]
theorem u3m (L:List R6) (n:Int): ∃N,Zt (z3p L n) N (z9f L n)=.ret (outW L n):=by
 have hk:(Zh L != 0)= !(Zh L == 0):=rfl;unfold z9f outW Vq Ji outP;simp only [Zc,show∀l,Wt l=true from fun _=>rfl,Ab,hk];rcases Yw (Zh L == 0) with a | a
 ·rcases Yw (decide (n<1)) with b | b
  ·refine ⟨0,?_⟩;rw [a,b];rfl
  ·rcases Yw (decide (n>1000)) with c | c
   ·refine ⟨0,?_⟩;rw [a,b,c];rfl
   ·have hb:=Bb b;obtain ⟨N,hN⟩:=v5x (L:=L) (n:=n) (Vk (eq_of_beq a)).1 (by omega) L.length 0 [] (Af _) rfl;refine ⟨N,?_⟩;rw [a,b,c];simp only [Aw,Az,Ai,Bool.or_false,Ab,Aa];rw [z4a] at hN;rw [hN,AS];unfold outR;cases L.all (oOk n) <;> rfl
 ·refine ⟨0,?_⟩;rw [a];rfl
def y6r (L:List R6) (n:Int):Bool:=true
def fOut :List AVal→Option (AVal×Bool)
 | [a0,.int .i64 x1]=>match asL R6 a0 with
  | some (L0,g0,n0)=>some (.tup [.dat (Vq L0 x1).length (Zz (Vq L0 x1)),.int .i64 (Ji L0 x1)],isT R6 n0 g0&&y6r L0 x1)
  | _=>none
 | _=>none
theorem j8g {S:Specs} (hS:Zu prog S):Zu prog (S.with v6t fOut):=by
 refine w6l hS (by kernel_rfl) fun args v h=> ?_;unfold fOut at h;split at h
 ·rename_i a0 x1;split at h
  ·rename_i L0 g0 n0 e0;simp only [Ad,Ac,Ae] at h;obtain ⟨rfl,ho0,hw⟩:=h;obtain ⟨N,hN⟩:=u3m L0 x1;refine ⟨_,outW L0 x1,(.cons (Yh e0 ho0) (.cons (.refl _) .nil)),?_,v5y L0 x1 N _ hN,3,?_⟩
   ·unfold outW;rcases Yw (outP L0 x1) with q | q
    ·rw [q];exact fun ρ u hu=>hu
    ·rw [q];unfold Vq;rw [q];exact fun ρ u hu=>z6o (.cons (z2m R6) (RLe.refl _)) ρ u hu
   ·unfold outW;cases outP L0 x1 <;> rfl
  ·cases h
 ·cases h
def Vo2 :Specs:=(Vo1.with v6t fOut)
theorem Vo2_ok :Zu prog Vo2:=j8g z6y
theorem u0a {P:Program} {S:Specs} (hS:Zu P S) {f:FuncId} {F:List AVal→Option (AVal×Bool)} (hf:(P.funcs[f]?).any (fun fn=>fn.body.isSome)=true)
  (hF: ∀args v,F args=some (v,true)→ ∃a n g,args=[a]∧VLe a (.dat n g)∧
   (n=0→ ∃vs,(∀(ρ:Rho) (u:Value),Yy ρ (Up vs) u→Yy ρ v u)∧Uv P (Zy P f) (Za P f [.nils] true []) vs∧ ∃d,pf d (Up vs)=true)∧
   ∃vs,(∀(ρ:Rho) (u:Value),Yy ρ (Up vs) u→Yy ρ v u)∧Uv P (Zy P f) (Za P f [.nnl n g] true []) vs∧ ∃d,pf d (Up vs)=true):Zu P (S.with f F):=by
 intro k G hg;unfold Specs.with at hg;cases hgf:Nat.beq k f with
 | false=>rw [hgf] at hg;exact hS k G hg
 | true=>
  rw [hgf] at hg;obtain rfl:t0b.val F=G:=Ag hg;obtain rfl:k=f:=Aj hgf;refine ⟨by grind,fun args v hv H vals w dR hH=> ?_⟩;obtain ⟨a,n,g,rfl,hle,h0,h1⟩:=hF args v hv
  suffices hh: ∃b vs,Vw (Yy (z1q H)) [b] vals.toList∧(∀(ρ:Rho) (u:Value),Yy ρ (Up vs) u→Yy ρ v u)∧Uv P (Zy P k) (Za P k [b] true []) vs∧ ∃d,pf d (Up vs)=true by
   obtain ⟨b,vs,hb,hw,⟨C',g1,g2,g3⟩,d,hp⟩:=hh;exact (goes_call hf g1 g2 (by rw [y5x];exact g3) hb hH).mono fun e w' ⟨ρ,u,he,ho⟩=>⟨ρ.fz,u,ho.le,ho.old,ho.same,he,hw _ _ (Je d _ u hp ho.val),ho.below⟩
  generalize vals.toList=us at dR ⊢;cases dR with
  | cons hx hr=>
   obtain ⟨vs,hvs⟩:=h1;have hd:=hle.sound hx;cases hd with
   | datn=>obtain ⟨vs,hvs⟩:=h0 rfl;exact ⟨_,vs,.cons .nils hr,hvs⟩
   | datz=>exact ⟨_,vs,.cons (.nnl _ _ _ _ (hle.sound hx)) hr,hvs⟩
   | dat=>exact ⟨_,vs,.cons (.nnl _ _ _ _ (hle.sound hx)) hr,hvs⟩
inductive cl0S where
def cl0C :cl0S→Cfg
 :=nofun
def v8v :cl0S→Xw cl0S
 :=nofun
def w6r :Xw cl0S:=(.ret [.nils])
theorem v1a : ∀s,Xv prog (Zy prog 40) (cl0C) (cl0C s) (v8v s)
 :=nofun
theorem w3b :Xv prog (Zy prog 40) (cl0C) (Za prog 40 [.nils] true []) (w6r):=(lr 8 40 [1,0,1,0,0] 1 9 [(2,.nils)] (sl Xx 15 [] ⟨[],[],[some [2]],[]⟩ ⟨[],[],[]⟩ [true] nn))
theorem u5t (n:Nat) (vs:List AVal) (h:Zt (v8v) n (w6r)=.ret vs):Uv prog (Zy prog 40) (Za prog 40 [.nils] true []) vs:=by have:=Ze (v1a) n _ (w3b);rwa [h] at this
inductive cl1S where
def cl1C (l0:List R6):cl1S→Cfg
 :=nofun
def v8u (l0:List R6):cl1S→Xw cl1S
 :=nofun
def x3y (l0:List R6):Xw cl1S:=(bif (decide ((0+l0.length+1)*(48+1)≤Jo)) then (.ret [(.dat l0.length (Zz l0))]) else .stuck)
theorem v0z (l0:List R6): ∀s,Xv prog (Zy prog 40) (cl1C l0) (cl1C l0 s) (v8u l0 s)
 :=nofun
theorem w3a (l0:List R6):Xv prog (Zy prog 40) (cl1C l0) (Za prog 40 [(.nnl l0.length (Zz l0))] true []) (x3y l0):=(lo fun o0=>(lr 8 3 [1,1,1,1,0] 1 9 [(2,(.dat l0.length (Zz l0)))] (sl Xx 19 [] ⟨[],[1],[some [2]],[]⟩ ⟨[(2,.frz (0+l0.length) l0.length (Ja (fun k=>(([]:List AVal).drop (k*6)).take 6) 0 (Zz l0)) (Zz l0))],[],[]⟩ [false] (pp (xZ (z4o 6 6 0 (0+l0.length) (0+l0.length) (Ja (fun k=>(([]:List AVal).drop (k*6)).take 6) 0 (Zz l0))) (0+l0.length) (Ja (fun k=>(([]:List AVal).drop (k*6)).take 6) 0 (Zz l0))) (pp (xL (0+l0.length) l0.length (Vo (Af _))) (pp (xS (0+l0.length) (Ja (fun k=>(([]:List AVal).drop (k*6)).take 6) 0 (Zz l0)) (Zz l0)) (pp (pp (xF (Ja (fun k=>(([]:List AVal).drop (k*6)).take 6) 0 (Zz l0))) nn) (pp (pp nn (pp (xG (y8y 6 l0.length (Zz l0))) (xw o0))) nn))))))))
theorem u5s (l0:List R6) (n:Nat) (vs:List AVal) (h:Zt (v8u l0) n (x3y l0)=.ret vs):Uv prog (Zy prog 40) (Za prog 40 [(.nnl l0.length (Zz l0))] true []) vs:=by have:=Ze (v0z l0) n _ (w3a l0);rwa [h] at this
abbrev v6u :Nat:=40
abbrev w5s :Nat:=10
def v9z (l:List R6):List R6:=l
def y0b (l:List R6):Bool:=decide ((0+l.length+1)*(48+1)≤Jo)
def fClo :List AVal→Option (AVal×Bool)
 | [a0]=>match asL R6 a0 with
  | some (L0,g0,n0)=>some (.dat L0.length (Zz L0),isT R6 n0 g0&&(y0b L0))
  | _=>none
 | _=>none
theorem j8w {S:Specs} (hS:Zu prog S):Zu prog (S.with v6u fClo):=by
 refine u0a hS (by kernel_rfl) fun args v h=> ?_;unfold fClo at h;split at h
 ·rename_i a0;split at h
  ·rename_i L0 g0 n0 e0;simp only [Ad,Ac,Ae] at h;obtain ⟨rfl,ho0,hw⟩:=h;refine ⟨_,_,_,rfl,Yh e0 ho0,fun hz=>⟨[.nils],?_,u5t 0 _ rfl,3,rfl⟩,[.dat L0.length (Zz L0)],fun _ _ hu=>hu,u5s L0 0 _ ?_,3,rfl⟩
   ·intro ρ u hu;obtain rfl:=List.eq_nil_of_length_eq_zero hz;exact (z2m R6).sound hu
   ·unfold x3y;unfold y0b at hw;rw [hw];rfl
  ·cases h
 ·cases h
def Vo3 :Specs:=Vo2.with v6u fClo
theorem z5t :Zu prog Vo3:=j8w Vo2_ok
inductive scoS where
 | h0 (v72:Int) (bK:List Pa)
def scoC (l0:List Pa) (x1:Int) (x2:Int):scoS→Cfg
 | .h0 v72 bK=>⟨⟨91,0,true⟩,none,(Zg prog 10 [1,1,1,1,1,1,1,1,1,0,1,0,0] 0),none,(Zy prog 10),⟨Yk [(1,(ii x1)),(11,(.dat (Qz .e (cvT (Vq (cvT (rd l0 (tn x1)).s) (wr ((1:Int)*2 ^ (min (tn x2) 64))))) (cvT ([(R6.mk (rd l0 (tn x1)).a (rd l0 (tn x1)).b (rd l0 (tn x1)).c (rd l0 (tn x1)).d (rd l0 (tn x1)).e (rd l0 (tn x1)).f)]:List R6))).length (Zz (Qz .e (cvT (Vq (cvT (rd l0 (tn x1)).s) (wr ((1:Int)*2 ^ (min (tn x2) 64))))) (cvT ([(R6.mk (rd l0 (tn x1)).a (rd l0 (tn x1)).b (rd l0 (tn x1)).c (rd l0 (tn x1)).d (rd l0 (tn x1)).e (rd l0 (tn x1)).f)]:List R6)))))),(12,(.sla 0 7 0 l0.length (.un 7))),(70,(.sla 0 7 0 l0.length (.un 7))),(71,(ii (l0.length:Int))),(72,(ii v72))],Vv [⟨Ym bK.length (Zz bK),59,some ⟨7,bK.length,(Zz bK)⟩⟩] 0,1,[],true⟩,[],.leaf⟩
def scoN0 :List (Option (List Nat)):=[some [1,11,12,70,71,72]]
def scoM0 :List (Option (List Nat)):=[]
def z4y (l0:List Pa) (x1:Int) (x2:Int):scoS→Xw scoS
 | .h0 v72 bK=>(bif (decide (v72<(l0.length:Int))) then (bif (y0b (cvT (rd bK (0+v72.toNat)).s)) then (bif ((decide (0≤v72∧v72<(l0.length:Int)))&&true) then (bif (decide ((0+v72.toNat)<bK.length)) then (.to (.h0 (wrap .i64 (v72+1)) (bK.set (0+v72.toNat) (Pa.mk (rd bK (0+v72.toNat)).a (rd bK (0+v72.toNat)).b (rd bK (0+v72.toNat)).c (rd bK (0+v72.toNat)).d (rd bK (0+v72.toNat)).e (rd bK (0+v72.toNat)).f (v9z (cvT (rd bK (0+v72.toNat)).s)))))) else .stuck) else .stuck) else .stuck) else (bif ((decide (0≤x1∧x1<(l0.length:Int)))&&true) then (bif (decide ((0+x1.toNat)<bK.length)) then (.ret [(z4o 7 7 0 l0.length bK.length (Xm (Zz bK) (0+x1.toNat) 6 [(.dat (Qz .e (cvT (Vq (cvT (rd l0 x1.toNat).s) (wrap .i64 ((1:Int)*2 ^ (min x2.toNat 64))))) (cvT ([(R6.mk (rd l0 x1.toNat).a (rd l0 x1.toNat).b (rd l0 x1.toNat).c (rd l0 x1.toNat).d (rd l0 x1.toNat).e (rd l0 x1.toNat).f)]:List R6))).length (Zz (Qz .e (cvT (Vq (cvT (rd l0 x1.toNat).s) (wrap .i64 ((1:Int)*2 ^ (min x2.toNat 64))))) (cvT ([(R6.mk (rd l0 x1.toNat).a (rd l0 x1.toNat).b (rd l0 x1.toNat).c (rd l0 x1.toNat).d (rd l0 x1.toNat).e (rd l0 x1.toNat).f)]:List R6)))))])),(.int .i64 0)]) else .stuck) else .stuck))
def y3y (l0:List Pa) (x1:Int) (x2:Int):Xw scoS:=(bif (Uu (cvT l0)) then (bif ((z0c (cvT l0)) != 0) then (.ret [.nils,(.int .i64 (z0c (cvT l0)))]) else (bif (decide (x1<0)) then (.ret [.nils,(.int .i64 2)]) else (bif (decide (x1≥(l0.length:Int))) then (.ret [.nils,(.int .i64 2)]) else (bif (decide (x2<0)) then (.ret [.nils,(.int .i64 2)]) else (bif (decide (x2>9)) then (.ret [.nils,(.int .i64 2)]) else (bif ((decide (0≤x1∧x1<(l0.length:Int)))&&true) then (bif (!decide (x2<0)) then (bif (y6r (cvT (rd l0 x1.toNat).s) (wrap .i64 ((1:Int)*2 ^ (min x2.toNat 64)))) then (bif ((Ji (cvT (rd l0 x1.toNat).s) (wrap .i64 ((1:Int)*2 ^ (min x2.toNat 64)))) != 0) then (.ret [.nils,(.int .i64 (Ji (cvT (rd l0 x1.toNat).s) (wrap .i64 ((1:Int)*2 ^ (min x2.toNat 64)))))]) else (bif (z1v .e (cvT (Vq (cvT (rd l0 x1.toNat).s) (wrap .i64 ((1:Int)*2 ^ (min x2.toNat 64))))) (cvT ([(R6.mk (rd l0 x1.toNat).a (rd l0 x1.toNat).b (rd l0 x1.toNat).c (rd l0 x1.toNat).d (rd l0 x1.toNat).e (rd l0 x1.toNat).f)]:List R6))) then (bif ((z1o .e (cvT (Vq (cvT (rd l0 x1.toNat).s) (wrap .i64 ((1:Int)*2 ^ (min x2.toNat 64))))) (cvT ([(R6.mk (rd l0 x1.toNat).a (rd l0 x1.toNat).b (rd l0 x1.toNat).c (rd l0 x1.toNat).d (rd l0 x1.toNat).e (rd l0 x1.toNat).f)]:List R6))) != 0) then (.ret [.nils,(.int .i64 (z1o .e (cvT (Vq (cvT (rd l0 x1.toNat).s) (wrap .i64 ((1:Int)*2 ^ (min x2.toNat 64))))) (cvT ([(R6.mk (rd l0 x1.toNat).a (rd l0 x1.toNat).b (rd l0 x1.toNat).c (rd l0 x1.toNat).d (rd l0 x1.toNat).e (rd l0 x1.toNat).f)]:List R6))))]) else (bif ((decide (0≤(l0.length:Int)))&&(decide ((l0.length:Int)≤(l0.length:Int)))&&(decide ((l0.length:Int)*72≤1099511627776))&&(decide ((l0.length:Int)≤1099511627776))) then (bif (decide (0+l0.length≤l0.length)) then (.to (.h0 0 l0)) else .stuck) else .stuck)) else .stuck)) else .stuck) else .stuck) else .stuck)))))) else .stuck)
theorem w8b (l0:List Pa) (x1:Int) (x2:Int): ∀s,Xv prog (Zy prog 10) (scoC l0 x1 x2) (scoC l0 x1 x2 s) (z4y l0 x1 x2 s)
 | .h0 v72 bK=>(lb (fun k0=>(lo fun o0=>(lo fun o1=>(lo fun o2=>(sl z5t 34 [] ⟨[0],[],scoN0,scoM0⟩ ⟨[],[.rowed 7 (bK.set (0+(tn v72)) (Pa.mk (rd bK (0+(tn v72))).a (rd bK (0+(tn v72))).b (rd bK (0+(tn v72))).c (rd bK (0+(tn v72))).d (rd bK (0+(tn v72))).e (rd bK (0+(tn v72))).f (v9z (cvT (rd bK (0+(tn v72))).s)))).length (Zz (bK.set (0+(tn v72)) (Pa.mk (rd bK (0+(tn v72))).a (rd bK (0+(tn v72))).b (rd bK (0+(tn v72))).c (rd bK (0+(tn v72))).d (rd bK (0+(tn v72))).e (rd bK (0+(tn v72))).f (v9z (cvT (rd bK (0+(tn v72))).s)))))],[]⟩ [true] (pp (xL bK.length (bK.set (0+(tn v72)) (Pa.mk (rd bK (0+(tn v72))).a (rd bK (0+(tn v72))).b (rd bK (0+(tn v72))).c (rd bK (0+(tn v72))).d (rd bK (0+(tn v72))).e (rd bK (0+(tn v72))).f (v9z (cvT (rd bK (0+(tn v72))).s)))).length) (pp (xS bK.length (Xm (Zz bK) (0+(tn v72)) 6 [(.dat (v9z (cvT (rd bK (0+(tn v72))).s)).length (Zz (v9z (cvT (rd bK (0+(tn v72))).s))))]) (Zz (bK.set (0+(tn v72)) (Pa.mk (rd bK (0+(tn v72))).a (rd bK (0+(tn v72))).b (rd bK (0+(tn v72))).c (rd bK (0+(tn v72))).d (rd bK (0+(tn v72))).e (rd bK (0+(tn v72))).f (v9z (cvT (rd bK (0+(tn v72))).s)))))) (pp (pp (xF (Xm (Zz bK) (0+(tn v72)) 6 [(.dat (v9z (cvT (rd bK (0+(tn v72))).s)).length (Zz (v9z (cvT (rd bK (0+(tn v72))).s))))])) nn) (ww o2 (ww o1 (pp (pp (xI R6 (rd bK (0+(tn v72))).s.length (Zz (rd bK (0+(tn v72))).s)) (xw o0)) (ww o2 (ww o1 (tt k0 nn)))))))))))))) (fun k0=>(lo fun o0=>(lo fun o1=>(lr 91 3 [1,1,1,1,0] 1 10 [(6,(z4o 7 7 0 l0.length bK.length (Xm (Zz bK) (0+(tn x1)) 6 [(.dat (Qz .e (cvT (Vq (cvT (rd l0 (tn x1)).s) (wr ((1:Int)*2 ^ (min (tn x2) 64))))) (cvT ([(R6.mk (rd l0 (tn x1)).a (rd l0 (tn x1)).b (rd l0 (tn x1)).c (rd l0 (tn x1)).d (rd l0 (tn x1)).e (rd l0 (tn x1)).f)]:List R6))).length (Zz (Qz .e (cvT (Vq (cvT (rd l0 (tn x1)).s) (wr ((1:Int)*2 ^ (min (tn x2) 64))))) (cvT ([(R6.mk (rd l0 (tn x1)).a (rd l0 (tn x1)).b (rd l0 (tn x1)).c (rd l0 (tn x1)).d (rd l0 (tn x1)).e (rd l0 (tn x1)).f)]:List R6)))))]))),(7,(ii 0))] (sl z5t 22 [] ⟨[],[0],[some [6,7]],[]⟩ ⟨[],[],[]⟩ [false] (pp (pp (xF (Xm (Zz bK) (0+(tn x1)) 6 [(.dat (Qz .e (cvT (Vq (cvT (rd l0 (tn x1)).s) (wr ((1:Int)*2 ^ (min (tn x2) 64))))) (cvT ([(R6.mk (rd l0 (tn x1)).a (rd l0 (tn x1)).b (rd l0 (tn x1)).c (rd l0 (tn x1)).d (rd l0 (tn x1)).e (rd l0 (tn x1)).f)]:List R6))).length (Zz (Qz .e (cvT (Vq (cvT (rd l0 (tn x1)).s) (wr ((1:Int)*2 ^ (min (tn x2) 64))))) (cvT ([(R6.mk (rd l0 (tn x1)).a (rd l0 (tn x1)).b (rd l0 (tn x1)).c (rd l0 (tn x1)).d (rd l0 (tn x1)).e (rd l0 (tn x1)).f)]:List R6)))))])) nn) (ww o1 (ww o0 (tt k0 nn))))))))))
theorem x8x (l0:List Pa) (x1:Int) (x2:Int):Xv prog (Zy prog 10) (scoC l0 x1 x2) (Za prog 10 [(.dat l0.length (Zz l0)),(.int .i64 x1),(.int .i64 x2)] true []) (y3y l0 x1 x2):=(lo fun bP=>(lb (fun k0=>(lr 91 10 [1,0,1,1,0,0] 1 10 [(6,.nils),(7,(ii (z0c (cvT l0))))] (sl z5t 24 [] ⟨[],[],[some [6,7]],[]⟩ ⟨[],[],[]⟩ [true] (tt k0 (pp (pp (xr l0) (xw bP)) nn))))) (fun k0=>(lb (fun k1=>(lr 91 10 [1,1,0,1,0,0] 1 10 [(6,.nils),(7,(ii 2))] (sl z5t 45 [] ⟨[],[],[some [6,7]],[]⟩ ⟨[],[],[]⟩ [false,true,true,true,true,true,true,true,true,true] (tt k1 (tt k0 (pp (pp (xr l0) (xw bP)) nn)))))) (fun k1=>(lb (fun k2=>(lr 91 10 [1,1,0,1,0,0] 1 10 [(6,.nils),(7,(ii 2))] (sl z5t 45 [] ⟨[],[],[some [6,7]],[]⟩ ⟨[],[],[]⟩ [false,false,false,false,false,true,true,true,true,true] (tt k2 (tt k1 (tt k0 (pp (pp (xr l0) (xw bP)) nn))))))) (fun k2=>(lb (fun k3=>(lr 91 10 [1,1,0,1,0,0] 1 10 [(6,.nils),(7,(ii 2))] (sl z5t 45 [] ⟨[],[],[some [6,7]],[]⟩ ⟨[],[],[]⟩ [false,false,false,false,false,false,false,true,true,true] (tt k3 (tt k2 (tt k1 (tt k0 (pp (pp (xr l0) (xw bP)) nn)))))))) (fun k3=>(lb (fun k4=>(lr 91 10 [1,1,0,1,0,0] 1 10 [(6,.nils),(7,(ii 2))] (sl z5t 45 [] ⟨[],[],[some [6,7]],[]⟩ ⟨[],[],[]⟩ [false,false,false,false,false,false,false,false,false,true] (tt k4 (tt k3 (tt k2 (tt k1 (tt k0 (pp (pp (xr l0) (xw bP)) nn))))))))) (fun k4=>(lo fun cL=>(lo fun dN=>(lo fun dO=>(lb (fun k5=>(lr 91 10 [1,1,1,1,0,1,0,0] 1 10 [(6,.nils),(7,(ii (Ji (cvT (rd l0 (tn x1)).s) (wr ((1:Int)*2 ^ (min (tn x2) 64))))))] (sl z5t 56 [] ⟨[],[],[some [6,7]],[]⟩ ⟨[],[],[]⟩ [false,false,false,false,false,false,false,false,false,false,true] (tt k5 (pp (pp (xI R6 (rd l0 (tn x1)).s.length (Zz (rd l0 (tn x1)).s)) (xw dO)) (ww dN (ww cL (tt k4 (tt k3 (tt k2 (tt k1 (tt k0 (pp (pp (xr l0) (xw bP)) nn))))))))))))) (fun k5=>(Xd (sl z5t (C':=⟨⟨91,0,true⟩,(Wr prog 10 [1,1,1,1,1,0] 7),(Zg prog 10 [1,1,1,1,1,0] 1),none,(Zy prog 10),⟨Yk [(0,(.dat l0.length (Zz l0))),(1,(ii x1)),(51,(.dat (Vq (cvT (rd l0 (tn x1)).s) (wr ((1:Int)*2 ^ (min (tn x2) 64)))).length (Zz (Vq (cvT (rd l0 (tn x1)).s) (wr ((1:Int)*2 ^ (min (tn x2) 64))))))),(57,(.dat ([(R6.mk (rd l0 (tn x1)).a (rd l0 (tn x1)).b (rd l0 (tn x1)).c (rd l0 (tn x1)).d (rd l0 (tn x1)).e (rd l0 (tn x1)).f)]:List R6).length (Zz ([(R6.mk (rd l0 (tn x1)).a (rd l0 (tn x1)).b (rd l0 (tn x1)).c (rd l0 (tn x1)).d (rd l0 (tn x1)).e (rd l0 (tn x1)).f)]:List R6))))],Vv [] 0,0,[],true⟩,[],.leaf⟩) 60 [] ⟨[],[0],[some [0,1,51,57]],[]⟩ ⟨[(57,.frz 1 ([(R6.mk (rd l0 (tn x1)).a (rd l0 (tn x1)).b (rd l0 (tn x1)).c (rd l0 (tn x1)).d (rd l0 (tn x1)).e (rd l0 (tn x1)).f)]:List R6).length (Xn [(ii (rd l0 (tn x1)).a),(ii (rd l0 (tn x1)).b),(ii (rd l0 (tn x1)).c),(ii (rd l0 (tn x1)).d),(ii (rd l0 (tn x1)).e),(ii (rd l0 (tn x1)).f)] 0 6) (Zz ([(R6.mk (rd l0 (tn x1)).a (rd l0 (tn x1)).b (rd l0 (tn x1)).c (rd l0 (tn x1)).d (rd l0 (tn x1)).e (rd l0 (tn x1)).f)]:List R6)))],[],[]⟩ [false,false,false,false,false,false,false,false,false,false,false] (pp (xZ (.dat 1 (Xn [(ii (rd l0 (tn x1)).a),(ii (rd l0 (tn x1)).b),(ii (rd l0 (tn x1)).c),(ii (rd l0 (tn x1)).d),(ii (rd l0 (tn x1)).e),(ii (rd l0 (tn x1)).f)] 0 6)) 1 (Xn [(ii (rd l0 (tn x1)).a),(ii (rd l0 (tn x1)).b),(ii (rd l0 (tn x1)).c),(ii (rd l0 (tn x1)).d),(ii (rd l0 (tn x1)).e),(ii (rd l0 (tn x1)).f)] 0 6)) (pp (xL 1 ([(R6.mk (rd l0 (tn x1)).a (rd l0 (tn x1)).b (rd l0 (tn x1)).c (rd l0 (tn x1)).d (rd l0 (tn x1)).e (rd l0 (tn x1)).f)]:List R6).length) (pp (xS 1 (Xn [(ii (rd l0 (tn x1)).a),(ii (rd l0 (tn x1)).b),(ii (rd l0 (tn x1)).c),(ii (rd l0 (tn x1)).d),(ii (rd l0 (tn x1)).e),(ii (rd l0 (tn x1)).f)] 0 6) (Zz ([(R6.mk (rd l0 (tn x1)).a (rd l0 (tn x1)).b (rd l0 (tn x1)).c (rd l0 (tn x1)).d (rd l0 (tn x1)).e (rd l0 (tn x1)).f)]:List R6))) (ww cL (tt k5 (pp (pp (xI R6 (rd l0 (tn x1)).s.length (Zz (rd l0 (tn x1)).s)) (xw dO)) (ww dN (ww cL (tt k4 (tt k3 (tt k2 (tt k1 (tt k0 (pp (pp (xr l0) (xw bP)) nn))))))))))))))) (lo fun dG=>(lb (fun k6=>(lr 91 10 [1,1,1,1,1,1,0,1,0,0] 1 10 [(6,.nils),(7,(ii (z1o .e (cvT (Vq (cvT (rd l0 (tn x1)).s) (wr ((1:Int)*2 ^ (min (tn x2) 64))))) (cvT ([(R6.mk (rd l0 (tn x1)).a (rd l0 (tn x1)).b (rd l0 (tn x1)).c (rd l0 (tn x1)).d (rd l0 (tn x1)).e (rd l0 (tn x1)).f)]:List R6)))))] (sl z5t 20 [] ⟨[],[],[some [6,7]],[]⟩ ⟨[],[],[]⟩ [true] (tt k6 (pp (pp (xI R6 (Vq (cvT (rd l0 (tn x1)).s) (wr ((1:Int)*2 ^ (min (tn x2) 64)))).length (Zz (Vq (cvT (rd l0 (tn x1)).s) (wr ((1:Int)*2 ^ (min (tn x2) 64)))))) (pp (xI R6 ([(R6.mk (rd l0 (tn x1)).a (rd l0 (tn x1)).b (rd l0 (tn x1)).c (rd l0 (tn x1)).d (rd l0 (tn x1)).e (rd l0 (tn x1)).f)]:List R6).length (Zz ([(R6.mk (rd l0 (tn x1)).a (rd l0 (tn x1)).b (rd l0 (tn x1)).c (rd l0 (tn x1)).d (rd l0 (tn x1)).e (rd l0 (tn x1)).f)]:List R6))) (xw dG))) nn))))) (fun k6=>(lo fun o0=>(lo fun o1=>(sl z5t 37 [] ⟨[0],[],scoN0,scoM0⟩ ⟨[],[.rowed 7 l0.length (Zz l0)],[]⟩ [false,false] (pp (xL l0.length l0.length) (pp (xS l0.length (Vs (fun _=>[(ii 0),(ii 0),(ii 0),(ii 0),(ii 0),(ii 0),.nils]) 0 (Nat.min l0.length l0.length) (Zz l0)) (Zz l0)) (pp (pp (xF (Vs (fun _=>[(ii 0),(ii 0),(ii 0),(ii 0),(ii 0),(ii 0),.nils]) 0 (Nat.min l0.length l0.length) (Zz l0))) nn) (pp (pp (xG (Nat.beq 7 7)) (pp (xG (Nat.beq 7 7)) (pp (xw o1) (xG (y8y 7 l0.length (Zz l0)))))) (ww o0 (tt k6 (pp (pp (xI R6 (Vq (cvT (rd l0 (tn x1)).s) (wr ((1:Int)*2 ^ (min (tn x2) 64)))).length (Zz (Vq (cvT (rd l0 (tn x1)).s) (wr ((1:Int)*2 ^ (min (tn x2) 64)))))) (pp (xI R6 ([(R6.mk (rd l0 (tn x1)).a (rd l0 (tn x1)).b (rd l0 (tn x1)).c (rd l0 (tn x1)).d (rd l0 (tn x1)).e (rd l0 (tn x1)).f)]:List R6).length (Zz ([(R6.mk (rd l0 (tn x1)).a (rd l0 (tn x1)).b (rd l0 (tn x1)).c (rd l0 (tn x1)).d (rd l0 (tn x1)).e (rd l0 (tn x1)).f)]:List R6))) (xw dG))) nn))))))))))))))))))))))))))))))
theorem u1j (l0:List Pa) (x1:Int) (x2:Int) (n:Nat) (vs:List AVal) (h:Zt (z4y l0 x1 x2) n (y3y l0 x1 x2)=.ret vs):Uv prog (Zy prog 10) (Za prog 10 [(.dat l0.length (Zz l0)),(.int .i64 x1),(.int .i64 x2)] true []) vs:=by have:=Ze (w8b l0 x1 x2) n _ (x8x l0 x1 x2);rwa [h] at this
def v5u (k:Int):Int:=wrap .i64 ((1:Int)*2 ^ (min k.toNat 64))
def coO (l:List Pa) (i k:Int):List R6:=Vq (rd l i.toNat).s (v5u k)
def coS (l:List Pa) (i k:Int):List R6:=Qz .e (coO l i k) [bxP (rd l i.toNat)]
def Vj (l:List Pa) (i k:Int):Int:=bif z0c l != 0 then z0c l else bif decide (i<0)||(decide (i≥(l.length:Int))||(decide (k<0)||decide (k>9))) then 2 else bif Ji (rd l i.toNat).s (v5u k) != 0 then Ji (rd l i.toNat).s (v5u k) else z1o .e (coO l i k) [bxP (rd l i.toNat)]
def paS (x:Pa) (s:List R6):Pa:=⟨x.a,x.b,x.c,x.d,x.e,x.f,s⟩
def Xq (l:List Pa) (i k:Int):List Pa:=bif Vj l i k != 0 then [] else l.set i.toNat (paS (rd l i.toNat) (coS l i k))
def z8g (l:List Pa) (i k:Int):Bool:=smP l
theorem set_rd (l:List Pa) (i:Nat):l.set i (Pa.mk (rd l i).a (rd l i).b (rd l i).c (rd l i).d (rd l i).e (rd l i).f (v9z (rd l i).s))=l:=by
 by_cases h:i<l.length
 ·rw [Yr h];exact List.set_getElem_self h
 ·exact List.set_eq_of_length_le (by omega)
def coR (l:List Pa) (i k:Int):List AVal:=[z4o 7 7 0 l.length l.length (Xm (Zz l) (0+i.toNat) 6 [.dat (coS l i k).length (Zz (coS l i k))]),.int .i64 0]
theorem coR_le {l:List Pa} {i k:Int} (h0:Vj l i k=0) (ρ:Rho) (u:Value) (hu:Yy ρ (Up (coR l i k)) u):Yy ρ (.tup [.dat (Xq l i k).length (Zz (Xq l i k)),.int .i64 (Vj l i k)]) u:=by
 unfold coR at hu;rw [w2b] at hu;unfold Xq;rw [h0];show Yy ρ (.tup [.dat (l.set i.toNat (paS (rd l i.toNat) (coS l i k))).length (Zz (l.set i.toNat (paS (rd l i.toNat) (coS l i k)))),.int .i64 0]) u;rw [Bz];have q:Ku l.length (Xm (Zz l) i.toNat 6 [.dat (coS l i k).length (Zz (coS l i k))]) (Zz (l.set i.toNat (paS (rd l i.toNat) (coS l i k))))=true:=by refine x2p (y4b _ _) rfl rfl
 rw [Af] at hu;exact z6o (.cons (.dat _ _ _ (Jv q)) (RLe.refl _)) ρ u hu
theorem u8b {l:List Pa} {x1 x2:Int} (hs:smP l=true) (h1:0≤x1∧x1<(l.length:Int)): ∀(k i:Nat),i+k=l.length→ ∃n,Zt (z4y l x1 x2) n (.to (.h0 (i:Int) l))=.ret (coR l x1 x2)
 | 0,i,h=>by refine ⟨1,?_⟩;rw [Zw];simp (disch:=omega) only [z4y,Zc,Ye,Zo,Ah,Ab,Aa];rw [An (show 0+x1.toNat<l.length by omega),Ab,Zp];rfl
 | k+1,i,h=>by
  have hi:i<l.length:=by omega
  have hl:=z2l hs;have hc:y0b (rd l i).s =true:=An (by have:=w4h hs hi;unfold Jo;omega);obtain ⟨n,hn⟩:=u8b (x1:=x1) (x2:=x2) hs h1 k (i+1) (by omega);refine ⟨n+1,?_⟩;rw [Zw];simp (disch:=omega) only [z4y,Zc,Zj,Af,hc,Zs,Zo,Zk,Zx,Ah,Ab];rw [An hi,Ab,set_rd];exact hn
theorem j3v (l:List Pa) (x1 x2:Int) (h:z8g l x1 x2=true): ∃N vs,Zt (z4y l x1 x2) N (y3y l x1 x2)=.ret vs∧(∀(ρ:Rho) (u:Value),Yy ρ (Up vs) u→Yy ρ (.tup [.dat (Xq l x1 x2).length (Zz (Xq l x1 x2)),.int .i64 (Vj l x1 x2)]) u)∧pf 3 (Up vs)=true:=by
 have hs:smP l=true:=h;have hl:=z2l hs;have er: ∀e:Int,e≠0→Vj l x1 x2=e→ ∀(ρ:Rho) (u:Value),Yy ρ (.tup [.nils,.int .i64 e]) u→Yy ρ (.tup [.dat (Xq l x1 x2).length (Zz (Xq l x1 x2)),.int .i64 (Vj l x1 x2)]) u:=fun e he h1 ρ u hu=>by unfold Xq;rw [h1,show (e != 0)=true from bne_iff_ne.2 he,Ab];exact z6o (.cons (z2m Pa) (RLe.refl _)) ρ u hu
 unfold y3y;simp only [Zc,show Uu l=true from hs,Ab];rcases Yw (z0c l != 0) with a | a
 ·refine ⟨0,[.nils,.int .i64 _],by rw [a];rfl,er _ (bne_iff_ne.1 a) (by unfold Vj;rw [a];rfl),rfl⟩
 rw [a,Aa];rcases Yw (decide (x1<0)) with b | b
 ·refine ⟨0,[.nils,.int .i64 _],by rw [b];rfl,er 2 (by decide) (by unfold Vj;rw [a,b];rfl),rfl⟩
 rw [b,Aa];rcases Yw (decide (x1≥(l.length:Int))) with c | c
 ·refine ⟨0,[.nils,.int .i64 _],by rw [c];rfl,er 2 (by decide) (by unfold Vj;rw [a,b,c];rfl),rfl⟩
 rw [c,Aa];rcases Yw (decide (x2<0)) with d | d
 ·refine ⟨0,[.nils,.int .i64 _],by rw [d];rfl,er 2 (by decide) (by unfold Vj;rw [a,b,c,d];rfl),rfl⟩
 rw [d,Aa];rcases Yw (decide (x2>9)) with e | e
 ·refine ⟨0,[.nils,.int .i64 _],by rw [e];rfl,er 2 (by decide) (by unfold Vj;rw [a,b,c,d,e];rfl),rfl⟩
 rw [e,Aa];have h1:0≤x1∧x1<(l.length:Int):=by have:=Bb b;have:=Bb c;omega
 rw [An h1];simp only [Az,Ah,Ab,show∀L n,y6r L n=true from fun _ _=>rfl];have ev:Vj l x1 x2=bif Ji (rd l x1.toNat).s (v5u x2) != 0 then Ji (rd l x1.toNat).s (v5u x2) else z1o .e (coO l x1 x2) [bxP (rd l x1.toNat)]:=by unfold Vj;rw [a,b,c,d,e];rfl
 show∃N vs,Zt (z4y l x1 x2) N (bif Ji (rd l x1.toNat).s (v5u x2) != 0 then _ else _)=.ret vs∧_;rcases Yw (Ji (rd l x1.toNat).s (v5u x2) != 0) with f | f
 ·refine ⟨0,[.nils,.int .i64 _],by rw [f];rfl,er _ (bne_iff_ne.1 f) (by rw [ev,f];rfl),rfl⟩
 rw [f,Aa] at ev ⊢;simp only [show∀q a b,z1v q a b=true from fun _ _ _=>rfl,Ab];show∃N vs,Zt (z4y l x1 x2) N (bif z1o .e (coO l x1 x2) [bxP (rd l x1.toNat)] != 0 then _ else _)=.ret vs∧_;rcases Yw (z1o .e (coO l x1 x2) [bxP (rd l x1.toNat)] != 0) with g | g
 ·refine ⟨0,[.nils,.int .i64 _],by rw [g];rfl,er _ (bne_iff_ne.1 g) ev,rfl⟩
 rw [g,Aa];have h0:Vj l x1 x2=0:=by rw [ev];exact Decidable.not_not.1 (bne_eq_false_iff_eq.1 g |> fun z=>not_not_intro z)
 obtain ⟨n,hn⟩:=u8b (l:=l) (x1:=x1) (x2:=x2) hs h1 l.length 0 (Af _);refine ⟨n,coR l x1 x2,?_,coR_le h0,by unfold coR;rw [w2b];rfl⟩;rw [An (show (0:Int)≤(l.length:Int) by omega),An (show (l.length:Int)≤(l.length:Int) by omega),An (show (l.length:Int)*72≤1099511627776 by omega),An (show (l.length:Int)≤1099511627776 by omega),An (show 0+l.length≤l.length by omega)];exact hn
def fSco :List AVal→Option (AVal×Bool)
 | [a0,.int .i64 x1,.int .i64 x2]=>match asL Pa a0 with
  | some (L0,g0,n0)=>some (.tup [.dat (Xq L0 x1 x2).length (Zz (Xq L0 x1 x2)),.int .i64 (Vj L0 x1 x2)],isT Pa n0 g0&&(z8g L0 x1 x2))
  | _=>none
 | _=>none
theorem j7t {S:Specs} (hS:Zu prog S):Zu prog (S.with w5s fSco):=by
 refine w6l hS (by kernel_rfl) fun args v h=> ?_;unfold fSco at h;split at h
 ·rename_i a0 x1 x2;split at h
  ·rename_i L0 g0 n0 e0;simp only [Ad,Ac,Ae] at h;obtain ⟨rfl,ho0,hw⟩:=h;obtain ⟨N,vs,hN,hle,hp⟩:=j3v L0 x1 x2 hw;exact ⟨_,vs,(.cons (Yh e0 ho0) (.cons (.refl _) (.cons (.refl _) .nil))),hle,u1j L0 x1 x2 N _ hN,3,hp⟩
  ·cases h
 ·cases h
theorem j1k (x y:Int):x≤Kf x y∧y≤Kf x y∧(Kf x y=x∨Kf x y=y):=by unfold Kf;split <;> omega
theorem j1j (x y:Int):Ke x y≤x∧Ke x y≤y∧(Ke x y=x∨Ke x y=y):=by unfold Ke;split <;> omega
theorem u5v {a:Int} (h:(a != 0)=false):a=0:=by simpa using h
theorem slm_04 {M:List R6} (hl:M.length≤400) (hv: ∀r∈M,Qf r=true):Kh M=0∨Kh M=4:=by
 have one: ∀x,Yo (D6.inn M x)=0∨Yo (D6.inn M x)=4:=fun x=>by have h1:=D6.inn_length M x;unfold Yo;rw [AB (by omega),Ar.2 (z5r hv x),Aa,Ab];exact x3z _
 have all: ∀k i,eF M k i=0∨eF M k i=4:=fun k=>by
  induction k with
  | zero=>exact fun _=>.inl rfl
  | succ k ih=>
   intro i;unfold eF;cases v2a M (rd (D6.cuts M) i)
   ·exact ih (i+1)
   ·exact one _
 unfold Kh;rw [AB (by omega),Ar.2 hv,Aa,Ab];cases okF M ((D6.cuts M).length - 1) 0
 ·exact all _ _
 ·exact x3z _
def Mult (n t:Int):Prop:= ∃k,t=k*n
theorem z3w {x n:Int} (hn:1≤n∧n≤1000) (hx: -2000000≤x∧x≤2000000):Mult n (Vp x n)∧Vp x n≤x∧x<Vp x n+n:=by
 have h1:n*Int.tdiv x n+Int.tmod x n=x:=Int.mul_tdiv_add_tmod x n;have h2:Int.tdiv x n*n=x - Int.tmod x n:=by rw [Int.mul_comm];omega
 have h3: -n<Int.tmod x n∧Int.tmod x n<n∧(0≤x→0≤Int.tmod x n)∧(x≤0→Int.tmod x n≤0):=by
  refine ⟨?_,Int.tmod_lt_of_pos x (by omega),fun h=>Int.tmod_nonneg n h,fun h=> ?_⟩
  ·have:=Int.lt_tmod_of_pos x (show 0<n by omega);omega
  ·have:=Int.tmod_nonneg n (show 0≤ -x by omega);rw [Int.neg_tmod] at this;omega
 have h4: -2000000≤Int.tdiv x n∧Int.tdiv x n≤2000000:=by
  generalize Int.tdiv x n=q at h2;generalize Int.tmod x n=m at h2 h3;rcases Int.lt_trichotomy q 0 with hq | hq | hq
  ·have:q*n≤q*1:=Int.mul_le_mul_of_nonpos_left (by omega) (by omega);omega
  ·omega
  ·have:q*1≤q*n:=Int.mul_le_mul_of_nonneg_left (by omega) (by omega);omega
 have h5:(Int.tdiv x n - 1)*n=x - Int.tmod x n - n:=by rw [Int.sub_mul,Int.one_mul,h2]
 unfold Vp;rw [Zk (n:=Int.tdiv x n) (by omega),Zk (n:=Int.tdiv x n*n) (by omega),Zk (n:=Int.tdiv x n - 1) (by omega),Zk (n:=(Int.tdiv x n - 1)*n) (by omega)];by_cases h:Int.tdiv x n*n>x
 ·rw [Ys h,Ab];exact ⟨⟨_,rfl⟩,by omega,by omega⟩
 ·rw [Xt h,Aa];exact ⟨⟨_,rfl⟩,by omega,by omega⟩
theorem y0n {x n:Int} (hn:1≤n∧n≤1000) (hx: -1900000≤x∧x≤1900000):Mult n (upV x n)∧x≤upV x n∧upV x n<x+n:=by unfold upV;rw [Zk (n:=0 - x) (by omega)];obtain ⟨⟨k,hk⟩,h1,h2⟩:=z3w (x:=0 - x) hn (by omega);rw [Zk (n:=0 - Vp (0 - x) n) (by omega)];exact ⟨⟨-k,by rw [Int.neg_mul,←hk];omega⟩,by omega,by omega⟩
theorem oB_val {n:Int} (hn:1≤n∧n≤1000) {r:R6} (h:Qf r=true) (ho:oOk n r=true):Qf (oB n r)=true:=by
 have v:=Ju h;obtain ⟨_,a1,a2⟩:=z3w (x:=r.a) hn (by omega);obtain ⟨_,b1,b2⟩:=z3w (x:=r.b) hn (by omega);obtain ⟨_,c1,c2⟩:=z3w (x:=r.c) hn (by omega);obtain ⟨_,d1,d2⟩:=y0n (x:=r.d) hn (by omega);obtain ⟨_,e1,e2⟩:=y0n (x:=r.e) hn (by omega);obtain ⟨_,f1,f2⟩:=y0n (x:=r.f) hn (by omega);simp only [oOk,Ae,Bn,Ba] at ho;obtain ⟨o1,o2⟩:=ho;have i1:=j1j (Vp r.a n) (Vp r.b n);have i2:=j1j (Ke (Vp r.a n) (Vp r.b n)) (Vp r.c n);have i3:=j1k (upV r.d n) (upV r.e n);have i4:=j1k (Kf (upV r.d n) (upV r.e n)) (upV r.f n);rw [y9i];unfold oB x7r;dsimp only;simp only [Ae,At];have j1: -1000000≤Vp r.a n∧ -1000000≤Vp r.b n∧ -1000000≤Vp r.c n:=by omega
 have j2:upV r.d n≤1000000∧upV r.e n≤1000000∧upV r.f n≤1000000:=by omega
 (repeat' apply And.intro) <;> omega
theorem out_ok {L:List R6} {n:Int} (h:Ji L n=0):Zh L=0∧(1≤n∧n≤1000)∧Vq L n=z0y (L.map (oB n))∧Kh (L.map (oB n))=0:=by
 unfold Ji at h;rcases Yw (Zh L != 0) with a | a
 ·rw [a,Ab] at h;rw [h] at a;cases a
 rw [a,Aa] at h;rcases Yw (decide (n<1)) with b | b
 ·rw [b] at h;cases h
 rcases Yw (decide (n>1000)) with c | c
 ·rw [b,c] at h;cases h
 rw [b,c,Bool.or_false,Aa] at h;rcases Yw (L.all (oOk n)) with d | d
 ·rw [d,Ab] at h;have hb:=Bb b;have hc:=Bb c;refine ⟨u5v a,by omega,?_,h⟩;unfold Vq outP;rw [u5v a,b,c,d];rfl
 ·rw [d] at h;cases h
theorem all_oB {L:List R6} {n:Int} (hn:1≤n∧n≤1000) (hv: ∀r∈L,Qf r=true) (ho:L.all (oOk n)=true): ∀r∈L.map (oB n),Qf r=true:=fun r hr=>by obtain ⟨s,hs,rfl⟩:=AO.1 hr;exact oB_val hn (hv s hs) (Ar.1 ho s hs)
theorem j5w {L:List R6} (h:Zh L=0) {n:Int} (hn:1≤n∧n≤1000):Ji L n=0∨Ji L n=4∨Ji L n=16:=by
 obtain ⟨hl,hv,_⟩:=Vk h;unfold Ji;rw [h,AB (show ¬n<1 by omega),AB (show ¬n>1000 by omega)];rcases Yw (L.all (oOk n)) with d | d
 ·rw [d];rcases slm_04 (M:=L.map (oB n)) (by rw [Bp];exact hl) (all_oB hn hv d) with e | e
  ·exact .inl e
  ·exact .inr (.inl e)
 ·rw [d];exact .inr (.inr rfl)
theorem v5z {L:List R6} {n:Int} (h:Ji L n=0):Zh (Vq L n)=0∧ ∀x y z,inS L x y z→inS (Vq L n) x y z:=by
 obtain ⟨h1,hn,h2,h3⟩:=out_ok h;obtain ⟨m1,m2,m3,m4⟩:=w4i h3;obtain ⟨c1,c2⟩:=v3j h3;have hv:=(Vk h1).2.1;rw [h2];refine ⟨z8h (by rw [x8p h3];exact m4) (v9a c1 fun x y z k=> ?_) c1,fun x y z hp=>(c2 x y z).2 ?_⟩
 ·obtain ⟨r,hr,q1,q2,q3⟩:=(c2 x y z).1 k;have:=Ju (m2 r hr);omega
 ·obtain ⟨r,hr,q1,q2,q3⟩:=hp;have v:=Ju (hv r hr);obtain ⟨_,a1,_⟩:=z3w (x:=r.a) hn (by omega);obtain ⟨_,b1,_⟩:=z3w (x:=r.b) hn (by omega);obtain ⟨_,c1,_⟩:=z3w (x:=r.c) hn (by omega);obtain ⟨_,d1,_⟩:=y0n (x:=r.d) hn (by omega);obtain ⟨_,e1,_⟩:=y0n (x:=r.e) hn (by omega);obtain ⟨_,f1,_⟩:=y0n (x:=r.f) hn (by omega);refine ⟨oB n r,List.mem_map_of_mem hr,?_⟩;unfold oB;dsimp only;omega
theorem u7y : ∀{l:List Pa},(∀x∈l,Zh x.s=0)→skE l=0
 | [],_=>rfl
 | x::r,h=>by unfold skE;rw [h x (by simp)];exact u7y fun y hy=>h y (by simp [hy])
theorem u7w {l:List Pa}: ∀k i,(∀j,i≤j→j<i+k→x6z l j=false)→skG l k i=0
 | 0,i,_=>rfl
 | k+1,i,h=>by unfold skG;rw [h i (Aq _) (by omega)];exact u7w k (i+1) fun j h1 h2=>h j (by omega) (by omega)
theorem v9d (l:List Pa) (i:Nat) (S:List R6) (j:Nat):bxP (rd (l.set i (paS (rd l i) S)) j)=bxP (rd l j):=by
 by_cases h:j<l.length
 ·rw [x0s h];split
  ·rename_i e;subst e;rfl
  ·rfl
 ·unfold rd;simp [h]
theorem x5k (l:List Pa) {i j:Nat} (x:Pa) (h:j≠i):rd (l.set i x) j=rd l j:=by
 by_cases h':j<l.length
 ·rw [x0s h',AF h]
 ·unfold rd;simp [h']
theorem j3l {l:List Pa} {i:Nat} {S:List R6} (h:z0c l=0) (hi:i<l.length) (hS:Zh S=0) (hin: ∀x y z,inS S x y z→w6d (bxP (rd l i)) x y z):z0c (l.set i (paS (rd l i) S))=0:=by
 have L:=y1l h;obtain ⟨_,_,hG⟩:=x2k h;have bad:=x8u _ _ hG;unfold z0c;rw [Bz,AB (show ¬50<l.length by have:=L.len;omega),Aa,u7y fun x hx=> ?_]
 ·show skG _ l.length 0=0;refine u7w _ _ fun j _ hj=> ?_;have hj:j<l.length:=by omega
  have b:=bad j (Ay _) (by omega);unfold x6z at b ⊢;rw [v9d];have em:(l.set i (paS (rd l i) S)).map bxP=l.map bxP:=by
   rw [List.map_set];show (l.map bxP).set i (bxP (rd l i))=_;have hi':i<(l.map bxP).length :=by rw [Bp];exact hi
   have e:bxP (rd l i)=(l.map bxP)[i]:=by rw [List.getElem_map,Yr hi]
   rw [e];exact List.set_getElem_self hi'
  have t:((l.set i (paS (rd l i) S)).take j).any (fun y=>w5t (bxP (rd l j)) (bxP y))=(l.take j).any (fun y=>w5t (bxP (rd l j)) (bxP y)):=by
   have a: ∀L:List Pa,(L.take j).any (fun y=>w5t (bxP (rd l j)) (bxP y))=((L.map bxP).take j).any (w5t (bxP (rd l j))):=fun L=>by rw [←List.map_take,List.any_map];rfl
   rw [a,a,em]
  rw [t];by_cases e:j=i
  ·subst e;rw [x0s hj,AL rfl];have hv:=(Vk hS).2.1;have ins:S.any (fun r=> !insR r (bxP (rd l j)))=false:=List.any_eq_false.2 fun r hr=>by
    have v:=Ju (hv r hr);have a1:=hin r.a r.b r.c ⟨r,hr,by omega,by omega,by omega⟩;have a2:=hin (r.d - 1) (r.e - 1) (r.f - 1) ⟨r,hr,by omega,by omega,by omega⟩;unfold w6d at a1 a2;unfold insR j1h
    grind
   show (Zh [bxP (rd l j)] != 0||(S.any (fun r=> !insR r (bxP (rd l j)))||(l.take j).any fun y=>w5t (bxP (rd l j)) (bxP y)))=false;rw [ins];simp only [Bf] at b ⊢;exact ⟨b.1,trivial,b.2.2⟩
  ·rw [x5k l _ e];exact b
 ·rcases List.mem_or_eq_of_mem_set hx with hx | rfl
  ·obtain ⟨m,hm,rfl⟩:=List.mem_iff_getElem.1 hx;have:=L.sck m hm;rwa [Yr hm] at this
  ·exact hS
theorem pik_n {k:Int} (h:0≤k∧k≤9):1≤v5u k∧v5u k≤1000:=by
 have:k=0∨k=1∨k=2∨k=3∨k=4∨k=5∨k=6∨k=7∨k=8∨k=9:=by omega
 rcases this with rfl | rfl | rfl | rfl | rfl | rfl | rfl | rfl | rfl | rfl <;> decide
theorem u1i {l:List Pa} (h:z0c l=0) {i k:Int} (h0:Vj l i k=0):(0≤i∧i<(l.length:Int))∧Xq l i k=l.set i.toNat (paS (rd l i.toNat) (coS l i k))∧z0c (Xq l i k)=0∧
  Zh (coS l i k)=0∧ ∀x y z,inS (rd l i.toNat).s x y z→inS (coS l i k) x y z:=by
 have L:=y1l h;have e0:Xq l i k=l.set i.toNat (paS (rd l i.toNat) (coS l i k)):=by unfold Xq;rw [h0];rfl
 unfold Vj at h0;rw [h] at h0;rcases Yw (decide (i<0)||(decide (i≥(l.length:Int))||(decide (k<0)||decide (k>9)))) with b | b
 ·rw [b] at h0;cases h0
 rw [b] at h0;simp only [Bf,Ba] at b;have hi:i.toNat<l.length:=by omega
 rcases Yw (Ji (rd l i.toNat).s (v5u k) != 0) with c | c
 ·rw [c] at h0;exact absurd h0 (bne_iff_ne.1 c)
 rw [c] at h0;obtain ⟨o1,o2⟩:=v5z (u5v c);have h0:slE .e (coO l i k) [bxP (rd l i.toNat)]=0:=h0;obtain ⟨s1,s2⟩:=j3f h0;have es:coS l i k=slJ .e (coO l i k) [bxP (rd l i.toNat)]:=by show y7s (slE .e (coO l i k) [bxP (rd l i.toNat)]) (slJ .e (coO l i k) [bxP (rd l i.toNat)])=_;rw [h0];rfl
 have pt: ∀x y z,inS (coS l i k) x y z↔inS (coO l i k) x y z∧w6d (bxP (rd l i.toNat)) x y z:=fun x y z=>by
  rw [es,Kj,s2,Kj];have e1:ptL z1p.inB [bxP (rd l i.toNat)] (z,x,y)↔w6d (bxP (rd l i.toNat)) x y z:=by rw [←Kj];unfold inS w6d;simp
  show (decide (ptL z1p.inB (coO l i k) (z,x,y))&&decide (ptL z1p.inB [bxP (rd l i.toNat)] (z,x,y)))=true↔_;rw [Ae,Be,Be,e1]
 have hl:(slJ .e (coO l i k) [bxP (rd l i.toNat)]).length ≤400:=by have hf:=(w4m h0).2.2;unfold slE at h0;rw [show Zh (coO l i k)=0 from o1,L.val _ hi,hf] at h0;exact y7x h0
 have bb:=Ju ((Vk (L.val _ hi)).2.1 (bxP (rd l i.toNat)) (by simp));have hS:Zh (coS l i k)=0:=z8h (by rw [es];exact hl) (v9a (by rw [es];exact s1) fun x y z p=>by
  have:=((pt x y z).1 p).2;unfold w6d at this;omega) (by rw [es];exact s1)
 refine ⟨by omega,e0,?_,hS,fun x y z p=>(pt x y z).2 ⟨o2 x y z p,L.ins _ hi x y z p⟩⟩;rw [e0];exact j3l h hi hS fun x y z p=>((pt x y z).1 p).2
theorem j3w {l:List Pa} (h:z0c l=0) {i k:Int}:Vj l i k=0∨Vj l i k=2∨Vj l i k=4∨Vj l i k=16:=by
 have L:=y1l h;unfold Vj;rw [h];rcases Yw (decide (i<0)||(decide (i≥(l.length:Int))||(decide (k<0)||decide (k>9)))) with b | b
 ·rw [b];exact .inr (.inl rfl)
 rw [b];simp only [Bf,Ba] at b;have hi:i.toNat<l.length:=by omega
 rcases Yw (Ji (rd l i.toNat).s (v5u k) != 0) with c | c
 ·rw [c];rcases j5w (L.sck _ hi) (pik_n (k:=k) (by omega)) with e | e | e
  ·exact absurd e (bne_iff_ne.1 c)
  ·exact .inr (.inr (.inl e))
  ·exact .inr (.inr (.inr e))
 rw [c];rcases slE_04 .e (v5z (u5v c)).1 (L.val _ hi) with e | e
 ·exact .inl e
 ·exact .inr (.inr (.inl e))
def W4 :Specs:=((W2.with v6v fAl4).with nFit4 fFit).with w5s fSco
theorem z7y :Zu prog W4:=j7t (j8r (j9a z1g))
inductive lsoS where
 | h0 (v10:Int)
def lsoC (l0:List Pa) (x1:Int) (x2:Int):lsoS→Cfg
 | .h0 v10=>⟨⟨124,0,true⟩,none,(Zg prog 7 [1,1,1,1,1,1,0,1,0,0] 0),none,(Zy prog 3),⟨Yk [(0,(.dat l0.length (Zz l0))),(1,(ii x1)),(7,(.bool true)),(8,(.dat (Xq (cvT l0) x1 x2).length (Zz (Xq (cvT l0) x1 x2)))),(10,(ii v10))],Vv [] 0,0,[],true⟩,[],.leaf⟩
def j6n :List (Option (List Nat)):=[some [0,1,7,8,10]]
def j6o :List (Option (List Nat)):=[]
def y1k (l0:List Pa) (x1:Int) (x2:Int):lsoS→Xw lsoS
 | .h0 v10=>(bif (decide (v10<(l0.length:Int))) then (bif ((decide (0≤v10∧v10<(((Xq (cvT l0) x1 x2).length :Nat):Int)))&&true) then (bif ((decide (0≤v10∧v10<(l0.length:Int)))&&true) then (bif (!((((rd (Xq (cvT l0) x1 x2) v10.toNat).a == (rd l0 v10.toNat).a)&&(((rd (Xq (cvT l0) x1 x2) v10.toNat).b == (rd l0 v10.toNat).b)&&(((rd (Xq (cvT l0) x1 x2) v10.toNat).c == (rd l0 v10.toNat).c)&&true)))&&((((rd (Xq (cvT l0) x1 x2) v10.toNat).d == (rd l0 v10.toNat).d)&&(((rd (Xq (cvT l0) x1 x2) v10.toNat).e == (rd l0 v10.toNat).e)&&(((rd (Xq (cvT l0) x1 x2) v10.toNat).f == (rd l0 v10.toNat).f)&&true)))&&true))) then (.ret [(.bool false)]) else (bif (v10 != x1) then (bif (Vz (cvT (rd (Xq (cvT l0) x1 x2) v10.toNat).s) (cvT (rd l0 v10.toNat).s)) then (bif (!(Ka (cvT (rd (Xq (cvT l0) x1 x2) v10.toNat).s) (cvT (rd l0 v10.toNat).s))) then (.ret [(.bool false)]) else (.to (.h0 (wrap .i64 (v10+1))))) else .stuck) else (.to (.h0 (wrap .i64 (v10+1)))))) else .stuck) else .stuck) else (bif ((decide (0≤x1∧x1<(l0.length:Int)))&&true) then (bif ((decide (0≤x1∧x1<(((Xq (cvT l0) x1 x2).length :Nat):Int)))&&true) then (bif (z1v .d (cvT (rd l0 x1.toNat).s) (cvT (rd (Xq (cvT l0) x1 x2) x1.toNat).s)) then (bif ((z1o .d (cvT (rd l0 x1.toNat).s) (cvT (rd (Xq (cvT l0) x1 x2) x1.toNat).s)) == 0) then (.ret [(.bool ((((Qz .d (cvT (rd l0 x1.toNat).s) (cvT (rd (Xq (cvT l0) x1 x2) x1.toNat).s)).length :Nat):Int) == 0))]) else (.ret [(.bool false)])) else .stuck) else .stuck) else .stuck))
def y4w (l0:List Pa) (x1:Int) (x2:Int):Xw lsoS:=(bif (z9q (cvT l0)) then (bif (!(j7f (cvT l0))) then (.ret [(.bool true)]) else (bif (z8g (cvT l0) x1 x2) then (bif ((Vj (cvT l0) x1 x2) != 0) then (bif ((Vj (cvT l0) x1 x2) == 2) then (.ret [(.bool true)]) else (bif ((Vj (cvT l0) x1 x2) == 4) then (.ret [(.bool true)]) else (.ret [(.bool ((Vj (cvT l0) x1 x2) == 16))]))) else (bif (decide (x1<0)) then (.ret [(.bool false)]) else (bif (decide (x1≥(l0.length:Int))) then (.ret [(.bool false)]) else (bif ((((Xq (cvT l0) x1 x2).length :Nat):Int) != (l0.length:Int)) then (.ret [(.bool false)]) else (bif (Uu (cvT (Xq (cvT l0) x1 x2))) then (bif ((z0c (cvT (Xq (cvT l0) x1 x2))) != 0) then (.ret [(.bool false)]) else (.to (.h0 0))) else .stuck))))) else .stuck)) else .stuck)
theorem w9r (l0:List Pa) (x1:Int) (x2:Int): ∀s,Xv prog (Zy prog 7) (lsoC l0 x1 x2) (lsoC l0 x1 x2 s) (y1k l0 x1 x2 s)
 | .h0 v10=>(lb (fun k0=>(lo fun aI=>(lo fun bG=>(lb (fun k1=>(lr 124 7 [1,1,1,1,1,1,0,1,0,0,1,0,0,1,0,0] 1 3 [(6,(.bool false))] (sl z7y 19 [] ⟨[],[],[some [6]],[]⟩ ⟨[],[],[]⟩ (trs 7 []) (tt k1 (ww bG (ww aI (tt k0 nn))))))) (fun k1=>(lb (fun k2=>(lo fun cA=>(lb (fun k3=>(lr 124 7 [1,1,1,1,1,1,0,1,0,0,1,0,0,1,0,0] 1 3 [(6,(.bool false))] (sl z7y 19 [] ⟨[],[],[some [6]],[]⟩ ⟨[],[],[]⟩ (bl 19 393185) (tt k3 (pp (pp (xI R6 (rd (Xq (cvT l0) x1 x2) (tn v10)).s.length (Zz (rd (Xq (cvT l0) x1 x2) (tn v10)).s)) (pp (xI R6 (rd l0 (tn v10)).s.length (Zz (rd l0 (tn v10)).s)) (xw cA))) (ww bG (ww aI (tt k2 (tt k1 (ww bG (ww aI (tt k0 nn)))))))))))) (fun k3=>(sl z7y 23 [] ⟨[],[],j6n,j6o⟩ ⟨[],[],[]⟩ (bl 19 131041) (tt k3 (pp (pp (xI R6 (rd (Xq (cvT l0) x1 x2) (tn v10)).s.length (Zz (rd (Xq (cvT l0) x1 x2) (tn v10)).s)) (pp (xI R6 (rd l0 (tn v10)).s.length (Zz (rd l0 (tn v10)).s)) (xw cA))) (ww bG (ww aI (tt k2 (tt k1 (ww bG (ww aI (tt k0 nn)))))))))))))) (fun k2=>(sl z7y 23 [] ⟨[],[],j6n,j6o⟩ ⟨[],[],[]⟩ (bl 19 1) (tt k2 (tt k1 (ww bG (ww aI (tt k0 nn))))))))))))) (fun k0=>(lo fun aI=>(lo fun bG=>(lo fun cP=>(lb (fun k1=>(lr 124 3 [1,1,1,1,0] 1 3 [(6,(.bool ((((Qz .d (cvT (rd l0 (tn x1)).s) (cvT (rd (Xq (cvT l0) x1 x2) (tn x1)).s)).length :Nat):Int) == 0)))] (sl z7y 26 [] ⟨[],[],[some [6]],[]⟩ ⟨[],[],[]⟩ (bl 6 62) (tt k1 (pp (pp (xI R6 (rd l0 (tn x1)).s.length (Zz (rd l0 (tn x1)).s)) (pp (xI R6 (rd (Xq (cvT l0) x1 x2) (tn x1)).s.length (Zz (rd (Xq (cvT l0) x1 x2) (tn x1)).s)) (xw cP))) (ww bG (ww aI (tt k0 nn)))))))) (fun k1=>(lr 124 3 [1,1,1,1,0] 1 3 [(6,(.bool false))] (sl z7y 26 [] ⟨[],[],[some [6]],[]⟩ ⟨[],[],[]⟩ (bl 6 6) (tt k1 (pp (pp (xI R6 (rd l0 (tn x1)).s.length (Zz (rd l0 (tn x1)).s)) (pp (xI R6 (rd (Xq (cvT l0) x1 x2) (tn x1)).s.length (Zz (rd (Xq (cvT l0) x1 x2) (tn x1)).s)) (xw cP))) (ww bG (ww aI (tt k0 nn))))))))))))))
theorem w1c (l0:List Pa) (x1:Int) (x2:Int):Xv prog (Zy prog 7) (lsoC l0 x1 x2) (Za prog 7 [(.dat l0.length (Zz l0)),(.int .i64 x1),(.int .i64 x2)] true []) (y4w l0 x1 x2):=(lo fun bP=>(lb (fun k0=>(lr 124 7 [1,1,0,1,0,0] 1 3 [(6,(.bool true))] (sl z7y 26 [] ⟨[],[],[some [6]],[]⟩ ⟨[],[],[]⟩ (trs 3 []) (tt k0 (pp (pp (xr l0) (xw bP)) nn))))) (fun k0=>(lo fun aI=>(lb (fun k1=>(lb (fun k2=>(lr 124 7 [1,1,1,1,0,1,0,0] 1 3 [(6,(.bool true))] (sl z7y 58 [] ⟨[],[],[some [6]],[]⟩ ⟨[],[],[]⟩ [false,false,false,true,true,true,true,true,true,true,true,true,true,true] (tt k2 (tt k1 (pp (pp (xr l0) (xw aI)) (tt k0 (pp (pp (xr l0) (xw bP)) nn)))))))) (fun k2=>(lb (fun k3=>(lr 124 7 [1,1,1,1,0,1,0,0] 1 3 [(6,(.bool true))] (sl z7y 58 [] ⟨[],[],[some [6]],[]⟩ ⟨[],[],[]⟩ [false,false,false,true,true,true,true,false,false,true,true,true,true,true] (tt k3 (tt k2 (tt k1 (pp (pp (xr l0) (xw aI)) (tt k0 (pp (pp (xr l0) (xw bP)) nn))))))))) (fun k3=>(lr 124 7 [1,1,1,1,0,1,0,0] 1 3 [(6,(.bool ((Vj (cvT l0) x1 x2) == 16)))] (sl z7y 58 [] ⟨[],[],[some [6]],[]⟩ ⟨[],[],[]⟩ [false,false,false,true,true,true,true,false,false,true,true,false,false,true] (tt k3 (tt k2 (tt k1 (pp (pp (xr l0) (xw aI)) (tt k0 (pp (pp (xr l0) (xw bP)) nn))))))))))))) (fun k1=>(lb (fun k2=>(lr 124 7 [1,1,1,1,1,0,1,0,0] 1 3 [(6,(.bool false))] (sl z7y 71 [] ⟨[],[],[some [6]],[]⟩ ⟨[],[],[]⟩ [false,false,false,false,true,true,true,true,true,true,true,true,true,true,true,true,true] (tt k2 (tt k1 (pp (pp (xr l0) (xw aI)) (tt k0 (pp (pp (xr l0) (xw bP)) nn)))))))) (fun k2=>(lb (fun k3=>(lr 124 7 [1,1,1,1,1,0,1,0,0] 1 3 [(6,(.bool false))] (sl z7y 71 [] ⟨[],[],[some [6]],[]⟩ ⟨[],[],[]⟩ [false,false,false,false,false,false,false,false,true,true,true,true,true,true,true,true,true] (tt k3 (tt k2 (tt k1 (pp (pp (xr l0) (xw aI)) (tt k0 (pp (pp (xr l0) (xw bP)) nn))))))))) (fun k3=>(lb (fun k4=>(lr 124 7 [1,1,1,1,1,0,1,0,0] 1 3 [(6,(.bool false))] (sl z7y 71 [] ⟨[],[],[some [6]],[]⟩ ⟨[],[],[]⟩ [false,false,false,false,false,false,false,false,false,false,false,false,false,true,true,true,true] (tt k4 (tt k3 (tt k2 (tt k1 (pp (pp (xr l0) (xw aI)) (tt k0 (pp (pp (xr l0) (xw bP)) nn)))))))))) (fun k4=>(lo fun cL=>(lb (fun k5=>(lr 124 7 [1,1,1,1,1,0,1,0,0] 1 3 [(6,(.bool false))] (sl z7y 71 [] ⟨[],[],[some [6]],[]⟩ ⟨[],[],[]⟩ [false,false,false,false,false,false,false,false,false,false,false,false,false,false,false,false,true] (tt k5 (pp (pp (xI Pa (Xq (cvT l0) x1 x2).length (Zz (Xq (cvT l0) x1 x2))) (xw cL)) (tt k4 (tt k3 (tt k2 (tt k1 (pp (pp (xr l0) (xw aI)) (tt k0 (pp (pp (xr l0) (xw bP)) nn)))))))))))) (fun k5=>(sl z7y 75 [] ⟨[],[],j6n,j6o⟩ ⟨[],[],[]⟩ [false,false,false,false,false,false,false,false,false,false,false,false,false,false,false,false,false] (tt k5 (pp (pp (xI Pa (Xq (cvT l0) x1 x2).length (Zz (Xq (cvT l0) x1 x2))) (xw cL)) (tt k4 (tt k3 (tt k2 (tt k1 (pp (pp (xr l0) (xw aI)) (tt k0 (pp (pp (xr l0) (xw bP)) nn)))))))))))))))))))))))))
theorem lso_ends (l0:List Pa) (x1:Int) (x2:Int) (n:Nat) (vs:List AVal) (h:Zt (y1k l0 x1 x2) n (y4w l0 x1 x2)=.ret vs):Uv prog (Zy prog 7) (Za prog 7 [(.dat l0.length (Zz l0)),(.int .i64 x1),(.int .i64 x2)] true []) vs:=by have:=Ze (w9r l0 x1 x2) n _ (w1c l0 x1 x2);rwa [h] at this
theorem u5a {l:List Pa} (h:j7f l=true):l.length≤6∧z0c l=0∧smP l=true:=by
 unfold j7f at h;rcases Yw (decide ((l.length:Int)≤6)) with a | a
 ·rw [a,Ab] at h;have h6:l.length≤6:=by have:=Av a;omega
  rcases Yw (u2d l) with b | b
  ·rw [b,Ab] at h;exact ⟨h6,by rw [chk_eq];exact eq_of_beq h,u8u b h6⟩
  ·rw [b] at h;cases h
 ·rw [a] at h;cases h
theorem j1e {l:List Pa} {i k:Int} {S:List R6} (hs:z0c l=0) (hl:l.length≤6) (hi:0≤i∧i<(l.length:Int)) (e0:Xq l i k=l.set i.toNat (paS (rd l i.toNat) S)) (hd1:z1o .d (rd l i.toNat).s S=0) (hd0:Qz .d (rd l i.toNat).s S=[]):
  ∀(m j:Nat),j+m=l.length→ ∃n,Zt (y1k l i k) n (.to (.h0 (j:Int)))=.ret [.bool true]
 | 0,j,h=>by
  refine ⟨1,?_⟩;have hi':i.toNat<l.length:=by omega
  rw [Zw];simp (disch:=omega) only [y1k,Zc,e0,Bz,Ye,Zo,Ah,Ab,Aa,show∀q a b,z1v q a b=true from fun _ _ _=>rfl];rw [x0s hi',AL rfl];simp only [paS,hd1,hd0];rfl
 | m+1,j,h=>by
  have hj:j<l.length:=by omega
  obtain ⟨n,hn⟩:=j1e hs hl hi e0 hd1 hd0 m (j+1) (by omega);refine ⟨n+1,?_⟩;have bx:=v9d l i.toNat S j;simp only [bxP,R6.mk.injEq] at bx;obtain ⟨b1,b2,b3,b4,b5,b6⟩:=bx;have so:Vz (rd l j).s (rd l j).s =true:=An (by have:=(y0x hs hj).2;omega);rw [Zw];simp (disch:=omega) only [y1k,Zc,e0,Bz,Zs,Zo,Zk,Zx,Zj,Ah,Ab,b1,b2,b3,b4,b5,b6,beq_self_eq_true,Aw,Aa];by_cases e:(j:Int)=i
  ·rw [show ((j:Int) != i)=false by simp [e],Aa];exact hn
  ·have e':j≠i.toNat:=by omega
   rw [show ((j:Int) != i)=true by simp [e],Ab,x5k l _ e',so,show Ka (rd l j).s (rd l j).s =true from An rfl];exact hn
theorem lso_run (l:List Pa) (i k:Int): ∃N,Zt (y1k l i k) N (y4w l i k)=.ret [.bool true]:=by
 unfold y4w;simp only [Zc,show z9q l=true from rfl,Ab];rcases (Yw (j7f l)).symm with q | q
 ·exact ⟨0,by rw [q];rfl⟩
 obtain ⟨h6,hc,hs⟩:=u5a q;rw [q];simp only [Aw,Aa,show z8g l i k=true from hs,Ab];by_cases h0:Vj l i k=0
 ·obtain ⟨hi,e0,k0,kS,pt⟩:=u1i hc h0;have hi':i.toNat<l.length:=by omega
  obtain ⟨d1,d0⟩:=slN ((y1l hc).sck _ hi') kS pt;obtain ⟨n,hn⟩:=j1e (k:=k) hc h6 hi e0 d1 d0 l.length 0 (Af _);have so:smP (Xq l i k)=true:=by have L:=y1l k0;unfold smP;rw [Ae,Be,Ar];refine ⟨by have:=L.len;omega,fun x hx=> ?_⟩;obtain ⟨m,hm,rfl⟩:=List.mem_iff_getElem.1 hx;have:=(y0x k0 hm).2;rw [Yr hm] at this;exact An (by omega)
  refine ⟨n,?_⟩;have el:((Xq l i k).length :Int)=(l.length:Int):=by rw [e0,Bz]
  rw [h0,Ye (show ¬i<0 by omega),dge_f (show ¬i≥(l.length:Int) by omega),el,show Uu (Xq l i k)=true from so,k0];simp only [show ((0:Int) != 0)=false from rfl,bne_self_eq_false,Ab,Aa];exact hn
 ·have e:(Vj l i k != 0)=true:=bne_iff_ne.2 h0;refine ⟨0,?_⟩;rw [e,Ab];rcases j3w hc (i:=i) (k:=k) with z | z | z | z
  ·exact absurd z h0
  all_goals rw [z];rfl
open Go.ChangeShapes Go.WideShapes Go.Deep
section
variable {P:Program}
def v7n (P:Program) (e:TypeId):List (TypeId×Nat):=match P.underlying e with
 | some (.struct fs)=>fs.toList.map fun f=>(f.type,f.offset)
 | _=>[]
def elsD {H:Type}:DataW H→List (DataW H)
 | .slice es _=>es
 | _=>[]
def w8q {H:Type} (n:Nat) (q:DataW H):Prop:=n=(elsD q).length ∧ ∀y∈elsD q,∃z r,y=.agg (z::r)
theorem w6j {e t0 t1:TypeId} {a b:Nat} (h:v7n P e=[(t0,a),(t1,b)]): ∃fs:Array Field,P.underlying e=some (.struct fs)∧fs.size=2∧(∃f0,fs[0]? =some f0∧f0.type=t0∧f0.offset=a)∧ ∃f1,fs[1]? =some f1∧f1.type=t1∧f1.offset=b:=by
 unfold v7n at h;split at h
 ·rename_i fs hu;refine ⟨fs,hu,?_⟩;obtain ⟨l⟩:=fs;simp only at h
  match l,h with
  | [f0,f1],h=>simp only [AU,BA,List.cons.injEq,Ac,Bk] at h;exact ⟨rfl,⟨f0,rfl,h.1.1,h.1.2⟩,f1,rfl,h.2.1,h.2.2⟩
 ·cases h
abbrev ks6 :List IntKind:=[.i64,.i64,.i64,.i64,.i64,.i64]
variable {HH:Type} {enc:TypeId×Value→HH} {w:World} {base:Nat} {held:Bool}
theorem w9i {t e f0 f1:TypeId} {o0 o1:Nat} {ks:List IntKind} {cs:List Value} {x:DataW HH×List MemPlace} {fuel:Nat} (ht:P.underlying t=some (.slice e)) (hk:y7h P 30 e=some ks) (hks:1≤ks.length) (hfl:v7n P e=[(f0,o0),(f1,o1)])
  (h:DataW.trod enc P w base (fun _=>true) held fuel t cs=some x):
  ∃(v:Value) (n:Nat) (c:Nat→Nat→Int),cs=[v]∧Yy (z1q fun k=>w.heap[k]?) (.dat n (fun i=>x2u ks (c i))) v∧w8q n x.1:=by
 rcases open_slice ht h with ⟨h0,rfl⟩ | ⟨a,len,cap,m,fl,D,Pl,hcs,hb,hl,dW,hm,rfl,hi⟩
 ·exact ⟨_,0,fun _ _=>0,h0,.datn _,rfl,fun y hy=>by cases hy⟩
 ·simp only [if_true] at hm;subst hm;have hL:w8q len (DataW.slice ((List.range len).map D) ((List.range (m - len)).map fun j=>D (len+j))):=by
   refine ⟨by simp [elsD],fun y hy=> ?_⟩;obtain ⟨i,hi2,rfl⟩:=AO.1 hy;have hil:=A5.1 hi2;obtain ⟨cs',_,ht'⟩:=hi i (by omega);obtain ⟨fs,hu,hsz,_⟩:=w6j hfl;obtain ⟨xs,_,_,hx,_,hxl,_⟩:=DataW.trod_struct hu ht';have hx:=(Prod.mk.inj hx).1
   match xs,hxl with
   | [],hxl=>simp at hxl;omega
   | z::r,_=>exact ⟨_,_,hx⟩
  by_cases hc0:m=0
  ·subst hc0;obtain rfl:len=0:=by omega
   exact ⟨_,0,fun _ _=>0,hcs,.datz _ _ _,hL⟩
  ·have hspot:a.spot=none:=by
    obtain ⟨cs',hc',ht'⟩:=hi 0 (by omega);have I:=z3t 30 e ks hk _ _ _ ht';obtain ⟨_,dQ,eW⟩:=World.cells?_some hc';have h1:=eW 0 (by rw [←dQ,I.length];exact hks);obtain ⟨blk,off,spot⟩:=a;have h2:cs'[0]? =some (cs'[0]'(by rw [I.length];exact hks)):=(by simp);rw [h2] at h1
    simpa [Addr.add] using World.cell?_spot h1
   obtain ⟨blk,off,spot⟩:=a;simp only at hspot;subst hspot;obtain ⟨c,h1,h2⟩:=u5p (w:=w) hk hl hl hi;exact ⟨_,len,c,hcs,h1,hL⟩
theorem open_land {t e t0 t1 b f0 f1:TypeId} {o0 o1:Nat} {v:Value} {d:DataW HH} {p:List MemPlace} (ht:P.underlying t=some (.slice e)) (hs:v7n P e=[(t0,0),(t1,6)]) (ce:P.cellsOf e=7) (c0:P.cellsOf t0=6) (c1:P.cellsOf t1=1)
  (k0:y7h P 30 t0=some ks6) (u1:P.underlying t1=some (.slice b)) (kb:y7h P 30 b=some ks6) (fb:v7n P b=[(f0,o0),(f1,o1)]) {b0:Nat} (hv:Value.okWide P w .any b0 t v) (h:DataW.Trod enc P w base (fun _=>true) held t v d p):
  ∃X:List Pa,Yy (z1q fun k=>w.heap[k]?) (.dat X.length (Zz X)) v∧ ∀x∈X,∃es sp ps q,d=.slice es sp∧DataW.agg ps∈es∧q∈ps∧w8q x.s.length q:=by
 obtain ⟨fuel,h⟩:=h;have hvc:v.cells.toList=[v]:=by
  unfold Value.okWide at hv;rw [ht] at hv;unfold Cell.okWide at hv;rw [ht] at hv;cases v <;> first | rfl | (simp [Cell.ok,ht] at hv)
 rcases open_slice ht h with ⟨h0,_⟩ | ⟨a,len,cap,m,fl,D,Pl,hcs,hb,hl,dW,hm,hx,hi⟩
 ·rw [hvc] at h0;obtain rfl:v=.slice none 0 0:=by simpa using h0
  exact ⟨[],.datn _,fun x hx=>by cases hx⟩
 ·rw [hvc] at hcs;obtain rfl:v=.slice (some a) len cap:=by simpa using hcs
  have hspot:a.spot=none:=by unfold Value.okWide at hv;rw [ht] at hv;unfold Cell.okWide at hv;rw [ht] at hv;simp only [Cell.ok,ht] at hv;exact hv.2.2.2.1
  obtain ⟨blk,off,spot⟩:=a;simp only at hspot;subst hspot;simp only [if_true] at hm;subst hm;obtain ⟨fs,hu,hsz,⟨f0,hf0,rfl,o0⟩,f1,hf1,rfl,o1⟩:=w6j hs;have key: ∀i,i<len→ ∃q:Pa×(Nat→Value),(∀j,j<7→w.cell? ⟨blk,off+(i*7+j),none⟩=some (q.2 j))∧(∀j (hj:j<7),Yy (z1q fun k=>w.heap[k]?) ((Xa.cells q.1)[j]'hj) (q.2 j))∧ ∃ps z,D i=DataW.agg ps∧z∈ps∧w8q q.1.s.length z:=by
   intro i hil;obtain ⟨cs',hc',ht'⟩:=hi i (by omega);obtain ⟨xs,n,_,hx',hcl,hxl,hf⟩:=DataW.trod_struct hu ht';have dQ:cs'.length=7:=hcl.trans ce;have eW:=(World.cells?_some hc').2.2;have g0:=hf 0 f0 hf0;have g1:=hf 1 f1 hf1;rw [o0,c0,AS] at g0;rw [o1,c1] at g1;have hx0:0<xs.length:=by omega
   have hx1:1<xs.length:=by omega
   rw [Au hx0] at g0;rw [Au hx1] at g1;obtain ⟨ns,n1,n2,_⟩:=z3t 30 _ _ k0 _ _ _ g0;obtain ⟨u,n',c,e1,e2,e3⟩:=w9i u1 kb (by decide) fb g1
   match ns,n1 with
   | [m0,m1,m2,m3,m4,m5],_=>
    have ecs:cs'=[.int .i64 m0,.int .i64 m1,.int .i64 m2,.int .i64 m3,.int .i64 m4,.int .i64 m5,u]:=by
     rw [←List.take_append_drop 6 cs',n2];have:cs'.drop 6=[u]:=by rw [←e1,A2 (by rw [List.length_drop];omega)]
     rw [this];rfl
    refine ⟨(⟨m0,m1,m2,m3,m4,m5,lst R6 n' fun i=>x2u ks6 (c i)⟩,fun j=>cs'.getD j undef),fun j hj=> ?_,fun j hj=> ?_,xs.map (·.1),xs[1].1,(Prod.mk.inj hx').1,AO.2 ⟨xs[1],AZ hx1,rfl⟩,?_⟩
    ·have:=eW j (by omega);rw [ce] at this;simp only [Xh] at this;rw [show off+(i*7+j)=off+i*7+j by omega,this];show cs'[j]? =some (cs'.getD j undef);rw [List.getD_eq_getElem?_getD,Au (by omega)];rfl
    ·have last:=(Yh (α:=R6) (v:=.dat n' fun i=>x2u ks6 (c i)) rfl (Xy fun i _=>rfl)).sound e2;rw [ecs]
     match j,hj with
     | 0,_=>exact .int _ _
     | 1,_=>exact .int _ _
     | 2,_=>exact .int _ _
     | 3,_=>exact .int _ _
     | 4,_=>exact .int _ _
     | 5,_=>exact .int _ _
     | 6,_=>exact last
    ·have:(lst R6 n' fun i=>x2u ks6 (c i)).length =n':=(by simp [lst]);show w8q (lst R6 n' _).length _;rw [this];exact e3
  let Q:Nat→Pa×(Nat→Value):=fun i=>if hil:i<len then (key i hil).choose else (Xa.d,fun _=>undef)
  have hQ: ∀i,i<len→(∀j,j<7→w.cell? ⟨blk,off+(i*7+j),none⟩=some ((Q i).2 j))∧(∀j (hj:j<7),Yy (z1q fun k=>w.heap[k]?) ((Xa.cells (Q i).1)[j]'hj) ((Q i).2 j))∧ ∃ps z,D i=DataW.agg ps∧z∈ps∧w8q (Q i).1.s.length z:=by intro i hil;have:=(key i hil).choose_spec;simp only [Q,hil,dif_pos];exact this
  have hXl:((List.range len).map fun i=>(Q i).1).length =len:=by simp
  have hrow: ∀i,i<len→Zz ((List.range len).map fun i=>(Q i).1) i=Xa.cells (Q i).1:=fun i hi=>by show Xa.cells (rd _ i)=_;rw [Yr (by rw [hXl];exact hi)];simp only [List.getElem_map,List.getElem_range]
  refine ⟨(List.range len).map fun i=>(Q i).1,?_,fun x hx2=> ?_⟩
  ·rw [hXl];refine .dat len _ blk off 7 m (fun i j=>(Q i).2 j) hl (fun i hil=>by rw [hrow i hil];rfl) (fun i j hil hj=> ?_) (fun i j hil hj=> ?_)
   ·have hj7:j<7:=by rw [hrow i hil] at hj;exact hj
    have:=(hQ i hil).2.1 j hj7;simp only [hrow i hil];exact this
   ·have e2:=(hQ i hil).1 j hj;unfold World.cell? at e2;split at e2
    ·rename_i cl el fz hb2;simp only [Option.isSome_none,Bool.false_eq_true,if_false] at e2;exact ⟨cl,el,fz,hb2,e2⟩
    ·cases e2
  ·obtain ⟨i,hi2,rfl⟩:=AO.1 hx2;have hil:=A5.1 hi2;obtain ⟨ps,z,h1,h2,h3⟩:=(hQ i hil).2.2;exact ⟨_,_,ps,z,(Prod.mk.inj hx).1,AO.2 ⟨i,hi2,h1⟩,h2,h3⟩
end
end Go.Am
end
