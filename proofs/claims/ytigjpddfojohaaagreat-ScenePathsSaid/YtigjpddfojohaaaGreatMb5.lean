/- A part of a proof: several texts in one. -/
import Derived.Test.YtigjpddfojohaaaGreatMb4
import Derived.ChangeArms
set_option maxRecDepth 1000000
set_option maxHeartbeats 8000000
set_option linter.unusedVariables false
set_option linter.unusedSimpArgs false
noncomputable section
namespace Go.Am
open IntKind (wrap)
open Go.Proofs Go.Sort Go.Shelf Go.RowKit Go.Lib
def net (E:List R3) (y:Int):Int:=(E.map fun e=>if e.a≤y then e.c else 0).sum
theorem Kv (e:R3) (E:List R3) (y:Int):net (e::E) y=(if e.a≤y then e.c else 0)+net E y:=by simp [net]
theorem w9x {E F:List R3} (h:E.Perm F) (y:Int):net E y=net F y:=by
 induction h with
 | nil=>rfl
 | cons e _ ih=>rw [Kv,Kv,ih]
 | swap a b l=>simp only [Kv];omega
 | trans _ _ i1 i2=>rw [i1,i2]
theorem x6h (E:List R3) (y:Int) (h: ∀e∈E,y<e.a):net E y=0:=by
 induction E with
 | nil=>rfl
 | cons e E ih=>
  grind [Kv]
theorem w6l (out:List R2) (last:Int) (inn:Bool) (x:Int):Km out last inn x=bif inn&& !(last == x) then push out last x else out:=by
 grind [Km,push]
theorem w1k {out:List R2} {last x:Int} (inn:Bool) (hc:Can out) (hb: ∀s∈out,s.b≤last) (hx:last≤x):
  Can (Km out last inn x)∧(∀s∈Km out last inn x,s.b≤x)∧ ∀y,pt (Km out last inn x) y↔pt out y∨(inn=true∧last≤y∧y<x):=by
 rw [w6l];rcases boolc (inn&& !(last == x)) with q | q;all_goals grind [x6c]
def Asc (E:List R3):Prop:=E.Pairwise fun e f=>e.a≤f.a
theorem w2l : ∀(E:List R3) (o last:Int) (out:List R2),Asc E→(∀e∈E,last≤e.a)→Can out→(∀s∈out,s.b≤last)→
  Can (swF E o last (decide (o>0)) out)∧ ∀y,pt (swF E o last (decide (o>0)) out) y↔pt out y∨(last≤y∧0<o+net E y∧ ∃e∈E,y<e.a)
 | [],o,last,out,_,_,hc,_=>⟨hc,fun y=>⟨.inl,fun h=>h.elim id fun ⟨_,_,e,he,_⟩=>by cases he⟩⟩
 | e ::r,o,last,out,hE,hl,hc,hb=>by
  have he:=hl e (by simp);have hr:=Bj.1 hE;obtain ⟨p1,p2,p3⟩:=w1k (decide (o>0)) hc hb he;obtain ⟨q1,q2⟩:=w2l r (o+e.c) e.a (Km out last (decide (o>0)) e.a) hr.2 hr.1 p1 p2;rw [z8i];refine ⟨q1,fun y=> ?_⟩;rw [q2,p3,Kv];constructor
  ·rintro ((h | ⟨h1,h2,h3⟩) | ⟨h1,h2,f,hf,h3⟩)
   ·exact .inl h
   ·right;have h1:=As h1;refine ⟨h2,?_,e,by simp,h3⟩;rw [Ax (by omega),x6h r y fun f hf=>by have:=hr.1 f hf;omega];omega
   ·right;refine ⟨by omega,?_,f,by simp [hf],h3⟩;rw [AD h1];omega
  ·rintro (h | ⟨h1,h2,f,hf,h3⟩)
   ·exact .inl (.inl h)
   ·by_cases hy:e.a≤y
    ·right;rw [AD hy] at h2;refine ⟨hy,by omega,f,?_,h3⟩;rcases AM.1 hf with rfl | hf
     ·omega
     ·exact hf
    ·left;right;rw [Ax hy,x6h r y fun f hf=>by have:=hr.1 f hf;omega] at h2;exact ⟨Ae (by omega),h1,by omega⟩
theorem w9y (l:List R2) (hv: ∀s∈l,s.a<s.b) (y:Int):0≤net (Ui l) y∧(0<net (Ui l) y↔pt l y):=by
 induction l with
 | nil=>grind [net,Ui,pt]
 | cons s l ih=>
  obtain ⟨i1,i2⟩:=ih fun t ht=>hv t (by simp [ht]);have hs:=hv s (by simp);have e:net (Ui (s::l)) y=(if s.a≤y∧y<s.b then 1 else 0)+net (Ui l) y:=by
   grind [Ui,Kv]
  rw [e];by_cases h:s.a≤y∧y<s.b
  ·rw [AD h];exact ⟨by omega,⟨fun _=>⟨s,by simp,h⟩,fun _=>by omega⟩⟩
  ·rw [Ax h];refine ⟨by omega,?_⟩;rw [Int.zero_add,i2];constructor
   ·rintro ⟨t,ht,h2⟩;exact ⟨t,by simp [ht],h2⟩
   ·rintro ⟨t,ht,h2⟩;rcases AM.1 ht with rfl | ht
    ·grind
    ·exact ⟨t,ht,h2⟩
theorem y1a {l:List R2} {s:R2} (h:s∈l):(⟨s.b,0,-1⟩:R3)∈Ui l∧(⟨s.a,0,1⟩:R3)∈Ui l:=
 ⟨Bo.2 ⟨s,h,by simp⟩,Bo.2 ⟨s,h,by simp⟩⟩
theorem w7k (l:List R3) (h:y6s l=true):Asc (z3v l):=by
 refine BE.2 fun i j hi hj hij=> ?_
 grind [Kn,Xf]
theorem v6g (l:List R2) (hv:l.all y2u=true):Can (swV l)∧ ∀y,pt (swV l) y↔pt l y:=by
 have hb:y6s (Ui l)=true:=Aw.2 fun e he=>by obtain ⟨s,hs,h1⟩:=Bo.1 he;have hv:=Aw.1 hv s hs;simp only [y2u,Ac,Ak] at hv;simp only [AM,List.not_mem_nil,or_false] at h1;rcases h1 with rfl | rfl <;> exact Ae (by grind)
 have eV: ∀s∈l,s.a<s.b:=fun s hs=>by
  grind [y2u]
 obtain ⟨hp,_⟩:=Kn (Ui l) hb;have ha:=w7k (Ui l) hb;have hn: ∀y,net (z3v (Ui l)) y=net (Ui l) y:=fun y=>w9x hp y;unfold swV;generalize z3v (Ui l)=E at hp ha hn;cases E with
 | nil=>refine ⟨.nil,fun y=>⟨fun ⟨s,hs,_⟩=>(by cases hs),fun ⟨s,hs,_⟩=> ?_⟩⟩;have:=hp.mem_iff.2 (y1a hs).1;cases this
 | cons e r=>
  have hr:=Bj.1 ha;rw [z8i,Int.zero_add];have e0:Km [] 0 false e.a=[]:=rfl;rw [e0];obtain ⟨q1,q2⟩:=w2l r e.c e.a [] hr.2 hr.1 .nil (by simp);refine ⟨q1,fun y=> ?_⟩;rw [q2];obtain ⟨n1,n2⟩:=w9y l eV y;rw [←n2,←hn,Kv];constructor
  ·rintro (⟨s,hs,_⟩ | ⟨h1,h2,_⟩);all_goals grind
  ·intro h;have hpt:=n2.1 (by rw [←hn,Kv];exact h);obtain ⟨s,hs,s1,s2⟩:=hpt;have m1:=hp.mem_iff.2 (y1a hs).1
   grind [y1a]
theorem y7y (out:List Int) (hs:out.Pairwise (· < ·)) (x:Int): ∀k,k≤out.length→x2i out x k≤k∧(∀i,x2i out x k≤i→i<k→x<rd out i)∧(0<x2i out x k→rd out (x2i out x k - 1)≤x)
 | 0,_=>⟨Ao _,fun i h1 h2=>by omega,fun h=>by simp [x2i] at h⟩
 | k+1,hk=>by
  unfold x2i;rcases boolc (decide (rd out k>x)) with q | q
  ·rw [q,Ag];obtain ⟨h1,h2,h3⟩:=y7y out hs x k (by omega);refine ⟨by omega,fun i a b=> ?_,h3⟩;rcases BK (Nat.le_of_lt_succ b) with rfl | b
   ·exact As q
   ·exact h2 i a b
  ·rw [q,Ad];exact ⟨Ao _,fun i a b=>by omega,fun _=>by have:=of_decide_eq_false q;simp only [Nat.add_sub_cancel];omega⟩
theorem w5g (out:List Int) (hs:out.Pairwise (· < ·)) (x:Int):(y3m out x).Pairwise (· < ·)∧ ∀y,y∈y3m out x↔y∈out∨y=x:=by
 obtain ⟨h1,h2,h3⟩:=y7y out hs x out.length (Ao _);unfold y3m;split
 ·rename_i h0;rw [h0] at h2;refine ⟨Bj.2 ⟨fun y hy=> ?_,hs⟩,fun y=>by grind⟩;obtain ⟨i,hi,rfl⟩:=A1 hy
  grind [Xf]
 ·rename_i k hk;rw [hk] at h1 h2 h3;have h3:rd out k≤x:=h3 (Nat.succ_pos _);have hkl:k<out.length:=by omega
  rcases boolc (rd out k == x) with q | q
  ·grind [Xf]
  ·rw [q,Ad];have q:rd out k≠x:=by simpa using q
   refine ⟨?_,fun y=> ?_⟩
   ·have st:(out.take (k+1)).Pairwise (· < ·):=hs.sublist (List.take_sublist _ _);have sd:(out.drop (k+1)).Pairwise (· < ·):=hs.sublist (List.drop_sublist _ _);have ht: ∀y∈out.take (k+1),y<x:=fun y hy=>by
     obtain ⟨i,hi,rfl⟩:=A1 hy;have hi':i<k+1:=(by grind);rw [BD];have:rd out i≤rd out k:=by
      rcases BK (Nat.le_of_lt_succ hi') with rfl | h
      ·grind
      ·exact Int.le_of_lt (v8y hs h hkl)
     grind [Xf]
    have hd: ∀y∈out.drop (k+1),x<y:=fun y hy=>by obtain ⟨i,hi,rfl⟩:=A1 hy;simp_all [Xf]
    refine List.pairwise_append.2 ⟨st,Bj.2 ⟨hd,sd⟩,fun a ha b hb=> ?_⟩
    grind
   ·rw [AW,AM];constructor
    ·grind
    ·rintro (h | h)
     ·rw [←List.take_append_drop (k+1) out,AW] at h
      grind
     grind
theorem y7e (l:List Int):(z0n l).Pairwise (· < ·)∧ ∀y,y∈z0n l↔y∈l:=by
 have: ∀(l out:List Int),out.Pairwise (· < ·)→(l.foldl y3m out).Pairwise (· < ·)∧ ∀y,y∈l.foldl y3m out↔y∈out∨y∈l:=by
  intro l
  induction l with
  | nil=>grind
  | cons x l ih=>
   grind [w5g]
 simp_all [z0n]
theorem z7p : ∀(l m:List Int),l.Pairwise (· < ·)→m.Pairwise (· < ·)→(∀x,x∈l↔x∈m)→l=m
 | [],[],_,_,_=>rfl
 | [],b::m,_,_,h=>by have:=(h b).2 (by simp);cases this
 | a::l,[],_,_,h=>by have:=(h a).1 (by simp);cases this
 | a::l,b::m,hl,hm,h=>by
  obtain ⟨a1,a2⟩:=Bj.1 hl;obtain ⟨b1,b2⟩:=Bj.1 hm;have e:a=b:=by
   have x1:=(h a).1 (by simp);have x2:=(h b).2 (by simp);rcases AM.1 x1 with x1 | x1
   ·exact x1
   rcases AM.1 x2 with x2 | x2
   ·exact x2.symm
   have:=b1 a x1;have:=a1 b x2;omega
  subst e
  congr 1
  refine z7p l m a2 b2 fun x=>⟨fun hx=> ?_,fun hx=> ?_⟩
  ·rcases AM.1 ((h x).1 (by simp [hx])) with e | e
   ·have:=a1 x hx;omega
   ·exact e
  ·rcases AM.1 ((h x).2 (by simp [hx])) with e | e
   ·have:=b1 x hx;omega
   ·exact e
theorem z7q (zs:List Int) (hs:zs.Pairwise (· ≤ ·)): ∀m,m≤zs.length→(compactUpTo zs.toArray m).Pairwise (· < ·)∧ ∀x,x∈compactUpTo zs.toArray m↔x∈zs.take m
 | 0,_=>by simp [compactUpTo]
 | m +1,h=>by
  obtain ⟨h1,h2⟩:=z7q zs hs m (by omega);have hg: ∀j (hj:j<zs.length),zs.toArray[j]! =zs[j]:=fun j hj=>by simp [hj]
  have hle: ∀i j (hi:i<zs.length) (hj:j<zs.length),i<j→zs[i]≤zs[j]:=fun i j hi hj hij=>BE.1 hs i j hi hj hij;have hm:m<zs.length:=by omega
  rw [compactUpTo_succ,hg m hm,List.take_succ_eq_append_getElem hm];by_cases hk:keeps zs.toArray m=true
  ·rw [AD hk];refine ⟨List.pairwise_append.2 ⟨h1,List.pairwise_singleton _ _,fun x hx y hy=> ?_⟩,fun x=>by rw [AW,AW,h2 x]⟩;rw [BI.1 hy];obtain ⟨i,hi,rfl⟩:=A1 ((h2 x).1 hx);have hi':i<m:=by simp at hi;omega
   rw [BD];simp only [keeps,Ak] at hk;rcases hk with hk | hk
   ·omega
   ·rw [hg m hm,hg (m - 1) (by omega)] at hk;have k1:zs[i]≤zs[m - 1]:=by
     rcases AV i (m - 1) with q | q
     ·exact hle i (m - 1) _ _ q
     ·have e:i=m - 1:=(by omega);subst e;exact BA _
    have k2:=hle (m - 1) m (by omega) hm (by omega);omega
  ·rw [Ax hk,AJ];refine ⟨h1,fun x=> ?_⟩;rw [h2 x,AW,BI];refine ⟨.inl,fun hx=>hx.elim id fun e=> ?_⟩;simp only [keeps,Ak,not_or,Decidable.not_not] at hk;rw [hg m hm,hg (m - 1) (by omega)] at hk;rw [e,hk.2];have:m - 1<(zs.take m).length :=by simp;omega
   have e2:(zs.take m)[m - 1]=zs[m - 1]:=BD;rw [←e2];exact AU this
theorem srt_le (zs:List Int):(Vv zs).Pairwise (· ≤ ·):=by have:=List.pairwise_mergeSort (le:=fun x y:Int=>decide (x≤y)) (fun a b c h1 h2=>by grind) (fun a b=>by simp;omega) zs;exact this.imp fun h=>by simpa using h
theorem v6h (zs:List Int) (x:Int):x∈Vv zs↔x∈zs:=List.mem_mergeSort
theorem w6h (zs:List Int):y1e zs=z0n zs:=by obtain ⟨h1,h2⟩:=z7q (Vv zs) (srt_le zs) (Vv zs).length (Ao _);obtain ⟨s1,s2⟩:=y7e zs;refine z7p _ _ h1 s1 fun x=> ?_;rw [show y1e zs=compactUpTo (Vv zs).toArray (Vv zs).length from rfl,h2 x,List.take_length,v6h,s2]
namespace Dim
variable {α β:Type} (D:Dim α β)
def ref (sec:Int→List β) (cs:List Int):Nat→Nat→List α→List β→Nat→List α
 | 0,_,out,_,_=>out
 | k+1,i,out,last,first=>
  bif decide (0<i)&&D.same (sec (rd cs i)) last then ref sec cs k (i+1) (D.grow out first (rd cs (i+1))) last first
  else ref sec cs k (i+1) (out++(sec (rd cs i)).map (D.put (rd cs i) (rd cs (i+1)))) (sec (rd cs i)) out.length
theorem ref_eq (hs: ∀a b,D.same a b=true↔a=b) (l:List α): ∀(k i:Nat) (s:Sw α β) (out:List α) (last:List β) (first:Nat),
  s.out=out→s.last=last→(last≠ []→s.first=first)→(last=[]→out.length≤first)→(0<i→s.fin=rd (D.cuts l) i)→(i=0→last=[])→
  (D.go l k i s).out =D.ref (D.sec l) (D.cuts l) k i out last first
 | 0,i,s,out,last,first,h1,h2,h3,h4,h5,h6=>h1
 | k +1,i,s,out,last,first,h1,h2,h3,h4,h5,h6=>by
  subst h1 h2;have e1:D.go l (k+1) i s=D.go l k (i+1) (D.one l (rd (D.cuts l) i) (rd (D.cuts l) (i+1)) s):=rfl;rw [e1];unfold ref;rcases boolc (decide (0<(D.sec l (rd (D.cuts l) i)).length)&&((s.fin == rd (D.cuts l) i)&&D.same s.last (D.sec l (rd (D.cuts l) i)))) with q | q
  ·have e:D.one l (rd (D.cuts l) i) (rd (D.cuts l) (i+1)) s=⟨D.grow s.out s.first (rd (D.cuts l) (i+1)),s.last,s.first,rd (D.cuts l) (i+1)⟩:=by unfold one;rw [q];rfl
   simp only [Ac,Ak] at q;obtain ⟨q1,q2,q3⟩:=q;have q3:=(hs _ _).1 q3;have hne:s.last≠ []:=fun h=>by rw [h] at q3;rw [←q3] at q1;exact Nat.lt_irrefl _ q1
   have hi:0<i:=Nat.pos_of_ne_zero fun h=>hne (h6 h);have e2:(decide (0<i)&&D.same (D.sec l (rd (D.cuts l) i)) s.last)=true:=by rw [Ae hi,Aq,hs,q3]
   rw [e2,Ag,e];refine ref_eq hs l k (i+1) _ _ _ _ ?_ rfl h3 (fun h=>absurd h hne) (fun _=>rfl) (fun h=>by omega);rw [h3 hne]
  ·have e:D.one l (rd (D.cuts l) i) (rd (D.cuts l) (i+1)) s=⟨s.out++(D.sec l (rd (D.cuts l) i)).map (D.put (rd (D.cuts l) i) (rd (D.cuts l) (i+1))),D.sec l (rd (D.cuts l) i),s.out.length,rd (D.cuts l) (i+1)⟩:=by unfold one;rw [q];rfl
   rcases boolc (decide (0<i)&&D.same (D.sec l (rd (D.cuts l) i)) s.last) with q2 | q2
   ·rw [q2,Ag,e];simp only [Ac,Ak] at q2;obtain ⟨hi,q3⟩:=q2;have q3:=(hs _ _).1 q3;rw [(hs s.last (D.sec l (rd (D.cuts l) i))).2 q3.symm,Ap,h5 hi] at q;have hz:D.sec l (rd (D.cuts l) i)=[]:=by
     cases h:D.sec l (rd (D.cuts l) i) with
     | nil=>rfl
     | cons a b=>rw [h] at q;simp at q
    have hl:s.last=[]:=(by rw [←q3,hz]);have hf:=h4 hl;rw [hz,List.map_nil,AJ];refine ref_eq hs l k (i+1) _ _ _ _ ?_ hl.symm (fun h=>absurd hl h) (fun _=> ?_) (fun _=>rfl) (fun h=>by omega)
    ·exact (D.grow_nil _ _ _ hf).symm
    ·rw [D.grow_length];exact hf
   ·rw [q2,Ad,e];exact ref_eq hs l k (i+1) _ _ _ _ rfl rfl (fun _=>rfl) (fun h=>by rw [h];simp) (fun _=>rfl) (fun h=>by omega)
theorem out_eq (hs: ∀a b,D.same a b=true↔a=b) (l:List α):D.out l=D.ref (D.sec l) (D.cuts l) ((D.cuts l).length - 1) 0 [] [] 0:=
 D.ref_eq hs l _ 0 _ [] [] 0 rfl rfl (fun _=>rfl) (fun _=>Ao _) (fun h=>absurd h (Nat.lt_irrefl _)) (fun _=>rfl)
end Dim
theorem u2z (l:List R4):D4.cuts l=xsV l []:=by unfold Dim.cuts xsV;rw [w6h,show z0p ([]:List R4)=[] from rfl,AJ];rfl
theorem u2m (l:List R4) (x y:Int):v1y 2 l [] x y=Vs l x y:=by
 grind [v1y,Kq,Vs]
theorem x3n {l:List R4} {x:Int} {s:R2} (h:s∈D4.inn l x): ∃r∈l,r.a≤x∧x<r.c∧s=⟨r.b,r.d⟩:=by obtain ⟨r,hr,e⟩:=List.mem_map.1 h;obtain ⟨h1,h2⟩:=Bn.1 hr;simp only [Ac,Ak] at h2;exact ⟨r,h1,h2.1,h2.2,e.symm⟩
theorem v8t {l:List R4} {x:Int} {r:R4} (h:r∈l) (h1:r.a≤x) (h2:x<r.c):(⟨r.b,r.d⟩:R2)∈D4.inn l x:=by refine List.mem_map.2 ⟨r,Bn.2 ⟨h,?_⟩,rfl⟩;simp only [Ac,Ak];exact ⟨h1,h2⟩
theorem sec_eq (l:List R4) (hv:l.all y2c=true) (hl:l.length≤400) (x:Int):D4.sec l x=x5q 2 l [] x:=by
 have hin:=D4.inn_length l x;have hvi:(D4.inn l x).all y2u=true:=Aw.2 fun s hs=>by
  grind [x3n,y2c,y2u]
 have e1:D4.sec l x=swV (D4.inn l x):=by
  show Xg (D4.inn l x)=_
  grind [Xg]
 obtain ⟨c1,c2⟩:=v6g _ hvi;obtain ⟨y1,y2⟩:=y7e (Qm l++Qm []);have e2:x5q 2 l [] x=z7y (ysV l []) ((ysV l []).map fun y=>Vs l x y):=by
  unfold x5q
  congr 1
  simp_all [u2m]
 obtain ⟨d1,d2⟩:=v2c (ysV l []) y1 (fun y=>Vs l x y) (D4.inn l x) (fun s hs=>by
  obtain ⟨r,hr,_,_,rfl⟩:=x3n hs;unfold ysV;exact ⟨(y2 _).2 (AW.2 (.inl (Bo.2 ⟨r,hr,by simp⟩))),(y2 _).2 (AW.2 (.inl (Bo.2 ⟨r,hr,by simp⟩)))⟩) (fun y=>by
  unfold Vs;rw [BN];constructor
  ·rintro ⟨r,hr,h⟩;simp only [in4,Ac,Ak] at h;exact ⟨_,v8t hr h.1 h.2.1,h.2.2.1,h.2.2.2⟩
  ·rintro ⟨s,hs,h1,h2⟩
   grind [x3n,in4])
 grind [v5t]
theorem w5c (l:List R4): ∀(k i:Nat) (out:List R4) (last:List R2) (first:Nat),jF 2 l [] k i out last first=D4.ref (x5q 2 l []) (xsV l []) k i out last first
 | 0,_,_,_,_=>rfl
 | k+1,i,out,last,first=>by unfold jF Dim.ref;rw [w5c l k,w5c l k];rfl
theorem joV_eq (l:List R4) (hv:l.all y2c=true) (hl:l.length≤400):D4.out l=joV 2 l []:=by
 rw [D4.out_eq (fun a b=>decide_eq_true_iff) l,joV,w5c,←u2z]
 congr 1
 funext x
 exact sec_eq l hv hl x
theorem w6z (l:List R6):D6.cuts l=Yj l []:=by unfold Dim.cuts Yj;rw [w6h,show z0o ([]:List R6)=[] from rfl,AJ];rfl
theorem v6a (l:List R6) (z:Int):D6.inn l z=atV l z:=rfl
theorem v2p (r:R6):y6w r=w1y r:=by
 unfold y6w w1y;simp only [y0q,y0r];rw [AR];simp only [Ac,Ak];have m1: ∀x y z:Int,x≤min y z↔x≤y∧x≤z:=fun x y z=>by omega
 have m2: ∀x y z:Int,max y z≤x↔y≤x∧z≤x:=fun x y z=>by omega
 simp only [ge_iff_le,m1,m2]
 grind
theorem w6o (l:List R6) (hv:l.all y6w=true) (z:Int):(atV l z).all y2c=true:=Aw.2 fun s hs=>by
 obtain ⟨r,hr,rfl⟩:=List.mem_map.1 hs;have:=Aw.1 hv r (Bn.1 hr).1;rw [v2p] at this;simp only [w1y,Ac,Ak] at this;show y2c ⟨r.a,r.b,r.d,r.e⟩=true
 grind [y2c]
section
variable (l:List R6) (hv:l.all y6w=true) (hl:l.length≤400)
include hv hl
theorem v5w (z:Int):D4.out (atV l z)=joV 2 (atV l z) []:=joV_eq _ (w6o l hv z) (AG (z2a l z) hl)
theorem v5v (z:Int):badS l z=z7w 2 l [] z:=by
 have h1:=v5w l hv hl z;have h2:=z2a l z;have e:joV 2 (atV [] z) []=[]:=rfl
 grind [badS,z7w,y7g,atV,v6a,z4l,w6o]
theorem v6k (z:Int) (h:badS l z=false):D6.sec l z=y7g 2 l [] z:=by
 have h1:=v5w l hv hl z;have h2:=z2a l z;rw [v5v l hv hl] at h;show Xu (D6.inn l z)=joV 2 (atV l z) (atV [] z)
 grind [v6a,Xu,atV,z7w,w6o]
theorem x3i : ∀(k i:Nat) (out:List R6) (last:List R4) (first:Nat),jsF 2 l [] k i out last first=bif okF l k i then some (D6.ref (D6.sec l) (D6.cuts l) k i out last first) else none
 | 0,_,_,_,_=>rfl
 | k+1,i,out,last,first=>by
  unfold jsF okF Dim.ref;rw [←w6z,←v5v l hv hl];rcases boolc (badS l (rd (D6.cuts l) i)) with q | q
  ·rw [q];rfl
  ·have:=v6k l hv hl _ q;rw [q,Ad,Ad,this,x3i k,x3i k];have e:D6.same (y7g 2 l [] (rd (D6.cuts l) i)) last=Js (y7g 2 l [] (rd (D6.cuts l) i)) last:=rfl;rw [e];cases (decide (0<i)&&Js (y7g 2 l [] (rd (D6.cuts l) i)) last) <;> rfl
theorem jsO_eq :jsO 2 l []=bif okF l ((D6.cuts l).length - 1) 0 then some (D6.out l) else none:=by unfold jsO;rw [x3i l hv hl,←w6z,D6.out_eq (fun a b=>decide_eq_true_iff) l]
end
theorem v2b (l:List R6):Wa l=z7j l:=by
 unfold Wa z7j;by_cases h:400<l.length
 ·grind
 ·rw [An h,Ad,Ad,show l.all w1y=l.all y6w from by grind [v2p]];rcases boolc (l.all y6w) with hv | hv
  ·rw [hv,Ag,Ag];unfold rckF y8n z3g;rw [jsO_eq l hv (by omega)]
   grind
  grind
open Go.Proofs Go.Lib Go.Sort
def v4p (x:List UInt8):Prop:= ∀c∈x,c≠47
theorem y1f : ∀(x cur rest:List UInt8),v4p x→z2i 47 cur (x++rest)=z2i 47 (cur++x) rest
 | [],cur,rest,h=>by rw [A6,AJ]
 | c::x,cur,rest,h=>by
  have hc:(c == (47:UInt8))=false:=by have:=h c Bf;simp [this]
  rw [BF,z2i,hc,Ad,y1f x (cur++[c]) rest fun d hd=>h d (Bw _ hd),AF];rfl
theorem y8z : ∀(r:List (List UInt8)) (cur:List UInt8),(∀p∈r,v4p p)→z2i 47 cur (Lib.joinTail [47] r)=cur::r
 | [],cur,h=>rfl
 | y::r,cur,h=>by
  have e:Lib.joinTail [47] (y::r)=47::(y++Lib.joinTail [47] r):=by simp [Lib.joinTail]
  rw [e,z2i,show ((47:UInt8) == 47)=true from rfl,Ag,y1f y [] _ (h y Bf),A6,y8z r y fun p hp=>h p (Bw _ hp)]
theorem y9a {L:List (List UInt8)} (h0:L≠ []) (h: ∀p∈L,v4p p):z2i 47 [] (Lib.join L [47])=L:=by
 cases L with
 | nil=>exact absurd rfl h0
 | cons x r=>rw [Lib.join_cons,y1f x [] _ (h x Bf),A6,y8z r x fun p hp=>h p (Bw _ hp)]
theorem y8d : ∀(i:Nat) (x:List UInt8),w7d i x=true→v4p x
 | _,[],_=>fun c hc=>by cases hc
 | i,d::x,h=>fun c hc=>by
  rw [w7d,Ac] at h;cases hc with
  | head=>intro e;subst e;have h1:=h.1;unfold y8c letN digN at h1;revert h1;cases decide (i≠0) <;> decide
  | tail _ hc=>exact y8d (i+1) x h.2 c hc
theorem w4s {x:List UInt8} (h:z3t x=true):v4p x:=by unfold z3t at h;rw [Ac,Ac] at h;exact y8d 0 x h.2.2
theorem v0r {L M:List (List UInt8)} (hL:L≠ []) (hM:M≠ []) (h1: ∀p∈L,v4p p) (h2: ∀p∈M,v4p p) (h:Lib.join L [47]=Lib.join M [47]):L=M:=by rw [←y9a hL h1,←y9a hM h2,h]
theorem ltge (a b:Int):a<b∨b≤a:=by omega
def okN (l:List Nod) (i:Nat):Prop:=okC l i=true∧ ∀j,j≤i→z3t (rd l j).n =true
def noTw (l:List Nod) (i:Nat):Prop:= ∀j k,j<k→k<i→ ¬((rd l j).a =(rd l k).a ∧(rd l j).n =(rd l k).n)
def upP (l:List Nod) (i:Int):List (List UInt8):=upN l (i.toNat+1) i
theorem y4h (l:List Nod) {i:Int} (h:i<0):upP l i=[]:=z2o l _ (by omega)
theorem z0v {l:List Nod} {t j:Nat} (ht:okC l t=true) (hj:j≤t):upP l (j:Int)=(rd l j).n ::upP l (rd l j).a :=by
 have hb:=Uz ht hj;unfold upP;rw [toNat_c,upN,Ae (show (0:Int)≤(j:Int) by omega),Ag,toNat_c]
 congr 1
 exact x5l ht _ _ _ (by omega) (by omega) (by omega)
theorem y4i {l:List Nod} {t:Nat} (h:okN l t): ∀(k:Nat) (i:Int),i≤(t:Int)→ ∀p∈upN l k i,v4p p
 | 0,i,hi,p,hp=>by cases hp
 | k+1,i,hi,p,hp=>by
  unfold upN at hp;by_cases g:0≤i
  ·obtain ⟨j,rfl⟩: ∃j:Nat,i=(j:Int):=⟨i.toNat,by omega⟩
   rw [Ae g,Ag,toNat_c] at hp;cases hp with
   | head=>exact w4s (h.2 j (by omega))
   | tail _ hp=>have hb:=Uz h.1 (show j≤t by omega);exact y4i h k _ (by omega) p hp
  ·rw [An g] at hp;cases hp
theorem w2i {l:List Nod} {t:Nat} (h:okN l t) (hn:noTw l t): ∀(m j k:Nat),j<m→j<t→k<t→upP l (j:Int)=upP l (k:Int)→j=k
 | 0,j,k,hm,_,_,_=>absurd hm (AA _)
 | m +1,j,k,hm,hj,hk,e=>by
  rw [z0v h.1 (show j≤t by omega),z0v h.1 (show k≤t by omega),Bc] at e;have bj:=Uz h.1 (show j≤t by omega);have bk:=Uz h.1 (show k≤t by omega);have ea:(rd l j).a =(rd l k).a :=by
   rcases ltge (rd l j).a 0 with a1 | a1
   ·rcases ltge (rd l k).a 0 with a2 | a2
    ·omega
    ·exfalso;obtain ⟨q,hq⟩: ∃q:Nat,(rd l k).a =(q:Int):=⟨(rd l k).a.toNat,by omega⟩
     rw [y4h l a1,hq,z0v h.1 (show q≤t by omega)] at e;cases e.2
   ·obtain ⟨p,hp⟩: ∃p:Nat,(rd l j).a =(p:Int):=⟨(rd l j).a.toNat,by omega⟩
    rcases ltge (rd l k).a 0 with a2 | a2
    ·exfalso;rw [y4h l a2,hp,z0v h.1 (show p≤t by omega)] at e;cases e.2
    ·obtain ⟨q,hq⟩: ∃q:Nat,(rd l k).a =(q:Int):=⟨(rd l k).a.toNat,by omega⟩
     rw [hp,hq] at e;have:=w2i h hn m p q (by omega) (by omega) (by omega) e.2;omega
  rcases Bd j k with g | g | g
  ·exact absurd ⟨ea,e.1⟩ (hn j k g hk)
  ·exact g
  ·exact absurd ⟨ea.symm,e.1.symm⟩ (hn k j g hj)
theorem w9o {l:List Nod} {i k:Nat} (h:okN l i) (hn:noTw l i) (hk:k<i):Qi l (k:Int)=Qi l (i:Int)↔(rd l k).a =(rd l i).a ∧(rd l k).n =(rd l i).n :=by
 have bi:=Uz h.1 (Ao i);have bk:=Uz h.1 (show k≤i by omega);have ek:=z0v h.1 (show k≤i by omega);have ei:=z0v h.1 (Ao i);constructor
 ·intro e;have e:upP l (k:Int)=upP l (i:Int):=by have:=v0r (L:=(upP l (k:Int)).reverse) (M:=(upP l (i:Int)).reverse) (by rw [ek];simp) (by rw [ei];simp) (fun p hp=>y4i h _ _ (by omega) p (List.mem_reverse.1 hp)) (fun p hp=>y4i h _ _ (BA _) p (List.mem_reverse.1 hp)) e;exact List.reverse_inj.1 this
  rw [ek,ei,Bc] at e;refine ⟨?_,e.1⟩;rcases ltge (rd l k).a 0 with a1 | a1
  ·rcases ltge (rd l i).a 0 with a2 | a2
   ·omega
   ·exfalso;obtain ⟨q,hq⟩: ∃q:Nat,(rd l i).a =(q:Int):=⟨(rd l i).a.toNat,by omega⟩
    rw [y4h l a1,hq,z0v h.1 (show q≤i by omega)] at e;cases e.2
  ·obtain ⟨p,hp⟩: ∃p:Nat,(rd l k).a =(p:Int):=⟨(rd l k).a.toNat,by omega⟩
   rcases ltge (rd l i).a 0 with a2 | a2
   ·exfalso;rw [y4h l a2,hp,z0v h.1 (show p≤i by omega)] at e;cases e.2
   ·obtain ⟨q,hq⟩: ∃q:Nat,(rd l i).a =(q:Int):=⟨(rd l i).a.toNat,by omega⟩
    rw [hp,hq] at e;have:=w2i h hn (p+1) p q (by omega) (by omega) (by omega) e.2;omega
 ·intro ⟨e1,e2⟩;show Lib.join (upP l (k:Int)).reverse [47]=Lib.join (upP l (i:Int)).reverse [47];rw [ek,ei,e1,e2]
def y4m (l:List Nod):Int:=match l.find? fun x=>Wa x.s != 0 with
 | some x=>Wa x.s
 | none=>0
def w1m (l:List Nod) (i:Nat):Bool:= !(z3t (rd l i).n)||(decide ((rd l i).a < -1)||(decide ((rd l i).a ≥(i:Int))||(fkV (rd l i).t (rd l i).x (rd l i).y (rd l i).z != 0)))
def twin (l:List Nod) (i:Nat):Bool:=(List.range i).any fun k=>((rd l k).a == (rd l i).a)&&((rd l k).n == (rd l i).n)
def y6t (l:List Nod) (i:Nat):Bool:=w1m l i||(y1z (Qi l (i:Int)) != 0||twin l i)
def Jh (l:List Nod):Int:=bif decide (200<l.length) then 4 else bif y4m l != 0 then y4m l else bif (List.range l.length).any (y6t l) then 8 else 0
def Yz (l:List Nod):Bool:=decide (l.length≤1000000)&&l.all fun x=>decide (x.n.length≤500)
def y2i (l:List Nod) (i:Nat):Prop:= ∀j,j<i→y6t l j=false
theorem y6c {l:List Nod} {i:Nat} (h:w1m l i=false):z3t (rd l i).n =true∧ -1≤(rd l i).a ∧(rd l i).a <(i:Int)∧fkV (rd l i).t (rd l i).x (rd l i).y (rd l i).z =0:=by unfold w1m at h;simp only [AT,Bool.not_eq_false',AY,bne_eq_false_iff_eq] at h;exact ⟨h.1,by omega,by omega,h.2.2.2⟩
theorem z5p {l:List Nod} {i:Nat} (h:y2i l i) (hi:w1m l i=false):okN l i:=by
 have hb: ∀j,j≤i→w1m l j=false:=fun j hj=>by
  rcases AV j i with g | g
  ·have:=h j g;unfold y6t at this;rw [AT] at this;exact this.1
  ·rw [show j=i by omega];exact hi
 refine ⟨Aw.2 fun j hj=> ?_,fun j hj=>(y6c (hb j hj)).1⟩;have:=y6c (hb j (by have:=AN.1 hj;omega));rw [Ac,Ak,Ak];exact ⟨this.2.1,this.2.2.1⟩
theorem w0v {l:List Nod} {i:Nat} (h:y2i l i):noTw l i:=fun j k hjk hk ⟨e1,e2⟩=>by have:=h k hk;unfold y6t twin at this;rw [AT,AT] at this;have:=List.any_eq_false.1 this.2.2 j (AN.2 hjk);rw [e1,e2] at this;simp at this
def w2v (l:List Nod) (i:Nat) (m:List (List UInt8×Bool)):Prop:= ∀p,getK false m p=(List.range i).any fun k=>Qi l (k:Int) == p
theorem w5k (m:List (List UInt8×Bool)) (p q:List UInt8):getK false (x5p m p true) q=(p == q||getK false m q):=by
 induction m with
 | nil=>
  show (bif q == p then true else false)=_;have e:(p == q)=(q == p):=by rw [AR,A7,A7];exact eq_comm
  rw [e,show getK false [] q=false from rfl];cases q == p <;> rfl
 | cons x m ih=>
  unfold x5p;cases g:p == x.1 with
  | true=>
   rw [Ag];show (bif q == x.1 then true else getK false m q)=(p == q||bif q == x.1 then x.2 else getK false m q);have e1:=A7.1 g;rw [←e1];have e:(p == q)=(q == p):=by rw [AR,A7,A7];exact eq_comm
   rw [e];cases q == p <;> rfl
  | false=>
   rw [Ad];show (bif q == x.1 then x.2 else getK false (x5p m p true) q)=(p == q||bif q == x.1 then x.2 else getK false m q);rw [ih];cases g2:q == x.1 with
   | true=>
    have:(p == q)=false:=by rw [A7.1 g2];exact g
    rw [this];rfl
   | false=>rfl
theorem x8b {l:List Nod} {i:Nat} {m:List (List UInt8×Bool)} (h:w2v l i m):w2v l (i+1) (x5p m (Qi l (i:Int)) true):=fun p=>by rw [w5k,h p,List.range_succ,List.any_append,Bool.or_comm];simp
theorem x8a {l:List Nod} {i:Nat} {m:List (List UInt8×Bool)} (hs:w2v l i m) (h:y2i l i) (hi:w1m l i=false):getK false m (Qi l (i:Int))=twin l i:=by
 rw [hs];unfold twin;have e: ∀k∈List.range i,(Qi l (k:Int) == Qi l (i:Int))=(((rd l k).a == (rd l i).a)&&((rd l k).n == (rd l i).n)):=fun k hk=>by rw [AR,Ac,A7,A7,A7];exact w9o (z5p h hi) (w0v h) (AN.1 hk)
 rw [AR,BN,BN];constructor
 ·intro ⟨k,h1,h2⟩;exact ⟨k,h1,by rw [←e k h1];exact h2⟩
 ·intro ⟨k,h1,h2⟩;exact ⟨k,h1,by rw [e k h1];exact h2⟩
theorem y5e {l:List Nod} {i:Nat} (ho:Yz l=true) (hl:l.length≤1000) (hi:i<l.length) (h:okN l i):Xd l (i:Int)=true:=by unfold Yz at ho;unfold Xd;rw [Ac] at ho;rw [toNat_c,Ae (show (0:Int)≤(i:Int)∧(i:Int)<(l.length:Int) by omega),Ae hl,h.1,ho.2];rfl
open Go.Proofs.Tryz
def solF (T:Int) (l:List Nod):Int:=match l.find? fun x=>Wa x.s != 0 with
 | some x=>Wa x.s
 | none=>T
theorem z9t (T:Int) (x:Nod) (l:List Nod):solF T (x::l)=bif Wa x.s != 0 then Wa x.s else solF T l:=by unfold solF;rw [List.find?_cons];cases Wa x.s != 0 <;> rfl
theorem x0i (T:Int): ∀l:List Nod,solF T l=bif y4m l != 0 then y4m l else T
 | []=>rfl
 | x::l=>by
  have e:y4m (x::l)=bif Wa x.s != 0 then Wa x.s else y4m l:=by unfold y4m;rw [List.find?_cons];cases Wa x.s != 0 <;> rfl
  rw [z9t,e,x0i T l];cases g:Wa x.s != 0 with
  | true=>rw [Ag,Ag,g,Ag]
  | false=>rfl
def badF (l:List Nod):Nat→Nat→Bool
 | 0,_=>false
 | k+1,i=>y6t l i||badF l k (i+1)
theorem y3y (l:List Nod): ∀(k i:Nat),badF l k i=(List.range k).any fun j=>y6t l (i+j)
 | 0,i=>rfl
 | k+1,i=>by
  rw [badF,y3y l k (i+1),List.range_succ_eq_map,List.any_cons,List.any_map]
  congr 1
  congr 1
  funext j
  show y6t l (i+1+j)=y6t l (i+(j+1))
  congr 1;omega
theorem x7j (l:List Nod):badF l l.length 0=(List.range l.length).any (y6t l):=by
 rw [y3y]
 congr 1
 funext j
 rw [Al]
theorem v3c {l:List Nod} {T:Int} (hl:l.length≤1000) (hT: ∃N,Zo (Uw l) N (.to (.h1 0 []))=.ret [.int .i64 T]): ∀(k i:Nat),i+k=l.length→ ∃N,Zo (Uw l) N (.to (.h0 (i:Int)))=.ret [.int .i64 (solF T (l.drop i))]
 | 0,i,h=>by
  obtain ⟨N,hN⟩:=hT;refine ⟨N+1,?_⟩;rw [Zv,At (by omega)];have e:Uw l (.h0 (i:Int))=.to (.h1 0 []):=by unfold Uw;simp only [];rw [dlt_f (by omega)];rfl
  rw [e,hN];rfl
 | k+1,i,h=>by
  have hi:i<l.length:=by omega
  have w2:wrap .i64 ((i:Int)+1)=((i+1:Nat):Int):=wrap_t (by omega);have e:Uw l (.h0 (i:Int))=bif Wa (rd l i).s != 0 then .ret [.int .i64 (Wa (rd l i).s)] else .to (.h0 ((i+1:Nat):Int)):=by unfold Uw;simp only [toNat_c,w2,Zn];rw [dlt_t (by omega),Ag,Ap,Zr (din_t (by omega))];rfl
  rw [drop_rd hi,z9t];cases g:Wa (rd l i).s != 0 with
  | true=>exact ⟨1,by rw [Zv,e,g];rfl⟩
  | false=>obtain ⟨N,hN⟩:=v3c hl hT k (i+1) (by omega);exact ⟨N+1,by rw [Zv,e,g,Ad,Ad,hN]⟩
theorem w7s {l:List Nod} {i:Nat} {m:List (List UInt8×Bool)} (ho:Yz l=true) (hl:l.length≤1000) (hi:i<l.length) (hf:y2i l i) (hs:w2v l i m):
  Uw l (.h1 (i:Int) m)=bif y6t l i then .ret [.int .i64 8] else .to (.h1 ((i+1:Nat):Int) (x5p m (Qi l (i:Int)) true)):=by
 have w2:wrap .i64 ((i:Int)+1)=((i+1:Nat):Int):=wrap_t (by omega);have hn:Wu (rd l i).n =true:=by unfold Yz at ho;rw [Ac] at ho;have:=z9w ho.2 i;exact Ae (by omega)
 unfold Uw;simp only [toNat_c,w2,Zn];rw [dlt_t (by omega),Ag,Ap,Zr (din_t (by omega)),Zr hn];unfold y6t;cases hb:w1m l i with
 | true=>
  rw [Bool.true_or,Ag];unfold w1m at hb;revert hb;cases z3t (rd l i).n with
  | false=>intro _;rfl
  | true=>
   cases decide ((rd l i).a < -1) with
   | true=>intro _;rfl
   | false=>
    cases decide ((rd l i).a ≥(i:Int)) with
    | true=>intro _;rfl
    | false=>
     cases fkV (rd l i).t (rd l i).x (rd l i).y (rd l i).z != 0 with
     | true=>intro _;rfl
     | false=>intro h;cases h
 | false=>obtain ⟨b1,b2,b3,b4⟩:=y6c hb;have hk:=z5p hf hb;have hp:=y5e ho hl hi hk;rw [b1,Au,Ad,dlt_f (by omega),Ad,dge_f (by omega),Ad,b4,show ((0:Int) != 0)=false from rfl,Ad,Zr hp,x8a hs hf hb,Zr (show Wo (Qi l (i:Int))=true from Ae (y5f hp)),Ba];cases twin l i <;> cases y1z (Qi l (i:Int)) != 0 <;> rfl
theorem y3p {l:List Nod} {i:Nat} (h:y2i l i) (hi:y6t l i=false):y2i l (i+1):=fun j hj=>by
 rcases AV j i with g | g
 ·exact h j g
 ·rw [show j=i by omega];exact hi
theorem v3b {l:List Nod} (ho:Yz l=true) (hl:l.length≤1000): ∀(k i:Nat) (m:List (List UInt8×Bool)),i+k=l.length→y2i l i→w2v l i m→ ∃N,Zo (Uw l) N (.to (.h1 (i:Int) m))=.ret [.int .i64 (bif badF l k i then 8 else 0)]
 | 0,i,m,h,hf,hs=>⟨1,by
  rw [Zv];unfold Uw;simp only [];rw [dlt_f (by omega)];rfl⟩
 | k+1,i,m,h,hf,hs=>by
  have e:=w7s ho hl (show i<l.length by omega) hf hs;rw [badF];cases g:y6t l i with
  | true=>exact ⟨1,by rw [Zv,e,g];rfl⟩
  | false=>obtain ⟨N,hN⟩:=v3b ho hl k (i+1) _ (by omega) (y3p hf g) (x8b hs);exact ⟨N+1,by rw [Zv,e,g,Ad,hN,Ba]⟩
theorem v6q (l:List Nod) (h:Yz l=true): ∃N,Zo (Uw l) N (z8l l)=.ret [.int .i64 (Jh l)]:=by
 unfold z8l Jh;by_cases g:200<l.length
 ·rw [dgt_t (by omega),Ae g];exact ⟨0,rfl⟩
 ·rw [dgt_f (by omega),An g,Ad,Ad];have hT:=v3b h (by omega) l.length 0 [] (Al _) (fun j hj=>absurd hj (AA _)) fun p=>rfl;have:=v3c (by omega) hT l.length 0 (Al _);rw [A0,x0i,x7j] at this;exact this
def fSch :List AVal→Option (AVal×Bool)
 | [a0]=>match asL Nod a0 with
  | some (L,g,n)=>some (.int .i64 (Jh L),isT Nod n g&&Yz L)
  | _=>none
 | _=>none
theorem u0j {S:Specs} (hS:Zw prog S):Zw prog (S.with schN fSch):=fOne hS (by kernel_rfl) fun args v h=>by
 unfold fSch at h;split at h
 ·rename_i a0;split at h
  ·rename_i L g n e0;simp only [Ab,Aa,Ac] at h;obtain ⟨rfl,ho0,hw⟩:=h;obtain ⟨N,hN⟩:=v6q L hw;exact ⟨_,_,(.cons (Yg e0 ho0) .nil),rfl,w7t L N _ hN,3,rfl⟩
  ·cases h
 ·cases h
theorem v3o {l:List Nod} {T:Int} (hl:l.length≤1000) (hT: ∃N,Zo (Xr l) N (.to (.h1 0))=.ret [.int .i64 T]): ∀(k i:Nat),i+k=l.length→ ∃N,Zo (Xr l) N (.to (.h0 (i:Int)))=.ret [.int .i64 (solF T (l.drop i))]
 | 0,i,h=>by
  obtain ⟨N,hN⟩:=hT;refine ⟨N+1,?_⟩;rw [Zv,At (by omega)];have e:Xr l (.h0 (i:Int))=.to (.h1 0):=by unfold Xr;simp only [];rw [dlt_f (by omega)];rfl
  rw [e,hN];rfl
 | k+1,i,h=>by
  have hi:i<l.length:=by omega
  have w2:wrap .i64 ((i:Int)+1)=((i+1:Nat):Int):=wrap_t (by omega);have e:Xr l (.h0 (i:Int))=bif Wa (rd l i).s != 0 then .ret [.int .i64 (Wa (rd l i).s)] else .to (.h0 ((i+1:Nat):Int)):=by unfold Xr;simp only [toNat_c,w2,Zn];rw [dlt_t (by omega),Ag,Ap,Zr (din_t (by omega)),v2b];rfl
  rw [drop_rd hi,z9t];cases g:Wa (rd l i).s != 0 with
  | true=>exact ⟨1,by rw [Zv,e,g];rfl⟩
  | false=>obtain ⟨N,hN⟩:=v3o hl hT k (i+1) (by omega);exact ⟨N+1,by rw [Zv,e,g,Ad,Ad,hN]⟩
def twF (l:List Nod) (a:Int) (n:List UInt8):Nat→Nat→Bool
 | 0,_=>false
 | k+1,i=>(((rd l i).a == a)&&((rd l i).n == n))||twF l a n k (i+1)
theorem y6y (l:List Nod) (a:Int) (n:List UInt8): ∀(k i:Nat),twF l a n k i=(List.range k).any fun j=>((rd l (i+j)).a == a)&&((rd l (i+j)).n == n)
 | 0,i=>rfl
 | k+1,i=>by
  rw [twF,y6y l a n k (i+1),List.range_succ_eq_map,List.any_cons,List.any_map]
  congr 1
  congr 1
  funext j
  show (_:Bool)=((rd l (i+(j+1))).a == a&&(rd l (i+(j+1))).n == n);rw [show i+1+j=i+(j+1) by omega]
theorem v3m {l:List Nod} {i:Nat} {n:List UInt8} {a t x y z:Int} {s:List R6} (hi:i<l.length) (hl:l.length≤1000) {T:Int} (hT: ∃N,Zo (Xr l) N (.to (.h1 ((i+1:Nat):Int)))=.ret [.int .i64 T]):
  ∀(k j:Nat),j+k=i→ ∃N,Zo (Xr l) N (.to (.h2 (i:Int) (j:Int) n a t x y z s))=.ret [.int .i64 (bif twF l a n k j then 8 else T)]
 | 0,j,h=>by
  obtain ⟨N,hN⟩:=hT;have w2:wrap .i64 ((i:Int)+1)=((i+1:Nat):Int):=wrap_t (by omega);refine ⟨N+1,?_⟩;have e:Xr l (.h2 (i:Int) (j:Int) n a t x y z s)=.to (.h1 ((i+1:Nat):Int)):=by unfold Xr;simp only [w2];rw [dlt_f (by omega)];rfl
  rw [Zv,e,hN];rfl
 | k+1,j,h=>by
  have w2:wrap .i64 ((j:Int)+1)=((j+1:Nat):Int):=wrap_t (by omega);have e:Xr l (.h2 (i:Int) (j:Int) n a t x y z s)=bif ((rd l j).a == a)&&((rd l j).n == n) then .ret [.int .i64 8] else .to (.h2 (i:Int) ((j+1:Nat):Int) n a t x y z s):=by unfold Xr;simp only [toNat_c,w2];rw [dlt_t (by omega),Ag,Ap,Zr (din_t (by omega))];cases (rd l j).a == a <;> cases (rd l j).n == n <;> rfl
  rw [twF];cases g:((rd l j).a == a)&&((rd l j).n == n) with
  | true=>exact ⟨1,by rw [Zv,e,g];rfl⟩
  | false=>obtain ⟨N,hN⟩:=v3m (n:=n) (a:=a) (t:=t) (x:=x) (y:=y) (z:=z) (s:=s) hi hl hT k (j+1) (by omega);exact ⟨N+1,by rw [Zv,e,g,Ad,hN,Ba]⟩
theorem w8e {l:List Nod} {i:Nat} (ho:Yz l=true) (hl:l.length≤1000) (hi:i<l.length) (hf:y2i l i):
  Xr l (.h1 (i:Int))=bif w1m l i||(y1z (Qi l (i:Int)) != 0) then .ret [.int .i64 8] else .to (.h2 (i:Int) 0 (rd l i).n (rd l i).a (rd l i).t (rd l i).x (rd l i).y (rd l i).z (rd l i).s):=by
 have hn:Wu (rd l i).n =true:=by unfold Yz at ho;rw [Ac] at ho;have:=z9w ho.2 i;exact Ae (by omega)
 unfold Xr;simp only [toNat_c,Zn];rw [dlt_t (by omega),Ag,Ap,Zr (din_t (by omega)),Zr hn];cases hb:w1m l i with
 | true=>
  rw [Bool.true_or,Ag];unfold w1m at hb;revert hb;cases z3t (rd l i).n with
  | false=>intro _;rfl
  | true=>
   cases decide ((rd l i).a < -1) with
   | true=>intro _;rfl
   | false=>
    cases decide ((rd l i).a ≥(i:Int)) with
    | true=>intro _;rfl
    | false=>
     cases fkV (rd l i).t (rd l i).x (rd l i).y (rd l i).z != 0 with
     | true=>intro _;rfl
     | false=>intro h;cases h
 | false=>obtain ⟨b1,b2,b3,b4⟩:=y6c hb;have hk:=z5p hf hb;have hp:=y5e ho hl hi hk;rw [b1,Au,Ad,dlt_f (by omega),Ad,dge_f (by omega),Ad,b4,show ((0:Int) != 0)=false from rfl,Ad,Zr hp,Zr (show Wo (Qi l (i:Int))=true from Ae (y5f hp)),Ba]
theorem x5m (l:List Nod) (i:Nat):twF l (rd l i).a (rd l i).n i 0=twin l i:=by
 rw [y6y];unfold twin
 congr 1
 funext j
 rw [Al]
theorem v3n {l:List Nod} (ho:Yz l=true) (hl:l.length≤1000): ∀(k i:Nat),i+k=l.length→y2i l i→ ∃N,Zo (Xr l) N (.to (.h1 (i:Int)))=.ret [.int .i64 (bif badF l k i then 8 else 0)]
 | 0,i,h,hf=>⟨1,by
  rw [Zv];unfold Xr;simp only [];rw [dlt_f (by omega)];rfl⟩
 | k +1,i,h,hf=>by
  have hi:i<l.length:=by omega
  have e:=w8e ho hl hi hf;rw [badF];have hb:y6t l i=((w1m l i||(y1z (Qi l (i:Int)) != 0))||twin l i):=by unfold y6t;rw [Bool.or_assoc]
  cases g:w1m l i||(y1z (Qi l (i:Int)) != 0) with
  | true=>exact ⟨1,by rw [Zv,e,hb,g];rfl⟩
  | false=>
   cases g2:twin l i with
   | true=>
    have hx: ∀(k j:Nat),j+k=i→twF l (rd l i).a (rd l i).n k j=true→ ∃N,Zo (Xr l) N (.to (.h2 (i:Int) (j:Int) (rd l i).n (rd l i).a (rd l i).t (rd l i).x (rd l i).y (rd l i).z (rd l i).s))=.ret [.int .i64 8]:=by
     intro k
     induction k with
     | zero=>intro j _ hq;cases hq
     | succ k ih=>
      intro j hj hq;have w2:wrap .i64 ((j:Int)+1)=((j+1:Nat):Int):=wrap_t (by omega);have e:Xr l (.h2 (i:Int) (j:Int) (rd l i).n (rd l i).a (rd l i).t (rd l i).x (rd l i).y (rd l i).z (rd l i).s)=bif ((rd l j).a == (rd l i).a)&&((rd l j).n == (rd l i).n) then .ret [.int .i64 8] else .to (.h2 (i:Int) ((j+1:Nat):Int) (rd l i).n (rd l i).a (rd l i).t (rd l i).x (rd l i).y (rd l i).z (rd l i).s):=by unfold Xr;simp only [toNat_c,w2];rw [dlt_t (by omega),Ag,Ap,Zr (din_t (by omega))];cases (rd l j).a == (rd l i).a <;> cases (rd l j).n == (rd l i).n <;> rfl
      rw [twF] at hq;cases g:((rd l j).a == (rd l i).a)&&((rd l j).n == (rd l i).n) with
      | true=>exact ⟨1,by rw [Zv,e,g];rfl⟩
      | false=>rw [g,Ba] at hq;obtain ⟨N,hN⟩:=ih (j+1) (by omega) hq;exact ⟨N+1,by rw [Zv,e,g,Ad,hN]⟩
    obtain ⟨N,hN⟩:=hx i 0 (Al _) (by rw [x5m];exact g2);refine ⟨N+1,?_⟩;rw [Zv,e,g,Ad,hb,g,g2];exact hN
   | false=>
    have hbf:y6t l i=false:=by rw [hb,g,g2];rfl
    have ht:=v3n ho hl k (i+1) (by omega) (y3p hf hbf);obtain ⟨N,hN⟩:=v3m (n:=(rd l i).n) (a:=(rd l i).a) (t:=(rd l i).t) (x:=(rd l i).x) (y:=(rd l i).y) (z:=(rd l i).z) (s:=(rd l i).s) hi hl ht i 0 (Al _);rw [x5m,g2,Ad] at hN;refine ⟨N+1,?_⟩;rw [Zv,e,g,Ad,hbf,Ba];exact hN
theorem v7c (l:List Nod) (h:Yz l=true): ∃N,Zo (Xr l) N (z8o l)=.ret [.int .i64 (Jh l)]:=by
 unfold z8o Jh;by_cases g:200<l.length
 ·rw [dgt_t (by omega),Ae g];exact ⟨0,rfl⟩
 ·rw [dgt_f (by omega),An g,Ad,Ad];have hT:=v3n h (by omega) l.length 0 (Al _) (fun j hj=>absurd hj (AA _));have:=v3o (by omega) hT l.length 0 (Al _);rw [A0,x0i,x7j] at this;exact this
theorem u0n {S:Specs} (hS:Zw prog S):Zw prog (S.with rscN fSch):=fOne hS (by kernel_rfl) fun args v h=>by
 unfold fSch at h;split at h
 ·rename_i a0;split at h
  ·rename_i L g n e0;simp only [Ab,Aa,Ac] at h;obtain ⟨rfl,ho0,hw⟩:=h;obtain ⟨N,hN⟩:=v7c L hw;exact ⟨_,_,(.cons (Yg e0 ho0) .nil),rfl,w8f L N _ hN,3,rfl⟩
  ·cases h
 ·cases h
def SzS6 :Specs:=(SzS5.with schN fSch).with rscN fSch
theorem Ki :Zw prog SzS6:=u0n (u0j Xz)
inductive fdiS where
def fdiC (x0:Int):fdiS→Cfg
 :=nofun
def x4e (x0:Int):fdiS→Ya fdiS
 :=nofun
def z5r (x0:Int):Ya fdiS:=(bif ((wrap IntKind.u8 (Int.tdiv x0 2)) == 0) then (.ret [(.agg [(.int .i64 (wrap .i64 (1 - (wrap .i64 (2*(wrap .i64 (Int.tmod x0 2))))))),(.int .i64 0),(.int .i64 0)])]) else (bif ((wrap IntKind.u8 (Int.tdiv x0 2)) == 1) then (.ret [(.agg [(.int .i64 0),(.int .i64 (wrap .i64 (1 - (wrap .i64 (2*(wrap .i64 (Int.tmod x0 2))))))),(.int .i64 0)])]) else (.ret [(.agg [(.int .i64 0),(.int .i64 0),(.int .i64 (wrap .i64 (1 - (wrap .i64 (2*(wrap .i64 (Int.tmod x0 2)))))))])])))
theorem w0x (x0:Int): ∀s,Yh prog (Zz prog 138) (fdiC x0) (fdiC x0 s) (x4e x0 s)
 :=nofun
theorem x4f (x0:Int):Yh prog (Zz prog 138) (fdiC x0) (Zj prog 138 [(.int .u8 x0)] true []) (z5r x0):=(lb (fun k0=>(Zf ⟨⟨21,0,true⟩,none,(Zm prog 138 [1,1,0,1,0,1,0,0] 1),none,(Zz prog 105),⟨Yx [(2,(.ptr 0 0))],Xj [⟨[(ii (wr (1 - (wr (2*(wr (Int.tmod x0 2))))))),(ii 0),(ii 0)],34,none⟩] 0,1,[],true⟩,[],.leaf⟩ (sl Ki 32 [] ⟨[0],[],[some [2]],[]⟩ ⟨[],[],[]⟩ [true] (tt k0 nn)) rfl (by kernel_rfl))) (fun k0=>(lb (fun k1=>(Zf ⟨⟨21,0,true⟩,none,(Zm prog 138 [1,1,0,1,0,1,0,0] 1),none,(Zz prog 105),⟨Yx [(2,(.ptr 0 0))],Xj [⟨[(ii 0),(ii (wr (1 - (wr (2*(wr (Int.tmod x0 2))))))),(ii 0)],34,none⟩] 0,1,[],true⟩,[],.leaf⟩ (sl Ki 38 [] ⟨[0],[],[some [2]],[]⟩ ⟨[],[],[]⟩ [false,true] (tt k1 (tt k0 nn))) rfl (by kernel_rfl))) (fun k1=>(Zf ⟨⟨21,0,true⟩,none,(Zm prog 3 [1,1,1,1,1,1,1,1,0] 1),none,(Zz prog 105),⟨Yx [(2,(.ptr 0 0))],Xj [⟨[(ii 0),(ii 0),(ii (wr (1 - (wr (2*(wr (Int.tmod x0 2)))))))],34,none⟩] 0,1,[],true⟩,[],.leaf⟩ (sl Ki 40 [] ⟨[0],[],[some [2]],[]⟩ ⟨[],[],[]⟩ [false,false] (tt k1 (tt k0 nn))) rfl (by kernel_rfl))))))
theorem v1j (x0:Int) (n:Nat) (vs:List AVal) (h:Zo (x4e x0) n (z5r x0)=.ret vs):Ws prog (Zz prog 138) (Zj prog 138 [(.int .u8 x0)] true []) vs:=by have:=Zk (w0x x0) n _ (x4f x0);rwa [h] at this
inductive rdiS where
def rdiC (x0:Int):rdiS→Cfg
 :=nofun
def x1x (x0:Int):rdiS→Ya rdiS
 :=nofun
def z4p (x0:Int):Ya rdiS:=(bif ((Int.tmod x0 2) == 1) then (bif (decide (x0<2)) then (.ret [(.agg [(.int .i64 (-1)),(.int .i64 0),(.int .i64 0)])]) else (bif (decide (x0<4)) then (.ret [(.agg [(.int .i64 0),(.int .i64 (-1)),(.int .i64 0)])]) else (.ret [(.agg [(.int .i64 0),(.int .i64 0),(.int .i64 (-1))])]))) else (bif (decide (x0<2)) then (.ret [(.agg [(.int .i64 1),(.int .i64 0),(.int .i64 0)])]) else (bif (decide (x0<4)) then (.ret [(.agg [(.int .i64 0),(.int .i64 1),(.int .i64 0)])]) else (.ret [(.agg [(.int .i64 0),(.int .i64 0),(.int .i64 1)])]))))
theorem x9j (x0:Int): ∀s,Yh prog (Zz prog 105) (rdiC x0) (rdiC x0 s) (x1x x0 s)
 :=nofun
theorem x1y (x0:Int):Yh prog (Zz prog 105) (rdiC x0) (Zj prog 105 [(.int .i64 x0)] true []) (z4p x0):=(lb (fun k0=>(lb (fun k1=>(Zf ⟨⟨17,0,true⟩,none,(Zm prog 105 [1,1,1,0,1,0,0] 1),none,(Zz prog 105),⟨Yx [(2,(.ptr 0 0))],Xj [⟨[(ii (-1)),(ii 0),(ii 0)],34,none⟩] 0,1,[],true⟩,[],.leaf⟩ (sl Ki 32 [] ⟨[0],[],[some [2]],[]⟩ ⟨[],[],[]⟩ [true,true] (tt k1 (tt k0 nn))) rfl (by kernel_rfl))) (fun k1=>(lb (fun k2=>(Zf ⟨⟨17,0,true⟩,none,(Zm prog 105 [1,1,1,1,0,1,0,0] 1),none,(Zz prog 105),⟨Yx [(2,(.ptr 0 0))],Xj [⟨[(ii 0),(ii (-1)),(ii 0)],34,none⟩] 0,1,[],true⟩,[],.leaf⟩ (sl Ki 40 [] ⟨[0],[],[some [2]],[]⟩ ⟨[],[],[]⟩ [true,false,true] (tt k2 (tt k1 (tt k0 nn)))) rfl (by kernel_rfl))) (fun k2=>(Zf ⟨⟨17,0,true⟩,none,(Zm prog 3 [1,1,1,1,1,1,1,1,0] 1),none,(Zz prog 105),⟨Yx [(2,(.ptr 0 0))],Xj [⟨[(ii 0),(ii 0),(ii (-1))],34,none⟩] 0,1,[],true⟩,[],.leaf⟩ (sl Ki 41 [] ⟨[0],[],[some [2]],[]⟩ ⟨[],[],[]⟩ [true,false,false] (tt k2 (tt k1 (tt k0 nn)))) rfl (by kernel_rfl))))))) (fun k0=>(lb (fun k1=>(Zf ⟨⟨17,0,true⟩,none,(Zm prog 105 [1,1,1,0,1,0,0] 1),none,(Zz prog 105),⟨Yx [(2,(.ptr 0 0))],Xj [⟨[(ii 1),(ii 0),(ii 0)],34,none⟩] 0,1,[],true⟩,[],.leaf⟩ (sl Ki 30 [] ⟨[0],[],[some [2]],[]⟩ ⟨[],[],[]⟩ [false,true] (tt k1 (tt k0 nn))) rfl (by kernel_rfl))) (fun k1=>(lb (fun k2=>(Zf ⟨⟨17,0,true⟩,none,(Zm prog 105 [1,1,1,1,0,1,0,0] 1),none,(Zz prog 105),⟨Yx [(2,(.ptr 0 0))],Xj [⟨[(ii 0),(ii 1),(ii 0)],34,none⟩] 0,1,[],true⟩,[],.leaf⟩ (sl Ki 38 [] ⟨[0],[],[some [2]],[]⟩ ⟨[],[],[]⟩ [false,false,true] (tt k2 (tt k1 (tt k0 nn)))) rfl (by kernel_rfl))) (fun k2=>(Zf ⟨⟨17,0,true⟩,none,(Zm prog 3 [1,1,1,1,1,1,1,1,0] 1),none,(Zz prog 105),⟨Yx [(2,(.ptr 0 0))],Xj [⟨[(ii 0),(ii 0),(ii 1)],34,none⟩] 0,1,[],true⟩,[],.leaf⟩ (sl Ki 39 [] ⟨[0],[],[some [2]],[]⟩ ⟨[],[],[]⟩ [false,false,false] (tt k2 (tt k1 (tt k0 nn)))) rfl (by kernel_rfl))))))))
theorem w9b (x0:Int) (n:Nat) (vs:List AVal) (h:Zo (x1x x0) n (z4p x0)=.ret vs):Ws prog (Zz prog 105) (Zj prog 105 [(.int .i64 x0)] true []) vs:=by have:=Zk (x9j x0) n _ (x1y x0);rwa [h] at this
structure R9 where
 (a b c d e f g h i:Int)
def fdS (d:Int):Int:=wrap .i64 (1 - wrap .i64 (2*wrap .i64 (Int.tmod d 2)))
def fdV (d:Int):R3:=bif wrap .u8 (Int.tdiv d 2) == 0 then ⟨fdS d,0,0⟩ else bif wrap .u8 (Int.tdiv d 2) == 1 then ⟨0,fdS d,0⟩ else ⟨0,0,fdS d⟩
def rdV (d:Int):R3:=bif Int.tmod d 2 == 1 then (bif decide (d<2) then ⟨-1,0,0⟩ else bif decide (d<4) then ⟨0,-1,0⟩ else ⟨0,0,-1⟩) else (bif decide (d<2) then ⟨1,0,0⟩ else bif decide (d<4) then ⟨0,1,0⟩ else ⟨0,0,1⟩)
def ag3 (v:R3):AVal:=.agg [.int .i64 v.a,.int .i64 v.b,.int .i64 v.c]
theorem u0b (d:Int) (_:True): ∃N,Zo (x4e d) N (z5r d)=.ret [ag3 (fdV d)]:=⟨0,by
 show z5r d=_;unfold z5r fdV;cases wrap .u8 (Int.tdiv d 2) == 0
 ·cases wrap .u8 (Int.tdiv d 2) == 1 <;> rfl
 ·rfl⟩
theorem v8g (d:Int) (_:True): ∃N,Zo (x1x d) N (z4p d)=.ret [ag3 (rdV d)]:=⟨0,by
 show z4p d=_;unfold z4p rdV;cases Int.tmod d 2 == 1 <;> cases decide (d<2) <;> cases decide (d<4) <;> rfl⟩
def fFdi :List AVal→Option (AVal×Bool)
 | [.int .u8 d]=>some (ag3 (fdV d),true)
 | _=>none
def fRdi :List AVal→Option (AVal×Bool)
 | [.int .i64 d]=>some (ag3 (rdV d),true)
 | _=>none
theorem u1v {S:Specs} (hS:Zw prog S):Zw prog (S.with fdiN fFdi):=fOne hS (by kernel_rfl) fun args v h=>by
 unfold fFdi at h;split at h
 ·rename_i d;simp only [Ab,Aa] at h;obtain ⟨rfl,ho⟩:=h;obtain ⟨N,hN⟩:=u0b d ho;exact ⟨_,_,.cons (.refl _) .nil,rfl,v1j d N _ hN,5,rfl⟩
 ·cases h
theorem u0z {S:Specs} (hS:Zw prog S):Zw prog (S.with rdiN fRdi):=fOne hS (by kernel_rfl) fun args v h=>by
 unfold fRdi at h;split at h
 ·rename_i d;simp only [Ab,Aa] at h;obtain ⟨rfl,ho⟩:=h;obtain ⟨N,hN⟩:=v8g d ho;exact ⟨_,_,.cons (.refl _) .nil,rfl,w9b d N _ hN,5,rfl⟩
 ·cases h
def SzS7 :Specs:=(SzS6.with fdiN fFdi).with rdiN fRdi
theorem z0l :Zw prog SzS7:=u0z (u1v Ki)
def tab9 :List R9:=[⟨1,0,0,0,1,0,0,0,1⟩,⟨1,0,0,0,-1,0,0,0,-1⟩,⟨1,0,0,0,0,1,0,-1,0⟩,⟨1,0,0,0,0,-1,0,1,0⟩,⟨-1,0,0,0,1,0,0,0,-1⟩,⟨-1,0,0,0,-1,0,0,0,1⟩,⟨-1,0,0,0,0,1,0,1,0⟩,⟨-1,0,0,0,0,-1,0,-1,0⟩,⟨0,1,0,1,0,0,0,0,-1⟩,⟨0,1,0,-1,0,0,0,0,1⟩,⟨0,1,0,0,0,1,1,0,0⟩,⟨0,1,0,0,0,-1,-1,0,0⟩,⟨0,-1,0,1,0,0,0,0,1⟩,⟨0,-1,0,-1,0,0,0,0,-1⟩,⟨0,-1,0,0,0,1,-1,0,0⟩,⟨0,-1,0,0,0,-1,1,0,0⟩,⟨0,0,1,1,0,0,0,1,0⟩,⟨0,0,1,-1,0,0,0,-1,0⟩,⟨0,0,1,0,1,0,-1,0,0⟩,⟨0,0,1,0,-1,0,1,0,0⟩,⟨0,0,-1,1,0,0,0,-1,0⟩,⟨0,0,-1,-1,0,0,0,1,0⟩,⟨0,0,-1,0,1,0,1,0,0⟩,⟨0,0,-1,0,-1,0,-1,0,0⟩]
def faV (t:Int):R9:=tab9.getD t.toNat ⟨0,0,0,0,0,0,0,0,0⟩
def Yt (t:Int):Bool:=decide (0≤t∧t<24)
def ag9 (v:R9):AVal:=.agg [.int .i64 v.a,.int .i64 v.b,.int .i64 v.c,.int .i64 v.d,.int .i64 v.e,.int .i64 v.f,.int .i64 v.g,.int .i64 v.h,.int .i64 v.i]
inductive faxS where
def faxC (x0:Int):faxS→Cfg
 :=nofun
def y5u (x0:Int):faxS→Ya faxS
 :=nofun
def z9i (x0:Int):Ya faxS:=(bif (decide ((Int.tmod x0 4)≥(wrap IntKind.u8 ((wrap IntKind.u8 (Int.tdiv (wrap IntKind.u8 (Int.tdiv x0 4)) 2))*2)))) then (.ret [(.agg [(.int .i64 (fdV (wrap IntKind.u8 (Int.tdiv x0 4))).a),(.int .i64 (fdV (wrap IntKind.u8 (Int.tdiv x0 4))).b),(.int .i64 (fdV (wrap IntKind.u8 (Int.tdiv x0 4))).c),(.int .i64 (fdV (wrap IntKind.u8 ((Int.tmod x0 4)+2))).a),(.int .i64 (fdV (wrap IntKind.u8 ((Int.tmod x0 4)+2))).b),(.int .i64 (fdV (wrap IntKind.u8 ((Int.tmod x0 4)+2))).c),(.int .i64 (wrap .i64 ((wrap .i64 ((fdV (wrap IntKind.u8 (Int.tdiv x0 4))).b *(fdV (wrap IntKind.u8 ((Int.tmod x0 4)+2))).c)) - (wrap .i64 ((fdV (wrap IntKind.u8 (Int.tdiv x0 4))).c *(fdV (wrap IntKind.u8 ((Int.tmod x0 4)+2))).b))))),(.int .i64 (wrap .i64 ((wrap .i64 ((fdV (wrap IntKind.u8 (Int.tdiv x0 4))).c *(fdV (wrap IntKind.u8 ((Int.tmod x0 4)+2))).a)) - (wrap .i64 ((fdV (wrap IntKind.u8 (Int.tdiv x0 4))).a *(fdV (wrap IntKind.u8 ((Int.tmod x0 4)+2))).c))))),(.int .i64 (wrap .i64 ((wrap .i64 ((fdV (wrap IntKind.u8 (Int.tdiv x0 4))).a *(fdV (wrap IntKind.u8 ((Int.tmod x0 4)+2))).b)) - (wrap .i64 ((fdV (wrap IntKind.u8 (Int.tdiv x0 4))).b *(fdV (wrap IntKind.u8 ((Int.tmod x0 4)+2))).a)))))])]) else (.ret [(.agg [(.int .i64 (fdV (wrap IntKind.u8 (Int.tdiv x0 4))).a),(.int .i64 (fdV (wrap IntKind.u8 (Int.tdiv x0 4))).b),(.int .i64 (fdV (wrap IntKind.u8 (Int.tdiv x0 4))).c),(.int .i64 (fdV (Int.tmod x0 4)).a),(.int .i64 (fdV (Int.tmod x0 4)).b),(.int .i64 (fdV (Int.tmod x0 4)).c),(.int .i64 (wrap .i64 ((wrap .i64 ((fdV (wrap IntKind.u8 (Int.tdiv x0 4))).b *(fdV (Int.tmod x0 4)).c)) - (wrap .i64 ((fdV (wrap IntKind.u8 (Int.tdiv x0 4))).c *(fdV (Int.tmod x0 4)).b))))),(.int .i64 (wrap .i64 ((wrap .i64 ((fdV (wrap IntKind.u8 (Int.tdiv x0 4))).c *(fdV (Int.tmod x0 4)).a)) - (wrap .i64 ((fdV (wrap IntKind.u8 (Int.tdiv x0 4))).a *(fdV (Int.tmod x0 4)).c))))),(.int .i64 (wrap .i64 ((wrap .i64 ((fdV (wrap IntKind.u8 (Int.tdiv x0 4))).a *(fdV (Int.tmod x0 4)).b)) - (wrap .i64 ((fdV (wrap IntKind.u8 (Int.tdiv x0 4))).b *(fdV (Int.tmod x0 4)).a)))))])]))
theorem w0z (x0:Int): ∀s,Yh prog (Zz prog 102) (faxC x0) (faxC x0 s) (y5u x0 s)
 :=nofun
theorem x4i (x0:Int):Yh prog (Zz prog 102) (faxC x0) (Zj prog 102 [(.int .u8 x0)] true []) (z9i x0):=(lb (fun k0=>(Zf ⟨⟨28,0,true⟩,none,(Zm prog 3 [1,1,1,1,1,1,1,1,0] 1),none,(Zz prog 79),⟨Yx [(2,(.ptr 0 0))],Xj [⟨[(ii (fdV (wrap IntKind.u8 (Int.tdiv x0 4))).a),(ii (fdV (wrap IntKind.u8 (Int.tdiv x0 4))).b),(ii (fdV (wrap IntKind.u8 (Int.tdiv x0 4))).c),(ii (fdV (wrap IntKind.u8 ((Int.tmod x0 4)+2))).a),(ii (fdV (wrap IntKind.u8 ((Int.tmod x0 4)+2))).b),(ii (fdV (wrap IntKind.u8 ((Int.tmod x0 4)+2))).c),(ii (wr ((wr ((fdV (wrap IntKind.u8 (Int.tdiv x0 4))).b *(fdV (wrap IntKind.u8 ((Int.tmod x0 4)+2))).c)) - (wr ((fdV (wrap IntKind.u8 (Int.tdiv x0 4))).c *(fdV (wrap IntKind.u8 ((Int.tmod x0 4)+2))).b))))),(ii (wr ((wr ((fdV (wrap IntKind.u8 (Int.tdiv x0 4))).c *(fdV (wrap IntKind.u8 ((Int.tmod x0 4)+2))).a)) - (wr ((fdV (wrap IntKind.u8 (Int.tdiv x0 4))).a *(fdV (wrap IntKind.u8 ((Int.tmod x0 4)+2))).c))))),(ii (wr ((wr ((fdV (wrap IntKind.u8 (Int.tdiv x0 4))).a *(fdV (wrap IntKind.u8 ((Int.tmod x0 4)+2))).b)) - (wr ((fdV (wrap IntKind.u8 (Int.tdiv x0 4))).b *(fdV (wrap IntKind.u8 ((Int.tmod x0 4)+2))).a)))))],130,none⟩] 0,1,[],true⟩,[],.leaf⟩ (sl z0l 44 [] ⟨[0],[],[some [2]],[]⟩ ⟨[],[],[]⟩ [true] (tt k0 nn)) rfl (by kernel_rfl))) (fun k0=>(Zf ⟨⟨28,0,true⟩,none,(Zm prog 3 [1,1,1,1,1,1,1,1,0] 1),none,(Zz prog 79),⟨Yx [(2,(.ptr 0 0))],Xj [⟨[(ii (fdV (wrap IntKind.u8 (Int.tdiv x0 4))).a),(ii (fdV (wrap IntKind.u8 (Int.tdiv x0 4))).b),(ii (fdV (wrap IntKind.u8 (Int.tdiv x0 4))).c),(ii (fdV (Int.tmod x0 4)).a),(ii (fdV (Int.tmod x0 4)).b),(ii (fdV (Int.tmod x0 4)).c),(ii (wr ((wr ((fdV (wrap IntKind.u8 (Int.tdiv x0 4))).b *(fdV (Int.tmod x0 4)).c)) - (wr ((fdV (wrap IntKind.u8 (Int.tdiv x0 4))).c *(fdV (Int.tmod x0 4)).b))))),(ii (wr ((wr ((fdV (wrap IntKind.u8 (Int.tdiv x0 4))).c *(fdV (Int.tmod x0 4)).a)) - (wr ((fdV (wrap IntKind.u8 (Int.tdiv x0 4))).a *(fdV (Int.tmod x0 4)).c))))),(ii (wr ((wr ((fdV (wrap IntKind.u8 (Int.tdiv x0 4))).a *(fdV (Int.tmod x0 4)).b)) - (wr ((fdV (wrap IntKind.u8 (Int.tdiv x0 4))).b *(fdV (Int.tmod x0 4)).a)))))],130,none⟩] 0,1,[],true⟩,[],.leaf⟩ (sl z0l 40 [] ⟨[0],[],[some [2]],[]⟩ ⟨[],[],[]⟩ [false] (tt k0 nn)) rfl (by kernel_rfl))))
theorem v1l (x0:Int) (n:Nat) (vs:List AVal) (h:Zo (y5u x0) n (z9i x0)=.ret vs):Ws prog (Zz prog 102) (Zj prog 102 [(.int .u8 x0)] true []) vs:=by have:=Zk (w0z x0) n _ (x4i x0);rwa [h] at this
-- h0: indexAddr .nils (.int .i64 (Int.tmod x0 4)) (choices [false])
inductive rimS where
 | h0 (v5:Int)
 | h1 (v4:List Int) (v5:Int)
def rimC (x0:Int):rimS→Cfg
 | .h0 v5=>⟨⟨37,0,true⟩,none,(Zm prog 79 [1,1,1,0,1,0,0] 0),none,(Zz prog 79),⟨Yx [(0,(ii x0)),(2,(.ptr 0 0)),(3,(ii (wr (Int.tdiv x0 4)))),(4,.nils),(5,(ii v5))],Xj [⟨[(ii 0),(ii 0),(ii 0),(ii 0),(ii 0),(ii 0),(ii 0),(ii 0),(ii 0)],130,none⟩] 0,1,[],true⟩,[],.leaf⟩
 | .h1 v4 v5=>⟨⟨37,0,true⟩,none,(Zm prog 79 [1,1,1,0,1,0,0] 0),none,(Zz prog 79),⟨Yx [(0,(ii x0)),(2,(.ptr 0 0)),(3,(ii (wr (Int.tdiv x0 4)))),(4,(.sla 1 1 0 v4.length (.un 1))),(5,(ii v5))],Xj [⟨[(ii 0),(ii 0),(ii 0),(ii 0),(ii 0),(ii 0),(ii 0),(ii 0),(ii 0)],130,none⟩,⟨rows v4.length (Zy v4),3,some ⟨1,v4.length,(Zy v4)⟩⟩] 0,2,[],true⟩,[],.leaf⟩
def rimN0 :List (Option (List Nat)):=[some [0,2,3,4,5]]
def rimM0 :List (Option (List Nat)):=[]
def v7y :List (Option (List Nat)):=[some [0,2,3,4,5]]
def v7z :List (Option (List Nat)):=[]
def y4z (x0:Int):rimS→Ya rimS
 | .h0 v5=>(bif (decide (v5<6)) then (bif ((wrap .i64 (Int.tdiv v5 2)) != (wrap .i64 (Int.tdiv (wrap .i64 (Int.tdiv x0 4)) 2))) then (.to (.h1 ([v5]:List Int) (wrap .i64 (v5+1)))) else (.to (.h0 (wrap .i64 (v5+1))))) else .stuck)
 | .h1 v4 v5=>(bif (decide (v5<6)) then (bif ((wrap .i64 (Int.tdiv v5 2)) != (wrap .i64 (Int.tdiv (wrap .i64 (Int.tdiv x0 4)) 2))) then (bif (Nat.beq 1 1&&((decide (0+v4.length=v4.length))&&decide ((v4.length+1+1)*(8+1)≤Jq))) then (.to (.h1 (v4++[v5]) (wrap .i64 (v5+1)))) else .stuck) else (.to (.h1 v4 (wrap .i64 (v5+1))))) else (bif ((decide (0≤(Int.tmod x0 4)∧(Int.tmod x0 4)<(v4.length:Int)))&&true) then (bif (decide ((0+(Int.toNat (Int.tmod x0 4)))<v4.length)) then (.ret [(.agg [(.int .i64 (rdV (wrap .i64 (Int.tdiv x0 4))).a),(.int .i64 (rdV (wrap .i64 (Int.tdiv x0 4))).b),(.int .i64 (rdV (wrap .i64 (Int.tdiv x0 4))).c),(.int .i64 (rdV (rd v4 (0+(Int.toNat (Int.tmod x0 4))))).a),(.int .i64 (rdV (rd v4 (0+(Int.toNat (Int.tmod x0 4))))).b),(.int .i64 (rdV (rd v4 (0+(Int.toNat (Int.tmod x0 4))))).c),(.int .i64 (wrap .i64 ((wrap .i64 ((rdV (wrap .i64 (Int.tdiv x0 4))).b *(rdV (rd v4 (0+(Int.toNat (Int.tmod x0 4))))).c)) - (wrap .i64 ((rdV (wrap .i64 (Int.tdiv x0 4))).c *(rdV (rd v4 (0+(Int.toNat (Int.tmod x0 4))))).b))))),(.int .i64 (wrap .i64 ((wrap .i64 ((rdV (wrap .i64 (Int.tdiv x0 4))).c *(rdV (rd v4 (0+(Int.toNat (Int.tmod x0 4))))).a)) - (wrap .i64 ((rdV (wrap .i64 (Int.tdiv x0 4))).a *(rdV (rd v4 (0+(Int.toNat (Int.tmod x0 4))))).c))))),(.int .i64 (wrap .i64 ((wrap .i64 ((rdV (wrap .i64 (Int.tdiv x0 4))).a *(rdV (rd v4 (0+(Int.toNat (Int.tmod x0 4))))).b)) - (wrap .i64 ((rdV (wrap .i64 (Int.tdiv x0 4))).b *(rdV (rd v4 (0+(Int.toNat (Int.tmod x0 4))))).a)))))])]) else .stuck) else .stuck))
def z8v (x0:Int):Ya rimS:=(.to (.h0 0))
theorem x9c (x0:Int): ∀s,Yh prog (Zz prog 79) (rimC x0) (rimC x0 s) (y4z x0 s)
 | .h0 v5=>(lb (fun k0=>(lb (fun k1=>(sl z0l 33 [] ⟨[0,2],[],v7y,v7z⟩ ⟨[(4,.grow 1 1)],[.keep,.rowed 1 ([v5]:List Int).length (Zy ([v5]:List Int))],[]⟩ (bl 2 3) (pp (xG (x1e [(ii v5)] 1 ([v5]:List Int).length (Zy ([v5]:List Int)))) (tt k1 (tt k0 nn))))) (fun k1=>(sl z0l 27 [] ⟨[0],[],rimN0,rimM0⟩ ⟨[],[],[]⟩ (bl 2 1) (tt k1 (tt k0 nn)))))) (fun k0=>trivial))
 | .h1 v4 v5=>(lb (fun k0=>(lb (fun k1=>(lo fun o0=>(sl z0l 33 [] ⟨[0,3],[],v7y,v7z⟩ ⟨[(4,.len (v4++[v5]).length)],[.keep,.rowed 1 (v4++[v5]).length (Zy (v4++[v5]))],[]⟩ (bl 2 3) (pp (xL (v4.length+1) (v4++[v5]).length) (pp (xL (v4.length+1) (v4++[v5]).length) (pp (xS (v4.length+1) (Ze (Zy v4) 0 v4.length 1 [(ii v5)]) (Zy (v4++[v5]))) (pp (pp (xF (Ze (Zy v4) 0 v4.length 1 [(ii v5)])) nn) (ww o0 (tt k1 (tt k0 nn)))))))))) (fun k1=>(sl z0l 27 [] ⟨[0,1],[],v7y,v7z⟩ ⟨[],[],[]⟩ (bl 2 1) (pp (fl v4 nn) (tt k1 (tt k0 nn))))))) (fun k0=>(lo fun o0=>(lo fun o1=>(Zf ⟨⟨37,0,true⟩,none,(Zm prog 3 [1,1,1,1,1,1,1,1,0] 1),none,(Zz prog 79),⟨Yx [(2,(.ptr 0 0))],Xj [⟨[(ii (rdV (wr (Int.tdiv x0 4))).a),(ii (rdV (wr (Int.tdiv x0 4))).b),(ii (rdV (wr (Int.tdiv x0 4))).c),(ii (rdV (rd v4 (0+(tn (Int.tmod x0 4))))).a),(ii (rdV (rd v4 (0+(tn (Int.tmod x0 4))))).b),(ii (rdV (rd v4 (0+(tn (Int.tmod x0 4))))).c),(ii (wr ((wr ((rdV (wr (Int.tdiv x0 4))).b *(rdV (rd v4 (0+(tn (Int.tmod x0 4))))).c)) - (wr ((rdV (wr (Int.tdiv x0 4))).c *(rdV (rd v4 (0+(tn (Int.tmod x0 4))))).b))))),(ii (wr ((wr ((rdV (wr (Int.tdiv x0 4))).c *(rdV (rd v4 (0+(tn (Int.tmod x0 4))))).a)) - (wr ((rdV (wr (Int.tdiv x0 4))).a *(rdV (rd v4 (0+(tn (Int.tmod x0 4))))).c))))),(ii (wr ((wr ((rdV (wr (Int.tdiv x0 4))).a *(rdV (rd v4 (0+(tn (Int.tmod x0 4))))).b)) - (wr ((rdV (wr (Int.tdiv x0 4))).b *(rdV (rd v4 (0+(tn (Int.tmod x0 4))))).a)))))],130,none⟩] 0,1,[],true⟩,[],.leaf⟩ (sl z0l 76 [] ⟨[0],[],[some [2]],[]⟩ ⟨[],[],[]⟩ [false] (ww o1 (ww o0 (tt k0 nn)))) rfl (by kernel_rfl))))))
theorem x1o (x0:Int):Yh prog (Zz prog 79) (rimC x0) (Zj prog 79 [(.int .i64 x0)] true []) (z8v x0):=(sl z0l 21 [] ⟨[0],[],rimN0,rimM0⟩ ⟨[],[],[]⟩ [] nn)
theorem w8t (x0:Int) (n:Nat) (vs:List AVal) (h:Zo (y4z x0) n (z8v x0)=.ret vs):Ws prog (Zz prog 79) (Zj prog 79 [(.int .i64 x0)] true []) vs:=by have:=Zk (x9c x0) n _ (x1o x0);rwa [h] at this
theorem fax_t : ∀n:Nat,n<24→Zo (y5u (n:Int)) 0 (z9i (n:Int))=.ret [ag9 (faV (n:Int))]
 | 0,_=>by kernel_rfl
 | 1,_=>by kernel_rfl
 | 2,_=>by kernel_rfl
 | 3,_=>by kernel_rfl
 | 4,_=>by kernel_rfl
 | 5,_=>by kernel_rfl
 | 6,_=>by kernel_rfl
 | 7,_=>by kernel_rfl
 | 8,_=>by kernel_rfl
 | 9,_=>by kernel_rfl
 | 10,_=>by kernel_rfl
 | 11,_=>by kernel_rfl
 | 12,_=>by kernel_rfl
 | 13,_=>by kernel_rfl
 | 14,_=>by kernel_rfl
 | 15,_=>by kernel_rfl
 | 16,_=>by kernel_rfl
 | 17,_=>by kernel_rfl
 | 18,_=>by kernel_rfl
 | 19,_=>by kernel_rfl
 | 20,_=>by kernel_rfl
 | 21,_=>by kernel_rfl
 | 22,_=>by kernel_rfl
 | 23,_=>by kernel_rfl
 | n+24,h=>absurd h (by omega)
theorem u0d (t:Int) (h:Yt t=true): ∃N,Zo (y5u t) N (z9i t)=.ret [ag9 (faV t)]:=by
 have ht:0≤t∧t<24:=As h;obtain ⟨n,rfl⟩: ∃n:Nat,t=(n:Int):=⟨t.toNat,by omega⟩
 exact ⟨0,fax_t n (by omega)⟩
theorem rim_t : ∀n:Nat,n<24→Zo (y4z (n:Int)) 8 (z8v (n:Int))=.ret [ag9 (faV (n:Int))]
 | 0,_=>by kernel_rfl
 | 1,_=>by kernel_rfl
 | 2,_=>by kernel_rfl
 | 3,_=>by kernel_rfl
 | 4,_=>by kernel_rfl
 | 5,_=>by kernel_rfl
 | 6,_=>by kernel_rfl
 | 7,_=>by kernel_rfl
 | 8,_=>by kernel_rfl
 | 9,_=>by kernel_rfl
 | 10,_=>by kernel_rfl
 | 11,_=>by kernel_rfl
 | 12,_=>by kernel_rfl
 | 13,_=>by kernel_rfl
 | 14,_=>by kernel_rfl
 | 15,_=>by kernel_rfl
 | 16,_=>by kernel_rfl
 | 17,_=>by kernel_rfl
 | 18,_=>by kernel_rfl
 | 19,_=>by kernel_rfl
 | 20,_=>by kernel_rfl
 | 21,_=>by kernel_rfl
 | 22,_=>by kernel_rfl
 | 23,_=>by kernel_rfl
 | n+24,h=>absurd h (by omega)
theorem v7x (t:Int) (h:Yt t=true): ∃N,Zo (y4z t) N (z8v t)=.ret [ag9 (faV t)]:=by
 have ht:0≤t∧t<24:=As h;obtain ⟨n,rfl⟩: ∃n:Nat,t=(n:Int):=⟨t.toNat,by omega⟩
 exact ⟨8,rim_t n (by omega)⟩
def fFax :List AVal→Option (AVal×Bool)
 | [.int .u8 t]=>some (ag9 (faV t),Yt t)
 | _=>none
def fRim :List AVal→Option (AVal×Bool)
 | [.int .i64 t]=>some (ag9 (faV t),Yt t)
 | _=>none
theorem u1x {S:Specs} (hS:Zw prog S):Zw prog (S.with faxN fFax):=fOne hS (by kernel_rfl) fun args v h=>by
 unfold fFax at h;split at h
 ·rename_i t;simp only [Ab,Aa] at h;obtain ⟨rfl,ho⟩:=h;obtain ⟨N,hN⟩:=u0d t ho;exact ⟨_,_,.cons (.refl _) .nil,rfl,v1l t N _ hN,5,rfl⟩
 ·cases h
theorem u0v {S:Specs} (hS:Zw prog S):Zw prog (S.with rimN fRim):=fOne hS (by kernel_rfl) fun args v h=>by
 unfold fRim at h;split at h
 ·rename_i t;simp only [Ab,Aa] at h;obtain ⟨rfl,ho⟩:=h;obtain ⟨N,hN⟩:=v7x t ho;exact ⟨_,_,.cons (.refl _) .nil,rfl,w8t t N _ hN,5,rfl⟩
 ·cases h
def SzS8 :Specs:=(SzS7.with faxN fFax).with rimN fRim
theorem Jf :Zw prog SzS8:=u0v (u1x z0l)
inductive fimS where
def fimC (aA:Int) (aG:Int) (aH:Int) (aF:Int) (aD:Int) (aM:Int) (aN:Int):fimS→Cfg
 :=nofun
def x4c (aA:Int) (aG:Int) (aH:Int) (aF:Int) (aD:Int) (aM:Int) (aN:Int):fimS→Ya fimS
 :=nofun
def z5q (aA:Int) (aG:Int) (aH:Int) (aF:Int) (aD:Int) (aM:Int) (aN:Int):Ya fimS:=(bif (Yt aA) then (.ret [(.agg [(.int .i64 (wrap .i64 ((wrap .i64 ((wrap .i64 ((wrap .i64 (aD*(faV aA).a))+(wrap .i64 (aM*(faV aA).d))))+(wrap .i64 (aN*(faV aA).g))))+aG))),(.int .i64 (wrap .i64 ((wrap .i64 ((wrap .i64 ((wrap .i64 (aD*(faV aA).b))+(wrap .i64 (aM*(faV aA).e))))+(wrap .i64 (aN*(faV aA).h))))+aH))),(.int .i64 (wrap .i64 ((wrap .i64 ((wrap .i64 ((wrap .i64 (aD*(faV aA).c))+(wrap .i64 (aM*(faV aA).f))))+(wrap .i64 (aN*(faV aA).i))))+aF)))])]) else .stuck)
theorem w0w (aA:Int) (aG:Int) (aH:Int) (aF:Int) (aD:Int) (aM:Int) (aN:Int): ∀s,Yh prog (Zz prog 92) (fimC aA aG aH aF aD aM aN) (fimC aA aG aH aF aD aM aN s) (x4c aA aG aH aF aD aM aN s)
 :=nofun
theorem x4d (aA:Int) (aG:Int) (aH:Int) (aF:Int) (aD:Int) (aM:Int) (aN:Int):Yh prog (Zz prog 92) (fimC aA aG aH aF aD aM aN) (Zj prog 92 [(.agg [(.int .u8 aA),(.int .i64 aG),(.int .i64 aH),(.int .i64 aF)]),(.agg [(.int .i64 aD),(.int .i64 aM),(.int .i64 aN)])] true []) (z5q aA aG aH aF aD aM aN):=(lo fun o0=>(Zf ⟨⟨29,0,true⟩,none,(Zm prog 3 [1,1,1,1,1,1,1,1,0] 1),none,(Zz prog 80),⟨Yx [(4,(.ptr 0 0))],Xj [⟨[(ii (wr ((wr ((wr ((wr (aD*(faV aA).a))+(wr (aM*(faV aA).d))))+(wr (aN*(faV aA).g))))+aG))),(ii (wr ((wr ((wr ((wr (aD*(faV aA).b))+(wr (aM*(faV aA).e))))+(wr (aN*(faV aA).h))))+aH))),(ii (wr ((wr ((wr ((wr (aD*(faV aA).c))+(wr (aM*(faV aA).f))))+(wr (aN*(faV aA).i))))+aF)))],34,none⟩] 0,1,[],true⟩,[],.leaf⟩ (sl Jf 31 [] ⟨[2],[],[some [4]],[]⟩ ⟨[],[],[]⟩ [] (ww o0 nn)) rfl (by kernel_rfl)))
theorem v1i (aA:Int) (aG:Int) (aH:Int) (aF:Int) (aD:Int) (aM:Int) (aN:Int) (n:Nat) (vs:List AVal) (h:Zo (x4c aA aG aH aF aD aM aN) n (z5q aA aG aH aF aD aM aN)=.ret vs):Ws prog (Zz prog 92) (Zj prog 92 [(.agg [(.int .u8 aA),(.int .i64 aG),(.int .i64 aH),(.int .i64 aF)]),(.agg [(.int .i64 aD),(.int .i64 aM),(.int .i64 aN)])] true []) vs:=by have:=Zk (w0w aA aG aH aF aD aM aN) n _ (x4d aA aG aH aF aD aM aN);rwa [h] at this
inductive rmgS where
def rmgC (aA:Int) (aG:Int) (aH:Int) (aF:Int) (aD:Int) (aM:Int) (aN:Int):rmgS→Cfg
 :=nofun
def x1h (aA:Int) (aG:Int) (aH:Int) (aF:Int) (aD:Int) (aM:Int) (aN:Int):rmgS→Ya rmgS
 :=nofun
def z4g (aA:Int) (aG:Int) (aH:Int) (aF:Int) (aD:Int) (aM:Int) (aN:Int):Ya rmgS:=(bif (Yt (wrap .i64 aA)) then (.ret [(.agg [(.int .i64 (wrap .i64 ((wrap .i64 ((wrap .i64 (aD*(faV (wrap .i64 aA)).a))+(wrap .i64 ((wrap .i64 (aM*(faV (wrap .i64 aA)).d))+(wrap .i64 (aN*(faV (wrap .i64 aA)).g))))))+aG))),(.int .i64 (wrap .i64 ((wrap .i64 ((wrap .i64 (aD*(faV (wrap .i64 aA)).b))+(wrap .i64 ((wrap .i64 (aM*(faV (wrap .i64 aA)).e))+(wrap .i64 (aN*(faV (wrap .i64 aA)).h))))))+aH))),(.int .i64 (wrap .i64 ((wrap .i64 ((wrap .i64 (aD*(faV (wrap .i64 aA)).c))+(wrap .i64 ((wrap .i64 (aM*(faV (wrap .i64 aA)).f))+(wrap .i64 (aN*(faV (wrap .i64 aA)).i))))))+aF)))])]) else .stuck)
theorem x8x (aA:Int) (aG:Int) (aH:Int) (aF:Int) (aD:Int) (aM:Int) (aN:Int): ∀s,Yh prog (Zz prog 82) (rmgC aA aG aH aF aD aM aN) (rmgC aA aG aH aF aD aM aN s) (x1h aA aG aH aF aD aM aN s)
 :=nofun
theorem x1i (aA:Int) (aG:Int) (aH:Int) (aF:Int) (aD:Int) (aM:Int) (aN:Int):Yh prog (Zz prog 82) (rmgC aA aG aH aF aD aM aN) (Zj prog 82 [(.agg [(.int .u8 aA),(.int .i64 aG),(.int .i64 aH),(.int .i64 aF)]),(.agg [(.int .i64 aD),(.int .i64 aM),(.int .i64 aN)])] true []) (z4g aA aG aH aF aD aM aN):=(lo fun o0=>(Zf ⟨⟨14,0,true⟩,none,(Zm prog 3 [1,1,1,1,1,1,1,1,0] 1),none,(Zz prog 80),⟨Yx [(4,(.ptr 0 0))],Xj [⟨[(ii (wr ((wr ((wr (aD*(faV (wr aA)).a))+(wr ((wr (aM*(faV (wr aA)).d))+(wr (aN*(faV (wr aA)).g))))))+aG))),(ii (wr ((wr ((wr (aD*(faV (wr aA)).b))+(wr ((wr (aM*(faV (wr aA)).e))+(wr (aN*(faV (wr aA)).h))))))+aH))),(ii (wr ((wr ((wr (aD*(faV (wr aA)).c))+(wr ((wr (aM*(faV (wr aA)).f))+(wr (aN*(faV (wr aA)).i))))))+aF)))],34,none⟩] 0,1,[],true⟩,[],.leaf⟩ (sl Jf 8 [] ⟨[2],[],[some [4]],[]⟩ ⟨[],[],[]⟩ [] (ww o0 nn)) rfl (by kernel_rfl)))
theorem w8o (aA:Int) (aG:Int) (aH:Int) (aF:Int) (aD:Int) (aM:Int) (aN:Int) (n:Nat) (vs:List AVal) (h:Zo (x1h aA aG aH aF aD aM aN) n (z4g aA aG aH aF aD aM aN)=.ret vs):Ws prog (Zz prog 82) (Zj prog 82 [(.agg [(.int .u8 aA),(.int .i64 aG),(.int .i64 aH),(.int .i64 aF)]),(.agg [(.int .i64 aD),(.int .i64 aM),(.int .i64 aN)])] true []) vs:=by have:=Zk (x8x aA aG aH aF aD aM aN) n _ (x1i aA aG aH aF aD aM aN);rwa [h] at this
inductive fnmS where
 | h0 (v4:Int)
def fnmC (aA:Int) (aG:Int) (aH:Int) (aF:Int) (aY:Int) (aZ:Int) (bG:Int) (bH:Int) (bI:Int):fnmS→Cfg
 | .h0 v4=>⟨⟨13,0,true⟩,none,(Zm prog 104 [1,0,1,0,0] 0),none,(Zz prog 5),⟨Yx [(1,(.ptr 0 0)),(4,(.int .u8 v4))],Xj [⟨[(ii aA),(ii aG),(ii aH),(ii aF),(ii aY),(ii aZ),(ii bG),(ii bH),(ii bI)],130,none⟩] 0,1,[],true⟩,[],.leaf⟩
def fnmN0 :List (Option (List Nat)):=[some [1,4]]
def fnmM0 :List (Option (List Nat)):=[]
def z3j (aA:Int) (aG:Int) (aH:Int) (aF:Int) (aY:Int) (aZ:Int) (bG:Int) (bH:Int) (bI:Int):fnmS→Ya fnmS
 | .h0 v4=>(bif (decide (v4<24)) then (bif (Yt v4) then (bif ((((faV v4).a == aA)&&(((faV v4).b == aG)&&(((faV v4).c == aH)&&true)))&&((((faV v4).d == aF)&&(((faV v4).e == aY)&&(((faV v4).f == aZ)&&true)))&&((((faV v4).g == bG)&&(((faV v4).h == bH)&&(((faV v4).i == bI)&&true)))&&true))) then (.ret [(.int .u8 v4)]) else (.to (.h0 (wrap IntKind.u8 (v4+1))))) else .stuck) else (.ret [(.int .u8 0)]))
def y5t (aA:Int) (aG:Int) (aH:Int) (aF:Int) (aY:Int) (aZ:Int) (bG:Int) (bH:Int) (bI:Int):Ya fnmS:=(.to (.h0 0))
theorem w0r (aA:Int) (aG:Int) (aH:Int) (aF:Int) (aY:Int) (aZ:Int) (bG:Int) (bH:Int) (bI:Int): ∀s,Yh prog (Zz prog 104) (fnmC aA aG aH aF aY aZ bG bH bI) (fnmC aA aG aH aF aY aZ bG bH bI s) (z3j aA aG aH aF aY aZ bG bH bI s)
 | .h0 v4=>(lb (fun k0=>(lo fun aI=>(lb (fun k1=>(lr 13 104 [1,0,1,0,0,1,1,0,0,1,1,0,0] 1 5 [(2,(.int .u8 v4))] (sl Jf 22 [] ⟨[],[],[some [2]],[]⟩ ⟨[],[],[]⟩ (bl 2 3) (tt k1 (ww aI (tt k0 nn)))))) (fun k1=>(sl Jf 24 [] ⟨[0],[],fnmN0,fnmM0⟩ ⟨[],[],[]⟩ (bl 2 1) (tt k1 (ww aI (tt k0 nn)))))))) (fun k0=>(lr 13 3 [1,1,1,1,1,1,1,1,0] 1 5 [(2,(.int .u8 0))] (sl Jf 11 [] ⟨[],[],[some [2]],[]⟩ ⟨[],[],[]⟩ [false] (tt k0 nn)))))
theorem x3z (aA:Int) (aG:Int) (aH:Int) (aF:Int) (aY:Int) (aZ:Int) (bG:Int) (bH:Int) (bI:Int):Yh prog (Zz prog 104) (fnmC aA aG aH aF aY aZ bG bH bI) (Zj prog 104 [(.agg [(.int .i64 aA),(.int .i64 aG),(.int .i64 aH),(.int .i64 aF),(.int .i64 aY),(.int .i64 aZ),(.int .i64 bG),(.int .i64 bH),(.int .i64 bI)])] true []) (y5t aA aG aH aF aY aZ bG bH bI):=(sl Jf 12 [] ⟨[0],[],fnmN0,fnmM0⟩ ⟨[],[],[]⟩ [] nn)
theorem v1d (aA:Int) (aG:Int) (aH:Int) (aF:Int) (aY:Int) (aZ:Int) (bG:Int) (bH:Int) (bI:Int) (n:Nat) (vs:List AVal) (h:Zo (z3j aA aG aH aF aY aZ bG bH bI) n (y5t aA aG aH aF aY aZ bG bH bI)=.ret vs):Ws prog (Zz prog 104) (Zj prog 104 [(.agg [(.int .i64 aA),(.int .i64 aG),(.int .i64 aH),(.int .i64 aF),(.int .i64 aY),(.int .i64 aZ),(.int .i64 bG),(.int .i64 bH),(.int .i64 bI)])] true []) vs:=by have:=Zk (w0r aA aG aH aF aY aZ bG bH bI) n _ (x3z aA aG aH aF aY aZ bG bH bI);rwa [h] at this
inductive rtuS where
 | h0 (v3:Int)
def rtuC (aA:Int) (aG:Int) (aH:Int) (aF:Int) (aY:Int) (aZ:Int) (bG:Int) (bH:Int) (bI:Int):rtuS→Cfg
 | .h0 v3=>⟨⟨13,0,true⟩,none,(Zm prog 81 [1,0,1,0,0] 0),none,(Zz prog 5),⟨Yx [(1,(.ptr 0 0)),(3,(ii v3))],Xj [⟨[(ii aA),(ii aG),(ii aH),(ii aF),(ii aY),(ii aZ),(ii bG),(ii bH),(ii bI)],130,none⟩] 0,1,[],true⟩,[],.leaf⟩
def rtuN0 :List (Option (List Nat)):=[some [1,3]]
def rtuM0 :List (Option (List Nat)):=[]
def z2r (aA:Int) (aG:Int) (aH:Int) (aF:Int) (aY:Int) (aZ:Int) (bG:Int) (bH:Int) (bI:Int):rtuS→Ya rtuS
 | .h0 v3=>(bif (decide (v3<24)) then (bif (Yt v3) then (bif ((((faV v3).a == aA)&&(((faV v3).b == aG)&&(((faV v3).c == aH)&&true)))&&((((faV v3).d == aF)&&(((faV v3).e == aY)&&(((faV v3).f == aZ)&&true)))&&((((faV v3).g == bG)&&(((faV v3).h == bH)&&(((faV v3).i == bI)&&true)))&&true))) then (.ret [(.int .i64 v3)]) else (.to (.h0 (wrap .i64 (v3+1))))) else .stuck) else (.ret [(.int .i64 (-1))]))
def y4s (aA:Int) (aG:Int) (aH:Int) (aF:Int) (aY:Int) (aZ:Int) (bG:Int) (bH:Int) (bI:Int):Ya rtuS:=(.to (.h0 0))
theorem x8k (aA:Int) (aG:Int) (aH:Int) (aF:Int) (aY:Int) (aZ:Int) (bG:Int) (bH:Int) (bI:Int): ∀s,Yh prog (Zz prog 81) (rtuC aA aG aH aF aY aZ bG bH bI) (rtuC aA aG aH aF aY aZ bG bH bI s) (z2r aA aG aH aF aY aZ bG bH bI s)
 | .h0 v3=>(lb (fun k0=>(lo fun aI=>(lb (fun k1=>(lr 13 81 [1,0,1,0,0,1,0,0,1,0,0] 1 5 [(2,(ii v3))] (sl Jf 18 [] ⟨[],[],[some [2]],[]⟩ ⟨[],[],[]⟩ (bl 2 3) (tt k1 (ww aI (tt k0 nn)))))) (fun k1=>(sl Jf 21 [] ⟨[0],[],rtuN0,rtuM0⟩ ⟨[],[],[]⟩ (bl 2 1) (tt k1 (ww aI (tt k0 nn)))))))) (fun k0=>(lr 13 3 [1,1,1,1,1,1,1,1,0] 1 5 [(2,(ii (-1)))] (sl Jf 12 [] ⟨[],[],[some [2]],[]⟩ ⟨[],[],[]⟩ [false] (tt k0 nn)))))
theorem x0t (aA:Int) (aG:Int) (aH:Int) (aF:Int) (aY:Int) (aZ:Int) (bG:Int) (bH:Int) (bI:Int):Yh prog (Zz prog 81) (rtuC aA aG aH aF aY aZ bG bH bI) (Zj prog 81 [(.agg [(.int .i64 aA),(.int .i64 aG),(.int .i64 aH),(.int .i64 aF),(.int .i64 aY),(.int .i64 aZ),(.int .i64 bG),(.int .i64 bH),(.int .i64 bI)])] true []) (y4s aA aG aH aF aY aZ bG bH bI):=(sl Jf 12 [] ⟨[0],[],rtuN0,rtuM0⟩ ⟨[],[],[]⟩ [] nn)
theorem w8a (aA:Int) (aG:Int) (aH:Int) (aF:Int) (aY:Int) (aZ:Int) (bG:Int) (bH:Int) (bI:Int) (n:Nat) (vs:List AVal) (h:Zo (z2r aA aG aH aF aY aZ bG bH bI) n (y4s aA aG aH aF aY aZ bG bH bI)=.ret vs):Ws prog (Zz prog 81) (Zj prog 81 [(.agg [(.int .i64 aA),(.int .i64 aG),(.int .i64 aH),(.int .i64 aF),(.int .i64 aY),(.int .i64 aZ),(.int .i64 bG),(.int .i64 bH),(.int .i64 bI)])] true []) vs:=by have:=Zk (x8k aA aG aH aF aY aZ bG bH bI) n _ (x0t aA aG aH aF aY aZ bG bH bI);rwa [h] at this
def w3 (p q r:Int):Int:=wrap .i64 (p+q+r)
def w4 (p q r s:Int):Int:=wrap .i64 (p+q+r+s)
theorem wll (p q r:Int):wrap .i64 (wrap .i64 (wrap .i64 p+wrap .i64 q)+wrap .i64 r)=w3 p q r:=by unfold w3;simp only [w64];omega
theorem wrr (p q r:Int):wrap .i64 (wrap .i64 p+wrap .i64 (wrap .i64 q+wrap .i64 r))=w3 p q r:=by unfold w3;simp only [w64];omega
theorem w3s (p q r s:Int):wrap .i64 (w3 p q r+s)=w4 p q r s:=by unfold w3 w4;simp only [w64];omega
def fiV (t a b c x y z:Int):R3:=⟨w4 (x*(faV t).a) (y*(faV t).d) (z*(faV t).g) a,w4 (x*(faV t).b) (y*(faV t).e) (z*(faV t).h) b,w4 (x*(faV t).c) (y*(faV t).f) (z*(faV t).i) c⟩
def z0b (t a b c x y z:Int):Bool:=Yt t
theorem z9m {t:Int} (h:Yt t=true):wrap .i64 t=t:=by have ht:0≤t∧t<24:=As h;exact wrap_t (by omega)
theorem u0a (t a b c x y z:Int) (h:z0b t a b c x y z=true): ∃N,Zo (x4c t a b c x y z) N (z5q t a b c x y z)=.ret [ag3 (fiV t a b c x y z)]:=⟨0,by
 show z5q t a b c x y z=_;unfold z5q fiV ag3;rw [Zr (show Yt t=true from h)];simp only [wll,w3s]⟩
theorem v7k (t a b c x y z:Int) (h:z0b t a b c x y z=true): ∃N,Zo (x1h t a b c x y z) N (z4g t a b c x y z)=.ret [ag3 (fiV t a b c x y z)]:=⟨0,by
 show z4g t a b c x y z=_;unfold z4g fiV ag3;rw [z9m (show Yt t=true from h),Zr (show Yt t=true from h)];simp only [wrr,w3s]⟩
def fFim :List AVal→Option (AVal×Bool)
 | [.agg [.int .u8 t,.int .i64 a,.int .i64 b,.int .i64 c],.agg [.int .i64 x,.int .i64 y,.int .i64 z]]=>some (ag3 (fiV t a b c x y z),z0b t a b c x y z)
 | _=>none
theorem u1u {S:Specs} (hS:Zw prog S):Zw prog (S.with fimN fFim):=fOne hS (by kernel_rfl) fun args v h=>by
 unfold fFim at h;split at h
 ·rename_i t a b c x y z;simp only [Ab,Aa] at h;obtain ⟨rfl,ho⟩:=h;obtain ⟨N,hN⟩:=u0a t a b c x y z ho;exact ⟨_,_,.cons (.refl _) (.cons (.refl _) .nil),rfl,v1i t a b c x y z N _ hN,5,rfl⟩
 ·cases h
theorem u0s {S:Specs} (hS:Zw prog S):Zw prog (S.with rmgN fFim):=fOne hS (by kernel_rfl) fun args v h=>by
 unfold fFim at h;split at h
 ·rename_i t a b c x y z;simp only [Ab,Aa] at h;obtain ⟨rfl,ho⟩:=h;obtain ⟨N,hN⟩:=v7k t a b c x y z ho;exact ⟨_,_,.cons (.refl _) (.cons (.refl _) .nil),rfl,w8o t a b c x y z N _ hN,5,rfl⟩
 ·cases h
def eq9 (v:R9) (a b c d e f g h i:Int):Bool:=((v.a == a)&&((v.b == b)&&((v.c == c)&&true)))&&(((v.d == d)&&((v.e == e)&&((v.f == f)&&true)))&&(((v.g == g)&&((v.h == h)&&((v.i == i)&&true)))&&true))
def v9u (dd:Int):Nat→Nat→Int→Int→Int→Int→Int→Int→Int→Int→Int→Int
 | 0,_,_,_,_,_,_,_,_,_,_=>dd
 | n+1,k,a,b,c,d,e,f,g,h,i=>bif eq9 (faV (k:Int)) a b c d e f g h i then (k:Int) else v9u dd n (k+1) a b c d e f g h i
def fnV (a b c d e f g h i:Int):Int:=v9u 0 24 0 a b c d e f g h i
def rtV (a b c d e f g h i:Int):Int:=v9u (-1) 24 0 a b c d e f g h i
theorem v5k (a b c d e f g h i:Int): ∀(n k:Nat),k+n=24→ ∃N,Zo (z3j a b c d e f g h i) N (.to (.h0 (k:Int)))=.ret [.int .u8 (v9u 0 n k a b c d e f g h i)]
 | 0,k,hk=>⟨1,by
  rw [Zv];unfold z3j;simp only [];rw [dlt_f (by omega)];rfl⟩
 | n+1,k,hk=>by
  have w2:wrap .u8 ((k:Int)+1)=((k+1:Nat):Int):=wu8 _ (by omega);have ho:Yt (k:Int)=true:=Ae (by omega);have es:z3j a b c d e f g h i (.h0 (k:Int))=bif eq9 (faV (k:Int)) a b c d e f g h i then .ret [.int .u8 (k:Int)] else .to (.h0 ((k+1:Nat):Int)):=by unfold z3j eq9;simp only [w2];rw [dlt_t (by omega),Ag,Zr ho]
  rw [v9u];cases hq:eq9 (faV (k:Int)) a b c d e f g h i with
  | true=>exact ⟨1,by rw [Zv,es,hq];rfl⟩
  | false=>obtain ⟨N,hN⟩:=v5k a b c d e f g h i n (k+1) (by omega);exact ⟨N+1,by rw [Zv,es,hq,Ad,Ad,hN]⟩
theorem v9w (a b c d e f g h i:Int) (_:True): ∃N,Zo (z3j a b c d e f g h i) N (y5t a b c d e f g h i)=.ret [.int .u8 (fnV a b c d e f g h i)]:=v5k a b c d e f g h i 24 0 (by omega)
theorem v3h (a b c d e f g h i:Int): ∀(n k:Nat),k+n=24→ ∃N,Zo (z2r a b c d e f g h i) N (.to (.h0 (k:Int)))=.ret [.int .i64 (v9u (-1) n k a b c d e f g h i)]
 | 0,k,hk=>⟨1,by
  rw [Zv];unfold z2r;simp only [];rw [dlt_f (by omega)];rfl⟩
 | n+1,k,hk=>by
  have w2:wrap .i64 ((k:Int)+1)=((k+1:Nat):Int):=wrap_t (by omega);have ho:Yt (k:Int)=true:=Ae (by omega);have es:z2r a b c d e f g h i (.h0 (k:Int))=bif eq9 (faV (k:Int)) a b c d e f g h i then .ret [.int .i64 (k:Int)] else .to (.h0 ((k+1:Nat):Int)):=by unfold z2r eq9;simp only [w2];rw [dlt_t (by omega),Ag,Zr ho]
  rw [v9u];cases hq:eq9 (faV (k:Int)) a b c d e f g h i with
  | true=>exact ⟨1,by rw [Zv,es,hq];rfl⟩
  | false=>obtain ⟨N,hN⟩:=v3h a b c d e f g h i n (k+1) (by omega);exact ⟨N+1,by rw [Zv,es,hq,Ad,Ad,hN]⟩
theorem v6v (a b c d e f g h i:Int) (_:True): ∃N,Zo (z2r a b c d e f g h i) N (y4s a b c d e f g h i)=.ret [.int .i64 (rtV a b c d e f g h i)]:=v3h a b c d e f g h i 24 0 (by omega)
def fFnm :List AVal→Option (AVal×Bool)
 | [.agg [.int .i64 a,.int .i64 b,.int .i64 c,.int .i64 d,.int .i64 e,.int .i64 f,.int .i64 g,.int .i64 h,.int .i64 i]]=>some (.int .u8 (fnV a b c d e f g h i),true)
 | _=>none
def fRtu :List AVal→Option (AVal×Bool)
 | [.agg [.int .i64 a,.int .i64 b,.int .i64 c,.int .i64 d,.int .i64 e,.int .i64 f,.int .i64 g,.int .i64 h,.int .i64 i]]=>some (.int .i64 (rtV a b c d e f g h i),true)
 | _=>none
theorem u1s {S:Specs} (hS:Zw prog S):Zw prog (S.with fnmN fFnm):=fOne hS (by kernel_rfl) fun args v hx=>by
 unfold fFnm at hx;split at hx
 ·rename_i a b c d e f g h i;simp only [Ab,Aa] at hx;obtain ⟨rfl,ho⟩:=hx;obtain ⟨N,hN⟩:=v9w a b c d e f g h i ho;exact ⟨_,_,.cons (.refl _) .nil,rfl,v1d a b c d e f g h i N _ hN,5,rfl⟩
 ·cases hx
theorem u0l {S:Specs} (hS:Zw prog S):Zw prog (S.with rtuN fRtu):=fOne hS (by kernel_rfl) fun args v hx=>by
 unfold fRtu at hx;split at hx
 ·rename_i a b c d e f g h i;simp only [Ab,Aa] at hx;obtain ⟨rfl,ho⟩:=hx;obtain ⟨N,hN⟩:=v6v a b c d e f g h i ho;exact ⟨_,_,.cons (.refl _) .nil,rfl,w8a a b c d e f g h i N _ hN,5,rfl⟩
 ·cases hx
def SzS9 :Specs:=(((SzS8.with fimN fFim).with rmgN fFim).with fnmN fFnm).with rtuN fRtu
theorem z7d :Zw prog SzS9:=u0l (u1s (u0s (u1u Jf)))
inductive fwiS where
def fwiC (aA:Int) (aG:Int) (aH:Int) (aF:Int) (aD:Int) (aM:Int) (aN:Int) (aS:Int):fwiS→Cfg
 :=nofun
def x3u (aA:Int) (aG:Int) (aH:Int) (aF:Int) (aD:Int) (aM:Int) (aN:Int) (aS:Int):fwiS→Ya fwiS
 :=nofun
def z5l (aA:Int) (aG:Int) (aH:Int) (aF:Int) (aD:Int) (aM:Int) (aN:Int) (aS:Int):Ya fwiS:=(bif (Yt aA) then (bif (Yt aD) then (bif (z0b aD aM aN aS aG aH aF) then (.ret [(.agg [(.int .u8 (fnV (wrap .i64 ((wrap .i64 ((wrap .i64 ((faV aA).a *(faV aD).a))+(wrap .i64 ((faV aA).b *(faV aD).d))))+(wrap .i64 ((faV aA).c *(faV aD).g)))) (wrap .i64 ((wrap .i64 ((wrap .i64 ((faV aA).a *(faV aD).b))+(wrap .i64 ((faV aA).b *(faV aD).e))))+(wrap .i64 ((faV aA).c *(faV aD).h)))) (wrap .i64 ((wrap .i64 ((wrap .i64 ((faV aA).a *(faV aD).c))+(wrap .i64 ((faV aA).b *(faV aD).f))))+(wrap .i64 ((faV aA).c *(faV aD).i)))) (wrap .i64 ((wrap .i64 ((wrap .i64 ((faV aA).d *(faV aD).a))+(wrap .i64 ((faV aA).e *(faV aD).d))))+(wrap .i64 ((faV aA).f *(faV aD).g)))) (wrap .i64 ((wrap .i64 ((wrap .i64 ((faV aA).d *(faV aD).b))+(wrap .i64 ((faV aA).e *(faV aD).e))))+(wrap .i64 ((faV aA).f *(faV aD).h)))) (wrap .i64 ((wrap .i64 ((wrap .i64 ((faV aA).d *(faV aD).c))+(wrap .i64 ((faV aA).e *(faV aD).f))))+(wrap .i64 ((faV aA).f *(faV aD).i)))) (wrap .i64 ((wrap .i64 ((wrap .i64 ((faV aA).g *(faV aD).a))+(wrap .i64 ((faV aA).h *(faV aD).d))))+(wrap .i64 ((faV aA).i *(faV aD).g)))) (wrap .i64 ((wrap .i64 ((wrap .i64 ((faV aA).g *(faV aD).b))+(wrap .i64 ((faV aA).h *(faV aD).e))))+(wrap .i64 ((faV aA).i *(faV aD).h)))) (wrap .i64 ((wrap .i64 ((wrap .i64 ((faV aA).g *(faV aD).c))+(wrap .i64 ((faV aA).h *(faV aD).f))))+(wrap .i64 ((faV aA).i *(faV aD).i)))))),(.int .i64 (fiV aD aM aN aS aG aH aF).a),(.int .i64 (fiV aD aM aN aS aG aH aF).b),(.int .i64 (fiV aD aM aN aS aG aH aF).c)])]) else .stuck) else .stuck) else .stuck)
theorem w0o (aA:Int) (aG:Int) (aH:Int) (aF:Int) (aD:Int) (aM:Int) (aN:Int) (aS:Int): ∀s,Yh prog (Zz prog 78) (fwiC aA aG aH aF aD aM aN aS) (fwiC aA aG aH aF aD aM aN aS s) (x3u aA aG aH aF aD aM aN aS s)
 :=nofun
theorem x3v (aA:Int) (aG:Int) (aH:Int) (aF:Int) (aD:Int) (aM:Int) (aN:Int) (aS:Int):Yh prog (Zz prog 78) (fwiC aA aG aH aF aD aM aN aS) (Zj prog 78 [(.agg [(.int .u8 aA),(.int .i64 aG),(.int .i64 aH),(.int .i64 aF)]),(.agg [(.int .u8 aD),(.int .i64 aM),(.int .i64 aN),(.int .i64 aS)])] true []) (z5l aA aG aH aF aD aM aN aS):=(lo fun o0=>(lo fun o1=>(lo fun o2=>(Zf ⟨⟨32,0,true⟩,none,(Zm prog 3 [1,1,1,1,1,1,1,1,0] 1),none,(Zz prog 78),⟨Yx [(4,(.ptr 0 0))],Xj [⟨[(.int .u8 (fnV (wr ((wr ((wr ((faV aA).a *(faV aD).a))+(wr ((faV aA).b *(faV aD).d))))+(wr ((faV aA).c *(faV aD).g)))) (wr ((wr ((wr ((faV aA).a *(faV aD).b))+(wr ((faV aA).b *(faV aD).e))))+(wr ((faV aA).c *(faV aD).h)))) (wr ((wr ((wr ((faV aA).a *(faV aD).c))+(wr ((faV aA).b *(faV aD).f))))+(wr ((faV aA).c *(faV aD).i)))) (wr ((wr ((wr ((faV aA).d *(faV aD).a))+(wr ((faV aA).e *(faV aD).d))))+(wr ((faV aA).f *(faV aD).g)))) (wr ((wr ((wr ((faV aA).d *(faV aD).b))+(wr ((faV aA).e *(faV aD).e))))+(wr ((faV aA).f *(faV aD).h)))) (wr ((wr ((wr ((faV aA).d *(faV aD).c))+(wr ((faV aA).e *(faV aD).f))))+(wr ((faV aA).f *(faV aD).i)))) (wr ((wr ((wr ((faV aA).g *(faV aD).a))+(wr ((faV aA).h *(faV aD).d))))+(wr ((faV aA).i *(faV aD).g)))) (wr ((wr ((wr ((faV aA).g *(faV aD).b))+(wr ((faV aA).h *(faV aD).e))))+(wr ((faV aA).i *(faV aD).h)))) (wr ((wr ((wr ((faV aA).g *(faV aD).c))+(wr ((faV aA).h *(faV aD).f))))+(wr ((faV aA).i *(faV aD).i)))))),(ii (fiV aD aM aN aS aG aH aF).a),(ii (fiV aD aM aN aS aG aH aF).b),(ii (fiV aD aM aN aS aG aH aF).c)],36,none⟩] 0,1,[],true⟩,[],.leaf⟩ (sl z7d 87 [] ⟨[2],[],[some [4]],[]⟩ ⟨[],[],[]⟩ [true,false,false,true,true,false,true,false,true,true,true,false,true,true,false,false] (ww o2 (ww o1 (ww o0 nn)))) rfl (by kernel_rfl)))))
theorem v1a (aA:Int) (aG:Int) (aH:Int) (aF:Int) (aD:Int) (aM:Int) (aN:Int) (aS:Int) (n:Nat) (vs:List AVal) (h:Zo (x3u aA aG aH aF aD aM aN aS) n (z5l aA aG aH aF aD aM aN aS)=.ret vs):Ws prog (Zz prog 78) (Zj prog 78 [(.agg [(.int .u8 aA),(.int .i64 aG),(.int .i64 aH),(.int .i64 aF)]),(.agg [(.int .u8 aD),(.int .i64 aM),(.int .i64 aN),(.int .i64 aS)])] true []) vs:=by have:=Zk (w0o aA aG aH aF aD aM aN aS) n _ (x3v aA aG aH aF aD aM aN aS);rwa [h] at this
inductive rwtS where
def rwtC (aA:Int) (aG:Int) (aH:Int) (aF:Int) (aD:Int) (aM:Int) (aN:Int) (aS:Int):rwtS→Cfg
 :=nofun
def x0r (aA:Int) (aG:Int) (aH:Int) (aF:Int) (aD:Int) (aM:Int) (aN:Int) (aS:Int):rwtS→Ya rwtS
 :=nofun
def z3x (aA:Int) (aG:Int) (aH:Int) (aF:Int) (aD:Int) (aM:Int) (aN:Int) (aS:Int):Ya rwtS:=(bif ((fkV aA aG aH aF) != 0) then (.ret [(.agg [(.int .u8 0),(.int .i64 0),(.int .i64 0),(.int .i64 0)]),(.int .i64 (fkV aA aG aH aF))]) else (bif ((fkV aD aM aN aS) != 0) then (.ret [(.agg [(.int .u8 0),(.int .i64 0),(.int .i64 0),(.int .i64 0)]),(.int .i64 (fkV aD aM aN aS))]) else (bif (Yt (wrap .i64 aA)) then (bif (Yt (wrap .i64 aD)) then (bif (z0b aD aM aN aS aG aH aF) then (bif ((fkV (wrap IntKind.u8 (rtV (wrap .i64 ((wrap .i64 ((faV (wrap .i64 aA)).a *(faV (wrap .i64 aD)).a))+(wrap .i64 ((wrap .i64 ((faV (wrap .i64 aA)).b *(faV (wrap .i64 aD)).d))+(wrap .i64 ((faV (wrap .i64 aA)).c *(faV (wrap .i64 aD)).g)))))) (wrap .i64 ((wrap .i64 ((faV (wrap .i64 aA)).a *(faV (wrap .i64 aD)).b))+(wrap .i64 ((wrap .i64 ((faV (wrap .i64 aA)).b *(faV (wrap .i64 aD)).e))+(wrap .i64 ((faV (wrap .i64 aA)).c *(faV (wrap .i64 aD)).h)))))) (wrap .i64 ((wrap .i64 ((faV (wrap .i64 aA)).a *(faV (wrap .i64 aD)).c))+(wrap .i64 ((wrap .i64 ((faV (wrap .i64 aA)).b *(faV (wrap .i64 aD)).f))+(wrap .i64 ((faV (wrap .i64 aA)).c *(faV (wrap .i64 aD)).i)))))) (wrap .i64 ((wrap .i64 ((faV (wrap .i64 aA)).d *(faV (wrap .i64 aD)).a))+(wrap .i64 ((wrap .i64 ((faV (wrap .i64 aA)).e *(faV (wrap .i64 aD)).d))+(wrap .i64 ((faV (wrap .i64 aA)).f *(faV (wrap .i64 aD)).g)))))) (wrap .i64 ((wrap .i64 ((faV (wrap .i64 aA)).d *(faV (wrap .i64 aD)).b))+(wrap .i64 ((wrap .i64 ((faV (wrap .i64 aA)).e *(faV (wrap .i64 aD)).e))+(wrap .i64 ((faV (wrap .i64 aA)).f *(faV (wrap .i64 aD)).h)))))) (wrap .i64 ((wrap .i64 ((faV (wrap .i64 aA)).d *(faV (wrap .i64 aD)).c))+(wrap .i64 ((wrap .i64 ((faV (wrap .i64 aA)).e *(faV (wrap .i64 aD)).f))+(wrap .i64 ((faV (wrap .i64 aA)).f *(faV (wrap .i64 aD)).i)))))) (wrap .i64 ((wrap .i64 ((faV (wrap .i64 aA)).g *(faV (wrap .i64 aD)).a))+(wrap .i64 ((wrap .i64 ((faV (wrap .i64 aA)).h *(faV (wrap .i64 aD)).d))+(wrap .i64 ((faV (wrap .i64 aA)).i *(faV (wrap .i64 aD)).g)))))) (wrap .i64 ((wrap .i64 ((faV (wrap .i64 aA)).g *(faV (wrap .i64 aD)).b))+(wrap .i64 ((wrap .i64 ((faV (wrap .i64 aA)).h *(faV (wrap .i64 aD)).e))+(wrap .i64 ((faV (wrap .i64 aA)).i *(faV (wrap .i64 aD)).h)))))) (wrap .i64 ((wrap .i64 ((faV (wrap .i64 aA)).g *(faV (wrap .i64 aD)).c))+(wrap .i64 ((wrap .i64 ((faV (wrap .i64 aA)).h *(faV (wrap .i64 aD)).f))+(wrap .i64 ((faV (wrap .i64 aA)).i *(faV (wrap .i64 aD)).i)))))))) (fiV aD aM aN aS aG aH aF).a (fiV aD aM aN aS aG aH aF).b (fiV aD aM aN aS aG aH aF).c) != 0) then (.ret [(.agg [(.int .u8 0),(.int .i64 0),(.int .i64 0),(.int .i64 0)]),(.int .i64 16)]) else (.ret [(.agg [(.int .u8 (wrap IntKind.u8 (rtV (wrap .i64 ((wrap .i64 ((faV (wrap .i64 aA)).a *(faV (wrap .i64 aD)).a))+(wrap .i64 ((wrap .i64 ((faV (wrap .i64 aA)).b *(faV (wrap .i64 aD)).d))+(wrap .i64 ((faV (wrap .i64 aA)).c *(faV (wrap .i64 aD)).g)))))) (wrap .i64 ((wrap .i64 ((faV (wrap .i64 aA)).a *(faV (wrap .i64 aD)).b))+(wrap .i64 ((wrap .i64 ((faV (wrap .i64 aA)).b *(faV (wrap .i64 aD)).e))+(wrap .i64 ((faV (wrap .i64 aA)).c *(faV (wrap .i64 aD)).h)))))) (wrap .i64 ((wrap .i64 ((faV (wrap .i64 aA)).a *(faV (wrap .i64 aD)).c))+(wrap .i64 ((wrap .i64 ((faV (wrap .i64 aA)).b *(faV (wrap .i64 aD)).f))+(wrap .i64 ((faV (wrap .i64 aA)).c *(faV (wrap .i64 aD)).i)))))) (wrap .i64 ((wrap .i64 ((faV (wrap .i64 aA)).d *(faV (wrap .i64 aD)).a))+(wrap .i64 ((wrap .i64 ((faV (wrap .i64 aA)).e *(faV (wrap .i64 aD)).d))+(wrap .i64 ((faV (wrap .i64 aA)).f *(faV (wrap .i64 aD)).g)))))) (wrap .i64 ((wrap .i64 ((faV (wrap .i64 aA)).d *(faV (wrap .i64 aD)).b))+(wrap .i64 ((wrap .i64 ((faV (wrap .i64 aA)).e *(faV (wrap .i64 aD)).e))+(wrap .i64 ((faV (wrap .i64 aA)).f *(faV (wrap .i64 aD)).h)))))) (wrap .i64 ((wrap .i64 ((faV (wrap .i64 aA)).d *(faV (wrap .i64 aD)).c))+(wrap .i64 ((wrap .i64 ((faV (wrap .i64 aA)).e *(faV (wrap .i64 aD)).f))+(wrap .i64 ((faV (wrap .i64 aA)).f *(faV (wrap .i64 aD)).i)))))) (wrap .i64 ((wrap .i64 ((faV (wrap .i64 aA)).g *(faV (wrap .i64 aD)).a))+(wrap .i64 ((wrap .i64 ((faV (wrap .i64 aA)).h *(faV (wrap .i64 aD)).d))+(wrap .i64 ((faV (wrap .i64 aA)).i *(faV (wrap .i64 aD)).g)))))) (wrap .i64 ((wrap .i64 ((faV (wrap .i64 aA)).g *(faV (wrap .i64 aD)).b))+(wrap .i64 ((wrap .i64 ((faV (wrap .i64 aA)).h *(faV (wrap .i64 aD)).e))+(wrap .i64 ((faV (wrap .i64 aA)).i *(faV (wrap .i64 aD)).h)))))) (wrap .i64 ((wrap .i64 ((faV (wrap .i64 aA)).g *(faV (wrap .i64 aD)).c))+(wrap .i64 ((wrap .i64 ((faV (wrap .i64 aA)).h *(faV (wrap .i64 aD)).f))+(wrap .i64 ((faV (wrap .i64 aA)).i *(faV (wrap .i64 aD)).i))))))))),(.int .i64 (fiV aD aM aN aS aG aH aF).a),(.int .i64 (fiV aD aM aN aS aG aH aF).b),(.int .i64 (fiV aD aM aN aS aG aH aF).c)]),(.int .i64 0)])) else .stuck) else .stuck) else .stuck)))
theorem x8j (aA:Int) (aG:Int) (aH:Int) (aF:Int) (aD:Int) (aM:Int) (aN:Int) (aS:Int): ∀s,Yh prog (Zz prog 49) (rwtC aA aG aH aF aD aM aN aS) (rwtC aA aG aH aF aD aM aN aS s) (x0r aA aG aH aF aD aM aN aS s)
 :=nofun
theorem x0s (aA:Int) (aG:Int) (aH:Int) (aF:Int) (aD:Int) (aM:Int) (aN:Int) (aS:Int):Yh prog (Zz prog 49) (rwtC aA aG aH aF aD aM aN aS) (Zj prog 49 [(.agg [(.int .u8 aA),(.int .i64 aG),(.int .i64 aH),(.int .i64 aF)]),(.agg [(.int .u8 aD),(.int .i64 aM),(.int .i64 aN),(.int .i64 aS)])] true []) (z3x aA aG aH aF aD aM aN aS):=(lb (fun k0=>(Zf ⟨⟨52,0,true⟩,none,(Zm prog 49 [1,0,1,0,0] 1),none,(Zz prog 10),⟨Yx [(4,(.ptr 0 0)),(5,(ii (fkV aA aG aH aF)))],Xj [⟨[(.int .u8 0),(ii 0),(ii 0),(ii 0)],36,none⟩] 0,1,[],true⟩,[],.leaf⟩ (sl z7d 23 [] ⟨[2],[],[some [4,5]],[]⟩ ⟨[],[],[]⟩ [true] (tt k0 nn)) rfl (by kernel_rfl))) (fun k0=>(lb (fun k1=>(Zf ⟨⟨52,0,true⟩,none,(Zm prog 49 [1,1,0,1,0,0] 1),none,(Zz prog 10),⟨Yx [(4,(.ptr 0 0)),(5,(ii (fkV aD aM aN aS)))],Xj [⟨[(.int .u8 0),(ii 0),(ii 0),(ii 0)],36,none⟩] 0,1,[],true⟩,[],.leaf⟩ (sl z7d 32 [] ⟨[2],[],[some [4,5]],[]⟩ ⟨[],[],[]⟩ [false,true] (tt k1 (tt k0 nn))) rfl (by kernel_rfl))) (fun k1=>(lo fun bF=>(lo fun cB=>(lo fun cJ=>(lb (fun k2=>(Zf ⟨⟨52,0,true⟩,none,(Zm prog 49 [1,1,1,1,1,1,0,1,0,0] 1),none,(Zz prog 10),⟨Yx [(4,(.ptr 0 0)),(5,(ii 16))],Xj [⟨[(.int .u8 0),(ii 0),(ii 0),(ii 0)],36,none⟩] 0,1,[],true⟩,[],.leaf⟩ (sl z7d 119 [] ⟨[2],[],[some [4,5]],[]⟩ ⟨[],[],[]⟩ [false,false,true,false,false,true,true,false,true,false,true,true,true,false,true,true,false,false,true] (tt k2 (ww cJ (ww cB (ww cB (ww cB (ww bF (tt k1 (tt k0 nn))))))))) rfl (by kernel_rfl))) (fun k2=>(Zf ⟨⟨52,0,true⟩,none,(Zm prog 3 [1,1,1,1,1,1,1,1,0] 1),none,(Zz prog 10),⟨Yx [(4,(.ptr 0 0)),(5,(ii 0))],Xj [⟨[(.int .u8 (wrap IntKind.u8 (rtV (wr ((wr ((faV (wr aA)).a *(faV (wr aD)).a))+(wr ((wr ((faV (wr aA)).b *(faV (wr aD)).d))+(wr ((faV (wr aA)).c *(faV (wr aD)).g)))))) (wr ((wr ((faV (wr aA)).a *(faV (wr aD)).b))+(wr ((wr ((faV (wr aA)).b *(faV (wr aD)).e))+(wr ((faV (wr aA)).c *(faV (wr aD)).h)))))) (wr ((wr ((faV (wr aA)).a *(faV (wr aD)).c))+(wr ((wr ((faV (wr aA)).b *(faV (wr aD)).f))+(wr ((faV (wr aA)).c *(faV (wr aD)).i)))))) (wr ((wr ((faV (wr aA)).d *(faV (wr aD)).a))+(wr ((wr ((faV (wr aA)).e *(faV (wr aD)).d))+(wr ((faV (wr aA)).f *(faV (wr aD)).g)))))) (wr ((wr ((faV (wr aA)).d *(faV (wr aD)).b))+(wr ((wr ((faV (wr aA)).e *(faV (wr aD)).e))+(wr ((faV (wr aA)).f *(faV (wr aD)).h)))))) (wr ((wr ((faV (wr aA)).d *(faV (wr aD)).c))+(wr ((wr ((faV (wr aA)).e *(faV (wr aD)).f))+(wr ((faV (wr aA)).f *(faV (wr aD)).i)))))) (wr ((wr ((faV (wr aA)).g *(faV (wr aD)).a))+(wr ((wr ((faV (wr aA)).h *(faV (wr aD)).d))+(wr ((faV (wr aA)).i *(faV (wr aD)).g)))))) (wr ((wr ((faV (wr aA)).g *(faV (wr aD)).b))+(wr ((wr ((faV (wr aA)).h *(faV (wr aD)).e))+(wr ((faV (wr aA)).i *(faV (wr aD)).h)))))) (wr ((wr ((faV (wr aA)).g *(faV (wr aD)).c))+(wr ((wr ((faV (wr aA)).h *(faV (wr aD)).f))+(wr ((faV (wr aA)).i *(faV (wr aD)).i))))))))),(ii (fiV aD aM aN aS aG aH aF).a),(ii (fiV aD aM aN aS aG aH aF).b),(ii (fiV aD aM aN aS aG aH aF).c)],36,none⟩] 0,1,[],true⟩,[],.leaf⟩ (sl z7d 120 [] ⟨[2],[],[some [4,5]],[]⟩ ⟨[],[],[]⟩ [false,false,true,false,false,true,true,false,true,false,true,true,true,false,true,true,false,false,false] (tt k2 (ww cJ (ww cB (ww cB (ww cB (ww bF (tt k1 (tt k0 nn))))))))) rfl (by kernel_rfl)))))))))))
theorem w7z (aA:Int) (aG:Int) (aH:Int) (aF:Int) (aD:Int) (aM:Int) (aN:Int) (aS:Int) (n:Nat) (vs:List AVal) (h:Zo (x0r aA aG aH aF aD aM aN aS) n (z3x aA aG aH aF aD aM aN aS)=.ret vs):Ws prog (Zz prog 49) (Zj prog 49 [(.agg [(.int .u8 aA),(.int .i64 aG),(.int .i64 aH),(.int .i64 aF)]),(.agg [(.int .u8 aD),(.int .i64 aM),(.int .i64 aN),(.int .i64 aS)])] true []) vs:=by have:=Zk (x8j aA aG aH aF aD aM aN aS) n _ (x0s aA aG aH aF aD aM aN aS);rwa [h] at this
def k9 (s t:Int):R9:=⟨w3 ((faV s).a *(faV t).a) ((faV s).b *(faV t).d) ((faV s).c *(faV t).g),w3 ((faV s).a *(faV t).b) ((faV s).b *(faV t).e) ((faV s).c *(faV t).h),w3 ((faV s).a *(faV t).c) ((faV s).b *(faV t).f) ((faV s).c *(faV t).i),w3 ((faV s).d *(faV t).a) ((faV s).e *(faV t).d) ((faV s).f *(faV t).g),w3 ((faV s).d *(faV t).b) ((faV s).e *(faV t).e) ((faV s).f *(faV t).h),w3 ((faV s).d *(faV t).c) ((faV s).e *(faV t).f) ((faV s).f *(faV t).i),w3 ((faV s).g *(faV t).a) ((faV s).h *(faV t).d) ((faV s).i *(faV t).g),w3 ((faV s).g *(faV t).b) ((faV s).h *(faV t).e) ((faV s).i *(faV t).h),w3 ((faV s).g *(faV t).c) ((faV s).h *(faV t).f) ((faV s).i *(faV t).i)⟩
def fn9 (v:R9):Int:=fnV v.a v.b v.c v.d v.e v.f v.g v.h v.i
def rt9 (v:R9):Int:=rtV v.a v.b v.c v.d v.e v.f v.g v.h v.i
def fwV (s a b c t x y z:Int):R4:=⟨fn9 (k9 s t),(fiV t x y z a b c).a,(fiV t x y z a b c).b,(fiV t x y z a b c).c⟩
def z1v (s a b c t x y z:Int):Bool:=Yt s&&Yt t
def agF (v:R4):AVal:=.agg [.int .u8 v.a,.int .i64 v.b,.int .i64 v.c,.int .i64 v.d]
theorem v9s (s a b c t x y z:Int) (h:z1v s a b c t x y z=true): ∃N,Zo (x3u s a b c t x y z) N (z5l s a b c t x y z)=.ret [agF (fwV s a b c t x y z)]:=⟨0,by
 unfold z1v at h;rw [Ac] at h;show z5l s a b c t x y z=_;unfold z5l;rw [Zr h.1,Zr h.2,Zr (show z0b t x y z a b c=true from h.2)];simp only [wll];rfl⟩
def fFwi :List AVal→Option (AVal×Bool)
 | [.agg [.int .u8 s,.int .i64 a,.int .i64 b,.int .i64 c],.agg [.int .u8 t,.int .i64 x,.int .i64 y,.int .i64 z]]=>some (agF (fwV s a b c t x y z),z1v s a b c t x y z)
 | _=>none
theorem u1q {S:Specs} (hS:Zw prog S):Zw prog (S.with fwiN fFwi):=fOne hS (by kernel_rfl) fun args v h=>by
 unfold fFwi at h;split at h
 ·rename_i s a b c t x y z;simp only [Ab,Aa] at h;obtain ⟨rfl,ho⟩:=h;obtain ⟨N,hN⟩:=v9s s a b c t x y z ho;exact ⟨_,_,.cons (.refl _) (.cons (.refl _) .nil),rfl,v1a s a b c t x y z N _ hN,5,rfl⟩
 ·cases h
def SzSa :Specs:=SzS9.with fwiN fFwi
theorem y1y :Zw prog SzSa:=u1q z7d
theorem w7i :((List.range 24).all fun s=>(List.range 24).all fun t=>rt9 (k9 (s:Int) (t:Int)) == fn9 (k9 (s:Int) (t:Int))&&(decide (0≤fn9 (k9 (s:Int) (t:Int)))&&decide (fn9 (k9 (s:Int) (t:Int))<24)))=true:=by kernel_rfl
theorem w2k {s t:Int} (hs:Yt s=true) (ht:Yt t=true):rt9 (k9 s t)=fn9 (k9 s t)∧0≤fn9 (k9 s t)∧fn9 (k9 s t)<24:=by
 have hs:0≤s∧s<24:=As hs;have ht:0≤t∧t<24:=As ht;obtain ⟨p,rfl⟩: ∃n:Nat,s=(n:Int):=⟨s.toNat,by omega⟩
 obtain ⟨q,rfl⟩: ∃n:Nat,t=(n:Int):=⟨t.toNat,by omega⟩
 have:=Aw.1 (Aw.1 w7i p (AN.2 (by omega))) q (AN.2 (by omega));rw [Ac,Ac,Ak,Ak,A7] at this;exact this
def Jr (s a b c t x y z:Int):Int:=bif fkV s a b c != 0 then fkV s a b c else bif fkV t x y z != 0 then fkV t x y z else bif fkV (fwV s a b c t x y z).a (fwV s a b c t x y z).b (fwV s a b c t x y z).c (fwV s a b c t x y z).d != 0 then 16 else 0
def Va (s a b c t x y z:Int):R4:=bif Jr s a b c t x y z != 0 then ⟨0,0,0,0⟩ else fwV s a b c t x y z
def Wh (s a b c t x y z:Int):Bool:=decide (0≤s)&&decide (0≤t)
theorem z6r {t x y z:Int} (h:(fkV t x y z != 0)=false) (h0:0≤t):Yt t=true:=by
 unfold fkV at h;by_cases g:24≤t
 ·rw [Ae g] at h;cases h
 ·exact Ae (by omega)
theorem v6t (s a b c t x y z:Int) (h:Wh s a b c t x y z=true): ∃N,Zo (x0r s a b c t x y z) N (z3x s a b c t x y z)=.ret [agF (Va s a b c t x y z),.int .i64 (Jr s a b c t x y z)]:=⟨0,by
 unfold Wh at h;rw [Ac,Ak,Ak] at h;show z3x s a b c t x y z=_;unfold z3x Va;unfold Jr;cases g1:fkV s a b c != 0 with
 | true=>simp only [Ag,g1];rfl
 | false=>
  cases g2:fkV t x y z != 0 with
  | true=>simp only [Ag,Ad,g2];rfl
  | false=>
   have hs:=z6r g1 h.1;have ht:=z6r g2 h.2;obtain ⟨q1,q2,q3⟩:=w2k hs ht;rw [Ad,Ad,z9m hs,z9m ht,Zr hs,Zr ht,Zr (show z0b t x y z a b c=true from ht)];simp only [wrr];have e:rtV (w3 ((faV s).a *(faV t).a) ((faV s).b *(faV t).d) ((faV s).c *(faV t).g)) (w3 ((faV s).a *(faV t).b) ((faV s).b *(faV t).e) ((faV s).c *(faV t).h)) (w3 ((faV s).a *(faV t).c) ((faV s).b *(faV t).f) ((faV s).c *(faV t).i)) (w3 ((faV s).d *(faV t).a) ((faV s).e *(faV t).d) ((faV s).f *(faV t).g)) (w3 ((faV s).d *(faV t).b) ((faV s).e *(faV t).e) ((faV s).f *(faV t).h)) (w3 ((faV s).d *(faV t).c) ((faV s).e *(faV t).f) ((faV s).f *(faV t).i)) (w3 ((faV s).g *(faV t).a) ((faV s).h *(faV t).d) ((faV s).i *(faV t).g)) (w3 ((faV s).g *(faV t).b) ((faV s).h *(faV t).e) ((faV s).i *(faV t).h)) (w3 ((faV s).g *(faV t).c) ((faV s).h *(faV t).f) ((faV s).i *(faV t).i))=fn9 (k9 s t):=q1;rw [e,wu8 _ (by omega)];simp only [Ad];show (bif fkV (fwV s a b c t x y z).a (fwV s a b c t x y z).b (fwV s a b c t x y z).c (fwV s a b c t x y z).d != 0 then _ else _)=_;cases fkV (fwV s a b c t x y z).a (fwV s a b c t x y z).b (fwV s a b c t x y z).c (fwV s a b c t x y z).d != 0 <;> rfl⟩
def fWit :List AVal→Option (AVal×Bool)
 | [.agg [.int .u8 s,.int .i64 a,.int .i64 b,.int .i64 c],.agg [.int .u8 t,.int .i64 x,.int .i64 y,.int .i64 z]]=>some (.tup [agF (Va s a b c t x y z),.int .i64 (Jr s a b c t x y z)],Wh s a b c t x y z)
 | _=>none
theorem u0k {S:Specs} (hS:Zw prog S):Zw prog (S.with rwtN fWit):=fOne hS (by kernel_rfl) fun args v h=>by
 unfold fWit at h;split at h
 ·rename_i s a b c t x y z;simp only [Ab,Aa] at h;obtain ⟨rfl,ho⟩:=h;obtain ⟨N,hN⟩:=v6t s a b c t x y z ho;exact ⟨_,_,.cons (.refl _) (.cons (.refl _) .nil),rfl,w7z s a b c t x y z N _ hN,5,rfl⟩
 ·cases h
inductive fwtS where
def fwtC (aA:Int) (aG:Int) (aH:Int) (aF:Int) (aD:Int) (aM:Int) (aN:Int) (aS:Int):fwtS→Cfg
 :=nofun
def x3s (aA:Int) (aG:Int) (aH:Int) (aF:Int) (aD:Int) (aM:Int) (aN:Int) (aS:Int):fwtS→Ya fwtS
 :=nofun
def z5k (aA:Int) (aG:Int) (aH:Int) (aF:Int) (aD:Int) (aM:Int) (aN:Int) (aS:Int):Ya fwtS:=(bif ((fkV aA aG aH aF) != 0) then (.ret [(.agg [(.int .u8 0),(.int .i64 0),(.int .i64 0),(.int .i64 0)]),(.int .i64 (fkV aA aG aH aF))]) else (bif ((fkV aD aM aN aS) != 0) then (.ret [(.agg [(.int .u8 0),(.int .i64 0),(.int .i64 0),(.int .i64 0)]),(.int .i64 (fkV aD aM aN aS))]) else (bif (z1v aA aG aH aF aD aM aN aS) then (bif ((fkV (fwV aA aG aH aF aD aM aN aS).a (fwV aA aG aH aF aD aM aN aS).b (fwV aA aG aH aF aD aM aN aS).c (fwV aA aG aH aF aD aM aN aS).d) != 0) then (.ret [(.agg [(.int .u8 0),(.int .i64 0),(.int .i64 0),(.int .i64 0)]),(.int .i64 16)]) else (.ret [(.agg [(.int .u8 (fwV aA aG aH aF aD aM aN aS).a),(.int .i64 (fwV aA aG aH aF aD aM aN aS).b),(.int .i64 (fwV aA aG aH aF aD aM aN aS).c),(.int .i64 (fwV aA aG aH aF aD aM aN aS).d)]),(.int .i64 0)])) else .stuck)))
theorem w0n (aA:Int) (aG:Int) (aH:Int) (aF:Int) (aD:Int) (aM:Int) (aN:Int) (aS:Int): ∀s,Yh prog (Zz prog 48) (fwtC aA aG aH aF aD aM aN aS) (fwtC aA aG aH aF aD aM aN aS s) (x3s aA aG aH aF aD aM aN aS s)
 :=nofun
theorem x3t (aA:Int) (aG:Int) (aH:Int) (aF:Int) (aD:Int) (aM:Int) (aN:Int) (aS:Int):Yh prog (Zz prog 48) (fwtC aA aG aH aF aD aM aN aS) (Zj prog 48 [(.agg [(.int .u8 aA),(.int .i64 aG),(.int .i64 aH),(.int .i64 aF)]),(.agg [(.int .u8 aD),(.int .i64 aM),(.int .i64 aN),(.int .i64 aS)])] true []) (z5k aA aG aH aF aD aM aN aS):=(lb (fun k0=>(Zf ⟨⟨29,0,true⟩,none,(Zm prog 48 [1,0,1,1,0,0] 1),none,(Zz prog 10),⟨Yx [(4,(.ptr 0 0)),(5,(ii (fkV aA aG aH aF)))],Xj [⟨[(.int .u8 0),(ii 0),(ii 0),(ii 0)],36,none⟩] 0,1,[],true⟩,[],.leaf⟩ (sl y1y 27 [] ⟨[2],[],[some [4,5]],[]⟩ ⟨[],[],[]⟩ [true] (tt k0 nn)) rfl (by kernel_rfl))) (fun k0=>(lb (fun k1=>(Zf ⟨⟨29,0,true⟩,none,(Zm prog 48 [1,1,0,1,1,0,0] 1),none,(Zz prog 10),⟨Yx [(4,(.ptr 0 0)),(5,(ii (fkV aD aM aN aS)))],Xj [⟨[(.int .u8 0),(ii 0),(ii 0),(ii 0)],36,none⟩] 0,1,[],true⟩,[],.leaf⟩ (sl y1y 41 [] ⟨[2],[],[some [4,5]],[]⟩ ⟨[],[],[]⟩ [false,true] (tt k1 (tt k0 nn))) rfl (by kernel_rfl))) (fun k1=>(lo fun bF=>(lb (fun k2=>(Zf ⟨⟨29,0,true⟩,none,(Zm prog 48 [1,1,1,1,0,1,0,0] 1),none,(Zz prog 10),⟨Yx [(4,(.ptr 0 0)),(5,(ii 16))],Xj [⟨[(.int .u8 0),(ii 0),(ii 0),(ii 0)],36,none⟩] 0,1,[],true⟩,[],.leaf⟩ (sl y1y 57 [] ⟨[2],[],[some [4,5]],[]⟩ ⟨[],[],[]⟩ [false,false,true] (tt k2 (ww bF (tt k1 (tt k0 nn))))) rfl (by kernel_rfl))) (fun k2=>(Zf ⟨⟨29,0,true⟩,none,(Zm prog 3 [1,1,1,1,1,1,1,1,0] 1),none,(Zz prog 10),⟨Yx [(4,(.ptr 0 0)),(5,(ii 0))],Xj [⟨[(.int .u8 (fwV aA aG aH aF aD aM aN aS).a),(ii (fwV aA aG aH aF aD aM aN aS).b),(ii (fwV aA aG aH aF aD aM aN aS).c),(ii (fwV aA aG aH aF aD aM aN aS).d)],36,none⟩] 0,1,[],true⟩,[],.leaf⟩ (sl y1y 58 [] ⟨[2],[],[some [4,5]],[]⟩ ⟨[],[],[]⟩ [false,false,false] (tt k2 (ww bF (tt k1 (tt k0 nn))))) rfl (by kernel_rfl)))))))))
theorem v0z (aA:Int) (aG:Int) (aH:Int) (aF:Int) (aD:Int) (aM:Int) (aN:Int) (aS:Int) (n:Nat) (vs:List AVal) (h:Zo (x3s aA aG aH aF aD aM aN aS) n (z5k aA aG aH aF aD aM aN aS)=.ret vs):Ws prog (Zz prog 48) (Zj prog 48 [(.agg [(.int .u8 aA),(.int .i64 aG),(.int .i64 aH),(.int .i64 aF)]),(.agg [(.int .u8 aD),(.int .i64 aM),(.int .i64 aN),(.int .i64 aS)])] true []) vs:=by have:=Zk (w0n aA aG aH aF aD aM aN aS) n _ (x3t aA aG aH aF aD aM aN aS);rwa [h] at this
theorem v9r (s a b c t x y z:Int) (h:Wh s a b c t x y z=true): ∃N,Zo (x3s s a b c t x y z) N (z5k s a b c t x y z)=.ret [agF (Va s a b c t x y z),.int .i64 (Jr s a b c t x y z)]:=⟨0,by
 unfold Wh at h;rw [Ac,Ak,Ak] at h;show z5k s a b c t x y z=_;unfold z5k Va;unfold Jr;cases g1:fkV s a b c != 0 with
 | true=>simp only [Ag,g1];rfl
 | false=>
  cases g2:fkV t x y z != 0 with
  | true=>simp only [Ag,Ad,g2];rfl
  | false=>
   rw [Ad,Ad,Zr (show z1v s a b c t x y z=true by unfold z1v;rw [z6r g1 h.1,z6r g2 h.2];rfl)];simp only [Ad];cases fkV (fwV s a b c t x y z).a (fwV s a b c t x y z).b (fwV s a b c t x y z).c (fwV s a b c t x y z).d != 0 <;> rfl⟩
theorem u1p {S:Specs} (hS:Zw prog S):Zw prog (S.with fwtN fWit):=fOne hS (by kernel_rfl) fun args v h=>by
 unfold fWit at h;split at h
 ·rename_i s a b c t x y z;simp only [Ab,Aa] at h;obtain ⟨rfl,ho⟩:=h;obtain ⟨N,hN⟩:=v9r s a b c t x y z ho;exact ⟨_,_,.cons (.refl _) (.cons (.refl _) .nil),rfl,v0z s a b c t x y z N _ hN,5,rfl⟩
 ·cases h
def SzSb :Specs:=(SzSa.with rwtN fWit).with fwtN fWit
theorem z0k :Zw prog SzSb:=u1p (u0k y1y)
def z4 :R4:=⟨0,0,0,0⟩
def frN (x:Nod):R4:=⟨x.t,x.x,x.y,x.z⟩
def witF (f g:R4):R4×Int:=(Va f.a f.b f.c f.d g.a g.b g.c g.d,Jr f.a f.b f.c f.d g.a g.b g.c g.d)
def w7c (l:List Nod):Nat→Int→R4×Int
 | 0,_=>(z4,0)
 | k+1,i=>bif decide ((rd l i.toNat).a <0) then (frN (rd l i.toNat),0) else bif (w7c l k (rd l i.toNat).a).2 != 0 then (z4,(w7c l k (rd l i.toNat).a).2) else witF (frN (rd l i.toNat)) (w7c l k (rd l i.toNat).a).1
def Uf (l:List Nod) (i:Int):R4×Int:=w7c l (i.toNat+1) i
theorem y8a {l:List Nod} {t:Nat} (ht:okC l t=true): ∀(k m j:Nat),j≤t→j<k→j<m→w7c l k (j:Int)=w7c l m (j:Int)
 | 0,m,j,h0,h1,h2=>absurd h1 (AA _)
 | k+1,0,j,h0,h1,h2=>absurd h2 (AA _)
 | k+1,m+1,j,h0,h1,h2=>by
  have hb:=Uz ht h0;unfold w7c;rw [toNat_c];by_cases h:(rd l j).a <0
  ·rw [Ae h];rfl
  ·obtain ⟨p,hp⟩: ∃p:Nat,(rd l j).a =(p:Int):=⟨(rd l j).a.toNat,by omega⟩
   rw [hp,y8a ht k m p (by omega) (by omega) (by omega)]
theorem z4y {l:List Nod} {t j:Nat} (ht:okC l t=true) (hj:j≤t):Uf l (j:Int)=bif decide ((rd l j).a <0) then (frN (rd l j),0) else bif (Uf l (rd l j).a).2 != 0 then (z4,(Uf l (rd l j).a).2) else witF (frN (rd l j)) (Uf l (rd l j).a).1:=by
 have hb:=Uz ht hj;have e:Uf l (j:Int)=w7c l (j+1) (j:Int):=by unfold Uf;rw [toNat_c]
 rw [e,w7c,toNat_c];by_cases h:(rd l j).a <0
 ·rw [Ae h];rfl
 ·obtain ⟨p,hp⟩: ∃p:Nat,(rd l j).a =(p:Int):=⟨(rd l j).a.toNat,by omega⟩
  have e2:Uf l (p:Int)=w7c l j (p:Int):=by unfold Uf;rw [toNat_c];exact y8a ht _ _ p (by omega) (by omega) (by omega)
  rw [hp,e2]
def Yk (l:List Nod) (i:Int):R4:=(Uf l i).1
def z4x (l:List Nod) (i:Int):Int:=(Uf l i).2
def Wv (l:List Nod) (i:Int):Bool:=decide (0≤i∧i<(l.length:Int))&&(decide (l.length≤1000)&&(okC l i.toNat&&l.all fun x=>decide (0≤x.t)))
def Qx (q:Nat) (l:List Nod) (i:Int):Bool:=decide (i<(q:Int))&&Wv l i
theorem y5b {l:List Nod} (h:(l.all fun x=>decide (0≤x.t))=true) (j:Nat):0≤(rd l j).t :=by
 by_cases hj:j<l.length
 ·rw [Xf hj];exact As (Aw.1 h _ (AU hj))
 ·have:rd l j=Ym.d:=by simp [rd,List.getD,List.getElem?_eq_none (show l.length≤j by omega)]
  rw [this];exact BA 0
theorem w2e {f g:R4} (hf:0≤f.a) (hg:0≤g.a):0≤(witF f g).1.a :=by
 unfold witF;simp only [];unfold Va;cases h:Jr f.a f.b f.c f.d g.a g.b g.c g.d != 0 with
 | true=>exact BA 0
 | false=>
  unfold Jr at h;cases g1:fkV f.a f.b f.c f.d != 0 with
  | true=>rw [g1,Ag,g1] at h;cases h
  | false=>
   rw [g1,Ad] at h;cases g2:fkV g.a g.b g.c g.d != 0 with
   | true=>rw [g2,Ag,g2] at h;cases h
   | false=>exact (w2k (z6r g1 hf) (z6r g2 hg)).2.1
theorem z9y {l:List Nod} {t:Nat} (ht:okC l t=true) (hl:(l.all fun x=>decide (0≤x.t))=true): ∀(m j:Nat),j<m→j≤t→0≤(Uf l (j:Int)).1.a
 | 0,j,hm,_=>absurd hm (AA _)
 | m+1,j,hm,hj=>by
  have hb:=Uz ht hj;rw [z4y ht hj];by_cases h:(rd l j).a <0
  ·rw [Ae h];exact y5b hl j
  ·obtain ⟨p,hp⟩: ∃p:Nat,(rd l j).a =(p:Int):=⟨(rd l j).a.toNat,by omega⟩
   rw [An h,Ad,hp];cases (Uf l (p:Int)).2 != 0 with
   | true=>exact BA 0
   | false=>exact w2e (y5b hl j) (z9y ht hl m p (by omega) (by omega))
def fPlm (q:Nat):List AVal→Option (AVal×Bool)
 | [a0,.int .i64 i]=>match asL Nod a0 with
  | some (L,g,n)=>some (.tup [agF (Yk L i),.int .i64 (z4x L i)],isT Nod n g&&Qx q L i)
  | _=>none
 | _=>none
def Tpl (q:Nat):Specs:=SzSb.with plmN (fPlm q)
inductive plmS where
def plmC (l0:List Nod) (x1:Int):plmS→Cfg
 :=nofun
def x2l (l0:List Nod) (x1:Int):plmS→Ya plmS
 :=nofun
def z4w (q:Nat) (l0:List Nod) (x1:Int):Ya plmS:=(bif ((decide (0≤x1∧x1<(l0.length:Int)))&&true) then (bif (decide ((rd l0 x1.toNat).a <0)) then (.ret [(.agg [(.int .u8 (rd l0 x1.toNat).t),(.int .i64 (rd l0 x1.toNat).x),(.int .i64 (rd l0 x1.toNat).y),(.int .i64 (rd l0 x1.toNat).z)]),(.int .i64 0)]) else (bif (Qx q (cvT l0) (rd l0 x1.toNat).a) then (bif ((z4x (cvT l0) (rd l0 x1.toNat).a) != 0) then (.ret [(.agg [(.int .u8 0),(.int .i64 0),(.int .i64 0),(.int .i64 0)]),(.int .i64 (z4x (cvT l0) (rd l0 x1.toNat).a))]) else (bif (Wh (rd l0 x1.toNat).t (rd l0 x1.toNat).x (rd l0 x1.toNat).y (rd l0 x1.toNat).z (Yk (cvT l0) (rd l0 x1.toNat).a).a (Yk (cvT l0) (rd l0 x1.toNat).a).b (Yk (cvT l0) (rd l0 x1.toNat).a).c (Yk (cvT l0) (rd l0 x1.toNat).a).d) then (.ret [(.agg [(.int .u8 (Va (rd l0 x1.toNat).t (rd l0 x1.toNat).x (rd l0 x1.toNat).y (rd l0 x1.toNat).z (Yk (cvT l0) (rd l0 x1.toNat).a).a (Yk (cvT l0) (rd l0 x1.toNat).a).b (Yk (cvT l0) (rd l0 x1.toNat).a).c (Yk (cvT l0) (rd l0 x1.toNat).a).d).a),(.int .i64 (Va (rd l0 x1.toNat).t (rd l0 x1.toNat).x (rd l0 x1.toNat).y (rd l0 x1.toNat).z (Yk (cvT l0) (rd l0 x1.toNat).a).a (Yk (cvT l0) (rd l0 x1.toNat).a).b (Yk (cvT l0) (rd l0 x1.toNat).a).c (Yk (cvT l0) (rd l0 x1.toNat).a).d).b),(.int .i64 (Va (rd l0 x1.toNat).t (rd l0 x1.toNat).x (rd l0 x1.toNat).y (rd l0 x1.toNat).z (Yk (cvT l0) (rd l0 x1.toNat).a).a (Yk (cvT l0) (rd l0 x1.toNat).a).b (Yk (cvT l0) (rd l0 x1.toNat).a).c (Yk (cvT l0) (rd l0 x1.toNat).a).d).c),(.int .i64 (Va (rd l0 x1.toNat).t (rd l0 x1.toNat).x (rd l0 x1.toNat).y (rd l0 x1.toNat).z (Yk (cvT l0) (rd l0 x1.toNat).a).a (Yk (cvT l0) (rd l0 x1.toNat).a).b (Yk (cvT l0) (rd l0 x1.toNat).a).c (Yk (cvT l0) (rd l0 x1.toNat).a).d).d)]),(.int .i64 (Jr (rd l0 x1.toNat).t (rd l0 x1.toNat).x (rd l0 x1.toNat).y (rd l0 x1.toNat).z (Yk (cvT l0) (rd l0 x1.toNat).a).a (Yk (cvT l0) (rd l0 x1.toNat).a).b (Yk (cvT l0) (rd l0 x1.toNat).a).c (Yk (cvT l0) (rd l0 x1.toNat).a).d))]) else .stuck)) else .stuck)) else .stuck)
theorem x9o (l0:List Nod) (x1:Int): ∀s,Yh prog (Zz prog 27) (plmC l0 x1) (plmC l0 x1 s) (x2l l0 x1 s)
 :=nofun
theorem x2m {q:Nat} (hq:Zw prog (Tpl q)) (l0:List Nod) (x1:Int):Yh prog (Zz prog 27) (plmC l0 x1) (Zj prog 27 [(.dat l0.length (Zy l0)),(.int .i64 x1)] true []) (z4w q l0 x1):=(lo fun bC=>(lb (fun k0=>(Zf ⟨⟨42,0,true⟩,none,(Zm prog 27 [1,0,1,0,0] 1),none,(Zz prog 10),⟨Yx [(4,(.ptr 0 0)),(5,(ii 0))],Xj [⟨[(.int .u8 (rd l0 (tn x1)).t),(ii (rd l0 (tn x1)).x),(ii (rd l0 (tn x1)).y),(ii (rd l0 (tn x1)).z)],36,none⟩] 0,1,[],true⟩,[],.leaf⟩ (sl hq 26 [] ⟨[0],[],[some [4,5]],[]⟩ ⟨[],[],[]⟩ [true] (ww bC (tt k0 (ww bC nn)))) rfl (by kernel_rfl))) (fun k0=>(lo fun aI=>(lb (fun k1=>(Zf ⟨⟨42,0,true⟩,none,(Zm prog 27 [1,1,1,0,1,0,0] 1),none,(Zz prog 10),⟨Yx [(4,(.ptr 0 0)),(5,(ii (z4x (cvT l0) (rd l0 (tn x1)).a)))],Xj [⟨[(.int .u8 0),(ii 0),(ii 0),(ii 0)],36,none⟩] 0,1,[],true⟩,[],.leaf⟩ (sl hq 47 [] ⟨[0],[],[some [4,5]],[]⟩ ⟨[],[],[]⟩ [false,true] (tt k1 (pp (pp (xr l0) (xw aI)) (ww bC (tt k0 (ww bC nn)))))) rfl (by kernel_rfl))) (fun k1=>(lo fun o0=>(Zf ⟨⟨42,0,true⟩,none,(Zm prog 3 [1,1,1,1,1,1,1,1,0] 1),none,(Zz prog 10),⟨Yx [(4,(.ptr 0 0)),(5,(ii (Jr (rd l0 (tn x1)).t (rd l0 (tn x1)).x (rd l0 (tn x1)).y (rd l0 (tn x1)).z (Yk (cvT l0) (rd l0 (tn x1)).a).a (Yk (cvT l0) (rd l0 (tn x1)).a).b (Yk (cvT l0) (rd l0 (tn x1)).a).c (Yk (cvT l0) (rd l0 (tn x1)).a).d)))],Xj [⟨[(.int .u8 (Va (rd l0 (tn x1)).t (rd l0 (tn x1)).x (rd l0 (tn x1)).y (rd l0 (tn x1)).z (Yk (cvT l0) (rd l0 (tn x1)).a).a (Yk (cvT l0) (rd l0 (tn x1)).a).b (Yk (cvT l0) (rd l0 (tn x1)).a).c (Yk (cvT l0) (rd l0 (tn x1)).a).d).a),(ii (Va (rd l0 (tn x1)).t (rd l0 (tn x1)).x (rd l0 (tn x1)).y (rd l0 (tn x1)).z (Yk (cvT l0) (rd l0 (tn x1)).a).a (Yk (cvT l0) (rd l0 (tn x1)).a).b (Yk (cvT l0) (rd l0 (tn x1)).a).c (Yk (cvT l0) (rd l0 (tn x1)).a).d).b),(ii (Va (rd l0 (tn x1)).t (rd l0 (tn x1)).x (rd l0 (tn x1)).y (rd l0 (tn x1)).z (Yk (cvT l0) (rd l0 (tn x1)).a).a (Yk (cvT l0) (rd l0 (tn x1)).a).b (Yk (cvT l0) (rd l0 (tn x1)).a).c (Yk (cvT l0) (rd l0 (tn x1)).a).d).c),(ii (Va (rd l0 (tn x1)).t (rd l0 (tn x1)).x (rd l0 (tn x1)).y (rd l0 (tn x1)).z (Yk (cvT l0) (rd l0 (tn x1)).a).a (Yk (cvT l0) (rd l0 (tn x1)).a).b (Yk (cvT l0) (rd l0 (tn x1)).a).c (Yk (cvT l0) (rd l0 (tn x1)).a).d).d)],36,none⟩] 0,1,[],true⟩,[],.leaf⟩ (sl hq 43 [] ⟨[0],[],[some [4,5]],[]⟩ ⟨[],[],[]⟩ [false,false] (ww o0 (ww bC (tt k1 (pp (pp (xr l0) (xw aI)) (ww bC (tt k0 (ww bC nn)))))))) rfl (by kernel_rfl)))))))))
theorem x6d {q:Nat} (hq:Zw prog (Tpl q)) (l0:List Nod) (x1:Int) (n:Nat) (vs:List AVal) (h:Zo (x2l l0 x1) n (z4w q l0 x1)=.ret vs):Ws prog (Zz prog 27) (Zj prog 27 [(.dat l0.length (Zy l0)),(.int .i64 x1)] true []) vs:=by have:=Zk (x9o l0 x1) n _ (x2m hq l0 x1);rwa [h] at this
inductive rplS where
 | h0 (v6:List Int) (v7:Int)
 | h1 (v6:List Int) (v9:Int) (aC:Int) (bA:Int) (bX:Int) (bY:Int)
def rplC (l0:List Nod) (x1:Int):rplS→Cfg
 | .h0 v6 v7=>⟨⟨60,0,true⟩,none,(Zm prog 28 [1,1,0,1,0,0] 0),none,(Zz prog 10),⟨Yx [(0,(.dat l0.length (Zy l0))),(4,(.ptr 0 0)),(6,(.sla 1 1 0 v6.length (.un 1))),(7,(ii v7))],Xj [⟨[(.int .u8 0),(ii 0),(ii 0),(ii 0)],36,none⟩,⟨rows v6.length (Zy v6),3,some ⟨1,v6.length,(Zy v6)⟩⟩] 0,2,[],true⟩,[],.leaf⟩
 | .h1 v6 v9 aC bA bX bY=>⟨⟨60,0,true⟩,none,(Zm prog 28 [1,1,1,1,0,1,0,0] 0),none,(Zz prog 10),⟨Yx [(0,(.dat l0.length (Zy l0))),(4,(.ptr 0 0)),(6,(.sla 1 1 0 v6.length (.un 1))),(8,(.ptr 2 0)),(9,(ii v9))],Xj [⟨[(.int .u8 0),(ii 0),(ii 0),(ii 0)],36,none⟩,⟨rows v6.length (Zy v6),3,some ⟨1,v6.length,(Zy v6)⟩⟩,⟨[(.int .u8 aC),(ii bA),(ii bX),(ii bY)],36,none⟩] 0,3,[],true⟩,[],.leaf⟩
def rplN0 :List (Option (List Nat)):=[some [0,4,6,7]]
def rplM0 :List (Option (List Nat)):=[]
def rplN1 :List (Option (List Nat)):=[some [0,4,6,8,9]]
def rplM1 :List (Option (List Nat)):=[]
def Uo (l0:List Nod) (x1:Int):rplS→Ya rplS
 | .h0 v6 v7=>(bif (decide (v7≥0)) then (bif (Nat.beq 1 1&&((decide (0+v6.length=v6.length))&&decide ((v6.length+1+1)*(8+1)≤Jq))) then (bif ((decide (0≤v7∧v7<(l0.length:Int)))&&true) then (.to (.h0 (v6++[v7]) (rd l0 v7.toNat).a)) else .stuck) else .stuck) else (bif ((decide (0≤(wrap .i64 ((v6.length:Int) - 1))∧(wrap .i64 ((v6.length:Int) - 1))<(v6.length:Int)))&&true) then (bif (decide ((0+(Int.toNat (wrap .i64 ((v6.length:Int) - 1))))<v6.length)) then (bif ((decide (0≤(rd v6 (0+(Int.toNat (wrap .i64 ((v6.length:Int) - 1)))))∧(rd v6 (0+(Int.toNat (wrap .i64 ((v6.length:Int) - 1)))))<(l0.length:Int)))&&true) then (.to (.h1 v6 (wrap .i64 ((v6.length:Int) - 2)) (rd l0 (Int.toNat (rd v6 (0+(Int.toNat (wrap .i64 ((v6.length:Int) - 1))))))).t (rd l0 (Int.toNat (rd v6 (0+(Int.toNat (wrap .i64 ((v6.length:Int) - 1))))))).x (rd l0 (Int.toNat (rd v6 (0+(Int.toNat (wrap .i64 ((v6.length:Int) - 1))))))).y (rd l0 (Int.toNat (rd v6 (0+(Int.toNat (wrap .i64 ((v6.length:Int) - 1))))))).z)) else .stuck) else .stuck) else .stuck))
 | .h1 v6 v9 aC bA bX bY=>(bif (decide (v9≥0)) then (bif ((decide (0≤v9∧v9<(v6.length:Int)))&&true) then (bif (decide ((0+v9.toNat)<v6.length)) then (bif ((decide (0≤(rd v6 (0+v9.toNat))∧(rd v6 (0+v9.toNat))<(l0.length:Int)))&&true) then (bif (Wh (rd l0 (Int.toNat (rd v6 (0+v9.toNat)))).t (rd l0 (Int.toNat (rd v6 (0+v9.toNat)))).x (rd l0 (Int.toNat (rd v6 (0+v9.toNat)))).y (rd l0 (Int.toNat (rd v6 (0+v9.toNat)))).z aC bA bX bY) then (bif ((Jr (rd l0 (Int.toNat (rd v6 (0+v9.toNat)))).t (rd l0 (Int.toNat (rd v6 (0+v9.toNat)))).x (rd l0 (Int.toNat (rd v6 (0+v9.toNat)))).y (rd l0 (Int.toNat (rd v6 (0+v9.toNat)))).z aC bA bX bY) != 0) then (.ret [(.agg [(.int .u8 0),(.int .i64 0),(.int .i64 0),(.int .i64 0)]),(.int .i64 (Jr (rd l0 (Int.toNat (rd v6 (0+v9.toNat)))).t (rd l0 (Int.toNat (rd v6 (0+v9.toNat)))).x (rd l0 (Int.toNat (rd v6 (0+v9.toNat)))).y (rd l0 (Int.toNat (rd v6 (0+v9.toNat)))).z aC bA bX bY))]) else (.to (.h1 v6 (wrap .i64 (v9 - 1)) (Va (rd l0 (Int.toNat (rd v6 (0+v9.toNat)))).t (rd l0 (Int.toNat (rd v6 (0+v9.toNat)))).x (rd l0 (Int.toNat (rd v6 (0+v9.toNat)))).y (rd l0 (Int.toNat (rd v6 (0+v9.toNat)))).z aC bA bX bY).a (Va (rd l0 (Int.toNat (rd v6 (0+v9.toNat)))).t (rd l0 (Int.toNat (rd v6 (0+v9.toNat)))).x (rd l0 (Int.toNat (rd v6 (0+v9.toNat)))).y (rd l0 (Int.toNat (rd v6 (0+v9.toNat)))).z aC bA bX bY).b (Va (rd l0 (Int.toNat (rd v6 (0+v9.toNat)))).t (rd l0 (Int.toNat (rd v6 (0+v9.toNat)))).x (rd l0 (Int.toNat (rd v6 (0+v9.toNat)))).y (rd l0 (Int.toNat (rd v6 (0+v9.toNat)))).z aC bA bX bY).c (Va (rd l0 (Int.toNat (rd v6 (0+v9.toNat)))).t (rd l0 (Int.toNat (rd v6 (0+v9.toNat)))).x (rd l0 (Int.toNat (rd v6 (0+v9.toNat)))).y (rd l0 (Int.toNat (rd v6 (0+v9.toNat)))).z aC bA bX bY).d))) else .stuck) else .stuck) else .stuck) else .stuck) else (.ret [(.agg [(.int .u8 aC),(.int .i64 bA),(.int .i64 bX),(.int .i64 bY)]),(.int .i64 0)]))
def z8p (l0:List Nod) (x1:Int):Ya rplS:=(.to (.h0 ([]:List Int) x1))
theorem x8s (l0:List Nod) (x1:Int): ∀s,Yh prog (Zz prog 28) (rplC l0 x1) (rplC l0 x1 s) (Uo l0 x1 s)
 | .h0 v6 v7=>(lb (fun k0=>(lo fun o0=>(lo fun o1=>(sl z0k 27 [] ⟨[0,3],[],rplN0,rplM0⟩ ⟨[(6,.len (v6++[v7]).length)],[.keep,.rowed 1 (v6++[v7]).length (Zy (v6++[v7]))],[]⟩ [true] (pp (xL (v6.length+1) (v6++[v7]).length) (pp (xL (v6.length+1) (v6++[v7]).length) (pp (xS (v6.length+1) (Ze (Zy v6) 0 v6.length 1 [(ii v7)]) (Zy (v6++[v7]))) (pp (pp (xF (Ze (Zy v6) 0 v6.length 1 [(ii v7)])) nn) (ww o1 (ww o0 (tt k0 nn))))))))))) (fun k0=>(lo fun o0=>(lo fun o1=>(lo fun o2=>(sl z0k 33 [] ⟨[0,1,2],[],rplN1,rplM1⟩ ⟨[],[],[]⟩ [false] (pp (fl v6 nn) (ww o2 (ww o1 (ww o0 (tt k0 nn)))))))))))
 | .h1 v6 v9 aC bA bX bY=>(lb (fun k0=>(lo fun aI=>(lo fun aQ=>(lo fun bQ=>(lo fun cO=>(lb (fun k1=>(Zf ⟨⟨60,0,true⟩,none,(Zm prog 28 [1,1,1,1,0,1,0,0,1,0,0,1,0,1,0,0] 1),none,(Zz prog 10),⟨Yx [(4,(.ptr 0 0)),(5,(ii (Jr (rd l0 (tn (rd v6 (0+(tn v9))))).t (rd l0 (tn (rd v6 (0+(tn v9))))).x (rd l0 (tn (rd v6 (0+(tn v9))))).y (rd l0 (tn (rd v6 (0+(tn v9))))).z aC bA bX bY)))],Xj [⟨[(.int .u8 0),(ii 0),(ii 0),(ii 0)],36,none⟩] 0,1,[],true⟩,[],.leaf⟩ (sl z0k 26 [] ⟨[0],[],[some [4,5]],[]⟩ ⟨[],[],[]⟩ (bl 2 3) (tt k1 (ww cO (ww bQ (ww aQ (ww aI (tt k0 nn))))))) rfl (by kernel_rfl))) (fun k1=>(sl z0k 31 [] ⟨[0,1,2],[],rplN1,rplM1⟩ ⟨[],[],[]⟩ (bl 2 1) (pp (fl v6 nn) (tt k1 (ww cO (ww bQ (ww aQ (ww aI (tt k0 nn))))))))))))))) (fun k0=>(Zf ⟨⟨60,0,true⟩,none,(Zm prog 3 [1,1,1,1,1,1,1,1,0] 1),none,(Zz prog 10),⟨Yx [(4,(.ptr 0 0)),(5,(ii 0))],Xj [⟨[(.int .u8 aC),(ii bA),(ii bX),(ii bY)],36,none⟩] 0,1,[],true⟩,[],.leaf⟩ (sl z0k 14 [] ⟨[0],[],[some [4,5]],[]⟩ ⟨[],[],[]⟩ [false] (tt k0 nn)) rfl (by kernel_rfl))))
theorem x1b (l0:List Nod) (x1:Int):Yh prog (Zz prog 28) (rplC l0 x1) (Zj prog 28 [(.dat l0.length (Zy l0)),(.int .i64 x1)] true []) (z8p l0 x1):=(sl z0k 17 [(3,1,Zy ([]:List Int))] ⟨[0,1],[],rplN0,rplM0⟩ ⟨[(6,.grow 1 1)],[],[]⟩ [] (pp (fl ([]:List Int) nn) nn))
theorem w8i (l0:List Nod) (x1:Int) (n:Nat) (vs:List AVal) (h:Zo (Uo l0 x1) n (z8p l0 x1)=.ret vs):Ws prog (Zz prog 28) (Zj prog 28 [(.dat l0.length (Zy l0)),(.int .i64 x1)] true []) vs:=by have:=Zk (x8s l0 x1) n _ (x1b l0 x1);rwa [h] at this
theorem w4k (q:Nat) (l:List Nod) (i:Int) (hq:i<(q:Int)+1) (h:Wv l i=true): ∃N,Zo (x2l l i) N (z4w q l i)=.ret [agF (Yk l i),.int .i64 (z4x l i)]:=⟨0,by
 have h':=h;unfold Wv at h;simp only [Ac,Ak] at h;obtain ⟨h1,h2,h3,h4⟩:=h;obtain ⟨j,rfl⟩: ∃j:Nat,i=(j:Int):=⟨i.toNat,by omega⟩
 rw [toNat_c] at h3;have hb:=Uz h3 (Ao j);show z4w q l (j:Int)=_;unfold z4w Yk z4x;rw [Ap,Zr (din_t h1),z4y h3 (Ao j)];simp only [toNat_c,Zn];by_cases g:(rd l j).a <0
 ·rw [Ae g];rfl
 ·obtain ⟨p,hp⟩: ∃p:Nat,(rd l j).a =(p:Int):=⟨(rd l j).a.toNat,by omega⟩
  have ho:Qx q l (p:Int)=true:=by unfold Qx Wv;rw [toNat_c,w9t h3 (show p≤j by omega),h4,Ae (show (p:Int)<(q:Int) by omega),Ae (show (0:Int)≤(p:Int)∧(p:Int)<(l.length:Int) by omega),Ae h2];rfl
  rw [An g,Ad,Ad,hp,Zr ho];show (bif (Uf l (p:Int)).2 != 0 then _ else _)=_;cases g2:(Uf l (p:Int)).2 != 0 with
  | true=>rfl
  | false=>
   have ht:=z9y h3 h4 (p+1) p (BM p) (by omega);have hw:Wh (rd l j).t (rd l j).x (rd l j).y (rd l j).z (Uf l (p:Int)).1.a (Uf l (p:Int)).1.b (Uf l (p:Int)).1.c (Uf l (p:Int)).1.d =true:=by unfold Wh;rw [Ae (y5b h4 j)];exact Ae ht
   rw [Ad,Ad,Zr hw];rfl⟩
theorem v5x : ∀q:Nat,Zw prog (Tpl q)
 | 0=>fOne z0k (by kernel_rfl) fun args v h=>by
  unfold fPlm at h;split at h
  ·rename_i a0 i;split at h
   ·rename_i L g n e0;simp only [Ab,Aa,Ac] at h;obtain ⟨rfl,ho0,hw⟩:=h;unfold Qx Wv at hw;simp only [Ac,Ak] at hw;omega
   ·cases h
  ·cases h
 | q+1=>fOne z0k (by kernel_rfl) fun args v h=>by
  unfold fPlm at h;split at h
  ·rename_i a0 i;split at h
   ·rename_i L g n e0;simp only [Ab,Aa,Ac] at h;obtain ⟨rfl,ho0,hw⟩:=h;unfold Qx at hw;rw [Ac,Ak] at hw;obtain ⟨N,hN⟩:=w4k q L i (by omega) hw.2;exact ⟨_,_,(.cons (Yg e0 ho0) (.cons (.refl _) .nil)),rfl,x6d (v5x q) L i N _ hN,5,rfl⟩
   ·cases h
  ·cases h
def fPlc :List AVal→Option (AVal×Bool)
 | [a0,.int .i64 i]=>match asL Nod a0 with
  | some (L,g,n)=>some (.tup [agF (Yk L i),.int .i64 (z4x L i)],isT Nod n g&&Wv L i)
  | _=>none
 | _=>none
theorem u1e {S:Specs} (hS:Zw prog S):Zw prog (S.with plmN fPlc):=fOne hS (by kernel_rfl) fun args v h=>by
 unfold fPlc at h;split at h
 ·rename_i a0 i;split at h
  ·rename_i L g n e0;simp only [Ab,Aa,Ac] at h;obtain ⟨rfl,ho0,hw⟩:=h;obtain ⟨N,hN⟩:=w4k i.toNat L i (by unfold Wv at hw;simp only [Ac,Ak] at hw;omega) hw;exact ⟨_,_,(.cons (Yg e0 ho0) (.cons (.refl _) .nil)),rfl,x6d (v5x i.toNat) L i N _ hN,5,rfl⟩
  ·cases h
 ·cases h
def z0q (l:List Nod):Nat→Int→List Int
 | 0,_=>[]
 | k+1,i=>bif decide (0≤i) then i::z0q l k (rd l i.toNat).a else []
theorem y4g (l:List Nod) (k:Nat) {i:Int} (h: ¬0≤i):z0q l k i=[]:=by
 cases k with
 | zero=>rfl
 | succ k=>unfold z0q;rw [An h];rfl
theorem x5k (l:List Nod): ∀(k:Nat) (i:Int),(z0q l k i).length ≤k
 | 0,i=>Ao _
 | k+1,i=>by
  unfold z0q;cases decide (0≤i) with
  | true=>rw [Ag,AQ];have:=x5k l k (rd l i.toNat).a;omega
  | false=>exact AE _
theorem z2n {l:List Nod} {t:Nat} (ht:okC l t=true): ∀(m:Nat) (i:Int),i≤(t:Int)→i<(m:Int)→ ∀k,k<(z0q l m i).length →
  ∃j:Nat,rd (z0q l m i) k=(j:Int)∧j≤t∧(j:Int)≤i∧(k+1<(z0q l m i).length →rd (z0q l m i) (k+1)=(rd l j).a ∧0≤(rd l j).a)∧(¬k+1<(z0q l m i).length →(rd l j).a <0)∧(k=0→(j:Int)=i)
 | 0,i,h1,h2,k,hk=>absurd hk (AA _)
 | m +1,i,h1,h2,k,hk=>by
  by_cases h:0≤i
  ·obtain ⟨j,rfl⟩: ∃j:Nat,i=(j:Int):=⟨i.toNat,by omega⟩
   have hb:=Uz ht (show j≤t by omega);have e:z0q l (m+1) (j:Int)=(j:Int)::z0q l m (rd l j).a :=by rw [z0q,Ae h,Ag,toNat_c]
   rw [e] at hk ⊢;rw [AQ] at hk ⊢
   match k with
   | 0=>
    refine ⟨j,rfl,by omega,BA _,fun hh=> ?_,fun hh=> ?_,fun _=>rfl⟩
    ·by_cases g:0≤(rd l j).a
     ·refine ⟨?_,g⟩;obtain ⟨p,hp⟩: ∃p:Nat,(rd l j).a =(p:Int):=⟨(rd l j).a.toNat,by omega⟩
      obtain ⟨q,q1,_,_,_,_,q2⟩:=z2n ht m (rd l j).a (by omega) (by omega) 0 (by omega);show rd (z0q l m (rd l j).a) 0=_;rw [q1,q2 rfl]
     ·rw [y4g l m g] at hh;exact absurd hh (by simp)
    ·by_cases g:0≤(rd l j).a
     ·exfalso
      match m with
      | 0=>omega
      | m+1=>rw [z0q,Ae g,Ag,AQ] at hh;omega
     ·omega
   | k+1=>obtain ⟨q,q1,q2,q3,q4,q5,q6⟩:=z2n ht m (rd l j).a (by omega) (by omega) k (by omega);exact ⟨q,q1,q2,by omega,fun hh=>q4 (by omega),fun hh=>q5 (by omega),fun hh=>absurd hh (Nat.succ_ne_zero _)⟩
  ·rw [y4g l (m+1) h] at hk;exact absurd hk (AA _)
theorem w2f {l:List Nod} {t:Nat} (ht:okC l t=true) {m:Nat} {i:Int} (h1:i≤(t:Int)) (h2:i<(m:Int)): ∀k,k<(z0q l m i).length →((Uf l (rd (z0q l m i) k)).2 != 0)=true→Uf l (rd (z0q l m i) k)=(z4,(Uf l (rd (z0q l m i) k)).2)→Uf l i=(z4,(Uf l (rd (z0q l m i) k)).2)
 | 0,hk,he,hz=>by obtain ⟨j,q1,q2,q3,q4,q5,q6⟩:=z2n ht m i h1 h2 0 hk;rw [q1,q6 rfl] at hz ⊢;exact hz
 | k+1,hk,he,hz=>by
  obtain ⟨j,q1,q2,q3,q4,q5,q6⟩:=z2n ht m i h1 h2 k (by omega);obtain ⟨e1,e2⟩:=q4 hk;rw [e1] at he hz ⊢;have e:Uf l (j:Int)=(z4,(Uf l (rd l j).a).2):=by rw [z4y ht q2,An (show ¬(rd l j).a <0 by omega),Ad,he];rfl
  have:=w2f ht h1 h2 k (by omega) (by rw [q1,e];exact he) (by rw [q1,e]);rw [q1,e] at this;exact this
theorem v3q {l:List Nod} {x:Int} {t:Nat} (ht:okC l t=true) (hl:l.length≤1000) (hT:t<l.length) (h4:(l.all fun x=>decide (0≤x.t))=true) {m:Nat} (hm:m≤1001) {i:Int} (h1:i≤(t:Int)) (h2:i<(m:Int)):
  ∀k,k<(z0q l m i).length →((Uf l (rd (z0q l m i) k)).2 != 0)=false→ ∃N,Zo (Uo l x) N (.to (.h1 (z0q l m i) ((k:Int) - 1) (Uf l (rd (z0q l m i) k)).1.a (Uf l (rd (z0q l m i) k)).1.b (Uf l (rd (z0q l m i) k)).1.c (Uf l (rd (z0q l m i) k)).1.d))=.ret [agF (Uf l i).1,.int .i64 (Uf l i).2]
 | 0,hk,he=>⟨1,by
  obtain ⟨j,q1,q2,q3,q4,q5,q6⟩:=z2n ht m i h1 h2 0 hk;rw [q1,q6 rfl] at he ⊢;rw [Zv];unfold Uo;simp only [];rw [dge_f (by omega),Ad];have:(Uf l i).2=0:=by simpa using he
  rw [this];rfl⟩
 | k+1,hk,he=>by
  have cW:=x5k l m i;obtain ⟨j,q1,q2,q3,q4,q5,q6⟩:=z2n ht m i h1 h2 k (by omega);obtain ⟨e1,e2⟩:=q4 hk;have hb:=Uz ht q2;rw [e1] at he ⊢;have hQ:Uf l (j:Int)=witF (frN (rd l j)) (Uf l (rd l j).a).1:=by rw [z4y ht q2,An (show ¬(rd l j).a <0 by omega),Ad,he];rfl
  have w2:wrap .i64 ((k:Int) - 1)=(k:Int) - 1:=wrap_t (by omega);have hw:Wh (rd l j).t (rd l j).x (rd l j).y (rd l j).z (Uf l (rd l j).a).1.a (Uf l (rd l j).a).1.b (Uf l (rd l j).a).1.c (Uf l (rd l j).a).1.d =true:=by
   obtain ⟨p,hp⟩: ∃p:Nat,(rd l j).a =(p:Int):=⟨(rd l j).a.toNat,by omega⟩
   unfold Wh;rw [Ae (y5b h4 j),hp];exact Ae (z9y ht h4 (p+1) p (BM p) (by omega))
  have e:Uo l x (.h1 (z0q l m i) (((k+1:Nat):Int) - 1) (Uf l (rd l j).a).1.a (Uf l (rd l j).a).1.b (Uf l (rd l j).a).1.c (Uf l (rd l j).a).1.d)=bif (Uf l (j:Int)).2 != 0 then .ret [agF z4,.int .i64 (Uf l (j:Int)).2] else .to (.h1 (z0q l m i) ((k:Int) - 1) (Uf l (j:Int)).1.a (Uf l (j:Int)).1.b (Uf l (j:Int)).1.c (Uf l (j:Int)).1.d):=by unfold Uo;rw [show (((k+1:Nat):Int) - 1)=(k:Int) by omega];simp only [toNat_c,Al,q1,w2];rw [dge_t (by omega),Ag,Ap,Zr (din_t (by omega)),Zr (nlt_t (by omega)),Ap,Zr (din_t (by omega)),Zr hw,hQ];rfl
  cases g:(Uf l (j:Int)).2 != 0 with
  | true=>
   refine ⟨1,?_⟩;have hz:Uf l (j:Int)=(z4,(Uf l (j:Int)).2):=by rw [hQ] at g ⊢;unfold witF at g ⊢;simp only [] at g ⊢;unfold Va;rw [g];rfl
   have hr:=w2f ht h1 h2 k (by omega) (by rw [q1];exact g) (by rw [q1];exact hz);rw [q1] at hr;rw [Zv,e,g,Ag,Zp,hr]
  | false=>obtain ⟨N,hN⟩:=v3q (x:=x) ht hl hT h4 hm h1 h2 k (by omega) (by rw [q1];exact g);rw [q1] at hN;exact ⟨N+1,by rw [Zv,e,g,Ad,hN]⟩
theorem v3r {l:List Nod} {x:Int} {t:Nat} (ht:okC l t=true) (hl:l.length≤1000) {R:Ya rplS}: ∀(m:Nat) (i:Int) (out:List Int),i<(m:Int)→i≤(t:Int)→i<(l.length:Int)→out.length+m≤2000→(0≤i∨out≠ [])→(∀k,k<out.length→0≤rd out k∧rd out k<(l.length:Int))→
  (∀n,(out++z0q l m i).length =n+1→ ∃j:Nat,rd (out++z0q l m i) n=(j:Int)∧ ∃N,Zo (Uo l x) N (.to (.h1 (out++z0q l m i) ((n:Int) - 1) (rd l j).t (rd l j).x (rd l j).y (rd l j).z))=R)→ ∃N,Zo (Uo l x) N (.to (.h0 out i))=R
 | m,i,out,hm,hit,hil,ho,hne,hin,hR=>by
  by_cases h:0≤i
  ·match m with
   | 0=>omega
   | m+1=>
    obtain ⟨j,rfl⟩: ∃j:Nat,i=(j:Int):=⟨i.toNat,by omega⟩
    have hb:=Uz ht (show j≤t by omega);have e:Uo l x (.h0 out (j:Int))=.to (.h0 (out++[(j:Int)]) (rd l j).a):=by unfold Uo;simp only [toNat_c];rw [dge_t h,Ag,Zr (y4x (by omega)),Ap,Zr (din_t (by omega))]
    have hu:z0q l (m+1) (j:Int)=(j:Int)::z0q l m (rd l j).a :=(by rw [z0q,Ae h,Ag,toNat_c]);have ha:out++(j:Int)::z0q l m (rd l j).a =(out++[(j:Int)])++z0q l m (rd l j).a :=by rw [AF];rfl
    rw [hu,ha] at hR;obtain ⟨M,hM⟩:=v3r ht hl m (rd l j).a (out++[(j:Int)]) (by omega) (by omega) (by omega) (by rw [AL,Br];omega) (.inr (by simp)) (fun k hk=>by
     rw [AL,Br] at hk;by_cases g:k<out.length
     ·have:=hin k g;rw [Xf g] at this;rw [Xf (by rw [AL,Br];omega),Bi g];exact this
     ·rw [Xf (by rw [AL,Br];omega),Be (by omega)];simp;omega) hR
    exact ⟨M+1,by rw [Zv,e,hM]⟩
  ·rw [y4g l m h,AJ] at hR;have eV:out≠ []:=by
    rcases hne with h' | h'
    ·exact absurd h' h
    ·exact h'
   obtain ⟨n,hn⟩: ∃n,out.length=n+1:=⟨out.length - 1,by have:=List.length_pos_iff.2 eV;omega⟩
   obtain ⟨j,hj,N,hN⟩:=hR n hn;have hjb:=hin n (by omega);rw [hj] at hjb;have w1:wrap .i64 ((out.length:Int) - 1)=(n:Int):=by rw [wrap_t (by omega)];omega
   have w2:wrap .i64 ((out.length:Int) - 2)=(n:Int) - 1:=by rw [wrap_t (by omega)];omega
   refine ⟨N+1,?_⟩;rw [Zv,←hN]
   congr 1
   unfold Uo;simp only [w1,w2,toNat_c,Al,hj];rw [dge_f h,Ad,Ap,Zr (din_t (by omega)),Zr (nlt_t (by omega)),Ap,Zr (din_t (by omega))]
theorem v7h (l:List Nod) (i:Int) (h:Wv l i=true): ∃N,Zo (Uo l i) N (z8p l i)=.ret [agF (Yk l i),.int .i64 (z4x l i)]:=by
 unfold Wv at h;simp only [Ac,Ak] at h;obtain ⟨h1,h2,h3,h4⟩:=h;unfold z8p;refine v3r h3 h2 (i.toNat+1) i [] (by omega) (by omega) (by omega) (by rw [List.length_nil];omega) (.inl h1.1) (fun k hk=>absurd hk (AA _)) fun n hn=> ?_;rw [A6] at hn ⊢;obtain ⟨j,q1,q2,q3,q4,q5,q6⟩:=z2n h3 (i.toNat+1) i (by omega) (by omega) n (by omega);have ha:=q5 (by omega);have hQ:Uf l (j:Int)=(frN (rd l j),0):=by rw [z4y h3 q2,Ae ha];rfl
 have:=v3q (x:=i) h3 h2 (by omega) h4 (m:=i.toNat+1) (by omega) (i:=i) (by omega) (by omega) n (by omega) (by rw [q1,hQ];rfl);rw [q1,hQ] at this;exact ⟨j,q1,this⟩
theorem u0p {S:Specs} (hS:Zw prog S):Zw prog (S.with rplmN fPlc):=fOne hS (by kernel_rfl) fun args v h=>by
 unfold fPlc at h;split at h
 ·rename_i a0 i;split at h
  ·rename_i L g n e0;simp only [Ab,Aa,Ac] at h;obtain ⟨rfl,ho0,hw⟩:=h;obtain ⟨N,hN⟩:=v7h L i hw;exact ⟨_,_,(.cons (Yg e0 ho0) (.cons (.refl _) .nil)),rfl,w8i L i N _ hN,5,rfl⟩
  ·cases h
 ·cases h
abbrev Ue (l:List Nod) (i:Int):R4:=Yk l i
abbrev y7z (l:List Nod) (i:Int):Int:=z4x l i
def SzSc :Specs:=(SzSb.with plmN fPlc).with rplmN fPlc
theorem Xw :Zw prog SzSc:=u0p (u1e z0k)
inductive patS where
def patC (l0:List Nod) (x1:Int):patS→Cfg
 :=nofun
def x2n (l0:List Nod) (x1:Int):patS→Ya patS
 :=nofun
def z4z (l0:List Nod) (x1:Int):Ya patS:=(bif (Yz (cvT l0)) then (bif ((Jh (cvT l0)) != 0) then (.ret [(.str []),(.int .i64 (Jh (cvT l0)))]) else (bif (decide (x1<0)) then (.ret [(.str []),(.int .i64 2)]) else (bif (decide (x1≥(l0.length:Int))) then (.ret [(.str []),(.int .i64 2)]) else (bif (Xd (cvT l0) x1) then (.ret [(.str (Qi (cvT l0) x1)),(.int .i64 0)]) else .stuck)))) else .stuck)
theorem x9p (l0:List Nod) (x1:Int): ∀s,Yh prog (Zz prog 6) (patC l0 x1) (patC l0 x1 s) (x2n l0 x1 s)
 :=nofun
theorem x2o (l0:List Nod) (x1:Int):Yh prog (Zz prog 6) (patC l0 x1) (Zj prog 6 [(.dat l0.length (Zy l0)),(.int .i64 x1)] true []) (z4z l0 x1):=(lo fun bC=>(lb (fun k0=>(lr 16 6 [1,0,1,1,0,0] 1 6 [(4,(.str [])),(5,(ii (Jh (cvT l0))))] (sl Xw 48 [] ⟨[],[],[some [4,5]],[]⟩ ⟨[],[],[]⟩ [true,true] (tt k0 (tt k0 (pp (pp (xr l0) (xw bC)) nn)))))) (fun k0=>(lb (fun k1=>(lr 16 6 [1,0,1,1,0,0] 1 6 [(4,(.str [])),(5,(ii 2))] (sl Xw 61 [] ⟨[],[],[some [4,5]],[]⟩ ⟨[],[],[]⟩ [false,true,true,true,true,true,true] (tt k1 (tt k0 (pp (pp (xr l0) (xw bC)) nn)))))) (fun k1=>(lb (fun k2=>(lr 16 6 [1,0,1,1,0,0] 1 6 [(4,(.str [])),(5,(ii 2))] (sl Xw 61 [] ⟨[],[],[some [4,5]],[]⟩ ⟨[],[],[]⟩ [false,false,false,false,false,true,true] (tt k2 (tt k1 (tt k0 (pp (pp (xr l0) (xw bC)) nn))))))) (fun k2=>(lo fun o0=>(lr 16 3 [1,1,1,1,1,1,1,1,0] 1 6 [(4,(.str (Qi (cvT l0) x1))),(5,(ii 0))] (sl Xw 65 [] ⟨[],[],[some [4,5]],[]⟩ ⟨[],[],[]⟩ [false,false,false,false,false,false,false] (pp (pp (xr l0) (xw o0)) (tt k2 (tt k1 (tt k0 (pp (pp (xr l0) (xw bC)) nn)))))))))))))))
theorem w9s (l0:List Nod) (x1:Int) (n:Nat) (vs:List AVal) (h:Zo (x2n l0 x1) n (z4z l0 x1)=.ret vs):Ws prog (Zz prog 6) (Zj prog 6 [(.dat l0.length (Zy l0)),(.int .i64 x1)] true []) vs:=by have:=Zk (x9p l0 x1) n _ (x2o l0 x1);rwa [h] at this
inductive rptS where
def rptC (l0:List Nod) (x1:Int):rptS→Cfg
 :=nofun
def x0z (l0:List Nod) (x1:Int):rptS→Ya rptS
 :=nofun
def z4c (l0:List Nod) (x1:Int):Ya rptS:=(bif (Yz (cvT l0)) then (bif ((Jh (cvT l0)) != 0) then (.ret [(.str []),(.int .i64 (Jh (cvT l0)))]) else (bif (decide (x1<0)) then (.ret [(.str []),(.int .i64 2)]) else (bif (decide (x1≥(l0.length:Int))) then (.ret [(.str []),(.int .i64 2)]) else (bif (Xd (cvT l0) x1) then (.ret [(.str (Qi (cvT l0) x1)),(.int .i64 0)]) else .stuck)))) else .stuck)
theorem x8r (l0:List Nod) (x1:Int): ∀s,Yh prog (Zz prog 7) (rptC l0 x1) (rptC l0 x1 s) (x0z l0 x1 s)
 :=nofun
theorem x1a (l0:List Nod) (x1:Int):Yh prog (Zz prog 7) (rptC l0 x1) (Zj prog 7 [(.dat l0.length (Zy l0)),(.int .i64 x1)] true []) (z4c l0 x1):=(lo fun bC=>(lb (fun k0=>(lr 16 7 [1,0,1,0,0] 1 6 [(4,(.str [])),(5,(ii (Jh (cvT l0))))] (sl Xw 60 [] ⟨[],[],[some [4,5]],[]⟩ ⟨[],[],[]⟩ (trs 3 []) (pp (pp (xr l0) (xw bC)) (tt k0 (pp (pp (xr l0) (xw bC)) (tt k0 (pp (pp (xr l0) (xw bC)) (tt k0 (pp (pp (xr l0) (xw bC)) nn)))))))))) (fun k0=>(lb (fun k1=>(lr 16 7 [1,0,1,0,0] 1 6 [(4,(.str [])),(5,(ii 2))] (sl Xw 84 [] ⟨[],[],[some [4,5]],[]⟩ ⟨[],[],[]⟩ [false,true,true,true,true,true,true,false,true,true,true,true,true] (tt k1 (tt k0 (pp (pp (xr l0) (xw bC)) (tt k1 (tt k0 (pp (pp (xr l0) (xw bC)) nn))))))))) (fun k1=>(lb (fun k2=>(lr 16 7 [1,0,1,0,0] 1 6 [(4,(.str [])),(5,(ii 2))] (sl Xw 84 [] ⟨[],[],[some [4,5]],[]⟩ ⟨[],[],[]⟩ [false,false,false,false,false,true,true,false,false,false,false,false,true] (tt k2 (tt k1 (tt k0 (pp (pp (xr l0) (xw bC)) (tt k2 (tt k1 (tt k0 (pp (pp (xr l0) (xw bC)) nn))))))))))) (fun k2=>(lo fun o0=>(lr 16 3 [1,1,1,1,1,1,1,1,0] 1 6 [(4,(.str (Qi (cvT l0) x1))),(5,(ii 0))] (sl Xw 55 [] ⟨[],[],[some [4,5]],[]⟩ ⟨[],[],[]⟩ [false,false,false,false,false,false,false] (pp (pp (xr l0) (xw o0)) (tt k2 (tt k1 (tt k0 (pp (pp (xr l0) (xw bC)) nn)))))))))))))))
theorem w8h (l0:List Nod) (x1:Int) (n:Nat) (vs:List AVal) (h:Zo (x0z l0 x1) n (z4c l0 x1)=.ret vs):Ws prog (Zz prog 7) (Zj prog 7 [(.dat l0.length (Zy l0)),(.int .i64 x1)] true []) vs:=by have:=Zk (x8r l0 x1) n _ (x1a l0 x1);rwa [h] at this
inductive fndS where
 | h0 (v21:Int)
def fndC (l0:List Nod) (x1:List UInt8):fndS→Cfg
 | .h0 v21=>⟨⟨31,0,true⟩,none,(Zm prog 8 [1,1,1,0,1,0,0] 0),none,(Zz prog 6),⟨Yx [(0,(.dat l0.length (Zy l0))),(1,(.str x1)),(20,(ii (l0.length:Int))),(21,(ii v21))],Xj [] 0,0,[],true⟩,[],.leaf⟩
def fndN0 :List (Option (List Nat)):=[some [0,1,20,21]]
def fndM0 :List (Option (List Nat)):=[]
def z3k (l0:List Nod) (x1:List UInt8):fndS→Ya fndS
 | .h0 v21=>(bif (decide (v21<(l0.length:Int))) then (bif (Xd (cvT l0) v21) then (bif ((Qi (cvT l0) v21) == x1) then (.ret [(.int .i64 v21),(.int .i64 0)]) else (.to (.h0 (wrap .i64 (v21+1))))) else .stuck) else (.ret [(.int .i64 0),(.int .i64 6)]))
def z9h (l0:List Nod) (x1:List UInt8):Ya fndS:=(bif (Yz (cvT l0)) then (bif ((Jh (cvT l0)) != 0) then (.ret [(.int .i64 0),(.int .i64 (Jh (cvT l0)))]) else (bif (Wo x1) then (bif ((y1z x1) != 0) then (.ret [(.int .i64 0),(.int .i64 (y1z x1))]) else (.to (.h0 0))) else .stuck)) else .stuck)
theorem w0s (l0:List Nod) (x1:List UInt8): ∀s,Yh prog (Zz prog 8) (fndC l0 x1) (fndC l0 x1 s) (z3k l0 x1 s)
 | .h0 v21=>(lb (fun k0=>(lo fun aI=>(lb (fun k1=>(lr 31 8 [1,1,1,0,1,0,0,1,1,0,0,1,1,0,0] 1 6 [(4,(ii v21)),(5,(ii 0))] (sl Xw 29 [] ⟨[],[],[some [4,5]],[]⟩ ⟨[],[],[]⟩ (bl 2 3) (tt k1 (pp (pp (xr l0) (xw aI)) (tt k0 nn)))))) (fun k1=>(sl Xw 30 [] ⟨[],[],fndN0,fndM0⟩ ⟨[],[],[]⟩ (bl 2 1) (tt k1 (pp (pp (xr l0) (xw aI)) (tt k0 nn)))))))) (fun k0=>(lr 31 3 [1,1,1,1,1,1,1,1,0] 1 6 [(4,(ii 0)),(5,(ii 6))] (sl Xw 12 [] ⟨[],[],[some [4,5]],[]⟩ ⟨[],[],[]⟩ [false] (tt k0 nn)))))
theorem x4a (l0:List Nod) (x1:List UInt8):Yh prog (Zz prog 8) (fndC l0 x1) (Zj prog 8 [(.dat l0.length (Zy l0)),(.str x1)] true []) (z9h l0 x1):=(lo fun bC=>(lb (fun k0=>(lr 31 8 [1,0,1,1,0,0] 1 6 [(4,(ii 0)),(5,(ii (Jh (cvT l0))))] (sl Xw 24 [] ⟨[],[],[some [4,5]],[]⟩ ⟨[],[],[]⟩ [true] (tt k0 (pp (pp (xr l0) (xw bC)) nn))))) (fun k0=>(lo fun aI=>(lb (fun k1=>(lr 31 8 [1,1,0,1,1,0,0] 1 6 [(4,(ii 0)),(5,(ii (y1z x1)))] (sl Xw 38 [] ⟨[],[],[some [4,5]],[]⟩ ⟨[],[],[]⟩ [false,true] (tt k1 (ww aI (tt k0 (pp (pp (xr l0) (xw bC)) nn))))))) (fun k1=>(sl Xw 42 [] ⟨[],[],fndN0,fndM0⟩ ⟨[],[],[]⟩ [false,false] (tt k1 (ww aI (tt k0 (pp (pp (xr l0) (xw bC)) nn)))))))))))
theorem v1e (l0:List Nod) (x1:List UInt8) (n:Nat) (vs:List AVal) (h:Zo (z3k l0 x1) n (z9h l0 x1)=.ret vs):Ws prog (Zz prog 8) (Zj prog 8 [(.dat l0.length (Zy l0)),(.str x1)] true []) vs:=by have:=Zk (w0s l0 x1) n _ (x4a l0 x1);rwa [h] at this
inductive rfnS where
 | h0 (v6:Int)
def rfnC (l0:List Nod) (x1:List UInt8):rfnS→Cfg
 | .h0 v6=>⟨⟨29,0,true⟩,none,(Zm prog 9 [1,1,1,0,1,0,0] 0),none,(Zz prog 6),⟨Yx [(0,(.dat l0.length (Zy l0))),(1,(.str x1)),(6,(ii v6))],Xj [] 0,0,[],true⟩,[],.leaf⟩
def rfnN0 :List (Option (List Nat)):=[some [0,1,6]]
def rfnM0 :List (Option (List Nat)):=[]
def z2y (l0:List Nod) (x1:List UInt8):rfnS→Ya rfnS
 | .h0 v6=>(bif (decide (v6<(l0.length:Int))) then (bif (Xd (cvT l0) v6) then (bif ((Qi (cvT l0) v6) == x1) then (.ret [(.int .i64 v6),(.int .i64 0)]) else (.to (.h0 (wrap .i64 (v6+1))))) else .stuck) else (.ret [(.int .i64 0),(.int .i64 6)]))
def z8w (l0:List Nod) (x1:List UInt8):Ya rfnS:=(bif (Yz (cvT l0)) then (bif ((Jh (cvT l0)) != 0) then (.ret [(.int .i64 0),(.int .i64 (Jh (cvT l0)))]) else (bif (Wo x1) then (bif ((y1z x1) != 0) then (.ret [(.int .i64 0),(.int .i64 (y1z x1))]) else (.to (.h0 0))) else .stuck)) else .stuck)
theorem x9e (l0:List Nod) (x1:List UInt8): ∀s,Yh prog (Zz prog 9) (rfnC l0 x1) (rfnC l0 x1 s) (z2y l0 x1 s)
 | .h0 v6=>(lb (fun k0=>(lo fun aI=>(lb (fun k1=>(lr 29 9 [1,1,1,0,1,0,0,1,0,0,1,0,0] 1 6 [(4,(ii v6)),(5,(ii 0))] (sl Xw 27 [] ⟨[],[],[some [4,5]],[]⟩ ⟨[],[],[]⟩ (bl 2 3) (tt k1 (pp (pp (xr l0) (xw aI)) (tt k0 nn)))))) (fun k1=>(sl Xw 29 [] ⟨[],[],rfnN0,rfnM0⟩ ⟨[],[],[]⟩ (bl 2 1) (tt k1 (pp (pp (xr l0) (xw aI)) (tt k0 nn)))))))) (fun k0=>(lr 29 3 [1,1,1,1,1,1,1,1,0] 1 6 [(4,(ii 0)),(5,(ii 6))] (sl Xw 15 [] ⟨[],[],[some [4,5]],[]⟩ ⟨[],[],[]⟩ [false] (tt k0 nn)))))
theorem x1t (l0:List Nod) (x1:List UInt8):Yh prog (Zz prog 9) (rfnC l0 x1) (Zj prog 9 [(.dat l0.length (Zy l0)),(.str x1)] true []) (z8w l0 x1):=(lo fun bC=>(lb (fun k0=>(lr 29 9 [1,0,1,0,0] 1 6 [(4,(ii 0)),(5,(ii (Jh (cvT l0))))] (sl Xw 20 [] ⟨[],[],[some [4,5]],[]⟩ ⟨[],[],[]⟩ [true] (pp (pp (xr l0) (xw bC)) (tt k0 (pp (pp (xr l0) (xw bC)) nn)))))) (fun k0=>(lo fun aI=>(lb (fun k1=>(lr 29 9 [1,1,0,1,0,0] 1 6 [(4,(ii 0)),(5,(ii (y1z x1)))] (sl Xw 29 [] ⟨[],[],[some [4,5]],[]⟩ ⟨[],[],[]⟩ [false,true] (ww aI (tt k1 (ww aI (tt k0 (pp (pp (xr l0) (xw bC)) nn)))))))) (fun k1=>(sl Xw 30 [] ⟨[],[],rfnN0,rfnM0⟩ ⟨[],[],[]⟩ [false,false] (tt k1 (ww aI (tt k0 (pp (pp (xr l0) (xw bC)) nn)))))))))))
theorem w8y (l0:List Nod) (x1:List UInt8) (n:Nat) (vs:List AVal) (h:Zo (z2y l0 x1) n (z8w l0 x1)=.ret vs):Ws prog (Zz prog 9) (Zj prog 9 [(.dat l0.length (Zy l0)),(.str x1)] true []) vs:=by have:=Zk (x9e l0 x1) n _ (x1t l0 x1);rwa [h] at this
inductive pltS where
def pltC (l0:List Nod) (x1:Int):pltS→Cfg
 :=nofun
def x2j (l0:List Nod) (x1:Int):pltS→Ya pltS
 :=nofun
def z4u (l0:List Nod) (x1:Int):Ya pltS:=(bif (Yz (cvT l0)) then (bif ((Jh (cvT l0)) != 0) then (.ret [(.agg [(.int .u8 0),(.int .i64 0),(.int .i64 0),(.int .i64 0)]),(.int .i64 (Jh (cvT l0)))]) else (bif (decide (x1<0)) then (.ret [(.agg [(.int .u8 0),(.int .i64 0),(.int .i64 0),(.int .i64 0)]),(.int .i64 2)]) else (bif (decide (x1≥(l0.length:Int))) then (.ret [(.agg [(.int .u8 0),(.int .i64 0),(.int .i64 0),(.int .i64 0)]),(.int .i64 2)]) else (bif (Wv (cvT l0) x1) then (.ret [(.agg [(.int .u8 (Ue (cvT l0) x1).a),(.int .i64 (Ue (cvT l0) x1).b),(.int .i64 (Ue (cvT l0) x1).c),(.int .i64 (Ue (cvT l0) x1).d)]),(.int .i64 (y7z (cvT l0) x1))]) else .stuck)))) else .stuck)
theorem x9n (l0:List Nod) (x1:Int): ∀s,Yh prog (Zz prog 10) (pltC l0 x1) (pltC l0 x1 s) (x2j l0 x1 s)
 :=nofun
theorem x2k (l0:List Nod) (x1:Int):Yh prog (Zz prog 10) (pltC l0 x1) (Zj prog 10 [(.dat l0.length (Zy l0)),(.int .i64 x1)] true []) (z4u l0 x1):=(lo fun bC=>(lb (fun k0=>(Zf ⟨⟨19,0,true⟩,none,(Zm prog 10 [1,0,1,1,0,0] 1),none,(Zz prog 10),⟨Yx [(4,(.ptr 0 0)),(5,(ii (Jh (cvT l0))))],Xj [⟨[(.int .u8 0),(ii 0),(ii 0),(ii 0)],36,none⟩] 0,1,[],true⟩,[],.leaf⟩ (sl Xw 49 [] ⟨[0],[],[some [4,5]],[]⟩ ⟨[],[],[]⟩ [true,true] (tt k0 (tt k0 (pp (pp (xr l0) (xw bC)) nn)))) rfl (by kernel_rfl))) (fun k0=>(lb (fun k1=>(Zf ⟨⟨19,0,true⟩,none,(Zm prog 10 [1,0,1,1,0,0] 1),none,(Zz prog 10),⟨Yx [(4,(.ptr 0 0)),(5,(ii 2))],Xj [⟨[(.int .u8 0),(ii 0),(ii 0),(ii 0)],36,none⟩] 0,1,[],true⟩,[],.leaf⟩ (sl Xw 62 [] ⟨[0],[],[some [4,5]],[]⟩ ⟨[],[],[]⟩ [false,true,true,true,true,true,true] (tt k1 (tt k0 (pp (pp (xr l0) (xw bC)) nn)))) rfl (by kernel_rfl))) (fun k1=>(lb (fun k2=>(Zf ⟨⟨19,0,true⟩,none,(Zm prog 10 [1,0,1,1,0,0] 1),none,(Zz prog 10),⟨Yx [(4,(.ptr 0 0)),(5,(ii 2))],Xj [⟨[(.int .u8 0),(ii 0),(ii 0),(ii 0)],36,none⟩] 0,1,[],true⟩,[],.leaf⟩ (sl Xw 62 [] ⟨[0],[],[some [4,5]],[]⟩ ⟨[],[],[]⟩ [false,false,false,false,false,true,true] (tt k2 (tt k1 (tt k0 (pp (pp (xr l0) (xw bC)) nn))))) rfl (by kernel_rfl))) (fun k2=>(lo fun o0=>(Zf ⟨⟨19,0,true⟩,none,(Zm prog 3 [1,1,1,1,1,1,1,1,0] 1),none,(Zz prog 10),⟨Yx [(4,(.ptr 0 0)),(5,(ii (y7z (cvT l0) x1)))],Xj [⟨[(.int .u8 (Ue (cvT l0) x1).a),(ii (Ue (cvT l0) x1).b),(ii (Ue (cvT l0) x1).c),(ii (Ue (cvT l0) x1).d)],36,none⟩] 0,1,[],true⟩,[],.leaf⟩ (sl Xw 67 [] ⟨[0],[],[some [4,5]],[]⟩ ⟨[],[],[]⟩ [false,false,false,false,false,false,false] (pp (pp (xr l0) (xw o0)) (tt k2 (tt k1 (tt k0 (pp (pp (xr l0) (xw bC)) nn)))))) rfl (by kernel_rfl))))))))))
theorem w9q (l0:List Nod) (x1:Int) (n:Nat) (vs:List AVal) (h:Zo (x2j l0 x1) n (z4u l0 x1)=.ret vs):Ws prog (Zz prog 10) (Zj prog 10 [(.dat l0.length (Zy l0)),(.int .i64 x1)] true []) vs:=by have:=Zk (x9n l0 x1) n _ (x2k l0 x1);rwa [h] at this
inductive rltS where
def rltC (l0:List Nod) (x1:Int):rltS→Cfg
 :=nofun
def x1j (l0:List Nod) (x1:Int):rltS→Ya rltS
 :=nofun
def z4h (l0:List Nod) (x1:Int):Ya rltS:=(bif (Yz (cvT l0)) then (bif ((Jh (cvT l0)) != 0) then (.ret [(.agg [(.int .u8 0),(.int .i64 0),(.int .i64 0),(.int .i64 0)]),(.int .i64 (Jh (cvT l0)))]) else (bif (decide (x1<0)) then (.ret [(.agg [(.int .u8 0),(.int .i64 0),(.int .i64 0),(.int .i64 0)]),(.int .i64 2)]) else (bif (decide (x1≥(l0.length:Int))) then (.ret [(.agg [(.int .u8 0),(.int .i64 0),(.int .i64 0),(.int .i64 0)]),(.int .i64 2)]) else (bif (Wv (cvT l0) x1) then (.ret [(.agg [(.int .u8 (Ue (cvT l0) x1).a),(.int .i64 (Ue (cvT l0) x1).b),(.int .i64 (Ue (cvT l0) x1).c),(.int .i64 (Ue (cvT l0) x1).d)]),(.int .i64 (y7z (cvT l0) x1))]) else .stuck)))) else .stuck)
theorem x8y (l0:List Nod) (x1:Int): ∀s,Yh prog (Zz prog 11) (rltC l0 x1) (rltC l0 x1 s) (x1j l0 x1 s)
 :=nofun
theorem x1k (l0:List Nod) (x1:Int):Yh prog (Zz prog 11) (rltC l0 x1) (Zj prog 11 [(.dat l0.length (Zy l0)),(.int .i64 x1)] true []) (z4h l0 x1):=(lo fun bC=>(lb (fun k0=>(Zf ⟨⟨19,0,true⟩,none,(Zm prog 11 [1,0,1,0,0] 1),none,(Zz prog 10),⟨Yx [(4,(.ptr 0 0)),(5,(ii (Jh (cvT l0))))],Xj [⟨[(.int .u8 0),(ii 0),(ii 0),(ii 0)],36,none⟩] 0,1,[],true⟩,[],.leaf⟩ (sl Xw 61 [] ⟨[0],[],[some [4,5]],[]⟩ ⟨[],[],[]⟩ (trs 3 []) (pp (pp (xr l0) (xw bC)) (tt k0 (pp (pp (xr l0) (xw bC)) (tt k0 (pp (pp (xr l0) (xw bC)) (tt k0 (pp (pp (xr l0) (xw bC)) nn)))))))) rfl (by kernel_rfl))) (fun k0=>(lb (fun k1=>(Zf ⟨⟨19,0,true⟩,none,(Zm prog 11 [1,0,1,0,0] 1),none,(Zz prog 10),⟨Yx [(4,(.ptr 0 0)),(5,(ii 2))],Xj [⟨[(.int .u8 0),(ii 0),(ii 0),(ii 0)],36,none⟩] 0,1,[],true⟩,[],.leaf⟩ (sl Xw 85 [] ⟨[0],[],[some [4,5]],[]⟩ ⟨[],[],[]⟩ [false,true,true,true,true,true,true,false,true,true,true,true,true] (tt k1 (tt k0 (pp (pp (xr l0) (xw bC)) (tt k1 (tt k0 (pp (pp (xr l0) (xw bC)) nn))))))) rfl (by kernel_rfl))) (fun k1=>(lb (fun k2=>(Zf ⟨⟨19,0,true⟩,none,(Zm prog 11 [1,0,1,0,0] 1),none,(Zz prog 10),⟨Yx [(4,(.ptr 0 0)),(5,(ii 2))],Xj [⟨[(.int .u8 0),(ii 0),(ii 0),(ii 0)],36,none⟩] 0,1,[],true⟩,[],.leaf⟩ (sl Xw 85 [] ⟨[0],[],[some [4,5]],[]⟩ ⟨[],[],[]⟩ [false,false,false,false,false,true,true,false,false,false,false,false,true] (tt k2 (tt k1 (tt k0 (pp (pp (xr l0) (xw bC)) (tt k2 (tt k1 (tt k0 (pp (pp (xr l0) (xw bC)) nn))))))))) rfl (by kernel_rfl))) (fun k2=>(lo fun o0=>(Zf ⟨⟨19,0,true⟩,none,(Zm prog 3 [1,1,1,1,1,1,1,1,0] 1),none,(Zz prog 10),⟨Yx [(4,(.ptr 0 0)),(5,(ii (y7z (cvT l0) x1)))],Xj [⟨[(.int .u8 (Ue (cvT l0) x1).a),(ii (Ue (cvT l0) x1).b),(ii (Ue (cvT l0) x1).c),(ii (Ue (cvT l0) x1).d)],36,none⟩] 0,1,[],true⟩,[],.leaf⟩ (sl Xw 57 [] ⟨[0],[],[some [4,5]],[]⟩ ⟨[],[],[]⟩ [false,false,false,false,false,false,false] (pp (pp (xr l0) (xw o0)) (tt k2 (tt k1 (tt k0 (pp (pp (xr l0) (xw bC)) nn)))))) rfl (by kernel_rfl))))))))))
theorem w8p (l0:List Nod) (x1:Int) (n:Nat) (vs:List AVal) (h:Zo (x1j l0 x1) n (z4h l0 x1)=.ret vs):Ws prog (Zz prog 11) (Zj prog 11 [(.dat l0.length (Zy l0)),(.int .i64 x1)] true []) vs:=by have:=Zk (x8y l0 x1) n _ (x1k l0 x1);rwa [h] at this
theorem z3w {l:List Nod} (h:(Jh l != 0)=false):l.length≤200∧y4m l=0∧y2i l l.length:=by
 have h:Jh l=0:=by simpa using h
 unfold Jh at h;by_cases g:200<l.length
 ·rw [Ae g] at h;cases h
 ·rw [An g,Ad] at h;cases g2:y4m l != 0 with
  | true=>rw [g2,Ag] at h;rw [h] at g2;cases g2
  | false=>
   rw [g2,Ad] at h;refine ⟨by omega,by simpa using g2,fun j hj=> ?_⟩;cases g3:(List.range l.length).any (y6t l) with
   | true=>rw [g3] at h;cases h
   | false=>simpa using List.any_eq_false.1 g3 j (AN.2 hj)
theorem w2z {l:List Nod} (h:(Jh l != 0)=false) {i:Nat} (hi:i<l.length):okN l i:=by obtain ⟨h1,h2,h3⟩:=z3w h;have:=h3 i hi;unfold y6t at this;rw [AT] at this;exact z5p (fun j hj=>h3 j (by omega)) this.1
theorem y4p {l:List Nod} (ho:Yz l=true) (h:(Jh l != 0)=false) {i:Int} (h0: ¬i<0) (h1: ¬i≥(l.length:Int)):Xd l i=true:=by
 obtain ⟨j,rfl⟩: ∃j:Nat,i=(j:Int):=⟨i.toNat,by omega⟩
 have:=(z3w h).1;exact y5e ho (by omega) (by omega) (w2z h (by omega))
def v2a (l:List Nod) (i:Int):Int:=bif Jh l != 0 then Jh l else bif decide (i<0) then 2 else bif decide (i≥(l.length:Int)) then 2 else 0
def z5a (l:List Nod) (i:Int):Int:=v2a l i
def z5b (l:List Nod) (i:Int):List UInt8:=bif v2a l i != 0 then [] else Qi l i
def z1b (l:List Nod) (i:Int):Bool:=Yz l
theorem v8q (l:List Nod) (i:Int) (h:z1b l i=true): ∃N,Zo (x2n l i) N (z4z l i)=.ret [.str (z5b l i),.int .i64 (z5a l i)]:=⟨0,by
 show z4z l i=_;unfold z4z z5b z5a v2a;simp only [Zn];rw [Zr (show Yz l=true from h)];cases g:Jh l != 0 with
 | true=>(simp only [Ag,g];try rfl)
 | false=>
  simp only [Ad];by_cases g1:i<0
  ·rw [Ae g1];rfl
  ·rw [An g1];by_cases g2:i≥(l.length:Int)
   ·rw [Ae g2];rfl
   ·rw [An g2,Ad,Ad,Ad,Ad,Zr (y4p h g g1 g2)];rfl⟩
theorem v7g (l:List Nod) (i:Int) (h:z1b l i=true): ∃N,Zo (x0z l i) N (z4c l i)=.ret [.str (z5b l i),.int .i64 (z5a l i)]:=⟨0,by
 show z4c l i=_;unfold z4c z5b z5a v2a;simp only [Zn];rw [Zr (show Yz l=true from h)];cases g:Jh l != 0 with
 | true=>(simp only [Ag,g];try rfl)
 | false=>
  simp only [Ad];by_cases g1:i<0
  ·rw [Ae g1];rfl
  ·rw [An g1];by_cases g2:i≥(l.length:Int)
   ·rw [Ae g2];rfl
   ·rw [An g2,Ad,Ad,Ad,Ad,Zr (y4p h g g1 g2)];rfl⟩
def fPat :List AVal→Option (AVal×Bool)
 | [a0,.int .i64 i]=>match asL Nod a0 with
  | some (L,g,n)=>some (.tup [.str (z5b L i),.int .i64 (z5a L i)],isT Nod n g&&z1b L i)
  | _=>none
 | _=>none
theorem u1f {S:Specs} (hS:Zw prog S):Zw prog (S.with patN fPat):=fOne hS (by kernel_rfl) fun args v h=>by
 unfold fPat at h;split at h
 ·rename_i a0 i;split at h
  ·rename_i L g n e0;simp only [Ab,Aa,Ac] at h;obtain ⟨rfl,ho0,hw⟩:=h;obtain ⟨N,hN⟩:=v8q L i hw;exact ⟨_,_,(.cons (Yg e0 ho0) (.cons (.refl _) .nil)),rfl,w9s L i N _ hN,5,rfl⟩
  ·cases h
 ·cases h
theorem u0o {S:Specs} (hS:Zw prog S):Zw prog (S.with rpthN fPat):=fOne hS (by kernel_rfl) fun args v h=>by
 unfold fPat at h;split at h
 ·rename_i a0 i;split at h
  ·rename_i L g n e0;simp only [Ab,Aa,Ac] at h;obtain ⟨rfl,ho0,hw⟩:=h;obtain ⟨N,hN⟩:=v7g L i hw;exact ⟨_,_,(.cons (Yg e0 ho0) (.cons (.refl _) .nil)),rfl,w8h L i N _ hN,5,rfl⟩
  ·cases h
 ·cases h
def z4v (l:List Nod) (i:Int):Int:=bif v2a l i != 0 then v2a l i else y7z l i
def Qy (l:List Nod) (i:Int):R4:=bif v2a l i != 0 then z4 else Ue l i
def Ud (l:List Nod) (i:Int):Bool:=Yz l&&l.all fun x=>decide (0≤x.t)
theorem w2y {l:List Nod} (ho:(l.all fun x=>decide (0≤x.t))=true) (h:(Jh l != 0)=false) {i:Int} (h0: ¬i<0) (h1: ¬i≥(l.length:Int)):Wv l i=true:=by
 obtain ⟨j,rfl⟩: ∃j:Nat,i=(j:Int):=⟨i.toNat,by omega⟩
 have hl:=(z3w h).1;have hk:=(w2z h (show j<l.length by omega)).1;unfold Wv;rw [toNat_c,hk,ho,Ae (show (0:Int)≤(j:Int)∧(j:Int)<(l.length:Int) by omega),Ae (show l.length≤1000 by omega)];rfl
theorem v8p (l:List Nod) (i:Int) (h:Ud l i=true): ∃N,Zo (x2j l i) N (z4u l i)=.ret [agF (Qy l i),.int .i64 (z4v l i)]:=⟨0,by
 unfold Ud at h;rw [Ac] at h;show z4u l i=_;unfold z4u Qy z4v v2a;simp only [Zn];rw [Zr (show Yz l=true from h.1)];cases g:Jh l != 0 with
 | true=>(simp only [Ag,g];try rfl)
 | false=>
  simp only [Ad];by_cases g1:i<0
  ·rw [Ae g1];rfl
  ·rw [An g1];by_cases g2:i≥(l.length:Int)
   ·rw [Ae g2];rfl
   ·rw [An g2,Ad,Ad,Ad,Ad,Zr (w2y h.2 g g1 g2)];rfl⟩
theorem v7l (l:List Nod) (i:Int) (h:Ud l i=true): ∃N,Zo (x1j l i) N (z4h l i)=.ret [agF (Qy l i),.int .i64 (z4v l i)]:=⟨0,by
 unfold Ud at h;rw [Ac] at h;show z4h l i=_;unfold z4h Qy z4v v2a;simp only [Zn];rw [Zr (show Yz l=true from h.1)];cases g:Jh l != 0 with
 | true=>(simp only [Ag,g];try rfl)
 | false=>
  simp only [Ad];by_cases g1:i<0
  ·rw [Ae g1];rfl
  ·rw [An g1];by_cases g2:i≥(l.length:Int)
   ·rw [Ae g2];rfl
   ·rw [An g2,Ad,Ad,Ad,Ad,Zr (w2y h.2 g g1 g2)];rfl⟩
def fPlt :List AVal→Option (AVal×Bool)
 | [a0,.int .i64 i]=>match asL Nod a0 with
  | some (L,g,n)=>some (.tup [agF (Qy L i),.int .i64 (z4v L i)],isT Nod n g&&Ud L i)
  | _=>none
 | _=>none
theorem u1d {S:Specs} (hS:Zw prog S):Zw prog (S.with pltN fPlt):=fOne hS (by kernel_rfl) fun args v h=>by
 unfold fPlt at h;split at h
 ·rename_i a0 i;split at h
  ·rename_i L g n e0;simp only [Ab,Aa,Ac] at h;obtain ⟨rfl,ho0,hw⟩:=h;obtain ⟨N,hN⟩:=v8p L i hw;exact ⟨_,_,(.cons (Yg e0 ho0) (.cons (.refl _) .nil)),rfl,w9q L i N _ hN,5,rfl⟩
  ·cases h
 ·cases h
theorem u0t {S:Specs} (hS:Zw prog S):Zw prog (S.with rpltN fPlt):=fOne hS (by kernel_rfl) fun args v h=>by
 unfold fPlt at h;split at h
 ·rename_i a0 i;split at h
  ·rename_i L g n e0;simp only [Ab,Aa,Ac] at h;obtain ⟨rfl,ho0,hw⟩:=h;obtain ⟨N,hN⟩:=v7l L i hw;exact ⟨_,_,(.cons (Yg e0 ho0) (.cons (.refl _) .nil)),rfl,w8p L i N _ hN,5,rfl⟩
  ·cases h
 ·cases h
def v5m (l:List Nod) (p:List UInt8):Nat→Nat→Int×Int
 | 0,_=>(0,6)
 | k+1,i=>bif Qi l (i:Int) == p then ((i:Int),0) else v5m l p k (i+1)
def fndQ (l:List Nod) (p:List UInt8):Int×Int:=bif Jh l != 0 then (0,Jh l) else bif y1z p != 0 then (0,y1z p) else v5m l p l.length 0
def z5o (l:List Nod) (p:List UInt8):Int:=(fndQ l p).1
def z5n (l:List Nod) (p:List UInt8):Int:=(fndQ l p).2
def Uh (l:List Nod) (p:List UInt8):Bool:=Yz l&&decide (p.length≤1000000)
theorem v5l {l:List Nod} {p:List UInt8} (ho:Yz l=true) (h:(Jh l != 0)=false): ∀(k i:Nat),i+k=l.length→ ∃N,Zo (z3k l p) N (.to (.h0 (i:Int)))=.ret [.int .i64 (v5m l p k i).1,.int .i64 (v5m l p k i).2]
 | 0,i,hk=>⟨1,by
  rw [Zv];unfold z3k;simp only [];rw [dlt_f (by omega)];rfl⟩
 | k+1,i,hk=>by
  have hl:=(z3w h).1;have w2:wrap .i64 ((i:Int)+1)=((i+1:Nat):Int):=wrap_t (by omega);have e:z3k l p (.h0 (i:Int))=bif Qi l (i:Int) == p then .ret [.int .i64 (i:Int),.int .i64 0] else .to (.h0 ((i+1:Nat):Int)):=by unfold z3k;simp only [Zn,w2];rw [dlt_t (by omega),Ag,Zr (y4p ho h (by omega) (by omega))]
  rw [v5m];cases g:Qi l (i:Int) == p with
  | true=>exact ⟨1,by rw [Zv,e,g];rfl⟩
  | false=>obtain ⟨N,hN⟩:=v5l (p:=p) ho h k (i+1) (by omega);exact ⟨N+1,by rw [Zv,e,g,Ad,Ad,hN]⟩
theorem v9x (l:List Nod) (p:List UInt8) (h:Uh l p=true): ∃N,Zo (z3k l p) N (z9h l p)=.ret [.int .i64 (z5o l p),.int .i64 (z5n l p)]:=by
 unfold Uh at h;rw [Ac] at h;unfold z9h z5o z5n fndQ;simp only [Zn];rw [Zr h.1,Zr (show Wo p=true from h.2)];cases g:Jh l != 0 with
 | true=>exact ⟨0,rfl⟩
 | false=>
  cases g2:y1z p != 0 with
  | true=>exact ⟨0,rfl⟩
  | false=>exact v5l h.1 g l.length 0 (Al _)
theorem v4d {l:List Nod} {p:List UInt8} (ho:Yz l=true) (h:(Jh l != 0)=false): ∀(k i:Nat),i+k=l.length→ ∃N,Zo (z2y l p) N (.to (.h0 (i:Int)))=.ret [.int .i64 (v5m l p k i).1,.int .i64 (v5m l p k i).2]
 | 0,i,hk=>⟨1,by
  rw [Zv];unfold z2y;simp only [];rw [dlt_f (by omega)];rfl⟩
 | k+1,i,hk=>by
  have hl:=(z3w h).1;have w2:wrap .i64 ((i:Int)+1)=((i+1:Nat):Int):=wrap_t (by omega);have e:z2y l p (.h0 (i:Int))=bif Qi l (i:Int) == p then .ret [.int .i64 (i:Int),.int .i64 0] else .to (.h0 ((i+1:Nat):Int)):=by unfold z2y;simp only [Zn,w2];rw [dlt_t (by omega),Ag,Zr (y4p ho h (by omega) (by omega))]
  rw [v5m];cases g:Qi l (i:Int) == p with
  | true=>exact ⟨1,by rw [Zv,e,g];rfl⟩
  | false=>obtain ⟨N,hN⟩:=v4d (p:=p) ho h k (i+1) (by omega);exact ⟨N+1,by rw [Zv,e,g,Ad,Ad,hN]⟩
theorem v8c (l:List Nod) (p:List UInt8) (h:Uh l p=true): ∃N,Zo (z2y l p) N (z8w l p)=.ret [.int .i64 (z5o l p),.int .i64 (z5n l p)]:=by
 unfold Uh at h;rw [Ac] at h;unfold z8w z5o z5n fndQ;simp only [Zn];rw [Zr h.1,Zr (show Wo p=true from h.2)];cases g:Jh l != 0 with
 | true=>exact ⟨0,rfl⟩
 | false=>
  cases g2:y1z p != 0 with
  | true=>exact ⟨0,rfl⟩
  | false=>exact v4d h.1 g l.length 0 (Al _)
def fFnd :List AVal→Option (AVal×Bool)
 | [a0,.str i]=>match asL Nod a0 with
  | some (L,g,n)=>some (.tup [.int .i64 (z5o L i),.int .i64 (z5n L i)],isT Nod n g&&Uh L i)
  | _=>none
 | _=>none
theorem u1t {S:Specs} (hS:Zw prog S):Zw prog (S.with fndN fFnd):=fOne hS (by kernel_rfl) fun args v h=>by
 unfold fFnd at h;split at h
 ·rename_i a0 i;split at h
  ·rename_i L g n e0;simp only [Ab,Aa,Ac] at h;obtain ⟨rfl,ho0,hw⟩:=h;obtain ⟨N,hN⟩:=v9x L i hw;exact ⟨_,_,(.cons (Yg e0 ho0) (.cons (.refl _) .nil)),rfl,v1e L i N _ hN,5,rfl⟩
  ·cases h
 ·cases h
theorem u0x {S:Specs} (hS:Zw prog S):Zw prog (S.with rfnN fFnd):=fOne hS (by kernel_rfl) fun args v h=>by
 unfold fFnd at h;split at h
 ·rename_i a0 i;split at h
  ·rename_i L g n e0;simp only [Ab,Aa,Ac] at h;obtain ⟨rfl,ho0,hw⟩:=h;obtain ⟨N,hN⟩:=v8c L i hw;exact ⟨_,_,(.cons (Yg e0 ho0) (.cons (.refl _) .nil)),rfl,w8y L i N _ hN,5,rfl⟩
  ·cases h
 ·cases h
def SzSd :Specs:=(((((SzSc.with patN fPat).with rpthN fPat).with pltN fPlt).with rpltN fPlt).with fndN fFnd).with rfnN fFnd
theorem y6m :Zw prog SzSd:=u0x (u1t (u0t (u1d (u0o (u1f Xw)))))
inductive lspS where
def lspC (l0:List Nod) (x1:Int) (x2:List UInt8):lspS→Cfg
 :=nofun
def x2u (l0:List Nod) (x1:Int) (x2:List UInt8):lspS→Ya lspS
 :=nofun
def z5e (l0:List Nod) (x1:Int) (x2:List UInt8):Ya lspS:=(bif (v9q (cvT l0)) then (.ret [(.bool true)]) else (bif (decide ((x2.length:Int)>5000)) then (.ret [(.bool true)]) else (bif (z1b (cvT l0) x1) then (bif (Uh (cvT l0) x2) then (bif (Ud (cvT l0) x1) then (bif (Yz (cvT l0)) then (bif (((Qy (cvT l0) x1).a == (Qy (cvT l0) x1).a)&&((((Qy (cvT l0) x1).b == (Qy (cvT l0) x1).b)&&(((Qy (cvT l0) x1).c == (Qy (cvT l0) x1).c)&&(((Qy (cvT l0) x1).d == (Qy (cvT l0) x1).d)&&true)))&&true)) then (.ret [(.bool ((z4v (cvT l0) x1) == (z4v (cvT l0) x1)))]) else (.ret [(.bool false)])) else .stuck) else .stuck) else .stuck) else .stuck)))
theorem x9w (l0:List Nod) (x1:Int) (x2:List UInt8): ∀s,Yh prog (Zz prog 3) (lspC l0 x1 x2) (lspC l0 x1 x2 s) (x2u l0 x1 x2 s)
 :=nofun
theorem x2v (l0:List Nod) (x1:Int) (x2:List UInt8):Yh prog (Zz prog 3) (lspC l0 x1 x2) (Zj prog 3 [(.dat l0.length (Zy l0)),(.int .i64 x1),(.str x2)] true []) (z5e l0 x1 x2):=(lb (fun k0=>(lr 97 3 [1,0,1,0,0] 1 3 [(6,(.bool true))] (sl y6m 20 [] ⟨[],[],[some [6]],[]⟩ ⟨[],[],[]⟩ (trs 4 []) (tt k0 (pp (xr l0) nn))))) (fun k0=>(lb (fun k1=>(lr 97 3 [1,0,1,0,0] 1 3 [(6,(.bool true))] (sl y6m 20 [] ⟨[],[],[some [6]],[]⟩ ⟨[],[],[]⟩ [false,false,false,true] (tt k1 (tt k0 (pp (xr l0) nn)))))) (fun k1=>(lo fun bF=>(lo fun cB=>(lo fun cJ=>(lo fun cQ=>(lb (fun k2=>(lr 97 3 [1,1,1,1,1,1,1,1,0] 1 3 [(6,(.bool ((z4v (cvT l0) x1) == (z4v (cvT l0) x1))))] (sl y6m 124 [] ⟨[],[],[some [6]],[]⟩ ⟨[],[],[]⟩ [false,false,false,false,true,true,true,true,true,true,true,true,true,true,true,true,true,true,true,true,true,true] (tt k2 (pp (xG (((z5n (cvT l0) x2) == (z5n (cvT l0) x2)) == true) (by simp)) (pp (xG (((z5o (cvT l0) x2) == (z5o (cvT l0) x2)) == true) (by simp)) (pp (xG (((z5a (cvT l0) x1) == (z5a (cvT l0) x1)) == true) (by simp)) (pp (xG (((z5b (cvT l0) x1) == (z5b (cvT l0) x1)) == true) (by simp)) (pp (xG (((Jh (cvT l0)) == (Jh (cvT l0))) == true) (by simp)) (pp (pp (xr l0) (xw cQ)) (pp (pp (xr l0) (xw cQ)) (pp (pp (xr l0) (xw cJ)) (pp (pp (xr l0) (xw cJ)) (pp (pp (xr l0) (xw cB)) (pp (pp (xr l0) (xw cB)) (pp (pp (xr l0) (xw bF)) (pp (pp (xr l0) (xw bF)) (tt k1 (tt k0 (pp (xr l0) nn)))))))))))))))))))) (fun k2=>(lr 97 3 [1,1,1,1,1,1,1,1,0] 1 3 [(6,(.bool false))] (sl y6m 124 [] ⟨[],[],[some [6]],[]⟩ ⟨[],[],[]⟩ [false,false,false,false,true,true,true,true,true,true,true,true,true,true,true,true,true,true,true,false,false,false] (tt k2 (pp (xG (((z5n (cvT l0) x2) == (z5n (cvT l0) x2)) == true) (by simp)) (pp (xG (((z5o (cvT l0) x2) == (z5o (cvT l0) x2)) == true) (by simp)) (pp (xG (((z5a (cvT l0) x1) == (z5a (cvT l0) x1)) == true) (by simp)) (pp (xG (((z5b (cvT l0) x1) == (z5b (cvT l0) x1)) == true) (by simp)) (pp (xG (((Jh (cvT l0)) == (Jh (cvT l0))) == true) (by simp)) (pp (pp (xr l0) (xw cQ)) (pp (pp (xr l0) (xw cQ)) (pp (pp (xr l0) (xw cJ)) (pp (pp (xr l0) (xw cJ)) (pp (pp (xr l0) (xw cB)) (pp (pp (xr l0) (xw cB)) (pp (pp (xr l0) (xw bF)) (pp (pp (xr l0) (xw bF)) (tt k1 (tt k0 (pp (xr l0) nn)))))))))))))))))))))))))))))
theorem lsp_ends (l0:List Nod) (x1:Int) (x2:List UInt8) (n:Nat) (vs:List AVal) (h:Zo (x2u l0 x1 x2) n (z5e l0 x1 x2)=.ret vs):Ws prog (Zz prog 3) (Zj prog 3 [(.dat l0.length (Zy l0)),(.int .i64 x1),(.str x2)] true []) vs:=by have:=Zk (x9w l0 x1 x2) n _ (x2v l0 x1 x2);rwa [h] at this
theorem v9o {l:List Nod} (h:v9q l=false):l.length≤220∧(l.length≤12∨200<l.length)∧ ∀x∈l,x.s.length≤12∧x.n.length≤500:=by
 unfold v9q at h;rw [AT] at h;have h2:=h.2;unfold greZ at h2;rw [AT,AY,Bool.and_eq_false_iff,AY,AY] at h2;have hl:l.length≤220:=by omega
 refine ⟨hl,by omega,fun x hx=> ?_⟩;have ht:l.take 300=l:=A5 (by omega);have h1:=h.1;rw [ht] at h1;have:=List.any_eq_false.1 h1 x hx;unfold greB at this;simp at this;omega
theorem v0x {l:List Nod} (h:v9q l=false):Yz l=true:=by obtain ⟨h1,h2,h3⟩:=v9o h;unfold Yz;rw [Ac,Ak];exact ⟨by omega,Aw.2 fun x hx=>Ae (h3 x hx).2⟩
theorem lsp_run (l:List Nod) (i:Int) (p:List UInt8) (ht:(l.all fun x=>decide (0≤x.t))=true): ∃N,Zo (x2u l i p) N (z5e l i p)=.ret [.bool true]:=⟨0,by
 show z5e l i p=_;unfold z5e;simp only [Zn];cases g:v9q l with
 | true=>rfl
 | false=>
  rw [Ad];by_cases g2:(p.length:Int)>5000
  ·rw [Ae g2];rfl
  ·have ho:=v0x g;rw [An g2,Ad,Zr (show z1b l i=true from ho),Zr (show Uh l p=true by unfold Uh;rw [ho,Ae (show p.length≤1000000 by omega)];rfl),Zr (show Ud l i=true by unfold Ud;rw [ho,ht];rfl),Zr ho];simp⟩
open Go.ChangeShapes Go.WideShapes Go.Deep
section
variable {P:Program}
def v9y (P:Program) (e:TypeId):List (TypeId×Nat):=match P.underlying e with
 | some (.struct fs)=>fs.toList.map fun f=>(f.type,f.offset)
 | _=>[]
theorem w5p {e t0 t1 t2 t3:TypeId} {a b c d:Nat} (h:v9y P e=[(t0,a),(t1,b),(t2,c),(t3,d)]): ∃fs:Array Field,P.underlying e=some (.struct fs)∧fs.size=4∧(∃f0,fs[0]? =some f0∧f0.type=t0∧f0.offset=a)∧(∃f1,fs[1]? =some f1∧f1.type=t1∧f1.offset=b)∧(∃f2,fs[2]? =some f2∧f2.type=t2∧f2.offset=c)∧ ∃f3,fs[3]? =some f3∧f3.type=t3∧f3.offset=d:=by
 unfold v9y at h;split at h
 ·rename_i fs hu;refine ⟨fs,hu,?_⟩;obtain ⟨l⟩:=fs;simp only at h
  match l,h with
  | [f0,f1,f2,f3],h=>simp only [A2,List.map_nil,Bc,Aa,and_true] at h;exact ⟨rfl,⟨f0,rfl,h.1.1,h.1.2⟩,⟨f1,rfl,h.2.1.1,h.2.1.2⟩,⟨f2,rfl,h.2.2.1.1,h.2.2.1.2⟩,f3,rfl,h.2.2.2.1,h.2.2.2.2⟩
 ·cases h
abbrev ksN6 :List IntKind:=[.i64,.i64,.i64,.i64,.i64,.i64]
abbrev ksF :List IntKind:=[.u8,.i64,.i64,.i64]
variable {HH:Type} {enc:TypeId×Value→HH} {w:World} {base:Nat} {held:Bool}
theorem x9q {t e:TypeId} {ks:List IntKind} {cs:List Value} {x:DataW HH×List MemPlace} {fuel:Nat} (ht:P.underlying t=some (.slice e)) (hk:z7m P 30 e=some ks) (hks:1≤ks.length)
  (h:DataW.trod enc P w base (fun _=>true) held fuel t cs=some x):
  ∃(v:Value) (n:Nat) (c:Nat→Nat→Int),cs=[v]∧Za (Jy fun k=>w.heap[k]?) (.dat n (fun i=>y7k ks (c i))) v:=by
 rcases open_slice ht h with ⟨h0,rfl⟩ | ⟨a,len,cap,m,fl,D,Pl,hcs,hb,hl,dD,hm,rfl,hi⟩
 ·exact ⟨_,0,fun _ _=>0,h0,.datn _⟩
 ·simp only [if_true] at hm;subst hm;by_cases hc0:m=0
  ·subst hc0;obtain rfl:len=0:=by omega
   exact ⟨_,0,fun _ _=>0,hcs,.datz _ _ _⟩
  ·have hspot:a.spot=none:=by
    obtain ⟨cs',hc',ht'⟩:=hi 0 (by omega);have I:=Jc 30 e ks hk _ _ _ ht';obtain ⟨_,cW,dS⟩:=World.cells?_some hc';have h1:=dS 0 (by rw [←cW,I.length];exact hks);obtain ⟨blk,off,spot⟩:=a;have h2:cs'[0]? =some (cs'[0]'(by rw [I.length];exact hks)):=(by simp);rw [h2] at h1
    simpa [Addr.add] using World.cell?_spot h1
   obtain ⟨blk,off,spot⟩:=a;simp only at hspot;subst hspot;obtain ⟨c,h1,h2⟩:=v1v (w:=w) hk hl hl hi;exact ⟨_,len,c,hcs,h1⟩
def NodB (x:Nod):Prop:=(0≤x.t∧x.t<256)∧(-9223372036854775808≤x.a∧x.a≤9223372036854775807)∧(-9223372036854775808≤x.x∧x.x≤9223372036854775807)∧(-9223372036854775808≤x.y∧x.y≤9223372036854775807)∧(-9223372036854775808≤x.z∧x.z≤9223372036854775807)
theorem open_nodes {t e tS tI tF tL b:TypeId} {v:Value} {d:DataW HH} {p:List MemPlace} (ht:P.underlying t=some (.slice e)) (hs:v9y P e=[(tS,0),(tI,1),(tF,2),(tL,6)]) (ce:P.cellsOf e=7) (c0:P.cellsOf tS=1) (c1:P.cellsOf tI=1) (c2:P.cellsOf tF=4) (c3:P.cellsOf tL=1)
  (uS:P.underlying tS=some .string) (kI:z7m P 30 tI=some [.i64]) (kF:z7m P 30 tF=some ksF) (u1:P.underlying tL=some (.slice b)) (kb:z7m P 30 b=some ksN6) {b0:Nat} (hv:Value.okWide P w .any b0 t v) (h:DataW.Trod enc P w base (fun _=>true) held t v d p):
  ∃X:List Nod,Za (Jy fun k=>w.heap[k]?) (.dat X.length (Zy X)) v∧ ∀x∈X,NodB x:=by
 obtain ⟨fuel,h⟩:=h;have hvc:v.cells.toList=[v]:=by
  unfold Value.okWide at hv;rw [ht] at hv;unfold Cell.okWide at hv;rw [ht] at hv;cases v <;> first | rfl | (simp [Cell.ok,ht] at hv)
 rcases open_slice ht h with ⟨h0,_⟩ | ⟨a,len,cap,m,fl,D,Pl,hcs,hb,hl,dD,hm,hx,hi⟩
 ·rw [hvc] at h0;obtain rfl:v=.slice none 0 0:=by simpa using h0
  exact ⟨[],.datn _,fun x hx=>by cases hx⟩
 ·rw [hvc] at hcs;obtain rfl:v=.slice (some a) len cap:=by simpa using hcs
  have hspot:a.spot=none:=by unfold Value.okWide at hv;rw [ht] at hv;unfold Cell.okWide at hv;rw [ht] at hv;simp only [Cell.ok,ht] at hv;exact hv.2.2.2.1
  obtain ⟨blk,off,spot⟩:=a;simp only at hspot;subst hspot;simp only [if_true] at hm;subst hm;obtain ⟨fs,hu,hsz,⟨f0,hf0,rfl,o0⟩,⟨f1,hf1,rfl,o1⟩,⟨f2,hf2,rfl,o2⟩,f3,hf3,rfl,o3⟩:=w5p hs;have key: ∀i,i<len→ ∃q:Nod×(Nat→Value),(∀j,j<7→w.cell? ⟨blk,off+(i*7+j),none⟩=some (q.2 j))∧(∀j (hj:j<7),Za (Jy fun k=>w.heap[k]?) ((Ym.cells q.1)[j]'hj) (q.2 j))∧NodB q.1:=by
   intro i hil;obtain ⟨cs',hc',ht'⟩:=hi i (by omega);obtain ⟨xs,n,_,hx',hcl,hxl,hf⟩:=DataW.trod_struct hu ht';have cW:cs'.length=7:=hcl.trans ce;have dS:=(World.cells?_some hc').2.2;have g0:=hf 0 f0 hf0;have g1:=hf 1 f1 hf1;have g2:=hf 2 f2 hf2;have g3:=hf 3 f3 hf3;rw [o0,c0,A0] at g0;rw [o1,c1] at g1;rw [o2,c2] at g2;rw [o3,c3] at g3;rw [Ar (show 0<xs.length by omega)] at g0;rw [Ar (show 1<xs.length by omega)] at g1;rw [Ar (show 2<xs.length by omega)] at g2;rw [Ar (show 3<xs.length by omega)] at g3;obtain ⟨s,s1,_,_⟩:=DataW.trod_string uS g0;obtain ⟨ns,n1,n2,n3⟩:=Jc 30 _ _ kI _ _ _ g1;obtain ⟨ms,m1,m2,m3⟩:=Jc 30 _ _ kF _ _ _ g2;obtain ⟨u,n',c,e1,e2⟩:=x9q u1 kb (by decide) g3
   match ns,n1,ms,m1 with
   | [a],_,[q0,q1,q2,q3],_=>
    have ecs:cs'=[.string s,.int .i64 a,.int .u8 q0,.int .i64 q1,.int .i64 q2,.int .i64 q3,u]:=by
     have h1:cs'=cs'.take 1++((cs'.drop 1).take 1++((cs'.drop 2).take 4++(cs'.drop 6).take 1)):=by
      match cs',cW with
      | [_,_,_,_,_,_,_],_=>rfl
     rw [h1,s1,n2,m2,e1];rfl
    have hb: ∀(k:IntKind) (n:Int),k.has n→k.min≤n∧n≤k.max:=fun k n h=>h;have b1:=hb .i64 a (n3 (.i64,a) (by simp));have b2:=hb .u8 q0 (m3 (.u8,q0) (by simp));have b3:=hb .i64 q1 (m3 (.i64,q1) (by simp));have b4:=hb .i64 q2 (m3 (.i64,q2) (by simp));have b5:=hb .i64 q3 (m3 (.i64,q3) (by simp));rw [show IntKind.i64.min= -9223372036854775808 from rfl,show IntKind.i64.max=9223372036854775807 from rfl] at b1 b3 b4 b5;rw [show IntKind.u8.min=0 from rfl,show IntKind.u8.max=255 from rfl] at b2;refine ⟨(⟨s.data.toList,a,q0,q1,q2,q3,lst R6 n' fun i=>y7k ksN6 (c i)⟩,fun j=>cs'.getD j undef),fun j hj=> ?_,fun j hj=> ?_,?_⟩
    ·have:=dS j (by omega);rw [ce] at this;simp only [Yd] at this;rw [show off+(i*7+j)=off+i*7+j by omega,this];show cs'[j]? =some (cs'.getD j undef);rw [A9,Ar (by omega)];rfl
    ·have last:=(Yg (α:=R6) (v:=.dat n' fun i=>y7k ksN6 (c i)) rfl (Yu fun i _=>rfl)).sound e2;rw [ecs]
     match j,hj with
     | 0,_=>exact .str s.data.toList
     | 1,_=>exact .int _ _
     | 2,_=>exact .int _ _
     | 3,_=>exact .int _ _
     | 4,_=>exact .int _ _
     | 5,_=>exact .int _ _
     | 6,_=>exact last
    ·exact ⟨⟨b2.1,Int.lt_of_le_of_lt b2.2 (by decide)⟩,b1,b3,b4,b5⟩
  let Q:Nat→Nod×(Nat→Value):=fun i=>if hil:i<len then (key i hil).choose else (Ym.d,fun _=>undef)
  have hQ: ∀i,i<len→(∀j,j<7→w.cell? ⟨blk,off+(i*7+j),none⟩=some ((Q i).2 j))∧(∀j (hj:j<7),Za (Jy fun k=>w.heap[k]?) ((Ym.cells (Q i).1)[j]'hj) ((Q i).2 j))∧NodB (Q i).1:=by intro i hil;have:=(key i hil).choose_spec;simp only [Q,hil,dif_pos];exact this
  have hXl:((List.range len).map fun i=>(Q i).1).length =len:=by simp
  have eU: ∀i,i<len→Zy ((List.range len).map fun i=>(Q i).1) i=Ym.cells (Q i).1:=fun i hi=>by show Ym.cells (rd _ i)=_;rw [Xf (by rw [hXl];exact hi)];simp only [List.getElem_map,List.getElem_range]
  refine ⟨(List.range len).map fun i=>(Q i).1,?_,fun x hx2=> ?_⟩
  ·rw [hXl];refine .dat len _ blk off 7 m (fun i j=>(Q i).2 j) hl (fun i hil=>by rw [eU i hil];rfl) (fun i j hil hj=> ?_) (fun i j hil hj=> ?_)
   ·have hj7:j<7:=by rw [eU i hil] at hj;exact hj
    have:=(hQ i hil).2.1 j hj7;simp only [eU i hil];exact this
   ·have e2:=(hQ i hil).1 j hj;unfold World.cell? at e2;split at e2
    ·rename_i cl el fz hb2;simp only [Option.isSome_none,Bool.false_eq_true,if_false] at e2;exact ⟨cl,el,fz,hb2,e2⟩
    ·cases e2
  ·obtain ⟨i,hi2,rfl⟩:=List.mem_map.1 hx2;exact (hQ i (AN.1 hi2)).2.2
end
end Go.Am
end
