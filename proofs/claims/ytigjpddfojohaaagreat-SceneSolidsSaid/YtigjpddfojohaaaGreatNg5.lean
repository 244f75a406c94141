/- A part of a proof: several texts in one. -/
import Derived.Test.YtigjpddfojohaaaGreatNg4
set_option maxRecDepth 1000000
set_option maxHeartbeats 8000000
set_option linter.unusedVariables false
set_option linter.unusedSimpArgs false
noncomputable section
namespace Go.Am
open IntKind (wrap)
open Go.Proofs Go.Sort Go.Shelf Go.RowKit Go.Lib
def FA (E:zo) (y:Int):Int:=(E.map fun e=>if e.a<=y then e.c else 0).sum
theorem JD (e:R3) (E:zo) (y:Int):FA (e::E) y=(if e.a<=y then e.c else 0)+FA E y:=by simp [FA]
theorem u3g {E F:zo} (h:E.Perm F) (y:Int):FA E y=FA F y:=by
 induction h with
 | nil=>rfl
 | cons e _ ih=>rw [JD,JD,ih]
 | swap a b l=>simp only [JD];omega
 | trans _ _ i1 i2=>rw [i1,i2]
theorem w5t (E:zo) (y:Int) (h: ∀e∈E,y<e.a):FA E y=0:=by
 induction E with
 | nil=>rfl
 | cons e E ih=>
  grind [JD]
theorem v8c (out:zq) (last:Int) (inn:Bool) (x:Int):Ui out last inn x=bif inn&& !(last == x) then push out last x else out:=by
 grind [Ui,push]
theorem x1g {out:zq} {last x:Int} (inn:Bool) (hc:Cy out) (hb: ∀s∈out,s.b<=last) (hx:last<=x):
  Cy (Ui out last inn x)/\(∀s∈Ui out last inn x,s.b<=x)/\ ∀y,pt (Ui out last inn x) y↔pt out y\/(inn=true/\last<=y/\y<x):=by
 rw [v8c];rcases Xz (inn&& !(last == x)) with q | q;all_goals grind [w5n]
def Asc (E:zo):Prop:=E.Pairwise fun e f=>e.a<=f.a
theorem v3f : ∀(E:zo) (o last:Int) (out:zq),Asc E->(∀e∈E,last<=e.a)->Cy out->(∀s∈out,s.b<=last)->
  Cy (Gn E o last (decide (o>0)) out)/\ ∀y,pt (Gn E o last (decide (o>0)) out) y↔pt out y\/(last<=y/\0<o+FA E y/\ ∃e∈E,y<e.a)
 | [],o,last,out,_,_,hc,_=>⟨hc,fun y=>⟨.inl,fun h=>h.elim id fun ⟨_,_,e,he,_⟩=>by cases he⟩⟩
 | e ::r,o,last,out,hE,hl,hc,hb=>by
  have he:=hl e (by simp);have hr:=A9.1 hE;obtain ⟨p1,p2,p3⟩:=x1g (decide (o>0)) hc hb he;obtain ⟨q1,q2⟩:=v3f r (o+e.c) e.a (Ui out last (decide (o>0)) e.a) hr.2 hr.1 p1 p2;rw [YS];refine ⟨q1,fun y=> ?_⟩;rw [q2,p3,JD];constructor
  .rintro ((h | ⟨h1,h2,h3⟩) | ⟨h1,h2,f,hf,h3⟩)
   .exact .inl h
   .right;have h1:=Ax h1;refine ⟨h2,?_,e,by simp,h3⟩;rw [AC (by omega),w5t r y fun f hf=>by have:=hr.1 f hf;omega];omega
   .right;refine ⟨by omega,?_,f,by simp [hf],h3⟩;rw [AJ h1];omega
  .rintro (h | ⟨h1,h2,f,hf,h3⟩)
   .exact .inl (.inl h)
   .by_cases hy:e.a<=y
    .right;rw [AJ hy] at h2;refine ⟨hy,by omega,f,?_,h3⟩;rcases AN.1 hf with rfl | hf
     .omega
     .exact hf
    .left;right;rw [AC hy,w5t r y fun f hf=>by have:=hr.1 f hf;omega] at h2;exact ⟨Af (by omega),h1,by omega⟩
theorem u3h (l:zq) (hv: ∀s∈l,s.a<s.b) (y:Int):0<=FA (DH l) y/\(0<FA (DH l) y↔pt l y):=by
 induction l with
 | nil=>grind [FA,DH,pt]
 | cons s l ih=>
  obtain ⟨i1,i2⟩:=ih fun t ht=>hv t (by simp [ht]);have hs:=hv s (by simp);have e:FA (DH (s::l)) y=(if s.a<=y/\y<s.b then 1 else 0)+FA (DH l) y:=by
   grind [DH,JD]
  rw [e];by_cases h:s.a<=y/\y<s.b
  .rw [AJ h];exact ⟨by omega,⟨fun _=>⟨s,by simp,h⟩,fun _=>by omega⟩⟩
  .rw [AC h];refine ⟨by omega,?_⟩;rw [Int.zero_add,i2];constructor
   .rintro ⟨t,ht,h2⟩;exact ⟨t,by simp [ht],h2⟩
   .rintro ⟨t,ht,h2⟩;rcases AN.1 ht with rfl | ht
    .grind
    .exact ⟨t,ht,h2⟩
theorem y7w {l:zq} {s:R2} (h:s∈l):(⟨s.b,0,-1⟩:R3)∈DH l/\(⟨s.a,0,1⟩:R3)∈DH l:=
 ⟨AM.2 ⟨s,h,by simp⟩,AM.2 ⟨s,h,by simp⟩⟩
theorem w4x (l:zo) (h:DN l=true):Asc (Ch l):=by
 refine Bn.2 fun i j hi hj hij=> ?_
 grind [Qr,Xm]
theorem Ri (l:zq) (hv:l.all C5=true):Cy (Du l)/\ ∀y,pt (Du l) y↔pt l y:=by
 have hb:DN (DH l)=true:=Au.2 fun e he=>by obtain ⟨s,hs,h1⟩:=AM.1 he;have hv:=Au.1 hv s hs;simp only [C5,Ac,Ao] at hv;simp only [AN,List.not_mem_nil,or_false] at h1;rcases h1 with rfl | rfl <;> exact Af (by grind)
 have fD: ∀s∈l,s.a<s.b:=fun s hs=>by
  grind [C5]
 obtain ⟨hp,_⟩:=Qr (DH l) hb;have ha:=w4x (DH l) hb;have hn: ∀y,FA (Ch (DH l)) y=FA (DH l) y:=fun y=>u3g hp y;unfold Du;generalize Ch (DH l)=E at hp ha hn;cases E with
 | nil=>refine ⟨.nil,fun y=>⟨fun ⟨s,hs,_⟩=>(by cases hs),fun ⟨s,hs,_⟩=> ?_⟩⟩;have:=hp.mem_iff.2 (y7w hs).1;cases this
 | cons e r=>
  have hr:=A9.1 ha;rw [YS,Int.zero_add];have e0:Ui [] 0 false e.a=[]:=rfl;rw [e0];obtain ⟨q1,q2⟩:=v3f r e.c e.a [] hr.2 hr.1 .nil (by simp);refine ⟨q1,fun y=> ?_⟩;rw [q2];obtain ⟨n1,n2⟩:=u3h l fD y;rw [<-n2,<-hn,JD];constructor
  .rintro (⟨s,hs,_⟩ | ⟨h1,h2,_⟩);all_goals grind
  .intro h;have hpt:=n2.1 (by rw [<-hn,JD];exact h);obtain ⟨s,hs,s1,s2⟩:=hpt;have m1:=hp.mem_iff.2 (y7w hs).1
   grind [y7w]
theorem x5m (out:zp) (hs:out.Pairwise (· < ·)) (x:Int): ∀k,k<=out.length->Eg out x k<=k/\(∀i,Eg out x k<=i->i<k->x<rd out i)/\(0<Eg out x k->rd out (Eg out x k - 1)<=x)
 | 0,_=>⟨Ar _,fun i h1 h2=>by omega,fun h=>by simp [Eg] at h⟩
 | k+1,hk=>by
  unfold Eg;rcases Xz (decide (rd out k>x)) with q | q
  .rw [q,Ab];obtain ⟨h1,h2,h3⟩:=x5m out hs x k (by omega);refine ⟨by omega,fun i a b=> ?_,h3⟩;rcases Be (Nat.le_of_lt_succ b) with rfl | b
   .exact Ax q
   .exact h2 i a b
  .rw [q,Aa];exact ⟨Ar _,fun i a b=>by omega,fun _=>by have:=BL q;simp only [Nat.add_sub_cancel];omega⟩
theorem v6t (out:zp) (hs:out.Pairwise (· < ·)) (x:Int):(Do out x).Pairwise (· < ·)/\ ∀y,y∈Do out x↔y∈out\/y=x:=by
 obtain ⟨h1,h2,h3⟩:=x5m out hs x out.length (Ar _);unfold Do;split
 .rename_i h0;rw [h0] at h2;refine ⟨A9.2 ⟨fun y hy=> ?_,hs⟩,fun y=>by grind⟩;obtain ⟨i,hi,rfl⟩:=AQ hy
  grind [Xm]
 .rename_i k hk;rw [hk] at h1 h2 h3;have h3:rd out k<=x:=h3 (Nat.succ_pos _);have hkl:k<out.length:=by omega
  rcases Xz (rd out k == x) with q | q
  .grind [Xm]
  .rw [q,Aa];have q:rd out k≠x:=by simpa using q
   refine ⟨?_,fun y=> ?_⟩
   .have st:(out.take (k+1)).Pairwise (· < ·):=hs.sublist (List.take_sublist _ _);have sd:(out.drop (k+1)).Pairwise (· < ·):=hs.sublist (List.drop_sublist _ _);have ht: ∀y∈out.take (k+1),y<x:=fun y hy=>by
     obtain ⟨i,hi,rfl⟩:=AQ hy;have hi':i<k+1:=(by grind);rw [BG];have:rd out i<=rd out k:=by
      rcases Be (Nat.le_of_lt_succ hi') with rfl | h
      .grind
      .exact Int.le_of_lt (HU hs h hkl)
     grind [Xm]
    have hd: ∀y∈out.drop (k+1),x<y:=fun y hy=>by obtain ⟨i,hi,rfl⟩:=AQ hy;simp_all [Xm]
    refine BS.2 ⟨st,A9.2 ⟨hd,sd⟩,fun a ha b hb=> ?_⟩
    grind
   .rw [AF,AN];constructor
    .grind
    .rintro (h | h)
     .rw [<-List.take_append_drop (k+1) out,AF] at h
      grind
     grind
theorem Vk (l:zp):(Cg l).Pairwise (· < ·)/\ ∀y,y∈Cg l↔y∈l:=by
 have: ∀(l out:zp),out.Pairwise (· < ·)->(l.foldl Do out).Pairwise (· < ·)/\ ∀y,y∈l.foldl Do out↔y∈out\/y∈l:=by
  intro l
  induction l with
  | nil=>grind
  | cons x l ih=>
   grind [v6t]
 simp_all [Cg]
theorem y3f : ∀(l m:zp),l.Pairwise (· < ·)->m.Pairwise (· < ·)->(∀x,x∈l↔x∈m)->l=m
 | [],[],_,_,_=>rfl
 | [],b::m,_,_,h=>by have:=(h b).2 (by simp);cases this
 | a::l,[],_,_,h=>by have:=(h a).1 (by simp);cases this
 | a::l,b::m,hl,hm,h=>by
  obtain ⟨a1,a2⟩:=A9.1 hl;obtain ⟨b1,b2⟩:=A9.1 hm;have e:a=b:=by
   have x1:=(h a).1 (by simp);have x2:=(h b).2 (by simp);rcases AN.1 x1 with x1 | x1
   .exact x1
   rcases AN.1 x2 with x2 | x2
   .exact x2.symm
   have:=b1 a x1;have:=a1 b x2;omega
  subst e
  congr 1
  refine y3f l m a2 b2 fun x=>⟨fun hx=> ?_,fun hx=> ?_⟩
  .rcases AN.1 ((h x).1 (by simp [hx])) with e | e
   .have:=a1 x hx;omega
   .exact e
  .rcases AN.1 ((h x).2 (by simp [hx])) with e | e
   .have:=b1 x hx;omega
   .exact e
theorem y3h (zs:zp) (hs:zs.Pairwise (· <= ·)): ∀m,m<=zs.length->(compactUpTo zs.toArray m).Pairwise (· < ·)/\ ∀x,x∈compactUpTo zs.toArray m↔x∈zs.take m
 | 0,_=>by simp [compactUpTo]
 | m +1,h=>by
  obtain ⟨h1,h2⟩:=y3h zs hs m (by omega);have hg: ∀j (hj:j<zs.length),zs.toArray[j]! =zs[j]:=fun j hj=>by simp [hj]
  have hle: ∀i j (hi:i<zs.length) (hj:j<zs.length),i<j->zs[i]<=zs[j]:=fun i j hi hj hij=>Bn.1 hs i j hi hj hij;have hm:m<zs.length:=by omega
  rw [compactUpTo_succ,hg m hm,List.take_succ_eq_append_getElem hm];by_cases hk:keeps zs.toArray m=true
  .rw [AJ hk];refine ⟨BS.2 ⟨h1,List.pairwise_singleton _ _,fun x hx y hy=> ?_⟩,fun x=>by rw [AF,AF,h2 x]⟩;rw [BM.1 hy];obtain ⟨i,hi,rfl⟩:=AQ ((h2 x).1 hx);have hi':i<m:=by simp at hi;omega
   rw [BG];simp only [keeps,Ao] at hk;rcases hk with hk | hk
   .omega
   .rw [hg m hm,hg (m - 1) (by omega)] at hk;have k1:zs[i]<=zs[m - 1]:=by
     rcases A7 i (m - 1) with q | q
     .exact hle i (m - 1) _ _ q
     .have e:i=m - 1:=(by omega);subst e;exact A6 _
    have k2:=hle (m - 1) m (by omega) hm (by omega);omega
  .rw [AC hk,AA];refine ⟨h1,fun x=> ?_⟩;rw [h2 x,AF,BM];refine ⟨.inl,fun hx=>hx.elim id fun e=> ?_⟩;simp only [keeps,Ao,not_or,Decidable.not_not] at hk;rw [hg m hm,hg (m - 1) (by omega)] at hk;rw [e,hk.2];have:m - 1<(zs.take m).length :=by simp;omega
   have e2:(zs.take m)[m - 1]=zs[m - 1]:=BG;rw [<-e2];exact AS this
theorem Nq (zs:zp):(Wz zs).Pairwise (· <= ·):=by have:=List.pairwise_mergeSort (le:=fun x y:Int=>decide (x<=y)) (fun a b c h1 h2=>by grind) (fun a b=>by simp;omega) zs;exact this.imp fun h=>by simpa using h
theorem j1s (zs:zp) (x:Int):x∈Wz zs↔x∈zs:=List.mem_mergeSort
theorem Fn (zs:zp):Ki zs=Cg zs:=by obtain ⟨h1,h2⟩:=y3h (Wz zs) (Nq zs) (Wz zs).length (Ar _);obtain ⟨s1,s2⟩:=Vk zs;refine y3f _ _ h1 s1 fun x=> ?_;rw [show Ki zs=compactUpTo (Wz zs).toArray (Wz zs).length from rfl,h2 x,B6,j1s,s2]
namespace CM
variable {α β:Type} (D:CM α β)
def ref (sec:Int->List β) (cs:zp):Nat->Nat->List α->List β->Nat->List α
 | 0,_,out,_,_=>out
 | k+1,i,out,last,first=>
  bif decide (0<i)&&D.same (sec (rd cs i)) last then ref sec cs k (i+1) (D.grow out first (rd cs (i+1))) last first
  else ref sec cs k (i+1) (out++(sec (rd cs i)).map (D.put (rd cs i) (rd cs (i+1)))) (sec (rd cs i)) out.length
theorem ref_eq (hs: ∀a b,D.same a b=true↔a=b) (l:List α): ∀(k i:Nat) (s:Sw α β) (out:List α) (last:List β) (first:Nat),
  s.out=out->s.last=last->(last≠ []->s.first=first)->(last=[]->out.length<=first)->(0<i->s.fin=rd (D.cuts l) i)->(i=0->last=[])->
  (D.go l k i s).out =D.ref (D.sec l) (D.cuts l) k i out last first
 | 0,i,s,out,last,first,h1,h2,h3,h4,h5,h6=>h1
 | k +1,i,s,out,last,first,h1,h2,h3,h4,h5,h6=>by
  subst h1 h2;have e1:D.go l (k+1) i s=D.go l k (i+1) (D.one l (rd (D.cuts l) i) (rd (D.cuts l) (i+1)) s):=rfl;rw [e1];unfold ref;rcases Xz (decide (0<(D.sec l (rd (D.cuts l) i)).length)&&((s.fin == rd (D.cuts l) i)&&D.same s.last (D.sec l (rd (D.cuts l) i)))) with q | q
  .have e:D.one l (rd (D.cuts l) i) (rd (D.cuts l) (i+1)) s=⟨D.grow s.out s.first (rd (D.cuts l) (i+1)),s.last,s.first,rd (D.cuts l) (i+1)⟩:=by unfold one;rw [q];rfl
   simp only [Ac,Ao] at q;obtain ⟨q1,q2,q3⟩:=q;have q3:=(hs _ _).1 q3;have hne:s.last≠ []:=fun h=>by rw [h] at q3;rw [<-q3] at q1;exact B7 _ q1
   have hi:0<i:=Nat.pos_of_ne_zero fun h=>hne (h6 h);have e2:(decide (0<i)&&D.same (D.sec l (rd (D.cuts l) i)) s.last)=true:=by rw [Af hi,Ak,hs,q3]
   rw [e2,Ab,e];refine ref_eq hs l k (i+1) _ _ _ _ ?_ rfl h3 (fun h=>absurd h hne) (fun _=>rfl) (fun h=>by omega);rw [h3 hne]
  .have e:D.one l (rd (D.cuts l) i) (rd (D.cuts l) (i+1)) s=⟨s.out++(D.sec l (rd (D.cuts l) i)).map (D.put (rd (D.cuts l) i) (rd (D.cuts l) (i+1))),D.sec l (rd (D.cuts l) i),s.out.length,rd (D.cuts l) (i+1)⟩:=by unfold one;rw [q];rfl
   rcases Xz (decide (0<i)&&D.same (D.sec l (rd (D.cuts l) i)) s.last) with q2 | q2
   .rw [q2,Ab,e];simp only [Ac,Ao] at q2;obtain ⟨hi,q3⟩:=q2;have q3:=(hs _ _).1 q3;rw [(hs s.last (D.sec l (rd (D.cuts l) i))).2 q3.symm,Ai,h5 hi] at q;have hz:D.sec l (rd (D.cuts l) i)=[]:=by
     cases h:D.sec l (rd (D.cuts l) i) with
     | nil=>rfl
     | cons a b=>rw [h] at q;simp at q
    have hl:s.last=[]:=(by rw [<-q3,hz]);have hf:=h4 hl;rw [hz,BN,AA];refine ref_eq hs l k (i+1) _ _ _ _ ?_ hl.symm (fun h=>absurd hl h) (fun _=> ?_) (fun _=>rfl) (fun h=>by omega)
    .exact (D.grow_nil _ _ _ hf).symm
    .rw [D.grow_length];exact hf
   .rw [q2,Aa,e];exact ref_eq hs l k (i+1) _ _ _ _ rfl rfl (fun _=>rfl) (fun h=>by rw [h];simp) (fun _=>rfl) (fun h=>by omega)
theorem out_eq (hs: ∀a b,D.same a b=true↔a=b) (l:List α):D.out l=D.ref (D.sec l) (D.cuts l) ((D.cuts l).length - 1) 0 [] [] 0:=
 D.ref_eq hs l _ 0 _ [] [] 0 rfl rfl (fun _=>rfl) (fun _=>Ar _) (fun h=>absurd h (B7 _)) (fun _=>rfl)
end CM
theorem v8s (l:zw):D4.cuts l=CO l []:=by unfold CM.cuts CO;rw [Fn,show Ds ([]:zw)=[] from rfl,AA];rfl
theorem v8a (l:zw) (x y:Int):Gi 2 l [] x y=Js l x y:=by
 grind [Gi,Fm,Js]
theorem Mp {l:zw} {x:Int} {s:R2} (h:s∈D4.inn l x): ∃r∈l,r.a<=x/\x<r.c/\s=⟨r.b,r.d⟩:=by obtain ⟨r,hr,e⟩:=Bh.1 h;obtain ⟨h1,h2⟩:=Bk.1 hr;simp only [Ac,Ao] at h2;exact ⟨r,h1,h2.1,h2.2,e.symm⟩
theorem v6h {l:zw} {x:Int} {r:R4} (h:r∈l) (h1:r.a<=x) (h2:x<r.c):(⟨r.b,r.d⟩:R2)∈D4.inn l x:=by refine Bh.2 ⟨r,Bk.2 ⟨h,?_⟩,rfl⟩;simp only [Ac,Ao];exact ⟨h1,h2⟩
theorem Nv (l:zw) (hv:l.all Kc=true) (hl:l.length<=400) (x:Int):D4.sec l x=Dp 2 l [] x:=by
 have hin:=D4.inn_length l x;have hvi:(D4.inn l x).all C5=true:=Au.2 fun s hs=>by
  grind [Mp,Kc,C5]
 have e1:D4.sec l x=Du (D4.inn l x):=by
  show Wp (D4.inn l x)=_
  grind [Wp]
 obtain ⟨c1,c2⟩:=Ri _ hvi;obtain ⟨y1,y2⟩:=Vk (D5 l++D5 []);have e2:Dp 2 l [] x=DI (CR l []) ((CR l []).map fun y=>Js l x y):=by
  unfold Dp
  congr 1
  simp_all [v8a]
 obtain ⟨d1,d2⟩:=w7d (CR l []) y1 (fun y=>Js l x y) (D4.inn l x) (fun s hs=>by
  obtain ⟨r,hr,_,_,rfl⟩:=Mp hs;unfold CR;exact ⟨(y2 _).2 (AF.2 (.inl (AM.2 ⟨r,hr,by simp⟩))),(y2 _).2 (AF.2 (.inl (AM.2 ⟨r,hr,by simp⟩)))⟩) (fun y=>by
  unfold Js;rw [BU];constructor
  .rintro ⟨r,hr,h⟩;simp only [PV,Ac,Ao] at h;exact ⟨_,v6h hr h.1 h.2.1,h.2.2.1,h.2.2.2⟩
  .rintro ⟨s,hs,h1,h2⟩
   grind [Mp,PV])
 grind [ZO]
theorem ZV (l:zw): ∀(k i:Nat) (out:zw) (last:zq) (first:Nat),jF 2 l [] k i out last first=D4.ref (Dp 2 l []) (CO l []) k i out last first
 | 0,_,_,_,_=>rfl
 | k+1,i,out,last,first=>by unfold jF CM.ref;rw [ZV l k,ZV l k];rfl
theorem PK (l:zw) (hv:l.all Kc=true) (hl:l.length<=400):D4.out l=C4 2 l []:=by
 rw [D4.out_eq (fun a b=>BO) l,C4,ZV,<-v8s]
 congr 1
 funext x
 exact Nv l hv hl x
theorem w4o (l:zx):D6.cuts l=Xj l []:=by unfold CM.cuts Xj;rw [Fn,show Dt ([]:zx)=[] from rfl,AA];rfl
theorem j1c (l:zx) (z:Int):D6.inn l z=CN l z:=rfl
theorem Z2 (r:R6):Kt r=Eb r:=by
 unfold Kt Eb;simp only [GF,GE];rw [AU];simp only [Ac,Ao];have m1: ∀x y z:Int,x<=min y z↔x<=y/\x<=z:=fun x y z=>by omega
 have m2: ∀x y z:Int,max y z<=x↔y<=x/\z<=x:=fun x y z=>by omega
 simp only [ge_iff_le,m1,m2]
 grind
theorem v8f (l:zx) (hv:l.all Kt=true) (z:Int):(CN l z).all Kc=true:=Au.2 fun s hs=>by
 obtain ⟨r,hr,rfl⟩:=Bh.1 hs;have:=Au.1 hv r (Bk.1 hr).1;rw [Z2] at this;simp only [Eb,Ac,Ao] at this;show Kc ⟨r.a,r.b,r.d,r.e⟩=true
 grind [Kc]
section
variable (l:zx) (hv:l.all Kt=true) (hl:l.length<=400)
include hv hl
theorem j0x (z:Int):D4.out (CN l z)=C4 2 (CN l z) []:=PK _ (v8f l hv z) (AG (W1 l z) hl)
theorem j0w (z:Int):E0 l z=EC 2 l [] z:=by
 have h1:=j0x l hv hl z;have h2:=W1 l z;have e:C4 2 (CN [] z) []=[]:=rfl
 grind [E0,EC,DA,CN,j1c,Xk,v8f]
theorem j2m (z:Int) (h:E0 l z=false):D6.sec l z=DA 2 l [] z:=by
 have h1:=j0x l hv hl z;have h2:=W1 l z;rw [j0w l hv hl] at h;show Zb (D6.inn l z)=C4 2 (CN l z) (CN [] z)
 grind [j1c,Zb,CN,EC,v8f]
theorem w2g : ∀(k i:Nat) (out:zx) (last:zw) (first:Nat),Gs 2 l [] k i out last first=bif Ce l k i then some (D6.ref (D6.sec l) (D6.cuts l) k i out last first) else none
 | 0,_,_,_,_=>rfl
 | k+1,i,out,last,first=>by
  unfold Gs Ce CM.ref;rw [<-w4o,<-j0w l hv hl];rcases Xz (E0 l (rd (D6.cuts l) i)) with q | q
  .rw [q];rfl
  .have:=j2m l hv hl _ q;rw [q,Aa,Aa,this,w2g k,w2g k];have e:D6.same (DA 2 l [] (rd (D6.cuts l) i)) last=Vs (DA 2 l [] (rd (D6.cuts l) i)) last:=rfl;rw [e];cases (decide (0<i)&&Vs (DA 2 l [] (rd (D6.cuts l) i)) last) <;> rfl
theorem PI :Gr 2 l []=bif Ce l ((D6.cuts l).length - 1) 0 then some (D6.out l) else none:=by unfold Gr;rw [w2g l hv hl,<-w4o,D6.out_eq (fun a b=>BO) l]
end
theorem XK (l:zx):Yt l=Ju l:=by
 unfold Yt Ju;by_cases h:400<l.length
 .grind
 .rw [An h,Aa,Aa,show l.all Eb=l.all Kt from by grind [Z2]];rcases Xz (l.all Kt) with hv | hv
  .rw [hv,Ab,Ab];unfold IL EI Jr;rw [PI l hv (by omega)]
   grind
  grind
open Go.Proofs Go.Lib Go.Sort
def J0 (x:zu):Prop:= ∀c∈x,c≠47
theorem y8a : ∀(x cur rest:zu),J0 x->Cm 47 cur (x++rest)=Cm 47 (cur++x) rest
 | [],cur,rest,h=>by rw [A1,AA]
 | c::x,cur,rest,h=>by
  have hc:(c == (47:UInt8))=false:=by have:=h c Br;simp [this]
  rw [BV,Cm,hc,Aa,y8a x (cur++[c]) rest fun d hd=>h d (Bz _ hd),AH];rfl
theorem x6p : ∀(r:List zu) (cur:zu),(∀p∈r,J0 p)->Cm 47 cur (Lib.joinTail [47] r)=cur::r
 | [],cur,h=>rfl
 | y::r,cur,h=>by
  have e:Lib.joinTail [47] (y::r)=47::(y++Lib.joinTail [47] r):=by simp [Lib.joinTail]
  rw [e,Cm,show ((47:UInt8) == 47)=true from rfl,Ab,y8a y [] _ (h y Br),A1,x6p r y fun p hp=>h p (Bz _ hp)]
theorem x6q {L:List zu} (h0:L≠ []) (h: ∀p∈L,J0 p):Cm 47 [] (Lib.join L [47])=L:=by
 cases L with
 | nil=>exact absurd rfl h0
 | cons x r=>rw [Lib.join_cons,y8a x [] _ (h x Br),A1,x6p r x fun p hp=>h p (Bz _ hp)]
theorem x5t : ∀(i:Nat) (x:zu),Gl i x=true->J0 x
 | _,[],_=>fun c hc=>by cases hc
 | i,d::x,h=>fun c hc=>by
  rw [Gl,Ac] at h;cases hc with
  | head=>intro e;subst e;have h1:=h.1;unfold JT I1 digN at h1;revert h1;cases decide (i≠0) <;> decide
  | tail _ hc=>exact x5t (i+1) x h.2 c hc
theorem v6c {x:zu} (h:Cu x=true):J0 x:=by unfold Cu at h;rw [Ac,Ac] at h;exact x5t 0 x h.2.2
theorem u4b {L M:List zu} (hL:L≠ []) (hM:M≠ []) (h1: ∀p∈L,J0 p) (h2: ∀p∈M,J0 p) (h:Lib.join L [47]=Lib.join M [47]):L=M:=by rw [<-x6q hL h1,<-x6q hM h2,h]
theorem F0 (a b:Int):a<b\/b<=a:=by omega
def SK (l:zt) (i:Nat):Prop:=EO l i=true/\ ∀j,j<=i->Cu (rd l j).n =true
def Ot (l:zt) (i:Nat):Prop:= ∀j k,j<k->k<i-> ¬((rd l j).a =(rd l k).a /\(rd l j).n =(rd l k).n)
def Fw (l:zt) (i:Int):List zu:=C9 l (i.toNat+1) i
theorem ZM (l:zt) {i:Int} (h:i<0):Fw l i=[]:=NJ l _ (by omega)
theorem Iy {l:zt} {t j:Nat} (ht:EO l t=true) (hj:j<=t):Fw l (j:Int)=(rd l j).n ::Fw l (rd l j).a :=by
 have hb:=Qw ht hj;unfold Fw;rw [Zj,C9,Af (show (0:Int)<=(j:Int) by omega),Ab,Zj]
 congr 1
 exact w4s ht _ _ _ (by omega) (by omega) (by omega)
theorem x1s {l:zt} {t:Nat} (h:SK l t): ∀(k:Nat) (i:Int),i<=(t:Int)-> ∀p∈C9 l k i,J0 p
 | 0,i,hi,p,hp=>by cases hp
 | k+1,i,hi,p,hp=>by
  unfold C9 at hp;by_cases g:0<=i
  .obtain ⟨j,rfl⟩: ∃j:Nat,i=(j:Int):=⟨i.toNat,by omega⟩
   rw [Af g,Ab,Zj] at hp;cases hp with
   | head=>exact v6c (h.2 j (by omega))
   | tail _ hp=>have hb:=Qw h.1 (show j<=t by omega);exact x1s h k _ (by omega) p hp
  .rw [An g] at hp;cases hp
theorem v3a {l:zt} {t:Nat} (h:SK l t) (hn:Ot l t): ∀(m j k:Nat),j<m->j<t->k<t->Fw l (j:Int)=Fw l (k:Int)->j=k
 | 0,j,k,hm,_,_,_=>absurd hm (AD _)
 | m +1,j,k,hm,hj,hk,e=>by
  rw [Iy h.1 (show j<=t by omega),Iy h.1 (show k<=t by omega),Bq] at e;have bj:=Qw h.1 (show j<=t by omega);have bk:=Qw h.1 (show k<=t by omega);have ea:(rd l j).a =(rd l k).a :=by
   rcases F0 (rd l j).a 0 with a1 | a1
   .rcases F0 (rd l k).a 0 with a2 | a2
    .omega
    .exfalso;obtain ⟨q,hq⟩: ∃q:Nat,(rd l k).a =(q:Int):=⟨(rd l k).a.toNat,by omega⟩
     rw [ZM l a1,hq,Iy h.1 (show q<=t by omega)] at e;cases e.2
   .obtain ⟨p,hp⟩: ∃p:Nat,(rd l j).a =(p:Int):=⟨(rd l j).a.toNat,by omega⟩
    rcases F0 (rd l k).a 0 with a2 | a2
    .exfalso;rw [ZM l a2,hp,Iy h.1 (show p<=t by omega)] at e;cases e.2
    .obtain ⟨q,hq⟩: ∃q:Nat,(rd l k).a =(q:Int):=⟨(rd l k).a.toNat,by omega⟩
     rw [hp,hq] at e;have:=v3a h hn m p q (by omega) (by omega) (by omega) e.2;omega
  rcases Bs j k with g | g | g
  .exact absurd ⟨ea,e.1⟩ (hn j k g hk)
  .exact g
  .exact absurd ⟨ea.symm,e.1.symm⟩ (hn k j g hj)
theorem u2v {l:zt} {i k:Nat} (h:SK l i) (hn:Ot l i) (hk:k<i):Cb l (k:Int)=Cb l (i:Int)↔(rd l k).a =(rd l i).a /\(rd l k).n =(rd l i).n :=by
 have bi:=Qw h.1 (Ar i);have bk:=Qw h.1 (show k<=i by omega);have ek:=Iy h.1 (show k<=i by omega);have ei:=Iy h.1 (Ar i);constructor
 .intro e;have e:Fw l (k:Int)=Fw l (i:Int):=by have:=u4b (L:=(Fw l (k:Int)).reverse) (M:=(Fw l (i:Int)).reverse) (by rw [ek];simp) (by rw [ei];simp) (fun p hp=>x1s h _ _ (by omega) p (List.mem_reverse.1 hp)) (fun p hp=>x1s h _ _ (A6 _) p (List.mem_reverse.1 hp)) e;exact List.reverse_inj.1 this
  rw [ek,ei,Bq] at e;refine ⟨?_,e.1⟩;rcases F0 (rd l k).a 0 with a1 | a1
  .rcases F0 (rd l i).a 0 with a2 | a2
   .omega
   .exfalso;obtain ⟨q,hq⟩: ∃q:Nat,(rd l i).a =(q:Int):=⟨(rd l i).a.toNat,by omega⟩
    rw [ZM l a1,hq,Iy h.1 (show q<=i by omega)] at e;cases e.2
  .obtain ⟨p,hp⟩: ∃p:Nat,(rd l k).a =(p:Int):=⟨(rd l k).a.toNat,by omega⟩
   rcases F0 (rd l i).a 0 with a2 | a2
   .exfalso;rw [ZM l a2,hp,Iy h.1 (show p<=i by omega)] at e;cases e.2
   .obtain ⟨q,hq⟩: ∃q:Nat,(rd l i).a =(q:Int):=⟨(rd l i).a.toNat,by omega⟩
    rw [hp,hq] at e;have:=v3a h hn (p+1) p q (by omega) (by omega) (by omega) e.2;omega
 .intro ⟨e1,e2⟩;show Lib.join (Fw l (k:Int)).reverse [47]=Lib.join (Fw l (i:Int)).reverse [47];rw [ek,ei,e1,e2]
def HV (l:zt):Int:=match l.find? fun x=>Yt x.s != 0 with
 | some x=>Yt x.s
 | none=>0
def FP (l:zt) (i:Nat):Bool:= !(Cu (rd l i).n)||(decide ((rd l i).a < -1)||(decide ((rd l i).a >=(i:Int))||(CW (rd l i).t (rd l i).x (rd l i).y (rd l i).z != 0)))
def twin (l:zt) (i:Nat):Bool:=(List.range i).any fun k=>((rd l k).a == (rd l i).a)&&((rd l k).n == (rd l i).n)
def EE (l:zt) (i:Nat):Bool:=FP l i||(D8 (Cb l (i:Int)) != 0||twin l i)
def Kx (l:zt):Int:=bif decide (200<l.length) then 4 else bif HV l != 0 then HV l else bif (List.range l.length).any (EE l) then 8 else 0
def Yh (l:zt):Bool:=decide (l.length<=1000000)&&l.all fun x=>decide (x.n.length<=500)
def Gh (l:zt) (i:Nat):Prop:= ∀j,j<i->EE l j=false
theorem Y8 {l:zt} {i:Nat} (h:FP l i=false):Cu (rd l i).n =true/\ -1<=(rd l i).a /\(rd l i).a <(i:Int)/\CW (rd l i).t (rd l i).x (rd l i).y (rd l i).z =0:=by unfold FP at h;simp only [A4,Bool.not_eq_false',Ba,bne_eq_false_iff_eq] at h;exact ⟨h.1,by omega,by omega,h.2.2.2⟩
theorem Y3 {l:zt} {i:Nat} (h:Gh l i) (hi:FP l i=false):SK l i:=by
 have hb: ∀j,j<=i->FP l j=false:=fun j hj=>by
  rcases A7 j i with g | g
  .have:=h j g;unfold EE at this;rw [A4] at this;exact this.1
  .rw [show j=i by omega];exact hi
 refine ⟨Au.2 fun j hj=> ?_,fun j hj=>(Y8 (hb j hj)).1⟩;have:=Y8 (hb j (by have:=AP.1 hj;omega));rw [Ac,Ao,Ao];exact ⟨this.2.1,this.2.2.1⟩
theorem v1m {l:zt} {i:Nat} (h:Gh l i):Ot l i:=fun j k hjk hk ⟨e1,e2⟩=>by have:=h k hk;unfold EE twin at this;rw [A4,A4] at this;have:=List.any_eq_false.1 this.2.2 j (AP.2 hjk);rw [e1,e2] at this;simp at this
def Tx (l:zt) (i:Nat) (m:List (zu×Bool)):Prop:= ∀p,getK false m p=(List.range i).any fun k=>Cb l (k:Int) == p
theorem v6y (m:List (zu×Bool)) (p q:zu):getK false (Et m p true) q=(p == q||getK false m q):=by
 induction m with
 | nil=>
  show (bif q == p then true else false)=_;have e:(p == q)=(q == p):=by rw [AU,Bi,Bi];exact eq_comm
  rw [e,show getK false [] q=false from rfl];cases q == p <;> rfl
 | cons x m ih=>
  unfold Et;cases g:p == x.1 with
  | true=>
   rw [Ab];show (bif q == x.1 then true else getK false m q)=(p == q||bif q == x.1 then x.2 else getK false m q);have e1:=Bi.1 g;rw [<-e1];have e:(p == q)=(q == p):=by rw [AU,Bi,Bi];exact eq_comm
   rw [e];cases q == p <;> rfl
  | false=>
   rw [Aa];show (bif q == x.1 then x.2 else getK false (Et m p true) q)=(p == q||bif q == x.1 then x.2 else getK false m q);rw [ih];cases g2:q == x.1 with
   | true=>
    have:(p == q)=false:=by rw [Bi.1 g2];exact g
    rw [this];rfl
   | false=>rfl
theorem w8f {l:zt} {i:Nat} {m:List (zu×Bool)} (h:Tx l i m):Tx l (i+1) (Et m (Cb l (i:Int)) true):=fun p=>by rw [v6y,h p,BQ,List.any_append,Bool.or_comm];simp
theorem w8e {l:zt} {i:Nat} {m:List (zu×Bool)} (hs:Tx l i m) (h:Gh l i) (hi:FP l i=false):getK false m (Cb l (i:Int))=twin l i:=by
 rw [hs];unfold twin;have e: ∀k∈List.range i,(Cb l (k:Int) == Cb l (i:Int))=(((rd l k).a == (rd l i).a)&&((rd l k).n == (rd l i).n)):=fun k hk=>by rw [AU,Ac,Bi,Bi,Bi];exact u2v (Y3 h hi) (v1m h) (AP.1 hk)
 rw [AU,BU,BU];constructor
 .intro ⟨k,h1,h2⟩;exact ⟨k,h1,by rw [<-e k h1];exact h2⟩
 .intro ⟨k,h1,h2⟩;exact ⟨k,h1,by rw [e k h1];exact h2⟩
theorem x2t {l:zt} {i:Nat} (ho:Yh l=true) (hl:l.length<=1000) (hi:i<l.length) (h:SK l i):Vu l (i:Int)=true:=by unfold Yh at ho;unfold Vu;rw [Ac] at ho;rw [Zj,Af (show (0:Int)<=(i:Int)/\(i:Int)<(l.length:Int) by omega),Af hl,h.1,ho.2];rfl
open Go.Proofs.Tryz
def FS (T:Int) (l:zt):Int:=match l.find? fun x=>Yt x.s != 0 with
 | some x=>Yt x.s
 | none=>T
theorem y6l (T:Int) (x:CD) (l:zt):FS T (x::l)=bif Yt x.s != 0 then Yt x.s else FS T l:=by unfold FS;rw [List.find?_cons];cases Yt x.s != 0 <;> rfl
theorem x8m (T:Int): ∀l:zt,FS T l=bif HV l != 0 then HV l else T
 | []=>rfl
 | x::l=>by
  have e:HV (x::l)=bif Yt x.s != 0 then Yt x.s else HV l:=by unfold HV;rw [List.find?_cons];cases Yt x.s != 0 <;> rfl
  rw [y6l,e,x8m T l];cases g:Yt x.s != 0 with
  | true=>rw [Ab,Ab,g,Ab]
  | false=>rfl
def badF (l:zt):Nat->Nat->Bool
 | 0,_=>false
 | k+1,i=>EE l i||badF l k (i+1)
theorem x1i (l:zt): ∀(k i:Nat),badF l k i=(List.range k).any fun j=>EE l (i+j)
 | 0,i=>rfl
 | k+1,i=>by
  rw [badF,x1i l k (i+1),List.range_succ_eq_map,List.any_cons,List.any_map]
  congr 1
  congr 1
  funext j
  show EE l (i+1+j)=EE l (i+(j+1))
  congr 1;omega
theorem w7e (l:zt):badF l l.length 0=(List.range l.length).any (EE l):=by
 rw [x1i]
 congr 1
 funext j
 rw [Ah]
theorem u7f {l:zt} {T:Int} (hl:l.length<=1000) (hT: ∃N,Yx (Qk l) N (.to (.h1 0 []))=.ret [.int .i64 T]): ∀(k i:Nat),i+k=l.length-> ∃N,Yx (Qk l) N (.to (.h0 (i:Int)))=.ret [.int .i64 (FS T (l.drop i))]
 | 0,i,h=>by
  obtain ⟨N,hN⟩:=hT;refine ⟨N+1,?_⟩;rw [Zx,Av (by omega)];have e:Qk l (.h0 (i:Int))=.to (.h1 0 []):=by unfold Qk;simp only [];rw [Ym (by omega)];rfl
  rw [e,hN];rfl
 | k+1,i,h=>by
  have hi:i<l.length:=by omega
  have w2:wrap .i64 ((i:Int)+1)=((i+1:Nat):Int):=Zk (by omega);have e:Qk l (.h0 (i:Int))=bif Yt (rd l i).s != 0 then .ret [.int .i64 (Yt (rd l i).s)] else .to (.h0 ((i+1:Nat):Int)):=by unfold Qk;simp only [Zj,w2,Za];rw [Zt (by omega),Ab,Ai,Zi (Zr (by omega))];rfl
  rw [Yo hi,y6l];cases g:Yt (rd l i).s != 0 with
  | true=>exact ⟨1,by rw [Zx,e,g];rfl⟩
  | false=>obtain ⟨N,hN⟩:=u7f hl hT k (i+1) (by omega);exact ⟨N+1,by rw [Zx,e,g,Aa,Aa,hN]⟩
theorem u0i {l:zt} {i:Nat} {m:List (zu×Bool)} (ho:Yh l=true) (hl:l.length<=1000) (hi:i<l.length) (hf:Gh l i) (hs:Tx l i m):
  Qk l (.h1 (i:Int) m)=bif EE l i then .ret [.int .i64 8] else .to (.h1 ((i+1:Nat):Int) (Et m (Cb l (i:Int)) true)):=by
 have w2:wrap .i64 ((i:Int)+1)=((i+1:Nat):Int):=Zk (by omega);have hn:Uy (rd l i).n =true:=by unfold Yh at ho;rw [Ac] at ho;have:=TA ho.2 i;exact Af (by omega)
 unfold Qk;simp only [Zj,w2,Za];rw [Zt (by omega),Ab,Ai,Zi (Zr (by omega)),Zi hn];unfold EE;cases hb:FP l i with
 | true=>
  rw [Bool.true_or,Ab];unfold FP at hb;revert hb;cases Cu (rd l i).n with
  | false=>intro _;rfl
  | true=>
   cases decide ((rd l i).a < -1) with
   | true=>intro _;rfl
   | false=>
    cases decide ((rd l i).a >=(i:Int)) with
    | true=>intro _;rfl
    | false=>
     cases CW (rd l i).t (rd l i).x (rd l i).y (rd l i).z != 0 with
     | true=>intro _;rfl
     | false=>intro h;cases h
 | false=>obtain ⟨b1,b2,b3,b4⟩:=Y8 hb;have hk:=Y3 hf hb;have hp:=x2t ho hl hi hk;rw [b1,Aw,Aa,Ym (by omega),Aa,El (by omega),Aa,b4,show ((0:Int) != 0)=false from rfl,Aa,Zi hp,w8e hs hf hb,Zi (show Jj (Cb l (i:Int))=true from Af (x2u hp)),Bc];cases twin l i <;> cases D8 (Cb l (i:Int)) != 0 <;> rfl
theorem x0y {l:zt} {i:Nat} (h:Gh l i) (hi:EE l i=false):Gh l (i+1):=fun j hj=>by
 rcases A7 j i with g | g
 .exact h j g
 .rw [show j=i by omega];exact hi
theorem u7e {l:zt} (ho:Yh l=true) (hl:l.length<=1000): ∀(k i:Nat) (m:List (zu×Bool)),i+k=l.length->Gh l i->Tx l i m-> ∃N,Yx (Qk l) N (.to (.h1 (i:Int) m))=.ret [.int .i64 (bif badF l k i then 8 else 0)]
 | 0,i,m,h,hf,hs=>⟨1,by
  rw [Zx];unfold Qk;simp only [];rw [Ym (by omega)];rfl⟩
 | k+1,i,m,h,hf,hs=>by
  have e:=u0i ho hl (show i<l.length by omega) hf hs;rw [badF];cases g:EE l i with
  | true=>exact ⟨1,by rw [Zx,e,g];rfl⟩
  | false=>obtain ⟨N,hN⟩:=u7e ho hl k (i+1) _ (by omega) (x0y hf g) (w8f hs);exact ⟨N+1,by rw [Zx,e,g,Aa,hN,Bc]⟩
theorem j2t (l:zt) (h:Yh l=true): ∃N,Yx (Qk l) N (YL l)=.ret [.int .i64 (Kx l)]:=by
 unfold YL Kx;by_cases g:200<l.length
 .rw [Ys (by omega),Af g];exact ⟨0,rfl⟩
 .rw [Xg (by omega),An g,Aa,Aa];have hT:=u7e h (by omega) l.length 0 [] (Ah _) (fun j hj=>absurd hj (AD _)) fun p=>rfl;have:=u7f (by omega) hT l.length 0 (Ah _);rw [AO,x8m,w7e] at this;exact this
def F6 :zy->Option (B9×Bool)
 | [a0]=>match CY CD a0 with
  | some (L,g,n)=>some (.int .i64 (Kx L),CX CD n g&&Yh L)
  | _=>none
 | _=>none
theorem j7i {S:CB} (hS:Zw prog S):Zw prog (S.with UI F6):=Kv hS (by kernel_rfl) fun args v h=>by
 unfold F6 at h;split at h
 .rename_i a0;split at h
  .rename_i L g n e0;simp only [Ad,Ae,Ac] at h;obtain ⟨rfl,ho0,hw⟩:=h;obtain ⟨N,hN⟩:=j2t L hw;exact ⟨_,_,(.cons (Yi e0 ho0) .nil),rfl,u0j L N _ hN,3,rfl⟩
  .cases h
 .cases h
theorem u7u {l:zt} {T:Int} (hl:l.length<=1000) (hT: ∃N,Yx (Va l) N (.to (.h1 0))=.ret [.int .i64 T]): ∀(k i:Nat),i+k=l.length-> ∃N,Yx (Va l) N (.to (.h0 (i:Int)))=.ret [.int .i64 (FS T (l.drop i))]
 | 0,i,h=>by
  obtain ⟨N,hN⟩:=hT;refine ⟨N+1,?_⟩;rw [Zx,Av (by omega)];have e:Va l (.h0 (i:Int))=.to (.h1 0):=by unfold Va;simp only [];rw [Ym (by omega)];rfl
  rw [e,hN];rfl
 | k+1,i,h=>by
  have hi:i<l.length:=by omega
  have w2:wrap .i64 ((i:Int)+1)=((i+1:Nat):Int):=Zk (by omega);have e:Va l (.h0 (i:Int))=bif Yt (rd l i).s != 0 then .ret [.int .i64 (Yt (rd l i).s)] else .to (.h0 ((i+1:Nat):Int)):=by unfold Va;simp only [Zj,w2,Za];rw [Zt (by omega),Ab,Ai,Zi (Zr (by omega)),XK];rfl
  rw [Yo hi,y6l];cases g:Yt (rd l i).s != 0 with
  | true=>exact ⟨1,by rw [Zx,e,g];rfl⟩
  | false=>obtain ⟨N,hN⟩:=u7u hl hT k (i+1) (by omega);exact ⟨N+1,by rw [Zx,e,g,Aa,Aa,hN]⟩
def twF (l:zt) (a:Int) (n:zu):Nat->Nat->Bool
 | 0,_=>false
 | k+1,i=>(((rd l i).a == a)&&((rd l i).n == n))||twF l a n k (i+1)
theorem x4l (l:zt) (a:Int) (n:zu): ∀(k i:Nat),twF l a n k i=(List.range k).any fun j=>((rd l (i+j)).a == a)&&((rd l (i+j)).n == n)
 | 0,i=>rfl
 | k+1,i=>by
  rw [twF,x4l l a n k (i+1),List.range_succ_eq_map,List.any_cons,List.any_map]
  congr 1
  congr 1
  funext j
  show (_:Bool)=((rd l (i+(j+1))).a == a&&(rd l (i+(j+1))).n == n);rw [show i+1+j=i+(j+1) by omega]
theorem u7s {l:zt} {i:Nat} {n:zu} {a t x y z:Int} {s:zx} (hi:i<l.length) (hl:l.length<=1000) {T:Int} (hT: ∃N,Yx (Va l) N (.to (.h1 ((i+1:Nat):Int)))=.ret [.int .i64 T]):
  ∀(k j:Nat),j+k=i-> ∃N,Yx (Va l) N (.to (.h2 (i:Int) (j:Int) n a t x y z s))=.ret [.int .i64 (bif twF l a n k j then 8 else T)]
 | 0,j,h=>by
  obtain ⟨N,hN⟩:=hT;have w2:wrap .i64 ((i:Int)+1)=((i+1:Nat):Int):=Zk (by omega);refine ⟨N+1,?_⟩;have e:Va l (.h2 (i:Int) (j:Int) n a t x y z s)=.to (.h1 ((i+1:Nat):Int)):=by unfold Va;simp only [w2];rw [Ym (by omega)];rfl
  rw [Zx,e,hN];rfl
 | k+1,j,h=>by
  have w2:wrap .i64 ((j:Int)+1)=((j+1:Nat):Int):=Zk (by omega);have e:Va l (.h2 (i:Int) (j:Int) n a t x y z s)=bif ((rd l j).a == a)&&((rd l j).n == n) then .ret [.int .i64 8] else .to (.h2 (i:Int) ((j+1:Nat):Int) n a t x y z s):=by unfold Va;simp only [Zj,w2];rw [Zt (by omega),Ab,Ai,Zi (Zr (by omega))];cases (rd l j).a == a <;> cases (rd l j).n == n <;> rfl
  rw [twF];cases g:((rd l j).a == a)&&((rd l j).n == n) with
  | true=>exact ⟨1,by rw [Zx,e,g];rfl⟩
  | false=>obtain ⟨N,hN⟩:=u7s (n:=n) (a:=a) (t:=t) (x:=x) (y:=y) (z:=z) (s:=s) hi hl hT k (j+1) (by omega);exact ⟨N+1,by rw [Zx,e,g,Aa,hN,Bc]⟩
theorem u0y {l:zt} {i:Nat} (ho:Yh l=true) (hl:l.length<=1000) (hi:i<l.length) (hf:Gh l i):
  Va l (.h1 (i:Int))=bif FP l i||(D8 (Cb l (i:Int)) != 0) then .ret [.int .i64 8] else .to (.h2 (i:Int) 0 (rd l i).n (rd l i).a (rd l i).t (rd l i).x (rd l i).y (rd l i).z (rd l i).s):=by
 have hn:Uy (rd l i).n =true:=by unfold Yh at ho;rw [Ac] at ho;have:=TA ho.2 i;exact Af (by omega)
 unfold Va;simp only [Zj,Za];rw [Zt (by omega),Ab,Ai,Zi (Zr (by omega)),Zi hn];cases hb:FP l i with
 | true=>
  rw [Bool.true_or,Ab];unfold FP at hb;revert hb;cases Cu (rd l i).n with
  | false=>intro _;rfl
  | true=>
   cases decide ((rd l i).a < -1) with
   | true=>intro _;rfl
   | false=>
    cases decide ((rd l i).a >=(i:Int)) with
    | true=>intro _;rfl
    | false=>
     cases CW (rd l i).t (rd l i).x (rd l i).y (rd l i).z != 0 with
     | true=>intro _;rfl
     | false=>intro h;cases h
 | false=>obtain ⟨b1,b2,b3,b4⟩:=Y8 hb;have hk:=Y3 hf hb;have hp:=x2t ho hl hi hk;rw [b1,Aw,Aa,Ym (by omega),Aa,El (by omega),Aa,b4,show ((0:Int) != 0)=false from rfl,Aa,Zi hp,Zi (show Jj (Cb l (i:Int))=true from Af (x2u hp)),Bc]
theorem w4t (l:zt) (i:Nat):twF l (rd l i).a (rd l i).n i 0=twin l i:=by
 rw [x4l];unfold twin
 congr 1
 funext j
 rw [Ah]
theorem u7t {l:zt} (ho:Yh l=true) (hl:l.length<=1000): ∀(k i:Nat),i+k=l.length->Gh l i-> ∃N,Yx (Va l) N (.to (.h1 (i:Int)))=.ret [.int .i64 (bif badF l k i then 8 else 0)]
 | 0,i,h,hf=>⟨1,by
  rw [Zx];unfold Va;simp only [];rw [Ym (by omega)];rfl⟩
 | k +1,i,h,hf=>by
  have hi:i<l.length:=by omega
  have e:=u0y ho hl hi hf;rw [badF];have hb:EE l i=((FP l i||(D8 (Cb l (i:Int)) != 0))||twin l i):=by unfold EE;rw [Bool.or_assoc]
  cases g:FP l i||(D8 (Cb l (i:Int)) != 0) with
  | true=>exact ⟨1,by rw [Zx,e,hb,g];rfl⟩
  | false=>
   cases g2:twin l i with
   | true=>
    have hx: ∀(k j:Nat),j+k=i->twF l (rd l i).a (rd l i).n k j=true-> ∃N,Yx (Va l) N (.to (.h2 (i:Int) (j:Int) (rd l i).n (rd l i).a (rd l i).t (rd l i).x (rd l i).y (rd l i).z (rd l i).s))=.ret [.int .i64 8]:=by
     intro k
     induction k with
     | zero=>intro j _ hq;cases hq
     | succ k ih=>
      intro j hj hq;have w2:wrap .i64 ((j:Int)+1)=((j+1:Nat):Int):=Zk (by omega);have e:Va l (.h2 (i:Int) (j:Int) (rd l i).n (rd l i).a (rd l i).t (rd l i).x (rd l i).y (rd l i).z (rd l i).s)=bif ((rd l j).a == (rd l i).a)&&((rd l j).n == (rd l i).n) then .ret [.int .i64 8] else .to (.h2 (i:Int) ((j+1:Nat):Int) (rd l i).n (rd l i).a (rd l i).t (rd l i).x (rd l i).y (rd l i).z (rd l i).s):=by unfold Va;simp only [Zj,w2];rw [Zt (by omega),Ab,Ai,Zi (Zr (by omega))];cases (rd l j).a == (rd l i).a <;> cases (rd l j).n == (rd l i).n <;> rfl
      rw [twF] at hq;cases g:((rd l j).a == (rd l i).a)&&((rd l j).n == (rd l i).n) with
      | true=>exact ⟨1,by rw [Zx,e,g];rfl⟩
      | false=>rw [g,Bc] at hq;obtain ⟨N,hN⟩:=ih (j+1) (by omega) hq;exact ⟨N+1,by rw [Zx,e,g,Aa,hN]⟩
    obtain ⟨N,hN⟩:=hx i 0 (Ah _) (by rw [w4t];exact g2);refine ⟨N+1,?_⟩;rw [Zx,e,g,Aa,hb,g,g2];exact hN
   | false=>
    have hbf:EE l i=false:=by rw [hb,g,g2];rfl
    have ht:=u7t ho hl k (i+1) (by omega) (x0y hf hbf);obtain ⟨N,hN⟩:=u7s (n:=(rd l i).n) (a:=(rd l i).a) (t:=(rd l i).t) (x:=(rd l i).x) (y:=(rd l i).y) (z:=(rd l i).z) (s:=(rd l i).s) hi hl ht i 0 (Ah _);rw [w4t,g2,Aa] at hN;refine ⟨N+1,?_⟩;rw [Zx,e,g,Aa,hbf,Bc];exact hN
theorem j3i (l:zt) (h:Yh l=true): ∃N,Yx (Va l) N (YG l)=.ret [.int .i64 (Kx l)]:=by
 unfold YG Kx;by_cases g:200<l.length
 .rw [Ys (by omega),Af g];exact ⟨0,rfl⟩
 .rw [Xg (by omega),An g,Aa,Aa];have hT:=u7t h (by omega) l.length 0 (Ah _) (fun j hj=>absurd hj (AD _));have:=u7u (by omega) hT l.length 0 (Ah _);rw [AO,x8m,w7e] at this;exact this
theorem j7p {S:CB} (hS:Zw prog S):Zw prog (S.with UQ F6):=Kv hS (by kernel_rfl) fun args v h=>by
 unfold F6 at h;split at h
 .rename_i a0;split at h
  .rename_i L g n e0;simp only [Ad,Ae,Ac] at h;obtain ⟨rfl,ho0,hw⟩:=h;obtain ⟨N,hN⟩:=j3i L hw;exact ⟨_,_,(.cons (Yi e0 ho0) .nil),rfl,u0z L N _ hN,3,rfl⟩
  .cases h
 .cases h
def WH :CB:=(WI.with UI F6).with UQ F6
theorem Gc :Zw prog WH:=j7p (j7i Wg)
inductive If where
def P9 (x0:Int):If->CI
 :=nofun
def w3c (x0:Int):If->Yr If
 :=nofun
def TJ (x0:Int):Yr If:=(bif ((wrap IntKind.u8 (Int.tdiv x0 2)) == 0) then (.ret [(.agg [(.int .i64 (wrap .i64 (1 - (wrap .i64 (2*(wrap .i64 (Int.tmod x0 2))))))),(.int .i64 0),(.int .i64 0)])]) else (bif ((wrap IntKind.u8 (Int.tdiv x0 2)) == 1) then (.ret [(.agg [(.int .i64 0),(.int .i64 (wrap .i64 (1 - (wrap .i64 (2*(wrap .i64 (Int.tmod x0 2))))))),(.int .i64 0)])]) else (.ret [(.agg [(.int .i64 0),(.int .i64 0),(.int .i64 (wrap .i64 (1 - (wrap .i64 (2*(wrap .i64 (Int.tmod x0 2)))))))])])))
theorem v1o (x0:Int): ∀s,Xx prog (Zy prog 138) (P9 x0) (P9 x0 s) (w3c x0 s)
 :=nofun
theorem w3d (x0:Int):Xx prog (Zy prog 138) (P9 x0) (Zp prog 138 [(.int .u8 x0)] true []) (TJ x0):=let a:=ii (wr (1 - (wr (2*(wr (Int.tmod x0 2))))));let b:=Zq prog 138 (pn 299) 1;let c:=Zy prog 105;(lb (fun k0=>(Yu ⟨⟨21,0,true⟩,none,b,none,c,⟨Zs [(2,(.ptr 0 0))],Xe [⟨[a,(ii 0),(ii 0)],34,none⟩] 0,1,[],true⟩,[],.leaf⟩ (sl Gc 32 [] ⟨[0],[],[some [2]],[]⟩ a6 [true] (tt k0 nn)) rfl (by kernel_rfl))) (fun k0=>(lb (fun k1=>(Yu ⟨⟨21,0,true⟩,none,b,none,c,⟨Zs [(2,(.ptr 0 0))],Xe [⟨[(ii 0),a,(ii 0)],34,none⟩] 0,1,[],true⟩,[],.leaf⟩ (sl Gc 38 [] ⟨[0],[],[some [2]],[]⟩ a6 (bl 2 2) (tt k1 (tt k0 nn))) rfl (by kernel_rfl))) (fun k1=>(Yu ⟨⟨21,0,true⟩,none,(Zq prog 3 (pn 767) 1),none,c,⟨Zs [(2,(.ptr 0 0))],Xe [⟨[(ii 0),(ii 0),a],34,none⟩] 0,1,[],true⟩,[],.leaf⟩ (sl Gc 40 [] ⟨[0],[],[some [2]],[]⟩ a6 (bl 2 0) (tt k1 (tt k0 nn))) rfl (by kernel_rfl))))))
theorem u4u (x0:Int) (n:Nat) (vs:zy) (h:Yx (w3c x0) n (TJ x0)=.ret vs):Vi prog (Zy prog 138) (Zp prog 138 [(.int .u8 x0)] true []) vs:=by have:=Zg (v1o x0) n _ (w3d x0);rwa [h] at this
inductive II where
def Oa (x0:Int):II->CI
 :=nofun
def w0r (x0:Int):II->Yr II
 :=nofun
def SP (x0:Int):Yr II:=(bif ((Int.tmod x0 2) == 1) then (bif (decide (x0<2)) then (.ret [(.agg [(.int .i64 (-1)),(.int .i64 0),(.int .i64 0)])]) else (bif (decide (x0<4)) then (.ret [(.agg [(.int .i64 0),(.int .i64 (-1)),(.int .i64 0)])]) else (.ret [(.agg [(.int .i64 0),(.int .i64 0),(.int .i64 (-1))])]))) else (bif (decide (x0<2)) then (.ret [(.agg [(.int .i64 1),(.int .i64 0),(.int .i64 0)])]) else (bif (decide (x0<4)) then (.ret [(.agg [(.int .i64 0),(.int .i64 1),(.int .i64 0)])]) else (.ret [(.agg [(.int .i64 0),(.int .i64 0),(.int .i64 1)])]))))
theorem w9y (x0:Int): ∀s,Xx prog (Zy prog 105) (Oa x0) (Oa x0 s) (w0r x0 s)
 :=nofun
theorem w0s (x0:Int):Xx prog (Zy prog 105) (Oa x0) (Zp prog 105 [(.int .i64 x0)] true []) (SP x0):=let a:=Zy prog 105;let b:=Zq prog 105 (pn 303) 1;let c:=Zq prog 3 (pn 767) 1;let d:=Zq prog 105 (pn 151) 1;(lb (fun k0=>(lb (fun k1=>(Yu ⟨⟨17,0,true⟩,none,d,none,a,⟨Zs [(2,(.ptr 0 0))],Xe [⟨[(ii (-1)),(ii 0),(ii 0)],34,none⟩] 0,1,[],true⟩,[],.leaf⟩ (sl Gc 32 [] ⟨[0],[],[some [2]],[]⟩ a6 (bl 2 3) (tt k1 (tt k0 nn))) rfl (by kernel_rfl))) (fun k1=>let e:=tt k1 (tt k0 nn);(lb (fun k2=>(Yu ⟨⟨17,0,true⟩,none,b,none,a,⟨Zs [(2,(.ptr 0 0))],Xe [⟨[(ii 0),(ii (-1)),(ii 0)],34,none⟩] 0,1,[],true⟩,[],.leaf⟩ (sl Gc 40 [] ⟨[0],[],[some [2]],[]⟩ a6 (bl 3 5) (tt k2 e)) rfl (by kernel_rfl))) (fun k2=>(Yu ⟨⟨17,0,true⟩,none,c,none,a,⟨Zs [(2,(.ptr 0 0))],Xe [⟨[(ii 0),(ii 0),(ii (-1))],34,none⟩] 0,1,[],true⟩,[],.leaf⟩ (sl Gc 41 [] ⟨[0],[],[some [2]],[]⟩ a6 (bl 3 1) (tt k2 e)) rfl (by kernel_rfl))))))) (fun k0=>(lb (fun k1=>(Yu ⟨⟨17,0,true⟩,none,d,none,a,⟨Zs [(2,(.ptr 0 0))],Xe [⟨[(ii 1),(ii 0),(ii 0)],34,none⟩] 0,1,[],true⟩,[],.leaf⟩ (sl Gc 30 [] ⟨[0],[],[some [2]],[]⟩ a6 (bl 2 2) (tt k1 (tt k0 nn))) rfl (by kernel_rfl))) (fun k1=>let f:=tt k1 (tt k0 nn);(lb (fun k2=>(Yu ⟨⟨17,0,true⟩,none,b,none,a,⟨Zs [(2,(.ptr 0 0))],Xe [⟨[(ii 0),(ii 1),(ii 0)],34,none⟩] 0,1,[],true⟩,[],.leaf⟩ (sl Gc 38 [] ⟨[0],[],[some [2]],[]⟩ a6 (bl 3 4) (tt k2 f)) rfl (by kernel_rfl))) (fun k2=>(Yu ⟨⟨17,0,true⟩,none,c,none,a,⟨Zs [(2,(.ptr 0 0))],Xe [⟨[(ii 0),(ii 0),(ii 1)],34,none⟩] 0,1,[],true⟩,[],.leaf⟩ (sl Gc 39 [] ⟨[0],[],[some [2]],[]⟩ a6 (bl 3 0) (tt k2 f)) rfl (by kernel_rfl))))))))
theorem u2i (x0:Int) (n:Nat) (vs:zy) (h:Yx (w0r x0) n (SP x0)=.ret vs):Vi prog (Zy prog 105) (Zp prog 105 [(.int .i64 x0)] true []) vs:=by have:=Zg (w9y x0) n _ (w0s x0);rwa [h] at this
structure R9 where
 (a b c d e f g h i:Int)
def fdS (d:Int):Int:=wrap .i64 (1 - wrap .i64 (2*wrap .i64 (Int.tmod d 2)))
def C7 (d:Int):R3:=bif wrap .u8 (Int.tdiv d 2) == 0 then ⟨fdS d,0,0⟩ else bif wrap .u8 (Int.tdiv d 2) == 1 then ⟨0,fdS d,0⟩ else ⟨0,0,fdS d⟩
def D0 (d:Int):R3:=bif Int.tmod d 2 == 1 then (bif decide (d<2) then ⟨-1,0,0⟩ else bif decide (d<4) then ⟨0,-1,0⟩ else ⟨0,0,-1⟩) else (bif decide (d<2) then ⟨1,0,0⟩ else bif decide (d<4) then ⟨0,1,0⟩ else ⟨0,0,1⟩)
def Iq (v:R3):B9:=.agg [.int .i64 v.a,.int .i64 v.b,.int .i64 v.c]
theorem j6v (d:Int) (_:True): ∃N,Yx (w3c d) N (TJ d)=.ret [Iq (C7 d)]:=⟨0,by
 show TJ d=_;unfold TJ C7;cases wrap .u8 (Int.tdiv d 2) == 0
 .cases wrap .u8 (Int.tdiv d 2) == 1 <;> rfl
 .rfl⟩
theorem j4u (d:Int) (_:True): ∃N,Yx (w0r d) N (SP d)=.ret [Iq (D0 d)]:=⟨0,by
 show SP d=_;unfold SP D0;cases Int.tmod d 2 == 1 <;> cases decide (d<2) <;> cases decide (d<4) <;> rfl⟩
def QQ :zy->Option (B9×Bool)
 | [.int .u8 d]=>some (Iq (C7 d),true)
 | _=>none
def QB :zy->Option (B9×Bool)
 | [.int .i64 d]=>some (Iq (D0 d),true)
 | _=>none
theorem j9f {S:CB} (hS:Zw prog S):Zw prog (S.with V3 QQ):=Kv hS (by kernel_rfl) fun args v h=>by
 unfold QQ at h;split at h
 .rename_i d;simp only [Ad,Ae] at h;obtain ⟨rfl,ho⟩:=h;obtain ⟨N,hN⟩:=j6v d ho;exact ⟨_,_,.cons (.refl _) .nil,rfl,u4u d N _ hN,5,rfl⟩
 .cases h
theorem j8h {S:CB} (hS:Zw prog S):Zw prog (S.with U7 QB):=Kv hS (by kernel_rfl) fun args v h=>by
 unfold QB at h;split at h
 .rename_i d;simp only [Ad,Ae] at h;obtain ⟨rfl,ho⟩:=h;obtain ⟨N,hN⟩:=j4u d ho;exact ⟨_,_,.cons (.refl _) .nil,rfl,u2i d N _ hN,5,rfl⟩
 .cases h
def WG :CB:=(WH.with V3 QQ).with U7 QB
theorem Gw :Zw prog WG:=j8h (j9f Gc)
def tab9 :List R9:=[⟨1,0,0,0,1,0,0,0,1⟩,⟨1,0,0,0,-1,0,0,0,-1⟩,⟨1,0,0,0,0,1,0,-1,0⟩,⟨1,0,0,0,0,-1,0,1,0⟩,⟨-1,0,0,0,1,0,0,0,-1⟩,⟨-1,0,0,0,-1,0,0,0,1⟩,⟨-1,0,0,0,0,1,0,1,0⟩,⟨-1,0,0,0,0,-1,0,-1,0⟩,⟨0,1,0,1,0,0,0,0,-1⟩,⟨0,1,0,-1,0,0,0,0,1⟩,⟨0,1,0,0,0,1,1,0,0⟩,⟨0,1,0,0,0,-1,-1,0,0⟩,⟨0,-1,0,1,0,0,0,0,1⟩,⟨0,-1,0,-1,0,0,0,0,-1⟩,⟨0,-1,0,0,0,1,-1,0,0⟩,⟨0,-1,0,0,0,-1,1,0,0⟩,⟨0,0,1,1,0,0,0,1,0⟩,⟨0,0,1,-1,0,0,0,-1,0⟩,⟨0,0,1,0,1,0,-1,0,0⟩,⟨0,0,1,0,-1,0,1,0,0⟩,⟨0,0,-1,1,0,0,0,-1,0⟩,⟨0,0,-1,-1,0,0,0,1,0⟩,⟨0,0,-1,0,1,0,1,0,0⟩,⟨0,0,-1,0,-1,0,-1,0,0⟩]
def CC (t:Int):R9:=tab9.getD t.toNat ⟨0,0,0,0,0,0,0,0,0⟩
def Wm (t:Int):Bool:=decide (0<=t/\t<24)
def SN (v:R9):B9:=.agg [.int .i64 v.a,.int .i64 v.b,.int .i64 v.c,.int .i64 v.d,.int .i64 v.e,.int .i64 v.f,.int .i64 v.g,.int .i64 v.h,.int .i64 v.i]
inductive Ih where
def Pb (x0:Int):Ih->CI
 :=nofun
def Y9 (x0:Int):Ih->Yr Ih
 :=nofun
def XM (x0:Int):Yr Ih:=(bif (decide ((Int.tmod x0 4)>=(wrap IntKind.u8 ((wrap IntKind.u8 (Int.tdiv (wrap IntKind.u8 (Int.tdiv x0 4)) 2))*2)))) then (.ret [(.agg [(.int .i64 (C7 (wrap IntKind.u8 (Int.tdiv x0 4))).a),(.int .i64 (C7 (wrap IntKind.u8 (Int.tdiv x0 4))).b),(.int .i64 (C7 (wrap IntKind.u8 (Int.tdiv x0 4))).c),(.int .i64 (C7 (wrap IntKind.u8 ((Int.tmod x0 4)+2))).a),(.int .i64 (C7 (wrap IntKind.u8 ((Int.tmod x0 4)+2))).b),(.int .i64 (C7 (wrap IntKind.u8 ((Int.tmod x0 4)+2))).c),(.int .i64 (wrap .i64 ((wrap .i64 ((C7 (wrap IntKind.u8 (Int.tdiv x0 4))).b *(C7 (wrap IntKind.u8 ((Int.tmod x0 4)+2))).c)) - (wrap .i64 ((C7 (wrap IntKind.u8 (Int.tdiv x0 4))).c *(C7 (wrap IntKind.u8 ((Int.tmod x0 4)+2))).b))))),(.int .i64 (wrap .i64 ((wrap .i64 ((C7 (wrap IntKind.u8 (Int.tdiv x0 4))).c *(C7 (wrap IntKind.u8 ((Int.tmod x0 4)+2))).a)) - (wrap .i64 ((C7 (wrap IntKind.u8 (Int.tdiv x0 4))).a *(C7 (wrap IntKind.u8 ((Int.tmod x0 4)+2))).c))))),(.int .i64 (wrap .i64 ((wrap .i64 ((C7 (wrap IntKind.u8 (Int.tdiv x0 4))).a *(C7 (wrap IntKind.u8 ((Int.tmod x0 4)+2))).b)) - (wrap .i64 ((C7 (wrap IntKind.u8 (Int.tdiv x0 4))).b *(C7 (wrap IntKind.u8 ((Int.tmod x0 4)+2))).a)))))])]) else (.ret [(.agg [(.int .i64 (C7 (wrap IntKind.u8 (Int.tdiv x0 4))).a),(.int .i64 (C7 (wrap IntKind.u8 (Int.tdiv x0 4))).b),(.int .i64 (C7 (wrap IntKind.u8 (Int.tdiv x0 4))).c),(.int .i64 (C7 (Int.tmod x0 4)).a),(.int .i64 (C7 (Int.tmod x0 4)).b),(.int .i64 (C7 (Int.tmod x0 4)).c),(.int .i64 (wrap .i64 ((wrap .i64 ((C7 (wrap IntKind.u8 (Int.tdiv x0 4))).b *(C7 (Int.tmod x0 4)).c)) - (wrap .i64 ((C7 (wrap IntKind.u8 (Int.tdiv x0 4))).c *(C7 (Int.tmod x0 4)).b))))),(.int .i64 (wrap .i64 ((wrap .i64 ((C7 (wrap IntKind.u8 (Int.tdiv x0 4))).c *(C7 (Int.tmod x0 4)).a)) - (wrap .i64 ((C7 (wrap IntKind.u8 (Int.tdiv x0 4))).a *(C7 (Int.tmod x0 4)).c))))),(.int .i64 (wrap .i64 ((wrap .i64 ((C7 (wrap IntKind.u8 (Int.tdiv x0 4))).a *(C7 (Int.tmod x0 4)).b)) - (wrap .i64 ((C7 (wrap IntKind.u8 (Int.tdiv x0 4))).b *(C7 (Int.tmod x0 4)).a)))))])]))
theorem v1q (x0:Int): ∀s,Xx prog (Zy prog 102) (Pb x0) (Pb x0 s) (Y9 x0 s)
 :=nofun
theorem w3g (x0:Int):Xx prog (Zy prog 102) (Pb x0) (Zp prog 102 [(.int .u8 x0)] true []) (XM x0):=let d:=C7 (wrap IntKind.u8 (Int.tdiv x0 4));let g:=Zq prog 3 (pn 767) 1;let h:=Int.tmod x0 4;let i:=Zy prog 79;(lb (fun k0=>let e:=C7 (wrap IntKind.u8 (h+2));(Yu ⟨⟨28,0,true⟩,none,g,none,i,⟨Zs [(2,(.ptr 0 0))],Xe [⟨[(ii d.a),(ii d.b),(ii d.c),(ii e.a),(ii e.b),(ii e.c),(ii (wr ((wr (d.b *e.c)) - (wr (d.c *e.b))))),(ii (wr ((wr (d.c *e.a)) - (wr (d.a *e.c))))),(ii (wr ((wr (d.a *e.b)) - (wr (d.b *e.a)))))],130,none⟩] 0,1,[],true⟩,[],.leaf⟩ (sl Gw 44 [] ⟨[0],[],[some [2]],[]⟩ a6 [true] (tt k0 nn)) rfl (by kernel_rfl))) (fun k0=>let f:=C7 h;(Yu ⟨⟨28,0,true⟩,none,g,none,i,⟨Zs [(2,(.ptr 0 0))],Xe [⟨[(ii d.a),(ii d.b),(ii d.c),(ii f.a),(ii f.b),(ii f.c),(ii (wr ((wr (d.b *f.c)) - (wr (d.c *f.b))))),(ii (wr ((wr (d.c *f.a)) - (wr (d.a *f.c))))),(ii (wr ((wr (d.a *f.b)) - (wr (d.b *f.a)))))],130,none⟩] 0,1,[],true⟩,[],.leaf⟩ (sl Gw 40 [] ⟨[0],[],[some [2]],[]⟩ a6 [false] (tt k0 nn)) rfl (by kernel_rfl))))
theorem u4w (x0:Int) (n:Nat) (vs:zy) (h:Yx (Y9 x0) n (XM x0)=.ret vs):Vi prog (Zy prog 102) (Zp prog 102 [(.int .u8 x0)] true []) vs:=by have:=Zg (v1q x0) n _ (w3g x0);rwa [h] at this
inductive IB where
 | h0 (v5:Int)
 | h1 (v4:zp) (v5:Int)
def O4 (x0:Int):IB->CI
 | .h0 v5=>⟨⟨37,0,true⟩,none,(Zq prog 79 (pn 151) 0),none,(Zy prog 79),⟨Zs [(0,(ii x0)),(2,(.ptr 0 0)),(3,(ii (wr (Int.tdiv x0 4)))),(4,.nils),(5,(ii v5))],Xe [⟨[(ii 0),(ii 0),(ii 0),(ii 0),(ii 0),(ii 0),(ii 0),(ii 0),(ii 0)],130,none⟩] 0,1,[],true⟩,[],.leaf⟩
 | .h1 v4 v5=>⟨⟨37,0,true⟩,none,(Zq prog 79 (pn 151) 0),none,(Zy prog 79),⟨Zs [(0,(ii x0)),(2,(.ptr 0 0)),(3,(ii (wr (Int.tdiv x0 4)))),(4,(.sla 1 1 0 v4.length (.un 1))),(5,(ii v5))],Xe [⟨[(ii 0),(ii 0),(ii 0),(ii 0),(ii 0),(ii 0),(ii 0),(ii 0),(ii 0)],130,none⟩,(rz v4 3 1)] 0,2,[],true⟩,[],.leaf⟩
def Ld :List (Option zr):=[some [0,2,3,4,5]]
def Le :List (Option zr):=[]
def j4j :List (Option zr):=[some [0,2,3,4,5]]
def j4k :List (Option zr):=[]
def ZF (x0:Int):IB->Yr IB
 | .h0 v5=>(bif (decide (v5<6)) then (bif ((wrap .i64 (Int.tdiv v5 2)) != (wrap .i64 (Int.tdiv (wrap .i64 (Int.tdiv x0 4)) 2))) then (.to (.h1 ([v5]:zp) (wrap .i64 (v5+1)))) else (.to (.h0 (wrap .i64 (v5+1))))) else .stuck)
 | .h1 v4 v5=>let d:=D0 (rd v4 (0+(Int.toNat (Int.tmod x0 4))));(bif (decide (v5<6)) then (bif ((wrap .i64 (Int.tdiv v5 2)) != (wrap .i64 (Int.tdiv (wrap .i64 (Int.tdiv x0 4)) 2))) then (bif (Nat.beq 1 1&&((decide (0+v4.length=v4.length))&&decide ((v4.length+1+1)*(8+1)<=Jm))) then (.to (.h1 (v4++[v5]) (wrap .i64 (v5+1)))) else .stuck) else (.to (.h1 v4 (wrap .i64 (v5+1))))) else (bif ((decide (0<=(Int.tmod x0 4)/\(Int.tmod x0 4)<(v4.length:Int)))&&true) then (bif (decide ((0+(Int.toNat (Int.tmod x0 4)))<v4.length)) then (.ret [(.agg [(.int .i64 (D0 (wrap .i64 (Int.tdiv x0 4))).a),(.int .i64 (D0 (wrap .i64 (Int.tdiv x0 4))).b),(.int .i64 (D0 (wrap .i64 (Int.tdiv x0 4))).c),(.int .i64 d.a),(.int .i64 d.b),(.int .i64 d.c),(.int .i64 (wrap .i64 ((wrap .i64 ((D0 (wrap .i64 (Int.tdiv x0 4))).b *d.c)) - (wrap .i64 ((D0 (wrap .i64 (Int.tdiv x0 4))).c *d.b))))),(.int .i64 (wrap .i64 ((wrap .i64 ((D0 (wrap .i64 (Int.tdiv x0 4))).c *d.a)) - (wrap .i64 ((D0 (wrap .i64 (Int.tdiv x0 4))).a *d.c))))),(.int .i64 (wrap .i64 ((wrap .i64 ((D0 (wrap .i64 (Int.tdiv x0 4))).a *d.b)) - (wrap .i64 ((D0 (wrap .i64 (Int.tdiv x0 4))).b *d.a)))))])]) else .stuck) else .stuck))
def X6 (x0:Int):Yr IB:=(.to (.h0 0))
theorem w9o (x0:Int): ∀s,Xx prog (Zy prog 79) (O4 x0) (O4 x0 s) (ZF x0 s)
 | .h0 v5=>(lb (fun k0=>(lb (fun k1=>let a:=Zz ([v5]:zp);(sl Gw 33 [] ⟨[0,2],[],j4j,j4k⟩ ⟨[(4,.grow 1 1)],[.keep,.rowed 1 ([v5]:zp).length a],[]⟩ (bl 2 3) (pp (xG (TB [(ii v5)] 1 ([v5]:zp).length a)) (tt k1 (tt k0 nn))))) (fun k1=>(sl Gw 27 [] ⟨[0],[],Ld,Le⟩ a6 (bl 2 1) (tt k1 (tt k0 nn)))))) (fun k0=>trivial))
 | .h1 v4 v5=>(lb (fun k0=>(lb (fun k1=>(lo fun o0=>let f:=xL (v4.length+1) (v4++[v5]).length;(sl Gw 33 [] ⟨[0,3],[],j4j,j4k⟩ ⟨[(4,.len (v4++[v5]).length)],[.keep,.rowed 1 (v4++[v5]).length (Zz (v4++[v5]))],[]⟩ (bl 2 3) (pp f (pp f (pp (xS (v4.length+1) (Zf (Zz v4) 0 v4.length 1 [(ii v5)]) (Zz (v4++[v5]))) (pp (pp (xF (Zf (Zz v4) 0 v4.length 1 [(ii v5)])) nn) (ww o0 (tt k1 (tt k0 nn)))))))))) (fun k1=>(sl Gw 27 [] ⟨[0,1],[],j4j,j4k⟩ a6 (bl 2 1) (pp (fl v4 nn) (tt k1 (tt k0 nn))))))) (fun k0=>(lo fun o0=>(lo fun o1=>let d:=D0 (rd v4 (0+(tn (Int.tmod x0 4))));let e:=D0 (wr (Int.tdiv x0 4));(Yu ⟨⟨37,0,true⟩,none,(Zq prog 3 (pn 767) 1),none,(Zy prog 79),⟨Zs [(2,(.ptr 0 0))],Xe [⟨[(ii e.a),(ii e.b),(ii e.c),(ii d.a),(ii d.b),(ii d.c),(ii (wr ((wr (e.b *d.c)) - (wr (e.c *d.b))))),(ii (wr ((wr (e.c *d.a)) - (wr (e.a *d.c))))),(ii (wr ((wr (e.a *d.b)) - (wr (e.b *d.a)))))],130,none⟩] 0,1,[],true⟩,[],.leaf⟩ (sl Gw 76 [] ⟨[0],[],[some [2]],[]⟩ a6 [false] (ww o1 (ww o0 (tt k0 nn)))) rfl (by kernel_rfl))))))
theorem w0e (x0:Int):Xx prog (Zy prog 79) (O4 x0) (Zp prog 79 [(.int .i64 x0)] true []) (X6 x0):=(sl Gw 21 [] ⟨[0],[],Ld,Le⟩ a6 [] nn)
theorem u1s (x0:Int) (n:Nat) (vs:zy) (h:Yx (ZF x0) n (X6 x0)=.ret vs):Vi prog (Zy prog 79) (Zp prog 79 [(.int .i64 x0)] true []) vs:=by have:=Zg (w9o x0) n _ (w0e x0);rwa [h] at this
theorem V5 : ∀n:Nat,n<24->Yx (Y9 (n:Int)) 0 (XM (n:Int))=.ret [SN (CC (n:Int))]
 | 0,_=>by kernel_rfl
 | 1,_=>by kernel_rfl
 | 2,_=>by kernel_rfl
 | 3,_=>by kernel_rfl
 | 4,_=>by kernel_rfl
 | 5,_=>by kernel_rfl
 | 6,_=>by kernel_rfl
 | 7,_=>by kernel_rfl
 | 8,_=>by kernel_rfl
 | 9,_=>by kernel_rfl
 | 10,_=>by kernel_rfl
 | 11,_=>by kernel_rfl
 | 12,_=>by kernel_rfl
 | 13,_=>by kernel_rfl
 | 14,_=>by kernel_rfl
 | 15,_=>by kernel_rfl
 | 16,_=>by kernel_rfl
 | 17,_=>by kernel_rfl
 | 18,_=>by kernel_rfl
 | 19,_=>by kernel_rfl
 | 20,_=>by kernel_rfl
 | 21,_=>by kernel_rfl
 | 22,_=>by kernel_rfl
 | 23,_=>by kernel_rfl
 | n+24,h=>absurd h (by omega)
theorem j6x (t:Int) (h:Wm t=true): ∃N,Yx (Y9 t) N (XM t)=.ret [SN (CC t)]:=by
 have ht:0<=t/\t<24:=Ax h;obtain ⟨n,rfl⟩: ∃n:Nat,t=(n:Int):=⟨t.toNat,by omega⟩
 exact ⟨0,V5 n (by omega)⟩
theorem UZ : ∀n:Nat,n<24->Yx (ZF (n:Int)) 8 (X6 (n:Int))=.ret [SN (CC (n:Int))]
 | 0,_=>by kernel_rfl
 | 1,_=>by kernel_rfl
 | 2,_=>by kernel_rfl
 | 3,_=>by kernel_rfl
 | 4,_=>by kernel_rfl
 | 5,_=>by kernel_rfl
 | 6,_=>by kernel_rfl
 | 7,_=>by kernel_rfl
 | 8,_=>by kernel_rfl
 | 9,_=>by kernel_rfl
 | 10,_=>by kernel_rfl
 | 11,_=>by kernel_rfl
 | 12,_=>by kernel_rfl
 | 13,_=>by kernel_rfl
 | 14,_=>by kernel_rfl
 | 15,_=>by kernel_rfl
 | 16,_=>by kernel_rfl
 | 17,_=>by kernel_rfl
 | 18,_=>by kernel_rfl
 | 19,_=>by kernel_rfl
 | 20,_=>by kernel_rfl
 | 21,_=>by kernel_rfl
 | 22,_=>by kernel_rfl
 | 23,_=>by kernel_rfl
 | n+24,h=>absurd h (by omega)
theorem j4i (t:Int) (h:Wm t=true): ∃N,Yx (ZF t) N (X6 t)=.ret [SN (CC t)]:=by
 have ht:0<=t/\t<24:=Ax h;obtain ⟨n,rfl⟩: ∃n:Nat,t=(n:Int):=⟨t.toNat,by omega⟩
 exact ⟨8,UZ n (by omega)⟩
def QR :zy->Option (B9×Bool)
 | [.int .u8 t]=>some (SN (CC t),Wm t)
 | _=>none
def Px :zy->Option (B9×Bool)
 | [.int .i64 t]=>some (SN (CC t),Wm t)
 | _=>none
theorem j9h {S:CB} (hS:Zw prog S):Zw prog (S.with V6 QR):=Kv hS (by kernel_rfl) fun args v h=>by
 unfold QR at h;split at h
 .rename_i t;simp only [Ad,Ae] at h;obtain ⟨rfl,ho⟩:=h;obtain ⟨N,hN⟩:=j6x t ho;exact ⟨_,_,.cons (.refl _) .nil,rfl,u4w t N _ hN,5,rfl⟩
 .cases h
theorem j8c {S:CB} (hS:Zw prog S):Zw prog (S.with U0 Px):=Kv hS (by kernel_rfl) fun args v h=>by
 unfold Px at h;split at h
 .rename_i t;simp only [Ad,Ae] at h;obtain ⟨rfl,ho⟩:=h;obtain ⟨N,hN⟩:=j4i t ho;exact ⟨_,_,.cons (.refl _) .nil,rfl,u1s t N _ hN,5,rfl⟩
 .cases h
def WF :CB:=(WG.with V6 QR).with U0 Px
theorem GB :Zw prog WF:=j8c (j9h Gw)
inductive Ie where
def P8 (aF:Int) (aQ:Int) (aP:Int) (aO:Int) (aD:Int) (aI:Int) (aJ:Int):Ie->CI
 :=nofun
def w3a (aF:Int) (aQ:Int) (aP:Int) (aO:Int) (aD:Int) (aI:Int) (aJ:Int):Ie->Yr Ie
 :=nofun
def TK (aF:Int) (aQ:Int) (aP:Int) (aO:Int) (aD:Int) (aI:Int) (aJ:Int):Yr Ie:=(bif (Wm aF) then (.ret [(.agg [(.int .i64 (wrap .i64 ((wrap .i64 ((wrap .i64 ((wrap .i64 (aD*(CC aF).a))+(wrap .i64 (aI*(CC aF).d))))+(wrap .i64 (aJ*(CC aF).g))))+aQ))),(.int .i64 (wrap .i64 ((wrap .i64 ((wrap .i64 ((wrap .i64 (aD*(CC aF).b))+(wrap .i64 (aI*(CC aF).e))))+(wrap .i64 (aJ*(CC aF).h))))+aP))),(.int .i64 (wrap .i64 ((wrap .i64 ((wrap .i64 ((wrap .i64 (aD*(CC aF).c))+(wrap .i64 (aI*(CC aF).f))))+(wrap .i64 (aJ*(CC aF).i))))+aO)))])]) else .stuck)
theorem v1n (aF:Int) (aQ:Int) (aP:Int) (aO:Int) (aD:Int) (aI:Int) (aJ:Int): ∀s,Xx prog (Zy prog 92) (P8 aF aQ aP aO aD aI aJ) (P8 aF aQ aP aO aD aI aJ s) (w3a aF aQ aP aO aD aI aJ s)
 :=nofun
theorem w3b (aF:Int) (aQ:Int) (aP:Int) (aO:Int) (aD:Int) (aI:Int) (aJ:Int):Xx prog (Zy prog 92) (P8 aF aQ aP aO aD aI aJ) (Zp prog 92 [(.agg [(.int .u8 aF),(.int .i64 aQ),(.int .i64 aP),(.int .i64 aO)]),(.agg [(.int .i64 aD),(.int .i64 aI),(.int .i64 aJ)])] true []) (TK aF aQ aP aO aD aI aJ):=(lo fun o0=>(Yu ⟨⟨29,0,true⟩,none,(Zq prog 3 (pn 767) 1),none,(Zy prog 80),⟨Zs [(4,(.ptr 0 0))],Xe [⟨[(ii (wr ((wr ((wr ((wr (aD*(CC aF).a))+(wr (aI*(CC aF).d))))+(wr (aJ*(CC aF).g))))+aQ))),(ii (wr ((wr ((wr ((wr (aD*(CC aF).b))+(wr (aI*(CC aF).e))))+(wr (aJ*(CC aF).h))))+aP))),(ii (wr ((wr ((wr ((wr (aD*(CC aF).c))+(wr (aI*(CC aF).f))))+(wr (aJ*(CC aF).i))))+aO)))],34,none⟩] 0,1,[],true⟩,[],.leaf⟩ (sl GB 31 [] ⟨[2],[],[some [4]],[]⟩ a6 [] (ww o0 nn)) rfl (by kernel_rfl)))
theorem u4t (aF:Int) (aQ:Int) (aP:Int) (aO:Int) (aD:Int) (aI:Int) (aJ:Int) (n:Nat) (vs:zy) (h:Yx (w3a aF aQ aP aO aD aI aJ) n (TK aF aQ aP aO aD aI aJ)=.ret vs):Vi prog (Zy prog 92) (Zp prog 92 [(.agg [(.int .u8 aF),(.int .i64 aQ),(.int .i64 aP),(.int .i64 aO)]),(.agg [(.int .i64 aD),(.int .i64 aI),(.int .i64 aJ)])] true []) vs:=by have:=Zg (v1n aF aQ aP aO aD aI aJ) n _ (w3b aF aQ aP aO aD aI aJ);rwa [h] at this
inductive Hv where
def OY (aF:Int) (aQ:Int) (aP:Int) (aO:Int) (aD:Int) (aI:Int) (aJ:Int):Hv->CI
 :=nofun
def x9v (aF:Int) (aQ:Int) (aP:Int) (aO:Int) (aD:Int) (aI:Int) (aJ:Int):Hv->Yr Hv
 :=nofun
def SU (aF:Int) (aQ:Int) (aP:Int) (aO:Int) (aD:Int) (aI:Int) (aJ:Int):Yr Hv:=(bif (Wm (wrap .i64 aF)) then (.ret [(.agg [(.int .i64 (wrap .i64 ((wrap .i64 ((wrap .i64 (aD*(CC (wrap .i64 aF)).a))+(wrap .i64 ((wrap .i64 (aI*(CC (wrap .i64 aF)).d))+(wrap .i64 (aJ*(CC (wrap .i64 aF)).g))))))+aQ))),(.int .i64 (wrap .i64 ((wrap .i64 ((wrap .i64 (aD*(CC (wrap .i64 aF)).b))+(wrap .i64 ((wrap .i64 (aI*(CC (wrap .i64 aF)).e))+(wrap .i64 (aJ*(CC (wrap .i64 aF)).h))))))+aP))),(.int .i64 (wrap .i64 ((wrap .i64 ((wrap .i64 (aD*(CC (wrap .i64 aF)).c))+(wrap .i64 ((wrap .i64 (aI*(CC (wrap .i64 aF)).f))+(wrap .i64 (aJ*(CC (wrap .i64 aF)).i))))))+aO)))])]) else .stuck)
theorem w9i (aF:Int) (aQ:Int) (aP:Int) (aO:Int) (aD:Int) (aI:Int) (aJ:Int): ∀s,Xx prog (Zy prog 82) (OY aF aQ aP aO aD aI aJ) (OY aF aQ aP aO aD aI aJ s) (x9v aF aQ aP aO aD aI aJ s)
 :=nofun
theorem x9w (aF:Int) (aQ:Int) (aP:Int) (aO:Int) (aD:Int) (aI:Int) (aJ:Int):Xx prog (Zy prog 82) (OY aF aQ aP aO aD aI aJ) (Zp prog 82 [(.agg [(.int .u8 aF),(.int .i64 aQ),(.int .i64 aP),(.int .i64 aO)]),(.agg [(.int .i64 aD),(.int .i64 aI),(.int .i64 aJ)])] true []) (SU aF aQ aP aO aD aI aJ):=(lo fun o0=>let j:=CC (wr aF);(Yu ⟨⟨14,0,true⟩,none,(Zq prog 3 (pn 767) 1),none,(Zy prog 80),⟨Zs [(4,(.ptr 0 0))],Xe [⟨[(ii (wr ((wr ((wr (aD*j.a))+(wr ((wr (aI*j.d))+(wr (aJ*j.g))))))+aQ))),(ii (wr ((wr ((wr (aD*j.b))+(wr ((wr (aI*j.e))+(wr (aJ*j.h))))))+aP))),(ii (wr ((wr ((wr (aD*j.c))+(wr ((wr (aI*j.f))+(wr (aJ*j.i))))))+aO)))],34,none⟩] 0,1,[],true⟩,[],.leaf⟩ (sl GB 8 [] ⟨[2],[],[some [4]],[]⟩ a6 [] (ww o0 nn)) rfl (by kernel_rfl)))
theorem u1m (aF:Int) (aQ:Int) (aP:Int) (aO:Int) (aD:Int) (aI:Int) (aJ:Int) (n:Nat) (vs:zy) (h:Yx (x9v aF aQ aP aO aD aI aJ) n (SU aF aQ aP aO aD aI aJ)=.ret vs):Vi prog (Zy prog 82) (Zp prog 82 [(.agg [(.int .u8 aF),(.int .i64 aQ),(.int .i64 aP),(.int .i64 aO)]),(.agg [(.int .i64 aD),(.int .i64 aI),(.int .i64 aJ)])] true []) vs:=by have:=Zg (w9i aF aQ aP aO aD aI aJ) n _ (x9w aF aQ aP aO aD aI aJ);rwa [h] at this
inductive Ib where
 | h0 (v4:Int)
def P4 (aF:Int) (aQ:Int) (aP:Int) (aO:Int) (bD:Int) (bC:Int) (bU:Int) (bV:Int) (bW:Int):Ib->CI
 | .h0 v4=>⟨⟨13,0,true⟩,none,(Zq prog 104 (pn 37) 0),none,(Zy prog 5),⟨Zs [(1,(.ptr 0 0)),(4,(.int .u8 v4))],Xe [⟨[(ii aF),(ii aQ),(ii aP),(ii aO),(ii bD),(ii bC),(ii bU),(ii bV),(ii bW)],130,none⟩] 0,1,[],true⟩,[],.leaf⟩
def MW :List (Option zr):=[some [1,4]]
def MX :List (Option zr):=[]
def Mm (aF:Int) (aQ:Int) (aP:Int) (aO:Int) (bD:Int) (bC:Int) (bU:Int) (bV:Int) (bW:Int):Ib->Yr Ib
 | .h0 v4=>(bif (decide (v4<24)) then (bif (Wm v4) then (bif ((((CC v4).a == aF)&&(((CC v4).b == aQ)&&(((CC v4).c == aP)&&true)))&&((((CC v4).d == aO)&&(((CC v4).e == bD)&&(((CC v4).f == bC)&&true)))&&((((CC v4).g == bU)&&(((CC v4).h == bV)&&(((CC v4).i == bW)&&true)))&&true))) then (.ret [(.int .u8 v4)]) else (.to (.h0 (wrap IntKind.u8 (v4+1))))) else .stuck) else (.ret [(.int .u8 0)]))
def x3l (aF:Int) (aQ:Int) (aP:Int) (aO:Int) (bD:Int) (bC:Int) (bU:Int) (bV:Int) (bW:Int):Yr Ib:=(.to (.h0 0))
theorem v1i (aF:Int) (aQ:Int) (aP:Int) (aO:Int) (bD:Int) (bC:Int) (bU:Int) (bV:Int) (bW:Int): ∀s,Xx prog (Zy prog 104) (P4 aF aQ aP aO bD bC bU bV bW) (P4 aF aQ aP aO bD bC bU bV bW s) (Mm aF aQ aP aO bD bC bU bV bW s)
 | .h0 v4=>(lb (fun k0=>(lo fun aL=>let a:=ww aL (tt k0 nn);(lb (fun k1=>(lr 13 104 (pn 9829) 1 5 [(2,(.int .u8 v4))] (sl GB 22 [] (a7 [2]) a6 (bl 2 3) (tt k1 a)))) (fun k1=>(sl GB 24 [] ⟨[0],[],MW,MX⟩ a6 (bl 2 1) (tt k1 a)))))) (fun k0=>(lr 13 3 (pn 767) 1 5 [(2,(.int .u8 0))] (sl GB 11 [] (a7 [2]) a6 [false] (tt k0 nn)))))
theorem w2w (aF:Int) (aQ:Int) (aP:Int) (aO:Int) (bD:Int) (bC:Int) (bU:Int) (bV:Int) (bW:Int):Xx prog (Zy prog 104) (P4 aF aQ aP aO bD bC bU bV bW) (Zp prog 104 [(.agg [(.int .i64 aF),(.int .i64 aQ),(.int .i64 aP),(.int .i64 aO),(.int .i64 bD),(.int .i64 bC),(.int .i64 bU),(.int .i64 bV),(.int .i64 bW)])] true []) (x3l aF aQ aP aO bD bC bU bV bW):=(sl GB 12 [] ⟨[0],[],MW,MX⟩ a6 [] nn)
theorem u4o (aF:Int) (aQ:Int) (aP:Int) (aO:Int) (bD:Int) (bC:Int) (bU:Int) (bV:Int) (bW:Int) (n:Nat) (vs:zy) (h:Yx (Mm aF aQ aP aO bD bC bU bV bW) n (x3l aF aQ aP aO bD bC bU bV bW)=.ret vs):Vi prog (Zy prog 104) (Zp prog 104 [(.agg [(.int .i64 aF),(.int .i64 aQ),(.int .i64 aP),(.int .i64 aO),(.int .i64 bD),(.int .i64 bC),(.int .i64 bU),(.int .i64 bV),(.int .i64 bW)])] true []) vs:=by have:=Zg (v1i aF aQ aP aO bD bC bU bV bW) n _ (w2w aF aQ aP aO bD bC bU bV bW);rwa [h] at this
inductive Hk where
 | h0 (v3:Int)
def OG (aF:Int) (aQ:Int) (aP:Int) (aO:Int) (bD:Int) (bC:Int) (bU:Int) (bV:Int) (bW:Int):Hk->CI
 | .h0 v3=>⟨⟨13,0,true⟩,none,(Zq prog 81 (pn 37) 0),none,(Zy prog 5),⟨Zs [(1,(.ptr 0 0)),(3,(ii v3))],Xe [⟨[(ii aF),(ii aQ),(ii aP),(ii aO),(ii bD),(ii bC),(ii bU),(ii bV),(ii bW)],130,none⟩] 0,1,[],true⟩,[],.leaf⟩
def K9 :List (Option zr):=[some [1,3]]
def Kl :List (Option zr):=[]
def NH (aF:Int) (aQ:Int) (aP:Int) (aO:Int) (bD:Int) (bC:Int) (bU:Int) (bV:Int) (bW:Int):Hk->Yr Hk
 | .h0 v3=>(bif (decide (v3<24)) then (bif (Wm v3) then (bif ((((CC v3).a == aF)&&(((CC v3).b == aQ)&&(((CC v3).c == aP)&&true)))&&((((CC v3).d == aO)&&(((CC v3).e == bD)&&(((CC v3).f == bC)&&true)))&&((((CC v3).g == bU)&&(((CC v3).h == bV)&&(((CC v3).i == bW)&&true)))&&true))) then (.ret [(.int .i64 v3)]) else (.to (.h0 (wrap .i64 (v3+1))))) else .stuck) else (.ret [(.int .i64 (-1))]))
def x2h (aF:Int) (aQ:Int) (aP:Int) (aO:Int) (bD:Int) (bC:Int) (bU:Int) (bV:Int) (bW:Int):Yr Hk:=(.to (.h0 0))
theorem w8r (aF:Int) (aQ:Int) (aP:Int) (aO:Int) (bD:Int) (bC:Int) (bU:Int) (bV:Int) (bW:Int): ∀s,Xx prog (Zy prog 81) (OG aF aQ aP aO bD bC bU bV bW) (OG aF aQ aP aO bD bC bU bV bW s) (NH aF aQ aP aO bD bC bU bV bW s)
 | .h0 v3=>(lb (fun k0=>(lo fun aL=>let a:=ww aL (tt k0 nn);(lb (fun k1=>(lr 13 81 (pn 2341) 1 5 [(2,(ii v3))] (sl GB 18 [] (a7 [2]) a6 (bl 2 3) (tt k1 a)))) (fun k1=>(sl GB 21 [] ⟨[0],[],K9,Kl⟩ a6 (bl 2 1) (tt k1 a)))))) (fun k0=>(lr 13 3 (pn 767) 1 5 [(2,(ii (-1)))] (sl GB 12 [] (a7 [2]) a6 [false] (tt k0 nn)))))
theorem x9c (aF:Int) (aQ:Int) (aP:Int) (aO:Int) (bD:Int) (bC:Int) (bU:Int) (bV:Int) (bW:Int):Xx prog (Zy prog 81) (OG aF aQ aP aO bD bC bU bV bW) (Zp prog 81 [(.agg [(.int .i64 aF),(.int .i64 aQ),(.int .i64 aP),(.int .i64 aO),(.int .i64 bD),(.int .i64 bC),(.int .i64 bU),(.int .i64 bV),(.int .i64 bW)])] true []) (x2h aF aQ aP aO bD bC bU bV bW):=(sl GB 12 [] ⟨[0],[],K9,Kl⟩ a6 [] nn)
theorem u0u (aF:Int) (aQ:Int) (aP:Int) (aO:Int) (bD:Int) (bC:Int) (bU:Int) (bV:Int) (bW:Int) (n:Nat) (vs:zy) (h:Yx (NH aF aQ aP aO bD bC bU bV bW) n (x2h aF aQ aP aO bD bC bU bV bW)=.ret vs):Vi prog (Zy prog 81) (Zp prog 81 [(.agg [(.int .i64 aF),(.int .i64 aQ),(.int .i64 aP),(.int .i64 aO),(.int .i64 bD),(.int .i64 bC),(.int .i64 bU),(.int .i64 bV),(.int .i64 bW)])] true []) vs:=by have:=Zg (w8r aF aQ aP aO bD bC bU bV bW) n _ (x9c aF aQ aP aO bD bC bU bV bW);rwa [h] at this
def w3 (p q r:Int):Int:=wrap .i64 (p+q+r)
def w4 (p q r s:Int):Int:=wrap .i64 (p+q+r+s)
theorem wll (p q r:Int):wrap .i64 (wrap .i64 (wrap .i64 p+wrap .i64 q)+wrap .i64 r)=w3 p q r:=by unfold w3;simp only [ZX];omega
theorem wrr (p q r:Int):wrap .i64 (wrap .i64 p+wrap .i64 (wrap .i64 q+wrap .i64 r))=w3 p q r:=by unfold w3;simp only [ZX];omega
theorem w3s (p q r s:Int):wrap .i64 (w3 p q r+s)=w4 p q r s:=by unfold w3 w4;simp only [ZX];omega
def CU (t a b c x y z:Int):R3:=⟨w4 (x*(CC t).a) (y*(CC t).d) (z*(CC t).g) a,w4 (x*(CC t).b) (y*(CC t).e) (z*(CC t).h) b,w4 (x*(CC t).c) (y*(CC t).f) (z*(CC t).i) c⟩
def Ut (t a b c x y z:Int):Bool:=Wm t
theorem y6b {t:Int} (h:Wm t=true):wrap .i64 t=t:=by have ht:0<=t/\t<24:=Ax h;exact Zk (by omega)
theorem j6t (t a b c x y z:Int) (h:Ut t a b c x y z=true): ∃N,Yx (w3a t a b c x y z) N (TK t a b c x y z)=.ret [Iq (CU t a b c x y z)]:=⟨0,by
 show TK t a b c x y z=_;unfold TK CU Iq;rw [Zi (show Wm t=true from h)];simp only [wll,w3s]⟩
theorem j3u (t a b c x y z:Int) (h:Ut t a b c x y z=true): ∃N,Yx (x9v t a b c x y z) N (SU t a b c x y z)=.ret [Iq (CU t a b c x y z)]:=⟨0,by
 show SU t a b c x y z=_;unfold SU CU Iq;rw [y6b (show Wm t=true from h),Zi (show Wm t=true from h)];simp only [wrr,w3s]⟩
def Fg :zy->Option (B9×Bool)
 | [.agg [.int .u8 t,.int .i64 a,.int .i64 b,.int .i64 c],.agg [.int .i64 x,.int .i64 y,.int .i64 z]]=>some (Iq (CU t a b c x y z),Ut t a b c x y z)
 | _=>none
theorem j9e {S:CB} (hS:Zw prog S):Zw prog (S.with V2 Fg):=Kv hS (by kernel_rfl) fun args v h=>by
 unfold Fg at h;split at h
 .rename_i t a b c x y z;simp only [Ad,Ae] at h;obtain ⟨rfl,ho⟩:=h;obtain ⟨N,hN⟩:=j6t t a b c x y z ho;exact ⟨_,_,.cons (.refl _) (.cons (.refl _) .nil),rfl,u4t t a b c x y z N _ hN,5,rfl⟩
 .cases h
theorem j7y {S:CB} (hS:Zw prog S):Zw prog (S.with UV Fg):=Kv hS (by kernel_rfl) fun args v h=>by
 unfold Fg at h;split at h
 .rename_i t a b c x y z;simp only [Ad,Ae] at h;obtain ⟨rfl,ho⟩:=h;obtain ⟨N,hN⟩:=j3u t a b c x y z ho;exact ⟨_,_,.cons (.refl _) (.cons (.refl _) .nil),rfl,u1m t a b c x y z N _ hN,5,rfl⟩
 .cases h
def Q1 (v:R9) (a b c d e f g h i:Int):Bool:=((v.a == a)&&((v.b == b)&&((v.c == c)&&true)))&&(((v.d == d)&&((v.e == e)&&((v.f == f)&&true)))&&(((v.g == g)&&((v.h == h)&&((v.i == i)&&true)))&&true))
def PM (dd:Int):Nat->Nat->Int->Int->Int->Int->Int->Int->Int->Int->Int->Int
 | 0,_,_,_,_,_,_,_,_,_,_=>dd
 | n+1,k,a,b,c,d,e,f,g,h,i=>bif Q1 (CC (k:Int)) a b c d e f g h i then (k:Int) else PM dd n (k+1) a b c d e f g h i
def V0 (a b c d e f g h i:Int):Int:=PM 0 24 0 a b c d e f g h i
def OH (a b c d e f g h i:Int):Int:=PM (-1) 24 0 a b c d e f g h i
theorem j0l (a b c d e f g h i:Int): ∀(n k:Nat),k+n=24-> ∃N,Yx (Mm a b c d e f g h i) N (.to (.h0 (k:Int)))=.ret [.int .u8 (PM 0 n k a b c d e f g h i)]
 | 0,k,hk=>⟨1,by
  rw [Zx];unfold Mm;simp only [];rw [Ym (by omega)];rfl⟩
 | n+1,k,hk=>by
  have w2:wrap .u8 ((k:Int)+1)=((k+1:Nat):Int):=wu8 _ (by omega);have ho:Wm (k:Int)=true:=Af (by omega);have es:Mm a b c d e f g h i (.h0 (k:Int))=bif Q1 (CC (k:Int)) a b c d e f g h i then .ret [.int .u8 (k:Int)] else .to (.h0 ((k+1:Nat):Int)):=by unfold Mm Q1;simp only [w2];rw [Zt (by omega),Ab,Zi ho]
  rw [PM];cases hq:Q1 (CC (k:Int)) a b c d e f g h i with
  | true=>exact ⟨1,by rw [Zx,es,hq];rfl⟩
  | false=>obtain ⟨N,hN⟩:=j0l a b c d e f g h i n (k+1) (by omega);exact ⟨N+1,by rw [Zx,es,hq,Aa,Aa,hN]⟩
theorem j6o (a b c d e f g h i:Int) (_:True): ∃N,Yx (Mm a b c d e f g h i) N (x3l a b c d e f g h i)=.ret [.int .u8 (V0 a b c d e f g h i)]:=j0l a b c d e f g h i 24 0 (by omega)
theorem u7n (a b c d e f g h i:Int): ∀(n k:Nat),k+n=24-> ∃N,Yx (NH a b c d e f g h i) N (.to (.h0 (k:Int)))=.ret [.int .i64 (PM (-1) n k a b c d e f g h i)]
 | 0,k,hk=>⟨1,by
  rw [Zx];unfold NH;simp only [];rw [Ym (by omega)];rfl⟩
 | n+1,k,hk=>by
  have w2:wrap .i64 ((k:Int)+1)=((k+1:Nat):Int):=Zk (by omega);have ho:Wm (k:Int)=true:=Af (by omega);have es:NH a b c d e f g h i (.h0 (k:Int))=bif Q1 (CC (k:Int)) a b c d e f g h i then .ret [.int .i64 (k:Int)] else .to (.h0 ((k+1:Nat):Int)):=by unfold NH Q1;simp only [w2];rw [Zt (by omega),Ab,Zi ho]
  rw [PM];cases hq:Q1 (CC (k:Int)) a b c d e f g h i with
  | true=>exact ⟨1,by rw [Zx,es,hq];rfl⟩
  | false=>obtain ⟨N,hN⟩:=u7n a b c d e f g h i n (k+1) (by omega);exact ⟨N+1,by rw [Zx,es,hq,Aa,Aa,hN]⟩
theorem j3b (a b c d e f g h i:Int) (_:True): ∃N,Yx (NH a b c d e f g h i) N (x2h a b c d e f g h i)=.ret [.int .i64 (OH a b c d e f g h i)]:=u7n a b c d e f g h i 24 0 (by omega)
def QP :zy->Option (B9×Bool)
 | [.agg [.int .i64 a,.int .i64 b,.int .i64 c,.int .i64 d,.int .i64 e,.int .i64 f,.int .i64 g,.int .i64 h,.int .i64 i]]=>some (.int .u8 (V0 a b c d e f g h i),true)
 | _=>none
def Ps :zy->Option (B9×Bool)
 | [.agg [.int .i64 a,.int .i64 b,.int .i64 c,.int .i64 d,.int .i64 e,.int .i64 f,.int .i64 g,.int .i64 h,.int .i64 i]]=>some (.int .i64 (OH a b c d e f g h i),true)
 | _=>none
theorem j9c {S:CB} (hS:Zw prog S):Zw prog (S.with VY QP):=Kv hS (by kernel_rfl) fun args v hx=>by
 unfold QP at hx;split at hx
 .rename_i a b c d e f g h i;simp only [Ad,Ae] at hx;obtain ⟨rfl,ho⟩:=hx;obtain ⟨N,hN⟩:=j6o a b c d e f g h i ho;exact ⟨_,_,.cons (.refl _) .nil,rfl,u4o a b c d e f g h i N _ hN,5,rfl⟩
 .cases hx
theorem j7n {S:CB} (hS:Zw prog S):Zw prog (S.with UO Ps):=Kv hS (by kernel_rfl) fun args v hx=>by
 unfold Ps at hx;split at hx
 .rename_i a b c d e f g h i;simp only [Ad,Ae] at hx;obtain ⟨rfl,ho⟩:=hx;obtain ⟨N,hN⟩:=j3b a b c d e f g h i ho;exact ⟨_,_,.cons (.refl _) .nil,rfl,u0u a b c d e f g h i N _ hN,5,rfl⟩
 .cases hx
def WE :CB:=(((WF.with V2 Fg).with UV Fg).with VY QP).with UO Ps
theorem Rb :Zw prog WE:=j7n (j9c (j7y (j9e GB)))
inductive I8 where
def P2 (aF:Int) (aQ:Int) (aP:Int) (aO:Int) (aD:Int) (aI:Int) (aJ:Int) (aN:Int):I8->CI
 :=nofun
def w2r (aF:Int) (aQ:Int) (aP:Int) (aO:Int) (aD:Int) (aI:Int) (aJ:Int) (aN:Int):I8->Yr I8
 :=nofun
def TL (aF:Int) (aQ:Int) (aP:Int) (aO:Int) (aD:Int) (aI:Int) (aJ:Int) (aN:Int):Yr I8:=(bif (Wm aF) then (bif (Wm aD) then (bif (Ut aD aI aJ aN aQ aP aO) then (.ret [(.agg [(.int .u8 (V0 (wrap .i64 ((wrap .i64 ((wrap .i64 ((CC aF).a *(CC aD).a))+(wrap .i64 ((CC aF).b *(CC aD).d))))+(wrap .i64 ((CC aF).c *(CC aD).g)))) (wrap .i64 ((wrap .i64 ((wrap .i64 ((CC aF).a *(CC aD).b))+(wrap .i64 ((CC aF).b *(CC aD).e))))+(wrap .i64 ((CC aF).c *(CC aD).h)))) (wrap .i64 ((wrap .i64 ((wrap .i64 ((CC aF).a *(CC aD).c))+(wrap .i64 ((CC aF).b *(CC aD).f))))+(wrap .i64 ((CC aF).c *(CC aD).i)))) (wrap .i64 ((wrap .i64 ((wrap .i64 ((CC aF).d *(CC aD).a))+(wrap .i64 ((CC aF).e *(CC aD).d))))+(wrap .i64 ((CC aF).f *(CC aD).g)))) (wrap .i64 ((wrap .i64 ((wrap .i64 ((CC aF).d *(CC aD).b))+(wrap .i64 ((CC aF).e *(CC aD).e))))+(wrap .i64 ((CC aF).f *(CC aD).h)))) (wrap .i64 ((wrap .i64 ((wrap .i64 ((CC aF).d *(CC aD).c))+(wrap .i64 ((CC aF).e *(CC aD).f))))+(wrap .i64 ((CC aF).f *(CC aD).i)))) (wrap .i64 ((wrap .i64 ((wrap .i64 ((CC aF).g *(CC aD).a))+(wrap .i64 ((CC aF).h *(CC aD).d))))+(wrap .i64 ((CC aF).i *(CC aD).g)))) (wrap .i64 ((wrap .i64 ((wrap .i64 ((CC aF).g *(CC aD).b))+(wrap .i64 ((CC aF).h *(CC aD).e))))+(wrap .i64 ((CC aF).i *(CC aD).h)))) (wrap .i64 ((wrap .i64 ((wrap .i64 ((CC aF).g *(CC aD).c))+(wrap .i64 ((CC aF).h *(CC aD).f))))+(wrap .i64 ((CC aF).i *(CC aD).i)))))),(.int .i64 (CU aD aI aJ aN aQ aP aO).a),(.int .i64 (CU aD aI aJ aN aQ aP aO).b),(.int .i64 (CU aD aI aJ aN aQ aP aO).c)])]) else .stuck) else .stuck) else .stuck)
theorem v1f (aF:Int) (aQ:Int) (aP:Int) (aO:Int) (aD:Int) (aI:Int) (aJ:Int) (aN:Int): ∀s,Xx prog (Zy prog 78) (P2 aF aQ aP aO aD aI aJ aN) (P2 aF aQ aP aO aD aI aJ aN s) (w2r aF aQ aP aO aD aI aJ aN s)
 :=nofun
theorem w2s (aF:Int) (aQ:Int) (aP:Int) (aO:Int) (aD:Int) (aI:Int) (aJ:Int) (aN:Int):Xx prog (Zy prog 78) (P2 aF aQ aP aO aD aI aJ aN) (Zp prog 78 [(.agg [(.int .u8 aF),(.int .i64 aQ),(.int .i64 aP),(.int .i64 aO)]),(.agg [(.int .u8 aD),(.int .i64 aI),(.int .i64 aJ),(.int .i64 aN)])] true []) (TL aF aQ aP aO aD aI aJ aN):=(lo fun o0=>(lo fun o1=>(lo fun o2=>let j:=CU aD aI aJ aN aQ aP aO;(Yu ⟨⟨32,0,true⟩,none,(Zq prog 3 (pn 767) 1),none,(Zy prog 78),⟨Zs [(4,(.ptr 0 0))],Xe [⟨[(.int .u8 (V0 (wr ((wr ((wr ((CC aF).a *(CC aD).a))+(wr ((CC aF).b *(CC aD).d))))+(wr ((CC aF).c *(CC aD).g)))) (wr ((wr ((wr ((CC aF).a *(CC aD).b))+(wr ((CC aF).b *(CC aD).e))))+(wr ((CC aF).c *(CC aD).h)))) (wr ((wr ((wr ((CC aF).a *(CC aD).c))+(wr ((CC aF).b *(CC aD).f))))+(wr ((CC aF).c *(CC aD).i)))) (wr ((wr ((wr ((CC aF).d *(CC aD).a))+(wr ((CC aF).e *(CC aD).d))))+(wr ((CC aF).f *(CC aD).g)))) (wr ((wr ((wr ((CC aF).d *(CC aD).b))+(wr ((CC aF).e *(CC aD).e))))+(wr ((CC aF).f *(CC aD).h)))) (wr ((wr ((wr ((CC aF).d *(CC aD).c))+(wr ((CC aF).e *(CC aD).f))))+(wr ((CC aF).f *(CC aD).i)))) (wr ((wr ((wr ((CC aF).g *(CC aD).a))+(wr ((CC aF).h *(CC aD).d))))+(wr ((CC aF).i *(CC aD).g)))) (wr ((wr ((wr ((CC aF).g *(CC aD).b))+(wr ((CC aF).h *(CC aD).e))))+(wr ((CC aF).i *(CC aD).h)))) (wr ((wr ((wr ((CC aF).g *(CC aD).c))+(wr ((CC aF).h *(CC aD).f))))+(wr ((CC aF).i *(CC aD).i)))))),(ii j.a),(ii j.b),(ii j.c)],36,none⟩] 0,1,[],true⟩,[],.leaf⟩ (sl Rb 87 [] ⟨[2],[],[some [4]],[]⟩ a6 (bl 16 14169) (ww o2 (ww o1 (ww o0 nn)))) rfl (by kernel_rfl)))))
theorem u4l (aF:Int) (aQ:Int) (aP:Int) (aO:Int) (aD:Int) (aI:Int) (aJ:Int) (aN:Int) (n:Nat) (vs:zy) (h:Yx (w2r aF aQ aP aO aD aI aJ aN) n (TL aF aQ aP aO aD aI aJ aN)=.ret vs):Vi prog (Zy prog 78) (Zp prog 78 [(.agg [(.int .u8 aF),(.int .i64 aQ),(.int .i64 aP),(.int .i64 aO)]),(.agg [(.int .u8 aD),(.int .i64 aI),(.int .i64 aJ),(.int .i64 aN)])] true []) vs:=by have:=Zg (v1f aF aQ aP aO aD aI aJ aN) n _ (w2s aF aQ aP aO aD aI aJ aN);rwa [h] at this
inductive Hh where
def OC (aF:Int) (aQ:Int) (aP:Int) (aO:Int) (aD:Int) (aI:Int) (aJ:Int) (aN:Int):Hh->CI
 :=nofun
def x8x (aF:Int) (aQ:Int) (aP:Int) (aO:Int) (aD:Int) (aI:Int) (aJ:Int) (aN:Int):Hh->Yr Hh
 :=nofun
def S2 (aF:Int) (aQ:Int) (aP:Int) (aO:Int) (aD:Int) (aI:Int) (aJ:Int) (aN:Int):Yr Hh:=(bif ((CW aF aQ aP aO) != 0) then (.ret [(.agg [(.int .u8 0),(.int .i64 0),(.int .i64 0),(.int .i64 0)]),(.int .i64 (CW aF aQ aP aO))]) else (bif ((CW aD aI aJ aN) != 0) then (.ret [(.agg [(.int .u8 0),(.int .i64 0),(.int .i64 0),(.int .i64 0)]),(.int .i64 (CW aD aI aJ aN))]) else (bif (Wm (wrap .i64 aF)) then (bif (Wm (wrap .i64 aD)) then (bif (Ut aD aI aJ aN aQ aP aO) then (bif ((CW (wrap IntKind.u8 (OH (wrap .i64 ((wrap .i64 ((CC (wrap .i64 aF)).a *(CC (wrap .i64 aD)).a))+(wrap .i64 ((wrap .i64 ((CC (wrap .i64 aF)).b *(CC (wrap .i64 aD)).d))+(wrap .i64 ((CC (wrap .i64 aF)).c *(CC (wrap .i64 aD)).g)))))) (wrap .i64 ((wrap .i64 ((CC (wrap .i64 aF)).a *(CC (wrap .i64 aD)).b))+(wrap .i64 ((wrap .i64 ((CC (wrap .i64 aF)).b *(CC (wrap .i64 aD)).e))+(wrap .i64 ((CC (wrap .i64 aF)).c *(CC (wrap .i64 aD)).h)))))) (wrap .i64 ((wrap .i64 ((CC (wrap .i64 aF)).a *(CC (wrap .i64 aD)).c))+(wrap .i64 ((wrap .i64 ((CC (wrap .i64 aF)).b *(CC (wrap .i64 aD)).f))+(wrap .i64 ((CC (wrap .i64 aF)).c *(CC (wrap .i64 aD)).i)))))) (wrap .i64 ((wrap .i64 ((CC (wrap .i64 aF)).d *(CC (wrap .i64 aD)).a))+(wrap .i64 ((wrap .i64 ((CC (wrap .i64 aF)).e *(CC (wrap .i64 aD)).d))+(wrap .i64 ((CC (wrap .i64 aF)).f *(CC (wrap .i64 aD)).g)))))) (wrap .i64 ((wrap .i64 ((CC (wrap .i64 aF)).d *(CC (wrap .i64 aD)).b))+(wrap .i64 ((wrap .i64 ((CC (wrap .i64 aF)).e *(CC (wrap .i64 aD)).e))+(wrap .i64 ((CC (wrap .i64 aF)).f *(CC (wrap .i64 aD)).h)))))) (wrap .i64 ((wrap .i64 ((CC (wrap .i64 aF)).d *(CC (wrap .i64 aD)).c))+(wrap .i64 ((wrap .i64 ((CC (wrap .i64 aF)).e *(CC (wrap .i64 aD)).f))+(wrap .i64 ((CC (wrap .i64 aF)).f *(CC (wrap .i64 aD)).i)))))) (wrap .i64 ((wrap .i64 ((CC (wrap .i64 aF)).g *(CC (wrap .i64 aD)).a))+(wrap .i64 ((wrap .i64 ((CC (wrap .i64 aF)).h *(CC (wrap .i64 aD)).d))+(wrap .i64 ((CC (wrap .i64 aF)).i *(CC (wrap .i64 aD)).g)))))) (wrap .i64 ((wrap .i64 ((CC (wrap .i64 aF)).g *(CC (wrap .i64 aD)).b))+(wrap .i64 ((wrap .i64 ((CC (wrap .i64 aF)).h *(CC (wrap .i64 aD)).e))+(wrap .i64 ((CC (wrap .i64 aF)).i *(CC (wrap .i64 aD)).h)))))) (wrap .i64 ((wrap .i64 ((CC (wrap .i64 aF)).g *(CC (wrap .i64 aD)).c))+(wrap .i64 ((wrap .i64 ((CC (wrap .i64 aF)).h *(CC (wrap .i64 aD)).f))+(wrap .i64 ((CC (wrap .i64 aF)).i *(CC (wrap .i64 aD)).i)))))))) (CU aD aI aJ aN aQ aP aO).a (CU aD aI aJ aN aQ aP aO).b (CU aD aI aJ aN aQ aP aO).c) != 0) then (.ret [(.agg [(.int .u8 0),(.int .i64 0),(.int .i64 0),(.int .i64 0)]),(.int .i64 16)]) else (.ret [(.agg [(.int .u8 (wrap IntKind.u8 (OH (wrap .i64 ((wrap .i64 ((CC (wrap .i64 aF)).a *(CC (wrap .i64 aD)).a))+(wrap .i64 ((wrap .i64 ((CC (wrap .i64 aF)).b *(CC (wrap .i64 aD)).d))+(wrap .i64 ((CC (wrap .i64 aF)).c *(CC (wrap .i64 aD)).g)))))) (wrap .i64 ((wrap .i64 ((CC (wrap .i64 aF)).a *(CC (wrap .i64 aD)).b))+(wrap .i64 ((wrap .i64 ((CC (wrap .i64 aF)).b *(CC (wrap .i64 aD)).e))+(wrap .i64 ((CC (wrap .i64 aF)).c *(CC (wrap .i64 aD)).h)))))) (wrap .i64 ((wrap .i64 ((CC (wrap .i64 aF)).a *(CC (wrap .i64 aD)).c))+(wrap .i64 ((wrap .i64 ((CC (wrap .i64 aF)).b *(CC (wrap .i64 aD)).f))+(wrap .i64 ((CC (wrap .i64 aF)).c *(CC (wrap .i64 aD)).i)))))) (wrap .i64 ((wrap .i64 ((CC (wrap .i64 aF)).d *(CC (wrap .i64 aD)).a))+(wrap .i64 ((wrap .i64 ((CC (wrap .i64 aF)).e *(CC (wrap .i64 aD)).d))+(wrap .i64 ((CC (wrap .i64 aF)).f *(CC (wrap .i64 aD)).g)))))) (wrap .i64 ((wrap .i64 ((CC (wrap .i64 aF)).d *(CC (wrap .i64 aD)).b))+(wrap .i64 ((wrap .i64 ((CC (wrap .i64 aF)).e *(CC (wrap .i64 aD)).e))+(wrap .i64 ((CC (wrap .i64 aF)).f *(CC (wrap .i64 aD)).h)))))) (wrap .i64 ((wrap .i64 ((CC (wrap .i64 aF)).d *(CC (wrap .i64 aD)).c))+(wrap .i64 ((wrap .i64 ((CC (wrap .i64 aF)).e *(CC (wrap .i64 aD)).f))+(wrap .i64 ((CC (wrap .i64 aF)).f *(CC (wrap .i64 aD)).i)))))) (wrap .i64 ((wrap .i64 ((CC (wrap .i64 aF)).g *(CC (wrap .i64 aD)).a))+(wrap .i64 ((wrap .i64 ((CC (wrap .i64 aF)).h *(CC (wrap .i64 aD)).d))+(wrap .i64 ((CC (wrap .i64 aF)).i *(CC (wrap .i64 aD)).g)))))) (wrap .i64 ((wrap .i64 ((CC (wrap .i64 aF)).g *(CC (wrap .i64 aD)).b))+(wrap .i64 ((wrap .i64 ((CC (wrap .i64 aF)).h *(CC (wrap .i64 aD)).e))+(wrap .i64 ((CC (wrap .i64 aF)).i *(CC (wrap .i64 aD)).h)))))) (wrap .i64 ((wrap .i64 ((CC (wrap .i64 aF)).g *(CC (wrap .i64 aD)).c))+(wrap .i64 ((wrap .i64 ((CC (wrap .i64 aF)).h *(CC (wrap .i64 aD)).f))+(wrap .i64 ((CC (wrap .i64 aF)).i *(CC (wrap .i64 aD)).i))))))))),(.int .i64 (CU aD aI aJ aN aQ aP aO).a),(.int .i64 (CU aD aI aJ aN aQ aP aO).b),(.int .i64 (CU aD aI aJ aN aQ aP aO).c)]),(.int .i64 0)])) else .stuck) else .stuck) else .stuck)))
theorem w8o (aF:Int) (aQ:Int) (aP:Int) (aO:Int) (aD:Int) (aI:Int) (aJ:Int) (aN:Int): ∀s,Xx prog (Zy prog 49) (OC aF aQ aP aO aD aI aJ aN) (OC aF aQ aP aO aD aI aJ aN s) (x8x aF aQ aP aO aD aI aJ aN s)
 :=nofun
theorem x8y (aF:Int) (aQ:Int) (aP:Int) (aO:Int) (aD:Int) (aI:Int) (aJ:Int) (aN:Int):Xx prog (Zy prog 49) (OC aF aQ aP aO aD aI aJ aN) (Zp prog 49 [(.agg [(.int .u8 aF),(.int .i64 aQ),(.int .i64 aP),(.int .i64 aO)]),(.agg [(.int .u8 aD),(.int .i64 aI),(.int .i64 aJ),(.int .i64 aN)])] true []) (S2 aF aQ aP aO aD aI aJ aN):=let o:=Zy prog 10;(lb (fun k0=>(Yu ⟨⟨52,0,true⟩,none,(Zq prog 49 (pn 37) 1),none,o,⟨Zs [(4,(.ptr 0 0)),(5,(ii (CW aF aQ aP aO)))],Xe [⟨[(.int .u8 0),(ii 0),(ii 0),(ii 0)],36,none⟩] 0,1,[],true⟩,[],.leaf⟩ (sl Rb 23 [] ⟨[2],[],[some [4,5]],[]⟩ a6 [true] (tt k0 nn)) rfl (by kernel_rfl))) (fun k0=>(lb (fun k1=>(Yu ⟨⟨52,0,true⟩,none,(Zq prog 49 (pn 75) 1),none,o,⟨Zs [(4,(.ptr 0 0)),(5,(ii (CW aD aI aJ aN)))],Xe [⟨[(.int .u8 0),(ii 0),(ii 0),(ii 0)],36,none⟩] 0,1,[],true⟩,[],.leaf⟩ (sl Rb 32 [] ⟨[2],[],[some [4,5]],[]⟩ a6 (bl 2 2) (tt k1 (tt k0 nn))) rfl (by kernel_rfl))) (fun k1=>(lo fun bO=>(lo fun cI=>(lo fun cT=>let m:=ww cT (ww cI (ww cI (ww cI (ww bO (tt k1 (tt k0 nn))))));(lb (fun k2=>(Yu ⟨⟨52,0,true⟩,none,(Zq prog 49 (pn 1215) 1),none,o,⟨Zs [(4,(.ptr 0 0)),(5,(ii 16))],Xe [⟨[(.int .u8 0),(ii 0),(ii 0),(ii 0)],36,none⟩] 0,1,[],true⟩,[],.leaf⟩ (sl Rb 119 [] ⟨[2],[],[some [4,5]],[]⟩ a6 (bl 19 318820) (tt k2 m)) rfl (by kernel_rfl))) (fun k2=>let j:=CC (wr aF);let l:=CC (wr aD);let n:=CU aD aI aJ aN aQ aP aO;(Yu ⟨⟨52,0,true⟩,none,(Zq prog 3 (pn 767) 1),none,o,⟨Zs [(4,(.ptr 0 0)),(5,(ii 0))],Xe [⟨[(.int .u8 (wrap IntKind.u8 (OH (wr ((wr (j.a *l.a))+(wr ((wr (j.b *l.d))+(wr (j.c *l.g)))))) (wr ((wr (j.a *l.b))+(wr ((wr (j.b *l.e))+(wr (j.c *l.h)))))) (wr ((wr (j.a *l.c))+(wr ((wr (j.b *l.f))+(wr (j.c *l.i)))))) (wr ((wr (j.d *l.a))+(wr ((wr (j.e *l.d))+(wr (j.f *l.g)))))) (wr ((wr (j.d *l.b))+(wr ((wr (j.e *l.e))+(wr (j.f *l.h)))))) (wr ((wr (j.d *l.c))+(wr ((wr (j.e *l.f))+(wr (j.f *l.i)))))) (wr ((wr (j.g *l.a))+(wr ((wr (j.h *l.d))+(wr (j.i *l.g)))))) (wr ((wr (j.g *l.b))+(wr ((wr (j.h *l.e))+(wr (j.i *l.h)))))) (wr ((wr (j.g *l.c))+(wr ((wr (j.h *l.f))+(wr (j.i *l.i))))))))),(ii n.a),(ii n.b),(ii n.c)],36,none⟩] 0,1,[],true⟩,[],.leaf⟩ (sl Rb 120 [] ⟨[2],[],[some [4,5]],[]⟩ a6 (bl 19 56676) (tt k2 m)) rfl (by kernel_rfl)))))))))))
theorem u0r (aF:Int) (aQ:Int) (aP:Int) (aO:Int) (aD:Int) (aI:Int) (aJ:Int) (aN:Int) (n:Nat) (vs:zy) (h:Yx (x8x aF aQ aP aO aD aI aJ aN) n (S2 aF aQ aP aO aD aI aJ aN)=.ret vs):Vi prog (Zy prog 49) (Zp prog 49 [(.agg [(.int .u8 aF),(.int .i64 aQ),(.int .i64 aP),(.int .i64 aO)]),(.agg [(.int .u8 aD),(.int .i64 aI),(.int .i64 aJ),(.int .i64 aN)])] true []) vs:=by have:=Zg (w8o aF aQ aP aO aD aI aJ aN) n _ (x8y aF aQ aP aO aD aI aJ aN);rwa [h] at this
def k9 (s t:Int):R9:=⟨w3 ((CC s).a *(CC t).a) ((CC s).b *(CC t).d) ((CC s).c *(CC t).g),w3 ((CC s).a *(CC t).b) ((CC s).b *(CC t).e) ((CC s).c *(CC t).h),w3 ((CC s).a *(CC t).c) ((CC s).b *(CC t).f) ((CC s).c *(CC t).i),w3 ((CC s).d *(CC t).a) ((CC s).e *(CC t).d) ((CC s).f *(CC t).g),w3 ((CC s).d *(CC t).b) ((CC s).e *(CC t).e) ((CC s).f *(CC t).h),w3 ((CC s).d *(CC t).c) ((CC s).e *(CC t).f) ((CC s).f *(CC t).i),w3 ((CC s).g *(CC t).a) ((CC s).h *(CC t).d) ((CC s).i *(CC t).g),w3 ((CC s).g *(CC t).b) ((CC s).h *(CC t).e) ((CC s).i *(CC t).h),w3 ((CC s).g *(CC t).c) ((CC s).h *(CC t).f) ((CC s).i *(CC t).i)⟩
def M0 (v:R9):Int:=V0 v.a v.b v.c v.d v.e v.f v.g v.h v.i
def rt9 (v:R9):Int:=OH v.a v.b v.c v.d v.e v.f v.g v.h v.i
def DD (s a b c t x y z:Int):R4:=⟨M0 (k9 s t),(CU t x y z a b c).a,(CU t x y z a b c).b,(CU t x y z a b c).c⟩
def RL (s a b c t x y z:Int):Bool:=Wm s&&Wm t
def FD (v:R4):B9:=.agg [.int .u8 v.a,.int .i64 v.b,.int .i64 v.c,.int .i64 v.d]
theorem j6k (s a b c t x y z:Int) (h:RL s a b c t x y z=true): ∃N,Yx (w2r s a b c t x y z) N (TL s a b c t x y z)=.ret [FD (DD s a b c t x y z)]:=⟨0,by
 unfold RL at h;rw [Ac] at h;show TL s a b c t x y z=_;unfold TL;rw [Zi h.1,Zi h.2,Zi (show Ut t x y z a b c=true from h.2)];simp only [wll];rfl⟩
def QN :zy->Option (B9×Bool)
 | [.agg [.int .u8 s,.int .i64 a,.int .i64 b,.int .i64 c],.agg [.int .u8 t,.int .i64 x,.int .i64 y,.int .i64 z]]=>some (FD (DD s a b c t x y z),RL s a b c t x y z)
 | _=>none
theorem j9a {S:CB} (hS:Zw prog S):Zw prog (S.with VX QN):=Kv hS (by kernel_rfl) fun args v h=>by
 unfold QN at h;split at h
 .rename_i s a b c t x y z;simp only [Ad,Ae] at h;obtain ⟨rfl,ho⟩:=h;obtain ⟨N,hN⟩:=j6k s a b c t x y z ho;exact ⟨_,_,.cons (.refl _) (.cons (.refl _) .nil),rfl,u4l s a b c t x y z N _ hN,5,rfl⟩
 .cases h
def WD :CB:=WE.with VX QN
theorem So :Zw prog WD:=j9a Rb
theorem v9f :((List.range 24).all fun s=>(List.range 24).all fun t=>rt9 (k9 (s:Int) (t:Int)) == M0 (k9 (s:Int) (t:Int))&&(decide (0<=M0 (k9 (s:Int) (t:Int)))&&decide (M0 (k9 (s:Int) (t:Int))<24)))=true:=by kernel_rfl
theorem v3d {s t:Int} (hs:Wm s=true) (ht:Wm t=true):rt9 (k9 s t)=M0 (k9 s t)/\0<=M0 (k9 s t)/\M0 (k9 s t)<24:=by
 have hs:0<=s/\s<24:=Ax hs;have ht:0<=t/\t<24:=Ax ht;obtain ⟨p,rfl⟩: ∃n:Nat,s=(n:Int):=⟨s.toNat,by omega⟩
 obtain ⟨q,rfl⟩: ∃n:Nat,t=(n:Int):=⟨t.toNat,by omega⟩
 have:=Au.1 (Au.1 v9f p (AP.2 (by omega))) q (AP.2 (by omega));rw [Ac,Ac,Ao,Ao,Bi] at this;exact this
def Ek (s a b c t x y z:Int):Int:=bif CW s a b c != 0 then CW s a b c else bif CW t x y z != 0 then CW t x y z else bif CW (DD s a b c t x y z).a (DD s a b c t x y z).b (DD s a b c t x y z).c (DD s a b c t x y z).d != 0 then 16 else 0
def Kk (s a b c t x y z:Int):R4:=bif Ek s a b c t x y z != 0 then ⟨0,0,0,0⟩ else DD s a b c t x y z
def Jy (s a b c t x y z:Int):Bool:=decide (0<=s)&&decide (0<=t)
theorem It {t x y z:Int} (h:(CW t x y z != 0)=false) (h0:0<=t):Wm t=true:=by
 unfold CW at h;by_cases g:24<=t
 .rw [Af g] at h;cases h
 .exact Af (by omega)
theorem j2x (s a b c t x y z:Int) (h:Jy s a b c t x y z=true): ∃N,Yx (x8x s a b c t x y z) N (S2 s a b c t x y z)=.ret [FD (Kk s a b c t x y z),.int .i64 (Ek s a b c t x y z)]:=⟨0,by
 unfold Jy at h;rw [Ac,Ao,Ao] at h;show S2 s a b c t x y z=_;unfold S2 Kk;unfold Ek;cases g1:CW s a b c != 0 with
 | true=>simp only [Ab,g1];rfl
 | false=>
  cases g2:CW t x y z != 0 with
  | true=>simp only [Ab,Aa,g2];rfl
  | false=>
   have hs:=It g1 h.1;have ht:=It g2 h.2;obtain ⟨q1,q2,q3⟩:=v3d hs ht;rw [Aa,Aa,y6b hs,y6b ht,Zi hs,Zi ht,Zi (show Ut t x y z a b c=true from ht)];simp only [wrr];have e:OH (w3 ((CC s).a *(CC t).a) ((CC s).b *(CC t).d) ((CC s).c *(CC t).g)) (w3 ((CC s).a *(CC t).b) ((CC s).b *(CC t).e) ((CC s).c *(CC t).h)) (w3 ((CC s).a *(CC t).c) ((CC s).b *(CC t).f) ((CC s).c *(CC t).i)) (w3 ((CC s).d *(CC t).a) ((CC s).e *(CC t).d) ((CC s).f *(CC t).g)) (w3 ((CC s).d *(CC t).b) ((CC s).e *(CC t).e) ((CC s).f *(CC t).h)) (w3 ((CC s).d *(CC t).c) ((CC s).e *(CC t).f) ((CC s).f *(CC t).i)) (w3 ((CC s).g *(CC t).a) ((CC s).h *(CC t).d) ((CC s).i *(CC t).g)) (w3 ((CC s).g *(CC t).b) ((CC s).h *(CC t).e) ((CC s).i *(CC t).h)) (w3 ((CC s).g *(CC t).c) ((CC s).h *(CC t).f) ((CC s).i *(CC t).i))=M0 (k9 s t):=q1;rw [e,wu8 _ (by omega)];simp only [Aa];show (bif CW (DD s a b c t x y z).a (DD s a b c t x y z).b (DD s a b c t x y z).c (DD s a b c t x y z).d != 0 then _ else _)=_;cases CW (DD s a b c t x y z).a (DD s a b c t x y z).b (DD s a b c t x y z).c (DD s a b c t x y z).d != 0 <;> rfl⟩
def F4 :zy->Option (B9×Bool)
 | [.agg [.int .u8 s,.int .i64 a,.int .i64 b,.int .i64 c],.agg [.int .u8 t,.int .i64 x,.int .i64 y,.int .i64 z]]=>some (.tup [FD (Kk s a b c t x y z),.int .i64 (Ek s a b c t x y z)],Jy s a b c t x y z)
 | _=>none
theorem j7k {S:CB} (hS:Zw prog S):Zw prog (S.with UK F4):=Kv hS (by kernel_rfl) fun args v h=>by
 unfold F4 at h;split at h
 .rename_i s a b c t x y z;simp only [Ad,Ae] at h;obtain ⟨rfl,ho⟩:=h;obtain ⟨N,hN⟩:=j2x s a b c t x y z ho;exact ⟨_,_,.cons (.refl _) (.cons (.refl _) .nil),rfl,u0r s a b c t x y z N _ hN,5,rfl⟩
 .cases h
inductive I7 where
def P1 (aF:Int) (aQ:Int) (aP:Int) (aO:Int) (aD:Int) (aI:Int) (aJ:Int) (aN:Int):I7->CI
 :=nofun
def w2p (aF:Int) (aQ:Int) (aP:Int) (aO:Int) (aD:Int) (aI:Int) (aJ:Int) (aN:Int):I7->Yr I7
 :=nofun
def TM (aF:Int) (aQ:Int) (aP:Int) (aO:Int) (aD:Int) (aI:Int) (aJ:Int) (aN:Int):Yr I7:=(bif ((CW aF aQ aP aO) != 0) then (.ret [(.agg [(.int .u8 0),(.int .i64 0),(.int .i64 0),(.int .i64 0)]),(.int .i64 (CW aF aQ aP aO))]) else (bif ((CW aD aI aJ aN) != 0) then (.ret [(.agg [(.int .u8 0),(.int .i64 0),(.int .i64 0),(.int .i64 0)]),(.int .i64 (CW aD aI aJ aN))]) else (bif (RL aF aQ aP aO aD aI aJ aN) then (bif ((CW (DD aF aQ aP aO aD aI aJ aN).a (DD aF aQ aP aO aD aI aJ aN).b (DD aF aQ aP aO aD aI aJ aN).c (DD aF aQ aP aO aD aI aJ aN).d) != 0) then (.ret [(.agg [(.int .u8 0),(.int .i64 0),(.int .i64 0),(.int .i64 0)]),(.int .i64 16)]) else (.ret [(.agg [(.int .u8 (DD aF aQ aP aO aD aI aJ aN).a),(.int .i64 (DD aF aQ aP aO aD aI aJ aN).b),(.int .i64 (DD aF aQ aP aO aD aI aJ aN).c),(.int .i64 (DD aF aQ aP aO aD aI aJ aN).d)]),(.int .i64 0)])) else .stuck)))
theorem v1e (aF:Int) (aQ:Int) (aP:Int) (aO:Int) (aD:Int) (aI:Int) (aJ:Int) (aN:Int): ∀s,Xx prog (Zy prog 48) (P1 aF aQ aP aO aD aI aJ aN) (P1 aF aQ aP aO aD aI aJ aN s) (w2p aF aQ aP aO aD aI aJ aN s)
 :=nofun
theorem w2q (aF:Int) (aQ:Int) (aP:Int) (aO:Int) (aD:Int) (aI:Int) (aJ:Int) (aN:Int):Xx prog (Zy prog 48) (P1 aF aQ aP aO aD aI aJ aN) (Zp prog 48 [(.agg [(.int .u8 aF),(.int .i64 aQ),(.int .i64 aP),(.int .i64 aO)]),(.agg [(.int .u8 aD),(.int .i64 aI),(.int .i64 aJ),(.int .i64 aN)])] true []) (TM aF aQ aP aO aD aI aJ aN):=let f:=Zy prog 10;(lb (fun k0=>(Yu ⟨⟨29,0,true⟩,none,(Zq prog 48 (pn 77) 1),none,f,⟨Zs [(4,(.ptr 0 0)),(5,(ii (CW aF aQ aP aO)))],Xe [⟨[(.int .u8 0),(ii 0),(ii 0),(ii 0)],36,none⟩] 0,1,[],true⟩,[],.leaf⟩ (sl So 27 [] ⟨[2],[],[some [4,5]],[]⟩ a6 [true] (tt k0 nn)) rfl (by kernel_rfl))) (fun k0=>(lb (fun k1=>(Yu ⟨⟨29,0,true⟩,none,(Zq prog 48 (pn 155) 1),none,f,⟨Zs [(4,(.ptr 0 0)),(5,(ii (CW aD aI aJ aN)))],Xe [⟨[(.int .u8 0),(ii 0),(ii 0),(ii 0)],36,none⟩] 0,1,[],true⟩,[],.leaf⟩ (sl So 41 [] ⟨[2],[],[some [4,5]],[]⟩ a6 (bl 2 2) (tt k1 (tt k0 nn))) rfl (by kernel_rfl))) (fun k1=>(lo fun bO=>let g:=ww bO (tt k1 (tt k0 nn));(lb (fun k2=>(Yu ⟨⟨29,0,true⟩,none,(Zq prog 48 (pn 303) 1),none,f,⟨Zs [(4,(.ptr 0 0)),(5,(ii 16))],Xe [⟨[(.int .u8 0),(ii 0),(ii 0),(ii 0)],36,none⟩] 0,1,[],true⟩,[],.leaf⟩ (sl So 57 [] ⟨[2],[],[some [4,5]],[]⟩ a6 (bl 3 4) (tt k2 g)) rfl (by kernel_rfl))) (fun k2=>let e:=DD aF aQ aP aO aD aI aJ aN;(Yu ⟨⟨29,0,true⟩,none,(Zq prog 3 (pn 767) 1),none,f,⟨Zs [(4,(.ptr 0 0)),(5,(ii 0))],Xe [⟨[(.int .u8 e.a),(ii e.b),(ii e.c),(ii e.d)],36,none⟩] 0,1,[],true⟩,[],.leaf⟩ (sl So 58 [] ⟨[2],[],[some [4,5]],[]⟩ a6 (bl 3 0) (tt k2 g)) rfl (by kernel_rfl)))))))))
theorem u4k (aF:Int) (aQ:Int) (aP:Int) (aO:Int) (aD:Int) (aI:Int) (aJ:Int) (aN:Int) (n:Nat) (vs:zy) (h:Yx (w2p aF aQ aP aO aD aI aJ aN) n (TM aF aQ aP aO aD aI aJ aN)=.ret vs):Vi prog (Zy prog 48) (Zp prog 48 [(.agg [(.int .u8 aF),(.int .i64 aQ),(.int .i64 aP),(.int .i64 aO)]),(.agg [(.int .u8 aD),(.int .i64 aI),(.int .i64 aJ),(.int .i64 aN)])] true []) vs:=by have:=Zg (v1e aF aQ aP aO aD aI aJ aN) n _ (w2q aF aQ aP aO aD aI aJ aN);rwa [h] at this
theorem j6j (s a b c t x y z:Int) (h:Jy s a b c t x y z=true): ∃N,Yx (w2p s a b c t x y z) N (TM s a b c t x y z)=.ret [FD (Kk s a b c t x y z),.int .i64 (Ek s a b c t x y z)]:=⟨0,by
 unfold Jy at h;rw [Ac,Ao,Ao] at h;show TM s a b c t x y z=_;unfold TM Kk;unfold Ek;cases g1:CW s a b c != 0 with
 | true=>simp only [Ab,g1];rfl
 | false=>
  cases g2:CW t x y z != 0 with
  | true=>simp only [Ab,Aa,g2];rfl
  | false=>
   rw [Aa,Aa,Zi (show RL s a b c t x y z=true by unfold RL;rw [It g1 h.1,It g2 h.2];rfl)];simp only [Aa];cases CW (DD s a b c t x y z).a (DD s a b c t x y z).b (DD s a b c t x y z).c (DD s a b c t x y z).d != 0 <;> rfl⟩
theorem j8z {S:CB} (hS:Zw prog S):Zw prog (S.with VW F4):=Kv hS (by kernel_rfl) fun args v h=>by
 unfold F4 at h;split at h
 .rename_i s a b c t x y z;simp only [Ad,Ae] at h;obtain ⟨rfl,ho⟩:=h;obtain ⟨N,hN⟩:=j6j s a b c t x y z ho;exact ⟨_,_,.cons (.refl _) (.cons (.refl _) .nil),rfl,u4k s a b c t x y z N _ hN,5,rfl⟩
 .cases h
def RE :CB:=(WD.with UK F4).with VW F4
theorem Gx :Zw prog RE:=j8z (j7k So)
def z4 :R4:=⟨0,0,0,0⟩
def SL (x:CD):R4:=⟨x.t,x.x,x.y,x.z⟩
def FM (f g:R4):R4×Int:=(Kk f.a f.b f.c f.d g.a g.b g.c g.d,Ek f.a f.b f.c f.d g.a g.b g.c g.d)
def Gm (l:zt):Nat->Int->R4×Int
 | 0,_=>(z4,0)
 | k+1,i=>bif decide ((rd l i.toNat).a <0) then (SL (rd l i.toNat),0) else bif (Gm l k (rd l i.toNat).a).2 != 0 then (z4,(Gm l k (rd l i.toNat).a).2) else FM (SL (rd l i.toNat)) (Gm l k (rd l i.toNat).a).1
def Qz (l:zt) (i:Int):R4×Int:=Gm l (i.toNat+1) i
theorem x5n {l:zt} {t:Nat} (ht:EO l t=true): ∀(k m j:Nat),j<=t->j<k->j<m->Gm l k (j:Int)=Gm l m (j:Int)
 | 0,m,j,h0,h1,h2=>absurd h1 (AD _)
 | k+1,0,j,h0,h1,h2=>absurd h2 (AD _)
 | k+1,m+1,j,h0,h1,h2=>by
  have hb:=Qw ht h0;unfold Gm;rw [Zj];by_cases h:(rd l j).a <0
  .rw [Af h];rfl
  .obtain ⟨p,hp⟩: ∃p:Nat,(rd l j).a =(p:Int):=⟨(rd l j).a.toNat,by omega⟩
   rw [hp,x5n ht k m p (by omega) (by omega) (by omega)]
theorem TQ {l:zt} {t j:Nat} (ht:EO l t=true) (hj:j<=t):Qz l (j:Int)=bif decide ((rd l j).a <0) then (SL (rd l j),0) else bif (Qz l (rd l j).a).2 != 0 then (z4,(Qz l (rd l j).a).2) else FM (SL (rd l j)) (Qz l (rd l j).a).1:=by
 have hb:=Qw ht hj;have e:Qz l (j:Int)=Gm l (j+1) (j:Int):=by unfold Qz;rw [Zj]
 rw [e,Gm,Zj];by_cases h:(rd l j).a <0
 .rw [Af h];rfl
 .obtain ⟨p,hp⟩: ∃p:Nat,(rd l j).a =(p:Int):=⟨(rd l j).a.toNat,by omega⟩
  have e2:Qz l (p:Int)=Gm l j (p:Int):=by unfold Qz;rw [Zj];exact x5n ht _ _ p (by omega) (by omega) (by omega)
  rw [hp,e2]
def Xq (l:zt) (i:Int):R4:=(Qz l i).1
def HP (l:zt) (i:Int):Int:=(Qz l i).2
def Wh (l:zt) (i:Int):Bool:=decide (0<=i/\i<(l.length:Int))&&(decide (l.length<=1000)&&(EO l i.toNat&&l.all fun x=>decide (0<=x.t)))
def RX (q:Nat) (l:zt) (i:Int):Bool:=decide (i<(q:Int))&&Wh l i
theorem ZE {l:zt} (h:(l.all fun x=>decide (0<=x.t))=true) (j:Nat):0<=(rd l j).t :=by
 by_cases hj:j<l.length
 .rw [Xm hj];exact Ax (Au.1 h _ (AS hj))
 .have:rd l j=Xa.d:=by simp [rd,List.getD,List.getElem?_eq_none (show l.length<=j by omega)]
  rw [this];exact A6 0
theorem v2w {f g:R4} (hf:0<=f.a) (hg:0<=g.a):0<=(FM f g).1.a :=by
 unfold FM;simp only [];unfold Kk;cases h:Ek f.a f.b f.c f.d g.a g.b g.c g.d != 0 with
 | true=>exact A6 0
 | false=>
  unfold Ek at h;cases g1:CW f.a f.b f.c f.d != 0 with
  | true=>rw [g1,Ab,g1] at h;cases h
  | false=>
   rw [g1,Aa] at h;cases g2:CW g.a g.b g.c g.d != 0 with
   | true=>rw [g2,Ab,g2] at h;cases h
   | false=>exact (v3d (It g1 hf) (It g2 hg)).2.1
theorem RW {l:zt} {t:Nat} (ht:EO l t=true) (hl:(l.all fun x=>decide (0<=x.t))=true): ∀(m j:Nat),j<m->j<=t->0<=(Qz l (j:Int)).1.a
 | 0,j,hm,_=>absurd hm (AD _)
 | m+1,j,hm,hj=>by
  have hb:=Qw ht hj;rw [TQ ht hj];by_cases h:(rd l j).a <0
  .rw [Af h];exact ZE hl j
  .obtain ⟨p,hp⟩: ∃p:Nat,(rd l j).a =(p:Int):=⟨(rd l j).a.toNat,by omega⟩
   rw [An h,Aa,hp];cases (Qz l (p:Int)).2 != 0 with
   | true=>exact A6 0
   | false=>exact v2w (ZE hl j) (RW ht hl m p (by omega) (by omega))
def QE (q:Nat):zy->Option (B9×Bool)
 | [a0,.int .i64 i]=>match CY CD a0 with
  | some (L,g,n)=>some (.tup [FD (Xq L i),.int .i64 (HP L i)],CX CD n g&&RX q L i)
  | _=>none
 | _=>none
def Tpl (q:Nat):CB:=RE.with Oh (QE q)
inductive IS where
def Oi (l0:zt) (x1:Int):IS->CI
 :=nofun
def w1h (l0:zt) (x1:Int):IS->Yr IS
 :=nofun
def TR (q:Nat) (l0:zt) (x1:Int):Yr IS:=(bif ((decide (0<=x1/\x1<(l0.length:Int)))&&true) then (bif (decide ((rd l0 x1.toNat).a <0)) then (.ret [(.agg [(.int .u8 (rd l0 x1.toNat).t),(.int .i64 (rd l0 x1.toNat).x),(.int .i64 (rd l0 x1.toNat).y),(.int .i64 (rd l0 x1.toNat).z)]),(.int .i64 0)]) else (bif (RX q (CA l0) (rd l0 x1.toNat).a) then (bif ((HP (CA l0) (rd l0 x1.toNat).a) != 0) then (.ret [(.agg [(.int .u8 0),(.int .i64 0),(.int .i64 0),(.int .i64 0)]),(.int .i64 (HP (CA l0) (rd l0 x1.toNat).a))]) else (bif (Jy (rd l0 x1.toNat).t (rd l0 x1.toNat).x (rd l0 x1.toNat).y (rd l0 x1.toNat).z (Xq (CA l0) (rd l0 x1.toNat).a).a (Xq (CA l0) (rd l0 x1.toNat).a).b (Xq (CA l0) (rd l0 x1.toNat).a).c (Xq (CA l0) (rd l0 x1.toNat).a).d) then (.ret [(.agg [(.int .u8 (Kk (rd l0 x1.toNat).t (rd l0 x1.toNat).x (rd l0 x1.toNat).y (rd l0 x1.toNat).z (Xq (CA l0) (rd l0 x1.toNat).a).a (Xq (CA l0) (rd l0 x1.toNat).a).b (Xq (CA l0) (rd l0 x1.toNat).a).c (Xq (CA l0) (rd l0 x1.toNat).a).d).a),(.int .i64 (Kk (rd l0 x1.toNat).t (rd l0 x1.toNat).x (rd l0 x1.toNat).y (rd l0 x1.toNat).z (Xq (CA l0) (rd l0 x1.toNat).a).a (Xq (CA l0) (rd l0 x1.toNat).a).b (Xq (CA l0) (rd l0 x1.toNat).a).c (Xq (CA l0) (rd l0 x1.toNat).a).d).b),(.int .i64 (Kk (rd l0 x1.toNat).t (rd l0 x1.toNat).x (rd l0 x1.toNat).y (rd l0 x1.toNat).z (Xq (CA l0) (rd l0 x1.toNat).a).a (Xq (CA l0) (rd l0 x1.toNat).a).b (Xq (CA l0) (rd l0 x1.toNat).a).c (Xq (CA l0) (rd l0 x1.toNat).a).d).c),(.int .i64 (Kk (rd l0 x1.toNat).t (rd l0 x1.toNat).x (rd l0 x1.toNat).y (rd l0 x1.toNat).z (Xq (CA l0) (rd l0 x1.toNat).a).a (Xq (CA l0) (rd l0 x1.toNat).a).b (Xq (CA l0) (rd l0 x1.toNat).a).c (Xq (CA l0) (rd l0 x1.toNat).a).d).d)]),(.int .i64 (Ek (rd l0 x1.toNat).t (rd l0 x1.toNat).x (rd l0 x1.toNat).y (rd l0 x1.toNat).z (Xq (CA l0) (rd l0 x1.toNat).a).a (Xq (CA l0) (rd l0 x1.toNat).a).b (Xq (CA l0) (rd l0 x1.toNat).a).c (Xq (CA l0) (rd l0 x1.toNat).a).d))]) else .stuck)) else .stuck)) else .stuck)
theorem v0e (l0:zt) (x1:Int): ∀s,Xx prog (Zy prog 27) (Oi l0 x1) (Oi l0 x1 s) (w1h l0 x1 s)
 :=nofun
theorem w1i {q:Nat} (hq:Zw prog (Tpl q)) (l0:zt) (x1:Int):Xx prog (Zy prog 27) (Oi l0 x1) (Zp prog 27 [(dt l0),(.int .i64 x1)] true []) (TR q l0 x1):=(lo fun bG=>let f:=rd l0 (tn x1);let i:=Zy prog 10;(lb (fun k0=>(Yu ⟨⟨42,0,true⟩,none,(Zq prog 27 (pn 37) 1),none,i,⟨Zs [(4,(.ptr 0 0)),(5,(ii 0))],Xe [⟨[(.int .u8 f.t),(ii f.x),(ii f.y),(ii f.z)],36,none⟩] 0,1,[],true⟩,[],.leaf⟩ (sl hq 26 [] ⟨[0],[],[some [4,5]],[]⟩ a6 [true] (ww bG (tt k0 (ww bG nn)))) rfl (by kernel_rfl))) (fun k0=>(lo fun aL=>let h:=pp (pp (xr l0) (xw aL)) (ww bG (tt k0 (ww bG nn)));(lb (fun k1=>(Yu ⟨⟨42,0,true⟩,none,(Zq prog 27 (pn 151) 1),none,i,⟨Zs [(4,(.ptr 0 0)),(5,(ii (HP (CA l0) f.a)))],Xe [⟨[(.int .u8 0),(ii 0),(ii 0),(ii 0)],36,none⟩] 0,1,[],true⟩,[],.leaf⟩ (sl hq 47 [] ⟨[0],[],[some [4,5]],[]⟩ a6 (bl 2 2) (tt k1 h)) rfl (by kernel_rfl))) (fun k1=>(lo fun o0=>let g:=Xq (CA l0) f.a;let e:=Kk f.t f.x f.y f.z g.a g.b g.c g.d;(Yu ⟨⟨42,0,true⟩,none,(Zq prog 3 (pn 767) 1),none,i,⟨Zs [(4,(.ptr 0 0)),(5,(ii (Ek f.t f.x f.y f.z g.a g.b g.c g.d)))],Xe [⟨[(.int .u8 e.a),(ii e.b),(ii e.c),(ii e.d)],36,none⟩] 0,1,[],true⟩,[],.leaf⟩ (sl hq 43 [] ⟨[0],[],[some [4,5]],[]⟩ a6 (bl 2 0) (ww o0 (ww bG (tt k1 h)))) rfl (by kernel_rfl)))))))))
theorem w5o {q:Nat} (hq:Zw prog (Tpl q)) (l0:zt) (x1:Int) (n:Nat) (vs:zy) (h:Yx (w1h l0 x1) n (TR q l0 x1)=.ret vs):Vi prog (Zy prog 27) (Zp prog 27 [(dt l0),(.int .i64 x1)] true []) vs:=by have:=Zg (v0e l0 x1) n _ (w1i hq l0 x1);rwa [h] at this
inductive GV where
 | h0 (v6:zp) (v7:Int)
 | h1 (v6:zp) (v9:Int) (aB:Int) (bJ:Int) (cE:Int) (cF:Int)
def OQ (l0:zt) (x1:Int):GV->CI
 | .h0 v6 v7=>⟨⟨60,0,true⟩,none,(Zq prog 28 (pn 75) 0),none,(Zy prog 10),⟨Zs [(0,(dt l0)),(4,(.ptr 0 0)),(6,(.sla 1 1 0 v6.length (.un 1))),(7,(ii v7))],Xe [⟨[(.int .u8 0),(ii 0),(ii 0),(ii 0)],36,none⟩,(rz v6 3 1)] 0,2,[],true⟩,[],.leaf⟩
 | .h1 v6 v9 aB bJ cE cF=>⟨⟨60,0,true⟩,none,(Zq prog 28 (pn 303) 0),none,(Zy prog 10),⟨Zs [(0,(dt l0)),(4,(.ptr 0 0)),(6,(.sla 1 1 0 v6.length (.un 1))),(8,(.ptr 2 0)),(9,(ii v9))],Xe [⟨[(.int .u8 0),(ii 0),(ii 0),(ii 0)],36,none⟩,(rz v6 3 1),⟨[(.int .u8 aB),(ii bJ),(ii cE),(ii cF)],36,none⟩] 0,3,[],true⟩,[],.leaf⟩
def LV :List (Option zr):=[some [0,4,6,7]]
def LX :List (Option zr):=[]
def LU :List (Option zr):=[some [0,4,6,8,9]]
def LW :List (Option zr):=[]
def Fp (l0:zt) (x1:Int):GV->Yr GV
 | .h0 v6 v7=>(bif (decide (v7>=0)) then (bif (Nat.beq 1 1&&((decide (0+v6.length=v6.length))&&decide ((v6.length+1+1)*(8+1)<=Jm))) then (bif ((decide (0<=v7/\v7<(l0.length:Int)))&&true) then (.to (.h0 (v6++[v7]) (rd l0 v7.toNat).a)) else .stuck) else .stuck) else (bif ((decide (0<=(wrap .i64 ((v6.length:Int) - 1))/\(wrap .i64 ((v6.length:Int) - 1))<(v6.length:Int)))&&true) then (bif (decide ((0+(Int.toNat (wrap .i64 ((v6.length:Int) - 1))))<v6.length)) then (bif ((decide (0<=(rd v6 (0+(Int.toNat (wrap .i64 ((v6.length:Int) - 1)))))/\(rd v6 (0+(Int.toNat (wrap .i64 ((v6.length:Int) - 1)))))<(l0.length:Int)))&&true) then (.to (.h1 v6 (wrap .i64 ((v6.length:Int) - 2)) (rd l0 (Int.toNat (rd v6 (0+(Int.toNat (wrap .i64 ((v6.length:Int) - 1))))))).t (rd l0 (Int.toNat (rd v6 (0+(Int.toNat (wrap .i64 ((v6.length:Int) - 1))))))).x (rd l0 (Int.toNat (rd v6 (0+(Int.toNat (wrap .i64 ((v6.length:Int) - 1))))))).y (rd l0 (Int.toNat (rd v6 (0+(Int.toNat (wrap .i64 ((v6.length:Int) - 1))))))).z)) else .stuck) else .stuck) else .stuck))
 | .h1 v6 v9 aB bJ cE cF=>let h:=rd v6 (0+v9.toNat);let e:=rd l0 (Int.toNat h);let f:=Kk e.t e.x e.y e.z aB bJ cE cF;let g:=Ek e.t e.x e.y e.z aB bJ cE cF;(bif (decide (v9>=0)) then (bif ((decide (0<=v9/\v9<(v6.length:Int)))&&true) then (bif (decide ((0+v9.toNat)<v6.length)) then (bif ((decide (0<=h/\h<(l0.length:Int)))&&true) then (bif (Jy e.t e.x e.y e.z aB bJ cE cF) then (bif (g != 0) then (.ret [(.agg [(.int .u8 0),(.int .i64 0),(.int .i64 0),(.int .i64 0)]),(.int .i64 g)]) else (.to (.h1 v6 (wrap .i64 (v9 - 1)) f.a f.b f.c f.d))) else .stuck) else .stuck) else .stuck) else .stuck) else (.ret [(.agg [(.int .u8 aB),(.int .i64 bJ),(.int .i64 cE),(.int .i64 cF)]),(.int .i64 0)]))
def YE (l0:zt) (x1:Int):Yr GV:=(.to (.h0 ([]:zp) x1))
theorem w9a (l0:zt) (x1:Int): ∀s,Xx prog (Zy prog 28) (OQ l0 x1) (OQ l0 x1 s) (Fp l0 x1 s)
 | .h0 v6 v7=>(lb (fun k0=>(lo fun o0=>(lo fun o1=>let d:=v6.length+1;let a:=xL d (v6++[v7]).length;let b:=Zf (Zz v6) 0 v6.length 1 [(ii v7)];let c:=Zz (v6++[v7]);(sl Gx 27 [] ⟨[0,3],[],LV,LX⟩ ⟨[(6,.len (v6++[v7]).length)],[.keep,.rowed 1 (v6++[v7]).length c],[]⟩ [true] (pp a (pp a (pp (xS d b c) (pp (pp (xF b) nn) (ww o1 (ww o0 (tt k0 nn))))))))))) (fun k0=>(lo fun o0=>(lo fun o1=>(lo fun o2=>(sl Gx 33 [] ⟨[0,1,2],[],LU,LW⟩ a6 [false] (pp (fl v6 nn) (ww o2 (ww o1 (ww o0 (tt k0 nn)))))))))))
 | .h1 v6 v9 aB bJ cE cF=>let c:=Zy prog 10;(lb (fun k0=>(lo fun aL=>(lo fun aT=>(lo fun bR=>(lo fun cG=>let b:=ww cG (ww bR (ww aT (ww aL (tt k0 nn))));(lb (fun k1=>let a:=rd l0 (tn (rd v6 (0+(tn v9))));(Yu ⟨⟨60,0,true⟩,none,(Zq prog 28 (pn 76079) 1),none,c,⟨Zs [(4,(.ptr 0 0)),(5,(ii (Ek a.t a.x a.y a.z aB bJ cE cF)))],Xe [⟨[(.int .u8 0),(ii 0),(ii 0),(ii 0)],36,none⟩] 0,1,[],true⟩,[],.leaf⟩ (sl Gx 26 [] ⟨[0],[],[some [4,5]],[]⟩ a6 (bl 2 3) (tt k1 b)) rfl (by kernel_rfl))) (fun k1=>(sl Gx 31 [] ⟨[0,1,2],[],LU,LW⟩ a6 (bl 2 1) (pp (fl v6 nn) (tt k1 b)))))))))) (fun k0=>(Yu ⟨⟨60,0,true⟩,none,(Zq prog 3 (pn 767) 1),none,c,⟨Zs [(4,(.ptr 0 0)),(5,(ii 0))],Xe [⟨[(.int .u8 aB),(ii bJ),(ii cE),(ii cF)],36,none⟩] 0,1,[],true⟩,[],.leaf⟩ (sl Gx 14 [] ⟨[0],[],[some [4,5]],[]⟩ a6 [false] (tt k0 nn)) rfl (by kernel_rfl))))
theorem x9l (l0:zt) (x1:Int):Xx prog (Zy prog 28) (OQ l0 x1) (Zp prog 28 [(dt l0),(.int .i64 x1)] true []) (YE l0 x1):=(sl Gx 17 [(3,1,Zz ([]:zp))] ⟨[0,1],[],LV,LX⟩ ⟨[(6,.grow 1 1)],[],[]⟩ [] (pp (fl ([]:zp) nn) nn))
theorem u1d (l0:zt) (x1:Int) (n:Nat) (vs:zy) (h:Yx (Fp l0 x1) n (YE l0 x1)=.ret vs):Vi prog (Zy prog 28) (Zp prog 28 [(dt l0),(.int .i64 x1)] true []) vs:=by have:=Zg (w9a l0 x1) n _ (x9l l0 x1);rwa [h] at this
theorem v5r (q:Nat) (l:zt) (i:Int) (hq:i<(q:Int)+1) (h:Wh l i=true): ∃N,Yx (w1h l i) N (TR q l i)=.ret [FD (Xq l i),.int .i64 (HP l i)]:=⟨0,by
 have h':=h;unfold Wh at h;simp only [Ac,Ao] at h;obtain ⟨h1,h2,h3,h4⟩:=h;obtain ⟨j,rfl⟩: ∃j:Nat,i=(j:Int):=⟨i.toNat,by omega⟩
 rw [Zj] at h3;have hb:=Qw h3 (Ar j);show TR q l (j:Int)=_;unfold TR Xq HP;rw [Ai,Zi (Zr h1),TQ h3 (Ar j)];simp only [Zj,Za];by_cases g:(rd l j).a <0
 .rw [Af g];rfl
 .obtain ⟨p,hp⟩: ∃p:Nat,(rd l j).a =(p:Int):=⟨(rd l j).a.toNat,by omega⟩
  have ho:RX q l (p:Int)=true:=by unfold RX Wh;rw [Zj,u3c h3 (show p<=j by omega),h4,Af (show (p:Int)<(q:Int) by omega),Af (show (0:Int)<=(p:Int)/\(p:Int)<(l.length:Int) by omega),Af h2];rfl
  rw [An g,Aa,Aa,hp,Zi ho];show (bif (Qz l (p:Int)).2 != 0 then _ else _)=_;cases g2:(Qz l (p:Int)).2 != 0 with
  | true=>rfl
  | false=>
   have ht:=RW h3 h4 (p+1) p (Bf p) (by omega);have hw:Jy (rd l j).t (rd l j).x (rd l j).y (rd l j).z (Qz l (p:Int)).1.a (Qz l (p:Int)).1.b (Qz l (p:Int)).1.c (Qz l (p:Int)).1.d =true:=by unfold Jy;rw [Af (ZE h4 j)];exact Af ht
   rw [Aa,Aa,Zi hw];rfl⟩
theorem j0y : ∀q:Nat,Zw prog (Tpl q)
 | 0=>Kv Gx (by kernel_rfl) fun args v h=>by
  unfold QE at h;split at h
  .rename_i a0 i;split at h
   .rename_i L g n e0;simp only [Ad,Ae,Ac] at h;obtain ⟨rfl,ho0,hw⟩:=h;unfold RX Wh at hw;simp only [Ac,Ao] at hw;omega
   .cases h
  .cases h
 | q+1=>Kv Gx (by kernel_rfl) fun args v h=>by
  unfold QE at h;split at h
  .rename_i a0 i;split at h
   .rename_i L g n e0;simp only [Ad,Ae,Ac] at h;obtain ⟨rfl,ho0,hw⟩:=h;unfold RX at hw;rw [Ac,Ao] at hw;obtain ⟨N,hN⟩:=v5r q L i (by omega) hw.2;exact ⟨_,_,(.cons (Yi e0 ho0) (.cons (.refl _) .nil)),rfl,w5o (j0y q) L i N _ hN,5,rfl⟩
   .cases h
  .cases h
def Fb :zy->Option (B9×Bool)
 | [a0,.int .i64 i]=>match CY CD a0 with
  | some (L,g,n)=>some (.tup [FD (Xq L i),.int .i64 (HP L i)],CX CD n g&&Wh L i)
  | _=>none
 | _=>none
theorem j8o {S:CB} (hS:Zw prog S):Zw prog (S.with Oh Fb):=Kv hS (by kernel_rfl) fun args v h=>by
 unfold Fb at h;split at h
 .rename_i a0 i;split at h
  .rename_i L g n e0;simp only [Ad,Ae,Ac] at h;obtain ⟨rfl,ho0,hw⟩:=h;obtain ⟨N,hN⟩:=v5r i.toNat L i (by unfold Wh at hw;simp only [Ac,Ao] at hw;omega) hw;exact ⟨_,_,(.cons (Yi e0 ho0) (.cons (.refl _) .nil)),rfl,w5o (j0y i.toNat) L i N _ hN,5,rfl⟩
  .cases h
 .cases h
def Cd (l:zt):Nat->Int->zp
 | 0,_=>[]
 | k+1,i=>bif decide (0<=i) then i::Cd l k (rd l i.toNat).a else []
theorem x1q (l:zt) (k:Nat) {i:Int} (h: ¬0<=i):Cd l k i=[]:=by
 cases k with
 | zero=>rfl
 | succ k=>unfold Cd;rw [An h];rfl
theorem w4p (l:zt): ∀(k:Nat) (i:Int),(Cd l k i).length <=k
 | 0,i=>Ar _
 | k+1,i=>by
  unfold Cd;cases decide (0<=i) with
  | true=>rw [Ab,AZ];have:=w4p l k (rd l i.toNat).a;omega
  | false=>exact Ay _
theorem NK {l:zt} {t:Nat} (ht:EO l t=true): ∀(m:Nat) (i:Int),i<=(t:Int)->i<(m:Int)-> ∀k,k<(Cd l m i).length ->
  ∃j:Nat,rd (Cd l m i) k=(j:Int)/\j<=t/\(j:Int)<=i/\(k+1<(Cd l m i).length ->rd (Cd l m i) (k+1)=(rd l j).a /\0<=(rd l j).a)/\(¬k+1<(Cd l m i).length ->(rd l j).a <0)/\(k=0->(j:Int)=i)
 | 0,i,h1,h2,k,hk=>absurd hk (AD _)
 | m +1,i,h1,h2,k,hk=>by
  by_cases h:0<=i
  .obtain ⟨j,rfl⟩: ∃j:Nat,i=(j:Int):=⟨i.toNat,by omega⟩
   have hb:=Qw ht (show j<=t by omega);have e:Cd l (m+1) (j:Int)=(j:Int)::Cd l m (rd l j).a :=by rw [Cd,Af h,Ab,Zj]
   rw [e] at hk ⊢;rw [AZ] at hk ⊢
   match k with
   | 0=>
    refine ⟨j,rfl,by omega,A6 _,fun hh=> ?_,fun hh=> ?_,fun _=>rfl⟩
    .by_cases g:0<=(rd l j).a
     .refine ⟨?_,g⟩;obtain ⟨p,hp⟩: ∃p:Nat,(rd l j).a =(p:Int):=⟨(rd l j).a.toNat,by omega⟩
      obtain ⟨q,q1,_,_,_,_,q2⟩:=NK ht m (rd l j).a (by omega) (by omega) 0 (by omega);show rd (Cd l m (rd l j).a) 0=_;rw [q1,q2 rfl]
     .rw [x1q l m g] at hh;exact absurd hh (by simp)
    .by_cases g:0<=(rd l j).a
     .exfalso
      match m with
      | 0=>omega
      | m+1=>rw [Cd,Af g,Ab,AZ] at hh;omega
     .omega
   | k+1=>obtain ⟨q,q1,q2,q3,q4,q5,q6⟩:=NK ht m (rd l j).a (by omega) (by omega) k (by omega);exact ⟨q,q1,q2,by omega,fun hh=>q4 (by omega),fun hh=>q5 (by omega),fun hh=>absurd hh (Nat.succ_ne_zero _)⟩
  .rw [x1q l (m+1) h] at hk;exact absurd hk (AD _)
theorem v2x {l:zt} {t:Nat} (ht:EO l t=true) {m:Nat} {i:Int} (h1:i<=(t:Int)) (h2:i<(m:Int)): ∀k,k<(Cd l m i).length ->((Qz l (rd (Cd l m i) k)).2 != 0)=true->Qz l (rd (Cd l m i) k)=(z4,(Qz l (rd (Cd l m i) k)).2)->Qz l i=(z4,(Qz l (rd (Cd l m i) k)).2)
 | 0,hk,he,hz=>by obtain ⟨j,q1,q2,q3,q4,q5,q6⟩:=NK ht m i h1 h2 0 hk;rw [q1,q6 rfl] at hz ⊢;exact hz
 | k+1,hk,he,hz=>by
  obtain ⟨j,q1,q2,q3,q4,q5,q6⟩:=NK ht m i h1 h2 k (by omega);obtain ⟨e1,e2⟩:=q4 hk;rw [e1] at he hz ⊢;have e:Qz l (j:Int)=(z4,(Qz l (rd l j).a).2):=by rw [TQ ht q2,An (show ¬(rd l j).a <0 by omega),Aa,he];rfl
  have:=v2x ht h1 h2 k (by omega) (by rw [q1,e];exact he) (by rw [q1,e]);rw [q1,e] at this;exact this
theorem u7y {l:zt} {x:Int} {t:Nat} (ht:EO l t=true) (hl:l.length<=1000) (hT:t<l.length) (h4:(l.all fun x=>decide (0<=x.t))=true) {m:Nat} (hm:m<=1001) {i:Int} (h1:i<=(t:Int)) (h2:i<(m:Int)):
  ∀k,k<(Cd l m i).length ->((Qz l (rd (Cd l m i) k)).2 != 0)=false-> ∃N,Yx (Fp l x) N (.to (.h1 (Cd l m i) ((k:Int) - 1) (Qz l (rd (Cd l m i) k)).1.a (Qz l (rd (Cd l m i) k)).1.b (Qz l (rd (Cd l m i) k)).1.c (Qz l (rd (Cd l m i) k)).1.d))=.ret [FD (Qz l i).1,.int .i64 (Qz l i).2]
 | 0,hk,he=>⟨1,by
  obtain ⟨j,q1,q2,q3,q4,q5,q6⟩:=NK ht m i h1 h2 0 hk;rw [q1,q6 rfl] at he ⊢;rw [Zx];unfold Fp;simp only [];rw [El (by omega),Aa];have:(Qz l i).2=0:=by simpa using he
  rw [this];rfl⟩
 | k+1,hk,he=>by
  have dA:=w4p l m i;obtain ⟨j,q1,q2,q3,q4,q5,q6⟩:=NK ht m i h1 h2 k (by omega);obtain ⟨e1,e2⟩:=q4 hk;have hb:=Qw ht q2;rw [e1] at he ⊢;have hQ:Qz l (j:Int)=FM (SL (rd l j)) (Qz l (rd l j).a).1:=by rw [TQ ht q2,An (show ¬(rd l j).a <0 by omega),Aa,he];rfl
  have w2:wrap .i64 ((k:Int) - 1)=(k:Int) - 1:=Zk (by omega);have hw:Jy (rd l j).t (rd l j).x (rd l j).y (rd l j).z (Qz l (rd l j).a).1.a (Qz l (rd l j).a).1.b (Qz l (rd l j).a).1.c (Qz l (rd l j).a).1.d =true:=by
   obtain ⟨p,hp⟩: ∃p:Nat,(rd l j).a =(p:Int):=⟨(rd l j).a.toNat,by omega⟩
   unfold Jy;rw [Af (ZE h4 j),hp];exact Af (RW ht h4 (p+1) p (Bf p) (by omega))
  have e:Fp l x (.h1 (Cd l m i) (((k+1:Nat):Int) - 1) (Qz l (rd l j).a).1.a (Qz l (rd l j).a).1.b (Qz l (rd l j).a).1.c (Qz l (rd l j).a).1.d)=bif (Qz l (j:Int)).2 != 0 then .ret [FD z4,.int .i64 (Qz l (j:Int)).2] else .to (.h1 (Cd l m i) ((k:Int) - 1) (Qz l (j:Int)).1.a (Qz l (j:Int)).1.b (Qz l (j:Int)).1.c (Qz l (j:Int)).1.d):=by unfold Fp;rw [show (((k+1:Nat):Int) - 1)=(k:Int) by omega];simp only [Zj,Ah,q1,w2];rw [ET (by omega),Ab,Ai,Zi (Zr (by omega)),Zi (Yq (by omega)),Ai,Zi (Zr (by omega)),Zi hw,hQ];rfl
  cases g:(Qz l (j:Int)).2 != 0 with
  | true=>
   refine ⟨1,?_⟩;have hz:Qz l (j:Int)=(z4,(Qz l (j:Int)).2):=by rw [hQ] at g ⊢;unfold FM at g ⊢;simp only [] at g ⊢;unfold Kk;rw [g];rfl
   have hr:=v2x ht h1 h2 k (by omega) (by rw [q1];exact g) (by rw [q1];exact hz);rw [q1] at hr;rw [Zx,e,g,Ab,Zd,hr]
  | false=>obtain ⟨N,hN⟩:=u7y (x:=x) ht hl hT h4 hm h1 h2 k (by omega) (by rw [q1];exact g);rw [q1] at hN;exact ⟨N+1,by rw [Zx,e,g,Aa,hN]⟩
theorem u7z {l:zt} {x:Int} {t:Nat} (ht:EO l t=true) (hl:l.length<=1000) {R:Yr GV}: ∀(m:Nat) (i:Int) (out:zp),i<(m:Int)->i<=(t:Int)->i<(l.length:Int)->out.length+m<=2000->(0<=i\/out≠ [])->(∀k,k<out.length->0<=rd out k/\rd out k<(l.length:Int))->
  (∀n,(out++Cd l m i).length =n+1-> ∃j:Nat,rd (out++Cd l m i) n=(j:Int)/\ ∃N,Yx (Fp l x) N (.to (.h1 (out++Cd l m i) ((n:Int) - 1) (rd l j).t (rd l j).x (rd l j).y (rd l j).z))=R)-> ∃N,Yx (Fp l x) N (.to (.h0 out i))=R
 | m,i,out,hm,hit,hil,ho,hne,hin,hR=>by
  by_cases h:0<=i
  .match m with
   | 0=>omega
   | m+1=>
    obtain ⟨j,rfl⟩: ∃j:Nat,i=(j:Int):=⟨i.toNat,by omega⟩
    have hb:=Qw ht (show j<=t by omega);have e:Fp l x (.h0 out (j:Int))=.to (.h0 (out++[(j:Int)]) (rd l j).a):=by unfold Fp;simp only [Zj];rw [ET h,Ab,Zi (NB (by omega)),Ai,Zi (Zr (by omega))]
    have hu:Cd l (m+1) (j:Int)=(j:Int)::Cd l m (rd l j).a :=(by rw [Cd,Af h,Ab,Zj]);have ha:out++(j:Int)::Cd l m (rd l j).a =(out++[(j:Int)])++Cd l m (rd l j).a :=by rw [AH];rfl
    rw [hu,ha] at hR;obtain ⟨M,hM⟩:=u7z ht hl m (rd l j).a (out++[(j:Int)]) (by omega) (by omega) (by omega) (by rw [AK,Bp];omega) (.inr (by simp)) (fun k hk=>by
     rw [AK,Bp] at hk;by_cases g:k<out.length
     .have:=hin k g;rw [Xm g] at this;rw [Xm (by rw [AK,Bp];omega),Bu g];exact this
     .rw [Xm (by rw [AK,Bp];omega),Bm (by omega)];simp;omega) hR
    exact ⟨M+1,by rw [Zx,e,hM]⟩
  .rw [x1q l m h,AA] at hR;have fD:out≠ []:=by
    rcases hne with h' | h'
    .exact absurd h' h
    .exact h'
   obtain ⟨n,hn⟩: ∃n,out.length=n+1:=⟨out.length - 1,by have:=List.length_pos_iff.2 fD;omega⟩
   obtain ⟨j,hj,N,hN⟩:=hR n hn;have hjb:=hin n (by omega);rw [hj] at hjb;have w1:wrap .i64 ((out.length:Int) - 1)=(n:Int):=by rw [Zk (by omega)];omega
   have w2:wrap .i64 ((out.length:Int) - 2)=(n:Int) - 1:=by rw [Zk (by omega)];omega
   refine ⟨N+1,?_⟩;rw [Zx,<-hN]
   congr 1
   unfold Fp;simp only [w1,w2,Zj,Ah,hj];rw [El h,Aa,Ai,Zi (Zr (by omega)),Zi (Yq (by omega)),Ai,Zi (Zr (by omega))]
theorem j3o (l:zt) (i:Int) (h:Wh l i=true): ∃N,Yx (Fp l i) N (YE l i)=.ret [FD (Xq l i),.int .i64 (HP l i)]:=by
 unfold Wh at h;simp only [Ac,Ao] at h;obtain ⟨h1,h2,h3,h4⟩:=h;unfold YE;refine u7z h3 h2 (i.toNat+1) i [] (by omega) (by omega) (by omega) (by rw [B1];omega) (.inl h1.1) (fun k hk=>absurd hk (AD _)) fun n hn=> ?_;rw [A1] at hn ⊢;obtain ⟨j,q1,q2,q3,q4,q5,q6⟩:=NK h3 (i.toNat+1) i (by omega) (by omega) n (by omega);have ha:=q5 (by omega);have hQ:Qz l (j:Int)=(SL (rd l j),0):=by rw [TQ h3 q2,Af ha];rfl
 have:=u7y (x:=i) h3 h2 (by omega) h4 (m:=i.toNat+1) (by omega) (i:=i) (by omega) (by omega) n (by omega) (by rw [q1,hQ];rfl);rw [q1,hQ] at this;exact ⟨j,q1,this⟩
theorem j7s {S:CB} (hS:Zw prog S):Zw prog (S.with LQ Fb):=Kv hS (by kernel_rfl) fun args v h=>by
 unfold Fb at h;split at h
 .rename_i a0 i;split at h
  .rename_i L g n e0;simp only [Ad,Ae,Ac] at h;obtain ⟨rfl,ho0,hw⟩:=h;obtain ⟨N,hN⟩:=j3o L i hw;exact ⟨_,_,(.cons (Yi e0 ho0) (.cons (.refl _) .nil)),rfl,u1d L i N _ hN,5,rfl⟩
  .cases h
 .cases h
abbrev Ze (l:zt) (i:Int):R4:=Xq l i
abbrev Km (l:zt) (i:Int):Int:=HP l i
def WC :CB:=(RE.with Oh Fb).with LQ Fb
theorem Wd :Zw prog WC:=j7s (j8o Gx)
inductive IU where
def Om (l0:zt) (x1:Int):IU->CI
 :=nofun
def w1l (l0:zt) (x1:Int):IU->Yr IU
 :=nofun
def TP (l0:zt) (x1:Int):Yr IU:=(bif (Yh (CA l0)) then (bif ((Kx (CA l0)) != 0) then (.ret [(.str []),(.int .i64 (Kx (CA l0)))]) else (bif (decide (x1<0)) then (.ret [(.str []),(.int .i64 2)]) else (bif (decide (x1>=(l0.length:Int))) then (.ret [(.str []),(.int .i64 2)]) else (bif (Vu (CA l0) x1) then (.ret [(.str (Cb (CA l0) x1)),(.int .i64 0)]) else .stuck)))) else .stuck)
theorem v0g (l0:zt) (x1:Int): ∀s,Xx prog (Zy prog 6) (Om l0 x1) (Om l0 x1 s) (w1l l0 x1 s)
 :=nofun
theorem w1m (l0:zt) (x1:Int):Xx prog (Zy prog 6) (Om l0 x1) (Zp prog 6 [(dt l0),(.int .i64 x1)] true []) (TP l0 x1):=(lo fun bG=>let a:=pp (pp (xr l0) (xw bG)) nn;(lb (fun k0=>(lr 16 6 (pn 77) 1 6 [(4,(.str [])),(5,(ii (Kx (CA l0))))] (sl Wd 48 [] (a7 [4,5]) a6 (bl 2 3) (tt k0 (tt k0 a))))) (fun k0=>(lb (fun k1=>(lr 16 6 (pn 77) 1 6 [(4,(.str [])),(5,(ii 2))] (sl Wd 61 [] (a7 [4,5]) a6 (bl 7 126) (tt k1 (tt k0 a))))) (fun k1=>let b:=tt k1 (tt k0 a);(lb (fun k2=>(lr 16 6 (pn 77) 1 6 [(4,(.str [])),(5,(ii 2))] (sl Wd 61 [] (a7 [4,5]) a6 (bl 7 96) (tt k2 b)))) (fun k2=>(lo fun o0=>(lr 16 3 (pn 767) 1 6 [(4,(.str (Cb (CA l0) x1))),(5,(ii 0))] (sl Wd 65 [] (a7 [4,5]) a6 (bl 7 0) (pp (pp (xr l0) (xw o0)) (tt k2 b))))))))))))
theorem u3b (l0:zt) (x1:Int) (n:Nat) (vs:zy) (h:Yx (w1l l0 x1) n (TP l0 x1)=.ret vs):Vi prog (Zy prog 6) (Zp prog 6 [(dt l0),(.int .i64 x1)] true []) vs:=by have:=Zg (v0g l0 x1) n _ (w1m l0 x1);rwa [h] at this
inductive Hp where
def ON (l0:zt) (x1:Int):Hp->CI
 :=nofun
def x9i (l0:zt) (x1:Int):Hp->Yr Hp
 :=nofun
def SX (l0:zt) (x1:Int):Yr Hp:=(bif (Yh (CA l0)) then (bif ((Kx (CA l0)) != 0) then (.ret [(.str []),(.int .i64 (Kx (CA l0)))]) else (bif (decide (x1<0)) then (.ret [(.str []),(.int .i64 2)]) else (bif (decide (x1>=(l0.length:Int))) then (.ret [(.str []),(.int .i64 2)]) else (bif (Vu (CA l0) x1) then (.ret [(.str (Cb (CA l0) x1)),(.int .i64 0)]) else .stuck)))) else .stuck)
theorem w8y (l0:zt) (x1:Int): ∀s,Xx prog (Zy prog 7) (ON l0 x1) (ON l0 x1 s) (x9i l0 x1 s)
 :=nofun
theorem x9j (l0:zt) (x1:Int):Xx prog (Zy prog 7) (ON l0 x1) (Zp prog 7 [(dt l0),(.int .i64 x1)] true []) (SX l0 x1):=(lo fun bG=>let a:=pp (xr l0) (xw bG);(lb (fun k0=>(lr 16 7 (pn 37) 1 6 [(4,(.str [])),(5,(ii (Kx (CA l0))))] (sl Wd 60 [] (a7 [4,5]) a6 (CK 3 []) (pp a (tt k0 (pp a (tt k0 (pp a (tt k0 (pp a nn)))))))))) (fun k0=>let b:=tt k0 (pp a nn);(lb (fun k1=>(lr 16 7 (pn 37) 1 6 [(4,(.str [])),(5,(ii 2))] (sl Wd 84 [] (a7 [4,5]) a6 (bl 13 8062) (tt k1 (tt k0 (pp a (tt k1 b))))))) (fun k1=>(lb (fun k2=>(lr 16 7 (pn 37) 1 6 [(4,(.str [])),(5,(ii 2))] (sl Wd 84 [] (a7 [4,5]) a6 (bl 13 4192) (tt k2 (tt k1 (tt k0 (pp a (tt k2 (tt k1 b))))))))) (fun k2=>(lo fun o0=>(lr 16 3 (pn 767) 1 6 [(4,(.str (Cb (CA l0) x1))),(5,(ii 0))] (sl Wd 55 [] (a7 [4,5]) a6 (bl 7 0) (pp (pp (xr l0) (xw o0)) (tt k2 (tt k1 b)))))))))))))
theorem u1b (l0:zt) (x1:Int) (n:Nat) (vs:zy) (h:Yx (x9i l0 x1) n (SX l0 x1)=.ret vs):Vi prog (Zy prog 7) (Zp prog 7 [(dt l0),(.int .i64 x1)] true []) vs:=by have:=Zg (w8y l0 x1) n _ (x9j l0 x1);rwa [h] at this
inductive Ic where
 | h0 (v21:Int)
def P5 (l0:zt) (x1:zu):Ic->CI
 | .h0 v21=>⟨⟨31,0,true⟩,none,(Zq prog 8 (pn 151) 0),none,(Zy prog 6),⟨Zs [(0,(dt l0)),(1,(.str x1)),(20,(ii (l0.length:Int))),(21,(ii v21))],Xe [] 0,0,[],true⟩,[],.leaf⟩
def MY :List (Option zr):=[some [0,1,20,21]]
def MZ :List (Option zr):=[]
def Ml (l0:zt) (x1:zu):Ic->Yr Ic
 | .h0 v21=>(bif (decide (v21<(l0.length:Int))) then (bif (Vu (CA l0) v21) then (bif ((Cb (CA l0) v21) == x1) then (.ret [(.int .i64 v21),(.int .i64 0)]) else (.to (.h0 (wrap .i64 (v21+1))))) else .stuck) else (.ret [(.int .i64 0),(.int .i64 6)]))
def XN (l0:zt) (x1:zu):Yr Ic:=(bif (Yh (CA l0)) then (bif ((Kx (CA l0)) != 0) then (.ret [(.int .i64 0),(.int .i64 (Kx (CA l0)))]) else (bif (Jj x1) then (bif ((D8 x1) != 0) then (.ret [(.int .i64 0),(.int .i64 (D8 x1))]) else (.to (.h0 0))) else .stuck)) else .stuck)
theorem v1j (l0:zt) (x1:zu): ∀s,Xx prog (Zy prog 8) (P5 l0 x1) (P5 l0 x1 s) (Ml l0 x1 s)
 | .h0 v21=>(lb (fun k0=>(lo fun aL=>let a:=pp (pp (xr l0) (xw aL)) (tt k0 nn);(lb (fun k1=>(lr 31 8 (pn 39319) 1 6 [(4,(ii v21)),(5,(ii 0))] (sl Wd 29 [] (a7 [4,5]) a6 (bl 2 3) (tt k1 a)))) (fun k1=>(sl Wd 30 [] ⟨[],[],MY,MZ⟩ a6 (bl 2 1) (tt k1 a)))))) (fun k0=>(lr 31 3 (pn 767) 1 6 [(4,(ii 0)),(5,(ii 6))] (sl Wd 12 [] (a7 [4,5]) a6 [false] (tt k0 nn)))))
theorem w2x (l0:zt) (x1:zu):Xx prog (Zy prog 8) (P5 l0 x1) (Zp prog 8 [(dt l0),(.str x1)] true []) (XN l0 x1):=(lo fun bG=>let a:=pp (pp (xr l0) (xw bG)) nn;(lb (fun k0=>(lr 31 8 (pn 77) 1 6 [(4,(ii 0)),(5,(ii (Kx (CA l0))))] (sl Wd 24 [] (a7 [4,5]) a6 [true] (tt k0 a)))) (fun k0=>(lo fun aL=>let b:=ww aL (tt k0 a);(lb (fun k1=>(lr 31 8 (pn 155) 1 6 [(4,(ii 0)),(5,(ii (D8 x1)))] (sl Wd 38 [] (a7 [4,5]) a6 (bl 2 2) (tt k1 b)))) (fun k1=>(sl Wd 42 [] ⟨[],[],MY,MZ⟩ a6 (bl 2 0) (tt k1 b))))))))
theorem u4p (l0:zt) (x1:zu) (n:Nat) (vs:zy) (h:Yx (Ml l0 x1) n (XN l0 x1)=.ret vs):Vi prog (Zy prog 8) (Zp prog 8 [(dt l0),(.str x1)] true []) vs:=by have:=Zg (v1j l0 x1) n _ (w2x l0 x1);rwa [h] at this
inductive IF where
 | h0 (v6:Int)
def O8 (l0:zt) (x1:zu):IF->CI
 | .h0 v6=>⟨⟨29,0,true⟩,none,(Zq prog 9 (pn 151) 0),none,(Zy prog 6),⟨Zs [(0,(dt l0)),(1,(.str x1)),(6,(ii v6))],Xe [] 0,0,[],true⟩,[],.leaf⟩
def Lr :List (Option zr):=[some [0,1,6]]
def Ls :List (Option zr):=[]
def Mw (l0:zt) (x1:zu):IF->Yr IF
 | .h0 v6=>(bif (decide (v6<(l0.length:Int))) then (bif (Vu (CA l0) v6) then (bif ((Cb (CA l0) v6) == x1) then (.ret [(.int .i64 v6),(.int .i64 0)]) else (.to (.h0 (wrap .i64 (v6+1))))) else .stuck) else (.ret [(.int .i64 0),(.int .i64 6)]))
def X3 (l0:zt) (x1:zu):Yr IF:=(bif (Yh (CA l0)) then (bif ((Kx (CA l0)) != 0) then (.ret [(.int .i64 0),(.int .i64 (Kx (CA l0)))]) else (bif (Jj x1) then (bif ((D8 x1) != 0) then (.ret [(.int .i64 0),(.int .i64 (D8 x1))]) else (.to (.h0 0))) else .stuck)) else .stuck)
theorem w9t (l0:zt) (x1:zu): ∀s,Xx prog (Zy prog 9) (O8 l0 x1) (O8 l0 x1 s) (Mw l0 x1 s)
 | .h0 v6=>(lb (fun k0=>(lo fun aL=>let a:=pp (pp (xr l0) (xw aL)) (tt k0 nn);(lb (fun k1=>(lr 29 9 (pn 9367) 1 6 [(4,(ii v6)),(5,(ii 0))] (sl Wd 27 [] (a7 [4,5]) a6 (bl 2 3) (tt k1 a)))) (fun k1=>(sl Wd 29 [] ⟨[],[],Lr,Ls⟩ a6 (bl 2 1) (tt k1 a)))))) (fun k0=>(lr 29 3 (pn 767) 1 6 [(4,(ii 0)),(5,(ii 6))] (sl Wd 15 [] (a7 [4,5]) a6 [false] (tt k0 nn)))))
theorem w0n (l0:zt) (x1:zu):Xx prog (Zy prog 9) (O8 l0 x1) (Zp prog 9 [(dt l0),(.str x1)] true []) (X3 l0 x1):=(lo fun bG=>let a:=pp (xr l0) (xw bG);(lb (fun k0=>(lr 29 9 (pn 37) 1 6 [(4,(ii 0)),(5,(ii (Kx (CA l0))))] (sl Wd 20 [] (a7 [4,5]) a6 [true] (pp a (tt k0 (pp a nn)))))) (fun k0=>(lo fun aL=>let b:=ww aL (tt k0 (pp a nn));(lb (fun k1=>(lr 29 9 (pn 75) 1 6 [(4,(ii 0)),(5,(ii (D8 x1)))] (sl Wd 29 [] (a7 [4,5]) a6 (bl 2 2) (ww aL (tt k1 b))))) (fun k1=>(sl Wd 30 [] ⟨[],[],Lr,Ls⟩ a6 (bl 2 0) (tt k1 b))))))))
theorem u2g (l0:zt) (x1:zu) (n:Nat) (vs:zy) (h:Yx (Mw l0 x1) n (X3 l0 x1)=.ret vs):Vi prog (Zy prog 9) (Zp prog 9 [(dt l0),(.str x1)] true []) vs:=by have:=Zg (w9t l0 x1) n _ (w0n l0 x1);rwa [h] at this
inductive IP where
def Of (l0:zt) (x1:Int):IP->CI
 :=nofun
def w1e (l0:zt) (x1:Int):IP->Yr IP
 :=nofun
def TS (l0:zt) (x1:Int):Yr IP:=(bif (Yh (CA l0)) then (bif ((Kx (CA l0)) != 0) then (.ret [(.agg [(.int .u8 0),(.int .i64 0),(.int .i64 0),(.int .i64 0)]),(.int .i64 (Kx (CA l0)))]) else (bif (decide (x1<0)) then (.ret [(.agg [(.int .u8 0),(.int .i64 0),(.int .i64 0),(.int .i64 0)]),(.int .i64 2)]) else (bif (decide (x1>=(l0.length:Int))) then (.ret [(.agg [(.int .u8 0),(.int .i64 0),(.int .i64 0),(.int .i64 0)]),(.int .i64 2)]) else (bif (Wh (CA l0) x1) then (.ret [(.agg [(.int .u8 (Ze (CA l0) x1).a),(.int .i64 (Ze (CA l0) x1).b),(.int .i64 (Ze (CA l0) x1).c),(.int .i64 (Ze (CA l0) x1).d)]),(.int .i64 (Km (CA l0) x1))]) else .stuck)))) else .stuck)
theorem v0c (l0:zt) (x1:Int): ∀s,Xx prog (Zy prog 10) (Of l0 x1) (Of l0 x1 s) (w1e l0 x1 s)
 :=nofun
theorem w1f (l0:zt) (x1:Int):Xx prog (Zy prog 10) (Of l0 x1) (Zp prog 10 [(dt l0),(.int .i64 x1)] true []) (TS l0 x1):=(lo fun bG=>let e:=pp (pp (xr l0) (xw bG)) nn;let f:=Zq prog 10 (pn 77) 1;let h:=Zy prog 10;(lb (fun k0=>(Yu ⟨⟨19,0,true⟩,none,f,none,h,⟨Zs [(4,(.ptr 0 0)),(5,(ii (Kx (CA l0))))],Xe [⟨[(.int .u8 0),(ii 0),(ii 0),(ii 0)],36,none⟩] 0,1,[],true⟩,[],.leaf⟩ (sl Wd 49 [] ⟨[0],[],[some [4,5]],[]⟩ a6 (bl 2 3) (tt k0 (tt k0 e))) rfl (by kernel_rfl))) (fun k0=>(lb (fun k1=>(Yu ⟨⟨19,0,true⟩,none,f,none,h,⟨Zs [(4,(.ptr 0 0)),(5,(ii 2))],Xe [⟨[(.int .u8 0),(ii 0),(ii 0),(ii 0)],36,none⟩] 0,1,[],true⟩,[],.leaf⟩ (sl Wd 62 [] ⟨[0],[],[some [4,5]],[]⟩ a6 (bl 7 126) (tt k1 (tt k0 e))) rfl (by kernel_rfl))) (fun k1=>let i:=tt k1 (tt k0 e);(lb (fun k2=>(Yu ⟨⟨19,0,true⟩,none,f,none,h,⟨Zs [(4,(.ptr 0 0)),(5,(ii 2))],Xe [⟨[(.int .u8 0),(ii 0),(ii 0),(ii 0)],36,none⟩] 0,1,[],true⟩,[],.leaf⟩ (sl Wd 62 [] ⟨[0],[],[some [4,5]],[]⟩ a6 (bl 7 96) (tt k2 i)) rfl (by kernel_rfl))) (fun k2=>(lo fun o0=>let g:=Ze (CA l0) x1;(Yu ⟨⟨19,0,true⟩,none,(Zq prog 3 (pn 767) 1),none,h,⟨Zs [(4,(.ptr 0 0)),(5,(ii (Km (CA l0) x1)))],Xe [⟨[(.int .u8 g.a),(ii g.b),(ii g.c),(ii g.d)],36,none⟩] 0,1,[],true⟩,[],.leaf⟩ (sl Wd 67 [] ⟨[0],[],[some [4,5]],[]⟩ a6 (bl 7 0) (pp (pp (xr l0) (xw o0)) (tt k2 i))) rfl (by kernel_rfl))))))))))
theorem u2x (l0:zt) (x1:Int) (n:Nat) (vs:zy) (h:Yx (w1e l0 x1) n (TS l0 x1)=.ret vs):Vi prog (Zy prog 10) (Zp prog 10 [(dt l0),(.int .i64 x1)] true []) vs:=by have:=Zg (v0c l0 x1) n _ (w1f l0 x1);rwa [h] at this
inductive Hw where
def OZ (l0:zt) (x1:Int):Hw->CI
 :=nofun
def x9x (l0:zt) (x1:Int):Hw->Yr Hw
 :=nofun
def ST (l0:zt) (x1:Int):Yr Hw:=(bif (Yh (CA l0)) then (bif ((Kx (CA l0)) != 0) then (.ret [(.agg [(.int .u8 0),(.int .i64 0),(.int .i64 0),(.int .i64 0)]),(.int .i64 (Kx (CA l0)))]) else (bif (decide (x1<0)) then (.ret [(.agg [(.int .u8 0),(.int .i64 0),(.int .i64 0),(.int .i64 0)]),(.int .i64 2)]) else (bif (decide (x1>=(l0.length:Int))) then (.ret [(.agg [(.int .u8 0),(.int .i64 0),(.int .i64 0),(.int .i64 0)]),(.int .i64 2)]) else (bif (Wh (CA l0) x1) then (.ret [(.agg [(.int .u8 (Ze (CA l0) x1).a),(.int .i64 (Ze (CA l0) x1).b),(.int .i64 (Ze (CA l0) x1).c),(.int .i64 (Ze (CA l0) x1).d)]),(.int .i64 (Km (CA l0) x1))]) else .stuck)))) else .stuck)
theorem w9j (l0:zt) (x1:Int): ∀s,Xx prog (Zy prog 11) (OZ l0 x1) (OZ l0 x1 s) (x9x l0 x1 s)
 :=nofun
theorem x9y (l0:zt) (x1:Int):Xx prog (Zy prog 11) (OZ l0 x1) (Zp prog 11 [(dt l0),(.int .i64 x1)] true []) (ST l0 x1):=(lo fun bG=>let e:=pp (xr l0) (xw bG);let f:=Zq prog 11 (pn 37) 1;let h:=Zy prog 10;(lb (fun k0=>(Yu ⟨⟨19,0,true⟩,none,f,none,h,⟨Zs [(4,(.ptr 0 0)),(5,(ii (Kx (CA l0))))],Xe [⟨[(.int .u8 0),(ii 0),(ii 0),(ii 0)],36,none⟩] 0,1,[],true⟩,[],.leaf⟩ (sl Wd 61 [] ⟨[0],[],[some [4,5]],[]⟩ a6 (CK 3 []) (pp e (tt k0 (pp e (tt k0 (pp e (tt k0 (pp e nn)))))))) rfl (by kernel_rfl))) (fun k0=>let i:=tt k0 (pp e nn);(lb (fun k1=>(Yu ⟨⟨19,0,true⟩,none,f,none,h,⟨Zs [(4,(.ptr 0 0)),(5,(ii 2))],Xe [⟨[(.int .u8 0),(ii 0),(ii 0),(ii 0)],36,none⟩] 0,1,[],true⟩,[],.leaf⟩ (sl Wd 85 [] ⟨[0],[],[some [4,5]],[]⟩ a6 (bl 13 8062) (tt k1 (tt k0 (pp e (tt k1 i))))) rfl (by kernel_rfl))) (fun k1=>(lb (fun k2=>(Yu ⟨⟨19,0,true⟩,none,f,none,h,⟨Zs [(4,(.ptr 0 0)),(5,(ii 2))],Xe [⟨[(.int .u8 0),(ii 0),(ii 0),(ii 0)],36,none⟩] 0,1,[],true⟩,[],.leaf⟩ (sl Wd 85 [] ⟨[0],[],[some [4,5]],[]⟩ a6 (bl 13 4192) (tt k2 (tt k1 (tt k0 (pp e (tt k2 (tt k1 i))))))) rfl (by kernel_rfl))) (fun k2=>(lo fun o0=>let g:=Ze (CA l0) x1;(Yu ⟨⟨19,0,true⟩,none,(Zq prog 3 (pn 767) 1),none,h,⟨Zs [(4,(.ptr 0 0)),(5,(ii (Km (CA l0) x1)))],Xe [⟨[(.int .u8 g.a),(ii g.b),(ii g.c),(ii g.d)],36,none⟩] 0,1,[],true⟩,[],.leaf⟩ (sl Wd 57 [] ⟨[0],[],[some [4,5]],[]⟩ a6 (bl 7 0) (pp (pp (xr l0) (xw o0)) (tt k2 (tt k1 i)))) rfl (by kernel_rfl))))))))))
theorem u1n (l0:zt) (x1:Int) (n:Nat) (vs:zy) (h:Yx (x9x l0 x1) n (ST l0 x1)=.ret vs):Vi prog (Zy prog 11) (Zp prog 11 [(dt l0),(.int .i64 x1)] true []) vs:=by have:=Zg (w9j l0 x1) n _ (x9y l0 x1);rwa [h] at this
theorem Qh {l:zt} (h:(Kx l != 0)=false):l.length<=200/\HV l=0/\Gh l l.length:=by
 have h:Kx l=0:=by simpa using h
 unfold Kx at h;by_cases g:200<l.length
 .rw [Af g] at h;cases h
 .rw [An g,Aa] at h;cases g2:HV l != 0 with
  | true=>rw [g2,Ab] at h;rw [h] at g2;cases g2
  | false=>
   rw [g2,Aa] at h;refine ⟨by omega,by simpa using g2,fun j hj=> ?_⟩;cases g3:(List.range l.length).any (EE l) with
   | true=>rw [g3] at h;cases h
   | false=>simpa using List.any_eq_false.1 g3 j (AP.2 hj)
theorem TC {l:zt} (h:(Kx l != 0)=false) {i:Nat} (hi:i<l.length):SK l i:=by obtain ⟨h1,h2,h3⟩:=Qh h;have:=h3 i hi;unfold EE at this;rw [A4] at this;exact Y3 (fun j hj=>h3 j (by omega)) this.1
theorem ZJ {l:zt} (ho:Yh l=true) (h:(Kx l != 0)=false) {i:Int} (h0: ¬i<0) (h1: ¬i>=(l.length:Int)):Vu l i=true:=by
 obtain ⟨j,rfl⟩: ∃j:Nat,i=(j:Int):=⟨i.toNat,by omega⟩
 have:=(Qh h).1;exact x2t ho (by omega) (by omega) (TC h (by omega))
def Ee (l:zt) (i:Int):Int:=bif Kx l != 0 then Kx l else bif decide (i<0) then 2 else bif decide (i>=(l.length:Int)) then 2 else 0
def Tf (l:zt) (i:Int):Int:=Ee l i
def Te (l:zt) (i:Int):zu:=bif Ee l i != 0 then [] else Cb l i
def y6u (l:zt) (i:Int):Bool:=Yh l
theorem j5i (l:zt) (i:Int) (h:y6u l i=true): ∃N,Yx (w1l l i) N (TP l i)=.ret [.str (Te l i),.int .i64 (Tf l i)]:=⟨0,by
 show TP l i=_;unfold TP Te Tf Ee;simp only [Za];rw [Zi (show Yh l=true from h)];cases g:Kx l != 0 with
 | true=>(simp only [Ab,g];try rfl)
 | false=>
  simp only [Aa];by_cases g1:i<0
  .rw [Af g1];rfl
  .rw [An g1];by_cases g2:i>=(l.length:Int)
   .rw [Af g2];rfl
   .rw [An g2,Aa,Aa,Aa,Aa,Zi (ZJ h g g1 g2)];rfl⟩
theorem j3m (l:zt) (i:Int) (h:y6u l i=true): ∃N,Yx (x9i l i) N (SX l i)=.ret [.str (Te l i),.int .i64 (Tf l i)]:=⟨0,by
 show SX l i=_;unfold SX Te Tf Ee;simp only [Za];rw [Zi (show Yh l=true from h)];cases g:Kx l != 0 with
 | true=>(simp only [Ab,g];try rfl)
 | false=>
  simp only [Aa];by_cases g1:i<0
  .rw [Af g1];rfl
  .rw [An g1];by_cases g2:i>=(l.length:Int)
   .rw [Af g2];rfl
   .rw [An g2,Aa,Aa,Aa,Aa,Zi (ZJ h g g1 g2)];rfl⟩
def Fc :zy->Option (B9×Bool)
 | [a0,.int .i64 i]=>match CY CD a0 with
  | some (L,g,n)=>some (.tup [.str (Te L i),.int .i64 (Tf L i)],CX CD n g&&y6u L i)
  | _=>none
 | _=>none
theorem j8p {S:CB} (hS:Zw prog S):Zw prog (S.with VB Fc):=Kv hS (by kernel_rfl) fun args v h=>by
 unfold Fc at h;split at h
 .rename_i a0 i;split at h
  .rename_i L g n e0;simp only [Ad,Ae,Ac] at h;obtain ⟨rfl,ho0,hw⟩:=h;obtain ⟨N,hN⟩:=j5i L i hw;exact ⟨_,_,(.cons (Yi e0 ho0) (.cons (.refl _) .nil)),rfl,u3b L i N _ hN,5,rfl⟩
  .cases h
 .cases h
theorem j7q {S:CB} (hS:Zw prog S):Zw prog (S.with LM Fc):=Kv hS (by kernel_rfl) fun args v h=>by
 unfold Fc at h;split at h
 .rename_i a0 i;split at h
  .rename_i L g n e0;simp only [Ad,Ae,Ac] at h;obtain ⟨rfl,ho0,hw⟩:=h;obtain ⟨N,hN⟩:=j3m L i hw;exact ⟨_,_,(.cons (Yi e0 ho0) (.cons (.refl _) .nil)),rfl,u1b L i N _ hN,5,rfl⟩
  .cases h
 .cases h
def Jh (l:zt) (i:Int):Int:=bif Ee l i != 0 then Ee l i else Km l i
def Yd (l:zt) (i:Int):R4:=bif Ee l i != 0 then z4 else Ze l i
def Ue (l:zt) (i:Int):Bool:=Yh l&&l.all fun x=>decide (0<=x.t)
theorem ZI {l:zt} (ho:(l.all fun x=>decide (0<=x.t))=true) (h:(Kx l != 0)=false) {i:Int} (h0: ¬i<0) (h1: ¬i>=(l.length:Int)):Wh l i=true:=by
 obtain ⟨j,rfl⟩: ∃j:Nat,i=(j:Int):=⟨i.toNat,by omega⟩
 have hl:=(Qh h).1;have hk:=(TC h (show j<l.length by omega)).1;unfold Wh;rw [Zj,hk,ho,Af (show (0:Int)<=(j:Int)/\(j:Int)<(l.length:Int) by omega),Af (show l.length<=1000 by omega)];rfl
theorem j5d (l:zt) (i:Int) (h:Ue l i=true): ∃N,Yx (w1e l i) N (TS l i)=.ret [FD (Yd l i),.int .i64 (Jh l i)]:=⟨0,by
 unfold Ue at h;rw [Ac] at h;show TS l i=_;unfold TS Yd Jh Ee;simp only [Za];rw [Zi (show Yh l=true from h.1)];cases g:Kx l != 0 with
 | true=>(simp only [Ab,g];try rfl)
 | false=>
  simp only [Aa];by_cases g1:i<0
  .rw [Af g1];rfl
  .rw [An g1];by_cases g2:i>=(l.length:Int)
   .rw [Af g2];rfl
   .rw [An g2,Aa,Aa,Aa,Aa,Zi (ZI h.2 g g1 g2)];rfl⟩
theorem j3v (l:zt) (i:Int) (h:Ue l i=true): ∃N,Yx (x9x l i) N (ST l i)=.ret [FD (Yd l i),.int .i64 (Jh l i)]:=⟨0,by
 unfold Ue at h;rw [Ac] at h;show ST l i=_;unfold ST Yd Jh Ee;simp only [Za];rw [Zi (show Yh l=true from h.1)];cases g:Kx l != 0 with
 | true=>(simp only [Ab,g];try rfl)
 | false=>
  simp only [Aa];by_cases g1:i<0
  .rw [Af g1];rfl
  .rw [An g1];by_cases g2:i>=(l.length:Int)
   .rw [Af g2];rfl
   .rw [An g2,Aa,Aa,Aa,Aa,Zi (ZI h.2 g g1 g2)];rfl⟩
def F8 :zy->Option (B9×Bool)
 | [a0,.int .i64 i]=>match CY CD a0 with
  | some (L,g,n)=>some (.tup [FD (Yd L i),.int .i64 (Jh L i)],CX CD n g&&Ue L i)
  | _=>none
 | _=>none
theorem j8l {S:CB} (hS:Zw prog S):Zw prog (S.with Ul F8):=Kv hS (by kernel_rfl) fun args v h=>by
 unfold F8 at h;split at h
 .rename_i a0 i;split at h
  .rename_i L g n e0;simp only [Ad,Ae,Ac] at h;obtain ⟨rfl,ho0,hw⟩:=h;obtain ⟨N,hN⟩:=j5d L i hw;exact ⟨_,_,(.cons (Yi e0 ho0) (.cons (.refl _) .nil)),rfl,u2x L i N _ hN,5,rfl⟩
  .cases h
 .cases h
theorem j7z {S:CB} (hS:Zw prog S):Zw prog (S.with LP F8):=Kv hS (by kernel_rfl) fun args v h=>by
 unfold F8 at h;split at h
 .rename_i a0 i;split at h
  .rename_i L g n e0;simp only [Ad,Ae,Ac] at h;obtain ⟨rfl,ho0,hw⟩:=h;obtain ⟨N,hN⟩:=j3v L i hw;exact ⟨_,_,(.cons (Yi e0 ho0) (.cons (.refl _) .nil)),rfl,u1n L i N _ hN,5,rfl⟩
  .cases h
 .cases h
def MR (l:zt) (p:zu):Nat->Nat->Int×Int
 | 0,_=>(0,6)
 | k+1,i=>bif Cb l (i:Int) == p then ((i:Int),0) else MR l p k (i+1)
def Id (l:zt) (p:zu):Int×Int:=bif Kx l != 0 then (0,Kx l) else bif D8 p != 0 then (0,D8 p) else MR l p l.length 0
def T0 (l:zt) (p:zu):Int:=(Id l p).1
def Ta (l:zt) (p:zu):Int:=(Id l p).2
def S6 (l:zt) (p:zu):Bool:=Yh l&&decide (p.length<=1000000)
theorem j0m {l:zt} {p:zu} (ho:Yh l=true) (h:(Kx l != 0)=false): ∀(k i:Nat),i+k=l.length-> ∃N,Yx (Ml l p) N (.to (.h0 (i:Int)))=.ret [.int .i64 (MR l p k i).1,.int .i64 (MR l p k i).2]
 | 0,i,hk=>⟨1,by
  rw [Zx];unfold Ml;simp only [];rw [Ym (by omega)];rfl⟩
 | k+1,i,hk=>by
  have hl:=(Qh h).1;have w2:wrap .i64 ((i:Int)+1)=((i+1:Nat):Int):=Zk (by omega);have e:Ml l p (.h0 (i:Int))=bif Cb l (i:Int) == p then .ret [.int .i64 (i:Int),.int .i64 0] else .to (.h0 ((i+1:Nat):Int)):=by unfold Ml;simp only [Za,w2];rw [Zt (by omega),Ab,Zi (ZJ ho h (by omega) (by omega))]
  rw [MR];cases g:Cb l (i:Int) == p with
  | true=>exact ⟨1,by rw [Zx,e,g];rfl⟩
  | false=>obtain ⟨N,hN⟩:=j0m (p:=p) ho h k (i+1) (by omega);exact ⟨N+1,by rw [Zx,e,g,Aa,Aa,hN]⟩
theorem j6p (l:zt) (p:zu) (h:S6 l p=true): ∃N,Yx (Ml l p) N (XN l p)=.ret [.int .i64 (T0 l p),.int .i64 (Ta l p)]:=by
 unfold S6 at h;rw [Ac] at h;unfold XN T0 Ta Id;simp only [Za];rw [Zi h.1,Zi (show Jj p=true from h.2)];cases g:Kx l != 0 with
 | true=>exact ⟨0,rfl⟩
 | false=>
  cases g2:D8 p != 0 with
  | true=>exact ⟨0,rfl⟩
  | false=>exact j0m h.1 g l.length 0 (Ah _)
theorem u8t {l:zt} {p:zu} (ho:Yh l=true) (h:(Kx l != 0)=false): ∀(k i:Nat),i+k=l.length-> ∃N,Yx (Mw l p) N (.to (.h0 (i:Int)))=.ret [.int .i64 (MR l p k i).1,.int .i64 (MR l p k i).2]
 | 0,i,hk=>⟨1,by
  rw [Zx];unfold Mw;simp only [];rw [Ym (by omega)];rfl⟩
 | k+1,i,hk=>by
  have hl:=(Qh h).1;have w2:wrap .i64 ((i:Int)+1)=((i+1:Nat):Int):=Zk (by omega);have e:Mw l p (.h0 (i:Int))=bif Cb l (i:Int) == p then .ret [.int .i64 (i:Int),.int .i64 0] else .to (.h0 ((i+1:Nat):Int)):=by unfold Mw;simp only [Za,w2];rw [Zt (by omega),Ab,Zi (ZJ ho h (by omega) (by omega))]
  rw [MR];cases g:Cb l (i:Int) == p with
  | true=>exact ⟨1,by rw [Zx,e,g];rfl⟩
  | false=>obtain ⟨N,hN⟩:=u8t (p:=p) ho h k (i+1) (by omega);exact ⟨N+1,by rw [Zx,e,g,Aa,Aa,hN]⟩
theorem j4r (l:zt) (p:zu) (h:S6 l p=true): ∃N,Yx (Mw l p) N (X3 l p)=.ret [.int .i64 (T0 l p),.int .i64 (Ta l p)]:=by
 unfold S6 at h;rw [Ac] at h;unfold X3 T0 Ta Id;simp only [Za];rw [Zi h.1,Zi (show Jj p=true from h.2)];cases g:Kx l != 0 with
 | true=>exact ⟨0,rfl⟩
 | false=>
  cases g2:D8 p != 0 with
  | true=>exact ⟨0,rfl⟩
  | false=>exact u8t h.1 g l.length 0 (Ah _)
def Ff :zy->Option (B9×Bool)
 | [a0,.str i]=>match CY CD a0 with
  | some (L,g,n)=>some (.tup [.int .i64 (T0 L i),.int .i64 (Ta L i)],CX CD n g&&S6 L i)
  | _=>none
 | _=>none
theorem j9d {S:CB} (hS:Zw prog S):Zw prog (S.with VZ Ff):=Kv hS (by kernel_rfl) fun args v h=>by
 unfold Ff at h;split at h
 .rename_i a0 i;split at h
  .rename_i L g n e0;simp only [Ad,Ae,Ac] at h;obtain ⟨rfl,ho0,hw⟩:=h;obtain ⟨N,hN⟩:=j6p L i hw;exact ⟨_,_,(.cons (Yi e0 ho0) (.cons (.refl _) .nil)),rfl,u4p L i N _ hN,5,rfl⟩
  .cases h
 .cases h
theorem j8f {S:CB} (hS:Zw prog S):Zw prog (S.with U3 Ff):=Kv hS (by kernel_rfl) fun args v h=>by
 unfold Ff at h;split at h
 .rename_i a0 i;split at h
  .rename_i L g n e0;simp only [Ad,Ae,Ac] at h;obtain ⟨rfl,ho0,hw⟩:=h;obtain ⟨N,hN⟩:=j4r L i hw;exact ⟨_,_,(.cons (Yi e0 ho0) (.cons (.refl _) .nil)),rfl,u2g L i N _ hN,5,rfl⟩
  .cases h
 .cases h
def WB :CB:=(((((WC.with VB Fc).with LM Fc).with Ul F8).with LP F8).with VZ Ff).with U3 Ff
theorem t0e :Zw prog WB:=j8f (j9d (j7z (j8l (j7q (j8p Wd)))))
abbrev J7 :Nat:=36
abbrev UN :Nat:=56
open Go.Shelf Go.RowKit
namespace CM
variable {α β:Type} (D:CM α β)
structure Fair :Prop where
 lo_put: ∀x x' b,D.lo (D.put x x' b)=x
 hi_put: ∀x x' b,D.hi (D.put x x' b)=x'
 pr_put: ∀x x' b,D.pr (D.put x x' b)=b
 ext_put: ∀x x' x'' b,D.ext x'' (D.put x x' b)=D.put x x'' b
def Ap (R:β->β->Prop) (a b:α):Prop:=D.hi a<=D.lo b\/D.hi b<=D.lo a\/R (D.pr a) (D.pr b)
theorem v5d {D:CM α β} (hD:D.Fair) (R:β->β->Prop) (sec:Int->List β) (cs:zp) (hc:cs.Pairwise (· < ·)) (eC: ∀x,(sec x).Pairwise R):
  ∀(k i:Nat) (pre:List α) (last:List β) (x0:Int),(i+k<cs.length\/k=0)->pre.Pairwise (D.Ap R)->(∀a∈pre,D.hi a<=x0)->(last≠ []->x0<=rd cs i)->(last=[]->x0<=rd cs i)->last.Pairwise R->
  (D.ref sec cs k i (pre++last.map (D.put x0 (rd cs i))) last pre.length).Pairwise (D.Ap R):=by
 have fin: ∀(pre:List α) (last:List β) (x0 x':Int),pre.Pairwise (D.Ap R)->(∀a∈pre,D.hi a<=x0)->last.Pairwise R->(pre++last.map (D.put x0 x')).Pairwise (D.Ap R):=fun pre last x0 x' h1 h2 h3=>by
  refine BS.2 ⟨h1,?_,fun a ha b hb=> ?_⟩
  .refine List.pairwise_map.2 (h3.imp fun {a b} h=>.inr (.inr ?_));rw [hD.pr_put,hD.pr_put];exact h
  .obtain ⟨c,_,rfl⟩:=Bh.1 hb;exact .inl (by rw [hD.lo_put];exact h2 a ha)
 intro k
 induction k with
 | zero=>intro i pre last x0 _ h1 h2 _ _ h3;exact fin pre last x0 _ h1 h2 h3
 | succ k ih=>
  intro i pre last x0 hk h1 h2 h4 h5 h3;have hlt:rd cs i<rd cs (i+1):=HU hc (Bf _) (by omega);unfold ref;cases hq:(decide (0<i)&&D.same (sec (rd cs i)) last) with
  | true=>
   rw [Ab];have e:D.grow (pre++last.map (D.put x0 (rd cs i))) pre.length (rd cs (i+1))=pre++last.map (D.put x0 (rd cs (i+1))):=by
    unfold grow;rw [List.take_left,List.drop_left,B4]
    congr 1
    exact BX fun b _=>hD.ext_put _ _ _ _
   rw [e];exact ih (i+1) pre last x0 (by omega) h1 h2 (fun h=>by grind) (fun h=>by grind) h3
  | false=>
   rw [Aa];refine ih (i+1) (pre++last.map (D.put x0 (rd cs i))) (sec (rd cs i)) (rd cs i) (by omega) (fin pre last x0 _ h1 h2 h3) (fun a ha=> ?_) (fun _=>by omega) (fun _=>by omega) (eC _);rcases AF.1 ha with ha | ha
   .grind
   .obtain ⟨c,_,rfl⟩:=Bh.1 ha;rw [hD.hi_put];grind
theorem out_apart {D:CM α β} (hD:D.Fair) (R:β->β->Prop) (hs: ∀a b,D.same a b=true↔a=b) (l:List α) (eC: ∀x,(D.sec l x).Pairwise R):(D.out l).Pairwise (D.Ap R):=by
 rw [D.out_eq hs l];have hc:(D.cuts l).Pairwise (· < ·):=by show (Ki (D.ends l)).Pairwise (· < ·);rw [Fn];exact (Vk _).1
 have:=v5d hD R (D.sec l) (D.cuts l) hc eC ((D.cuts l).length - 1) 0 [] [] (rd (D.cuts l) 0) (by omega) .nil (by simp) (fun _=>A6 _) (fun _=>A6 _) .nil;exact this
end CM
theorem R8 :D4.Fair:=⟨fun _ _ _=>rfl,fun _ _ _=>rfl,fun _ _ _=>rfl,fun _ _ _ _=>rfl⟩
theorem Ra :D6.Fair:=⟨fun _ _ _=>rfl,fun _ _ _=>rfl,fun _ _ _=>rfl,fun _ _ _ _=>rfl⟩
def Ap2 (s t:R2):Prop:=s.b<=t.a\/t.b<=s.a
def Ap4 (s t:R4):Prop:=s.c<=t.a\/t.c<=s.a\/s.d<=t.b\/t.d<=s.b
def Ap6 (s t:R6):Prop:=s.d<=t.a\/t.d<=s.a\/s.e<=t.b\/t.e<=s.b\/s.f<=t.c\/t.f<=s.c
theorem v3n (l:zq):(Wp l).Pairwise Ap2:=by
 unfold Wp;by_cases h:400<l.length
 .simp_all
 .rw [An h,Aa];cases hv:l.all C5 with
  | false=>exact .nil
  | true=>rw [Ab];exact (Ri l hv).1.sep.imp fun {s t} h=>.inl (by omega)
theorem v4x (l:zw):(Zb l).Pairwise Ap4:=by
 have key:(D4.out l).Pairwise Ap4:=(CM.out_apart R8 Ap2 (fun a b=>BO) l fun x=>v3n _).imp fun {s t} h=>by
  rcases h with h | h | h | h
  .exact .inl h
  .exact .inr (.inl h)
  .exact .inr (.inr (.inl h))
  .exact .inr (.inr (.inr h))
 unfold Zb;by_cases h:400<l.length
 .simp_all
 .rw [An h,Aa];cases l.all Kc with
  | false=>exact .nil
  | true=>
   rw [Ab];cases decide (((D4.out l).length :Int)>400) with
   | true=>exact .nil
   | false=>exact key
theorem S3 {l:zx} (h:Yt l=0):l.length<=400/\(∀r∈l,Kt r=true)/\l=D6.out l/\l.Pairwise Ap6:=by
 unfold Yt at h;by_cases h1:400<l.length
 .grind
 .rw [An h1,Aa] at h;cases hv:l.all Kt with
  | false=>grind
  | true=>
   rw [hv,Ab] at h;cases ho:Ce l ((D6.cuts l).length - 1) 0 with
   | false=>grind
   | true=>
    rw [ho,Ab] at h;cases h2:decide (((D6.out l).length :Int)>400) with
    | true=>grind
    | false=>
     rw [h2,Aa] at h;cases h3:Jv (D6.out l) l with
     | false=>grind
     | true=>
      have e:D6.out l=l:=Ax h3;refine ⟨by omega,fun r hr=>Au.1 hv r hr,e.symm,?_⟩;have:=(CM.out_apart Ra Ap4 (fun a b=>BO) l fun x=>v4x _).imp (S:=Ap6) fun {s t} h=>by
       rcases h with h | h | h | h | h | h
       .exact .inr (.inr (.inr (.inr (.inl h))))
       .exact .inr (.inr (.inr (.inr (.inr h))))
       .exact .inl h
       .exact .inr (.inl h)
       .exact .inr (.inr (.inl h))
       .exact .inr (.inr (.inr (.inl h)))
      grind
theorem WZ {r:R6} (h:Kt r=true):r.a<r.d/\r.b<r.e/\r.c<r.f/\ -1000000<=r.a/\ -1000000<=r.b/\ -1000000<=r.c/\r.d<=1000000/\r.e<=1000000/\r.f<=1000000:=by
 grind [Z2,Eb]
open Go.Proofs Go.Sort Go.Shelf Go.RowKit Go.Lib
structure C6 (β:Type) where
 a:Int
 b:Int
 s:List β
def CT {β γ:Type} (inB:β->γ->Prop) (s:List β) (q:γ):Prop:= ∃r∈s,inB r q
theorem Sz {β γ:Type} (inB:β->γ->Prop) (q:γ): ¬CT inB [] q:=fun ⟨_,h,_⟩=>by cases h
theorem x0i {β γ:Type} (inB:β->γ->Prop) (s t:List β) (q:γ):CT inB (s++t) q↔CT inB s q\/CT inB t q:=by
 constructor
 .rintro ⟨r,hr,h⟩;rcases AF.1 hr with hr | hr
  .exact .inl ⟨r,hr,h⟩
  .exact .inr ⟨r,hr,h⟩
 .rintro (⟨r,hr,h⟩ | ⟨r,hr,h⟩)
  .exact ⟨r,AF.2 (.inl hr),h⟩
  .exact ⟨r,AF.2 (.inr hr),h⟩
structure Sem (β γ:Type) where
 can:List β->Prop
 inB:β->γ->Prop
 uniq: ∀s t,can s->can t->(∀q,CT inB s q↔CT inB t q)->s=t
 some: ∀s,can s->s≠ []-> ∃q,CT inB s q
 nil:can []
section
variable {β γ:Type} (M:Sem β γ)
def SO (g:C6 β):Prop:=g.a<g.b/\M.can g.s/\g.s≠ []
def Nxt (g h:C6 β):Prop:=g.b<=h.a/\(g.b=h.a->g.s≠h.s)
inductive Cc :List (C6 β)->Prop
 | nil:Cc []
 | one (g:C6 β) (h:SO M g):Cc [g]
 | cons (g h:C6 β) (r:List (C6 β)) (ok:SO M g) (nx:Nxt g h) (k:Cc (h::r)):Cc (g::h::r)
def Dy (G:List (C6 β)) (x:Int) (q:γ):Prop:= ∃g∈G,g.a<=x/\x<g.b/\CT M.inB g.s q
variable {M}
theorem Cc.head {g:C6 β} {r:List (C6 β)} (h:Cc M (g::r)):SO M g:=by cases h <;> assumption
theorem Cc.tail {g:C6 β} {r:List (C6 β)} (h:Cc M (g::r)):Cc M r:=by
 cases h with
 | one=>exact .nil
 | cons _ _ _ _ _ k=>exact k
theorem Cc.later {g:C6 β} {r:List (C6 β)} (h:Cc M (g::r)): ∀k∈r,g.b<=k.a:=by
 induction r generalizing g with
 | nil=>grind
 | cons k r ih=>
  cases h with
  | cons _ _ _ ok nx kk=>
   intro m hm;rcases AN.1 hm with rfl | hm
   .exact nx.1
   .have h1:=ih kk m hm;have h2:=kk.head.1;have h3:=nx.1;omega
theorem Cc.all {G:List (C6 β)} (h:Cc M G): ∀g∈G,SO M g:=by
 induction G with
 | nil=>grind
 | cons k r ih=>
  intro g hg;rcases AN.1 hg with rfl | hg
  .exact h.head
  .exact ih h.tail g hg
theorem Cc.before {G:List (C6 β)} {g:C6 β} (k:Cc M (G++[g])): ∀m∈G,m.b<=g.a:=by
 induction G with
 | nil=>grind
 | cons m r ih=>
  intro n hn;rcases AN.1 hn with rfl | hn
  .exact k.later g (by simp)
  .exact ih k.tail n hn
theorem Cc.snoc {G:List (C6 β)} {g h:C6 β} (k:Cc M (G++[g])) (ok:SO M h) (nx:Nxt g h):Cc M (G++[g]++[h]):=by
 induction G with
 | nil=>exact .cons g h [] k.head nx (.one h ok)
 | cons m r ih=>
  have i:=ih k.tail;cases r with
  | nil=>
   cases k with
   | cons _ _ _ ok1 nx1 k1=>exact .cons m g [h] ok1 nx1 i
  | cons m2 r=>
   cases k with
   | cons _ _ _ ok1 nx1 k1=>exact .cons m m2 _ ok1 nx1 i
theorem Cc.stretch {G:List (C6 β)} {g:C6 β} {x:Int} (k:Cc M (G++[g])) (hx:g.b<=x):Cc M (G++[⟨g.a,x,g.s⟩]):=by
 induction G with
 | nil=>have:=k.head;exact .one _ ⟨by have:=this.1;grind,this.2⟩
 | cons m r ih=>
  have i:=ih k.tail;cases r with
  | nil=>
   cases k with
   | cons _ _ _ ok1 nx1 k1=>exact .cons m _ [] ok1 nx1 i
  | cons m2 r=>
   cases k with
   | cons _ _ _ ok1 nx1 k1=>exact .cons m m2 _ ok1 nx1 i
theorem TT (g:C6 β) (G:List (C6 β)) (x:Int) (q:γ):Dy M (g::G) x q↔(g.a<=x/\x<g.b/\CT M.inB g.s q)\/Dy M G x q:=by
 constructor
 .rintro ⟨k,hk,h⟩;rcases AN.1 hk with rfl | hk
  .exact .inl h
  .exact .inr ⟨k,hk,h⟩
 .rintro (h | ⟨k,hk,h⟩)
  .exact ⟨g,by simp,h⟩
  .exact ⟨k,by simp [hk],h⟩
theorem x0j (G H:List (C6 β)) (x:Int) (q:γ):Dy M (G++H) x q↔Dy M G x q\/Dy M H x q:=by
 constructor
 .rintro ⟨k,hk,h⟩;rcases AF.1 hk with hk | hk
  .exact .inl ⟨k,hk,h⟩
  .exact .inr ⟨k,hk,h⟩
 .rintro (⟨k,hk,h⟩ | ⟨k,hk,h⟩)
  .exact ⟨k,AF.2 (.inl hk),h⟩
  .exact ⟨k,AF.2 (.inr hk),h⟩
theorem Cc.low {g:C6 β} {r:List (C6 β)} (h:Cc M (g::r)) {x:Int} {q:γ} (hp:Dy M (g::r) x q):g.a<=x:=by
 rcases (TT g r x q).1 hp with hp | ⟨k,hk,h1,_⟩
 .exact hp.1
 .have:=h.later k hk;have:=h.head.1;omega
theorem Cc.rest {g:C6 β} {r:List (C6 β)} (h:Cc M (g::r)) (x:Int) (q:γ):Dy M r x q↔g.b<=x/\Dy M (g::r) x q:=by
 constructor
 .rintro ⟨k,hk,h1,h2⟩;have:=h.later k hk;exact ⟨by omega,k,by simp [hk],h1,h2⟩
 grind [TT]
theorem Cc.sec0 {g:C6 β} {r:List (C6 β)} (h:Cc M (g::r)) {x:Int} (hx:g.a<=x/\x<g.b) (q:γ):Dy M (g::r) x q↔CT M.inB g.s q:=by
 rw [TT];constructor
 .rintro (h1 | ⟨k,hk,h1,_⟩)
  .exact h1.2.2
  .have:=h.later k hk;omega
 grind
theorem x6s : ∀(G H:List (C6 β)),Cc M G->Cc M H->(∀x q,Dy M G x q↔Dy M H x q)->G=H
 | [],[],_,_,_=>rfl
 | [],h::H,_,hH,e=>by obtain ⟨q,hq⟩:=M.some _ hH.head.2.1 hH.head.2.2;have:=(e h.a q).2 ((hH.sec0 ⟨A6 _,hH.head.1⟩ q).2 hq);obtain ⟨k,hk,_⟩:=this;cases hk
 | g::G,[],hG,_,e=>by obtain ⟨q,hq⟩:=M.some _ hG.head.2.1 hG.head.2.2;have:=(e g.a q).1 ((hG.sec0 ⟨A6 _,hG.head.1⟩ q).2 hq);obtain ⟨k,hk,_⟩:=this;cases hk
 | g::G,h::H,hG,hH,e=>by
  have og:=hG.head;have oh:=hH.head;obtain ⟨q,hq⟩:=M.some _ og.2.1 og.2.2;obtain ⟨p,hp⟩:=M.some _ oh.2.1 oh.2.2;have a1:h.a<=g.a:=hH.low ((e g.a q).1 ((hG.sec0 ⟨A6 _,og.1⟩ q).2 hq));have a2:g.a<=h.a:=hG.low ((e h.a p).2 ((hH.sec0 ⟨A6 _,oh.1⟩ p).2 hp));have a3:g.a=h.a:=by omega
  have s1:g.s=h.s:=M.uniq _ _ og.2.1 oh.2.1 fun q=>by rw [<-hG.sec0 (x:=g.a) ⟨A6 _,og.1⟩,e,hH.sec0 (x:=g.a) ⟨by omega,by have:=oh.1;omega⟩]
  have key: ∀(g h:C6 β) (G H:List (C6 β)),Cc M (g::G)->Cc M (h::H)->(∀x q,Dy M (g::G) x q↔Dy M (h::H) x q)->g.a=h.a->g.s=h.s-> ¬g.b<h.b:=fun g h G H hG hH e ea es hlt=>by
   have og:=hG.head;have oh:=hH.head;have CH: ∀q,Dy M (g::G) g.b q↔CT M.inB h.s q:=fun q=>by rw [e,hH.sec0 ⟨by have:=og.1;omega,hlt⟩]
   obtain ⟨q,hq⟩:=M.some _ oh.2.1 oh.2.2;have:=(hG.rest g.b q).2 ⟨A6 _,(CH q).2 hq⟩;cases hG with
   | one=>obtain ⟨k,hk,_⟩:=this;cases hk
   | cons _ k r ok nx kk=>
    have hk:k.a<=g.b:=kk.low this;have hk2:g.b=k.a:=by have:=nx.1;omega
    refine nx.2 hk2 ?_;rw [es];refine M.uniq _ _ oh.2.1 kk.head.2.1 fun p=> ?_;rw [<-CH,<-kk.sec0 (x:=g.b) ⟨by omega,by have:=kk.head.1;omega⟩];constructor
    .exact fun hp=>((Cc.cons g k r ok nx kk).rest g.b p).2 ⟨A6 _,hp⟩
    .exact fun hp=>(((Cc.cons g k r ok nx kk).rest g.b p).1 hp).2
  have b1:=key g h G H hG hH e a3 s1;have b2:=key h g H G hH hG (fun x q=>(e x q).symm) a3.symm s1.symm;have b3:g.b=h.b:=by omega
  have eg:g=h:=by
   obtain ⟨ga,gb,gs⟩:=g;obtain ⟨ha,hb,hs⟩:=h;simp only at a3 b3 s1
   subst_vars;rfl
  subst eg
  congr 1
  exact x6s G H hG.tail hH.tail fun x q=>by rw [hG.rest,hH.rest,e]
end
namespace CM
variable {α β:Type} (D:CM α β)
def flat (G:List (C6 β)):List α:=G.flatMap fun g=>g.s.map (D.put g.a g.b)
theorem flat_append (G H:List (C6 β)):D.flat (G++H)=D.flat G++D.flat H:=by simp [flat]
theorem flat_one (g:C6 β):D.flat [g]=g.s.map (D.put g.a g.b):=by simp [flat]
def inA {γ:Type} (inB:β->γ->Prop) (r:α) (p:Int×γ):Prop:=D.lo r<=p.1/\p.1<D.hi r/\inB (D.pr r) p.2
variable {D}
theorem w2y (hD:D.Fair) {γ:Type} (M:Sem β γ) (G:List (C6 β)) (x:Int) (q:γ):CT (D.inA M.inB) (D.flat G) (x,q)↔Dy M G x q:=by
 constructor
 .rintro ⟨r,hr,h⟩;obtain ⟨g,hg,hr⟩:=AM.1 hr;obtain ⟨b,hb,rfl⟩:=Bh.1 hr;unfold inA at h;rw [hD.lo_put,hD.hi_put,hD.pr_put] at h;exact ⟨g,hg,h.1,h.2.1,b,hb,h.2.2⟩
 .rintro ⟨g,hg,h1,h2,b,hb,h3⟩;refine ⟨D.put g.a g.b b,AM.2 ⟨g,hg,Bh.2 ⟨b,hb,rfl⟩⟩,?_⟩;unfold inA;rw [hD.lo_put,hD.hi_put,hD.pr_put]
  grind
def can {γ:Type} (M:Sem β γ) (l:List α):Prop:= ∃G,Cc M G/\l=D.flat G
def sem (hD:D.Fair) {γ:Type} (M:Sem β γ):Sem α (Int×γ) where
 can:=D.can M
 inB:=D.inA M.inB
 uniq:=fun s t ⟨G,hG,e1⟩ ⟨H,hH,e2⟩ h=>by subst e1 e2;rw [x6s G H hG hH fun x q=>by simp_all [w2y]]
 some:=fun s ⟨G,hG,e1⟩ hs=>by
  subst e1;cases G with
  | nil=>exact absurd rfl hs
  | cons g G=>obtain ⟨q,hq⟩:=M.some _ hG.head.2.1 hG.head.2.2;exact ⟨(g.a,q),(w2y hD M _ _ _).2 ((hG.sec0 ⟨A6 _,hG.head.1⟩ q).2 hq)⟩
 nil:=⟨[],.nil,rfl⟩
variable (D)
def oneS (sec:List β) (x x':Int) (s:Sw α β):Sw α β:=
 bif decide (0<sec.length)&&((s.fin == x)&&D.same s.last sec) then ⟨D.grow s.out s.first x',s.last,s.first,x'⟩
 else ⟨s.out++sec.map (D.put x x'),sec,s.out.length,x'⟩
def goS (sec:Int->List β) (cs:zp):Nat->Nat->Sw α β->Sw α β
 | 0,_,s=>s
 | k+1,i,s=>goS sec cs k (i+1) (D.oneS (sec (rd cs i)) (rd cs i) (rd cs (i+1)) s)
theorem go_goS (l:List α): ∀(k i:Nat) (s:Sw α β),D.go l k i s=D.goS (D.sec l) (D.cuts l) k i s
 | 0,_,_=>rfl
 | k+1,i,s=>go_goS l k (i+1) _
variable {D}
structure Inv {γ:Type} (M:Sem β γ) (sec:Int->List β) (cs:zp) (i:Nat) (s:Sw α β) (G:List (C6 β)):Prop where
 can:Cc M G
 out:s.out=D.flat G
 gap:s.last=[]-> ∀g∈G,g.b<rd cs i
 end_ : s.last ≠ [] -> ∃ Gp g, G = Gp ++ [g] /\ g.s = s.last /\ g.b = rd cs i /\ s.fin = rd cs i /\ s.first = (D.flat Gp).length
 pts: ∀x q,Dy M G x q↔ ∃j,j<i/\rd cs j<=x/\x<rd cs (j+1)/\CT M.inB (sec (rd cs j)) q
theorem u4g (hD:D.Fair) (hs: ∀a b,D.same a b=true↔a=b) {γ:Type} (M:Sem β γ) {sec:Int->List β} {cs:zp} (hc:cs.Pairwise (· < ·)) (eC: ∀x,M.can (sec x)) {i:Nat} (hi:i+1<cs.length) {s:Sw α β} {G:List (C6 β)} (h:Inv (D:=D) M sec cs i s G):
  ∃G',Inv (D:=D) M sec cs (i+1) (D.oneS (sec (rd cs i)) (rd cs i) (rd cs (i+1)) s) G':=by
 have hlt:rd cs i<rd cs (i+1):=HU hc (Bf _) hi;unfold oneS;rcases Xz (decide (0<(sec (rd cs i)).length)&&((s.fin == rd cs i)&&D.same s.last (sec (rd cs i)))) with q | q
 .rw [q,Ab];simp only [Ac,Ao] at q;obtain ⟨q1,q2,q3⟩:=q;have q3:=(hs _ _).1 q3;have hne:s.last≠ []:=fun e=>by grind
  obtain ⟨Gp,g,e1,e2,e3,e4,e5⟩:=h.end_ hne;subst e1;refine ⟨Gp++[⟨g.a,rd cs (i+1),g.s⟩],h.can.stretch (by omega),?_,fun e=>absurd e hne,fun _=>⟨Gp,_,rfl,e2,rfl,rfl,e5⟩,fun x p=> ?_⟩
  .show D.grow s.out s.first (rd cs (i+1))=_
   rw [h.out,e5];unfold grow;rw [D.flat_append,D.flat_append,D.flat_one,D.flat_one,List.take_left,List.drop_left,B4]
   congr 1
   exact BX fun b _=>hD.ext_put _ _ _ _
  .have hp:=h.pts x p;rw [x0j,TT] at hp ⊢;have z: ¬Dy M ([]:List (C6 β)) x p:=fun ⟨_,hk,_⟩=>by cases hk
   constructor
   .grind
   .rintro ⟨j,j1,j2,j3,j4⟩;rcases Be (Nat.le_of_lt_succ j1) with rfl | j1
    .refine .inr (.inl ⟨?_,j3,?_⟩)
     .have:=(h.can.all g (by simp)).1;grind
     grind
    grind
 .rw [q,Aa];by_cases he:sec (rd cs i)=[]
  .rw [he];refine ⟨G,h.can,?_,fun _ g hg=> ?_,fun e=>absurd rfl e,fun x p=> ?_⟩
   .show s.out++[].map _=_;rw [BN,AA,h.out]
   .by_cases hl:s.last=[]
    .have:=h.gap hl g hg;omega
    .obtain ⟨Gp,g',e1,e2,e3,_⟩:=h.end_ hl;subst e1;rcases AF.1 hg with hg | hg
     .have:=h.can.before g hg;have:=(h.can.all g' (by simp)).1;omega
     grind
   .rw [h.pts]
    grind [Sz]
  .have ok:SO M (⟨rd cs i,rd cs (i+1),sec (rd cs i)⟩:C6 β):=⟨hlt,eC _,he⟩
   have hcan:Cc M (G++[⟨rd cs i,rd cs (i+1),sec (rd cs i)⟩]):=by
    rcases List.eq_nil_or_concat G with rfl | ⟨Gp,g,rfl⟩
    .exact .one _ ok
    .rw [List.concat_eq_append] at*;refine h.can.snoc ok ?_;by_cases hl:s.last=[]
     .have:=h.gap hl g (by simp);exact ⟨by grind,fun e=>by grind⟩
     .obtain ⟨Gp',g',e1,e2,e3,e4,_⟩:=h.end_ hl;obtain ⟨rfl,e⟩:=List.append_inj' e1 rfl;obtain rfl:g=g':=by simpa using e
      refine ⟨by grind,fun _ e=> ?_⟩;rw [Af (show 0<(sec (rd cs i)).length from List.length_pos_iff.2 he),e4,(hs _ _).2 (e2.symm.trans e)] at q;simp at q
   refine ⟨_,hcan,?_,fun e=>absurd e he,fun _=>⟨G,_,rfl,rfl,rfl,rfl,by show s.out.length=_;rw [h.out]⟩,fun x p=> ?_⟩
   .show s.out++_=_;rw [D.flat_append,D.flat_one,h.out]
   .rw [x0j,TT,h.pts]
    grind [Dy]
theorem j0g (hD:D.Fair) (hs: ∀a b,D.same a b=true↔a=b) {γ:Type} (M:Sem β γ) {sec:Int->List β} {cs:zp} (hc:cs.Pairwise (· < ·)) (eC: ∀x,M.can (sec x)): ∀(k i:Nat) (s:Sw α β) (G:List (C6 β)),i+k<cs.length\/k=0->Inv (D:=D) M sec cs i s G->
  ∃G',Inv (D:=D) M sec cs (i+k) (D.goS sec cs k i s) G'
 | 0,i,s,G,_,h=>⟨G,h⟩
 | k+1,i,s,G,hk,h=>by obtain ⟨G1,h1⟩:=u4g hD hs M hc eC (show i+1<cs.length by omega) h;obtain ⟨G2,h2⟩:=j0g hD hs M hc eC k (i+1) _ G1 (by omega) h1;exact ⟨G2,by rw [show i+(k+1)=i+1+k by omega];exact h2⟩
theorem goS_can (hD:D.Fair) (hs: ∀a b,D.same a b=true↔a=b) {γ:Type} (M:Sem β γ) {sec:Int->List β} {cs:zp} (hc:cs.Pairwise (· < ·)) (eC: ∀x,M.can (sec x)):
  (D.sem hD M).can (D.goS sec cs (cs.length - 1) 0 ⟨[],[],0,0⟩).out /\ ∀x q,CT (D.sem hD M).inB (D.goS sec cs (cs.length - 1) 0 ⟨[],[],0,0⟩).out (x,q)↔ ∃j,j+1<cs.length/\rd cs j<=x/\x<rd cs (j+1)/\CT M.inB (sec (rd cs j)) q:=by
 obtain ⟨G,h⟩:=j0g hD hs M hc eC (cs.length - 1) 0 ⟨[],[],0,0⟩ [] (by omega) ⟨.nil,rfl,fun _ g hg=>by (cases hg),fun e=>absurd rfl e,fun x q=>⟨fun ⟨_,hg,_⟩=>(by cases hg),fun ⟨j,hj,_⟩=>absurd hj (AD _)⟩⟩;refine ⟨⟨G,h.can,h.out⟩,fun x q=> ?_⟩;rw [h.out];rw [show CT (D.sem hD M).inB (D.flat G) (x,q)↔Dy M G x q from w2y hD M G x q,h.pts]
 grind
end CM
open Go.Proofs Go.Sort Go.Shelf Go.RowKit Go.Lib
def DZ :Sem R2 Int where
 can:=Cy
 inB s y:=s.a<=y/\y<s.b
 uniq:=ZO
 some s hs hn:=by
  cases s with
  | nil=>grind
  | cons r l=>exact ⟨r.a,r,by simp,A6 _,hs.pos r (by simp)⟩
 nil:=.nil
def Qs :Sem R4 (Int×Int):=CM.sem R8 DZ
def DB :Sem R6 (Int×Int×Int):=CM.sem Ra Qs
namespace CM
variable {α β:Type} {D:CM α β}
theorem inn_slab (l m:List α) (hl: ∀r∈m,r∈l) {j:Nat} (hj:j+1<(D.cuts l).length) {x:Int} (h1:rd (D.cuts l) j<=x) (h2:x<rd (D.cuts l) (j+1)):D.inn m (rd (D.cuts l) j)=D.inn m x:=by
 have hc:(D.cuts l).Pairwise (· < ·):=by show (Ki (D.ends l)).Pairwise (· < ·);rw [Fn];exact (Vk _).1
 have hmem: ∀r∈m,D.lo r∈D.cuts l/\D.hi r∈D.cuts l:=fun r hr=>by show D.lo r∈Ki (D.ends l)/\D.hi r∈Ki (D.ends l);rw [Fn,(Vk _).2,(Vk _).2];exact ⟨AM.2 ⟨r,hl r hr,by simp⟩,AM.2 ⟨r,hl r hr,by simp⟩⟩
 have side: ∀c,c∈D.cuts l->(c<=rd (D.cuts l) j↔c<=x):=fun c hcm=>by
  obtain ⟨i,hi,rfl⟩:=AQ hcm;rw [<-Xm hi];rcases A7 j i with h | h
  .have:rd (D.cuts l) (j+1)<=rd (D.cuts l) i:=by
    rcases Be (show j+1<=i from h) with e | e
    .grind
    .exact Int.le_of_lt (HU hc e hi)
   grind
  .have:rd (D.cuts l) i<=rd (D.cuts l) j:=by
    rcases Be h with e | e
    .grind
    .exact Int.le_of_lt (HU hc e (by omega))
   grind
 unfold inn
 congr 1
 refine List.filter_congr fun r hr=> ?_
 grind
theorem inn_out (l m:List α) (hl: ∀r∈m,r∈l) {x:Int} (h: ∀j,j+1<(D.cuts l).length -> ¬(rd (D.cuts l) j<=x/\x<rd (D.cuts l) (j+1))):D.inn m x=[]:=by
 unfold inn;rw [List.map_eq_nil_iff,List.filter_eq_nil_iff];intro r hr hb;simp only [Ac,Ao] at hb;have hmem:D.lo r∈D.cuts l/\D.hi r∈D.cuts l:=by show D.lo r∈Ki (D.ends l)/\D.hi r∈Ki (D.ends l);rw [Fn,(Vk _).2,(Vk _).2];exact ⟨AM.2 ⟨r,hl r hr,by simp⟩,AM.2 ⟨r,hl r hr,by simp⟩⟩
 have hc:(D.cuts l).Pairwise (· < ·):=by show (Ki (D.ends l)).Pairwise (· < ·);rw [Fn];exact (Vk _).1
 obtain ⟨i,hi,e1⟩:=AQ hmem.1;obtain ⟨k,hk,e2⟩:=AQ hmem.2;rw [<-Xm hi] at e1;rw [<-Xm hk] at e2;have h0:rd (D.cuts l) 0<=rd (D.cuts l) i:=by
  rcases Be (Ay i) with e | e
  .grind
  .exact Int.le_of_lt (HU hc e hi)
 obtain ⟨j,j1,j2,j3⟩:=w3x k hk x (by omega) (by omega)
 grind
theorem goJ_can (hD:D.Fair) (hs: ∀a b,D.same a b=true↔a=b) {γ:Type} (M:Sem β γ) (a b:List α) (J:List β->List β->List β) (hJ: ∀x,M.can (J (D.inn a x) (D.inn b x))) (h0:J [] []=[]):
  (D.sem hD M).can (D.goS (fun x=>J (D.inn a x) (D.inn b x)) (D.cuts (a++b)) ((D.cuts (a++b)).length - 1) 0 ⟨[],[],0,0⟩).out /\
  ∀x q,CT (D.sem hD M).inB (D.goS (fun x=>J (D.inn a x) (D.inn b x)) (D.cuts (a++b)) ((D.cuts (a++b)).length - 1) 0 ⟨[],[],0,0⟩).out (x,q)↔CT M.inB (J (D.inn a x) (D.inn b x)) q:=by
 have hc:(D.cuts (a++b)).Pairwise (· < ·):=by show (Ki (D.ends (a++b))).Pairwise (· < ·);rw [Fn];exact (Vk _).1
 obtain ⟨h1,h2⟩:=goS_can hD hs M (cs:=D.cuts (a++b)) hc hJ;refine ⟨h1,fun x q=> ?_⟩;rw [h2];constructor
 .grind [inn_slab]
 .intro hp;by_cases hx: ∃j,j+1<(D.cuts (a++b)).length /\rd (D.cuts (a++b)) j<=x/\x<rd (D.cuts (a++b)) (j+1)
  .grind [inn_slab]
  .have hx': ∀j,j+1<(D.cuts (a++b)).length -> ¬(rd (D.cuts (a++b)) j<=x/\x<rd (D.cuts (a++b)) (j+1)):=fun j j1 j2=>hx ⟨j,j1,j2⟩;rw [inn_out (a++b) a (fun r hr=>AF.2 (.inl hr)) hx',inn_out (a++b) b (fun r hr=>AF.2 (.inr hr)) hx',h0] at hp;exact absurd hp (Sz _ _)
theorem pt_inn {γ:Type} (inB:β->γ->Prop) (l:List α) (x:Int) (q:γ):CT inB (D.inn l x) q↔CT (D.inA inB) l (x,q):=by
 constructor
 .rintro ⟨b,hb,h⟩;obtain ⟨r,hr,rfl⟩:=Bh.1 hb;obtain ⟨h1,h2⟩:=Bk.1 hr;simp only [Ac,Ao] at h2;exact ⟨r,h1,h2.1,h2.2,h⟩
 .rintro ⟨r,hr,h1,h2,h3⟩;refine ⟨D.pr r,Bh.2 ⟨r,Bk.2 ⟨hr,?_⟩,rfl⟩,h3⟩
  grind
theorem out_goJ (l:List α):D.out l=(D.goS (fun x=>D.mak (D.inn l x)) (D.cuts (l++[])) ((D.cuts (l++[])).length - 1) 0 ⟨[],[],0,0⟩).out :=by rw [AA];unfold out;rw [go_goS];rfl
end CM
theorem Se (a b:zw):D6.same a b=true↔a=b:=BO
theorem WW (a b:zq):D4.same a b=true↔a=b:=BO
theorem HF {l:zw} (h: ∀r∈l,Kc r=true) (x:Int):(D4.inn l x).all C5=true:=Au.2 fun s hs=>by
 grind [Mp,Kc,C5]
theorem v3m {l:zq} (hv:l.all C5=true) (hl:l.length<=400):DZ.can (Wp l)/\ ∀y,CT DZ.inB (Wp l) y↔CT DZ.inB l y:=by
 obtain ⟨c1,c2⟩:=Ri l hv;have e:Wp l=Du l:=by grind [Wp]
 rw [e];exact ⟨c1,c2⟩
theorem x0n {β γ:Type} (M:Sem β γ) {l:List β} (h:M.can l) (hp: ∀q,¬CT M.inB l q):l=[]:=BT fun hn=>by obtain ⟨q,hq⟩:=M.some l h hn;exact hp q hq
theorem j1v :Wp []=[]:=by
 grind [v3m,x0n,Sz]
theorem Mx {l:zw} (hv: ∀r∈l,Kc r=true) (hl:l.length<=400):Qs.can (D4.out l)/\ ∀p,CT Qs.inB (D4.out l) p↔CT Qs.inB l p:=by rw [CM.out_goJ];have hs: ∀x,DZ.can (D4.mak (D4.inn l x))/\ ∀y,CT DZ.inB (D4.mak (D4.inn l x)) y↔CT DZ.inB (D4.inn l x) y:=fun x=>v3m (HF hv x) (AG (D4.inn_length l x) hl);obtain ⟨h1,h2⟩:=CM.goJ_can R8 WW DZ l [] (fun s _=>D4.mak s) (fun x=>(hs x).1) j1v;refine ⟨h1,fun ⟨x,y⟩=> ?_⟩;rw [show CT Qs.inB _ (x,y)↔_ from h2 x y,(hs x).2,CM.pt_inn];rfl
theorem Y7 {l:zx} (hv: ∀r∈l,Kt r=true) (z:Int): ∀r∈D6.inn l z,Kc r=true:=fun r hr=>by
 obtain ⟨s,hs,rfl⟩:=Bh.1 hr;have:=WZ (hv s (Bk.1 hs).1);show Kc ⟨s.a,s.b,s.d,s.e⟩=true
 grind [Kc]
theorem x2p {l:zw} (hv: ∀r∈l,Kc r=true) (hl:l.length<=400) (h:(D4.out l).length <=400):Zb l=D4.out l/\Xk l=0:=by
 grind [Zb,Xk]
open Go.Proofs Go.Sort Go.Shelf Go.RowKit Go.Lib
def Df (k:Nat) (a b:Bool):Bool:=match k with
 | 0=>a||b
 | 1=>a&&b
 | _=>a&& !b
theorem u9h (k:Nat):Df k false false=false:=by
 match k with
 | 0=>rfl
 | 1=>rfl
 | _+2=>rfl
def Vw (i:Int) (l:zq):zo:=l.flatMap fun s=>[⟨s.a,i,1⟩,⟨s.b,i,-1⟩]
def Cn (i:Int) (E:zo) (y:Int):Int:=(E.map fun e=>if e.b=i/\e.a<=y then e.c else 0).sum
theorem JG (i:Int) (e:R3) (E:zo) (y:Int):Cn i (e::E) y=(if e.b=i/\e.a<=y then e.c else 0)+Cn i E y:=by simp [Cn]
theorem y7b (i:Int) (E F:zo) (y:Int):Cn i (E++F) y=Cn i E y+Cn i F y:=by simp [Cn]
theorem x5q (i:Int) {E F:zo} (h:E.Perm F) (y:Int):Cn i E y=Cn i F y:=by
 induction h with
 | nil=>rfl
 | cons e _ ih=>rw [JG,JG,ih]
 | swap a b l=>simp only [JG];omega
 | trans _ _ i1 i2=>rw [i1,i2]
theorem v5z (i:Int) (E:zo) (y:Int) (h: ∀e∈E,y<e.a):Cn i E y=0:=by
 induction E with
 | nil=>rfl
 | cons e E ih=>
  grind [JG]
theorem v6a (i:Int) (l:zq) (hv: ∀s∈l,s.a<s.b) (y:Int):0<=Cn i (Vw i l) y/\(0<Cn i (Vw i l) y↔pt l y):=by
 induction l with
 | nil=>grind [Cn,Vw,pt]
 | cons s l ih=>
  obtain ⟨i1,i2⟩:=ih fun t ht=>hv t (by simp [ht]);have hs:=hv s (by simp);have e:Cn i (Vw i (s::l)) y=(if s.a<=y/\y<s.b then 1 else 0)+Cn i (Vw i l) y:=by
   grind [Vw,JG]
  rw [e];by_cases h:s.a<=y/\y<s.b
  .rw [AJ h];exact ⟨by omega,⟨fun _=>⟨s,by simp,h⟩,fun _=>by omega⟩⟩
  .rw [AC h];refine ⟨by omega,?_⟩;rw [Int.zero_add,i2];constructor
   .rintro ⟨t,ht,h2⟩;exact ⟨t,by simp [ht],h2⟩
   .rintro ⟨t,ht,h2⟩;rcases AN.1 ht with rfl | ht
    .grind
    .exact ⟨t,ht,h2⟩
theorem x0o (i j:Int) (hij:i≠j) (l:zq) (y:Int):Cn i (Vw j l) y=0:=by
 induction l with
 | nil=>rfl
 | cons s l ih=>
  show Cn i (⟨s.a,j,1⟩::⟨s.b,j,-1⟩::Vw j l) y=0
  grind [JG]
def Dv (f:Bool->Bool->Bool):zo->Int->Int->Int->Bool->zq->zq
 | [],_,_,_,_,out=>out
 | e::r,o,p,last,inn,out=>
  Dv f r (bif e.b == 0 then o+e.c else o) (bif e.b == 0 then p else p+e.c) e.a (f (decide ((bif e.b == 0 then o+e.c else o)>0)) (decide ((bif e.b == 0 then p else p+e.c)>0))) (Ui out last inn e.a)
def Two (E:zo):Prop:= ∀e∈E,e.b=0\/e.b=1
theorem v3g (f:Bool->Bool->Bool): ∀(E:zo) (o p last:Int) (out:zq),Asc E->Two E->(∀e∈E,last<=e.a)->Cy out->(∀s∈out,s.b<=last)->
  Cy (Dv f E o p last (f (decide (o>0)) (decide (p>0))) out)/\ ∀y,pt (Dv f E o p last (f (decide (o>0)) (decide (p>0))) out) y↔pt out y\/(last<=y/\f (decide (o+Cn 0 E y>0)) (decide (p+Cn 1 E y>0))=true/\ ∃e∈E,y<e.a)
 | [],o,p,last,out,_,_,_,hc,_=>⟨hc,fun y=>⟨.inl,fun h=>h.elim id fun ⟨_,_,e,he,_⟩=>by cases he⟩⟩
 | e ::r,o,p,last,out,hE,ht,hl,hc,hb=>by
  have he:=hl e (by simp);have hr:=A9.1 hE;obtain ⟨p1,p2,p3⟩:=x1g (f (decide (o>0)) (decide (p>0))) hc hb he;have hz: ∀y,y<e.a-> ∀i,Cn i (e::r) y=0:=fun y hy i=>v5z i _ _ fun g hg=>by
   grind
  have main: ∀(o' p':Int),(∀y,e.a<=y->o'+Cn 0 r y=o+Cn 0 (e::r) y/\p'+Cn 1 r y=p+Cn 1 (e::r) y)->
    Cy (Dv f r o' p' e.a (f (decide (o'>0)) (decide (p'>0))) (Ui out last (f (decide (o>0)) (decide (p>0))) e.a))/\
    ∀y,pt (Dv f r o' p' e.a (f (decide (o'>0)) (decide (p'>0))) (Ui out last (f (decide (o>0)) (decide (p>0))) e.a)) y↔pt out y\/(last<=y/\f (decide (o+Cn 0 (e::r) y>0)) (decide (p+Cn 1 (e::r) y>0))=true/\ ∃g∈e::r,y<g.a):=fun o' p' hop=>by
   obtain ⟨q1,q2⟩:=v3g f r o' p' e.a (Ui out last (f (decide (o>0)) (decide (p>0))) e.a) hr.2 (fun g hg=>ht g (by simp [hg])) hr.1 p1 p2;refine ⟨q1,fun y=> ?_⟩;rw [q2,p3];constructor
   .rintro ((h | ⟨h1,h2,h3⟩) | ⟨h1,h2,g,hg,h3⟩)
    .exact .inl h
    .simp_all
    .refine .inr ⟨by omega,?_,g,by simp [hg],h3⟩;simp_all
   .rintro (h | ⟨h1,h2,g,hg,h3⟩)
    .grind
    .by_cases hy:e.a<=y
     .right;obtain ⟨e1,e2⟩:=hop y hy;refine ⟨hy,by simp_all,g,?_,h3⟩
      grind
     simp_all
  show Cy (Dv f r _ _ _ _ _)/\ ∀y,pt (Dv f r _ _ _ _ _) y↔_;rcases ht e (by simp) with h0 | h0
  .have hb0:(e.b == 0)=true:=by rw [h0];rfl
   rw [hb0,Ab,Ab];refine main _ _ fun y hy=>⟨?_,?_⟩
   all_goals grind [JG]
  .have hb0:(e.b == 0)=false:=by rw [h0];rfl
   rw [hb0,Aa,Aa];refine main _ _ fun y hy=>⟨?_,?_⟩
   all_goals grind [JG]
instance ptDec (l:zq) (y:Int):Decidable (pt l y):=Classical.propDecidable _
theorem j1r (f:Bool->Bool->Bool) (hf:f false false=false) (a b:zq) (ha: ∀s∈a,s.a<s.b) (hb: ∀s∈b,s.a<s.b) (E:zo) (hp:E.Perm (Vw 0 a++Vw 1 b)) (hE:Asc E):
  Cy (Dv f E 0 0 0 false [])/\ ∀y,pt (Dv f E 0 0 0 false []) y↔f (decide (pt a y)) (decide (pt b y))=true:=by
 have hn: ∀y,Cn 0 E y=Cn 0 (Vw 0 a) y/\Cn 1 E y=Cn 1 (Vw 1 b) y:=fun y=>by rw [x5q 0 hp,x5q 1 hp,y7b,y7b,x0o 0 1 (by decide),x0o 1 0 (by decide)];omega
 have hd: ∀y,decide (Cn 0 E y>0)=decide (pt a y)/\decide (Cn 1 E y>0)=decide (pt b y):=fun y=>by simp_all [v6a]
 have ht:Two E:=fun e he=>by
  rcases AF.1 (hp.mem_iff.1 he) with h | h
  .obtain ⟨s,_,h⟩:=AM.1 h
   grind
  .obtain ⟨s,_,h⟩:=AM.1 h
   grind
 have cover: ∀y,f (decide (pt a y)) (decide (pt b y))=true-> ∃e∈E,y<e.a/\ ∃g∈E,g.a<=y:=fun y hy=>by
  by_cases h1:pt a y
  .obtain ⟨s,hs,s1,s2⟩:=h1;exact ⟨⟨s.b,0,-1⟩,hp.mem_iff.2 (AF.2 (.inl (AM.2 ⟨s,hs,by simp⟩))),s2,⟨s.a,0,1⟩,hp.mem_iff.2 (AF.2 (.inl (AM.2 ⟨s,hs,by simp⟩))),s1⟩
  .by_cases h2:pt b y
   .obtain ⟨s,hs,s1,s2⟩:=h2;exact ⟨⟨s.b,1,-1⟩,hp.mem_iff.2 (AF.2 (.inr (AM.2 ⟨s,hs,by simp⟩))),s2,⟨s.a,1,1⟩,hp.mem_iff.2 (AF.2 (.inr (AM.2 ⟨s,hs,by simp⟩))),s1⟩
   grind
 cases E with
 | nil=>
  refine ⟨.nil,fun y=>⟨fun ⟨s,hs,_⟩=>(by cases hs),fun hy=> ?_⟩⟩
  grind
 | cons e r=>
  have hr:=A9.1 hE;have hz0:f (decide ((0:Int)>0)) (decide ((0:Int)>0))=false:=hf;have e0:Dv f (e::r) 0 0 0 false []=Dv f (e::r) 0 0 e.a (f (decide ((0:Int)>0)) (decide ((0:Int)>0))) []:=by
   grind [Dv,Ui]
  rw [e0];obtain ⟨q1,q2⟩:=v3g f (e::r) 0 0 e.a [] hE ht (fun g hg=>by
   grind) .nil (by simp)
  refine ⟨q1,fun y=> ?_⟩;rw [q2,Int.zero_add,Int.zero_add,(hd y).1,(hd y).2];constructor
  .rintro (⟨s,hs,_⟩ | ⟨_,h2,_⟩);all_goals grind
  grind
def GO :Nat->Nat
 | 0=>0
 | k+1=>GO k+k
theorem v3e : ∀n,GO (n+1)+GO n=n*n
 | 0=>rfl
 | n+1=>by have:=v3e n;show GO (n+1)+(n+1)+(GO n+n)=(n+1)*(n+1);rw [AR,Nat.mul_add];omega
def Dz (n:Nat):Nat->Nat
 | 0=>0
 | v+1=>Dz n v+min v (2*n - v)
theorem v6v (n:Nat): ∀v,v<=n+1->Dz n v=GO v
 | 0,_=>rfl
 | v+1,h=>by show Dz n v+min v (2*n - v)=GO v+v;rw [v6v n v (by omega)];omega
theorem XP (n:Nat): ∀j,j<=n->Dz n (n+1+j)+GO (n - j)=n*n
 | 0,_=>by grind [v6v,v3e]
 | j+1,h=>by
  have:=XP n j (by omega);show Dz n (n+1+j)+min (n+1+j) (2*n - (n+1+j))+GO (n - (j+1))=_;have e:GO (n - j)=GO (n - (j+1))+(n - (j+1)):=by rw [show n - j=(n - (j+1))+1 by omega];rfl
  omega
theorem PY (n v:Nat):Dz n v<=n*n:=by
 by_cases h1:v<=2*n+1
 .by_cases h2:v<=n+1
  .have h3:=XP n 0 (Ay _);have mono: ∀k v,Dz n v<=Dz n (v+k):=fun k v=>by
    induction k with
    | zero=>grind
    | succ k ih=>exact AG ih (Nat.le_add_right _ _)
   have:=mono (n+1 - v) v
   grind
  .have:=XP n (v - (n+1)) (by omega)
   grind
 .have h3:Dz n (2*n+1)<=n*n:=by
   have:=XP n n (Ar _)
   grind
  have: ∀k,Dz n (2*n+1+k)=Dz n (2*n+1):=fun k=>by
   induction k with
   | zero=>rfl
   | succ k ih=>
    grind [Dz]
  have h4:=this (v - (2*n+1))
  grind
theorem w6n (n:Nat) (E:Nat->Nat): ∀k,(∀i,i+1<k->E i<E (i+1))->((List.range k).map fun i=>min (E i) (2*n - E i)).sum <=(match k with | 0=>0 | k+1=>Dz n (E k+1))
 | 0,_=>Ar _
 | k+1,h=>by
  rw [BQ,BF,List.sum_append];have ih:=w6n n E k fun i hi=>h i (by omega);have mono: ∀k v,Dz n v<=Dz n (v+k):=fun k v=>by
   induction k with
   | zero=>grind
   | succ k ih=>exact AG ih (Nat.le_add_right _ _)
  simp only [A0,BN,List.sum_cons,List.sum_nil,Bg];show _<=Dz n (E k)+min (E k) (2*n - E k);cases k with
  | zero=>
   grind
  | succ k=>
   have h1:=h k (by omega);have h2:=mono (E (k+1) - (E k+1)) (E k+1)
   grind
def E1 (p:Int->Bool) (l:zp):Nat:=(l.filter p).length
theorem Y1 (p:Int->Bool) (x:Int) (l:zp):E1 p (x::l)=(if p x=true then 1 else 0)+E1 p l:=by
 grind [E1]
theorem j9z (p:Int->Bool) (l:zp):E1 p l<=l.length:=List.length_filter_le _ _
theorem v8b {p q:Int->Bool} (h: ∀x,p x=true->q x=true) (l:zp):E1 p l<=E1 q l:=by
 induction l with
 | nil=>exact Ar _
 | cons x l ih=>
  grind [Y1]
theorem j9y {p q:Int->Bool} (h: ∀x,p x=true->q x=true) {l:zp} {y:Int} (hy:y∈l) (hq:q y=true) (hp:p y=false):E1 p l<E1 q l:=by
 induction l with
 | nil=>cases hy
 | cons x l ih=>
  rw [Y1,Y1];rcases AN.1 hy with rfl | hy
  .have:=v8b h l
   grind
  grind
namespace CM
variable {α β:Type} {D:CM α β}
theorem inn_min (l:List α) (x:Int) (hv: ∀r∈l,D.lo r<D.hi r):(D.inn l x).length <=min (E1 (fun y=>decide (y<=x)) (D.ends l)) (2*l.length - E1 (fun y=>decide (y<=x)) (D.ends l)):=by
 induction l with
 | nil=>exact Ay _
 | cons r l ih=>
  have ih:=ih fun s hs=>hv s (by simp [hs]);have hr:=hv r (by simp);have hc:=j9z (fun y=>decide (y<=x)) (D.ends l);rw [D.ends_length] at hc;have e:E1 (fun y=>decide (y<=x)) (D.ends (r::l))=(if D.lo r<=x then 1 else 0)+((if D.hi r<=x then 1 else 0)+E1 (fun y=>decide (y<=x)) (D.ends l)):=by
   show E1 _ (D.lo r::D.hi r::D.ends l)=_
   grind [Y1]
  grind [inn]
theorem open_sum (l:List α) (hv: ∀r∈l,D.lo r<D.hi r): ∀k,k<=(D.cuts l).length ->((List.range k).map fun i=>(D.inn l (rd (D.cuts l) i)).length).sum <=l.length*l.length:=fun k hk=>by
 have hc:(D.cuts l).Pairwise (· < ·):=by show (Ki (D.ends l)).Pairwise (· < ·);rw [Fn];exact (Vk _).1
 have hm: ∀i,i<(D.cuts l).length ->rd (D.cuts l) i∈D.ends l:=fun i hi=>by
  have:rd (D.cuts l) i∈Ki (D.ends l):=by rw [Xm hi];exact AS hi
  grind [Fn,Vk]
 have h1:((List.range k).map fun i=>(D.inn l (rd (D.cuts l) i)).length).sum <=((List.range k).map fun i=>min (E1 (fun y=>decide (y<=rd (D.cuts l) i)) (D.ends l)) (2*l.length - E1 (fun y=>decide (y<=rd (D.cuts l) i)) (D.ends l))).sum :=by
  induction k with
  | zero=>grind
  | succ k ih=>
   rw [BQ,BF,BF,List.sum_append,List.sum_append];have:=ih (by omega);have h2:=D.inn_min l (rd (D.cuts l) k) hv
   grind
 refine AG h1 ?_;have h2:=w6n l.length (fun i=>E1 (fun y=>decide (y<=rd (D.cuts l) i)) (D.ends l)) k fun i hi=>by
  have hlt:=HU hc (show i<i+1 by omega) (show i+1<_ by omega);refine j9y (fun x hx=> ?_) (hm (i+1) (by omega)) (Af (A6 _)) (An (by omega))
  grind
 grind [PY]
theorem goS_length (sec:Int->List β) (cs:zp): ∀(k i:Nat) (s:Sw α β),(D.goS sec cs k i s).out.length <=s.out.length+((List.range k).map fun j=>(sec (rd cs (i+j))).length).sum
 | 0,i,s=>Ar _
 | k+1,i,s=>by
  have h1:=goS_length sec cs k (i+1) (D.oneS (sec (rd cs i)) (rd cs i) (rd cs (i+1)) s);have h2:(D.oneS (sec (rd cs i)) (rd cs i) (rd cs (i+1)) s).out.length <=s.out.length+(sec (rd cs i)).length :=by
   unfold oneS;cases (decide (0<(sec (rd cs i)).length)&&((s.fin == rd cs i)&&D.same s.last (sec (rd cs i)))) with
   | true=>rw [Ab,D.grow_length];omega
   | false=>rw [Aa];simp
  rw [List.range_succ_eq_map,A0,B4,List.sum_cons,show rd cs (i+0)=rd cs i from rfl];have e:((fun j=>(sec (rd cs (i+j))).length)∘Nat.succ)=fun j=>(sec (rd cs (i+1+j))).length :=by
   funext j;simp only [Function.comp];rw [show i+j.succ=i+1+j by omega]
  rw [e];show (D.goS sec cs k (i+1) _).out.length <=_;omega
theorem goJ_length (a b:List α) (J:List β->List β->List β) (hJ: ∀x,(J (D.inn a x) (D.inn b x)).length <=(D.inn a x).length +(D.inn b x).length) (hv: ∀r∈a++b,D.lo r<D.hi r):
  (D.goS (fun x=>J (D.inn a x) (D.inn b x)) (D.cuts (a++b)) ((D.cuts (a++b)).length - 1) 0 ⟨[],[],0,0⟩).out.length <=(a.length+b.length)*(a.length+b.length):=by
 have h1:=D.goS_length (fun x=>J (D.inn a x) (D.inn b x)) (D.cuts (a++b)) ((D.cuts (a++b)).length - 1) 0 ⟨[],[],0,0⟩;have h2:=D.open_sum (a++b) hv ((D.cuts (a++b)).length - 1) (Nat.sub_le _ _);rw [AK] at h2;refine AG h1 (AG ?_ h2);simp only [B1,Ah];generalize (D.cuts (a++b)).length - 1=k
 induction k with
 | zero=>grind
 | succ k ih=>rw [BQ,BF,BF,List.sum_append,List.sum_append];have:=hJ (rd (D.cuts (a++b)) k);simp only [A0,BN,List.sum_cons,List.sum_nil];rw [D.inn_append,AK];omega
end CM
open Go.Proofs Go.Sort Go.Shelf Go.RowKit Go.Lib
def EH (k:Nat) (a b:zq):zq:=Dv (Df k) (Ch (Vw 0 a++Vw 1 b)) 0 0 0 false []
theorem x6m (i:Int) (l:zq) (hv:l.all C5=true):DN (Vw i l)=true:=Au.2 fun e he=>by obtain ⟨s,hs,h1⟩:=AM.1 he;have hv:=Au.1 hv s hs;simp only [C5,Ac,Ao] at hv;simp only [AN,List.not_mem_nil,or_false] at h1;rcases h1 with rfl | rfl <;> exact Af (by grind)
theorem w4r {l:zq} (hv:l.all C5=true): ∀s∈l,s.a<s.b:=fun s hs=>by
 grind [C5]
theorem x8l (k:Nat) {a b:zq} (ha:a.all C5=true) (hb:b.all C5=true):DZ.can (EH k a b)/\ ∀y,CT DZ.inB (EH k a b) y↔Df k (decide (pt a y)) (decide (pt b y))=true:=by
 have hbnd:DN (Vw 0 a++Vw 1 b)=true:=by
  grind [x6m,DN]
 obtain ⟨hp,_⟩:=Qr _ hbnd;exact j1r (Df k) (u9h k) a b (w4r ha) (w4r hb) _ hp (w4x _ hbnd)
theorem w5s : ∀(l S:zp),l.Pairwise (· < ·)->(∀x∈l,x∈S)->l.length<=S.length
 | [],S,_,_=>Ay _
 | x::l,S,h,hs=>by
  obtain ⟨h1,h2⟩:=A9.1 h;have hx:=hs x (by simp);have:=w5s l (S.erase x) h2 fun y hy=>(List.mem_erase_of_ne (by grind)).2 (hs y (by simp [hy]))
  grind
def JQ (L:zq):zp:=L.flatMap fun s=>[s.a,s.b]
theorem y3j (L:zq):(JQ L).length =2*L.length:=by
 induction L with
 | nil=>rfl
 | cons r l ih=>grind [JQ]
theorem v8e {L:zq} (h:Cy L):(JQ L).Pairwise (· < ·):=by
 induction L with
 | nil=>exact .nil
 | cons s L ih=>
  have hp:=h.pos s (by simp);have hn: ∀y∈JQ L,s.b<y:=fun y hy=>by
   obtain ⟨t,ht,h1⟩:=AM.1 hy;have:=h.head t ht;have:=h.pos t (by simp [ht])
   grind
  show (s.a::s.b::JQ L).Pairwise (· < ·);refine A9.2 ⟨fun y hy=> ?_,A9.2 ⟨hn,ih h.tail⟩⟩
  grind
theorem v2d {L:zq} (h:Cy L) (S:zp) (hS: ∀y,y ∉ S->(pt L (y - 1)↔pt L y)):2*L.length<=S.length:=by
 rw [<-y3j];refine w5s _ S (v8e h) fun y hy=>BT fun hn=> ?_;obtain ⟨s,hs,h1⟩:=AM.1 hy;have hp:=h.pos s hs;have sepL: ∀t∈L,t=s\/t.b<s.a\/s.b<t.a:=fun t ht=>by
  obtain ⟨i,hi,ei⟩:=AQ hs;obtain ⟨j,hj,ej⟩:=AQ ht;have pw:=Bn.1 h.sep
  grind
 simp only [AN,List.not_mem_nil,or_false] at h1;rcases h1 with rfl | rfl
 .obtain ⟨t,ht,t1,t2⟩:=(hS _ hn).2 ⟨s,hs,A6 _,hp⟩
  grind
 .obtain ⟨t,ht,t1,t2⟩:=(hS _ hn).1 ⟨s,hs,by omega,by omega⟩
  grind
theorem v5q {l:zq} {y:Int} (h:y ∉ JQ l):pt l (y - 1)↔pt l y:=by
 constructor
 .rintro ⟨s,hs,h1,h2⟩;refine ⟨s,hs,by omega,?_⟩;have:y≠s.b:=fun e=>h (AM.2 ⟨s,hs,by simp [e]⟩);omega
 .rintro ⟨s,hs,h1,h2⟩;refine ⟨s,hs,?_,by omega⟩;have:y≠s.a:=fun e=>h (AM.2 ⟨s,hs,by simp [e]⟩);omega
theorem y9z (k:Nat) {a b:zq} (ha:a.all C5=true) (hb:b.all C5=true):(EH k a b).length <=a.length+b.length:=by
 obtain ⟨h1,h2⟩:=x8l k ha hb;have:=v2d h1 (JQ a++JQ b) fun y hy=>by
  rw [AF,not_or] at hy;have e1:decide (pt a (y - 1))=decide (pt a y):=decide_eq_decide.2 (v5q hy.1);have e2:decide (pt b (y - 1))=decide (pt b y):=decide_eq_decide.2 (v5q hy.2);have q1:pt (EH k a b) (y - 1)↔_:=h2 (y - 1);have q2:pt (EH k a b) y↔_:=h2 y
  grind
 grind [y3j]
def Dx (k:Nat) (a b:zw):zw:=(D4.goS (fun x=>EH k (D4.inn a x) (D4.inn b x)) (D4.cuts (a++b)) ((D4.cuts (a++b)).length - 1) 0 ⟨[],[],0,0⟩).out
theorem j2a (k:Nat):EH k [] []=[]:=by have:=y9z k (a:=[]) (b:=[]) rfl rfl;simp_all
instance ptDec4 (l:zw) (p:Int×Int):Decidable (CT Qs.inB l p):=Classical.propDecidable _
theorem w1c (l:zw) (x y:Int):pt (D4.inn l x) y↔CT Qs.inB l (x,y):=CM.pt_inn (D:=D4) DZ.inB l x y
theorem w0m (k:Nat) {a b:zw} (ha: ∀r∈a,Kc r=true) (hb: ∀r∈b,Kc r=true):
  Qs.can (Dx k a b)/\(∀p,CT Qs.inB (Dx k a b) p↔Df k (decide (CT Qs.inB a p)) (decide (CT Qs.inB b p))=true)/\(Dx k a b).length <=(a.length+b.length)*(a.length+b.length):=by
 have hs: ∀x,DZ.can (EH k (D4.inn a x) (D4.inn b x))/\ ∀y,CT DZ.inB (EH k (D4.inn a x) (D4.inn b x)) y↔Df k (decide (pt (D4.inn a x) y)) (decide (pt (D4.inn b x) y))=true:=fun x=>x8l k (HF ha x) (HF hb x);obtain ⟨h1,h2⟩:=CM.goJ_can R8 WW DZ a b (EH k) (fun x=>(hs x).1) (j2a k);refine ⟨h1,fun ⟨x,y⟩=> ?_,?_⟩
 .rw [show CT Qs.inB (Dx k a b) (x,y)↔_ from h2 x y,(hs x).2]
  grind [w1c]
 .refine CM.goJ_length a b (EH k) (fun x=>y9z k (HF ha x) (HF hb x)) fun r hr=> ?_;have hv:Kc r=true:=by
   grind
  simp only [Kc,Ac,Ao] at hv;exact hv.1
open Go.Proofs.Tryz
inductive H8 where
 | h0 (v10:Int)
def Ns (l0:zq):H8->CI
 | .h0 v10=>⟨⟨34,0,true⟩,none,(Zq prog 149 (pn 75) 0),none,(Zy prog 5),⟨Zs [(0,(dt l0)),(8,(dt l0)),(9,(ii (l0.length:Int))),(10,(ii v10))],Xe [] 0,0,[],true⟩,[],.leaf⟩
def j1y :List (Option zr):=[some [0,8,9,10]]
def j1z :List (Option zr):=[]
def Ix (l0:zq):H8->Yr H8
 | .h0 v10=>let c:=rd l0 v10.toNat;(bif (decide (v10<(l0.length:Int))) then (bif ((decide (0<=v10/\v10<(l0.length:Int)))&&true) then (bif (decide (c.a <c.b)) then (bif (decide (c.a >=(-1000000))) then (bif (!(decide (c.b <=1000000))) then (.ret [(.int .i64 8)]) else (bif (decide (v10>0)) then (bif ((decide (0<=(wrap .i64 (v10 - 1))/\(wrap .i64 (v10 - 1))<(l0.length:Int)))&&true) then (bif (decide ((rd l0 (Int.toNat (wrap .i64 (v10 - 1)))).b >=c.a)) then (.ret [(.int .i64 8)]) else (.to (.h0 (wrap .i64 (v10+1))))) else .stuck) else (.to (.h0 (wrap .i64 (v10+1)))))) else (.ret [(.int .i64 8)])) else (.ret [(.int .i64 8)])) else .stuck) else (.ret [(.int .i64 0)]))
def YP (l0:zq):Yr H8:=(bif (decide ((l0.length:Int)>400)) then (.ret [(.int .i64 4)]) else (.to (.h0 0)))
theorem w7x (l0:zq): ∀s,Xx prog (Zy prog 149) (Ns l0) (Ns l0 s) (Ix l0 s)
 | .h0 v10=>(lb (fun k0=>(lo fun aL=>let c:=ww aL (tt k0 nn);(lb (fun k1=>let a:=tt k1 c;(lb (fun k2=>(lb (fun k3=>(lr 34 149 (pn 19659) 1 5 [(2,(ii 8))] (sl FK 25 [] (a7 [2]) a6 (CK 12 []) (tt k3 (tt k2 a))))) (fun k3=>let d:=tt k3 (tt k2 a);(lb (fun k4=>(lo fun cD=>let b:=ww cD (tt k4 d);(lb (fun k5=>(lr 34 149 (pn 19659) 1 5 [(2,(ii 8))] (sl FK 25 [] (a7 [2]) a6 (CK 7 (bl 14 12280)) (tt k5 b)))) (fun k5=>(sl FK 28 [] ⟨[],[],j1y,j1z⟩ a6 (CK 7 (bl 14 4088)) (tt k5 b)))))) (fun k4=>(sl FK 28 [] ⟨[],[],j1y,j1z⟩ a6 (CK 7 (bl 14 0)) (tt k4 d))))))) (fun k2=>(lr 34 149 (pn 19659) 1 5 [(2,(ii 8))] (sl FK 25 [] (a7 [2]) a6 (CK 4 (bl 8 248)) (tt k2 a)))))) (fun k1=>(lr 34 149 (pn 19659) 1 5 [(2,(ii 8))] (sl FK 25 [] (a7 [2]) a6 (bl 12 3969) (tt k1 c))))))) (fun k0=>(lr 34 3 (pn 767) 1 5 [(2,(ii 0))] (sl FK 11 [] (a7 [2]) a6 [false] (tt k0 nn)))))
theorem x8k (l0:zq):Xx prog (Zy prog 149) (Ns l0) (Zp prog 149 [(dt l0)] true []) (YP l0):=(lb (fun k0=>(lr 34 149 (pn 37) 1 5 [(2,(ii 4))] (sl FK 16 [] (a7 [2]) a6 [true] (tt k0 nn)))) (fun k0=>(sl FK 22 [] ⟨[],[],j1y,j1z⟩ a6 [false] (tt k0 nn))))
theorem v9j (l0:zq) (n:Nat) (vs:zy) (h:Yx (Ix l0) n (YP l0)=.ret vs):Vi prog (Zy prog 149) (Zp prog 149 [(dt l0)] true []) vs:=by have:=Zg (w7x l0) n _ (x8k l0);rwa [h] at this
inductive cuS where
def cuC (x0:Bool) (x1:Bool):cuS->CI
 :=nofun
def v7y (x0:Bool) (x1:Bool):cuS->Yr cuS
 :=nofun
def w3q (x0:Bool) (x1:Bool):Yr cuS:=(bif x0 then (.ret [(.bool true)]) else (.ret [(.bool x1)]))
theorem v7x (x0:Bool) (x1:Bool): ∀s,Xx prog (Zy prog 130) (cuC x0 x1) (cuC x0 x1 s) (v7y x0 x1 s)
 :=nofun
theorem v2b (x0:Bool) (x1:Bool):Xx prog (Zy prog 130) (cuC x0 x1) (Zp prog 130 [(.bool x0),(.bool x1)] true []) (w3q x0 x1):=(lb (fun k0=>(lr 9 3 (pn 767) 1 4 [(4,(.bool true))] (sl FK 12 [] (a7 [4]) a6 [true] (tt k0 nn)))) (fun k0=>(lr 9 3 (pn 767) 1 4 [(4,(.bool x1))] (sl FK 12 [] (a7 [4]) a6 [false] (tt k0 nn)))))
theorem j9v (x0:Bool) (x1:Bool) (n:Nat) (vs:zy) (h:Yx (v7y x0 x1) n (w3q x0 x1)=.ret vs):Vi prog (Zy prog 130) (Zp prog 130 [(.bool x0),(.bool x1)] true []) vs:=by have:=Zg (v7x x0 x1) n _ (v2b x0 x1);rwa [h] at this
def FN (l:zq) (i:Nat):Bool:=C5 (rd l i)&&(decide (i=0)||decide ((rd l (i - 1)).b <(rd l i).a))
def Dj (l:zq):Int:=bif decide (400<l.length) then 4 else bif (List.range l.length).all (FN l) then 0 else 8
def Sf (l:zq):Bool:=true
theorem u6m (l:zq) (hl:l.length<=400): ∀(k i:Nat),i+k=l.length->(∀j,j<i->FN l j=true)-> ∃n,Yx (Ix l) n (.to (.h0 (i:Int)))=.ret [.int .i64 (bif (List.range l.length).all (FN l) then 0 else 8)]
 | 0,i,h,ht=>by
  have hv:(List.range l.length).all (FN l)=true:=Au.2 fun j hj=>ht j (by grind);refine ⟨1,?_⟩
  grind [Zx,Ix,Zd]
 | k +1,i,h,ht=>by
  have hi:i<l.length:=by omega
  have hlt:decide ((i:Int)<(l.length:Int))=true:=Af (by omega);have hin:decide (0<=(i:Int)/\(i:Int)<(l.length:Int))=true:=Af (by omega);have step:Ix l (.h0 (i:Int))=bif FN l i then .to (.h0 ((i+1:Nat):Int)) else .ret [.int .i64 8]:=by
   unfold FN C5;by_cases hi0:i=0
   .simp_all [Ix,Zk,Sr]
   .have g1:decide ((i:Int)>0)=true:=Af (by omega);have g2:wrap .i64 ((i:Int) - 1)=((i - 1:Nat):Int):=by rw [Zk (by omega)];omega
    have g3:decide (0<=((i - 1:Nat):Int)/\((i - 1:Nat):Int)<(l.length:Int))=true:=Af (by omega);have g4:decide ((rd l (i - 1)).b >=(rd l i).a)= !decide ((rd l (i - 1)).b <(rd l i).a):=by
     grind
    rw [An hi0];simp (disch:=omega) only [Ix,hlt,hin,g1,g2,g3,g4,Zk,Zu,Zj,Sr,Re,Bc,Ai,Ab,Aa]
  rcases Xz (FN l i) with q | q
  .obtain ⟨n,hn⟩:=u6m l hl k (i+1) (by omega) (fun j hj=>by
    grind)
   refine ⟨n+1,?_⟩
   grind [Zx]
  .have hv:(List.range l.length).all (FN l)=false:=A5.2 fun e=>by
    grind
   refine ⟨1,?_⟩
   grind [Zx,Zd]
theorem j1x (l:zq) (h:Sf l=true): ∃n,Yx (Ix l) n (YP l)=.ret [.int .i64 (Dj l)]:=by
 unfold YP Dj;by_cases h:400<l.length
 .refine ⟨0,?_⟩;rw [Af h,Ys (show (l.length:Int)>400 by omega)];rfl
 .obtain ⟨n,hn⟩:=u6m l (by omega) l.length 0 (Ah _) (fun j hj=>absurd hj (AD _))
  grind
inductive Op where
 | u
abbrev Op.k :Op->Nat
 | .u =>0
abbrev nC :Op->Nat
 | .u =>VE
abbrev nSp :Op->Nat
 | .u =>nSpU
abbrev nRg :Op->Nat
 | .u =>nRgU
abbrev nSl :Op->Nat
 | .u =>nSlU
def cV (q:Op) (a b:Bool):Bool:=Df q.k a b
theorem Q2 (a b:Bool): ∃N,Yx (v7y a b) N (w3q a b)=.ret [.bool (cV .u a b)]:=⟨0,by cases a <;> cases b <;> rfl⟩
theorem x1w (l:zq):Dj l=0↔l.length<=400/\l.all C5=true/\Cy l:=by
 unfold Dj;constructor
 .intro h;by_cases h1:400<l.length
  .grind
  .rw [An h1,Aa] at h;cases hq:(List.range l.length).all (FN l) with
   | false=>grind
   | true=>
    have hq:=fun i hi=>Au.1 hq i (AP.2 hi);have hv: ∀i,i<l.length->C5 (rd l i)=true:=fun i hi=>by
     grind [FN]
    have hp: ∀i,i<l.length->(rd l i).a <(rd l i).b :=fun i hi=>by
     grind [C5]
    have hs: ∀i,i+1<l.length->(rd l i).b <(rd l (i+1)).a :=fun i hi=>by
     grind [FN]
    refine ⟨by omega,Au.2 fun s hs=> ?_,⟨fun s hs=> ?_,?_⟩⟩
    .obtain ⟨i,hi,rfl⟩:=AQ hs;rw [<-Xm hi];exact hv i hi
    .obtain ⟨i,hi,rfl⟩:=AQ hs;rw [<-Xm hi];exact hp i hi
    .refine Bn.2 fun i j hi hj hij=> ?_;rw [<-Xm hi,<-Xm hj];clear hi
     induction j with
     | zero=>omega
     | succ j ih=>
      grind
 .rintro ⟨h1,h2,h3⟩;rw [An (by omega),Aa];have:(List.range l.length).all (FN l)=true:=Au.2 fun i hi=>by
   have hi:=AP.1 hi;unfold FN;rw [Au.1 h2 (rd l i) (by grind [Xm]),Ak,BD];by_cases h0:i=0
   .grind
   .refine .inr (Af ?_);have:=Bn.1 h3.sep (i - 1) i (by omega) hi (by omega);rwa [<-Xm,<-Xm] at this
  grind
def Pk :zy->Option (B9×Bool)
 | [a0]=>match CY R2 a0 with
  | some (L0,g0,n0)=>some (.int .i64 (Dj L0),CX R2 n0 g0&&(Sf L0))
  | _=>none
 | _=>none
theorem j7f {S:CB} (hS:Zw prog S):Zw prog (S.with w5u Pk):=by
 refine Kv hS (by kernel_rfl) fun args v h=> ?_;unfold Pk at h;split at h
 .rename_i a0;split at h
  .rename_i L0 g0 n0 e0;simp only [Ad,Ae,Ac] at h;obtain ⟨rfl,ho0,hw⟩:=h;obtain ⟨N,hN⟩:=j1x L0 hw;exact ⟨_,_,(.cons (Yi e0 ho0) .nil),rfl,v9j L0 N _ hN,3,rfl⟩
  .cases h
 .cases h
def fCu :zy->Option (B9×Bool)
 | [.bool b0,.bool b1]=>some (.bool (cV .u b0 b1),true)
 | _=>none
theorem QT {S:CB} (hS:Zw prog S):Zw prog (S.with (nC .u) fCu):=by
 refine Kv hS (by kernel_rfl) fun args v h=> ?_;unfold fCu at h;split at h
 .rename_i b0 b1;simp only [Ad,Ae,and_true] at h;subst h;obtain ⟨N,hN⟩:=Q2 b0 b1;exact ⟨_,_,(.cons (.refl _) (.cons (.refl _) .nil)),rfl,j9v b0 b1 N _ hN,3,rfl⟩
 .cases h
def Ua :CB:=((T9.with w5u Pk).with (nC .u) fCu)
theorem Dh :Zw prog Ua:=(QT (j7f FK))
inductive H7 where
 | h0 (v3:zo) (v17:Int)
 | h1 (v3:zo) (v17:Int)
 | h2 (v5:zo) (v6:Int) (v7:Int) (aB:Int) (bJ:Int) (bB:Int) (aH:Bool) (aE:zq)
def GP (q:Op) (l0:zq) (l1:zq):H7->CI
 | .h0 v3 v17=>⟨⟨38,0,true⟩,none,(Zq prog 172 (pn 19659) 0),none,(Zy prog 5),⟨Zs [(3,(.sla 7 3 0 v3.length (.un 3))),(4,(ii 0)),(8,(.sl 0 0 2 (.un 1))),(9,(ii 2)),(10,(ii 0)),(15,(dt l0)),(16,(ii (l0.length:Int))),(17,(ii v17))],Xe [⟨[(dt l0),(dt l1)],173,none⟩,⟨[(.fn 130 [])],194,none⟩,⟨[(ii 0),(ii 0)],232,none⟩,⟨[.nils],173,none⟩,⟨[(ii 0)],3,none⟩,⟨[(.bool false)],4,none⟩,⟨[(.fn 171 [(.ptr 5 0),(.ptr 4 0),(.ptr 3 0)])],118,none⟩,(rz v3 236 3)] 0,8,[],true⟩,[⟨⟨42,0,true⟩,(Wr prog 150 (pn 159) 3),(Zq prog 150 (pn 159) 1),none,(Zy prog 3),Zs [(5,(.ptr 1 0)),(6,.nils),(7,(.ptr 2 0)),(8,(.ptr 3 0)),(9,(.ptr 4 0)),(10,(.ptr 5 0)),(11,(.ptr 6 0)),(16,(.sl 0 0 2 (.un 1)))]⟩,⟨⟨29,0,true⟩,(Wr prog 129 (pn 23) 3),(Zq prog 129 (pn 23) 1),none,(Zy prog 39),Zs [(21,(dt l0)),(22,(dt l1)),(23,(.fn 130 []))]⟩,⟨⟨11,0,true⟩,(Wr prog 96 [1,0] 2),(Zq prog 96 [1,0] 1),none,(Zy prog 6),Zs [(6,(dt l0)),(7,(dt l1))]⟩],.leaf⟩
 | .h1 v3 v17=>⟨⟨38,0,true⟩,none,(Zq prog 172 (pn 19659) 0),none,(Zy prog 5),⟨Zs [(3,(.sla 7 3 0 v3.length (.un 3))),(4,(ii 1)),(8,(.sl 0 0 2 (.un 1))),(9,(ii 2)),(10,(ii 1)),(15,(dt l1)),(16,(ii (l1.length:Int))),(17,(ii v17))],Xe [⟨[(dt l0),(dt l1)],173,none⟩,⟨[(.fn 130 [])],194,none⟩,⟨[(ii 0),(ii 0)],232,none⟩,⟨[.nils],173,none⟩,⟨[(ii 0)],3,none⟩,⟨[(.bool false)],4,none⟩,⟨[(.fn 171 [(.ptr 5 0),(.ptr 4 0),(.ptr 3 0)])],118,none⟩,(rz v3 236 3)] 0,8,[],true⟩,[⟨⟨42,0,true⟩,(Wr prog 150 (pn 159) 3),(Zq prog 150 (pn 159) 1),none,(Zy prog 3),Zs [(5,(.ptr 1 0)),(6,.nils),(7,(.ptr 2 0)),(8,(.ptr 3 0)),(9,(.ptr 4 0)),(10,(.ptr 5 0)),(11,(.ptr 6 0)),(16,(.sl 0 0 2 (.un 1)))]⟩,⟨⟨29,0,true⟩,(Wr prog 129 (pn 23) 3),(Zq prog 129 (pn 23) 1),none,(Zy prog 39),Zs [(21,(dt l0)),(22,(dt l1)),(23,(.fn 130 []))]⟩,⟨⟨11,0,true⟩,(Wr prog 96 [1,0] 2),(Zq prog 96 [1,0] 1),none,(Zy prog 6),Zs [(6,(dt l0)),(7,(dt l1))]⟩],.leaf⟩
 | .h2 v5 v6 v7 aB bJ bB aH aE=>⟨⟨16,0,true⟩,none,(Zq prog 186 [1,0,0] 0),none,[],⟨Zs [(0,(.yld 0)),(5,(.sla 7 3 0 v5.length (.un 3))),(6,(ii v6)),(7,(ii v7))],Cj [(1,⟨[(.fn 130 [])],194,none⟩),(2,⟨[(ii aB),(ii bJ)],232,none⟩),(3,⟨[(ii bB)],3,none⟩),(4,⟨[(.bool aH)],4,none⟩),(5,⟨[(.fn 171 [(.ptr 4 0),(.ptr 3 0),(.ptr 6 0)])],118,none⟩),(6,⟨[(.sla 8 2 0 aE.length (.un 2))],173,none⟩),(7,(rz v5 236 3)),(8,(rz aE 180 2))],9,[],true⟩,[⟨⟨42,0,true⟩,none,(.inRangeFunc 0::(Zq prog 150 (pn 351) 1)),none,(Zy prog 3),Zs [(6,.nils),(8,(.ptr 6 0))]⟩,⟨⟨29,0,true⟩,(Wr prog 129 (pn 23) 3),(Zq prog 129 (pn 23) 1),none,(Zy prog 39),Zs [(21,(dt l0)),(22,(dt l1)),(23,(.fn 130 []))]⟩,⟨⟨11,0,true⟩,(Wr prog 96 [1,0] 2),(Zq prog 96 [1,0] 1),none,(Zy prog 6),Zs [(6,(dt l0)),(7,(dt l1))]⟩],(Co [(0,⟨.ready,none,42,Zs [(5,(.ptr 1 0)),(7,(.ptr 2 0)),(9,(.ptr 3 0)),(10,(.ptr 4 0)),(11,(.ptr 5 0))],[18],(Wx prog 150 [1,1,1,1,1,0,1,0,0]),(Wx prog 150 [1,1,1,1,1,0,1,0,1])⟩)])⟩
def J9 :List (Option zr):=[some [3,4,8,9,10,15,16,17],some [5,6,7,8,9,10,11,16],some [21,22,23],some [6,7]]
def KA :List (Option zr):=[]
def J8 :List (Option zr):=[some [3,4,8,9,10,15,16,17],some [5,6,7,8,9,10,11,16],some [21,22,23],some [6,7]]
def Jl :List (Option zr):=[]
def GJ :List (Option zr):=[some [0,5,6,7],some [6,8],some [21,22,23],some [6,7]]
def GI :List (Option zr):=[some [5,7,9,10,11],none,none,none,none,none,none,none,none]
def Vx (q:Op) (l0:zq) (l1:zq):H7->Yr H7
 | .h0 v3 v17=>let c:=rd l0 v17.toNat;(bif (decide (v17<(l0.length:Int))) then (bif ((decide (0<=v17/\v17<(l0.length:Int)))&&true) then (bif (Nat.beq 3 3&&((decide (0+v3.length=v3.length))&&decide ((v3.length+2+1)*(24+1)<=Jm))) then (.to (.h0 (v3++[(R3.mk c.a 0 1),(R3.mk c.b 0 (-1))]) (wrap .i64 (v17+1)))) else .stuck) else .stuck) else (.to (.h1 v3 0)))
 | .h1 v3 v17=>let c:=rd l1 v17.toNat;(bif (decide (v17<(l1.length:Int))) then (bif ((decide (0<=v17/\v17<(l1.length:Int)))&&true) then (bif (Nat.beq 3 3&&((decide (0+v3.length=v3.length))&&decide ((v3.length+2+1)*(24+1)<=Jm))) then (.to (.h1 (v3++[(R3.mk c.a 1 1),(R3.mk c.b 1 (-1))]) (wrap .i64 (v17+1)))) else .stuck) else .stuck) else (bif (DN (CA v3)) then (bif (decide (v3.length<4611686018427387904)) then (bif (decide (v3.length=v3.length)) then (.to (.h2 (Ch (CA v3)) (v3.length:Int) 0 0 0 0 false ([]:zq))) else .stuck) else .stuck) else .stuck))
 | .h2 v5 v6 v7 aB bJ bB aH aE=>let d:=rd v5 (0+v7.toNat);(bif (decide (v7<v6)) then (bif ((decide (0<=v7/\v7<(v5.length:Int)))&&true) then (bif (decide ((0+v7.toNat)<v5.length)) then (bif (!aH) then (bif (decide (d.b =Int.ofNat 0)) then (.to (.h2 v5 v6 (wrap .i64 (v7+1)) (wrap .i64 (aB+d.c)) bJ d.a ((cV q) (decide ((wrap .i64 (aB+d.c))>0)) (decide (bJ>0))) aE)) else (bif (decide (d.b =Int.ofNat 1)) then (.to (.h2 v5 v6 (wrap .i64 (v7+1)) aB (wrap .i64 (bJ+d.c)) d.a ((cV q) (decide (aB>0)) (decide ((wrap .i64 (bJ+d.c))>0))) aE)) else .stuck)) else (bif (bB == d.a) then (bif (decide (d.b =Int.ofNat 0)) then (.to (.h2 v5 v6 (wrap .i64 (v7+1)) (wrap .i64 (aB+d.c)) bJ d.a ((cV q) (decide ((wrap .i64 (aB+d.c))>0)) (decide (bJ>0))) aE)) else (bif (decide (d.b =Int.ofNat 1)) then (.to (.h2 v5 v6 (wrap .i64 (v7+1)) aB (wrap .i64 (bJ+d.c)) d.a ((cV q) (decide (aB>0)) (decide ((wrap .i64 (bJ+d.c))>0))) aE)) else .stuck)) else (bif (decide ((aE.length:Int)>0)) then (bif ((decide (0<=(wrap .i64 ((aE.length:Int) - 1))/\(wrap .i64 ((aE.length:Int) - 1))<(aE.length:Int)))&&true) then (bif (decide ((0+(Int.toNat (wrap .i64 ((aE.length:Int) - 1))))<aE.length)) then (bif ((rd aE (0+(Int.toNat (wrap .i64 ((aE.length:Int) - 1))))).b == bB) then (bif (decide (d.b =Int.ofNat 0)) then (.to (.h2 v5 v6 (wrap .i64 (v7+1)) (wrap .i64 (aB+d.c)) bJ d.a ((cV q) (decide ((wrap .i64 (aB+d.c))>0)) (decide (bJ>0))) (aE.set (0+(Int.toNat (wrap .i64 ((aE.length:Int) - 1)))) (R2.mk (rd aE (0+(Int.toNat (wrap .i64 ((aE.length:Int) - 1))))).a d.a)))) else (bif (decide (d.b =Int.ofNat 1)) then (.to (.h2 v5 v6 (wrap .i64 (v7+1)) aB (wrap .i64 (bJ+d.c)) d.a ((cV q) (decide (aB>0)) (decide ((wrap .i64 (bJ+d.c))>0))) (aE.set (0+(Int.toNat (wrap .i64 ((aE.length:Int) - 1)))) (R2.mk (rd aE (0+(Int.toNat (wrap .i64 ((aE.length:Int) - 1))))).a d.a)))) else .stuck)) else (bif (Nat.beq 2 2&&((decide (0+aE.length=aE.length))&&decide ((aE.length+1+1)*(16+1)<=Jm))) then (bif (decide (d.b =Int.ofNat 0)) then (.to (.h2 v5 v6 (wrap .i64 (v7+1)) (wrap .i64 (aB+d.c)) bJ d.a ((cV q) (decide ((wrap .i64 (aB+d.c))>0)) (decide (bJ>0))) (aE++[(R2.mk bB d.a)]))) else (bif (decide (d.b =Int.ofNat 1)) then (.to (.h2 v5 v6 (wrap .i64 (v7+1)) aB (wrap .i64 (bJ+d.c)) d.a ((cV q) (decide (aB>0)) (decide ((wrap .i64 (bJ+d.c))>0))) (aE++[(R2.mk bB d.a)]))) else .stuck)) else .stuck)) else .stuck) else .stuck) else (bif (Nat.beq 2 2&&((decide (0+aE.length=aE.length))&&decide ((aE.length+1+1)*(16+1)<=Jm))) then (bif (decide (d.b =Int.ofNat 0)) then (.to (.h2 v5 v6 (wrap .i64 (v7+1)) (wrap .i64 (aB+d.c)) bJ d.a ((cV q) (decide ((wrap .i64 (aB+d.c))>0)) (decide (bJ>0))) (aE++[(R2.mk bB d.a)]))) else (bif (decide (d.b =Int.ofNat 1)) then (.to (.h2 v5 v6 (wrap .i64 (v7+1)) aB (wrap .i64 (bJ+d.c)) d.a ((cV q) (decide (aB>0)) (decide ((wrap .i64 (bJ+d.c))>0))) (aE++[(R2.mk bB d.a)]))) else .stuck)) else .stuck)))) else .stuck) else .stuck) else (bif (decide ((aE.length:Int)>400)) then (.ret [.nils,(.int .i64 4)]) else (.ret [(dt aE),(.int .i64 0)])))
def YQ (q:Op) (l0:zq) (l1:zq):Yr H7:=(bif (Sf (CA l0)) then (bif ((Dj (CA l0)) != 0) then (.ret [.nils,(.int .i64 (Dj (CA l0)))]) else (bif (Sf (CA l1)) then (bif ((Dj (CA l1)) != 0) then (.ret [.nils,(.int .i64 (Dj (CA l1)))]) else (.to (.h0 ([]:zo) 0))) else .stuck)) else .stuck)
theorem w7w (q:Op) (l0:zq) (l1:zq): ∀s,Xx prog (Zy prog 96) (GP q l0 l1) (GP q l0 l1 s) (Vx q l0 l1 s):=by cases q <;> refine (?f: ∀q:Op,∀s,Xx prog (Zy prog 96) (GP q l0 l1) (GP q l0 l1 s) (Vx q l0 l1 s)) _ <;> exact fun q=>fun
 | .h0 v3 v17=>(lb (fun k0=>(lo fun o0=>(lo fun o1=>let f:=rd l0 (tn v17);let e:=f;let c:=v3++[(R3.mk e.a 0 1),(R3.mk e.b 0 (-1))];let h:=v3++[(R3.mk f.a 0 1),(R3.mk f.b 0 (-1))];let i:=v3.length+2;let d:=xL i h.length;let g:=Zf (Zz v3) 0 v3.length 3 [(ii f.a),(ii 0),(ii 1),(ii f.b),(ii 0),(ii (-1))];(sl Dh 36 [] ⟨[0,1,2,3,4,5,6,10],[],J9,KA⟩ ⟨[(3,.len c.length)],(DG 7 [.rowed 3 c.length (Zz c)]),[]⟩ [true] (pp d (pp d (pp (xS i g (Zz h)) (pp (pp (xF g) nn) (ww o1 (ww o0 (tt k0 nn))))))))))) (fun k0=>(sl Dh 38 [] ⟨(List.range 8),[],J8,Jl⟩ a6 (bl 2 2) (pp (fl v3 nn) (tt k0 nn)))))
 | .h1 v3 v17=>(lb (fun k0=>(lo fun o0=>(lo fun o1=>let h:=rd l1 (tn v17);let c:=v3++[(R3.mk h.a 1 1),(R3.mk h.b 1 (-1))];let d:=xL (v3.length+2) (v3++[(R3.mk (rd l1 (tn v17)).a 1 1),(R3.mk (rd l1 (tn v17)).b 1 (-1))]).length;(sl Dh 36 [] ⟨[0,1,2,3,4,5,6,10],[],J8,Jl⟩ ⟨[(3,.len c.length)],(DG 7 [.rowed 3 c.length (Zz c)]),[]⟩ [true] (pp d (pp d (pp (xS (v3.length+2) (Zf (Zz v3) 0 v3.length 3 [(ii (rd l1 (tn v17)).a),(ii 1),(ii 1),(ii (rd l1 (tn v17)).b),(ii 1),(ii (-1))]) (Zz (v3++[(R3.mk (rd l1 (tn v17)).a 1 1),(R3.mk (rd l1 (tn v17)).b 1 (-1))]))) (pp (pp (xF (Zf (Zz v3) 0 v3.length 3 [(ii (rd l1 (tn v17)).a),(ii 1),(ii 1),(ii (rd l1 (tn v17)).b),(ii 1),(ii (-1))])) nn) (ww o1 (ww o0 (tt k0 nn))))))))))) (fun k0=>(lo fun o0=>(lo fun o1=>(lo fun o2=>let e:=xL v3.length (Ch (CA v3)).length (by first | exact y0l _ | exact Us rfl);let f:=Ch (CA v3);let g:=xG (Nat.beq 3 3);(sl Dh 54 [(180,2,Zz ([]:zq))] ⟨[9,1,2,4,5,6,3,7,10],[],GJ,GI⟩ ⟨[(5,.len f.length)],(DG 6 [.cells [.grow 8 2],.rowed 3 f.length (Zz f),.keep]),[]⟩ (bl 2 0) (pp e (pp e (pp (xS v3.length (Zz (Ch (CA v3))) (Zz (Ch (CA v3)))) (pp (fl f (fl ([]:zq) nn)) (pp (pp g (pp g (pp (xG (Nat.beq 0 0)) (pp (pp (xG (decide (v3.length=v3.length))) (pp (xr v3) (xG (decide (v3.length<4611686018427387904))))) (xG (DN (CA v3))))))) (tt k0 nn))))))))))))
 | .h2 v5 v6 v7 aB bJ bB aH aE=>(lb (fun k0=>(lo fun aL=>(lo fun aT=>let o:=List.range 9;let p:=fl v5 (fl aE nn);let q:=ww aT (ww aL (tt k0 nn));(lb (fun k1=>(lb (fun k2=>(sl Dh 62 [] ⟨o,[],GJ,GI⟩ a6 (CK 5 (bl 3 0)) (pp p (ww k2 (tt k1 q))))) (fun k2=>(lb (fun k3=>(sl Dh 62 [] ⟨o,[],GJ,GI⟩ a6 (CK 6 (bl 4 2)) (pp p (ww k3 (tt k1 q))))) (fun k3=>trivial))))) (fun k1=>let d:=tt k1 q;(lb (fun k2=>(lb (fun k3=>(sl Dh 62 [] ⟨o,[],GJ,GI⟩ a6 (bl 8 17) (pp p (ww k3 (tt k2 d))))) (fun k3=>(lb (fun k4=>(sl Dh 62 [] ⟨o,[],GJ,GI⟩ a6 (bl 10 177) (pp p (ww k4 (tt k2 d))))) (fun k4=>trivial))))) (fun k2=>let D:=rd v5 (0+(tn v7));let u:=D;let h:=aE++[(R2.mk bB u.a)];let c:=DG 6 [.cells [.len h.length],.keep,.rowed 2 h.length (Zz h)];let w:=Zf (Zz aE) 0 aE.length 2 [(ii bB),(ii D.a)];let z:=aE++[(R2.mk bB D.a)];let C:=aE.length+1;(lb (fun k3=>(lo fun bT=>(lo fun cN=>let g:=ww cN (ww bT (tt k3 (tt k2 d)));(lb (fun k4=>let B:=tn (wr ((aE.length:Int) - 1));let r:=B;let b:=aE.set (0+r) (R2.mk (rd aE (0+r)).a u.a);let n:=DG 6 [.cells [.len b.length],.keep,.rowed 2 b.length (Zz b)];let s:=ww cN (ww bT (tt k4 g));let y:=aE.set (0+B) (R2.mk (rd aE (0+B)).a D.a);let A:=Xi (Zz aE) (0+B) 1 [(ii D.a)];(lb (fun k5=>let f:=xL aE.length y.length;(sl Dh 81 [] ⟨o,[],GJ,GI⟩ ⟨[],n,[]⟩ (bl 17 16353) (pp f (pp f (pp (xS aE.length A (Zz y)) (pp (fl v5 (pp (xF A) nn)) (ww k5 s))))))) (fun k5=>(lb (fun k6=>let e:=xL aE.length y.length;(sl Dh 81 [] ⟨o,[],GJ,GI⟩ ⟨[],n,[]⟩ (bl 19 98273) (pp e (pp e (pp (xS aE.length A (Zz y)) (pp (fl v5 (pp (xF A) nn)) (ww k6 s))))))) (fun k6=>trivial))))) (fun k4=>(lo fun cD=>let v:=ww cD (tt k4 g);(lb (fun k5=>let i:=xL C z.length;(sl Dh 81 [] ⟨[0,1,2,3,4,5,6,7,12],[],GJ,GI⟩ ⟨[],c,[]⟩ (bl 17 8161) (pp i (pp i (pp (xS C w (Zz z)) (pp (fl v5 (pp (xF w) nn)) (ww k5 v))))))) (fun k5=>(lb (fun k6=>let m:=xL C z.length;(sl Dh 81 [] ⟨[0,1,2,3,4,5,6,7,12],[],GJ,GI⟩ ⟨[],c,[]⟩ (bl 19 90081) (pp m (pp m (pp (xS C w (Zz z)) (pp (fl v5 (pp (xF w) nn)) (ww k6 v))))))) (fun k6=>trivial)))))))))) (fun k3=>(lo fun bT=>let t:=ww bT (tt k3 (tt k2 d));(lb (fun k4=>let j:=xL C z.length;(sl Dh 81 [] ⟨[0,1,2,3,4,5,6,7,12],[],GJ,GI⟩ ⟨[],c,[]⟩ (bl 17 1) (pp j (pp j (pp (xS C w (Zz z)) (pp (fl v5 (pp (xF w) nn)) (ww k4 t))))))) (fun k4=>(lb (fun k5=>let l:=xL C z.length;(sl Dh 81 [] ⟨[0,1,2,3,4,5,6,7,12],[],GJ,GI⟩ ⟨[],c,[]⟩ (bl 19 81921) (pp l (pp l (pp (xS C w (Zz z)) (pp (fl v5 (pp (xF w) nn)) (ww k5 t))))))) (fun k5=>trivial)))))))))))))) (fun k0=>(lb (fun k1=>(lr 11 3 (pn 767) 1 6 [(4,.nils),(5,(ii 4))] (sl Dh 37 [] (a7 [4,5]) a6 (bl 2 2) (tt k1 (tt k0 nn))))) (fun k1=>(lr 11 3 (pn 767) 1 6 [(4,(dt aE)),(5,(ii 0))] (sl Dh 39 [] ⟨[],[8],[some [4,5]],[]⟩ ⟨[(4,.frz aE.length aE.length (Zz aE) (Zz aE))],[],[]⟩ (bl 2 0) (pp (xZ (Cv 2 2 0 aE.length aE.length (Zz aE)) aE.length (Zz aE)) (pp (xL aE.length aE.length) (pp (xS aE.length (Zz aE) (Zz aE)) (pp (fl aE nn) (tt k1 (tt k0 nn))))))))))))
theorem x8j (q:Op) (l0:zq) (l1:zq):Xx prog (Zy prog 96) (GP q l0 l1) (Zp prog 96 [(dt l0),(dt l1)] true []) (YQ q l0 l1):=by cases q <;> exact (lo fun bG=>(lb (fun k0=>(lr 11 3 (pn 767) 1 6 [(4,.nils),(5,(ii (Dj (CA l0))))] (sl Dh 40 [] (a7 [4,5]) a6 [true] (tt k0 (pp (pp (xr l0) (xw bG)) nn))))) (fun k0=>(lo fun aL=>(lb (fun k1=>(lr 11 3 (pn 767) 1 6 [(4,.nils),(5,(ii (Dj (CA l1))))] (sl Dh 54 [] (a7 [4,5]) a6 (bl 2 2) (tt k1 (pp (pp (xr l1) (xw aL)) (tt k0 (pp (pp (xr l0) (xw bG)) nn))))))) (fun k1=>(sl Dh 124 [(236,3,Zz ([]:zo))] ⟨[6,0,1,2,3,4,5,7],[],J9,KA⟩ ⟨[(3,.grow 7 3)],[],[]⟩ (bl 3 4) (pp (fl ([]:zo) nn) (tt k1 (pp (pp (xr l1) (xw aL)) (tt k0 (pp (pp (xr l0) (xw bG)) nn))))))))))))
theorem v9i (q:Op) (l0:zq) (l1:zq) (n:Nat) (vs:zy) (h:Yx (Vx q l0 l1) n (YQ q l0 l1)=.ret vs):Vi prog (Zy prog 96) (Zp prog 96 [(dt l0),(dt l1)] true []) vs:=by have:=Zg (w7w q l0 l1) n _ (x8j q l0 l1);rwa [h] at this
end Go.Am
end
