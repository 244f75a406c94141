/- A part of a proof: several texts in one. -/
import Derived.Test.YtijpnpkolglajaaGreatKj3
set_option maxRecDepth 1000000
set_option maxHeartbeats 8000000
set_option linter.unusedVariables false
set_option linter.unusedSimpArgs false
noncomputable section
namespace Go.Am
open Go.Proofs.Tryz
open Go.Proofs
inductive nr39S where
 | h0 (v3:Int)
def u7y (l0:List R6):nr39S→Cfg
 | .h0 v3=>⟨⟨103,0,true⟩,none,(Zb prog 15 [1,1,0,1,0,0] 0),none,(Zy prog 15),⟨Yq [(0,(.dat l0.length (Zz l0))),(3,(ii v3))],Uv [] 0,0,[],true⟩,[],.leaf⟩
def u2e :List (Option (List Nat)):=[some [0,3]]
def u2f :List (Option (List Nat)):=[]
def z4u (l0:List R6):nr39S→Xe nr39S
 | .h0 v3=>(bif (decide (v3<(l0.length:Int))) then (bif ((decide (0≤v3∧v3<(l0.length:Int)))&&true) then (bif (decide ((Ju (Ju (rd l0 v3.toNat).a (rd l0 v3.toNat).b) (rd l0 v3.toNat).c)<(-12))) then (.ret [(.bool false)]) else (bif (decide ((Wf (Wf (rd l0 v3.toNat).d (rd l0 v3.toNat).e) (rd l0 v3.toNat).f)>12)) then (.ret [(.bool false)]) else (bif (decide ((Ju (Ju (rd l0 v3.toNat).d (rd l0 v3.toNat).e) (rd l0 v3.toNat).f)<(-12))) then (.ret [(.bool false)]) else (bif (decide ((Wf (Wf (rd l0 v3.toNat).a (rd l0 v3.toNat).b) (rd l0 v3.toNat).c)>12)) then (.ret [(.bool false)]) else (.to (.h0 (IntKind.wrap .i64 (v3+1)))))))) else .stuck) else (.ret [(.bool (decide ((l0.length:Int)≤6)))]))
def z7m (l0:List R6):Xe nr39S:=(bif (decide ((l0.length:Int)>400)) then (.ret [(.bool (decide ((l0.length:Int)≤420)))]) else (.to (.h0 0)))
theorem x6w (l0:List R6): ∀s,Xr prog (Zy prog 15) (u7y l0) (u7y l0 s) (z4u l0 s)
 | .h0 v3=>(lb (fun k0=>(lo fun aJ=>(lb (fun k1=>(lr 103 15 [1,1,0,1,0,0,1,0,0,0,1,0,0] 1 15 [(2,(.bool false))] (sl x1q 20 [] ⟨[],[],[some [2]],[]⟩ ⟨[],[],[]⟩ (trs 22 []) (tt k1 (ww aJ (ww aJ (ww aJ (tt k0 nn)))))))) (fun k1=>(lb (fun k2=>(lr 103 15 [1,1,0,1,0,0,1,0,0,0,1,0,0] 1 15 [(2,(.bool false))] (sl x1q 20 [] ⟨[],[],[some [2]],[]⟩ ⟨[],[],[]⟩ (bl 22 2097153) (tt k2 (ww aJ (ww aJ (ww aJ (tt k1 (ww aJ (ww aJ (ww aJ (tt k0 nn)))))))))))) (fun k2=>(lb (fun k3=>(lr 103 15 [1,1,0,1,0,0,1,0,0,1,1,0,0] 1 15 [(2,(.bool false))] (sl x1q 24 [] ⟨[],[],[some [2]],[]⟩ ⟨[],[],[]⟩ (bl 43 8796088827905) (tt k3 (ww aJ (ww aJ (ww aJ (tt k2 (ww aJ (ww aJ (ww aJ (tt k1 (ww aJ (ww aJ (ww aJ (tt k0 nn)))))))))))))))) (fun k3=>(lb (fun k4=>(lr 103 15 [1,1,0,1,0,0,1,0,0,1,1,0,0] 1 15 [(2,(.bool false))] (sl x1q 24 [] ⟨[],[],[some [2]],[]⟩ ⟨[],[],[]⟩ (bl 43 4398046511105) (tt k4 (ww aJ (ww aJ (ww aJ (tt k3 (ww aJ (ww aJ (ww aJ (tt k2 (ww aJ (ww aJ (ww aJ (tt k1 (ww aJ (ww aJ (ww aJ (tt k0 nn)))))))))))))))))))) (fun k4=>(sl x1q 28 [] ⟨[],[],u2e,u2f⟩ ⟨[],[],[]⟩ (bl 43 1) (tt k4 (ww aJ (ww aJ (ww aJ (tt k3 (ww aJ (ww aJ (ww aJ (tt k2 (ww aJ (ww aJ (ww aJ (tt k1 (ww aJ (ww aJ (ww aJ (tt k0 nn)))))))))))))))))))))))))))) (fun k0=>(lr 103 3 [1,1,1,1,1,1,0] 1 15 [(2,(.bool (decide ((l0.length:Int)≤6))))] (sl x1q 17 [] ⟨[],[],[some [2]],[]⟩ ⟨[],[],[]⟩ [false] (tt k0 nn)))))
theorem x2t (l0:List R6):Xr prog (Zy prog 15) (u7y l0) (Zi prog 15 [(.dat l0.length (Zz l0))] true []) (z7m l0):=(lb (fun k0=>(lr 103 15 [1,0,1,0,0] 1 15 [(2,(.bool (decide ((l0.length:Int)≤420))))] (sl x1q 19 [] ⟨[],[],[some [2]],[]⟩ ⟨[],[],[]⟩ [true] (tt k0 nn)))) (fun k0=>(sl x1q 20 [] ⟨[],[],u2e,u2f⟩ ⟨[],[],[]⟩ [false] (tt k0 nn))))
theorem w9q (l0:List R6) (n:Nat) (vs:List AVal) (h:Yj (z4u l0) n (z7m l0)=.ret vs):Kg prog (Zy prog 15) (Zi prog 15 [(.dat l0.length (Zz l0))] true []) vs:=by have:=Yw (x6w l0) n _ (x2t l0);rwa [h] at this
end Go.Am
namespace Go.Am
open Go.Proofs.Tryz
open Go.Proofs
def lpI (g:Int→Int→Int):Nat→Int→Int→Int
 | 0,_,d=>d
 | n+1,z,d=>lpI g n (z+1) (g z d)
def rgZ (L1:List R6) (r:R6) (x y d:Int):Int:=lpI (fun z d=>Wf d (w4l x y z L1)) (r.f - r.c).toNat r.c d
def rgY (L1:List R6) (r:R6) (x d:Int):Int:=lpI (fun y d=>rgZ L1 r x y d) (r.e - r.b).toNat r.b d
def rgX (L1:List R6) (r:R6) (d:Int):Int:=lpI (fun x d=>rgY L1 r x d) (r.d - r.a).toNat r.a d
def rrcF (L1:List R6):List R6→Int→Int
 | [],d=>d
 | r::l,d=>rrcF L1 l (rgX L1 r d)
def x2b (L0 L1:List R6):Int:=rrcF L1 L0 0
def v6b (r:R6):Bool:= !decide (Ju (Ju r.a r.b) r.c<(-12))&&(!decide (Wf (Wf r.d r.e) r.f>12)&&(!decide (Ju (Ju r.d r.e) r.f<(-12))&& !decide (Wf (Wf r.a r.b) r.c>12)))
def x6x (L:List R6):Bool:=bif decide ((L.length:Int)>400) then decide ((L.length:Int)≤420) else L.all v6b&&decide ((L.length:Int)≤6)
def z4v (L:List R6):Bool:=true
theorem w9p {L:List R6} (hl:L.length≤400): ∀(k i:Nat),i+k=L.length→ ∃N,Yj (z4u L) N (.to (.h0 (i:Int)))=.ret [.bool ((L.drop i).all v6b&&decide ((L.length:Int)≤6))]
 | 0,i,h=>by refine ⟨1,?_⟩;rw [Zw,List.drop_eq_nil_of_le (by omega)];simp (disch:=omega) only [z4u,Zo,cond_false];rfl
 | k+1,i,h=>by
  have hi:i<L.length:=by omega
  obtain ⟨N,hN⟩:=w9p hl k (i+1) (by omega);have hw:IntKind.wrap .i64 ((i:Int)+1)=((i+1:Nat):Int):=Zu (by omega);refine ⟨N+1,?_⟩;rw [Zw,Yc hi];simp (disch:=omega) only [z4u,Zd,Ze,hw,Zj,Bool.and_true,cond_true,List.all_cons];unfold v6b;cases decide (Ju (Ju (rd L i).a (rd L i).b) (rd L i).c <(-12)) <;> cases decide (Wf (Wf (rd L i).d (rd L i).e) (rd L i).f >12) <;> cases decide (Ju (Ju (rd L i).d (rd L i).e) (rd L i).f <(-12)) <;> cases decide (Wf (Wf (rd L i).a (rd L i).b) (rd L i).c >12) <;> first | exact Zg _ _ _ | exact hN
theorem v5w (L:List R6) (h:z4v L=true): ∃N,Yj (z4u L) N (z7m L)=.ret [.bool (x6x L)]:=by
 unfold z7m x6x;by_cases hl:L.length≤400
 ·obtain ⟨N,hN⟩:=w9p hl L.length 0 (Nat.zero_add _);refine ⟨N,?_⟩;rw [Ys (by omega),cond_false,cond_false];exact hN
 ·refine ⟨0,?_⟩;rw [Ye (by omega)];rfl
def u9v :List AVal→Option (AVal×Bool)
 | [a0]=>match asL R6 a0 with
  | some (L0,g0,n0)=>some (.bool (x6x L0),isT R6 n0 g0&&(z4v L0))
  | _=>none
 | _=>none
theorem v7p {S:Specs} (hS:Zq prog S):Zq prog (S.with w9z u9v):=by
 refine z3b hS (by kernel_rfl) fun args v h=> ?_;unfold u9v at h;split at h
 ·rename_i a0;split at h
  ·rename_i L0 g0 n0 e0;simp only [Option.some.injEq,Prod.mk.injEq,Bool.and_eq_true] at h;obtain ⟨rfl,ho0,hw⟩:=h;obtain ⟨N,hN⟩:=v5w L0 hw;exact ⟨_,_,(.cons (asL_le e0 ho0) .nil),rfl,w9q L0 N _ hN,3,rfl⟩
  ·cases h
 ·cases h
def Dc :Specs:=(Db.with w9z u9v)
theorem z8j :Zq prog Dc:=(v7p x1q)
end Go.Am
namespace Go.Am
open Go.Proofs Go.Sort Go.Shelf Go.RowKit Go.Lib
def pt (L:List R2) (y:Int):Prop:= ∃s∈L,s.a≤y∧y<s.b
structure Can (L:List R2):Prop where
 pos: ∀s∈L,s.a<s.b
 sep:L.Pairwise fun s t=>s.b<t.a
theorem Can.nil :Can []:=⟨by simp,.nil⟩
theorem Can.tail {s:R2} {L:List R2} (h:Can (s::L)):Can L:=⟨fun t ht=>h.pos t (List.mem_cons_of_mem _ ht),(List.pairwise_cons.1 h.sep).2⟩
theorem Can.head {s:R2} {L:List R2} (h:Can (s::L)): ∀t∈L,s.b<t.a:=(List.pairwise_cons.1 h.sep).1
theorem u4q {s:R2} {L:List R2} (h:Can (s::L)) {y:Int} (hy:pt (s::L) y):s.a≤y:=by
 obtain ⟨t,ht,h1,h2⟩:=hy;rcases List.mem_cons.1 ht with rfl | ht
 ·exact h1
 ·have:=h.head t ht;have:=h.pos s (by simp);omega
theorem v2e : ∀(L M:List R2),Can L→Can M→(∀y,pt L y↔pt M y)→L=M
 | [],[],_,_,_=>rfl
 | [],t::M,_,hM,h=>by have:=(h t.a).2 ⟨t,by simp,Int.le_refl _,hM.pos t (by simp)⟩;obtain ⟨s,hs,_⟩:=this;cases hs
 | s::L,[],hL,_,h=>by have:=(h s.a).1 ⟨s,by simp,Int.le_refl _,hL.pos s (by simp)⟩;obtain ⟨s,hs,_⟩:=this;cases hs
 | s::L,t::M,hL,hM,h=>by
  have p1:=hL.pos s (by simp);have p2:=hM.pos t (by simp);have a1:t.a≤s.a:=u4q hM ((h s.a).1 ⟨s,by simp,Int.le_refl _,p1⟩);have a2:s.a≤t.a:=u4q hL ((h t.a).2 ⟨t,by simp,Int.le_refl _,p2⟩);have b1: ¬s.b<t.b:=fun hb=>by
   obtain ⟨u,hu,h1,h2⟩:=(h s.b).2 ⟨t,by simp,by omega,hb⟩;rcases List.mem_cons.1 hu with rfl | hu
   ·omega
   ·have:=hL.head u hu;omega
  have b2: ¬t.b<s.b:=fun hb=>by
   obtain ⟨u,hu,h1,h2⟩:=(h t.b).1 ⟨s,by simp,by omega,hb⟩;rcases List.mem_cons.1 hu with rfl | hu
   ·omega
   ·have:=hM.head u hu;omega
  have e:s=t:=by
   obtain ⟨sa,sb⟩:=s;obtain ⟨ta,tb⟩:=t;simp only at a1 a2 b1 b2;have:sa=ta:=by omega
   have:sb=tb:=by omega
   subst_vars;rfl
  subst e
  congr 1
  refine v2e L M hL.tail hM.tail fun y=>⟨fun hy=> ?_,fun hy=> ?_⟩
  ·obtain ⟨u,hu,h1,h2⟩:=hy;have g:=hL.head u hu;obtain ⟨v,hv,h3,h4⟩:=(h y).1 ⟨u,by simp [hu],h1,h2⟩;rcases List.mem_cons.1 hv with rfl | hv
   ·omega
   ·exact ⟨v,hv,h3,h4⟩
  ·obtain ⟨u,hu,h1,h2⟩:=hy;have g:=hM.head u hu;obtain ⟨v,hv,h3,h4⟩:=(h y).2 ⟨u,by simp [hu],h1,h2⟩;rcases List.mem_cons.1 hv with rfl | hv
   ·omega
   ·exact ⟨v,hv,h3,h4⟩
def push (out:List R2) (x x':Int):List R2:=
 bif decide (0<out.length)&&((rd out (out.length - 1)).b == x) then out.set (out.length - 1) ⟨(rd out (out.length - 1)).a,x'⟩ else out++[⟨x,x'⟩]
theorem w9e (out:List R2) (s:R2) (x x':Int):push (out++[s]) x x'=bif s.b == x then out++[⟨s.a,x'⟩] else out++[s]++[⟨x,x'⟩]:=by
 have e:rd (out++[s]) ((out++[s]).length - 1)=s:=by rw [Ua (by simp)];simp [rd]
 unfold push;rw [e,decide_eq_true (by simp),Bool.true_and];cases (s.b == x)
 ·rfl
 ·simp
theorem w0m {out:List R2} {x x':Int} (hc:Can out) (hb: ∀s∈out,s.b≤x) (hx:x<x'):
  Can (push out x x')∧(∀s∈push out x x',s.b≤x')∧ ∀y,pt (push out x x') y↔pt out y∨(x≤y∧y<x'):=by
 rcases List.eq_nil_or_concat out with rfl | ⟨L,s,rfl⟩
 ·refine ⟨⟨?_,?_⟩,?_,fun y=> ?_⟩
  ·intro s hs;simp [push] at hs;subst hs;exact hx
  ·simp [push]
  ·intro s hs;simp [push] at hs;subst hs;exact Int.le_refl _
  ·simp [push,pt]
 ·rw [List.concat_eq_append] at*;rw [w9e];have hs:=hb s (by simp);have hp:=hc.pos s (by simp);have sep:=List.pairwise_append.1 hc.sep;rcases Yv (s.b == x) with q | q
  ·rw [q,cond_true];have q:s.b=x:=by simpa using q
   refine ⟨⟨?_,?_⟩,?_,fun y=> ?_⟩
   ·intro t ht;rcases List.mem_append.1 ht with ht | ht
    ·exact hc.pos t (by simp [ht])
    ·rw [List.mem_singleton.1 ht];show s.a<x';omega
   ·refine List.pairwise_append.2 ⟨sep.1,List.pairwise_singleton _ _,fun t ht u hu=> ?_⟩;rw [List.mem_singleton.1 hu];exact sep.2.2 t ht s (by simp)
   ·intro t ht;rcases List.mem_append.1 ht with ht | ht
    ·have:=hb t (by simp [ht]);omega
    ·rw [List.mem_singleton.1 ht];exact Int.le_refl _
   ·constructor
    ·rintro ⟨t,ht,h1,h2⟩;rcases List.mem_append.1 ht with ht | ht
     ·exact .inl ⟨t,by simp [ht],h1,h2⟩
     ·rw [List.mem_singleton.1 ht] at h1 h2;by_cases hy:y<s.b
      ·exact .inl ⟨s,by simp,h1,hy⟩
      ·exact .inr ⟨by omega,h2⟩
    ·rintro (⟨t,ht,h1,h2⟩ | ⟨h1,h2⟩)
     ·rcases List.mem_append.1 ht with ht | ht
      ·exact ⟨t,by simp [ht],h1,h2⟩
      ·rw [List.mem_singleton.1 ht] at h1 h2;exact ⟨⟨s.a,x'⟩,by simp,h1,by show y<x';omega⟩
     ·exact ⟨⟨s.a,x'⟩,by simp,by show s.a≤y;omega,h2⟩
  ·rw [q,cond_false];have q:s.b≠x:=by simpa using q
   refine ⟨⟨?_,?_⟩,?_,fun y=> ?_⟩
   ·intro t ht;rcases List.mem_append.1 ht with ht | ht
    ·exact hc.pos t ht
    ·rw [List.mem_singleton.1 ht];exact hx
   ·refine List.pairwise_append.2 ⟨hc.sep,List.pairwise_singleton _ _,fun t ht u hu=> ?_⟩;rw [List.mem_singleton.1 hu];show t.b<x;rcases List.mem_append.1 ht with h | h
    ·have h1:=sep.2.2 t h s (by simp);omega
    ·rw [List.mem_singleton.1 h];omega
   ·intro t ht;rcases List.mem_append.1 ht with ht | ht
    ·have:=hb t ht;omega
    ·rw [List.mem_singleton.1 ht];exact Int.le_refl _
   ·constructor
    ·rintro ⟨t,ht,h1,h2⟩;rcases List.mem_append.1 ht with ht | ht
     ·exact .inl ⟨t,ht,h1,h2⟩
     ·rw [List.mem_singleton.1 ht] at h1 h2;exact .inr ⟨h1,h2⟩
    ·rintro (⟨t,ht,h1,h2⟩ | ⟨h1,h2⟩)
     ·exact ⟨t,List.mem_append.2 (.inl ht),h1,h2⟩
     ·exact ⟨⟨x,x'⟩,by simp,h1,h2⟩
theorem z3a {l:List Int} (h:l.Pairwise (· < ·)) {i j:Nat} (hij:i<j) (hj:j<l.length):rd l i<rd l j:=by rw [Yt (by omega),Yt hj];exact List.pairwise_iff_getElem.1 h i j (by omega) hj hij
theorem y2o (cuts:List Int) (ins:List Bool) (hc:cuts.Pairwise (· < ·)): ∀(k i:Nat) (out:List R2),i+k<cuts.length∨k=0→Can out→(∀s∈out,s.b≤rd cuts i)→
  Can (w1x cuts ins k i out)∧ ∀y,pt (w1x cuts ins k i out) y↔pt out y∨ ∃j,i≤j∧j<i+k∧rd ins j=true∧rd cuts j≤y∧y<rd cuts (j+1)
 | 0,i,out,h,ho,hb=>⟨ho,fun y=>⟨.inl,fun hy=>hy.elim id fun ⟨j,h1,h2,_⟩=>by omega⟩⟩
 | k +1,i,out,h,ho,hb=>by
  have hlt:rd cuts i<rd cuts (i+1):=z3a hc (Nat.lt_succ_self _) (by omega);obtain ⟨p1,p2,p3⟩:=w0m ho hb hlt;have e:w1x cuts ins (k+1) i out=w1x cuts ins k (i+1) (bif rd ins i then push out (rd cuts i) (rd cuts (i+1)) else out):=rfl;rw [e];rcases Yv (rd ins i) with q | q
  ·rw [q,cond_true];obtain ⟨r1,r2⟩:=y2o cuts ins hc k (i+1) (push out (rd cuts i) (rd cuts (i+1))) (by omega) p1 p2;refine ⟨r1,fun y=> ?_⟩;rw [r2,p3];constructor
   ·rintro ((h | h) | ⟨j,h1,h2,h3⟩)
    ·exact .inl h
    ·exact .inr ⟨i,Nat.le_refl _,by omega,q,h⟩
    ·exact .inr ⟨j,by omega,by omega,h3⟩
   ·rintro (h | ⟨j,h1,h2,h3⟩)
    ·exact .inl (.inl h)
    ·rcases Nat.eq_or_lt_of_le h1 with rfl | h1
     ·exact .inl (.inr h3.2)
     ·exact .inr ⟨j,h1,by omega,h3⟩
  ·rw [q,cond_false];obtain ⟨r1,r2⟩:=y2o cuts ins hc k (i+1) out (by omega) ho (fun s hs=>by have:=hb s hs;omega);refine ⟨r1,fun y=> ?_⟩;rw [r2];constructor
   ·rintro (h | ⟨j,h1,h2,h3⟩)
    ·exact .inl h
    ·exact .inr ⟨j,by omega,by omega,h3⟩
   ·rintro (h | ⟨j,h1,h2,h3⟩)
    ·exact .inl h
    ·rcases Nat.eq_or_lt_of_le h1 with rfl | h1
     ·rw [q] at h3;cases h3.1
     ·exact .inr ⟨j,h1,by omega,h3⟩
theorem x1c {cuts:List Int}: ∀(k:Nat),k<cuts.length→ ∀y,rd cuts 0≤y→y<rd cuts k→ ∃j,j<k∧rd cuts j≤y∧y<rd cuts (j+1)
 | 0,_,y,h1,h2=>by omega
 | k+1,hk,y,h1,h2=>by
  by_cases h:rd cuts k≤y
  ·exact ⟨k,Nat.lt_succ_self _,h,h2⟩
  ·obtain ⟨j,h3,h4⟩:=x1c k (by omega) y h1 (by omega);exact ⟨j,by omega,h4⟩
theorem v9d (cuts:List Int) (hc:cuts.Pairwise (· < ·)) (P:Int→Bool) (S:List R2) (hS: ∀s∈S,s.a∈cuts∧s.b∈cuts) (hP: ∀y,P y=true↔pt S y):
  Can (y0u cuts (cuts.map P))∧ ∀y,pt (y0u cuts (cuts.map P)) y↔pt S y:=by
 obtain ⟨r1,r2⟩:=y2o cuts (cuts.map P) hc (cuts.length - 1) 0 [] (by omega) .nil (by simp);refine ⟨r1,fun y=> ?_⟩;unfold y0u;rw [r2];have hin: ∀x,x∈cuts→ ∃i,i<cuts.length∧rd cuts i=x:=fun x hx=>by obtain ⟨i,hi,h⟩:=List.getElem_of_mem hx;exact ⟨i,hi,by rw [Yt hi];exact h⟩
 have hmap: ∀j,j<cuts.length→rd (cuts.map P) j=P (rd cuts j):=fun j hj=>by rw [Yt (by simpa using hj),Yt hj,List.getElem_map]
 have le_of: ∀i j,i<cuts.length→j<cuts.length→i≤j→rd cuts i≤rd cuts j:=fun i j hi hj hij=>by
  rcases Nat.eq_or_lt_of_le hij with rfl | h
  ·exact Int.le_refl _
  ·exact Int.le_of_lt (z3a hc h hj)
 constructor
 ·rintro (⟨s,hs,_⟩ | ⟨j,h1,h2,h3,h4,h5⟩)
  ·cases hs
  ·have hj:j+1<cuts.length:=by omega
   rw [hmap j (by omega)] at h3;obtain ⟨s,hs,a1,a2⟩:=(hP _).1 h3;obtain ⟨ca,cb⟩:=hS s hs;obtain ⟨m,hm,em⟩:=hin s.b cb;refine ⟨s,hs,by omega,?_⟩;have:j<m:=by
    rcases Nat.lt_or_ge j m with h | h
    ·exact h
    ·have:=le_of m j hm (by omega) h;omega
   have:=le_of (j+1) m hj hm this;omega
 ·rintro ⟨s,hs,a1,a2⟩;right;obtain ⟨ca,cb⟩:=hS s hs;obtain ⟨n,hn,en⟩:=hin s.a ca;obtain ⟨m,hm,em⟩:=hin s.b cb;have h0:=le_of 0 n (by omega) hn (Nat.zero_le _);obtain ⟨j,h1,h2,h3⟩:=x1c m hm y (by omega) (by omega);refine ⟨j,Nat.zero_le _,by omega,?_,h2,h3⟩;rw [hmap j (by omega),hP];refine ⟨s,hs,?_,?_⟩
  ·have:n≤j:=by
    rcases Nat.lt_or_ge j n with h | h
    ·have:=le_of (j+1) n (by omega) hn h;omega
    ·exact h
   have:=le_of n j hn (by omega) this;omega
  ·omega
end Go.Am
namespace Go.Am
open Go.Proofs Go.Sort Go.Shelf Go.RowKit Go.Lib
def net (E:List R3) (y:Int):Int:=(E.map fun e=>if e.a≤y then e.c else 0).sum
theorem Qa (e:R3) (E:List R3) (y:Int):net (e::E) y=(if e.a≤y then e.c else 0)+net E y:=by simp [net]
theorem v5y {E F:List R3} (h:E.Perm F) (y:Int):net E y=net F y:=by
 induction h with
 | nil=>rfl
 | cons e _ ih=>rw [Qa,Qa,ih]
 | swap a b l=>simp only [Qa];omega
 | trans _ _ i1 i2=>rw [i1,i2]
theorem w0q (E:List R3) (y:Int) (h: ∀e∈E,y<e.a):net E y=0:=by
 induction E with
 | nil=>rfl
 | cons e E ih=>rw [Qa,if_neg (by have:=h e (by simp);omega),ih fun f hf=>h f (by simp [hf])];rfl
theorem v2a (out:List R2) (last:Int) (inn:Bool) (x:Int):Ve out last inn x=bif inn&& !(last == x) then push out last x else out:=by
 unfold Ve push;cases inn
 ·rfl
 ·cases (last == x) <;> rfl
theorem y9b {out:List R2} {last x:Int} (inn:Bool) (hc:Can out) (hb: ∀s∈out,s.b≤last) (hx:last≤x):
  Can (Ve out last inn x)∧(∀s∈Ve out last inn x,s.b≤x)∧ ∀y,pt (Ve out last inn x) y↔pt out y∨(inn=true∧last≤y∧y<x):=by
 rw [v2a];rcases Yv (inn&& !(last == x)) with q | q
 ·rw [q,cond_true];simp only [Bool.and_eq_true,Bool.not_eq_true',beq_eq_false_iff_ne,ne_eq] at q;obtain ⟨p1,p2,p3⟩:=w0m hc hb (show last<x by omega);refine ⟨p1,p2,fun y=> ?_⟩;rw [p3];simp [q.1]
 ·rw [q,cond_false];refine ⟨hc,fun s hs=>by have:=hb s hs;omega,fun y=>⟨.inl,fun h=>h.elim id fun ⟨h1,h2,h3⟩=> ?_⟩⟩;rw [h1,Bool.true_and] at q;have:last=x:=by simpa using q
  omega
def Asc (E:List R3):Prop:=E.Pairwise fun e f=>e.a≤f.a
theorem w6d : ∀(E:List R3) (o last:Int) (out:List R2),Asc E→(∀e∈E,last≤e.a)→Can out→(∀s∈out,s.b≤last)→
  Can (swF E o last (decide (o>0)) out)∧ ∀y,pt (swF E o last (decide (o>0)) out) y↔pt out y∨(last≤y∧0<o+net E y∧ ∃e∈E,y<e.a)
 | [],o,last,out,_,_,hc,_=>⟨hc,fun y=>⟨.inl,fun h=>h.elim id fun ⟨_,_,e,he,_⟩=>by cases he⟩⟩
 | e ::r,o,last,out,hE,hl,hc,hb=>by
  have he:=hl e (by simp);have hr:=List.pairwise_cons.1 hE;obtain ⟨p1,p2,p3⟩:=y9b (decide (o>0)) hc hb he;obtain ⟨q1,q2⟩:=w6d r (o+e.c) e.a (Ve out last (decide (o>0)) e.a) hr.2 hr.1 p1 p2;rw [y1g];refine ⟨q1,fun y=> ?_⟩;rw [q2,p3,Qa];constructor
  ·rintro ((h | ⟨h1,h2,h3⟩) | ⟨h1,h2,f,hf,h3⟩)
   ·exact .inl h
   ·right;have h1:=of_decide_eq_true h1;refine ⟨h2,?_,e,by simp,h3⟩;rw [if_neg (by omega),w0q r y fun f hf=>by have:=hr.1 f hf;omega];omega
   ·right;refine ⟨by omega,?_,f,by simp [hf],h3⟩;rw [if_pos h1];omega
  ·rintro (h | ⟨h1,h2,f,hf,h3⟩)
   ·exact .inl (.inl h)
   ·by_cases hy:e.a≤y
    ·right;rw [if_pos hy] at h2;refine ⟨hy,by omega,f,?_,h3⟩;rcases List.mem_cons.1 hf with rfl | hf
     ·omega
     ·exact hf
    ·left;right;rw [if_neg hy,w0q r y fun f hf=>by have:=hr.1 f hf;omega] at h2;exact ⟨decide_eq_true (by omega),h1,by omega⟩
theorem v5z (l:List R2) (hv: ∀s∈l,s.a<s.b) (y:Int):0≤net (Kj l) y∧(0<net (Kj l) y↔pt l y):=by
 induction l with
 | nil=>exact ⟨Int.le_refl _,by simp [net,Kj,pt]⟩
 | cons s l ih=>
  obtain ⟨i1,i2⟩:=ih fun t ht=>hv t (by simp [ht]);have hs:=hv s (by simp);have e:net (Kj (s::l)) y=(if s.a≤y∧y<s.b then 1 else 0)+net (Kj l) y:=by
   show net (⟨s.a,0,1⟩::⟨s.b,0,-1⟩::Kj l) y=_;rw [Qa,Qa];show (if s.a≤y then (1:Int) else 0)+((if s.b≤y then (-1:Int) else 0)+net (Kj l) y)=_;by_cases h1:s.a≤y
   ·by_cases h2:s.b≤y
    ·rw [if_pos h1,if_pos h2,if_neg (show¬(s.a≤y∧y<s.b) by omega)];omega
    ·rw [if_pos h1,if_neg h2,if_pos (show s.a≤y∧y<s.b by omega)];omega
   ·rw [if_neg h1,if_neg (show¬s.b≤y by omega),if_neg (show¬(s.a≤y∧y<s.b) by omega)];omega
  rw [e];by_cases h:s.a≤y∧y<s.b
  ·rw [if_pos h];exact ⟨by omega,⟨fun _=>⟨s,by simp,h⟩,fun _=>by omega⟩⟩
  ·rw [if_neg h];refine ⟨by omega,?_⟩;rw [Int.zero_add,i2];constructor
   ·rintro ⟨t,ht,h2⟩;exact ⟨t,by simp [ht],h2⟩
   ·rintro ⟨t,ht,h2⟩;rcases List.mem_cons.1 ht with rfl | ht
    ·exact absurd h2 h
    ·exact ⟨t,ht,h2⟩
theorem y4u {l:List R2} {s:R2} (h:s∈l):(⟨s.b,0,-1⟩:R3)∈Kj l∧(⟨s.a,0,1⟩:R3)∈Kj l:=
 ⟨List.mem_flatMap.2 ⟨s,h,by simp⟩,List.mem_flatMap.2 ⟨s,h,by simp⟩⟩
theorem x9r (l:List R3) (h:y0v l=true):Asc (z0n l):=by refine List.pairwise_iff_getElem.2 fun i j hi hj hij=> ?_;have:=(Ks l h).2 i j hij hj;rwa [Yt hi,Yt hj] at this
theorem x5e (l:List R2) (hv:l.all z1c=true):Can (swV l)∧ ∀y,pt (swV l) y↔pt l y:=by
 have hb:y0v (Kj l)=true:=List.all_eq_true.2 fun e he=>by obtain ⟨s,hs,h1⟩:=List.mem_flatMap.1 he;have hv:=List.all_eq_true.1 hv s hs;simp only [z1c,Bool.and_eq_true,decide_eq_true_eq] at hv;simp only [List.mem_cons,List.not_mem_nil,or_false] at h1;rcases h1 with rfl | rfl <;> exact decide_eq_true (by simp only;omega)
 have hpos: ∀s∈l,s.a<s.b:=fun s hs=>by have:=List.all_eq_true.1 hv s hs;simp only [z1c,Bool.and_eq_true,decide_eq_true_eq] at this;exact this.1
 obtain ⟨hp,_⟩:=Ks (Kj l) hb;have ha:=x9r (Kj l) hb;have hn: ∀y,net (z0n (Kj l)) y=net (Kj l) y:=fun y=>v5y hp y;unfold swV;generalize z0n (Kj l)=E at hp ha hn;cases E with
 | nil=>refine ⟨.nil,fun y=>⟨fun ⟨s,hs,_⟩=>(by cases hs),fun ⟨s,hs,_⟩=> ?_⟩⟩;have:=hp.mem_iff.2 (y4u hs).1;cases this
 | cons e r=>
  have hr:=List.pairwise_cons.1 ha;rw [y1g,Int.zero_add];have e0:Ve [] 0 false e.a=[]:=rfl;rw [e0];obtain ⟨q1,q2⟩:=w6d r e.c e.a [] hr.2 hr.1 .nil (by simp);refine ⟨q1,fun y=> ?_⟩;rw [q2];obtain ⟨n1,n2⟩:=v5z l hpos y;rw [←n2,←hn,Qa];constructor
  ·rintro (⟨s,hs,_⟩ | ⟨h1,h2,_⟩)
   ·cases hs
   ·rw [if_pos h1];omega
  ·intro h;have hpt:=n2.1 (by rw [←hn,Qa];exact h);obtain ⟨s,hs,s1,s2⟩:=hpt;have m1:=hp.mem_iff.2 (y4u hs).1;have m2:=hp.mem_iff.2 (y4u hs).2;have hea:e.a≤y:=by
    rcases List.mem_cons.1 m2 with h' | h'
    ·rw [←h'];exact s1
    ·have h'':e.a≤s.a:=hr.1 _ h';omega
   right;rw [if_pos hea] at h;refine ⟨hea,h,⟨s.b,0,-1⟩,?_,s2⟩;rcases List.mem_cons.1 m1 with h' | h'
   ·have h'':e.a=s.b:=(by rw [←h']);omega
   ·exact h'
theorem x2p (out:List Int) (hs:out.Pairwise (· < ·)) (x:Int): ∀k,k≤out.length→x6r out x k≤k∧(∀i,x6r out x k≤i→i<k→x<rd out i)∧(0<x6r out x k→rd out (x6r out x k - 1)≤x)
 | 0,_=>⟨Nat.le_refl _,fun i h1 h2=>by omega,fun h=>by simp [x6r] at h⟩
 | k+1,hk=>by
  unfold x6r;rcases Yv (decide (rd out k>x)) with q | q
  ·rw [q,cond_true];obtain ⟨h1,h2,h3⟩:=x2p out hs x k (by omega);refine ⟨by omega,fun i a b=> ?_,h3⟩;rcases Nat.eq_or_lt_of_le (Nat.le_of_lt_succ b) with rfl | b
   ·exact of_decide_eq_true q
   ·exact h2 i a b
  ·rw [q,cond_false];exact ⟨Nat.le_refl _,fun i a b=>by omega,fun _=>by have:=of_decide_eq_false q;simp only [Nat.add_sub_cancel];omega⟩
theorem v0q (out:List Int) (hs:out.Pairwise (· < ·)) (x:Int):(y4f out x).Pairwise (· < ·)∧ ∀y,y∈y4f out x↔y∈out∨y=x:=by
 obtain ⟨h1,h2,h3⟩:=x2p out hs x out.length (Nat.le_refl _);unfold y4f;split
 ·rename_i h0;rw [h0] at h2;refine ⟨List.pairwise_cons.2 ⟨fun y hy=> ?_,hs⟩,fun y=>by simp [or_comm]⟩;obtain ⟨i,hi,rfl⟩:=List.getElem_of_mem hy;have:=h2 i (Nat.zero_le _) hi;rwa [Yt hi] at this
 ·rename_i k hk;rw [hk] at h1 h2 h3;have h3:rd out k≤x:=h3 (Nat.succ_pos _);have hkl:k<out.length:=by omega
  rcases Yv (rd out k == x) with q | q
  ·rw [q,cond_true];have q:rd out k=x:=by simpa using q
   refine ⟨hs,fun y=>⟨.inl,fun h=>h.elim id fun e=> ?_⟩⟩;rw [e,←q,Yt hkl];exact List.getElem_mem hkl
  ·rw [q,cond_false];have q:rd out k≠x:=by simpa using q
   refine ⟨?_,fun y=> ?_⟩
   ·have st:(out.take (k+1)).Pairwise (· < ·):=hs.sublist (List.take_sublist _ _);have sd:(out.drop (k+1)).Pairwise (· < ·):=hs.sublist (List.drop_sublist _ _);have ht: ∀y∈out.take (k+1),y<x:=fun y hy=>by
     obtain ⟨i,hi,rfl⟩:=List.getElem_of_mem hy;have hi':i<k+1:=by simp at hi;omega
     rw [List.getElem_take];have:rd out i≤rd out k:=by
      rcases Nat.eq_or_lt_of_le (Nat.le_of_lt_succ hi') with rfl | h
      ·exact Int.le_refl _
      ·exact Int.le_of_lt (z3a hs h hkl)
     rw [Yt (show i<out.length by omega)] at this;omega
    have hd: ∀y∈out.drop (k+1),x<y:=fun y hy=>by
     obtain ⟨i,hi,rfl⟩:=List.getElem_of_mem hy;have hi':k+1+i<out.length:=by simp at hi;omega
     rw [List.getElem_drop,←Yt hi'];exact h2 _ (by omega) hi'
    refine List.pairwise_append.2 ⟨st,List.pairwise_cons.2 ⟨hd,sd⟩,fun a ha b hb=> ?_⟩;rcases List.mem_cons.1 hb with rfl | hb
    ·exact ht a ha
    ·exact Int.lt_trans (ht a ha) (hd b hb)
   ·rw [List.mem_append,List.mem_cons];constructor
    ·rintro (h | h | h)
     ·exact .inl (List.mem_of_mem_take h)
     ·exact .inr h
     ·exact .inl (List.mem_of_mem_drop h)
    ·rintro (h | h)
     ·rw [←List.take_append_drop (k+1) out,List.mem_append] at h;exact h.elim .inl fun h=>.inr (.inr h)
     ·exact .inr (.inl h)
theorem Wc (l:List Int):(z1w l).Pairwise (· < ·)∧ ∀y,y∈z1w l↔y∈l:=by
 have: ∀(l out:List Int),out.Pairwise (· < ·)→(l.foldl y4f out).Pairwise (· < ·)∧ ∀y,y∈l.foldl y4f out↔y∈out∨y∈l:=by
  intro l
  induction l with
  | nil=>intro out h;exact ⟨h,fun y=>by simp⟩
  | cons x l ih=>intro out h;obtain ⟨a,b⟩:=v0q out h x;obtain ⟨c,d⟩:=ih (y4f out x) a;refine ⟨c,fun y=> ?_⟩;show y∈l.foldl y4f (y4f out x)↔_;rw [d,b,List.mem_cons,or_assoc]
 obtain ⟨a,b⟩:=this l [] .nil;exact ⟨a,fun y=>by rw [z1w,b];simp⟩
theorem y0h : ∀(l m:List Int),l.Pairwise (· < ·)→m.Pairwise (· < ·)→(∀x,x∈l↔x∈m)→l=m
 | [],[],_,_,_=>rfl
 | [],b::m,_,_,h=>by have:=(h b).2 (by simp);cases this
 | a::l,[],_,_,h=>by have:=(h a).1 (by simp);cases this
 | a::l,b::m,hl,hm,h=>by
  obtain ⟨a1,a2⟩:=List.pairwise_cons.1 hl;obtain ⟨b1,b2⟩:=List.pairwise_cons.1 hm;have e:a=b:=by
   have x1:=(h a).1 (by simp);have x2:=(h b).2 (by simp);rcases List.mem_cons.1 x1 with x1 | x1
   ·exact x1
   rcases List.mem_cons.1 x2 with x2 | x2
   ·exact x2.symm
   have:=b1 a x1;have:=a1 b x2;omega
  subst e
  congr 1
  refine y0h l m a2 b2 fun x=>⟨fun hx=> ?_,fun hx=> ?_⟩
  ·rcases List.mem_cons.1 ((h x).1 (by simp [hx])) with e | e
   ·have:=a1 x hx;omega
   ·exact e
  ·rcases List.mem_cons.1 ((h x).2 (by simp [hx])) with e | e
   ·have:=b1 x hx;omega
   ·exact e
theorem y0j (zs:List Int) (hs:zs.Pairwise (· ≤ ·)): ∀m,m≤zs.length→(compactUpTo zs.toArray m).Pairwise (· < ·)∧ ∀x,x∈compactUpTo zs.toArray m↔x∈zs.take m
 | 0,_=>by simp [compactUpTo]
 | m +1,h=>by
  obtain ⟨h1,h2⟩:=y0j zs hs m (by omega);have hg: ∀j (hj:j<zs.length),zs.toArray[j]! =zs[j]:=fun j hj=>by simp [hj]
  have hle: ∀i j (hi:i<zs.length) (hj:j<zs.length),i<j→zs[i]≤zs[j]:=fun i j hi hj hij=>List.pairwise_iff_getElem.1 hs i j hi hj hij;have hm:m<zs.length:=by omega
  rw [compactUpTo_succ,hg m hm,List.take_succ_eq_append_getElem hm];by_cases hk:keeps zs.toArray m=true
  ·rw [if_pos hk];refine ⟨List.pairwise_append.2 ⟨h1,List.pairwise_singleton _ _,fun x hx y hy=> ?_⟩,fun x=>by rw [List.mem_append,List.mem_append,h2 x]⟩;rw [List.mem_singleton.1 hy];obtain ⟨i,hi,rfl⟩:=List.getElem_of_mem ((h2 x).1 hx);have hi':i<m:=by simp at hi;omega
   rw [List.getElem_take];simp only [keeps,decide_eq_true_eq] at hk;rcases hk with hk | hk
   ·omega
   ·rw [hg m hm,hg (m - 1) (by omega)] at hk;have k1:zs[i]≤zs[m - 1]:=by
     rcases Nat.lt_or_ge i (m - 1) with q | q
     ·exact hle i (m - 1) _ _ q
     ·have e:i=m - 1:=(by omega);subst e;exact Int.le_refl _
    have k2:=hle (m - 1) m (by omega) hm (by omega);omega
  ·rw [if_neg hk,List.append_nil];refine ⟨h1,fun x=> ?_⟩;rw [h2 x,List.mem_append,List.mem_singleton];refine ⟨.inl,fun hx=>hx.elim id fun e=> ?_⟩;simp only [keeps,decide_eq_true_eq,not_or,Decidable.not_not] at hk;rw [hg m hm,hg (m - 1) (by omega)] at hk;rw [e,hk.2];have:m - 1<(zs.take m).length :=by simp;omega
   have e2:(zs.take m)[m - 1]=zs[m - 1]:=List.getElem_take;rw [←e2];exact List.getElem_mem this
theorem srt_le (zs:List Int):(Yh zs).Pairwise (· ≤ ·):=by have:=List.pairwise_mergeSort (le:=fun x y:Int=>decide (x≤y)) (fun a b c h1 h2=>by simp at*;omega) (fun a b=>by simp;omega) zs;exact this.imp fun h=>by simpa using h
theorem u5l (zs:List Int) (x:Int):x∈Yh zs↔x∈zs:=List.mem_mergeSort
theorem Jj (zs:List Int):Us zs=z1w zs:=by obtain ⟨h1,h2⟩:=y0j (Yh zs) (srt_le zs) (Yh zs).length (Nat.le_refl _);obtain ⟨s1,s2⟩:=Wc zs;refine y0h _ _ h1 s1 fun x=> ?_;rw [show Us zs=compactUpTo (Yh zs).toArray (Yh zs).length from rfl,h2 x,List.take_length,u5l,s2]
end Go.Am
namespace Go.Am
open Go.Proofs Go.Sort Go.Shelf Go.RowKit Go.Lib
namespace Dim
variable {α β:Type} (D:Dim α β)
def ref (sec:Int→List β) (cs:List Int):Nat→Nat→List α→List β→Nat→List α
 | 0,_,out,_,_=>out
 | k+1,i,out,last,first=>
  bif decide (0<i)&&D.same (sec (rd cs i)) last then ref sec cs k (i+1) (D.grow out first (rd cs (i+1))) last first
  else ref sec cs k (i+1) (out++(sec (rd cs i)).map (D.put (rd cs i) (rd cs (i+1)))) (sec (rd cs i)) out.length
theorem ref_eq (hs: ∀a b,D.same a b=true↔a=b) (l:List α): ∀(k i:Nat) (s:Sw α β) (out:List α) (last:List β) (first:Nat),
  s.out=out→s.last=last→(last≠ []→s.first=first)→(last=[]→out.length≤first)→(0<i→s.fin=rd (D.cuts l) i)→(i=0→last=[])→
  (D.go l k i s).out =D.ref (D.sec l) (D.cuts l) k i out last first
 | 0,i,s,out,last,first,h1,h2,h3,h4,h5,h6=>h1
 | k +1,i,s,out,last,first,h1,h2,h3,h4,h5,h6=>by
  subst h1 h2;have e1:D.go l (k+1) i s=D.go l k (i+1) (D.one l (rd (D.cuts l) i) (rd (D.cuts l) (i+1)) s):=rfl;rw [e1];unfold ref;rcases Yv (decide (0<(D.sec l (rd (D.cuts l) i)).length)&&((s.fin == rd (D.cuts l) i)&&D.same s.last (D.sec l (rd (D.cuts l) i)))) with q | q
  ·have e:D.one l (rd (D.cuts l) i) (rd (D.cuts l) (i+1)) s=⟨D.grow s.out s.first (rd (D.cuts l) (i+1)),s.last,s.first,rd (D.cuts l) (i+1)⟩:=by unfold one;rw [q];rfl
   simp only [Bool.and_eq_true,decide_eq_true_eq] at q;obtain ⟨q1,q2,q3⟩:=q;have q3:=(hs _ _).1 q3;have hne:s.last≠ []:=fun h=>by rw [h] at q3;rw [←q3] at q1;exact Nat.lt_irrefl _ q1
   have hi:0<i:=Nat.pos_of_ne_zero fun h=>hne (h6 h);have e2:(decide (0<i)&&D.same (D.sec l (rd (D.cuts l) i)) s.last)=true:=by rw [decide_eq_true hi,Bool.true_and,hs,q3]
   rw [e2,cond_true,e];refine ref_eq hs l k (i+1) _ _ _ _ ?_ rfl h3 (fun h=>absurd h hne) (fun _=>rfl) (fun h=>by omega);rw [h3 hne]
  ·have e:D.one l (rd (D.cuts l) i) (rd (D.cuts l) (i+1)) s=⟨s.out++(D.sec l (rd (D.cuts l) i)).map (D.put (rd (D.cuts l) i) (rd (D.cuts l) (i+1))),D.sec l (rd (D.cuts l) i),s.out.length,rd (D.cuts l) (i+1)⟩:=by unfold one;rw [q];rfl
   rcases Yv (decide (0<i)&&D.same (D.sec l (rd (D.cuts l) i)) s.last) with q2 | q2
   ·rw [q2,cond_true,e];simp only [Bool.and_eq_true,decide_eq_true_eq] at q2;obtain ⟨hi,q3⟩:=q2;have q3:=(hs _ _).1 q3;rw [(hs s.last (D.sec l (rd (D.cuts l) i))).2 q3.symm,Bool.and_true,h5 hi] at q;have hz:D.sec l (rd (D.cuts l) i)=[]:=by
     cases h:D.sec l (rd (D.cuts l) i) with
     | nil=>rfl
     | cons a b=>rw [h] at q;simp at q
    have hl:s.last=[]:=(by rw [←q3,hz]);have hf:=h4 hl;rw [hz,List.map_nil,List.append_nil];refine ref_eq hs l k (i+1) _ _ _ _ ?_ hl.symm (fun h=>absurd hl h) (fun _=> ?_) (fun _=>rfl) (fun h=>by omega)
    ·exact (D.grow_nil _ _ _ hf).symm
    ·rw [D.grow_length];exact hf
   ·rw [q2,cond_false,e];exact ref_eq hs l k (i+1) _ _ _ _ rfl rfl (fun _=>rfl) (fun h=>by rw [h];simp) (fun _=>rfl) (fun h=>by omega)
theorem out_eq (hs: ∀a b,D.same a b=true↔a=b) (l:List α):D.out l=D.ref (D.sec l) (D.cuts l) ((D.cuts l).length - 1) 0 [] [] 0:=
 D.ref_eq hs l _ 0 _ [] [] 0 rfl rfl (fun _=>rfl) (fun _=>Nat.le_refl _) (fun h=>absurd h (Nat.lt_irrefl _)) (fun _=>rfl)
end Dim
theorem j1s (l:List R4):D4.cuts l=xsV l []:=by unfold Dim.cuts xsV;rw [Jj,show z2z ([]:List R4)=[] from rfl,List.append_nil];rfl
theorem j1d (l:List R4) (x y:Int):v9b 2 l [] x y=has4V l x y:=by unfold v9b y4h;show (has4V l x y||has4V [] x y)=_;rw [show has4V [] x y=false from rfl,Bool.or_false]
theorem x0p {l:List R4} {x:Int} {s:R2} (h:s∈D4.inn l x): ∃r∈l,r.a≤x∧x<r.c∧s=⟨r.b,r.d⟩:=by obtain ⟨r,hr,e⟩:=List.mem_map.1 h;obtain ⟨h1,h2⟩:=List.mem_filter.1 hr;simp only [Bool.and_eq_true,decide_eq_true_eq] at h2;exact ⟨r,h1,h2.1,h2.2,e.symm⟩
theorem u7z {l:List R4} {x:Int} {r:R4} (h:r∈l) (h1:r.a≤x) (h2:x<r.c):(⟨r.b,r.d⟩:R2)∈D4.inn l x:=by refine List.mem_map.2 ⟨r,List.mem_filter.2 ⟨h,?_⟩,rfl⟩;simp only [Bool.and_eq_true,decide_eq_true_eq];exact ⟨h1,h2⟩
theorem sec_eq (l:List R4) (hv:l.all Kv=true) (hl:l.length≤400) (x:Int):D4.sec l x=x9u 2 l [] x:=by
 have hin:=D4.inn_length l x;have hvi:(D4.inn l x).all z1c=true:=List.all_eq_true.2 fun s hs=>by obtain ⟨r,hr,_,_,rfl⟩:=x0p hs;have:=List.all_eq_true.1 hv r hr;simp only [Kv,z1c,Bool.and_eq_true,decide_eq_true_eq] at this ⊢;omega
 have e1:D4.sec l x=swV (D4.inn l x):=by show Xf (D4.inn l x)=_;unfold Xf;rw [decide_eq_false (by omega),hvi];rfl
 obtain ⟨c1,c2⟩:=x5e _ hvi;obtain ⟨y1,y2⟩:=Wc (z1t l++z1t []);have e2:x9u 2 l [] x=y0u (ysV l []) ((ysV l []).map fun y=>has4V l x y):=by
  unfold x9u
  congr 1
  exact List.map_congr_left fun y _=>j1d l x y
 obtain ⟨d1,d2⟩:=v9d (ysV l []) y1 (fun y=>has4V l x y) (D4.inn l x) (fun s hs=>by
  obtain ⟨r,hr,_,_,rfl⟩:=x0p hs;unfold ysV;exact ⟨(y2 _).2 (List.mem_append.2 (.inl (List.mem_flatMap.2 ⟨r,hr,by simp⟩))),(y2 _).2 (List.mem_append.2 (.inl (List.mem_flatMap.2 ⟨r,hr,by simp⟩)))⟩) (fun y=>by
  unfold has4V;rw [List.any_eq_true];constructor
  ·rintro ⟨r,hr,h⟩;simp only [in4,Bool.and_eq_true,decide_eq_true_eq] at h;exact ⟨_,u7z hr h.1 h.2.1,h.2.2.1,h.2.2.2⟩
  ·rintro ⟨s,hs,h1,h2⟩;obtain ⟨r,hr,r1,r2,rfl⟩:=x0p hs;refine ⟨r,hr,?_⟩;simp only [in4,Bool.and_eq_true,decide_eq_true_eq];exact ⟨r1,r2,h1,h2⟩)
 rw [e1,e2];exact v2e _ _ c1 d1 fun y=>by rw [c2,d2]
theorem v0m (l:List R4): ∀(k i:Nat) (out:List R4) (last:List R2) (first:Nat),jF 2 l [] k i out last first=D4.ref (x9u 2 l []) (xsV l []) k i out last first
 | 0,_,_,_,_=>rfl
 | k+1,i,out,last,first=>by unfold jF Dim.ref;rw [v0m l k,v0m l k];rfl
theorem joV_eq (l:List R4) (hv:l.all Kv=true) (hl:l.length≤400):D4.out l=joV 2 l []:=by
 rw [D4.out_eq (fun a b=>decide_eq_true_iff) l,joV,v0m,←j1s]
 congr 1
 funext x
 exact sec_eq l hv hl x
theorem v3c (l:List R6):D6.cuts l=Vz l []:=by unfold Dim.cuts Vz;rw [Jj,show z2y ([]:List R6)=[] from rfl,List.append_nil];rfl
theorem u4y (l:List R6) (z:Int):D6.inn l z=atV l z:=rfl
theorem x9l (r:R6):Ut r=x9m r:=by
 unfold Ut x9m;simp only [u8w,u8x];rw [Bool.eq_iff_iff];simp only [Bool.and_eq_true,decide_eq_true_eq];have m1: ∀x y z:Int,x≤min y z↔x≤y∧x≤z:=fun x y z=>by omega
 have m2: ∀x y z:Int,max y z≤x↔y≤x∧z≤x:=fun x y z=>by omega
 simp only [ge_iff_le,m1,m2];constructor <;> intro h <;> (repeat' apply And.intro) <;> omega
theorem v2j (l:List R6) (hv:l.all Ut=true) (z:Int):(atV l z).all Kv=true:=List.all_eq_true.2 fun s hs=>by
 obtain ⟨r,hr,rfl⟩:=List.mem_map.1 hs;have:=List.all_eq_true.1 hv r (List.mem_filter.1 hr).1;rw [x9l] at this;simp only [x9m,Bool.and_eq_true,decide_eq_true_eq] at this;show Kv ⟨r.a,r.b,r.d,r.e⟩=true;simp only [Kv,Bool.and_eq_true,decide_eq_true_eq]
 (repeat' apply And.intro) <;> omega
section
variable (l:List R6) (hv:l.all Ut=true) (hl:l.length≤400)
include hv hl
theorem u4t (z:Int):D4.out (atV l z)=joV 2 (atV l z) []:=joV_eq _ (v2j l hv z) (Nat.le_trans (z1r l z) hl)
theorem u4s (z:Int):w5s l z=y0t 2 l [] z:=by
 have h1:=u4t l hv hl z;have h2:=z1r l z;have e:joV 2 (atV [] z) []=[]:=rfl;unfold w5s y0t x1s;rw [e,show atV ([]:List R6) z=[] from rfl,u4y];unfold Yn;rw [decide_eq_false (by omega),v2j l hv z,h1,cond_false,cond_true];by_cases h:400<(joV 2 (atV l z) []).length
 ·rw [decide_eq_true (show ((joV 2 (atV l z) []).length :Int)>400 by omega),decide_eq_true h];rfl
 ·rw [decide_eq_false (show¬((joV 2 (atV l z) []).length :Int)>400 by omega),decide_eq_false h];rfl
theorem u6c (z:Int) (h:w5s l z=false):D6.sec l z=x1s 2 l [] z:=by
 have h1:=u4t l hv hl z;have h2:=z1r l z;rw [u4s l hv hl] at h;show Zm (D6.inn l z)=joV 2 (atV l z) (atV [] z);rw [u4y];unfold Zm;have h3: ¬400<(joV 2 (atV l z) []).length :=fun hh=>by unfold y0t x1s at h;rw [show atV ([]:List R6) z=[] from rfl,decide_eq_true hh] at h;cases h
 rw [decide_eq_false (by omega),v2j l hv z,h1,cond_false,cond_true,decide_eq_false (by omega)];rfl
theorem x7j : ∀(k i:Nat) (out:List R6) (last:List R4) (first:Nat),jsF 2 l [] k i out last first=bif okF l k i then some (D6.ref (D6.sec l) (D6.cuts l) k i out last first) else none
 | 0,_,_,_,_=>rfl
 | k+1,i,out,last,first=>by
  unfold jsF okF Dim.ref;rw [←v3c,←u4s l hv hl];rcases Yv (w5s l (rd (D6.cuts l) i)) with q | q
  ·rw [q];rfl
  ·have:=u6c l hv hl _ q;rw [q,cond_false,cond_false,this,x7j k,x7j k];have e:D6.same (x1s 2 l [] (rd (D6.cuts l) i)) last=Vw (x1s 2 l [] (rd (D6.cuts l) i)) last:=rfl;rw [e];cases (decide (0<i)&&Vw (x1s 2 l [] (rd (D6.cuts l) i)) last) <;> rfl
theorem jsO_eq :jsO 2 l []=bif okF l ((D6.cuts l).length - 1) 0 then some (D6.out l) else none:=by unfold jsO;rw [x7j l hv hl,←v3c,D6.out_eq (fun a b=>decide_eq_true_iff) l]
end
theorem v9c (l:List R6):Zf l=z7f l:=by
 unfold Zf z7f;by_cases h:400<l.length
 ·rw [decide_eq_true h];rfl
 ·rw [decide_eq_false h,cond_false,cond_false,show l.all x9m=l.all Ut from by congr 1;funext r;exact (x9l r).symm];rcases Yv (l.all Ut) with hv | hv
  ·rw [hv,cond_true,cond_true];unfold rckF x3i z6d;rw [jsO_eq l hv (by omega)];rcases Yv (okF l ((D6.cuts l).length - 1) 0) with q | q
   ·rw [q,cond_true,cond_true];show _=bif decide (((D6.out l).length :Int)≤400) then (bif Kp (D6.out l) l then 0 else 8) else 8;by_cases h2:((D6.out l).length :Int)>400
    ·rw [decide_eq_true h2,decide_eq_false (by omega)];rfl
    ·rw [decide_eq_false h2,decide_eq_true (by omega)];rfl
   ·rw [q];rfl
  ·rw [hv];rfl
end Go.Am
namespace Go.Am
def Cg (x y:Int):Prop:=(18446744073709551616:Int)∣x - y
theorem Cg.refl (x:Int):Cg x x:=by unfold Cg;rw [Int.sub_self];exact Int.dvd_zero _
theorem Cg.trans {x y z:Int} (h:Cg x y) (k:Cg y z):Cg x z:=by unfold Cg at*;omega
theorem Cg.add {x y u v:Int} (h:Cg x y) (k:Cg u v):Cg (x+u) (y+v):=by unfold Cg at*;omega
theorem Cg.sub {x y u v:Int} (h:Cg x y) (k:Cg u v):Cg (x - u) (y - v):=by unfold Cg at*;omega
theorem Cg.mul {x y u v:Int} (h:Cg x y) (k:Cg u v):Cg (x*u) (y*v):=by
 unfold Cg at*;have:x*u - y*v=(x - y)*u+y*(u - v):=by rw [Int.sub_mul,Int.mul_sub];omega
 rw [this];exact Int.dvd_add (Int.dvd_mul_of_dvd_left h) (Int.dvd_mul_of_dvd_right k)
theorem Cg.wrap (x:Int):Cg (IntKind.wrap .i64 x) x:=by rw [w64];unfold Cg;omega
theorem Cg.eq {x y:Int} (h:Cg x y):IntKind.wrap .i64 x=IntKind.wrap .i64 y:=by rw [w64,w64];unfold Cg at h;omega
theorem Cg.w {x y:Int} (h:Cg x y):Cg (IntKind.wrap .i64 x) y:=(Cg.wrap x).trans h
theorem Cg.is {x y:Int} (h:Cg x y) (hx: -9223372036854775808≤x∧x≤9223372036854775807) (hy: -9223372036854775808≤y∧y≤9223372036854775807):x=y:=by unfold Cg at h;omega
theorem x4x (x:Int): -9223372036854775808≤IntKind.wrap .i64 x∧IntKind.wrap .i64 x≤9223372036854775807:=by rw [w64];omega
def bxV (r:R6):Int:=(r.d - r.a)*(r.e - r.b)*(r.f - r.c)
def ovl (a b c d:Int):Int:=max 0 (min b d - max a c)
def ov (r s:R6):Int:=ovl r.a r.d s.a s.d*ovl r.b r.e s.b s.e*ovl r.c r.f s.c s.f
theorem x0f (a b c d:Int):ovl a b c d=ovl c d a b:=by unfold ovl;omega
theorem z8w (a b c d:Int):0≤ovl a b c d:=by unfold ovl;omega
theorem w9i (r s:R6):0≤ov r s:=Int.mul_nonneg (Int.mul_nonneg (z8w ..) (z8w ..)) (z8w ..)
def nx (d:Int) (r:R6):R6:=
 let t:=1 - 2*Int.tmod d 2
 bif Int.tdiv d 2 == 0 then ⟨r.a+t,r.b,r.c,r.d+t,r.e,r.f⟩ else bif Int.tdiv d 2 == 1 then ⟨r.a,r.b+t,r.c,r.d,r.e+t,r.f⟩ else ⟨r.a,r.b,r.c+t,r.d,r.e,r.f+t⟩
def sm {α:Type} (l:List α) (f:α→Int):Int:=(l.map f).sum
theorem y3c {α:Type} (f:α→Int):sm ([]:List α) f=0:=rfl
theorem Um {α:Type} (x:α) (l:List α) (f:α→Int):sm (x::l) f=f x+sm l f:=by simp [sm]
theorem w6s {α:Type} (l m:List α) (f:α→Int):sm (l++m) f=sm l f+sm m f:=by simp [sm]
theorem Uf {α:Type} {l:List α} {f g:α→Int} (h: ∀x∈l,f x=g x):sm l f=sm l g:=by unfold sm;rw [List.map_congr_left h]
theorem sm_add {α:Type} (l:List α) (f g:α→Int):sm l (fun x=>f x+g x)=sm l f+sm l g:=by
 induction l with
 | nil=>rfl
 | cons x l ih=>simp only [Um,ih];omega
theorem sm_sub {α:Type} (l:List α) (f g:α→Int):sm l (fun x=>f x - g x)=sm l f - sm l g:=by
 induction l with
 | nil=>rfl
 | cons x l ih=>simp only [Um,ih];omega
theorem w6r {α:Type} (l:List α) (f:α→Int) (c:Int):sm l (fun x=>f x*c)=sm l f*c:=by
 induction l with
 | nil=>simp [sm]
 | cons x l ih=>simp only [Um,ih,Int.add_mul]
theorem w6q {α:Type} (l:List α) (f:α→Int) (c:Int):sm l (fun x=>c*f x)=c*sm l f:=by
 induction l with
 | nil=>simp [sm]
 | cons x l ih=>simp only [Um,ih,Int.mul_add]
theorem z3i {α:Type} (l:List α):sm l (fun _=>0)=0:=by
 induction l with
 | nil=>rfl
 | cons x l ih=>rw [Um,ih];rfl
theorem x5m {α β:Type} (l:List α) (m:List β) (f:α→β→Int):sm l (fun x=>sm m (f x))=sm m (fun y=>sm l fun x=>f x y):=by
 induction l with
 | nil=>simp only [y3c,z3i]
 | cons x l ih=>simp only [Um,ih,sm_add]
theorem y9n {α:Type} {l:List α} {f g:α→Int} (h: ∀x∈l,f x≤g x):sm l f≤sm l g:=by
 induction l with
 | nil=>exact Int.le_refl _
 | cons x l ih=>rw [Um,Um];exact Int.add_le_add (h x (by simp)) (ih fun y hy=>h y (by simp [hy]))
theorem Up {α:Type} {l:List α} {f:α→Int} (h: ∀x∈l,0≤f x):0≤sm l f:=by have:=y9n h;rwa [z3i] at this
theorem sm_le {α:Type} {l:List α} {f:α→Int} {c:Int} (h: ∀x∈l,f x≤c):sm l f≤l.length*c:=by
 induction l with
 | nil=>simp [sm]
 | cons x l ih=>
  rw [Um,List.length_cons];have h1:=h x (by simp);have h2:=ih fun y hy=>h y (by simp [hy]);have:((l.length+1:Nat):Int)*c=l.length*c+c:=by rw [show ((l.length+1:Nat):Int)=(l.length:Int)+1 from rfl,Int.add_mul,Int.one_mul]
  omega
theorem z4j {α:Type} {l:List α} {f:α→Int} (h: ∀x∈l,0≤f x) (h0:sm l f=0): ∀x∈l,f x=0:=by
 induction l with
 | nil=>intro x hx;cases hx
 | cons y l ih=>
  rw [Um] at h0;have h1:=h y (by simp);have h2:=Up fun x hx=>h x (List.mem_cons_of_mem y hx);intro x hx;rcases List.mem_cons.1 hx with rfl | hx
  ·omega
  ·exact ih (fun z hz=>h z (by simp [hz])) (by omega) x hx
def S2 (X Y:List R6):Int:=sm X fun x=>sm Y fun y=>ov x y
def E2 (d:Int) (X Y:List R6):Int:=sm X fun x=>sm Y fun y=>ov (nx d x) y
def Eqv (B B':List R6):Prop:= ∀f,sm B f=sm B' f
theorem Eqv.refl (X:List R6):Eqv X X:=fun _=>rfl
def c1 (d:Int) (X Y B:List R6):Int:=(E2 d X Y - E2 d B Y) - (E2 d X B - E2 d B B)
end Go.Am
namespace Go.Am
open Go.Proofs
end Go.Am
namespace Go.Am
open Go.Proofs
def vol1 (r:R6):Int:=IntKind.wrap .i64 (IntKind.wrap .i64 (IntKind.wrap .i64 (1*IntKind.wrap .i64 (r.d - r.a))*IntKind.wrap .i64 (r.e - r.b))*IntKind.wrap .i64 (r.f - r.c))
def volF :List R6→Int→Int
 | [],s=>s
 | r::l,s=>volF l (IntKind.wrap .i64 (s+vol1 r))
def u5c (l:List R6):Int:=volF l 0
theorem u5d (r:R6):Cg (vol1 r) (bxV r):=by unfold vol1 bxV;refine (((Cg.mul ?_ (Cg.wrap _)).w.mul (Cg.wrap _)).w);have h:Cg (1*IntKind.wrap .i64 (r.d - r.a)) (1*(r.d - r.a)):=Cg.mul (Cg.refl 1) (Cg.wrap _);exact h.w.trans (by rw [Int.one_mul];exact Cg.refl _)
theorem w5z : ∀(l:List R6) (s s':Int),Cg s s'→Cg (volF l s) (s'+sm l bxV)
 | [],s,s',h=>by rw [y3c,Int.add_zero];exact h
 | r::l,s,s',h=>by rw [Um,←Int.add_assoc];exact w5z l _ _ (h.add (u5d r)).w
theorem u5b (l:List R6):Cg (u5c l) (sm l bxV):=by have:=w5z l 0 0 (Cg.refl 0);rwa [Int.zero_add] at this
theorem w5y : ∀(l:List R6) (s:Int),(-9223372036854775808≤s∧s≤9223372036854775807)→ -9223372036854775808≤volF l s∧volF l s≤9223372036854775807
 | [],s,h=>h
 | r::l,s,h=>w5y l _ (x4x _)
theorem u4z (l:List R6): -9223372036854775808≤u5c l∧u5c l≤9223372036854775807:=w5y l 0 (by omega)
theorem u5a {l:List R6} {n:Int} (h:sm l bxV=n) (hn: -9223372036854775808≤n∧n≤9223372036854775807):u5c l=n:=by subst h;exact (u5b l).is (u4z l) hn
section
variable (X Y:List R6) (hX:X.length≤10000) (hY:Y.length≤10000)
include hX hY
end
end Go.Am
namespace Go.Am
open Go.Proofs
-- h0: index into an array (choices [true, false, false, false])
end Go.Am
namespace Go.Am
open Go.Proofs
end Go.Am
namespace Go.Am
open Go.Proofs
end Go.Am
namespace Go.Am
open Go.Proofs
end Go.Am
namespace Go.Am
open Go.Proofs
end Go.Am
namespace Go.Am
open Go.Proofs
def Wg (l:List R6):Bool:=true
def y3n (l:List R6):Bool:=true
end Go.Am
namespace Go.Am
open Go.Proofs.Tryz
open Go.Proofs
inductive dreS where
def dreC (l0:List R6) (l1:List R6):dreS→Cfg
 :=nofun
def x8g (l0:List R6) (l1:List R6):dreS→Xe dreS
 :=nofun
def y2k (l0:List R6) (l1:List R6):Xe dreS:=(bif (Wg (cvT l0)) then (bif ((Zf (cvT l0)) != 0) then (.ret [(.int .i64 0),(.int .i64 (Zf (cvT l0)))]) else (bif (Wg (cvT l1)) then (bif ((Zf (cvT l1)) != 0) then (.ret [(.int .i64 0),(.int .i64 (Zf (cvT l1)))]) else (bif ((l1.length:Int) == 0) then (bif (decide ((l0.length:Int)>0)) then (.ret [(.int .i64 0),(.int .i64 6)]) else (bif (decide ((Wf (l0.length:Int) (l1.length:Int))>40)) then (.ret [(.int .i64 0),(.int .i64 4)]) else (bif (Jt (cvT l0) (cvT l1)) then (.ret [(.int .i64 (w0l (cvT l0) (cvT l1))),(.int .i64 0)]) else .stuck))) else (bif (decide ((Wf (l0.length:Int) (l1.length:Int))>40)) then (.ret [(.int .i64 0),(.int .i64 4)]) else (bif (Jt (cvT l0) (cvT l1)) then (.ret [(.int .i64 (w0l (cvT l0) (cvT l1))),(.int .i64 0)]) else .stuck)))) else .stuck)) else .stuck)
theorem w4v (l0:List R6) (l1:List R6): ∀s,Xr prog (Zy prog 16) (dreC l0 l1) (dreC l0 l1 s) (x8g l0 l1 s)
 :=nofun
theorem x8h (l0:List R6) (l1:List R6):Xr prog (Zy prog 16) (dreC l0 l1) (Zi prog 16 [(.dat l0.length (Zz l0)),(.dat l1.length (Zz l1))] true []) (y2k l0 l1):=(lo fun bO=>(lb (fun k0=>(lr 30 16 [1,0,1,1,0,0] 1 16 [(4,(ii 0)),(5,(ii (Zf (cvT l0))))] (sl z8j 48 [] ⟨[],[],[some [4,5]],[]⟩ ⟨[],[],[]⟩ [true,true] (tt k0 (tt k0 (pp (pp (xr l0) (xw bO)) nn)))))) (fun k0=>(lo fun aJ=>(lb (fun k1=>(lr 30 16 [1,0,1,1,0,0] 1 16 [(4,(ii 0)),(5,(ii (Zf (cvT l1))))] (sl z8j 50 [] ⟨[],[],[some [4,5]],[]⟩ ⟨[],[],[]⟩ [false,true] (tt k1 (pp (pp (xr l1) (xw aJ)) (tt k0 (pp (pp (xr l0) (xw bO)) nn))))))) (fun k1=>(lb (fun k2=>(lb (fun k3=>(lr 30 16 [1,1,0,1,0,0] 1 16 [(4,(ii 0)),(5,(ii 6))] (sl z8j 63 [] ⟨[],[],[some [4,5]],[]⟩ ⟨[],[],[]⟩ [false,false,true,true,true,true] (tt k3 (tt k2 (tt k1 (pp (pp (xr l1) (xw aJ)) (tt k0 (pp (pp (xr l0) (xw bO)) nn))))))))) (fun k3=>(lb (fun k4=>(lr 30 16 [1,1,1,0,1,0,0] 1 16 [(4,(ii 0)),(5,(ii 4))] (sl z8j 75 [] ⟨[],[],[some [4,5]],[]⟩ ⟨[],[],[]⟩ [false,false,true,true,true,false,true] (tt k4 (tt k3 (tt k2 (tt k1 (pp (pp (xr l1) (xw aJ)) (tt k0 (pp (pp (xr l0) (xw bO)) nn)))))))))) (fun k4=>(lo fun o0=>(lr 30 3 [1,1,1,1,1,1,0] 1 16 [(4,(ii (w0l (cvT l0) (cvT l1)))),(5,(ii 0))] (sl z8j 79 [] ⟨[],[],[some [4,5]],[]⟩ ⟨[],[],[]⟩ [false,false,true,true,true,false,false] (pp (pp (xr l0) (pp (xr l1) (xw o0))) (tt k4 (tt k3 (tt k2 (tt k1 (pp (pp (xr l1) (xw aJ)) (tt k0 (pp (pp (xr l0) (xw bO)) nn)))))))))))))))) (fun k2=>(lb (fun k3=>(lr 30 16 [1,1,1,0,1,0,0] 1 16 [(4,(ii 0)),(5,(ii 4))] (sl z8j 75 [] ⟨[],[],[some [4,5]],[]⟩ ⟨[],[],[]⟩ [false,false,false,false,false,false,true] (tt k3 (tt k2 (tt k1 (pp (pp (xr l1) (xw aJ)) (tt k0 (pp (pp (xr l0) (xw bO)) nn))))))))) (fun k3=>(lo fun o0=>(lr 30 3 [1,1,1,1,1,1,0] 1 16 [(4,(ii (w0l (cvT l0) (cvT l1)))),(5,(ii 0))] (sl z8j 79 [] ⟨[],[],[some [4,5]],[]⟩ ⟨[],[],[]⟩ [false,false,false,false,false,false,false] (pp (pp (xr l0) (pp (xr l1) (xw o0))) (tt k3 (tt k2 (tt k1 (pp (pp (xr l1) (xw aJ)) (tt k0 (pp (pp (xr l0) (xw bO)) nn))))))))))))))))))))
theorem v8e (l0:List R6) (l1:List R6) (n:Nat) (vs:List AVal) (h:Yj (x8g l0 l1) n (y2k l0 l1)=.ret vs):Kg prog (Zy prog 16) (Zi prog 16 [(.dat l0.length (Zz l0)),(.dat l1.length (Zz l1))] true []) vs:=by have:=Yw (w4v l0 l1) n _ (x8h l0 l1);rwa [h] at this
inductive ddiS where
def ddiC (l0:List R6) (l1:List R6):ddiS→Cfg
 :=nofun
def x8j (l0:List R6) (l1:List R6):ddiS→Xe ddiS
 :=nofun
def y2l (l0:List R6) (l1:List R6):Xe ddiS:=(bif (Wg (cvT l0)) then (bif ((Zf (cvT l0)) != 0) then (.ret [(.int .i64 0),(.int .i64 (Zf (cvT l0)))]) else (bif (Wg (cvT l1)) then (bif ((Zf (cvT l1)) != 0) then (.ret [(.int .i64 0),(.int .i64 (Zf (cvT l1)))]) else (bif ((l0.length:Int) == 0) then (.ret [(.int .i64 0),(.int .i64 6)]) else (bif ((l1.length:Int) == 0) then (.ret [(.int .i64 0),(.int .i64 6)]) else (bif (decide ((Wf (l0.length:Int) (l1.length:Int))>40)) then (.ret [(.int .i64 0),(.int .i64 4)]) else (bif (Jt (cvT l0) (cvT l1)) then (bif (Jt (cvT l1) (cvT l0)) then (.ret [(.int .i64 (Wf (w0l (cvT l0) (cvT l1)) (w0l (cvT l1) (cvT l0)))),(.int .i64 0)]) else .stuck) else .stuck))))) else .stuck)) else .stuck)
theorem w4w (l0:List R6) (l1:List R6): ∀s,Xr prog (Zy prog 18) (ddiC l0 l1) (ddiC l0 l1 s) (x8j l0 l1 s)
 :=nofun
theorem x8k (l0:List R6) (l1:List R6):Xr prog (Zy prog 18) (ddiC l0 l1) (Zi prog 18 [(.dat l0.length (Zz l0)),(.dat l1.length (Zz l1))] true []) (y2l l0 l1):=(lo fun bO=>(lb (fun k0=>(lr 34 18 [1,0,1,1,0,0] 1 16 [(4,(ii 0)),(5,(ii (Zf (cvT l0))))] (sl z8j 48 [] ⟨[],[],[some [4,5]],[]⟩ ⟨[],[],[]⟩ [true,true] (tt k0 (tt k0 (pp (pp (xr l0) (xw bO)) nn)))))) (fun k0=>(lo fun aJ=>(lb (fun k1=>(lr 34 18 [1,0,1,1,0,0] 1 16 [(4,(ii 0)),(5,(ii (Zf (cvT l1))))] (sl z8j 50 [] ⟨[],[],[some [4,5]],[]⟩ ⟨[],[],[]⟩ [false,true] (tt k1 (pp (pp (xr l1) (xw aJ)) (tt k0 (pp (pp (xr l0) (xw bO)) nn))))))) (fun k1=>(lb (fun k2=>(lr 34 18 [1,1,0,1,0,0] 1 16 [(4,(ii 0)),(5,(ii 6))] (sl z8j 63 [] ⟨[],[],[some [4,5]],[]⟩ ⟨[],[],[]⟩ [false,false,true,true,true,true] (tt k2 (tt k1 (pp (pp (xr l1) (xw aJ)) (tt k0 (pp (pp (xr l0) (xw bO)) nn)))))))) (fun k2=>(lb (fun k3=>(lr 34 18 [1,1,0,1,0,0] 1 16 [(4,(ii 0)),(5,(ii 6))] (sl z8j 63 [] ⟨[],[],[some [4,5]],[]⟩ ⟨[],[],[]⟩ [false,false,false,false,false,true] (tt k3 (tt k2 (tt k1 (pp (pp (xr l1) (xw aJ)) (tt k0 (pp (pp (xr l0) (xw bO)) nn))))))))) (fun k3=>(lb (fun k4=>(lr 34 18 [1,1,1,0,1,0,0] 1 16 [(4,(ii 0)),(5,(ii 4))] (sl z8j 75 [] ⟨[],[],[some [4,5]],[]⟩ ⟨[],[],[]⟩ [false,false,false,false,false,false,true] (tt k4 (tt k3 (tt k2 (tt k1 (pp (pp (xr l1) (xw aJ)) (tt k0 (pp (pp (xr l0) (xw bO)) nn)))))))))) (fun k4=>(lo fun o0=>(lo fun o1=>(lr 34 3 [1,1,1,1,1,1,0] 1 16 [(4,(ii (Wf (w0l (cvT l0) (cvT l1)) (w0l (cvT l1) (cvT l0))))),(5,(ii 0))] (sl z8j 83 [] ⟨[],[],[some [4,5]],[]⟩ ⟨[],[],[]⟩ [false,false,false,false,false,false,false] (pp (pp (xr l1) (pp (xr l0) (xw o1))) (pp (pp (xr l0) (pp (xr l1) (xw o0))) (tt k4 (tt k3 (tt k2 (tt k1 (pp (pp (xr l1) (xw aJ)) (tt k0 (pp (pp (xr l0) (xw bO)) nn)))))))))))))))))))))))))
theorem v8h (l0:List R6) (l1:List R6) (n:Nat) (vs:List AVal) (h:Yj (x8j l0 l1) n (y2l l0 l1)=.ret vs):Kg prog (Zy prog 18) (Zi prog 18 [(.dat l0.length (Zz l0)),(.dat l1.length (Zz l1))] true []) vs:=by have:=Yw (w4w l0 l1) n _ (x8k l0 l1);rwa [h] at this
end Go.Am
namespace Go.Am
open Go.Proofs Go.Sort Go.Shelf Go.RowKit Go.Lib
namespace Dim
variable {α β:Type} (D:Dim α β)
structure Fair :Prop where
 lo_put: ∀x x' b,D.lo (D.put x x' b)=x
 hi_put: ∀x x' b,D.hi (D.put x x' b)=x'
 pr_put: ∀x x' b,D.pr (D.put x x' b)=b
 ext_put: ∀x x' x'' b,D.ext x'' (D.put x x' b)=D.put x x'' b
def Ap (R:β→β→Prop) (a b:α):Prop:=D.hi a≤D.lo b∨D.hi b≤D.lo a∨R (D.pr a) (D.pr b)
theorem w8r {D:Dim α β} (hD:D.Fair) (R:β→β→Prop) (sec:Int→List β) (cs:List Int) (hc:cs.Pairwise (· < ·)) (fK: ∀x,(sec x).Pairwise R):
  ∀(k i:Nat) (pre:List α) (last:List β) (x0:Int),(i+k<cs.length∨k=0)→pre.Pairwise (D.Ap R)→(∀a∈pre,D.hi a≤x0)→(last≠ []→x0≤rd cs i)→(last=[]→x0≤rd cs i)→last.Pairwise R→
  (D.ref sec cs k i (pre++last.map (D.put x0 (rd cs i))) last pre.length).Pairwise (D.Ap R):=by
 have fin: ∀(pre:List α) (last:List β) (x0 x':Int),pre.Pairwise (D.Ap R)→(∀a∈pre,D.hi a≤x0)→last.Pairwise R→(pre++last.map (D.put x0 x')).Pairwise (D.Ap R):=fun pre last x0 x' h1 h2 h3=>by
  refine List.pairwise_append.2 ⟨h1,?_,fun a ha b hb=> ?_⟩
  ·refine List.pairwise_map.2 (h3.imp fun {a b} h=>.inr (.inr ?_));rw [hD.pr_put,hD.pr_put];exact h
  ·obtain ⟨c,_,rfl⟩:=List.mem_map.1 hb;exact .inl (by rw [hD.lo_put];exact h2 a ha)
 intro k
 induction k with
 | zero=>intro i pre last x0 _ h1 h2 _ _ h3;exact fin pre last x0 _ h1 h2 h3
 | succ k ih=>
  intro i pre last x0 hk h1 h2 h4 h5 h3;have hlt:rd cs i<rd cs (i+1):=z3a hc (Nat.lt_succ_self _) (by omega);unfold ref;cases hq:(decide (0<i)&&D.same (sec (rd cs i)) last) with
  | true=>
   rw [cond_true];have e:D.grow (pre++last.map (D.put x0 (rd cs i))) pre.length (rd cs (i+1))=pre++last.map (D.put x0 (rd cs (i+1))):=by
    unfold grow;rw [List.take_left,List.drop_left,List.map_map]
    congr 1
    exact List.map_congr_left fun b _=>hD.ext_put _ _ _ _
   rw [e];exact ih (i+1) pre last x0 (by omega) h1 h2 (fun h=>by have:=h4 h;omega) (fun h=>by have:=h5 h;omega) h3
  | false=>
   rw [cond_false];refine ih (i+1) (pre++last.map (D.put x0 (rd cs i))) (sec (rd cs i)) (rd cs i) (by omega) (fin pre last x0 _ h1 h2 h3) (fun a ha=> ?_) (fun _=>by omega) (fun _=>by omega) (fK _);rcases List.mem_append.1 ha with ha | ha
   ·have:=h2 a ha;by_cases e:last=[]
    ·have:=h5 e;omega
    ·have:=h4 e;omega
   ·obtain ⟨c,_,rfl⟩:=List.mem_map.1 ha;rw [hD.hi_put];exact Int.le_refl _
theorem out_apart {D:Dim α β} (hD:D.Fair) (R:β→β→Prop) (hs: ∀a b,D.same a b=true↔a=b) (l:List α) (fK: ∀x,(D.sec l x).Pairwise R):(D.out l).Pairwise (D.Ap R):=by
 rw [D.out_eq hs l];have hc:(D.cuts l).Pairwise (· < ·):=by show (Us (D.ends l)).Pairwise (· < ·);rw [Jj];exact (Wc _).1
 have:=w8r hD R (D.sec l) (D.cuts l) hc fK ((D.cuts l).length - 1) 0 [] [] (rd (D.cuts l) 0) (by omega) .nil (by simp) (fun _=>Int.le_refl _) (fun _=>Int.le_refl _) .nil;exact this
end Dim
theorem z9u :D4.Fair:=⟨fun _ _ _=>rfl,fun _ _ _=>rfl,fun _ _ _=>rfl,fun _ _ _ _=>rfl⟩
theorem z4h :D6.Fair:=⟨fun _ _ _=>rfl,fun _ _ _=>rfl,fun _ _ _=>rfl,fun _ _ _ _=>rfl⟩
def Ap2 (s t:R2):Prop:=s.b≤t.a∨t.b≤s.a
def Ap4 (s t:R4):Prop:=s.c≤t.a∨t.c≤s.a∨s.d≤t.b∨t.d≤s.b
def Ap6 (s t:R6):Prop:=s.d≤t.a∨t.d≤s.a∨s.e≤t.b∨t.e≤s.b∨s.f≤t.c∨t.f≤s.c
theorem w6i (l:List R2):(Xf l).Pairwise Ap2:=by
 unfold Xf;by_cases h:400<l.length
 ·rw [decide_eq_true h];exact .nil
 ·rw [decide_eq_false h,cond_false];cases hv:l.all z1c with
  | false=>exact .nil
  | true=>rw [cond_true];exact (x5e l hv).1.sep.imp fun {s t} h=>.inl (by omega)
theorem w8h (l:List R4):(Zm l).Pairwise Ap4:=by
 have key:(D4.out l).Pairwise Ap4:=(Dim.out_apart z9u Ap2 (fun a b=>decide_eq_true_iff) l fun x=>w6i _).imp fun {s t} h=>by
  rcases h with h | h | h | h
  ·exact .inl h
  ·exact .inr (.inl h)
  ·exact .inr (.inr (.inl h))
  ·exact .inr (.inr (.inr h))
 unfold Zm;by_cases h:400<l.length
 ·rw [decide_eq_true h];exact .nil
 ·rw [decide_eq_false h,cond_false];cases l.all Kv with
  | false=>exact .nil
  | true=>
   rw [cond_true];cases decide (((D4.out l).length :Int)>400) with
   | true=>exact .nil
   | false=>exact key
theorem Jw {l:List R6} (h:Zf l=0):l.length≤400∧(∀r∈l,Ut r=true)∧l=D6.out l∧l.Pairwise Ap6:=by
 unfold Zf at h;by_cases h1:400<l.length
 ·rw [decide_eq_true h1] at h;cases h
 ·rw [decide_eq_false h1,cond_false] at h;cases hv:l.all Ut with
  | false=>rw [hv] at h;cases h
  | true=>
   rw [hv,cond_true] at h;cases ho:okF l ((D6.cuts l).length - 1) 0 with
   | false=>rw [ho] at h;cases h
   | true=>
    rw [ho,cond_true] at h;cases h2:decide (((D6.out l).length :Int)>400) with
    | true=>rw [h2] at h;cases h
    | false=>
     rw [h2,cond_false] at h;cases h3:Kp (D6.out l) l with
     | false=>rw [h3] at h;cases h
     | true=>
      have e:D6.out l=l:=of_decide_eq_true h3;refine ⟨by omega,fun r hr=>List.all_eq_true.1 hv r hr,e.symm,?_⟩;have:=(Dim.out_apart z4h Ap4 (fun a b=>decide_eq_true_iff) l fun x=>w8h _).imp (S:=Ap6) fun {s t} h=>by
       rcases h with h | h | h | h | h | h
       ·exact .inr (.inr (.inr (.inr (.inl h))))
       ·exact .inr (.inr (.inr (.inr (.inr h))))
       ·exact .inl h
       ·exact .inr (.inl h)
       ·exact .inr (.inr (.inl h))
       ·exact .inr (.inr (.inr (.inl h)))
      rwa [e] at this
theorem Xy {r:R6} (h:Ut r=true):r.a<r.d∧r.b<r.e∧r.c<r.f∧ -1000000≤r.a∧ -1000000≤r.b∧ -1000000≤r.c∧r.d≤1000000∧r.e≤1000000∧r.f≤1000000:=by rw [x9l] at h;simp only [x9m,Bool.and_eq_true,decide_eq_true_eq] at h;omega
end Go.Am
namespace Go.Am
open Go.Proofs.Tryz
open Go.Proofs
theorem z4k (l:List R6):Wg l=true:=rfl
theorem v5i (l:List R6):y3n l=true:=rfl
def eRe (k:List R6→Int) (L0 L1:List R6):Int:=bif k L0 != 0 then k L0 else bif k L1 != 0 then k L1 else bif decide ((L0.length:Int)>0)&&((L1.length:Int) == 0) then 6 else bif decide ((L0.length:Int)>40)||decide ((L1.length:Int)>40) then 4 else 0
def eDi (k:List R6→Int) (L0 L1:List R6):Int:=bif k L0 != 0 then k L0 else bif k L1 != 0 then k L1 else bif ((L0.length:Int) == 0)||((L1.length:Int) == 0) then 6 else bif decide ((L0.length:Int)>40)||decide ((L1.length:Int)>40) then 4 else 0
def z2v (L0 L1:List R6):Int:=eRe Zf L0 L1
def z1o (L0 L1:List R6):Int:=bif eRe Zf L0 L1 == 0 then w0l L0 L1 else 0
def Kz (L0 L1:List R6):Int:=eDi Zf L0 L1
def Je (L0 L1:List R6):Int:=bif eDi Zf L0 L1 == 0 then Wf (w0l L0 L1) (w0l L1 L0) else 0
def z4c (L0 L1:List R6):Bool:=true
def Jx (L0 L1:List R6):Bool:=true
theorem u3t (a b:Int):decide (Wf a b>40)=(decide (a>40)||decide (b>40)):=by
 unfold Wf;split
 ·rcases Yv (decide (b>40)) with h | h
  ·rw [h,Bool.or_true]
  ·have:=of_decide_eq_false h;rw [h,Ys (by omega)];rfl
 ·rcases Yv (decide (a>40)) with h | h
  ·rw [h];rfl
  ·have:=of_decide_eq_false h;rw [h,Ys (by omega)];rfl
theorem w9b {L0 L1:List R6} (h0: ¬((L0.length:Int)>40)) (h1: ¬((L1.length:Int)>40)):Jt L0 L1=true:=by unfold Jt;rw [Yz (by omega),Yz (by omega)];rfl
theorem len0 {L:List R6} (h:decide ((L.length:Int)>0)=false):((L.length:Int) == 0)=true:=by have:=of_decide_eq_false h;exact beq_t' (by omega)
theorem j0w (L0 L1:List R6) (h:z4c L0 L1=true): ∃N,Yj (x8g L0 L1) N (y2k L0 L1)=.ret [.int .i64 (z1o L0 L1),.int .i64 (z2v L0 L1)]:=⟨0,by
 have hk: ∀l,(Zf l != 0)= !(Zf l == 0):=fun _=>rfl;unfold y2k z1o z2v eRe;simp only [Zp,z4k,cond_true,u3t,hk];rcases Yv (Zf L0 == 0) with a0 | a0 <;> rcases Yv (Zf L1 == 0) with a1 | a1 <;> rcases Yv ((L1.length:Int) == 0) with b | b <;> rcases Yv (decide ((L0.length:Int)>0)) with c | c <;> rcases Yv (decide ((L0.length:Int)>40)) with d | d <;> rcases Yv (decide ((L1.length:Int)>40)) with e | e <;> rw [a0,a1,b,c,d,e] <;>
  simp only [Bool.not_true,Bool.not_false,Bool.and_true,Bool.and_false,Bool.true_and,Bool.false_and,Bool.or_true,Bool.or_false,Bool.true_or,Bool.false_or,cond_true,cond_false,a0,a1] <;>
  first | rfl | (rw [w9b (of_decide_eq_false d) (of_decide_eq_false e)];rfl)⟩
theorem j0x (L0 L1:List R6) (h:Jx L0 L1=true): ∃N,Yj (x8j L0 L1) N (y2l L0 L1)=.ret [.int .i64 (Je L0 L1),.int .i64 (Kz L0 L1)]:=⟨0,by
 have hk: ∀l,(Zf l != 0)= !(Zf l == 0):=fun _=>rfl;unfold y2l Je Kz eDi;simp only [Zp,z4k,cond_true,u3t,hk];rcases Yv (Zf L0 == 0) with a0 | a0 <;> rcases Yv (Zf L1 == 0) with a1 | a1 <;> rcases Yv ((L1.length:Int) == 0) with b | b <;> rcases Yv ((L0.length:Int) == 0) with c | c <;> rcases Yv (decide ((L0.length:Int)>40)) with d | d <;> rcases Yv (decide ((L1.length:Int)>40)) with e | e <;> rw [a0,a1,b,c,d,e] <;>
  simp only [Bool.not_true,Bool.not_false,Bool.and_true,Bool.and_false,Bool.true_and,Bool.false_and,Bool.or_true,Bool.or_false,Bool.true_or,Bool.false_or,cond_true,cond_false,a0,a1] <;>
  first | rfl | (rw [w9b (of_decide_eq_false d) (of_decide_eq_false e),w9b (of_decide_eq_false e) (of_decide_eq_false d)];rfl)⟩
def fDre :List AVal→Option (AVal×Bool)
 | [a0,a1]=>match asL R6 a0,asL R6 a1 with
  | some (L0,g0,n0),some (L1,g1,n1)=>some (.tup [.int .i64 (z1o L0 L1),.int .i64 (z2v L0 L1)],isT R6 n0 g0&&(isT R6 n1 g1&&(z4c L0 L1)))
  | _,_=>none
 | _=>none
theorem j0g {S:Specs} (hS:Zq prog S):Zq prog (S.with v0b fDre):=by
 refine z3b hS (by kernel_rfl) fun args v h=> ?_;unfold fDre at h;split at h
 ·rename_i a0 a1;split at h
  ·rename_i L0 g0 n0 L1 g1 n1 e0 e1;simp only [Option.some.injEq,Prod.mk.injEq,Bool.and_eq_true] at h;obtain ⟨rfl,ho0,ho1,hw⟩:=h;obtain ⟨N,hN⟩:=j0w L0 L1 hw;exact ⟨_,_,(.cons (asL_le e0 ho0) (.cons (asL_le e1 ho1) .nil)),rfl,v8e L0 L1 N _ hN,3,rfl⟩
  ·cases h
 ·cases h
def fDdi :List AVal→Option (AVal×Bool)
 | [a0,a1]=>match asL R6 a0,asL R6 a1 with
  | some (L0,g0,n0),some (L1,g1,n1)=>some (.tup [.int .i64 (Je L0 L1),.int .i64 (Kz L0 L1)],isT R6 n0 g0&&(isT R6 n1 g1&&(Jx L0 L1)))
  | _,_=>none
 | _=>none
theorem j0h {S:Specs} (hS:Zq prog S):Zq prog (S.with u2q fDdi):=by
 refine z3b hS (by kernel_rfl) fun args v h=> ?_;unfold fDdi at h;split at h
 ·rename_i a0 a1;split at h
  ·rename_i L0 g0 n0 L1 g1 n1 e0 e1;simp only [Option.some.injEq,Prod.mk.injEq,Bool.and_eq_true] at h;obtain ⟨rfl,ho0,ho1,hw⟩:=h;obtain ⟨N,hN⟩:=j0x L0 L1 hw;exact ⟨_,_,(.cons (asL_le e0 ho0) (.cons (asL_le e1 ho1) .nil)),rfl,v8h L0 L1 N _ hN,3,rfl⟩
  ·cases h
 ·cases h
def Dd :Specs:=((Dc.with v0b fDre).with u2q fDdi)
theorem Jo :Zq prog Dd:=(j0h (j0g z8j))
end Go.Am
namespace Go.Am
open Go.Proofs.Tryz
open Go.Proofs
inductive slmS where
 | h0 (v8:Int)
 | h1 (v16:Int) (aB:List Int)
 | h2 (v4:Int) (aC:List R6) (aP:List R4) (aV:Int) (aW:Int) (aG:Nat) (aI:List Int)
 | h3 (v4:Int) (v38:Int) (aC:List R6) (aP:List R4) (aV:Int) (aW:Int) (aG:Nat) (aI:List Int) (aN:Int) (aT:Int) (aA:List R4)
 | h4 (v1:Int) (v2:Int) (v72:List R4) (v73:Int) (v74:Int) (bM:List R4) (aR:Int) (aF:List R6) (bI:List R4) (bB:Int) (aG:Nat) (aI:List Int) (aN:List R4)
 | h5 (v2:Int) (v8:Int) (cF:Int) (bM:List R4) (aR:Int) (aF:List R6) (bI:List R4) (bB:Int) (cI:Int) (bG:Nat) (bW:List Int) (aA:List R4)
abbrev y6t (aF:List R6) (v8:Int) (v2:Int):=(aF.set (0+(tn v8)) (R6.mk (rd aF (0+(tn v8))).a (rd aF (0+(tn v8))).b (rd aF (0+(tn v8))).c (rd aF (0+(tn v8))).d (rd aF (0+(tn v8))).e v2))
abbrev y6s (aB:List Int):=(Xx (Yp aB.length (cOf (Zz (Yh (Yp aB.length (cOf (Zz aB))))))))
def w6v :AFr:=⟨⟨15,0,true⟩,(Wd prog 77 [1,1,1,0] 3),(Zb prog 77 [1,1,1,0] 1),none,(Zy prog 77),Yq [(9,(.agg [.nilf])),(11,(.sl 8 0 1 (.un 1)))]⟩
abbrev y6r (aA:List R4) (l0:List R6) (v38:Int):=(aA++[(R4.mk (rd l0 (tn v38)).a (rd l0 (tn v38)).b (rd l0 (tn v38)).d (rd l0 (tn v38)).e)])
abbrev y6q (aF:List R6) (v72:List R4) (v74:Int) (v1:Int) (v2:Int):=(aF++[(R6.mk (rd v72 (tn v74)).a (rd v72 (tn v74)).b v1 (rd v72 (tn v74)).c (rd v72 (tn v74)).d v2)])
def u0e :=(z5j [(0,⟨.ready,none,65,Yq [(2,(.ptr 1 0)),(4,(.ptr 2 0)),(5,(.ptr 3 0)),(6,(.ptr 4 0))],[15],(Xd prog 108 [1,1,0,1,0,0]),(Xd prog 108 [1,1,0,1,0,1])⟩)])
def u0d :AFr:=⟨⟨65,0,true⟩,none,(.inRangeFunc 0::(Zb prog 108 [1,1,0,1,0] 1)),none,(Zy prog 36),Yq [(4,(.ptr 2 0)),(5,(.ptr 3 0)),(6,(.ptr 4 0))]⟩
def z3j (l0:List R6):AVal:=(.dat l0.length (Zz l0))
abbrev y6p (aB:List Int) (l0:List R6) (v16:Int):=(aB++[(rd l0 (tn v16)).c,(rd l0 (tn v16)).f])
def slmC (l0:List R6):slmS→Cfg
 | .h0 v8=>⟨⟨19,0,true⟩,none,(Zb prog 134 [1,0,1,0,0] 0),none,(Zy prog 3),⟨Yq [(0,(z3j l0)),(1,(.fn 113 [])),(7,(ii (l0.length:Int))),(8,(ii v8))],Uv [] 0,0,[],true⟩,[⟨⟨9,0,true⟩,(Wd prog 112 [1,0] 2),(Zb prog 112 [1,0] 1),none,(Zy prog 3),Yq [(5,(z3j l0)),(6,(.fn 113 []))]⟩,⟨⟨15,0,true⟩,(Wd prog 77 [1,1,0,0] 1),(Zb prog 77 [1,1,0,0] 1),none,(Zy prog 77),Yq [(0,(z3j l0)),(7,(z3j l0))]⟩],.leaf⟩
 | .h1 v16 aB=>⟨⟨36,0,true⟩,none,(Zb prog 129 [1,1,0,1,0,0,1,1,0,0,1,1,0,0] 0),none,(Zy prog 15),⟨Yq [(1,(.ptr 0 0)),(3,(.ptr 2 0)),(8,(.sl 1 0 1 (.un 1))),(9,(ii 1)),(10,(ii 0)),(14,(z3j l0)),(15,(ii (l0.length:Int))),(16,(ii v16))],Uv [⟨[(.sl 1 0 1 (.un 1))],168,none⟩,⟨[(z3j l0)],22,none⟩,⟨[(.sla 7 1 0 aB.length (.un 1))],47,none⟩,⟨[.nilf],124,none⟩,⟨[.nils],30,none⟩,⟨[(ii 0)],24,none⟩,⟨[.nils,.nils,(ii 0),(ii 0)],170,none⟩,⟨rows aB.length (Zz aB),3,some ⟨1,aB.length,(Zz aB)⟩⟩] 0,8,[],true⟩,[⟨⟨65,0,true⟩,(Wd prog 108 [1,1,0,0] 1),(Zb prog 108 [1,1,0,0] 1),none,(Zy prog 36),Yq [(2,(.ptr 3 0)),(4,(.ptr 4 0)),(5,(.ptr 5 0)),(6,(.ptr 6 0)),(13,(.sl 1 0 1 (.un 1)))]⟩,⟨⟨15,0,true⟩,(Wd prog 77 [1,1,1,0] 3),(Zb prog 77 [1,1,1,0] 1),none,(Zy prog 77),Yq [(9,(.agg [.nilf])),(11,(.sl 1 0 1 (.un 1)))]⟩],.leaf⟩
 | .h2 v4 aC aP aV aW aG aI=>⟨⟨86,0,true⟩,none,(Zb prog 150 [1,0,0] 0),none,[],⟨Yq [(0,(.yld 0)),(1,(.ptr 5 0)),(2,(.ptr 7 0)),(4,(ii v4))],z0z [(1,⟨[.nilf],124,none⟩),(2,⟨[.nils],30,none⟩),(3,⟨[(ii 0)],24,none⟩),(4,⟨[(.sla 9 6 0 aC.length (.un 6)),(.dat aP.length (Zz aP)),(ii aV),(ii aW)],170,none⟩),(5,⟨[(.sla 6 1 0 aG (.un 1))],47,none⟩),(6,⟨rows aI.length (Zz aI),3,some ⟨1,aI.length,(Zz aI)⟩⟩),(7,⟨[(.sl 8 0 1 (.un 1))],168,none⟩),(8,⟨[(z3j l0)],22,none⟩),(9,⟨rows aC.length (Zz aC),68,some ⟨6,aC.length,(Zz aC)⟩⟩)],10,[],true⟩,[u0d,w6v],u0e⟩
 | .h3 v4 v38 aC aP aV aW aG aI aN aT aA=>⟨⟨86,0,true⟩,none,(Zb prog 150 [1,0,0,1,0,0,1,0,1,0,0,1,1,0,0,1,1,0,0] 0),none,[],⟨Yq [(0,(.yld 0)),(1,(.ptr 5 0)),(2,(.ptr 7 0)),(4,(ii v4)),(5,(.ptr 9 0)),(6,(ii 0)),(29,(.sl 8 0 1 (.un 1))),(30,(ii 1)),(31,(ii 0)),(36,(z3j l0)),(37,(ii (l0.length:Int))),(38,(ii v38))],z0z [(1,⟨[.nilf],124,none⟩),(2,⟨[.nils],30,none⟩),(3,⟨[(ii 0)],24,none⟩),(4,⟨[(.sla 12 6 0 aC.length (.un 6)),(.dat aP.length (Zz aP)),(ii aV),(ii aW)],170,none⟩),(5,⟨[(.sla 6 1 0 aG (.un 1))],47,none⟩),(6,⟨rows aI.length (Zz aI),3,some ⟨1,aI.length,(Zz aI)⟩⟩),(7,⟨[(.sl 8 0 1 (.un 1))],168,none⟩),(8,⟨[(z3j l0)],22,none⟩),(9,⟨[(ii aN),(ii aT),(.sl 10 0 1 (.ex 1))],175,none⟩),(10,⟨[(.sla 11 4 0 aA.length (.un 4))],105,none⟩),(11,⟨rows aA.length (Zz aA),114,some ⟨4,aA.length,(Zz aA)⟩⟩),(12,⟨rows aC.length (Zz aC),68,some ⟨6,aC.length,(Zz aC)⟩⟩)],13,[],true⟩,[u0d,w6v],u0e⟩
 | .h4 v1 v2 v72 v73 v74 bM aR aF bI bB aG aI aN=>⟨⟨101,0,true⟩,none,(Zb prog 131 [1,1,1,0,0] 0),none,[],⟨Yq [(0,(.ptr 0 0)),(1,(ii v1)),(2,(ii v2)),(72,(.dat v72.length (Zz v72))),(73,(ii v73)),(74,(ii v74))],z0z [(0,⟨[(.sla 10 6 0 aF.length (.un 6)),(.dat bI.length (Zz bI)),(ii bB),(ii v2)],170,none⟩),(2,⟨[.nilf],124,none⟩),(3,⟨[.nils],30,none⟩),(4,⟨[(ii 0)],24,none⟩),(5,⟨[(.sla 6 1 0 aG (.un 1))],47,none⟩),(6,⟨rows aI.length (Zz aI),3,some ⟨1,aI.length,(Zz aI)⟩⟩),(7,⟨[(.sl 8 0 1 (.un 1))],168,none⟩),(8,⟨[(z3j l0)],22,none⟩),(9,⟨[(.dat aN.length (Zz aN))],105,none⟩),(10,⟨rows aF.length (Zz aF),68,some ⟨6,aF.length,(Zz aF)⟩⟩)],11,[],true⟩,[⟨⟨65,0,true⟩,(Wd prog 108 [1,1,0,1,0,1,0,1,1,1] 5),(Zb prog 108 [1,1,0,1,0,1,0,1,1,1] 1),(some 1),[],Yq [(6,(.ptr 0 0)),(54,(ii v1)),(56,(ii v2)),(57,(.dat bM.length (Zz bM)))]⟩,⟨⟨86,0,true⟩,(Wd prog 150 [1,0,0,1,0,0,1,1,0] 2),(Zb prog 150 [1,0,0,1,0,0,1,1,0] 1),none,[],Yq [(0,(.yld 1)),(1,(.ptr 5 0)),(2,(.ptr 7 0)),(4,(ii aR)),(82,(.yld 1)),(83,(.agg [(ii v1),(ii v2),(.sl 9 0 1 (.ex 1))]))]⟩,⟨⟨65,0,true⟩,none,(.inRangeFunc 1::(Zb prog 108 [1,1,0,1,0] 1)),none,(Zy prog 36),Yq [(4,(.ptr 3 0)),(5,(.ptr 4 0)),(6,(.ptr 0 0))]⟩,w6v],(z5j [(1,⟨.busy,none,65,Yq [(2,(.ptr 2 0)),(4,(.ptr 3 0)),(5,(.ptr 4 0)),(6,(.ptr 0 0))],[15],(Xd prog 108 [1,1,0,1,0,0]),(Xd prog 108 [1,1,0,1,0,1])⟩)])⟩
 | .h5 v2 v8 cF bM aR aF bI bB cI bG bW aA=>⟨⟨101,0,true⟩,none,(Zb prog 131 [0,1,0,0,1,0,0] 0),none,[],⟨Yq [(0,(.ptr 0 0)),(2,(ii v2)),(8,(ii v8))],z0z [(0,⟨[(.sla 1 6 0 aF.length (.un 6)),(.dat bI.length (Zz bI)),(ii bB),(ii cI)],170,none⟩),(1,⟨rows aF.length (Zz aF),68,some ⟨6,aF.length,(Zz aF)⟩⟩),(3,⟨[.nilf],124,none⟩),(4,⟨[.nils],30,none⟩),(5,⟨[(ii 0)],24,none⟩),(6,⟨[(.sla 7 1 0 bG (.un 1))],47,none⟩),(7,⟨rows bW.length (Zz bW),3,some ⟨1,bW.length,(Zz bW)⟩⟩),(8,⟨[(.sl 9 0 1 (.un 1))],168,none⟩),(9,⟨[(z3j l0)],22,none⟩),(10,⟨[(.dat aA.length (Zz aA))],105,none⟩)],11,[],true⟩,[⟨⟨65,0,true⟩,(Wd prog 108 [1,1,0,1,0,1,0,1,1,1] 5),(Zb prog 108 [1,1,0,1,0,1,0,1,1,1] 1),(some 2),[],Yq [(6,(.ptr 0 0)),(54,(ii cF)),(56,(ii v2)),(57,(.dat bM.length (Zz bM)))]⟩,⟨⟨86,0,true⟩,(Wd prog 150 [1,0,0,1,0,0,1,1,0] 2),(Zb prog 150 [1,0,0,1,0,0,1,1,0] 1),none,[],Yq [(0,(.yld 2)),(1,(.ptr 6 0)),(2,(.ptr 8 0)),(4,(ii aR)),(82,(.yld 2)),(83,(.agg [(ii cF),(ii v2),(.sl 10 0 1 (.ex 1))]))]⟩,⟨⟨65,0,true⟩,none,(.inRangeFunc 2::(Zb prog 108 [1,1,0,1,0] 1)),none,(Zy prog 36),Yq [(4,(.ptr 4 0)),(5,(.ptr 5 0)),(6,(.ptr 0 0))]⟩,⟨⟨15,0,true⟩,(Wd prog 77 [1,1,1,0] 3),(Zb prog 77 [1,1,1,0] 1),none,(Zy prog 77),Yq [(9,(.agg [.nilf])),(11,(.sl 9 0 1 (.un 1)))]⟩],(z5j [(2,⟨.busy,none,65,Yq [(2,(.ptr 3 0)),(4,(.ptr 4 0)),(5,(.ptr 5 0)),(6,(.ptr 0 0))],[15],(Xd prog 108 [1,1,0,1,0,0]),(Xd prog 108 [1,1,0,1,0,1])⟩)])⟩
def slmN0 :List (Option (List Nat)):=[some [0,1,7,8],some [5,6],some [0,7]]
def slmM0 :List (Option (List Nat)):=[]
def u5u :List (Option (List Nat)):=[some [1,3,8,9,10,14,15,16],some [2,4,5,6,13],some [9,11]]
def u5w :List (Option (List Nat)):=[]
def u5t :List (Option (List Nat)):=[some [0,1,2,4],some [4,5,6],some [9,11]]
def u5v :List (Option (List Nat)):=[some [2,4,5,6],none,none,none,none,none,none,none,none,none]
def v3s :List (Option (List Nat)):=[some [0,1,2,4,5,6,29,30,31,36,37,38],some [4,5,6],some [9,11]]
def v3u :List (Option (List Nat)):=[some [2,4,5,6],none,none,none,none,none,none,none,none,none,none,none,none]
def v3r :List (Option (List Nat)):=[some [0,1,2,72,73,74],some [6,54,56,57],some [0,1,2,4,82,83],some [4,5,6],some [9,11]]
def v3t :List (Option (List Nat)):=[none,some [2,4,5,6],none,none,none,none,none,none,none,none,none]
def slmN5 :List (Option (List Nat)):=[some [0,2,8],some [6,54,56,57],some [0,1,2,4,82,83],some [4,5,6],some [9,11]]
def slmM5 :List (Option (List Nat)):=[none,none,some [2,4,5,6],none,none,none,none,none,none,none,none]
def Xk (l0:List R6):slmS→Xe slmS
 | .h0 v8=>(bif (decide (v8<(l0.length:Int))) then (bif ((decide (0≤v8∧v8<(l0.length:Int)))&&true) then (bif (!(u5f (rd l0 v8.toNat).a (rd l0 v8.toNat).b (rd l0 v8.toNat).c (rd l0 v8.toNat).d (rd l0 v8.toNat).e (rd l0 v8.toNat).f)) then (bif (decide (v8≥0)) then (.ret [.nils,(.int .i64 8)]) else (.to (.h1 0 ([]:List Int)))) else (.to (.h0 (IntKind.wrap .i64 (v8+1))))) else .stuck) else (.to (.h1 0 ([]:List Int))))
 | .h1 v16 aB=>(bif (decide (v16<(l0.length:Int))) then (bif ((decide (0≤v16∧v16<(l0.length:Int)))&&true) then (bif (Nat.beq 1 1&&((decide (0+aB.length=aB.length))&&decide ((aB.length+2+1)*(8+1)≤Un))) then (.to (.h1 (IntKind.wrap .i64 (v16+1)) (aB++[(rd l0 v16.toNat).c,(rd l0 v16.toNat).f]))) else .stuck) else .stuck) else (bif (decide (aB.length<4611686018427387904)) then (bif (decide (aB.length=aB.length)) then (.to (.h2 1 ([]:List R6) ([]:List R4) 0 0 (v1z (Yp aB.length (cOf (Zz (Yh (Yp aB.length (cOf (Zz aB)))))))) (Xx (Yp aB.length (cOf (Zz (Yh (Yp aB.length (cOf (Zz aB)))))))))) else .stuck) else .stuck))
 | .h2 v4 aC aP aV aW aG aI=>(bif (decide (v4<((aG:Nat):Int))) then (bif ((decide (0≤(IntKind.wrap .i64 (v4 - 1))∧(IntKind.wrap .i64 (v4 - 1))<((aG:Nat):Int)))&&true) then (bif (decide ((0+(Int.toNat (IntKind.wrap .i64 (v4 - 1))))<aI.length)) then (bif ((decide (0≤v4∧v4<((aG:Nat):Int)))&&true) then (bif (decide ((0+v4.toNat)<aI.length)) then (.to (.h3 v4 0 aC aP aV aW aG aI (rd aI (0+(Int.toNat (IntKind.wrap .i64 (v4 - 1))))) (rd aI (0+v4.toNat)) ([]:List R4))) else .stuck) else .stuck) else .stuck) else .stuck) else (bif (decide ((aC.length:Int)>400)) then (.ret [.nils,(.int .i64 4)]) else (.ret [(.dat aC.length (Zz aC)),(.int .i64 0)])))
 | .h3 v4 v38 aC aP aV aW aG aI aN aT aA=>(bif (decide (v38<(l0.length:Int))) then (bif ((decide (0≤v38∧v38<(l0.length:Int)))&&true) then (bif (decide ((rd l0 v38.toNat).c ≤aN)) then (bif (decide (aN<(rd l0 v38.toNat).f)) then (bif (Nat.beq 4 4&&((decide (0+aA.length=aA.length))&&decide ((aA.length+1+1)*(32+1)≤Un))) then (.to (.h3 v4 (IntKind.wrap .i64 (v38+1)) aC aP aV aW aG aI aN aT (aA++[(R4.mk (rd l0 v38.toNat).a (rd l0 v38.toNat).b (rd l0 v38.toNat).d (rd l0 v38.toNat).e)]))) else .stuck) else (.to (.h3 v4 (IntKind.wrap .i64 (v38+1)) aC aP aV aW aG aI aN aT aA))) else (.to (.h3 v4 (IntKind.wrap .i64 (v38+1)) aC aP aV aW aG aI aN aT aA))) else .stuck) else (bif (Jz (cvT aA)) then (bif ((Yn (cvT aA)) != 0) then (.ret [.nils,(.int .i64 (Yn (cvT aA)))]) else (bif (decide ((((Zm (cvT aA)).length :Nat):Int)>0)) then (bif (aW == aN) then (bif (Xg (cvT aP) (cvT (Zm (cvT aA)))) then (bif (Vw (cvT aP) (cvT (Zm (cvT aA)))) then (.to (.h5 aT aV aN (Zm (cvT aA)) v4 aC aP aV aW aG aI aA)) else (.to (.h4 aN aT (Zm (cvT aA)) (((Zm (cvT aA)).length :Nat):Int) 0 (Zm (cvT aA)) v4 aC (Zm (cvT aA)) (aC.length:Int) aG aI aA))) else .stuck) else (.to (.h4 aN aT (Zm (cvT aA)) (((Zm (cvT aA)).length :Nat):Int) 0 (Zm (cvT aA)) v4 aC (Zm (cvT aA)) (aC.length:Int) aG aI aA))) else (.to (.h4 aN aT (Zm (cvT aA)) (((Zm (cvT aA)).length :Nat):Int) 0 (Zm (cvT aA)) v4 aC (Zm (cvT aA)) (aC.length:Int) aG aI aA)))) else .stuck))
 | .h4 v1 v2 v72 v73 v74 bM aR aF bI bB aG aI aN=>(bif (decide (v74<v73)) then (bif ((decide (0≤v74∧v74<(v72.length:Int)))&&true) then (bif (Nat.beq 6 6&&((decide (0+aF.length=aF.length))&&decide ((aF.length+1+1)*(48+1)≤Un))) then (.to (.h4 v1 v2 v72 v73 (IntKind.wrap .i64 (v74+1)) bM aR (aF++[(R6.mk (rd v72 v74.toNat).a (rd v72 v74.toNat).b v1 (rd v72 v74.toNat).c (rd v72 v74.toNat).d v2)]) bI bB aG aI aN)) else .stuck) else .stuck) else (.to (.h2 (IntKind.wrap .i64 (aR+1)) aF bI bB v2 aG aI)))
 | .h5 v2 v8 cF bM aR aF bI bB cI bG bW aA=>(bif (decide (v8<(aF.length:Int))) then (bif ((decide (0≤v8∧v8<(aF.length:Int)))&&true) then (bif (decide ((0+v8.toNat)<aF.length)) then (.to (.h5 v2 (IntKind.wrap .i64 (v8+1)) cF bM aR (aF.set (0+v8.toNat) (R6.mk (rd aF (0+v8.toNat)).a (rd aF (0+v8.toNat)).b (rd aF (0+v8.toNat)).c (rd aF (0+v8.toNat)).d (rd aF (0+v8.toNat)).e v2)) bI bB cI bG bW aA)) else .stuck) else .stuck) else (.to (.h2 (IntKind.wrap .i64 (aR+1)) aF bI bB v2 bG bW)))
def y1j (l0:List R6):Xe slmS:=(bif (decide ((l0.length:Int)>400)) then (.ret [.nils,(.int .i64 4)]) else (.to (.h0 0)))
theorem w2r (l0:List R6): ∀s,Xr prog (Zy prog 77) (slmC l0) (slmC l0 s) (Xk l0 s)
 | .h0 v8=>(lb (fun k0=>(lo fun aJ=>(lb (fun k1=>(lb (fun k2=>(lr 15 77 [1,1,0,1,0,0] 1 77 [(2,.nils),(3,(ii 8))] (sl Jo 54 [] ⟨[],[],[some [2,3]],[]⟩ ⟨[],[],[]⟩ (trs 3 []) (tt k2 (tt k1 (ww aJ (tt k0 nn))))))) (fun k2=>(sl Jo 112 [(3,1,Zz ([]:List Int))] ⟨[6,1,7,2,3,4,5,8],[],u5u,u5w⟩ ⟨[],[.keep,.keep,.cells [.grow 7 1],.keep,.keep,.keep,.keep,.keep],[]⟩ (bl 4 11) (pp (fl ([]:List Int) nn) (tt k2 (tt k1 (ww aJ (tt k0 nn))))))))) (fun k1=>(sl Jo 44 [] ⟨[],[],slmN0,slmM0⟩ ⟨[],[],[]⟩ (bl 2 1) (tt k1 (ww aJ (tt k0 nn)))))))) (fun k0=>(sl Jo 81 [(3,1,Zz ([]:List Int))] ⟨[5,0,6,1,2,3,4,7],[],u5u,u5w⟩ ⟨[],[.keep,.keep,.cells [.grow 7 1],.keep,.keep,.keep,.keep,.keep],[]⟩ (bl 3 4) (pp (fl ([]:List Int) nn) (tt k0 nn)))))
 | .h1 v16 aB=>(lb (fun k0=>(lo fun o0=>(lo fun o1=>(sl Jo 34 [] ⟨[0,1,2,3,4,5,6,10],[],u5u,u5w⟩ ⟨[],[.keep,.keep,.cells [.len (y6p aB l0 v16).length],.keep,.keep,.keep,.keep,.rowed 1 (y6p aB l0 v16).length (Zz (y6p aB l0 v16))],[]⟩ [true] (pp (xL (aB.length+2) (y6p aB l0 v16).length) (pp (xL (aB.length+2) (y6p aB l0 v16).length) (pp (xS (aB.length+2) (Zt (Zz aB) 0 aB.length 1 [(ii (rd l0 (tn v16)).c),(ii (rd l0 (tn v16)).f)]) (Zz (y6p aB l0 v16))) (pp (pp (xF (Zt (Zz aB) 0 aB.length 1 [(ii (rd l0 (tn v16)).c),(ii (rd l0 (tn v16)).f)])) nn) (ww o1 (ww o0 (tt k0 nn))))))))))) (fun k0=>(lo fun o0=>(lo fun o1=>(sl Jo 46 [(68,6,Zz ([]:List R6))] ⟨[8,3,4,5,6,2,7,0,1,9],[],u5t,u5v⟩ ⟨[],(kpB 4 [.cells [.grow 9 6,.list 0 (Zz ([]:List R4)),.keep,.keep],.keep,.rowed 1 (y6s aB).length (Zz (y6s aB)),.keep,.keep,.keep]),[]⟩ (bl 2 0) (pp (xL aB.length (y6s aB).length (by first | exact Qz _ _ | exact Vu rfl)) (pp (xS aB.length (Zz (y6s aB)) (Zz (y6s aB))) (pp (fl (y6s aB) (fl ([]:List R6) nn)) (pp (pp (xG (Nat.beq 1 1)) (pp (xG (Nat.beq 1 1)) (pp (xG (Nat.beq 0 0)) (pp (xG (decide (aB.length=aB.length))) (pp (xG (isI (Zz (Yh (Yp aB.length (cOf (Zz aB))))))) (xG (decide (aB.length<4611686018427387904)))))))) (pp (pp (xG (Nat.beq 1 1)) (pp (xG (Nat.beq 1 1)) (pp (xG (Nat.beq 0 0)) (pp (xG (decide (aB.length=aB.length))) (pp (xG (isI (Zz aB))) (xG (decide (aB.length<4611686018427387904)))))))) (tt k0 nn)))))))))))
 | .h2 v4 aC aP aV aW aG aI=>(lb (fun k0=>(lo fun o0=>(lo fun o1=>(lo fun o2=>(lo fun o3=>(sl Jo 48 [(114,4,Zz ([]:List R4))] ⟨[0,1,2,3,4,5,6,7,8,10,11,12,9],[],v3s,v3u⟩ ⟨[],(kpB 10 [.cells [.grow 11 4],.keep,.keep]),[]⟩ (trs 3 []) (pp (fl aI (fl ([]:List R4) (fl aC nn))) (ww o3 (ww o2 (ww o1 (ww o0 (tt k0 nn)))))))))))) (fun k0=>(lb (fun k1=>(lr 15 3 [1,1,1,1,1,1,0] 1 77 [(2,.nils),(3,(ii 4))] (sl Jo 33 [] ⟨[],[],[some [2,3]],[]⟩ ⟨[],[],[]⟩ (bl 2 2) (tt k1 (tt k0 nn))))) (fun k1=>(lr 15 3 [1,1,1,1,1,1,0] 1 77 [(2,(.dat aC.length (Zz aC))),(3,(ii 0))] (sl Jo 36 [] ⟨[],[9],[some [2,3]],[]⟩ ⟨[(2,.frz aC.length aC.length (Zz aC) (Zz aC))],[],[]⟩ (bl 2 0) (pp (xZ (z2u 6 6 0 aC.length aC.length (Zz aC)) aC.length (Zz aC)) (pp (xL aC.length aC.length) (pp (xS aC.length (Zz aC) (Zz aC)) (pp (fl aC nn) (tt k1 (tt k0 nn))))))))))))
 | .h3 v4 v38 aC aP aV aW aG aI aN aT aA=>(lb (fun k0=>(lo fun aJ=>(lb (fun k1=>(lb (fun k2=>(lo fun o0=>(sl Jo 41 [] ⟨[0,1,2,3,4,5,6,7,8,9,10,15,12],[],v3s,v3u⟩ ⟨[],(kpB 10 [.cells [.len (y6r aA l0 v38).length],.rowed 4 (y6r aA l0 v38).length (Zz (y6r aA l0 v38)),.keep]),[]⟩ (trs 8 []) (pp (xL (aA.length+1) (y6r aA l0 v38).length) (pp (xL (aA.length+1) (y6r aA l0 v38).length) (pp (xS (aA.length+1) (Zt (Zz aA) 0 aA.length 4 [(ii (rd l0 (tn v38)).a),(ii (rd l0 (tn v38)).b),(ii (rd l0 (tn v38)).d),(ii (rd l0 (tn v38)).e)]) (Zz (y6r aA l0 v38))) (pp (fl aI (pp (xF (Zt (Zz aA) 0 aA.length 4 [(ii (rd l0 (tn v38)).a),(ii (rd l0 (tn v38)).b),(ii (rd l0 (tn v38)).d),(ii (rd l0 (tn v38)).e)])) (fl aC nn))) (ww o0 (tt k2 (tt k1 (ww aJ (tt k0 nn)))))))))))) (fun k2=>(sl Jo 41 [] ⟨(List.range 13),[],v3s,v3u⟩ ⟨[],[],[]⟩ (trs 7 [false]) (pp (fl aI (fl aA (fl aC nn))) (tt k2 (tt k1 (ww aJ (tt k0 nn))))))))) (fun k1=>(sl Jo 41 [] ⟨(List.range 13),[],v3s,v3u⟩ ⟨[],[],[]⟩ (bl 8 1) (pp (fl aI (fl aA (fl aC nn))) (tt k1 (ww aJ (tt k0 nn))))))))) (fun k0=>(Ww (sl Jo (C':=⟨⟨65,0,true⟩,(Wd prog 108 [1,1,0,1,0,1,0,0] 4),(Zb prog 108 [1,1,0,1,0,1,0,0] 1),(some 0),[],⟨Yq [(2,(.ptr 1 0)),(4,(.ptr 2 0)),(5,(.ptr 3 0)),(6,(.ptr 4 0)),(7,(.ptr 6 0)),(20,(.dat aA.length (Zz aA)))],z0z [(1,⟨[.nilf],124,none⟩),(2,⟨[.nils],30,none⟩),(3,⟨[(ii 0)],24,none⟩),(4,⟨[(.sla 5 6 0 aC.length (.un 6)),(.dat aP.length (Zz aP)),(ii aV),(ii aW)],170,none⟩),(5,⟨rows aC.length (Zz aC),68,some ⟨6,aC.length,(Zz aC)⟩⟩),(6,⟨[(ii aN),(ii aT),(.sl 7 0 1 (.ex 1))],175,none⟩),(7,⟨[(.dat aA.length (Zz aA))],105,none⟩),(8,⟨[(.sla 9 1 0 aG (.un 1))],47,none⟩),(9,⟨rows aI.length (Zz aI),3,some ⟨1,aI.length,(Zz aI)⟩⟩),(10,⟨[(.sl 11 0 1 (.un 1))],168,none⟩),(11,⟨[(.dat l0.length (Zz l0))],22,none⟩)],12,[],true⟩,[⟨⟨86,0,true⟩,(Wd prog 150 [1,0,0,1,0,0,1,1,0] 2),(Zb prog 150 [1,0,0,1,0,0,1,1,0] 1),none,[],Yq [(0,(.yld 0)),(1,(.ptr 8 0)),(2,(.ptr 10 0)),(4,(ii v4)),(82,(.yld 0)),(83,(.agg [(ii aN),(ii aT),(.sl 7 0 1 (.ex 1))]))]⟩,⟨⟨65,0,true⟩,none,(.inRangeFunc 0::(Zb prog 108 [1,1,0,1,0] 1)),none,(Zy prog 36),Yq [(4,(.ptr 2 0)),(5,(.ptr 3 0)),(6,(.ptr 4 0))]⟩,⟨⟨15,0,true⟩,(Wd prog 77 [1,1,1,0] 3),(Zb prog 77 [1,1,1,0] 1),none,(Zy prog 77),Yq [(9,(.agg [.nilf])),(11,(.sl 11 0 1 (.un 1)))]⟩],(z5j [(0,⟨.busy,none,65,Yq [(2,(.ptr 1 0)),(4,(.ptr 2 0)),(5,(.ptr 3 0)),(6,(.ptr 4 0))],[15],(Xd prog 108 [1,1,0,1,0,0]),(Xd prog 108 [1,1,0,1,0,1])⟩)])⟩) 37 [] ⟨[0,1,2,3,4,12,13,10,5,6,7,8],[11],[some [2,4,5,6,7,20],some [0,1,2,4,82,83],some [4,5,6],some [9,11]],[some [2,4,5,6],none,none,none,none,none,none,none,none,none,none,none]⟩ ⟨[(20,.frz aA.length aA.length (Zz aA) (Zz aA))],[.keep,.keep,.keep,.keep,.keep,.keep,.keep,.cells [.frz aA.length aA.length (Zz aA) (Zz aA)],.keep,.keep,.keep,.keep],[]⟩ (bl 2 0) (pp (xZ (z2u 4 4 0 aA.length aA.length (Zz aA)) aA.length (Zz aA)) (pp (xL aA.length aA.length) (pp (xS aA.length (Zz aA) (Zz aA)) (pp (xZ (z2u 4 4 0 aA.length aA.length (Zz aA)) aA.length (Zz aA)) (pp (xL aA.length aA.length) (pp (xS aA.length (Zz aA) (Zz aA)) (pp (fl aC (fl aI nn)) (pp (fl aA nn) (tt k0 nn)))))))))) (lo fun aJ=>(lb (fun k1=>(lr 15 3 [1,1,1,1,1,1,0] 1 77 [(2,.nils),(3,(ii (Yn (cvT aA))))] (sl Jo 50 [] ⟨[],[],[some [2,3]],[]⟩ ⟨[],[],[]⟩ (bl 3 6) (tt k1 (pp (pp (xr aA) (xw aJ)) nn))))) (fun k1=>(lb (fun k2=>(lb (fun k3=>(lo fun cM=>(lb (fun k4=>(sl Jo 75 [] ⟨[4,5,0,1,2,3,8,9,10,11,7],[],slmN5,slmM5⟩ ⟨[],[],[]⟩ (bl 15 32764) (pp (fl aC (fl aI nn)) (tt k4 (pp (pp (xr aP) (pp (xI R4 (Zm (cvT aA)).length (Zz (Zm (cvT aA)))) (xw cM))) (tt k3 (tt k2 (tt k1 (pp (pp (xr aA) (xw aJ)) nn))))))))) (fun k4=>(sl Jo 95 [] ⟨[4,0,1,2,3,8,9,10,11,7,5],[],v3r,v3t⟩ ⟨[],[],[]⟩ (bl 15 16380) (pp (fl aI (fl aC nn)) (tt k4 (pp (pp (xr aP) (pp (xI R4 (Zm (cvT aA)).length (Zz (Zm (cvT aA)))) (xw cM))) (tt k3 (tt k2 (tt k1 (pp (pp (xr aA) (xw aJ)) nn)))))))))))) (fun k3=>(sl Jo 95 [] ⟨[4,0,1,2,3,8,9,10,11,7,5],[],v3r,v3t⟩ ⟨[],[],[]⟩ (bl 15 252) (pp (fl aI (fl aC nn)) (tt k3 (tt k2 (tt k1 (pp (pp (xr aA) (xw aJ)) nn))))))))) (fun k2=>(sl Jo 95 [] ⟨[4,0,1,2,3,8,9,10,11,7,5],[],v3r,v3t⟩ ⟨[],[],[]⟩ (bl 15 0) (pp (fl aI (fl aC nn)) (tt k2 (tt k1 (pp (pp (xr aA) (xw aJ)) nn)))))))))))))
 | .h4 v1 v2 v72 v73 v74 bM aR aF bI bB aG aI aN=>(lb (fun k0=>(lo fun o0=>(lo fun o1=>(sl Jo 23 [] ⟨[0,1,2,3,4,5,6,7,8,9,13],[],v3r,v3t⟩ ⟨[],[.cells [.len (y6q aF v72 v74 v1 v2).length,.keep,.keep,.keep],.keep,.keep,.keep,.keep,.keep,.keep,.keep,.keep,.keep,.rowed 6 (y6q aF v72 v74 v1 v2).length (Zz (y6q aF v72 v74 v1 v2))],[]⟩ [true] (pp (xL (aF.length+1) (y6q aF v72 v74 v1 v2).length) (pp (xL (aF.length+1) (y6q aF v72 v74 v1 v2).length) (pp (xS (aF.length+1) (Zt (Zz aF) 0 aF.length 6 [(ii (rd v72 (tn v74)).a),(ii (rd v72 (tn v74)).b),(ii v1),(ii (rd v72 (tn v74)).c),(ii (rd v72 (tn v74)).d),(ii v2)]) (Zz (y6q aF v72 v74 v1 v2))) (pp (fl aI (pp (xF (Zt (Zz aF) 0 aF.length 6 [(ii (rd v72 (tn v74)).a),(ii (rd v72 (tn v74)).b),(ii v1),(ii (rd v72 (tn v74)).c),(ii (rd v72 (tn v74)).d),(ii v2)])) nn)) (ww o1 (ww o0 (tt k0 nn))))))))))) (fun k0=>(sl Jo 22 [] ⟨[1,2,3,4,0,5,6,7,8,10],[],u5t,u5v⟩ ⟨[],[],[]⟩ (bl 2 0) (pp (fl aI (fl aF nn)) (tt k0 nn)))))
 | .h5 v2 v8 cF bM aR aF bI bB cI bG bW aA=>(lb (fun k0=>(lo fun o0=>(lo fun o1=>(sl Jo 34 [] ⟨(List.range 11),[],slmN5,slmM5⟩ ⟨[],[.cells [.len (y6t aF v8 v2).length,.keep,.keep,.keep],.rowed 6 (y6t aF v8 v2).length (Zz (y6t aF v8 v2)),.keep,.keep,.keep,.keep,.keep,.keep,.keep,.keep,.keep],[]⟩ [true] (pp (xL aF.length (y6t aF v8 v2).length) (pp (xL aF.length (y6t aF v8 v2).length) (pp (xS aF.length (Xj (Zz aF) (0+(tn v8)) 5 [(ii v2)]) (Zz (y6t aF v8 v2))) (pp (pp (xF (Xj (Zz aF) (0+(tn v8)) 5 [(ii v2)])) (fl bW nn)) (ww o1 (ww o0 (tt k0 nn))))))))))) (fun k0=>(sl Jo 36 [] ⟨[2,3,4,5,0,6,7,8,9,1],[],u5t,u5v⟩ ⟨[],[],[]⟩ (bl 2 0) (pp (fl bW (fl aF nn)) (tt k0 nn)))))
theorem x5n (l0:List R6):Xr prog (Zy prog 77) (slmC l0) (Zi prog 77 [(.dat l0.length (Zz l0))] true []) (y1j l0):=(lb (fun k0=>(lr 15 77 [1,0,1,0,0] 1 77 [(2,.nils),(3,(ii 4))] (sl Jo 18 [] ⟨[],[],[some [2,3]],[]⟩ ⟨[],[],[]⟩ [true] (tt k0 nn)))) (fun k0=>(sl Jo 41 [] ⟨[],[],slmN0,slmM0⟩ ⟨[],[],[]⟩ [false] (tt k0 nn))))
theorem v3q (l0:List R6) (n:Nat) (vs:List AVal) (h:Yj (Xk l0) n (y1j l0)=.ret vs):Kg prog (Zy prog 77) (Zi prog 77 [(.dat l0.length (Zz l0))] true []) vs:=by have:=Yw (w2r l0) n _ (x5n l0);rwa [h] at this
inductive fulS where
 | h0 (v10:Int) (v31:Int)
def fulC (l0:List R6) (bE:Int) (bF:Int) (cD:Int) (cE:Int) (cR:Int) (cS:Int):fulS→Cfg
 | .h0 v10 v31=>⟨⟨70,0,true⟩,none,(Zb prog 143 [1,1,1,0,1,0,0] 0),none,(Zy prog 102),⟨Yq [(5,(.ptr 0 0)),(6,(.ptr 1 0)),(7,(.ptr 2 0)),(9,(.fn 166 [])),(10,(ii v10)),(29,(.dat l0.length (Zz l0))),(30,(ii (l0.length:Int))),(31,(ii v31))],Uv [⟨[(ii bE),(ii bF)],110,none⟩,⟨[(ii cD),(ii cE)],110,none⟩,⟨[(ii cR),(ii cS)],110,none⟩] 0,3,[],true⟩,[],.leaf⟩
def fulN0 :List (Option (List Nat)):=[some [5,6,7,9,10,29,30,31]]
def fulM0 :List (Option (List Nat)):=[]
def z9f (l0:List R6) (bE:Int) (bF:Int) (cD:Int) (cE:Int) (cR:Int) (cS:Int):fulS→Xe fulS
 | .h0 v10 v31=>(bif (decide (v31<(l0.length:Int))) then (bif ((decide (0≤v31∧v31<(l0.length:Int)))&&true) then (.to (.h0 (IntKind.wrap .i64 (v10 - (IntKind.wrap .i64 ((IntKind.wrap .i64 ((IntKind.wrap .i64 (1*(Wf (IntKind.wrap .i64 ((Ju (rd l0 v31.toNat).d bF) - (Wf (rd l0 v31.toNat).a bE))) 0)))*(Wf (IntKind.wrap .i64 ((Ju (rd l0 v31.toNat).e cE) - (Wf (rd l0 v31.toNat).b cD))) 0)))*(Wf (IntKind.wrap .i64 ((Ju (rd l0 v31.toNat).f cS) - (Wf (rd l0 v31.toNat).c cR))) 0))))) (IntKind.wrap .i64 (v31+1)))) else .stuck) else (.ret [(.bool (v10 == 0))]))
def x0r (l0:List R6) (bE:Int) (bF:Int) (cD:Int) (cE:Int) (cR:Int) (cS:Int):Xe fulS:=(.to (.h0 (IntKind.wrap .i64 ((IntKind.wrap .i64 ((IntKind.wrap .i64 (bF - bE))*(IntKind.wrap .i64 (cE - cD))))*(IntKind.wrap .i64 (cS - cR)))) 0))
theorem w4h (l0:List R6) (bE:Int) (bF:Int) (cD:Int) (cE:Int) (cR:Int) (cS:Int): ∀s,Xr prog (Zy prog 143) (fulC l0 bE bF cD cE cR cS) (fulC l0 bE bF cD cE cR cS s) (z9f l0 bE bF cD cE cR cS s)
 | .h0 v10 v31=>(lb (fun k0=>(lo fun o0=>(sl Jo 281 [] ⟨[0,1,2],[],fulN0,fulM0⟩ ⟨[],[],[]⟩ (bl 23 1799523) (ww o0 (tt k0 nn))))) (fun k0=>(lr 70 3 [1,1,1,1,1,1,0] 1 102 [(8,(.bool (v10 == 0)))] (sl Jo 13 [] ⟨[],[],[some [8]],[]⟩ ⟨[],[],[]⟩ [false] (tt k0 nn)))))
theorem x7q (l0:List R6) (bE:Int) (bF:Int) (cD:Int) (cE:Int) (cR:Int) (cS:Int):Xr prog (Zy prog 143) (fulC l0 bE bF cD cE cR cS) (Zi prog 143 [(.dat l0.length (Zz l0)),(.agg [(.int .i64 bE),(.int .i64 bF)]),(.agg [(.int .i64 cD),(.int .i64 cE)]),(.agg [(.int .i64 cR),(.int .i64 cS)])] true []) (x0r l0 bE bF cD cE cR cS):=(sl Jo 22 [] ⟨[0,1,2],[],fulN0,fulM0⟩ ⟨[],[],[]⟩ [] nn)
theorem v7g (l0:List R6) (bE:Int) (bF:Int) (cD:Int) (cE:Int) (cR:Int) (cS:Int) (n:Nat) (vs:List AVal) (h:Yj (z9f l0 bE bF cD cE cR cS) n (x0r l0 bE bF cD cE cR cS)=.ret vs):Kg prog (Zy prog 143) (Zi prog 143 [(.dat l0.length (Zz l0)),(.agg [(.int .i64 bE),(.int .i64 bF)]),(.agg [(.int .i64 cD),(.int .i64 cE)]),(.agg [(.int .i64 cR),(.int .i64 cS)])] true []) vs:=by have:=Yw (w4h l0 bE bF cD cE cR cS) n _ (x7q l0 bE bF cD cE cR cS);rwa [h] at this
inductive dwnS where
def dwnC (x0:Int) (x1:Int):dwnS→Cfg
 :=nofun
def x8d (x0:Int) (x1:Int):dwnS→Xe dwnS
 :=nofun
def y2j (x0:Int) (x1:Int):Xe dwnS:=(bif (!decide (x1=0)) then (bif (decide ((IntKind.wrap .i64 ((IntKind.wrap .i64 (Int.tdiv x0 x1))*x1))>x0)) then (.ret [(.int .i64 (IntKind.wrap .i64 ((IntKind.wrap .i64 ((IntKind.wrap .i64 (Int.tdiv x0 x1)) - 1))*x1)))]) else (.ret [(.int .i64 (IntKind.wrap .i64 ((IntKind.wrap .i64 (Int.tdiv x0 x1))*x1)))])) else .stuck)
theorem w4u (x0:Int) (x1:Int): ∀s,Xr prog (Zy prog 75) (dwnC x0 x1) (dwnC x0 x1 s) (x8d x0 x1 s)
 :=nofun
theorem x8e (x0:Int) (x1:Int):Xr prog (Zy prog 75) (dwnC x0 x1) (Zi prog 75 [(.int .i64 x0),(.int .i64 x1)] true []) (y2j x0 x1):=(lo fun bO=>(lb (fun k0=>(lr 19 3 [1,1,1,1,1,1,0] 1 3 [(4,(ii (wr ((wr ((wr (Int.tdiv x0 x1)) - 1))*x1))))] (sl Jo 33 [] ⟨[],[],[some [4]],[]⟩ ⟨[],[],[]⟩ [true] (tt k0 (ww bO nn))))) (fun k0=>(lr 19 3 [1,1,1,1,1,1,0] 1 3 [(4,(ii (wr ((wr (Int.tdiv x0 x1))*x1))))] (sl Jo 29 [] ⟨[],[],[some [4]],[]⟩ ⟨[],[],[]⟩ [false] (tt k0 (ww bO nn)))))))
theorem v8c (x0:Int) (x1:Int) (n:Nat) (vs:List AVal) (h:Yj (x8d x0 x1) n (y2j x0 x1)=.ret vs):Kg prog (Zy prog 75) (Zi prog 75 [(.int .i64 x0),(.int .i64 x1)] true []) vs:=by have:=Yw (w4u x0 x1) n _ (x8e x0 x1);rwa [h] at this
end Go.Am
namespace Go.Am
open Go.Proofs.Tryz
open Go.Proofs Go.Sort Go.Shelf Go.RowKit Go.Lib
def slmX :List AVal:=[.nils,.int .i64 8]
def eF (l:List R6):Nat→Nat→Int
 | 0,_=>0
 | k+1,i=>bif w5s l (rd (D6.cuts l) i) then Yn (D6.inn l (rd (D6.cuts l) i)) else eF l k (i+1)
def slmE (l:List R6) (k i:Nat):List AVal:=[.nils,.int .i64 (eF l k i)]
section
variable (l:List R6) (hl:l.length≤400)
include hl
theorem u0a (i:Nat) (out:List R6) (last:List R4) (first fin x x':Int): ∀(k j:Nat) (acc:List R4),j+k=l.length→acc.length≤j→
  ∃n,∀N,Yj (Xk l) (N+n) (.to (.h3 (i:Int) (j:Int) out last first fin ((D6.cuts l).length) (Xx (Yh (D6.ends l))) x x' acc))=Yj (Xk l) N (.to (.h3 (i:Int) (l.length:Int) out last first fin ((D6.cuts l).length) (Xx (Yh (D6.ends l))) x x' (acc++D6.inn (l.drop j) x)))
 | 0,j,acc,h,ha=>by refine ⟨0,fun N=> ?_⟩;rw [List.drop_eq_nil_of_le (by omega),show D6.inn ([]:List R6) x=[] from rfl,List.append_nil,Nat.add_zero,show j=l.length by omega]
 | k+1,j,acc,h,ha=>by
  have hj:j<l.length:=by omega
  obtain ⟨n,hn⟩:=u0a i out last first fin x x' k (j+1) (acc++D6.inn [rd l j] x) (by omega) (by have:=D6.inn_length [rd l j] x;simp only [List.length_append,List.length_singleton] at*;omega)
  refine ⟨n+1,fun N=> ?_⟩;have e:D6.inn (l.drop j) x=D6.inn [rd l j] x++D6.inn (l.drop (j+1)) x:=by rw [Yc hj,←D6.inn_append];rfl
  rw [e,←Nat.add_assoc,Zw,←List.append_assoc,←hn N];by_cases h1:D6.lo (rd l j)≤x
  ·by_cases h2:x<D6.hi (rd l j)
   ·rw [D6.inn_t _ _ h1 h2];simp only [D6] at h1 h2 ⊢;simp (disch:=omega) only [Xk,Xc,Zp,Zk,Zd,Ze,Yz,Zs,Yx,Zc,Zu,Zx,Yu,Zj,Nat.zero_add,decide_true,Bool.and_true,Bool.true_and,cond_true,cond_false]
   ·rw [D6.inn_f2 _ _ h2,List.append_nil];simp only [D6] at h1 h2;simp (disch:=omega) only [Xk,Xc,Zo,Zp,Zk,Zd,Ze,Yz,Zs,Yx,Zc,Zu,Zx,Yu,Zj,Nat.zero_add,decide_true,Bool.and_true,Bool.true_and,cond_true,cond_false]
  ·rw [D6.inn_f1 _ _ h1,List.append_nil];simp only [D6] at h1;simp (disch:=omega) only [Xk,x8i,Zp,Zk,Zd,Ze,Yz,Zs,Yx,Zc,Zu,Zx,Yu,Zj,Nat.zero_add,decide_true,Bool.and_true,Bool.true_and,cond_true,cond_false]
theorem v9z (i:Nat) (hi:i≤1000) (x x':Int) (s last:List R4) (first:Int) (inn:List R4) (hs:s.length≤1000): ∀(k j:Nat) (out:List R6),j+k=s.length→out.length≤10000000+j→
  ∃n,∀N,Yj (Xk l) (N+n) (.to (.h4 x x' s (s.length:Int) (j:Int) s (i:Int) out last first ((D6.cuts l).length) (Xx (Yh (D6.ends l))) inn))=Yj (Xk l) N (.to (.h2 ((i+1:Nat):Int) (out++(s.drop j).map (D6.put x x')) last first x' ((D6.cuts l).length) (Xx (Yh (D6.ends l)))))
 | 0,j,out,h,ho=>by have _u:=hl;refine ⟨1,fun N=> ?_⟩;rw [List.drop_eq_nil_of_le (by omega),Zw];simp (disch:=omega) only [Xk,Zo,Zu,Zx,cond_false,List.map_nil,List.append_nil]
 | k+1,j,out,h,ho=>by
  obtain ⟨n,hn⟩:=v9z i hi x x' s last first inn hs k (j+1) (out++[D6.put x x' (rd s j)]) (by omega) (by simp;omega)
  refine ⟨n+1,fun N=> ?_⟩;have:=hn N;rw [Yc (show j<s.length by omega),List.map_cons,←Nat.add_assoc,Zw];simp (disch:=omega) only [Xk,Zp,Zk,Zd,Ze,Yz,Zs,Yx,Zc,Zu,Zx,Yu,Zj,Nat.zero_add,decide_true,Bool.and_true,Bool.true_and,cond_true,cond_false];rw [List.append_assoc] at this;exact this
theorem v9y (i:Nat) (hi:i≤1000) (x x' fin:Int) (s last:List R4) (first:Int) (inn:List R4): ∀(k j:Nat) (out:List R6),j+k=out.length→out.length≤10000000→
  ∃n,∀N,Yj (Xk l) (N+n) (.to (.h5 x' (j:Int) x s (i:Int) out last first fin ((D6.cuts l).length) (Xx (Yh (D6.ends l))) inn))=Yj (Xk l) N (.to (.h2 ((i+1:Nat):Int) (D6.grow out j x') last first x' ((D6.cuts l).length) (Xx (Yh (D6.ends l)))))
 | 0,j,out,h,ho=>by have _u:=hl;refine ⟨1,fun N=> ?_⟩;rw [D6.grow_nil _ _ _ (by omega),Zw];simp (disch:=omega) only [Xk,Zo,Zu,Zx,cond_false]
 | k+1,j,out,h,ho=>by
  obtain ⟨n,hn⟩:=v9y i hi x x' fin s last first inn k (j+1) (out.set j (D6.ext x' (rd out j))) (by simp;omega) (by simpa using ho)
  refine ⟨n+1,fun N=> ?_⟩;have:=hn N;rw [D6.grow_set out j _ (by omega)] at this;rw [←Nat.add_assoc,Zw];simp (disch:=omega) only [Xk,Zp,Zk,Zd,Ze,Yz,Zs,Yx,Zc,Zu,Zx,Yu,Zj,Nat.zero_add,decide_true,Bool.and_true,Bool.true_and,cond_true,cond_false];exact this
theorem w6u : ∀(k i:Nat) (s:Sw R6 R4),k=(D6.cuts l).length - 1 - i→i≤(D6.cuts l).length →s.out.length≤i*1000→s.last.length≤1000→s.first≤s.out.length→
  ∃n,Yj (Xk l) n (.to (.h2 ((i+1:Nat):Int) s.out s.last (s.first:Int) s.fin ((D6.cuts l).length) (Xx (Yh (D6.ends l)))))=.ret ((bif okF l k i then Jf (D6.go l k i s).out else slmE l k i))
 | 0,i,s,h,hi,ho,hla,hf=>by
  have hc:=D6.cuts_length l;refine ⟨1,?_⟩;rw [Zw,show D6.go l 0 i s=s from rfl,show okF l 0 i=true from rfl,cond_true];unfold Jf;by_cases q:(s.out.length:Int)>400
  ·simp (disch:=omega) only [Xk,Zo,Ye,cond_true,cond_false,Zg]
  ·simp (disch:=omega) only [Xk,Zp,Zo,Ys,cond_true,cond_false,Zg]
 | k +1,i,s,h,hi,ho,hla,hf=>by
  have hc:=D6.cuts_length l;have hi1:i+1<(D6.cuts l).length :=by omega
  have hpl:(Xx (Yh (D6.ends l))).length =2*l.length:=by rw [Wa,Wz,D6.ends_length]
  have r0:rd (Xx (Yh (D6.ends l))) i=rd (D6.cuts l) i:=Uo _ _ (by show i<(D6.cuts l).length;omega);have r1:rd (Xx (Yh (D6.ends l))) (i+1)=rd (D6.cuts l) (i+1):=Uo _ _ (by show i+1<(D6.cuts l).length;omega);have hbig:i*1000≤1000*1000:=Nat.mul_le_mul_right _ (by omega);have hsl:=u4x l (rd (D6.cuts l) i);have hsd:D6.sec l (rd (D6.cuts l) i)=Zm (D6.inn l (rd (D6.cuts l) i)):=rfl;obtain ⟨n3,h3⟩:=u0a l hl (i+1) s.out s.last (s.first:Int) s.fin (rd (D6.cuts l) i) (rd (D6.cuts l) (i+1)) l.length 0 [] (Nat.zero_add _) (Nat.le_refl _);simp only [List.drop_zero,List.nil_append,Qv] at h3;have w1:Jz (D6.inn l (rd (D6.cuts l) i))=true:=rfl;have w2:Xg s.last (Zm (D6.inn l (rd (D6.cuts l) i)))=true:=decide_eq_true (by omega);have ol:=D6.one_length l (rd (D6.cuts l) i) (rd (D6.cuts l) (i+1)) s;have st0: ∀N,Yj (Xk l) (N+n3+1) (.to (.h2 ((i+1:Nat):Int) s.out s.last (s.first:Int) s.fin ((D6.cuts l).length) (Xx (Yh (D6.ends l)))))=Yj (Xk l) N (.to (.h3 ((i+1:Nat):Int) (l.length:Int) s.out s.last (s.first:Int) s.fin ((D6.cuts l).length) (Xx (Yh (D6.ends l))) (rd (D6.cuts l) i) (rd (D6.cuts l) (i+1)) (D6.inn l (rd (D6.cuts l) i)))):=fun N=>by
   rw [←h3 N,Zw];have e1:IntKind.wrap .i64 (((i+1:Nat):Int) - 1)=(i:Int):=by rw [Zh];exact Zu (by omega)
   simp (disch:=omega) only [Xk,e1,r0,r1,Zp,Zk,Zd,Ze,Yz,Zs,Yx,Zc,Zu,Zx,Yu,Zj,Nat.zero_add,decide_true,Bool.and_true,Bool.true_and,cond_true,cond_false]
  rcases Yv (w5s l (rd (D6.cuts l) i)) with q0 | q0
  ·refine ⟨1+n3+1,?_⟩;rw [st0 1,Zw];simp only [okF,slmE,eF,q0,cond_true,cond_false];have q0':(Yn (D6.inn l (rd (D6.cuts l) i)) != 0)=true:=q0;simp (disch:=omega) only [Xk,Zp,Zk,Zo,q0',w1,cond_true,cond_false,Zg]
  have q0':(Yn (D6.inn l (rd (D6.cuts l) i)) != 0)=false:=q0;rcases Yv (decide (0<(D6.sec l (rd (D6.cuts l) i)).length)&&((s.fin == rd (D6.cuts l) i)&&D6.same s.last (D6.sec l (rd (D6.cuts l) i)))) with q | q
  ·obtain ⟨n5,h5⟩:=v9y l hl (i+1) (by omega) (rd (D6.cuts l) i) (rd (D6.cuts l) (i+1)) s.fin (D6.sec l (rd (D6.cuts l) i)) s.last (s.first:Int) (D6.inn l (rd (D6.cuts l) i)) (s.out.length - s.first) s.first s.out (by omega) (by omega)
   have e:D6.one l (rd (D6.cuts l) i) (rd (D6.cuts l) (i+1)) s=⟨D6.grow s.out s.first (rd (D6.cuts l) (i+1)),s.last,s.first,rd (D6.cuts l) (i+1)⟩:=by unfold Dim.one;rw [q];rfl
   obtain ⟨n0,h0⟩:=w6u k (i+1) (D6.one l (rd (D6.cuts l) i) (rd (D6.cuts l) (i+1)) s) (by omega) (by omega) (by omega) (by rw [e];exact hla) (by rw [e];simpa [Dim.grow_length] using hf);refine ⟨n0+n5+1+n3+1,?_⟩;rw [st0 (n0+n5+1),Zw];simp only [Bool.and_eq_true,decide_eq_true_eq] at q;obtain ⟨q1,q2,q3⟩:=q;have q3':Vw s.last (Zm (D6.inn l (rd (D6.cuts l) i)))=true:=q3;rw [hsd] at q1;simp (disch:=omega) only [Xk,Zp,Zk,Zo,Ye,q0',q2,q3',w1,w2,cond_true,cond_false];rw [←hsd,h5 n0];simp only [okF,slmE,eF,q0,cond_false];simp only [Dim.go];rw [e] at h0 ⊢;exact h0
  ·obtain ⟨n4,h4⟩:=v9z l hl (i+1) (by omega) (rd (D6.cuts l) i) (rd (D6.cuts l) (i+1)) (D6.sec l (rd (D6.cuts l) i)) (D6.sec l (rd (D6.cuts l) i)) (s.out.length:Int) (D6.inn l (rd (D6.cuts l) i)) hsl (D6.sec l (rd (D6.cuts l) i)).length 0 s.out (Nat.zero_add _) (by omega);simp only [List.drop_zero,Qv] at h4;have e:D6.one l (rd (D6.cuts l) i) (rd (D6.cuts l) (i+1)) s=⟨s.out++(D6.sec l (rd (D6.cuts l) i)).map (D6.put (rd (D6.cuts l) i) (rd (D6.cuts l) (i+1))),D6.sec l (rd (D6.cuts l) i),s.out.length,rd (D6.cuts l) (i+1)⟩:=by unfold Dim.one;rw [q];rfl
   obtain ⟨n0,h0⟩:=w6u k (i+1) (D6.one l (rd (D6.cuts l) i) (rd (D6.cuts l) (i+1)) s) (by omega) (by omega) (by omega) (by rw [e];exact hsl) (by rw [e];simp);have hg:Yj (Xk l) 1 (.to (.h3 ((i+1:Nat):Int) (l.length:Int) s.out s.last (s.first:Int) s.fin ((D6.cuts l).length) (Xx (Yh (D6.ends l))) (rd (D6.cuts l) i) (rd (D6.cuts l) (i+1)) (D6.inn l (rd (D6.cuts l) i))))=.to (.h4 (rd (D6.cuts l) i) (rd (D6.cuts l) (i+1)) (D6.sec l (rd (D6.cuts l) i)) ((D6.sec l (rd (D6.cuts l) i)).length :Int) 0 (D6.sec l (rd (D6.cuts l) i)) ((i+1:Nat):Int) s.out (D6.sec l (rd (D6.cuts l) i)) (s.out.length:Int) ((D6.cuts l).length) (Xx (Yh (D6.ends l))) (D6.inn l (rd (D6.cuts l) i))):=by
    rw [show (1:Nat)=0+1 from rfl,Zw];rw [hsd] at q ⊢;have e3:D6.same s.last (Zm (D6.inn l (rd (D6.cuts l) i)))=Vw s.last (Zm (D6.inn l (rd (D6.cuts l) i))):=rfl;rw [e3] at q;by_cases q1:0<(Zm (D6.inn l (rd (D6.cuts l) i))).length
    ·rw [decide_eq_true q1,Bool.true_and] at q;rcases Yv (s.fin == rd (D6.cuts l) i) with q2 | q2
     ·rw [q2,Bool.true_and] at q;simp (disch:=omega) only [Xk,Zp,Zk,Zo,Ye,q0',q2,q,w1,w2,cond_true,cond_false];rfl
     ·simp (disch:=omega) only [Xk,Zp,Zk,Zo,Ye,q0',q2,w1,w2,cond_true,cond_false];rfl
    ·simp (disch:=omega) only [Xk,Zp,Zk,Zo,Ys,q0',w1,w2,cond_true,cond_false];rfl
   refine ⟨n0+n4+1+n3+1,?_⟩;rw [st0 (n0+n4+1),z3z _ (n0+n4) 1,hg,h4 n0];simp only [okF,slmE,eF,q0,cond_false];simp only [Dim.go];rw [e] at h0 ⊢;exact h0
theorem u0b : ∀(k i:Nat) (acc:List Int),i+k=l.length→acc=D6.ends (l.take i)→ ∃n,Yj (Xk l) n (.to (.h1 (i:Int) acc))=.ret ((bif okF l ((D6.cuts l).length - 1) 0 then Jf (D6.go l ((D6.cuts l).length - 1) 0 ⟨[],[],0,0⟩).out else slmE l ((D6.cuts l).length - 1) 0))
 | 0,i,acc,h,ha=>by
  have e:acc=D6.ends l:=by rw [ha,List.take_of_length_le (by omega)]
  subst e;have hle:=D6.ends_length l;obtain ⟨n,hn⟩:=w6u l hl ((D6.cuts l).length - 1) 0 ⟨[],[],0,0⟩ (by omega) (Nat.zero_le _) (Nat.zero_le _) (Nat.zero_le _) (Nat.zero_le _);refine ⟨n+1,?_⟩;rw [Zw];simp (disch:=omega) only [Xk,Vi,Jc,z4d,Zo,Zs,Yx,decide_true,cond_true,cond_false];exact hn
 | k+1,i,acc,h,ha=>by
  have hle:=D6.ends_length (l.take i);have fW:acc.length≤2*i:=by rw [ha,hle];simp;omega
  obtain ⟨n,hn⟩:=u0b k (i+1) (acc++D6.ends [rd l i]) (by omega) (by
   rw [ha,List.take_add_one];have:l[i]? =some (rd l i):=by rw [Yt (show i<l.length by omega)];exact List.getElem?_eq_getElem _
   rw [this,D6.ends_append];rfl)
  refine ⟨n+1,?_⟩;rw [Zw];simp (disch:=omega) only [Xk,Zp,Zk,Zd,Ze,Yz,Zs,Yx,Zc,Zu,Zx,Yu,Zj,Nat.zero_add,decide_true,Bool.and_true,Bool.true_and,cond_true,cond_false];exact hn
theorem u0c : ∀(k i:Nat),i+k=l.length→(∀s∈l.take i,Ut s=true)→ ∃n,Yj (Xk l) n (.to (.h0 (i:Int)))=.ret (bif l.all Ut then (bif okF l ((D6.cuts l).length - 1) 0 then Jf (D6.go l ((D6.cuts l).length - 1) 0 ⟨[],[],0,0⟩).out else slmE l ((D6.cuts l).length - 1) 0) else slmX)
 | 0,i,h,ht=>by have hv:l.all Ut=true:=List.all_eq_true.2 fun s hs=>ht s (by rw [List.take_of_length_le (by omega)];exact hs);obtain ⟨n,hn⟩:=u0b l hl l.length 0 [] (Nat.zero_add _) rfl;refine ⟨n+1,?_⟩;rw [Zw,hv,cond_true];simp (disch:=omega) only [Xk,Zo,cond_false];exact hn
 | k+1,i,h,ht=>by
  have hi:i<l.length:=by omega
  have hs:Xk l (.h0 (i:Int))=bif Ut (rd l i) then .to (.h0 ((i+1:Nat):Int)) else .ret slmX:=by have e:u5f (rd l i).a (rd l i).b (rd l i).c (rd l i).d (rd l i).e (rd l i).f =Ut (rd l i):=rfl;simp (disch:=omega) only [Xk,e,z6i,x3w,w1v,Ze,Zu,Zx,Zj,Bool.and_true,cond_true,cond_false];rfl
  rcases Yv (Ut (rd l i)) with q | q
  ·obtain ⟨n,hn⟩:=u0c k (i+1) (by omega) (fun s hs=>by
    rw [List.take_add_one] at hs;have e:l[i]? =some (rd l i):=by rw [Yt hi];exact List.getElem?_eq_getElem _
    rw [e] at hs;simp only [Option.toList_some,List.mem_append,List.mem_singleton] at hs;rcases hs with hs | rfl
    ·exact ht s hs
    ·exact q)
   refine ⟨n+1,?_⟩;rw [Zw,hs,q,cond_true];exact hn
  ·have hv:l.all Ut=false:=Bool.eq_false_iff.2 fun e=>by have:=List.all_eq_true.1 e (rd l i) (by rw [Yt hi];exact List.getElem_mem hi);rw [this] at q;cases q
   refine ⟨1,?_⟩;rw [Zw,hv,cond_false,hs,q,cond_false,Zg]
end
theorem j0u {l:List R6}: ∀(k i:Nat),okF l k i=false→(eF l k i != 0)=true
 | 0,i,h=>by cases h
 | k+1,i,h=>by
  unfold okF at h;unfold eF;rcases Yv (w5s l (rd (D6.cuts l) i)) with q | q
  ·rw [q,cond_true];exact q
  ·rw [q,cond_false] at h ⊢;exact j0u k (i+1) h
def Jr (l:List R6):Int:=bif decide (400<l.length) then 4 else bif l.all Ut then (bif okF l ((D6.cuts l).length - 1) 0 then y9c (D6.out l).length else eF l ((D6.cuts l).length - 1) 0) else 8
def Qi (l:List R6):List R6:=x4v (Jr l) (D6.out l)
def z6o (l:List R6):Bool:=true
theorem u5s (l:List R6) (h:z6o l=true): ∃n,Yj (Xk l) n (y1j l)=.ret (y5v (Jr l) (D6.out l)):=by
 unfold y1j Jr;by_cases h:400<l.length
 ·refine ⟨0,?_⟩;rw [decide_eq_true h,Ye (show (l.length:Int)>400 by omega)];rfl
 ·obtain ⟨n,hn⟩:=u0c l (by omega) l.length 0 (Nat.zero_add _) (fun s hs=>by simp at hs);refine ⟨n,?_⟩;rw [decide_eq_false h,Ys (show¬(l.length:Int)>400 by omega),cond_false,cond_false];rw [Qv] at hn;rw [hn];rcases Yv (l.all Ut) with q | q
  ·rw [q,cond_true,cond_true];rcases Yv (okF l ((D6.cuts l).length - 1) 0) with q2 | q2
   ·rw [q2,cond_true,cond_true,z4e];rfl
   ·rw [q2,cond_false,cond_false,Ki _ (j0u _ _ q2)];rfl
  ·rw [q];rfl
def fSlm :List AVal→Option (AVal×Bool)
 | [a0]=>match asL R6 a0 with
  | some (L0,g0,n0)=>some (.tup [.dat (Qi L0).length (Zz (Qi L0)),.int .i64 (Jr L0)],isT R6 n0 g0&&(z6o L0))
  | _=>none
 | _=>none
theorem u9m {S:Specs} (hS:Zq prog S):Zq prog (S.with w9w fSlm):=by
 refine v1i hS (by kernel_rfl) fun args v h=> ?_;unfold fSlm at h;split at h
 ·rename_i a0;split at h
  ·rename_i L0 g0 n0 e0;simp only [Option.some.injEq,Prod.mk.injEq,Bool.and_eq_true] at h;obtain ⟨rfl,ho0,hw⟩:=h;obtain ⟨N,hN⟩:=u5s L0 hw;exact ⟨_,_,(.cons (asL_le e0 ho0) .nil),z4q _ _,v3q L0 N _ hN,3,z8u _ _⟩
  ·cases h
 ·cases h
def Xp (x n:Int):Int:=bif decide (IntKind.wrap .i64 (IntKind.wrap .i64 (Int.tdiv x n)*n)>x) then IntKind.wrap .i64 (IntKind.wrap .i64 (IntKind.wrap .i64 (Int.tdiv x n) - 1)*n) else IntKind.wrap .i64 (IntKind.wrap .i64 (Int.tdiv x n)*n)
def Xm (x n:Int):Bool:= !decide (n=0)
theorem j0v (x n:Int) (h:Xm x n=true): ∃N,Yj (x8d x n) N (y2j x n)=.ret [.int .i64 (Xp x n)]:=⟨0,by
 have h:(!decide (n=0))=true:=h;unfold y2j Xp;rw [h,cond_true];cases decide (IntKind.wrap .i64 (IntKind.wrap .i64 (Int.tdiv x n)*n)>x) <;> rfl⟩
def spC (lo hi a b:Int):Int:=Wf (IntKind.wrap .i64 (Ju hi b - Wf lo a)) 0
def fu1 (r:R6) (a b c d e f:Int):Int:=IntKind.wrap .i64 (IntKind.wrap .i64 (IntKind.wrap .i64 (1*spC r.a r.d a b)*spC r.b r.e c d)*spC r.c r.f e f)
def fuF (a b c d e f:Int):List R6→Int→Int
 | [],s=>s
 | r::l,s=>fuF a b c d e f l (IntKind.wrap .i64 (s - fu1 r a b c d e f))
def fu0 (a b c d e f:Int):Int:=IntKind.wrap .i64 (IntKind.wrap .i64 (IntKind.wrap .i64 (b - a)*IntKind.wrap .i64 (d - c))*IntKind.wrap .i64 (f - e))
def y8n (L:List R6) (a b c d e f:Int):Bool:=fuF a b c d e f L (fu0 a b c d e f) == 0
def z7q (L:List R6) (a b c d e f:Int):Bool:=decide (L.length≤100000)
theorem u3u {L:List R6} {a b c d e f:Int} (hl:L.length≤100000): ∀(k i:Nat) (s:Int),i+k=L.length→ ∃N,Yj (z9f L a b c d e f) N (.to (.h0 s (i:Int)))=.ret [.bool (fuF a b c d e f (L.drop i) s == 0)]
 | 0,i,s,h=>by refine ⟨1,?_⟩;rw [Zw,List.drop_eq_nil_of_le (by omega)];simp (disch:=omega) only [z9f,Zo,cond_false];rfl
 | k+1,i,s,h=>by
  have hi:i<L.length:=by omega
  obtain ⟨N,hN⟩:=u3u (a:=a) (b:=b) (c:=c) (d:=d) (e:=e) (f:=f) hl k (i+1) (IntKind.wrap .i64 (s - fu1 (rd L i) a b c d e f)) (by omega);have hw:IntKind.wrap .i64 ((i:Int)+1)=((i+1:Nat):Int):=Zu (by omega);refine ⟨N+1,?_⟩;rw [Zw,Yc hi];simp (disch:=omega) only [z9f,fuF,Zd,Ze,hw,Zj,Bool.and_true,cond_true];exact hN
theorem u9b (L:List R6) (a b c d e f:Int) (h:z7q L a b c d e f=true): ∃N,Yj (z9f L a b c d e f) N (x0r L a b c d e f)=.ret [.bool (y8n L a b c d e f)]:=
 u3u (of_decide_eq_true h) L.length 0 _ (Nat.zero_add _)
def fDwn :List AVal→Option (AVal×Bool)
 | [.int .i64 x0,.int .i64 x1]=>some (.int .i64 (Xp x0 x1),Xm x0 x1)
 | _=>none
theorem j0f {S:Specs} (hS:Zq prog S):Zq prog (S.with nDown fDwn):=by
 refine z3b hS (by kernel_rfl) fun args v h=> ?_;unfold fDwn at h;split at h
 ·rename_i x0 x1;simp only [Option.some.injEq,Prod.mk.injEq,Bool.and_eq_true] at h;obtain ⟨rfl,hw⟩:=h;obtain ⟨N,hN⟩:=j0v x0 x1 hw;exact ⟨_,_,(.cons (.refl _) (.cons (.refl _) .nil)),rfl,v8c x0 x1 N _ hN,3,rfl⟩
 ·cases h
def fFul :List AVal→Option (AVal×Bool)
 | [a0,.agg [.int .i64 bE,.int .i64 bF],.agg [.int .i64 cD,.int .i64 cE],.agg [.int .i64 cR,.int .i64 cS]]=>match asL R6 a0 with
  | some (L0,g0,n0)=>some (.bool (y8n L0 bE bF cD cE cR cS),isT R6 n0 g0&&(z7q L0 bE bF cD cE cR cS))
  | _=>none
 | _=>none
theorem j0b {S:Specs} (hS:Zq prog S):Zq prog (S.with nFull fFul):=by
 refine z3b hS (by kernel_rfl) fun args v h=> ?_;unfold fFul at h;split at h
 ·rename_i a0 bE bF cD cE cR cS;split at h
  ·rename_i L0 g0 n0 e0;simp only [Option.some.injEq,Prod.mk.injEq,Bool.and_eq_true] at h;obtain ⟨rfl,ho0,hw⟩:=h;obtain ⟨N,hN⟩:=u9b L0 bE bF cD cE cR cS hw;exact ⟨_,_,(.cons (asL_le e0 ho0) (.cons (.refl _) (.cons (.refl _) (.cons (.refl _) .nil)))),rfl,v7g L0 bE bF cD cE cR cS N _ hN,3,rfl⟩
  ·cases h
 ·cases h
def De :Specs:=(((Dd.with w9w fSlm).with nDown fDwn).with nFull fFul)
theorem z0i :Zq prog De:=(j0b (j0f (u9m Jo)))
end Go.Am
namespace Go.Am
open Go.Proofs.Tryz
open Go.Proofs
inductive outeS where
 | h0 (v7:List R6) (v19:Int)
def u7r (l0:List R6) (x1:Int):outeS→Cfg
 | .h0 v7 v19=>⟨⟨89,0,true⟩,none,(Zb prog 34 [1,1,1,0,1,0,0] 0),none,(Zy prog 16),⟨Yq [(1,(ii x1)),(7,(.sla 0 6 0 v7.length (.un 6))),(17,(.dat l0.length (Zz l0))),(18,(ii (l0.length:Int))),(19,(ii v19))],Uv [⟨rows v7.length (Zz v7),68,some ⟨6,v7.length,(Zz v7)⟩⟩] 0,1,[],true⟩,[],.leaf⟩
def u2a :List (Option (List Nat)):=[some [1,7,17,18,19]]
def u2b :List (Option (List Nat)):=[]
def z2c (l0:List R6) (x1:Int):outeS→Xe outeS
 | .h0 v7 v19=>(bif (decide (v19<(l0.length:Int))) then (bif ((decide (0≤v19∧v19<(l0.length:Int)))&&true) then (bif (Xm (rd l0 v19.toNat).a x1) then (bif (Xm (rd l0 v19.toNat).b x1) then (bif (Xm (rd l0 v19.toNat).c x1) then (bif (Xm (IntKind.wrap .i64 (0 - (rd l0 v19.toNat).d)) x1) then (bif (Xm (IntKind.wrap .i64 (0 - (rd l0 v19.toNat).e)) x1) then (bif (Xm (IntKind.wrap .i64 (0 - (rd l0 v19.toNat).f)) x1) then (bif (decide ((Ju (Ju (Xp (rd l0 v19.toNat).a x1) (Xp (rd l0 v19.toNat).b x1)) (Xp (rd l0 v19.toNat).c x1))<(-1000000))) then (.ret [.nils,(.int .i64 16)]) else (bif (decide ((Wf (Wf (IntKind.wrap .i64 (0 - (Xp (IntKind.wrap .i64 (0 - (rd l0 v19.toNat).d)) x1))) (IntKind.wrap .i64 (0 - (Xp (IntKind.wrap .i64 (0 - (rd l0 v19.toNat).e)) x1)))) (IntKind.wrap .i64 (0 - (Xp (IntKind.wrap .i64 (0 - (rd l0 v19.toNat).f)) x1))))>1000000)) then (.ret [.nils,(.int .i64 16)]) else (bif (Nat.beq 6 6&&((decide (0+v7.length=v7.length))&&decide ((v7.length+1+1)*(48+1)≤Un))) then (.to (.h0 (v7++[(R6.mk (Xp (rd l0 v19.toNat).a x1) (Xp (rd l0 v19.toNat).b x1) (Xp (rd l0 v19.toNat).c x1) (IntKind.wrap .i64 (0 - (Xp (IntKind.wrap .i64 (0 - (rd l0 v19.toNat).d)) x1))) (IntKind.wrap .i64 (0 - (Xp (IntKind.wrap .i64 (0 - (rd l0 v19.toNat).e)) x1))) (IntKind.wrap .i64 (0 - (Xp (IntKind.wrap .i64 (0 - (rd l0 v19.toNat).f)) x1))))]) (IntKind.wrap .i64 (v19+1)))) else .stuck))) else .stuck) else .stuck) else .stuck) else .stuck) else .stuck) else .stuck) else .stuck) else (bif (z6o (cvT v7)) then (.ret [(.dat (Qi (cvT v7)).length (Zz (Qi (cvT v7)))),(.int .i64 (Jr (cvT v7)))]) else .stuck))
def z7k (l0:List R6) (x1:Int):Xe outeS:=(bif (Wg (cvT l0)) then (bif ((Zf (cvT l0)) != 0) then (.ret [.nils,(.int .i64 (Zf (cvT l0)))]) else (bif (decide (x1<1)) then (.ret [.nils,(.int .i64 2)]) else (bif (decide (x1>1000)) then (.ret [.nils,(.int .i64 2)]) else (.to (.h0 ([]:List R6) 0))))) else .stuck)
theorem x6u (l0:List R6) (x1:Int): ∀s,Xr prog (Zy prog 34) (u7r l0 x1) (u7r l0 x1 s) (z2c l0 x1 s)
 | .h0 v7 v19=>(lb (fun k0=>(lo fun aJ=>(lo fun bJ=>(lo fun cJ=>(lo fun dL=>(lo fun dW=>(lo fun dX=>(lo fun eD=>(lb (fun k1=>(lr 89 34 [1,1,1,0,1,0,0,1,1,0,0,1,1,0,1,0,0] 1 16 [(4,.nils),(5,(ii 16))] (sl z0i 52 [] ⟨[],[],[some [4,5]],[]⟩ ⟨[],[],[]⟩ (trs 13 []) (tt k1 (ww eD (ww dX (ww dW (ww dL (ww cJ (ww bJ (ww aJ (tt k0 nn)))))))))))) (fun k1=>(lb (fun k2=>(lr 89 34 [1,1,1,0,1,0,0,1,1,0,0,1,1,0,1,0,0] 1 16 [(4,.nils),(5,(ii 16))] (sl z0i 52 [] ⟨[],[],[some [4,5]],[]⟩ ⟨[],[],[]⟩ (bl 13 4097) (tt k2 (tt k1 (ww eD (ww dX (ww dW (ww dL (ww cJ (ww bJ (ww aJ (tt k0 nn))))))))))))) (fun k2=>(lo fun o0=>(sl z0i 61 [] ⟨[4],[],u2a,u2b⟩ ⟨[(7,.len (v7++[(R6.mk (Xp (rd l0 (tn v19)).a x1) (Xp (rd l0 (tn v19)).b x1) (Xp (rd l0 (tn v19)).c x1) (wr (0 - (Xp (wr (0 - (rd l0 (tn v19)).d)) x1))) (wr (0 - (Xp (wr (0 - (rd l0 (tn v19)).e)) x1))) (wr (0 - (Xp (wr (0 - (rd l0 (tn v19)).f)) x1))))]).length)],[.rowed 6 (v7++[(R6.mk (Xp (rd l0 (tn v19)).a x1) (Xp (rd l0 (tn v19)).b x1) (Xp (rd l0 (tn v19)).c x1) (wr (0 - (Xp (wr (0 - (rd l0 (tn v19)).d)) x1))) (wr (0 - (Xp (wr (0 - (rd l0 (tn v19)).e)) x1))) (wr (0 - (Xp (wr (0 - (rd l0 (tn v19)).f)) x1))))]).length (Zz (v7++[(R6.mk (Xp (rd l0 (tn v19)).a x1) (Xp (rd l0 (tn v19)).b x1) (Xp (rd l0 (tn v19)).c x1) (wr (0 - (Xp (wr (0 - (rd l0 (tn v19)).d)) x1))) (wr (0 - (Xp (wr (0 - (rd l0 (tn v19)).e)) x1))) (wr (0 - (Xp (wr (0 - (rd l0 (tn v19)).f)) x1))))]))],[]⟩ (bl 13 1) (pp (xL (v7.length+1) (v7++[(R6.mk (Xp (rd l0 (tn v19)).a x1) (Xp (rd l0 (tn v19)).b x1) (Xp (rd l0 (tn v19)).c x1) (wr (0 - (Xp (wr (0 - (rd l0 (tn v19)).d)) x1))) (wr (0 - (Xp (wr (0 - (rd l0 (tn v19)).e)) x1))) (wr (0 - (Xp (wr (0 - (rd l0 (tn v19)).f)) x1))))]).length) (pp (xL (v7.length+1) (v7++[(R6.mk (Xp (rd l0 (tn v19)).a x1) (Xp (rd l0 (tn v19)).b x1) (Xp (rd l0 (tn v19)).c x1) (wr (0 - (Xp (wr (0 - (rd l0 (tn v19)).d)) x1))) (wr (0 - (Xp (wr (0 - (rd l0 (tn v19)).e)) x1))) (wr (0 - (Xp (wr (0 - (rd l0 (tn v19)).f)) x1))))]).length) (pp (xS (v7.length+1) (Zt (Zz v7) 0 v7.length 6 [(ii (Xp (rd l0 (tn v19)).a x1)),(ii (Xp (rd l0 (tn v19)).b x1)),(ii (Xp (rd l0 (tn v19)).c x1)),(ii (wr (0 - (Xp (wr (0 - (rd l0 (tn v19)).d)) x1)))),(ii (wr (0 - (Xp (wr (0 - (rd l0 (tn v19)).e)) x1)))),(ii (wr (0 - (Xp (wr (0 - (rd l0 (tn v19)).f)) x1))))]) (Zz (v7++[(R6.mk (Xp (rd l0 (tn v19)).a x1) (Xp (rd l0 (tn v19)).b x1) (Xp (rd l0 (tn v19)).c x1) (wr (0 - (Xp (wr (0 - (rd l0 (tn v19)).d)) x1))) (wr (0 - (Xp (wr (0 - (rd l0 (tn v19)).e)) x1))) (wr (0 - (Xp (wr (0 - (rd l0 (tn v19)).f)) x1))))]))) (pp (pp (xF (Zt (Zz v7) 0 v7.length 6 [(ii (Xp (rd l0 (tn v19)).a x1)),(ii (Xp (rd l0 (tn v19)).b x1)),(ii (Xp (rd l0 (tn v19)).c x1)),(ii (wr (0 - (Xp (wr (0 - (rd l0 (tn v19)).d)) x1)))),(ii (wr (0 - (Xp (wr (0 - (rd l0 (tn v19)).e)) x1)))),(ii (wr (0 - (Xp (wr (0 - (rd l0 (tn v19)).f)) x1))))])) nn) (ww o0 (tt k2 (tt k1 (ww eD (ww dX (ww dW (ww dL (ww cJ (ww bJ (ww aJ (tt k0 nn))))))))))))))))))))))))))))) (fun k0=>(Ww (sl z0i (C':=⟨⟨89,0,true⟩,(Wd prog 34 [1,1,1,1,0] 1),(Zb prog 34 [1,1,1,1,0] 1),none,(Zy prog 16),⟨Yq [(85,(.dat v7.length (Zz v7)))],Uv [] 0,0,[],true⟩,[],.leaf⟩) 10 [] ⟨[],[0],[some [85]],[]⟩ ⟨[(85,.frz v7.length v7.length (Zz v7) (Zz v7))],[],[]⟩ [false] (pp (xZ (z2u 6 6 0 v7.length v7.length (Zz v7)) v7.length (Zz v7)) (pp (xL v7.length v7.length) (pp (xS v7.length (Zz v7) (Zz v7)) (pp (fl v7 nn) (tt k0 nn)))))) (lo fun o0=>(lr 89 3 [1,1,1,1,1,1,0] 1 16 [(4,(.dat (Qi (cvT v7)).length (Zz (Qi (cvT v7))))),(5,(ii (Jr (cvT v7))))] (sl z0i 6 [] ⟨[],[],[some [4,5]],[]⟩ ⟨[],[],[]⟩ [] (pp (pp (xr v7) (xw o0)) nn)))))))
theorem x2r (l0:List R6) (x1:Int):Xr prog (Zy prog 34) (u7r l0 x1) (Zi prog 34 [(.dat l0.length (Zz l0)),(.int .i64 x1)] true []) (z7k l0 x1):=(lo fun bO=>(lb (fun k0=>(lr 89 34 [1,0,1,1,0,0] 1 16 [(4,.nils),(5,(ii (Zf (cvT l0))))] (sl z0i 48 [] ⟨[],[],[some [4,5]],[]⟩ ⟨[],[],[]⟩ [true,true] (tt k0 (tt k0 (pp (pp (xr l0) (xw bO)) nn)))))) (fun k0=>(lb (fun k1=>(lr 89 34 [1,0,1,1,0,0] 1 16 [(4,.nils),(5,(ii 2))] (sl z0i 59 [] ⟨[],[],[some [4,5]],[]⟩ ⟨[],[],[]⟩ [false,true,true,true,true] (tt k1 (tt k0 (pp (pp (xr l0) (xw bO)) nn)))))) (fun k1=>(lb (fun k2=>(lr 89 34 [1,0,1,1,0,0] 1 16 [(4,.nils),(5,(ii 2))] (sl z0i 59 [] ⟨[],[],[some [4,5]],[]⟩ ⟨[],[],[]⟩ [false,false,false,true,true] (tt k2 (tt k1 (tt k0 (pp (pp (xr l0) (xw bO)) nn))))))) (fun k2=>(sl z0i 68 [(68,6,Zz ([]:List R6))] ⟨[0],[],u2a,u2b⟩ ⟨[(7,.grow 0 6)],[],[]⟩ [false,false,false,false,false] (pp (fl ([]:List R6) nn) (tt k2 (tt k1 (tt k0 (pp (pp (xr l0) (xw bO)) nn)))))))))))))
theorem w9k (l0:List R6) (x1:Int) (n:Nat) (vs:List AVal) (h:Yj (z2c l0 x1) n (z7k l0 x1)=.ret vs):Kg prog (Zy prog 34) (Zi prog 34 [(.dat l0.length (Zz l0)),(.int .i64 x1)] true []) vs:=by have:=Yw (x6u l0 x1) n _ (x2r l0 x1);rwa [h] at this
inductive colS where
 | h0 (v14:Int) (aB:List Int)
 | h1 (v5:Int) (aE:List R2) (bR:Nat) (aY:List Int)
 | h2 (v5:Int) (v6:List R6) (v19:Int) (aE:List R2) (bR:Nat) (aY:List Int)
abbrev y9a (aB:List Int) (l0:List R6) (v14:Int) (x3:Int):=(aB++[(Xp (rd l0 (tn v14)).b x3),(wr (0 - (Xp (wr (0 - (rd l0 (tn v14)).b)) x3))),(Xp (rd l0 (tn v14)).e x3),(wr (0 - (Xp (wr (0 - (rd l0 (tn v14)).e)) x3)))])
abbrev z2x (aE:List R2) (aY:List Int) (v5:Int):=(aE++[(R2.mk (rd aY (0+(tn (wr (v5 - 1))))) (rd aY (0+(tn v5))))])
abbrev y8z (v6:List R6) (l0:List R6) (v19:Int):=(v6++[(R6.mk (rd l0 (tn v19)).a (rd l0 (tn v19)).b (rd l0 (tn v19)).c (rd l0 (tn v19)).d (rd l0 (tn v19)).e (rd l0 (tn v19)).f)])
abbrev y8y (aB:List Int):=(Xx (Yp aB.length (cOf (Zz (Yh (Yp aB.length (cOf (Zz aB))))))))
abbrev w1w (aE:List R2) (aY:List Int) (v5:Int):=(Zt (Zz aE) 0 aE.length 2 [(ii (rd aY (0+(tn (wr (v5 - 1)))))),(ii (rd aY (0+(tn v5))))])
def u4p :=(z5j [(0,⟨.ready,none,51,Yq [(5,(.ptr 1 0)),(6,(.ptr 2 0)),(9,(.ptr 3 0))],[16,17],(Xd prog 122 [1,1,0,1,0,0]),(Xd prog 122 [1,1,0,1,0,1])⟩)])
def u4o :AFr:=⟨⟨51,0,true⟩,none,(.inRangeFunc 0::(Zb prog 122 [1,1,0,1,0] 1)),none,(Zy prog 102),Yq [(8,.nils),(9,(.ptr 3 0))]⟩
abbrev u4n (aB:List Int) (l0:List R6) (v14:Int) (x3:Int):=(Zt (Zz aB) 0 aB.length 1 [(ii (Xp (rd l0 (tn v14)).b x3)),(ii (wr (0 - (Xp (wr (0 - (rd l0 (tn v14)).b)) x3)))),(ii (Xp (rd l0 (tn v14)).e x3)),(ii (wr (0 - (Xp (wr (0 - (rd l0 (tn v14)).e)) x3))))])
abbrev u4m (v6:List R6) (l0:List R6) (v19:Int):=(Zt (Zz v6) 0 v6.length 6 [(ii (rd l0 (tn v19)).a),(ii (rd l0 (tn v19)).b),(ii (rd l0 (tn v19)).c),(ii (rd l0 (tn v19)).d),(ii (rd l0 (tn v19)).e),(ii (rd l0 (tn v19)).f)])
def colC (l0:List R6) (bE:Int) (bF:Int) (cD:Int) (cE:Int) (x3:Int):colS→Cfg
 | .h0 v14 aB=>⟨⟨45,0,true⟩,none,(Zb prog 80 [1,1,0,1,0,0] 0),none,(Zy prog 4),⟨Yq [(2,(ii x3)),(3,(.ptr 0 0)),(4,(.ptr 1 0)),(7,(.ptr 2 0)),(12,(.dat l0.length (Zz l0))),(13,(ii (l0.length:Int))),(14,(ii v14))],Uv [⟨[(.dat l0.length (Zz l0))],22,none⟩,⟨[(ii 1)],3,none⟩,⟨[(.sla 6 1 0 aB.length (.un 1))],47,none⟩,⟨[(ii bE),(ii bF)],110,none⟩,⟨[(ii cD),(ii cE)],110,none⟩,⟨[.nils],158,none⟩,⟨rows aB.length (Zz aB),3,some ⟨1,aB.length,(Zz aB)⟩⟩] 0,7,[],true⟩,[⟨⟨51,0,true⟩,(Wd prog 122 [1,1,0,0] 2),(Zb prog 122 [1,1,0,0] 1),none,(Zy prog 102),Yq [(5,(.ptr 3 0)),(6,(.ptr 4 0)),(8,.nils),(9,(.ptr 5 0)),(13,(.dat l0.length (Zz l0))),(14,(ii x3))]⟩],.leaf⟩
 | .h1 v5 aE bR aY=>⟨⟨63,0,true⟩,none,(Zb prog 121 [1,0,0] 0),none,[],⟨Yq [(0,(.yld 0)),(1,(.ptr 4 0)),(2,(.ptr 6 0)),(3,(.ptr 7 0)),(5,(ii v5))],z0z [(1,⟨[(ii bE),(ii bF)],110,none⟩),(2,⟨[(ii cD),(ii cE)],110,none⟩),(3,⟨[(.sla 8 2 0 aE.length (.un 2))],158,none⟩),(4,⟨[(.sla 5 1 0 bR (.un 1))],47,none⟩),(5,⟨rows aY.length (Zz aY),3,some ⟨1,aY.length,(Zz aY)⟩⟩),(6,⟨[(.dat l0.length (Zz l0))],22,none⟩),(7,⟨[(ii 1)],3,none⟩),(8,⟨rows aE.length (Zz aE),110,some ⟨2,aE.length,(Zz aE)⟩⟩)],9,[],true⟩,[u4o],u4p⟩
 | .h2 v5 v6 v19 aE bR aY=>⟨⟨63,0,true⟩,none,(Zb prog 121 [1,0,0,1,0,0,1,0,1,0,0] 0),none,[],⟨Yq [(0,(.yld 0)),(1,(.ptr 4 0)),(2,(.ptr 6 0)),(3,(.ptr 7 0)),(5,(ii v5)),(6,(.sla 8 6 0 v6.length (.un 6))),(17,(.dat l0.length (Zz l0))),(18,(ii (l0.length:Int))),(19,(ii v19))],z0z [(1,⟨[(ii bE),(ii bF)],110,none⟩),(2,⟨[(ii cD),(ii cE)],110,none⟩),(3,⟨[(.sla 9 2 0 aE.length (.un 2))],158,none⟩),(4,⟨[(.sla 5 1 0 bR (.un 1))],47,none⟩),(5,⟨rows aY.length (Zz aY),3,some ⟨1,aY.length,(Zz aY)⟩⟩),(6,⟨[(.dat l0.length (Zz l0))],22,none⟩),(7,⟨[(ii 1)],3,none⟩),(8,⟨rows v6.length (Zz v6),68,some ⟨6,v6.length,(Zz v6)⟩⟩),(9,⟨rows aE.length (Zz aE),110,some ⟨2,aE.length,(Zz aE)⟩⟩)],10,[],true⟩,[u4o],u4p⟩
def colN0 :List (Option (List Nat)):=[some [2,3,4,7,12,13,14],some [5,6,8,9,13,14]]
def colM0 :List (Option (List Nat)):=[]
def v1w :List (Option (List Nat)):=[some [0,1,2,3,5],some [8,9]]
def v1x :List (Option (List Nat)):=[some [5,6,9],none,none,none,none,none,none,none,none]
def v8y :List (Option (List Nat)):=[some [0,1,2,3,5,6,17,18,19],some [8,9]]
def v8z :List (Option (List Nat)):=[some [5,6,9],none,none,none,none,none,none,none,none,none]
def Vn (l0:List R6) (bE:Int) (bF:Int) (cD:Int) (cE:Int) (x3:Int):colS→Xe colS
 | .h0 v14 aB=>(bif (decide (v14<(l0.length:Int))) then (bif ((decide (0≤v14∧v14<(l0.length:Int)))&&true) then (bif (Xm (rd l0 v14.toNat).b x3) then (bif (Xm (IntKind.wrap .i64 (0 - (rd l0 v14.toNat).b)) x3) then (bif (Xm (rd l0 v14.toNat).e x3) then (bif (Xm (IntKind.wrap .i64 (0 - (rd l0 v14.toNat).e)) x3) then (bif (Nat.beq 1 1&&((decide (0+aB.length=aB.length))&&decide ((aB.length+4+1)*(8+1)≤Un))) then (.to (.h0 (IntKind.wrap .i64 (v14+1)) (aB++[(Xp (rd l0 v14.toNat).b x3),(IntKind.wrap .i64 (0 - (Xp (IntKind.wrap .i64 (0 - (rd l0 v14.toNat).b)) x3))),(Xp (rd l0 v14.toNat).e x3),(IntKind.wrap .i64 (0 - (Xp (IntKind.wrap .i64 (0 - (rd l0 v14.toNat).e)) x3)))]))) else .stuck) else .stuck) else .stuck) else .stuck) else .stuck) else .stuck) else (bif (decide (aB.length<4611686018427387904)) then (bif (decide (aB.length=aB.length)) then (.to (.h1 1 ([]:List R2) (v1z (Yp aB.length (cOf (Zz (Yh (Yp aB.length (cOf (Zz aB)))))))) (Xx (Yp aB.length (cOf (Zz (Yh (Yp aB.length (cOf (Zz aB)))))))))) else .stuck) else .stuck))
 | .h1 v5 aE bR aY=>(bif (decide (v5<((bR:Nat):Int))) then (.to (.h2 v5 ([]:List R6) 0 aE bR aY)) else (.ret [(.dat aE.length (Zz aE))]))
 | .h2 v5 v6 v19 aE bR aY=>(bif (decide (v19<(l0.length:Int))) then (bif ((decide (0≤v19∧v19<(l0.length:Int)))&&true) then (bif ((decide (0≤v5∧v5<((bR:Nat):Int)))&&true) then (bif (decide ((0+v5.toNat)<aY.length)) then (bif (decide ((rd l0 v19.toNat).b <(rd aY (0+v5.toNat)))) then (bif ((decide (0≤(IntKind.wrap .i64 (v5 - 1))∧(IntKind.wrap .i64 (v5 - 1))<((bR:Nat):Int)))&&true) then (bif (decide ((0+(Int.toNat (IntKind.wrap .i64 (v5 - 1))))<aY.length)) then (bif (decide ((rd aY (0+(Int.toNat (IntKind.wrap .i64 (v5 - 1)))))<(rd l0 v19.toNat).e)) then (bif (Nat.beq 6 6&&((decide (0+v6.length=v6.length))&&decide ((v6.length+1+1)*(48+1)≤Un))) then (.to (.h2 v5 (v6++[(R6.mk (rd l0 v19.toNat).a (rd l0 v19.toNat).b (rd l0 v19.toNat).c (rd l0 v19.toNat).d (rd l0 v19.toNat).e (rd l0 v19.toNat).f)]) (IntKind.wrap .i64 (v19+1)) aE bR aY)) else .stuck) else (.to (.h2 v5 v6 (IntKind.wrap .i64 (v19+1)) aE bR aY))) else .stuck) else .stuck) else (.to (.h2 v5 v6 (IntKind.wrap .i64 (v19+1)) aE bR aY))) else .stuck) else .stuck) else .stuck) else (bif ((decide (0≤(IntKind.wrap .i64 (v5 - 1))∧(IntKind.wrap .i64 (v5 - 1))<((bR:Nat):Int)))&&true) then (bif (decide ((0+(Int.toNat (IntKind.wrap .i64 (v5 - 1))))<aY.length)) then (bif ((decide (0≤v5∧v5<((bR:Nat):Int)))&&true) then (bif (decide ((0+v5.toNat)<aY.length)) then (bif (Nat.beq 6 6&&(decide (0+v6.length≤v6.length)&&Qt (Zz v6))) then (bif (z7q (lst R6 (v6.length) (fun k=>(Zz v6) (0+k))) bE bF (rd aY (0+(Int.toNat (IntKind.wrap .i64 (v5 - 1))))) (rd aY (0+v5.toNat)) cD cE) then (bif (!(y8n (lst R6 (v6.length) (fun k=>(Zz v6) (0+k))) bE bF (rd aY (0+(Int.toNat (IntKind.wrap .i64 (v5 - 1))))) (rd aY (0+v5.toNat)) cD cE)) then (.to (.h1 (IntKind.wrap .i64 (v5+1)) aE bR aY)) else (bif (decide ((aE.length:Int)>0)) then (bif ((decide (0≤(IntKind.wrap .i64 ((aE.length:Int) - 1))∧(IntKind.wrap .i64 ((aE.length:Int) - 1))<(aE.length:Int)))&&true) then (bif (decide ((0+(Int.toNat (IntKind.wrap .i64 ((aE.length:Int) - 1))))<aE.length)) then (bif ((rd aE (0+(Int.toNat (IntKind.wrap .i64 ((aE.length:Int) - 1))))).b == (rd aY (0+(Int.toNat (IntKind.wrap .i64 (v5 - 1)))))) then (.to (.h1 (IntKind.wrap .i64 (v5+1)) (aE.set (0+(Int.toNat (IntKind.wrap .i64 ((aE.length:Int) - 1)))) (R2.mk (rd aE (0+(Int.toNat (IntKind.wrap .i64 ((aE.length:Int) - 1))))).a (rd aY (0+v5.toNat)))) bR aY)) else (bif (Nat.beq 2 2&&((decide (0+aE.length=aE.length))&&decide ((aE.length+1+1)*(16+1)≤Un))) then (.to (.h1 (IntKind.wrap .i64 (v5+1)) (aE++[(R2.mk (rd aY (0+(Int.toNat (IntKind.wrap .i64 (v5 - 1))))) (rd aY (0+v5.toNat)))]) bR aY)) else .stuck)) else .stuck) else .stuck) else (bif (Nat.beq 2 2&&((decide (0+aE.length=aE.length))&&decide ((aE.length+1+1)*(16+1)≤Un))) then (.to (.h1 (IntKind.wrap .i64 (v5+1)) (aE++[(R2.mk (rd aY (0+(Int.toNat (IntKind.wrap .i64 (v5 - 1))))) (rd aY (0+v5.toNat)))]) bR aY)) else .stuck))) else .stuck) else .stuck) else .stuck) else .stuck) else .stuck) else .stuck))
def x1b (l0:List R6) (bE:Int) (bF:Int) (cD:Int) (cE:Int) (x3:Int):Xe colS:=(.to (.h0 0 ([]:List Int)))
theorem w5b (l0:List R6) (bE:Int) (bF:Int) (cD:Int) (cE:Int) (x3:Int): ∀s,Xr prog (Zy prog 122) (colC l0 bE bF cD cE x3) (colC l0 bE bF cD cE x3 s) (Vn l0 bE bF cD cE x3 s)
 | .h0 v14 aB=>(lb (fun k0=>(lo fun o0=>(lo fun o1=>(lo fun o2=>(lo fun o3=>(lo fun o4=>(lo fun o5=>(sl z0i 45 [] ⟨[0,1,2,3,4,5,12],[],colN0,colM0⟩ ⟨[],[.keep,.keep,.cells [.len (y9a aB l0 v14 x3).length],.keep,.keep,.keep,.rowed 1 (y9a aB l0 v14 x3).length (Zz (y9a aB l0 v14 x3))],[]⟩ (bl 5 11) (pp (xL (aB.length+4) (y9a aB l0 v14 x3).length) (pp (xL (aB.length+4) (y9a aB l0 v14 x3).length) (pp (xS (aB.length+4) (u4n aB l0 v14 x3) (Zz (y9a aB l0 v14 x3))) (pp (pp (xF (u4n aB l0 v14 x3)) nn) (ww o5 (ww o4 (ww o3 (ww o2 (ww o1 (ww o0 (tt k0 nn))))))))))))))))))) (fun k0=>(lo fun o0=>(lo fun o1=>(sl z0i 33 [(110,2,Zz ([]:List R2))] ⟨[7,3,4,5,2,6,0,1,8],[],v1w,v1x⟩ ⟨[],(kpB 3 [.cells [.grow 8 2],.keep,.rowed 1 (y8y aB).length (Zz (y8y aB)),.keep,.keep,.keep]),[]⟩ [false] (pp (xL aB.length (y8y aB).length (by first | exact Qz _ _ | exact Vu rfl)) (pp (xS aB.length (Zz (y8y aB)) (Zz (y8y aB))) (pp (fl (y8y aB) (fl ([]:List R2) nn)) (pp (pp (xG (Nat.beq 1 1)) (pp (xG (Nat.beq 1 1)) (pp (xG (Nat.beq 0 0)) (pp (xG (decide (aB.length=aB.length))) (pp (xG (isI (Zz (Yh (Yp aB.length (cOf (Zz aB))))))) (xG (decide (aB.length<4611686018427387904)))))))) (pp (pp (xG (Nat.beq 1 1)) (pp (xG (Nat.beq 1 1)) (pp (xG (Nat.beq 0 0)) (pp (xG (decide (aB.length=aB.length))) (pp (xG (isI (Zz aB))) (xG (decide (aB.length<4611686018427387904)))))))) (tt k0 nn)))))))))))
 | .h1 v5 aE bR aY=>(lb (fun k0=>(sl z0i 25 [(68,6,Zz ([]:List R6))] ⟨[0,1,2,3,4,5,6,7,9,8],[],v8y,v8z⟩ ⟨[(6,.grow 8 6)],[],[]⟩ [true] (pp (fl aY (fl ([]:List R6) (fl aE nn))) (tt k0 nn)))) (fun k0=>(lr 51 3 [1,1,1,1,1,1,0] 1 102 [(8,(.dat aE.length (Zz aE)))] (sl z0i 18 [] ⟨[],[8],[some [8]],[]⟩ ⟨[(8,.frz aE.length aE.length (Zz aE) (Zz aE))],[],[]⟩ [false] (pp (xZ (z2u 2 2 0 aE.length aE.length (Zz aE)) aE.length (Zz aE)) (pp (xL aE.length aE.length) (pp (xS aE.length (Zz aE) (Zz aE)) (pp (fl aE nn) (tt k0 nn)))))))))
 | .h2 v5 v6 v19 aE bR aY=>(lb (fun k0=>(lo fun aJ=>(lo fun bJ=>(lo fun cJ=>(lb (fun k1=>(lo fun cK=>(lo fun dU=>(lb (fun k2=>(lo fun o0=>(sl z0i 70 [] ⟨[0,1,2,3,4,5,6,7,15,9],[],v8y,v8z⟩ ⟨[(6,.len (y8z v6 l0 v19).length)],(kpB 8 [.rowed 6 (y8z v6 l0 v19).length (Zz (y8z v6 l0 v19)),.keep]),[]⟩ (bl 13 8171) (pp (xL (v6.length+1) (y8z v6 l0 v19).length) (pp (xL (v6.length+1) (y8z v6 l0 v19).length) (pp (xS (v6.length+1) (u4m v6 l0 v19) (Zz (y8z v6 l0 v19))) (pp (fl aY (pp (xF (u4m v6 l0 v19)) (fl aE nn))) (ww o0 (tt k2 (ww dU (ww cK (tt k1 (ww cJ (ww bJ (ww aJ (tt k0 nn)))))))))))))))) (fun k2=>(sl z0i 64 [] ⟨(List.range 10),[],v8y,v8z⟩ ⟨[],[],[]⟩ (bl 13 4075) (pp (fl aY (fl v6 (fl aE nn))) (tt k2 (ww dU (ww cK (tt k1 (ww cJ (ww bJ (ww aJ (tt k0 nn))))))))))))))) (fun k1=>(sl z0i 64 [] ⟨(List.range 10),[],v8y,v8z⟩ ⟨[],[],[]⟩ (bl 13 11) (pp (fl aY (fl v6 (fl aE nn))) (tt k1 (ww cJ (ww bJ (ww aJ (tt k0 nn))))))))))))) (fun k0=>(lo fun aJ=>(lo fun bJ=>(lo fun cJ=>(lo fun dL=>(lo fun dW=>(lo fun dX=>(lb (fun k1=>(sl z0i 44 [] ⟨[0,1,2,3,4,5,6,7,9],[],v1w,v1x⟩ ⟨[],[],[]⟩ (bl 3 2) (pp (fl aY (fl aE nn)) (tt k1 (pp (pp (pp (xw dW) (pp nn (pp nn (pp nn nn)))) (pp (xI R6 (v6.length) (fun k=>(Zz v6) (0+k))) (xw dX))) (ww dL (ww cJ (ww bJ (ww aJ (tt k0 nn)))))))))) (fun k1=>(lb (fun k2=>(lo fun cP=>(lo fun dT=>(lb (fun k3=>(sl z0i 64 [] ⟨[0,1,2,3,4,5,6,7,9],[],v1w,v1x⟩ ⟨[],(kpB 3 [.cells [.len (aE.set (0+(tn (wr ((aE.length:Int) - 1)))) (R2.mk (rd aE (0+(tn (wr ((aE.length:Int) - 1))))).a (rd aY (0+(tn v5))))).length],.keep,.keep,.keep,.keep,.rowed 2 (aE.set (0+(tn (wr ((aE.length:Int) - 1)))) (R2.mk (rd aE (0+(tn (wr ((aE.length:Int) - 1))))).a (rd aY (0+(tn v5))))).length (Zz (aE.set (0+(tn (wr ((aE.length:Int) - 1)))) (R2.mk (rd aE (0+(tn (wr ((aE.length:Int) - 1))))).a (rd aY (0+(tn v5))))))]),[]⟩ (bl 13 4092) (pp (xL aE.length (aE.set (0+(tn (wr ((aE.length:Int) - 1)))) (R2.mk (rd aE (0+(tn (wr ((aE.length:Int) - 1))))).a (rd aY (0+(tn v5))))).length) (pp (xL aE.length (aE.set (0+(tn (wr ((aE.length:Int) - 1)))) (R2.mk (rd aE (0+(tn (wr ((aE.length:Int) - 1))))).a (rd aY (0+(tn v5))))).length) (pp (xS aE.length (Xj (Zz aE) (0+(tn (wr ((aE.length:Int) - 1)))) 1 [(ii (rd aY (0+(tn v5))))]) (Zz (aE.set (0+(tn (wr ((aE.length:Int) - 1)))) (R2.mk (rd aE (0+(tn (wr ((aE.length:Int) - 1))))).a (rd aY (0+(tn v5))))))) (pp (fl aY (pp (xF (Xj (Zz aE) (0+(tn (wr ((aE.length:Int) - 1)))) 1 [(ii (rd aY (0+(tn v5))))])) nn)) (ww dT (ww cP (tt k3 (ww dT (ww cP (tt k2 (tt k1 (pp (pp (pp (xw dW) (pp nn (pp nn (pp nn nn)))) (pp (xI R6 (v6.length) (fun k=>(Zz v6) (0+k))) (xw dX))) (ww dL (ww cJ (ww bJ (ww aJ (tt k0 nn))))))))))))))))))) (fun k3=>(lo fun o0=>(sl z0i 61 [] ⟨[0,1,2,3,4,5,6,7,12],[],v1w,v1x⟩ ⟨[],(kpB 3 [.cells [.len (z2x aE aY v5).length],.keep,.keep,.keep,.keep,.rowed 2 (z2x aE aY v5).length (Zz (z2x aE aY v5))]),[]⟩ (bl 13 2044) (pp (xL (aE.length+1) (z2x aE aY v5).length) (pp (xL (aE.length+1) (z2x aE aY v5).length) (pp (xS (aE.length+1) (w1w aE aY v5) (Zz (z2x aE aY v5))) (pp (fl aY (pp (xF (w1w aE aY v5)) nn)) (ww o0 (tt k3 (ww dT (ww cP (tt k2 (tt k1 (pp (pp (pp (xw dW) (pp nn (pp nn (pp nn nn)))) (pp (xI R6 (v6.length) (fun k=>(Zz v6) (0+k))) (xw dX))) (ww dL (ww cJ (ww bJ (ww aJ (tt k0 nn))))))))))))))))))))))) (fun k2=>(lo fun o0=>(sl z0i 61 [] ⟨[0,1,2,3,4,5,6,7,12],[],v1w,v1x⟩ ⟨[],(kpB 3 [.cells [.len (z2x aE aY v5).length],.keep,.keep,.keep,.keep,.rowed 2 (z2x aE aY v5).length (Zz (z2x aE aY v5))]),[]⟩ (bl 13 0) (pp (xL (aE.length+1) (z2x aE aY v5).length) (pp (xL (aE.length+1) (z2x aE aY v5).length) (pp (xS (aE.length+1) (w1w aE aY v5) (Zz (z2x aE aY v5))) (pp (fl aY (pp (xF (w1w aE aY v5)) nn)) (ww o0 (tt k2 (tt k1 (pp (pp (pp (xw dW) (pp nn (pp nn (pp nn nn)))) (pp (xI R6 (v6.length) (fun k=>(Zz v6) (0+k))) (xw dX))) (ww dL (ww cJ (ww bJ (ww aJ (tt k0 nn)))))))))))))))))))))))))))
theorem x8s (l0:List R6) (bE:Int) (bF:Int) (cD:Int) (cE:Int) (x3:Int):Xr prog (Zy prog 122) (colC l0 bE bF cD cE x3) (Zi prog 122 [(.dat l0.length (Zz l0)),(.agg [(.int .i64 bE),(.int .i64 bF)]),(.agg [(.int .i64 cD),(.int .i64 cE)]),(.int .i64 x3)] true []) (x1b l0 bE bF cD cE x3):=(sl z0i 35 [(3,1,Zz ([]:List Int))] ⟨[3,4,5,0,1,2,6],[],colN0,colM0⟩ ⟨[],[.keep,.keep,.cells [.grow 6 1],.keep,.keep,.keep,.keep],[]⟩ [] (pp (fl ([]:List Int) nn) nn))
theorem v8x (l0:List R6) (bE:Int) (bF:Int) (cD:Int) (cE:Int) (x3:Int) (n:Nat) (vs:List AVal) (h:Yj (Vn l0 bE bF cD cE x3) n (x1b l0 bE bF cD cE x3)=.ret vs):Kg prog (Zy prog 122) (Zi prog 122 [(.dat l0.length (Zz l0)),(.agg [(.int .i64 bE),(.int .i64 bF)]),(.agg [(.int .i64 cD),(.int .i64 cE)]),(.int .i64 x3)] true []) vs:=by have:=Yw (w5b l0 bE bF cD cE x3) n _ (x8s l0 bE bF cD cE x3);rwa [h] at this
end Go.Am
namespace Go.Am
open Go.Proofs.Tryz
open Go.Proofs Go.Sort Go.Shelf Go.RowKit Go.Lib
def upV (x n:Int):Int:=IntKind.wrap .i64 (0 - Xp (IntKind.wrap .i64 (0 - x)) n)
theorem v8b {x n:Int} (h:n≠0):Xm x n=true:=by unfold Xm;rw [decide_eq_false h];rfl
def oB (n:Int) (r:R6):R6:=⟨Xp r.a n,Xp r.b n,Xp r.c n,upV r.d n,upV r.e n,upV r.f n⟩
def oOk (n:Int) (r:R6):Bool:= !decide (Ju (Ju (Xp r.a n) (Xp r.b n)) (Xp r.c n)<(-1000000))&& !decide (Wf (Wf (upV r.d n) (upV r.e n)) (upV r.f n)>1000000)
def outR (n:Int) (L:List R6) (ok:Bool):List AVal:=bif ok then [.dat (Qi (L.map (oB n))).length (Zz (Qi (L.map (oB n)))),.int .i64 (Jr (L.map (oB n)))] else [.nils,.int .i64 16]
theorem w9j {L:List R6} {n:Int} (hl:L.length≤400) (hn:n≠0): ∀(k i:Nat) (acc:List R6),i+k=L.length→acc=(L.take i).map (oB n)→ ∃N,Yj (z2c L n) N (.to (.h0 acc (i:Int)))=.ret (outR n L ((L.drop i).all (oOk n)))
 | 0,i,acc,h,ha=>by refine ⟨1,?_⟩;rw [List.take_of_length_le (by omega)] at ha;subst ha;rw [Zw,List.drop_eq_nil_of_le (by omega)];simp (disch:=omega) only [z2c,Zo,Zp,show∀l,z6o l=true from fun _=>rfl,cond_true,cond_false,Zg,outR,List.all_nil]
 | k+1,i,acc,h,ha=>by
  have hi:i<L.length:=by omega
  have hla:acc.length=i:=by rw [ha,List.length_map,List.length_take];omega
  obtain ⟨N,hN⟩:=w9j hl hn k (i+1) (acc++[oB n (rd L i)]) (by omega) (by rw [ha,Yt hi,←List.map_singleton,←List.map_append,List.take_append_getElem]);have hw:IntKind.wrap .i64 ((i:Int)+1)=((i+1:Nat):Int):=Zu (by omega);have hs:z2c L n (.h0 acc (i:Int))=bif oOk n (rd L i) then .to (.h0 (acc++[oB n (rd L i)]) ((i+1:Nat):Int)) else .ret [.nils,.int .i64 16]:=by simp (disch:=omega) only [z2c,Zd,Ze,hw,Zj,v8b hn,Yx,Zc,Yu,Nat.zero_add,decide_true,Bool.and_true,Bool.true_and,cond_true];unfold oOk upV oB;cases decide (Ju (Ju (Xp (rd L i).a n) (Xp (rd L i).b n)) (Xp (rd L i).c n)<(-1000000)) <;> cases decide (Wf (Wf (IntKind.wrap .i64 (0 - Xp (IntKind.wrap .i64 (0 - (rd L i).d)) n)) (IntKind.wrap .i64 (0 - Xp (IntKind.wrap .i64 (0 - (rd L i).e)) n))) (IntKind.wrap .i64 (0 - Xp (IntKind.wrap .i64 (0 - (rd L i).f)) n))>1000000) <;> rfl
  refine ⟨N+1,?_⟩;rw [Zw,hs,Yc hi,List.all_cons];rcases Yv (oOk n (rd L i)) with q | q
  ·rw [q,cond_true,Bool.true_and];exact hN
  ·rw [q,cond_false,Bool.false_and];exact Zg _ _ _
def u7w (L:List R6) (n:Int):Bool:=(Zf L == 0)&&(!decide (n<1)&&(!decide (n>1000)&&L.all (oOk n)))
def Zr (L:List R6) (n:Int):List R6:=bif u7w L n then Qi (L.map (oB n)) else []
def Vg (L:List R6) (n:Int):Int:=bif Zf L != 0 then Zf L else bif decide (n<1)||decide (n>1000) then 2 else bif L.all (oOk n) then Jr (L.map (oB n)) else 16
def outW (L:List R6) (n:Int):List AVal:=bif u7w L n then [.dat (Zr L n).length (Zz (Zr L n)),.int .i64 (Vg L n)] else [.nils,.int .i64 (Vg L n)]
theorem v5v (L:List R6) (n:Int): ∃N,Yj (z2c L n) N (z7k L n)=.ret (outW L n):=by
 have hk:(Zf L != 0)= !(Zf L == 0):=rfl;unfold z7k outW Zr Vg u7w;simp only [Zp,z4k,cond_true,hk];rcases Yv (Zf L == 0) with a | a
 ·rcases Yv (decide (n<1)) with b | b
  ·refine ⟨0,?_⟩;rw [a,b];rfl
  ·rcases Yv (decide (n>1000)) with c | c
   ·refine ⟨0,?_⟩;rw [a,b,c];rfl
   ·have hb:=of_decide_eq_false b;obtain ⟨N,hN⟩:=w9j (L:=L) (n:=n) (Jw (eq_of_beq a)).1 (by omega) L.length 0 [] (Nat.zero_add _) rfl;refine ⟨N,?_⟩;rw [a,b,c];simp only [Bool.not_true,Bool.not_false,Bool.true_and,Bool.or_false,cond_true,cond_false];rw [Qv] at hN;rw [hN,List.drop_zero];unfold outR;cases L.all (oOk n) <;> rfl
 ·refine ⟨0,?_⟩;rw [a];rfl
def Qs (L:List R6) (n:Int):Bool:=true
def fOut :List AVal→Option (AVal×Bool)
 | [a0,.int .i64 x1]=>match asL R6 a0 with
  | some (L0,g0,n0)=>some (.tup [.dat (Zr L0 x1).length (Zz (Zr L0 x1)),.int .i64 (Vg L0 x1)],isT R6 n0 g0&&Qs L0 x1)
  | _=>none
 | _=>none
theorem u9u {S:Specs} (hS:Zq prog S):Zq prog (S.with v0c fOut):=by
 refine v1i hS (by kernel_rfl) fun args v h=> ?_;unfold fOut at h;split at h
 ·rename_i a0 x1;split at h
  ·rename_i L0 g0 n0 e0;simp only [Option.some.injEq,Prod.mk.injEq,Bool.and_eq_true] at h;obtain ⟨rfl,ho0,hw⟩:=h;obtain ⟨N,hN⟩:=v5v L0 x1;refine ⟨_,outW L0 x1,(.cons (asL_le e0 ho0) (.cons (.refl _) .nil)),?_,w9k L0 x1 N _ hN,3,?_⟩
   ·unfold outW;rcases Yv (u7w L0 x1) with q | q
    ·rw [q];exact fun ρ u hu=>hu
    ·rw [q];unfold Zr;rw [q];exact fun ρ u hu=>z6n (.cons (z2f R6) (RLe.refl _)) ρ u hu
   ·unfold outW;cases u7w L0 x1 <;> rfl
  ·cases h
 ·cases h
def crS (lo hi:R6→Int) (L:List R6) (x x':Int):List R6:=L.filter fun r=>decide (lo r<x')&&decide (x<hi r)
theorem z9j (lo hi:R6→Int) (L M:List R6) (x x':Int):crS lo hi (L++M) x x'=crS lo hi L x x'++crS lo hi M x x':=by simp [crS]
theorem Qh (lo hi:R6→Int) (L:List R6) (x x':Int):(crS lo hi L x x').length ≤L.length:=List.length_filter_le _ L
theorem j0z {lo hi:R6→Int} {r:R6} {x x':Int} (h1:lo r<x') (h2:x<hi r):crS lo hi [r] x x'=[r]:=by simp [crS,h1,h2]
theorem v1u {lo hi:R6→Int} {r:R6} {x x':Int} (h1: ¬lo r<x'):crS lo hi [r] x x'=[]:=by simp [crS,h1]
theorem v1t {lo hi:R6→Int} {r:R6} {x x':Int} (h2: ¬x<hi r):crS lo hi [r] x x'=[]:=by simp [crS,h2]
def rnE (lo hi:R6→Int) (n:Int) (L:List R6):List Int:=L.flatMap fun r=>[Xp (lo r) n,upV (lo r) n,Xp (hi r) n,upV (hi r) n]
theorem z8p (lo hi:R6→Int) (n:Int) (L M:List R6):rnE lo hi n (L++M)=rnE lo hi n L++rnE lo hi n M:=by simp [rnE]
theorem Wj (lo hi:R6→Int) (n:Int): ∀(L:List R6),(rnE lo hi n L).length =4*L.length
 | []=>rfl
 | r::L=>by show (_::_::_::_::rnE lo hi n L).length =_;simp only [List.length_cons,Wj lo hi n L];omega
def rnC (lo hi:R6→Int) (n:Int) (L:List R6):List Int:=Us (rnE lo hi n L)
theorem Uy (lo hi:R6→Int) (n:Int) (L:List R6):(rnC lo hi n L).length ≤4*L.length:=by have:=z8d (rnE lo hi n L);rw [Wj] at this;exact this
theorem u4j {L:List R6} {a b e f n:Int} (hl:L.length≤400) {i:Nat} (hi:i+1<(rnC R6.b R6.e n L).length) (out:List R2): ∀(k j:Nat) (acc:List R6),j+k=L.length→acc.length≤j→
  ∃N,∀M,Yj (Vn L a b e f n) (M+N) (.to (.h2 ((i+1:Nat):Int) acc (j:Int) out (rnC R6.b R6.e n L).length (Xx (Yh (rnE R6.b R6.e n L)))))=Yj (Vn L a b e f n) M (.to (.h2 ((i+1:Nat):Int) (acc++crS R6.b R6.e (L.drop j) (rd (rnC R6.b R6.e n L) i) (rd (rnC R6.b R6.e n L) (i+1))) (L.length:Int) out (rnC R6.b R6.e n L).length (Xx (Yh (rnE R6.b R6.e n L)))))
 | 0,j,acc,h,ha=>by refine ⟨0,fun M=> ?_⟩;rw [List.drop_eq_nil_of_le (by omega),show crS R6.b R6.e ([]:List R6) (rd (rnC R6.b R6.e n L) i) (rd (rnC R6.b R6.e n L) (i+1))=[] from rfl,List.append_nil,Nat.add_zero,show j=L.length by omega]
 | k+1,j,acc,h,ha=>by
  have hj:j<L.length:=by omega
  have hc:=Uy R6.b R6.e n L;have hpl:(Xx (Yh (rnE R6.b R6.e n L))).length =4*L.length:=by rw [Wa,Wz,Wj]
  have r0:rd (Xx (Yh (rnE R6.b R6.e n L))) i=rd (rnC R6.b R6.e n L) i:=Uo _ _ (by show i<(rnC R6.b R6.e n L).length;omega);have r1:rd (Xx (Yh (rnE R6.b R6.e n L))) (i+1)=rd (rnC R6.b R6.e n L) (i+1):=Uo _ _ (by show i+1<(rnC R6.b R6.e n L).length;omega);have e1:IntKind.wrap .i64 (((i+1:Nat):Int) - 1)=(i:Int):=by rw [Zh];exact Zu (by omega)
  have hw:IntKind.wrap .i64 ((j:Int)+1)=((j+1:Nat):Int):=Zu (by omega);obtain ⟨N,hN⟩:=u4j hl hi out k (j+1) (acc++crS R6.b R6.e [rd L j] (rd (rnC R6.b R6.e n L) i) (rd (rnC R6.b R6.e n L) (i+1))) (by omega) (by have:=Qh R6.b R6.e [rd L j] (rd (rnC R6.b R6.e n L) i) (rd (rnC R6.b R6.e n L) (i+1));simp only [List.length_append,List.length_singleton] at*;omega);refine ⟨N+1,fun M=> ?_⟩;have e:crS R6.b R6.e (L.drop j) (rd (rnC R6.b R6.e n L) i) (rd (rnC R6.b R6.e n L) (i+1))=crS R6.b R6.e [rd L j] (rd (rnC R6.b R6.e n L) i) (rd (rnC R6.b R6.e n L) (i+1))++crS R6.b R6.e (L.drop (j+1)) (rd (rnC R6.b R6.e n L) i) (rd (rnC R6.b R6.e n L) (i+1)):=by rw [Yc hj,←z9j];rfl
  rw [e,←Nat.add_assoc,Zw,←List.append_assoc,←hN M];by_cases h1:(rd L j).b <rd (rnC R6.b R6.e n L) (i+1)
  ·by_cases h2:rd (rnC R6.b R6.e n L) i<(rd L j).e
   ·rw [j0z h1 h2];simp (disch:=omega) only [Vn,e1,r0,r1,hw,Zp,Zk,Zd,Ze,Yz,Zs,Yx,Zc,Zu,Zx,Yu,Zj,Nat.zero_add,decide_true,Bool.and_true,Bool.true_and,cond_true,cond_false]
   ·rw [v1t h2,List.append_nil];simp (disch:=omega) only [Vn,Zo,e1,r0,r1,hw,Zp,Zk,Zd,Ze,Yz,Zs,Yx,Zc,Zu,Zx,Yu,Zj,Nat.zero_add,decide_true,Bool.and_true,Bool.true_and,cond_true,cond_false]
  ·rw [v1u h1,List.append_nil];simp (disch:=omega) only [Vn,Zo,e1,r0,r1,hw,Zp,Zk,Zd,Ze,Yz,Zs,Yx,Zc,Zu,Zx,Yu,Zj,Nat.zero_add,decide_true,Bool.and_true,Bool.true_and,cond_true,cond_false]
theorem u4l {L:List R6} {a b e f n:Int} (hl:L.length≤400) (hn:n≠0) {R:List AVal} (hR: ∃N,Yj (Vn L a b e f n) N (.to (.h1 1 [] (rnC R6.b R6.e n L).length (Xx (Yh (rnE R6.b R6.e n L)))))=.ret R): ∀(k i:Nat) (acc:List Int),i+k=L.length→acc=rnE R6.b R6.e n (L.take i)→ ∃N,Yj (Vn L a b e f n) N (.to (.h0 (i:Int) acc))=.ret R
 | 0,i,acc,h,ha=>by
  have e:acc=(rnE R6.b R6.e n L):=by rw [ha,List.take_of_length_le (by omega)]
  subst e;have hle:=Wj R6.b R6.e n L;obtain ⟨N,hN⟩:=hR;refine ⟨N+1,?_⟩;rw [Zw];simp (disch:=omega) only [Vn,Vi,Jc,z4d,Zo,Zs,Yx,decide_true,cond_true,cond_false];exact hN
 | k+1,i,acc,h,ha=>by
  have hle:=Wj R6.b R6.e n (L.take i);have fW:acc.length≤4*i:=by rw [ha,hle];simp;omega
  obtain ⟨N,hN⟩:=u4l hl hn hR k (i+1) (acc++rnE R6.b R6.e n [rd L i]) (by omega) (by
   rw [ha,List.take_add_one];have:L[i]? =some (rd L i):=by rw [Yt (show i<L.length by omega)];exact List.getElem?_eq_getElem _
   rw [this,z8p];rfl)
  refine ⟨N+1,?_⟩;rw [Zw];simp (disch:=omega) only [Vn,v8b hn,Zp,Zk,Zd,Ze,Yz,Zs,Yx,Zc,Zu,Zx,Yu,Zj,Nat.zero_add,decide_true,Bool.and_true,Bool.true_and,cond_true,cond_false];exact hN
def j1e (out:List R2) (x x':Int):List R2:=bif decide (0<out.length)&&((rd out (out.length - 1)).b == x) then out.set (out.length - 1) ⟨(rd out (out.length - 1)).a,x'⟩ else out++[⟨x,x'⟩]
def v9a (L:List R6) (a b e f:Int) (cs:List Int):Nat→Nat→List R2→List R2
 | 0,_,o=>o
 | k+1,i,o=>v9a L a b e f cs k (i+1) (bif y8n (crS R6.b R6.e L (rd cs i) (rd cs (i+1))) a b (rd cs i) (rd cs (i+1)) e f then j1e o (rd cs i) (rd cs (i+1)) else o)
def z0g (L:List R6) (a b e f n:Int):List R2:=v9a L a b e f (rnC R6.b R6.e n L) ((rnC R6.b R6.e n L).length - 1) 0 []
def z1p (L:List R6) (a b e f n:Int):Bool:=decide (L.length≤400)&& !decide (n=0)
theorem y5b (out:List R2) (x x':Int):(j1e out x x').length ≤out.length+1:=by unfold j1e;cases (decide (0<out.length)&&((rd out (out.length - 1)).b == x)) <;> simp
theorem u4k {L:List R6} {a b e f n:Int} (hl:L.length≤400): ∀(k i:Nat) (out:List R2),k=(rnC R6.b R6.e n L).length - 1 - i→i≤(rnC R6.b R6.e n L).length →out.length≤i→ ∃N,Yj (Vn L a b e f n) N (.to (.h1 ((i+1:Nat):Int) out (rnC R6.b R6.e n L).length (Xx (Yh (rnE R6.b R6.e n L)))))=.ret [.dat (v9a L a b e f (rnC R6.b R6.e n L) k i out).length (Zz (v9a L a b e f (rnC R6.b R6.e n L) k i out))]
 | 0,i,out,h,hi,ho=>by have hc:=Uy R6.b R6.e n L;refine ⟨1,?_⟩;rw [Zw];simp (disch:=omega) only [Vn,Zo,cond_false,Zg];rfl
 | k +1,i,out,h,hi,ho=>by
  have hc:=Uy R6.b R6.e n L;have hi1:i+1<(rnC R6.b R6.e n L).length :=by omega
  have hpl:(Xx (Yh (rnE R6.b R6.e n L))).length =4*L.length:=by rw [Wa,Wz,Wj]
  have r0:rd (Xx (Yh (rnE R6.b R6.e n L))) i=rd (rnC R6.b R6.e n L) i:=Uo _ _ (by show i<(rnC R6.b R6.e n L).length;omega);have r1:rd (Xx (Yh (rnE R6.b R6.e n L))) (i+1)=rd (rnC R6.b R6.e n L) (i+1):=Uo _ _ (by show i+1<(rnC R6.b R6.e n L).length;omega);have e1:IntKind.wrap .i64 (((i+1:Nat):Int) - 1)=(i:Int):=by rw [Zh];exact Zu (by omega)
  have hw:IntKind.wrap .i64 (((i+1:Nat):Int)+1)=((i+1+1:Nat):Int):=Zu (by omega);obtain ⟨N2,h2⟩:=u4j (a:=a) (b:=b) (e:=e) (f:=f) (n:=n) hl hi1 out L.length 0 [] (Nat.zero_add _) (Nat.le_refl _);rw [List.drop_zero,List.nil_append,Qv] at h2;have hin:=Qh R6.b R6.e L (rd (rnC R6.b R6.e n L) i) (rd (rnC R6.b R6.e n L) (i+1));have ew: ∀(v:List R6),lst R6 v.length (fun k=>(Zz v) (0+k))=v:=w3t;have fo:z7q (crS R6.b R6.e L (rd (rnC R6.b R6.e n L) i) (rd (rnC R6.b R6.e n L) (i+1))) a b (rd (rnC R6.b R6.e n L) i) (rd (rnC R6.b R6.e n L) (i+1)) e f=true:=decide_eq_true (by omega);have st0: ∀M,Yj (Vn L a b e f n) (M+N2+1) (.to (.h1 ((i+1:Nat):Int) out (rnC R6.b R6.e n L).length (Xx (Yh (rnE R6.b R6.e n L)))))=Yj (Vn L a b e f n) M (.to (.h2 ((i+1:Nat):Int) (crS R6.b R6.e L (rd (rnC R6.b R6.e n L) i) (rd (rnC R6.b R6.e n L) (i+1))) (L.length:Int) out (rnC R6.b R6.e n L).length (Xx (Yh (rnE R6.b R6.e n L))))):=fun M=>by rw [←h2 M,Zw];simp (disch:=omega) only [Vn,Zd,cond_true]
  have st1:Vn L a b e f n (.h2 ((i+1:Nat):Int) (crS R6.b R6.e L (rd (rnC R6.b R6.e n L) i) (rd (rnC R6.b R6.e n L) (i+1))) (L.length:Int) out (rnC R6.b R6.e n L).length (Xx (Yh (rnE R6.b R6.e n L))))=.to (.h1 ((i+1+1:Nat):Int) (bif y8n (crS R6.b R6.e L (rd (rnC R6.b R6.e n L) i) (rd (rnC R6.b R6.e n L) (i+1))) a b (rd (rnC R6.b R6.e n L) i) (rd (rnC R6.b R6.e n L) (i+1)) e f then j1e out (rd (rnC R6.b R6.e n L) i) (rd (rnC R6.b R6.e n L) (i+1)) else out) (rnC R6.b R6.e n L).length (Xx (Yh (rnE R6.b R6.e n L)))):=by
   simp (disch:=omega) only [Vn,Zo,e1,r0,r1,hw,ew,fo,Xw,Yz,Zp,Zk,Zd,Ze,Yz,Zs,Yx,Zc,Zu,Zx,Yu,Zj,Nat.zero_add,decide_true,Bool.and_true,Bool.true_and,cond_true,cond_false];rcases Yv (y8n (crS R6.b R6.e L (rd (rnC R6.b R6.e n L) i) (rd (rnC R6.b R6.e n L) (i+1))) a b (rd (rnC R6.b R6.e n L) i) (rd (rnC R6.b R6.e n L) (i+1)) e f) with q | q
   ·rw [q];unfold j1e;by_cases h0:0<out.length
    ·have e2:IntKind.wrap .i64 ((out.length:Int) - 1)=((out.length - 1:Nat):Int):=by rw [Zu (by omega)];omega
     have e3:Int.toNat ((out.length:Int) - 1)=out.length - 1:=(by omega);rcases Yv ((rd out (out.length - 1)).b == rd (rnC R6.b R6.e n L) i) with q2 | q2 <;>
      simp (disch:=omega) only [Bool.not_true,Ye,e2,e3,q2,Zp,Zk,Zd,Ze,Yz,Zs,Yx,Zc,Zu,Zx,Yu,Zj,Nat.zero_add,decide_true,Bool.and_true,Bool.true_and,cond_true,cond_false]
    ·have h1:out.length=0:=(by omega);simp (disch:=omega) only [Bool.not_true,Ys,decide_eq_false h0,Bool.false_and,Zp,Zk,Zd,Ze,Yz,Zs,Yx,Zc,Zu,Zx,Yu,Zj,Nat.zero_add,decide_true,Bool.and_true,Bool.true_and,cond_true,cond_false]
   ·rw [q];rfl
  have eH:(bif y8n (crS R6.b R6.e L (rd (rnC R6.b R6.e n L) i) (rd (rnC R6.b R6.e n L) (i+1))) a b (rd (rnC R6.b R6.e n L) i) (rd (rnC R6.b R6.e n L) (i+1)) e f then j1e out (rd (rnC R6.b R6.e n L) i) (rd (rnC R6.b R6.e n L) (i+1)) else out).length ≤i+1:=by have:=y5b out (rd (rnC R6.b R6.e n L) i) (rd (rnC R6.b R6.e n L) (i+1));cases y8n (crS R6.b R6.e L (rd (rnC R6.b R6.e n L) i) (rd (rnC R6.b R6.e n L) (i+1))) a b (rd (rnC R6.b R6.e n L) i) (rd (rnC R6.b R6.e n L) (i+1)) e f <;> simp only [cond_true,cond_false] <;> omega
  obtain ⟨N,hN⟩:=u4k (a:=a) (b:=b) (e:=e) (f:=f) (n:=n) hl k (i+1) _ (by omega) (by omega) eH;refine ⟨N+1+N2+1,?_⟩;rw [st0,Zw,st1];exact hN
theorem j1a (L:List R6) (a b e f n:Int) (h:z1p L a b e f n=true): ∃N,Yj (Vn L a b e f n) N (x1b L a b e f n)=.ret [.dat (z0g L a b e f n).length (Zz (z0g L a b e f n))]:=by simp only [z1p,Bool.and_eq_true,Bool.not_eq_true',decide_eq_true_eq,decide_eq_false_iff_not] at h;exact u4l h.1 h.2 (u4k h.1 _ 0 [] (by omega) (Nat.zero_le _) (Nat.le_refl _)) L.length 0 [] (Nat.zero_add _) rfl
def fCol :List AVal→Option (AVal×Bool)
 | [a0,.agg [.int .i64 bE,.int .i64 bF],.agg [.int .i64 cD,.int .i64 cE],.int .i64 x3]=>match asL R6 a0 with
  | some (L0,g0,n0)=>some (.dat (z0g L0 bE bF cD cE x3).length (Zz (z0g L0 bE bF cD cE x3)),isT R6 n0 g0&&(z1p L0 bE bF cD cE x3))
  | _=>none
 | _=>none
theorem j0k {S:Specs} (hS:Zq prog S):Zq prog (S.with v0f fCol):=by
 refine z3b hS (by kernel_rfl) fun args v h=> ?_;unfold fCol at h;split at h
 ·rename_i a0 bE bF cD cE x3;split at h
  ·rename_i L0 g0 n0 e0;simp only [Option.some.injEq,Prod.mk.injEq,Bool.and_eq_true] at h;obtain ⟨rfl,ho0,hw⟩:=h;obtain ⟨N,hN⟩:=j1a L0 bE bF cD cE x3 hw;exact ⟨_,_,(.cons (asL_le e0 ho0) (.cons (.refl _) (.cons (.refl _) (.cons (.refl _) .nil)))),rfl,v8x L0 bE bF cD cE x3 N _ hN,3,rfl⟩
  ·cases h
 ·cases h
def Df :Specs:=((De.with v0c fOut).with v0f fCol)
theorem z3d :Zq prog Df:=(j0k (u9u z0i))
end Go.Am
namespace Go.Am
open Go.Proofs.Tryz
open Go.Proofs
inductive layS where
 | h0 (v14:Int) (aB:List Int)
 | h1 (v5:Int) (aE:List R4) (aC:List R2) (bQ:Int) (aD:Int) (bP:Nat) (aU:List Int)
 | h2 (v5:Int) (v6:List R6) (v19:Int) (aE:List R4) (aC:List R2) (bQ:Int) (aD:Int) (bP:Nat) (aU:List Int)
 | h3 (v61:List R2) (v62:Int) (v63:Int) (cC:Int) (aO:Int) (aL:Int) (bX:List R6) (aE:List R4) (bQ:Int) (bA:Nat) (aQ:List Int)
 | h4 (v14:Int) (cC:Int) (aO:Int) (aL:Int) (bX:List R6) (aE:List R4) (bQ:List R2) (aD:Int) (aM:Int) (cG:Nat) (cH:List Int)
abbrev y8e (aB:List Int) (l0:List R6) (v14:Int) (x2:Int):=(aB++[(Xp (rd l0 (tn v14)).a x2),(wr (0 - (Xp (wr (0 - (rd l0 (tn v14)).a)) x2))),(Xp (rd l0 (tn v14)).d x2),(wr (0 - (Xp (wr (0 - (rd l0 (tn v14)).d)) x2)))])
abbrev y8d (v6:List R6) (l0:List R6) (v19:Int):=(v6++[(R6.mk (rd l0 (tn v19)).a (rd l0 (tn v19)).b (rd l0 (tn v19)).c (rd l0 (tn v19)).d (rd l0 (tn v19)).e (rd l0 (tn v19)).f)])
def w1g :AFr:=⟨⟨81,0,true⟩,none,(.inRangeFunc 0::(Zb prog 81 [1,1,1,1,0,1,0] 1)),none,(Zy prog 4),Yq [(6,.nils),(7,(.ptr 3 0))]⟩
abbrev y8c (aE:List R4) (v14:Int) (aL:Int):=(aE.set (0+(tn v14)) (R4.mk (rd aE (0+(tn v14))).a (rd aE (0+(tn v14))).b aL (rd aE (0+(tn v14))).d))
abbrev y8b (aB:List Int):=(Xx (Yp aB.length (cOf (Zz (Yh (Yp aB.length (cOf (Zz aB))))))))
def u3h :=(z5j [(0,⟨.ready,none,81,Yq [(4,(.ptr 1 0)),(5,(.ptr 2 0)),(7,(.ptr 3 0)),(8,(.ptr 4 0)),(9,(.ptr 5 0)),(10,(.ptr 6 0))],[20,21],(Xd prog 81 [1,1,1,1,0,1,0,0]),(Xd prog 81 [1,1,1,1,0,1,0,1])⟩)])
abbrev u3g (aB:List Int) (l0:List R6) (v14:Int) (x2:Int):=(Zt (Zz aB) 0 aB.length 1 [(ii (Xp (rd l0 (tn v14)).a x2)),(ii (wr (0 - (Xp (wr (0 - (rd l0 (tn v14)).a)) x2)))),(ii (Xp (rd l0 (tn v14)).d x2)),(ii (wr (0 - (Xp (wr (0 - (rd l0 (tn v14)).d)) x2))))])
abbrev u3f (v6:List R6) (l0:List R6) (v19:Int):=(Zt (Zz v6) 0 v6.length 6 [(ii (rd l0 (tn v19)).a),(ii (rd l0 (tn v19)).b),(ii (rd l0 (tn v19)).c),(ii (rd l0 (tn v19)).d),(ii (rd l0 (tn v19)).e),(ii (rd l0 (tn v19)).f)])
def x3e (l0:List R6):ABlk:=⟨[(.dat l0.length (Zz l0))],22,none⟩
abbrev y8a (aE:List R4) (aO:Int) (v61:List R2) (v63:Int) (aL:Int):=(aE++[(R4.mk aO (rd v61 (tn v63)).a aL (rd v61 (tn v63)).b)])
abbrev z6c (aU:List Int) (v5:Int):=(rd aU (0+(tn (wr (v5 - 1)))))
def layC (l0:List R6) (bE:Int) (bF:Int) (x2:Int):layS→Cfg
 | .h0 v14 aB=>⟨⟨45,0,true⟩,none,(Zb prog 80 [1,1,0,1,0,0] 0),none,(Zy prog 4),⟨Yq [(2,(ii x2)),(3,(.ptr 0 0)),(4,(.ptr 1 0)),(7,(.ptr 2 0)),(12,(.dat l0.length (Zz l0))),(13,(ii (l0.length:Int))),(14,(ii v14))],Uv [(x3e l0),⟨[(ii 0)],3,none⟩,⟨[(.sla 9 1 0 aB.length (.un 1))],47,none⟩,⟨[(ii bE),(ii bF)],110,none⟩,⟨[(ii x2)],3,none⟩,⟨[.nils],106,none⟩,⟨[.nils],158,none⟩,⟨[(ii 0)],3,none⟩,⟨[(ii 0)],3,none⟩,⟨rows aB.length (Zz aB),3,some ⟨1,aB.length,(Zz aB)⟩⟩] 0,10,[],true⟩,[⟨⟨81,0,true⟩,(Wd prog 81 [1,1,1,1,0,0] 2),(Zb prog 81 [1,1,1,1,0,0] 1),none,(Zy prog 4),Yq [(4,(.ptr 3 0)),(5,(.ptr 4 0)),(6,.nils),(7,(.ptr 5 0)),(8,(.ptr 6 0)),(9,(.ptr 7 0)),(10,(.ptr 8 0)),(17,(.dat l0.length (Zz l0))),(18,(ii x2))]⟩],.leaf⟩
 | .h1 v5 aE aC bQ aD bP aU=>⟨⟨63,0,true⟩,none,(Zb prog 121 [1,0,0] 0),none,[],⟨Yq [(0,(.yld 0)),(1,(.ptr 7 0)),(2,(.ptr 9 0)),(3,(.ptr 10 0)),(5,(ii v5))],z0z [(1,⟨[(ii bE),(ii bF)],110,none⟩),(2,⟨[(ii x2)],3,none⟩),(3,⟨[(.sla 11 4 0 aE.length (.un 4))],106,none⟩),(4,⟨[(.dat aC.length (Zz aC))],158,none⟩),(5,⟨[(ii bQ)],3,none⟩),(6,⟨[(ii aD)],3,none⟩),(7,⟨[(.sla 8 1 0 bP (.un 1))],47,none⟩),(8,⟨rows aU.length (Zz aU),3,some ⟨1,aU.length,(Zz aU)⟩⟩),(9,(x3e l0)),(10,⟨[(ii 0)],3,none⟩),(11,⟨rows aE.length (Zz aE),114,some ⟨4,aE.length,(Zz aE)⟩⟩)],12,[],true⟩,[w1g],u3h⟩
 | .h2 v5 v6 v19 aE aC bQ aD bP aU=>⟨⟨63,0,true⟩,none,(Zb prog 121 [1,0,0,1,0,0,1,0,1,0,0] 0),none,[],⟨Yq [(0,(.yld 0)),(1,(.ptr 7 0)),(2,(.ptr 9 0)),(3,(.ptr 10 0)),(5,(ii v5)),(6,(.sla 11 6 0 v6.length (.un 6))),(17,(.dat l0.length (Zz l0))),(18,(ii (l0.length:Int))),(19,(ii v19))],z0z [(1,⟨[(ii bE),(ii bF)],110,none⟩),(2,⟨[(ii x2)],3,none⟩),(3,⟨[(.sla 12 4 0 aE.length (.un 4))],106,none⟩),(4,⟨[(.dat aC.length (Zz aC))],158,none⟩),(5,⟨[(ii bQ)],3,none⟩),(6,⟨[(ii aD)],3,none⟩),(7,⟨[(.sla 8 1 0 bP (.un 1))],47,none⟩),(8,⟨rows aU.length (Zz aU),3,some ⟨1,aU.length,(Zz aU)⟩⟩),(9,(x3e l0)),(10,⟨[(ii 0)],3,none⟩),(11,⟨rows v6.length (Zz v6),68,some ⟨6,v6.length,(Zz v6)⟩⟩),(12,⟨rows aE.length (Zz aE),114,some ⟨4,aE.length,(Zz aE)⟩⟩)],13,[],true⟩,[w1g],u3h⟩
 | .h3 v61 v62 v63 cC aO aL bX aE bQ bA aQ=>⟨⟨81,0,true⟩,none,(Zb prog 81 [1,1,1,1,0,1,0,1,0,1,1,1,1,0,0] 0),(some 0),[],⟨Yq [(7,(.ptr 3 0)),(11,(.ptr 7 0)),(61,(.dat v61.length (Zz v61))),(62,(ii v62)),(63,(ii v63))],z0z [(1,⟨[(ii bE),(ii bF)],110,none⟩),(2,⟨[(ii x2)],3,none⟩),(3,⟨[(.sla 12 4 0 aE.length (.un 4))],106,none⟩),(4,⟨[(.dat v61.length (Zz v61))],158,none⟩),(5,⟨[(ii bQ)],3,none⟩),(6,⟨[(ii aL)],3,none⟩),(7,⟨[(ii aO),(ii aL)],110,none⟩),(8,⟨[(.sla 9 1 0 bA (.un 1))],47,none⟩),(9,⟨rows aQ.length (Zz aQ),3,some ⟨1,aQ.length,(Zz aQ)⟩⟩),(10,(x3e l0)),(11,⟨[(ii 0)],3,none⟩),(12,⟨rows aE.length (Zz aE),114,some ⟨4,aE.length,(Zz aE)⟩⟩)],13,[],true⟩,[⟨⟨63,0,true⟩,(Wd prog 121 [1,0,0,1,0,0,1,1,0] 12),(Zb prog 121 [1,0,0,1,0,0,1,1,0] 1),none,[],Yq [(0,(.yld 0)),(1,(.ptr 8 0)),(2,(.ptr 10 0)),(3,(.ptr 11 0)),(5,(ii cC)),(49,(.yld 0)),(59,(.agg [(ii aO),(ii aL)])),(60,(.dat bX.length (Zz bX)))]⟩,w1g],(z5j [(0,⟨.busy,none,81,Yq [(4,(.ptr 1 0)),(5,(.ptr 2 0)),(7,(.ptr 3 0)),(8,(.ptr 4 0)),(9,(.ptr 5 0)),(10,(.ptr 6 0))],[20,21],(Xd prog 81 [1,1,1,1,0,1,0,0]),(Xd prog 81 [1,1,1,1,0,1,0,1])⟩)])⟩
 | .h4 v14 cC aO aL bX aE bQ aD aM cG cH=>⟨⟨81,0,true⟩,none,(Zb prog 81 [1,1,1,1,0,1,0,1,0,1,0,1,0,0,1,0,0] 0),(some 0),[],⟨Yq [(7,(.ptr 3 0)),(10,(.ptr 7 0)),(11,(.ptr 8 0)),(14,(ii v14))],z0z [(1,⟨[(ii bE),(ii bF)],110,none⟩),(2,⟨[(ii x2)],3,none⟩),(3,⟨[(.sla 4 4 0 aE.length (.un 4))],106,none⟩),(4,⟨rows aE.length (Zz aE),114,some ⟨4,aE.length,(Zz aE)⟩⟩),(5,⟨[(.dat bQ.length (Zz bQ))],158,none⟩),(6,⟨[(ii aD)],3,none⟩),(7,⟨[(ii aM)],3,none⟩),(8,⟨[(ii aO),(ii aL)],110,none⟩),(9,⟨[(.sla 10 1 0 cG (.un 1))],47,none⟩),(10,⟨rows cH.length (Zz cH),3,some ⟨1,cH.length,(Zz cH)⟩⟩),(11,(x3e l0)),(12,⟨[(ii 0)],3,none⟩)],13,[],true⟩,[⟨⟨63,0,true⟩,(Wd prog 121 [1,0,0,1,0,0,1,1,0] 12),(Zb prog 121 [1,0,0,1,0,0,1,1,0] 1),none,[],Yq [(0,(.yld 0)),(1,(.ptr 9 0)),(2,(.ptr 11 0)),(3,(.ptr 12 0)),(5,(ii cC)),(49,(.yld 0)),(59,(.agg [(ii aO),(ii aL)])),(60,(.dat bX.length (Zz bX)))]⟩,w1g],(z5j [(0,⟨.busy,none,81,Yq [(4,(.ptr 1 0)),(5,(.ptr 2 0)),(7,(.ptr 3 0)),(8,(.ptr 5 0)),(9,(.ptr 6 0)),(10,(.ptr 7 0))],[20,21],(Xd prog 81 [1,1,1,1,0,1,0,0]),(Xd prog 81 [1,1,1,1,0,1,0,1])⟩)])⟩
def layN0 :List (Option (List Nat)):=[some [2,3,4,7,12,13,14],some [4,5,6,7,8,9,10,17,18]]
def layM0 :List (Option (List Nat)):=[]
def u8k :List (Option (List Nat)):=[some [0,1,2,3,5],some [6,7]]
def u8l :List (Option (List Nat)):=[some [4,5,7,8,9,10],none,none,none,none,none,none,none,none,none,none,none]
def v6s :List (Option (List Nat)):=[some [0,1,2,3,5,6,17,18,19],some [6,7]]
def v6u :List (Option (List Nat)):=[some [4,5,7,8,9,10],none,none,none,none,none,none,none,none,none,none,none,none]
def v6r :List (Option (List Nat)):=[some [7,11,61,62,63],some [0,1,2,3,5,49,59,60],some [6,7]]
def v6t :List (Option (List Nat)):=[some [4,5,7,8,9,10],none,none,none,none,none,none,none,none,none,none,none,none]
def layN4 :List (Option (List Nat)):=[some [7,10,11,14],some [0,1,2,3,5,49,59,60],some [6,7]]
def layM4 :List (Option (List Nat)):=[some [4,5,7,8,9,10],none,none,none,none,none,none,none,none,none,none,none,none]
def Xn (l0:List R6) (bE:Int) (bF:Int) (x2:Int):layS→Xe layS
 | .h0 v14 aB=>(bif (decide (v14<(l0.length:Int))) then (bif ((decide (0≤v14∧v14<(l0.length:Int)))&&true) then (bif (Xm (rd l0 v14.toNat).a x2) then (bif (Xm (IntKind.wrap .i64 (0 - (rd l0 v14.toNat).a)) x2) then (bif (Xm (rd l0 v14.toNat).d x2) then (bif (Xm (IntKind.wrap .i64 (0 - (rd l0 v14.toNat).d)) x2) then (bif (Nat.beq 1 1&&((decide (0+aB.length=aB.length))&&decide ((aB.length+4+1)*(8+1)≤Un))) then (.to (.h0 (IntKind.wrap .i64 (v14+1)) (aB++[(Xp (rd l0 v14.toNat).a x2),(IntKind.wrap .i64 (0 - (Xp (IntKind.wrap .i64 (0 - (rd l0 v14.toNat).a)) x2))),(Xp (rd l0 v14.toNat).d x2),(IntKind.wrap .i64 (0 - (Xp (IntKind.wrap .i64 (0 - (rd l0 v14.toNat).d)) x2)))]))) else .stuck) else .stuck) else .stuck) else .stuck) else .stuck) else .stuck) else (bif (decide (aB.length<4611686018427387904)) then (bif (decide (aB.length=aB.length)) then (.to (.h1 1 ([]:List R4) ([]:List R2) 0 0 (v1z (Yp aB.length (cOf (Zz (Yh (Yp aB.length (cOf (Zz aB)))))))) (Xx (Yp aB.length (cOf (Zz (Yh (Yp aB.length (cOf (Zz aB)))))))))) else .stuck) else .stuck))
 | .h1 v5 aE aC bQ aD bP aU=>(bif (decide (v5<((bP:Nat):Int))) then (.to (.h2 v5 ([]:List R6) 0 aE aC bQ aD bP aU)) else (.ret [(.dat aE.length (Zz aE))]))
 | .h2 v5 v6 v19 aE aC bQ aD bP aU=>(bif (decide (v19<(l0.length:Int))) then (bif ((decide (0≤v19∧v19<(l0.length:Int)))&&true) then (bif ((decide (0≤v5∧v5<((bP:Nat):Int)))&&true) then (bif (decide ((0+v5.toNat)<aU.length)) then (bif (decide ((rd l0 v19.toNat).a <(rd aU (0+v5.toNat)))) then (bif ((decide (0≤(IntKind.wrap .i64 (v5 - 1))∧(IntKind.wrap .i64 (v5 - 1))<((bP:Nat):Int)))&&true) then (bif (decide ((0+(Int.toNat (IntKind.wrap .i64 (v5 - 1))))<aU.length)) then (bif (decide ((rd aU (0+(Int.toNat (IntKind.wrap .i64 (v5 - 1)))))<(rd l0 v19.toNat).d)) then (bif (Nat.beq 6 6&&((decide (0+v6.length=v6.length))&&decide ((v6.length+1+1)*(48+1)≤Un))) then (.to (.h2 v5 (v6++[(R6.mk (rd l0 v19.toNat).a (rd l0 v19.toNat).b (rd l0 v19.toNat).c (rd l0 v19.toNat).d (rd l0 v19.toNat).e (rd l0 v19.toNat).f)]) (IntKind.wrap .i64 (v19+1)) aE aC bQ aD bP aU)) else .stuck) else (.to (.h2 v5 v6 (IntKind.wrap .i64 (v19+1)) aE aC bQ aD bP aU))) else .stuck) else .stuck) else (.to (.h2 v5 v6 (IntKind.wrap .i64 (v19+1)) aE aC bQ aD bP aU))) else .stuck) else .stuck) else .stuck) else (bif ((decide (0≤(IntKind.wrap .i64 (v5 - 1))∧(IntKind.wrap .i64 (v5 - 1))<((bP:Nat):Int)))&&true) then (bif (decide ((0+(Int.toNat (IntKind.wrap .i64 (v5 - 1))))<aU.length)) then (bif ((decide (0≤v5∧v5<((bP:Nat):Int)))&&true) then (bif (decide ((0+v5.toNat)<aU.length)) then (bif (z1p (cvT v6) (rd aU (0+(Int.toNat (IntKind.wrap .i64 (v5 - 1))))) (rd aU (0+v5.toNat)) bE bF x2) then (bif (decide ((((z0g (cvT v6) (rd aU (0+(Int.toNat (IntKind.wrap .i64 (v5 - 1))))) (rd aU (0+v5.toNat)) bE bF x2).length :Nat):Int)>0)) then (bif (aD == (rd aU (0+(Int.toNat (IntKind.wrap .i64 (v5 - 1)))))) then (bif (Wh (cvT aC) (cvT (z0g (cvT v6) (rd aU (0+(Int.toNat (IntKind.wrap .i64 (v5 - 1))))) (rd aU (0+v5.toNat)) bE bF x2))) then (bif (Ja (cvT aC) (cvT (z0g (cvT v6) (rd aU (0+(Int.toNat (IntKind.wrap .i64 (v5 - 1))))) (rd aU (0+v5.toNat)) bE bF x2))) then (.to (.h4 bQ v5 (rd aU (0+(Int.toNat (IntKind.wrap .i64 (v5 - 1))))) (rd aU (0+v5.toNat)) v6 aE aC bQ aD bP aU)) else (.to (.h3 (z0g (cvT v6) (rd aU (0+(Int.toNat (IntKind.wrap .i64 (v5 - 1))))) (rd aU (0+v5.toNat)) bE bF x2) (((z0g (cvT v6) (rd aU (0+(Int.toNat (IntKind.wrap .i64 (v5 - 1))))) (rd aU (0+v5.toNat)) bE bF x2).length :Nat):Int) 0 v5 (rd aU (0+(Int.toNat (IntKind.wrap .i64 (v5 - 1))))) (rd aU (0+v5.toNat)) v6 aE (aE.length:Int) bP aU))) else .stuck) else (.to (.h3 (z0g (cvT v6) (rd aU (0+(Int.toNat (IntKind.wrap .i64 (v5 - 1))))) (rd aU (0+v5.toNat)) bE bF x2) (((z0g (cvT v6) (rd aU (0+(Int.toNat (IntKind.wrap .i64 (v5 - 1))))) (rd aU (0+v5.toNat)) bE bF x2).length :Nat):Int) 0 v5 (rd aU (0+(Int.toNat (IntKind.wrap .i64 (v5 - 1))))) (rd aU (0+v5.toNat)) v6 aE (aE.length:Int) bP aU))) else (.to (.h3 (z0g (cvT v6) (rd aU (0+(Int.toNat (IntKind.wrap .i64 (v5 - 1))))) (rd aU (0+v5.toNat)) bE bF x2) (((z0g (cvT v6) (rd aU (0+(Int.toNat (IntKind.wrap .i64 (v5 - 1))))) (rd aU (0+v5.toNat)) bE bF x2).length :Nat):Int) 0 v5 (rd aU (0+(Int.toNat (IntKind.wrap .i64 (v5 - 1))))) (rd aU (0+v5.toNat)) v6 aE (aE.length:Int) bP aU))) else .stuck) else .stuck) else .stuck) else .stuck) else .stuck))
 | .h3 v61 v62 v63 cC aO aL bX aE bQ bA aQ=>(bif (decide (v63<v62)) then (bif ((decide (0≤v63∧v63<(v61.length:Int)))&&true) then (bif (Nat.beq 4 4&&((decide (0+aE.length=aE.length))&&decide ((aE.length+1+1)*(32+1)≤Un))) then (.to (.h3 v61 v62 (IntKind.wrap .i64 (v63+1)) cC aO aL bX (aE++[(R4.mk aO (rd v61 v63.toNat).a aL (rd v61 v63.toNat).b)]) bQ bA aQ)) else .stuck) else .stuck) else (.to (.h1 (IntKind.wrap .i64 (cC+1)) aE v61 bQ aL bA aQ)))
 | .h4 v14 cC aO aL bX aE bQ aD aM cG cH=>(bif (decide (v14<(aE.length:Int))) then (bif ((decide (0≤v14∧v14<(aE.length:Int)))&&true) then (bif (decide ((0+v14.toNat)<aE.length)) then (.to (.h4 (IntKind.wrap .i64 (v14+1)) cC aO aL bX (aE.set (0+v14.toNat) (R4.mk (rd aE (0+v14.toNat)).a (rd aE (0+v14.toNat)).b aL (rd aE (0+v14.toNat)).d)) bQ aD aM cG cH)) else .stuck) else .stuck) else (.to (.h1 (IntKind.wrap .i64 (cC+1)) aE bQ aD aL cG cH)))
def x0n (l0:List R6) (bE:Int) (bF:Int) (x2:Int):Xe layS:=(.to (.h0 0 ([]:List Int)))
theorem w4b (l0:List R6) (bE:Int) (bF:Int) (x2:Int): ∀s,Xr prog (Zy prog 81) (layC l0 bE bF x2) (layC l0 bE bF x2 s) (Xn l0 bE bF x2 s)
 | .h0 v14 aB=>(lb (fun k0=>(lo fun o0=>(lo fun o1=>(lo fun o2=>(lo fun o3=>(lo fun o4=>(lo fun o5=>(sl z3d 45 [] ⟨[0,1,2,3,4,5,6,7,8,15],[],layN0,layM0⟩ ⟨[],[.keep,.keep,.cells [.len (y8e aB l0 v14 x2).length],.keep,.keep,.keep,.keep,.keep,.keep,.rowed 1 (y8e aB l0 v14 x2).length (Zz (y8e aB l0 v14 x2))],[]⟩ (bl 3 1) (pp (xL (aB.length+4) (y8e aB l0 v14 x2).length) (pp (xL (aB.length+4) (y8e aB l0 v14 x2).length) (pp (xS (aB.length+4) (u3g aB l0 v14 x2) (Zz (y8e aB l0 v14 x2))) (pp (pp (xF (u3g aB l0 v14 x2)) nn) (ww o5 (ww o4 (ww o3 (ww o2 (ww o1 (ww o0 (tt k0 nn))))))))))))))))))) (fun k0=>(lo fun o0=>(lo fun o1=>(sl z3d 33 [(114,4,Zz ([]:List R4))] ⟨[10,3,4,5,6,7,8,2,9,0,1,11],[],u8k,u8l⟩ ⟨[],(kpB 3 [.cells [.grow 11 4],.cells [.list 0 (Zz ([]:List R2))],.keep,.keep,.keep,.rowed 1 (y8b aB).length (Zz (y8b aB)),.keep,.keep,.keep]),[]⟩ [false] (pp (xL aB.length (y8b aB).length (by first | exact Qz _ _ | exact Vu rfl)) (pp (xS aB.length (Zz (y8b aB)) (Zz (y8b aB))) (pp (fl (y8b aB) (fl ([]:List R4) nn)) (pp (pp (xG (Nat.beq 1 1)) (pp (xG (Nat.beq 1 1)) (pp (xG (Nat.beq 0 0)) (pp (xG (decide (aB.length=aB.length))) (pp (xG (isI (Zz (Yh (Yp aB.length (cOf (Zz aB))))))) (xG (decide (aB.length<4611686018427387904)))))))) (pp (pp (xG (Nat.beq 1 1)) (pp (xG (Nat.beq 1 1)) (pp (xG (Nat.beq 0 0)) (pp (xG (decide (aB.length=aB.length))) (pp (xG (isI (Zz aB))) (xG (decide (aB.length<4611686018427387904)))))))) (tt k0 nn)))))))))))
 | .h1 v5 aE aC bQ aD bP aU=>(lb (fun k0=>(sl z3d 25 [(68,6,Zz ([]:List R6))] ⟨[0,1,2,3,4,5,6,7,8,9,10,12,11],[],v6s,v6u⟩ ⟨[(6,.grow 11 6)],[],[]⟩ [true] (pp (fl aU (fl ([]:List R6) (fl aE nn))) (tt k0 nn)))) (fun k0=>(lr 81 3 [1,1,1,1,1,1,0] 1 4 [(6,(.dat aE.length (Zz aE)))] (sl z3d 18 [] ⟨[],[11],[some [6]],[]⟩ ⟨[(6,.frz aE.length aE.length (Zz aE) (Zz aE))],[],[]⟩ [false] (pp (xZ (z2u 4 4 0 aE.length aE.length (Zz aE)) aE.length (Zz aE)) (pp (xL aE.length aE.length) (pp (xS aE.length (Zz aE) (Zz aE)) (pp (fl aE nn) (tt k0 nn)))))))))
 | .h2 v5 v6 v19 aE aC bQ aD bP aU=>(lb (fun k0=>(lo fun aJ=>(lo fun bJ=>(lo fun cJ=>(lb (fun k1=>(lo fun cK=>(lo fun dU=>(lb (fun k2=>(lo fun o0=>(sl z3d 70 [] ⟨[0,1,2,3,4,5,6,7,8,9,10,18,12],[],v6s,v6u⟩ ⟨[(6,.len (y8d v6 l0 v19).length)],(kpB 11 [.rowed 6 (y8d v6 l0 v19).length (Zz (y8d v6 l0 v19)),.keep]),[]⟩ (bl 11 2041) (pp (xL (v6.length+1) (y8d v6 l0 v19).length) (pp (xL (v6.length+1) (y8d v6 l0 v19).length) (pp (xS (v6.length+1) (u3f v6 l0 v19) (Zz (y8d v6 l0 v19))) (pp (fl aU (pp (xF (u3f v6 l0 v19)) (fl aE nn))) (ww o0 (tt k2 (ww dU (ww cK (tt k1 (ww cJ (ww bJ (ww aJ (tt k0 nn)))))))))))))))) (fun k2=>(sl z3d 64 [] ⟨(List.range 13),[],v6s,v6u⟩ ⟨[],[],[]⟩ (bl 11 1017) (pp (fl aU (fl v6 (fl aE nn))) (tt k2 (ww dU (ww cK (tt k1 (ww cJ (ww bJ (ww aJ (tt k0 nn))))))))))))))) (fun k1=>(sl z3d 64 [] ⟨(List.range 13),[],v6s,v6u⟩ ⟨[],[],[]⟩ (bl 11 1) (pp (fl aU (fl v6 (fl aE nn))) (tt k1 (ww cJ (ww bJ (ww aJ (tt k0 nn))))))))))))) (fun k0=>(lo fun q1_0=>(lo fun q1_1=>(lo fun q1_2=>(lo fun q1_3=>(Ww (sl z3d (C':=⟨⟨81,0,true⟩,(Wd prog 81 [1,1,1,1,0,1,0,1,0,0] 4),(Zb prog 81 [1,1,1,1,0,1,0,1,0,0] 1),(some 0),[],⟨Yq [(7,(.ptr 3 0)),(8,(.ptr 5 0)),(9,(.ptr 6 0)),(10,(.ptr 7 0)),(11,(.ptr 8 0)),(22,(.dat v6.length (Zz v6))),(23,(.agg [(ii (z6c aU v5)),(ii (rd aU (0+(tn v5))))])),(24,(.agg [(ii bE),(ii bF)])),(25,(ii x2))],z0z [(1,⟨[(ii bE),(ii bF)],110,none⟩),(2,⟨[(ii x2)],3,none⟩),(3,⟨[(.sla 4 4 0 aE.length (.un 4))],106,none⟩),(4,⟨rows aE.length (Zz aE),114,some ⟨4,aE.length,(Zz aE)⟩⟩),(5,⟨[(.dat aC.length (Zz aC))],158,none⟩),(6,⟨[(ii bQ)],3,none⟩),(7,⟨[(ii aD)],3,none⟩),(8,⟨[(ii (z6c aU v5)),(ii (rd aU (0+(tn v5))))],110,none⟩),(9,⟨[(.sla 10 1 0 bP (.un 1))],47,none⟩),(10,⟨rows aU.length (Zz aU),3,some ⟨1,aU.length,(Zz aU)⟩⟩),(11,⟨[(.dat l0.length (Zz l0))],22,none⟩),(12,⟨[(ii 0)],3,none⟩)],13,[],true⟩,[⟨⟨63,0,true⟩,(Wd prog 121 [1,0,0,1,0,0,1,1,0] 12),(Zb prog 121 [1,0,0,1,0,0,1,1,0] 1),none,[],Yq [(0,(.yld 0)),(1,(.ptr 9 0)),(2,(.ptr 11 0)),(3,(.ptr 12 0)),(5,(ii v5)),(49,(.yld 0)),(59,(.agg [(ii (z6c aU v5)),(ii (rd aU (0+(tn v5))))])),(60,(.dat v6.length (Zz v6)))]⟩,⟨⟨81,0,true⟩,none,(.inRangeFunc 0::(Zb prog 81 [1,1,1,1,0,1,0] 1)),none,(Zy prog 4),Yq [(6,.nils),(7,(.ptr 3 0))]⟩],(z5j [(0,⟨.busy,none,81,Yq [(4,(.ptr 1 0)),(5,(.ptr 2 0)),(7,(.ptr 3 0)),(8,(.ptr 5 0)),(9,(.ptr 6 0)),(10,(.ptr 7 0))],[20,21],(Xd prog 81 [1,1,1,1,0,1,0,0]),(Xd prog 81 [1,1,1,1,0,1,0,1])⟩)])⟩) 26 [] ⟨[0,1,2,3,12,4,5,6,13,7,8,9,10],[11],[some [7,8,9,10,11,22,23,24,25],some [0,1,2,3,5,49,59,60],some [6,7]],[some [4,5,7,8,9,10],none,none,none,none,none,none,none,none,none,none,none,none]⟩ ⟨[(22,.frz v6.length v6.length (Zz v6) (Zz v6))],[],[[(60,.frz v6.length v6.length (Zz v6) (Zz v6))],[]]⟩ [false] (pp (xZ (z2u 6 6 0 v6.length v6.length (Zz v6)) v6.length (Zz v6)) (pp (xL v6.length v6.length) (pp (xS v6.length (Zz v6) (Zz v6)) (pp (xZ (z2u 6 6 0 v6.length v6.length (Zz v6)) v6.length (Zz v6)) (pp (xL v6.length v6.length) (pp (xS v6.length (Zz v6) (Zz v6)) (pp (fl aE (fl aU nn)) (pp (fl v6 nn) (ww q1_3 (ww q1_2 (ww q1_1 (ww q1_0 (tt k0 nn)))))))))))))) (lo fun aJ=>(lb (fun k1=>(lb (fun k2=>(lo fun cP=>(lb (fun k3=>(sl z3d 30 [] ⟨(List.range 13),[],layN4,layM4⟩ ⟨[],[],[]⟩ (trs 8 []) (pp (fl aE (fl aU nn)) (tt k3 (pp (pp (xr aC) (pp (xI R2 (z0g (cvT v6) (z6c aU v5) (rd aU (0+(tn v5))) bE bF x2).length (Zz (z0g (cvT v6) (z6c aU v5) (rd aU (0+(tn v5))) bE bF x2))) (xw cP))) (tt k2 (tt k1 (pp (pp (xr v6) (xw aJ)) nn)))))))) (fun k3=>(sl z3d 33 [] ⟨[0,1,2,3,5,6,7,8,9,10,11,12,4],[],v6r,v6t⟩ ⟨[],[],[]⟩ (trs 7 [false]) (pp (fl aU (fl aE nn)) (tt k3 (pp (pp (xr aC) (pp (xI R2 (z0g (cvT v6) (z6c aU v5) (rd aU (0+(tn v5))) bE bF x2).length (Zz (z0g (cvT v6) (z6c aU v5) (rd aU (0+(tn v5))) bE bF x2))) (xw cP))) (tt k2 (tt k1 (pp (pp (xr v6) (xw aJ)) nn))))))))))) (fun k2=>(sl z3d 33 [] ⟨[0,1,2,3,5,6,7,8,9,10,11,12,4],[],v6r,v6t⟩ ⟨[],[],[]⟩ (trs 4 (bl 4 0)) (pp (fl aU (fl aE nn)) (tt k2 (tt k1 (pp (pp (xr v6) (xw aJ)) nn)))))))) (fun k1=>(sl z3d 33 [] ⟨[0,1,2,3,5,6,7,8,9,10,11,12,4],[],v6r,v6t⟩ ⟨[],[],[]⟩ (bl 8 0) (pp (fl aU (fl aE nn)) (tt k1 (pp (pp (xr v6) (xw aJ)) nn))))))))))))))
 | .h3 v61 v62 v63 cC aO aL bX aE bQ bA aQ=>(lb (fun k0=>(lo fun o0=>(lo fun o1=>(sl z3d 37 [] ⟨[0,1,2,3,4,5,6,7,8,9,10,11,15],[],v6r,v6t⟩ ⟨[],(kpB 3 [.cells [.len (y8a aE aO v61 v63 aL).length],.keep,.keep,.keep,.keep,.keep,.keep,.keep,.keep,.rowed 4 (y8a aE aO v61 v63 aL).length (Zz (y8a aE aO v61 v63 aL))]),[]⟩ [true] (pp (xL (aE.length+1) (y8a aE aO v61 v63 aL).length) (pp (xL (aE.length+1) (y8a aE aO v61 v63 aL).length) (pp (xS (aE.length+1) (Zt (Zz aE) 0 aE.length 4 [(ii aO),(ii (rd v61 (tn v63)).a),(ii aL),(ii (rd v61 (tn v63)).b)]) (Zz (y8a aE aO v61 v63 aL))) (pp (fl aQ (pp (xF (Zt (Zz aE) 0 aE.length 4 [(ii aO),(ii (rd v61 (tn v63)).a),(ii aL),(ii (rd v61 (tn v63)).b)])) nn)) (ww o1 (ww o0 (tt k0 nn))))))))))) (fun k0=>(sl z3d 20 [] ⟨[0,1,2,3,4,5,6,8,9,10,11,12],[],u8k,u8l⟩ ⟨[],[],[]⟩ (bl 2 0) (pp (fl aQ (fl aE nn)) (tt k0 nn)))))
 | .h4 v14 cC aO aL bX aE bQ aD aM cG cH=>(lb (fun k0=>(lo fun o0=>(lo fun o1=>(sl z3d 28 [] ⟨(List.range 13),[],layN4,layM4⟩ ⟨[],(kpB 3 [.cells [.len (y8c aE v14 aL).length],.rowed 4 (y8c aE v14 aL).length (Zz (y8c aE v14 aL)),.keep,.keep,.keep,.keep,.keep,.keep,.keep,.keep]),[]⟩ [true] (pp (xL aE.length (y8c aE v14 aL).length) (pp (xL aE.length (y8c aE v14 aL).length) (pp (xS aE.length (Xj (Zz aE) (0+(tn v14)) 2 [(ii aL)]) (Zz (y8c aE v14 aL))) (pp (pp (xF (Xj (Zz aE) (0+(tn v14)) 2 [(ii aL)])) (fl cH nn)) (ww o1 (ww o0 (tt k0 nn))))))))))) (fun k0=>(sl z3d 29 [] ⟨[0,1,2,3,5,6,7,9,10,11,12,4],[],u8k,u8l⟩ ⟨[],[],[]⟩ (bl 2 0) (pp (fl cH (fl aE nn)) (tt k0 nn)))))
theorem x7e (l0:List R6) (bE:Int) (bF:Int) (x2:Int):Xr prog (Zy prog 81) (layC l0 bE bF x2) (Zi prog 81 [(.dat l0.length (Zz l0)),(.agg [(.int .i64 bE),(.int .i64 bF)]),(.int .i64 x2)] true []) (x0n l0 bE bF x2):=(sl z3d 46 [(3,1,Zz ([]:List Int))] ⟨[6,7,8,0,1,2,3,4,5,9],[],layN0,layM0⟩ ⟨[],[.keep,.keep,.cells [.grow 9 1],.keep,.keep,.keep,.keep,.keep,.keep,.keep],[]⟩ [] (pp (fl ([]:List Int) nn) nn))
theorem v6q (l0:List R6) (bE:Int) (bF:Int) (x2:Int) (n:Nat) (vs:List AVal) (h:Yj (Xn l0 bE bF x2) n (x0n l0 bE bF x2)=.ret vs):Kg prog (Zy prog 81) (Zi prog 81 [(.dat l0.length (Zz l0)),(.agg [(.int .i64 bE),(.int .i64 bF)]),(.int .i64 x2)] true []) vs:=by have:=Yw (w4b l0 bE bF x2) n _ (x7e l0 bE bF x2);rwa [h] at this
end Go.Am
namespace Go.Am
open Go.Proofs Go.Sort Go.Shelf Go.RowKit Go.Lib
structure z1b (β:Type) where
 a:Int
 b:Int
 s:List β
def ptL {β γ:Type} (inB:β→γ→Prop) (s:List β) (q:γ):Prop:= ∃r∈s,inB r q
theorem y3o {β γ:Type} (inB:β→γ→Prop) (q:γ): ¬ptL inB [] q:=fun ⟨_,h,_⟩=>by cases h
structure Sem (β γ:Type) where
 can:List β→Prop
 inB:β→γ→Prop
 uniq: ∀s t,can s→can t→(∀q,ptL inB s q↔ptL inB t q)→s=t
 some: ∀s,can s→s≠ []→ ∃q,ptL inB s q
 nil:can []
section
variable {β γ:Type} (M:Sem β γ)
def OkS (g:z1b β):Prop:=g.a<g.b∧M.can g.s∧g.s≠ []
def Nxt (g h:z1b β):Prop:=g.b≤h.a∧(g.b=h.a→g.s≠h.s)
inductive z3e :List (z1b β)→Prop
 | nil:z3e []
 | one (g:z1b β) (h:OkS M g):z3e [g]
 | cons (g h:z1b β) (r:List (z1b β)) (ok:OkS M g) (nx:Nxt g h) (k:z3e (h::r)):z3e (g::h::r)
def ptG (G:List (z1b β)) (x:Int) (q:γ):Prop:= ∃g∈G,g.a≤x∧x<g.b∧ptL M.inB g.s q
variable {M}
theorem z3e.head {g:z1b β} {r:List (z1b β)} (h:z3e M (g::r)):OkS M g:=by cases h <;> assumption
theorem z3e.tail {g:z1b β} {r:List (z1b β)} (h:z3e M (g::r)):z3e M r:=by
 cases h with
 | one=>exact .nil
 | cons _ _ _ _ _ k=>exact k
theorem z3e.later {g:z1b β} {r:List (z1b β)} (h:z3e M (g::r)): ∀k∈r,g.b≤k.a:=by
 induction r generalizing g with
 | nil=>intro k hk;cases hk
 | cons k r ih=>
  cases h with
  | cons _ _ _ ok nx kk=>
   intro m hm;rcases List.mem_cons.1 hm with rfl | hm
   ·exact nx.1
   ·have h1:=ih kk m hm;have h2:=kk.head.1;have h3:=nx.1;omega
theorem z3e.all {G:List (z1b β)} (h:z3e M G): ∀g∈G,OkS M g:=by
 induction G with
 | nil=>intro g hg;cases hg
 | cons k r ih=>
  intro g hg;rcases List.mem_cons.1 hg with rfl | hg
  ·exact h.head
  ·exact ih h.tail g hg
theorem z3e.before {G:List (z1b β)} {g:z1b β} (k:z3e M (G++[g])): ∀m∈G,m.b≤g.a:=by
 induction G with
 | nil=>intro m hm;cases hm
 | cons m r ih=>
  intro n hn;rcases List.mem_cons.1 hn with rfl | hn
  ·exact k.later g (by simp)
  ·exact ih k.tail n hn
theorem z3e.snoc {G:List (z1b β)} {g h:z1b β} (k:z3e M (G++[g])) (ok:OkS M h) (nx:Nxt g h):z3e M (G++[g]++[h]):=by
 induction G with
 | nil=>exact .cons g h [] k.head nx (.one h ok)
 | cons m r ih=>
  have i:=ih k.tail;cases r with
  | nil=>
   cases k with
   | cons _ _ _ ok1 nx1 k1=>exact .cons m g [h] ok1 nx1 i
  | cons m2 r=>
   cases k with
   | cons _ _ _ ok1 nx1 k1=>exact .cons m m2 _ ok1 nx1 i
theorem z3e.stretch {G:List (z1b β)} {g:z1b β} {x:Int} (k:z3e M (G++[g])) (hx:g.b≤x):z3e M (G++[⟨g.a,x,g.s⟩]):=by
 induction G with
 | nil=>have:=k.head;exact .one _ ⟨by have:=this.1;show g.a<x;omega,this.2⟩
 | cons m r ih=>
  have i:=ih k.tail;cases r with
  | nil=>
   cases k with
   | cons _ _ _ ok1 nx1 k1=>exact .cons m _ [] ok1 nx1 i
  | cons m2 r=>
   cases k with
   | cons _ _ _ ok1 nx1 k1=>exact .cons m m2 _ ok1 nx1 i
theorem z7i (g:z1b β) (G:List (z1b β)) (x:Int) (q:γ):ptG M (g::G) x q↔(g.a≤x∧x<g.b∧ptL M.inB g.s q)∨ptG M G x q:=by
 constructor
 ·rintro ⟨k,hk,h⟩;rcases List.mem_cons.1 hk with rfl | hk
  ·exact .inl h
  ·exact .inr ⟨k,hk,h⟩
 ·rintro (h | ⟨k,hk,h⟩)
  ·exact ⟨g,by simp,h⟩
  ·exact ⟨k,by simp [hk],h⟩
theorem y7p (G H:List (z1b β)) (x:Int) (q:γ):ptG M (G++H) x q↔ptG M G x q∨ptG M H x q:=by
 constructor
 ·rintro ⟨k,hk,h⟩;rcases List.mem_append.1 hk with hk | hk
  ·exact .inl ⟨k,hk,h⟩
  ·exact .inr ⟨k,hk,h⟩
 ·rintro (⟨k,hk,h⟩ | ⟨k,hk,h⟩)
  ·exact ⟨k,List.mem_append.2 (.inl hk),h⟩
  ·exact ⟨k,List.mem_append.2 (.inr hk),h⟩
theorem z3e.low {g:z1b β} {r:List (z1b β)} (h:z3e M (g::r)) {x:Int} {q:γ} (hp:ptG M (g::r) x q):g.a≤x:=by
 rcases (z7i g r x q).1 hp with hp | ⟨k,hk,h1,_⟩
 ·exact hp.1
 ·have:=h.later k hk;have:=h.head.1;omega
theorem z3e.rest {g:z1b β} {r:List (z1b β)} (h:z3e M (g::r)) (x:Int) (q:γ):ptG M r x q↔g.b≤x∧ptG M (g::r) x q:=by
 constructor
 ·rintro ⟨k,hk,h1,h2⟩;have:=h.later k hk;exact ⟨by omega,k,by simp [hk],h1,h2⟩
 ·rintro ⟨hx,hp⟩;rcases (z7i g r x q).1 hp with hp | hp
  ·omega
  ·exact hp
theorem z3e.sec0 {g:z1b β} {r:List (z1b β)} (h:z3e M (g::r)) {x:Int} (hx:g.a≤x∧x<g.b) (q:γ):ptG M (g::r) x q↔ptL M.inB g.s q:=by
 rw [z7i];constructor
 ·rintro (h1 | ⟨k,hk,h1,_⟩)
  ·exact h1.2.2
  ·have:=h.later k hk;omega
 ·exact fun h1=>.inl ⟨hx.1,hx.2,h1⟩
theorem x4b : ∀(G H:List (z1b β)),z3e M G→z3e M H→(∀x q,ptG M G x q↔ptG M H x q)→G=H
 | [],[],_,_,_=>rfl
 | [],h::H,_,hH,e=>by obtain ⟨q,hq⟩:=M.some _ hH.head.2.1 hH.head.2.2;have:=(e h.a q).2 ((hH.sec0 ⟨Int.le_refl _,hH.head.1⟩ q).2 hq);obtain ⟨k,hk,_⟩:=this;cases hk
 | g::G,[],hG,_,e=>by obtain ⟨q,hq⟩:=M.some _ hG.head.2.1 hG.head.2.2;have:=(e g.a q).1 ((hG.sec0 ⟨Int.le_refl _,hG.head.1⟩ q).2 hq);obtain ⟨k,hk,_⟩:=this;cases hk
 | g::G,h::H,hG,hH,e=>by
  have og:=hG.head;have oh:=hH.head;obtain ⟨q,hq⟩:=M.some _ og.2.1 og.2.2;obtain ⟨p,hp⟩:=M.some _ oh.2.1 oh.2.2;have a1:h.a≤g.a:=hH.low ((e g.a q).1 ((hG.sec0 ⟨Int.le_refl _,og.1⟩ q).2 hq));have a2:g.a≤h.a:=hG.low ((e h.a p).2 ((hH.sec0 ⟨Int.le_refl _,oh.1⟩ p).2 hp));have a3:g.a=h.a:=by omega
  have s1:g.s=h.s:=M.uniq _ _ og.2.1 oh.2.1 fun q=>by rw [←hG.sec0 (x:=g.a) ⟨Int.le_refl _,og.1⟩,e,hH.sec0 (x:=g.a) ⟨by omega,by have:=oh.1;omega⟩]
  have key: ∀(g h:z1b β) (G H:List (z1b β)),z3e M (g::G)→z3e M (h::H)→(∀x q,ptG M (g::G) x q↔ptG M (h::H) x q)→g.a=h.a→g.s=h.s→ ¬g.b<h.b:=fun g h G H hG hH e ea es hlt=>by
   have og:=hG.head;have oh:=hH.head;have at_: ∀q,ptG M (g::G) g.b q↔ptL M.inB h.s q:=fun q=>by rw [e,hH.sec0 ⟨by have:=og.1;omega,hlt⟩]
   obtain ⟨q,hq⟩:=M.some _ oh.2.1 oh.2.2;have:=(hG.rest g.b q).2 ⟨Int.le_refl _,(at_ q).2 hq⟩;cases hG with
   | one=>obtain ⟨k,hk,_⟩:=this;cases hk
   | cons _ k r ok nx kk=>
    have hk:k.a≤g.b:=kk.low this;have hk2:g.b=k.a:=by have:=nx.1;omega
    refine nx.2 hk2 ?_;rw [es];refine M.uniq _ _ oh.2.1 kk.head.2.1 fun p=> ?_;rw [←at_,←kk.sec0 (x:=g.b) ⟨by omega,by have:=kk.head.1;omega⟩];constructor
    ·exact fun hp=>((z3e.cons g k r ok nx kk).rest g.b p).2 ⟨Int.le_refl _,hp⟩
    ·exact fun hp=>(((z3e.cons g k r ok nx kk).rest g.b p).1 hp).2
  have b1:=key g h G H hG hH e a3 s1;have b2:=key h g H G hH hG (fun x q=>(e x q).symm) a3.symm s1.symm;have b3:g.b=h.b:=by omega
  have eg:g=h:=by
   obtain ⟨ga,gb,gs⟩:=g;obtain ⟨ha,hb,hs⟩:=h;simp only at a3 b3 s1
   subst_vars;rfl
  subst eg
  congr 1
  exact x4b G H hG.tail hH.tail fun x q=>by rw [hG.rest,hH.rest,e]
end
namespace Dim
variable {α β:Type} (D:Dim α β)
def flat (G:List (z1b β)):List α:=G.flatMap fun g=>g.s.map (D.put g.a g.b)
theorem flat_append (G H:List (z1b β)):D.flat (G++H)=D.flat G++D.flat H:=by simp [flat]
theorem flat_one (g:z1b β):D.flat [g]=g.s.map (D.put g.a g.b):=by simp [flat]
def inA {γ:Type} (inB:β→γ→Prop) (r:α) (p:Int×γ):Prop:=D.lo r≤p.1∧p.1<D.hi r∧inB (D.pr r) p.2
variable {D}
theorem x0t (hD:D.Fair) {γ:Type} (M:Sem β γ) (G:List (z1b β)) (x:Int) (q:γ):ptL (D.inA M.inB) (D.flat G) (x,q)↔ptG M G x q:=by
 constructor
 ·rintro ⟨r,hr,h⟩;obtain ⟨g,hg,hr⟩:=List.mem_flatMap.1 hr;obtain ⟨b,hb,rfl⟩:=List.mem_map.1 hr;unfold inA at h;rw [hD.lo_put,hD.hi_put,hD.pr_put] at h;exact ⟨g,hg,h.1,h.2.1,b,hb,h.2.2⟩
 ·rintro ⟨g,hg,h1,h2,b,hb,h3⟩;refine ⟨D.put g.a g.b b,List.mem_flatMap.2 ⟨g,hg,List.mem_map.2 ⟨b,hb,rfl⟩⟩,?_⟩;unfold inA;rw [hD.lo_put,hD.hi_put,hD.pr_put];exact ⟨h1,h2,h3⟩
def can {γ:Type} (M:Sem β γ) (l:List α):Prop:= ∃G,z3e M G∧l=D.flat G
def sem (hD:D.Fair) {γ:Type} (M:Sem β γ):Sem α (Int×γ) where
 can:=D.can M
 inB:=D.inA M.inB
 uniq:=fun s t ⟨G,hG,e1⟩ ⟨H,hH,e2⟩ h=>by subst e1 e2;rw [x4b G H hG hH fun x q=>by rw [←x0t hD,←x0t hD];exact h (x,q)]
 some:=fun s ⟨G,hG,e1⟩ hs=>by
  subst e1;cases G with
  | nil=>exact absurd rfl hs
  | cons g G=>obtain ⟨q,hq⟩:=M.some _ hG.head.2.1 hG.head.2.2;exact ⟨(g.a,q),(x0t hD M _ _ _).2 ((hG.sec0 ⟨Int.le_refl _,hG.head.1⟩ q).2 hq)⟩
 nil:=⟨[],.nil,rfl⟩
variable (D)
def oneS (sec:List β) (x x':Int) (s:Sw α β):Sw α β:=
 bif decide (0<sec.length)&&((s.fin == x)&&D.same s.last sec) then ⟨D.grow s.out s.first x',s.last,s.first,x'⟩
 else ⟨s.out++sec.map (D.put x x'),sec,s.out.length,x'⟩
def goS (sec:Int→List β) (cs:List Int):Nat→Nat→Sw α β→Sw α β
 | 0,_,s=>s
 | k+1,i,s=>goS sec cs k (i+1) (D.oneS (sec (rd cs i)) (rd cs i) (rd cs (i+1)) s)
theorem go_goS (l:List α): ∀(k i:Nat) (s:Sw α β),D.go l k i s=D.goS (D.sec l) (D.cuts l) k i s
 | 0,_,_=>rfl
 | k+1,i,s=>go_goS l k (i+1) _
variable {D}
structure Inv {γ:Type} (M:Sem β γ) (sec:Int→List β) (cs:List Int) (i:Nat) (s:Sw α β) (G:List (z1b β)):Prop where
 can:z3e M G
 out:s.out=D.flat G
 gap:s.last=[]→ ∀g∈G,g.b<rd cs i
 end_ : s.last ≠ [] → ∃ Gp g, G = Gp ++ [g] ∧ g.s = s.last ∧ g.b = rd cs i ∧ s.fin = rd cs i ∧ s.first = (D.flat Gp).length
 pts: ∀x q,ptG M G x q↔ ∃j,j<i∧rd cs j≤x∧x<rd cs (j+1)∧ptL M.inB (sec (rd cs j)) q
theorem v6y (hD:D.Fair) (hs: ∀a b,D.same a b=true↔a=b) {γ:Type} (M:Sem β γ) {sec:Int→List β} {cs:List Int} (hc:cs.Pairwise (· < ·)) (fK: ∀x,M.can (sec x)) {i:Nat} (hi:i+1<cs.length) {s:Sw α β} {G:List (z1b β)} (h:Inv (D:=D) M sec cs i s G):
  ∃G',Inv (D:=D) M sec cs (i+1) (D.oneS (sec (rd cs i)) (rd cs i) (rd cs (i+1)) s) G':=by
 have hlt:rd cs i<rd cs (i+1):=z3a hc (Nat.lt_succ_self _) hi;unfold oneS;rcases Yv (decide (0<(sec (rd cs i)).length)&&((s.fin == rd cs i)&&D.same s.last (sec (rd cs i)))) with q | q
 ·rw [q,cond_true];simp only [Bool.and_eq_true,decide_eq_true_eq] at q;obtain ⟨q1,q2,q3⟩:=q;have q3:=(hs _ _).1 q3;have hne:s.last≠ []:=fun e=>by rw [e] at q3;rw [←q3] at q1;exact Nat.lt_irrefl _ q1
  obtain ⟨Gp,g,e1,e2,e3,e4,e5⟩:=h.end_ hne;subst e1;refine ⟨Gp++[⟨g.a,rd cs (i+1),g.s⟩],h.can.stretch (by omega),?_,fun e=>absurd e hne,fun _=>⟨Gp,_,rfl,e2,rfl,rfl,e5⟩,fun x p=> ?_⟩
  ·show D.grow s.out s.first (rd cs (i+1))=_
   rw [h.out,e5];unfold grow;rw [D.flat_append,D.flat_append,D.flat_one,D.flat_one,List.take_left,List.drop_left,List.map_map]
   congr 1
   exact List.map_congr_left fun b _=>hD.ext_put _ _ _ _
  ·have hp:=h.pts x p;rw [y7p,z7i] at hp ⊢;have z: ¬ptG M ([]:List (z1b β)) x p:=fun ⟨_,hk,_⟩=>by cases hk
   constructor
   ·rintro (h1 | h1 | h1)
    ·obtain ⟨j,j1,j2⟩:=hp.1 (.inl h1);exact ⟨j,by omega,j2⟩
    ·simp only at h1;by_cases hx:x<g.b
     ·obtain ⟨j,j1,j2⟩:=hp.1 (.inr (.inl ⟨h1.1,hx,h1.2.2⟩));exact ⟨j,by omega,j2⟩
     ·exact ⟨i,Nat.lt_succ_self _,by omega,h1.2.1,by rw [←q3,←e2];exact h1.2.2⟩
    ·exact absurd h1 z
   ·rintro ⟨j,j1,j2,j3,j4⟩;rcases Nat.eq_or_lt_of_le (Nat.le_of_lt_succ j1) with rfl | j1
    ·refine .inr (.inl ⟨?_,j3,?_⟩)
     ·have:=(h.can.all g (by simp)).1;show g.a≤x;omega
     ·show ptL M.inB g.s p;rw [e2,q3];exact j4
    ·rcases hp.2 ⟨j,j1,j2,j3,j4⟩ with h1 | h1 | h1
     ·exact .inl h1
     ·exact .inr (.inl ⟨h1.1,by show x<rd cs (i+1);omega,h1.2.2⟩)
     ·exact absurd h1 z
 ·rw [q,cond_false];by_cases he:sec (rd cs i)=[]
  ·rw [he];refine ⟨G,h.can,?_,fun _ g hg=> ?_,fun e=>absurd rfl e,fun x p=> ?_⟩
   ·show s.out++[].map _=_;rw [List.map_nil,List.append_nil,h.out]
   ·by_cases hl:s.last=[]
    ·have:=h.gap hl g hg;omega
    ·obtain ⟨Gp,g',e1,e2,e3,_⟩:=h.end_ hl;subst e1;rcases List.mem_append.1 hg with hg | hg
     ·have:=h.can.before g hg;have:=(h.can.all g' (by simp)).1;omega
     ·rw [List.mem_singleton.1 hg];omega
   ·rw [h.pts];constructor
    ·rintro ⟨j,j1,j2⟩;exact ⟨j,by omega,j2⟩
    ·rintro ⟨j,j1,j2,j3,j4⟩;rcases Nat.eq_or_lt_of_le (Nat.le_of_lt_succ j1) with rfl | j1
     ·rw [he] at j4;exact absurd j4 (y3o _ _)
     ·exact ⟨j,j1,j2,j3,j4⟩
  ·have ok:OkS M (⟨rd cs i,rd cs (i+1),sec (rd cs i)⟩:z1b β):=⟨hlt,fK _,he⟩
   have hcan:z3e M (G++[⟨rd cs i,rd cs (i+1),sec (rd cs i)⟩]):=by
    rcases List.eq_nil_or_concat G with rfl | ⟨Gp,g,rfl⟩
    ·exact .one _ ok
    ·rw [List.concat_eq_append] at*;refine h.can.snoc ok ?_;by_cases hl:s.last=[]
     ·have:=h.gap hl g (by simp);exact ⟨by show g.b≤rd cs i;omega,fun e=>by simp only at e;omega⟩
     ·obtain ⟨Gp',g',e1,e2,e3,e4,_⟩:=h.end_ hl;obtain ⟨rfl,e⟩:=List.append_inj' e1 rfl;obtain rfl:g=g':=by simpa using e
      refine ⟨by show g.b≤rd cs i;omega,fun _ e=> ?_⟩;rw [decide_eq_true (show 0<(sec (rd cs i)).length from List.length_pos_iff.2 he),e4,(hs _ _).2 (e2.symm.trans e)] at q;simp at q
   refine ⟨_,hcan,?_,fun e=>absurd e he,fun _=>⟨G,_,rfl,rfl,rfl,rfl,by show s.out.length=_;rw [h.out]⟩,fun x p=> ?_⟩
   ·show s.out++_=_;rw [D.flat_append,D.flat_one,h.out]
   ·rw [y7p,z7i,h.pts];have z: ¬ptG M ([]:List (z1b β)) x p:=fun ⟨_,hk,_⟩=>by cases hk
    constructor
    ·rintro (⟨j,j1,j2⟩ | h1 | h1)
     ·exact ⟨j,by omega,j2⟩
     ·exact ⟨i,Nat.lt_succ_self _,h1⟩
     ·exact absurd h1 z
    ·rintro ⟨j,j1,j2,j3,j4⟩;rcases Nat.eq_or_lt_of_le (Nat.le_of_lt_succ j1) with rfl | j1
     ·exact .inr (.inl ⟨j2,j3,j4⟩)
     ·exact .inl ⟨j,j1,j2,j3,j4⟩
theorem u3j (hD:D.Fair) (hs: ∀a b,D.same a b=true↔a=b) {γ:Type} (M:Sem β γ) {sec:Int→List β} {cs:List Int} (hc:cs.Pairwise (· < ·)) (fK: ∀x,M.can (sec x)): ∀(k i:Nat) (s:Sw α β) (G:List (z1b β)),i+k<cs.length∨k=0→Inv (D:=D) M sec cs i s G→
  ∃G',Inv (D:=D) M sec cs (i+k) (D.goS sec cs k i s) G'
 | 0,i,s,G,_,h=>⟨G,h⟩
 | k+1,i,s,G,hk,h=>by obtain ⟨G1,h1⟩:=v6y hD hs M hc fK (show i+1<cs.length by omega) h;obtain ⟨G2,h2⟩:=u3j hD hs M hc fK k (i+1) _ G1 (by omega) h1;exact ⟨G2,by rw [show i+(k+1)=i+1+k by omega];exact h2⟩
theorem goS_can (hD:D.Fair) (hs: ∀a b,D.same a b=true↔a=b) {γ:Type} (M:Sem β γ) {sec:Int→List β} {cs:List Int} (hc:cs.Pairwise (· < ·)) (fK: ∀x,M.can (sec x)):
  (D.sem hD M).can (D.goS sec cs (cs.length - 1) 0 ⟨[],[],0,0⟩).out ∧ ∀x q,ptL (D.sem hD M).inB (D.goS sec cs (cs.length - 1) 0 ⟨[],[],0,0⟩).out (x,q)↔ ∃j,j+1<cs.length∧rd cs j≤x∧x<rd cs (j+1)∧ptL M.inB (sec (rd cs j)) q:=by
 obtain ⟨G,h⟩:=u3j hD hs M hc fK (cs.length - 1) 0 ⟨[],[],0,0⟩ [] (by omega) ⟨.nil,rfl,fun _ g hg=>by (cases hg),fun e=>absurd rfl e,fun x q=>⟨fun ⟨_,hg,_⟩=>(by cases hg),fun ⟨j,hj,_⟩=>absurd hj (Nat.not_lt_zero _)⟩⟩;refine ⟨⟨G,h.can,h.out⟩,fun x q=> ?_⟩;rw [h.out];rw [show ptL (D.sem hD M).inB (D.flat G) (x,q)↔ptG M G x q from x0t hD M G x q,h.pts];constructor
 ·rintro ⟨j,h1,h2⟩;exact ⟨j,by omega,h2⟩
 ·rintro ⟨j,h1,h2⟩;exact ⟨j,by omega,h2⟩
end Dim
end Go.Am
namespace Go.Am
open Go.Proofs.Tryz
open Go.Proofs Go.Sort Go.Shelf Go.RowKit Go.Lib
namespace Dim
variable {α β:Type} (D:Dim α β)
def goX (S:Int→Int→List β) (cs:List Int):Nat→Nat→Sw α β→Sw α β
 | 0,_,s=>s
 | k+1,i,s=>goX S cs k (i+1) (D.oneS (S (rd cs i) (rd cs (i+1))) (rd cs i) (rd cs (i+1)) s)
theorem oneS_length (q:List β) (x x':Int) (s:Sw α β):(D.oneS q x x' s).out.length ≤s.out.length+q.length:=by unfold oneS;cases (decide (0<q.length)&&((s.fin == x)&&D.same s.last q)) <;> simp [grow_length]
end Dim
def okX {β:Type} (S:Int→Int→List β) (cs:List Int):Nat→Nat→Bool
 | 0,_=>true
 | k+1,i=>bif decide (((S (rd cs i) (rd cs (i+1))).length :Int)>400) then false else okX S cs k (i+1)
theorem y5a (L:List R6) (a b e f:Int) (cs:List Int): ∀(k i:Nat) (o:List R2),(v9a L a b e f cs k i o).length ≤o.length+k
 | 0,_,_=>Nat.le_refl _
 | k+1,i,o=>by unfold v9a;have h1:=y5a L a b e f cs k (i+1) (bif y8n (crS R6.b R6.e L (rd cs i) (rd cs (i+1))) a b (rd cs i) (rd cs (i+1)) e f then j1e o (rd cs i) (rd cs (i+1)) else o);have h2:=y5b o (rd cs i) (rd cs (i+1));revert h1;cases y8n (crS R6.b R6.e L (rd cs i) (rd cs (i+1))) a b (rd cs i) (rd cs (i+1)) e f <;> simp only [cond_true,cond_false] <;> omega
theorem x8t (L:List R6) (a b e f n:Int):(z0g L a b e f n).length ≤(rnC R6.b R6.e n L).length :=by have:=y5a L a b e f (rnC R6.b R6.e n L) ((rnC R6.b R6.e n L).length - 1) 0 [];unfold z0g;simp only [List.length_nil] at this;omega
theorem u3d {L:List R6} {a b n:Int} (hl:L.length≤400) {i:Nat} (hi:i+1<(rnC R6.a R6.d n L).length) (out:List R4) (last:List R2) (first fin:Int): ∀(k j:Nat) (acc:List R6),j+k=L.length→acc.length≤j→
  ∃N,∀M,Yj (Xn L a b n) (M+N) (.to (.h2 ((i+1:Nat):Int) acc (j:Int) out last first fin (rnC R6.a R6.d n L).length (Xx (Yh (rnE R6.a R6.d n L)))))=Yj (Xn L a b n) M (.to (.h2 ((i+1:Nat):Int) (acc++crS R6.a R6.d (L.drop j) (rd (rnC R6.a R6.d n L) i) (rd (rnC R6.a R6.d n L) (i+1))) (L.length:Int) out last first fin (rnC R6.a R6.d n L).length (Xx (Yh (rnE R6.a R6.d n L)))))
 | 0,j,acc,h,ha=>by refine ⟨0,fun M=> ?_⟩;rw [List.drop_eq_nil_of_le (by omega),show crS R6.a R6.d ([]:List R6) (rd (rnC R6.a R6.d n L) i) (rd (rnC R6.a R6.d n L) (i+1))=[] from rfl,List.append_nil,Nat.add_zero,show j=L.length by omega]
 | k+1,j,acc,h,ha=>by
  have hj:j<L.length:=by omega
  have hc:=Uy R6.a R6.d n L;have hpl:(Xx (Yh (rnE R6.a R6.d n L))).length =4*L.length:=by rw [Wa,Wz,Wj]
  have r0:rd (Xx (Yh (rnE R6.a R6.d n L))) i=rd (rnC R6.a R6.d n L) i:=Uo _ _ (by show i<(rnC R6.a R6.d n L).length;omega);have r1:rd (Xx (Yh (rnE R6.a R6.d n L))) (i+1)=rd (rnC R6.a R6.d n L) (i+1):=Uo _ _ (by show i+1<(rnC R6.a R6.d n L).length;omega);have e1:IntKind.wrap .i64 (((i+1:Nat):Int) - 1)=(i:Int):=by rw [Zh];exact Zu (by omega)
  have hw:IntKind.wrap .i64 ((j:Int)+1)=((j+1:Nat):Int):=Zu (by omega);obtain ⟨N,hN⟩:=u3d hl hi out last first fin k (j+1) (acc++crS R6.a R6.d [rd L j] (rd (rnC R6.a R6.d n L) i) (rd (rnC R6.a R6.d n L) (i+1))) (by omega) (by have:=Qh R6.a R6.d [rd L j] (rd (rnC R6.a R6.d n L) i) (rd (rnC R6.a R6.d n L) (i+1));simp only [List.length_append,List.length_singleton] at*;omega)
  refine ⟨N+1,fun M=> ?_⟩;have e:crS R6.a R6.d (L.drop j) (rd (rnC R6.a R6.d n L) i) (rd (rnC R6.a R6.d n L) (i+1))=crS R6.a R6.d [rd L j] (rd (rnC R6.a R6.d n L) i) (rd (rnC R6.a R6.d n L) (i+1))++crS R6.a R6.d (L.drop (j+1)) (rd (rnC R6.a R6.d n L) i) (rd (rnC R6.a R6.d n L) (i+1)):=by rw [Yc hj,←z9j];rfl
  rw [e,←Nat.add_assoc,Zw,←List.append_assoc,←hN M];by_cases h1:(rd L j).a <rd (rnC R6.a R6.d n L) (i+1)
  ·by_cases h2:rd (rnC R6.a R6.d n L) i<(rd L j).d
   ·rw [j0z h1 h2];simp (disch:=omega) only [Xn,e1,r0,r1,hw,Zp,Zk,Zd,Ze,Yz,Zs,Yx,Zc,Zu,Zx,Yu,Zj,Nat.zero_add,decide_true,Bool.and_true,Bool.true_and,cond_true,cond_false]
   ·rw [v1t h2,List.append_nil];simp (disch:=omega) only [Xn,Zo,e1,r0,r1,hw,Zp,Zk,Zd,Ze,Yz,Zs,Yx,Zc,Zu,Zx,Yu,Zj,Nat.zero_add,decide_true,Bool.and_true,Bool.true_and,cond_true,cond_false]
  ·rw [v1u h1,List.append_nil];simp (disch:=omega) only [Xn,Zo,e1,r0,r1,hw,Zp,Zk,Zd,Ze,Yz,Zs,Yx,Zc,Zu,Zx,Yu,Zj,Nat.zero_add,decide_true,Bool.and_true,Bool.true_and,cond_true,cond_false]
theorem u3e {L:List R6} {a b n:Int} (hl:L.length≤400) (hn:n≠0) {R:List AVal} (hR: ∃N,Yj (Xn L a b n) N (.to (.h1 1 [] [] 0 0 (rnC R6.a R6.d n L).length (Xx (Yh (rnE R6.a R6.d n L)))))=.ret R): ∀(k i:Nat) (acc:List Int),i+k=L.length→acc=rnE R6.a R6.d n (L.take i)→ ∃N,Yj (Xn L a b n) N (.to (.h0 (i:Int) acc))=.ret R
 | 0,i,acc,h,ha=>by
  have e:acc=(rnE R6.a R6.d n L):=by rw [ha,List.take_of_length_le (by omega)]
  subst e;have hle:=Wj R6.a R6.d n L;obtain ⟨N,hN⟩:=hR;refine ⟨N+1,?_⟩;rw [Zw];simp (disch:=omega) only [Xn,Vi,Jc,z4d,Zo,Zs,Yx,decide_true,cond_true,cond_false];exact hN
 | k+1,i,acc,h,ha=>by
  have hle:=Wj R6.a R6.d n (L.take i);have fW:acc.length≤4*i:=by rw [ha,hle];simp;omega
  obtain ⟨N,hN⟩:=u3e hl hn hR k (i+1) (acc++rnE R6.a R6.d n [rd L i]) (by omega) (by
   rw [ha,List.take_add_one];have:L[i]? =some (rd L i):=by rw [Yt (show i<L.length by omega)];exact List.getElem?_eq_getElem _
   rw [this,z8p];rfl)
  refine ⟨N+1,?_⟩;rw [Zw];simp (disch:=omega) only [Xn,v8b hn,Zp,Zk,Zd,Ze,Yz,Zs,Yx,Zc,Zu,Zx,Yu,Zj,Nat.zero_add,decide_true,Bool.and_true,Bool.true_and,cond_true,cond_false];exact hN
def u3i (L:List R6) (a b n:Int) (x x':Int):List R2:=(z0g (crS R6.a R6.d L x x') x x' a b n)
theorem u3c {L:List R6} {a b n:Int} (hl:L.length≤400) (i:Nat) (hi:i≤2000) (x x':Int) (q:List R2) (first:Int) (inn:List R6) (hq:q.length≤2000): ∀(k j:Nat) (out:List R4),j+k=q.length→out.length≤10000000+j→
  ∃N,∀M,Yj (Xn L a b n) (M+N) (.to (.h3 q (q.length:Int) (j:Int) (i:Int) x x' inn out first (rnC R6.a R6.d n L).length (Xx (Yh (rnE R6.a R6.d n L)))))=Yj (Xn L a b n) M (.to (.h1 ((i+1:Nat):Int) (out++(q.drop j).map (D4.put x x')) q first x' (rnC R6.a R6.d n L).length (Xx (Yh (rnE R6.a R6.d n L)))))
 | 0,j,out,h,ho=>by refine ⟨1,fun M=> ?_⟩;rw [List.drop_eq_nil_of_le (by omega),Zw];simp (disch:=omega) only [Xn,Zo,Zu,Zx,cond_false,List.map_nil,List.append_nil]
 | k+1,j,out,h,ho=>by
  obtain ⟨N,hN⟩:=u3c hl i hi x x' q first inn hq k (j+1) (out++[D4.put x x' (rd q j)]) (by omega) (by simp;omega)
  refine ⟨N+1,fun M=> ?_⟩;have:=hN M;rw [Yc (show j<q.length by omega),List.map_cons,←Nat.add_assoc,Zw];simp (disch:=omega) only [Xn,Zp,Zk,Zd,Ze,Yz,Zs,Yx,Zc,Zu,Zx,Yu,Zj,Nat.zero_add,decide_true,Bool.and_true,Bool.true_and,cond_true,cond_false];rw [List.append_assoc] at this;exact this
theorem u3b {L:List R6} {a b n:Int} (hl:L.length≤400) (i:Nat) (hi:i≤2000) (x x' fin:Int) (last:List R2) (first:Int) (inn:List R6): ∀(k j:Nat) (out:List R4),j+k=out.length→out.length≤10000000→
  ∃N,∀M,Yj (Xn L a b n) (M+N) (.to (.h4 (j:Int) (i:Int) x x' inn out last first fin (rnC R6.a R6.d n L).length (Xx (Yh (rnE R6.a R6.d n L)))))=Yj (Xn L a b n) M (.to (.h1 ((i+1:Nat):Int) (D4.grow out j x') last first x' (rnC R6.a R6.d n L).length (Xx (Yh (rnE R6.a R6.d n L)))))
 | 0,j,out,h,ho=>by refine ⟨1,fun M=> ?_⟩;rw [D4.grow_nil _ _ _ (by omega),Zw];simp (disch:=omega) only [Xn,Zo,Zu,Zx,cond_false]
 | k+1,j,out,h,ho=>by
  obtain ⟨N,hN⟩:=u3b hl i hi x x' fin last first inn k (j+1) (out.set j (D4.ext x' (rd out j))) (by simp;omega) (by simpa using ho)
  refine ⟨N+1,fun M=> ?_⟩;have:=hN M;rw [D4.grow_set out j _ (by omega)] at this;rw [←Nat.add_assoc,Zw];simp (disch:=omega) only [Xn,Zp,Zk,Zd,Ze,Yz,Zs,Yx,Zc,Zu,Zx,Yu,Zj,Nat.zero_add,decide_true,Bool.and_true,Bool.true_and,cond_true,cond_false];exact this
theorem v0j {L:List R6} {a b n:Int} (hl:L.length≤400) (hn:n≠0): ∀(k i:Nat) (s:Sw R4 R2),k=(rnC R6.a R6.d n L).length - 1 - i→i≤(rnC R6.a R6.d n L).length →s.out.length≤i*2000→s.last.length≤2000→s.first≤s.out.length→ ∃N,Yj (Xn L a b n) N (.to (.h1 ((i+1:Nat):Int) s.out s.last (s.first:Int) s.fin (rnC R6.a R6.d n L).length (Xx (Yh (rnE R6.a R6.d n L)))))=.ret [.dat (D4.goX (u3i L a b n) (rnC R6.a R6.d n L) k i s).out.length (Zz (D4.goX (u3i L a b n) (rnC R6.a R6.d n L) k i s).out)]
 | 0,i,s,h,hi,ho,hla,hf=>by have hc:=Uy R6.a R6.d n L;refine ⟨1,?_⟩;rw [Zw];simp (disch:=omega) only [Xn,Zo,cond_false,Zg];rfl
 | k +1,i,s,h,hi,ho,hla,hf=>by
  have hc:=Uy R6.a R6.d n L;have hi1:i+1<(rnC R6.a R6.d n L).length :=by omega
  have hpl:(Xx (Yh (rnE R6.a R6.d n L))).length =4*L.length:=by rw [Wa,Wz,Wj]
  have r0:rd (Xx (Yh (rnE R6.a R6.d n L))) i=rd (rnC R6.a R6.d n L) i:=Uo _ _ (by show i<(rnC R6.a R6.d n L).length;omega);have r1:rd (Xx (Yh (rnE R6.a R6.d n L))) (i+1)=rd (rnC R6.a R6.d n L) (i+1):=Uo _ _ (by show i+1<(rnC R6.a R6.d n L).length;omega);have e1:IntKind.wrap .i64 (((i+1:Nat):Int) - 1)=(i:Int):=by rw [Zh];exact Zu (by omega)
  have hbig:i*2000≤1600*2000:=Nat.mul_le_mul_right _ (by omega);obtain ⟨N2,h2⟩:=u3d (a:=a) (b:=b) (n:=n) hl hi1 s.out s.last (s.first:Int) s.fin L.length 0 [] (Nat.zero_add _) (Nat.le_refl _);rw [List.drop_zero,List.nil_append,Qv] at h2;have hin:=Qh R6.a R6.d L (rd (rnC R6.a R6.d n L) i) (rd (rnC R6.a R6.d n L) (i+1));have w1:z1p (crS R6.a R6.d L (rd (rnC R6.a R6.d n L) i) (rd (rnC R6.a R6.d n L) (i+1))) (rd (rnC R6.a R6.d n L) i) (rd (rnC R6.a R6.d n L) (i+1)) a b n=true:=by unfold z1p;rw [Yz (by omega),decide_eq_false hn];rfl
  have st0: ∀M,Yj (Xn L a b n) (M+N2+1) (.to (.h1 ((i+1:Nat):Int) s.out s.last (s.first:Int) s.fin (rnC R6.a R6.d n L).length (Xx (Yh (rnE R6.a R6.d n L)))))=Yj (Xn L a b n) M (.to (.h2 ((i+1:Nat):Int) (crS R6.a R6.d L (rd (rnC R6.a R6.d n L) i) (rd (rnC R6.a R6.d n L) (i+1))) (L.length:Int) s.out s.last (s.first:Int) s.fin (rnC R6.a R6.d n L).length (Xx (Yh (rnE R6.a R6.d n L))))):=fun M=>by rw [←h2 M,Zw];simp (disch:=omega) only [Xn,Zd,cond_true]
  have hq:(u3i L a b n) (rd (rnC R6.a R6.d n L) i) (rd (rnC R6.a R6.d n L) (i+1))=(z0g (crS R6.a R6.d L (rd (rnC R6.a R6.d n L) i) (rd (rnC R6.a R6.d n L) (i+1))) (rd (rnC R6.a R6.d n L) i) (rd (rnC R6.a R6.d n L) (i+1)) a b n):=rfl;have hsl:(z0g (crS R6.a R6.d L (rd (rnC R6.a R6.d n L) i) (rd (rnC R6.a R6.d n L) (i+1))) (rd (rnC R6.a R6.d n L) i) (rd (rnC R6.a R6.d n L) (i+1)) a b n).length ≤2000:=by have:=x8t (crS R6.a R6.d L (rd (rnC R6.a R6.d n L) i) (rd (rnC R6.a R6.d n L) (i+1))) (rd (rnC R6.a R6.d n L) i) (rd (rnC R6.a R6.d n L) (i+1)) a b n;have:=Uy R6.b R6.e n (crS R6.a R6.d L (rd (rnC R6.a R6.d n L) i) (rd (rnC R6.a R6.d n L) (i+1)));omega
  have w2:Wh s.last (z0g (crS R6.a R6.d L (rd (rnC R6.a R6.d n L) i) (rd (rnC R6.a R6.d n L) (i+1))) (rd (rnC R6.a R6.d n L) i) (rd (rnC R6.a R6.d n L) (i+1)) a b n)=true:=decide_eq_true (by omega);have ol:=D4.oneS_length (z0g (crS R6.a R6.d L (rd (rnC R6.a R6.d n L) i) (rd (rnC R6.a R6.d n L) (i+1))) (rd (rnC R6.a R6.d n L) i) (rd (rnC R6.a R6.d n L) (i+1)) a b n) (rd (rnC R6.a R6.d n L) i) (rd (rnC R6.a R6.d n L) (i+1)) s;rcases Yv (decide (0<(z0g (crS R6.a R6.d L (rd (rnC R6.a R6.d n L) i) (rd (rnC R6.a R6.d n L) (i+1))) (rd (rnC R6.a R6.d n L) i) (rd (rnC R6.a R6.d n L) (i+1)) a b n).length)&&((s.fin == (rd (rnC R6.a R6.d n L) i))&&D4.same s.last (z0g (crS R6.a R6.d L (rd (rnC R6.a R6.d n L) i) (rd (rnC R6.a R6.d n L) (i+1))) (rd (rnC R6.a R6.d n L) i) (rd (rnC R6.a R6.d n L) (i+1)) a b n))) with q | q
  ·obtain ⟨N4,h4⟩:=u3b (a:=a) (b:=b) (n:=n) hl (i+1) (by omega) (rd (rnC R6.a R6.d n L) i) (rd (rnC R6.a R6.d n L) (i+1)) s.fin s.last (s.first:Int) (crS R6.a R6.d L (rd (rnC R6.a R6.d n L) i) (rd (rnC R6.a R6.d n L) (i+1))) (s.out.length - s.first) s.first s.out (by omega) (by omega)
   have e:D4.oneS (z0g (crS R6.a R6.d L (rd (rnC R6.a R6.d n L) i) (rd (rnC R6.a R6.d n L) (i+1))) (rd (rnC R6.a R6.d n L) i) (rd (rnC R6.a R6.d n L) (i+1)) a b n) (rd (rnC R6.a R6.d n L) i) (rd (rnC R6.a R6.d n L) (i+1)) s=⟨D4.grow s.out s.first (rd (rnC R6.a R6.d n L) (i+1)),s.last,s.first,(rd (rnC R6.a R6.d n L) (i+1))⟩:=by unfold Dim.oneS;rw [q];rfl
   obtain ⟨N0,h0⟩:=v0j hl hn k (i+1) (D4.oneS (z0g (crS R6.a R6.d L (rd (rnC R6.a R6.d n L) i) (rd (rnC R6.a R6.d n L) (i+1))) (rd (rnC R6.a R6.d n L) i) (rd (rnC R6.a R6.d n L) (i+1)) a b n) (rd (rnC R6.a R6.d n L) i) (rd (rnC R6.a R6.d n L) (i+1)) s) (by omega) (by omega) (by omega) (by rw [e];exact hla) (by rw [e];simpa [Dim.grow_length] using hf);refine ⟨N0+N4+1+N2+1,?_⟩;rw [st0 (N0+N4+1),Zw];simp only [Bool.and_eq_true,decide_eq_true_eq] at q;obtain ⟨q1,q2,q3⟩:=q;have q3':Ja s.last (z0g (crS R6.a R6.d L (rd (rnC R6.a R6.d n L) i) (rd (rnC R6.a R6.d n L) (i+1))) (rd (rnC R6.a R6.d n L) i) (rd (rnC R6.a R6.d n L) (i+1)) a b n)=true:=q3;simp (disch:=omega) only [Xn,Zo,Ye,e1,r0,r1,q2,q3',w1,w2,Zp,Zk,Zd,Ze,Yz,Zs,Yx,Zc,Zu,Zx,Yu,Zj,Nat.zero_add,decide_true,Bool.and_true,Bool.true_and,cond_true,cond_false];rw [h4 N0];unfold Dim.goX;rw [hq];rw [e] at h0 ⊢;exact h0
  ·obtain ⟨N3,h3⟩:=u3c (a:=a) (b:=b) (n:=n) hl (i+1) (by omega) (rd (rnC R6.a R6.d n L) i) (rd (rnC R6.a R6.d n L) (i+1)) (z0g (crS R6.a R6.d L (rd (rnC R6.a R6.d n L) i) (rd (rnC R6.a R6.d n L) (i+1))) (rd (rnC R6.a R6.d n L) i) (rd (rnC R6.a R6.d n L) (i+1)) a b n) (s.out.length:Int) (crS R6.a R6.d L (rd (rnC R6.a R6.d n L) i) (rd (rnC R6.a R6.d n L) (i+1))) hsl (z0g (crS R6.a R6.d L (rd (rnC R6.a R6.d n L) i) (rd (rnC R6.a R6.d n L) (i+1))) (rd (rnC R6.a R6.d n L) i) (rd (rnC R6.a R6.d n L) (i+1)) a b n).length 0 s.out (Nat.zero_add _) (by omega);simp only [List.drop_zero,Qv] at h3;have e:D4.oneS (z0g (crS R6.a R6.d L (rd (rnC R6.a R6.d n L) i) (rd (rnC R6.a R6.d n L) (i+1))) (rd (rnC R6.a R6.d n L) i) (rd (rnC R6.a R6.d n L) (i+1)) a b n) (rd (rnC R6.a R6.d n L) i) (rd (rnC R6.a R6.d n L) (i+1)) s=⟨s.out++(z0g (crS R6.a R6.d L (rd (rnC R6.a R6.d n L) i) (rd (rnC R6.a R6.d n L) (i+1))) (rd (rnC R6.a R6.d n L) i) (rd (rnC R6.a R6.d n L) (i+1)) a b n).map (D4.put (rd (rnC R6.a R6.d n L) i) (rd (rnC R6.a R6.d n L) (i+1))),(z0g (crS R6.a R6.d L (rd (rnC R6.a R6.d n L) i) (rd (rnC R6.a R6.d n L) (i+1))) (rd (rnC R6.a R6.d n L) i) (rd (rnC R6.a R6.d n L) (i+1)) a b n),s.out.length,(rd (rnC R6.a R6.d n L) (i+1))⟩:=by unfold Dim.oneS;rw [q];rfl
   obtain ⟨N0,h0⟩:=v0j hl hn k (i+1) (D4.oneS (z0g (crS R6.a R6.d L (rd (rnC R6.a R6.d n L) i) (rd (rnC R6.a R6.d n L) (i+1))) (rd (rnC R6.a R6.d n L) i) (rd (rnC R6.a R6.d n L) (i+1)) a b n) (rd (rnC R6.a R6.d n L) i) (rd (rnC R6.a R6.d n L) (i+1)) s) (by omega) (by omega) (by omega) (by rw [e];exact hsl) (by rw [e];simp);have hg:Xn L a b n (.h2 ((i+1:Nat):Int) (crS R6.a R6.d L (rd (rnC R6.a R6.d n L) i) (rd (rnC R6.a R6.d n L) (i+1))) (L.length:Int) s.out s.last (s.first:Int) s.fin (rnC R6.a R6.d n L).length (Xx (Yh (rnE R6.a R6.d n L))))=.to (.h3 (z0g (crS R6.a R6.d L (rd (rnC R6.a R6.d n L) i) (rd (rnC R6.a R6.d n L) (i+1))) (rd (rnC R6.a R6.d n L) i) (rd (rnC R6.a R6.d n L) (i+1)) a b n) ((z0g (crS R6.a R6.d L (rd (rnC R6.a R6.d n L) i) (rd (rnC R6.a R6.d n L) (i+1))) (rd (rnC R6.a R6.d n L) i) (rd (rnC R6.a R6.d n L) (i+1)) a b n).length :Int) 0 ((i+1:Nat):Int) (rd (rnC R6.a R6.d n L) i) (rd (rnC R6.a R6.d n L) (i+1)) (crS R6.a R6.d L (rd (rnC R6.a R6.d n L) i) (rd (rnC R6.a R6.d n L) (i+1))) s.out (s.out.length:Int) (rnC R6.a R6.d n L).length (Xx (Yh (rnE R6.a R6.d n L)))):=by
    have e3:D4.same s.last (z0g (crS R6.a R6.d L (rd (rnC R6.a R6.d n L) i) (rd (rnC R6.a R6.d n L) (i+1))) (rd (rnC R6.a R6.d n L) i) (rd (rnC R6.a R6.d n L) (i+1)) a b n)=Ja s.last (z0g (crS R6.a R6.d L (rd (rnC R6.a R6.d n L) i) (rd (rnC R6.a R6.d n L) (i+1))) (rd (rnC R6.a R6.d n L) i) (rd (rnC R6.a R6.d n L) (i+1)) a b n):=rfl;rw [e3] at q;by_cases q1:0<(z0g (crS R6.a R6.d L (rd (rnC R6.a R6.d n L) i) (rd (rnC R6.a R6.d n L) (i+1))) (rd (rnC R6.a R6.d n L) i) (rd (rnC R6.a R6.d n L) (i+1)) a b n).length
    ·rw [decide_eq_true q1,Bool.true_and] at q;rcases Yv (s.fin == (rd (rnC R6.a R6.d n L) i)) with q2 | q2
     ·rw [q2,Bool.true_and] at q;simp (disch:=omega) only [Xn,Zo,Ye,e1,r0,r1,q2,q,w1,w2,Zp,Zk,Zd,Ze,Yz,Zs,Yx,Zc,Zu,Zx,Yu,Zj,Nat.zero_add,decide_true,Bool.and_true,Bool.true_and,cond_true,cond_false]
     ·simp (disch:=omega) only [Xn,Zo,Ye,e1,r0,r1,q2,w1,w2,Zp,Zk,Zd,Ze,Yz,Zs,Yx,Zc,Zu,Zx,Yu,Zj,Nat.zero_add,decide_true,Bool.and_true,Bool.true_and,cond_true,cond_false]
    ·simp (disch:=omega) only [Xn,Zo,Ys,e1,r0,r1,w1,w2,Zp,Zk,Zd,Ze,Yz,Zs,Yx,Zc,Zu,Zx,Yu,Zj,Nat.zero_add,decide_true,Bool.and_true,Bool.true_and,cond_true,cond_false]
   refine ⟨N0+N3+1+N2+1,?_⟩;rw [st0 (N0+N3+1),Zw,hg,h3 N0];unfold Dim.goX;rw [hq];rw [e] at h0 ⊢;exact h0
def z1l (L:List R6) (a b n:Int):Bool:=decide (L.length≤400)&& !decide (n=0)
def z1d (L:List R6) (a b n:Int):List R4:=(D4.goX (u3i L a b n) (rnC R6.a R6.d n L) ((rnC R6.a R6.d n L).length - 1) 0 ⟨[],[],0,0⟩).out
theorem u8h (L:List R6) (a b n:Int) (h:z1l L a b n=true): ∃N,Yj (Xn L a b n) N (x0n L a b n)=.ret [.dat (z1d L a b n).length (Zz (z1d L a b n))]:=by simp only [z1l,Bool.and_eq_true,Bool.not_eq_true',decide_eq_true_eq,decide_eq_false_iff_not] at h;exact u3e h.1 h.2 (v0j h.1 h.2 _ 0 ⟨[],[],0,0⟩ (by omega) (Nat.zero_le _) (Nat.zero_le _) (Nat.zero_le _) (Nat.le_refl _)) L.length 0 [] (Nat.zero_add _) rfl
def fLay :List AVal→Option (AVal×Bool)
 | [a0,.agg [.int .i64 bE,.int .i64 bF],.int .i64 x2]=>match asL R6 a0 with
  | some (L0,g0,n0)=>some (.dat (z1d L0 bE bF x2).length (Zz (z1d L0 bE bF x2)),isT R6 n0 g0&&(z1l L0 bE bF x2))
  | _=>none
 | _=>none
theorem u9y {S:Specs} (hS:Zq prog S):Zq prog (S.with u2k fLay):=by
 refine z3b hS (by kernel_rfl) fun args v h=> ?_;unfold fLay at h;split at h
 ·rename_i a0 bE bF x2;split at h
  ·rename_i L0 g0 n0 e0;simp only [Option.some.injEq,Prod.mk.injEq,Bool.and_eq_true] at h;obtain ⟨rfl,ho0,hw⟩:=h;obtain ⟨N,hN⟩:=u8h L0 bE bF x2 hw;exact ⟨_,_,(.cons (asL_le e0 ho0) (.cons (.refl _) (.cons (.refl _) .nil))),rfl,v6q L0 bE bF x2 N _ hN,3,rfl⟩
  ·cases h
 ·cases h
def Dg :Specs:=(Df.with u2k fLay)
theorem z0d :Zq prog Dg:=(u9y z3d)
end Go.Am
namespace Go.Am
open Go.Proofs.Tryz
open Go.Proofs
inductive innS where
 | h0 (v14:Int) (aB:List Int)
 | h1 (v5:Int) (aC:List R6) (bQ:List R4) (aD:Int) (aM:Int) (bA:Nat) (aQ:List Int)
 | h2 (v5:Int) (v6:List R6) (v19:Int) (aC:List R6) (bQ:List R4) (aD:Int) (aM:Int) (bA:Nat) (aQ:List Int)
 | h3 (v70:List R4) (v71:Int) (v72:Int) (cC:Int) (aO:Int) (aL:Int) (bX:List R6) (aC:List R6) (aD:Int) (cG:Nat) (cH:List Int)
 | h4 (v14:Int) (cC:Int) (aO:Int) (aL:Int) (bX:List R6) (aC:List R6) (aD:List R4) (aM:Int) (dY:Int) (cQ:Nat) (cY:List Int)
abbrev y8j (aC:List R6) (v14:Int) (aL:Int):=(aC.set (0+(tn v14)) (R6.mk (rd aC (0+(tn v14))).a (rd aC (0+(tn v14))).b (rd aC (0+(tn v14))).c (rd aC (0+(tn v14))).d (rd aC (0+(tn v14))).e aL))
abbrev y8i (aB:List Int) (l0:List R6) (v14:Int) (x1:Int):=(aB++[(Xp (rd l0 (tn v14)).c x1),(wr (0 - (Xp (wr (0 - (rd l0 (tn v14)).c)) x1))),(Xp (rd l0 (tn v14)).f x1),(wr (0 - (Xp (wr (0 - (rd l0 (tn v14)).f)) x1)))])
def w1k :AFr:=⟨⟨99,0,true⟩,none,(.inRangeFunc 0::(Zb prog 36 [1,1,1,1,1,0,1,0] 1)),none,(Zy prog 36),Yq [(4,(.ptr 2 0)),(5,(.ptr 3 0)),(7,(.ptr 4 0))]⟩
abbrev y8h (v6:List R6) (l0:List R6) (v19:Int):=(v6++[(R6.mk (rd l0 (tn v19)).a (rd l0 (tn v19)).b (rd l0 (tn v19)).c (rd l0 (tn v19)).d (rd l0 (tn v19)).e (rd l0 (tn v19)).f)])
abbrev y8g (aB:List Int):=(Xx (Yp aB.length (cOf (Zz (Yh (Yp aB.length (cOf (Zz aB))))))))
abbrev y8f (aC:List R6) (v70:List R4) (v72:Int) (aO:Int) (aL:Int):=(aC++[(R6.mk (rd v70 (tn v72)).a (rd v70 (tn v72)).b aO (rd v70 (tn v72)).c (rd v70 (tn v72)).d aL)])
def u3r :=(z5j [(0,⟨.ready,none,99,Yq [(3,(.ptr 1 0)),(4,(.ptr 2 0)),(5,(.ptr 3 0)),(7,(.ptr 4 0)),(8,(.ptr 5 0)),(9,(.ptr 6 0)),(10,(.ptr 7 0))],[26,27],(Xd prog 36 [1,1,1,1,1,0,1,0,0]),(Xd prog 36 [1,1,1,1,1,0,1,0,1])⟩)])
abbrev u3q (aB:List Int) (l0:List R6) (v14:Int) (x1:Int):=(Zt (Zz aB) 0 aB.length 1 [(ii (Xp (rd l0 (tn v14)).c x1)),(ii (wr (0 - (Xp (wr (0 - (rd l0 (tn v14)).c)) x1)))),(ii (Xp (rd l0 (tn v14)).f x1)),(ii (wr (0 - (Xp (wr (0 - (rd l0 (tn v14)).f)) x1))))])
abbrev u3p (v6:List R6) (l0:List R6) (v19:Int):=(Zt (Zz v6) 0 v6.length 6 [(ii (rd l0 (tn v19)).a),(ii (rd l0 (tn v19)).b),(ii (rd l0 (tn v19)).c),(ii (rd l0 (tn v19)).d),(ii (rd l0 (tn v19)).e),(ii (rd l0 (tn v19)).f)])
def x3m (l0:List R6):ABlk:=⟨[(.dat l0.length (Zz l0))],22,none⟩
abbrev x0q (v6:List R6) (aQ:List Int) (v5:Int) (x1:Int):=(z1d (cvT v6) (rd aQ (0+(tn (wr (v5 - 1))))) (rd aQ (0+(tn v5))) x1)
def innC (l0:List R6) (x1:Int):innS→Cfg
 | .h0 v14 aB=>⟨⟨45,0,true⟩,none,(Zb prog 80 [1,1,0,1,0,0] 0),none,(Zy prog 4),⟨Yq [(2,(ii x1)),(3,(.ptr 0 0)),(4,(.ptr 1 0)),(7,(.ptr 2 0)),(12,(.dat l0.length (Zz l0))),(13,(ii (l0.length:Int))),(14,(ii v14))],Uv [(x3m l0),⟨[(ii 2)],3,none⟩,⟨[(.sla 10 1 0 aB.length (.un 1))],47,none⟩,⟨[(ii x1)],3,none⟩,⟨[.nils],30,none⟩,⟨[(ii 0)],24,none⟩,⟨[.nils],30,none⟩,⟨[.nils],106,none⟩,⟨[(ii 0)],3,none⟩,⟨[(ii 0)],3,none⟩,⟨rows aB.length (Zz aB),3,some ⟨1,aB.length,(Zz aB)⟩⟩] 0,11,[],true⟩,[⟨⟨99,0,true⟩,(Wd prog 36 [1,1,1,1,1,0,0] 2),(Zb prog 36 [1,1,1,1,1,0,0] 1),none,(Zy prog 36),Yq [(3,(.ptr 3 0)),(4,(.ptr 4 0)),(5,(.ptr 5 0)),(7,(.ptr 6 0)),(8,(.ptr 7 0)),(9,(.ptr 8 0)),(10,(.ptr 9 0)),(23,(.dat l0.length (Zz l0))),(24,(ii x1))]⟩],.leaf⟩
 | .h1 v5 aC bQ aD aM bA aQ=>⟨⟨63,0,true⟩,none,(Zb prog 121 [1,0,0] 0),none,[],⟨Yq [(0,(.yld 0)),(1,(.ptr 8 0)),(2,(.ptr 10 0)),(3,(.ptr 11 0)),(5,(ii v5))],z0z [(1,⟨[(ii x1)],3,none⟩),(2,⟨[.nils],30,none⟩),(3,⟨[(ii 0)],24,none⟩),(4,⟨[(.sla 12 6 0 aC.length (.un 6))],30,none⟩),(5,⟨[(.dat bQ.length (Zz bQ))],106,none⟩),(6,⟨[(ii aD)],3,none⟩),(7,⟨[(ii aM)],3,none⟩),(8,⟨[(.sla 9 1 0 bA (.un 1))],47,none⟩),(9,⟨rows aQ.length (Zz aQ),3,some ⟨1,aQ.length,(Zz aQ)⟩⟩),(10,(x3m l0)),(11,⟨[(ii 2)],3,none⟩),(12,⟨rows aC.length (Zz aC),68,some ⟨6,aC.length,(Zz aC)⟩⟩)],13,[],true⟩,[w1k],u3r⟩
 | .h2 v5 v6 v19 aC bQ aD aM bA aQ=>⟨⟨63,0,true⟩,none,(Zb prog 121 [1,0,0,1,0,0,1,0,1,0,0] 0),none,[],⟨Yq [(0,(.yld 0)),(1,(.ptr 8 0)),(2,(.ptr 10 0)),(3,(.ptr 11 0)),(5,(ii v5)),(6,(.sla 12 6 0 v6.length (.un 6))),(17,(.dat l0.length (Zz l0))),(18,(ii (l0.length:Int))),(19,(ii v19))],z0z [(1,⟨[(ii x1)],3,none⟩),(2,⟨[.nils],30,none⟩),(3,⟨[(ii 0)],24,none⟩),(4,⟨[(.sla 13 6 0 aC.length (.un 6))],30,none⟩),(5,⟨[(.dat bQ.length (Zz bQ))],106,none⟩),(6,⟨[(ii aD)],3,none⟩),(7,⟨[(ii aM)],3,none⟩),(8,⟨[(.sla 9 1 0 bA (.un 1))],47,none⟩),(9,⟨rows aQ.length (Zz aQ),3,some ⟨1,aQ.length,(Zz aQ)⟩⟩),(10,(x3m l0)),(11,⟨[(ii 2)],3,none⟩),(12,⟨rows v6.length (Zz v6),68,some ⟨6,v6.length,(Zz v6)⟩⟩),(13,⟨rows aC.length (Zz aC),68,some ⟨6,aC.length,(Zz aC)⟩⟩)],14,[],true⟩,[w1k],u3r⟩
 | .h3 v70 v71 v72 cC aO aL bX aC aD cG cH=>⟨⟨99,0,true⟩,none,(Zb prog 36 [1,1,1,1,1,0,1,0,1,0,1,1,1,1,1,0,0] 0),(some 0),[],⟨Yq [(7,(.ptr 4 0)),(11,(.ptr 8 0)),(70,(.dat v70.length (Zz v70))),(71,(ii v71)),(72,(ii v72))],z0z [(1,⟨[(ii x1)],3,none⟩),(2,⟨[.nils],30,none⟩),(3,⟨[(ii 0)],24,none⟩),(4,⟨[(.sla 13 6 0 aC.length (.un 6))],30,none⟩),(5,⟨[(.dat v70.length (Zz v70))],106,none⟩),(6,⟨[(ii aD)],3,none⟩),(7,⟨[(ii aL)],3,none⟩),(8,⟨[(ii aO),(ii aL)],110,none⟩),(9,⟨[(.sla 10 1 0 cG (.un 1))],47,none⟩),(10,⟨rows cH.length (Zz cH),3,some ⟨1,cH.length,(Zz cH)⟩⟩),(11,(x3m l0)),(12,⟨[(ii 2)],3,none⟩),(13,⟨rows aC.length (Zz aC),68,some ⟨6,aC.length,(Zz aC)⟩⟩)],14,[],true⟩,[⟨⟨63,0,true⟩,(Wd prog 121 [1,0,0,1,0,0,1,1,0] 12),(Zb prog 121 [1,0,0,1,0,0,1,1,0] 1),none,[],Yq [(0,(.yld 0)),(1,(.ptr 9 0)),(2,(.ptr 11 0)),(3,(.ptr 12 0)),(5,(ii cC)),(49,(.yld 0)),(59,(.agg [(ii aO),(ii aL)])),(60,(.dat bX.length (Zz bX)))]⟩,w1k],(z5j [(0,⟨.busy,none,99,Yq [(3,(.ptr 1 0)),(4,(.ptr 2 0)),(5,(.ptr 3 0)),(7,(.ptr 4 0)),(8,(.ptr 5 0)),(9,(.ptr 6 0)),(10,(.ptr 7 0))],[26,27],(Xd prog 36 [1,1,1,1,1,0,1,0,0]),(Xd prog 36 [1,1,1,1,1,0,1,0,1])⟩)])⟩
 | .h4 v14 cC aO aL bX aC aD aM dY cQ cY=>⟨⟨99,0,true⟩,none,(Zb prog 36 [1,1,1,1,1,0,1,0,1,0,1,1,0,1,0,0,1,0,0] 0),(some 0),[],⟨Yq [(7,(.ptr 4 0)),(10,(.ptr 8 0)),(11,(.ptr 9 0)),(14,(ii v14))],z0z [(1,⟨[(ii x1)],3,none⟩),(2,⟨[.nils],30,none⟩),(3,⟨[(ii 0)],24,none⟩),(4,⟨[(.sla 5 6 0 aC.length (.un 6))],30,none⟩),(5,⟨rows aC.length (Zz aC),68,some ⟨6,aC.length,(Zz aC)⟩⟩),(6,⟨[(.dat aD.length (Zz aD))],106,none⟩),(7,⟨[(ii aM)],3,none⟩),(8,⟨[(ii dY)],3,none⟩),(9,⟨[(ii aO),(ii aL)],110,none⟩),(10,⟨[(.sla 11 1 0 cQ (.un 1))],47,none⟩),(11,⟨rows cY.length (Zz cY),3,some ⟨1,cY.length,(Zz cY)⟩⟩),(12,(x3m l0)),(13,⟨[(ii 2)],3,none⟩)],14,[],true⟩,[⟨⟨63,0,true⟩,(Wd prog 121 [1,0,0,1,0,0,1,1,0] 12),(Zb prog 121 [1,0,0,1,0,0,1,1,0] 1),none,[],Yq [(0,(.yld 0)),(1,(.ptr 10 0)),(2,(.ptr 12 0)),(3,(.ptr 13 0)),(5,(ii cC)),(49,(.yld 0)),(59,(.agg [(ii aO),(ii aL)])),(60,(.dat bX.length (Zz bX)))]⟩,w1k],(z5j [(0,⟨.busy,none,99,Yq [(3,(.ptr 1 0)),(4,(.ptr 2 0)),(5,(.ptr 3 0)),(7,(.ptr 4 0)),(8,(.ptr 6 0)),(9,(.ptr 7 0)),(10,(.ptr 8 0))],[26,27],(Xd prog 36 [1,1,1,1,1,0,1,0,0]),(Xd prog 36 [1,1,1,1,1,0,1,0,1])⟩)])⟩
def innN0 :List (Option (List Nat)):=[some [2,3,4,7,12,13,14],some [3,4,5,7,8,9,10,23,24]]
def innM0 :List (Option (List Nat)):=[]
def u8t :List (Option (List Nat)):=[some [0,1,2,3,5],some [4,5,7]]
def u8u :List (Option (List Nat)):=[some [3,4,5,7,8,9,10],none,none,none,none,none,none,none,none,none,none,none,none]
def v7b :List (Option (List Nat)):=[some [0,1,2,3,5,6,17,18,19],some [4,5,7]]
def v7d :List (Option (List Nat)):=[some [3,4,5,7,8,9,10],none,none,none,none,none,none,none,none,none,none,none,none,none]
def v7a :List (Option (List Nat)):=[some [7,11,70,71,72],some [0,1,2,3,5,49,59,60],some [4,5,7]]
def v7c :List (Option (List Nat)):=[some [3,4,5,7,8,9,10],none,none,none,none,none,none,none,none,none,none,none,none,none]
def innN4 :List (Option (List Nat)):=[some [7,10,11,14],some [0,1,2,3,5,49,59,60],some [4,5,7]]
def innM4 :List (Option (List Nat)):=[some [3,4,5,7,8,9,10],none,none,none,none,none,none,none,none,none,none,none,none,none]
def Xb (l0:List R6) (x1:Int):innS→Xe innS
 | .h0 v14 aB=>(bif (decide (v14<(l0.length:Int))) then (bif ((decide (0≤v14∧v14<(l0.length:Int)))&&true) then (bif (Xm (rd l0 v14.toNat).c x1) then (bif (Xm (IntKind.wrap .i64 (0 - (rd l0 v14.toNat).c)) x1) then (bif (Xm (rd l0 v14.toNat).f x1) then (bif (Xm (IntKind.wrap .i64 (0 - (rd l0 v14.toNat).f)) x1) then (bif (Nat.beq 1 1&&((decide (0+aB.length=aB.length))&&decide ((aB.length+4+1)*(8+1)≤Un))) then (.to (.h0 (IntKind.wrap .i64 (v14+1)) (aB++[(Xp (rd l0 v14.toNat).c x1),(IntKind.wrap .i64 (0 - (Xp (IntKind.wrap .i64 (0 - (rd l0 v14.toNat).c)) x1))),(Xp (rd l0 v14.toNat).f x1),(IntKind.wrap .i64 (0 - (Xp (IntKind.wrap .i64 (0 - (rd l0 v14.toNat).f)) x1)))]))) else .stuck) else .stuck) else .stuck) else .stuck) else .stuck) else .stuck) else (bif (decide (aB.length<4611686018427387904)) then (bif (decide (aB.length=aB.length)) then (.to (.h1 1 ([]:List R6) ([]:List R4) 0 0 (v1z (Yp aB.length (cOf (Zz (Yh (Yp aB.length (cOf (Zz aB)))))))) (Xx (Yp aB.length (cOf (Zz (Yh (Yp aB.length (cOf (Zz aB)))))))))) else .stuck) else .stuck))
 | .h1 v5 aC bQ aD aM bA aQ=>(bif (decide (v5<((bA:Nat):Int))) then (.to (.h2 v5 ([]:List R6) 0 aC bQ aD aM bA aQ)) else (bif (decide ((aC.length:Int)>400)) then (.ret [.nils,(.int .i64 4)]) else (.ret [(.dat aC.length (Zz aC)),(.int .i64 0)])))
 | .h2 v5 v6 v19 aC bQ aD aM bA aQ=>(bif (decide (v19<(l0.length:Int))) then (bif ((decide (0≤v19∧v19<(l0.length:Int)))&&true) then (bif ((decide (0≤v5∧v5<((bA:Nat):Int)))&&true) then (bif (decide ((0+v5.toNat)<aQ.length)) then (bif (decide ((rd l0 v19.toNat).c <(rd aQ (0+v5.toNat)))) then (bif ((decide (0≤(IntKind.wrap .i64 (v5 - 1))∧(IntKind.wrap .i64 (v5 - 1))<((bA:Nat):Int)))&&true) then (bif (decide ((0+(Int.toNat (IntKind.wrap .i64 (v5 - 1))))<aQ.length)) then (bif (decide ((rd aQ (0+(Int.toNat (IntKind.wrap .i64 (v5 - 1)))))<(rd l0 v19.toNat).f)) then (bif (Nat.beq 6 6&&((decide (0+v6.length=v6.length))&&decide ((v6.length+1+1)*(48+1)≤Un))) then (.to (.h2 v5 (v6++[(R6.mk (rd l0 v19.toNat).a (rd l0 v19.toNat).b (rd l0 v19.toNat).c (rd l0 v19.toNat).d (rd l0 v19.toNat).e (rd l0 v19.toNat).f)]) (IntKind.wrap .i64 (v19+1)) aC bQ aD aM bA aQ)) else .stuck) else (.to (.h2 v5 v6 (IntKind.wrap .i64 (v19+1)) aC bQ aD aM bA aQ))) else .stuck) else .stuck) else (.to (.h2 v5 v6 (IntKind.wrap .i64 (v19+1)) aC bQ aD aM bA aQ))) else .stuck) else .stuck) else .stuck) else (bif ((decide (0≤(IntKind.wrap .i64 (v5 - 1))∧(IntKind.wrap .i64 (v5 - 1))<((bA:Nat):Int)))&&true) then (bif (decide ((0+(Int.toNat (IntKind.wrap .i64 (v5 - 1))))<aQ.length)) then (bif ((decide (0≤v5∧v5<((bA:Nat):Int)))&&true) then (bif (decide ((0+v5.toNat)<aQ.length)) then (bif (z1l (cvT v6) (rd aQ (0+(Int.toNat (IntKind.wrap .i64 (v5 - 1))))) (rd aQ (0+v5.toNat)) x1) then (bif (decide ((((z1d (cvT v6) (rd aQ (0+(Int.toNat (IntKind.wrap .i64 (v5 - 1))))) (rd aQ (0+v5.toNat)) x1).length :Nat):Int)>400)) then (.ret [.nils,(.int .i64 4)]) else (bif (decide ((((z1d (cvT v6) (rd aQ (0+(Int.toNat (IntKind.wrap .i64 (v5 - 1))))) (rd aQ (0+v5.toNat)) x1).length :Nat):Int)>0)) then (bif (aM == (rd aQ (0+(Int.toNat (IntKind.wrap .i64 (v5 - 1)))))) then (bif (Xg (cvT bQ) (cvT (z1d (cvT v6) (rd aQ (0+(Int.toNat (IntKind.wrap .i64 (v5 - 1))))) (rd aQ (0+v5.toNat)) x1))) then (bif (Vw (cvT bQ) (cvT (z1d (cvT v6) (rd aQ (0+(Int.toNat (IntKind.wrap .i64 (v5 - 1))))) (rd aQ (0+v5.toNat)) x1))) then (.to (.h4 aD v5 (rd aQ (0+(Int.toNat (IntKind.wrap .i64 (v5 - 1))))) (rd aQ (0+v5.toNat)) v6 aC bQ aD aM bA aQ)) else (.to (.h3 (z1d (cvT v6) (rd aQ (0+(Int.toNat (IntKind.wrap .i64 (v5 - 1))))) (rd aQ (0+v5.toNat)) x1) (((z1d (cvT v6) (rd aQ (0+(Int.toNat (IntKind.wrap .i64 (v5 - 1))))) (rd aQ (0+v5.toNat)) x1).length :Nat):Int) 0 v5 (rd aQ (0+(Int.toNat (IntKind.wrap .i64 (v5 - 1))))) (rd aQ (0+v5.toNat)) v6 aC (aC.length:Int) bA aQ))) else .stuck) else (.to (.h3 (z1d (cvT v6) (rd aQ (0+(Int.toNat (IntKind.wrap .i64 (v5 - 1))))) (rd aQ (0+v5.toNat)) x1) (((z1d (cvT v6) (rd aQ (0+(Int.toNat (IntKind.wrap .i64 (v5 - 1))))) (rd aQ (0+v5.toNat)) x1).length :Nat):Int) 0 v5 (rd aQ (0+(Int.toNat (IntKind.wrap .i64 (v5 - 1))))) (rd aQ (0+v5.toNat)) v6 aC (aC.length:Int) bA aQ))) else (.to (.h3 (z1d (cvT v6) (rd aQ (0+(Int.toNat (IntKind.wrap .i64 (v5 - 1))))) (rd aQ (0+v5.toNat)) x1) (((z1d (cvT v6) (rd aQ (0+(Int.toNat (IntKind.wrap .i64 (v5 - 1))))) (rd aQ (0+v5.toNat)) x1).length :Nat):Int) 0 v5 (rd aQ (0+(Int.toNat (IntKind.wrap .i64 (v5 - 1))))) (rd aQ (0+v5.toNat)) v6 aC (aC.length:Int) bA aQ)))) else .stuck) else .stuck) else .stuck) else .stuck) else .stuck))
 | .h3 v70 v71 v72 cC aO aL bX aC aD cG cH=>(bif (decide (v72<v71)) then (bif ((decide (0≤v72∧v72<(v70.length:Int)))&&true) then (bif (Nat.beq 6 6&&((decide (0+aC.length=aC.length))&&decide ((aC.length+1+1)*(48+1)≤Un))) then (.to (.h3 v70 v71 (IntKind.wrap .i64 (v72+1)) cC aO aL bX (aC++[(R6.mk (rd v70 v72.toNat).a (rd v70 v72.toNat).b aO (rd v70 v72.toNat).c (rd v70 v72.toNat).d aL)]) aD cG cH)) else .stuck) else .stuck) else (.to (.h1 (IntKind.wrap .i64 (cC+1)) aC v70 aD aL cG cH)))
 | .h4 v14 cC aO aL bX aC aD aM dY cQ cY=>(bif (decide (v14<(aC.length:Int))) then (bif ((decide (0≤v14∧v14<(aC.length:Int)))&&true) then (bif (decide ((0+v14.toNat)<aC.length)) then (.to (.h4 (IntKind.wrap .i64 (v14+1)) cC aO aL bX (aC.set (0+v14.toNat) (R6.mk (rd aC (0+v14.toNat)).a (rd aC (0+v14.toNat)).b (rd aC (0+v14.toNat)).c (rd aC (0+v14.toNat)).d (rd aC (0+v14.toNat)).e aL)) aD aM dY cQ cY)) else .stuck) else .stuck) else (.to (.h1 (IntKind.wrap .i64 (cC+1)) aC aD aM aL cQ cY)))
def y2d (l0:List R6) (x1:Int):Xe innS:=(bif (Wg (cvT l0)) then (bif ((Zf (cvT l0)) != 0) then (.ret [.nils,(.int .i64 (Zf (cvT l0)))]) else (bif (decide (x1<1)) then (.ret [.nils,(.int .i64 2)]) else (bif (decide (x1>1000)) then (.ret [.nils,(.int .i64 2)]) else (.to (.h0 0 ([]:List Int)))))) else .stuck)
theorem w4e (l0:List R6) (x1:Int): ∀s,Xr prog (Zy prog 36) (innC l0 x1) (innC l0 x1 s) (Xb l0 x1 s)
 | .h0 v14 aB=>(lb (fun k0=>(lo fun o0=>(lo fun o1=>(lo fun o2=>(lo fun o3=>(lo fun o4=>(lo fun o5=>(sl z0d 45 [] ⟨[0,1,2,3,4,5,6,7,8,9,16],[],innN0,innM0⟩ ⟨[],[.keep,.keep,.cells [.len (y8i aB l0 v14 x1).length],.keep,.keep,.keep,.keep,.keep,.keep,.keep,.rowed 1 (y8i aB l0 v14 x1).length (Zz (y8i aB l0 v14 x1))],[]⟩ (trs 3 (bl 4 6)) (pp (xL (aB.length+4) (y8i aB l0 v14 x1).length) (pp (xL (aB.length+4) (y8i aB l0 v14 x1).length) (pp (xS (aB.length+4) (u3q aB l0 v14 x1) (Zz (y8i aB l0 v14 x1))) (pp (pp (xF (u3q aB l0 v14 x1)) nn) (ww o5 (ww o4 (ww o3 (ww o2 (ww o1 (ww o0 (tt k0 nn))))))))))))))))))) (fun k0=>(lo fun o0=>(lo fun o1=>(sl z0d 33 [(68,6,Zz ([]:List R6))] ⟨[11,3,4,5,6,7,8,9,2,10,0,1,12],[],u8t,u8u⟩ ⟨[],(kpB 4 [.cells [.grow 12 6],.cells [.list 0 (Zz ([]:List R4))],.keep,.keep,.keep,.rowed 1 (y8g aB).length (Zz (y8g aB)),.keep,.keep,.keep]),[]⟩ [false] (pp (xL aB.length (y8g aB).length (by first | exact Qz _ _ | exact Vu rfl)) (pp (xS aB.length (Zz (y8g aB)) (Zz (y8g aB))) (pp (fl (y8g aB) (fl ([]:List R6) nn)) (pp (pp (xG (Nat.beq 1 1)) (pp (xG (Nat.beq 1 1)) (pp (xG (Nat.beq 0 0)) (pp (xG (decide (aB.length=aB.length))) (pp (xG (isI (Zz (Yh (Yp aB.length (cOf (Zz aB))))))) (xG (decide (aB.length<4611686018427387904)))))))) (pp (pp (xG (Nat.beq 1 1)) (pp (xG (Nat.beq 1 1)) (pp (xG (Nat.beq 0 0)) (pp (xG (decide (aB.length=aB.length))) (pp (xG (isI (Zz aB))) (xG (decide (aB.length<4611686018427387904)))))))) (tt k0 nn)))))))))))
 | .h1 v5 aC bQ aD aM bA aQ=>(lb (fun k0=>(sl z0d 25 [(68,6,Zz ([]:List R6))] ⟨[0,1,2,3,4,5,6,7,8,9,10,11,13,12],[],v7b,v7d⟩ ⟨[(6,.grow 12 6)],[],[]⟩ [true] (pp (fl aQ (fl ([]:List R6) (fl aC nn))) (tt k0 nn)))) (fun k0=>(lb (fun k1=>(z2h ⟨⟨99,0,true⟩,none,(Zb prog 36 [1,1,1,1,1,1,0,1,0,0] 1),none,(Zy prog 36),⟨Yq [(4,(.ptr 0 0)),(5,(.ptr 1 0))],Uv [⟨[.nils],30,none⟩,⟨[(ii 4)],24,none⟩] 0,2,[],true⟩,[],.leaf⟩ (sl z0d 26 [] ⟨[2,3],[],[some [4,5]],[]⟩ ⟨[],[],[]⟩ (bl 2 2) (tt k1 (tt k0 nn))) rfl (by kernel_rfl))) (fun k1=>(z2h ⟨⟨99,0,true⟩,none,(Zb prog 3 [1,1,1,1,1,1,0] 1),none,(Zy prog 36),⟨Yq [(4,(.ptr 0 0)),(5,(.ptr 1 0))],Uv [⟨[(.dat aC.length (Zz aC))],30,none⟩,⟨[(ii 0)],24,none⟩] 0,2,[],true⟩,[],.leaf⟩ (sl z0d 28 [] ⟨[2,3],[12],[some [4,5]],[]⟩ ⟨[],[.cells [.frz aC.length aC.length (Zz aC) (Zz aC)],.keep],[]⟩ (bl 2 0) (pp (xZ (z2u 6 6 0 aC.length aC.length (Zz aC)) aC.length (Zz aC)) (pp (xL aC.length aC.length) (pp (xS aC.length (Zz aC) (Zz aC)) (pp (fl aC nn) (tt k1 (tt k0 nn))))))) rfl (by kernel_rfl))))))
 | .h2 v5 v6 v19 aC bQ aD aM bA aQ=>(lb (fun k0=>(lo fun aJ=>(lo fun bJ=>(lo fun cJ=>(lb (fun k1=>(lo fun cK=>(lo fun dU=>(lb (fun k2=>(lo fun o0=>(sl z0d 70 [] ⟨[0,1,2,3,4,5,6,7,8,9,10,11,19,13],[],v7b,v7d⟩ ⟨[(6,.len (y8h v6 l0 v19).length)],(kpB 12 [.rowed 6 (y8h v6 l0 v19).length (Zz (y8h v6 l0 v19)),.keep]),[]⟩ (trs 3 (bl 12 4086)) (pp (xL (v6.length+1) (y8h v6 l0 v19).length) (pp (xL (v6.length+1) (y8h v6 l0 v19).length) (pp (xS (v6.length+1) (u3p v6 l0 v19) (Zz (y8h v6 l0 v19))) (pp (fl aQ (pp (xF (u3p v6 l0 v19)) (fl aC nn))) (ww o0 (tt k2 (ww dU (ww cK (tt k1 (ww cJ (ww bJ (ww aJ (tt k0 nn)))))))))))))))) (fun k2=>(sl z0d 64 [] ⟨(List.range 14),[],v7b,v7d⟩ ⟨[],[],[]⟩ (trs 3 (bl 12 2038)) (pp (fl aQ (fl v6 (fl aC nn))) (tt k2 (ww dU (ww cK (tt k1 (ww cJ (ww bJ (ww aJ (tt k0 nn))))))))))))))) (fun k1=>(sl z0d 64 [] ⟨(List.range 14),[],v7b,v7d⟩ ⟨[],[],[]⟩ (trs 3 (bl 12 6)) (pp (fl aQ (fl v6 (fl aC nn))) (tt k1 (ww cJ (ww bJ (ww aJ (tt k0 nn))))))))))))) (fun k0=>(lo fun q1_0=>(lo fun q1_1=>(lo fun q1_2=>(lo fun q1_3=>(Ww (sl z0d (C':=⟨⟨99,0,true⟩,(Wd prog 36 [1,1,1,1,1,0,1,0,1,0,0] 3),(Zb prog 36 [1,1,1,1,1,0,1,0,1,0,0] 1),(some 0),[],⟨Yq [(4,(.ptr 2 0)),(5,(.ptr 3 0)),(7,(.ptr 4 0)),(8,(.ptr 6 0)),(9,(.ptr 7 0)),(10,(.ptr 8 0)),(11,(.ptr 9 0)),(28,(.dat v6.length (Zz v6))),(29,(.agg [(ii (rd aQ (0+(tn (wr (v5 - 1)))))),(ii (rd aQ (0+(tn v5))))])),(30,(ii x1))],z0z [(1,⟨[(ii x1)],3,none⟩),(2,⟨[.nils],30,none⟩),(3,⟨[(ii 0)],24,none⟩),(4,⟨[(.sla 5 6 0 aC.length (.un 6))],30,none⟩),(5,⟨rows aC.length (Zz aC),68,some ⟨6,aC.length,(Zz aC)⟩⟩),(6,⟨[(.dat bQ.length (Zz bQ))],106,none⟩),(7,⟨[(ii aD)],3,none⟩),(8,⟨[(ii aM)],3,none⟩),(9,⟨[(ii (rd aQ (0+(tn (wr (v5 - 1)))))),(ii (rd aQ (0+(tn v5))))],110,none⟩),(10,⟨[(.sla 11 1 0 bA (.un 1))],47,none⟩),(11,⟨rows aQ.length (Zz aQ),3,some ⟨1,aQ.length,(Zz aQ)⟩⟩),(12,⟨[(.dat l0.length (Zz l0))],22,none⟩),(13,⟨[(ii 2)],3,none⟩)],14,[],true⟩,[⟨⟨63,0,true⟩,(Wd prog 121 [1,0,0,1,0,0,1,1,0] 12),(Zb prog 121 [1,0,0,1,0,0,1,1,0] 1),none,[],Yq [(0,(.yld 0)),(1,(.ptr 10 0)),(2,(.ptr 12 0)),(3,(.ptr 13 0)),(5,(ii v5)),(49,(.yld 0)),(59,(.agg [(ii (rd aQ (0+(tn (wr (v5 - 1)))))),(ii (rd aQ (0+(tn v5))))])),(60,(.dat v6.length (Zz v6)))]⟩,⟨⟨99,0,true⟩,none,(.inRangeFunc 0::(Zb prog 36 [1,1,1,1,1,0,1,0] 1)),none,(Zy prog 36),Yq [(4,(.ptr 2 0)),(5,(.ptr 3 0)),(7,(.ptr 4 0))]⟩],(z5j [(0,⟨.busy,none,99,Yq [(3,(.ptr 1 0)),(4,(.ptr 2 0)),(5,(.ptr 3 0)),(7,(.ptr 4 0)),(8,(.ptr 6 0)),(9,(.ptr 7 0)),(10,(.ptr 8 0))],[26,27],(Xd prog 36 [1,1,1,1,1,0,1,0,0]),(Xd prog 36 [1,1,1,1,1,0,1,0,1])⟩)])⟩) 25 [] ⟨[0,1,2,3,4,13,5,6,7,14,8,9,10,11],[12],[some [4,5,7,8,9,10,11,28,29,30],some [0,1,2,3,5,49,59,60],some [4,5,7]],[some [3,4,5,7,8,9,10],none,none,none,none,none,none,none,none,none,none,none,none,none]⟩ ⟨[(28,.frz v6.length v6.length (Zz v6) (Zz v6))],[],[[(60,.frz v6.length v6.length (Zz v6) (Zz v6))],[]]⟩ [false] (pp (xZ (z2u 6 6 0 v6.length v6.length (Zz v6)) v6.length (Zz v6)) (pp (xL v6.length v6.length) (pp (xS v6.length (Zz v6) (Zz v6)) (pp (xZ (z2u 6 6 0 v6.length v6.length (Zz v6)) v6.length (Zz v6)) (pp (xL v6.length v6.length) (pp (xS v6.length (Zz v6) (Zz v6)) (pp (fl aC (fl aQ nn)) (pp (fl v6 nn) (ww q1_3 (ww q1_2 (ww q1_1 (ww q1_0 (tt k0 nn)))))))))))))) (lo fun aJ=>(lb (fun k1=>(z2h ⟨⟨99,0,true⟩,none,(.code .ret ::(Zb prog 36 [1,1,1,1,1,0,1,0] 1)),none,(Zy prog 36),⟨Yq [(4,(.ptr 0 0)),(5,(.ptr 1 0))],Uv [⟨[.nils],30,none⟩,⟨[(ii 4)],24,none⟩] 0,2,[],true⟩,[],.leaf⟩ (sl z0d 22 [] ⟨[2,3],[],[some [4,5]],[]⟩ ⟨[],[],[]⟩ (bl 2 3) (tt k1 (pp (pp (xr v6) (xw aJ)) nn))) rfl (by kernel_rfl))) (fun k1=>(lb (fun k2=>(lb (fun k3=>(lo fun cM=>(lb (fun k4=>(sl z0d 39 [] ⟨(List.range 14),[],innN4,innM4⟩ ⟨[],[],[]⟩ (bl 9 510) (pp (fl aC (fl aQ nn)) (tt k4 (pp (pp (xr bQ) (pp (xI R4 (x0q v6 aQ v5 x1).length (Zz (x0q v6 aQ v5 x1))) (xw cM))) (tt k3 (tt k2 (tt k1 (pp (pp (xr v6) (xw aJ)) nn))))))))) (fun k4=>(sl z0d 42 [] ⟨[0,1,2,3,4,6,7,8,9,10,11,12,13,5],[],v7a,v7c⟩ ⟨[],[],[]⟩ (bl 9 254) (pp (fl aQ (fl aC nn)) (tt k4 (pp (pp (xr bQ) (pp (xI R4 (x0q v6 aQ v5 x1).length (Zz (x0q v6 aQ v5 x1))) (xw cM))) (tt k3 (tt k2 (tt k1 (pp (pp (xr v6) (xw aJ)) nn)))))))))))) (fun k3=>(sl z0d 42 [] ⟨[0,1,2,3,4,6,7,8,9,10,11,12,13,5],[],v7a,v7c⟩ ⟨[],[],[]⟩ (bl 9 30) (pp (fl aQ (fl aC nn)) (tt k3 (tt k2 (tt k1 (pp (pp (xr v6) (xw aJ)) nn))))))))) (fun k2=>(sl z0d 42 [] ⟨[0,1,2,3,4,6,7,8,9,10,11,12,13,5],[],v7a,v7c⟩ ⟨[],[],[]⟩ (bl 9 0) (pp (fl aQ (fl aC nn)) (tt k2 (tt k1 (pp (pp (xr v6) (xw aJ)) nn)))))))))))))))))
 | .h3 v70 v71 v72 cC aO aL bX aC aD cG cH=>(lb (fun k0=>(lo fun o0=>(lo fun o1=>(sl z0d 43 [] ⟨[0,1,2,3,4,5,6,7,8,9,10,11,12,16],[],v7a,v7c⟩ ⟨[],(kpB 4 [.cells [.len (y8f aC v70 v72 aO aL).length],.keep,.keep,.keep,.keep,.keep,.keep,.keep,.keep,.rowed 6 (y8f aC v70 v72 aO aL).length (Zz (y8f aC v70 v72 aO aL))]),[]⟩ [true] (pp (xL (aC.length+1) (y8f aC v70 v72 aO aL).length) (pp (xL (aC.length+1) (y8f aC v70 v72 aO aL).length) (pp (xS (aC.length+1) (Zt (Zz aC) 0 aC.length 6 [(ii (rd v70 (tn v72)).a),(ii (rd v70 (tn v72)).b),(ii aO),(ii (rd v70 (tn v72)).c),(ii (rd v70 (tn v72)).d),(ii aL)]) (Zz (y8f aC v70 v72 aO aL))) (pp (fl cH (pp (xF (Zt (Zz aC) 0 aC.length 6 [(ii (rd v70 (tn v72)).a),(ii (rd v70 (tn v72)).b),(ii aO),(ii (rd v70 (tn v72)).c),(ii (rd v70 (tn v72)).d),(ii aL)])) nn)) (ww o1 (ww o0 (tt k0 nn))))))))))) (fun k0=>(sl z0d 20 [] ⟨[0,1,2,3,4,5,6,7,9,10,11,12,13],[],u8t,u8u⟩ ⟨[],[],[]⟩ (bl 2 0) (pp (fl cH (fl aC nn)) (tt k0 nn)))))
 | .h4 v14 cC aO aL bX aC aD aM dY cQ cY=>(lb (fun k0=>(lo fun o0=>(lo fun o1=>(sl z0d 29 [] ⟨(List.range 14),[],innN4,innM4⟩ ⟨[],(kpB 4 [.cells [.len (y8j aC v14 aL).length],.rowed 6 (y8j aC v14 aL).length (Zz (y8j aC v14 aL)),.keep,.keep,.keep,.keep,.keep,.keep,.keep,.keep]),[]⟩ [true] (pp (xL aC.length (y8j aC v14 aL).length) (pp (xL aC.length (y8j aC v14 aL).length) (pp (xS aC.length (Xj (Zz aC) (0+(tn v14)) 5 [(ii aL)]) (Zz (y8j aC v14 aL))) (pp (pp (xF (Xj (Zz aC) (0+(tn v14)) 5 [(ii aL)])) (fl cY nn)) (ww o1 (ww o0 (tt k0 nn))))))))))) (fun k0=>(sl z0d 29 [] ⟨[0,1,2,3,4,6,7,8,10,11,12,13,5],[],u8t,u8u⟩ ⟨[],[],[]⟩ (bl 2 0) (pp (fl cY (fl aC nn)) (tt k0 nn)))))
theorem x7l (l0:List R6) (x1:Int):Xr prog (Zy prog 36) (innC l0 x1) (Zi prog 36 [(.dat l0.length (Zz l0)),(.int .i64 x1)] true []) (y2d l0 x1):=(lo fun bO=>(lb (fun k0=>(z2h ⟨⟨99,0,true⟩,none,(Zb prog 36 [1,0,1,1,0,0] 1),none,(Zy prog 36),⟨Yq [(4,(.ptr 0 0)),(5,(.ptr 1 0))],Uv [⟨[.nils],30,none⟩,⟨[(ii (Zf (cvT l0)))],24,none⟩] 0,2,[],true⟩,[],.leaf⟩ (sl z0d 49 [] ⟨[1,2],[],[some [4,5]],[]⟩ ⟨[],[],[]⟩ [true,true] (tt k0 (tt k0 (pp (pp (xr l0) (xw bO)) nn)))) rfl (by kernel_rfl))) (fun k0=>(lb (fun k1=>(z2h ⟨⟨99,0,true⟩,none,(Zb prog 36 [1,0,1,1,0,0] 1),none,(Zy prog 36),⟨Yq [(4,(.ptr 0 0)),(5,(.ptr 1 0))],Uv [⟨[.nils],30,none⟩,⟨[(ii 2)],24,none⟩] 0,2,[],true⟩,[],.leaf⟩ (sl z0d 60 [] ⟨[1,2],[],[some [4,5]],[]⟩ ⟨[],[],[]⟩ [false,true,true,true,true] (tt k1 (tt k0 (pp (pp (xr l0) (xw bO)) nn)))) rfl (by kernel_rfl))) (fun k1=>(lb (fun k2=>(z2h ⟨⟨99,0,true⟩,none,(Zb prog 36 [1,0,1,1,0,0] 1),none,(Zy prog 36),⟨Yq [(4,(.ptr 0 0)),(5,(.ptr 1 0))],Uv [⟨[.nils],30,none⟩,⟨[(ii 2)],24,none⟩] 0,2,[],true⟩,[],.leaf⟩ (sl z0d 60 [] ⟨[1,2],[],[some [4,5]],[]⟩ ⟨[],[],[]⟩ [false,false,false,true,true] (tt k2 (tt k1 (tt k0 (pp (pp (xr l0) (xw bO)) nn))))) rfl (by kernel_rfl))) (fun k2=>(sl z0d 96 [(3,1,Zz ([]:List Int))] ⟨[7,8,9,0,1,2,3,4,5,6,10],[],innN0,innM0⟩ ⟨[],[.keep,.keep,.cells [.grow 10 1],.keep,.keep,.keep,.keep,.keep,.keep,.keep,.keep],[]⟩ [false,false,false,false,false] (pp (fl ([]:List Int) nn) (tt k2 (tt k1 (tt k0 (pp (pp (xr l0) (xw bO)) nn)))))))))))))
theorem v6z (l0:List R6) (x1:Int) (n:Nat) (vs:List AVal) (h:Yj (Xb l0 x1) n (y2d l0 x1)=.ret vs):Kg prog (Zy prog 36) (Zi prog 36 [(.dat l0.length (Zz l0)),(.int .i64 x1)] true []) vs:=by have:=Yw (w4e l0 x1) n _ (x7l l0 x1);rwa [h] at this
end Go.Am
end
