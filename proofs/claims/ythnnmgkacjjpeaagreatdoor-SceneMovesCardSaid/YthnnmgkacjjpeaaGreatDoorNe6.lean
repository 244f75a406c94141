/- A part of a proof: several texts in one. -/
import Derived.Test.YthnnmgkacjjpeaaGreatDoorNe5
set_option maxRecDepth 1000000
set_option maxHeartbeats 8000000
set_option linter.unusedVariables false
set_option linter.unusedSimpArgs false
noncomputable section
namespace Go.Am
open IntKind (wrap)
open Go.Proofs Go.Sort Go.Shelf Go.RowKit Go.Lib
def Dr (k:Nat) (a b:Bool):Bool:=match k with
 | 0=>a||b
 | 1=>a&&b
 | _=>a&& !b
theorem u9y (k:Nat):Dr k false false=false:=by
 match k with
 | 0=>rfl
 | 1=>rfl
 | _+2=>rfl
def Vv (i:Int) (l:zp):zo:=l.flatMap fun s=>[⟨s.a,i,1⟩,⟨s.b,i,-1⟩]
def Cu (i:Int) (E:zo) (y:Int):Int:=(E.map fun e=>if e.b=i/\e.a<=y then e.c else 0).sum
theorem Qt (i:Int) (e:R3) (E:zo) (y:Int):Cu i (e::E) y=(if e.b=i/\e.a<=y then e.c else 0)+Cu i E y:=by simp [Cu]
theorem y7b (i:Int) (E F:zo) (y:Int):Cu i (E++F) y=Cu i E y+Cu i F y:=by simp [Cu]
theorem x6k (i:Int) {E F:zo} (h:E.Perm F) (y:Int):Cu i E y=Cu i F y:=by
 induction h with
 | nil=>rfl
 | cons e _ ih=>rw [Qt,Qt,ih]
 | swap a b l=>simp only [Qt];omega
 | trans _ _ i1 i2=>rw [i1,i2]
theorem v6l (i:Int) (E:zo) (y:Int) (h: ∀e∈E,y<e.a):Cu i E y=0:=by
 induction E with
 | nil=>rfl
 | cons e E ih=>
  grind [Qt]
theorem v6m (i:Int) (l:zp) (hv: ∀s∈l,s.a<s.b) (y:Int):0<=Cu i (Vv i l) y/\(0<Cu i (Vv i l) y↔pt l y):=by
 induction l with
 | nil=>grind [Cu,Vv,pt]
 | cons s l ih=>
  obtain ⟨i1,i2⟩:=ih fun t ht=>hv t (by simp [ht]);have hs:=hv s (by simp);have e:Cu i (Vv i (s::l)) y=(if s.a<=y/\y<s.b then 1 else 0)+Cu i (Vv i l) y:=by
   grind [Vv,Qt]
  rw [e];by_cases h:s.a<=y/\y<s.b
  .rw [AF h];exact ⟨by omega,⟨fun _=>⟨s,by simp,h⟩,fun _=>by omega⟩⟩
  .rw [Az h];refine ⟨by omega,?_⟩;rw [Int.zero_add,i2];constructor
   .rintro ⟨t,ht,h2⟩;exact ⟨t,by simp [ht],h2⟩
   .rintro ⟨t,ht,h2⟩;rcases AN.1 ht with rfl | ht
    .grind
    .exact ⟨t,ht,h2⟩
theorem x1b (i j:Int) (hij:i≠j) (l:zp) (y:Int):Cu i (Vv j l) y=0:=by
 induction l with
 | nil=>rfl
 | cons s l ih=>
  show Cu i (⟨s.a,j,1⟩::⟨s.b,j,-1⟩::Vv j l) y=0
  grind [Qt]
def Dv (f:Bool->Bool->Bool):zo->Int->Int->Int->Bool->zp->zp
 | [],_,_,_,_,out=>out
 | e::r,o,p,last,inn,out=>
  Dv f r (bif e.b == 0 then o+e.c else o) (bif e.b == 0 then p else p+e.c) e.a (f (decide ((bif e.b == 0 then o+e.c else o)>0)) (decide ((bif e.b == 0 then p else p+e.c)>0))) (Us out last inn e.a)
def Two (E:zo):Prop:= ∀e∈E,e.b=0\/e.b=1
theorem v3h (f:Bool->Bool->Bool): ∀(E:zo) (o p last:Int) (out:zp),Asc E->Two E->(∀e∈E,last<=e.a)->DD out->(∀s∈out,s.b<=last)->
  DD (Dv f E o p last (f (decide (o>0)) (decide (p>0))) out)/\ ∀y,pt (Dv f E o p last (f (decide (o>0)) (decide (p>0))) out) y↔pt out y\/(last<=y/\f (decide (o+Cu 0 E y>0)) (decide (p+Cu 1 E y>0))=true/\ ∃e∈E,y<e.a)
 | [],o,p,last,out,_,_,_,hc,_=>⟨hc,fun y=>⟨.inl,fun h=>h.elim id fun ⟨_,_,e,he,_⟩=>by cases he⟩⟩
 | e ::r,o,p,last,out,hE,ht,hl,hc,hb=>by
  have he:=hl e (by simp);have hr:=A5.1 hE;obtain ⟨p1,p2,p3⟩:=x1v (f (decide (o>0)) (decide (p>0))) hc hb he;have hz: ∀y,y<e.a-> ∀i,Cu i (e::r) y=0:=fun y hy i=>v6l i _ _ fun g hg=>by
   grind
  have main: ∀(o' p':Int),(∀y,e.a<=y->o'+Cu 0 r y=o+Cu 0 (e::r) y/\p'+Cu 1 r y=p+Cu 1 (e::r) y)->
    DD (Dv f r o' p' e.a (f (decide (o'>0)) (decide (p'>0))) (Us out last (f (decide (o>0)) (decide (p>0))) e.a))/\
    ∀y,pt (Dv f r o' p' e.a (f (decide (o'>0)) (decide (p'>0))) (Us out last (f (decide (o>0)) (decide (p>0))) e.a)) y↔pt out y\/(last<=y/\f (decide (o+Cu 0 (e::r) y>0)) (decide (p+Cu 1 (e::r) y>0))=true/\ ∃g∈e::r,y<g.a):=fun o' p' hop=>by
   obtain ⟨q1,q2⟩:=v3h f r o' p' e.a (Us out last (f (decide (o>0)) (decide (p>0))) e.a) hr.2 (fun g hg=>ht g (by simp [hg])) hr.1 p1 p2;refine ⟨q1,fun y=> ?_⟩;rw [q2,p3];constructor
   .rintro ((h | ⟨h1,h2,h3⟩) | ⟨h1,h2,g,hg,h3⟩)
    .exact .inl h
    .simp_all
    .refine .inr ⟨by omega,?_,g,by simp [hg],h3⟩;simp_all
   .rintro (h | ⟨h1,h2,g,hg,h3⟩)
    .grind
    .by_cases hy:e.a<=y
     .right;obtain ⟨e1,e2⟩:=hop y hy;refine ⟨hy,by simp_all,g,?_,h3⟩
      grind
     simp_all
  show DD (Dv f r _ _ _ _ _)/\ ∀y,pt (Dv f r _ _ _ _ _) y↔_;rcases ht e (by simp) with h0 | h0
  .have hb0:(e.b == 0)=true:=by rw [h0];rfl
   rw [hb0,Ab,Ab];refine main _ _ fun y hy=>⟨?_,?_⟩
   all_goals grind [Qt]
  .have hb0:(e.b == 0)=false:=by rw [h0];rfl
   rw [hb0,Aa,Aa];refine main _ _ fun y hy=>⟨?_,?_⟩
   all_goals grind [Qt]
instance ptDec (l:zp) (y:Int):Decidable (pt l y):=Classical.propDecidable _
theorem j2i (f:Bool->Bool->Bool) (hf:f false false=false) (a b:zp) (ha: ∀s∈a,s.a<s.b) (hb: ∀s∈b,s.a<s.b) (E:zo) (hp:E.Perm (Vv 0 a++Vv 1 b)) (hE:Asc E):
  DD (Dv f E 0 0 0 false [])/\ ∀y,pt (Dv f E 0 0 0 false []) y↔f (decide (pt a y)) (decide (pt b y))=true:=by
 have hn: ∀y,Cu 0 E y=Cu 0 (Vv 0 a) y/\Cu 1 E y=Cu 1 (Vv 1 b) y:=fun y=>by rw [x6k 0 hp,x6k 1 hp,y7b,y7b,x1b 0 1 (by decide),x1b 1 0 (by decide)];omega
 have hd: ∀y,decide (Cu 0 E y>0)=decide (pt a y)/\decide (Cu 1 E y>0)=decide (pt b y):=fun y=>by simp_all [v6m]
 have ht:Two E:=fun e he=>by
  rcases AJ.1 (hp.mem_iff.1 he) with h | h
  .obtain ⟨s,_,h⟩:=AM.1 h
   grind
  .obtain ⟨s,_,h⟩:=AM.1 h
   grind
 have cover: ∀y,f (decide (pt a y)) (decide (pt b y))=true-> ∃e∈E,y<e.a/\ ∃g∈E,g.a<=y:=fun y hy=>by
  by_cases h1:pt a y
  .obtain ⟨s,hs,s1,s2⟩:=h1;exact ⟨⟨s.b,0,-1⟩,hp.mem_iff.2 (AJ.2 (.inl (AM.2 ⟨s,hs,by simp⟩))),s2,⟨s.a,0,1⟩,hp.mem_iff.2 (AJ.2 (.inl (AM.2 ⟨s,hs,by simp⟩))),s1⟩
  .by_cases h2:pt b y
   .obtain ⟨s,hs,s1,s2⟩:=h2;exact ⟨⟨s.b,1,-1⟩,hp.mem_iff.2 (AJ.2 (.inr (AM.2 ⟨s,hs,by simp⟩))),s2,⟨s.a,1,1⟩,hp.mem_iff.2 (AJ.2 (.inr (AM.2 ⟨s,hs,by simp⟩))),s1⟩
   grind
 cases E with
 | nil=>
  refine ⟨.nil,fun y=>⟨fun ⟨s,hs,_⟩=>(by cases hs),fun hy=> ?_⟩⟩
  grind
 | cons e r=>
  have hr:=A5.1 hE;have hz0:f (decide ((0:Int)>0)) (decide ((0:Int)>0))=false:=hf;have e0:Dv f (e::r) 0 0 0 false []=Dv f (e::r) 0 0 e.a (f (decide ((0:Int)>0)) (decide ((0:Int)>0))) []:=by
   grind [Dv,Us]
  rw [e0];obtain ⟨q1,q2⟩:=v3h f (e::r) 0 0 e.a [] hE ht (fun g hg=>by
   grind) .nil (by simp)
  refine ⟨q1,fun y=> ?_⟩;rw [q2,Int.zero_add,Int.zero_add,(hd y).1,(hd y).2];constructor
  .rintro (⟨s,hs,_⟩ | ⟨_,h2,_⟩);all_goals grind
  grind
def GV :Nat->Nat
 | 0=>0
 | k+1=>GV k+k
theorem v3f : ∀n,GV (n+1)+GV n=n*n
 | 0=>rfl
 | n+1=>by have:=v3f n;show GV (n+1)+(n+1)+(GV n+n)=(n+1)*(n+1);rw [AS,Nat.mul_add];omega
def Dz (n:Nat):Nat->Nat
 | 0=>0
 | v+1=>Dz n v+min v (2*n - v)
theorem v7q (n:Nat): ∀v,v<=n+1->Dz n v=GV v
 | 0,_=>rfl
 | v+1,h=>by show Dz n v+min v (2*n - v)=GV v+v;rw [v7q n v (by omega)];omega
theorem XD (n:Nat): ∀j,j<=n->Dz n (n+1+j)+GV (n - j)=n*n
 | 0,_=>by grind [v7q,v3f]
 | j+1,h=>by
  have:=XD n j (by omega);show Dz n (n+1+j)+min (n+1+j) (2*n - (n+1+j))+GV (n - (j+1))=_;have e:GV (n - j)=GV (n - (j+1))+(n - (j+1)):=by rw [show n - j=(n - (j+1))+1 by omega];rfl
  omega
theorem On (n v:Nat):Dz n v<=n*n:=by
 by_cases h1:v<=2*n+1
 .by_cases h2:v<=n+1
  .have h3:=XD n 0 (AA _);have mono: ∀k v,Dz n v<=Dz n (v+k):=fun k v=>by
    induction k with
    | zero=>grind
    | succ k ih=>exact AI ih (B8 _ _)
   have:=mono (n+1 - v) v
   grind
  .have:=XD n (v - (n+1)) (by omega)
   grind
 .have h3:Dz n (2*n+1)<=n*n:=by
   have:=XD n n (Aq _)
   grind
  have: ∀k,Dz n (2*n+1+k)=Dz n (2*n+1):=fun k=>by
   induction k with
   | zero=>rfl
   | succ k ih=>
    grind [Dz]
  have h4:=this (v - (2*n+1))
  grind
theorem w6t (n:Nat) (E:Nat->Nat): ∀k,(∀i,i+1<k->E i<E (i+1))->((List.range k).map fun i=>min (E i) (2*n - E i)).sum <=(match k with | 0=>0 | k+1=>Dz n (E k+1))
 | 0,_=>Aq _
 | k+1,h=>by
  rw [Bw,BC,List.sum_append];have ih:=w6t n E k fun i hi=>h i (by omega);have mono: ∀k v,Dz n v<=Dz n (v+k):=fun k v=>by
   induction k with
   | zero=>grind
   | succ k ih=>exact AI ih (B8 _ _)
  simp only [AT,BL,List.sum_cons,List.sum_nil,Bo];show _<=Dz n (E k)+min (E k) (2*n - E k);cases k with
  | zero=>
   grind
  | succ k=>
   have h1:=h k (by omega);have h2:=mono (E (k+1) - (E k+1)) (E k+1)
   grind
def E5 (p:Int->Bool) (l:zq):Nat:=(l.filter p).length
theorem YJ (p:Int->Bool) (x:Int) (l:zq):E5 p (x::l)=(if p x=true then 1 else 0)+E5 p l:=by
 grind [E5]
theorem j9m (p:Int->Bool) (l:zq):E5 p l<=l.length:=List.length_filter_le _ _
theorem v9f {p q:Int->Bool} (h: ∀x,p x=true->q x=true) (l:zq):E5 p l<=E5 q l:=by
 induction l with
 | nil=>exact Aq _
 | cons x l ih=>
  grind [YJ]
theorem j9l {p q:Int->Bool} (h: ∀x,p x=true->q x=true) {l:zq} {y:Int} (hy:y∈l) (hq:q y=true) (hp:p y=false):E5 p l<E5 q l:=by
 induction l with
 | nil=>cases hy
 | cons x l ih=>
  rw [YJ,YJ];rcases AN.1 hy with rfl | hy
  .have:=v9f h l
   grind
  grind
namespace CM
variable {α β:Type} {D:CM α β}
theorem inn_min (l:List α) (x:Int) (hv: ∀r∈l,D.lo r<D.hi r):(D.inn l x).length <=min (E5 (fun y=>decide (y<=x)) (D.ends l)) (2*l.length - E5 (fun y=>decide (y<=x)) (D.ends l)):=by
 induction l with
 | nil=>exact AA _
 | cons r l ih=>
  have ih:=ih fun s hs=>hv s (by simp [hs]);have hr:=hv r (by simp);have hc:=j9m (fun y=>decide (y<=x)) (D.ends l);rw [D.ends_length] at hc;have e:E5 (fun y=>decide (y<=x)) (D.ends (r::l))=(if D.lo r<=x then 1 else 0)+((if D.hi r<=x then 1 else 0)+E5 (fun y=>decide (y<=x)) (D.ends l)):=by
   show E5 _ (D.lo r::D.hi r::D.ends l)=_
   grind [YJ]
  grind [inn]
theorem open_sum (l:List α) (hv: ∀r∈l,D.lo r<D.hi r): ∀k,k<=(D.cuts l).length ->((List.range k).map fun i=>(D.inn l (rd (D.cuts l) i)).length).sum <=l.length*l.length:=fun k hk=>by
 have hc:(D.cuts l).Pairwise (· < ·):=by show (Kr (D.ends l)).Pairwise (· < ·);rw [Fi];exact (Vi _).1
 have hm: ∀i,i<(D.cuts l).length ->rd (D.cuts l) i∈D.ends l:=fun i hi=>by
  have:rd (D.cuts l) i∈Kr (D.ends l):=by rw [Xm hi];exact AU hi
  grind [Fi,Vi]
 have h1:((List.range k).map fun i=>(D.inn l (rd (D.cuts l) i)).length).sum <=((List.range k).map fun i=>min (E5 (fun y=>decide (y<=rd (D.cuts l) i)) (D.ends l)) (2*l.length - E5 (fun y=>decide (y<=rd (D.cuts l) i)) (D.ends l))).sum :=by
  induction k with
  | zero=>grind
  | succ k ih=>
   rw [Bw,BC,BC,List.sum_append,List.sum_append];have:=ih (by omega);have h2:=D.inn_min l (rd (D.cuts l) k) hv
   grind
 refine AI h1 ?_;have h2:=w6t l.length (fun i=>E5 (fun y=>decide (y<=rd (D.cuts l) i)) (D.ends l)) k fun i hi=>by
  have hlt:=H1 hc (show i<i+1 by omega) (show i+1<_ by omega);refine j9l (fun x hx=> ?_) (hm (i+1) (by omega)) (Af (A3 _)) (An (by omega))
  grind
 grind [On]
theorem goS_length (sec:Int->List β) (cs:zq): ∀(k i:Nat) (s:Sw α β),(D.goS sec cs k i s).out.length <=s.out.length+((List.range k).map fun j=>(sec (rd cs (i+j))).length).sum
 | 0,i,s=>Aq _
 | k+1,i,s=>by
  have h1:=goS_length sec cs k (i+1) (D.oneS (sec (rd cs i)) (rd cs i) (rd cs (i+1)) s);have h2:(D.oneS (sec (rd cs i)) (rd cs i) (rd cs (i+1)) s).out.length <=s.out.length+(sec (rd cs i)).length :=by
   unfold oneS;cases (decide (0<(sec (rd cs i)).length)&&((s.fin == rd cs i)&&D.same s.last (sec (rd cs i)))) with
   | true=>rw [Ab,D.grow_length];omega
   | false=>rw [Aa];simp
  rw [List.range_succ_eq_map,AT,BW,List.sum_cons,show rd cs (i+0)=rd cs i from rfl];have e:((fun j=>(sec (rd cs (i+j))).length)∘Nat.succ)=fun j=>(sec (rd cs (i+1+j))).length :=by
   funext j;simp only [Function.comp];rw [show i+j.succ=i+1+j by omega]
  rw [e];show (D.goS sec cs k (i+1) _).out.length <=_;omega
theorem goJ_length (a b:List α) (J:List β->List β->List β) (hJ: ∀x,(J (D.inn a x) (D.inn b x)).length <=(D.inn a x).length +(D.inn b x).length) (hv: ∀r∈a++b,D.lo r<D.hi r):
  (D.goS (fun x=>J (D.inn a x) (D.inn b x)) (D.cuts (a++b)) ((D.cuts (a++b)).length - 1) 0 ⟨[],[],0,0⟩).out.length <=(a.length+b.length)*(a.length+b.length):=by
 have h1:=D.goS_length (fun x=>J (D.inn a x) (D.inn b x)) (D.cuts (a++b)) ((D.cuts (a++b)).length - 1) 0 ⟨[],[],0,0⟩;have h2:=D.open_sum (a++b) hv ((D.cuts (a++b)).length - 1) (Nat.sub_le _ _);rw [AO] at h2;refine AI h1 (AI ?_ h2);simp only [List.length_nil,Ah];generalize (D.cuts (a++b)).length - 1=k
 induction k with
 | zero=>grind
 | succ k ih=>rw [Bw,BC,BC,List.sum_append,List.sum_append];have:=hJ (rd (D.cuts (a++b)) k);simp only [AT,BL,List.sum_cons,List.sum_nil];rw [D.inn_append,AO];omega
end CM
open Go.Proofs Go.Sort Go.Shelf Go.RowKit Go.Lib
def ET (k:Nat) (a b:zp):zp:=Dv (Dr k) (Ck (Vv 0 a++Vv 1 b)) 0 0 0 false []
theorem x7e (i:Int) (l:zp) (hv:l.all Ca=true):DS (Vv i l)=true:=As.2 fun e he=>by obtain ⟨s,hs,h1⟩:=AM.1 he;have hv:=As.1 hv s hs;simp only [Ca,Ac,Ao] at hv;simp only [AN,List.not_mem_nil,or_false] at h1;rcases h1 with rfl | rfl <;> exact Af (by grind)
theorem w4q {l:zp} (hv:l.all Ca=true): ∀s∈l,s.a<s.b:=fun s hs=>by
 grind [Ca]
theorem v3s (k:Nat) {a b:zp} (ha:a.all Ca=true) (hb:b.all Ca=true):Eb.can (ET k a b)/\ ∀y,CQ Eb.inB (ET k a b) y↔Dr k (decide (pt a y)) (decide (pt b y))=true:=by
 have hbnd:DS (Vv 0 a++Vv 1 b)=true:=by
  grind [x7e,DS]
 obtain ⟨hp,_⟩:=Qo _ hbnd;exact j2i (Dr k) (u9y k) a b (w4q ha) (w4q hb) _ hp (w4y _ hbnd)
theorem w5z : ∀(l S:zq),l.Pairwise (· < ·)->(∀x∈l,x∈S)->l.length<=S.length
 | [],S,_,_=>AA _
 | x::l,S,h,hs=>by
  obtain ⟨h1,h2⟩:=A5.1 h;have hx:=hs x (by simp);have:=w5z l (S.erase x) h2 fun y hy=>(List.mem_erase_of_ne (by grind)).2 (hs y (by simp [hy]))
  grind
def JO (L:zp):zq:=L.flatMap fun s=>[s.a,s.b]
theorem y3p (L:zp):(JO L).length =2*L.length:=by
 induction L with
 | nil=>rfl
 | cons r l ih=>grind [JO]
theorem v9l {L:zp} (h:DD L):(JO L).Pairwise (· < ·):=by
 induction L with
 | nil=>exact .nil
 | cons s L ih=>
  have hp:=h.pos s (by simp);have hn: ∀y∈JO L,s.b<y:=fun y hy=>by
   obtain ⟨t,ht,h1⟩:=AM.1 hy;have:=h.head t ht;have:=h.pos t (by simp [ht])
   grind
  show (s.a::s.b::JO L).Pairwise (· < ·);refine A5.2 ⟨fun y hy=> ?_,A5.2 ⟨hn,ih h.tail⟩⟩
  grind
theorem v1y {L:zp} (h:DD L) (S:zq) (hS: ∀y,y ∉ S->(pt L (y - 1)↔pt L y)):2*L.length<=S.length:=by
 rw [<-y3p];refine w5z _ S (v9l h) fun y hy=>A9 fun hn=> ?_;obtain ⟨s,hs,h1⟩:=AM.1 hy;have hp:=h.pos s hs;have sepL: ∀t∈L,t=s\/t.b<s.a\/s.b<t.a:=fun t ht=>by
  obtain ⟨i,hi,ei⟩:=AQ hs;obtain ⟨j,hj,ej⟩:=AQ ht;have pw:=Br.1 h.sep
  grind
 simp only [AN,List.not_mem_nil,or_false] at h1;rcases h1 with rfl | rfl
 .obtain ⟨t,ht,t1,t2⟩:=(hS _ hn).2 ⟨s,hs,A3 _,hp⟩
  grind
 .obtain ⟨t,ht,t1,t2⟩:=(hS _ hn).1 ⟨s,hs,by omega,by omega⟩
  grind
theorem v6a {l:zp} {y:Int} (h:y ∉ JO l):pt l (y - 1)↔pt l y:=by
 constructor
 .rintro ⟨s,hs,h1,h2⟩;refine ⟨s,hs,by omega,?_⟩;have:y≠s.b:=fun e=>h (AM.2 ⟨s,hs,by simp [e]⟩);omega
 .rintro ⟨s,hs,h1,h2⟩;refine ⟨s,hs,?_,by omega⟩;have:y≠s.a:=fun e=>h (AM.2 ⟨s,hs,by simp [e]⟩);omega
theorem x0q (k:Nat) {a b:zp} (ha:a.all Ca=true) (hb:b.all Ca=true):(ET k a b).length <=a.length+b.length:=by
 obtain ⟨h1,h2⟩:=v3s k ha hb;have:=v1y h1 (JO a++JO b) fun y hy=>by
  rw [AJ,not_or] at hy;have e1:decide (pt a (y - 1))=decide (pt a y):=decide_eq_decide.2 (v6a hy.1);have e2:decide (pt b (y - 1))=decide (pt b y):=decide_eq_decide.2 (v6a hy.2);have q1:pt (ET k a b) (y - 1)↔_:=h2 (y - 1);have q2:pt (ET k a b) y↔_:=h2 y
  grind
 grind [y3p]
def Hz (k:Nat) (a b:zu):zu:=(D4.goS (fun x=>ET k (D4.inn a x) (D4.inn b x)) (D4.cuts (a++b)) ((D4.cuts (a++b)).length - 1) 0 ⟨[],[],0,0⟩).out
theorem j2u (k:Nat):ET k [] []=[]:=by have:=x0q k (a:=[]) (b:=[]) rfl rfl;simp_all
instance ptDec4 (l:zu) (p:Int×Int):Decidable (CQ C5.inB l p):=Classical.propDecidable _
theorem j5j (l:zu) (x y:Int):pt (D4.inn l x) y↔CQ C5.inB l (x,y):=CM.pt_inn (D:=D4) Eb.inB l x y
theorem j4x (k:Nat) {a b:zu} (ha: ∀r∈a,CW r=true) (hb: ∀r∈b,CW r=true):
  C5.can (Hz k a b)/\(∀p,CQ C5.inB (Hz k a b) p↔Dr k (decide (CQ C5.inB a p)) (decide (CQ C5.inB b p))=true)/\(Hz k a b).length <=(a.length+b.length)*(a.length+b.length):=by
 have hs: ∀x,Eb.can (ET k (D4.inn a x) (D4.inn b x))/\ ∀y,CQ Eb.inB (ET k (D4.inn a x) (D4.inn b x)) y↔Dr k (decide (pt (D4.inn a x) y)) (decide (pt (D4.inn b x) y))=true:=fun x=>v3s k (QW ha x) (QW hb x);obtain ⟨h1,h2⟩:=CM.goJ_can S9 x5p Eb a b (ET k) (fun x=>(hs x).1) (j2u k);refine ⟨h1,fun ⟨x,y⟩=> ?_,?_⟩
 .rw [show CQ C5.inB (Hz k a b) (x,y)↔_ from h2 x y,(hs x).2]
  grind [j5j]
 .refine CM.goJ_length a b (ET k) (fun x=>x0q k (QW ha x) (QW hb x)) fun r hr=> ?_;have hv:CW r=true:=by
   grind
  simp only [CW,Ac,Ao] at hv;exact hv.1
open Go.Proofs.Tryz
inductive Hf where
 | h0 (v10:Int)
def N1 (l0:zp):Hf->CJ
 | .h0 v10=>⟨⟨34,0,true⟩,none,(Zk prog 204 (pn 75) 0),none,(Zy prog 9),⟨Yy [(0,(dt l0)),(8,(dt l0)),(9,(ii (l0.length:Int))),(10,(ii v10))],Wf [] 0,0,[],true⟩,[],.leaf⟩
def j2s :List (Option zt):=[some [0,8,9,10]]
def j2t :List (Option zt):=[]
def Ix (l0:zp):Hf->Xk Hf
 | .h0 v10=>let c:=rd l0 v10.toNat;(bif (decide (v10<(l0.length:Int))) then (bif ((decide (0<=v10/\v10<(l0.length:Int)))&&true) then (bif (decide (c.a <c.b)) then (bif (decide (c.a >=(-1000000))) then (bif (!(decide (c.b <=1000000))) then (.ret [(.int .i64 8)]) else (bif (decide (v10>0)) then (bif ((decide (0<=(wrap .i64 (v10 - 1))/\(wrap .i64 (v10 - 1))<(l0.length:Int)))&&true) then (bif (decide ((rd l0 (Int.toNat (wrap .i64 (v10 - 1)))).b >=c.a)) then (.ret [(.int .i64 8)]) else (.to (.h0 (wrap .i64 (v10+1))))) else .stuck) else (.to (.h0 (wrap .i64 (v10+1)))))) else (.ret [(.int .i64 8)])) else (.ret [(.int .i64 8)])) else .stuck) else (.ret [(.int .i64 0)]))
def X6 (l0:zp):Xk Hf:=(bif (decide ((l0.length:Int)>400)) then (.ret [(.int .i64 4)]) else (.to (.h0 0)))
theorem w8h (l0:zp): ∀s,Xh prog (Zy prog 204) (N1 l0) (N1 l0 s) (Ix l0 s)
 | .h0 v10=>(lb (fun k0=>(lo fun aK=>let c:=ww aK (tt k0 nn);(lb (fun k1=>let a:=tt k1 c;(lb (fun k2=>(lb (fun k3=>(lr 34 204 (pn 19659) 1 9 [(2,(ii 8))] (sl FN 25 [] (b8 [2]) b7 (CL 12 []) (tt k3 (tt k2 a))))) (fun k3=>let d:=tt k3 (tt k2 a);(lb (fun k4=>(lo fun dC=>let b:=ww dC (tt k4 d);(lb (fun k5=>(lr 34 204 (pn 19659) 1 9 [(2,(ii 8))] (sl FN 25 [] (b8 [2]) b7 (CL 7 (bl 14 12280)) (tt k5 b)))) (fun k5=>(sl FN 28 [] ⟨[],[],j2s,j2t⟩ b7 (CL 7 (bl 14 4088)) (tt k5 b)))))) (fun k4=>(sl FN 28 [] ⟨[],[],j2s,j2t⟩ b7 (CL 7 (bl 14 0)) (tt k4 d))))))) (fun k2=>(lr 34 204 (pn 19659) 1 9 [(2,(ii 8))] (sl FN 25 [] (b8 [2]) b7 (CL 4 (bl 8 248)) (tt k2 a)))))) (fun k1=>(lr 34 204 (pn 19659) 1 9 [(2,(ii 8))] (sl FN 25 [] (b8 [2]) b7 (bl 12 3969) (tt k1 c))))))) (fun k0=>(lr 34 3 (pn 191) 1 9 [(2,(ii 0))] (sl FN 11 [] (b8 [2]) b7 [false] (tt k0 nn)))))
theorem x9b (l0:zp):Xh prog (Zy prog 204) (N1 l0) (Zb prog 204 [(dt l0)] true []) (X6 l0):=(lb (fun k0=>(lr 34 204 (pn 37) 1 9 [(2,(ii 4))] (sl FN 16 [] (b8 [2]) b7 [true] (tt k0 nn)))) (fun k0=>(sl FN 22 [] ⟨[],[],j2s,j2t⟩ b7 [false] (tt k0 nn))))
theorem u0p (l0:zp) (n:Nat) (vs:zy) (h:Yj (Ix l0) n (X6 l0)=.ret vs):Ji prog (Zy prog 204) (Zb prog 204 [(dt l0)] true []) vs:=by have:=Zf (w8h l0) n _ (x9b l0);rwa [h] at this
inductive cuS where
def cuC (x0:Bool) (x1:Bool):cuS->CJ
 :=nofun
def v9c (x0:Bool) (x1:Bool):cuS->Xk cuS
 :=nofun
def w3o (x0:Bool) (x1:Bool):Xk cuS:=(bif x0 then (.ret [(.bool true)]) else (.ret [(.bool x1)]))
theorem v9b (x0:Bool) (x1:Bool): ∀s,Xh prog (Zy prog 174) (cuC x0 x1) (cuC x0 x1 s) (v9c x0 x1 s)
 :=nofun
theorem v1v (x0:Bool) (x1:Bool):Xh prog (Zy prog 174) (cuC x0 x1) (Zb prog 174 [(.bool x0),(.bool x1)] true []) (w3o x0 x1):=(lb (fun k0=>(lr 9 3 (pn 191) 1 3 [(4,(.bool true))] (sl FN 12 [] (b8 [4]) b7 [true] (tt k0 nn)))) (fun k0=>(lr 9 3 (pn 191) 1 3 [(4,(.bool x1))] (sl FN 12 [] (b8 [4]) b7 [false] (tt k0 nn)))))
theorem j9g (x0:Bool) (x1:Bool) (n:Nat) (vs:zy) (h:Yj (v9c x0 x1) n (w3o x0 x1)=.ret vs):Ji prog (Zy prog 174) (Zb prog 174 [(.bool x0),(.bool x1)] true []) vs:=by have:=Zf (v9b x0 x1) n _ (v1v x0 x1);rwa [h] at this
def FP (l:zp) (i:Nat):Bool:=Ca (rd l i)&&(decide (i=0)||decide ((rd l (i - 1)).b <(rd l i).a))
def Dp (l:zp):Int:=bif decide (400<l.length) then 4 else bif (List.range l.length).all (FP l) then 0 else 8
def SX (l:zp):Bool:=true
theorem u7g (l:zp) (hl:l.length<=400): ∀(k i:Nat),i+k=l.length->(∀j,j<i->FP l j=true)-> ∃n,Yj (Ix l) n (.to (.h0 (i:Int)))=.ret [.int .i64 (bif (List.range l.length).all (FP l) then 0 else 8)]
 | 0,i,h,ht=>by
  have hv:(List.range l.length).all (FP l)=true:=As.2 fun j hj=>ht j (by grind);refine ⟨1,?_⟩
  grind [Zx,Ix,Zc]
 | k +1,i,h,ht=>by
  have hi:i<l.length:=by omega
  have hlt:decide ((i:Int)<(l.length:Int))=true:=Af (by omega);have hin:decide (0<=(i:Int)/\(i:Int)<(l.length:Int))=true:=Af (by omega);have step:Ix l (.h0 (i:Int))=bif FP l i then .to (.h0 ((i+1:Nat):Int)) else .ret [.int .i64 8]:=by
   unfold FP Ca;by_cases hi0:i=0
   .simp_all [Ix,Zq,Se]
   .have g1:decide ((i:Int)>0)=true:=Af (by omega);have g2:wrap .i64 ((i:Int) - 1)=((i - 1:Nat):Int):=by rw [Zq (by omega)];omega
    have g3:decide (0<=((i - 1:Nat):Int)/\((i - 1:Nat):Int)<(l.length:Int))=true:=Af (by omega);have g4:decide ((rd l (i - 1)).b >=(rd l i).a)= !decide ((rd l (i - 1)).b <(rd l i).a):=by
     grind
    rw [An hi0];simp (disch:=omega) only [Ix,hlt,hin,g1,g2,g3,g4,Zq,Zv,Zj,Se,RF,Bj,Aj,Ab,Aa]
  rcases Xw (FP l i) with q | q
  .obtain ⟨n,hn⟩:=u7g l hl k (i+1) (by omega) (fun j hj=>by
    grind)
   refine ⟨n+1,?_⟩
   grind [Zx]
  .have hv:(List.range l.length).all (FP l)=false:=A7.2 fun e=>by
    grind
   refine ⟨1,?_⟩
   grind [Zx,Zc]
theorem j2r (l:zp) (h:SX l=true): ∃n,Yj (Ix l) n (X6 l)=.ret [.int .i64 (Dp l)]:=by
 unfold X6 Dp;by_cases h:400<l.length
 .refine ⟨0,?_⟩;rw [Af h,Yo (show (l.length:Int)>400 by omega)];rfl
 .obtain ⟨n,hn⟩:=u7g l (by omega) l.length 0 (Ah _) (fun j hj=>absurd hj (AD _))
  grind
inductive Op where
 | u
abbrev Op.k :Op->Nat
 | .u =>0
abbrev nC :Op->Nat
 | .u =>UR
abbrev nSp :Op->Nat
 | .u =>nSpU
abbrev nRg :Op->Nat
 | .u =>nRgU
abbrev nSl :Op->Nat
 | .u =>nSlU
def cV (q:Op) (a b:Bool):Bool:=Dr q.k a b
theorem Pu (a b:Bool): ∃N,Yj (v9c a b) N (w3o a b)=.ret [.bool (cV .u a b)]:=⟨0,by cases a <;> cases b <;> rfl⟩
theorem x2k (l:zp):Dp l=0↔l.length<=400/\l.all Ca=true/\DD l:=by
 unfold Dp;constructor
 .intro h;by_cases h1:400<l.length
  .grind
  .rw [An h1,Aa] at h;cases hq:(List.range l.length).all (FP l) with
   | false=>grind
   | true=>
    have hq:=fun i hi=>As.1 hq i (AL.2 hi);have hv: ∀i,i<l.length->Ca (rd l i)=true:=fun i hi=>by
     grind [FP]
    have hp: ∀i,i<l.length->(rd l i).a <(rd l i).b :=fun i hi=>by
     grind [Ca]
    have hs: ∀i,i+1<l.length->(rd l i).b <(rd l (i+1)).a :=fun i hi=>by
     grind [FP]
    refine ⟨by omega,As.2 fun s hs=> ?_,⟨fun s hs=> ?_,?_⟩⟩
    .obtain ⟨i,hi,rfl⟩:=AQ hs;rw [<-Xm hi];exact hv i hi
    .obtain ⟨i,hi,rfl⟩:=AQ hs;rw [<-Xm hi];exact hp i hi
    .refine Br.2 fun i j hi hj hij=> ?_;rw [<-Xm hi,<-Xm hj];clear hi
     induction j with
     | zero=>omega
     | succ j ih=>
      grind
 .rintro ⟨h1,h2,h3⟩;rw [An (by omega),Aa];have:(List.range l.length).all (FP l)=true:=As.2 fun i hi=>by
   have hi:=AL.1 hi;unfold FP;rw [As.1 h2 (rd l i) (by grind [Xm]),Al,Bv];by_cases h0:i=0
   .grind
   .refine .inr (Af ?_);have:=Br.1 h3.sep (i - 1) i (by omega) hi (by omega);rwa [<-Xm,<-Xm] at this
  grind
def PQ :zy->Option (CA×Bool)
 | [a0]=>match C4 R2 a0 with
  | some (L0,g0,n0)=>some (.int .i64 (Dp L0),CU R2 n0 g0&&(SX L0))
  | _=>none
 | _=>none
theorem j7o {S:CC} (hS:Zu prog S):Zu prog (S.with w6b PQ):=by
 refine C3 hS (by kernel_rfl) fun args v h=> ?_;unfold PQ at h;split at h
 .rename_i a0;split at h
  .rename_i L0 g0 n0 e0;simp only [Ae,Ad,Ac] at h;obtain ⟨rfl,ho0,hw⟩:=h;obtain ⟨N,hN⟩:=j2r L0 hw;exact ⟨_,_,(.cons (Xy e0 ho0) .nil),rfl,u0p L0 N _ hN,3,rfl⟩
  .cases h
 .cases h
def fCu :zy->Option (CA×Bool)
 | [.bool b0,.bool b1]=>some (.bool (cV .u b0 b1),true)
 | _=>none
theorem Pj {S:CC} (hS:Zu prog S):Zu prog (S.with (nC .u) fCu):=by
 refine C3 hS (by kernel_rfl) fun args v h=> ?_;unfold fCu at h;split at h
 .rename_i b0 b1;simp only [Ae,Ad,B9] at h;subst h;obtain ⟨N,hN⟩:=Pu b0 b1;exact ⟨_,_,(.cons (.refl _) (.cons (.refl _) .nil)),rfl,j9g b0 b1 N _ hN,3,rfl⟩
 .cases h
def Ua :CC:=((T9.with w6b PQ).with (nC .u) fCu)
theorem Dk :Zu prog Ua:=(Pj (j7o FN))
inductive He where
 | h0 (v3:zo) (v17:Int)
 | h1 (v3:zo) (v17:Int)
 | h2 (v5:zo) (v6:Int) (v7:Int) (aB:Int) (bM:Int) (bA:Int) (aG:Bool) (aE:zp)
def GW (q:Op) (l0:zp) (l1:zp):He->CJ
 | .h0 v3 v17=>⟨⟨38,0,true⟩,none,(Zk prog 233 (pn 19659) 0),none,(Zy prog 9),⟨Yy [(3,(.sla 7 3 0 v3.length (.un 3))),(4,(ii 0)),(8,(.sl 0 0 2 (.un 1))),(9,(ii 2)),(10,(ii 0)),(15,(dt l0)),(16,(ii (l0.length:Int))),(17,(ii v17))],Wf [⟨[(dt l0),(dt l1)],233,none⟩,⟨[(.fn 174 [])],245,none⟩,⟨[(ii 0),(ii 0)],307,none⟩,⟨[.nils],233,none⟩,⟨[(ii 0)],3,none⟩,⟨[(.bool false)],4,none⟩,⟨[(.fn 232 [(.ptr 5 0),(.ptr 4 0),(.ptr 3 0)])],180,none⟩,(rz v3 311 3)] 0,8,[],true⟩,[⟨⟨42,0,true⟩,(Wz prog 205 (pn 159) 3),(Zk prog 205 (pn 159) 1),none,(Zy prog 7),Yy [(5,(.ptr 1 0)),(6,.nils),(7,(.ptr 2 0)),(8,(.ptr 3 0)),(9,(.ptr 4 0)),(10,(.ptr 5 0)),(11,(.ptr 6 0)),(16,(.sl 0 0 2 (.un 1)))]⟩,⟨⟨29,0,true⟩,(Wz prog 173 (pn 23) 3),(Zk prog 173 (pn 23) 1),none,(Zy prog 104),Yy [(21,(dt l0)),(22,(dt l1)),(23,(.fn 174 []))]⟩,⟨⟨11,0,true⟩,(Wz prog 143 [1,0] 2),(Zk prog 143 [1,0] 1),none,(Zy prog 17),Yy [(6,(dt l0)),(7,(dt l1))]⟩],.leaf⟩
 | .h1 v3 v17=>⟨⟨38,0,true⟩,none,(Zk prog 233 (pn 19659) 0),none,(Zy prog 9),⟨Yy [(3,(.sla 7 3 0 v3.length (.un 3))),(4,(ii 1)),(8,(.sl 0 0 2 (.un 1))),(9,(ii 2)),(10,(ii 1)),(15,(dt l1)),(16,(ii (l1.length:Int))),(17,(ii v17))],Wf [⟨[(dt l0),(dt l1)],233,none⟩,⟨[(.fn 174 [])],245,none⟩,⟨[(ii 0),(ii 0)],307,none⟩,⟨[.nils],233,none⟩,⟨[(ii 0)],3,none⟩,⟨[(.bool false)],4,none⟩,⟨[(.fn 232 [(.ptr 5 0),(.ptr 4 0),(.ptr 3 0)])],180,none⟩,(rz v3 311 3)] 0,8,[],true⟩,[⟨⟨42,0,true⟩,(Wz prog 205 (pn 159) 3),(Zk prog 205 (pn 159) 1),none,(Zy prog 7),Yy [(5,(.ptr 1 0)),(6,.nils),(7,(.ptr 2 0)),(8,(.ptr 3 0)),(9,(.ptr 4 0)),(10,(.ptr 5 0)),(11,(.ptr 6 0)),(16,(.sl 0 0 2 (.un 1)))]⟩,⟨⟨29,0,true⟩,(Wz prog 173 (pn 23) 3),(Zk prog 173 (pn 23) 1),none,(Zy prog 104),Yy [(21,(dt l0)),(22,(dt l1)),(23,(.fn 174 []))]⟩,⟨⟨11,0,true⟩,(Wz prog 143 [1,0] 2),(Zk prog 143 [1,0] 1),none,(Zy prog 17),Yy [(6,(dt l0)),(7,(dt l1))]⟩],.leaf⟩
 | .h2 v5 v6 v7 aB bM bA aG aE=>⟨⟨16,0,true⟩,none,(Zk prog 249 [1,0,0] 0),none,[],⟨Yy [(0,(.yld 0)),(5,(.sla 7 3 0 v5.length (.un 3))),(6,(ii v6)),(7,(ii v7))],Cs [(1,⟨[(.fn 174 [])],245,none⟩),(2,⟨[(ii aB),(ii bM)],307,none⟩),(3,⟨[(ii bA)],3,none⟩),(4,⟨[(.bool aG)],4,none⟩),(5,⟨[(.fn 232 [(.ptr 4 0),(.ptr 3 0),(.ptr 6 0)])],180,none⟩),(6,⟨[(.sla 8 2 0 aE.length (.un 2))],233,none⟩),(7,(rz v5 311 3)),(8,(rz aE 260 2))],9,[],true⟩,[⟨⟨42,0,true⟩,none,(.inRangeFunc 0::(Zk prog 205 (pn 351) 1)),none,(Zy prog 7),Yy [(6,.nils),(8,(.ptr 6 0))]⟩,⟨⟨29,0,true⟩,(Wz prog 173 (pn 23) 3),(Zk prog 173 (pn 23) 1),none,(Zy prog 104),Yy [(21,(dt l0)),(22,(dt l1)),(23,(.fn 174 []))]⟩,⟨⟨11,0,true⟩,(Wz prog 143 [1,0] 2),(Zk prog 143 [1,0] 1),none,(Zy prog 17),Yy [(6,(dt l0)),(7,(dt l1))]⟩],(DA [(0,⟨.ready,none,42,Yy [(5,(.ptr 1 0)),(7,(.ptr 2 0)),(9,(.ptr 3 0)),(10,(.ptr 4 0)),(11,(.ptr 5 0))],[18],(Xt prog 205 [1,1,1,1,1,0,1,0,0]),(Xt prog 205 [1,1,1,1,1,0,1,0,1])⟩)])⟩
def Jl :List (Option zt):=[some [3,4,8,9,10,15,16,17],some [5,6,7,8,9,10,11,16],some [21,22,23],some [6,7]]
def KB :List (Option zt):=[]
def J9 :List (Option zt):=[some [3,4,8,9,10,15,16,17],some [5,6,7,8,9,10,11,16],some [21,22,23],some [6,7]]
def KA :List (Option zt):=[]
def GM :List (Option zt):=[some [0,5,6,7],some [6,8],some [21,22,23],some [6,7]]
def GL :List (Option zt):=[some [5,7,9,10,11],none,none,none,none,none,none,none,none]
def Vw (q:Op) (l0:zp) (l1:zp):He->Xk He
 | .h0 v3 v17=>let c:=rd l0 v17.toNat;(bif (decide (v17<(l0.length:Int))) then (bif ((decide (0<=v17/\v17<(l0.length:Int)))&&true) then (bif (Nat.beq 3 3&&((decide (0+v3.length=v3.length))&&decide ((v3.length+2+1)*(24+1)<=Vg))) then (.to (.h0 (v3++[(R3.mk c.a 0 1),(R3.mk c.b 0 (-1))]) (wrap .i64 (v17+1)))) else .stuck) else .stuck) else (.to (.h1 v3 0)))
 | .h1 v3 v17=>let c:=rd l1 v17.toNat;(bif (decide (v17<(l1.length:Int))) then (bif ((decide (0<=v17/\v17<(l1.length:Int)))&&true) then (bif (Nat.beq 3 3&&((decide (0+v3.length=v3.length))&&decide ((v3.length+2+1)*(24+1)<=Vg))) then (.to (.h1 (v3++[(R3.mk c.a 1 1),(R3.mk c.b 1 (-1))]) (wrap .i64 (v17+1)))) else .stuck) else .stuck) else (bif (DS (CB v3)) then (bif (decide (v3.length<4611686018427387904)) then (bif (decide (v3.length=v3.length)) then (.to (.h2 (Ck (CB v3)) (v3.length:Int) 0 0 0 0 false ([]:zp))) else .stuck) else .stuck) else .stuck))
 | .h2 v5 v6 v7 aB bM bA aG aE=>let d:=rd v5 (0+v7.toNat);(bif (decide (v7<v6)) then (bif ((decide (0<=v7/\v7<(v5.length:Int)))&&true) then (bif (decide ((0+v7.toNat)<v5.length)) then (bif (!aG) then (bif (decide (d.b =Int.ofNat 0)) then (.to (.h2 v5 v6 (wrap .i64 (v7+1)) (wrap .i64 (aB+d.c)) bM d.a ((cV q) (decide ((wrap .i64 (aB+d.c))>0)) (decide (bM>0))) aE)) else (bif (decide (d.b =Int.ofNat 1)) then (.to (.h2 v5 v6 (wrap .i64 (v7+1)) aB (wrap .i64 (bM+d.c)) d.a ((cV q) (decide (aB>0)) (decide ((wrap .i64 (bM+d.c))>0))) aE)) else .stuck)) else (bif (bA == d.a) then (bif (decide (d.b =Int.ofNat 0)) then (.to (.h2 v5 v6 (wrap .i64 (v7+1)) (wrap .i64 (aB+d.c)) bM d.a ((cV q) (decide ((wrap .i64 (aB+d.c))>0)) (decide (bM>0))) aE)) else (bif (decide (d.b =Int.ofNat 1)) then (.to (.h2 v5 v6 (wrap .i64 (v7+1)) aB (wrap .i64 (bM+d.c)) d.a ((cV q) (decide (aB>0)) (decide ((wrap .i64 (bM+d.c))>0))) aE)) else .stuck)) else (bif (decide ((aE.length:Int)>0)) then (bif ((decide (0<=(wrap .i64 ((aE.length:Int) - 1))/\(wrap .i64 ((aE.length:Int) - 1))<(aE.length:Int)))&&true) then (bif (decide ((0+(Int.toNat (wrap .i64 ((aE.length:Int) - 1))))<aE.length)) then (bif ((rd aE (0+(Int.toNat (wrap .i64 ((aE.length:Int) - 1))))).b == bA) then (bif (decide (d.b =Int.ofNat 0)) then (.to (.h2 v5 v6 (wrap .i64 (v7+1)) (wrap .i64 (aB+d.c)) bM d.a ((cV q) (decide ((wrap .i64 (aB+d.c))>0)) (decide (bM>0))) (aE.set (0+(Int.toNat (wrap .i64 ((aE.length:Int) - 1)))) (R2.mk (rd aE (0+(Int.toNat (wrap .i64 ((aE.length:Int) - 1))))).a d.a)))) else (bif (decide (d.b =Int.ofNat 1)) then (.to (.h2 v5 v6 (wrap .i64 (v7+1)) aB (wrap .i64 (bM+d.c)) d.a ((cV q) (decide (aB>0)) (decide ((wrap .i64 (bM+d.c))>0))) (aE.set (0+(Int.toNat (wrap .i64 ((aE.length:Int) - 1)))) (R2.mk (rd aE (0+(Int.toNat (wrap .i64 ((aE.length:Int) - 1))))).a d.a)))) else .stuck)) else (bif (Nat.beq 2 2&&((decide (0+aE.length=aE.length))&&decide ((aE.length+1+1)*(16+1)<=Vg))) then (bif (decide (d.b =Int.ofNat 0)) then (.to (.h2 v5 v6 (wrap .i64 (v7+1)) (wrap .i64 (aB+d.c)) bM d.a ((cV q) (decide ((wrap .i64 (aB+d.c))>0)) (decide (bM>0))) (aE++[(R2.mk bA d.a)]))) else (bif (decide (d.b =Int.ofNat 1)) then (.to (.h2 v5 v6 (wrap .i64 (v7+1)) aB (wrap .i64 (bM+d.c)) d.a ((cV q) (decide (aB>0)) (decide ((wrap .i64 (bM+d.c))>0))) (aE++[(R2.mk bA d.a)]))) else .stuck)) else .stuck)) else .stuck) else .stuck) else (bif (Nat.beq 2 2&&((decide (0+aE.length=aE.length))&&decide ((aE.length+1+1)*(16+1)<=Vg))) then (bif (decide (d.b =Int.ofNat 0)) then (.to (.h2 v5 v6 (wrap .i64 (v7+1)) (wrap .i64 (aB+d.c)) bM d.a ((cV q) (decide ((wrap .i64 (aB+d.c))>0)) (decide (bM>0))) (aE++[(R2.mk bA d.a)]))) else (bif (decide (d.b =Int.ofNat 1)) then (.to (.h2 v5 v6 (wrap .i64 (v7+1)) aB (wrap .i64 (bM+d.c)) d.a ((cV q) (decide (aB>0)) (decide ((wrap .i64 (bM+d.c))>0))) (aE++[(R2.mk bA d.a)]))) else .stuck)) else .stuck)))) else .stuck) else .stuck) else (bif (decide ((aE.length:Int)>400)) then (.ret [.nils,(.int .i64 4)]) else (.ret [(dt aE),(.int .i64 0)])))
def X7 (q:Op) (l0:zp) (l1:zp):Xk He:=(bif (SX (CB l0)) then (bif ((Dp (CB l0)) != 0) then (.ret [.nils,(.int .i64 (Dp (CB l0)))]) else (bif (SX (CB l1)) then (bif ((Dp (CB l1)) != 0) then (.ret [.nils,(.int .i64 (Dp (CB l1)))]) else (.to (.h0 ([]:zo) 0))) else .stuck)) else .stuck)
theorem w8g (q:Op) (l0:zp) (l1:zp): ∀s,Xh prog (Zy prog 143) (GW q l0 l1) (GW q l0 l1 s) (Vw q l0 l1 s):=by cases q <;> refine (?f: ∀q:Op,∀s,Xh prog (Zy prog 143) (GW q l0 l1) (GW q l0 l1 s) (Vw q l0 l1 s)) _ <;> exact fun q=>fun
 | .h0 v3 v17=>(lb (fun k0=>(lo fun o0=>(lo fun o1=>let f:=rd l0 (tn v17);let e:=f;let c:=v3++[(R3.mk e.a 0 1),(R3.mk e.b 0 (-1))];let h:=v3++[(R3.mk f.a 0 1),(R3.mk f.b 0 (-1))];let i:=v3.length+2;let d:=xL i h.length;let g:=Zr (Zz v3) 0 v3.length 3 [(ii f.a),(ii 0),(ii 1),(ii f.b),(ii 0),(ii (-1))];(sl Dk 36 [] ⟨[0,1,2,3,4,5,6,10],[],Jl,KB⟩ ⟨[(3,.len c.length)],(DN 7 [.rowed 3 c.length (Zz c)]),[]⟩ [true] (pp d (pp d (pp (xS i g (Zz h)) (pp (pp (xF g) nn) (ww o1 (ww o0 (tt k0 nn))))))))))) (fun k0=>(sl Dk 38 [] ⟨(List.range 8),[],J9,KA⟩ b7 (bl 2 2) (pp (fl v3 nn) (tt k0 nn)))))
 | .h1 v3 v17=>(lb (fun k0=>(lo fun o0=>(lo fun o1=>let i:=rd l1 (tn v17);let h:=i;let c:=v3++[(R3.mk h.a 1 1),(R3.mk h.b 1 (-1))];let l:=v3++[(R3.mk i.a 1 1),(R3.mk i.b 1 (-1))];let n:=v3.length+2;let d:=xL n l.length;let j:=Zr (Zz v3) 0 v3.length 3 [(ii i.a),(ii 1),(ii 1),(ii i.b),(ii 1),(ii (-1))];(sl Dk 36 [] ⟨[0,1,2,3,4,5,6,10],[],J9,KA⟩ ⟨[(3,.len c.length)],(DN 7 [.rowed 3 c.length (Zz c)]),[]⟩ [true] (pp d (pp d (pp (xS n j (Zz l)) (pp (pp (xF j) nn) (ww o1 (ww o0 (tt k0 nn))))))))))) (fun k0=>(lo fun o0=>(lo fun o1=>(lo fun o2=>let m:=Ck (CB v3);let e:=xL v3.length m.length (by first | exact z9v _ | exact Jj rfl);let f:=m;let g:=xG (Nat.beq 3 3);(sl Dk 54 [(260,2,Zz ([]:zp))] ⟨[9,1,2,4,5,6,3,7,10],[],GM,GL⟩ ⟨[(5,.len f.length)],(DN 6 [.cells [.grow 8 2],.rowed 3 f.length (Zz f),.keep]),[]⟩ (bl 2 0) (pp e (pp e (pp (xS v3.length (Zz m) (Zz m)) (pp (fl f (fl ([]:zp) nn)) (pp (pp g (pp g (pp (xG (Nat.beq 0 0)) (pp (pp (xG (decide (v3.length=v3.length))) (pp (xr v3) (xG (decide (v3.length<4611686018427387904))))) (xG (DS (CB v3))))))) (tt k0 nn))))))))))))
 | .h2 v5 v6 v7 aB bM bA aG aE=>(lb (fun k0=>(lo fun aK=>(lo fun bH=>let o:=List.range 9;let p:=fl v5 (fl aE nn);let q:=ww bH (ww aK (tt k0 nn));(lb (fun k1=>(lb (fun k2=>(sl Dk 62 [] ⟨o,[],GM,GL⟩ b7 (CL 5 (bl 3 0)) (pp p (ww k2 (tt k1 q))))) (fun k2=>(lb (fun k3=>(sl Dk 62 [] ⟨o,[],GM,GL⟩ b7 (CL 6 (bl 4 2)) (pp p (ww k3 (tt k1 q))))) (fun k3=>trivial))))) (fun k1=>let d:=tt k1 q;(lb (fun k2=>(lb (fun k3=>(sl Dk 62 [] ⟨o,[],GM,GL⟩ b7 (bl 8 17) (pp p (ww k3 (tt k2 d))))) (fun k3=>(lb (fun k4=>(sl Dk 62 [] ⟨o,[],GM,GL⟩ b7 (bl 10 177) (pp p (ww k4 (tt k2 d))))) (fun k4=>trivial))))) (fun k2=>let D:=rd v5 (0+(tn v7));let u:=D;let h:=aE++[(R2.mk bA u.a)];let c:=DN 6 [.cells [.len h.length],.keep,.rowed 2 h.length (Zz h)];let w:=Zr (Zz aE) 0 aE.length 2 [(ii bA),(ii D.a)];let z:=aE++[(R2.mk bA D.a)];let C:=aE.length+1;(lb (fun k3=>(lo fun cU=>(lo fun dR=>let g:=ww dR (ww cU (tt k3 (tt k2 d)));(lb (fun k4=>let B:=tn (wr ((aE.length:Int) - 1));let r:=B;let b:=aE.set (0+r) (R2.mk (rd aE (0+r)).a u.a);let n:=DN 6 [.cells [.len b.length],.keep,.rowed 2 b.length (Zz b)];let s:=ww dR (ww cU (tt k4 g));let y:=aE.set (0+B) (R2.mk (rd aE (0+B)).a D.a);let A:=Xg (Zz aE) (0+B) 1 [(ii D.a)];(lb (fun k5=>let f:=xL aE.length y.length;(sl Dk 81 [] ⟨o,[],GM,GL⟩ ⟨[],n,[]⟩ (bl 17 16353) (pp f (pp f (pp (xS aE.length A (Zz y)) (pp (fl v5 (pp (xF A) nn)) (ww k5 s))))))) (fun k5=>(lb (fun k6=>let e:=xL aE.length y.length;(sl Dk 81 [] ⟨o,[],GM,GL⟩ ⟨[],n,[]⟩ (bl 19 98273) (pp e (pp e (pp (xS aE.length A (Zz y)) (pp (fl v5 (pp (xF A) nn)) (ww k6 s))))))) (fun k6=>trivial))))) (fun k4=>(lo fun dC=>let v:=ww dC (tt k4 g);(lb (fun k5=>let i:=xL C z.length;(sl Dk 81 [] ⟨[0,1,2,3,4,5,6,7,12],[],GM,GL⟩ ⟨[],c,[]⟩ (bl 17 8161) (pp i (pp i (pp (xS C w (Zz z)) (pp (fl v5 (pp (xF w) nn)) (ww k5 v))))))) (fun k5=>(lb (fun k6=>let m:=xL C z.length;(sl Dk 81 [] ⟨[0,1,2,3,4,5,6,7,12],[],GM,GL⟩ ⟨[],c,[]⟩ (bl 19 90081) (pp m (pp m (pp (xS C w (Zz z)) (pp (fl v5 (pp (xF w) nn)) (ww k6 v))))))) (fun k6=>trivial)))))))))) (fun k3=>(lo fun cU=>let t:=ww cU (tt k3 (tt k2 d));(lb (fun k4=>let j:=xL C z.length;(sl Dk 81 [] ⟨[0,1,2,3,4,5,6,7,12],[],GM,GL⟩ ⟨[],c,[]⟩ (bl 17 1) (pp j (pp j (pp (xS C w (Zz z)) (pp (fl v5 (pp (xF w) nn)) (ww k4 t))))))) (fun k4=>(lb (fun k5=>let l:=xL C z.length;(sl Dk 81 [] ⟨[0,1,2,3,4,5,6,7,12],[],GM,GL⟩ ⟨[],c,[]⟩ (bl 19 81921) (pp l (pp l (pp (xS C w (Zz z)) (pp (fl v5 (pp (xF w) nn)) (ww k5 t))))))) (fun k5=>trivial)))))))))))))) (fun k0=>(lb (fun k1=>(lr 11 3 (pn 191) 1 17 [(4,.nils),(5,(ii 4))] (sl Dk 37 [] (b8 [4,5]) b7 (bl 2 2) (tt k1 (tt k0 nn))))) (fun k1=>(lr 11 3 (pn 191) 1 17 [(4,(dt aE)),(5,(ii 0))] (sl Dk 39 [] ⟨[],[8],[some [4,5]],[]⟩ ⟨[(4,.frz aE.length aE.length (Zz aE) (Zz aE))],[],[]⟩ (bl 2 0) (pp (xZ (DE 2 2 0 aE.length aE.length (Zz aE)) aE.length (Zz aE)) (pp (xL aE.length aE.length) (pp (xS aE.length (Zz aE) (Zz aE)) (pp (fl aE nn) (tt k1 (tt k0 nn))))))))))))
theorem x9a (q:Op) (l0:zp) (l1:zp):Xh prog (Zy prog 143) (GW q l0 l1) (Zb prog 143 [(dt l0),(dt l1)] true []) (X7 q l0 l1):=by cases q <;> exact (lo fun cA=>(lb (fun k0=>(lr 11 3 (pn 191) 1 17 [(4,.nils),(5,(ii (Dp (CB l0))))] (sl Dk 40 [] (b8 [4,5]) b7 [true] (tt k0 (pp (pp (xr l0) (xw cA)) nn))))) (fun k0=>(lo fun aK=>(lb (fun k1=>(lr 11 3 (pn 191) 1 17 [(4,.nils),(5,(ii (Dp (CB l1))))] (sl Dk 54 [] (b8 [4,5]) b7 (bl 2 2) (tt k1 (pp (pp (xr l1) (xw aK)) (tt k0 (pp (pp (xr l0) (xw cA)) nn))))))) (fun k1=>(sl Dk 124 [(311,3,Zz ([]:zo))] ⟨[6,0,1,2,3,4,5,7],[],Jl,KB⟩ ⟨[(3,.grow 7 3)],[],[]⟩ (bl 3 4) (pp (fl ([]:zo) nn) (tt k1 (pp (pp (xr l1) (xw aK)) (tt k0 (pp (pp (xr l0) (xw cA)) nn))))))))))))
theorem u0o (q:Op) (l0:zp) (l1:zp) (n:Nat) (vs:zy) (h:Yj (Vw q l0 l1) n (X7 q l0 l1)=.ret vs):Ji prog (Zy prog 143) (Zb prog 143 [(dt l0),(dt l1)] true []) vs:=by have:=Zf (w8g q l0 l1) n _ (x9a q l0 l1);rwa [h] at this
def Hg (k:Nat) (a b:zp):Int:=bif Dp a != 0 then Dp a else bif Dp b != 0 then Dp b else Dc (ET k a b).length
theorem y3n (i:Int) (l:zp):(Vv i l).length =2*l.length:=by
 induction l with
 | nil=>rfl
 | cons r l ih=>grind [Vv]
theorem x1u (j:Int) (l:zp) (i:Nat) (h:i<l.length):Vv j (l.drop i)=Vv j [rd l i]++Vv j (l.drop (i+1)):=by rw [Yn h];rfl
theorem v8t {j:Int} {l:zp} {e:R3} (h:e∈Vv j l):e.b=j/\(e.c=1\/e.c= -1):=by
 obtain ⟨s,_,h⟩:=AM.1 h
 grind
theorem w4u (f:Bool->Bool->Bool) (e:R3) (r:zo) (o p last:Int) (inn:Bool) (out:zp):Dv f (e::r) o p last inn out=Dv f r (bif e.b == 0 then o+e.c else o) (bif e.b == 0 then p else p+e.c) e.a (f (decide ((bif e.b == 0 then o+e.c else o)>0)) (decide ((bif e.b == 0 then p else p+e.c)>0))) (Us out last inn e.a):=rfl
section
variable (q:Op) (a b:zp)
theorem u7d (L:zo) (hL:L.length<=2000) (hE: ∀i,i<L.length->((rd L i).b =0\/(rd L i).b =1)/\((rd L i).c =1\/(rd L i).c = -1)): ∀(k i:Nat) (o p last:Int) (inn:Bool) (out:zp),i+k=L.length-> -(i:Int)<=o->o<=i-> -(i:Int)<=p->p<=i->out.length<=i->
  ∃n,Yj (Vw q a b) n (.to (.h2 L (L.length:Int) (i:Int) o p last inn out))=.ret (Qv (Dv (Dr q.k) (L.drop i) o p last inn out))
 | 0,i,o,p,last,inn,out,h,ho1,ho2,hp1,hp2,hout=>by
  refine ⟨1,?_⟩;rw [Zx,Aw (by omega)];unfold Qv;show _=Xk.ret (bif decide ((out.length:Int)>400) then _ else _);rcases Xw (decide ((out.length:Int)>400)) with g | g <;>
  simp (disch:=omega) only [Vw,Yc,g,Ab,Aa,Zc];rfl
 | k + 1,i,o,p,last,inn,out,h,ho1,ho2,hp1,hp2,hout=>by
  obtain ⟨hb,hc⟩:=hE i (by omega);have hcl:=z3w out last inn (rd L i).a;have hcf: ∀x y,cV q x y=Dr q.k x y:=fun _ _=>rfl;have hlt:decide ((i:Int)<(L.length:Int))=true:=Af (by omega);have hw:wrap .i64 (o+(rd L i).c)=o+(rd L i).c :=Zq (by grind);have hw':wrap .i64 (p+(rd L i).c)=p+(rd L i).c :=Zq (by grind);have key: ∀(o' p':Int) (out':zp),-((i+1:Nat):Int)<=o'->o'<=((i+1:Nat):Int)-> -((i+1:Nat):Int)<=p'->p'<=((i+1:Nat):Int)->out'=Us out last inn (rd L i).a ->
    Vw q a b (.h2 L (L.length:Int) (i:Int) o p last inn out)=.to (.h2 L (L.length:Int) ((i+1:Nat):Int) o' p' (rd L i).a (Dr q.k (decide (o'>0)) (decide (p'>0))) out')->
    Dv (Dr q.k) (L.drop i) o p last inn out=Dv (Dr q.k) (L.drop (i+1)) o' p' (rd L i).a (Dr q.k (decide (o'>0)) (decide (p'>0))) out'->
    ∃n,Yj (Vw q a b) n (.to (.h2 L (L.length:Int) (i:Int) o p last inn out))=.ret (Qv (Dv (Dr q.k) (L.drop i) o p last inn out)):=fun o' p' out' b1 b2 b3 b4 eo hs hq=>by
   obtain ⟨n,hn⟩:=u7d L hL hE k (i+1) o' p' (rd L i).a (Dr q.k (decide (o'>0)) (decide (p'>0))) out' (by omega) b1 b2 b3 b4 (by grind);refine ⟨n+1,?_⟩;rw [Zx,hs,hq];exact hn
  rcases hb with hb | hb
  .have hz:decide ((rd L i).b =Int.ofNat 0)=true:=Af hb;have hb0:((rd L i).b == 0)=true:=by rw [hb];rfl
   refine key (o+(rd L i).c) p (Us out last inn (rd L i).a) (by grind) (by grind) (by omega) (by omega) rfl ?_ ?_
   .unfold Us;cases inn with
    | false=>simp (disch:=omega) only [Vw,hlt,hz,hw,hw',hcf,Zt,Zn,Yp,Zq,Zv,Zj,Ah,Aj,Ab,Aa,AB]
    | true=>
     rcases Xw (last == (rd L i).a) with g | g
     .simp (disch:=omega) only [Vw,hlt,hz,hw,hw',hcf,Zt,Zn,Yp,Zq,Zv,Zj,Ah,Aj,Ab,Aa,Ax,g]
     .by_cases h0:0<out.length
      .rw [Af h0,Al];rcases Xw ((rd out (out.length - 1)).b == last) with q2 | q2
       .simp (disch:=omega) only [Vw,hlt,hz,hw,hw',hcf,Zt,Zn,Yp,Zq,Zv,Zj,Ah,Aj,Ab,Aa,Ax,g,q2,Yo,Zo]
       .simp (disch:=omega) only [Vw,hlt,hz,hw,hw',hcf,Zt,Zn,Yp,Zq,Zv,Zj,Ah,Aj,Ab,Aa,Ax,Al,g,q2,Yo,Zo,Yg,Zh,Yb,Au]
      .rw [An h0,AY];simp (disch:=omega) only [Vw,hlt,hz,hw,hw',hcf,Zt,Zn,Yp,Zq,Zv,Zj,Ah,Aj,Ab,Aa,Ax,Al,g,Xb,Yg,Zh,Yb,Au]
   simp_all [Yn,w4u]
  .have hz0:decide ((rd L i).b =Int.ofNat 0)=false:=An (by grind);have hz:decide ((rd L i).b =Int.ofNat 1)=true:=Af hb;have hb0:((rd L i).b == 0)=false:=by rw [hb];rfl
   refine key o (p+(rd L i).c) (Us out last inn (rd L i).a) (by omega) (by omega) (by grind) (by grind) rfl ?_ ?_
   .unfold Us;cases inn with
    | false=>simp (disch:=omega) only [Vw,hlt,hz0,hz,hw,hw',hcf,Zt,Zn,Yp,Zq,Zv,Zj,Ah,Aj,Ab,Aa,AB]
    | true=>
     rcases Xw (last == (rd L i).a) with g | g
     .simp (disch:=omega) only [Vw,hlt,hz0,hz,hw,hw',hcf,Zt,Zn,Yp,Zq,Zv,Zj,Ah,Aj,Ab,Aa,Ax,g]
     .by_cases h0:0<out.length
      .rw [Af h0,Al];rcases Xw ((rd out (out.length - 1)).b == last) with q2 | q2
       .simp (disch:=omega) only [Vw,hlt,hz0,hz,hw,hw',hcf,Zt,Zn,Yp,Zq,Zv,Zj,Ah,Aj,Ab,Aa,Ax,g,q2,Yo,Zo]
       .simp (disch:=omega) only [Vw,hlt,hz0,hz,hw,hw',hcf,Zt,Zn,Yp,Zq,Zv,Zj,Ah,Aj,Ab,Aa,Ax,Al,g,q2,Yo,Zo,Yg,Zh,Yb,Au]
      .rw [An h0,AY];simp (disch:=omega) only [Vw,hlt,hz0,hz,hw,hw',hcf,Zt,Zn,Yp,Zq,Zv,Zj,Ah,Aj,Ab,Aa,Ax,Al,g,Xb,Yg,Zh,Yb,Au]
   simp_all [Yn,w4u]
theorem u7e (ha:a.length<=400) (hb:b.length<=400) (va:a.all Ca=true) (vb:b.all Ca=true): ∀(k i:Nat) (E:zo),i+k=b.length->E.length=2*a.length+2*i->E++Vv 1 (b.drop i)=Vv 0 a++Vv 1 b-> ∃n,Yj (Vw q a b) n (.to (.h1 E (i:Int)))=.ret (Qv (ET q.k a b))
 | 0,i,E,h,hl,he=>by
  rw [Aw (by omega),show Vv 1 []=[] from rfl,AG] at he;subst he;have hbnd:DS (Vv 0 a++Vv 1 b)=true:=by
   grind [x7e,DS]
  have hsl:=y6e (Vv 0 a++Vv 1 b);obtain ⟨hp,_⟩:=Qo _ hbnd;obtain ⟨n,hn⟩:=u7d q a b (Ck (Vv 0 a++Vv 1 b)) (by grind) (fun i hi=>by
   have hm:rd (Ck (Vv 0 a++Vv 1 b)) i∈Vv 0 a++Vv 1 b:=hp.mem_iff.1 (by grind [Xm])
   grind [v8t]) (Ck (Vv 0 a++Vv 1 b)).length 0 0 0 0 false [] (Ah _) (by omega) (by omega) (by omega) (by omega) (AA _)
  refine ⟨n+1,?_⟩;rw [Zx];have step:Vw q a b (.h1 (Vv 0 a++Vv 1 b) (i:Int))=.to (.h2 (Ck (Vv 0 a++Vv 1 b)) (((Vv 0 a++Vv 1 b).length :Nat):Int) 0 0 0 0 false []):=by
   grind [Vw,Zd]
  rw [step,<-hsl];exact hn
 | k+1,i,E,h,hl,he=>by rw [x1u 1 b i (by omega),<-AH] at he;obtain ⟨n,hn⟩:=u7e ha hb va vb k (i+1) (E++Vv 1 [rd b i]) (by omega) (by grind [y3n]) he;refine ⟨n+1,?_⟩;rw [Zx];simp (disch:=omega) only [Vw,Yg,Zh,Yb,Au,Al,Zt,Zn,Yp,Zq,Zv,Zj,Ah,Aj,Ab,Aa];exact hn
theorem u7f (ha:a.length<=400) (hb:b.length<=400) (va:a.all Ca=true) (vb:b.all Ca=true): ∀(k i:Nat) (E:zo),i+k=a.length->E.length=2*i->E++Vv 0 (a.drop i)=Vv 0 a-> ∃n,Yj (Vw q a b) n (.to (.h0 E (i:Int)))=.ret (Qv (ET q.k a b))
 | 0,i,E,h,hl,he=>by
  rw [Aw (by omega),show Vv 0 []=[] from rfl,AG] at he;subst he;obtain ⟨n,hn⟩:=u7e q a b ha hb va vb b.length 0 (Vv 0 a) (Ah _) (by omega) (by grind);refine ⟨n+1,?_⟩
  grind [Zx,Vw]
 | k+1,i,E,h,hl,he=>by rw [x1u 0 a i (by omega),<-AH] at he;obtain ⟨n,hn⟩:=u7f ha hb va vb k (i+1) (E++Vv 0 [rd a i]) (by omega) (by grind [y3n]) he;refine ⟨n+1,?_⟩;rw [Zx];simp (disch:=omega) only [Vw,Yg,Zh,Yb,Au,Al,Zt,Zn,Yp,Zq,Zv,Zj,Ah,Aj,Ab,Aa];exact hn
theorem j2q : ∃n,Yj (Vw q a b) n (X7 q a b)=.ret (Df (Hg q.k a b) (ET q.k a b)):=by
 unfold X7;have o: ∀l,SX l=true:=fun _=>rfl;simp only [Zd,o,Ab];rcases Xw (Dp a != 0) with q1 | q1
 .exact ⟨0,by simp only [Hg,q1,Ab,HS _ q1];rfl⟩
 rcases Xw (Dp b != 0) with q2 | q2
 .exact ⟨0,by simp only [Hg,q1,q2,Ab,Aa,HS _ q2];rfl⟩
 obtain ⟨a1,a2,_⟩:=(x2k a).1 (by grind);obtain ⟨b1,b2,_⟩:=(x2k b).1 (by grind);obtain ⟨n,hn⟩:=u7f q a b a1 b1 a2 b2 a.length 0 [] (Ah _) rfl (by grind)
 grind [Hg,YI]
end
def EO (q:Op) (a b:zp):zp:=E6 (Hg q.k a b) (ET q.k a b)
def Re (q:Op) (a b:zp):Int:=Hg q.k a b
def x2l (q:Op) (a b:zp):Bool:=true
def fSp (q:Op):zy->Option (CA×Bool)
 | [a1,a2]=>match C4 R2 a1,C4 R2 a2 with
  | some (L1,g1,n1),some (L2,g2,n2)=>some (.tup [.dat (EO q L1 L2).length (Zz (EO q L1 L2)),.int .i64 (Re q L1 L2)],CU R2 n1 g1&&(CU R2 n2 g2&&x2l q L1 L2))
  | _,_=>none
 | _=>none
theorem PR (q:Op) {S:CC} (hS:Zu prog S):Zu prog (S.with (nSp q) (fSp q)):=by
 refine GR hS (by cases q <;> kernel_rfl) fun args v h=> ?_;unfold fSp at h;split at h
 .rename_i a1 a2;split at h
  .rename_i L1 g1 n1 L2 g2 n2 e1 e2;simp only [Ae,Ad,Ac] at h;obtain ⟨rfl,ho1,ho2,_⟩:=h;obtain ⟨N,hN⟩:=j2q q L1 L2;exact ⟨_,_,(.cons (Xy e1 ho1) (.cons (Xy e2 ho2) .nil)),SB _ _,u0o q L1 L2 N _ hN,3,So _ _⟩
  .cases h
 .cases h
def Ub :CC:=Ua.with (nSp .u) (fSp .u)
theorem GK :Zu prog Ub:=PR .u Dk
inductive Hy where
 | h0 (v8:Int)
def Np (l0:zu):Hy->CJ
 | .h0 v8=>⟨⟨19,0,true⟩,none,(Zk prog 243 (pn 37) 0),none,(Zy prog 3),⟨Yy [(0,(dt l0)),(1,(.fn 231 [])),(7,(ii (l0.length:Int))),(8,(ii v8))],Wf [] 0,0,[],true⟩,[⟨⟨9,0,true⟩,(Wz prog 230 [1,0] 2),(Zk prog 230 [1,0] 1),none,(Zy prog 3),Yy [(5,(dt l0)),(6,(.fn 231 []))]⟩,⟨⟨23,0,true⟩,(Wz prog 201 (pn 19) 1),(Zk prog 201 (pn 19) 1),none,(Zy prog 9),Yy [(0,(dt l0)),(8,(dt l0))]⟩],.leaf⟩
def LX :List (Option zt):=[some [0,1,7,8],some [5,6],some [0,8]]
def LY :List (Option zt):=[]
def HK (l0:zu):Hy->Xk Hy
 | .h0 v8=>let e:=CB (Vy (CB l0));let f:=rd l0 v8.toNat;(bif (decide (v8<(l0.length:Int))) then (bif ((decide (0<=v8/\v8<(l0.length:Int)))&&true) then (bif (!(Oh f.a f.b f.c f.d)) then (bif (decide (v8>=0)) then (.ret [(.int .i64 8)]) else (bif (JH (CB l0)) then (bif ((Fh (CB l0)) != 0) then (.ret [(.int .i64 8)]) else (bif (Wb e (CB l0)) then (bif (!(Uh e (CB l0))) then (.ret [(.int .i64 8)]) else (.ret [(.int .i64 0)])) else .stuck)) else .stuck)) else (.to (.h0 (wrap .i64 (v8+1))))) else .stuck) else (bif (JH (CB l0)) then (bif ((Fh (CB l0)) != 0) then (.ret [(.int .i64 8)]) else (bif (Wb e (CB l0)) then (bif (!(Uh e (CB l0))) then (.ret [(.int .i64 8)]) else (.ret [(.int .i64 0)])) else .stuck)) else .stuck))
def SE (l0:zu):Xk Hy:=(bif (decide ((l0.length:Int)>400)) then (.ret [(.int .i64 4)]) else (.to (.h0 0)))
theorem w9n (l0:zu): ∀s,Xh prog (Zy prog 201) (Np l0) (Np l0 s) (HK l0 s)
 | .h0 v8=>let f:=Vy (CB l0);(lb (fun k0=>(lo fun aK=>let c:=ww aK (tt k0 nn);(lb (fun k1=>(lb (fun k2=>(lr 23 201 (pn 75) 1 9 [(2,(ii 8))] (sl GK 53 [] (b8 [2]) b7 (CL 3 []) (tt k2 (tt k1 c))))) (fun k2=>(lo fun cT=>let a:=pp (pp (xr l0) (xw cT)) (tt k2 (tt k1 c));(lb (fun k3=>(lr 23 201 (pn 311) 1 9 [(2,(ii 8))] (sl GK 77 [] (b8 [2]) b7 (bl 8 251) (tt k3 a)))) (fun k3=>(lo fun cU=>let d:=pp (xr l0) (xw cU);(lb (fun k4=>(lr 23 201 (pn 311) 1 9 [(2,(ii 8))] (sl GK 77 [] (b8 [2]) b7 (bl 8 131) (tt k4 (pp (pp (xI R4 f.length (Zz f)) d) (tt k3 a)))))) (fun k4=>(lr 23 3 (pn 191) 1 9 [(2,(ii 0))] (sl GK 78 [] (b8 [2]) b7 (bl 8 3) (tt k4 (pp (pp (xI R4 f.length (Zz f)) d) (tt k3 a)))))))))))))) (fun k1=>(sl GK 44 [] ⟨[],[],LX,LY⟩ b7 (bl 2 1) (tt k1 c)))))) (fun k0=>(lo fun aK=>let b:=pp (pp (xr l0) (xw aK)) (tt k0 nn);(lb (fun k1=>(lr 23 201 (pn 311) 1 9 [(2,(ii 8))] (sl GK 46 [] (b8 [2]) b7 (bl 7 124) (tt k1 b)))) (fun k1=>(lo fun bS=>let e:=pp (xr l0) (xw bS);(lb (fun k2=>(lr 23 201 (pn 311) 1 9 [(2,(ii 8))] (sl GK 46 [] (b8 [2]) b7 (bl 7 64) (tt k2 (pp (pp (xI R4 f.length (Zz f)) e) (tt k1 b)))))) (fun k2=>(lr 23 3 (pn 191) 1 9 [(2,(ii 0))] (sl GK 47 [] (b8 [2]) b7 (bl 7 0) (tt k2 (pp (pp (xI R4 f.length (Zz f)) e) (tt k1 b)))))))))))))
theorem w0k (l0:zu):Xh prog (Zy prog 201) (Np l0) (Zb prog 201 [(dt l0)] true []) (SE l0):=(lb (fun k0=>(lr 23 201 (pn 37) 1 9 [(2,(ii 4))] (sl GK 16 [] (b8 [2]) b7 [true] (tt k0 nn)))) (fun k0=>(sl GK 40 [] ⟨[],[],LX,LY⟩ b7 [false] (tt k0 nn))))
theorem u2x (l0:zu) (n:Nat) (vs:zy) (h:Yj (HK l0) n (SE l0)=.ret vs):Ji prog (Zy prog 201) (Zb prog 201 [(dt l0)] true []) vs:=by have:=Zf (w9n l0) n _ (w0k l0);rwa [h] at this
def G3 (l:zu):Int:=bif Fh l != 0 then 8 else bif Uh (Vy l) l then 0 else 8
def DU (l:zu):Int:=bif decide (400<l.length) then 4 else bif l.all CW then G3 l else 8
def ST (l:zu):Bool:=true
theorem w1p (l:zu):(Vy l).length <=400:=by
 grind [Vy,Ob,E6,Dc]
theorem u9m (l:zu) (hl:l.length<=400): ∀(k i:Nat),i+k=l.length->(∀s∈l.take i,CW s=true)-> ∃n,Yj (HK l) n (.to (.h0 (i:Int)))=.ret (bif l.all CW then [.int .i64 (G3 l)] else [.int .i64 8])
 | 0,i,h,ht=>by
  have hv:l.all CW=true:=As.2 fun s hs=>ht s (by grind);have w:JH l=true:=Af hl;refine ⟨1,?_⟩;rw [Zx,hv,Ab];have w2:Wb (Vy l) l=true:=Af (by have:=w1p l;omega);unfold G3;rcases Xw (Fh l != 0) with q | q
  .grind [HK,Zd,Zc]
  .rcases Xw (Uh (Vy l) l) with q2 | q2 <;>
   simp (disch:=omega) only [HK,Zd,w,w2,q,q2,Yc,Ax,AB,Ab,Aa,Zc]
 | k+1,i,h,ht=>by
  have hi:i<l.length:=by omega
  have hs:HK l (.h0 (i:Int))=bif CW (rd l i) then .to (.h0 ((i+1:Nat):Int)) else .ret [.int .i64 8]:=by have e:Oh (rd l i).a (rd l i).b (rd l i).c (rd l i).d =CW (rd l i):=rfl;simp (disch:=omega) only [HK,e,RF,TH,Y9,Zn,Zq,Zv,Zj,Aj,Ab,Aa]
  rcases Xw (CW (rd l i)) with q | q
  .obtain ⟨n,hn⟩:=u9m l hl k (i+1) (by omega) (fun s hs=>by
    rw [A4] at hs
    grind [Xm])
   refine ⟨n+1,?_⟩
   grind [Zx]
  .have hv:l.all CW=false:=A7.2 fun e=>by
    grind [Xm]
   refine ⟨1,?_⟩
   grind [Zx,Zc]
theorem u2w (l:zu): ∃n,Yj (HK l) n (SE l)=.ret (bif decide (400<l.length) then [.int .i64 4] else bif l.all CW then [.int .i64 (G3 l)] else [.int .i64 8]):=by
 unfold SE;by_cases h:400<l.length
 .refine ⟨0,?_⟩;rw [Af h,Yo (show (l.length:Int)>400 by omega)];rfl
 .obtain ⟨n,hn⟩:=u9m l (by omega) l.length 0 (Ah _) (fun s hs=>by simp at hs)
  grind
theorem j4w (l:zu) (h:ST l=true): ∃n,Yj (HK l) n (SE l)=.ret [.int .i64 (DU l)]:=by
 obtain ⟨n,hn⟩:=u2w l
 grind [DU]
def PX :zy->Option (CA×Bool)
 | [a0]=>match C4 R4 a0 with
  | some (L0,g0,n0)=>some (.int .i64 (DU L0),CU R4 n0 g0&&(ST L0))
  | _=>none
 | _=>none
theorem j7y {S:CC} (hS:Zu prog S):Zu prog (S.with w6e PX):=by
 refine C3 hS (by kernel_rfl) fun args v h=> ?_;unfold PX at h;split at h
 .rename_i a0;split at h
  .rename_i L0 g0 n0 e0;simp only [Ae,Ad,Ac] at h;obtain ⟨rfl,ho0,hw⟩:=h;obtain ⟨N,hN⟩:=j4w L0 hw;exact ⟨_,_,(.cons (Xy e0 ho0) .nil),rfl,u2x L0 N _ hN,3,rfl⟩
  .cases h
 .cases h
def Uc :CC:=(Ub.with w6e PX)
theorem Qy :Zu prog Uc:=(j7y GK)
inductive Hx where
 | h0 (v16:Int) (aB:zq)
 | h1 (v16:Int) (aB:zq)
 | h2 (v4:Int) (aG:zu) (aV:zp) (bE:Int) (bF:Int) (aF:Nat) (aJ:zq)
 | h3 (v4:Int) (v38:Int) (aG:zu) (aV:zp) (bE:Int) (bF:Int) (aF:Nat) (aJ:zq) (aU:Int) (bB:Int) (aA:zp)
 | h4 (v4:Int) (v38:Int) (aG:zu) (aV:zp) (bE:Int) (bF:Int) (aF:Nat) (aJ:zq) (aU:Int) (bB:Int) (aA:zp) (aI:zp)
 | h5 (v1:Int) (v2:Int) (v71:zp) (v72:Int) (v73:Int) (aZ:Int) (aC:zu) (bG:Int) (aF:Nat) (aJ:zq) (aU:zp) (bB:zp)
 | h6 (v2:Int) (v8:Int) (dP:Int) (dQ:zp) (aZ:Int) (aC:zu) (bI:zp) (bG:Int) (bY:Int) (bK:Nat) (bN:zq) (aA:zp) (aI:zp)
def G0 (q:Op) (l0:zu) (l1:zu):Hx->CJ
 | .h0 v16 aB=>⟨⟨34,0,true⟩,none,(Zk prog 170 (pn 19659) 0),none,(Zy prog 9),⟨Yy [(1,(.ptr 0 0)),(3,(.ptr 2 0)),(8,(.sl 1 0 2 (.un 1))),(9,(ii 2)),(10,(ii 0)),(14,(dt l0)),(15,(ii (l0.length:Int))),(16,(ii v16))],Wf [⟨[(.sl 1 0 2 (.un 1))],276,none⟩,⟨[(dt l0),(dt l1)],196,none⟩,⟨[(.sla 7 1 0 aB.length (.un 1))],83,none⟩,⟨[(.fn 143 [])],208,none⟩,⟨[.nils],196,none⟩,⟨[(ii 0)],24,none⟩,⟨[.nils,.nils,(ii 0),(ii 0)],235,none⟩,(rz aB 3 1)] 0,8,[],true⟩,[⟨⟨49,0,true⟩,(Wz prog 142 (pn 39) 3),(Zk prog 142 (pn 39) 1),none,(Zy prog 142),Yy [(5,(.ptr 3 0)),(6,(.ptr 4 0)),(7,(.ptr 5 0)),(9,(.ptr 6 0)),(21,(.sl 1 0 2 (.un 1)))]⟩,⟨⟨11,0,true⟩,(Wz prog 105 [1,0] 2),(Zk prog 105 [1,0] 1),none,(Zy prog 17),Yy [(6,(dt l0)),(7,(dt l1))]⟩],.leaf⟩
 | .h1 v16 aB=>⟨⟨34,0,true⟩,none,(Zk prog 170 (pn 19659) 0),none,(Zy prog 9),⟨Yy [(1,(.ptr 0 0)),(3,(.ptr 2 0)),(8,(.sl 1 0 2 (.un 1))),(9,(ii 2)),(10,(ii 1)),(14,(dt l1)),(15,(ii (l1.length:Int))),(16,(ii v16))],Wf [⟨[(.sl 1 0 2 (.un 1))],276,none⟩,⟨[(dt l0),(dt l1)],196,none⟩,⟨[(.sla 7 1 0 aB.length (.un 1))],83,none⟩,⟨[(.fn 143 [])],208,none⟩,⟨[.nils],196,none⟩,⟨[(ii 0)],24,none⟩,⟨[.nils,.nils,(ii 0),(ii 0)],235,none⟩,(rz aB 3 1)] 0,8,[],true⟩,[⟨⟨49,0,true⟩,(Wz prog 142 (pn 39) 3),(Zk prog 142 (pn 39) 1),none,(Zy prog 142),Yy [(5,(.ptr 3 0)),(6,(.ptr 4 0)),(7,(.ptr 5 0)),(9,(.ptr 6 0)),(21,(.sl 1 0 2 (.un 1)))]⟩,⟨⟨11,0,true⟩,(Wz prog 105 [1,0] 2),(Zk prog 105 [1,0] 1),none,(Zy prog 17),Yy [(6,(dt l0)),(7,(dt l1))]⟩],.leaf⟩
 | .h2 v4 aG aV bE bF aF aJ=>⟨⟨76,0,true⟩,none,(Zk prog 202 [1,0,0] 0),none,[],⟨Yy [(0,(.yld 0)),(1,(.ptr 5 0)),(2,(.ptr 7 0)),(4,(ii v4))],Cs [(1,⟨[(.fn 143 [])],208,none⟩),(2,⟨[.nils],196,none⟩),(3,⟨[(ii 0)],24,none⟩),(4,⟨[(.sla 9 4 0 aG.length (.un 4)),(dt aV),(ii bE),(ii bF)],235,none⟩),(5,⟨[(.sla 6 1 0 aF (.un 1))],83,none⟩),(6,(rz aJ 3 1)),(7,⟨[(.sl 8 0 2 (.un 1))],276,none⟩),(8,⟨[(dt l0),(dt l1)],196,none⟩),(9,(rz aG 168 4))],10,[],true⟩,[⟨⟨49,0,true⟩,none,(.inRangeFunc 0::(Zk prog 142 (pn 87) 1)),none,(Zy prog 142),Yy [(6,(.ptr 2 0)),(7,(.ptr 3 0)),(9,(.ptr 4 0))]⟩,⟨⟨11,0,true⟩,(Wz prog 105 [1,0] 2),(Zk prog 105 [1,0] 1),none,(Zy prog 17),Yy [(6,(dt l0)),(7,(dt l1))]⟩],(DA [(0,⟨.ready,none,49,Yy [(5,(.ptr 1 0)),(6,(.ptr 2 0)),(7,(.ptr 3 0)),(9,(.ptr 4 0))],[23],(Xt prog 142 [1,1,1,0,1,0,0]),(Xt prog 142 [1,1,1,0,1,0,1])⟩)])⟩
 | .h3 v4 v38 aG aV bE bF aF aJ aU bB aA=>⟨⟨76,0,true⟩,none,(Zk prog 202 (pn 629065) 0),none,[],⟨Yy [(0,(.yld 0)),(1,(.ptr 5 0)),(2,(.ptr 7 0)),(4,(ii v4)),(5,(.ptr 9 0)),(6,(ii 0)),(29,(.sl 8 0 2 (.un 1))),(30,(ii 2)),(31,(ii 0)),(36,(dt l0)),(37,(ii (l0.length:Int))),(38,(ii v38))],Cs [(1,⟨[(.fn 143 [])],208,none⟩),(2,⟨[.nils],196,none⟩),(3,⟨[(ii 0)],24,none⟩),(4,⟨[(.sla 12 4 0 aG.length (.un 4)),(dt aV),(ii bE),(ii bF)],235,none⟩),(5,⟨[(.sla 6 1 0 aF (.un 1))],83,none⟩),(6,(rz aJ 3 1)),(7,⟨[(.sl 8 0 2 (.un 1))],276,none⟩),(8,⟨[(dt l0),(dt l1)],196,none⟩),(9,⟨[(ii aU),(ii bB),(.sl 10 0 2 (.ex 2))],240,none⟩),(10,⟨[(.sla 11 2 0 aA.length (.un 2)),.nils],233,none⟩),(11,(rz aA 260 2)),(12,(rz aG 168 4))],13,[],true⟩,[⟨⟨49,0,true⟩,none,(.inRangeFunc 0::(Zk prog 142 (pn 87) 1)),none,(Zy prog 142),Yy [(6,(.ptr 2 0)),(7,(.ptr 3 0)),(9,(.ptr 4 0))]⟩,⟨⟨11,0,true⟩,(Wz prog 105 [1,0] 2),(Zk prog 105 [1,0] 1),none,(Zy prog 17),Yy [(6,(dt l0)),(7,(dt l1))]⟩],(DA [(0,⟨.ready,none,49,Yy [(5,(.ptr 1 0)),(6,(.ptr 2 0)),(7,(.ptr 3 0)),(9,(.ptr 4 0))],[23],(Xt prog 142 [1,1,1,0,1,0,0]),(Xt prog 142 [1,1,1,0,1,0,1])⟩)])⟩
 | .h4 v4 v38 aG aV bE bF aF aJ aU bB aA aI=>⟨⟨76,0,true⟩,none,(Zk prog 202 (pn 629065) 0),none,[],⟨Yy [(0,(.yld 0)),(1,(.ptr 5 0)),(2,(.ptr 7 0)),(4,(ii v4)),(5,(.ptr 9 0)),(6,(ii 1)),(29,(.sl 8 0 2 (.un 1))),(30,(ii 2)),(31,(ii 1)),(36,(dt l1)),(37,(ii (l1.length:Int))),(38,(ii v38))],Cs [(1,⟨[(.fn 143 [])],208,none⟩),(2,⟨[.nils],196,none⟩),(3,⟨[(ii 0)],24,none⟩),(4,⟨[(.sla 13 4 0 aG.length (.un 4)),(dt aV),(ii bE),(ii bF)],235,none⟩),(5,⟨[(.sla 6 1 0 aF (.un 1))],83,none⟩),(6,(rz aJ 3 1)),(7,⟨[(.sl 8 0 2 (.un 1))],276,none⟩),(8,⟨[(dt l0),(dt l1)],196,none⟩),(9,⟨[(ii aU),(ii bB),(.sl 10 0 2 (.ex 2))],240,none⟩),(10,⟨[(.sla 11 2 0 aA.length (.un 2)),(.sla 12 2 0 aI.length (.un 2))],233,none⟩),(11,(rz aA 260 2)),(12,(rz aI 260 2)),(13,(rz aG 168 4))],14,[],true⟩,[⟨⟨49,0,true⟩,none,(.inRangeFunc 0::(Zk prog 142 (pn 87) 1)),none,(Zy prog 142),Yy [(6,(.ptr 2 0)),(7,(.ptr 3 0)),(9,(.ptr 4 0))]⟩,⟨⟨11,0,true⟩,(Wz prog 105 [1,0] 2),(Zk prog 105 [1,0] 1),none,(Zy prog 17),Yy [(6,(dt l0)),(7,(dt l1))]⟩],(DA [(0,⟨.ready,none,49,Yy [(5,(.ptr 1 0)),(6,(.ptr 2 0)),(7,(.ptr 3 0)),(9,(.ptr 4 0))],[23],(Xt prog 142 [1,1,1,0,1,0,0]),(Xt prog 142 [1,1,1,0,1,0,1])⟩)])⟩
 | .h5 v1 v2 v71 v72 v73 aZ aC bG aF aJ aU bB=>⟨⟨94,0,true⟩,none,(Zk prog 171 (pn 39) 0),none,[],⟨Yy [(0,(.ptr 0 0)),(1,(ii v1)),(2,(ii v2)),(71,(dt v71)),(72,(ii v72)),(73,(ii v73))],Cs [(0,⟨[(.sla 10 4 0 aC.length (.un 4)),(dt v71),(ii bG),(ii v2)],235,none⟩),(2,⟨[(.fn 143 [])],208,none⟩),(3,⟨[.nils],196,none⟩),(4,⟨[(ii 0)],24,none⟩),(5,⟨[(.sla 6 1 0 aF (.un 1))],83,none⟩),(6,(rz aJ 3 1)),(7,⟨[(.sl 8 0 2 (.un 1))],276,none⟩),(8,⟨[(dt l0),(dt l1)],196,none⟩),(9,⟨[(dt aU),(dt bB)],233,none⟩),(10,(rz aC 168 4))],11,[],true⟩,[⟨⟨49,0,true⟩,(Wz prog 142 (pn 1879) 5),(Zk prog 142 (pn 1879) 1),(some 1),[],Yy [(9,(.ptr 0 0)),(41,(ii v1)),(43,(ii v2)),(44,(dt v71))]⟩,⟨⟨76,0,true⟩,(Wz prog 202 (pn 713) 2),(Zk prog 202 (pn 713) 1),none,[],Yy [(0,(.yld 1)),(1,(.ptr 5 0)),(2,(.ptr 7 0)),(4,(ii aZ)),(72,(.yld 1)),(73,(.agg [(ii v1),(ii v2),(.sl 9 0 2 (.ex 2))]))]⟩,⟨⟨49,0,true⟩,none,(.inRangeFunc 1::(Zk prog 142 (pn 87) 1)),none,(Zy prog 142),Yy [(6,(.ptr 3 0)),(7,(.ptr 4 0)),(9,(.ptr 0 0))]⟩,⟨⟨11,0,true⟩,(Wz prog 105 [1,0] 2),(Zk prog 105 [1,0] 1),none,(Zy prog 17),Yy [(6,(dt l0)),(7,(dt l1))]⟩],(DA [(1,⟨.busy,none,49,Yy [(5,(.ptr 2 0)),(6,(.ptr 3 0)),(7,(.ptr 4 0)),(9,(.ptr 0 0))],[23],(Xt prog 142 [1,1,1,0,1,0,0]),(Xt prog 142 [1,1,1,0,1,0,1])⟩)])⟩
 | .h6 v2 v8 dP dQ aZ aC bI bG bY bK bN aA aI=>⟨⟨94,0,true⟩,none,(Zk prog 171 (pn 146) 0),none,[],⟨Yy [(0,(.ptr 0 0)),(2,(ii v2)),(8,(ii v8))],Cs [(0,⟨[(.sla 1 4 0 aC.length (.un 4)),(dt bI),(ii bG),(ii bY)],235,none⟩),(1,(rz aC 168 4)),(3,⟨[(.fn 143 [])],208,none⟩),(4,⟨[.nils],196,none⟩),(5,⟨[(ii 0)],24,none⟩),(6,⟨[(.sla 7 1 0 bK (.un 1))],83,none⟩),(7,(rz bN 3 1)),(8,⟨[(.sl 9 0 2 (.un 1))],276,none⟩),(9,⟨[(dt l0),(dt l1)],196,none⟩),(10,⟨[(dt aA),(dt aI)],233,none⟩)],11,[],true⟩,[⟨⟨49,0,true⟩,(Wz prog 142 (pn 1879) 5),(Zk prog 142 (pn 1879) 1),(some 2),[],Yy [(9,(.ptr 0 0)),(41,(ii dP)),(43,(ii v2)),(44,(dt dQ))]⟩,⟨⟨76,0,true⟩,(Wz prog 202 (pn 713) 2),(Zk prog 202 (pn 713) 1),none,[],Yy [(0,(.yld 2)),(1,(.ptr 6 0)),(2,(.ptr 8 0)),(4,(ii aZ)),(72,(.yld 2)),(73,(.agg [(ii dP),(ii v2),(.sl 10 0 2 (.ex 2))]))]⟩,⟨⟨49,0,true⟩,none,(.inRangeFunc 2::(Zk prog 142 (pn 87) 1)),none,(Zy prog 142),Yy [(6,(.ptr 4 0)),(7,(.ptr 5 0)),(9,(.ptr 0 0))]⟩,⟨⟨11,0,true⟩,(Wz prog 105 [1,0] 2),(Zk prog 105 [1,0] 1),none,(Zy prog 17),Yy [(6,(dt l0)),(7,(dt l1))]⟩],(DA [(2,⟨.busy,none,49,Yy [(5,(.ptr 3 0)),(6,(.ptr 4 0)),(7,(.ptr 5 0)),(9,(.ptr 0 0))],[23],(Xt prog 142 [1,1,1,0,1,0,0]),(Xt prog 142 [1,1,1,0,1,0,1])⟩)])⟩
def LT :List (Option zt):=[some [1,3,8,9,10,14,15,16],some [5,6,7,9,21],some [6,7]]
def LW :List (Option zt):=[]
def LS :List (Option zt):=[some [1,3,8,9,10,14,15,16],some [5,6,7,9,21],some [6,7]]
def LV :List (Option zt):=[]
def j4u :List (Option zt):=[some [0,1,2,4],some [6,7,9],some [6,7]]
def j4v :List (Option zt):=[some [5,6,7,9],none,none,none,none,none,none,none,none,none]
def u2s :List (Option zt):=[some [0,1,2,4,5,6,29,30,31,36,37,38],some [6,7,9],some [6,7]]
def Z8 :List (Option zt):=[some [5,6,7,9],none,none,none,none,none,none,none,none,none,none,none,none]
def u2r :List (Option zt):=[some [0,1,2,4,5,6,29,30,31,36,37,38],some [6,7,9],some [6,7]]
def Z9 :List (Option zt):=[some [5,6,7,9],none,none,none,none,none,none,none,none,none,none,none,none,none]
def u2q :List (Option zt):=[some [0,1,2,71,72,73],some [9,41,43,44],some [0,1,2,4,72,73],some [6,7,9],some [6,7]]
def Zl :List (Option zt):=[none,some [5,6,7,9],none,none,none,none,none,none,none,none,none]
def LR :List (Option zt):=[some [0,2,8],some [9,41,43,44],some [0,1,2,4,72,73],some [6,7,9],some [6,7]]
def LU :List (Option zt):=[none,none,some [5,6,7,9],none,none,none,none,none,none,none,none]
def Xj (q:Op) (l0:zu) (l1:zu):Hx->Xk Hx
 | .h0 v16 aB=>let b:=rd l0 v16.toNat;(bif (decide (v16<(l0.length:Int))) then (bif ((decide (0<=v16/\v16<(l0.length:Int)))&&true) then (bif (Nat.beq 1 1&&((decide (0+aB.length=aB.length))&&decide ((aB.length+2+1)*(8+1)<=Vg))) then (.to (.h0 (wrap .i64 (v16+1)) (aB++[b.a,b.c]))) else .stuck) else .stuck) else (.to (.h1 0 aB)))
 | .h1 v16 aB=>let b:=Yq aB.length (CS (Zz (Wj (Yq aB.length (CS (Zz aB))))));let d:=rd l1 v16.toNat;(bif (decide (v16<(l1.length:Int))) then (bif ((decide (0<=v16/\v16<(l1.length:Int)))&&true) then (bif (Nat.beq 1 1&&((decide (0+aB.length=aB.length))&&decide ((aB.length+2+1)*(8+1)<=Vg))) then (.to (.h1 (wrap .i64 (v16+1)) (aB++[d.a,d.c]))) else .stuck) else .stuck) else (bif (decide (aB.length<4611686018427387904)) then (bif (decide (aB.length=aB.length)) then (.to (.h2 1 ([]:zu) ([]:zp) 0 0 (Ls b) (Wt b))) else .stuck) else .stuck))
 | .h2 v4 aG aV bE bF aF aJ=>(bif (decide (v4<((aF:Nat):Int))) then (bif ((decide (0<=(wrap .i64 (v4 - 1))/\(wrap .i64 (v4 - 1))<((aF:Nat):Int)))&&true) then (bif (decide ((0+(Int.toNat (wrap .i64 (v4 - 1))))<aJ.length)) then (bif ((decide (0<=v4/\v4<((aF:Nat):Int)))&&true) then (bif (decide ((0+v4.toNat)<aJ.length)) then (.to (.h3 v4 0 aG aV bE bF aF aJ (rd aJ (0+(Int.toNat (wrap .i64 (v4 - 1))))) (rd aJ (0+v4.toNat)) ([]:zp))) else .stuck) else .stuck) else .stuck) else .stuck) else (bif (decide ((aG.length:Int)>400)) then (.ret [.nils,(.int .i64 4)]) else (.ret [(dt aG),(.int .i64 0)])))
 | .h3 v4 v38 aG aV bE bF aF aJ aU bB aA=>let e:=rd l0 v38.toNat;(bif (decide (v38<(l0.length:Int))) then (bif ((decide (0<=v38/\v38<(l0.length:Int)))&&true) then (bif (decide (e.a <=aU)) then (bif (decide (aU<e.c)) then (bif (Nat.beq 2 2&&((decide (0+aA.length=aA.length))&&decide ((aA.length+1+1)*(16+1)<=Vg))) then (.to (.h3 v4 (wrap .i64 (v38+1)) aG aV bE bF aF aJ aU bB (aA++[(R2.mk e.b e.d)]))) else .stuck) else (.to (.h3 v4 (wrap .i64 (v38+1)) aG aV bE bF aF aJ aU bB aA))) else (.to (.h3 v4 (wrap .i64 (v38+1)) aG aV bE bF aF aJ aU bB aA))) else .stuck) else (.to (.h4 v4 0 aG aV bE bF aF aJ aU bB aA ([]:zp))))
 | .h4 v4 v38 aG aV bE bF aF aJ aU bB aA aI=>let e:=rd l1 v38.toNat;let f:=CB ((EO q) (CB aA) (CB aI));(bif (decide (v38<(l1.length:Int))) then (bif ((decide (0<=v38/\v38<(l1.length:Int)))&&true) then (bif (decide (e.a <=aU)) then (bif (decide (aU<e.c)) then (bif (Nat.beq 2 2&&((decide (0+aI.length=aI.length))&&decide ((aI.length+1+1)*(16+1)<=Vg))) then (.to (.h4 v4 (wrap .i64 (v38+1)) aG aV bE bF aF aJ aU bB aA (aI++[(R2.mk e.b e.d)]))) else .stuck) else (.to (.h4 v4 (wrap .i64 (v38+1)) aG aV bE bF aF aJ aU bB aA aI))) else (.to (.h4 v4 (wrap .i64 (v38+1)) aG aV bE bF aF aJ aU bB aA aI))) else .stuck) else (bif ((x2l q) (CB aA) (CB aI)) then (bif (((Re q) (CB aA) (CB aI)) != 0) then (.ret [.nils,(.int .i64 ((Re q) (CB aA) (CB aI)))]) else (bif (decide (((((EO q) (CB aA) (CB aI)).length :Nat):Int)>0)) then (bif (bF == aU) then (bif (Ug (CB aV) f) then (bif (Qr (CB aV) f) then (.to (.h6 bB bE aU ((EO q) (CB aA) (CB aI)) v4 aG aV bE bF aF aJ aA aI)) else (.to (.h5 aU bB ((EO q) (CB aA) (CB aI)) ((((EO q) (CB aA) (CB aI)).length :Nat):Int) 0 v4 aG (aG.length:Int) aF aJ aA aI))) else .stuck) else (.to (.h5 aU bB ((EO q) (CB aA) (CB aI)) ((((EO q) (CB aA) (CB aI)).length :Nat):Int) 0 v4 aG (aG.length:Int) aF aJ aA aI))) else (.to (.h5 aU bB ((EO q) (CB aA) (CB aI)) ((((EO q) (CB aA) (CB aI)).length :Nat):Int) 0 v4 aG (aG.length:Int) aF aJ aA aI)))) else .stuck))
 | .h5 v1 v2 v71 v72 v73 aZ aC bG aF aJ aU bB=>let c:=rd v71 v73.toNat;(bif (decide (v73<v72)) then (bif ((decide (0<=v73/\v73<(v71.length:Int)))&&true) then (bif (Nat.beq 4 4&&((decide (0+aC.length=aC.length))&&decide ((aC.length+1+1)*(32+1)<=Vg))) then (.to (.h5 v1 v2 v71 v72 (wrap .i64 (v73+1)) aZ (aC++[(R4.mk v1 c.a v2 c.b)]) bG aF aJ aU bB)) else .stuck) else .stuck) else (.to (.h2 (wrap .i64 (aZ+1)) aC v71 bG v2 aF aJ)))
 | .h6 v2 v8 dP dQ aZ aC bI bG bY bK bN aA aI=>let c:=rd aC (0+v8.toNat);(bif (decide (v8<(aC.length:Int))) then (bif ((decide (0<=v8/\v8<(aC.length:Int)))&&true) then (bif (decide ((0+v8.toNat)<aC.length)) then (.to (.h6 v2 (wrap .i64 (v8+1)) dP dQ aZ (aC.set (0+v8.toNat) (R4.mk c.a c.b v2 c.d)) bI bG bY bK bN aA aI)) else .stuck) else .stuck) else (.to (.h2 (wrap .i64 (aZ+1)) aC bI bG v2 bK bN)))
def XR (q:Op) (l0:zu) (l1:zu):Xk Hx:=(bif (ST (CB l0)) then (bif ((DU (CB l0)) != 0) then (.ret [.nils,(.int .i64 (DU (CB l0)))]) else (bif (ST (CB l1)) then (bif ((DU (CB l1)) != 0) then (.ret [.nils,(.int .i64 (DU (CB l1)))]) else (.to (.h0 0 ([]:zq)))) else .stuck)) else .stuck)
theorem w9m (q:Op) (l0:zu) (l1:zu): ∀s,Xh prog (Zy prog 105) (G0 q l0 l1) (G0 q l0 l1 s) (Xj q l0 l1 s):=by cases q <;> refine (?f: ∀q:Op,∀s,Xh prog (Zy prog 105) (G0 q l0 l1) (G0 q l0 l1 s) (Xj q l0 l1 s)) _ <;> exact fun q=>fun
 | .h0 v16 aB=>(lb (fun k0=>(lo fun o0=>(lo fun o1=>let f:=rd l0 (tn v16);let e:=f;let b:=aB++[e.a,e.c];let h:=aB++[f.a,f.c];let i:=aB.length+2;let d:=xL i h.length;let g:=Zr (Zz aB) 0 aB.length 1 [(ii f.a),(ii f.c)];(sl Qy 32 [] ⟨[0,1,2,3,4,5,6,10],[],LT,LW⟩ ⟨[],[.keep,.keep,.cells [.len b.length],.keep,.keep,.keep,.keep,.rowed 1 b.length (Zz b)],[]⟩ [true] (pp d (pp d (pp (xS i g (Zz h)) (pp (pp (xF g) nn) (ww o1 (ww o0 (tt k0 nn))))))))))) (fun k0=>(sl Qy 36 [] ⟨(List.range 8),[],LS,LV⟩ b7 (bl 2 2) (pp (fl aB nn) (tt k0 nn)))))
 | .h1 v16 aB=>(lb (fun k0=>(lo fun o0=>(lo fun o1=>let m:=rd l1 (tn v16);let j:=m;let d:=aB++[j.a,j.c];let p:=aB++[m.a,m.c];let q:=aB.length+2;let e:=xL q p.length;let n:=Zr (Zz aB) 0 aB.length 1 [(ii m.a),(ii m.c)];(sl Qy 32 [] ⟨[0,1,2,3,4,5,6,10],[],LS,LV⟩ ⟨[],[.keep,.keep,.cells [.len d.length],.keep,.keep,.keep,.keep,.rowed 1 d.length (Zz d)],[]⟩ [true] (pp e (pp e (pp (xS q n (Zz p)) (pp (pp (xF n) nn) (ww o1 (ww o0 (tt k0 nn))))))))))) (fun k0=>(lo fun o0=>(lo fun o1=>let o:=Zz (Wj (Yq aB.length (CS (Zz aB))));let l:=Wt (Yq aB.length (CS o));let b:=l;let f:=xG (Nat.beq 1 1);let g:=xG (decide (aB.length<4611686018427387904));let h:=xG (decide (aB.length=aB.length));let i:=xG (Nat.beq 0 0);(sl Qy 46 [(168,4,Zz ([]:zu))] ⟨[8,3,4,5,6,2,7,0,1,9],[],j4u,j4v⟩ ⟨[],(DN 4 [.cells [.grow 9 4,.list 0 (Zz ([]:zp)),.keep,.keep],.keep,.rowed 1 b.length (Zz b),.keep,.keep,.keep]),[]⟩ (bl 2 0) (pp (xL aB.length l.length (by first | exact SQ _ _ | exact Jj rfl)) (pp (xS aB.length (Zz l) (Zz l)) (pp (fl b (fl ([]:zu) nn)) (pp (pp f (pp f (pp i (pp h (pp (xG (FG o)) g))))) (pp (pp f (pp f (pp i (pp h (pp (xG (FG (Zz aB))) g))))) (tt k0 nn)))))))))))
 | .h2 v4 aG aV bE bF aF aJ=>(lb (fun k0=>(lo fun o0=>(lo fun o1=>(lo fun o2=>(lo fun o3=>(sl Qy 48 [(260,2,Zz ([]:zp))] ⟨[0,1,2,3,4,5,6,7,8,10,11,12,9],[],u2s,Z8⟩ ⟨[],(DN 10 [.cells [.grow 11 2,.keep],.keep,.keep]),[]⟩ (CL 3 []) (pp (fl aJ (fl ([]:zp) (fl aG nn))) (ww o3 (ww o2 (ww o1 (ww o0 (tt k0 nn)))))))))))) (fun k0=>(lb (fun k1=>(lr 11 3 (pn 191) 1 17 [(4,.nils),(5,(ii 4))] (sl Qy 49 [] (b8 [4,5]) b7 (bl 2 2) (tt k1 (tt k0 nn))))) (fun k1=>(lr 11 3 (pn 191) 1 17 [(4,(dt aG)),(5,(ii 0))] (sl Qy 54 [] ⟨[],[9],[some [4,5]],[]⟩ ⟨[(4,.frz aG.length aG.length (Zz aG) (Zz aG))],[],[]⟩ (bl 2 0) (pp (xZ (DE 4 4 0 aG.length aG.length (Zz aG)) aG.length (Zz aG)) (pp (xL aG.length aG.length) (pp (xS aG.length (Zz aG) (Zz aG)) (pp (fl aG nn) (tt k1 (tt k0 nn))))))))))))
 | .h3 v4 v38 aG aV bE bF aF aJ aU bB aA=>(lb (fun k0=>(lo fun aK=>let e:=ww aK (tt k0 nn);let f:=fl aJ (fl aA (fl aG nn));let h:=List.range 13;(lb (fun k1=>(lb (fun k2=>(lo fun o0=>let i:=rd l0 (tn v38);let g:=i;let a:=aA++[(R2.mk g.b g.d)];let l:=aA++[(R2.mk i.b i.d)];let m:=aA.length+1;let c:=xL m l.length;let j:=Zr (Zz aA) 0 aA.length 2 [(ii i.b),(ii i.d)];(sl Qy 39 [] ⟨[0,1,2,3,4,5,6,7,8,9,10,15,12],[],u2s,Z8⟩ ⟨[],(DN 10 [.cells [.len a.length,.keep],.rowed 2 a.length (Zz a),.keep]),[]⟩ (CL 7 []) (pp c (pp c (pp (xS m j (Zz l)) (pp (fl aJ (pp (xF j) (fl aG nn))) (ww o0 (tt k2 (tt k1 e)))))))))) (fun k2=>(sl Qy 39 [] ⟨h,[],u2s,Z8⟩ b7 (CL 6 [false]) (pp f (tt k2 (tt k1 e))))))) (fun k1=>(sl Qy 39 [] ⟨h,[],u2s,Z8⟩ b7 (bl 7 1) (pp f (tt k1 e))))))) (fun k0=>(sl Qy 38 [(260,2,Zz ([]:zp))] ⟨[0,1,2,3,4,5,6,7,8,9,10,11,13,12],[],u2r,Z9⟩ ⟨[],(DN 10 [.cells [.keep,.grow 12 2],.keep,.keep,.keep]),[]⟩ (bl 2 2) (pp (fl aJ (fl aA (fl ([]:zp) (fl aG nn)))) (tt k0 nn)))))
 | .h4 v4 v38 aG aV bE bF aF aJ aU bB aA aI=>(lb (fun k0=>(lo fun aK=>let f:=ww aK (tt k0 nn);let g:=fl aJ (fl aA (fl aI (fl aG nn)));let m:=List.range 14;(lb (fun k1=>(lb (fun k2=>(lo fun o0=>let n:=rd l1 (tn v38);let l:=n;let c:=aI++[(R2.mk l.b l.d)];let r:=aI++[(R2.mk n.b n.d)];let s:=aI.length+1;let e:=xL s r.length;let o:=Zr (Zz aI) 0 aI.length 2 [(ii n.b),(ii n.d)];(sl Qy 39 [] ⟨[0,1,2,3,4,5,6,7,8,9,10,11,16,13],[],u2r,Z9⟩ ⟨[],(DN 10 [.cells [.keep,.len c.length],.keep,.rowed 2 c.length (Zz c),.keep]),[]⟩ (CL 7 []) (pp e (pp e (pp (xS s o (Zz r)) (pp (fl aJ (fl aA (pp (xF o) (fl aG nn)))) (ww o0 (tt k2 (tt k1 f)))))))))) (fun k2=>(sl Qy 39 [] ⟨m,[],u2r,Z9⟩ b7 (CL 6 [false]) (pp g (tt k2 (tt k1 f))))))) (fun k1=>(sl Qy 39 [] ⟨m,[],u2r,Z9⟩ b7 (bl 7 1) (pp g (tt k1 f))))))) (fun k0=>let j:=fl aG (fl aJ nn);(Un (sl Qy (C':=⟨⟨49,0,true⟩,none,(Zk prog 142 (pn 599) 0),(some 0),[],⟨Yy [(5,(.ptr 1 0)),(6,(.ptr 2 0)),(7,(.ptr 3 0)),(9,(.ptr 4 0)),(10,(.ptr 6 0))],Cs [(1,⟨[(.fn 143 [])],208,none⟩),(2,⟨[.nils],196,none⟩),(3,⟨[(ii 0)],24,none⟩),(4,⟨[(.sla 5 4 0 aG.length (.un 4)),(dt aV),(ii bE),(ii bF)],235,none⟩),(5,(rz aG 168 4)),(6,⟨[(ii aU),(ii bB),(.sl 7 0 2 (.ex 2))],240,none⟩),(7,⟨[(dt aA),(dt aI)],233,none⟩),(8,⟨[(.sla 9 1 0 aF (.un 1))],83,none⟩),(9,(rz aJ 3 1)),(10,⟨[(.sl 11 0 2 (.un 1))],276,none⟩),(11,⟨[(dt l0),(dt l1)],196,none⟩)],12,[],true⟩,[⟨⟨76,0,true⟩,(Wz prog 202 (pn 713) 2),(Zk prog 202 (pn 713) 1),none,[],Yy [(0,(.yld 0)),(1,(.ptr 8 0)),(2,(.ptr 10 0)),(4,(ii v4)),(72,(.yld 0)),(73,(.agg [(ii aU),(ii bB),(.sl 7 0 2 (.ex 2))]))]⟩,⟨⟨49,0,true⟩,none,(.inRangeFunc 0::(Zk prog 142 (pn 87) 1)),none,(Zy prog 142),Yy [(6,(.ptr 2 0)),(7,(.ptr 3 0)),(9,(.ptr 4 0))]⟩,⟨⟨11,0,true⟩,(Wz prog 105 [1,0] 2),(Zk prog 105 [1,0] 1),none,(Zy prog 17),Yy [(6,(dt l0)),(7,(dt l1))]⟩],(DA [(0,⟨.busy,none,49,Yy [(5,(.ptr 1 0)),(6,(.ptr 2 0)),(7,(.ptr 3 0)),(9,(.ptr 4 0))],[23],(Xt prog 142 [1,1,1,0,1,0,0]),(Xt prog 142 [1,1,1,0,1,0,1])⟩)])⟩) 32 [] ⟨[0,1,2,3,4,13,14,10,5,6,7,8],[11,12],[some [5,6,7,9,10],some [0,1,2,4,72,73],some [6,7,9],some [6,7]],[some [5,6,7,9],none,none,none,none,none,none,none,none,none,none,none]⟩ ⟨[],[.keep,.keep,.keep,.keep,.keep,.keep,.keep,.cells [.frz aA.length aA.length (Zz aA) (Zz aA),.frz aI.length aI.length (Zz aI) (Zz aI)],.keep,.keep,.keep,.keep],[]⟩ (bl 2 0) (pp (xZ (DE 2 2 0 aA.length aA.length (Zz aA)) aA.length (Zz aA)) (pp (xL aA.length aA.length) (pp (xS aA.length (Zz aA) (Zz aA)) (pp (xZ (DE 2 2 0 aI.length aI.length (Zz aI)) aI.length (Zz aI)) (pp (xL aI.length aI.length) (pp (xS aI.length (Zz aI) (Zz aI)) (pp j (pp (fl aA (fl aI nn)) (tt k0 nn)))))))))) (lo fun aK=>let a:=pp (pp (xr aA) (pp (xr aI) (xw aK))) nn;(lb (fun k1=>(lr 11 3 (pn 191) 1 17 [(4,.nils),(5,(ii ((Re q) (CB aA) (CB aI))))] (sl Qy 26 [] (b8 [4,5]) b7 (bl 2 3) (tt k1 a)))) (fun k1=>let h:=fl aJ (fl aG nn);(lb (fun k2=>let i:=tt k2 (tt k1 a);(lb (fun k3=>(lo fun cU=>let p:=Zz ((EO q) (CB aA) (CB aI));(lb (fun k4=>(sl Qy 51 [] ⟨[4,5,0,1,2,3,8,9,10,11,7],[],LR,LU⟩ b7 (bl 14 16382) (pp j (tt k4 (pp (pp (xr aV) (pp (xI R2 ((EO q) (CB aA) (CB aI)).length p) (xw cU))) (tt k3 i)))))) (fun k4=>(sl Qy 71 [] ⟨[4,0,1,2,3,8,9,10,11,7,5],[],u2q,Zl⟩ b7 (bl 14 8190) (pp h (tt k4 (pp (pp (xr aV) (pp (xI R2 ((EO q) (CB aA) (CB aI)).length p) (xw cU))) (tt k3 i))))))))) (fun k3=>(sl Qy 71 [] ⟨[4,0,1,2,3,8,9,10,11,7,5],[],u2q,Zl⟩ b7 (bl 14 126) (pp h (tt k3 i)))))) (fun k2=>(sl Qy 71 [] ⟨[4,0,1,2,3,8,9,10,11,7,5],[],u2q,Zl⟩ b7 (bl 14 0) (pp h (tt k2 (tt k1 a))))))))))))
 | .h5 v1 v2 v71 v72 v73 aZ aC bG aF aJ aU bB=>(lb (fun k0=>(lo fun o0=>(lo fun o1=>let f:=rd v71 (tn v73);let e:=f;let c:=aC++[(R4.mk v1 e.a v2 e.b)];let h:=aC++[(R4.mk v1 f.a v2 f.b)];let i:=aC.length+1;let d:=xL i h.length;let g:=Zr (Zz aC) 0 aC.length 4 [(ii v1),(ii f.a),(ii v2),(ii f.b)];(sl Qy 23 [] ⟨[0,1,2,3,4,5,6,7,8,9,13],[],u2q,Zl⟩ ⟨[],[.cells [.len c.length,.keep,.keep,.keep],.keep,.keep,.keep,.keep,.keep,.keep,.keep,.keep,.keep,.rowed 4 c.length (Zz c)],[]⟩ [true] (pp d (pp d (pp (xS i g (Zz h)) (pp (fl aJ (pp (xF g) nn)) (ww o1 (ww o0 (tt k0 nn))))))))))) (fun k0=>(sl Qy 22 [] ⟨[1,2,3,4,0,5,6,7,8,10],[],j4u,j4v⟩ b7 (bl 2 0) (pp (fl aJ (fl aC nn)) (tt k0 nn)))))
 | .h6 v2 v8 dP dQ aZ aC bI bG bY bK bN aA aI=>(lb (fun k0=>(lo fun o0=>(lo fun o1=>let g:=rd aC (0+(tn v8));let f:=g;let c:=aC.set (0+(tn v8)) (R4.mk f.a f.b v2 f.d);let h:=aC.set (0+(tn v8)) (R4.mk g.a g.b v2 g.d);let e:=xL aC.length h.length;let i:=Xg (Zz aC) (0+(tn v8)) 2 [(ii v2)];(sl Qy 33 [] ⟨(List.range 11),[],LR,LU⟩ ⟨[],[.cells [.len c.length,.keep,.keep,.keep],.rowed 4 c.length (Zz c),.keep,.keep,.keep,.keep,.keep,.keep,.keep,.keep,.keep],[]⟩ [true] (pp e (pp e (pp (xS aC.length i (Zz h)) (pp (pp (xF i) (fl bN nn)) (ww o1 (ww o0 (tt k0 nn))))))))))) (fun k0=>(sl Qy 36 [] ⟨[2,3,4,5,0,6,7,8,9,1],[],j4u,j4v⟩ b7 (bl 2 0) (pp (fl bN (fl aC nn)) (tt k0 nn)))))
theorem w0j (q:Op) (l0:zu) (l1:zu):Xh prog (Zy prog 105) (G0 q l0 l1) (Zb prog 105 [(dt l0),(dt l1)] true []) (XR q l0 l1):=by cases q <;> exact (lo fun cA=>(lb (fun k0=>(lr 11 3 (pn 191) 1 17 [(4,.nils),(5,(ii (DU (CB l0))))] (sl Qy 65 [] (b8 [4,5]) b7 (bl 2 3) (tt k0 (tt k0 (pp (pp (xr l0) (xw cA)) nn)))))) (fun k0=>(lo fun aK=>(lb (fun k1=>(lr 11 3 (pn 191) 1 17 [(4,.nils),(5,(ii (DU (CB l1))))] (sl Qy 67 [] (b8 [4,5]) b7 (bl 2 2) (tt k1 (pp (pp (xr l1) (xw aK)) (tt k0 (pp (pp (xr l0) (xw cA)) nn))))))) (fun k1=>(sl Qy 108 [(3,1,Zz ([]:zq))] ⟨[5,4,6,0,1,2,3,7],[],LT,LW⟩ ⟨[],[.keep,.keep,.cells [.grow 7 1],.keep,.keep,.keep,.keep,.keep],[]⟩ (bl 3 4) (pp (fl ([]:zq) nn) (tt k1 (pp (pp (xr l1) (xw aK)) (tt k0 (pp (pp (xr l0) (xw cA)) nn))))))))))))
theorem u2p (q:Op) (l0:zu) (l1:zu) (n:Nat) (vs:zy) (h:Yj (Xj q l0 l1) n (XR q l0 l1)=.ret vs):Ji prog (Zy prog 105) (Zb prog 105 [(dt l0),(dt l1)] true []) vs:=by have:=Zf (w9m q l0 l1) n _ (w0j q l0 l1);rwa [h] at this
def DK (E:Int->Int) (cs:zq):Nat->Nat->Int
 | 0,_=>0
 | k+1,i=>bif E (rd cs i) != 0 then E (rd cs i) else DK E cs k (i+1)
def eJ (e:Int) (n:Nat):Int:=bif e != 0 then e else Dc n
theorem w5o {α:Type} [Xp α] (L:List α):Df (eJ 0 L.length) L=Qv L:=(YI L).symm
theorem Wl {n:Nat} (h:Dc n=0):n<=400:=by
 grind [Dc]
theorem x7d {α:Type} {e:Int} (L:List α) (h:(e != 0)=false):E6 e L=L:=by unfold E6;rw [h];rfl
def Cw (q:Op) (a b:zu) (x:Int):zp:=ET q.k (D4.inn a x) (D4.inn b x)
def Dh (q:Op) (a b:zu) (x:Int):Int:=Hg q.k (D4.inn a x) (D4.inn b x)
theorem j4y (q:Op) (a b:zu) (x:Int) (h:(Dh q a b x != 0)=false):(Cw q a b x).length <=1000:=by
 have h:Dh q a b x=0:=by simpa using h
 unfold Dh Hg at h;cases g1:(Dp (D4.inn a x) != 0) with
 | true=>grind
 | false=>
  cases g2:(Dp (D4.inn b x) != 0) with
  | true=>grind
  | false=>rw [g1,g2,Aa,Aa] at h;exact AI (Wl h) (by omega)
section
variable (q:Op) (a b:zu) (ha:a.length<=400) (hb:b.length<=400)
include ha hb
theorem u9j (i:Nat) (out:zu) (last:zp) (first fin x x':Int): ∀(k j:Nat) (acc:zp),j+k=a.length->acc.length<=j->
  ∃n,∀N,Yj (Xj q a b) (N+n) (.to (.h3 (i:Int) (j:Int) out last first fin ((D4.cuts (a++b)).length) (Wt (Wj (D4.ends (a++b)))) x x' acc))=Yj (Xj q a b) N (.to (.h4 (i:Int) 0 out last first fin ((D4.cuts (a++b)).length) (Wt (Wj (D4.ends (a++b)))) x x' (acc++D4.inn (a.drop j) x) []))
 | 0,j,acc,h,h'=>by
  have _u:=ha;have _v:=hb;refine ⟨1,fun N=> ?_⟩;rw [Aw (by omega),show D4.inn ([]:zu) x=[] from rfl,AG,Zx]
  grind [Xj]
 | k+1,j,acc,h,h'=>by
  have hj:j<a.length:=by omega
  obtain ⟨n,hn⟩:=u9j i out last first fin x x' k (j+1) (acc++D4.inn [rd a j] x) (by omega) (by have:=D4.inn_length [rd a j] x;grind)
  refine ⟨n+1,fun N=> ?_⟩;have e:D4.inn (a.drop j) x=D4.inn [rd a j] x++D4.inn (a.drop (j+1)) x:=by rw [Yn hj,<-D4.inn_append];rfl
  rw [e,<-AK,Zx,<-AH,<-hn N];by_cases h1:D4.lo (rd a j)<=x
  .by_cases h2:x<D4.hi (rd a j)
   .rw [D4.inn_t _ _ h1 h2];simp only [D4] at h1 h2 ⊢;simp (disch:=omega) only [Xj,Xs,Zd,Zp,Zt,Zn,Yd,Yp,Yg,Zh,Zq,Zv,Yb,Zj,Ah,Au,Aj,Al,Ab,Aa]
   .rw [D4.inn_f2 _ _ h2,AG];simp only [D4] at h1 h2;simp (disch:=omega) only [Xj,Xs,Yc,Zd,Zp,Zt,Zn,Yd,Yp,Yg,Zh,Zq,Zv,Yb,Zj,Ah,Au,Aj,Al,Ab,Aa]
  .rw [D4.inn_f1 _ _ h1,AG];simp only [D4] at h1;simp (disch:=omega) only [Xj,EZ,Zd,Zp,Zt,Zn,Yd,Yp,Yg,Zh,Zq,Zv,Yb,Zj,Ah,Au,Aj,Al,Ab,Aa]
theorem u9i (i:Nat) (out:zu) (last:zp) (first fin x x':Int) (o1:zp): ∀(k j:Nat) (acc:zp),j+k=b.length->acc.length<=j->
  ∃n,∀N,Yj (Xj q a b) (N+n) (.to (.h4 (i:Int) (j:Int) out last first fin ((D4.cuts (a++b)).length) (Wt (Wj (D4.ends (a++b)))) x x' o1 acc))=Yj (Xj q a b) N (.to (.h4 (i:Int) (b.length:Int) out last first fin ((D4.cuts (a++b)).length) (Wt (Wj (D4.ends (a++b)))) x x' o1 (acc++D4.inn (b.drop j) x)))
 | 0,j,acc,h,h'=>by have _u:=ha;have _v:=hb;refine ⟨0,fun N=> ?_⟩;rw [Aw (by omega),show D4.inn ([]:zu) x=[] from rfl,AG,Bo,show j=b.length by omega]
 | k+1,j,acc,h,h'=>by
  have hj:j<b.length:=by omega
  obtain ⟨n,hn⟩:=u9i i out last first fin x x' o1 k (j+1) (acc++D4.inn [rd b j] x) (by omega) (by have:=D4.inn_length [rd b j] x;grind)
  refine ⟨n+1,fun N=> ?_⟩;have e:D4.inn (b.drop j) x=D4.inn [rd b j] x++D4.inn (b.drop (j+1)) x:=by rw [Yn hj,<-D4.inn_append];rfl
  rw [e,<-AK,Zx,<-AH,<-hn N];by_cases h1:D4.lo (rd b j)<=x
  .by_cases h2:x<D4.hi (rd b j)
   .rw [D4.inn_t _ _ h1 h2];simp only [D4] at h1 h2 ⊢;simp (disch:=omega) only [Xj,Xs,Zd,Zp,Zt,Zn,Yd,Yp,Yg,Zh,Zq,Zv,Yb,Zj,Ah,Au,Aj,Al,Ab,Aa]
   .rw [D4.inn_f2 _ _ h2,AG];simp only [D4] at h1 h2;simp (disch:=omega) only [Xj,Xs,Yc,Zd,Zp,Zt,Zn,Yd,Yp,Yg,Zh,Zq,Zv,Yb,Zj,Ah,Au,Aj,Al,Ab,Aa]
  .rw [D4.inn_f1 _ _ h1,AG];simp only [D4] at h1;simp (disch:=omega) only [Xj,EZ,Zd,Zp,Zt,Zn,Yd,Yp,Yg,Zh,Zq,Zv,Yb,Zj,Ah,Au,Aj,Al,Ab,Aa]
theorem u9h (i:Nat) (hi:i<=2000) (x x':Int) (s:zp) (first:Int) (o1 o2:zp) (hs:s.length<=1000): ∀(k j:Nat) (out:zu),j+k=s.length->out.length<=10000000+j->
  ∃n,∀N,Yj (Xj q a b) (N+n) (.to (.h5 x x' s (s.length:Int) (j:Int) (i:Int) out first ((D4.cuts (a++b)).length) (Wt (Wj (D4.ends (a++b)))) o1 o2))=Yj (Xj q a b) N (.to (.h2 ((i+1:Nat):Int) (out++(s.drop j).map (D4.put x x')) s first x' ((D4.cuts (a++b)).length) (Wt (Wj (D4.ends (a++b))))))
 | 0,j,out,h,ho=>by
  have _u:=ha;have _v:=hb;refine ⟨1,fun N=> ?_⟩
  grind [Zx,Xj,Zq]
 | k+1,j,out,h,ho=>by
  obtain ⟨n,hn⟩:=u9h i hi x x' s first o1 o2 hs k (j+1) (out++[D4.put x x' (rd s j)]) (by omega) (by simp;omega)
  refine ⟨n+1,fun N=> ?_⟩;have:=hn N;rw [Yn (show j<s.length by omega),AT,<-AK,Zx];simp (disch:=omega) only [Xj,Zd,Zp,Zt,Zn,Yd,Yp,Yg,Zh,Zq,Zv,Yb,Zj,Ah,Au,Aj,Al,Ab,Aa];rw [AH] at this;exact this
theorem u9g (i:Nat) (hi:i<=2000) (x x' fin:Int) (s last:zp) (first:Int) (o1 o2:zp): ∀(k j:Nat) (out:zu),j+k=out.length->out.length<=10000000->
  ∃n,∀N,Yj (Xj q a b) (N+n) (.to (.h6 x' (j:Int) x s (i:Int) out last first fin ((D4.cuts (a++b)).length) (Wt (Wj (D4.ends (a++b)))) o1 o2))=Yj (Xj q a b) N (.to (.h2 ((i+1:Nat):Int) (D4.grow out j x') last first x' ((D4.cuts (a++b)).length) (Wt (Wj (D4.ends (a++b))))))
 | 0,j,out,h,ho=>by
  have _u:=ha;have _v:=hb;refine ⟨1,fun N=> ?_⟩;rw [D4.grow_nil _ _ _ (by omega),Zx]
  grind [Xj,Zq]
 | k+1,j,out,h,ho=>by
  obtain ⟨n,hn⟩:=u9g i hi x x' fin s last first o1 o2 k (j+1) (out.set j (D4.ext x' (rd out j))) (by simp;omega) (by grind)
  refine ⟨n+1,fun N=> ?_⟩;have:=hn N;rw [D4.grow_set out j _ (by omega)] at this;rw [<-AK,Zx];simp (disch:=omega) only [Xj,Zd,Zp,Zt,Zn,Yd,Yp,Yg,Zh,Zq,Zv,Yb,Zj,Ah,Au,Aj,Al,Ab,Aa];exact this
theorem v5h : ∀(k i:Nat) (s:Sw R4 R2),k=(D4.cuts (a++b)).length - 1 - i->i<=(D4.cuts (a++b)).length ->s.out.length<=i*1000->s.last.length<=1000->s.first<=s.out.length->
  ∃n,Yj (Xj q a b) n (.to (.h2 ((i+1:Nat):Int) s.out s.last (s.first:Int) s.fin ((D4.cuts (a++b)).length) (Wt (Wj (D4.ends (a++b))))))=.ret (Df (eJ (DK (Dh q a b) (D4.cuts (a++b)) k i) (D4.goS (Cw q a b) (D4.cuts (a++b)) k i s).out.length) (D4.goS (Cw q a b) (D4.cuts (a++b)) k i s).out)
 | 0,i,s,h,hi,ho,hla,hf=>by
  have _u:=ha;have _v:=hb;have hc:=D4.cuts_length (a++b);refine ⟨1,?_⟩;rw [Zx,show D4.goS (Cw q a b) (D4.cuts (a++b)) 0 i s=s from rfl,show DK (Dh q a b) (D4.cuts (a++b)) 0 i=0 from rfl,w5o]
  grind [Qv,Xj,Zc]
 | k +1,i,s,h,hi,ho,hla,hf=>by
  have hc:=D4.cuts_length (a++b);rw [AO] at hc;have hi1:i+1<(D4.cuts (a++b)).length :=by omega
  have hpl:(Wt (Wj (D4.ends (a++b)))).length =2*(a.length+b.length):=by rw [Qp,Kq,D4.ends_length,AO]
  have r0:rd (Wt (Wj (D4.ends (a++b)))) i=rd (D4.cuts (a++b)) i:=Gj _ _ (by show i<(D4.cuts (a++b)).length;omega);have r1:rd (Wt (Wj (D4.ends (a++b)))) (i+1)=rd (D4.cuts (a++b)) (i+1):=Gj _ _ (by show i+1<(D4.cuts (a++b)).length;omega);have hbig:i*1000<=2000*1000:=AE _ (by omega);have hgo:D4.goS (Cw q a b) (D4.cuts (a++b)) (k+1) i s=D4.goS (Cw q a b) (D4.cuts (a++b)) k (i+1) (D4.oneS (Cw q a b (rd (D4.cuts (a++b)) i)) (rd (D4.cuts (a++b)) i) (rd (D4.cuts (a++b)) (i+1)) s):=rfl;have hfe: ∀x,x=rd (D4.cuts (a++b)) i->(Dh q a b x != 0)=false->DK (Dh q a b) (D4.cuts (a++b)) (k+1) i=DK (Dh q a b) (D4.cuts (a++b)) k (i+1):=fun x hx z=>by
   show (bif Dh q a b (rd (D4.cuts (a++b)) i) != 0 then _ else _)=_
   grind
  revert hgo hfe r0;generalize hx:rd (D4.cuts (a++b)) i=x;generalize hx':rd (D4.cuts (a++b)) (i+1)=x' at r1;intro r0 hgo hfe;obtain ⟨n3,h3⟩:=u9j q a b ha hb (i+1) s.out s.last (s.first:Int) s.fin x x' a.length 0 [] (Ah _) (Aq _);simp only [AR,A0,EB] at h3;obtain ⟨n4,h4⟩:=u9i q a b ha hb (i+1) s.out s.last (s.first:Int) s.fin x x' (D4.inn a x) b.length 0 [] (Ah _) (Aq _);simp only [AR,A0,EB] at h4;have st0: ∀N,Yj (Xj q a b) (N+n4+n3+1) (.to (.h2 ((i+1:Nat):Int) s.out s.last (s.first:Int) s.fin ((D4.cuts (a++b)).length) (Wt (Wj (D4.ends (a++b))))))=Yj (Xj q a b) N (.to (.h4 ((i+1:Nat):Int) (b.length:Int) s.out s.last (s.first:Int) s.fin ((D4.cuts (a++b)).length) (Wt (Wj (D4.ends (a++b)))) x x' (D4.inn a x) (D4.inn b x))):=fun N=>by
   rw [<-h4 N,<-h3 (N+n4),Zx];have e1:wrap .i64 (((i+1:Nat):Int) - 1)=(i:Int):=by rw [Yx];exact Zq (by omega)
   simp (disch:=omega) only [Xj,e1,r0,r1,Zd,Zp,Zt,Zn,Yd,Yp,Yg,Zh,Zq,Zv,Yb,Zj,Ah,Au,Aj,Al,Ab,Aa]
  have w1:x2l q (D4.inn a x) (D4.inn b x)=true:=rfl;have f1:DR (Zz (D4.inn a x))=true:=Xc _;have f2:DR (Zz (D4.inn b x))=true:=Xc _;rcases Xw (Dh q a b x != 0) with z | z
  .have z':(Re q (D4.inn a x) (D4.inn b x) != 0)=true:=z;refine ⟨1+n4+n3+1,?_⟩;rw [st0 1,Zx];have e:DK (Dh q a b) (D4.cuts (a++b)) (k+1) i=Dh q a b x:=by show (bif Dh q a b (rd (D4.cuts (a++b)) i) != 0 then Dh q a b (rd (D4.cuts (a++b)) i) else _)=_;grind
   simp (disch:=omega) only [Xj,Yc,z',w1,f1,f2,Zd,Zp,Zt,Zn,Yd,Yp,Yg,Zh,Zq,Zv,Yb,Zj,Ah,Au,Aj,Al,Ab,Aa,Zc];rw [e,show eJ (Dh q a b x) _=Dh q a b x by unfold eJ;rw [z];rfl,HS _ z];rfl
  have z':(Re q (D4.inn a x) (D4.inn b x) != 0)=false:=z;have v:EO q (D4.inn a x) (D4.inn b x)=Cw q a b x:=x7d _ z;have hsl:=j4y q a b x z;have w2:Ug s.last (Cw q a b x)=true:=Af (by omega);rw [hgo,hfe x rfl z];have ol:(D4.oneS (Cw q a b x) x x' s).out.length <=s.out.length+(Cw q a b x).length :=by
   grind [CM.oneS,CM.grow_length]
  rcases Xw (decide (0<(Cw q a b x).length)&&((s.fin == x)&&D4.same s.last (Cw q a b x))) with g | g
  .obtain ⟨n6,h6⟩:=u9g q a b ha hb (i+1) (by omega) x x' s.fin (Cw q a b x) s.last (s.first:Int) (D4.inn a x) (D4.inn b x) (s.out.length - s.first) s.first s.out (by omega) (by omega)
   have e:D4.oneS (Cw q a b x) x x' s=⟨D4.grow s.out s.first x',s.last,s.first,x'⟩:=by unfold CM.oneS;rw [g];rfl
   obtain ⟨n0,h0⟩:=v5h k (i+1) (D4.oneS (Cw q a b x) x x' s) (by omega) (by omega) (by omega) (by grind) (by grind [CM.grow_length]);refine ⟨n0+n6+1+n4+n3+1,?_⟩;rw [st0 (n0+n6+1),Zx];simp only [Ac,Ao] at g;obtain ⟨g1,g2,g3⟩:=g;have g3':Qr s.last (Cw q a b x)=true:=g3;simp (disch:=omega) only [Xj,Yc,Yo,z',v,g2,g3',w1,f1,f2,w2,Zd,Zp,Zt,Zn,Yd,Yp,Yg,Zh,Zq,Zv,Yb,Zj,Ah,Au,Aj,Al,Ab,Aa]
   grind
  .obtain ⟨n5,h5⟩:=u9h q a b ha hb (i+1) (by omega) x x' (Cw q a b x) (s.out.length:Int) (D4.inn a x) (D4.inn b x) hsl (Cw q a b x).length 0 s.out (Ah _) (by omega);simp only [AR,EB] at h5;have e:D4.oneS (Cw q a b x) x x' s=⟨s.out++(Cw q a b x).map (D4.put x x'),Cw q a b x,s.out.length,x'⟩:=by unfold CM.oneS;rw [g];rfl
   obtain ⟨n0,h0⟩:=v5h k (i+1) (D4.oneS (Cw q a b x) x x' s) (by omega) (by omega) (by omega) (by grind) (by rw [e];simp);have hg:Yj (Xj q a b) 1 (.to (.h4 ((i+1:Nat):Int) (b.length:Int) s.out s.last (s.first:Int) s.fin ((D4.cuts (a++b)).length) (Wt (Wj (D4.ends (a++b)))) x x' (D4.inn a x) (D4.inn b x)))=.to (.h5 x x' (Cw q a b x) ((Cw q a b x).length :Int) 0 ((i+1:Nat):Int) s.out (s.out.length:Int) ((D4.cuts (a++b)).length) (Wt (Wj (D4.ends (a++b)))) (D4.inn a x) (D4.inn b x)):=by
    rw [show (1:Nat)=0+1 from rfl,Zx];have e3:D4.same s.last (Cw q a b x)=Qr s.last (Cw q a b x):=rfl;rw [e3] at g;by_cases g1:0<(Cw q a b x).length
    .rw [Af g1,Al] at g;rcases Xw (s.fin == x) with g2 | g2
     .rw [g2,Al] at g;simp (disch:=omega) only [Xj,Yc,Yo,z',v,g2,g,w1,f1,f2,w2,Zd,Zp,Zt,Zn,Yd,Yp,Yg,Zh,Zq,Zv,Yb,Zj,Ah,Au,Aj,Al,Ab,Aa];rfl
     .simp (disch:=omega) only [Xj,Yc,Yo,z',v,g2,w1,f1,f2,w2,Zd,Zp,Zt,Zn,Yd,Yp,Yg,Zh,Zq,Zv,Yb,Zj,Ah,Au,Aj,Al,Ab,Aa];rfl
    .simp (disch:=omega) only [Xj,Yc,Xb,z',v,w1,f1,f2,w2,Zd,Zp,Zt,Zn,Yd,Yp,Yg,Zh,Zq,Zv,Yb,Zj,Ah,Au,Aj,Al,Ab,Aa];rfl
   refine ⟨n0+n5+1+n4+n3+1,?_⟩;simp_all [SO]
theorem u9k : ∀(k i:Nat) (acc:zq),i+k=b.length->acc=D4.ends (a++b.take i)-> ∃n,Yj (Xj q a b) n (.to (.h1 (i:Int) acc))=.ret (Df (eJ (DK (Dh q a b) (D4.cuts (a++b)) ((D4.cuts (a++b)).length - 1) 0) (D4.goS (Cw q a b) (D4.cuts (a++b)) ((D4.cuts (a++b)).length - 1) 0 ⟨[],[],0,0⟩).out.length) (D4.goS (Cw q a b) (D4.cuts (a++b)) ((D4.cuts (a++b)).length - 1) 0 ⟨[],[],0,0⟩).out)
 | 0,i,acc,h,h'=>by
  have _u:=ha;have _v:=hb;have e:acc=D4.ends (a++b):=by grind
  subst e;have hle:=D4.ends_length (a++b);rw [AO] at hle;obtain ⟨n,hn⟩:=v5h q a b ha hb ((D4.cuts (a++b)).length - 1) 0 ⟨[],[],0,0⟩ (by omega) (AA _) (AA _) (AA _) (AA _);refine ⟨n+1,?_⟩;rw [Zx];simp (disch:=omega) only [Xj,Qm,S0,Sg,Yc,Yp,Yg,Au,Ab,Aa];exact hn
 | k+1,i,acc,h,h'=>by
  have hle:acc.length<=2*(400+i):=by rw [h',D4.ends_length];grind
  obtain ⟨n,hn⟩:=u9k k (i+1) (acc++D4.ends [rd b i]) (by omega) (by
   rw [h',A4]
   grind [Xm,CM.ends])
  refine ⟨n+1,?_⟩;rw [Zx];simp (disch:=omega) only [Xj,Zd,Zp,Zt,Zn,Yd,Yp,Yg,Zh,Zq,Zv,Yb,Zj,Ah,Au,Aj,Al,Ab,Aa];exact hn
theorem u9l : ∀(k i:Nat) (acc:zq),i+k=a.length->acc=D4.ends (a.take i)-> ∃n,Yj (Xj q a b) n (.to (.h0 (i:Int) acc))=.ret (Df (eJ (DK (Dh q a b) (D4.cuts (a++b)) ((D4.cuts (a++b)).length - 1) 0) (D4.goS (Cw q a b) (D4.cuts (a++b)) ((D4.cuts (a++b)).length - 1) 0 ⟨[],[],0,0⟩).out.length) (D4.goS (Cw q a b) (D4.cuts (a++b)) ((D4.cuts (a++b)).length - 1) 0 ⟨[],[],0,0⟩).out)
 | 0,i,acc,h,h'=>by
  have _u:=ha;have _v:=hb;obtain ⟨n,hn⟩:=u9k q a b ha hb b.length 0 acc (Ah _) (by grind);refine ⟨n+1,?_⟩
  grind [Zx,Xj]
 | k+1,i,acc,h,h'=>by
  have hle:acc.length<=2*(400+i):=by rw [h',D4.ends_length];grind
  obtain ⟨n,hn⟩:=u9l k (i+1) (acc++D4.ends [rd a i]) (by omega) (by
   rw [h',A4]
   grind [Xm,CM.ends])
  refine ⟨n+1,?_⟩;rw [Zx];simp (disch:=omega) only [Xj,Zd,Zp,Zt,Zn,Yd,Yp,Yg,Zh,Zq,Zv,Yb,Zj,Ah,Au,Aj,Al,Ab,Aa];exact hn
end
def Fv (q:Op) (a b:zu):Int:=bif DU a != 0 then DU a else bif DU b != 0 then DU b else eJ (DK (Dh q a b) (D4.cuts (a++b)) ((D4.cuts (a++b)).length - 1) 0) (Hz q.k a b).length
def EN (q:Op) (a b:zu):zu:=E6 (Fv q a b) (Hz q.k a b)
def Ra (q:Op) (a b:zu):Int:=Fv q a b
def XQ (q:Op) (a b:zu):Bool:=true
theorem w5m {l:zu} (h:(DU l != 0)=false):l.length<=400:=by
 grind [DU]
theorem Nq (q:Op) (a b:zu) (h:XQ q a b=true): ∃n,Yj (Xj q a b) n (XR q a b)=.ret (Df (Fv q a b) (Hz q.k a b)):=by
 unfold XR;have o: ∀l,ST l=true:=fun _=>rfl;simp only [Zd,o,Ab];rcases Xw (DU a != 0) with q1 | q1
 .exact ⟨0,by simp only [Fv,q1,Ab,HS _ q1];rfl⟩
 rcases Xw (DU b != 0) with q2 | q2
 .exact ⟨0,by simp only [Fv,q1,q2,Ab,Aa,HS _ q2];rfl⟩
 obtain ⟨n,hn⟩:=u9l q a b (w5m q1) (w5m q2) a.length 0 [] (Ah _) rfl;refine ⟨n,?_⟩;simp only [Fv,q1,q2,Aa];exact hn
def fRg (q:Op):zy->Option (CA×Bool)
 | [a0,a1]=>match C4 R4 a0,C4 R4 a1 with
  | some (L0,g0,n0),some (L1,g1,n1)=>some (.tup [.dat (EN q L0 L1).length (Zz (EN q L0 L1)),.int .i64 (Ra q L0 L1)],CU R4 n0 g0&&(CU R4 n1 g1&&(XQ q L0 L1)))
  | _,_=>none
 | _=>none
theorem PY (q:Op) {S:CC} (hS:Zu prog S):Zu prog (S.with (nRg q) (fRg q)):=by
 refine GR hS (by cases q <;> kernel_rfl) fun args v h=> ?_;unfold fRg at h;split at h
 .rename_i a0 a1;split at h
  .rename_i L0 g0 n0 L1 g1 n1 e0 e1;simp only [Ae,Ad,Ac] at h;obtain ⟨rfl,ho0,ho1,hw⟩:=h;obtain ⟨N,hN⟩:=Nq q L0 L1 hw;exact ⟨_,_,(.cons (Xy e0 ho0) (.cons (Xy e1 ho1) .nil)),SB _ _,u2p q L0 L1 N _ hN,3,So _ _⟩
  .cases h
 .cases h
def Ud :CC:=Uc.with (nRg .u) (fRg .u)
theorem Wo :Zu prog Ud:=PY .u Qy
inductive Hh where
 | h0 (v8:Int)
 | h1 (v16:Int) (aB:zq)
 | h2 (v4:Int) (aG:zx) (aV:zu) (bE:Int) (bF:Int) (aF:Nat) (aJ:zq)
 | h3 (v4:Int) (v38:Int) (aG:zx) (aV:zu) (bE:Int) (bF:Int) (aF:Nat) (aJ:zq) (aU:Int) (bB:Int) (aA:zu)
 | h4 (v1:Int) (v2:Int) (v72:zu) (v73:Int) (v74:Int) (bC:zu) (aZ:Int) (aC:zx) (bI:zu) (bG:Int) (aF:Nat) (aJ:zq) (aU:zu)
 | h5 (v2:Int) (v8:Int) (cE:Int) (bC:zu) (aZ:Int) (aC:zx) (bI:zu) (bG:Int) (bY:Int) (bK:Nat) (bN:zq) (aA:zu)
def N2 (l0:zx):Hh->CJ
 | .h0 v8=>⟨⟨19,0,true⟩,none,(Zk prog 144 (pn 37) 0),none,(Zy prog 3),⟨Yy [(0,(dt l0)),(1,(.fn 107 [])),(7,(ii (l0.length:Int))),(8,(ii v8))],Wf [] 0,0,[],true⟩,[⟨⟨9,0,true⟩,(Wz prog 106 [1,0] 2),(Zk prog 106 [1,0] 1),none,(Zy prog 3),Yy [(5,(dt l0)),(6,(.fn 107 []))]⟩,⟨⟨15,0,true⟩,(Wz prog 66 (pn 19) 1),(Zk prog 66 (pn 19) 1),none,(Zy prog 10),Yy [(0,(dt l0)),(7,(dt l0))]⟩],.leaf⟩
 | .h1 v16 aB=>⟨⟨36,0,true⟩,none,(Zk prog 139 (pn 19659) 0),none,(Zy prog 9),⟨Yy [(1,(.ptr 0 0)),(3,(.ptr 2 0)),(8,(.sl 1 0 1 (.un 1))),(9,(ii 1)),(10,(ii 0)),(14,(dt l0)),(15,(ii (l0.length:Int))),(16,(ii v16))],Wf [⟨[(.sl 1 0 1 (.un 1))],194,none⟩,⟨[(dt l0)],45,none⟩,⟨[(.sla 7 1 0 aB.length (.un 1))],83,none⟩,⟨[.nilf],174,none⟩,⟨[.nils],46,none⟩,⟨[(ii 0)],24,none⟩,⟨[.nils,.nils,(ii 0),(ii 0)],198,none⟩,(rz aB 3 1)] 0,8,[],true⟩,[⟨⟨65,0,true⟩,(Wz prog 102 (pn 19) 1),(Zk prog 102 (pn 19) 1),none,(Zy prog 102),Yy [(2,(.ptr 3 0)),(4,(.ptr 4 0)),(5,(.ptr 5 0)),(6,(.ptr 6 0)),(13,(.sl 1 0 1 (.un 1)))]⟩,⟨⟨15,0,true⟩,(Wz prog 66 (pn 23) 3),(Zk prog 66 (pn 23) 1),none,(Zy prog 10),Yy [(9,(.agg [.nilf])),(11,(.sl 1 0 1 (.un 1)))]⟩],.leaf⟩
 | .h2 v4 aG aV bE bF aF aJ=>⟨⟨86,0,true⟩,none,(Zk prog 163 [1,0,0] 0),none,[],⟨Yy [(0,(.yld 0)),(1,(.ptr 5 0)),(2,(.ptr 7 0)),(4,(ii v4))],Cs [(1,⟨[.nilf],174,none⟩),(2,⟨[.nils],46,none⟩),(3,⟨[(ii 0)],24,none⟩),(4,⟨[(.sla 9 6 0 aG.length (.un 6)),(dt aV),(ii bE),(ii bF)],198,none⟩),(5,⟨[(.sla 6 1 0 aF (.un 1))],83,none⟩),(6,(rz aJ 3 1)),(7,⟨[(.sl 8 0 1 (.un 1))],194,none⟩),(8,⟨[(dt l0)],45,none⟩),(9,(rz aG 79 6))],10,[],true⟩,[⟨⟨65,0,true⟩,none,(.inRangeFunc 0::(Zk prog 102 (pn 43) 1)),none,(Zy prog 102),Yy [(4,(.ptr 2 0)),(5,(.ptr 3 0)),(6,(.ptr 4 0))]⟩,⟨⟨15,0,true⟩,(Wz prog 66 (pn 23) 3),(Zk prog 66 (pn 23) 1),none,(Zy prog 10),Yy [(9,(.agg [.nilf])),(11,(.sl 8 0 1 (.un 1)))]⟩],(DA [(0,⟨.ready,none,65,Yy [(2,(.ptr 1 0)),(4,(.ptr 2 0)),(5,(.ptr 3 0)),(6,(.ptr 4 0))],[15],(Xt prog 102 [1,1,0,1,0,0]),(Xt prog 102 [1,1,0,1,0,1])⟩)])⟩
 | .h3 v4 v38 aG aV bE bF aF aJ aU bB aA=>⟨⟨86,0,true⟩,none,(Zk prog 163 (pn 629065) 0),none,[],⟨Yy [(0,(.yld 0)),(1,(.ptr 5 0)),(2,(.ptr 7 0)),(4,(ii v4)),(5,(.ptr 9 0)),(6,(ii 0)),(29,(.sl 8 0 1 (.un 1))),(30,(ii 1)),(31,(ii 0)),(36,(dt l0)),(37,(ii (l0.length:Int))),(38,(ii v38))],Cs [(1,⟨[.nilf],174,none⟩),(2,⟨[.nils],46,none⟩),(3,⟨[(ii 0)],24,none⟩),(4,⟨[(.sla 12 6 0 aG.length (.un 6)),(dt aV),(ii bE),(ii bF)],198,none⟩),(5,⟨[(.sla 6 1 0 aF (.un 1))],83,none⟩),(6,(rz aJ 3 1)),(7,⟨[(.sl 8 0 1 (.un 1))],194,none⟩),(8,⟨[(dt l0)],45,none⟩),(9,⟨[(ii aU),(ii bB),(.sl 10 0 1 (.ex 1))],203,none⟩),(10,⟨[(.sla 11 4 0 aA.length (.un 4))],195,none⟩),(11,(rz aA 168 4)),(12,(rz aG 79 6))],13,[],true⟩,[⟨⟨65,0,true⟩,none,(.inRangeFunc 0::(Zk prog 102 (pn 43) 1)),none,(Zy prog 102),Yy [(4,(.ptr 2 0)),(5,(.ptr 3 0)),(6,(.ptr 4 0))]⟩,⟨⟨15,0,true⟩,(Wz prog 66 (pn 23) 3),(Zk prog 66 (pn 23) 1),none,(Zy prog 10),Yy [(9,(.agg [.nilf])),(11,(.sl 8 0 1 (.un 1)))]⟩],(DA [(0,⟨.ready,none,65,Yy [(2,(.ptr 1 0)),(4,(.ptr 2 0)),(5,(.ptr 3 0)),(6,(.ptr 4 0))],[15],(Xt prog 102 [1,1,0,1,0,0]),(Xt prog 102 [1,1,0,1,0,1])⟩)])⟩
 | .h4 v1 v2 v72 v73 v74 bC aZ aC bI bG aF aJ aU=>⟨⟨101,0,true⟩,none,(Zk prog 141 (pn 39) 0),none,[],⟨Yy [(0,(.ptr 0 0)),(1,(ii v1)),(2,(ii v2)),(72,(dt v72)),(73,(ii v73)),(74,(ii v74))],Cs [(0,⟨[(.sla 10 6 0 aC.length (.un 6)),(dt bI),(ii bG),(ii v2)],198,none⟩),(2,⟨[.nilf],174,none⟩),(3,⟨[.nils],46,none⟩),(4,⟨[(ii 0)],24,none⟩),(5,⟨[(.sla 6 1 0 aF (.un 1))],83,none⟩),(6,(rz aJ 3 1)),(7,⟨[(.sl 8 0 1 (.un 1))],194,none⟩),(8,⟨[(dt l0)],45,none⟩),(9,⟨[(dt aU)],195,none⟩),(10,(rz aC 79 6))],11,[],true⟩,[⟨⟨65,0,true⟩,(Wz prog 102 (pn 1963) 5),(Zk prog 102 (pn 1963) 1),(some 1),[],Yy [(6,(.ptr 0 0)),(54,(ii v1)),(56,(ii v2)),(57,(dt bC))]⟩,⟨⟨86,0,true⟩,(Wz prog 163 (pn 713) 2),(Zk prog 163 (pn 713) 1),none,[],Yy [(0,(.yld 1)),(1,(.ptr 5 0)),(2,(.ptr 7 0)),(4,(ii aZ)),(82,(.yld 1)),(83,(.agg [(ii v1),(ii v2),(.sl 9 0 1 (.ex 1))]))]⟩,⟨⟨65,0,true⟩,none,(.inRangeFunc 1::(Zk prog 102 (pn 43) 1)),none,(Zy prog 102),Yy [(4,(.ptr 3 0)),(5,(.ptr 4 0)),(6,(.ptr 0 0))]⟩,⟨⟨15,0,true⟩,(Wz prog 66 (pn 23) 3),(Zk prog 66 (pn 23) 1),none,(Zy prog 10),Yy [(9,(.agg [.nilf])),(11,(.sl 8 0 1 (.un 1)))]⟩],(DA [(1,⟨.busy,none,65,Yy [(2,(.ptr 2 0)),(4,(.ptr 3 0)),(5,(.ptr 4 0)),(6,(.ptr 0 0))],[15],(Xt prog 102 [1,1,0,1,0,0]),(Xt prog 102 [1,1,0,1,0,1])⟩)])⟩
 | .h5 v2 v8 cE bC aZ aC bI bG bY bK bN aA=>⟨⟨101,0,true⟩,none,(Zk prog 141 (pn 146) 0),none,[],⟨Yy [(0,(.ptr 0 0)),(2,(ii v2)),(8,(ii v8))],Cs [(0,⟨[(.sla 1 6 0 aC.length (.un 6)),(dt bI),(ii bG),(ii bY)],198,none⟩),(1,(rz aC 79 6)),(3,⟨[.nilf],174,none⟩),(4,⟨[.nils],46,none⟩),(5,⟨[(ii 0)],24,none⟩),(6,⟨[(.sla 7 1 0 bK (.un 1))],83,none⟩),(7,(rz bN 3 1)),(8,⟨[(.sl 9 0 1 (.un 1))],194,none⟩),(9,⟨[(dt l0)],45,none⟩),(10,⟨[(dt aA)],195,none⟩)],11,[],true⟩,[⟨⟨65,0,true⟩,(Wz prog 102 (pn 1963) 5),(Zk prog 102 (pn 1963) 1),(some 2),[],Yy [(6,(.ptr 0 0)),(54,(ii cE)),(56,(ii v2)),(57,(dt bC))]⟩,⟨⟨86,0,true⟩,(Wz prog 163 (pn 713) 2),(Zk prog 163 (pn 713) 1),none,[],Yy [(0,(.yld 2)),(1,(.ptr 6 0)),(2,(.ptr 8 0)),(4,(ii aZ)),(82,(.yld 2)),(83,(.agg [(ii cE),(ii v2),(.sl 10 0 1 (.ex 1))]))]⟩,⟨⟨65,0,true⟩,none,(.inRangeFunc 2::(Zk prog 102 (pn 43) 1)),none,(Zy prog 102),Yy [(4,(.ptr 4 0)),(5,(.ptr 5 0)),(6,(.ptr 0 0))]⟩,⟨⟨15,0,true⟩,(Wz prog 66 (pn 23) 3),(Zk prog 66 (pn 23) 1),none,(Zy prog 10),Yy [(9,(.agg [.nilf])),(11,(.sl 9 0 1 (.un 1)))]⟩],(DA [(2,⟨.busy,none,65,Yy [(2,(.ptr 3 0)),(4,(.ptr 4 0)),(5,(.ptr 5 0)),(6,(.ptr 0 0))],[15],(Xt prog 102 [1,1,0,1,0,0]),(Xt prog 102 [1,1,0,1,0,1])⟩)])⟩
def KD :List (Option zt):=[some [0,1,7,8],some [5,6],some [0,7]]
def KF :List (Option zt):=[]
def j3c :List (Option zt):=[some [1,3,8,9,10,14,15,16],some [2,4,5,6,13],some [9,11]]
def j3e :List (Option zt):=[]
def j3b :List (Option zt):=[some [0,1,2,4],some [4,5,6],some [9,11]]
def j3d :List (Option zt):=[some [2,4,5,6],none,none,none,none,none,none,none,none,none]
def u0v :List (Option zt):=[some [0,1,2,4,5,6,29,30,31,36,37,38],some [4,5,6],some [9,11]]
def u0x :List (Option zt):=[some [2,4,5,6],none,none,none,none,none,none,none,none,none,none,none,none]
def u0u :List (Option zt):=[some [0,1,2,72,73,74],some [6,54,56,57],some [0,1,2,4,82,83],some [4,5,6],some [9,11]]
def u0w :List (Option zt):=[none,some [2,4,5,6],none,none,none,none,none,none,none,none,none]
def KC :List (Option zt):=[some [0,2,8],some [6,54,56,57],some [0,1,2,4,82,83],some [4,5,6],some [9,11]]
def KE :List (Option zt):=[none,none,some [2,4,5,6],none,none,none,none,none,none,none,none]
def Xi (l0:zx):Hh->Xk Hh
 | .h0 v8=>let g:=rd l0 v8.toNat;(bif (decide (v8<(l0.length:Int))) then (bif ((decide (0<=v8/\v8<(l0.length:Int)))&&true) then (bif (!(Oi g.a g.b g.c g.d g.e g.f)) then (bif (decide (v8>=0)) then (.ret [.nils,(.int .i64 8)]) else (.to (.h1 0 ([]:zq)))) else (.to (.h0 (wrap .i64 (v8+1))))) else .stuck) else (.to (.h1 0 ([]:zq))))
 | .h1 v16 aB=>let a:=Yq aB.length (CS (Zz (Wj (Yq aB.length (CS (Zz aB))))));let b:=rd l0 v16.toNat;(bif (decide (v16<(l0.length:Int))) then (bif ((decide (0<=v16/\v16<(l0.length:Int)))&&true) then (bif (Nat.beq 1 1&&((decide (0+aB.length=aB.length))&&decide ((aB.length+2+1)*(8+1)<=Vg))) then (.to (.h1 (wrap .i64 (v16+1)) (aB++[b.c,b.f]))) else .stuck) else .stuck) else (bif (decide (aB.length<4611686018427387904)) then (bif (decide (aB.length=aB.length)) then (.to (.h2 1 ([]:zx) ([]:zu) 0 0 (Ls a) (Wt a))) else .stuck) else .stuck))
 | .h2 v4 aG aV bE bF aF aJ=>(bif (decide (v4<((aF:Nat):Int))) then (bif ((decide (0<=(wrap .i64 (v4 - 1))/\(wrap .i64 (v4 - 1))<((aF:Nat):Int)))&&true) then (bif (decide ((0+(Int.toNat (wrap .i64 (v4 - 1))))<aJ.length)) then (bif ((decide (0<=v4/\v4<((aF:Nat):Int)))&&true) then (bif (decide ((0+v4.toNat)<aJ.length)) then (.to (.h3 v4 0 aG aV bE bF aF aJ (rd aJ (0+(Int.toNat (wrap .i64 (v4 - 1))))) (rd aJ (0+v4.toNat)) ([]:zu))) else .stuck) else .stuck) else .stuck) else .stuck) else (bif (decide ((aG.length:Int)>400)) then (.ret [.nils,(.int .i64 4)]) else (.ret [(dt aG),(.int .i64 0)])))
 | .h3 v4 v38 aG aV bE bF aF aJ aU bB aA=>let g:=Za (CB aA);let h:=rd l0 v38.toNat;(bif (decide (v38<(l0.length:Int))) then (bif ((decide (0<=v38/\v38<(l0.length:Int)))&&true) then (bif (decide (h.c <=aU)) then (bif (decide (aU<h.f)) then (bif (Nat.beq 4 4&&((decide (0+aA.length=aA.length))&&decide ((aA.length+1+1)*(32+1)<=Vg))) then (.to (.h3 v4 (wrap .i64 (v38+1)) aG aV bE bF aF aJ aU bB (aA++[(R4.mk h.a h.b h.d h.e)]))) else .stuck) else (.to (.h3 v4 (wrap .i64 (v38+1)) aG aV bE bF aF aJ aU bB aA))) else (.to (.h3 v4 (wrap .i64 (v38+1)) aG aV bE bF aF aJ aU bB aA))) else .stuck) else (bif (Kv (CB aA)) then (bif ((Xx (CB aA)) != 0) then (.ret [.nils,(.int .i64 (Xx (CB aA)))]) else (bif (decide (((g.length :Nat):Int)>0)) then (bif (bF == aU) then (bif (Wb (CB aV) (CB g)) then (bif (Uh (CB aV) (CB g)) then (.to (.h5 bB bE aU g v4 aG aV bE bF aF aJ aA)) else (.to (.h4 aU bB g ((g.length :Nat):Int) 0 g v4 aG g (aG.length:Int) aF aJ aA))) else .stuck) else (.to (.h4 aU bB g ((g.length :Nat):Int) 0 g v4 aG g (aG.length:Int) aF aJ aA))) else (.to (.h4 aU bB g ((g.length :Nat):Int) 0 g v4 aG g (aG.length:Int) aF aJ aA)))) else .stuck))
 | .h4 v1 v2 v72 v73 v74 bC aZ aC bI bG aF aJ aU=>let e:=rd v72 v74.toNat;(bif (decide (v74<v73)) then (bif ((decide (0<=v74/\v74<(v72.length:Int)))&&true) then (bif (Nat.beq 6 6&&((decide (0+aC.length=aC.length))&&decide ((aC.length+1+1)*(48+1)<=Vg))) then (.to (.h4 v1 v2 v72 v73 (wrap .i64 (v74+1)) bC aZ (aC++[(R6.mk e.a e.b v1 e.c e.d v2)]) bI bG aF aJ aU)) else .stuck) else .stuck) else (.to (.h2 (wrap .i64 (aZ+1)) aC bI bG v2 aF aJ)))
 | .h5 v2 v8 cE bC aZ aC bI bG bY bK bN aA=>let f:=rd aC (0+v8.toNat);(bif (decide (v8<(aC.length:Int))) then (bif ((decide (0<=v8/\v8<(aC.length:Int)))&&true) then (bif (decide ((0+v8.toNat)<aC.length)) then (.to (.h5 v2 (wrap .i64 (v8+1)) cE bC aZ (aC.set (0+v8.toNat) (R6.mk f.a f.b f.c f.d f.e v2)) bI bG bY bK bN aA)) else .stuck) else .stuck) else (.to (.h2 (wrap .i64 (aZ+1)) aC bI bG v2 bK bN)))
def X5 (l0:zx):Xk Hh:=(bif (decide ((l0.length:Int)>400)) then (.ret [.nils,(.int .i64 4)]) else (.to (.h0 0)))
theorem w8m (l0:zx): ∀s,Xh prog (Zy prog 66) (N2 l0) (N2 l0 s) (Xi l0 s)
 | .h0 v8=>let b:=fl ([]:zq) nn;(lb (fun k0=>(lo fun aK=>let a:=ww aK (tt k0 nn);(lb (fun k1=>(lb (fun k2=>(lr 15 66 (pn 75) 1 10 [(2,.nils),(3,(ii 8))] (sl Wo 54 [] (b8 [2,3]) b7 (CL 3 []) (tt k2 (tt k1 a))))) (fun k2=>(sl Wo 112 [(3,1,Zz ([]:zq))] ⟨[6,1,7,2,3,4,5,8],[],j3c,j3e⟩ ⟨[],[.keep,.keep,.cells [.grow 7 1],.keep,.keep,.keep,.keep,.keep],[]⟩ (bl 4 11) (pp b (tt k2 (tt k1 a))))))) (fun k1=>(sl Wo 44 [] ⟨[],[],KD,KF⟩ b7 (bl 2 1) (tt k1 a)))))) (fun k0=>(sl Wo 81 [(3,1,Zz ([]:zq))] ⟨[5,0,6,1,2,3,4,7],[],j3c,j3e⟩ ⟨[],[.keep,.keep,.cells [.grow 7 1],.keep,.keep,.keep,.keep,.keep],[]⟩ (bl 3 4) (pp b (tt k0 nn)))))
 | .h1 v16 aB=>(lb (fun k0=>(lo fun o0=>(lo fun o1=>let m:=rd l0 (tn v16);let j:=m;let b:=aB++[j.c,j.f];let p:=aB++[m.c,m.f];let q:=aB.length+2;let d:=xL q p.length;let n:=Zr (Zz aB) 0 aB.length 1 [(ii m.c),(ii m.f)];(sl Wo 34 [] ⟨[0,1,2,3,4,5,6,10],[],j3c,j3e⟩ ⟨[],[.keep,.keep,.cells [.len b.length],.keep,.keep,.keep,.keep,.rowed 1 b.length (Zz b)],[]⟩ [true] (pp d (pp d (pp (xS q n (Zz p)) (pp (pp (xF n) nn) (ww o1 (ww o0 (tt k0 nn))))))))))) (fun k0=>(lo fun o0=>(lo fun o1=>let o:=Zz (Wj (Yq aB.length (CS (Zz aB))));let l:=Wt (Yq aB.length (CS o));let a:=l;let e:=xG (Nat.beq 1 1);let g:=xG (decide (aB.length<4611686018427387904));let h:=xG (decide (aB.length=aB.length));let i:=xG (Nat.beq 0 0);(sl Wo 46 [(79,6,Zz ([]:zx))] ⟨[8,3,4,5,6,2,7,0,1,9],[],j3b,j3d⟩ ⟨[],(DN 4 [.cells [.grow 9 6,.list 0 (Zz ([]:zu)),.keep,.keep],.keep,.rowed 1 a.length (Zz a),.keep,.keep,.keep]),[]⟩ (bl 2 0) (pp (xL aB.length l.length (by first | exact SQ _ _ | exact Jj rfl)) (pp (xS aB.length (Zz l) (Zz l)) (pp (fl a (fl ([]:zx) nn)) (pp (pp e (pp e (pp i (pp h (pp (xG (FG o)) g))))) (pp (pp e (pp e (pp i (pp h (pp (xG (FG (Zz aB))) g))))) (tt k0 nn)))))))))))
 | .h2 v4 aG aV bE bF aF aJ=>(lb (fun k0=>(lo fun o0=>(lo fun o1=>(lo fun o2=>(lo fun o3=>(sl Wo 48 [(168,4,Zz ([]:zu))] ⟨[0,1,2,3,4,5,6,7,8,10,11,12,9],[],u0v,u0x⟩ ⟨[],(DN 10 [.cells [.grow 11 4],.keep,.keep]),[]⟩ (CL 3 []) (pp (fl aJ (fl ([]:zu) (fl aG nn))) (ww o3 (ww o2 (ww o1 (ww o0 (tt k0 nn)))))))))))) (fun k0=>(lb (fun k1=>(lr 15 3 (pn 191) 1 10 [(2,.nils),(3,(ii 4))] (sl Wo 33 [] (b8 [2,3]) b7 (bl 2 2) (tt k1 (tt k0 nn))))) (fun k1=>(lr 15 3 (pn 191) 1 10 [(2,(dt aG)),(3,(ii 0))] (sl Wo 36 [] ⟨[],[9],[some [2,3]],[]⟩ ⟨[(2,.frz aG.length aG.length (Zz aG) (Zz aG))],[],[]⟩ (bl 2 0) (pp (xZ (DE 6 6 0 aG.length aG.length (Zz aG)) aG.length (Zz aG)) (pp (xL aG.length aG.length) (pp (xS aG.length (Zz aG) (Zz aG)) (pp (fl aG nn) (tt k1 (tt k0 nn))))))))))))
 | .h3 v4 v38 aG aV bE bF aF aJ aU bB aA=>(lb (fun k0=>(lo fun aK=>let j:=ww aK (tt k0 nn);let o:=fl aJ (fl aA (fl aG nn));let r:=List.range 13;(lb (fun k1=>(lb (fun k2=>(lo fun o0=>let s:=rd l0 (tn v38);let i:=s;let c:=aA++[(R4.mk i.a i.b i.d i.e)];let v:=aA++[(R4.mk s.a s.b s.d s.e)];let w:=aA.length+1;let f:=xL w v.length;let t:=Zr (Zz aA) 0 aA.length 4 [(ii s.a),(ii s.b),(ii s.d),(ii s.e)];(sl Wo 41 [] ⟨[0,1,2,3,4,5,6,7,8,9,10,15,12],[],u0v,u0x⟩ ⟨[],(DN 10 [.cells [.len c.length],.rowed 4 c.length (Zz c),.keep]),[]⟩ (CL 8 []) (pp f (pp f (pp (xS w t (Zz v)) (pp (fl aJ (pp (xF t) (fl aG nn))) (ww o0 (tt k2 (tt k1 j)))))))))) (fun k2=>(sl Wo 41 [] ⟨r,[],u0v,u0x⟩ b7 (CL 7 [false]) (pp o (tt k2 (tt k1 j))))))) (fun k1=>(sl Wo 41 [] ⟨r,[],u0v,u0x⟩ b7 (bl 8 1) (pp o (tt k1 j))))))) (fun k0=>let h:=xZ (DE 4 4 0 aA.length aA.length (Zz aA)) aA.length (Zz aA);let n:=xS aA.length (Zz aA) (Zz aA);let p:=xL aA.length aA.length;let q:=fl aG (fl aJ nn);(Un (sl Wo (C':=⟨⟨65,0,true⟩,(Wz prog 102 (pn 299) 4),(Zk prog 102 (pn 299) 1),(some 0),[],⟨Yy [(2,(.ptr 1 0)),(4,(.ptr 2 0)),(5,(.ptr 3 0)),(6,(.ptr 4 0)),(7,(.ptr 6 0)),(20,(dt aA))],Cs [(1,⟨[.nilf],174,none⟩),(2,⟨[.nils],46,none⟩),(3,⟨[(ii 0)],24,none⟩),(4,⟨[(.sla 5 6 0 aG.length (.un 6)),(dt aV),(ii bE),(ii bF)],198,none⟩),(5,(rz aG 79 6)),(6,⟨[(ii aU),(ii bB),(.sl 7 0 1 (.ex 1))],203,none⟩),(7,⟨[(dt aA)],195,none⟩),(8,⟨[(.sla 9 1 0 aF (.un 1))],83,none⟩),(9,(rz aJ 3 1)),(10,⟨[(.sl 11 0 1 (.un 1))],194,none⟩),(11,⟨[(dt l0)],45,none⟩)],12,[],true⟩,[⟨⟨86,0,true⟩,(Wz prog 163 (pn 713) 2),(Zk prog 163 (pn 713) 1),none,[],Yy [(0,(.yld 0)),(1,(.ptr 8 0)),(2,(.ptr 10 0)),(4,(ii v4)),(82,(.yld 0)),(83,(.agg [(ii aU),(ii bB),(.sl 7 0 1 (.ex 1))]))]⟩,⟨⟨65,0,true⟩,none,(.inRangeFunc 0::(Zk prog 102 (pn 43) 1)),none,(Zy prog 102),Yy [(4,(.ptr 2 0)),(5,(.ptr 3 0)),(6,(.ptr 4 0))]⟩,⟨⟨15,0,true⟩,(Wz prog 66 (pn 23) 3),(Zk prog 66 (pn 23) 1),none,(Zy prog 10),Yy [(9,(.agg [.nilf])),(11,(.sl 11 0 1 (.un 1)))]⟩],(DA [(0,⟨.busy,none,65,Yy [(2,(.ptr 1 0)),(4,(.ptr 2 0)),(5,(.ptr 3 0)),(6,(.ptr 4 0))],[15],(Xt prog 102 [1,1,0,1,0,0]),(Xt prog 102 [1,1,0,1,0,1])⟩)])⟩) 37 [] ⟨[0,1,2,3,4,12,13,10,5,6,7,8],[11],[some [2,4,5,6,7,20],some [0,1,2,4,82,83],some [4,5,6],some [9,11]],[some [2,4,5,6],none,none,none,none,none,none,none,none,none,none,none]⟩ ⟨[(20,.frz aA.length aA.length (Zz aA) (Zz aA))],[.keep,.keep,.keep,.keep,.keep,.keep,.keep,.cells [.frz aA.length aA.length (Zz aA) (Zz aA)],.keep,.keep,.keep,.keep],[]⟩ (bl 2 0) (pp h (pp p (pp n (pp h (pp p (pp n (pp q (pp (fl aA nn) (tt k0 nn)))))))))) (lo fun aK=>let g:=pp (pp (xr aA) (xw aK)) nn;(lb (fun k1=>(lr 15 3 (pn 191) 1 10 [(2,.nils),(3,(ii (Xx (CB aA))))] (sl Wo 50 [] (b8 [2,3]) b7 (bl 3 6) (tt k1 g)))) (fun k1=>let l:=fl aJ (fl aG nn);(lb (fun k2=>let m:=tt k2 (tt k1 g);(lb (fun k3=>(lo fun cU=>let u:=Za (CB aA);(lb (fun k4=>(sl Wo 75 [] ⟨[4,5,0,1,2,3,8,9,10,11,7],[],KC,KE⟩ b7 (bl 15 32764) (pp q (tt k4 (pp (pp (xr aV) (pp (xI R4 u.length (Zz u)) (xw cU))) (tt k3 m)))))) (fun k4=>(sl Wo 95 [] ⟨[4,0,1,2,3,8,9,10,11,7,5],[],u0u,u0w⟩ b7 (bl 15 16380) (pp l (tt k4 (pp (pp (xr aV) (pp (xI R4 u.length (Zz u)) (xw cU))) (tt k3 m))))))))) (fun k3=>(sl Wo 95 [] ⟨[4,0,1,2,3,8,9,10,11,7,5],[],u0u,u0w⟩ b7 (bl 15 252) (pp l (tt k3 m)))))) (fun k2=>(sl Wo 95 [] ⟨[4,0,1,2,3,8,9,10,11,7,5],[],u0u,u0w⟩ b7 (bl 15 0) (pp l (tt k2 (tt k1 g))))))))))))
 | .h4 v1 v2 v72 v73 v74 bC aZ aC bI bG aF aJ aU=>(lb (fun k0=>(lo fun o0=>(lo fun o1=>let h:=rd v72 (tn v74);let g:=h;let e:=aC++[(R6.mk g.a g.b v1 g.c g.d v2)];let j:=aC++[(R6.mk h.a h.b v1 h.c h.d v2)];let l:=aC.length+1;let f:=xL l j.length;let i:=Zr (Zz aC) 0 aC.length 6 [(ii h.a),(ii h.b),(ii v1),(ii h.c),(ii h.d),(ii v2)];(sl Wo 23 [] ⟨[0,1,2,3,4,5,6,7,8,9,13],[],u0u,u0w⟩ ⟨[],[.cells [.len e.length,.keep,.keep,.keep],.keep,.keep,.keep,.keep,.keep,.keep,.keep,.keep,.keep,.rowed 6 e.length (Zz e)],[]⟩ [true] (pp f (pp f (pp (xS l i (Zz j)) (pp (fl aJ (pp (xF i) nn)) (ww o1 (ww o0 (tt k0 nn))))))))))) (fun k0=>(sl Wo 22 [] ⟨[1,2,3,4,0,5,6,7,8,10],[],j3b,j3d⟩ b7 (bl 2 0) (pp (fl aJ (fl aC nn)) (tt k0 nn)))))
 | .h5 v2 v8 cE bC aZ aC bI bG bY bK bN aA=>(lb (fun k0=>(lo fun o0=>(lo fun o1=>let i:=rd aC (0+(tn v8));let h:=i;let f:=aC.set (0+(tn v8)) (R6.mk h.a h.b h.c h.d h.e v2);let j:=aC.set (0+(tn v8)) (R6.mk i.a i.b i.c i.d i.e v2);let g:=xL aC.length j.length;let l:=Xg (Zz aC) (0+(tn v8)) 5 [(ii v2)];(sl Wo 34 [] ⟨(List.range 11),[],KC,KE⟩ ⟨[],[.cells [.len f.length,.keep,.keep,.keep],.rowed 6 f.length (Zz f),.keep,.keep,.keep,.keep,.keep,.keep,.keep,.keep,.keep],[]⟩ [true] (pp g (pp g (pp (xS aC.length l (Zz j)) (pp (pp (xF l) (fl bN nn)) (ww o1 (ww o0 (tt k0 nn))))))))))) (fun k0=>(sl Wo 36 [] ⟨[2,3,4,5,0,6,7,8,9,1],[],j3b,j3d⟩ b7 (bl 2 0) (pp (fl bN (fl aC nn)) (tt k0 nn)))))
theorem x9d (l0:zx):Xh prog (Zy prog 66) (N2 l0) (Zb prog 66 [(dt l0)] true []) (X5 l0):=(lb (fun k0=>(lr 15 66 (pn 37) 1 10 [(2,.nils),(3,(ii 4))] (sl Wo 18 [] (b8 [2,3]) b7 [true] (tt k0 nn)))) (fun k0=>(sl Wo 41 [] ⟨[],[],KD,KF⟩ b7 [false] (tt k0 nn))))
theorem u0t (l0:zx) (n:Nat) (vs:zy) (h:Yj (Xi l0) n (X5 l0)=.ret vs):Ji prog (Zy prog 66) (Zb prog 66 [(dt l0)] true []) vs:=by have:=Zf (w8m l0) n _ (x9d l0);rwa [h] at this
def Tr :zy:=[.nils,.int .i64 8]
def GB (l:zx):Nat->Nat->Int
 | 0,_=>0
 | k+1,i=>bif Ew l (rd (D6.cuts l) i) then Xx (D6.inn l (rd (D6.cuts l) i)) else GB l k (i+1)
def FX (l:zx) (k i:Nat):zy:=[.nils,.int .i64 (GB l k i)]
section
variable (l:zx) (hl:l.length<=400)
include hl
theorem u7q (i:Nat) (out:zx) (last:zu) (first fin x x':Int): ∀(k j:Nat) (acc:zu),j+k=l.length->acc.length<=j->
  ∃n,∀N,Yj (Xi l) (N+n) (.to (.h3 (i:Int) (j:Int) out last first fin ((D6.cuts l).length) (Wt (Wj (D6.ends l))) x x' acc))=Yj (Xi l) N (.to (.h3 (i:Int) (l.length:Int) out last first fin ((D6.cuts l).length) (Wt (Wj (D6.ends l))) x x' (acc++D6.inn (l.drop j) x)))
 | 0,j,acc,h,ha=>by refine ⟨0,fun N=> ?_⟩;rw [Aw (by omega),show D6.inn ([]:zx) x=[] from rfl,AG,Bo,show j=l.length by omega]
 | k+1,j,acc,h,ha=>by
  have hj:j<l.length:=by omega
  obtain ⟨n,hn⟩:=u7q i out last first fin x x' k (j+1) (acc++D6.inn [rd l j] x) (by omega) (by have:=D6.inn_length [rd l j] x;simp only [AO,List.length_singleton] at*;omega)
  refine ⟨n+1,fun N=> ?_⟩;have e:D6.inn (l.drop j) x=D6.inn [rd l j] x++D6.inn (l.drop (j+1)) x:=by rw [Yn hj,<-D6.inn_append];rfl
  rw [e,<-AK,Zx,<-AH,<-hn N];by_cases h1:D6.lo (rd l j)<=x
  .by_cases h2:x<D6.hi (rd l j)
   .rw [D6.inn_t _ _ h1 h2];simp only [D6] at h1 h2 ⊢;simp (disch:=omega) only [Xi,Xs,Zd,Zp,Zt,Zn,Yd,Yp,Yg,Zh,Zq,Zv,Yb,Zj,Ah,Au,Aj,Al,Ab,Aa]
   .rw [D6.inn_f2 _ _ h2,AG];simp only [D6] at h1 h2;simp (disch:=omega) only [Xi,Xs,Yc,Zd,Zp,Zt,Zn,Yd,Yp,Yg,Zh,Zq,Zv,Yb,Zj,Ah,Au,Aj,Al,Ab,Aa]
  .rw [D6.inn_f1 _ _ h1,AG];simp only [D6] at h1;simp (disch:=omega) only [Xi,EZ,Zd,Zp,Zt,Zn,Yd,Yp,Yg,Zh,Zq,Zv,Yb,Zj,Ah,Au,Aj,Al,Ab,Aa]
theorem u7p (i:Nat) (hi:i<=1000) (x x':Int) (s last:zu) (first:Int) (inn:zu) (hs:s.length<=1000): ∀(k j:Nat) (out:zx),j+k=s.length->out.length<=10000000+j->
  ∃n,∀N,Yj (Xi l) (N+n) (.to (.h4 x x' s (s.length:Int) (j:Int) s (i:Int) out last first ((D6.cuts l).length) (Wt (Wj (D6.ends l))) inn))=Yj (Xi l) N (.to (.h2 ((i+1:Nat):Int) (out++(s.drop j).map (D6.put x x')) last first x' ((D6.cuts l).length) (Wt (Wj (D6.ends l)))))
 | 0,j,out,h,ho=>by have _u:=hl;refine ⟨1,fun N=> ?_⟩;rw [Aw (by omega),Zx];simp (disch:=omega) only [Xi,Yc,Zq,Zv,Aa,BL,AG]
 | k+1,j,out,h,ho=>by
  obtain ⟨n,hn⟩:=u7p i hi x x' s last first inn hs k (j+1) (out++[D6.put x x' (rd s j)]) (by omega) (by simp;omega)
  refine ⟨n+1,fun N=> ?_⟩;have:=hn N;rw [Yn (show j<s.length by omega),AT,<-AK,Zx];simp (disch:=omega) only [Xi,Zd,Zp,Zt,Zn,Yd,Yp,Yg,Zh,Zq,Zv,Yb,Zj,Ah,Au,Aj,Al,Ab,Aa];rw [AH] at this;exact this
theorem u7o (i:Nat) (hi:i<=1000) (x x' fin:Int) (s last:zu) (first:Int) (inn:zu): ∀(k j:Nat) (out:zx),j+k=out.length->out.length<=10000000->
  ∃n,∀N,Yj (Xi l) (N+n) (.to (.h5 x' (j:Int) x s (i:Int) out last first fin ((D6.cuts l).length) (Wt (Wj (D6.ends l))) inn))=Yj (Xi l) N (.to (.h2 ((i+1:Nat):Int) (D6.grow out j x') last first x' ((D6.cuts l).length) (Wt (Wj (D6.ends l)))))
 | 0,j,out,h,ho=>by have _u:=hl;refine ⟨1,fun N=> ?_⟩;rw [D6.grow_nil _ _ _ (by omega),Zx];simp (disch:=omega) only [Xi,Yc,Zq,Zv,Aa]
 | k+1,j,out,h,ho=>by
  obtain ⟨n,hn⟩:=u7o i hi x x' fin s last first inn k (j+1) (out.set j (D6.ext x' (rd out j))) (by simp;omega) (by simpa using ho)
  refine ⟨n+1,fun N=> ?_⟩;have:=hn N;rw [D6.grow_set out j _ (by omega)] at this;rw [<-AK,Zx];simp (disch:=omega) only [Xi,Zd,Zp,Zt,Zn,Yd,Yp,Yg,Zh,Zq,Zv,Yb,Zj,Ah,Au,Aj,Al,Ab,Aa];exact this
theorem v3x : ∀(k i:Nat) (s:Sw R6 R4),k=(D6.cuts l).length - 1 - i->i<=(D6.cuts l).length ->s.out.length<=i*1000->s.last.length<=1000->s.first<=s.out.length->
  ∃n,Yj (Xi l) n (.to (.h2 ((i+1:Nat):Int) s.out s.last (s.first:Int) s.fin ((D6.cuts l).length) (Wt (Wj (D6.ends l)))))=.ret ((bif Cp l k i then Qv (D6.go l k i s).out else FX l k i))
 | 0,i,s,h,hi,ho,hla,hf=>by
  have hc:=D6.cuts_length l;refine ⟨1,?_⟩;rw [Zx,show D6.go l 0 i s=s from rfl,show Cp l 0 i=true from rfl,Ab];unfold Qv;by_cases q:(s.out.length:Int)>400
  .simp (disch:=omega) only [Xi,Yc,Yo,Ab,Aa,Zc]
  .simp (disch:=omega) only [Xi,Zd,Yc,Xb,Ab,Aa,Zc]
 | k +1,i,s,h,hi,ho,hla,hf=>by
  have hc:=D6.cuts_length l;have hi1:i+1<(D6.cuts l).length :=by omega
  have hpl:(Wt (Wj (D6.ends l))).length =2*l.length:=by rw [Qp,Kq,D6.ends_length]
  have r0:rd (Wt (Wj (D6.ends l))) i=rd (D6.cuts l) i:=Gj _ _ (by show i<(D6.cuts l).length;omega);have r1:rd (Wt (Wj (D6.ends l))) (i+1)=rd (D6.cuts l) (i+1):=Gj _ _ (by show i+1<(D6.cuts l).length;omega);have hbig:i*1000<=1000*1000:=AE _ (by omega);have hsl:=j1s l (rd (D6.cuts l) i);have hsd:D6.sec l (rd (D6.cuts l) i)=Za (D6.inn l (rd (D6.cuts l) i)):=rfl;obtain ⟨n3,h3⟩:=u7q l hl (i+1) s.out s.last (s.first:Int) s.fin (rd (D6.cuts l) i) (rd (D6.cuts l) (i+1)) l.length 0 [] (Ah _) (Aq _);simp only [AR,A0,EB] at h3;have w1:Kv (D6.inn l (rd (D6.cuts l) i))=true:=rfl;have w2:Wb s.last (Za (D6.inn l (rd (D6.cuts l) i)))=true:=Af (by omega);have ol:=D6.one_length l (rd (D6.cuts l) i) (rd (D6.cuts l) (i+1)) s;have st0: ∀N,Yj (Xi l) (N+n3+1) (.to (.h2 ((i+1:Nat):Int) s.out s.last (s.first:Int) s.fin ((D6.cuts l).length) (Wt (Wj (D6.ends l)))))=Yj (Xi l) N (.to (.h3 ((i+1:Nat):Int) (l.length:Int) s.out s.last (s.first:Int) s.fin ((D6.cuts l).length) (Wt (Wj (D6.ends l))) (rd (D6.cuts l) i) (rd (D6.cuts l) (i+1)) (D6.inn l (rd (D6.cuts l) i)))):=fun N=>by
   rw [<-h3 N,Zx];have e1:wrap .i64 (((i+1:Nat):Int) - 1)=(i:Int):=by rw [Yx];exact Zq (by omega)
   simp (disch:=omega) only [Xi,e1,r0,r1,Zd,Zp,Zt,Zn,Yd,Yp,Yg,Zh,Zq,Zv,Yb,Zj,Ah,Au,Aj,Al,Ab,Aa]
  rcases Xw (Ew l (rd (D6.cuts l) i)) with q0 | q0
  .refine ⟨1+n3+1,?_⟩;rw [st0 1,Zx];simp only [Cp,FX,GB,q0,Ab,Aa];have q0':(Xx (D6.inn l (rd (D6.cuts l) i)) != 0)=true:=q0;simp (disch:=omega) only [Xi,Zd,Zp,Yc,q0',w1,Ab,Aa,Zc]
  have q0':(Xx (D6.inn l (rd (D6.cuts l) i)) != 0)=false:=q0;rcases Xw (decide (0<(D6.sec l (rd (D6.cuts l) i)).length)&&((s.fin == rd (D6.cuts l) i)&&D6.same s.last (D6.sec l (rd (D6.cuts l) i)))) with q | q
  .obtain ⟨n5,h5⟩:=u7o l hl (i+1) (by omega) (rd (D6.cuts l) i) (rd (D6.cuts l) (i+1)) s.fin (D6.sec l (rd (D6.cuts l) i)) s.last (s.first:Int) (D6.inn l (rd (D6.cuts l) i)) (s.out.length - s.first) s.first s.out (by omega) (by omega)
   have e:D6.one l (rd (D6.cuts l) i) (rd (D6.cuts l) (i+1)) s=⟨D6.grow s.out s.first (rd (D6.cuts l) (i+1)),s.last,s.first,rd (D6.cuts l) (i+1)⟩:=by unfold CM.one;rw [q];rfl
   obtain ⟨n0,h0⟩:=v3x k (i+1) (D6.one l (rd (D6.cuts l) i) (rd (D6.cuts l) (i+1)) s) (by omega) (by omega) (by omega) (by rw [e];exact hla) (by rw [e];simpa [CM.grow_length] using hf);refine ⟨n0+n5+1+n3+1,?_⟩;rw [st0 (n0+n5+1),Zx];simp only [Ac,Ao] at q;obtain ⟨q1,q2,q3⟩:=q;have q3':Uh s.last (Za (D6.inn l (rd (D6.cuts l) i)))=true:=q3;rw [hsd] at q1;simp (disch:=omega) only [Xi,Zd,Zp,Yc,Yo,q0',q2,q3',w1,w2,Ab,Aa];rw [<-hsd,h5 n0];simp only [Cp,FX,GB,q0,Aa];simp only [CM.go];rw [e] at h0 ⊢;exact h0
  .obtain ⟨n4,h4⟩:=u7p l hl (i+1) (by omega) (rd (D6.cuts l) i) (rd (D6.cuts l) (i+1)) (D6.sec l (rd (D6.cuts l) i)) (D6.sec l (rd (D6.cuts l) i)) (s.out.length:Int) (D6.inn l (rd (D6.cuts l) i)) hsl (D6.sec l (rd (D6.cuts l) i)).length 0 s.out (Ah _) (by omega);simp only [AR,EB] at h4;have e:D6.one l (rd (D6.cuts l) i) (rd (D6.cuts l) (i+1)) s=⟨s.out++(D6.sec l (rd (D6.cuts l) i)).map (D6.put (rd (D6.cuts l) i) (rd (D6.cuts l) (i+1))),D6.sec l (rd (D6.cuts l) i),s.out.length,rd (D6.cuts l) (i+1)⟩:=by unfold CM.one;rw [q];rfl
   obtain ⟨n0,h0⟩:=v3x k (i+1) (D6.one l (rd (D6.cuts l) i) (rd (D6.cuts l) (i+1)) s) (by omega) (by omega) (by omega) (by rw [e];exact hsl) (by rw [e];simp);have hg:Yj (Xi l) 1 (.to (.h3 ((i+1:Nat):Int) (l.length:Int) s.out s.last (s.first:Int) s.fin ((D6.cuts l).length) (Wt (Wj (D6.ends l))) (rd (D6.cuts l) i) (rd (D6.cuts l) (i+1)) (D6.inn l (rd (D6.cuts l) i))))=.to (.h4 (rd (D6.cuts l) i) (rd (D6.cuts l) (i+1)) (D6.sec l (rd (D6.cuts l) i)) ((D6.sec l (rd (D6.cuts l) i)).length :Int) 0 (D6.sec l (rd (D6.cuts l) i)) ((i+1:Nat):Int) s.out (D6.sec l (rd (D6.cuts l) i)) (s.out.length:Int) ((D6.cuts l).length) (Wt (Wj (D6.ends l))) (D6.inn l (rd (D6.cuts l) i))):=by
    rw [show (1:Nat)=0+1 from rfl,Zx];rw [hsd] at q ⊢;have e3:D6.same s.last (Za (D6.inn l (rd (D6.cuts l) i)))=Uh s.last (Za (D6.inn l (rd (D6.cuts l) i))):=rfl;rw [e3] at q;by_cases q1:0<(Za (D6.inn l (rd (D6.cuts l) i))).length
    .rw [Af q1,Al] at q;rcases Xw (s.fin == rd (D6.cuts l) i) with q2 | q2
     .rw [q2,Al] at q;simp (disch:=omega) only [Xi,Zd,Zp,Yc,Yo,q0',q2,q,w1,w2,Ab,Aa];rfl
     .simp (disch:=omega) only [Xi,Zd,Zp,Yc,Yo,q0',q2,w1,w2,Ab,Aa];rfl
    .simp (disch:=omega) only [Xi,Zd,Zp,Yc,Xb,q0',w1,w2,Ab,Aa];rfl
   refine ⟨n0+n4+1+n3+1,?_⟩;rw [st0 (n0+n4+1),SO _ (n0+n4) 1,hg,h4 n0];simp only [Cp,FX,GB,q0,Aa];simp only [CM.go];rw [e] at h0 ⊢;exact h0
theorem u7r : ∀(k i:Nat) (acc:zq),i+k=l.length->acc=D6.ends (l.take i)-> ∃n,Yj (Xi l) n (.to (.h1 (i:Int) acc))=.ret ((bif Cp l ((D6.cuts l).length - 1) 0 then Qv (D6.go l ((D6.cuts l).length - 1) 0 ⟨[],[],0,0⟩).out else FX l ((D6.cuts l).length - 1) 0))
 | 0,i,acc,h,ha=>by
  have e:acc=D6.ends l:=by rw [ha,A6 (by omega)]
  subst e;have hle:=D6.ends_length l;obtain ⟨n,hn⟩:=v3x l hl ((D6.cuts l).length - 1) 0 ⟨[],[],0,0⟩ (by omega) (AA _) (AA _) (AA _) (AA _);refine ⟨n+1,?_⟩;rw [Zx];simp (disch:=omega) only [Xi,Qm,S0,Sg,Yc,Yp,Yg,Au,Ab,Aa];exact hn
 | k+1,i,acc,h,ha=>by
  have hle:=D6.ends_length (l.take i);have gQ:acc.length<=2*i:=by rw [ha,hle];simp;omega
  obtain ⟨n,hn⟩:=u7r k (i+1) (acc++D6.ends [rd l i]) (by omega) (by
   rw [ha,A4];have:l[i]? =some (rd l i):=by rw [Xm (show i<l.length by omega)];exact At _
   rw [this,D6.ends_append];rfl)
  refine ⟨n+1,?_⟩;rw [Zx];simp (disch:=omega) only [Xi,Zd,Zp,Zt,Zn,Yd,Yp,Yg,Zh,Zq,Zv,Yb,Zj,Ah,Au,Aj,Al,Ab,Aa];exact hn
theorem u7s : ∀(k i:Nat),i+k=l.length->(∀s∈l.take i,CX s=true)-> ∃n,Yj (Xi l) n (.to (.h0 (i:Int)))=.ret (bif l.all CX then (bif Cp l ((D6.cuts l).length - 1) 0 then Qv (D6.go l ((D6.cuts l).length - 1) 0 ⟨[],[],0,0⟩).out else FX l ((D6.cuts l).length - 1) 0) else Tr)
 | 0,i,h,ht=>by have hv:l.all CX=true:=As.2 fun s hs=>ht s (by rw [A6 (by omega)];exact hs);obtain ⟨n,hn⟩:=u7r l hl l.length 0 [] (Ah _) rfl;refine ⟨n+1,?_⟩;rw [Zx,hv,Ab];simp (disch:=omega) only [Xi,Yc,Aa];exact hn
 | k+1,i,h,ht=>by
  have hi:i<l.length:=by omega
  have hs:Xi l (.h0 (i:Int))=bif CX (rd l i) then .to (.h0 ((i+1:Nat):Int)) else .ret Tr:=by have e:Oi (rd l i).a (rd l i).b (rd l i).c (rd l i).d (rd l i).e (rd l i).f =CX (rd l i):=rfl;simp (disch:=omega) only [Xi,e,RF,TH,Y9,Zn,Zq,Zv,Zj,Aj,Ab,Aa];rfl
  rcases Xw (CX (rd l i)) with q | q
  .obtain ⟨n,hn⟩:=u7s k (i+1) (by omega) (fun s hs=>by
    rw [A4] at hs;have e:l[i]? =some (rd l i):=by rw [Xm hi];exact At _
    rw [e] at hs;simp only [Option.toList_some,AJ,BG] at hs;rcases hs with hs | rfl
    .exact ht s hs
    .exact q)
   refine ⟨n+1,?_⟩;rw [Zx,hs,q,Ab];exact hn
  .have hv:l.all CX=false:=A7.2 fun e=>by have:=As.1 e (rd l i) (by rw [Xm hi];exact AU hi);rw [this] at q;cases q
   refine ⟨1,?_⟩;rw [Zx,hv,Aa,hs,q,Aa,Zc]
end
theorem Yl {l:zx}: ∀(k i:Nat),Cp l k i=false->(GB l k i != 0)=true
 | 0,i,h=>by cases h
 | k+1,i,h=>by
  unfold Cp at h;unfold GB;rcases Xw (Ew l (rd (D6.cuts l) i)) with q | q
  .rw [q,Ab];exact q
  .rw [q,Aa] at h ⊢;exact Yl k (i+1) h
def Jm (l:zx):Int:=bif decide (400<l.length) then 4 else bif l.all CX then (bif Cp l ((D6.cuts l).length - 1) 0 then Dc (D6.out l).length else GB l ((D6.cuts l).length - 1) 0) else 8
def Qx (l:zx):zx:=E6 (Jm l) (D6.out l)
def WL (l:zx):Bool:=true
theorem j2z (l:zx) (h:WL l=true): ∃n,Yj (Xi l) n (X5 l)=.ret (Df (Jm l) (D6.out l)):=by
 unfold X5 Jm;by_cases h:400<l.length
 .refine ⟨0,?_⟩;rw [Af h,Yo (show (l.length:Int)>400 by omega)];rfl
 .obtain ⟨n,hn⟩:=u7s l (by omega) l.length 0 (Ah _) (fun s hs=>by simp at hs);refine ⟨n,?_⟩;rw [An h,Xb (show ¬(l.length:Int)>400 by omega),Aa,Aa];rw [EB] at hn;rw [hn];rcases Xw (l.all CX) with q | q
  .rw [q,Ab,Ab];rcases Xw (Cp l ((D6.cuts l).length - 1) 0) with q2 | q2
   .rw [q2,Ab,Ab,YI];rfl
   .rw [q2,Aa,Aa,HS _ (Yl _ _ q2)];rfl
  .rw [q];rfl
def PS :zy->Option (CA×Bool)
 | [a0]=>match C4 R6 a0 with
  | some (L0,g0,n0)=>some (.tup [.dat (Qx L0).length (Zz (Qx L0)),.int .i64 (Jm L0)],CU R6 n0 g0&&(WL L0))
  | _=>none
 | _=>none
theorem j7p {S:CC} (hS:Zu prog S):Zu prog (S.with v6q PS):=by
 refine GR hS (by kernel_rfl) fun args v h=> ?_;unfold PS at h;split at h
 .rename_i a0;split at h
  .rename_i L0 g0 n0 e0;simp only [Ae,Ad,Ac] at h;obtain ⟨rfl,ho0,hw⟩:=h;obtain ⟨N,hN⟩:=j2z L0 hw;exact ⟨_,_,(.cons (Xy e0 ho0) .nil),SB _ _,u0t L0 N _ hN,3,So _ _⟩
  .cases h
 .cases h
inductive Hi where
 | h0 (v16:Int) (aB:zq)
 | h1 (v16:Int) (aB:zq)
 | h2 (v4:Int) (aG:zx) (aV:zu) (bE:Int) (bF:Int) (aF:Nat) (aJ:zq)
 | h3 (v4:Int) (v38:Int) (aG:zx) (aV:zu) (bE:Int) (bF:Int) (aF:Nat) (aJ:zq) (aU:Int) (bB:Int) (aA:zu)
 | h4 (v4:Int) (v38:Int) (aG:zx) (aV:zu) (bE:Int) (bF:Int) (aF:Nat) (aJ:zq) (aU:Int) (bB:Int) (aA:zu) (aI:zu)
 | h5 (v1:Int) (v2:Int) (v72:zu) (v73:Int) (v74:Int) (aZ:Int) (aC:zx) (bG:Int) (aF:Nat) (aJ:zq) (aU:zu) (bB:zu)
 | h6 (v2:Int) (v8:Int) (cE:Int) (bC:zu) (aZ:Int) (aC:zx) (bI:zu) (bG:Int) (bY:Int) (bK:Nat) (bN:zq) (aA:zu) (aI:zu)
def GX (q:Op) (l0:zx) (l1:zx):Hi->CJ
 | .h0 v16 aB=>⟨⟨36,0,true⟩,none,(Zk prog 139 (pn 19659) 0),none,(Zy prog 9),⟨Yy [(1,(.ptr 0 0)),(3,(.ptr 2 0)),(8,(.sl 1 0 2 (.un 1))),(9,(ii 2)),(10,(ii 0)),(14,(dt l0)),(15,(ii (l0.length:Int))),(16,(ii v16))],Wf [⟨[(.sl 1 0 2 (.un 1))],194,none⟩,⟨[(dt l0),(dt l1)],45,none⟩,⟨[(.sla 7 1 0 aB.length (.un 1))],83,none⟩,⟨[(.fn 105 [])],174,none⟩,⟨[.nils],46,none⟩,⟨[(ii 0)],24,none⟩,⟨[.nils,.nils,(ii 0),(ii 0)],198,none⟩,(rz aB 3 1)] 0,8,[],true⟩,[⟨⟨65,0,true⟩,(Wz prog 102 (pn 19) 1),(Zk prog 102 (pn 19) 1),none,(Zy prog 102),Yy [(2,(.ptr 3 0)),(4,(.ptr 4 0)),(5,(.ptr 5 0)),(6,(.ptr 6 0)),(13,(.sl 1 0 2 (.un 1)))]⟩,⟨⟨27,0,true⟩,(Wz prog 104 (pn 23) 4),(Zk prog 104 (pn 23) 1),none,(Zy prog 104),Yy [(20,(.agg [(.fn 105 [])])),(23,(.sl 1 0 2 (.un 1)))]⟩,⟨⟨12,0,true⟩,(Wz prog 64 [1,0] 3),(Zk prog 64 [1,0] 1),none,(Zy prog 17),Yy [(6,(dt l0)),(7,(dt l1)),(8,(.agg [(.fn 105 [])]))]⟩],.leaf⟩
 | .h1 v16 aB=>⟨⟨36,0,true⟩,none,(Zk prog 139 (pn 19659) 0),none,(Zy prog 9),⟨Yy [(1,(.ptr 0 0)),(3,(.ptr 2 0)),(8,(.sl 1 0 2 (.un 1))),(9,(ii 2)),(10,(ii 1)),(14,(dt l1)),(15,(ii (l1.length:Int))),(16,(ii v16))],Wf [⟨[(.sl 1 0 2 (.un 1))],194,none⟩,⟨[(dt l0),(dt l1)],45,none⟩,⟨[(.sla 7 1 0 aB.length (.un 1))],83,none⟩,⟨[(.fn 105 [])],174,none⟩,⟨[.nils],46,none⟩,⟨[(ii 0)],24,none⟩,⟨[.nils,.nils,(ii 0),(ii 0)],198,none⟩,(rz aB 3 1)] 0,8,[],true⟩,[⟨⟨65,0,true⟩,(Wz prog 102 (pn 19) 1),(Zk prog 102 (pn 19) 1),none,(Zy prog 102),Yy [(2,(.ptr 3 0)),(4,(.ptr 4 0)),(5,(.ptr 5 0)),(6,(.ptr 6 0)),(13,(.sl 1 0 2 (.un 1)))]⟩,⟨⟨27,0,true⟩,(Wz prog 104 (pn 23) 4),(Zk prog 104 (pn 23) 1),none,(Zy prog 104),Yy [(20,(.agg [(.fn 105 [])])),(23,(.sl 1 0 2 (.un 1)))]⟩,⟨⟨12,0,true⟩,(Wz prog 64 [1,0] 3),(Zk prog 64 [1,0] 1),none,(Zy prog 17),Yy [(6,(dt l0)),(7,(dt l1)),(8,(.agg [(.fn 105 [])]))]⟩],.leaf⟩
 | .h2 v4 aG aV bE bF aF aJ=>⟨⟨86,0,true⟩,none,(Zk prog 163 [1,0,0] 0),none,[],⟨Yy [(0,(.yld 0)),(1,(.ptr 5 0)),(2,(.ptr 7 0)),(4,(ii v4))],Cs [(1,⟨[(.fn 105 [])],174,none⟩),(2,⟨[.nils],46,none⟩),(3,⟨[(ii 0)],24,none⟩),(4,⟨[(.sla 9 6 0 aG.length (.un 6)),(dt aV),(ii bE),(ii bF)],198,none⟩),(5,⟨[(.sla 6 1 0 aF (.un 1))],83,none⟩),(6,(rz aJ 3 1)),(7,⟨[(.sl 8 0 2 (.un 1))],194,none⟩),(8,⟨[(dt l0),(dt l1)],45,none⟩),(9,(rz aG 79 6))],10,[],true⟩,[⟨⟨65,0,true⟩,none,(.inRangeFunc 0::(Zk prog 102 (pn 43) 1)),none,(Zy prog 102),Yy [(4,(.ptr 2 0)),(5,(.ptr 3 0)),(6,(.ptr 4 0))]⟩,⟨⟨27,0,true⟩,(Wz prog 104 (pn 23) 4),(Zk prog 104 (pn 23) 1),none,(Zy prog 104),Yy [(20,(.agg [(.fn 105 [])])),(23,(.sl 8 0 2 (.un 1)))]⟩,⟨⟨12,0,true⟩,(Wz prog 64 [1,0] 3),(Zk prog 64 [1,0] 1),none,(Zy prog 17),Yy [(6,(dt l0)),(7,(dt l1)),(8,(.agg [(.fn 105 [])]))]⟩],(DA [(0,⟨.ready,none,65,Yy [(2,(.ptr 1 0)),(4,(.ptr 2 0)),(5,(.ptr 3 0)),(6,(.ptr 4 0))],[15],(Xt prog 102 [1,1,0,1,0,0]),(Xt prog 102 [1,1,0,1,0,1])⟩)])⟩
 | .h3 v4 v38 aG aV bE bF aF aJ aU bB aA=>⟨⟨86,0,true⟩,none,(Zk prog 163 (pn 629065) 0),none,[],⟨Yy [(0,(.yld 0)),(1,(.ptr 5 0)),(2,(.ptr 7 0)),(4,(ii v4)),(5,(.ptr 9 0)),(6,(ii 0)),(29,(.sl 8 0 2 (.un 1))),(30,(ii 2)),(31,(ii 0)),(36,(dt l0)),(37,(ii (l0.length:Int))),(38,(ii v38))],Cs [(1,⟨[(.fn 105 [])],174,none⟩),(2,⟨[.nils],46,none⟩),(3,⟨[(ii 0)],24,none⟩),(4,⟨[(.sla 12 6 0 aG.length (.un 6)),(dt aV),(ii bE),(ii bF)],198,none⟩),(5,⟨[(.sla 6 1 0 aF (.un 1))],83,none⟩),(6,(rz aJ 3 1)),(7,⟨[(.sl 8 0 2 (.un 1))],194,none⟩),(8,⟨[(dt l0),(dt l1)],45,none⟩),(9,⟨[(ii aU),(ii bB),(.sl 10 0 2 (.ex 2))],203,none⟩),(10,⟨[(.sla 11 4 0 aA.length (.un 4)),.nils],195,none⟩),(11,(rz aA 168 4)),(12,(rz aG 79 6))],13,[],true⟩,[⟨⟨65,0,true⟩,none,(.inRangeFunc 0::(Zk prog 102 (pn 43) 1)),none,(Zy prog 102),Yy [(4,(.ptr 2 0)),(5,(.ptr 3 0)),(6,(.ptr 4 0))]⟩,⟨⟨27,0,true⟩,(Wz prog 104 (pn 23) 4),(Zk prog 104 (pn 23) 1),none,(Zy prog 104),Yy [(20,(.agg [(.fn 105 [])])),(23,(.sl 8 0 2 (.un 1)))]⟩,⟨⟨12,0,true⟩,(Wz prog 64 [1,0] 3),(Zk prog 64 [1,0] 1),none,(Zy prog 17),Yy [(6,(dt l0)),(7,(dt l1)),(8,(.agg [(.fn 105 [])]))]⟩],(DA [(0,⟨.ready,none,65,Yy [(2,(.ptr 1 0)),(4,(.ptr 2 0)),(5,(.ptr 3 0)),(6,(.ptr 4 0))],[15],(Xt prog 102 [1,1,0,1,0,0]),(Xt prog 102 [1,1,0,1,0,1])⟩)])⟩
 | .h4 v4 v38 aG aV bE bF aF aJ aU bB aA aI=>⟨⟨86,0,true⟩,none,(Zk prog 163 (pn 629065) 0),none,[],⟨Yy [(0,(.yld 0)),(1,(.ptr 5 0)),(2,(.ptr 7 0)),(4,(ii v4)),(5,(.ptr 9 0)),(6,(ii 1)),(29,(.sl 8 0 2 (.un 1))),(30,(ii 2)),(31,(ii 1)),(36,(dt l1)),(37,(ii (l1.length:Int))),(38,(ii v38))],Cs [(1,⟨[(.fn 105 [])],174,none⟩),(2,⟨[.nils],46,none⟩),(3,⟨[(ii 0)],24,none⟩),(4,⟨[(.sla 13 6 0 aG.length (.un 6)),(dt aV),(ii bE),(ii bF)],198,none⟩),(5,⟨[(.sla 6 1 0 aF (.un 1))],83,none⟩),(6,(rz aJ 3 1)),(7,⟨[(.sl 8 0 2 (.un 1))],194,none⟩),(8,⟨[(dt l0),(dt l1)],45,none⟩),(9,⟨[(ii aU),(ii bB),(.sl 10 0 2 (.ex 2))],203,none⟩),(10,⟨[(.sla 11 4 0 aA.length (.un 4)),(.sla 12 4 0 aI.length (.un 4))],195,none⟩),(11,(rz aA 168 4)),(12,(rz aI 168 4)),(13,(rz aG 79 6))],14,[],true⟩,[⟨⟨65,0,true⟩,none,(.inRangeFunc 0::(Zk prog 102 (pn 43) 1)),none,(Zy prog 102),Yy [(4,(.ptr 2 0)),(5,(.ptr 3 0)),(6,(.ptr 4 0))]⟩,⟨⟨27,0,true⟩,(Wz prog 104 (pn 23) 4),(Zk prog 104 (pn 23) 1),none,(Zy prog 104),Yy [(20,(.agg [(.fn 105 [])])),(23,(.sl 8 0 2 (.un 1)))]⟩,⟨⟨12,0,true⟩,(Wz prog 64 [1,0] 3),(Zk prog 64 [1,0] 1),none,(Zy prog 17),Yy [(6,(dt l0)),(7,(dt l1)),(8,(.agg [(.fn 105 [])]))]⟩],(DA [(0,⟨.ready,none,65,Yy [(2,(.ptr 1 0)),(4,(.ptr 2 0)),(5,(.ptr 3 0)),(6,(.ptr 4 0))],[15],(Xt prog 102 [1,1,0,1,0,0]),(Xt prog 102 [1,1,0,1,0,1])⟩)])⟩
 | .h5 v1 v2 v72 v73 v74 aZ aC bG aF aJ aU bB=>⟨⟨101,0,true⟩,none,(Zk prog 141 (pn 39) 0),none,[],⟨Yy [(0,(.ptr 0 0)),(1,(ii v1)),(2,(ii v2)),(72,(dt v72)),(73,(ii v73)),(74,(ii v74))],Cs [(0,⟨[(.sla 10 6 0 aC.length (.un 6)),(dt v72),(ii bG),(ii v2)],198,none⟩),(2,⟨[(.fn 105 [])],174,none⟩),(3,⟨[.nils],46,none⟩),(4,⟨[(ii 0)],24,none⟩),(5,⟨[(.sla 6 1 0 aF (.un 1))],83,none⟩),(6,(rz aJ 3 1)),(7,⟨[(.sl 8 0 2 (.un 1))],194,none⟩),(8,⟨[(dt l0),(dt l1)],45,none⟩),(9,⟨[(dt aU),(dt bB)],195,none⟩),(10,(rz aC 79 6))],11,[],true⟩,[⟨⟨65,0,true⟩,(Wz prog 102 (pn 1963) 5),(Zk prog 102 (pn 1963) 1),(some 1),[],Yy [(6,(.ptr 0 0)),(54,(ii v1)),(56,(ii v2)),(57,(dt v72))]⟩,⟨⟨86,0,true⟩,(Wz prog 163 (pn 713) 2),(Zk prog 163 (pn 713) 1),none,[],Yy [(0,(.yld 1)),(1,(.ptr 5 0)),(2,(.ptr 7 0)),(4,(ii aZ)),(82,(.yld 1)),(83,(.agg [(ii v1),(ii v2),(.sl 9 0 2 (.ex 2))]))]⟩,⟨⟨65,0,true⟩,none,(.inRangeFunc 1::(Zk prog 102 (pn 43) 1)),none,(Zy prog 102),Yy [(4,(.ptr 3 0)),(5,(.ptr 4 0)),(6,(.ptr 0 0))]⟩,⟨⟨27,0,true⟩,(Wz prog 104 (pn 23) 4),(Zk prog 104 (pn 23) 1),none,(Zy prog 104),Yy [(20,(.agg [(.fn 105 [])])),(23,(.sl 8 0 2 (.un 1)))]⟩,⟨⟨12,0,true⟩,(Wz prog 64 [1,0] 3),(Zk prog 64 [1,0] 1),none,(Zy prog 17),Yy [(6,(dt l0)),(7,(dt l1)),(8,(.agg [(.fn 105 [])]))]⟩],(DA [(1,⟨.busy,none,65,Yy [(2,(.ptr 2 0)),(4,(.ptr 3 0)),(5,(.ptr 4 0)),(6,(.ptr 0 0))],[15],(Xt prog 102 [1,1,0,1,0,0]),(Xt prog 102 [1,1,0,1,0,1])⟩)])⟩
 | .h6 v2 v8 cE bC aZ aC bI bG bY bK bN aA aI=>⟨⟨101,0,true⟩,none,(Zk prog 141 (pn 146) 0),none,[],⟨Yy [(0,(.ptr 0 0)),(2,(ii v2)),(8,(ii v8))],Cs [(0,⟨[(.sla 1 6 0 aC.length (.un 6)),(dt bI),(ii bG),(ii bY)],198,none⟩),(1,(rz aC 79 6)),(3,⟨[(.fn 105 [])],174,none⟩),(4,⟨[.nils],46,none⟩),(5,⟨[(ii 0)],24,none⟩),(6,⟨[(.sla 7 1 0 bK (.un 1))],83,none⟩),(7,(rz bN 3 1)),(8,⟨[(.sl 9 0 2 (.un 1))],194,none⟩),(9,⟨[(dt l0),(dt l1)],45,none⟩),(10,⟨[(dt aA),(dt aI)],195,none⟩)],11,[],true⟩,[⟨⟨65,0,true⟩,(Wz prog 102 (pn 1963) 5),(Zk prog 102 (pn 1963) 1),(some 2),[],Yy [(6,(.ptr 0 0)),(54,(ii cE)),(56,(ii v2)),(57,(dt bC))]⟩,⟨⟨86,0,true⟩,(Wz prog 163 (pn 713) 2),(Zk prog 163 (pn 713) 1),none,[],Yy [(0,(.yld 2)),(1,(.ptr 6 0)),(2,(.ptr 8 0)),(4,(ii aZ)),(82,(.yld 2)),(83,(.agg [(ii cE),(ii v2),(.sl 10 0 2 (.ex 2))]))]⟩,⟨⟨65,0,true⟩,none,(.inRangeFunc 2::(Zk prog 102 (pn 43) 1)),none,(Zy prog 102),Yy [(4,(.ptr 4 0)),(5,(.ptr 5 0)),(6,(.ptr 0 0))]⟩,⟨⟨27,0,true⟩,(Wz prog 104 (pn 23) 4),(Zk prog 104 (pn 23) 1),none,(Zy prog 104),Yy [(20,(.agg [(.fn 105 [])])),(23,(.sl 9 0 2 (.un 1)))]⟩,⟨⟨12,0,true⟩,(Wz prog 64 [1,0] 3),(Zk prog 64 [1,0] 1),none,(Zy prog 17),Yy [(6,(dt l0)),(7,(dt l1)),(8,(.agg [(.fn 105 [])]))]⟩],(DA [(2,⟨.busy,none,65,Yy [(2,(.ptr 3 0)),(4,(.ptr 4 0)),(5,(.ptr 5 0)),(6,(.ptr 0 0))],[15],(Xt prog 102 [1,1,0,1,0,0]),(Xt prog 102 [1,1,0,1,0,1])⟩)])⟩
def KI :List (Option zt):=[some [1,3,8,9,10,14,15,16],some [2,4,5,6,13],some [20,23],some [6,7,8]]
def KL :List (Option zt):=[]
def KH :List (Option zt):=[some [1,3,8,9,10,14,15,16],some [2,4,5,6,13],some [20,23],some [6,7,8]]
def KK :List (Option zt):=[]
def j3f :List (Option zt):=[some [0,1,2,4],some [4,5,6],some [20,23],some [6,7,8]]
def j3g :List (Option zt):=[some [2,4,5,6],none,none,none,none,none,none,none,none,none]
def u1b :List (Option zt):=[some [0,1,2,4,5,6,29,30,31,36,37,38],some [4,5,6],some [20,23],some [6,7,8]]
def u1e :List (Option zt):=[some [2,4,5,6],none,none,none,none,none,none,none,none,none,none,none,none]
def u1a :List (Option zt):=[some [0,1,2,4,5,6,29,30,31,36,37,38],some [4,5,6],some [20,23],some [6,7,8]]
def u1d :List (Option zt):=[some [2,4,5,6],none,none,none,none,none,none,none,none,none,none,none,none,none]
def u0z :List (Option zt):=[some [0,1,2,72,73,74],some [6,54,56,57],some [0,1,2,4,82,83],some [4,5,6],some [20,23],some [6,7,8]]
def u1c :List (Option zt):=[none,some [2,4,5,6],none,none,none,none,none,none,none,none,none]
def KG :List (Option zt):=[some [0,2,8],some [6,54,56,57],some [0,1,2,4,82,83],some [4,5,6],some [20,23],some [6,7,8]]
def KJ :List (Option zt):=[none,none,some [2,4,5,6],none,none,none,none,none,none,none,none]
def Xz (q:Op) (l0:zx) (l1:zx):Hi->Xk Hi
 | .h0 v16 aB=>let a:=rd l0 v16.toNat;(bif (decide (v16<(l0.length:Int))) then (bif ((decide (0<=v16/\v16<(l0.length:Int)))&&true) then (bif (Nat.beq 1 1&&((decide (0+aB.length=aB.length))&&decide ((aB.length+2+1)*(8+1)<=Vg))) then (.to (.h0 (wrap .i64 (v16+1)) (aB++[a.c,a.f]))) else .stuck) else .stuck) else (.to (.h1 0 aB)))
 | .h1 v16 aB=>let a:=Yq aB.length (CS (Zz (Wj (Yq aB.length (CS (Zz aB))))));let b:=rd l1 v16.toNat;(bif (decide (v16<(l1.length:Int))) then (bif ((decide (0<=v16/\v16<(l1.length:Int)))&&true) then (bif (Nat.beq 1 1&&((decide (0+aB.length=aB.length))&&decide ((aB.length+2+1)*(8+1)<=Vg))) then (.to (.h1 (wrap .i64 (v16+1)) (aB++[b.c,b.f]))) else .stuck) else .stuck) else (bif (decide (aB.length<4611686018427387904)) then (bif (decide (aB.length=aB.length)) then (.to (.h2 1 ([]:zx) ([]:zu) 0 0 (Ls a) (Wt a))) else .stuck) else .stuck))
 | .h2 v4 aG aV bE bF aF aJ=>(bif (decide (v4<((aF:Nat):Int))) then (bif ((decide (0<=(wrap .i64 (v4 - 1))/\(wrap .i64 (v4 - 1))<((aF:Nat):Int)))&&true) then (bif (decide ((0+(Int.toNat (wrap .i64 (v4 - 1))))<aJ.length)) then (bif ((decide (0<=v4/\v4<((aF:Nat):Int)))&&true) then (bif (decide ((0+v4.toNat)<aJ.length)) then (.to (.h3 v4 0 aG aV bE bF aF aJ (rd aJ (0+(Int.toNat (wrap .i64 (v4 - 1))))) (rd aJ (0+v4.toNat)) ([]:zu))) else .stuck) else .stuck) else .stuck) else .stuck) else (bif (decide ((aG.length:Int)>400)) then (.ret [.nils,(.int .i64 4)]) else (.ret [(dt aG),(.int .i64 0)])))
 | .h3 v4 v38 aG aV bE bF aF aJ aU bB aA=>let g:=rd l0 v38.toNat;(bif (decide (v38<(l0.length:Int))) then (bif ((decide (0<=v38/\v38<(l0.length:Int)))&&true) then (bif (decide (g.c <=aU)) then (bif (decide (aU<g.f)) then (bif (Nat.beq 4 4&&((decide (0+aA.length=aA.length))&&decide ((aA.length+1+1)*(32+1)<=Vg))) then (.to (.h3 v4 (wrap .i64 (v38+1)) aG aV bE bF aF aJ aU bB (aA++[(R4.mk g.a g.b g.d g.e)]))) else .stuck) else (.to (.h3 v4 (wrap .i64 (v38+1)) aG aV bE bF aF aJ aU bB aA))) else (.to (.h3 v4 (wrap .i64 (v38+1)) aG aV bE bF aF aJ aU bB aA))) else .stuck) else (.to (.h4 v4 0 aG aV bE bF aF aJ aU bB aA ([]:zu))))
 | .h4 v4 v38 aG aV bE bF aF aJ aU bB aA aI=>let g:=CB (Za (CB aI));let h:=CB (Za (CB aA));let i:=rd l1 v38.toNat;let j:=CB ((EN q) h g);(bif (decide (v38<(l1.length:Int))) then (bif ((decide (0<=v38/\v38<(l1.length:Int)))&&true) then (bif (decide (i.c <=aU)) then (bif (decide (aU<i.f)) then (bif (Nat.beq 4 4&&((decide (0+aI.length=aI.length))&&decide ((aI.length+1+1)*(32+1)<=Vg))) then (.to (.h4 v4 (wrap .i64 (v38+1)) aG aV bE bF aF aJ aU bB aA (aI++[(R4.mk i.a i.b i.d i.e)]))) else .stuck) else (.to (.h4 v4 (wrap .i64 (v38+1)) aG aV bE bF aF aJ aU bB aA aI))) else (.to (.h4 v4 (wrap .i64 (v38+1)) aG aV bE bF aF aJ aU bB aA aI))) else .stuck) else (bif (Kv (CB aA)) then (bif ((Xx (CB aA)) == 0) then (bif (Kv (CB aI)) then (bif ((Xx (CB aI)) == 0) then (bif ((XQ q) h g) then (bif (((Ra q) h g) != 0) then (.ret [.nils,(.int .i64 ((Ra q) h g))]) else (bif (decide (((((EN q) h g).length :Nat):Int)>0)) then (bif (bF == aU) then (bif (Wb (CB aV) j) then (bif (Uh (CB aV) j) then (.to (.h6 bB bE aU ((EN q) h g) v4 aG aV bE bF aF aJ aA aI)) else (.to (.h5 aU bB ((EN q) h g) ((((EN q) h g).length :Nat):Int) 0 v4 aG (aG.length:Int) aF aJ aA aI))) else .stuck) else (.to (.h5 aU bB ((EN q) h g) ((((EN q) h g).length :Nat):Int) 0 v4 aG (aG.length:Int) aF aJ aA aI))) else (.to (.h5 aU bB ((EN q) h g) ((((EN q) h g).length :Nat):Int) 0 v4 aG (aG.length:Int) aF aJ aA aI)))) else .stuck) else (.ret [.nils,(.int .i64 (Xx (CB aI)))])) else .stuck) else (.ret [.nils,(.int .i64 (Xx (CB aA)))])) else .stuck))
 | .h5 v1 v2 v72 v73 v74 aZ aC bG aF aJ aU bB=>let e:=rd v72 v74.toNat;(bif (decide (v74<v73)) then (bif ((decide (0<=v74/\v74<(v72.length:Int)))&&true) then (bif (Nat.beq 6 6&&((decide (0+aC.length=aC.length))&&decide ((aC.length+1+1)*(48+1)<=Vg))) then (.to (.h5 v1 v2 v72 v73 (wrap .i64 (v74+1)) aZ (aC++[(R6.mk e.a e.b v1 e.c e.d v2)]) bG aF aJ aU bB)) else .stuck) else .stuck) else (.to (.h2 (wrap .i64 (aZ+1)) aC v72 bG v2 aF aJ)))
 | .h6 v2 v8 cE bC aZ aC bI bG bY bK bN aA aI=>let f:=rd aC (0+v8.toNat);(bif (decide (v8<(aC.length:Int))) then (bif ((decide (0<=v8/\v8<(aC.length:Int)))&&true) then (bif (decide ((0+v8.toNat)<aC.length)) then (.to (.h6 v2 (wrap .i64 (v8+1)) cE bC aZ (aC.set (0+v8.toNat) (R6.mk f.a f.b f.c f.d f.e v2)) bI bG bY bK bN aA aI)) else .stuck) else .stuck) else (.to (.h2 (wrap .i64 (aZ+1)) aC bI bG v2 bK bN)))
def X4 (q:Op) (l0:zx) (l1:zx):Xk Hi:=(bif (Jg (CB l0)) then (bif ((Yv (CB l0)) != 0) then (.ret [.nils,(.int .i64 (Yv (CB l0)))]) else (bif (Jg (CB l1)) then (bif ((Yv (CB l1)) != 0) then (.ret [.nils,(.int .i64 (Yv (CB l1)))]) else (.to (.h0 0 ([]:zq)))) else .stuck)) else .stuck)
theorem w8n (q:Op) (l0:zx) (l1:zx): ∀s,Xh prog (Zy prog 64) (GX q l0 l1) (GX q l0 l1 s) (Xz q l0 l1 s):=by cases q <;> refine (?f: ∀q:Op,∀s,Xh prog (Zy prog 64) (GX q l0 l1) (GX q l0 l1 s) (Xz q l0 l1 s)) _ <;> exact fun q=>fun
 | .h0 v16 aB=>(lb (fun k0=>(lo fun o0=>(lo fun o1=>let e:=rd l0 (tn v16);let d:=e;let a:=aB++[d.c,d.f];let h:=aB++[e.c,e.f];let i:=aB.length+2;let b:=xL i h.length;let g:=Zr (Zz aB) 0 aB.length 1 [(ii e.c),(ii e.f)];(sl Wo 34 [] ⟨[0,1,2,3,4,5,6,10],[],KI,KL⟩ ⟨[],[.keep,.keep,.cells [.len a.length],.keep,.keep,.keep,.keep,.rowed 1 a.length (Zz a)],[]⟩ [true] (pp b (pp b (pp (xS i g (Zz h)) (pp (pp (xF g) nn) (ww o1 (ww o0 (tt k0 nn))))))))))) (fun k0=>(sl Wo 36 [] ⟨(List.range 8),[],KH,KK⟩ b7 (bl 2 2) (pp (fl aB nn) (tt k0 nn)))))
 | .h1 v16 aB=>(lb (fun k0=>(lo fun o0=>(lo fun o1=>let m:=rd l1 (tn v16);let j:=m;let b:=aB++[j.c,j.f];let p:=aB++[m.c,m.f];let q:=aB.length+2;let d:=xL q p.length;let n:=Zr (Zz aB) 0 aB.length 1 [(ii m.c),(ii m.f)];(sl Wo 34 [] ⟨[0,1,2,3,4,5,6,10],[],KH,KK⟩ ⟨[],[.keep,.keep,.cells [.len b.length],.keep,.keep,.keep,.keep,.rowed 1 b.length (Zz b)],[]⟩ [true] (pp d (pp d (pp (xS q n (Zz p)) (pp (pp (xF n) nn) (ww o1 (ww o0 (tt k0 nn))))))))))) (fun k0=>(lo fun o0=>(lo fun o1=>let o:=Zz (Wj (Yq aB.length (CS (Zz aB))));let l:=Wt (Yq aB.length (CS o));let a:=l;let e:=xG (Nat.beq 1 1);let g:=xG (decide (aB.length<4611686018427387904));let h:=xG (decide (aB.length=aB.length));let i:=xG (Nat.beq 0 0);(sl Wo 46 [(79,6,Zz ([]:zx))] ⟨[8,3,4,5,6,2,7,0,1,9],[],j3f,j3g⟩ ⟨[],(DN 4 [.cells [.grow 9 6,.list 0 (Zz ([]:zu)),.keep,.keep],.keep,.rowed 1 a.length (Zz a),.keep,.keep,.keep]),[]⟩ (bl 2 0) (pp (xL aB.length l.length (by first | exact SQ _ _ | exact Jj rfl)) (pp (xS aB.length (Zz l) (Zz l)) (pp (fl a (fl ([]:zx) nn)) (pp (pp e (pp e (pp i (pp h (pp (xG (FG o)) g))))) (pp (pp e (pp e (pp i (pp h (pp (xG (FG (Zz aB))) g))))) (tt k0 nn)))))))))))
 | .h2 v4 aG aV bE bF aF aJ=>(lb (fun k0=>(lo fun o0=>(lo fun o1=>(lo fun o2=>(lo fun o3=>(sl Wo 48 [(168,4,Zz ([]:zu))] ⟨[0,1,2,3,4,5,6,7,8,10,11,12,9],[],u1b,u1e⟩ ⟨[],(DN 10 [.cells [.grow 11 4,.keep],.keep,.keep]),[]⟩ (CL 3 []) (pp (fl aJ (fl ([]:zu) (fl aG nn))) (ww o3 (ww o2 (ww o1 (ww o0 (tt k0 nn)))))))))))) (fun k0=>(lb (fun k1=>(lr 12 3 (pn 191) 1 17 [(4,.nils),(5,(ii 4))] (sl Wo 39 [] (b8 [4,5]) b7 (bl 2 2) (tt k1 (tt k0 nn))))) (fun k1=>(lr 12 3 (pn 191) 1 17 [(4,(dt aG)),(5,(ii 0))] (sl Wo 42 [] ⟨[],[9],[some [4,5]],[]⟩ ⟨[(4,.frz aG.length aG.length (Zz aG) (Zz aG))],[],[]⟩ (bl 2 0) (pp (xZ (DE 6 6 0 aG.length aG.length (Zz aG)) aG.length (Zz aG)) (pp (xL aG.length aG.length) (pp (xS aG.length (Zz aG) (Zz aG)) (pp (fl aG nn) (tt k1 (tt k0 nn))))))))))))
 | .h3 v4 v38 aG aV bE bF aF aJ aU bB aA=>(lb (fun k0=>(lo fun aK=>let h:=ww aK (tt k0 nn);let i:=fl aJ (fl aA (fl aG nn));let j:=List.range 13;(lb (fun k1=>(lb (fun k2=>(lo fun o0=>let l:=rd l0 (tn v38);let g:=l;let c:=aA++[(R4.mk g.a g.b g.d g.e)];let n:=aA++[(R4.mk l.a l.b l.d l.e)];let o:=aA.length+1;let f:=xL o n.length;let m:=Zr (Zz aA) 0 aA.length 4 [(ii l.a),(ii l.b),(ii l.d),(ii l.e)];(sl Wo 41 [] ⟨[0,1,2,3,4,5,6,7,8,9,10,15,12],[],u1b,u1e⟩ ⟨[],(DN 10 [.cells [.len c.length,.keep],.rowed 4 c.length (Zz c),.keep]),[]⟩ (CL 8 []) (pp f (pp f (pp (xS o m (Zz n)) (pp (fl aJ (pp (xF m) (fl aG nn))) (ww o0 (tt k2 (tt k1 h)))))))))) (fun k2=>(sl Wo 41 [] ⟨j,[],u1b,u1e⟩ b7 (CL 7 [false]) (pp i (tt k2 (tt k1 h))))))) (fun k1=>(sl Wo 41 [] ⟨j,[],u1b,u1e⟩ b7 (bl 8 1) (pp i (tt k1 h))))))) (fun k0=>(sl Wo 38 [(168,4,Zz ([]:zu))] ⟨[0,1,2,3,4,5,6,7,8,9,10,11,13,12],[],u1a,u1d⟩ ⟨[],(DN 10 [.cells [.keep,.grow 12 4],.keep,.keep,.keep]),[]⟩ (bl 2 2) (pp (fl aJ (fl aA (fl ([]:zu) (fl aG nn)))) (tt k0 nn)))))
 | .h4 v4 v38 aG aV bE bF aF aJ aU bB aA aI=>(lb (fun k0=>(lo fun aK=>let o:=ww aK (tt k0 nn);let p:=fl aJ (fl aA (fl aI (fl aG nn)));let G:=List.range 14;(lb (fun k1=>(lb (fun k2=>(lo fun o0=>let K:=rd l1 (tn v38);let l:=K;let c:=aI++[(R4.mk l.a l.b l.d l.e)];let O:=aI++[(R4.mk K.a K.b K.d K.e)];let Q:=aI.length+1;let h:=xL Q O.length;let N:=Zr (Zz aI) 0 aI.length 4 [(ii K.a),(ii K.b),(ii K.d),(ii K.e)];(sl Wo 41 [] ⟨[0,1,2,3,4,5,6,7,8,9,10,11,16,13],[],u1a,u1d⟩ ⟨[],(DN 10 [.cells [.keep,.len c.length],.keep,.rowed 4 c.length (Zz c),.keep]),[]⟩ (CL 8 []) (pp h (pp h (pp (xS Q N (Zz O)) (pp (fl aJ (fl aA (pp (xF N) (fl aG nn)))) (ww o0 (tt k2 (tt k1 o)))))))))) (fun k2=>(sl Wo 41 [] ⟨G,[],u1a,u1d⟩ b7 (CL 7 [false]) (pp p (tt k2 (tt k1 o))))))) (fun k1=>(sl Wo 41 [] ⟨G,[],u1a,u1d⟩ b7 (bl 8 1) (pp p (tt k1 o))))))) (fun k0=>let f:=DA [(0,⟨.busy,none,65,Yy [(2,(.ptr 1 0)),(4,(.ptr 2 0)),(5,(.ptr 3 0)),(6,(.ptr 4 0))],[15],(Xt prog 102 [1,1,0,1,0,0]),(Xt prog 102 [1,1,0,1,0,1])⟩)];let i:=xZ (DE 4 4 0 aA.length aA.length (Zz aA)) aA.length (Zz aA);let m:=Wz prog 163 (pn 713) 2;let n:=Zk prog 163 (pn 713) 1;let s:=xS aA.length (Zz aA) (Zz aA);let w:=Zk prog 102 (pn 43) 1;let y:=Wz prog 104 (pn 23) 4;let z:=Zk prog 104 (pn 23) 1;let A:=xL aA.length aA.length;let D:=Wz prog 64 [1,0] 3;let E:=Zk prog 64 [1,0] 1;let H:=Zy prog 102;let I:=Zy prog 104;let J:=Zy prog 17;let R:=rz aG 79 6;(Un (sl Wo (C':=⟨⟨65,0,true⟩,(Wz prog 102 (pn 299) 4),(Zk prog 102 (pn 299) 1),(some 0),[],⟨Yy [(2,(.ptr 1 0)),(4,(.ptr 2 0)),(5,(.ptr 3 0)),(6,(.ptr 4 0)),(7,(.ptr 6 0)),(20,(dt aA))],Cs [(1,⟨[(.fn 105 [])],174,none⟩),(2,⟨[.nils],46,none⟩),(3,⟨[(ii 0)],24,none⟩),(4,⟨[(.sla 5 6 0 aG.length (.un 6)),(dt aV),(ii bE),(ii bF)],198,none⟩),(5,R),(6,⟨[(ii aU),(ii bB),(.sl 7 0 2 (.ex 2))],203,none⟩),(7,⟨[(dt aA),(.sla 8 4 0 aI.length (.un 4))],195,none⟩),(8,(rz aI 168 4)),(9,⟨[(.sla 10 1 0 aF (.un 1))],83,none⟩),(10,(rz aJ 3 1)),(11,⟨[(.sl 12 0 2 (.un 1))],194,none⟩),(12,⟨[(dt l0),(dt l1)],45,none⟩)],13,[],true⟩,[⟨⟨86,0,true⟩,m,n,none,[],Yy [(0,(.yld 0)),(1,(.ptr 9 0)),(2,(.ptr 11 0)),(4,(ii v4)),(82,(.yld 0)),(83,(.agg [(ii aU),(ii bB),(.sl 7 0 2 (.ex 2))]))]⟩,⟨⟨65,0,true⟩,none,(.inRangeFunc 0::w),none,H,Yy [(4,(.ptr 2 0)),(5,(.ptr 3 0)),(6,(.ptr 4 0))]⟩,⟨⟨27,0,true⟩,y,z,none,I,Yy [(20,(.agg [(.fn 105 [])])),(23,(.sl 12 0 2 (.un 1)))]⟩,⟨⟨12,0,true⟩,D,E,none,J,Yy [(6,(dt l0)),(7,(dt l1)),(8,(.agg [(.fn 105 [])]))]⟩],f⟩) 37 [] ⟨[0,1,2,3,4,13,14,10,12,5,6,7,8],[11],[some [2,4,5,6,7,20],some [0,1,2,4,82,83],some [4,5,6],some [20,23],some [6,7,8]],[some [2,4,5,6],none,none,none,none,none,none,none,none,none,none,none,none]⟩ ⟨[(20,.frz aA.length aA.length (Zz aA) (Zz aA))],[.keep,.keep,.keep,.keep,.keep,.keep,.keep,.cells [.frz aA.length aA.length (Zz aA) (Zz aA),.keep],.keep,.keep,.keep,.keep,.keep],[]⟩ (bl 2 0) (pp i (pp A (pp s (pp i (pp A (pp s (pp (fl aG (fl aI (fl aJ nn))) (pp (fl aA nn) (tt k0 nn)))))))))) (lo fun aK=>let u:=pp (pp (xr aA) (xw aK)) nn;(lb (fun k1=>let j:=xZ (DE 4 4 0 aI.length aI.length (Zz aI)) aI.length (Zz aI);let t:=xS aI.length (Zz aI) (Zz aI);let M:=Za (CB aA);let B:=M;let C:=xL aI.length aI.length;let F:=fl aG (fl aJ nn);let S:=pn 2831019;(Un (sl Wo (C':=⟨⟨65,0,true⟩,(Wz prog 102 S 1),(Zk prog 102 S 1),(some 0),[],⟨Yy [(2,(.ptr 1 0)),(4,(.ptr 2 0)),(5,(.ptr 3 0)),(6,(.ptr 4 0)),(7,(.ptr 6 0)),(8,(dt B)),(26,(.sl 7 1 1 (.ex 1))),(27,(ii 1)),(28,(ii 0)),(35,(dt aI))],Cs [(1,⟨[(.fn 105 [])],174,none⟩),(2,⟨[.nils],46,none⟩),(3,⟨[(ii 0)],24,none⟩),(4,⟨[(.sla 5 6 0 aG.length (.un 6)),(dt aV),(ii bE),(ii bF)],198,none⟩),(5,R),(6,⟨[(ii aU),(ii bB),(.sl 7 0 2 (.ex 2))],203,none⟩),(7,⟨[(dt aA),(dt aI)],195,none⟩),(8,⟨[(.sla 9 1 0 aF (.un 1))],83,none⟩),(9,(rz aJ 3 1)),(10,⟨[(.sl 11 0 2 (.un 1))],194,none⟩),(11,⟨[(dt l0),(dt l1)],45,none⟩)],12,[],true⟩,[⟨⟨86,0,true⟩,m,n,none,[],Yy [(0,(.yld 0)),(1,(.ptr 8 0)),(2,(.ptr 10 0)),(4,(ii v4)),(82,(.yld 0)),(83,(.agg [(ii aU),(ii bB),(.sl 7 0 2 (.ex 2))]))]⟩,⟨⟨65,0,true⟩,none,(.inRangeFunc 0::w),none,H,Yy [(4,(.ptr 2 0)),(5,(.ptr 3 0)),(6,(.ptr 4 0))]⟩,⟨⟨27,0,true⟩,y,z,none,I,Yy [(20,(.agg [(.fn 105 [])])),(23,(.sl 11 0 2 (.un 1)))]⟩,⟨⟨12,0,true⟩,D,E,none,J,Yy [(6,(dt l0)),(7,(dt l1)),(8,(.agg [(.fn 105 [])]))]⟩],f⟩) 46 [] ⟨[0,1,2,3,4,5,6,7,9,10,11,12],[8],[some [2,4,5,6,7,8,26,27,28,35],some [0,1,2,4,82,83],some [4,5,6],some [20,23],some [6,7,8]],[some [2,4,5,6],none,none,none,none,none,none,none,none,none,none,none]⟩ ⟨[(35,.frz aI.length aI.length (Zz aI) (Zz aI))],[.keep,.keep,.keep,.keep,.keep,.keep,.keep,.cells [.keep,.frz aI.length aI.length (Zz aI) (Zz aI)],.keep,.keep,.keep,.keep],[]⟩ (bl 2 3) (pp j (pp C (pp t (pp j (pp C (pp t (pp F (pp (fl aI nn) (tt k1 u)))))))))) (lo fun bS=>let v:=pp (pp (xr aI) (xw bS)) nn;(lb (fun k2=>(lo fun cT=>let g:=tt k2 v;let L:=Za (CB aI);(lb (fun k3=>(lr 12 3 (pn 191) 1 17 [(4,.nils),(5,(ii ((Ra q) (CB B) (CB L))))] (sl Wo 69 [] (b8 [4,5]) b7 (bl 4 13) (tt k3 (pp (pp (xI R4 M.length (Zz M)) (pp (xI R4 L.length (Zz L)) (xw cT))) g))))) (fun k3=>let r:=fl aJ (fl aG nn);(lb (fun k4=>(lb (fun k5=>(lo fun dU=>let P:=Zz ((EN q) (CB M) (CB L));(lb (fun k6=>(sl Wo 88 [] ⟨[4,5,0,1,2,3,8,9,10,11,7],[],KG,KJ⟩ b7 (bl 16 65529) (pp F (tt k6 (pp (pp (xr aV) (pp (xI R4 ((EN q) (CB M) (CB L)).length P) (xw dU))) (tt k5 (tt k4 (tt k3 (pp (pp (xI R4 M.length (Zz M)) (pp (xI R4 L.length (Zz L)) (xw cT))) g))))))))) (fun k6=>(sl Wo 108 [] ⟨[4,0,1,2,3,8,9,10,11,7,5],[],u0z,u1c⟩ b7 (bl 16 32761) (pp r (tt k6 (pp (pp (xr aV) (pp (xI R4 ((EN q) (CB M) (CB L)).length P) (xw dU))) (tt k5 (tt k4 (tt k3 (pp (pp (xI R4 M.length (Zz M)) (pp (xI R4 L.length (Zz L)) (xw cT))) g)))))))))))) (fun k5=>(sl Wo 108 [] ⟨[4,0,1,2,3,8,9,10,11,7,5],[],u0z,u1c⟩ b7 (bl 16 505) (pp r (tt k5 (tt k4 (tt k3 (pp (pp (xI R4 M.length (Zz M)) (pp (xI R4 L.length (Zz L)) (xw cT))) g))))))))) (fun k4=>(sl Wo 108 [] ⟨[4,0,1,2,3,8,9,10,11,7,5],[],u0z,u1c⟩ b7 (bl 16 1) (pp r (tt k4 (tt k3 (pp (pp (xI R4 M.length (Zz M)) (pp (xI R4 L.length (Zz L)) (xw cT))) g))))))))))) (fun k2=>(lr 12 3 (pn 191) 1 17 [(4,.nils),(5,(ii (Xx (CB aI))))] (sl Wo 58 [] (b8 [4,5]) b7 (bl 4 12) (yt (MI k2) (tt k2 v))))))))) (fun k1=>(lr 12 3 (pn 191) 1 17 [(4,.nils),(5,(ii (Xx (CB aA))))] (sl Wo 84 [] (b8 [4,5]) b7 (bl 5 25) (yt (MI k1) (tt k1 u))))))))))
 | .h5 v1 v2 v72 v73 v74 aZ aC bG aF aJ aU bB=>(lb (fun k0=>(lo fun o0=>(lo fun o1=>let h:=rd v72 (tn v74);let g:=h;let e:=aC++[(R6.mk g.a g.b v1 g.c g.d v2)];let j:=aC++[(R6.mk h.a h.b v1 h.c h.d v2)];let l:=aC.length+1;let f:=xL l j.length;let i:=Zr (Zz aC) 0 aC.length 6 [(ii h.a),(ii h.b),(ii v1),(ii h.c),(ii h.d),(ii v2)];(sl Wo 23 [] ⟨[0,1,2,3,4,5,6,7,8,9,13],[],u0z,u1c⟩ ⟨[],[.cells [.len e.length,.keep,.keep,.keep],.keep,.keep,.keep,.keep,.keep,.keep,.keep,.keep,.keep,.rowed 6 e.length (Zz e)],[]⟩ [true] (pp f (pp f (pp (xS l i (Zz j)) (pp (fl aJ (pp (xF i) nn)) (ww o1 (ww o0 (tt k0 nn))))))))))) (fun k0=>(sl Wo 22 [] ⟨[1,2,3,4,0,5,6,7,8,10],[],j3f,j3g⟩ b7 (bl 2 0) (pp (fl aJ (fl aC nn)) (tt k0 nn)))))
 | .h6 v2 v8 cE bC aZ aC bI bG bY bK bN aA aI=>(lb (fun k0=>(lo fun o0=>(lo fun o1=>let i:=rd aC (0+(tn v8));let h:=i;let f:=aC.set (0+(tn v8)) (R6.mk h.a h.b h.c h.d h.e v2);let j:=aC.set (0+(tn v8)) (R6.mk i.a i.b i.c i.d i.e v2);let g:=xL aC.length j.length;let l:=Xg (Zz aC) (0+(tn v8)) 5 [(ii v2)];(sl Wo 34 [] ⟨(List.range 11),[],KG,KJ⟩ ⟨[],[.cells [.len f.length,.keep,.keep,.keep],.rowed 6 f.length (Zz f),.keep,.keep,.keep,.keep,.keep,.keep,.keep,.keep,.keep],[]⟩ [true] (pp g (pp g (pp (xS aC.length l (Zz j)) (pp (pp (xF l) (fl bN nn)) (ww o1 (ww o0 (tt k0 nn))))))))))) (fun k0=>(sl Wo 36 [] ⟨[2,3,4,5,0,6,7,8,9,1],[],j3f,j3g⟩ b7 (bl 2 0) (pp (fl bN (fl aC nn)) (tt k0 nn)))))
theorem x9f (q:Op) (l0:zx) (l1:zx):Xh prog (Zy prog 64) (GX q l0 l1) (Zb prog 64 [(dt l0),(dt l1)] true []) (X4 q l0 l1):=by cases q <;> exact (lo fun cA=>(lb (fun k0=>(lr 12 3 (pn 191) 1 17 [(4,.nils),(5,(ii (Yv (CB l0))))] (sl Wo 42 [] (b8 [4,5]) b7 [true] (tt k0 (pp (pp (xr l0) (xw cA)) nn))))) (fun k0=>(lo fun aK=>(lb (fun k1=>(lr 12 3 (pn 191) 1 17 [(4,.nils),(5,(ii (Yv (CB l1))))] (sl Wo 56 [] (b8 [4,5]) b7 (bl 2 2) (tt k1 (pp (pp (xr l1) (xw aK)) (tt k0 (pp (pp (xr l0) (xw cA)) nn))))))) (fun k1=>(sl Wo 108 [(3,1,Zz ([]:zq))] ⟨[6,1,7,2,3,4,5,8],[],KI,KL⟩ ⟨[],[.keep,.keep,.cells [.grow 7 1],.keep,.keep,.keep,.keep,.keep],[]⟩ (bl 3 4) (pp (fl ([]:zq) nn) (tt k1 (pp (pp (xr l1) (xw aK)) (tt k0 (pp (pp (xr l0) (xw cA)) nn))))))))))))
theorem u0y (q:Op) (l0:zx) (l1:zx) (n:Nat) (vs:zy) (h:Yj (Xz q l0 l1) n (X4 q l0 l1)=.ret vs):Ji prog (Zy prog 64) (Zb prog 64 [(dt l0),(dt l1)] true []) vs:=by have:=Zf (w8n q l0 l1) n _ (x9f q l0 l1);rwa [h] at this
theorem y1r (l:zu):(Xx l == 0)= !(Xx l != 0):=by grind
def Cb (q:Op) (a b:zx) (x:Int):zu:=Hz q.k (Za (D6.inn a x)) (Za (D6.inn b x))
def Cv (q:Op) (a b:zx) (x:Int):Int:=bif Xx (D6.inn a x) != 0 then Xx (D6.inn a x) else bif Xx (D6.inn b x) != 0 then Xx (D6.inn b x) else Fv q (Za (D6.inn a x)) (Za (D6.inn b x))
theorem w5n {q:Op} {a b:zu} (h:Fv q a b=0):DU a=0/\DU b=0/\(Hz q.k a b).length <=400:=by
 unfold Fv at h;cases g1:(DU a != 0) with
 | true=>grind
 | false=>
  cases g2:(DU b != 0) with
  | true=>grind
  | false=>
   rw [g1,g2,Aa,Aa] at h;unfold eJ at h;refine ⟨by grind,by grind,?_⟩;revert h;generalize DK (Dh q a b) _ _ _=e;intro h;cases g3:(e != 0) with
   | true=>grind
   | false=>simp_all [Wl]
theorem x2n {q:Op} {a b:zx} {x:Int} (h:Cv q a b x=0):Xx (D6.inn a x)=0/\Xx (D6.inn b x)=0/\Fv q (Za (D6.inn a x)) (Za (D6.inn b x))=0:=by
 grind [Cv]
theorem j3i (q:Op) (a b:zx) (x:Int) (h:(Cv q a b x != 0)=false):(Cb q a b x).length <=1000:=
 AI (w5n (x2n (by simpa using h)).2.2).2.2 (by omega)
section
variable (q:Op) (a b:zx) (ha:a.length<=400) (hb:b.length<=400)
include ha hb
theorem u7w (i:Nat) (out:zx) (last:zu) (first fin x x':Int): ∀(k j:Nat) (acc:zu),j+k=a.length->acc.length<=j->
  ∃n,∀N,Yj (Xz q a b) (N+n) (.to (.h3 (i:Int) (j:Int) out last first fin ((D6.cuts (a++b)).length) (Wt (Wj (D6.ends (a++b)))) x x' acc))=Yj (Xz q a b) N (.to (.h4 (i:Int) 0 out last first fin ((D6.cuts (a++b)).length) (Wt (Wj (D6.ends (a++b)))) x x' (acc++D6.inn (a.drop j) x) []))
 | 0,j,acc,h,h'=>by
  have _u:=ha;have _v:=hb;refine ⟨1,fun N=> ?_⟩;rw [Aw (by omega),show D6.inn ([]:zx) x=[] from rfl,AG,Zx]
  grind [Xz]
 | k+1,j,acc,h,h'=>by
  have hj:j<a.length:=by omega
  obtain ⟨n,hn⟩:=u7w i out last first fin x x' k (j+1) (acc++D6.inn [rd a j] x) (by omega) (by have:=D6.inn_length [rd a j] x;grind)
  refine ⟨n+1,fun N=> ?_⟩;have e:D6.inn (a.drop j) x=D6.inn [rd a j] x++D6.inn (a.drop (j+1)) x:=by rw [Yn hj,<-D6.inn_append];rfl
  rw [e,<-AK,Zx,<-AH,<-hn N];by_cases h1:D6.lo (rd a j)<=x
  .by_cases h2:x<D6.hi (rd a j)
   .rw [D6.inn_t _ _ h1 h2];simp only [D6] at h1 h2 ⊢;simp (disch:=omega) only [Xz,Xs,Zd,Zp,Zt,Zn,Yd,Yp,Yg,Zh,Zq,Zv,Yb,Zj,Ah,Au,Aj,Al,Ab,Aa]
   .rw [D6.inn_f2 _ _ h2,AG];simp only [D6] at h1 h2;simp (disch:=omega) only [Xz,Xs,Yc,Zd,Zp,Zt,Zn,Yd,Yp,Yg,Zh,Zq,Zv,Yb,Zj,Ah,Au,Aj,Al,Ab,Aa]
  .rw [D6.inn_f1 _ _ h1,AG];simp only [D6] at h1;simp (disch:=omega) only [Xz,EZ,Zd,Zp,Zt,Zn,Yd,Yp,Yg,Zh,Zq,Zv,Yb,Zj,Ah,Au,Aj,Al,Ab,Aa]
theorem u7v (i:Nat) (out:zx) (last:zu) (first fin x x':Int) (o1:zu): ∀(k j:Nat) (acc:zu),j+k=b.length->acc.length<=j->
  ∃n,∀N,Yj (Xz q a b) (N+n) (.to (.h4 (i:Int) (j:Int) out last first fin ((D6.cuts (a++b)).length) (Wt (Wj (D6.ends (a++b)))) x x' o1 acc))=Yj (Xz q a b) N (.to (.h4 (i:Int) (b.length:Int) out last first fin ((D6.cuts (a++b)).length) (Wt (Wj (D6.ends (a++b)))) x x' o1 (acc++D6.inn (b.drop j) x)))
 | 0,j,acc,h,h'=>by have _u:=ha;have _v:=hb;refine ⟨0,fun N=> ?_⟩;rw [Aw (by omega),show D6.inn ([]:zx) x=[] from rfl,AG,Bo,show j=b.length by omega]
 | k+1,j,acc,h,h'=>by
  have hj:j<b.length:=by omega
  obtain ⟨n,hn⟩:=u7v i out last first fin x x' o1 k (j+1) (acc++D6.inn [rd b j] x) (by omega) (by have:=D6.inn_length [rd b j] x;grind)
  refine ⟨n+1,fun N=> ?_⟩;have e:D6.inn (b.drop j) x=D6.inn [rd b j] x++D6.inn (b.drop (j+1)) x:=by rw [Yn hj,<-D6.inn_append];rfl
  rw [e,<-AK,Zx,<-AH,<-hn N];by_cases h1:D6.lo (rd b j)<=x
  .by_cases h2:x<D6.hi (rd b j)
   .rw [D6.inn_t _ _ h1 h2];simp only [D6] at h1 h2 ⊢;simp (disch:=omega) only [Xz,Xs,Zd,Zp,Zt,Zn,Yd,Yp,Yg,Zh,Zq,Zv,Yb,Zj,Ah,Au,Aj,Al,Ab,Aa]
   .rw [D6.inn_f2 _ _ h2,AG];simp only [D6] at h1 h2;simp (disch:=omega) only [Xz,Xs,Yc,Zd,Zp,Zt,Zn,Yd,Yp,Yg,Zh,Zq,Zv,Yb,Zj,Ah,Au,Aj,Al,Ab,Aa]
  .rw [D6.inn_f1 _ _ h1,AG];simp only [D6] at h1;simp (disch:=omega) only [Xz,EZ,Zd,Zp,Zt,Zn,Yd,Yp,Yg,Zh,Zq,Zv,Yb,Zj,Ah,Au,Aj,Al,Ab,Aa]
theorem u7u (i:Nat) (hi:i<=2000) (x x':Int) (s:zu) (first:Int) (o1 o2:zu) (hs:s.length<=1000): ∀(k j:Nat) (out:zx),j+k=s.length->out.length<=10000000+j->
  ∃n,∀N,Yj (Xz q a b) (N+n) (.to (.h5 x x' s (s.length:Int) (j:Int) (i:Int) out first ((D6.cuts (a++b)).length) (Wt (Wj (D6.ends (a++b)))) o1 o2))=Yj (Xz q a b) N (.to (.h2 ((i+1:Nat):Int) (out++(s.drop j).map (D6.put x x')) s first x' ((D6.cuts (a++b)).length) (Wt (Wj (D6.ends (a++b))))))
 | 0,j,out,h,ho=>by
  have _u:=ha;have _v:=hb;refine ⟨1,fun N=> ?_⟩
  grind [Zx,Xz,Zq]
 | k+1,j,out,h,ho=>by
  obtain ⟨n,hn⟩:=u7u i hi x x' s first o1 o2 hs k (j+1) (out++[D6.put x x' (rd s j)]) (by omega) (by simp;omega)
  refine ⟨n+1,fun N=> ?_⟩;have:=hn N;rw [Yn (show j<s.length by omega),AT,<-AK,Zx];simp (disch:=omega) only [Xz,Zd,Zp,Zt,Zn,Yd,Yp,Yg,Zh,Zq,Zv,Yb,Zj,Ah,Au,Aj,Al,Ab,Aa];rw [AH] at this;exact this
theorem u7t (i:Nat) (hi:i<=2000) (x x' fin:Int) (s last:zu) (first:Int) (o1 o2:zu): ∀(k j:Nat) (out:zx),j+k=out.length->out.length<=10000000->
  ∃n,∀N,Yj (Xz q a b) (N+n) (.to (.h6 x' (j:Int) x s (i:Int) out last first fin ((D6.cuts (a++b)).length) (Wt (Wj (D6.ends (a++b)))) o1 o2))=Yj (Xz q a b) N (.to (.h2 ((i+1:Nat):Int) (D6.grow out j x') last first x' ((D6.cuts (a++b)).length) (Wt (Wj (D6.ends (a++b))))))
 | 0,j,out,h,ho=>by
  have _u:=ha;have _v:=hb;refine ⟨1,fun N=> ?_⟩;rw [D6.grow_nil _ _ _ (by omega),Zx]
  grind [Xz,Zq]
 | k+1,j,out,h,ho=>by
  obtain ⟨n,hn⟩:=u7t i hi x x' fin s last first o1 o2 k (j+1) (out.set j (D6.ext x' (rd out j))) (by simp;omega) (by grind)
  refine ⟨n+1,fun N=> ?_⟩;have:=hn N;rw [D6.grow_set out j _ (by omega)] at this;rw [<-AK,Zx];simp (disch:=omega) only [Xz,Zd,Zp,Zt,Zn,Yd,Yp,Yg,Zh,Zq,Zv,Yb,Zj,Ah,Au,Aj,Al,Ab,Aa];exact this
theorem v3y : ∀(k i:Nat) (s:Sw R6 R4),k=(D6.cuts (a++b)).length - 1 - i->i<=(D6.cuts (a++b)).length ->s.out.length<=i*1000->s.last.length<=1000->s.first<=s.out.length->
  ∃n,Yj (Xz q a b) n (.to (.h2 ((i+1:Nat):Int) s.out s.last (s.first:Int) s.fin ((D6.cuts (a++b)).length) (Wt (Wj (D6.ends (a++b))))))=.ret (Df (eJ (DK (Cv q a b) (D6.cuts (a++b)) k i) (D6.goS (Cb q a b) (D6.cuts (a++b)) k i s).out.length) (D6.goS (Cb q a b) (D6.cuts (a++b)) k i s).out)
 | 0,i,s,h,hi,ho,hla,hf=>by
  have _u:=ha;have _v:=hb;have hc:=D6.cuts_length (a++b);refine ⟨1,?_⟩;rw [Zx,show D6.goS (Cb q a b) (D6.cuts (a++b)) 0 i s=s from rfl,show DK (Cv q a b) (D6.cuts (a++b)) 0 i=0 from rfl,w5o]
  grind [Qv,Xz,Zc]
 | k +1,i,s,h,hi,ho,hla,hf=>by
  have hc:=D6.cuts_length (a++b);rw [AO] at hc;have hi1:i+1<(D6.cuts (a++b)).length :=by omega
  have hpl:(Wt (Wj (D6.ends (a++b)))).length =2*(a.length+b.length):=by rw [Qp,Kq,D6.ends_length,AO]
  have r0:rd (Wt (Wj (D6.ends (a++b)))) i=rd (D6.cuts (a++b)) i:=Gj _ _ (by show i<(D6.cuts (a++b)).length;omega);have r1:rd (Wt (Wj (D6.ends (a++b)))) (i+1)=rd (D6.cuts (a++b)) (i+1):=Gj _ _ (by show i+1<(D6.cuts (a++b)).length;omega);have hbig:i*1000<=2000*1000:=AE _ (by omega);have hgo:D6.goS (Cb q a b) (D6.cuts (a++b)) (k+1) i s=D6.goS (Cb q a b) (D6.cuts (a++b)) k (i+1) (D6.oneS (Cb q a b (rd (D6.cuts (a++b)) i)) (rd (D6.cuts (a++b)) i) (rd (D6.cuts (a++b)) (i+1)) s):=rfl;have hfe: ∀x,x=rd (D6.cuts (a++b)) i->(Cv q a b x != 0)=false->DK (Cv q a b) (D6.cuts (a++b)) (k+1) i=DK (Cv q a b) (D6.cuts (a++b)) k (i+1):=fun x hx z=>by
   show (bif Cv q a b (rd (D6.cuts (a++b)) i) != 0 then _ else _)=_
   grind
  revert hgo hfe r0;generalize hx:rd (D6.cuts (a++b)) i=x;generalize hx':rd (D6.cuts (a++b)) (i+1)=x' at r1;intro r0 hgo hfe;obtain ⟨n3,h3⟩:=u7w q a b ha hb (i+1) s.out s.last (s.first:Int) s.fin x x' a.length 0 [] (Ah _) (Aq _);simp only [AR,A0,EB] at h3;obtain ⟨n4,h4⟩:=u7v q a b ha hb (i+1) s.out s.last (s.first:Int) s.fin x x' (D6.inn a x) b.length 0 [] (Ah _) (Aq _);simp only [AR,A0,EB] at h4;have st0: ∀N,Yj (Xz q a b) (N+n4+n3+1) (.to (.h2 ((i+1:Nat):Int) s.out s.last (s.first:Int) s.fin ((D6.cuts (a++b)).length) (Wt (Wj (D6.ends (a++b))))))=Yj (Xz q a b) N (.to (.h4 ((i+1:Nat):Int) (b.length:Int) s.out s.last (s.first:Int) s.fin ((D6.cuts (a++b)).length) (Wt (Wj (D6.ends (a++b)))) x x' (D6.inn a x) (D6.inn b x))):=fun N=>by
   rw [<-h4 N,<-h3 (N+n4),Zx];have e1:wrap .i64 (((i+1:Nat):Int) - 1)=(i:Int):=by rw [Yx];exact Zq (by omega)
   simp (disch:=omega) only [Xz,e1,r0,r1,Zd,Zp,Zt,Zn,Yd,Yp,Yg,Zh,Zq,Zv,Yb,Zj,Ah,Au,Aj,Al,Ab,Aa]
  have w1:Kv (D6.inn a x)=true:=rfl;have w3:Kv (D6.inn b x)=true:=rfl;have w4:XQ q (Za (D6.inn a x)) (Za (D6.inn b x))=true:=rfl;rcases Xw (Cv q a b x != 0) with z | z
  .refine ⟨1+n4+n3+1,?_⟩;rw [st0 1,Zx];have e:DK (Cv q a b) (D6.cuts (a++b)) (k+1) i=Cv q a b x:=by show (bif Cv q a b (rd (D6.cuts (a++b)) i) != 0 then Cv q a b (rd (D6.cuts (a++b)) i) else _)=_;grind
   rw [e,show eJ (Cv q a b x) _=Cv q a b x by unfold eJ;rw [z];rfl,HS _ z];unfold Cv at z ⊢;rcases Xw (Xx (D6.inn a x) != 0) with y1 | y1
   .simp (disch:=omega) only [Xz,Yc,y1r,y1,Ax,w1,w3,w4,Zd,Zp,Zt,Zn,Yd,Yp,Yg,Zh,Zq,Zv,Yb,Zj,Ah,Au,Aj,Al,Ab,Aa,Zc]
   .rcases Xw (Xx (D6.inn b x) != 0) with y2 | y2
    .simp (disch:=omega) only [Xz,Yc,y1r,y1,y2,Ax,AB,w1,w3,w4,Zd,Zp,Zt,Zn,Yd,Yp,Yg,Zh,Zq,Zv,Yb,Zj,Ah,Au,Aj,Al,Ab,Aa,Zc]
    .rw [y1,y2,Aa,Aa] at z;have z':(Ra q (Za (D6.inn a x)) (Za (D6.inn b x)) != 0)=true:=z;simp (disch:=omega) only [Xz,Yc,y1r,y1,y2,z',AB,w1,w3,w4,Zd,Zp,Zt,Zn,Yd,Yp,Yg,Zh,Zq,Zv,Yb,Zj,Ah,Au,Aj,Al,Ab,Aa,Zc];rfl
  obtain ⟨y1,y2,y3⟩:=x2n (show Cv q a b x=0 by simpa using z);have y1:(Xx (D6.inn a x) == 0)=true:=by rw [y1];rfl
  have y2:(Xx (D6.inn b x) == 0)=true:=by rw [y2];rfl
  have z':(Ra q (Za (D6.inn a x)) (Za (D6.inn b x)) != 0)=false:=by show (Fv q _ _ != 0)=false;rw [y3];rfl
  have v:EN q (Za (D6.inn a x)) (Za (D6.inn b x))=Cb q a b x:=x7d _ z';have hsl:=j3i q a b x z;have w2:Wb s.last (Cb q a b x)=true:=Af (by omega);rw [hgo,hfe x rfl z];have ol:(D6.oneS (Cb q a b x) x x' s).out.length <=s.out.length+(Cb q a b x).length :=by
   grind [CM.oneS,CM.grow_length]
  rcases Xw (decide (0<(Cb q a b x).length)&&((s.fin == x)&&D6.same s.last (Cb q a b x))) with g | g
  .obtain ⟨n6,h6⟩:=u7t q a b ha hb (i+1) (by omega) x x' s.fin (Cb q a b x) s.last (s.first:Int) (D6.inn a x) (D6.inn b x) (s.out.length - s.first) s.first s.out (by omega) (by omega)
   have e:D6.oneS (Cb q a b x) x x' s=⟨D6.grow s.out s.first x',s.last,s.first,x'⟩:=by unfold CM.oneS;rw [g];rfl
   obtain ⟨n0,h0⟩:=v3y k (i+1) (D6.oneS (Cb q a b x) x x' s) (by omega) (by omega) (by omega) (by grind) (by grind [CM.grow_length]);refine ⟨n0+n6+1+n4+n3+1,?_⟩;rw [st0 (n0+n6+1),Zx];simp only [Ac,Ao] at g;obtain ⟨g1,g2,g3⟩:=g;have g3':Uh s.last (Cb q a b x)=true:=g3;simp (disch:=omega) only [Xz,Yc,Yo,y1,y2,z',v,g2,g3',w1,w3,w4,w2,Zd,Zp,Zt,Zn,Yd,Yp,Yg,Zh,Zq,Zv,Yb,Zj,Ah,Au,Aj,Al,Ab,Aa]
   grind
  .obtain ⟨n5,h5⟩:=u7u q a b ha hb (i+1) (by omega) x x' (Cb q a b x) (s.out.length:Int) (D6.inn a x) (D6.inn b x) hsl (Cb q a b x).length 0 s.out (Ah _) (by omega);simp only [AR,EB] at h5;have e:D6.oneS (Cb q a b x) x x' s=⟨s.out++(Cb q a b x).map (D6.put x x'),Cb q a b x,s.out.length,x'⟩:=by unfold CM.oneS;rw [g];rfl
   obtain ⟨n0,h0⟩:=v3y k (i+1) (D6.oneS (Cb q a b x) x x' s) (by omega) (by omega) (by omega) (by grind) (by rw [e];simp);have hg:Yj (Xz q a b) 1 (.to (.h4 ((i+1:Nat):Int) (b.length:Int) s.out s.last (s.first:Int) s.fin ((D6.cuts (a++b)).length) (Wt (Wj (D6.ends (a++b)))) x x' (D6.inn a x) (D6.inn b x)))=.to (.h5 x x' (Cb q a b x) ((Cb q a b x).length :Int) 0 ((i+1:Nat):Int) s.out (s.out.length:Int) ((D6.cuts (a++b)).length) (Wt (Wj (D6.ends (a++b)))) (D6.inn a x) (D6.inn b x)):=by
    rw [show (1:Nat)=0+1 from rfl,Zx];have e3:D6.same s.last (Cb q a b x)=Uh s.last (Cb q a b x):=rfl;rw [e3] at g;by_cases g1:0<(Cb q a b x).length
    .rw [Af g1,Al] at g;rcases Xw (s.fin == x) with g2 | g2
     .rw [g2,Al] at g;simp (disch:=omega) only [Xz,Yc,Yo,y1,y2,z',v,g2,g,w1,w3,w4,w2,Zd,Zp,Zt,Zn,Yd,Yp,Yg,Zh,Zq,Zv,Yb,Zj,Ah,Au,Aj,Al,Ab,Aa];rfl
     .simp (disch:=omega) only [Xz,Yc,Yo,y1,y2,z',v,g2,w1,w3,w4,w2,Zd,Zp,Zt,Zn,Yd,Yp,Yg,Zh,Zq,Zv,Yb,Zj,Ah,Au,Aj,Al,Ab,Aa];rfl
    .simp (disch:=omega) only [Xz,Yc,Xb,y1,y2,z',v,w1,w3,w4,w2,Zd,Zp,Zt,Zn,Yd,Yp,Yg,Zh,Zq,Zv,Yb,Zj,Ah,Au,Aj,Al,Ab,Aa];rfl
   refine ⟨n0+n5+1+n4+n3+1,?_⟩;simp_all [SO]
theorem u7x : ∀(k i:Nat) (acc:zq),i+k=b.length->acc=D6.ends (a++b.take i)-> ∃n,Yj (Xz q a b) n (.to (.h1 (i:Int) acc))=.ret (Df (eJ (DK (Cv q a b) (D6.cuts (a++b)) ((D6.cuts (a++b)).length - 1) 0) (D6.goS (Cb q a b) (D6.cuts (a++b)) ((D6.cuts (a++b)).length - 1) 0 ⟨[],[],0,0⟩).out.length) (D6.goS (Cb q a b) (D6.cuts (a++b)) ((D6.cuts (a++b)).length - 1) 0 ⟨[],[],0,0⟩).out)
 | 0,i,acc,h,h'=>by
  have _u:=ha;have _v:=hb;have e:acc=D6.ends (a++b):=by grind
  subst e;have hle:=D6.ends_length (a++b);rw [AO] at hle;obtain ⟨n,hn⟩:=v3y q a b ha hb ((D6.cuts (a++b)).length - 1) 0 ⟨[],[],0,0⟩ (by omega) (AA _) (AA _) (AA _) (AA _);refine ⟨n+1,?_⟩;rw [Zx];simp (disch:=omega) only [Xz,Qm,S0,Sg,Yc,Yp,Yg,Au,Ab,Aa];exact hn
 | k+1,i,acc,h,h'=>by
  have hle:acc.length<=2*(400+i):=by rw [h',D6.ends_length];grind
  obtain ⟨n,hn⟩:=u7x k (i+1) (acc++D6.ends [rd b i]) (by omega) (by
   rw [h',A4]
   grind [Xm,CM.ends])
  refine ⟨n+1,?_⟩;rw [Zx];simp (disch:=omega) only [Xz,Zd,Zp,Zt,Zn,Yd,Yp,Yg,Zh,Zq,Zv,Yb,Zj,Ah,Au,Aj,Al,Ab,Aa];exact hn
theorem u7y : ∀(k i:Nat) (acc:zq),i+k=a.length->acc=D6.ends (a.take i)-> ∃n,Yj (Xz q a b) n (.to (.h0 (i:Int) acc))=.ret (Df (eJ (DK (Cv q a b) (D6.cuts (a++b)) ((D6.cuts (a++b)).length - 1) 0) (D6.goS (Cb q a b) (D6.cuts (a++b)) ((D6.cuts (a++b)).length - 1) 0 ⟨[],[],0,0⟩).out.length) (D6.goS (Cb q a b) (D6.cuts (a++b)) ((D6.cuts (a++b)).length - 1) 0 ⟨[],[],0,0⟩).out)
 | 0,i,acc,h,h'=>by
  have _u:=ha;have _v:=hb;obtain ⟨n,hn⟩:=u7x q a b ha hb b.length 0 acc (Ah _) (by grind);refine ⟨n+1,?_⟩
  grind [Zx,Xz]
 | k+1,i,acc,h,h'=>by
  have hle:acc.length<=2*(400+i):=by rw [h',D6.ends_length];grind
  obtain ⟨n,hn⟩:=u7y k (i+1) (acc++D6.ends [rd a i]) (by omega) (by
   rw [h',A4]
   grind [Xm,CM.ends])
  refine ⟨n+1,?_⟩;rw [Zx];simp (disch:=omega) only [Xz,Zd,Zp,Zt,Zn,Yd,Yp,Yg,Zh,Zq,Zv,Yb,Zj,Ah,Au,Aj,Al,Ab,Aa];exact hn
end
def FY (q:Op) (a b:zx):zx:=(D6.goS (Cb q a b) (D6.cuts (a++b)) ((D6.cuts (a++b)).length - 1) 0 ⟨[],[],0,0⟩).out
def FA (q:Op) (a b:zx):Int:=bif Yv a != 0 then Yv a else bif Yv b != 0 then Yv b else eJ (DK (Cv q a b) (D6.cuts (a++b)) ((D6.cuts (a++b)).length - 1) 0) (FY q a b).length
def Fp (q:Op) (a b:zx):zx:=E6 (FA q a b) (FY q a b)
def E1 (q:Op) (a b:zx):Int:=FA q a b
def x2m (q:Op) (a b:zx):Bool:=true
theorem WW {l:zx} (h:(Yv l != 0)=false):l.length<=400:=by
 grind [Yv]
theorem N3 (q:Op) (a b:zx) (h:x2m q a b=true): ∃n,Yj (Xz q a b) n (X4 q a b)=.ret (Df (FA q a b) (FY q a b)):=by
 unfold X4;have o: ∀l,Jg l=true:=fun _=>rfl;simp only [Zd,o,Ab];rcases Xw (Yv a != 0) with q1 | q1
 .exact ⟨0,by simp only [FA,q1,Ab,HS _ q1];rfl⟩
 rcases Xw (Yv b != 0) with q2 | q2
 .exact ⟨0,by simp only [FA,q1,q2,Ab,Aa,HS _ q2];rfl⟩
 obtain ⟨n,hn⟩:=u7y q a b (WW q1) (WW q2) a.length 0 [] (Ah _) rfl;refine ⟨n,?_⟩;simp only [FA,q1,q2,Aa];exact hn
def fSl (q:Op):zy->Option (CA×Bool)
 | [a0,a1]=>match C4 R6 a0,C4 R6 a1 with
  | some (L0,g0,n0),some (L1,g1,n1)=>some (.tup [.dat (Fp q L0 L1).length (Zz (Fp q L0 L1)),.int .i64 (E1 q L0 L1)],CU R6 n0 g0&&(CU R6 n1 g1&&(x2m q L0 L1)))
  | _,_=>none
 | _=>none
theorem PT (q:Op) {S:CC} (hS:Zu prog S):Zu prog (S.with (nSl q) (fSl q)):=by
 refine GR hS (by cases q <;> kernel_rfl) fun args v h=> ?_;unfold fSl at h;split at h
 .rename_i a0 a1;split at h
  .rename_i L0 g0 n0 L1 g1 n1 e0 e1;simp only [Ae,Ad,Ac] at h;obtain ⟨rfl,ho0,ho1,hw⟩:=h;obtain ⟨N,hN⟩:=N3 q L0 L1 hw;exact ⟨_,_,(.cons (Xy e0 ho0) (.cons (Xy e1 ho1) .nil)),SB _ _,u0y q L0 L1 N _ hN,3,So _ _⟩
  .cases h
 .cases h
def Sv0 :CC:=((((((QL.with VQ Pq).with UM P1).with PA If).with IN Id).with Ot Ib).with v6q PS).with (nSl .u) (fSl .u)
theorem Mh :Zu prog Sv0:=PT .u (j7p (v8p (v8k (v8q (j8d (j8x Sa))))))
inductive Ia where
def PF (aM:Int) (aR:Int) (aS:Int) (aQ:Int) (aL:Int) (aO:Int) (aP:Int):Ia->CJ
 :=nofun
def w3f (aM:Int) (aR:Int) (aS:Int) (aQ:Int) (aL:Int) (aO:Int) (aP:Int):Ia->Xk Ia
 :=nofun
def XA (aM:Int) (aR:Int) (aS:Int) (aQ:Int) (aL:Int) (aO:Int) (aP:Int):Xk Ia:=(bif ((CT aM aR aS aQ) != 0) then (.ret [(.agg [(.int .i64 0),(.int .i64 0),(.int .i64 0)]),(.int .i64 (CT aM aR aS aQ))]) else (bif (decide ((Kz (Kz aL aO) aP)>=(-1000000))) then (bif (!(decide ((Ky (Ky aL aO) aP)<=1000000))) then (.ret [(.agg [(.int .i64 0),(.int .i64 0),(.int .i64 0)]),(.int .i64 2)]) else (bif (QT aM aR aS aQ aL aO aP) then (bif (decide ((Kz (Kz (Cm aM aR aS aQ aL aO aP).a (Cm aM aR aS aQ aL aO aP).b) (Cm aM aR aS aQ aL aO aP).c)>=(-1000000))) then (bif (!(decide ((Ky (Ky (Cm aM aR aS aQ aL aO aP).a (Cm aM aR aS aQ aL aO aP).b) (Cm aM aR aS aQ aL aO aP).c)<=1000000))) then (.ret [(.agg [(.int .i64 0),(.int .i64 0),(.int .i64 0)]),(.int .i64 16)]) else (.ret [(.agg [(.int .i64 (Cm aM aR aS aQ aL aO aP).a),(.int .i64 (Cm aM aR aS aQ aL aO aP).b),(.int .i64 (Cm aM aR aS aQ aL aO aP).c)]),(.int .i64 0)])) else (.ret [(.agg [(.int .i64 0),(.int .i64 0),(.int .i64 0)]),(.int .i64 16)])) else .stuck)) else (.ret [(.agg [(.int .i64 0),(.int .i64 0),(.int .i64 0)]),(.int .i64 2)])))
theorem v1l (aM:Int) (aR:Int) (aS:Int) (aQ:Int) (aL:Int) (aO:Int) (aP:Int): ∀s,Xh prog (Zy prog 65) (PF aM aR aS aQ aL aO aP) (PF aM aR aS aQ aL aO aP s) (w3f aM aR aS aQ aL aO aP s)
 :=nofun
theorem w3g (aM:Int) (aR:Int) (aS:Int) (aQ:Int) (aL:Int) (aO:Int) (aP:Int):Xh prog (Zy prog 65) (PF aM aR aS aQ aL aO aP) (Zb prog 65 [(.agg [(.int .u8 aM),(.int .i64 aR),(.int .i64 aS),(.int .i64 aQ)]),(.agg [(.int .i64 aL),(.int .i64 aO),(.int .i64 aP)])] true []) (XA aM aR aS aQ aL aO aP):=let e:=Zy prog 65;(lb (fun k0=>(Yh ⟨⟨25,0,true⟩,none,(Zk prog 65 (pn 77) 1),none,e,⟨Yy [(4,(.ptr 0 0)),(5,(ii (CT aM aR aS aQ)))],Wf [⟨[(ii 0),(ii 0),(ii 0)],40,none⟩] 0,1,[],true⟩,[],.leaf⟩ (sl Mh 27 [] ⟨[2],[],[some [4,5]],[]⟩ b7 [true] (tt k0 nn)) rfl (by kernel_rfl))) (fun k0=>let h:=Zk prog 65 (pn 75) 1;(lb (fun k1=>let i:=tt k1 (tt k0 nn);(lb (fun k2=>(Yh ⟨⟨25,0,true⟩,none,h,none,e,⟨Yy [(4,(.ptr 0 0)),(5,(ii 2))],Wf [⟨[(ii 0),(ii 0),(ii 0)],40,none⟩] 0,1,[],true⟩,[],.leaf⟩ (sl Mh 64 [] ⟨[2],[],[some [4,5]],[]⟩ b7 (bl 10 1022) (tt k2 i)) rfl (by kernel_rfl))) (fun k2=>(lo fun cT=>let d:=ww cT (tt k2 i);let g:=Zk prog 65 (pn 303) 1;(lb (fun k3=>(lb (fun k4=>(Yh ⟨⟨25,0,true⟩,none,g,none,e,⟨Yy [(4,(.ptr 0 0)),(5,(ii 16))],Wf [⟨[(ii 0),(ii 0),(ii 0)],40,none⟩] 0,1,[],true⟩,[],.leaf⟩ (sl Mh 109 [] ⟨[2],[],[some [4,5]],[]⟩ b7 (bl 19 523774) (tt k4 (tt k3 d))) rfl (by kernel_rfl))) (fun k4=>let f:=Cm aM aR aS aQ aL aO aP;(Yh ⟨⟨25,0,true⟩,none,(Zk prog 3 (pn 191) 1),none,e,⟨Yy [(4,(.ptr 0 0)),(5,(ii 0))],Wf [⟨[(ii f.a),(ii f.b),(ii f.c)],40,none⟩] 0,1,[],true⟩,[],.leaf⟩ (sl Mh 110 [] ⟨[2],[],[some [4,5]],[]⟩ b7 (bl 19 261630) (tt k4 (tt k3 d))) rfl (by kernel_rfl))))) (fun k3=>(Yh ⟨⟨25,0,true⟩,none,g,none,e,⟨Yy [(4,(.ptr 0 0)),(5,(ii 16))],Wf [⟨[(ii 0),(ii 0),(ii 0)],40,none⟩] 0,1,[],true⟩,[],.leaf⟩ (sl Mh 109 [] ⟨[2],[],[some [4,5]],[]⟩ b7 (bl 19 262654) (tt k3 d)) rfl (by kernel_rfl)))))))) (fun k1=>(Yh ⟨⟨25,0,true⟩,none,h,none,e,⟨Yy [(4,(.ptr 0 0)),(5,(ii 2))],Wf [⟨[(ii 0),(ii 0),(ii 0)],40,none⟩] 0,1,[],true⟩,[],.leaf⟩ (sl Mh 64 [] ⟨[2],[],[some [4,5]],[]⟩ b7 (bl 10 512) (tt k1 (tt k0 nn))) rfl (by kernel_rfl))))))
theorem u5l (aM:Int) (aR:Int) (aS:Int) (aQ:Int) (aL:Int) (aO:Int) (aP:Int) (n:Nat) (vs:zy) (h:Yj (w3f aM aR aS aQ aL aO aP) n (XA aM aR aS aQ aL aO aP)=.ret vs):Ji prog (Zy prog 65) (Zb prog 65 [(.agg [(.int .u8 aM),(.int .i64 aR),(.int .i64 aS),(.int .i64 aQ)]),(.agg [(.int .i64 aL),(.int .i64 aO),(.int .i64 aP)])] true []) vs:=by have:=Zf (v1l aM aR aS aQ aL aO aP) n _ (w3g aM aR aS aQ aL aO aP);rwa [h] at this
def Fg (t a b c x y z:Int):Int:=bif CT t a b c != 0 then CT t a b c else bif Fy x y z then (bif Fy (Cm t a b c x y z).a (Cm t a b c x y z).b (Cm t a b c x y z).c then 0 else 16) else 2
def Ze (t a b c x y z:Int):R3:=bif Fg t a b c x y z != 0 then ⟨0,0,0⟩ else Cm t a b c x y z
def SN (t a b c x y z:Int):Bool:=decide (0<=t)
theorem v7p (x y z:Int):Fy x y z=(decide (Kz (Kz x y) z>=(-1000000))&&decide (Ky (Ky x y) z<=1000000)):=by rw [AV,RG,Ac,Ao,Ao,HI,HI,HG,HG];omega
theorem j7g (t a b c x y z:Int) (ho:SN t a b c x y z=true): ∃N,Yj (w3f t a b c x y z) N (XA t a b c x y z)=.ret [.agg [.int .i64 (Ze t a b c x y z).a,.int .i64 (Ze t a b c x y z).b,.int .i64 (Ze t a b c x y z).c],.int .i64 (Fg t a b c x y z)]:=⟨0,by
 unfold XA Ze Fg;rw [v7p,v7p];cases q:CT t a b c != 0 with
 | true=>simp only [Ab,q];rfl
 | false=>
  have hf:QT t a b c x y z=true:=Sh q (Ay ho);rw [hf];cases decide (Kz (Kz x y) z>=(-1000000)) <;> cases decide (Ky (Ky x y) z<=1000000) <;> cases decide (Kz (Kz (Cm t a b c x y z).a (Cm t a b c x y z).b) (Cm t a b c x y z).c >=(-1000000)) <;> cases decide (Ky (Ky (Cm t a b c x y z).a (Cm t a b c x y z).b) (Cm t a b c x y z).c <=1000000) <;> rfl⟩
def Pi :zy->Option (CA×Bool)
 | [.agg [.int .u8 t,.int .i64 a,.int .i64 b,.int .i64 c],.agg [.int .i64 x,.int .i64 y,.int .i64 z]]=>some (.tup [.agg [.int .i64 (Ze t a b c x y z).a,.int .i64 (Ze t a b c x y z).b,.int .i64 (Ze t a b c x y z).c],.int .i64 (Fg t a b c x y z)],SN t a b c x y z)
 | _=>none
theorem j8t {S:CC} (hS:Zu prog S):Zu prog (S.with VI Pi):=by
 refine C3 hS (by kernel_rfl) fun args v h=> ?_;unfold Pi at h;split at h
 .rename_i t a b c x y z;simp only [Ae,Ad] at h;obtain ⟨rfl,ho⟩:=h;obtain ⟨N,hN⟩:=j7g t a b c x y z ho;exact ⟨_,_,(.cons (.refl _) (.cons (.refl _) .nil)),rfl,u5l t a b c x y z N _ hN,3,rfl⟩
 .cases h
def Sv1 :CC:=Sv0.with VI Pi
theorem HV :Zu prog Sv1:=j8t Mh
inductive IK where
 | h0 (v8:zx) (v27:Int)
def OC (l0:zx) (aL:Int) (aO:Int) (aP:Int) (aT:Int):IK->CJ
 | .h0 v8 v27=>⟨⟨92,0,true⟩,none,(Zk prog 30 (pn 303) 0),none,(Zy prog 17),⟨Yy [(3,(.ptr 0 0)),(8,(.sla 1 6 0 v8.length (.un 6))),(25,(dt l0)),(26,(ii (l0.length:Int))),(27,(ii v27))],Wf [⟨[(.int .u8 aL),(ii aO),(ii aP),(ii aT)],42,none⟩,(rz v8 79 6)] 0,2,[],true⟩,[],.leaf⟩
def L8 :List (Option zt):=[some [3,8,25,26,27]]
def L9 :List (Option zt):=[]
def Iu (l0:zx) (aL:Int) (aO:Int) (aP:Int) (aT:Int):IK->Xk IK
 | .h0 v8 v27=>let g:=rd l0 v27.toNat;let h:=Ze aL aO aP aT g.d g.e g.f;let i:=Ze aL aO aP aT g.a g.b g.c;(bif (decide (v27<(l0.length:Int))) then (bif ((decide (0<=v27/\v27<(l0.length:Int)))&&true) then (bif (SN aL aO aP aT g.a g.b g.c) then (bif (SN aL aO aP aT g.d g.e g.f) then (bif ((Fg aL aO aP aT g.a g.b g.c) != 0) then (.ret [.nils,(.int .i64 16)]) else (bif ((Fg aL aO aP aT g.d g.e g.f) != 0) then (.ret [.nils,(.int .i64 16)]) else (bif (Nat.beq 6 6&&((decide (0+v8.length=v8.length))&&decide ((v8.length+1+1)*(48+1)<=Vg))) then (.to (.h0 (v8++[(R6.mk (Kz i.a h.a) (Kz i.b h.b) (Kz i.c h.c) (Ky i.a h.a) (Ky i.b h.b) (Ky i.c h.c))]) (wrap .i64 (v27+1)))) else .stuck))) else .stuck) else .stuck) else .stuck) else (bif (WL (CB v8)) then (.ret [(.dat (Qx (CB v8)).length (Zz (Qx (CB v8)))),(.int .i64 (Jm (CB v8)))]) else .stuck))
def XL (l0:zx) (aL:Int) (aO:Int) (aP:Int) (aT:Int):Xk IK:=(bif (Jg (CB l0)) then (bif ((Yv (CB l0)) != 0) then (.ret [.nils,(.int .i64 (Yv (CB l0)))]) else (bif ((CT aL aO aP aT) != 0) then (.ret [.nils,(.int .i64 (CT aL aO aP aT))]) else (.to (.h0 ([]:zx) 0)))) else .stuck)
theorem w9x (l0:zx) (aL:Int) (aO:Int) (aP:Int) (aT:Int): ∀s,Xh prog (Zy prog 30) (OC l0 aL aO aP aT) (OC l0 aL aO aP aT s) (Iu l0 aL aO aP aT s)
 | .h0 v8 v27=>(lb (fun k0=>(lo fun aK=>(lo fun bH=>(lo fun cY=>let m:=ww cY (ww bH (ww aK (tt k0 nn)));(lb (fun k1=>(lr 92 30 (pn 619311) 1 17 [(4,.nils),(5,(ii 16))] (sl HV 58 [] (b8 [4,5]) b7 (CL 4 []) (tt k1 m)))) (fun k1=>(lb (fun k2=>(lr 92 30 (pn 619311) 1 17 [(4,.nils),(5,(ii 16))] (sl HV 58 [] (b8 [4,5]) b7 (bl 4 9) (tt k2 (tt k1 m))))) (fun k2=>(lo fun o0=>let o:=rd l0 (tn v27);let i:=o;let j:=Ze aL aO aP aT i.a i.b i.c;let l:=Ze aL aO aP aT i.d i.e i.f;let g:=v8++[(R6.mk (Kz j.a l.a) (Kz j.b l.b) (Kz j.c l.c) (Ky j.a l.a) (Ky j.b l.b) (Ky j.c l.c))];let p:=Ze aL aO aP aT o.a o.b o.c;let q:=Ze aL aO aP aT o.d o.e o.f;let u:=Kz p.a q.a;let v:=Kz p.b q.b;let w:=Kz p.c q.c;let y:=Ky p.a q.a;let z:=Ky p.b q.b;let A:=Ky p.c q.c;let s:=v8++[(R6.mk u v w y z A)];let t:=v8.length+1;let h:=xL t s.length;let r:=Zr (Zz v8) 0 v8.length 6 [(ii u),(ii v),(ii w),(ii y),(ii z),(ii A)];(sl HV 99 [] ⟨[0,6],[],L8,L9⟩ ⟨[(8,.len g.length)],[.keep,.rowed 6 g.length (Zz g)],[]⟩ (bl 4 1) (pp h (pp h (pp (xS t r (Zz s)) (pp (pp (xF r) nn) (ww o0 (tt k2 (tt k1 m))))))))))))))))) (fun k0=>(Un (sl HV (C':=⟨⟨92,0,true⟩,(Wz prog 30 (pn 95) 1),(Zk prog 30 (pn 95) 1),none,(Zy prog 17),⟨Yy [(88,(dt v8))],Wf [] 0,0,[],true⟩,[],.leaf⟩) 10 [] ⟨[],[1],[some [88]],[]⟩ ⟨[(88,.frz v8.length v8.length (Zz v8) (Zz v8))],[],[]⟩ [false] (pp (xZ (DE 6 6 0 v8.length v8.length (Zz v8)) v8.length (Zz v8)) (pp (xL v8.length v8.length) (pp (xS v8.length (Zz v8) (Zz v8)) (pp (fl v8 nn) (tt k0 nn)))))) (lo fun o0=>let n:=Qx (CB v8);(lr 92 3 (pn 191) 1 17 [(4,(dt n)),(5,(ii (Jm (CB v8))))] (sl HV 6 [] (b8 [4,5]) b7 [] (pp (pp (xr v8) (xw o0)) nn)))))))
theorem w1b (l0:zx) (aL:Int) (aO:Int) (aP:Int) (aT:Int):Xh prog (Zy prog 30) (OC l0 aL aO aP aT) (Zb prog 30 [(dt l0),(.agg [(.int .u8 aL),(.int .i64 aO),(.int .i64 aP),(.int .i64 aT)])] true []) (XL l0 aL aO aP aT):=(lo fun cA=>let a:=pp (pp (xr l0) (xw cA)) nn;(lb (fun k0=>(lr 92 30 (pn 77) 1 17 [(4,.nils),(5,(ii (Yv (CB l0))))] (sl HV 25 [] (b8 [4,5]) b7 [true] (tt k0 a)))) (fun k0=>(lb (fun k1=>(lr 92 30 (pn 155) 1 17 [(4,.nils),(5,(ii (CT aL aO aP aT)))] (sl HV 39 [] (b8 [4,5]) b7 (bl 2 2) (tt k1 (tt k0 a))))) (fun k1=>(sl HV 47 [(79,6,Zz ([]:zx))] ⟨[0,1],[],L8,L9⟩ ⟨[(8,.grow 1 6)],[],[]⟩ (bl 2 0) (pp (fl ([]:zx) nn) (tt k1 (tt k0 a)))))))))
theorem u3p (l0:zx) (aL:Int) (aO:Int) (aP:Int) (aT:Int) (n:Nat) (vs:zy) (h:Yj (Iu l0 aL aO aP aT) n (XL l0 aL aO aP aT)=.ret vs):Ji prog (Zy prog 30) (Zb prog 30 [(dt l0),(.agg [(.int .u8 aL),(.int .i64 aO),(.int .i64 aP),(.int .i64 aT)])] true []) vs:=by have:=Zf (w9x l0 aL aO aP aT) n _ (w1b l0 aL aO aP aT);rwa [h] at this
def Fe (t a b c:Int) (r:R6):R6:=⟨Kz (Ze t a b c r.a r.b r.c).a (Ze t a b c r.d r.e r.f).a,Kz (Ze t a b c r.a r.b r.c).b (Ze t a b c r.d r.e r.f).b,Kz (Ze t a b c r.a r.b r.c).c (Ze t a b c r.d r.e r.f).c,Ky (Ze t a b c r.a r.b r.c).a (Ze t a b c r.d r.e r.f).a,Ky (Ze t a b c r.a r.b r.c).b (Ze t a b c r.d r.e r.f).b,Ky (Ze t a b c r.a r.b r.c).c (Ze t a b c r.d r.e r.f).c⟩
def HA (t a b c:Int) (r:R6):Bool:= !(Fg t a b c r.a r.b r.c != 0)&& !(Fg t a b c r.d r.e r.f != 0)
def Vo (L:zx) (t a b c:Int):Int:=bif Yv L != 0 then Yv L else bif CT t a b c != 0 then CT t a b c else bif L.all (HA t a b c) then Jm (L.map (Fe t a b c)) else 16
def Wq (L:zx) (t a b c:Int):zx:=bif Yv L != 0 then [] else bif CT t a b c != 0 then [] else bif L.all (HA t a b c) then Qx (L.map (Fe t a b c)) else []
def Jc (L:zx) (t a b c:Int):Bool:=decide (0<=t)
def IL (L M:zx) (t a b c:Int):zy:=bif M.all (HA t a b c) then [.dat (Qx (L.map (Fe t a b c))).length (Zz (Qx (L.map (Fe t a b c)))),.int .i64 (Jm (L.map (Fe t a b c)))] else [.nils,.int .i64 16]
theorem u9x (L:zx) (hl:L.length<=400) (t a b c:Int) (ht:0<=t): ∀(k i:Nat) (acc:zx),i+k=L.length->acc=(L.take i).map (Fe t a b c)-> ∃N,Yj (Iu L t a b c) N (.to (.h0 acc (i:Int)))=.ret (IL L (L.drop i) t a b c)
 | 0,i,acc,h,ha=>by
  refine ⟨1,?_⟩;have:i=L.length:=by omega
  subst this;rw [Zx,Aw (Aq _)];rw [List.take_length] at ha;subst ha;have g:decide ((L.length:Int)<(L.length:Int))=false:=An (by omega);simp only [Iu,Zd,g,show∀l,WL l=true from fun _=>rfl,Ab,Aa];rfl
 | k+1,i,acc,h,ha=>by
  have hi:i<L.length:=by omega
  have gQ:acc.length=i:=by rw [ha,B3,Bt];omega
  obtain ⟨N,hN⟩:=u9x L hl t a b c ht k (i+1) (acc++[Fe t a b c (rd L i)]) (by omega) (by
   rw [ha,A4,At hi,BC,Xm hi];rfl)
  refine ⟨N+1,?_⟩;have g1:decide ((i:Int)<(L.length:Int))=true:=Af (by omega);have g2:decide (0<=(i:Int)/\(i:Int)<(L.length:Int))=true:=Af (by omega);have w3:wrap .i64 ((i:Int)+1)=((i+1:Nat):Int):=by rw [Zq (by omega)];rfl
  have r1:decide ((acc.length+1+1)*(48+1)<=Vg)=true:=Zh (by omega);have l1:decide (0+acc.length=acc.length)=true:=Af (by omega);have b6:Nat.beq 6 6=true:=rfl;have fo: ∀x y z,SN t a b c x y z=true:=fun _ _ _=>Af ht;rw [Zx,Yn hi];unfold IL at hN ⊢;rw [List.all_cons];unfold Fe at hN;unfold HA at hN ⊢;rcases Xw (Fg t a b c (rd L i).a (rd L i).b (rd L i).c != 0) with q1 | q1
  .simp only [Iu,Zd,g1,g2,Zj,fo,q1,Aj,Ax,AY,Ab,Aa,Zc]
  rcases Xw (Fg t a b c (rd L i).d (rd L i).e (rd L i).f != 0) with q2 | q2
  .simp only [Iu,Zd,g1,g2,Zj,fo,q1,q2,Aj,Ax,AB,A1,AY,Ab,Aa,Zc]
  simp only [Iu,Zd,g1,g2,w3,Zj,fo,q1,q2,r1,l1,b6,Aj,Al,AB,Ab,Aa];exact hN
theorem j5l (L:zx) (t a b c:Int) (ht:0<=t): ∃n vs,Yj (Iu L t a b c) n (XL L t a b c)=.ret vs/\(∀(ρ:CF) (u:Value),VRel ρ (Jd vs) u->VRel ρ (.tup [.dat (Wq L t a b c).length (Zz (Wq L t a b c)),.int .i64 (Vo L t a b c)]) u)/\ ∃d,pf d (Jd vs)=true:=by
 unfold XL;simp only [Zd,show∀l,Jg l=true from fun _=>rfl,Ab];rcases Xw (Yv L != 0) with q1 | q1
 .refine ⟨0,_,by rw [q1,Ab];rfl,?_,3,rfl⟩;unfold Wq Vo;rw [q1,Ab,Ab];exact fun ρ u hu=>FJ (.cons (.nild _) (.cons (.refl _) .nil)) ρ u hu
 rcases Xw (CT t a b c != 0) with q2 | q2
 .refine ⟨0,_,by rw [q1,q2,Aa,Ab];rfl,?_,3,rfl⟩;unfold Wq Vo;rw [q1,q2,Aa,Ab,Aa,Ab];exact fun ρ u hu=>FJ (.cons (.nild _) (.cons (.refl _) .nil)) ρ u hu
 obtain ⟨N,hN⟩:=u9x L (WW q1) t a b c ht L.length 0 [] (Ah _) rfl;rw [AR] at hN;refine ⟨N,IL L L t a b c,by rw [q1,q2,Aa,Aa];exact hN,?_⟩;unfold Wq Vo IL;rw [q1,q2,Aa,Aa,Aa,Aa];rcases Xw (L.all (HA t a b c)) with q3 | q3 <;> rw [q3]
 .exact ⟨fun ρ u hu=>hu,3,rfl⟩
 .exact ⟨fun ρ u hu=>FJ (.cons (.nild _) (.cons (.refl _) .nil)) ρ u hu,3,rfl⟩
def P2 :zy->Option (CA×Bool)
 | [a0,.agg [.int .u8 t,.int .i64 a,.int .i64 b,.int .i64 c]]=>match C4 R6 a0 with
  | some (L0,g0,n0)=>some (.tup [.dat (Wq L0 t a b c).length (Zz (Wq L0 t a b c)),.int .i64 (Vo L0 t a b c)],CU R6 n0 g0&&Jc L0 t a b c)
  | _=>none
 | _=>none
theorem j8e {S:CC} (hS:Zu prog S):Zu prog (S.with J8 P2):=by
 refine GR hS (by kernel_rfl) fun args v h=> ?_;unfold P2 at h;split at h
 .rename_i a0 t a b c;split at h
  .rename_i L0 g0 n0 e0;simp only [Ae,Ad,Ac] at h;obtain ⟨rfl,ho0,hw⟩:=h;obtain ⟨N,vs,hN,hv,hp⟩:=j5l L0 t a b c (Ay hw);exact ⟨_,vs,(.cons (Xy e0 ho0) (.cons (.refl _) .nil)),hv,u3p L0 t a b c N _ hN,hp⟩
  .cases h
 .cases h
abbrev u7n (a b:zx):zx:=Fp .u a b
abbrev R5 (a b:zx):Int:=E1 .u a b
abbrev x5l (a b:zx):Bool:=x2m .u a b
def Sv2 :CC:=Sv1.with J8 P2
theorem Ut :Zu prog Sv2:=j8e HV
end Go.Am
end
