/- A part of a proof: several texts in one. -/
import Derived.Test.YthnnmgkacjjpeaaGreatDoorNh3
import Derived.Lib.SplitLaws
set_option maxRecDepth 1000000
set_option maxHeartbeats 8000000
set_option linter.unusedVariables false
set_option linter.unusedSimpArgs false
noncomputable section
namespace Go.Am
open IntKind (wrap)
open Go.Proofs
def Cd (s:R2):Bool:=decide (s.a<s.b)&&(decide (s.a>= -1000000)&&decide (s.b<=1000000))
def DM (l:List R2):List R3:=l.flatMap fun s=>[⟨s.a,0,1⟩,⟨s.b,0,-1⟩]
def Fm (out:List R2) (last:Int) (inn:Bool) (at':Int):List R2:=
 bif !inn then out else bif last == at' then out else
 bif decide (0<out.length)&&((rd out (out.length - 1)).b == last) then out.set (out.length - 1) ⟨(rd out (out.length - 1)).a,at'⟩ else out++[⟨last,at'⟩]
def Ep :List R3->Int->Int->Bool->List R2->List R2
 | [],_,_,_,out=>out
 | e::r,o,last,inn,out=>Ep r (o+e.c) e.a (decide (o+e.c>0)) (Fm out last inn e.a)
def Eo (l:List R2):List R2:=Ep (CH (DM l)) 0 0 false []
def Xe (l:List R2):List R2:=bif decide (400<l.length) then [] else bif l.all Cd then Eo l else []
def SE (l:List R2):Int:=bif decide (400<l.length) then 4 else bif l.all Cd then 0 else 8
def Lv (l:List R2):Bool:=true
def Ip (l:List R2):List BA:=bif decide (400<l.length) then [.nils,.int .i64 4] else bif l.all Cd then [.dat (Eo l).length (Zz (Eo l)),.int .i64 0] else [.nils,.int .i64 8]
theorem MR (l:List R2):(DM l).length =2*l.length:=by
 induction l with
 | nil=>rfl
 | cons r l ih=>grind [DM]
theorem PO (out:List R2) (last:Int) (inn:Bool) (a:Int):(Fm out last inn a).length <=out.length+1:=by
 grind [Fm]
theorem Pu (e:R3) (r:List R3) (o last:Int) (inn:Bool) (out:List R2):Ep (e::r) o last inn out=Ep r (o+e.c) e.a (decide (o+e.c>0)) (Fm out last inn e.a):=rfl
theorem Zl {a:Int} (k:Nat) (h:a=(k:Int)):decide (a=Int.ofNat k)=true:=by grind
section
variable (l:List R2) (hl:l.length<=400)
include hl
theorem SH (L:List R3) (hL:L.length<=800) (hE: ∀i,i<L.length->(rd L i).b =0/\((rd L i).c =1\/(rd L i).c = -1)): ∀(k i:Nat) (o last:Int) (inn:Bool) (out:List R2),i+k=L.length-> -(i:Int)<=o->o<=i->out.length<=i->
  ∃n,Yr (Wf l) n (.to (.h2 L (L.length:Int) (i:Int) o 0 last inn out))=.ret [.dat (Ep (L.drop i) o last inn out).length (Zz (Ep (L.drop i) o last inn out)),.int .i64 0]
 | 0,i,o,last,inn,out,h,ho1,ho2,hout=>by
  have _uhl:=hl;refine ⟨1,?_⟩
  grind [Zj,Wf,Zc,Ep]
 | k +1,i,o,last,inn,out,h,ho1,ho2,hout=>by
  obtain ⟨hb,hc⟩:=hE i (by omega);have hcl:=PO out last inn (rd L i).a;obtain ⟨n,hn⟩:=SH L hL hE k (i+1) (o+(rd L i).c) (rd L i).a (decide (o+(rd L i).c >0)) (Fm out last inn (rd L i).a) (by omega) (by grind) (by grind) (by omega);refine ⟨n+1,?_⟩;rw [Ys (show i<L.length by omega),Zj];have hf: ∀b,Cn b (decide ((0:Int)>0))=b:=fun b=>rfl;have hw:wrap .i64 (o+(rd L i).c)=o+(rd L i).c :=Za (by grind);rw [Pu];have hf': ∀b,Cn b false=b:=fun b=>rfl;have hz:=Zl 0 hb;unfold Fm at hn ⊢;cases inn with
  | false=>simp only [Aw,Ah] at hn ⊢;simp (disch:=omega) only [Wf,Aw,hz,hw,hf,hf',Yw,Yv,Yd,Za,Zw,Zp,Aj,An,Ah];exact hn
  | true=>
   simp only [Ax,Ai] at hn ⊢;rcases Wc (last == (rd L i).a) with q | q
   .rw [q] at hn ⊢;simp only [Ah] at hn ⊢;simp (disch:=omega) only [Wf,Ax,q,hz,hw,hf,hf',Yw,Yv,Yd,Za,Zw,Zp,Aj,An,Ah,Ai];exact hn
   .rw [q] at hn ⊢;simp only [Ai] at hn ⊢;by_cases h0:0<out.length
    .rw [Aq h0,Ap] at hn ⊢;rcases Wc ((rd out (out.length - 1)).b == last) with q2 | q2
     .rw [q2] at hn ⊢;simp only [Ah] at hn ⊢;simp (disch:=omega) only [Wf,Ax,q,q2,hz,hw,hf,hf',Yw,Yt,Yv,Yd,Za,Zw,Zp,Zg,Aj,An,Ah,Ai];exact hn
     .rw [q2] at hn ⊢;simp only [Ai] at hn ⊢;simp (disch:=omega) only [Wf,Ax,q,q2,hz,hw,hf,hf',Yw,Yt,Yv,Yd,Yb,Zr,Ye,Ar,Za,Zw,Zp,Zg,Aj,An,Ap,Ah,Ai];exact hn
    .rw [AN h0,A6] at hn ⊢;simp only [Ai] at hn ⊢;simp (disch:=omega) only [Wf,Ax,q,hz,hw,hf,hf',Yw,Xq,Yv,Yd,Yb,Zr,Ye,Ar,Za,Zw,Zp,Aj,An,Ap,Ah,Ai];exact hn
theorem WB (h:l.all Cd=true): ∀e∈DM l,H4 e=true/\e.b=0/\(e.c=1\/e.c= -1):=by
 have _uhl:=hl;intro e he;obtain ⟨s,hs,h1⟩:=List.mem_flatMap.1 he;have hv:=Az.1 h s hs;simp only [Cd,Ad,Au] at hv;simp only [Be,List.not_mem_nil,or_false] at h1;rcases h1 with rfl | rfl
 .exact ⟨Aq (by grind),rfl,.inl rfl⟩
 .exact ⟨Aq (by grind),rfl,.inr rfl⟩
theorem SG (hv:l.all Cd=true): ∀(k i:Nat) (acc:List R3),i+k=l.length->acc=DM (l.take i)-> ∃n,Yr (Wf l) n (.to (.h1 acc (i:Int)))=.ret [.dat (Eo l).length (Zz (Eo l)),.int .i64 0]
 | 0,i,acc,h,ha=>by
  have e:acc=DM l:=by grind
  subst e;have hle:=MR l;have dC:=WB l hl hv;have hb:C6 (DM l)=true:=Az.2 fun e he=>(dC e he).1;obtain ⟨hp,_⟩:=KY (DM l) hb;have hpl:=hp.length_eq;obtain ⟨n,hn⟩:=SH l hl (CH (DM l)) (by omega) (fun i hi=>by
   grind [Vm]) (CH (DM l)).length 0 0 0 false [] (Aj _) (by omega) (by omega) (AD _)
  refine ⟨n+1,?_⟩;rw [Zj];simp (disch:=omega) only [Wf,Zt,Ze,hb,Xy,Yd,Yb,Ar,Ah,Ai];rw [<-hpl];simp only [Dq,AZ] at hn;exact hn
 | k+1,i,acc,h,ha=>by
  have hle:=MR (l.take i);have hacc:acc.length<=2*i:=by grind
  obtain ⟨n,hn⟩:=SG hv k (i+1) (acc++DM [rd l i]) (by omega) (by
   rw [ha,Bd]
   grind [Vm,DM])
  refine ⟨n+1,?_⟩;rw [Zj];simp (disch:=omega) only [Wf,Yw,Yv,Yh,Yb,Zr,Ye,Ar,Za,Zw,Zp,Aj,An,Ap,Ah];exact hn
theorem SF : ∀(k i:Nat),i+k=l.length->(∀s∈l.take i,Cd s=true)-> ∃n,Yr (Wf l) n (.to (.h0 (i:Int)))=.ret (bif l.all Cd then [.dat (Eo l).length (Zz (Eo l)),.int .i64 0] else [.nils,.int .i64 8])
 | 0,i,h,ht=>by
  have hv:l.all Cd=true:=Az.2 fun s hs=>ht s (by grind);obtain ⟨n,hn⟩:=SG l hl hv l.length 0 [] (Aj _) rfl;refine ⟨n+1,?_⟩
  grind [Zj,Wf]
 | k+1,i,h,ht=>by
  have hi:i<l.length:=by omega
  rcases Wc (Cd (rd l i)) with q | q
  .obtain ⟨n,hn⟩:=SF k (i+1) (by omega) (fun s hs=>by
    rw [Bd] at hs
    grind [Vm])
   refine ⟨n+1,?_⟩
   grind [Zj,Cd,Wf,Za]
  .have hv:l.all Cd=false:=AT.2 fun e=>by
    grind [Vm]
   refine ⟨1,?_⟩;rw [Zj,hv,Ai];unfold Cd at q;rcases Wc (decide ((rd l i).a <(rd l i).b)) with q1 | q1 <;> rcases Wc (decide ((rd l i).a >= -1000000)) with q2 | q2 <;> rcases Wc (decide ((rd l i).b <=1000000)) with q3 | q3 <;>
    rw [q1,q2,q3] at q <;> first
    | (exfalso;revert q;decide)
    | simp (disch:=omega) only [Wf,q1,q2,q3,Yw,JQ,Yv,Za,Zw,Zp,Ax,Aw,An,Ah,Ai,Zc]
end
theorem w4a (l:List R2): ∃n,Yr (Wf l) n (KI l)=.ret (Ip l):=by
 unfold KI Ip;by_cases h:400<l.length
 .refine ⟨0,?_⟩;rw [Aq h,Yt (show (l.length:Int)>400 by omega)];rfl
 .obtain ⟨n,hn⟩:=SF l (by omega) l.length 0 (Aj _) (fun s hs=>by simp at hs)
  grind
open Go.Proofs.Tryz
def HE :List BA->Option (BA×Bool)
 | [a1]=>match B2 R2 a1 with
  | some (L1,g1,n1)=>some (.tup [.dat (Xe L1).length (Zz (Xe L1)),.int .i64 (SE L1)],BT R2 n1 g1&&Lv L1)
  | _=>none
 | _=>none
theorem ZW {S:BC} (hS:Zu prog S):Zu prog (S.with QI HE):=by
 refine EW hS (by kernel_rfl) fun args v h=> ?_;unfold HE at h;split at h
 .rename_i a1;split at h
  .rename_i L1 g1 n1 e1;simp only [Ab,Aa,Ad] at h;obtain ⟨rfl,ho1,hw⟩:=h;obtain ⟨N,hN⟩:=w4a L1;refine ⟨_,Ip L1,(.cons (Xb e1 ho1) .nil),?_,VX L1 N _ hN,3,?_⟩
   .unfold Xe SE Ip;cases decide (400<L1.length) <;> simp only [Ah,Ai]
    .cases L1.all Cd <;> simp only [Ah,Ai]
     .exact fun ρ u hu=>Fq (.cons (Fx R2) (B9.refl _)) ρ u hu
     .exact fun ρ u hu=>hu
    .exact fun ρ u hu=>Fq (.cons (Fx R2) (B9.refl _)) ρ u hu
   .unfold Ip;cases decide (400<L1.length) <;> simp only [Ah,Ai]
    .cases L1.all Cd <;> rfl
    .rfl
  .cases h
 .cases h
def T6 :BC:=T5.with QI HE
theorem Va :Zu prog T6:=ZW Up
open Go.Sort Go.Shelf Go.RowKit Go.Lib
theorem MU {γ:Type} (a b:Bool) (x y:γ):(bif a&&b then x else y)=bif a then (bif b then x else y) else y:=by grind
theorem MV {γ:Type} (a:Bool) (x y:γ):(bif !a then x else y)=bif a then y else x:=by grind
structure Ch (α β:Type) where
 lo:α->Int
 hi:α->Int
 pr:α->β
 put:Int->Int->β->α
 ext:Int->α->α
 mak:List β->List β
 same:List β->List β->Bool
structure Sw (α β:Type) where
 out:List α
 last:List β
 first:Nat
 fin:Int
def Id (zs:List Int):List Int:=compact (Vc zs)
theorem QZ (zs:List Int):D5 (Vc zs)=(Id zs).length :=rfl
theorem Kv (zs:List Int):(Vc zs).length =zs.length:=List.length_mergeSort zs
theorem UV (zs:List Int):(Id zs).length <=zs.length:=by have:=compact_length_le (Vc zs);rw [Kv] at this;exact this
theorem Kl (zs:List Int) (i:Nat) (h:i<(Id zs).length):rd (Uj (Vc zs)) i=rd (Id zs) i:=by
 change i<(compact (Vc zs)).length at h;show rd (compact (Vc zs)++_) i=rd (compact (Vc zs)) i
 grind [Vm]
theorem O2 (zs:List Int):Yx zs.length (BU (Zz (Vc zs)))=Vc zs:=by
 grind [ML,Kv]
namespace Ch
variable {α β:Type} (D:Ch α β) (l:List α)
def ends :List Int:=l.flatMap fun r=>[D.lo r,D.hi r]
def cuts :List Int:=Id (D.ends l)
def inn (x:Int):List β:=(l.filter fun r=>decide (D.lo r<=x)&&decide (x<D.hi r)).map D.pr
def sec (x:Int):List β:=D.mak (D.inn l x)
def grow (out:List α) (k:Nat) (x:Int):List α:=out.take k++(out.drop k).map (D.ext x)
def one (x x':Int) (s:Sw α β):Sw α β:=
 bif decide (0<(D.sec l x).length)&&((s.fin == x)&&D.same s.last (D.sec l x)) then ⟨D.grow s.out s.first x',s.last,s.first,x'⟩
 else ⟨s.out++(D.sec l x).map (D.put x x'),D.sec l x,s.out.length,x'⟩
def go :Nat->Nat->Sw α β->Sw α β
 | 0,_,s=>s
 | k+1,i,s=>go k (i+1) (D.one l (rd (D.cuts l) i) (rd (D.cuts l) (i+1)) s)
def out :List α:=(D.go l ((D.cuts l).length - 1) 0 ⟨[],[],0,0⟩).out
theorem ends_length :(D.ends l).length =2*l.length:=by
 induction l with
 | nil=>rfl
 | cons r l ih=>show (_::_::D.ends l).length =_;grind
theorem cuts_length :(D.cuts l).length <=2*l.length:=by have:=UV (D.ends l);rw [D.ends_length] at this;exact this
theorem ends_append (m:List α):D.ends (l++m)=D.ends l++D.ends m:=by simp [ends]
theorem inn_append (m:List α) (x:Int):D.inn (l++m) x=D.inn l x++D.inn m x:=by simp [inn]
theorem inn_length (x:Int):(D.inn l x).length <=l.length:=by grind [inn]
theorem inn_t (r:α) (x:Int) (h1:D.lo r<=x) (h2:x<D.hi r):D.inn [r] x=[D.pr r]:=by simp [inn,h1,h2]
theorem inn_f1 (r:α) (x:Int) (h1: ¬D.lo r<=x):D.inn [r] x=[]:=by simp [inn,h1]
theorem inn_f2 (r:α) (x:Int) (h1: ¬x<D.hi r):D.inn [r] x=[]:=by simp [inn,h1]
theorem grow_nil (out:List α) (k:Nat) (x:Int) (h:out.length<=k):D.grow out k x=out:=by unfold grow;rw [Ay h,List.map_nil,AL,AV h]
theorem grow_length (out:List α) (k:Nat) (x:Int):(D.grow out k x).length =out.length:=by unfold grow;simp;omega
theorem grow_set [Yc α] (out:List α) (j:Nat) (x:Int) (h:j<out.length):D.grow (out.set j (D.ext x (rd out j))) (j+1) x=D.grow out j x:=by
 unfold grow;rw [Ys h,AQ];have e1:(out.set j (D.ext x (rd out j))).take (j+1)=out.take j++[D.ext x (rd out j)]:=by
  apply Bl;all_goals grind
 have e2:(out.set j (D.ext x (rd out j))).drop (j+1)=out.drop (j+1):=by rw [List.drop_set];grind
 grind
theorem one_length (x x':Int) (s:Sw α β):(D.one l x x' s).out.length <=s.out.length+(D.sec l x).length :=by
 grind [one,grow_length]
end Ch
def Nf (a b:List UInt8):Bool:=Nat.ble (a.length+b.length) 9223372036854775807
theorem JC {a b:List UInt8} (h:a.length+b.length<=1000000000000):Nf a b=true:=by unfold Nf;exact AI (by omega)
open Go.Proofs.Tryz
open Go.Proofs Go.Lib
theorem Fd :Zu prog SC:=XK (Ut (Ut (Ut Zv (by kernel_rfl) Gu) (by kernel_rfl) G6) (by kernel_rfl) H5) (by kernel_rfl) ZE
def CM (b:UInt8):List UInt8->List UInt8->List (List UInt8)
 | cur,[]=>[cur]
 | cur,x::r=>bif x == b then cur::CM b [] r else CM b (cur++[x]) r
theorem MA (b:UInt8): ∀(s cur:List UInt8),CM b cur s=match CM b [] s with
  | []=>[]
  | p::l=>(cur++p)::l
 | [],cur=>by simp [CM]
 | x::r,cur=>by
  unfold CM;cases x == b with
  | true=>simp
  | false=>
   rw [Ai,Ai,MA b r (cur++[x]),MA b r ([]++[x])];cases CM b [] r with
   | nil=>rfl
   | cons p l=>simp
theorem S0 {b x:UInt8} (h:x≠b) (k:Nat) (s:List UInt8):splitK [b] 0 k (x::s)=match splitK [b] 0 k s with
  | []=>[]
  | p::l=>(x::p)::l:=by
 have hp:([b]:List UInt8).isPrefixOf (x::s)=false:=by simp [List.isPrefixOf,Ne.symm h]
 have hix:index (x::s) [b]=if index s [b] == -1 then -1 else index s [b]+1:=by rw [index,hp];simp
 have hge:=index_ge s [b];cases k with
 | zero=>rfl
 | succ k=>
  unfold splitK;by_cases hm:index s [b]= -1
  .rw [hix,AB (beq_iff_eq.2 hm),AB (by decide),AB (beq_iff_eq.2 hm)]
  .have h1: ¬(index s [b] == -1)=true:=fun e=>hm (beq_iff_eq.1 e);have h2: ¬(index s [b]+1 == -1)=true:=fun e=>by have:=beq_iff_eq.1 e;omega
   obtain ⟨j,hj⟩: ∃j:Nat,index s [b]=j:=⟨(index s [b]).toNat,by omega⟩
   rw [hix,At h1,At h1,At h2,hj];have e1:((j:Int)+1).toNat =j+1:=by omega
   have e2:(j:Int).toNat =j:=by omega
   rw [e1,e2];simp only [List.length_singleton,A1,List.take_succ_cons];rw [show j+1+1=(j+1)+1 from rfl,List.drop_succ_cons]
theorem Lu (b:UInt8): ∀s:List UInt8,split s [b]=CM b [] s
 | []=>by unfold split;rw [count_one];rfl
 | x::r=>by
  have ih:=Lu b r;unfold split at ih ⊢;by_cases h:x=b
  .subst h;rw [count_cons_eq,Nat.add_comm];have hix:index (x::r) [x]=0:=by rw [index];simp [List.isPrefixOf]
   rw [splitK,hix,At (by decide)];simp only [Int.toNat_zero,A1,List.take_zero,List.length_singleton,Aj,List.drop_succ_cons,AZ];rw [ih,CM];simp
  .rw [count_cons_ne x b r h,S0 h,ih,CM];have hb:(x == b)=false:=by simpa using h
   rw [hb,Ai,MA b r ([]++[x])];cases CM b [] r with
   | nil=>rfl
   | cons p l=>rfl
theorem MI (b:UInt8): ∀(s cur:List UInt8),(CM b cur s).length <=s.length+1
 | [],cur=>by simp [CM]
 | x::r,cur=>by
  rw [CM,AY];cases x == b with
  | true=>have:=MI b r [];rw [Ah,AY];omega
  | false=>have:=MI b r (cur++[x]);rw [Ai];omega
open Go.Sort
def Nj (s sep:List UInt8):Int:=Lib.indexByte s (sep.headD 0)
def WN (s sep:List UInt8):Bool:=Nat.beq sep.length 1
def EY :List BA->Option (BA×Bool)
 | [.str s,.str sep]=>some (.int .i64 (Nj s sep),WN s sep)
 | _=>none
theorem Pj {sep:List UInt8} (h:Nat.beq sep.length 1=true):sep=[sep.headD 0]:=by
 have h1:=Ae h
 match sep,h1 with
 | [b],_=>rfl
theorem Q3 {S:BC} (hS:Zu prog S):Zu prog (S.with Gv EY):=Ut hS (by kernel_rfl) (Qg fun args v hv H vals w cD hH hG=>by
 unfold EY at hv;split at hv
 .rename_i s sep;simp only [Ab,Aa] at hv;obtain ⟨rfl,ho⟩:=hv;have hs:=Pj ho;obtain rfl:vals= #[.string ⟨s.toArray⟩,.string ⟨sep.toArray⟩]:=by
   obtain ⟨vl⟩:=vals;cases cD with
   | cons h1 h2=>cases h2 with
    | cons h2 h3=>cases h3;cases h1;cases h2;rfl
  rw [hs];refine (Any.stringslite_Index_one Tryz.lays219 ⟨s.toArray⟩ (sep.headD 0) w).mono fun e w' ⟨he,hw⟩=>⟨_,he,.int _ _,?_⟩
  subst hw;exact RowKit.Below.refl _ _
 .cases hv)
def Nr (s sep:List UInt8):Int:=((Lib.countByte s (sep.headD 0):Nat):Int)
def V6 (s sep:List UInt8):Bool:=Nat.beq sep.length 1
def E0 :List BA->Option (BA×Bool)
 | [.str s,.str sep]=>some (.int .i64 (Nr s sep),V6 s sep)
 | _=>none
theorem Q2 {S:BC} (hS:Zu prog S):Zu prog (S.with H1 E0):=Ut hS (by kernel_rfl) (Qg fun args v hv H vals w cD hH hG=>by
 unfold E0 at hv;split at hv
 .rename_i s sep;simp only [Ab,Aa] at hv;obtain ⟨rfl,ho⟩:=hv;have hs:=Pj ho;obtain rfl:vals= #[.string ⟨s.toArray⟩,.string ⟨sep.toArray⟩]:=by
   obtain ⟨vl⟩:=vals;cases cD with
   | cons h1 h2=>cases h2 with
    | cons h2 h3=>cases h3;cases h1;cases h2;rfl
  rw [hs];refine (Any.strings_Count_one Tryz.lays138 ⟨s.toArray⟩ (sep.headD 0) w).mono fun e w' ⟨he,hw⟩=>⟨_,he,.int _ _,?_⟩
  subst hw;exact RowKit.Below.refl _ _
 .cases hv)
def ER (L:List (List UInt8)) (sep:List UInt8):List UInt8:=Lib.join L sep
def Lp (L:List (List UInt8)) (sep:List UInt8):Bool:=decide (L.length<=1000000)&&decide ((ER L sep).length <=1000000)
def DK :List BA->Option (BA×Bool)
 | [a0,.str sep]=>match B2 (List UInt8) a0 with
  | some (L,g,n)=>some (.str (ER L sep),BT (List UInt8) n g&&Lp L sep)
  | _=>none
 | _=>none
theorem Q4 {S:BC} (hS:Zu prog S):Zu prog (S.with DJ DK):=Ut hS (by kernel_rfl) (Qg fun args v hv H vals w cD hH hG=>by
 unfold DK at hv;split at hv
 .rename_i a0 sep;split at hv
  .rename_i L g n e0;simp only [Ab,Aa,Ad] at hv;obtain ⟨rfl,ht,ho⟩:=hv;unfold Lp at ho;rw [Ad,Au,Au] at ho;obtain ⟨v0,rfl,cB⟩: ∃v0,vals= #[v0,.string ⟨sep.toArray⟩]/\Zb (Km H) (.dat L.length (Zz L)) v0:=by
    obtain ⟨vl⟩:=vals;cases cD with
    | cons h1 h2=>cases h2 with
     | cons h2 h3=>cases h3;cases h2;exact ⟨_,rfl,(Xb e0 ht).sound h1⟩
   have hmap:(L.map fun s=>(⟨s.toArray⟩:ByteArray)).map (·.data.toList)=L:=by rw [List.map_map];exact (List.map_congr_left fun s _=>rfl).trans (List.map_id L)
   have hlenm:(L.map fun s=>(⟨s.toArray⟩:ByteArray)).length =L.length:=List.length_map _;have none: ∀(a:Option Addr) (c:Nat),L.length=0->Calls prog DJ #[.slice a 0 c,.string ⟨sep.toArray⟩] w fun e w'=> ∃u,e=.returned u/\Zb (Km H) (.str (ER L sep)) u/\RowKit.Below w.heap.size w w':=fun a c h0=>by
    obtain rfl:=Bf h0;refine (Any.strings_Join_none Tryz.lays156 Tryz.Builder_Extra_156 a c ⟨sep.toArray⟩ w).mono fun e w' ⟨he,hw⟩=>⟨_,he,?_,?_⟩
    .exact .str _
    .subst hw;exact RowKit.Below.refl _ _
   generalize hn:L.length=m at cB;cases cB with
   | datn=>exact none _ _ hn
   | datz _ a c=>exact none _ _ hn
   | dat _ _ blk base sz cap val cJ hsz hv hh=>
    by_cases h0:L.length=0
    .rw [<-hn,h0];exact none _ _ h0
    have eD: ∀i,(hi:i<L.length)->Zz L i=[.str L[i]]:=fun i hi=>by show Yc.cells (rd L i)=_;rw [Vm hi];rfl
    have hsz1:sz=1:=by have:=hsz 0 (by omega);rw [eD 0 (by omega)] at this;exact this.symm
    subst hsz1;have cQ: ∀i,(hi:i<L.length)->val i 0=.string ⟨L[i].toArray⟩:=fun i hi=>by have:=hv i 0 (by omega) (by rw [eD i hi];exact Nat.one_pos);simp only [eD i hi,List.getElem_cons_zero] at this;generalize val i 0=z at this;cases this;rfl
    have dD: ∀i,(hi:i<L.length)-> ∃cs el fz,w.heap[blk]? =some (.cells cs el fz)/\cs[base+i]? =some (.string ⟨L[i].toArray⟩):=fun i hi=>by obtain ⟨cs,el,fz,e1,e2⟩:=hh i 0 (by omega) Nat.one_pos;rw [cQ i hi,Nat.mul_one,A1] at e2;exact ⟨cs,el,fz,hH _ _ e1,e2⟩
    have hJ:=Any.strings_Join Tryz.lays156 Tryz.Builder_Extra_156 blk base cap (L.map fun s=>(⟨s.toArray⟩:ByteArray)) ⟨sep.toArray⟩ w (fun j x hx=>by
      have hj:j<L.length:=by rw [<-hlenm];exact (AK.1 hx).1
      obtain ⟨cs,el,fz,e1,e2⟩:=dD j hj;rw [Bi,Ao hj] at hx;obtain rfl:=Ac hx;simp [World.cell?,e1,e2])
     (by obtain ⟨cs,el,fz,e1,_⟩:=dD 0 (by omega);exact (As.1 e1).1)
     (by rw [hlenm];omega) (by rw [hlenm];omega) (by rw [hmap];exact AE ho.2 (by omega))
    rw [hmap,hlenm,hn] at hJ;refine hJ.mono fun e w' ⟨he,hw⟩=>⟨_,he,?_,hw⟩
    exact .str _
  .cases hv
 .cases hv)
open Go.Shelf Go.RowKit
def F3 :List BA->Bool
 | [.str _]=>true
 | _=>false
def Lb :List BA->Option (BA×Bool)
 | [.dat n g,.str sep]=>some (.str (ER (B8 (List UInt8) n g) sep),(List.range n).all (fun i=>F3 (g i))&&Lp (B8 (List UInt8) n g) sep)
 | _=>none
theorem Z6 {args:List BA} {v:BA} (h:Lb args=some (v,true)):DK args=some (v,true):=by
 unfold Lb at h;split at h
 .rename_i n g sep;simp only [Ab,Aa,Ad] at h;obtain ⟨rfl,h1,h2⟩:=h;have ht:BT (List UInt8) n g=true:=Ya fun i hi=>by
   have:=Az.1 h1 i (AM.2 hi);unfold F3 at this;split at this
   .rename_i s e;rw [e];rfl
   .cases this
  unfold DK B2;simp only [];rw [ht,h2];rfl
 .cases h
theorem w0q {S:BC} (hS:Zu prog S):Zu prog (S.with DJ Lb):=Ut hS (by kernel_rfl) fun args v hv=>by have:=(Q4 (Zv (P:=prog)) DJ (.val DK) (by kernel_rfl)).2;exact this args v (Z6 hv)
def SK :BC:=((SC.with H1 E0).with Gv EY).with DJ Lb
theorem Qv :Zu prog SK:=w0q (Q3 (Q2 Fd))
def BA.z (n:Int):BA:=.int .i64 n
def zs (l:List Int):List BA:=l.map BA.z
def BA.az (l:List Int):BA:=.agg (zs l)
def bz (l:List Int) (t:TypeId):Option BE:=some ⟨zs l,t,none⟩
def bk (l:List BA) (t:TypeId):Option BE:=some ⟨l,t,none⟩
def T.u :T BA:=.node .undef .leaf .leaf
def T.k (l r:T BA):T BA:=.node .undef l r
def T.kl (r:T BA):T BA:=.node .undef .leaf r
def T.kr (l:T BA):T BA:=.node .undef l .leaf
def T.o (v:BA):T BA:=.node v .leaf .leaf
def T.m (v:Option BE):T (Option BE):=.node v .leaf .leaf
def C3 :BJ:=startC prog 15 [] false []
theorem OT :Ua prog C3 C3:=Ua.refl _
def OY :BJ:=⟨⟨20,0,false⟩,none,(Zk prog 36 [1,0] 1),none,(Zy prog 3),⟨(.node (.sl 1 0 2 (.ex 2)) (.node (.z 1) .leaf (.o (.ptr 3 0))) (.kr (.o (.str [])))),(.node (bz [0,0,0,2,1,1] 79) (.node (bk [(.str [97]),(.z (-1)),(.int .u8 9),(.z 1),(.z 0),(.z 0),(.sl 0 0 1 (.ex 1)),(.str [98]),(.z 0),(.int .u8 0),(.z 2),(.z 0),(.z 0),.nils] 48) (.m (bk [.nils] 70)) .leaf) (.m (bk [(.obj (.mb [([97],true)]))] 121))),4,[],true⟩,[⟨⟨69,0,false⟩,(Xv prog 33 [1,1,1,1,0,1,0,0,1,1,0,0,1,1,0] 2),(Zk prog 33 [1,1,1,1,0,1,0,0,1,1,0,0,1,1,0] 1),none,(Zy prog 9),(.node (.sl 1 0 2 (.ex 2)) (.k (.k (.kl (.kl (.o (.sl 1 0 2 (.ex 2))))) (.kl (.o (.sl 1 0 2 (.ex 2))))) (.kl (.kl (.o (.z 1))))) (.k (.k (.kl (.kl (.o (.z 1)))) (.kl (.o (.z 2)))) (.o (.mapr 2))))⟩,⟨⟨76,0,false⟩,(Xv prog 10 [1,0,0] 1),(Zk prog 10 [1,0,0] 1),none,(Zy prog 10),(.node (.sl 1 0 2 (.ex 2)) .leaf (.kl (.kr (.o (.sl 1 0 2 (.ex 2))))))⟩,⟨⟨61,0,false⟩,(Xv prog 15 [1,0] 1),(Zk prog 15 [1,0] 1),none,(Zy prog 8),(.kl (.kl (.kr (.o (.sl 1 0 2 (.ex 2))))))⟩],.leaf⟩
theorem OS :Ua prog C3 OY:=OT.trans (Wb Ke mixed Qv (n:=4000) (m:=100000) (d:=4) (N:=⟨[0,1,77,100],[],[some [0,1,4,5],some [0,6,27,28,29,55,56],some [0,10],some [10]],[none,none,none,none]⟩) (by kernel_rfl) rfl (by kernel_rfl)).1
def OX :BJ:=⟨⟨26,0,false⟩,(Xv prog 203 [0] 0),(Zk prog 203 [0] 1),none,(Zy prog 3),⟨(.node .nils (.o (.sl 22 0 1 (.un 2))) .leaf),(.node (bz [0,0,0,2,1,1] 79) (.node (bk [(.str [97]),(.z (-1)),(.int .u8 9),(.z 1),(.z 0),(.z 0),(.sl 0 0 1 (.ex 1)),(.str [98]),(.z 0),(.int .u8 0),(.z 2),(.z 0),(.z 0),.nils] 48) (.node (bk [.nilf] 174) (.node (bk [(.sl 2 0 1 (.ex 1))] 194) (.m (bk [(.sl 12 0 1 (.un 4))] 195)) .leaf) (.m (bk [(.sl 12 0 1 (.un 4))] 195))) (.node (bk [(.z 0)] 24) (.node (bz [0,1] 3) (.m (bk [(.sl 18 0 2 (.un 1))] 83)) .leaf) (.node (bk [(.z 0),(.z 1),(.sl 11 0 1 (.ex 1))] 203) (.m (bz [0,1] 260)) .leaf))) (.node (bk [(.sl 0 0 1 (.ex 1))] 45) (.node (bk [.nils] 46) (.node (bk [(.sl 9 0 2 (.un 1))] 83) (.m (bk [(.sl 15 0 1 (.ex 1))] 201)) .leaf) (.node (bz [0,0,2,1] 168) (.m (bk [(.sl 21 0 1 (.un 2))] 233)) .leaf)) (.node (bk [.nils,.nils,(.z 0),(.z 0)] 198) (.node none (.m (bz [0,2] 3)) .leaf) (.node (bk [.nils,.nils,(.z 0),(.z 0)] 235) (.m (bz [0,1] 260)) .leaf)))),23,[],true⟩,[⟨⟨94,0,false⟩,(Xv prog 171 [0,0] 17),(Zk prog 171 [0,0] 1),none,[],(.node (.ptr 14 0) (.node (.z 0) (.node (.sl 22 0 1 (.un 2)) .leaf (.kl (.o (.sl 22 0 1 (.un 2))))) .leaf) (.node (.z 2) .leaf (.k (.kl (.o .nils)) (.kr (.o (.bool true))))))⟩,⟨⟨29,0,false⟩,(Xv prog 167 [1,1,0,1,0,1,0,1] 5),(Zk prog 167 [1,1,0,1,0,1,0,1] 1),(some 19),[],(.k (.k (.kr (.kl (.o (.z 2)))) (.kl (.kr (.o (.z 0))))) (.kr (.node (.ptr 14 0) (.kl (.o (.sl 22 0 1 (.un 2)))) .leaf)))⟩,⟨⟨76,0,false⟩,(Xv prog 225 [1,0,0,1,0,0,1,1,0] 2),(Zk prog 225 [1,0,0,1,0,0,1,1,0] 1),none,[],(.node (.yld 19) (.node (.ptr 17 0) .leaf (.kr (.kl (.kr (.kr (.o (.agg [(.z 0),(.z 2),(.sl 20 0 1 (.ex 1))]))))))) (.node (.ptr 16 0) (.node (.z 1) (.kl (.kr (.kr (.o (.yld 19))))) .leaf) .leaf))⟩,⟨⟨29,0,false⟩,none,(.inRangeFunc 19::(Zk prog 167 [1,1,0,1,0] 1)),none,(Zy prog 10),(.k (.kr (.o (.z 0))) (.node .nils (.o (.ptr 14 0)) .leaf))⟩,⟨⟨13,0,false⟩,(Xv prog 140 [1,1,1,0] 1),(Zk prog 140 [1,1,1,0] 1),none,(Zy prog 10),(.kr (.kl (.kr (.o (.sl 12 0 1 (.un 4))))))⟩,⟨⟨65,0,false⟩,(Xv prog 102 [1,1,0,1,0,1,0,0] 4),(Zk prog 102 [1,1,0,1,0,1,0,0] 1),(some 10),[],(.k (.k (.kr (.o (.ptr 13 0))) (.o (.ptr 5 0))) (.node (.ptr 3 0) (.node (.ptr 4 0) .leaf (.kr (.o (.sl 12 0 1 (.un 4))))) (.o (.ptr 6 0))))⟩,⟨⟨86,0,false⟩,(Xv prog 163 [1,0,0,1,0,0,1,1,0] 2),(Zk prog 163 [1,0,0,1,0,0,1,1,0] 1),none,[],(.node (.yld 10) (.node (.ptr 8 0) (.kl (.kr (.kl (.kr (.o (.agg [(.z 0),(.z 1),(.sl 11 0 1 (.ex 1))])))))) .leaf) (.node (.ptr 7 0) (.o (.z 1)) (.kr (.kr (.kl (.kr (.o (.yld 10))))))))⟩,⟨⟨65,0,false⟩,none,(.inRangeFunc 10::(Zk prog 102 [1,1,0,1,0] 1)),none,(Zy prog 102),(.k (.kl (.o (.ptr 5 0))) (.k (.o (.ptr 4 0)) (.o (.ptr 6 0))))⟩,⟨⟨25,0,false⟩,(Xv prog 61 [1,1,1,0,0] 3),(Zk prog 61 [1,1,1,0,0] 1),none,(Zy prog 9),(.node (.sl 0 0 1 (.ex 1)) (.k (.kl (.o (.agg [.nilf]))) (.kl (.o (.sl 2 0 1 (.ex 1))))) .leaf)⟩,⟨⟨69,0,false⟩,(Xv prog 33 [1,1,0,1,0,0,1,1,0,0,1,0] 2),(Zk prog 33 [1,1,0,1,0,0,1,1,0,0,1,0] 1),none,(Zy prog 9),(.node (.sl 1 0 2 (.ex 2)) (.k (.kr (.kr (.o (.z 0)))) (.kl (.o (.sl 1 0 2 (.ex 2))))) (.k (.kl (.kr (.o (.sl 0 0 1 (.ex 1))))) (.kl (.o (.z 2)))))⟩,⟨⟨19,0,false⟩,(Xv prog 54 [1,0,0] 1),(Zk prog 54 [1,0,0] 1),none,(Zy prog 3),(.node (.sl 1 0 2 (.ex 2)) (.o (.z 1)) (.kl (.o (.sl 1 0 2 (.ex 2)))))⟩,⟨⟨16,0,false⟩,(Xv prog 17 [1,0,0] 2),(Zk prog 17 [1,0,0] 1),none,(Zy prog 17),(.node (.sl 1 0 2 (.ex 2)) (.node (.z 1) (.kr (.o (.sl 1 0 2 (.ex 2)))) .leaf) (.kr (.kr (.o (.z 1)))))⟩,⟨⟨61,0,false⟩,(Xv prog 15 [1,1,0] 1),(Zk prog 15 [1,1,0] 1),none,(Zy prog 8),(.k (.node (.str [110,111,100,101,32,97,32,57,32,49,32,48,32,48,10,98,111,120,32,48,32,48,32,48,32,50,32,49,32,49,10,110,111,100,101,32,97,47,98,32,48,32,50,32,48,32,48,10]) (.kr (.kr (.o (.sl 1 0 2 (.ex 2))))) .leaf) (.o (.z 0)))⟩],(.node none (.node none (.node none .leaf (.node none (.node (some ⟨.busy,none,29,(.k (.k (.k (.k .u .u) (.kr .u)) (.k (.kr .u) (.kr .u))) (.k (.node (.ptr 14 0) (.k .u .u) (.kr .u)) (.k (.kr .u) (.kr .u)))),[11],(Wy prog 167 [1,1,0,1,0,0]),(Wy prog 167 [1,1,0,1,0,1])⟩) .leaf .leaf) .leaf)) .leaf) (.node none .leaf (.node none (.node (some ⟨.busy,none,65,(.k (.k (.k (.k (.k .u .u) (.k .u .u)) (.k (.k .u .u) (.kr .u))) (.node (.ptr 5 0) (.k (.k .u .u) (.k .u .u)) (.k (.k .u .u) (.kr .u)))) (.node (.ptr 3 0) (.node (.ptr 4 0) (.k (.k .u .u) (.k .u .u)) (.k (.k .u .u) (.kr .u))) (.node (.ptr 6 0) (.k (.k .u .u) (.kr .u)) (.k (.k .u .u) (.kr .u))))),[15],(Wy prog 102 [1,1,0,1,0,0]),(Wy prog 102 [1,1,0,1,0,1])⟩) .leaf .leaf) .leaf)))⟩
theorem OR :Ua prog C3 OX:=OS.trans (Wb Ke mixed Qv (n:=4000) (m:=100000) (d:=4) (N:=⟨[97,98,104,105,106,107,108,109,110,113,114,116,119,120,123,124,125,126,129,130,132,135,158],[],[some [0,1],some [0,1,2,3,22,26,27],some [4,21,23,24],some [0,1,2,4,72,73],some [2,3,4],some [9],some [2,4,5,6,7,20],some [0,1,2,4,82,83],some [4,5,6],some [0,11,13],some [0,13,14,15,20],some [0,1,6],some [0,1,7,8],some [1,2,15]],[none,none,none,none,none,none,none,none,none,none,some [2,4,5,6,7,8,9,11,12,15,16,17,18,19,20,21,22,23,24,25,26,27,28,29,30,31,32,33,34,35,36,37,38,39,40,41,42,43,44,45,46,47,48,49,50,51,52,53,54,55,56,57],none,none,none,none,none,none,none,none,some [4,5,6,11,12,13,14,15,16,17,18,19,20,21,22,23,24],none,none,none]⟩) (by kernel_rfl) rfl (by kernel_rfl)).1
def OW :BJ:=⟨⟨35,0,false⟩,(Xv prog 166 [1,0] 7),(Zk prog 166 [1,0] 1),none,(Zy prog 9),⟨(.k (.node (.ptr 15 0) .leaf (.kr (.o (.ptr 15 1)))) (.kr (.kr (.o (.bool true))))),(.node (bz [0,0,0,2,1,1] 79) (.node (bk [(.str [97]),(.z (-1)),(.int .u8 9),(.z 1),(.z 0),(.z 0),(.sl 0 0 1 (.ex 1)),(.str [98]),(.z 0),(.int .u8 0),(.z 2),(.z 0),(.z 0),.nils] 48) (.node (bk [(.sl 0 0 1 (.ex 1))] 45) (.node (bk [.nils,.nils,(.z 0),(.z 0)] 198) (.m (bz [0,0,2,1] 168)) .leaf) .leaf) (.node (bk [.nils] 46) (.m (bk [(.sl 10 0 2 (.un 1))] 83)) (.m (bz [0,0,2,1] 168)))) (.node (bk [(.int .u8 0),(.z 0),(.z 0),(.z 0)] 42) (.node (bk [.nilf] 174) (.m (bk [(.sl 3 0 1 (.ex 1))] 194)) (.m (bk [(.sl 13 0 1 (.un 4))] 195))) (.node (bk [(.z 0)] 24) (.m (bz [0,1] 3)) (.m (bk [(.z 0),(.z 1),(.sl 12 0 1 (.ex 1))] 203))))),16,[],true⟩,[⟨⟨6,0,false⟩,(Xv prog 165 [1,0] 1),(Zk prog 165 [1,0] 1),none,(Zy prog 9),(.kr (.kr (.o (.az [0,0,2,1]))))⟩,⟨⟨19,0,false⟩,(Xv prog 197 [1,0,1,0,0,1,1,0,0,1,0] 5),(Zk prog 197 [1,0,1,0,0,1,1,0,0,1,0] 1),none,(Zy prog 3),(.node (.sl 13 0 1 (.un 4)) (.node (.fn 165 []) (.k (.node (.z 1) (.o (.az [0,0,2,1])) .leaf) (.o (.fn 165 []))) (.o (.z 0))) (.kr (.kr (.o (.z 0)))))⟩,⟨⟨9,0,false⟩,(Xv prog 164 [1,0] 2),(Zk prog 164 [1,0] 1),none,(Zy prog 3),(.k (.kl (.o (.sl 13 0 1 (.un 4)))) (.kl (.o (.fn 165 []))))⟩,⟨⟨13,0,false⟩,(Xv prog 140 [1,1,0,0] 1),(Zk prog 140 [1,1,0,0] 1),none,(Zy prog 10),(.node (.sl 13 0 1 (.un 4)) (.kr (.kr (.o (.sl 13 0 1 (.un 4))))) .leaf)⟩,⟨⟨65,0,false⟩,(Xv prog 102 [1,1,0,1,0,1,0,0] 4),(Zk prog 102 [1,1,0,1,0,1,0,0] 1),(some 11),[],(.k (.k (.kr (.o (.ptr 14 0))) (.o (.ptr 6 0))) (.node (.ptr 4 0) (.node (.ptr 5 0) .leaf (.kr (.o (.sl 13 0 1 (.un 4))))) (.o (.ptr 7 0))))⟩,⟨⟨86,0,false⟩,(Xv prog 163 [1,0,0,1,0,0,1,1,0] 2),(Zk prog 163 [1,0,0,1,0,0,1,1,0] 1),none,[],(.node (.yld 11) (.node (.ptr 9 0) (.kl (.kr (.kl (.kr (.o (.agg [(.z 0),(.z 1),(.sl 12 0 1 (.ex 1))])))))) .leaf) (.node (.ptr 8 0) (.o (.z 1)) (.kr (.kr (.kl (.kr (.o (.yld 11))))))))⟩,⟨⟨65,0,false⟩,none,(.inRangeFunc 11::(Zk prog 102 [1,1,0,1,0] 1)),none,(Zy prog 102),(.k (.kl (.o (.ptr 6 0))) (.k (.o (.ptr 5 0)) (.o (.ptr 7 0))))⟩,⟨⟨25,0,false⟩,(Xv prog 61 [1,1,1,0,0] 3),(Zk prog 61 [1,1,1,0,0] 1),none,(Zy prog 9),(.node (.sl 0 0 1 (.ex 1)) (.k (.kl (.o (.agg [.nilf]))) (.kl (.o (.sl 3 0 1 (.ex 1))))) .leaf)⟩,⟨⟨69,0,false⟩,(Xv prog 33 [1,1,0,1,0,0,1,1,0,0,1,0] 2),(Zk prog 33 [1,1,0,1,0,0,1,1,0,0,1,0] 1),none,(Zy prog 9),(.node (.sl 1 0 2 (.ex 2)) (.k (.kr (.kr (.o (.z 0)))) (.kl (.o (.sl 1 0 2 (.ex 2))))) (.k (.kl (.kr (.o (.sl 0 0 1 (.ex 1))))) (.kl (.o (.z 2)))))⟩,⟨⟨19,0,false⟩,(Xv prog 54 [1,0,0] 1),(Zk prog 54 [1,0,0] 1),none,(Zy prog 3),(.node (.sl 1 0 2 (.ex 2)) (.o (.z 1)) (.kl (.o (.sl 1 0 2 (.ex 2)))))⟩,⟨⟨19,0,false⟩,(Xv prog 19 [1,0,0] 2),(Zk prog 19 [1,0,0] 1),none,(Zy prog 19),(.node (.sl 1 0 2 (.ex 2)) (.node (.z 1) (.kr (.o (.sl 1 0 2 (.ex 2)))) .leaf) (.kr (.node (.ptr 2 0) (.o (.z 1)) .leaf)))⟩,⟨⟨61,0,false⟩,(Xv prog 15 [1,1,1,0] 1),(Zk prog 15 [1,1,1,0] 1),none,(Zy prog 8),(.k (.node (.str [110,111,100,101,32,97,32,57,32,49,32,48,32,48,10,98,111,120,32,48,32,48,32,48,32,50,32,49,32,49,10,110,111,100,101,32,97,47,98,32,48,32,50,32,48,32,48,10]) (.o (.str [97,47,98])) .leaf) (.node (.z 0) (.node (.z 0) .leaf (.kr (.o (.sl 1 0 2 (.ex 2))))) .leaf))⟩],(.node none (.node none (.node none .leaf (.node (some ⟨.busy,none,65,(.k (.k (.k (.k (.k .u .u) (.k .u .u)) (.k (.k .u .u) (.kr .u))) (.node (.ptr 6 0) (.k (.k .u .u) (.k .u .u)) (.k (.k .u .u) (.kr .u)))) (.node (.ptr 4 0) (.node (.ptr 5 0) (.k (.k .u .u) (.k .u .u)) (.k (.k .u .u) (.kr .u))) (.node (.ptr 7 0) (.k (.k .u .u) (.kr .u)) (.k (.k .u .u) (.kr .u))))),[15],(Wy prog 102 [1,1,0,1,0,0]),(Wy prog 102 [1,1,0,1,0,1])⟩) .leaf .leaf)) .leaf) .leaf)⟩
theorem OQ :Ua prog C3 OW:=OR.trans (Wb Ke mixed Qv (n:=4000) (m:=100000) (d:=4) (N:=⟨[92,93,94,100,101,102,103,104,105,106,109,110,112,115,116,118],[],[some [1,8,9],some [3],some [0,1,5,7,8,11,15],some [5,6],some [0,7],some [2,4,5,6,7,20],some [0,1,2,4,82,83],some [4,5,6],some [0,11,13],some [0,13,14,15,20],some [0,1,6],some [0,1,4,7,8],some [1,2,3,4,20]],[none,none,none,none,none,none,none,none,none,none,none,some [2,4,5,6,7,8,9,11,12,15,16,17,18,19,20,21,22,23,24,25,26,27,28,29,30,31,32,33,34,35,36,37,38,39,40,41,42,43,44,45,46,47,48,49,50,51,52,53,54,55,56,57],none,none,none,none]⟩) (by kernel_rfl) rfl (by kernel_rfl)).1
def OV :BJ:=⟨⟨44,0,false⟩,none,(Zk prog 67 [1,1,0] 1),none,(Zy prog 9),⟨.leaf,(.node (bz [0,0,0,2,1,1] 79) (.node (bk [(.str [97]),(.z (-1)),(.int .u8 9),(.z 1),(.z 0),(.z 0),(.sl 0 0 1 (.ex 1)),(.str [98]),(.z 0),(.int .u8 0),(.z 2),(.z 0),(.z 0),.nils] 48) (.m (bk [(.obj (.mb [([97],true)]))] 121)) .leaf) (.node (bk [(.int .u8 0),(.z 0),(.z 0),(.z 0)] 42) (.m (bk [(.z 0)] 24)) (.m (bk [(.str []),(.z 0)] 144)))),7,[],true⟩,[⟨⟨82,0,false⟩,(Xv prog 84 [1,1,0,0] 1),(Zk prog 84 [1,1,0,0] 1),none,(Zy prog 84),(.k (.kl (.o (.str []))) (.node (.ptr 6 0) (.o (.str [98])) (.node (.bool false) (.kr (.o (.str [98]))) .leaf)))⟩,⟨⟨24,0,false⟩,(Xv prog 45 [1,1,0,1,0,1,0,0] 1),(Zk prog 45 [1,1,0,1,0,1,0,0] 1),(some 5),[],(.kl (.node (.ptr 4 0) .leaf (.kr (.kr (.o (.str [98]))))))⟩,⟨⟨20,0,false⟩,(Xv prog 121 [1,0,0,1,0,1,1,0] 2),(Zk prog 121 [1,0,0,1,0,1,1,0] 1),none,[],(.node (.yld 5) (.k (.o (.str [])) (.kr (.kr (.o (.str [98]))))) (.kr (.node (.bool false) (.kr (.o (.yld 5))) .leaf)))⟩,⟨⟨24,0,false⟩,none,(.inRangeFunc 5::(Zk prog 45 [1,1,0,1,0] 1)),none,(Zy prog 45),(.kl (.o (.ptr 4 0)))⟩,⟨⟨69,0,false⟩,(Xv prog 33 [1,1,1,1,0,1,0,0,1,1,0,0,1,1,1,0,0] 5),(Zk prog 33 [1,1,1,1,0,1,0,0,1,1,0,0,1,1,1,0,0] 1),none,(Zy prog 9),(.node (.sl 1 0 2 (.ex 2)) (.k (.kl (.kl (.o (.sl 1 0 2 (.ex 2))))) (.k (.o (.str [97,47,98])) (.kl (.node (.z 1) .leaf (.o (.bool false)))))) (.k (.kl (.kl (.o (.z 2)))) (.node (.mapr 3) .leaf (.kl (.kl (.o (.str [97,47,98])))))))⟩,⟨⟨19,0,false⟩,(Xv prog 54 [1,0,0] 1),(Zk prog 54 [1,0,0] 1),none,(Zy prog 3),(.node (.sl 1 0 2 (.ex 2)) (.o (.z 1)) (.kl (.o (.sl 1 0 2 (.ex 2)))))⟩,⟨⟨19,0,false⟩,(Xv prog 19 [1,0,0] 2),(Zk prog 19 [1,0,0] 1),none,(Zy prog 19),(.node (.sl 1 0 2 (.ex 2)) (.node (.z 1) (.kr (.o (.sl 1 0 2 (.ex 2)))) .leaf) (.kr (.node (.ptr 2 0) (.o (.z 1)) .leaf)))⟩,⟨⟨61,0,false⟩,(Xv prog 15 [1,1,1,0] 1),(Zk prog 15 [1,1,1,0] 1),none,(Zy prog 8),(.k (.node (.str [110,111,100,101,32,97,32,57,32,49,32,48,32,48,10,98,111,120,32,48,32,48,32,48,32,50,32,49,32,49,10,110,111,100,101,32,97,47,98,32,48,32,50,32,48,32,48,10]) (.o (.str [97,47,98])) .leaf) (.node (.z 0) (.node (.z 0) .leaf (.kr (.o (.sl 1 0 2 (.ex 2))))) .leaf))⟩],(.node none (.node none .leaf (.node (some ⟨.busy,none,24,(.k (.k (.k (.kl .u) (.kr .u)) (.k (.kr .u) (.kr .u))) (.node (.ptr 4 0) (.k (.kr .u) (.kr .u)) (.k (.kr .u) (.kr .u)))),[16],(Wy prog 45 [1,1,0,1,0,0]),(Wy prog 45 [1,1,0,1,0,1])⟩) .leaf .leaf)) .leaf)⟩
theorem OP :Ua prog C3 OV:=OQ.trans (Wb Ke mixed Qv (n:=4000) (m:=100000) (d:=4) (N:=⟨[0,1,2,67,100,102,107],[],[some [],some [2,4,5,6,18],some [2,18],some [0,3,4,16,17],some [2],some [0,6,9,27,28,29,61,62],some [0,1,6],some [0,1,4,7,8],some [1,2,3,4,20]],[none,none,none,none,none,some [2,3,4,5,16,17,18,19,20,21,22,23],none]⟩) (by kernel_rfl) rfl (by kernel_rfl)).1
def OU :BJ:=⟨⟨61,0,false⟩,(Xv prog 15 [1,1,1,1,1,0] 32),(Zk prog 15 [1,1,1,1,1,0] 1),none,(Zy prog 8),⟨(.k (.kr (.kl (.kl (.kl (.o (.bool true)))))) (.kr (.kr (.kl (.kl (.o (.bool true))))))),.leaf,0,[],true⟩,[],.leaf⟩
theorem OO :Ua prog C3 OU:=OP.trans (Wb Ke mixed Qv (n:=8777) (m:=100000) (d:=4) (N:=⟨[],[],[some [56,59]],[]⟩) (by kernel_rfl) rfl (by kernel_rfl)).1
def J1 :BJ:=⟨⟨61,0,false⟩,none,(Zk prog 3 [1,1,1,1,1,1,0] 1),none,(Zy prog 8),⟨(.o (.bool true)),.leaf,0,[],true⟩,[],.leaf⟩
theorem ON :Ua prog C3 J1:=OO.trans (Wb Ke mixed Qv (n:=3) (m:=100000) (d:=4) (N:=⟨[],[],[some [0]],[]⟩) (by kernel_rfl) rfl (by kernel_rfl)).1
abbrev H6 :Nat:=15
abbrev JM :Nat:=34
abbrev JW :Nat:=H6
def HV :List BA->Option (BA×Bool)
 | []=>some (.bool true,true)
 | _=>none
theorem ZN {S:BC} (hS:Zu prog S):Zu prog (S.with JW HV):=Ut hS (by kernel_rfl) fun args v hv H vals w cD hH hG=>by
 unfold HV at hv;split at hv
 .simp only [Ab,Aa,and_true] at hv;subst hv;exact (goes_call (H:=H) (by kernel_rfl) ON (by kernel_rfl) (show aResults prog J1.st (startC prog 15 [] false []).rs =some [.bool true] by kernel_rfl) cD hH hG).mono fun e w' ⟨ρ,u,he,ho⟩=>⟨ρ.fz,u,ho.le,ho.old,ho.same,he,Wd 4 _ u rfl ho.val,ho.below⟩
 .cases hv
inductive Dx where
def G3 (aQ:Int) (aR:Int) (aS:Int) (aP:Int):Dx->BJ
 :=nofun
def M5 (aQ:Int) (aR:Int) (aS:Int) (aP:Int):Dx->Wn Dx
 :=nofun
def KJ (aQ:Int) (aR:Int) (aS:Int) (aP:Int):Wn Dx:=(bif (decide (aQ<aS)) then (bif (decide (aR<aP)) then (bif (decide (aQ>=(-1000000))) then (bif (decide (aQ<=1000000)) then (bif (decide (aS>=(-1000000))) then (bif (decide (aS<=1000000)) then (bif (decide (aR>=(-1000000))) then (bif (decide (aR<=1000000)) then (bif (decide (aP>=(-1000000))) then (.ret [(.bool (decide (aP<=1000000)))]) else (.ret [(.bool false)])) else (.ret [(.bool false)])) else (.ret [(.bool false)])) else (.ret [(.bool false)])) else (.ret [(.bool false)])) else (.ret [(.bool false)])) else (.ret [(.bool false)])) else (.ret [(.bool false)])) else (.ret [(.bool false)]))
theorem Y9 (aQ:Int) (aR:Int) (aS:Int) (aP:Int): ∀s,Wi prog (Zy prog 166) (G3 aQ aR aS aP) (G3 aQ aR aS aP s) (M5 aQ aR aS aP s)
 :=nofun
theorem Ts (aQ:Int) (aR:Int) (aS:Int) (aP:Int):Wi prog (Zy prog 166) (G3 aQ aR aS aP) (startC prog 166 [(.agg [(.int .i64 aQ),(.int .i64 aR),(.int .i64 aS),(.int .i64 aP)])] true []) (KJ aQ aR aS aP):=(lb (fun k0=>(lb (fun k1=>let c:=tt k1 (tt k0 nn);(lb (fun k2=>(lb (fun k3=>let a:=tt k3 (tt k2 c);(lb (fun k4=>(lb (fun k5=>let d:=tt k5 (tt k4 a);(lb (fun k6=>let b:=tt k6 d;(lb (fun k7=>(lb (fun k8=>(lr 35 3 [1,1,1,1,1,1,0] 1 9 [(2,(.bool (decide (aP<=1000000))))] (sl Va 101 [] (a7 [2]) a6 (BQ 25 []) (tt k8 (tt k7 b))))) (fun k8=>(lr 35 3 [1,1,1,1,1,1,0] 1 9 [(2,(.bool false))] (sl Va 101 [] (a7 [2]) a6 (BQ 23 (bl 2 0)) (tt k8 (tt k7 b))))))) (fun k7=>(lr 35 3 [1,1,1,1,1,1,0] 1 9 [(2,(.bool false))] (sl Va 86 [] (a7 [2]) a6 (BQ 20 (bl 3 0)) (tt k7 b)))))) (fun k6=>(lr 35 3 [1,1,1,1,1,1,0] 1 9 [(2,(.bool false))] (sl Va 86 [] (a7 [2]) a6 (BQ 18 (bl 5 0)) (tt k6 d)))))) (fun k5=>(lr 35 3 [1,1,1,1,1,1,0] 1 9 [(2,(.bool false))] (sl Va 71 [] (a7 [2]) a6 (BQ 15 (bl 6 0)) (tt k5 (tt k4 a))))))) (fun k4=>(lr 35 3 [1,1,1,1,1,1,0] 1 9 [(2,(.bool false))] (sl Va 71 [] (a7 [2]) a6 (BQ 13 (bl 8 0)) (tt k4 a)))))) (fun k3=>(lr 35 3 [1,1,1,1,1,1,0] 1 9 [(2,(.bool false))] (sl Va 56 [] (a7 [2]) a6 (BQ 10 (bl 9 0)) (tt k3 (tt k2 c))))))) (fun k2=>(lr 35 3 [1,1,1,1,1,1,0] 1 9 [(2,(.bool false))] (sl Va 56 [] (a7 [2]) a6 (BQ 8 (bl 11 0)) (tt k2 c)))))) (fun k1=>(lr 35 3 [1,1,1,1,1,1,0] 1 9 [(2,(.bool false))] (sl Va 41 [] (a7 [2]) a6 (BQ 5 (bl 12 0)) (tt k1 (tt k0 nn))))))) (fun k0=>(lr 35 3 [1,1,1,1,1,1,0] 1 9 [(2,(.bool false))] (sl Va 41 [] (a7 [2]) a6 (bl 17 0) (tt k0 nn)))))
theorem VZ (aQ:Int) (aR:Int) (aS:Int) (aP:Int) (n:Nat) (vs:List BA) (h:Yr (M5 aQ aR aS aP) n (KJ aQ aR aS aP)=.ret vs):BV prog (Zy prog 166) (startC prog 166 [(.agg [(.int .i64 aQ),(.int .i64 aR),(.int .i64 aS),(.int .i64 aP)])] true []) vs:=by have:=Yy (Y9 aQ aR aS aP) n _ (Ts aQ aR aS aP);rwa [h] at this
inductive EM where
 | h0 (v16:Int) (aC:List Int)
 | h1 (v4:Int) (aI:List R4) (bA:List R2) (bE:Int) (bF:Int) (aG:Nat) (aK:List Int)
 | h2 (v4:Int) (v38:Int) (aI:List R4) (bA:List R2) (bE:Int) (bF:Int) (aG:Nat) (aK:List Int) (aA:Int) (bK:Int) (aE:List R2)
 | h3 (v1:Int) (v2:Int) (v71:List R2) (v72:Int) (v73:Int) (aY:List R2) (aO:Int) (aB:List R4) (aT:List R2) (aU:Int) (aG:Nat) (aK:List Int) (aA:List R2)
 | h4 (v2:Int) (v8:Int) (bQ:Int) (aY:List R2) (aO:Int) (aB:List R4) (aT:List R2) (aU:Int) (bN:Int) (bI:Nat) (bO:List Int) (aE:List R2)
def Gr (l0:List R4):EM->BJ
 | .h0 v16 aC=>⟨⟨34,0,true⟩,none,(Zk prog 199 [1,1,0,1,0,0,1,1,0,0,1,1,0,0] 0),none,(Zy prog 9),⟨Xd [(1,(.ptr 0 0)),(3,(.ptr 2 0)),(8,(.sl 1 0 1 (.un 1))),(9,(ii 1)),(10,(ii 0)),(14,(.dat l0.length (Zz l0))),(15,(ii (l0.length:Int))),(16,(ii v16))],Kf [⟨[(.sl 1 0 1 (.un 1))],201,none⟩,⟨[(.dat l0.length (Zz l0))],195,none⟩,⟨[(.sla 4 1 0 aC.length (.un 1))],83,none⟩,⟨[.nils,.nils,(ii 0),(ii 0)],235,none⟩,⟨rows aC.length (Zz aC),3,some ⟨1,aC.length,(Zz aC)⟩⟩] 0,5,[],true⟩,[⟨⟨29,0,true⟩,(Xv prog 167 [1,1,0,0] 2),(Zk prog 167 [1,1,0,0] 1),none,(Zy prog 10),Xd [(2,.nils),(3,(ii 0)),(4,(.ptr 3 0)),(9,(.sl 1 0 1 (.un 1)))]⟩],.leaf⟩
 | .h1 v4 aI bA bE bF aG aK=>⟨⟨76,0,true⟩,none,(Zk prog 225 [1,0,0] 0),none,[],⟨Xd [(0,(.yld 0)),(1,(.ptr 2 0)),(2,(.ptr 4 0)),(4,(ii v4))],DT [(1,⟨[(.sla 6 4 0 aI.length (.un 4)),(.dat bA.length (Zz bA)),(ii bE),(ii bF)],235,none⟩),(2,⟨[(.sla 3 1 0 aG (.un 1))],83,none⟩),(3,⟨rows aK.length (Zz aK),3,some ⟨1,aK.length,(Zz aK)⟩⟩),(4,⟨[(.sl 5 0 1 (.un 1))],201,none⟩),(5,⟨[(.dat l0.length (Zz l0))],195,none⟩),(6,⟨rows aI.length (Zz aI),168,some ⟨4,aI.length,(Zz aI)⟩⟩)],7,[],true⟩,[⟨⟨29,0,true⟩,none,(.inRangeFunc 0::(Zk prog 167 [1,1,0,1,0] 1)),none,(Zy prog 10),Xd [(2,.nils),(3,(ii 0)),(4,(.ptr 1 0))]⟩],(DR [(0,⟨.ready,none,29,Xd [(4,(.ptr 1 0))],[11],(Wy prog 167 [1,1,0,1,0,0]),(Wy prog 167 [1,1,0,1,0,1])⟩)])⟩
 | .h2 v4 v38 aI bA bE bF aG aK aA bK aE=>⟨⟨76,0,true⟩,none,(Zk prog 225 [1,0,0,1,0,0,1,0,1,0,0,1,1,0,0,1,1,0,0] 0),none,[],⟨Xd [(0,(.yld 0)),(1,(.ptr 2 0)),(2,(.ptr 4 0)),(4,(ii v4)),(5,(.ptr 6 0)),(6,(ii 0)),(29,(.sl 5 0 1 (.un 1))),(30,(ii 1)),(31,(ii 0)),(36,(.dat l0.length (Zz l0))),(37,(ii (l0.length:Int))),(38,(ii v38))],DT [(1,⟨[(.sla 9 4 0 aI.length (.un 4)),(.dat bA.length (Zz bA)),(ii bE),(ii bF)],235,none⟩),(2,⟨[(.sla 3 1 0 aG (.un 1))],83,none⟩),(3,⟨rows aK.length (Zz aK),3,some ⟨1,aK.length,(Zz aK)⟩⟩),(4,⟨[(.sl 5 0 1 (.un 1))],201,none⟩),(5,⟨[(.dat l0.length (Zz l0))],195,none⟩),(6,⟨[(ii aA),(ii bK),(.sl 7 0 1 (.ex 1))],240,none⟩),(7,⟨[(.sla 8 2 0 aE.length (.un 2))],233,none⟩),(8,⟨rows aE.length (Zz aE),260,some ⟨2,aE.length,(Zz aE)⟩⟩),(9,⟨rows aI.length (Zz aI),168,some ⟨4,aI.length,(Zz aI)⟩⟩)],10,[],true⟩,[⟨⟨29,0,true⟩,none,(.inRangeFunc 0::(Zk prog 167 [1,1,0,1,0] 1)),none,(Zy prog 10),Xd [(2,.nils),(3,(ii 0)),(4,(.ptr 1 0))]⟩],(DR [(0,⟨.ready,none,29,Xd [(4,(.ptr 1 0))],[11],(Wy prog 167 [1,1,0,1,0,0]),(Wy prog 167 [1,1,0,1,0,1])⟩)])⟩
 | .h3 v1 v2 v71 v72 v73 aY aO aB aT aU aG aK aA=>⟨⟨94,0,true⟩,none,(Zk prog 171 [1,1,1,0,0] 0),none,[],⟨Xd [(0,(.ptr 0 0)),(1,(ii v1)),(2,(ii v2)),(71,(.dat v71.length (Zz v71))),(72,(ii v72)),(73,(ii v73))],DT [(0,⟨[(.sla 7 4 0 aB.length (.un 4)),(.dat aT.length (Zz aT)),(ii aU),(ii v2)],235,none⟩),(2,⟨[(.sla 3 1 0 aG (.un 1))],83,none⟩),(3,⟨rows aK.length (Zz aK),3,some ⟨1,aK.length,(Zz aK)⟩⟩),(4,⟨[(.sl 5 0 1 (.un 1))],201,none⟩),(5,⟨[(.dat l0.length (Zz l0))],195,none⟩),(6,⟨[(.dat aA.length (Zz aA))],233,none⟩),(7,⟨rows aB.length (Zz aB),168,some ⟨4,aB.length,(Zz aB)⟩⟩)],8,[],true⟩,[⟨⟨29,0,true⟩,(Xv prog 167 [1,1,0,1,0,1,0,1] 5),(Zk prog 167 [1,1,0,1,0,1,0,1] 1),(some 1),[],Xd [(4,(.ptr 0 0)),(21,(ii v1)),(23,(ii v2)),(24,(.dat aY.length (Zz aY)))]⟩,⟨⟨76,0,true⟩,(Xv prog 225 [1,0,0,1,0,0,1,1,0] 2),(Zk prog 225 [1,0,0,1,0,0,1,1,0] 1),none,[],Xd [(0,(.yld 1)),(1,(.ptr 2 0)),(2,(.ptr 4 0)),(4,(ii aO)),(72,(.yld 1)),(73,(.agg [(ii v1),(ii v2),(.sl 6 0 1 (.ex 1))]))]⟩,⟨⟨29,0,true⟩,none,(.inRangeFunc 1::(Zk prog 167 [1,1,0,1,0] 1)),none,(Zy prog 10),Xd [(2,.nils),(3,(ii 0)),(4,(.ptr 0 0))]⟩],(DR [(1,⟨.busy,none,29,Xd [(4,(.ptr 0 0))],[11],(Wy prog 167 [1,1,0,1,0,0]),(Wy prog 167 [1,1,0,1,0,1])⟩)])⟩
 | .h4 v2 v8 bQ aY aO aB aT aU bN bI bO aE=>⟨⟨94,0,true⟩,none,(Zk prog 171 [0,1,0,0,1,0,0] 0),none,[],⟨Xd [(0,(.ptr 0 0)),(2,(ii v2)),(8,(ii v8))],DT [(0,⟨[(.sla 1 4 0 aB.length (.un 4)),(.dat aT.length (Zz aT)),(ii aU),(ii bN)],235,none⟩),(1,⟨rows aB.length (Zz aB),168,some ⟨4,aB.length,(Zz aB)⟩⟩),(3,⟨[(.sla 4 1 0 bI (.un 1))],83,none⟩),(4,⟨rows bO.length (Zz bO),3,some ⟨1,bO.length,(Zz bO)⟩⟩),(5,⟨[(.sl 6 0 1 (.un 1))],201,none⟩),(6,⟨[(.dat l0.length (Zz l0))],195,none⟩),(7,⟨[(.dat aE.length (Zz aE))],233,none⟩)],8,[],true⟩,[⟨⟨29,0,true⟩,(Xv prog 167 [1,1,0,1,0,1,0,1] 5),(Zk prog 167 [1,1,0,1,0,1,0,1] 1),(some 2),[],Xd [(4,(.ptr 0 0)),(21,(ii bQ)),(23,(ii v2)),(24,(.dat aY.length (Zz aY)))]⟩,⟨⟨76,0,true⟩,(Xv prog 225 [1,0,0,1,0,0,1,1,0] 2),(Zk prog 225 [1,0,0,1,0,0,1,1,0] 1),none,[],Xd [(0,(.yld 2)),(1,(.ptr 3 0)),(2,(.ptr 5 0)),(4,(ii aO)),(72,(.yld 2)),(73,(.agg [(ii bQ),(ii v2),(.sl 7 0 1 (.ex 1))]))]⟩,⟨⟨29,0,true⟩,none,(.inRangeFunc 2::(Zk prog 167 [1,1,0,1,0] 1)),none,(Zy prog 10),Xd [(2,.nils),(3,(ii 0)),(4,(.ptr 0 0))]⟩],(DR [(2,⟨.busy,none,29,Xd [(4,(.ptr 0 0))],[11],(Wy prog 167 [1,1,0,1,0,0]),(Wy prog 167 [1,1,0,1,0,1])⟩)])⟩
def FY :List (Option (List Nat)):=[some [1,3,8,9,10,14,15,16],some [2,3,4,9]]
def F0 :List (Option (List Nat)):=[]
def NU :List (Option (List Nat)):=[some [0,1,2,4],some [2,3,4]]
def NT :List (Option (List Nat)):=[some [4],none,none,none,none,none,none]
def LK :List (Option (List Nat)):=[some [0,1,2,4,5,6,29,30,31,36,37,38],some [2,3,4]]
def Le :List (Option (List Nat)):=[some [4],none,none,none,none,none,none,none,none,none]
def LL :List (Option (List Nat)):=[some [0,1,2,71,72,73],some [4,21,23,24],some [0,1,2,4,72,73],some [2,3,4]]
def LJ :List (Option (List Nat)):=[none,some [4],none,none,none,none,none,none]
def FX :List (Option (List Nat)):=[some [0,2,8],some [4,21,23,24],some [0,1,2,4,72,73],some [2,3,4]]
def FZ :List (Option (List Nat)):=[none,none,some [4],none,none,none,none,none]
def Xz (l0:List R4):EM->Wn EM
 | .h0 v16 aC=>(bif (decide (v16<(l0.length:Int))) then (bif ((decide (0<=v16/\v16<(l0.length:Int)))&&true) then (bif (Nat.beq 1 1&&((decide (0+aC.length=aC.length))&&decide ((aC.length+2+1)*(8+1)<=Kx))) then (.to (.h0 (wrap .i64 (v16+1)) (aC++[(rd l0 v16.toNat).a,(rd l0 v16.toNat).c]))) else .stuck) else .stuck) else (bif (decide (aC.length<4611686018427387904)) then (bif (decide (aC.length=aC.length)) then (.to (.h1 1 ([]:List R4) ([]:List R2) 0 0 (D5 (Yx aC.length (BU (Zz (Vc (Yx aC.length (BU (Zz aC)))))))) (Uj (Yx aC.length (BU (Zz (Vc (Yx aC.length (BU (Zz aC)))))))))) else .stuck) else .stuck))
 | .h1 v4 aI bA bE bF aG aK=>(bif (decide (v4<((aG:Nat):Int))) then (bif ((decide (0<=(wrap .i64 (v4 - 1))/\(wrap .i64 (v4 - 1))<((aG:Nat):Int)))&&true) then (bif (decide ((0+(Int.toNat (wrap .i64 (v4 - 1))))<aK.length)) then (bif ((decide (0<=v4/\v4<((aG:Nat):Int)))&&true) then (bif (decide ((0+v4.toNat)<aK.length)) then (.to (.h2 v4 0 aI bA bE bF aG aK (rd aK (0+(Int.toNat (wrap .i64 (v4 - 1))))) (rd aK (0+v4.toNat)) ([]:List R2))) else .stuck) else .stuck) else .stuck) else .stuck) else (bif (decide ((aI.length:Int)>400)) then (.ret [.nils,(.int .i64 4)]) else (.ret [(.dat aI.length (Zz aI)),(.int .i64 0)])))
 | .h2 v4 v38 aI bA bE bF aG aK aA bK aE=>(bif (decide (v38<(l0.length:Int))) then (bif ((decide (0<=v38/\v38<(l0.length:Int)))&&true) then (bif (decide ((rd l0 v38.toNat).a <=aA)) then (bif (decide (aA<(rd l0 v38.toNat).c)) then (bif (Nat.beq 2 2&&((decide (0+aE.length=aE.length))&&decide ((aE.length+1+1)*(16+1)<=Kx))) then (.to (.h2 v4 (wrap .i64 (v38+1)) aI bA bE bF aG aK aA bK (aE++[(R2.mk (rd l0 v38.toNat).b (rd l0 v38.toNat).d)]))) else .stuck) else (.to (.h2 v4 (wrap .i64 (v38+1)) aI bA bE bF aG aK aA bK aE))) else (.to (.h2 v4 (wrap .i64 (v38+1)) aI bA bE bF aG aK aA bK aE))) else .stuck) else (bif (Lv (BB aE)) then (bif (decide ((((Xe (BB aE)).length :Nat):Int)>0)) then (bif (bF == aA) then (bif (Vx (BB bA) (BB (Xe (BB aE)))) then (bif (Jz (BB bA) (BB (Xe (BB aE)))) then (.to (.h4 bK bE aA (Xe (BB aE)) v4 aI bA bE bF aG aK aE)) else (.to (.h3 aA bK (Xe (BB aE)) (((Xe (BB aE)).length :Nat):Int) 0 (Xe (BB aE)) v4 aI (Xe (BB aE)) (aI.length:Int) aG aK aE))) else .stuck) else (.to (.h3 aA bK (Xe (BB aE)) (((Xe (BB aE)).length :Nat):Int) 0 (Xe (BB aE)) v4 aI (Xe (BB aE)) (aI.length:Int) aG aK aE))) else (.to (.h3 aA bK (Xe (BB aE)) (((Xe (BB aE)).length :Nat):Int) 0 (Xe (BB aE)) v4 aI (Xe (BB aE)) (aI.length:Int) aG aK aE))) else .stuck))
 | .h3 v1 v2 v71 v72 v73 aY aO aB aT aU aG aK aA=>(bif (decide (v73<v72)) then (bif ((decide (0<=v73/\v73<(v71.length:Int)))&&true) then (bif (Nat.beq 4 4&&((decide (0+aB.length=aB.length))&&decide ((aB.length+1+1)*(32+1)<=Kx))) then (.to (.h3 v1 v2 v71 v72 (wrap .i64 (v73+1)) aY aO (aB++[(R4.mk v1 (rd v71 v73.toNat).a v2 (rd v71 v73.toNat).b)]) aT aU aG aK aA)) else .stuck) else .stuck) else (.to (.h1 (wrap .i64 (aO+1)) aB aT aU v2 aG aK)))
 | .h4 v2 v8 bQ aY aO aB aT aU bN bI bO aE=>(bif (decide (v8<(aB.length:Int))) then (bif ((decide (0<=v8/\v8<(aB.length:Int)))&&true) then (bif (decide ((0+v8.toNat)<aB.length)) then (.to (.h4 v2 (wrap .i64 (v8+1)) bQ aY aO (aB.set (0+v8.toNat) (R4.mk (rd aB (0+v8.toNat)).a (rd aB (0+v8.toNat)).b v2 (rd aB (0+v8.toNat)).d)) aT aU bN bI bO aE)) else .stuck) else .stuck) else (.to (.h1 (wrap .i64 (aO+1)) aB aT aU v2 bI bO)))
def Me (l0:List R4):Wn EM:=(.to (.h0 0 ([]:List Int)))
theorem YH (l0:List R4): ∀s,Wi prog (Zy prog 167) (Gr l0) (Gr l0 s) (Xz l0 s)
 | .h0 v16 aC=>(lb (fun k0=>(lo fun o0=>(lo fun o1=>let j:=rd l0 (tn v16);let d:=aC++[j.a,j.c];let e:=xL (aC.length+2) (aC++[(rd l0 (tn v16)).a,(rd l0 (tn v16)).c]).length;(sl Va 32 [] ⟨[0,1,2,3,7],[],FY,F0⟩ ⟨[],[.keep,.keep,.cells [.len d.length],.keep,.rowed 1 d.length (Zz d)],[]⟩ [true] (pp e (pp e (pp (xS (aC.length+2) (Zn (Zz aC) 0 aC.length 1 [(ii (rd l0 (tn v16)).a),(ii (rd l0 (tn v16)).c)]) (Zz (aC++[(rd l0 (tn v16)).a,(rd l0 (tn v16)).c]))) (pp (pp (xF (Zn (Zz aC) 0 aC.length 1 [(ii (rd l0 (tn v16)).a),(ii (rd l0 (tn v16)).c)])) nn) (ww o1 (ww o0 (tt k0 nn))))))))))) (fun k0=>(lo fun o0=>(lo fun o1=>let b:=Uj (Yx aC.length (BU (Zz (Vc (Yx aC.length (BU (Zz aC)))))));let f:=xG (Nat.beq 1 1);let g:=xG (decide (aC.length<4611686018427387904));let h:=xG (decide (aC.length=aC.length));let i:=xG (Nat.beq 0 0);(sl Va 46 [(168,4,Zz ([]:List R4))] ⟨[5,3,2,4,0,1,6],[],NU,NT⟩ ⟨[],[.keep,.cells [.grow 6 4,.list 0 (Zz ([]:List R2)),.keep,.keep],.keep,.rowed 1 b.length (Zz b),.keep,.keep,.keep],[]⟩ (bl 2 0) (pp (xL aC.length (Uj (Yx aC.length (BU (Zz (Vc (Yx aC.length (BU (Zz aC)))))))).length (by first | exact QG _ _ | exact Jj rfl)) (pp (xS aC.length (Zz (Uj (Yx aC.length (BU (Zz (Vc (Yx aC.length (BU (Zz aC))))))))) (Zz (Uj (Yx aC.length (BU (Zz (Vc (Yx aC.length (BU (Zz aC)))))))))) (pp (fl b (fl ([]:List R4) nn)) (pp (pp f (pp f (pp i (pp h (pp (xG (F4 (Zz (Vc (Yx aC.length (BU (Zz aC))))))) g))))) (pp (pp f (pp f (pp i (pp h (pp (xG (F4 (Zz aC))) g))))) (tt k0 nn)))))))))))
 | .h1 v4 aI bA bE bF aG aK=>(lb (fun k0=>(lo fun o0=>(lo fun o1=>(lo fun o2=>(lo fun o3=>(sl Va 48 [(260,2,Zz ([]:List R2))] ⟨[0,1,2,3,4,5,7,8,9,6],[],LK,Le⟩ ⟨[],(EQ 7 [.cells [.grow 8 2],.keep,.keep]),[]⟩ (BQ 3 []) (pp (fl aK (fl ([]:List R2) (fl aI nn))) (ww o3 (ww o2 (ww o1 (ww o0 (tt k0 nn)))))))))))) (fun k0=>(lb (fun k1=>(lr 29 3 [1,1,1,1,1,1,0] 1 10 [(2,.nils),(3,(ii 4))] (sl Va 43 [] (a7 [2,3]) a6 (bl 2 2) (tt k1 (tt k0 nn))))) (fun k1=>(lr 29 3 [1,1,1,1,1,1,0] 1 10 [(2,(.dat aI.length (Zz aI))),(3,(ii 0))] (sl Va 48 [] ⟨[],[6],[some [2,3]],[]⟩ ⟨[(2,.frz aI.length aI.length (Zz aI) (Zz aI))],[],[]⟩ (bl 2 0) (pp (xZ (C7 4 4 0 aI.length aI.length (Zz aI)) aI.length (Zz aI)) (pp (xL aI.length aI.length) (pp (xS aI.length (Zz aI) (Zz aI)) (pp (fl aI nn) (tt k1 (tt k0 nn))))))))))))
 | .h2 v4 v38 aI bA bE bF aG aK aA bK aE=>(lb (fun k0=>(lo fun aF=>let g:=ww aF (tt k0 nn);let j:=fl aK (fl aE (fl aI nn));let p:=List.range 10;(lb (fun k1=>(lb (fun k2=>(lo fun o0=>let o:=rd l0 (tn v38);let a:=aE++[(R2.mk o.b o.d)];let e:=xL (aE.length+1) (aE++[(R2.mk (rd l0 (tn v38)).b (rd l0 (tn v38)).d)]).length;(sl Va 39 [] ⟨[0,1,2,3,4,5,6,7,12,9],[],LK,Le⟩ ⟨[],(EQ 7 [.cells [.len a.length],.rowed 2 a.length (Zz a),.keep]),[]⟩ (BQ 7 []) (pp e (pp e (pp (xS (aE.length+1) (Zn (Zz aE) 0 aE.length 2 [(ii (rd l0 (tn v38)).b),(ii (rd l0 (tn v38)).d)]) (Zz (aE++[(R2.mk (rd l0 (tn v38)).b (rd l0 (tn v38)).d)]))) (pp (fl aK (pp (xF (Zn (Zz aE) 0 aE.length 2 [(ii (rd l0 (tn v38)).b),(ii (rd l0 (tn v38)).d)])) (fl aI nn))) (ww o0 (tt k2 (tt k1 g)))))))))) (fun k2=>(sl Va 39 [] ⟨p,[],LK,Le⟩ a6 (BQ 6 [false]) (pp j (tt k2 (tt k1 g))))))) (fun k1=>(sl Va 39 [] ⟨p,[],LK,Le⟩ a6 (bl 7 1) (pp j (tt k1 g))))))) (fun k0=>let f:=xZ (C7 2 2 0 aE.length aE.length (Zz aE)) aE.length (Zz aE);let i:=xS aE.length (Zz aE) (Zz aE);let l:=xL aE.length aE.length;let m:=fl aI (fl aK nn);(Jo (sl Va (C':=⟨⟨29,0,true⟩,(Xv prog 167 [1,1,0,1,0,1,0,0] 4),(Zk prog 167 [1,1,0,1,0,1,0,0] 1),(some 0),[],⟨Xd [(4,(.ptr 1 0)),(5,(.ptr 3 0)),(16,(.dat aE.length (Zz aE)))],DT [(1,⟨[(.sla 2 4 0 aI.length (.un 4)),(.dat bA.length (Zz bA)),(ii bE),(ii bF)],235,none⟩),(2,⟨rows aI.length (Zz aI),168,some ⟨4,aI.length,(Zz aI)⟩⟩),(3,⟨[(ii aA),(ii bK),(.sl 4 0 1 (.ex 1))],240,none⟩),(4,⟨[(.dat aE.length (Zz aE))],233,none⟩),(5,⟨[(.sla 6 1 0 aG (.un 1))],83,none⟩),(6,⟨rows aK.length (Zz aK),3,some ⟨1,aK.length,(Zz aK)⟩⟩),(7,⟨[(.sl 8 0 1 (.un 1))],201,none⟩),(8,⟨[(.dat l0.length (Zz l0))],195,none⟩)],9,[],true⟩,[⟨⟨76,0,true⟩,(Xv prog 225 [1,0,0,1,0,0,1,1,0] 2),(Zk prog 225 [1,0,0,1,0,0,1,1,0] 1),none,[],Xd [(0,(.yld 0)),(1,(.ptr 5 0)),(2,(.ptr 7 0)),(4,(ii v4)),(72,(.yld 0)),(73,(.agg [(ii aA),(ii bK),(.sl 4 0 1 (.ex 1))]))]⟩,⟨⟨29,0,true⟩,none,(.inRangeFunc 0::(Zk prog 167 [1,1,0,1,0] 1)),none,(Zy prog 10),Xd [(2,.nils),(3,(ii 0)),(4,(.ptr 1 0))]⟩],(DR [(0,⟨.busy,none,29,Xd [(4,(.ptr 1 0))],[11],(Wy prog 167 [1,1,0,1,0,0]),(Wy prog 167 [1,1,0,1,0,1])⟩)])⟩) 37 [] ⟨[0,1,9,10,7,2,3,4,5],[8],[some [4,5,16],some [0,1,2,4,72,73],some [2,3,4]],[some [4],none,none,none,none,none,none,none,none]⟩ ⟨[(16,.frz aE.length aE.length (Zz aE) (Zz aE))],[.keep,.keep,.keep,.keep,.cells [.frz aE.length aE.length (Zz aE) (Zz aE)],.keep,.keep,.keep,.keep],[]⟩ (bl 2 0) (pp f (pp l (pp i (pp f (pp l (pp i (pp m (pp (fl aE nn) (tt k0 nn)))))))))) (lo fun aF=>let c:=pp (pp (xr aE) (xw aF)) nn;let h:=fl aK (fl aI nn);(lb (fun k1=>(lb (fun k2=>(lo fun bU=>let n:=tt k2 (tt k1 c);(lb (fun k3=>(sl Va 49 [] ⟨[1,2,0,5,6,7,8,4],[],FX,FZ⟩ a6 (BQ 13 []) (pp m (tt k3 (pp (pp (xr bA) (pp (xI R2 (Xe (BB aE)).length (Zz (Xe (BB aE)))) (xw bU))) n))))) (fun k3=>(sl Va 69 [] ⟨[1,0,5,6,7,8,4,2],[],LL,LJ⟩ a6 (BQ 12 [false]) (pp h (tt k3 (pp (pp (xr bA) (pp (xI R2 (Xe (BB aE)).length (Zz (Xe (BB aE)))) (xw bU))) n)))))))) (fun k2=>(sl Va 69 [] ⟨[1,0,5,6,7,8,4,2],[],LL,LJ⟩ a6 (BQ 6 (bl 7 0)) (pp h (tt k2 (tt k1 c))))))) (fun k1=>(sl Va 69 [] ⟨[1,0,5,6,7,8,4,2],[],LL,LJ⟩ a6 (bl 13 0) (pp h (tt k1 c)))))))))
 | .h3 v1 v2 v71 v72 v73 aY aO aB aT aU aG aK aA=>(lb (fun k0=>(lo fun o0=>(lo fun o1=>let e:=rd v71 (tn v73);let c:=aB++[(R4.mk v1 e.a v2 e.b)];let d:=xL (aB.length+1) (aB++[(R4.mk v1 (rd v71 (tn v73)).a v2 (rd v71 (tn v73)).b)]).length;(sl Va 23 [] ⟨[0,1,2,3,4,5,6,10],[],LL,LJ⟩ ⟨[],[.cells [.len c.length,.keep,.keep,.keep],.keep,.keep,.keep,.keep,.keep,.keep,.rowed 4 c.length (Zz c)],[]⟩ [true] (pp d (pp d (pp (xS (aB.length+1) (Zn (Zz aB) 0 aB.length 4 [(ii v1),(ii (rd v71 (tn v73)).a),(ii v2),(ii (rd v71 (tn v73)).b)]) (Zz (aB++[(R4.mk v1 (rd v71 (tn v73)).a v2 (rd v71 (tn v73)).b)]))) (pp (fl aK (pp (xF (Zn (Zz aB) 0 aB.length 4 [(ii v1),(ii (rd v71 (tn v73)).a),(ii v2),(ii (rd v71 (tn v73)).b)])) nn)) (ww o1 (ww o0 (tt k0 nn))))))))))) (fun k0=>(sl Va 22 [] ⟨[1,0,2,3,4,5,7],[],NU,NT⟩ a6 (bl 2 0) (pp (fl aK (fl aB nn)) (tt k0 nn)))))
 | .h4 v2 v8 bQ aY aO aB aT aU bN bI bO aE=>(lb (fun k0=>(lo fun o0=>(lo fun o1=>let f:=rd aB (0+(tn v8));let c:=aB.set (0+(tn v8)) (R4.mk f.a f.b v2 f.d);let e:=xL aB.length (aB.set (0+(tn v8)) (R4.mk (rd aB (0+(tn v8))).a (rd aB (0+(tn v8))).b v2 (rd aB (0+(tn v8))).d)).length;(sl Va 33 [] ⟨(List.range 8),[],FX,FZ⟩ ⟨[],[.cells [.len c.length,.keep,.keep,.keep],.rowed 4 c.length (Zz c),.keep,.keep,.keep,.keep,.keep,.keep],[]⟩ [true] (pp e (pp e (pp (xS aB.length (Xa (Zz aB) (0+(tn v8)) 2 [(ii v2)]) (Zz (aB.set (0+(tn v8)) (R4.mk (rd aB (0+(tn v8))).a (rd aB (0+(tn v8))).b v2 (rd aB (0+(tn v8))).d)))) (pp (pp (xF (Xa (Zz aB) (0+(tn v8)) 2 [(ii v2)])) (fl bO nn)) (ww o1 (ww o0 (tt k0 nn))))))))))) (fun k0=>(sl Va 36 [] ⟨[2,0,3,4,5,6,1],[],NU,NT⟩ a6 (bl 2 0) (pp (fl bO (fl aB nn)) (tt k0 nn)))))
theorem TN (l0:List R4):Wi prog (Zy prog 167) (Gr l0) (startC prog 167 [(.dat l0.length (Zz l0))] true []) (Me l0):=(sl Va 56 [(3,1,Zz ([]:List Int))] ⟨[2,1,3,0,4],[],FY,F0⟩ ⟨[],[.keep,.keep,.cells [.grow 4 1],.keep,.keep],[]⟩ [true] (pp (fl ([]:List Int) nn) nn))
theorem U3 (l0:List R4) (n:Nat) (vs:List BA) (h:Yr (Xz l0) n (Me l0)=.ret vs):BV prog (Zy prog 167) (startC prog 167 [(.dat l0.length (Zz l0))] true []) vs:=by have:=Yy (YH l0) n _ (TN l0);rwa [h] at this
theorem Mr {i n:Nat} (h:i<n):decide ((i:Int)<(n:Int))=true:=by grind
theorem Pz {σ:Type} (step:σ->Wn σ) (a b:Nat) (s:Wn σ):Yr step (a+b) s=Yr step a (Yr step b s):=by
 induction b generalizing s with
 | zero=>cases s <;> simp [Yr]
 | succ b ih=>cases s with
  | «to» s=>exact ih (step s)
  | ret vs=>simp only [Zc]
  | stuck=>cases a <;> cases b <;> rfl
theorem RQ {i:Nat}:decide ((i:Int)>=0)=true:=by grind
def IC {α:Type} [Yc α] (out:List α):List BA:=bif decide ((out.length:Int)>400) then [.nils,.int .i64 4] else [.dat out.length (Zz out),.int .i64 0]
def Ei {α:Type} [Yc α] (e:Int) (L:List α):List BA:=bif e != 0 then [.nils,.int .i64 e] else [.dat L.length (Zz L),.int .i64 0]
def D2 {α:Type} (e:Int) (L:List α):List α:=bif e != 0 then [] else L
theorem VD {α:Type} [Yc α] (e:Int) (L:List α) (ρ:BD) (u:Value) (hu:Zb ρ (Ud (Ei e L)) u):Zb ρ (.tup [.dat (D2 e L).length (Zz (D2 e L)),.int .i64 e]) u:=by
 unfold Ei at hu;unfold D2;by_cases h:e=0
 .subst h;exact hu
 .have h:(e != 0)=true:=by simpa using h
  rw [h] at hu ⊢;exact Fq (.cons (Fx α) (B9.refl _)) ρ u hu
theorem w4y {α:Type} [Yc α] (e:Int) (L:List α):pf 3 (Ud (Ei e L))=true:=by unfold Ei;cases (e != 0) <;> rfl
def E6 (n:Nat):Int:=bif decide ((n:Int)>400) then 4 else 0
theorem V5 {α:Type} [Yc α] (L:List α):IC L=Ei (E6 L.length) L:=by
 grind [IC,Ei,E6]
theorem Oe : ∀(L:List R3) (o last:Int) (inn:Bool) (out:List R2),(Ep L o last inn out).length <=out.length+L.length
 | [],_,_,_,out=>Ak _
 | e::r,o,last,inn,out=>by rw [Pu];have:=Oe r (o+e.c) e.a (decide (o+e.c>0)) (Fm out last inn e.a);have:=PO out last inn e.a;simp only [AY];omega
theorem To (l:List R3):(CH l).length =l.length:=by
 by_cases h:C6 l=true
 .exact (KY l h).1.length_eq
 .unfold CH;grind
theorem Tm (l:List R2):(Xe l).length <=800:=by
 grind [Xe,Eo,Oe,To,MR]
def Ce (r:R4):Bool:=decide (r.a<r.c)&&(decide (r.b<r.d)&&(decide (r.a>= -1000000)&&(decide (r.a<=1000000)&&(decide (r.c>= -1000000)&&(decide (r.c<=1000000)&&(decide (r.b>= -1000000)&&(decide (r.b<=1000000)&&(decide (r.d>= -1000000)&&decide (r.d<=1000000)))))))))
def D4 :Ch R4 R2:=⟨R4.a,R4.c,fun r=>⟨r.b,r.d⟩,fun x x' s=>⟨x,s.a,x',s.b⟩,fun x r=>⟨r.a,r.b,x,r.d⟩,Xe,Jz⟩
theorem He (l:List R4) (x:Int):(D4.sec l x).length <=1000:=AE (Tm _) (by omega)
section
variable (l:List R4) (hl:l.length<=400)
include hl
theorem RX (i:Nat) (out:List R4) (last:List R2) (first fin x x':Int): ∀(k j:Nat) (acc:List R2),j+k=l.length->acc.length<=j->
  ∃n,∀N,Yr (Xz l) (N+n) (.to (.h2 (i:Int) (j:Int) out last first fin ((D4.cuts l).length) (Uj (Vc (D4.ends l))) x x' acc))=Yr (Xz l) N (.to (.h2 (i:Int) (l.length:Int) out last first fin ((D4.cuts l).length) (Uj (Vc (D4.ends l))) x x' (acc++D4.inn (l.drop j) x)))
 | 0,j,acc,h,ha=>by refine ⟨0,fun N=> ?_⟩;rw [Ay (by omega),show D4.inn ([]:List R4) x=[] from rfl,AL,A1,show j=l.length by omega]
 | k+1,j,acc,h,ha=>by
  have hj:j<l.length:=by omega
  obtain ⟨n,hn⟩:=RX i out last first fin x x' k (j+1) (acc++D4.inn [rd l j] x) (by omega) (by have:=D4.inn_length [rd l j] x;grind)
  refine ⟨n+1,fun N=> ?_⟩;have e:D4.inn (l.drop j) x=D4.inn [rd l j] x++D4.inn (l.drop (j+1)) x:=by rw [Ys hj,<-D4.inn_append];rfl
  rw [e,<-AF,Zj,<-AG,<-hn N];by_cases h1:D4.lo (rd l j)<=x
  .by_cases h2:x<D4.hi (rd l j)
   .rw [D4.inn_t _ _ h1 h2];simp only [D4] at h1 h2 ⊢;simp (disch:=omega) only [Xz,Xf,Zt,Ze,Yw,Yv,Yh,Yd,Yb,Zr,Za,Zw,Ye,Zp,Aj,Ar,An,Ap,Ah,Ai]
   .rw [D4.inn_f2 _ _ h2,AL];simp only [D4] at h1 h2;simp (disch:=omega) only [Xz,Xf,Xy,Zt,Ze,Yw,Yv,Yh,Yd,Yb,Zr,Za,Zw,Ye,Zp,Aj,Ar,An,Ap,Ah,Ai]
  .rw [D4.inn_f1 _ _ h1,AL];simp only [D4] at h1;simp (disch:=omega) only [Xz,Fb,Zt,Ze,Yw,Yv,Yh,Yd,Yb,Zr,Za,Zw,Ye,Zp,Aj,Ar,An,Ap,Ah,Ai]
theorem RY (i:Nat) (hi:i<=1000) (x x':Int) (s last:List R2) (first:Int) (inn:List R2) (hs:s.length<=1000): ∀(k j:Nat) (out:List R4),j+k=s.length->out.length<=10000000+j->
  ∃n,∀N,Yr (Xz l) (N+n) (.to (.h3 x x' s (s.length:Int) (j:Int) s (i:Int) out last first ((D4.cuts l).length) (Uj (Vc (D4.ends l))) inn))=Yr (Xz l) N (.to (.h1 ((i+1:Nat):Int) (out++(s.drop j).map (D4.put x x')) last first x' ((D4.cuts l).length) (Uj (Vc (D4.ends l)))))
 | 0,j,out,h,ho=>by
  have _u:=hl;refine ⟨1,fun N=> ?_⟩
  grind [Zj,Xz,Za]
 | k+1,j,out,h,ho=>by
  obtain ⟨n,hn⟩:=RY i hi x x' s last first inn hs k (j+1) (out++[D4.put x x' (rd s j)]) (by omega) (by simp;omega)
  refine ⟨n+1,fun N=> ?_⟩;have:=hn N;rw [Ys (show j<s.length by omega),AQ,<-AF,Zj];simp (disch:=omega) only [Xz,Zt,Ze,Yw,Yv,Yh,Yd,Yb,Zr,Za,Zw,Ye,Zp,Aj,Ar,An,Ap,Ah,Ai];rw [AG] at this;exact this
theorem RZ (i:Nat) (hi:i<=1000) (x x' fin:Int) (s last:List R2) (first:Int) (inn:List R2): ∀(k j:Nat) (out:List R4),j+k=out.length->out.length<=10000000->
  ∃n,∀N,Yr (Xz l) (N+n) (.to (.h4 x' (j:Int) x s (i:Int) out last first fin ((D4.cuts l).length) (Uj (Vc (D4.ends l))) inn))=Yr (Xz l) N (.to (.h1 ((i+1:Nat):Int) (D4.grow out j x') last first x' ((D4.cuts l).length) (Uj (Vc (D4.ends l)))))
 | 0,j,out,h,ho=>by
  have _u:=hl;refine ⟨1,fun N=> ?_⟩;rw [D4.grow_nil _ _ _ (by omega),Zj]
  grind [Xz,Za]
 | k+1,j,out,h,ho=>by
  obtain ⟨n,hn⟩:=RZ i hi x x' fin s last first inn k (j+1) (out.set j (D4.ext x' (rd out j))) (by simp;omega) (by grind)
  refine ⟨n+1,fun N=> ?_⟩;have:=hn N;rw [D4.grow_set out j _ (by omega)] at this;rw [<-AF,Zj];simp (disch:=omega) only [Xz,Zt,Ze,Yw,Yv,Yh,Yd,Yb,Zr,Za,Zw,Ye,Zp,Aj,Ar,An,Ap,Ah,Ai];exact this
theorem Mt : ∀(k i:Nat) (s:Sw R4 R2),k=(D4.cuts l).length - 1 - i->i<=(D4.cuts l).length ->s.out.length<=i*1000->s.last.length<=1000->s.first<=s.out.length->
  ∃n,Yr (Xz l) n (.to (.h1 ((i+1:Nat):Int) s.out s.last (s.first:Int) s.fin ((D4.cuts l).length) (Uj (Vc (D4.ends l)))))=.ret (IC (D4.go l k i s).out)
 | 0,i,s,h,hi,ho,hla,hf=>by
  have hc:=D4.cuts_length l;refine ⟨1,?_⟩;rw [Zj,show D4.go l 0 i s=s from rfl]
  grind [IC,Xz,Zc]
 | k +1,i,s,h,hi,ho,hla,hf=>by
  have hc:=D4.cuts_length l;have hi1:i+1<(D4.cuts l).length :=by omega
  have hpl:(Uj (Vc (D4.ends l))).length =2*l.length:=by rw [MM,Kv,D4.ends_length]
  have r0:rd (Uj (Vc (D4.ends l))) i=rd (D4.cuts l) i:=Kl _ _ (by show i<(D4.cuts l).length;omega);have r1:rd (Uj (Vc (D4.ends l))) (i+1)=rd (D4.cuts l) (i+1):=Kl _ _ (by show i+1<(D4.cuts l).length;omega);have hbig:i*1000<=1000*1000:=Av _ (by omega);have hsl:=He l (rd (D4.cuts l) i);have hsd:D4.sec l (rd (D4.cuts l) i)=Xe (D4.inn l (rd (D4.cuts l) i)):=rfl;obtain ⟨n3,h3⟩:=RX l hl (i+1) s.out s.last (s.first:Int) s.fin (rd (D4.cuts l) i) (rd (D4.cuts l) (i+1)) l.length 0 [] (Aj _) (Ak _);simp only [AZ,Bg,Dq] at h3;have w1:Lv (D4.inn l (rd (D4.cuts l) i))=true:=rfl;have w2:Vx s.last (Xe (D4.inn l (rd (D4.cuts l) i)))=true:=Aq (by omega);have ol:=D4.one_length l (rd (D4.cuts l) i) (rd (D4.cuts l) (i+1)) s;have st0: ∀N,Yr (Xz l) (N+n3+1) (.to (.h1 ((i+1:Nat):Int) s.out s.last (s.first:Int) s.fin ((D4.cuts l).length) (Uj (Vc (D4.ends l)))))=Yr (Xz l) N (.to (.h2 ((i+1:Nat):Int) (l.length:Int) s.out s.last (s.first:Int) s.fin ((D4.cuts l).length) (Uj (Vc (D4.ends l))) (rd (D4.cuts l) i) (rd (D4.cuts l) (i+1)) (D4.inn l (rd (D4.cuts l) i)))):=fun N=>by
   rw [<-h3 N,Zj];have e1:wrap .i64 (((i+1:Nat):Int) - 1)=(i:Int):=by rw [Zf];exact Za (by omega)
   simp (disch:=omega) only [Xz,e1,r0,r1,Zt,Ze,Yw,Yv,Yh,Yd,Yb,Zr,Za,Zw,Ye,Zp,Aj,Ar,An,Ap,Ah,Ai]
  rcases Wc (decide (0<(D4.sec l (rd (D4.cuts l) i)).length)&&((s.fin == rd (D4.cuts l) i)&&D4.same s.last (D4.sec l (rd (D4.cuts l) i)))) with q | q
  .obtain ⟨n5,h5⟩:=RZ l hl (i+1) (by omega) (rd (D4.cuts l) i) (rd (D4.cuts l) (i+1)) s.fin (D4.sec l (rd (D4.cuts l) i)) s.last (s.first:Int) (D4.inn l (rd (D4.cuts l) i)) (s.out.length - s.first) s.first s.out (by omega) (by omega)
   have e:D4.one l (rd (D4.cuts l) i) (rd (D4.cuts l) (i+1)) s=⟨D4.grow s.out s.first (rd (D4.cuts l) (i+1)),s.last,s.first,rd (D4.cuts l) (i+1)⟩:=by unfold Ch.one;rw [q];rfl
   obtain ⟨n0,h0⟩:=Mt k (i+1) (D4.one l (rd (D4.cuts l) i) (rd (D4.cuts l) (i+1)) s) (by omega) (by omega) (by omega) (by grind) (by grind [Ch.grow_length]);refine ⟨n0+n5+1+n3+1,?_⟩;rw [st0 (n0+n5+1),Zj];simp only [Ad,Au] at q;obtain ⟨q1,q2,q3⟩:=q;have q3':Jz s.last (Xe (D4.inn l (rd (D4.cuts l) i)))=true:=q3
   grind [Xz,Zt,Ch.go]
  .obtain ⟨n4,h4⟩:=RY l hl (i+1) (by omega) (rd (D4.cuts l) i) (rd (D4.cuts l) (i+1)) (D4.sec l (rd (D4.cuts l) i)) (D4.sec l (rd (D4.cuts l) i)) (s.out.length:Int) (D4.inn l (rd (D4.cuts l) i)) hsl (D4.sec l (rd (D4.cuts l) i)).length 0 s.out (Aj _) (by omega);simp only [AZ,Dq] at h4;have e:D4.one l (rd (D4.cuts l) i) (rd (D4.cuts l) (i+1)) s=⟨s.out++(D4.sec l (rd (D4.cuts l) i)).map (D4.put (rd (D4.cuts l) i) (rd (D4.cuts l) (i+1))),D4.sec l (rd (D4.cuts l) i),s.out.length,rd (D4.cuts l) (i+1)⟩:=by unfold Ch.one;rw [q];rfl
   obtain ⟨n0,h0⟩:=Mt k (i+1) (D4.one l (rd (D4.cuts l) i) (rd (D4.cuts l) (i+1)) s) (by omega) (by omega) (by omega) (by grind) (by rw [e];simp);have hg:Yr (Xz l) 1 (.to (.h2 ((i+1:Nat):Int) (l.length:Int) s.out s.last (s.first:Int) s.fin ((D4.cuts l).length) (Uj (Vc (D4.ends l))) (rd (D4.cuts l) i) (rd (D4.cuts l) (i+1)) (D4.inn l (rd (D4.cuts l) i))))=.to (.h3 (rd (D4.cuts l) i) (rd (D4.cuts l) (i+1)) (D4.sec l (rd (D4.cuts l) i)) ((D4.sec l (rd (D4.cuts l) i)).length :Int) 0 (D4.sec l (rd (D4.cuts l) i)) ((i+1:Nat):Int) s.out (D4.sec l (rd (D4.cuts l) i)) (s.out.length:Int) ((D4.cuts l).length) (Uj (Vc (D4.ends l))) (D4.inn l (rd (D4.cuts l) i))):=by
    rw [show (1:Nat)=0+1 from rfl,Zj];rw [hsd] at q ⊢;have e3:D4.same s.last (Xe (D4.inn l (rd (D4.cuts l) i)))=Jz s.last (Xe (D4.inn l (rd (D4.cuts l) i))):=rfl;rw [e3] at q;by_cases q1:0<(Xe (D4.inn l (rd (D4.cuts l) i))).length
    .rw [Aq q1,Ap] at q;rcases Wc (s.fin == rd (D4.cuts l) i) with q2 | q2
     .rw [q2,Ap] at q;simp (disch:=omega) only [Xz,Zt,Ze,Xy,Yt,q2,q,w1,w2,Ah,Ai];rfl
     .simp (disch:=omega) only [Xz,Zt,Ze,Xy,Yt,q2,w1,w2,Ah,Ai];rfl
    .simp (disch:=omega) only [Xz,Zt,Ze,Xy,Xq,w1,w2,Ah,Ai];rfl
   refine ⟨n0+n4+1+n3+1,?_⟩;simp_all [Pz,Ch.go]
theorem RW : ∀(k i:Nat) (acc:List Int),i+k=l.length->acc=D4.ends (l.take i)-> ∃n,Yr (Xz l) n (.to (.h0 (i:Int) acc))=.ret (IC (D4.go l ((D4.cuts l).length - 1) 0 ⟨[],[],0,0⟩).out)
 | 0,i,acc,h,ha=>by
  have e:acc=D4.ends l:=by grind
  subst e;have hle:=D4.ends_length l;obtain ⟨n,hn⟩:=Mt l hl ((D4.cuts l).length - 1) 0 ⟨[],[],0,0⟩ (by omega) (AD _) (AD _) (AD _) (AD _);refine ⟨n+1,?_⟩;rw [Zj];simp (disch:=omega) only [Xz,ML,O2,QZ,Xy,Yd,Yb,Ar,Ah,Ai];exact hn
 | k+1,i,acc,h,ha=>by
  have hle:=D4.ends_length (l.take i);have hacc:acc.length<=2*i:=by grind
  obtain ⟨n,hn⟩:=RW k (i+1) (acc++D4.ends [rd l i]) (by omega) (by
   rw [ha,Bd];have:l[i]? =some (rd l i):=by grind [Vm]
   rw [this,D4.ends_append];rfl)
  refine ⟨n+1,?_⟩;rw [Zj];simp (disch:=omega) only [Xz,Zt,Ze,Yw,Yv,Yh,Yd,Yb,Zr,Za,Zw,Ye,Zp,Aj,Ar,An,Ap,Ah,Ai];exact hn
end
def D1 (l:List R4):Int:=E6 (D4.out l).length
def Ue (l:List R4):List R4:=D2 (D1 l) (D4.out l)
def Fr (l:List R4):Int:=D1 l
def Qn (l:List R4):Bool:=decide (l.length<=400)
theorem Z8 (l:List R4) (h:Qn l=true): ∃n,Yr (Xz l) n (Me l)=.ret (Ei (D1 l) (D4.out l)):=by rw [show Ei (D1 l) (D4.out l)=IC (D4.out l) from (V5 _).symm];exact RW l (AA h) l.length 0 [] (Aj _) rfl
def D0 (a b c d:Int):Bool:=Ce ⟨a,b,c,d⟩
theorem w3v (a b c d:Int): ∃N,Yr (M5 a b c d) N (KJ a b c d)=.ret [.bool (D0 a b c d)]:=⟨0,by
 unfold KJ D0 Ce;simp only [MU];cases decide (a<c) <;> cases decide (b<d) <;> cases decide (a>= -1000000) <;> cases decide (a<=1000000) <;> cases decide (c>= -1000000) <;> cases decide (c<=1000000) <;> cases decide (b>= -1000000) <;> cases decide (b<=1000000) <;> cases decide (d>= -1000000) <;> rfl⟩
def HC :List BA->Option (BA×Bool)
 | [.agg [.int .i64 aQ,.int .i64 aR,.int .i64 aS,.int .i64 aP]]=>some (.bool (D0 aQ aR aS aP),true)
 | _=>none
theorem ZY {S:BC} (hS:Zu prog S):Zu prog (S.with Ph HC):=by
 refine CD hS (by kernel_rfl) fun args v h=> ?_;unfold HC at h;split at h
 .rename_i aQ aR aS aP;simp only [Ab,Aa,and_true] at h;subst h;obtain ⟨N,hN⟩:=w3v aQ aR aS aP;exact ⟨_,_,(.cons (.refl _) .nil),rfl,VZ aQ aR aS aP N _ hN,3,rfl⟩
 .cases h
def HK :List BA->Option (BA×Bool)
 | [a0]=>match B2 R4 a0 with
  | some (L0,g0,n0)=>some (.tup [.dat (Ue L0).length (Zz (Ue L0)),.int .i64 (Fr L0)],BT R4 n0 g0&&(Qn L0))
  | _=>none
 | _=>none
theorem ZS {S:BC} (hS:Zu prog S):Zu prog (S.with Q8 HK):=by
 refine EW hS (by kernel_rfl) fun args v h=> ?_;unfold HK at h;split at h
 .rename_i a0;split at h
  .rename_i L0 g0 n0 e0;simp only [Ab,Aa,Ad] at h;obtain ⟨rfl,ho0,hw⟩:=h;obtain ⟨N,hN⟩:=Z8 L0 hw;exact ⟨_,_,(.cons (Xb e0 ho0) .nil),VD _ _,U3 L0 N _ hN,3,w4y _ _⟩
  .cases h
 .cases h
def SP :BC:=(T6.with Ph HC)
theorem Ha :Zu prog SP:=(ZY Va)
def SQ :BC:=(SP.with Q8 HK)
theorem Fg :Zu prog SQ:=(ZS Ha)
inductive EI where
 | h0 (v8:Int)
def Gg (l0:List R4):EI->BJ
 | .h0 v8=>⟨⟨19,0,true⟩,none,(Zk prog 197 [1,0,1,0,0] 0),none,(Zy prog 3),⟨Xd [(0,(.dat l0.length (Zz l0))),(1,(.fn 165 [])),(7,(ii (l0.length:Int))),(8,(ii v8))],Kf [] 0,0,[],true⟩,[⟨⟨9,0,true⟩,(Xv prog 164 [1,0] 2),(Zk prog 164 [1,0] 1),none,(Zy prog 3),Xd [(5,(.dat l0.length (Zz l0))),(6,(.fn 165 []))]⟩,⟨⟨13,0,true⟩,(Xv prog 140 [1,1,0,0] 1),(Zk prog 140 [1,1,0,0] 1),none,(Zy prog 10),Xd [(0,(.dat l0.length (Zz l0))),(7,(.dat l0.length (Zz l0)))]⟩],.leaf⟩
def FR :List (Option (List Nat)):=[some [0,1,7,8],some [5,6],some [0,7]]
def FS :List (Option (List Nat)):=[]
def Qe (l0:List R4):EI->Wn EI
 | .h0 v8=>(bif (decide (v8<(l0.length:Int))) then (bif ((decide (0<=v8/\v8<(l0.length:Int)))&&true) then (bif (!(D0 (rd l0 v8.toNat).a (rd l0 v8.toNat).b (rd l0 v8.toNat).c (rd l0 v8.toNat).d)) then (bif (decide (v8>=0)) then (.ret [.nils,(.int .i64 8)]) else (bif (Qn (BB l0)) then (.ret [(.dat (Ue (BB l0)).length (Zz (Ue (BB l0)))),(.int .i64 (Fr (BB l0)))]) else .stuck)) else (.to (.h0 (wrap .i64 (v8+1))))) else .stuck) else (bif (Qn (BB l0)) then (.ret [(.dat (Ue (BB l0)).length (Zz (Ue (BB l0)))),(.int .i64 (Fr (BB l0)))]) else .stuck))
def I4 (l0:List R4):Wn EI:=(bif (decide ((l0.length:Int)>400)) then (.ret [.nils,(.int .i64 4)]) else (.to (.h0 0)))
theorem YM (l0:List R4): ∀s,Wi prog (Zy prog 140) (Gg l0) (Gg l0 s) (Qe l0 s)
 | .h0 v8=>let a:=Ue (BB l0);let c:=ii (Fr (BB l0));(lb (fun k0=>(lo fun aF=>let b:=ww aF (tt k0 nn);(lb (fun k1=>(lb (fun k2=>(lr 13 140 [1,1,0,1,0,0] 1 10 [(2,.nils),(3,(ii 8))] (sl Fg 54 [] (a7 [2,3]) a6 (BQ 3 []) (tt k2 (tt k1 b))))) (fun k2=>(lo fun o0=>(lr 13 3 [1,1,1,1,1,1,0] 1 10 [(2,(.dat a.length (Zz a))),(3,c)] (sl Fg 59 [] (a7 [2,3]) a6 (bl 3 3) (pp (pp (xr l0) (xw o0)) (tt k2 (tt k1 b))))))))) (fun k1=>(sl Fg 44 [] ⟨[],[],FR,FS⟩ a6 (bl 2 1) (tt k1 b)))))) (fun k0=>(lo fun o0=>(lr 13 3 [1,1,1,1,1,1,0] 1 10 [(2,(.dat a.length (Zz a))),(3,c)] (sl Fg 28 [] (a7 [2,3]) a6 (bl 2 0) (pp (pp (xr l0) (xw o0)) (tt k0 nn)))))))
theorem TY (l0:List R4):Wi prog (Zy prog 140) (Gg l0) (startC prog 140 [(.dat l0.length (Zz l0))] true []) (I4 l0):=(lb (fun k0=>(lr 13 140 [1,0,1,0,0] 1 10 [(2,.nils),(3,(ii 4))] (sl Fg 18 [] (a7 [2,3]) a6 [true] (tt k0 nn)))) (fun k0=>(sl Fg 41 [] ⟨[],[],FR,FS⟩ a6 [false] (tt k0 nn))))
theorem VE (l0:List R4) (n:Nat) (vs:List BA) (h:Yr (Qe l0) n (I4 l0)=.ret vs):BV prog (Zy prog 140) (startC prog 140 [(.dat l0.length (Zz l0))] true []) vs:=by have:=Yy (YM l0) n _ (TY l0);rwa [h] at this
theorem Rk (l:List R4) (hl:l.length<=400): ∀(k i:Nat),i+k=l.length->(∀s∈l.take i,Ce s=true)-> ∃n,Yr (Qe l) n (.to (.h0 (i:Int)))=.ret (bif l.all Ce then [.dat (Ue l).length (Zz (Ue l)),.int .i64 (Fr l)] else [.nils,.int .i64 8])
 | 0,i,h,ht=>by
  have hv:l.all Ce=true:=Az.2 fun s hs=>ht s (by grind);have w:Qn l=true:=Aq hl;refine ⟨1,?_⟩
  grind [Zj,Qe,Zt,Zc]
 | k+1,i,h,ht=>by
  have hi:i<l.length:=by omega
  have hs:Qe l (.h0 (i:Int))=bif Ce (rd l i) then .to (.h0 ((i+1:Nat):Int)) else .ret [.nils,.int .i64 8]:=by have e:D0 (rd l i).a (rd l i).b (rd l i).c (rd l i).d =Ce (rd l i):=rfl;simp (disch:=omega) only [Qe,e,MV,Mr,RQ,Yv,Za,Zw,Zp,An,Ah,Ai]
  rcases Wc (Ce (rd l i)) with q | q
  .obtain ⟨n,hn⟩:=Rk l hl k (i+1) (by omega) (fun s hs=>by
    rw [Bd] at hs
    grind [Vm])
   refine ⟨n+1,?_⟩
   grind [Zj]
  .have hv:l.all Ce=false:=AT.2 fun e=>by
    grind [Vm]
   refine ⟨1,?_⟩
   grind [Zj,Zc]
theorem VF (l:List R4): ∃n,Yr (Qe l) n (I4 l)=.ret (bif decide (400<l.length) then [.nils,.int .i64 4] else bif l.all Ce then [.dat (Ue l).length (Zz (Ue l)),.int .i64 (Fr l)] else [.nils,.int .i64 8]):=by
 unfold I4;by_cases h:400<l.length
 .refine ⟨0,?_⟩;rw [Aq h,Yt (show (l.length:Int)>400 by omega)];rfl
 .obtain ⟨n,hn⟩:=Rk l (by omega) l.length 0 (Aj _) (fun s hs=>by simp at hs)
  grind
def Xk (l:List R4):List R4:=bif decide (400<l.length) then [] else bif l.all Ce then (bif decide (((D4.out l).length :Int)>400) then [] else D4.out l) else []
def Ec (l:List R4):Int:=bif decide (400<l.length) then 4 else bif l.all Ce then (bif decide (((D4.out l).length :Int)>400) then 4 else 0) else 8
def KU (l:List R4):Bool:=true
theorem w4x (l:List R4) (h:KU l=true): ∃n,Yr (Qe l) n (I4 l)=.ret (bif decide (400<l.length) then [.nils,.int .i64 4] else bif l.all Ce then [.dat (Xk l).length (Zz (Xk l)),.int .i64 (Ec l)] else [.nils,.int .i64 8]):=by
 obtain ⟨n,hn⟩:=VF l
 grind [Ue,Xk,D1,D2,E6,Fr,Ec]
def HH :List BA->Option (BA×Bool)
 | [a0]=>match B2 R4 a0 with
  | some (L0,g0,n0)=>some (.tup [.dat (Xk L0).length (Zz (Xk L0)),.int .i64 (Ec L0)],BT R4 n0 g0&&(KU L0))
  | _=>none
 | _=>none
theorem ZU {S:BC} (hS:Zu prog S):Zu prog (S.with Pg HH):=by
 refine EW hS (by kernel_rfl) fun args v h=> ?_;unfold HH at h;split at h
 .rename_i a0;split at h
  .rename_i L0 g0 n0 e0;simp only [Ab,Aa,Ad] at h;obtain ⟨rfl,ho0,hw⟩:=h;obtain ⟨N,hN⟩:=w4x L0 hw;refine ⟨_,_,(.cons (Xb e0 ho0) .nil),?_,VE L0 N _ hN,3,?_⟩
   .cases h1:decide (400<L0.length) <;> cases h2:L0.all Ce <;> simp only [Xk,Ec,h1,h2,Ah,Ai]
    .exact fun ρ u hu=>Fq (.cons (Fx R4) (B9.refl _)) ρ u hu
    .exact fun ρ u hu=>hu
    .exact fun ρ u hu=>Fq (.cons (Fx R4) (B9.refl _)) ρ u hu
    .exact fun ρ u hu=>Fq (.cons (Fx R4) (B9.refl _)) ρ u hu
   .cases decide (400<L0.length) <;> cases L0.all Ce <;> rfl
  .cases h
 .cases h
def T7 :BC:=(SQ.with Pg HH)
theorem Ed :Zu prog T7:=(ZU Fg)
inductive Dw where
def G2 (aQ:Int) (aR:Int) (aS:Int) (aP:Int) (bC:Int) (bD:Int):Dw->BJ
 :=nofun
def M6 (aQ:Int) (aR:Int) (aS:Int) (aP:Int) (bC:Int) (bD:Int):Dw->Wn Dw
 :=nofun
def KK (aQ:Int) (aR:Int) (aS:Int) (aP:Int) (bC:Int) (bD:Int):Wn Dw:=(bif (decide (aQ<aP)) then (bif (decide (aR<bC)) then (bif (decide (aS<bD)) then (bif (decide ((Cp (Cp aQ aR) aS)>=(-1000000))) then (bif (decide ((Co (Co aQ aR) aS)<=1000000)) then (bif (decide ((Cp (Cp aP bC) bD)>=(-1000000))) then (.ret [(.bool (decide ((Co (Co aP bC) bD)<=1000000)))]) else (.ret [(.bool false)])) else (.ret [(.bool false)])) else (.ret [(.bool false)])) else (.ret [(.bool false)])) else (.ret [(.bool false)])) else (.ret [(.bool false)]))
theorem Yl (aQ:Int) (aR:Int) (aS:Int) (aP:Int) (bC:Int) (bD:Int): ∀s,Wi prog (Zy prog 101) (G2 aQ aR aS aP bC bD) (G2 aQ aR aS aP bC bD s) (M6 aQ aR aS aP bC bD s)
 :=nofun
theorem Tt (aQ:Int) (aR:Int) (aS:Int) (aP:Int) (bC:Int) (bD:Int):Wi prog (Zy prog 101) (G2 aQ aR aS aP bC bD) (startC prog 101 [(.agg [(.int .i64 aQ),(.int .i64 aR),(.int .i64 aS),(.int .i64 aP),(.int .i64 bC),(.int .i64 bD)])] true []) (KK aQ aR aS aP bC bD):=(lb (fun k0=>(lb (fun k1=>let b:=tt k1 (tt k0 nn);(lb (fun k2=>let a:=tt k2 b;(lb (fun k3=>(lb (fun k4=>let c:=tt k4 (tt k3 a);(lb (fun k5=>(lr 38 3 [1,1,1,1,1,1,0] 1 9 [(2,(.bool (decide ((Co (Co aP bC) bD)<=1000000))))] (sl Ed 100 [] (a7 [2]) a6 (BQ 36 []) (tt k5 c)))) (fun k5=>(lr 38 3 [1,1,1,1,1,1,0] 1 9 [(2,(.bool false))] (sl Ed 100 [] (a7 [2]) a6 (BQ 28 (bl 8 0)) (tt k5 c)))))) (fun k4=>(lr 38 3 [1,1,1,1,1,1,0] 1 9 [(2,(.bool false))] (sl Ed 72 [] (a7 [2]) a6 (BQ 25 (bl 3 0)) (tt k4 (tt k3 a))))))) (fun k3=>(lr 38 3 [1,1,1,1,1,1,0] 1 9 [(2,(.bool false))] (sl Ed 72 [] (a7 [2]) a6 (BQ 17 (bl 11 0)) (tt k3 a)))))) (fun k2=>(lr 38 3 [1,1,1,1,1,1,0] 1 9 [(2,(.bool false))] (sl Ed 44 [] (a7 [2]) a6 (BQ 14 (bl 6 0)) (tt k2 b)))))) (fun k1=>(lr 38 3 [1,1,1,1,1,1,0] 1 9 [(2,(.bool false))] (sl Ed 44 [] (a7 [2]) a6 (BQ 7 (bl 13 0)) (tt k1 (tt k0 nn))))))) (fun k0=>(lr 38 3 [1,1,1,1,1,1,0] 1 9 [(2,(.bool false))] (sl Ed 44 [] (a7 [2]) a6 (bl 20 0) (tt k0 nn)))))
theorem V0 (aQ:Int) (aR:Int) (aS:Int) (aP:Int) (bC:Int) (bD:Int) (n:Nat) (vs:List BA) (h:Yr (M6 aQ aR aS aP bC bD) n (KK aQ aR aS aP bC bD)=.ret vs):BV prog (Zy prog 101) (startC prog 101 [(.agg [(.int .i64 aQ),(.int .i64 aR),(.int .i64 aS),(.int .i64 aP),(.int .i64 bC),(.int .i64 bD)])] true []) vs:=by have:=Yy (Yl aQ aR aS aP bC bD) n _ (Tt aQ aR aS aP bC bD);rwa [h] at this
def DY (r:R6):Bool:=decide (r.a<r.d)&&(decide (r.b<r.e)&&(decide (r.c<r.f)&&(decide ((Cp (Cp r.a r.b) r.c)>=(-1000000))&&(decide ((Co (Co r.a r.b) r.c)<=1000000)&&(decide ((Cp (Cp r.d r.e) r.f)>=(-1000000))&&decide ((Co (Co r.d r.e) r.f)<=1000000))))))
def DZ (a b c d e f:Int):Bool:=DY ⟨a,b,c,d,e,f⟩
theorem w3u (a b c d e f:Int): ∃N,Yr (M6 a b c d e f) N (KK a b c d e f)=.ret [.bool (DZ a b c d e f)]:=⟨0,by
 unfold KK DZ DY;simp only [MU];cases decide (a<d) <;> cases decide (b<e) <;> cases decide (c<f) <;> cases decide ((Cp (Cp a b) c)>=(-1000000)) <;> cases decide ((Co (Co a b) c)<=1000000) <;> cases decide ((Cp (Cp d e) f)>=(-1000000)) <;> rfl⟩
def HB :List BA->Option (BA×Bool)
 | [.agg [.int .i64 aQ,.int .i64 aR,.int .i64 aS,.int .i64 aP,.int .i64 bC,.int .i64 bD]]=>some (.bool (DZ aQ aR aS aP bC bD),true)
 | _=>none
theorem ZZ {S:BC} (hS:Zu prog S):Zu prog (S.with Pi HB):=by
 refine CD hS (by kernel_rfl) fun args v h=> ?_;unfold HB at h;split at h
 .rename_i aQ aR aS aP bC bD;simp only [Ab,Aa,and_true] at h;subst h;obtain ⟨N,hN⟩:=w3u aQ aR aS aP bC bD;exact ⟨_,_,(.cons (.refl _) .nil),rfl,V0 aQ aR aS aP bC bD N _ hN,3,rfl⟩
 .cases h
def SO :BC:=(T7.with Pi HB)
theorem Wj :Zu prog SO:=(ZZ Ed)
inductive EA where
 | h0 (v8:Int)
 | h1 (v16:Int) (aC:List Int)
 | h2 (v4:Int) (aJ:List R6) (bB:List R4) (bG:Int) (bH:Int) (aH:Nat) (aL:List Int)
 | h3 (v4:Int) (v38:Int) (aJ:List R6) (bB:List R4) (bG:Int) (bH:Int) (aH:Nat) (aL:List Int) (aW:Int) (bL:Int) (aD:List R4)
 | h4 (v1:Int) (v2:Int) (v72:List R4) (v73:Int) (v74:Int) (aZ:List R4) (aO:Int) (aB:List R6) (aT:List R4) (aU:Int) (aH:Nat) (aL:List Int) (aW:List R4)
 | h5 (v2:Int) (v8:Int) (bR:Int) (aZ:List R4) (aO:Int) (aB:List R6) (aT:List R4) (aU:Int) (bN:Int) (bJ:Nat) (bP:List Int) (aD:List R4)
def G7 (l0:List R6):EA->BJ
 | .h0 v8=>⟨⟨19,0,true⟩,none,(Zk prog 137 [1,0,1,0,0] 0),none,(Zy prog 3),⟨Xd [(0,(.dat l0.length (Zz l0))),(1,(.fn 100 [])),(7,(ii (l0.length:Int))),(8,(ii v8))],Kf [] 0,0,[],true⟩,[⟨⟨9,0,true⟩,(Xv prog 99 [1,0] 2),(Zk prog 99 [1,0] 1),none,(Zy prog 3),Xd [(5,(.dat l0.length (Zz l0))),(6,(.fn 100 []))]⟩,⟨⟨25,0,true⟩,(Xv prog 61 [1,1,0,0] 1),(Zk prog 61 [1,1,0,0] 1),none,(Zy prog 9),Xd [(0,(.dat l0.length (Zz l0))),(8,(.dat l0.length (Zz l0)))]⟩],.leaf⟩
 | .h1 v16 aC=>⟨⟨36,0,true⟩,none,(Zk prog 139 [1,1,0,1,0,0,1,1,0,0,1,1,0,0] 0),none,(Zy prog 9),⟨Xd [(1,(.ptr 0 0)),(3,(.ptr 2 0)),(8,(.sl 1 0 1 (.un 1))),(9,(ii 1)),(10,(ii 0)),(14,(.dat l0.length (Zz l0))),(15,(ii (l0.length:Int))),(16,(ii v16))],Kf [⟨[(.sl 1 0 1 (.un 1))],194,none⟩,⟨[(.dat l0.length (Zz l0))],45,none⟩,⟨[(.sla 7 1 0 aC.length (.un 1))],83,none⟩,⟨[.nilf],174,none⟩,⟨[.nils],46,none⟩,⟨[(ii 0)],24,none⟩,⟨[.nils,.nils,(ii 0),(ii 0)],198,none⟩,⟨rows aC.length (Zz aC),3,some ⟨1,aC.length,(Zz aC)⟩⟩] 0,8,[],true⟩,[⟨⟨65,0,true⟩,(Xv prog 102 [1,1,0,0] 1),(Zk prog 102 [1,1,0,0] 1),none,(Zy prog 102),Xd [(2,(.ptr 3 0)),(4,(.ptr 4 0)),(5,(.ptr 5 0)),(6,(.ptr 6 0)),(13,(.sl 1 0 1 (.un 1)))]⟩,⟨⟨25,0,true⟩,(Xv prog 61 [1,1,1,0,0] 3),(Zk prog 61 [1,1,1,0,0] 1),none,(Zy prog 9),Xd [(0,(.dat l0.length (Zz l0))),(11,(.agg [.nilf])),(13,(.sl 1 0 1 (.un 1)))]⟩],.leaf⟩
 | .h2 v4 aJ bB bG bH aH aL=>⟨⟨86,0,true⟩,none,(Zk prog 163 [1,0,0] 0),none,[],⟨Xd [(0,(.yld 0)),(1,(.ptr 5 0)),(2,(.ptr 7 0)),(4,(ii v4))],DT [(1,⟨[.nilf],174,none⟩),(2,⟨[.nils],46,none⟩),(3,⟨[(ii 0)],24,none⟩),(4,⟨[(.sla 9 6 0 aJ.length (.un 6)),(.dat bB.length (Zz bB)),(ii bG),(ii bH)],198,none⟩),(5,⟨[(.sla 6 1 0 aH (.un 1))],83,none⟩),(6,⟨rows aL.length (Zz aL),3,some ⟨1,aL.length,(Zz aL)⟩⟩),(7,⟨[(.sl 8 0 1 (.un 1))],194,none⟩),(8,⟨[(.dat l0.length (Zz l0))],45,none⟩),(9,⟨rows aJ.length (Zz aJ),79,some ⟨6,aJ.length,(Zz aJ)⟩⟩)],10,[],true⟩,[⟨⟨65,0,true⟩,none,(.inRangeFunc 0::(Zk prog 102 [1,1,0,1,0] 1)),none,(Zy prog 102),Xd [(4,(.ptr 2 0)),(5,(.ptr 3 0)),(6,(.ptr 4 0))]⟩,⟨⟨25,0,true⟩,(Xv prog 61 [1,1,1,0,0] 3),(Zk prog 61 [1,1,1,0,0] 1),none,(Zy prog 9),Xd [(0,(.dat l0.length (Zz l0))),(11,(.agg [.nilf])),(13,(.sl 8 0 1 (.un 1)))]⟩],(DR [(0,⟨.ready,none,65,Xd [(2,(.ptr 1 0)),(4,(.ptr 2 0)),(5,(.ptr 3 0)),(6,(.ptr 4 0))],[15],(Wy prog 102 [1,1,0,1,0,0]),(Wy prog 102 [1,1,0,1,0,1])⟩)])⟩
 | .h3 v4 v38 aJ bB bG bH aH aL aW bL aD=>⟨⟨86,0,true⟩,none,(Zk prog 163 [1,0,0,1,0,0,1,0,1,0,0,1,1,0,0,1,1,0,0] 0),none,[],⟨Xd [(0,(.yld 0)),(1,(.ptr 5 0)),(2,(.ptr 7 0)),(4,(ii v4)),(5,(.ptr 9 0)),(6,(ii 0)),(29,(.sl 8 0 1 (.un 1))),(30,(ii 1)),(31,(ii 0)),(36,(.dat l0.length (Zz l0))),(37,(ii (l0.length:Int))),(38,(ii v38))],DT [(1,⟨[.nilf],174,none⟩),(2,⟨[.nils],46,none⟩),(3,⟨[(ii 0)],24,none⟩),(4,⟨[(.sla 12 6 0 aJ.length (.un 6)),(.dat bB.length (Zz bB)),(ii bG),(ii bH)],198,none⟩),(5,⟨[(.sla 6 1 0 aH (.un 1))],83,none⟩),(6,⟨rows aL.length (Zz aL),3,some ⟨1,aL.length,(Zz aL)⟩⟩),(7,⟨[(.sl 8 0 1 (.un 1))],194,none⟩),(8,⟨[(.dat l0.length (Zz l0))],45,none⟩),(9,⟨[(ii aW),(ii bL),(.sl 10 0 1 (.ex 1))],203,none⟩),(10,⟨[(.sla 11 4 0 aD.length (.un 4))],195,none⟩),(11,⟨rows aD.length (Zz aD),168,some ⟨4,aD.length,(Zz aD)⟩⟩),(12,⟨rows aJ.length (Zz aJ),79,some ⟨6,aJ.length,(Zz aJ)⟩⟩)],13,[],true⟩,[⟨⟨65,0,true⟩,none,(.inRangeFunc 0::(Zk prog 102 [1,1,0,1,0] 1)),none,(Zy prog 102),Xd [(4,(.ptr 2 0)),(5,(.ptr 3 0)),(6,(.ptr 4 0))]⟩,⟨⟨25,0,true⟩,(Xv prog 61 [1,1,1,0,0] 3),(Zk prog 61 [1,1,1,0,0] 1),none,(Zy prog 9),Xd [(0,(.dat l0.length (Zz l0))),(11,(.agg [.nilf])),(13,(.sl 8 0 1 (.un 1)))]⟩],(DR [(0,⟨.ready,none,65,Xd [(2,(.ptr 1 0)),(4,(.ptr 2 0)),(5,(.ptr 3 0)),(6,(.ptr 4 0))],[15],(Wy prog 102 [1,1,0,1,0,0]),(Wy prog 102 [1,1,0,1,0,1])⟩)])⟩
 | .h4 v1 v2 v72 v73 v74 aZ aO aB aT aU aH aL aW=>⟨⟨101,0,true⟩,none,(Zk prog 141 [1,1,1,0,0] 0),none,[],⟨Xd [(0,(.ptr 0 0)),(1,(ii v1)),(2,(ii v2)),(72,(.dat v72.length (Zz v72))),(73,(ii v73)),(74,(ii v74))],DT [(0,⟨[(.sla 10 6 0 aB.length (.un 6)),(.dat aT.length (Zz aT)),(ii aU),(ii v2)],198,none⟩),(2,⟨[.nilf],174,none⟩),(3,⟨[.nils],46,none⟩),(4,⟨[(ii 0)],24,none⟩),(5,⟨[(.sla 6 1 0 aH (.un 1))],83,none⟩),(6,⟨rows aL.length (Zz aL),3,some ⟨1,aL.length,(Zz aL)⟩⟩),(7,⟨[(.sl 8 0 1 (.un 1))],194,none⟩),(8,⟨[(.dat l0.length (Zz l0))],45,none⟩),(9,⟨[(.dat aW.length (Zz aW))],195,none⟩),(10,⟨rows aB.length (Zz aB),79,some ⟨6,aB.length,(Zz aB)⟩⟩)],11,[],true⟩,[⟨⟨65,0,true⟩,(Xv prog 102 [1,1,0,1,0,1,0,1,1,1] 5),(Zk prog 102 [1,1,0,1,0,1,0,1,1,1] 1),(some 1),[],Xd [(6,(.ptr 0 0)),(54,(ii v1)),(56,(ii v2)),(57,(.dat aZ.length (Zz aZ)))]⟩,⟨⟨86,0,true⟩,(Xv prog 163 [1,0,0,1,0,0,1,1,0] 2),(Zk prog 163 [1,0,0,1,0,0,1,1,0] 1),none,[],Xd [(0,(.yld 1)),(1,(.ptr 5 0)),(2,(.ptr 7 0)),(4,(ii aO)),(82,(.yld 1)),(83,(.agg [(ii v1),(ii v2),(.sl 9 0 1 (.ex 1))]))]⟩,⟨⟨65,0,true⟩,none,(.inRangeFunc 1::(Zk prog 102 [1,1,0,1,0] 1)),none,(Zy prog 102),Xd [(4,(.ptr 3 0)),(5,(.ptr 4 0)),(6,(.ptr 0 0))]⟩,⟨⟨25,0,true⟩,(Xv prog 61 [1,1,1,0,0] 3),(Zk prog 61 [1,1,1,0,0] 1),none,(Zy prog 9),Xd [(0,(.dat l0.length (Zz l0))),(11,(.agg [.nilf])),(13,(.sl 8 0 1 (.un 1)))]⟩],(DR [(1,⟨.busy,none,65,Xd [(2,(.ptr 2 0)),(4,(.ptr 3 0)),(5,(.ptr 4 0)),(6,(.ptr 0 0))],[15],(Wy prog 102 [1,1,0,1,0,0]),(Wy prog 102 [1,1,0,1,0,1])⟩)])⟩
 | .h5 v2 v8 bR aZ aO aB aT aU bN bJ bP aD=>⟨⟨101,0,true⟩,none,(Zk prog 141 [0,1,0,0,1,0,0] 0),none,[],⟨Xd [(0,(.ptr 0 0)),(2,(ii v2)),(8,(ii v8))],DT [(0,⟨[(.sla 1 6 0 aB.length (.un 6)),(.dat aT.length (Zz aT)),(ii aU),(ii bN)],198,none⟩),(1,⟨rows aB.length (Zz aB),79,some ⟨6,aB.length,(Zz aB)⟩⟩),(3,⟨[.nilf],174,none⟩),(4,⟨[.nils],46,none⟩),(5,⟨[(ii 0)],24,none⟩),(6,⟨[(.sla 7 1 0 bJ (.un 1))],83,none⟩),(7,⟨rows bP.length (Zz bP),3,some ⟨1,bP.length,(Zz bP)⟩⟩),(8,⟨[(.sl 9 0 1 (.un 1))],194,none⟩),(9,⟨[(.dat l0.length (Zz l0))],45,none⟩),(10,⟨[(.dat aD.length (Zz aD))],195,none⟩)],11,[],true⟩,[⟨⟨65,0,true⟩,(Xv prog 102 [1,1,0,1,0,1,0,1,1,1] 5),(Zk prog 102 [1,1,0,1,0,1,0,1,1,1] 1),(some 2),[],Xd [(6,(.ptr 0 0)),(54,(ii bR)),(56,(ii v2)),(57,(.dat aZ.length (Zz aZ)))]⟩,⟨⟨86,0,true⟩,(Xv prog 163 [1,0,0,1,0,0,1,1,0] 2),(Zk prog 163 [1,0,0,1,0,0,1,1,0] 1),none,[],Xd [(0,(.yld 2)),(1,(.ptr 6 0)),(2,(.ptr 8 0)),(4,(ii aO)),(82,(.yld 2)),(83,(.agg [(ii bR),(ii v2),(.sl 10 0 1 (.ex 1))]))]⟩,⟨⟨65,0,true⟩,none,(.inRangeFunc 2::(Zk prog 102 [1,1,0,1,0] 1)),none,(Zy prog 102),Xd [(4,(.ptr 4 0)),(5,(.ptr 5 0)),(6,(.ptr 0 0))]⟩,⟨⟨25,0,true⟩,(Xv prog 61 [1,1,1,0,0] 3),(Zk prog 61 [1,1,1,0,0] 1),none,(Zy prog 9),Xd [(0,(.dat l0.length (Zz l0))),(11,(.agg [.nilf])),(13,(.sl 9 0 1 (.un 1)))]⟩],(DR [(2,⟨.busy,none,65,Xd [(2,(.ptr 3 0)),(4,(.ptr 4 0)),(5,(.ptr 5 0)),(6,(.ptr 0 0))],[15],(Wy prog 102 [1,1,0,1,0,0]),(Wy prog 102 [1,1,0,1,0,1])⟩)])⟩
def Et :List (Option (List Nat)):=[some [0,1,7,8],some [5,6],some [0,8]]
def Ew :List (Option (List Nat)):=[]
def N9 :List (Option (List Nat)):=[some [1,3,8,9,10,14,15,16],some [2,4,5,6,13],some [0,11,13]]
def N7 :List (Option (List Nat)):=[]
def Na :List (Option (List Nat)):=[some [0,1,2,4],some [4,5,6],some [0,11,13]]
def N8 :List (Option (List Nat)):=[some [2,4,5,6],none,none,none,none,none,none,none,none,none]
def LW :List (Option (List Nat)):=[some [0,1,2,4,5,6,29,30,31,36,37,38],some [4,5,6],some [0,11,13]]
def LU :List (Option (List Nat)):=[some [2,4,5,6],none,none,none,none,none,none,none,none,none,none,none,none]
def LX :List (Option (List Nat)):=[some [0,1,2,72,73,74],some [6,54,56,57],some [0,1,2,4,82,83],some [4,5,6],some [0,11,13]]
def LV :List (Option (List Nat)):=[none,some [2,4,5,6],none,none,none,none,none,none,none,none,none]
def Es :List (Option (List Nat)):=[some [0,2,8],some [6,54,56,57],some [0,1,2,4,82,83],some [4,5,6],some [0,11,13]]
def Eu :List (Option (List Nat)):=[none,none,some [2,4,5,6],none,none,none,none,none,none,none,none]
def Ym (l0:List R6):EA->Wn EA
 | .h0 v8=>(bif (decide (v8<(l0.length:Int))) then (bif ((decide (0<=v8/\v8<(l0.length:Int)))&&true) then (bif (!(DZ (rd l0 v8.toNat).a (rd l0 v8.toNat).b (rd l0 v8.toNat).c (rd l0 v8.toNat).d (rd l0 v8.toNat).e (rd l0 v8.toNat).f)) then (bif (decide (v8>=0)) then (.ret [(.int .i64 8)]) else (.to (.h1 0 ([]:List Int)))) else (.to (.h0 (wrap .i64 (v8+1))))) else .stuck) else (.to (.h1 0 ([]:List Int))))
 | .h1 v16 aC=>(bif (decide (v16<(l0.length:Int))) then (bif ((decide (0<=v16/\v16<(l0.length:Int)))&&true) then (bif (Nat.beq 1 1&&((decide (0+aC.length=aC.length))&&decide ((aC.length+2+1)*(8+1)<=Kx))) then (.to (.h1 (wrap .i64 (v16+1)) (aC++[(rd l0 v16.toNat).c,(rd l0 v16.toNat).f]))) else .stuck) else .stuck) else (bif (decide (aC.length<4611686018427387904)) then (bif (decide (aC.length=aC.length)) then (.to (.h2 1 ([]:List R6) ([]:List R4) 0 0 (D5 (Yx aC.length (BU (Zz (Vc (Yx aC.length (BU (Zz aC)))))))) (Uj (Yx aC.length (BU (Zz (Vc (Yx aC.length (BU (Zz aC)))))))))) else .stuck) else .stuck))
 | .h2 v4 aJ bB bG bH aH aL=>(bif (decide (v4<((aH:Nat):Int))) then (bif ((decide (0<=(wrap .i64 (v4 - 1))/\(wrap .i64 (v4 - 1))<((aH:Nat):Int)))&&true) then (bif (decide ((0+(Int.toNat (wrap .i64 (v4 - 1))))<aL.length)) then (bif ((decide (0<=v4/\v4<((aH:Nat):Int)))&&true) then (bif (decide ((0+v4.toNat)<aL.length)) then (.to (.h3 v4 0 aJ bB bG bH aH aL (rd aL (0+(Int.toNat (wrap .i64 (v4 - 1))))) (rd aL (0+v4.toNat)) ([]:List R4))) else .stuck) else .stuck) else .stuck) else .stuck) else (bif (decide ((aJ.length:Int)>400)) then (.ret [(.int .i64 8)]) else (bif (Nat.beq 6 6&&(decide (0+aJ.length<=aJ.length)&&Jb (Zz aJ))) then (bif (Vz (B8 R6 (aJ.length) (fun k=>(Zz aJ) (0+k))) (BB l0)) then (bif (!(Jd (B8 R6 (aJ.length) (fun k=>(Zz aJ) (0+k))) (BB l0))) then (.ret [(.int .i64 8)]) else (.ret [(.int .i64 0)])) else .stuck) else .stuck)))
 | .h3 v4 v38 aJ bB bG bH aH aL aW bL aD=>(bif (decide (v38<(l0.length:Int))) then (bif ((decide (0<=v38/\v38<(l0.length:Int)))&&true) then (bif (decide ((rd l0 v38.toNat).c <=aW)) then (bif (decide (aW<(rd l0 v38.toNat).f)) then (bif (Nat.beq 4 4&&((decide (0+aD.length=aD.length))&&decide ((aD.length+1+1)*(32+1)<=Kx))) then (.to (.h3 v4 (wrap .i64 (v38+1)) aJ bB bG bH aH aL aW bL (aD++[(R4.mk (rd l0 v38.toNat).a (rd l0 v38.toNat).b (rd l0 v38.toNat).d (rd l0 v38.toNat).e)]))) else .stuck) else (.to (.h3 v4 (wrap .i64 (v38+1)) aJ bB bG bH aH aL aW bL aD))) else (.to (.h3 v4 (wrap .i64 (v38+1)) aJ bB bG bH aH aL aW bL aD))) else .stuck) else (bif (KU (BB aD)) then (bif ((Ec (BB aD)) != 0) then (.ret [(.int .i64 8)]) else (bif (decide ((((Xk (BB aD)).length :Nat):Int)>0)) then (bif (bH == aW) then (bif (Vy (BB bB) (BB (Xk (BB aD)))) then (bif (Qw (BB bB) (BB (Xk (BB aD)))) then (.to (.h5 bL bG aW (Xk (BB aD)) v4 aJ bB bG bH aH aL aD)) else (.to (.h4 aW bL (Xk (BB aD)) (((Xk (BB aD)).length :Nat):Int) 0 (Xk (BB aD)) v4 aJ (Xk (BB aD)) (aJ.length:Int) aH aL aD))) else .stuck) else (.to (.h4 aW bL (Xk (BB aD)) (((Xk (BB aD)).length :Nat):Int) 0 (Xk (BB aD)) v4 aJ (Xk (BB aD)) (aJ.length:Int) aH aL aD))) else (.to (.h4 aW bL (Xk (BB aD)) (((Xk (BB aD)).length :Nat):Int) 0 (Xk (BB aD)) v4 aJ (Xk (BB aD)) (aJ.length:Int) aH aL aD)))) else .stuck))
 | .h4 v1 v2 v72 v73 v74 aZ aO aB aT aU aH aL aW=>(bif (decide (v74<v73)) then (bif ((decide (0<=v74/\v74<(v72.length:Int)))&&true) then (bif (Nat.beq 6 6&&((decide (0+aB.length=aB.length))&&decide ((aB.length+1+1)*(48+1)<=Kx))) then (.to (.h4 v1 v2 v72 v73 (wrap .i64 (v74+1)) aZ aO (aB++[(R6.mk (rd v72 v74.toNat).a (rd v72 v74.toNat).b v1 (rd v72 v74.toNat).c (rd v72 v74.toNat).d v2)]) aT aU aH aL aW)) else .stuck) else .stuck) else (.to (.h2 (wrap .i64 (aO+1)) aB aT aU v2 aH aL)))
 | .h5 v2 v8 bR aZ aO aB aT aU bN bJ bP aD=>(bif (decide (v8<(aB.length:Int))) then (bif ((decide (0<=v8/\v8<(aB.length:Int)))&&true) then (bif (decide ((0+v8.toNat)<aB.length)) then (.to (.h5 v2 (wrap .i64 (v8+1)) bR aZ aO (aB.set (0+v8.toNat) (R6.mk (rd aB (0+v8.toNat)).a (rd aB (0+v8.toNat)).b (rd aB (0+v8.toNat)).c (rd aB (0+v8.toNat)).d (rd aB (0+v8.toNat)).e v2)) aT aU bN bJ bP aD)) else .stuck) else .stuck) else (.to (.h2 (wrap .i64 (aO+1)) aB aT aU v2 bJ bP)))
def KH (l0:List R6):Wn EA:=(bif (decide ((l0.length:Int)>400)) then (.ret [(.int .i64 4)]) else (.to (.h0 0)))
theorem YY (l0:List R6): ∀s,Wi prog (Zy prog 61) (G7 l0) (G7 l0 s) (Ym l0 s)
 | .h0 v8=>let b:=fl ([]:List Int) nn;(lb (fun k0=>(lo fun aF=>let a:=ww aF (tt k0 nn);(lb (fun k1=>(lb (fun k2=>(lr 25 61 [1,1,0,1,0,0] 1 9 [(2,(ii 8))] (sl Wj 53 [] (a7 [2]) a6 (BQ 3 []) (tt k2 (tt k1 a))))) (fun k2=>(sl Wj 113 [(3,1,Zz ([]:List Int))] ⟨[6,1,7,2,3,4,5,8],[],N9,N7⟩ ⟨[],[.keep,.keep,.cells [.grow 7 1],.keep,.keep,.keep,.keep,.keep],[]⟩ (bl 4 11) (pp b (tt k2 (tt k1 a))))))) (fun k1=>(sl Wj 44 [] ⟨[],[],Et,Ew⟩ a6 (bl 2 1) (tt k1 a)))))) (fun k0=>(sl Wj 82 [(3,1,Zz ([]:List Int))] ⟨[5,0,6,1,2,3,4,7],[],N9,N7⟩ ⟨[],[.keep,.keep,.cells [.grow 7 1],.keep,.keep,.keep,.keep,.keep],[]⟩ (bl 3 4) (pp b (tt k0 nn)))))
 | .h1 v16 aC=>(lb (fun k0=>(lo fun o0=>(lo fun o1=>let j:=rd l0 (tn v16);let b:=aC++[j.c,j.f];let d:=xL (aC.length+2) (aC++[(rd l0 (tn v16)).c,(rd l0 (tn v16)).f]).length;(sl Wj 34 [] ⟨[0,1,2,3,4,5,6,10],[],N9,N7⟩ ⟨[],[.keep,.keep,.cells [.len b.length],.keep,.keep,.keep,.keep,.rowed 1 b.length (Zz b)],[]⟩ [true] (pp d (pp d (pp (xS (aC.length+2) (Zn (Zz aC) 0 aC.length 1 [(ii (rd l0 (tn v16)).c),(ii (rd l0 (tn v16)).f)]) (Zz (aC++[(rd l0 (tn v16)).c,(rd l0 (tn v16)).f]))) (pp (pp (xF (Zn (Zz aC) 0 aC.length 1 [(ii (rd l0 (tn v16)).c),(ii (rd l0 (tn v16)).f)])) nn) (ww o1 (ww o0 (tt k0 nn))))))))))) (fun k0=>(lo fun o0=>(lo fun o1=>let a:=Uj (Yx aC.length (BU (Zz (Vc (Yx aC.length (BU (Zz aC)))))));let e:=xG (Nat.beq 1 1);let g:=xG (decide (aC.length<4611686018427387904));let h:=xG (decide (aC.length=aC.length));let i:=xG (Nat.beq 0 0);(sl Wj 46 [(79,6,Zz ([]:List R6))] ⟨[8,3,4,5,6,2,7,0,1,9],[],Na,N8⟩ ⟨[],(EQ 4 [.cells [.grow 9 6,.list 0 (Zz ([]:List R4)),.keep,.keep],.keep,.rowed 1 a.length (Zz a),.keep,.keep,.keep]),[]⟩ (bl 2 0) (pp (xL aC.length (Uj (Yx aC.length (BU (Zz (Vc (Yx aC.length (BU (Zz aC)))))))).length (by first | exact QG _ _ | exact Jj rfl)) (pp (xS aC.length (Zz (Uj (Yx aC.length (BU (Zz (Vc (Yx aC.length (BU (Zz aC))))))))) (Zz (Uj (Yx aC.length (BU (Zz (Vc (Yx aC.length (BU (Zz aC)))))))))) (pp (fl a (fl ([]:List R6) nn)) (pp (pp e (pp e (pp i (pp h (pp (xG (F4 (Zz (Vc (Yx aC.length (BU (Zz aC))))))) g))))) (pp (pp e (pp e (pp i (pp h (pp (xG (F4 (Zz aC))) g))))) (tt k0 nn)))))))))))
 | .h2 v4 aJ bB bG bH aH aL=>(lb (fun k0=>(lo fun o0=>(lo fun o1=>(lo fun o2=>(lo fun o3=>(sl Wj 48 [(168,4,Zz ([]:List R4))] ⟨[0,1,2,3,4,5,6,7,8,10,11,12,9],[],LW,LU⟩ ⟨[],(EQ 10 [.cells [.grow 11 4],.keep,.keep]),[]⟩ (BQ 3 []) (pp (fl aL (fl ([]:List R4) (fl aJ nn))) (ww o3 (ww o2 (ww o1 (ww o0 (tt k0 nn)))))))))))) (fun k0=>(lb (fun k1=>(lr 25 61 [1,1,1,0,1,1,0,0] 1 9 [(2,(ii 8))] (sl Wj 50 [] (a7 [2]) a6 (bl 7 126) (tt k1 (tt k0 nn))))) (fun k1=>(lo fun bS=>(lo fun cA=>let a:=pp (xw bS) (pp nn nn);let b:=pp (xr l0) (xw cA);let c:=tt k1 (tt k0 nn);(lb (fun k2=>(lr 25 61 [1,1,1,0,1,1,0,0] 1 9 [(2,(ii 8))] (sl Wj 53 [] (a7 [2]) a6 (bl 7 64) (tt k2 (pp (pp a (pp (xI R6 (aJ.length) (fun k=>(Zz aJ) (0+k))) b)) c))))) (fun k2=>(lr 25 3 [1,1,1,1,1,1,0] 1 9 [(2,(ii 0))] (sl Wj 54 [] (a7 [2]) a6 (bl 7 0) (tt k2 (pp (pp a (pp (xI R6 (aJ.length) (fun k=>(Zz aJ) (0+k))) b)) c))))))))))))
 | .h3 v4 v38 aJ bB bG bH aH aL aW bL aD=>(lb (fun k0=>(lo fun aF=>let j:=ww aF (tt k0 nn);let o:=fl aL (fl aD (fl aJ nn));let r:=List.range 13;(lb (fun k1=>(lb (fun k2=>(lo fun o0=>let i:=rd l0 (tn v38);let c:=aD++[(R4.mk i.a i.b i.d i.e)];let f:=xL (aD.length+1) (aD++[(R4.mk (rd l0 (tn v38)).a (rd l0 (tn v38)).b (rd l0 (tn v38)).d (rd l0 (tn v38)).e)]).length;(sl Wj 41 [] ⟨[0,1,2,3,4,5,6,7,8,9,10,15,12],[],LW,LU⟩ ⟨[],(EQ 10 [.cells [.len c.length],.rowed 4 c.length (Zz c),.keep]),[]⟩ (BQ 8 []) (pp f (pp f (pp (xS (aD.length+1) (Zn (Zz aD) 0 aD.length 4 [(ii (rd l0 (tn v38)).a),(ii (rd l0 (tn v38)).b),(ii (rd l0 (tn v38)).d),(ii (rd l0 (tn v38)).e)]) (Zz (aD++[(R4.mk (rd l0 (tn v38)).a (rd l0 (tn v38)).b (rd l0 (tn v38)).d (rd l0 (tn v38)).e)]))) (pp (fl aL (pp (xF (Zn (Zz aD) 0 aD.length 4 [(ii (rd l0 (tn v38)).a),(ii (rd l0 (tn v38)).b),(ii (rd l0 (tn v38)).d),(ii (rd l0 (tn v38)).e)])) (fl aJ nn))) (ww o0 (tt k2 (tt k1 j)))))))))) (fun k2=>(sl Wj 41 [] ⟨r,[],LW,LU⟩ a6 (BQ 7 [false]) (pp o (tt k2 (tt k1 j))))))) (fun k1=>(sl Wj 41 [] ⟨r,[],LW,LU⟩ a6 (bl 8 1) (pp o (tt k1 j))))))) (fun k0=>let h:=xZ (C7 4 4 0 aD.length aD.length (Zz aD)) aD.length (Zz aD);let n:=xS aD.length (Zz aD) (Zz aD);let p:=xL aD.length aD.length;let q:=fl aJ (fl aL nn);(Jo (sl Wj (C':=⟨⟨65,0,true⟩,(Xv prog 102 [1,1,0,1,0,1,0,0] 4),(Zk prog 102 [1,1,0,1,0,1,0,0] 1),(some 0),[],⟨Xd [(2,(.ptr 1 0)),(4,(.ptr 2 0)),(5,(.ptr 3 0)),(6,(.ptr 4 0)),(7,(.ptr 6 0)),(20,(.dat aD.length (Zz aD)))],DT [(1,⟨[.nilf],174,none⟩),(2,⟨[.nils],46,none⟩),(3,⟨[(ii 0)],24,none⟩),(4,⟨[(.sla 5 6 0 aJ.length (.un 6)),(.dat bB.length (Zz bB)),(ii bG),(ii bH)],198,none⟩),(5,⟨rows aJ.length (Zz aJ),79,some ⟨6,aJ.length,(Zz aJ)⟩⟩),(6,⟨[(ii aW),(ii bL),(.sl 7 0 1 (.ex 1))],203,none⟩),(7,⟨[(.dat aD.length (Zz aD))],195,none⟩),(8,⟨[(.sla 9 1 0 aH (.un 1))],83,none⟩),(9,⟨rows aL.length (Zz aL),3,some ⟨1,aL.length,(Zz aL)⟩⟩),(10,⟨[(.sl 11 0 1 (.un 1))],194,none⟩),(11,⟨[(.dat l0.length (Zz l0))],45,none⟩)],12,[],true⟩,[⟨⟨86,0,true⟩,(Xv prog 163 [1,0,0,1,0,0,1,1,0] 2),(Zk prog 163 [1,0,0,1,0,0,1,1,0] 1),none,[],Xd [(0,(.yld 0)),(1,(.ptr 8 0)),(2,(.ptr 10 0)),(4,(ii v4)),(82,(.yld 0)),(83,(.agg [(ii aW),(ii bL),(.sl 7 0 1 (.ex 1))]))]⟩,⟨⟨65,0,true⟩,none,(.inRangeFunc 0::(Zk prog 102 [1,1,0,1,0] 1)),none,(Zy prog 102),Xd [(4,(.ptr 2 0)),(5,(.ptr 3 0)),(6,(.ptr 4 0))]⟩,⟨⟨25,0,true⟩,(Xv prog 61 [1,1,1,0,0] 3),(Zk prog 61 [1,1,1,0,0] 1),none,(Zy prog 9),Xd [(0,(.dat l0.length (Zz l0))),(11,(.agg [.nilf])),(13,(.sl 11 0 1 (.un 1)))]⟩],(DR [(0,⟨.busy,none,65,Xd [(2,(.ptr 1 0)),(4,(.ptr 2 0)),(5,(.ptr 3 0)),(6,(.ptr 4 0))],[15],(Wy prog 102 [1,1,0,1,0,0]),(Wy prog 102 [1,1,0,1,0,1])⟩)])⟩) 37 [] ⟨[0,1,2,3,4,12,13,10,5,6,7,8],[11],[some [2,4,5,6,7,20],some [0,1,2,4,82,83],some [4,5,6],some [0,11,13]],[some [2,4,5,6],none,none,none,none,none,none,none,none,none,none,none]⟩ ⟨[(20,.frz aD.length aD.length (Zz aD) (Zz aD))],[.keep,.keep,.keep,.keep,.keep,.keep,.keep,.cells [.frz aD.length aD.length (Zz aD) (Zz aD)],.keep,.keep,.keep,.keep],[]⟩ (bl 2 0) (pp h (pp p (pp n (pp h (pp p (pp n (pp q (pp (fl aD nn) (tt k0 nn)))))))))) (lo fun aF=>let g:=pp (pp (xr aD) (xw aF)) nn;(lb (fun k1=>(lr 25 61 [1,1,1,0,1,1,0,0] 1 9 [(2,(ii 8))] (sl Wj 67 [] (a7 [2]) a6 (bl 8 254) (tt k1 (tt k1 g))))) (fun k1=>let l:=fl aL (fl aJ nn);(lb (fun k2=>let m:=tt k2 (tt k1 g);(lb (fun k3=>(lo fun bT=>(lb (fun k4=>(sl Wj 75 [] ⟨[4,5,0,1,2,3,8,9,10,11,7],[],Es,Eu⟩ a6 (bl 15 32764) (pp q (tt k4 (pp (pp (xr bB) (pp (xI R4 (Xk (BB aD)).length (Zz (Xk (BB aD)))) (xw bT))) (tt k3 m)))))) (fun k4=>(sl Wj 95 [] ⟨[4,0,1,2,3,8,9,10,11,7,5],[],LX,LV⟩ a6 (bl 15 16380) (pp l (tt k4 (pp (pp (xr bB) (pp (xI R4 (Xk (BB aD)).length (Zz (Xk (BB aD)))) (xw bT))) (tt k3 m))))))))) (fun k3=>(sl Wj 95 [] ⟨[4,0,1,2,3,8,9,10,11,7,5],[],LX,LV⟩ a6 (bl 15 252) (pp l (tt k3 m)))))) (fun k2=>(sl Wj 95 [] ⟨[4,0,1,2,3,8,9,10,11,7,5],[],LX,LV⟩ a6 (bl 15 0) (pp l (tt k2 (tt k1 g))))))))))))
 | .h4 v1 v2 v72 v73 v74 aZ aO aB aT aU aH aL aW=>(lb (fun k0=>(lo fun o0=>(lo fun o1=>let g:=rd v72 (tn v74);let e:=aB++[(R6.mk g.a g.b v1 g.c g.d v2)];let f:=xL (aB.length+1) (aB++[(R6.mk (rd v72 (tn v74)).a (rd v72 (tn v74)).b v1 (rd v72 (tn v74)).c (rd v72 (tn v74)).d v2)]).length;(sl Wj 23 [] ⟨[0,1,2,3,4,5,6,7,8,9,13],[],LX,LV⟩ ⟨[],[.cells [.len e.length,.keep,.keep,.keep],.keep,.keep,.keep,.keep,.keep,.keep,.keep,.keep,.keep,.rowed 6 e.length (Zz e)],[]⟩ [true] (pp f (pp f (pp (xS (aB.length+1) (Zn (Zz aB) 0 aB.length 6 [(ii (rd v72 (tn v74)).a),(ii (rd v72 (tn v74)).b),(ii v1),(ii (rd v72 (tn v74)).c),(ii (rd v72 (tn v74)).d),(ii v2)]) (Zz (aB++[(R6.mk (rd v72 (tn v74)).a (rd v72 (tn v74)).b v1 (rd v72 (tn v74)).c (rd v72 (tn v74)).d v2)]))) (pp (fl aL (pp (xF (Zn (Zz aB) 0 aB.length 6 [(ii (rd v72 (tn v74)).a),(ii (rd v72 (tn v74)).b),(ii v1),(ii (rd v72 (tn v74)).c),(ii (rd v72 (tn v74)).d),(ii v2)])) nn)) (ww o1 (ww o0 (tt k0 nn))))))))))) (fun k0=>(sl Wj 22 [] ⟨[1,2,3,4,0,5,6,7,8,10],[],Na,N8⟩ a6 (bl 2 0) (pp (fl aL (fl aB nn)) (tt k0 nn)))))
 | .h5 v2 v8 bR aZ aO aB aT aU bN bJ bP aD=>(lb (fun k0=>(lo fun o0=>(lo fun o1=>let h:=rd aB (0+(tn v8));let f:=aB.set (0+(tn v8)) (R6.mk h.a h.b h.c h.d h.e v2);let g:=xL aB.length (aB.set (0+(tn v8)) (R6.mk (rd aB (0+(tn v8))).a (rd aB (0+(tn v8))).b (rd aB (0+(tn v8))).c (rd aB (0+(tn v8))).d (rd aB (0+(tn v8))).e v2)).length;(sl Wj 34 [] ⟨(List.range 11),[],Es,Eu⟩ ⟨[],[.cells [.len f.length,.keep,.keep,.keep],.rowed 6 f.length (Zz f),.keep,.keep,.keep,.keep,.keep,.keep,.keep,.keep,.keep],[]⟩ [true] (pp g (pp g (pp (xS aB.length (Xa (Zz aB) (0+(tn v8)) 5 [(ii v2)]) (Zz (aB.set (0+(tn v8)) (R6.mk (rd aB (0+(tn v8))).a (rd aB (0+(tn v8))).b (rd aB (0+(tn v8))).c (rd aB (0+(tn v8))).d (rd aB (0+(tn v8))).e v2)))) (pp (pp (xF (Xa (Zz aB) (0+(tn v8)) 5 [(ii v2)])) (fl bP nn)) (ww o1 (ww o0 (tt k0 nn))))))))))) (fun k0=>(sl Wj 36 [] ⟨[2,3,4,5,0,6,7,8,9,1],[],Na,N8⟩ a6 (bl 2 0) (pp (fl bP (fl aB nn)) (tt k0 nn)))))
theorem Tk (l0:List R6):Wi prog (Zy prog 61) (G7 l0) (startC prog 61 [(.dat l0.length (Zz l0))] true []) (KH l0):=(lb (fun k0=>(lr 25 61 [1,0,1,0,0] 1 9 [(2,(ii 4))] (sl Wj 16 [] (a7 [2]) a6 [true] (tt k0 nn)))) (fun k0=>(sl Wj 40 [] ⟨[],[],Et,Ew⟩ a6 [false] (tt k0 nn))))
theorem VV (l0:List R6) (n:Nat) (vs:List BA) (h:Yr (Ym l0) n (KH l0)=.ret vs):BV prog (Zy prog 61) (startC prog 61 [(.dat l0.length (Zz l0))] true []) vs:=by have:=Yy (YY l0) n _ (Tk l0);rwa [h] at this
theorem TX (l:List R4):(Xk l).length <=400:=by
 grind [Xk]
def D6 :Ch R6 R4:=⟨R6.c,R6.f,fun r=>⟨r.a,r.b,r.d,r.e⟩,fun x x' s=>⟨s.a,s.b,x,s.c,s.d,x'⟩,fun x r=>⟨r.a,r.b,r.c,r.d,r.e,x⟩,Xk,Qw⟩
theorem Hd (l:List R6) (x:Int):(D6.sec l x).length <=1000:=AE (TX _) (by omega)
def B6 :List BA:=[.int .i64 8]
def Io (l out:List R6):List BA:=bif decide ((out.length:Int)>400) then [.int .i64 8] else bif Jd out l then [.int .i64 0] else [.int .i64 8]
def JT (l:List R6) (x:Int):Bool:=Ec (D6.inn l x) != 0
def Dj (l:List R6):Nat->Nat->Bool
 | 0,_=>true
 | k+1,i=>bif JT l (rd (D6.cuts l) i) then false else Dj l k (i+1)
section
variable (l:List R6) (hl:l.length<=400)
include hl
theorem SA (i:Nat) (out:List R6) (last:List R4) (first fin x x':Int): ∀(k j:Nat) (acc:List R4),j+k=l.length->acc.length<=j->
  ∃n,∀N,Yr (Ym l) (N+n) (.to (.h3 (i:Int) (j:Int) out last first fin ((D6.cuts l).length) (Uj (Vc (D6.ends l))) x x' acc))=Yr (Ym l) N (.to (.h3 (i:Int) (l.length:Int) out last first fin ((D6.cuts l).length) (Uj (Vc (D6.ends l))) x x' (acc++D6.inn (l.drop j) x)))
 | 0,j,acc,h,ha=>by refine ⟨0,fun N=> ?_⟩;rw [Ay (by omega),show D6.inn ([]:List R6) x=[] from rfl,AL,A1,show j=l.length by omega]
 | k+1,j,acc,h,ha=>by
  have hj:j<l.length:=by omega
  obtain ⟨n,hn⟩:=SA i out last first fin x x' k (j+1) (acc++D6.inn [rd l j] x) (by omega) (by have:=D6.inn_length [rd l j] x;grind)
  refine ⟨n+1,fun N=> ?_⟩;have e:D6.inn (l.drop j) x=D6.inn [rd l j] x++D6.inn (l.drop (j+1)) x:=by rw [Ys hj,<-D6.inn_append];rfl
  rw [e,<-AF,Zj,<-AG,<-hn N];by_cases h1:D6.lo (rd l j)<=x
  .by_cases h2:x<D6.hi (rd l j)
   .rw [D6.inn_t _ _ h1 h2];simp only [D6] at h1 h2 ⊢;simp (disch:=omega) only [Ym,Xf,Zt,Ze,Yw,Yv,Yh,Yd,Yb,Zr,Za,Zw,Ye,Zp,Aj,Ar,An,Ap,Ah,Ai]
   .rw [D6.inn_f2 _ _ h2,AL];simp only [D6] at h1 h2;simp (disch:=omega) only [Ym,Xf,Xy,Zt,Ze,Yw,Yv,Yh,Yd,Yb,Zr,Za,Zw,Ye,Zp,Aj,Ar,An,Ap,Ah,Ai]
  .rw [D6.inn_f1 _ _ h1,AL];simp only [D6] at h1;simp (disch:=omega) only [Ym,Fb,Zt,Ze,Yw,Yv,Yh,Yd,Yb,Zr,Za,Zw,Ye,Zp,Aj,Ar,An,Ap,Ah,Ai]
theorem SB (i:Nat) (hi:i<=1000) (x x':Int) (s last:List R4) (first:Int) (inn:List R4) (hs:s.length<=1000): ∀(k j:Nat) (out:List R6),j+k=s.length->out.length<=10000000+j->
  ∃n,∀N,Yr (Ym l) (N+n) (.to (.h4 x x' s (s.length:Int) (j:Int) s (i:Int) out last first ((D6.cuts l).length) (Uj (Vc (D6.ends l))) inn))=Yr (Ym l) N (.to (.h2 ((i+1:Nat):Int) (out++(s.drop j).map (D6.put x x')) last first x' ((D6.cuts l).length) (Uj (Vc (D6.ends l)))))
 | 0,j,out,h,ho=>by
  have _u:=hl;refine ⟨1,fun N=> ?_⟩
  grind [Zj,Ym,Za]
 | k+1,j,out,h,ho=>by
  obtain ⟨n,hn⟩:=SB i hi x x' s last first inn hs k (j+1) (out++[D6.put x x' (rd s j)]) (by omega) (by simp;omega)
  refine ⟨n+1,fun N=> ?_⟩;have:=hn N;rw [Ys (show j<s.length by omega),AQ,<-AF,Zj];simp (disch:=omega) only [Ym,Zt,Ze,Yw,Yv,Yh,Yd,Yb,Zr,Za,Zw,Ye,Zp,Aj,Ar,An,Ap,Ah,Ai];rw [AG] at this;exact this
theorem SD (i:Nat) (hi:i<=1000) (x x' fin:Int) (s last:List R4) (first:Int) (inn:List R4): ∀(k j:Nat) (out:List R6),j+k=out.length->out.length<=10000000->
  ∃n,∀N,Yr (Ym l) (N+n) (.to (.h5 x' (j:Int) x s (i:Int) out last first fin ((D6.cuts l).length) (Uj (Vc (D6.ends l))) inn))=Yr (Ym l) N (.to (.h2 ((i+1:Nat):Int) (D6.grow out j x') last first x' ((D6.cuts l).length) (Uj (Vc (D6.ends l)))))
 | 0,j,out,h,ho=>by
  have _u:=hl;refine ⟨1,fun N=> ?_⟩;rw [D6.grow_nil _ _ _ (by omega),Zj]
  grind [Ym,Za]
 | k+1,j,out,h,ho=>by
  obtain ⟨n,hn⟩:=SD i hi x x' fin s last first inn k (j+1) (out.set j (D6.ext x' (rd out j))) (by simp;omega) (by grind)
  refine ⟨n+1,fun N=> ?_⟩;have:=hn N;rw [D6.grow_set out j _ (by omega)] at this;rw [<-AF,Zj];simp (disch:=omega) only [Ym,Zt,Ze,Yw,Yv,Yh,Yd,Yb,Zr,Za,Zw,Ye,Zp,Aj,Ar,An,Ap,Ah,Ai];exact this
theorem ND : ∀(k i:Nat) (s:Sw R6 R4),k=(D6.cuts l).length - 1 - i->i<=(D6.cuts l).length ->s.out.length<=i*1000->s.last.length<=1000->s.first<=s.out.length->
  ∃n,Yr (Ym l) n (.to (.h2 ((i+1:Nat):Int) s.out s.last (s.first:Int) s.fin ((D6.cuts l).length) (Uj (Vc (D6.ends l)))))=.ret ((bif Dj l k i then Io l (D6.go l k i s).out else B6))
 | 0,i,s,h,hi,ho,hla,hf=>by
  have hc:=D6.cuts_length l;refine ⟨1,?_⟩;rw [Zj,show D6.go l 0 i s=s from rfl,show Dj l 0 i=true from rfl,Ah];unfold Io;by_cases q:(s.out.length:Int)>400
  .grind [Ym,Zc]
  .have e:B8 R6 s.out.length (fun k=>(Zz s.out) k)=s.out:=Ze s.out;have w:Vz s.out l=true:=Aq (by omega);have f:Jb (Zz s.out)=true:=Yo _;rcases Wc (Jd s.out l) with q2 | q2 <;>
   simp (disch:=omega) only [Ym,Zt,e,w,f,q2,Xy,Xq,Yh,Ye,Aj,Ax,Aw,An,Ah,Ai,Zc]
 | k +1,i,s,h,hi,ho,hla,hf=>by
  have hc:=D6.cuts_length l;have hi1:i+1<(D6.cuts l).length :=by omega
  have hpl:(Uj (Vc (D6.ends l))).length =2*l.length:=by rw [MM,Kv,D6.ends_length]
  have r0:rd (Uj (Vc (D6.ends l))) i=rd (D6.cuts l) i:=Kl _ _ (by show i<(D6.cuts l).length;omega);have r1:rd (Uj (Vc (D6.ends l))) (i+1)=rd (D6.cuts l) (i+1):=Kl _ _ (by show i+1<(D6.cuts l).length;omega);have hbig:i*1000<=1000*1000:=Av _ (by omega);have hsl:=Hd l (rd (D6.cuts l) i);have hsd:D6.sec l (rd (D6.cuts l) i)=Xk (D6.inn l (rd (D6.cuts l) i)):=rfl;obtain ⟨n3,h3⟩:=SA l hl (i+1) s.out s.last (s.first:Int) s.fin (rd (D6.cuts l) i) (rd (D6.cuts l) (i+1)) l.length 0 [] (Aj _) (Ak _);simp only [AZ,Bg,Dq] at h3;have w1:KU (D6.inn l (rd (D6.cuts l) i))=true:=rfl;have w2:Vy s.last (Xk (D6.inn l (rd (D6.cuts l) i)))=true:=Aq (by omega);have ol:=D6.one_length l (rd (D6.cuts l) i) (rd (D6.cuts l) (i+1)) s;have st0: ∀N,Yr (Ym l) (N+n3+1) (.to (.h2 ((i+1:Nat):Int) s.out s.last (s.first:Int) s.fin ((D6.cuts l).length) (Uj (Vc (D6.ends l)))))=Yr (Ym l) N (.to (.h3 ((i+1:Nat):Int) (l.length:Int) s.out s.last (s.first:Int) s.fin ((D6.cuts l).length) (Uj (Vc (D6.ends l))) (rd (D6.cuts l) i) (rd (D6.cuts l) (i+1)) (D6.inn l (rd (D6.cuts l) i)))):=fun N=>by
   rw [<-h3 N,Zj];have e1:wrap .i64 (((i+1:Nat):Int) - 1)=(i:Int):=by rw [Zf];exact Za (by omega)
   simp (disch:=omega) only [Ym,e1,r0,r1,Zt,Ze,Yw,Yv,Yh,Yd,Yb,Zr,Za,Zw,Ye,Zp,Aj,Ar,An,Ap,Ah,Ai]
  rcases Wc (JT l (rd (D6.cuts l) i)) with q0 | q0
  .refine ⟨1+n3+1,?_⟩;rw [st0 1,Zj];simp only [Dj,q0,Ah,Ai];have q0':(Ec (D6.inn l (rd (D6.cuts l) i)) != 0)=true:=q0;simp (disch:=omega) only [Ym,Zt,Ze,Xy,q0',w1,Ah,Ai,Zc];rfl
  have q0':(Ec (D6.inn l (rd (D6.cuts l) i)) != 0)=false:=q0;rcases Wc (decide (0<(D6.sec l (rd (D6.cuts l) i)).length)&&((s.fin == rd (D6.cuts l) i)&&D6.same s.last (D6.sec l (rd (D6.cuts l) i)))) with q | q
  .obtain ⟨n5,h5⟩:=SD l hl (i+1) (by omega) (rd (D6.cuts l) i) (rd (D6.cuts l) (i+1)) s.fin (D6.sec l (rd (D6.cuts l) i)) s.last (s.first:Int) (D6.inn l (rd (D6.cuts l) i)) (s.out.length - s.first) s.first s.out (by omega) (by omega)
   have e:D6.one l (rd (D6.cuts l) i) (rd (D6.cuts l) (i+1)) s=⟨D6.grow s.out s.first (rd (D6.cuts l) (i+1)),s.last,s.first,rd (D6.cuts l) (i+1)⟩:=by unfold Ch.one;rw [q];rfl
   obtain ⟨n0,h0⟩:=ND k (i+1) (D6.one l (rd (D6.cuts l) i) (rd (D6.cuts l) (i+1)) s) (by omega) (by omega) (by omega) (by grind) (by grind [Ch.grow_length]);refine ⟨n0+n5+1+n3+1,?_⟩;rw [st0 (n0+n5+1),Zj];simp only [Ad,Au] at q;obtain ⟨q1,q2,q3⟩:=q;have q3':Qw s.last (Xk (D6.inn l (rd (D6.cuts l) i)))=true:=q3
   grind [Ym,Zt,Dj,Ch.go]
  .obtain ⟨n4,h4⟩:=SB l hl (i+1) (by omega) (rd (D6.cuts l) i) (rd (D6.cuts l) (i+1)) (D6.sec l (rd (D6.cuts l) i)) (D6.sec l (rd (D6.cuts l) i)) (s.out.length:Int) (D6.inn l (rd (D6.cuts l) i)) hsl (D6.sec l (rd (D6.cuts l) i)).length 0 s.out (Aj _) (by omega);simp only [AZ,Dq] at h4;have e:D6.one l (rd (D6.cuts l) i) (rd (D6.cuts l) (i+1)) s=⟨s.out++(D6.sec l (rd (D6.cuts l) i)).map (D6.put (rd (D6.cuts l) i) (rd (D6.cuts l) (i+1))),D6.sec l (rd (D6.cuts l) i),s.out.length,rd (D6.cuts l) (i+1)⟩:=by unfold Ch.one;rw [q];rfl
   obtain ⟨n0,h0⟩:=ND k (i+1) (D6.one l (rd (D6.cuts l) i) (rd (D6.cuts l) (i+1)) s) (by omega) (by omega) (by omega) (by grind) (by rw [e];simp);have hg:Yr (Ym l) 1 (.to (.h3 ((i+1:Nat):Int) (l.length:Int) s.out s.last (s.first:Int) s.fin ((D6.cuts l).length) (Uj (Vc (D6.ends l))) (rd (D6.cuts l) i) (rd (D6.cuts l) (i+1)) (D6.inn l (rd (D6.cuts l) i))))=.to (.h4 (rd (D6.cuts l) i) (rd (D6.cuts l) (i+1)) (D6.sec l (rd (D6.cuts l) i)) ((D6.sec l (rd (D6.cuts l) i)).length :Int) 0 (D6.sec l (rd (D6.cuts l) i)) ((i+1:Nat):Int) s.out (D6.sec l (rd (D6.cuts l) i)) (s.out.length:Int) ((D6.cuts l).length) (Uj (Vc (D6.ends l))) (D6.inn l (rd (D6.cuts l) i))):=by
    rw [show (1:Nat)=0+1 from rfl,Zj];rw [hsd] at q ⊢;have e3:D6.same s.last (Xk (D6.inn l (rd (D6.cuts l) i)))=Qw s.last (Xk (D6.inn l (rd (D6.cuts l) i))):=rfl;rw [e3] at q;by_cases q1:0<(Xk (D6.inn l (rd (D6.cuts l) i))).length
    .rw [Aq q1,Ap] at q;rcases Wc (s.fin == rd (D6.cuts l) i) with q2 | q2
     .rw [q2,Ap] at q;simp (disch:=omega) only [Ym,Zt,Ze,Xy,Yt,q0',q2,q,w1,w2,Ah,Ai];rfl
     .simp (disch:=omega) only [Ym,Zt,Ze,Xy,Yt,q0',q2,w1,w2,Ah,Ai];rfl
    .simp (disch:=omega) only [Ym,Zt,Ze,Xy,Xq,q0',w1,w2,Ah,Ai];rfl
   refine ⟨n0+n4+1+n3+1,?_⟩;simp_all [Pz,Dj,Ch.go]
theorem Rz : ∀(k i:Nat) (acc:List Int),i+k=l.length->acc=D6.ends (l.take i)-> ∃n,Yr (Ym l) n (.to (.h1 (i:Int) acc))=.ret ((bif Dj l ((D6.cuts l).length - 1) 0 then Io l (D6.go l ((D6.cuts l).length - 1) 0 ⟨[],[],0,0⟩).out else B6))
 | 0,i,acc,h,ha=>by
  have e:acc=D6.ends l:=by grind
  subst e;have hle:=D6.ends_length l;obtain ⟨n,hn⟩:=ND l hl ((D6.cuts l).length - 1) 0 ⟨[],[],0,0⟩ (by omega) (AD _) (AD _) (AD _) (AD _);refine ⟨n+1,?_⟩;rw [Zj];simp (disch:=omega) only [Ym,ML,O2,QZ,Xy,Yd,Yb,Ar,Ah,Ai];exact hn
 | k+1,i,acc,h,ha=>by
  have hle:=D6.ends_length (l.take i);have hacc:acc.length<=2*i:=by grind
  obtain ⟨n,hn⟩:=Rz k (i+1) (acc++D6.ends [rd l i]) (by omega) (by
   rw [ha,Bd];have:l[i]? =some (rd l i):=by grind [Vm]
   rw [this,D6.ends_append];rfl)
  refine ⟨n+1,?_⟩;rw [Zj];simp (disch:=omega) only [Ym,Zt,Ze,Yw,Yv,Yh,Yd,Yb,Zr,Za,Zw,Ye,Zp,Aj,Ar,An,Ap,Ah,Ai];exact hn
theorem Ry : ∀(k i:Nat),i+k=l.length->(∀s∈l.take i,DY s=true)-> ∃n,Yr (Ym l) n (.to (.h0 (i:Int)))=.ret (bif l.all DY then (bif Dj l ((D6.cuts l).length - 1) 0 then Io l (D6.go l ((D6.cuts l).length - 1) 0 ⟨[],[],0,0⟩).out else B6) else B6)
 | 0,i,h,ht=>by
  have hv:l.all DY=true:=Az.2 fun s hs=>ht s (by grind);obtain ⟨n,hn⟩:=Rz l hl l.length 0 [] (Aj _) rfl;refine ⟨n+1,?_⟩
  grind [Zj,Ym]
 | k+1,i,h,ht=>by
  have hi:i<l.length:=by omega
  have hs:Ym l (.h0 (i:Int))=bif DY (rd l i) then .to (.h0 ((i+1:Nat):Int)) else .ret B6:=by have e:DZ (rd l i).a (rd l i).b (rd l i).c (rd l i).d (rd l i).e (rd l i).f =DY (rd l i):=rfl;simp (disch:=omega) only [Ym,e,MV,Mr,RQ,Yv,Za,Zw,Zp,An,Ah,Ai];rfl
  rcases Wc (DY (rd l i)) with q | q
  .obtain ⟨n,hn⟩:=Ry k (i+1) (by omega) (fun s hs=>by
    rw [Bd] at hs
    grind [Vm])
   refine ⟨n+1,?_⟩
   grind [Zj]
  .have hv:l.all DY=false:=AT.2 fun e=>by
    grind [Vm]
   refine ⟨1,?_⟩
   grind [Zj,Zc]
end
def NC (l:List R6):Int:=bif decide (400<l.length) then 4 else bif l.all DY then (bif Dj l ((D6.cuts l).length - 1) 0 then (bif decide (((D6.out l).length :Int)>400) then 8 else bif Jd (D6.out l) l then 0 else 8) else 8) else 8
def XD (l:List R6):Bool:=true
theorem w4b (l:List R6): ∃n,Yr (Ym l) n (KH l)=.ret [.int .i64 (NC l)]:=by
 unfold KH NC;by_cases h:400<l.length
 .refine ⟨0,?_⟩;rw [Aq h,Yt (show (l.length:Int)>400 by omega)];rfl
 .obtain ⟨n,hn⟩:=Ry l (by omega) l.length 0 (Aj _) (fun s hs=>by simp at hs);refine ⟨n,?_⟩;rw [AN h,Xq (show ¬(l.length:Int)>400 by omega),Ai,Ai];rw [Dq] at hn;rw [hn];unfold B6 Io;cases l.all DY <;> simp only [Ah,Ai];cases Dj l ((D6.cuts l).length - 1) 0 <;> simp only [Ah,Ai];show Wn.ret (bif decide (((D6.out l).length :Int)>400) then _ else bif Jd (D6.out l) l then _ else _)=_
  grind
def HG :List BA->Option (BA×Bool)
 | [a1]=>match B2 R6 a1 with
  | some (L1,g1,n1)=>some (.int .i64 (NC L1),BT R6 n1 g1&&XD L1)
  | _=>none
 | _=>none
theorem ZV {S:BC} (hS:Zu prog S):Zu prog (S.with QH HG):=by
 refine CD hS (by kernel_rfl) fun args v h=> ?_;unfold HG at h;split at h
 .rename_i a1;split at h
  .rename_i L1 g1 n1 e1;simp only [Ab,Aa,Ad] at h;obtain ⟨rfl,ho1,hw⟩:=h;obtain ⟨N,hN⟩:=w4b L1;exact ⟨_,_,(.cons (Xb e1 ho1) .nil),rfl,VV L1 N _ hN,3,rfl⟩
  .cases h
 .cases h
def T8 :BC:=SO.with QH HG
theorem Ur :Zu prog T8:=ZV Wj
inductive Cw where
 | h0 (v3:Int)
def NW (l0:List R6):Cw->BJ
 | .h0 v3=>⟨⟨34,0,true⟩,none,(Zk prog 76 [1,1,0,1,0,0] 0),none,(Zy prog 9),⟨Xd [(0,(.dat l0.length (Zz l0))),(3,(ii v3))],Kf [] 0,0,[],true⟩,[],.leaf⟩
def Re :List (Option (List Nat)):=[some [0,3]]
def Rd :List (Option (List Nat)):=[]
def Jy (l0:List R6):Cw->Wn Cw
 | .h0 v3=>(bif (decide (v3<(l0.length:Int))) then (bif ((decide (0<=v3/\v3<(l0.length:Int)))&&true) then (bif (decide ((rd l0 v3.toNat).a >=(-1000000))) then (bif (decide ((rd l0 v3.toNat).b >=(-1000000))) then (bif (decide ((rd l0 v3.toNat).c >=(-1000000))) then (bif (decide ((rd l0 v3.toNat).a <=1000000)) then (bif (decide ((rd l0 v3.toNat).b <=1000000)) then (bif (decide ((rd l0 v3.toNat).c <=1000000)) then (bif (decide ((rd l0 v3.toNat).d >=(-1000000))) then (bif (decide ((rd l0 v3.toNat).e >=(-1000000))) then (bif (decide ((rd l0 v3.toNat).f >=(-1000000))) then (bif (decide ((rd l0 v3.toNat).d <=1000000)) then (bif (decide ((rd l0 v3.toNat).e <=1000000)) then (bif (decide ((rd l0 v3.toNat).f <=1000000)) then (bif (decide ((rd l0 v3.toNat).a <(rd l0 v3.toNat).d)) then (bif (decide ((rd l0 v3.toNat).b <(rd l0 v3.toNat).e)) then (bif (!(decide ((rd l0 v3.toNat).c <(rd l0 v3.toNat).f))) then (.ret [(.int .i64 8)]) else (.to (.h0 (wrap .i64 (v3+1))))) else (.ret [(.int .i64 8)])) else (.ret [(.int .i64 8)])) else (.ret [(.int .i64 8)])) else (.ret [(.int .i64 8)])) else (.ret [(.int .i64 8)])) else (.ret [(.int .i64 8)])) else (.ret [(.int .i64 8)])) else (.ret [(.int .i64 8)])) else (.ret [(.int .i64 8)])) else (.ret [(.int .i64 8)])) else (.ret [(.int .i64 8)])) else (.ret [(.int .i64 8)])) else (.ret [(.int .i64 8)])) else (.ret [(.int .i64 8)])) else .stuck) else (bif (I2 2 (BB l0) ([]:List R6)) then (bif (!(GJ 2 (BB l0) ([]:List R6))) then (.ret [(.int .i64 8)]) else (bif (Vz (BB (Ck 2 (BB l0) ([]:List R6))) (BB l0)) then (bif (!(Jd (BB (Ck 2 (BB l0) ([]:List R6))) (BB l0))) then (.ret [(.int .i64 8)]) else (.ret [(.int .i64 0)])) else .stuck)) else .stuck))
def KR (l0:List R6):Wn Cw:=(bif (decide ((l0.length:Int)>400)) then (.ret [(.int .i64 4)]) else (.to (.h0 0)))
theorem TU (l0:List R6): ∀s,Wi prog (Zy prog 76) (NW l0) (NW l0 s) (Jy l0 s)
 | .h0 v3=>(lb (fun k0=>(lo fun aF=>let f:=ww aF (tt k0 nn);(lb (fun k1=>(lb (fun k2=>let c:=tt k2 (tt k1 f);(lb (fun k3=>let i:=bl 31 1073741824;(lb (fun k4=>let g:=tt k4 (tt k3 c);let l:=bl 28 134217728;(lb (fun k5=>let m:=bl 25 16777216;(lb (fun k6=>let a:=tt k6 (tt k5 g);(lb (fun k7=>(lb (fun k8=>let j:=tt k8 (tt k7 a);(lb (fun k9=>let d:=tt k9 j;(lb (fun k10=>(lb (fun k11=>let b:=tt k11 (tt k10 d);(lb (fun k12=>(lb (fun k13=>let e:=tt k13 (tt k12 b);(lb (fun k14=>(lb (fun k15=>(lr 34 76 [1,1,0,1,0,0,1,0,0,1,0,0] 1 9 [(2,(ii 8))] (sl Ur 158 [] (a7 [2]) a6 (BQ 60 []) (tt k15 (tt k14 e))))) (fun k15=>(sl Ur 162 [] ⟨[],[],Re,Rd⟩ a6 (BQ 59 [false]) (tt k15 (tt k14 e)))))) (fun k14=>(lr 34 76 [1,1,0,1,0,0,1,0,0,1,0,0] 1 9 [(2,(ii 8))] (sl Ur 158 [] (a7 [2]) a6 (BQ 52 (bl 8 128)) (tt k14 e)))))) (fun k13=>(lr 34 76 [1,1,0,1,0,0,1,0,0,1,0,0] 1 9 [(2,(ii 8))] (sl Ur 158 [] (a7 [2]) a6 (BQ 45 (bl 15 16384)) (tt k13 (tt k12 b))))))) (fun k12=>(lr 34 76 [1,1,0,1,0,0,1,0,0,1,0,0] 1 9 [(2,(ii 8))] (sl Ur 158 [] (a7 [2]) a6 (BQ 38 (bl 22 2097152)) (tt k12 b)))))) (fun k11=>(lr 34 76 [1,1,0,1,0,0,1,0,0,1,0,0] 1 9 [(2,(ii 8))] (sl Ur 158 [] (a7 [2]) a6 (BQ 35 m) (tt k11 (tt k10 d))))))) (fun k10=>(lr 34 76 [1,1,0,1,0,0,1,0,0,1,0,0] 1 9 [(2,(ii 8))] (sl Ur 158 [] (a7 [2]) a6 (BQ 32 l) (tt k10 d)))))) (fun k9=>(lr 34 76 [1,1,0,1,0,0,1,0,0,1,0,0] 1 9 [(2,(ii 8))] (sl Ur 158 [] (a7 [2]) a6 (BQ 29 i) (tt k9 j)))))) (fun k8=>(lr 34 76 [1,1,0,1,0,0,1,0,0,1,0,0] 1 9 [(2,(ii 8))] (sl Ur 158 [] (a7 [2]) a6 (BQ 25 (bl 35 17179869184)) (tt k8 (tt k7 a))))))) (fun k7=>(lr 34 76 [1,1,0,1,0,0,1,0,0,1,0,0] 1 9 [(2,(ii 8))] (sl Ur 158 [] (a7 [2]) a6 (BQ 21 (bl 39 274877906944)) (tt k7 a)))))) (fun k6=>(lr 34 76 [1,1,0,1,0,0,1,0,0,1,0,0] 1 9 [(2,(ii 8))] (sl Ur 117 [] (a7 [2]) a6 (BQ 18 m) (tt k6 (tt k5 g))))))) (fun k5=>(lr 34 76 [1,1,0,1,0,0,1,0,0,1,0,0] 1 9 [(2,(ii 8))] (sl Ur 117 [] (a7 [2]) a6 (BQ 15 l) (tt k5 g)))))) (fun k4=>(lr 34 76 [1,1,0,1,0,0,1,0,0,1,0,0] 1 9 [(2,(ii 8))] (sl Ur 117 [] (a7 [2]) a6 (BQ 12 i) (tt k4 (tt k3 c))))))) (fun k3=>(lr 34 76 [1,1,0,1,0,0,1,0,0,1,0,0] 1 9 [(2,(ii 8))] (sl Ur 117 [] (a7 [2]) a6 (BQ 9 (bl 34 8589934592)) (tt k3 c)))))) (fun k2=>(lr 34 76 [1,1,0,1,0,0,1,0,0,1,0,0] 1 9 [(2,(ii 8))] (sl Ur 117 [] (a7 [2]) a6 (BQ 5 (bl 38 137438953472)) (tt k2 (tt k1 f))))))) (fun k1=>(lr 34 76 [1,1,0,1,0,0,1,0,0,1,0,0] 1 9 [(2,(ii 8))] (sl Ur 117 [] (a7 [2]) a6 (bl 43 4398046511105) (tt k1 f))))))) (fun k0=>(lo fun aF=>(lb (fun k1=>(lr 34 76 [1,1,1,1,0,1,0,0] 1 9 [(2,(ii 8))] (sl Ur 37 [] (a7 [2]) a6 (bl 6 62) (tt k1 (pp (pp (xr l0) (pp (xI R6 0 (fun _=>[])) (xw aF))) (tt k0 nn)))))) (fun k1=>(lo fun bS=>let h:=pp (xr l0) (xw bS);(lb (fun k2=>(lr 34 76 [1,1,1,1,0,1,0,0] 1 9 [(2,(ii 8))] (sl Ur 37 [] (a7 [2]) a6 (bl 6 32) (tt k2 (pp (pp (xI R6 (Ck 2 (BB l0) ([]:List R6)).length (Zz (Ck 2 (BB l0) ([]:List R6)))) h) (tt k1 (pp (pp (xr l0) (pp (xI R6 0 (fun _=>[])) (xw aF))) (tt k0 nn)))))))) (fun k2=>(lr 34 3 [1,1,1,1,1,1,0] 1 9 [(2,(ii 0))] (sl Ur 38 [] (a7 [2]) a6 (bl 6 0) (tt k2 (pp (pp (xI R6 (Ck 2 (BB l0) ([]:List R6)).length (Zz (Ck 2 (BB l0) ([]:List R6)))) h) (tt k1 (pp (pp (xr l0) (pp (xI R6 0 (fun _=>[])) (xw aF))) (tt k0 nn)))))))))))))))
theorem UJ (l0:List R6):Wi prog (Zy prog 76) (NW l0) (startC prog 76 [(.dat l0.length (Zz l0))] true []) (KR l0):=(lb (fun k0=>(lr 34 76 [1,0,1,0,0] 1 9 [(2,(ii 4))] (sl Ur 16 [] (a7 [2]) a6 [true] (tt k0 nn)))) (fun k0=>(sl Ur 20 [] ⟨[],[],Re,Rd⟩ a6 [false] (tt k0 nn))))
theorem WZ (l0:List R6) (n:Nat) (vs:List BA) (h:Yr (Jy l0) n (KR l0)=.ret vs):BV prog (Zy prog 76) (startC prog 76 [(.dat l0.length (Zz l0))] true []) vs:=by have:=Yy (TU l0) n _ (UJ l0);rwa [h] at this
def Em (r:R6):Bool:=decide (r.a>= -1000000)&&(decide (r.b>= -1000000)&&(decide (r.c>= -1000000)&&(decide (r.a<=1000000)&&(decide (r.b<=1000000)&&(decide (r.c<=1000000)&&(decide (r.d>= -1000000)&&(decide (r.e>= -1000000)&&(decide (r.f>= -1000000)&&(decide (r.d<=1000000)&&(decide (r.e<=1000000)&&(decide (r.f<=1000000)&&(decide (r.a<r.d)&&(decide (r.b<r.e)&&decide (r.c<r.f))))))))))))))
def Gh (l:List R6):Int:=bif GJ 2 l [] then (bif Jd (Ck 2 l []) l then 0 else 8) else 8
def My (l:List R6):Int:=bif decide (400<l.length) then 4 else bif l.all Em then Gh l else 8
def W0 (l:List R6):Bool:=true
theorem Xl (k:Int) (l m:List R6):(Ck k l m).length <=400\/GJ k l m=false:=by
 grind [Ck,GJ]
section
variable (l:List R6) (hl:l.length<=400)
include hl
theorem RA : ∀(k i:Nat),i+k=l.length->(∀s∈l.take i,Em s=true)-> ∃n,Yr (Jy l) n (.to (.h0 (i:Int)))=.ret [.int .i64 (bif l.all Em then Gh l else 8)]
 | 0,i,h,ht=>by
  have hv:l.all Em=true:=Az.2 fun s hs=>ht s (by grind);have w1:I2 2 l []=true:=Gt (by omega) (by simp);refine ⟨1,?_⟩;rw [Zj,hv,Ah];unfold Gh;rcases Wc (GJ 2 l []) with q | q
  .have w2:Vz (Ck 2 l []) l=true:=Aq (by
    grind [Xl])
   rcases Wc (Jd (Ck 2 l []) l) with q2 | q2 <;>
   simp (disch:=omega) only [Jy,Zt,Xy,q,q2,w1,w2,Ax,Aw,Ah,Ai,Zc]
  grind [Jy,Zt,Zc]
 | k+1,i,h,ht=>by
  have hi:i<l.length:=by omega
  have hs:Jy l (.h0 (i:Int))=bif Em (rd l i) then .to (.h0 ((i+1:Nat):Int)) else .ret [.int .i64 8]:=by simp (disch:=omega) only [Jy,Em,MU,MV,Mr,Yv,Za,Zw,Zp,An,Ah,Ai]
  rcases Wc (Em (rd l i)) with q | q
  .obtain ⟨n,hn⟩:=RA k (i+1) (by omega) (fun s hs=>by
    rw [Bd] at hs
    grind [Vm])
   refine ⟨n+1,?_⟩
   grind [Zj]
  .have hv:l.all Em=false:=AT.2 fun e=>by
    grind [Vm]
   refine ⟨1,?_⟩
   grind [Zj,Zc]
end
theorem VB (l:List R6): ∃n,Yr (Jy l) n (KR l)=.ret [.int .i64 (My l)]:=by
 unfold KR My;by_cases h:400<l.length
 .refine ⟨0,?_⟩;rw [Aq h,Yt (show (l.length:Int)>400 by omega)];rfl
 .obtain ⟨n,hn⟩:=RA l (by omega) l.length 0 (Aj _) (fun s hs=>by simp at hs)
  grind
def HI :List BA->Option (BA×Bool)
 | [a1]=>match B2 R6 a1 with
  | some (L1,g1,n1)=>some (.int .i64 (My L1),BT R6 n1 g1&&W0 L1)
  | _=>none
 | _=>none
theorem ZT {S:BC} (hS:Zu prog S):Zu prog (S.with Q7 HI):=by
 refine CD hS (by kernel_rfl) fun args v h=> ?_;unfold HI at h;split at h
 .rename_i a1;split at h
  .rename_i L1 g1 n1 e1;simp only [Ab,Aa,Ad] at h;obtain ⟨rfl,ho1,hw⟩:=h;obtain ⟨N,hN⟩:=VB L1;exact ⟨_,_,(.cons (Xb e1 ho1) .nil),rfl,WZ L1 N _ hN,3,rfl⟩
  .cases h
 .cases h
def T9 :BC:=T8.with Q7 HI
theorem J2 :Zu prog T9:=ZT Ur
def OZ :BC:=((T9.with Gv EY).with H1 E0).with DJ DK
theorem MS :Zu prog OZ:=Q4 (Q2 (Q3 J2))
inductive E5 where
def H0 (x0:List UInt8) (x1:List UInt8):E5->BJ
 :=nofun
def MX (x0:List UInt8) (x1:List UInt8):E5->Wn E5
 :=nofun
def IY (x0:List UInt8) (x1:List UInt8):Wn E5:=(bif (decide ((x0.length:Int)>=(x1.length:Int))) then (bif (decide ((Int.toNat (wrap .i64 ((x0.length:Int) - (x1.length:Int))))<=x0.length)) then (bif (decide (0<=(wrap .i64 ((x0.length:Int) - (x1.length:Int))))) then (bif (!(((x0.drop (Int.toNat (wrap .i64 ((x0.length:Int) - (x1.length:Int))))).take (x0.length - (Int.toNat (wrap .i64 ((x0.length:Int) - (x1.length:Int)))))) == x1)) then (.ret [(.str x0),(.bool false)]) else (.ret [(.str ((x0.drop 0).take (Int.toNat (wrap .i64 ((x0.length:Int) - (x1.length:Int)))))),(.bool true)])) else .stuck) else .stuck) else (.ret [(.str x0),(.bool false)]))
theorem XV (x0:List UInt8) (x1:List UInt8): ∀s,Wi prog (Zy prog 79) (H0 x0 x1) (H0 x0 x1 s) (MX x0 x1 s)
 :=nofun
theorem Sx (x0:List UInt8) (x1:List UInt8):Wi prog (Zy prog 79) (H0 x0 x1) (startC prog 79 [(.str x0),(.str x1)] true []) (IY x0 x1):=(lb (fun k0=>(lo fun aF=>(lo fun aN=>(lb (fun k1=>(lr 11 3 [1,1,1,1,1,1,0] 1 17 [(4,(.str x0)),(5,(.bool false))] (sl MS 61 [] (a7 [4,5]) a6 (BQ 10 []) (tt k1 (pp (pp nn (pp (xw aN) (pp (xG (decide (x0.length<=x0.length)) (Aq (Ak _))) (xG (decide ((tn (wr ((x0.length:Int) - (x1.length:Int))))<=x0.length)))))) (tt k0 nn)))))) (fun k1=>let a:=xG (decide ((tn (wr ((x0.length:Int) - (x1.length:Int))))<=x0.length));(lr 11 3 [1,1,1,1,1,1,0] 1 17 [(4,(.str ((x0.drop 0).take (tn (wr ((x0.length:Int) - (x1.length:Int))))))),(5,(.bool true))] (sl MS 68 [] (a7 [4,5]) a6 (BQ 9 [false]) (pp (pp (xw aN) (pp nn (pp a (xG (decide (0<=(tn (wr ((x0.length:Int) - (x1.length:Int)))))))))) (tt k1 (pp (pp nn (pp (xw aN) (pp (xG (decide (x0.length<=x0.length)) (Aq (Ak _))) a))) (tt k0 nn))))))))))) (fun k0=>(lr 11 3 [1,1,1,1,1,1,0] 1 17 [(4,(.str x0)),(5,(.bool false))] (sl MS 61 [] (a7 [4,5]) a6 (bl 10 512) (tt k0 nn)))))
theorem w1b (x0:List UInt8) (x1:List UInt8) (n:Nat) (vs:List BA) (h:Yr (MX x0 x1) n (IY x0 x1)=.ret vs):BV prog (Zy prog 79) (startC prog 79 [(.str x0),(.str x1)] true []) vs:=by have:=Yy (XV x0 x1) n _ (Sx x0 x1);rwa [h] at this
theorem XI (x:List UInt8) (k:Nat):(x.drop k).take (x.length - k)=x.drop k:=AV (by rw [Bw];omega)
def Eb (s f:List UInt8):Bool:=decide (f.length<=s.length)&&(s.drop (s.length - f.length) == f)
def Xs (s f:List UInt8):List UInt8:=bif Eb s f then s.take (s.length - f.length) else s
def Kz (s f:List UInt8):Bool:=decide (s.length<=1000000)&&decide (f.length<=1000000)
theorem ZF (s f:List UInt8) (h:Kz s f=true): ∃N,Yr (MX s f) N (IY s f)=.ret [.str (Xs s f),.bool (Eb s f)]:=⟨0,by
 unfold Kz at h;rw [Ad,Au,Au] at h;show IY s f=_;unfold IY Xs Eb;by_cases g:f.length<=s.length
 .have w:wrap .i64 ((s.length:Int) - (f.length:Int))=((s.length - f.length:Nat):Int):=by rw [Za (by omega)];omega
  rw [Aq g,Aq (show (s.length:Int)>=(f.length:Int) by omega),Ah,w,Zp,Ap,XI,Dc (Aq (show s.length - f.length<=s.length by omega)),Dc (Aq (show (0:Int)<=((s.length - f.length:Nat):Int) by omega)),AZ];cases s.drop (s.length - f.length) == f <;> rfl
 .rw [AN g,AN (show ¬(s.length:Int)>=(f.length:Int) by omega)];rfl⟩
def HQ :List BA->Option (BA×Bool)
 | [.str s,.str f]=>some (.tup [.str (Xs s f),.bool (Eb s f)],Kz s f)
 | _=>none
theorem ZP {S:BC} (hS:Zu prog S):Zu prog (S.with JR HQ):=CD hS (by kernel_rfl) fun args v h=>by
 unfold HQ at h;split at h
 .rename_i s f;simp only [Ab,Aa] at h;obtain ⟨rfl,ho⟩:=h;obtain ⟨N,hN⟩:=ZF s f ho;exact ⟨_,_,.cons (.refl _) (.cons (.refl _) .nil),rfl,w1b s f N _ hN,3,rfl⟩
 .cases h
def Sn0 :BC:=SC.with JR HQ
theorem Dd :Zu prog Sn0:=ZP Fd
inductive EO where
 | h0 (v5:List UInt8) (v6:Int)
def Gs (x0:List UInt8) (x1:Int):EO->BJ
 | .h0 v5 v6=>⟨⟨16,0,true⟩,none,(Zk prog 34 [1,1,0,1,0,0] 0),none,(Zy prog 3),⟨Xd [(0,(.str x0)),(1,(ii x1)),(5,(.str v5)),(6,(ii v6))],Kf [] 0,0,[],true⟩,[],.leaf⟩
def F1 :List (Option (List Nat)):=[some [0,1,5,6]]
def F2 :List (Option (List Nat)):=[]
def IU (x0:List UInt8) (x1:Int):EO->Wn EO
 | .h0 v5 v6=>(bif (decide (v6<x1)) then (bif (Nf v5 x0) then (.to (.h0 (v5++x0) (wrap .i64 (v6+1)))) else .stuck) else (.ret [(.str v5)]))
def Pd (x0:List UInt8) (x1:Int):Wn EO:=(.to (.h0 ([]:List UInt8) 0))
theorem YG (x0:List UInt8) (x1:Int): ∀s,Wi prog (Zy prog 34) (Gs x0 x1) (Gs x0 x1 s) (IU x0 x1 s)
 | .h0 v5 v6=>(lb (fun k0=>(lo fun o0=>(sl Dd 24 [] ⟨[],[],F1,F2⟩ a6 [true] (ww o0 (tt k0 nn))))) (fun k0=>(lr 16 3 [1,1,1,1,1,1,0] 1 3 [(4,(.str v5))] (sl Dd 14 [] (a7 [4]) a6 [false] (tt k0 nn)))))
theorem TM (x0:List UInt8) (x1:Int):Wi prog (Zy prog 34) (Gs x0 x1) (startC prog 34 [(.str x0),(.int .i64 x1)] true []) (Pd x0 x1):=(sl Dd 15 [] ⟨[],[],F1,F2⟩ a6 [] nn)
theorem w0b (x0:List UInt8) (x1:Int) (n:Nat) (vs:List BA) (h:Yr (IU x0 x1) n (Pd x0 x1)=.ret vs):BV prog (Zy prog 34) (startC prog 34 [(.str x0),(.int .i64 x1)] true []) vs:=by have:=Yy (YG x0 x1) n _ (TM x0 x1);rwa [h] at this
inductive EL where
 | h1 (v6:Int) (v37:Int)
def Gj (x0:List UInt8):EL->BJ
 | .h1 v6 v37=>⟨⟨213,0,true⟩,none,(Zk prog 12 [1,1,1,0,1,0,0] 0),none,(Zy prog 10),⟨Xd [(0,(.str x0)),(4,(.dat (B7 (Xs x0 ([10]:List UInt8)) ([10]:List UInt8)).length (Zz (B7 (Xs x0 ([10]:List UInt8)) ([10]:List UInt8))))),(5,(.bool (Eb x0 ([10]:List UInt8)))),(6,(ii v6)),(35,(.dat (B7 (Xs x0 ([10]:List UInt8)) ([10]:List UInt8)).length (Zz (B7 (Xs x0 ([10]:List UInt8)) ([10]:List UInt8))))),(36,(ii (((B7 (Xs x0 ([10]:List UInt8)) ([10]:List UInt8)).length :Nat):Int))),(37,(ii v37))],Kf [] 0,0,[],true⟩,[],.leaf⟩
def LN :List (Option (List Nat)):=[some [0,4,5,6,35,36,37]]
def LM :List (Option (List Nat)):=[]
def Qf (x0:List UInt8):EL->Wn EL
 | .h1 v6 v37=>let zA:=(B7 (Xs x0 ([10]:List UInt8)) ([10]:List UInt8));let zB:=(wrap .i64 (v37+1));let zC:=(rd zA v37.toNat);(bif (decide (v37<(zA.length:Int))) then (bif ((decide (0<=v37/\v37<(zA.length:Int)))&&true) then (bif (decide ((zC.length:Int)>=5)) then (bif (decide (5<=zC.length)) then (bif (((zC.drop 0).take 5) == ([110,111,100,101,32]:List UInt8)) then (.to (.h1 (wrap .i64 (v6+1)) zB)) else (.to (.h1 v6 zB))) else .stuck) else (.to (.h1 v6 zB))) else .stuck) else (bif (decide ((x0.length:Int)>60000)) then (.ret [.nils,(.int .i64 4)]) else (bif (decide (v6>200)) then (.ret [.nils,(.int .i64 4)]) else (bif (!(Eb x0 ([10]:List UInt8))) then (.ret [.nils,(.int .i64 12)]) else .stuck))))
def KA (x0:List UInt8):Wn EL:=(bif (x0 == ([]:List UInt8)) then .stuck else (bif (Kz x0 ([10]:List UInt8)) then (bif (Qb (Xs x0 ([10]:List UInt8)) ([10]:List UInt8)) then (.to (.h1 0 0)) else .stuck) else .stuck))
theorem YI (x0:List UInt8): ∀s,Wi prog (Zy prog 12) (Gj x0) (Gj x0 s) (Qf x0 s)
 | .h1 v6 v37=>(lb (fun k0=>(lo fun aF=>let a:=ww aF (tt k0 nn);(lb (fun k1=>(lo fun bS=>(lb (fun k2=>(sl Dd 66 [] ⟨[],[],LN,LM⟩ a6 (BQ 8 []) (tt k2 (pp (pp nn (pp nn (pp (xG (decide (5<=(rd (B7 (Xs x0 ([10]:List UInt8)) ([10]:List UInt8)) (tn v37)).length))) (xG (decide (0<=5)))))) (tt k1 a))))) (fun k2=>(sl Dd 62 [] ⟨[],[],LN,LM⟩ a6 (BQ 7 [false]) (tt k2 (pp (pp nn (pp nn (pp (xG (decide (5<=(rd (B7 (Xs x0 ([10]:List UInt8)) ([10]:List UInt8)) (tn v37)).length))) (xG (decide (0<=5)))))) (tt k1 a)))))))) (fun k1=>(sl Dd 62 [] ⟨[],[],LN,LM⟩ a6 (bl 8 1) (tt k1 a)))))) (fun k0=>(lb (fun k1=>(lr 213 12 [1,1,1,1,0,1,0,0] 1 10 [(2,.nils),(3,(ii 4))] (sl Dd 24 [] (a7 [2,3]) a6 (bl 4 14) (tt k1 (tt k0 nn))))) (fun k1=>let b:=tt k1 (tt k0 nn);(lb (fun k2=>(lr 213 12 [1,1,1,1,0,1,0,0] 1 10 [(2,.nils),(3,(ii 4))] (sl Dd 24 [] (a7 [2,3]) a6 (bl 4 8) (tt k2 b)))) (fun k2=>(lb (fun k3=>(lr 213 12 [1,1,1,1,1,0,1,0,0] 1 10 [(2,.nils),(3,(ii 12))] (sl Dd 32 [] (a7 [2,3]) a6 (bl 5 16) (tt k3 (tt k2 b))))) (fun k3=>trivial))))))))
theorem TR (x0:List UInt8):Wi prog (Zy prog 12) (Gj x0) (startC prog 12 [(.str x0)] true []) (KA x0):=(lb (fun k0=>trivial) (fun k0=>(lo fun o0=>(lo fun o1=>(sl Dd 60 [] ⟨[],[],LN,LM⟩ a6 [false] (ww o1 (ww o0 (tt k0 nn))))))))
theorem U9 (x0:List UInt8) (n:Nat) (vs:List BA) (h:Yr (Qf x0) n (KA x0)=.ret vs):BV prog (Zy prog 12) (startC prog 12 [(.str x0)] true []) vs:=by have:=Yy (YI x0) n _ (TR x0);rwa [h] at this
def Ld (l:List UInt8) (k:Nat):Bool:=List.rec (motive:=fun _=>Nat->Bool) (fun _=>true) (fun _ _ ih k=>Nat.rec (motive:=fun _=>Bool) false (fun k' _=>ih k') k) l k
theorem MF : ∀(l:List UInt8) (k:Nat),Ld l k=true->l.length<=k
 | [],k,_=>AD _
 | a::l,0,h=>by cases h
 | a::l,k+1,h=>Nat.succ_le_succ (MF l k h)
def Bz (s:List UInt8) (n:Nat):List UInt8:=(List.replicate n s).flatten
theorem Ls (s:List UInt8) (n:Nat):Bz s (n+1)=Bz s n++s:=by unfold Bz;rw [List.replicate_succ',List.flatten_append];simp
theorem TL (s:List UInt8) (n:Nat):(Bz s n).length =n*s.length:=by
 induction n with
 | zero=>simp [Bz]
 | succ n ih=>rw [Ls,AX,ih,Nat.succ_mul]
theorem RV {s:List UInt8} (hs:s.length<=10000) {n:Nat} (hn:n<=1000): ∀(k i:Nat),i+k=n-> ∃N,Yr (IU s (n:Int)) N (.to (.h0 (Bz s i) (i:Int)))=.ret [.str (Bz s n)]
 | 0,i,h=>⟨1,by
  have:i=n:=by omega
  subst this;rw [Zj];unfold IU;simp only [];rw [Xy (by omega)];rfl⟩
 | k+1,i,h=>by
  obtain ⟨N,hN⟩:=RV hs hn k (i+1) (by omega);have w2:wrap .i64 ((i:Int)+1)=((i+1:Nat):Int):=Za (by omega);have hl:(Bz s i).length <=10000000:=by rw [TL];exact AE (Nat.mul_le_mul (show i<=1000 by omega) hs) (by omega)
  refine ⟨N+1,?_⟩;rw [Zj,<-hN]
  congr 1
  unfold IU;simp only [w2];rw [Dc (Yw (by omega)),Dc (JC (by omega)),Ls]
def HL :List BA->Option (BA×Bool)
 | [.str s,.int .i64 n]=>some (.str (Bz s n.toNat),Ld s 10000&&(decide (0<=n)&&decide (n<=1000)))
 | _=>none
theorem ZR {S:BC} (hS:Zu prog S):Zu prog (S.with JM HL):=CD hS (by kernel_rfl) fun args v h=>by
 unfold HL at h;split at h
 .rename_i s n;simp only [Ab,Aa,Ad,Au] at h;obtain ⟨rfl,h1,h2,h3⟩:=h;obtain ⟨m,rfl⟩: ∃m:Nat,n=(m:Int):=⟨n.toNat,by omega⟩
  obtain ⟨N,hN⟩:=RV (MF _ _ h1) (n:=m) (by omega) m 0 (Aj _);exact ⟨_,_,.cons (.refl _) (.cons (.refl _) .nil),rfl,w0b s (m:Int) N _ hN,3,rfl⟩
 .cases h
def Cq :List UInt8:=[110,111,100,101,32,97,32,48,32,48,32,48,32,48]
def CP :List UInt8:=[110,111,100,101,32,97,32,48,32,48,32,48,32,48,10]
def G0 :Nat->List UInt8->Bool
 | 0,_=>true
 | k+1,s=>(s.take 15 == CP)&&G0 k (s.drop 15)
theorem QM : ∀(k:Nat) (s:List UInt8),G0 k s=true-> ∃t,s=Bz CP k++t
 | 0,s,_=>⟨s,by simp [Bz]⟩
 | k+1,s,h=>by rw [G0,Ad] at h;obtain ⟨t,ht⟩:=QM k _ h.2;refine ⟨t,?_⟩;have e:=eq_of_beq h.1;rw [<-List.take_append_drop 15 s,ht,e];show CP++(Bz CP k++t)=(List.replicate (k+1) CP).flatten ++t;rw [List.replicate_succ,List.flatten_cons,AG];rfl
def GO (l:List UInt8):Bool:=bif decide ((l.length:Int)>=5) then ((l.drop 0).take 5 == ([110,111,100,101,32]:List UInt8)) else false
theorem HZ (r:List UInt8):CM 10 [] (CP++r)=Cq::CM 10 [] r:=rfl
theorem Q0 : ∀(k:Nat) (r:List UInt8),CM 10 [] (Bz CP k++r)=List.replicate k Cq++CM 10 [] r
 | 0,r=>by simp [Bz]
 | k+1,r=>by
  have e:Bz CP (k+1)++r=CP++(Bz CP k++r):=by show (List.replicate (k+1) CP).flatten ++r=_;rw [List.replicate_succ,List.flatten_cons,AG];rfl
  rw [e,HZ,Q0 k r,List.replicate_succ];rfl
theorem Z9 {s:List UInt8} (h:G0 201 s=true):200<((B7 (Xs s [10]) [10]).filter GO).length :=by
 obtain ⟨t,rfl⟩:=QM 201 s h;have key: ∃u,Xs (Bz CP 201++t) [10]=Bz CP 200++(Cq++u)/\(u=[]\/ ∃v,u=10::v):=by
  have e:Bz CP 201++t=Bz CP 200++(Cq++(10::t)):=by rw [Ls,AG];rfl
  rw [e];unfold Xs;cases g:Eb (Bz CP 200++(Cq++10::t)) [10] with
  | false=>exact ⟨10::t,rfl,.inr ⟨t,rfl⟩⟩
  | true=>
   have hd:(Bz CP 200++(Cq++10::t)).take ((Bz CP 200++(Cq++10::t)).length - ([10]:List UInt8).length)=Bz CP 200++(Cq++(10::t).dropLast):=by rw [List.length_singleton,<-List.dropLast_eq_take,List.dropLast_append_of_ne_nil (by simp),List.dropLast_append_of_ne_nil (by simp)]
   refine ⟨(10::t).dropLast,hd,?_⟩;cases t with
   | nil=>exact .inl rfl
   | cons a t=>exact .inr ⟨(a::t).dropLast,rfl⟩
 obtain ⟨u,e,hu⟩:=key;have e2:B7 (Xs (Bz CP 201++t) [10]) [10]=List.replicate 200 Cq++CM 10 [] (Cq++u):=by show split _ [10]=_;rw [Lu,e,Q0]
 have e3: ∃r,CM 10 [] (Cq++u)=Cq::r:=by
  rcases hu with rfl | ⟨v,rfl⟩
  .exact ⟨[],rfl⟩
  .exact ⟨CM 10 [] v,rfl⟩
 obtain ⟨r,e3⟩:=e3;rw [e2,e3,List.filter_append,AX,List.filter_cons,show GO Cq=true from rfl,AB rfl,AY,List.filter_replicate,show GO Cq=true from rfl,AB rfl,List.length_replicate];omega
section
variable {s:List UInt8} (hL:(B7 (Xs s [10]) [10]).length <=1000001)
include hL
theorem Mw : ∀(k i c:Nat),i+k=(B7 (Xs s [10]) [10]).length ->c<=i->200<c+(((B7 (Xs s [10]) [10]).drop i).filter GO).length -> ∃N,Yr (Qf s) N (.to (.h1 (c:Int) (i:Int)))=.ret [.nils,.int .i64 4]
 | 0,i,c,h,hc,hm=>by
  rw [Ay (by omega)] at hm;have hm:200<c:=hm;refine ⟨1,?_⟩;rw [Zj];have e:Qf s (.h1 (c:Int) (i:Int))=.ret [.nils,.int .i64 4]:=by
   unfold Qf;simp only [];rw [Xy (by omega),Ai];cases decide ((s.length:Int)>60000) with
   | true=>rfl
   | false=>rw [Ai,Dc (Aq (show (c:Int)>200 by omega))]
  rw [e];rfl
 | k+1,i,c,h,hc,hm=>by
  have hi:i<(B7 (Xs s [10]) [10]).length :=by omega
  have w2:wrap .i64 ((i:Int)+1)=((i+1:Nat):Int):=Za (by omega);have w3:wrap .i64 ((c:Int)+1)=((c+1:Nat):Int):=Za (by omega);have e:Qf s (.h1 (c:Int) (i:Int))=bif GO (rd (B7 (Xs s [10]) [10]) i) then .to (.h1 ((c+1:Nat):Int) ((i+1:Nat):Int)) else .to (.h1 (c:Int) ((i+1:Nat):Int)):=by
   unfold Qf GO;simp only [Zp,w2,w3];rw [Dc (Yw (by omega)),An,Dc (Yv (by omega))];by_cases g:((rd (B7 (Xs s [10]) [10]) i).length :Int)>=5
   .rw [Aq g,Ah,Ah,Dc (Aq (by omega))]
   .rw [AN g];rfl
  rw [Ys hi,List.filter_cons] at hm;cases g:GO (rd (B7 (Xs s [10]) [10]) i) with
  | true=>rw [g,AB rfl,AY] at hm;obtain ⟨N,hN⟩:=Mw k (i+1) (c+1) (by omega) (by omega) (by omega);exact ⟨N+1,by rw [Zj,e,g,Ah,hN]⟩
  | false=>rw [g,At (by simp)] at hm;obtain ⟨N,hN⟩:=Mw k (i+1) c (by omega) (by omega) hm;exact ⟨N+1,by rw [Zj,e,g,Ai,hN]⟩
end
theorem w5g {s:List UInt8} (h1:s.length<=1000000) (h2:G0 201 s=true): ∃N,Yr (Qf s) N (KA s)=.ret [.nils,.int .i64 4]:=by
 have hc:(Xs s [10]).length <=s.length:=by
  unfold Xs;cases Eb s [10] with
  | true=>exact AE (List.length_take_le _ _) (by omega)
  | false=>exact Ak _
 have hL:(B7 (Xs s [10]) [10]).length <=1000001:=by show (split _ [10]).length <=_;rw [Lu];exact AE (MI _ _ _) (by omega)
 obtain ⟨N,hN⟩:=Mw hL (B7 (Xs s [10]) [10]).length 0 0 (Aj _) (Ak _) (by rw [AZ,Aj];exact Z9 h2);refine ⟨N,?_⟩;have hne:(s == ([]:List UInt8))=false:=by
  cases s with
  | nil=>cases h2
  | cons a s=>rfl
 have o1:Kz s [10]=true:=by unfold Kz;rw [Aq h1];rfl
 have o2:Qb (Xs s [10]) [10]=true:=by unfold Qb;rw [Aq (show (Xs s [10]).length <4294967281 by omega)];rfl
 unfold KA;rw [hne,Ai,Dc o1,Dc o2];exact hN
def Nm :List BA->Option (BA×Bool)
 | [.str s]=>bif Ld s 1000000&&G0 201 s then some (.tup [.nils,.int .i64 4],true) else none
 | _=>none
theorem HJ {S:BC} (hS:Zu prog S):Zu prog (S.with JH Nm):=CD hS (by kernel_rfl) fun args v h=>by
 unfold Nm at h;split at h
 .rename_i s;cases g:Ld s 1000000&&G0 201 s with
  | false=>rw [g] at h;cases h
  | true=>rw [g,Ah] at h;simp only [Ab,Aa,and_true] at h;subst h;rw [Ad] at g;obtain ⟨N,hN⟩:=w5g (MF _ _ g.1) g.2;exact ⟨_,_,.cons (.refl _) .nil,rfl,U9 s N _ hN,3,rfl⟩
 .cases h
def SN :BC:=((SK.with JW HV).with JM HL).with JH Nm
theorem J4 :Zu prog SN:=HJ (ZR (ZN Qv))
def B3 :BJ:=startC prog 8 [] false []
theorem OD :Ua prog B3 B3:=Ua.refl _
def OM :BJ:=⟨⟨148,0,false⟩,none,(Zk prog 248 [1,1,0,0,0,1,0,1,0,0] 0),none,[],⟨(.node (.sl 32 0 2 (.un 3)) (.o (.z 0)) (.node (.z 2) (.o (.fn 245 [])) .leaf)),(.node (bz [0,0,0,2,1,1] 79) (.node (bk [(.str [97]),(.z (-1)),(.int .u8 9),(.z 1),(.z 0),(.z 0),(.sl 0 0 1 (.ex 1)),(.str [98]),(.z 1),(.int .u8 0),(.z 2),(.z 0),(.z 0),.nils] 48) (.node (bk [(.str [97]),(.z (-1)),(.int .u8 9),(.z 1),(.z 0),(.z 0),(.sl 2 0 1 (.ex 1)),(.str [98,91,49,93]),(.z 0),(.int .u8 0),(.z 2),(.z 0),(.z 0),.nils] 48) (.node (bk [(.z 0)] 24) (.node (bk [(.z 0),(.z 1),(.sl 13 0 1 (.ex 1))] 203) (.m (bk [(.sl 23 0 1 (.un 2)),.nils] 233)) .leaf) (.m (bz [0,1] 260))) (.node (bz [0,1] 3) (.m (bk [(.sl 20 0 2 (.un 1))] 83)) (.m (bk [.nils] 233)))) (.node (bk [.nilf] 174) (.node (bk [(.sl 4 0 1 (.ex 1))] 194) (.m (bk [(.sl 14 0 1 (.un 4))] 195)) (.m (bk [(.fn 229 [])] 245))) (.node (bk [(.sl 14 0 1 (.un 4))] 195) .leaf (.m (bk [(.bool false)] 4))))) (.node (bz [0,0,0,2,1,1] 79) (.node (bk [(.sl 0 0 1 (.ex 1))] 45) (.node (bk [.nils,.nils,(.z 0),(.z 0)] 198) (.node (bk [.nils,.nils,(.z 0),(.z 0)] 235) (.m (bz [0,0,1,1,0,(-1)] 311)) .leaf) (.m (bk [(.z 0),(.z 2),(.sl 22 0 1 (.ex 1))] 240))) (.node none (.m (bz [0,2] 3)) (.m (bk [(.z 0)] 3)))) (.node (bk [.nils] 46) (.node (bk [(.sl 11 0 2 (.un 1))] 83) (.m (bk [(.sl 17 0 1 (.ex 1))] 201)) (.m (bz [0,0] 307))) (.node (bz [0,0,2,1] 168) (.m (bk [(.sl 23 0 1 (.un 2))] 233)) (.m (bk [(.fn 232 [(.ptr 29 0),(.ptr 28 0),(.ptr 27 0)])] 180)))))),33,[],true⟩,[⟨⟨14,0,false⟩,(Xv prog 244 [1] 6),(Zk prog 244 [1] 1),none,[],(.k (.kr (.k (.o (.sl 32 0 2 (.un 3))) (.o (.z 2)))) (.kr (.k (.o (.z 2)) (.o (.fn 245 [])))))⟩,⟨⟨38,0,false⟩,(Xv prog 233 [1,1,1,0] 1),(Zk prog 233 [1,1,1,0] 1),none,(Zy prog 9),(.k (.kr (.o (.sl 32 0 2 (.un 3)))) (.kl (.kr (.kr (.kr (.o (.sl 32 0 2 (.un 3))))))))⟩,⟨⟨42,0,false⟩,(Xv prog 205 [1,1,1,1,1,0,0] 3),(Zk prog 205 [1,1,1,1,1,0,0] 1),none,(Zy prog 7),(.k (.k (.k (.o (.ptr 26 0)) (.o (.ptr 30 0))) (.node (.ptr 25 0) (.o (.ptr 28 0)) .leaf)) (.k (.kr (.node (.ptr 27 0) (.o (.sl 31 0 2 (.ex 2))) .leaf)) (.node .nils (.o (.ptr 29 0)) .leaf)))⟩,⟨⟨11,0,false⟩,(Xv prog 200 [1,1,1,0] 1),(Zk prog 200 [1,1,1,0] 1),none,(Zy prog 10),(.kr (.kl (.kr (.o (.sl 23 0 1 (.un 2))))))⟩,⟨⟨29,0,false⟩,(Xv prog 167 [1,1,0,1,0,1,0,0] 4),(Zk prog 167 [1,1,0,1,0,1,0,0] 1),(some 21),[],(.k (.kl (.o (.ptr 24 0))) (.kr (.node (.ptr 16 0) (.kr (.o (.sl 23 0 1 (.un 2)))) .leaf)))⟩,⟨⟨76,0,false⟩,(Xv prog 225 [1,0,0,1,0,0,1,1,0] 2),(Zk prog 225 [1,0,0,1,0,0,1,1,0] 1),none,[],(.node (.yld 21) (.node (.ptr 19 0) .leaf (.kr (.kl (.kr (.kr (.o (.agg [(.z 0),(.z 2),(.sl 22 0 1 (.ex 1))]))))))) (.node (.ptr 18 0) (.node (.z 1) (.kl (.kr (.kr (.o (.yld 21))))) .leaf) .leaf))⟩,⟨⟨29,0,false⟩,none,(.inRangeFunc 21::(Zk prog 167 [1,1,0,1,0] 1)),none,(Zy prog 10),(.k (.kr (.o (.z 0))) (.node .nils (.o (.ptr 16 0)) .leaf))⟩,⟨⟨13,0,false⟩,(Xv prog 140 [1,1,1,0] 1),(Zk prog 140 [1,1,1,0] 1),none,(Zy prog 10),(.kr (.kl (.kr (.o (.sl 14 0 1 (.un 4))))))⟩,⟨⟨65,0,false⟩,(Xv prog 102 [1,1,0,1,0,1,0,0] 4),(Zk prog 102 [1,1,0,1,0,1,0,0] 1),(some 12),[],(.k (.k (.kr (.o (.ptr 15 0))) (.o (.ptr 7 0))) (.node (.ptr 5 0) (.node (.ptr 6 0) .leaf (.kr (.o (.sl 14 0 1 (.un 4))))) (.o (.ptr 8 0))))⟩,⟨⟨86,0,false⟩,(Xv prog 163 [1,0,0,1,0,0,1,1,0] 2),(Zk prog 163 [1,0,0,1,0,0,1,1,0] 1),none,[],(.node (.yld 12) (.node (.ptr 10 0) (.kl (.kr (.kl (.kr (.o (.agg [(.z 0),(.z 1),(.sl 13 0 1 (.ex 1))])))))) .leaf) (.node (.ptr 9 0) (.o (.z 1)) (.kr (.kr (.kl (.kr (.o (.yld 12))))))))⟩,⟨⟨65,0,false⟩,none,(.inRangeFunc 12::(Zk prog 102 [1,1,0,1,0] 1)),none,(Zy prog 102),(.k (.kl (.o (.ptr 7 0))) (.k (.o (.ptr 6 0)) (.o (.ptr 8 0))))⟩,⟨⟨25,0,false⟩,(Xv prog 61 [1,1,1,0,0] 3),(Zk prog 61 [1,1,1,0,0] 1),none,(Zy prog 9),(.node (.sl 0 0 1 (.ex 1)) (.k (.kl (.o (.agg [.nilf]))) (.kl (.o (.sl 4 0 1 (.ex 1))))) .leaf)⟩,⟨⟨69,0,false⟩,(Xv prog 33 [1,1,0,1,0,0,1,1,0,0,1,0] 2),(Zk prog 33 [1,1,0,1,0,0,1,1,0,0,1,0] 1),none,(Zy prog 9),(.node (.sl 1 0 2 (.ex 2)) (.k (.kr (.kr (.o (.z 0)))) (.kl (.o (.sl 1 0 2 (.ex 2))))) (.k (.kl (.kr (.o (.sl 0 0 1 (.ex 1))))) (.kl (.o (.z 2)))))⟩,⟨⟨264,0,false⟩,(Xv prog 8 [1,1,1,1,1,0] 5),(Zk prog 8 [1,1,1,1,1,0] 1),none,(Zy prog 8),(.k (.k (.o (.sl 3 0 2 (.ex 2))) (.kl (.kl (.kl (.o (.sl 1 0 2 (.ex 2))))))) (.kr (.kl (.kl (.kl (.o (.bool true)))))))⟩],(.node none (.node none .leaf (.node none .leaf (.node none (.node (some ⟨.busy,none,29,(.k (.k (.k (.k .u .u) (.kr .u)) (.k (.kr .u) (.kr .u))) (.k (.node (.ptr 16 0) (.k .u .u) (.kr .u)) (.k (.kr .u) (.kr .u)))),[11],(Wy prog 167 [1,1,0,1,0,0]),(Wy prog 167 [1,1,0,1,0,1])⟩) .leaf .leaf) .leaf))) (.node none (.node none .leaf (.node (some ⟨.busy,none,65,(.k (.k (.k (.k (.k .u .u) (.k .u .u)) (.k (.k .u .u) (.kr .u))) (.node (.ptr 7 0) (.k (.k .u .u) (.k .u .u)) (.k (.k .u .u) (.kr .u)))) (.node (.ptr 5 0) (.node (.ptr 6 0) (.k (.k .u .u) (.k .u .u)) (.k (.k .u .u) (.kr .u))) (.node (.ptr 8 0) (.k (.k .u .u) (.kr .u)) (.k (.k .u .u) (.kr .u))))),[15],(Wy prog 102 [1,1,0,1,0,0]),(Wy prog 102 [1,1,0,1,0,1])⟩) .leaf .leaf)) .leaf))⟩
theorem OC :Ua prog B3 OM:=OD.trans (Wb Ke mixed Qv (n:=6000) (m:=100000) (d:=4) (N:=⟨[2,3,4,5,116,117,118,119,120,121,122,125,126,128,131,132,135,136,137,138,141,142,144,147,148,151,152,153,154,155,156,157,160],[],[some [0,1,2,4],some [7,8,11,12],some [3,34],some [5,6,7,8,9,10,11,16],some [9],some [4,5,16],some [0,1,2,4,72,73],some [2,3,4],some [9],some [2,4,5,6,7,20],some [0,1,2,4,82,83],some [4,5,6],some [0,11,13],some [0,13,14,15,20],some [3,60,61]],[none,none,none,none,none,none,none,none,none,none,none,none,some [2,4,5,6,7,8,9,11,12,15,16,17,18,19,20,21,22,23,24,25,26,27,28,29,30,31,32,33,34,35,36,37,38,39,40,41,42,43,44,45,46,47,48,49,50,51,52,53,54,55,56,57],none,none,none,none,none,none,none,none,some [4,5,6,11,12,13,14,15,16,17,18,19,20,21,22,23,24],none,none,none,none,none,none,none,none,none,none,none]⟩) (by kernel_rfl) rfl (by kernel_rfl)).1
def OL :BJ:=⟨⟨44,0,false⟩,(Xv prog 67 [1,1,0,1,0,0,1,1,0,1,1,0] 6),(Zk prog 67 [1,1,0,1,0,0,1,1,0,1,1,0] 1),none,(Zy prog 9),⟨(.k (.kr (.kr (.kr (.node (.ptr 4 0) (.o (.bool false)) .leaf)))) (.kr (.node (.int .i32 91) .leaf (.kl (.o (.bool true)))))),(.node (bz [0,0,0,2,1,1] 79) (.node (bk [(.str [97]),(.z (-1)),(.int .u8 9),(.z 1),(.z 0),(.z 0),(.sl 0 0 1 (.ex 1)),(.str [98,91,49,93]),(.z 0),(.int .u8 0),(.z 2),(.z 0),(.z 0),.nils] 48) (.m (bk [(.str [98,91,49,93]),(.z 0),(.int .u8 0),(.z 2),(.z 0),(.z 0),.nils] 48)) .leaf) (.node (bk [(.obj (.mb [([97],true)]))] 121) (.m (bk [(.obj (.it [98,91,49,93] 2))] 9)) .leaf)),5,[],true⟩,[⟨⟨69,0,false⟩,(Xv prog 33 [1,1,1,1,0,1,0,0,1,1,0,0,1,0,0] 2),(Zk prog 33 [1,1,1,1,0,1,0,0,1,1,0,0,1,0,0] 1),none,(Zy prog 9),(.node (.sl 1 0 2 (.ex 2)) (.k (.k (.o (.z 1)) (.k (.kr (.o (.str [98,91,49,93]))) (.o (.sl 1 0 2 (.ex 2))))) (.kl (.kl (.o (.z 1))))) (.k (.k (.o (.ptr 3 0)) (.kl (.o (.z 2)))) (.o (.mapr 2))))⟩,⟨⟨264,0,false⟩,(Xv prog 8 [1,1,1,1,1,0] 10),(Zk prog 8 [1,1,1,1,1,0] 1),none,(Zy prog 8),(.k (.kl (.kr (.kr (.kr (.kr (.o (.bool true))))))) (.kl (.kr (.kr (.kr (.kr (.o (.sl 1 0 2 (.ex 2)))))))))⟩],.leaf⟩
theorem OA :Ua prog B3 OL:=OC.trans (Wb Ke mixed Qv (n:=6000) (m:=100000) (d:=4) (N:=⟨[2,3,154,173,174],[],[some [4,15,28,31],some [0,6,7,8,27,28,29,35],some [65,66]],[none,none,none,none,none]⟩) (by kernel_rfl) rfl (by kernel_rfl)).1
def OK :BJ:=⟨⟨213,0,false⟩,none,(Zk prog 12 [1,1,1,0,1,0,0,0] 1),none,(Zy prog 10),⟨(.node (.str [98,111,120,32,48,32,48,32,48,32,49,32,49,32,49,10]) (.k (.kl (.kr (.kr (.o (.dat 1 (Zz ([[98,111,120,32,48,32,48,32,48,32,49,32,49,32,49]]:List (List UInt8)))))))) (.node (.bool true) .leaf (.kr (.kr (.o (.z 1)))))) (.k (.node (.dat 1 (Zz ([[98,111,120,32,48,32,48,32,48,32,49,32,49,32,49]]:List (List UInt8)))) .leaf (.kr (.kr (.o (.z 1))))) (.node (.z 0) .leaf (.kr (.kr (.o (.bool false))))))),(.m (bk [(.str [110,111,100,101]),(.str [110,111,100,101,32,97,32,57,32,49,32,48,32,48]),(.str [110,111,100,101,32,97,32,50,52,32,48,32,48,32,48,10]),(.str [110,111,100,101,32,97,32,48,32,48,32,48,10]),(.str [110,111,100,101,32,32,48,32,48,32,48,32,48,10]),(.str [110,111,100,101,32,97,32,48,32,48,49,32,48,32,48,10]),(.str [110,111,100,101,32,97,32,48,32,45,48,32,48,32,48,10]),(.str [110,111,100,101,32,97,32,48,32,49,48,48,48,48,48,48,48,32,48,32,48,10]),(.str [98,111,120,32,48,32,48,32,48,32,49,32,49,32,49,10]),(.str [10]),(.str [110,111,100,101,32,97,32,48,32,48,32,48,32,48,10,98,111,120,32,48,32,48,32,48,32,49,32,49,10]),(.str [110,111,100,101,32,97,32,48,32,48,32,48,32,48,32,10]),(.str [110,111,100,101,32,65,32,48,32,48,32,48,32,48,10]),(.str [107,110,111,116,32,97,32,48,32,48,32,48,32,48,10])] 9)),1,[],true⟩,[⟨⟨264,0,false⟩,(Xv prog 8 [1,1,1,1,1,1,1,0,1,0,0,1,0,0,0] 4),(Zk prog 8 [1,1,1,1,1,1,1,0,1,0,0,1,0,0,0] 1),none,(Zy prog 8),(.k (.kl (.o (.sl 0 0 14 (.ex 14)))) (.k (.o (.bool true)) (.node (.z 8) (.kl (.kl (.kr (.o (.str [98,111,120,32,48,32,48,32,48,32,49,32,49,32,49,10]))))) .leaf)))⟩],.leaf⟩
theorem Nz :Ua prog B3 OK:=OA.trans (Wb Ke mixed Qv (n:=6000) (m:=100000) (d:=4) (N:=⟨[7],[],[some [0,4,5,6,35,36,37,38],some [4,5,6,90]],[none]⟩) (by kernel_rfl) rfl (by kernel_rfl)).1
def OJ :BJ:=⟨⟨44,0,false⟩,(Xv prog 67 [1,1,0,1,0,0,1,1,0,0] 2),(Zk prog 67 [1,1,0,1,0,0,1,1,0,0] 1),none,(Zy prog 9),⟨(.k (.kr (.k (.kr (.o (.ptr 5 0))) (.kr (.o (.int .i32 97))))) (.kl (.kr (.kr (.o (.z 0)))))),(.node (bk [(.str []),(.z 0),(.int .u8 0),(.z 0),(.z 0),(.z 0),.nils] 48) (.node (bk [(.z 0)] 3) .leaf (.m (bk [(.obj (.it [97] 1))] 9))) (.node (bk [(.z 0)] 24) (.m (bk [(.str []),(.z 0)] 144)) .leaf)),6,[],true⟩,[⟨⟨82,0,false⟩,(Xv prog 84 [1,1,0,1,0,0] 6),(Zk prog 84 [1,1,0,1,0,0] 1),none,(Zy prog 84),(.k (.kl (.kl (.kl (.o (.bool true))))) (.node (.ptr 4 0) .leaf (.k (.kl (.o (.agg [(.str [97]),(.z (-1))]))) (.kl (.o (.str [97]))))))⟩,⟨⟨24,0,false⟩,(Xv prog 45 [1,1,0,1,0,1,0,0] 1),(Zk prog 45 [1,1,0,1,0,1,0,0] 1),(some 3),[],(.kl (.node (.ptr 2 0) .leaf (.kr (.kr (.o (.str [97]))))))⟩,⟨⟨20,0,false⟩,(Xv prog 121 [1,0,0,1,0,1,1,0] 2),(Zk prog 121 [1,0,0,1,0,1,1,0] 1),none,[],(.node (.yld 3) (.k (.o (.str [])) (.kr (.kr (.o (.str [97]))))) (.kr (.node (.bool false) (.kr (.o (.yld 3))) .leaf)))⟩,⟨⟨24,0,false⟩,none,(.inRangeFunc 3::(Zk prog 45 [1,1,0,1,0] 1)),none,(Zy prog 45),(.kl (.o (.ptr 2 0)))⟩,⟨⟨213,0,false⟩,(Xv prog 12 [1,1,1,1,1,1,1,1,0,1,0,0,1,1,0,0,1,1,0,1,0,1,1,0,0] 8),(Zk prog 12 [1,1,1,1,1,1,1,1,0,1,0,0,1,1,0,0,1,1,0,1,0,1,1,0,0] 1),none,(Zy prog 10),(.k (.k (.kr (.k (.o (.ptr 1 0)) (.kl (.o (.dat 2 (Zz ([[110,111,100,101,32,97,32,48,32,48,32,48,32,48],[110,111,100,101,32,97,32,48,32,48,32,48,32,48]]:List (List UInt8)))))))) (.k (.node .nils .leaf (.kl (.o (.z 0)))) (.node (.dat 6 (Zz ([[110,111,100,101],[97],[48],[48],[48],[48]]:List (List UInt8)))) .leaf (.kr (.kr (.o (.bool false))))))) (.k (.kr (.k (.kl (.kr (.o (.str [97])))) (.kl (.o (.z 2))))) (.k (.o .nils) (.o (.ptr 0 0)))))⟩,⟨⟨264,0,false⟩,(Xv prog 8 [1,1,1,1,1,1,1,1,1,0] 0),(Zk prog 8 [1,1,1,1,1,1,1,1,1,0] 1),none,(Zy prog 8),(.kl (.k (.o (.bool true)) (.kr (.o (.z 6)))))⟩],(.node none (.node none (.node (some ⟨.busy,none,24,(.k (.k (.k (.kl .u) (.kr .u)) (.k (.kr .u) (.kr .u))) (.node (.ptr 2 0) (.k (.kr .u) (.kr .u)) (.k (.kr .u) (.kr .u)))),[16],(Wy prog 45 [1,1,0,1,0,0]),(Wy prog 45 [1,1,0,1,0,1])⟩) .leaf .leaf) .leaf) .leaf)⟩
theorem Ny :Ua prog B3 OJ:=Nz.trans (Wb Ke mixed Qv (n:=6000) (m:=100000) (d:=4) (N:=⟨[52,53,54,56,57,59],[],[some [15,18,19],some [2,26,29,30],some [2,18],some [0,3,4,16,17],some [2],some [9,10,13,14,15,55,56,57,77,80],some [4,10]],[none,none,none,some [2,3,4,5,16,17,18,19,20,21,22,23],none,none]⟩) (by kernel_rfl) rfl (by kernel_rfl)).1
def OI :BJ:=⟨⟨24,0,false⟩,(Xv prog 45 [1,0,0] 1),(Zk prog 45 [1,0,0] 1),none,(Zy prog 45),⟨(.node (.str [97,47,98]) .leaf (.node (.ptr 2 0) .leaf (.o (.str [97,47,98])))),(.node (bk [(.str []),(.z 0),(.int .u8 0),(.z 0),(.z 0),(.z 0),.nils] 48) (.m (bk [(.z 0)] 3)) (.m (bk [(.z 0)] 24))),3,[],true⟩,[⟨⟨213,0,false⟩,(Xv prog 12 [1,1,1,1,1,1,1,1,0,1,0,0,1,1,0,0,1,1,0,1,0,1,1,0,0] 8),(Zk prog 12 [1,1,1,1,1,1,1,1,0,1,0,0,1,1,0,0,1,1,0,1,0,1,1,0,0] 1),none,(Zy prog 10),(.k (.k (.kr (.k (.o (.ptr 1 0)) (.kl (.o (.dat 2 (Zz ([[110,111,100,101,32,97,47,98,32,48,32,48,32,48,32,48],[107,110,111,116]]:List (List UInt8)))))))) (.k (.node .nils .leaf (.kl (.o (.z 0)))) (.node (.dat 6 (Zz ([[110,111,100,101],[97,47,98],[48],[48],[48],[48]]:List (List UInt8)))) .leaf (.kr (.kr (.o (.bool false))))))) (.k (.kr (.k (.kl (.kr (.o (.str [97,47,98])))) (.kl (.o (.z 2))))) (.k (.o .nils) (.o (.ptr 0 0)))))⟩,⟨⟨264,0,false⟩,(Xv prog 8 [1,1,1,1,1,1,1,1,1,1,1,0] 0),(Zk prog 8 [1,1,1,1,1,1,1,1,1,1,1,0] 1),none,(Zy prog 8),(.kl (.k (.node (.bool true) .leaf (.o (.z 8))) (.k (.o (.z 6)) (.o (.z 8)))))⟩],.leaf⟩
theorem Nx :Ua prog B3 OI:=Ny.trans (Wb Ke mixed Qv (n:=6000) (m:=100000) (d:=4) (N:=⟨[98,99,100],[],[some [0,2,6],some [9,10,13,14,15,55,56,57,77,80],some [4,10,12,14]],[none,none,none]⟩) (by kernel_rfl) rfl (by kernel_rfl)).1
def OH :BJ:=⟨⟨24,0,false⟩,(Xv prog 45 [1,1,0,1,0,1,0,0] 6),(Zk prog 45 [1,1,0,1,0,1,0,0] 1),(some 4),[],⟨(.k (.kl (.kl (.kr (.o (.bool true))))) (.node (.ptr 3 0) (.node (.ptr 5 0) .leaf (.kr (.o (.agg [(.str [97]),(.z (-1))])))) .leaf)),(.node (bz [0,0,0,2,1,1] 79) (.node (bk [(.str [97]),(.z (-1)),(.int .u8 9),(.z 1),(.z 0),(.z 0),(.sl 0 0 1 (.ex 1)),(.str [98]),(.z 0),(.int .u8 0),(.z 2),(.z 0),(.z 0),.nils] 48) (.m (bk [(.z 0)] 24)) (.m (bk [(.str []),(.z 0)] 144))) (.m (bk [(.obj (.mb [([97],true)]))] 121))),6,[],true⟩,[⟨⟨20,0,false⟩,(Xv prog 121 [1,0,0,1,0,1,1,0] 2),(Zk prog 121 [1,0,0,1,0,1,1,0] 1),none,[],(.node (.yld 4) (.k (.o (.str [98])) (.kr (.kr (.o (.str [97]))))) (.kr (.node (.bool true) (.kr (.o (.yld 4))) .leaf)))⟩,⟨⟨24,0,false⟩,none,(.inRangeFunc 4::(Zk prog 45 [1,1,0,1,0] 1)),none,(Zy prog 45),(.kl (.o (.ptr 3 0)))⟩,⟨⟨69,0,false⟩,(Xv prog 33 [1,1,1,1,0,1,0,0,1,1,0,0,1,1,1,0,0] 5),(Zk prog 33 [1,1,1,1,0,1,0,0,1,1,0,0,1,1,1,0,0] 1),none,(Zy prog 9),(.node (.sl 1 0 2 (.ex 2)) (.k (.kl (.kl (.o (.sl 1 0 2 (.ex 2))))) (.k (.o (.str [97,47,98])) (.kl (.node (.z 1) .leaf (.o (.bool false)))))) (.k (.kl (.kl (.o (.z 2)))) (.node (.mapr 2) .leaf (.kl (.kl (.o (.str [97,47,98])))))))⟩,⟨⟨19,0,false⟩,(Xv prog 54 [1,0,0] 1),(Zk prog 54 [1,0,0] 1),none,(Zy prog 3),(.node (.sl 1 0 2 (.ex 2)) (.o (.z 2)) (.kl (.o (.sl 1 0 2 (.ex 2)))))⟩,⟨⟨16,0,false⟩,(Xv prog 17 [1,0,0] 2),(Zk prog 17 [1,0,0] 1),none,(Zy prog 17),(.node (.sl 1 0 2 (.ex 2)) (.node (.z 2) (.kr (.o (.sl 1 0 2 (.ex 2)))) .leaf) (.kr (.kr (.o (.z 2)))))⟩,⟨⟨264,0,false⟩,(Xv prog 8 [1,1,1,1,1,1,1,1,1,1,1,1,1,0] 1),(Zk prog 8 [1,1,1,1,1,1,1,1,1,1,1,1,1,0] 1),none,(Zy prog 8),(.k (.kl (.k (.kr (.o .nils)) (.kr (.kl (.kl (.o (.sl 1 0 2 (.ex 2)))))))) (.k (.node (.bool true) (.kr (.o (.z 12))) (.o (.z 8))) (.k (.node (.z 6) (.o (.z 0)) .leaf) (.o (.z 8)))))⟩],(.node none .leaf (.node none (.node (some ⟨.busy,none,24,(.k (.k (.k (.kl .u) (.kr .u)) (.k (.kr .u) (.kr .u))) (.node (.ptr 3 0) (.k (.kr .u) (.kr .u)) (.k (.kr .u) (.kr .u)))),[16],(Wy prog 45 [1,1,0,1,0,0]),(Wy prog 45 [1,1,0,1,0,1])⟩) .leaf .leaf) .leaf))⟩
theorem Nw :Ua prog B3 OH:=Nx.trans (Wb Ke mixed Qv (n:=6000) (m:=100000) (d:=4) (N:=⟨[18,19,95,128,130,134],[],[some [2,4,20,21],some [0,3,4,16,17],some [2],some [0,6,9,27,28,29,61,62],some [0,1,6],some [0,1,7,8],some [4,10,12,14,16,17,18,117]],[none,none,none,none,some [2,3,4,5,16,17,18,19,20,21,22,23],none]⟩) (by kernel_rfl) rfl (by kernel_rfl)).1
def OG :BJ:=⟨⟨20,0,false⟩,none,(Zk prog 36 [0] 0),none,(Zy prog 3),⟨(.node (.sl 1 0 2 (.ex 2)) (.o (.z 0)) .leaf),(.node (bz [0,0,0,2,1,1] 79) (.m (bk [(.str [97]),(.z (-1)),(.int .u8 9),(.z 1),(.z 0),(.z 0),(.sl 0 0 1 (.ex 1)),(.str [98]),(.z 0),(.int .u8 0),(.z 2),(.z 0),(.z 0),.nils] 48)) .leaf),2,[],true⟩,[⟨⟨31,0,false⟩,(Xv prog 18 [1,1,1,0,1,0,0,1,1,0,0,1,0] 2),(Zk prog 18 [1,1,1,0,1,0,0,1,1,0,0,1,0] 1),none,(Zy prog 17),(.node (.sl 1 0 2 (.ex 2)) (.node (.str [98]) .leaf (.k (.kl (.o (.z 0))) (.kr (.o (.z 0))))) (.kr (.k (.node (.z 0) .leaf (.o (.sl 1 0 2 (.ex 2)))) (.kr (.o (.z 2))))))⟩,⟨⟨264,0,false⟩,(Xv prog 8 [1,1,1,1,1,1,1,1,1,1,1,1,1,1,0] 1),(Zk prog 8 [1,1,1,1,1,1,1,1,1,1,1,1,1,1,0] 1),none,(Zy prog 8),(.k (.kl (.kr (.kr (.o .nils)))) (.k (.node (.bool true) (.kr (.o (.z 12))) (.node (.z 8) (.o (.z 2)) .leaf)) (.k (.node (.z 6) (.o (.z 0)) (.kl (.kl (.o (.sl 1 0 2 (.ex 2)))))) (.o (.z 8)))))⟩],.leaf⟩
theorem Nv :Ua prog B3 OG:=Nw.trans (Wb Ke mixed Qv (n:=6000) (m:=100000) (d:=4) (N:=⟨[10,11],[],[some [0,1],some [0,1,8,20,21,24,25],some [4,10,12,14,16,17,18,20,122]],[none,none]⟩) (by kernel_rfl) rfl (by kernel_rfl)).1
def OF :BJ:=⟨⟨44,0,false⟩,none,(Zk prog 67 [1,0,1,0] 0),none,(Zy prog 9),⟨.leaf,(.node (bz [0,0,0,2,1,1] 79) (.m (bk [(.str [97]),(.z (-1)),(.int .u8 9),(.z 1),(.z 0),(.z 0),(.sl 0 0 1 (.ex 1)),(.str [98]),(.z 0),(.int .u8 0),(.z 2),(.z 0),(.z 0),.nils] 48)) (.node (bk [(.z 0)] 24) (.m (bk [(.str []),(.z 0)] 144)) .leaf)),5,[],true⟩,[⟨⟨82,0,false⟩,(Xv prog 84 [1,1,0,0] 1),(Zk prog 84 [1,1,0,0] 1),none,(Zy prog 84),(.k (.kl (.o (.str []))) (.node (.ptr 4 0) (.o (.str [])) (.node (.bool false) (.kr (.o (.str []))) .leaf)))⟩,⟨⟨24,0,false⟩,(Xv prog 45 [1,1,0,1,0,1,0,0] 1),(Zk prog 45 [1,1,0,1,0,1,0,0] 1),(some 3),[],(.kl (.node (.ptr 2 0) .leaf (.kr (.kr (.o (.str []))))))⟩,⟨⟨20,0,false⟩,(Xv prog 121 [1,0,0,1,0,1,1,0] 2),(Zk prog 121 [1,0,0,1,0,1,1,0] 1),none,[],(.node (.yld 3) (.k (.o (.str [])) (.kr (.kr (.o (.str []))))) (.kr (.node (.bool false) (.kr (.o (.yld 3))) .leaf)))⟩,⟨⟨24,0,false⟩,none,(.inRangeFunc 3::(Zk prog 45 [1,1,0,1,0] 1)),none,(Zy prog 45),(.kl (.o (.ptr 2 0)))⟩,⟨⟨31,0,false⟩,(Xv prog 18 [1,1,0,0] 1),(Zk prog 18 [1,1,0,0] 1),none,(Zy prog 17),(.node (.sl 1 0 2 (.ex 2)) (.o (.str [97,47])) (.kl (.kl (.o (.str [97,47])))))⟩,⟨⟨264,0,false⟩,(Xv prog 8 [1,1,1,1,1,1,1,1,1,1,1,1,1,1,1,0] 1),(Zk prog 8 [1,1,1,1,1,1,1,1,1,1,1,1,1,1,1,0] 1),none,(Zy prog 8),(.k (.k (.kr (.kr (.kr (.kr (.kr (.o (.sl 1 0 2 (.ex 2)))))))) (.kr (.kr (.o .nils)))) (.k (.node (.bool true) (.kr (.o (.z 12))) (.node (.z 8) (.o (.z 2)) .leaf)) (.k (.node (.z 6) (.o (.z 0)) .leaf) (.node (.z 8) (.o (.z 6)) .leaf))))⟩],(.node none (.node none (.node (some ⟨.busy,none,24,(.k (.k (.k (.kl .u) (.kr .u)) (.k (.kr .u) (.kr .u))) (.node (.ptr 2 0) (.k (.kr .u) (.kr .u)) (.k (.kr .u) (.kr .u)))),[16],(Wy prog 45 [1,1,0,1,0,0]),(Wy prog 45 [1,1,0,1,0,1])⟩) .leaf .leaf) .leaf) .leaf)⟩
theorem Nu :Ua prog B3 OF:=Nv.trans (Wb Ke mixed Qv (n:=6000) (m:=100000) (d:=4) (N:=⟨[19,20,140,142,147],[],[some [],some [2,4,5,6,18],some [2,18],some [0,3,4,16,17],some [2],some [0,1,14],some [4,10,12,14,16,17,18,20,22,127]],[none,none,none,some [2,3,4,5,16,17,18,19,20,21,22,23],none]⟩) (by kernel_rfl) rfl (by kernel_rfl)).1
def OE :BJ:=⟨⟨65,0,false⟩,none,(Zk prog 102 [1,1,0,1,0,1,0] 0),(some 10),[],⟨(.k (.k (.kr (.o (.ptr 13 0))) (.o (.ptr 5 0))) (.node (.ptr 3 0) (.o (.ptr 4 0)) (.o (.ptr 6 0)))),(.node (bz [0,0,0,2,1,1] 79) (.node (bk [(.str [97]),(.z (-1)),(.int .u8 9),(.z 0),(.z 999999),(.z 0),(.sl 0 0 1 (.ex 1)),(.str [98]),(.z 0),(.int .u8 0),(.z 2),(.z 0),(.z 0),.nils] 48) (.node (bk [.nilf] 174) (.m (bk [(.sl 2 0 1 (.ex 1))] 194)) (.m (bk [(.sl 12 0 1 (.un 4))] 195))) (.node (bk [(.z 0)] 24) (.m (bz [0,1] 3)) (.m (bk [(.z 0),(.z 1),(.sl 11 0 1 (.ex 1))] 203)))) (.node (bk [(.sl 0 0 1 (.ex 1))] 45) (.node (bk [.nils] 46) (.m (bk [(.sl 9 0 2 (.un 1))] 83)) (.m (bz [0,0,2,1] 168))) (.m (bk [.nils,.nils,(.z 0),(.z 0)] 198)))),14,[],true⟩,[⟨⟨86,0,false⟩,(Xv prog 163 [1,0,0,1,0,0,1,1,0] 2),(Zk prog 163 [1,0,0,1,0,0,1,1,0] 1),none,[],(.node (.yld 10) (.node (.ptr 8 0) (.kl (.kr (.kl (.kr (.o (.agg [(.z 0),(.z 1),(.sl 11 0 1 (.ex 1))])))))) .leaf) (.node (.ptr 7 0) (.o (.z 1)) (.kr (.kr (.kl (.kr (.o (.yld 10))))))))⟩,⟨⟨65,0,false⟩,none,(.inRangeFunc 10::(Zk prog 102 [1,1,0,1,0] 1)),none,(Zy prog 102),(.k (.kl (.o (.ptr 5 0))) (.k (.o (.ptr 4 0)) (.o (.ptr 6 0))))⟩,⟨⟨25,0,false⟩,(Xv prog 61 [1,1,1,0,0] 3),(Zk prog 61 [1,1,1,0,0] 1),none,(Zy prog 9),(.node (.sl 0 0 1 (.ex 1)) (.k (.kl (.o (.agg [.nilf]))) (.kl (.o (.sl 2 0 1 (.ex 1))))) .leaf)⟩,⟨⟨69,0,false⟩,(Xv prog 33 [1,1,0,1,0,0,1,1,0,0,1,0] 2),(Zk prog 33 [1,1,0,1,0,0,1,1,0,0,1,0] 1),none,(Zy prog 9),(.node (.sl 1 0 2 (.ex 2)) (.k (.kr (.kr (.o (.z 0)))) (.kl (.o (.sl 1 0 2 (.ex 2))))) (.k (.kl (.kr (.o (.sl 0 0 1 (.ex 1))))) (.kl (.o (.z 2)))))⟩,⟨⟨68,0,false⟩,(Xv prog 29 [1,0,0] 1),(Zk prog 29 [1,0,0] 1),none,(Zy prog 10),(.node (.sl 1 0 2 (.ex 2)) .leaf (.kl (.kl (.o (.sl 1 0 2 (.ex 2))))))⟩,⟨⟨264,0,false⟩,(Xv prog 8 [1,1,1,1,1,1,1,1,1,1,1,1,1,1,1,1,1,1,1,0] 1),(Zk prog 8 [1,1,1,1,1,1,1,1,1,1,1,1,1,1,1,1,1,1,1,0] 1),none,(Zy prog 8),(.k (.k (.k (.kr (.kl (.kr (.kr (.o (.sl 1 0 2 (.ex 2))))))) (.kl (.o (.z 16)))) (.kr (.kr (.o .nils)))) (.k (.node (.bool true) (.k (.o (.z 12)) (.o (.z 12))) (.node (.z 8) (.o (.z 2)) .leaf)) (.k (.node (.z 6) (.o (.z 0)) .leaf) (.node (.z 8) (.o (.z 6)) .leaf))))⟩],(.node none .leaf (.node none .leaf (.node none (.node (some ⟨.busy,none,65,(.k (.k (.k (.k (.k .u .u) (.k .u .u)) (.k (.k .u .u) (.kr .u))) (.node (.ptr 5 0) (.k (.k .u .u) (.k .u .u)) (.k (.k .u .u) (.kr .u)))) (.node (.ptr 3 0) (.node (.ptr 4 0) (.k (.k .u .u) (.k .u .u)) (.k (.k .u .u) (.kr .u))) (.node (.ptr 6 0) (.k (.k .u .u) (.kr .u)) (.k (.k .u .u) (.kr .u))))),[15],(Wy prog 102 [1,1,0,1,0,0]),(Wy prog 102 [1,1,0,1,0,1])⟩) .leaf .leaf) .leaf)))⟩
theorem Nt :Ua prog B3 OE:=Nu.trans (Wb Ke mixed Qv (n:=6000) (m:=100000) (d:=4) (N:=⟨[6,7,272,273,274,275,276,277,278,281,282,284,287,288],[],[some [2,4,5,6,7],some [0,1,2,4,82,83],some [4,5,6],some [0,11,13],some [0,13,14,15,20],some [0,14],some [4,10,12,14,16,17,18,20,22,24,27,143]],[none,none,none,none,none,none,none,none,none,none,some [2,4,5,6,7,8,9,11,12,15,16,17,18,19,20,21,22,23,24,25,26,27,28,29,30,31,32,33,34,35,36,37,38,39,40,41,42,43,44,45,46,47,48,49,50,51,52,53,54,55,56,57],none,none,none]⟩) (by kernel_rfl) rfl (by kernel_rfl)).1
def J0 :BJ:=⟨⟨81,0,false⟩,(Xv prog 23 [1,1,1,1,1,0,1,0,0,1,1,0,0,1,1,1,0,0] 14),(Zk prog 23 [1,1,1,1,1,0,1,0,0,1,1,0,0,1,1,1,0,0] 1),none,(Zy prog 10),⟨(.k (.kl (.k (.node (.dat 8 (Zz ([[113,117,97,100],[52],[48],[48],[49],[49],[49],[49]]:List (List UInt8)))) .leaf (.node (.z 1) (.o (.bool false)) .leaf)) (.kl (.kr (.o (.bool true)))))) (.k (.kr (.kl (.o (.dat 1 (Zz ([[113,117,97,100,32,52,32,48,32,48,32,49,32,49,32,49,32,49]]:List (List UInt8))))))) (.node .nils (.node (.ptr 0 0) .leaf (.o (.z 0))) .leaf))),(.m (bk [(.z 4)] 3)),1,[],true⟩,[⟨⟨264,0,false⟩,(Xv prog 8 [1,1,1,1,1,1,1,1,1,1,1,1,1,1,1,1,1,1,1,1,1,1,0] 0),(Zk prog 8 [1,1,1,1,1,1,1,1,1,1,1,1,1,1,1,1,1,1,1,1,1,1,0] 1),none,(Zy prog 8),(.k (.k (.k (.kr (.kr (.o (.z 12)))) (.kl (.o (.z 16)))) (.k (.kr (.node .nils (.o (.z 8)) .leaf)) (.kl (.o (.z 16))))) (.k (.node (.bool true) (.k (.o (.z 12)) (.o (.z 12))) (.node (.z 8) (.o (.z 2)) .leaf)) (.k (.node (.z 6) (.o (.z 0)) .leaf) (.node (.z 8) (.o (.z 6)) .leaf))))⟩],.leaf⟩
theorem JY :Ua prog B3 J0:=Nt.trans (Wb Ke mixed Qv (n:=6038) (m:=100000) (d:=4) (N:=⟨[250],[],[some [6,9,10,24,25,26,41,45],some [4,10,12,14,16,17,18,20,22,24,27,29,31,33]],[none]⟩) (by kernel_rfl) rfl (by kernel_rfl)).1
def JZ :BJ:=⟨⟨264,0,false⟩,(Xv prog 8 [1,1,1,1,1,1,1,1,1,1,1,1,1,1,1,1,1,1,1,1,1,1,1,1,0] 0),(Zk prog 8 [1,1,1,1,1,1,1,1,1,1,1,1,1,1,1,1,1,1,1,1,1,1,1,1,0] 1),none,(Zy prog 8),⟨(.k (.k (.k (.kr (.kr (.o (.z 12)))) (.k (.kr (.o (.z 0))) (.o (.z 16)))) (.k (.kr (.node .nils (.o (.z 8)) .leaf)) (.k (.kr (.o (.z 12))) (.o (.z 16))))) (.k (.node (.bool true) (.k (.o (.z 12)) (.o (.z 12))) (.node (.z 8) (.o (.z 2)) .leaf)) (.k (.node (.z 6) (.node (.z 0) (.o (.sl 0 0 1 (.un 7))) .leaf) .leaf) (.node (.z 8) (.o (.z 6)) .leaf)))),(.m (bk [(.int .u8 4),(.z 0),(.z 0),(.z 1),(.z 1),(.z 1),(.z 1)] 109)),1,[],true⟩,[],.leaf⟩
theorem JX :Ua prog B3 JZ:=JY.trans (Wb Ke mixed Qv (n:=916) (m:=100000) (d:=4) (N:=⟨[5],[],[some [4,10,12,14,16,17,18,20,22,24,27,29,31,33,34,35,37]],[none]⟩) (by kernel_rfl) rfl (by kernel_rfl)).1
def Vbc12 :BJ:=⟨⟨264,0,false⟩,none,(Zk prog 3 [1,1,1,1,1,1,0] 1),none,(Zy prog 8),⟨(.o (.bool true)),.leaf,0,[],true⟩,[],.leaf⟩
theorem Vbg12 :Ua prog B3 Vbc12:=JX.trans (Wb Ke mixed J4 (n:=164) (m:=100000) (d:=4) (N:=⟨[],[],[some [0]],[]⟩) (by kernel_rfl) rfl (by kernel_rfl)).1
end Go.Am
end
