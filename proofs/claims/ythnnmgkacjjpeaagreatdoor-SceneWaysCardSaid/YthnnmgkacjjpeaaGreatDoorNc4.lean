/- A part of a proof: several texts in one. -/
import Derived.Test.YthnnmgkacjjpeaaGreatDoorNc3
import Derived.Lib.ItoaLen
import Derived.Lib.AtoiAll
import Derived.Lib.SplitLaws
set_option maxRecDepth 1000000
set_option maxHeartbeats 8000000
set_option linter.unusedVariables false
set_option linter.unusedSimpArgs false
noncomputable section
namespace Go.Am
open IntKind (wrap)
def JF (a b:List UInt8):Bool:=Nat.ble (a.length+b.length) 9223372036854775807
def sLe (a:List UInt8):Bool:=decide (a.length<=9223372036854775807)
theorem SA {a b:List UInt8} (h:a.length+b.length<=1000000000000):JF a b=true:=by unfold JF;exact AY (by omega)
theorem S3 {a:List UInt8} (h:a.length<=1000000000000):sLe a=true:=by unfold sLe;exact Aa (by omega)
open Go.Proofs Go.Lib
theorem w8 (n:Int) (h:0<=n/\n<256):wrap .u8 n=n:=by unfold wrap;simp [IntKind.signed,IntKind.bits];omega
structure R7 where
 (a b c d e f g:Int)
instance : Xk R7 where
 w:=7
 d:=⟨0,0,0,0,0,0,0⟩
 cells x:=[.int .u8 x.a,.int .i64 x.b,.int .i64 x.c,.int .i64 x.d,.int .i64 x.e,.int .i64 x.f,.int .i64 x.g]
 of l:=⟨Cl (l.getD 0 .undef),Cl (l.getD 1 .undef),Cl (l.getD 2 .undef),Cl (l.getD 3 .undef),Cl (l.getD 4 .undef),Cl (l.getD 5 .undef),Cl (l.getD 6 .undef)⟩
 len _:=rfl
 pos:=by decide
 flat _:=rfl
 sc _:=rfl
 back _:=rfl
open Go.Sort Go.Shelf Go.RowKit
def Tc (x y z:Int):Bool:=decide (Cw (Cw x y) z>=(-1000000))&&decide (Cv (Cv x y) z<=1000000)
instance : DecidableEq R7:=Classical.typeDecidableEq _
-- h0: index into an array (choices [true, false, false, false, false, false, false])
def val7 (r:R7):Bool:=decide (r.a<=5)&&(Tc r.b r.c r.d&&(Tc r.e r.f r.g&&
 (bif decide (r.a<2) then (r.b == r.e)&&(decide (r.c<r.f)&&decide (r.d<r.g)) else bif decide (r.a<4) then (r.c == r.f)&&(decide (r.b<r.e)&&decide (r.d<r.g)) else (r.d == r.g)&&(decide (r.b<r.e)&&decide (r.c<r.f)))))
def FJ (L:List R7):Int:=bif decide (3000<L.length) then 4 else bif L.all val7 then 0 else 8
def v5t (L:List R7):Bool:=L.all fun r=>decide (0<=r.a)&&decide (r.a<256)
theorem Id {a:Nat} (h:a<=1099511627776):decide (a<=Vd)=true:=Aa h
theorem P9 {z n m:Nat} (h:(n+1+1)*(m+1)<=1099511627776):(Nat.beq z z&&((decide (0+n=n))&&decide ((n+1+1)*(m+1)<=Vd)))=true:=by rw [Ad,Ad];exact ⟨BC z,Aa (Al n),Id h⟩
def GA :List Int->List UInt8
 | []=>[]
 | n::r=>32::(itoa n++GA r)
def Sf (r:R7):List UInt8:=113::117::97::100::(GA [r.a,r.b,r.c,r.d,r.e,r.f,r.g]++[10])
def W3 :List R7->List UInt8
 | []=>[]
 | r::l=>Sf r++W3 l
def u7s (L:List R7):List UInt8:=bif FJ L != 0 then [] else bif decide (60000<(W3 L).length) then [] else W3 L
def NT (L:List R7):Int:=bif FJ L != 0 then FJ L else bif decide (60000<(W3 L).length) then 4 else 0
theorem Qm {n:Int} (h: -1000000<=n/\n<=1000000):(itoa n).length <=21:=itoa_length_le n (by omega) (by omega)
theorem W2 {n:Int} (h: -1000000<=n/\n<=1000000):Yd n=true/\ ∃d,Xq n=d/\itoa n=d/\d.length<=21:=⟨Aa (by omega),_,rfl,rfl,Qm h⟩
theorem j5v (s:List UInt8):(CF s).length =s.length:=rfl
def Ca (s:List UInt8):Option Int:=match atoiAll s with
 | .ok v=>bif decide (itoa v=s/\ -9999999<=v/\v<=9999999) then some v else none
 | _=>none
def Es :List UInt8->Nat->Nat->Option Nat
 | [],_,n=>some n
 | c::r,j,n=>bif decide (c.toNat<48)||(decide (57<c.toNat)||decide (9<j)) then none else Es r (j+1) (10*n+(c.toNat - 48))
def GB (s:List UInt8):Bool:=match s with
 | c::_=>decide (c.toNat=45)
 | []=>false
def HO (s:List UInt8):Nat:=bif GB s then 1 else 0
def v5j (s:List UInt8):Int:=match Es (s.drop (HO s)) 0 0 with
 | some n=>bif GB s then -(n:Int) else n
 | none=>0
def v5i (s:List UInt8):Bool:=match Es (s.drop (HO s)) 0 0 with
 | some n=>decide (HO s<s.length)&&decide (itoa (bif GB s then -(n:Int) else n)=s)
 | none=>false
theorem ZD (c:UInt8) (r:List UInt8) (j n:Nat):Es (c::r) j n=bif decide (c.toNat<48)||(decide (57<c.toNat)||decide (9<j)) then none else Es r (j+1) (10*n+(c.toNat - 48)):=rfl
def badQ :NumEnd Nat:=parseUint10 0 [58]
theorem ZX (c:UInt8) (r:List UInt8) (n:Nat):parseUint10 n (c::r)=if 48<=c.toNat/\c.toNat<=57 then
   if 1844674407370955162<=n then .range
   else if 18446744073709551616<=n*10+(c.toNat - 48) then .range
   else parseUint10 (n*10+(c.toNat - 48)) r
  else badQ:=by
 rw [parseUint10];rfl
theorem x6x (n:Nat):parseUint10 n []=.ok n:=by rw [parseUint10]
theorem y6z : ∀(l m:List UInt8) (j n:Nat),Es (l++m) j n=match Es l j n with
  | none=>none
  | some v=>Es m (j+l.length) v
 | [],m,j,n=>rfl
 | c::r,m,j,n=>by
  rw [A3,ZD,ZD];cases decide (c.toNat<48)||(decide (57<c.toNat)||decide (9<j)) with
  | true=>rfl
  | false=>rw [Ab,Ab,y6z r m (j+1)];rw [Au,show j+1+r.length=j+(r.length+1) by omega]
theorem z2c : ∀(l m:List UInt8) (n:Nat),parseUint10 n (l++m)=match parseUint10 n l with
  | .ok v=>parseUint10 v m
  | e=>e
 | [],m,n=>by rw [x6x];rfl
 | c::r,m,n=>by
  rw [A3,ZX,ZX];split
  .split
   .rfl
   .split
    .rfl
    .exact z2c r m _
  .rfl
theorem Q8 {u:Nat} (h:u<10):(UInt8.ofNat (48+u)).toNat =48+u:=by rw [UInt8.toNat_ofNat'];omega
theorem Ko : ∀(k u:Nat),u<10 ^ (k+1)->(decDigits u).length <=k+1
 | 0,u,h=>by rw [decDigits,dif_pos (by simpa using h)];exact Ak _
 | k+1,u,h=>by
  by_cases g:u<10
  .rw [decDigits,dif_pos g];simp
  .rw [decDigits,dif_neg g,As,AJ];have:=Ko k (u / 10) (by rw [Nat.pow_succ] at h;omega);omega
theorem y0v (u:Nat):1<=(decDigits u).length :=by
 rw [decDigits];split
 .exact Ak _
 .rw [As,AJ];omega
theorem w5j {u j n:Nat} (h:u<10) (hj:j<=9):Es [UInt8.ofNat (48+u)] j n=some (10*n+u):=by rw [ZD,Q8 h,Ah (by omega),Ah (by omega),Ah (show ¬9<j by omega)];show some (10*n+(48+u - 48))=_;rw [show 48+u - 48=u by omega]
theorem x6w {u n:Nat} (h:u<10) (hn:n<1000000000000):parseUint10 n [UInt8.ofNat (48+u)]=.ok (10*n+u):=by rw [ZX,Q8 h,AF (by omega),Az (by omega),Az (by omega),x6x];rw [show n*10+(48+u - 48)=10*n+u by omega]
theorem x3n : ∀(k u:Nat),u<10 ^ (k+1)->k<=9->Es (decDigits u) 0 0=some u
 | k,u,h,hk=>by
  by_cases g:u<10
  .rw [decDigits,dif_pos g,w5j g (by omega)];simp
  .match k,h,hk with
   | 0,h,_=>omega
   | k+1,h,hk=>
    have hs:u / 10<10 ^ (k+1):=by rw [Nat.pow_succ] at h;omega
    have hl:=Ko k (u / 10) hs;rw [decDigits,dif_neg g,y6z,x3n k (u / 10) hs (by omega)];show Es _ (0+(decDigits (u / 10)).length) _=_;rw [w5j (by omega) (by omega),show 10*(u / 10)+u %10=u by omega]
theorem ZG : ∀(k u:Nat),u<10 ^ (k+1)->k<=9->parseUint10 0 (decDigits u)=.ok u
 | k,u,h,hk=>by
  by_cases g:u<10
  .rw [decDigits,dif_pos g,x6w g (by omega)];simp
  .match k,h,hk with
   | 0,h,_=>omega
   | k+1,h,hk=>
    have hs:u / 10<10 ^ (k+1):=by rw [Nat.pow_succ] at h;omega
    have hb:(10:Nat) ^ (k+1)<=10 ^ 10:=Nat.pow_le_pow_right (by decide) (by omega);rw [decDigits,dif_neg g,z2c,ZG k (u / 10) hs (by omega)];show parseUint10 _ _=_;rw [x6w (by omega) (by omega),show 10*(u / 10)+u %10=u by omega]
theorem x0d : ∀(u:Nat),∃c r,decDigits u=c::r/\48<=c.toNat/\c.toNat<=57:=by
 intro u
 induction u using Nat.strongRecOn with
 | _ u ih=>
  by_cases g:u<10
  .refine ⟨_,[],by rw [decDigits,dif_pos g],?_⟩;rw [Q8 g];omega
  .obtain ⟨c,r,e,h⟩:=ih (u / 10) (by omega);refine ⟨c,r++[UInt8.ofNat (48+u %10)],?_,h⟩;rw [decDigits,dif_neg g,e];rfl
theorem v8d {n:Int} {s:List UInt8} (hs:itoa n=s) (h0: -9999999<=n) (h1:n<=9999999):
  atoiAll s=.ok n/\s.length<=8/\v5i s=true/\v5j s=n:=by
 by_cases hn:n<0
 .have hu : n.natAbs < 10 ^ (6 + 1) := by have:(10:Nat) ^ (6+1)=10000000:=by decide
                                          omega
  have e:s=45::decDigits n.natAbs:=by rw [<-hs];unfold itoa;rw [AF hn]
  have hl:=Ko 6 _ hu;have hp:=y0v n.natAbs;have h45:(45:UInt8).toNat =45:=rfl;have hsg:GB s=true:=by rw [e];rfl
  have hsn:HO s=1:=by unfold HO;rw [hsg];rfl
  have hnl:Es (s.drop (HO s)) 0 0=some n.natAbs:=by rw [hsn,e];exact x3n 6 _ hu (by decide)
  refine ⟨?_,by rw [e,Au];omega,?_,?_⟩
  .rw [e];unfold atoiAll;simp only [h45,or_true,if_true];have hm:parseMag (decDigits n.natAbs)=.ok n.natAbs:=by unfold parseMag;rw [Az (by intro hh;rw [hh] at hp;simp at hp),ZG 6 _ hu (by decide)]
   rw [hm];have: ¬9223372036854775808<n.natAbs:=by omega
   simp [this];omega
  .unfold v5i;rw [hnl,hsg,hsn];show (decide (1<s.length)&&decide (itoa (-(n.natAbs:Int))=s))=true;rw [Aa (by rw [e,Au];omega),show (-(n.natAbs:Int))=n by omega,Aa hs];rfl
  .unfold v5j;rw [hnl,hsg];show -(n.natAbs:Int)=n;omega
 .have hu : n.toNat < 10 ^ (6 + 1) := by have:(10:Nat) ^ (6+1)=10000000:=by decide
                                         omega
  have e:s=decDigits n.toNat:=by rw [<-hs];unfold itoa;rw [Az hn]
  have hl:=Ko 6 _ hu;have hp:=y0v n.toNat;obtain ⟨c,r,ec,hc⟩:=x0d n.toNat;have hsg:GB s=false:=by rw [e,ec];exact Ah (by omega)
  have hsn:HO s=0:=by unfold HO;rw [hsg];rfl
  have hnl:Es (s.drop (HO s)) 0 0=some n.toNat:=by rw [hsn,e];exact x3n 6 _ hu (by decide)
  refine ⟨?_,by rw [e];omega,?_,?_⟩
  .have hm:parseMag (decDigits n.toNat)=.ok n.toNat:=by unfold parseMag;rw [Az (by intro hh;rw [hh] at hp;simp at hp),ZG 6 _ hu (by decide)]
   rw [e];rw [ec] at hm ⊢;unfold atoiAll;have g1: ¬(c.toNat=43\/c.toNat=45):=by omega
   have g2: ¬c.toNat=45:=by omega
   have g3: ¬9223372036854775808<=n.toNat:=by omega
   simp only [Az g1,hm];simp [g2,g3];omega
  .unfold v5i;rw [hnl,hsg,hsn];show (decide (0<s.length)&&decide (itoa (n.toNat:Int)=s))=true;rw [Aa (by rw [e];omega),show ((n.toNat:Nat):Int)=n by omega,Aa hs];rfl
  .unfold v5j;rw [hnl,hsg];show (n.toNat:Int)=n;omega
theorem v5h {n:Int} {s:List UInt8} (hs:itoa n=s) (h0: -9999999<=n) (h1:n<=9999999):Ca s=some n:=by unfold Ca;rw [(v8d hs h0 h1).1];show (bif decide _ then some n else none)=_;rw [Aa ⟨hs,h0,h1⟩];rfl
def Wy (b:UInt8):List UInt8->List UInt8->List (List UInt8)
 | cur,[]=>[cur]
 | cur,x::r=>bif x == b then cur::Wy b [] r else Wy b (cur++[x]) r
theorem UO (b:UInt8): ∀(s cur:List UInt8),Wy b cur s=match Wy b [] s with
  | []=>[]
  | p::l=>(cur++p)::l
 | [],cur=>by simp [Wy]
 | x::r,cur=>by
  unfold Wy;cases x == b with
  | true=>simp
  | false=>
   rw [Ab,Ab,UO b r (cur++[x]),UO b r ([]++[x])];cases Wy b [] r with
   | nil=>rfl
   | cons p l=>simp
theorem LD (b:UInt8) (s cur:List UInt8):Wy b cur s≠ []:=by
 induction s generalizing cur with
 | nil=>simp [Wy]
 | cons x r ih=>
  unfold Wy;cases x == b with
  | true=>simp
  | false=>exact ih _
theorem y9t {b x:UInt8} (h:x≠b) (k:Nat) (s:List UInt8):splitK [b] 0 k (x::s)=match splitK [b] 0 k s with
  | []=>[]
  | p::l=>(x::p)::l:=by
 have hp:([b]:List UInt8).isPrefixOf (x::s)=false:=by simp [List.isPrefixOf,Ne.symm h]
 have hix:index (x::s) [b]=if index s [b] == -1 then -1 else index s [b]+1:=by rw [index,hp];simp
 have hge:=index_ge s [b];cases k with
 | zero=>rfl
 | succ k=>
  unfold splitK;by_cases hm:index s [b]= -1
  .rw [hix,AF (AU.2 hm),AF (by decide),AF (AU.2 hm)]
  .have h1: ¬(index s [b] == -1)=true:=fun e=>hm (AU.1 e);have h2: ¬(index s [b]+1 == -1)=true:=fun e=>by have:=AU.1 e;omega
   obtain ⟨j,hj⟩: ∃j:Nat,index s [b]=j:=⟨(index s [b]).toNat,by omega⟩
   rw [hix,Az h1,Az h1,Az h2,hj];have e1:((j:Int)+1).toNat =j+1:=by omega
   have e2:(j:Int).toNat =j:=by omega
   rw [e1,e2];simp only [AJ,Bn,List.take_succ_cons];rw [show j+1+1=(j+1)+1 from rfl,List.drop_succ_cons]
theorem x5r (b:UInt8): ∀s:List UInt8,split s [b]=Wy b [] s
 | []=>by unfold split;rw [count_one];rfl
 | x::r=>by
  have ih:=x5r b r;unfold split at ih ⊢;by_cases h:x=b
  .subst h;rw [count_cons_eq,Nat.add_comm];have hix:index (x::r) [x]=0:=by rw [index];simp [List.isPrefixOf]
   rw [splitK,hix,Az (by decide)];simp only [Int.toNat_zero,Bn,List.take_zero,AJ,Al,List.drop_succ_cons,AQ];rw [ih,Wy];simp
  .rw [count_cons_ne x b r h,y9t h,ih,Wy];have hb:(x == b)=false:=by simpa using h
   rw [hb,Ab,UO b r ([]++[x])];cases Wy b [] r with
   | nil=>rfl
   | cons p l=>rfl
theorem U9 (b:UInt8): ∀(s cur:List UInt8),Wy b cur (s++[b])=Wy b cur s++[[]]
 | [],cur=>by simp [Wy]
 | x::r,cur=>by
  rw [A3,Wy,Wy];cases x == b with
  | true=>rw [Af,Af,U9 b r];rfl
  | false=>rw [Ab,Ab,U9 b r]
theorem YZ (b:UInt8): ∀(s cur:List UInt8),(Wy b cur s).getLast? =some []->(cur=[]/\s=[])\/ ∃t,s=t++[b]
 | [],cur,h=>by left;simp [Wy] at h;exact ⟨h,rfl⟩
 | x ::r,cur,h=>by
  rw [Wy] at h;by_cases hx:x=b
  .subst hx;right;rw [show (x == x)=true by simp,Af,List.getLast?_cons] at h;have hne:=LD x r [];have h':(Wy x [] r).getLast? =some []:=by
    cases hc:Wy x [] r with
    | nil=>exact absurd hc hne
    | cons p l=>
     rw [hc] at h;rw [List.getLast?_cons] at h ⊢
     simpa using h
   rcases YZ x r [] h' with ⟨_,rfl⟩ | ⟨t,rfl⟩
   .exact ⟨[],rfl⟩
   .exact ⟨x::t,rfl⟩
  .rw [show (x == b)=false by simpa using hx,Ab] at h;rcases YZ b r _ h with ⟨e,_⟩ | ⟨t,rfl⟩
   .simp at e
   .exact .inr ⟨x::t,rfl⟩
theorem UW (b:UInt8): ∀(s cur:List UInt8),(Wy b cur s).length <=s.length+1
 | [],cur=>by simp [Wy]
 | x::r,cur=>by
  rw [Wy,Au];cases x == b with
  | true=>have:=UW b r [];rw [Af,Au];omega
  | false=>have:=UW b r (cur++[x]);rw [Ab];omega
theorem Qb (b:UInt8): ∀(s cur p:List UInt8),p∈Wy b cur s->p.length<=cur.length+s.length
 | [],cur,p,h=>by simp [Wy] at h;subst h;simp
 | x::r,cur,p,h=>by
  rw [Wy] at h;cases hx:x == b with
  | true=>
   rw [hx,Af] at h;rcases AN.1 h with rfl | h
   .simp
   .have:=Qb b r [] p h;simp at this ⊢;omega
  | false=>rw [hx,Ab] at h;have:=Qb b r _ p h;simp at this ⊢;omega
theorem j5w {s:List UInt8} {i:Nat} (h:i<s.length):CW s i=((s[i].toNat :Nat):Int):=by unfold CW;rw [Bb,Ar h];rfl
def Qu :List (List UInt8)->Option (List Int)
 | []=>some []
 | w::r=>match Ca w with
  | none=>none
  | some n=>match Qu r with
   | none=>none
   | some l=>some (n::l)
def Se :List UInt8:=[113,117,97,100]
def Sg :List Int->Option R7
 | [a,b,c,d,e,f,g]=>bif decide (0<=a)&&decide (a<=5) then some ⟨a,b,c,d,e,f,g⟩ else none
 | _=>none
def TN (x:List UInt8):Option R7:=match Wy 32 [] x with
 | w::r=>bif decide (w=Se)&&decide (r.length=7) then (match Qu r with
  | some l=>Sg l
  | none=>none) else none
 | []=>none
def u7y :List (List UInt8)->Option (List R7)
 | []=>some []
 | x::l=>match TN x with
  | none=>none
  | some r=>match u7y l with
   | none=>none
   | some m=>some (r::m)
def Fk (s:List UInt8):Option (List (List UInt8)):=match (Wy 10 [] s).getLast? with
 | some []=>some (Wy 10 [] s).dropLast
 | _=>none
def TA (s:List UInt8):List R7×Int:=bif decide (60000<s.length) then ([],4) else match Fk s with
 | none=>([],12)
 | some ls=>match u7y ls with
  | none=>([],12)
  | some L=>bif FJ L != 0 then ([],FJ L) else (L,0)
section
attribute [local irreducible] FJ v5t
-- h11: owes false (choices [true, false, false, false, false])
end
def u7i (s:List UInt8):List R7:=(TA s).1
def NI (s:List UInt8):Int:=(TA s).2
theorem v1f {x:List UInt8} {v:Int} (h:atoiAll x=.ok v): -9223372036854775808<=v/\v<=9223372036854775807:=by
 unfold atoiAll at h;split at h
 .cases h
 .simp only [] at h;split at h
  .cases h
  .cases h
  .rename_i u hu;split at h
   .cases h
   .split at h
    .cases h
    .rename_i h1 h2;injection h with h;subst h;split <;> omega
def wN {σ:Type} (x:List UInt8) (R:Xu σ) (K:Int->Xu σ):Xu σ:=(bif (Wp x) then (bif (!(Jg x)) then R else (bif (Yd (Za x)) then (bif (!((Xq (Za x)) == x)) then R else (bif (decide ((Za x)<(-9999999))) then R else (bif (decide ((Za x)>9999999)) then R else K (Za x)))) else .stuck)) else .stuck)
theorem EU {σ:Type} {x:List UInt8} {R:Xu σ} {K:Int->Xu σ} (hx:x.length<=1000000):wN x R K=(Ca x).elim R K:=by
 unfold wN;rw [Zp (show Wp x=true from Aa (by omega))];unfold Ca Jg Za;cases h:atoiAll x with
 | ok v=>
  have hr:=v1f h;show (bif !true then R else bif Yd v then (bif !(Xq v == x) then R else bif decide (v< -9999999) then R else bif decide (v>9999999) then R else K v) else .stuck)=(bif decide (itoa v=x/\ -9999999<=v/\v<=9999999) then some v else none).elim R K;rw [Ax,Ab,Zp (show Yd v=true from Aa hr)];have hb:(Xq v == x)=decide (itoa v=x):=by rw [AR,AU,An];rfl
  rw [hb];by_cases g1:itoa v=x
  .rw [Aa g1,Ax,Ab];by_cases g2:v< -9999999
   .rw [Aa g2,Ah (show ¬(itoa v=x/\ -9999999<=v/\v<=9999999) by omega)];rfl
   .rw [Ah g2,Ab];by_cases g3:v>9999999
    .rw [Aa g3,Ah (show ¬(itoa v=x/\ -9999999<=v/\v<=9999999) by omega)];rfl
    .rw [Ah g3,Aa (show (itoa v=x/\ -9999999<=v/\v<=9999999) from ⟨g1,by omega,by omega⟩)];rfl
  .rw [Ah g1,Ah (show ¬(itoa v=x/\ -9999999<=v/\v<=9999999) from fun h=>g1 h.1)];rfl
 | _=>rfl
theorem Dc {n:Nat} {j:Int} (h0:0<=j) (h:j<(n:Int)):(decide ((0:Int)<=j/\j<((n:Nat):Int))&&true)=true:=by rw [Ap];exact Aa ⟨h0,h⟩
theorem RS (x:List UInt8) (b:UInt8):Zi x [b]=Wy b [] x:=x5r b x
open Go.Proofs.Tryz
abbrev ZT (aW:List R4) (v8:Int) (v2:Int):=(aW.set (0+(tn v8)) (R4.mk (rd aW (0+(tn v8))).a (rd aW (0+(tn v8))).b v2 (rd aW (0+(tn v8))).d))
abbrev P4 (aI:List Int):=(C8 (Ws aI.length (DC (Zz (Qi (Ws aI.length (DC (Zz aI))))))))
def v5x :CX:=⟨⟨29,0,true⟩,none,(.inRangeFunc 0::(Zf prog 167 [1,1,0,1,0] 1)),none,(Zy prog 10),Ye [(2,.nils),(3,(ii 0)),(4,(.ptr 1 0))]⟩
def v5w :=(F7 [(0,⟨.ready,none,29,Ye [(4,(.ptr 1 0))],[11],(DE prog 167 [1,1,0,1,0,0]),(DE prog 167 [1,1,0,1,0,1])⟩)])
abbrev ZU (bF:List R2) (l0:List R4) (v38:Int):=(bF++[(R2.mk (rd l0 (tn v38)).b (rd l0 (tn v38)).d)])
def RL (l0:List R4):B6:=⟨[(.dat l0.length (Zz l0))],195,none⟩
abbrev ZV (aW:List R4) (v1:Int) (v71:List R2) (v73:Int) (v2:Int):=(aW++[(R4.mk v1 (rd v71 (tn v73)).a v2 (rd v71 (tn v73)).b)])
abbrev ZW (aI:List Int) (l0:List R4) (v16:Int):=(aI++[(rd l0 (tn v16)).a,(rd l0 (tn v16)).c])
inductive HN where
def MI (aO:Int) (bD:Int) (bE:Int) (bC:Int):HN->CE
 :=nofun
def x8x (aO:Int) (bD:Int) (bE:Int) (bC:Int):HN->Xu HN
 :=nofun
def V2 (aO:Int) (bD:Int) (bE:Int) (bC:Int):Xu HN:=(bif (decide (aO<bE)) then (bif (decide (bD<bC)) then (bif (decide (aO>=(-1000000))) then (bif (decide (aO<=1000000)) then (bif (decide (bE>=(-1000000))) then (bif (decide (bE<=1000000)) then (bif (decide (bD>=(-1000000))) then (bif (decide (bD<=1000000)) then (bif (decide (bC>=(-1000000))) then (.ret [(.bool (decide (bC<=1000000)))]) else (.ret [(.bool false)])) else (.ret [(.bool false)])) else (.ret [(.bool false)])) else (.ret [(.bool false)])) else (.ret [(.bool false)])) else (.ret [(.bool false)])) else (.ret [(.bool false)])) else (.ret [(.bool false)])) else (.ret [(.bool false)]))
theorem w7f (aO:Int) (bD:Int) (bE:Int) (bC:Int): ∀s,Wj prog (Zy prog 166) (MI aO bD bE bC) (MI aO bD bE bC s) (x8x aO bD bE bC s)
 :=nofun
theorem x8y (aO:Int) (bD:Int) (bE:Int) (bC:Int):Wj prog (Zy prog 166) (MI aO bD bE bC) (Zg prog 166 [(.agg [(.int .i64 aO),(.int .i64 bD),(.int .i64 bE),(.int .i64 bC)])] true []) (V2 aO bD bE bC):=(lb (fun k0=>(lb (fun k1=>let c:=tt k1 (tt k0 nn);(lb (fun k2=>(lb (fun k3=>let a:=tt k3 (tt k2 c);(lb (fun k4=>(lb (fun k5=>let d:=tt k5 (tt k4 a);(lb (fun k6=>let b:=tt k6 d;(lb (fun k7=>(lb (fun k8=>(lr 35 3 [1,1,1,1,1,1,0] 1 9 [(2,(.bool (decide (bC<=1000000))))] (sl Qy 101 [] (b8 [2]) b7 (CA 25 []) (tt k8 (tt k7 b))))) (fun k8=>(lr 35 3 [1,1,1,1,1,1,0] 1 9 [(2,(.bool false))] (sl Qy 101 [] (b8 [2]) b7 (CA 23 (bl 2 0)) (tt k8 (tt k7 b))))))) (fun k7=>(lr 35 3 [1,1,1,1,1,1,0] 1 9 [(2,(.bool false))] (sl Qy 86 [] (b8 [2]) b7 (CA 20 (bl 3 0)) (tt k7 b)))))) (fun k6=>(lr 35 3 [1,1,1,1,1,1,0] 1 9 [(2,(.bool false))] (sl Qy 86 [] (b8 [2]) b7 (CA 18 (bl 5 0)) (tt k6 d)))))) (fun k5=>(lr 35 3 [1,1,1,1,1,1,0] 1 9 [(2,(.bool false))] (sl Qy 71 [] (b8 [2]) b7 (CA 15 (bl 6 0)) (tt k5 (tt k4 a))))))) (fun k4=>(lr 35 3 [1,1,1,1,1,1,0] 1 9 [(2,(.bool false))] (sl Qy 71 [] (b8 [2]) b7 (CA 13 (bl 8 0)) (tt k4 a)))))) (fun k3=>(lr 35 3 [1,1,1,1,1,1,0] 1 9 [(2,(.bool false))] (sl Qy 56 [] (b8 [2]) b7 (CA 10 (bl 9 0)) (tt k3 (tt k2 c))))))) (fun k2=>(lr 35 3 [1,1,1,1,1,1,0] 1 9 [(2,(.bool false))] (sl Qy 56 [] (b8 [2]) b7 (CA 8 (bl 11 0)) (tt k2 c)))))) (fun k1=>(lr 35 3 [1,1,1,1,1,1,0] 1 9 [(2,(.bool false))] (sl Qy 41 [] (b8 [2]) b7 (CA 5 (bl 12 0)) (tt k1 (tt k0 nn))))))) (fun k0=>(lr 35 3 [1,1,1,1,1,1,0] 1 9 [(2,(.bool false))] (sl Qy 41 [] (b8 [2]) b7 (bl 17 0) (tt k0 nn)))))
theorem v9b (aO:Int) (bD:Int) (bE:Int) (bC:Int) (n:Nat) (vs:List B1) (h:Yw (x8x aO bD bE bC) n (V2 aO bD bE bC)=.ret vs):Js prog (Zy prog 166) (Zg prog 166 [(.agg [(.int .i64 aO),(.int .i64 bD),(.int .i64 bE),(.int .i64 bC)])] true []) vs:=by have:=Ze (w7f aO bD bE bC) n _ (x8y aO bD bE bC);rwa [h] at this
inductive Hp where
 | h0 (v16:Int) (aI:List Int)
 | h1 (v4:Int) (aD:List R4) (bG:List R2) (bN:Int) (bV:Int) (bS:Nat) (aF:List Int)
 | h2 (v4:Int) (v38:Int) (aD:List R4) (bG:List R2) (bN:Int) (bV:Int) (bS:Nat) (aF:List Int) (aK:Int) (dG:Int) (bF:List R2)
 | h3 (v1:Int) (v2:Int) (v71:List R2) (v72:Int) (v73:Int) (cU:List R2) (cL:Int) (aW:List R4) (aC:List R2) (bW:Int) (bS:Nat) (aF:List Int) (aK:List R2)
 | h4 (v2:Int) (v8:Int) (dR:Int) (cU:List R2) (cL:Int) (aW:List R4) (aC:List R2) (bW:Int) (cE:Int) (dE:Nat) (dO:List Int) (bF:List R2)
def NV (l0:List R4):Hp->CE
 | .h0 v16 aI=>⟨⟨34,0,true⟩,none,(Zf prog 199 [1,1,0,1,0,0,1,1,0,0,1,1,0,0] 0),none,(Zy prog 9),⟨Ye [(1,(.ptr 0 0)),(3,(.ptr 2 0)),(8,(.sl 1 0 1 (.un 1))),(9,(ii 1)),(10,(ii 0)),(14,(.dat l0.length (Zz l0))),(15,(ii (l0.length:Int))),(16,(ii v16))],Xt [⟨[(.sl 1 0 1 (.un 1))],201,none⟩,(RL l0),⟨[(.sla 4 1 0 aI.length (.un 1))],83,none⟩,⟨[.nils,.nils,(ii 0),(ii 0)],235,none⟩,⟨rows aI.length (Zz aI),3,some ⟨1,aI.length,(Zz aI)⟩⟩] 0,5,[],true⟩,[⟨⟨29,0,true⟩,(CU prog 167 [1,1,0,0] 2),(Zf prog 167 [1,1,0,0] 1),none,(Zy prog 10),Ye [(2,.nils),(3,(ii 0)),(4,(.ptr 3 0)),(9,(.sl 1 0 1 (.un 1)))]⟩],.leaf⟩
 | .h1 v4 aD bG bN bV bS aF=>⟨⟨76,0,true⟩,none,(Zf prog 225 [1,0,0] 0),none,[],⟨Ye [(0,(.yld 0)),(1,(.ptr 2 0)),(2,(.ptr 4 0)),(4,(ii v4))],Eb [(1,⟨[(.sla 6 4 0 aD.length (.un 4)),(.dat bG.length (Zz bG)),(ii bN),(ii bV)],235,none⟩),(2,⟨[(.sla 3 1 0 bS (.un 1))],83,none⟩),(3,⟨rows aF.length (Zz aF),3,some ⟨1,aF.length,(Zz aF)⟩⟩),(4,⟨[(.sl 5 0 1 (.un 1))],201,none⟩),(5,(RL l0)),(6,⟨rows aD.length (Zz aD),168,some ⟨4,aD.length,(Zz aD)⟩⟩)],7,[],true⟩,[v5x],v5w⟩
 | .h2 v4 v38 aD bG bN bV bS aF aK dG bF=>⟨⟨76,0,true⟩,none,(Zf prog 225 [1,0,0,1,0,0,1,0,1,0,0,1,1,0,0,1,1,0,0] 0),none,[],⟨Ye [(0,(.yld 0)),(1,(.ptr 2 0)),(2,(.ptr 4 0)),(4,(ii v4)),(5,(.ptr 6 0)),(6,(ii 0)),(29,(.sl 5 0 1 (.un 1))),(30,(ii 1)),(31,(ii 0)),(36,(.dat l0.length (Zz l0))),(37,(ii (l0.length:Int))),(38,(ii v38))],Eb [(1,⟨[(.sla 9 4 0 aD.length (.un 4)),(.dat bG.length (Zz bG)),(ii bN),(ii bV)],235,none⟩),(2,⟨[(.sla 3 1 0 bS (.un 1))],83,none⟩),(3,⟨rows aF.length (Zz aF),3,some ⟨1,aF.length,(Zz aF)⟩⟩),(4,⟨[(.sl 5 0 1 (.un 1))],201,none⟩),(5,(RL l0)),(6,⟨[(ii aK),(ii dG),(.sl 7 0 1 (.ex 1))],240,none⟩),(7,⟨[(.sla 8 2 0 bF.length (.un 2))],233,none⟩),(8,⟨rows bF.length (Zz bF),260,some ⟨2,bF.length,(Zz bF)⟩⟩),(9,⟨rows aD.length (Zz aD),168,some ⟨4,aD.length,(Zz aD)⟩⟩)],10,[],true⟩,[v5x],v5w⟩
 | .h3 v1 v2 v71 v72 v73 cU cL aW aC bW bS aF aK=>⟨⟨94,0,true⟩,none,(Zf prog 171 [1,1,1,0,0] 0),none,[],⟨Ye [(0,(.ptr 0 0)),(1,(ii v1)),(2,(ii v2)),(71,(.dat v71.length (Zz v71))),(72,(ii v72)),(73,(ii v73))],Eb [(0,⟨[(.sla 7 4 0 aW.length (.un 4)),(.dat aC.length (Zz aC)),(ii bW),(ii v2)],235,none⟩),(2,⟨[(.sla 3 1 0 bS (.un 1))],83,none⟩),(3,⟨rows aF.length (Zz aF),3,some ⟨1,aF.length,(Zz aF)⟩⟩),(4,⟨[(.sl 5 0 1 (.un 1))],201,none⟩),(5,(RL l0)),(6,⟨[(.dat aK.length (Zz aK))],233,none⟩),(7,⟨rows aW.length (Zz aW),168,some ⟨4,aW.length,(Zz aW)⟩⟩)],8,[],true⟩,[⟨⟨29,0,true⟩,(CU prog 167 [1,1,0,1,0,1,0,1] 5),(Zf prog 167 [1,1,0,1,0,1,0,1] 1),(some 1),[],Ye [(4,(.ptr 0 0)),(21,(ii v1)),(23,(ii v2)),(24,(.dat cU.length (Zz cU)))]⟩,⟨⟨76,0,true⟩,(CU prog 225 [1,0,0,1,0,0,1,1,0] 2),(Zf prog 225 [1,0,0,1,0,0,1,1,0] 1),none,[],Ye [(0,(.yld 1)),(1,(.ptr 2 0)),(2,(.ptr 4 0)),(4,(ii cL)),(72,(.yld 1)),(73,(.agg [(ii v1),(ii v2),(.sl 6 0 1 (.ex 1))]))]⟩,⟨⟨29,0,true⟩,none,(.inRangeFunc 1::(Zf prog 167 [1,1,0,1,0] 1)),none,(Zy prog 10),Ye [(2,.nils),(3,(ii 0)),(4,(.ptr 0 0))]⟩],(F7 [(1,⟨.busy,none,29,Ye [(4,(.ptr 0 0))],[11],(DE prog 167 [1,1,0,1,0,0]),(DE prog 167 [1,1,0,1,0,1])⟩)])⟩
 | .h4 v2 v8 dR cU cL aW aC bW cE dE dO bF=>⟨⟨94,0,true⟩,none,(Zf prog 171 [0,1,0,0,1,0,0] 0),none,[],⟨Ye [(0,(.ptr 0 0)),(2,(ii v2)),(8,(ii v8))],Eb [(0,⟨[(.sla 1 4 0 aW.length (.un 4)),(.dat aC.length (Zz aC)),(ii bW),(ii cE)],235,none⟩),(1,⟨rows aW.length (Zz aW),168,some ⟨4,aW.length,(Zz aW)⟩⟩),(3,⟨[(.sla 4 1 0 dE (.un 1))],83,none⟩),(4,⟨rows dO.length (Zz dO),3,some ⟨1,dO.length,(Zz dO)⟩⟩),(5,⟨[(.sl 6 0 1 (.un 1))],201,none⟩),(6,(RL l0)),(7,⟨[(.dat bF.length (Zz bF))],233,none⟩)],8,[],true⟩,[⟨⟨29,0,true⟩,(CU prog 167 [1,1,0,1,0,1,0,1] 5),(Zf prog 167 [1,1,0,1,0,1,0,1] 1),(some 2),[],Ye [(4,(.ptr 0 0)),(21,(ii dR)),(23,(ii v2)),(24,(.dat cU.length (Zz cU)))]⟩,⟨⟨76,0,true⟩,(CU prog 225 [1,0,0,1,0,0,1,1,0] 2),(Zf prog 225 [1,0,0,1,0,0,1,1,0] 1),none,[],Ye [(0,(.yld 2)),(1,(.ptr 3 0)),(2,(.ptr 5 0)),(4,(ii cL)),(72,(.yld 2)),(73,(.agg [(ii dR),(ii v2),(.sl 7 0 1 (.ex 1))]))]⟩,⟨⟨29,0,true⟩,none,(.inRangeFunc 2::(Zf prog 167 [1,1,0,1,0] 1)),none,(Zy prog 10),Ye [(2,.nils),(3,(ii 0)),(4,(.ptr 0 0))]⟩],(F7 [(2,⟨.busy,none,29,Ye [(4,(.ptr 0 0))],[11],(DE prog 167 [1,1,0,1,0,0]),(DE prog 167 [1,1,0,1,0,1])⟩)])⟩
def KO :List (Option (List Nat)):=[some [1,3,8,9,10,14,15,16],some [2,3,4,9]]
def KQ :List (Option (List Nat)):=[]
def j2g :List (Option (List Nat)):=[some [0,1,2,4],some [2,3,4]]
def j2h :List (Option (List Nat)):=[some [4],none,none,none,none,none,none]
def XN :List (Option (List Nat)):=[some [0,1,2,4,5,6,29,30,31,36,37,38],some [2,3,4]]
def XL :List (Option (List Nat)):=[some [4],none,none,none,none,none,none,none,none,none]
def XO :List (Option (List Nat)):=[some [0,1,2,71,72,73],some [4,21,23,24],some [0,1,2,4,72,73],some [2,3,4]]
def XM :List (Option (List Nat)):=[none,some [4],none,none,none,none,none,none]
def KN :List (Option (List Nat)):=[some [0,2,8],some [4,21,23,24],some [0,1,2,4,72,73],some [2,3,4]]
def KP :List (Option (List Nat)):=[none,none,some [4],none,none,none,none,none]
def Wc (l0:List R4):Hp->Xu Hp
 | .h0 v16 aI=>(bif (decide (v16<(l0.length:Int))) then (bif ((decide (0<=v16/\v16<(l0.length:Int)))&&true) then (bif (Nat.beq 1 1&&((decide (0+aI.length=aI.length))&&decide ((aI.length+2+1)*(8+1)<=Vd))) then (.to (.h0 (wrap .i64 (v16+1)) (aI++[(rd l0 v16.toNat).a,(rd l0 v16.toNat).c]))) else .stuck) else .stuck) else (bif (decide (aI.length<4611686018427387904)) then (bif (decide (aI.length=aI.length)) then (.to (.h1 1 ([]:List R4) ([]:List R2) 0 0 (GR (Ws aI.length (DC (Zz (Qi (Ws aI.length (DC (Zz aI)))))))) (C8 (Ws aI.length (DC (Zz (Qi (Ws aI.length (DC (Zz aI)))))))))) else .stuck) else .stuck))
 | .h1 v4 aD bG bN bV bS aF=>(bif (decide (v4<((bS:Nat):Int))) then (bif ((decide (0<=(wrap .i64 (v4 - 1))/\(wrap .i64 (v4 - 1))<((bS:Nat):Int)))&&true) then (bif (decide ((0+(Int.toNat (wrap .i64 (v4 - 1))))<aF.length)) then (bif ((decide (0<=v4/\v4<((bS:Nat):Int)))&&true) then (bif (decide ((0+v4.toNat)<aF.length)) then (.to (.h2 v4 0 aD bG bN bV bS aF (rd aF (0+(Int.toNat (wrap .i64 (v4 - 1))))) (rd aF (0+v4.toNat)) ([]:List R2))) else .stuck) else .stuck) else .stuck) else .stuck) else (bif (decide ((aD.length:Int)>400)) then (.ret [.nils,(.int .i64 4)]) else (.ret [(.dat aD.length (Zz aD)),(.int .i64 0)])))
 | .h2 v4 v38 aD bG bN bV bS aF aK dG bF=>(bif (decide (v38<(l0.length:Int))) then (bif ((decide (0<=v38/\v38<(l0.length:Int)))&&true) then (bif (decide ((rd l0 v38.toNat).a <=aK)) then (bif (decide (aK<(rd l0 v38.toNat).c)) then (bif (Nat.beq 2 2&&((decide (0+bF.length=bF.length))&&decide ((bF.length+1+1)*(16+1)<=Vd))) then (.to (.h2 v4 (wrap .i64 (v38+1)) aD bG bN bV bS aF aK dG (bF++[(R2.mk (rd l0 v38.toNat).b (rd l0 v38.toNat).d)]))) else .stuck) else (.to (.h2 v4 (wrap .i64 (v38+1)) aD bG bN bV bS aF aK dG bF))) else (.to (.h2 v4 (wrap .i64 (v38+1)) aD bG bN bV bS aF aK dG bF))) else .stuck) else (bif (ZJ (B2 bF)) then (bif (decide ((((Vw (B2 bF)).length :Nat):Int)>0)) then (bif (bV == aK) then (bif (Kz (B2 bG) (B2 (Vw (B2 bF)))) then (bif (EW (B2 bG) (B2 (Vw (B2 bF)))) then (.to (.h4 dG bN aK (Vw (B2 bF)) v4 aD bG bN bV bS aF bF)) else (.to (.h3 aK dG (Vw (B2 bF)) (((Vw (B2 bF)).length :Nat):Int) 0 (Vw (B2 bF)) v4 aD (Vw (B2 bF)) (aD.length:Int) bS aF bF))) else .stuck) else (.to (.h3 aK dG (Vw (B2 bF)) (((Vw (B2 bF)).length :Nat):Int) 0 (Vw (B2 bF)) v4 aD (Vw (B2 bF)) (aD.length:Int) bS aF bF))) else (.to (.h3 aK dG (Vw (B2 bF)) (((Vw (B2 bF)).length :Nat):Int) 0 (Vw (B2 bF)) v4 aD (Vw (B2 bF)) (aD.length:Int) bS aF bF))) else .stuck))
 | .h3 v1 v2 v71 v72 v73 cU cL aW aC bW bS aF aK=>(bif (decide (v73<v72)) then (bif ((decide (0<=v73/\v73<(v71.length:Int)))&&true) then (bif (Nat.beq 4 4&&((decide (0+aW.length=aW.length))&&decide ((aW.length+1+1)*(32+1)<=Vd))) then (.to (.h3 v1 v2 v71 v72 (wrap .i64 (v73+1)) cU cL (aW++[(R4.mk v1 (rd v71 v73.toNat).a v2 (rd v71 v73.toNat).b)]) aC bW bS aF aK)) else .stuck) else .stuck) else (.to (.h1 (wrap .i64 (cL+1)) aW aC bW v2 bS aF)))
 | .h4 v2 v8 dR cU cL aW aC bW cE dE dO bF=>(bif (decide (v8<(aW.length:Int))) then (bif ((decide (0<=v8/\v8<(aW.length:Int)))&&true) then (bif (decide ((0+v8.toNat)<aW.length)) then (.to (.h4 v2 (wrap .i64 (v8+1)) dR cU cL (aW.set (0+v8.toNat) (R4.mk (rd aW (0+v8.toNat)).a (rd aW (0+v8.toNat)).b v2 (rd aW (0+v8.toNat)).d)) aC bW cE dE dO bF)) else .stuck) else .stuck) else (.to (.h1 (wrap .i64 (cL+1)) aW aC bW v2 dE dO)))
def x3p (l0:List R4):Xu Hp:=(.to (.h0 0 ([]:List Int)))
theorem w9k (l0:List R4): ∀s,Wj prog (Zy prog 167) (NV l0) (NV l0 s) (Wc l0 s)
 | .h0 v16 aI=>(lb (fun k0=>(lo fun o0=>(lo fun o1=>let e:=xL (aI.length+2) (ZW aI l0 v16).length;let g:=ZW aI l0 v16;(sl Qy 32 [] ⟨[0,1,2,3,7],[],KO,KQ⟩ ⟨[],[.keep,.keep,.cells [.len g.length],.keep,.rowed 1 g.length (Zz g)],[]⟩ [true] (pp e (pp e (pp (xS (aI.length+2) (Zo (Zz aI) 0 aI.length 1 [(ii (rd l0 (tn v16)).a),(ii (rd l0 (tn v16)).c)]) (Zz (ZW aI l0 v16))) (pp (pp (xF (Zo (Zz aI) 0 aI.length 1 [(ii (rd l0 (tn v16)).a),(ii (rd l0 (tn v16)).c)])) nn) (ww o1 (ww o0 (tt k0 nn))))))))))) (fun k0=>(lo fun o0=>(lo fun o1=>let b:=xG (Nat.beq 1 1);let d:=xG (decide (aI.length<4611686018427387904));let f:=xG (decide (aI.length=aI.length));let h:=xG (Nat.beq 0 0);(sl Qy 46 [(168,4,Zz ([]:List R4))] ⟨[5,3,2,4,0,1,6],[],j2g,j2h⟩ ⟨[],[.keep,.cells [.grow 6 4,.list 0 (Zz ([]:List R2)),.keep,.keep],.keep,.rowed 1 (P4 aI).length (Zz (P4 aI)),.keep,.keep,.keep],[]⟩ (bl 2 0) (pp (xL aI.length (P4 aI).length (by first | exact x7h _ _ | exact Yc rfl)) (pp (xS aI.length (Zz (P4 aI)) (Zz (P4 aI))) (pp (fl (P4 aI) (fl ([]:List R4) nn)) (pp (pp b (pp b (pp h (pp f (pp (xG (KV (Zz (Qi (Ws aI.length (DC (Zz aI))))))) d))))) (pp (pp b (pp b (pp h (pp f (pp (xG (KV (Zz aI))) d))))) (tt k0 nn)))))))))))
 | .h1 v4 aD bG bN bV bS aF=>(lb (fun k0=>(lo fun o0=>(lo fun o1=>(lo fun o2=>(lo fun o3=>(sl Qy 48 [(260,2,Zz ([]:List R2))] ⟨[0,1,2,3,4,5,7,8,9,6],[],XN,XL⟩ ⟨[],(Ht 7 [.cells [.grow 8 2],.keep,.keep]),[]⟩ (CA 3 []) (pp (fl aF (fl ([]:List R2) (fl aD nn))) (ww o3 (ww o2 (ww o1 (ww o0 (tt k0 nn)))))))))))) (fun k0=>(lb (fun k1=>(lr 29 3 [1,1,1,1,1,1,0] 1 10 [(2,.nils),(3,(ii 4))] (sl Qy 43 [] (b8 [2,3]) b7 (bl 2 2) (tt k1 (tt k0 nn))))) (fun k1=>(lr 29 3 [1,1,1,1,1,1,0] 1 10 [(2,(.dat aD.length (Zz aD))),(3,(ii 0))] (sl Qy 48 [] ⟨[],[6],[some [2,3]],[]⟩ ⟨[(2,.frz aD.length aD.length (Zz aD) (Zz aD))],[],[]⟩ (bl 2 0) (pp (xZ (DU 4 4 0 aD.length aD.length (Zz aD)) aD.length (Zz aD)) (pp (xL aD.length aD.length) (pp (xS aD.length (Zz aD) (Zz aD)) (pp (fl aD nn) (tt k1 (tt k0 nn))))))))))))
 | .h2 v4 v38 aD bG bN bV bS aF aK dG bF=>(lb (fun k0=>(lo fun aG=>let f:=ww aG (tt k0 nn);let j:=fl aF (fl bF (fl aD nn));let o:=List.range 10;(lb (fun k1=>(lb (fun k2=>(lo fun o0=>let e:=xL (bF.length+1) (ZU bF l0 v38).length;let i:=ZU bF l0 v38;(sl Qy 39 [] ⟨[0,1,2,3,4,5,6,7,12,9],[],XN,XL⟩ ⟨[],(Ht 7 [.cells [.len i.length],.rowed 2 i.length (Zz i),.keep]),[]⟩ (CA 7 []) (pp e (pp e (pp (xS (bF.length+1) (Zo (Zz bF) 0 bF.length 2 [(ii (rd l0 (tn v38)).b),(ii (rd l0 (tn v38)).d)]) (Zz (ZU bF l0 v38))) (pp (fl aF (pp (xF (Zo (Zz bF) 0 bF.length 2 [(ii (rd l0 (tn v38)).b),(ii (rd l0 (tn v38)).d)])) (fl aD nn))) (ww o0 (tt k2 (tt k1 f)))))))))) (fun k2=>(sl Qy 39 [] ⟨o,[],XN,XL⟩ b7 (CA 6 [false]) (pp j (tt k2 (tt k1 f))))))) (fun k1=>(sl Qy 39 [] ⟨o,[],XN,XL⟩ b7 (bl 7 1) (pp j (tt k1 f))))))) (fun k0=>let c:=xZ (DU 2 2 0 bF.length bF.length (Zz bF)) bF.length (Zz bF);let h:=xS bF.length (Zz bF) (Zz bF);let l:=xL bF.length bF.length;let m:=fl aD (fl aF nn);(Wk (sl Qy (C':=⟨⟨29,0,true⟩,(CU prog 167 [1,1,0,1,0,1,0,0] 4),(Zf prog 167 [1,1,0,1,0,1,0,0] 1),(some 0),[],⟨Ye [(4,(.ptr 1 0)),(5,(.ptr 3 0)),(16,(.dat bF.length (Zz bF)))],Eb [(1,⟨[(.sla 2 4 0 aD.length (.un 4)),(.dat bG.length (Zz bG)),(ii bN),(ii bV)],235,none⟩),(2,⟨rows aD.length (Zz aD),168,some ⟨4,aD.length,(Zz aD)⟩⟩),(3,⟨[(ii aK),(ii dG),(.sl 4 0 1 (.ex 1))],240,none⟩),(4,⟨[(.dat bF.length (Zz bF))],233,none⟩),(5,⟨[(.sla 6 1 0 bS (.un 1))],83,none⟩),(6,⟨rows aF.length (Zz aF),3,some ⟨1,aF.length,(Zz aF)⟩⟩),(7,⟨[(.sl 8 0 1 (.un 1))],201,none⟩),(8,⟨[(.dat l0.length (Zz l0))],195,none⟩)],9,[],true⟩,[⟨⟨76,0,true⟩,(CU prog 225 [1,0,0,1,0,0,1,1,0] 2),(Zf prog 225 [1,0,0,1,0,0,1,1,0] 1),none,[],Ye [(0,(.yld 0)),(1,(.ptr 5 0)),(2,(.ptr 7 0)),(4,(ii v4)),(72,(.yld 0)),(73,(.agg [(ii aK),(ii dG),(.sl 4 0 1 (.ex 1))]))]⟩,⟨⟨29,0,true⟩,none,(.inRangeFunc 0::(Zf prog 167 [1,1,0,1,0] 1)),none,(Zy prog 10),Ye [(2,.nils),(3,(ii 0)),(4,(.ptr 1 0))]⟩],(F7 [(0,⟨.busy,none,29,Ye [(4,(.ptr 1 0))],[11],(DE prog 167 [1,1,0,1,0,0]),(DE prog 167 [1,1,0,1,0,1])⟩)])⟩) 37 [] ⟨[0,1,9,10,7,2,3,4,5],[8],[some [4,5,16],some [0,1,2,4,72,73],some [2,3,4]],[some [4],none,none,none,none,none,none,none,none]⟩ ⟨[(16,.frz bF.length bF.length (Zz bF) (Zz bF))],[.keep,.keep,.keep,.keep,.cells [.frz bF.length bF.length (Zz bF) (Zz bF)],.keep,.keep,.keep,.keep],[]⟩ (bl 2 0) (pp c (pp l (pp h (pp c (pp l (pp h (pp m (pp (fl bF nn) (tt k0 nn)))))))))) (lo fun aG=>let a:=pp (pp (xr bF) (xw aG)) nn;let g:=fl aF (fl aD nn);(lb (fun k1=>(lb (fun k2=>(lo fun cS=>let n:=tt k2 (tt k1 a);(lb (fun k3=>(sl Qy 49 [] ⟨[1,2,0,5,6,7,8,4],[],KN,KP⟩ b7 (CA 13 []) (pp m (tt k3 (pp (pp (xr bG) (pp (xI R2 (Vw (B2 bF)).length (Zz (Vw (B2 bF)))) (xw cS))) n))))) (fun k3=>(sl Qy 69 [] ⟨[1,0,5,6,7,8,4,2],[],XO,XM⟩ b7 (CA 12 [false]) (pp g (tt k3 (pp (pp (xr bG) (pp (xI R2 (Vw (B2 bF)).length (Zz (Vw (B2 bF)))) (xw cS))) n)))))))) (fun k2=>(sl Qy 69 [] ⟨[1,0,5,6,7,8,4,2],[],XO,XM⟩ b7 (CA 6 (bl 7 0)) (pp g (tt k2 (tt k1 a))))))) (fun k1=>(sl Qy 69 [] ⟨[1,0,5,6,7,8,4,2],[],XO,XM⟩ b7 (bl 13 0) (pp g (tt k1 a)))))))))
 | .h3 v1 v2 v71 v72 v73 cU cL aW aC bW bS aF aK=>(lb (fun k0=>(lo fun o0=>(lo fun o1=>let c:=xL (aW.length+1) (ZV aW v1 v71 v73 v2).length;let d:=ZV aW v1 v71 v73 v2;(sl Qy 23 [] ⟨[0,1,2,3,4,5,6,10],[],XO,XM⟩ ⟨[],[.cells [.len d.length,.keep,.keep,.keep],.keep,.keep,.keep,.keep,.keep,.keep,.rowed 4 d.length (Zz d)],[]⟩ [true] (pp c (pp c (pp (xS (aW.length+1) (Zo (Zz aW) 0 aW.length 4 [(ii v1),(ii (rd v71 (tn v73)).a),(ii v2),(ii (rd v71 (tn v73)).b)]) (Zz (ZV aW v1 v71 v73 v2))) (pp (fl aF (pp (xF (Zo (Zz aW) 0 aW.length 4 [(ii v1),(ii (rd v71 (tn v73)).a),(ii v2),(ii (rd v71 (tn v73)).b)])) nn)) (ww o1 (ww o0 (tt k0 nn))))))))))) (fun k0=>(sl Qy 22 [] ⟨[1,0,2,3,4,5,7],[],j2g,j2h⟩ b7 (bl 2 0) (pp (fl aF (fl aW nn)) (tt k0 nn)))))
 | .h4 v2 v8 dR cU cL aW aC bW cE dE dO bF=>(lb (fun k0=>(lo fun o0=>(lo fun o1=>let a:=xL aW.length (ZT aW v8 v2).length;let b:=ZT aW v8 v2;(sl Qy 33 [] ⟨(List.range 8),[],KN,KP⟩ ⟨[],[.cells [.len b.length,.keep,.keep,.keep],.rowed 4 b.length (Zz b),.keep,.keep,.keep,.keep,.keep,.keep],[]⟩ [true] (pp a (pp a (pp (xS aW.length (Xw (Zz aW) (0+(tn v8)) 2 [(ii v2)]) (Zz (ZT aW v8 v2))) (pp (pp (xF (Xw (Zz aW) (0+(tn v8)) 2 [(ii v2)])) (fl dO nn)) (ww o1 (ww o0 (tt k0 nn))))))))))) (fun k0=>(sl Qy 36 [] ⟨[2,0,3,4,5,6,1],[],j2g,j2h⟩ b7 (bl 2 0) (pp (fl dO (fl aW nn)) (tt k0 nn)))))
theorem w1o (l0:List R4):Wj prog (Zy prog 167) (NV l0) (Zg prog 167 [(.dat l0.length (Zz l0))] true []) (x3p l0):=(sl Qy 56 [(3,1,Zz ([]:List Int))] ⟨[2,1,3,0,4],[],KO,KQ⟩ ⟨[],[.keep,.keep,.cells [.grow 4 1],.keep,.keep],[]⟩ [true] (pp (fl ([]:List Int) nn) nn))
theorem u2t (l0:List R4) (n:Nat) (vs:List B1) (h:Yw (Wc l0) n (x3p l0)=.ret vs):Js prog (Zy prog 167) (Zg prog 167 [(.dat l0.length (Zz l0))] true []) vs:=by have:=Ze (w9k l0) n _ (w1o l0);rwa [h] at this
theorem v7k {i n:Nat} (h:i<n):decide ((i:Int)<(n:Int))=true:=by grind
theorem x7t {σ:Type} (step:σ->Xu σ) (a b:Nat) (s:Xu σ):Yw step (a+b) s=Yw step a (Yw step b s):=by
 induction b generalizing s with
 | zero=>cases s <;> simp [Yw]
 | succ b ih=>cases s with
  | «to» s=>exact ih (step s)
  | ret vs=>simp only [Zh]
  | stuck=>cases a <;> cases b <;> rfl
theorem u8k {i:Nat}:decide ((i:Int)>=0)=true:=by grind
def Pf {α:Type} [Xk α] (out:List α):List B1:=bif decide ((out.length:Int)>400) then [.nils,.int .i64 4] else [.dat out.length (Zz out),.int .i64 0]
def Ik {α:Type} [Xk α] (e:Int) (L:List α):List B1:=bif e != 0 then [.nils,.int .i64 e] else [.dat L.length (Zz L),.int .i64 0]
def GP {α:Type} (e:Int) (L:List α):List α:=bif e != 0 then [] else L
theorem u1b {α:Type} [Xk α] (e:Int) (L:List α) (ρ:B5) (u:Value) (hu:Zr ρ (Jn (Ik e L)) u):Zr ρ (.tup [.dat (GP e L).length (Zz (GP e L)),.int .i64 e]) u:=by
 unfold Ik at hu;unfold GP;by_cases h:e=0
 .subst h;exact hu
 .have h:(e != 0)=true:=by simpa using h
  rw [h] at hu ⊢;exact Gk (.cons (Gr α) (Ch.refl _)) ρ u hu
theorem j1e {α:Type} [Xk α] (e:Int) (L:List α):pf 3 (Jn (Ik e L))=true:=by unfold Ik;cases (e != 0) <;> rfl
def IP (n:Nat):Int:=bif decide ((n:Int)>400) then 4 else 0
theorem v8a {α:Type} [Xk α] (L:List α):Pf L=Ik (IP L.length) L:=by
 grind [Pf,Ik,IP]
theorem x0v : ∀(L:List R3) (o last:Int) (inn:Bool) (out:List R2),(Gf L o last inn out).length <=out.length+L.length
 | [],_,_,_,out=>Ak _
 | e::r,o,last,inn,out=>by rw [V0];have:=x0v r (o+e.c) e.a (decide (o+e.c>0)) (EV out last inn e.a);have:=y0z out last inn e.a;simp only [Au];omega
theorem x9h (l:List R3):(Cs l).length =l.length:=by
 by_cases h:Dl l=true
 .exact (PY l h).1.length_eq
 .unfold Cs;grind
theorem x9j (l:List R2):(Vw l).length <=800:=by
 grind [Vw,Fc,x0v,x9h,YD]
def DS (r:R4):Bool:=decide (r.a<r.c)&&(decide (r.b<r.d)&&(decide (r.a>= -1000000)&&(decide (r.a<=1000000)&&(decide (r.c>= -1000000)&&(decide (r.c<=1000000)&&(decide (r.b>= -1000000)&&(decide (r.b<=1000000)&&(decide (r.d>= -1000000)&&decide (r.d<=1000000)))))))))
def D4 :DO R4 R2:=⟨R4.a,R4.c,fun r=>⟨r.b,r.d⟩,fun x x' s=>⟨x,s.a,x',s.b⟩,fun x r=>⟨r.a,r.b,x,r.d⟩,Vw,EW⟩
theorem PG (l:List R4) (x:Int):(D4.sec l x).length <=1000:=AK (x9j _) (by omega)
section
variable (l:List R4) (hl:l.length<=400)
include hl
theorem u7v (i:Nat) (out:List R4) (last:List R2) (first fin x x':Int): ∀(k j:Nat) (acc:List R2),j+k=l.length->acc.length<=j->
  ∃n,∀N,Yw (Wc l) (N+n) (.to (.h2 (i:Int) (j:Int) out last first fin ((D4.cuts l).length) (C8 (Qi (D4.ends l))) x x' acc))=Yw (Wc l) N (.to (.h2 (i:Int) (l.length:Int) out last first fin ((D4.cuts l).length) (C8 (Qi (D4.ends l))) x x' (acc++D4.inn (l.drop j) x)))
 | 0,j,acc,h,ha=>by refine ⟨0,fun N=> ?_⟩;rw [Aw (by omega),show D4.inn ([]:List R4) x=[] from rfl,AL,Bn,show j=l.length by omega]
 | k+1,j,acc,h,ha=>by
  have hj:j<l.length:=by omega
  obtain ⟨n,hn⟩:=u7v i out last first fin x x' k (j+1) (acc++D4.inn [rd l j] x) (by omega) (by have:=D4.inn_length [rd l j] x;grind)
  refine ⟨n+1,fun N=> ?_⟩;have e:D4.inn (l.drop j) x=D4.inn [rd l j] x++D4.inn (l.drop (j+1)) x:=by rw [Xj hj,<-D4.inn_append];rfl
  rw [e,<-AM,Zw,<-AH,<-hn N];by_cases h1:D4.lo (rd l j)<=x
  .by_cases h2:x<D4.hi (rd l j)
   .rw [D4.inn_t _ _ h1 h2];simp only [D4] at h1 h2 ⊢;simp (disch:=omega) only [Wc,Wb,Yg,Zt,Yb,Ym,Xn,Xe,Xo,Yf,Zm,Zk,Xs,Zj,Al,AA,Ap,Aq,Af,Ab]
   .rw [D4.inn_f2 _ _ h2,AL];simp only [D4] at h1 h2;simp (disch:=omega) only [Wc,Wb,Xz,Yg,Zt,Yb,Ym,Xn,Xe,Xo,Yf,Zm,Zk,Xs,Zj,Al,AA,Ap,Aq,Af,Ab]
  .rw [D4.inn_f1 _ _ h1,AL];simp only [D4] at h1;simp (disch:=omega) only [Wc,Fj,Yg,Zt,Yb,Ym,Xn,Xe,Xo,Yf,Zm,Zk,Xs,Zj,Al,AA,Ap,Aq,Af,Ab]
theorem u7u (i:Nat) (hi:i<=1000) (x x':Int) (s last:List R2) (first:Int) (inn:List R2) (hs:s.length<=1000): ∀(k j:Nat) (out:List R4),j+k=s.length->out.length<=10000000+j->
  ∃n,∀N,Yw (Wc l) (N+n) (.to (.h3 x x' s (s.length:Int) (j:Int) s (i:Int) out last first ((D4.cuts l).length) (C8 (Qi (D4.ends l))) inn))=Yw (Wc l) N (.to (.h1 ((i+1:Nat):Int) (out++(s.drop j).map (D4.put x x')) last first x' ((D4.cuts l).length) (C8 (Qi (D4.ends l)))))
 | 0,j,out,h,ho=>by
  have _u:=hl;refine ⟨1,fun N=> ?_⟩
  grind [Zw,Wc,Zm]
 | k+1,j,out,h,ho=>by
  obtain ⟨n,hn⟩:=u7u i hi x x' s last first inn hs k (j+1) (out++[D4.put x x' (rd s j)]) (by omega) (by simp;omega)
  refine ⟨n+1,fun N=> ?_⟩;have:=hn N;rw [Xj (show j<s.length by omega),A2,<-AM,Zw];simp (disch:=omega) only [Wc,Yg,Zt,Yb,Ym,Xn,Xe,Xo,Yf,Zm,Zk,Xs,Zj,Al,AA,Ap,Aq,Af,Ab];rw [AH] at this;exact this
theorem u7t (i:Nat) (hi:i<=1000) (x x' fin:Int) (s last:List R2) (first:Int) (inn:List R2): ∀(k j:Nat) (out:List R4),j+k=out.length->out.length<=10000000->
  ∃n,∀N,Yw (Wc l) (N+n) (.to (.h4 x' (j:Int) x s (i:Int) out last first fin ((D4.cuts l).length) (C8 (Qi (D4.ends l))) inn))=Yw (Wc l) N (.to (.h1 ((i+1:Nat):Int) (D4.grow out j x') last first x' ((D4.cuts l).length) (C8 (Qi (D4.ends l)))))
 | 0,j,out,h,ho=>by
  have _u:=hl;refine ⟨1,fun N=> ?_⟩;rw [D4.grow_nil _ _ _ (by omega),Zw]
  grind [Wc,Zm]
 | k+1,j,out,h,ho=>by
  obtain ⟨n,hn⟩:=u7t i hi x x' fin s last first inn k (j+1) (out.set j (D4.ext x' (rd out j))) (by simp;omega) (by grind)
  refine ⟨n+1,fun N=> ?_⟩;have:=hn N;rw [D4.grow_set out j _ (by omega)] at this;rw [<-AM,Zw];simp (disch:=omega) only [Wc,Yg,Zt,Yb,Ym,Xn,Xe,Xo,Yf,Zm,Zk,Xs,Zj,Al,AA,Ap,Aq,Af,Ab];exact this
theorem v5v : ∀(k i:Nat) (s:Sw R4 R2),k=(D4.cuts l).length - 1 - i->i<=(D4.cuts l).length ->s.out.length<=i*1000->s.last.length<=1000->s.first<=s.out.length->
  ∃n,Yw (Wc l) n (.to (.h1 ((i+1:Nat):Int) s.out s.last (s.first:Int) s.fin ((D4.cuts l).length) (C8 (Qi (D4.ends l)))))=.ret (Pf (D4.go l k i s).out)
 | 0,i,s,h,hi,ho,hla,hf=>by
  have hc:=D4.cuts_length l;refine ⟨1,?_⟩;rw [Zw,show D4.go l 0 i s=s from rfl]
  grind [Pf,Wc,Zh]
 | k +1,i,s,h,hi,ho,hla,hf=>by
  have hc:=D4.cuts_length l;have hi1:i+1<(D4.cuts l).length :=by omega
  have hpl:(C8 (Qi (D4.ends l))).length =2*l.length:=by rw [X9,UZ,D4.ends_length]
  have r0:rd (C8 (Qi (D4.ends l))) i=rd (D4.cuts l) i:=W8 _ _ (by show i<(D4.cuts l).length;omega);have r1:rd (C8 (Qi (D4.ends l))) (i+1)=rd (D4.cuts l) (i+1):=W8 _ _ (by show i+1<(D4.cuts l).length;omega);have hbig:i*1000<=1000*1000:=AE _ (by omega);have hsl:=PG l (rd (D4.cuts l) i);have hsd:D4.sec l (rd (D4.cuts l) i)=Vw (D4.inn l (rd (D4.cuts l) i)):=rfl;obtain ⟨n3,h3⟩:=u7v l hl (i+1) s.out s.last (s.first:Int) s.fin (rd (D4.cuts l) i) (rd (D4.cuts l) (i+1)) l.length 0 [] (Al _) (Ak _);simp only [AQ,A6,HI] at h3;have w1:ZJ (D4.inn l (rd (D4.cuts l) i))=true:=rfl;have w2:Kz s.last (Vw (D4.inn l (rd (D4.cuts l) i)))=true:=Aa (by omega);have ol:=D4.one_length l (rd (D4.cuts l) i) (rd (D4.cuts l) (i+1)) s;have st0: ∀N,Yw (Wc l) (N+n3+1) (.to (.h1 ((i+1:Nat):Int) s.out s.last (s.first:Int) s.fin ((D4.cuts l).length) (C8 (Qi (D4.ends l)))))=Yw (Wc l) N (.to (.h2 ((i+1:Nat):Int) (l.length:Int) s.out s.last (s.first:Int) s.fin ((D4.cuts l).length) (C8 (Qi (D4.ends l))) (rd (D4.cuts l) i) (rd (D4.cuts l) (i+1)) (D4.inn l (rd (D4.cuts l) i)))):=fun N=>by
   rw [<-h3 N,Zw];have e1:wrap .i64 (((i+1:Nat):Int) - 1)=(i:Int):=by rw [Yy];exact Zm (by omega)
   simp (disch:=omega) only [Wc,e1,r0,r1,Yg,Zt,Yb,Ym,Xn,Xe,Xo,Yf,Zm,Zk,Xs,Zj,Al,AA,Ap,Aq,Af,Ab]
  rcases Vo (decide (0<(D4.sec l (rd (D4.cuts l) i)).length)&&((s.fin == rd (D4.cuts l) i)&&D4.same s.last (D4.sec l (rd (D4.cuts l) i)))) with q | q
  .obtain ⟨n5,h5⟩:=u7t l hl (i+1) (by omega) (rd (D4.cuts l) i) (rd (D4.cuts l) (i+1)) s.fin (D4.sec l (rd (D4.cuts l) i)) s.last (s.first:Int) (D4.inn l (rd (D4.cuts l) i)) (s.out.length - s.first) s.first s.out (by omega) (by omega)
   have e:D4.one l (rd (D4.cuts l) i) (rd (D4.cuts l) (i+1)) s=⟨D4.grow s.out s.first (rd (D4.cuts l) (i+1)),s.last,s.first,rd (D4.cuts l) (i+1)⟩:=by unfold DO.one;rw [q];rfl
   obtain ⟨n0,h0⟩:=v5v k (i+1) (D4.one l (rd (D4.cuts l) i) (rd (D4.cuts l) (i+1)) s) (by omega) (by omega) (by omega) (by grind) (by grind [DO.grow_length]);refine ⟨n0+n5+1+n3+1,?_⟩;rw [st0 (n0+n5+1),Zw];simp only [Ad,An] at q;obtain ⟨q1,q2,q3⟩:=q;have q3':EW s.last (Vw (D4.inn l (rd (D4.cuts l) i)))=true:=q3
   grind [Wc,Yg,DO.go]
  .obtain ⟨n4,h4⟩:=u7u l hl (i+1) (by omega) (rd (D4.cuts l) i) (rd (D4.cuts l) (i+1)) (D4.sec l (rd (D4.cuts l) i)) (D4.sec l (rd (D4.cuts l) i)) (s.out.length:Int) (D4.inn l (rd (D4.cuts l) i)) hsl (D4.sec l (rd (D4.cuts l) i)).length 0 s.out (Al _) (by omega);simp only [AQ,HI] at h4;have e:D4.one l (rd (D4.cuts l) i) (rd (D4.cuts l) (i+1)) s=⟨s.out++(D4.sec l (rd (D4.cuts l) i)).map (D4.put (rd (D4.cuts l) i) (rd (D4.cuts l) (i+1))),D4.sec l (rd (D4.cuts l) i),s.out.length,rd (D4.cuts l) (i+1)⟩:=by unfold DO.one;rw [q];rfl
   obtain ⟨n0,h0⟩:=v5v k (i+1) (D4.one l (rd (D4.cuts l) i) (rd (D4.cuts l) (i+1)) s) (by omega) (by omega) (by omega) (by grind) (by rw [e];simp);have hg:Yw (Wc l) 1 (.to (.h2 ((i+1:Nat):Int) (l.length:Int) s.out s.last (s.first:Int) s.fin ((D4.cuts l).length) (C8 (Qi (D4.ends l))) (rd (D4.cuts l) i) (rd (D4.cuts l) (i+1)) (D4.inn l (rd (D4.cuts l) i))))=.to (.h3 (rd (D4.cuts l) i) (rd (D4.cuts l) (i+1)) (D4.sec l (rd (D4.cuts l) i)) ((D4.sec l (rd (D4.cuts l) i)).length :Int) 0 (D4.sec l (rd (D4.cuts l) i)) ((i+1:Nat):Int) s.out (D4.sec l (rd (D4.cuts l) i)) (s.out.length:Int) ((D4.cuts l).length) (C8 (Qi (D4.ends l))) (D4.inn l (rd (D4.cuts l) i))):=by
    rw [show (1:Nat)=0+1 from rfl,Zw];rw [hsd] at q ⊢;have e3:D4.same s.last (Vw (D4.inn l (rd (D4.cuts l) i)))=EW s.last (Vw (D4.inn l (rd (D4.cuts l) i))):=rfl;rw [e3] at q;by_cases q1:0<(Vw (D4.inn l (rd (D4.cuts l) i))).length
    .rw [Aa q1,Aq] at q;rcases Vo (s.fin == rd (D4.cuts l) i) with q2 | q2
     .rw [q2,Aq] at q;simp (disch:=omega) only [Wc,Yg,Zt,Xz,Xv,q2,q,w1,w2,Af,Ab];rfl
     .simp (disch:=omega) only [Wc,Yg,Zt,Xz,Xv,q2,w1,w2,Af,Ab];rfl
    .simp (disch:=omega) only [Wc,Yg,Zt,Xz,Wz,w1,w2,Af,Ab];rfl
   refine ⟨n0+n4+1+n3+1,?_⟩;simp_all [x7t,DO.go]
theorem u7w : ∀(k i:Nat) (acc:List Int),i+k=l.length->acc=D4.ends (l.take i)-> ∃n,Yw (Wc l) n (.to (.h0 (i:Int) acc))=.ret (Pf (D4.go l ((D4.cuts l).length - 1) 0 ⟨[],[],0,0⟩).out)
 | 0,i,acc,h,ha=>by
  have e:acc=D4.ends l:=by grind
  subst e;have hle:=D4.ends_length l;obtain ⟨n,hn⟩:=v5v l hl ((D4.cuts l).length - 1) 0 ⟨[],[],0,0⟩ (by omega) (AG _) (AG _) (AG _) (AG _);refine ⟨n+1,?_⟩;rw [Zw];simp (disch:=omega) only [Wc,X8,x1l,v7w,Xz,Xe,Xo,AA,Af,Ab];exact hn
 | k+1,i,acc,h,ha=>by
  have hle:=D4.ends_length (l.take i);have hacc:acc.length<=2*i:=by grind
  obtain ⟨n,hn⟩:=u7w k (i+1) (acc++D4.ends [rd l i]) (by omega) (by
   rw [ha,Bw];have:l[i]? =some (rd l i):=by grind [Wf]
   rw [this,D4.ends_append];rfl)
  refine ⟨n+1,?_⟩;rw [Zw];simp (disch:=omega) only [Wc,Yg,Zt,Yb,Ym,Xn,Xe,Xo,Yf,Zm,Zk,Xs,Zj,Al,AA,Ap,Aq,Af,Ab];exact hn
end
def GI (l:List R4):Int:=IP (D4.out l).length
def FU (l:List R4):List R4:=GP (GI l) (D4.out l)
def Lu (l:List R4):Int:=GI l
def QT (l:List R4):Bool:=decide (l.length<=400)
theorem j2f (l:List R4) (h:QT l=true): ∃n,Yw (Wc l) n (x3p l)=.ret (Ik (GI l) (D4.out l)):=by rw [show Ik (GI l) (D4.out l)=Pf (D4.out l) from (v8a _).symm];exact u7w l (Av h) l.length 0 [] (Al _) rfl
def Fq (a b c d:Int):Bool:=DS ⟨a,b,c,d⟩
theorem u8y (a b c d:Int): ∃N,Yw (x8x a b c d) N (V2 a b c d)=.ret [.bool (Fq a b c d)]:=⟨0,by
 unfold V2 Fq DS;simp only [w3t];cases decide (a<c) <;> cases decide (b<d) <;> cases decide (a>= -1000000) <;> cases decide (a<=1000000) <;> cases decide (c>= -1000000) <;> cases decide (c<=1000000) <;> cases decide (b>= -1000000) <;> cases decide (b<=1000000) <;> cases decide (d>= -1000000) <;> rfl⟩
def OD :List B1->Option (B1×Bool)
 | [.agg [.int .i64 aO,.int .i64 bD,.int .i64 bE,.int .i64 bC]]=>some (.bool (Fq aO bD bE bC),true)
 | _=>none
theorem j3s {S:B3} (hS:Zv prog S):Zv prog (S.with w5n OD):=by
 refine CP hS (by kernel_rfl) fun args v h=> ?_;unfold OD at h;split at h
 .rename_i aO bD bE bC;simp only [Ae,Ac,and_true] at h;subst h;obtain ⟨N,hN⟩:=u8y aO bD bE bC;exact ⟨_,_,(.cons (.refl _) .nil),rfl,v9b aO bD bE bC N _ hN,3,rfl⟩
 .cases h
def OT :List B1->Option (B1×Bool)
 | [a0]=>match C7 R4 a0 with
  | some (L0,g0,n0)=>some (.tup [.dat (FU L0).length (Zz (FU L0)),.int .i64 (Lu L0)],CQ R4 n0 g0&&(QT L0))
  | _=>none
 | _=>none
theorem j4o {S:B3} (hS:Zv prog S):Zv prog (S.with v5r OT):=by
 refine GO hS (by kernel_rfl) fun args v h=> ?_;unfold OT at h;split at h
 .rename_i a0;split at h
  .rename_i L0 g0 n0 e0;simp only [Ae,Ac,Ad] at h;obtain ⟨rfl,ho0,hw⟩:=h;obtain ⟨N,hN⟩:=j2f L0 hw;exact ⟨_,_,(.cons (Xf e0 ho0) .nil),u1b _ _,u2t L0 N _ hN,3,j1e _ _⟩
  .cases h
 .cases h
def T6v :B3:=(T6.with w5n OD)
theorem Ox :Zv prog T6v:=(j3s Qy)
def T6m :B3:=(T6v.with v5r OT)
theorem L8 :Zv prog T6m:=(j4o Ox)
inductive Hd where
 | h0 (v8:Int)
def M8 (l0:List R4):Hd->CE
 | .h0 v8=>⟨⟨19,0,true⟩,none,(Zf prog 197 [1,0,1,0,0] 0),none,(Zy prog 3),⟨Ye [(0,(.dat l0.length (Zz l0))),(1,(.fn 165 [])),(7,(ii (l0.length:Int))),(8,(ii v8))],Xt [] 0,0,[],true⟩,[⟨⟨9,0,true⟩,(CU prog 164 [1,0] 2),(Zf prog 164 [1,0] 1),none,(Zy prog 3),Ye [(5,(.dat l0.length (Zz l0))),(6,(.fn 165 []))]⟩,⟨⟨13,0,true⟩,(CU prog 140 [1,1,0,0] 1),(Zf prog 140 [1,1,0,0] 1),none,(Zy prog 10),Ye [(0,(.dat l0.length (Zz l0))),(7,(.dat l0.length (Zz l0)))]⟩],.leaf⟩
def Jl :List (Option (List Nat)):=[some [0,1,7,8],some [5,6],some [0,7]]
def KA :List (Option (List Nat)):=[]
def IX (l0:List R4):Hd->Xu Hd
 | .h0 v8=>(bif (decide (v8<(l0.length:Int))) then (bif ((decide (0<=v8/\v8<(l0.length:Int)))&&true) then (bif (!(Fq (rd l0 v8.toNat).a (rd l0 v8.toNat).b (rd l0 v8.toNat).c (rd l0 v8.toNat).d)) then (bif (decide (v8>=0)) then (.ret [.nils,(.int .i64 8)]) else (bif (QT (B2 l0)) then (.ret [(.dat (FU (B2 l0)).length (Zz (FU (B2 l0)))),(.int .i64 (Lu (B2 l0)))]) else .stuck)) else (.to (.h0 (wrap .i64 (v8+1))))) else .stuck) else (bif (QT (B2 l0)) then (.ret [(.dat (FU (B2 l0)).length (Zz (FU (B2 l0)))),(.int .i64 (Lu (B2 l0)))]) else .stuck))
def QL (l0:List R4):Xu Hd:=(bif (decide ((l0.length:Int)>400)) then (.ret [.nils,(.int .i64 4)]) else (.to (.h0 0)))
theorem w8p (l0:List R4): ∀s,Wj prog (Zy prog 140) (M8 l0) (M8 l0 s) (IX l0 s)
 | .h0 v8=>let a:=FU (B2 l0);let c:=ii (Lu (B2 l0));(lb (fun k0=>(lo fun aG=>let b:=ww aG (tt k0 nn);(lb (fun k1=>(lb (fun k2=>(lr 13 140 [1,1,0,1,0,0] 1 10 [(2,.nils),(3,(ii 8))] (sl L8 54 [] (b8 [2,3]) b7 (CA 3 []) (tt k2 (tt k1 b))))) (fun k2=>(lo fun o0=>(lr 13 3 [1,1,1,1,1,1,0] 1 10 [(2,(.dat a.length (Zz a))),(3,c)] (sl L8 59 [] (b8 [2,3]) b7 (bl 3 3) (pp (pp (xr l0) (xw o0)) (tt k2 (tt k1 b))))))))) (fun k1=>(sl L8 44 [] ⟨[],[],Jl,KA⟩ b7 (bl 2 1) (tt k1 b)))))) (fun k0=>(lo fun o0=>(lr 13 3 [1,1,1,1,1,1,0] 1 10 [(2,(.dat a.length (Zz a))),(3,c)] (sl L8 28 [] (b8 [2,3]) b7 (bl 2 0) (pp (pp (xr l0) (xw o0)) (tt k0 nn)))))))
theorem w0k (l0:List R4):Wj prog (Zy prog 140) (M8 l0) (Zg prog 140 [(.dat l0.length (Zz l0))] true []) (QL l0):=(lb (fun k0=>(lr 13 140 [1,0,1,0,0] 1 10 [(2,.nils),(3,(ii 4))] (sl L8 18 [] (b8 [2,3]) b7 [true] (tt k0 nn)))) (fun k0=>(sl L8 41 [] ⟨[],[],Jl,KA⟩ b7 [false] (tt k0 nn))))
theorem u0z (l0:List R4) (n:Nat) (vs:List B1) (h:Yw (IX l0) n (QL l0)=.ret vs):Js prog (Zy prog 140) (Zg prog 140 [(.dat l0.length (Zz l0))] true []) vs:=by have:=Ze (w8p l0) n _ (w0k l0);rwa [h] at this
theorem u6s (l:List R4) (hl:l.length<=400): ∀(k i:Nat),i+k=l.length->(∀s∈l.take i,DS s=true)-> ∃n,Yw (IX l) n (.to (.h0 (i:Int)))=.ret (bif l.all DS then [.dat (FU l).length (Zz (FU l)),.int .i64 (Lu l)] else [.nils,.int .i64 8])
 | 0,i,h,ht=>by
  have hv:l.all DS=true:=Ay.2 fun s hs=>ht s (by grind);have w:QT l=true:=Aa hl;refine ⟨1,?_⟩
  grind [Zw,IX,Yg,Zh]
 | k+1,i,h,ht=>by
  have hi:i<l.length:=by omega
  have hs:IX l (.h0 (i:Int))=bif DS (rd l i) then .to (.h0 ((i+1:Nat):Int)) else .ret [.nils,.int .i64 8]:=by have e:Fq (rd l i).a (rd l i).b (rd l i).c (rd l i).d =DS (rd l i):=rfl;simp (disch:=omega) only [IX,e,w3r,v7k,u8k,Ym,Zm,Zk,Zj,Ap,Af,Ab]
  rcases Vo (DS (rd l i)) with q | q
  .obtain ⟨n,hn⟩:=u6s l hl k (i+1) (by omega) (fun s hs=>by
    rw [Bw] at hs
    grind [Wf])
   refine ⟨n+1,?_⟩
   grind [Zw]
  .have hv:l.all DS=false:=A5.2 fun e=>by
    grind [Wf]
   refine ⟨1,?_⟩
   grind [Zw,Zh]
theorem u0y (l:List R4): ∃n,Yw (IX l) n (QL l)=.ret (bif decide (400<l.length) then [.nils,.int .i64 4] else bif l.all DS then [.dat (FU l).length (Zz (FU l)),.int .i64 (Lu l)] else [.nils,.int .i64 8]):=by
 unfold QL;by_cases h:400<l.length
 .refine ⟨0,?_⟩;rw [Aa h,Xv (show (l.length:Int)>400 by omega)];rfl
 .obtain ⟨n,hn⟩:=u6s l (by omega) l.length 0 (Al _) (fun s hs=>by simp at hs)
  grind
def Wh (l:List R4):List R4:=bif decide (400<l.length) then [] else bif l.all DS then (bif decide (((D4.out l).length :Int)>400) then [] else D4.out l) else []
def Gj (l:List R4):Int:=bif decide (400<l.length) then 4 else bif l.all DS then (bif decide (((D4.out l).length :Int)>400) then 4 else 0) else 8
def UH (l:List R4):Bool:=true
theorem j1b (l:List R4) (h:UH l=true): ∃n,Yw (IX l) n (QL l)=.ret (bif decide (400<l.length) then [.nils,.int .i64 4] else bif l.all DS then [.dat (Wh l).length (Zz (Wh l)),.int .i64 (Gj l)] else [.nils,.int .i64 8]):=by
 obtain ⟨n,hn⟩:=u0y l
 grind [FU,Wh,GI,GP,IP,Lu,Gj]
def OL :List B1->Option (B1×Bool)
 | [a0]=>match C7 R4 a0 with
  | some (L0,g0,n0)=>some (.tup [.dat (Wh L0).length (Zz (Wh L0)),.int .i64 (Gj L0)],CQ R4 n0 g0&&(UH L0))
  | _=>none
 | _=>none
theorem j4e {S:B3} (hS:Zv prog S):Zv prog (S.with w5o OL):=by
 refine GO hS (by kernel_rfl) fun args v h=> ?_;unfold OL at h;split at h
 .rename_i a0;split at h
  .rename_i L0 g0 n0 e0;simp only [Ae,Ac,Ad] at h;obtain ⟨rfl,ho0,hw⟩:=h;obtain ⟨N,hN⟩:=j1b L0 hw;refine ⟨_,_,(.cons (Xf e0 ho0) .nil),?_,u0z L0 N _ hN,3,?_⟩
   .cases h1:decide (400<L0.length) <;> cases h2:L0.all DS <;> simp only [Wh,Gj,h1,h2,Af,Ab]
    .exact fun ρ u hu=>Gk (.cons (Gr R4) (Ch.refl _)) ρ u hu
    .exact fun ρ u hu=>hu
    .exact fun ρ u hu=>Gk (.cons (Gr R4) (Ch.refl _)) ρ u hu
    .exact fun ρ u hu=>Gk (.cons (Gr R4) (Ch.refl _)) ρ u hu
   .cases decide (400<L0.length) <;> cases L0.all DS <;> rfl
  .cases h
 .cases h
def T7 :B3:=(T6m.with w5o OL)
theorem Ie :Zv prog T7:=(j4e L8)
inductive HM where
def MH (aO:Int) (bD:Int) (bE:Int) (bC:Int) (cP:Int) (cQ:Int):HM->CE
 :=nofun
def x8v (aO:Int) (bD:Int) (bE:Int) (bC:Int) (cP:Int) (cQ:Int):HM->Xu HM
 :=nofun
def V3 (aO:Int) (bD:Int) (bE:Int) (bC:Int) (cP:Int) (cQ:Int):Xu HM:=(bif (decide (aO<bC)) then (bif (decide (bD<cP)) then (bif (decide (bE<cQ)) then (bif (decide ((Cw (Cw aO bD) bE)>=(-1000000))) then (bif (decide ((Cv (Cv aO bD) bE)<=1000000)) then (bif (decide ((Cw (Cw bC cP) cQ)>=(-1000000))) then (.ret [(.bool (decide ((Cv (Cv bC cP) cQ)<=1000000)))]) else (.ret [(.bool false)])) else (.ret [(.bool false)])) else (.ret [(.bool false)])) else (.ret [(.bool false)])) else (.ret [(.bool false)])) else (.ret [(.bool false)]))
theorem w7e (aO:Int) (bD:Int) (bE:Int) (bC:Int) (cP:Int) (cQ:Int): ∀s,Wj prog (Zy prog 101) (MH aO bD bE bC cP cQ) (MH aO bD bE bC cP cQ s) (x8v aO bD bE bC cP cQ s)
 :=nofun
theorem x8w (aO:Int) (bD:Int) (bE:Int) (bC:Int) (cP:Int) (cQ:Int):Wj prog (Zy prog 101) (MH aO bD bE bC cP cQ) (Zg prog 101 [(.agg [(.int .i64 aO),(.int .i64 bD),(.int .i64 bE),(.int .i64 bC),(.int .i64 cP),(.int .i64 cQ)])] true []) (V3 aO bD bE bC cP cQ):=(lb (fun k0=>(lb (fun k1=>let b:=tt k1 (tt k0 nn);(lb (fun k2=>let a:=tt k2 b;(lb (fun k3=>(lb (fun k4=>let c:=tt k4 (tt k3 a);(lb (fun k5=>(lr 38 3 [1,1,1,1,1,1,0] 1 9 [(2,(.bool (decide ((Cv (Cv bC cP) cQ)<=1000000))))] (sl Ie 100 [] (b8 [2]) b7 (CA 36 []) (tt k5 c)))) (fun k5=>(lr 38 3 [1,1,1,1,1,1,0] 1 9 [(2,(.bool false))] (sl Ie 100 [] (b8 [2]) b7 (CA 28 (bl 8 0)) (tt k5 c)))))) (fun k4=>(lr 38 3 [1,1,1,1,1,1,0] 1 9 [(2,(.bool false))] (sl Ie 72 [] (b8 [2]) b7 (CA 25 (bl 3 0)) (tt k4 (tt k3 a))))))) (fun k3=>(lr 38 3 [1,1,1,1,1,1,0] 1 9 [(2,(.bool false))] (sl Ie 72 [] (b8 [2]) b7 (CA 17 (bl 11 0)) (tt k3 a)))))) (fun k2=>(lr 38 3 [1,1,1,1,1,1,0] 1 9 [(2,(.bool false))] (sl Ie 44 [] (b8 [2]) b7 (CA 14 (bl 6 0)) (tt k2 b)))))) (fun k1=>(lr 38 3 [1,1,1,1,1,1,0] 1 9 [(2,(.bool false))] (sl Ie 44 [] (b8 [2]) b7 (CA 7 (bl 13 0)) (tt k1 (tt k0 nn))))))) (fun k0=>(lr 38 3 [1,1,1,1,1,1,0] 1 9 [(2,(.bool false))] (sl Ie 44 [] (b8 [2]) b7 (bl 20 0) (tt k0 nn)))))
theorem v9a (aO:Int) (bD:Int) (bE:Int) (bC:Int) (cP:Int) (cQ:Int) (n:Nat) (vs:List B1) (h:Yw (x8v aO bD bE bC cP cQ) n (V3 aO bD bE bC cP cQ)=.ret vs):Js prog (Zy prog 101) (Zg prog 101 [(.agg [(.int .i64 aO),(.int .i64 bD),(.int .i64 bE),(.int .i64 bC),(.int .i64 cP),(.int .i64 cQ)])] true []) vs:=by have:=Ze (w7e aO bD bE bC cP cQ) n _ (x8w aO bD bE bC cP cQ);rwa [h] at this
def DT (r:R6):Bool:=decide (r.a<r.d)&&(decide (r.b<r.e)&&(decide (r.c<r.f)&&(decide ((Cw (Cw r.a r.b) r.c)>=(-1000000))&&(decide ((Cv (Cv r.a r.b) r.c)<=1000000)&&(decide ((Cw (Cw r.d r.e) r.f)>=(-1000000))&&decide ((Cv (Cv r.d r.e) r.f)<=1000000))))))
def Fp (a b c d e f:Int):Bool:=DT ⟨a,b,c,d,e,f⟩
theorem u8x (a b c d e f:Int): ∃N,Yw (x8v a b c d e f) N (V3 a b c d e f)=.ret [.bool (Fp a b c d e f)]:=⟨0,by
 unfold V3 Fp DT;simp only [w3t];cases decide (a<d) <;> cases decide (b<e) <;> cases decide (c<f) <;> cases decide ((Cw (Cw a b) c)>=(-1000000)) <;> cases decide ((Cv (Cv a b) c)<=1000000) <;> cases decide ((Cw (Cw d e) f)>=(-1000000)) <;> rfl⟩
def OC :List B1->Option (B1×Bool)
 | [.agg [.int .i64 aO,.int .i64 bD,.int .i64 bE,.int .i64 bC,.int .i64 cP,.int .i64 cQ]]=>some (.bool (Fp aO bD bE bC cP cQ),true)
 | _=>none
theorem j3r {S:B3} (hS:Zv prog S):Zv prog (S.with w5m OC):=by
 refine CP hS (by kernel_rfl) fun args v h=> ?_;unfold OC at h;split at h
 .rename_i aO bD bE bC cP cQ;simp only [Ae,Ac,and_true] at h;subst h;obtain ⟨N,hN⟩:=u8x aO bD bE bC cP cQ;exact ⟨_,_,(.cons (.refl _) .nil),rfl,v9a aO bD bE bC cP cQ N _ hN,3,rfl⟩
 .cases h
def T7v :B3:=(T7.with w5m OC)
theorem Ua :Zv prog T7v:=(j3r Ie)
abbrev Z4 (aW:List R6) (v8:Int) (v2:Int):=(aW.set (0+(tn v8)) (R6.mk (rd aW (0+(tn v8))).a (rd aW (0+(tn v8))).b (rd aW (0+(tn v8))).c (rd aW (0+(tn v8))).d (rd aW (0+(tn v8))).e v2))
def x9n (l0:List R6):CX:=⟨⟨25,0,true⟩,(CU prog 61 [1,1,1,0,0] 3),(Zf prog 61 [1,1,1,0,0] 1),none,(Zy prog 9),Ye [(0,(.dat l0.length (Zz l0))),(11,(.agg [.nilf])),(13,(.sl 8 0 1 (.un 1)))]⟩
abbrev Pa (aI:List Int):=(C8 (Ws aI.length (DC (Zz (Qi (Ws aI.length (DC (Zz aI))))))))
abbrev Z5 (aZ:List R4) (l0:List R6) (v38:Int):=(aZ++[(R4.mk (rd l0 (tn v38)).a (rd l0 (tn v38)).b (rd l0 (tn v38)).d (rd l0 (tn v38)).e)])
abbrev Z6 (aW:List R6) (v72:List R4) (v74:Int) (v1:Int) (v2:Int):=(aW++[(R6.mk (rd v72 (tn v74)).a (rd v72 (tn v74)).b v1 (rd v72 (tn v74)).c (rd v72 (tn v74)).d v2)])
def v2z :=(F7 [(0,⟨.ready,none,65,Ye [(2,(.ptr 1 0)),(4,(.ptr 2 0)),(5,(.ptr 3 0)),(6,(.ptr 4 0))],[15],(DE prog 102 [1,1,0,1,0,0]),(DE prog 102 [1,1,0,1,0,1])⟩)])
def Qq (l0:List R6):B1:=(.dat l0.length (Zz l0))
def v2y :CX:=⟨⟨65,0,true⟩,none,(.inRangeFunc 0::(Zf prog 102 [1,1,0,1,0] 1)),none,(Zy prog 102),Ye [(4,(.ptr 2 0)),(5,(.ptr 3 0)),(6,(.ptr 4 0))]⟩
abbrev Z7 (aI:List Int) (l0:List R6) (v16:Int):=(aI++[(rd l0 (tn v16)).c,(rd l0 (tn v16)).f])
inductive HY where
 | h0 (v8:Int)
 | h1 (v16:Int) (aI:List Int)
 | h2 (v4:Int) (bU:List R6) (cV:List R4) (dC:Int) (dD:Int) (bT:Nat) (cC:List Int)
 | h3 (v4:Int) (v38:Int) (bU:List R6) (cV:List R4) (dC:Int) (dD:Int) (bT:Nat) (cC:List Int) (cT:Int) (dH:Int) (aZ:List R4)
 | h4 (v1:Int) (v2:Int) (v72:List R4) (v73:Int) (v74:Int) (bI:List R4) (cL:Int) (aW:List R6) (aC:List R4) (bW:Int) (bT:Nat) (cC:List Int) (cT:List R4)
 | h5 (v2:Int) (v8:Int) (dS:Int) (bI:List R4) (cL:Int) (aW:List R6) (aC:List R4) (bW:Int) (cE:Int) (dF:Nat) (dP:List Int) (aZ:List R4)
def MR (l0:List R6):HY->CE
 | .h0 v8=>⟨⟨19,0,true⟩,none,(Zf prog 137 [1,0,1,0,0] 0),none,(Zy prog 3),⟨Ye [(0,(Qq l0)),(1,(.fn 100 [])),(7,(ii (l0.length:Int))),(8,(ii v8))],Xt [] 0,0,[],true⟩,[⟨⟨9,0,true⟩,(CU prog 99 [1,0] 2),(Zf prog 99 [1,0] 1),none,(Zy prog 3),Ye [(5,(Qq l0)),(6,(.fn 100 []))]⟩,⟨⟨25,0,true⟩,(CU prog 61 [1,1,0,0] 1),(Zf prog 61 [1,1,0,0] 1),none,(Zy prog 9),Ye [(0,(Qq l0)),(8,(Qq l0))]⟩],.leaf⟩
 | .h1 v16 aI=>⟨⟨36,0,true⟩,none,(Zf prog 139 [1,1,0,1,0,0,1,1,0,0,1,1,0,0] 0),none,(Zy prog 9),⟨Ye [(1,(.ptr 0 0)),(3,(.ptr 2 0)),(8,(.sl 1 0 1 (.un 1))),(9,(ii 1)),(10,(ii 0)),(14,(Qq l0)),(15,(ii (l0.length:Int))),(16,(ii v16))],Xt [⟨[(.sl 1 0 1 (.un 1))],194,none⟩,⟨[(Qq l0)],45,none⟩,⟨[(.sla 7 1 0 aI.length (.un 1))],83,none⟩,⟨[.nilf],174,none⟩,⟨[.nils],46,none⟩,⟨[(ii 0)],24,none⟩,⟨[.nils,.nils,(ii 0),(ii 0)],198,none⟩,⟨rows aI.length (Zz aI),3,some ⟨1,aI.length,(Zz aI)⟩⟩] 0,8,[],true⟩,[⟨⟨65,0,true⟩,(CU prog 102 [1,1,0,0] 1),(Zf prog 102 [1,1,0,0] 1),none,(Zy prog 102),Ye [(2,(.ptr 3 0)),(4,(.ptr 4 0)),(5,(.ptr 5 0)),(6,(.ptr 6 0)),(13,(.sl 1 0 1 (.un 1)))]⟩,⟨⟨25,0,true⟩,(CU prog 61 [1,1,1,0,0] 3),(Zf prog 61 [1,1,1,0,0] 1),none,(Zy prog 9),Ye [(0,(Qq l0)),(11,(.agg [.nilf])),(13,(.sl 1 0 1 (.un 1)))]⟩],.leaf⟩
 | .h2 v4 bU cV dC dD bT cC=>⟨⟨86,0,true⟩,none,(Zf prog 163 [1,0,0] 0),none,[],⟨Ye [(0,(.yld 0)),(1,(.ptr 5 0)),(2,(.ptr 7 0)),(4,(ii v4))],Eb [(1,⟨[.nilf],174,none⟩),(2,⟨[.nils],46,none⟩),(3,⟨[(ii 0)],24,none⟩),(4,⟨[(.sla 9 6 0 bU.length (.un 6)),(.dat cV.length (Zz cV)),(ii dC),(ii dD)],198,none⟩),(5,⟨[(.sla 6 1 0 bT (.un 1))],83,none⟩),(6,⟨rows cC.length (Zz cC),3,some ⟨1,cC.length,(Zz cC)⟩⟩),(7,⟨[(.sl 8 0 1 (.un 1))],194,none⟩),(8,⟨[(Qq l0)],45,none⟩),(9,⟨rows bU.length (Zz bU),79,some ⟨6,bU.length,(Zz bU)⟩⟩)],10,[],true⟩,[v2y,(x9n l0)],v2z⟩
 | .h3 v4 v38 bU cV dC dD bT cC cT dH aZ=>⟨⟨86,0,true⟩,none,(Zf prog 163 [1,0,0,1,0,0,1,0,1,0,0,1,1,0,0,1,1,0,0] 0),none,[],⟨Ye [(0,(.yld 0)),(1,(.ptr 5 0)),(2,(.ptr 7 0)),(4,(ii v4)),(5,(.ptr 9 0)),(6,(ii 0)),(29,(.sl 8 0 1 (.un 1))),(30,(ii 1)),(31,(ii 0)),(36,(Qq l0)),(37,(ii (l0.length:Int))),(38,(ii v38))],Eb [(1,⟨[.nilf],174,none⟩),(2,⟨[.nils],46,none⟩),(3,⟨[(ii 0)],24,none⟩),(4,⟨[(.sla 12 6 0 bU.length (.un 6)),(.dat cV.length (Zz cV)),(ii dC),(ii dD)],198,none⟩),(5,⟨[(.sla 6 1 0 bT (.un 1))],83,none⟩),(6,⟨rows cC.length (Zz cC),3,some ⟨1,cC.length,(Zz cC)⟩⟩),(7,⟨[(.sl 8 0 1 (.un 1))],194,none⟩),(8,⟨[(Qq l0)],45,none⟩),(9,⟨[(ii cT),(ii dH),(.sl 10 0 1 (.ex 1))],203,none⟩),(10,⟨[(.sla 11 4 0 aZ.length (.un 4))],195,none⟩),(11,⟨rows aZ.length (Zz aZ),168,some ⟨4,aZ.length,(Zz aZ)⟩⟩),(12,⟨rows bU.length (Zz bU),79,some ⟨6,bU.length,(Zz bU)⟩⟩)],13,[],true⟩,[v2y,(x9n l0)],v2z⟩
 | .h4 v1 v2 v72 v73 v74 bI cL aW aC bW bT cC cT=>⟨⟨101,0,true⟩,none,(Zf prog 141 [1,1,1,0,0] 0),none,[],⟨Ye [(0,(.ptr 0 0)),(1,(ii v1)),(2,(ii v2)),(72,(.dat v72.length (Zz v72))),(73,(ii v73)),(74,(ii v74))],Eb [(0,⟨[(.sla 10 6 0 aW.length (.un 6)),(.dat aC.length (Zz aC)),(ii bW),(ii v2)],198,none⟩),(2,⟨[.nilf],174,none⟩),(3,⟨[.nils],46,none⟩),(4,⟨[(ii 0)],24,none⟩),(5,⟨[(.sla 6 1 0 bT (.un 1))],83,none⟩),(6,⟨rows cC.length (Zz cC),3,some ⟨1,cC.length,(Zz cC)⟩⟩),(7,⟨[(.sl 8 0 1 (.un 1))],194,none⟩),(8,⟨[(Qq l0)],45,none⟩),(9,⟨[(.dat cT.length (Zz cT))],195,none⟩),(10,⟨rows aW.length (Zz aW),79,some ⟨6,aW.length,(Zz aW)⟩⟩)],11,[],true⟩,[⟨⟨65,0,true⟩,(CU prog 102 [1,1,0,1,0,1,0,1,1,1] 5),(Zf prog 102 [1,1,0,1,0,1,0,1,1,1] 1),(some 1),[],Ye [(6,(.ptr 0 0)),(54,(ii v1)),(56,(ii v2)),(57,(.dat bI.length (Zz bI)))]⟩,⟨⟨86,0,true⟩,(CU prog 163 [1,0,0,1,0,0,1,1,0] 2),(Zf prog 163 [1,0,0,1,0,0,1,1,0] 1),none,[],Ye [(0,(.yld 1)),(1,(.ptr 5 0)),(2,(.ptr 7 0)),(4,(ii cL)),(82,(.yld 1)),(83,(.agg [(ii v1),(ii v2),(.sl 9 0 1 (.ex 1))]))]⟩,⟨⟨65,0,true⟩,none,(.inRangeFunc 1::(Zf prog 102 [1,1,0,1,0] 1)),none,(Zy prog 102),Ye [(4,(.ptr 3 0)),(5,(.ptr 4 0)),(6,(.ptr 0 0))]⟩,(x9n l0)],(F7 [(1,⟨.busy,none,65,Ye [(2,(.ptr 2 0)),(4,(.ptr 3 0)),(5,(.ptr 4 0)),(6,(.ptr 0 0))],[15],(DE prog 102 [1,1,0,1,0,0]),(DE prog 102 [1,1,0,1,0,1])⟩)])⟩
 | .h5 v2 v8 dS bI cL aW aC bW cE dF dP aZ=>⟨⟨101,0,true⟩,none,(Zf prog 141 [0,1,0,0,1,0,0] 0),none,[],⟨Ye [(0,(.ptr 0 0)),(2,(ii v2)),(8,(ii v8))],Eb [(0,⟨[(.sla 1 6 0 aW.length (.un 6)),(.dat aC.length (Zz aC)),(ii bW),(ii cE)],198,none⟩),(1,⟨rows aW.length (Zz aW),79,some ⟨6,aW.length,(Zz aW)⟩⟩),(3,⟨[.nilf],174,none⟩),(4,⟨[.nils],46,none⟩),(5,⟨[(ii 0)],24,none⟩),(6,⟨[(.sla 7 1 0 dF (.un 1))],83,none⟩),(7,⟨rows dP.length (Zz dP),3,some ⟨1,dP.length,(Zz dP)⟩⟩),(8,⟨[(.sl 9 0 1 (.un 1))],194,none⟩),(9,⟨[(Qq l0)],45,none⟩),(10,⟨[(.dat aZ.length (Zz aZ))],195,none⟩)],11,[],true⟩,[⟨⟨65,0,true⟩,(CU prog 102 [1,1,0,1,0,1,0,1,1,1] 5),(Zf prog 102 [1,1,0,1,0,1,0,1,1,1] 1),(some 2),[],Ye [(6,(.ptr 0 0)),(54,(ii dS)),(56,(ii v2)),(57,(.dat bI.length (Zz bI)))]⟩,⟨⟨86,0,true⟩,(CU prog 163 [1,0,0,1,0,0,1,1,0] 2),(Zf prog 163 [1,0,0,1,0,0,1,1,0] 1),none,[],Ye [(0,(.yld 2)),(1,(.ptr 6 0)),(2,(.ptr 8 0)),(4,(ii cL)),(82,(.yld 2)),(83,(.agg [(ii dS),(ii v2),(.sl 10 0 1 (.ex 1))]))]⟩,⟨⟨65,0,true⟩,none,(.inRangeFunc 2::(Zf prog 102 [1,1,0,1,0] 1)),none,(Zy prog 102),Ye [(4,(.ptr 4 0)),(5,(.ptr 5 0)),(6,(.ptr 0 0))]⟩,⟨⟨25,0,true⟩,(CU prog 61 [1,1,1,0,0] 3),(Zf prog 61 [1,1,1,0,0] 1),none,(Zy prog 9),Ye [(0,(Qq l0)),(11,(.agg [.nilf])),(13,(.sl 9 0 1 (.un 1)))]⟩],(F7 [(2,⟨.busy,none,65,Ye [(2,(.ptr 3 0)),(4,(.ptr 4 0)),(5,(.ptr 5 0)),(6,(.ptr 0 0))],[15],(DE prog 102 [1,1,0,1,0,0]),(DE prog 102 [1,1,0,1,0,1])⟩)])⟩
def Iw :List (Option (List Nat)):=[some [0,1,7,8],some [5,6],some [0,8]]
def Iy :List (Option (List Nat)):=[]
def u9r :List (Option (List Nat)):=[some [1,3,8,9,10,14,15,16],some [2,4,5,6,13],some [0,11,13]]
def u9t :List (Option (List Nat)):=[]
def u9q :List (Option (List Nat)):=[some [0,1,2,4],some [4,5,6],some [0,11,13]]
def u9s :List (Option (List Nat)):=[some [2,4,5,6],none,none,none,none,none,none,none,none,none]
def XA :List (Option (List Nat)):=[some [0,1,2,4,5,6,29,30,31,36,37,38],some [4,5,6],some [0,11,13]]
def W9 :List (Option (List Nat)):=[some [2,4,5,6],none,none,none,none,none,none,none,none,none,none,none,none]
def XB :List (Option (List Nat)):=[some [0,1,2,72,73,74],some [6,54,56,57],some [0,1,2,4,82,83],some [4,5,6],some [0,11,13]]
def Wl :List (Option (List Nat)):=[none,some [2,4,5,6],none,none,none,none,none,none,none,none,none]
def Iv :List (Option (List Nat)):=[some [0,2,8],some [6,54,56,57],some [0,1,2,4,82,83],some [4,5,6],some [0,11,13]]
def Ix :List (Option (List Nat)):=[none,none,some [2,4,5,6],none,none,none,none,none,none,none,none]
def Xd (l0:List R6):HY->Xu HY
 | .h0 v8=>(bif (decide (v8<(l0.length:Int))) then (bif ((decide (0<=v8/\v8<(l0.length:Int)))&&true) then (bif (!(Fp (rd l0 v8.toNat).a (rd l0 v8.toNat).b (rd l0 v8.toNat).c (rd l0 v8.toNat).d (rd l0 v8.toNat).e (rd l0 v8.toNat).f)) then (bif (decide (v8>=0)) then (.ret [(.int .i64 8)]) else (.to (.h1 0 ([]:List Int)))) else (.to (.h0 (wrap .i64 (v8+1))))) else .stuck) else (.to (.h1 0 ([]:List Int))))
 | .h1 v16 aI=>(bif (decide (v16<(l0.length:Int))) then (bif ((decide (0<=v16/\v16<(l0.length:Int)))&&true) then (bif (Nat.beq 1 1&&((decide (0+aI.length=aI.length))&&decide ((aI.length+2+1)*(8+1)<=Vd))) then (.to (.h1 (wrap .i64 (v16+1)) (aI++[(rd l0 v16.toNat).c,(rd l0 v16.toNat).f]))) else .stuck) else .stuck) else (bif (decide (aI.length<4611686018427387904)) then (bif (decide (aI.length=aI.length)) then (.to (.h2 1 ([]:List R6) ([]:List R4) 0 0 (GR (Ws aI.length (DC (Zz (Qi (Ws aI.length (DC (Zz aI)))))))) (C8 (Ws aI.length (DC (Zz (Qi (Ws aI.length (DC (Zz aI)))))))))) else .stuck) else .stuck))
 | .h2 v4 bU cV dC dD bT cC=>(bif (decide (v4<((bT:Nat):Int))) then (bif ((decide (0<=(wrap .i64 (v4 - 1))/\(wrap .i64 (v4 - 1))<((bT:Nat):Int)))&&true) then (bif (decide ((0+(Int.toNat (wrap .i64 (v4 - 1))))<cC.length)) then (bif ((decide (0<=v4/\v4<((bT:Nat):Int)))&&true) then (bif (decide ((0+v4.toNat)<cC.length)) then (.to (.h3 v4 0 bU cV dC dD bT cC (rd cC (0+(Int.toNat (wrap .i64 (v4 - 1))))) (rd cC (0+v4.toNat)) ([]:List R4))) else .stuck) else .stuck) else .stuck) else .stuck) else (bif (decide ((bU.length:Int)>400)) then (.ret [(.int .i64 8)]) else (bif (Nat.beq 6 6&&(decide (0+bU.length<=bU.length)&&Cz (Zz bU))) then (bif (Ue (Cd R6 (bU.length) (fun k=>(Zz bU) (0+k))) (B2 l0)) then (bif (!(Qt (Cd R6 (bU.length) (fun k=>(Zz bU) (0+k))) (B2 l0))) then (.ret [(.int .i64 8)]) else (.ret [(.int .i64 0)])) else .stuck) else .stuck)))
 | .h3 v4 v38 bU cV dC dD bT cC cT dH aZ=>(bif (decide (v38<(l0.length:Int))) then (bif ((decide (0<=v38/\v38<(l0.length:Int)))&&true) then (bif (decide ((rd l0 v38.toNat).c <=cT)) then (bif (decide (cT<(rd l0 v38.toNat).f)) then (bif (Nat.beq 4 4&&((decide (0+aZ.length=aZ.length))&&decide ((aZ.length+1+1)*(32+1)<=Vd))) then (.to (.h3 v4 (wrap .i64 (v38+1)) bU cV dC dD bT cC cT dH (aZ++[(R4.mk (rd l0 v38.toNat).a (rd l0 v38.toNat).b (rd l0 v38.toNat).d (rd l0 v38.toNat).e)]))) else .stuck) else (.to (.h3 v4 (wrap .i64 (v38+1)) bU cV dC dD bT cC cT dH aZ))) else (.to (.h3 v4 (wrap .i64 (v38+1)) bU cV dC dD bT cC cT dH aZ))) else .stuck) else (bif (UH (B2 aZ)) then (bif ((Gj (B2 aZ)) != 0) then (.ret [(.int .i64 8)]) else (bif (decide ((((Wh (B2 aZ)).length :Nat):Int)>0)) then (bif (dD == cT) then (bif (Jt (B2 cV) (B2 (Wh (B2 aZ)))) then (bif (EX (B2 cV) (B2 (Wh (B2 aZ)))) then (.to (.h5 dH dC cT (Wh (B2 aZ)) v4 bU cV dC dD bT cC aZ)) else (.to (.h4 cT dH (Wh (B2 aZ)) (((Wh (B2 aZ)).length :Nat):Int) 0 (Wh (B2 aZ)) v4 bU (Wh (B2 aZ)) (bU.length:Int) bT cC aZ))) else .stuck) else (.to (.h4 cT dH (Wh (B2 aZ)) (((Wh (B2 aZ)).length :Nat):Int) 0 (Wh (B2 aZ)) v4 bU (Wh (B2 aZ)) (bU.length:Int) bT cC aZ))) else (.to (.h4 cT dH (Wh (B2 aZ)) (((Wh (B2 aZ)).length :Nat):Int) 0 (Wh (B2 aZ)) v4 bU (Wh (B2 aZ)) (bU.length:Int) bT cC aZ)))) else .stuck))
 | .h4 v1 v2 v72 v73 v74 bI cL aW aC bW bT cC cT=>(bif (decide (v74<v73)) then (bif ((decide (0<=v74/\v74<(v72.length:Int)))&&true) then (bif (Nat.beq 6 6&&((decide (0+aW.length=aW.length))&&decide ((aW.length+1+1)*(48+1)<=Vd))) then (.to (.h4 v1 v2 v72 v73 (wrap .i64 (v74+1)) bI cL (aW++[(R6.mk (rd v72 v74.toNat).a (rd v72 v74.toNat).b v1 (rd v72 v74.toNat).c (rd v72 v74.toNat).d v2)]) aC bW bT cC cT)) else .stuck) else .stuck) else (.to (.h2 (wrap .i64 (cL+1)) aW aC bW v2 bT cC)))
 | .h5 v2 v8 dS bI cL aW aC bW cE dF dP aZ=>(bif (decide (v8<(aW.length:Int))) then (bif ((decide (0<=v8/\v8<(aW.length:Int)))&&true) then (bif (decide ((0+v8.toNat)<aW.length)) then (.to (.h5 v2 (wrap .i64 (v8+1)) dS bI cL (aW.set (0+v8.toNat) (R6.mk (rd aW (0+v8.toNat)).a (rd aW (0+v8.toNat)).b (rd aW (0+v8.toNat)).c (rd aW (0+v8.toNat)).d (rd aW (0+v8.toNat)).e v2)) aC bW cE dF dP aZ)) else .stuck) else .stuck) else (.to (.h2 (wrap .i64 (cL+1)) aW aC bW v2 dF dP)))
def VY (l0:List R6):Xu HY:=(bif (decide ((l0.length:Int)>400)) then (.ret [(.int .i64 4)]) else (.to (.h0 0)))
theorem w7v (l0:List R6): ∀s,Wj prog (Zy prog 61) (MR l0) (MR l0 s) (Xd l0 s)
 | .h0 v8=>let b:=fl ([]:List Int) nn;(lb (fun k0=>(lo fun aG=>let a:=ww aG (tt k0 nn);(lb (fun k1=>(lb (fun k2=>(lr 25 61 [1,1,0,1,0,0] 1 9 [(2,(ii 8))] (sl Ua 53 [] (b8 [2]) b7 (CA 3 []) (tt k2 (tt k1 a))))) (fun k2=>(sl Ua 113 [(3,1,Zz ([]:List Int))] ⟨[6,1,7,2,3,4,5,8],[],u9r,u9t⟩ ⟨[],[.keep,.keep,.cells [.grow 7 1],.keep,.keep,.keep,.keep,.keep],[]⟩ (bl 4 11) (pp b (tt k2 (tt k1 a))))))) (fun k1=>(sl Ua 44 [] ⟨[],[],Iw,Iy⟩ b7 (bl 2 1) (tt k1 a)))))) (fun k0=>(sl Ua 82 [(3,1,Zz ([]:List Int))] ⟨[5,0,6,1,2,3,4,7],[],u9r,u9t⟩ ⟨[],[.keep,.keep,.cells [.grow 7 1],.keep,.keep,.keep,.keep,.keep],[]⟩ (bl 3 4) (pp b (tt k0 nn)))))
 | .h1 v16 aI=>(lb (fun k0=>(lo fun o0=>(lo fun o1=>let d:=xL (aI.length+2) (Z7 aI l0 v16).length;let g:=Z7 aI l0 v16;(sl Ua 34 [] ⟨[0,1,2,3,4,5,6,10],[],u9r,u9t⟩ ⟨[],[.keep,.keep,.cells [.len g.length],.keep,.keep,.keep,.keep,.rowed 1 g.length (Zz g)],[]⟩ [true] (pp d (pp d (pp (xS (aI.length+2) (Zo (Zz aI) 0 aI.length 1 [(ii (rd l0 (tn v16)).c),(ii (rd l0 (tn v16)).f)]) (Zz (Z7 aI l0 v16))) (pp (pp (xF (Zo (Zz aI) 0 aI.length 1 [(ii (rd l0 (tn v16)).c),(ii (rd l0 (tn v16)).f)])) nn) (ww o1 (ww o0 (tt k0 nn))))))))))) (fun k0=>(lo fun o0=>(lo fun o1=>let a:=xG (Nat.beq 1 1);let b:=xG (decide (aI.length<4611686018427387904));let e:=xG (decide (aI.length=aI.length));let h:=xG (Nat.beq 0 0);(sl Ua 46 [(79,6,Zz ([]:List R6))] ⟨[8,3,4,5,6,2,7,0,1,9],[],u9q,u9s⟩ ⟨[],(Ht 4 [.cells [.grow 9 6,.list 0 (Zz ([]:List R4)),.keep,.keep],.keep,.rowed 1 (Pa aI).length (Zz (Pa aI)),.keep,.keep,.keep]),[]⟩ (bl 2 0) (pp (xL aI.length (Pa aI).length (by first | exact x7h _ _ | exact Yc rfl)) (pp (xS aI.length (Zz (Pa aI)) (Zz (Pa aI))) (pp (fl (Pa aI) (fl ([]:List R6) nn)) (pp (pp a (pp a (pp h (pp e (pp (xG (KV (Zz (Qi (Ws aI.length (DC (Zz aI))))))) b))))) (pp (pp a (pp a (pp h (pp e (pp (xG (KV (Zz aI))) b))))) (tt k0 nn)))))))))))
 | .h2 v4 bU cV dC dD bT cC=>(lb (fun k0=>(lo fun o0=>(lo fun o1=>(lo fun o2=>(lo fun o3=>(sl Ua 48 [(168,4,Zz ([]:List R4))] ⟨[0,1,2,3,4,5,6,7,8,10,11,12,9],[],XA,W9⟩ ⟨[],(Ht 10 [.cells [.grow 11 4],.keep,.keep]),[]⟩ (CA 3 []) (pp (fl cC (fl ([]:List R4) (fl bU nn))) (ww o3 (ww o2 (ww o1 (ww o0 (tt k0 nn)))))))))))) (fun k0=>(lb (fun k1=>(lr 25 61 [1,1,1,0,1,1,0,0] 1 9 [(2,(ii 8))] (sl Ua 50 [] (b8 [2]) b7 (bl 7 126) (tt k1 (tt k0 nn))))) (fun k1=>(lo fun bH=>(lo fun dT=>let a:=pp (xw bH) (pp nn nn);let b:=pp (xr l0) (xw dT);let c:=tt k1 (tt k0 nn);(lb (fun k2=>(lr 25 61 [1,1,1,0,1,1,0,0] 1 9 [(2,(ii 8))] (sl Ua 53 [] (b8 [2]) b7 (bl 7 64) (tt k2 (pp (pp a (pp (xI R6 (bU.length) (fun k=>(Zz bU) (0+k))) b)) c))))) (fun k2=>(lr 25 3 [1,1,1,1,1,1,0] 1 9 [(2,(ii 0))] (sl Ua 54 [] (b8 [2]) b7 (bl 7 0) (tt k2 (pp (pp a (pp (xI R6 (bU.length) (fun k=>(Zz bU) (0+k))) b)) c))))))))))))
 | .h3 v4 v38 bU cV dC dD bT cC cT dH aZ=>(lb (fun k0=>(lo fun aG=>let h:=ww aG (tt k0 nn);let n:=fl cC (fl aZ (fl bU nn));let q:=List.range 13;(lb (fun k1=>(lb (fun k2=>(lo fun o0=>let g:=xL (aZ.length+1) (Z5 aZ l0 v38).length;let m:=Z5 aZ l0 v38;(sl Ua 41 [] ⟨[0,1,2,3,4,5,6,7,8,9,10,15,12],[],XA,W9⟩ ⟨[],(Ht 10 [.cells [.len m.length],.rowed 4 m.length (Zz m),.keep]),[]⟩ (CA 8 []) (pp g (pp g (pp (xS (aZ.length+1) (Zo (Zz aZ) 0 aZ.length 4 [(ii (rd l0 (tn v38)).a),(ii (rd l0 (tn v38)).b),(ii (rd l0 (tn v38)).d),(ii (rd l0 (tn v38)).e)]) (Zz (Z5 aZ l0 v38))) (pp (fl cC (pp (xF (Zo (Zz aZ) 0 aZ.length 4 [(ii (rd l0 (tn v38)).a),(ii (rd l0 (tn v38)).b),(ii (rd l0 (tn v38)).d),(ii (rd l0 (tn v38)).e)])) (fl bU nn))) (ww o0 (tt k2 (tt k1 h)))))))))) (fun k2=>(sl Ua 41 [] ⟨q,[],XA,W9⟩ b7 (CA 7 [false]) (pp n (tt k2 (tt k1 h))))))) (fun k1=>(sl Ua 41 [] ⟨q,[],XA,W9⟩ b7 (bl 8 1) (pp n (tt k1 h))))))) (fun k0=>let f:=xZ (DU 4 4 0 aZ.length aZ.length (Zz aZ)) aZ.length (Zz aZ);let l:=xS aZ.length (Zz aZ) (Zz aZ);let o:=xL aZ.length aZ.length;let p:=fl bU (fl cC nn);(Wk (sl Ua (C':=⟨⟨65,0,true⟩,(CU prog 102 [1,1,0,1,0,1,0,0] 4),(Zf prog 102 [1,1,0,1,0,1,0,0] 1),(some 0),[],⟨Ye [(2,(.ptr 1 0)),(4,(.ptr 2 0)),(5,(.ptr 3 0)),(6,(.ptr 4 0)),(7,(.ptr 6 0)),(20,(.dat aZ.length (Zz aZ)))],Eb [(1,⟨[.nilf],174,none⟩),(2,⟨[.nils],46,none⟩),(3,⟨[(ii 0)],24,none⟩),(4,⟨[(.sla 5 6 0 bU.length (.un 6)),(.dat cV.length (Zz cV)),(ii dC),(ii dD)],198,none⟩),(5,⟨rows bU.length (Zz bU),79,some ⟨6,bU.length,(Zz bU)⟩⟩),(6,⟨[(ii cT),(ii dH),(.sl 7 0 1 (.ex 1))],203,none⟩),(7,⟨[(.dat aZ.length (Zz aZ))],195,none⟩),(8,⟨[(.sla 9 1 0 bT (.un 1))],83,none⟩),(9,⟨rows cC.length (Zz cC),3,some ⟨1,cC.length,(Zz cC)⟩⟩),(10,⟨[(.sl 11 0 1 (.un 1))],194,none⟩),(11,⟨[(.dat l0.length (Zz l0))],45,none⟩)],12,[],true⟩,[⟨⟨86,0,true⟩,(CU prog 163 [1,0,0,1,0,0,1,1,0] 2),(Zf prog 163 [1,0,0,1,0,0,1,1,0] 1),none,[],Ye [(0,(.yld 0)),(1,(.ptr 8 0)),(2,(.ptr 10 0)),(4,(ii v4)),(82,(.yld 0)),(83,(.agg [(ii cT),(ii dH),(.sl 7 0 1 (.ex 1))]))]⟩,⟨⟨65,0,true⟩,none,(.inRangeFunc 0::(Zf prog 102 [1,1,0,1,0] 1)),none,(Zy prog 102),Ye [(4,(.ptr 2 0)),(5,(.ptr 3 0)),(6,(.ptr 4 0))]⟩,⟨⟨25,0,true⟩,(CU prog 61 [1,1,1,0,0] 3),(Zf prog 61 [1,1,1,0,0] 1),none,(Zy prog 9),Ye [(0,(.dat l0.length (Zz l0))),(11,(.agg [.nilf])),(13,(.sl 11 0 1 (.un 1)))]⟩],(F7 [(0,⟨.busy,none,65,Ye [(2,(.ptr 1 0)),(4,(.ptr 2 0)),(5,(.ptr 3 0)),(6,(.ptr 4 0))],[15],(DE prog 102 [1,1,0,1,0,0]),(DE prog 102 [1,1,0,1,0,1])⟩)])⟩) 37 [] ⟨[0,1,2,3,4,12,13,10,5,6,7,8],[11],[some [2,4,5,6,7,20],some [0,1,2,4,82,83],some [4,5,6],some [0,11,13]],[some [2,4,5,6],none,none,none,none,none,none,none,none,none,none,none]⟩ ⟨[(20,.frz aZ.length aZ.length (Zz aZ) (Zz aZ))],[.keep,.keep,.keep,.keep,.keep,.keep,.keep,.cells [.frz aZ.length aZ.length (Zz aZ) (Zz aZ)],.keep,.keep,.keep,.keep],[]⟩ (bl 2 0) (pp f (pp o (pp l (pp f (pp o (pp l (pp p (pp (fl aZ nn) (tt k0 nn)))))))))) (lo fun aG=>let c:=pp (pp (xr aZ) (xw aG)) nn;(lb (fun k1=>(lr 25 61 [1,1,1,0,1,1,0,0] 1 9 [(2,(ii 8))] (sl Ua 67 [] (b8 [2]) b7 (bl 8 254) (tt k1 (tt k1 c))))) (fun k1=>let i:=fl cC (fl bU nn);(lb (fun k2=>let j:=tt k2 (tt k1 c);(lb (fun k3=>(lo fun dA=>(lb (fun k4=>(sl Ua 75 [] ⟨[4,5,0,1,2,3,8,9,10,11,7],[],Iv,Ix⟩ b7 (bl 15 32764) (pp p (tt k4 (pp (pp (xr cV) (pp (xI R4 (Wh (B2 aZ)).length (Zz (Wh (B2 aZ)))) (xw dA))) (tt k3 j)))))) (fun k4=>(sl Ua 95 [] ⟨[4,0,1,2,3,8,9,10,11,7,5],[],XB,Wl⟩ b7 (bl 15 16380) (pp i (tt k4 (pp (pp (xr cV) (pp (xI R4 (Wh (B2 aZ)).length (Zz (Wh (B2 aZ)))) (xw dA))) (tt k3 j))))))))) (fun k3=>(sl Ua 95 [] ⟨[4,0,1,2,3,8,9,10,11,7,5],[],XB,Wl⟩ b7 (bl 15 252) (pp i (tt k3 j)))))) (fun k2=>(sl Ua 95 [] ⟨[4,0,1,2,3,8,9,10,11,7,5],[],XB,Wl⟩ b7 (bl 15 0) (pp i (tt k2 (tt k1 c))))))))))))
 | .h4 v1 v2 v72 v73 v74 bI cL aW aC bW bT cC cT=>(lb (fun k0=>(lo fun o0=>(lo fun o1=>let e:=xL (aW.length+1) (Z6 aW v72 v74 v1 v2).length;let f:=Z6 aW v72 v74 v1 v2;(sl Ua 23 [] ⟨[0,1,2,3,4,5,6,7,8,9,13],[],XB,Wl⟩ ⟨[],[.cells [.len f.length,.keep,.keep,.keep],.keep,.keep,.keep,.keep,.keep,.keep,.keep,.keep,.keep,.rowed 6 f.length (Zz f)],[]⟩ [true] (pp e (pp e (pp (xS (aW.length+1) (Zo (Zz aW) 0 aW.length 6 [(ii (rd v72 (tn v74)).a),(ii (rd v72 (tn v74)).b),(ii v1),(ii (rd v72 (tn v74)).c),(ii (rd v72 (tn v74)).d),(ii v2)]) (Zz (Z6 aW v72 v74 v1 v2))) (pp (fl cC (pp (xF (Zo (Zz aW) 0 aW.length 6 [(ii (rd v72 (tn v74)).a),(ii (rd v72 (tn v74)).b),(ii v1),(ii (rd v72 (tn v74)).c),(ii (rd v72 (tn v74)).d),(ii v2)])) nn)) (ww o1 (ww o0 (tt k0 nn))))))))))) (fun k0=>(sl Ua 22 [] ⟨[1,2,3,4,0,5,6,7,8,10],[],u9q,u9s⟩ b7 (bl 2 0) (pp (fl cC (fl aW nn)) (tt k0 nn)))))
 | .h5 v2 v8 dS bI cL aW aC bW cE dF dP aZ=>(lb (fun k0=>(lo fun o0=>(lo fun o1=>let a:=xL aW.length (Z4 aW v8 v2).length;let b:=Z4 aW v8 v2;(sl Ua 34 [] ⟨(List.range 11),[],Iv,Ix⟩ ⟨[],[.cells [.len b.length,.keep,.keep,.keep],.rowed 6 b.length (Zz b),.keep,.keep,.keep,.keep,.keep,.keep,.keep,.keep,.keep],[]⟩ [true] (pp a (pp a (pp (xS aW.length (Xw (Zz aW) (0+(tn v8)) 5 [(ii v2)]) (Zz (Z4 aW v8 v2))) (pp (pp (xF (Xw (Zz aW) (0+(tn v8)) 5 [(ii v2)])) (fl dP nn)) (ww o1 (ww o0 (tt k0 nn))))))))))) (fun k0=>(sl Ua 36 [] ⟨[2,3,4,5,0,6,7,8,9,1],[],u9q,u9s⟩ b7 (bl 2 0) (pp (fl dP (fl aW nn)) (tt k0 nn)))))
theorem x9m (l0:List R6):Wj prog (Zy prog 61) (MR l0) (Zg prog 61 [(.dat l0.length (Zz l0))] true []) (VY l0):=(lb (fun k0=>(lr 25 61 [1,0,1,0,0] 1 9 [(2,(ii 4))] (sl Ua 16 [] (b8 [2]) b7 [true] (tt k0 nn)))) (fun k0=>(sl Ua 40 [] ⟨[],[],Iw,Iy⟩ b7 [false] (tt k0 nn))))
theorem v9r (l0:List R6) (n:Nat) (vs:List B1) (h:Yw (Xd l0) n (VY l0)=.ret vs):Js prog (Zy prog 61) (Zg prog 61 [(.dat l0.length (Zz l0))] true []) vs:=by have:=Ze (w7v l0) n _ (x9m l0);rwa [h] at this
theorem w0l (l:List R4):(Wh l).length <=400:=by
 grind [Wh]
def D6 :DO R6 R4:=⟨R6.c,R6.f,fun r=>⟨r.a,r.b,r.d,r.e⟩,fun x x' s=>⟨s.a,s.b,x,s.c,s.d,x'⟩,fun x r=>⟨r.a,r.b,r.c,r.d,r.e,x⟩,Wh,EX⟩
theorem PF (l:List R6) (x:Int):(D6.sec l x).length <=1000:=AK (w0l _) (by omega)
def Cn :List B1:=[.int .i64 8]
def Rv (l out:List R6):List B1:=bif decide ((out.length:Int)>400) then [.int .i64 8] else bif Qt out l then [.int .i64 0] else [.int .i64 8]
def FR (l:List R6) (x:Int):Bool:=Gj (D6.inn l x) != 0
def FG (l:List R6):Nat->Nat->Bool
 | 0,_=>true
 | k+1,i=>bif FR l (rd (D6.cuts l) i) then false else FG l k (i+1)
section
variable (l:List R6) (hl:l.length<=400)
include hl
theorem u5q (i:Nat) (out:List R6) (last:List R4) (first fin x x':Int): ∀(k j:Nat) (acc:List R4),j+k=l.length->acc.length<=j->
  ∃n,∀N,Yw (Xd l) (N+n) (.to (.h3 (i:Int) (j:Int) out last first fin ((D6.cuts l).length) (C8 (Qi (D6.ends l))) x x' acc))=Yw (Xd l) N (.to (.h3 (i:Int) (l.length:Int) out last first fin ((D6.cuts l).length) (C8 (Qi (D6.ends l))) x x' (acc++D6.inn (l.drop j) x)))
 | 0,j,acc,h,ha=>by refine ⟨0,fun N=> ?_⟩;rw [Aw (by omega),show D6.inn ([]:List R6) x=[] from rfl,AL,Bn,show j=l.length by omega]
 | k+1,j,acc,h,ha=>by
  have hj:j<l.length:=by omega
  obtain ⟨n,hn⟩:=u5q i out last first fin x x' k (j+1) (acc++D6.inn [rd l j] x) (by omega) (by have:=D6.inn_length [rd l j] x;grind)
  refine ⟨n+1,fun N=> ?_⟩;have e:D6.inn (l.drop j) x=D6.inn [rd l j] x++D6.inn (l.drop (j+1)) x:=by rw [Xj hj,<-D6.inn_append];rfl
  rw [e,<-AM,Zw,<-AH,<-hn N];by_cases h1:D6.lo (rd l j)<=x
  .by_cases h2:x<D6.hi (rd l j)
   .rw [D6.inn_t _ _ h1 h2];simp only [D6] at h1 h2 ⊢;simp (disch:=omega) only [Xd,Wb,Yg,Zt,Yb,Ym,Xn,Xe,Xo,Yf,Zm,Zk,Xs,Zj,Al,AA,Ap,Aq,Af,Ab]
   .rw [D6.inn_f2 _ _ h2,AL];simp only [D6] at h1 h2;simp (disch:=omega) only [Xd,Wb,Xz,Yg,Zt,Yb,Ym,Xn,Xe,Xo,Yf,Zm,Zk,Xs,Zj,Al,AA,Ap,Aq,Af,Ab]
  .rw [D6.inn_f1 _ _ h1,AL];simp only [D6] at h1;simp (disch:=omega) only [Xd,Fj,Yg,Zt,Yb,Ym,Xn,Xe,Xo,Yf,Zm,Zk,Xs,Zj,Al,AA,Ap,Aq,Af,Ab]
theorem u5p (i:Nat) (hi:i<=1000) (x x':Int) (s last:List R4) (first:Int) (inn:List R4) (hs:s.length<=1000): ∀(k j:Nat) (out:List R6),j+k=s.length->out.length<=10000000+j->
  ∃n,∀N,Yw (Xd l) (N+n) (.to (.h4 x x' s (s.length:Int) (j:Int) s (i:Int) out last first ((D6.cuts l).length) (C8 (Qi (D6.ends l))) inn))=Yw (Xd l) N (.to (.h2 ((i+1:Nat):Int) (out++(s.drop j).map (D6.put x x')) last first x' ((D6.cuts l).length) (C8 (Qi (D6.ends l)))))
 | 0,j,out,h,ho=>by
  have _u:=hl;refine ⟨1,fun N=> ?_⟩
  grind [Zw,Xd,Zm]
 | k+1,j,out,h,ho=>by
  obtain ⟨n,hn⟩:=u5p i hi x x' s last first inn hs k (j+1) (out++[D6.put x x' (rd s j)]) (by omega) (by simp;omega)
  refine ⟨n+1,fun N=> ?_⟩;have:=hn N;rw [Xj (show j<s.length by omega),A2,<-AM,Zw];simp (disch:=omega) only [Xd,Yg,Zt,Yb,Ym,Xn,Xe,Xo,Yf,Zm,Zk,Xs,Zj,Al,AA,Ap,Aq,Af,Ab];rw [AH] at this;exact this
theorem u5o (i:Nat) (hi:i<=1000) (x x' fin:Int) (s last:List R4) (first:Int) (inn:List R4): ∀(k j:Nat) (out:List R6),j+k=out.length->out.length<=10000000->
  ∃n,∀N,Yw (Xd l) (N+n) (.to (.h5 x' (j:Int) x s (i:Int) out last first fin ((D6.cuts l).length) (C8 (Qi (D6.ends l))) inn))=Yw (Xd l) N (.to (.h2 ((i+1:Nat):Int) (D6.grow out j x') last first x' ((D6.cuts l).length) (C8 (Qi (D6.ends l)))))
 | 0,j,out,h,ho=>by
  have _u:=hl;refine ⟨1,fun N=> ?_⟩;rw [D6.grow_nil _ _ _ (by omega),Zw]
  grind [Xd,Zm]
 | k+1,j,out,h,ho=>by
  obtain ⟨n,hn⟩:=u5o i hi x x' fin s last first inn k (j+1) (out.set j (D6.ext x' (rd out j))) (by simp;omega) (by grind)
  refine ⟨n+1,fun N=> ?_⟩;have:=hn N;rw [D6.grow_set out j _ (by omega)] at this;rw [<-AM,Zw];simp (disch:=omega) only [Xd,Yg,Zt,Yb,Ym,Xn,Xe,Xo,Yf,Zm,Zk,Xs,Zj,Al,AA,Ap,Aq,Af,Ab];exact this
theorem v2x : ∀(k i:Nat) (s:Sw R6 R4),k=(D6.cuts l).length - 1 - i->i<=(D6.cuts l).length ->s.out.length<=i*1000->s.last.length<=1000->s.first<=s.out.length->
  ∃n,Yw (Xd l) n (.to (.h2 ((i+1:Nat):Int) s.out s.last (s.first:Int) s.fin ((D6.cuts l).length) (C8 (Qi (D6.ends l)))))=.ret ((bif FG l k i then Rv l (D6.go l k i s).out else Cn))
 | 0,i,s,h,hi,ho,hla,hf=>by
  have hc:=D6.cuts_length l;refine ⟨1,?_⟩;rw [Zw,show D6.go l 0 i s=s from rfl,show FG l 0 i=true from rfl,Af];unfold Rv;by_cases q:(s.out.length:Int)>400
  .grind [Xd,Zh]
  .have e:Cd R6 s.out.length (fun k=>(Zz s.out) k)=s.out:=Zt s.out;have w:Ue s.out l=true:=Aa (by omega);have f:Cz (Zz s.out)=true:=Xr _;rcases Vo (Qt s.out l) with q2 | q2 <;>
   simp (disch:=omega) only [Xd,Yg,e,w,f,q2,Xz,Wz,Xn,Xs,Al,Ax,AD,Ap,Af,Ab,Zh]
 | k +1,i,s,h,hi,ho,hla,hf=>by
  have hc:=D6.cuts_length l;have hi1:i+1<(D6.cuts l).length :=by omega
  have hpl:(C8 (Qi (D6.ends l))).length =2*l.length:=by rw [X9,UZ,D6.ends_length]
  have r0:rd (C8 (Qi (D6.ends l))) i=rd (D6.cuts l) i:=W8 _ _ (by show i<(D6.cuts l).length;omega);have r1:rd (C8 (Qi (D6.ends l))) (i+1)=rd (D6.cuts l) (i+1):=W8 _ _ (by show i+1<(D6.cuts l).length;omega);have hbig:i*1000<=1000*1000:=AE _ (by omega);have hsl:=PF l (rd (D6.cuts l) i);have hsd:D6.sec l (rd (D6.cuts l) i)=Wh (D6.inn l (rd (D6.cuts l) i)):=rfl;obtain ⟨n3,h3⟩:=u5q l hl (i+1) s.out s.last (s.first:Int) s.fin (rd (D6.cuts l) i) (rd (D6.cuts l) (i+1)) l.length 0 [] (Al _) (Ak _);simp only [AQ,A6,HI] at h3;have w1:UH (D6.inn l (rd (D6.cuts l) i))=true:=rfl;have w2:Jt s.last (Wh (D6.inn l (rd (D6.cuts l) i)))=true:=Aa (by omega);have ol:=D6.one_length l (rd (D6.cuts l) i) (rd (D6.cuts l) (i+1)) s;have st0: ∀N,Yw (Xd l) (N+n3+1) (.to (.h2 ((i+1:Nat):Int) s.out s.last (s.first:Int) s.fin ((D6.cuts l).length) (C8 (Qi (D6.ends l)))))=Yw (Xd l) N (.to (.h3 ((i+1:Nat):Int) (l.length:Int) s.out s.last (s.first:Int) s.fin ((D6.cuts l).length) (C8 (Qi (D6.ends l))) (rd (D6.cuts l) i) (rd (D6.cuts l) (i+1)) (D6.inn l (rd (D6.cuts l) i)))):=fun N=>by
   rw [<-h3 N,Zw];have e1:wrap .i64 (((i+1:Nat):Int) - 1)=(i:Int):=by rw [Yy];exact Zm (by omega)
   simp (disch:=omega) only [Xd,e1,r0,r1,Yg,Zt,Yb,Ym,Xn,Xe,Xo,Yf,Zm,Zk,Xs,Zj,Al,AA,Ap,Aq,Af,Ab]
  rcases Vo (FR l (rd (D6.cuts l) i)) with q0 | q0
  .refine ⟨1+n3+1,?_⟩;rw [st0 1,Zw];simp only [FG,q0,Af,Ab];have q0':(Gj (D6.inn l (rd (D6.cuts l) i)) != 0)=true:=q0;simp (disch:=omega) only [Xd,Yg,Zt,Xz,q0',w1,Af,Ab,Zh];rfl
  have q0':(Gj (D6.inn l (rd (D6.cuts l) i)) != 0)=false:=q0;rcases Vo (decide (0<(D6.sec l (rd (D6.cuts l) i)).length)&&((s.fin == rd (D6.cuts l) i)&&D6.same s.last (D6.sec l (rd (D6.cuts l) i)))) with q | q
  .obtain ⟨n5,h5⟩:=u5o l hl (i+1) (by omega) (rd (D6.cuts l) i) (rd (D6.cuts l) (i+1)) s.fin (D6.sec l (rd (D6.cuts l) i)) s.last (s.first:Int) (D6.inn l (rd (D6.cuts l) i)) (s.out.length - s.first) s.first s.out (by omega) (by omega)
   have e:D6.one l (rd (D6.cuts l) i) (rd (D6.cuts l) (i+1)) s=⟨D6.grow s.out s.first (rd (D6.cuts l) (i+1)),s.last,s.first,rd (D6.cuts l) (i+1)⟩:=by unfold DO.one;rw [q];rfl
   obtain ⟨n0,h0⟩:=v2x k (i+1) (D6.one l (rd (D6.cuts l) i) (rd (D6.cuts l) (i+1)) s) (by omega) (by omega) (by omega) (by grind) (by grind [DO.grow_length]);refine ⟨n0+n5+1+n3+1,?_⟩;rw [st0 (n0+n5+1),Zw];simp only [Ad,An] at q;obtain ⟨q1,q2,q3⟩:=q;have q3':EX s.last (Wh (D6.inn l (rd (D6.cuts l) i)))=true:=q3
   grind [Xd,Yg,FG,DO.go]
  .obtain ⟨n4,h4⟩:=u5p l hl (i+1) (by omega) (rd (D6.cuts l) i) (rd (D6.cuts l) (i+1)) (D6.sec l (rd (D6.cuts l) i)) (D6.sec l (rd (D6.cuts l) i)) (s.out.length:Int) (D6.inn l (rd (D6.cuts l) i)) hsl (D6.sec l (rd (D6.cuts l) i)).length 0 s.out (Al _) (by omega);simp only [AQ,HI] at h4;have e:D6.one l (rd (D6.cuts l) i) (rd (D6.cuts l) (i+1)) s=⟨s.out++(D6.sec l (rd (D6.cuts l) i)).map (D6.put (rd (D6.cuts l) i) (rd (D6.cuts l) (i+1))),D6.sec l (rd (D6.cuts l) i),s.out.length,rd (D6.cuts l) (i+1)⟩:=by unfold DO.one;rw [q];rfl
   obtain ⟨n0,h0⟩:=v2x k (i+1) (D6.one l (rd (D6.cuts l) i) (rd (D6.cuts l) (i+1)) s) (by omega) (by omega) (by omega) (by grind) (by rw [e];simp);have hg:Yw (Xd l) 1 (.to (.h3 ((i+1:Nat):Int) (l.length:Int) s.out s.last (s.first:Int) s.fin ((D6.cuts l).length) (C8 (Qi (D6.ends l))) (rd (D6.cuts l) i) (rd (D6.cuts l) (i+1)) (D6.inn l (rd (D6.cuts l) i))))=.to (.h4 (rd (D6.cuts l) i) (rd (D6.cuts l) (i+1)) (D6.sec l (rd (D6.cuts l) i)) ((D6.sec l (rd (D6.cuts l) i)).length :Int) 0 (D6.sec l (rd (D6.cuts l) i)) ((i+1:Nat):Int) s.out (D6.sec l (rd (D6.cuts l) i)) (s.out.length:Int) ((D6.cuts l).length) (C8 (Qi (D6.ends l))) (D6.inn l (rd (D6.cuts l) i))):=by
    rw [show (1:Nat)=0+1 from rfl,Zw];rw [hsd] at q ⊢;have e3:D6.same s.last (Wh (D6.inn l (rd (D6.cuts l) i)))=EX s.last (Wh (D6.inn l (rd (D6.cuts l) i))):=rfl;rw [e3] at q;by_cases q1:0<(Wh (D6.inn l (rd (D6.cuts l) i))).length
    .rw [Aa q1,Aq] at q;rcases Vo (s.fin == rd (D6.cuts l) i) with q2 | q2
     .rw [q2,Aq] at q;simp (disch:=omega) only [Xd,Yg,Zt,Xz,Xv,q0',q2,q,w1,w2,Af,Ab];rfl
     .simp (disch:=omega) only [Xd,Yg,Zt,Xz,Xv,q0',q2,w1,w2,Af,Ab];rfl
    .simp (disch:=omega) only [Xd,Yg,Zt,Xz,Wz,q0',w1,w2,Af,Ab];rfl
   refine ⟨n0+n4+1+n3+1,?_⟩;simp_all [x7t,FG,DO.go]
theorem u5r : ∀(k i:Nat) (acc:List Int),i+k=l.length->acc=D6.ends (l.take i)-> ∃n,Yw (Xd l) n (.to (.h1 (i:Int) acc))=.ret ((bif FG l ((D6.cuts l).length - 1) 0 then Rv l (D6.go l ((D6.cuts l).length - 1) 0 ⟨[],[],0,0⟩).out else Cn))
 | 0,i,acc,h,ha=>by
  have e:acc=D6.ends l:=by grind
  subst e;have hle:=D6.ends_length l;obtain ⟨n,hn⟩:=v2x l hl ((D6.cuts l).length - 1) 0 ⟨[],[],0,0⟩ (by omega) (AG _) (AG _) (AG _) (AG _);refine ⟨n+1,?_⟩;rw [Zw];simp (disch:=omega) only [Xd,X8,x1l,v7w,Xz,Xe,Xo,AA,Af,Ab];exact hn
 | k+1,i,acc,h,ha=>by
  have hle:=D6.ends_length (l.take i);have hacc:acc.length<=2*i:=by grind
  obtain ⟨n,hn⟩:=u5r k (i+1) (acc++D6.ends [rd l i]) (by omega) (by
   rw [ha,Bw];have:l[i]? =some (rd l i):=by grind [Wf]
   rw [this,D6.ends_append];rfl)
  refine ⟨n+1,?_⟩;rw [Zw];simp (disch:=omega) only [Xd,Yg,Zt,Yb,Ym,Xn,Xe,Xo,Yf,Zm,Zk,Xs,Zj,Al,AA,Ap,Aq,Af,Ab];exact hn
theorem u5s : ∀(k i:Nat),i+k=l.length->(∀s∈l.take i,DT s=true)-> ∃n,Yw (Xd l) n (.to (.h0 (i:Int)))=.ret (bif l.all DT then (bif FG l ((D6.cuts l).length - 1) 0 then Rv l (D6.go l ((D6.cuts l).length - 1) 0 ⟨[],[],0,0⟩).out else Cn) else Cn)
 | 0,i,h,ht=>by
  have hv:l.all DT=true:=Ay.2 fun s hs=>ht s (by grind);obtain ⟨n,hn⟩:=u5r l hl l.length 0 [] (Al _) rfl;refine ⟨n+1,?_⟩
  grind [Zw,Xd]
 | k+1,i,h,ht=>by
  have hi:i<l.length:=by omega
  have hs:Xd l (.h0 (i:Int))=bif DT (rd l i) then .to (.h0 ((i+1:Nat):Int)) else .ret Cn:=by have e:Fp (rd l i).a (rd l i).b (rd l i).c (rd l i).d (rd l i).e (rd l i).f =DT (rd l i):=rfl;simp (disch:=omega) only [Xd,e,w3r,v7k,u8k,Ym,Zm,Zk,Zj,Ap,Af,Ab];rfl
  rcases Vo (DT (rd l i)) with q | q
  .obtain ⟨n,hn⟩:=u5s k (i+1) (by omega) (fun s hs=>by
    rw [Bw] at hs
    grind [Wf])
   refine ⟨n+1,?_⟩
   grind [Zw]
  .have hv:l.all DT=false:=A5.2 fun e=>by
    grind [Wf]
   refine ⟨1,?_⟩
   grind [Zw,Zh]
end
def Vv (l:List R6):Int:=bif decide (400<l.length) then 4 else bif l.all DT then (bif FG l ((D6.cuts l).length - 1) 0 then (bif decide (((D6.out l).length :Int)>400) then 8 else bif Qt (D6.out l) l then 0 else 8) else 8) else 8
def v3a (l:List R6):Bool:=true
theorem u9p (l:List R6): ∃n,Yw (Xd l) n (VY l)=.ret [.int .i64 (Vv l)]:=by
 unfold VY Vv;by_cases h:400<l.length
 .refine ⟨0,?_⟩;rw [Aa h,Xv (show (l.length:Int)>400 by omega)];rfl
 .obtain ⟨n,hn⟩:=u5s l (by omega) l.length 0 (Al _) (fun s hs=>by simp at hs);refine ⟨n,?_⟩;rw [Ah h,Wz (show ¬(l.length:Int)>400 by omega),Ab,Ab];rw [HI] at hn;rw [hn];unfold Cn Rv;cases l.all DT <;> simp only [Af,Ab];cases FG l ((D6.cuts l).length - 1) 0 <;> simp only [Af,Ab];show Xu.ret (bif decide (((D6.out l).length :Int)>400) then _ else bif Qt (D6.out l) l then _ else _)=_
  grind
def OI :List B1->Option (B1×Bool)
 | [a1]=>match C7 R6 a1 with
  | some (L1,g1,n1)=>some (.int .i64 (Vv L1),CQ R6 n1 g1&&v3a L1)
  | _=>none
 | _=>none
theorem j3w {S:B3} (hS:Zv prog S):Zv prog (S.with x7c OI):=by
 refine CP hS (by kernel_rfl) fun args v h=> ?_;unfold OI at h;split at h
 .rename_i a1;split at h
  .rename_i L1 g1 n1 e1;simp only [Ae,Ac,Ad] at h;obtain ⟨rfl,ho1,hw⟩:=h;obtain ⟨N,hN⟩:=u9p L1;exact ⟨_,_,(.cons (Xf e1 ho1) .nil),rfl,v9r L1 N _ hN,3,rfl⟩
  .cases h
 .cases h
def T8 :B3:=T7v.with x7c OI
theorem DM :Zv prog T8:=j3w Ua
def x9o (l:List R6):Bool:=true
def w0s (l:List R6):Bool:=true
inductive Ef where
 | h0 (v3:Int)
def j1i (l0:List R6):Ef->CE
 | .h0 v3=>⟨⟨34,0,true⟩,none,(Zf prog 76 [1,1,0,1,0,0] 0),none,(Zy prog 9),⟨Ye [(0,(.dat l0.length (Zz l0))),(3,(ii v3))],Xt [] 0,0,[],true⟩,[],.leaf⟩
def u6z :List (Option (List Nat)):=[some [0,3]]
def u7a :List (Option (List Nat)):=[]
def I4 (l0:List R6):Ef->Xu Ef
 | .h0 v3=>(bif (decide (v3<(l0.length:Int))) then (bif ((decide (0<=v3/\v3<(l0.length:Int)))&&true) then (bif (decide ((rd l0 v3.toNat).a >=(-1000000))) then (bif (decide ((rd l0 v3.toNat).b >=(-1000000))) then (bif (decide ((rd l0 v3.toNat).c >=(-1000000))) then (bif (decide ((rd l0 v3.toNat).a <=1000000)) then (bif (decide ((rd l0 v3.toNat).b <=1000000)) then (bif (decide ((rd l0 v3.toNat).c <=1000000)) then (bif (decide ((rd l0 v3.toNat).d >=(-1000000))) then (bif (decide ((rd l0 v3.toNat).e >=(-1000000))) then (bif (decide ((rd l0 v3.toNat).f >=(-1000000))) then (bif (decide ((rd l0 v3.toNat).d <=1000000)) then (bif (decide ((rd l0 v3.toNat).e <=1000000)) then (bif (decide ((rd l0 v3.toNat).f <=1000000)) then (bif (decide ((rd l0 v3.toNat).a <(rd l0 v3.toNat).d)) then (bif (decide ((rd l0 v3.toNat).b <(rd l0 v3.toNat).e)) then (bif (!(decide ((rd l0 v3.toNat).c <(rd l0 v3.toNat).f))) then (.ret [(.int .i64 8)]) else (.to (.h0 (wrap .i64 (v3+1))))) else (.ret [(.int .i64 8)])) else (.ret [(.int .i64 8)])) else (.ret [(.int .i64 8)])) else (.ret [(.int .i64 8)])) else (.ret [(.int .i64 8)])) else (.ret [(.int .i64 8)])) else (.ret [(.int .i64 8)])) else (.ret [(.int .i64 8)])) else (.ret [(.int .i64 8)])) else (.ret [(.int .i64 8)])) else (.ret [(.int .i64 8)])) else (.ret [(.int .i64 8)])) else (.ret [(.int .i64 8)])) else (.ret [(.int .i64 8)])) else .stuck) else (bif (R8 2 (B2 l0) ([]:List R6)) then (bif (!(If 2 (B2 l0) ([]:List R6))) then (.ret [(.int .i64 8)]) else (bif (Ue (B2 (EJ 2 (B2 l0) ([]:List R6))) (B2 l0)) then (bif (!(Qt (B2 (EJ 2 (B2 l0) ([]:List R6))) (B2 l0))) then (.ret [(.int .i64 8)]) else (.ret [(.int .i64 0)])) else .stuck)) else .stuck))
def UD (l0:List R6):Xu Ef:=(bif (decide ((l0.length:Int)>400)) then (.ret [(.int .i64 4)]) else (.to (.h0 0)))
theorem w0t (l0:List R6): ∀s,Wj prog (Zy prog 76) (j1i l0) (j1i l0 s) (I4 l0 s)
 | .h0 v3=>(lb (fun k0=>(lo fun aG=>let f:=ww aG (tt k0 nn);(lb (fun k1=>(lb (fun k2=>let c:=tt k2 (tt k1 f);(lb (fun k3=>let i:=bl 31 1073741824;(lb (fun k4=>let g:=tt k4 (tt k3 c);let l:=bl 28 134217728;(lb (fun k5=>let m:=bl 25 16777216;(lb (fun k6=>let a:=tt k6 (tt k5 g);(lb (fun k7=>(lb (fun k8=>let j:=tt k8 (tt k7 a);(lb (fun k9=>let d:=tt k9 j;(lb (fun k10=>(lb (fun k11=>let b:=tt k11 (tt k10 d);(lb (fun k12=>(lb (fun k13=>let e:=tt k13 (tt k12 b);(lb (fun k14=>(lb (fun k15=>(lr 34 76 [1,1,0,1,0,0,1,0,0,1,0,0] 1 9 [(2,(ii 8))] (sl DM 158 [] (b8 [2]) b7 (CA 60 []) (tt k15 (tt k14 e))))) (fun k15=>(sl DM 162 [] ⟨[],[],u6z,u7a⟩ b7 (CA 59 [false]) (tt k15 (tt k14 e)))))) (fun k14=>(lr 34 76 [1,1,0,1,0,0,1,0,0,1,0,0] 1 9 [(2,(ii 8))] (sl DM 158 [] (b8 [2]) b7 (CA 52 (bl 8 128)) (tt k14 e)))))) (fun k13=>(lr 34 76 [1,1,0,1,0,0,1,0,0,1,0,0] 1 9 [(2,(ii 8))] (sl DM 158 [] (b8 [2]) b7 (CA 45 (bl 15 16384)) (tt k13 (tt k12 b))))))) (fun k12=>(lr 34 76 [1,1,0,1,0,0,1,0,0,1,0,0] 1 9 [(2,(ii 8))] (sl DM 158 [] (b8 [2]) b7 (CA 38 (bl 22 2097152)) (tt k12 b)))))) (fun k11=>(lr 34 76 [1,1,0,1,0,0,1,0,0,1,0,0] 1 9 [(2,(ii 8))] (sl DM 158 [] (b8 [2]) b7 (CA 35 m) (tt k11 (tt k10 d))))))) (fun k10=>(lr 34 76 [1,1,0,1,0,0,1,0,0,1,0,0] 1 9 [(2,(ii 8))] (sl DM 158 [] (b8 [2]) b7 (CA 32 l) (tt k10 d)))))) (fun k9=>(lr 34 76 [1,1,0,1,0,0,1,0,0,1,0,0] 1 9 [(2,(ii 8))] (sl DM 158 [] (b8 [2]) b7 (CA 29 i) (tt k9 j)))))) (fun k8=>(lr 34 76 [1,1,0,1,0,0,1,0,0,1,0,0] 1 9 [(2,(ii 8))] (sl DM 158 [] (b8 [2]) b7 (CA 25 (bl 35 17179869184)) (tt k8 (tt k7 a))))))) (fun k7=>(lr 34 76 [1,1,0,1,0,0,1,0,0,1,0,0] 1 9 [(2,(ii 8))] (sl DM 158 [] (b8 [2]) b7 (CA 21 (bl 39 274877906944)) (tt k7 a)))))) (fun k6=>(lr 34 76 [1,1,0,1,0,0,1,0,0,1,0,0] 1 9 [(2,(ii 8))] (sl DM 117 [] (b8 [2]) b7 (CA 18 m) (tt k6 (tt k5 g))))))) (fun k5=>(lr 34 76 [1,1,0,1,0,0,1,0,0,1,0,0] 1 9 [(2,(ii 8))] (sl DM 117 [] (b8 [2]) b7 (CA 15 l) (tt k5 g)))))) (fun k4=>(lr 34 76 [1,1,0,1,0,0,1,0,0,1,0,0] 1 9 [(2,(ii 8))] (sl DM 117 [] (b8 [2]) b7 (CA 12 i) (tt k4 (tt k3 c))))))) (fun k3=>(lr 34 76 [1,1,0,1,0,0,1,0,0,1,0,0] 1 9 [(2,(ii 8))] (sl DM 117 [] (b8 [2]) b7 (CA 9 (bl 34 8589934592)) (tt k3 c)))))) (fun k2=>(lr 34 76 [1,1,0,1,0,0,1,0,0,1,0,0] 1 9 [(2,(ii 8))] (sl DM 117 [] (b8 [2]) b7 (CA 5 (bl 38 137438953472)) (tt k2 (tt k1 f))))))) (fun k1=>(lr 34 76 [1,1,0,1,0,0,1,0,0,1,0,0] 1 9 [(2,(ii 8))] (sl DM 117 [] (b8 [2]) b7 (bl 43 4398046511105) (tt k1 f))))))) (fun k0=>(lo fun aG=>(lb (fun k1=>(lr 34 76 [1,1,1,1,0,1,0,0] 1 9 [(2,(ii 8))] (sl DM 37 [] (b8 [2]) b7 (bl 6 62) (tt k1 (pp (pp (xr l0) (pp (xI R6 0 (fun _=>[])) (xw aG))) (tt k0 nn)))))) (fun k1=>(lo fun bH=>let h:=pp (xr l0) (xw bH);(lb (fun k2=>(lr 34 76 [1,1,1,1,0,1,0,0] 1 9 [(2,(ii 8))] (sl DM 37 [] (b8 [2]) b7 (bl 6 32) (tt k2 (pp (pp (xI R6 (EJ 2 (B2 l0) ([]:List R6)).length (Zz (EJ 2 (B2 l0) ([]:List R6)))) h) (tt k1 (pp (pp (xr l0) (pp (xI R6 0 (fun _=>[])) (xw aG))) (tt k0 nn)))))))) (fun k2=>(lr 34 3 [1,1,1,1,1,1,0] 1 9 [(2,(ii 0))] (sl DM 38 [] (b8 [2]) b7 (bl 6 0) (tt k2 (pp (pp (xI R6 (EJ 2 (B2 l0) ([]:List R6)).length (Zz (EJ 2 (B2 l0) ([]:List R6)))) h) (tt k1 (pp (pp (xr l0) (pp (xI R6 0 (fun _=>[])) (xw aG))) (tt k0 nn)))))))))))))))
theorem x6i (l0:List R6):Wj prog (Zy prog 76) (j1i l0) (Zg prog 76 [(.dat l0.length (Zz l0))] true []) (UD l0):=(lb (fun k0=>(lr 34 76 [1,0,1,0,0] 1 9 [(2,(ii 4))] (sl DM 16 [] (b8 [2]) b7 [true] (tt k0 nn)))) (fun k0=>(sl DM 20 [] ⟨[],[],u6z,u7a⟩ b7 [false] (tt k0 nn))))
theorem v4q (l0:List R6) (n:Nat) (vs:List B1) (h:Yw (I4 l0) n (UD l0)=.ret vs):Js prog (Zy prog 76) (Zg prog 76 [(.dat l0.length (Zz l0))] true []) vs:=by have:=Ze (w0t l0) n _ (x6i l0);rwa [h] at this
def Fb (r:R6):Bool:=decide (r.a>= -1000000)&&(decide (r.b>= -1000000)&&(decide (r.c>= -1000000)&&(decide (r.a<=1000000)&&(decide (r.b<=1000000)&&(decide (r.c<=1000000)&&(decide (r.d>= -1000000)&&(decide (r.e>= -1000000)&&(decide (r.f>= -1000000)&&(decide (r.d<=1000000)&&(decide (r.e<=1000000)&&(decide (r.f<=1000000)&&(decide (r.a<r.d)&&(decide (r.b<r.e)&&decide (r.c<r.f))))))))))))))
def Hh (l:List R6):Int:=bif If 2 l [] then (bif Qt (EJ 2 l []) l then 0 else 8) else 8
def Ic (l:List R6):Int:=bif decide (400<l.length) then 4 else bif l.all Fb then Hh l else 8
def v4o (l:List R6):Bool:=true
theorem w9y (k:Int) (l m:List R6):(EJ k l m).length <=400\/If k l m=false:=by
 grind [EJ,If]
section
variable (l:List R6) (hl:l.length<=400)
include hl
theorem v4p : ∀(k i:Nat),i+k=l.length->(∀s∈l.take i,Fb s=true)-> ∃n,Yw (I4 l) n (.to (.h0 (i:Int)))=.ret [.int .i64 (bif l.all Fb then Hh l else 8)]
 | 0,i,h,ht=>by
  have hv:l.all Fb=true:=Ay.2 fun s hs=>ht s (by grind);have w1:R8 2 l []=true:=N2 (by omega) (by simp);refine ⟨1,?_⟩;rw [Zw,hv,Af];unfold Hh;rcases Vo (If 2 l []) with q | q
  .have w2:Ue (EJ 2 l []) l=true:=Aa (by
    grind [w9y])
   rcases Vo (Qt (EJ 2 l []) l) with q2 | q2 <;>
   simp (disch:=omega) only [I4,Yg,Xz,q,q2,w1,w2,Ax,AD,Af,Ab,Zh]
  grind [I4,Yg,Zh]
 | k+1,i,h,ht=>by
  have hi:i<l.length:=by omega
  have hs:I4 l (.h0 (i:Int))=bif Fb (rd l i) then .to (.h0 ((i+1:Nat):Int)) else .ret [.int .i64 8]:=by simp (disch:=omega) only [I4,Fb,w3t,w3r,v7k,Ym,Zm,Zk,Zj,Ap,Af,Ab]
  rcases Vo (Fb (rd l i)) with q | q
  .obtain ⟨n,hn⟩:=v4p k (i+1) (by omega) (fun s hs=>by
    rw [Bw] at hs
    grind [Wf])
   refine ⟨n+1,?_⟩
   grind [Zw]
  .have hv:l.all Fb=false:=A5.2 fun e=>by
    grind [Wf]
   refine ⟨1,?_⟩
   grind [Zw,Zh]
end
theorem u1g (l:List R6): ∃n,Yw (I4 l) n (UD l)=.ret [.int .i64 (Ic l)]:=by
 unfold UD Ic;by_cases h:400<l.length
 .refine ⟨0,?_⟩;rw [Aa h,Xv (show (l.length:Int)>400 by omega)];rfl
 .obtain ⟨n,hn⟩:=v4p l (by omega) l.length 0 (Al _) (fun s hs=>by simp at hs)
  grind
def ON :List B1->Option (B1×Bool)
 | [a1]=>match C7 R6 a1 with
  | some (L1,g1,n1)=>some (.int .i64 (Ic L1),CQ R6 n1 g1&&v4o L1)
  | _=>none
 | _=>none
theorem j4h {S:B3} (hS:Zv prog S):Zv prog (S.with v5s ON):=by
 refine CP hS (by kernel_rfl) fun args v h=> ?_;unfold ON at h;split at h
 .rename_i a1;split at h
  .rename_i L1 g1 n1 e1;simp only [Ae,Ac,Ad] at h;obtain ⟨rfl,ho1,hw⟩:=h;obtain ⟨N,hN⟩:=u1g L1;exact ⟨_,_,(.cons (Xf e1 ho1) .nil),rfl,v4q L1 N _ hN,3,rfl⟩
  .cases h
 .cases h
def T9 :B3:=T8.with v5s ON
theorem To :Zv prog T9:=j4h DM
def C6 (s sep:List UInt8):Int:=Lib.indexByte s (sep.headD 0)
def Yl (s sep:List UInt8):Bool:=Nat.beq sep.length 1
def O0 :List B1->Option (B1×Bool)
 | [.str s,.str sep]=>some (.int .i64 (C6 s sep),Yl s sep)
 | _=>none
theorem w5i {sep:List UInt8} (h:Nat.beq sep.length 1=true):sep=[sep.headD 0]:=by
 have h1:=Ai h
 match sep,h1 with
 | [b],_=>rfl
theorem j4t {S:B3} (hS:Zv prog S):Zv prog (S.with TV O0):=PS hS (by kernel_rfl) (Q0 fun args v hv H vals w eL hH hG=>by
 unfold O0 at hv;split at hv
 .rename_i s sep;simp only [Ae,Ac] at hv;obtain ⟨rfl,ho⟩:=hv;have hs:=w5i ho;obtain rfl:vals= #[.string ⟨s.toArray⟩,.string ⟨sep.toArray⟩]:=by
   obtain ⟨vl⟩:=vals;cases eL with
   | cons h1 h2=>cases h2 with
    | cons h2 h3=>cases h3;cases h1;cases h2;rfl
  rw [hs];refine (Any.stringslite_Index_one Tryz.lays219 ⟨s.toArray⟩ (sep.headD 0) w).mono fun e w' ⟨he,hw⟩=>⟨_,he,.int _ _,?_⟩
  subst hw;exact RowKit.Below.refl _ _
 .cases hv)
def Ok (s sep:List UInt8):Int:=((Lib.countByte s (sep.headD 0):Nat):Int)
def YX (s sep:List UInt8):Bool:=Nat.beq sep.length 1
def Ob :List B1->Option (B1×Bool)
 | [.str s,.str sep]=>some (.int .i64 (Ok s sep),YX s sep)
 | _=>none
theorem j5g {S:B3} (hS:Zv prog S):Zv prog (S.with Tk Ob):=PS hS (by kernel_rfl) (Q0 fun args v hv H vals w eL hH hG=>by
 unfold Ob at hv;split at hv
 .rename_i s sep;simp only [Ae,Ac] at hv;obtain ⟨rfl,ho⟩:=hv;have hs:=w5i ho;obtain rfl:vals= #[.string ⟨s.toArray⟩,.string ⟨sep.toArray⟩]:=by
   obtain ⟨vl⟩:=vals;cases eL with
   | cons h1 h2=>cases h2 with
    | cons h2 h3=>cases h3;cases h1;cases h2;rfl
  rw [hs];refine (Any.strings_Count_one Tryz.lays138 ⟨s.toArray⟩ (sep.headD 0) w).mono fun e w' ⟨he,hw⟩=>⟨_,he,.int _ _,?_⟩
  subst hw;exact RowKit.Below.refl _ _
 .cases hv)
def Nc (L:List (List UInt8)) (sep:List UInt8):List UInt8:=Lib.join L sep
def PU (L:List (List UInt8)) (sep:List UInt8):Bool:=decide (L.length<=1000000)&&decide ((Nc L sep).length <=1000000)
def OX :List B1->Option (B1×Bool)
 | [a0,.str sep]=>match C7 (List UInt8) a0 with
  | some (L,g,n)=>some (.str (Nc L sep),CQ (List UInt8) n g&&PU L sep)
  | _=>none
 | _=>none
theorem j4s {S:B3} (hS:Zv prog S):Zv prog (S.with N4 OX):=PS hS (by kernel_rfl) (Q0 fun args v hv H vals w eL hH hG=>by
 unfold OX at hv;split at hv
 .rename_i a0 sep;split at hv
  .rename_i L g n e0;simp only [Ae,Ac,Ad] at hv;obtain ⟨rfl,ht,ho⟩:=hv;unfold PU at ho;rw [Ad,An,An] at ho;obtain ⟨v0,rfl,eJ⟩: ∃v0,vals= #[v0,.string ⟨sep.toArray⟩]/\Zr (DA H) (.dat L.length (Zz L)) v0:=by
    obtain ⟨vl⟩:=vals;cases eL with
    | cons h1 h2=>cases h2 with
     | cons h2 h3=>cases h3;cases h2;exact ⟨_,rfl,(Xf e0 ht).sound h1⟩
   have hmap:(L.map fun s=>(⟨s.toArray⟩:ByteArray)).map (·.data.toList)=L:=by rw [List.map_map];exact (List.map_congr_left fun s _=>rfl).trans (List.map_id L)
   have hlenm:(L.map fun s=>(⟨s.toArray⟩:ByteArray)).length =L.length:=BB _;have none: ∀(a:Option Addr) (c:Nat),L.length=0->Calls prog N4 #[.slice a 0 c,.string ⟨sep.toArray⟩] w fun e w'=> ∃u,e=.returned u/\Zr (DA H) (.str (Nc L sep)) u/\RowKit.Below w.heap.size w w':=fun a c h0=>by
    obtain rfl:=Bs h0;refine (Any.strings_Join_none Tryz.lays156 Tryz.Builder_Extra_156 a c ⟨sep.toArray⟩ w).mono fun e w' ⟨he,hw⟩=>⟨_,he,?_,?_⟩
    .exact .str _
    .subst hw;exact RowKit.Below.refl _ _
   generalize hn:L.length=m at eJ;cases eJ with
   | datn=>exact none _ _ hn
   | datz _ a c=>exact none _ _ hn
   | dat _ _ blk base sz cap val eR hsz hv hh=>
    by_cases h0:L.length=0
    .rw [<-hn,h0];exact none _ _ h0
    have fV: ∀i,(hi:i<L.length)->Zz L i=[.str L[i]]:=fun i hi=>by show Xk.cells (rd L i)=_;rw [Wf hi];rfl
    have hsz1:sz=1:=by have:=hsz 0 (by omega);rw [fV 0 (by omega)] at this;exact this.symm
    subst hsz1;have fA: ∀i,(hi:i<L.length)->val i 0=.string ⟨L[i].toArray⟩:=fun i hi=>by have:=hv i 0 (by omega) (by rw [fV i hi];exact Nat.one_pos);simp only [fV i hi,List.getElem_cons_zero] at this;generalize val i 0=z at this;cases this;rfl
    have fD: ∀i,(hi:i<L.length)-> ∃cs el fz,w.heap[blk]? =some (.cells cs el fz)/\cs[base+i]? =some (.string ⟨L[i].toArray⟩):=fun i hi=>by obtain ⟨cs,el,fz,e1,e2⟩:=hh i 0 (by omega) Nat.one_pos;rw [fA i hi,Nat.mul_one,Bn] at e2;exact ⟨cs,el,fz,hH _ _ e1,e2⟩
    have hJ:=Any.strings_Join Tryz.lays156 Tryz.Builder_Extra_156 blk base cap (L.map fun s=>(⟨s.toArray⟩:ByteArray)) ⟨sep.toArray⟩ w (fun j x hx=>by
      have hj:j<L.length:=by rw [<-hlenm];exact (Bd.1 hx).1
      obtain ⟨cs,el,fz,e1,e2⟩:=fD j hj;rw [BL,Ar hj] at hx;obtain rfl:=Ag hx;simp [World.cell?,e1,e2])
     (by obtain ⟨cs,el,fz,e1,_⟩:=fD 0 (by omega);exact (AB.1 e1).1)
     (by rw [hlenm];omega) (by rw [hlenm];omega) (by rw [hmap];exact AK ho.2 (by omega))
    rw [hmap,hlenm,hn] at hJ;refine hJ.mono fun e w' ⟨he,hw⟩=>⟨_,he,?_,hw⟩
    exact .str _
  .cases hv
 .cases hv)
def Tz :B3:=((T9.with TV O0).with Tk Ob).with N4 OX
theorem Xy :Zv prog Tz:=j4s (j5g (j4t To))
inductive Hs where
def N0 (x0:List UInt8) (x1:List UInt8):Hs->CE
 :=nofun
def w1w (x0:List UInt8) (x1:List UInt8):Hs->Xu Hs
 :=nofun
def Ra (x0:List UInt8) (x1:List UInt8):Xu Hs:=(bif (Yl x0 x1) then (bif (decide ((C6 x0 x1)>=0)) then (bif (decide ((Int.toNat (C6 x0 x1))<=x0.length)) then (bif (decide (0<=(C6 x0 x1))) then (bif (decide ((Int.toNat (wrap .i64 ((C6 x0 x1)+(x1.length:Int))))<=x0.length)) then (bif (decide (0<=(wrap .i64 ((C6 x0 x1)+(x1.length:Int))))) then (.ret [(.str ((x0.drop 0).take (Int.toNat (C6 x0 x1)))),(.str ((x0.drop (Int.toNat (wrap .i64 ((C6 x0 x1)+(x1.length:Int))))).take (x0.length - (Int.toNat (wrap .i64 ((C6 x0 x1)+(x1.length:Int))))))),(.bool true)]) else .stuck) else .stuck) else .stuck) else .stuck) else (.ret [(.str x0),(.str []),(.bool false)])) else .stuck)
theorem w9x (x0:List UInt8) (x1:List UInt8): ∀s,Wj prog (Zy prog 122) (N0 x0 x1) (N0 x0 x1 s) (w1w x0 x1 s)
 :=nofun
theorem w1x (x0:List UInt8) (x1:List UInt8):Wj prog (Zy prog 122) (N0 x0 x1) (Zg prog 122 [(.str x0),(.str x1)] true []) (Ra x0 x1):=(lo fun cM=>(lb (fun k0=>(lo fun o0=>(lo fun o1=>(lo fun o2=>(lo fun o3=>let a:=tn (wr ((C6 x0 x1)+(x1.length:Int)));(lr 13 3 [1,1,1,1,1,1,0] 1 122 [(4,(.str ((x0.drop 0).take (tn (C6 x0 x1))))),(5,(.str ((x0.drop a).take (x0.length - a)))),(6,(.bool true))] (sl Xy 41 [] (b8 [4,5,6]) b7 [true] (pp (pp nn (pp (xw o3) (pp (xG (decide (x0.length<=x0.length)) (Aa (Ak _))) (xG (decide ((tn (wr ((C6 x0 x1)+(x1.length:Int))))<=x0.length)))))) (pp (pp (xw o1) (pp nn (pp (xG (decide ((tn (C6 x0 x1))<=x0.length))) (xG (decide (0<=(tn (C6 x0 x1)))))))) (tt k0 (ww cM nn))))))))))) (fun k0=>(lr 13 3 [1,1,1,1,1,1,0] 1 122 [(4,(.str x0)),(5,(.str [])),(6,(.bool false))] (sl Xy 47 [] (b8 [4,5,6]) b7 [false] (tt k0 (ww cM nn)))))))
theorem u3f (x0:List UInt8) (x1:List UInt8) (n:Nat) (vs:List B1) (h:Yw (w1w x0 x1) n (Ra x0 x1)=.ret vs):Js prog (Zy prog 122) (Zg prog 122 [(.str x0),(.str x1)] true []) vs:=by have:=Ze (w9x x0 x1) n _ (w1x x0 x1);rwa [h] at this
inductive IN where
def Oj (x0:List UInt8) (x1:List UInt8):IN->CE
 :=nofun
def w3k (x0:List UInt8) (x1:List UInt8):IN->Xu IN
 :=nofun
def RU (x0:List UInt8) (x1:List UInt8):Xu IN:=(bif (decide ((x0.length:Int)>=(x1.length:Int))) then (bif (decide ((Int.toNat (wrap .i64 ((x0.length:Int) - (x1.length:Int))))<=x0.length)) then (bif (decide (0<=(wrap .i64 ((x0.length:Int) - (x1.length:Int))))) then (bif (!(((x0.drop (Int.toNat (wrap .i64 ((x0.length:Int) - (x1.length:Int))))).take (x0.length - (Int.toNat (wrap .i64 ((x0.length:Int) - (x1.length:Int)))))) == x1)) then (.ret [(.str x0),(.bool false)]) else (.ret [(.str ((x0.drop 0).take (Int.toNat (wrap .i64 ((x0.length:Int) - (x1.length:Int)))))),(.bool true)])) else .stuck) else .stuck) else (.ret [(.str x0),(.bool false)]))
theorem v1b (x0:List UInt8) (x1:List UInt8): ∀s,Wj prog (Zy prog 79) (Oj x0 x1) (Oj x0 x1 s) (w3k x0 x1 s)
 :=nofun
theorem w3l (x0:List UInt8) (x1:List UInt8):Wj prog (Zy prog 79) (Oj x0 x1) (Zg prog 79 [(.str x0),(.str x1)] true []) (RU x0 x1):=(lb (fun k0=>(lo fun aG=>(lo fun aU=>(lb (fun k1=>(lr 11 3 [1,1,1,1,1,1,0] 1 17 [(4,(.str x0)),(5,(.bool false))] (sl Xy 61 [] (b8 [4,5]) b7 (CA 10 []) (tt k1 (pp (pp nn (pp (xw aU) (pp (xG (decide (x0.length<=x0.length)) (Aa (Ak _))) (xG (decide ((tn (wr ((x0.length:Int) - (x1.length:Int))))<=x0.length)))))) (tt k0 nn)))))) (fun k1=>let a:=xG (decide ((tn (wr ((x0.length:Int) - (x1.length:Int))))<=x0.length));(lr 11 3 [1,1,1,1,1,1,0] 1 17 [(4,(.str ((x0.drop 0).take (tn (wr ((x0.length:Int) - (x1.length:Int))))))),(5,(.bool true))] (sl Xy 68 [] (b8 [4,5]) b7 (CA 9 [false]) (pp (pp (xw aU) (pp nn (pp a (xG (decide (0<=(tn (wr ((x0.length:Int) - (x1.length:Int)))))))))) (tt k1 (pp (pp nn (pp (xw aU) (pp (xG (decide (x0.length<=x0.length)) (Aa (Ak _))) a))) (tt k0 nn))))))))))) (fun k0=>(lr 11 3 [1,1,1,1,1,1,0] 1 17 [(4,(.str x0)),(5,(.bool false))] (sl Xy 61 [] (b8 [4,5]) b7 (bl 10 512) (tt k0 nn)))))
theorem u4p (x0:List UInt8) (x1:List UInt8) (n:Nat) (vs:List B1) (h:Yw (w3k x0 x1) n (RU x0 x1)=.ret vs):Js prog (Zy prog 79) (Zg prog 79 [(.str x0),(.str x1)] true []) vs:=by have:=Ze (v1b x0 x1) n _ (w3l x0 x1);rwa [h] at this
inductive Ho where
 | h0 (cF:Nat)
def NS (x0:List UInt8):Ho->CE
 | .h0 cF=>⟨⟨44,0,true⟩,none,(Zf prog 67 [1,1,0,1,0,0] 0),none,(Zy prog 9),⟨Ye [(15,(.ptr 0 0))],Xt [⟨[(.obj (.it x0 cF))],9,none⟩] 0,1,[],true⟩,[],.leaf⟩
def Pu :List (Option (List Nat)):=[some [15]]
def Pt :List (Option (List Nat)):=[]
def LM (x0:List UInt8):Ho->Xu Ho
 | .h0 cF=>(bif (decide (cF<x0.length)) then (bif (decide ((Df x0 cF)>=97)) then (bif (!(decide ((Df x0 cF)<=122))) then (bif (((cF:Nat):Int) == 0) then (.ret [(.bool false)]) else (bif ((Df x0 cF) != 45) then (bif (decide ((Df x0 cF)<48)) then (.ret [(.bool false)]) else (bif (decide ((Df x0 cF)>57)) then (.ret [(.bool false)]) else (.to (.h0 (cF+Fd x0 cF))))) else (.to (.h0 (cF+Fd x0 cF))))) else (.to (.h0 (cF+Fd x0 cF)))) else (bif (((cF:Nat):Int) == 0) then (.ret [(.bool false)]) else (bif ((Df x0 cF) != 45) then (bif (decide ((Df x0 cF)<48)) then (.ret [(.bool false)]) else (bif (decide ((Df x0 cF)>57)) then (.ret [(.bool false)]) else (.to (.h0 (cF+Fd x0 cF))))) else (.to (.h0 (cF+Fd x0 cF)))))) else (.ret [(.bool true)]))
def VH (x0:List UInt8):Xu Ho:=(bif ((x0.length:Int) == 0) then (.ret [(.bool false)]) else (bif (decide ((x0.length:Int)>40)) then (.ret [(.bool false)]) else (.to (.h0 0))))
theorem w9f (x0:List UInt8): ∀s,Wj prog (Zy prog 67) (NS x0) (NS x0 s) (LM x0 s)
 | .h0 cF=>(lb (fun k0=>(lb (fun k1=>let d:=tt k1 (tt k0 nn);(lb (fun k2=>let a:=tt k2 d;(lb (fun k3=>(lr 44 67 [1,1,0,1,0,0,1,1,0,1,1,1,0,0] 1 9 [(2,(.bool false))] (sl Xy 52 [] (b8 [2]) b7 (CA 13 []) (tt k3 a)))) (fun k3=>(lb (fun k4=>let c:=tt k4 (tt k3 a);(lb (fun k5=>(lr 44 67 [1,1,0,1,0,0,1,1,0,1,1,1,0,0] 1 9 [(2,(.bool false))] (sl Xy 52 [] (b8 [2]) b7 (CA 7 (bl 12 3576)) (tt k5 c)))) (fun k5=>(lb (fun k6=>(lr 44 67 [1,1,0,1,0,0,1,1,0,1,1,1,0,0] 1 9 [(2,(.bool false))] (sl Xy 52 [] (b8 [2]) b7 (CA 7 (bl 12 3384)) (tt k6 (tt k5 c))))) (fun k6=>(sl Xy 51 [] ⟨[0],[],Pu,Pt⟩ b7 (CA 7 (bl 12 1336)) (tt k6 (tt k5 c)))))))) (fun k4=>(sl Xy 51 [] ⟨[0],[],Pu,Pt⟩ b7 (CA 7 (bl 10 256)) (tt k4 (tt k3 a)))))))) (fun k2=>(sl Xy 51 [] ⟨[0],[],Pu,Pt⟩ b7 (CA 4 (bl 5 0)) (tt k2 d))))) (fun k1=>let e:=tt k1 (tt k0 nn);(lb (fun k2=>(lr 44 67 [1,1,0,1,0,0,1,1,0,1,1,1,0,0] 1 9 [(2,(.bool false))] (sl Xy 52 [] (b8 [2]) b7 (bl 13 8179) (tt k2 e)))) (fun k2=>let b:=tt k2 e;(lb (fun k3=>(lb (fun k4=>(lr 44 67 [1,1,0,1,0,0,1,1,0,1,1,1,0,0] 1 9 [(2,(.bool false))] (sl Xy 52 [] (b8 [2]) b7 (bl 19 457843) (tt k4 (tt k3 b))))) (fun k4=>let f:=tt k4 (tt k3 b);(lb (fun k5=>(lr 44 67 [1,1,0,1,0,0,1,1,0,1,1,1,0,0] 1 9 [(2,(.bool false))] (sl Xy 52 [] (b8 [2]) b7 (bl 19 433267) (tt k5 f)))) (fun k5=>(sl Xy 51 [] ⟨[0],[],Pu,Pt⟩ b7 (bl 19 171123) (tt k5 f))))))) (fun k3=>(sl Xy 51 [] ⟨[0],[],Pu,Pt⟩ b7 (bl 17 32883) (tt k3 b))))))))) (fun k0=>(lr 44 3 [1,1,1,1,1,1,0] 1 9 [(2,(.bool true))] (sl Xy 12 [] (b8 [2]) b7 (bl 2 0) (tt k0 nn)))))
theorem w1n (x0:List UInt8):Wj prog (Zy prog 67) (NS x0) (Zg prog 67 [(.str x0)] true []) (VH x0):=(lb (fun k0=>(lr 44 67 [1,0,1,0,0] 1 9 [(2,(.bool false))] (sl Xy 21 [] (b8 [2]) b7 (CA 4 []) (tt k0 nn)))) (fun k0=>(lb (fun k1=>(lr 44 67 [1,0,1,0,0] 1 9 [(2,(.bool false))] (sl Xy 21 [] (b8 [2]) b7 (bl 4 8) (tt k1 (tt k0 nn))))) (fun k1=>(sl Xy 26 [] ⟨[0],[],Pu,Pt⟩ b7 (bl 4 0) (tt k1 (tt k0 nn)))))))
theorem u2r (x0:List UInt8) (n:Nat) (vs:List B1) (h:Yw (LM x0) n (VH x0)=.ret vs):Js prog (Zy prog 67) (Zg prog 67 [(.str x0)] true []) vs:=by have:=Ze (w9f x0) n _ (w1n x0);rwa [h] at this
inductive H9 where
 | h0 (v3:Int)
def M4 (x0:List UInt8):H9->CE
 | .h0 v3=>⟨⟨40,0,true⟩,none,(Zf prog 77 [1,0,1,0,0] 0),none,(Zy prog 9),⟨Ye [(0,(.str x0)),(3,(ii v3))],Xt [] 0,0,[],true⟩,[],.leaf⟩
def Px :List (Option (List Nat)):=[some [0,3]]
def Pw :List (Option (List Nat)):=[]
def LP (x0:List UInt8):H9->Xu H9
 | .h0 v3=>(bif (decide (v3<(x0.length:Int))) then (bif (decide (0<=v3/\v3<(x0.length:Int))) then (bif (decide ((CW x0 v3.toNat)>=97)) then (bif (!(decide ((CW x0 v3.toNat)<=122))) then (bif (v3 == 0) then (.ret [(.bool false)]) else (bif ((CW x0 v3.toNat) != 45) then (bif (decide ((CW x0 v3.toNat)>=48)) then (bif (!(decide ((CW x0 v3.toNat)<=57))) then (.ret [(.bool false)]) else (.to (.h0 (wrap .i64 (v3+1))))) else (.ret [(.bool false)])) else (.to (.h0 (wrap .i64 (v3+1)))))) else (.to (.h0 (wrap .i64 (v3+1))))) else (bif (v3 == 0) then (.ret [(.bool false)]) else (bif ((CW x0 v3.toNat) != 45) then (bif (decide ((CW x0 v3.toNat)>=48)) then (bif (!(decide ((CW x0 v3.toNat)<=57))) then (.ret [(.bool false)]) else (.to (.h0 (wrap .i64 (v3+1))))) else (.ret [(.bool false)])) else (.to (.h0 (wrap .i64 (v3+1))))))) else .stuck) else (bif (decide ((x0.length:Int)>=1)) then (.ret [(.bool (decide ((x0.length:Int)<=40)))]) else (.ret [(.bool false)])))
def x2x (x0:List UInt8):Xu H9:=(.to (.h0 0))
theorem w8j (x0:List UInt8): ∀s,Wj prog (Zy prog 77) (M4 x0) (M4 x0 s) (LP x0 s)
 | .h0 v3=>(lb (fun k0=>(lo fun aG=>let a:=ww aG (tt k0 nn);(lb (fun k1=>(lb (fun k2=>let f:=tt k2 (tt k1 a);(lb (fun k3=>(lr 40 77 [1,0,1,0,0,1,0,0,1,0,0] 1 9 [(2,(.bool false))] (sl Xy 57 [] (b8 [2]) b7 (CA 14 []) (tt k3 f)))) (fun k3=>let d:=ww aG (tt k3 f);(lb (fun k4=>let b:=ww aG (tt k4 d);(lb (fun k5=>(lb (fun k6=>(lr 40 77 [1,0,1,0,0,1,0,0,1,0,0] 1 9 [(2,(.bool false))] (sl Xy 72 [] (b8 [2]) b7 (CA 6 (bl 15 28640)) (tt k6 (tt k5 b))))) (fun k6=>(sl Xy 76 [] ⟨[],[],Px,Pw⟩ b7 (CA 6 (bl 15 12256)) (tt k6 (tt k5 b)))))) (fun k5=>(lr 40 77 [1,0,1,0,0,1,0,0,1,0,0] 1 9 [(2,(.bool false))] (sl Xy 72 [] (b8 [2]) b7 (CA 6 (bl 15 27104)) (tt k5 b)))))) (fun k4=>(sl Xy 61 [] ⟨[],[],Px,Pw⟩ b7 (CA 6 (bl 13 2048)) (tt k4 d))))))) (fun k2=>(sl Xy 61 [] ⟨[],[],Px,Pw⟩ b7 (CA 3 (bl 5 0)) (tt k2 (tt k1 a)))))) (fun k1=>(lb (fun k2=>(lr 40 77 [1,0,1,0,0,1,0,0,1,0,0] 1 9 [(2,(.bool false))] (sl Xy 57 [] (b8 [2]) b7 (bl 14 16377) (tt k2 (tt k1 a))))) (fun k2=>let e:=ww aG (tt k2 (tt k1 a));(lb (fun k3=>let c:=ww aG (tt k3 e);(lb (fun k4=>(lb (fun k5=>(lr 40 77 [1,0,1,0,0,1,0,0,1,0,0] 1 9 [(2,(.bool false))] (sl Xy 72 [] (b8 [2]) b7 (bl 21 1833017) (tt k5 (tt k4 c))))) (fun k5=>(sl Xy 76 [] ⟨[],[],Px,Pw⟩ b7 (bl 21 784441) (tt k5 (tt k4 c)))))) (fun k4=>(lr 40 77 [1,0,1,0,0,1,0,0,1,0,0] 1 9 [(2,(.bool false))] (sl Xy 72 [] (b8 [2]) b7 (bl 21 1734713) (tt k4 c)))))) (fun k3=>(sl Xy 61 [] ⟨[],[],Px,Pw⟩ b7 (bl 19 131129) (tt k3 e)))))))))) (fun k0=>(lb (fun k1=>(lr 40 3 [1,1,1,1,1,1,0] 1 9 [(2,(.bool (decide ((x0.length:Int)<=40))))] (sl Xy 22 [] (b8 [2]) b7 (bl 4 14) (tt k1 (tt k0 nn))))) (fun k1=>(lr 40 3 [1,1,1,1,1,1,0] 1 9 [(2,(.bool false))] (sl Xy 22 [] (b8 [2]) b7 (bl 4 0) (tt k1 (tt k0 nn))))))))
theorem w0d (x0:List UInt8):Wj prog (Zy prog 77) (M4 x0) (Zg prog 77 [(.str x0)] true []) (x2x x0):=(sl Xy 11 [] ⟨[],[],Px,Pw⟩ b7 [] nn)
theorem u0s (x0:List UInt8) (n:Nat) (vs:List B1) (h:Yw (LP x0) n (x2x x0)=.ret vs):Js prog (Zy prog 77) (Zg prog 77 [(.str x0)] true []) vs:=by have:=Ze (w8j x0) n _ (w0d x0);rwa [h] at this
inductive Hf where
 | h0 (v3:List (List UInt8)) (v4:Int) (v5:Int)
def Mb (x0:List UInt8):Hf->CE
 | .h0 v3 v4 v5=>⟨⟨34,0,true⟩,none,(Zf prog 52 [1,1,1,1,0,1,0,0] 0),none,(Zy prog 9),⟨Ye [(0,(.str x0)),(3,(.sla 0 1 0 v3.length (.un 1))),(4,(ii v4)),(5,(ii v5))],Xt [⟨rows v3.length (Zz v3),9,some ⟨1,v3.length,(Zz v3)⟩⟩] 0,1,[],true⟩,[],.leaf⟩
def XY :List (Option (List Nat)):=[some [0,3,4,5]]
def XX :List (Option (List Nat)):=[]
def G5 (x0:List UInt8):Hf->Xu Hf
 | .h0 v3 v4 v5=>(bif (decide (v5<=(x0.length:Int))) then (bif (v5 == (x0.length:Int)) then (bif (decide (v4.toNat<=v5.toNat)) then (bif (decide (v5.toNat<=x0.length)) then (bif (decide (0<=v4)) then (bif (decide (0<=v5)) then (bif (Nat.beq 1 1&&((decide (0+v3.length=v3.length))&&decide ((v3.length+1+1)*(16+1)<=Vd))) then (.to (.h0 (v3++[((x0.drop v4.toNat).take (v5.toNat - v4.toNat))]) (wrap .i64 (v5+1)) (wrap .i64 (v5+1)))) else .stuck) else .stuck) else .stuck) else .stuck) else .stuck) else (bif (decide (0<=v5/\v5<(x0.length:Int))) then (bif ((CW x0 v5.toNat) == 47) then (bif (decide (v4.toNat<=v5.toNat)) then (bif (decide (v5.toNat<=x0.length)) then (bif (decide (0<=v4)) then (bif (decide (0<=v5)) then (bif (Nat.beq 1 1&&((decide (0+v3.length=v3.length))&&decide ((v3.length+1+1)*(16+1)<=Vd))) then (.to (.h0 (v3++[((x0.drop v4.toNat).take (v5.toNat - v4.toNat))]) (wrap .i64 (v5+1)) (wrap .i64 (v5+1)))) else .stuck) else .stuck) else .stuck) else .stuck) else .stuck) else (.to (.h0 v3 v4 (wrap .i64 (v5+1))))) else .stuck)) else (.ret [(.dat v3.length (Zz v3))]))
def VL (x0:List UInt8):Xu Hf:=(bif (x0 == ([]:List UInt8)) then (.ret [.nils]) else (.to (.h0 ([]:List (List UInt8)) 0 0)))
theorem w8u (x0:List UInt8): ∀s,Wj prog (Zy prog 52) (Mb x0) (Mb x0 s) (G5 x0 s)
 | .h0 v3 v4 v5=>(lb (fun k0=>let a:=v3++[((x0.drop (tn v4)).take ((tn v5) - (tn v4)))];(lb (fun k1=>(lo fun o0=>(lo fun o1=>(lo fun o2=>(lo fun o3=>(lo fun o4=>let b:=xL (v3.length+1) (v3++[((x0.drop (tn v4)).take ((tn v5) - (tn v4)))]).length;(sl Xy 49 [] ⟨[2],[],XY,XX⟩ ⟨[(3,.len a.length)],[.rowed 1 a.length (Zz a)],[]⟩ (CA 6 []) (pp b (pp b (pp (xS (v3.length+1) (Zo (Zz v3) 0 v3.length 1 [(.str ((x0.drop (tn v4)).take ((tn v5) - (tn v4))))]) (Zz (v3++[((x0.drop (tn v4)).take ((tn v5) - (tn v4)))]))) (pp (pp (xF (Zo (Zz v3) 0 v3.length 1 [(.str ((x0.drop (tn v4)).take ((tn v5) - (tn v4))))])) nn) (ww o4 (pp (pp (xw o3) (pp (xw o2) (pp (xG (decide ((tn v5)<=x0.length))) (xG (decide ((tn v4)<=(tn v5))))))) (tt k1 (tt k0 nn))))))))))))))) (fun k1=>(lo fun bH=>let d:=ww bH (tt k1 (tt k0 nn));(lb (fun k2=>(lo fun o0=>(lo fun o1=>(lo fun o2=>(lo fun o3=>(lo fun o4=>let c:=xL (v3.length+1) (v3++[((x0.drop (tn v4)).take ((tn v5) - (tn v4)))]).length;(sl Xy 49 [] ⟨[2],[],XY,XX⟩ ⟨[(3,.len a.length)],[.rowed 1 a.length (Zz a)],[]⟩ (bl 6 33) (pp c (pp c (pp (xS (v3.length+1) (Zo (Zz v3) 0 v3.length 1 [(.str ((x0.drop (tn v4)).take ((tn v5) - (tn v4))))]) (Zz (v3++[((x0.drop (tn v4)).take ((tn v5) - (tn v4)))]))) (pp (pp (xF (Zo (Zz v3) 0 v3.length 1 [(.str ((x0.drop (tn v4)).take ((tn v5) - (tn v4))))])) nn) (ww o4 (pp (pp (xw o3) (pp (xw o2) (pp (xG (decide ((tn v5)<=x0.length))) (xG (decide ((tn v4)<=(tn v5))))))) (tt k2 d)))))))))))))) (fun k2=>(sl Xy 34 [] ⟨[0],[],XY,XX⟩ b7 (bl 6 1) (pp (fl v3 nn) (tt k2 d))))))))) (fun k0=>(lr 34 3 [1,1,1,1,1,1,0] 1 9 [(2,(.dat v3.length (Zz v3)))] (sl Xy 15 [] ⟨[],[0],[some [2]],[]⟩ ⟨[(2,.frz v3.length v3.length (Zz v3) (Zz v3))],[],[]⟩ [false] (pp (xZ (DU 1 1 0 v3.length v3.length (Zz v3)) v3.length (Zz v3)) (pp (xL v3.length v3.length) (pp (xS v3.length (Zz v3) (Zz v3)) (pp (fl v3 nn) (tt k0 nn)))))))))
theorem w0r (x0:List UInt8):Wj prog (Zy prog 52) (Mb x0) (Zg prog 52 [(.str x0)] true []) (VL x0):=(lb (fun k0=>(lr 34 52 [1,0,1,0,0] 1 9 [(2,.nils)] (sl Xy 15 [] (b8 [2]) b7 [true] (tt k0 nn)))) (fun k0=>let a:=List UInt8;(sl Xy 27 [(9,1,Zz ([]:List a))] ⟨[0],[],XY,XX⟩ ⟨[(3,.grow 0 1)],[],[]⟩ [false] (pp (fl ([]:List a) nn) (tt k0 nn)))))
theorem u1d (x0:List UInt8) (n:Nat) (vs:List B1) (h:Yw (G5 x0) n (VL x0)=.ret vs):Js prog (Zy prog 52) (Zg prog 52 [(.str x0)] true []) vs:=by have:=Ze (w8u x0) n _ (w0r x0);rwa [h] at this
theorem TX {s:List UInt8} {i:Nat} (h:i<s.length):(⟨s.toArray⟩:ByteArray).get! i=s[i]:=by simp [ByteArray.get!,h]
theorem w6t {s:List UInt8} {i:Nat} (h:i<s.length) (ha:s[i].toNat <128):Df s i=((s[i].toNat :Nat):Int)/\Fd s i=1:=by
 have e:Utf8.decode ⟨s.toArray⟩ i=(s[i].toNat,1):=by unfold Utf8.decode;simp only [Bn,TX h];rw [AF ha]
 unfold Df Fd;rw [e];exact ⟨rfl,rfl⟩
theorem u8l {s:List UInt8} {i:Nat} (h:i<s.length) (ha: ¬s[i].toNat <128):128<=Df s i:=by
 have e:128<=(Utf8.decode ⟨s.toArray⟩ i).1:=by
  unfold Utf8.decode;simp only [Bn,TX h];rw [Az ha];repeat' split
  all_goals (try simp only [Utf8.runeError,Ad,An,ge_iff_le] at*)
  all_goals omega
 unfold Df;omega
theorem K2 {P:Program} {S:B3} (hS:Zv P S) {f:FuncId} {F:List B1->Option (B1×Bool)} (hf:(P.funcs[f]?).any (fun fn=>fn.body.isSome)=true)
  (hF: ∀args v,F args=some (v,true)-> ∃bs vs,Vn DJ args bs/\(∀(ρ:B5) (u:Value),Zr ρ (Jn vs) u->Zr ρ v u)/\Js P (Zy P f) (Zg P f bs true []) vs/\ ∃d,pf d (Jn vs)=true):Zv P (S.with f F):=
 x0p hS hf fun args v h=>by obtain ⟨bs,vs,h1,h2,h3,d,h4⟩:=hF args v h;exact ⟨vs,h2,Y5 h1 h3,d,h4⟩
theorem Lc {s:List UInt8} {i:Nat} (h:i<s.length):CW s i=((s[i].toNat :Nat):Int):=by unfold CW;rw [Bb,Ar h];rfl
theorem v2i (c:UInt8):c.toNat<256:=UInt8.toNat_lt c
theorem u8d (c:UInt8): ∀s:List UInt8,Lib.indexByte s c+1<=(s.length:Int)
 | []=>by show (-1:Int)+1<=((0:Nat):Int);omega
 | b::l=>by
  have ih:=u8d c l;unfold Lib.indexByte;rw [Au];split
  .omega
  .split <;> omega
theorem x5l (x:List UInt8) (k:Nat):(x.drop k).take (x.length - k)=x.drop k:=A8 (by rw [Bj];omega)
def Xi (s sep:List UInt8):List UInt8:=bif decide (0<=C6 s sep) then s.take (C6 s sep).toNat else s
def Wo (s sep:List UInt8):List UInt8:=bif decide (0<=C6 s sep) then s.drop ((C6 s sep).toNat +1) else []
def Jd (s sep:List UInt8):Bool:=decide (0<=C6 s sep)
def Kh (s sep:List UInt8):Bool:=Nat.beq sep.length 1&&decide (s.length<=1000000)
theorem j2v (s sep:List UInt8) (h:Kh s sep=true): ∃N,Yw (w1w s sep) N (Ra s sep)=.ret [.str (Xi s sep),.str (Wo s sep),.bool (Jd s sep)]:=⟨0,by
 unfold Kh at h;rw [Ad,An] at h;have hl:=Ai h.1;have hi:C6 s sep+1<=(s.length:Int):=u8d _ _;show Ra s sep=_;unfold Ra Xi Wo Jd;rw [Zp (show Yl s sep=true from h.1),hl];by_cases g:0<=C6 s sep
 .have w:wrap .i64 (C6 s sep+((1:Nat):Int))=C6 s sep+1:=Zm (by omega);have e0:decide (0<=C6 s sep)=true:=Aa g;have e1:decide (C6 s sep>=0)=true:=Aa g;rw [e0,w];simp only [Af];rw [Zp (Aa (show (C6 s sep).toNat <=s.length by omega)),
   Zp (Aa (show (C6 s sep+1).toNat <=s.length by omega)),Zp (Aa (show 0<=C6 s sep+1 by omega)),AQ,x5l,
   show (C6 s sep+1).toNat =(C6 s sep).toNat +1 by omega]
 .have e0:decide (0<=C6 s sep)=false:=Ah g;have e1:decide (C6 s sep>=0)=false:=Ah g;rw [e0];rfl⟩
def OV :List B1->Option (B1×Bool)
 | [.str s,.str sep]=>some (.tup [.str (Xi s sep),.str (Wo s sep),.bool (Jd s sep)],Kh s sep)
 | _=>none
theorem j4r {S:B3} (hS:Zv prog S):Zv prog (S.with TP OV):=CP hS (by kernel_rfl) fun args v h=>by
 unfold OV at h;split at h
 .rename_i s sep;simp only [Ae,Ac] at h;obtain ⟨rfl,ho⟩:=h;obtain ⟨N,hN⟩:=j2v s sep ho;exact ⟨_,_,.cons (.refl _) (.cons (.refl _) .nil),rfl,u3f s sep N _ hN,3,rfl⟩
 .cases h
def EE (s f:List UInt8):Bool:=decide (f.length<=s.length)&&(s.drop (s.length - f.length) == f)
def Zu (s f:List UInt8):List UInt8:=bif EE s f then s.take (s.length - f.length) else s
def Ks (s f:List UInt8):Bool:=decide (s.length<=1000000)&&decide (f.length<=1000000)
theorem j5s (s f:List UInt8) (h:Ks s f=true): ∃N,Yw (w3k s f) N (RU s f)=.ret [.str (Zu s f),.bool (EE s f)]:=⟨0,by
 unfold Ks at h;rw [Ad,An,An] at h;show RU s f=_;unfold RU Zu EE;by_cases g:f.length<=s.length
 .have w:wrap .i64 ((s.length:Int) - (f.length:Int))=((s.length - f.length:Nat):Int):=by rw [Zm (by omega)];omega
  rw [Aa g,Aa (show (s.length:Int)>=(f.length:Int) by omega),Af,w,Zj,Aq,x5l,Zp (Aa (show s.length - f.length<=s.length by omega)),Zp (Aa (show (0:Int)<=((s.length - f.length:Nat):Int) by omega)),AQ];cases s.drop (s.length - f.length) == f <;> rfl
 .rw [Ah g,Ah (show ¬(s.length:Int)>=(f.length:Int) by omega)];rfl⟩
def O9 :List B1->Option (B1×Bool)
 | [.str s,.str f]=>some (.tup [.str (Zu s f),.bool (EE s f)],Ks s f)
 | _=>none
theorem j5f {S:B3} (hS:Zv prog S):Zv prog (S.with Ti O9):=CP hS (by kernel_rfl) fun args v h=>by
 unfold O9 at h;split at h
 .rename_i s f;simp only [Ae,Ac] at h;obtain ⟨rfl,ho⟩:=h;obtain ⟨N,hN⟩:=j5s s f ho;exact ⟨_,_,.cons (.refl _) (.cons (.refl _) .nil),rfl,u4p s f N _ hN,3,rfl⟩
 .cases h
def GK (n:Nat):Bool:=decide (97<=n)&&decide (n<=122)
def digN (n:Nat):Bool:=decide (48<=n)&&decide (n<=57)
def HK (i n:Nat):Bool:=GK n||(decide (i≠0)&&(decide (n=45)||digN n))
def F9 :Nat->List UInt8->Bool
 | _,[]=>true
 | i,c::r=>HK i c.toNat&&F9 (i+1) r
def Cb (s:List UInt8):Bool:=decide (1<=s.length)&&(decide (s.length<=40)&&F9 0 s)
def Uk (s:List UInt8):Bool:=decide (s.length<=1000000)
theorem u2q {s:List UInt8} {i:Nat} (hi:i<s.length):LM s (.h0 i)=bif HK i s[i].toNat then .to (.h0 (i+1)) else .ret [.bool false]:=by
 unfold LM HK GK digN;simp only [];rw [Xe hi,Af];have hz:(((i:Nat):Int) == 0)=decide (i=0):=by rw [AR];simp
 rw [hz];by_cases ha:s[i].toNat <128
 .obtain ⟨e1,e2⟩:=w6t hi ha;rw [e1,e2];generalize s[i].toNat =c;by_cases h1:97<=c
  .rw [EB (by omega),Aa h1];by_cases h2:c<=122
   .rw [Wb (by omega),Aa h2];rfl
   .rw [Fj (by omega),Ah h2,Qv (by omega),Xz (by omega),Xv (by omega),Ah (show ¬c=45 by omega),Ah (show ¬c<=57 by omega),A4,A4,Bool.or_false,A4];cases decide (i=0) <;> rfl
  .rw [FY (by omega),Ah h1,Ba,Bg];by_cases h0:i=0
   .rw [Aa h0,Ah (show ¬i≠0 from fun h=>h h0)];rfl
   .rw [Ah h0,Aa (show i≠0 from h0)];by_cases h3:c=45
    .rw [Ut (by omega),Aa h3];rfl
    .rw [Qv (by omega),Ah h3,Aq,Bg];by_cases h4:48<=c
     .rw [Xz (by omega),Aa h4];by_cases h5:c<=57
      .rw [Wz (by omega),Aa h5];rfl
      .rw [Xv (by omega),Ah h5];rfl
     .rw [Yb (by omega),Ah h4];rfl
 .have hb:=u8l hi ha;generalize s[i].toNat =c at ha ⊢;rw [EB (by omega),Fj (by omega),Qv (by omega),Xz (by omega),Xv (by omega),Aa (show 97<=c by omega),Ah (show ¬c<=122 by omega),Ah (show ¬c=45 by omega),Ah (show ¬c<=57 by omega),A4,A4,Bool.or_false,A4];cases decide (i=0) <;> rfl
theorem u7j {s:List UInt8}: ∀(k i:Nat),i+k=s.length-> ∃N,Yw (LM s) N (.to (.h0 i))=.ret [.bool (F9 i (s.drop i))]
 | 0,i,h=>⟨1,by
  rw [Zw,Aw (by omega)];unfold LM;simp only [];rw [Ah (show ¬i<s.length by omega)];rfl⟩
 | k+1,i,h=>by
  have hi:i<s.length:=by omega
  obtain ⟨N,hN⟩:=u7j (s:=s) k (i+1) (by omega);refine ⟨N+1,?_⟩;rw [Zw,u2q hi,AW hi,F9];cases HK i s[i].toNat with
  | true=>rw [Af,hN,Aq]
  | false=>rw [Ab,Zh];rfl
theorem j2b (s:List UInt8) (h:Uk s=true): ∃N,Yw (LM s) N (VH s)=.ret [.bool (Cb s)]:=by
 unfold VH Cb;by_cases h1:1<=s.length
 .rw [Aa h1,show ((s.length:Int) == 0)=false from Pe (by omega),Ab,Aq];by_cases h2:s.length<=40
  .rw [Aa h2,Wz (by omega),Ab,Aq];exact u7j s.length 0 (by omega)
  .rw [Ah h2,Xv (by omega),Af];exact ⟨0,rfl⟩
 .rw [Ah h1,show ((s.length:Int) == 0)=true from Ld (by omega),Af];exact ⟨0,rfl⟩
theorem u0r {s:List UInt8} {i:Nat} (hi:i<s.length) (hs:s.length<=1000000):LP s (.h0 (i:Int))=bif HK i s[i].toNat then .to (.h0 ((i+1:Nat):Int)) else .ret [.bool false]:=by
 unfold LP HK GK digN;have w2:wrap .i64 ((i:Int)+1)=((i+1:Nat):Int):=Zm (by omega);simp only [Zj,w2,Lc hi];rw [Yb (by omega),Af,Zp (Ym (by omega))];have hz:(((i:Nat):Int) == 0)=decide (i=0):=by rw [AR];simp
 rw [hz];generalize s[i].toNat =c;by_cases h1:97<=c
 .rw [EB (by omega),Aa h1];by_cases h2:c<=122
  .rw [Wb (by omega),Aa h2];rfl
  .rw [Fj (by omega),Ah h2,Qv (by omega),EB (by omega),Fj (by omega),Ah (show ¬c=45 by omega),Ah (show ¬c<=57 by omega),A4,A4,Bool.or_false,A4];cases decide (i=0) <;> rfl
 .rw [FY (by omega),Ab,Ah h1,Ba,Bg];by_cases h0:i=0
  .rw [Aa h0,Ah (show ¬i≠0 from fun h=>h h0)];rfl
  .rw [Ah h0,Aa (show i≠0 from h0)];by_cases h3:c=45
   .rw [Ut (by omega),Aa h3];rfl
   .rw [Qv (by omega),Ah h3,Aq,Bg];by_cases h4:48<=c
    .rw [EB (by omega),Aa h4];by_cases h5:c<=57
     .rw [Wb (by omega),Aa h5];rfl
     .rw [Fj (by omega),Ah h5];rfl
    .rw [FY (by omega),Ah h4];rfl
theorem u6k {s:List UInt8} (hs:s.length<=1000000): ∀(k i:Nat),i+k=s.length-> ∃N,Yw (LP s) N (.to (.h0 (i:Int)))=.ret [.bool (F9 i (s.drop i)&&(decide (1<=s.length)&&decide (s.length<=40)))]
 | 0,i,h=>⟨1,by
  rw [Zw,Aw (by omega)];unfold LP;simp only [];rw [Xz (by omega),Ab];by_cases h1:1<=s.length
  .rw [EB (by omega),Aa h1,Af,show decide ((s.length:Int)<=40)=decide (s.length<=40) by rw [AR,An,An];omega];exact Zh _ _ _
  .rw [FY (by omega),Ah h1];rfl⟩
 | k+1,i,h=>by
  have hi:i<s.length:=by omega
  obtain ⟨N,hN⟩:=u6k hs k (i+1) (by omega);refine ⟨N+1,?_⟩;rw [Zw,u0r hi hs,AW hi,F9];cases HK i s[i].toNat with
  | true=>rw [Af,hN,Aq]
  | false=>rw [Ab,Zh];rfl
theorem j0o (s:List UInt8) (h:Uk s=true): ∃N,Yw (LP s) N (x2x s)=.ret [.bool (Cb s)]:=by
 obtain ⟨N,hN⟩:=u6k (s:=s) (Av h) s.length 0 (by omega);refine ⟨N,?_⟩;have e:Cb s=(F9 0 (s.drop 0)&&(decide (1<=s.length)&&decide (s.length<=40))):=by unfold Cb;rw [AQ];cases F9 0 s <;> cases decide (1<=s.length) <;> cases decide (s.length<=40) <;> rfl
 rw [e];exact hN
def FO :List B1->Option (B1×Bool)
 | [.str s]=>some (.bool (Cb s),Uk s)
 | _=>none
theorem j4n {S:B3} (hS:Zv prog S):Zv prog (S.with TH FO):=CP hS (by kernel_rfl) fun args v h=>by
 unfold FO at h;split at h
 .rename_i s;simp only [Ae,Ac] at h;obtain ⟨rfl,ho⟩:=h;obtain ⟨N,hN⟩:=j2b s ho;exact ⟨_,_,.cons (.refl _) .nil,rfl,u2r s N _ hN,3,rfl⟩
 .cases h
theorem j4c {S:B3} (hS:Zv prog S):Zv prog (S.with S8 FO):=CP hS (by kernel_rfl) fun args v h=>by
 unfold FO at h;split at h
 .rename_i s;simp only [Ae,Ac] at h;obtain ⟨rfl,ho⟩:=h;obtain ⟨N,hN⟩:=j0o s ho;exact ⟨_,_,.cons (.refl _) .nil,rfl,u0s s N _ hN,3,rfl⟩
 .cases h
def Kd (s:List UInt8):List (List UInt8):=bif s == [] then [] else Wy 47 [] s
def UE (s:List UInt8):Bool:=decide (s.length<=1000000)
def Hg (s:List UInt8):List B1:=bif s == [] then [.nils] else [.dat (Wy 47 [] s).length (Zz (Wy 47 [] s))]
theorem v4m {s:List UInt8} (hs:s.length<=1000000): ∀(k i fr:Nat) (out:List (List UInt8)),i+k=s.length->fr<=i->out.length<=i->
  ∃N,Yw (G5 s) N (.to (.h0 out (fr:Int) (i:Int)))=.ret [.dat (out++Wy 47 ((s.drop fr).take (i - fr)) (s.drop i)).length (Zz (out++Wy 47 ((s.drop fr).take (i - fr)) (s.drop i)))]
 | 0,i,fr,out,h,hfi,ho=>by
  refine ⟨2,?_⟩;have w2:wrap .i64 ((i:Int)+1)=((i+1:Nat):Int):=Zm (by omega);have e:G5 s (.h0 out (fr:Int) (i:Int))=.to (.h0 (out++[(s.drop fr).take (i - fr)]) ((i+1:Nat):Int) ((i+1:Nat):Int)):=by unfold G5;simp only [Zj,w2];rw [Zp (Wb (by omega)),Zp (Ld (by omega)),Zp (Xn hfi),Zp (Xn (by omega)),Zp (Wb (by omega)),Zp (Wb (by omega)),Zp (P9 (by omega))]
  have e2: ∀o,G5 s (.h0 o ((i+1:Nat):Int) ((i+1:Nat):Int))=.ret [.dat o.length (Zz o)]:=fun o=>by unfold G5;simp only [];rw [Fj (by omega),Ab]
  rw [Zw,e,Zw,e2,Aw (show s.length<=i by omega)];rfl
 | k+1,i,fr,out,h,hfi,ho=>by
  have hi:i<s.length:=by omega
  have hc:=v2i s[i];have w2:wrap .i64 ((i:Int)+1)=((i+1:Nat):Int):=Zm (by omega);have hbb:((((s[i].toNat :Nat):Int)) == 47)=(s[i] == 47):=by
   rw [AR,AU,AU];constructor
   .intro h;apply UInt8.toNat_inj.1;show s[i].toNat =47;omega
   .intro h;rw [h];rfl
  have e:G5 s (.h0 out (fr:Int) (i:Int))=bif s[i] == 47 then .to (.h0 (out++[(s.drop fr).take (i - fr)]) ((i+1:Nat):Int) ((i+1:Nat):Int)) else .to (.h0 out (fr:Int) ((i+1:Nat):Int)):=by unfold G5;simp only [Zj,w2,Lc hi,hbb];rw [Zp (Wb (by omega)),Pe (by omega),Ab,Zp (Ym (by omega))];rw [Zp (Xn hfi),Zp (Xn (by omega)),Zp (Wb (by omega)),Zp (Wb (by omega)),Zp (P9 (by omega))]
  rw [AW hi,Wy];cases g:s[i] == 47 with
  | true=>obtain ⟨N,hN⟩:=v4m hs k (i+1) (i+1) (out++[(s.drop fr).take (i - fr)]) (by omega) (Ak _) (by rw [As,AJ];omega);refine ⟨N+1,?_⟩;rw [Zw,e,g,Af,Af,hN,Nat.sub_self,List.take_zero,AH];rfl
  | false=>
   obtain ⟨N,hN⟩:=v4m hs k (i+1) fr out (by omega) (by omega) (by omega);refine ⟨N+1,?_⟩;have ht:(s.drop fr).take (i+1 - fr)=(s.drop fr).take (i - fr)++[s[i]]:=by
    rw [show i+1 - fr=(i - fr)+1 by omega,Bw]
    congr 1
    rw [List.getElem?_drop,show fr+(i - fr)=i by omega,Ar hi];rfl
   rw [Zw,e,g,Ab,Ab,hN,ht]
theorem j1g (s:List UInt8) (h:UE s=true): ∃N,Yw (G5 s) N (VL s)=.ret (Hg s):=by
 unfold VL Hg;cases g:s == [] with
 | true=>exact ⟨0,rfl⟩
 | false=>obtain ⟨N,hN⟩:=v4m (s:=s) (Av h) s.length 0 0 [] (Al _) (Ak _) (Ak _);exact ⟨N,hN⟩
def OM :List B1->Option (B1×Bool)
 | [.str s]=>some (.dat (Kd s).length (Zz (Kd s)),UE s)
 | _=>none
theorem j4g {S:B3} (hS:Zv prog S):Zv prog (S.with Sd OM):=K2 hS (by kernel_rfl) fun args v h=>by
 unfold OM at h;split at h
 .rename_i s;simp only [Ae,Ac] at h;obtain ⟨rfl,ho⟩:=h;obtain ⟨N,hN⟩:=j1g s ho;refine ⟨_,_,.cons (.refl _) .nil,?_,u1d s N _ hN,3,?_⟩
  .unfold Hg Kd;cases s == [] with
   | true=>exact fun ρ u hu=>by cases hu;exact .datn _
   | false=>exact fun ρ u hu=>hu
  .unfold Hg;cases s == [] <;> rfl
 .cases h
def Ty :B3:=((((Tz.with TP OV).with Ti O9).with TH FO).with S8 FO).with Sd OM
theorem Wx :Zv prog Ty:=j4g (j4c (j4n (j5f (j4r Xy))))
inductive FK where
 | h0 (v9:Int) (dB:Nat)
def NY (x0:List UInt8):FK->CE
 | .h0 v9 dB=>⟨⟨82,0,true⟩,none,(Zf prog 84 [1,1,1,1,1,1,0,1,0,0] 0),none,(Zy prog 84),⟨Ye [(2,(.ptr 0 0)),(4,(.str (Xi x0 ([91]:List UInt8)))),(9,(ii v9)),(62,(.ptr 1 0))],Xt [⟨[(.str []),(ii 0)],144,none⟩,⟨[(.obj (.it (Zu (Wo x0 ([91]:List UInt8)) ([93]:List UInt8)) dB))],9,none⟩] 0,2,[],true⟩,[],.leaf⟩
def j2n :List (Option (List Nat)):=[some [2,4,9,62]]
def j2o :List (Option (List Nat)):=[]
def LL (x0:List UInt8):FK->Xu FK
 | .h0 v9 dB=>(bif (decide (dB<(Zu (Wo x0 ([91]:List UInt8)) ([93]:List UInt8)).length)) then (bif (decide ((Df (Zu (Wo x0 ([91]:List UInt8)) ([93]:List UInt8)) dB)<48)) then (.ret [(.agg [(.str []),(.int .i64 0)]),(.bool false)]) else (bif (decide ((Df (Zu (Wo x0 ([91]:List UInt8)) ([93]:List UInt8)) dB)>57)) then (.ret [(.agg [(.str []),(.int .i64 0)]),(.bool false)]) else (.to (.h0 (wrap .i64 ((wrap .i64 (10*v9))+(wrap .i64 (wrap IntKind.i32 ((Df (Zu (Wo x0 ([91]:List UInt8)) ([93]:List UInt8)) dB) - 48))))) (dB+Fd (Zu (Wo x0 ([91]:List UInt8)) ([93]:List UInt8)) dB))))) else (.ret [(.agg [(.str (Xi x0 ([91]:List UInt8))),(.int .i64 v9)]),(.bool true)]))
def VG (x0:List UInt8):Xu FK:=(bif (Kh x0 ([91]:List UInt8)) then (bif (Uk (Xi x0 ([91]:List UInt8))) then (bif (!(Cb (Xi x0 ([91]:List UInt8)))) then (bif (!(Jd x0 ([91]:List UInt8))) then (.ret [(.agg [(.str (Xi x0 ([91]:List UInt8))),(.int .i64 (-1))]),(.bool (Cb (Xi x0 ([91]:List UInt8))))]) else (.ret [(.agg [(.str (Xi x0 ([91]:List UInt8))),(.int .i64 (-1))]),(.bool false)])) else (bif (!(Jd x0 ([91]:List UInt8))) then (.ret [(.agg [(.str (Xi x0 ([91]:List UInt8))),(.int .i64 (-1))]),(.bool (Cb (Xi x0 ([91]:List UInt8))))]) else (bif (Ks (Wo x0 ([91]:List UInt8)) ([93]:List UInt8)) then (bif (!(EE (Wo x0 ([91]:List UInt8)) ([93]:List UInt8))) then (.ret [(.agg [(.str []),(.int .i64 0)]),(.bool false)]) else (bif ((((Zu (Wo x0 ([91]:List UInt8)) ([93]:List UInt8)).length :Nat):Int) == 0) then (.ret [(.agg [(.str []),(.int .i64 0)]),(.bool false)]) else (bif (decide ((((Zu (Wo x0 ([91]:List UInt8)) ([93]:List UInt8)).length :Nat):Int)>4)) then (.ret [(.agg [(.str []),(.int .i64 0)]),(.bool false)]) else (bif (decide ((0:Int)<=0/\0<(((Zu (Wo x0 ([91]:List UInt8)) ([93]:List UInt8)).length :Nat):Int))) then (bif ((CW (Zu (Wo x0 ([91]:List UInt8)) ([93]:List UInt8)) 0) == 48) then (bif (decide ((((Zu (Wo x0 ([91]:List UInt8)) ([93]:List UInt8)).length :Nat):Int)>1)) then (.ret [(.agg [(.str []),(.int .i64 0)]),(.bool false)]) else (.to (.h0 0 0))) else (.to (.h0 0 0))) else .stuck)))) else .stuck))) else .stuck) else .stuck)
theorem w9m (x0:List UInt8): ∀s,Wj prog (Zy prog 84) (NY x0) (NY x0 s) (LL x0 s)
 | .h0 v9 dB=>let b:=Zy prog 84;(lb (fun k0=>let a:=Zf prog 84 [1,1,1,1,1,1,0,1,0,0,1,1,0,1,0,1,0,0] 1;(lb (fun k1=>(Yt ⟨⟨82,0,true⟩,none,a,none,b,⟨Ye [(2,(.ptr 0 0)),(3,(.bool false))],Xt [⟨[(.str []),(ii 0)],144,none⟩] 0,1,[],true⟩,[],.leaf⟩ (sl Wx 31 [] ⟨[0],[],[some [2,3]],[]⟩ b7 (CA 5 []) (tt k1 (tt k0 nn))) rfl (by kernel_rfl))) (fun k1=>let c:=tt k1 (tt k0 nn);(lb (fun k2=>(Yt ⟨⟨82,0,true⟩,none,a,none,b,⟨Ye [(2,(.ptr 0 0)),(3,(.bool false))],Xt [⟨[(.str []),(ii 0)],144,none⟩] 0,1,[],true⟩,[],.leaf⟩ (sl Wx 31 [] ⟨[0],[],[some [2,3]],[]⟩ b7 (bl 5 19) (tt k2 c)) rfl (by kernel_rfl))) (fun k2=>(sl Wx 37 [] ⟨[0,1],[],j2n,j2o⟩ b7 (bl 5 3) (tt k2 c))))))) (fun k0=>(Yt ⟨⟨82,0,true⟩,none,(Zf prog 3 [1,1,1,1,1,1,0] 1),none,b,⟨Ye [(2,(.ptr 0 0)),(3,(.bool true))],Xt [⟨[(.str (Xi x0 ([91]:List UInt8))),(ii v9)],144,none⟩] 0,1,[],true⟩,[],.leaf⟩ (sl Wx 16 [] ⟨[0],[],[some [2,3]],[]⟩ b7 (bl 2 0) (tt k0 nn)) rfl (by kernel_rfl))))
theorem w1r (x0:List UInt8):Wj prog (Zy prog 84) (NY x0) (Zg prog 84 [(.str x0)] true []) (VG x0):=(lo fun cM=>(lo fun dI=>let b:=Xi x0 ([91]:List UInt8);let e:=Zy prog 84;let f:=Zf prog 84 [1,1,0,1,0,0] 1;let g:=ww dI (ww cM nn);(lb (fun k0=>(lb (fun k1=>(Yt ⟨⟨82,0,true⟩,none,f,none,e,⟨Ye [(2,(.ptr 0 0)),(3,(.bool (Cb b)))],Xt [⟨[(.str b),(ii (-1))],144,none⟩] 0,1,[],true⟩,[],.leaf⟩ (sl Wx 42 [] ⟨[0],[],[some [2,3]],[]⟩ b7 (CA 5 []) (ww dI (tt k1 (tt k0 g)))) rfl (by kernel_rfl))) (fun k1=>(Yt ⟨⟨82,0,true⟩,none,f,none,e,⟨Ye [(2,(.ptr 0 0)),(3,(.bool false))],Xt [⟨[(.str b),(ii (-1))],144,none⟩] 0,1,[],true⟩,[],.leaf⟩ (sl Wx 42 [] ⟨[0],[],[some [2,3]],[]⟩ b7 (CA 3 (bl 2 0)) (tt k1 (tt k0 g))) rfl (by kernel_rfl))))) (fun k0=>(lb (fun k1=>(Yt ⟨⟨82,0,true⟩,none,f,none,e,⟨Ye [(2,(.ptr 0 0)),(3,(.bool (Cb b)))],Xt [⟨[(.str b),(ii (-1))],144,none⟩] 0,1,[],true⟩,[],.leaf⟩ (sl Wx 42 [] ⟨[0],[],[some [2,3]],[]⟩ b7 (bl 5 28) (ww dI (tt k1 (tt k1 (tt k0 g))))) rfl (by kernel_rfl))) (fun k1=>(lo fun bH=>let a:=ww bH (tt k1 (tt k0 g));let c:=Zf prog 84 [1,1,1,1,0,1,0,0] 1;(lb (fun k2=>(Yt ⟨⟨82,0,true⟩,none,c,none,e,⟨Ye [(2,(.ptr 0 0)),(3,(.bool false))],Xt [⟨[(.str []),(ii 0)],144,none⟩] 0,1,[],true⟩,[],.leaf⟩ (sl Wx 73 [] ⟨[0],[],[some [2,3]],[]⟩ b7 (bl 15 32760) (tt k2 a)) rfl (by kernel_rfl))) (fun k2=>(lb (fun k3=>(Yt ⟨⟨82,0,true⟩,none,c,none,e,⟨Ye [(2,(.ptr 0 0)),(3,(.bool false))],Xt [⟨[(.str []),(ii 0)],144,none⟩] 0,1,[],true⟩,[],.leaf⟩ (sl Wx 73 [] ⟨[0],[],[some [2,3]],[]⟩ b7 (bl 15 32704) (tt k3 (tt k2 a))) rfl (by kernel_rfl))) (fun k3=>let h:=tt k3 (tt k2 a);(lb (fun k4=>(Yt ⟨⟨82,0,true⟩,none,c,none,e,⟨Ye [(2,(.ptr 0 0)),(3,(.bool false))],Xt [⟨[(.str []),(ii 0)],144,none⟩] 0,1,[],true⟩,[],.leaf⟩ (sl Wx 73 [] ⟨[0],[],[some [2,3]],[]⟩ b7 (bl 15 32256) (tt k4 h)) rfl (by kernel_rfl))) (fun k4=>(lo fun cW=>let d:=ww cW (tt k4 h);(lb (fun k5=>(lb (fun k6=>(Yt ⟨⟨82,0,true⟩,none,c,none,e,⟨Ye [(2,(.ptr 0 0)),(3,(.bool false))],Xt [⟨[(.str []),(ii 0)],144,none⟩] 0,1,[],true⟩,[],.leaf⟩ (sl Wx 73 [] ⟨[0],[],[some [2,3]],[]⟩ b7 (bl 18 188416) (tt k6 (tt k5 d))) rfl (by kernel_rfl))) (fun k6=>(sl Wx 80 [] ⟨[0,1],[],j2n,j2o⟩ b7 (bl 18 57344) (tt k6 (tt k5 d)))))) (fun k5=>(sl Wx 80 [] ⟨[0,1],[],j2n,j2o⟩ b7 (bl 18 0) (tt k5 d))))))))))))))))))
theorem u2y (x0:List UInt8) (n:Nat) (vs:List B1) (h:Yw (LL x0) n (VG x0)=.ret vs):Js prog (Zy prog 84) (Zg prog 84 [(.str x0)] true []) vs:=by have:=Ze (w9m x0) n _ (w1r x0);rwa [h] at this
inductive GC where
 | h0 (v5:Int)
 | h1 (v5:Int) (v6:List UInt8) (v7:Int) (v8:Int)
def MX (x0:List UInt8):GC->CE
 | .h0 v5=>⟨⟨84,0,true⟩,none,(Zf prog 87 [1,1,0,0,0] 0),none,(Zy prog 62),⟨Ye [(0,(.str x0)),(5,(ii v5))],Xt [] 0,0,[],true⟩,[],.leaf⟩
 | .h1 v5 v6 v7 v8=>⟨⟨84,0,true⟩,none,(Zf prog 87 [1,1,1,1,1,1,1,1,0,1,0,0] 0),none,(Zy prog 62),⟨Ye [(0,(.str x0)),(5,(ii v5)),(6,(.str v6)),(7,(ii v7)),(8,(ii v8))],Xt [] 0,0,[],true⟩,[],.leaf⟩
def JO :List (Option (List Nat)):=[some [0,5]]
def JP :List (Option (List Nat)):=[]
def j0f :List (Option (List Nat)):=[some [0,5,6,7,8]]
def j0g :List (Option (List Nat)):=[]
def Ky (x0:List UInt8):GC->Xu GC
 | .h0 v5=>(bif (decide (v5<(x0.length:Int))) then (bif (decide (0<=v5/\v5<(x0.length:Int))) then (bif ((CW x0 v5.toNat) != 91) then (.to (.h0 (wrap .i64 (v5+1)))) else (bif (decide (v5.toNat<=x0.length)) then (bif (decide (0<=v5)) then (bif (Uk ((x0.drop 0).take v5.toNat)) then (bif (!(Cb ((x0.drop 0).take v5.toNat))) then (.ret [(.str []),(.int .i64 0),(.bool false)]) else (bif (v5 == (x0.length:Int)) then (.ret [(.str x0),(.int .i64 (-1)),(.bool true)]) else (bif (decide (0<=(wrap .i64 ((x0.length:Int) - 1))/\(wrap .i64 ((x0.length:Int) - 1))<(x0.length:Int))) then (bif ((CW x0 (Int.toNat (wrap .i64 ((x0.length:Int) - 1)))) != 93) then (.ret [(.str []),(.int .i64 0),(.bool false)]) else (bif (decide ((Int.toNat (wrap .i64 (v5+1)))<=(Int.toNat (wrap .i64 ((x0.length:Int) - 1))))) then (bif (decide ((Int.toNat (wrap .i64 ((x0.length:Int) - 1)))<=x0.length)) then (bif (decide (0<=(wrap .i64 (v5+1)))) then (bif (decide (0<=(wrap .i64 ((x0.length:Int) - 1)))) then (.to (.h1 v5 ((x0.drop (Int.toNat (wrap .i64 (v5+1)))).take ((Int.toNat (wrap .i64 ((x0.length:Int) - 1))) - (Int.toNat (wrap .i64 (v5+1))))) 0 0)) else .stuck) else .stuck) else .stuck) else .stuck)) else .stuck))) else .stuck) else .stuck) else .stuck)) else .stuck) else (bif (decide (v5.toNat<=x0.length)) then (bif (decide (0<=v5)) then (bif (Uk ((x0.drop 0).take v5.toNat)) then (bif (!(Cb ((x0.drop 0).take v5.toNat))) then (.ret [(.str []),(.int .i64 0),(.bool false)]) else (bif (v5 == (x0.length:Int)) then (.ret [(.str x0),(.int .i64 (-1)),(.bool true)]) else (bif (decide (0<=(wrap .i64 ((x0.length:Int) - 1))/\(wrap .i64 ((x0.length:Int) - 1))<(x0.length:Int))) then (bif ((CW x0 (Int.toNat (wrap .i64 ((x0.length:Int) - 1)))) != 93) then (.ret [(.str []),(.int .i64 0),(.bool false)]) else (bif (decide ((Int.toNat (wrap .i64 (v5+1)))<=(Int.toNat (wrap .i64 ((x0.length:Int) - 1))))) then (bif (decide ((Int.toNat (wrap .i64 ((x0.length:Int) - 1)))<=x0.length)) then (bif (decide (0<=(wrap .i64 (v5+1)))) then (bif (decide (0<=(wrap .i64 ((x0.length:Int) - 1)))) then (.to (.h1 v5 ((x0.drop (Int.toNat (wrap .i64 (v5+1)))).take ((Int.toNat (wrap .i64 ((x0.length:Int) - 1))) - (Int.toNat (wrap .i64 (v5+1))))) 0 0)) else .stuck) else .stuck) else .stuck) else .stuck)) else .stuck))) else .stuck) else .stuck) else .stuck))
 | .h1 v5 v6 v7 v8=>(bif (decide (v8<(v6.length:Int))) then (bif (decide (0<=v8/\v8<(v6.length:Int))) then (bif (decide ((CW v6 v8.toNat)>=48)) then (bif (!(decide ((CW v6 v8.toNat)<=57))) then (.ret [(.str []),(.int .i64 0),(.bool false)]) else (bif (decide (v8>3)) then (.ret [(.str []),(.int .i64 0),(.bool false)]) else (.to (.h1 v5 v6 (wrap .i64 ((wrap .i64 (10*v7))+(wrap .i64 (wrap IntKind.u8 ((CW v6 v8.toNat) - 48))))) (wrap .i64 (v8+1)))))) else (.ret [(.str []),(.int .i64 0),(.bool false)])) else .stuck) else (bif ((v6.length:Int) == 0) then (.ret [(.str []),(.int .i64 0),(.bool false)]) else (bif (decide ((v6.length:Int)>1)) then (bif (decide ((0:Int)<=0/\0<(v6.length:Int))) then (bif ((CW v6 0) == 48) then (.ret [(.str []),(.int .i64 0),(.bool false)]) else (bif (decide (v5.toNat<=x0.length)) then (bif (decide (0<=v5)) then (.ret [(.str ((x0.drop 0).take v5.toNat)),(.int .i64 v7),(.bool true)]) else .stuck) else .stuck)) else .stuck) else (bif (decide (v5.toNat<=x0.length)) then (bif (decide (0<=v5)) then (.ret [(.str ((x0.drop 0).take v5.toNat)),(.int .i64 v7),(.bool true)]) else .stuck) else .stuck))))
def x2t (x0:List UInt8):Xu GC:=(.to (.h0 0))
theorem w8c (x0:List UInt8): ∀s,Wj prog (Zy prog 87) (MX x0) (MX x0 s) (Ky x0 s)
 | .h0 v5=>(lb (fun k0=>(lo fun aG=>let b:=ww aG (tt k0 nn);(lb (fun k1=>(sl Wx 24 [] ⟨[],[],JO,JP⟩ b7 (CA 5 []) (tt k1 b))) (fun k1=>(lo fun bH=>(lo fun dT=>(lo fun eD=>let a:=tt k1 b;(lb (fun k2=>(lr 84 87 [1,1,1,0,1,0,0] 1 62 [(2,(.str [])),(3,(ii 0)),(4,(.bool false))] (sl Wx 32 [] (b8 [2,3,4]) b7 (CA 4 (bl 2 2)) (tt k2 (ww eD (pp (pp (xw dT) (pp nn (pp (xG (decide ((tn v5)<=x0.length))) (xG (decide (0<=(tn v5))))))) a)))))) (fun k2=>(lb (fun k3=>(lr 84 87 [1,1,1,1,0,1,0,0] 1 62 [(2,(.str x0)),(3,(ii (-1))),(4,(.bool true))] (sl Wx 43 [] (b8 [2,3,4]) b7 (CA 4 (bl 3 4)) (tt k3 (tt k2 (ww eD (pp (pp (xw dT) (pp nn (pp (xG (decide ((tn v5)<=x0.length))) (xG (decide (0<=(tn v5))))))) a))))))) (fun k3=>(lo fun dA=>(lb (fun k4=>(lr 84 87 [1,1,1,1,1,0,1,0,0] 1 62 [(2,(.str [])),(3,(ii 0)),(4,(.bool false))] (sl Wx 54 [] (b8 [2,3,4]) b7 (CA 4 (bl 4 8)) (tt k4 (ww dA (tt k3 (tt k2 (ww eD (pp (pp (xw dT) (pp nn (pp (xG (decide ((tn v5)<=x0.length))) (xG (decide (0<=(tn v5))))))) a))))))))) (fun k4=>(lo fun o0=>(lo fun o1=>(lo fun o2=>(lo fun o3=>(sl Wx 71 [] ⟨[],[],j0f,j0g⟩ b7 (CA 4 (bl 4 0)) (pp (pp (xw o3) (pp (xw o2) (pp (xG (decide ((tn (wr ((x0.length:Int) - 1)))<=x0.length))) (xG (decide ((tn (wr (v5+1)))<=(tn (wr ((x0.length:Int) - 1))))))))) (tt k4 (ww dA (tt k3 (tt k2 (ww eD (pp (pp (xw dT) (pp nn (pp (xG (decide ((tn v5)<=x0.length))) (xG (decide (0<=(tn v5))))))) a)))))))))))))))))))))))))) (fun k0=>(lo fun aG=>(lo fun aU=>(lo fun cI=>(lb (fun k1=>(lr 84 87 [1,1,1,0,1,0,0] 1 62 [(2,(.str [])),(3,(ii 0)),(4,(.bool false))] (sl Wx 32 [] (b8 [2,3,4]) b7 (bl 6 32) (tt k1 (ww cI (pp (pp (xw aU) (pp nn (pp (xG (decide ((tn v5)<=x0.length))) (xG (decide (0<=(tn v5))))))) (tt k0 nn))))))) (fun k1=>(lb (fun k2=>(lr 84 87 [1,1,1,1,0,1,0,0] 1 62 [(2,(.str x0)),(3,(ii (-1))),(4,(.bool true))] (sl Wx 43 [] (b8 [2,3,4]) b7 (bl 7 64) (tt k2 (tt k1 (ww cI (pp (pp (xw aU) (pp nn (pp (xG (decide ((tn v5)<=x0.length))) (xG (decide (0<=(tn v5))))))) (tt k0 nn)))))))) (fun k2=>(lo fun cS=>(lb (fun k3=>(lr 84 87 [1,1,1,1,1,0,1,0,0] 1 62 [(2,(.str [])),(3,(ii 0)),(4,(.bool false))] (sl Wx 54 [] (b8 [2,3,4]) b7 (bl 8 128) (tt k3 (ww cS (tt k2 (tt k1 (ww cI (pp (pp (xw aU) (pp nn (pp (xG (decide ((tn v5)<=x0.length))) (xG (decide (0<=(tn v5))))))) (tt k0 nn)))))))))) (fun k3=>(lo fun o0=>(lo fun o1=>(lo fun o2=>(lo fun o3=>(sl Wx 71 [] ⟨[],[],j0f,j0g⟩ b7 (bl 8 0) (pp (pp (xw o3) (pp (xw o2) (pp (xG (decide ((tn (wr ((x0.length:Int) - 1)))<=x0.length))) (xG (decide ((tn (wr (v5+1)))<=(tn (wr ((x0.length:Int) - 1))))))))) (tt k3 (ww cS (tt k2 (tt k1 (ww cI (pp (pp (xw aU) (pp nn (pp (xG (decide ((tn v5)<=x0.length))) (xG (decide (0<=(tn v5))))))) (tt k0 nn)))))))))))))))))))))))))
 | .h1 v5 v6 v7 v8=>(lb (fun k0=>(lo fun aG=>let a:=ww aG (tt k0 nn);(lb (fun k1=>(lb (fun k2=>(lr 84 87 [1,1,1,1,1,1,1,1,0,1,0,0,1,0,0,0,1,0,0] 1 62 [(2,(.str [])),(3,(ii 0)),(4,(.bool false))] (sl Wx 47 [] (b8 [2,3,4]) b7 (CA 6 []) (tt k2 (tt k1 a))))) (fun k2=>let c:=tt k2 (tt k1 a);(lb (fun k3=>(lr 84 87 [1,1,1,1,1,1,1,1,0,1,0,0,1,0,0,0,1,0,0] 1 62 [(2,(.str [])),(3,(ii 0)),(4,(.bool false))] (sl Wx 47 [] (b8 [2,3,4]) b7 (CA 3 (bl 3 4)) (tt k3 c)))) (fun k3=>(sl Wx 60 [] ⟨[],[],j0f,j0g⟩ b7 (CA 3 (bl 3 0)) (ww aG (tt k3 c)))))))) (fun k1=>(lr 84 87 [1,1,1,1,1,1,1,1,0,1,0,0,1,0,0,0,1,0,0] 1 62 [(2,(.str [])),(3,(ii 0)),(4,(.bool false))] (sl Wx 47 [] (b8 [2,3,4]) b7 (bl 6 57) (tt k1 a))))))) (fun k0=>(lb (fun k1=>(lr 84 87 [1,1,1,1,1,1,1,1,1,0,1,0,0] 1 62 [(2,(.str [])),(3,(ii 0)),(4,(.bool false))] (sl Wx 34 [] (b8 [2,3,4]) b7 (bl 7 126) (tt k1 (tt k0 nn))))) (fun k1=>let b:=tt k1 (tt k0 nn);(lb (fun k2=>(lo fun cS=>let d:=ww cS (tt k2 b);(lb (fun k3=>(lr 84 87 [1,1,1,1,1,1,1,1,1,0,1,0,0] 1 62 [(2,(.str [])),(3,(ii 0)),(4,(.bool false))] (sl Wx 34 [] (b8 [2,3,4]) b7 (bl 10 736) (tt k3 d)))) (fun k3=>(lo fun o0=>(lo fun o1=>(lr 84 3 [1,1,1,1,1,1,0] 1 62 [(2,(.str ((x0.drop 0).take (tn v5)))),(3,(ii v7)),(4,(.bool true))] (sl Wx 39 [] (b8 [2,3,4]) b7 (bl 10 224) (pp (pp (xw o1) (pp nn (pp (xG (decide ((tn v5)<=x0.length))) (xG (decide (0<=(tn v5))))))) (tt k3 d)))))))))) (fun k2=>(lo fun o0=>(lo fun o1=>(lr 84 3 [1,1,1,1,1,1,0] 1 62 [(2,(.str ((x0.drop 0).take (tn v5)))),(3,(ii v7)),(4,(.bool true))] (sl Wx 39 [] (b8 [2,3,4]) b7 (bl 10 0) (pp (pp (xw o1) (pp nn (pp (xG (decide ((tn v5)<=x0.length))) (xG (decide (0<=(tn v5))))))) (tt k2 b))))))))))))
theorem x9v (x0:List UInt8):Wj prog (Zy prog 87) (MX x0) (Zg prog 87 [(.str x0)] true []) (x2t x0):=(sl Wx 13 [] ⟨[],[],JO,JP⟩ b7 [] nn)
theorem u0g (x0:List UInt8) (n:Nat) (vs:List B1) (h:Yw (Ky x0) n (x2t x0)=.ret vs):Js prog (Zy prog 87) (Zg prog 87 [(.str x0)] true []) vs:=by have:=Ze (w8c x0) n _ (x9v x0);rwa [h] at this
theorem wu8 (n:Int) (h:0<=n/\n<256):wrap .u8 n=n:=by unfold wrap;simp [IntKind.signed,IntKind.bits];omega
theorem wi32 (n:Int) (h:0<=n/\n<256):wrap .i32 n=n:=by unfold wrap;simp [IntKind.signed,IntKind.bits];omega
theorem u9g {cs cs':List B1} (h:Ch cs cs') (ρ:B5) (u:Value) (hv:Zr ρ (.tup cs) u):Zr ρ (.tup cs') u:=by
 cases hv with
 | tup _ vs hl hh=>exact .tup cs' vs (by rw [<-h.len];exact hl) fun i h1 h2=>h.sound i (by rw [h.len];exact h1) h1 (hh i (by rw [h.len];exact h1) h2)
def Fv (d:List UInt8):Bool:=d.all fun c=>digN c.toNat
def EI (d:List UInt8):Bool:=decide (1<=d.length)&&(decide (d.length<=4)&& !(decide (1<d.length)&&(CW d 0 == 48)))
def G8 (d:List UInt8):Bool:=EI d&&Fv d
def C5 (s:List UInt8):List UInt8:=Zu (Wo s [91]) [93]
def Vx (s:List UInt8):Bool:=Cb (Xi s [91])&&(bif Jd s [91] then EE (Wo s [91]) [93]&&G8 (C5 s) else true)
def Hn (n:Nat) (d:List UInt8):Nat:=d.foldl (fun n c=>10*n+(c.toNat - 48)) n
def G2 (s:List UInt8):List UInt8:=bif Cb (Xi s [91])&&Jd s [91] then (bif Vx s then Xi s [91] else []) else Xi s [91]
def G1 (s:List UInt8):Int:=bif Cb (Xi s [91])&&Jd s [91] then (bif Vx s then (Hn 0 (C5 s):Int) else 0) else -1
def WA (s:List UInt8):Bool:=decide (s.length<=1000000)
theorem v6d {s sep:List UInt8}:(Xi s sep).length <=s.length/\(Wo s sep).length <=s.length:=by
 unfold Xi Wo;cases decide (0<=C6 s sep) with
 | true=>rw [Af,Af,Bk,Bj];omega
 | false=>exact ⟨Ak _,AG _⟩
theorem v7t {s f:List UInt8}:(Zu s f).length <=s.length:=by
 unfold Zu;cases EE s f with
 | true=>rw [Af,Bk];omega
 | false=>exact Ak _
theorem u7x {s:List UInt8} (hs:(C5 s).length <=4): ∀(k i n:Nat),i+k=(C5 s).length ->n<10 ^ i->
  ∃N,Yw (LL s) N (.to (.h0 (n:Int) i))=.ret (bif Fv ((C5 s).drop i) then [.agg [.str (Xi s [91]),.int .i64 (Hn n ((C5 s).drop i):Int)],.bool true] else [.agg [.str [],.int .i64 0],.bool false])
 | 0,i,n,h,hn=>⟨1,by
  rw [Zw,Aw (by omega)];unfold LL;simp only [];rw [show decide (i<(Zu (Wo s [91]) [93]).length)=false from Ah (show ¬i<(C5 s).length by omega)];rfl⟩
 | k +1,i,n,h,hn=>by
  have hi:i<(C5 s).length :=by omega
  have hp:10 ^ i<=10 ^ 4:=Nat.pow_le_pow_right (by decide) (by omega);rw [AW hi];have e:LL s (.h0 (n:Int) i)=bif digN (C5 s)[i].toNat then .to (.h0 ((10*n+((C5 s)[i].toNat - 48):Nat):Int) (i+1)) else .ret [.agg [.str [],.int .i64 0],.bool false]:=by
   unfold LL;simp only [];rw [show decide (i<(Zu (Wo s [91]) [93]).length)=true from Aa hi,Af];show (bif decide (Df (C5 s) i<48) then _ else bif decide (Df (C5 s) i>57) then _ else Xu.to (FK.h0 (wrap .i64 (wrap .i64 (10*(n:Int))+wrap .i64 (wrap .i32 (Df (C5 s) i - 48)))) (i+Fd (C5 s) i)))=_;unfold digN;by_cases ha:(C5 s)[i].toNat <128
   .obtain ⟨e1,e2⟩:=w6t hi ha;rw [e1,e2];generalize (C5 s)[i].toNat =c at ha;by_cases h1:48<=c
    .rw [Xz (by omega),Aa h1];by_cases h2:c<=57
     .rw [Wz (by omega),Aa h2,wi32 _ (by omega),Zm (n:=10*(n:Int)) (by omega),Zm (n:=(c:Int) - 48) (by omega),Zm (by omega)];show Xu.to _=Xu.to _
      congr 2
      omega
     .rw [Xv (by omega),Ah h2];rfl
    .rw [Yb (by omega),Ah h1];rfl
   .have hb:=u8l hi ha;rw [Xz (by omega),Xv (by omega),Ah (show ¬(C5 s)[i].toNat <=57 by omega),A4];rfl
  show∃N,Yw _ N _=.ret (bif digN (C5 s)[i].toNat &&Fv ((C5 s).drop (i+1)) then _ else _);cases g:digN (C5 s)[i].toNat with
  | false=>exact ⟨1,by rw [Zw,e,g,Ab,Zh];rfl⟩
  | true=>
   have g':(48<=(C5 s)[i].toNat /\(C5 s)[i].toNat <=57):=by unfold digN at g;rwa [Ad,An,An] at g
   obtain ⟨N,hN⟩:=u7x hs k (i+1) (10*n+((C5 s)[i].toNat - 48)) (by omega) (by rw [Nat.pow_succ];omega);refine ⟨N+1,?_⟩;rw [Zw,e,g,Af,hN];rfl
theorem j2k (s:List UInt8) (h:WA s=true): ∃N,Yw (LL s) N (VG s)=.ret [.agg [.str (G2 s),.int .i64 (G1 s)],.bool (Vx s)]:=by
 have hs:s.length<=1000000:=Av h;obtain ⟨k0,k1⟩:=v6d (s:=s) (sep:=[91]);unfold VG;rw [Zp (show Kh s [91]=true by unfold Kh;rw [Aa hs];rfl),Zp (show Uk (Xi s [91])=true from Aa (by omega))];have hv: ∀{a b c},G2 s=a->G1 s=b->Vx s=c->[B1.agg [.str (G2 s),.int .i64 (G1 s)],.bool (Vx s)]=[.agg [.str a,.int .i64 b],.bool c]:=fun h1 h2 h3=>by rw [h1,h2,h3]
 cases hn:Cb (Xi s [91]) with
 | false=>
  have e1:Vx s=false:=by unfold Vx;rw [hn];rfl
  rw [hv (a:=Xi s [91]) (b:= -1) (c:=false) (by unfold G2;rw [hn];rfl) (by unfold G1;rw [hn];rfl) e1];exact ⟨0,by cases Jd s [91] <;> rfl⟩
 | true=>
  cases h2:Jd s [91] with
  | false=>
   have e1:Vx s=true:=by unfold Vx;rw [hn,h2];rfl
   rw [hv (a:=Xi s [91]) (b:= -1) (c:=true) (by unfold G2;rw [hn,h2];rfl) (by unfold G1;rw [hn,h2];rfl) e1];exact ⟨0,rfl⟩
  | true=>
   have e1:Vx s=(EE (Wo s [91]) [93]&&G8 (C5 s)):=by unfold Vx;rw [hn,h2];rfl
   have es:G2 s=bif Vx s then Xi s [91] else []:=by unfold G2;rw [hn,h2];rfl
   have en:G1 s=bif Vx s then (Hn 0 (C5 s):Int) else 0:=by unfold G1;rw [hn,h2];rfl
   have hf:Vx s=false->[B1.agg [.str (G2 s),.int .i64 (G1 s)],.bool (Vx s)]=[.agg [.str [],.int .i64 0],.bool false]:=fun q=>by rw [es,en,q];rfl
   have hd:(C5 s).length <=s.length:=AK v7t k1;have hD:Zu (Wo s [91]) [93]=C5 s:=rfl;rw [Ax,Ab,Ab,Zp (show Ks (Wo s [91]) [93]=true by unfold Ks;rw [Aa (show (Wo s [91]).length <=1000000 by omega)];rfl),hD];cases hc:EE (Wo s [91]) [93] with
   | false=>rw [hf (by rw [e1,hc];rfl)];exact ⟨0,rfl⟩
   | true=>
    rw [hc,Aq] at e1;rw [Ax,Ab];by_cases g0:1<=(C5 s).length
    .rw [Pe (by omega),Ab];by_cases g4:(C5 s).length <=4
     .rw [Wz (by omega),Ab,Zp (Ym (by omega))];obtain ⟨N,hN⟩:=u7x g4 (C5 s).length 0 0 (Al _) (by decide);rw [AQ] at hN;have fin:EI (C5 s)=true->[B1.agg [.str (G2 s),.int .i64 (G1 s)],.bool (Vx s)]=(bif Fv (C5 s) then [.agg [.str (Xi s [91]),.int .i64 (Hn 0 (C5 s):Int)],.bool true] else [.agg [.str [],.int .i64 0],.bool false]):=fun q=>by
       have e2:Vx s=Fv (C5 s):=by rw [e1];unfold G8;rw [q,Aq]
       rw [es,en,e2];cases Fv (C5 s) <;> rfl
      by_cases g1:1<(C5 s).length
      .cases g48:CW (C5 s) 0 == 48 with
       | true=>rw [Af,Xv (by omega),Af,hf (by rw [e1];unfold G8 EI;rw [Aa g1,g48,Bool.and_self,Ax,A4,A4,Ba])];exact ⟨0,rfl⟩
       | false=>rw [Ab,fin (by unfold EI;rw [Aa g0,Aa g4,g48,A4];rfl)];exact ⟨N,hN⟩
      .rw [Wz (by omega),Ab,fin (by unfold EI;rw [Aa g0,Aa g4,Ah g1];rfl)];refine ⟨N,?_⟩;rw [show∀(b:Bool) (x:Xu FK),(bif b then x else x)=x from fun b x=>by cases b <;> rfl];exact hN
     .rw [Xv (by omega),Af,hf (by rw [e1];unfold G8 EI;rw [Ah g4];cases decide (1<=(C5 s).length) <;> rfl)];exact ⟨0,rfl⟩
    .rw [Ld (by omega),Af,hf (by rw [e1];unfold G8 EI;rw [Ah g0];rfl)];exact ⟨0,rfl⟩
def OU :List B1->Option (B1×Bool)
 | [.str s]=>some (.tup [.agg [.str (G2 s),.int .i64 (G1 s)],.bool (Vx s)],WA s)
 | _=>none
theorem j4p {S:B3} (hS:Zv prog S):Zv prog (S.with TM OU):=CP hS (by kernel_rfl) fun args v h=>by
 unfold OU at h;split at h
 .rename_i s;simp only [Ae,Ac] at h;obtain ⟨rfl,ho⟩:=h;obtain ⟨N,hN⟩:=j2k s ho;exact ⟨_,_,.cons (.refl _) .nil,rfl,u2y s N _ hN,5,rfl⟩
 .cases h
def CL (b:UInt8):List UInt8->Nat
 | []=>0
 | c::r=>bif c == b then 0 else CL b r+1
theorem v6h (b:UInt8): ∀s,CL b s<=s.length
 | []=>Ak _
 | c::r=>by
  have:=v6h b r;unfold CL;rw [Au];cases c == b with
  | true=>exact AG _
  | false=>rw [Ab];omega
theorem u8c (b:UInt8): ∀s,(h:CL b s<s.length)->s[CL b s]=b
 | [],h=>by cases h
 | c::r,h=>by
  cases g:c == b with
  | true=>
   have e:CL b (c::r)=0:=by unfold CL;rw [g];rfl
   simp only [e,List.getElem_cons_zero];exact AU.1 g
  | false=>
   have e:CL b (c::r)=CL b r+1:=by rw [CL,g];rfl
   rw [e,Au] at h;simp only [e,List.getElem_cons_succ];exact u8c b r (by omega)
theorem w2e (b:UInt8): ∀s,Lib.indexByte s b=bif decide (CL b s<s.length) then (CL b s:Int) else -1
 | []=>rfl
 | c::r=>by
  unfold Lib.indexByte CL;rw [w2e b r,Au];cases g:c == b with
  | true=>rw [Af,Aa (Nat.succ_pos _)];rfl
  | false=>
   rw [Ab];by_cases h:CL b r<r.length
   .rw [Aa h,Aa (Nat.succ_lt_succ h),Af,Af,Az (by simp),Az (by simp)];rfl
   .rw [Ah h,Ah (show ¬CL b r+1<r.length+1 by omega)];rfl
def GD (s:List UInt8):Bool:=Cb (s.take (CL 91 s))&&(decide (CL 91 s=s.length)||(CW s (s.length - 1) == 93&&G8 ((s.drop (CL 91 s+1)).take (s.length - 1 - (CL 91 s+1)))))
theorem j0e (s:List UInt8):GD s=Vx s:=by
 have hix:C6 s [91]=bif decide (CL 91 s<s.length) then (CL 91 s:Int) else -1:=w2e 91 s;have hle:=v6h 91 s;unfold GD Vx;by_cases h:CL 91 s<s.length
 .rw [Aa h,Af] at hix;have e2:Jd s [91]=true:=by unfold Jd;rw [hix];exact Aa (by omega)
  have e0:Xi s [91]=s.take (CL 91 s):=by unfold Xi;rw [hix,Aa (show (0:Int)<=(CL 91 s:Int) by omega),Zj];rfl
  have e1:Wo s [91]=s.drop (CL 91 s+1):=by unfold Wo;rw [hix,Aa (show (0:Int)<=(CL 91 s:Int) by omega),Zj];rfl
  rw [Ah (show ¬CL 91 s=s.length by omega),Bg,e0,e2,Af]
  congr 1
  unfold C5 Zu EE;rw [e1];have hl:(s.drop (CL 91 s+1)).length =s.length - (CL 91 s+1):=Bj;rw [Lc (show s.length - 1<s.length by omega)];by_cases g:CL 91 s+1<s.length
  .rw [Aa (show [(93:UInt8)].length <=(s.drop (CL 91 s+1)).length by rw [hl];show 1<=_;omega),Aq];have ed:(s.drop (CL 91 s+1)).drop ((s.drop (CL 91 s+1)).length - [(93:UInt8)].length)=[s[s.length - 1]'(by omega)]:=by rw [List.drop_drop,hl];show s.drop (CL 91 s+1+(s.length - (CL 91 s+1) - 1))=_;rw [show CL 91 s+1+(s.length - (CL 91 s+1) - 1)=s.length - 1 by omega,AW (show s.length - 1<s.length by omega),Aw (by omega)]
   rw [ed];have eb:([s[s.length - 1]'(by omega)] == [(93:UInt8)])=((((s[s.length - 1]'(by omega)).toNat :Nat):Int) == 93):=by
    rw [AR,AU,AU];constructor
    .intro q;rw [Bi] at q;rw [q.1];rfl
    .intro q;have:(s[s.length - 1]'(by omega))=93:=by apply UInt8.toNat_inj.1;show _=93;omega
     rw [this]
   rw [eb];cases ((((s[s.length - 1]'(by omega)).toNat :Nat):Int) == 93) with
   | false=>rfl
   | true=>
    rw [Aq,Aq,Af,hl]
    congr 2
    show _=s.length - (CL 91 s+1) - 1;omega
  .have e:s.length - 1=CL 91 s:=by omega
   have hq:(s[s.length - 1]'(by omega))=91:=by simp only [e];exact u8c 91 s h
   rw [hq,Ah (show ¬ [(93:UInt8)].length <=(s.drop (CL 91 s+1)).length by rw [hl];show ¬1<=_;omega)];rfl
 .have hn:CL 91 s=s.length:=by omega
  rw [Ah h,Ab] at hix;have e2:Jd s [91]=false:=by unfold Jd;rw [hix];rfl
  have e0:Xi s [91]=s:=by unfold Xi;rw [hix];rfl
  rw [e2,e0,hn,Aa rfl,List.take_length];rfl
theorem u6a {s d:List UInt8} {p:Nat} (hp:p<=s.length) (hd:d.length<=1000000): ∀(k i n:Nat),i+k=d.length->i<=4->n<10 ^ i->
  ∃N a b,Yw (Ky s) N (.to (.h1 (p:Int) d (n:Int) (i:Int)))=.ret [.str a,.int .i64 b,.bool (EI d&&Fv (d.drop i))]
 | 0,i,n,h,h4,hn=>by
  have hs: ∀a b,∃N a' b',Yw (Ky s) N (.ret [.str a,.int .i64 b,.bool (EI d&&Fv (d.drop i))])=.ret [.str a',.int .i64 b',.bool (EI d&&Fv (d.drop i))]:=fun a b=>⟨0,a,b,rfl⟩
  rw [Aw (by omega)] at hs ⊢;have key: ∃a b,Ky s (.h1 (p:Int) d (n:Int) (i:Int))=.ret [.str a,.int .i64 b,.bool (EI d&&Fv [])]:=by
   unfold Ky EI;simp only [Zj];rw [Xz (by omega),Ab,Aa (show d.length<=4 by omega),Aq,Zp (Aa (show (p:Nat)<=s.length from hp)),Zp (Aa (show (0:Int)<=(p:Int) by omega))];by_cases g0:1<=d.length
   .rw [Pe (by omega),Ab,Aa g0,Aq];by_cases g1:1<d.length
    .rw [Xv (by omega),Af,Zp (Ym (by omega)),Aa g1,Aq];cases CW d 0 == 48 with
     | true=>exact ⟨_,_,rfl⟩
     | false=>exact ⟨_,_,rfl⟩
    .rw [Wz (by omega),Ab,Ah g1];exact ⟨_,_,rfl⟩
   .rw [Ld (by omega),Af,Ah g0];exact ⟨_,_,rfl⟩
  obtain ⟨a,b,e⟩:=key;exact ⟨1,a,b,by rw [Zw,e];rfl⟩
 | k +1,i,n,h,h4,hn=>by
  have hi:i<d.length:=by omega
  have hc:=v2i d[i];have hpw:10 ^ i<=10 ^ 4:=Nat.pow_le_pow_right (by decide) (by omega);have w2:wrap .i64 ((i:Int)+1)=((i+1:Nat):Int):=Zm (by omega);rw [AW hi];have e:Ky s (.h1 (p:Int) d (n:Int) (i:Int))=bif digN d[i].toNat &&decide (i<=3) then .to (.h1 (p:Int) d ((10*n+(d[i].toNat - 48):Nat):Int) ((i+1:Nat):Int)) else .ret [.str [],.int .i64 0,.bool false]:=by
   unfold Ky digN;simp only [Zj,w2,Lc hi];rw [Yb (by omega),Af,Zp (Ym (by omega))];generalize d[i].toNat =c at hc;by_cases h1:48<=c
   .rw [EB (by omega),Aa h1,Af];by_cases h2:c<=57
    .rw [Wb (by omega),Aa h2,Ax,Ab];by_cases h3:i<=3
     .rw [Wz (by omega),Aa h3,Ab,wu8 _ (by omega),Zm (n:=10*(n:Int)) (by omega),Zm (n:=(c:Int) - 48) (by omega),Zm (by omega)];show Xu.to _=Xu.to _
      congr 2
      omega
     .rw [Xv (by omega),Ah h3];rfl
    .rw [Fj (by omega),Ah h2];rfl
   .rw [FY (by omega),Ah h1];rfl
  show∃N a b,Yw _ N _=.ret [_,_,.bool (EI d&&(digN d[i].toNat &&Fv (d.drop (i+1))))];cases g:digN d[i].toNat with
  | false=>exact ⟨1,[],0,by rw [Zw,e,g,Ba,Ab,Zh,Ba,A4]⟩
  | true=>
   by_cases h3:i<=3
   .have g':(48<=d[i].toNat /\d[i].toNat <=57):=by unfold digN at g;rwa [Ad,An,An] at g
    obtain ⟨N,a,b,hN⟩:=u6a hp hd k (i+1) (10*n+(d[i].toNat - 48)) (by omega) (by omega) (by rw [Nat.pow_succ];omega);exact ⟨N+1,a,b,by rw [Zw,e,g,Aa h3,Bool.and_self,Af,hN,Aq]⟩
   .have e4:EI d=false:=by unfold EI;rw [Ah (show ¬d.length<=4 by omega),Ba,A4]
    exact ⟨1,[],0,by rw [Zw,e,g,Ah h3,A4,Ab,Zh,e4,Ba]⟩
theorem w4t {s:List UInt8} {p:Nat} (hp:p<=s.length) (hs:s.length<=1000000) {E:Xu GC}
  (hE:E=(bif decide (p<=s.length) then (bif decide (0<=(p:Int)) then (bif Uk ((s.drop 0).take p) then (bif !(Cb ((s.drop 0).take p)) then (.ret [.str [],.int .i64 0,.bool false]) else (bif ((p:Int) == (s.length:Int)) then (.ret [.str s,.int .i64 (-1),.bool true]) else (bif decide (0<=wrap .i64 ((s.length:Int) - 1)/\wrap .i64 ((s.length:Int) - 1)<(s.length:Int)) then (bif (CW s (Int.toNat (wrap .i64 ((s.length:Int) - 1)))) != 93 then (.ret [.str [],.int .i64 0,.bool false]) else (bif decide (Int.toNat (wrap .i64 ((p:Int)+1))<=Int.toNat (wrap .i64 ((s.length:Int) - 1))) then (bif decide (Int.toNat (wrap .i64 ((s.length:Int) - 1))<=s.length) then (bif decide (0<=wrap .i64 ((p:Int)+1)) then (bif decide (0<=wrap .i64 ((s.length:Int) - 1)) then (.to (.h1 (p:Int) ((s.drop (Int.toNat (wrap .i64 ((p:Int)+1)))).take (Int.toNat (wrap .i64 ((s.length:Int) - 1)) - Int.toNat (wrap .i64 ((p:Int)+1)))) 0 0)) else .stuck) else .stuck) else .stuck) else .stuck)) else .stuck))) else .stuck) else .stuck) else .stuck))
  (hq:p<s.length->s[p]? =some 91):
  ∃N a b,Yw (Ky s) N E=.ret [.str a,.int .i64 b,.bool (Cb (s.take p)&&(decide (p=s.length)||(CW s (s.length - 1) == 93&&G8 ((s.drop (p+1)).take (s.length - 1 - (p+1))))))]:=by
 subst hE;have hpl:(s.take p).length <=1000000:=by rw [Bk];omega
 rw [Zp (Aa hp),Zp (Aa (show (0:Int)<=(p:Int) by omega)),AQ,Zp (show Uk (s.take p)=true from Aa hpl)];cases hn:Cb (s.take p) with
 | false=>exact ⟨0,[],0,rfl⟩
 | true=>
  rw [Ax,Ab,Aq];by_cases g:p=s.length
  .rw [Ld (by omega),Af,Aa g];exact ⟨0,_,_,rfl⟩
  .have wl:wrap .i64 ((s.length:Int) - 1)=((s.length - 1:Nat):Int):=by rw [Zm (by omega)];omega
   have wp:wrap .i64 ((p:Int)+1)=((p+1:Nat):Int):=Zm (by omega);rw [Pe (by omega),Ab,Ah g,Bg,wl,wp,Zj,Zj,Zp (Ym (by omega))];cases hb:CW s (s.length - 1) == 93 with
   | false=>rw [show (CW s (s.length - 1) != 93)=true by unfold bne;rw [hb];rfl,Af,Ba];exact ⟨0,[],0,rfl⟩
   | true=>
    have hne:p+1<=s.length - 1:=by
     rcases A9 (p+1) s.length with h | h
     .omega
     .exfalso;have hp1:p=s.length - 1:=(by omega);have h1:=hq (by omega);rw [hp1,Ar (by omega)] at h1;have h2:=Ag h1;rw [Lc (show s.length - 1<s.length by omega),h2] at hb;revert hb;decide
    rw [show (CW s (s.length - 1) != 93)=false by unfold bne;rw [hb];rfl,Ab,Aq,Zp (Aa hne),Zp (Aa (show s.length - 1<=s.length by omega)),Zp (Aa (show (0:Int)<=((p+1:Nat):Int) by omega)),Zp (Aa (show (0:Int)<=((s.length - 1:Nat):Int) by omega))];obtain ⟨N,a,b,hN⟩:=u6a (s:=s) (d:=(s.drop (p+1)).take (s.length - 1 - (p+1))) hp (by rw [Bk,Bj];omega) ((s.drop (p+1)).take (s.length - 1 - (p+1))).length 0 0 (Al _) (by omega) (by decide);exact ⟨N,a,b,hN⟩
theorem u6b {s:List UInt8} (hs:s.length<=1000000): ∀(k i:Nat),i+k=s.length->i+CL 91 (s.drop i)=CL 91 s->
  ∃N a b,Yw (Ky s) N (.to (.h0 (i:Int)))=.ret [.str a,.int .i64 b,.bool (GD s)]
 | 0,i,h,hx=>by have hd:s.drop i=[]:=Aw (by omega);rw [hd] at hx;have hx:i=CL 91 s:=hx;obtain ⟨N,a,b,hN⟩:=w4t (s:=s) (p:=i) (by omega) hs rfl (fun hh=>absurd hh (by omega));refine ⟨N+1,a,b,?_⟩;rw [Zw];unfold Ky;simp only [Zj];rw [Xz (by omega),Ab];unfold GD;rw [<-hx];exact hN
 | k+1,i,h,hx=>by
  have hi:i<s.length:=by omega
  have hc:=v2i s[i];have w2:wrap .i64 ((i:Int)+1)=((i+1:Nat):Int):=Zm (by omega);rw [AW hi,CL] at hx;have hbb:((((s[i].toNat :Nat):Int)) != 91)= !(s[i] == 91):=by
   rw [show ((((s[i].toNat :Nat):Int)) != 91)= !((((s[i].toNat :Nat):Int)) == 91) from rfl]
   congr 1
   rw [AR,AU,AU];constructor
   .intro h;apply UInt8.toNat_inj.1;show s[i].toNat =91;omega
   .intro h;rw [h];rfl
  cases g:s[i] == 91 with
  | false=>
   rw [g,Ab] at hx;obtain ⟨N,a,b,hN⟩:=u6b hs k (i+1) (by omega) (by omega);refine ⟨N+1,a,b,?_⟩;have e:Ky s (.h0 (i:Int))=.to (.h0 ((i+1:Nat):Int)):=by unfold Ky;simp only [Zj,Lc hi,w2];rw [Yb (by omega),Af,Zp (Ym (by omega)),hbb,g];rfl
   rw [Zw,e,hN]
  | true=>rw [g,Af] at hx;have hx:i=CL 91 s:=hx;obtain ⟨N,a,b,hN⟩:=w4t (s:=s) (p:=i) (by omega) hs rfl (fun _=>by rw [Ar hi,AU.1 g]);refine ⟨N+1,a,b,?_⟩;rw [Zw];unfold Ky;simp only [Zj];rw [Yb (by omega),Af,Zp (Ym (by omega)),Lc hi,hbb,g,Ax,Ab];unfold GD;rw [<-hx];exact hN
def UL (s:List UInt8):Bool:=decide (s.length<=1000000)
def Pp (s:List UInt8):Bool:=Vx s
theorem j0d (s:List UInt8) (h:UL s=true): ∃N a b,Yw (Ky s) N (x2t s)=.ret [.str a,.int .i64 b,.bool (Pp s)]:=by unfold Pp;rw [<-j0e];exact u6b (Av h) s.length 0 (Al _) (Al _)
def OK :List B1->Option (B1×Bool)
 | [.str s]=>some (.tup [.undef,.undef,.bool (Pp s)],UL s)
 | _=>none
theorem j3z {S:B3} (hS:Zv prog S):Zv prog (S.with S4 OK):=K2 hS (by kernel_rfl) fun args v h=>by
 unfold OK at h;split at h
 .rename_i s;simp only [Ae,Ac] at h;obtain ⟨rfl,ho⟩:=h;obtain ⟨N,a,b,hN⟩:=j0d s ho;exact ⟨_,[.str a,.int .i64 b,.bool (Pp s)],.cons (.refl _) .nil,fun ρ u hu=>u9g (cs:=[.str a,.int .i64 b,.bool (Pp s)]) (.cons (.undef _) (.cons (.undef _) (Ch.refl _))) ρ u hu,u0g s N _ hN,3,rfl⟩
 .cases h
def Tx :B3:=(Ty.with TM OU).with S4 OK
theorem Qh :Zv prog Tx:=j3z (j4p Wx)
inductive Hr where
 | h0 (v3:List UInt8) (v4:Bool)
def NZ (x0:List UInt8):Hr->CE
 | .h0 v3 v4=>⟨⟨20,0,true⟩,none,(Zf prog 121 [1,0,0] 0),none,[],⟨Ye [(0,(.yld 0)),(3,(.str v3)),(4,(.bool v4))],Eb [(1,⟨[(ii 0)],24,none⟩)],2,[],true⟩,[⟨⟨24,0,true⟩,none,(.inRangeFunc 0::(Zf prog 45 [1,1,0,1,0] 1)),none,(Zy prog 45),Ye [(2,(.ptr 1 0))]⟩],(F7 [(0,⟨.ready,none,24,Ye [(2,(.ptr 1 0))],[16],(DE prog 45 [1,1,0,1,0,0]),(DE prog 45 [1,1,0,1,0,1])⟩)])⟩
def KR :List (Option (List Nat)):=[some [0,3,4],some [2]]
def KS :List (Option (List Nat)):=[some [2],none]
def LK (x0:List UInt8):Hr->Xu Hr
 | .h0 v3 v4=>(bif v4 then (bif (Kh v3 ([47]:List UInt8)) then (bif (WA (Xi v3 ([47]:List UInt8))) then (bif (!(Vx (Xi v3 ([47]:List UInt8)))) then (.ret [(.int .i64 12)]) else (.to (.h0 (Wo v3 ([47]:List UInt8)) (Jd v3 ([47]:List UInt8))))) else .stuck) else .stuck) else (.ret [(.int .i64 0)]))
def VF (x0:List UInt8):Xu Hr:=(bif (decide ((x0.length:Int)>4000)) then (.ret [(.int .i64 4)]) else (bif (YX x0 ([47]:List UInt8)) then (bif (decide ((Ok x0 ([47]:List UInt8))>39)) then (.ret [(.int .i64 4)]) else (.to (.h0 x0 (!(x0 == ([]:List UInt8)))))) else .stuck))
theorem w9t (x0:List UInt8): ∀s,Wj prog (Zy prog 45) (NZ x0) (NZ x0 s) (LK x0 s)
 | .h0 v3 v4=>let b:=Zy prog 45;(lb (fun k0=>(lo fun aG=>(lo fun aU=>let a:=ww aU (ww aG (tt k0 nn));(lb (fun k1=>(Yt ⟨⟨24,0,true⟩,none,(.code .ret ::(Zf prog 45 [1,1,0,1,0] 1)),none,b,⟨Ye [(2,(.ptr 0 0))],Xt [⟨[(ii 12)],24,none⟩] 0,1,[],true⟩,[],.leaf⟩ (sl Qh 61 [] ⟨[1],[],[some [2]],[]⟩ b7 (CA 3 []) (tt k1 a)) rfl (by kernel_rfl))) (fun k1=>(sl Qh 60 [] ⟨[0,1],[],KR,KS⟩ b7 (bl 3 1) (tt k1 a))))))) (fun k0=>(Yt ⟨⟨24,0,true⟩,none,(Zf prog 3 [1,1,1,1,1,1,0] 1),none,b,⟨Ye [(2,(.ptr 0 0))],Xt [⟨[(ii 0)],24,none⟩] 0,1,[],true⟩,[],.leaf⟩ (sl Qh 14 [] ⟨[1],[],[some [2]],[]⟩ b7 [false] (tt k0 nn)) rfl (by kernel_rfl))))
theorem w1v (x0:List UInt8):Wj prog (Zy prog 45) (NZ x0) (Zg prog 45 [(.str x0)] true []) (VF x0):=let a:=Zf prog 45 [1,0,1,0,0] 1;let c:=Zy prog 45;(lb (fun k0=>(Yt ⟨⟨24,0,true⟩,none,a,none,c,⟨Ye [(2,(.ptr 0 0))],Xt [⟨[(ii 4)],24,none⟩] 0,1,[],true⟩,[],.leaf⟩ (sl Qh 21 [] ⟨[0],[],[some [2]],[]⟩ b7 (CA 4 []) (tt k0 nn)) rfl (by kernel_rfl))) (fun k0=>(lo fun aG=>let b:=ww aG (tt k0 nn);(lb (fun k1=>(Yt ⟨⟨24,0,true⟩,none,a,none,c,⟨Ye [(2,(.ptr 0 0))],Xt [⟨[(ii 4)],24,none⟩] 0,1,[],true⟩,[],.leaf⟩ (sl Qh 21 [] ⟨[0],[],[some [2]],[]⟩ b7 (bl 4 8) (tt k1 b)) rfl (by kernel_rfl))) (fun k1=>(sl Qh 41 [] ⟨[2,0],[],KR,KS⟩ b7 (bl 4 0) (tt k1 b)))))))
theorem u3d (x0:List UInt8) (n:Nat) (vs:List B1) (h:Yw (LK x0) n (VF x0)=.ret vs):Js prog (Zy prog 45) (Zg prog 45 [(.str x0)] true []) vs:=by have:=Ze (w9t x0) n _ (w1v x0);rwa [h] at this
inductive Ha where
 | h0 (v4:Int)
def M5 (x0:List UInt8):Ha->CE
 | .h0 v4=>⟨⟨33,0,true⟩,none,(Zf prog 50 [1,1,1,1,0,1,0,0] 0),none,(Zy prog 9),⟨Ye [(3,(.dat (Kd x0).length (Zz (Kd x0)))),(4,(ii v4))],Xt [] 0,0,[],true⟩,[],.leaf⟩
def J2 :List (Option (List Nat)):=[some [3,4]]
def J3 :List (Option (List Nat)):=[]
def LO (x0:List UInt8):Ha->Xu Ha
 | .h0 v4=>(bif (decide (v4<(((Kd x0).length :Nat):Int))) then (bif ((decide (0<=v4/\v4<(((Kd x0).length :Nat):Int)))&&true) then (bif (UL (rd (Kd x0) v4.toNat)) then (bif (!(Pp (rd (Kd x0) v4.toNat))) then (.ret [(.int .i64 12)]) else (.to (.h0 (wrap .i64 (v4+1))))) else .stuck) else .stuck) else (.ret [(.int .i64 0)]))
def VQ (x0:List UInt8):Xu Ha:=(bif (decide ((x0.length:Int)>4000)) then (.ret [(.int .i64 4)]) else (bif (UE x0) then (bif (decide ((((Kd x0).length :Nat):Int)>40)) then (.ret [(.int .i64 4)]) else (.to (.h0 0))) else .stuck))
theorem w8m (x0:List UInt8): ∀s,Wj prog (Zy prog 50) (M5 x0) (M5 x0 s) (LO x0 s)
 | .h0 v4=>(lb (fun k0=>(lo fun aG=>(lo fun aU=>let a:=ww aU (ww aG (tt k0 nn));(lb (fun k1=>(lr 33 50 [1,1,1,1,0,1,0,0,1,0,0,1,1,0,0] 1 9 [(2,(ii 12))] (sl Qh 37 [] (b8 [2]) b7 (bl 2 3) (tt k1 a)))) (fun k1=>(sl Qh 41 [] ⟨[],[],J2,J3⟩ b7 (bl 2 1) (tt k1 a))))))) (fun k0=>(lr 33 3 [1,1,1,1,1,1,0] 1 9 [(2,(ii 0))] (sl Qh 14 [] (b8 [2]) b7 [false] (tt k0 nn)))))
theorem w0e (x0:List UInt8):Wj prog (Zy prog 50) (M5 x0) (Zg prog 50 [(.str x0)] true []) (VQ x0):=(lb (fun k0=>(lr 33 50 [1,0,1,0,0] 1 9 [(2,(ii 4))] (sl Qh 16 [] (b8 [2]) b7 [true] (tt k0 nn)))) (fun k0=>(lo fun aG=>let a:=ww aG (tt k0 nn);(lb (fun k1=>(lr 33 50 [1,1,1,0,1,0,0] 1 9 [(2,(ii 4))] (sl Qh 31 [] (b8 [2]) b7 (bl 2 2) (tt k1 a)))) (fun k1=>(sl Qh 35 [] ⟨[],[],J2,J3⟩ b7 (bl 2 0) (tt k1 a)))))))
theorem u0t (x0:List UInt8) (n:Nat) (vs:List B1) (h:Yw (LO x0) n (VQ x0)=.ret vs):Js prog (Zy prog 50) (Zg prog 50 [(.str x0)] true []) vs:=by have:=Ze (w8m x0) n _ (w0e x0);rwa [h] at this
theorem u8a (b:UInt8) (s:List UInt8):Xi s [b]=s.take (CL b s)/\Wo s [b]=(bif decide (CL b s<s.length) then s.drop (CL b s+1) else [])/\Jd s [b]=decide (CL b s<s.length):=by
 have hix:C6 s [b]=bif decide (CL b s<s.length) then (CL b s:Int) else -1:=w2e b s;have hle:=v6h b s;unfold Xi Wo Jd;rw [hix];by_cases h:CL b s<s.length
 .rw [Aa h,Af,Aa (show (0:Int)<=(CL b s:Int) by omega),Zj];exact ⟨rfl,rfl,rfl⟩
 .rw [Ah h,Ab];refine ⟨?_,rfl,rfl⟩;rw [show CL b s=s.length by omega,List.take_length];rfl
theorem v7r (b:UInt8): ∀s,Wy b [] s=s.take (CL b s)::(bif decide (CL b s<s.length) then Wy b [] (s.drop (CL b s+1)) else [])
 | []=>rfl
 | c::r=>by
  cases g:c == b with
  | true=>
   have e:CL b (c::r)=0:=by unfold CL;rw [g];rfl
   rw [e,Wy,g,Af,Au,Aa (Nat.succ_pos _)];rfl
  | false=>
   have e:CL b (c::r)=CL b r+1:=by rw [CL,g];rfl
   rw [e,Wy,g,Ab,UO,v7r b r,Au,show decide (CL b r+1<r.length+1)=decide (CL b r<r.length) by rw [AR,An,An];omega];rfl
theorem u4o (b:UInt8) (s:List UInt8):Wy b [] s=Xi s [b]::(bif Jd s [b] then Wy b [] (Wo s [b]) else []):=by obtain ⟨e0,e1,e2⟩:=u8a b s;rw [v7r,e0,e1,e2];cases decide (CL b s<s.length) <;> rfl
theorem UP (b:UInt8): ∀s cur,(Wy b cur s).length =Lib.countByte s b+1
 | [],cur=>rfl
 | c::r,cur=>by
  unfold Wy Lib.countByte;rw [List.count_cons];cases g:c == b with
  | true=>rw [Af,Au,UP b r];rfl
  | false=>rw [Ab,UP b r];rfl
def C4 (p:List UInt8):Int:=bif decide (4000<p.length) then 4 else bif decide (40<(Kd p).length) then 4 else bif (Kd p).all Vx then 0 else 12
def Up (p:List UInt8):Bool:=decide (p.length<=1000000)
theorem u3e {s:List UInt8} {b:UInt8} (h:Jd s [b]=true):(Wo s [b]).length <s.length:=by obtain ⟨e0,e1,e2⟩:=u8a b s;rw [e2] at h;rw [e1,h,Af,Bj];have:=Av h;omega
theorem u7z {x:List UInt8}: ∀(n:Nat) (s:List UInt8),s.length<=n->s.length<=1000000-> ∃N,Yw (LK x) N (.to (.h0 s true))=.ret [.int .i64 (bif (Wy 47 [] s).all Vx then 0 else 12)]
 | n,s,hn,hs=>by
  obtain ⟨k0,k1⟩:=v6d (s:=s) (sep:=[47]);have e:LK x (.h0 s true)=bif !(Vx (Xi s [47])) then .ret [.int .i64 12] else .to (.h0 (Wo s [47]) (Jd s [47])):=by unfold LK;simp only [];rw [Af,Zp (show Kh s [47]=true by unfold Kh;rw [Aa hs];rfl),Zp (show WA (Xi s [47])=true from Aa (by omega))]
  rw [u4o,List.all_cons];cases g:Vx (Xi s [47]) with
  | false=>exact ⟨1,by rw [Zw,e,g];rfl⟩
  | true=>
   cases g2:Jd s [47] with
   | false=>have e2: ∀s',LK x (.h0 s' false)=.ret [.int .i64 0]:=fun s'=>rfl;exact ⟨2,by rw [Zw,e,g,g2,Ax,Ab,Zw,e2];rfl⟩
   | true=>
    have hl:=u3e g2
    match n with
    | 0=>omega
    | n+1=>obtain ⟨N,hN⟩:=u7z (x:=x) n (Wo s [47]) (by omega) (by omega);exact ⟨N+1,by rw [Zw,e,g,g2,Ax,Ab,hN,Af,Aq]⟩
theorem j2u (s:List UInt8) (h:Up s=true): ∃N,Yw (LK s) N (VF s)=.ret [.int .i64 (C4 s)]:=by
 have hs:s.length<=1000000:=Av h;unfold VF C4;by_cases g:4000<s.length
 .rw [Xv (by omega),Aa g];exact ⟨0,rfl⟩
 .rw [Wz (by omega),Ah g,Ab,Ab,Zp (show YX s [47]=true from rfl)];have hc:Ok s [47]=((Lib.countByte s 47:Nat):Int):=rfl;have hk:=UP 47 s [];unfold Kd;cases s with
  | nil=>refine ⟨1,?_⟩;rfl
  | cons c r=>
   rw [show ((c::r) == ([]:List UInt8))=false from rfl,Ab,AD];by_cases g2:40<(Wy 47 [] (c::r)).length
   .rw [Aa g2,Xv (by omega)];exact ⟨0,rfl⟩
   .rw [Ah g2,Wz (by omega),Ab,Ab];exact u7z (c::r).length (c::r) (Ak _) hs
theorem u6l {x:List UInt8} (hs:x.length<=1000000): ∀(k i:Nat),i+k=(Kd x).length -> ∃N,Yw (LO x) N (.to (.h0 (i:Int)))=.ret [.int .i64 (bif ((Kd x).drop i).all Vx then 0 else 12)]
 | 0,i,h=>⟨1,by
  rw [Zw,Aw (by omega)];unfold LO;simp only [];rw [Xz (by omega)];rfl⟩
 | k+1,i,h=>by
  have hi:i<(Kd x).length :=by omega
  have hle:(Kd x).length <=1000001:=by
   unfold Kd;cases x == [] with
   | true=>exact AG _
   | false=>rw [Ab,UP];have:Lib.countByte x 47<=x.length:=List.count_le_length;omega
  have hp:(rd (Kd x) i).length <=1000000:=by
   rw [Wf hi];have hm:=A0 hi;revert hm;generalize (Kd x)[i]=p;unfold Kd;cases x == [] with
   | true=>intro hm;cases hm
   | false=>intro hm;have:=Qb 47 x [] p hm;simp at this;omega
  have w2:wrap .i64 ((i:Int)+1)=((i+1:Nat):Int):=Zm (by omega);obtain ⟨N,hN⟩:=u6l hs k (i+1) (by omega);have e:LO x (.h0 (i:Int))=bif !(Vx (rd (Kd x) i)) then .ret [.int .i64 12] else .to (.h0 ((i+1:Nat):Int)):=by unfold LO;simp only [Zj,w2];rw [Yb (by omega),Af,Ap,Zp (Ym (by omega)),Zp (show UL (rd (Kd x) i)=true from Aa hp)];rfl
  rw [Xj hi,List.all_cons];cases g:Vx (rd (Kd x) i) with
  | false=>exact ⟨1,by rw [Zw,e,g];rfl⟩
  | true=>exact ⟨N+1,by rw [Zw,e,g,Ax,Ab,hN,Aq]⟩
theorem j0p (s:List UInt8) (h:Up s=true): ∃N,Yw (LO s) N (VQ s)=.ret [.int .i64 (C4 s)]:=by
 have hs:s.length<=1000000:=Av h;unfold VQ C4;by_cases g:4000<s.length
 .rw [Xv (by omega),Aa g];exact ⟨0,rfl⟩
 .rw [Wz (by omega),Ah g,Ab,Ab,Zp (show UE s=true from h)];by_cases g2:40<(Kd s).length
  .rw [Aa g2,Xv (by omega)];exact ⟨0,rfl⟩
  .rw [Ah g2,Wz (by omega),Ab,Ab];exact u6l hs (Kd s).length 0 (Al _)
def FP :List B1->Option (B1×Bool)
 | [.str s]=>some (.int .i64 (C4 s),Up s)
 | _=>none
theorem j4q {S:B3} (hS:Zv prog S):Zv prog (S.with TO FP):=CP hS (by kernel_rfl) fun args v h=>by
 unfold FP at h;split at h
 .rename_i s;simp only [Ae,Ac] at h;obtain ⟨rfl,ho⟩:=h;obtain ⟨N,hN⟩:=j2u s ho;exact ⟨_,_,.cons (.refl _) .nil,rfl,u3d s N _ hN,3,rfl⟩
 .cases h
theorem j4d {S:B3} (hS:Zv prog S):Zv prog (S.with S9 FP):=CP hS (by kernel_rfl) fun args v h=>by
 unfold FP at h;split at h
 .rename_i s;simp only [Ae,Ac] at h;obtain ⟨rfl,ho⟩:=h;obtain ⟨N,hN⟩:=j0p s ho;exact ⟨_,_,.cons (.refl _) .nil,rfl,u0t s N _ hN,3,rfl⟩
 .cases h
def Tw :B3:=(Tx.with TO FP).with S9 FP
theorem Uh :Zv prog Tw:=j4d (j4q Qh)
structure B4 where
 n:List UInt8
 (a t x y z:Int)
 s:List R6
instance : Xk B4 where
 w:=7
 d:=⟨[],0,0,0,0,0,[]⟩
 cells x:=[.str x.n,.int .i64 x.a,.int .u8 x.t,.int .i64 x.x,.int .i64 x.y,.int .i64 x.z,.dat x.s.length (Zz x.s)]
 of l:=⟨sOf (l.getD 0 .undef),Cl (l.getD 1 .undef),Cl (l.getD 2 .undef),Cl (l.getD 3 .undef),Cl (l.getD 4 .undef),Cl (l.getD 5 .undef),match l.getD 6 .undef with
  | .dat n g=>Cd R6 n g
  | _=>[]⟩
 len _:=rfl
 pos:=by decide
 flat _:=rfl
 sc _:=rfl
 back x:=by show B4.mk x.n x.a x.t x.x x.y x.z (Cd R6 x.s.length (Zz x.s))=x;rw [Zt]
theorem P1 {pre:List B4} {nm:List UInt8} {a t x y z:Int} {sol:List R6}:Ud (pre.length+1) (CI.get (.one pre.length [.str nm,.int .i64 a,.int .u8 t,.int .i64 x,.int .i64 y,.int .i64 z,DU 6 6 0 sol.length sol.length (Zz sol)] (.flat (Zz pre)))) (Zz (pre++[⟨nm,a,t,x,y,z,sol⟩]))=true:=by
 refine Yh fun i hi=> ?_;simp only [CI.get,v6p];cases e:Nat.beq i pre.length with
 | true=>obtain rfl:=Ai e;rw [Af];unfold Zz;rw [YR (Ak _),Nat.sub_self];rfl
 | false=>
  have:i≠pre.length:=fun h=>by rw [h,BC] at e;cases e
  rw [Ab];unfold Zz;rw [z7e (by omega)]
theorem Wq {sz:Nat} {cells:List B1} (h:cells.length=sz) (h2:cells.all Cf=true):Kr sz 1 (fun k=>(cells.drop (k*sz)).take sz)=true:=Yh fun k hk=>by
 obtain rfl:k=0:=by omega
 have e:(cells.drop (0*sz)).take sz=cells:=by rw [Nat.zero_mul,AQ,A8 (by omega)]
 show ((cells.drop (0*sz)).take sz).length =sz/\((cells.drop (0*sz)).take sz).all Cf=true;rw [e];exact ⟨h,h2⟩
theorem L3 {n r m m' b:Nat} {cap:E6} {x0 x1 x2 x3 x4 x5:B1} {G:CI} (h:m=m'):DR n (CI.get (.one r [x0,x1,x2,x3,x4,x5,.sla b 6 0 m cap] G)) (CI.get (.one r [x0,x1,x2,x3,x4,x5,.sla b 6 0 m' cap] G))=true:=by subst h;exact Yh fun _ _=>Ch.refl _
theorem QM {pre:List B4} {b:Nat} {x0 x1 x2 x3 x4 x5:B1}:DR (pre.length+1) (Yx (fun k=>Zz pre (0+k)) pre.length (fun k=>([x0,x1,x2,x3,x4,x5,.nils].drop (k*7)).take 7)) (CI.get (.one pre.length [x0,x1,x2,x3,x4,x5,.sla b 6 0 ([]:List R6).length (.un 6)] (.flat (Zz pre))))=true:=by
 refine Yh fun i hi=> ?_;simp only [CI.get,Yx];cases e:Nat.beq i pre.length with
 | true=>obtain rfl:=Ai e;rw [AY (Ak _),Af,Af,Nat.sub_self];exact .cons (.refl _) (.cons (.refl _) (.cons (.refl _) (.cons (.refl _) (.cons (.refl _) (.cons (.refl _) (.cons (.nils b 6 0 (.un 6)) .nil))))))
 | false=>
  have:i≠pre.length:=fun h=>by rw [h,BC] at e;cases e
  rw [show Nat.ble pre.length i=false from A5.2 fun e=>by have:=Aj e;omega,Ab,Ab,Al];exact Ch.refl _
theorem QX {G:Nat->List B1} {b:Nat} {x0 x1 x2 x3 x4 x5:B1}:DR 1 (Yx G 0 (fun k=>([x0,x1,x2,x3,x4,x5,.nils].drop (k*7)).take 7)) (CI.get (.one ([]:List B4).length [x0,x1,x2,x3,x4,x5,.sla b 6 0 ([]:List R6).length (.un 6)] (.flat (Zz ([]:List B4)))))=true:=by
 refine Yh fun i hi=> ?_;obtain rfl:i=0:=by omega
 exact .cons (.refl _) (.cons (.refl _) (.cons (.refl _) (.cons (.refl _) (.cons (.refl _) (.cons (.refl _) (.cons (.nils b 6 0 (.un 6)) .nil))))))
abbrev YP (v0:List (List UInt8)) (v2:Int) (v3:Int):=((v0.set (0+(tn v2)) (rd v0 (0+(tn v3)))).set (0+(tn v3)) (rd v0 (0+(tn v2))))
inductive GE where
 | h0 (aD:List (List UInt8)) (aI:Int)
 | h1 (v0:List (List UInt8)) (v2:Int) (v3:Int)
def Md (l0:List B4) (x1:Int):GE->CE
 | .h0 aD aI=>⟨⟨19,0,true⟩,none,(Zf prog 110 [0,0] 0),none,[],⟨Ye [(0,(.yld 0)),(1,(.ptr 2 0)),(2,(.ptr 3 0))],Eb [(1,⟨[(.sla 4 1 0 aD.length (.un 1))],70,none⟩),(2,⟨[(ii aI)],3,none⟩),(3,⟨[(.dat l0.length (Zz l0))],22,none⟩),(4,⟨rows aD.length (Zz aD),9,some ⟨1,aD.length,(Zz aD)⟩⟩)],5,[],true⟩,[⟨⟨20,0,true⟩,none,(.inRangeFunc 0::(Zf prog 36 [1,1,0,1,0] 1)),none,(Zy prog 3),Ye [(4,(.str [])),(5,(.ptr 1 0))]⟩],(F7 [(0,⟨.ready,none,20,Ye [(5,(.ptr 1 0))],[10],(DE prog 36 [1,1,0,1,0,0]),(DE prog 36 [1,1,0,1,0,1])⟩)])⟩
 | .h1 v0 v2 v3=>⟨⟨28,0,true⟩,none,(Zf prog 72 [1,0,0] 0),none,[],⟨Ye [(0,(.sla 0 1 0 v0.length (.un 1))),(2,(ii v2)),(3,(ii v3))],Xt [⟨rows v0.length (Zz v0),9,some ⟨1,v0.length,(Zz v0)⟩⟩,⟨[(.sla 0 1 0 v0.length (.un 1))],70,none⟩] 0,2,[],true⟩,[⟨⟨20,0,true⟩,(CU prog 36 [1,1,1,0] 1),(Zf prog 36 [1,1,1,0] 1),none,(Zy prog 3),Ye [(5,(.ptr 1 0)),(16,(.sla 0 1 0 v0.length (.un 1)))]⟩],.leaf⟩
def KC :List (Option (List Nat)):=[some [0,1,2],some [4,5]]
def KE :List (Option (List Nat)):=[some [5],none,none,none,none]
def KB :List (Option (List Nat)):=[some [0,2,3],some [5,16]]
def KD :List (Option (List Nat)):=[]
def FX (l0:List B4) (x1:Int):GE->Xu GE
 | .h0 aD aI=>(bif (decide (aI>=0)) then (bif (Nat.beq 1 1&&((decide (0+aD.length=aD.length))&&decide ((aD.length+1+1)*(16+1)<=Vd))) then (bif ((decide (0<=aI/\aI<(l0.length:Int)))&&true) then (.to (.h0 (aD++[(rd l0 aI.toNat).n]) (rd l0 aI.toNat).a)) else .stuck) else .stuck) else (.to (.h1 aD 0 (wrap .i64 ((aD.length:Int) - 1)))))
 | .h1 v0 v2 v3=>(bif (decide (v2<v3)) then (bif ((decide (0<=v2/\v2<(v0.length:Int)))&&true) then (bif (decide ((0+v2.toNat)<v0.length)) then (bif ((decide (0<=v3/\v3<(v0.length:Int)))&&true) then (bif (decide ((0+v3.toNat)<v0.length)) then (.to (.h1 ((v0.set (0+v2.toNat) (rd v0 (0+v3.toNat))).set (0+v3.toNat) (rd v0 (0+v2.toNat))) (wrap .i64 (v2+1)) (wrap .i64 (v3 - 1)))) else .stuck) else .stuck) else .stuck) else .stuck) else (bif (Nat.beq 1 1&&(decide (0+v0.length<=v0.length)&&Cz (Zz v0))) then (bif (PU (Cd (List UInt8) (v0.length) (fun k=>(Zz v0) (0+k))) ([47]:List UInt8)) then (.ret [(.str (Nc (Cd (List UInt8) (v0.length) (fun k=>(Zz v0) (0+k))) ([47]:List UInt8)))]) else .stuck) else .stuck))
def VJ (l0:List B4) (x1:Int):Xu GE:=(.to (.h0 ([]:List (List UInt8)) x1))
theorem w8w (l0:List B4) (x1:Int): ∀s,Wj prog (Zy prog 36) (Md l0 x1) (Md l0 x1 s) (FX l0 x1 s)
 | .h0 aD aI=>(lb (fun k0=>(lo fun o0=>(lo fun o1=>let a:=xL (aD.length+1) (aD++[(rd l0 (tn aI)).n]).length;let b:=aD++[(rd l0 (tn aI)).n];(sl Uh 43 [] ⟨[0,1,2,3,7],[],KC,KE⟩ ⟨[],[.keep,.cells [.len b.length],.keep,.keep,.rowed 1 b.length (Zz b)],[]⟩ (CA 7 []) (pp a (pp a (pp (xS (aD.length+1) (Zo (Zz aD) 0 aD.length 1 [(.str (rd l0 (tn aI)).n)]) (Zz (aD++[(rd l0 (tn aI)).n]))) (pp (pp (xF (Zo (Zz aD) 0 aD.length 1 [(.str (rd l0 (tn aI)).n)])) nn) (ww o1 (ww o0 (ww o1 (tt k0 nn)))))))))))) (fun k0=>(sl Uh 33 [] ⟨[4,1],[],KB,KD⟩ b7 (bl 7 0) (pp (fl aD nn) (tt k0 nn)))))
 | .h1 v0 v2 v3=>(lb (fun k0=>(lo fun o0=>(lo fun o1=>(lo fun o2=>(lo fun o3=>let a:=xL v0.length (YP v0 v2 v3).length;let b:=YP v0 v2 v3;(sl Uh 22 [] ⟨[0,1],[],KB,KD⟩ ⟨[(0,.len b.length)],[.rowed 1 b.length (Zz b),.cells [.len b.length]],[[(16,.len b.length)]]⟩ [true] (pp a (pp a (pp (xS v0.length (Xw (Xw (Zz v0) (0+(tn v2)) 0 [(.str (rd v0 (0+(tn v3))))]) (0+(tn v3)) 0 [(.str (rd v0 (0+(tn v2))))]) (Zz (YP v0 v2 v3))) (pp a (pp a (pp (pp (xF (Xw (Xw (Zz v0) (0+(tn v2)) 0 [(.str (rd v0 (0+(tn v3))))]) (0+(tn v3)) 0 [(.str (rd v0 (0+(tn v2))))])) nn) (ww o3 (ww o2 (ww o1 (ww o0 (ww o1 (ww o0 (ww o3 (ww o2 (tt k0 nn))))))))))))))))))))) (fun k0=>(lo fun o0=>(lo fun o1=>(lr 20 3 [1,1,1,1,1,1,0] 1 3 [(4,(.str (Nc (Cd (List UInt8) (v0.length) (fun k=>(Zz v0) (0+k))) ([47]:List UInt8))))] (sl Uh 17 [] (b8 [4]) b7 [false] (pp (pp (pp (xw o0) (pp nn nn)) (pp (xI (List UInt8) (v0.length) (fun k=>(Zz v0) (0+k))) (xw o1))) (tt k0 nn))))))))
theorem w0x (l0:List B4) (x1:Int):Wj prog (Zy prog 36) (Md l0 x1) (Zg prog 36 [(.dat l0.length (Zz l0)),(.int .i64 x1)] true []) (VJ l0 x1):=(sl Uh 31 [(9,1,Zz ([]:List (List UInt8)))] ⟨[3,0,2,1,4],[],KC,KE⟩ ⟨[],[.keep,.cells [.grow 4 1],.keep,.keep,.keep],[]⟩ [] (pp (fl ([]:List (List UInt8)) nn) nn))
theorem u1q (l0:List B4) (x1:Int) (n:Nat) (vs:List B1) (h:Yw (FX l0 x1) n (VJ l0 x1)=.ret vs):Js prog (Zy prog 36) (Zg prog 36 [(.dat l0.length (Zz l0)),(.int .i64 x1)] true []) vs:=by have:=Ze (w8w l0 x1) n _ (w0x l0 x1);rwa [h] at this
inductive H8 where
 | h0 (v5:List UInt8) (v6:Int)
def M2 (l0:List B4) (x1:Int):H8->CE
 | .h0 v5 v6=>⟨⟨33,0,true⟩,none,(Zf prog 39 [1,1,0,1,0,0] 0),none,(Zy prog 3),⟨Ye [(0,(.dat l0.length (Zz l0))),(5,(.str v5)),(6,(ii v6))],Xt [] 0,0,[],true⟩,[],.leaf⟩
def J0 :List (Option (List Nat)):=[some [0,5,6]]
def J1 :List (Option (List Nat)):=[]
def LQ (l0:List B4) (x1:Int):H8->Xu H8
 | .h0 v5 v6=>(bif (decide (v6>=0)) then (bif (JF (rd l0 v6.toNat).n ([47]:List UInt8)) then (bif (JF ((rd l0 v6.toNat).n ++([47]:List UInt8)) v5) then (bif ((decide (0<=v6/\v6<(l0.length:Int)))&&true) then (.to (.h0 (((rd l0 v6.toNat).n ++([47]:List UInt8))++v5) (rd l0 v6.toNat).a)) else .stuck) else .stuck) else .stuck) else (.ret [(.str v5)]))
def VS (l0:List B4) (x1:Int):Xu H8:=(bif ((decide (0<=x1/\x1<(l0.length:Int)))&&true) then (.to (.h0 (rd l0 x1.toNat).n (rd l0 x1.toNat).a)) else .stuck)
theorem w8i (l0:List B4) (x1:Int): ∀s,Wj prog (Zy prog 39) (M2 l0 x1) (M2 l0 x1 s) (LQ l0 x1 s)
 | .h0 v5 v6=>(lb (fun k0=>(lo fun o0=>(lo fun o1=>(lo fun o2=>(sl Uh 31 [] ⟨[],[],J0,J1⟩ b7 [true] (ww o2 (ww o1 (ww o0 (ww o2 (tt k0 nn)))))))))) (fun k0=>(lr 33 3 [1,1,1,1,1,1,0] 1 3 [(4,(.str v5))] (sl Uh 13 [] (b8 [4]) b7 [false] (tt k0 nn)))))
theorem w0a (l0:List B4) (x1:Int):Wj prog (Zy prog 39) (M2 l0 x1) (Zg prog 39 [(.dat l0.length (Zz l0)),(.int .i64 x1)] true []) (VS l0 x1):=(lo fun o0=>(sl Uh 25 [] ⟨[],[],J0,J1⟩ b7 [] (ww o0 (ww o0 nn))))
theorem u0m (l0:List B4) (x1:Int) (n:Nat) (vs:List B1) (h:Yw (LQ l0 x1) n (VS l0 x1)=.ret vs):Js prog (Zy prog 39) (Zg prog 39 [(.dat l0.length (Zz l0)),(.int .i64 x1)] true []) vs:=by have:=Ze (w8i l0 x1) n _ (w0a l0 x1);rwa [h] at this
inductive GL where
 | h0 (v3:Int)
def Nn (l0:List B4):GL->CE
 | .h0 v3=>⟨⟨43,0,true⟩,none,(Zf prog 9 [1,0,1,0,0] 0),none,(Zy prog 9),⟨Ye [(0,(.dat l0.length (Zz l0))),(3,(ii v3))],Xt [] 0,0,[],true⟩,[],.leaf⟩
def KW :List (Option (List Nat)):=[some [0,3]]
def KX :List (Option (List Nat)):=[]
def LJ (l0:List B4):GL->Xu GL
 | .h0 v3=>(bif (decide (v3<(l0.length:Int))) then (bif (decide (v3<300)) then (bif ((decide (0<=v3/\v3<(l0.length:Int)))&&true) then (bif (decide ((((rd l0 v3.toNat).s.length :Nat):Int)>12)) then (.ret [(.bool true)]) else (bif (decide ((((rd l0 v3.toNat).n.length :Nat):Int)>500)) then (.ret [(.bool true)]) else (.to (.h0 (wrap .i64 (v3+1)))))) else .stuck) else (bif (decide ((l0.length:Int)>12)) then (bif (decide ((l0.length:Int)<=200)) then (.ret [(.bool true)]) else (.ret [(.bool (decide ((l0.length:Int)>220)))])) else (.ret [(.bool (decide ((l0.length:Int)>220)))]))) else (bif (decide ((l0.length:Int)>12)) then (bif (decide ((l0.length:Int)<=200)) then (.ret [(.bool true)]) else (.ret [(.bool (decide ((l0.length:Int)>220)))])) else (.ret [(.bool (decide ((l0.length:Int)>220)))])))
def x4a (l0:List B4):Xu GL:=(.to (.h0 0))
theorem v0d (l0:List B4): ∀s,Wj prog (Zy prog 9) (Nn l0) (Nn l0 s) (LJ l0 s)
 | .h0 v3=>let a:=decide ((l0.length:Int)>220);(lb (fun k0=>(lb (fun k1=>(lo fun bH=>let b:=ww bH (tt k1 (tt k0 nn));(lb (fun k2=>(lr 43 9 [1,0,1,0,0,1,0,0,1,0,0] 1 9 [(2,(.bool true))] (sl Uh 40 [] (b8 [2]) b7 (CA 11 []) (tt k2 b)))) (fun k2=>let e:=ww bH (tt k2 b);(lb (fun k3=>(lr 43 9 [1,0,1,0,0,1,0,0,1,0,0] 1 9 [(2,(.bool true))] (sl Uh 40 [] (b8 [2]) b7 (CA 3 (bl 8 128)) (tt k3 e)))) (fun k3=>(sl Uh 44 [] ⟨[],[],KW,KX⟩ b7 (CA 3 (bl 8 0)) (tt k3 e)))))))) (fun k1=>let c:=tt k1 (tt k0 nn);(lb (fun k2=>(lb (fun k3=>(lr 43 3 [1,1,1,1,1,1,0] 1 9 [(2,(.bool true))] (sl Uh 31 [] (b8 [2]) b7 (bl 9 507) (tt k3 (tt k2 c))))) (fun k3=>(lr 43 3 [1,1,1,1,1,1,0] 1 9 [(2,(.bool a))] (sl Uh 31 [] (b8 [2]) b7 (bl 9 59) (tt k3 (tt k2 c))))))) (fun k2=>(lr 43 3 [1,1,1,1,1,1,0] 1 9 [(2,(.bool a))] (sl Uh 31 [] (b8 [2]) b7 (bl 9 3) (tt k2 c)))))))) (fun k0=>(lb (fun k1=>let d:=tt k1 (tt k0 nn);(lb (fun k2=>(lr 43 3 [1,1,1,1,1,1,0] 1 9 [(2,(.bool true))] (sl Uh 31 [] (b8 [2]) b7 (bl 9 504) (tt k2 d)))) (fun k2=>(lr 43 3 [1,1,1,1,1,1,0] 1 9 [(2,(.bool a))] (sl Uh 31 [] (b8 [2]) b7 (bl 9 56) (tt k2 d)))))) (fun k1=>(lr 43 3 [1,1,1,1,1,1,0] 1 9 [(2,(.bool a))] (sl Uh 31 [] (b8 [2]) b7 (bl 9 0) (tt k1 (tt k0 nn))))))))
theorem w2l (l0:List B4):Wj prog (Zy prog 9) (Nn l0) (Zg prog 9 [(.dat l0.length (Zz l0))] true []) (x4a l0):=(sl Uh 11 [] ⟨[],[],KW,KX⟩ b7 [] nn)
theorem u3q (l0:List B4) (n:Nat) (vs:List B1) (h:Yw (LJ l0) n (x4a l0)=.ret vs):Js prog (Zy prog 9) (Zg prog 9 [(.dat l0.length (Zz l0))] true []) vs:=by have:=Ze (v0d l0) n _ (w2l l0);rwa [h] at this
end Go.Am
end
