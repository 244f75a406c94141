/- A part of a proof: several texts in one. -/
import Derived.Test.YthnnmgkacjjpeaaGreatDoorNb3
import Derived.Lib.ItoaLen
import Derived.Lib.AtoiAll
import Derived.Lib.SplitLaws
set_option maxRecDepth 1000000
set_option maxHeartbeats 8000000
set_option linter.unusedVariables false
set_option linter.unusedSimpArgs false
noncomputable section
namespace Go.Am
open IntKind (wrap)
def Py (a b:List UInt8):Bool:=Nat.ble (a.length+b.length) 9223372036854775807
def sLe (a:List UInt8):Bool:=decide (a.length<=9223372036854775807)
theorem j0g {a b:List UInt8} (h:a.length+b.length<=1000000000000):Py a b=true:=by unfold Py;exact A0 (by omega)
theorem SU {a:List UInt8} (h:a.length<=1000000000000):sLe a=true:=by unfold sLe;exact Aa (by omega)
open Go.Proofs Go.Lib
theorem w8 (n:Int) (h:0<=n/\n<256):wrap .u8 n=n:=by unfold wrap;simp [IntKind.signed,IntKind.bits];omega
structure R7 where
 (a b c d e f g:Int)
instance : Xu R7 where
 w:=7
 d:=⟨0,0,0,0,0,0,0⟩
 cells x:=[.int .u8 x.a,.int .i64 x.b,.int .i64 x.c,.int .i64 x.d,.int .i64 x.e,.int .i64 x.f,.int .i64 x.g]
 of l:=⟨Cn (l.getD 0 .undef),Cn (l.getD 1 .undef),Cn (l.getD 2 .undef),Cn (l.getD 3 .undef),Cn (l.getD 4 .undef),Cn (l.getD 5 .undef),Cn (l.getD 6 .undef)⟩
 len _:=rfl
 pos:=by decide
 flat _:=rfl
 sc _:=rfl
 back _:=rfl
open Go.Sort Go.Shelf Go.RowKit
def TY (x y z:Int):Bool:=decide (Cz (Cz x y) z>=(-1000000))&&decide (Cy (Cy x y) z<=1000000)
instance : DecidableEq R7:=Classical.typeDecidableEq _
-- h0: index into an array (choices [true, false, false, false, false, false, false])
def val7 (r:R7):Bool:=decide (r.a<=5)&&(TY r.b r.c r.d&&(TY r.e r.f r.g&&
 (bif decide (r.a<2) then (r.b == r.e)&&(decide (r.c<r.f)&&decide (r.d<r.g)) else bif decide (r.a<4) then (r.c == r.f)&&(decide (r.b<r.e)&&decide (r.d<r.g)) else (r.d == r.g)&&(decide (r.b<r.e)&&decide (r.c<r.f)))))
def FR (L:List R7):Int:=bif decide (3000<L.length) then 4 else bif L.all val7 then 0 else 8
def v6j (L:List R7):Bool:=L.all fun r=>decide (0<=r.a)&&decide (r.a<256)
theorem Ik {a:Nat} (h:a<=1099511627776):decide (a<=Ve)=true:=Aa h
theorem P4 {z n m:Nat} (h:(n+1+1)*(m+1)<=1099511627776):(Nat.beq z z&&((decide (0+n=n))&&decide ((n+1+1)*(m+1)<=Ve)))=true:=by rw [Ad,Ad];exact ⟨BC z,Aa (Al n),Ik h⟩
def FI :List Int->List UInt8
 | []=>[]
 | n::r=>32::(itoa n++FI r)
def S8 (r:R7):List UInt8:=113::117::97::100::(FI [r.a,r.b,r.c,r.d,r.e,r.f,r.g]++[10])
def W0 :List R7->List UInt8
 | []=>[]
 | r::l=>S8 r++W0 l
def u7y (L:List R7):List UInt8:=bif FR L != 0 then [] else bif decide (60000<(W0 L).length) then [] else W0 L
def NS (L:List R7):Int:=bif FR L != 0 then FR L else bif decide (60000<(W0 L).length) then 4 else 0
theorem Qa {n:Int} (h: -1000000<=n/\n<=1000000):(itoa n).length <=21:=itoa_length_le n (by omega) (by omega)
theorem WZ {n:Int} (h: -1000000<=n/\n<=1000000):Yd n=true/\ ∃d,Xk n=d/\itoa n=d/\d.length<=21:=⟨Aa (by omega),_,rfl,rfl,Qa h⟩
theorem j5z (s:List UInt8):(CH s).length =s.length:=rfl
def C8 (s:List UInt8):Option Int:=match atoiAll s with
 | .ok v=>bif decide (itoa v=s/\ -9999999<=v/\v<=9999999) then some v else none
 | _=>none
def FB :List UInt8->Nat->Nat->Option Nat
 | [],_,n=>some n
 | c::r,j,n=>bif decide (c.toNat<48)||(decide (57<c.toNat)||decide (9<j)) then none else FB r (j+1) (10*n+(c.toNat - 48))
def GG (s:List UInt8):Bool:=match s with
 | c::_=>decide (c.toNat=45)
 | []=>false
def HT (s:List UInt8):Nat:=bif GG s then 1 else 0
def v5y (s:List UInt8):Int:=match FB (s.drop (HT s)) 0 0 with
 | some n=>bif GG s then -(n:Int) else n
 | none=>0
def v5x (s:List UInt8):Bool:=match FB (s.drop (HT s)) 0 0 with
 | some n=>decide (HT s<s.length)&&decide (itoa (bif GG s then -(n:Int) else n)=s)
 | none=>false
theorem ZB (c:UInt8) (r:List UInt8) (j n:Nat):FB (c::r) j n=bif decide (c.toNat<48)||(decide (57<c.toNat)||decide (9<j)) then none else FB r (j+1) (10*n+(c.toNat - 48)):=rfl
def badQ :NumEnd Nat:=parseUint10 0 [58]
theorem ZW (c:UInt8) (r:List UInt8) (n:Nat):parseUint10 n (c::r)=if 48<=c.toNat/\c.toNat<=57 then
   if 1844674407370955162<=n then .range
   else if 18446744073709551616<=n*10+(c.toNat - 48) then .range
   else parseUint10 (n*10+(c.toNat - 48)) r
  else badQ:=by
 rw [parseUint10];rfl
theorem x7h (n:Nat):parseUint10 n []=.ok n:=by rw [parseUint10]
theorem y7d : ∀(l m:List UInt8) (j n:Nat),FB (l++m) j n=match FB l j n with
  | none=>none
  | some v=>FB m (j+l.length) v
 | [],m,j,n=>rfl
 | c::r,m,j,n=>by
  rw [AZ,ZB,ZB];cases decide (c.toNat<48)||(decide (57<c.toNat)||decide (9<j)) with
  | true=>rfl
  | false=>rw [Ab,Ab,y7d r m (j+1)];rw [At,show j+1+r.length=j+(r.length+1) by omega]
theorem z2a : ∀(l m:List UInt8) (n:Nat),parseUint10 n (l++m)=match parseUint10 n l with
  | .ok v=>parseUint10 v m
  | e=>e
 | [],m,n=>by rw [x7h];rfl
 | c::r,m,n=>by
  rw [AZ,ZW,ZW];split
  .split
   .rfl
   .split
    .rfl
    .exact z2a r m _
  .rfl
theorem Q4 {u:Nat} (h:u<10):(UInt8.ofNat (48+u)).toNat =48+u:=by rw [UInt8.toNat_ofNat'];omega
theorem Ks : ∀(k u:Nat),u<10 ^ (k+1)->(decDigits u).length <=k+1
 | 0,u,h=>by rw [decDigits,dif_pos (by simpa using h)];exact An _
 | k+1,u,h=>by
  by_cases g:u<10
  .rw [decDigits,dif_pos g];simp
  .rw [decDigits,dif_neg g,Ap,AJ];have:=Ks k (u / 10) (by rw [Nat.pow_succ] at h;omega);omega
theorem y0x (u:Nat):1<=(decDigits u).length :=by
 rw [decDigits];split
 .exact An _
 .rw [Ap,AJ];omega
theorem w5y {u j n:Nat} (h:u<10) (hj:j<=9):FB [UInt8.ofNat (48+u)] j n=some (10*n+u):=by rw [ZB,Q4 h,Ai (by omega),Ai (by omega),Ai (show ¬9<j by omega)];show some (10*n+(48+u - 48))=_;rw [show 48+u - 48=u by omega]
theorem x7g {u n:Nat} (h:u<10) (hn:n<1000000000000):parseUint10 n [UInt8.ofNat (48+u)]=.ok (10*n+u):=by rw [ZW,Q4 h,AG (by omega),Az (by omega),Az (by omega),x7h];rw [show n*10+(48+u - 48)=10*n+u by omega]
theorem x3t : ∀(k u:Nat),u<10 ^ (k+1)->k<=9->FB (decDigits u) 0 0=some u
 | k,u,h,hk=>by
  by_cases g:u<10
  .rw [decDigits,dif_pos g,w5y g (by omega)];simp
  .match k,h,hk with
   | 0,h,_=>omega
   | k+1,h,hk=>
    have hs:u / 10<10 ^ (k+1):=by rw [Nat.pow_succ] at h;omega
    have hl:=Ks k (u / 10) hs;rw [decDigits,dif_neg g,y7d,x3t k (u / 10) hs (by omega)];show FB _ (0+(decDigits (u / 10)).length) _=_;rw [w5y (by omega) (by omega),show 10*(u / 10)+u %10=u by omega]
theorem ZF : ∀(k u:Nat),u<10 ^ (k+1)->k<=9->parseUint10 0 (decDigits u)=.ok u
 | k,u,h,hk=>by
  by_cases g:u<10
  .rw [decDigits,dif_pos g,x7g g (by omega)];simp
  .match k,h,hk with
   | 0,h,_=>omega
   | k+1,h,hk=>
    have hs:u / 10<10 ^ (k+1):=by rw [Nat.pow_succ] at h;omega
    have hb:(10:Nat) ^ (k+1)<=10 ^ 10:=Nat.pow_le_pow_right (by decide) (by omega);rw [decDigits,dif_neg g,z2a,ZF k (u / 10) hs (by omega)];show parseUint10 _ _=_;rw [x7g (by omega) (by omega),show 10*(u / 10)+u %10=u by omega]
theorem x0g : ∀(u:Nat),∃c r,decDigits u=c::r/\48<=c.toNat/\c.toNat<=57:=by
 intro u
 induction u using Nat.strongRecOn with
 | _ u ih=>
  by_cases g:u<10
  .refine ⟨_,[],by rw [decDigits,dif_pos g],?_⟩;rw [Q4 g];omega
  .obtain ⟨c,r,e,h⟩:=ih (u / 10) (by omega);refine ⟨c,r++[UInt8.ofNat (48+u %10)],?_,h⟩;rw [decDigits,dif_neg g,e];rfl
theorem x8m {n:Int} {s:List UInt8} (hs:itoa n=s) (h0: -9999999<=n) (h1:n<=9999999):
  atoiAll s=.ok n/\s.length<=8/\v5x s=true/\v5y s=n:=by
 by_cases hn:n<0
 .have hu : n.natAbs < 10 ^ (6 + 1) := by have:(10:Nat) ^ (6+1)=10000000:=by decide
                                          omega
  have e:s=45::decDigits n.natAbs:=by rw [<-hs];unfold itoa;rw [AG hn]
  have hl:=Ks 6 _ hu;have hp:=y0x n.natAbs;have h45:(45:UInt8).toNat =45:=rfl;have hsg:GG s=true:=by rw [e];rfl
  have hsn:HT s=1:=by unfold HT;rw [hsg];rfl
  have hnl:FB (s.drop (HT s)) 0 0=some n.natAbs:=by rw [hsn,e];exact x3t 6 _ hu (by decide)
  refine ⟨?_,by rw [e,At];omega,?_,?_⟩
  .rw [e];unfold atoiAll;simp only [h45,or_true,if_true];have hm:parseMag (decDigits n.natAbs)=.ok n.natAbs:=by unfold parseMag;rw [Az (by intro hh;rw [hh] at hp;simp at hp),ZF 6 _ hu (by decide)]
   rw [hm];have: ¬9223372036854775808<n.natAbs:=by omega
   simp [this];omega
  .unfold v5x;rw [hnl,hsg,hsn];show (decide (1<s.length)&&decide (itoa (-(n.natAbs:Int))=s))=true;rw [Aa (by rw [e,At];omega),show (-(n.natAbs:Int))=n by omega,Aa hs];rfl
  .unfold v5y;rw [hnl,hsg];show -(n.natAbs:Int)=n;omega
 .have hu : n.toNat < 10 ^ (6 + 1) := by have:(10:Nat) ^ (6+1)=10000000:=by decide
                                         omega
  have e:s=decDigits n.toNat:=by rw [<-hs];unfold itoa;rw [Az hn]
  have hl:=Ks 6 _ hu;have hp:=y0x n.toNat;obtain ⟨c,r,ec,hc⟩:=x0g n.toNat;have hsg:GG s=false:=by rw [e,ec];exact Ai (by omega)
  have hsn:HT s=0:=by unfold HT;rw [hsg];rfl
  have hnl:FB (s.drop (HT s)) 0 0=some n.toNat:=by rw [hsn,e];exact x3t 6 _ hu (by decide)
  refine ⟨?_,by rw [e];omega,?_,?_⟩
  .have hm:parseMag (decDigits n.toNat)=.ok n.toNat:=by unfold parseMag;rw [Az (by intro hh;rw [hh] at hp;simp at hp),ZF 6 _ hu (by decide)]
   rw [e];rw [ec] at hm ⊢;unfold atoiAll;have g1: ¬(c.toNat=43\/c.toNat=45):=by omega
   have g2: ¬c.toNat=45:=by omega
   have g3: ¬9223372036854775808<=n.toNat:=by omega
   simp only [Az g1,hm];simp [g2,g3];omega
  .unfold v5x;rw [hnl,hsg,hsn];show (decide (0<s.length)&&decide (itoa (n.toNat:Int)=s))=true;rw [Aa (by rw [e];omega),show ((n.toNat:Nat):Int)=n by omega,Aa hs];rfl
  .unfold v5y;rw [hnl,hsg];show (n.toNat:Int)=n;omega
theorem v5w {n:Int} {s:List UInt8} (hs:itoa n=s) (h0: -9999999<=n) (h1:n<=9999999):C8 s=some n:=by unfold C8;rw [(x8m hs h0 h1).1];show (bif decide _ then some n else none)=_;rw [Aa ⟨hs,h0,h1⟩];rfl
theorem v5v {s:List UInt8} {n:Int} (h:C8 s=some n):itoa n=s/\ -9999999<=n/\n<=9999999:=by
 unfold C8 at h;split at h
 .rename_i v _;by_cases g:itoa v=s/\ -9999999<=v/\v<=9999999
  .rw [Aa g] at h;obtain rfl:=Ag h;exact g
  .rw [Ai g] at h;cases h
 .cases h
def Xt (b:UInt8):List UInt8->List UInt8->List (List UInt8)
 | cur,[]=>[cur]
 | cur,x::r=>bif x == b then cur::Xt b [] r else Xt b (cur++[x]) r
theorem UJ (b:UInt8): ∀(s cur:List UInt8),Xt b cur s=match Xt b [] s with
  | []=>[]
  | p::l=>(cur++p)::l
 | [],cur=>by simp [Xt]
 | x::r,cur=>by
  unfold Xt;cases x == b with
  | true=>simp
  | false=>
   rw [Ab,Ab,UJ b r (cur++[x]),UJ b r ([]++[x])];cases Xt b [] r with
   | nil=>rfl
   | cons p l=>simp
theorem IY (b:UInt8) (s cur:List UInt8):Xt b cur s≠ []:=by
 induction s generalizing cur with
 | nil=>simp [Xt]
 | cons x r ih=>
  unfold Xt;cases x == b with
  | true=>simp
  | false=>exact ih _
theorem y9x {b x:UInt8} (h:x≠b) (k:Nat) (s:List UInt8):splitK [b] 0 k (x::s)=match splitK [b] 0 k s with
  | []=>[]
  | p::l=>(x::p)::l:=by
 have hp:([b]:List UInt8).isPrefixOf (x::s)=false:=by simp [List.isPrefixOf,Ne.symm h]
 have hix:index (x::s) [b]=if index s [b] == -1 then -1 else index s [b]+1:=by rw [index,hp];simp
 have hge:=index_ge s [b];cases k with
 | zero=>rfl
 | succ k=>
  unfold splitK;by_cases hm:index s [b]= -1
  .rw [hix,AG (AU.2 hm),AG (by decide),AG (AU.2 hm)]
  .have h1: ¬(index s [b] == -1)=true:=fun e=>hm (AU.1 e);have h2: ¬(index s [b]+1 == -1)=true:=fun e=>by have:=AU.1 e;omega
   obtain ⟨j,hj⟩: ∃j:Nat,index s [b]=j:=⟨(index s [b]).toNat,by omega⟩
   rw [hix,Az h1,Az h1,Az h2,hj];have e1:((j:Int)+1).toNat =j+1:=by omega
   have e2:(j:Int).toNat =j:=by omega
   rw [e1,e2];simp only [AJ,Bn,List.take_succ_cons];rw [show j+1+1=(j+1)+1 from rfl,List.drop_succ_cons]
theorem x5z (b:UInt8): ∀s:List UInt8,split s [b]=Xt b [] s
 | []=>by unfold split;rw [count_one];rfl
 | x::r=>by
  have ih:=x5z b r;unfold split at ih ⊢;by_cases h:x=b
  .subst h;rw [count_cons_eq,Nat.add_comm];have hix:index (x::r) [x]=0:=by rw [index];simp [List.isPrefixOf]
   rw [splitK,hix,Az (by decide)];simp only [Int.toNat_zero,Bn,List.take_zero,AJ,Al,List.drop_succ_cons,AR];rw [ih,Xt];simp
  .rw [count_cons_ne x b r h,y9x h,ih,Xt];have hb:(x == b)=false:=by simpa using h
   rw [hb,Ab,UJ b r ([]++[x])];cases Xt b [] r with
   | nil=>rfl
   | cons p l=>rfl
theorem U4 (b:UInt8): ∀(s cur:List UInt8),Xt b cur (s++[b])=Xt b cur s++[[]]
 | [],cur=>by simp [Xt]
 | x::r,cur=>by
  rw [AZ,Xt,Xt];cases x == b with
  | true=>rw [Af,Af,U4 b r];rfl
  | false=>rw [Ab,Ab,U4 b r]
theorem YW (b:UInt8): ∀(s cur:List UInt8),(Xt b cur s).getLast? =some []->(cur=[]/\s=[])\/ ∃t,s=t++[b]
 | [],cur,h=>by left;simp [Xt] at h;exact ⟨h,rfl⟩
 | x ::r,cur,h=>by
  rw [Xt] at h;by_cases hx:x=b
  .subst hx;right;rw [show (x == x)=true by simp,Af,List.getLast?_cons] at h;have hne:=IY x r [];have h':(Xt x [] r).getLast? =some []:=by
    cases hc:Xt x [] r with
    | nil=>exact absurd hc hne
    | cons p l=>
     rw [hc] at h;rw [List.getLast?_cons] at h ⊢
     simpa using h
   rcases YW x r [] h' with ⟨_,rfl⟩ | ⟨t,rfl⟩
   .exact ⟨[],rfl⟩
   .exact ⟨x::t,rfl⟩
  .rw [show (x == b)=false by simpa using hx,Ab] at h;rcases YW b r _ h with ⟨e,_⟩ | ⟨t,rfl⟩
   .simp at e
   .exact .inr ⟨x::t,rfl⟩
theorem UR (b:UInt8): ∀(s cur:List UInt8),(Xt b cur s).length <=s.length+1
 | [],cur=>by simp [Xt]
 | x::r,cur=>by
  rw [Xt,At];cases x == b with
  | true=>have:=UR b r [];rw [Af,At];omega
  | false=>have:=UR b r (cur++[x]);rw [Ab];omega
theorem Ka (b:UInt8): ∀(s cur p:List UInt8),p∈Xt b cur s->p.length<=cur.length+s.length
 | [],cur,p,h=>by simp [Xt] at h;subst h;simp
 | x::r,cur,p,h=>by
  rw [Xt] at h;cases hx:x == b with
  | true=>
   rw [hx,Af] at h;rcases AP.1 h with rfl | h
   .simp
   .have:=Ka b r [] p h;simp at this ⊢;omega
  | false=>rw [hx,Ab] at h;have:=Ka b r _ p h;simp at this ⊢;omega
theorem j6a {s:List UInt8} {i:Nat} (h:i<s.length):CY s i=((s[i].toNat :Nat):Int):=by unfold CY;rw [Bc,As h];rfl
def Jh :List (List UInt8)->Option (List Int)
 | []=>some []
 | w::r=>match C8 w with
  | none=>none
  | some n=>match Jh r with
   | none=>none
   | some l=>some (n::l)
def S7 :List UInt8:=[113,117,97,100]
def S9 :List Int->Option R7
 | [a,b,c,d,e,f,g]=>bif decide (0<=a)&&decide (a<=5) then some ⟨a,b,c,d,e,f,g⟩ else none
 | _=>none
def TG (x:List UInt8):Option R7:=match Xt 32 [] x with
 | w::r=>bif decide (w=S7)&&decide (r.length=7) then (match Jh r with
  | some l=>S9 l
  | none=>none) else none
 | []=>none
def u8e :List (List UInt8)->Option (List R7)
 | []=>some []
 | x::l=>match TG x with
  | none=>none
  | some r=>match u8e l with
   | none=>none
   | some m=>some (r::m)
def ER (s:List UInt8):Option (List (List UInt8)):=match (Xt 10 [] s).getLast? with
 | some []=>some (Xt 10 [] s).dropLast
 | _=>none
def Sr (s:List UInt8):List R7×Int:=bif decide (60000<s.length) then ([],4) else match ER s with
 | none=>([],12)
 | some ls=>match u8e ls with
  | none=>([],12)
  | some L=>bif FR L != 0 then ([],FR L) else (L,0)
section
attribute [local irreducible] FR v6j
-- h11: owes false (choices [true, false, false, false, false])
end
def u7o (s:List UInt8):List R7:=(Sr s).1
def NI (s:List UInt8):Int:=(Sr s).2
theorem v1x {x:List UInt8} {v:Int} (h:atoiAll x=.ok v): -9223372036854775808<=v/\v<=9223372036854775807:=by
 unfold atoiAll at h;split at h
 .cases h
 .simp only [] at h;split at h
  .cases h
  .cases h
  .rename_i u hu;split at h
   .cases h
   .split at h
    .cases h
    .rename_i h1 h2;injection h with h;subst h;split <;> omega
def wN {σ:Type} (x:List UInt8) (R:Xj σ) (K:Int->Xj σ):Xj σ:=(bif (Wq x) then (bif (!(Ja x)) then R else (bif (Yd (Za x)) then (bif (!((Xk (Za x)) == x)) then R else (bif (decide ((Za x)<(-9999999))) then R else (bif (decide ((Za x)>9999999)) then R else K (Za x)))) else .stuck)) else .stuck)
theorem E1 {σ:Type} {x:List UInt8} {R:Xj σ} {K:Int->Xj σ} (hx:x.length<=1000000):wN x R K=(C8 x).elim R K:=by
 unfold wN;rw [Zp (show Wq x=true from Aa (by omega))];unfold C8 Ja Za;cases h:atoiAll x with
 | ok v=>
  have hr:=v1x h;show (bif !true then R else bif Yd v then (bif !(Xk v == x) then R else bif decide (v< -9999999) then R else bif decide (v>9999999) then R else K v) else .stuck)=(bif decide (itoa v=x/\ -9999999<=v/\v<=9999999) then some v else none).elim R K;rw [Ay,Ab,Zp (show Yd v=true from Aa hr)];have hb:(Xk v == x)=decide (itoa v=x):=by rw [AS,AU,Ak];rfl
  rw [hb];by_cases g1:itoa v=x
  .rw [Aa g1,Ay,Ab];by_cases g2:v< -9999999
   .rw [Aa g2,Ai (show ¬(itoa v=x/\ -9999999<=v/\v<=9999999) by omega)];rfl
   .rw [Ai g2,Ab];by_cases g3:v>9999999
    .rw [Aa g3,Ai (show ¬(itoa v=x/\ -9999999<=v/\v<=9999999) by omega)];rfl
    .rw [Ai g3,Aa (show (itoa v=x/\ -9999999<=v/\v<=9999999) from ⟨g1,by omega,by omega⟩)];rfl
  .rw [Ai g1,Ai (show ¬(itoa v=x/\ -9999999<=v/\v<=9999999) from fun h=>g1 h.1)];rfl
 | _=>rfl
theorem Di {n:Nat} {j:Int} (h0:0<=j) (h:j<(n:Int)):(decide ((0:Int)<=j/\j<((n:Nat):Int))&&true)=true:=by rw [Aq];exact Aa ⟨h0,h⟩
theorem RN (x:List UInt8) (b:UInt8):Zi x [b]=Xt b [] x:=x5z b x
open Go.Proofs.Tryz
abbrev ZS (aW:List R4) (v8:Int) (v2:Int):=(aW.set (0+(tn v8)) (R4.mk (rd aW (0+(tn v8))).a (rd aW (0+(tn v8))).b v2 (rd aW (0+(tn v8))).d))
abbrev PZ (aI:List Int):=(Ca (Ws aI.length (DG (Zz (Qn (Ws aI.length (DG (Zz aI))))))))
def v6n :CZ:=⟨⟨29,0,true⟩,none,(.inRangeFunc 0::(Zf prog 167 [1,1,0,1,0] 1)),none,(Zy prog 10),Ye [(2,.nils),(3,(ii 0)),(4,(.ptr 1 0))]⟩
def v6m :=(Ff [(0,⟨.ready,none,29,Ye [(4,(.ptr 1 0))],[11],(DI prog 167 [1,1,0,1,0,0]),(DI prog 167 [1,1,0,1,0,1])⟩)])
abbrev ZT (bF:List R2) (l0:List R4) (v38:Int):=(bF++[(R2.mk (rd l0 (tn v38)).b (rd l0 (tn v38)).d)])
def RG (l0:List R4):B8:=⟨[(.dat l0.length (Zz l0))],195,none⟩
abbrev ZU (aW:List R4) (v1:Int) (v71:List R2) (v73:Int) (v2:Int):=(aW++[(R4.mk v1 (rd v71 (tn v73)).a v2 (rd v71 (tn v73)).b)])
abbrev ZV (aI:List Int) (l0:List R4) (v16:Int):=(aI++[(rd l0 (tn v16)).a,(rd l0 (tn v16)).c])
inductive HS where
def MI (aO:Int) (bD:Int) (bE:Int) (bC:Int):HS->CG
 :=nofun
def x9i (aO:Int) (bD:Int) (bE:Int) (bC:Int):HS->Xj HS
 :=nofun
def VZ (aO:Int) (bD:Int) (bE:Int) (bC:Int):Xj HS:=(bif (decide (aO<bE)) then (bif (decide (bD<bC)) then (bif (decide (aO>=(-1000000))) then (bif (decide (aO<=1000000)) then (bif (decide (bE>=(-1000000))) then (bif (decide (bE<=1000000)) then (bif (decide (bD>=(-1000000))) then (bif (decide (bD<=1000000)) then (bif (decide (bC>=(-1000000))) then (.ret [(.bool (decide (bC<=1000000)))]) else (.ret [(.bool false)])) else (.ret [(.bool false)])) else (.ret [(.bool false)])) else (.ret [(.bool false)])) else (.ret [(.bool false)])) else (.ret [(.bool false)])) else (.ret [(.bool false)])) else (.ret [(.bool false)])) else (.ret [(.bool false)]))
theorem w7w (aO:Int) (bD:Int) (bE:Int) (bC:Int): ∀s,Wp prog (Zy prog 166) (MI aO bD bE bC) (MI aO bD bE bC s) (x9i aO bD bE bC s)
 :=nofun
theorem x9j (aO:Int) (bD:Int) (bE:Int) (bC:Int):Wp prog (Zy prog 166) (MI aO bD bE bC) (Zg prog 166 [(.agg [(.int .i64 aO),(.int .i64 bD),(.int .i64 bE),(.int .i64 bC)])] true []) (VZ aO bD bE bC):=(lb (fun k0=>(lb (fun k1=>let c:=tt k1 (tt k0 nn);(lb (fun k2=>(lb (fun k3=>let a:=tt k3 (tt k2 c);(lb (fun k4=>(lb (fun k5=>let d:=tt k5 (tt k4 a);(lb (fun k6=>let b:=tt k6 d;(lb (fun k7=>(lb (fun k8=>(lr 35 3 [1,1,1,1,1,1,0] 1 9 [(2,(.bool (decide (bC<=1000000))))] (sl Qw 101 [] (b8 [2]) b7 (CE 25 []) (tt k8 (tt k7 b))))) (fun k8=>(lr 35 3 [1,1,1,1,1,1,0] 1 9 [(2,(.bool false))] (sl Qw 101 [] (b8 [2]) b7 (CE 23 (bl 2 0)) (tt k8 (tt k7 b))))))) (fun k7=>(lr 35 3 [1,1,1,1,1,1,0] 1 9 [(2,(.bool false))] (sl Qw 86 [] (b8 [2]) b7 (CE 20 (bl 3 0)) (tt k7 b)))))) (fun k6=>(lr 35 3 [1,1,1,1,1,1,0] 1 9 [(2,(.bool false))] (sl Qw 86 [] (b8 [2]) b7 (CE 18 (bl 5 0)) (tt k6 d)))))) (fun k5=>(lr 35 3 [1,1,1,1,1,1,0] 1 9 [(2,(.bool false))] (sl Qw 71 [] (b8 [2]) b7 (CE 15 (bl 6 0)) (tt k5 (tt k4 a))))))) (fun k4=>(lr 35 3 [1,1,1,1,1,1,0] 1 9 [(2,(.bool false))] (sl Qw 71 [] (b8 [2]) b7 (CE 13 (bl 8 0)) (tt k4 a)))))) (fun k3=>(lr 35 3 [1,1,1,1,1,1,0] 1 9 [(2,(.bool false))] (sl Qw 56 [] (b8 [2]) b7 (CE 10 (bl 9 0)) (tt k3 (tt k2 c))))))) (fun k2=>(lr 35 3 [1,1,1,1,1,1,0] 1 9 [(2,(.bool false))] (sl Qw 56 [] (b8 [2]) b7 (CE 8 (bl 11 0)) (tt k2 c)))))) (fun k1=>(lr 35 3 [1,1,1,1,1,1,0] 1 9 [(2,(.bool false))] (sl Qw 41 [] (b8 [2]) b7 (CE 5 (bl 12 0)) (tt k1 (tt k0 nn))))))) (fun k0=>(lr 35 3 [1,1,1,1,1,1,0] 1 9 [(2,(.bool false))] (sl Qw 41 [] (b8 [2]) b7 (bl 17 0) (tt k0 nn)))))
theorem v9k (aO:Int) (bD:Int) (bE:Int) (bC:Int) (n:Nat) (vs:List B3) (h:Yw (x9i aO bD bE bC) n (VZ aO bD bE bC)=.ret vs):Kj prog (Zy prog 166) (Zg prog 166 [(.agg [(.int .i64 aO),(.int .i64 bD),(.int .i64 bE),(.int .i64 bC)])] true []) vs:=by have:=Ze (w7w aO bD bE bC) n _ (x9j aO bD bE bC);rwa [h] at this
inductive Hs where
 | h0 (v16:Int) (aI:List Int)
 | h1 (v4:Int) (aD:List R4) (bG:List R2) (bN:Int) (bV:Int) (bS:Nat) (aF:List Int)
 | h2 (v4:Int) (v38:Int) (aD:List R4) (bG:List R2) (bN:Int) (bV:Int) (bS:Nat) (aF:List Int) (aK:Int) (dE:Int) (bF:List R2)
 | h3 (v1:Int) (v2:Int) (v71:List R2) (v72:Int) (v73:Int) (cV:List R2) (cL:Int) (aW:List R4) (aC:List R2) (bW:Int) (bS:Nat) (aF:List Int) (aK:List R2)
 | h4 (v2:Int) (v8:Int) (dP:Int) (cV:List R2) (cL:Int) (aW:List R4) (aC:List R2) (bW:Int) (cE:Int) (dC:Nat) (dM:List Int) (bF:List R2)
def NU (l0:List R4):Hs->CG
 | .h0 v16 aI=>⟨⟨34,0,true⟩,none,(Zf prog 199 [1,1,0,1,0,0,1,1,0,0,1,1,0,0] 0),none,(Zy prog 9),⟨Ye [(1,(.ptr 0 0)),(3,(.ptr 2 0)),(8,(.sl 1 0 1 (.un 1))),(9,(ii 1)),(10,(ii 0)),(14,(.dat l0.length (Zz l0))),(15,(ii (l0.length:Int))),(16,(ii v16))],Xs [⟨[(.sl 1 0 1 (.un 1))],201,none⟩,(RG l0),⟨[(.sla 4 1 0 aI.length (.un 1))],83,none⟩,⟨[.nils,.nils,(ii 0),(ii 0)],235,none⟩,⟨rows aI.length (Zz aI),3,some ⟨1,aI.length,(Zz aI)⟩⟩] 0,5,[],true⟩,[⟨⟨29,0,true⟩,(CV prog 167 [1,1,0,0] 2),(Zf prog 167 [1,1,0,0] 1),none,(Zy prog 10),Ye [(2,.nils),(3,(ii 0)),(4,(.ptr 3 0)),(9,(.sl 1 0 1 (.un 1)))]⟩],.leaf⟩
 | .h1 v4 aD bG bN bV bS aF=>⟨⟨76,0,true⟩,none,(Zf prog 225 [1,0,0] 0),none,[],⟨Ye [(0,(.yld 0)),(1,(.ptr 2 0)),(2,(.ptr 4 0)),(4,(ii v4))],Eh [(1,⟨[(.sla 6 4 0 aD.length (.un 4)),(.dat bG.length (Zz bG)),(ii bN),(ii bV)],235,none⟩),(2,⟨[(.sla 3 1 0 bS (.un 1))],83,none⟩),(3,⟨rows aF.length (Zz aF),3,some ⟨1,aF.length,(Zz aF)⟩⟩),(4,⟨[(.sl 5 0 1 (.un 1))],201,none⟩),(5,(RG l0)),(6,⟨rows aD.length (Zz aD),168,some ⟨4,aD.length,(Zz aD)⟩⟩)],7,[],true⟩,[v6n],v6m⟩
 | .h2 v4 v38 aD bG bN bV bS aF aK dE bF=>⟨⟨76,0,true⟩,none,(Zf prog 225 [1,0,0,1,0,0,1,0,1,0,0,1,1,0,0,1,1,0,0] 0),none,[],⟨Ye [(0,(.yld 0)),(1,(.ptr 2 0)),(2,(.ptr 4 0)),(4,(ii v4)),(5,(.ptr 6 0)),(6,(ii 0)),(29,(.sl 5 0 1 (.un 1))),(30,(ii 1)),(31,(ii 0)),(36,(.dat l0.length (Zz l0))),(37,(ii (l0.length:Int))),(38,(ii v38))],Eh [(1,⟨[(.sla 9 4 0 aD.length (.un 4)),(.dat bG.length (Zz bG)),(ii bN),(ii bV)],235,none⟩),(2,⟨[(.sla 3 1 0 bS (.un 1))],83,none⟩),(3,⟨rows aF.length (Zz aF),3,some ⟨1,aF.length,(Zz aF)⟩⟩),(4,⟨[(.sl 5 0 1 (.un 1))],201,none⟩),(5,(RG l0)),(6,⟨[(ii aK),(ii dE),(.sl 7 0 1 (.ex 1))],240,none⟩),(7,⟨[(.sla 8 2 0 bF.length (.un 2))],233,none⟩),(8,⟨rows bF.length (Zz bF),260,some ⟨2,bF.length,(Zz bF)⟩⟩),(9,⟨rows aD.length (Zz aD),168,some ⟨4,aD.length,(Zz aD)⟩⟩)],10,[],true⟩,[v6n],v6m⟩
 | .h3 v1 v2 v71 v72 v73 cV cL aW aC bW bS aF aK=>⟨⟨94,0,true⟩,none,(Zf prog 171 [1,1,1,0,0] 0),none,[],⟨Ye [(0,(.ptr 0 0)),(1,(ii v1)),(2,(ii v2)),(71,(.dat v71.length (Zz v71))),(72,(ii v72)),(73,(ii v73))],Eh [(0,⟨[(.sla 7 4 0 aW.length (.un 4)),(.dat aC.length (Zz aC)),(ii bW),(ii v2)],235,none⟩),(2,⟨[(.sla 3 1 0 bS (.un 1))],83,none⟩),(3,⟨rows aF.length (Zz aF),3,some ⟨1,aF.length,(Zz aF)⟩⟩),(4,⟨[(.sl 5 0 1 (.un 1))],201,none⟩),(5,(RG l0)),(6,⟨[(.dat aK.length (Zz aK))],233,none⟩),(7,⟨rows aW.length (Zz aW),168,some ⟨4,aW.length,(Zz aW)⟩⟩)],8,[],true⟩,[⟨⟨29,0,true⟩,(CV prog 167 [1,1,0,1,0,1,0,1] 5),(Zf prog 167 [1,1,0,1,0,1,0,1] 1),(some 1),[],Ye [(4,(.ptr 0 0)),(21,(ii v1)),(23,(ii v2)),(24,(.dat cV.length (Zz cV)))]⟩,⟨⟨76,0,true⟩,(CV prog 225 [1,0,0,1,0,0,1,1,0] 2),(Zf prog 225 [1,0,0,1,0,0,1,1,0] 1),none,[],Ye [(0,(.yld 1)),(1,(.ptr 2 0)),(2,(.ptr 4 0)),(4,(ii cL)),(72,(.yld 1)),(73,(.agg [(ii v1),(ii v2),(.sl 6 0 1 (.ex 1))]))]⟩,⟨⟨29,0,true⟩,none,(.inRangeFunc 1::(Zf prog 167 [1,1,0,1,0] 1)),none,(Zy prog 10),Ye [(2,.nils),(3,(ii 0)),(4,(.ptr 0 0))]⟩],(Ff [(1,⟨.busy,none,29,Ye [(4,(.ptr 0 0))],[11],(DI prog 167 [1,1,0,1,0,0]),(DI prog 167 [1,1,0,1,0,1])⟩)])⟩
 | .h4 v2 v8 dP cV cL aW aC bW cE dC dM bF=>⟨⟨94,0,true⟩,none,(Zf prog 171 [0,1,0,0,1,0,0] 0),none,[],⟨Ye [(0,(.ptr 0 0)),(2,(ii v2)),(8,(ii v8))],Eh [(0,⟨[(.sla 1 4 0 aW.length (.un 4)),(.dat aC.length (Zz aC)),(ii bW),(ii cE)],235,none⟩),(1,⟨rows aW.length (Zz aW),168,some ⟨4,aW.length,(Zz aW)⟩⟩),(3,⟨[(.sla 4 1 0 dC (.un 1))],83,none⟩),(4,⟨rows dM.length (Zz dM),3,some ⟨1,dM.length,(Zz dM)⟩⟩),(5,⟨[(.sl 6 0 1 (.un 1))],201,none⟩),(6,(RG l0)),(7,⟨[(.dat bF.length (Zz bF))],233,none⟩)],8,[],true⟩,[⟨⟨29,0,true⟩,(CV prog 167 [1,1,0,1,0,1,0,1] 5),(Zf prog 167 [1,1,0,1,0,1,0,1] 1),(some 2),[],Ye [(4,(.ptr 0 0)),(21,(ii dP)),(23,(ii v2)),(24,(.dat cV.length (Zz cV)))]⟩,⟨⟨76,0,true⟩,(CV prog 225 [1,0,0,1,0,0,1,1,0] 2),(Zf prog 225 [1,0,0,1,0,0,1,1,0] 1),none,[],Ye [(0,(.yld 2)),(1,(.ptr 3 0)),(2,(.ptr 5 0)),(4,(ii cL)),(72,(.yld 2)),(73,(.agg [(ii dP),(ii v2),(.sl 7 0 1 (.ex 1))]))]⟩,⟨⟨29,0,true⟩,none,(.inRangeFunc 2::(Zf prog 167 [1,1,0,1,0] 1)),none,(Zy prog 10),Ye [(2,.nils),(3,(ii 0)),(4,(.ptr 0 0))]⟩],(Ff [(2,⟨.busy,none,29,Ye [(4,(.ptr 0 0))],[11],(DI prog 167 [1,1,0,1,0,0]),(DI prog 167 [1,1,0,1,0,1])⟩)])⟩
def KW :List (Option (List Nat)):=[some [1,3,8,9,10,14,15,16],some [2,3,4,9]]
def KY :List (Option (List Nat)):=[]
def j2m :List (Option (List Nat)):=[some [0,1,2,4],some [2,3,4]]
def j2n :List (Option (List Nat)):=[some [4],none,none,none,none,none,none]
def XF :List (Option (List Nat)):=[some [0,1,2,4,5,6,29,30,31,36,37,38],some [2,3,4]]
def XD :List (Option (List Nat)):=[some [4],none,none,none,none,none,none,none,none,none]
def XG :List (Option (List Nat)):=[some [0,1,2,71,72,73],some [4,21,23,24],some [0,1,2,4,72,73],some [2,3,4]]
def XE :List (Option (List Nat)):=[none,some [4],none,none,none,none,none,none]
def KV :List (Option (List Nat)):=[some [0,2,8],some [4,21,23,24],some [0,1,2,4,72,73],some [2,3,4]]
def KX :List (Option (List Nat)):=[none,none,some [4],none,none,none,none,none]
def We (l0:List R4):Hs->Xj Hs
 | .h0 v16 aI=>(bif (decide (v16<(l0.length:Int))) then (bif ((decide (0<=v16/\v16<(l0.length:Int)))&&true) then (bif (Nat.beq 1 1&&((decide (0+aI.length=aI.length))&&decide ((aI.length+2+1)*(8+1)<=Ve))) then (.to (.h0 (wrap .i64 (v16+1)) (aI++[(rd l0 v16.toNat).a,(rd l0 v16.toNat).c]))) else .stuck) else .stuck) else (bif (decide (aI.length<4611686018427387904)) then (bif (decide (aI.length=aI.length)) then (.to (.h1 1 ([]:List R4) ([]:List R2) 0 0 (GV (Ws aI.length (DG (Zz (Qn (Ws aI.length (DG (Zz aI)))))))) (Ca (Ws aI.length (DG (Zz (Qn (Ws aI.length (DG (Zz aI)))))))))) else .stuck) else .stuck))
 | .h1 v4 aD bG bN bV bS aF=>(bif (decide (v4<((bS:Nat):Int))) then (bif ((decide (0<=(wrap .i64 (v4 - 1))/\(wrap .i64 (v4 - 1))<((bS:Nat):Int)))&&true) then (bif (decide ((0+(Int.toNat (wrap .i64 (v4 - 1))))<aF.length)) then (bif ((decide (0<=v4/\v4<((bS:Nat):Int)))&&true) then (bif (decide ((0+v4.toNat)<aF.length)) then (.to (.h2 v4 0 aD bG bN bV bS aF (rd aF (0+(Int.toNat (wrap .i64 (v4 - 1))))) (rd aF (0+v4.toNat)) ([]:List R2))) else .stuck) else .stuck) else .stuck) else .stuck) else (bif (decide ((aD.length:Int)>400)) then (.ret [.nils,(.int .i64 4)]) else (.ret [(.dat aD.length (Zz aD)),(.int .i64 0)])))
 | .h2 v4 v38 aD bG bN bV bS aF aK dE bF=>(bif (decide (v38<(l0.length:Int))) then (bif ((decide (0<=v38/\v38<(l0.length:Int)))&&true) then (bif (decide ((rd l0 v38.toNat).a <=aK)) then (bif (decide (aK<(rd l0 v38.toNat).c)) then (bif (Nat.beq 2 2&&((decide (0+bF.length=bF.length))&&decide ((bF.length+1+1)*(16+1)<=Ve))) then (.to (.h2 v4 (wrap .i64 (v38+1)) aD bG bN bV bS aF aK dE (bF++[(R2.mk (rd l0 v38.toNat).b (rd l0 v38.toNat).d)]))) else .stuck) else (.to (.h2 v4 (wrap .i64 (v38+1)) aD bG bN bV bS aF aK dE bF))) else (.to (.h2 v4 (wrap .i64 (v38+1)) aD bG bN bV bS aF aK dE bF))) else .stuck) else (bif (ZH (B4 bF)) then (bif (decide ((((Vv (B4 bF)).length :Nat):Int)>0)) then (bif (bV == aK) then (bif (Kx (B4 bG) (B4 (Vv (B4 bF)))) then (bif (E5 (B4 bG) (B4 (Vv (B4 bF)))) then (.to (.h4 dE bN aK (Vv (B4 bF)) v4 aD bG bN bV bS aF bF)) else (.to (.h3 aK dE (Vv (B4 bF)) (((Vv (B4 bF)).length :Nat):Int) 0 (Vv (B4 bF)) v4 aD (Vv (B4 bF)) (aD.length:Int) bS aF bF))) else .stuck) else (.to (.h3 aK dE (Vv (B4 bF)) (((Vv (B4 bF)).length :Nat):Int) 0 (Vv (B4 bF)) v4 aD (Vv (B4 bF)) (aD.length:Int) bS aF bF))) else (.to (.h3 aK dE (Vv (B4 bF)) (((Vv (B4 bF)).length :Nat):Int) 0 (Vv (B4 bF)) v4 aD (Vv (B4 bF)) (aD.length:Int) bS aF bF))) else .stuck))
 | .h3 v1 v2 v71 v72 v73 cV cL aW aC bW bS aF aK=>(bif (decide (v73<v72)) then (bif ((decide (0<=v73/\v73<(v71.length:Int)))&&true) then (bif (Nat.beq 4 4&&((decide (0+aW.length=aW.length))&&decide ((aW.length+1+1)*(32+1)<=Ve))) then (.to (.h3 v1 v2 v71 v72 (wrap .i64 (v73+1)) cV cL (aW++[(R4.mk v1 (rd v71 v73.toNat).a v2 (rd v71 v73.toNat).b)]) aC bW bS aF aK)) else .stuck) else .stuck) else (.to (.h1 (wrap .i64 (cL+1)) aW aC bW v2 bS aF)))
 | .h4 v2 v8 dP cV cL aW aC bW cE dC dM bF=>(bif (decide (v8<(aW.length:Int))) then (bif ((decide (0<=v8/\v8<(aW.length:Int)))&&true) then (bif (decide ((0+v8.toNat)<aW.length)) then (.to (.h4 v2 (wrap .i64 (v8+1)) dP cV cL (aW.set (0+v8.toNat) (R4.mk (rd aW (0+v8.toNat)).a (rd aW (0+v8.toNat)).b v2 (rd aW (0+v8.toNat)).d)) aC bW cE dC dM bF)) else .stuck) else .stuck) else (.to (.h1 (wrap .i64 (cL+1)) aW aC bW v2 dC dM)))
def x3v (l0:List R4):Xj Hs:=(.to (.h0 0 ([]:List Int)))
theorem v0c (l0:List R4): ∀s,Wp prog (Zy prog 167) (NU l0) (NU l0 s) (We l0 s)
 | .h0 v16 aI=>(lb (fun k0=>(lo fun o0=>(lo fun o1=>let e:=xL (aI.length+2) (ZV aI l0 v16).length;let g:=ZV aI l0 v16;(sl Qw 32 [] ⟨[0,1,2,3,7],[],KW,KY⟩ ⟨[],[.keep,.keep,.cells [.len g.length],.keep,.rowed 1 g.length (Zz g)],[]⟩ [true] (pp e (pp e (pp (xS (aI.length+2) (Zo (Zz aI) 0 aI.length 1 [(ii (rd l0 (tn v16)).a),(ii (rd l0 (tn v16)).c)]) (Zz (ZV aI l0 v16))) (pp (pp (xF (Zo (Zz aI) 0 aI.length 1 [(ii (rd l0 (tn v16)).a),(ii (rd l0 (tn v16)).c)])) nn) (ww o1 (ww o0 (tt k0 nn))))))))))) (fun k0=>(lo fun o0=>(lo fun o1=>let b:=xG (Nat.beq 1 1);let d:=xG (decide (aI.length<4611686018427387904));let f:=xG (decide (aI.length=aI.length));let h:=xG (Nat.beq 0 0);(sl Qw 46 [(168,4,Zz ([]:List R4))] ⟨[5,3,2,4,0,1,6],[],j2m,j2n⟩ ⟨[],[.keep,.cells [.grow 6 4,.list 0 (Zz ([]:List R2)),.keep,.keep],.keep,.rowed 1 (PZ aI).length (Zz (PZ aI)),.keep,.keep,.keep],[]⟩ (bl 2 0) (pp (xL aI.length (PZ aI).length (by first | exact x7o _ _ | exact Yc rfl)) (pp (xS aI.length (Zz (PZ aI)) (Zz (PZ aI))) (pp (fl (PZ aI) (fl ([]:List R4) nn)) (pp (pp b (pp b (pp h (pp f (pp (xG (K3 (Zz (Qn (Ws aI.length (DG (Zz aI))))))) d))))) (pp (pp b (pp b (pp h (pp f (pp (xG (K3 (Zz aI))) d))))) (tt k0 nn)))))))))))
 | .h1 v4 aD bG bN bV bS aF=>(lb (fun k0=>(lo fun o0=>(lo fun o1=>(lo fun o2=>(lo fun o3=>(sl Qw 48 [(260,2,Zz ([]:List R2))] ⟨[0,1,2,3,4,5,7,8,9,6],[],XF,XD⟩ ⟨[],(Hx 7 [.cells [.grow 8 2],.keep,.keep]),[]⟩ (CE 3 []) (pp (fl aF (fl ([]:List R2) (fl aD nn))) (ww o3 (ww o2 (ww o1 (ww o0 (tt k0 nn)))))))))))) (fun k0=>(lb (fun k1=>(lr 29 3 [1,1,1,1,1,1,0] 1 10 [(2,.nils),(3,(ii 4))] (sl Qw 43 [] (b8 [2,3]) b7 (bl 2 2) (tt k1 (tt k0 nn))))) (fun k1=>(lr 29 3 [1,1,1,1,1,1,0] 1 10 [(2,(.dat aD.length (Zz aD))),(3,(ii 0))] (sl Qw 48 [] ⟨[],[6],[some [2,3]],[]⟩ ⟨[(2,.frz aD.length aD.length (Zz aD) (Zz aD))],[],[]⟩ (bl 2 0) (pp (xZ (DW 4 4 0 aD.length aD.length (Zz aD)) aD.length (Zz aD)) (pp (xL aD.length aD.length) (pp (xS aD.length (Zz aD) (Zz aD)) (pp (fl aD nn) (tt k1 (tt k0 nn))))))))))))
 | .h2 v4 v38 aD bG bN bV bS aF aK dE bF=>(lb (fun k0=>(lo fun aG=>let f:=ww aG (tt k0 nn);let j:=fl aF (fl bF (fl aD nn));let o:=List.range 10;(lb (fun k1=>(lb (fun k2=>(lo fun o0=>let e:=xL (bF.length+1) (ZT bF l0 v38).length;let i:=ZT bF l0 v38;(sl Qw 39 [] ⟨[0,1,2,3,4,5,6,7,12,9],[],XF,XD⟩ ⟨[],(Hx 7 [.cells [.len i.length],.rowed 2 i.length (Zz i),.keep]),[]⟩ (CE 7 []) (pp e (pp e (pp (xS (bF.length+1) (Zo (Zz bF) 0 bF.length 2 [(ii (rd l0 (tn v38)).b),(ii (rd l0 (tn v38)).d)]) (Zz (ZT bF l0 v38))) (pp (fl aF (pp (xF (Zo (Zz bF) 0 bF.length 2 [(ii (rd l0 (tn v38)).b),(ii (rd l0 (tn v38)).d)])) (fl aD nn))) (ww o0 (tt k2 (tt k1 f)))))))))) (fun k2=>(sl Qw 39 [] ⟨o,[],XF,XD⟩ b7 (CE 6 [false]) (pp j (tt k2 (tt k1 f))))))) (fun k1=>(sl Qw 39 [] ⟨o,[],XF,XD⟩ b7 (bl 7 1) (pp j (tt k1 f))))))) (fun k0=>let c:=xZ (DW 2 2 0 bF.length bF.length (Zz bF)) bF.length (Zz bF);let h:=xS bF.length (Zz bF) (Zz bF);let l:=xL bF.length bF.length;let m:=fl aD (fl aF nn);(Wj (sl Qw (C':=⟨⟨29,0,true⟩,(CV prog 167 [1,1,0,1,0,1,0,0] 4),(Zf prog 167 [1,1,0,1,0,1,0,0] 1),(some 0),[],⟨Ye [(4,(.ptr 1 0)),(5,(.ptr 3 0)),(16,(.dat bF.length (Zz bF)))],Eh [(1,⟨[(.sla 2 4 0 aD.length (.un 4)),(.dat bG.length (Zz bG)),(ii bN),(ii bV)],235,none⟩),(2,⟨rows aD.length (Zz aD),168,some ⟨4,aD.length,(Zz aD)⟩⟩),(3,⟨[(ii aK),(ii dE),(.sl 4 0 1 (.ex 1))],240,none⟩),(4,⟨[(.dat bF.length (Zz bF))],233,none⟩),(5,⟨[(.sla 6 1 0 bS (.un 1))],83,none⟩),(6,⟨rows aF.length (Zz aF),3,some ⟨1,aF.length,(Zz aF)⟩⟩),(7,⟨[(.sl 8 0 1 (.un 1))],201,none⟩),(8,⟨[(.dat l0.length (Zz l0))],195,none⟩)],9,[],true⟩,[⟨⟨76,0,true⟩,(CV prog 225 [1,0,0,1,0,0,1,1,0] 2),(Zf prog 225 [1,0,0,1,0,0,1,1,0] 1),none,[],Ye [(0,(.yld 0)),(1,(.ptr 5 0)),(2,(.ptr 7 0)),(4,(ii v4)),(72,(.yld 0)),(73,(.agg [(ii aK),(ii dE),(.sl 4 0 1 (.ex 1))]))]⟩,⟨⟨29,0,true⟩,none,(.inRangeFunc 0::(Zf prog 167 [1,1,0,1,0] 1)),none,(Zy prog 10),Ye [(2,.nils),(3,(ii 0)),(4,(.ptr 1 0))]⟩],(Ff [(0,⟨.busy,none,29,Ye [(4,(.ptr 1 0))],[11],(DI prog 167 [1,1,0,1,0,0]),(DI prog 167 [1,1,0,1,0,1])⟩)])⟩) 37 [] ⟨[0,1,9,10,7,2,3,4,5],[8],[some [4,5,16],some [0,1,2,4,72,73],some [2,3,4]],[some [4],none,none,none,none,none,none,none,none]⟩ ⟨[(16,.frz bF.length bF.length (Zz bF) (Zz bF))],[.keep,.keep,.keep,.keep,.cells [.frz bF.length bF.length (Zz bF) (Zz bF)],.keep,.keep,.keep,.keep],[]⟩ (bl 2 0) (pp c (pp l (pp h (pp c (pp l (pp h (pp m (pp (fl bF nn) (tt k0 nn)))))))))) (lo fun aG=>let a:=pp (pp (xr bF) (xw aG)) nn;let g:=fl aF (fl aD nn);(lb (fun k1=>(lb (fun k2=>(lo fun cS=>let n:=tt k2 (tt k1 a);(lb (fun k3=>(sl Qw 49 [] ⟨[1,2,0,5,6,7,8,4],[],KV,KX⟩ b7 (CE 13 []) (pp m (tt k3 (pp (pp (xr bG) (pp (xI R2 (Vv (B4 bF)).length (Zz (Vv (B4 bF)))) (xw cS))) n))))) (fun k3=>(sl Qw 69 [] ⟨[1,0,5,6,7,8,4,2],[],XG,XE⟩ b7 (CE 12 [false]) (pp g (tt k3 (pp (pp (xr bG) (pp (xI R2 (Vv (B4 bF)).length (Zz (Vv (B4 bF)))) (xw cS))) n)))))))) (fun k2=>(sl Qw 69 [] ⟨[1,0,5,6,7,8,4,2],[],XG,XE⟩ b7 (CE 6 (bl 7 0)) (pp g (tt k2 (tt k1 a))))))) (fun k1=>(sl Qw 69 [] ⟨[1,0,5,6,7,8,4,2],[],XG,XE⟩ b7 (bl 13 0) (pp g (tt k1 a)))))))))
 | .h3 v1 v2 v71 v72 v73 cV cL aW aC bW bS aF aK=>(lb (fun k0=>(lo fun o0=>(lo fun o1=>let c:=xL (aW.length+1) (ZU aW v1 v71 v73 v2).length;let d:=ZU aW v1 v71 v73 v2;(sl Qw 23 [] ⟨[0,1,2,3,4,5,6,10],[],XG,XE⟩ ⟨[],[.cells [.len d.length,.keep,.keep,.keep],.keep,.keep,.keep,.keep,.keep,.keep,.rowed 4 d.length (Zz d)],[]⟩ [true] (pp c (pp c (pp (xS (aW.length+1) (Zo (Zz aW) 0 aW.length 4 [(ii v1),(ii (rd v71 (tn v73)).a),(ii v2),(ii (rd v71 (tn v73)).b)]) (Zz (ZU aW v1 v71 v73 v2))) (pp (fl aF (pp (xF (Zo (Zz aW) 0 aW.length 4 [(ii v1),(ii (rd v71 (tn v73)).a),(ii v2),(ii (rd v71 (tn v73)).b)])) nn)) (ww o1 (ww o0 (tt k0 nn))))))))))) (fun k0=>(sl Qw 22 [] ⟨[1,0,2,3,4,5,7],[],j2m,j2n⟩ b7 (bl 2 0) (pp (fl aF (fl aW nn)) (tt k0 nn)))))
 | .h4 v2 v8 dP cV cL aW aC bW cE dC dM bF=>(lb (fun k0=>(lo fun o0=>(lo fun o1=>let a:=xL aW.length (ZS aW v8 v2).length;let b:=ZS aW v8 v2;(sl Qw 33 [] ⟨(List.range 8),[],KV,KX⟩ ⟨[],[.cells [.len b.length,.keep,.keep,.keep],.rowed 4 b.length (Zz b),.keep,.keep,.keep,.keep,.keep,.keep],[]⟩ [true] (pp a (pp a (pp (xS aW.length (Xw (Zz aW) (0+(tn v8)) 2 [(ii v2)]) (Zz (ZS aW v8 v2))) (pp (pp (xF (Xw (Zz aW) (0+(tn v8)) 2 [(ii v2)])) (fl dM nn)) (ww o1 (ww o0 (tt k0 nn))))))))))) (fun k0=>(sl Qw 36 [] ⟨[2,0,3,4,5,6,1],[],j2m,j2n⟩ b7 (bl 2 0) (pp (fl dM (fl aW nn)) (tt k0 nn)))))
theorem w2a (l0:List R4):Wp prog (Zy prog 167) (NU l0) (Zg prog 167 [(.dat l0.length (Zz l0))] true []) (x3v l0):=(sl Qw 56 [(3,1,Zz ([]:List Int))] ⟨[2,1,3,0,4],[],KW,KY⟩ ⟨[],[.keep,.keep,.cells [.grow 4 1],.keep,.keep],[]⟩ [true] (pp (fl ([]:List Int) nn) nn))
theorem u3a (l0:List R4) (n:Nat) (vs:List B3) (h:Yw (We l0) n (x3v l0)=.ret vs):Kj prog (Zy prog 167) (Zg prog 167 [(.dat l0.length (Zz l0))] true []) vs:=by have:=Ze (v0c l0) n _ (w2a l0);rwa [h] at this
theorem v7x {i n:Nat} (h:i<n):decide ((i:Int)<(n:Int))=true:=by grind
theorem x8b {σ:Type} (step:σ->Xj σ) (a b:Nat) (s:Xj σ):Yw step (a+b) s=Yw step a (Yw step b s):=by
 induction b generalizing s with
 | zero=>cases s <;> simp [Yw]
 | succ b ih=>cases s with
  | «to» s=>exact ih (step s)
  | ret vs=>simp only [Zh]
  | stuck=>cases a <;> cases b <;> rfl
theorem u8q {i:Nat}:decide ((i:Int)>=0)=true:=by grind
def Pa {α:Type} [Xu α] (out:List α):List B3:=bif decide ((out.length:Int)>400) then [.nils,.int .i64 4] else [.dat out.length (Zz out),.int .i64 0]
def It {α:Type} [Xu α] (e:Int) (L:List α):List B3:=bif e != 0 then [.nils,.int .i64 e] else [.dat L.length (Zz L),.int .i64 0]
def GT {α:Type} (e:Int) (L:List α):List α:=bif e != 0 then [] else L
theorem u1k {α:Type} [Xu α] (e:Int) (L:List α) (ρ:B7) (u:Value) (hu:Zr ρ (Js (It e L)) u):Zr ρ (.tup [.dat (GT e L).length (Zz (GT e L)),.int .i64 e]) u:=by
 unfold It at hu;unfold GT;by_cases h:e=0
 .subst h;exact hu
 .have h:(e != 0)=true:=by simpa using h
  rw [h] at hu ⊢;exact Gn (.cons (Gv α) (Ci.refl _)) ρ u hu
theorem j1l {α:Type} [Xu α] (e:Int) (L:List α):pf 3 (Js (It e L))=true:=by unfold It;cases (e != 0) <;> rfl
def IS (n:Nat):Int:=bif decide ((n:Int)>400) then 4 else 0
theorem v8m {α:Type} [Xu α] (L:List α):Pa L=It (IS L.length) L:=by
 grind [Pa,It,IS]
theorem x0y : ∀(L:List R3) (o last:Int) (inn:Bool) (out:List R2),(Gk L o last inn out).length <=out.length+L.length
 | [],_,_,_,out=>An _
 | e::r,o,last,inn,out=>by rw [VX];have:=x0y r (o+e.c) e.a (decide (o+e.c>0)) (E4 out last inn e.a);have:=y1b out last inn e.a;simp only [At];omega
theorem x9s (l:List R3):(Cv l).length =l.length:=by
 by_cases h:Dr l=true
 .exact (PS l h).1.length_eq
 .unfold Cv;grind
theorem x9u (l:List R2):(Vv l).length <=800:=by
 grind [Vv,Fk,x0y,x9s,YA]
def DU (r:R4):Bool:=decide (r.a<r.c)&&(decide (r.b<r.d)&&(decide (r.a>= -1000000)&&(decide (r.a<=1000000)&&(decide (r.c>= -1000000)&&(decide (r.c<=1000000)&&(decide (r.b>= -1000000)&&(decide (r.b<=1000000)&&(decide (r.d>= -1000000)&&decide (r.d<=1000000)))))))))
def D4 :DQ R4 R2:=⟨R4.a,R4.c,fun r=>⟨r.b,r.d⟩,fun x x' s=>⟨x,s.a,x',s.b⟩,fun x r=>⟨r.a,r.b,x,r.d⟩,Vv,E5⟩
theorem PC (l:List R4) (x:Int):(D4.sec l x).length <=1000:=AN (x9u _) (by omega)
section
variable (l:List R4) (hl:l.length<=400)
include hl
theorem u8b (i:Nat) (out:List R4) (last:List R2) (first fin x x':Int): ∀(k j:Nat) (acc:List R2),j+k=l.length->acc.length<=j->
  ∃n,∀N,Yw (We l) (N+n) (.to (.h2 (i:Int) (j:Int) out last first fin ((D4.cuts l).length) (Ca (Qn (D4.ends l))) x x' acc))=Yw (We l) N (.to (.h2 (i:Int) (l.length:Int) out last first fin ((D4.cuts l).length) (Ca (Qn (D4.ends l))) x x' (acc++D4.inn (l.drop j) x)))
 | 0,j,acc,h,ha=>by refine ⟨0,fun N=> ?_⟩;rw [Aw (by omega),show D4.inn ([]:List R4) x=[] from rfl,AL,Bn,show j=l.length by omega]
 | k+1,j,acc,h,ha=>by
  have hj:j<l.length:=by omega
  obtain ⟨n,hn⟩:=u8b i out last first fin x x' k (j+1) (acc++D4.inn [rd l j] x) (by omega) (by have:=D4.inn_length [rd l j] x;grind)
  refine ⟨n+1,fun N=> ?_⟩;have e:D4.inn (l.drop j) x=D4.inn [rd l j] x++D4.inn (l.drop (j+1)) x:=by rw [Xx hj,<-D4.inn_append];rfl
  rw [e,<-AO,Zw,<-AH,<-hn N];by_cases h1:D4.lo (rd l j)<=x
  .by_cases h2:x<D4.hi (rd l j)
   .rw [D4.inn_t _ _ h1 h2];simp only [D4] at h1 h2 ⊢;simp (disch:=omega) only [We,Wc,Yg,Zt,Yb,Ym,Xi,Xc,Xn,Yf,Zm,Zk,Xr,Zj,Al,AA,Aq,Ar,Af,Ab]
   .rw [D4.inn_f2 _ _ h2,AL];simp only [D4] at h1 h2;simp (disch:=omega) only [We,Wc,Yt,Yg,Zt,Yb,Ym,Xi,Xc,Xn,Yf,Zm,Zk,Xr,Zj,Al,AA,Aq,Ar,Af,Ab]
  .rw [D4.inn_f1 _ _ h1,AL];simp only [D4] at h1;simp (disch:=omega) only [We,Fu,Yg,Zt,Yb,Ym,Xi,Xc,Xn,Yf,Zm,Zk,Xr,Zj,Al,AA,Aq,Ar,Af,Ab]
theorem u8a (i:Nat) (hi:i<=1000) (x x':Int) (s last:List R2) (first:Int) (inn:List R2) (hs:s.length<=1000): ∀(k j:Nat) (out:List R4),j+k=s.length->out.length<=10000000+j->
  ∃n,∀N,Yw (We l) (N+n) (.to (.h3 x x' s (s.length:Int) (j:Int) s (i:Int) out last first ((D4.cuts l).length) (Ca (Qn (D4.ends l))) inn))=Yw (We l) N (.to (.h1 ((i+1:Nat):Int) (out++(s.drop j).map (D4.put x x')) last first x' ((D4.cuts l).length) (Ca (Qn (D4.ends l)))))
 | 0,j,out,h,ho=>by
  have _u:=hl;refine ⟨1,fun N=> ?_⟩
  grind [Zw,We,Zm]
 | k+1,j,out,h,ho=>by
  obtain ⟨n,hn⟩:=u8a i hi x x' s last first inn hs k (j+1) (out++[D4.put x x' (rd s j)]) (by omega) (by simp;omega)
  refine ⟨n+1,fun N=> ?_⟩;have:=hn N;rw [Xx (show j<s.length by omega),A5,<-AO,Zw];simp (disch:=omega) only [We,Yg,Zt,Yb,Ym,Xi,Xc,Xn,Yf,Zm,Zk,Xr,Zj,Al,AA,Aq,Ar,Af,Ab];rw [AH] at this;exact this
theorem u7z (i:Nat) (hi:i<=1000) (x x' fin:Int) (s last:List R2) (first:Int) (inn:List R2): ∀(k j:Nat) (out:List R4),j+k=out.length->out.length<=10000000->
  ∃n,∀N,Yw (We l) (N+n) (.to (.h4 x' (j:Int) x s (i:Int) out last first fin ((D4.cuts l).length) (Ca (Qn (D4.ends l))) inn))=Yw (We l) N (.to (.h1 ((i+1:Nat):Int) (D4.grow out j x') last first x' ((D4.cuts l).length) (Ca (Qn (D4.ends l)))))
 | 0,j,out,h,ho=>by
  have _u:=hl;refine ⟨1,fun N=> ?_⟩;rw [D4.grow_nil _ _ _ (by omega),Zw]
  grind [We,Zm]
 | k+1,j,out,h,ho=>by
  obtain ⟨n,hn⟩:=u7z i hi x x' fin s last first inn k (j+1) (out.set j (D4.ext x' (rd out j))) (by simp;omega) (by grind)
  refine ⟨n+1,fun N=> ?_⟩;have:=hn N;rw [D4.grow_set out j _ (by omega)] at this;rw [<-AO,Zw];simp (disch:=omega) only [We,Yg,Zt,Yb,Ym,Xi,Xc,Xn,Yf,Zm,Zk,Xr,Zj,Al,AA,Aq,Ar,Af,Ab];exact this
theorem v6l : ∀(k i:Nat) (s:Sw R4 R2),k=(D4.cuts l).length - 1 - i->i<=(D4.cuts l).length ->s.out.length<=i*1000->s.last.length<=1000->s.first<=s.out.length->
  ∃n,Yw (We l) n (.to (.h1 ((i+1:Nat):Int) s.out s.last (s.first:Int) s.fin ((D4.cuts l).length) (Ca (Qn (D4.ends l)))))=.ret (Pa (D4.go l k i s).out)
 | 0,i,s,h,hi,ho,hla,hf=>by
  have hc:=D4.cuts_length l;refine ⟨1,?_⟩;rw [Zw,show D4.go l 0 i s=s from rfl]
  grind [Pa,We,Zh]
 | k +1,i,s,h,hi,ho,hla,hf=>by
  have hc:=D4.cuts_length l;have hi1:i+1<(D4.cuts l).length :=by omega
  have hpl:(Ca (Qn (D4.ends l))).length =2*l.length:=by rw [X6,UU,D4.ends_length]
  have r0:rd (Ca (Qn (D4.ends l))) i=rd (D4.cuts l) i:=W4 _ _ (by show i<(D4.cuts l).length;omega);have r1:rd (Ca (Qn (D4.ends l))) (i+1)=rd (D4.cuts l) (i+1):=W4 _ _ (by show i+1<(D4.cuts l).length;omega);have hbig:i*1000<=1000*1000:=AE _ (by omega);have hsl:=PC l (rd (D4.cuts l) i);have hsd:D4.sec l (rd (D4.cuts l) i)=Vv (D4.inn l (rd (D4.cuts l) i)):=rfl;obtain ⟨n3,h3⟩:=u8b l hl (i+1) s.out s.last (s.first:Int) s.fin (rd (D4.cuts l) i) (rd (D4.cuts l) (i+1)) l.length 0 [] (Al _) (An _);simp only [AR,A1,HM] at h3;have w1:ZH (D4.inn l (rd (D4.cuts l) i))=true:=rfl;have w2:Kx s.last (Vv (D4.inn l (rd (D4.cuts l) i)))=true:=Aa (by omega);have ol:=D4.one_length l (rd (D4.cuts l) i) (rd (D4.cuts l) (i+1)) s;have st0: ∀N,Yw (We l) (N+n3+1) (.to (.h1 ((i+1:Nat):Int) s.out s.last (s.first:Int) s.fin ((D4.cuts l).length) (Ca (Qn (D4.ends l)))))=Yw (We l) N (.to (.h2 ((i+1:Nat):Int) (l.length:Int) s.out s.last (s.first:Int) s.fin ((D4.cuts l).length) (Ca (Qn (D4.ends l))) (rd (D4.cuts l) i) (rd (D4.cuts l) (i+1)) (D4.inn l (rd (D4.cuts l) i)))):=fun N=>by
   rw [<-h3 N,Zw];have e1:wrap .i64 (((i+1:Nat):Int) - 1)=(i:Int):=by rw [Yy];exact Zm (by omega)
   simp (disch:=omega) only [We,e1,r0,r1,Yg,Zt,Yb,Ym,Xi,Xc,Xn,Yf,Zm,Zk,Xr,Zj,Al,AA,Aq,Ar,Af,Ab]
  rcases Vr (decide (0<(D4.sec l (rd (D4.cuts l) i)).length)&&((s.fin == rd (D4.cuts l) i)&&D4.same s.last (D4.sec l (rd (D4.cuts l) i)))) with q | q
  .obtain ⟨n5,h5⟩:=u7z l hl (i+1) (by omega) (rd (D4.cuts l) i) (rd (D4.cuts l) (i+1)) s.fin (D4.sec l (rd (D4.cuts l) i)) s.last (s.first:Int) (D4.inn l (rd (D4.cuts l) i)) (s.out.length - s.first) s.first s.out (by omega) (by omega)
   have e:D4.one l (rd (D4.cuts l) i) (rd (D4.cuts l) (i+1)) s=⟨D4.grow s.out s.first (rd (D4.cuts l) (i+1)),s.last,s.first,rd (D4.cuts l) (i+1)⟩:=by unfold DQ.one;rw [q];rfl
   obtain ⟨n0,h0⟩:=v6l k (i+1) (D4.one l (rd (D4.cuts l) i) (rd (D4.cuts l) (i+1)) s) (by omega) (by omega) (by omega) (by grind) (by grind [DQ.grow_length]);refine ⟨n0+n5+1+n3+1,?_⟩;rw [st0 (n0+n5+1),Zw];simp only [Ad,Ak] at q;obtain ⟨q1,q2,q3⟩:=q;have q3':E5 s.last (Vv (D4.inn l (rd (D4.cuts l) i)))=true:=q3
   grind [We,Yg,DQ.go]
  .obtain ⟨n4,h4⟩:=u8a l hl (i+1) (by omega) (rd (D4.cuts l) i) (rd (D4.cuts l) (i+1)) (D4.sec l (rd (D4.cuts l) i)) (D4.sec l (rd (D4.cuts l) i)) (s.out.length:Int) (D4.inn l (rd (D4.cuts l) i)) hsl (D4.sec l (rd (D4.cuts l) i)).length 0 s.out (Al _) (by omega);simp only [AR,HM] at h4;have e:D4.one l (rd (D4.cuts l) i) (rd (D4.cuts l) (i+1)) s=⟨s.out++(D4.sec l (rd (D4.cuts l) i)).map (D4.put (rd (D4.cuts l) i) (rd (D4.cuts l) (i+1))),D4.sec l (rd (D4.cuts l) i),s.out.length,rd (D4.cuts l) (i+1)⟩:=by unfold DQ.one;rw [q];rfl
   obtain ⟨n0,h0⟩:=v6l k (i+1) (D4.one l (rd (D4.cuts l) i) (rd (D4.cuts l) (i+1)) s) (by omega) (by omega) (by omega) (by grind) (by rw [e];simp);have hg:Yw (We l) 1 (.to (.h2 ((i+1:Nat):Int) (l.length:Int) s.out s.last (s.first:Int) s.fin ((D4.cuts l).length) (Ca (Qn (D4.ends l))) (rd (D4.cuts l) i) (rd (D4.cuts l) (i+1)) (D4.inn l (rd (D4.cuts l) i))))=.to (.h3 (rd (D4.cuts l) i) (rd (D4.cuts l) (i+1)) (D4.sec l (rd (D4.cuts l) i)) ((D4.sec l (rd (D4.cuts l) i)).length :Int) 0 (D4.sec l (rd (D4.cuts l) i)) ((i+1:Nat):Int) s.out (D4.sec l (rd (D4.cuts l) i)) (s.out.length:Int) ((D4.cuts l).length) (Ca (Qn (D4.ends l))) (D4.inn l (rd (D4.cuts l) i))):=by
    rw [show (1:Nat)=0+1 from rfl,Zw];rw [hsd] at q ⊢;have e3:D4.same s.last (Vv (D4.inn l (rd (D4.cuts l) i)))=E5 s.last (Vv (D4.inn l (rd (D4.cuts l) i))):=rfl;rw [e3] at q;by_cases q1:0<(Vv (D4.inn l (rd (D4.cuts l) i))).length
    .rw [Aa q1,Ar] at q;rcases Vr (s.fin == rd (D4.cuts l) i) with q2 | q2
     .rw [q2,Ar] at q;simp (disch:=omega) only [We,Yg,Zt,Yt,Xv,q2,q,w1,w2,Af,Ab];rfl
     .simp (disch:=omega) only [We,Yg,Zt,Yt,Xv,q2,w1,w2,Af,Ab];rfl
    .simp (disch:=omega) only [We,Yg,Zt,Yt,Wz,w1,w2,Af,Ab];rfl
   refine ⟨n0+n4+1+n3+1,?_⟩;simp_all [x8b,DQ.go]
theorem u8c : ∀(k i:Nat) (acc:List Int),i+k=l.length->acc=D4.ends (l.take i)-> ∃n,Yw (We l) n (.to (.h0 (i:Int) acc))=.ret (Pa (D4.go l ((D4.cuts l).length - 1) 0 ⟨[],[],0,0⟩).out)
 | 0,i,acc,h,ha=>by
  have e:acc=D4.ends l:=by grind
  subst e;have hle:=D4.ends_length l;obtain ⟨n,hn⟩:=v6l l hl ((D4.cuts l).length - 1) 0 ⟨[],[],0,0⟩ (by omega) (AF _) (AF _) (AF _) (AF _);refine ⟨n+1,?_⟩;rw [Zw];simp (disch:=omega) only [We,X5,x1q,v8j,Yt,Xc,Xn,AA,Af,Ab];exact hn
 | k+1,i,acc,h,ha=>by
  have hle:=D4.ends_length (l.take i);have hacc:acc.length<=2*i:=by grind
  obtain ⟨n,hn⟩:=u8c k (i+1) (acc++D4.ends [rd l i]) (by omega) (by
   rw [ha,Bx];have:l[i]? =some (rd l i):=by grind [Wb]
   rw [this,D4.ends_append];rfl)
  refine ⟨n+1,?_⟩;rw [Zw];simp (disch:=omega) only [We,Yg,Zt,Yb,Ym,Xi,Xc,Xn,Yf,Zm,Zk,Xr,Zj,Al,AA,Aq,Ar,Af,Ab];exact hn
end
def GO (l:List R4):Int:=IS (D4.out l).length
def F2 (l:List R4):List R4:=GT (GO l) (D4.out l)
def Lu (l:List R4):Int:=GO l
def QO (l:List R4):Bool:=decide (l.length<=400)
theorem j2l (l:List R4) (h:QO l=true): ∃n,Yw (We l) n (x3v l)=.ret (It (GO l) (D4.out l)):=by rw [show It (GO l) (D4.out l)=Pa (D4.out l) from (v8m _).symm];exact u8c l (Av h) l.length 0 [] (Al _) rfl
def Fy (a b c d:Int):Bool:=DU ⟨a,b,c,d⟩
theorem u9d (a b c d:Int): ∃N,Yw (x9i a b c d) N (VZ a b c d)=.ret [.bool (Fy a b c d)]:=⟨0,by
 unfold VZ Fy DU;simp only [w4e];cases decide (a<c) <;> cases decide (b<d) <;> cases decide (a>= -1000000) <;> cases decide (a<=1000000) <;> cases decide (c>= -1000000) <;> cases decide (c<=1000000) <;> cases decide (b>= -1000000) <;> cases decide (b<=1000000) <;> cases decide (d>= -1000000) <;> rfl⟩
def OA :List B3->Option (B3×Bool)
 | [.agg [.int .i64 aO,.int .i64 bD,.int .i64 bE,.int .i64 bC]]=>some (.bool (Fy aO bD bE bC),true)
 | _=>none
theorem j3w {S:B6} (hS:Zv prog S):Zv prog (S.with w6d OA):=by
 refine CS hS (by kernel_rfl) fun args v h=> ?_;unfold OA at h;split at h
 .rename_i aO bD bE bC;simp only [Ae,Ac,and_true] at h;subst h;obtain ⟨N,hN⟩:=u9d aO bD bE bC;exact ⟨_,_,(.cons (.refl _) .nil),rfl,v9k aO bD bE bC N _ hN,3,rfl⟩
 .cases h
def OR :List B3->Option (B3×Bool)
 | [a0]=>match Cc R4 a0 with
  | some (L0,g0,n0)=>some (.tup [.dat (F2 L0).length (Zz (F2 L0)),.int .i64 (Lu L0)],CT R4 n0 g0&&(QO L0))
  | _=>none
 | _=>none
theorem j4s {S:B6} (hS:Zv prog S):Zv prog (S.with v6h OR):=by
 refine GS hS (by kernel_rfl) fun args v h=> ?_;unfold OR at h;split at h
 .rename_i a0;split at h
  .rename_i L0 g0 n0 e0;simp only [Ae,Ac,Ad] at h;obtain ⟨rfl,ho0,hw⟩:=h;obtain ⟨N,hN⟩:=j2l L0 hw;exact ⟨_,_,(.cons (Xh e0 ho0) .nil),u1k _ _,u3a L0 N _ hN,3,j1l _ _⟩
  .cases h
 .cases h
def T6v :B6:=(T6.with w6d OA)
theorem Ou :Zv prog T6v:=(j3w Qw)
def T6m :B6:=(T6v.with v6h OR)
theorem La :Zv prog T6m:=(j4s Ou)
inductive Hg where
 | h0 (v8:Int)
def M8 (l0:List R4):Hg->CG
 | .h0 v8=>⟨⟨19,0,true⟩,none,(Zf prog 197 [1,0,1,0,0] 0),none,(Zy prog 3),⟨Ye [(0,(.dat l0.length (Zz l0))),(1,(.fn 165 [])),(7,(ii (l0.length:Int))),(8,(ii v8))],Xs [] 0,0,[],true⟩,[⟨⟨9,0,true⟩,(CV prog 164 [1,0] 2),(Zf prog 164 [1,0] 1),none,(Zy prog 3),Ye [(5,(.dat l0.length (Zz l0))),(6,(.fn 165 []))]⟩,⟨⟨13,0,true⟩,(CV prog 140 [1,1,0,0] 1),(Zf prog 140 [1,1,0,0] 1),none,(Zy prog 10),Ye [(0,(.dat l0.length (Zz l0))),(7,(.dat l0.length (Zz l0)))]⟩],.leaf⟩
def KH :List (Option (List Nat)):=[some [0,1,7,8],some [5,6],some [0,7]]
def KI :List (Option (List Nat)):=[]
def I1 (l0:List R4):Hg->Xj Hg
 | .h0 v8=>(bif (decide (v8<(l0.length:Int))) then (bif ((decide (0<=v8/\v8<(l0.length:Int)))&&true) then (bif (!(Fy (rd l0 v8.toNat).a (rd l0 v8.toNat).b (rd l0 v8.toNat).c (rd l0 v8.toNat).d)) then (bif (decide (v8>=0)) then (.ret [.nils,(.int .i64 8)]) else (bif (QO (B4 l0)) then (.ret [(.dat (F2 (B4 l0)).length (Zz (F2 (B4 l0)))),(.int .i64 (Lu (B4 l0)))]) else .stuck)) else (.to (.h0 (wrap .i64 (v8+1))))) else .stuck) else (bif (QO (B4 l0)) then (.ret [(.dat (F2 (B4 l0)).length (Zz (F2 (B4 l0)))),(.int .i64 (Lu (B4 l0)))]) else .stuck))
def QG (l0:List R4):Xj Hg:=(bif (decide ((l0.length:Int)>400)) then (.ret [.nils,(.int .i64 4)]) else (.to (.h0 0)))
theorem w9h (l0:List R4): ∀s,Wp prog (Zy prog 140) (M8 l0) (M8 l0 s) (I1 l0 s)
 | .h0 v8=>let a:=F2 (B4 l0);let c:=ii (Lu (B4 l0));(lb (fun k0=>(lo fun aG=>let b:=ww aG (tt k0 nn);(lb (fun k1=>(lb (fun k2=>(lr 13 140 [1,1,0,1,0,0] 1 10 [(2,.nils),(3,(ii 8))] (sl La 54 [] (b8 [2,3]) b7 (CE 3 []) (tt k2 (tt k1 b))))) (fun k2=>(lo fun o0=>(lr 13 3 [1,1,1,1,1,1,0] 1 10 [(2,(.dat a.length (Zz a))),(3,c)] (sl La 59 [] (b8 [2,3]) b7 (bl 3 3) (pp (pp (xr l0) (xw o0)) (tt k2 (tt k1 b))))))))) (fun k1=>(sl La 44 [] ⟨[],[],KH,KI⟩ b7 (bl 2 1) (tt k1 b)))))) (fun k0=>(lo fun o0=>(lr 13 3 [1,1,1,1,1,1,0] 1 10 [(2,(.dat a.length (Zz a))),(3,c)] (sl La 28 [] (b8 [2,3]) b7 (bl 2 0) (pp (pp (xr l0) (xw o0)) (tt k0 nn)))))))
theorem w0v (l0:List R4):Wp prog (Zy prog 140) (M8 l0) (Zg prog 140 [(.dat l0.length (Zz l0))] true []) (QG l0):=(lb (fun k0=>(lr 13 140 [1,0,1,0,0] 1 10 [(2,.nils),(3,(ii 4))] (sl La 18 [] (b8 [2,3]) b7 [true] (tt k0 nn)))) (fun k0=>(sl La 41 [] ⟨[],[],KH,KI⟩ b7 [false] (tt k0 nn))))
theorem u1i (l0:List R4) (n:Nat) (vs:List B3) (h:Yw (I1 l0) n (QG l0)=.ret vs):Kj prog (Zy prog 140) (Zg prog 140 [(.dat l0.length (Zz l0))] true []) vs:=by have:=Ze (w9h l0) n _ (w0v l0);rwa [h] at this
theorem u6z (l:List R4) (hl:l.length<=400): ∀(k i:Nat),i+k=l.length->(∀s∈l.take i,DU s=true)-> ∃n,Yw (I1 l) n (.to (.h0 (i:Int)))=.ret (bif l.all DU then [.dat (F2 l).length (Zz (F2 l)),.int .i64 (Lu l)] else [.nils,.int .i64 8])
 | 0,i,h,ht=>by
  have hv:l.all DU=true:=Ax.2 fun s hs=>ht s (by grind);have w:QO l=true:=Aa hl;refine ⟨1,?_⟩
  grind [Zw,I1,Yg,Zh]
 | k+1,i,h,ht=>by
  have hi:i<l.length:=by omega
  have hs:I1 l (.h0 (i:Int))=bif DU (rd l i) then .to (.h0 ((i+1:Nat):Int)) else .ret [.nils,.int .i64 8]:=by have e:Fy (rd l i).a (rd l i).b (rd l i).c (rd l i).d =DU (rd l i):=rfl;simp (disch:=omega) only [I1,e,w4d,v7x,u8q,Ym,Zm,Zk,Zj,Aq,Af,Ab]
  rcases Vr (DU (rd l i)) with q | q
  .obtain ⟨n,hn⟩:=u6z l hl k (i+1) (by omega) (fun s hs=>by
    rw [Bx] at hs
    grind [Wb])
   refine ⟨n+1,?_⟩
   grind [Zw]
  .have hv:l.all DU=false:=A8.2 fun e=>by
    grind [Wb]
   refine ⟨1,?_⟩
   grind [Zw,Zh]
theorem u1h (l:List R4): ∃n,Yw (I1 l) n (QG l)=.ret (bif decide (400<l.length) then [.nils,.int .i64 4] else bif l.all DU then [.dat (F2 l).length (Zz (F2 l)),.int .i64 (Lu l)] else [.nils,.int .i64 8]):=by
 unfold QG;by_cases h:400<l.length
 .refine ⟨0,?_⟩;rw [Aa h,Xv (show (l.length:Int)>400 by omega)];rfl
 .obtain ⟨n,hn⟩:=u6z l (by omega) l.length 0 (Al _) (fun s hs=>by simp at hs)
  grind
def Wn (l:List R4):List R4:=bif decide (400<l.length) then [] else bif l.all DU then (bif decide (((D4.out l).length :Int)>400) then [] else D4.out l) else []
def Gm (l:List R4):Int:=bif decide (400<l.length) then 4 else bif l.all DU then (bif decide (((D4.out l).length :Int)>400) then 4 else 0) else 8
def UC (l:List R4):Bool:=true
theorem j1i (l:List R4) (h:UC l=true): ∃n,Yw (I1 l) n (QG l)=.ret (bif decide (400<l.length) then [.nils,.int .i64 4] else bif l.all DU then [.dat (Wn l).length (Zz (Wn l)),.int .i64 (Gm l)] else [.nils,.int .i64 8]):=by
 obtain ⟨n,hn⟩:=u1h l
 grind [F2,Wn,GO,GT,IS,Lu,Gm]
def OJ :List B3->Option (B3×Bool)
 | [a0]=>match Cc R4 a0 with
  | some (L0,g0,n0)=>some (.tup [.dat (Wn L0).length (Zz (Wn L0)),.int .i64 (Gm L0)],CT R4 n0 g0&&(UC L0))
  | _=>none
 | _=>none
theorem j4i {S:B6} (hS:Zv prog S):Zv prog (S.with w6e OJ):=by
 refine GS hS (by kernel_rfl) fun args v h=> ?_;unfold OJ at h;split at h
 .rename_i a0;split at h
  .rename_i L0 g0 n0 e0;simp only [Ae,Ac,Ad] at h;obtain ⟨rfl,ho0,hw⟩:=h;obtain ⟨N,hN⟩:=j1i L0 hw;refine ⟨_,_,(.cons (Xh e0 ho0) .nil),?_,u1i L0 N _ hN,3,?_⟩
   .cases h1:decide (400<L0.length) <;> cases h2:L0.all DU <;> simp only [Wn,Gm,h1,h2,Af,Ab]
    .exact fun ρ u hu=>Gn (.cons (Gv R4) (Ci.refl _)) ρ u hu
    .exact fun ρ u hu=>hu
    .exact fun ρ u hu=>Gn (.cons (Gv R4) (Ci.refl _)) ρ u hu
    .exact fun ρ u hu=>Gn (.cons (Gv R4) (Ci.refl _)) ρ u hu
   .cases decide (400<L0.length) <;> cases L0.all DU <;> rfl
  .cases h
 .cases h
def T7 :B6:=(T6m.with w6e OJ)
theorem Il :Zv prog T7:=(j4i La)
inductive HR where
def MH (aO:Int) (bD:Int) (bE:Int) (bC:Int) (cP:Int) (cQ:Int):HR->CG
 :=nofun
def x9g (aO:Int) (bD:Int) (bE:Int) (bC:Int) (cP:Int) (cQ:Int):HR->Xj HR
 :=nofun
def V0 (aO:Int) (bD:Int) (bE:Int) (bC:Int) (cP:Int) (cQ:Int):Xj HR:=(bif (decide (aO<bC)) then (bif (decide (bD<cP)) then (bif (decide (bE<cQ)) then (bif (decide ((Cz (Cz aO bD) bE)>=(-1000000))) then (bif (decide ((Cy (Cy aO bD) bE)<=1000000)) then (bif (decide ((Cz (Cz bC cP) cQ)>=(-1000000))) then (.ret [(.bool (decide ((Cy (Cy bC cP) cQ)<=1000000)))]) else (.ret [(.bool false)])) else (.ret [(.bool false)])) else (.ret [(.bool false)])) else (.ret [(.bool false)])) else (.ret [(.bool false)])) else (.ret [(.bool false)]))
theorem w7v (aO:Int) (bD:Int) (bE:Int) (bC:Int) (cP:Int) (cQ:Int): ∀s,Wp prog (Zy prog 101) (MH aO bD bE bC cP cQ) (MH aO bD bE bC cP cQ s) (x9g aO bD bE bC cP cQ s)
 :=nofun
theorem x9h (aO:Int) (bD:Int) (bE:Int) (bC:Int) (cP:Int) (cQ:Int):Wp prog (Zy prog 101) (MH aO bD bE bC cP cQ) (Zg prog 101 [(.agg [(.int .i64 aO),(.int .i64 bD),(.int .i64 bE),(.int .i64 bC),(.int .i64 cP),(.int .i64 cQ)])] true []) (V0 aO bD bE bC cP cQ):=(lb (fun k0=>(lb (fun k1=>let b:=tt k1 (tt k0 nn);(lb (fun k2=>let a:=tt k2 b;(lb (fun k3=>(lb (fun k4=>let c:=tt k4 (tt k3 a);(lb (fun k5=>(lr 38 3 [1,1,1,1,1,1,0] 1 9 [(2,(.bool (decide ((Cy (Cy bC cP) cQ)<=1000000))))] (sl Il 100 [] (b8 [2]) b7 (CE 36 []) (tt k5 c)))) (fun k5=>(lr 38 3 [1,1,1,1,1,1,0] 1 9 [(2,(.bool false))] (sl Il 100 [] (b8 [2]) b7 (CE 28 (bl 8 0)) (tt k5 c)))))) (fun k4=>(lr 38 3 [1,1,1,1,1,1,0] 1 9 [(2,(.bool false))] (sl Il 72 [] (b8 [2]) b7 (CE 25 (bl 3 0)) (tt k4 (tt k3 a))))))) (fun k3=>(lr 38 3 [1,1,1,1,1,1,0] 1 9 [(2,(.bool false))] (sl Il 72 [] (b8 [2]) b7 (CE 17 (bl 11 0)) (tt k3 a)))))) (fun k2=>(lr 38 3 [1,1,1,1,1,1,0] 1 9 [(2,(.bool false))] (sl Il 44 [] (b8 [2]) b7 (CE 14 (bl 6 0)) (tt k2 b)))))) (fun k1=>(lr 38 3 [1,1,1,1,1,1,0] 1 9 [(2,(.bool false))] (sl Il 44 [] (b8 [2]) b7 (CE 7 (bl 13 0)) (tt k1 (tt k0 nn))))))) (fun k0=>(lr 38 3 [1,1,1,1,1,1,0] 1 9 [(2,(.bool false))] (sl Il 44 [] (b8 [2]) b7 (bl 20 0) (tt k0 nn)))))
theorem v9j (aO:Int) (bD:Int) (bE:Int) (bC:Int) (cP:Int) (cQ:Int) (n:Nat) (vs:List B3) (h:Yw (x9g aO bD bE bC cP cQ) n (V0 aO bD bE bC cP cQ)=.ret vs):Kj prog (Zy prog 101) (Zg prog 101 [(.agg [(.int .i64 aO),(.int .i64 bD),(.int .i64 bE),(.int .i64 bC),(.int .i64 cP),(.int .i64 cQ)])] true []) vs:=by have:=Ze (w7v aO bD bE bC cP cQ) n _ (x9h aO bD bE bC cP cQ);rwa [h] at this
def DV (r:R6):Bool:=decide (r.a<r.d)&&(decide (r.b<r.e)&&(decide (r.c<r.f)&&(decide ((Cz (Cz r.a r.b) r.c)>=(-1000000))&&(decide ((Cy (Cy r.a r.b) r.c)<=1000000)&&(decide ((Cz (Cz r.d r.e) r.f)>=(-1000000))&&decide ((Cy (Cy r.d r.e) r.f)<=1000000))))))
def Fx (a b c d e f:Int):Bool:=DV ⟨a,b,c,d,e,f⟩
theorem u9c (a b c d e f:Int): ∃N,Yw (x9g a b c d e f) N (V0 a b c d e f)=.ret [.bool (Fx a b c d e f)]:=⟨0,by
 unfold V0 Fx DV;simp only [w4e];cases decide (a<d) <;> cases decide (b<e) <;> cases decide (c<f) <;> cases decide ((Cz (Cz a b) c)>=(-1000000)) <;> cases decide ((Cy (Cy a b) c)<=1000000) <;> cases decide ((Cz (Cz d e) f)>=(-1000000)) <;> rfl⟩
def Nz :List B3->Option (B3×Bool)
 | [.agg [.int .i64 aO,.int .i64 bD,.int .i64 bE,.int .i64 bC,.int .i64 cP,.int .i64 cQ]]=>some (.bool (Fx aO bD bE bC cP cQ),true)
 | _=>none
theorem j3v {S:B6} (hS:Zv prog S):Zv prog (S.with w6c Nz):=by
 refine CS hS (by kernel_rfl) fun args v h=> ?_;unfold Nz at h;split at h
 .rename_i aO bD bE bC cP cQ;simp only [Ae,Ac,and_true] at h;subst h;obtain ⟨N,hN⟩:=u9c aO bD bE bC cP cQ;exact ⟨_,_,(.cons (.refl _) .nil),rfl,v9j aO bD bE bC cP cQ N _ hN,3,rfl⟩
 .cases h
def T7v :B6:=(T7.with w6c Nz)
theorem Uc :Zv prog T7v:=(j3v Il)
abbrev Z3 (aW:List R6) (v8:Int) (v2:Int):=(aW.set (0+(tn v8)) (R6.mk (rd aW (0+(tn v8))).a (rd aW (0+(tn v8))).b (rd aW (0+(tn v8))).c (rd aW (0+(tn v8))).d (rd aW (0+(tn v8))).e v2))
def x9y (l0:List R6):CZ:=⟨⟨25,0,true⟩,(CV prog 61 [1,1,1,0,0] 3),(Zf prog 61 [1,1,1,0,0] 1),none,(Zy prog 9),Ye [(0,(.dat l0.length (Zz l0))),(11,(.agg [.nilf])),(13,(.sl 8 0 1 (.un 1)))]⟩
abbrev P5 (aI:List Int):=(Ca (Ws aI.length (DG (Zz (Qn (Ws aI.length (DG (Zz aI))))))))
abbrev Z4 (aZ:List R4) (l0:List R6) (v38:Int):=(aZ++[(R4.mk (rd l0 (tn v38)).a (rd l0 (tn v38)).b (rd l0 (tn v38)).d (rd l0 (tn v38)).e)])
abbrev Z5 (aW:List R6) (v72:List R4) (v74:Int) (v1:Int) (v2:Int):=(aW++[(R6.mk (rd v72 (tn v74)).a (rd v72 (tn v74)).b v1 (rd v72 (tn v74)).c (rd v72 (tn v74)).d v2)])
def v3r :=(Ff [(0,⟨.ready,none,65,Ye [(2,(.ptr 1 0)),(4,(.ptr 2 0)),(5,(.ptr 3 0)),(6,(.ptr 4 0))],[15],(DI prog 102 [1,1,0,1,0,0]),(DI prog 102 [1,1,0,1,0,1])⟩)])
def Qm (l0:List R6):B3:=(.dat l0.length (Zz l0))
def v3q :CZ:=⟨⟨65,0,true⟩,none,(.inRangeFunc 0::(Zf prog 102 [1,1,0,1,0] 1)),none,(Zy prog 102),Ye [(4,(.ptr 2 0)),(5,(.ptr 3 0)),(6,(.ptr 4 0))]⟩
abbrev Z6 (aI:List Int) (l0:List R6) (v16:Int):=(aI++[(rd l0 (tn v16)).c,(rd l0 (tn v16)).f])
inductive H2 where
 | h0 (v8:Int)
 | h1 (v16:Int) (aI:List Int)
 | h2 (v4:Int) (bU:List R6) (cW:List R4) (dA:Int) (dB:Int) (bT:Nat) (cC:List Int)
 | h3 (v4:Int) (v38:Int) (bU:List R6) (cW:List R4) (dA:Int) (dB:Int) (bT:Nat) (cC:List Int) (cT:Int) (dF:Int) (aZ:List R4)
 | h4 (v1:Int) (v2:Int) (v72:List R4) (v73:Int) (v74:Int) (bH:List R4) (cL:Int) (aW:List R6) (aC:List R4) (bW:Int) (bT:Nat) (cC:List Int) (cT:List R4)
 | h5 (v2:Int) (v8:Int) (dQ:Int) (bH:List R4) (cL:Int) (aW:List R6) (aC:List R4) (bW:Int) (cE:Int) (dD:Nat) (dN:List Int) (aZ:List R4)
def MQ (l0:List R6):H2->CG
 | .h0 v8=>⟨⟨19,0,true⟩,none,(Zf prog 137 [1,0,1,0,0] 0),none,(Zy prog 3),⟨Ye [(0,(Qm l0)),(1,(.fn 100 [])),(7,(ii (l0.length:Int))),(8,(ii v8))],Xs [] 0,0,[],true⟩,[⟨⟨9,0,true⟩,(CV prog 99 [1,0] 2),(Zf prog 99 [1,0] 1),none,(Zy prog 3),Ye [(5,(Qm l0)),(6,(.fn 100 []))]⟩,⟨⟨25,0,true⟩,(CV prog 61 [1,1,0,0] 1),(Zf prog 61 [1,1,0,0] 1),none,(Zy prog 9),Ye [(0,(Qm l0)),(8,(Qm l0))]⟩],.leaf⟩
 | .h1 v16 aI=>⟨⟨36,0,true⟩,none,(Zf prog 139 [1,1,0,1,0,0,1,1,0,0,1,1,0,0] 0),none,(Zy prog 9),⟨Ye [(1,(.ptr 0 0)),(3,(.ptr 2 0)),(8,(.sl 1 0 1 (.un 1))),(9,(ii 1)),(10,(ii 0)),(14,(Qm l0)),(15,(ii (l0.length:Int))),(16,(ii v16))],Xs [⟨[(.sl 1 0 1 (.un 1))],194,none⟩,⟨[(Qm l0)],45,none⟩,⟨[(.sla 7 1 0 aI.length (.un 1))],83,none⟩,⟨[.nilf],174,none⟩,⟨[.nils],46,none⟩,⟨[(ii 0)],24,none⟩,⟨[.nils,.nils,(ii 0),(ii 0)],198,none⟩,⟨rows aI.length (Zz aI),3,some ⟨1,aI.length,(Zz aI)⟩⟩] 0,8,[],true⟩,[⟨⟨65,0,true⟩,(CV prog 102 [1,1,0,0] 1),(Zf prog 102 [1,1,0,0] 1),none,(Zy prog 102),Ye [(2,(.ptr 3 0)),(4,(.ptr 4 0)),(5,(.ptr 5 0)),(6,(.ptr 6 0)),(13,(.sl 1 0 1 (.un 1)))]⟩,⟨⟨25,0,true⟩,(CV prog 61 [1,1,1,0,0] 3),(Zf prog 61 [1,1,1,0,0] 1),none,(Zy prog 9),Ye [(0,(Qm l0)),(11,(.agg [.nilf])),(13,(.sl 1 0 1 (.un 1)))]⟩],.leaf⟩
 | .h2 v4 bU cW dA dB bT cC=>⟨⟨86,0,true⟩,none,(Zf prog 163 [1,0,0] 0),none,[],⟨Ye [(0,(.yld 0)),(1,(.ptr 5 0)),(2,(.ptr 7 0)),(4,(ii v4))],Eh [(1,⟨[.nilf],174,none⟩),(2,⟨[.nils],46,none⟩),(3,⟨[(ii 0)],24,none⟩),(4,⟨[(.sla 9 6 0 bU.length (.un 6)),(.dat cW.length (Zz cW)),(ii dA),(ii dB)],198,none⟩),(5,⟨[(.sla 6 1 0 bT (.un 1))],83,none⟩),(6,⟨rows cC.length (Zz cC),3,some ⟨1,cC.length,(Zz cC)⟩⟩),(7,⟨[(.sl 8 0 1 (.un 1))],194,none⟩),(8,⟨[(Qm l0)],45,none⟩),(9,⟨rows bU.length (Zz bU),79,some ⟨6,bU.length,(Zz bU)⟩⟩)],10,[],true⟩,[v3q,(x9y l0)],v3r⟩
 | .h3 v4 v38 bU cW dA dB bT cC cT dF aZ=>⟨⟨86,0,true⟩,none,(Zf prog 163 [1,0,0,1,0,0,1,0,1,0,0,1,1,0,0,1,1,0,0] 0),none,[],⟨Ye [(0,(.yld 0)),(1,(.ptr 5 0)),(2,(.ptr 7 0)),(4,(ii v4)),(5,(.ptr 9 0)),(6,(ii 0)),(29,(.sl 8 0 1 (.un 1))),(30,(ii 1)),(31,(ii 0)),(36,(Qm l0)),(37,(ii (l0.length:Int))),(38,(ii v38))],Eh [(1,⟨[.nilf],174,none⟩),(2,⟨[.nils],46,none⟩),(3,⟨[(ii 0)],24,none⟩),(4,⟨[(.sla 12 6 0 bU.length (.un 6)),(.dat cW.length (Zz cW)),(ii dA),(ii dB)],198,none⟩),(5,⟨[(.sla 6 1 0 bT (.un 1))],83,none⟩),(6,⟨rows cC.length (Zz cC),3,some ⟨1,cC.length,(Zz cC)⟩⟩),(7,⟨[(.sl 8 0 1 (.un 1))],194,none⟩),(8,⟨[(Qm l0)],45,none⟩),(9,⟨[(ii cT),(ii dF),(.sl 10 0 1 (.ex 1))],203,none⟩),(10,⟨[(.sla 11 4 0 aZ.length (.un 4))],195,none⟩),(11,⟨rows aZ.length (Zz aZ),168,some ⟨4,aZ.length,(Zz aZ)⟩⟩),(12,⟨rows bU.length (Zz bU),79,some ⟨6,bU.length,(Zz bU)⟩⟩)],13,[],true⟩,[v3q,(x9y l0)],v3r⟩
 | .h4 v1 v2 v72 v73 v74 bH cL aW aC bW bT cC cT=>⟨⟨101,0,true⟩,none,(Zf prog 141 [1,1,1,0,0] 0),none,[],⟨Ye [(0,(.ptr 0 0)),(1,(ii v1)),(2,(ii v2)),(72,(.dat v72.length (Zz v72))),(73,(ii v73)),(74,(ii v74))],Eh [(0,⟨[(.sla 10 6 0 aW.length (.un 6)),(.dat aC.length (Zz aC)),(ii bW),(ii v2)],198,none⟩),(2,⟨[.nilf],174,none⟩),(3,⟨[.nils],46,none⟩),(4,⟨[(ii 0)],24,none⟩),(5,⟨[(.sla 6 1 0 bT (.un 1))],83,none⟩),(6,⟨rows cC.length (Zz cC),3,some ⟨1,cC.length,(Zz cC)⟩⟩),(7,⟨[(.sl 8 0 1 (.un 1))],194,none⟩),(8,⟨[(Qm l0)],45,none⟩),(9,⟨[(.dat cT.length (Zz cT))],195,none⟩),(10,⟨rows aW.length (Zz aW),79,some ⟨6,aW.length,(Zz aW)⟩⟩)],11,[],true⟩,[⟨⟨65,0,true⟩,(CV prog 102 [1,1,0,1,0,1,0,1,1,1] 5),(Zf prog 102 [1,1,0,1,0,1,0,1,1,1] 1),(some 1),[],Ye [(6,(.ptr 0 0)),(54,(ii v1)),(56,(ii v2)),(57,(.dat bH.length (Zz bH)))]⟩,⟨⟨86,0,true⟩,(CV prog 163 [1,0,0,1,0,0,1,1,0] 2),(Zf prog 163 [1,0,0,1,0,0,1,1,0] 1),none,[],Ye [(0,(.yld 1)),(1,(.ptr 5 0)),(2,(.ptr 7 0)),(4,(ii cL)),(82,(.yld 1)),(83,(.agg [(ii v1),(ii v2),(.sl 9 0 1 (.ex 1))]))]⟩,⟨⟨65,0,true⟩,none,(.inRangeFunc 1::(Zf prog 102 [1,1,0,1,0] 1)),none,(Zy prog 102),Ye [(4,(.ptr 3 0)),(5,(.ptr 4 0)),(6,(.ptr 0 0))]⟩,(x9y l0)],(Ff [(1,⟨.busy,none,65,Ye [(2,(.ptr 2 0)),(4,(.ptr 3 0)),(5,(.ptr 4 0)),(6,(.ptr 0 0))],[15],(DI prog 102 [1,1,0,1,0,0]),(DI prog 102 [1,1,0,1,0,1])⟩)])⟩
 | .h5 v2 v8 dQ bH cL aW aC bW cE dD dN aZ=>⟨⟨101,0,true⟩,none,(Zf prog 141 [0,1,0,0,1,0,0] 0),none,[],⟨Ye [(0,(.ptr 0 0)),(2,(ii v2)),(8,(ii v8))],Eh [(0,⟨[(.sla 1 6 0 aW.length (.un 6)),(.dat aC.length (Zz aC)),(ii bW),(ii cE)],198,none⟩),(1,⟨rows aW.length (Zz aW),79,some ⟨6,aW.length,(Zz aW)⟩⟩),(3,⟨[.nilf],174,none⟩),(4,⟨[.nils],46,none⟩),(5,⟨[(ii 0)],24,none⟩),(6,⟨[(.sla 7 1 0 dD (.un 1))],83,none⟩),(7,⟨rows dN.length (Zz dN),3,some ⟨1,dN.length,(Zz dN)⟩⟩),(8,⟨[(.sl 9 0 1 (.un 1))],194,none⟩),(9,⟨[(Qm l0)],45,none⟩),(10,⟨[(.dat aZ.length (Zz aZ))],195,none⟩)],11,[],true⟩,[⟨⟨65,0,true⟩,(CV prog 102 [1,1,0,1,0,1,0,1,1,1] 5),(Zf prog 102 [1,1,0,1,0,1,0,1,1,1] 1),(some 2),[],Ye [(6,(.ptr 0 0)),(54,(ii dQ)),(56,(ii v2)),(57,(.dat bH.length (Zz bH)))]⟩,⟨⟨86,0,true⟩,(CV prog 163 [1,0,0,1,0,0,1,1,0] 2),(Zf prog 163 [1,0,0,1,0,0,1,1,0] 1),none,[],Ye [(0,(.yld 2)),(1,(.ptr 6 0)),(2,(.ptr 8 0)),(4,(ii cL)),(82,(.yld 2)),(83,(.agg [(ii dQ),(ii v2),(.sl 10 0 1 (.ex 1))]))]⟩,⟨⟨65,0,true⟩,none,(.inRangeFunc 2::(Zf prog 102 [1,1,0,1,0] 1)),none,(Zy prog 102),Ye [(4,(.ptr 4 0)),(5,(.ptr 5 0)),(6,(.ptr 0 0))]⟩,⟨⟨25,0,true⟩,(CV prog 61 [1,1,1,0,0] 3),(Zf prog 61 [1,1,1,0,0] 1),none,(Zy prog 9),Ye [(0,(Qm l0)),(11,(.agg [.nilf])),(13,(.sl 9 0 1 (.un 1)))]⟩],(Ff [(2,⟨.busy,none,65,Ye [(2,(.ptr 3 0)),(4,(.ptr 4 0)),(5,(.ptr 5 0)),(6,(.ptr 0 0))],[15],(DI prog 102 [1,1,0,1,0,0]),(DI prog 102 [1,1,0,1,0,1])⟩)])⟩
def JF :List (Option (List Nat)):=[some [0,1,7,8],some [5,6],some [0,8]]
def JH :List (Option (List Nat)):=[]
def u9x :List (Option (List Nat)):=[some [1,3,8,9,10,14,15,16],some [2,4,5,6,13],some [0,11,13]]
def u9z :List (Option (List Nat)):=[]
def u9w :List (Option (List Nat)):=[some [0,1,2,4],some [4,5,6],some [0,11,13]]
def u9y :List (Option (List Nat)):=[some [2,4,5,6],none,none,none,none,none,none,none,none,none]
def XU :List (Option (List Nat)):=[some [0,1,2,4,5,6,29,30,31,36,37,38],some [4,5,6],some [0,11,13]]
def XS :List (Option (List Nat)):=[some [2,4,5,6],none,none,none,none,none,none,none,none,none,none,none,none]
def XV :List (Option (List Nat)):=[some [0,1,2,72,73,74],some [6,54,56,57],some [0,1,2,4,82,83],some [4,5,6],some [0,11,13]]
def XT :List (Option (List Nat)):=[none,some [2,4,5,6],none,none,none,none,none,none,none,none,none]
def JE :List (Option (List Nat)):=[some [0,2,8],some [6,54,56,57],some [0,1,2,4,82,83],some [4,5,6],some [0,11,13]]
def JG :List (Option (List Nat)):=[none,none,some [2,4,5,6],none,none,none,none,none,none,none,none]
def Xb (l0:List R6):H2->Xj H2
 | .h0 v8=>(bif (decide (v8<(l0.length:Int))) then (bif ((decide (0<=v8/\v8<(l0.length:Int)))&&true) then (bif (!(Fx (rd l0 v8.toNat).a (rd l0 v8.toNat).b (rd l0 v8.toNat).c (rd l0 v8.toNat).d (rd l0 v8.toNat).e (rd l0 v8.toNat).f)) then (bif (decide (v8>=0)) then (.ret [(.int .i64 8)]) else (.to (.h1 0 ([]:List Int)))) else (.to (.h0 (wrap .i64 (v8+1))))) else .stuck) else (.to (.h1 0 ([]:List Int))))
 | .h1 v16 aI=>(bif (decide (v16<(l0.length:Int))) then (bif ((decide (0<=v16/\v16<(l0.length:Int)))&&true) then (bif (Nat.beq 1 1&&((decide (0+aI.length=aI.length))&&decide ((aI.length+2+1)*(8+1)<=Ve))) then (.to (.h1 (wrap .i64 (v16+1)) (aI++[(rd l0 v16.toNat).c,(rd l0 v16.toNat).f]))) else .stuck) else .stuck) else (bif (decide (aI.length<4611686018427387904)) then (bif (decide (aI.length=aI.length)) then (.to (.h2 1 ([]:List R6) ([]:List R4) 0 0 (GV (Ws aI.length (DG (Zz (Qn (Ws aI.length (DG (Zz aI)))))))) (Ca (Ws aI.length (DG (Zz (Qn (Ws aI.length (DG (Zz aI)))))))))) else .stuck) else .stuck))
 | .h2 v4 bU cW dA dB bT cC=>(bif (decide (v4<((bT:Nat):Int))) then (bif ((decide (0<=(wrap .i64 (v4 - 1))/\(wrap .i64 (v4 - 1))<((bT:Nat):Int)))&&true) then (bif (decide ((0+(Int.toNat (wrap .i64 (v4 - 1))))<cC.length)) then (bif ((decide (0<=v4/\v4<((bT:Nat):Int)))&&true) then (bif (decide ((0+v4.toNat)<cC.length)) then (.to (.h3 v4 0 bU cW dA dB bT cC (rd cC (0+(Int.toNat (wrap .i64 (v4 - 1))))) (rd cC (0+v4.toNat)) ([]:List R4))) else .stuck) else .stuck) else .stuck) else .stuck) else (bif (decide ((bU.length:Int)>400)) then (.ret [(.int .i64 8)]) else (bif (Nat.beq 6 6&&(decide (0+bU.length<=bU.length)&&DB (Zz bU))) then (bif (Uf (Cf R6 (bU.length) (fun k=>(Zz bU) (0+k))) (B4 l0)) then (bif (!(EE (Cf R6 (bU.length) (fun k=>(Zz bU) (0+k))) (B4 l0))) then (.ret [(.int .i64 8)]) else (.ret [(.int .i64 0)])) else .stuck) else .stuck)))
 | .h3 v4 v38 bU cW dA dB bT cC cT dF aZ=>(bif (decide (v38<(l0.length:Int))) then (bif ((decide (0<=v38/\v38<(l0.length:Int)))&&true) then (bif (decide ((rd l0 v38.toNat).c <=cT)) then (bif (decide (cT<(rd l0 v38.toNat).f)) then (bif (Nat.beq 4 4&&((decide (0+aZ.length=aZ.length))&&decide ((aZ.length+1+1)*(32+1)<=Ve))) then (.to (.h3 v4 (wrap .i64 (v38+1)) bU cW dA dB bT cC cT dF (aZ++[(R4.mk (rd l0 v38.toNat).a (rd l0 v38.toNat).b (rd l0 v38.toNat).d (rd l0 v38.toNat).e)]))) else .stuck) else (.to (.h3 v4 (wrap .i64 (v38+1)) bU cW dA dB bT cC cT dF aZ))) else (.to (.h3 v4 (wrap .i64 (v38+1)) bU cW dA dB bT cC cT dF aZ))) else .stuck) else (bif (UC (B4 aZ)) then (bif ((Gm (B4 aZ)) != 0) then (.ret [(.int .i64 8)]) else (bif (decide ((((Wn (B4 aZ)).length :Nat):Int)>0)) then (bif (dB == cT) then (bif (Ky (B4 cW) (B4 (Wn (B4 aZ)))) then (bif (E6 (B4 cW) (B4 (Wn (B4 aZ)))) then (.to (.h5 dF dA cT (Wn (B4 aZ)) v4 bU cW dA dB bT cC aZ)) else (.to (.h4 cT dF (Wn (B4 aZ)) (((Wn (B4 aZ)).length :Nat):Int) 0 (Wn (B4 aZ)) v4 bU (Wn (B4 aZ)) (bU.length:Int) bT cC aZ))) else .stuck) else (.to (.h4 cT dF (Wn (B4 aZ)) (((Wn (B4 aZ)).length :Nat):Int) 0 (Wn (B4 aZ)) v4 bU (Wn (B4 aZ)) (bU.length:Int) bT cC aZ))) else (.to (.h4 cT dF (Wn (B4 aZ)) (((Wn (B4 aZ)).length :Nat):Int) 0 (Wn (B4 aZ)) v4 bU (Wn (B4 aZ)) (bU.length:Int) bT cC aZ)))) else .stuck))
 | .h4 v1 v2 v72 v73 v74 bH cL aW aC bW bT cC cT=>(bif (decide (v74<v73)) then (bif ((decide (0<=v74/\v74<(v72.length:Int)))&&true) then (bif (Nat.beq 6 6&&((decide (0+aW.length=aW.length))&&decide ((aW.length+1+1)*(48+1)<=Ve))) then (.to (.h4 v1 v2 v72 v73 (wrap .i64 (v74+1)) bH cL (aW++[(R6.mk (rd v72 v74.toNat).a (rd v72 v74.toNat).b v1 (rd v72 v74.toNat).c (rd v72 v74.toNat).d v2)]) aC bW bT cC cT)) else .stuck) else .stuck) else (.to (.h2 (wrap .i64 (cL+1)) aW aC bW v2 bT cC)))
 | .h5 v2 v8 dQ bH cL aW aC bW cE dD dN aZ=>(bif (decide (v8<(aW.length:Int))) then (bif ((decide (0<=v8/\v8<(aW.length:Int)))&&true) then (bif (decide ((0+v8.toNat)<aW.length)) then (.to (.h5 v2 (wrap .i64 (v8+1)) dQ bH cL (aW.set (0+v8.toNat) (R6.mk (rd aW (0+v8.toNat)).a (rd aW (0+v8.toNat)).b (rd aW (0+v8.toNat)).c (rd aW (0+v8.toNat)).d (rd aW (0+v8.toNat)).e v2)) aC bW cE dD dN aZ)) else .stuck) else .stuck) else (.to (.h2 (wrap .i64 (cL+1)) aW aC bW v2 dD dN)))
def VV (l0:List R6):Xj H2:=(bif (decide ((l0.length:Int)>400)) then (.ret [(.int .i64 4)]) else (.to (.h0 0)))
theorem w8m (l0:List R6): ∀s,Wp prog (Zy prog 61) (MQ l0) (MQ l0 s) (Xb l0 s)
 | .h0 v8=>let b:=fl ([]:List Int) nn;(lb (fun k0=>(lo fun aG=>let a:=ww aG (tt k0 nn);(lb (fun k1=>(lb (fun k2=>(lr 25 61 [1,1,0,1,0,0] 1 9 [(2,(ii 8))] (sl Uc 53 [] (b8 [2]) b7 (CE 3 []) (tt k2 (tt k1 a))))) (fun k2=>(sl Uc 113 [(3,1,Zz ([]:List Int))] ⟨[6,1,7,2,3,4,5,8],[],u9x,u9z⟩ ⟨[],[.keep,.keep,.cells [.grow 7 1],.keep,.keep,.keep,.keep,.keep],[]⟩ (bl 4 11) (pp b (tt k2 (tt k1 a))))))) (fun k1=>(sl Uc 44 [] ⟨[],[],JF,JH⟩ b7 (bl 2 1) (tt k1 a)))))) (fun k0=>(sl Uc 82 [(3,1,Zz ([]:List Int))] ⟨[5,0,6,1,2,3,4,7],[],u9x,u9z⟩ ⟨[],[.keep,.keep,.cells [.grow 7 1],.keep,.keep,.keep,.keep,.keep],[]⟩ (bl 3 4) (pp b (tt k0 nn)))))
 | .h1 v16 aI=>(lb (fun k0=>(lo fun o0=>(lo fun o1=>let d:=xL (aI.length+2) (Z6 aI l0 v16).length;let g:=Z6 aI l0 v16;(sl Uc 34 [] ⟨[0,1,2,3,4,5,6,10],[],u9x,u9z⟩ ⟨[],[.keep,.keep,.cells [.len g.length],.keep,.keep,.keep,.keep,.rowed 1 g.length (Zz g)],[]⟩ [true] (pp d (pp d (pp (xS (aI.length+2) (Zo (Zz aI) 0 aI.length 1 [(ii (rd l0 (tn v16)).c),(ii (rd l0 (tn v16)).f)]) (Zz (Z6 aI l0 v16))) (pp (pp (xF (Zo (Zz aI) 0 aI.length 1 [(ii (rd l0 (tn v16)).c),(ii (rd l0 (tn v16)).f)])) nn) (ww o1 (ww o0 (tt k0 nn))))))))))) (fun k0=>(lo fun o0=>(lo fun o1=>let a:=xG (Nat.beq 1 1);let b:=xG (decide (aI.length<4611686018427387904));let e:=xG (decide (aI.length=aI.length));let h:=xG (Nat.beq 0 0);(sl Uc 46 [(79,6,Zz ([]:List R6))] ⟨[8,3,4,5,6,2,7,0,1,9],[],u9w,u9y⟩ ⟨[],(Hx 4 [.cells [.grow 9 6,.list 0 (Zz ([]:List R4)),.keep,.keep],.keep,.rowed 1 (P5 aI).length (Zz (P5 aI)),.keep,.keep,.keep]),[]⟩ (bl 2 0) (pp (xL aI.length (P5 aI).length (by first | exact x7o _ _ | exact Yc rfl)) (pp (xS aI.length (Zz (P5 aI)) (Zz (P5 aI))) (pp (fl (P5 aI) (fl ([]:List R6) nn)) (pp (pp a (pp a (pp h (pp e (pp (xG (K3 (Zz (Qn (Ws aI.length (DG (Zz aI))))))) b))))) (pp (pp a (pp a (pp h (pp e (pp (xG (K3 (Zz aI))) b))))) (tt k0 nn)))))))))))
 | .h2 v4 bU cW dA dB bT cC=>(lb (fun k0=>(lo fun o0=>(lo fun o1=>(lo fun o2=>(lo fun o3=>(sl Uc 48 [(168,4,Zz ([]:List R4))] ⟨[0,1,2,3,4,5,6,7,8,10,11,12,9],[],XU,XS⟩ ⟨[],(Hx 10 [.cells [.grow 11 4],.keep,.keep]),[]⟩ (CE 3 []) (pp (fl cC (fl ([]:List R4) (fl bU nn))) (ww o3 (ww o2 (ww o1 (ww o0 (tt k0 nn)))))))))))) (fun k0=>(lb (fun k1=>(lr 25 61 [1,1,1,0,1,1,0,0] 1 9 [(2,(ii 8))] (sl Uc 50 [] (b8 [2]) b7 (bl 7 126) (tt k1 (tt k0 nn))))) (fun k1=>(lo fun bJ=>(lo fun dR=>let a:=pp (xw bJ) (pp nn nn);let b:=pp (xr l0) (xw dR);let c:=tt k1 (tt k0 nn);(lb (fun k2=>(lr 25 61 [1,1,1,0,1,1,0,0] 1 9 [(2,(ii 8))] (sl Uc 53 [] (b8 [2]) b7 (bl 7 64) (tt k2 (pp (pp a (pp (xI R6 (bU.length) (fun k=>(Zz bU) (0+k))) b)) c))))) (fun k2=>(lr 25 3 [1,1,1,1,1,1,0] 1 9 [(2,(ii 0))] (sl Uc 54 [] (b8 [2]) b7 (bl 7 0) (tt k2 (pp (pp a (pp (xI R6 (bU.length) (fun k=>(Zz bU) (0+k))) b)) c))))))))))))
 | .h3 v4 v38 bU cW dA dB bT cC cT dF aZ=>(lb (fun k0=>(lo fun aG=>let h:=ww aG (tt k0 nn);let n:=fl cC (fl aZ (fl bU nn));let q:=List.range 13;(lb (fun k1=>(lb (fun k2=>(lo fun o0=>let g:=xL (aZ.length+1) (Z4 aZ l0 v38).length;let m:=Z4 aZ l0 v38;(sl Uc 41 [] ⟨[0,1,2,3,4,5,6,7,8,9,10,15,12],[],XU,XS⟩ ⟨[],(Hx 10 [.cells [.len m.length],.rowed 4 m.length (Zz m),.keep]),[]⟩ (CE 8 []) (pp g (pp g (pp (xS (aZ.length+1) (Zo (Zz aZ) 0 aZ.length 4 [(ii (rd l0 (tn v38)).a),(ii (rd l0 (tn v38)).b),(ii (rd l0 (tn v38)).d),(ii (rd l0 (tn v38)).e)]) (Zz (Z4 aZ l0 v38))) (pp (fl cC (pp (xF (Zo (Zz aZ) 0 aZ.length 4 [(ii (rd l0 (tn v38)).a),(ii (rd l0 (tn v38)).b),(ii (rd l0 (tn v38)).d),(ii (rd l0 (tn v38)).e)])) (fl bU nn))) (ww o0 (tt k2 (tt k1 h)))))))))) (fun k2=>(sl Uc 41 [] ⟨q,[],XU,XS⟩ b7 (CE 7 [false]) (pp n (tt k2 (tt k1 h))))))) (fun k1=>(sl Uc 41 [] ⟨q,[],XU,XS⟩ b7 (bl 8 1) (pp n (tt k1 h))))))) (fun k0=>let f:=xZ (DW 4 4 0 aZ.length aZ.length (Zz aZ)) aZ.length (Zz aZ);let l:=xS aZ.length (Zz aZ) (Zz aZ);let o:=xL aZ.length aZ.length;let p:=fl bU (fl cC nn);(Wj (sl Uc (C':=⟨⟨65,0,true⟩,(CV prog 102 [1,1,0,1,0,1,0,0] 4),(Zf prog 102 [1,1,0,1,0,1,0,0] 1),(some 0),[],⟨Ye [(2,(.ptr 1 0)),(4,(.ptr 2 0)),(5,(.ptr 3 0)),(6,(.ptr 4 0)),(7,(.ptr 6 0)),(20,(.dat aZ.length (Zz aZ)))],Eh [(1,⟨[.nilf],174,none⟩),(2,⟨[.nils],46,none⟩),(3,⟨[(ii 0)],24,none⟩),(4,⟨[(.sla 5 6 0 bU.length (.un 6)),(.dat cW.length (Zz cW)),(ii dA),(ii dB)],198,none⟩),(5,⟨rows bU.length (Zz bU),79,some ⟨6,bU.length,(Zz bU)⟩⟩),(6,⟨[(ii cT),(ii dF),(.sl 7 0 1 (.ex 1))],203,none⟩),(7,⟨[(.dat aZ.length (Zz aZ))],195,none⟩),(8,⟨[(.sla 9 1 0 bT (.un 1))],83,none⟩),(9,⟨rows cC.length (Zz cC),3,some ⟨1,cC.length,(Zz cC)⟩⟩),(10,⟨[(.sl 11 0 1 (.un 1))],194,none⟩),(11,⟨[(.dat l0.length (Zz l0))],45,none⟩)],12,[],true⟩,[⟨⟨86,0,true⟩,(CV prog 163 [1,0,0,1,0,0,1,1,0] 2),(Zf prog 163 [1,0,0,1,0,0,1,1,0] 1),none,[],Ye [(0,(.yld 0)),(1,(.ptr 8 0)),(2,(.ptr 10 0)),(4,(ii v4)),(82,(.yld 0)),(83,(.agg [(ii cT),(ii dF),(.sl 7 0 1 (.ex 1))]))]⟩,⟨⟨65,0,true⟩,none,(.inRangeFunc 0::(Zf prog 102 [1,1,0,1,0] 1)),none,(Zy prog 102),Ye [(4,(.ptr 2 0)),(5,(.ptr 3 0)),(6,(.ptr 4 0))]⟩,⟨⟨25,0,true⟩,(CV prog 61 [1,1,1,0,0] 3),(Zf prog 61 [1,1,1,0,0] 1),none,(Zy prog 9),Ye [(0,(.dat l0.length (Zz l0))),(11,(.agg [.nilf])),(13,(.sl 11 0 1 (.un 1)))]⟩],(Ff [(0,⟨.busy,none,65,Ye [(2,(.ptr 1 0)),(4,(.ptr 2 0)),(5,(.ptr 3 0)),(6,(.ptr 4 0))],[15],(DI prog 102 [1,1,0,1,0,0]),(DI prog 102 [1,1,0,1,0,1])⟩)])⟩) 37 [] ⟨[0,1,2,3,4,12,13,10,5,6,7,8],[11],[some [2,4,5,6,7,20],some [0,1,2,4,82,83],some [4,5,6],some [0,11,13]],[some [2,4,5,6],none,none,none,none,none,none,none,none,none,none,none]⟩ ⟨[(20,.frz aZ.length aZ.length (Zz aZ) (Zz aZ))],[.keep,.keep,.keep,.keep,.keep,.keep,.keep,.cells [.frz aZ.length aZ.length (Zz aZ) (Zz aZ)],.keep,.keep,.keep,.keep],[]⟩ (bl 2 0) (pp f (pp o (pp l (pp f (pp o (pp l (pp p (pp (fl aZ nn) (tt k0 nn)))))))))) (lo fun aG=>let c:=pp (pp (xr aZ) (xw aG)) nn;(lb (fun k1=>(lr 25 61 [1,1,1,0,1,1,0,0] 1 9 [(2,(ii 8))] (sl Uc 67 [] (b8 [2]) b7 (bl 8 254) (tt k1 (tt k1 c))))) (fun k1=>let i:=fl cC (fl bU nn);(lb (fun k2=>let j:=tt k2 (tt k1 c);(lb (fun k3=>(lo fun cU=>(lb (fun k4=>(sl Uc 75 [] ⟨[4,5,0,1,2,3,8,9,10,11,7],[],JE,JG⟩ b7 (bl 15 32764) (pp p (tt k4 (pp (pp (xr cW) (pp (xI R4 (Wn (B4 aZ)).length (Zz (Wn (B4 aZ)))) (xw cU))) (tt k3 j)))))) (fun k4=>(sl Uc 95 [] ⟨[4,0,1,2,3,8,9,10,11,7,5],[],XV,XT⟩ b7 (bl 15 16380) (pp i (tt k4 (pp (pp (xr cW) (pp (xI R4 (Wn (B4 aZ)).length (Zz (Wn (B4 aZ)))) (xw cU))) (tt k3 j))))))))) (fun k3=>(sl Uc 95 [] ⟨[4,0,1,2,3,8,9,10,11,7,5],[],XV,XT⟩ b7 (bl 15 252) (pp i (tt k3 j)))))) (fun k2=>(sl Uc 95 [] ⟨[4,0,1,2,3,8,9,10,11,7,5],[],XV,XT⟩ b7 (bl 15 0) (pp i (tt k2 (tt k1 c))))))))))))
 | .h4 v1 v2 v72 v73 v74 bH cL aW aC bW bT cC cT=>(lb (fun k0=>(lo fun o0=>(lo fun o1=>let e:=xL (aW.length+1) (Z5 aW v72 v74 v1 v2).length;let f:=Z5 aW v72 v74 v1 v2;(sl Uc 23 [] ⟨[0,1,2,3,4,5,6,7,8,9,13],[],XV,XT⟩ ⟨[],[.cells [.len f.length,.keep,.keep,.keep],.keep,.keep,.keep,.keep,.keep,.keep,.keep,.keep,.keep,.rowed 6 f.length (Zz f)],[]⟩ [true] (pp e (pp e (pp (xS (aW.length+1) (Zo (Zz aW) 0 aW.length 6 [(ii (rd v72 (tn v74)).a),(ii (rd v72 (tn v74)).b),(ii v1),(ii (rd v72 (tn v74)).c),(ii (rd v72 (tn v74)).d),(ii v2)]) (Zz (Z5 aW v72 v74 v1 v2))) (pp (fl cC (pp (xF (Zo (Zz aW) 0 aW.length 6 [(ii (rd v72 (tn v74)).a),(ii (rd v72 (tn v74)).b),(ii v1),(ii (rd v72 (tn v74)).c),(ii (rd v72 (tn v74)).d),(ii v2)])) nn)) (ww o1 (ww o0 (tt k0 nn))))))))))) (fun k0=>(sl Uc 22 [] ⟨[1,2,3,4,0,5,6,7,8,10],[],u9w,u9y⟩ b7 (bl 2 0) (pp (fl cC (fl aW nn)) (tt k0 nn)))))
 | .h5 v2 v8 dQ bH cL aW aC bW cE dD dN aZ=>(lb (fun k0=>(lo fun o0=>(lo fun o1=>let a:=xL aW.length (Z3 aW v8 v2).length;let b:=Z3 aW v8 v2;(sl Uc 34 [] ⟨(List.range 11),[],JE,JG⟩ ⟨[],[.cells [.len b.length,.keep,.keep,.keep],.rowed 6 b.length (Zz b),.keep,.keep,.keep,.keep,.keep,.keep,.keep,.keep,.keep],[]⟩ [true] (pp a (pp a (pp (xS aW.length (Xw (Zz aW) (0+(tn v8)) 5 [(ii v2)]) (Zz (Z3 aW v8 v2))) (pp (pp (xF (Xw (Zz aW) (0+(tn v8)) 5 [(ii v2)])) (fl dN nn)) (ww o1 (ww o0 (tt k0 nn))))))))))) (fun k0=>(sl Uc 36 [] ⟨[2,3,4,5,0,6,7,8,9,1],[],u9w,u9y⟩ b7 (bl 2 0) (pp (fl dN (fl aW nn)) (tt k0 nn)))))
theorem x9x (l0:List R6):Wp prog (Zy prog 61) (MQ l0) (Zg prog 61 [(.dat l0.length (Zz l0))] true []) (VV l0):=(lb (fun k0=>(lr 25 61 [1,0,1,0,0] 1 9 [(2,(ii 4))] (sl Uc 16 [] (b8 [2]) b7 [true] (tt k0 nn)))) (fun k0=>(sl Uc 40 [] ⟨[],[],JF,JH⟩ b7 [false] (tt k0 nn))))
theorem v9z (l0:List R6) (n:Nat) (vs:List B3) (h:Yw (Xb l0) n (VV l0)=.ret vs):Kj prog (Zy prog 61) (Zg prog 61 [(.dat l0.length (Zz l0))] true []) vs:=by have:=Ze (w8m l0) n _ (x9x l0);rwa [h] at this
theorem w0w (l:List R4):(Wn l).length <=400:=by
 grind [Wn]
def D6 :DQ R6 R4:=⟨R6.c,R6.f,fun r=>⟨r.a,r.b,r.d,r.e⟩,fun x x' s=>⟨s.a,s.b,x,s.c,s.d,x'⟩,fun x r=>⟨r.a,r.b,r.c,r.d,r.e,x⟩,Wn,E6⟩
theorem PB (l:List R6) (x:Int):(D6.sec l x).length <=1000:=AN (w0w _) (by omega)
def Cp :List B3:=[.int .i64 8]
def Rq (l out:List R6):List B3:=bif decide ((out.length:Int)>400) then [.int .i64 8] else bif EE out l then [.int .i64 0] else [.int .i64 8]
def FZ (l:List R6) (x:Int):Bool:=Gm (D6.inn l x) != 0
def FO (l:List R6):Nat->Nat->Bool
 | 0,_=>true
 | k+1,i=>bif FZ l (rd (D6.cuts l) i) then false else FO l k (i+1)
section
variable (l:List R6) (hl:l.length<=400)
include hl
theorem u5w (i:Nat) (out:List R6) (last:List R4) (first fin x x':Int): ∀(k j:Nat) (acc:List R4),j+k=l.length->acc.length<=j->
  ∃n,∀N,Yw (Xb l) (N+n) (.to (.h3 (i:Int) (j:Int) out last first fin ((D6.cuts l).length) (Ca (Qn (D6.ends l))) x x' acc))=Yw (Xb l) N (.to (.h3 (i:Int) (l.length:Int) out last first fin ((D6.cuts l).length) (Ca (Qn (D6.ends l))) x x' (acc++D6.inn (l.drop j) x)))
 | 0,j,acc,h,ha=>by refine ⟨0,fun N=> ?_⟩;rw [Aw (by omega),show D6.inn ([]:List R6) x=[] from rfl,AL,Bn,show j=l.length by omega]
 | k+1,j,acc,h,ha=>by
  have hj:j<l.length:=by omega
  obtain ⟨n,hn⟩:=u5w i out last first fin x x' k (j+1) (acc++D6.inn [rd l j] x) (by omega) (by have:=D6.inn_length [rd l j] x;grind)
  refine ⟨n+1,fun N=> ?_⟩;have e:D6.inn (l.drop j) x=D6.inn [rd l j] x++D6.inn (l.drop (j+1)) x:=by rw [Xx hj,<-D6.inn_append];rfl
  rw [e,<-AO,Zw,<-AH,<-hn N];by_cases h1:D6.lo (rd l j)<=x
  .by_cases h2:x<D6.hi (rd l j)
   .rw [D6.inn_t _ _ h1 h2];simp only [D6] at h1 h2 ⊢;simp (disch:=omega) only [Xb,Wc,Yg,Zt,Yb,Ym,Xi,Xc,Xn,Yf,Zm,Zk,Xr,Zj,Al,AA,Aq,Ar,Af,Ab]
   .rw [D6.inn_f2 _ _ h2,AL];simp only [D6] at h1 h2;simp (disch:=omega) only [Xb,Wc,Yt,Yg,Zt,Yb,Ym,Xi,Xc,Xn,Yf,Zm,Zk,Xr,Zj,Al,AA,Aq,Ar,Af,Ab]
  .rw [D6.inn_f1 _ _ h1,AL];simp only [D6] at h1;simp (disch:=omega) only [Xb,Fu,Yg,Zt,Yb,Ym,Xi,Xc,Xn,Yf,Zm,Zk,Xr,Zj,Al,AA,Aq,Ar,Af,Ab]
theorem u5v (i:Nat) (hi:i<=1000) (x x':Int) (s last:List R4) (first:Int) (inn:List R4) (hs:s.length<=1000): ∀(k j:Nat) (out:List R6),j+k=s.length->out.length<=10000000+j->
  ∃n,∀N,Yw (Xb l) (N+n) (.to (.h4 x x' s (s.length:Int) (j:Int) s (i:Int) out last first ((D6.cuts l).length) (Ca (Qn (D6.ends l))) inn))=Yw (Xb l) N (.to (.h2 ((i+1:Nat):Int) (out++(s.drop j).map (D6.put x x')) last first x' ((D6.cuts l).length) (Ca (Qn (D6.ends l)))))
 | 0,j,out,h,ho=>by
  have _u:=hl;refine ⟨1,fun N=> ?_⟩
  grind [Zw,Xb,Zm]
 | k+1,j,out,h,ho=>by
  obtain ⟨n,hn⟩:=u5v i hi x x' s last first inn hs k (j+1) (out++[D6.put x x' (rd s j)]) (by omega) (by simp;omega)
  refine ⟨n+1,fun N=> ?_⟩;have:=hn N;rw [Xx (show j<s.length by omega),A5,<-AO,Zw];simp (disch:=omega) only [Xb,Yg,Zt,Yb,Ym,Xi,Xc,Xn,Yf,Zm,Zk,Xr,Zj,Al,AA,Aq,Ar,Af,Ab];rw [AH] at this;exact this
theorem u5u (i:Nat) (hi:i<=1000) (x x' fin:Int) (s last:List R4) (first:Int) (inn:List R4): ∀(k j:Nat) (out:List R6),j+k=out.length->out.length<=10000000->
  ∃n,∀N,Yw (Xb l) (N+n) (.to (.h5 x' (j:Int) x s (i:Int) out last first fin ((D6.cuts l).length) (Ca (Qn (D6.ends l))) inn))=Yw (Xb l) N (.to (.h2 ((i+1:Nat):Int) (D6.grow out j x') last first x' ((D6.cuts l).length) (Ca (Qn (D6.ends l)))))
 | 0,j,out,h,ho=>by
  have _u:=hl;refine ⟨1,fun N=> ?_⟩;rw [D6.grow_nil _ _ _ (by omega),Zw]
  grind [Xb,Zm]
 | k+1,j,out,h,ho=>by
  obtain ⟨n,hn⟩:=u5u i hi x x' fin s last first inn k (j+1) (out.set j (D6.ext x' (rd out j))) (by simp;omega) (by grind)
  refine ⟨n+1,fun N=> ?_⟩;have:=hn N;rw [D6.grow_set out j _ (by omega)] at this;rw [<-AO,Zw];simp (disch:=omega) only [Xb,Yg,Zt,Yb,Ym,Xi,Xc,Xn,Yf,Zm,Zk,Xr,Zj,Al,AA,Aq,Ar,Af,Ab];exact this
theorem v3p : ∀(k i:Nat) (s:Sw R6 R4),k=(D6.cuts l).length - 1 - i->i<=(D6.cuts l).length ->s.out.length<=i*1000->s.last.length<=1000->s.first<=s.out.length->
  ∃n,Yw (Xb l) n (.to (.h2 ((i+1:Nat):Int) s.out s.last (s.first:Int) s.fin ((D6.cuts l).length) (Ca (Qn (D6.ends l)))))=.ret ((bif FO l k i then Rq l (D6.go l k i s).out else Cp))
 | 0,i,s,h,hi,ho,hla,hf=>by
  have hc:=D6.cuts_length l;refine ⟨1,?_⟩;rw [Zw,show D6.go l 0 i s=s from rfl,show FO l 0 i=true from rfl,Af];unfold Rq;by_cases q:(s.out.length:Int)>400
  .grind [Xb,Zh]
  .have e:Cf R6 s.out.length (fun k=>(Zz s.out) k)=s.out:=Zt s.out;have w:Uf s.out l=true:=Aa (by omega);have f:DB (Zz s.out)=true:=Xo _;rcases Vr (EE s.out l) with q2 | q2 <;>
   simp (disch:=omega) only [Xb,Yg,e,w,f,q2,Yt,Wz,Xi,Xr,Al,Ay,AD,Aq,Af,Ab,Zh]
 | k +1,i,s,h,hi,ho,hla,hf=>by
  have hc:=D6.cuts_length l;have hi1:i+1<(D6.cuts l).length :=by omega
  have hpl:(Ca (Qn (D6.ends l))).length =2*l.length:=by rw [X6,UU,D6.ends_length]
  have r0:rd (Ca (Qn (D6.ends l))) i=rd (D6.cuts l) i:=W4 _ _ (by show i<(D6.cuts l).length;omega);have r1:rd (Ca (Qn (D6.ends l))) (i+1)=rd (D6.cuts l) (i+1):=W4 _ _ (by show i+1<(D6.cuts l).length;omega);have hbig:i*1000<=1000*1000:=AE _ (by omega);have hsl:=PB l (rd (D6.cuts l) i);have hsd:D6.sec l (rd (D6.cuts l) i)=Wn (D6.inn l (rd (D6.cuts l) i)):=rfl;obtain ⟨n3,h3⟩:=u5w l hl (i+1) s.out s.last (s.first:Int) s.fin (rd (D6.cuts l) i) (rd (D6.cuts l) (i+1)) l.length 0 [] (Al _) (An _);simp only [AR,A1,HM] at h3;have w1:UC (D6.inn l (rd (D6.cuts l) i))=true:=rfl;have w2:Ky s.last (Wn (D6.inn l (rd (D6.cuts l) i)))=true:=Aa (by omega);have ol:=D6.one_length l (rd (D6.cuts l) i) (rd (D6.cuts l) (i+1)) s;have st0: ∀N,Yw (Xb l) (N+n3+1) (.to (.h2 ((i+1:Nat):Int) s.out s.last (s.first:Int) s.fin ((D6.cuts l).length) (Ca (Qn (D6.ends l)))))=Yw (Xb l) N (.to (.h3 ((i+1:Nat):Int) (l.length:Int) s.out s.last (s.first:Int) s.fin ((D6.cuts l).length) (Ca (Qn (D6.ends l))) (rd (D6.cuts l) i) (rd (D6.cuts l) (i+1)) (D6.inn l (rd (D6.cuts l) i)))):=fun N=>by
   rw [<-h3 N,Zw];have e1:wrap .i64 (((i+1:Nat):Int) - 1)=(i:Int):=by rw [Yy];exact Zm (by omega)
   simp (disch:=omega) only [Xb,e1,r0,r1,Yg,Zt,Yb,Ym,Xi,Xc,Xn,Yf,Zm,Zk,Xr,Zj,Al,AA,Aq,Ar,Af,Ab]
  rcases Vr (FZ l (rd (D6.cuts l) i)) with q0 | q0
  .refine ⟨1+n3+1,?_⟩;rw [st0 1,Zw];simp only [FO,q0,Af,Ab];have q0':(Gm (D6.inn l (rd (D6.cuts l) i)) != 0)=true:=q0;simp (disch:=omega) only [Xb,Yg,Zt,Yt,q0',w1,Af,Ab,Zh];rfl
  have q0':(Gm (D6.inn l (rd (D6.cuts l) i)) != 0)=false:=q0;rcases Vr (decide (0<(D6.sec l (rd (D6.cuts l) i)).length)&&((s.fin == rd (D6.cuts l) i)&&D6.same s.last (D6.sec l (rd (D6.cuts l) i)))) with q | q
  .obtain ⟨n5,h5⟩:=u5u l hl (i+1) (by omega) (rd (D6.cuts l) i) (rd (D6.cuts l) (i+1)) s.fin (D6.sec l (rd (D6.cuts l) i)) s.last (s.first:Int) (D6.inn l (rd (D6.cuts l) i)) (s.out.length - s.first) s.first s.out (by omega) (by omega)
   have e:D6.one l (rd (D6.cuts l) i) (rd (D6.cuts l) (i+1)) s=⟨D6.grow s.out s.first (rd (D6.cuts l) (i+1)),s.last,s.first,rd (D6.cuts l) (i+1)⟩:=by unfold DQ.one;rw [q];rfl
   obtain ⟨n0,h0⟩:=v3p k (i+1) (D6.one l (rd (D6.cuts l) i) (rd (D6.cuts l) (i+1)) s) (by omega) (by omega) (by omega) (by grind) (by grind [DQ.grow_length]);refine ⟨n0+n5+1+n3+1,?_⟩;rw [st0 (n0+n5+1),Zw];simp only [Ad,Ak] at q;obtain ⟨q1,q2,q3⟩:=q;have q3':E6 s.last (Wn (D6.inn l (rd (D6.cuts l) i)))=true:=q3
   grind [Xb,Yg,FO,DQ.go]
  .obtain ⟨n4,h4⟩:=u5v l hl (i+1) (by omega) (rd (D6.cuts l) i) (rd (D6.cuts l) (i+1)) (D6.sec l (rd (D6.cuts l) i)) (D6.sec l (rd (D6.cuts l) i)) (s.out.length:Int) (D6.inn l (rd (D6.cuts l) i)) hsl (D6.sec l (rd (D6.cuts l) i)).length 0 s.out (Al _) (by omega);simp only [AR,HM] at h4;have e:D6.one l (rd (D6.cuts l) i) (rd (D6.cuts l) (i+1)) s=⟨s.out++(D6.sec l (rd (D6.cuts l) i)).map (D6.put (rd (D6.cuts l) i) (rd (D6.cuts l) (i+1))),D6.sec l (rd (D6.cuts l) i),s.out.length,rd (D6.cuts l) (i+1)⟩:=by unfold DQ.one;rw [q];rfl
   obtain ⟨n0,h0⟩:=v3p k (i+1) (D6.one l (rd (D6.cuts l) i) (rd (D6.cuts l) (i+1)) s) (by omega) (by omega) (by omega) (by grind) (by rw [e];simp);have hg:Yw (Xb l) 1 (.to (.h3 ((i+1:Nat):Int) (l.length:Int) s.out s.last (s.first:Int) s.fin ((D6.cuts l).length) (Ca (Qn (D6.ends l))) (rd (D6.cuts l) i) (rd (D6.cuts l) (i+1)) (D6.inn l (rd (D6.cuts l) i))))=.to (.h4 (rd (D6.cuts l) i) (rd (D6.cuts l) (i+1)) (D6.sec l (rd (D6.cuts l) i)) ((D6.sec l (rd (D6.cuts l) i)).length :Int) 0 (D6.sec l (rd (D6.cuts l) i)) ((i+1:Nat):Int) s.out (D6.sec l (rd (D6.cuts l) i)) (s.out.length:Int) ((D6.cuts l).length) (Ca (Qn (D6.ends l))) (D6.inn l (rd (D6.cuts l) i))):=by
    rw [show (1:Nat)=0+1 from rfl,Zw];rw [hsd] at q ⊢;have e3:D6.same s.last (Wn (D6.inn l (rd (D6.cuts l) i)))=E6 s.last (Wn (D6.inn l (rd (D6.cuts l) i))):=rfl;rw [e3] at q;by_cases q1:0<(Wn (D6.inn l (rd (D6.cuts l) i))).length
    .rw [Aa q1,Ar] at q;rcases Vr (s.fin == rd (D6.cuts l) i) with q2 | q2
     .rw [q2,Ar] at q;simp (disch:=omega) only [Xb,Yg,Zt,Yt,Xv,q0',q2,q,w1,w2,Af,Ab];rfl
     .simp (disch:=omega) only [Xb,Yg,Zt,Yt,Xv,q0',q2,w1,w2,Af,Ab];rfl
    .simp (disch:=omega) only [Xb,Yg,Zt,Yt,Wz,q0',w1,w2,Af,Ab];rfl
   refine ⟨n0+n4+1+n3+1,?_⟩;simp_all [x8b,FO,DQ.go]
theorem u5x : ∀(k i:Nat) (acc:List Int),i+k=l.length->acc=D6.ends (l.take i)-> ∃n,Yw (Xb l) n (.to (.h1 (i:Int) acc))=.ret ((bif FO l ((D6.cuts l).length - 1) 0 then Rq l (D6.go l ((D6.cuts l).length - 1) 0 ⟨[],[],0,0⟩).out else Cp))
 | 0,i,acc,h,ha=>by
  have e:acc=D6.ends l:=by grind
  subst e;have hle:=D6.ends_length l;obtain ⟨n,hn⟩:=v3p l hl ((D6.cuts l).length - 1) 0 ⟨[],[],0,0⟩ (by omega) (AF _) (AF _) (AF _) (AF _);refine ⟨n+1,?_⟩;rw [Zw];simp (disch:=omega) only [Xb,X5,x1q,v8j,Yt,Xc,Xn,AA,Af,Ab];exact hn
 | k+1,i,acc,h,ha=>by
  have hle:=D6.ends_length (l.take i);have hacc:acc.length<=2*i:=by grind
  obtain ⟨n,hn⟩:=u5x k (i+1) (acc++D6.ends [rd l i]) (by omega) (by
   rw [ha,Bx];have:l[i]? =some (rd l i):=by grind [Wb]
   rw [this,D6.ends_append];rfl)
  refine ⟨n+1,?_⟩;rw [Zw];simp (disch:=omega) only [Xb,Yg,Zt,Yb,Ym,Xi,Xc,Xn,Yf,Zm,Zk,Xr,Zj,Al,AA,Aq,Ar,Af,Ab];exact hn
theorem u5y : ∀(k i:Nat),i+k=l.length->(∀s∈l.take i,DV s=true)-> ∃n,Yw (Xb l) n (.to (.h0 (i:Int)))=.ret (bif l.all DV then (bif FO l ((D6.cuts l).length - 1) 0 then Rq l (D6.go l ((D6.cuts l).length - 1) 0 ⟨[],[],0,0⟩).out else Cp) else Cp)
 | 0,i,h,ht=>by
  have hv:l.all DV=true:=Ax.2 fun s hs=>ht s (by grind);obtain ⟨n,hn⟩:=u5x l hl l.length 0 [] (Al _) rfl;refine ⟨n+1,?_⟩
  grind [Zw,Xb]
 | k+1,i,h,ht=>by
  have hi:i<l.length:=by omega
  have hs:Xb l (.h0 (i:Int))=bif DV (rd l i) then .to (.h0 ((i+1:Nat):Int)) else .ret Cp:=by have e:Fx (rd l i).a (rd l i).b (rd l i).c (rd l i).d (rd l i).e (rd l i).f =DV (rd l i):=rfl;simp (disch:=omega) only [Xb,e,w4d,v7x,u8q,Ym,Zm,Zk,Zj,Aq,Af,Ab];rfl
  rcases Vr (DV (rd l i)) with q | q
  .obtain ⟨n,hn⟩:=u5y k (i+1) (by omega) (fun s hs=>by
    rw [Bx] at hs
    grind [Wb])
   refine ⟨n+1,?_⟩
   grind [Zw]
  .have hv:l.all DV=false:=A8.2 fun e=>by
    grind [Wb]
   refine ⟨1,?_⟩
   grind [Zw,Zh]
end
def Vu (l:List R6):Int:=bif decide (400<l.length) then 4 else bif l.all DV then (bif FO l ((D6.cuts l).length - 1) 0 then (bif decide (((D6.out l).length :Int)>400) then 8 else bif EE (D6.out l) l then 0 else 8) else 8) else 8
def v3s (l:List R6):Bool:=true
theorem u9v (l:List R6): ∃n,Yw (Xb l) n (VV l)=.ret [.int .i64 (Vu l)]:=by
 unfold VV Vu;by_cases h:400<l.length
 .refine ⟨0,?_⟩;rw [Aa h,Xv (show (l.length:Int)>400 by omega)];rfl
 .obtain ⟨n,hn⟩:=u5y l (by omega) l.length 0 (Al _) (fun s hs=>by simp at hs);refine ⟨n,?_⟩;rw [Ai h,Wz (show ¬(l.length:Int)>400 by omega),Ab,Ab];rw [HM] at hn;rw [hn];unfold Cp Rq;cases l.all DV <;> simp only [Af,Ab];cases FO l ((D6.cuts l).length - 1) 0 <;> simp only [Af,Ab];show Xj.ret (bif decide (((D6.out l).length :Int)>400) then _ else bif EE (D6.out l) l then _ else _)=_
  grind
def OG :List B3->Option (B3×Bool)
 | [a1]=>match Cc R6 a1 with
  | some (L1,g1,n1)=>some (.int .i64 (Vu L1),CT R6 n1 g1&&v3s L1)
  | _=>none
 | _=>none
theorem j4a {S:B6} (hS:Zv prog S):Zv prog (S.with x7l OG):=by
 refine CS hS (by kernel_rfl) fun args v h=> ?_;unfold OG at h;split at h
 .rename_i a1;split at h
  .rename_i L1 g1 n1 e1;simp only [Ae,Ac,Ad] at h;obtain ⟨rfl,ho1,hw⟩:=h;obtain ⟨N,hN⟩:=u9v L1;exact ⟨_,_,(.cons (Xh e1 ho1) .nil),rfl,v9z L1 N _ hN,3,rfl⟩
  .cases h
 .cases h
def T8 :B6:=T7v.with x7l OG
theorem DN :Zv prog T8:=j4a Uc
def x9z (l:List R6):Bool:=true
def w1d (l:List R6):Bool:=true
inductive Em where
 | h0 (v3:Int)
def j1p (l0:List R6):Em->CG
 | .h0 v3=>⟨⟨34,0,true⟩,none,(Zf prog 76 [1,1,0,1,0,0] 0),none,(Zy prog 9),⟨Ye [(0,(.dat l0.length (Zz l0))),(3,(ii v3))],Xs [] 0,0,[],true⟩,[],.leaf⟩
def u7g :List (Option (List Nat)):=[some [0,3]]
def u7h :List (Option (List Nat)):=[]
def I8 (l0:List R6):Em->Xj Em
 | .h0 v3=>(bif (decide (v3<(l0.length:Int))) then (bif ((decide (0<=v3/\v3<(l0.length:Int)))&&true) then (bif (decide ((rd l0 v3.toNat).a >=(-1000000))) then (bif (decide ((rd l0 v3.toNat).b >=(-1000000))) then (bif (decide ((rd l0 v3.toNat).c >=(-1000000))) then (bif (decide ((rd l0 v3.toNat).a <=1000000)) then (bif (decide ((rd l0 v3.toNat).b <=1000000)) then (bif (decide ((rd l0 v3.toNat).c <=1000000)) then (bif (decide ((rd l0 v3.toNat).d >=(-1000000))) then (bif (decide ((rd l0 v3.toNat).e >=(-1000000))) then (bif (decide ((rd l0 v3.toNat).f >=(-1000000))) then (bif (decide ((rd l0 v3.toNat).d <=1000000)) then (bif (decide ((rd l0 v3.toNat).e <=1000000)) then (bif (decide ((rd l0 v3.toNat).f <=1000000)) then (bif (decide ((rd l0 v3.toNat).a <(rd l0 v3.toNat).d)) then (bif (decide ((rd l0 v3.toNat).b <(rd l0 v3.toNat).e)) then (bif (!(decide ((rd l0 v3.toNat).c <(rd l0 v3.toNat).f))) then (.ret [(.int .i64 8)]) else (.to (.h0 (wrap .i64 (v3+1))))) else (.ret [(.int .i64 8)])) else (.ret [(.int .i64 8)])) else (.ret [(.int .i64 8)])) else (.ret [(.int .i64 8)])) else (.ret [(.int .i64 8)])) else (.ret [(.int .i64 8)])) else (.ret [(.int .i64 8)])) else (.ret [(.int .i64 8)])) else (.ret [(.int .i64 8)])) else (.ret [(.int .i64 8)])) else (.ret [(.int .i64 8)])) else (.ret [(.int .i64 8)])) else (.ret [(.int .i64 8)])) else (.ret [(.int .i64 8)])) else .stuck) else (bif (RY 2 (B4 l0) ([]:List R6)) then (bif (!(Im 2 (B4 l0) ([]:List R6))) then (.ret [(.int .i64 8)]) else (bif (Uf (B4 (EQ 2 (B4 l0) ([]:List R6))) (B4 l0)) then (bif (!(EE (B4 (EQ 2 (B4 l0) ([]:List R6))) (B4 l0))) then (.ret [(.int .i64 8)]) else (.ret [(.int .i64 0)])) else .stuck)) else .stuck))
def Ty (l0:List R6):Xj Em:=(bif (decide ((l0.length:Int)>400)) then (.ret [(.int .i64 4)]) else (.to (.h0 0)))
theorem w1e (l0:List R6): ∀s,Wp prog (Zy prog 76) (j1p l0) (j1p l0 s) (I8 l0 s)
 | .h0 v3=>(lb (fun k0=>(lo fun aG=>let f:=ww aG (tt k0 nn);(lb (fun k1=>(lb (fun k2=>let c:=tt k2 (tt k1 f);(lb (fun k3=>let i:=bl 31 1073741824;(lb (fun k4=>let g:=tt k4 (tt k3 c);let l:=bl 28 134217728;(lb (fun k5=>let m:=bl 25 16777216;(lb (fun k6=>let a:=tt k6 (tt k5 g);(lb (fun k7=>(lb (fun k8=>let j:=tt k8 (tt k7 a);(lb (fun k9=>let d:=tt k9 j;(lb (fun k10=>(lb (fun k11=>let b:=tt k11 (tt k10 d);(lb (fun k12=>(lb (fun k13=>let e:=tt k13 (tt k12 b);(lb (fun k14=>(lb (fun k15=>(lr 34 76 [1,1,0,1,0,0,1,0,0,1,0,0] 1 9 [(2,(ii 8))] (sl DN 158 [] (b8 [2]) b7 (CE 60 []) (tt k15 (tt k14 e))))) (fun k15=>(sl DN 162 [] ⟨[],[],u7g,u7h⟩ b7 (CE 59 [false]) (tt k15 (tt k14 e)))))) (fun k14=>(lr 34 76 [1,1,0,1,0,0,1,0,0,1,0,0] 1 9 [(2,(ii 8))] (sl DN 158 [] (b8 [2]) b7 (CE 52 (bl 8 128)) (tt k14 e)))))) (fun k13=>(lr 34 76 [1,1,0,1,0,0,1,0,0,1,0,0] 1 9 [(2,(ii 8))] (sl DN 158 [] (b8 [2]) b7 (CE 45 (bl 15 16384)) (tt k13 (tt k12 b))))))) (fun k12=>(lr 34 76 [1,1,0,1,0,0,1,0,0,1,0,0] 1 9 [(2,(ii 8))] (sl DN 158 [] (b8 [2]) b7 (CE 38 (bl 22 2097152)) (tt k12 b)))))) (fun k11=>(lr 34 76 [1,1,0,1,0,0,1,0,0,1,0,0] 1 9 [(2,(ii 8))] (sl DN 158 [] (b8 [2]) b7 (CE 35 m) (tt k11 (tt k10 d))))))) (fun k10=>(lr 34 76 [1,1,0,1,0,0,1,0,0,1,0,0] 1 9 [(2,(ii 8))] (sl DN 158 [] (b8 [2]) b7 (CE 32 l) (tt k10 d)))))) (fun k9=>(lr 34 76 [1,1,0,1,0,0,1,0,0,1,0,0] 1 9 [(2,(ii 8))] (sl DN 158 [] (b8 [2]) b7 (CE 29 i) (tt k9 j)))))) (fun k8=>(lr 34 76 [1,1,0,1,0,0,1,0,0,1,0,0] 1 9 [(2,(ii 8))] (sl DN 158 [] (b8 [2]) b7 (CE 25 (bl 35 17179869184)) (tt k8 (tt k7 a))))))) (fun k7=>(lr 34 76 [1,1,0,1,0,0,1,0,0,1,0,0] 1 9 [(2,(ii 8))] (sl DN 158 [] (b8 [2]) b7 (CE 21 (bl 39 274877906944)) (tt k7 a)))))) (fun k6=>(lr 34 76 [1,1,0,1,0,0,1,0,0,1,0,0] 1 9 [(2,(ii 8))] (sl DN 117 [] (b8 [2]) b7 (CE 18 m) (tt k6 (tt k5 g))))))) (fun k5=>(lr 34 76 [1,1,0,1,0,0,1,0,0,1,0,0] 1 9 [(2,(ii 8))] (sl DN 117 [] (b8 [2]) b7 (CE 15 l) (tt k5 g)))))) (fun k4=>(lr 34 76 [1,1,0,1,0,0,1,0,0,1,0,0] 1 9 [(2,(ii 8))] (sl DN 117 [] (b8 [2]) b7 (CE 12 i) (tt k4 (tt k3 c))))))) (fun k3=>(lr 34 76 [1,1,0,1,0,0,1,0,0,1,0,0] 1 9 [(2,(ii 8))] (sl DN 117 [] (b8 [2]) b7 (CE 9 (bl 34 8589934592)) (tt k3 c)))))) (fun k2=>(lr 34 76 [1,1,0,1,0,0,1,0,0,1,0,0] 1 9 [(2,(ii 8))] (sl DN 117 [] (b8 [2]) b7 (CE 5 (bl 38 137438953472)) (tt k2 (tt k1 f))))))) (fun k1=>(lr 34 76 [1,1,0,1,0,0,1,0,0,1,0,0] 1 9 [(2,(ii 8))] (sl DN 117 [] (b8 [2]) b7 (bl 43 4398046511105) (tt k1 f))))))) (fun k0=>(lo fun aG=>(lb (fun k1=>(lr 34 76 [1,1,1,1,0,1,0,0] 1 9 [(2,(ii 8))] (sl DN 37 [] (b8 [2]) b7 (bl 6 62) (tt k1 (pp (pp (xr l0) (pp (xI R6 0 (fun _=>[])) (xw aG))) (tt k0 nn)))))) (fun k1=>(lo fun bJ=>let h:=pp (xr l0) (xw bJ);(lb (fun k2=>(lr 34 76 [1,1,1,1,0,1,0,0] 1 9 [(2,(ii 8))] (sl DN 37 [] (b8 [2]) b7 (bl 6 32) (tt k2 (pp (pp (xI R6 (EQ 2 (B4 l0) ([]:List R6)).length (Zz (EQ 2 (B4 l0) ([]:List R6)))) h) (tt k1 (pp (pp (xr l0) (pp (xI R6 0 (fun _=>[])) (xw aG))) (tt k0 nn)))))))) (fun k2=>(lr 34 3 [1,1,1,1,1,1,0] 1 9 [(2,(ii 0))] (sl DN 38 [] (b8 [2]) b7 (bl 6 0) (tt k2 (pp (pp (xI R6 (EQ 2 (B4 l0) ([]:List R6)).length (Zz (EQ 2 (B4 l0) ([]:List R6)))) h) (tt k1 (pp (pp (xr l0) (pp (xI R6 0 (fun _=>[])) (xw aG))) (tt k0 nn)))))))))))))))
theorem x6r (l0:List R6):Wp prog (Zy prog 76) (j1p l0) (Zg prog 76 [(.dat l0.length (Zz l0))] true []) (Ty l0):=(lb (fun k0=>(lr 34 76 [1,0,1,0,0] 1 9 [(2,(ii 4))] (sl DN 16 [] (b8 [2]) b7 [true] (tt k0 nn)))) (fun k0=>(sl DN 20 [] ⟨[],[],u7g,u7h⟩ b7 [false] (tt k0 nn))))
theorem v5e (l0:List R6) (n:Nat) (vs:List B3) (h:Yw (I8 l0) n (Ty l0)=.ret vs):Kj prog (Zy prog 76) (Zg prog 76 [(.dat l0.length (Zz l0))] true []) vs:=by have:=Ze (w1e l0) n _ (x6r l0);rwa [h] at this
def Fj (r:R6):Bool:=decide (r.a>= -1000000)&&(decide (r.b>= -1000000)&&(decide (r.c>= -1000000)&&(decide (r.a<=1000000)&&(decide (r.b<=1000000)&&(decide (r.c<=1000000)&&(decide (r.d>= -1000000)&&(decide (r.e>= -1000000)&&(decide (r.f>= -1000000)&&(decide (r.d<=1000000)&&(decide (r.e<=1000000)&&(decide (r.f<=1000000)&&(decide (r.a<r.d)&&(decide (r.b<r.e)&&decide (r.c<r.f))))))))))))))
def Hk (l:List R6):Int:=bif Im 2 l [] then (bif EE (EQ 2 l []) l then 0 else 8) else 8
def Ii (l:List R6):Int:=bif decide (400<l.length) then 4 else bif l.all Fj then Hk l else 8
def v5c (l:List R6):Bool:=true
theorem v0t (k:Int) (l m:List R6):(EQ k l m).length <=400\/Im k l m=false:=by
 grind [EQ,Im]
section
variable (l:List R6) (hl:l.length<=400)
include hl
theorem v5d : ∀(k i:Nat),i+k=l.length->(∀s∈l.take i,Fj s=true)-> ∃n,Yw (I8 l) n (.to (.h0 (i:Int)))=.ret [.int .i64 (bif l.all Fj then Hk l else 8)]
 | 0,i,h,ht=>by
  have hv:l.all Fj=true:=Ax.2 fun s hs=>ht s (by grind);have w1:RY 2 l []=true:=N1 (by omega) (by simp);refine ⟨1,?_⟩;rw [Zw,hv,Af];unfold Hk;rcases Vr (Im 2 l []) with q | q
  .have w2:Uf (EQ 2 l []) l=true:=Aa (by
    grind [v0t])
   rcases Vr (EE (EQ 2 l []) l) with q2 | q2 <;>
   simp (disch:=omega) only [I8,Yg,Yt,q,q2,w1,w2,Ay,AD,Af,Ab,Zh]
  grind [I8,Yg,Zh]
 | k+1,i,h,ht=>by
  have hi:i<l.length:=by omega
  have hs:I8 l (.h0 (i:Int))=bif Fj (rd l i) then .to (.h0 ((i+1:Nat):Int)) else .ret [.int .i64 8]:=by simp (disch:=omega) only [I8,Fj,w4e,w4d,v7x,Ym,Zm,Zk,Zj,Aq,Af,Ab]
  rcases Vr (Fj (rd l i)) with q | q
  .obtain ⟨n,hn⟩:=v5d k (i+1) (by omega) (fun s hs=>by
    rw [Bx] at hs
    grind [Wb])
   refine ⟨n+1,?_⟩
   grind [Zw]
  .have hv:l.all Fj=false:=A8.2 fun e=>by
    grind [Wb]
   refine ⟨1,?_⟩
   grind [Zw,Zh]
end
theorem u1p (l:List R6): ∃n,Yw (I8 l) n (Ty l)=.ret [.int .i64 (Ii l)]:=by
 unfold Ty Ii;by_cases h:400<l.length
 .refine ⟨0,?_⟩;rw [Aa h,Xv (show (l.length:Int)>400 by omega)];rfl
 .obtain ⟨n,hn⟩:=v5d l (by omega) l.length 0 (Al _) (fun s hs=>by simp at hs)
  grind
def OL :List B3->Option (B3×Bool)
 | [a1]=>match Cc R6 a1 with
  | some (L1,g1,n1)=>some (.int .i64 (Ii L1),CT R6 n1 g1&&v5c L1)
  | _=>none
 | _=>none
theorem j4l {S:B6} (hS:Zv prog S):Zv prog (S.with v6i OL):=by
 refine CS hS (by kernel_rfl) fun args v h=> ?_;unfold OL at h;split at h
 .rename_i a1;split at h
  .rename_i L1 g1 n1 e1;simp only [Ae,Ac,Ad] at h;obtain ⟨rfl,ho1,hw⟩:=h;obtain ⟨N,hN⟩:=u1p L1;exact ⟨_,_,(.cons (Xh e1 ho1) .nil),rfl,v5e L1 N _ hN,3,rfl⟩
  .cases h
 .cases h
def T9 :B6:=T8.with v6i OL
theorem Tj :Zv prog T9:=j4l DN
def C9 (s sep:List UInt8):Int:=Lib.indexByte s (sep.headD 0)
def Y7 (s sep:List UInt8):Bool:=Nat.beq sep.length 1
def OY :List B3->Option (B3×Bool)
 | [.str s,.str sep]=>some (.int .i64 (C9 s sep),Y7 s sep)
 | _=>none
theorem w5x {sep:List UInt8} (h:Nat.beq sep.length 1=true):sep=[sep.headD 0]:=by
 have h1:=Ah h
 match sep,h1 with
 | [b],_=>rfl
theorem j4x {S:B6} (hS:Zv prog S):Zv prog (S.with TO OY):=PO hS (by kernel_rfl) (QW fun args v hv H vals w eG hH hG=>by
 unfold OY at hv;split at hv
 .rename_i s sep;simp only [Ae,Ac] at hv;obtain ⟨rfl,ho⟩:=hv;have hs:=w5x ho;obtain rfl:vals= #[.string ⟨s.toArray⟩,.string ⟨sep.toArray⟩]:=by
   obtain ⟨vl⟩:=vals;cases eG with
   | cons h1 h2=>cases h2 with
    | cons h2 h3=>cases h3;cases h1;cases h2;rfl
  rw [hs];refine (Any.stringslite_Index_one Tryz.lays219 ⟨s.toArray⟩ (sep.headD 0) w).mono fun e w' ⟨he,hw⟩=>⟨_,he,.int _ _,?_⟩
  subst hw;exact RowKit.Below.refl _ _
 .cases hv)
def Oh (s sep:List UInt8):Int:=((Lib.countByte s (sep.headD 0):Nat):Int)
def YU (s sep:List UInt8):Bool:=Nat.beq sep.length 1
def O8 :List B3->Option (B3×Bool)
 | [.str s,.str sep]=>some (.int .i64 (Oh s sep),YU s sep)
 | _=>none
theorem j5k {S:B6} (hS:Zv prog S):Zv prog (S.with Tf O8):=PO hS (by kernel_rfl) (QW fun args v hv H vals w eG hH hG=>by
 unfold O8 at hv;split at hv
 .rename_i s sep;simp only [Ae,Ac] at hv;obtain ⟨rfl,ho⟩:=hv;have hs:=w5x ho;obtain rfl:vals= #[.string ⟨s.toArray⟩,.string ⟨sep.toArray⟩]:=by
   obtain ⟨vl⟩:=vals;cases eG with
   | cons h1 h2=>cases h2 with
    | cons h2 h3=>cases h3;cases h1;cases h2;rfl
  rw [hs];refine (Any.strings_Count_one Tryz.lays138 ⟨s.toArray⟩ (sep.headD 0) w).mono fun e w' ⟨he,hw⟩=>⟨_,he,.int _ _,?_⟩
  subst hw;exact RowKit.Below.refl _ _
 .cases hv)
def N9 (L:List (List UInt8)) (sep:List UInt8):List UInt8:=Lib.join L sep
def PP (L:List (List UInt8)) (sep:List UInt8):Bool:=decide (L.length<=1000000)&&decide ((N9 L sep).length <=1000000)
def OV :List B3->Option (B3×Bool)
 | [a0,.str sep]=>match Cc (List UInt8) a0 with
  | some (L,g,n)=>some (.str (N9 L sep),CT (List UInt8) n g&&PP L sep)
  | _=>none
 | _=>none
theorem j4w {S:B6} (hS:Zv prog S):Zv prog (S.with N3 OV):=PO hS (by kernel_rfl) (QW fun args v hv H vals w eG hH hG=>by
 unfold OV at hv;split at hv
 .rename_i a0 sep;split at hv
  .rename_i L g n e0;simp only [Ae,Ac,Ad] at hv;obtain ⟨rfl,ht,ho⟩:=hv;unfold PP at ho;rw [Ad,Ak,Ak] at ho;obtain ⟨v0,rfl,eD⟩: ∃v0,vals= #[v0,.string ⟨sep.toArray⟩]/\Zr (DD H) (.dat L.length (Zz L)) v0:=by
    obtain ⟨vl⟩:=vals;cases eG with
    | cons h1 h2=>cases h2 with
     | cons h2 h3=>cases h3;cases h2;exact ⟨_,rfl,(Xh e0 ht).sound h1⟩
   have hmap:(L.map fun s=>(⟨s.toArray⟩:ByteArray)).map (·.data.toList)=L:=by rw [List.map_map];exact (List.map_congr_left fun s _=>rfl).trans (List.map_id L)
   have hlenm:(L.map fun s=>(⟨s.toArray⟩:ByteArray)).length =L.length:=Bs _;have none: ∀(a:Option Addr) (c:Nat),L.length=0->Calls prog N3 #[.slice a 0 c,.string ⟨sep.toArray⟩] w fun e w'=> ∃u,e=.returned u/\Zr (DD H) (.str (N9 L sep)) u/\RowKit.Below w.heap.size w w':=fun a c h0=>by
    obtain rfl:=Bt h0;refine (Any.strings_Join_none Tryz.lays156 Tryz.Builder_Extra_156 a c ⟨sep.toArray⟩ w).mono fun e w' ⟨he,hw⟩=>⟨_,he,?_,?_⟩
    .exact .str _
    .subst hw;exact RowKit.Below.refl _ _
   generalize hn:L.length=m at eD;cases eD with
   | datn=>exact none _ _ hn
   | datz _ a c=>exact none _ _ hn
   | dat _ _ blk base sz cap val eM hsz hv hh=>
    by_cases h0:L.length=0
    .rw [<-hn,h0];exact none _ _ h0
    have fI: ∀i,(hi:i<L.length)->Zz L i=[.str L[i]]:=fun i hi=>by show Xu.cells (rd L i)=_;rw [Wb hi];rfl
    have hsz1:sz=1:=by have:=hsz 0 (by omega);rw [fI 0 (by omega)] at this;exact this.symm
    subst hsz1;have eV: ∀i,(hi:i<L.length)->val i 0=.string ⟨L[i].toArray⟩:=fun i hi=>by have:=hv i 0 (by omega) (by rw [fI i hi];exact Nat.one_pos);simp only [fI i hi,List.getElem_cons_zero] at this;generalize val i 0=z at this;cases this;rfl
    have eY: ∀i,(hi:i<L.length)-> ∃cs el fz,w.heap[blk]? =some (.cells cs el fz)/\cs[base+i]? =some (.string ⟨L[i].toArray⟩):=fun i hi=>by obtain ⟨cs,el,fz,e1,e2⟩:=hh i 0 (by omega) Nat.one_pos;rw [eV i hi,Nat.mul_one,Bn] at e2;exact ⟨cs,el,fz,hH _ _ e1,e2⟩
    have hJ:=Any.strings_Join Tryz.lays156 Tryz.Builder_Extra_156 blk base cap (L.map fun s=>(⟨s.toArray⟩:ByteArray)) ⟨sep.toArray⟩ w (fun j x hx=>by
      have hj:j<L.length:=by rw [<-hlenm];exact (Bd.1 hx).1
      obtain ⟨cs,el,fz,e1,e2⟩:=eY j hj;rw [BM,As hj] at hx;obtain rfl:=Ag hx;simp [World.cell?,e1,e2])
     (by obtain ⟨cs,el,fz,e1,_⟩:=eY 0 (by omega);exact (AB.1 e1).1)
     (by rw [hlenm];omega) (by rw [hlenm];omega) (by rw [hmap];exact AN ho.2 (by omega))
    rw [hmap,hlenm,hn] at hJ;refine hJ.mono fun e w' ⟨he,hw⟩=>⟨_,he,?_,hw⟩
    exact .str _
  .cases hv
 .cases hv)
def Tu :B6:=((T9.with TO OY).with Tf O8).with N3 OV
theorem Xz :Zv prog Tu:=j4w (j5k (j4x Tj))
inductive Hw where
def NZ (x0:List UInt8) (x1:List UInt8):Hw->CG
 :=nofun
def w2i (x0:List UInt8) (x1:List UInt8):Hw->Xj Hw
 :=nofun
def RZ (x0:List UInt8) (x1:List UInt8):Xj Hw:=(bif (Y7 x0 x1) then (bif (decide ((C9 x0 x1)>=0)) then (bif (decide ((Int.toNat (C9 x0 x1))<=x0.length)) then (bif (decide (0<=(C9 x0 x1))) then (bif (decide ((Int.toNat (wrap .i64 ((C9 x0 x1)+(x1.length:Int))))<=x0.length)) then (bif (decide (0<=(wrap .i64 ((C9 x0 x1)+(x1.length:Int))))) then (.ret [(.str ((x0.drop 0).take (Int.toNat (C9 x0 x1)))),(.str ((x0.drop (Int.toNat (wrap .i64 ((C9 x0 x1)+(x1.length:Int))))).take (x0.length - (Int.toNat (wrap .i64 ((C9 x0 x1)+(x1.length:Int))))))),(.bool true)]) else .stuck) else .stuck) else .stuck) else .stuck) else (.ret [(.str x0),(.str []),(.bool false)])) else .stuck)
theorem v0s (x0:List UInt8) (x1:List UInt8): ∀s,Wp prog (Zy prog 122) (NZ x0 x1) (NZ x0 x1 s) (w2i x0 x1 s)
 :=nofun
theorem w2j (x0:List UInt8) (x1:List UInt8):Wp prog (Zy prog 122) (NZ x0 x1) (Zg prog 122 [(.str x0),(.str x1)] true []) (RZ x0 x1):=(lo fun cO=>(lb (fun k0=>(lo fun o0=>(lo fun o1=>(lo fun o2=>(lo fun o3=>let a:=tn (wr ((C9 x0 x1)+(x1.length:Int)));(lr 13 3 [1,1,1,1,1,1,0] 1 122 [(4,(.str ((x0.drop 0).take (tn (C9 x0 x1))))),(5,(.str ((x0.drop a).take (x0.length - a)))),(6,(.bool true))] (sl Xz 41 [] (b8 [4,5,6]) b7 [true] (pp (pp nn (pp (xw o3) (pp (xG (decide (x0.length<=x0.length)) (Aa (An _))) (xG (decide ((tn (wr ((C9 x0 x1)+(x1.length:Int))))<=x0.length)))))) (pp (pp (xw o1) (pp nn (pp (xG (decide ((tn (C9 x0 x1))<=x0.length))) (xG (decide (0<=(tn (C9 x0 x1)))))))) (tt k0 (ww cO nn))))))))))) (fun k0=>(lr 13 3 [1,1,1,1,1,1,0] 1 122 [(4,(.str x0)),(5,(.str [])),(6,(.bool false))] (sl Xz 47 [] (b8 [4,5,6]) b7 [false] (tt k0 (ww cO nn)))))))
theorem u3m (x0:List UInt8) (x1:List UInt8) (n:Nat) (vs:List B3) (h:Yw (w2i x0 x1) n (RZ x0 x1)=.ret vs):Kj prog (Zy prog 122) (Zg prog 122 [(.str x0),(.str x1)] true []) vs:=by have:=Ze (v0s x0 x1) n _ (w2j x0 x1);rwa [h] at this
inductive IR where
def Og (x0:List UInt8) (x1:List UInt8):IR->CG
 :=nofun
def w3x (x0:List UInt8) (x1:List UInt8):IR->Xj IR
 :=nofun
def RP (x0:List UInt8) (x1:List UInt8):Xj IR:=(bif (decide ((x0.length:Int)>=(x1.length:Int))) then (bif (decide ((Int.toNat (wrap .i64 ((x0.length:Int) - (x1.length:Int))))<=x0.length)) then (bif (decide (0<=(wrap .i64 ((x0.length:Int) - (x1.length:Int))))) then (bif (!(((x0.drop (Int.toNat (wrap .i64 ((x0.length:Int) - (x1.length:Int))))).take (x0.length - (Int.toNat (wrap .i64 ((x0.length:Int) - (x1.length:Int)))))) == x1)) then (.ret [(.str x0),(.bool false)]) else (.ret [(.str ((x0.drop 0).take (Int.toNat (wrap .i64 ((x0.length:Int) - (x1.length:Int)))))),(.bool true)])) else .stuck) else .stuck) else (.ret [(.str x0),(.bool false)]))
theorem v1t (x0:List UInt8) (x1:List UInt8): ∀s,Wp prog (Zy prog 79) (Og x0 x1) (Og x0 x1 s) (w3x x0 x1 s)
 :=nofun
theorem w3y (x0:List UInt8) (x1:List UInt8):Wp prog (Zy prog 79) (Og x0 x1) (Zg prog 79 [(.str x0),(.str x1)] true []) (RP x0 x1):=(lb (fun k0=>(lo fun aG=>(lo fun aU=>(lb (fun k1=>(lr 11 3 [1,1,1,1,1,1,0] 1 17 [(4,(.str x0)),(5,(.bool false))] (sl Xz 61 [] (b8 [4,5]) b7 (CE 10 []) (tt k1 (pp (pp nn (pp (xw aU) (pp (xG (decide (x0.length<=x0.length)) (Aa (An _))) (xG (decide ((tn (wr ((x0.length:Int) - (x1.length:Int))))<=x0.length)))))) (tt k0 nn)))))) (fun k1=>let a:=xG (decide ((tn (wr ((x0.length:Int) - (x1.length:Int))))<=x0.length));(lr 11 3 [1,1,1,1,1,1,0] 1 17 [(4,(.str ((x0.drop 0).take (tn (wr ((x0.length:Int) - (x1.length:Int))))))),(5,(.bool true))] (sl Xz 68 [] (b8 [4,5]) b7 (CE 9 [false]) (pp (pp (xw aU) (pp nn (pp a (xG (decide (0<=(tn (wr ((x0.length:Int) - (x1.length:Int)))))))))) (tt k1 (pp (pp nn (pp (xw aU) (pp (xG (decide (x0.length<=x0.length)) (Aa (An _))) a))) (tt k0 nn))))))))))) (fun k0=>(lr 11 3 [1,1,1,1,1,1,0] 1 17 [(4,(.str x0)),(5,(.bool false))] (sl Xz 61 [] (b8 [4,5]) b7 (bl 10 512) (tt k0 nn)))))
theorem u4t (x0:List UInt8) (x1:List UInt8) (n:Nat) (vs:List B3) (h:Yw (w3x x0 x1) n (RP x0 x1)=.ret vs):Kj prog (Zy prog 79) (Zg prog 79 [(.str x0),(.str x1)] true []) vs:=by have:=Ze (v1t x0 x1) n _ (w3y x0 x1);rwa [h] at this
inductive Hr where
 | h0 (cF:Nat)
def NR (x0:List UInt8):Hr->CG
 | .h0 cF=>⟨⟨44,0,true⟩,none,(Zf prog 67 [1,1,0,1,0,0] 0),none,(Zy prog 9),⟨Ye [(15,(.ptr 0 0))],Xs [⟨[(.obj (.it x0 cF))],9,none⟩] 0,1,[],true⟩,[],.leaf⟩
def Pk :List (Option (List Nat)):=[some [15]]
def Px :List (Option (List Nat)):=[]
def LQ (x0:List UInt8):Hr->Xj Hr
 | .h0 cF=>(bif (decide (cF<x0.length)) then (bif (decide ((Dm x0 cF)>=97)) then (bif (!(decide ((Dm x0 cF)<=122))) then (bif (((cF:Nat):Int) == 0) then (.ret [(.bool false)]) else (bif ((Dm x0 cF) != 45) then (bif (decide ((Dm x0 cF)<48)) then (.ret [(.bool false)]) else (bif (decide ((Dm x0 cF)>57)) then (.ret [(.bool false)]) else (.to (.h0 (cF+Fo x0 cF))))) else (.to (.h0 (cF+Fo x0 cF))))) else (.to (.h0 (cF+Fo x0 cF)))) else (bif (((cF:Nat):Int) == 0) then (.ret [(.bool false)]) else (bif ((Dm x0 cF) != 45) then (bif (decide ((Dm x0 cF)<48)) then (.ret [(.bool false)]) else (bif (decide ((Dm x0 cF)>57)) then (.ret [(.bool false)]) else (.to (.h0 (cF+Fo x0 cF))))) else (.to (.h0 (cF+Fo x0 cF)))))) else (.ret [(.bool true)]))
def VE (x0:List UInt8):Xj Hr:=(bif ((x0.length:Int) == 0) then (.ret [(.bool false)]) else (bif (decide ((x0.length:Int)>40)) then (.ret [(.bool false)]) else (.to (.h0 0))))
theorem w9x (x0:List UInt8): ∀s,Wp prog (Zy prog 67) (NR x0) (NR x0 s) (LQ x0 s)
 | .h0 cF=>(lb (fun k0=>(lb (fun k1=>let d:=tt k1 (tt k0 nn);(lb (fun k2=>let a:=tt k2 d;(lb (fun k3=>(lr 44 67 [1,1,0,1,0,0,1,1,0,1,1,1,0,0] 1 9 [(2,(.bool false))] (sl Xz 52 [] (b8 [2]) b7 (CE 13 []) (tt k3 a)))) (fun k3=>(lb (fun k4=>let c:=tt k4 (tt k3 a);(lb (fun k5=>(lr 44 67 [1,1,0,1,0,0,1,1,0,1,1,1,0,0] 1 9 [(2,(.bool false))] (sl Xz 52 [] (b8 [2]) b7 (CE 7 (bl 12 3576)) (tt k5 c)))) (fun k5=>(lb (fun k6=>(lr 44 67 [1,1,0,1,0,0,1,1,0,1,1,1,0,0] 1 9 [(2,(.bool false))] (sl Xz 52 [] (b8 [2]) b7 (CE 7 (bl 12 3384)) (tt k6 (tt k5 c))))) (fun k6=>(sl Xz 51 [] ⟨[0],[],Pk,Px⟩ b7 (CE 7 (bl 12 1336)) (tt k6 (tt k5 c)))))))) (fun k4=>(sl Xz 51 [] ⟨[0],[],Pk,Px⟩ b7 (CE 7 (bl 10 256)) (tt k4 (tt k3 a)))))))) (fun k2=>(sl Xz 51 [] ⟨[0],[],Pk,Px⟩ b7 (CE 4 (bl 5 0)) (tt k2 d))))) (fun k1=>let e:=tt k1 (tt k0 nn);(lb (fun k2=>(lr 44 67 [1,1,0,1,0,0,1,1,0,1,1,1,0,0] 1 9 [(2,(.bool false))] (sl Xz 52 [] (b8 [2]) b7 (bl 13 8179) (tt k2 e)))) (fun k2=>let b:=tt k2 e;(lb (fun k3=>(lb (fun k4=>(lr 44 67 [1,1,0,1,0,0,1,1,0,1,1,1,0,0] 1 9 [(2,(.bool false))] (sl Xz 52 [] (b8 [2]) b7 (bl 19 457843) (tt k4 (tt k3 b))))) (fun k4=>let f:=tt k4 (tt k3 b);(lb (fun k5=>(lr 44 67 [1,1,0,1,0,0,1,1,0,1,1,1,0,0] 1 9 [(2,(.bool false))] (sl Xz 52 [] (b8 [2]) b7 (bl 19 433267) (tt k5 f)))) (fun k5=>(sl Xz 51 [] ⟨[0],[],Pk,Px⟩ b7 (bl 19 171123) (tt k5 f))))))) (fun k3=>(sl Xz 51 [] ⟨[0],[],Pk,Px⟩ b7 (bl 17 32883) (tt k3 b))))))))) (fun k0=>(lr 44 3 [1,1,1,1,1,1,0] 1 9 [(2,(.bool true))] (sl Xz 12 [] (b8 [2]) b7 (bl 2 0) (tt k0 nn)))))
theorem w1z (x0:List UInt8):Wp prog (Zy prog 67) (NR x0) (Zg prog 67 [(.str x0)] true []) (VE x0):=(lb (fun k0=>(lr 44 67 [1,0,1,0,0] 1 9 [(2,(.bool false))] (sl Xz 21 [] (b8 [2]) b7 (CE 4 []) (tt k0 nn)))) (fun k0=>(lb (fun k1=>(lr 44 67 [1,0,1,0,0] 1 9 [(2,(.bool false))] (sl Xz 21 [] (b8 [2]) b7 (bl 4 8) (tt k1 (tt k0 nn))))) (fun k1=>(sl Xz 26 [] ⟨[0],[],Pk,Px⟩ b7 (bl 4 0) (tt k1 (tt k0 nn)))))))
theorem u2y (x0:List UInt8) (n:Nat) (vs:List B3) (h:Yw (LQ x0) n (VE x0)=.ret vs):Kj prog (Zy prog 67) (Zg prog 67 [(.str x0)] true []) vs:=by have:=Ze (w9x x0) n _ (w1z x0);rwa [h] at this
inductive Hc where
 | h0 (v3:Int)
def M4 (x0:List UInt8):Hc->CG
 | .h0 v3=>⟨⟨40,0,true⟩,none,(Zf prog 77 [1,0,1,0,0] 0),none,(Zy prog 9),⟨Ye [(0,(.str x0)),(3,(ii v3))],Xs [] 0,0,[],true⟩,[],.leaf⟩
def Po :List (Option (List Nat)):=[some [0,3]]
def Pn :List (Option (List Nat)):=[]
def LT (x0:List UInt8):Hc->Xj Hc
 | .h0 v3=>(bif (decide (v3<(x0.length:Int))) then (bif (decide (0<=v3/\v3<(x0.length:Int))) then (bif (decide ((CY x0 v3.toNat)>=97)) then (bif (!(decide ((CY x0 v3.toNat)<=122))) then (bif (v3 == 0) then (.ret [(.bool false)]) else (bif ((CY x0 v3.toNat) != 45) then (bif (decide ((CY x0 v3.toNat)>=48)) then (bif (!(decide ((CY x0 v3.toNat)<=57))) then (.ret [(.bool false)]) else (.to (.h0 (wrap .i64 (v3+1))))) else (.ret [(.bool false)])) else (.to (.h0 (wrap .i64 (v3+1)))))) else (.to (.h0 (wrap .i64 (v3+1))))) else (bif (v3 == 0) then (.ret [(.bool false)]) else (bif ((CY x0 v3.toNat) != 45) then (bif (decide ((CY x0 v3.toNat)>=48)) then (bif (!(decide ((CY x0 v3.toNat)<=57))) then (.ret [(.bool false)]) else (.to (.h0 (wrap .i64 (v3+1))))) else (.ret [(.bool false)])) else (.to (.h0 (wrap .i64 (v3+1))))))) else .stuck) else (bif (decide ((x0.length:Int)>=1)) then (.ret [(.bool (decide ((x0.length:Int)<=40)))]) else (.ret [(.bool false)])))
def x3b (x0:List UInt8):Xj Hc:=(.to (.h0 0))
theorem w9b (x0:List UInt8): ∀s,Wp prog (Zy prog 77) (M4 x0) (M4 x0 s) (LT x0 s)
 | .h0 v3=>(lb (fun k0=>(lo fun aG=>let a:=ww aG (tt k0 nn);(lb (fun k1=>(lb (fun k2=>let f:=tt k2 (tt k1 a);(lb (fun k3=>(lr 40 77 [1,0,1,0,0,1,0,0,1,0,0] 1 9 [(2,(.bool false))] (sl Xz 57 [] (b8 [2]) b7 (CE 14 []) (tt k3 f)))) (fun k3=>let d:=ww aG (tt k3 f);(lb (fun k4=>let b:=ww aG (tt k4 d);(lb (fun k5=>(lb (fun k6=>(lr 40 77 [1,0,1,0,0,1,0,0,1,0,0] 1 9 [(2,(.bool false))] (sl Xz 72 [] (b8 [2]) b7 (CE 6 (bl 15 28640)) (tt k6 (tt k5 b))))) (fun k6=>(sl Xz 76 [] ⟨[],[],Po,Pn⟩ b7 (CE 6 (bl 15 12256)) (tt k6 (tt k5 b)))))) (fun k5=>(lr 40 77 [1,0,1,0,0,1,0,0,1,0,0] 1 9 [(2,(.bool false))] (sl Xz 72 [] (b8 [2]) b7 (CE 6 (bl 15 27104)) (tt k5 b)))))) (fun k4=>(sl Xz 61 [] ⟨[],[],Po,Pn⟩ b7 (CE 6 (bl 13 2048)) (tt k4 d))))))) (fun k2=>(sl Xz 61 [] ⟨[],[],Po,Pn⟩ b7 (CE 3 (bl 5 0)) (tt k2 (tt k1 a)))))) (fun k1=>(lb (fun k2=>(lr 40 77 [1,0,1,0,0,1,0,0,1,0,0] 1 9 [(2,(.bool false))] (sl Xz 57 [] (b8 [2]) b7 (bl 14 16377) (tt k2 (tt k1 a))))) (fun k2=>let e:=ww aG (tt k2 (tt k1 a));(lb (fun k3=>let c:=ww aG (tt k3 e);(lb (fun k4=>(lb (fun k5=>(lr 40 77 [1,0,1,0,0,1,0,0,1,0,0] 1 9 [(2,(.bool false))] (sl Xz 72 [] (b8 [2]) b7 (bl 21 1833017) (tt k5 (tt k4 c))))) (fun k5=>(sl Xz 76 [] ⟨[],[],Po,Pn⟩ b7 (bl 21 784441) (tt k5 (tt k4 c)))))) (fun k4=>(lr 40 77 [1,0,1,0,0,1,0,0,1,0,0] 1 9 [(2,(.bool false))] (sl Xz 72 [] (b8 [2]) b7 (bl 21 1734713) (tt k4 c)))))) (fun k3=>(sl Xz 61 [] ⟨[],[],Po,Pn⟩ b7 (bl 19 131129) (tt k3 e)))))))))) (fun k0=>(lb (fun k1=>(lr 40 3 [1,1,1,1,1,1,0] 1 9 [(2,(.bool (decide ((x0.length:Int)<=40))))] (sl Xz 22 [] (b8 [2]) b7 (bl 4 14) (tt k1 (tt k0 nn))))) (fun k1=>(lr 40 3 [1,1,1,1,1,1,0] 1 9 [(2,(.bool false))] (sl Xz 22 [] (b8 [2]) b7 (bl 4 0) (tt k1 (tt k0 nn))))))))
theorem w0o (x0:List UInt8):Wp prog (Zy prog 77) (M4 x0) (Zg prog 77 [(.str x0)] true []) (x3b x0):=(sl Xz 11 [] ⟨[],[],Po,Pn⟩ b7 [] nn)
theorem u1b (x0:List UInt8) (n:Nat) (vs:List B3) (h:Yw (LT x0) n (x3b x0)=.ret vs):Kj prog (Zy prog 77) (Zg prog 77 [(.str x0)] true []) vs:=by have:=Ze (w9b x0) n _ (w0o x0);rwa [h] at this
inductive Hi where
 | h0 (v3:List (List UInt8)) (v4:Int) (v5:Int)
def Mb (x0:List UInt8):Hi->CG
 | .h0 v3 v4 v5=>⟨⟨34,0,true⟩,none,(Zf prog 52 [1,1,1,1,0,1,0,0] 0),none,(Zy prog 9),⟨Ye [(0,(.str x0)),(3,(.sla 0 1 0 v3.length (.un 1))),(4,(ii v4)),(5,(ii v5))],Xs [⟨rows v3.length (Zz v3),9,some ⟨1,v3.length,(Zz v3)⟩⟩] 0,1,[],true⟩,[],.leaf⟩
def XQ :List (Option (List Nat)):=[some [0,3,4,5]]
def XP :List (Option (List Nat)):=[]
def Gc (x0:List UInt8):Hi->Xj Hi
 | .h0 v3 v4 v5=>(bif (decide (v5<=(x0.length:Int))) then (bif (v5 == (x0.length:Int)) then (bif (decide (v4.toNat<=v5.toNat)) then (bif (decide (v5.toNat<=x0.length)) then (bif (decide (0<=v4)) then (bif (decide (0<=v5)) then (bif (Nat.beq 1 1&&((decide (0+v3.length=v3.length))&&decide ((v3.length+1+1)*(16+1)<=Ve))) then (.to (.h0 (v3++[((x0.drop v4.toNat).take (v5.toNat - v4.toNat))]) (wrap .i64 (v5+1)) (wrap .i64 (v5+1)))) else .stuck) else .stuck) else .stuck) else .stuck) else .stuck) else (bif (decide (0<=v5/\v5<(x0.length:Int))) then (bif ((CY x0 v5.toNat) == 47) then (bif (decide (v4.toNat<=v5.toNat)) then (bif (decide (v5.toNat<=x0.length)) then (bif (decide (0<=v4)) then (bif (decide (0<=v5)) then (bif (Nat.beq 1 1&&((decide (0+v3.length=v3.length))&&decide ((v3.length+1+1)*(16+1)<=Ve))) then (.to (.h0 (v3++[((x0.drop v4.toNat).take (v5.toNat - v4.toNat))]) (wrap .i64 (v5+1)) (wrap .i64 (v5+1)))) else .stuck) else .stuck) else .stuck) else .stuck) else .stuck) else (.to (.h0 v3 v4 (wrap .i64 (v5+1))))) else .stuck)) else (.ret [(.dat v3.length (Zz v3))]))
def VI (x0:List UInt8):Xj Hi:=(bif (x0 == ([]:List UInt8)) then (.ret [.nils]) else (.to (.h0 ([]:List (List UInt8)) 0 0)))
theorem w9m (x0:List UInt8): ∀s,Wp prog (Zy prog 52) (Mb x0) (Mb x0 s) (Gc x0 s)
 | .h0 v3 v4 v5=>(lb (fun k0=>let a:=v3++[((x0.drop (tn v4)).take ((tn v5) - (tn v4)))];(lb (fun k1=>(lo fun o0=>(lo fun o1=>(lo fun o2=>(lo fun o3=>(lo fun o4=>let b:=xL (v3.length+1) (v3++[((x0.drop (tn v4)).take ((tn v5) - (tn v4)))]).length;(sl Xz 49 [] ⟨[2],[],XQ,XP⟩ ⟨[(3,.len a.length)],[.rowed 1 a.length (Zz a)],[]⟩ (CE 6 []) (pp b (pp b (pp (xS (v3.length+1) (Zo (Zz v3) 0 v3.length 1 [(.str ((x0.drop (tn v4)).take ((tn v5) - (tn v4))))]) (Zz (v3++[((x0.drop (tn v4)).take ((tn v5) - (tn v4)))]))) (pp (pp (xF (Zo (Zz v3) 0 v3.length 1 [(.str ((x0.drop (tn v4)).take ((tn v5) - (tn v4))))])) nn) (ww o4 (pp (pp (xw o3) (pp (xw o2) (pp (xG (decide ((tn v5)<=x0.length))) (xG (decide ((tn v4)<=(tn v5))))))) (tt k1 (tt k0 nn))))))))))))))) (fun k1=>(lo fun bJ=>let d:=ww bJ (tt k1 (tt k0 nn));(lb (fun k2=>(lo fun o0=>(lo fun o1=>(lo fun o2=>(lo fun o3=>(lo fun o4=>let c:=xL (v3.length+1) (v3++[((x0.drop (tn v4)).take ((tn v5) - (tn v4)))]).length;(sl Xz 49 [] ⟨[2],[],XQ,XP⟩ ⟨[(3,.len a.length)],[.rowed 1 a.length (Zz a)],[]⟩ (bl 6 33) (pp c (pp c (pp (xS (v3.length+1) (Zo (Zz v3) 0 v3.length 1 [(.str ((x0.drop (tn v4)).take ((tn v5) - (tn v4))))]) (Zz (v3++[((x0.drop (tn v4)).take ((tn v5) - (tn v4)))]))) (pp (pp (xF (Zo (Zz v3) 0 v3.length 1 [(.str ((x0.drop (tn v4)).take ((tn v5) - (tn v4))))])) nn) (ww o4 (pp (pp (xw o3) (pp (xw o2) (pp (xG (decide ((tn v5)<=x0.length))) (xG (decide ((tn v4)<=(tn v5))))))) (tt k2 d)))))))))))))) (fun k2=>(sl Xz 34 [] ⟨[0],[],XQ,XP⟩ b7 (bl 6 1) (pp (fl v3 nn) (tt k2 d))))))))) (fun k0=>(lr 34 3 [1,1,1,1,1,1,0] 1 9 [(2,(.dat v3.length (Zz v3)))] (sl Xz 15 [] ⟨[],[0],[some [2]],[]⟩ ⟨[(2,.frz v3.length v3.length (Zz v3) (Zz v3))],[],[]⟩ [false] (pp (xZ (DW 1 1 0 v3.length v3.length (Zz v3)) v3.length (Zz v3)) (pp (xL v3.length v3.length) (pp (xS v3.length (Zz v3) (Zz v3)) (pp (fl v3 nn) (tt k0 nn)))))))))
theorem w1c (x0:List UInt8):Wp prog (Zy prog 52) (Mb x0) (Zg prog 52 [(.str x0)] true []) (VI x0):=(lb (fun k0=>(lr 34 52 [1,0,1,0,0] 1 9 [(2,.nils)] (sl Xz 15 [] (b8 [2]) b7 [true] (tt k0 nn)))) (fun k0=>let a:=List UInt8;(sl Xz 27 [(9,1,Zz ([]:List a))] ⟨[0],[],XQ,XP⟩ ⟨[(3,.grow 0 1)],[],[]⟩ [false] (pp (fl ([]:List a) nn) (tt k0 nn)))))
theorem u1m (x0:List UInt8) (n:Nat) (vs:List B3) (h:Yw (Gc x0) n (VI x0)=.ret vs):Kj prog (Zy prog 52) (Zg prog 52 [(.str x0)] true []) vs:=by have:=Ze (w9m x0) n _ (w1c x0);rwa [h] at this
theorem TQ {s:List UInt8} {i:Nat} (h:i<s.length):(⟨s.toArray⟩:ByteArray).get! i=s[i]:=by simp [ByteArray.get!,h]
theorem w7l {s:List UInt8} {i:Nat} (h:i<s.length) (ha:s[i].toNat <128):Dm s i=((s[i].toNat :Nat):Int)/\Fo s i=1:=by
 have e:Utf8.decode ⟨s.toArray⟩ i=(s[i].toNat,1):=by unfold Utf8.decode;simp only [Bn,TQ h];rw [AG ha]
 unfold Dm Fo;rw [e];exact ⟨rfl,rfl⟩
theorem u8r {s:List UInt8} {i:Nat} (h:i<s.length) (ha: ¬s[i].toNat <128):128<=Dm s i:=by
 have e:128<=(Utf8.decode ⟨s.toArray⟩ i).1:=by
  unfold Utf8.decode;simp only [Bn,TQ h];rw [Az ha];repeat' split
  all_goals (try simp only [Utf8.runeError,Ad,Ak,ge_iff_le] at*)
  all_goals omega
 unfold Dm;omega
theorem K8 {P:Program} {S:B6} (hS:Zv P S) {f:FuncId} {F:List B3->Option (B3×Bool)} (hf:(P.funcs[f]?).any (fun fn=>fn.body.isSome)=true)
  (hF: ∀args v,F args=some (v,true)-> ∃bs vs,Vo DL args bs/\(∀(ρ:B7) (u:Value),Zr ρ (Js vs) u->Zr ρ v u)/\Kj P (Zy P f) (Zg P f bs true []) vs/\ ∃d,pf d (Js vs)=true):Zv P (S.with f F):=
 x0s hS hf fun args v h=>by obtain ⟨bs,vs,h1,h2,h3,d,h4⟩:=hF args v h;exact ⟨vs,h2,Y2 h1 h3,d,h4⟩
theorem Le {s:List UInt8} {i:Nat} (h:i<s.length):CY s i=((s[i].toNat :Nat):Int):=by unfold CY;rw [Bc,As h];rfl
theorem v3b (c:UInt8):c.toNat<256:=UInt8.toNat_lt c
theorem u8j (c:UInt8): ∀s:List UInt8,Lib.indexByte s c+1<=(s.length:Int)
 | []=>by show (-1:Int)+1<=((0:Nat):Int);omega
 | b::l=>by
  have ih:=u8j c l;unfold Lib.indexByte;rw [At];split
  .omega
  .split <;> omega
theorem x5t (x:List UInt8) (k:Nat):(x.drop k).take (x.length - k)=x.drop k:=A9 (by rw [Bk];omega)
def Xf (s sep:List UInt8):List UInt8:=bif decide (0<=C9 s sep) then s.take (C9 s sep).toNat else s
def Wr (s sep:List UInt8):List UInt8:=bif decide (0<=C9 s sep) then s.drop ((C9 s sep).toNat +1) else []
def Je (s sep:List UInt8):Bool:=decide (0<=C9 s sep)
def Ki (s sep:List UInt8):Bool:=Nat.beq sep.length 1&&decide (s.length<=1000000)
theorem j3c (s sep:List UInt8) (h:Ki s sep=true): ∃N,Yw (w2i s sep) N (RZ s sep)=.ret [.str (Xf s sep),.str (Wr s sep),.bool (Je s sep)]:=⟨0,by
 unfold Ki at h;rw [Ad,Ak] at h;have hl:=Ah h.1;have hi:C9 s sep+1<=(s.length:Int):=u8j _ _;show RZ s sep=_;unfold RZ Xf Wr Je;rw [Zp (show Y7 s sep=true from h.1),hl];by_cases g:0<=C9 s sep
 .have w:wrap .i64 (C9 s sep+((1:Nat):Int))=C9 s sep+1:=Zm (by omega);have e0:decide (0<=C9 s sep)=true:=Aa g;have e1:decide (C9 s sep>=0)=true:=Aa g;rw [e0,w];simp only [Af];rw [Zp (Aa (show (C9 s sep).toNat <=s.length by omega)),
   Zp (Aa (show (C9 s sep+1).toNat <=s.length by omega)),Zp (Aa (show 0<=C9 s sep+1 by omega)),AR,x5t,
   show (C9 s sep+1).toNat =(C9 s sep).toNat +1 by omega]
 .have e0:decide (0<=C9 s sep)=false:=Ai g;have e1:decide (C9 s sep>=0)=false:=Ai g;rw [e0];rfl⟩
def OT :List B3->Option (B3×Bool)
 | [.str s,.str sep]=>some (.tup [.str (Xf s sep),.str (Wr s sep),.bool (Je s sep)],Ki s sep)
 | _=>none
theorem j4v {S:B6} (hS:Zv prog S):Zv prog (S.with TI OT):=CS hS (by kernel_rfl) fun args v h=>by
 unfold OT at h;split at h
 .rename_i s sep;simp only [Ae,Ac] at h;obtain ⟨rfl,ho⟩:=h;obtain ⟨N,hN⟩:=j3c s sep ho;exact ⟨_,_,.cons (.refl _) (.cons (.refl _) .nil),rfl,u3m s sep N _ hN,3,rfl⟩
 .cases h
def EN (s f:List UInt8):Bool:=decide (f.length<=s.length)&&(s.drop (s.length - f.length) == f)
def Zu (s f:List UInt8):List UInt8:=bif EN s f then s.take (s.length - f.length) else s
def Qz (s f:List UInt8):Bool:=decide (s.length<=1000000)&&decide (f.length<=1000000)
theorem j5w (s f:List UInt8) (h:Qz s f=true): ∃N,Yw (w3x s f) N (RP s f)=.ret [.str (Zu s f),.bool (EN s f)]:=⟨0,by
 unfold Qz at h;rw [Ad,Ak,Ak] at h;show RP s f=_;unfold RP Zu EN;by_cases g:f.length<=s.length
 .have w:wrap .i64 ((s.length:Int) - (f.length:Int))=((s.length - f.length:Nat):Int):=by rw [Zm (by omega)];omega
  rw [Aa g,Aa (show (s.length:Int)>=(f.length:Int) by omega),Af,w,Zj,Ar,x5t,Zp (Aa (show s.length - f.length<=s.length by omega)),Zp (Aa (show (0:Int)<=((s.length - f.length:Nat):Int) by omega)),AR];cases s.drop (s.length - f.length) == f <;> rfl
 .rw [Ai g,Ai (show ¬(s.length:Int)>=(f.length:Int) by omega)];rfl⟩
def O6 :List B3->Option (B3×Bool)
 | [.str s,.str f]=>some (.tup [.str (Zu s f),.bool (EN s f)],Qz s f)
 | _=>none
theorem j5j {S:B6} (hS:Zv prog S):Zv prog (S.with Td O6):=CS hS (by kernel_rfl) fun args v h=>by
 unfold O6 at h;split at h
 .rename_i s f;simp only [Ae,Ac] at h;obtain ⟨rfl,ho⟩:=h;obtain ⟨N,hN⟩:=j5w s f ho;exact ⟨_,_,.cons (.refl _) (.cons (.refl _) .nil),rfl,u4t s f N _ hN,3,rfl⟩
 .cases h
def GP (n:Nat):Bool:=decide (97<=n)&&decide (n<=122)
def digN (n:Nat):Bool:=decide (48<=n)&&decide (n<=57)
def HO (i n:Nat):Bool:=GP n||(decide (i≠0)&&(decide (n=45)||digN n))
def Fh :Nat->List UInt8->Bool
 | _,[]=>true
 | i,c::r=>HO i c.toNat&&Fh (i+1) r
def Cd (s:List UInt8):Bool:=decide (1<=s.length)&&(decide (s.length<=40)&&Fh 0 s)
def Um (s:List UInt8):Bool:=decide (s.length<=1000000)
theorem u2x {s:List UInt8} {i:Nat} (hi:i<s.length):LQ s (.h0 i)=bif HO i s[i].toNat then .to (.h0 (i+1)) else .ret [.bool false]:=by
 unfold LQ HO GP digN;simp only [];rw [Xc hi,Af];have hz:(((i:Nat):Int) == 0)=decide (i=0):=by rw [AS];simp
 rw [hz];by_cases ha:s[i].toNat <128
 .obtain ⟨e1,e2⟩:=w7l hi ha;rw [e1,e2];generalize s[i].toNat =c;by_cases h1:97<=c
  .rw [EK (by omega),Aa h1];by_cases h2:c<=122
   .rw [Wc (by omega),Aa h2];rfl
   .rw [Fu (by omega),Ai h2,Qu (by omega),Yt (by omega),Xv (by omega),Ai (show ¬c=45 by omega),Ai (show ¬c<=57 by omega),A7,A7,Bool.or_false,A7];cases decide (i=0) <;> rfl
  .rw [F6 (by omega),Ai h1,Bb,Bh];by_cases h0:i=0
   .rw [Aa h0,Ai (show ¬i≠0 from fun h=>h h0)];rfl
   .rw [Ai h0,Aa (show i≠0 from h0)];by_cases h3:c=45
    .rw [Jd (by omega),Aa h3];rfl
    .rw [Qu (by omega),Ai h3,Ar,Bh];by_cases h4:48<=c
     .rw [Yt (by omega),Aa h4];by_cases h5:c<=57
      .rw [Wz (by omega),Aa h5];rfl
      .rw [Xv (by omega),Ai h5];rfl
     .rw [Yb (by omega),Ai h4];rfl
 .have hb:=u8r hi ha;generalize s[i].toNat =c at ha ⊢;rw [EK (by omega),Fu (by omega),Qu (by omega),Yt (by omega),Xv (by omega),Aa (show 97<=c by omega),Ai (show ¬c<=122 by omega),Ai (show ¬c=45 by omega),Ai (show ¬c<=57 by omega),A7,A7,Bool.or_false,A7];cases decide (i=0) <;> rfl
theorem u7p {s:List UInt8}: ∀(k i:Nat),i+k=s.length-> ∃N,Yw (LQ s) N (.to (.h0 i))=.ret [.bool (Fh i (s.drop i))]
 | 0,i,h=>⟨1,by
  rw [Zw,Aw (by omega)];unfold LQ;simp only [];rw [Ai (show ¬i<s.length by omega)];rfl⟩
 | k+1,i,h=>by
  have hi:i<s.length:=by omega
  obtain ⟨N,hN⟩:=u7p (s:=s) k (i+1) (by omega);refine ⟨N+1,?_⟩;rw [Zw,u2x hi,AW hi,Fh];cases HO i s[i].toNat with
  | true=>rw [Af,hN,Ar]
  | false=>rw [Ab,Zh];rfl
theorem j2h (s:List UInt8) (h:Um s=true): ∃N,Yw (LQ s) N (VE s)=.ret [.bool (Cd s)]:=by
 unfold VE Cd;by_cases h1:1<=s.length
 .rw [Aa h1,show ((s.length:Int) == 0)=false from P9 (by omega),Ab,Ar];by_cases h2:s.length<=40
  .rw [Aa h2,Wz (by omega),Ab,Ar];exact u7p s.length 0 (by omega)
  .rw [Ai h2,Xv (by omega),Af];exact ⟨0,rfl⟩
 .rw [Ai h1,show ((s.length:Int) == 0)=true from Lf (by omega),Af];exact ⟨0,rfl⟩
theorem u1a {s:List UInt8} {i:Nat} (hi:i<s.length) (hs:s.length<=1000000):LT s (.h0 (i:Int))=bif HO i s[i].toNat then .to (.h0 ((i+1:Nat):Int)) else .ret [.bool false]:=by
 unfold LT HO GP digN;have w2:wrap .i64 ((i:Int)+1)=((i+1:Nat):Int):=Zm (by omega);simp only [Zj,w2,Le hi];rw [Yb (by omega),Af,Zp (Ym (by omega))];have hz:(((i:Nat):Int) == 0)=decide (i=0):=by rw [AS];simp
 rw [hz];generalize s[i].toNat =c;by_cases h1:97<=c
 .rw [EK (by omega),Aa h1];by_cases h2:c<=122
  .rw [Wc (by omega),Aa h2];rfl
  .rw [Fu (by omega),Ai h2,Qu (by omega),EK (by omega),Fu (by omega),Ai (show ¬c=45 by omega),Ai (show ¬c<=57 by omega),A7,A7,Bool.or_false,A7];cases decide (i=0) <;> rfl
 .rw [F6 (by omega),Ab,Ai h1,Bb,Bh];by_cases h0:i=0
  .rw [Aa h0,Ai (show ¬i≠0 from fun h=>h h0)];rfl
  .rw [Ai h0,Aa (show i≠0 from h0)];by_cases h3:c=45
   .rw [Jd (by omega),Aa h3];rfl
   .rw [Qu (by omega),Ai h3,Ar,Bh];by_cases h4:48<=c
    .rw [EK (by omega),Aa h4];by_cases h5:c<=57
     .rw [Wc (by omega),Aa h5];rfl
     .rw [Fu (by omega),Ai h5];rfl
    .rw [F6 (by omega),Ai h4];rfl
theorem u6r {s:List UInt8} (hs:s.length<=1000000): ∀(k i:Nat),i+k=s.length-> ∃N,Yw (LT s) N (.to (.h0 (i:Int)))=.ret [.bool (Fh i (s.drop i)&&(decide (1<=s.length)&&decide (s.length<=40)))]
 | 0,i,h=>⟨1,by
  rw [Zw,Aw (by omega)];unfold LT;simp only [];rw [Yt (by omega),Ab];by_cases h1:1<=s.length
  .rw [EK (by omega),Aa h1,Af,show decide ((s.length:Int)<=40)=decide (s.length<=40) by rw [AS,Ak,Ak];omega];exact Zh _ _ _
  .rw [F6 (by omega),Ai h1];rfl⟩
 | k+1,i,h=>by
  have hi:i<s.length:=by omega
  obtain ⟨N,hN⟩:=u6r hs k (i+1) (by omega);refine ⟨N+1,?_⟩;rw [Zw,u1a hi hs,AW hi,Fh];cases HO i s[i].toNat with
  | true=>rw [Af,hN,Ar]
  | false=>rw [Ab,Zh];rfl
theorem j0v (s:List UInt8) (h:Um s=true): ∃N,Yw (LT s) N (x3b s)=.ret [.bool (Cd s)]:=by
 obtain ⟨N,hN⟩:=u6r (s:=s) (Av h) s.length 0 (by omega);refine ⟨N,?_⟩;have e:Cd s=(Fh 0 (s.drop 0)&&(decide (1<=s.length)&&decide (s.length<=40))):=by unfold Cd;rw [AR];cases Fh 0 s <;> cases decide (1<=s.length) <;> cases decide (s.length<=40) <;> rfl
 rw [e];exact hN
def FW :List B3->Option (B3×Bool)
 | [.str s]=>some (.bool (Cd s),Um s)
 | _=>none
theorem j4r {S:B6} (hS:Zv prog S):Zv prog (S.with TA FW):=CS hS (by kernel_rfl) fun args v h=>by
 unfold FW at h;split at h
 .rename_i s;simp only [Ae,Ac] at h;obtain ⟨rfl,ho⟩:=h;obtain ⟨N,hN⟩:=j2h s ho;exact ⟨_,_,.cons (.refl _) .nil,rfl,u2y s N _ hN,3,rfl⟩
 .cases h
theorem j4g {S:B6} (hS:Zv prog S):Zv prog (S.with S1 FW):=CS hS (by kernel_rfl) fun args v h=>by
 unfold FW at h;split at h
 .rename_i s;simp only [Ae,Ac] at h;obtain ⟨rfl,ho⟩:=h;obtain ⟨N,hN⟩:=j0v s ho;exact ⟨_,_,.cons (.refl _) .nil,rfl,u1b s N _ hN,3,rfl⟩
 .cases h
def Jz (s:List UInt8):List (List UInt8):=bif s == [] then [] else Xt 47 [] s
def Tz (s:List UInt8):Bool:=decide (s.length<=1000000)
def Hj (s:List UInt8):List B3:=bif s == [] then [.nils] else [.dat (Xt 47 [] s).length (Zz (Xt 47 [] s))]
theorem v5b {s:List UInt8} (hs:s.length<=1000000): ∀(k i fr:Nat) (out:List (List UInt8)),i+k=s.length->fr<=i->out.length<=i->
  ∃N,Yw (Gc s) N (.to (.h0 out (fr:Int) (i:Int)))=.ret [.dat (out++Xt 47 ((s.drop fr).take (i - fr)) (s.drop i)).length (Zz (out++Xt 47 ((s.drop fr).take (i - fr)) (s.drop i)))]
 | 0,i,fr,out,h,hfi,ho=>by
  refine ⟨2,?_⟩;have w2:wrap .i64 ((i:Int)+1)=((i+1:Nat):Int):=Zm (by omega);have e:Gc s (.h0 out (fr:Int) (i:Int))=.to (.h0 (out++[(s.drop fr).take (i - fr)]) ((i+1:Nat):Int) ((i+1:Nat):Int)):=by unfold Gc;simp only [Zj,w2];rw [Zp (Wc (by omega)),Zp (Lf (by omega)),Zp (Xi hfi),Zp (Xi (by omega)),Zp (Wc (by omega)),Zp (Wc (by omega)),Zp (P4 (by omega))]
  have e2: ∀o,Gc s (.h0 o ((i+1:Nat):Int) ((i+1:Nat):Int))=.ret [.dat o.length (Zz o)]:=fun o=>by unfold Gc;simp only [];rw [Fu (by omega),Ab]
  rw [Zw,e,Zw,e2,Aw (show s.length<=i by omega)];rfl
 | k+1,i,fr,out,h,hfi,ho=>by
  have hi:i<s.length:=by omega
  have hc:=v3b s[i];have w2:wrap .i64 ((i:Int)+1)=((i+1:Nat):Int):=Zm (by omega);have hbb:((((s[i].toNat :Nat):Int)) == 47)=(s[i] == 47):=by
   rw [AS,AU,AU];constructor
   .intro h;apply UInt8.toNat_inj.1;show s[i].toNat =47;omega
   .intro h;rw [h];rfl
  have e:Gc s (.h0 out (fr:Int) (i:Int))=bif s[i] == 47 then .to (.h0 (out++[(s.drop fr).take (i - fr)]) ((i+1:Nat):Int) ((i+1:Nat):Int)) else .to (.h0 out (fr:Int) ((i+1:Nat):Int)):=by unfold Gc;simp only [Zj,w2,Le hi,hbb];rw [Zp (Wc (by omega)),P9 (by omega),Ab,Zp (Ym (by omega))];rw [Zp (Xi hfi),Zp (Xi (by omega)),Zp (Wc (by omega)),Zp (Wc (by omega)),Zp (P4 (by omega))]
  rw [AW hi,Xt];cases g:s[i] == 47 with
  | true=>obtain ⟨N,hN⟩:=v5b hs k (i+1) (i+1) (out++[(s.drop fr).take (i - fr)]) (by omega) (An _) (by rw [Ap,AJ];omega);refine ⟨N+1,?_⟩;rw [Zw,e,g,Af,Af,hN,Nat.sub_self,List.take_zero,AH];rfl
  | false=>
   obtain ⟨N,hN⟩:=v5b hs k (i+1) fr out (by omega) (by omega) (by omega);refine ⟨N+1,?_⟩;have ht:(s.drop fr).take (i+1 - fr)=(s.drop fr).take (i - fr)++[s[i]]:=by
    rw [show i+1 - fr=(i - fr)+1 by omega,Bx]
    congr 1
    rw [List.getElem?_drop,show fr+(i - fr)=i by omega,As hi];rfl
   rw [Zw,e,g,Ab,Ab,hN,ht]
theorem j1n (s:List UInt8) (h:Tz s=true): ∃N,Yw (Gc s) N (VI s)=.ret (Hj s):=by
 unfold VI Hj;cases g:s == [] with
 | true=>exact ⟨0,rfl⟩
 | false=>obtain ⟨N,hN⟩:=v5b (s:=s) (Av h) s.length 0 0 [] (Al _) (An _) (An _);exact ⟨N,hN⟩
def OK :List B3->Option (B3×Bool)
 | [.str s]=>some (.dat (Jz s).length (Zz (Jz s)),Tz s)
 | _=>none
theorem j4k {S:B6} (hS:Zv prog S):Zv prog (S.with S6 OK):=K8 hS (by kernel_rfl) fun args v h=>by
 unfold OK at h;split at h
 .rename_i s;simp only [Ae,Ac] at h;obtain ⟨rfl,ho⟩:=h;obtain ⟨N,hN⟩:=j1n s ho;refine ⟨_,_,.cons (.refl _) .nil,?_,u1m s N _ hN,3,?_⟩
  .unfold Hj Jz;cases s == [] with
   | true=>exact fun ρ u hu=>by cases hu;exact .datn _
   | false=>exact fun ρ u hu=>hu
  .unfold Hj;cases s == [] <;> rfl
 .cases h
def Tt :B6:=((((Tu.with TI OT).with Td O6).with TA FW).with S1 FW).with S6 OK
theorem Wy :Zv prog Tt:=j4k (j4g (j4r (j5j (j4v Xz))))
inductive FS where
 | h0 (v9:Int) (cZ:Nat)
def NW (x0:List UInt8):FS->CG
 | .h0 v9 cZ=>⟨⟨82,0,true⟩,none,(Zf prog 84 [1,1,1,1,1,1,0,1,0,0] 0),none,(Zy prog 84),⟨Ye [(2,(.ptr 0 0)),(4,(.str (Xf x0 ([91]:List UInt8)))),(9,(ii v9)),(62,(.ptr 1 0))],Xs [⟨[(.str []),(ii 0)],144,none⟩,⟨[(.obj (.it (Zu (Wr x0 ([91]:List UInt8)) ([93]:List UInt8)) cZ))],9,none⟩] 0,2,[],true⟩,[],.leaf⟩
def j2t :List (Option (List Nat)):=[some [2,4,9,62]]
def j2u :List (Option (List Nat)):=[]
def LP (x0:List UInt8):FS->Xj FS
 | .h0 v9 cZ=>(bif (decide (cZ<(Zu (Wr x0 ([91]:List UInt8)) ([93]:List UInt8)).length)) then (bif (decide ((Dm (Zu (Wr x0 ([91]:List UInt8)) ([93]:List UInt8)) cZ)<48)) then (.ret [(.agg [(.str []),(.int .i64 0)]),(.bool false)]) else (bif (decide ((Dm (Zu (Wr x0 ([91]:List UInt8)) ([93]:List UInt8)) cZ)>57)) then (.ret [(.agg [(.str []),(.int .i64 0)]),(.bool false)]) else (.to (.h0 (wrap .i64 ((wrap .i64 (10*v9))+(wrap .i64 (wrap IntKind.i32 ((Dm (Zu (Wr x0 ([91]:List UInt8)) ([93]:List UInt8)) cZ) - 48))))) (cZ+Fo (Zu (Wr x0 ([91]:List UInt8)) ([93]:List UInt8)) cZ))))) else (.ret [(.agg [(.str (Xf x0 ([91]:List UInt8))),(.int .i64 v9)]),(.bool true)]))
def VD (x0:List UInt8):Xj FS:=(bif (Ki x0 ([91]:List UInt8)) then (bif (Um (Xf x0 ([91]:List UInt8))) then (bif (!(Cd (Xf x0 ([91]:List UInt8)))) then (bif (!(Je x0 ([91]:List UInt8))) then (.ret [(.agg [(.str (Xf x0 ([91]:List UInt8))),(.int .i64 (-1))]),(.bool (Cd (Xf x0 ([91]:List UInt8))))]) else (.ret [(.agg [(.str (Xf x0 ([91]:List UInt8))),(.int .i64 (-1))]),(.bool false)])) else (bif (!(Je x0 ([91]:List UInt8))) then (.ret [(.agg [(.str (Xf x0 ([91]:List UInt8))),(.int .i64 (-1))]),(.bool (Cd (Xf x0 ([91]:List UInt8))))]) else (bif (Qz (Wr x0 ([91]:List UInt8)) ([93]:List UInt8)) then (bif (!(EN (Wr x0 ([91]:List UInt8)) ([93]:List UInt8))) then (.ret [(.agg [(.str []),(.int .i64 0)]),(.bool false)]) else (bif ((((Zu (Wr x0 ([91]:List UInt8)) ([93]:List UInt8)).length :Nat):Int) == 0) then (.ret [(.agg [(.str []),(.int .i64 0)]),(.bool false)]) else (bif (decide ((((Zu (Wr x0 ([91]:List UInt8)) ([93]:List UInt8)).length :Nat):Int)>4)) then (.ret [(.agg [(.str []),(.int .i64 0)]),(.bool false)]) else (bif (decide ((0:Int)<=0/\0<(((Zu (Wr x0 ([91]:List UInt8)) ([93]:List UInt8)).length :Nat):Int))) then (bif ((CY (Zu (Wr x0 ([91]:List UInt8)) ([93]:List UInt8)) 0) == 48) then (bif (decide ((((Zu (Wr x0 ([91]:List UInt8)) ([93]:List UInt8)).length :Nat):Int)>1)) then (.ret [(.agg [(.str []),(.int .i64 0)]),(.bool false)]) else (.to (.h0 0 0))) else (.to (.h0 0 0))) else .stuck)))) else .stuck))) else .stuck) else .stuck)
theorem v0d (x0:List UInt8): ∀s,Wp prog (Zy prog 84) (NW x0) (NW x0 s) (LP x0 s)
 | .h0 v9 cZ=>let b:=Zy prog 84;(lb (fun k0=>let a:=Zf prog 84 [1,1,1,1,1,1,0,1,0,0,1,1,0,1,0,1,0,0] 1;(lb (fun k1=>(Ys ⟨⟨82,0,true⟩,none,a,none,b,⟨Ye [(2,(.ptr 0 0)),(3,(.bool false))],Xs [⟨[(.str []),(ii 0)],144,none⟩] 0,1,[],true⟩,[],.leaf⟩ (sl Wy 31 [] ⟨[0],[],[some [2,3]],[]⟩ b7 (CE 5 []) (tt k1 (tt k0 nn))) rfl (by kernel_rfl))) (fun k1=>let c:=tt k1 (tt k0 nn);(lb (fun k2=>(Ys ⟨⟨82,0,true⟩,none,a,none,b,⟨Ye [(2,(.ptr 0 0)),(3,(.bool false))],Xs [⟨[(.str []),(ii 0)],144,none⟩] 0,1,[],true⟩,[],.leaf⟩ (sl Wy 31 [] ⟨[0],[],[some [2,3]],[]⟩ b7 (bl 5 19) (tt k2 c)) rfl (by kernel_rfl))) (fun k2=>(sl Wy 37 [] ⟨[0,1],[],j2t,j2u⟩ b7 (bl 5 3) (tt k2 c))))))) (fun k0=>(Ys ⟨⟨82,0,true⟩,none,(Zf prog 3 [1,1,1,1,1,1,0] 1),none,b,⟨Ye [(2,(.ptr 0 0)),(3,(.bool true))],Xs [⟨[(.str (Xf x0 ([91]:List UInt8))),(ii v9)],144,none⟩] 0,1,[],true⟩,[],.leaf⟩ (sl Wy 16 [] ⟨[0],[],[some [2,3]],[]⟩ b7 (bl 2 0) (tt k0 nn)) rfl (by kernel_rfl))))
theorem w2b (x0:List UInt8):Wp prog (Zy prog 84) (NW x0) (Zg prog 84 [(.str x0)] true []) (VD x0):=(lo fun cO=>(lo fun dG=>let b:=Xf x0 ([91]:List UInt8);let e:=Zy prog 84;let f:=Zf prog 84 [1,1,0,1,0,0] 1;let g:=ww dG (ww cO nn);(lb (fun k0=>(lb (fun k1=>(Ys ⟨⟨82,0,true⟩,none,f,none,e,⟨Ye [(2,(.ptr 0 0)),(3,(.bool (Cd b)))],Xs [⟨[(.str b),(ii (-1))],144,none⟩] 0,1,[],true⟩,[],.leaf⟩ (sl Wy 42 [] ⟨[0],[],[some [2,3]],[]⟩ b7 (CE 5 []) (ww dG (tt k1 (tt k0 g)))) rfl (by kernel_rfl))) (fun k1=>(Ys ⟨⟨82,0,true⟩,none,f,none,e,⟨Ye [(2,(.ptr 0 0)),(3,(.bool false))],Xs [⟨[(.str b),(ii (-1))],144,none⟩] 0,1,[],true⟩,[],.leaf⟩ (sl Wy 42 [] ⟨[0],[],[some [2,3]],[]⟩ b7 (CE 3 (bl 2 0)) (tt k1 (tt k0 g))) rfl (by kernel_rfl))))) (fun k0=>(lb (fun k1=>(Ys ⟨⟨82,0,true⟩,none,f,none,e,⟨Ye [(2,(.ptr 0 0)),(3,(.bool (Cd b)))],Xs [⟨[(.str b),(ii (-1))],144,none⟩] 0,1,[],true⟩,[],.leaf⟩ (sl Wy 42 [] ⟨[0],[],[some [2,3]],[]⟩ b7 (bl 5 28) (ww dG (tt k1 (tt k1 (tt k0 g))))) rfl (by kernel_rfl))) (fun k1=>(lo fun bJ=>let a:=ww bJ (tt k1 (tt k0 g));let c:=Zf prog 84 [1,1,1,1,0,1,0,0] 1;(lb (fun k2=>(Ys ⟨⟨82,0,true⟩,none,c,none,e,⟨Ye [(2,(.ptr 0 0)),(3,(.bool false))],Xs [⟨[(.str []),(ii 0)],144,none⟩] 0,1,[],true⟩,[],.leaf⟩ (sl Wy 73 [] ⟨[0],[],[some [2,3]],[]⟩ b7 (bl 15 32760) (tt k2 a)) rfl (by kernel_rfl))) (fun k2=>(lb (fun k3=>(Ys ⟨⟨82,0,true⟩,none,c,none,e,⟨Ye [(2,(.ptr 0 0)),(3,(.bool false))],Xs [⟨[(.str []),(ii 0)],144,none⟩] 0,1,[],true⟩,[],.leaf⟩ (sl Wy 73 [] ⟨[0],[],[some [2,3]],[]⟩ b7 (bl 15 32704) (tt k3 (tt k2 a))) rfl (by kernel_rfl))) (fun k3=>let h:=tt k3 (tt k2 a);(lb (fun k4=>(Ys ⟨⟨82,0,true⟩,none,c,none,e,⟨Ye [(2,(.ptr 0 0)),(3,(.bool false))],Xs [⟨[(.str []),(ii 0)],144,none⟩] 0,1,[],true⟩,[],.leaf⟩ (sl Wy 73 [] ⟨[0],[],[some [2,3]],[]⟩ b7 (bl 15 32256) (tt k4 h)) rfl (by kernel_rfl))) (fun k4=>(lo fun dI=>let d:=ww dI (tt k4 h);(lb (fun k5=>(lb (fun k6=>(Ys ⟨⟨82,0,true⟩,none,c,none,e,⟨Ye [(2,(.ptr 0 0)),(3,(.bool false))],Xs [⟨[(.str []),(ii 0)],144,none⟩] 0,1,[],true⟩,[],.leaf⟩ (sl Wy 73 [] ⟨[0],[],[some [2,3]],[]⟩ b7 (bl 18 188416) (tt k6 (tt k5 d))) rfl (by kernel_rfl))) (fun k6=>(sl Wy 80 [] ⟨[0,1],[],j2t,j2u⟩ b7 (bl 18 57344) (tt k6 (tt k5 d)))))) (fun k5=>(sl Wy 80 [] ⟨[0,1],[],j2t,j2u⟩ b7 (bl 18 0) (tt k5 d))))))))))))))))))
theorem u3f (x0:List UInt8) (n:Nat) (vs:List B3) (h:Yw (LP x0) n (VD x0)=.ret vs):Kj prog (Zy prog 84) (Zg prog 84 [(.str x0)] true []) vs:=by have:=Ze (v0d x0) n _ (w2b x0);rwa [h] at this
inductive GH where
 | h0 (v5:Int)
 | h1 (v5:Int) (v6:List UInt8) (v7:Int) (v8:Int)
def MW (x0:List UInt8):GH->CG
 | .h0 v5=>⟨⟨84,0,true⟩,none,(Zf prog 87 [1,1,0,0,0] 0),none,(Zy prog 62),⟨Ye [(0,(.str x0)),(5,(ii v5))],Xs [] 0,0,[],true⟩,[],.leaf⟩
 | .h1 v5 v6 v7 v8=>⟨⟨84,0,true⟩,none,(Zf prog 87 [1,1,1,1,1,1,1,1,0,1,0,0] 0),none,(Zy prog 62),⟨Ye [(0,(.str x0)),(5,(ii v5)),(6,(.str v6)),(7,(ii v7)),(8,(ii v8))],Xs [] 0,0,[],true⟩,[],.leaf⟩
def JW :List (Option (List Nat)):=[some [0,5]]
def JX :List (Option (List Nat)):=[]
def j0m :List (Option (List Nat)):=[some [0,5,6,7,8]]
def j0n :List (Option (List Nat)):=[]
def Kw (x0:List UInt8):GH->Xj GH
 | .h0 v5=>(bif (decide (v5<(x0.length:Int))) then (bif (decide (0<=v5/\v5<(x0.length:Int))) then (bif ((CY x0 v5.toNat) != 91) then (.to (.h0 (wrap .i64 (v5+1)))) else (bif (decide (v5.toNat<=x0.length)) then (bif (decide (0<=v5)) then (bif (Um ((x0.drop 0).take v5.toNat)) then (bif (!(Cd ((x0.drop 0).take v5.toNat))) then (.ret [(.str []),(.int .i64 0),(.bool false)]) else (bif (v5 == (x0.length:Int)) then (.ret [(.str x0),(.int .i64 (-1)),(.bool true)]) else (bif (decide (0<=(wrap .i64 ((x0.length:Int) - 1))/\(wrap .i64 ((x0.length:Int) - 1))<(x0.length:Int))) then (bif ((CY x0 (Int.toNat (wrap .i64 ((x0.length:Int) - 1)))) != 93) then (.ret [(.str []),(.int .i64 0),(.bool false)]) else (bif (decide ((Int.toNat (wrap .i64 (v5+1)))<=(Int.toNat (wrap .i64 ((x0.length:Int) - 1))))) then (bif (decide ((Int.toNat (wrap .i64 ((x0.length:Int) - 1)))<=x0.length)) then (bif (decide (0<=(wrap .i64 (v5+1)))) then (bif (decide (0<=(wrap .i64 ((x0.length:Int) - 1)))) then (.to (.h1 v5 ((x0.drop (Int.toNat (wrap .i64 (v5+1)))).take ((Int.toNat (wrap .i64 ((x0.length:Int) - 1))) - (Int.toNat (wrap .i64 (v5+1))))) 0 0)) else .stuck) else .stuck) else .stuck) else .stuck)) else .stuck))) else .stuck) else .stuck) else .stuck)) else .stuck) else (bif (decide (v5.toNat<=x0.length)) then (bif (decide (0<=v5)) then (bif (Um ((x0.drop 0).take v5.toNat)) then (bif (!(Cd ((x0.drop 0).take v5.toNat))) then (.ret [(.str []),(.int .i64 0),(.bool false)]) else (bif (v5 == (x0.length:Int)) then (.ret [(.str x0),(.int .i64 (-1)),(.bool true)]) else (bif (decide (0<=(wrap .i64 ((x0.length:Int) - 1))/\(wrap .i64 ((x0.length:Int) - 1))<(x0.length:Int))) then (bif ((CY x0 (Int.toNat (wrap .i64 ((x0.length:Int) - 1)))) != 93) then (.ret [(.str []),(.int .i64 0),(.bool false)]) else (bif (decide ((Int.toNat (wrap .i64 (v5+1)))<=(Int.toNat (wrap .i64 ((x0.length:Int) - 1))))) then (bif (decide ((Int.toNat (wrap .i64 ((x0.length:Int) - 1)))<=x0.length)) then (bif (decide (0<=(wrap .i64 (v5+1)))) then (bif (decide (0<=(wrap .i64 ((x0.length:Int) - 1)))) then (.to (.h1 v5 ((x0.drop (Int.toNat (wrap .i64 (v5+1)))).take ((Int.toNat (wrap .i64 ((x0.length:Int) - 1))) - (Int.toNat (wrap .i64 (v5+1))))) 0 0)) else .stuck) else .stuck) else .stuck) else .stuck)) else .stuck))) else .stuck) else .stuck) else .stuck))
 | .h1 v5 v6 v7 v8=>(bif (decide (v8<(v6.length:Int))) then (bif (decide (0<=v8/\v8<(v6.length:Int))) then (bif (decide ((CY v6 v8.toNat)>=48)) then (bif (!(decide ((CY v6 v8.toNat)<=57))) then (.ret [(.str []),(.int .i64 0),(.bool false)]) else (bif (decide (v8>3)) then (.ret [(.str []),(.int .i64 0),(.bool false)]) else (.to (.h1 v5 v6 (wrap .i64 ((wrap .i64 (10*v7))+(wrap .i64 (wrap IntKind.u8 ((CY v6 v8.toNat) - 48))))) (wrap .i64 (v8+1)))))) else (.ret [(.str []),(.int .i64 0),(.bool false)])) else .stuck) else (bif ((v6.length:Int) == 0) then (.ret [(.str []),(.int .i64 0),(.bool false)]) else (bif (decide ((v6.length:Int)>1)) then (bif (decide ((0:Int)<=0/\0<(v6.length:Int))) then (bif ((CY v6 0) == 48) then (.ret [(.str []),(.int .i64 0),(.bool false)]) else (bif (decide (v5.toNat<=x0.length)) then (bif (decide (0<=v5)) then (.ret [(.str ((x0.drop 0).take v5.toNat)),(.int .i64 v7),(.bool true)]) else .stuck) else .stuck)) else .stuck) else (bif (decide (v5.toNat<=x0.length)) then (bif (decide (0<=v5)) then (.ret [(.str ((x0.drop 0).take v5.toNat)),(.int .i64 v7),(.bool true)]) else .stuck) else .stuck))))
def x2x (x0:List UInt8):Xj GH:=(.to (.h0 0))
theorem w8t (x0:List UInt8): ∀s,Wp prog (Zy prog 87) (MW x0) (MW x0 s) (Kw x0 s)
 | .h0 v5=>(lb (fun k0=>(lo fun aG=>let b:=ww aG (tt k0 nn);(lb (fun k1=>(sl Wy 24 [] ⟨[],[],JW,JX⟩ b7 (CE 5 []) (tt k1 b))) (fun k1=>(lo fun bJ=>(lo fun dR=>(lo fun dX=>let a:=tt k1 b;(lb (fun k2=>(lr 84 87 [1,1,1,0,1,0,0] 1 62 [(2,(.str [])),(3,(ii 0)),(4,(.bool false))] (sl Wy 32 [] (b8 [2,3,4]) b7 (CE 4 (bl 2 2)) (tt k2 (ww dX (pp (pp (xw dR) (pp nn (pp (xG (decide ((tn v5)<=x0.length))) (xG (decide (0<=(tn v5))))))) a)))))) (fun k2=>(lb (fun k3=>(lr 84 87 [1,1,1,1,0,1,0,0] 1 62 [(2,(.str x0)),(3,(ii (-1))),(4,(.bool true))] (sl Wy 43 [] (b8 [2,3,4]) b7 (CE 4 (bl 3 4)) (tt k3 (tt k2 (ww dX (pp (pp (xw dR) (pp nn (pp (xG (decide ((tn v5)<=x0.length))) (xG (decide (0<=(tn v5))))))) a))))))) (fun k3=>(lo fun cU=>(lb (fun k4=>(lr 84 87 [1,1,1,1,1,0,1,0,0] 1 62 [(2,(.str [])),(3,(ii 0)),(4,(.bool false))] (sl Wy 54 [] (b8 [2,3,4]) b7 (CE 4 (bl 4 8)) (tt k4 (ww cU (tt k3 (tt k2 (ww dX (pp (pp (xw dR) (pp nn (pp (xG (decide ((tn v5)<=x0.length))) (xG (decide (0<=(tn v5))))))) a))))))))) (fun k4=>(lo fun o0=>(lo fun o1=>(lo fun o2=>(lo fun o3=>(sl Wy 71 [] ⟨[],[],j0m,j0n⟩ b7 (CE 4 (bl 4 0)) (pp (pp (xw o3) (pp (xw o2) (pp (xG (decide ((tn (wr ((x0.length:Int) - 1)))<=x0.length))) (xG (decide ((tn (wr (v5+1)))<=(tn (wr ((x0.length:Int) - 1))))))))) (tt k4 (ww cU (tt k3 (tt k2 (ww dX (pp (pp (xw dR) (pp nn (pp (xG (decide ((tn v5)<=x0.length))) (xG (decide (0<=(tn v5))))))) a)))))))))))))))))))))))))) (fun k0=>(lo fun aG=>(lo fun aU=>(lo fun cI=>(lb (fun k1=>(lr 84 87 [1,1,1,0,1,0,0] 1 62 [(2,(.str [])),(3,(ii 0)),(4,(.bool false))] (sl Wy 32 [] (b8 [2,3,4]) b7 (bl 6 32) (tt k1 (ww cI (pp (pp (xw aU) (pp nn (pp (xG (decide ((tn v5)<=x0.length))) (xG (decide (0<=(tn v5))))))) (tt k0 nn))))))) (fun k1=>(lb (fun k2=>(lr 84 87 [1,1,1,1,0,1,0,0] 1 62 [(2,(.str x0)),(3,(ii (-1))),(4,(.bool true))] (sl Wy 43 [] (b8 [2,3,4]) b7 (bl 7 64) (tt k2 (tt k1 (ww cI (pp (pp (xw aU) (pp nn (pp (xG (decide ((tn v5)<=x0.length))) (xG (decide (0<=(tn v5))))))) (tt k0 nn)))))))) (fun k2=>(lo fun cS=>(lb (fun k3=>(lr 84 87 [1,1,1,1,1,0,1,0,0] 1 62 [(2,(.str [])),(3,(ii 0)),(4,(.bool false))] (sl Wy 54 [] (b8 [2,3,4]) b7 (bl 8 128) (tt k3 (ww cS (tt k2 (tt k1 (ww cI (pp (pp (xw aU) (pp nn (pp (xG (decide ((tn v5)<=x0.length))) (xG (decide (0<=(tn v5))))))) (tt k0 nn)))))))))) (fun k3=>(lo fun o0=>(lo fun o1=>(lo fun o2=>(lo fun o3=>(sl Wy 71 [] ⟨[],[],j0m,j0n⟩ b7 (bl 8 0) (pp (pp (xw o3) (pp (xw o2) (pp (xG (decide ((tn (wr ((x0.length:Int) - 1)))<=x0.length))) (xG (decide ((tn (wr (v5+1)))<=(tn (wr ((x0.length:Int) - 1))))))))) (tt k3 (ww cS (tt k2 (tt k1 (ww cI (pp (pp (xw aU) (pp nn (pp (xG (decide ((tn v5)<=x0.length))) (xG (decide (0<=(tn v5))))))) (tt k0 nn)))))))))))))))))))))))))
 | .h1 v5 v6 v7 v8=>(lb (fun k0=>(lo fun aG=>let a:=ww aG (tt k0 nn);(lb (fun k1=>(lb (fun k2=>(lr 84 87 [1,1,1,1,1,1,1,1,0,1,0,0,1,0,0,0,1,0,0] 1 62 [(2,(.str [])),(3,(ii 0)),(4,(.bool false))] (sl Wy 47 [] (b8 [2,3,4]) b7 (CE 6 []) (tt k2 (tt k1 a))))) (fun k2=>let c:=tt k2 (tt k1 a);(lb (fun k3=>(lr 84 87 [1,1,1,1,1,1,1,1,0,1,0,0,1,0,0,0,1,0,0] 1 62 [(2,(.str [])),(3,(ii 0)),(4,(.bool false))] (sl Wy 47 [] (b8 [2,3,4]) b7 (CE 3 (bl 3 4)) (tt k3 c)))) (fun k3=>(sl Wy 60 [] ⟨[],[],j0m,j0n⟩ b7 (CE 3 (bl 3 0)) (ww aG (tt k3 c)))))))) (fun k1=>(lr 84 87 [1,1,1,1,1,1,1,1,0,1,0,0,1,0,0,0,1,0,0] 1 62 [(2,(.str [])),(3,(ii 0)),(4,(.bool false))] (sl Wy 47 [] (b8 [2,3,4]) b7 (bl 6 57) (tt k1 a))))))) (fun k0=>(lb (fun k1=>(lr 84 87 [1,1,1,1,1,1,1,1,1,0,1,0,0] 1 62 [(2,(.str [])),(3,(ii 0)),(4,(.bool false))] (sl Wy 34 [] (b8 [2,3,4]) b7 (bl 7 126) (tt k1 (tt k0 nn))))) (fun k1=>let b:=tt k1 (tt k0 nn);(lb (fun k2=>(lo fun cS=>let d:=ww cS (tt k2 b);(lb (fun k3=>(lr 84 87 [1,1,1,1,1,1,1,1,1,0,1,0,0] 1 62 [(2,(.str [])),(3,(ii 0)),(4,(.bool false))] (sl Wy 34 [] (b8 [2,3,4]) b7 (bl 10 736) (tt k3 d)))) (fun k3=>(lo fun o0=>(lo fun o1=>(lr 84 3 [1,1,1,1,1,1,0] 1 62 [(2,(.str ((x0.drop 0).take (tn v5)))),(3,(ii v7)),(4,(.bool true))] (sl Wy 39 [] (b8 [2,3,4]) b7 (bl 10 224) (pp (pp (xw o1) (pp nn (pp (xG (decide ((tn v5)<=x0.length))) (xG (decide (0<=(tn v5))))))) (tt k3 d)))))))))) (fun k2=>(lo fun o0=>(lo fun o1=>(lr 84 3 [1,1,1,1,1,1,0] 1 62 [(2,(.str ((x0.drop 0).take (tn v5)))),(3,(ii v7)),(4,(.bool true))] (sl Wy 39 [] (b8 [2,3,4]) b7 (bl 10 0) (pp (pp (xw o1) (pp nn (pp (xG (decide ((tn v5)<=x0.length))) (xG (decide (0<=(tn v5))))))) (tt k2 b))))))))))))
theorem w0g (x0:List UInt8):Wp prog (Zy prog 87) (MW x0) (Zg prog 87 [(.str x0)] true []) (x2x x0):=(sl Wy 13 [] ⟨[],[],JW,JX⟩ b7 [] nn)
theorem u0o (x0:List UInt8) (n:Nat) (vs:List B3) (h:Yw (Kw x0) n (x2x x0)=.ret vs):Kj prog (Zy prog 87) (Zg prog 87 [(.str x0)] true []) vs:=by have:=Ze (w8t x0) n _ (w0g x0);rwa [h] at this
theorem wu8 (n:Int) (h:0<=n/\n<256):wrap .u8 n=n:=by unfold wrap;simp [IntKind.signed,IntKind.bits];omega
theorem wi32 (n:Int) (h:0<=n/\n<256):wrap .i32 n=n:=by unfold wrap;simp [IntKind.signed,IntKind.bits];omega
theorem u9m {cs cs':List B3} (h:Ci cs cs') (ρ:B7) (u:Value) (hv:Zr ρ (.tup cs) u):Zr ρ (.tup cs') u:=by
 cases hv with
 | tup _ vs hl hh=>exact .tup cs' vs (by rw [<-h.len];exact hl) fun i h1 h2=>h.sound i (by rw [h.len];exact h1) h1 (hh i (by rw [h.len];exact h1) h2)
def GC (d:List UInt8):Bool:=d.all fun c=>digN c.toNat
def EP (d:List UInt8):Bool:=decide (1<=d.length)&&(decide (d.length<=4)&& !(decide (1<d.length)&&(CY d 0 == 48)))
def Ge (d:List UInt8):Bool:=EP d&&GC d
def C7 (s:List UInt8):List UInt8:=Zu (Wr s [91]) [93]
def Vw (s:List UInt8):Bool:=Cd (Xf s [91])&&(bif Je s [91] then EN (Wr s [91]) [93]&&Ge (C7 s) else true)
def Hq (n:Nat) (d:List UInt8):Nat:=d.foldl (fun n c=>10*n+(c.toNat - 48)) n
def G9 (s:List UInt8):List UInt8:=bif Cd (Xf s [91])&&Je s [91] then (bif Vw s then Xf s [91] else []) else Xf s [91]
def G8 (s:List UInt8):Int:=bif Cd (Xf s [91])&&Je s [91] then (bif Vw s then (Hq 0 (C7 s):Int) else 0) else -1
def V8 (s:List UInt8):Bool:=decide (s.length<=1000000)
theorem v6s {s sep:List UInt8}:(Xf s sep).length <=s.length/\(Wr s sep).length <=s.length:=by
 unfold Xf Wr;cases decide (0<=C9 s sep) with
 | true=>rw [Af,Af,Bl,Bk];omega
 | false=>exact ⟨An _,AF _⟩
theorem v8g {s f:List UInt8}:(Zu s f).length <=s.length:=by
 unfold Zu;cases EN s f with
 | true=>rw [Af,Bl];omega
 | false=>exact An _
theorem u8d {s:List UInt8} (hs:(C7 s).length <=4): ∀(k i n:Nat),i+k=(C7 s).length ->n<10 ^ i->
  ∃N,Yw (LP s) N (.to (.h0 (n:Int) i))=.ret (bif GC ((C7 s).drop i) then [.agg [.str (Xf s [91]),.int .i64 (Hq n ((C7 s).drop i):Int)],.bool true] else [.agg [.str [],.int .i64 0],.bool false])
 | 0,i,n,h,hn=>⟨1,by
  rw [Zw,Aw (by omega)];unfold LP;simp only [];rw [show decide (i<(Zu (Wr s [91]) [93]).length)=false from Ai (show ¬i<(C7 s).length by omega)];rfl⟩
 | k +1,i,n,h,hn=>by
  have hi:i<(C7 s).length :=by omega
  have hp:10 ^ i<=10 ^ 4:=Nat.pow_le_pow_right (by decide) (by omega);rw [AW hi];have e:LP s (.h0 (n:Int) i)=bif digN (C7 s)[i].toNat then .to (.h0 ((10*n+((C7 s)[i].toNat - 48):Nat):Int) (i+1)) else .ret [.agg [.str [],.int .i64 0],.bool false]:=by
   unfold LP;simp only [];rw [show decide (i<(Zu (Wr s [91]) [93]).length)=true from Aa hi,Af];show (bif decide (Dm (C7 s) i<48) then _ else bif decide (Dm (C7 s) i>57) then _ else Xj.to (FS.h0 (wrap .i64 (wrap .i64 (10*(n:Int))+wrap .i64 (wrap .i32 (Dm (C7 s) i - 48)))) (i+Fo (C7 s) i)))=_;unfold digN;by_cases ha:(C7 s)[i].toNat <128
   .obtain ⟨e1,e2⟩:=w7l hi ha;rw [e1,e2];generalize (C7 s)[i].toNat =c at ha;by_cases h1:48<=c
    .rw [Yt (by omega),Aa h1];by_cases h2:c<=57
     .rw [Wz (by omega),Aa h2,wi32 _ (by omega),Zm (n:=10*(n:Int)) (by omega),Zm (n:=(c:Int) - 48) (by omega),Zm (by omega)];show Xj.to _=Xj.to _
      congr 2
      omega
     .rw [Xv (by omega),Ai h2];rfl
    .rw [Yb (by omega),Ai h1];rfl
   .have hb:=u8r hi ha;rw [Yt (by omega),Xv (by omega),Ai (show ¬(C7 s)[i].toNat <=57 by omega),A7];rfl
  show∃N,Yw _ N _=.ret (bif digN (C7 s)[i].toNat &&GC ((C7 s).drop (i+1)) then _ else _);cases g:digN (C7 s)[i].toNat with
  | false=>exact ⟨1,by rw [Zw,e,g,Ab,Zh];rfl⟩
  | true=>
   have g':(48<=(C7 s)[i].toNat /\(C7 s)[i].toNat <=57):=by unfold digN at g;rwa [Ad,Ak,Ak] at g
   obtain ⟨N,hN⟩:=u8d hs k (i+1) (10*n+((C7 s)[i].toNat - 48)) (by omega) (by rw [Nat.pow_succ];omega);refine ⟨N+1,?_⟩;rw [Zw,e,g,Af,hN];rfl
theorem j2q (s:List UInt8) (h:V8 s=true): ∃N,Yw (LP s) N (VD s)=.ret [.agg [.str (G9 s),.int .i64 (G8 s)],.bool (Vw s)]:=by
 have hs:s.length<=1000000:=Av h;obtain ⟨k0,k1⟩:=v6s (s:=s) (sep:=[91]);unfold VD;rw [Zp (show Ki s [91]=true by unfold Ki;rw [Aa hs];rfl),Zp (show Um (Xf s [91])=true from Aa (by omega))];have hv: ∀{a b c},G9 s=a->G8 s=b->Vw s=c->[B3.agg [.str (G9 s),.int .i64 (G8 s)],.bool (Vw s)]=[.agg [.str a,.int .i64 b],.bool c]:=fun h1 h2 h3=>by rw [h1,h2,h3]
 cases hn:Cd (Xf s [91]) with
 | false=>
  have e1:Vw s=false:=by unfold Vw;rw [hn];rfl
  rw [hv (a:=Xf s [91]) (b:= -1) (c:=false) (by unfold G9;rw [hn];rfl) (by unfold G8;rw [hn];rfl) e1];exact ⟨0,by cases Je s [91] <;> rfl⟩
 | true=>
  cases h2:Je s [91] with
  | false=>
   have e1:Vw s=true:=by unfold Vw;rw [hn,h2];rfl
   rw [hv (a:=Xf s [91]) (b:= -1) (c:=true) (by unfold G9;rw [hn,h2];rfl) (by unfold G8;rw [hn,h2];rfl) e1];exact ⟨0,rfl⟩
  | true=>
   have e1:Vw s=(EN (Wr s [91]) [93]&&Ge (C7 s)):=by unfold Vw;rw [hn,h2];rfl
   have es:G9 s=bif Vw s then Xf s [91] else []:=by unfold G9;rw [hn,h2];rfl
   have en:G8 s=bif Vw s then (Hq 0 (C7 s):Int) else 0:=by unfold G8;rw [hn,h2];rfl
   have hf:Vw s=false->[B3.agg [.str (G9 s),.int .i64 (G8 s)],.bool (Vw s)]=[.agg [.str [],.int .i64 0],.bool false]:=fun q=>by rw [es,en,q];rfl
   have hd:(C7 s).length <=s.length:=AN v8g k1;have hD:Zu (Wr s [91]) [93]=C7 s:=rfl;rw [Ay,Ab,Ab,Zp (show Qz (Wr s [91]) [93]=true by unfold Qz;rw [Aa (show (Wr s [91]).length <=1000000 by omega)];rfl),hD];cases hc:EN (Wr s [91]) [93] with
   | false=>rw [hf (by rw [e1,hc];rfl)];exact ⟨0,rfl⟩
   | true=>
    rw [hc,Ar] at e1;rw [Ay,Ab];by_cases g0:1<=(C7 s).length
    .rw [P9 (by omega),Ab];by_cases g4:(C7 s).length <=4
     .rw [Wz (by omega),Ab,Zp (Ym (by omega))];obtain ⟨N,hN⟩:=u8d g4 (C7 s).length 0 0 (Al _) (by decide);rw [AR] at hN;have fin:EP (C7 s)=true->[B3.agg [.str (G9 s),.int .i64 (G8 s)],.bool (Vw s)]=(bif GC (C7 s) then [.agg [.str (Xf s [91]),.int .i64 (Hq 0 (C7 s):Int)],.bool true] else [.agg [.str [],.int .i64 0],.bool false]):=fun q=>by
       have e2:Vw s=GC (C7 s):=by rw [e1];unfold Ge;rw [q,Ar]
       rw [es,en,e2];cases GC (C7 s) <;> rfl
      by_cases g1:1<(C7 s).length
      .cases g48:CY (C7 s) 0 == 48 with
       | true=>rw [Af,Xv (by omega),Af,hf (by rw [e1];unfold Ge EP;rw [Aa g1,g48,Bool.and_self,Ay,A7,A7,Bb])];exact ⟨0,rfl⟩
       | false=>rw [Ab,fin (by unfold EP;rw [Aa g0,Aa g4,g48,A7];rfl)];exact ⟨N,hN⟩
      .rw [Wz (by omega),Ab,fin (by unfold EP;rw [Aa g0,Aa g4,Ai g1];rfl)];refine ⟨N,?_⟩;rw [show∀(b:Bool) (x:Xj FS),(bif b then x else x)=x from fun b x=>by cases b <;> rfl];exact hN
     .rw [Xv (by omega),Af,hf (by rw [e1];unfold Ge EP;rw [Ai g4];cases decide (1<=(C7 s).length) <;> rfl)];exact ⟨0,rfl⟩
    .rw [Lf (by omega),Af,hf (by rw [e1];unfold Ge EP;rw [Ai g0];rfl)];exact ⟨0,rfl⟩
def OS :List B3->Option (B3×Bool)
 | [.str s]=>some (.tup [.agg [.str (G9 s),.int .i64 (G8 s)],.bool (Vw s)],V8 s)
 | _=>none
theorem j4t {S:B6} (hS:Zv prog S):Zv prog (S.with TF OS):=CS hS (by kernel_rfl) fun args v h=>by
 unfold OS at h;split at h
 .rename_i s;simp only [Ae,Ac] at h;obtain ⟨rfl,ho⟩:=h;obtain ⟨N,hN⟩:=j2q s ho;exact ⟨_,_,.cons (.refl _) .nil,rfl,u3f s N _ hN,5,rfl⟩
 .cases h
def CN (b:UInt8):List UInt8->Nat
 | []=>0
 | c::r=>bif c == b then 0 else CN b r+1
theorem v6w (b:UInt8): ∀s,CN b s<=s.length
 | []=>An _
 | c::r=>by
  have:=v6w b r;unfold CN;rw [At];cases c == b with
  | true=>exact AF _
  | false=>rw [Ab];omega
theorem u8i (b:UInt8): ∀s,(h:CN b s<s.length)->s[CN b s]=b
 | [],h=>by cases h
 | c::r,h=>by
  cases g:c == b with
  | true=>
   have e:CN b (c::r)=0:=by unfold CN;rw [g];rfl
   simp only [e,List.getElem_cons_zero];exact AU.1 g
  | false=>
   have e:CN b (c::r)=CN b r+1:=by rw [CN,g];rfl
   rw [e,At] at h;simp only [e,List.getElem_cons_succ];exact u8i b r (by omega)
theorem w2q (b:UInt8): ∀s,Lib.indexByte s b=bif decide (CN b s<s.length) then (CN b s:Int) else -1
 | []=>rfl
 | c::r=>by
  unfold Lib.indexByte CN;rw [w2q b r,At];cases g:c == b with
  | true=>rw [Af,Aa (Nat.succ_pos _)];rfl
  | false=>
   rw [Ab];by_cases h:CN b r<r.length
   .rw [Aa h,Aa (Nat.succ_lt_succ h),Af,Af,Az (by simp),Az (by simp)];rfl
   .rw [Ai h,Ai (show ¬CN b r+1<r.length+1 by omega)];rfl
def GI (s:List UInt8):Bool:=Cd (s.take (CN 91 s))&&(decide (CN 91 s=s.length)||(CY s (s.length - 1) == 93&&Ge ((s.drop (CN 91 s+1)).take (s.length - 1 - (CN 91 s+1)))))
theorem j0l (s:List UInt8):GI s=Vw s:=by
 have hix:C9 s [91]=bif decide (CN 91 s<s.length) then (CN 91 s:Int) else -1:=w2q 91 s;have hle:=v6w 91 s;unfold GI Vw;by_cases h:CN 91 s<s.length
 .rw [Aa h,Af] at hix;have e2:Je s [91]=true:=by unfold Je;rw [hix];exact Aa (by omega)
  have e0:Xf s [91]=s.take (CN 91 s):=by unfold Xf;rw [hix,Aa (show (0:Int)<=(CN 91 s:Int) by omega),Zj];rfl
  have e1:Wr s [91]=s.drop (CN 91 s+1):=by unfold Wr;rw [hix,Aa (show (0:Int)<=(CN 91 s:Int) by omega),Zj];rfl
  rw [Ai (show ¬CN 91 s=s.length by omega),Bh,e0,e2,Af]
  congr 1
  unfold C7 Zu EN;rw [e1];have hl:(s.drop (CN 91 s+1)).length =s.length - (CN 91 s+1):=Bk;rw [Le (show s.length - 1<s.length by omega)];by_cases g:CN 91 s+1<s.length
  .rw [Aa (show [(93:UInt8)].length <=(s.drop (CN 91 s+1)).length by rw [hl];show 1<=_;omega),Ar];have ed:(s.drop (CN 91 s+1)).drop ((s.drop (CN 91 s+1)).length - [(93:UInt8)].length)=[s[s.length - 1]'(by omega)]:=by rw [List.drop_drop,hl];show s.drop (CN 91 s+1+(s.length - (CN 91 s+1) - 1))=_;rw [show CN 91 s+1+(s.length - (CN 91 s+1) - 1)=s.length - 1 by omega,AW (show s.length - 1<s.length by omega),Aw (by omega)]
   rw [ed];have eb:([s[s.length - 1]'(by omega)] == [(93:UInt8)])=((((s[s.length - 1]'(by omega)).toNat :Nat):Int) == 93):=by
    rw [AS,AU,AU];constructor
    .intro q;rw [Bj] at q;rw [q.1];rfl
    .intro q;have:(s[s.length - 1]'(by omega))=93:=by apply UInt8.toNat_inj.1;show _=93;omega
     rw [this]
   rw [eb];cases ((((s[s.length - 1]'(by omega)).toNat :Nat):Int) == 93) with
   | false=>rfl
   | true=>
    rw [Ar,Ar,Af,hl]
    congr 2
    show _=s.length - (CN 91 s+1) - 1;omega
  .have e:s.length - 1=CN 91 s:=by omega
   have hq:(s[s.length - 1]'(by omega))=91:=by simp only [e];exact u8i 91 s h
   rw [hq,Ai (show ¬ [(93:UInt8)].length <=(s.drop (CN 91 s+1)).length by rw [hl];show ¬1<=_;omega)];rfl
 .have hn:CN 91 s=s.length:=by omega
  rw [Ai h,Ab] at hix;have e2:Je s [91]=false:=by unfold Je;rw [hix];rfl
  have e0:Xf s [91]=s:=by unfold Xf;rw [hix];rfl
  rw [e2,e0,hn,Aa rfl,List.take_length];rfl
theorem u6h {s d:List UInt8} {p:Nat} (hp:p<=s.length) (hd:d.length<=1000000): ∀(k i n:Nat),i+k=d.length->i<=4->n<10 ^ i->
  ∃N a b,Yw (Kw s) N (.to (.h1 (p:Int) d (n:Int) (i:Int)))=.ret [.str a,.int .i64 b,.bool (EP d&&GC (d.drop i))]
 | 0,i,n,h,h4,hn=>by
  have hs: ∀a b,∃N a' b',Yw (Kw s) N (.ret [.str a,.int .i64 b,.bool (EP d&&GC (d.drop i))])=.ret [.str a',.int .i64 b',.bool (EP d&&GC (d.drop i))]:=fun a b=>⟨0,a,b,rfl⟩
  rw [Aw (by omega)] at hs ⊢;have key: ∃a b,Kw s (.h1 (p:Int) d (n:Int) (i:Int))=.ret [.str a,.int .i64 b,.bool (EP d&&GC [])]:=by
   unfold Kw EP;simp only [Zj];rw [Yt (by omega),Ab,Aa (show d.length<=4 by omega),Ar,Zp (Aa (show (p:Nat)<=s.length from hp)),Zp (Aa (show (0:Int)<=(p:Int) by omega))];by_cases g0:1<=d.length
   .rw [P9 (by omega),Ab,Aa g0,Ar];by_cases g1:1<d.length
    .rw [Xv (by omega),Af,Zp (Ym (by omega)),Aa g1,Ar];cases CY d 0 == 48 with
     | true=>exact ⟨_,_,rfl⟩
     | false=>exact ⟨_,_,rfl⟩
    .rw [Wz (by omega),Ab,Ai g1];exact ⟨_,_,rfl⟩
   .rw [Lf (by omega),Af,Ai g0];exact ⟨_,_,rfl⟩
  obtain ⟨a,b,e⟩:=key;exact ⟨1,a,b,by rw [Zw,e];rfl⟩
 | k +1,i,n,h,h4,hn=>by
  have hi:i<d.length:=by omega
  have hc:=v3b d[i];have hpw:10 ^ i<=10 ^ 4:=Nat.pow_le_pow_right (by decide) (by omega);have w2:wrap .i64 ((i:Int)+1)=((i+1:Nat):Int):=Zm (by omega);rw [AW hi];have e:Kw s (.h1 (p:Int) d (n:Int) (i:Int))=bif digN d[i].toNat &&decide (i<=3) then .to (.h1 (p:Int) d ((10*n+(d[i].toNat - 48):Nat):Int) ((i+1:Nat):Int)) else .ret [.str [],.int .i64 0,.bool false]:=by
   unfold Kw digN;simp only [Zj,w2,Le hi];rw [Yb (by omega),Af,Zp (Ym (by omega))];generalize d[i].toNat =c at hc;by_cases h1:48<=c
   .rw [EK (by omega),Aa h1,Af];by_cases h2:c<=57
    .rw [Wc (by omega),Aa h2,Ay,Ab];by_cases h3:i<=3
     .rw [Wz (by omega),Aa h3,Ab,wu8 _ (by omega),Zm (n:=10*(n:Int)) (by omega),Zm (n:=(c:Int) - 48) (by omega),Zm (by omega)];show Xj.to _=Xj.to _
      congr 2
      omega
     .rw [Xv (by omega),Ai h3];rfl
    .rw [Fu (by omega),Ai h2];rfl
   .rw [F6 (by omega),Ai h1];rfl
  show∃N a b,Yw _ N _=.ret [_,_,.bool (EP d&&(digN d[i].toNat &&GC (d.drop (i+1))))];cases g:digN d[i].toNat with
  | false=>exact ⟨1,[],0,by rw [Zw,e,g,Bb,Ab,Zh,Bb,A7]⟩
  | true=>
   by_cases h3:i<=3
   .have g':(48<=d[i].toNat /\d[i].toNat <=57):=by unfold digN at g;rwa [Ad,Ak,Ak] at g
    obtain ⟨N,a,b,hN⟩:=u6h hp hd k (i+1) (10*n+(d[i].toNat - 48)) (by omega) (by omega) (by rw [Nat.pow_succ];omega);exact ⟨N+1,a,b,by rw [Zw,e,g,Aa h3,Bool.and_self,Af,hN,Ar]⟩
   .have e4:EP d=false:=by unfold EP;rw [Ai (show ¬d.length<=4 by omega),Bb,A7]
    exact ⟨1,[],0,by rw [Zw,e,g,Ai h3,A7,Ab,Zh,e4,Bb]⟩
theorem w5g {s:List UInt8} {p:Nat} (hp:p<=s.length) (hs:s.length<=1000000) {E:Xj GH}
  (hE:E=(bif decide (p<=s.length) then (bif decide (0<=(p:Int)) then (bif Um ((s.drop 0).take p) then (bif !(Cd ((s.drop 0).take p)) then (.ret [.str [],.int .i64 0,.bool false]) else (bif ((p:Int) == (s.length:Int)) then (.ret [.str s,.int .i64 (-1),.bool true]) else (bif decide (0<=wrap .i64 ((s.length:Int) - 1)/\wrap .i64 ((s.length:Int) - 1)<(s.length:Int)) then (bif (CY s (Int.toNat (wrap .i64 ((s.length:Int) - 1)))) != 93 then (.ret [.str [],.int .i64 0,.bool false]) else (bif decide (Int.toNat (wrap .i64 ((p:Int)+1))<=Int.toNat (wrap .i64 ((s.length:Int) - 1))) then (bif decide (Int.toNat (wrap .i64 ((s.length:Int) - 1))<=s.length) then (bif decide (0<=wrap .i64 ((p:Int)+1)) then (bif decide (0<=wrap .i64 ((s.length:Int) - 1)) then (.to (.h1 (p:Int) ((s.drop (Int.toNat (wrap .i64 ((p:Int)+1)))).take (Int.toNat (wrap .i64 ((s.length:Int) - 1)) - Int.toNat (wrap .i64 ((p:Int)+1)))) 0 0)) else .stuck) else .stuck) else .stuck) else .stuck)) else .stuck))) else .stuck) else .stuck) else .stuck))
  (hq:p<s.length->s[p]? =some 91):
  ∃N a b,Yw (Kw s) N E=.ret [.str a,.int .i64 b,.bool (Cd (s.take p)&&(decide (p=s.length)||(CY s (s.length - 1) == 93&&Ge ((s.drop (p+1)).take (s.length - 1 - (p+1))))))]:=by
 subst hE;have hpl:(s.take p).length <=1000000:=by rw [Bl];omega
 rw [Zp (Aa hp),Zp (Aa (show (0:Int)<=(p:Int) by omega)),AR,Zp (show Um (s.take p)=true from Aa hpl)];cases hn:Cd (s.take p) with
 | false=>exact ⟨0,[],0,rfl⟩
 | true=>
  rw [Ay,Ab,Ar];by_cases g:p=s.length
  .rw [Lf (by omega),Af,Aa g];exact ⟨0,_,_,rfl⟩
  .have wl:wrap .i64 ((s.length:Int) - 1)=((s.length - 1:Nat):Int):=by rw [Zm (by omega)];omega
   have wp:wrap .i64 ((p:Int)+1)=((p+1:Nat):Int):=Zm (by omega);rw [P9 (by omega),Ab,Ai g,Bh,wl,wp,Zj,Zj,Zp (Ym (by omega))];cases hb:CY s (s.length - 1) == 93 with
   | false=>rw [show (CY s (s.length - 1) != 93)=true by unfold bne;rw [hb];rfl,Af,Bb];exact ⟨0,[],0,rfl⟩
   | true=>
    have hne:p+1<=s.length - 1:=by
     rcases Ba (p+1) s.length with h | h
     .omega
     .exfalso;have hp1:p=s.length - 1:=(by omega);have h1:=hq (by omega);rw [hp1,As (by omega)] at h1;have h2:=Ag h1;rw [Le (show s.length - 1<s.length by omega),h2] at hb;revert hb;decide
    rw [show (CY s (s.length - 1) != 93)=false by unfold bne;rw [hb];rfl,Ab,Ar,Zp (Aa hne),Zp (Aa (show s.length - 1<=s.length by omega)),Zp (Aa (show (0:Int)<=((p+1:Nat):Int) by omega)),Zp (Aa (show (0:Int)<=((s.length - 1:Nat):Int) by omega))];obtain ⟨N,a,b,hN⟩:=u6h (s:=s) (d:=(s.drop (p+1)).take (s.length - 1 - (p+1))) hp (by rw [Bl,Bk];omega) ((s.drop (p+1)).take (s.length - 1 - (p+1))).length 0 0 (Al _) (by omega) (by decide);exact ⟨N,a,b,hN⟩
theorem u6i {s:List UInt8} (hs:s.length<=1000000): ∀(k i:Nat),i+k=s.length->i+CN 91 (s.drop i)=CN 91 s->
  ∃N a b,Yw (Kw s) N (.to (.h0 (i:Int)))=.ret [.str a,.int .i64 b,.bool (GI s)]
 | 0,i,h,hx=>by have hd:s.drop i=[]:=Aw (by omega);rw [hd] at hx;have hx:i=CN 91 s:=hx;obtain ⟨N,a,b,hN⟩:=w5g (s:=s) (p:=i) (by omega) hs rfl (fun hh=>absurd hh (by omega));refine ⟨N+1,a,b,?_⟩;rw [Zw];unfold Kw;simp only [Zj];rw [Yt (by omega),Ab];unfold GI;rw [<-hx];exact hN
 | k+1,i,h,hx=>by
  have hi:i<s.length:=by omega
  have hc:=v3b s[i];have w2:wrap .i64 ((i:Int)+1)=((i+1:Nat):Int):=Zm (by omega);rw [AW hi,CN] at hx;have hbb:((((s[i].toNat :Nat):Int)) != 91)= !(s[i] == 91):=by
   rw [show ((((s[i].toNat :Nat):Int)) != 91)= !((((s[i].toNat :Nat):Int)) == 91) from rfl]
   congr 1
   rw [AS,AU,AU];constructor
   .intro h;apply UInt8.toNat_inj.1;show s[i].toNat =91;omega
   .intro h;rw [h];rfl
  cases g:s[i] == 91 with
  | false=>
   rw [g,Ab] at hx;obtain ⟨N,a,b,hN⟩:=u6i hs k (i+1) (by omega) (by omega);refine ⟨N+1,a,b,?_⟩;have e:Kw s (.h0 (i:Int))=.to (.h0 ((i+1:Nat):Int)):=by unfold Kw;simp only [Zj,Le hi,w2];rw [Yb (by omega),Af,Zp (Ym (by omega)),hbb,g];rfl
   rw [Zw,e,hN]
  | true=>rw [g,Af] at hx;have hx:i=CN 91 s:=hx;obtain ⟨N,a,b,hN⟩:=w5g (s:=s) (p:=i) (by omega) hs rfl (fun _=>by rw [As hi,AU.1 g]);refine ⟨N+1,a,b,?_⟩;rw [Zw];unfold Kw;simp only [Zj];rw [Yb (by omega),Af,Zp (Ym (by omega)),Le hi,hbb,g,Ay,Ab];unfold GI;rw [<-hx];exact hN
def UG (s:List UInt8):Bool:=decide (s.length<=1000000)
def Pj (s:List UInt8):Bool:=Vw s
theorem j0k (s:List UInt8) (h:UG s=true): ∃N a b,Yw (Kw s) N (x2x s)=.ret [.str a,.int .i64 b,.bool (Pj s)]:=by unfold Pj;rw [<-j0l];exact u6i (Av h) s.length 0 (Al _) (Al _)
def OI :List B3->Option (B3×Bool)
 | [.str s]=>some (.tup [.undef,.undef,.bool (Pj s)],UG s)
 | _=>none
theorem j4d {S:B6} (hS:Zv prog S):Zv prog (S.with SV OI):=K8 hS (by kernel_rfl) fun args v h=>by
 unfold OI at h;split at h
 .rename_i s;simp only [Ae,Ac] at h;obtain ⟨rfl,ho⟩:=h;obtain ⟨N,a,b,hN⟩:=j0k s ho;exact ⟨_,[.str a,.int .i64 b,.bool (Pj s)],.cons (.refl _) .nil,fun ρ u hu=>u9m (cs:=[.str a,.int .i64 b,.bool (Pj s)]) (.cons (.undef _) (.cons (.undef _) (Ci.refl _))) ρ u hu,u0o s N _ hN,3,rfl⟩
 .cases h
def Ts :B6:=(Tt.with TF OS).with SV OI
theorem Qi :Zv prog Ts:=j4d (j4t Wy)
inductive Hu where
 | h0 (v3:List UInt8) (v4:Bool)
def NX (x0:List UInt8):Hu->CG
 | .h0 v3 v4=>⟨⟨20,0,true⟩,none,(Zf prog 121 [1,0,0] 0),none,[],⟨Ye [(0,(.yld 0)),(3,(.str v3)),(4,(.bool v4))],Eh [(1,⟨[(ii 0)],24,none⟩)],2,[],true⟩,[⟨⟨24,0,true⟩,none,(.inRangeFunc 0::(Zf prog 45 [1,1,0,1,0] 1)),none,(Zy prog 45),Ye [(2,(.ptr 1 0))]⟩],(Ff [(0,⟨.ready,none,24,Ye [(2,(.ptr 1 0))],[16],(DI prog 45 [1,1,0,1,0,0]),(DI prog 45 [1,1,0,1,0,1])⟩)])⟩
def KZ :List (Option (List Nat)):=[some [0,3,4],some [2]]
def K0 :List (Option (List Nat)):=[some [2],none]
def LO (x0:List UInt8):Hu->Xj Hu
 | .h0 v3 v4=>(bif v4 then (bif (Ki v3 ([47]:List UInt8)) then (bif (V8 (Xf v3 ([47]:List UInt8))) then (bif (!(Vw (Xf v3 ([47]:List UInt8)))) then (.ret [(.int .i64 12)]) else (.to (.h0 (Wr v3 ([47]:List UInt8)) (Je v3 ([47]:List UInt8))))) else .stuck) else .stuck) else (.ret [(.int .i64 0)]))
def VA (x0:List UInt8):Xj Hu:=(bif (decide ((x0.length:Int)>4000)) then (.ret [(.int .i64 4)]) else (bif (YU x0 ([47]:List UInt8)) then (bif (decide ((Oh x0 ([47]:List UInt8))>39)) then (.ret [(.int .i64 4)]) else (.to (.h0 x0 (!(x0 == ([]:List UInt8)))))) else .stuck))
theorem v0n (x0:List UInt8): ∀s,Wp prog (Zy prog 45) (NX x0) (NX x0 s) (LO x0 s)
 | .h0 v3 v4=>let b:=Zy prog 45;(lb (fun k0=>(lo fun aG=>(lo fun aU=>let a:=ww aU (ww aG (tt k0 nn));(lb (fun k1=>(Ys ⟨⟨24,0,true⟩,none,(.code .ret ::(Zf prog 45 [1,1,0,1,0] 1)),none,b,⟨Ye [(2,(.ptr 0 0))],Xs [⟨[(ii 12)],24,none⟩] 0,1,[],true⟩,[],.leaf⟩ (sl Qi 61 [] ⟨[1],[],[some [2]],[]⟩ b7 (CE 3 []) (tt k1 a)) rfl (by kernel_rfl))) (fun k1=>(sl Qi 60 [] ⟨[0,1],[],KZ,K0⟩ b7 (bl 3 1) (tt k1 a))))))) (fun k0=>(Ys ⟨⟨24,0,true⟩,none,(Zf prog 3 [1,1,1,1,1,1,0] 1),none,b,⟨Ye [(2,(.ptr 0 0))],Xs [⟨[(ii 0)],24,none⟩] 0,1,[],true⟩,[],.leaf⟩ (sl Qi 14 [] ⟨[1],[],[some [2]],[]⟩ b7 [false] (tt k0 nn)) rfl (by kernel_rfl))))
theorem w2f (x0:List UInt8):Wp prog (Zy prog 45) (NX x0) (Zg prog 45 [(.str x0)] true []) (VA x0):=let a:=Zf prog 45 [1,0,1,0,0] 1;let c:=Zy prog 45;(lb (fun k0=>(Ys ⟨⟨24,0,true⟩,none,a,none,c,⟨Ye [(2,(.ptr 0 0))],Xs [⟨[(ii 4)],24,none⟩] 0,1,[],true⟩,[],.leaf⟩ (sl Qi 21 [] ⟨[0],[],[some [2]],[]⟩ b7 (CE 4 []) (tt k0 nn)) rfl (by kernel_rfl))) (fun k0=>(lo fun aG=>let b:=ww aG (tt k0 nn);(lb (fun k1=>(Ys ⟨⟨24,0,true⟩,none,a,none,c,⟨Ye [(2,(.ptr 0 0))],Xs [⟨[(ii 4)],24,none⟩] 0,1,[],true⟩,[],.leaf⟩ (sl Qi 21 [] ⟨[0],[],[some [2]],[]⟩ b7 (bl 4 8) (tt k1 b)) rfl (by kernel_rfl))) (fun k1=>(sl Qi 41 [] ⟨[2,0],[],KZ,K0⟩ b7 (bl 4 0) (tt k1 b)))))))
theorem u3k (x0:List UInt8) (n:Nat) (vs:List B3) (h:Yw (LO x0) n (VA x0)=.ret vs):Kj prog (Zy prog 45) (Zg prog 45 [(.str x0)] true []) vs:=by have:=Ze (v0n x0) n _ (w2f x0);rwa [h] at this
inductive Hd where
 | h0 (v4:Int)
def M5 (x0:List UInt8):Hd->CG
 | .h0 v4=>⟨⟨33,0,true⟩,none,(Zf prog 50 [1,1,1,1,0,1,0,0] 0),none,(Zy prog 9),⟨Ye [(3,(.dat (Jz x0).length (Zz (Jz x0)))),(4,(ii v4))],Xs [] 0,0,[],true⟩,[],.leaf⟩
def Jl :List (Option (List Nat)):=[some [3,4]]
def KA :List (Option (List Nat)):=[]
def LS (x0:List UInt8):Hd->Xj Hd
 | .h0 v4=>(bif (decide (v4<(((Jz x0).length :Nat):Int))) then (bif ((decide (0<=v4/\v4<(((Jz x0).length :Nat):Int)))&&true) then (bif (UG (rd (Jz x0) v4.toNat)) then (bif (!(Pj (rd (Jz x0) v4.toNat))) then (.ret [(.int .i64 12)]) else (.to (.h0 (wrap .i64 (v4+1))))) else .stuck) else .stuck) else (.ret [(.int .i64 0)]))
def VM (x0:List UInt8):Xj Hd:=(bif (decide ((x0.length:Int)>4000)) then (.ret [(.int .i64 4)]) else (bif (Tz x0) then (bif (decide ((((Jz x0).length :Nat):Int)>40)) then (.ret [(.int .i64 4)]) else (.to (.h0 0))) else .stuck))
theorem w9e (x0:List UInt8): ∀s,Wp prog (Zy prog 50) (M5 x0) (M5 x0 s) (LS x0 s)
 | .h0 v4=>(lb (fun k0=>(lo fun aG=>(lo fun aU=>let a:=ww aU (ww aG (tt k0 nn));(lb (fun k1=>(lr 33 50 [1,1,1,1,0,1,0,0,1,0,0,1,1,0,0] 1 9 [(2,(ii 12))] (sl Qi 37 [] (b8 [2]) b7 (bl 2 3) (tt k1 a)))) (fun k1=>(sl Qi 41 [] ⟨[],[],Jl,KA⟩ b7 (bl 2 1) (tt k1 a))))))) (fun k0=>(lr 33 3 [1,1,1,1,1,1,0] 1 9 [(2,(ii 0))] (sl Qi 14 [] (b8 [2]) b7 [false] (tt k0 nn)))))
theorem w0p (x0:List UInt8):Wp prog (Zy prog 50) (M5 x0) (Zg prog 50 [(.str x0)] true []) (VM x0):=(lb (fun k0=>(lr 33 50 [1,0,1,0,0] 1 9 [(2,(ii 4))] (sl Qi 16 [] (b8 [2]) b7 [true] (tt k0 nn)))) (fun k0=>(lo fun aG=>let a:=ww aG (tt k0 nn);(lb (fun k1=>(lr 33 50 [1,1,1,0,1,0,0] 1 9 [(2,(ii 4))] (sl Qi 31 [] (b8 [2]) b7 (bl 2 2) (tt k1 a)))) (fun k1=>(sl Qi 35 [] ⟨[],[],Jl,KA⟩ b7 (bl 2 0) (tt k1 a)))))))
theorem u1c (x0:List UInt8) (n:Nat) (vs:List B3) (h:Yw (LS x0) n (VM x0)=.ret vs):Kj prog (Zy prog 50) (Zg prog 50 [(.str x0)] true []) vs:=by have:=Ze (w9e x0) n _ (w0p x0);rwa [h] at this
theorem u8g (b:UInt8) (s:List UInt8):Xf s [b]=s.take (CN b s)/\Wr s [b]=(bif decide (CN b s<s.length) then s.drop (CN b s+1) else [])/\Je s [b]=decide (CN b s<s.length):=by
 have hix:C9 s [b]=bif decide (CN b s<s.length) then (CN b s:Int) else -1:=w2q b s;have hle:=v6w b s;unfold Xf Wr Je;rw [hix];by_cases h:CN b s<s.length
 .rw [Aa h,Af,Aa (show (0:Int)<=(CN b s:Int) by omega),Zj];exact ⟨rfl,rfl,rfl⟩
 .rw [Ai h,Ab];refine ⟨?_,rfl,rfl⟩;rw [show CN b s=s.length by omega,List.take_length];rfl
theorem v8e (b:UInt8): ∀s,Xt b [] s=s.take (CN b s)::(bif decide (CN b s<s.length) then Xt b [] (s.drop (CN b s+1)) else [])
 | []=>rfl
 | c::r=>by
  cases g:c == b with
  | true=>
   have e:CN b (c::r)=0:=by unfold CN;rw [g];rfl
   rw [e,Xt,g,Af,At,Aa (Nat.succ_pos _)];rfl
  | false=>
   have e:CN b (c::r)=CN b r+1:=by rw [CN,g];rfl
   rw [e,Xt,g,Ab,UJ,v8e b r,At,show decide (CN b r+1<r.length+1)=decide (CN b r<r.length) by rw [AS,Ak,Ak];omega];rfl
theorem u4s (b:UInt8) (s:List UInt8):Xt b [] s=Xf s [b]::(bif Je s [b] then Xt b [] (Wr s [b]) else []):=by obtain ⟨e0,e1,e2⟩:=u8g b s;rw [v8e,e0,e1,e2];cases decide (CN b s<s.length) <;> rfl
theorem UK (b:UInt8): ∀s cur,(Xt b cur s).length =Lib.countByte s b+1
 | [],cur=>rfl
 | c::r,cur=>by
  unfold Xt Lib.countByte;rw [List.count_cons];cases g:c == b with
  | true=>rw [Af,At,UK b r];rfl
  | false=>rw [Ab,UK b r];rfl
def C6 (p:List UInt8):Int:=bif decide (4000<p.length) then 4 else bif decide (40<(Jz p).length) then 4 else bif (Jz p).all Vw then 0 else 12
def Jm (p:List UInt8):Bool:=decide (p.length<=1000000)
theorem u3l {s:List UInt8} {b:UInt8} (h:Je s [b]=true):(Wr s [b]).length <s.length:=by obtain ⟨e0,e1,e2⟩:=u8g b s;rw [e2] at h;rw [e1,h,Af,Bk];have:=Av h;omega
theorem u8f {x:List UInt8}: ∀(n:Nat) (s:List UInt8),s.length<=n->s.length<=1000000-> ∃N,Yw (LO x) N (.to (.h0 s true))=.ret [.int .i64 (bif (Xt 47 [] s).all Vw then 0 else 12)]
 | n,s,hn,hs=>by
  obtain ⟨k0,k1⟩:=v6s (s:=s) (sep:=[47]);have e:LO x (.h0 s true)=bif !(Vw (Xf s [47])) then .ret [.int .i64 12] else .to (.h0 (Wr s [47]) (Je s [47])):=by unfold LO;simp only [];rw [Af,Zp (show Ki s [47]=true by unfold Ki;rw [Aa hs];rfl),Zp (show V8 (Xf s [47])=true from Aa (by omega))]
  rw [u4s,List.all_cons];cases g:Vw (Xf s [47]) with
  | false=>exact ⟨1,by rw [Zw,e,g];rfl⟩
  | true=>
   cases g2:Je s [47] with
   | false=>have e2: ∀s',LO x (.h0 s' false)=.ret [.int .i64 0]:=fun s'=>rfl;exact ⟨2,by rw [Zw,e,g,g2,Ay,Ab,Zw,e2];rfl⟩
   | true=>
    have hl:=u3l g2
    match n with
    | 0=>omega
    | n+1=>obtain ⟨N,hN⟩:=u8f (x:=x) n (Wr s [47]) (by omega) (by omega);exact ⟨N+1,by rw [Zw,e,g,g2,Ay,Ab,hN,Af,Ar]⟩
theorem j3a (s:List UInt8) (h:Jm s=true): ∃N,Yw (LO s) N (VA s)=.ret [.int .i64 (C6 s)]:=by
 have hs:s.length<=1000000:=Av h;unfold VA C6;by_cases g:4000<s.length
 .rw [Xv (by omega),Aa g];exact ⟨0,rfl⟩
 .rw [Wz (by omega),Ai g,Ab,Ab,Zp (show YU s [47]=true from rfl)];have hc:Oh s [47]=((Lib.countByte s 47:Nat):Int):=rfl;have hk:=UK 47 s [];unfold Jz;cases s with
  | nil=>refine ⟨1,?_⟩;rfl
  | cons c r=>
   rw [show ((c::r) == ([]:List UInt8))=false from rfl,Ab,AD];by_cases g2:40<(Xt 47 [] (c::r)).length
   .rw [Aa g2,Xv (by omega)];exact ⟨0,rfl⟩
   .rw [Ai g2,Wz (by omega),Ab,Ab];exact u8f (c::r).length (c::r) (An _) hs
theorem u6s {x:List UInt8} (hs:x.length<=1000000): ∀(k i:Nat),i+k=(Jz x).length -> ∃N,Yw (LS x) N (.to (.h0 (i:Int)))=.ret [.int .i64 (bif ((Jz x).drop i).all Vw then 0 else 12)]
 | 0,i,h=>⟨1,by
  rw [Zw,Aw (by omega)];unfold LS;simp only [];rw [Yt (by omega)];rfl⟩
 | k+1,i,h=>by
  have hi:i<(Jz x).length :=by omega
  have hle:(Jz x).length <=1000001:=by
   unfold Jz;cases x == [] with
   | true=>exact AF _
   | false=>rw [Ab,UK];have:Lib.countByte x 47<=x.length:=List.count_le_length;omega
  have hp:(rd (Jz x) i).length <=1000000:=by
   rw [Wb hi];have hm:=A3 hi;revert hm;generalize (Jz x)[i]=p;unfold Jz;cases x == [] with
   | true=>intro hm;cases hm
   | false=>intro hm;have:=Ka 47 x [] p hm;simp at this;omega
  have w2:wrap .i64 ((i:Int)+1)=((i+1:Nat):Int):=Zm (by omega);obtain ⟨N,hN⟩:=u6s hs k (i+1) (by omega);have e:LS x (.h0 (i:Int))=bif !(Vw (rd (Jz x) i)) then .ret [.int .i64 12] else .to (.h0 ((i+1:Nat):Int)):=by unfold LS;simp only [Zj,w2];rw [Yb (by omega),Af,Aq,Zp (Ym (by omega)),Zp (show UG (rd (Jz x) i)=true from Aa hp)];rfl
  rw [Xx hi,List.all_cons];cases g:Vw (rd (Jz x) i) with
  | false=>exact ⟨1,by rw [Zw,e,g];rfl⟩
  | true=>exact ⟨N+1,by rw [Zw,e,g,Ay,Ab,hN,Ar]⟩
theorem j0w (s:List UInt8) (h:Jm s=true): ∃N,Yw (LS s) N (VM s)=.ret [.int .i64 (C6 s)]:=by
 have hs:s.length<=1000000:=Av h;unfold VM C6;by_cases g:4000<s.length
 .rw [Xv (by omega),Aa g];exact ⟨0,rfl⟩
 .rw [Wz (by omega),Ai g,Ab,Ab,Zp (show Tz s=true from h)];by_cases g2:40<(Jz s).length
  .rw [Aa g2,Xv (by omega)];exact ⟨0,rfl⟩
  .rw [Ai g2,Wz (by omega),Ab,Ab];exact u6s hs (Jz s).length 0 (Al _)
def FX :List B3->Option (B3×Bool)
 | [.str s]=>some (.int .i64 (C6 s),Jm s)
 | _=>none
theorem j4u {S:B6} (hS:Zv prog S):Zv prog (S.with TH FX):=CS hS (by kernel_rfl) fun args v h=>by
 unfold FX at h;split at h
 .rename_i s;simp only [Ae,Ac] at h;obtain ⟨rfl,ho⟩:=h;obtain ⟨N,hN⟩:=j3a s ho;exact ⟨_,_,.cons (.refl _) .nil,rfl,u3k s N _ hN,3,rfl⟩
 .cases h
theorem j4h {S:B6} (hS:Zv prog S):Zv prog (S.with S2 FX):=CS hS (by kernel_rfl) fun args v h=>by
 unfold FX at h;split at h
 .rename_i s;simp only [Ae,Ac] at h;obtain ⟨rfl,ho⟩:=h;obtain ⟨N,hN⟩:=j0w s ho;exact ⟨_,_,.cons (.refl _) .nil,rfl,u1c s N _ hN,3,rfl⟩
 .cases h
def Tr :B6:=(Ts.with TH FX).with S2 FX
theorem Ui :Zv prog Tr:=j4h (j4u Qi)
structure B5 where
 n:List UInt8
 (a t x y z:Int)
 s:List R6
instance : Xu B5 where
 w:=7
 d:=⟨[],0,0,0,0,0,[]⟩
 cells x:=[.str x.n,.int .i64 x.a,.int .u8 x.t,.int .i64 x.x,.int .i64 x.y,.int .i64 x.z,.dat x.s.length (Zz x.s)]
 of l:=⟨sOf (l.getD 0 .undef),Cn (l.getD 1 .undef),Cn (l.getD 2 .undef),Cn (l.getD 3 .undef),Cn (l.getD 4 .undef),Cn (l.getD 5 .undef),match l.getD 6 .undef with
  | .dat n g=>Cf R6 n g
  | _=>[]⟩
 len _:=rfl
 pos:=by decide
 flat _:=rfl
 sc _:=rfl
 back x:=by show B5.mk x.n x.a x.t x.x x.y x.z (Cf R6 x.s.length (Zz x.s))=x;rw [Zt]
theorem PW {pre:List B5} {nm:List UInt8} {a t x y z:Int} {sol:List R6}:Ue (pre.length+1) (CK.get (.one pre.length [.str nm,.int .i64 a,.int .u8 t,.int .i64 x,.int .i64 y,.int .i64 z,DW 6 6 0 sol.length sol.length (Zz sol)] (.flat (Zz pre)))) (Zz (pre++[⟨nm,a,t,x,y,z,sol⟩]))=true:=by
 refine Yh fun i hi=> ?_;simp only [CK.get,v7e];cases e:Nat.beq i pre.length with
 | true=>obtain rfl:=Ah e;rw [Af];unfold Zz;rw [YO (An _),Nat.sub_self];rfl
 | false=>
  have:i≠pre.length:=fun h=>by rw [h,BC] at e;cases e
  rw [Ab];unfold Zz;rw [z7f (by omega)]
theorem Wk {sz:Nat} {cells:List B3} (h:cells.length=sz) (h2:cells.all Cg=true):Kt sz 1 (fun k=>(cells.drop (k*sz)).take sz)=true:=Yh fun k hk=>by
 obtain rfl:k=0:=by omega
 have e:(cells.drop (0*sz)).take sz=cells:=by rw [Nat.zero_mul,AR,A9 (by omega)]
 show ((cells.drop (0*sz)).take sz).length =sz/\((cells.drop (0*sz)).take sz).all Cg=true;rw [e];exact ⟨h,h2⟩
theorem L7 {n r m m' b:Nat} {cap:Ec} {x0 x1 x2 x3 x4 x5:B3} {G:CK} (h:m=m'):DT n (CK.get (.one r [x0,x1,x2,x3,x4,x5,.sla b 6 0 m cap] G)) (CK.get (.one r [x0,x1,x2,x3,x4,x5,.sla b 6 0 m' cap] G))=true:=by subst h;exact Yh fun _ _=>Ci.refl _
theorem QH {pre:List B5} {b:Nat} {x0 x1 x2 x3 x4 x5:B3}:DT (pre.length+1) (Yx (fun k=>Zz pre (0+k)) pre.length (fun k=>([x0,x1,x2,x3,x4,x5,.nils].drop (k*7)).take 7)) (CK.get (.one pre.length [x0,x1,x2,x3,x4,x5,.sla b 6 0 ([]:List R6).length (.un 6)] (.flat (Zz pre))))=true:=by
 refine Yh fun i hi=> ?_;simp only [CK.get,Yx];cases e:Nat.beq i pre.length with
 | true=>obtain rfl:=Ah e;rw [A0 (An _),Af,Af,Nat.sub_self];exact .cons (.refl _) (.cons (.refl _) (.cons (.refl _) (.cons (.refl _) (.cons (.refl _) (.cons (.refl _) (.cons (.nils b 6 0 (.un 6)) .nil))))))
 | false=>
  have:i≠pre.length:=fun h=>by rw [h,BC] at e;cases e
  rw [show Nat.ble pre.length i=false from A8.2 fun e=>by have:=Aj e;omega,Ab,Ab,Al];exact Ci.refl _
theorem QT {G:Nat->List B3} {b:Nat} {x0 x1 x2 x3 x4 x5:B3}:DT 1 (Yx G 0 (fun k=>([x0,x1,x2,x3,x4,x5,.nils].drop (k*7)).take 7)) (CK.get (.one ([]:List B5).length [x0,x1,x2,x3,x4,x5,.sla b 6 0 ([]:List R6).length (.un 6)] (.flat (Zz ([]:List B5)))))=true:=by
 refine Yh fun i hi=> ?_;obtain rfl:i=0:=by omega
 exact .cons (.refl _) (.cons (.refl _) (.cons (.refl _) (.cons (.refl _) (.cons (.refl _) (.cons (.refl _) (.cons (.nils b 6 0 (.un 6)) .nil))))))
abbrev YM (v0:List (List UInt8)) (v2:Int) (v3:Int):=((v0.set (0+(tn v2)) (rd v0 (0+(tn v3)))).set (0+(tn v3)) (rd v0 (0+(tn v2))))
inductive GK where
 | h0 (aD:List (List UInt8)) (aI:Int)
 | h1 (v0:List (List UInt8)) (v2:Int) (v3:Int)
def Md (l0:List B5) (x1:Int):GK->CG
 | .h0 aD aI=>⟨⟨19,0,true⟩,none,(Zf prog 110 [0,0] 0),none,[],⟨Ye [(0,(.yld 0)),(1,(.ptr 2 0)),(2,(.ptr 3 0))],Eh [(1,⟨[(.sla 4 1 0 aD.length (.un 1))],70,none⟩),(2,⟨[(ii aI)],3,none⟩),(3,⟨[(.dat l0.length (Zz l0))],22,none⟩),(4,⟨rows aD.length (Zz aD),9,some ⟨1,aD.length,(Zz aD)⟩⟩)],5,[],true⟩,[⟨⟨20,0,true⟩,none,(.inRangeFunc 0::(Zf prog 36 [1,1,0,1,0] 1)),none,(Zy prog 3),Ye [(4,(.str [])),(5,(.ptr 1 0))]⟩],(Ff [(0,⟨.ready,none,20,Ye [(5,(.ptr 1 0))],[10],(DI prog 36 [1,1,0,1,0,0]),(DI prog 36 [1,1,0,1,0,1])⟩)])⟩
 | .h1 v0 v2 v3=>⟨⟨28,0,true⟩,none,(Zf prog 72 [1,0,0] 0),none,[],⟨Ye [(0,(.sla 0 1 0 v0.length (.un 1))),(2,(ii v2)),(3,(ii v3))],Xs [⟨rows v0.length (Zz v0),9,some ⟨1,v0.length,(Zz v0)⟩⟩,⟨[(.sla 0 1 0 v0.length (.un 1))],70,none⟩] 0,2,[],true⟩,[⟨⟨20,0,true⟩,(CV prog 36 [1,1,1,0] 1),(Zf prog 36 [1,1,1,0] 1),none,(Zy prog 3),Ye [(5,(.ptr 1 0)),(16,(.sla 0 1 0 v0.length (.un 1)))]⟩],.leaf⟩
def KK :List (Option (List Nat)):=[some [0,1,2],some [4,5]]
def KM :List (Option (List Nat)):=[some [5],none,none,none,none]
def KJ :List (Option (List Nat)):=[some [0,2,3],some [5,16]]
def KL :List (Option (List Nat)):=[]
def F5 (l0:List B5) (x1:Int):GK->Xj GK
 | .h0 aD aI=>(bif (decide (aI>=0)) then (bif (Nat.beq 1 1&&((decide (0+aD.length=aD.length))&&decide ((aD.length+1+1)*(16+1)<=Ve))) then (bif ((decide (0<=aI/\aI<(l0.length:Int)))&&true) then (.to (.h0 (aD++[(rd l0 aI.toNat).n]) (rd l0 aI.toNat).a)) else .stuck) else .stuck) else (.to (.h1 aD 0 (wrap .i64 ((aD.length:Int) - 1)))))
 | .h1 v0 v2 v3=>(bif (decide (v2<v3)) then (bif ((decide (0<=v2/\v2<(v0.length:Int)))&&true) then (bif (decide ((0+v2.toNat)<v0.length)) then (bif ((decide (0<=v3/\v3<(v0.length:Int)))&&true) then (bif (decide ((0+v3.toNat)<v0.length)) then (.to (.h1 ((v0.set (0+v2.toNat) (rd v0 (0+v3.toNat))).set (0+v3.toNat) (rd v0 (0+v2.toNat))) (wrap .i64 (v2+1)) (wrap .i64 (v3 - 1)))) else .stuck) else .stuck) else .stuck) else .stuck) else (bif (Nat.beq 1 1&&(decide (0+v0.length<=v0.length)&&DB (Zz v0))) then (bif (PP (Cf (List UInt8) (v0.length) (fun k=>(Zz v0) (0+k))) ([47]:List UInt8)) then (.ret [(.str (N9 (Cf (List UInt8) (v0.length) (fun k=>(Zz v0) (0+k))) ([47]:List UInt8)))]) else .stuck) else .stuck))
def VG (l0:List B5) (x1:Int):Xj GK:=(.to (.h0 ([]:List (List UInt8)) x1))
theorem w9o (l0:List B5) (x1:Int): ∀s,Wp prog (Zy prog 36) (Md l0 x1) (Md l0 x1 s) (F5 l0 x1 s)
 | .h0 aD aI=>(lb (fun k0=>(lo fun o0=>(lo fun o1=>let a:=xL (aD.length+1) (aD++[(rd l0 (tn aI)).n]).length;let b:=aD++[(rd l0 (tn aI)).n];(sl Ui 43 [] ⟨[0,1,2,3,7],[],KK,KM⟩ ⟨[],[.keep,.cells [.len b.length],.keep,.keep,.rowed 1 b.length (Zz b)],[]⟩ (CE 7 []) (pp a (pp a (pp (xS (aD.length+1) (Zo (Zz aD) 0 aD.length 1 [(.str (rd l0 (tn aI)).n)]) (Zz (aD++[(rd l0 (tn aI)).n]))) (pp (pp (xF (Zo (Zz aD) 0 aD.length 1 [(.str (rd l0 (tn aI)).n)])) nn) (ww o1 (ww o0 (ww o1 (tt k0 nn)))))))))))) (fun k0=>(sl Ui 33 [] ⟨[4,1],[],KJ,KL⟩ b7 (bl 7 0) (pp (fl aD nn) (tt k0 nn)))))
 | .h1 v0 v2 v3=>(lb (fun k0=>(lo fun o0=>(lo fun o1=>(lo fun o2=>(lo fun o3=>let a:=xL v0.length (YM v0 v2 v3).length;let b:=YM v0 v2 v3;(sl Ui 22 [] ⟨[0,1],[],KJ,KL⟩ ⟨[(0,.len b.length)],[.rowed 1 b.length (Zz b),.cells [.len b.length]],[[(16,.len b.length)]]⟩ [true] (pp a (pp a (pp (xS v0.length (Xw (Xw (Zz v0) (0+(tn v2)) 0 [(.str (rd v0 (0+(tn v3))))]) (0+(tn v3)) 0 [(.str (rd v0 (0+(tn v2))))]) (Zz (YM v0 v2 v3))) (pp a (pp a (pp (pp (xF (Xw (Xw (Zz v0) (0+(tn v2)) 0 [(.str (rd v0 (0+(tn v3))))]) (0+(tn v3)) 0 [(.str (rd v0 (0+(tn v2))))])) nn) (ww o3 (ww o2 (ww o1 (ww o0 (ww o1 (ww o0 (ww o3 (ww o2 (tt k0 nn))))))))))))))))))))) (fun k0=>(lo fun o0=>(lo fun o1=>(lr 20 3 [1,1,1,1,1,1,0] 1 3 [(4,(.str (N9 (Cf (List UInt8) (v0.length) (fun k=>(Zz v0) (0+k))) ([47]:List UInt8))))] (sl Ui 17 [] (b8 [4]) b7 [false] (pp (pp (pp (xw o0) (pp nn nn)) (pp (xI (List UInt8) (v0.length) (fun k=>(Zz v0) (0+k))) (xw o1))) (tt k0 nn))))))))
theorem w1i (l0:List B5) (x1:Int):Wp prog (Zy prog 36) (Md l0 x1) (Zg prog 36 [(.dat l0.length (Zz l0)),(.int .i64 x1)] true []) (VG l0 x1):=(sl Ui 31 [(9,1,Zz ([]:List (List UInt8)))] ⟨[3,0,2,1,4],[],KK,KM⟩ ⟨[],[.keep,.cells [.grow 4 1],.keep,.keep,.keep],[]⟩ [] (pp (fl ([]:List (List UInt8)) nn) nn))
theorem u1z (l0:List B5) (x1:Int) (n:Nat) (vs:List B3) (h:Yw (F5 l0 x1) n (VG l0 x1)=.ret vs):Kj prog (Zy prog 36) (Zg prog 36 [(.dat l0.length (Zz l0)),(.int .i64 x1)] true []) vs:=by have:=Ze (w9o l0 x1) n _ (w1i l0 x1);rwa [h] at this
inductive Hb where
 | h0 (v5:List UInt8) (v6:Int)
def M1 (l0:List B5) (x1:Int):Hb->CG
 | .h0 v5 v6=>⟨⟨33,0,true⟩,none,(Zf prog 39 [1,1,0,1,0,0] 0),none,(Zy prog 3),⟨Ye [(0,(.dat l0.length (Zz l0))),(5,(.str v5)),(6,(ii v6))],Xs [] 0,0,[],true⟩,[],.leaf⟩
def J8 :List (Option (List Nat)):=[some [0,5,6]]
def J9 :List (Option (List Nat)):=[]
def LU (l0:List B5) (x1:Int):Hb->Xj Hb
 | .h0 v5 v6=>(bif (decide (v6>=0)) then (bif (Py (rd l0 v6.toNat).n ([47]:List UInt8)) then (bif (Py ((rd l0 v6.toNat).n ++([47]:List UInt8)) v5) then (bif ((decide (0<=v6/\v6<(l0.length:Int)))&&true) then (.to (.h0 (((rd l0 v6.toNat).n ++([47]:List UInt8))++v5) (rd l0 v6.toNat).a)) else .stuck) else .stuck) else .stuck) else (.ret [(.str v5)]))
def VO (l0:List B5) (x1:Int):Xj Hb:=(bif ((decide (0<=x1/\x1<(l0.length:Int)))&&true) then (.to (.h0 (rd l0 x1.toNat).n (rd l0 x1.toNat).a)) else .stuck)
theorem w8z (l0:List B5) (x1:Int): ∀s,Wp prog (Zy prog 39) (M1 l0 x1) (M1 l0 x1 s) (LU l0 x1 s)
 | .h0 v5 v6=>(lb (fun k0=>(lo fun o0=>(lo fun o1=>(lo fun o2=>(sl Ui 31 [] ⟨[],[],J8,J9⟩ b7 [true] (ww o2 (ww o1 (ww o0 (ww o2 (tt k0 nn)))))))))) (fun k0=>(lr 33 3 [1,1,1,1,1,1,0] 1 3 [(4,(.str v5))] (sl Ui 13 [] (b8 [4]) b7 [false] (tt k0 nn)))))
theorem w0l (l0:List B5) (x1:Int):Wp prog (Zy prog 39) (M1 l0 x1) (Zg prog 39 [(.dat l0.length (Zz l0)),(.int .i64 x1)] true []) (VO l0 x1):=(lo fun o0=>(sl Ui 25 [] ⟨[],[],J8,J9⟩ b7 [] (ww o0 (ww o0 nn))))
theorem u0u (l0:List B5) (x1:Int) (n:Nat) (vs:List B3) (h:Yw (LU l0 x1) n (VO l0 x1)=.ret vs):Kj prog (Zy prog 39) (Zg prog 39 [(.dat l0.length (Zz l0)),(.int .i64 x1)] true []) vs:=by have:=Ze (w8z l0 x1) n _ (w0l l0 x1);rwa [h] at this
inductive GQ where
 | h0 (v3:Int)
def Nk (l0:List B5):GQ->CG
 | .h0 v3=>⟨⟨43,0,true⟩,none,(Zf prog 9 [1,0,1,0,0] 0),none,(Zy prog 9),⟨Ye [(0,(.dat l0.length (Zz l0))),(3,(ii v3))],Xs [] 0,0,[],true⟩,[],.leaf⟩
def K4 :List (Option (List Nat)):=[some [0,3]]
def K5 :List (Option (List Nat)):=[]
def LN (l0:List B5):GQ->Xj GQ
 | .h0 v3=>(bif (decide (v3<(l0.length:Int))) then (bif (decide (v3<300)) then (bif ((decide (0<=v3/\v3<(l0.length:Int)))&&true) then (bif (decide ((((rd l0 v3.toNat).s.length :Nat):Int)>12)) then (.ret [(.bool true)]) else (bif (decide ((((rd l0 v3.toNat).n.length :Nat):Int)>500)) then (.ret [(.bool true)]) else (.to (.h0 (wrap .i64 (v3+1)))))) else .stuck) else (bif (decide ((l0.length:Int)>12)) then (bif (decide ((l0.length:Int)<=200)) then (.ret [(.bool true)]) else (.ret [(.bool (decide ((l0.length:Int)>220)))])) else (.ret [(.bool (decide ((l0.length:Int)>220)))]))) else (bif (decide ((l0.length:Int)>12)) then (bif (decide ((l0.length:Int)<=200)) then (.ret [(.bool true)]) else (.ret [(.bool (decide ((l0.length:Int)>220)))])) else (.ret [(.bool (decide ((l0.length:Int)>220)))])))
def x4e (l0:List B5):Xj GQ:=(.to (.h0 0))
theorem v0x (l0:List B5): ∀s,Wp prog (Zy prog 9) (Nk l0) (Nk l0 s) (LN l0 s)
 | .h0 v3=>let a:=decide ((l0.length:Int)>220);(lb (fun k0=>(lb (fun k1=>(lo fun bJ=>let b:=ww bJ (tt k1 (tt k0 nn));(lb (fun k2=>(lr 43 9 [1,0,1,0,0,1,0,0,1,0,0] 1 9 [(2,(.bool true))] (sl Ui 40 [] (b8 [2]) b7 (CE 11 []) (tt k2 b)))) (fun k2=>let e:=ww bJ (tt k2 b);(lb (fun k3=>(lr 43 9 [1,0,1,0,0,1,0,0,1,0,0] 1 9 [(2,(.bool true))] (sl Ui 40 [] (b8 [2]) b7 (CE 3 (bl 8 128)) (tt k3 e)))) (fun k3=>(sl Ui 44 [] ⟨[],[],K4,K5⟩ b7 (CE 3 (bl 8 0)) (tt k3 e)))))))) (fun k1=>let c:=tt k1 (tt k0 nn);(lb (fun k2=>(lb (fun k3=>(lr 43 3 [1,1,1,1,1,1,0] 1 9 [(2,(.bool true))] (sl Ui 31 [] (b8 [2]) b7 (bl 9 507) (tt k3 (tt k2 c))))) (fun k3=>(lr 43 3 [1,1,1,1,1,1,0] 1 9 [(2,(.bool a))] (sl Ui 31 [] (b8 [2]) b7 (bl 9 59) (tt k3 (tt k2 c))))))) (fun k2=>(lr 43 3 [1,1,1,1,1,1,0] 1 9 [(2,(.bool a))] (sl Ui 31 [] (b8 [2]) b7 (bl 9 3) (tt k2 c)))))))) (fun k0=>(lb (fun k1=>let d:=tt k1 (tt k0 nn);(lb (fun k2=>(lr 43 3 [1,1,1,1,1,1,0] 1 9 [(2,(.bool true))] (sl Ui 31 [] (b8 [2]) b7 (bl 9 504) (tt k2 d)))) (fun k2=>(lr 43 3 [1,1,1,1,1,1,0] 1 9 [(2,(.bool a))] (sl Ui 31 [] (b8 [2]) b7 (bl 9 56) (tt k2 d)))))) (fun k1=>(lr 43 3 [1,1,1,1,1,1,0] 1 9 [(2,(.bool a))] (sl Ui 31 [] (b8 [2]) b7 (bl 9 0) (tt k1 (tt k0 nn))))))))
theorem w2y (l0:List B5):Wp prog (Zy prog 9) (Nk l0) (Zg prog 9 [(.dat l0.length (Zz l0))] true []) (x4e l0):=(sl Ui 11 [] ⟨[],[],K4,K5⟩ b7 [] nn)
theorem u3v (l0:List B5) (n:Nat) (vs:List B3) (h:Yw (LN l0) n (x4e l0)=.ret vs):Kj prog (Zy prog 9) (Zg prog 9 [(.dat l0.length (Zz l0))] true []) vs:=by have:=Ze (v0x l0) n _ (w2y l0);rwa [h] at this
end Go.Am
end
