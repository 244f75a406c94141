/- A part of a proof: several texts in one. -/
import Derived.Test.YtmfdjaegajdggaaDoorMa3
set_option maxRecDepth 1000000
set_option maxHeartbeats 8000000
set_option linter.unusedVariables false
set_option linter.unusedSimpArgs false
noncomputable section
namespace Go.Am
open IntKind (wrap)
open Go.Proofs.Tryd
open Go.Proofs Go.Sort Go.Shelf Go.RowKit Go.Lib
def y4u (s:List UInt8):List AVal:=pmsE (decide ((y7c s).2=0)) (y7c s).1 (y7c s).2
def x0b (L:List R7) (o:Option (List R7)):List AVal:=match o with
 | none=>[.nils,.int .i64 12]
 | some M=>bif Vh (L++M) != 0 then [.nils,.int .i64 (Vh (L++M))] else [.dat (L++M).length (Zz (L++M)),.int .i64 0]
def z6y :List (List UInt8)→Option R7
 | w::r=>bif decide (w=z1q)&&decide (r.length=7) then (Vn r).bind quadL else none
 | []=>none
theorem Jd (w:List UInt8) (r:List (List UInt8)):z6y (w::r)=bif decide (w=z1q)&&decide (r.length=7) then (Vn r).bind quadL else none:=rfl
theorem z4t (x:List UInt8):z6o x=z6y (Xe 32 [] x):=by
 unfold z6o z6y;cases Xe 32 [] x with
 | nil=>rfl
 | cons w r=>
  have h:(match Vn r with
   | some l=>quadL l
   | none=>none)=(Vn r).bind quadL:=by cases Vn r <;> rfl
  show (bif _ then (match Vn r with
   | some l=>quadL l
   | none=>none) else none)=bif _ then (Vn r).bind quadL else none
  rw [h]
def x7b :Option (List R7)→List R7×Int
 | none=>([],12)
 | some L=>bif Vh L != 0 then ([],Vh L) else (L,0)
theorem z0q (L:List R7):x7b (some L)=bif Vh L != 0 then ([],Vh L) else (L,0):=rfl
theorem y9v (a b c d e f g:Int):(some [a,b,c,d,e,f,g]).bind quadL=bif decide (0≤a)&&decide (a≤5) then some ⟨a,b,c,d,e,f,g⟩ else none:=rfl
theorem z4e (s:List UInt8):y7c s=bif decide (60000<s.length) then ([],4) else x7b ((Qm s).bind Xd):=by
 unfold y7c;cases Qm s with
 | none=>rfl
 | some ls=>
  show (bif _ then _ else (match Xd ls with
   | none=>(([]:List R7),(12:Int))
   | some L=>bif Vh L != 0 then ([],Vh L) else (L,0)))=bif _ then _ else x7b (Xd ls)
  cases Xd ls <;> rfl
theorem cut32 (x:List UInt8):Zw x 32=Xe 32 [] x:=rfl
theorem x4s (x:List UInt8):Zw x 10=Xe 10 [] x:=rfl
theorem x0n {α:Type} [Wk α] (l:List α):lst α l.length (fun k=>Zz l (0+k))=l:=by rw [y0d,z8i (by omega),A9,List.take_length]
theorem x3z {α:Type} [Wk α] (l:List α) (h:1≤l.length):lst α (l.length - 1) (fun k=>Zz l (1+k))=l.drop 1:=by rw [y0d,z8i (by omega),AT (by rw [List.length_drop];omega)]
theorem x2t {s:List UInt8} {out:List R7} {i:Nat} (hs:s.length≤100000) (hi:i+1<(Xe 10 [] s).length) (ho:out.length≤i):
  Kb s (.h0 out (i:Int))=match z6o (rd (Xe 10 [] s) i) with
   | none=>.ret [.nils,.int .i64 12]
   | some r=>.to (.h0 (out++[r]) ((i+1:Nat):Int)):=by
 have hcl:=Wz 10 s [];have w2:wrap .i64 ((i:Int)+1)=((i+1:Nat):Int):=Xi (by omega);have hpl:(rd (Xe 10 [] s) i).length ≤s.length:=by
  have:=Uu 10 s [] (rd (Xe 10 [] s) i) (by rw [Uj (by omega)];exact AE _)
  simpa using this
 have k1:decide (((i+1:Nat):Int)<(((Zw s 10).length :Nat):Int))=true:=by rw [x4s];exact z2a (by omega)
 have k2:(decide (0≤(i:Int)∧(i:Int)<(((Zw s 10).length :Nat):Int))&&true)=true:=by rw [x4s,Bn];exact z6q (by omega)
 have hx:rd (Xe 10 [] s) i=rd (Zw s 10) i:=rfl;rw [hx] at hpl ⊢;unfold Kb;simp only [Vg,w2];rw [Zp k1,Zp k2];generalize rd (Zw s 10) i=x at hpl ⊢;have hne:=z5m 32 x [];have hxl:=Wz 32 x [];have hpc: ∀p,p∈Xe 32 [] x→p.length≤x.length:=fun p hp=>by have:=Uu 32 x [] p hp;simpa using this
 rw [z4t];rw [Zp (show Vw x 32=true by unfold Vw;rw [Ah (show x.length≤1000000 by omega)];rfl)];rw [←cut32] at hne hxl hpc ⊢;generalize Zw x 32=ws at hne hxl hpc ⊢
 match ws,hne with
 | w ::r,_=>
  have hrl:r.length≤x.length:=by rw [Al] at hxl;omega
  rw [Zp (show decide (1≤(w::r).length)=true from Ah (by rw [Al];omega)),Zp (show decide ((w::r).length ≤(w::r).length)=true from Ah (Aj _))];rw [x3z (w::r) (by rw [Al];omega),List.drop_succ_cons,A9];have hro:Ju r 7=true:=by unfold Ju;rw [Ad,Aq];refine ⟨by omega,Aw.2 fun p hp=>Ah ?_⟩;have:=hpc p (List.mem_cons_of_mem _ hp);omega
  have k3:(decide ((0:Int)≤0∧0<(((w::r).length :Nat):Int))&&true)=true:=by rw [Bn];exact Ah ⟨Int.le_refl _,by rw [Al];omega⟩
  rw [Zp hro,Zp k3];have hw:(rd (w::r) 0 == ([113,117,97,100]:List UInt8))=decide (w=z1q):=by rw [AV];show ((w == [113,117,97,100])=true)↔_;rw [Ba,Aq];rfl
  rw [hw,Jd];cases g1:decide (w=z1q) with
  | false=>rfl
  | true=>
   rw [Bf,Ai,A2];unfold y4p Za x6p;have h7:decide ((r.length:Int)=7)=decide (r.length=7):=by rw [AV];simp;omega
   rw [y0a,h7];cases g2:decide (r.length=7) with
   | false=>rfl
   | true=>
    have g2:r.length=7:=Ax g2;rw [A2,Ap];cases g3:r.all Vp with
    | false=>rfl
    | true=>
     simp only [Bf,Ai,Ap]
     match r,g2 with
     | [a,b,c,d,e,f,g],_=>
      have hr:(Nat.beq 7 7&&((decide (0+out.length=out.length))&&decide ((out.length+1+1)*(56+1)≤Vt)))=true:=y1z (by omega);simp only [AX,List.map_nil,Al,Az];show (bif decide (Yc a<0) then _ else bif decide (Yc a>5) then _ else _)=_;rw [y9v];by_cases k1:Yc a<0
      ·rw [z2a k1,Ak (show ¬0≤Yc a by omega)];rfl
      ·rw [z3a k1,Ah (show 0≤Yc a by omega),Ai];by_cases k2:Yc a>5
       ·rw [z5j k2,Ak (show ¬Yc a≤5 by omega)];rfl
       ·rw [z6r k2,Ah (show Yc a≤5 by omega),Ai];have w8a:wrap .u8 (Yc a)=Yc a:=w8 _ (by omega);have r0:rd [Yc a,Yc b,Yc c,Yc d,Yc e,Yc f,Yc g] 0=Yc a:=rfl;rw [r0,w8a,hr];rfl
theorem x5l {s:List UInt8} (hs:s.length≤100000): ∀(k i:Nat) (out:List R7),i+k+1=(Xe 10 [] s).length →out.length≤i→Yk out=true→
  ∃N,goOn (Kb s) N (.to (.h0 out (i:Int)))=.ret (x0b out (Xd ((Xe 10 [] s).dropLast.drop i)))
 | 0,i,out,h,ho,hm=>by
  have hcl:=Wz 10 s [];have w2:wrap .i64 ((i:Int)+1)=((i+1:Nat):Int):=Xi (by omega);refine ⟨1,?_⟩;have e:Kb s (.h0 out (i:Int))=bif Vh out != 0 then .ret [.nils,.int .i64 (Vh out)] else .ret [.dat out.length (Zz out),.int .i64 0]:=by
   unfold Kb;simp only [w2,x4s];rw [z3a (by omega),Ai];have hf:(Nat.beq 7 7&&(decide (0+out.length≤out.length)&&Um (Zz out)))=true:=by rw [Ad,Ad];exact ⟨rfl,Ah (by omega),Uv _⟩
   rw [Zp hf,x0n,Zp (show Jg out=true from hm)];rfl
  rw [Zf,e,AH (by rw [List.length_dropLast];omega)];unfold x0b Xd;simp only [Bq];cases Vh out != 0 <;> rfl
 | k+1,i,out,h,ho,hm=>by
  have hi:i+1<(Xe 10 [] s).length :=by omega
  have hid:i<(Xe 10 [] s).dropLast.length :=by rw [List.length_dropLast];omega
  have er:rd (Xe 10 [] s) i=rd (Xe 10 [] s).dropLast i:=by rw [Uj (by omega),Uj hid,List.getElem_dropLast]
  rw [Kw hid,←er];have e:=x2t hs hi ho;cases g:z6o (rd (Xe 10 [] s) i) with
  | none=>rw [g] at e;refine ⟨1,?_⟩;rw [Zf,e];unfold Xd;rw [g];rfl
  | some r=>
   rw [g] at e;have hr:=z1u g;obtain ⟨N,hN⟩:=x5l hs k (i+1) (out++[r]) (by omega) (by rw [Ao,AC];omega) (by
    unfold Yk at hm ⊢;rw [List.all_append,hm,A5,Ah hr.1,Ah (by omega)];rfl)
   refine ⟨N+1,?_⟩;rw [Zf,e];show goOn _ N (.to _)=_;rw [hN]
   congr 1
   rw [Xd,g];cases Xd ((Xe 10 [] s).dropLast.drop (i+1)) with
   | none=>rfl
   | some M=>show x0b (out++[r]) (some M)=x0b out (some (r::M));unfold x0b;simp only [AK];rfl
def Zd (s:List UInt8):List R7:=(y7c s).1
def Xr (s:List UInt8):Int:=(y7c s).2
def Wg (s:List UInt8):Bool:=decide (s.length≤100000)
theorem x0a {s:List UInt8} {ls:List (List UInt8)} (h: ¬60000<s.length) (hr:Qm s=some ls):x0b [] (Xd ls)=y4u s:=by
 have e:y7c s=x7b (Xd ls):=by rw [z4e,Ak h,Ai,hr];rfl
 unfold y4u;rw [e];cases Xd ls with
 | none=>rfl
 | some L=>
  by_cases g:Vh L=0
  ·have e1:x7b (some L)=(L,0):=by rw [z0q,ne_f g];rfl
   rw [e1];show (bif Vh L != 0 then _ else _)=_;rw [ne_f g];rfl
  ·have e1:x7b (some L)=([],Vh L):=by rw [z0q,ne_t g];rfl
   rw [e1];show (bif Vh L != 0 then _ else _)=pmsE (decide (Vh L=0)) [] (Vh L);rw [ne_t g,Ak g];rfl
theorem x6q (s:List UInt8) (h:Wg s=true): ∃N,goOn (Kb s) N (Qv s)=.ret (y4u s):=by
 have hs:s.length≤100000:=Ax h;by_cases g:60000<s.length
 ·refine ⟨0,?_⟩;unfold Qv y4u y7c;rw [z5j (by omega),Ah g];rfl
 ·have hcl:=Wz 10 s [];have hne:=z5m 10 s [];have hpos:1≤(Xe 10 [] s).length :=by
   cases hc:Xe 10 [] s with
   | nil=>exact absurd hc hne
   | cons a l=>rw [Al];omega
  have w:wrap .i64 (((Xe 10 [] s).length :Int) - 1)=(((Xe 10 [] s).length - 1:Nat):Int):=by rw [Xi (by omega)];omega
  have dN:(Xe 10 [] s).getLast? =some (rd (Xe 10 [] s) ((Xe 10 [] s).length - 1)):=by rw [Uj (by omega),List.getLast?_eq_getElem?,An (by omega)]
  have e:Qv s=bif !(rd (Xe 10 [] s) ((Xe 10 [] s).length - 1) == ([]:List UInt8)) then .ret [.nils,.int .i64 12] else .to (.h0 [] 0):=by
   have wq:wrap .i64 (((Zw s 10).length :Int) - 1)=(((Xe 10 [] s).length - 1:Nat):Int):=w;have kq:(decide (0≤wrap .i64 (((Zw s 10).length :Int) - 1)∧wrap .i64 (((Zw s 10).length :Int) - 1)<(((Zw s 10).length :Nat):Int))&&true)=true:=by rw [Bn,wq,x4s];exact z6q (by omega)
   unfold Qv;rw [z6r (by omega),Ai,Zp (show Vw s 10=true by unfold Vw;rw [Ah (show s.length≤1000000 by omega)];rfl),Zp kq,wq,Vg];rfl
  rw [e];cases hl:rd (Xe 10 [] s) ((Xe 10 [] s).length - 1) with
  | nil=>
   rw [hl] at dN;have hr:Qm s=some (Xe 10 [] s).dropLast :=by unfold Qm;rw [dN]
   obtain ⟨N,hN⟩:=x5l hs ((Xe 10 [] s).length - 1) 0 [] (by omega) (Aj _) rfl;refine ⟨N,?_⟩;rw [←x0a g hr];exact hN
  | cons c t=>
   rw [hl] at dN;have hr:Qm s=none:=by unfold Qm;rw [dN]
   refine ⟨0,?_⟩;unfold y4u y7c;rw [Ak g,Ai,hr];rfl
def fRpm :List AVal→Option (AVal×Bool)
 | [.str s]=>some (.tup [.dat (Zd s).length (Zz (Zd s)),.int .i64 (Xr s)],Wg s)
 | _=>none
theorem x3l (s:List UInt8):Xr s≠0→Zd s=[]:=by
 unfold Xr Zd;rw [z4e];cases decide (60000<s.length) with
 | true=>exact fun _=>rfl
 | false=>
  rw [Ai];cases (Qm s).bind Xd with
  | none=>exact fun _=>rfl
  | some L=>
   rw [z0q];cases Vh L != 0 with
   | true=>exact fun _=>rfl
   | false=>exact fun h=>absurd rfl h
theorem y9z (s:List UInt8) (ρ:Rho) (u:Value) (h:Zj ρ (Uq (y4u s)) u):Zj ρ (.tup [.dat (Zd s).length (Zz (Zd s)),.int .i64 (Xr s)]) u:=by
 unfold y4u at h;by_cases g:(y7c s).2=0
 ·rw [Ah g] at h;exact h
 ·rw [Ak g] at h;rw [x3l s g];exact y8z (.cons (y2s R7) (RLe.refl _)) ρ u h
theorem y9y (s:List UInt8):pf 3 (Uq (y4u s))=true:=by unfold y4u pmsE;cases decide ((y7c s).2=0) <;> rfl
theorem x7t {S:Specs} (hS:Zk prog S):Zk prog (S.with rpmN fRpm):=fTwo hS (by kernel_rfl) fun args v h=>by
 unfold fRpm at h;split at h
 ·rename_i s;simp only [Ab,Aa] at h;obtain ⟨rfl,ho⟩:=h;obtain ⟨N,hN⟩:=x6q s ho;exact ⟨_,_,.cons (.refl _) .nil,y9z s,x2u s N _ hN,3,y9y s⟩
 ·cases h
theorem y8g {x:List UInt8} {v:Int} (h:atoiAll x=.ok v): -9223372036854775808≤v∧v≤9223372036854775807:=by
 unfold atoiAll at h;split at h
 ·cases h
 ·simp only [] at h;split at h
  ·cases h
  ·cases h
  ·rename_i u hu;split at h
   ·cases h
   ·split at h
    ·cases h
    ·rename_i h1 h2;injection h with h;subst h;split <;> omega
def wN {σ:Type} (x:List UInt8) (R:Vj σ) (K:Int→Vj σ):Vj σ:=(bif (Wy x) then (bif (!(Uo x)) then R else (bif (Yb (Yy x)) then (bif (!((Ym (Yy x)) == x)) then R else (bif (decide ((Yy x)<(-9999999))) then R else (bif (decide ((Yy x)>9999999)) then R else K (Yy x)))) else .stuck)) else .stuck)
theorem y1k {σ:Type} {x:List UInt8} {R:Vj σ} {K:Int→Vj σ} (hx:x.length≤1000000):wN x R K=(z1t x).elim R K:=by
 unfold wN;rw [Zp (show Wy x=true from Ah (by omega))];unfold z1t Uo Yy;cases h:atoiAll x with
 | ok v=>
  have hr:=y8g h;show (bif !true then R else bif Yb v then (bif !(Ym v == x) then R else bif decide (v< -9999999) then R else bif decide (v>9999999) then R else K v) else .stuck)=(bif decide (itoa v=x∧ -9999999≤v∧v≤9999999) then some v else none).elim R K;rw [Bf,Ai,Zp (show Yb v=true from Ah hr)];have hb:(Ym v == x)=decide (itoa v=x):=by rw [AV,Ba,Aq];rfl
  rw [hb];by_cases g1:itoa v=x
  ·rw [Ah g1,Bf,Ai];by_cases g2:v< -9999999
   ·rw [Ah g2,Ak (show ¬(itoa v=x∧ -9999999≤v∧v≤9999999) by omega)];rfl
   ·rw [Ak g2,Ai];by_cases g3:v>9999999
    ·rw [Ah g3,Ak (show ¬(itoa v=x∧ -9999999≤v∧v≤9999999) by omega)];rfl
    ·rw [Ak g3,Ah (show (itoa v=x∧ -9999999≤v∧v≤9999999) from ⟨g1,by omega,by omega⟩)];rfl
  ·rw [Ak g1,Ak (show ¬(itoa v=x∧ -9999999≤v∧v≤9999999) from fun h=>g1 h.1)];rfl
 | _=>rfl
abbrev r12 :Vj pmsS:=.ret [.nils,.int .i64 12]
theorem x5x {n:Nat} {j:Int} (h0:0≤j) (h:j<(n:Int)):(decide ((0:Int)≤j∧j<((n:Nat):Int))&&true)=true:=by rw [Bn];exact Ah ⟨h0,h⟩
section
variable {s:List UInt8} {out:List R7} {i:Int} {ws v43 v4 v58:List (List UInt8)}
theorem pe2 {v14:List (List UInt8)} (h:0<v14.length) (hx:(rd v14 0).length ≤1000000):Yx s (.h2 v14 out ws i v43)=(z1t (rd v14 0)).elim r12 fun v=>.to (.h3 v14 out ws i v43 v):=by rw [←y1k hx];unfold Yx;simp only [];rw [Zp (x5x (j:=0) (by omega) (by omega))];rfl
theorem pe4 {v14:List (List UInt8)} {a:Int} (h:6=v14.length) (hx:(rd v14 0).length ≤1000000):Yx s (.h4 v14 6 v4 out i v58 a)=(z1t (rd v14 0)).elim r12 fun v=>.to (.h5 v14 6 v4 out i v58 v a):=by rw [←y1k hx];unfold Yx;simp only [];rw [Zp (show decide ((0:Int)<6)=true from rfl),Zp (x5x (j:=0) (by omega) (by omega))];rfl
theorem pe5 {v14:List (List UInt8)} {a b:Int} (h:6=v14.length) (hx:(rd v14 1).length ≤1000000):Yx s (.h5 v14 6 v4 out i v58 b a)=(z1t (rd v14 1)).elim r12 fun v=>.to (.h7 v14 6 v4 out i v58 b v a):=by rw [←y1k hx];unfold Yx;simp only [];rw [Zp (show decide ((1:Int)<6)=true from rfl),Zp (x5x (j:=1) (by omega) (by omega))];rfl
theorem pe7 {v14:List (List UInt8)} {a b c:Int} (h:6=v14.length) (hx:(rd v14 2).length ≤1000000):Yx s (.h7 v14 6 v4 out i v58 b c a)=(z1t (rd v14 2)).elim r12 fun v=>.to (.h8 v14 6 v4 out i v58 b c v a):=by rw [←y1k hx];unfold Yx;simp only [];rw [Zp (show decide ((2:Int)<6)=true from rfl),Zp (x5x (j:=2) (by omega) (by omega))];rfl
theorem pe8 {v14:List (List UInt8)} {a b c d:Int} (h:6=v14.length) (hx:(rd v14 3).length ≤1000000):Yx s (.h8 v14 6 v4 out i v58 b c d a)=(z1t (rd v14 3)).elim r12 fun v=>.to (.h9 v14 6 v4 out i v58 b c d v a):=by rw [←y1k hx];unfold Yx;simp only [];rw [Zp (show decide ((3:Int)<6)=true from rfl),Zp (x5x (j:=3) (by omega) (by omega))];rfl
theorem pe9 {v14:List (List UInt8)} {a b c d e:Int} (h:6=v14.length) (hx:(rd v14 4).length ≤1000000):Yx s (.h9 v14 6 v4 out i v58 b c d e a)=(z1t (rd v14 4)).elim r12 fun v=>.to (.h10 v14 6 v4 out i v58 b c d e v a):=by rw [←y1k hx];unfold Yx;simp only [];rw [Zp (show decide ((4:Int)<6)=true from rfl),Zp (x5x (j:=4) (by omega) (by omega))];rfl
theorem pe10 {v14:List (List UInt8)} {a b c d e f:Int} (h:6=v14.length) (hx:(rd v14 5).length ≤1000000):Yx s (.h10 v14 6 v4 out i v58 b c d e f a)=(z1t (rd v14 5)).elim r12 fun v=>.to (.h11 v14 6 v4 out i v58 b c d e f v a):=by rw [←y1k hx];unfold Yx;simp only [];rw [Zp (show decide ((5:Int)<6)=true from rfl),Zp (x5x (j:=5) (by omega) (by omega))];rfl
theorem pe11 {v14:List (List UInt8)} {a b c d e f g:Int} (ho:out.length≤1000000) (ha:0≤a∧a≤5) (hi:0≤i∧i≤1000000):Yx s (.h11 v14 6 v4 out i v58 b c d e f g a)=.to (.h6 (out++[⟨a,b,c,d,e,f,g⟩]) (i+1)):=by unfold Yx;simp only [];rw [show decide ((6:Int)<6)=false from rfl,Ai,Zp (y1z (by omega)),w8 a (by omega),Xi (by omega)]
theorem pe3 {v14:List (List UInt8)} {a:Int} {w x:List UInt8} {r:List (List UInt8)} (hw:ws=w::x::r):Yx s (.h3 v14 out ws i v43 a)=bif decide (0≤a)&&decide (a≤5) then (bif decide (r.length=6) then .to (.h4 (Yg ws 2 r.length) (r.length:Int) (Yg ws 2 r.length) out i (Yg ws 2 r.length) a) else r12) else r12:=by
 have hl:ws.length - 2=r.length:=by rw [hw,Al,Al];omega
 have h2:2≤ws.length:=by rw [hw,Al,Al];omega
 unfold Yx;simp only [hl];by_cases k1:a<0
 ·rw [Ah k1,Ak (show ¬0≤a by omega)];rfl
 ·rw [Ak k1,Ah (show 0≤a by omega),Ai];by_cases k2:a>5
  ·rw [Ah k2,Ak (show ¬a≤5 by omega)];rfl
  ·rw [Ak k2,Ah (show a≤5 by omega),Ai,Zp (Ah h2),Zp (Ah (Aj _))];by_cases k3:r.length=6
   ·rw [ne_f (by omega),Ah k3];rfl
   ·rw [ne_t (by omega),Ak k3];rfl
theorem y9x {w x:List UInt8} {r:List (List UInt8)} (hs: ∀p,p∈x::r→p.length≤1000000) (ho:out.length≤1000000) (hi:0≤i∧i≤1000000) (N:Nat):
  goOn (Yx s) (N+9) (.to (.h2 (Yg (w::x::r) 1 1) out (w::x::r) i v43))=match z6y (z1q::x::r) with
   | none=>r12
   | some q=>goOn (Yx s) N (.to (.h6 (out++[q]) (i+1))):=by
 have hp:Yg (w::x::r) 1 1=[x]:=rfl;have hq:z6y (z1q::x::r)=bif decide (r.length=6) then (Vn (x::r)).bind quadL else none:=by rw [Jd,Ah rfl,A2,Al];rw [show decide (r.length+1=7)=decide (r.length=6) by rw [AV,Aq,Aq];omega]
 have hxx:=hs x Bo;rw [hp,Zf,pe2 (v14:=[x]) (by simp) hxx,hq];have hr0:rd [x] 0=x:=rfl;rw [hr0];cases ha:z1t x with
 | none=>
  have:Vn (x::r)=none:=by unfold Vn;rw [ha]
  rw [this];show goOn _ _ r12=_;rw [Yn];cases decide (r.length=6) <;> rfl
 | some a =>
  show goOn _ (N+8) (.to (pmsS.h3 _ _ _ _ _ a))=_;rw [Zf,pe3 (w:=w) (x:=x) (r:=r) rfl];by_cases h6:r.length=6
  ·rw [Ah h6,Ap,Ap];cases hda:decide (0≤a)&&decide (a≤5) with
   | false=>
    rw [Ai,Yn];have:(Vn (x::r)).bind quadL=none:=by
     unfold Vn;rw [ha]
     match r,h6 with
     | [b,c,d,e,f,g],_=>
      cases Vn [b,c,d,e,f,g] with
      | none=>rfl
      | some l=>
       show quadL (a::l)=none
       match l with
       | [b,c,d,e,f,g]=>show (bif decide (0≤a)&&decide (a≤5) then _ else _)=_;rw [hda];rfl
       | []=>rfl
       | [_]=>rfl
       | [_,_]=>rfl
       | [_,_,_]=>rfl
       | [_,_,_,_]=>rfl
       | [_,_,_,_,_]=>rfl
       | _::_::_::_::_::_::_::_=>rfl
    rw [this]
   | true =>
    have hab:0≤a∧a≤5:=by rw [Ad,Aq,Aq] at hda;exact hda
    rw [Ap]
    match r,h6,hs with
    | [b, c,d,e,f,g],_,hs=>
     have hp6:Yg [w,x,b,c,d,e,f,g] 2 [b,c,d,e,f,g].length =[b,c,d,e,f,g]:=rfl;rw [hp6];show goOn _ (N+7) (.to (pmsS.h4 [b,c,d,e,f,g] 6 _ _ _ _ a))=_;have hb:=hs b (by simp);have hc:=hs c (by simp);have hd:=hs d (by simp);have he:=hs e (by simp);have hf:=hs f (by simp);have hg:=hs g (by simp);unfold Vn;rw [ha];rw [Zf,pe4 (v14:=[b,c,d,e,f,g]) rfl hb];rw [show rd [b,c,d,e,f,g] 0=b from rfl];unfold Vn;cases z1t b with
     | none=>show goOn _ _ r12=_;rw [Yn];rfl
     | some b'=>
      show goOn _ (N+6) (.to (pmsS.h5 _ _ _ _ _ _ b' a))=_;rw [Zf,pe5 (v14:=[b,c,d,e,f,g]) rfl hc,show rd [b,c,d,e,f,g] 1=c from rfl];unfold Vn;cases z1t c with
      | none=>show goOn _ _ r12=_;rw [Yn];rfl
      | some c'=>
       show goOn _ (N+5) (.to (pmsS.h7 _ _ _ _ _ _ b' c' a))=_;rw [Zf,pe7 (v14:=[b,c,d,e,f,g]) rfl hd,show rd [b,c,d,e,f,g] 2=d from rfl];unfold Vn;cases z1t d with
       | none=>show goOn _ _ r12=_;rw [Yn];rfl
       | some d'=>
        show goOn _ (N+4) (.to (pmsS.h8 _ _ _ _ _ _ b' c' d' a))=_;rw [Zf,pe8 (v14:=[b,c,d,e,f,g]) rfl he,show rd [b,c,d,e,f,g] 3=e from rfl];unfold Vn;cases z1t e with
        | none=>show goOn _ _ r12=_;rw [Yn];rfl
        | some e'=>
         show goOn _ (N+3) (.to (pmsS.h9 _ _ _ _ _ _ b' c' d' e' a))=_;rw [Zf,pe9 (v14:=[b,c,d,e,f,g]) rfl hf,show rd [b,c,d,e,f,g] 4=f from rfl];unfold Vn;cases z1t f with
         | none=>show goOn _ _ r12=_;rw [Yn];rfl
         | some f'=>
          show goOn _ (N+2) (.to (pmsS.h10 _ _ _ _ _ _ b' c' d' e' f' a))=_;rw [Zf,pe10 (v14:=[b,c,d,e,f,g]) rfl hg,show rd [b,c,d,e,f,g] 5=g from rfl];unfold Vn;cases z1t g with
          | none=>show goOn _ _ r12=_;rw [Yn];rfl
          | some g'=>
           show goOn _ (N+1) (.to (pmsS.h11 _ _ _ _ _ _ b' c' d' e' f' g' a))=_;rw [Zf,pe11 ho hab hi];show _=match (some [a,b',c',d',e',f',g']).bind quadL with
            | none=>r12
            | some q=>goOn (Yx s) N (.to (.h6 (out++[q]) (i+1)))
           rw [y9v,hda];rfl
  ·rw [Ak h6];cases decide (0≤a)&&decide (a≤5) <;> exact Yn _ _ _
end
def z6l (s:List UInt8):List UInt8:=(s.drop 0).take (Int.toNat (wrap .i64 ((s.length:Int) - 1)))
theorem y9e (x:List UInt8) (b:UInt8):Yq x [b]=Xe b [] x:=z9r b x
theorem pe6 {s:List UInt8} {ls:List (List UInt8)} {out:List R7} {i:Nat} (hls:Yq (z6l s) [10]=ls) (hi:i<ls.length) (hx:(rd ls i).length ≤1000000) {w:List UInt8} {r:List (List UInt8)} (hw:Xe 32 [] (rd ls i)=w::r):
  Yx s (.h6 out (i:Int))=bif decide (w=z1q)&&decide (1≤r.length) then .to (.h2 (Yg (w::r) 1 1) out (w::r) (i:Int) (Yg (w::r) 1 1)) else r12:=by
 have hW:Yq (rd ls i) [32]=w::r:=by rw [y9e];exact hw
 have hq:(rd (w::r) 0 == ([113,117,97,100]:List UInt8))=decide (w=z1q):=by rw [AV];show ((w == [113,117,97,100])=true)↔_;rw [Ba,Aq];rfl
 unfold z6l at hls;unfold Yx;simp only [hls,Vg,hW,hq];rw [Zp (z2a (by omega)),Zp (Bj.2 ⟨z6q (by omega),rfl⟩)];rw [Zp (show Xg (rd ls i) [32]=true by unfold Xg;rw [Ah (show (rd ls i).length <4294967281 by omega)];rfl)];rw [Zp (x5x (j:=0) (by omega) (by rw [Al];omega))];cases decide (w=z1q) with
 | false=>rfl
 | true=>
  rw [Bf,Ai,A2];by_cases h1:1≤r.length
  ·rw [Ah h1,Ak (by rw [Al];omega),Ai,Zp (by rfl),Zp (Ah (by rw [Al];omega))];rfl
  ·rw [Ak h1,Ah (by rw [Al];omega)];rfl
theorem x3i {s:List UInt8} {ls:List (List UInt8)} {out:List R7} {i:Nat} (hls:Yq (z6l s) [10]=ls) (hi:i<ls.length) (hx:(rd ls i).length ≤1000000) (ho:out.length≤1000000) (hib:i≤1000000) (N:Nat):
  goOn (Yx s) (N+10) (.to (.h6 out (i:Int)))=match z6o (rd ls i) with
   | none=>r12
   | some q=>goOn (Yx s) N (.to (.h6 (out++[q]) ((i+1:Nat):Int))):=by
 rw [z4t];have hne:=z5m 32 (rd ls i) [];have hpc: ∀p,p∈Xe 32 [] (rd ls i)→p.length≤(rd ls i).length :=fun p hp=>by have:=Uu 32 (rd ls i) [] p hp;simpa using this
 cases hw:Xe 32 [] (rd ls i) with
 | nil=>exact absurd hw hne
 | cons w r=>
  rw [hw] at hpc;rw [Zf,pe6 hls hi hx hw];by_cases hq:w=z1q
  ·subst hq
   match r with
   | []=>rw [Jd];exact Yn _ _ _
   | x::r=>rw [Ah rfl,Ah (show 1≤(x::r).length by rw [Al];omega)];show goOn (Yx s) (N+9) (.to (pmsS.h2 _ _ _ _ _))=_;rw [y9x (fun p hp=>by have:=hpc p (List.mem_cons_of_mem _ hp);omega) ho (by omega)];cases z6y (z1q::x::r) <;> rfl
  ·rw [Jd,Ak hq];exact Yn _ _ _
theorem x5r {s:List UInt8} {ls:List (List UInt8)} (hls:Yq (z6l s) [10]=ls) (hx: ∀p,p∈ls→p.length≤1000000) (hn:ls.length≤1000000): ∀(k i:Nat) (out:List R7),i+k=ls.length→out.length≤i→Yk out=true→
  ∃N,goOn (Yx s) N (.to (.h6 out (i:Int)))=.ret (x0b out (Xd (ls.drop i)))
 | 0,i,out,h,ho,hm=>by
  refine ⟨1,?_⟩;have e:Yx s (.h6 out (i:Int))=bif Vh out != 0 then .ret [.nils,.int .i64 (Vh out)] else .ret [.dat out.length (Zz out),.int .i64 0]:=by
   unfold z6l at hls;unfold Yx;simp only [hls];rw [z3a (by omega),Ai];have hf:(Nat.beq 7 7&&(decide (0+out.length≤out.length)&&Um (Zz out)))=true:=by rw [Ad,Ad];exact ⟨rfl,Ah (by omega),Uv _⟩
   rw [Zp hf,x0n,Zp hm]
  rw [Zf,e,AH (by omega)];unfold x0b Xd;simp only [Bq];cases Vh out != 0 <;> rfl
 | k+1,i,out,h,ho,hm=>by
  have hi:i<ls.length:=by omega
  have hl:=fun N=>x3i (out:=out) hls hi (hx _ (by rw [Uj hi];exact AE hi)) (by omega) (by omega) N;rw [Kw hi];cases g:z6o (rd ls i) with
  | none=>refine ⟨10,?_⟩;rw [hl 0,g];unfold Xd;rw [g];rfl
  | some r=>
   have hr:=z1u g;obtain ⟨N,hN⟩:=x5r hls hx hn k (i+1) (out++[r]) (by omega) (by rw [Ao,AC];omega) (by
    unfold Yk at hm ⊢;rw [List.all_append,hm,A5,Ah hr.1,Ah (by omega)];rfl)
   refine ⟨N+10,?_⟩;rw [hl N,g];show goOn _ N (.to _)=_;rw [hN]
   congr 1
   rw [Xd,g];cases Xd (ls.drop (i+1)) with
   | none=>rfl
   | some M=>show x0b (out++[r]) (some M)=x0b out (some (r::M));unfold x0b;simp only [AK];rfl
theorem pms_h1 {s:List UInt8} (h:0<(Yq (z6l s) [10]).length):Yx s .h1 =Yx s (.h6 [] 0):=by unfold z6l at h;unfold Yx;simp only [];have k:decide ((0:Int)<(((Yq ((s.drop 0).take (Int.toNat (wrap .i64 ((s.length:Int) - 1)))) ([10]:List UInt8)).length :Nat):Int))=true:=z2a (by omega);rw [Zp k,Zp k];rfl
theorem x6w {s t:List UInt8} {b:UInt8} (h:s=t++[b]) (hs:s.length≤100000):z6l s=t:=by subst h;rw [Ao,AC] at hs;unfold z6l;rw [Ao,AC,Xi (by omega),A9];rw [show ((((t.length+1:Nat):Int) - 1)).toNat =t.length by omega];simp
theorem x7a (s:List UInt8) (h:Wg s=true): ∃N vs,goOn (Yx s) N (Qq s)=.ret vs∧(vs=y4u s∨(vs=[.nils,.int .i64 0]∧y7c s=([],0))):=by
 have hs:s.length≤100000:=Ax h;by_cases g:60000<s.length
 ·refine ⟨0,y4u s,?_,.inl rfl⟩;unfold Qq y4u;rw [z4e,z5j (by omega),Ah g];rfl
 ·by_cases h0:s=[]
  ·subst h0;exact ⟨1,[.nils,.int .i64 0],rfl,.inr ⟨rfl,rfl⟩⟩
  ·have hpos:1≤s.length:=by
    cases s with
    | nil=>exact absurd rfl h0
    | cons a l=>rw [Al];omega
   obtain ⟨t,b,hb⟩: ∃t b,s=t++[b]:=⟨s.dropLast,s.getLast h0,(List.dropLast_concat_getLast h0).symm⟩
   have cE:s.length=t.length+1:=by rw [hb,Ao,AC]
   have w:(wrap .i64 ((s.length:Int) - 1))=(t.length:Int):=by rw [Xi (by omega)];omega
   have htail:(s.drop t.length).take (s.length - t.length)=[b]:=by rw [hb];simp
   have hstart:Qq s=bif !([b] == ([10]:List UInt8)) then r12 else .to .h1 :=by
    unfold Qq;rw [z6r (by omega),Ai];rw [show (s == ([]:List UInt8))=false by cases s with
     | nil=>exact absurd rfl h0
     | cons a l=>rfl,Ai,Zp (dge_t (by omega))]
    simp only [w,Vg,htail];rw [Zp (x0l (by omega)),Zp (Ah (by omega))];rw [Zp (show Xg s [10]=true by unfold Xg;rw [Ah (show s.length<4294967281 by omega)];rfl)];rw [Zp (show Xg ((s.drop 0).take t.length) [10]=true by
     unfold Xg;rw [Ah (show ((s.drop 0).take t.length).length <4294967281 by rw [List.length_take];omega)];rfl)]
   rw [hstart];by_cases h10:b=10
   ·subst h10;have cQ:=x6w hb hs;have hls:Yq (z6l s) [10]=Xe 10 [] t:=(by rw [cQ,y9e]);have hne:=z5m 10 t [];have hcl:=Wz 10 t [];have hp:0<(Xe 10 [] t).length :=by
     cases hc:Xe 10 [] t with
     | nil=>exact absurd hc hne
     | cons a l=>rw [Al];omega
    have hr:Qm s=some (Xe 10 [] t):=by unfold Qm;rw [hb,z8u,List.getLast?_append,List.getLast?_singleton];show some ((Xe 10 [] t++[[]]).dropLast)=_;rw [List.dropLast_concat]
    obtain ⟨N,hN⟩:=x5r hls (fun p hp=>by have:=Uu 10 t [] p hp;simp at this;omega) (by omega) (Xe 10 [] t).length 0 [] (AA _) (Aj _) rfl;rw [A9,x0a g hr] at hN;cases N with
    | zero=>cases hN
    | succ N=>refine ⟨N+1,_,?_,.inl rfl⟩;show goOn (Yx s) (N+1) (.to pmsS.h1)=_;rw [Zf,pms_h1 (by rw [hls];exact hp)];exact hN
   ·have hr:Qm s=none:=by
     unfold Qm;cases hc:(Xe 10 [] s).getLast? with
     | none=>rfl
     | some p=>
      cases p with
      | cons _ _=>rfl
      | nil=>
       exfalso;rcases z5n 10 s [] hc with ⟨_,e⟩ | ⟨t',e⟩
       ·exact h0 e
       ·rw [hb] at e;have:=List.append_inj_right' e rfl;injection this with this _;exact h10 this
    refine ⟨0,y4u s,?_,.inl rfl⟩;have hbe:([b] == ([10]:List UInt8))=false:=by rw [AP];intro e;have e:=Ba.1 e;injection e with e _;exact h10 e
    rw [hbe];unfold y4u;rw [z4e,Ak g,Ai,hr];rfl
def fPms :List AVal→Option (AVal×Bool)
 | [.str s]=>some (.tup [.dat (Zd s).length (Zz (Zd s)),.int .i64 (Xr s)],Wg s)
 | _=>none
theorem x7z {S:Specs} (hS:Zk prog S):Zk prog (S.with pmsN fPms):=fTwo hS (by kernel_rfl) fun args v h=>by
 unfold fPms at h;split at h
 ·rename_i s;simp only [Ab,Aa] at h;obtain ⟨rfl,ho⟩:=h;obtain ⟨N,vs,hN,hv⟩:=x7a s ho;refine ⟨_,vs,.cons (.refl _) .nil,?_,x3j s N _ hN,3,?_⟩
  ·rcases hv with rfl | ⟨rfl,h2⟩
   ·exact y9z s
   ·unfold Zd Xr;rw [h2];exact fun ρ u hu=>y8z (.cons (y2s R7) (RLe.refl _)) ρ u hu
  ·rcases hv with rfl | ⟨rfl,_⟩
   ·exact y9y s
   ·rfl
 ·cases h
def Up (L:List R7):Bool:=Yk L
def fMtx :List AVal→Option (AVal×Bool)
 | [a0]=>match asL R7 a0 with
  | some (L0,g0,n0)=>some (.tup [.str (Wc L0),.int .i64 (Wb L0)],isT R7 n0 g0&&Up L0)
  | _=>none
 | _=>none
theorem x8b {S:Specs} (hS:Zk prog S):Zk prog (S.with mtxN fMtx):=y5o hS (by kernel_rfl) fun args v h=>by
 unfold fMtx at h;split at h
 ·rename_i a0;split at h
  ·rename_i L0 g0 n0 e0;simp only [Ab,Aa,Ad] at h;obtain ⟨rfl,ho0,hw⟩:=h;obtain ⟨N,hN⟩:=x7e L0 hw;exact ⟨_,_,(.cons (asL_le e0 ho0) .nil),rfl,x3v L0 N _ hN,3,rfl⟩
  ·cases h
 ·cases h
theorem x7v {S:Specs} (hS:Zk prog S):Zk prog (S.with rmtN fMtx):=y5o hS (by kernel_rfl) fun args v h=>by
 unfold fMtx at h;split at h
 ·rename_i a0;split at h
  ·rename_i L0 g0 n0 e0;simp only [Ab,Aa,Ad] at h;obtain ⟨rfl,ho0,hw⟩:=h;obtain ⟨N,hN⟩:=x6s L0 hw;exact ⟨_,_,(.cons (asL_le e0 ho0) .nil),rfl,x3a L0 N _ hN,3,rfl⟩
  ·cases h
 ·cases h
def S7 :Specs:=(((S6.with mtxN fMtx).with rmtN fMtx).with pmsN fPms).with rpmN fRpm
theorem Qy :Zk prog S7:=x7t (x7z (x7v (x8b Zr)))
inductive lawS where
def lawC (l0:List R7) (x1:List UInt8):lawS→Cfg
 :=nofun
def lawstep (l0:List R7) (x1:List UInt8):lawS→Vj lawS
 :=nofun
def lawstart (l0:List R7) (x1:List UInt8):Vj lawS:=(bif (decide ((l0.length:Int)>80)) then (bif (decide ((l0.length:Int)≤3000)) then (.ret [(.bool true)]) else (bif (decide ((l0.length:Int)>3020)) then (.ret [(.bool true)]) else (bif (decide ((x1.length:Int)>4000)) then (bif (decide ((x1.length:Int)≤60000)) then (.ret [(.bool true)]) else (bif (decide ((x1.length:Int)>61000)) then (.ret [(.bool true)]) else (bif (Up (cvT l0)) then (bif (Wg x1) then (bif (Ve (cvT (Zd x1)) (cvT (Zd x1))) then (bif (x2r (cvT (Zd x1)) (cvT (Zd x1))) then (.ret [(.bool ((Xr x1) == (Xr x1)))]) else (.ret [(.bool false)])) else .stuck) else .stuck) else .stuck))) else (bif (decide ((x1.length:Int)>61000)) then (.ret [(.bool true)]) else (bif (Up (cvT l0)) then (bif (Wg x1) then (bif (Ve (cvT (Zd x1)) (cvT (Zd x1))) then (bif (x2r (cvT (Zd x1)) (cvT (Zd x1))) then (.ret [(.bool ((Xr x1) == (Xr x1)))]) else (.ret [(.bool false)])) else .stuck) else .stuck) else .stuck))))) else (bif (decide ((l0.length:Int)>3020)) then (.ret [(.bool true)]) else (bif (decide ((x1.length:Int)>4000)) then (bif (decide ((x1.length:Int)≤60000)) then (.ret [(.bool true)]) else (bif (decide ((x1.length:Int)>61000)) then (.ret [(.bool true)]) else (bif (Up (cvT l0)) then (bif (Wg x1) then (bif (Ve (cvT (Zd x1)) (cvT (Zd x1))) then (bif (x2r (cvT (Zd x1)) (cvT (Zd x1))) then (.ret [(.bool ((Xr x1) == (Xr x1)))]) else (.ret [(.bool false)])) else .stuck) else .stuck) else .stuck))) else (bif (decide ((x1.length:Int)>61000)) then (.ret [(.bool true)]) else (bif (Up (cvT l0)) then (bif (Wg x1) then (bif (Ve (cvT (Zd x1)) (cvT (Zd x1))) then (bif (x2r (cvT (Zd x1)) (cvT (Zd x1))) then (.ret [(.bool ((Xr x1) == (Xr x1)))]) else (.ret [(.bool false)])) else .stuck) else .stuck) else .stuck)))))
theorem y7q (l0:List R7) (x1:List UInt8): ∀s,Vr prog (Zx prog 3) (lawC l0 x1) (lawC l0 x1 s) (lawstep l0 x1 s)
 :=nofun
theorem y3a (l0:List R7) (x1:List UInt8):Vr prog (Zx prog 3) (lawC l0 x1) (Zs prog 3 [(.dat l0.length (Zz l0)),(.str x1)] true []) (lawstart l0 x1):=(lb (fun k0=>(lb (fun k1=>(lr 79 3 [1,0,1,0,0] 1 3 [(4,(.bool true))] (sl Qy 41 [] ⟨[],[],[some [4]],[]⟩ ⟨[],[],[]⟩ (trs 15 []) (tt k1 (tt k0 nn))))) (fun k1=>(lb (fun k2=>(lr 79 3 [1,0,1,0,0] 1 3 [(4,(.bool true))] (sl Qy 41 [] ⟨[],[],[some [4]],[]⟩ ⟨[],[],[]⟩ (trs 3 [false,false,false,true,true,true,true,true,true,true,true,true]) (tt k2 (tt k1 (tt k0 nn)))))) (fun k2=>(lb (fun k3=>(lb (fun k4=>(lr 79 3 [1,0,1,0,0] 1 3 [(4,(.bool true))] (sl Qy 41 [] ⟨[],[],[some [4]],[]⟩ ⟨[],[],[]⟩ (trs 3 [false,false,false,false,false,false,false,true,true,true,false,true,true,true,true]) (tt k4 (tt k3 (tt k2 (tt k1 (tt k0 nn)))))))) (fun k4=>(lb (fun k5=>(lr 79 3 [1,0,1,0,0] 1 3 [(4,(.bool true))] (sl Qy 41 [] ⟨[],[],[some [4]],[]⟩ ⟨[],[],[]⟩ (trs 3 [false,false,false,false,false,false,false,true,true,true,false,false,false,false,true]) (tt k5 (tt k4 (tt k3 (tt k2 (tt k1 (tt k0 nn))))))))) (fun k5=>(lo fun bU=>(lo fun bV=>(lo fun bZ=>(lb (fun k6=>(lr 79 3 [1,1,1,1,1,1,0] 1 3 [(4,(.bool ((Xr x1) == (Xr x1))))] (sl Qy 100 [] ⟨[],[],[some [4]],[]⟩ ⟨[],[],[]⟩ (trs 3 [false,false,false,false,false,false,false,true,true,true,false,false,false,false,false,true,true,true,true,true,true,true,true,true]) (tt k6 (pp (pp (xI R7 (Zd x1).length (Zz (Zd x1))) (pp (xI R7 (Zd x1).length (Zz (Zd x1))) (xw bZ))) (pp (xG (((Wb (cvT l0)) == (Wb (cvT l0))) == true) (by simp)) (pp (xG (((Wc (cvT l0)) == (Wc (cvT l0))) == true) (by simp)) (ww bV (ww bV (pp (pp (xr l0) (xw bU)) (pp (pp (xr l0) (xw bU)) (tt k5 (tt k4 (tt k3 (tt k2 (tt k1 (tt k0 nn))))))))))))))))) (fun k6=>(lr 79 3 [1,1,1,1,1,1,0] 1 3 [(4,(.bool false))] (sl Qy 100 [] ⟨[],[],[some [4]],[]⟩ ⟨[],[],[]⟩ (trs 3 [false,false,false,false,false,false,false,true,true,true,false,false,false,false,false,true,true,true,true,true,true,false,false,false]) (tt k6 (pp (pp (xI R7 (Zd x1).length (Zz (Zd x1))) (pp (xI R7 (Zd x1).length (Zz (Zd x1))) (xw bZ))) (pp (xG (((Wb (cvT l0)) == (Wb (cvT l0))) == true) (by simp)) (pp (xG (((Wc (cvT l0)) == (Wc (cvT l0))) == true) (by simp)) (ww bV (ww bV (pp (pp (xr l0) (xw bU)) (pp (pp (xr l0) (xw bU)) (tt k5 (tt k4 (tt k3 (tt k2 (tt k1 (tt k0 nn)))))))))))))))))))))))))) (fun k3=>(lb (fun k4=>(lr 79 3 [1,0,1,0,0] 1 3 [(4,(.bool true))] (sl Qy 41 [] ⟨[],[],[some [4]],[]⟩ ⟨[],[],[]⟩ (trs 3 [false,false,false,false,false,false,false,false,false,false,false,false,false,false,true]) (tt k4 (tt k3 (tt k2 (tt k1 (tt k0 nn)))))))) (fun k4=>(lo fun bN=>(lo fun bO=>(lo fun bT=>(lb (fun k5=>(lr 79 3 [1,1,1,1,1,1,0] 1 3 [(4,(.bool ((Xr x1) == (Xr x1))))] (sl Qy 100 [] ⟨[],[],[some [4]],[]⟩ ⟨[],[],[]⟩ (trs 3 [false,false,false,false,false,false,false,false,false,false,false,false,false,false,false,true,true,true,true,true,true,true,true,true]) (tt k5 (pp (pp (xI R7 (Zd x1).length (Zz (Zd x1))) (pp (xI R7 (Zd x1).length (Zz (Zd x1))) (xw bT))) (pp (xG (((Wb (cvT l0)) == (Wb (cvT l0))) == true) (by simp)) (pp (xG (((Wc (cvT l0)) == (Wc (cvT l0))) == true) (by simp)) (ww bO (ww bO (pp (pp (xr l0) (xw bN)) (pp (pp (xr l0) (xw bN)) (tt k4 (tt k3 (tt k2 (tt k1 (tt k0 nn)))))))))))))))) (fun k5=>(lr 79 3 [1,1,1,1,1,1,0] 1 3 [(4,(.bool false))] (sl Qy 100 [] ⟨[],[],[some [4]],[]⟩ ⟨[],[],[]⟩ (trs 3 [false,false,false,false,false,false,false,false,false,false,false,false,false,false,false,true,true,true,true,true,true,false,false,false]) (tt k5 (pp (pp (xI R7 (Zd x1).length (Zz (Zd x1))) (pp (xI R7 (Zd x1).length (Zz (Zd x1))) (xw bT))) (pp (xG (((Wb (cvT l0)) == (Wb (cvT l0))) == true) (by simp)) (pp (xG (((Wc (cvT l0)) == (Wc (cvT l0))) == true) (by simp)) (ww bO (ww bO (pp (pp (xr l0) (xw bN)) (pp (pp (xr l0) (xw bN)) (tt k4 (tt k3 (tt k2 (tt k1 (tt k0 nn))))))))))))))))))))))))))))) (fun k0=>(lb (fun k1=>(lr 79 3 [1,0,1,0,0] 1 3 [(4,(.bool true))] (sl Qy 41 [] ⟨[],[],[some [4]],[]⟩ ⟨[],[],[]⟩ [false,false,false,false,false,false,true,true,true,true,true,true,true,true,true] (tt k1 (tt k0 nn))))) (fun k1=>(lb (fun k2=>(lb (fun k3=>(lr 79 3 [1,0,1,0,0] 1 3 [(4,(.bool true))] (sl Qy 41 [] ⟨[],[],[some [4]],[]⟩ ⟨[],[],[]⟩ [false,false,false,false,false,false,false,false,false,false,true,true,true,false,true,true,true,true] (tt k3 (tt k2 (tt k1 (tt k0 nn))))))) (fun k3=>(lb (fun k4=>(lr 79 3 [1,0,1,0,0] 1 3 [(4,(.bool true))] (sl Qy 41 [] ⟨[],[],[some [4]],[]⟩ ⟨[],[],[]⟩ [false,false,false,false,false,false,false,false,false,false,true,true,true,false,false,false,false,true] (tt k4 (tt k3 (tt k2 (tt k1 (tt k0 nn)))))))) (fun k4=>(lo fun bN=>(lo fun bO=>(lo fun bT=>(lb (fun k5=>(lr 79 3 [1,1,1,1,1,1,0] 1 3 [(4,(.bool ((Xr x1) == (Xr x1))))] (sl Qy 100 [] ⟨[],[],[some [4]],[]⟩ ⟨[],[],[]⟩ [false,false,false,false,false,false,false,false,false,false,true,true,true,false,false,false,false,false,true,true,true,true,true,true,true,true,true] (tt k5 (pp (pp (xI R7 (Zd x1).length (Zz (Zd x1))) (pp (xI R7 (Zd x1).length (Zz (Zd x1))) (xw bT))) (pp (xG (((Wb (cvT l0)) == (Wb (cvT l0))) == true) (by simp)) (pp (xG (((Wc (cvT l0)) == (Wc (cvT l0))) == true) (by simp)) (ww bO (ww bO (pp (pp (xr l0) (xw bN)) (pp (pp (xr l0) (xw bN)) (tt k4 (tt k3 (tt k2 (tt k1 (tt k0 nn)))))))))))))))) (fun k5=>(lr 79 3 [1,1,1,1,1,1,0] 1 3 [(4,(.bool false))] (sl Qy 100 [] ⟨[],[],[some [4]],[]⟩ ⟨[],[],[]⟩ [false,false,false,false,false,false,false,false,false,false,true,true,true,false,false,false,false,false,true,true,true,true,true,true,false,false,false] (tt k5 (pp (pp (xI R7 (Zd x1).length (Zz (Zd x1))) (pp (xI R7 (Zd x1).length (Zz (Zd x1))) (xw bT))) (pp (xG (((Wb (cvT l0)) == (Wb (cvT l0))) == true) (by simp)) (pp (xG (((Wc (cvT l0)) == (Wc (cvT l0))) == true) (by simp)) (ww bO (ww bO (pp (pp (xr l0) (xw bN)) (pp (pp (xr l0) (xw bN)) (tt k4 (tt k3 (tt k2 (tt k1 (tt k0 nn))))))))))))))))))))))))) (fun k2=>(lb (fun k3=>(lr 79 3 [1,0,1,0,0] 1 3 [(4,(.bool true))] (sl Qy 41 [] ⟨[],[],[some [4]],[]⟩ ⟨[],[],[]⟩ [false,false,false,false,false,false,false,false,false,false,false,false,false,false,false,false,false,true] (tt k3 (tt k2 (tt k1 (tt k0 nn))))))) (fun k3=>(lo fun bW=>(lo fun bX=>(lo fun cA=>(lb (fun k4=>(lr 79 3 [1,1,1,1,1,1,0] 1 3 [(4,(.bool ((Xr x1) == (Xr x1))))] (sl Qy 100 [] ⟨[],[],[some [4]],[]⟩ ⟨[],[],[]⟩ [false,false,false,false,false,false,false,false,false,false,false,false,false,false,false,false,false,false,true,true,true,true,true,true,true,true,true] (tt k4 (pp (pp (xI R7 (Zd x1).length (Zz (Zd x1))) (pp (xI R7 (Zd x1).length (Zz (Zd x1))) (xw cA))) (pp (xG (((Wb (cvT l0)) == (Wb (cvT l0))) == true) (by simp)) (pp (xG (((Wc (cvT l0)) == (Wc (cvT l0))) == true) (by simp)) (ww bX (ww bX (pp (pp (xr l0) (xw bW)) (pp (pp (xr l0) (xw bW)) (tt k3 (tt k2 (tt k1 (tt k0 nn))))))))))))))) (fun k4=>(lr 79 3 [1,1,1,1,1,1,0] 1 3 [(4,(.bool false))] (sl Qy 100 [] ⟨[],[],[some [4]],[]⟩ ⟨[],[],[]⟩ [false,false,false,false,false,false,false,false,false,false,false,false,false,false,false,false,false,false,true,true,true,true,true,true,false,false,false] (tt k4 (pp (pp (xI R7 (Zd x1).length (Zz (Zd x1))) (pp (xI R7 (Zd x1).length (Zz (Zd x1))) (xw cA))) (pp (xG (((Wb (cvT l0)) == (Wb (cvT l0))) == true) (by simp)) (pp (xG (((Wc (cvT l0)) == (Wc (cvT l0))) == true) (by simp)) (ww bX (ww bX (pp (pp (xr l0) (xw bW)) (pp (pp (xr l0) (xw bW)) (tt k3 (tt k2 (tt k1 (tt k0 nn)))))))))))))))))))))))))))
theorem law_ends (l0:List R7) (x1:List UInt8) (n:Nat) (vs:List AVal) (h:goOn (lawstep l0 x1) n (lawstart l0 x1)=.ret vs):z2v prog (Zx prog 3) (Zs prog 3 [(.dat l0.length (Zz l0)),(.str x1)] true []) vs:=by have:=Yd (y7q l0 x1) n _ (y3a l0 x1);rwa [h] at this
theorem y7k : ∀(l:List (List UInt8)) (m:List R7),Xd l=some m→m.length=l.length:=fun l m h=>(z4s l m h).2
theorem y9p {s:List UInt8} {ls:List (List UInt8)} (h:Qm s=some ls):ls.length≤s.length:=by
 unfold Qm at h;split at h
 ·obtain rfl:=Ac h;have:=Wz 10 s [];rw [List.length_dropLast];omega
 ·cases h
theorem x3k (s:List UInt8):(Zd s).length ≤s.length:=by
 unfold Zd;rw [z4e];cases decide (60000<s.length) with
 | true=>exact AF _
 | false=>
  rw [Ai];cases hr:Qm s with
  | none=>exact AF _
  | some ls=>
   show (x7b (Xd ls)).1.length ≤_;cases hl:Xd ls with
   | none=>exact AF _
   | some L=>
    have h1:=y7k ls L hl;have h2:=y9p hr;rw [z0q];cases Vh L != 0 with
    | true=>exact AF _
    | false=>show L.length≤_;omega
theorem law_run (l:List R7) (s:List UInt8) (ho:Yk l=true):lawstart l s=.ret [.bool true]:=by
 have fin:s.length≤61000→(bif (Up (cvT l)) then (bif (Wg s) then (bif (Ve (cvT (Zd s)) (cvT (Zd s))) then (bif (x2r (cvT (Zd s)) (cvT (Zd s))) then (.ret [(.bool ((Xr s) == (Xr s)))]) else (.ret [(.bool false)])) else .stuck) else .stuck) else (.stuck :Vj lawS))=.ret [.bool true]:=fun hs=>by
  have hl:=x3k s;have h1:x2r (Zd s) (Zd s)=true:=by unfold x2r x5i;exact Ah rfl
  rw [y5t,y5t,Zp (show Up l=true from ho),Zp (show Wg s=true from Ah (by omega)),Zp (show Ve (Zd s) (Zd s)=true from Ah (by omega)),Zp h1];rw [x6b rfl]
 unfold lawstart;by_cases c1:(l.length:Int)>80
 ·rw [Ah c1,Ap];by_cases c2:(l.length:Int)≤3000
  ·rw [Ah c2];rfl
  ·rw [Ak c2,Ai];by_cases c3:(l.length:Int)>3020
   ·rw [Ah c3];rfl
   ·rw [Ak c3,Ai];by_cases c4:(s.length:Int)>4000
    ·rw [Ah c4,Ap];by_cases c5:(s.length:Int)≤60000
     ·rw [Ah c5];rfl
     ·rw [Ak c5,Ai];by_cases c6:(s.length:Int)>61000
      ·rw [Ah c6];rfl
      ·rw [Ak c6,Ai];exact fin (by omega)
    ·rw [Ak c4,Ai];by_cases c6:(s.length:Int)>61000
     ·rw [Ah c6];rfl
     ·rw [Ak c6,Ai];exact fin (by omega)
 ·rw [Ak c1,Ai];by_cases c3:(l.length:Int)>3020
  ·rw [Ah c3];rfl
  ·rw [Ak c3,Ai];by_cases c4:(s.length:Int)>4000
   ·rw [Ah c4,Ap];by_cases c5:(s.length:Int)≤60000
    ·rw [Ah c5];rfl
    ·rw [Ak c5,Ai];by_cases c6:(s.length:Int)>61000
     ·rw [Ah c6];rfl
     ·rw [Ak c6,Ai];exact fin (by omega)
   ·rw [Ak c4,Ai];by_cases c6:(s.length:Int)>61000
    ·rw [Ah c6];rfl
    ·rw [Ak c6,Ai];exact fin (by omega)
theorem mck_lst {n:Nat} (c:Nat→Nat→Int) (h: ∀i,i<n→ ∀(j:Nat) (k:IntKind),[IntKind.u8,.i64,.i64,.i64,.i64,.i64,.i64][j]? =some k→k.has (c i j)):
  Yk (lst R7 n fun i=>rowOf [.u8,.i64,.i64,.i64,.i64,.i64,.i64] (c i))=true:=by
 refine Aw.2 fun r hr=> ?_;obtain ⟨i,hi,rfl⟩:=List.mem_map.1 hr;have hi:=AN.1 hi;have:=h i hi 0 .u8 rfl;simp [IntKind.has,IntKind.min,IntKind.max,IntKind.signed,IntKind.bits] at this;have e:(Wk.of (rowOf [.u8,.i64,.i64,.i64,.i64,.i64,.i64] (c i)):R7).a =c i 0:=rfl;rw [e,Ah (show 0≤c i 0 by omega),Ah (show c i 0<256 by omega)];rfl
end Go.Am
end
