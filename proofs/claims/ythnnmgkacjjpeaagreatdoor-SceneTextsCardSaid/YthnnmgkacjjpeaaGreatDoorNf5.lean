/- A part of a proof: several texts in one. -/
import Derived.Test.YthnnmgkacjjpeaaGreatDoorNf4
set_option maxRecDepth 1000000
set_option maxHeartbeats 8000000
set_option linter.unusedVariables false
set_option linter.unusedSimpArgs false
noncomputable section
namespace Go.Am
open IntKind (wrap)
open Go.Proofs.Tryz
open Go.Proofs Go.Lib Go.Sort
theorem LZ {P:Program} {S:B7} (hS:Zv P S) {f:FuncId} {F:zx->Option (B5×Bool)} (hf:(P.funcs[f]?).any (fun fn=>fn.body.isSome)=true)
  (hF: ∀args v,F args=some (v,true)-> ∃bs vs,Ux DO args bs/\(∀(ρ:B9) (u:Value),Zn ρ (Kg vs) u->Zn ρ v u)/\Kw P (Zy P f) (Zm P f bs true []) vs/\ ∃d,pf d (Kg vs)=true):Zv P (S.with f F):=
 x0o hS hf fun args v h=>by obtain ⟨bs,vs,h1,h2,h3,d,h4⟩:=hF args v h;exact ⟨vs,h2,ZU h1 h3,d,h4⟩
theorem MT {s:zy} {i:Nat} (h:i<s.length):CW s i=((s[i].toNat :Nat):Int):=by unfold CW;rw [A9,At h];rfl
theorem v1z (c:UInt8):c.toNat<256:=UInt8.toNat_lt c
theorem u8a (c:UInt8): ∀s:zy,Lib.indexByte s c+1<=(s.length:Int)
 | []=>by show (-1:Int)+1<=((0:Nat):Int);omega
 | b::l=>by
  have ih:=u8a c l;unfold Lib.indexByte;rw [Aq];split
  .omega
  .split <;> omega
theorem x4y (x:zy) (k:Nat):(x.drop k).take (x.length - k)=x.drop k:=A4 (by rw [Be];omega)
def Wz (s sep:zy):zy:=bif decide (0<=C7 s sep) then s.take (C7 s sep).toNat else s
def Vx (s sep:zy):zy:=bif decide (0<=C7 s sep) then s.drop ((C7 s sep).toNat +1) else []
def Kj (s sep:zy):Bool:=decide (0<=C7 s sep)
def Qg (s sep:zy):Bool:=Nat.beq sep.length 1&&decide (s.length<=1000000)
theorem j3j (s sep:zy) (h:Qg s sep=true): ∃N,Zt (w1s s sep) N (Rm s sep)=.ret [.str (Wz s sep),.str (Vx s sep),.bool (Kj s sep)]:=⟨0,by
 unfold Qg at h;rw [Ad,An] at h;have hl:=Ai h.1;have hi:C7 s sep+1<=(s.length:Int):=u8a _ _;show Rm s sep=_;unfold Rm Wz Vx Kj;rw [Zu (show ZZ s sep=true from h.1),hl];by_cases g:0<=C7 s sep
 .have w:wrap .i64 (C7 s sep+((1:Nat):Int))=C7 s sep+1:=Zq (by omega);have e0:decide (0<=C7 s sep)=true:=Aa g;have e1:decide (C7 s sep>=0)=true:=Aa g;rw [e0,w];simp only [Af];rw [Zu (Aa (show (C7 s sep).toNat <=s.length by omega)),
   Zu (Aa (show (C7 s sep+1).toNat <=s.length by omega)),Zu (Aa (show 0<=C7 s sep+1 by omega)),AM,x4y,
   show (C7 s sep+1).toNat =(C7 s sep).toNat +1 by omega]
 .have e0:decide (0<=C7 s sep)=false:=Ah g;have e1:decide (C7 s sep>=0)=false:=Ah g;rw [e0];rfl⟩
def PC :zx->Option (B5×Bool)
 | [.str s,.str sep]=>some (.tup [.str (Wz s sep),.str (Vx s sep),.bool (Kj s sep)],Qg s sep)
 | _=>none
theorem j5d {S:B7} (hS:Zv prog S):Zv prog (S.with Tt PC):=CU hS (by kernel_rfl) fun args v h=>by
 unfold PC at h;split at h
 .rename_i s sep;simp only [Ae,Ac] at h;obtain ⟨rfl,ho⟩:=h;obtain ⟨N,hN⟩:=j3j s sep ho;exact ⟨_,_,.cons (.refl _) (.cons (.refl _) .nil),rfl,u2s s sep N _ hN,3,rfl⟩
 .cases h
def EG (s f:zy):Bool:=decide (f.length<=s.length)&&(s.drop (s.length - f.length) == f)
def Yg (s f:zy):zy:=bif EG s f then s.take (s.length - f.length) else s
def Qe (s f:zy):Bool:=decide (s.length<=1000000)&&decide (f.length<=1000000)
theorem j6c (s f:zy) (h:Qe s f=true): ∃N,Zt (w3b s f) N (Rf s f)=.ret [.str (Yg s f),.bool (EG s f)]:=⟨0,by
 unfold Qe at h;rw [Ad,An,An] at h;show Rf s f=_;unfold Rf Yg EG;by_cases g:f.length<=s.length
 .have w:wrap .i64 ((s.length:Int) - (f.length:Int))=((s.length - f.length:Nat):Int):=by rw [Zq (by omega)];omega
  rw [Aa g,Aa (show (s.length:Int)>=(f.length:Int) by omega),Af,w,Zj,As,x4y,Zu (Aa (show s.length - f.length<=s.length by omega)),Zu (Aa (show (0:Int)<=((s.length - f.length:Nat):Int) by omega)),AM];cases s.drop (s.length - f.length) == f <;> rfl
 .rw [Ah g,Ah (show ¬(s.length:Int)>=(f.length:Int) by omega)];rfl⟩
def PK :zx->Option (B5×Bool)
 | [.str s,.str f]=>some (.tup [.str (Yg s f),.bool (EG s f)],Qe s f)
 | _=>none
theorem j5n {S:B7} (hS:Zv prog S):Zv prog (S.with UG PK):=CU hS (by kernel_rfl) fun args v h=>by
 unfold PK at h;split at h
 .rename_i s f;simp only [Ae,Ac] at h;obtain ⟨rfl,ho⟩:=h;obtain ⟨N,hN⟩:=j6c s f ho;exact ⟨_,_,.cons (.refl _) (.cons (.refl _) .nil),rfl,u3y s f N _ hN,3,rfl⟩
 .cases h
def IE (n:Nat):Bool:=decide (97<=n)&&decide (n<=122)
def digN (n:Nat):Bool:=decide (48<=n)&&decide (n<=57)
def JC (i n:Nat):Bool:=IE n||(decide (i≠0)&&(decide (n=45)||digN n))
def Gt :Nat->zy->Bool
 | _,[]=>true
 | i,c::r=>JC i c.toNat&&Gt (i+1) r
def Ch (s:zy):Bool:=decide (1<=s.length)&&(decide (s.length<=40)&&Gt 0 s)
def Ue (s:zy):Bool:=decide (s.length<=1000000)
theorem u2b {s:zy} {i:Nat} (hi:i<s.length):Lt s (.h0 i)=bif JC i s[i].toNat then .to (.h0 (i+1)) else .ret [.bool false]:=by
 unfold Lt JC IE digN;simp only [];rw [Xs hi,Af];have hz:(((i:Nat):Int) == 0)=decide (i=0):=by rw [AK];simp
 rw [hz];by_cases ha:s[i].toNat <128
 .obtain ⟨e1,e2⟩:=w6k hi ha;rw [e1,e2];generalize s[i].toNat =c;by_cases h1:97<=c
  .rw [Dr (by omega),Aa h1];by_cases h2:c<=122
   .rw [Wj (by omega),Aa h2];rfl
   .rw [Ew (by omega),Ah h2,Qm (by omega),Yo (by omega),Xv (by omega),Ah (show ¬c=45 by omega),Ah (show ¬c<=57 by omega),A2,A2,Bool.or_false,A2];cases decide (i=0) <;> rfl
  .rw [F6 (by omega),Ah h1,A3,Bi];by_cases h0:i=0
   .rw [Aa h0,Ah (show ¬i≠0 from fun h=>h h0)];rfl
   .rw [Ah h0,Aa (show i≠0 from h0)];by_cases h3:c=45
    .rw [Qo (by omega),Aa h3];rfl
    .rw [Qm (by omega),Ah h3,As,Bi];by_cases h4:48<=c
     .rw [Yo (by omega),Aa h4];by_cases h5:c<=57
      .rw [Xb (by omega),Aa h5];rfl
      .rw [Xv (by omega),Ah h5];rfl
     .rw [Ym (by omega),Ah h4];rfl
 .have hb:=u8j hi ha;generalize s[i].toNat =c at ha ⊢;rw [Dr (by omega),Ew (by omega),Qm (by omega),Yo (by omega),Xv (by omega),Aa (show 97<=c by omega),Ah (show ¬c<=122 by omega),Ah (show ¬c=45 by omega),Ah (show ¬c<=57 by omega),A2,A2,Bool.or_false,A2];cases decide (i=0) <;> rfl
theorem u7e {s:zy}: ∀(k i:Nat),i+k=s.length-> ∃N,Zt (Lt s) N (.to (.h0 i))=.ret [.bool (Gt i (s.drop i))]
 | 0,i,h=>⟨1,by
  rw [Zx,Av (by omega)];unfold Lt;simp only [];rw [Ah (show ¬i<s.length by omega)];rfl⟩
 | k+1,i,h=>by
  have hi:i<s.length:=by omega
  obtain ⟨N,hN⟩:=u7e (s:=s) k (i+1) (by omega);refine ⟨N+1,?_⟩;rw [Zx,u2b hi,AQ hi,Gt];cases JC i s[i].toNat with
  | true=>rw [Af,hN,As]
  | false=>rw [Ab,Za];rfl
theorem j2q (s:zy) (h:Ue s=true): ∃N,Zt (Lt s) N (VR s)=.ret [.bool (Ch s)]:=by
 unfold VR Ch;by_cases h1:1<=s.length
 .rw [Aa h1,show ((s.length:Int) == 0)=false from HO (by omega),Ab,As];by_cases h2:s.length<=40
  .rw [Aa h2,Xb (by omega),Ab,As];exact u7e s.length 0 (by omega)
  .rw [Ah h2,Xv (by omega),Af];exact ⟨0,rfl⟩
 .rw [Ah h1,show ((s.length:Int) == 0)=true from QJ (by omega),Af];exact ⟨0,rfl⟩
theorem u0d {s:zy} {i:Nat} (hi:i<s.length) (hs:s.length<=1000000):Lx s (.h0 (i:Int))=bif JC i s[i].toNat then .to (.h0 ((i+1:Nat):Int)) else .ret [.bool false]:=by
 unfold Lx JC IE digN;have w2:wrap .i64 ((i:Int)+1)=((i+1:Nat):Int):=Zq (by omega);simp only [Zj,w2,MT hi];rw [Ym (by omega),Af,Zu (Yx (by omega))];have hz:(((i:Nat):Int) == 0)=decide (i=0):=by rw [AK];simp
 rw [hz];generalize s[i].toNat =c;by_cases h1:97<=c
 .rw [Dr (by omega),Aa h1];by_cases h2:c<=122
  .rw [Wj (by omega),Aa h2];rfl
  .rw [Ew (by omega),Ah h2,Qm (by omega),Dr (by omega),Ew (by omega),Ah (show ¬c=45 by omega),Ah (show ¬c<=57 by omega),A2,A2,Bool.or_false,A2];cases decide (i=0) <;> rfl
 .rw [F6 (by omega),Ab,Ah h1,A3,Bi];by_cases h0:i=0
  .rw [Aa h0,Ah (show ¬i≠0 from fun h=>h h0)];rfl
  .rw [Ah h0,Aa (show i≠0 from h0)];by_cases h3:c=45
   .rw [Qo (by omega),Aa h3];rfl
   .rw [Qm (by omega),Ah h3,As,Bi];by_cases h4:48<=c
    .rw [Dr (by omega),Aa h4];by_cases h5:c<=57
     .rw [Wj (by omega),Aa h5];rfl
     .rw [Ew (by omega),Ah h5];rfl
    .rw [F6 (by omega),Ah h4];rfl
theorem u6b {s:zy} (hs:s.length<=1000000): ∀(k i:Nat),i+k=s.length-> ∃N,Zt (Lx s) N (.to (.h0 (i:Int)))=.ret [.bool (Gt i (s.drop i)&&(decide (1<=s.length)&&decide (s.length<=40)))]
 | 0,i,h=>⟨1,by
  rw [Zx,Av (by omega)];unfold Lx;simp only [];rw [Yo (by omega),Ab];by_cases h1:1<=s.length
  .rw [Dr (by omega),Aa h1,Af,show decide ((s.length:Int)<=40)=decide (s.length<=40) by rw [AK,An,An];omega];exact Za _ _ _
  .rw [F6 (by omega),Ah h1];rfl⟩
 | k+1,i,h=>by
  have hi:i<s.length:=by omega
  obtain ⟨N,hN⟩:=u6b hs k (i+1) (by omega);refine ⟨N+1,?_⟩;rw [Zx,u0d hi hs,AQ hi,Gt];cases JC i s[i].toNat with
  | true=>rw [Af,hN,As]
  | false=>rw [Ab,Za];rfl
theorem j0z (s:zy) (h:Ue s=true): ∃N,Zt (Lx s) N (x2v s)=.ret [.bool (Ch s)]:=by
 obtain ⟨N,hN⟩:=u6b (s:=s) (Aw h) s.length 0 (by omega);refine ⟨N,?_⟩;have e:Ch s=(Gt 0 (s.drop 0)&&(decide (1<=s.length)&&decide (s.length<=40))):=by unfold Ch;rw [AM];cases Gt 0 s <;> cases decide (1<=s.length) <;> cases decide (s.length<=40) <;> rfl
 rw [e];exact hN
def FU :zx->Option (B5×Bool)
 | [.str s]=>some (.bool (Ch s),Ue s)
 | _=>none
theorem j4y {S:B7} (hS:Zv prog S):Zv prog (S.with Tl FU):=CU hS (by kernel_rfl) fun args v h=>by
 unfold FU at h;split at h
 .rename_i s;simp only [Ae,Ac] at h;obtain ⟨rfl,ho⟩:=h;obtain ⟨N,hN⟩:=j2q s ho;exact ⟨_,_,.cons (.refl _) .nil,rfl,u2c s N _ hN,3,rfl⟩
 .cases h
theorem j4o {S:B7} (hS:Zv prog S):Zv prog (S.with TJ FU):=CU hS (by kernel_rfl) fun args v h=>by
 unfold FU at h;split at h
 .rename_i s;simp only [Ae,Ac] at h;obtain ⟨rfl,ho⟩:=h;obtain ⟨N,hN⟩:=j0z s ho;exact ⟨_,_,.cons (.refl _) .nil,rfl,u0e s N _ hN,3,rfl⟩
 .cases h
def Ja (s:zy):List zy:=bif s == [] then [] else Ye 47 [] s
def Pp (s:zy):Bool:=decide (s.length<=1000000)
def Ht (s:zy):zx:=bif s == [] then [.nils] else [.dat (Ye 47 [] s).length (Zz (Ye 47 [] s))]
theorem v4d {s:zy} (hs:s.length<=1000000): ∀(k i fr:Nat) (out:List zy),i+k=s.length->fr<=i->out.length<=i->
  ∃N,Zt (Ge s) N (.to (.h0 out (fr:Int) (i:Int)))=.ret [.dat (out++Ye 47 ((s.drop fr).take (i - fr)) (s.drop i)).length (Zz (out++Ye 47 ((s.drop fr).take (i - fr)) (s.drop i)))]
 | 0,i,fr,out,h,hfi,ho=>by
  refine ⟨2,?_⟩;have w2:wrap .i64 ((i:Int)+1)=((i+1:Nat):Int):=Zq (by omega);have e:Ge s (.h0 out (fr:Int) (i:Int))=.to (.h0 (out++[(s.drop fr).take (i - fr)]) ((i+1:Nat):Int) ((i+1:Nat):Int)):=by unfold Ge;simp only [Zj,w2];rw [Zu (Wj (by omega)),Zu (QJ (by omega)),Zu (Xe hfi),Zu (Xe (by omega)),Zu (Wj (by omega)),Zu (Wj (by omega)),Zu (HB (by omega))]
  have e2: ∀o,Ge s (.h0 o ((i+1:Nat):Int) ((i+1:Nat):Int))=.ret [.dat o.length (Zz o)]:=fun o=>by unfold Ge;simp only [];rw [Ew (by omega),Ab]
  rw [Zx,e,Zx,e2,Av (show s.length<=i by omega)];rfl
 | k+1,i,fr,out,h,hfi,ho=>by
  have hi:i<s.length:=by omega
  have hc:=v1z s[i];have w2:wrap .i64 ((i:Int)+1)=((i+1:Nat):Int):=Zq (by omega);have hbb:((((s[i].toNat :Nat):Int)) == 47)=(s[i] == 47):=by
   rw [AK,AR,AR];constructor
   .intro h;apply UInt8.toNat_inj.1;show s[i].toNat =47;omega
   .intro h;rw [h];rfl
  have e:Ge s (.h0 out (fr:Int) (i:Int))=bif s[i] == 47 then .to (.h0 (out++[(s.drop fr).take (i - fr)]) ((i+1:Nat):Int) ((i+1:Nat):Int)) else .to (.h0 out (fr:Int) ((i+1:Nat):Int)):=by unfold Ge;simp only [Zj,w2,MT hi,hbb];rw [Zu (Wj (by omega)),HO (by omega),Ab,Zu (Yx (by omega))];rw [Zu (Xe hfi),Zu (Xe (by omega)),Zu (Wj (by omega)),Zu (Wj (by omega)),Zu (HB (by omega))]
  rw [AQ hi,Ye];cases g:s[i] == 47 with
  | true=>obtain ⟨N,hN⟩:=v4d hs k (i+1) (i+1) (out++[(s.drop fr).take (i - fr)]) (by omega) (Aj _) (by rw [Ap,AE];omega);refine ⟨N+1,?_⟩;rw [Zx,e,g,Af,Af,hN,BR,List.take_zero,AI];rfl
  | false=>
   obtain ⟨N,hN⟩:=v4d hs k (i+1) fr out (by omega) (by omega) (by omega);refine ⟨N+1,?_⟩;have ht:(s.drop fr).take (i+1 - fr)=(s.drop fr).take (i - fr)++[s[i]]:=by
    rw [show i+1 - fr=(i - fr)+1 by omega,Bp]
    congr 1
    rw [BV,show fr+(i - fr)=i by omega,At hi];rfl
   rw [Zx,e,g,Ab,Ab,hN,ht]
theorem j1v (s:zy) (h:Pp s=true): ∃N,Zt (Ge s) N (VW s)=.ret (Ht s):=by
 unfold VW Ht;cases g:s == [] with
 | true=>exact ⟨0,rfl⟩
 | false=>obtain ⟨N,hN⟩:=v4d (s:=s) (Aw h) s.length 0 0 [] (Ak _) (Aj _) (Aj _);exact ⟨N,hN⟩
def Ow :zx->Option (B5×Bool)
 | [.str s]=>some (.dat (Ja s).length (Zz (Ja s)),Pp s)
 | _=>none
theorem j4t {S:B7} (hS:Zv prog S):Zv prog (S.with TO Ow):=LZ hS (by kernel_rfl) fun args v h=>by
 unfold Ow at h;split at h
 .rename_i s;simp only [Ae,Ac] at h;obtain ⟨rfl,ho⟩:=h;obtain ⟨N,hN⟩:=j1v s ho;refine ⟨_,_,.cons (.refl _) .nil,?_,u0t s N _ hN,3,?_⟩
  .unfold Ht Ja;cases s == [] with
   | true=>exact fun ρ u hu=>by cases hu;exact .datn _
   | false=>exact fun ρ u hu=>hu
  .unfold Ht;cases s == [] <;> rfl
 .cases h
def UO :B7:=((((UP.with Tt PC).with UG PK).with Tl FU).with TJ FU).with TO Ow
theorem Wp :Zv prog UO:=j4t (j4o (j4y (j5n (j5d Xq))))
inductive FO where
 | h0 (v9:Int) (cV:Nat)
def ON (x0:zy):FO->CH
 | .h0 v9 cV=>⟨⟨82,0,true⟩,none,(Zf prog 84 (pn 1215) 0),none,(Zy prog 84),⟨Yh [(2,(.ptr 0 0)),(4,(.str (Wz x0 ([91]:zy)))),(9,(ii v9)),(62,(.ptr 1 0))],Wd [⟨[(.str []),(ii 0)],144,none⟩,⟨[(.obj (.it (Yg (Vx x0 ([91]:zy)) ([93]:zy)) cV))],9,none⟩] 0,2,[],true⟩,[],.leaf⟩
def j3b :List (Option zw):=[some [2,4,9,62]]
def j3c :List (Option zw):=[]
def Lr (x0:zy):FO->Xy FO
 | .h0 v9 cV=>(bif (decide (cV<(Yg (Vx x0 ([91]:zy)) ([93]:zy)).length)) then (bif (decide ((Di (Yg (Vx x0 ([91]:zy)) ([93]:zy)) cV)<48)) then (.ret [(.agg [(.str []),(.int .i64 0)]),(.bool false)]) else (bif (decide ((Di (Yg (Vx x0 ([91]:zy)) ([93]:zy)) cV)>57)) then (.ret [(.agg [(.str []),(.int .i64 0)]),(.bool false)]) else (.to (.h0 (wrap .i64 ((wrap .i64 (10*v9))+(wrap .i64 (wrap IntKind.i32 ((Di (Yg (Vx x0 ([91]:zy)) ([93]:zy)) cV) - 48))))) (cV+Fn (Yg (Vx x0 ([91]:zy)) ([93]:zy)) cV))))) else (.ret [(.agg [(.str (Wz x0 ([91]:zy))),(.int .i64 v9)]),(.bool true)]))
def VO (x0:zy):Xy FO:=(bif (Qg x0 ([91]:zy)) then (bif (Ue (Wz x0 ([91]:zy))) then (bif (!(Ch (Wz x0 ([91]:zy)))) then (bif (!(Kj x0 ([91]:zy))) then (.ret [(.agg [(.str (Wz x0 ([91]:zy))),(.int .i64 (-1))]),(.bool (Ch (Wz x0 ([91]:zy))))]) else (.ret [(.agg [(.str (Wz x0 ([91]:zy))),(.int .i64 (-1))]),(.bool false)])) else (bif (!(Kj x0 ([91]:zy))) then (.ret [(.agg [(.str (Wz x0 ([91]:zy))),(.int .i64 (-1))]),(.bool (Ch (Wz x0 ([91]:zy))))]) else (bif (Qe (Vx x0 ([91]:zy)) ([93]:zy)) then (bif (!(EG (Vx x0 ([91]:zy)) ([93]:zy))) then (.ret [(.agg [(.str []),(.int .i64 0)]),(.bool false)]) else (bif ((((Yg (Vx x0 ([91]:zy)) ([93]:zy)).length :Nat):Int) == 0) then (.ret [(.agg [(.str []),(.int .i64 0)]),(.bool false)]) else (bif (decide ((((Yg (Vx x0 ([91]:zy)) ([93]:zy)).length :Nat):Int)>4)) then (.ret [(.agg [(.str []),(.int .i64 0)]),(.bool false)]) else (bif (decide ((0:Int)<=0/\0<(((Yg (Vx x0 ([91]:zy)) ([93]:zy)).length :Nat):Int))) then (bif ((CW (Yg (Vx x0 ([91]:zy)) ([93]:zy)) 0) == 48) then (bif (decide ((((Yg (Vx x0 ([91]:zy)) ([93]:zy)).length :Nat):Int)>1)) then (.ret [(.agg [(.str []),(.int .i64 0)]),(.bool false)]) else (.to (.h0 0 0))) else (.to (.h0 0 0))) else .stuck)))) else .stuck))) else .stuck) else .stuck)
theorem w9l (x0:zy): ∀s,Wu prog (Zy prog 84) (ON x0) (ON x0 s) (Lr x0 s)
 | .h0 v9 cV=>let b:=Zy prog 84;(lb (fun k0=>let a:=Zf prog 84 (pn 306367) 1;(lb (fun k1=>(Jy ⟨⟨82,0,true⟩,none,a,none,b,⟨Yh [(2,(.ptr 0 0)),(3,(.bool false))],Wd [⟨[(.str []),(ii 0)],144,none⟩] 0,1,[],true⟩,[],.leaf⟩ (sl Wp 31 [] ⟨[0],[],[some [2,3]],[]⟩ b7 (CC 5 []) (tt k1 (tt k0 nn))) rfl (by kernel_rfl))) (fun k1=>let c:=tt k1 (tt k0 nn);(lb (fun k2=>(Jy ⟨⟨82,0,true⟩,none,a,none,b,⟨Yh [(2,(.ptr 0 0)),(3,(.bool false))],Wd [⟨[(.str []),(ii 0)],144,none⟩] 0,1,[],true⟩,[],.leaf⟩ (sl Wp 31 [] ⟨[0],[],[some [2,3]],[]⟩ b7 (bl 5 19) (tt k2 c)) rfl (by kernel_rfl))) (fun k2=>(sl Wp 37 [] ⟨[0,1],[],j3b,j3c⟩ b7 (bl 5 3) (tt k2 c))))))) (fun k0=>(Jy ⟨⟨82,0,true⟩,none,(Zf prog 3 (pn 191) 1),none,b,⟨Yh [(2,(.ptr 0 0)),(3,(.bool true))],Wd [⟨[(.str (Wz x0 ([91]:zy))),(ii v9)],144,none⟩] 0,1,[],true⟩,[],.leaf⟩ (sl Wp 16 [] ⟨[0],[],[some [2,3]],[]⟩ b7 (bl 2 0) (tt k0 nn)) rfl (by kernel_rfl))))
theorem w1n (x0:zy):Wu prog (Zy prog 84) (ON x0) (Zm prog 84 [(.str x0)] true []) (VO x0):=(lo fun cP=>(lo fun dI=>let b:=Wz x0 ([91]:zy);let e:=Zy prog 84;let f:=Zf prog 84 (pn 75) 1;let g:=ww dI (ww cP nn);(lb (fun k0=>(lb (fun k1=>(Jy ⟨⟨82,0,true⟩,none,f,none,e,⟨Yh [(2,(.ptr 0 0)),(3,(.bool (Ch b)))],Wd [⟨[(.str b),(ii (-1))],144,none⟩] 0,1,[],true⟩,[],.leaf⟩ (sl Wp 42 [] ⟨[0],[],[some [2,3]],[]⟩ b7 (CC 5 []) (ww dI (tt k1 (tt k0 g)))) rfl (by kernel_rfl))) (fun k1=>(Jy ⟨⟨82,0,true⟩,none,f,none,e,⟨Yh [(2,(.ptr 0 0)),(3,(.bool false))],Wd [⟨[(.str b),(ii (-1))],144,none⟩] 0,1,[],true⟩,[],.leaf⟩ (sl Wp 42 [] ⟨[0],[],[some [2,3]],[]⟩ b7 (CC 3 (bl 2 0)) (tt k1 (tt k0 g))) rfl (by kernel_rfl))))) (fun k0=>(lb (fun k1=>(Jy ⟨⟨82,0,true⟩,none,f,none,e,⟨Yh [(2,(.ptr 0 0)),(3,(.bool (Ch b)))],Wd [⟨[(.str b),(ii (-1))],144,none⟩] 0,1,[],true⟩,[],.leaf⟩ (sl Wp 42 [] ⟨[0],[],[some [2,3]],[]⟩ b7 (bl 5 28) (ww dI (tt k1 (tt k1 (tt k0 g))))) rfl (by kernel_rfl))) (fun k1=>(lo fun bO=>let a:=ww bO (tt k1 (tt k0 g));let c:=Zf prog 84 (pn 303) 1;(lb (fun k2=>(Jy ⟨⟨82,0,true⟩,none,c,none,e,⟨Yh [(2,(.ptr 0 0)),(3,(.bool false))],Wd [⟨[(.str []),(ii 0)],144,none⟩] 0,1,[],true⟩,[],.leaf⟩ (sl Wp 73 [] ⟨[0],[],[some [2,3]],[]⟩ b7 (bl 15 32760) (tt k2 a)) rfl (by kernel_rfl))) (fun k2=>(lb (fun k3=>(Jy ⟨⟨82,0,true⟩,none,c,none,e,⟨Yh [(2,(.ptr 0 0)),(3,(.bool false))],Wd [⟨[(.str []),(ii 0)],144,none⟩] 0,1,[],true⟩,[],.leaf⟩ (sl Wp 73 [] ⟨[0],[],[some [2,3]],[]⟩ b7 (bl 15 32704) (tt k3 (tt k2 a))) rfl (by kernel_rfl))) (fun k3=>let h:=tt k3 (tt k2 a);(lb (fun k4=>(Jy ⟨⟨82,0,true⟩,none,c,none,e,⟨Yh [(2,(.ptr 0 0)),(3,(.bool false))],Wd [⟨[(.str []),(ii 0)],144,none⟩] 0,1,[],true⟩,[],.leaf⟩ (sl Wp 73 [] ⟨[0],[],[some [2,3]],[]⟩ b7 (bl 15 32256) (tt k4 h)) rfl (by kernel_rfl))) (fun k4=>(lo fun cW=>let d:=ww cW (tt k4 h);(lb (fun k5=>(lb (fun k6=>(Jy ⟨⟨82,0,true⟩,none,c,none,e,⟨Yh [(2,(.ptr 0 0)),(3,(.bool false))],Wd [⟨[(.str []),(ii 0)],144,none⟩] 0,1,[],true⟩,[],.leaf⟩ (sl Wp 73 [] ⟨[0],[],[some [2,3]],[]⟩ b7 (bl 18 188416) (tt k6 (tt k5 d))) rfl (by kernel_rfl))) (fun k6=>(sl Wp 80 [] ⟨[0,1],[],j3b,j3c⟩ b7 (bl 18 57344) (tt k6 (tt k5 d)))))) (fun k5=>(sl Wp 80 [] ⟨[0,1],[],j3b,j3c⟩ b7 (bl 18 0) (tt k5 d))))))))))))))))))
theorem u2m (x0:zy) (n:Nat) (vs:zx) (h:Zt (Lr x0) n (VO x0)=.ret vs):Kw prog (Zy prog 84) (Zm prog 84 [(.str x0)] true []) vs:=by have:=Zb (w9l x0) n _ (w1n x0);rwa [h] at this
inductive GL where
 | h0 (v5:Int)
 | h1 (v5:Int) (v6:zy) (v7:Int) (v8:Int)
def ND (x0:zy):GL->CH
 | .h0 v5=>⟨⟨84,0,true⟩,none,(Zf prog 87 (pn 35) 0),none,(Zy prog 62),⟨Yh [(0,(.str x0)),(5,(ii v5))],Wd [] 0,0,[],true⟩,[],.leaf⟩
 | .h1 v5 v6 v7 v8=>⟨⟨84,0,true⟩,none,(Zf prog 87 (pn 4863) 0),none,(Zy prog 62),⟨Yh [(0,(.str x0)),(5,(ii v5)),(6,(.str v6)),(7,(ii v7)),(8,(ii v8))],Wd [] 0,0,[],true⟩,[],.leaf⟩
def KH :List (Option zw):=[some [0,5]]
def KI :List (Option zw):=[]
def j0d :List (Option zw):=[some [0,5,6,7,8]]
def j0e :List (Option zw):=[]
def Kf (x0:zy):GL->Xy GL
 | .h0 v5=>let a:=Ue ((x0.drop 0).take v5.toNat);let b:=Ch ((x0.drop 0).take v5.toNat);(bif (decide (v5<(x0.length:Int))) then (bif (decide (0<=v5/\v5<(x0.length:Int))) then (bif ((CW x0 v5.toNat) != 91) then (.to (.h0 (wrap .i64 (v5+1)))) else (bif (decide (v5.toNat<=x0.length)) then (bif (decide (0<=v5)) then (bif a then (bif (!b) then (.ret [(.str []),(.int .i64 0),(.bool false)]) else (bif (v5 == (x0.length:Int)) then (.ret [(.str x0),(.int .i64 (-1)),(.bool true)]) else (bif (decide (0<=(wrap .i64 ((x0.length:Int) - 1))/\(wrap .i64 ((x0.length:Int) - 1))<(x0.length:Int))) then (bif ((CW x0 (Int.toNat (wrap .i64 ((x0.length:Int) - 1)))) != 93) then (.ret [(.str []),(.int .i64 0),(.bool false)]) else (bif (decide ((Int.toNat (wrap .i64 (v5+1)))<=(Int.toNat (wrap .i64 ((x0.length:Int) - 1))))) then (bif (decide ((Int.toNat (wrap .i64 ((x0.length:Int) - 1)))<=x0.length)) then (bif (decide (0<=(wrap .i64 (v5+1)))) then (bif (decide (0<=(wrap .i64 ((x0.length:Int) - 1)))) then (.to (.h1 v5 ((x0.drop (Int.toNat (wrap .i64 (v5+1)))).take ((Int.toNat (wrap .i64 ((x0.length:Int) - 1))) - (Int.toNat (wrap .i64 (v5+1))))) 0 0)) else .stuck) else .stuck) else .stuck) else .stuck)) else .stuck))) else .stuck) else .stuck) else .stuck)) else .stuck) else (bif (decide (v5.toNat<=x0.length)) then (bif (decide (0<=v5)) then (bif a then (bif (!b) then (.ret [(.str []),(.int .i64 0),(.bool false)]) else (bif (v5 == (x0.length:Int)) then (.ret [(.str x0),(.int .i64 (-1)),(.bool true)]) else (bif (decide (0<=(wrap .i64 ((x0.length:Int) - 1))/\(wrap .i64 ((x0.length:Int) - 1))<(x0.length:Int))) then (bif ((CW x0 (Int.toNat (wrap .i64 ((x0.length:Int) - 1)))) != 93) then (.ret [(.str []),(.int .i64 0),(.bool false)]) else (bif (decide ((Int.toNat (wrap .i64 (v5+1)))<=(Int.toNat (wrap .i64 ((x0.length:Int) - 1))))) then (bif (decide ((Int.toNat (wrap .i64 ((x0.length:Int) - 1)))<=x0.length)) then (bif (decide (0<=(wrap .i64 (v5+1)))) then (bif (decide (0<=(wrap .i64 ((x0.length:Int) - 1)))) then (.to (.h1 v5 ((x0.drop (Int.toNat (wrap .i64 (v5+1)))).take ((Int.toNat (wrap .i64 ((x0.length:Int) - 1))) - (Int.toNat (wrap .i64 (v5+1))))) 0 0)) else .stuck) else .stuck) else .stuck) else .stuck)) else .stuck))) else .stuck) else .stuck) else .stuck))
 | .h1 v5 v6 v7 v8=>let a:=CW v6 v8.toNat;(bif (decide (v8<(v6.length:Int))) then (bif (decide (0<=v8/\v8<(v6.length:Int))) then (bif (decide (a>=48)) then (bif (!(decide (a<=57))) then (.ret [(.str []),(.int .i64 0),(.bool false)]) else (bif (decide (v8>3)) then (.ret [(.str []),(.int .i64 0),(.bool false)]) else (.to (.h1 v5 v6 (wrap .i64 ((wrap .i64 (10*v7))+(wrap .i64 (wrap IntKind.u8 (a - 48))))) (wrap .i64 (v8+1)))))) else (.ret [(.str []),(.int .i64 0),(.bool false)])) else .stuck) else (bif ((v6.length:Int) == 0) then (.ret [(.str []),(.int .i64 0),(.bool false)]) else (bif (decide ((v6.length:Int)>1)) then (bif (decide ((0:Int)<=0/\0<(v6.length:Int))) then (bif ((CW v6 0) == 48) then (.ret [(.str []),(.int .i64 0),(.bool false)]) else (bif (decide (v5.toNat<=x0.length)) then (bif (decide (0<=v5)) then (.ret [(.str ((x0.drop 0).take v5.toNat)),(.int .i64 v7),(.bool true)]) else .stuck) else .stuck)) else .stuck) else (bif (decide (v5.toNat<=x0.length)) then (bif (decide (0<=v5)) then (.ret [(.str ((x0.drop 0).take v5.toNat)),(.int .i64 v7),(.bool true)]) else .stuck) else .stuck))))
def x2q (x0:zy):Xy GL:=(.to (.h0 0))
theorem w7w (x0:zy): ∀s,Wu prog (Zy prog 87) (ND x0) (ND x0 s) (Kf x0 s)
 | .h0 v5=>let c:=decide ((tn v5)<=x0.length);let d:=decide (0<=(tn v5));let e:=tn (wr ((x0.length:Int) - 1));let f:=b8 [2,3,4];let g:=decide ((tn (wr (v5+1)))<=e);let h:=decide (e<=x0.length);(lb (fun k0=>(lo fun aB=>let b:=ww aB (tt k0 nn);(lb (fun k1=>(sl Wp 24 [] ⟨[],[],KH,KI⟩ b7 (CC 5 []) (tt k1 b))) (fun k1=>(lo fun bO=>(lo fun dG=>(lo fun dR=>let a:=tt k1 b;(lb (fun k2=>(lr 84 87 (pn 151) 1 62 [(2,(.str [])),(3,(ii 0)),(4,(.bool false))] (sl Wp 32 [] f b7 (CC 4 (bl 2 2)) (tt k2 (ww dR (pp (pp (xw dG) (pp nn (pp (xG c) (xG d)))) a)))))) (fun k2=>(lb (fun k3=>(lr 84 87 (pn 303) 1 62 [(2,(.str x0)),(3,(ii (-1))),(4,(.bool true))] (sl Wp 43 [] f b7 (CC 4 (bl 3 4)) (tt k3 (tt k2 (ww dR (pp (pp (xw dG) (pp nn (pp (xG c) (xG d)))) a))))))) (fun k3=>(lo fun cN=>(lb (fun k4=>(lr 84 87 (pn 607) 1 62 [(2,(.str [])),(3,(ii 0)),(4,(.bool false))] (sl Wp 54 [] f b7 (CC 4 (bl 4 8)) (tt k4 (ww cN (tt k3 (tt k2 (ww dR (pp (pp (xw dG) (pp nn (pp (xG c) (xG d)))) a))))))))) (fun k4=>(lo fun o0=>(lo fun o1=>(lo fun o2=>(lo fun o3=>(sl Wp 71 [] ⟨[],[],j0d,j0e⟩ b7 (CC 4 (bl 4 0)) (pp (pp (xw o3) (pp (xw o2) (pp (xG h) (xG g)))) (tt k4 (ww cN (tt k3 (tt k2 (ww dR (pp (pp (xw dG) (pp nn (pp (xG c) (xG d)))) a)))))))))))))))))))))))))) (fun k0=>(lo fun aB=>(lo fun aL=>(lo fun bP=>(lb (fun k1=>(lr 84 87 (pn 151) 1 62 [(2,(.str [])),(3,(ii 0)),(4,(.bool false))] (sl Wp 32 [] f b7 (bl 6 32) (tt k1 (ww bP (pp (pp (xw aL) (pp nn (pp (xG c) (xG d)))) (tt k0 nn))))))) (fun k1=>(lb (fun k2=>(lr 84 87 (pn 303) 1 62 [(2,(.str x0)),(3,(ii (-1))),(4,(.bool true))] (sl Wp 43 [] f b7 (bl 7 64) (tt k2 (tt k1 (ww bP (pp (pp (xw aL) (pp nn (pp (xG c) (xG d)))) (tt k0 nn)))))))) (fun k2=>(lo fun cD=>(lb (fun k3=>(lr 84 87 (pn 607) 1 62 [(2,(.str [])),(3,(ii 0)),(4,(.bool false))] (sl Wp 54 [] f b7 (bl 8 128) (tt k3 (ww cD (tt k2 (tt k1 (ww bP (pp (pp (xw aL) (pp nn (pp (xG c) (xG d)))) (tt k0 nn)))))))))) (fun k3=>(lo fun o0=>(lo fun o1=>(lo fun o2=>(lo fun o3=>(sl Wp 71 [] ⟨[],[],j0d,j0e⟩ b7 (bl 8 0) (pp (pp (xw o3) (pp (xw o2) (pp (xG h) (xG g)))) (tt k3 (ww cD (tt k2 (tt k1 (ww bP (pp (pp (xw aL) (pp nn (pp (xG c) (xG d)))) (tt k0 nn)))))))))))))))))))))))))
 | .h1 v5 v6 v7 v8=>let e:=b8 [2,3,4];(lb (fun k0=>(lo fun aB=>let a:=ww aB (tt k0 nn);let h:=pn 594687;(lb (fun k1=>(lb (fun k2=>(lr 84 87 h 1 62 [(2,(.str [])),(3,(ii 0)),(4,(.bool false))] (sl Wp 47 [] e b7 (CC 6 []) (tt k2 (tt k1 a))))) (fun k2=>let c:=tt k2 (tt k1 a);(lb (fun k3=>(lr 84 87 h 1 62 [(2,(.str [])),(3,(ii 0)),(4,(.bool false))] (sl Wp 47 [] e b7 (CC 3 (bl 3 4)) (tt k3 c)))) (fun k3=>(sl Wp 60 [] ⟨[],[],j0d,j0e⟩ b7 (CC 3 (bl 3 0)) (ww aB (tt k3 c)))))))) (fun k1=>(lr 84 87 h 1 62 [(2,(.str [])),(3,(ii 0)),(4,(.bool false))] (sl Wp 47 [] e b7 (bl 6 57) (tt k1 a))))))) (fun k0=>(lb (fun k1=>(lr 84 87 (pn 9727) 1 62 [(2,(.str [])),(3,(ii 0)),(4,(.bool false))] (sl Wp 34 [] e b7 (bl 7 126) (tt k1 (tt k0 nn))))) (fun k1=>let b:=tt k1 (tt k0 nn);let f:=decide ((tn v5)<=x0.length);let g:=decide (0<=(tn v5));(lb (fun k2=>(lo fun cD=>let d:=ww cD (tt k2 b);(lb (fun k3=>(lr 84 87 (pn 9727) 1 62 [(2,(.str [])),(3,(ii 0)),(4,(.bool false))] (sl Wp 34 [] e b7 (bl 10 736) (tt k3 d)))) (fun k3=>(lo fun o0=>(lo fun o1=>(lr 84 3 (pn 191) 1 62 [(2,(.str ((x0.drop 0).take (tn v5)))),(3,(ii v7)),(4,(.bool true))] (sl Wp 39 [] e b7 (bl 10 224) (pp (pp (xw o1) (pp nn (pp (xG f) (xG g)))) (tt k3 d)))))))))) (fun k2=>(lo fun o0=>(lo fun o1=>(lr 84 3 (pn 191) 1 62 [(2,(.str ((x0.drop 0).take (tn v5)))),(3,(ii v7)),(4,(.bool true))] (sl Wp 39 [] e b7 (bl 10 0) (pp (pp (xw o1) (pp nn (pp (xG f) (xG g)))) (tt k2 b))))))))))))
theorem x9m (x0:zy):Wu prog (Zy prog 87) (ND x0) (Zm prog 87 [(.str x0)] true []) (x2q x0):=(sl Wp 13 [] ⟨[],[],KH,KI⟩ b7 [] nn)
theorem v9k (x0:zy) (n:Nat) (vs:zx) (h:Zt (Kf x0) n (x2q x0)=.ret vs):Kw prog (Zy prog 87) (Zm prog 87 [(.str x0)] true []) vs:=by have:=Zb (w7w x0) n _ (x9m x0);rwa [h] at this
theorem wu8 (n:Int) (h:0<=n/\n<256):wrap .u8 n=n:=by unfold wrap;simp [IntKind.signed,IntKind.bits];omega
theorem wi32 (n:Int) (h:0<=n/\n<256):wrap .i32 n=n:=by unfold wrap;simp [IntKind.signed,IntKind.bits];omega
theorem u9b {cs cs':zx} (h:Cd cs cs') (ρ:B9) (u:Value) (hv:Zn ρ (.tup cs) u):Zn ρ (.tup cs') u:=by
 cases hv with
 | tup _ vs hl hh=>exact .tup cs' vs (by rw [<-h.len];exact hl) fun i h1 h2=>h.sound i (by rw [h.len];exact h1) h1 (hh i (by rw [h.len];exact h1) h2)
def GC (d:zy):Bool:=d.all fun c=>digN c.toNat
def EK (d:zy):Bool:=decide (1<=d.length)&&(decide (d.length<=4)&& !(decide (1<d.length)&&(CW d 0 == 48)))
def Gp (d:zy):Bool:=EK d&&GC d
def C6 (s:zy):zy:=Yg (Vx s [91]) [93]
def Vk (s:zy):Bool:=Ch (Wz s [91])&&(bif Kj s [91] then EG (Vx s [91]) [93]&&Gp (C6 s) else true)
def Hz (n:Nat) (d:zy):Nat:=d.foldl (fun n c=>10*n+(c.toNat - 48)) n
def Ga (s:zy):zy:=bif Ch (Wz s [91])&&Kj s [91] then (bif Vk s then Wz s [91] else []) else Wz s [91]
def G9 (s:zy):Int:=bif Ch (Wz s [91])&&Kj s [91] then (bif Vk s then (Hz 0 (C6 s):Int) else 0) else -1
def WQ (s:zy):Bool:=decide (s.length<=1000000)
theorem v5p {s sep:zy}:(Wz s sep).length <=s.length/\(Vx s sep).length <=s.length:=by
 unfold Wz Vx;cases decide (0<=C7 s sep) with
 | true=>rw [Af,Af,Bf,Be];omega
 | false=>exact ⟨Aj _,AH _⟩
theorem v7i {s f:zy}:(Yg s f).length <=s.length:=by
 unfold Yg;cases EG s f with
 | true=>rw [Af,Bf];omega
 | false=>exact Aj _
theorem u7u {s:zy} (hs:(C6 s).length <=4): ∀(k i n:Nat),i+k=(C6 s).length ->n<10 ^ i->
  ∃N,Zt (Lr s) N (.to (.h0 (n:Int) i))=.ret (bif GC ((C6 s).drop i) then [.agg [.str (Wz s [91]),.int .i64 (Hz n ((C6 s).drop i):Int)],.bool true] else [.agg [.str [],.int .i64 0],.bool false])
 | 0,i,n,h,hn=>⟨1,by
  rw [Zx,Av (by omega)];unfold Lr;simp only [];rw [show decide (i<(Yg (Vx s [91]) [93]).length)=false from Ah (show ¬i<(C6 s).length by omega)];rfl⟩
 | k +1,i,n,h,hn=>by
  have hi:i<(C6 s).length :=by omega
  have hp:10 ^ i<=10 ^ 4:=BN (by decide) (by omega);rw [AQ hi];have e:Lr s (.h0 (n:Int) i)=bif digN (C6 s)[i].toNat then .to (.h0 ((10*n+((C6 s)[i].toNat - 48):Nat):Int) (i+1)) else .ret [.agg [.str [],.int .i64 0],.bool false]:=by
   unfold Lr;simp only [];rw [show decide (i<(Yg (Vx s [91]) [93]).length)=true from Aa hi,Af];show (bif decide (Di (C6 s) i<48) then _ else bif decide (Di (C6 s) i>57) then _ else Xy.to (FO.h0 (wrap .i64 (wrap .i64 (10*(n:Int))+wrap .i64 (wrap .i32 (Di (C6 s) i - 48)))) (i+Fn (C6 s) i)))=_;unfold digN;by_cases ha:(C6 s)[i].toNat <128
   .obtain ⟨e1,e2⟩:=w6k hi ha;rw [e1,e2];generalize (C6 s)[i].toNat =c at ha;by_cases h1:48<=c
    .rw [Yo (by omega),Aa h1];by_cases h2:c<=57
     .rw [Xb (by omega),Aa h2,wi32 _ (by omega),Zq (n:=10*(n:Int)) (by omega),Zq (n:=(c:Int) - 48) (by omega),Zq (by omega)];show Xy.to _=Xy.to _
      congr 2
      omega
     .rw [Xv (by omega),Ah h2];rfl
    .rw [Ym (by omega),Ah h1];rfl
   .have hb:=u8j hi ha;rw [Yo (by omega),Xv (by omega),Ah (show ¬(C6 s)[i].toNat <=57 by omega),A2];rfl
  show∃N,Zt _ N _=.ret (bif digN (C6 s)[i].toNat &&GC ((C6 s).drop (i+1)) then _ else _);cases g:digN (C6 s)[i].toNat with
  | false=>exact ⟨1,by rw [Zx,e,g,Ab,Za];rfl⟩
  | true=>
   have g':(48<=(C6 s)[i].toNat /\(C6 s)[i].toNat <=57):=by unfold digN at g;rwa [Ad,An,An] at g
   obtain ⟨N,hN⟩:=u7u hs k (i+1) (10*n+((C6 s)[i].toNat - 48)) (by omega) (by rw [B1];omega);refine ⟨N+1,?_⟩;rw [Zx,e,g,Af,hN];rfl
theorem j2y (s:zy) (h:WQ s=true): ∃N,Zt (Lr s) N (VO s)=.ret [.agg [.str (Ga s),.int .i64 (G9 s)],.bool (Vk s)]:=by
 have hs:s.length<=1000000:=Aw h;obtain ⟨k0,k1⟩:=v5p (s:=s) (sep:=[91]);unfold VO;rw [Zu (show Qg s [91]=true by unfold Qg;rw [Aa hs];rfl),Zu (show Ue (Wz s [91])=true from Aa (by omega))];have hv: ∀{a b c},Ga s=a->G9 s=b->Vk s=c->[B5.agg [.str (Ga s),.int .i64 (G9 s)],.bool (Vk s)]=[.agg [.str a,.int .i64 b],.bool c]:=fun h1 h2 h3=>by rw [h1,h2,h3]
 cases hn:Ch (Wz s [91]) with
 | false=>
  have e1:Vk s=false:=by unfold Vk;rw [hn];rfl
  rw [hv (a:=Wz s [91]) (b:= -1) (c:=false) (by unfold Ga;rw [hn];rfl) (by unfold G9;rw [hn];rfl) e1];exact ⟨0,by cases Kj s [91] <;> rfl⟩
 | true=>
  cases h2:Kj s [91] with
  | false=>
   have e1:Vk s=true:=by unfold Vk;rw [hn,h2];rfl
   rw [hv (a:=Wz s [91]) (b:= -1) (c:=true) (by unfold Ga;rw [hn,h2];rfl) (by unfold G9;rw [hn,h2];rfl) e1];exact ⟨0,rfl⟩
  | true=>
   have e1:Vk s=(EG (Vx s [91]) [93]&&Gp (C6 s)):=by unfold Vk;rw [hn,h2];rfl
   have es:Ga s=bif Vk s then Wz s [91] else []:=by unfold Ga;rw [hn,h2];rfl
   have en:G9 s=bif Vk s then (Hz 0 (C6 s):Int) else 0:=by unfold G9;rw [hn,h2];rfl
   have hf:Vk s=false->[B5.agg [.str (Ga s),.int .i64 (G9 s)],.bool (Vk s)]=[.agg [.str [],.int .i64 0],.bool false]:=fun q=>by rw [es,en,q];rfl
   have hd:(C6 s).length <=s.length:=AP v7i k1;have hD:Yg (Vx s [91]) [93]=C6 s:=rfl;rw [Ay,Ab,Ab,Zu (show Qe (Vx s [91]) [93]=true by unfold Qe;rw [Aa (show (Vx s [91]).length <=1000000 by omega)];rfl),hD];cases hc:EG (Vx s [91]) [93] with
   | false=>rw [hf (by rw [e1,hc];rfl)];exact ⟨0,rfl⟩
   | true=>
    rw [hc,As] at e1;rw [Ay,Ab];by_cases g0:1<=(C6 s).length
    .rw [HO (by omega),Ab];by_cases g4:(C6 s).length <=4
     .rw [Xb (by omega),Ab,Zu (Yx (by omega))];obtain ⟨N,hN⟩:=u7u g4 (C6 s).length 0 0 (Ak _) (by decide);rw [AM] at hN;have fin:EK (C6 s)=true->[B5.agg [.str (Ga s),.int .i64 (G9 s)],.bool (Vk s)]=(bif GC (C6 s) then [.agg [.str (Wz s [91]),.int .i64 (Hz 0 (C6 s):Int)],.bool true] else [.agg [.str [],.int .i64 0],.bool false]):=fun q=>by
       have e2:Vk s=GC (C6 s):=by rw [e1];unfold Gp;rw [q,As]
       rw [es,en,e2];cases GC (C6 s) <;> rfl
      by_cases g1:1<(C6 s).length
      .cases g48:CW (C6 s) 0 == 48 with
       | true=>rw [Af,Xv (by omega),Af,hf (by rw [e1];unfold Gp EK;rw [Aa g1,g48,Bool.and_self,Ay,A2,A2,A3])];exact ⟨0,rfl⟩
       | false=>rw [Ab,fin (by unfold EK;rw [Aa g0,Aa g4,g48,A2];rfl)];exact ⟨N,hN⟩
      .rw [Xb (by omega),Ab,fin (by unfold EK;rw [Aa g0,Aa g4,Ah g1];rfl)];refine ⟨N,?_⟩;rw [show∀(b:Bool) (x:Xy FO),(bif b then x else x)=x from fun b x=>by cases b <;> rfl];exact hN
     .rw [Xv (by omega),Af,hf (by rw [e1];unfold Gp EK;rw [Ah g4];cases decide (1<=(C6 s).length) <;> rfl)];exact ⟨0,rfl⟩
    .rw [QJ (by omega),Af,hf (by rw [e1];unfold Gp EK;rw [Ah g0];rfl)];exact ⟨0,rfl⟩
def PB :zx->Option (B5×Bool)
 | [.str s]=>some (.tup [.agg [.str (Ga s),.int .i64 (G9 s)],.bool (Vk s)],WQ s)
 | _=>none
theorem j5b {S:B7} (hS:Zv prog S):Zv prog (S.with Tr PB):=CU hS (by kernel_rfl) fun args v h=>by
 unfold PB at h;split at h
 .rename_i s;simp only [Ae,Ac] at h;obtain ⟨rfl,ho⟩:=h;obtain ⟨N,hN⟩:=j2y s ho;exact ⟨_,_,.cons (.refl _) .nil,rfl,u2m s N _ hN,5,rfl⟩
 .cases h
def CQ (b:UInt8):zy->Nat
 | []=>0
 | c::r=>bif c == b then 0 else CQ b r+1
theorem v5u (b:UInt8): ∀s,CQ b s<=s.length
 | []=>Aj _
 | c::r=>by
  have:=v5u b r;unfold CQ;rw [Aq];cases c == b with
  | true=>exact AH _
  | false=>rw [Ab];omega
theorem u7y (b:UInt8): ∀s,(h:CQ b s<s.length)->s[CQ b s]=b
 | [],h=>by cases h
 | c::r,h=>by
  cases g:c == b with
  | true=>
   have e:CQ b (c::r)=0:=by unfold CQ;rw [g];rfl
   simp only [e,List.getElem_cons_zero];exact AR.1 g
  | false=>
   have e:CQ b (c::r)=CQ b r+1:=by rw [CQ,g];rfl
   rw [e,Aq] at h;simp only [e,List.getElem_cons_succ];exact u7y b r (by omega)
theorem w2a (b:UInt8): ∀s,Lib.indexByte s b=bif decide (CQ b s<s.length) then (CQ b s:Int) else -1
 | []=>rfl
 | c::r=>by
  unfold Lib.indexByte CQ;rw [w2a b r,Aq];cases g:c == b with
  | true=>rw [Af,Aa (Nat.succ_pos _)];rfl
  | false=>
   rw [Ab];by_cases h:CQ b r<r.length
   .rw [Aa h,Aa (Nat.succ_lt_succ h),Af,Af,Az (by simp),Az (by simp)];rfl
   .rw [Ah h,Ah (show ¬CQ b r+1<r.length+1 by omega)];rfl
def GM (s:zy):Bool:=Ch (s.take (CQ 91 s))&&(decide (CQ 91 s=s.length)||(CW s (s.length - 1) == 93&&Gp ((s.drop (CQ 91 s+1)).take (s.length - 1 - (CQ 91 s+1)))))
theorem j0c (s:zy):GM s=Vk s:=by
 have hix:C7 s [91]=bif decide (CQ 91 s<s.length) then (CQ 91 s:Int) else -1:=w2a 91 s;have hle:=v5u 91 s;unfold GM Vk;by_cases h:CQ 91 s<s.length
 .rw [Aa h,Af] at hix;have e2:Kj s [91]=true:=by unfold Kj;rw [hix];exact Aa (by omega)
  have e0:Wz s [91]=s.take (CQ 91 s):=by unfold Wz;rw [hix,Aa (show (0:Int)<=(CQ 91 s:Int) by omega),Zj];rfl
  have e1:Vx s [91]=s.drop (CQ 91 s+1):=by unfold Vx;rw [hix,Aa (show (0:Int)<=(CQ 91 s:Int) by omega),Zj];rfl
  rw [Ah (show ¬CQ 91 s=s.length by omega),Bi,e0,e2,Af]
  congr 1
  unfold C6 Yg EG;rw [e1];have hl:(s.drop (CQ 91 s+1)).length =s.length - (CQ 91 s+1):=Be;rw [MT (show s.length - 1<s.length by omega)];by_cases g:CQ 91 s+1<s.length
  .rw [Aa (show [(93:UInt8)].length <=(s.drop (CQ 91 s+1)).length by rw [hl];show 1<=_;omega),As];have ed:(s.drop (CQ 91 s+1)).drop ((s.drop (CQ 91 s+1)).length - [(93:UInt8)].length)=[s[s.length - 1]'(by omega)]:=by rw [List.drop_drop,hl];show s.drop (CQ 91 s+1+(s.length - (CQ 91 s+1) - 1))=_;rw [show CQ 91 s+1+(s.length - (CQ 91 s+1) - 1)=s.length - 1 by omega,AQ (show s.length - 1<s.length by omega),Av (by omega)]
   rw [ed];have eb:([s[s.length - 1]'(by omega)] == [(93:UInt8)])=((((s[s.length - 1]'(by omega)).toNat :Nat):Int) == 93):=by
    rw [AK,AR,AR];constructor
    .intro q;rw [Bk] at q;rw [q.1];rfl
    .intro q;have:(s[s.length - 1]'(by omega))=93:=by apply UInt8.toNat_inj.1;show _=93;omega
     rw [this]
   rw [eb];cases ((((s[s.length - 1]'(by omega)).toNat :Nat):Int) == 93) with
   | false=>rfl
   | true=>
    rw [As,As,Af,hl]
    congr 2
    show _=s.length - (CQ 91 s+1) - 1;omega
  .have e:s.length - 1=CQ 91 s:=by omega
   have hq:(s[s.length - 1]'(by omega))=91:=by simp only [e];exact u7y 91 s h
   rw [hq,Ah (show ¬ [(93:UInt8)].length <=(s.drop (CQ 91 s+1)).length by rw [hl];show ¬1<=_;omega)];rfl
 .have hn:CQ 91 s=s.length:=by omega
  rw [Ah h,Ab] at hix;have e2:Kj s [91]=false:=by unfold Kj;rw [hix];rfl
  have e0:Wz s [91]=s:=by unfold Wz;rw [hix];rfl
  rw [e2,e0,hn,Aa rfl,List.take_length];rfl
theorem u5n {s d:zy} {p:Nat} (hp:p<=s.length) (hd:d.length<=1000000): ∀(k i n:Nat),i+k=d.length->i<=4->n<10 ^ i->
  ∃N a b,Zt (Kf s) N (.to (.h1 (p:Int) d (n:Int) (i:Int)))=.ret [.str a,.int .i64 b,.bool (EK d&&GC (d.drop i))]
 | 0,i,n,h,h4,hn=>by
  have hs: ∀a b,∃N a' b',Zt (Kf s) N (.ret [.str a,.int .i64 b,.bool (EK d&&GC (d.drop i))])=.ret [.str a',.int .i64 b',.bool (EK d&&GC (d.drop i))]:=fun a b=>⟨0,a,b,rfl⟩
  rw [Av (by omega)] at hs ⊢;have key: ∃a b,Kf s (.h1 (p:Int) d (n:Int) (i:Int))=.ret [.str a,.int .i64 b,.bool (EK d&&GC [])]:=by
   unfold Kf EK;simp only [Zj];rw [Yo (by omega),Ab,Aa (show d.length<=4 by omega),As,Zu (Aa (show (p:Nat)<=s.length from hp)),Zu (Aa (show (0:Int)<=(p:Int) by omega))];by_cases g0:1<=d.length
   .rw [HO (by omega),Ab,Aa g0,As];by_cases g1:1<d.length
    .rw [Xv (by omega),Af,Zu (Yx (by omega)),Aa g1,As];cases CW d 0 == 48 with
     | true=>exact ⟨_,_,rfl⟩
     | false=>exact ⟨_,_,rfl⟩
    .rw [Xb (by omega),Ab,Ah g1];exact ⟨_,_,rfl⟩
   .rw [QJ (by omega),Af,Ah g0];exact ⟨_,_,rfl⟩
  obtain ⟨a,b,e⟩:=key;exact ⟨1,a,b,by rw [Zx,e];rfl⟩
 | k +1,i,n,h,h4,hn=>by
  have hi:i<d.length:=by omega
  have hc:=v1z d[i];have hpw:10 ^ i<=10 ^ 4:=BN (by decide) (by omega);have w2:wrap .i64 ((i:Int)+1)=((i+1:Nat):Int):=Zq (by omega);rw [AQ hi];have e:Kf s (.h1 (p:Int) d (n:Int) (i:Int))=bif digN d[i].toNat &&decide (i<=3) then .to (.h1 (p:Int) d ((10*n+(d[i].toNat - 48):Nat):Int) ((i+1:Nat):Int)) else .ret [.str [],.int .i64 0,.bool false]:=by
   unfold Kf digN;simp only [Zj,w2,MT hi];rw [Ym (by omega),Af,Zu (Yx (by omega))];generalize d[i].toNat =c at hc;by_cases h1:48<=c
   .rw [Dr (by omega),Aa h1,Af];by_cases h2:c<=57
    .rw [Wj (by omega),Aa h2,Ay,Ab];by_cases h3:i<=3
     .rw [Xb (by omega),Aa h3,Ab,wu8 _ (by omega),Zq (n:=10*(n:Int)) (by omega),Zq (n:=(c:Int) - 48) (by omega),Zq (by omega)];show Xy.to _=Xy.to _
      congr 2
      omega
     .rw [Xv (by omega),Ah h3];rfl
    .rw [Ew (by omega),Ah h2];rfl
   .rw [F6 (by omega),Ah h1];rfl
  show∃N a b,Zt _ N _=.ret [_,_,.bool (EK d&&(digN d[i].toNat &&GC (d.drop (i+1))))];cases g:digN d[i].toNat with
  | false=>exact ⟨1,[],0,by rw [Zx,e,g,A3,Ab,Za,A3,A2]⟩
  | true=>
   by_cases h3:i<=3
   .have g':(48<=d[i].toNat /\d[i].toNat <=57):=by unfold digN at g;rwa [Ad,An,An] at g
    obtain ⟨N,a,b,hN⟩:=u5n hp hd k (i+1) (10*n+(d[i].toNat - 48)) (by omega) (by omega) (by rw [B1];omega);exact ⟨N+1,a,b,by rw [Zx,e,g,Aa h3,Bool.and_self,Af,hN,As]⟩
   .have e4:EK d=false:=by unfold EK;rw [Ah (show ¬d.length<=4 by omega),A3,A2]
    exact ⟨1,[],0,by rw [Zx,e,g,Ah h3,A2,Ab,Za,e4,A3]⟩
theorem w4l {s:zy} {p:Nat} (hp:p<=s.length) (hs:s.length<=1000000) {E:Xy GL}
  (hE:E=(bif decide (p<=s.length) then (bif decide (0<=(p:Int)) then (bif Ue ((s.drop 0).take p) then (bif !(Ch ((s.drop 0).take p)) then (.ret [.str [],.int .i64 0,.bool false]) else (bif ((p:Int) == (s.length:Int)) then (.ret [.str s,.int .i64 (-1),.bool true]) else (bif decide (0<=wrap .i64 ((s.length:Int) - 1)/\wrap .i64 ((s.length:Int) - 1)<(s.length:Int)) then (bif (CW s (Int.toNat (wrap .i64 ((s.length:Int) - 1)))) != 93 then (.ret [.str [],.int .i64 0,.bool false]) else (bif decide (Int.toNat (wrap .i64 ((p:Int)+1))<=Int.toNat (wrap .i64 ((s.length:Int) - 1))) then (bif decide (Int.toNat (wrap .i64 ((s.length:Int) - 1))<=s.length) then (bif decide (0<=wrap .i64 ((p:Int)+1)) then (bif decide (0<=wrap .i64 ((s.length:Int) - 1)) then (.to (.h1 (p:Int) ((s.drop (Int.toNat (wrap .i64 ((p:Int)+1)))).take (Int.toNat (wrap .i64 ((s.length:Int) - 1)) - Int.toNat (wrap .i64 ((p:Int)+1)))) 0 0)) else .stuck) else .stuck) else .stuck) else .stuck)) else .stuck))) else .stuck) else .stuck) else .stuck))
  (hq:p<s.length->s[p]? =some 91):
  ∃N a b,Zt (Kf s) N E=.ret [.str a,.int .i64 b,.bool (Ch (s.take p)&&(decide (p=s.length)||(CW s (s.length - 1) == 93&&Gp ((s.drop (p+1)).take (s.length - 1 - (p+1))))))]:=by
 subst hE;have hpl:(s.take p).length <=1000000:=by rw [Bf];omega
 rw [Zu (Aa hp),Zu (Aa (show (0:Int)<=(p:Int) by omega)),AM,Zu (show Ue (s.take p)=true from Aa hpl)];cases hn:Ch (s.take p) with
 | false=>exact ⟨0,[],0,rfl⟩
 | true=>
  rw [Ay,Ab,As];by_cases g:p=s.length
  .rw [QJ (by omega),Af,Aa g];exact ⟨0,_,_,rfl⟩
  .have wl:wrap .i64 ((s.length:Int) - 1)=((s.length - 1:Nat):Int):=by rw [Zq (by omega)];omega
   have wp:wrap .i64 ((p:Int)+1)=((p+1:Nat):Int):=Zq (by omega);rw [HO (by omega),Ab,Ah g,Bi,wl,wp,Zj,Zj,Zu (Yx (by omega))];cases hb:CW s (s.length - 1) == 93 with
   | false=>rw [show (CW s (s.length - 1) != 93)=true by unfold bne;rw [hb];rfl,Af,A3];exact ⟨0,[],0,rfl⟩
   | true=>
    have hne:p+1<=s.length - 1:=by
     rcases A7 (p+1) s.length with h | h
     .omega
     .exfalso;have hp1:p=s.length - 1:=(by omega);have h1:=hq (by omega);rw [hp1,At (by omega)] at h1;have h2:=Ag h1;rw [MT (show s.length - 1<s.length by omega),h2] at hb;revert hb;decide
    rw [show (CW s (s.length - 1) != 93)=false by unfold bne;rw [hb];rfl,Ab,As,Zu (Aa hne),Zu (Aa (show s.length - 1<=s.length by omega)),Zu (Aa (show (0:Int)<=((p+1:Nat):Int) by omega)),Zu (Aa (show (0:Int)<=((s.length - 1:Nat):Int) by omega))];obtain ⟨N,a,b,hN⟩:=u5n (s:=s) (d:=(s.drop (p+1)).take (s.length - 1 - (p+1))) hp (by rw [Bf,Be];omega) ((s.drop (p+1)).take (s.length - 1 - (p+1))).length 0 0 (Ak _) (by omega) (by decide);exact ⟨N,a,b,hN⟩
theorem u5o {s:zy} (hs:s.length<=1000000): ∀(k i:Nat),i+k=s.length->i+CQ 91 (s.drop i)=CQ 91 s->
  ∃N a b,Zt (Kf s) N (.to (.h0 (i:Int)))=.ret [.str a,.int .i64 b,.bool (GM s)]
 | 0,i,h,hx=>by have hd:s.drop i=[]:=Av (by omega);rw [hd] at hx;have hx:i=CQ 91 s:=hx;obtain ⟨N,a,b,hN⟩:=w4l (s:=s) (p:=i) (by omega) hs rfl (fun hh=>absurd hh (by omega));refine ⟨N+1,a,b,?_⟩;rw [Zx];unfold Kf;simp only [Zj];rw [Yo (by omega),Ab];unfold GM;rw [<-hx];exact hN
 | k+1,i,h,hx=>by
  have hi:i<s.length:=by omega
  have hc:=v1z s[i];have w2:wrap .i64 ((i:Int)+1)=((i+1:Nat):Int):=Zq (by omega);rw [AQ hi,CQ] at hx;have hbb:((((s[i].toNat :Nat):Int)) != 91)= !(s[i] == 91):=by
   rw [show ((((s[i].toNat :Nat):Int)) != 91)= !((((s[i].toNat :Nat):Int)) == 91) from rfl]
   congr 1
   rw [AK,AR,AR];constructor
   .intro h;apply UInt8.toNat_inj.1;show s[i].toNat =91;omega
   .intro h;rw [h];rfl
  cases g:s[i] == 91 with
  | false=>
   rw [g,Ab] at hx;obtain ⟨N,a,b,hN⟩:=u5o hs k (i+1) (by omega) (by omega);refine ⟨N+1,a,b,?_⟩;have e:Kf s (.h0 (i:Int))=.to (.h0 ((i+1:Nat):Int)):=by unfold Kf;simp only [Zj,MT hi,w2];rw [Ym (by omega),Af,Zu (Yx (by omega)),hbb,g];rfl
   rw [Zx,e,hN]
  | true=>rw [g,Af] at hx;have hx:i=CQ 91 s:=hx;obtain ⟨N,a,b,hN⟩:=w4l (s:=s) (p:=i) (by omega) hs rfl (fun _=>by rw [At hi,AR.1 g]);refine ⟨N+1,a,b,?_⟩;rw [Zx];unfold Kf;simp only [Zj];rw [Ym (by omega),Af,Zu (Yx (by omega)),MT hi,hbb,g,Ay,Ab];unfold GM;rw [<-hx];exact hN
def US (s:zy):Bool:=decide (s.length<=1000000)
def QT (s:zy):Bool:=Vk s
theorem j0b (s:zy) (h:US s=true): ∃N a b,Zt (Kf s) N (x2q s)=.ret [.str a,.int .i64 b,.bool (QT s)]:=by unfold QT;rw [<-j0c];exact u5o (Aw h) s.length 0 (Ak _) (Ak _)
def On :zx->Option (B5×Bool)
 | [.str s]=>some (.tup [.undef,.undef,.bool (QT s)],US s)
 | _=>none
theorem j4h {S:B7} (hS:Zv prog S):Zv prog (S.with Sx On):=LZ hS (by kernel_rfl) fun args v h=>by
 unfold On at h;split at h
 .rename_i s;simp only [Ae,Ac] at h;obtain ⟨rfl,ho⟩:=h;obtain ⟨N,a,b,hN⟩:=j0b s ho;exact ⟨_,[.str a,.int .i64 b,.bool (QT s)],.cons (.refl _) .nil,fun ρ u hu=>u9b (cs:=[.str a,.int .i64 b,.bool (QT s)]) (.cons (.undef _) (.cons (.undef _) (Cd.refl _))) ρ u hu,v9k s N _ hN,3,rfl⟩
 .cases h
def UN :B7:=(UO.with Tr PB).with Sx On
theorem Ep :Zv prog UN:=j4h (j5b Wp)
inductive IF where
 | h0 (v3:zy) (v4:Bool)
def OO (x0:zy):IF->CH
 | .h0 v3 v4=>⟨⟨20,0,true⟩,none,(Zf prog 121 [1,0,0] 0),none,[],⟨Yh [(0,(.yld 0)),(3,(.str v3)),(4,(.bool v4))],Ee [(1,⟨[(ii 0)],24,none⟩)],2,[],true⟩,[⟨⟨24,0,true⟩,none,(.inRangeFunc 0::(Zf prog 45 (pn 43) 1)),none,(Zy prog 45),Yh [(2,(.ptr 1 0))]⟩],(Ed [(0,⟨.ready,none,24,Yh [(2,(.ptr 1 0))],[16],(Cr prog 45 [1,1,0,1,0,0]),(Cr prog 45 [1,1,0,1,0,1])⟩)])⟩
def LS :List (Option zw):=[some [0,3,4],some [2]]
def LT :List (Option zw):=[some [2],none]
def Lq (x0:zy):IF->Xy IF
 | .h0 v3 v4=>(bif v4 then (bif (Qg v3 ([47]:zy)) then (bif (WQ (Wz v3 ([47]:zy))) then (bif (!(Vk (Wz v3 ([47]:zy)))) then (.ret [(.int .i64 12)]) else (.to (.h0 (Vx v3 ([47]:zy)) (Kj v3 ([47]:zy))))) else .stuck) else .stuck) else (.ret [(.int .i64 0)]))
def VN (x0:zy):Xy IF:=(bif (decide ((x0.length:Int)>4000)) then (.ret [(.int .i64 4)]) else (bif (ZM x0 ([47]:zy)) then (bif (decide ((PX x0 ([47]:zy))>39)) then (.ret [(.int .i64 4)]) else (.to (.h0 x0 (!(x0 == ([]:zy)))))) else .stuck))
theorem w9s (x0:zy): ∀s,Wu prog (Zy prog 45) (OO x0) (OO x0 s) (Lq x0 s)
 | .h0 v3 v4=>let b:=Zy prog 45;(lb (fun k0=>(lo fun aB=>(lo fun aL=>let a:=ww aL (ww aB (tt k0 nn));(lb (fun k1=>(Jy ⟨⟨24,0,true⟩,none,(.code .ret ::(Zf prog 45 (pn 43) 1)),none,b,⟨Yh [(2,(.ptr 0 0))],Wd [⟨[(ii 12)],24,none⟩] 0,1,[],true⟩,[],.leaf⟩ (sl Ep 61 [] ⟨[1],[],[some [2]],[]⟩ b7 (CC 3 []) (tt k1 a)) rfl (by kernel_rfl))) (fun k1=>(sl Ep 60 [] ⟨[0,1],[],LS,LT⟩ b7 (bl 3 1) (tt k1 a))))))) (fun k0=>(Jy ⟨⟨24,0,true⟩,none,(Zf prog 3 (pn 191) 1),none,b,⟨Yh [(2,(.ptr 0 0))],Wd [⟨[(ii 0)],24,none⟩] 0,1,[],true⟩,[],.leaf⟩ (sl Ep 14 [] ⟨[1],[],[some [2]],[]⟩ b7 [false] (tt k0 nn)) rfl (by kernel_rfl))))
theorem w1r (x0:zy):Wu prog (Zy prog 45) (OO x0) (Zm prog 45 [(.str x0)] true []) (VN x0):=let a:=Zf prog 45 (pn 37) 1;let c:=Zy prog 45;(lb (fun k0=>(Jy ⟨⟨24,0,true⟩,none,a,none,c,⟨Yh [(2,(.ptr 0 0))],Wd [⟨[(ii 4)],24,none⟩] 0,1,[],true⟩,[],.leaf⟩ (sl Ep 21 [] ⟨[0],[],[some [2]],[]⟩ b7 (CC 4 []) (tt k0 nn)) rfl (by kernel_rfl))) (fun k0=>(lo fun aB=>let b:=ww aB (tt k0 nn);(lb (fun k1=>(Jy ⟨⟨24,0,true⟩,none,a,none,c,⟨Yh [(2,(.ptr 0 0))],Wd [⟨[(ii 4)],24,none⟩] 0,1,[],true⟩,[],.leaf⟩ (sl Ep 21 [] ⟨[0],[],[some [2]],[]⟩ b7 (bl 4 8) (tt k1 b)) rfl (by kernel_rfl))) (fun k1=>(sl Ep 41 [] ⟨[2,0],[],LS,LT⟩ b7 (bl 4 0) (tt k1 b)))))))
theorem u2q (x0:zy) (n:Nat) (vs:zx) (h:Zt (Lq x0) n (VN x0)=.ret vs):Kw prog (Zy prog 45) (Zm prog 45 [(.str x0)] true []) vs:=by have:=Zb (w9s x0) n _ (w1r x0);rwa [h] at this
inductive Hl where
 | h0 (v4:Int)
def NR (x0:zy):Hl->CH
 | .h0 v4=>⟨⟨33,0,true⟩,none,(Zf prog 50 (pn 303) 0),none,(Zy prog 9),⟨Yh [(3,(.dat (Ja x0).length (Zz (Ja x0)))),(4,(ii v4))],Wd [] 0,0,[],true⟩,[],.leaf⟩
def KZ :List (Option zw):=[some [3,4]]
def K0 :List (Option zw):=[]
def Lw (x0:zy):Hl->Xy Hl
 | .h0 v4=>let a:=rd (Ja x0) v4.toNat;(bif (decide (v4<(((Ja x0).length :Nat):Int))) then (bif ((decide (0<=v4/\v4<(((Ja x0).length :Nat):Int)))&&true) then (bif (US a) then (bif (!(QT a)) then (.ret [(.int .i64 12)]) else (.to (.h0 (wrap .i64 (v4+1))))) else .stuck) else .stuck) else (.ret [(.int .i64 0)]))
def V1 (x0:zy):Xy Hl:=(bif (decide ((x0.length:Int)>4000)) then (.ret [(.int .i64 4)]) else (bif (Pp x0) then (bif (decide ((((Ja x0).length :Nat):Int)>40)) then (.ret [(.int .i64 4)]) else (.to (.h0 0))) else .stuck))
theorem w8n (x0:zy): ∀s,Wu prog (Zy prog 50) (NR x0) (NR x0 s) (Lw x0 s)
 | .h0 v4=>(lb (fun k0=>(lo fun aB=>(lo fun aL=>let a:=ww aL (ww aB (tt k0 nn));(lb (fun k1=>(lr 33 50 (pn 39215) 1 9 [(2,(ii 12))] (sl Ep 37 [] (b8 [2]) b7 (bl 2 3) (tt k1 a)))) (fun k1=>(sl Ep 41 [] ⟨[],[],KZ,K0⟩ b7 (bl 2 1) (tt k1 a))))))) (fun k0=>(lr 33 3 (pn 191) 1 9 [(2,(ii 0))] (sl Ep 14 [] (b8 [2]) b7 [false] (tt k0 nn)))))
theorem w0c (x0:zy):Wu prog (Zy prog 50) (NR x0) (Zm prog 50 [(.str x0)] true []) (V1 x0):=(lb (fun k0=>(lr 33 50 (pn 37) 1 9 [(2,(ii 4))] (sl Ep 16 [] (b8 [2]) b7 [true] (tt k0 nn)))) (fun k0=>(lo fun aB=>let a:=ww aB (tt k0 nn);(lb (fun k1=>(lr 33 50 (pn 151) 1 9 [(2,(ii 4))] (sl Ep 31 [] (b8 [2]) b7 (bl 2 2) (tt k1 a)))) (fun k1=>(sl Ep 35 [] ⟨[],[],KZ,K0⟩ b7 (bl 2 0) (tt k1 a)))))))
theorem u0f (x0:zy) (n:Nat) (vs:zx) (h:Zt (Lw x0) n (V1 x0)=.ret vs):Kw prog (Zy prog 50) (Zm prog 50 [(.str x0)] true []) vs:=by have:=Zb (w8n x0) n _ (w0c x0);rwa [h] at this
theorem u7w (b:UInt8) (s:zy):Wz s [b]=s.take (CQ b s)/\Vx s [b]=(bif decide (CQ b s<s.length) then s.drop (CQ b s+1) else [])/\Kj s [b]=decide (CQ b s<s.length):=by
 have hix:C7 s [b]=bif decide (CQ b s<s.length) then (CQ b s:Int) else -1:=w2a b s;have hle:=v5u b s;unfold Wz Vx Kj;rw [hix];by_cases h:CQ b s<s.length
 .rw [Aa h,Af,Aa (show (0:Int)<=(CQ b s:Int) by omega),Zj];exact ⟨rfl,rfl,rfl⟩
 .rw [Ah h,Ab];refine ⟨?_,rfl,rfl⟩;rw [show CQ b s=s.length by omega,List.take_length];rfl
theorem v7h (b:UInt8): ∀s,Ye b [] s=s.take (CQ b s)::(bif decide (CQ b s<s.length) then Ye b [] (s.drop (CQ b s+1)) else [])
 | []=>rfl
 | c::r=>by
  cases g:c == b with
  | true=>
   have e:CQ b (c::r)=0:=by unfold CQ;rw [g];rfl
   rw [e,Ye,g,Af,Aq,Aa (Nat.succ_pos _)];rfl
  | false=>
   have e:CQ b (c::r)=CQ b r+1:=by rw [CQ,g];rfl
   rw [e,Ye,g,Ab,UW,v7h b r,Aq,show decide (CQ b r+1<r.length+1)=decide (CQ b r<r.length) by rw [AK,An,An];omega];rfl
theorem u3x (b:UInt8) (s:zy):Ye b [] s=Wz s [b]::(bif Kj s [b] then Ye b [] (Vx s [b]) else []):=by obtain ⟨e0,e1,e2⟩:=u7w b s;rw [v7h,e0,e1,e2];cases decide (CQ b s<s.length) <;> rfl
theorem UX (b:UInt8): ∀s cur,(Ye b cur s).length =Lib.countByte s b+1
 | [],cur=>rfl
 | c::r,cur=>by
  unfold Ye Lib.countByte;rw [List.count_cons];cases g:c == b with
  | true=>rw [Af,Aq,UX b r];rfl
  | false=>rw [Ab,UX b r];rfl
def C3 (p:zy):Int:=bif decide (4000<p.length) then 4 else bif decide (40<(Ja p).length) then 4 else bif (Ja p).all Vk then 0 else 12
def Vs (p:zy):Bool:=decide (p.length<=1000000)
theorem u2r {s:zy} {b:UInt8} (h:Kj s [b]=true):(Vx s [b]).length <s.length:=by obtain ⟨e0,e1,e2⟩:=u7w b s;rw [e2] at h;rw [e1,h,Af,Be];have:=Aw h;omega
theorem u7v {x:zy}: ∀(n:Nat) (s:zy),s.length<=n->s.length<=1000000-> ∃N,Zt (Lq x) N (.to (.h0 s true))=.ret [.int .i64 (bif (Ye 47 [] s).all Vk then 0 else 12)]
 | n,s,hn,hs=>by
  obtain ⟨k0,k1⟩:=v5p (s:=s) (sep:=[47]);have e:Lq x (.h0 s true)=bif !(Vk (Wz s [47])) then .ret [.int .i64 12] else .to (.h0 (Vx s [47]) (Kj s [47])):=by unfold Lq;simp only [];rw [Af,Zu (show Qg s [47]=true by unfold Qg;rw [Aa hs];rfl),Zu (show WQ (Wz s [47])=true from Aa (by omega))]
  rw [u3x,BJ];cases g:Vk (Wz s [47]) with
  | false=>exact ⟨1,by rw [Zx,e,g];rfl⟩
  | true=>
   cases g2:Kj s [47] with
   | false=>have e2: ∀s',Lq x (.h0 s' false)=.ret [.int .i64 0]:=fun s'=>rfl;exact ⟨2,by rw [Zx,e,g,g2,Ay,Ab,Zx,e2];rfl⟩
   | true=>
    have hl:=u2r g2
    match n with
    | 0=>omega
    | n+1=>obtain ⟨N,hN⟩:=u7v (x:=x) n (Vx s [47]) (by omega) (by omega);exact ⟨N+1,by rw [Zx,e,g,g2,Ay,Ab,hN,Af,As]⟩
theorem j3i (s:zy) (h:Vs s=true): ∃N,Zt (Lq s) N (VN s)=.ret [.int .i64 (C3 s)]:=by
 have hs:s.length<=1000000:=Aw h;unfold VN C3;by_cases g:4000<s.length
 .rw [Xv (by omega),Aa g];exact ⟨0,rfl⟩
 .rw [Xb (by omega),Ah g,Ab,Ab,Zu (show ZM s [47]=true from rfl)];have hc:PX s [47]=((Lib.countByte s 47:Nat):Int):=rfl;have hk:=UX 47 s [];unfold Ja;cases s with
  | nil=>refine ⟨1,?_⟩;rfl
  | cons c r=>
   rw [show ((c::r) == ([]:zy))=false from rfl,Ab,AC];by_cases g2:40<(Ye 47 [] (c::r)).length
   .rw [Aa g2,Xv (by omega)];exact ⟨0,rfl⟩
   .rw [Ah g2,Xb (by omega),Ab,Ab];exact u7v (c::r).length (c::r) (Aj _) hs
theorem u6c {x:zy} (hs:x.length<=1000000): ∀(k i:Nat),i+k=(Ja x).length -> ∃N,Zt (Lw x) N (.to (.h0 (i:Int)))=.ret [.int .i64 (bif ((Ja x).drop i).all Vk then 0 else 12)]
 | 0,i,h=>⟨1,by
  rw [Zx,Av (by omega)];unfold Lw;simp only [];rw [Yo (by omega)];rfl⟩
 | k+1,i,h=>by
  have hi:i<(Ja x).length :=by omega
  have hle:(Ja x).length <=1000001:=by
   unfold Ja;cases x == [] with
   | true=>exact AH _
   | false=>rw [Ab,UX];have:Lib.countByte x 47<=x.length:=List.count_le_length;omega
  have hp:(rd (Ja x) i).length <=1000000:=by
   rw [Wv hi];have hm:=AL hi;revert hm;generalize (Ja x)[i]=p;unfold Ja;cases x == [] with
   | true=>intro hm;cases hm
   | false=>intro hm;have:=Vn 47 x [] p hm;simp at this;omega
  have w2:wrap .i64 ((i:Int)+1)=((i+1:Nat):Int):=Zq (by omega);obtain ⟨N,hN⟩:=u6c hs k (i+1) (by omega);have e:Lw x (.h0 (i:Int))=bif !(Vk (rd (Ja x) i)) then .ret [.int .i64 12] else .to (.h0 ((i+1:Nat):Int)):=by unfold Lw;simp only [Zj,w2];rw [Ym (by omega),Af,Ar,Zu (Yx (by omega)),Zu (show US (rd (Ja x) i)=true from Aa hp)];rfl
  rw [Yt hi,BJ];cases g:Vk (rd (Ja x) i) with
  | false=>exact ⟨1,by rw [Zx,e,g];rfl⟩
  | true=>exact ⟨N+1,by rw [Zx,e,g,Ay,Ab,hN,As]⟩
theorem j1a (s:zy) (h:Vs s=true): ∃N,Zt (Lw s) N (V1 s)=.ret [.int .i64 (C3 s)]:=by
 have hs:s.length<=1000000:=Aw h;unfold V1 C3;by_cases g:4000<s.length
 .rw [Xv (by omega),Aa g];exact ⟨0,rfl⟩
 .rw [Xb (by omega),Ah g,Ab,Ab,Zu (show Pp s=true from h)];by_cases g2:40<(Ja s).length
  .rw [Aa g2,Xv (by omega)];exact ⟨0,rfl⟩
  .rw [Ah g2,Xb (by omega),Ab,Ab];exact u6c hs (Ja s).length 0 (Ak _)
def FV :zx->Option (B5×Bool)
 | [.str s]=>some (.int .i64 (C3 s),Vs s)
 | _=>none
theorem j5c {S:B7} (hS:Zv prog S):Zv prog (S.with Ts FV):=CU hS (by kernel_rfl) fun args v h=>by
 unfold FV at h;split at h
 .rename_i s;simp only [Ae,Ac] at h;obtain ⟨rfl,ho⟩:=h;obtain ⟨N,hN⟩:=j3i s ho;exact ⟨_,_,.cons (.refl _) .nil,rfl,u2q s N _ hN,3,rfl⟩
 .cases h
theorem j4p {S:B7} (hS:Zv prog S):Zv prog (S.with TK FV):=CU hS (by kernel_rfl) fun args v h=>by
 unfold FV at h;split at h
 .rename_i s;simp only [Ae,Ac] at h;obtain ⟨rfl,ho⟩:=h;obtain ⟨N,hN⟩:=j1a s ho;exact ⟨_,_,.cons (.refl _) .nil,rfl,u0f s N _ hN,3,rfl⟩
 .cases h
def UM :B7:=(UN.with Ts FV).with TK FV
theorem Jx :Zv prog UM:=j4p (j5c Ep)
structure B8 where
 n:zy
 (a t x y z:Int)
 s:zt
abbrev zu:=List B8
instance : Xg B8 where
 w:=7
 d:=⟨[],0,0,0,0,0,[]⟩
 cells x:=[.str x.n,.int .i64 x.a,.int .u8 x.t,.int .i64 x.x,.int .i64 x.y,.int .i64 x.z,.dat x.s.length (Zz x.s)]
 of l:=⟨sOf (l.getD 0 .undef),Cn (l.getD 1 .undef),Cn (l.getD 2 .undef),Cn (l.getD 3 .undef),Cn (l.getD 4 .undef),Cn (l.getD 5 .undef),match l.getD 6 .undef with
  | .dat n g=>CG R6 n g
  | _=>[]⟩
 len _:=rfl
 pos:=by decide
 flat _:=rfl
 sc _:=rfl
 back x:=by show B8.mk x.n x.a x.t x.x x.y x.z (CG R6 x.s.length (Zz x.s))=x;rw [Zr]
theorem Qz {pre:zu} {nm:zy} {a t x y z:Int} {sol:zt}:Ub (pre.length+1) (CI.get (.one pre.length [.str nm,.int .i64 a,.int .u8 t,.int .i64 x,.int .i64 y,.int .i64 z,Cz 6 6 0 sol.length sol.length (Zz sol)] (.flat (Zz pre)))) (Zz (pre++[⟨nm,a,t,x,y,z,sol⟩]))=true:=by
 refine Xj fun i hi=> ?_;simp only [CI.get,v6c];cases e:Nat.beq i pre.length with
 | true=>obtain rfl:=Ai e;rw [Af];unfold Zz;rw [z6b (Aj _),BR];rfl
 | false=>
  have:i≠pre.length:=fun h=>by rw [h,Bu] at e;cases e
  rw [Ab];unfold Zz;rw [z7s (by omega)]
theorem We {sz:Nat} {cells:zx} (h:cells.length=sz) (h2:cells.all Ci=true):Jf sz 1 (fun k=>(cells.drop (k*sz)).take sz)=true:=HG fun k hk=>by
 obtain rfl:k=0:=by omega
 have e:(cells.drop (0*sz)).take sz=cells:=by rw [Nat.zero_mul,AM,A4 (by omega)]
 show ((cells.drop (0*sz)).take sz).length =sz/\((cells.drop (0*sz)).take sz).all Ci=true;rw [e];exact ⟨h,h2⟩
theorem Qq {n r m m' b:Nat} {cap:E6} {x0 x1 x2 x3 x4 x5:B5} {G:CI} (h:m=m'):Cs n (CI.get (.one r [x0,x1,x2,x3,x4,x5,.sla b 6 0 m cap] G)) (CI.get (.one r [x0,x1,x2,x3,x4,x5,.sla b 6 0 m' cap] G))=true:=by subst h;exact Xj fun _ _=>Cd.refl _
theorem v3o {pre:zu} {b:Nat} {x0 x1 x2 x3 x4 x5:B5}:Cs (pre.length+1) (Zg (Zz pre) 0 pre.length 7 [x0,x1,x2,x3,x4,x5,.nils]) (CI.get (.one pre.length [x0,x1,x2,x3,x4,x5,.sla b 6 0 ([]:zt).length (.un 6)] (.flat (Zz pre))))=true:=by
 refine Xj fun i hi=> ?_;simp only [CI.get,Zg];cases e:Nat.beq i pre.length with
 | true=>obtain rfl:=Ai e;rw [AU (Aj _),Af,Af,BR];exact .cons (.refl _) (.cons (.refl _) (.cons (.refl _) (.cons (.refl _) (.cons (.refl _) (.cons (.refl _) (.cons (.nils b 6 0 (.un 6)) .nil))))))
 | false=>
  have:i≠pre.length:=fun h=>by rw [h,Bu] at e;cases e
  rw [show Nat.ble pre.length i=false from AY.2 fun e=>by have:=Al e;omega,Ab,Ab,Ak];exact Cd.refl _
theorem Rs {pre:zu} {b:Nat} {x0 x1 x2 x3 x4 x5:B5}:Cs (pre.length+1) (Yw (fun k=>Zz pre (0+k)) pre.length (fun k=>([x0,x1,x2,x3,x4,x5,.nils].drop (k*7)).take 7)) (CI.get (.one pre.length [x0,x1,x2,x3,x4,x5,.sla b 6 0 ([]:zt).length (.un 6)] (.flat (Zz pre))))=true:=by
 refine Xj fun i hi=> ?_;simp only [CI.get,Yw];cases e:Nat.beq i pre.length with
 | true=>obtain rfl:=Ai e;rw [AU (Aj _),Af,Af,BR];exact .cons (.refl _) (.cons (.refl _) (.cons (.refl _) (.cons (.refl _) (.cons (.refl _) (.cons (.refl _) (.cons (.nils b 6 0 (.un 6)) .nil))))))
 | false=>
  have:i≠pre.length:=fun h=>by rw [h,Bu] at e;cases e
  rw [show Nat.ble pre.length i=false from AY.2 fun e=>by have:=Al e;omega,Ab,Ab,Ak];exact Cd.refl _
theorem RK {G:Nat->zx} {b:Nat} {x0 x1 x2 x3 x4 x5:B5}:Cs 1 (Yw G 0 (fun k=>([x0,x1,x2,x3,x4,x5,.nils].drop (k*7)).take 7)) (CI.get (.one ([]:zu).length [x0,x1,x2,x3,x4,x5,.sla b 6 0 ([]:zt).length (.un 6)] (.flat (Zz ([]:zu)))))=true:=by
 refine Xj fun i hi=> ?_;obtain rfl:i=0:=by omega
 exact .cons (.refl _) (.cons (.refl _) (.cons (.refl _) (.cons (.refl _) (.cons (.refl _) (.cons (.refl _) (.cons (.nils b 6 0 (.un 6)) .nil))))))
theorem v9z {b:Nat} {x0 x1 x2 x3 x4 x5:B5}:v3l [x0,x1,x2,x3,x4,x5,.nils] 7 (([]:zu).length +1) (.one ([]:zu).length [x0,x1,x2,x3,x4,x5,.sla b 6 0 ([]:zt).length (.un 6)] (.flat (Zz ([]:zu))))=true:=by
 refine Xj ⟨?_,by decide,fun i hi=> ?_⟩
 .exact .cons (.refl _) (.cons (.refl _) (.cons (.refl _) (.cons (.refl _) (.cons (.refl _) (.cons (.refl _) (.cons (.nils b 6 0 (.un 6)) .nil))))))
 .obtain rfl:i=0:=by simp at hi;omega
  rfl
abbrev ZF (v0:List zy) (v2:Int) (v3:Int):=((v0.set (0+(tn v2)) (rd v0 (0+(tn v3)))).set (0+(tn v3)) (rd v0 (0+(tn v2))))
inductive GN where
 | h0 (aC:List zy) (aG:Int)
 | h1 (v0:List zy) (v2:Int) (v3:Int)
def N3 (l0:zu) (x1:Int):GN->CH
 | .h0 aC aG=>⟨⟨19,0,true⟩,none,(Zf prog 110 [0,0] 0),none,[],⟨Yh [(0,(.yld 0)),(1,(.ptr 2 0)),(2,(.ptr 3 0))],Ee [(1,⟨[(.sla 4 1 0 aC.length (.un 1))],70,none⟩),(2,⟨[(ii aG)],3,none⟩),(3,⟨[(dt l0)],22,none⟩),(4,(rz aC 9 1))],5,[],true⟩,[⟨⟨20,0,true⟩,none,(.inRangeFunc 0::(Zf prog 36 (pn 43) 1)),none,(Zy prog 3),Yh [(4,(.str [])),(5,(.ptr 1 0))]⟩],(Ed [(0,⟨.ready,none,20,Yh [(5,(.ptr 1 0))],[10],(Cr prog 36 [1,1,0,1,0,0]),(Cr prog 36 [1,1,0,1,0,1])⟩)])⟩
 | .h1 v0 v2 v3=>⟨⟨28,0,true⟩,none,(Zf prog 72 [1,0,0] 0),none,[],⟨Yh [(0,(.sla 0 1 0 v0.length (.un 1))),(2,(ii v2)),(3,(ii v3))],Wd [(rz v0 9 1),⟨[(.sla 0 1 0 v0.length (.un 1))],70,none⟩] 0,2,[],true⟩,[⟨⟨20,0,true⟩,(C4 prog 36 (pn 23) 1),(Zf prog 36 (pn 23) 1),none,(Zy prog 3),Yh [(5,(.ptr 1 0)),(16,(.sla 0 1 0 v0.length (.un 1)))]⟩],.leaf⟩
def LB :List (Option zw):=[some [0,1,2],some [4,5]]
def LD :List (Option zw):=[some [5],none,none,none,none]
def LA :List (Option zw):=[some [0,2,3],some [5,16]]
def LC :List (Option zw):=[]
def F3 (l0:zu) (x1:Int):GN->Xy GN
 | .h0 aC aG=>let b:=rd l0 aG.toNat;(bif (decide (aG>=0)) then (bif (Nat.beq 1 1&&((decide (0+aC.length=aC.length))&&decide ((aC.length+1+1)*(16+1)<=Vw))) then (bif ((decide (0<=aG/\aG<(l0.length:Int)))&&true) then (.to (.h0 (aC++[b.n]) b.a)) else .stuck) else .stuck) else (.to (.h1 aC 0 (wrap .i64 ((aC.length:Int) - 1)))))
 | .h1 v0 v2 v3=>(bif (decide (v2<v3)) then (bif ((decide (0<=v2/\v2<(v0.length:Int)))&&true) then (bif (decide ((0+v2.toNat)<v0.length)) then (bif ((decide (0<=v3/\v3<(v0.length:Int)))&&true) then (bif (decide ((0+v3.toNat)<v0.length)) then (.to (.h1 ((v0.set (0+v2.toNat) (rd v0 (0+v3.toNat))).set (0+v3.toNat) (rd v0 (0+v2.toNat))) (wrap .i64 (v2+1)) (wrap .i64 (v3 - 1)))) else .stuck) else .stuck) else .stuck) else .stuck) else (bif (Nat.beq 1 1&&(decide (0+v0.length<=v0.length)&&Cv (Zz v0))) then (bif (Qa (CG zy (v0.length) (fun k=>(Zz v0) (0+k))) ([47]:zy)) then (.ret [(.str (O0 (CG zy (v0.length) (fun k=>(Zz v0) (0+k))) ([47]:zy)))]) else .stuck) else .stuck))
def VT (l0:zu) (x1:Int):Xy GN:=(.to (.h0 ([]:List zy) x1))
theorem w9a (l0:zu) (x1:Int): ∀s,Wu prog (Zy prog 36) (N3 l0 x1) (N3 l0 x1 s) (F3 l0 x1 s)
 | .h0 aC aG=>(lb (fun k0=>(lo fun o0=>(lo fun o1=>let c:=rd l0 (tn aG);let e:=aC++[c.n];let f:=aC.length+1;let a:=xL f e.length;let b:=e;let d:=Zg (Zz aC) 0 aC.length 1 [(.str c.n)];(sl Jx 43 [] ⟨[0,1,2,3,7],[],LB,LD⟩ ⟨[],[.keep,.cells [.len b.length],.keep,.keep,.rowed 1 b.length (Zz b)],[]⟩ (CC 7 []) (pp a (pp a (pp (xS f d (Zz e)) (pp (pp (xF d) nn) (ww o1 (ww o0 (ww o1 (tt k0 nn)))))))))))) (fun k0=>(sl Jx 33 [] ⟨[4,1],[],LA,LC⟩ b7 (bl 7 0) (pp (fl aC nn) (tt k0 nn)))))
 | .h1 v0 v2 v3=>(lb (fun k0=>(lo fun o0=>(lo fun o1=>(lo fun o2=>(lo fun o3=>let d:=ZF v0 v2 v3;let a:=xL v0.length d.length;let b:=d;let c:=Yr (Yr (Zz v0) (0+(tn v2)) 0 [(.str (rd v0 (0+(tn v3))))]) (0+(tn v3)) 0 [(.str (rd v0 (0+(tn v2))))];(sl Jx 22 [] ⟨[0,1],[],LA,LC⟩ ⟨[(0,.len b.length)],[.rowed 1 b.length (Zz b),.cells [.len b.length]],[[(16,.len b.length)]]⟩ [true] (pp a (pp a (pp (xS v0.length c (Zz d)) (pp a (pp a (pp (pp (xF c) nn) (ww o3 (ww o2 (ww o1 (ww o0 (ww o1 (ww o0 (ww o3 (ww o2 (tt k0 nn))))))))))))))))))))) (fun k0=>(lo fun o0=>(lo fun o1=>(lr 20 3 (pn 191) 1 3 [(4,(.str (O0 (CG zy (v0.length) (fun k=>(Zz v0) (0+k))) ([47]:zy))))] (sl Jx 17 [] (b8 [4]) b7 [false] (pp (pp (pp (xw o0) (pp nn nn)) (pp (xI zy (v0.length) (fun k=>(Zz v0) (0+k))) (xw o1))) (tt k0 nn))))))))
theorem w0y (l0:zu) (x1:Int):Wu prog (Zy prog 36) (N3 l0 x1) (Zm prog 36 [(dt l0),(.int .i64 x1)] true []) (VT l0 x1):=(sl Jx 31 [(9,1,Zz ([]:List zy))] ⟨[3,0,2,1,4],[],LB,LD⟩ ⟨[],[.keep,.cells [.grow 4 1],.keep,.keep,.keep],[]⟩ [] (pp (fl ([]:List zy) nn) nn))
theorem u1g (l0:zu) (x1:Int) (n:Nat) (vs:zx) (h:Zt (F3 l0 x1) n (VT l0 x1)=.ret vs):Kw prog (Zy prog 36) (Zm prog 36 [(dt l0),(.int .i64 x1)] true []) vs:=by have:=Zb (w9a l0 x1) n _ (w0y l0 x1);rwa [h] at this
inductive Hi where
 | h0 (v5:zy) (v6:Int)
def NN (l0:zu) (x1:Int):Hi->CH
 | .h0 v5 v6=>⟨⟨33,0,true⟩,none,(Zf prog 39 (pn 75) 0),none,(Zy prog 3),⟨Yh [(0,(dt l0)),(5,(.str v5)),(6,(ii v6))],Wd [] 0,0,[],true⟩,[],.leaf⟩
def KX :List (Option zw):=[some [0,5,6]]
def KY :List (Option zw):=[]
def Ly (l0:zu) (x1:Int):Hi->Xy Hi
 | .h0 v5 v6=>let b:=rd l0 v6.toNat;(bif (decide (v6>=0)) then (bif (Ca b.n ([47]:zy)) then (bif (Ca (b.n ++([47]:zy)) v5) then (bif ((decide (0<=v6/\v6<(l0.length:Int)))&&true) then (.to (.h0 ((b.n ++([47]:zy))++v5) b.a)) else .stuck) else .stuck) else .stuck) else (.ret [(.str v5)]))
def V4 (l0:zu) (x1:Int):Xy Hi:=(bif ((decide (0<=x1/\x1<(l0.length:Int)))&&true) then (.to (.h0 (rd l0 x1.toNat).n (rd l0 x1.toNat).a)) else .stuck)
theorem w8i (l0:zu) (x1:Int): ∀s,Wu prog (Zy prog 39) (NN l0 x1) (NN l0 x1 s) (Ly l0 x1 s)
 | .h0 v5 v6=>(lb (fun k0=>(lo fun o0=>(lo fun o1=>(lo fun o2=>(sl Jx 31 [] ⟨[],[],KX,KY⟩ b7 [true] (ww o2 (ww o1 (ww o0 (ww o2 (tt k0 nn)))))))))) (fun k0=>(lr 33 3 (pn 191) 1 3 [(4,(.str v5))] (sl Jx 13 [] (b8 [4]) b7 [false] (tt k0 nn)))))
theorem x9v (l0:zu) (x1:Int):Wu prog (Zy prog 39) (NN l0 x1) (Zm prog 39 [(dt l0),(.int .i64 x1)] true []) (V4 l0 x1):=(lo fun o0=>(sl Jx 25 [] ⟨[],[],KX,KY⟩ b7 [] (ww o0 (ww o0 nn))))
theorem v9x (l0:zu) (x1:Int) (n:Nat) (vs:zx) (h:Zt (Ly l0 x1) n (V4 l0 x1)=.ret vs):Kw prog (Zy prog 39) (Zm prog 39 [(dt l0),(.int .i64 x1)] true []) vs:=by have:=Zb (w8i l0 x1) n _ (x9v l0 x1);rwa [h] at this
inductive GS where
 | h0 (v3:Int)
def Oa (l0:zu):GS->CH
 | .h0 v3=>⟨⟨43,0,true⟩,none,(Zf prog 9 (pn 37) 0),none,(Zy prog 9),⟨Yh [(0,(dt l0)),(3,(ii v3))],Wd [] 0,0,[],true⟩,[],.leaf⟩
def LX :List (Option zw):=[some [0,3]]
def LY :List (Option zw):=[]
def Ln (l0:zu):GS->Xy GS
 | .h0 v3=>let a:=rd l0 v3.toNat;(bif (decide (v3<(l0.length:Int))) then (bif (decide (v3<300)) then (bif ((decide (0<=v3/\v3<(l0.length:Int)))&&true) then (bif (decide (((a.s.length :Nat):Int)>12)) then (.ret [(.bool true)]) else (bif (decide (((a.n.length :Nat):Int)>500)) then (.ret [(.bool true)]) else (.to (.h0 (wrap .i64 (v3+1)))))) else .stuck) else (bif (decide ((l0.length:Int)>12)) then (bif (decide ((l0.length:Int)<=200)) then (.ret [(.bool true)]) else (.ret [(.bool (decide ((l0.length:Int)>220)))])) else (.ret [(.bool (decide ((l0.length:Int)>220)))]))) else (bif (decide ((l0.length:Int)>12)) then (bif (decide ((l0.length:Int)<=200)) then (.ret [(.bool true)]) else (.ret [(.bool (decide ((l0.length:Int)>220)))])) else (.ret [(.bool (decide ((l0.length:Int)>220)))])))
def x3s (l0:zu):Xy GS:=(.to (.h0 0))
theorem w9z (l0:zu): ∀s,Wu prog (Zy prog 9) (Oa l0) (Oa l0 s) (Ln l0 s)
 | .h0 v3=>let a:=decide ((l0.length:Int)>220);(lb (fun k0=>(lb (fun k1=>(lo fun bO=>let b:=ww bO (tt k1 (tt k0 nn));(lb (fun k2=>(lr 43 9 (pn 2341) 1 9 [(2,(.bool true))] (sl Jx 40 [] (b8 [2]) b7 (CC 11 []) (tt k2 b)))) (fun k2=>let e:=ww bO (tt k2 b);(lb (fun k3=>(lr 43 9 (pn 2341) 1 9 [(2,(.bool true))] (sl Jx 40 [] (b8 [2]) b7 (CC 3 (bl 8 128)) (tt k3 e)))) (fun k3=>(sl Jx 44 [] ⟨[],[],LX,LY⟩ b7 (CC 3 (bl 8 0)) (tt k3 e)))))))) (fun k1=>let c:=tt k1 (tt k0 nn);(lb (fun k2=>(lb (fun k3=>(lr 43 3 (pn 191) 1 9 [(2,(.bool true))] (sl Jx 31 [] (b8 [2]) b7 (bl 9 507) (tt k3 (tt k2 c))))) (fun k3=>(lr 43 3 (pn 191) 1 9 [(2,(.bool a))] (sl Jx 31 [] (b8 [2]) b7 (bl 9 59) (tt k3 (tt k2 c))))))) (fun k2=>(lr 43 3 (pn 191) 1 9 [(2,(.bool a))] (sl Jx 31 [] (b8 [2]) b7 (bl 9 3) (tt k2 c)))))))) (fun k0=>(lb (fun k1=>let d:=tt k1 (tt k0 nn);(lb (fun k2=>(lr 43 3 (pn 191) 1 9 [(2,(.bool true))] (sl Jx 31 [] (b8 [2]) b7 (bl 9 504) (tt k2 d)))) (fun k2=>(lr 43 3 (pn 191) 1 9 [(2,(.bool a))] (sl Jx 31 [] (b8 [2]) b7 (bl 9 56) (tt k2 d)))))) (fun k1=>(lr 43 3 (pn 191) 1 9 [(2,(.bool a))] (sl Jx 31 [] (b8 [2]) b7 (bl 9 0) (tt k1 (tt k0 nn))))))))
theorem w2i (l0:zu):Wu prog (Zy prog 9) (Oa l0) (Zm prog 9 [(dt l0)] true []) (x3s l0):=(sl Jx 11 [] ⟨[],[],LX,LY⟩ b7 [] nn)
theorem u3d (l0:zu) (n:Nat) (vs:zx) (h:Zt (Ln l0) n (x3s l0)=.ret vs):Kw prog (Zy prog 9) (Zm prog 9 [(dt l0)] true []) vs:=by have:=Zb (w9z l0) n _ (w2i l0);rwa [h] at this
def C8 (l:zu):Nat->Int->List zy
 | 0,_=>[]
 | k+1,i=>bif decide (0<=i) then (rd l i.toNat).n ::C8 l k (rd l i.toNat).a else []
def OA (l:zu) (i:Nat):Bool:=(List.range (i+1)).all fun j=>decide (-1<=(rd l j).a)&&decide ((rd l j).a <(j:Int))
def Je (l:zu) (i:Int):zy:=Lib.join (C8 l (i.toNat+1) i).reverse [47]
def Vz (l:zu) (i:Int):Bool:=decide (0<=i/\i<(l.length:Int))&&(decide (l.length<=1000)&&(OA l i.toNat&&l.all fun x=>decide (x.n.length<=500)))
theorem G4 {l:zu} {i j:Nat} (h:OA l i=true) (hj:j<=i): -1<=(rd l j).a /\(rd l j).a <(j:Int):=by have:=Ax.1 h j (A0.2 (by omega));rwa [Ad,An,An] at this
theorem MF (l:zu) (k:Nat) {i:Int} (h: ¬0<=i):C8 l k i=[]:=by
 cases k with
 | zero=>rfl
 | succ k=>unfold C8;rw [Ah h];rfl
theorem w4c {l:zu} {t:Nat} (ht:OA l t=true): ∀(k m:Nat) (i:Int),i<=(t:Int)->i<(k:Int)->i<(m:Int)->C8 l k i=C8 l m i
 | 0,m,i,h0,h1,h2=>by rw [MF l 0 (by omega),MF l m (by omega)]
 | k+1,0,i,h0,h1,h2=>by rw [MF l (k+1) (by omega),MF l 0 (by omega)]
 | k+1,m+1,i,h0,h1,h2=>by
  unfold C8;by_cases h:0<=i
  .obtain ⟨j,rfl⟩: ∃j:Nat,i=(j:Int):=⟨i.toNat,by omega⟩
   have hb:=G4 ht (show j<=t by omega);rw [Aa h,Af,Af,Zj,w4c ht k m (rd l j).a (by omega) (by omega) (by omega)]
  .rw [Ah h];rfl
theorem x8r (l:zu): ∀(k:Nat) (i:Int),(C8 l k i).length <=k
 | 0,i=>Aj _
 | k+1,i=>by
  unfold C8;cases decide (0<=i) with
  | true=>rw [Af,Aq];have:=x8r l k (rd l i.toNat).a;omega
  | false=>exact AH _
theorem Rd {l:zu} (h:(l.all fun x=>decide (x.n.length<=500))=true) (j:Nat):(rd l j).n.length <=500:=by
 by_cases hj:j<l.length
 .rw [Wv hj];exact Aw (Ax.1 h _ (AL hj))
 .have:rd l j=Xg.d:=by simp [rd,List.getD,List.getElem?_eq_none (show l.length<=j by omega)]
  rw [this];exact AH _
theorem x4u {l:zu} (h:(l.all fun x=>decide (x.n.length<=500))=true): ∀(k:Nat) (i:Int) (p:zy),p∈C8 l k i->p.length<=500
 | 0,i,p,hp=>by cases hp
 | k+1,i,p,hp=>by
  unfold C8 at hp;cases g:decide (0<=i) with
  | true=>
   rw [g,Af] at hp;cases hp with
   | head=>exact Rd h _
   | tail _ hp=>exact x4u h k _ p hp
  | false=>rw [g] at hp;cases hp
theorem v5n (m:Nat): ∀(L:List zy),(∀p∈L,p.length<=m)->Lib.lens L<=m*L.length
 | [],h=>by simp [Lib.lens]
 | x::r,h=>by
  have h1:=h x Bh;have h2:=v5n m r fun p hp=>h p (A5 _ hp);have e:Lib.lens (x::r)=x.length+Lib.lens r:=by simp [Lib.lens]
  rw [e,Aq,Nat.mul_add];omega
theorem v5s (L:List zy) (h: ∀p∈L,p.length<=500):(Lib.join L [47]).length <=501*L.length:=by
 cases L with
 | nil=>simp [Lib.join_nil]
 | cons x r=>have:=v5n 500 (x::r) h;rw [Lib.join_length];have e:(x::r).length =r.length+1:=rfl;rw [e] at this ⊢;show 1*r.length+_<=_;omega
theorem MK {l:zu} {i:Int} (h:Vz l i=true):(Je l i).length <=1000000:=by unfold Vz at h;simp only [Ad,An] at h;obtain ⟨h1,h2,h3,h4⟩:=h;have:=v5s (C8 l (i.toNat+1) i).reverse fun p hp=>x4u h4 _ _ p (List.mem_reverse.1 hp);have hl:=x8r l (i.toNat+1) i;rw [List.length_reverse] at this;unfold Je;omega
theorem u6u {l:zu} {x:Int} {t:Nat} (ht:OA l t=true) (hl:l.length<=1000) {R:Xy GN}: ∀(m:Nat) (i:Int) (out:List zy),i<(m:Int)->i<=(t:Int)->i<(l.length:Int)->out.length+m<=2000->
  (∃N,Zt (F3 l x) N (.to (.h1 (out++C8 l m i) 0 (wrap .i64 (((out++C8 l m i).length :Int) - 1))))=R)-> ∃N,Zt (F3 l x) N (.to (.h0 out i))=R
 | m,i,out,hm,hit,hil,ho,⟨N,hR⟩=>by
  by_cases h:0<=i
  .match m with
   | 0=>omega
   | m+1=>
    obtain ⟨j,rfl⟩: ∃j:Nat,i=(j:Int):=⟨i.toNat,by omega⟩
    have hb:=G4 ht (show j<=t by omega);have e:F3 l x (.h0 out (j:Int))=.to (.h0 (out++[(rd l j).n]) (rd l j).a):=by unfold F3;simp only [Zj];rw [Dr h,Af,Zu (HB (by omega)),Ar,Zu (Yx (by omega))]
    have hu:C8 l (m+1) (j:Int)=(rd l j).n ::C8 l m (rd l j).a :=(by rw [C8,Aa h,Af,Zj]);rw [hu,show out++(rd l j).n ::C8 l m (rd l j).a =(out++[(rd l j).n])++C8 l m (rd l j).a by rw [AI];rfl] at hR;obtain ⟨M,hM⟩:=u6u ht hl m (rd l j).a (out++[(rd l j).n]) (by omega) (by omega) (by omega) (by rw [Ap,AE];omega) ⟨N,hR⟩;exact ⟨M+1,by rw [Zx,e,hM]⟩
  .refine ⟨N+1,?_⟩;rw [MF l m h,AO] at hR;rw [Zx,<-hR]
   congr 1
   unfold F3;simp only [];rw [F6 h];rfl
theorem v3v {α:Type} [Xg α] {L:List α} {i:Nat} {v:α} (hi:i<L.length) (k:Nat):rd (L.set i v) k=bif Nat.beq i k then v else rd L k:=by
 unfold rd;rw [A9,A9,List.getElem?_set];cases g:Nat.beq i k with
 | true=>obtain rfl:=Ai g;rw [AG rfl,AG hi];rfl
 | false=>
  have:i≠k:=fun e=>by rw [e,Bu] at g;cases g
  rw [Az this];rfl
theorem j1q {L M:List zy} (hl:M.length=L.length) (h: ∀k,k<L.length->rd M k=rd L (L.length - 1 - k)):M=L.reverse:=by apply Bt (by rw [List.length_reverse,hl]);intro k h1 h2;have:=h k (by omega);rw [Wv h1,Wv (show L.length - 1 - k<L.length by omega)] at this;rw [this,List.getElem_reverse]
theorem u6t {l:zu} {x:Int} {L:List zy} (hL:L.length<=2000) (hj:Qa L.reverse [47]=true): ∀(d i j:Nat) (M:List zy),M.length=L.length->i+j+1=L.length+0\/(L.length=0/\i=0/\j=0)->j - i<=d->
  (∀k,k<L.length->rd M k=bif decide (k<i)||decide (j<k) then rd L (L.length - 1 - k) else rd L k)->
  ∃N,Zt (F3 l x) N (.to (.h1 M (i:Int) (wrap .i64 ((L.length:Int) - 1 - (i:Int)))))=.ret [.str (O0 L.reverse [47])]
 | d, i,j,M,hM,hij,hd,hk=>by
  have wj:L.length≠0->wrap .i64 ((L.length:Int) - 1 - (i:Int))=(j:Int):=fun h0=>by rw [Zq (by omega)];omega
  by_cases h:i<j
  .have h0:L.length≠0:=by omega
   match d with
   | 0=>omega
   | d +1=>
    have w2:wrap .i64 ((i:Int)+1)=((i+1:Nat):Int):=Zq (by omega);have w3:wrap .i64 ((j:Int) - 1)=wrap .i64 ((L.length:Int) - 1 - ((i+1:Nat):Int)):=by congr 1;omega
    have e:F3 l x (.h1 M (i:Int) (wrap .i64 ((L.length:Int) - 1 - (i:Int))))=.to (.h1 ((M.set i (rd M j)).set j (rd M i)) ((i+1:Nat):Int) (wrap .i64 ((L.length:Int) - 1 - ((i+1:Nat):Int)))):=by rw [wj h0];unfold F3;simp only [Zj,w2,w3,Ak];rw [Ym (by omega),Af,Ar,Ar,Zu (Yx (by omega)),Zu (Xs (by omega)),Zu (Yx (by omega)),Zu (Xs (by omega))]
    obtain ⟨N,hN⟩:=u6t (l:=l) (x:=x) hL hj d (i+1) (j - 1) ((M.set i (rd M j)).set j (rd M i)) (by rw [AX,AX,hM]) (by omega) (by omega) fun k hkl=>by
     rw [v3v (by rw [AX];omega),v3v (by omega)];by_cases g1:j=k
     .subst g1;rw [Bu,Af,hk i (by omega),Ah (show ¬i<i by omega),Ah (show ¬j<i by omega),Aa (show j - 1<j by omega),Bool.or_true];show rd L i=rd L (L.length - 1 - j)
      congr 1;omega
     .rw [show Nat.beq j k=false from by cases g:Nat.beq j k with
       | false=>rfl
       | true=>exact absurd (Ai g) g1,Ab]
      by_cases g2:i=k
      .subst g2;rw [Bu,Af,hk j (by omega),Ah (show ¬j<i by omega),Ah (show ¬j<j by omega),Aa (show i<i+1 by omega)];show rd L j=rd L (L.length - 1 - i)
       congr 1;omega
      .rw [show Nat.beq i k=false from by cases g:Nat.beq i k with
        | false=>rfl
        | true=>exact absurd (Ai g) g2,Ab,hk k hkl,show decide (k<i+1)=decide (k<i) by rw [AK,An,An];omega,show decide (j - 1<k)=decide (j<k) by rw [AK,An,An];omega]
    exact ⟨N+1,by rw [Zx,e,hN]⟩
  .have hrev:M=L.reverse:=j1q hM fun k hkl=>by
    rw [hk k hkl];cases g:decide (k<i)||decide (j<k) with
    | true=>rfl
    | false=>
     rw [AT,AS,AS] at g;show rd L k=_
     congr 1;omega
   subst hrev;refine ⟨1,?_⟩;rw [Zx];have hlt: ¬(i:Int)<wrap .i64 ((L.length:Int) - 1 - (i:Int)):=by rw [Zq (by omega)];omega
   unfold F3;simp only [];rw [Yo hlt,Ab,Zu (by rw [Ad,Ad];exact ⟨rfl,Aa (by omega),Xh _⟩),Uf,Zu hj];rfl
theorem j2e (l:zu) (i:Int) (h:Vz l i=true): ∃N,Zt (F3 l i) N (VT l i)=.ret [.str (Je l i)]:=by
 have hp:=MK h;unfold Vz at h;simp only [Ad,An] at h;obtain ⟨h1,h2,h3,h4⟩:=h;have eC:=x8r l (i.toNat+1) i;have hjo:Qa (C8 l (i.toNat+1) i).reverse [47]=true:=by unfold Qa;rw [Ad,An,An,List.length_reverse];exact ⟨by omega,hp⟩
 unfold VT;refine u6u h3 h2 (i.toNat+1) i [] (by omega) (by omega) (by omega) (by rw [AF];omega) ?_;rw [Bd];have:=u6t (l:=l) (x:=i) (L:=C8 l (i.toNat+1) i) (by omega) hjo ((C8 l (i.toNat+1) i).length) 0 ((C8 l (i.toNat+1) i).length - 1) (C8 l (i.toNat+1) i) rfl (by omega) (by omega) fun k hk=>by rw [Ah (show ¬k<0 by omega),Ah (show ¬(C8 l (i.toNat+1) i).length - 1<k by omega)];rfl
 rw [show ((C8 l (i.toNat+1) i).length :Int) - 1 - ((0:Nat):Int)=((C8 l (i.toNat+1) i).length :Int) - 1 by omega] at this;exact this
def FS :zx->Option (B5×Bool)
 | [a0,.int .i64 i]=>match C5 B8 a0 with
  | some (L,g,n)=>some (.str (Je L i),CV B8 n g&&Vz L i)
  | _=>none
 | _=>none
theorem j4w {S:B7} (hS:Zv prog S):Zv prog (S.with TS FS):=CU hS (by kernel_rfl) fun args v h=>by
 unfold FS at h;split at h
 .rename_i a0 i;split at h
  .rename_i L g n e0;simp only [Ae,Ac,Ad] at h;obtain ⟨rfl,ho0,hw⟩:=h;obtain ⟨N,hN⟩:=j2e L i hw;exact ⟨_,_,(.cons (Xd e0 ho0) (.cons (.refl _) .nil)),rfl,u1g L i N _ hN,3,rfl⟩
  .cases h
 .cases h
theorem u2u (sep x p:zy): ∀R:List zy,Lib.join (R++[x,p]) sep=Lib.join (R++[x++sep++p]) sep
 | []=>by show Lib.join [x,p] sep=Lib.join [x++sep++p] sep;rw [Lib.join_one,Lib.join_cons];simp [Lib.joinTail]
 | y::R=>by rw [Bl,Bl,Lib.join_cons,Lib.join_cons];simp [Lib.joinTail]
theorem u5z {l:zu} {x:Int} {t:Nat} (ht:OA l t=true) (hl:l.length<=1000) (hn:(l.all fun x=>decide (x.n.length<=500))=true): ∀(m:Nat) (i:Int) (p:zy),i<(m:Int)->i<=(t:Int)->i<(l.length:Int)->m<=1000->p.length+501*m<=600000->
  ∃N,Zt (Ly l x) N (.to (.h0 p i))=.ret [.str (Lib.join ((C8 l m i).reverse ++[p]) [47])]
 | m,i,p,hm,hit,hil,hm2,hp=>by
  by_cases h:0<=i
  .match m with
   | 0=>omega
   | m+1=>
    obtain ⟨j,rfl⟩: ∃j:Nat,i=(j:Int):=⟨i.toNat,by omega⟩
    have hb:=G4 ht (show j<=t by omega);have hnl:=Rd hn j;have e:Ly l x (.h0 p (j:Int))=.to (.h0 (((rd l j).n ++[47])++p) (rd l j).a):=by unfold Ly;simp only [Zj];rw [Dr h,Af,Zu (Gl (by show _+1<=_;omega)),Zu (Gl (by rw [Ap];show _+1+_<=_;omega)),Ar,Zu (Yx (by omega))]
    have hu:C8 l (m+1) (j:Int)=(rd l j).n ::C8 l m (rd l j).a :=(by rw [C8,Aa h,Af,Zj]);obtain ⟨N,hN⟩:=u5z (x:=x) ht hl hn m (rd l j).a (((rd l j).n ++[47])++p) (by omega) (by omega) (by omega) (by omega) (by rw [Ap,Ap];show _+1+_+_<=_;omega);refine ⟨N+1,?_⟩;rw [Zx,e,hN,hu,List.reverse_cons,show (C8 l m (rd l j).a).reverse ++[(rd l j).n]++[p]=(C8 l m (rd l j).a).reverse ++[(rd l j).n,p] from AI _ _ _,u2u]
  .refine ⟨1,?_⟩;rw [Zx,MF l m h,List.reverse_nil,Bd,Lib.join_one];unfold Ly;simp only [];rw [F6 h];rfl
theorem j0w (l:zu) (i:Int) (h:Vz l i=true): ∃N,Zt (Ly l i) N (V4 l i)=.ret [.str (Je l i)]:=by
 unfold Vz at h;simp only [Ad,An] at h;obtain ⟨h1,h2,h3,h4⟩:=h;obtain ⟨j,rfl⟩: ∃j:Nat,i=(j:Int):=⟨i.toNat,by omega⟩
 rw [Zj] at h3;have hb:=G4 h3 (Aj j);have hnl:=Rd h4 j;unfold V4 Je;rw [Ar,Zu (Yx h1),Zj];have hu:C8 l (j+1) (j:Int)=(rd l j).n ::C8 l j (rd l j).a :=by rw [C8,Aa (show (0:Int)<=(j:Int) by omega),Af,Zj]
 rw [hu,List.reverse_cons];exact u5z h3 h2 h4 j (rd l j).a (rd l j).n (by omega) (by omega) (by omega) (by omega) (by omega)
theorem j4n {S:B7} (hS:Zv prog S):Zv prog (S.with TH FS):=CU hS (by kernel_rfl) fun args v h=>by
 unfold FS at h;split at h
 .rename_i a0 i;split at h
  .rename_i L g n e0;simp only [Ae,Ac,Ad] at h;obtain ⟨rfl,ho0,hw⟩:=h;obtain ⟨N,hN⟩:=j0w L i hw;exact ⟨_,_,(.cons (Xd e0 ho0) (.cons (.refl _) .nil)),rfl,v9x L i N _ hN,3,rfl⟩
  .cases h
 .cases h
def FP (x:B8):Bool:=decide (12<x.s.length)||decide (500<x.n.length)
def greZ (n:Nat):Bool:=decide (12<n)&&decide (n<=200)||decide (220<n)
def JH (l:zu):Bool:=(l.take 300).any FP||greZ l.length
theorem j3q (l:zu):(bif decide ((l.length:Int)>12) then (bif decide ((l.length:Int)<=200) then (.ret [.bool true]) else (.ret [.bool (decide ((l.length:Int)>220))])) else (.ret [.bool (decide ((l.length:Int)>220))]):Xy GS)=.ret [.bool (greZ l.length)]:=by
 unfold greZ;have e:decide ((l.length:Int)>220)=decide (220<l.length):=by rw [AK,An,An];omega
 rw [e];by_cases h:12<l.length
 .rw [Xv (by omega),Aa h];by_cases h2:l.length<=200
  .rw [Wj (by omega),Aa h2];rfl
  .rw [Ew (by omega),Ah h2];rfl
 .rw [Xb (by omega),Ah h];rfl
theorem u8b (l:zu): ∀(k i:Nat),i+k=min l.length 300-> ∃N,Zt (Ln l) N (.to (.h0 (i:Int)))=.ret [.bool (((l.take 300).drop i).any FP||greZ l.length)]
 | 0,i,h=>⟨1,by
  rw [Zx,Av (by rw [Bf];omega)];unfold Ln;simp only [];rw [j3q];by_cases g:i<l.length
  .rw [Ym (by omega),Af,Yo (by omega)];rfl
  .rw [Yo (by omega)];rfl⟩
 | k+1,i,h=>by
  have hi:i<l.length:=by omega
  have w2:wrap .i64 ((i:Int)+1)=((i+1:Nat):Int):=Zq (by omega);have e:Ln l (.h0 (i:Int))=bif FP (rd l i) then .ret [.bool true] else .to (.h0 ((i+1:Nat):Int)):=by
   unfold Ln FP;simp only [Zj,w2];rw [Ym (by omega),Af,Ym (by omega),Af,Ar,Zu (Yx (by omega))];have e1:decide (((rd l i).s.length :Int)>12)=decide (12<(rd l i).s.length):=by rw [AK,An,An];omega
   have e2:decide (((rd l i).n.length :Int)>500)=decide (500<(rd l i).n.length):=by rw [AK,An,An];omega
   rw [e1,e2];cases decide (12<(rd l i).s.length) <;> rfl
  have hd:(l.take 300).drop i=rd l i::(l.take 300).drop (i+1):=by rw [AQ (show i<(l.take 300).length by rw [Bf];omega),BH,Wv hi]
  rw [hd,B4];cases g:FP (rd l i) with
  | true=>exact ⟨1,by rw [Zx,e,g];rfl⟩
  | false=>obtain ⟨N,hN⟩:=u8b l k (i+1) (by omega);exact ⟨N+1,by rw [Zx,e,g,Ab,hN,Bi]⟩
theorem j3o (l:zu): ∃N,Zt (Ln l) N (x3s l)=.ret [.bool (JH l)]:=u8b l (min l.length 300) 0 (Ak _)
def PH :zx->Option (B5×Bool)
 | [a0]=>match C5 B8 a0 with
  | some (L,g,n)=>some (.bool (JH L),CV B8 n g)
  | _=>none
 | _=>none
theorem j5h {S:B7} (hS:Zv prog S):Zv prog (S.with UB PH):=CU hS (by kernel_rfl) fun args v h=>by
 unfold PH at h;split at h
 .rename_i a0;split at h
  .rename_i L g n e0;simp only [Ae,Ac] at h;obtain ⟨rfl,ho0⟩:=h;obtain ⟨N,hN⟩:=j3o L;exact ⟨_,_,(.cons (Xd e0 ho0) .nil),rfl,u3d L N _ hN,3,rfl⟩
  .cases h
 .cases h
def UL :B7:=((UM.with TS FS).with TH FS).with UB PH
theorem Eq :Zv prog UL:=j5h (j4n (j4w Jx))
inductive IP where
def Od (bE:Int) (bD:Int) (bC:Int) (bS:Int):IP->CH
 :=nofun
def w2q (bE:Int) (bD:Int) (bC:Int) (bS:Int):IP->Xy IP
 :=nofun
def Rk (bE:Int) (bD:Int) (bC:Int) (bS:Int):Xy IP:=(bif (decide (bE>=24)) then (.ret [(.int .i64 8)]) else (bif (decide ((Cl (Cl bD bC) bS)>=(-1000000))) then (bif (!(decide ((Ck (Ck bD bC) bS)<=1000000))) then (.ret [(.int .i64 8)]) else (.ret [(.int .i64 0)])) else (.ret [(.int .i64 8)])))
theorem v0h (bE:Int) (bD:Int) (bC:Int) (bS:Int): ∀s,Wu prog (Zy prog 56) (Od bE bD bC bS) (Od bE bD bC bS s) (w2q bE bD bC bS s)
 :=nofun
theorem w2r (bE:Int) (bD:Int) (bC:Int) (bS:Int):Wu prog (Zy prog 56) (Od bE bD bC bS) (Zm prog 56 [(.agg [(.int .u8 bE),(.int .i64 bD),(.int .i64 bC),(.int .i64 bS)])] true []) (Rk bE bD bC bS):=(lb (fun k0=>(lr 12 56 (pn 37) 1 9 [(2,(ii 8))] (sl Eq 23 [] (b8 [2]) b7 (CC 5 []) (tt k0 nn)))) (fun k0=>(lb (fun k1=>let a:=tt k1 (tt k0 nn);(lb (fun k2=>(lr 12 56 (pn 37) 1 9 [(2,(ii 8))] (sl Eq 52 [] (b8 [2]) b7 (bl 13 6136) (tt k2 a)))) (fun k2=>(lr 12 3 (pn 191) 1 9 [(2,(ii 0))] (sl Eq 53 [] (b8 [2]) b7 (bl 13 2040) (tt k2 a)))))) (fun k1=>(lr 12 56 (pn 37) 1 9 [(2,(ii 8))] (sl Eq 52 [] (b8 [2]) b7 (bl 13 4096) (tt k1 (tt k0 nn))))))))
theorem u3l (bE:Int) (bD:Int) (bC:Int) (bS:Int) (n:Nat) (vs:zx) (h:Zt (w2q bE bD bC bS) n (Rk bE bD bC bS)=.ret vs):Kw prog (Zy prog 56) (Zm prog 56 [(.agg [(.int .u8 bE),(.int .i64 bD),(.int .i64 bC),(.int .i64 bS)])] true []) vs:=by have:=Zb (v0h bE bD bC bS) n _ (w2r bE bD bC bS);rwa [h] at this
inductive Hq where
def NW (bE:Int) (bD:Int) (bC:Int) (bS:Int):Hq->CH
 :=nofun
def w0l (bE:Int) (bD:Int) (bC:Int) (bS:Int):Hq->Xy Hq
 :=nofun
def Rq (bE:Int) (bD:Int) (bC:Int) (bS:Int):Xy Hq:=(bif (decide (bE>=24)) then (.ret [(.int .i64 8)]) else (bif (decide (bD>=(-1000000))) then (bif (decide (bC>=(-1000000))) then (bif (decide (bS>=(-1000000))) then (bif (decide (bD<=1000000)) then (bif (decide (bC<=1000000)) then (bif (!(decide (bS<=1000000))) then (.ret [(.int .i64 8)]) else (.ret [(.int .i64 0)])) else (.ret [(.int .i64 8)])) else (.ret [(.int .i64 8)])) else (.ret [(.int .i64 8)])) else (.ret [(.int .i64 8)])) else (.ret [(.int .i64 8)])))
theorem w8s (bE:Int) (bD:Int) (bC:Int) (bS:Int): ∀s,Wu prog (Zy prog 25) (NW bE bD bC bS) (NW bE bD bC bS s) (w0l bE bD bC bS s)
 :=nofun
theorem w0m (bE:Int) (bD:Int) (bC:Int) (bS:Int):Wu prog (Zy prog 25) (NW bE bD bC bS) (Zm prog 25 [(.agg [(.int .u8 bE),(.int .i64 bD),(.int .i64 bC),(.int .i64 bS)])] true []) (Rq bE bD bC bS):=(lb (fun k0=>(lr 12 25 (pn 37) 1 9 [(2,(ii 8))] (sl Eq 23 [] (b8 [2]) b7 (CC 5 []) (tt k0 nn)))) (fun k0=>(lb (fun k1=>let c:=tt k1 (tt k0 nn);(lb (fun k2=>let a:=tt k2 c;(lb (fun k3=>(lb (fun k4=>let b:=tt k4 (tt k3 a);(lb (fun k5=>(lb (fun k6=>(lr 12 25 (pn 37) 1 9 [(2,(ii 8))] (sl Eq 64 [] (b8 [2]) b7 (bl 22 3145720) (tt k6 (tt k5 b))))) (fun k6=>(lr 12 3 (pn 191) 1 9 [(2,(ii 0))] (sl Eq 65 [] (b8 [2]) b7 (bl 22 1048568) (tt k6 (tt k5 b))))))) (fun k5=>(lr 12 25 (pn 37) 1 9 [(2,(ii 8))] (sl Eq 64 [] (b8 [2]) b7 (bl 22 2228216) (tt k5 b)))))) (fun k4=>(lr 12 25 (pn 37) 1 9 [(2,(ii 8))] (sl Eq 64 [] (b8 [2]) b7 (bl 22 2113528) (tt k4 (tt k3 a))))))) (fun k3=>(lr 12 25 (pn 37) 1 9 [(2,(ii 8))] (sl Eq 64 [] (b8 [2]) b7 (bl 22 2099192) (tt k3 a)))))) (fun k2=>(lr 12 25 (pn 37) 1 9 [(2,(ii 8))] (sl Eq 64 [] (b8 [2]) b7 (bl 22 2097272) (tt k2 c)))))) (fun k1=>(lr 12 25 (pn 37) 1 9 [(2,(ii 8))] (sl Eq 64 [] (b8 [2]) b7 (bl 22 2097152) (tt k1 (tt k0 nn))))))))
theorem u0n (bE:Int) (bD:Int) (bC:Int) (bS:Int) (n:Nat) (vs:zx) (h:Zt (w0l bE bD bC bS) n (Rq bE bD bC bS)=.ret vs):Kw prog (Zy prog 25) (Zm prog 25 [(.agg [(.int .u8 bE),(.int .i64 bD),(.int .i64 bC),(.int .i64 bS)])] true []) vs:=by have:=Zb (w8s bE bD bC bS) n _ (w0m bE bD bC bS);rwa [h] at this
def Ty (x:Int):Bool:=decide (-1000000<=x)&&decide (x<=1000000)
def Ql (x y z:Int):Bool:=Ty x&&(Ty y&&Ty z)
def Fk (t x y z:Int):Int:=bif decide (24<=t) then 8 else bif Ql x y z then 0 else 8
theorem w2f (x y z:Int):Ql x y z=true↔(-1000000<=x/\x<=1000000)/\(-1000000<=y/\y<=1000000)/\(-1000000<=z/\z<=1000000):=by unfold Ql Ty;simp only [Ad,An]
theorem j3v (t x y z:Int): ∃N,Zt (w2q t x y z) N (Rk t x y z)=.ret [.int .i64 (Fk t x y z)]:=⟨0,by
 show Rk t x y z=_;unfold Rk Fk;by_cases h:24<=t
 .rw [Dr h];rfl
 .rw [F6 h,Ab,Ab];cases g:Ql x y z with
  | true=>have:=(w2f x y z).1 g;rw [Lp,Lp,Lo,Lo,Dr (by omega),Wj (by omega)];rfl
  | false=>
   have: ¬((-1000000<=x/\x<=1000000)/\(-1000000<=y/\y<=1000000)/\(-1000000<=z/\z<=1000000)):=fun h=>AY.1 g ((w2f x y z).2 h);rw [Lp,Lp,Lo,Lo];by_cases h1:min (min x y) z>= -1000000
   .rw [Dr h1,Af,Ew (by omega)];rfl
   .rw [F6 h1];rfl⟩
theorem j1p (t x y z:Int): ∃N,Zt (w0l t x y z) N (Rq t x y z)=.ret [.int .i64 (Fk t x y z)]:=⟨0,by
 show Rq t x y z=_;unfold Rq Fk Ql Ty;by_cases h:24<=t
 .rw [Dr h];rfl
 .rw [F6 h,Ab,Ab];show (bif decide (-1000000<=x) then _ else _)=_;have e: ∀(a b:Int),decide (a>=b)=decide (b<=a):=fun a b=>rfl;rw [e y,e z];cases decide (-1000000<=x) <;> cases decide (-1000000<=y) <;> cases decide (-1000000<=z) <;> cases decide (x<=1000000) <;> cases decide (y<=1000000) <;> cases decide (z<=1000000) <;> rfl⟩
def RA :zx->Option (B5×Bool)
 | [.agg [.int .u8 t,.int .i64 x,.int .i64 y,.int .i64 z]]=>some (.int .i64 (Fk t x y z),true)
 | _=>none
theorem j5k {S:B7} (hS:Zv prog S):Zv prog (S.with UE RA):=CU hS (by kernel_rfl) fun args v h=>by
 unfold RA at h;split at h
 .rename_i t x y z;simp only [Ae,Ac] at h;obtain ⟨rfl,_⟩:=h;obtain ⟨N,hN⟩:=j3v t x y z;exact ⟨_,_,.cons (.refl _) .nil,rfl,u3l t x y z N _ hN,3,rfl⟩
 .cases h
theorem j4s {S:B7} (hS:Zv prog S):Zv prog (S.with TL RA):=CU hS (by kernel_rfl) fun args v h=>by
 unfold RA at h;split at h
 .rename_i t x y z;simp only [Ae,Ac] at h;obtain ⟨rfl,_⟩:=h;obtain ⟨N,hN⟩:=j1p t x y z;exact ⟨_,_,.cons (.refl _) .nil,rfl,u0n t x y z N _ hN,3,rfl⟩
 .cases h
def UK :B7:=(UL.with UE RA).with TL RA
theorem Wn :Zv prog UK:=j4s (j5k Eq)
inductive H6 where
 | h0 (v15:Int)
 | h1 (v29:Int) (aN:List (zy×Bool))
def Mw (l0:zu):H6->CH
 | .h0 v15=>⟨⟨69,0,true⟩,none,(Zf prog 33 (pn 75) 0),none,(Zy prog 9),⟨Yh [(0,(dt l0)),(13,(dt l0)),(14,(ii (l0.length:Int))),(15,(ii v15))],Wd [] 0,0,[],true⟩,[],.leaf⟩
 | .h1 v29 aN=>⟨⟨69,0,true⟩,none,(Zf prog 33 (pn 303) 0),none,(Zy prog 9),⟨Yh [(0,(dt l0)),(6,(.mapr 0)),(27,(dt l0)),(28,(ii (l0.length:Int))),(29,(ii v29))],Wd [⟨[(.obj (.mb aN))],121,none⟩] 0,1,[],true⟩,[],.leaf⟩
def J1 :List (Option zw):=[some [0,13,14,15]]
def J3 :List (Option zw):=[]
def J0 :List (Option zw):=[some [0,6,27,28,29]]
def J2 :List (Option zw):=[]
def Er (l0:zu):H6->Xy H6
 | .h0 v15=>let a:=B6 (rd l0 v15.toNat).s;(bif (decide (v15<(l0.length:Int))) then (bif ((decide (0<=v15/\v15<(l0.length:Int)))&&true) then (bif (x9d a) then (bif ((Uw a) != 0) then (.ret [(.int .i64 (Uw a))]) else (.to (.h0 (wrap .i64 (v15+1))))) else .stuck) else .stuck) else (.to (.h1 0 ([]:List (zy×Bool)))))
 | .h1 v29 aN=>let b:=rd l0 v29.toNat;let c:=Je (B6 l0) v29;(bif (decide (v29<(l0.length:Int))) then (bif ((decide (0<=v29/\v29<(l0.length:Int)))&&true) then (bif (Ue b.n) then (bif (!(Ch b.n)) then (.ret [(.int .i64 8)]) else (bif (decide (b.a <(-1))) then (.ret [(.int .i64 8)]) else (bif (decide (b.a >=v29)) then (.ret [(.int .i64 8)]) else (bif ((Fk b.t b.x b.y b.z) != 0) then (.ret [(.int .i64 8)]) else (bif (Vz (B6 l0) v29) then (bif (getK false aN c) then (.ret [(.int .i64 8)]) else (bif (Vs c) then (bif ((C3 c) != 0) then (.ret [(.int .i64 8)]) else (.to (.h1 (wrap .i64 (v29+1)) (Cy aN c true)))) else .stuck)) else .stuck))))) else .stuck) else .stuck) else (.ret [(.int .i64 0)]))
def WC (l0:zu):Xy H6:=(bif (decide ((l0.length:Int)>200)) then (.ret [(.int .i64 4)]) else (.to (.h0 0)))
theorem w7o (l0:zu): ∀s,Wu prog (Zy prog 33) (Mw l0) (Mw l0 s) (Er l0 s)
 | .h0 v15=>(lb (fun k0=>(lo fun aB=>(lo fun aL=>let a:=ww aB (tt k0 nn);let b:=rd l0 (tn v15);(lb (fun k1=>(lr 69 33 (pn 40139) 1 9 [(2,(ii (Uw (B6 b.s))))] (sl Wn 34 [] (b8 [2]) b7 (bl 2 3) (tt k1 (pp (pp (xI R6 b.s.length (Zz b.s)) (xw aL)) a))))) (fun k1=>(sl Wn 36 [] ⟨[],[],J1,J3⟩ b7 (bl 2 1) (tt k1 (pp (pp (xI R6 b.s.length (Zz b.s)) (xw aL)) a)))))))) (fun k0=>(sl Wn 21 [] ⟨[0],[],J0,J2⟩ b7 [false] (tt k0 nn))))
 | .h1 v29 aN=>(lb (fun k0=>(lo fun aB=>(lo fun aL=>let b:=ww aL (ww aB (tt k0 nn));let e:=pn 152367;(lb (fun k1=>(lr 69 33 e 1 9 [(2,(ii 8))] (sl Wn 48 [] (b8 [2]) b7 (CC 13 []) (tt k1 b)))) (fun k1=>(lb (fun k2=>(lr 69 33 e 1 9 [(2,(ii 8))] (sl Wn 48 [] (b8 [2]) b7 (bl 13 8177) (tt k2 (tt k1 b))))) (fun k2=>let c:=tt k2 (tt k1 b);(lb (fun k3=>(lr 69 33 e 1 9 [(2,(ii 8))] (sl Wn 48 [] (b8 [2]) b7 (bl 13 7937) (tt k3 c)))) (fun k3=>(lb (fun k4=>(lr 69 33 e 1 9 [(2,(ii 8))] (sl Wn 48 [] (b8 [2]) b7 (bl 13 4097) (tt k4 (tt k3 c))))) (fun k4=>(lo fun cW=>let a:=pp (pp (xr l0) (xw cW)) (tt k4 (tt k3 c));(lb (fun k5=>(lr 69 33 (pn 619311) 1 9 [(2,(ii 8))] (sl Wn 69 [] (b8 [2]) b7 (bl 17 122881) (tt k5 a)))) (fun k5=>(lo fun dF=>let d:=ww dF (tt k5 a);(lb (fun k6=>(lr 69 33 (pn 619311) 1 9 [(2,(ii 8))] (sl Wn 69 [] (b8 [2]) b7 (bl 17 65537) (tt k6 d)))) (fun k6=>(sl Wn 77 [] ⟨[0],[],J0,J2⟩ b7 (bl 17 1) (tt k6 d))))))))))))))))))) (fun k0=>(lr 69 3 (pn 191) 1 9 [(2,(ii 0))] (sl Wn 11 [] (b8 [2]) b7 [false] (tt k0 nn)))))
theorem x9e (l0:zu):Wu prog (Zy prog 33) (Mw l0) (Zm prog 33 [(dt l0)] true []) (WC l0):=(lb (fun k0=>(lr 69 33 (pn 37) 1 9 [(2,(ii 4))] (sl Wn 16 [] (b8 [2]) b7 [true] (tt k0 nn)))) (fun k0=>(sl Wn 22 [] ⟨[],[],J1,J3⟩ b7 [false] (tt k0 nn))))
theorem v9a (l0:zu) (n:Nat) (vs:zx) (h:Zt (Er l0) n (WC l0)=.ret vs):Kw prog (Zy prog 33) (Zm prog 33 [(dt l0)] true []) vs:=by have:=Zb (w7o l0) n _ (x9e l0);rwa [h] at this
inductive Hd where
 | h0 (v3:Int)
 | h1 (v4:Int)
 | h2 (v4:Int) (v6:Int) (aN:zy) (aA:Int) (bF:Int) (bH:Int) (bL:Int) (bM:Int) (aR:zt)
def NH (l0:zu):Hd->CH
 | .h0 v3=>⟨⟨90,0,true⟩,none,(Zf prog 38 (pn 75) 0),none,(Zy prog 9),⟨Yh [(0,(dt l0)),(3,(ii v3))],Wd [] 0,0,[],true⟩,[],.leaf⟩
 | .h1 v4=>⟨⟨90,0,true⟩,none,(Zf prog 38 (pn 151) 0),none,(Zy prog 9),⟨Yh [(0,(dt l0)),(4,(ii v4))],Wd [] 0,0,[],true⟩,[],.leaf⟩
 | .h2 v4 v6 aN aA bF bH bL bM aR=>⟨⟨90,0,true⟩,none,(Zf prog 38 (pn 40087) 0),none,(Zy prog 9),⟨Yh [(0,(dt l0)),(4,(ii v4)),(5,(.ptr 0 0)),(6,(ii v6))],Wd [⟨[(.str aN),(ii aA),(.int .u8 bF),(ii bH),(ii bL),(ii bM),(dt aR)],48,none⟩] 0,1,[],true⟩,[],.leaf⟩
def KQ :List (Option zw):=[some [0,3]]
def KS :List (Option zw):=[]
def KP :List (Option zw):=[some [0,4]]
def KR :List (Option zw):=[]
def j0j :List (Option zw):=[some [0,4,5,6]]
def j0k :List (Option zw):=[]
def Uu (l0:zu):Hd->Xy Hd
 | .h0 v3=>let a:=B6 (rd l0 v3.toNat).s;(bif (decide (v3<(l0.length:Int))) then (bif ((decide (0<=v3/\v3<(l0.length:Int)))&&true) then (bif (w0s a) then (bif ((Ix a) != 0) then (.ret [(.int .i64 (Ix a))]) else (.to (.h0 (wrap .i64 (v3+1))))) else .stuck) else .stuck) else (.to (.h1 0)))
 | .h1 v4=>let b:=rd l0 v4.toNat;let c:=Je (B6 l0) v4;(bif (decide (v4<(l0.length:Int))) then (bif ((decide (0<=v4/\v4<(l0.length:Int)))&&true) then (bif (Ue b.n) then (bif (!(Ch b.n)) then (.ret [(.int .i64 8)]) else (bif (decide (b.a <(-1))) then (.ret [(.int .i64 8)]) else (bif (decide (b.a >=v4)) then (.ret [(.int .i64 8)]) else (bif ((Fk b.t b.x b.y b.z) != 0) then (.ret [(.int .i64 8)]) else (bif (Vz (B6 l0) v4) then (bif (Vs c) then (bif ((C3 c) != 0) then (.ret [(.int .i64 8)]) else (.to (.h2 v4 0 b.n b.a b.t b.x b.y b.z b.s))) else .stuck) else .stuck))))) else .stuck) else .stuck) else (.ret [(.int .i64 0)]))
 | .h2 v4 v6 aN aA bF bH bL bM aR=>let b:=rd l0 v6.toNat;(bif (decide (v6<v4)) then (bif ((decide (0<=v6/\v6<(l0.length:Int)))&&true) then (bif (b.a == aA) then (bif (b.n == aN) then (.ret [(.int .i64 8)]) else (.to (.h2 v4 (wrap .i64 (v6+1)) aN aA bF bH bL bM aR))) else (.to (.h2 v4 (wrap .i64 (v6+1)) aN aA bF bH bL bM aR))) else .stuck) else (.to (.h1 (wrap .i64 (v4+1)))))
def V6 (l0:zu):Xy Hd:=(bif (decide ((l0.length:Int)>200)) then (.ret [(.int .i64 4)]) else (.to (.h0 0)))
theorem w8b (l0:zu): ∀s,Wu prog (Zy prog 38) (NH l0) (NH l0 s) (Uu l0 s)
 | .h0 v3=>(lb (fun k0=>(lo fun aB=>(lo fun aL=>let b:=ww aB (tt k0 nn);let c:=rd l0 (tn v3);(lb (fun k1=>let a:=pp (xI R6 c.s.length (Zz c.s)) (xw aL);(lr 90 38 (pn 4683) 1 9 [(2,(ii (Ix (B6 c.s))))] (sl Wn 33 [] (b8 [2]) b7 (bl 2 3) (pp a (ww aB (tt k1 (pp a b))))))) (fun k1=>(sl Wn 31 [] ⟨[],[],KQ,KS⟩ b7 (bl 2 1) (tt k1 (pp (pp (xI R6 c.s.length (Zz c.s)) (xw aL)) b)))))))) (fun k0=>(sl Wn 17 [] ⟨[],[],KP,KR⟩ b7 [false] (tt k0 nn))))
 | .h1 v4=>(lb (fun k0=>(lo fun aB=>(lo fun aL=>let c:=ww aL (ww aB (tt k0 nn));(lb (fun k1=>(lr 90 38 (pn 38039) 1 9 [(2,(ii 8))] (sl Wn 58 [] (b8 [2]) b7 (CC 18 []) (tt k1 c)))) (fun k1=>let a:=tt k1 c;(lb (fun k2=>(lr 90 38 (pn 38039) 1 9 [(2,(ii 8))] (sl Wn 58 [] (b8 [2]) b7 (bl 18 262129) (tt k2 a)))) (fun k2=>(lb (fun k3=>(lr 90 38 (pn 38039) 1 9 [(2,(ii 8))] (sl Wn 58 [] (b8 [2]) b7 (bl 18 261889) (tt k3 (tt k2 a))))) (fun k3=>let d:=tt k3 (tt k2 a);(lb (fun k4=>(lr 90 38 (pn 38039) 1 9 [(2,(ii 8))] (sl Wn 58 [] (b8 [2]) b7 (bl 18 258049) (tt k4 d)))) (fun k4=>(lo fun cW=>(lo fun dV=>let b:=ww dV (pp (pp (xr l0) (xw cW)) (tt k4 d));(lb (fun k5=>(lr 90 38 (pn 38039) 1 9 [(2,(ii 8))] (sl Wn 58 [] (b8 [2]) b7 (bl 18 131073) (tt k5 b)))) (fun k5=>(sl Wn 61 [] ⟨[0],[],j0j,j0k⟩ b7 (bl 18 1) (tt k5 b))))))))))))))))) (fun k0=>(lr 90 3 (pn 191) 1 9 [(2,(ii 0))] (sl Wn 14 [] (b8 [2]) b7 [false] (tt k0 nn)))))
 | .h2 v4 v6 aN aA bF bH bL bM aR=>(lb (fun k0=>(lo fun aB=>let a:=ww aB (tt k0 nn);(lb (fun k1=>let b:=ww aB (tt k1 a);(lb (fun k2=>(lr 90 38 (pn 2399383) 1 9 [(2,(ii 8))] (sl Wn 18 [] (b8 [2]) b7 (CC 10 []) (tt k2 b)))) (fun k2=>(sl Wn 22 [] ⟨[0],[],j0j,j0k⟩ b7 (CC 9 [false]) (tt k2 b))))) (fun k1=>(sl Wn 22 [] ⟨[0],[],j0j,j0k⟩ b7 (bl 10 1) (tt k1 a)))))) (fun k0=>(sl Wn 16 [] ⟨[],[],KP,KR⟩ b7 [false] (tt k0 nn))))
theorem x9q (l0:zu):Wu prog (Zy prog 38) (NH l0) (Zm prog 38 [(dt l0)] true []) (V6 l0):=(lb (fun k0=>(lr 90 38 (pn 37) 1 9 [(2,(ii 4))] (sl Wn 16 [] (b8 [2]) b7 [true] (tt k0 nn)))) (fun k0=>(sl Wn 20 [] ⟨[],[],KQ,KS⟩ b7 [false] (tt k0 nn))))
theorem v9p (l0:zu) (n:Nat) (vs:zx) (h:Zt (Uu l0) n (V6 l0)=.ret vs):Kw prog (Zy prog 38) (Zm prog 38 [(dt l0)] true []) vs:=by have:=Zb (w8b l0) n _ (x9q l0);rwa [h] at this
open Go.Shelf Go.RowKit
def pt (L:zp) (y:Int):Prop:= ∃s∈L,s.a<=y/\y<s.b
structure Dc (L:zp):Prop where
 pos: ∀s∈L,s.a<s.b
 sep:L.Pairwise fun s t=>s.b<t.a
theorem Dc.nil :Dc []:=⟨by simp,.nil⟩
theorem Dc.tail {s:R2} {L:zp} (h:Dc (s::L)):Dc L:=⟨fun t ht=>h.pos t (A5 _ ht),(Bv.1 h.sep).2⟩
theorem Dc.head {s:R2} {L:zp} (h:Dc (s::L)): ∀t∈L,s.b<t.a:=(Bv.1 h.sep).1
theorem u8k {s:R2} {L:zp} (h:Dc (s::L)) {y:Int} (hy:pt (s::L) y):s.a<=y:=by
 obtain ⟨t,ht,h1,h2⟩:=hy;rcases AZ.1 ht with rfl | ht
 .exact h1
 .have:=h.head t ht;have:=h.pos s (by simp);omega
theorem u8l : ∀(L M:zp),Dc L->Dc M->(∀y,pt L y↔pt M y)->L=M
 | [],[],_,_,_=>rfl
 | [],t::M,_,hM,h=>by have:=(h t.a).2 ⟨t,by simp,BO _,hM.pos t (by simp)⟩;obtain ⟨s,hs,_⟩:=this;cases hs
 | s::L,[],hL,_,h=>by have:=(h s.a).1 ⟨s,by simp,BO _,hL.pos s (by simp)⟩;obtain ⟨s,hs,_⟩:=this;cases hs
 | s::L,t::M,hL,hM,h=>by
  have p1:=hL.pos s (by simp);have p2:=hM.pos t (by simp);have a1:t.a<=s.a:=u8k hM ((h s.a).1 ⟨s,by simp,BO _,p1⟩);have a2:s.a<=t.a:=u8k hL ((h t.a).2 ⟨t,by simp,BO _,p2⟩);have b1: ¬s.b<t.b:=fun hb=>by
   obtain ⟨u,hu,h1,h2⟩:=(h s.b).2 ⟨t,by simp,by omega,hb⟩;rcases AZ.1 hu with rfl | hu
   .omega
   .have:=hL.head u hu;omega
  have b2: ¬t.b<s.b:=fun hb=>by
   obtain ⟨u,hu,h1,h2⟩:=(h t.b).1 ⟨s,by simp,by omega,hb⟩;rcases AZ.1 hu with rfl | hu
   .omega
   .have:=hM.head u hu;omega
  have e:s=t:=by
   obtain ⟨sa,sb⟩:=s;obtain ⟨ta,tb⟩:=t;simp only at a1 a2 b1 b2;have:sa=ta:=by omega
   have:sb=tb:=by omega
   subst_vars;rfl
  subst e
  congr 1
  refine u8l L M hL.tail hM.tail fun y=>⟨fun hy=> ?_,fun hy=> ?_⟩
  .obtain ⟨u,hu,h1,h2⟩:=hy;have g:=hL.head u hu;obtain ⟨v,hv,h3,h4⟩:=(h y).1 ⟨u,by simp [hu],h1,h2⟩;rcases AZ.1 hv with rfl | hv
   .omega
   .exact ⟨v,hv,h3,h4⟩
  .obtain ⟨u,hu,h1,h2⟩:=hy;have g:=hM.head u hu;obtain ⟨v,hv,h3,h4⟩:=(h y).2 ⟨u,by simp [hu],h1,h2⟩;rcases AZ.1 hv with rfl | hv
   .omega
   .exact ⟨v,hv,h3,h4⟩
def push (out:zp) (x x':Int):zp:=
 bif decide (0<out.length)&&((rd out (out.length - 1)).b == x) then out.set (out.length - 1) ⟨(rd out (out.length - 1)).a,x'⟩ else out++[⟨x,x'⟩]
theorem v4k (out:zp) (s:R2) (x x':Int):push (out++[s]) x x'=bif s.b == x then out++[⟨s.a,x'⟩] else out++[s]++[⟨x,x'⟩]:=by
 grind [rd,push]
theorem w4w {out:zp} {x x':Int} (hc:Dc out) (hb: ∀s∈out,s.b<=x) (hx:x<x'):
  Dc (push out x x')/\(∀s∈push out x x',s.b<=x')/\ ∀y,pt (push out x x') y↔pt out y\/(x<=y/\y<x'):=by
 rcases List.eq_nil_or_concat out with rfl | ⟨L,s,rfl⟩
 .refine ⟨⟨?_,?_⟩,?_,fun y=> ?_⟩;all_goals simp_all [push,pt]
 .rw [List.concat_eq_append] at*;rw [v4k];have hs:=hb s (by simp);have hp:=hc.pos s (by simp);have sep:=List.pairwise_append.1 hc.sep;rcases Uz (s.b == x) with q | q
  .rw [q,Af];have q:s.b=x:=by simpa using q
   refine ⟨⟨?_,?_⟩,?_,fun y=> ?_⟩
   .intro t ht;rcases AW.1 ht with ht | ht
    .exact hc.pos t (by simp [ht])
    grind
   .grind
   .grind
   .constructor
    .rintro ⟨t,ht,h1,h2⟩;rcases AW.1 ht with ht | ht
     .exact .inl ⟨t,by simp [ht],h1,h2⟩
     .rw [Ba.1 ht] at h1 h2;by_cases hy:y<s.b
      .exact .inl ⟨s,by simp,h1,hy⟩
      grind
    .rintro (⟨t,ht,h1,h2⟩ | ⟨h1,h2⟩)
     .rcases AW.1 ht with ht | ht
      .exact ⟨t,by simp [ht],h1,h2⟩
      .rw [Ba.1 ht] at h1 h2;exact ⟨⟨s.a,x'⟩,by simp,h1,by grind⟩
     .exact ⟨⟨s.a,x'⟩,by simp,by grind,h2⟩
  .rw [q,Ab];have q:s.b≠x:=by simpa using q
   refine ⟨⟨?_,?_⟩,?_,fun y=> ?_⟩
   .intro t ht;rcases AW.1 ht with ht | ht
    .exact hc.pos t ht
    grind
   .grind
   .grind
   .constructor
    .rintro ⟨t,ht,h1,h2⟩;rcases AW.1 ht with ht | ht
     .exact .inl ⟨t,ht,h1,h2⟩
     grind
    .rintro (⟨t,ht,h1,h2⟩ | ⟨h1,h2⟩)
     .exact ⟨t,AW.2 (.inl ht),h1,h2⟩
     .exact ⟨⟨x,x'⟩,by simp,h1,h2⟩
theorem j2x {l:zq} (h:l.Pairwise (· < ·)) {i j:Nat} (hij:i<j) (hj:j<l.length):rd l i<rd l j:=by rw [Wv (by omega),Wv hj];exact BL.1 h i j (by omega) hj hij
theorem x3z (cuts:zq) (ins:List Bool) (hc:cuts.Pairwise (· < ·)): ∀(k i:Nat) (out:zp),i+k<cuts.length\/k=0->Dc out->(∀s∈out,s.b<=rd cuts i)->
  Dc (Fe cuts ins k i out)/\ ∀y,pt (Fe cuts ins k i out) y↔pt out y\/ ∃j,i<=j/\j<i+k/\rd ins j=true/\rd cuts j<=y/\y<rd cuts (j+1)
 | 0,i,out,h,ho,hb=>⟨ho,fun y=>⟨.inl,fun hy=>hy.elim id fun ⟨j,h1,h2,_⟩=>by omega⟩⟩
 | k +1,i,out,h,ho,hb=>by
  have hlt:rd cuts i<rd cuts (i+1):=j2x hc (Nat.lt_succ_self _) (by omega);obtain ⟨p1,p2,p3⟩:=w4w ho hb hlt;have e:Fe cuts ins (k+1) i out=Fe cuts ins k (i+1) (bif rd ins i then push out (rd cuts i) (rd cuts (i+1)) else out):=rfl;rw [e];rcases Uz (rd ins i) with q | q
  .rw [q,Af];obtain ⟨r1,r2⟩:=x3z cuts ins hc k (i+1) (push out (rd cuts i) (rd cuts (i+1))) (by omega) p1 p2;refine ⟨r1,fun y=> ?_⟩;rw [r2,p3];constructor
   .rintro ((h | h) | ⟨j,h1,h2,h3⟩)
    .exact .inl h
    .exact .inr ⟨i,Aj _,by omega,q,h⟩
    .exact .inr ⟨j,by omega,by omega,h3⟩
   .rintro (h | ⟨j,h1,h2,h3⟩)
    .exact .inl (.inl h)
    .rcases BX h1 with rfl | h1
     .exact .inl (.inr h3.2)
     .exact .inr ⟨j,h1,by omega,h3⟩
  .rw [q,Ab];obtain ⟨r1,r2⟩:=x3z cuts ins hc k (i+1) out (by omega) ho (fun s hs=>by have:=hb s hs;omega);refine ⟨r1,fun y=> ?_⟩;rw [r2];constructor
   .rintro (h | ⟨j,h1,h2,h3⟩)
    .exact .inl h
    .exact .inr ⟨j,by omega,by omega,h3⟩
   .rintro (h | ⟨j,h1,h2,h3⟩)
    .exact .inl h
    .rcases BX h1 with rfl | h1
     .rw [q] at h3;cases h3.1
     .exact .inr ⟨j,h1,by omega,h3⟩
theorem v7n {cuts:zq}: ∀(k:Nat),k<cuts.length-> ∀y,rd cuts 0<=y->y<rd cuts k-> ∃j,j<k/\rd cuts j<=y/\y<rd cuts (j+1)
 | 0,_,y,h1,h2=>by omega
 | k+1,hk,y,h1,h2=>by
  by_cases h:rd cuts k<=y
  .exact ⟨k,Nat.lt_succ_self _,h,h2⟩
  .obtain ⟨j,h3,h4⟩:=v7n k (by omega) y h1 (by omega);exact ⟨j,by omega,h4⟩
theorem u4d (cuts:zq) (hc:cuts.Pairwise (· < ·)) (P:Int->Bool) (S:zp) (hS: ∀s∈S,s.a∈cuts/\s.b∈cuts) (hP: ∀y,P y=true↔pt S y):
  Dc (DD cuts (cuts.map P))/\ ∀y,pt (DD cuts (cuts.map P)) y↔pt S y:=by
 obtain ⟨r1,r2⟩:=x3z cuts (cuts.map P) hc (cuts.length - 1) 0 [] (by omega) .nil (by simp);refine ⟨r1,fun y=> ?_⟩;unfold DD;rw [r2];have hin: ∀x,x∈cuts-> ∃i,i<cuts.length/\rd cuts i=x:=fun x hx=>by obtain ⟨i,hi,h⟩:=A6 hx;exact ⟨i,hi,by rw [Wv hi];exact h⟩
 have hmap: ∀j,j<cuts.length->rd (cuts.map P) j=P (rd cuts j):=fun j hj=>by
  grind [Wv]
 have le_of: ∀i j,i<cuts.length->j<cuts.length->i<=j->rd cuts i<=rd cuts j:=fun i j hi hj hij=>by
  rcases BX hij with rfl | h
  .grind
  .exact Int.le_of_lt (j2x hc h hj)
 constructor
 .rintro (⟨s,hs,_⟩ | ⟨j,h1,h2,h3,h4,h5⟩)
  .cases hs
  .have hj:j+1<cuts.length:=by omega
   rw [hmap j (by omega)] at h3;obtain ⟨s,hs,a1,a2⟩:=(hP _).1 h3;obtain ⟨ca,cb⟩:=hS s hs;obtain ⟨m,hm,em⟩:=hin s.b cb;refine ⟨s,hs,by omega,?_⟩
   grind
 .rintro ⟨s,hs,a1,a2⟩;right;obtain ⟨ca,cb⟩:=hS s hs;obtain ⟨n,hn,en⟩:=hin s.a ca;obtain ⟨m,hm,em⟩:=hin s.b cb;have h0:=le_of 0 n (by omega) hn (AH _);obtain ⟨j,h1,h2,h3⟩:=v7n m hm y (by omega) (by omega);refine ⟨j,AH _,by omega,?_,h2,h3⟩;rw [hmap j (by omega),hP];refine ⟨s,hs,?_,?_⟩;all_goals grind
def Ek (E:List R3) (y:Int):Int:=(E.map fun e=>if e.a<=y then e.c else 0).sum
theorem Il (e:R3) (E:List R3) (y:Int):Ek (e::E) y=(if e.a<=y then e.c else 0)+Ek E y:=by simp [Ek]
theorem u1x {E F:List R3} (h:E.Perm F) (y:Int):Ek E y=Ek F y:=by
 induction h with
 | nil=>rfl
 | cons e _ ih=>rw [Il,Il,ih]
 | swap a b l=>simp only [Il];omega
 | trans _ _ i1 i2=>rw [i1,i2]
theorem w5c (E:List R3) (y:Int) (h: ∀e∈E,y<e.a):Ek E y=0:=by
 induction E with
 | nil=>rfl
 | cons e E ih=>
  grind [Il]
theorem v7m (out:zp) (last:Int) (inn:Bool) (x:Int):EV out last inn x=bif inn&& !(last == x) then push out last x else out:=by
 grind [EV,push]
theorem v0v {out:zp} {last x:Int} (inn:Bool) (hc:Dc out) (hb: ∀s∈out,s.b<=last) (hx:last<=x):
  Dc (EV out last inn x)/\(∀s∈EV out last inn x,s.b<=x)/\ ∀y,pt (EV out last inn x) y↔pt out y\/(inn=true/\last<=y/\y<x):=by
 rw [v7m];rcases Uz (inn&& !(last == x)) with q | q;all_goals grind [w4w]
def Asc (E:List R3):Prop:=E.Pairwise fun e f=>e.a<=f.a
theorem v2b : ∀(E:List R3) (o last:Int) (out:zp),Asc E->(∀e∈E,last<=e.a)->Dc out->(∀s∈out,s.b<=last)->
  Dc (Gv E o last (decide (o>0)) out)/\ ∀y,pt (Gv E o last (decide (o>0)) out) y↔pt out y\/(last<=y/\0<o+Ek E y/\ ∃e∈E,y<e.a)
 | [],o,last,out,_,_,hc,_=>⟨hc,fun y=>⟨.inl,fun h=>h.elim id fun ⟨_,_,e,he,_⟩=>by cases he⟩⟩
 | e ::r,o,last,out,hE,hl,hc,hb=>by
  have he:=hl e (by simp);have hr:=Bv.1 hE;obtain ⟨p1,p2,p3⟩:=v0v (decide (o>0)) hc hb he;obtain ⟨q1,q2⟩:=v2b r (o+e.c) e.a (EV out last (decide (o>0)) e.a) hr.2 hr.1 p1 p2;rw [WF];refine ⟨q1,fun y=> ?_⟩;rw [q2,p3,Il];constructor
  .rintro ((h | ⟨h1,h2,h3⟩) | ⟨h1,h2,f,hf,h3⟩)
   .exact .inl h
   .right;have h1:=Aw h1;refine ⟨h2,?_,e,by simp,h3⟩;rw [Az (by omega),w5c r y fun f hf=>by have:=hr.1 f hf;omega];omega
   .right;refine ⟨by omega,?_,f,by simp [hf],h3⟩;rw [AG h1];omega
  .rintro (h | ⟨h1,h2,f,hf,h3⟩)
   .exact .inl (.inl h)
   .by_cases hy:e.a<=y
    .right;rw [AG hy] at h2;refine ⟨hy,by omega,f,?_,h3⟩;rcases AZ.1 hf with rfl | hf
     .omega
     .exact hf
    .left;right;rw [Az hy,w5c r y fun f hf=>by have:=hr.1 f hf;omega] at h2;exact ⟨Aa (by omega),h1,by omega⟩
theorem u1y (l:zp) (hv: ∀s∈l,s.a<s.b) (y:Int):0<=Ek (Cu l) y/\(0<Ek (Cu l) y↔pt l y):=by
 induction l with
 | nil=>grind [Ek,Cu,pt]
 | cons s l ih=>
  obtain ⟨i1,i2⟩:=ih fun t ht=>hv t (by simp [ht]);have hs:=hv s (by simp);have e:Ek (Cu (s::l)) y=(if s.a<=y/\y<s.b then 1 else 0)+Ek (Cu l) y:=by
   grind [Cu,Il]
  rw [e];by_cases h:s.a<=y/\y<s.b
  .rw [AG h];exact ⟨by omega,⟨fun _=>⟨s,by simp,h⟩,fun _=>by omega⟩⟩
  .rw [Az h];refine ⟨by omega,?_⟩;rw [Int.zero_add,i2];constructor
   .rintro ⟨t,ht,h2⟩;exact ⟨t,by simp [ht],h2⟩
   .rintro ⟨t,ht,h2⟩;rcases AZ.1 ht with rfl | ht
    .grind
    .exact ⟨t,ht,h2⟩
theorem ZT {l:zp} {s:R2} (h:s∈l):(⟨s.b,0,-1⟩:R3)∈Cu l/\(⟨s.a,0,1⟩:R3)∈Cu l:=
 ⟨BA.2 ⟨s,h,by simp⟩,BA.2 ⟨s,h,by simp⟩⟩
theorem v8q (l:List R3) (h:Dm l=true):Asc (DB l):=by
 refine BL.2 fun i j hi hj hij=> ?_
 grind [Pt,Wv]
theorem u9d (l:zp) (hv:l.all D9=true):Dc (Fi l)/\ ∀y,pt (Fi l) y↔pt l y:=by
 have hb:Dm (Cu l)=true:=Ax.2 fun e he=>by obtain ⟨s,hs,h1⟩:=BA.1 he;have hv:=Ax.1 hv s hs;simp only [D9,Ad,An] at hv;simp only [AZ,List.not_mem_nil,or_false] at h1;rcases h1 with rfl | rfl <;> exact Aa (by grind)
 have fM: ∀s∈l,s.a<s.b:=fun s hs=>by
  grind [D9]
 obtain ⟨hp,_⟩:=Pt (Cu l) hb;have ha:=v8q (Cu l) hb;have hn: ∀y,Ek (DB (Cu l)) y=Ek (Cu l) y:=fun y=>u1x hp y;unfold Fi;generalize DB (Cu l)=E at hp ha hn;cases E with
 | nil=>refine ⟨.nil,fun y=>⟨fun ⟨s,hs,_⟩=>(by cases hs),fun ⟨s,hs,_⟩=> ?_⟩⟩;have:=hp.mem_iff.2 (ZT hs).1;cases this
 | cons e r=>
  have hr:=Bv.1 ha;rw [WF,Int.zero_add];have e0:EV [] 0 false e.a=[]:=rfl;rw [e0];obtain ⟨q1,q2⟩:=v2b r e.c e.a [] hr.2 hr.1 .nil (by simp);refine ⟨q1,fun y=> ?_⟩;rw [q2];obtain ⟨n1,n2⟩:=u1y l fM y;rw [<-n2,<-hn,Il];constructor
  .rintro (⟨s,hs,_⟩ | ⟨h1,h2,_⟩);all_goals grind
  .intro h;have hpt:=n2.1 (by rw [<-hn,Il];exact h);obtain ⟨s,hs,s1,s2⟩:=hpt;have m1:=hp.mem_iff.2 (ZT hs).1
   grind [ZT]
theorem x6k (out:zq) (hs:out.Pairwise (· < ·)) (x:Int): ∀k,k<=out.length->ER out x k<=k/\(∀i,ER out x k<=i->i<k->x<rd out i)/\(0<ER out x k->rd out (ER out x k - 1)<=x)
 | 0,_=>⟨Aj _,fun i h1 h2=>by omega,fun h=>by simp [ER] at h⟩
 | k+1,hk=>by
  unfold ER;rcases Uz (decide (rd out k>x)) with q | q
  .rw [q,Af];obtain ⟨h1,h2,h3⟩:=x6k out hs x k (by omega);refine ⟨by omega,fun i a b=> ?_,h3⟩;rcases BX (Nat.le_of_lt_succ b) with rfl | b
   .exact Aw q
   .exact h2 i a b
  .rw [q,Ab];exact ⟨Aj _,fun i a b=>by omega,fun _=>by have:=of_decide_eq_false q;simp only [Nat.add_sub_cancel];omega⟩
theorem v5x (out:zq) (hs:out.Pairwise (· < ·)) (x:Int):(D8 out x).Pairwise (· < ·)/\ ∀y,y∈D8 out x↔y∈out\/y=x:=by
 obtain ⟨h1,h2,h3⟩:=x6k out hs x out.length (Aj _);unfold D8;split
 .rename_i h0;rw [h0] at h2;refine ⟨Bv.2 ⟨fun y hy=> ?_,hs⟩,fun y=>by grind⟩;obtain ⟨i,hi,rfl⟩:=A6 hy
  grind [Wv]
 .rename_i k hk;rw [hk] at h1 h2 h3;have h3:rd out k<=x:=h3 (Nat.succ_pos _);have hkl:k<out.length:=by omega
  rcases Uz (rd out k == x) with q | q
  .grind [Wv]
  .rw [q,Ab];have q:rd out k≠x:=by simpa using q
   refine ⟨?_,fun y=> ?_⟩
   .have st:(out.take (k+1)).Pairwise (· < ·):=hs.sublist (List.take_sublist _ _);have sd:(out.drop (k+1)).Pairwise (· < ·):=hs.sublist (List.drop_sublist _ _);have ht: ∀y∈out.take (k+1),y<x:=fun y hy=>by
     obtain ⟨i,hi,rfl⟩:=A6 hy;have hi':i<k+1:=(by grind);rw [BH];have:rd out i<=rd out k:=by
      rcases BX (Nat.le_of_lt_succ hi') with rfl | h
      .grind
      .exact Int.le_of_lt (j2x hs h hkl)
     grind [Wv]
    have hd: ∀y∈out.drop (k+1),x<y:=fun y hy=>by obtain ⟨i,hi,rfl⟩:=A6 hy;simp_all [Wv]
    refine List.pairwise_append.2 ⟨st,Bv.2 ⟨hd,sd⟩,fun a ha b hb=> ?_⟩
    grind
   .rw [AW,AZ];constructor
    .grind
    .rintro (h | h)
     .rw [<-List.take_append_drop (k+1) out,AW] at h
      grind
     grind
theorem x5d (l:zq):(Cc l).Pairwise (· < ·)/\ ∀y,y∈Cc l↔y∈l:=by
 have: ∀(l out:zq),out.Pairwise (· < ·)->(l.foldl D8 out).Pairwise (· < ·)/\ ∀y,y∈l.foldl D8 out↔y∈out\/y∈l:=by
  intro l
  induction l with
  | nil=>grind
  | cons x l ih=>
   grind [v5x]
 simp_all [Cc]
theorem y3t : ∀(l m:zq),l.Pairwise (· < ·)->m.Pairwise (· < ·)->(∀x,x∈l↔x∈m)->l=m
 | [],[],_,_,_=>rfl
 | [],b::m,_,_,h=>by have:=(h b).2 (by simp);cases this
 | a::l,[],_,_,h=>by have:=(h a).1 (by simp);cases this
 | a::l,b::m,hl,hm,h=>by
  obtain ⟨a1,a2⟩:=Bv.1 hl;obtain ⟨b1,b2⟩:=Bv.1 hm;have e:a=b:=by
   have x1:=(h a).1 (by simp);have x2:=(h b).2 (by simp);rcases AZ.1 x1 with x1 | x1
   .exact x1
   rcases AZ.1 x2 with x2 | x2
   .exact x2.symm
   have:=b1 a x1;have:=a1 b x2;omega
  subst e
  congr 1
  refine y3t l m a2 b2 fun x=>⟨fun hx=> ?_,fun hx=> ?_⟩
  .rcases AZ.1 ((h x).1 (by simp [hx])) with e | e
   .have:=a1 x hx;omega
   .exact e
  .rcases AZ.1 ((h x).2 (by simp [hx])) with e | e
   .have:=b1 x hx;omega
   .exact e
theorem y3u (zs:zq) (hs:zs.Pairwise (· <= ·)): ∀m,m<=zs.length->(compactUpTo zs.toArray m).Pairwise (· < ·)/\ ∀x,x∈compactUpTo zs.toArray m↔x∈zs.take m
 | 0,_=>by simp [compactUpTo]
 | m +1,h=>by
  obtain ⟨h1,h2⟩:=y3u zs hs m (by omega);have hg: ∀j (hj:j<zs.length),zs.toArray[j]! =zs[j]:=fun j hj=>by simp [hj]
  have hle: ∀i j (hi:i<zs.length) (hj:j<zs.length),i<j->zs[i]<=zs[j]:=fun i j hi hj hij=>BL.1 hs i j hi hj hij;have hm:m<zs.length:=by omega
  rw [compactUpTo_succ,hg m hm,List.take_succ_eq_append_getElem hm];by_cases hk:keeps zs.toArray m=true
  .rw [AG hk];refine ⟨List.pairwise_append.2 ⟨h1,List.pairwise_singleton _ _,fun x hx y hy=> ?_⟩,fun x=>by rw [AW,AW,h2 x]⟩;rw [Ba.1 hy];obtain ⟨i,hi,rfl⟩:=A6 ((h2 x).1 hx);have hi':i<m:=by simp at hi;omega
   rw [BH];simp only [keeps,An] at hk;rcases hk with hk | hk
   .omega
   .rw [hg m hm,hg (m - 1) (by omega)] at hk;have k1:zs[i]<=zs[m - 1]:=by
     rcases A7 i (m - 1) with q | q
     .exact hle i (m - 1) _ _ q
     .have e:i=m - 1:=(by omega);subst e;exact BO _
    have k2:=hle (m - 1) m (by omega) hm (by omega);omega
  .rw [Az hk,AO];refine ⟨h1,fun x=> ?_⟩;rw [h2 x,AW,Ba];refine ⟨.inl,fun hx=>hx.elim id fun e=> ?_⟩;simp only [keeps,An,not_or,Decidable.not_not] at hk;rw [hg m hm,hg (m - 1) (by omega)] at hk;rw [e,hk.2];have:m - 1<(zs.take m).length :=by simp;omega
   have e2:(zs.take m)[m - 1]=zs[m - 1]:=BH;rw [<-e2];exact AL this
theorem Mr (zs:zq):(Kc zs).Pairwise (· <= ·):=by have:=List.pairwise_mergeSort (le:=fun x y:Int=>decide (x<=y)) (fun a b c h1 h2=>by grind) (fun a b=>by simp;omega) zs;exact this.imp fun h=>by simpa using h
theorem u9f (zs:zq) (x:Int):x∈Kc zs↔x∈zs:=List.mem_mergeSort
theorem v7g (zs:zq):MW zs=Cc zs:=by obtain ⟨h1,h2⟩:=y3u (Kc zs) (Mr zs) (Kc zs).length (Aj _);obtain ⟨s1,s2⟩:=x5d zs;refine y3t _ _ h1 s1 fun x=> ?_;rw [show MW zs=compactUpTo (Kc zs).toArray (Kc zs).length from rfl,h2 x,List.take_length,u9f,s2]
namespace DV
variable {α β:Type} (D:DV α β)
def ref (sec:Int->List β) (cs:zq):Nat->Nat->List α->List β->Nat->List α
 | 0,_,out,_,_=>out
 | k+1,i,out,last,first=>
  bif decide (0<i)&&D.same (sec (rd cs i)) last then ref sec cs k (i+1) (D.grow out first (rd cs (i+1))) last first
  else ref sec cs k (i+1) (out++(sec (rd cs i)).map (D.put (rd cs i) (rd cs (i+1)))) (sec (rd cs i)) out.length
theorem ref_eq (hs: ∀a b,D.same a b=true↔a=b) (l:List α): ∀(k i:Nat) (s:Sw α β) (out:List α) (last:List β) (first:Nat),
  s.out=out->s.last=last->(last≠ []->s.first=first)->(last=[]->out.length<=first)->(0<i->s.fin=rd (D.cuts l) i)->(i=0->last=[])->
  (D.go l k i s).out =D.ref (D.sec l) (D.cuts l) k i out last first
 | 0,i,s,out,last,first,h1,h2,h3,h4,h5,h6=>h1
 | k +1,i,s,out,last,first,h1,h2,h3,h4,h5,h6=>by
  subst h1 h2;have e1:D.go l (k+1) i s=D.go l k (i+1) (D.one l (rd (D.cuts l) i) (rd (D.cuts l) (i+1)) s):=rfl;rw [e1];unfold ref;rcases Uz (decide (0<(D.sec l (rd (D.cuts l) i)).length)&&((s.fin == rd (D.cuts l) i)&&D.same s.last (D.sec l (rd (D.cuts l) i)))) with q | q
  .have e:D.one l (rd (D.cuts l) i) (rd (D.cuts l) (i+1)) s=⟨D.grow s.out s.first (rd (D.cuts l) (i+1)),s.last,s.first,rd (D.cuts l) (i+1)⟩:=by unfold one;rw [q];rfl
   simp only [Ad,An] at q;obtain ⟨q1,q2,q3⟩:=q;have q3:=(hs _ _).1 q3;have hne:s.last≠ []:=fun h=>by rw [h] at q3;rw [<-q3] at q1;exact Nat.lt_irrefl _ q1
   have hi:0<i:=Nat.pos_of_ne_zero fun h=>hne (h6 h);have e2:(decide (0<i)&&D.same (D.sec l (rd (D.cuts l) i)) s.last)=true:=by rw [Aa hi,As,hs,q3]
   rw [e2,Af,e];refine ref_eq hs l k (i+1) _ _ _ _ ?_ rfl h3 (fun h=>absurd h hne) (fun _=>rfl) (fun h=>by omega);rw [h3 hne]
  .have e:D.one l (rd (D.cuts l) i) (rd (D.cuts l) (i+1)) s=⟨s.out++(D.sec l (rd (D.cuts l) i)).map (D.put (rd (D.cuts l) i) (rd (D.cuts l) (i+1))),D.sec l (rd (D.cuts l) i),s.out.length,rd (D.cuts l) (i+1)⟩:=by unfold one;rw [q];rfl
   rcases Uz (decide (0<i)&&D.same (D.sec l (rd (D.cuts l) i)) s.last) with q2 | q2
   .rw [q2,Af,e];simp only [Ad,An] at q2;obtain ⟨hi,q3⟩:=q2;have q3:=(hs _ _).1 q3;rw [(hs s.last (D.sec l (rd (D.cuts l) i))).2 q3.symm,Ar,h5 hi] at q;have hz:D.sec l (rd (D.cuts l) i)=[]:=by
     cases h:D.sec l (rd (D.cuts l) i) with
     | nil=>rfl
     | cons a b=>rw [h] at q;simp at q
    have hl:s.last=[]:=(by rw [<-q3,hz]);have hf:=h4 hl;rw [hz,List.map_nil,AO];refine ref_eq hs l k (i+1) _ _ _ _ ?_ hl.symm (fun h=>absurd hl h) (fun _=> ?_) (fun _=>rfl) (fun h=>by omega)
    .exact (D.grow_nil _ _ _ hf).symm
    .rw [D.grow_length];exact hf
   .rw [q2,Ab,e];exact ref_eq hs l k (i+1) _ _ _ _ rfl rfl (fun _=>rfl) (fun h=>by rw [h];simp) (fun _=>rfl) (fun h=>by omega)
theorem out_eq (hs: ∀a b,D.same a b=true↔a=b) (l:List α):D.out l=D.ref (D.sec l) (D.cuts l) ((D.cuts l).length - 1) 0 [] [] 0:=
 D.ref_eq hs l _ 0 _ [] [] 0 rfl rfl (fun _=>rfl) (fun _=>Aj _) (fun h=>absurd h (Nat.lt_irrefl _)) (fun _=>rfl)
end DV
theorem j6s (l:zr):D4.cuts l=CK l []:=by unfold DV.cuts CK;rw [v7g,show Dj ([]:zr)=[] from rfl,AO];rfl
theorem j6e (l:zr) (x y:Int):H0 2 l [] x y=Qr l x y:=by
 grind [H0,Fq,Qr]
theorem w2e {l:zr} {x:Int} {s:R2} (h:s∈D4.inn l x): ∃r∈l,r.a<=x/\x<r.c/\s=⟨r.b,r.d⟩:=by obtain ⟨r,hr,e⟩:=List.mem_map.1 h;obtain ⟨h1,h2⟩:=Bz.1 hr;simp only [Ad,An] at h2;exact ⟨r,h1,h2.1,h2.2,e.symm⟩
theorem j2r {l:zr} {x:Int} {r:R4} (h:r∈l) (h1:r.a<=x) (h2:x<r.c):(⟨r.b,r.d⟩:R2)∈D4.inn l x:=by refine List.mem_map.2 ⟨r,Bz.2 ⟨h,?_⟩,rfl⟩;simp only [Ad,An];exact ⟨h1,h2⟩
theorem Mu (l:zr) (hv:l.all D0=true) (hl:l.length<=400) (x:Int):D4.sec l x=Ef 2 l [] x:=by
 have hin:=D4.inn_length l x;have hvi:(D4.inn l x).all D9=true:=Ax.2 fun s hs=>by
  grind [w2e,D0,D9]
 have e1:D4.sec l x=Fi (D4.inn l x):=by
  show Vq (D4.inn l x)=_
  grind [Vq]
 obtain ⟨c1,c2⟩:=u9d _ hvi;obtain ⟨y1,y2⟩:=x5d (De l++De []);have e2:Ef 2 l [] x=DD (CP l []) ((CP l []).map fun y=>Qr l x y):=by
  unfold Ef
  congr 1
  simp_all [j6e]
 obtain ⟨d1,d2⟩:=u4d (CP l []) y1 (fun y=>Qr l x y) (D4.inn l x) (fun s hs=>by
  obtain ⟨r,hr,_,_,rfl⟩:=w2e hs;unfold CP;exact ⟨(y2 _).2 (AW.2 (.inl (BA.2 ⟨r,hr,by simp⟩))),(y2 _).2 (AW.2 (.inl (BA.2 ⟨r,hr,by simp⟩)))⟩) (fun y=>by
  unfold Qr;rw [B3];constructor
  .rintro ⟨r,hr,h⟩;simp only [Tz,Ad,An] at h;exact ⟨_,j2r hr h.1 h.2.1,h.2.2.1,h.2.2.2⟩
  .rintro ⟨s,hs,h1,h2⟩
   grind [w2e,Tz])
 grind [u8l]
theorem v5t (l:zr): ∀(k i:Nat) (out:zr) (last:zp) (first:Nat),jF 2 l [] k i out last first=D4.ref (Ef 2 l []) (CK l []) k i out last first
 | 0,_,_,_,_=>rfl
 | k+1,i,out,last,first=>by unfold jF DV.ref;rw [v5t l k,v5t l k];rfl
theorem OU (l:zr) (hv:l.all D0=true) (hl:l.length<=400):D4.out l=Cm 2 l []:=by
 rw [D4.out_eq (fun a b=>decide_eq_true_iff) l,Cm,v5t,<-j6s]
 congr 1
 funext x
 exact Mu l hv hl x
theorem v8e (l:zt):D6.cuts l=Xm l []:=by unfold DV.cuts Xm;rw [v7g,show Dk ([]:zt)=[] from rfl,AO];rfl
theorem u8s (l:zt) (z:Int):D6.inn l z=CM l z:=rfl
theorem u4q (r:R6):D1 r=Fg r:=by
 unfold D1 Fg;simp only [Lp,Lo];rw [AK];simp only [Ad,An];have m1: ∀x y z:Int,x<=min y z↔x<=y/\x<=z:=fun x y z=>by omega
 have m2: ∀x y z:Int,max y z<=x↔y<=x/\z<=x:=fun x y z=>by omega
 simp only [ge_iff_le,m1,m2]
 grind
theorem v7r (l:zt) (hv:l.all D1=true) (z:Int):(CM l z).all D0=true:=Ax.2 fun s hs=>by
 obtain ⟨r,hr,rfl⟩:=List.mem_map.1 hs;have:=Ax.1 hv r (Bz.1 hr).1;rw [u4q] at this;simp only [Fg,Ad,An] at this;show D0 ⟨r.a,r.b,r.d,r.e⟩=true
 grind [D0]
section
variable (l:zt) (hv:l.all D1=true) (hl:l.length<=400)
include hv hl
theorem u8q (z:Int):D4.out (CM l z)=Cm 2 (CM l z) []:=OU _ (v7r l hv z) (AP (UV l z) hl)
theorem u8n (z:Int):FW l z=F9 2 l [] z:=by
 have h1:=u8q l hv hl z;have h2:=UV l z;have e:Cm 2 (CM [] z) []=[]:=rfl
 grind [FW,F9,EA,CM,u8s,HP,v7r]
theorem u9i (z:Int) (h:FW l z=false):D6.sec l z=EA 2 l [] z:=by
 have h1:=u8q l hv hl z;have h2:=UV l z;rw [u8n l hv hl] at h;show Wt (D6.inn l z)=Cm 2 (CM l z) (CM [] z)
 grind [u8s,Wt,CM,F9,v7r]
theorem w1z : ∀(k i:Nat) (out:zt) (last:zr) (first:Nat),LV 2 l [] k i out last first=bif FK l k i then some (D6.ref (D6.sec l) (D6.cuts l) k i out last first) else none
 | 0,_,_,_,_=>rfl
 | k+1,i,out,last,first=>by
  unfold LV FK DV.ref;rw [<-v8e,<-u8n l hv hl];rcases Uz (FW l (rd (D6.cuts l) i)) with q | q
  .rw [q];rfl
  .have:=u9i l hv hl _ q;rw [q,Ab,Ab,this,w1z k,w1z k];have e:D6.same (EA 2 l [] (rd (D6.cuts l) i)) last=EX (EA 2 l [] (rd (D6.cuts l) i)) last:=rfl;rw [e];cases (decide (0<i)&&EX (EA 2 l [] (rd (D6.cuts l) i)) last) <;> rfl
theorem OS :LU 2 l []=bif FK l ((D6.cuts l).length - 1) 0 then some (D6.out l) else none:=by unfold LU;rw [w1z l hv hl,<-v8e,D6.out_eq (fun a b=>decide_eq_true_iff) l]
end
theorem u4c (l:zt):Uw l=Ix l:=by
 unfold Uw Ix;by_cases h:400<l.length
 .grind
 .rw [Ah h,Ab,Ab,show l.all Fg=l.all D1 from by grind [u4q]];rcases Uz (l.all D1) with hv | hv
  .rw [hv,Af,Af];unfold Hu JA EM;rw [OS l hv (by omega)]
   grind
  grind
open Go.Proofs Go.Lib Go.Sort
def JJ (x:zy):Prop:= ∀c∈x,c≠47
theorem ZO : ∀(x cur rest:zy),JJ x->Ye 47 cur (x++rest)=Ye 47 (cur++x) rest
 | [],cur,rest,h=>by rw [Bd,AO]
 | c::x,cur,rest,h=>by
  have hc:(c == (47:UInt8))=false:=by have:=h c Bh;simp [this]
  rw [Bl,Ye,hc,Ab,ZO x (cur++[c]) rest fun d hd=>h d (A5 _ hd),AI];rfl
theorem x7m : ∀(r:List zy) (cur:zy),(∀p∈r,JJ p)->Ye 47 cur (Lib.joinTail [47] r)=cur::r
 | [],cur,h=>rfl
 | y::r,cur,h=>by
  have e:Lib.joinTail [47] (y::r)=47::(y++Lib.joinTail [47] r):=by simp [Lib.joinTail]
  rw [e,Ye,show ((47:UInt8) == 47)=true from rfl,Af,ZO y [] _ (h y Bh),Bd,x7m r y fun p hp=>h p (A5 _ hp)]
theorem x7o {L:List zy} (h0:L≠ []) (h: ∀p∈L,JJ p):Ye 47 [] (Lib.join L [47])=L:=by
 cases L with
 | nil=>exact absurd rfl h0
 | cons x r=>rw [Lib.join_cons,ZO x [] _ (h x Bh),Bd,x7m r x fun p hp=>h p (A5 _ hp)]
theorem x6r : ∀(i:Nat) (x:zy),Gt i x=true->JJ x
 | _,[],_=>fun c hc=>by cases hc
 | i,d::x,h=>fun c hc=>by
  rw [Gt,Ad] at h;cases hc with
  | head=>intro e;subst e;have h1:=h.1;unfold JC IE digN at h1;revert h1;cases decide (i≠0) <;> decide
  | tail _ hc=>exact x6r (i+1) x h.2 c hc
theorem v5f {x:zy} (h:Ch x=true):JJ x:=by unfold Ch at h;rw [Ad,Ad] at h;exact x6r 0 x h.2.2
theorem u2v {L M:List zy} (hL:L≠ []) (hM:M≠ []) (h1: ∀p∈L,JJ p) (h2: ∀p∈M,JJ p) (h:Lib.join L [47]=Lib.join M [47]):L=M:=by rw [<-x7o hL h1,<-x7o hM h2,h]
theorem FN (a b:Int):a<b\/b<=a:=by omega
def Q9 (l:zu) (i:Nat):Prop:=OA l i=true/\ ∀j,j<=i->Ch (rd l j).n =true
def OF (l:zu) (i:Nat):Prop:= ∀j k,j<k->k<i-> ¬((rd l j).a =(rd l k).a /\(rd l j).n =(rd l k).n)
def Fh (l:zu) (i:Int):List zy:=C8 l (i.toNat+1) i
theorem XD (l:zu) {i:Int} (h:i<0):Fh l i=[]:=MF l _ (by omega)
theorem Ig {l:zu} {t j:Nat} (ht:OA l t=true) (hj:j<=t):Fh l (j:Int)=(rd l j).n ::Fh l (rd l j).a :=by
 have hb:=G4 ht hj;unfold Fh;rw [Zj,C8,Aa (show (0:Int)<=(j:Int) by omega),Af,Zj]
 congr 1
 exact w4c ht _ _ _ (by omega) (by omega) (by omega)
theorem x2g {l:zu} {t:Nat} (h:Q9 l t): ∀(k:Nat) (i:Int),i<=(t:Int)-> ∀p∈C8 l k i,JJ p
 | 0,i,hi,p,hp=>by cases hp
 | k+1,i,hi,p,hp=>by
  unfold C8 at hp;by_cases g:0<=i
  .obtain ⟨j,rfl⟩: ∃j:Nat,i=(j:Int):=⟨i.toNat,by omega⟩
   rw [Aa g,Af,Zj] at hp;cases hp with
   | head=>exact v5f (h.2 j (by omega))
   | tail _ hp=>have hb:=G4 h.1 (show j<=t by omega);exact x2g h k _ (by omega) p hp
  .rw [Ah g] at hp;cases hp
theorem v1y {l:zu} {t:Nat} (h:Q9 l t) (hn:OF l t): ∀(m j k:Nat),j<m->j<t->k<t->Fh l (j:Int)=Fh l (k:Int)->j=k
 | 0,j,k,hm,_,_,_=>absurd hm (AJ _)
 | m +1,j,k,hm,hj,hk,e=>by
  rw [Ig h.1 (show j<=t by omega),Ig h.1 (show k<=t by omega),Bk] at e;have bj:=G4 h.1 (show j<=t by omega);have bk:=G4 h.1 (show k<=t by omega);have ea:(rd l j).a =(rd l k).a :=by
   rcases FN (rd l j).a 0 with a1 | a1
   .rcases FN (rd l k).a 0 with a2 | a2
    .omega
    .exfalso;obtain ⟨q,hq⟩: ∃q:Nat,(rd l k).a =(q:Int):=⟨(rd l k).a.toNat,by omega⟩
     rw [XD l a1,hq,Ig h.1 (show q<=t by omega)] at e;cases e.2
   .obtain ⟨p,hp⟩: ∃p:Nat,(rd l j).a =(p:Int):=⟨(rd l j).a.toNat,by omega⟩
    rcases FN (rd l k).a 0 with a2 | a2
    .exfalso;rw [XD l a2,hp,Ig h.1 (show p<=t by omega)] at e;cases e.2
    .obtain ⟨q,hq⟩: ∃q:Nat,(rd l k).a =(q:Int):=⟨(rd l k).a.toNat,by omega⟩
     rw [hp,hq] at e;have:=v1y h hn m p q (by omega) (by omega) (by omega) e.2;omega
  rcases Bo j k with g | g | g
  .exact absurd ⟨ea,e.1⟩ (hn j k g hk)
  .exact g
  .exact absurd ⟨ea.symm,e.1.symm⟩ (hn k j g hj)
theorem u1f {l:zu} {i k:Nat} (h:Q9 l i) (hn:OF l i) (hk:k<i):Je l (k:Int)=Je l (i:Int)↔(rd l k).a =(rd l i).a /\(rd l k).n =(rd l i).n :=by
 have bi:=G4 h.1 (Aj i);have bk:=G4 h.1 (show k<=i by omega);have ek:=Ig h.1 (show k<=i by omega);have ei:=Ig h.1 (Aj i);constructor
 .intro e;have e:Fh l (k:Int)=Fh l (i:Int):=by have:=u2v (L:=(Fh l (k:Int)).reverse) (M:=(Fh l (i:Int)).reverse) (by rw [ek];simp) (by rw [ei];simp) (fun p hp=>x2g h _ _ (by omega) p (List.mem_reverse.1 hp)) (fun p hp=>x2g h _ _ (BO _) p (List.mem_reverse.1 hp)) e;exact List.reverse_inj.1 this
  rw [ek,ei,Bk] at e;refine ⟨?_,e.1⟩;rcases FN (rd l k).a 0 with a1 | a1
  .rcases FN (rd l i).a 0 with a2 | a2
   .omega
   .exfalso;obtain ⟨q,hq⟩: ∃q:Nat,(rd l i).a =(q:Int):=⟨(rd l i).a.toNat,by omega⟩
    rw [XD l a1,hq,Ig h.1 (show q<=i by omega)] at e;cases e.2
  .obtain ⟨p,hp⟩: ∃p:Nat,(rd l k).a =(p:Int):=⟨(rd l k).a.toNat,by omega⟩
   rcases FN (rd l i).a 0 with a2 | a2
   .exfalso;rw [XD l a2,hp,Ig h.1 (show p<=i by omega)] at e;cases e.2
   .obtain ⟨q,hq⟩: ∃q:Nat,(rd l i).a =(q:Int):=⟨(rd l i).a.toNat,by omega⟩
    rw [hp,hq] at e;have:=v1y h hn (p+1) p q (by omega) (by omega) (by omega) e.2;omega
 .intro ⟨e1,e2⟩;show Lib.join (Fh l (k:Int)).reverse [47]=Lib.join (Fh l (i:Int)).reverse [47];rw [ek,ei,e1,e2]
def Fu (l:zu):Int:=match l.find? fun x=>Uw x.s != 0 with
 | some x=>Uw x.s
 | none=>0
def Ey (l:zu) (i:Nat):Bool:= !(Ch (rd l i).n)||(decide ((rd l i).a < -1)||(decide ((rd l i).a >=(i:Int))||(Fk (rd l i).t (rd l i).x (rd l i).y (rd l i).z != 0)))
def twin (l:zu) (i:Nat):Bool:=(List.range i).any fun k=>((rd l k).a == (rd l i).a)&&((rd l k).n == (rd l i).n)
def Df (l:zu) (i:Nat):Bool:=Ey l i||(C3 (Je l (i:Int)) != 0||twin l i)
def Kv (l:zu):Int:=bif decide (200<l.length) then 4 else bif Fu l != 0 then Fu l else bif (List.range l.length).any (Df l) then 8 else 0
def Xw (l:zu):Bool:=decide (l.length<=1000000)&&l.all fun x=>decide (x.n.length<=500)
def Gq (l:zu) (i:Nat):Prop:= ∀j,j<i->Df l j=false
theorem RY {l:zu} {i:Nat} (h:Ey l i=false):Ch (rd l i).n =true/\ -1<=(rd l i).a /\(rd l i).a <(i:Int)/\Fk (rd l i).t (rd l i).x (rd l i).y (rd l i).z =0:=by unfold Ey at h;simp only [AT,Bool.not_eq_false',AS,bne_eq_false_iff_eq] at h;exact ⟨h.1,by omega,by omega,h.2.2.2⟩
theorem WO {l:zu} {i:Nat} (h:Gq l i) (hi:Ey l i=false):Q9 l i:=by
 have hb: ∀j,j<=i->Ey l j=false:=fun j hj=>by
  rcases A7 j i with g | g
  .have:=h j g;unfold Df at this;rw [AT] at this;exact this.1
  .rw [show j=i by omega];exact hi
 refine ⟨Ax.2 fun j hj=> ?_,fun j hj=>(RY (hb j hj)).1⟩;have:=RY (hb j (by have:=A0.1 hj;omega));rw [Ad,An,An];exact ⟨this.2.1,this.2.2.1⟩
theorem v0g {l:zu} {i:Nat} (h:Gq l i):OF l i:=fun j k hjk hk ⟨e1,e2⟩=>by have:=h k hk;unfold Df twin at this;rw [AT,AT] at this;have:=List.any_eq_false.1 this.2.2 j (A0.2 hjk);rw [e1,e2] at this;simp at this
def SV (l:zu) (i:Nat) (m:List (zy×Bool)):Prop:= ∀p,getK false m p=(List.range i).any fun k=>Je l (k:Int) == p
theorem v6a (m:List (zy×Bool)) (p q:zy):getK false (Cy m p true) q=(p == q||getK false m q):=by
 induction m with
 | nil=>
  show (bif q == p then true else false)=_;have e:(p == q)=(q == p):=by rw [AK,AR,AR];exact eq_comm
  rw [e,show getK false [] q=false from rfl];cases q == p <;> rfl
 | cons x m ih=>
  unfold Cy;cases g:p == x.1 with
  | true=>
   rw [Af];show (bif q == x.1 then true else getK false m q)=(p == q||bif q == x.1 then x.2 else getK false m q);have e1:=AR.1 g;rw [<-e1];have e:(p == q)=(q == p):=by rw [AK,AR,AR];exact eq_comm
   rw [e];cases q == p <;> rfl
  | false=>
   rw [Ab];show (bif q == x.1 then x.2 else getK false (Cy m p true) q)=(p == q||bif q == x.1 then x.2 else getK false m q);rw [ih];cases g2:q == x.1 with
   | true=>
    have:(p == q)=false:=by rw [AR.1 g2];exact g
    rw [this];rfl
   | false=>rfl
theorem w7m {l:zu} {i:Nat} {m:List (zy×Bool)} (h:SV l i m):SV l (i+1) (Cy m (Je l (i:Int)) true):=fun p=>by rw [v6a,h p,List.range_succ,List.any_append,Bool.or_comm];simp
theorem w7l {l:zu} {i:Nat} {m:List (zy×Bool)} (hs:SV l i m) (h:Gq l i) (hi:Ey l i=false):getK false m (Je l (i:Int))=twin l i:=by
 rw [hs];unfold twin;have e: ∀k∈List.range i,(Je l (k:Int) == Je l (i:Int))=(((rd l k).a == (rd l i).a)&&((rd l k).n == (rd l i).n)):=fun k hk=>by rw [AK,Ad,AR,AR,AR];exact u1f (WO h hi) (v0g h) (A0.1 hk)
 rw [AK,B3,B3];constructor
 .intro ⟨k,h1,h2⟩;exact ⟨k,h1,by rw [<-e k h1];exact h2⟩
 .intro ⟨k,h1,h2⟩;exact ⟨k,h1,by rw [e k h1];exact h2⟩
theorem x2z {l:zu} {i:Nat} (ho:Xw l=true) (hl:l.length<=1000) (hi:i<l.length) (h:Q9 l i):Vz l (i:Int)=true:=by unfold Xw at ho;unfold Vz;rw [Ad] at ho;rw [Zj,Aa (show (0:Int)<=(i:Int)/\(i:Int)<(l.length:Int) by omega),Aa hl,h.1,ho.2];rfl
open Go.Proofs.Tryz
def FD (T:Int) (l:zu):Int:=match l.find? fun x=>Uw x.s != 0 with
 | some x=>Uw x.s
 | none=>T
theorem Z5 (T:Int) (x:B8) (l:zu):FD T (x::l)=bif Uw x.s != 0 then Uw x.s else FD T l:=by unfold FD;rw [List.find?_cons];cases Uw x.s != 0 <;> rfl
theorem x9a (T:Int): ∀l:zu,FD T l=bif Fu l != 0 then Fu l else T
 | []=>rfl
 | x::l=>by
  have e:Fu (x::l)=bif Uw x.s != 0 then Uw x.s else Fu l:=by unfold Fu;rw [List.find?_cons];cases Uw x.s != 0 <;> rfl
  rw [Z5,e,x9a T l];cases g:Uw x.s != 0 with
  | true=>rw [Af,Af,g,Af]
  | false=>rfl
def badF (l:zu):Nat->Nat->Bool
 | 0,_=>false
 | k+1,i=>Df l i||badF l k (i+1)
theorem x1y (l:zu): ∀(k i:Nat),badF l k i=(List.range k).any fun j=>Df l (i+j)
 | 0,i=>rfl
 | k+1,i=>by
  rw [badF,x1y l k (i+1),List.range_succ_eq_map,B4,List.any_map]
  congr 1
  congr 1
  funext j
  show Df l (i+1+j)=Df l (i+(j+1))
  congr 1;omega
theorem w6m (l:zu):badF l l.length 0=(List.range l.length).any (Df l):=by
 rw [x1y]
 congr 1
 funext j
 rw [Ak]
theorem u5f {l:zu} {T:Int} (hl:l.length<=1000) (hT: ∃N,Zt (Er l) N (.to (.h1 0 []))=.ret [.int .i64 T]): ∀(k i:Nat),i+k=l.length-> ∃N,Zt (Er l) N (.to (.h0 (i:Int)))=.ret [.int .i64 (FD T (l.drop i))]
 | 0,i,h=>by
  obtain ⟨N,hN⟩:=hT;refine ⟨N+1,?_⟩;rw [Zx,Av (by omega)];have e:Er l (.h0 (i:Int))=.to (.h1 0 []):=by unfold Er;simp only [];rw [Yo (by omega)];rfl
  rw [e,hN];rfl
 | k+1,i,h=>by
  have hi:i<l.length:=by omega
  have w2:wrap .i64 ((i:Int)+1)=((i+1:Nat):Int):=Zq (by omega);have e:Er l (.h0 (i:Int))=bif Uw (rd l i).s != 0 then .ret [.int .i64 (Uw (rd l i).s)] else .to (.h0 ((i+1:Nat):Int)):=by unfold Er;simp only [Zj,w2,Yb];rw [Ym (by omega),Af,Ar,Zu (Yx (by omega))];rfl
  rw [Yt hi,Z5];cases g:Uw (rd l i).s != 0 with
  | true=>exact ⟨1,by rw [Zx,e,g];rfl⟩
  | false=>obtain ⟨N,hN⟩:=u5f hl hT k (i+1) (by omega);exact ⟨N+1,by rw [Zx,e,g,Ab,Ab,hN]⟩
theorem v8z {l:zu} {i:Nat} {m:List (zy×Bool)} (ho:Xw l=true) (hl:l.length<=1000) (hi:i<l.length) (hf:Gq l i) (hs:SV l i m):
  Er l (.h1 (i:Int) m)=bif Df l i then .ret [.int .i64 8] else .to (.h1 ((i+1:Nat):Int) (Cy m (Je l (i:Int)) true)):=by
 have w2:wrap .i64 ((i:Int)+1)=((i+1:Nat):Int):=Zq (by omega);have hn:Ue (rd l i).n =true:=by unfold Xw at ho;rw [Ad] at ho;have:=Rd ho.2 i;exact Aa (by omega)
 unfold Er;simp only [Zj,w2,Yb];rw [Ym (by omega),Af,Ar,Zu (Yx (by omega)),Zu hn];unfold Df;cases hb:Ey l i with
 | true=>
  rw [Bool.true_or,Af];unfold Ey at hb;revert hb;cases Ch (rd l i).n with
  | false=>intro _;rfl
  | true=>
   cases decide ((rd l i).a < -1) with
   | true=>intro _;rfl
   | false=>
    cases decide ((rd l i).a >=(i:Int)) with
    | true=>intro _;rfl
    | false=>
     cases Fk (rd l i).t (rd l i).x (rd l i).y (rd l i).z != 0 with
     | true=>intro _;rfl
     | false=>intro h;cases h
 | false=>obtain ⟨b1,b2,b3,b4⟩:=RY hb;have hk:=WO hf hb;have hp:=x2z ho hl hi hk;rw [b1,Ay,Ab,Yo (by omega),Ab,F6 (by omega),Ab,b4,show ((0:Int) != 0)=false from rfl,Ab,Zu hp,w7l hs hf hb,Zu (show Vs (Je l (i:Int))=true from Aa (MK hp)),Bi];cases twin l i <;> cases C3 (Je l (i:Int)) != 0 <;> rfl
theorem x1o {l:zu} {i:Nat} (h:Gq l i) (hi:Df l i=false):Gq l (i+1):=fun j hj=>by
 rcases A7 j i with g | g
 .exact h j g
 .rw [show j=i by omega];exact hi
theorem u5e {l:zu} (ho:Xw l=true) (hl:l.length<=1000): ∀(k i:Nat) (m:List (zy×Bool)),i+k=l.length->Gq l i->SV l i m-> ∃N,Zt (Er l) N (.to (.h1 (i:Int) m))=.ret [.int .i64 (bif badF l k i then 8 else 0)]
 | 0,i,m,h,hf,hs=>⟨1,by
  rw [Zx];unfold Er;simp only [];rw [Yo (by omega)];rfl⟩
 | k+1,i,m,h,hf,hs=>by
  have e:=v8z ho hl (show i<l.length by omega) hf hs;rw [badF];cases g:Df l i with
  | true=>exact ⟨1,by rw [Zx,e,g];rfl⟩
  | false=>obtain ⟨N,hN⟩:=u5e ho hl k (i+1) _ (by omega) (x1o hf g) (w7m hs);exact ⟨N+1,by rw [Zx,e,g,Ab,hN,Bi]⟩
theorem u9p (l:zu) (h:Xw l=true): ∃N,Zt (Er l) N (WC l)=.ret [.int .i64 (Kv l)]:=by
 unfold WC Kv;by_cases g:200<l.length
 .rw [Xv (by omega),Aa g];exact ⟨0,rfl⟩
 .rw [Xb (by omega),Ah g,Ab,Ab];have hT:=u5e h (by omega) l.length 0 [] (Ak _) (fun j hj=>absurd hj (AJ _)) fun p=>rfl;have:=u5f (by omega) hT l.length 0 (Ak _);rw [AM,x9a,w6m] at this;exact this
def FR :zx->Option (B5×Bool)
 | [a0]=>match C5 B8 a0 with
  | some (L,g,n)=>some (.int .i64 (Kv L),CV B8 n g&&Xw L)
  | _=>none
 | _=>none
theorem j4d {S:B7} (hS:Zv prog S):Zv prog (S.with Sr FR):=CU hS (by kernel_rfl) fun args v h=>by
 unfold FR at h;split at h
 .rename_i a0;split at h
  .rename_i L g n e0;simp only [Ae,Ac,Ad] at h;obtain ⟨rfl,ho0,hw⟩:=h;obtain ⟨N,hN⟩:=u9p L hw;exact ⟨_,_,(.cons (Xd e0 ho0) .nil),rfl,v9a L N _ hN,3,rfl⟩
  .cases h
 .cases h
theorem u5u {l:zu} {T:Int} (hl:l.length<=1000) (hT: ∃N,Zt (Uu l) N (.to (.h1 0))=.ret [.int .i64 T]): ∀(k i:Nat),i+k=l.length-> ∃N,Zt (Uu l) N (.to (.h0 (i:Int)))=.ret [.int .i64 (FD T (l.drop i))]
 | 0,i,h=>by
  obtain ⟨N,hN⟩:=hT;refine ⟨N+1,?_⟩;rw [Zx,Av (by omega)];have e:Uu l (.h0 (i:Int))=.to (.h1 0):=by unfold Uu;simp only [];rw [Yo (by omega)];rfl
  rw [e,hN];rfl
 | k+1,i,h=>by
  have hi:i<l.length:=by omega
  have w2:wrap .i64 ((i:Int)+1)=((i+1:Nat):Int):=Zq (by omega);have e:Uu l (.h0 (i:Int))=bif Uw (rd l i).s != 0 then .ret [.int .i64 (Uw (rd l i).s)] else .to (.h0 ((i+1:Nat):Int)):=by unfold Uu;simp only [Zj,w2,Yb];rw [Ym (by omega),Af,Ar,Zu (Yx (by omega)),u4c];rfl
  rw [Yt hi,Z5];cases g:Uw (rd l i).s != 0 with
  | true=>exact ⟨1,by rw [Zx,e,g];rfl⟩
  | false=>obtain ⟨N,hN⟩:=u5u hl hT k (i+1) (by omega);exact ⟨N+1,by rw [Zx,e,g,Ab,Ab,hN]⟩
def twF (l:zu) (a:Int) (n:zy):Nat->Nat->Bool
 | 0,_=>false
 | k+1,i=>(((rd l i).a == a)&&((rd l i).n == n))||twF l a n k (i+1)
theorem x4w (l:zu) (a:Int) (n:zy): ∀(k i:Nat),twF l a n k i=(List.range k).any fun j=>((rd l (i+j)).a == a)&&((rd l (i+j)).n == n)
 | 0,i=>rfl
 | k+1,i=>by
  rw [twF,x4w l a n k (i+1),List.range_succ_eq_map,B4,List.any_map]
  congr 1
  congr 1
  funext j
  show (_:Bool)=((rd l (i+(j+1))).a == a&&(rd l (i+(j+1))).n == n);rw [show i+1+j=i+(j+1) by omega]
theorem u5s {l:zu} {i:Nat} {n:zy} {a t x y z:Int} {s:zt} (hi:i<l.length) (hl:l.length<=1000) {T:Int} (hT: ∃N,Zt (Uu l) N (.to (.h1 ((i+1:Nat):Int)))=.ret [.int .i64 T]):
  ∀(k j:Nat),j+k=i-> ∃N,Zt (Uu l) N (.to (.h2 (i:Int) (j:Int) n a t x y z s))=.ret [.int .i64 (bif twF l a n k j then 8 else T)]
 | 0,j,h=>by
  obtain ⟨N,hN⟩:=hT;have w2:wrap .i64 ((i:Int)+1)=((i+1:Nat):Int):=Zq (by omega);refine ⟨N+1,?_⟩;have e:Uu l (.h2 (i:Int) (j:Int) n a t x y z s)=.to (.h1 ((i+1:Nat):Int)):=by unfold Uu;simp only [w2];rw [Yo (by omega)];rfl
  rw [Zx,e,hN];rfl
 | k+1,j,h=>by
  have w2:wrap .i64 ((j:Int)+1)=((j+1:Nat):Int):=Zq (by omega);have e:Uu l (.h2 (i:Int) (j:Int) n a t x y z s)=bif ((rd l j).a == a)&&((rd l j).n == n) then .ret [.int .i64 8] else .to (.h2 (i:Int) ((j+1:Nat):Int) n a t x y z s):=by unfold Uu;simp only [Zj,w2];rw [Ym (by omega),Af,Ar,Zu (Yx (by omega))];cases (rd l j).a == a <;> cases (rd l j).n == n <;> rfl
  rw [twF];cases g:((rd l j).a == a)&&((rd l j).n == n) with
  | true=>exact ⟨1,by rw [Zx,e,g];rfl⟩
  | false=>obtain ⟨N,hN⟩:=u5s (n:=n) (a:=a) (t:=t) (x:=x) (y:=y) (z:=z) (s:=s) hi hl hT k (j+1) (by omega);exact ⟨N+1,by rw [Zx,e,g,Ab,hN,Bi]⟩
theorem v9o {l:zu} {i:Nat} (ho:Xw l=true) (hl:l.length<=1000) (hi:i<l.length) (hf:Gq l i):
  Uu l (.h1 (i:Int))=bif Ey l i||(C3 (Je l (i:Int)) != 0) then .ret [.int .i64 8] else .to (.h2 (i:Int) 0 (rd l i).n (rd l i).a (rd l i).t (rd l i).x (rd l i).y (rd l i).z (rd l i).s):=by
 have hn:Ue (rd l i).n =true:=by unfold Xw at ho;rw [Ad] at ho;have:=Rd ho.2 i;exact Aa (by omega)
 unfold Uu;simp only [Zj,Yb];rw [Ym (by omega),Af,Ar,Zu (Yx (by omega)),Zu hn];cases hb:Ey l i with
 | true=>
  rw [Bool.true_or,Af];unfold Ey at hb;revert hb;cases Ch (rd l i).n with
  | false=>intro _;rfl
  | true=>
   cases decide ((rd l i).a < -1) with
   | true=>intro _;rfl
   | false=>
    cases decide ((rd l i).a >=(i:Int)) with
    | true=>intro _;rfl
    | false=>
     cases Fk (rd l i).t (rd l i).x (rd l i).y (rd l i).z != 0 with
     | true=>intro _;rfl
     | false=>intro h;cases h
 | false=>obtain ⟨b1,b2,b3,b4⟩:=RY hb;have hk:=WO hf hb;have hp:=x2z ho hl hi hk;rw [b1,Ay,Ab,Yo (by omega),Ab,F6 (by omega),Ab,b4,show ((0:Int) != 0)=false from rfl,Ab,Zu hp,Zu (show Vs (Je l (i:Int))=true from Aa (MK hp)),Bi]
theorem w4d (l:zu) (i:Nat):twF l (rd l i).a (rd l i).n i 0=twin l i:=by
 rw [x4w];unfold twin
 congr 1
 funext j
 rw [Ak]
theorem u5t {l:zu} (ho:Xw l=true) (hl:l.length<=1000): ∀(k i:Nat),i+k=l.length->Gq l i-> ∃N,Zt (Uu l) N (.to (.h1 (i:Int)))=.ret [.int .i64 (bif badF l k i then 8 else 0)]
 | 0,i,h,hf=>⟨1,by
  rw [Zx];unfold Uu;simp only [];rw [Yo (by omega)];rfl⟩
 | k +1,i,h,hf=>by
  have hi:i<l.length:=by omega
  have e:=v9o ho hl hi hf;rw [badF];have hb:Df l i=((Ey l i||(C3 (Je l (i:Int)) != 0))||twin l i):=by unfold Df;rw [Bool.or_assoc]
  cases g:Ey l i||(C3 (Je l (i:Int)) != 0) with
  | true=>exact ⟨1,by rw [Zx,e,hb,g];rfl⟩
  | false=>
   cases g2:twin l i with
   | true=>
    have hx: ∀(k j:Nat),j+k=i->twF l (rd l i).a (rd l i).n k j=true-> ∃N,Zt (Uu l) N (.to (.h2 (i:Int) (j:Int) (rd l i).n (rd l i).a (rd l i).t (rd l i).x (rd l i).y (rd l i).z (rd l i).s))=.ret [.int .i64 8]:=by
     intro k
     induction k with
     | zero=>intro j _ hq;cases hq
     | succ k ih=>
      intro j hj hq;have w2:wrap .i64 ((j:Int)+1)=((j+1:Nat):Int):=Zq (by omega);have e:Uu l (.h2 (i:Int) (j:Int) (rd l i).n (rd l i).a (rd l i).t (rd l i).x (rd l i).y (rd l i).z (rd l i).s)=bif ((rd l j).a == (rd l i).a)&&((rd l j).n == (rd l i).n) then .ret [.int .i64 8] else .to (.h2 (i:Int) ((j+1:Nat):Int) (rd l i).n (rd l i).a (rd l i).t (rd l i).x (rd l i).y (rd l i).z (rd l i).s):=by unfold Uu;simp only [Zj,w2];rw [Ym (by omega),Af,Ar,Zu (Yx (by omega))];cases (rd l j).a == (rd l i).a <;> cases (rd l j).n == (rd l i).n <;> rfl
      rw [twF] at hq;cases g:((rd l j).a == (rd l i).a)&&((rd l j).n == (rd l i).n) with
      | true=>exact ⟨1,by rw [Zx,e,g];rfl⟩
      | false=>rw [g,Bi] at hq;obtain ⟨N,hN⟩:=ih (j+1) (by omega) hq;exact ⟨N+1,by rw [Zx,e,g,Ab,hN]⟩
    obtain ⟨N,hN⟩:=hx i 0 (Ak _) (by rw [w4d];exact g2);refine ⟨N+1,?_⟩;rw [Zx,e,g,Ab,hb,g,g2];exact hN
   | false=>
    have hbf:Df l i=false:=by rw [hb,g,g2];rfl
    have ht:=u5t ho hl k (i+1) (by omega) (x1o hf hbf);obtain ⟨N,hN⟩:=u5s (n:=(rd l i).n) (a:=(rd l i).a) (t:=(rd l i).t) (x:=(rd l i).x) (y:=(rd l i).y) (z:=(rd l i).z) (s:=(rd l i).s) hi hl ht i 0 (Ak _);rw [w4d,g2,Ab] at hN;refine ⟨N+1,?_⟩;rw [Zx,e,g,Ab,hbf,Bi];exact hN
theorem j0i (l:zu) (h:Xw l=true): ∃N,Zt (Uu l) N (V6 l)=.ret [.int .i64 (Kv l)]:=by
 unfold V6 Kv;by_cases g:200<l.length
 .rw [Xv (by omega),Aa g];exact ⟨0,rfl⟩
 .rw [Xb (by omega),Ah g,Ab,Ab];have hT:=u5t h (by omega) l.length 0 (Ak _) (fun j hj=>absurd hj (AJ _));have:=u5u (by omega) hT l.length 0 (Ak _);rw [AM,x9a,w6m] at this;exact this
theorem j4j {S:B7} (hS:Zv prog S):Zv prog (S.with Sz FR):=CU hS (by kernel_rfl) fun args v h=>by
 unfold FR at h;split at h
 .rename_i a0;split at h
  .rename_i L g n e0;simp only [Ae,Ac,Ad] at h;obtain ⟨rfl,ho0,hw⟩:=h;obtain ⟨N,hN⟩:=j0i L hw;exact ⟨_,_,(.cons (Xd e0 ho0) .nil),rfl,v9p L N _ hN,3,rfl⟩
  .cases h
 .cases h
def P6 :B7:=(UK.with Sr FR).with Sz FR
theorem QA :Zv prog P6:=j4j (j4d Wn)
def w3 (p q r:Int):Int:=wrap .i64 (p+q+r)
def w4 (p q r s:Int):Int:=wrap .i64 (p+q+r+s)
def z4 :R4:=⟨0,0,0,0⟩
theorem j1s {l:zu} (h:(l.all fun x=>decide (0<=x.t))=true) (j:Nat):0<=(rd l j).t :=by
 by_cases hj:j<l.length
 .rw [Wv hj];exact Aw (Ax.1 h _ (AL hj))
 .have:rd l j=Xg.d:=by simp [rd,List.getD,List.getElem?_eq_none (show l.length<=j by omega)]
  rw [this];exact BO 0
theorem WB {l:zu} (h:(Kv l != 0)=false):l.length<=200/\Fu l=0/\Gq l l.length:=by
 have h:Kv l=0:=by simpa using h
 unfold Kv at h;by_cases g:200<l.length
 .rw [Aa g] at h;cases h
 .rw [Ah g,Ab] at h;cases g2:Fu l != 0 with
  | true=>rw [g2,Af] at h;rw [h] at g2;cases g2
  | false=>
   rw [g2,Ab] at h;refine ⟨by omega,by simpa using g2,fun j hj=> ?_⟩;cases g3:(List.range l.length).any (Df l) with
   | true=>rw [g3] at h;cases h
   | false=>simpa using List.any_eq_false.1 g3 j (A0.2 hj)
theorem u9q {l:zu} (h:(Kv l != 0)=false) {i:Nat} (hi:i<l.length):Q9 l i:=by obtain ⟨h1,h2,h3⟩:=WB h;have:=h3 i hi;unfold Df at this;rw [AT] at this;exact WO (fun j hj=>h3 j (by omega)) this.1
inductive Hh where
 | h0 (v3:zy) (v4:Int)
def NM (l0:List zy):Hh->CH
 | .h0 v3 v4=>⟨⟨22,0,true⟩,none,(Zf prog 53 (pn 75) 0),none,(Zy prog 9),⟨Yh [(0,(dt l0)),(3,(.str v3)),(4,(ii v4))],Wd [] 0,0,[],true⟩,[],.leaf⟩
def j0u :List (Option zw):=[some [0,3,4]]
def j0v :List (Option zw):=[]
def Gh (l0:List zy):Hh->Xy Hh
 | .h0 v3 v4=>let a:=rd l0 v4.toNat;(bif (decide (v4<(l0.length:Int))) then (bif (decide (v4>0)) then (bif (Ca v3 ([47]:zy)) then (bif ((decide (0<=v4/\v4<(l0.length:Int)))&&true) then (bif (Ca (v3++([47]:zy)) a) then (.to (.h0 ((v3++([47]:zy))++a) (wrap .i64 (v4+1)))) else .stuck) else .stuck) else .stuck) else (bif ((decide (0<=v4/\v4<(l0.length:Int)))&&true) then (bif (Ca v3 a) then (.to (.h0 (v3++a) (wrap .i64 (v4+1)))) else .stuck) else .stuck)) else (.ret [(.str v3)]))
def x2u (l0:List zy):Xy Hh:=(.to (.h0 ([]:zy) 0))
theorem w8h (l0:List zy): ∀s,Wu prog (Zy prog 53) (NM l0) (NM l0 s) (Gh l0 s)
 | .h0 v3 v4=>(lb (fun k0=>(lb (fun k1=>(lo fun o0=>(lo fun o1=>(lo fun o2=>(sl QA 40 [] ⟨[],[],j0u,j0v⟩ b7 (bl 2 3) (ww o2 (ww o1 (ww o0 (tt k1 (tt k0 nn)))))))))) (fun k1=>(lo fun o0=>(lo fun o1=>(sl QA 36 [] ⟨[],[],j0u,j0v⟩ b7 (bl 2 1) (ww o1 (ww o0 (tt k1 (tt k0 nn)))))))))) (fun k0=>(lr 22 3 (pn 191) 1 9 [(2,(.str v3))] (sl QA 15 [] (b8 [2]) b7 [false] (tt k0 nn)))))
theorem x9u (l0:List zy):Wu prog (Zy prog 53) (NM l0) (Zm prog 53 [(dt l0)] true []) (x2u l0):=(sl QA 15 [] ⟨[],[],j0u,j0v⟩ b7 [] nn)
theorem v9w (l0:List zy) (n:Nat) (vs:zx) (h:Zt (Gh l0) n (x2u l0)=.ret vs):Kw prog (Zy prog 53) (Zm prog 53 [(dt l0)] true []) vs:=by have:=Zb (w8h l0) n _ (x9u l0);rwa [h] at this
theorem Y9 (sep x:zy) (r:List zy):joinTail sep (x::r)=sep++x++joinTail sep r:=by simp [joinTail]
theorem u5y {L:List zy} {T:zy} (hT:T.length<=1000000) (hl:L.length<=1000000): ∀(k i:Nat) (acc:zy),i+k=L.length->1<=i->acc++joinTail [47] (L.drop i)=T->
  ∃N,Zt (Gh L) N (.to (.h0 acc (i:Int)))=.ret [.str T]
 | 0,i,acc,h,h1,hj=>by
  rw [Av (by omega)] at hj;have hj:acc=T:=by rw [<-hj];simp [joinTail]
  refine ⟨1,?_⟩;rw [Zx];unfold Gh;simp only [];rw [Yo (by omega),Ab,hj];rfl
 | k+1,i,acc,h,h1,hj=>by
  have hi:i<L.length:=by omega
  have w2:wrap .i64 ((i:Int)+1)=((i+1:Nat):Int):=Zq (by omega);rw [Yt hi,Y9] at hj;have eC:acc.length+(1+(rd L i).length +(joinTail [47] (L.drop (i+1))).length)=T.length:=by rw [<-hj];simp only [Ap,AE]
  have e:Gh L (.h0 acc (i:Int))=.to (.h0 (acc++[47]++rd L i) ((i+1:Nat):Int)):=by unfold Gh;simp only [Zj,w2];rw [Ym (by omega),Af,Xv (by omega),Af,Zu (Gl (by simp only [AE];omega)),Ar,Zu (Yx (by omega)),Zu (Gl (by simp only [Ap,AE];omega))]
  obtain ⟨N,hN⟩:=u5y hT hl k (i+1) (acc++[47]++rd L i) (by omega) (by omega) (by rw [<-hj];simp only [AI]);exact ⟨N+1,by rw [Zx,e,hN]⟩
def GF (L:List zy):zy:=O0 L [47]
def Ps (L:List zy):Bool:=Qa L [47]
theorem j0t (L:List zy) (h:Ps L=true): ∃N,Zt (Gh L) N (x2u L)=.ret [.str (GF L)]:=by
 unfold Ps Qa at h;rw [Ad,An,An] at h;obtain ⟨h1,h2⟩:=h;show∃N,Zt (Gh L) N (.to (.h0 [] 0))=_
 match L with
 | []=>exact ⟨1,rfl⟩
 | x::r=>
  have hj:GF (x::r)=x++joinTail [47] r:=join_cons x r [47];have hx:x.length<=1000000:=by have:(GF (x::r)).length <=1000000:=h2;rw [hj,Ap] at this;omega
  have e:Gh (x::r) (.h0 [] 0)=.to (.h0 x ((1:Nat):Int)):=by unfold Gh;simp only [];rw [Ym (by rw [Aq];omega),Af,Xb (by omega),Ab,Ar,Zu (Aa ⟨BO _,by rw [Aq];omega⟩),Zu (Gl (by show 0+(rd (x::r) 0).length <=_;show 0+x.length<=_;omega))];rfl
  obtain ⟨N,hN⟩:=u5y (L:=x::r) (T:=GF (x::r)) h2 h1 r.length 1 x (by rw [Aq];omega) (Aj _) (by rw [hj];rfl);exact ⟨N+1,by rw [Zx,e,hN]⟩
def Ot :zx->Option (B5×Bool)
 | [a0]=>match C5 zy a0 with
  | some (L,g,n)=>some (.str (GF L),CV zy n g&&Ps L)
  | _=>none
 | _=>none
theorem j4m {S:B7} (hS:Zv prog S):Zv prog (S.with TB Ot):=CU hS (by kernel_rfl) fun args v h=>by
 unfold Ot at h;split at h
 .rename_i a0;split at h
  .rename_i L g n e0;simp only [Ae,Ac,Ad] at h;obtain ⟨rfl,ho0,hw⟩:=h;obtain ⟨N,hN⟩:=j0t L hw;exact ⟨_,_,(.cons (Xd e0 ho0) .nil),rfl,v9w L N _ hN,3,rfl⟩
  .cases h
 .cases h
def SX0 :B7:=((P6.with O7 IV).with Mt IQ).with P1 IZ
def SX :B7:=fun g=>bif Nat.beq g PW then some (.eff IY) else SX0 g
theorem Zc :Zv prog SX:=x4t (Gk (Gk (Gk QA (by kernel_rfl) u7z) (by kernel_rfl) u4y) (by kernel_rfl) u8p) (by kernel_rfl) v7j
def SXr :B7:=(((((P6.with GV IW).with OD IU).with NX IT).with NO IS).with TA Oq).with TB Ot
theorem Yn :Zv prog SXr:=j4m (j4k (v6q (v6r (v6s (v6v QA)))))
section
attribute [local irreducible] Kv Xw
inductive FH where
 | h0 (v4:zy) (v5:Int)
 | h1 (v4:zy) (v5:Int) (v7:Int)
def NC (l0:zu):FH->CH
 | .h0 v4 v5=>⟨⟨84,0,true⟩,none,(Zf prog 11 (pn 151) 0),none,(Zy prog 10),⟨Yh [(0,(dt l0)),(4,(.str v4)),(5,(ii v5))],Wd [] 0,0,[],true⟩,[],.leaf⟩
 | .h1 v4 v5 v7=>⟨⟨84,0,true⟩,none,(Zf prog 11 (pn 40087) 0),none,(Zy prog 10),⟨Yh [(0,(dt l0)),(4,(.str v4)),(5,(ii v5)),(7,(ii v7))],Wd [] 0,0,[],true⟩,[],.leaf⟩
def KE :List (Option zw):=[some [0,4,5]]
def KG :List (Option zw):=[]
def KD :List (Option zw):=[some [0,4,5,7]]
def KF :List (Option zw):=[]
def Qj (l0:zu):FH->Xy FH
 | .h0 v4 v5=>let zA:=(rd l0 v5.toNat);let zB:=(Uh (wrap .i64 zA.t));let zC:=(v4++([110,111,100,101,32]:zy));(bif (decide (v5<(l0.length:Int))) then (bif (Ca v4 ([110,111,100,101,32]:zy)) then (bif (Vz (B6 l0) v5) then (bif (Ca zC (Je (B6 l0) v5)) then (bif ((decide (0<=v5/\v5<(l0.length:Int)))&&true) then (bif (Vc (wrap .i64 zA.t)) then (bif (Ca ([32]:zy) zB) then (bif (Ca (([32]:zy)++zB) ([32]:zy)) then (bif (Vc zA.x) then (bif (Ca ((([32]:zy)++zB)++([32]:zy)) (Uh zA.x)) then (bif (Ca (((([32]:zy)++zB)++([32]:zy))++(Uh zA.x)) ([32]:zy)) then (bif (Vc zA.y) then (bif (Ca ((((([32]:zy)++zB)++([32]:zy))++(Uh zA.x))++([32]:zy)) (Uh zA.y)) then (bif (Ca (((((([32]:zy)++zB)++([32]:zy))++(Uh zA.x))++([32]:zy))++(Uh zA.y)) ([32]:zy)) then (bif (Vc zA.z) then (bif (Ca ((((((([32]:zy)++zB)++([32]:zy))++(Uh zA.x))++([32]:zy))++(Uh zA.y))++([32]:zy)) (Uh zA.z)) then (bif (Ca (((((((([32]:zy)++zB)++([32]:zy))++(Uh zA.x))++([32]:zy))++(Uh zA.y))++([32]:zy))++(Uh zA.z)) ([10]:zy)) then (bif (Ca (zC++(Je (B6 l0) v5)) ((((((((([32]:zy)++zB)++([32]:zy))++(Uh zA.x))++([32]:zy))++(Uh zA.y))++([32]:zy))++(Uh zA.z))++([10]:zy))) then (.to (.h1 ((zC++(Je (B6 l0) v5))++((((((((([32]:zy)++zB)++([32]:zy))++(Uh zA.x))++([32]:zy))++(Uh zA.y))++([32]:zy))++(Uh zA.z))++([10]:zy))) v5 0)) else .stuck) else .stuck) else .stuck) else .stuck) else .stuck) else .stuck) else .stuck) else .stuck) else .stuck) else .stuck) else .stuck) else .stuck) else .stuck) else .stuck) else .stuck) else .stuck) else .stuck) else (bif (decide ((v4.length:Int)>60000)) then (.ret [(.str []),(.int .i64 4)]) else (.ret [(.str v4),(.int .i64 0)])))
 | .h1 v4 v5 v7=>let zA:=(rd (rd l0 v5.toNat).s v7.toNat);(bif ((decide (0<=v5/\v5<(l0.length:Int)))&&true) then (bif (decide (v7<(((rd l0 v5.toNat).s.length :Nat):Int))) then (bif (Ca v4 ([98,111,120]:zy)) then (bif ((decide (0<=v7/\v7<(((rd l0 v5.toNat).s.length :Nat):Int)))&&true) then (bif (Vc zA.a) then (bif (Ca ([32]:zy) (Uh zA.a)) then (bif (Ca (([32]:zy)++(Uh zA.a)) ([32]:zy)) then (bif (Vc zA.b) then (bif (Ca ((([32]:zy)++(Uh zA.a))++([32]:zy)) (Uh zA.b)) then (bif (Ca (((([32]:zy)++(Uh zA.a))++([32]:zy))++(Uh zA.b)) ([32]:zy)) then (bif (Vc zA.c) then (bif (Ca ((((([32]:zy)++(Uh zA.a))++([32]:zy))++(Uh zA.b))++([32]:zy)) (Uh zA.c)) then (bif (Ca (((((([32]:zy)++(Uh zA.a))++([32]:zy))++(Uh zA.b))++([32]:zy))++(Uh zA.c)) ([32]:zy)) then (bif (Vc zA.d) then (bif (Ca ((((((([32]:zy)++(Uh zA.a))++([32]:zy))++(Uh zA.b))++([32]:zy))++(Uh zA.c))++([32]:zy)) (Uh zA.d)) then (bif (Ca (((((((([32]:zy)++(Uh zA.a))++([32]:zy))++(Uh zA.b))++([32]:zy))++(Uh zA.c))++([32]:zy))++(Uh zA.d)) ([32]:zy)) then (bif (Vc zA.e) then (bif (Ca ((((((((([32]:zy)++(Uh zA.a))++([32]:zy))++(Uh zA.b))++([32]:zy))++(Uh zA.c))++([32]:zy))++(Uh zA.d))++([32]:zy)) (Uh zA.e)) then (bif (Ca (((((((((([32]:zy)++(Uh zA.a))++([32]:zy))++(Uh zA.b))++([32]:zy))++(Uh zA.c))++([32]:zy))++(Uh zA.d))++([32]:zy))++(Uh zA.e)) ([32]:zy)) then (bif (Vc zA.f) then (bif (Ca ((((((((((([32]:zy)++(Uh zA.a))++([32]:zy))++(Uh zA.b))++([32]:zy))++(Uh zA.c))++([32]:zy))++(Uh zA.d))++([32]:zy))++(Uh zA.e))++([32]:zy)) (Uh zA.f)) then (bif (Ca (((((((((((([32]:zy)++(Uh zA.a))++([32]:zy))++(Uh zA.b))++([32]:zy))++(Uh zA.c))++([32]:zy))++(Uh zA.d))++([32]:zy))++(Uh zA.e))++([32]:zy))++(Uh zA.f)) ([10]:zy)) then (bif (Ca (v4++([98,111,120]:zy)) ((((((((((((([32]:zy)++(Uh zA.a))++([32]:zy))++(Uh zA.b))++([32]:zy))++(Uh zA.c))++([32]:zy))++(Uh zA.d))++([32]:zy))++(Uh zA.e))++([32]:zy))++(Uh zA.f))++([10]:zy))) then (.to (.h1 ((v4++([98,111,120]:zy))++((((((((((((([32]:zy)++(Uh zA.a))++([32]:zy))++(Uh zA.b))++([32]:zy))++(Uh zA.c))++([32]:zy))++(Uh zA.d))++([32]:zy))++(Uh zA.e))++([32]:zy))++(Uh zA.f))++([10]:zy))) v5 (wrap .i64 (v7+1)))) else .stuck) else .stuck) else .stuck) else .stuck) else .stuck) else .stuck) else .stuck) else .stuck) else .stuck) else .stuck) else .stuck) else .stuck) else .stuck) else .stuck) else .stuck) else .stuck) else .stuck) else .stuck) else .stuck) else .stuck) else .stuck) else (.to (.h0 v4 (wrap .i64 (v5+1))))) else .stuck)
def RE (l0:zu):Xy FH:=(bif (Xw (B6 l0)) then (bif ((Kv (B6 l0)) != 0) then (.ret [(.str []),(.int .i64 (Kv (B6 l0)))]) else (.to (.h0 ([]:zy) 0))) else .stuck)
theorem w7v (l0:zu): ∀s,Wu prog (Zy prog 11) (NC l0) (NC l0 s) (Qj l0 s)
 | .h0 v4 v5=>(lb (fun k0=>(lo fun o0=>(lo fun o1=>(lo fun o2=>(lo fun o3=>(lo fun o4=>(lo fun o5=>(lo fun o6=>(lo fun o7=>(lo fun o8=>(lo fun o9=>(lo fun o10=>(lo fun o11=>(lo fun o12=>(lo fun o13=>(lo fun o14=>(lo fun o15=>(lo fun o16=>(sl Yn 31 [] ⟨[],[],KD,KF⟩ b7 (CC 5 [false]) (ww o16 (ww o15 (ww o14 (ww o13 (ww o12 (ww o11 (ww o10 (ww o9 (ww o8 (ww o7 (ww o6 (ww o5 (ww o4 (ww o3 (ww o2 (pp (pp (xr l0) (xw o1)) (ww o0 (ww o3 (tt k0 nn)))))))))))))))))))))))))))))))))))))) (fun k0=>(lb (fun k1=>(lr 84 11 (pn 303) 1 10 [(2,(.str [])),(3,(ii 4))] (sl Yn 23 [] (b8 [2,3]) b7 (bl 2 2) (tt k1 (tt k0 nn))))) (fun k1=>(lr 84 3 (pn 191) 1 10 [(2,(.str v4)),(3,(ii 0))] (sl Yn 25 [] (b8 [2,3]) b7 (bl 2 0) (tt k1 (tt k0 nn))))))))
 | .h1 v4 v5 v7=>(lo fun cP=>(lb (fun k0=>(lo fun o0=>(lo fun o1=>(lo fun o2=>(lo fun o3=>(lo fun o4=>(lo fun o5=>(lo fun o6=>(lo fun o7=>(lo fun o8=>(lo fun o9=>(lo fun o10=>(lo fun o11=>(lo fun o12=>(lo fun o13=>(lo fun o14=>(lo fun o15=>(lo fun o16=>(lo fun o17=>(lo fun o18=>(lo fun o19=>(lo fun o20=>(sl Yn 24 [] ⟨[],[],KD,KF⟩ b7 (CC 7 [false]) (ww o20 (ww o19 (ww o18 (ww o17 (ww o16 (ww o15 (ww o14 (ww o13 (ww o12 (ww o11 (ww o10 (ww o9 (ww o8 (ww o7 (ww o6 (ww o5 (ww o4 (ww o3 (ww o2 (ww o1 (ww cP (ww o1 (ww cP (ww o0 (tt k0 (ww cP nn))))))))))))))))))))))))))))))))))))))))))))))))) (fun k0=>(sl Yn 21 [] ⟨[],[],KE,KG⟩ b7 [false] (tt k0 (ww cP nn))))))
theorem x9l (l0:zu):Wu prog (Zy prog 11) (NC l0) (Zm prog 11 [(dt l0)] true []) (RE l0):=(lo fun cP=>let a:=pp (xr l0) (xw cP);(lb (fun k0=>(lr 84 11 (pn 37) 1 10 [(2,(.str [])),(3,(ii (Kv (B6 l0))))] (sl Yn 20 [] (b8 [2,3]) b7 [true] (pp a (tt k0 (pp a nn)))))) (fun k0=>(sl Yn 25 [] ⟨[],[],KE,KG⟩ b7 [false] (tt k0 (pp a nn))))))
theorem v9j (l0:zu) (n:Nat) (vs:zx) (h:Zt (Qj l0) n (RE l0)=.ret vs):Kw prog (Zy prog 11) (Zm prog 11 [(dt l0)] true []) vs:=by have:=Zb (w7v l0) n _ (x9l l0);rwa [h] at this
inductive FB where
 | h0 (v17:Int) (aA:zo)
 | h1 (v17:Int) (v45:zt) (v46:Int) (v47:Int) (aA:zo)
 | h2 (bV:Int) (bU:zt) (bW:Int) (bX:Int) (aA:zo) (aG:Int) (bQ:Int) (bA:Int) (aO:Int) (aS:Int) (aZ:Int)
 | h3 (bV:Int) (bU:zt) (bW:Int) (bX:Int) (aA:zo) (aG:Int) (bQ:Int) (bA:Int) (aO:Int) (aS:Int) (aZ:Int)
 | h4 (bV:Int) (bU:zt) (bW:Int) (bX:Int) (aA:zo) (aG:Int) (bQ:Int) (bA:Int) (aO:Int) (aS:Int) (aZ:Int)
 | h5 (bV:Int) (bU:zt) (bW:Int) (bX:Int) (aA:zo) (aG:Int) (bQ:Int) (bA:Int) (aO:Int) (aS:Int) (aZ:Int)
 | h6 (bV:Int) (bU:zt) (bW:Int) (bX:Int) (aA:zo) (aG:Int) (bQ:Int) (bA:Int) (aO:Int) (aS:Int) (aZ:Int)
 | h7 (bV:Int) (bU:zt) (bW:Int) (bX:Int) (aA:zo) (aG:Int) (bQ:Int) (bA:Int) (aO:Int) (aS:Int) (aZ:Int)
 | h8 (bV:Int) (bU:zt) (bW:Int) (bX:Int) (aA:zo) (aG:Int) (bQ:Int) (bA:Int) (aO:Int) (aS:Int) (aZ:Int)
def M3 (l0:zu) (bV:Int) (bU:zt) (bW:Int) (bX:Int):C9:=⟨⟨76,0,true⟩,(C4 prog 10 (pn 3357079) 19),(Zf prog 10 (pn 3357079) 1),none,(Zy prog 10),Yh [(0,(.dat l0.length (Zz l0))),(5,(.ptr 0 0)),(15,(.dat l0.length (Zz l0))),(16,(ii (l0.length:Int))),(17,(ii bV)),(45,(.dat bU.length (Zz bU))),(46,(ii bW)),(47,(ii bX)),(69,(.sl 2 0 6 (.un 1)))]⟩
def Gw (aA:zo):CA:=⟨[(.obj .bld),(.sla 1 1 0 aA.length (.un 1))],75,none⟩
abbrev Jw (l0:zu) (v17:Int):=(Wg (wr (rd l0 (tn v17)).t))
abbrev Kk (l0:zu) (v17:Int):=(Wg (rd l0 (tn v17)).x)
def M4 :=(Zf prog 35 (pn 37) 0)
abbrev Eo (l0:zu) (v17:Int):=(Wg (rd l0 (tn v17)).y)
def M5 (aG:Int) (bQ:Int) (bA:Int) (aO:Int) (aS:Int) (aZ:Int):CA:=⟨[(ii aG),(ii bQ),(ii bA),(ii aO),(ii aS),(ii aZ)],3,none⟩
abbrev HE (l0:zu) (v17:Int):=(Wg (rd l0 (tn v17)).z)
abbrev x0r (aA:zo) (aG:Int):=((aA++[(yB 32)])++(CJ (Wg aG)))
abbrev x0q (aA:zo) (bQ:Int):=((aA++[(yB 32)])++(CJ (Wg bQ)))
abbrev y2h (aA:zo) (bA:Int):=((aA++[(yB 32)])++(CJ (Wg bA)))
abbrev y2g (aA:zo) (aO:Int):=((aA++[(yB 32)])++(CJ (Wg aO)))
abbrev y2f (aA:zo) (aS:Int):=((aA++[(yB 32)])++(CJ (Wg aS)))
abbrev y2e (aA:zo) (aZ:Int):=((aA++[(yB 32)])++(CJ (Wg aZ)))
def Mn (l0:zu):FB->CH
 | .h0 v17 aA=>⟨⟨76,0,true⟩,none,(Zf prog 10 (pn 151) 0),none,(Zy prog 10),⟨Yh [(0,(dt l0)),(5,(.ptr 0 0)),(15,(dt l0)),(16,(ii (l0.length:Int))),(17,(ii v17))],Wd [(Gw aA),(rz aA 5 1)] 0,2,[],true⟩,[],.leaf⟩
 | .h1 v17 v45 v46 v47 aA=>⟨⟨76,0,true⟩,none,(Zf prog 10 (pn 80279) 0),none,(Zy prog 10),⟨Yh [(0,(dt l0)),(5,(.ptr 0 0)),(15,(dt l0)),(16,(ii (l0.length:Int))),(17,(ii v17)),(45,(dt v45)),(46,(ii v46)),(47,(ii v47))],Wd [(Gw aA),(rz aA 5 1)] 0,2,[],true⟩,[],.leaf⟩
 | .h2 bV bU bW bX aA aG bQ bA aO aS aZ=>⟨⟨26,0,true⟩,none,M4,none,[],⟨Yh [(0,(.ptr 0 0)),(11,(.sl 2 0 6 (.un 1))),(12,(ii 6)),(13,(ii 0))],Wd [(Gw aA),(rz aA 5 1),(M5 aG bQ bA aO aS aZ)] 0,3,[],true⟩,[(M3 l0 bV bU bW bX)],.leaf⟩
 | .h3 bV bU bW bX aA aG bQ bA aO aS aZ=>⟨⟨26,0,true⟩,none,M4,none,[],⟨Yh [(0,(.ptr 0 0)),(11,(.sl 2 0 6 (.un 1))),(12,(ii 6)),(13,(ii 1))],Wd [(Gw aA),(rz aA 5 1),(M5 aG bQ bA aO aS aZ)] 0,3,[],true⟩,[(M3 l0 bV bU bW bX)],.leaf⟩
 | .h4 bV bU bW bX aA aG bQ bA aO aS aZ=>⟨⟨26,0,true⟩,none,M4,none,[],⟨Yh [(0,(.ptr 0 0)),(11,(.sl 2 0 6 (.un 1))),(12,(ii 6)),(13,(ii 2))],Wd [(Gw aA),(rz aA 5 1),(M5 aG bQ bA aO aS aZ)] 0,3,[],true⟩,[(M3 l0 bV bU bW bX)],.leaf⟩
 | .h5 bV bU bW bX aA aG bQ bA aO aS aZ=>⟨⟨26,0,true⟩,none,M4,none,[],⟨Yh [(0,(.ptr 0 0)),(11,(.sl 2 0 6 (.un 1))),(12,(ii 6)),(13,(ii 3))],Wd [(Gw aA),(rz aA 5 1),(M5 aG bQ bA aO aS aZ)] 0,3,[],true⟩,[(M3 l0 bV bU bW bX)],.leaf⟩
 | .h6 bV bU bW bX aA aG bQ bA aO aS aZ=>⟨⟨26,0,true⟩,none,M4,none,[],⟨Yh [(0,(.ptr 0 0)),(11,(.sl 2 0 6 (.un 1))),(12,(ii 6)),(13,(ii 4))],Wd [(Gw aA),(rz aA 5 1),(M5 aG bQ bA aO aS aZ)] 0,3,[],true⟩,[(M3 l0 bV bU bW bX)],.leaf⟩
 | .h7 bV bU bW bX aA aG bQ bA aO aS aZ=>⟨⟨26,0,true⟩,none,M4,none,[],⟨Yh [(0,(.ptr 0 0)),(11,(.sl 2 0 6 (.un 1))),(12,(ii 6)),(13,(ii 5))],Wd [(Gw aA),(rz aA 5 1),(M5 aG bQ bA aO aS aZ)] 0,3,[],true⟩,[(M3 l0 bV bU bW bX)],.leaf⟩
 | .h8 bV bU bW bX aA aG bQ bA aO aS aZ=>⟨⟨26,0,true⟩,none,M4,none,[],⟨Yh [(0,(.ptr 0 0)),(11,(.sl 2 0 6 (.un 1))),(12,(ii 6)),(13,(ii 6))],Wd [(Gw aA),(rz aA 5 1),(M5 aG bQ bA aO aS aZ)] 0,3,[],true⟩,[(M3 l0 bV bU bW bX)],.leaf⟩
def JR :List (Option zw):=[some [0,5,15,16,17]]
def JT :List (Option zw):=[]
def JQ :List (Option zw):=[some [0,5,15,16,17,45,46,47]]
def JS :List (Option zw):=[]
def Sc :List (Option zw):=[some [0,11,12,13],some [0,5,15,16,17,45,46,47,69]]
def Sk :List (Option zw):=[]
def Sb :List (Option zw):=[some [0,11,12,13],some [0,5,15,16,17,45,46,47,69]]
def Sj :List (Option zw):=[]
def Sa :List (Option zw):=[some [0,11,12,13],some [0,5,15,16,17,45,46,47,69]]
def Si :List (Option zw):=[]
def S9 :List (Option zw):=[some [0,11,12,13],some [0,5,15,16,17,45,46,47,69]]
def Sh :List (Option zw):=[]
def S8 :List (Option zw):=[some [0,11,12,13],some [0,5,15,16,17,45,46,47,69]]
def Sg :List (Option zw):=[]
def S7 :List (Option zw):=[some [0,11,12,13],some [0,5,15,16,17,45,46,47,69]]
def Sf :List (Option zw):=[]
def S6 :List (Option zw):=[some [0,11,12,13],some [0,5,15,16,17,45,46,47,69]]
def Se :List (Option zw):=[]
def Wh (l0:zu):FB->Xy FB
 | .h0 v17 aA=>let zA:=(rd l0 v17.toNat);let zB:=(Wg (wrap .i64 zA.t));let zC:=(Je (B6 l0) v17);(bif (decide (v17<(l0.length:Int))) then (bif ((decide (0<=v17/\v17<(l0.length:Int)))&&true) then (bif (Vz (B6 l0) v17) then (bif (Ca ([110,111,100,101,32]:zy) zC) then (bif (decide ((aA.length+(([110,111,100,101,32]:zy)++zC).length +1)*(1+1)<=Vw)) then (bif (Nat.beq 1 1&&(Nat.beq 1 1&&decide (0+aA.length<=aA.length))) then (bif (Nat.beq 1 1&&((decide (0+(aA.length+(([110,111,100,101,32]:zy)++zC).length)=(aA.length+(([110,111,100,101,32]:zy)++zC).length)))&&decide (((aA.length+(([110,111,100,101,32]:zy)++zC).length)+1+1)*(1+1)<=Vw))) then (bif (Yd (wrap .i64 zA.t)) then (bif (decide ((((aA.length+(([110,111,100,101,32]:zy)++zC).length)+1)+zB.length+1)*(1+1)<=Vw)) then (bif (Nat.beq 1 1&&(Nat.beq 1 1&&decide (0+((aA.length+(([110,111,100,101,32]:zy)++zC).length)+1)<=((aA.length+(([110,111,100,101,32]:zy)++zC).length)+1)))) then (bif (Nat.beq 1 1&&((decide (0+(((aA.length+(([110,111,100,101,32]:zy)++zC).length)+1)+zB.length)=(((aA.length+(([110,111,100,101,32]:zy)++zC).length)+1)+zB.length)))&&decide (((((aA.length+(([110,111,100,101,32]:zy)++zC).length)+1)+zB.length)+1+1)*(1+1)<=Vw))) then (bif (Yd zA.x) then (bif (decide ((((((aA.length+(([110,111,100,101,32]:zy)++zC).length)+1)+zB.length)+1)+(Wg zA.x).length +1)*(1+1)<=Vw)) then (bif (Nat.beq 1 1&&(Nat.beq 1 1&&decide (0+((((aA.length+(([110,111,100,101,32]:zy)++zC).length)+1)+zB.length)+1)<=((((aA.length+(([110,111,100,101,32]:zy)++zC).length)+1)+zB.length)+1)))) then (bif (Nat.beq 1 1&&((decide (0+(((((aA.length+(([110,111,100,101,32]:zy)++zC).length)+1)+zB.length)+1)+(Wg zA.x).length)=(((((aA.length+(([110,111,100,101,32]:zy)++zC).length)+1)+zB.length)+1)+(Wg zA.x).length)))&&decide (((((((aA.length+(([110,111,100,101,32]:zy)++zC).length)+1)+zB.length)+1)+(Wg zA.x).length)+1+1)*(1+1)<=Vw))) then (bif (Yd zA.y) then (bif (decide ((((((((aA.length+(([110,111,100,101,32]:zy)++zC).length)+1)+zB.length)+1)+(Wg zA.x).length)+1)+(Wg zA.y).length +1)*(1+1)<=Vw)) then (bif (Nat.beq 1 1&&(Nat.beq 1 1&&decide (0+((((((aA.length+(([110,111,100,101,32]:zy)++zC).length)+1)+zB.length)+1)+(Wg zA.x).length)+1)<=((((((aA.length+(([110,111,100,101,32]:zy)++zC).length)+1)+zB.length)+1)+(Wg zA.x).length)+1)))) then (bif (Nat.beq 1 1&&((decide (0+(((((((aA.length+(([110,111,100,101,32]:zy)++zC).length)+1)+zB.length)+1)+(Wg zA.x).length)+1)+(Wg zA.y).length)=(((((((aA.length+(([110,111,100,101,32]:zy)++zC).length)+1)+zB.length)+1)+(Wg zA.x).length)+1)+(Wg zA.y).length)))&&decide (((((((((aA.length+(([110,111,100,101,32]:zy)++zC).length)+1)+zB.length)+1)+(Wg zA.x).length)+1)+(Wg zA.y).length)+1+1)*(1+1)<=Vw))) then (bif (Yd zA.z) then (bif (decide ((((((((((aA.length+(([110,111,100,101,32]:zy)++zC).length)+1)+zB.length)+1)+(Wg zA.x).length)+1)+(Wg zA.y).length)+1)+(Wg zA.z).length +1)*(1+1)<=Vw)) then (bif (Nat.beq 1 1&&(Nat.beq 1 1&&decide (0+((((((((aA.length+(([110,111,100,101,32]:zy)++zC).length)+1)+zB.length)+1)+(Wg zA.x).length)+1)+(Wg zA.y).length)+1)<=((((((((aA.length+(([110,111,100,101,32]:zy)++zC).length)+1)+zB.length)+1)+(Wg zA.x).length)+1)+(Wg zA.y).length)+1)))) then (bif (Nat.beq 1 1&&((decide (0+(((((((((aA.length+(([110,111,100,101,32]:zy)++zC).length)+1)+zB.length)+1)+(Wg zA.x).length)+1)+(Wg zA.y).length)+1)+(Wg zA.z).length)=(((((((((aA.length+(([110,111,100,101,32]:zy)++zC).length)+1)+zB.length)+1)+(Wg zA.x).length)+1)+(Wg zA.y).length)+1)+(Wg zA.z).length)))&&decide (((((((((((aA.length+(([110,111,100,101,32]:zy)++zC).length)+1)+zB.length)+1)+(Wg zA.x).length)+1)+(Wg zA.y).length)+1)+(Wg zA.z).length)+1+1)*(1+1)<=Vw))) then (.to (.h1 v17 zA.s ((zA.s.length:Nat):Int) 0 ((((((((((aA++(CJ (([110,111,100,101,32]:zy)++zC)))++[(yB 32)])++(CJ zB))++[(yB 32)])++(CJ (Wg zA.x)))++[(yB 32)])++(CJ (Wg zA.y)))++[(yB 32)])++(CJ (Wg zA.z)))++[(yB 10)]))) else .stuck) else .stuck) else .stuck) else .stuck) else .stuck) else .stuck) else .stuck) else .stuck) else .stuck) else .stuck) else .stuck) else .stuck) else .stuck) else .stuck) else .stuck) else .stuck) else .stuck) else .stuck) else .stuck) else .stuck) else .stuck) else .stuck) else (bif (decide ((aA.length:Int)>60000)) then (.ret [(.str []),(.int .i64 4)]) else (bif (decide (0+aA.length<=aA.length)) then (bif (sLe (Fa (aA.length) (fun k=>(Zz aA) (0+k)))) then (.ret [(.str (Fa (aA.length) (fun k=>(Zz aA) (0+k)))),(.int .i64 0)]) else .stuck) else .stuck)))
 | .h1 v17 v45 v46 v47 aA=>let g:=rd v45 v47.toNat;(bif (decide (v47<v46)) then (bif ((decide (0<=v47/\v47<(v45.length:Int)))&&true) then (bif (decide ((aA.length+3+1)*(1+1)<=Vw)) then (bif (Nat.beq 1 1&&(Nat.beq 1 1&&decide (0+aA.length<=aA.length))) then (.to (.h2 v17 v45 v46 v47 (aA++(CJ ([98,111,120]:zy))) g.a g.b g.c g.d g.e g.f)) else .stuck) else .stuck) else .stuck) else (.to (.h0 (wrap .i64 (v17+1)) aA)))
 | .h2 bV bU bW bX aA aG bQ bA aO aS aZ=>(bif (Nat.beq 1 1&&((decide (0+aA.length=aA.length))&&decide ((aA.length+1+1)*(1+1)<=Vw))) then (bif (Yd aG) then (bif (decide (((aA.length+1)+(Wg aG).length +1)*(1+1)<=Vw)) then (bif (Nat.beq 1 1&&(Nat.beq 1 1&&decide (0+(aA.length+1)<=(aA.length+1)))) then (.to (.h3 bV bU bW bX ((aA++[(yB 32)])++(CJ (Wg aG))) aG bQ bA aO aS aZ)) else .stuck) else .stuck) else .stuck) else .stuck)
 | .h3 bV bU bW bX aA aG bQ bA aO aS aZ=>(bif (Nat.beq 1 1&&((decide (0+aA.length=aA.length))&&decide ((aA.length+1+1)*(1+1)<=Vw))) then (bif (Yd bQ) then (bif (decide (((aA.length+1)+(Wg bQ).length +1)*(1+1)<=Vw)) then (bif (Nat.beq 1 1&&(Nat.beq 1 1&&decide (0+(aA.length+1)<=(aA.length+1)))) then (.to (.h4 bV bU bW bX ((aA++[(yB 32)])++(CJ (Wg bQ))) aG bQ bA aO aS aZ)) else .stuck) else .stuck) else .stuck) else .stuck)
 | .h4 bV bU bW bX aA aG bQ bA aO aS aZ=>(bif (Nat.beq 1 1&&((decide (0+aA.length=aA.length))&&decide ((aA.length+1+1)*(1+1)<=Vw))) then (bif (Yd bA) then (bif (decide (((aA.length+1)+(Wg bA).length +1)*(1+1)<=Vw)) then (bif (Nat.beq 1 1&&(Nat.beq 1 1&&decide (0+(aA.length+1)<=(aA.length+1)))) then (.to (.h5 bV bU bW bX ((aA++[(yB 32)])++(CJ (Wg bA))) aG bQ bA aO aS aZ)) else .stuck) else .stuck) else .stuck) else .stuck)
 | .h5 bV bU bW bX aA aG bQ bA aO aS aZ=>(bif (Nat.beq 1 1&&((decide (0+aA.length=aA.length))&&decide ((aA.length+1+1)*(1+1)<=Vw))) then (bif (Yd aO) then (bif (decide (((aA.length+1)+(Wg aO).length +1)*(1+1)<=Vw)) then (bif (Nat.beq 1 1&&(Nat.beq 1 1&&decide (0+(aA.length+1)<=(aA.length+1)))) then (.to (.h6 bV bU bW bX ((aA++[(yB 32)])++(CJ (Wg aO))) aG bQ bA aO aS aZ)) else .stuck) else .stuck) else .stuck) else .stuck)
 | .h6 bV bU bW bX aA aG bQ bA aO aS aZ=>(bif (Nat.beq 1 1&&((decide (0+aA.length=aA.length))&&decide ((aA.length+1+1)*(1+1)<=Vw))) then (bif (Yd aS) then (bif (decide (((aA.length+1)+(Wg aS).length +1)*(1+1)<=Vw)) then (bif (Nat.beq 1 1&&(Nat.beq 1 1&&decide (0+(aA.length+1)<=(aA.length+1)))) then (.to (.h7 bV bU bW bX ((aA++[(yB 32)])++(CJ (Wg aS))) aG bQ bA aO aS aZ)) else .stuck) else .stuck) else .stuck) else .stuck)
 | .h7 bV bU bW bX aA aG bQ bA aO aS aZ=>(bif (Nat.beq 1 1&&((decide (0+aA.length=aA.length))&&decide ((aA.length+1+1)*(1+1)<=Vw))) then (bif (Yd aZ) then (bif (decide (((aA.length+1)+(Wg aZ).length +1)*(1+1)<=Vw)) then (bif (Nat.beq 1 1&&(Nat.beq 1 1&&decide (0+(aA.length+1)<=(aA.length+1)))) then (.to (.h8 bV bU bW bX ((aA++[(yB 32)])++(CJ (Wg aZ))) aG bQ bA aO aS aZ)) else .stuck) else .stuck) else .stuck) else .stuck)
 | .h8 bV bU bW bX aA aG bQ bA aO aS aZ=>(bif (Nat.beq 1 1&&((decide (0+aA.length=aA.length))&&decide ((aA.length+1+1)*(1+1)<=Vw))) then (.to (.h1 bV bU bW (wrap .i64 (bX+1)) (aA++[(yB 10)]))) else .stuck)
def RF (l0:zu):Xy FB:=(bif (Xw (B6 l0)) then (bif ((Kv (B6 l0)) != 0) then (.ret [(.str []),(.int .i64 (Kv (B6 l0)))]) else (.to (.h0 0 ([]:zo)))) else .stuck)
theorem w6y (l0:zu): ∀s,Wu prog (Zy prog 10) (Mn l0) (Mn l0 s) (Wh l0 s)
 | .h0 v17 aA=>(lb (fun k0=>(lo fun o0=>(lo fun o1=>(lo fun o2=>(lo fun o3=>(lo fun o4=>(lo fun o5=>(lo fun o6=>(lo fun o7=>(lo fun o8=>(lo fun o9=>(lo fun o10=>(lo fun o11=>(lo fun o12=>(lo fun o13=>(lo fun o14=>(lo fun o15=>(lo fun o16=>(lo fun o17=>(lo fun o18=>(lo fun o19=>(lo fun o20=>(lo fun o21=>let a:=xL ((((((((((aA.length+(([110,111,100,101,32]:zy)++(Je (B6 l0) v17)).length)+1)+(Jw l0 v17).length)+1)+(Kk l0 v17).length)+1)+(Eo l0 v17).length)+1)+(HE l0 v17).length)+1) ((((((((((aA++(CJ (([110,111,100,101,32]:zy)++(Je (B6 l0) v17))))++[(yB 32)])++(CJ (Jw l0 v17)))++[(yB 32)])++(CJ (Kk l0 v17)))++[(yB 32)])++(CJ (Eo l0 v17)))++[(yB 32)])++(CJ (HE l0 v17)))++[(yB 10)]).length (by first | exact Yc rfl | exact Yc (by simp only [Xu,Ap,Aq,AF,Yj] <;> omega) | assumption);let b:=aA++(CJ (([110,111,100,101,32]:zy)++(Je (B6 l0) v17)));let c:=CJ (Eo l0 v17);let d:=CJ (HE l0 v17);let e:=CJ (Jw l0 v17);let f:=CJ (Kk l0 v17);let g:=b++[(yB 32)];(sl Zc 29 [] ⟨[0,17],[],JQ,JS⟩ ⟨[],[.cells [.keep,.len ((((((((g++e)++[(yB 32)])++f)++[(yB 32)])++c)++[(yB 32)])++d)++[(yB 10)]).length],.rowed 1 ((((((((g++e)++[(yB 32)])++f)++[(yB 32)])++c)++[(yB 32)])++d)++[(yB 10)]).length (Zz ((((((((g++e)++[(yB 32)])++f)++[(yB 32)])++c)++[(yB 32)])++d)++[(yB 10)]))],[]⟩ (CC 5 [false]) (pp a (pp a (pp (xS ((((((((((aA.length+(([110,111,100,101,32]:zy)++(Je (B6 l0) v17)).length)+1)+(Jw l0 v17).length)+1)+(Kk l0 v17).length)+1)+(Eo l0 v17).length)+1)+(HE l0 v17).length)+1) (Zg (Yw (fun k=>(Zg (Yw (fun k=>(Zg (Yw (fun k=>(Zg (Yw (fun k=>(Zg (Yw (fun k=>(Zz aA) (0+k)) aA.length (Uk (([110,111,100,101,32]:zy)++(Je (B6 l0) v17)))) 0 (aA.length+(([110,111,100,101,32]:zy)++(Je (B6 l0) v17)).length) 1 [(.int .u8 32)]) (0+k)) ((aA.length+(([110,111,100,101,32]:zy)++(Je (B6 l0) v17)).length)+1) (Uk (Jw l0 v17))) 0 (((aA.length+(([110,111,100,101,32]:zy)++(Je (B6 l0) v17)).length)+1)+(Jw l0 v17).length) 1 [(.int .u8 32)]) (0+k)) ((((aA.length+(([110,111,100,101,32]:zy)++(Je (B6 l0) v17)).length)+1)+(Jw l0 v17).length)+1) (Uk (Kk l0 v17))) 0 (((((aA.length+(([110,111,100,101,32]:zy)++(Je (B6 l0) v17)).length)+1)+(Jw l0 v17).length)+1)+(Kk l0 v17).length) 1 [(.int .u8 32)]) (0+k)) ((((((aA.length+(([110,111,100,101,32]:zy)++(Je (B6 l0) v17)).length)+1)+(Jw l0 v17).length)+1)+(Kk l0 v17).length)+1) (Uk (Eo l0 v17))) 0 (((((((aA.length+(([110,111,100,101,32]:zy)++(Je (B6 l0) v17)).length)+1)+(Jw l0 v17).length)+1)+(Kk l0 v17).length)+1)+(Eo l0 v17).length) 1 [(.int .u8 32)]) (0+k)) ((((((((aA.length+(([110,111,100,101,32]:zy)++(Je (B6 l0) v17)).length)+1)+(Jw l0 v17).length)+1)+(Kk l0 v17).length)+1)+(Eo l0 v17).length)+1) (Uk (HE l0 v17))) 0 (((((((((aA.length+(([110,111,100,101,32]:zy)++(Je (B6 l0) v17)).length)+1)+(Jw l0 v17).length)+1)+(Kk l0 v17).length)+1)+(Eo l0 v17).length)+1)+(HE l0 v17).length) 1 [(.int .u8 10)]) (Zz ((((((((((aA++(CJ (([110,111,100,101,32]:zy)++(Je (B6 l0) v17))))++[(yB 32)])++(CJ (Jw l0 v17)))++[(yB 32)])++(CJ (Kk l0 v17)))++[(yB 32)])++(CJ (Eo l0 v17)))++[(yB 32)])++(CJ (HE l0 v17)))++[(yB 10)])) (by repeat' (first | exact Vd _ _ | assumption | exact Kt | exact Jt | rfl | (refine Gj ?_ ?_ rfl rfl rfl) | (refine Qv ?_ ?_ ?_ rfl) | exact Qu (Vd _ _) rfl | apply Ur | exact Io _ | exact Ak _ | (simp only [Xu,Ap,Aq,AF,Yj] <;> omega)))) (pp (pp (xF (Zg (Yw (fun k=>(Zg (Yw (fun k=>(Zg (Yw (fun k=>(Zg (Yw (fun k=>(Zg (Yw (fun k=>(Zz aA) (0+k)) aA.length (Uk (([110,111,100,101,32]:zy)++(Je (B6 l0) v17)))) 0 (aA.length+(([110,111,100,101,32]:zy)++(Je (B6 l0) v17)).length) 1 [(.int .u8 32)]) (0+k)) ((aA.length+(([110,111,100,101,32]:zy)++(Je (B6 l0) v17)).length)+1) (Uk (Jw l0 v17))) 0 (((aA.length+(([110,111,100,101,32]:zy)++(Je (B6 l0) v17)).length)+1)+(Jw l0 v17).length) 1 [(.int .u8 32)]) (0+k)) ((((aA.length+(([110,111,100,101,32]:zy)++(Je (B6 l0) v17)).length)+1)+(Jw l0 v17).length)+1) (Uk (Kk l0 v17))) 0 (((((aA.length+(([110,111,100,101,32]:zy)++(Je (B6 l0) v17)).length)+1)+(Jw l0 v17).length)+1)+(Kk l0 v17).length) 1 [(.int .u8 32)]) (0+k)) ((((((aA.length+(([110,111,100,101,32]:zy)++(Je (B6 l0) v17)).length)+1)+(Jw l0 v17).length)+1)+(Kk l0 v17).length)+1) (Uk (Eo l0 v17))) 0 (((((((aA.length+(([110,111,100,101,32]:zy)++(Je (B6 l0) v17)).length)+1)+(Jw l0 v17).length)+1)+(Kk l0 v17).length)+1)+(Eo l0 v17).length) 1 [(.int .u8 32)]) (0+k)) ((((((((aA.length+(([110,111,100,101,32]:zy)++(Je (B6 l0) v17)).length)+1)+(Jw l0 v17).length)+1)+(Kk l0 v17).length)+1)+(Eo l0 v17).length)+1) (Uk (HE l0 v17))) 0 (((((((((aA.length+(([110,111,100,101,32]:zy)++(Je (B6 l0) v17)).length)+1)+(Jw l0 v17).length)+1)+(Kk l0 v17).length)+1)+(Eo l0 v17).length)+1)+(HE l0 v17).length) 1 [(.int .u8 10)])) nn) (ww o21 (pp (pp (xw o20) (pp nn (xw o19))) (ww o18 (ww o17 (pp (pp (xw o16) (pp nn (xw o15))) (ww o14 (ww o13 (pp (pp (xw o12) (pp nn (xw o11))) (ww o10 (ww o9 (pp (pp (xw o8) (pp nn (xw o7))) (ww o6 (ww o5 (pp (pp (xw o4) (pp nn (xw o3))) (ww o2 (pp (pp (xr l0) (xw o1)) (ww o0 (tt k0 nn)))))))))))))))))))))))))))))))))))))))))))))) (fun k0=>(lb (fun k1=>(lr 76 3 (pn 191) 1 10 [(2,(.str [])),(3,(ii 4))] (sl Zc 48 [] (b8 [2,3]) b7 (bl 2 2) (tt k1 (tt k0 nn))))) (fun k1=>(lo fun o0=>(lo fun o1=>let h:=xG (Nat.beq 1 1);(lr 76 3 (pn 191) 1 10 [(2,(.str (Fa (aA.length) (fun k=>(Zz aA) (0+k))))),(3,(ii 0))] (sl Zc 51 [] (b8 [2,3]) b7 (bl 2 0) (pp (pp (xw o1) (pp h (pp h (pp (xw o0) (xY (aA.length) (fun k=>(Zz aA) (0+k))))))) (tt k1 (tt k0 nn)))))))))))
 | .h1 v17 v45 v46 v47 aA=>(lb (fun k0=>(lo fun o0=>(lo fun o1=>(lo fun o2=>let a:=xL (aA.length+3) (aA++(CJ ([98,111,120]:zy))).length (by first | exact Yc rfl | exact Yc (by simp only [Xu,Ap,Aq,AF,Yj] <;> omega) | assumption);let b:=aA++(CJ ([98,111,120]:zy));(sl Zc 83 [] ⟨[0,4,3],[],Sc,Sk⟩ ⟨[],[.cells [.keep,.len b.length],.rowed 1 b.length (Zz b),.keep],[]⟩ [true] (pp a (pp a (pp (xS (aA.length+3) (Yw (fun k=>(Zz aA) (0+k)) aA.length (Uk ([98,111,120]:zy))) (Zz (aA++(CJ ([98,111,120]:zy)))) (by repeat' (first | exact Vd _ _ | assumption | exact Kt | exact Jt | rfl | (refine Gj ?_ ?_ rfl rfl rfl) | (refine Qv ?_ ?_ ?_ rfl) | exact Qu (Vd _ _) rfl | apply Ur | exact Io _ | exact Ak _ | (simp only [Xu,Ap,Aq,AF,Yj] <;> omega)))) (pp (pp (xF (Yw (fun k=>(Zz aA) (0+k)) aA.length (Uk ([98,111,120]:zy)))) nn) (pp (pp (xw o2) (pp nn (xw o1))) (ww o0 (tt k0 nn)))))))))))) (fun k0=>(sl Zc 13 [] ⟨[0,1],[],JR,JT⟩ b7 [false] (pp (fl aA nn) (tt k0 nn)))))
 | .h2 bV bU bW bX aA aG bQ bA aO aS aZ=>(lo fun o0=>(lo fun o1=>(lo fun o2=>(lo fun o3=>let a:=xL ((aA.length+1)+(Wg aG).length) (x0r aA aG).length (by first | exact Yc rfl | exact Yc (by simp only [Xu,Ap,Aq,AF,Yj] <;> omega) | assumption);let b:=x0r aA aG;(sl Zc 91 [] ⟨[0,5,2],[],Sb,Sj⟩ ⟨[],[.cells [.keep,.len b.length],.rowed 1 b.length (Zz b),.keep],[]⟩ [true] (pp a (pp a (pp (xS ((aA.length+1)+(Wg aG).length) (Yw (fun k=>(Zg (Zz aA) 0 aA.length 1 [(.int .u8 32)]) (0+k)) (aA.length+1) (Uk (Wg aG))) (Zz (x0r aA aG)) (by repeat' (first | exact Vd _ _ | assumption | exact Kt | exact Jt | rfl | (refine Gj ?_ ?_ rfl rfl rfl) | (refine Qv ?_ ?_ ?_ rfl) | exact Qu (Vd _ _) rfl | apply Ur | exact Io _ | exact Ak _ | (simp only [Xu,Ap,Aq,AF,Yj] <;> omega)))) (pp (pp (xF (Yw (fun k=>(Zg (Zz aA) 0 aA.length 1 [(.int .u8 32)]) (0+k)) (aA.length+1) (Uk (Wg aG)))) nn) (pp (pp (xw o3) (pp nn (xw o2))) (ww o1 (ww o0 nn))))))))))))
 | .h3 bV bU bW bX aA aG bQ bA aO aS aZ=>(lo fun o0=>(lo fun o1=>(lo fun o2=>(lo fun o3=>let a:=xL ((aA.length+1)+(Wg bQ).length) (x0q aA bQ).length (by first | exact Yc rfl | exact Yc (by simp only [Xu,Ap,Aq,AF,Yj] <;> omega) | assumption);let b:=x0q aA bQ;(sl Zc 91 [] ⟨[0,5,2],[],Sa,Si⟩ ⟨[],[.cells [.keep,.len b.length],.rowed 1 b.length (Zz b),.keep],[]⟩ [true] (pp a (pp a (pp (xS ((aA.length+1)+(Wg bQ).length) (Yw (fun k=>(Zg (Zz aA) 0 aA.length 1 [(.int .u8 32)]) (0+k)) (aA.length+1) (Uk (Wg bQ))) (Zz (x0q aA bQ)) (by repeat' (first | exact Vd _ _ | assumption | exact Kt | exact Jt | rfl | (refine Gj ?_ ?_ rfl rfl rfl) | (refine Qv ?_ ?_ ?_ rfl) | exact Qu (Vd _ _) rfl | apply Ur | exact Io _ | exact Ak _ | (simp only [Xu,Ap,Aq,AF,Yj] <;> omega)))) (pp (pp (xF (Yw (fun k=>(Zg (Zz aA) 0 aA.length 1 [(.int .u8 32)]) (0+k)) (aA.length+1) (Uk (Wg bQ)))) nn) (pp (pp (xw o3) (pp nn (xw o2))) (ww o1 (ww o0 nn))))))))))))
 | .h4 bV bU bW bX aA aG bQ bA aO aS aZ=>(lo fun o0=>(lo fun o1=>(lo fun o2=>(lo fun o3=>let a:=xL ((aA.length+1)+(Wg bA).length) (y2h aA bA).length (by first | exact Yc rfl | exact Yc (by simp only [Xu,Ap,Aq,AF,Yj] <;> omega) | assumption);let b:=y2h aA bA;(sl Zc 91 [] ⟨[0,5,2],[],S9,Sh⟩ ⟨[],[.cells [.keep,.len b.length],.rowed 1 b.length (Zz b),.keep],[]⟩ [true] (pp a (pp a (pp (xS ((aA.length+1)+(Wg bA).length) (Yw (fun k=>(Zg (Zz aA) 0 aA.length 1 [(.int .u8 32)]) (0+k)) (aA.length+1) (Uk (Wg bA))) (Zz (y2h aA bA)) (by repeat' (first | exact Vd _ _ | assumption | exact Kt | exact Jt | rfl | (refine Gj ?_ ?_ rfl rfl rfl) | (refine Qv ?_ ?_ ?_ rfl) | exact Qu (Vd _ _) rfl | apply Ur | exact Io _ | exact Ak _ | (simp only [Xu,Ap,Aq,AF,Yj] <;> omega)))) (pp (pp (xF (Yw (fun k=>(Zg (Zz aA) 0 aA.length 1 [(.int .u8 32)]) (0+k)) (aA.length+1) (Uk (Wg bA)))) nn) (pp (pp (xw o3) (pp nn (xw o2))) (ww o1 (ww o0 nn))))))))))))
 | .h5 bV bU bW bX aA aG bQ bA aO aS aZ=>(lo fun o0=>(lo fun o1=>(lo fun o2=>(lo fun o3=>let a:=xL ((aA.length+1)+(Wg aO).length) (y2g aA aO).length (by first | exact Yc rfl | exact Yc (by simp only [Xu,Ap,Aq,AF,Yj] <;> omega) | assumption);let b:=y2g aA aO;(sl Zc 91 [] ⟨[0,5,2],[],S8,Sg⟩ ⟨[],[.cells [.keep,.len b.length],.rowed 1 b.length (Zz b),.keep],[]⟩ [true] (pp a (pp a (pp (xS ((aA.length+1)+(Wg aO).length) (Yw (fun k=>(Zg (Zz aA) 0 aA.length 1 [(.int .u8 32)]) (0+k)) (aA.length+1) (Uk (Wg aO))) (Zz (y2g aA aO)) (by repeat' (first | exact Vd _ _ | assumption | exact Kt | exact Jt | rfl | (refine Gj ?_ ?_ rfl rfl rfl) | (refine Qv ?_ ?_ ?_ rfl) | exact Qu (Vd _ _) rfl | apply Ur | exact Io _ | exact Ak _ | (simp only [Xu,Ap,Aq,AF,Yj] <;> omega)))) (pp (pp (xF (Yw (fun k=>(Zg (Zz aA) 0 aA.length 1 [(.int .u8 32)]) (0+k)) (aA.length+1) (Uk (Wg aO)))) nn) (pp (pp (xw o3) (pp nn (xw o2))) (ww o1 (ww o0 nn))))))))))))
 | .h6 bV bU bW bX aA aG bQ bA aO aS aZ=>(lo fun o0=>(lo fun o1=>(lo fun o2=>(lo fun o3=>let a:=xL ((aA.length+1)+(Wg aS).length) (y2f aA aS).length (by first | exact Yc rfl | exact Yc (by simp only [Xu,Ap,Aq,AF,Yj] <;> omega) | assumption);let b:=y2f aA aS;(sl Zc 91 [] ⟨[0,5,2],[],S7,Sf⟩ ⟨[],[.cells [.keep,.len b.length],.rowed 1 b.length (Zz b),.keep],[]⟩ [true] (pp a (pp a (pp (xS ((aA.length+1)+(Wg aS).length) (Yw (fun k=>(Zg (Zz aA) 0 aA.length 1 [(.int .u8 32)]) (0+k)) (aA.length+1) (Uk (Wg aS))) (Zz (y2f aA aS)) (by repeat' (first | exact Vd _ _ | assumption | exact Kt | exact Jt | rfl | (refine Gj ?_ ?_ rfl rfl rfl) | (refine Qv ?_ ?_ ?_ rfl) | exact Qu (Vd _ _) rfl | apply Ur | exact Io _ | exact Ak _ | (simp only [Xu,Ap,Aq,AF,Yj] <;> omega)))) (pp (pp (xF (Yw (fun k=>(Zg (Zz aA) 0 aA.length 1 [(.int .u8 32)]) (0+k)) (aA.length+1) (Uk (Wg aS)))) nn) (pp (pp (xw o3) (pp nn (xw o2))) (ww o1 (ww o0 nn))))))))))))
 | .h7 bV bU bW bX aA aG bQ bA aO aS aZ=>(lo fun o0=>(lo fun o1=>(lo fun o2=>(lo fun o3=>let a:=xL ((aA.length+1)+(Wg aZ).length) (y2e aA aZ).length (by first | exact Yc rfl | exact Yc (by simp only [Xu,Ap,Aq,AF,Yj] <;> omega) | assumption);let b:=y2e aA aZ;(sl Zc 91 [] ⟨[0,5,2],[],S6,Se⟩ ⟨[],[.cells [.keep,.len b.length],.rowed 1 b.length (Zz b),.keep],[]⟩ [true] (pp a (pp a (pp (xS ((aA.length+1)+(Wg aZ).length) (Yw (fun k=>(Zg (Zz aA) 0 aA.length 1 [(.int .u8 32)]) (0+k)) (aA.length+1) (Uk (Wg aZ))) (Zz (y2e aA aZ)) (by repeat' (first | exact Vd _ _ | assumption | exact Kt | exact Jt | rfl | (refine Gj ?_ ?_ rfl rfl rfl) | (refine Qv ?_ ?_ ?_ rfl) | exact Qu (Vd _ _) rfl | apply Ur | exact Io _ | exact Ak _ | (simp only [Xu,Ap,Aq,AF,Yj] <;> omega)))) (pp (pp (xF (Yw (fun k=>(Zg (Zz aA) 0 aA.length 1 [(.int .u8 32)]) (0+k)) (aA.length+1) (Uk (Wg aZ)))) nn) (pp (pp (xw o3) (pp nn (xw o2))) (ww o1 (ww o0 nn))))))))))))
 | .h8 bV bU bW bX aA aG bQ bA aO aS aZ=>(lo fun o0=>let a:=xL (aA.length+1) (aA++[(yB 10)]).length;let b:=aA++[(yB 10)];(sl Zc 47 [] ⟨[0,4],[],JQ,JS⟩ ⟨[],[.cells [.keep,.len b.length],.rowed 1 b.length (Zz b)],[]⟩ [false] (pp a (pp a (pp (xS (aA.length+1) (Zg (Zz aA) 0 aA.length 1 [(.int .u8 10)]) (Zz (aA++[(yB 10)]))) (pp (pp (xF (Zg (Zz aA) 0 aA.length 1 [(.int .u8 10)])) nn) (ww o0 nn)))))))
theorem x8s (l0:zu):Wu prog (Zy prog 10) (Mn l0) (Zm prog 10 [(dt l0)] true []) (RF l0):=(lo fun cP=>let a:=pp (pp (xr l0) (xw cP)) nn;(lb (fun k0=>(lr 76 10 (pn 77) 1 10 [(2,(.str [])),(3,(ii (Kv (B6 l0))))] (sl Zc 24 [] (b8 [2,3]) b7 [true] (tt k0 a)))) (fun k0=>(sl Zc 32 [(5,1,Zz ([]:zo))] ⟨[0,1],[],JR,JT⟩ ⟨[],[.cells [.keep,.grow 1 1],.keep],[]⟩ [false] (pp (fl ([]:zo) nn) (tt k0 a))))))
theorem v8o (l0:zu) (n:Nat) (vs:zx) (h:Zt (Wh l0) n (RF l0)=.ret vs):Kw prog (Zy prog 10) (Zm prog 10 [(dt l0)] true []) vs:=by have:=Zb (w6y l0) n _ (x8s l0);rwa [h] at this
end
open Go.Shelf Go.RowKit
def DZ :zy:=[110,111,100,101,32]
def Gu (p:zy) (x:B8):zy:=DZ++p++(H4 [x.t,x.x,x.y,x.z]++[10])
def DS :zy:=[98,111,120]
def GB (r:R6):zy:=DS++(H4 [r.a,r.b,r.c,r.d,r.e,r.f]++[10])
def G1 :zt->zy
 | []=>[]
 | r::l=>GB r++G1 l
def O5 (l:zu) (i:Nat):zy:=Gu (Je l (i:Int)) (rd l i)++G1 (rd l i).s
def Fx (l:zu):Nat->Nat->zy
 | 0,_=>[]
 | k+1,i=>O5 l i++Fx l k (i+1)
def EH (l:zu):zy:=bif Kv l != 0 then [] else bif decide (60000<(Fx l l.length 0).length) then [] else Fx l l.length 0
def EI (l:zu):Int:=bif Kv l != 0 then Kv l else bif decide (60000<(Fx l l.length 0).length) then 4 else 0
def Jv (l:zu):Bool:=Xw l&&l.all fun x=>decide (0<=x.t)
structure EY (q:B8):Prop where
 t:0<=q.t/\q.t<24
 x: -1000000<=q.x/\q.x<=1000000
 y: -1000000<=q.y/\q.y<=1000000
 z: -1000000<=q.z/\q.z<=1000000
 len:q.s.length<=400
 box: ∀r∈q.s,(-1000000<=r.a/\r.a<=1000000)/\(-1000000<=r.b/\r.b<=1000000)/\(-1000000<=r.c/\r.c<=1000000)/\(-1000000<=r.d/\r.d<=1000000)/\(-1000000<=r.e/\r.e<=1000000)/\(-1000000<=r.f/\r.f<=1000000)
theorem w4j {L:zt} (h:Uw L=0):L.length<=400/\ ∀r∈L,D1 r=true:=by
 unfold Uw at h;by_cases g:400<L.length
 .rw [Aa g] at h;cases h
 .rw [Ah g,Ab] at h;cases hq:L.all D1 with
  | false=>rw [hq] at h;cases h
  | true=>exact ⟨by omega,fun r hr=>Ax.1 hq r hr⟩
theorem u8w {r:R6} (h:D1 r=true):(-1000000<=r.a/\r.a<=1000000)/\(-1000000<=r.b/\r.b<=1000000)/\(-1000000<=r.c/\r.c<=1000000)/\(-1000000<=r.d/\r.d<=1000000)/\(-1000000<=r.e/\r.e<=1000000)/\(-1000000<=r.f/\r.f<=1000000):=by
 simp only [D1,Ad,An] at h;obtain ⟨h1,h2,h3,h4,h5,h6,h7⟩:=h;have mn: ∀x y:Int,Cl x y<=x/\Cl x y<=y:=fun x y=>by unfold Cl;split <;> omega
 have mx: ∀x y:Int,x<=Ck x y/\y<=Ck x y:=fun x y=>by unfold Ck;split <;> omega
 have a1:=mn (Cl r.a r.b) r.c;have a2:=mn r.a r.b;have a3:=mx (Ck r.a r.b) r.c;have a4:=mx r.a r.b;have a5:=mn (Cl r.d r.e) r.f;have a6:=mn r.d r.e;have a7:=mx (Ck r.d r.e) r.f;have a8:=mx r.d r.e;omega
theorem w4g {l:zu} (h:Fu l=0) {x:B8} (hx:x∈l):Uw x.s=0:=by
 unfold Fu at h;cases hf:l.find? fun x=>Uw x.s != 0 with
 | none=>
  have:=List.find?_eq_none.1 hf x hx
  simpa using this
 | some y=>rw [hf] at h;have:=List.find?_some hf;rw [show Uw y.s=0 from h] at this;cases this
theorem u9r {l:zu} (ht:(l.all fun x=>decide (0<=x.t))=true) (h:Kv l=0) {i:Nat} (hi:i<l.length):EY (rd l i):=by
 obtain ⟨h1,h2,h3⟩:=WB (l:=l) (by rw [h];rfl);have hb:=h3 i hi;unfold Df at hb;rw [AT] at hb;obtain ⟨_,_,_,hk⟩:=RY hb.1;have hs:=w4j (w4g h2 (x:=rd l i) (by rw [Wv hi];exact AL hi));unfold Fk at hk;cases g:decide (24<=(rd l i).t) with
 | true=>rw [g] at hk;cases hk
 | false=>
  have h0:0<=(rd l i).t :=j1s ht i;have h24:(rd l i).t <24:=by have:=of_decide_eq_false g;omega
  rw [g,Ab] at hk;cases g2:Ql (rd l i).x (rd l i).y (rd l i).z with
  | false=>rw [g2] at hk;cases hk
  | true=>obtain ⟨k1,k2,k3⟩:=(w2f _ _ _).1 g2;refine ⟨⟨h0,h24⟩,k1,k2,k3,hs.1,fun r hr=> ?_⟩;exact u8w (hs.2 r hr)
theorem x4b {x:B8} (h:EY x) {r:R6} (hr:r∈x.s):(GB r).length <=200:=by obtain ⟨h1,h2,h3,h4,h5,h6⟩:=h.box r hr;have a1:=Qb h1;have a2:=Qb h2;have a3:=Qb h3;have a4:=Qb h4;have a5:=Qb h5;have a6:=Qb h6;simp only [GB,DS,H4,Ap,Aq,AF];omega
theorem x1w {x:B8} (h:EY x): ∀l:zt,(∀r∈l,r∈x.s)->(G1 l).length <=200*l.length
 | [],_=>AH _
 | r::l,hl=>by have:=x4b h (hl r Bh);have:=x1w h l fun q hq=>hl q (A5 _ hq);simp only [G1,Ap,Aq];omega
theorem x3j {p:zy} {x:B8} (h:EY x) (hp:p.length<=1000000):(Gu p x).length <=1001000:=by have a1:=Qb (n:=x.t) (by have:=h.t;omega);have a2:=Qb h.x;have a3:=Qb h.y;have a4:=Qb h.z;simp only [Gu,DZ,H4,Ap,Aq,AF];omega
theorem w4r {l:zu} {i:Nat} (h:EY (rd l i)) (hp:(Je l (i:Int)).length <=1000000):(O5 l i).length <=1100000:=by have h1:=x3j h hp;have h2:=x1w h (rd l i).s fun _ hr=>hr;have h3:=h.len;simp only [O5,Ap];omega
theorem j0a {l:zu} {i j:Nat} {acc:zy} (hi:i<l.length) (h:EY (rd l i)) (hj:j<(rd l i).s.length) (ha:acc.length<=1000000000) (hl:l.length<=1000):
  Qj l (.h1 acc (i:Int) (j:Int))=.to (.h1 (acc++GB (rd (rd l i).s j)) (i:Int) ((j+1:Nat):Int)):=by
 have eC:=h.len;have w1:wrap .i64 ((j:Int)+1)=((j+1:Nat):Int):=Zq (by omega);obtain ⟨h1,h2,h3,h4,h5,h6⟩:=h.box (rd (rd l i).s j) (by rw [Wv hj];exact AL hj);obtain ⟨o1,d1,e1,q1,l1⟩:=G2 h1;obtain ⟨o2,d2,e2,q2,l2⟩:=G2 h2;obtain ⟨o3,d3,e3,q3,l3⟩:=G2 h3;obtain ⟨o4,d4,e4,q4,l4⟩:=G2 h4;obtain ⟨o5,d5,e5,q5,l5⟩:=G2 h5;obtain ⟨o6,d6,e6,q6,l6⟩:=G2 h6;have eq:GB (rd (rd l i).s j)=98::111::120::32::(d1++32::(d2++32::(d3++32::(d4++32::(d5++32::(d6++[10])))))):=by simp [GB,DS,H4,q1,q2,q3,q4,q5,q6]
 rw [eq];unfold Qj;simp only [Zj,w1,o1,o2,o3,o4,o5,o6,e1,e2,e3,e4,e5,e6,Ar,Af];rw [Zu (Yx (by omega)),Zu (Ym (by omega))];repeat (first | rw [Zu (Gl (by simp only [Ap,Aq,AF];omega))] | rw [Zu (Yx (by omega))])
 simp only [AI,Bl,Bd]
theorem x5j {l:zu} {i:Nat} (hi:i<l.length) (h:EY (rd l i)) (hl:l.length<=1000): ∀(k j:Nat) (acc:zy),j+k=(rd l i).s.length ->acc.length+200*k<=1000000000-> ∀N,
  Zt (Qj l) (N+(k+1)) (.to (.h1 acc (i:Int) (j:Int)))=Zt (Qj l) N (.to (.h0 (acc++G1 ((rd l i).s.drop j)) ((i+1:Nat):Int)))
 | 0,j,acc,hk,ha,N=>by
  have w1:wrap .i64 ((i:Int)+1)=((i+1:Nat):Int):=Zq (by omega);have e:Qj l (.h1 acc (i:Int) (j:Int))=.to (.h0 acc ((i+1:Nat):Int)):=by unfold Qj;simp only [Zj,w1,Ar];rw [Zu (Yx (by omega)),Yo (by omega),Ab]
  rw [Zx,e,Av (by omega)];simp only [G1,AO]
 | k+1,j,acc,hk,ha,N=>by
  have hj:j<(rd l i).s.length :=by omega
  have hb:=x4b h (r:=rd (rd l i).s j) (by rw [Wv hj];exact AL hj);rw [show N+(k+1+1)=(N+(k+1))+1 from rfl,Zx,j0a hi h hj (by omega) hl,x5j hi h hl k (j+1) _ (by omega) (by rw [Ap];omega) N,Yt hj];simp only [G1,AI]
theorem u9z {l:zu} {i:Nat} {acc:zy} (hi:i<l.length) (h:EY (rd l i)) (ho:Vz l (i:Int)=true) (ha:acc.length<=1000000000):
  Qj l (.h0 acc (i:Int))=.to (.h1 (acc++Gu (Je l (i:Int)) (rd l i)) (i:Int) 0):=by
 have hp:=MK ho;have ht:=h.t;have wt:wrap .i64 (rd l i).t =(rd l i).t :=Zq (by omega);obtain ⟨o1,d1,e1,q1,l1⟩:=G2 (n:=(rd l i).t) (by omega);obtain ⟨o2,d2,e2,q2,l2⟩:=G2 h.x;obtain ⟨o3,d3,e3,q3,l3⟩:=G2 h.y;obtain ⟨o4,d4,e4,q4,l4⟩:=G2 h.z;have eq:Gu (Je l (i:Int)) (rd l i)=110::111::100::101::32::(Je l (i:Int)++32::(d1++32::(d2++32::(d3++32::(d4++[10]))))):=by simp [Gu,DZ,H4,q1,q2,q3,q4]
 rw [eq];unfold Qj;simp only [Zj,Yb,wt,o1,o2,o3,o4,e1,e2,e3,e4,ho,Ar,Af];rw [Zu (Ym (by omega))];repeat (first | rw [Zu (Gl (by simp only [Ap,Aq,AF];omega))] | rw [Zu (Yx (by omega))])
 simp only [AI,Bl,Bd]
def FC (t:zy):zx:=[.str (bif decide (60000<t.length) then [] else t),.int .i64 (bif decide (60000<t.length) then 4 else 0)]
theorem u5m {l:zu} (hl:l.length<=200) (h: ∀i,i<l.length->EY (rd l i)/\Vz l (i:Int)=true): ∀(k i:Nat) (acc:zy),i+k=l.length->acc.length<=1100000*i->
  ∃N,Zt (Qj l) N (.to (.h0 acc (i:Int)))=.ret (FC (acc++Fx l k i))
 | 0,i,acc,hk,ha=>by
  refine ⟨1,?_⟩;have e:Qj l (.h0 acc (i:Int))=bif decide ((acc.length:Int)>60000) then .ret [.str [],.int .i64 4] else .ret [.str acc,.int .i64 0]:=by unfold Qj;simp (disch:=omega) only [Yo,Ab]
  rw [Zx,e];simp only [Fx,AO,FC];by_cases g:60000<acc.length
  .rw [Aa g,Aa (show (acc.length:Int)>60000 by omega)];rfl
  .rw [Ah g,Ah (show ¬(acc.length:Int)>60000 by omega)];rfl
 | k+1,i,acc,hk,ha=>by
  have hi:i<l.length:=by omega
  obtain ⟨h1,h2⟩:=h i hi;have hp:=MK h2;have hr:=w4r h1 hp;have hn:=x3j h1 hp;have hs:=h1.len;obtain ⟨N,hN⟩:=u5m hl h k (i+1) (acc++O5 l i) (by omega) (by rw [Ap];omega);refine ⟨N+((rd l i).s.length +1)+1,?_⟩;rw [Zx,u9z hi h1 h2 (by omega)];show Zt _ _ (.to (FH.h1 _ (i:Int) ((0:Nat):Int)))=_;rw [x5j hi h1 (by omega) (rd l i).s.length 0 _ (Ak _) (by rw [Ap];omega) N,AM,AI];show Zt _ N (.to (FH.h0 (acc++O5 l i) _))=_;rw [hN,Fx,AI]
theorem v2o {l:zu} (ho:Jv l=true) (h:Kv l=0):l.length<=200/\ ∀i,i<l.length->EY (rd l i)/\Vz l (i:Int)=true:=by
 have hf:(Kv l != 0)=false:=by rw [h];rfl
 have h1:=(WB hf).1;unfold Jv at ho;rw [Ad] at ho;exact ⟨h1,fun i hi=>⟨u9r ho.2 h hi,x2z ho.1 (by omega) hi (u9q hf hi)⟩⟩
theorem v2a {l:zu} (h:Kv l=0):FC (Fx l l.length 0)=[.str (EH l),.int .i64 (EI l)]:=by unfold FC EH EI;rw [Qo h,Ab,Ab]
theorem u9y (l:zu) (ho:Jv l=true): ∃N,Zt (Qj l) N (RE l)=.ret [.str (EH l),.int .i64 (EI l)]:=by
 have e:RE l=bif (Kv l != 0) then .ret [.str [],.int .i64 (Kv l)] else .to (.h0 [] 0):=by unfold RE;rw [Yb,Zu (show Xw l=true by unfold Jv at ho;rw [Ad] at ho;exact ho.1)]
 rw [e];by_cases h:Kv l=0
 .obtain ⟨h1,h2⟩:=v2o ho h;obtain ⟨N,hN⟩:=u5m h1 h2 l.length 0 [] (Ak _) (AH _);refine ⟨N,?_⟩;rw [Qo h,Ab,<-v2a h];exact hN
 .unfold EH EI;rw [Qm h,Af,Af,Af];exact ⟨0,rfl⟩
theorem u9a {l:zu} {i m:Int} {bs:zt} {j:Nat} {s:zy} {x:B8} (h:EY x) (hb:rd bs j∈x.s) (hj:j<bs.length) (hm:m=(bs.length:Int)) (hl:bs.length<=400) (ha:s.length<=1000000000) (N:Nat):
  Zt (Wh l) (N+8) (.to (.h1 i bs m (j:Int) (CJ s)))=Zt (Wh l) N (.to (.h1 i bs m ((j+1:Nat):Int) (CJ (s++GB (rd bs j))))):=by
 obtain ⟨h1,h2,h3,h4,h5,h6⟩:=h.box _ hb;have w1:wrap .i64 ((j:Int)+1)=((j+1:Nat):Int):=Zq (by omega);have p0: ∀t:zo,Vy t 0 t.length=t:=fun t=>by rw [x3g (show 0+t.length<=t.length by omega),AM];exact List.take_length
 have ex: ∀(n:Int),(-1000000<=n/\n<=1000000)-> ∀(t:zo),t.length<=1000100000->(Nat.beq 1 1&&((decide (0+t.length=t.length))&&decide ((t.length+1+1)*(1+1)<=Vw)))=true/\Yd n=true/\decide (((t.length+1)+(Wg n).length +1)*(1+1)<=Vw)=true/\(Nat.beq 1 1&&(Nat.beq 1 1&&decide (0+(t.length+1)<=(t.length+1))))=true:=fun n hn t ht=>by have hl:(Wg n).length <=21:=Qb hn;exact ⟨HB (by omega),Aa (by omega),Fp (by omega),by simp⟩
 have e1: ∀(t:zo),t.length<=1000100000->Wh l (.h1 i bs m (j:Int) t)=.to (.h2 i bs m (j:Int) (t++CJ [98,111,120]) (rd bs j).a (rd bs j).b (rd bs j).c (rd bs j).d (rd bs j).e (rd bs j).f):=fun t ht=>by unfold Wh;simp only [Zj,p0];rw [Zu (Ym (by omega)),Zu (BM.2 ⟨Yx (by omega),rfl⟩),Zu (Fp (by omega)),Zu (by simp)]
 have e2: ∀(t:zo) (a b c d e f:Int),t.length<=1000100000->(-1000000<=a/\a<=1000000)->Wh l (.h2 i bs m (j:Int) t a b c d e f)=.to (.h3 i bs m (j:Int) ((t++[yB 32])++CJ (Wg a)) a b c d e f):=fun t a b c d e f ht ha=>by obtain ⟨c1,c2,c3,c4⟩:=ex a ha t ht;unfold Wh;simp only [];rw [Zu c1,Zu c2,Zu c3,Zu c4]
 have e3: ∀(t:zo) (a b c d e f:Int),t.length<=1000100000->(-1000000<=b/\b<=1000000)->Wh l (.h3 i bs m (j:Int) t a b c d e f)=.to (.h4 i bs m (j:Int) ((t++[yB 32])++CJ (Wg b)) a b c d e f):=fun t a b c d e f ht ha=>by obtain ⟨c1,c2,c3,c4⟩:=ex b ha t ht;unfold Wh;simp only [];rw [Zu c1,Zu c2,Zu c3,Zu c4]
 have e4: ∀(t:zo) (a b c d e f:Int),t.length<=1000100000->(-1000000<=c/\c<=1000000)->Wh l (.h4 i bs m (j:Int) t a b c d e f)=.to (.h5 i bs m (j:Int) ((t++[yB 32])++CJ (Wg c)) a b c d e f):=fun t a b c d e f ht ha=>by obtain ⟨c1,c2,c3,c4⟩:=ex c ha t ht;unfold Wh;simp only [];rw [Zu c1,Zu c2,Zu c3,Zu c4]
 have e5: ∀(t:zo) (a b c d e f:Int),t.length<=1000100000->(-1000000<=d/\d<=1000000)->Wh l (.h5 i bs m (j:Int) t a b c d e f)=.to (.h6 i bs m (j:Int) ((t++[yB 32])++CJ (Wg d)) a b c d e f):=fun t a b c d e f ht ha=>by obtain ⟨c1,c2,c3,c4⟩:=ex d ha t ht;unfold Wh;simp only [];rw [Zu c1,Zu c2,Zu c3,Zu c4]
 have e6: ∀(t:zo) (a b c d e f:Int),t.length<=1000100000->(-1000000<=e/\e<=1000000)->Wh l (.h6 i bs m (j:Int) t a b c d e f)=.to (.h7 i bs m (j:Int) ((t++[yB 32])++CJ (Wg e)) a b c d e f):=fun t a b c d e f ht ha=>by obtain ⟨c1,c2,c3,c4⟩:=ex e ha t ht;unfold Wh;simp only [];rw [Zu c1,Zu c2,Zu c3,Zu c4]
 have e7: ∀(t:zo) (a b c d e f:Int),t.length<=1000100000->(-1000000<=f/\f<=1000000)->Wh l (.h7 i bs m (j:Int) t a b c d e f)=.to (.h8 i bs m (j:Int) ((t++[yB 32])++CJ (Wg f)) a b c d e f):=fun t a b c d e f ht ha=>by obtain ⟨c1,c2,c3,c4⟩:=ex f ha t ht;unfold Wh;simp only [];rw [Zu c1,Zu c2,Zu c3,Zu c4]
 have e8: ∀(t:zo) (a b c d e f:Int),t.length<=1000100000->Wh l (.h8 i bs m (j:Int) t a b c d e f)=.to (.h1 i bs m ((j+1:Nat):Int) (t++[yB 10])):=fun t a b c d e f ht=>by obtain ⟨c1,_⟩:=ex 0 (by omega) t ht;unfold Wh;simp only [w1];rw [Zu c1]
 have len: ∀(t:zo) (n:Int),(-1000000<=n/\n<=1000000)->((t++[yB 32])++CJ (Wg n)).length <=t.length+22:=fun t n hn=>by have hl:(Wg n).length <=21:=Qb hn;rw [Ap,Ap,j6f,AE];omega
 have fin:((((((((((((((CJ s++CJ [98,111,120])++[yB 32])++CJ (Wg (rd bs j).a))++[yB 32])++CJ (Wg (rd bs j).b))++[yB 32])++CJ (Wg (rd bs j).c))++[yB 32])++CJ (Wg (rd bs j).d))++[yB 32])++CJ (Wg (rd bs j).e))++[yB 32])++CJ (Wg (rd bs j).f))++[yB 10])=CJ (s++GB (rd bs j)):=by show ((((((((((((((s++[98,111,120])++[32])++itoa (rd bs j).a)++[32])++itoa (rd bs j).b)++[32])++itoa (rd bs j).c)++[32])++itoa (rd bs j).d)++[32])++itoa (rd bs j).e)++[32])++itoa (rd bs j).f)++[10]:zy)=s++GB (rd bs j);simp [GB,DS,H4]
 have hs:(CJ s).length <=1000000000:=ha;generalize hq:CJ (s++GB (rd bs j))=q at fin ⊢;generalize CJ s=t0 at fin hs ⊢;rw [Zx,e1 t0 (by omega)];have b0:(t0++CJ [98,111,120]).length <=1000000003:=by rw [Ap];show _+3<=_;omega
 generalize t0++CJ [98,111,120]=t1 at fin b0 ⊢;rw [Zx,e2 t1 _ _ _ _ _ _ (by omega) h1];have b1:=len t1 (rd bs j).a h1;generalize ((t1++[yB 32])++CJ (Wg (rd bs j).a))=t2 at fin b1 ⊢;rw [Zx,e3 t2 _ _ _ _ _ _ (by omega) h2];have b2:=len t2 (rd bs j).b h2;generalize ((t2++[yB 32])++CJ (Wg (rd bs j).b))=t3 at fin b2 ⊢;rw [Zx,e4 t3 _ _ _ _ _ _ (by omega) h3];have b3:=len t3 (rd bs j).c h3;generalize ((t3++[yB 32])++CJ (Wg (rd bs j).c))=t4 at fin b3 ⊢;rw [Zx,e5 t4 _ _ _ _ _ _ (by omega) h4];have b4:=len t4 (rd bs j).d h4;generalize ((t4++[yB 32])++CJ (Wg (rd bs j).d))=t5 at fin b4 ⊢;rw [Zx,e6 t5 _ _ _ _ _ _ (by omega) h5];have b5:=len t5 (rd bs j).e h5;generalize ((t5++[yB 32])++CJ (Wg (rd bs j).e))=t6 at fin b5 ⊢;rw [Zx,e7 t6 _ _ _ _ _ _ (by omega) h6];have b6:=len t6 (rd bs j).f h6;generalize ((t6++[yB 32])++CJ (Wg (rd bs j).f))=t7 at fin b6 ⊢;rw [Zx,e8 t7 _ _ _ _ _ _ (by omega),fin]
theorem x4v {l:zu} {i:Nat} (hi:i<l.length) (hl:l.length<=1000) {x:B8} (h:EY x): ∀(k j:Nat) (acc:zy),j+k=x.s.length->acc.length+200*k<=1000000000-> ∀N,
  Zt (Wh l) (N+(8*k+1)) (.to (.h1 (i:Int) x.s ((x.s.length:Nat):Int) (j:Int) (CJ acc)))=Zt (Wh l) N (.to (.h0 ((i+1:Nat):Int) (CJ (acc++G1 (x.s.drop j)))))
 | 0,j,acc,hk,ha,N=>by
  have w1:wrap .i64 ((i:Int)+1)=((i+1:Nat):Int):=Zq (by omega);have e:Wh l (.h1 (i:Int) x.s ((x.s.length:Nat):Int) (j:Int) (CJ acc))=.to (.h0 ((i+1:Nat):Int) (CJ acc)):=by unfold Wh;simp only [w1];rw [Yo (by omega),Ab]
  rw [Zx,e,Av (by omega)];simp only [G1,AO]
 | k+1,j,acc,hk,ha,N=>by
  have hj:j<x.s.length:=by omega
  have hm:rd x.s j∈x.s:=by rw [Wv hj];exact AL hj
  have hb:=x4b h hm;have hl4:=h.len;rw [show N+(8*(k+1)+1)=(N+(8*k+1))+8 by omega,u9a h hm hj rfl hl4 (by omega),x4v hi hl h k (j+1) _ (by omega) (by rw [Ap];omega) N,Yt hj];simp only [G1,AI]
theorem u8z {l:zu} {i:Nat} {s:zy} (hi:i<l.length) (h:EY (rd l i)) (ho:Vz l (i:Int)=true) (ha:s.length<=1000000000):
  Wh l (.h0 (i:Int) (CJ s))=.to (.h1 (i:Int) (rd l i).s (((rd l i).s.length :Nat):Int) 0 (CJ (s++Gu (Je l (i:Int)) (rd l i)))):=by
 have hp:=MK ho;have ht:=h.t;have wt:wrap .i64 (rd l i).t =(rd l i).t :=Zq (by omega);obtain ⟨o1,d1,e1,q1,l1⟩:=XL (n:=(rd l i).t) (by omega);obtain ⟨o2,d2,e2,q2,l2⟩:=XL h.x;obtain ⟨o3,d3,e3,q3,l3⟩:=XL h.y;obtain ⟨o4,d4,e4,q4,l4⟩:=XL h.z;have fin:((((((((((CJ s++(CJ (([110,111,100,101,32]:zy)++Je l (i:Int))))++([yB 32]:zo))++CJ d1)++([yB 32]:zo))++CJ d2)++([yB 32]:zo))++CJ d3)++([yB 32]:zo))++CJ d4)++([yB 10]:zo))=CJ (s++Gu (Je l (i:Int)) (rd l i)):=by show ((((((((((s++(([110,111,100,101,32]:zy)++Je l (i:Int)))++([32]:zy))++d1)++([32]:zy))++d2)++([32]:zy))++d3)++([32]:zy))++d4)++([10]:zy))=s++Gu (Je l (i:Int)) (rd l i);simp [Gu,DZ,H4,q1,q2,q3,q4]
 have hs:(CJ s).length <=1000000000:=ha;have hq:(([110,111,100,101,32]:zy)++Je l (i:Int)).length <=1000005:=by rw [Ap];show 5+_<=_;omega
 have ok:Ca ([110,111,100,101,32]:zy) (Je l (i:Int))=true:=Gl (by show 5+_<=_;omega);rw [<-fin];generalize CJ s=t0 at hs ⊢;unfold Wh;simp only [Zj,Yb,wt,o1,o2,o3,o4,e1,e2,e3,e4,ho,ok,Ar,Af];generalize (([110,111,100,101,32]:zy)++Je l (i:Int))=q at hq ⊢;rw [Zu (Ym (by omega)),Zu (Yx (by omega))];repeat (first | rw [Zu (HB (by omega))] | rw [Zu (Fp (by omega))] | rw [Zu (by simp)])
theorem u4s {l:zu} (hl:l.length<=200) (h: ∀i,i<l.length->EY (rd l i)/\Vz l (i:Int)=true): ∀(k i:Nat) (acc:zy),i+k=l.length->acc.length<=1100000*i->
  ∃N,Zt (Wh l) N (.to (.h0 (i:Int) (CJ acc)))=.ret (FC (acc++Fx l k i))
 | 0,i,acc,hk,ha=>by
  refine ⟨1,?_⟩;have e:Wh l (.h0 (i:Int) (CJ acc))=bif decide ((acc.length:Int)>60000) then .ret [.str [],.int .i64 4] else .ret [.str acc,.int .i64 0]:=by
   unfold Wh;simp (disch:=omega) only [Yo,Ab];have es:Fa (CJ acc).length (fun k=>Zz (CJ acc) (0+k))=acc:=x8v (CJ acc) acc.length rfl;have hb:(CJ acc).length =acc.length:=rfl;rw [es,hb];by_cases g:60000<acc.length
   .rw [Aa (show (acc.length:Int)>60000 by omega)];rfl
   .rw [Ah (show ¬(acc.length:Int)>60000 by omega),Ab,Ab,Zu (Aa (by omega)),Zu (Su (by omega))]
  rw [Zx,e];simp only [Fx,AO,FC];by_cases g:60000<acc.length
  .rw [Aa g,Aa (show (acc.length:Int)>60000 by omega)];rfl
  .rw [Ah g,Ah (show ¬(acc.length:Int)>60000 by omega)];rfl
 | k+1,i,acc,hk,ha=>by
  have hi:i<l.length:=by omega
  obtain ⟨h1,h2⟩:=h i hi;have hp:=MK h2;have hr:=w4r h1 hp;have hn:=x3j h1 hp;have hs:=h1.len;obtain ⟨N,hN⟩:=u4s hl h k (i+1) (acc++O5 l i) (by omega) (by rw [Ap];omega);refine ⟨N+(8*(rd l i).s.length +1)+1,?_⟩;rw [Zx,u8z hi h1 h2 (by omega)];show Zt _ _ (.to (FB.h1 (i:Int) _ _ ((0:Nat):Int) _))=_;rw [x4v hi (by omega) h1 (rd l i).s.length 0 _ (Ak _) (by rw [Ap];omega) N,AM,AI];show Zt _ N (.to (FB.h0 _ (CJ (acc++O5 l i))))=_;rw [hN,Fx,AI]
theorem u8y (l:zu) (ho:Jv l=true): ∃N,Zt (Wh l) N (RF l)=.ret [.str (EH l),.int .i64 (EI l)]:=by
 have e:RF l=bif (Kv l != 0) then .ret [.str [],.int .i64 (Kv l)] else .to (.h0 0 (CJ [])):=by unfold RF;rw [Yb,Zu (show Xw l=true by unfold Jv at ho;rw [Ad] at ho;exact ho.1)];rfl
 rw [e];by_cases h:Kv l=0
 .obtain ⟨h1,h2⟩:=v2o ho h;obtain ⟨N,hN⟩:=u4s h1 h2 l.length 0 [] (Ak _) (AH _);refine ⟨N,?_⟩;rw [Qo h,Ab,<-v2a h];exact hN
 .unfold EH EI;rw [Qm h,Af,Af,Af];exact ⟨0,rfl⟩
def FQ :zx->Option (B5×Bool)
 | [a0]=>match C5 B8 a0 with
  | some (L,g,n)=>some (.tup [.str (EH L),.int .i64 (EI L)],CV B8 n g&&Jv L)
  | _=>none
 | _=>none
theorem j3y {S:B7} (hS:Zv prog S):Zv prog (S.with Sd FQ):=CU hS (by kernel_rfl) fun args v h=>by
 unfold FQ at h;split at h
 .rename_i a0;split at h
  .rename_i L g n e0;simp only [Ae,Ac,Ad] at h;obtain ⟨rfl,ho0,hw⟩:=h;obtain ⟨N,hN⟩:=u8y L hw;exact ⟨_,_,(.cons (Xd e0 ho0) .nil),rfl,v8o L N _ hN,5,rfl⟩
  .cases h
 .cases h
theorem j4g {S:B7} (hS:Zv prog S):Zv prog (S.with Sv FQ):=CU hS (by kernel_rfl) fun args v h=>by
 unfold FQ at h;split at h
 .rename_i a0;split at h
  .rename_i L g n e0;simp only [Ae,Ac,Ad] at h;obtain ⟨rfl,ho0,hw⟩:=h;obtain ⟨N,hN⟩:=u9y L hw;exact ⟨_,_,(.cons (Xd e0 ho0) .nil),rfl,v9j L N _ hN,5,rfl⟩
  .cases h
 .cases h
def SY :B7:=SX.with Sd FQ
theorem UQ :Zv prog SY:=j3y Zc
end Go.Am
end
