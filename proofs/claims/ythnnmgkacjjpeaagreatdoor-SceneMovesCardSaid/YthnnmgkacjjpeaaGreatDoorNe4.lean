/- A part of a proof: several texts in one. -/
import Derived.Test.YthnnmgkacjjpeaaGreatDoorNe3
import Derived.Lib.SplitLaws
import Derived.Lib.ItoaLen
import Derived.Lib.AtoiAll
set_option maxRecDepth 1000000
set_option maxHeartbeats 8000000
set_option linter.unusedVariables false
set_option linter.unusedSimpArgs false
noncomputable section
namespace Go.Am
open IntKind (wrap)
open Go.Lib
def Cg (b:UInt8):zw->zw->List zw
 | cur,[]=>[cur]
 | cur,x::r=>bif x == b then cur::Cg b [] r else Cg b (cur++[x]) r
theorem y2p (b:UInt8): ∀(s cur:zw),Cg b cur s=match Cg b [] s with
  | []=>[]
  | p::l=>(cur++p)::l
 | [],cur=>by simp [Cg]
 | x::r,cur=>by
  unfold Cg;cases x == b with
  | true=>simp
  | false=>
   rw [Aa,Aa,y2p b r (cur++[x]),y2p b r ([]++[x])];cases Cg b [] r with
   | nil=>rfl
   | cons p l=>simp
theorem y2o (b:UInt8): ∀(s cur p:zw),p∈Cg b cur s->p.length<=cur.length+s.length
 | [],cur,p,h=>by simp [Cg] at h;subst h;simp
 | x::r,cur,p,h=>by
  rw [Cg] at h;cases hx:x == b with
  | true=>
   rw [hx,Ab] at h;rcases AN.1 h with rfl | h
   .simp
   .have:=y2o b r [] p h;simp at this ⊢;omega
  | false=>rw [hx,Aa] at h;have:=y2o b r _ p h;simp at this ⊢;omega
theorem Nj {a:Nat} (h:a<=1099511627776):decide (a<=Vg)=true:=Af h
theorem Y0 {z n m:Nat} (h:(n+1+1)*(m+1)<=1099511627776):(Nat.beq z z&&((decide (0+n=n))&&decide ((n+1+1)*(m+1)<=Vg)))=true:=by rw [Ac,Ac];exact ⟨BR z,Af (Ah n),Nj h⟩
open Go.Proofs.Tryz
open Go.Proofs Go.Sort
def Ci (s sep:zw):Int:=Lib.indexByte s (sep.headD 0)
def y7p (s sep:zw):Bool:=Nat.beq sep.length 1
def Ie :zy->Option (CA×Bool)
 | [.str s,.str sep]=>some (.int .i64 (Ci s sep),y7p s sep)
 | _=>none
theorem w5x {sep:zw} (h:Nat.beq sep.length 1=true):sep=[sep.headD 0]:=by
 have h1:=Ai h
 match sep,h1 with
 | [b],_=>rfl
theorem v8m {S:CC} (hS:Zu prog S):Zu prog (S.with Ol Ie):=JG hS (by kernel_rfl) (SZ fun args v hv H vals w eN hH hG=>by
 unfold Ie at hv;split at hv
 .rename_i s sep;simp only [Ae,Ad] at hv;obtain ⟨rfl,ho⟩:=hv;have hs:=w5x ho;obtain rfl:vals= #[.string ⟨s.toArray⟩,.string ⟨sep.toArray⟩]:=by
   obtain ⟨vl⟩:=vals;cases eN with
   | cons h1 h2=>cases h2 with
    | cons h2 h3=>cases h3;cases h1;cases h2;rfl
  rw [hs];refine (Any.stringslite_Index_one Tryz.lays219 ⟨s.toArray⟩ (sep.headD 0) w).mono fun e w' ⟨he,hw⟩=>⟨_,he,.int _ _,?_⟩
  subst hw;exact RowKit.Below.refl _ _
 .cases hv)
def Pw (s sep:zw):Int:=((Lib.countByte s (sep.headD 0):Nat):Int)
def y8f (s sep:zw):Bool:=Nat.beq sep.length 1
def Ih :zy->Option (CA×Bool)
 | [.str s,.str sep]=>some (.int .i64 (Pw s sep),y8f s sep)
 | _=>none
theorem v8r {S:CC} (hS:Zu prog S):Zu prog (S.with Px Ih):=JG hS (by kernel_rfl) (SZ fun args v hv H vals w eN hH hG=>by
 unfold Ih at hv;split at hv
 .rename_i s sep;simp only [Ae,Ad] at hv;obtain ⟨rfl,ho⟩:=hv;have hs:=w5x ho;obtain rfl:vals= #[.string ⟨s.toArray⟩,.string ⟨sep.toArray⟩]:=by
   obtain ⟨vl⟩:=vals;cases eN with
   | cons h1 h2=>cases h2 with
    | cons h2 h3=>cases h3;cases h1;cases h2;rfl
  rw [hs];refine (Any.strings_Count_one Tryz.lays138 ⟨s.toArray⟩ (sep.headD 0) w).mono fun e w' ⟨he,hw⟩=>⟨_,he,.int _ _,?_⟩
  subst hw;exact RowKit.Below.refl _ _
 .cases hv)
def Lt (L:List zw) (sep:zw):zw:=Lib.join L sep
def Me (L:List zw) (sep:zw):Bool:=decide (L.length<=1000000)&&decide ((Lt L sep).length <=1000000)
def Fd :zy->Option (CA×Bool)
 | [a0,.str sep]=>match C4 zw a0 with
  | some (L,g,n)=>some (.str (Lt L sep),CU zw n g&&Me L sep)
  | _=>none
 | _=>none
theorem v8l {S:CC} (hS:Zu prog S):Zu prog (S.with F7 Fd):=JG hS (by kernel_rfl) (SZ fun args v hv H vals w eN hH hG=>by
 unfold Fd at hv;split at hv
 .rename_i a0 sep;split at hv
  .rename_i L g n e0;simp only [Ae,Ad,Ac] at hv;obtain ⟨rfl,ht,ho⟩:=hv;unfold Me at ho;rw [Ac,Ao,Ao] at ho;obtain ⟨v0,rfl,eI⟩: ∃v0,vals= #[v0,.string ⟨sep.toArray⟩]/\VRel (rhoOf H) (.dat L.length (Zz L)) v0:=by
    obtain ⟨vl⟩:=vals;cases eN with
    | cons h1 h2=>cases h2 with
     | cons h2 h3=>cases h3;cases h2;exact ⟨_,rfl,(Xy e0 ht).sound h1⟩
   have hmap:(L.map fun s=>(⟨s.toArray⟩:ByteArray)).map (·.data.toList)=L:=by rw [BW];exact (BZ fun s _=>rfl).trans (List.map_id L)
   have hlenm:(L.map fun s=>(⟨s.toArray⟩:ByteArray)).length =L.length:=B3 _;have none: ∀(a:Option Addr) (c:Nat),L.length=0->Calls prog F7 #[.slice a 0 c,.string ⟨sep.toArray⟩] w fun e w'=> ∃u,e=.returned u/\VRel (rhoOf H) (.str (Lt L sep)) u/\RowKit.Below w.heap.size w w':=fun a c h0=>by
    obtain rfl:=BN h0;refine (Any.strings_Join_none Tryz.lays156 Tryz.Builder_Extra_156 a c ⟨sep.toArray⟩ w).mono fun e w' ⟨he,hw⟩=>⟨_,he,?_,?_⟩
    .exact .str _
    .subst hw;exact RowKit.Below.refl _ _
   generalize hn:L.length=m at eI;cases eI with
   | datn=>exact none _ _ hn
   | datz _ a c=>exact none _ _ hn
   | dat _ _ blk base sz cap val eT hsz hv hh=>
    by_cases h0:L.length=0
    .rw [<-hn,h0];exact none _ _ h0
    have fR: ∀i,(hi:i<L.length)->Zz L i=[.str L[i]]:=fun i hi=>by show Xp.cells (rd L i)=_;rw [Xm hi];rfl
    have hsz1:sz=1:=by have:=hsz 0 (by omega);rw [fR 0 (by omega)] at this;exact this.symm
    subst hsz1;have fB: ∀i,(hi:i<L.length)->val i 0=.string ⟨L[i].toArray⟩:=fun i hi=>by have:=hv i 0 (by omega) (by rw [fR i hi];exact Nat.one_pos);simp only [fR i hi,List.getElem_cons_zero] at this;generalize val i 0=z at this;cases this;rfl
    have fG: ∀i,(hi:i<L.length)-> ∃cs el fz,w.heap[blk]? =some (.cells cs el fz)/\cs[base+i]? =some (.string ⟨L[i].toArray⟩):=fun i hi=>by obtain ⟨cs,el,fz,e1,e2⟩:=hh i 0 (by omega) Nat.one_pos;rw [fB i hi,Nat.mul_one,Bo] at e2;exact ⟨cs,el,fz,hH _ _ e1,e2⟩
    have hJ:=Any.strings_Join Tryz.lays156 Tryz.Builder_Extra_156 blk base cap (L.map fun s=>(⟨s.toArray⟩:ByteArray)) ⟨sep.toArray⟩ w (fun j x hx=>by
      have hj:j<L.length:=by rw [<-hlenm];exact (Bf.1 hx).1
      obtain ⟨cs,el,fz,e1,e2⟩:=fG j hj;rw [BU,At hj] at hx;obtain rfl:=Ag hx;simp [World.cell?,e1,e2])
     (by obtain ⟨cs,el,fz,e1,_⟩:=fG 0 (by omega);exact (AC.1 e1).1)
     (by rw [hlenm];omega) (by rw [hlenm];omega) (by rw [hmap];exact AI ho.2 (by omega))
    rw [hmap,hlenm,hn] at hJ;refine hJ.mono fun e w' ⟨he,hw⟩=>⟨_,he,?_,hw⟩
    exact .str _
  .cases hv
 .cases hv)
open Go.Shelf Go.RowKit
def Lu :zy->Bool
 | [.str _]=>true
 | _=>false
def ZS :zy->Option (CA×Bool)
 | [.dat n g,.str sep]=>some (.str (Lt (Cl zw n g) sep),(List.range n).all (fun i=>Lu (g i))&&Me (Cl zw n g) sep)
 | _=>none
theorem j6m {args:zy} {v:CA} (h:ZS args=some (v,true)):Fd args=some (v,true):=by
 unfold ZS at h;split at h
 .rename_i n g sep;simp only [Ae,Ad,Ac] at h;obtain ⟨rfl,h1,h2⟩:=h;have ht:CU zw n g=true:=Xo fun i hi=>by
   have:=As.1 h1 i (AL.2 hi);unfold Lu at this;split at this
   .rename_i s e;rw [e];rfl
   .cases this
  unfold Fd C4;simp only [];rw [ht,h2];rfl
 .cases h
theorem u5m {S:CC} (hS:Zu prog S):Zu prog (S.with F7 ZS):=JG hS (by kernel_rfl) fun args v hv=>by have:=(v8l (Zg (P:=prog)) F7 (.val Fd) (by kernel_rfl)).2;exact this args v (j6m hv)
def SK :CC:=((SC.with Px Ih).with Ol Ie).with F7 ZS
theorem Rg :Zu prog SK:=u5m (v8m (v8r V6))
def CA.z (n:Int):CA:=.int .i64 n
def zs (l:zq):zy:=l.map CA.z
def CA.az (l:zq):CA:=.agg (zs l)
def bz (l:zq) (t:TypeId):Option CG:=some ⟨zs l,t,none⟩
def bk (l:zy) (t:TypeId):Option CG:=some ⟨l,t,none⟩
def T.u :T CA:=.node .undef .leaf .leaf
def T.k (l r:T CA):T CA:=.node .undef l r
def T.kl (r:T CA):T CA:=.node .undef .leaf r
def T.kr (l:T CA):T CA:=.node .undef l .leaf
def T.o (v:CA):T CA:=.node v .leaf .leaf
def T.m (v:Option CG):T (Option CG):=.node v .leaf .leaf
def EV :CJ:=Zb prog 15 [] false []
theorem Vag0 :Cn prog EV EV:=Cn.refl _
def Vac1 :CJ:=⟨⟨20,0,false⟩,none,(Zk prog 36 [1,0] 1),none,(Zy prog 3),⟨(.node (.sl 1 0 2 (.ex 2)) (.node (.z 1) .leaf (.o (.ptr 3 0))) (.kr (.o (.str [])))),(.node (bz [0,0,0,2,1,1] 79) (.node (bk [(.str [97]),(.z (-1)),(.int .u8 9),(.z 1),(.z 0),(.z 0),(.sl 0 0 1 (.ex 1)),(.str [98]),(.z 0),(.int .u8 0),(.z 2),(.z 0),(.z 0),.nils] 48) (.m (bk [.nils] 70)) .leaf) (.m (bk [(.obj (.mb [([97],true)]))] 121))),4,[],true⟩,[⟨⟨69,0,false⟩,(Wz prog 33 (pn 45871) 2),(Zk prog 33 (pn 45871) 1),none,(Zy prog 9),(.node (.sl 1 0 2 (.ex 2)) (.k (.k (.kl (.kl (.o (.sl 1 0 2 (.ex 2))))) (.kl (.o (.sl 1 0 2 (.ex 2))))) (.kl (.kl (.o (.z 1))))) (.k (.k (.kl (.kl (.o (.z 1)))) (.kl (.o (.z 2)))) (.o (.mapr 2))))⟩,⟨⟨76,0,false⟩,(Wz prog 10 [1,0,0] 1),(Zk prog 10 [1,0,0] 1),none,(Zy prog 10),(.node (.sl 1 0 2 (.ex 2)) .leaf (.kl (.kr (.o (.sl 1 0 2 (.ex 2))))))⟩,⟨⟨61,0,false⟩,(Wz prog 15 [1,0] 1),(Zk prog 15 [1,0] 1),none,(Zy prog 8),(.kl (.kl (.kr (.o (.sl 1 0 2 (.ex 2))))))⟩],.leaf⟩
theorem Vag1 :Cn prog EV Vac1:=Vag0.trans (stretch NN mixed Rg (n:=4000) (m:=100000) (d:=4) (N:=⟨[0,1,77,100],[],[some [0,1,4,5],some [0,6,27,28,29,55,56],some [0,10],some [10]],[none,none,none,none]⟩) (by kernel_rfl) rfl (by kernel_rfl)).1
def Vac2 :CJ:=⟨⟨26,0,false⟩,(Wz prog 203 [0] 0),(Zk prog 203 [0] 1),none,(Zy prog 3),⟨(.node .nils (.o (.sl 22 0 1 (.un 2))) .leaf),(.node (bz [0,0,0,2,1,1] 79) (.node (bk [(.str [97]),(.z (-1)),(.int .u8 9),(.z 1),(.z 0),(.z 0),(.sl 0 0 1 (.ex 1)),(.str [98]),(.z 0),(.int .u8 0),(.z 2),(.z 0),(.z 0),.nils] 48) (.node (bk [.nilf] 174) (.node (bk [(.sl 2 0 1 (.ex 1))] 194) (.m (bk [(.sl 12 0 1 (.un 4))] 195)) .leaf) (.m (bk [(.sl 12 0 1 (.un 4))] 195))) (.node (bk [(.z 0)] 24) (.node (bz [0,1] 3) (.m (bk [(.sl 18 0 2 (.un 1))] 83)) .leaf) (.node (bk [(.z 0),(.z 1),(.sl 11 0 1 (.ex 1))] 203) (.m (bz [0,1] 260)) .leaf))) (.node (bk [(.sl 0 0 1 (.ex 1))] 45) (.node (bk [.nils] 46) (.node (bk [(.sl 9 0 2 (.un 1))] 83) (.m (bk [(.sl 15 0 1 (.ex 1))] 201)) .leaf) (.node (bz [0,0,2,1] 168) (.m (bk [(.sl 21 0 1 (.un 2))] 233)) .leaf)) (.node (bk [.nils,.nils,(.z 0),(.z 0)] 198) (.node none (.m (bz [0,2] 3)) .leaf) (.node (bk [.nils,.nils,(.z 0),(.z 0)] 235) (.m (bz [0,1] 260)) .leaf)))),23,[],true⟩,[⟨⟨94,0,false⟩,(Wz prog 171 [0,0] 17),(Zk prog 171 [0,0] 1),none,[],(.node (.ptr 14 0) (.node (.z 0) (.node (.sl 22 0 1 (.un 2)) .leaf (.kl (.o (.sl 22 0 1 (.un 2))))) .leaf) (.node (.z 2) .leaf (.k (.kl (.o .nils)) (.kr (.o (.bool true))))))⟩,⟨⟨29,0,false⟩,(Wz prog 167 (pn 427) 5),(Zk prog 167 (pn 427) 1),(some 19),[],(.k (.k (.kr (.kl (.o (.z 2)))) (.kl (.kr (.o (.z 0))))) (.kr (.node (.ptr 14 0) (.kl (.o (.sl 22 0 1 (.un 2)))) .leaf)))⟩,⟨⟨76,0,false⟩,(Wz prog 225 (pn 713) 2),(Zk prog 225 (pn 713) 1),none,[],(.node (.yld 19) (.node (.ptr 17 0) .leaf (.kr (.kl (.kr (.kr (.o (.agg [(.z 0),(.z 2),(.sl 20 0 1 (.ex 1))]))))))) (.node (.ptr 16 0) (.node (.z 1) (.kl (.kr (.kr (.o (.yld 19))))) .leaf) .leaf))⟩,⟨⟨29,0,false⟩,none,(.inRangeFunc 19::(Zk prog 167 (pn 43) 1)),none,(Zy prog 10),(.k (.kr (.o (.z 0))) (.node .nils (.o (.ptr 14 0)) .leaf))⟩,⟨⟨13,0,false⟩,(Wz prog 140 (pn 23) 1),(Zk prog 140 (pn 23) 1),none,(Zy prog 10),(.kr (.kl (.kr (.o (.sl 12 0 1 (.un 4))))))⟩,⟨⟨65,0,false⟩,(Wz prog 102 (pn 299) 4),(Zk prog 102 (pn 299) 1),(some 10),[],(.k (.k (.kr (.o (.ptr 13 0))) (.o (.ptr 5 0))) (.node (.ptr 3 0) (.node (.ptr 4 0) .leaf (.kr (.o (.sl 12 0 1 (.un 4))))) (.o (.ptr 6 0))))⟩,⟨⟨86,0,false⟩,(Wz prog 163 (pn 713) 2),(Zk prog 163 (pn 713) 1),none,[],(.node (.yld 10) (.node (.ptr 8 0) (.kl (.kr (.kl (.kr (.o (.agg [(.z 0),(.z 1),(.sl 11 0 1 (.ex 1))])))))) .leaf) (.node (.ptr 7 0) (.o (.z 1)) (.kr (.kr (.kl (.kr (.o (.yld 10))))))))⟩,⟨⟨65,0,false⟩,none,(.inRangeFunc 10::(Zk prog 102 (pn 43) 1)),none,(Zy prog 102),(.k (.kl (.o (.ptr 5 0))) (.k (.o (.ptr 4 0)) (.o (.ptr 6 0))))⟩,⟨⟨25,0,false⟩,(Wz prog 61 (pn 39) 3),(Zk prog 61 (pn 39) 1),none,(Zy prog 9),(.node (.sl 0 0 1 (.ex 1)) (.k (.kl (.o (.agg [.nilf]))) (.kl (.o (.sl 2 0 1 (.ex 1))))) .leaf)⟩,⟨⟨69,0,false⟩,(Wz prog 33 (pn 5323) 2),(Zk prog 33 (pn 5323) 1),none,(Zy prog 9),(.node (.sl 1 0 2 (.ex 2)) (.k (.kr (.kr (.o (.z 0)))) (.kl (.o (.sl 1 0 2 (.ex 2))))) (.k (.kl (.kr (.o (.sl 0 0 1 (.ex 1))))) (.kl (.o (.z 2)))))⟩,⟨⟨19,0,false⟩,(Wz prog 54 [1,0,0] 1),(Zk prog 54 [1,0,0] 1),none,(Zy prog 3),(.node (.sl 1 0 2 (.ex 2)) (.o (.z 1)) (.kl (.o (.sl 1 0 2 (.ex 2)))))⟩,⟨⟨16,0,false⟩,(Wz prog 17 [1,0,0] 2),(Zk prog 17 [1,0,0] 1),none,(Zy prog 17),(.node (.sl 1 0 2 (.ex 2)) (.node (.z 1) (.kr (.o (.sl 1 0 2 (.ex 2)))) .leaf) (.kr (.kr (.o (.z 1)))))⟩,⟨⟨61,0,false⟩,(Wz prog 15 [1,1,0] 1),(Zk prog 15 [1,1,0] 1),none,(Zy prog 8),(.k (.node (.str [110,111,100,101,32,97,32,57,32,49,32,48,32,48,10,98,111,120,32,48,32,48,32,48,32,50,32,49,32,49,10,110,111,100,101,32,97,47,98,32,48,32,50,32,48,32,48,10]) (.kr (.kr (.o (.sl 1 0 2 (.ex 2))))) .leaf) (.o (.z 0)))⟩],(.node none (.node none (.node none .leaf (.node none (.node (some ⟨.busy,none,29,(.k (.k (.k (.k .u .u) (.kr .u)) (.k (.kr .u) (.kr .u))) (.k (.node (.ptr 14 0) (.k .u .u) (.kr .u)) (.k (.kr .u) (.kr .u)))),[11],(Xt prog 167 [1,1,0,1,0,0]),(Xt prog 167 [1,1,0,1,0,1])⟩) .leaf .leaf) .leaf)) .leaf) (.node none .leaf (.node none (.node (some ⟨.busy,none,65,(.k (.k (.k (.k (.k .u .u) (.k .u .u)) (.k (.k .u .u) (.kr .u))) (.node (.ptr 5 0) (.k (.k .u .u) (.k .u .u)) (.k (.k .u .u) (.kr .u)))) (.node (.ptr 3 0) (.node (.ptr 4 0) (.k (.k .u .u) (.k .u .u)) (.k (.k .u .u) (.kr .u))) (.node (.ptr 6 0) (.k (.k .u .u) (.kr .u)) (.k (.k .u .u) (.kr .u))))),[15],(Xt prog 102 [1,1,0,1,0,0]),(Xt prog 102 [1,1,0,1,0,1])⟩) .leaf .leaf) .leaf)))⟩
theorem Vag2 :Cn prog EV Vac2:=Vag1.trans (stretch NN mixed Rg (n:=4000) (m:=100000) (d:=4) (N:=⟨[97,98,104,105,106,107,108,109,110,113,114,116,119,120,123,124,125,126,129,130,132,135,158],[],[some [0,1],some [0,1,2,3,22,26,27],some [4,21,23,24],some [0,1,2,4,72,73],some [2,3,4],some [9],some [2,4,5,6,7,20],some [0,1,2,4,82,83],some [4,5,6],some [0,11,13],some [0,13,14,15,20],some [0,1,6],some [0,1,7,8],some [1,2,15]],[none,none,none,none,none,none,none,none,none,none,some [2,4,5,6,7,8,9,11,12,15,16,17,18,19,20,21,22,23,24,25,26,27,28,29,30,31,32,33,34,35,36,37,38,39,40,41,42,43,44,45,46,47,48,49,50,51,52,53,54,55,56,57],none,none,none,none,none,none,none,none,some [4,5,6,11,12,13,14,15,16,17,18,19,20,21,22,23,24],none,none,none]⟩) (by kernel_rfl) rfl (by kernel_rfl)).1
def Vac3 :CJ:=⟨⟨35,0,false⟩,(Wz prog 166 [1,0] 7),(Zk prog 166 [1,0] 1),none,(Zy prog 9),⟨(.k (.node (.ptr 15 0) .leaf (.kr (.o (.ptr 15 1)))) (.kr (.kr (.o (.bool true))))),(.node (bz [0,0,0,2,1,1] 79) (.node (bk [(.str [97]),(.z (-1)),(.int .u8 9),(.z 1),(.z 0),(.z 0),(.sl 0 0 1 (.ex 1)),(.str [98]),(.z 0),(.int .u8 0),(.z 2),(.z 0),(.z 0),.nils] 48) (.node (bk [(.sl 0 0 1 (.ex 1))] 45) (.node (bk [.nils,.nils,(.z 0),(.z 0)] 198) (.m (bz [0,0,2,1] 168)) .leaf) .leaf) (.node (bk [.nils] 46) (.m (bk [(.sl 10 0 2 (.un 1))] 83)) (.m (bz [0,0,2,1] 168)))) (.node (bk [(.int .u8 0),(.z 0),(.z 0),(.z 0)] 42) (.node (bk [.nilf] 174) (.m (bk [(.sl 3 0 1 (.ex 1))] 194)) (.m (bk [(.sl 13 0 1 (.un 4))] 195))) (.node (bk [(.z 0)] 24) (.m (bz [0,1] 3)) (.m (bk [(.z 0),(.z 1),(.sl 12 0 1 (.ex 1))] 203))))),16,[],true⟩,[⟨⟨6,0,false⟩,(Wz prog 165 [1,0] 1),(Zk prog 165 [1,0] 1),none,(Zy prog 9),(.kr (.kr (.o (.az [0,0,2,1]))))⟩,⟨⟨19,0,false⟩,(Wz prog 197 (pn 2661) 5),(Zk prog 197 (pn 2661) 1),none,(Zy prog 3),(.node (.sl 13 0 1 (.un 4)) (.node (.fn 165 []) (.k (.node (.z 1) (.o (.az [0,0,2,1])) .leaf) (.o (.fn 165 []))) (.o (.z 0))) (.kr (.kr (.o (.z 0)))))⟩,⟨⟨9,0,false⟩,(Wz prog 164 [1,0] 2),(Zk prog 164 [1,0] 1),none,(Zy prog 3),(.k (.kl (.o (.sl 13 0 1 (.un 4)))) (.kl (.o (.fn 165 []))))⟩,⟨⟨13,0,false⟩,(Wz prog 140 (pn 19) 1),(Zk prog 140 (pn 19) 1),none,(Zy prog 10),(.node (.sl 13 0 1 (.un 4)) (.kr (.kr (.o (.sl 13 0 1 (.un 4))))) .leaf)⟩,⟨⟨65,0,false⟩,(Wz prog 102 (pn 299) 4),(Zk prog 102 (pn 299) 1),(some 11),[],(.k (.k (.kr (.o (.ptr 14 0))) (.o (.ptr 6 0))) (.node (.ptr 4 0) (.node (.ptr 5 0) .leaf (.kr (.o (.sl 13 0 1 (.un 4))))) (.o (.ptr 7 0))))⟩,⟨⟨86,0,false⟩,(Wz prog 163 (pn 713) 2),(Zk prog 163 (pn 713) 1),none,[],(.node (.yld 11) (.node (.ptr 9 0) (.kl (.kr (.kl (.kr (.o (.agg [(.z 0),(.z 1),(.sl 12 0 1 (.ex 1))])))))) .leaf) (.node (.ptr 8 0) (.o (.z 1)) (.kr (.kr (.kl (.kr (.o (.yld 11))))))))⟩,⟨⟨65,0,false⟩,none,(.inRangeFunc 11::(Zk prog 102 (pn 43) 1)),none,(Zy prog 102),(.k (.kl (.o (.ptr 6 0))) (.k (.o (.ptr 5 0)) (.o (.ptr 7 0))))⟩,⟨⟨25,0,false⟩,(Wz prog 61 (pn 39) 3),(Zk prog 61 (pn 39) 1),none,(Zy prog 9),(.node (.sl 0 0 1 (.ex 1)) (.k (.kl (.o (.agg [.nilf]))) (.kl (.o (.sl 3 0 1 (.ex 1))))) .leaf)⟩,⟨⟨69,0,false⟩,(Wz prog 33 (pn 5323) 2),(Zk prog 33 (pn 5323) 1),none,(Zy prog 9),(.node (.sl 1 0 2 (.ex 2)) (.k (.kr (.kr (.o (.z 0)))) (.kl (.o (.sl 1 0 2 (.ex 2))))) (.k (.kl (.kr (.o (.sl 0 0 1 (.ex 1))))) (.kl (.o (.z 2)))))⟩,⟨⟨19,0,false⟩,(Wz prog 54 [1,0,0] 1),(Zk prog 54 [1,0,0] 1),none,(Zy prog 3),(.node (.sl 1 0 2 (.ex 2)) (.o (.z 1)) (.kl (.o (.sl 1 0 2 (.ex 2)))))⟩,⟨⟨19,0,false⟩,(Wz prog 19 [1,0,0] 2),(Zk prog 19 [1,0,0] 1),none,(Zy prog 19),(.node (.sl 1 0 2 (.ex 2)) (.node (.z 1) (.kr (.o (.sl 1 0 2 (.ex 2)))) .leaf) (.kr (.node (.ptr 2 0) (.o (.z 1)) .leaf)))⟩,⟨⟨61,0,false⟩,(Wz prog 15 (pn 23) 1),(Zk prog 15 (pn 23) 1),none,(Zy prog 8),(.k (.node (.str [110,111,100,101,32,97,32,57,32,49,32,48,32,48,10,98,111,120,32,48,32,48,32,48,32,50,32,49,32,49,10,110,111,100,101,32,97,47,98,32,48,32,50,32,48,32,48,10]) (.o (.str [97,47,98])) .leaf) (.node (.z 0) (.node (.z 0) .leaf (.kr (.o (.sl 1 0 2 (.ex 2))))) .leaf))⟩],(.node none (.node none (.node none .leaf (.node (some ⟨.busy,none,65,(.k (.k (.k (.k (.k .u .u) (.k .u .u)) (.k (.k .u .u) (.kr .u))) (.node (.ptr 6 0) (.k (.k .u .u) (.k .u .u)) (.k (.k .u .u) (.kr .u)))) (.node (.ptr 4 0) (.node (.ptr 5 0) (.k (.k .u .u) (.k .u .u)) (.k (.k .u .u) (.kr .u))) (.node (.ptr 7 0) (.k (.k .u .u) (.kr .u)) (.k (.k .u .u) (.kr .u))))),[15],(Xt prog 102 [1,1,0,1,0,0]),(Xt prog 102 [1,1,0,1,0,1])⟩) .leaf .leaf)) .leaf) .leaf)⟩
theorem Vag3 :Cn prog EV Vac3:=Vag2.trans (stretch NN mixed Rg (n:=4000) (m:=100000) (d:=4) (N:=⟨[92,93,94,100,101,102,103,104,105,106,109,110,112,115,116,118],[],[some [1,8,9],some [3],some [0,1,5,7,8,11,15],some [5,6],some [0,7],some [2,4,5,6,7,20],some [0,1,2,4,82,83],some [4,5,6],some [0,11,13],some [0,13,14,15,20],some [0,1,6],some [0,1,4,7,8],some [1,2,3,4,20]],[none,none,none,none,none,none,none,none,none,none,none,some [2,4,5,6,7,8,9,11,12,15,16,17,18,19,20,21,22,23,24,25,26,27,28,29,30,31,32,33,34,35,36,37,38,39,40,41,42,43,44,45,46,47,48,49,50,51,52,53,54,55,56,57],none,none,none,none]⟩) (by kernel_rfl) rfl (by kernel_rfl)).1
def Vac4 :CJ:=⟨⟨44,0,false⟩,none,(Zk prog 67 [1,1,0] 1),none,(Zy prog 9),⟨.leaf,(.node (bz [0,0,0,2,1,1] 79) (.node (bk [(.str [97]),(.z (-1)),(.int .u8 9),(.z 1),(.z 0),(.z 0),(.sl 0 0 1 (.ex 1)),(.str [98]),(.z 0),(.int .u8 0),(.z 2),(.z 0),(.z 0),.nils] 48) (.m (bk [(.obj (.mb [([97],true)]))] 121)) .leaf) (.node (bk [(.int .u8 0),(.z 0),(.z 0),(.z 0)] 42) (.m (bk [(.z 0)] 24)) (.m (bk [(.str []),(.z 0)] 144)))),7,[],true⟩,[⟨⟨82,0,false⟩,(Wz prog 84 (pn 19) 1),(Zk prog 84 (pn 19) 1),none,(Zy prog 84),(.k (.kl (.o (.str []))) (.node (.ptr 6 0) (.o (.str [98])) (.node (.bool false) (.kr (.o (.str [98]))) .leaf)))⟩,⟨⟨24,0,false⟩,(Wz prog 45 (pn 299) 1),(Zk prog 45 (pn 299) 1),(some 5),[],(.kl (.node (.ptr 4 0) .leaf (.kr (.kr (.o (.str [98]))))))⟩,⟨⟨20,0,false⟩,(Wz prog 121 (pn 361) 2),(Zk prog 121 (pn 361) 1),none,[],(.node (.yld 5) (.k (.o (.str [])) (.kr (.kr (.o (.str [98]))))) (.kr (.node (.bool false) (.kr (.o (.yld 5))) .leaf)))⟩,⟨⟨24,0,false⟩,none,(.inRangeFunc 5::(Zk prog 45 (pn 43) 1)),none,(Zy prog 45),(.kl (.o (.ptr 4 0)))⟩,⟨⟨69,0,false⟩,(Wz prog 33 (pn 160559) 5),(Zk prog 33 (pn 160559) 1),none,(Zy prog 9),(.node (.sl 1 0 2 (.ex 2)) (.k (.kl (.kl (.o (.sl 1 0 2 (.ex 2))))) (.k (.o (.str [97,47,98])) (.kl (.node (.z 1) .leaf (.o (.bool false)))))) (.k (.kl (.kl (.o (.z 2)))) (.node (.mapr 3) .leaf (.kl (.kl (.o (.str [97,47,98])))))))⟩,⟨⟨19,0,false⟩,(Wz prog 54 [1,0,0] 1),(Zk prog 54 [1,0,0] 1),none,(Zy prog 3),(.node (.sl 1 0 2 (.ex 2)) (.o (.z 1)) (.kl (.o (.sl 1 0 2 (.ex 2)))))⟩,⟨⟨19,0,false⟩,(Wz prog 19 [1,0,0] 2),(Zk prog 19 [1,0,0] 1),none,(Zy prog 19),(.node (.sl 1 0 2 (.ex 2)) (.node (.z 1) (.kr (.o (.sl 1 0 2 (.ex 2)))) .leaf) (.kr (.node (.ptr 2 0) (.o (.z 1)) .leaf)))⟩,⟨⟨61,0,false⟩,(Wz prog 15 (pn 23) 1),(Zk prog 15 (pn 23) 1),none,(Zy prog 8),(.k (.node (.str [110,111,100,101,32,97,32,57,32,49,32,48,32,48,10,98,111,120,32,48,32,48,32,48,32,50,32,49,32,49,10,110,111,100,101,32,97,47,98,32,48,32,50,32,48,32,48,10]) (.o (.str [97,47,98])) .leaf) (.node (.z 0) (.node (.z 0) .leaf (.kr (.o (.sl 1 0 2 (.ex 2))))) .leaf))⟩],(.node none (.node none .leaf (.node (some ⟨.busy,none,24,(.k (.k (.k (.kl .u) (.kr .u)) (.k (.kr .u) (.kr .u))) (.node (.ptr 4 0) (.k (.kr .u) (.kr .u)) (.k (.kr .u) (.kr .u)))),[16],(Xt prog 45 [1,1,0,1,0,0]),(Xt prog 45 [1,1,0,1,0,1])⟩) .leaf .leaf)) .leaf)⟩
theorem Vag4 :Cn prog EV Vac4:=Vag3.trans (stretch NN mixed Rg (n:=4000) (m:=100000) (d:=4) (N:=⟨[0,1,2,67,100,102,107],[],[some [],some [2,4,5,6,18],some [2,18],some [0,3,4,16,17],some [2],some [0,6,9,27,28,29,61,62],some [0,1,6],some [0,1,4,7,8],some [1,2,3,4,20]],[none,none,none,none,none,some [2,3,4,5,16,17,18,19,20,21,22,23],none]⟩) (by kernel_rfl) rfl (by kernel_rfl)).1
def Vac5 :CJ:=⟨⟨61,0,false⟩,(Wz prog 15 (pn 95) 32),(Zk prog 15 (pn 95) 1),none,(Zy prog 8),⟨(.k (.kr (.kl (.kl (.kl (.o (.bool true)))))) (.kr (.kr (.kl (.kl (.o (.bool true))))))),.leaf,0,[],true⟩,[],.leaf⟩
theorem Vag5 :Cn prog EV Vac5:=Vag4.trans (stretch NN mixed Rg (n:=8777) (m:=100000) (d:=4) (N:=⟨[],[],[some [56,59]],[]⟩) (by kernel_rfl) rfl (by kernel_rfl)).1
def VT :CJ:=⟨⟨61,0,false⟩,none,(Zk prog 3 (pn 191) 1),none,(Zy prog 8),⟨(.o (.bool true)),.leaf,0,[],true⟩,[],.leaf⟩
theorem Vag6 :Cn prog EV VT:=Vag5.trans (stretch NN mixed Rg (n:=3) (m:=100000) (d:=4) (N:=⟨[],[],[some [0]],[]⟩) (by kernel_rfl) rfl (by kernel_rfl)).1
abbrev QC :Nat:=15
abbrev J8 :Nat:=30
abbrev VQ :Nat:=QC
def Pq :zy->Option (CA×Bool)
 | []=>some (.bool true,true)
 | _=>none
theorem j8x {S:CC} (hS:Zu prog S):Zu prog (S.with VQ Pq):=JG hS (by kernel_rfl) fun args v hv H vals w eN hH hG=>by
 unfold Pq at hv;split at hv
 .simp only [Ae,Ad,B9] at hv;subst hv;exact (goes_call (H:=H) (by kernel_rfl) Vag6 (by kernel_rfl) (show Kk prog VT.st (Zb prog 15 [] false []).rs =some [.bool true] by kernel_rfl) eN hH hG).mono fun e w' ⟨ρ,u,he,ho⟩=>⟨ρ.fz,u,ho.le,ho.old,ho.same,he,Jv 4 _ u rfl ho.val,ho.below⟩
 .cases hv
structure R7 where
 (a b c d e f g:Int)
instance : Xp R7 where
 w:=7
 d:=⟨0,0,0,0,0,0,0⟩
 cells x:=[.int .u8 x.a,.int .i64 x.b,.int .i64 x.c,.int .i64 x.d,.int .i64 x.e,.int .i64 x.f,.int .i64 x.g]
 of l:=⟨DG (l.getD 0 .undef),DG (l.getD 1 .undef),DG (l.getD 2 .undef),DG (l.getD 3 .undef),DG (l.getD 4 .undef),DG (l.getD 5 .undef),DG (l.getD 6 .undef)⟩
 len _:=rfl
 pos:=by decide
 flat _:=rfl
 sc _:=rfl
 back _:=rfl
def VD (x y z:Int):Bool:=decide (Kz (Kz x y) z>=(-1000000))&&decide (Ky (Ky x y) z<=1000000)
instance : DecidableEq R7:=Classical.typeDecidableEq _
def val7 (r:R7):Bool:=decide (r.a<=5)&&(VD r.b r.c r.d&&(VD r.e r.f r.g&&
 (bif decide (r.a<2) then (r.b == r.e)&&(decide (r.c<r.f)&&decide (r.d<r.g)) else bif decide (r.a<4) then (r.c == r.f)&&(decide (r.b<r.e)&&decide (r.d<r.g)) else (r.d == r.g)&&(decide (r.b<r.e)&&decide (r.c<r.f)))))
def F2 (L:List R7):Int:=bif decide (3000<L.length) then 4 else bif L.all val7 then 0 else 8
def v6v (L:List R7):Bool:=L.all fun r=>decide (0<=r.a)&&decide (r.a<256)
def DV (x y z:Int):Prop:=(-1000000<=x/\x<=1000000)/\(-1000000<=y/\y<=1000000)/\(-1000000<=z/\z<=1000000)
def spN :zq->zw
 | []=>[]
 | n::r=>32::(itoa n++spN r)
def UH (r:R7):zw:=113::117::97::100::(spN [r.a,r.b,r.c,r.d,r.e,r.f,r.g]++[10])
def ZF :List R7->zw
 | []=>[]
 | r::l=>UH r++ZF l
def OS (L:List R7):zw:=bif F2 L != 0 then [] else bif decide (60000<(ZF L).length) then [] else ZF L
def OR (L:List R7):Int:=bif F2 L != 0 then F2 L else bif decide (60000<(ZF L).length) then 4 else 0
def G5 (s:zw):Option Int:=match atoiAll s with
 | .ok v=>bif decide (itoa v=s/\ -9999999<=v/\v<=9999999) then some v else none
 | _=>none
def Z0 :List zw->Option zq
 | []=>some []
 | w::r=>match G5 w with
  | none=>none
  | some n=>match Z0 r with
   | none=>none
   | some l=>some (n::l)
def UG :zw:=[113,117,97,100]
def UI :zq->Option R7
 | [a,b,c,d,e,f,g]=>bif decide (0<=a)&&decide (a<=5) then some ⟨a,b,c,d,e,f,g⟩ else none
 | _=>none
def U0 (x:zw):Option R7:=match Cg 32 [] x with
 | w::r=>bif decide (w=UG)&&decide (r.length=7) then (match Z0 r with
  | some l=>UI l
  | none=>none) else none
 | []=>none
def j0q :List zw->Option (List R7)
 | []=>some []
 | x::l=>match U0 x with
  | none=>none
  | some r=>match j0q l with
   | none=>none
   | some m=>some (r::m)
def LG (s:zw):Option (List zw):=match (Cg 10 [] s).getLast? with
 | some []=>some (Cg 10 [] s).dropLast
 | _=>none
def UL (s:zw):List R7×Int:=bif decide (60000<s.length) then ([],4) else match LG s with
 | none=>([],12)
 | some ls=>match j0q ls with
  | none=>([],12)
  | some L=>bif F2 L != 0 then ([],F2 L) else (L,0)
section
attribute [local irreducible] F2 v6v
end
def Nz (s:zw):List R7:=(UL s).1
def Ny (s:zw):Int:=(UL s).2
theorem IY {n:Nat} {j:Int} (h0:0<=j) (h:j<(n:Int)):(decide ((0:Int)<=j/\j<((n:Nat):Int))&&true)=true:=by rw [Aj];exact Af ⟨h0,h⟩
abbrev y2c (aC:zu) (v8:Int) (v2:Int):=(aC.set (0+(tn v8)) (R4.mk (rd aC (0+(tn v8))).a (rd aC (0+(tn v8))).b v2 (rd aC (0+(tn v8))).d))
abbrev RH (aB:zq):=(Wt (Yq aB.length (CS (Zz (Wj (Yq aB.length (CS (Zz aB))))))))
def v6y :Cd:=⟨⟨29,0,true⟩,none,(.inRangeFunc 0::(Zk prog 167 (pn 43) 1)),none,(Zy prog 10),Yy [(2,.nils),(3,(ii 0)),(4,(.ptr 1 0))]⟩
def v6x :=(DA [(0,⟨.ready,none,29,Yy [(4,(.ptr 1 0))],[11],(Xt prog 167 [1,1,0,1,0,0]),(Xt prog 167 [1,1,0,1,0,1])⟩)])
abbrev y2a (aY:zp) (l0:zu) (v38:Int):=(aY++[(R2.mk (rd l0 (tn v38)).b (rd l0 (tn v38)).d)])
def Si (l0:zu):CG:=⟨[(.dat l0.length (Zz l0))],195,none⟩
abbrev y1z (aC:zu) (v1:Int) (v71:zp) (v73:Int) (v2:Int):=(aC++[(R4.mk v1 (rd v71 (tn v73)).a v2 (rd v71 (tn v73)).b)])
abbrev y1y (aB:zq) (l0:zu) (v16:Int):=(aB++[(rd l0 (tn v16)).a,(rd l0 (tn v16)).c])
inductive H6 where
def NR (aM:Int) (aR:Int) (aS:Int) (aQ:Int):H6->CJ
 :=nofun
def x8l (aM:Int) (aR:Int) (aS:Int) (aQ:Int):H6->Xk H6
 :=nofun
def YA (aM:Int) (aR:Int) (aS:Int) (aQ:Int):Xk H6:=(bif (decide (aM<aS)) then (bif (decide (aR<aQ)) then (bif (decide (aM>=(-1000000))) then (bif (decide (aM<=1000000)) then (bif (decide (aS>=(-1000000))) then (bif (decide (aS<=1000000)) then (bif (decide (aR>=(-1000000))) then (bif (decide (aR<=1000000)) then (bif (decide (aQ>=(-1000000))) then (.ret [(.bool (decide (aQ<=1000000)))]) else (.ret [(.bool false)])) else (.ret [(.bool false)])) else (.ret [(.bool false)])) else (.ret [(.bool false)])) else (.ret [(.bool false)])) else (.ret [(.bool false)])) else (.ret [(.bool false)])) else (.ret [(.bool false)])) else (.ret [(.bool false)]))
theorem w7u (aM:Int) (aR:Int) (aS:Int) (aQ:Int): ∀s,Xh prog (Zy prog 166) (NR aM aR aS aQ) (NR aM aR aS aQ s) (x8l aM aR aS aQ s)
 :=nofun
theorem x8m (aM:Int) (aR:Int) (aS:Int) (aQ:Int):Xh prog (Zy prog 166) (NR aM aR aS aQ) (Zb prog 166 [(.agg [(.int .i64 aM),(.int .i64 aR),(.int .i64 aS),(.int .i64 aQ)])] true []) (YA aM aR aS aQ):=(lb (fun k0=>(lb (fun k1=>let c:=tt k1 (tt k0 nn);(lb (fun k2=>(lb (fun k3=>let a:=tt k3 (tt k2 c);(lb (fun k4=>(lb (fun k5=>let d:=tt k5 (tt k4 a);(lb (fun k6=>let b:=tt k6 d;(lb (fun k7=>(lb (fun k8=>(lr 35 3 (pn 191) 1 9 [(2,(.bool (decide (aQ<=1000000))))] (sl Kt 101 [] (b8 [2]) b7 (CL 25 []) (tt k8 (tt k7 b))))) (fun k8=>(lr 35 3 (pn 191) 1 9 [(2,(.bool false))] (sl Kt 101 [] (b8 [2]) b7 (CL 23 (bl 2 0)) (tt k8 (tt k7 b))))))) (fun k7=>(lr 35 3 (pn 191) 1 9 [(2,(.bool false))] (sl Kt 86 [] (b8 [2]) b7 (CL 20 (bl 3 0)) (tt k7 b)))))) (fun k6=>(lr 35 3 (pn 191) 1 9 [(2,(.bool false))] (sl Kt 86 [] (b8 [2]) b7 (CL 18 (bl 5 0)) (tt k6 d)))))) (fun k5=>(lr 35 3 (pn 191) 1 9 [(2,(.bool false))] (sl Kt 71 [] (b8 [2]) b7 (CL 15 (bl 6 0)) (tt k5 (tt k4 a))))))) (fun k4=>(lr 35 3 (pn 191) 1 9 [(2,(.bool false))] (sl Kt 71 [] (b8 [2]) b7 (CL 13 (bl 8 0)) (tt k4 a)))))) (fun k3=>(lr 35 3 (pn 191) 1 9 [(2,(.bool false))] (sl Kt 56 [] (b8 [2]) b7 (CL 10 (bl 9 0)) (tt k3 (tt k2 c))))))) (fun k2=>(lr 35 3 (pn 191) 1 9 [(2,(.bool false))] (sl Kt 56 [] (b8 [2]) b7 (CL 8 (bl 11 0)) (tt k2 c)))))) (fun k1=>(lr 35 3 (pn 191) 1 9 [(2,(.bool false))] (sl Kt 41 [] (b8 [2]) b7 (CL 5 (bl 12 0)) (tt k1 (tt k0 nn))))))) (fun k0=>(lr 35 3 (pn 191) 1 9 [(2,(.bool false))] (sl Kt 41 [] (b8 [2]) b7 (bl 17 0) (tt k0 nn)))))
theorem u0h (aM:Int) (aR:Int) (aS:Int) (aQ:Int) (n:Nat) (vs:zy) (h:Yj (x8l aM aR aS aQ) n (YA aM aR aS aQ)=.ret vs):Ji prog (Zy prog 166) (Zb prog 166 [(.agg [(.int .i64 aM),(.int .i64 aR),(.int .i64 aS),(.int .i64 aQ)])] true []) vs:=by have:=Zf (w7u aM aR aS aQ) n _ (x8m aM aR aS aQ);rwa [h] at this
inductive IT where
 | h0 (v16:Int) (aB:zq)
 | h1 (v4:Int) (aN:zu) (bZ:zp) (cL:Int) (cP:Int) (bJ:Nat) (bD:zq)
 | h2 (v4:Int) (v38:Int) (aN:zu) (bZ:zp) (cL:Int) (cP:Int) (bJ:Nat) (bD:zq) (aE:Int) (dD:Int) (aY:zp)
 | h3 (v1:Int) (v2:Int) (v71:zp) (v72:Int) (v73:Int) (cW:zp) (aZ:Int) (aC:zu) (bI:zp) (bG:Int) (bJ:Nat) (bD:zq) (aE:zp)
 | h4 (v2:Int) (v8:Int) (dO:Int) (cW:zp) (aZ:Int) (aC:zu) (bI:zp) (bG:Int) (bY:Int) (dA:Nat) (dN:zq) (aY:zp)
def OV (l0:zu):IT->CJ
 | .h0 v16 aB=>⟨⟨34,0,true⟩,none,(Zk prog 199 (pn 19659) 0),none,(Zy prog 9),⟨Yy [(1,(.ptr 0 0)),(3,(.ptr 2 0)),(8,(.sl 1 0 1 (.un 1))),(9,(ii 1)),(10,(ii 0)),(14,(dt l0)),(15,(ii (l0.length:Int))),(16,(ii v16))],Wf [⟨[(.sl 1 0 1 (.un 1))],201,none⟩,(Si l0),⟨[(.sla 4 1 0 aB.length (.un 1))],83,none⟩,⟨[.nils,.nils,(ii 0),(ii 0)],235,none⟩,(rz aB 3 1)] 0,5,[],true⟩,[⟨⟨29,0,true⟩,(Wz prog 167 (pn 19) 2),(Zk prog 167 (pn 19) 1),none,(Zy prog 10),Yy [(2,.nils),(3,(ii 0)),(4,(.ptr 3 0)),(9,(.sl 1 0 1 (.un 1)))]⟩],.leaf⟩
 | .h1 v4 aN bZ cL cP bJ bD=>⟨⟨76,0,true⟩,none,(Zk prog 225 [1,0,0] 0),none,[],⟨Yy [(0,(.yld 0)),(1,(.ptr 2 0)),(2,(.ptr 4 0)),(4,(ii v4))],Cs [(1,⟨[(.sla 6 4 0 aN.length (.un 4)),(dt bZ),(ii cL),(ii cP)],235,none⟩),(2,⟨[(.sla 3 1 0 bJ (.un 1))],83,none⟩),(3,(rz bD 3 1)),(4,⟨[(.sl 5 0 1 (.un 1))],201,none⟩),(5,(Si l0)),(6,(rz aN 168 4))],7,[],true⟩,[v6y],v6x⟩
 | .h2 v4 v38 aN bZ cL cP bJ bD aE dD aY=>⟨⟨76,0,true⟩,none,(Zk prog 225 (pn 629065) 0),none,[],⟨Yy [(0,(.yld 0)),(1,(.ptr 2 0)),(2,(.ptr 4 0)),(4,(ii v4)),(5,(.ptr 6 0)),(6,(ii 0)),(29,(.sl 5 0 1 (.un 1))),(30,(ii 1)),(31,(ii 0)),(36,(dt l0)),(37,(ii (l0.length:Int))),(38,(ii v38))],Cs [(1,⟨[(.sla 9 4 0 aN.length (.un 4)),(dt bZ),(ii cL),(ii cP)],235,none⟩),(2,⟨[(.sla 3 1 0 bJ (.un 1))],83,none⟩),(3,(rz bD 3 1)),(4,⟨[(.sl 5 0 1 (.un 1))],201,none⟩),(5,(Si l0)),(6,⟨[(ii aE),(ii dD),(.sl 7 0 1 (.ex 1))],240,none⟩),(7,⟨[(.sla 8 2 0 aY.length (.un 2))],233,none⟩),(8,(rz aY 260 2)),(9,(rz aN 168 4))],10,[],true⟩,[v6y],v6x⟩
 | .h3 v1 v2 v71 v72 v73 cW aZ aC bI bG bJ bD aE=>⟨⟨94,0,true⟩,none,(Zk prog 171 (pn 39) 0),none,[],⟨Yy [(0,(.ptr 0 0)),(1,(ii v1)),(2,(ii v2)),(71,(dt v71)),(72,(ii v72)),(73,(ii v73))],Cs [(0,⟨[(.sla 7 4 0 aC.length (.un 4)),(dt bI),(ii bG),(ii v2)],235,none⟩),(2,⟨[(.sla 3 1 0 bJ (.un 1))],83,none⟩),(3,(rz bD 3 1)),(4,⟨[(.sl 5 0 1 (.un 1))],201,none⟩),(5,(Si l0)),(6,⟨[(dt aE)],233,none⟩),(7,(rz aC 168 4))],8,[],true⟩,[⟨⟨29,0,true⟩,(Wz prog 167 (pn 427) 5),(Zk prog 167 (pn 427) 1),(some 1),[],Yy [(4,(.ptr 0 0)),(21,(ii v1)),(23,(ii v2)),(24,(dt cW))]⟩,⟨⟨76,0,true⟩,(Wz prog 225 (pn 713) 2),(Zk prog 225 (pn 713) 1),none,[],Yy [(0,(.yld 1)),(1,(.ptr 2 0)),(2,(.ptr 4 0)),(4,(ii aZ)),(72,(.yld 1)),(73,(.agg [(ii v1),(ii v2),(.sl 6 0 1 (.ex 1))]))]⟩,⟨⟨29,0,true⟩,none,(.inRangeFunc 1::(Zk prog 167 (pn 43) 1)),none,(Zy prog 10),Yy [(2,.nils),(3,(ii 0)),(4,(.ptr 0 0))]⟩],(DA [(1,⟨.busy,none,29,Yy [(4,(.ptr 0 0))],[11],(Xt prog 167 [1,1,0,1,0,0]),(Xt prog 167 [1,1,0,1,0,1])⟩)])⟩
 | .h4 v2 v8 dO cW aZ aC bI bG bY dA dN aY=>⟨⟨94,0,true⟩,none,(Zk prog 171 (pn 146) 0),none,[],⟨Yy [(0,(.ptr 0 0)),(2,(ii v2)),(8,(ii v8))],Cs [(0,⟨[(.sla 1 4 0 aC.length (.un 4)),(dt bI),(ii bG),(ii bY)],235,none⟩),(1,(rz aC 168 4)),(3,⟨[(.sla 4 1 0 dA (.un 1))],83,none⟩),(4,(rz dN 3 1)),(5,⟨[(.sl 6 0 1 (.un 1))],201,none⟩),(6,(Si l0)),(7,⟨[(dt aY)],233,none⟩)],8,[],true⟩,[⟨⟨29,0,true⟩,(Wz prog 167 (pn 427) 5),(Zk prog 167 (pn 427) 1),(some 2),[],Yy [(4,(.ptr 0 0)),(21,(ii dO)),(23,(ii v2)),(24,(dt cW))]⟩,⟨⟨76,0,true⟩,(Wz prog 225 (pn 713) 2),(Zk prog 225 (pn 713) 1),none,[],Yy [(0,(.yld 2)),(1,(.ptr 3 0)),(2,(.ptr 5 0)),(4,(ii aZ)),(72,(.yld 2)),(73,(.agg [(ii dO),(ii v2),(.sl 7 0 1 (.ex 1))]))]⟩,⟨⟨29,0,true⟩,none,(.inRangeFunc 2::(Zk prog 167 (pn 43) 1)),none,(Zy prog 10),Yy [(2,.nils),(3,(ii 0)),(4,(.ptr 0 0))]⟩],(DA [(2,⟨.busy,none,29,Yy [(4,(.ptr 0 0))],[11],(Xt prog 167 [1,1,0,1,0,0]),(Xt prog 167 [1,1,0,1,0,1])⟩)])⟩
def Lh :List (Option zt):=[some [1,3,8,9,10,14,15,16],some [2,3,4,9]]
def Lj :List (Option zt):=[]
def j5x :List (Option zt):=[some [0,1,2,4],some [2,3,4]]
def j5y :List (Option zt):=[some [4],none,none,none,none,none,none]
def ZY :List (Option zt):=[some [0,1,2,4,5,6,29,30,31,36,37,38],some [2,3,4]]
def ZW :List (Option zt):=[some [4],none,none,none,none,none,none,none,none,none]
def ZZ :List (Option zt):=[some [0,1,2,71,72,73],some [4,21,23,24],some [0,1,2,4,72,73],some [2,3,4]]
def ZX :List (Option zt):=[none,some [4],none,none,none,none,none,none]
def Lg :List (Option zt):=[some [0,2,8],some [4,21,23,24],some [0,1,2,4,72,73],some [2,3,4]]
def Li :List (Option zt):=[none,none,some [4],none,none,none,none,none]
def Wc (l0:zu):IT->Xk IT
 | .h0 v16 aB=>let b:=Yq aB.length (CS (Zz (Wj (Yq aB.length (CS (Zz aB))))));let d:=rd l0 v16.toNat;(bif (decide (v16<(l0.length:Int))) then (bif ((decide (0<=v16/\v16<(l0.length:Int)))&&true) then (bif (Nat.beq 1 1&&((decide (0+aB.length=aB.length))&&decide ((aB.length+2+1)*(8+1)<=Vg))) then (.to (.h0 (wrap .i64 (v16+1)) (aB++[d.a,d.c]))) else .stuck) else .stuck) else (bif (decide (aB.length<4611686018427387904)) then (bif (decide (aB.length=aB.length)) then (.to (.h1 1 ([]:zu) ([]:zp) 0 0 (Ls b) (Wt b))) else .stuck) else .stuck))
 | .h1 v4 aN bZ cL cP bJ bD=>(bif (decide (v4<((bJ:Nat):Int))) then (bif ((decide (0<=(wrap .i64 (v4 - 1))/\(wrap .i64 (v4 - 1))<((bJ:Nat):Int)))&&true) then (bif (decide ((0+(Int.toNat (wrap .i64 (v4 - 1))))<bD.length)) then (bif ((decide (0<=v4/\v4<((bJ:Nat):Int)))&&true) then (bif (decide ((0+v4.toNat)<bD.length)) then (.to (.h2 v4 0 aN bZ cL cP bJ bD (rd bD (0+(Int.toNat (wrap .i64 (v4 - 1))))) (rd bD (0+v4.toNat)) ([]:zp))) else .stuck) else .stuck) else .stuck) else .stuck) else (bif (decide ((aN.length:Int)>400)) then (.ret [.nils,(.int .i64 4)]) else (.ret [(dt aN),(.int .i64 0)])))
 | .h2 v4 v38 aN bZ cL cP bJ bD aE dD aY=>let e:=Wk (CB aY);let f:=rd l0 v38.toNat;(bif (decide (v38<(l0.length:Int))) then (bif ((decide (0<=v38/\v38<(l0.length:Int)))&&true) then (bif (decide (f.a <=aE)) then (bif (decide (aE<f.c)) then (bif (Nat.beq 2 2&&((decide (0+aY.length=aY.length))&&decide ((aY.length+1+1)*(16+1)<=Vg))) then (.to (.h2 v4 (wrap .i64 (v38+1)) aN bZ cL cP bJ bD aE dD (aY++[(R2.mk f.b f.d)]))) else .stuck) else (.to (.h2 v4 (wrap .i64 (v38+1)) aN bZ cL cP bJ bD aE dD aY))) else (.to (.h2 v4 (wrap .i64 (v38+1)) aN bZ cL cP bJ bD aE dD aY))) else .stuck) else (bif (y6f (CB aY)) then (bif (decide (((e.length :Nat):Int)>0)) then (bif (cP == aE) then (bif (Ug (CB bZ) (CB e)) then (bif (Qr (CB bZ) (CB e)) then (.to (.h4 dD cL aE e v4 aN bZ cL cP bJ bD aY)) else (.to (.h3 aE dD e ((e.length :Nat):Int) 0 e v4 aN e (aN.length:Int) bJ bD aY))) else .stuck) else (.to (.h3 aE dD e ((e.length :Nat):Int) 0 e v4 aN e (aN.length:Int) bJ bD aY))) else (.to (.h3 aE dD e ((e.length :Nat):Int) 0 e v4 aN e (aN.length:Int) bJ bD aY))) else .stuck))
 | .h3 v1 v2 v71 v72 v73 cW aZ aC bI bG bJ bD aE=>let c:=rd v71 v73.toNat;(bif (decide (v73<v72)) then (bif ((decide (0<=v73/\v73<(v71.length:Int)))&&true) then (bif (Nat.beq 4 4&&((decide (0+aC.length=aC.length))&&decide ((aC.length+1+1)*(32+1)<=Vg))) then (.to (.h3 v1 v2 v71 v72 (wrap .i64 (v73+1)) cW aZ (aC++[(R4.mk v1 c.a v2 c.b)]) bI bG bJ bD aE)) else .stuck) else .stuck) else (.to (.h1 (wrap .i64 (aZ+1)) aC bI bG v2 bJ bD)))
 | .h4 v2 v8 dO cW aZ aC bI bG bY dA dN aY=>let c:=rd aC (0+v8.toNat);(bif (decide (v8<(aC.length:Int))) then (bif ((decide (0<=v8/\v8<(aC.length:Int)))&&true) then (bif (decide ((0+v8.toNat)<aC.length)) then (.to (.h4 v2 (wrap .i64 (v8+1)) dO cW aZ (aC.set (0+v8.toNat) (R4.mk c.a c.b v2 c.d)) bI bG bY dA dN aY)) else .stuck) else .stuck) else (.to (.h1 (wrap .i64 (aZ+1)) aC bI bG v2 dA dN)))
def x3o (l0:zu):Xk IT:=(.to (.h0 0 ([]:zq)))
theorem v0h (l0:zu): ∀s,Xh prog (Zy prog 167) (OV l0) (OV l0 s) (Wc l0 s)
 | .h0 v16 aB=>(lb (fun k0=>(lo fun o0=>(lo fun o1=>let j:=y1y aB l0 v16;let n:=aB.length+2;let e:=xL n j.length;let g:=j;let m:=rd l0 (tn v16);let i:=Zr (Zz aB) 0 aB.length 1 [(ii m.a),(ii m.c)];(sl Kt 32 [] ⟨[0,1,2,3,7],[],Lh,Lj⟩ ⟨[],[.keep,.keep,.cells [.len g.length],.keep,.rowed 1 g.length (Zz g)],[]⟩ [true] (pp e (pp e (pp (xS n i (Zz j)) (pp (pp (xF i) nn) (ww o1 (ww o0 (tt k0 nn))))))))))) (fun k0=>(lo fun o0=>(lo fun o1=>let b:=xG (Nat.beq 1 1);let d:=xG (decide (aB.length<4611686018427387904));let f:=xG (decide (aB.length=aB.length));let h:=xG (Nat.beq 0 0);let l:=Zz (RH aB);(sl Kt 46 [(168,4,Zz ([]:zu))] ⟨[5,3,2,4,0,1,6],[],j5x,j5y⟩ ⟨[],[.keep,.cells [.grow 6 4,.list 0 (Zz ([]:zp)),.keep,.keep],.keep,.rowed 1 (RH aB).length l,.keep,.keep,.keep],[]⟩ (bl 2 0) (pp (xL aB.length (RH aB).length (by first | exact SQ _ _ | exact Jj rfl)) (pp (xS aB.length l l) (pp (fl (RH aB) (fl ([]:zu) nn)) (pp (pp b (pp b (pp h (pp f (pp (xG (FG (Zz (Wj (Yq aB.length (CS (Zz aB))))))) d))))) (pp (pp b (pp b (pp h (pp f (pp (xG (FG (Zz aB))) d))))) (tt k0 nn)))))))))))
 | .h1 v4 aN bZ cL cP bJ bD=>(lb (fun k0=>(lo fun o0=>(lo fun o1=>(lo fun o2=>(lo fun o3=>(sl Kt 48 [(260,2,Zz ([]:zp))] ⟨[0,1,2,3,4,5,7,8,9,6],[],ZY,ZW⟩ ⟨[],(DN 7 [.cells [.grow 8 2],.keep,.keep]),[]⟩ (CL 3 []) (pp (fl bD (fl ([]:zp) (fl aN nn))) (ww o3 (ww o2 (ww o1 (ww o0 (tt k0 nn)))))))))))) (fun k0=>(lb (fun k1=>(lr 29 3 (pn 191) 1 10 [(2,.nils),(3,(ii 4))] (sl Kt 43 [] (b8 [2,3]) b7 (bl 2 2) (tt k1 (tt k0 nn))))) (fun k1=>(lr 29 3 (pn 191) 1 10 [(2,(dt aN)),(3,(ii 0))] (sl Kt 48 [] ⟨[],[6],[some [2,3]],[]⟩ ⟨[(2,.frz aN.length aN.length (Zz aN) (Zz aN))],[],[]⟩ (bl 2 0) (pp (xZ (DE 4 4 0 aN.length aN.length (Zz aN)) aN.length (Zz aN)) (pp (xL aN.length aN.length) (pp (xS aN.length (Zz aN) (Zz aN)) (pp (fl aN nn) (tt k1 (tt k0 nn))))))))))))
 | .h2 v4 v38 aN bZ cL cP bJ bD aE dD aY=>(lb (fun k0=>(lo fun aK=>let f:=ww aK (tt k0 nn);let j:=fl bD (fl aY (fl aN nn));let o:=List.range 10;(lb (fun k1=>(lb (fun k2=>(lo fun o0=>let r:=y2a aY l0 v38;let t:=aY.length+1;let e:=xL t r.length;let i:=r;let s:=rd l0 (tn v38);let p:=Zr (Zz aY) 0 aY.length 2 [(ii s.b),(ii s.d)];(sl Kt 39 [] ⟨[0,1,2,3,4,5,6,7,12,9],[],ZY,ZW⟩ ⟨[],(DN 7 [.cells [.len i.length],.rowed 2 i.length (Zz i),.keep]),[]⟩ (CL 7 []) (pp e (pp e (pp (xS t p (Zz r)) (pp (fl bD (pp (xF p) (fl aN nn))) (ww o0 (tt k2 (tt k1 f)))))))))) (fun k2=>(sl Kt 39 [] ⟨o,[],ZY,ZW⟩ b7 (CL 6 [false]) (pp j (tt k2 (tt k1 f))))))) (fun k1=>(sl Kt 39 [] ⟨o,[],ZY,ZW⟩ b7 (bl 7 1) (pp j (tt k1 f))))))) (fun k0=>let c:=xZ (DE 2 2 0 aY.length aY.length (Zz aY)) aY.length (Zz aY);let h:=xS aY.length (Zz aY) (Zz aY);let l:=xL aY.length aY.length;let m:=fl aN (fl bD nn);(Un (sl Kt (C':=⟨⟨29,0,true⟩,(Wz prog 167 (pn 299) 4),(Zk prog 167 (pn 299) 1),(some 0),[],⟨Yy [(4,(.ptr 1 0)),(5,(.ptr 3 0)),(16,(dt aY))],Cs [(1,⟨[(.sla 2 4 0 aN.length (.un 4)),(dt bZ),(ii cL),(ii cP)],235,none⟩),(2,(rz aN 168 4)),(3,⟨[(ii aE),(ii dD),(.sl 4 0 1 (.ex 1))],240,none⟩),(4,⟨[(dt aY)],233,none⟩),(5,⟨[(.sla 6 1 0 bJ (.un 1))],83,none⟩),(6,(rz bD 3 1)),(7,⟨[(.sl 8 0 1 (.un 1))],201,none⟩),(8,⟨[(dt l0)],195,none⟩)],9,[],true⟩,[⟨⟨76,0,true⟩,(Wz prog 225 (pn 713) 2),(Zk prog 225 (pn 713) 1),none,[],Yy [(0,(.yld 0)),(1,(.ptr 5 0)),(2,(.ptr 7 0)),(4,(ii v4)),(72,(.yld 0)),(73,(.agg [(ii aE),(ii dD),(.sl 4 0 1 (.ex 1))]))]⟩,⟨⟨29,0,true⟩,none,(.inRangeFunc 0::(Zk prog 167 (pn 43) 1)),none,(Zy prog 10),Yy [(2,.nils),(3,(ii 0)),(4,(.ptr 1 0))]⟩],(DA [(0,⟨.busy,none,29,Yy [(4,(.ptr 1 0))],[11],(Xt prog 167 [1,1,0,1,0,0]),(Xt prog 167 [1,1,0,1,0,1])⟩)])⟩) 37 [] ⟨[0,1,9,10,7,2,3,4,5],[8],[some [4,5,16],some [0,1,2,4,72,73],some [2,3,4]],[some [4],none,none,none,none,none,none,none,none]⟩ ⟨[(16,.frz aY.length aY.length (Zz aY) (Zz aY))],[.keep,.keep,.keep,.keep,.cells [.frz aY.length aY.length (Zz aY) (Zz aY)],.keep,.keep,.keep,.keep],[]⟩ (bl 2 0) (pp c (pp l (pp h (pp c (pp l (pp h (pp m (pp (fl aY nn) (tt k0 nn)))))))))) (lo fun aK=>let a:=pp (pp (xr aY) (xw aK)) nn;let g:=fl bD (fl aN nn);(lb (fun k1=>(lb (fun k2=>(lo fun cT=>let n:=tt k2 (tt k1 a);let q:=Wk (CB aY);(lb (fun k3=>(sl Kt 49 [] ⟨[1,2,0,5,6,7,8,4],[],Lg,Li⟩ b7 (CL 13 []) (pp m (tt k3 (pp (pp (xr bZ) (pp (xI R2 q.length (Zz q)) (xw cT))) n))))) (fun k3=>(sl Kt 69 [] ⟨[1,0,5,6,7,8,4,2],[],ZZ,ZX⟩ b7 (CL 12 [false]) (pp g (tt k3 (pp (pp (xr bZ) (pp (xI R2 q.length (Zz q)) (xw cT))) n)))))))) (fun k2=>(sl Kt 69 [] ⟨[1,0,5,6,7,8,4,2],[],ZZ,ZX⟩ b7 (CL 6 (bl 7 0)) (pp g (tt k2 (tt k1 a))))))) (fun k1=>(sl Kt 69 [] ⟨[1,0,5,6,7,8,4,2],[],ZZ,ZX⟩ b7 (bl 13 0) (pp g (tt k1 a)))))))))
 | .h3 v1 v2 v71 v72 v73 cW aZ aC bI bG bJ bD aE=>(lb (fun k0=>(lo fun o0=>(lo fun o1=>let f:=y1z aC v1 v71 v73 v2;let h:=aC.length+1;let c:=xL h f.length;let d:=f;let g:=rd v71 (tn v73);let e:=Zr (Zz aC) 0 aC.length 4 [(ii v1),(ii g.a),(ii v2),(ii g.b)];(sl Kt 23 [] ⟨[0,1,2,3,4,5,6,10],[],ZZ,ZX⟩ ⟨[],[.cells [.len d.length,.keep,.keep,.keep],.keep,.keep,.keep,.keep,.keep,.keep,.rowed 4 d.length (Zz d)],[]⟩ [true] (pp c (pp c (pp (xS h e (Zz f)) (pp (fl bD (pp (xF e) nn)) (ww o1 (ww o0 (tt k0 nn))))))))))) (fun k0=>(sl Kt 22 [] ⟨[1,0,2,3,4,5,7],[],j5x,j5y⟩ b7 (bl 2 0) (pp (fl bD (fl aC nn)) (tt k0 nn)))))
 | .h4 v2 v8 dO cW aZ aC bI bG bY dA dN aY=>(lb (fun k0=>(lo fun o0=>(lo fun o1=>let d:=y2c aC v8 v2;let a:=xL aC.length d.length;let b:=d;let c:=Xg (Zz aC) (0+(tn v8)) 2 [(ii v2)];(sl Kt 33 [] ⟨(List.range 8),[],Lg,Li⟩ ⟨[],[.cells [.len b.length,.keep,.keep,.keep],.rowed 4 b.length (Zz b),.keep,.keep,.keep,.keep,.keep,.keep],[]⟩ [true] (pp a (pp a (pp (xS aC.length c (Zz d)) (pp (pp (xF c) (fl dN nn)) (ww o1 (ww o0 (tt k0 nn))))))))))) (fun k0=>(sl Kt 36 [] ⟨[2,0,3,4,5,6,1],[],j5x,j5y⟩ b7 (bl 2 0) (pp (fl dN (fl aC nn)) (tt k0 nn)))))
theorem w1o (l0:zu):Xh prog (Zy prog 167) (OV l0) (Zb prog 167 [(dt l0)] true []) (x3o l0):=(sl Kt 56 [(3,1,Zz ([]:zq))] ⟨[2,1,3,0,4],[],Lh,Lj⟩ ⟨[],[.keep,.keep,.cells [.grow 4 1],.keep,.keep],[]⟩ [true] (pp (fl ([]:zq) nn) nn))
theorem u4c (l0:zu) (n:Nat) (vs:zy) (h:Yj (Wc l0) n (x3o l0)=.ret vs):Ji prog (Zy prog 167) (Zb prog 167 [(dt l0)] true []) vs:=by have:=Zf (v0h l0) n _ (w1o l0);rwa [h] at this
theorem TH {i n:Nat} (h:i<n):decide ((i:Int)<(n:Int))=true:=by grind
theorem SO {σ:Type} (step:σ->Xk σ) (a b:Nat) (s:Xk σ):Yj step (a+b) s=Yj step a (Yj step b s):=by
 induction b generalizing s with
 | zero=>cases s <;> simp [Yj]
 | succ b ih=>cases s with
  | «to» s=>exact ih (step s)
  | ret vs=>simp only [Zc]
  | stuck=>cases a <;> cases b <;> rfl
theorem Y9 {i:Nat}:decide ((i:Int)>=0)=true:=by grind
def Qv {α:Type} [Xp α] (out:List α):zy:=bif decide ((out.length:Int)>400) then [.nils,.int .i64 4] else [.dat out.length (Zz out),.int .i64 0]
def Df {α:Type} [Xp α] (e:Int) (L:List α):zy:=bif e != 0 then [.nils,.int .i64 e] else [.dat L.length (Zz L),.int .i64 0]
def E6 {α:Type} (e:Int) (L:List α):List α:=bif e != 0 then [] else L
theorem SB {α:Type} [Xp α] (e:Int) (L:List α) (ρ:CF) (u:Value) (hu:VRel ρ (Jd (Df e L)) u):VRel ρ (.tup [.dat (E6 e L).length (Zz (E6 e L)),.int .i64 e]) u:=by
 unfold Df at hu;unfold E6;by_cases h:e=0
 .subst h;exact hu
 .have h:(e != 0)=true:=by simpa using h
  rw [h] at hu ⊢;exact FJ (.cons (MY α) (DJ.refl _)) ρ u hu
theorem So {α:Type} [Xp α] (e:Int) (L:List α):pf 3 (Jd (Df e L))=true:=by unfold Df;cases (e != 0) <;> rfl
def Dc (n:Nat):Int:=bif decide ((n:Int)>400) then 4 else 0
theorem YI {α:Type} [Xp α] (L:List α):Qv L=Df (Dc L.length) L:=by
 grind [Qv,Df,Dc]
theorem HS {α:Type} [Xp α] {e:Int} (L:List α) (h:(e != 0)=true):Df e L=[.nils,.int .i64 e]:=by unfold Df;rw [h];rfl
theorem x0n : ∀(L:zo) (o last:Int) (inn:Bool) (out:zp),(Gz L o last inn out).length <=out.length+L.length
 | [],_,_,_,out=>Aq _
 | e::r,o,last,inn,out=>by rw [Xl];have:=x0n r (o+e.c) e.a (decide (o+e.c>0)) (Us out last inn e.a);have:=z3w out last inn e.a;simp only [Ba];omega
theorem y6e (l:zo):(Ck l).length =l.length:=by
 by_cases h:DS l=true
 .exact (Qo l h).1.length_eq
 .unfold Ck;grind
theorem x8z (l:zp):(Wk l).length <=800:=by
 grind [Wk,FT,x0n,y6e,z5r]
def CW (r:R4):Bool:=decide (r.a<r.c)&&(decide (r.b<r.d)&&(decide (r.a>= -1000000)&&(decide (r.a<=1000000)&&(decide (r.c>= -1000000)&&(decide (r.c<=1000000)&&(decide (r.b>= -1000000)&&(decide (r.b<=1000000)&&(decide (r.d>= -1000000)&&decide (r.d<=1000000)))))))))
def D4 :CM R4 R2:=⟨R4.a,R4.c,fun r=>⟨r.b,r.d⟩,fun x x' s=>⟨x,s.a,x',s.b⟩,fun x r=>⟨r.a,r.b,x,r.d⟩,Wk,Qr⟩
theorem QQ (l:zu) (x:Int):(D4.sec l x).length <=1000:=AI (x8z _) (by omega)
section
variable (l:zu) (hl:l.length<=400)
include hl
theorem j0m (i:Nat) (out:zu) (last:zp) (first fin x x':Int): ∀(k j:Nat) (acc:zp),j+k=l.length->acc.length<=j->
  ∃n,∀N,Yj (Wc l) (N+n) (.to (.h2 (i:Int) (j:Int) out last first fin ((D4.cuts l).length) (Wt (Wj (D4.ends l))) x x' acc))=Yj (Wc l) N (.to (.h2 (i:Int) (l.length:Int) out last first fin ((D4.cuts l).length) (Wt (Wj (D4.ends l))) x x' (acc++D4.inn (l.drop j) x)))
 | 0,j,acc,h,ha=>by refine ⟨0,fun N=> ?_⟩;rw [Aw (by omega),show D4.inn ([]:zu) x=[] from rfl,AG,Bo,show j=l.length by omega]
 | k+1,j,acc,h,ha=>by
  have hj:j<l.length:=by omega
  obtain ⟨n,hn⟩:=j0m i out last first fin x x' k (j+1) (acc++D4.inn [rd l j] x) (by omega) (by have:=D4.inn_length [rd l j] x;grind)
  refine ⟨n+1,fun N=> ?_⟩;have e:D4.inn (l.drop j) x=D4.inn [rd l j] x++D4.inn (l.drop (j+1)) x:=by rw [Yn hj,<-D4.inn_append];rfl
  rw [e,<-AK,Zx,<-AH,<-hn N];by_cases h1:D4.lo (rd l j)<=x
  .by_cases h2:x<D4.hi (rd l j)
   .rw [D4.inn_t _ _ h1 h2];simp only [D4] at h1 h2 ⊢;simp (disch:=omega) only [Wc,Xs,Zd,Zp,Zt,Zn,Yd,Yp,Yg,Zh,Zq,Zv,Yb,Zj,Ah,Au,Aj,Al,Ab,Aa]
   .rw [D4.inn_f2 _ _ h2,AG];simp only [D4] at h1 h2;simp (disch:=omega) only [Wc,Xs,Yc,Zd,Zp,Zt,Zn,Yd,Yp,Yg,Zh,Zq,Zv,Yb,Zj,Ah,Au,Aj,Al,Ab,Aa]
  .rw [D4.inn_f1 _ _ h1,AG];simp only [D4] at h1;simp (disch:=omega) only [Wc,EZ,Zd,Zp,Zt,Zn,Yd,Yp,Yg,Zh,Zq,Zv,Yb,Zj,Ah,Au,Aj,Al,Ab,Aa]
theorem j0l (i:Nat) (hi:i<=1000) (x x':Int) (s last:zp) (first:Int) (inn:zp) (hs:s.length<=1000): ∀(k j:Nat) (out:zu),j+k=s.length->out.length<=10000000+j->
  ∃n,∀N,Yj (Wc l) (N+n) (.to (.h3 x x' s (s.length:Int) (j:Int) s (i:Int) out last first ((D4.cuts l).length) (Wt (Wj (D4.ends l))) inn))=Yj (Wc l) N (.to (.h1 ((i+1:Nat):Int) (out++(s.drop j).map (D4.put x x')) last first x' ((D4.cuts l).length) (Wt (Wj (D4.ends l)))))
 | 0,j,out,h,ho=>by
  have _u:=hl;refine ⟨1,fun N=> ?_⟩
  grind [Zx,Wc,Zq]
 | k+1,j,out,h,ho=>by
  obtain ⟨n,hn⟩:=j0l i hi x x' s last first inn hs k (j+1) (out++[D4.put x x' (rd s j)]) (by omega) (by simp;omega)
  refine ⟨n+1,fun N=> ?_⟩;have:=hn N;rw [Yn (show j<s.length by omega),AT,<-AK,Zx];simp (disch:=omega) only [Wc,Zd,Zp,Zt,Zn,Yd,Yp,Yg,Zh,Zq,Zv,Yb,Zj,Ah,Au,Aj,Al,Ab,Aa];rw [AH] at this;exact this
theorem j0k (i:Nat) (hi:i<=1000) (x x' fin:Int) (s last:zp) (first:Int) (inn:zp): ∀(k j:Nat) (out:zu),j+k=out.length->out.length<=10000000->
  ∃n,∀N,Yj (Wc l) (N+n) (.to (.h4 x' (j:Int) x s (i:Int) out last first fin ((D4.cuts l).length) (Wt (Wj (D4.ends l))) inn))=Yj (Wc l) N (.to (.h1 ((i+1:Nat):Int) (D4.grow out j x') last first x' ((D4.cuts l).length) (Wt (Wj (D4.ends l)))))
 | 0,j,out,h,ho=>by
  have _u:=hl;refine ⟨1,fun N=> ?_⟩;rw [D4.grow_nil _ _ _ (by omega),Zx]
  grind [Wc,Zq]
 | k+1,j,out,h,ho=>by
  obtain ⟨n,hn⟩:=j0k i hi x x' fin s last first inn k (j+1) (out.set j (D4.ext x' (rd out j))) (by simp;omega) (by grind)
  refine ⟨n+1,fun N=> ?_⟩;have:=hn N;rw [D4.grow_set out j _ (by omega)] at this;rw [<-AK,Zx];simp (disch:=omega) only [Wc,Zd,Zp,Zt,Zn,Yd,Yp,Yg,Zh,Zq,Zv,Yb,Zj,Ah,Au,Aj,Al,Ab,Aa];exact this
theorem v6w : ∀(k i:Nat) (s:Sw R4 R2),k=(D4.cuts l).length - 1 - i->i<=(D4.cuts l).length ->s.out.length<=i*1000->s.last.length<=1000->s.first<=s.out.length->
  ∃n,Yj (Wc l) n (.to (.h1 ((i+1:Nat):Int) s.out s.last (s.first:Int) s.fin ((D4.cuts l).length) (Wt (Wj (D4.ends l)))))=.ret (Qv (D4.go l k i s).out)
 | 0,i,s,h,hi,ho,hla,hf=>by
  have hc:=D4.cuts_length l;refine ⟨1,?_⟩;rw [Zx,show D4.go l 0 i s=s from rfl]
  grind [Qv,Wc,Zc]
 | k +1,i,s,h,hi,ho,hla,hf=>by
  have hc:=D4.cuts_length l;have hi1:i+1<(D4.cuts l).length :=by omega
  have hpl:(Wt (Wj (D4.ends l))).length =2*l.length:=by rw [Qp,Kq,D4.ends_length]
  have r0:rd (Wt (Wj (D4.ends l))) i=rd (D4.cuts l) i:=Gj _ _ (by show i<(D4.cuts l).length;omega);have r1:rd (Wt (Wj (D4.ends l))) (i+1)=rd (D4.cuts l) (i+1):=Gj _ _ (by show i+1<(D4.cuts l).length;omega);have hbig:i*1000<=1000*1000:=AE _ (by omega);have hsl:=QQ l (rd (D4.cuts l) i);have hsd:D4.sec l (rd (D4.cuts l) i)=Wk (D4.inn l (rd (D4.cuts l) i)):=rfl;obtain ⟨n3,h3⟩:=j0m l hl (i+1) s.out s.last (s.first:Int) s.fin (rd (D4.cuts l) i) (rd (D4.cuts l) (i+1)) l.length 0 [] (Ah _) (Aq _);simp only [AR,A0,EB] at h3;have w1:y6f (D4.inn l (rd (D4.cuts l) i))=true:=rfl;have w2:Ug s.last (Wk (D4.inn l (rd (D4.cuts l) i)))=true:=Af (by omega);have ol:=D4.one_length l (rd (D4.cuts l) i) (rd (D4.cuts l) (i+1)) s;have st0: ∀N,Yj (Wc l) (N+n3+1) (.to (.h1 ((i+1:Nat):Int) s.out s.last (s.first:Int) s.fin ((D4.cuts l).length) (Wt (Wj (D4.ends l)))))=Yj (Wc l) N (.to (.h2 ((i+1:Nat):Int) (l.length:Int) s.out s.last (s.first:Int) s.fin ((D4.cuts l).length) (Wt (Wj (D4.ends l))) (rd (D4.cuts l) i) (rd (D4.cuts l) (i+1)) (D4.inn l (rd (D4.cuts l) i)))):=fun N=>by
   rw [<-h3 N,Zx];have e1:wrap .i64 (((i+1:Nat):Int) - 1)=(i:Int):=by rw [Yx];exact Zq (by omega)
   simp (disch:=omega) only [Wc,e1,r0,r1,Zd,Zp,Zt,Zn,Yd,Yp,Yg,Zh,Zq,Zv,Yb,Zj,Ah,Au,Aj,Al,Ab,Aa]
  rcases Xw (decide (0<(D4.sec l (rd (D4.cuts l) i)).length)&&((s.fin == rd (D4.cuts l) i)&&D4.same s.last (D4.sec l (rd (D4.cuts l) i)))) with q | q
  .obtain ⟨n5,h5⟩:=j0k l hl (i+1) (by omega) (rd (D4.cuts l) i) (rd (D4.cuts l) (i+1)) s.fin (D4.sec l (rd (D4.cuts l) i)) s.last (s.first:Int) (D4.inn l (rd (D4.cuts l) i)) (s.out.length - s.first) s.first s.out (by omega) (by omega)
   have e:D4.one l (rd (D4.cuts l) i) (rd (D4.cuts l) (i+1)) s=⟨D4.grow s.out s.first (rd (D4.cuts l) (i+1)),s.last,s.first,rd (D4.cuts l) (i+1)⟩:=by unfold CM.one;rw [q];rfl
   obtain ⟨n0,h0⟩:=v6w k (i+1) (D4.one l (rd (D4.cuts l) i) (rd (D4.cuts l) (i+1)) s) (by omega) (by omega) (by omega) (by grind) (by grind [CM.grow_length]);refine ⟨n0+n5+1+n3+1,?_⟩;rw [st0 (n0+n5+1),Zx];simp only [Ac,Ao] at q;obtain ⟨q1,q2,q3⟩:=q;have q3':Qr s.last (Wk (D4.inn l (rd (D4.cuts l) i)))=true:=q3
   grind [Wc,Zd,CM.go]
  .obtain ⟨n4,h4⟩:=j0l l hl (i+1) (by omega) (rd (D4.cuts l) i) (rd (D4.cuts l) (i+1)) (D4.sec l (rd (D4.cuts l) i)) (D4.sec l (rd (D4.cuts l) i)) (s.out.length:Int) (D4.inn l (rd (D4.cuts l) i)) hsl (D4.sec l (rd (D4.cuts l) i)).length 0 s.out (Ah _) (by omega);simp only [AR,EB] at h4;have e:D4.one l (rd (D4.cuts l) i) (rd (D4.cuts l) (i+1)) s=⟨s.out++(D4.sec l (rd (D4.cuts l) i)).map (D4.put (rd (D4.cuts l) i) (rd (D4.cuts l) (i+1))),D4.sec l (rd (D4.cuts l) i),s.out.length,rd (D4.cuts l) (i+1)⟩:=by unfold CM.one;rw [q];rfl
   obtain ⟨n0,h0⟩:=v6w k (i+1) (D4.one l (rd (D4.cuts l) i) (rd (D4.cuts l) (i+1)) s) (by omega) (by omega) (by omega) (by grind) (by rw [e];simp);have hg:Yj (Wc l) 1 (.to (.h2 ((i+1:Nat):Int) (l.length:Int) s.out s.last (s.first:Int) s.fin ((D4.cuts l).length) (Wt (Wj (D4.ends l))) (rd (D4.cuts l) i) (rd (D4.cuts l) (i+1)) (D4.inn l (rd (D4.cuts l) i))))=.to (.h3 (rd (D4.cuts l) i) (rd (D4.cuts l) (i+1)) (D4.sec l (rd (D4.cuts l) i)) ((D4.sec l (rd (D4.cuts l) i)).length :Int) 0 (D4.sec l (rd (D4.cuts l) i)) ((i+1:Nat):Int) s.out (D4.sec l (rd (D4.cuts l) i)) (s.out.length:Int) ((D4.cuts l).length) (Wt (Wj (D4.ends l))) (D4.inn l (rd (D4.cuts l) i))):=by
    rw [show (1:Nat)=0+1 from rfl,Zx];rw [hsd] at q ⊢;have e3:D4.same s.last (Wk (D4.inn l (rd (D4.cuts l) i)))=Qr s.last (Wk (D4.inn l (rd (D4.cuts l) i))):=rfl;rw [e3] at q;by_cases q1:0<(Wk (D4.inn l (rd (D4.cuts l) i))).length
    .rw [Af q1,Al] at q;rcases Xw (s.fin == rd (D4.cuts l) i) with q2 | q2
     .rw [q2,Al] at q;simp (disch:=omega) only [Wc,Zd,Zp,Yc,Yo,q2,q,w1,w2,Ab,Aa];rfl
     .simp (disch:=omega) only [Wc,Zd,Zp,Yc,Yo,q2,w1,w2,Ab,Aa];rfl
    .simp (disch:=omega) only [Wc,Zd,Zp,Yc,Xb,w1,w2,Ab,Aa];rfl
   refine ⟨n0+n4+1+n3+1,?_⟩;simp_all [SO,CM.go]
theorem j0n : ∀(k i:Nat) (acc:zq),i+k=l.length->acc=D4.ends (l.take i)-> ∃n,Yj (Wc l) n (.to (.h0 (i:Int) acc))=.ret (Qv (D4.go l ((D4.cuts l).length - 1) 0 ⟨[],[],0,0⟩).out)
 | 0,i,acc,h,ha=>by
  have e:acc=D4.ends l:=by grind
  subst e;have hle:=D4.ends_length l;obtain ⟨n,hn⟩:=v6w l hl ((D4.cuts l).length - 1) 0 ⟨[],[],0,0⟩ (by omega) (AA _) (AA _) (AA _) (AA _);refine ⟨n+1,?_⟩;rw [Zx];simp (disch:=omega) only [Wc,Qm,S0,Sg,Yc,Yp,Yg,Au,Ab,Aa];exact hn
 | k+1,i,acc,h,ha=>by
  have hle:=D4.ends_length (l.take i);have gQ:acc.length<=2*i:=by grind
  obtain ⟨n,hn⟩:=j0n k (i+1) (acc++D4.ends [rd l i]) (by omega) (by
   rw [ha,A4];have:l[i]? =some (rd l i):=by grind [Xm]
   rw [this,D4.ends_append];rfl)
  refine ⟨n+1,?_⟩;rw [Zx];simp (disch:=omega) only [Wc,Zd,Zp,Zt,Zn,Yd,Yp,Yg,Zh,Zq,Zv,Yb,Zj,Ah,Au,Aj,Al,Ab,Aa];exact hn
end
def Ob (l:zu):Int:=Dc (D4.out l).length
def Vy (l:zu):zu:=E6 (Ob l) (D4.out l)
def Fh (l:zu):Int:=Ob l
def JH (l:zu):Bool:=decide (l.length<=400)
theorem j5w (l:zu) (h:JH l=true): ∃n,Yj (Wc l) n (x3o l)=.ret (Df (Ob l) (D4.out l)):=by rw [show Df (Ob l) (D4.out l)=Qv (D4.out l) from (YI _).symm];exact j0n l (Ay h) l.length 0 [] (Ah _) rfl
def Oh (a b c d:Int):Bool:=CW ⟨a,b,c,d⟩
theorem j1z (a b c d:Int): ∃N,Yj (x8l a b c d) N (YA a b c d)=.ret [.bool (Oh a b c d)]:=⟨0,by
 unfold YA Oh CW;simp only [Se];cases decide (a<c) <;> cases decide (b<d) <;> cases decide (a>= -1000000) <;> cases decide (a<=1000000) <;> cases decide (c>= -1000000) <;> cases decide (c<=1000000) <;> cases decide (b>= -1000000) <;> cases decide (b<=1000000) <;> cases decide (d>= -1000000) <;> rfl⟩
def PK :zy->Option (CA×Bool)
 | [.agg [.int .i64 aM,.int .i64 aR,.int .i64 aS,.int .i64 aQ]]=>some (.bool (Oh aM aR aS aQ),true)
 | _=>none
theorem j7j {S:CC} (hS:Zu prog S):Zu prog (S.with w6d PK):=by
 refine C3 hS (by kernel_rfl) fun args v h=> ?_;unfold PK at h;split at h
 .rename_i aM aR aS aQ;simp only [Ae,Ad,B9] at h;subst h;obtain ⟨N,hN⟩:=j1z aM aR aS aQ;exact ⟨_,_,(.cons (.refl _) .nil),rfl,u0h aM aR aS aQ N _ hN,3,rfl⟩
 .cases h
def P5 :zy->Option (CA×Bool)
 | [a0]=>match C4 R4 a0 with
  | some (L0,g0,n0)=>some (.tup [.dat (Vy L0).length (Zz (Vy L0)),.int .i64 (Fh L0)],CU R4 n0 g0&&(JH L0))
  | _=>none
 | _=>none
theorem j8h {S:CC} (hS:Zu prog S):Zu prog (S.with v6r P5):=by
 refine GR hS (by kernel_rfl) fun args v h=> ?_;unfold P5 at h;split at h
 .rename_i a0;split at h
  .rename_i L0 g0 n0 e0;simp only [Ae,Ad,Ac] at h;obtain ⟨rfl,ho0,hw⟩:=h;obtain ⟨N,hN⟩:=j5w L0 hw;exact ⟨_,_,(.cons (Xy e0 ho0) .nil),SB _ _,u4c L0 N _ hN,3,So _ _⟩
  .cases h
 .cases h
def T6v :CC:=(T6.with w6d PK)
theorem QJ :Zu prog T6v:=(j7j Kt)
def T6m :CC:=(T6v.with v6r P5)
theorem Mi :Zu prog T6m:=(j8h QJ)
inductive Hw where
 | h0 (v8:Int)
def No (l0:zu):Hw->CJ
 | .h0 v8=>⟨⟨19,0,true⟩,none,(Zk prog 197 (pn 37) 0),none,(Zy prog 3),⟨Yy [(0,(dt l0)),(1,(.fn 165 [])),(7,(ii (l0.length:Int))),(8,(ii v8))],Wf [] 0,0,[],true⟩,[⟨⟨9,0,true⟩,(Wz prog 164 [1,0] 2),(Zk prog 164 [1,0] 1),none,(Zy prog 3),Yy [(5,(dt l0)),(6,(.fn 165 []))]⟩,⟨⟨13,0,true⟩,(Wz prog 140 (pn 19) 1),(Zk prog 140 (pn 19) 1),none,(Zy prog 10),Yy [(0,(dt l0)),(7,(dt l0))]⟩],.leaf⟩
def LP :List (Option zt):=[some [0,1,7,8],some [5,6],some [0,7]]
def LQ :List (Option zt):=[]
def Iw (l0:zu):Hw->Xk Hw
 | .h0 v8=>let e:=rd l0 v8.toNat;let f:=Vy (CB l0);(bif (decide (v8<(l0.length:Int))) then (bif ((decide (0<=v8/\v8<(l0.length:Int)))&&true) then (bif (!(Oh e.a e.b e.c e.d)) then (bif (decide (v8>=0)) then (.ret [.nils,(.int .i64 8)]) else (bif (JH (CB l0)) then (.ret [(.dat f.length (Zz f)),(.int .i64 (Fh (CB l0)))]) else .stuck)) else (.to (.h0 (wrap .i64 (v8+1))))) else .stuck) else (bif (JH (CB l0)) then (.ret [(.dat f.length (Zz f)),(.int .i64 (Fh (CB l0)))]) else .stuck))
def SG (l0:zu):Xk Hw:=(bif (decide ((l0.length:Int)>400)) then (.ret [.nils,(.int .i64 4)]) else (.to (.h0 0)))
theorem w9l (l0:zu): ∀s,Xh prog (Zy prog 140) (No l0) (No l0 s) (Iw l0 s)
 | .h0 v8=>let a:=Vy (CB l0);let c:=ii (Fh (CB l0));(lb (fun k0=>(lo fun aK=>let b:=ww aK (tt k0 nn);(lb (fun k1=>(lb (fun k2=>(lr 13 140 (pn 75) 1 10 [(2,.nils),(3,(ii 8))] (sl Mi 54 [] (b8 [2,3]) b7 (CL 3 []) (tt k2 (tt k1 b))))) (fun k2=>(lo fun o0=>(lr 13 3 (pn 191) 1 10 [(2,(dt a)),(3,c)] (sl Mi 59 [] (b8 [2,3]) b7 (bl 3 3) (pp (pp (xr l0) (xw o0)) (tt k2 (tt k1 b))))))))) (fun k1=>(sl Mi 44 [] ⟨[],[],LP,LQ⟩ b7 (bl 2 1) (tt k1 b)))))) (fun k0=>(lo fun o0=>(lr 13 3 (pn 191) 1 10 [(2,(dt a)),(3,c)] (sl Mi 28 [] (b8 [2,3]) b7 (bl 2 0) (pp (pp (xr l0) (xw o0)) (tt k0 nn)))))))
theorem w0h (l0:zu):Xh prog (Zy prog 140) (No l0) (Zb prog 140 [(dt l0)] true []) (SG l0):=(lb (fun k0=>(lr 13 140 (pn 37) 1 10 [(2,.nils),(3,(ii 4))] (sl Mi 18 [] (b8 [2,3]) b7 [true] (tt k0 nn)))) (fun k0=>(sl Mi 41 [] ⟨[],[],LP,LQ⟩ b7 [false] (tt k0 nn))))
theorem u2o (l0:zu) (n:Nat) (vs:zy) (h:Yj (Iw l0) n (SG l0)=.ret vs):Ji prog (Zy prog 140) (Zb prog 140 [(dt l0)] true []) vs:=by have:=Zf (w9l l0) n _ (w0h l0);rwa [h] at this
theorem u9f (l:zu) (hl:l.length<=400): ∀(k i:Nat),i+k=l.length->(∀s∈l.take i,CW s=true)-> ∃n,Yj (Iw l) n (.to (.h0 (i:Int)))=.ret (bif l.all CW then [.dat (Vy l).length (Zz (Vy l)),.int .i64 (Fh l)] else [.nils,.int .i64 8])
 | 0,i,h,ht=>by
  have hv:l.all CW=true:=As.2 fun s hs=>ht s (by grind);have w:JH l=true:=Af hl;refine ⟨1,?_⟩
  grind [Zx,Iw,Zd,Zc]
 | k+1,i,h,ht=>by
  have hi:i<l.length:=by omega
  have hs:Iw l (.h0 (i:Int))=bif CW (rd l i) then .to (.h0 ((i+1:Nat):Int)) else .ret [.nils,.int .i64 8]:=by have e:Oh (rd l i).a (rd l i).b (rd l i).c (rd l i).d =CW (rd l i):=rfl;simp (disch:=omega) only [Iw,e,RF,TH,Y9,Zn,Zq,Zv,Zj,Aj,Ab,Aa]
  rcases Xw (CW (rd l i)) with q | q
  .obtain ⟨n,hn⟩:=u9f l hl k (i+1) (by omega) (fun s hs=>by
    rw [A4] at hs
    grind [Xm])
   refine ⟨n+1,?_⟩
   grind [Zx]
  .have hv:l.all CW=false:=A7.2 fun e=>by
    grind [Xm]
   refine ⟨1,?_⟩
   grind [Zx,Zc]
theorem u2n (l:zu): ∃n,Yj (Iw l) n (SG l)=.ret (bif decide (400<l.length) then [.nils,.int .i64 4] else bif l.all CW then [.dat (Vy l).length (Zz (Vy l)),.int .i64 (Fh l)] else [.nils,.int .i64 8]):=by
 unfold SG;by_cases h:400<l.length
 .refine ⟨0,?_⟩;rw [Af h,Yo (show (l.length:Int)>400 by omega)];rfl
 .obtain ⟨n,hn⟩:=u9f l (by omega) l.length 0 (Ah _) (fun s hs=>by simp at hs)
  grind
def Za (l:zu):zu:=bif decide (400<l.length) then [] else bif l.all CW then (bif decide (((D4.out l).length :Int)>400) then [] else D4.out l) else []
def Xx (l:zu):Int:=bif decide (400<l.length) then 4 else bif l.all CW then (bif decide (((D4.out l).length :Int)>400) then 4 else 0) else 8
def Kv (l:zu):Bool:=true
theorem j4s (l:zu) (h:Kv l=true): ∃n,Yj (Iw l) n (SG l)=.ret (bif decide (400<l.length) then [.nils,.int .i64 4] else bif l.all CW then [.dat (Za l).length (Zz (Za l)),.int .i64 (Xx l)] else [.nils,.int .i64 8]):=by
 obtain ⟨n,hn⟩:=u2n l
 grind [Vy,Za,Ob,E6,Dc,Fh,Xx]
def PW :zy->Option (CA×Bool)
 | [a0]=>match C4 R4 a0 with
  | some (L0,g0,n0)=>some (.tup [.dat (Za L0).length (Zz (Za L0)),.int .i64 (Xx L0)],CU R4 n0 g0&&(Kv L0))
  | _=>none
 | _=>none
theorem j7x {S:CC} (hS:Zu prog S):Zu prog (S.with w6f PW):=by
 refine GR hS (by kernel_rfl) fun args v h=> ?_;unfold PW at h;split at h
 .rename_i a0;split at h
  .rename_i L0 g0 n0 e0;simp only [Ae,Ad,Ac] at h;obtain ⟨rfl,ho0,hw⟩:=h;obtain ⟨N,hN⟩:=j4s L0 hw;refine ⟨_,_,(.cons (Xy e0 ho0) .nil),?_,u2o L0 N _ hN,3,?_⟩
   .cases h1:decide (400<L0.length) <;> cases h2:L0.all CW <;> simp only [Za,Xx,h1,h2,Ab,Aa]
    .exact fun ρ u hu=>FJ (.cons (MY R4) (DJ.refl _)) ρ u hu
    .exact fun ρ u hu=>hu
    .exact fun ρ u hu=>FJ (.cons (MY R4) (DJ.refl _)) ρ u hu
    .exact fun ρ u hu=>FJ (.cons (MY R4) (DJ.refl _)) ρ u hu
   .cases decide (400<L0.length) <;> cases L0.all CW <;> rfl
  .cases h
 .cases h
def T7 :CC:=(T6m.with w6f PW)
theorem JN :Zu prog T7:=(j7x Mi)
inductive H5 where
def NQ (aM:Int) (aR:Int) (aS:Int) (aQ:Int) (cM:Int) (cN:Int):H5->CJ
 :=nofun
def x8j (aM:Int) (aR:Int) (aS:Int) (aQ:Int) (cM:Int) (cN:Int):H5->Xk H5
 :=nofun
def YB (aM:Int) (aR:Int) (aS:Int) (aQ:Int) (cM:Int) (cN:Int):Xk H5:=(bif (decide (aM<aQ)) then (bif (decide (aR<cM)) then (bif (decide (aS<cN)) then (bif (decide ((Kz (Kz aM aR) aS)>=(-1000000))) then (bif (decide ((Ky (Ky aM aR) aS)<=1000000)) then (bif (decide ((Kz (Kz aQ cM) cN)>=(-1000000))) then (.ret [(.bool (decide ((Ky (Ky aQ cM) cN)<=1000000)))]) else (.ret [(.bool false)])) else (.ret [(.bool false)])) else (.ret [(.bool false)])) else (.ret [(.bool false)])) else (.ret [(.bool false)])) else (.ret [(.bool false)]))
theorem w7t (aM:Int) (aR:Int) (aS:Int) (aQ:Int) (cM:Int) (cN:Int): ∀s,Xh prog (Zy prog 101) (NQ aM aR aS aQ cM cN) (NQ aM aR aS aQ cM cN s) (x8j aM aR aS aQ cM cN s)
 :=nofun
theorem x8k (aM:Int) (aR:Int) (aS:Int) (aQ:Int) (cM:Int) (cN:Int):Xh prog (Zy prog 101) (NQ aM aR aS aQ cM cN) (Zb prog 101 [(.agg [(.int .i64 aM),(.int .i64 aR),(.int .i64 aS),(.int .i64 aQ),(.int .i64 cM),(.int .i64 cN)])] true []) (YB aM aR aS aQ cM cN):=(lb (fun k0=>(lb (fun k1=>let b:=tt k1 (tt k0 nn);(lb (fun k2=>let a:=tt k2 b;(lb (fun k3=>(lb (fun k4=>let c:=tt k4 (tt k3 a);(lb (fun k5=>(lr 38 3 (pn 191) 1 9 [(2,(.bool (decide ((Ky (Ky aQ cM) cN)<=1000000))))] (sl JN 100 [] (b8 [2]) b7 (CL 36 []) (tt k5 c)))) (fun k5=>(lr 38 3 (pn 191) 1 9 [(2,(.bool false))] (sl JN 100 [] (b8 [2]) b7 (CL 28 (bl 8 0)) (tt k5 c)))))) (fun k4=>(lr 38 3 (pn 191) 1 9 [(2,(.bool false))] (sl JN 72 [] (b8 [2]) b7 (CL 25 (bl 3 0)) (tt k4 (tt k3 a))))))) (fun k3=>(lr 38 3 (pn 191) 1 9 [(2,(.bool false))] (sl JN 72 [] (b8 [2]) b7 (CL 17 (bl 11 0)) (tt k3 a)))))) (fun k2=>(lr 38 3 (pn 191) 1 9 [(2,(.bool false))] (sl JN 44 [] (b8 [2]) b7 (CL 14 (bl 6 0)) (tt k2 b)))))) (fun k1=>(lr 38 3 (pn 191) 1 9 [(2,(.bool false))] (sl JN 44 [] (b8 [2]) b7 (CL 7 (bl 13 0)) (tt k1 (tt k0 nn))))))) (fun k0=>(lr 38 3 (pn 191) 1 9 [(2,(.bool false))] (sl JN 44 [] (b8 [2]) b7 (bl 20 0) (tt k0 nn)))))
theorem u0g (aM:Int) (aR:Int) (aS:Int) (aQ:Int) (cM:Int) (cN:Int) (n:Nat) (vs:zy) (h:Yj (x8j aM aR aS aQ cM cN) n (YB aM aR aS aQ cM cN)=.ret vs):Ji prog (Zy prog 101) (Zb prog 101 [(.agg [(.int .i64 aM),(.int .i64 aR),(.int .i64 aS),(.int .i64 aQ),(.int .i64 cM),(.int .i64 cN)])] true []) vs:=by have:=Zf (w7t aM aR aS aQ cM cN) n _ (x8k aM aR aS aQ cM cN);rwa [h] at this
def CX (r:R6):Bool:=decide (r.a<r.d)&&(decide (r.b<r.e)&&(decide (r.c<r.f)&&(decide ((Kz (Kz r.a r.b) r.c)>=(-1000000))&&(decide ((Ky (Ky r.a r.b) r.c)<=1000000)&&(decide ((Kz (Kz r.d r.e) r.f)>=(-1000000))&&decide ((Ky (Ky r.d r.e) r.f)<=1000000))))))
def Oi (a b c d e f:Int):Bool:=CX ⟨a,b,c,d,e,f⟩
theorem j1x (a b c d e f:Int): ∃N,Yj (x8j a b c d e f) N (YB a b c d e f)=.ret [.bool (Oi a b c d e f)]:=⟨0,by
 unfold YB Oi CX;simp only [Se];cases decide (a<d) <;> cases decide (b<e) <;> cases decide (c<f) <;> cases decide ((Kz (Kz a b) c)>=(-1000000)) <;> cases decide ((Ky (Ky a b) c)<=1000000) <;> cases decide ((Kz (Kz d e) f)>=(-1000000)) <;> rfl⟩
def PJ :zy->Option (CA×Bool)
 | [.agg [.int .i64 aM,.int .i64 aR,.int .i64 aS,.int .i64 aQ,.int .i64 cM,.int .i64 cN]]=>some (.bool (Oi aM aR aS aQ cM cN),true)
 | _=>none
theorem j7i {S:CC} (hS:Zu prog S):Zu prog (S.with w6c PJ):=by
 refine C3 hS (by kernel_rfl) fun args v h=> ?_;unfold PJ at h;split at h
 .rename_i aM aR aS aQ cM cN;simp only [Ae,Ad,B9] at h;subst h;obtain ⟨N,hN⟩:=j1x aM aR aS aQ cM cN;exact ⟨_,_,(.cons (.refl _) .nil),rfl,u0g aM aR aS aQ cM cN N _ hN,3,rfl⟩
 .cases h
def T7v :CC:=(T7.with w6c PJ)
theorem Um :Zu prog T7v:=(j7i JN)
abbrev y1k (aC:zx) (v8:Int) (v2:Int):=(aC.set (0+(tn v8)) (R6.mk (rd aC (0+(tn v8))).a (rd aC (0+(tn v8))).b (rd aC (0+(tn v8))).c (rd aC (0+(tn v8))).d (rd aC (0+(tn v8))).e v2))
def x9k (l0:zx):Cd:=⟨⟨25,0,true⟩,(Wz prog 61 (pn 39) 3),(Zk prog 61 (pn 39) 1),none,(Zy prog 9),Yy [(0,(.dat l0.length (Zz l0))),(11,(.agg [.nilf])),(13,(.sl 8 0 1 (.un 1)))]⟩
abbrev RO (aB:zq):=(Wt (Yq aB.length (CS (Zz (Wj (Yq aB.length (CS (Zz aB))))))))
abbrev y1i (aA:zu) (l0:zx) (v38:Int):=(aA++[(R4.mk (rd l0 (tn v38)).a (rd l0 (tn v38)).b (rd l0 (tn v38)).d (rd l0 (tn v38)).e)])
abbrev y1h (aC:zx) (v72:zu) (v74:Int) (v1:Int) (v2:Int):=(aC++[(R6.mk (rd v72 (tn v74)).a (rd v72 (tn v74)).b v1 (rd v72 (tn v74)).c (rd v72 (tn v74)).d v2)])
def v4f :=(DA [(0,⟨.ready,none,65,Yy [(2,(.ptr 1 0)),(4,(.ptr 2 0)),(5,(.ptr 3 0)),(6,(.ptr 4 0))],[15],(Xt prog 102 [1,1,0,1,0,0]),(Xt prog 102 [1,1,0,1,0,1])⟩)])
def Qj (l0:zx):CA:=(.dat l0.length (Zz l0))
def v4e :Cd:=⟨⟨65,0,true⟩,none,(.inRangeFunc 0::(Zk prog 102 (pn 43) 1)),none,(Zy prog 102),Yy [(4,(.ptr 2 0)),(5,(.ptr 3 0)),(6,(.ptr 4 0))]⟩
abbrev y1g (aB:zq) (l0:zx) (v16:Int):=(aB++[(rd l0 (tn v16)).c,(rd l0 (tn v16)).f])
inductive Hj where
 | h0 (v8:Int)
 | h1 (v16:Int) (aB:zq)
 | h2 (v4:Int) (aG:zx) (aV:zu) (bE:Int) (bF:Int) (aF:Nat) (aJ:zq)
 | h3 (v4:Int) (v38:Int) (aG:zx) (aV:zu) (bE:Int) (bF:Int) (aF:Nat) (aJ:zq) (aU:Int) (bB:Int) (aA:zu)
 | h4 (v1:Int) (v2:Int) (v72:zu) (v73:Int) (v74:Int) (bC:zu) (aZ:Int) (aC:zx) (bI:zu) (bG:Int) (aF:Nat) (aJ:zq) (aU:zu)
 | h5 (v2:Int) (v8:Int) (cE:Int) (bC:zu) (aZ:Int) (aC:zx) (bI:zu) (bG:Int) (bY:Int) (bK:Nat) (bN:zq) (aA:zu)
def N6 (l0:zx):Hj->CJ
 | .h0 v8=>⟨⟨19,0,true⟩,none,(Zk prog 137 (pn 37) 0),none,(Zy prog 3),⟨Yy [(0,(Qj l0)),(1,(.fn 100 [])),(7,(ii (l0.length:Int))),(8,(ii v8))],Wf [] 0,0,[],true⟩,[⟨⟨9,0,true⟩,(Wz prog 99 [1,0] 2),(Zk prog 99 [1,0] 1),none,(Zy prog 3),Yy [(5,(Qj l0)),(6,(.fn 100 []))]⟩,⟨⟨25,0,true⟩,(Wz prog 61 (pn 19) 1),(Zk prog 61 (pn 19) 1),none,(Zy prog 9),Yy [(0,(Qj l0)),(8,(Qj l0))]⟩],.leaf⟩
 | .h1 v16 aB=>⟨⟨36,0,true⟩,none,(Zk prog 139 (pn 19659) 0),none,(Zy prog 9),⟨Yy [(1,(.ptr 0 0)),(3,(.ptr 2 0)),(8,(.sl 1 0 1 (.un 1))),(9,(ii 1)),(10,(ii 0)),(14,(Qj l0)),(15,(ii (l0.length:Int))),(16,(ii v16))],Wf [⟨[(.sl 1 0 1 (.un 1))],194,none⟩,⟨[(Qj l0)],45,none⟩,⟨[(.sla 7 1 0 aB.length (.un 1))],83,none⟩,⟨[.nilf],174,none⟩,⟨[.nils],46,none⟩,⟨[(ii 0)],24,none⟩,⟨[.nils,.nils,(ii 0),(ii 0)],198,none⟩,(rz aB 3 1)] 0,8,[],true⟩,[⟨⟨65,0,true⟩,(Wz prog 102 (pn 19) 1),(Zk prog 102 (pn 19) 1),none,(Zy prog 102),Yy [(2,(.ptr 3 0)),(4,(.ptr 4 0)),(5,(.ptr 5 0)),(6,(.ptr 6 0)),(13,(.sl 1 0 1 (.un 1)))]⟩,⟨⟨25,0,true⟩,(Wz prog 61 (pn 39) 3),(Zk prog 61 (pn 39) 1),none,(Zy prog 9),Yy [(0,(Qj l0)),(11,(.agg [.nilf])),(13,(.sl 1 0 1 (.un 1)))]⟩],.leaf⟩
 | .h2 v4 aG aV bE bF aF aJ=>⟨⟨86,0,true⟩,none,(Zk prog 163 [1,0,0] 0),none,[],⟨Yy [(0,(.yld 0)),(1,(.ptr 5 0)),(2,(.ptr 7 0)),(4,(ii v4))],Cs [(1,⟨[.nilf],174,none⟩),(2,⟨[.nils],46,none⟩),(3,⟨[(ii 0)],24,none⟩),(4,⟨[(.sla 9 6 0 aG.length (.un 6)),(dt aV),(ii bE),(ii bF)],198,none⟩),(5,⟨[(.sla 6 1 0 aF (.un 1))],83,none⟩),(6,(rz aJ 3 1)),(7,⟨[(.sl 8 0 1 (.un 1))],194,none⟩),(8,⟨[(Qj l0)],45,none⟩),(9,(rz aG 79 6))],10,[],true⟩,[v4e,(x9k l0)],v4f⟩
 | .h3 v4 v38 aG aV bE bF aF aJ aU bB aA=>⟨⟨86,0,true⟩,none,(Zk prog 163 (pn 629065) 0),none,[],⟨Yy [(0,(.yld 0)),(1,(.ptr 5 0)),(2,(.ptr 7 0)),(4,(ii v4)),(5,(.ptr 9 0)),(6,(ii 0)),(29,(.sl 8 0 1 (.un 1))),(30,(ii 1)),(31,(ii 0)),(36,(Qj l0)),(37,(ii (l0.length:Int))),(38,(ii v38))],Cs [(1,⟨[.nilf],174,none⟩),(2,⟨[.nils],46,none⟩),(3,⟨[(ii 0)],24,none⟩),(4,⟨[(.sla 12 6 0 aG.length (.un 6)),(dt aV),(ii bE),(ii bF)],198,none⟩),(5,⟨[(.sla 6 1 0 aF (.un 1))],83,none⟩),(6,(rz aJ 3 1)),(7,⟨[(.sl 8 0 1 (.un 1))],194,none⟩),(8,⟨[(Qj l0)],45,none⟩),(9,⟨[(ii aU),(ii bB),(.sl 10 0 1 (.ex 1))],203,none⟩),(10,⟨[(.sla 11 4 0 aA.length (.un 4))],195,none⟩),(11,(rz aA 168 4)),(12,(rz aG 79 6))],13,[],true⟩,[v4e,(x9k l0)],v4f⟩
 | .h4 v1 v2 v72 v73 v74 bC aZ aC bI bG aF aJ aU=>⟨⟨101,0,true⟩,none,(Zk prog 141 (pn 39) 0),none,[],⟨Yy [(0,(.ptr 0 0)),(1,(ii v1)),(2,(ii v2)),(72,(dt v72)),(73,(ii v73)),(74,(ii v74))],Cs [(0,⟨[(.sla 10 6 0 aC.length (.un 6)),(dt bI),(ii bG),(ii v2)],198,none⟩),(2,⟨[.nilf],174,none⟩),(3,⟨[.nils],46,none⟩),(4,⟨[(ii 0)],24,none⟩),(5,⟨[(.sla 6 1 0 aF (.un 1))],83,none⟩),(6,(rz aJ 3 1)),(7,⟨[(.sl 8 0 1 (.un 1))],194,none⟩),(8,⟨[(Qj l0)],45,none⟩),(9,⟨[(dt aU)],195,none⟩),(10,(rz aC 79 6))],11,[],true⟩,[⟨⟨65,0,true⟩,(Wz prog 102 (pn 1963) 5),(Zk prog 102 (pn 1963) 1),(some 1),[],Yy [(6,(.ptr 0 0)),(54,(ii v1)),(56,(ii v2)),(57,(dt bC))]⟩,⟨⟨86,0,true⟩,(Wz prog 163 (pn 713) 2),(Zk prog 163 (pn 713) 1),none,[],Yy [(0,(.yld 1)),(1,(.ptr 5 0)),(2,(.ptr 7 0)),(4,(ii aZ)),(82,(.yld 1)),(83,(.agg [(ii v1),(ii v2),(.sl 9 0 1 (.ex 1))]))]⟩,⟨⟨65,0,true⟩,none,(.inRangeFunc 1::(Zk prog 102 (pn 43) 1)),none,(Zy prog 102),Yy [(4,(.ptr 3 0)),(5,(.ptr 4 0)),(6,(.ptr 0 0))]⟩,(x9k l0)],(DA [(1,⟨.busy,none,65,Yy [(2,(.ptr 2 0)),(4,(.ptr 3 0)),(5,(.ptr 4 0)),(6,(.ptr 0 0))],[15],(Xt prog 102 [1,1,0,1,0,0]),(Xt prog 102 [1,1,0,1,0,1])⟩)])⟩
 | .h5 v2 v8 cE bC aZ aC bI bG bY bK bN aA=>⟨⟨101,0,true⟩,none,(Zk prog 141 (pn 146) 0),none,[],⟨Yy [(0,(.ptr 0 0)),(2,(ii v2)),(8,(ii v8))],Cs [(0,⟨[(.sla 1 6 0 aC.length (.un 6)),(dt bI),(ii bG),(ii bY)],198,none⟩),(1,(rz aC 79 6)),(3,⟨[.nilf],174,none⟩),(4,⟨[.nils],46,none⟩),(5,⟨[(ii 0)],24,none⟩),(6,⟨[(.sla 7 1 0 bK (.un 1))],83,none⟩),(7,(rz bN 3 1)),(8,⟨[(.sl 9 0 1 (.un 1))],194,none⟩),(9,⟨[(Qj l0)],45,none⟩),(10,⟨[(dt aA)],195,none⟩)],11,[],true⟩,[⟨⟨65,0,true⟩,(Wz prog 102 (pn 1963) 5),(Zk prog 102 (pn 1963) 1),(some 2),[],Yy [(6,(.ptr 0 0)),(54,(ii cE)),(56,(ii v2)),(57,(dt bC))]⟩,⟨⟨86,0,true⟩,(Wz prog 163 (pn 713) 2),(Zk prog 163 (pn 713) 1),none,[],Yy [(0,(.yld 2)),(1,(.ptr 6 0)),(2,(.ptr 8 0)),(4,(ii aZ)),(82,(.yld 2)),(83,(.agg [(ii cE),(ii v2),(.sl 10 0 1 (.ex 1))]))]⟩,⟨⟨65,0,true⟩,none,(.inRangeFunc 2::(Zk prog 102 (pn 43) 1)),none,(Zy prog 102),Yy [(4,(.ptr 4 0)),(5,(.ptr 5 0)),(6,(.ptr 0 0))]⟩,⟨⟨25,0,true⟩,(Wz prog 61 (pn 39) 3),(Zk prog 61 (pn 39) 1),none,(Zy prog 9),Yy [(0,(Qj l0)),(11,(.agg [.nilf])),(13,(.sl 9 0 1 (.un 1)))]⟩],(DA [(2,⟨.busy,none,65,Yy [(2,(.ptr 3 0)),(4,(.ptr 4 0)),(5,(.ptr 5 0)),(6,(.ptr 0 0))],[15],(Xt prog 102 [1,1,0,1,0,0]),(Xt prog 102 [1,1,0,1,0,1])⟩)])⟩
def KN :List (Option zt):=[some [0,1,7,8],some [5,6],some [0,8]]
def KP :List (Option zt):=[]
def j3m :List (Option zt):=[some [1,3,8,9,10,14,15,16],some [2,4,5,6,13],some [0,11,13]]
def j3o :List (Option zt):=[]
def j3l :List (Option zt):=[some [0,1,2,4],some [4,5,6],some [0,11,13]]
def j3n :List (Option zt):=[some [2,4,5,6],none,none,none,none,none,none,none,none,none]
def u1l :List (Option zt):=[some [0,1,2,4,5,6,29,30,31,36,37,38],some [4,5,6],some [0,11,13]]
def u1n :List (Option zt):=[some [2,4,5,6],none,none,none,none,none,none,none,none,none,none,none,none]
def u1k :List (Option zt):=[some [0,1,2,72,73,74],some [6,54,56,57],some [0,1,2,4,82,83],some [4,5,6],some [0,11,13]]
def u1m :List (Option zt):=[none,some [2,4,5,6],none,none,none,none,none,none,none,none,none]
def KM :List (Option zt):=[some [0,2,8],some [6,54,56,57],some [0,1,2,4,82,83],some [4,5,6],some [0,11,13]]
def KO :List (Option zt):=[none,none,some [2,4,5,6],none,none,none,none,none,none,none,none]
def Xn (l0:zx):Hj->Xk Hj
 | .h0 v8=>let g:=rd l0 v8.toNat;(bif (decide (v8<(l0.length:Int))) then (bif ((decide (0<=v8/\v8<(l0.length:Int)))&&true) then (bif (!(Oi g.a g.b g.c g.d g.e g.f)) then (bif (decide (v8>=0)) then (.ret [(.int .i64 8)]) else (.to (.h1 0 ([]:zq)))) else (.to (.h0 (wrap .i64 (v8+1))))) else .stuck) else (.to (.h1 0 ([]:zq))))
 | .h1 v16 aB=>let a:=Yq aB.length (CS (Zz (Wj (Yq aB.length (CS (Zz aB))))));let b:=rd l0 v16.toNat;(bif (decide (v16<(l0.length:Int))) then (bif ((decide (0<=v16/\v16<(l0.length:Int)))&&true) then (bif (Nat.beq 1 1&&((decide (0+aB.length=aB.length))&&decide ((aB.length+2+1)*(8+1)<=Vg))) then (.to (.h1 (wrap .i64 (v16+1)) (aB++[b.c,b.f]))) else .stuck) else .stuck) else (bif (decide (aB.length<4611686018427387904)) then (bif (decide (aB.length=aB.length)) then (.to (.h2 1 ([]:zx) ([]:zu) 0 0 (Ls a) (Wt a))) else .stuck) else .stuck))
 | .h2 v4 aG aV bE bF aF aJ=>(bif (decide (v4<((aF:Nat):Int))) then (bif ((decide (0<=(wrap .i64 (v4 - 1))/\(wrap .i64 (v4 - 1))<((aF:Nat):Int)))&&true) then (bif (decide ((0+(Int.toNat (wrap .i64 (v4 - 1))))<aJ.length)) then (bif ((decide (0<=v4/\v4<((aF:Nat):Int)))&&true) then (bif (decide ((0+v4.toNat)<aJ.length)) then (.to (.h3 v4 0 aG aV bE bF aF aJ (rd aJ (0+(Int.toNat (wrap .i64 (v4 - 1))))) (rd aJ (0+v4.toNat)) ([]:zu))) else .stuck) else .stuck) else .stuck) else .stuck) else (bif (decide ((aG.length:Int)>400)) then (.ret [(.int .i64 8)]) else (bif (Nat.beq 6 6&&(decide (0+aG.length<=aG.length)&&DR (Zz aG))) then (bif (Vm (Cl R6 (aG.length) (fun k=>(Zz aG) (0+k))) (CB l0)) then (bif (!(Kx (Cl R6 (aG.length) (fun k=>(Zz aG) (0+k))) (CB l0))) then (.ret [(.int .i64 8)]) else (.ret [(.int .i64 0)])) else .stuck) else .stuck)))
 | .h3 v4 v38 aG aV bE bF aF aJ aU bB aA=>let g:=Za (CB aA);let h:=rd l0 v38.toNat;(bif (decide (v38<(l0.length:Int))) then (bif ((decide (0<=v38/\v38<(l0.length:Int)))&&true) then (bif (decide (h.c <=aU)) then (bif (decide (aU<h.f)) then (bif (Nat.beq 4 4&&((decide (0+aA.length=aA.length))&&decide ((aA.length+1+1)*(32+1)<=Vg))) then (.to (.h3 v4 (wrap .i64 (v38+1)) aG aV bE bF aF aJ aU bB (aA++[(R4.mk h.a h.b h.d h.e)]))) else .stuck) else (.to (.h3 v4 (wrap .i64 (v38+1)) aG aV bE bF aF aJ aU bB aA))) else (.to (.h3 v4 (wrap .i64 (v38+1)) aG aV bE bF aF aJ aU bB aA))) else .stuck) else (bif (Kv (CB aA)) then (bif ((Xx (CB aA)) != 0) then (.ret [(.int .i64 8)]) else (bif (decide (((g.length :Nat):Int)>0)) then (bif (bF == aU) then (bif (Wb (CB aV) (CB g)) then (bif (Uh (CB aV) (CB g)) then (.to (.h5 bB bE aU g v4 aG aV bE bF aF aJ aA)) else (.to (.h4 aU bB g ((g.length :Nat):Int) 0 g v4 aG g (aG.length:Int) aF aJ aA))) else .stuck) else (.to (.h4 aU bB g ((g.length :Nat):Int) 0 g v4 aG g (aG.length:Int) aF aJ aA))) else (.to (.h4 aU bB g ((g.length :Nat):Int) 0 g v4 aG g (aG.length:Int) aF aJ aA)))) else .stuck))
 | .h4 v1 v2 v72 v73 v74 bC aZ aC bI bG aF aJ aU=>let e:=rd v72 v74.toNat;(bif (decide (v74<v73)) then (bif ((decide (0<=v74/\v74<(v72.length:Int)))&&true) then (bif (Nat.beq 6 6&&((decide (0+aC.length=aC.length))&&decide ((aC.length+1+1)*(48+1)<=Vg))) then (.to (.h4 v1 v2 v72 v73 (wrap .i64 (v74+1)) bC aZ (aC++[(R6.mk e.a e.b v1 e.c e.d v2)]) bI bG aF aJ aU)) else .stuck) else .stuck) else (.to (.h2 (wrap .i64 (aZ+1)) aC bI bG v2 aF aJ)))
 | .h5 v2 v8 cE bC aZ aC bI bG bY bK bN aA=>let f:=rd aC (0+v8.toNat);(bif (decide (v8<(aC.length:Int))) then (bif ((decide (0<=v8/\v8<(aC.length:Int)))&&true) then (bif (decide ((0+v8.toNat)<aC.length)) then (.to (.h5 v2 (wrap .i64 (v8+1)) cE bC aZ (aC.set (0+v8.toNat) (R6.mk f.a f.b f.c f.d f.e v2)) bI bG bY bK bN aA)) else .stuck) else .stuck) else (.to (.h2 (wrap .i64 (aZ+1)) aC bI bG v2 bK bN)))
def X3 (l0:zx):Xk Hj:=(bif (decide ((l0.length:Int)>400)) then (.ret [(.int .i64 4)]) else (.to (.h0 0)))
theorem w8r (l0:zx): ∀s,Xh prog (Zy prog 61) (N6 l0) (N6 l0 s) (Xn l0 s)
 | .h0 v8=>let b:=fl ([]:zq) nn;(lb (fun k0=>(lo fun aK=>let a:=ww aK (tt k0 nn);(lb (fun k1=>(lb (fun k2=>(lr 25 61 (pn 75) 1 9 [(2,(ii 8))] (sl Um 53 [] (b8 [2]) b7 (CL 3 []) (tt k2 (tt k1 a))))) (fun k2=>(sl Um 113 [(3,1,Zz ([]:zq))] ⟨[6,1,7,2,3,4,5,8],[],j3m,j3o⟩ ⟨[],[.keep,.keep,.cells [.grow 7 1],.keep,.keep,.keep,.keep,.keep],[]⟩ (bl 4 11) (pp b (tt k2 (tt k1 a))))))) (fun k1=>(sl Um 44 [] ⟨[],[],KN,KP⟩ b7 (bl 2 1) (tt k1 a)))))) (fun k0=>(sl Um 82 [(3,1,Zz ([]:zq))] ⟨[5,0,6,1,2,3,4,7],[],j3m,j3o⟩ ⟨[],[.keep,.keep,.cells [.grow 7 1],.keep,.keep,.keep,.keep,.keep],[]⟩ (bl 3 4) (pp b (tt k0 nn)))))
 | .h1 v16 aB=>(lb (fun k0=>(lo fun o0=>(lo fun o1=>let j:=y1g aB l0 v16;let n:=aB.length+2;let d:=xL n j.length;let g:=j;let m:=rd l0 (tn v16);let i:=Zr (Zz aB) 0 aB.length 1 [(ii m.c),(ii m.f)];(sl Um 34 [] ⟨[0,1,2,3,4,5,6,10],[],j3m,j3o⟩ ⟨[],[.keep,.keep,.cells [.len g.length],.keep,.keep,.keep,.keep,.rowed 1 g.length (Zz g)],[]⟩ [true] (pp d (pp d (pp (xS n i (Zz j)) (pp (pp (xF i) nn) (ww o1 (ww o0 (tt k0 nn))))))))))) (fun k0=>(lo fun o0=>(lo fun o1=>let a:=xG (Nat.beq 1 1);let b:=xG (decide (aB.length<4611686018427387904));let e:=xG (decide (aB.length=aB.length));let h:=xG (Nat.beq 0 0);let l:=Zz (RO aB);(sl Um 46 [(79,6,Zz ([]:zx))] ⟨[8,3,4,5,6,2,7,0,1,9],[],j3l,j3n⟩ ⟨[],(DN 4 [.cells [.grow 9 6,.list 0 (Zz ([]:zu)),.keep,.keep],.keep,.rowed 1 (RO aB).length l,.keep,.keep,.keep]),[]⟩ (bl 2 0) (pp (xL aB.length (RO aB).length (by first | exact SQ _ _ | exact Jj rfl)) (pp (xS aB.length l l) (pp (fl (RO aB) (fl ([]:zx) nn)) (pp (pp a (pp a (pp h (pp e (pp (xG (FG (Zz (Wj (Yq aB.length (CS (Zz aB))))))) b))))) (pp (pp a (pp a (pp h (pp e (pp (xG (FG (Zz aB))) b))))) (tt k0 nn)))))))))))
 | .h2 v4 aG aV bE bF aF aJ=>(lb (fun k0=>(lo fun o0=>(lo fun o1=>(lo fun o2=>(lo fun o3=>(sl Um 48 [(168,4,Zz ([]:zu))] ⟨[0,1,2,3,4,5,6,7,8,10,11,12,9],[],u1l,u1n⟩ ⟨[],(DN 10 [.cells [.grow 11 4],.keep,.keep]),[]⟩ (CL 3 []) (pp (fl aJ (fl ([]:zu) (fl aG nn))) (ww o3 (ww o2 (ww o1 (ww o0 (tt k0 nn)))))))))))) (fun k0=>(lb (fun k1=>(lr 25 61 (pn 311) 1 9 [(2,(ii 8))] (sl Um 50 [] (b8 [2]) b7 (bl 7 126) (tt k1 (tt k0 nn))))) (fun k1=>(lo fun bS=>(lo fun dS=>let a:=pp (xw bS) (pp nn nn);let b:=pp (xr l0) (xw dS);let c:=tt k1 (tt k0 nn);(lb (fun k2=>(lr 25 61 (pn 311) 1 9 [(2,(ii 8))] (sl Um 53 [] (b8 [2]) b7 (bl 7 64) (tt k2 (pp (pp a (pp (xI R6 (aG.length) (fun k=>(Zz aG) (0+k))) b)) c))))) (fun k2=>(lr 25 3 (pn 191) 1 9 [(2,(ii 0))] (sl Um 54 [] (b8 [2]) b7 (bl 7 0) (tt k2 (pp (pp a (pp (xI R6 (aG.length) (fun k=>(Zz aG) (0+k))) b)) c))))))))))))
 | .h3 v4 v38 aG aV bE bF aF aJ aU bB aA=>(lb (fun k0=>(lo fun aK=>let h:=ww aK (tt k0 nn);let n:=fl aJ (fl aA (fl aG nn));let q:=List.range 13;(lb (fun k1=>(lb (fun k2=>(lo fun o0=>let u:=y1i aA l0 v38;let v:=aA.length+1;let g:=xL v u.length;let m:=u;let s:=rd l0 (tn v38);let r:=Zr (Zz aA) 0 aA.length 4 [(ii s.a),(ii s.b),(ii s.d),(ii s.e)];(sl Um 41 [] ⟨[0,1,2,3,4,5,6,7,8,9,10,15,12],[],u1l,u1n⟩ ⟨[],(DN 10 [.cells [.len m.length],.rowed 4 m.length (Zz m),.keep]),[]⟩ (CL 8 []) (pp g (pp g (pp (xS v r (Zz u)) (pp (fl aJ (pp (xF r) (fl aG nn))) (ww o0 (tt k2 (tt k1 h)))))))))) (fun k2=>(sl Um 41 [] ⟨q,[],u1l,u1n⟩ b7 (CL 7 [false]) (pp n (tt k2 (tt k1 h))))))) (fun k1=>(sl Um 41 [] ⟨q,[],u1l,u1n⟩ b7 (bl 8 1) (pp n (tt k1 h))))))) (fun k0=>let f:=xZ (DE 4 4 0 aA.length aA.length (Zz aA)) aA.length (Zz aA);let l:=xS aA.length (Zz aA) (Zz aA);let o:=xL aA.length aA.length;let p:=fl aG (fl aJ nn);(Un (sl Um (C':=⟨⟨65,0,true⟩,(Wz prog 102 (pn 299) 4),(Zk prog 102 (pn 299) 1),(some 0),[],⟨Yy [(2,(.ptr 1 0)),(4,(.ptr 2 0)),(5,(.ptr 3 0)),(6,(.ptr 4 0)),(7,(.ptr 6 0)),(20,(dt aA))],Cs [(1,⟨[.nilf],174,none⟩),(2,⟨[.nils],46,none⟩),(3,⟨[(ii 0)],24,none⟩),(4,⟨[(.sla 5 6 0 aG.length (.un 6)),(dt aV),(ii bE),(ii bF)],198,none⟩),(5,(rz aG 79 6)),(6,⟨[(ii aU),(ii bB),(.sl 7 0 1 (.ex 1))],203,none⟩),(7,⟨[(dt aA)],195,none⟩),(8,⟨[(.sla 9 1 0 aF (.un 1))],83,none⟩),(9,(rz aJ 3 1)),(10,⟨[(.sl 11 0 1 (.un 1))],194,none⟩),(11,⟨[(dt l0)],45,none⟩)],12,[],true⟩,[⟨⟨86,0,true⟩,(Wz prog 163 (pn 713) 2),(Zk prog 163 (pn 713) 1),none,[],Yy [(0,(.yld 0)),(1,(.ptr 8 0)),(2,(.ptr 10 0)),(4,(ii v4)),(82,(.yld 0)),(83,(.agg [(ii aU),(ii bB),(.sl 7 0 1 (.ex 1))]))]⟩,⟨⟨65,0,true⟩,none,(.inRangeFunc 0::(Zk prog 102 (pn 43) 1)),none,(Zy prog 102),Yy [(4,(.ptr 2 0)),(5,(.ptr 3 0)),(6,(.ptr 4 0))]⟩,⟨⟨25,0,true⟩,(Wz prog 61 (pn 39) 3),(Zk prog 61 (pn 39) 1),none,(Zy prog 9),Yy [(0,(dt l0)),(11,(.agg [.nilf])),(13,(.sl 11 0 1 (.un 1)))]⟩],(DA [(0,⟨.busy,none,65,Yy [(2,(.ptr 1 0)),(4,(.ptr 2 0)),(5,(.ptr 3 0)),(6,(.ptr 4 0))],[15],(Xt prog 102 [1,1,0,1,0,0]),(Xt prog 102 [1,1,0,1,0,1])⟩)])⟩) 37 [] ⟨[0,1,2,3,4,12,13,10,5,6,7,8],[11],[some [2,4,5,6,7,20],some [0,1,2,4,82,83],some [4,5,6],some [0,11,13]],[some [2,4,5,6],none,none,none,none,none,none,none,none,none,none,none]⟩ ⟨[(20,.frz aA.length aA.length (Zz aA) (Zz aA))],[.keep,.keep,.keep,.keep,.keep,.keep,.keep,.cells [.frz aA.length aA.length (Zz aA) (Zz aA)],.keep,.keep,.keep,.keep],[]⟩ (bl 2 0) (pp f (pp o (pp l (pp f (pp o (pp l (pp p (pp (fl aA nn) (tt k0 nn)))))))))) (lo fun aK=>let c:=pp (pp (xr aA) (xw aK)) nn;(lb (fun k1=>(lr 25 61 (pn 311) 1 9 [(2,(ii 8))] (sl Um 67 [] (b8 [2]) b7 (bl 8 254) (tt k1 (tt k1 c))))) (fun k1=>let i:=fl aJ (fl aG nn);(lb (fun k2=>let j:=tt k2 (tt k1 c);(lb (fun k3=>(lo fun cU=>let t:=Za (CB aA);(lb (fun k4=>(sl Um 75 [] ⟨[4,5,0,1,2,3,8,9,10,11,7],[],KM,KO⟩ b7 (bl 15 32764) (pp p (tt k4 (pp (pp (xr aV) (pp (xI R4 t.length (Zz t)) (xw cU))) (tt k3 j)))))) (fun k4=>(sl Um 95 [] ⟨[4,0,1,2,3,8,9,10,11,7,5],[],u1k,u1m⟩ b7 (bl 15 16380) (pp i (tt k4 (pp (pp (xr aV) (pp (xI R4 t.length (Zz t)) (xw cU))) (tt k3 j))))))))) (fun k3=>(sl Um 95 [] ⟨[4,0,1,2,3,8,9,10,11,7,5],[],u1k,u1m⟩ b7 (bl 15 252) (pp i (tt k3 j)))))) (fun k2=>(sl Um 95 [] ⟨[4,0,1,2,3,8,9,10,11,7,5],[],u1k,u1m⟩ b7 (bl 15 0) (pp i (tt k2 (tt k1 c))))))))))))
 | .h4 v1 v2 v72 v73 v74 bC aZ aC bI bG aF aJ aU=>(lb (fun k0=>(lo fun o0=>(lo fun o1=>let i:=y1h aC v72 v74 v1 v2;let j:=aC.length+1;let e:=xL j i.length;let f:=i;let h:=rd v72 (tn v74);let g:=Zr (Zz aC) 0 aC.length 6 [(ii h.a),(ii h.b),(ii v1),(ii h.c),(ii h.d),(ii v2)];(sl Um 23 [] ⟨[0,1,2,3,4,5,6,7,8,9,13],[],u1k,u1m⟩ ⟨[],[.cells [.len f.length,.keep,.keep,.keep],.keep,.keep,.keep,.keep,.keep,.keep,.keep,.keep,.keep,.rowed 6 f.length (Zz f)],[]⟩ [true] (pp e (pp e (pp (xS j g (Zz i)) (pp (fl aJ (pp (xF g) nn)) (ww o1 (ww o0 (tt k0 nn))))))))))) (fun k0=>(sl Um 22 [] ⟨[1,2,3,4,0,5,6,7,8,10],[],j3l,j3n⟩ b7 (bl 2 0) (pp (fl aJ (fl aC nn)) (tt k0 nn)))))
 | .h5 v2 v8 cE bC aZ aC bI bG bY bK bN aA=>(lb (fun k0=>(lo fun o0=>(lo fun o1=>let d:=y1k aC v8 v2;let a:=xL aC.length d.length;let b:=d;let c:=Xg (Zz aC) (0+(tn v8)) 5 [(ii v2)];(sl Um 34 [] ⟨(List.range 11),[],KM,KO⟩ ⟨[],[.cells [.len b.length,.keep,.keep,.keep],.rowed 6 b.length (Zz b),.keep,.keep,.keep,.keep,.keep,.keep,.keep,.keep,.keep],[]⟩ [true] (pp a (pp a (pp (xS aC.length c (Zz d)) (pp (pp (xF c) (fl bN nn)) (ww o1 (ww o0 (tt k0 nn))))))))))) (fun k0=>(sl Um 36 [] ⟨[2,3,4,5,0,6,7,8,9,1],[],j3l,j3n⟩ b7 (bl 2 0) (pp (fl bN (fl aC nn)) (tt k0 nn)))))
theorem x9i (l0:zx):Xh prog (Zy prog 61) (N6 l0) (Zb prog 61 [(dt l0)] true []) (X3 l0):=(lb (fun k0=>(lr 25 61 (pn 37) 1 9 [(2,(ii 4))] (sl Um 16 [] (b8 [2]) b7 [true] (tt k0 nn)))) (fun k0=>(sl Um 40 [] ⟨[],[],KN,KP⟩ b7 [false] (tt k0 nn))))
theorem u1j (l0:zx) (n:Nat) (vs:zy) (h:Yj (Xn l0) n (X3 l0)=.ret vs):Ji prog (Zy prog 61) (Zb prog 61 [(dt l0)] true []) vs:=by have:=Zf (w8r l0) n _ (x9i l0);rwa [h] at this
theorem w0i (l:zu):(Za l).length <=400:=by
 grind [Za]
def D6 :CM R6 R4:=⟨R6.c,R6.f,fun r=>⟨r.a,r.b,r.d,r.e⟩,fun x x' s=>⟨s.a,s.b,x,s.c,s.d,x'⟩,fun x r=>⟨r.a,r.b,r.c,r.d,r.e,x⟩,Za,Uh⟩
theorem j1s (l:zx) (x:Int):(D6.sec l x).length <=1000:=AI (w0i _) (by omega)
def DM :zy:=[.int .i64 8]
def TT (l out:zx):zy:=bif decide ((out.length:Int)>400) then [.int .i64 8] else bif Kx out l then [.int .i64 0] else [.int .i64 8]
def Ew (l:zx) (x:Int):Bool:=Xx (D6.inn l x) != 0
def Cp (l:zx):Nat->Nat->Bool
 | 0,_=>true
 | k+1,i=>bif Ew l (rd (D6.cuts l) i) then false else Cp l k (i+1)
section
variable (l:zx) (hl:l.length<=400)
include hl
theorem u8d (i:Nat) (out:zx) (last:zu) (first fin x x':Int): ∀(k j:Nat) (acc:zu),j+k=l.length->acc.length<=j->
  ∃n,∀N,Yj (Xn l) (N+n) (.to (.h3 (i:Int) (j:Int) out last first fin ((D6.cuts l).length) (Wt (Wj (D6.ends l))) x x' acc))=Yj (Xn l) N (.to (.h3 (i:Int) (l.length:Int) out last first fin ((D6.cuts l).length) (Wt (Wj (D6.ends l))) x x' (acc++D6.inn (l.drop j) x)))
 | 0,j,acc,h,ha=>by refine ⟨0,fun N=> ?_⟩;rw [Aw (by omega),show D6.inn ([]:zx) x=[] from rfl,AG,Bo,show j=l.length by omega]
 | k+1,j,acc,h,ha=>by
  have hj:j<l.length:=by omega
  obtain ⟨n,hn⟩:=u8d i out last first fin x x' k (j+1) (acc++D6.inn [rd l j] x) (by omega) (by have:=D6.inn_length [rd l j] x;grind)
  refine ⟨n+1,fun N=> ?_⟩;have e:D6.inn (l.drop j) x=D6.inn [rd l j] x++D6.inn (l.drop (j+1)) x:=by rw [Yn hj,<-D6.inn_append];rfl
  rw [e,<-AK,Zx,<-AH,<-hn N];by_cases h1:D6.lo (rd l j)<=x
  .by_cases h2:x<D6.hi (rd l j)
   .rw [D6.inn_t _ _ h1 h2];simp only [D6] at h1 h2 ⊢;simp (disch:=omega) only [Xn,Xs,Zd,Zp,Zt,Zn,Yd,Yp,Yg,Zh,Zq,Zv,Yb,Zj,Ah,Au,Aj,Al,Ab,Aa]
   .rw [D6.inn_f2 _ _ h2,AG];simp only [D6] at h1 h2;simp (disch:=omega) only [Xn,Xs,Yc,Zd,Zp,Zt,Zn,Yd,Yp,Yg,Zh,Zq,Zv,Yb,Zj,Ah,Au,Aj,Al,Ab,Aa]
  .rw [D6.inn_f1 _ _ h1,AG];simp only [D6] at h1;simp (disch:=omega) only [Xn,EZ,Zd,Zp,Zt,Zn,Yd,Yp,Yg,Zh,Zq,Zv,Yb,Zj,Ah,Au,Aj,Al,Ab,Aa]
theorem u8c (i:Nat) (hi:i<=1000) (x x':Int) (s last:zu) (first:Int) (inn:zu) (hs:s.length<=1000): ∀(k j:Nat) (out:zx),j+k=s.length->out.length<=10000000+j->
  ∃n,∀N,Yj (Xn l) (N+n) (.to (.h4 x x' s (s.length:Int) (j:Int) s (i:Int) out last first ((D6.cuts l).length) (Wt (Wj (D6.ends l))) inn))=Yj (Xn l) N (.to (.h2 ((i+1:Nat):Int) (out++(s.drop j).map (D6.put x x')) last first x' ((D6.cuts l).length) (Wt (Wj (D6.ends l)))))
 | 0,j,out,h,ho=>by
  have _u:=hl;refine ⟨1,fun N=> ?_⟩
  grind [Zx,Xn,Zq]
 | k+1,j,out,h,ho=>by
  obtain ⟨n,hn⟩:=u8c i hi x x' s last first inn hs k (j+1) (out++[D6.put x x' (rd s j)]) (by omega) (by simp;omega)
  refine ⟨n+1,fun N=> ?_⟩;have:=hn N;rw [Yn (show j<s.length by omega),AT,<-AK,Zx];simp (disch:=omega) only [Xn,Zd,Zp,Zt,Zn,Yd,Yp,Yg,Zh,Zq,Zv,Yb,Zj,Ah,Au,Aj,Al,Ab,Aa];rw [AH] at this;exact this
theorem u8b (i:Nat) (hi:i<=1000) (x x' fin:Int) (s last:zu) (first:Int) (inn:zu): ∀(k j:Nat) (out:zx),j+k=out.length->out.length<=10000000->
  ∃n,∀N,Yj (Xn l) (N+n) (.to (.h5 x' (j:Int) x s (i:Int) out last first fin ((D6.cuts l).length) (Wt (Wj (D6.ends l))) inn))=Yj (Xn l) N (.to (.h2 ((i+1:Nat):Int) (D6.grow out j x') last first x' ((D6.cuts l).length) (Wt (Wj (D6.ends l)))))
 | 0,j,out,h,ho=>by
  have _u:=hl;refine ⟨1,fun N=> ?_⟩;rw [D6.grow_nil _ _ _ (by omega),Zx]
  grind [Xn,Zq]
 | k+1,j,out,h,ho=>by
  obtain ⟨n,hn⟩:=u8b i hi x x' fin s last first inn k (j+1) (out.set j (D6.ext x' (rd out j))) (by simp;omega) (by grind)
  refine ⟨n+1,fun N=> ?_⟩;have:=hn N;rw [D6.grow_set out j _ (by omega)] at this;rw [<-AK,Zx];simp (disch:=omega) only [Xn,Zd,Zp,Zt,Zn,Yd,Yp,Yg,Zh,Zq,Zv,Yb,Zj,Ah,Au,Aj,Al,Ab,Aa];exact this
theorem v4d : ∀(k i:Nat) (s:Sw R6 R4),k=(D6.cuts l).length - 1 - i->i<=(D6.cuts l).length ->s.out.length<=i*1000->s.last.length<=1000->s.first<=s.out.length->
  ∃n,Yj (Xn l) n (.to (.h2 ((i+1:Nat):Int) s.out s.last (s.first:Int) s.fin ((D6.cuts l).length) (Wt (Wj (D6.ends l)))))=.ret ((bif Cp l k i then TT l (D6.go l k i s).out else DM))
 | 0,i,s,h,hi,ho,hla,hf=>by
  have hc:=D6.cuts_length l;refine ⟨1,?_⟩;rw [Zx,show D6.go l 0 i s=s from rfl,show Cp l 0 i=true from rfl,Ab];unfold TT;by_cases q:(s.out.length:Int)>400
  .grind [Xn,Zc]
  .have e:Cl R6 s.out.length (fun k=>(Zz s.out) k)=s.out:=Zp s.out;have w:Vm s.out l=true:=Af (by omega);have f:DR (Zz s.out)=true:=Xc _;rcases Xw (Kx s.out l) with q2 | q2 <;>
   simp (disch:=omega) only [Xn,Zd,e,w,f,q2,Yc,Xb,Yd,Yb,Ah,Ax,AB,Aj,Ab,Aa,Zc]
 | k +1,i,s,h,hi,ho,hla,hf=>by
  have hc:=D6.cuts_length l;have hi1:i+1<(D6.cuts l).length :=by omega
  have hpl:(Wt (Wj (D6.ends l))).length =2*l.length:=by rw [Qp,Kq,D6.ends_length]
  have r0:rd (Wt (Wj (D6.ends l))) i=rd (D6.cuts l) i:=Gj _ _ (by show i<(D6.cuts l).length;omega);have r1:rd (Wt (Wj (D6.ends l))) (i+1)=rd (D6.cuts l) (i+1):=Gj _ _ (by show i+1<(D6.cuts l).length;omega);have hbig:i*1000<=1000*1000:=AE _ (by omega);have hsl:=j1s l (rd (D6.cuts l) i);have hsd:D6.sec l (rd (D6.cuts l) i)=Za (D6.inn l (rd (D6.cuts l) i)):=rfl;obtain ⟨n3,h3⟩:=u8d l hl (i+1) s.out s.last (s.first:Int) s.fin (rd (D6.cuts l) i) (rd (D6.cuts l) (i+1)) l.length 0 [] (Ah _) (Aq _);simp only [AR,A0,EB] at h3;have w1:Kv (D6.inn l (rd (D6.cuts l) i))=true:=rfl;have w2:Wb s.last (Za (D6.inn l (rd (D6.cuts l) i)))=true:=Af (by omega);have ol:=D6.one_length l (rd (D6.cuts l) i) (rd (D6.cuts l) (i+1)) s;have st0: ∀N,Yj (Xn l) (N+n3+1) (.to (.h2 ((i+1:Nat):Int) s.out s.last (s.first:Int) s.fin ((D6.cuts l).length) (Wt (Wj (D6.ends l)))))=Yj (Xn l) N (.to (.h3 ((i+1:Nat):Int) (l.length:Int) s.out s.last (s.first:Int) s.fin ((D6.cuts l).length) (Wt (Wj (D6.ends l))) (rd (D6.cuts l) i) (rd (D6.cuts l) (i+1)) (D6.inn l (rd (D6.cuts l) i)))):=fun N=>by
   rw [<-h3 N,Zx];have e1:wrap .i64 (((i+1:Nat):Int) - 1)=(i:Int):=by rw [Yx];exact Zq (by omega)
   simp (disch:=omega) only [Xn,e1,r0,r1,Zd,Zp,Zt,Zn,Yd,Yp,Yg,Zh,Zq,Zv,Yb,Zj,Ah,Au,Aj,Al,Ab,Aa]
  rcases Xw (Ew l (rd (D6.cuts l) i)) with q0 | q0
  .refine ⟨1+n3+1,?_⟩;rw [st0 1,Zx];simp only [Cp,q0,Ab,Aa];have q0':(Xx (D6.inn l (rd (D6.cuts l) i)) != 0)=true:=q0;simp (disch:=omega) only [Xn,Zd,Zp,Yc,q0',w1,Ab,Aa,Zc];rfl
  have q0':(Xx (D6.inn l (rd (D6.cuts l) i)) != 0)=false:=q0;rcases Xw (decide (0<(D6.sec l (rd (D6.cuts l) i)).length)&&((s.fin == rd (D6.cuts l) i)&&D6.same s.last (D6.sec l (rd (D6.cuts l) i)))) with q | q
  .obtain ⟨n5,h5⟩:=u8b l hl (i+1) (by omega) (rd (D6.cuts l) i) (rd (D6.cuts l) (i+1)) s.fin (D6.sec l (rd (D6.cuts l) i)) s.last (s.first:Int) (D6.inn l (rd (D6.cuts l) i)) (s.out.length - s.first) s.first s.out (by omega) (by omega)
   have e:D6.one l (rd (D6.cuts l) i) (rd (D6.cuts l) (i+1)) s=⟨D6.grow s.out s.first (rd (D6.cuts l) (i+1)),s.last,s.first,rd (D6.cuts l) (i+1)⟩:=by unfold CM.one;rw [q];rfl
   obtain ⟨n0,h0⟩:=v4d k (i+1) (D6.one l (rd (D6.cuts l) i) (rd (D6.cuts l) (i+1)) s) (by omega) (by omega) (by omega) (by grind) (by grind [CM.grow_length]);refine ⟨n0+n5+1+n3+1,?_⟩;rw [st0 (n0+n5+1),Zx];simp only [Ac,Ao] at q;obtain ⟨q1,q2,q3⟩:=q;have q3':Uh s.last (Za (D6.inn l (rd (D6.cuts l) i)))=true:=q3
   grind [Xn,Zd,Cp,CM.go]
  .obtain ⟨n4,h4⟩:=u8c l hl (i+1) (by omega) (rd (D6.cuts l) i) (rd (D6.cuts l) (i+1)) (D6.sec l (rd (D6.cuts l) i)) (D6.sec l (rd (D6.cuts l) i)) (s.out.length:Int) (D6.inn l (rd (D6.cuts l) i)) hsl (D6.sec l (rd (D6.cuts l) i)).length 0 s.out (Ah _) (by omega);simp only [AR,EB] at h4;have e:D6.one l (rd (D6.cuts l) i) (rd (D6.cuts l) (i+1)) s=⟨s.out++(D6.sec l (rd (D6.cuts l) i)).map (D6.put (rd (D6.cuts l) i) (rd (D6.cuts l) (i+1))),D6.sec l (rd (D6.cuts l) i),s.out.length,rd (D6.cuts l) (i+1)⟩:=by unfold CM.one;rw [q];rfl
   obtain ⟨n0,h0⟩:=v4d k (i+1) (D6.one l (rd (D6.cuts l) i) (rd (D6.cuts l) (i+1)) s) (by omega) (by omega) (by omega) (by grind) (by rw [e];simp);have hg:Yj (Xn l) 1 (.to (.h3 ((i+1:Nat):Int) (l.length:Int) s.out s.last (s.first:Int) s.fin ((D6.cuts l).length) (Wt (Wj (D6.ends l))) (rd (D6.cuts l) i) (rd (D6.cuts l) (i+1)) (D6.inn l (rd (D6.cuts l) i))))=.to (.h4 (rd (D6.cuts l) i) (rd (D6.cuts l) (i+1)) (D6.sec l (rd (D6.cuts l) i)) ((D6.sec l (rd (D6.cuts l) i)).length :Int) 0 (D6.sec l (rd (D6.cuts l) i)) ((i+1:Nat):Int) s.out (D6.sec l (rd (D6.cuts l) i)) (s.out.length:Int) ((D6.cuts l).length) (Wt (Wj (D6.ends l))) (D6.inn l (rd (D6.cuts l) i))):=by
    rw [show (1:Nat)=0+1 from rfl,Zx];rw [hsd] at q ⊢;have e3:D6.same s.last (Za (D6.inn l (rd (D6.cuts l) i)))=Uh s.last (Za (D6.inn l (rd (D6.cuts l) i))):=rfl;rw [e3] at q;by_cases q1:0<(Za (D6.inn l (rd (D6.cuts l) i))).length
    .rw [Af q1,Al] at q;rcases Xw (s.fin == rd (D6.cuts l) i) with q2 | q2
     .rw [q2,Al] at q;simp (disch:=omega) only [Xn,Zd,Zp,Yc,Yo,q0',q2,q,w1,w2,Ab,Aa];rfl
     .simp (disch:=omega) only [Xn,Zd,Zp,Yc,Yo,q0',q2,w1,w2,Ab,Aa];rfl
    .simp (disch:=omega) only [Xn,Zd,Zp,Yc,Xb,q0',w1,w2,Ab,Aa];rfl
   refine ⟨n0+n4+1+n3+1,?_⟩;simp_all [SO,Cp,CM.go]
theorem u8e : ∀(k i:Nat) (acc:zq),i+k=l.length->acc=D6.ends (l.take i)-> ∃n,Yj (Xn l) n (.to (.h1 (i:Int) acc))=.ret ((bif Cp l ((D6.cuts l).length - 1) 0 then TT l (D6.go l ((D6.cuts l).length - 1) 0 ⟨[],[],0,0⟩).out else DM))
 | 0,i,acc,h,ha=>by
  have e:acc=D6.ends l:=by grind
  subst e;have hle:=D6.ends_length l;obtain ⟨n,hn⟩:=v4d l hl ((D6.cuts l).length - 1) 0 ⟨[],[],0,0⟩ (by omega) (AA _) (AA _) (AA _) (AA _);refine ⟨n+1,?_⟩;rw [Zx];simp (disch:=omega) only [Xn,Qm,S0,Sg,Yc,Yp,Yg,Au,Ab,Aa];exact hn
 | k+1,i,acc,h,ha=>by
  have hle:=D6.ends_length (l.take i);have gQ:acc.length<=2*i:=by grind
  obtain ⟨n,hn⟩:=u8e k (i+1) (acc++D6.ends [rd l i]) (by omega) (by
   rw [ha,A4];have:l[i]? =some (rd l i):=by grind [Xm]
   rw [this,D6.ends_append];rfl)
  refine ⟨n+1,?_⟩;rw [Zx];simp (disch:=omega) only [Xn,Zd,Zp,Zt,Zn,Yd,Yp,Yg,Zh,Zq,Zv,Yb,Zj,Ah,Au,Aj,Al,Ab,Aa];exact hn
theorem u8f : ∀(k i:Nat),i+k=l.length->(∀s∈l.take i,CX s=true)-> ∃n,Yj (Xn l) n (.to (.h0 (i:Int)))=.ret (bif l.all CX then (bif Cp l ((D6.cuts l).length - 1) 0 then TT l (D6.go l ((D6.cuts l).length - 1) 0 ⟨[],[],0,0⟩).out else DM) else DM)
 | 0,i,h,ht=>by
  have hv:l.all CX=true:=As.2 fun s hs=>ht s (by grind);obtain ⟨n,hn⟩:=u8e l hl l.length 0 [] (Ah _) rfl;refine ⟨n+1,?_⟩
  grind [Zx,Xn]
 | k+1,i,h,ht=>by
  have hi:i<l.length:=by omega
  have hs:Xn l (.h0 (i:Int))=bif CX (rd l i) then .to (.h0 ((i+1:Nat):Int)) else .ret DM:=by have e:Oi (rd l i).a (rd l i).b (rd l i).c (rd l i).d (rd l i).e (rd l i).f =CX (rd l i):=rfl;simp (disch:=omega) only [Xn,e,RF,TH,Y9,Zn,Zq,Zv,Zj,Aj,Ab,Aa];rfl
  rcases Xw (CX (rd l i)) with q | q
  .obtain ⟨n,hn⟩:=u8f k (i+1) (by omega) (fun s hs=>by
    rw [A4] at hs
    grind [Xm])
   refine ⟨n+1,?_⟩
   grind [Zx]
  .have hv:l.all CX=false:=A7.2 fun e=>by
    grind [Xm]
   refine ⟨1,?_⟩
   grind [Zx,Zc]
end
def Yv (l:zx):Int:=bif decide (400<l.length) then 4 else bif l.all CX then (bif Cp l ((D6.cuts l).length - 1) 0 then (bif decide (((D6.out l).length :Int)>400) then 8 else bif Kx (D6.out l) l then 0 else 8) else 8) else 8
def v4g (l:zx):Bool:=true
theorem j3k (l:zx): ∃n,Yj (Xn l) n (X3 l)=.ret [.int .i64 (Yv l)]:=by
 unfold X3 Yv;by_cases h:400<l.length
 .refine ⟨0,?_⟩;rw [Af h,Yo (show (l.length:Int)>400 by omega)];rfl
 .obtain ⟨n,hn⟩:=u8f l (by omega) l.length 0 (Ah _) (fun s hs=>by simp at hs);refine ⟨n,?_⟩;rw [An h,Xb (show ¬(l.length:Int)>400 by omega),Aa,Aa];rw [EB] at hn;rw [hn];unfold DM TT;cases l.all CX <;> simp only [Ab,Aa];cases Cp l ((D6.cuts l).length - 1) 0 <;> simp only [Ab,Aa];show Xk.ret (bif decide (((D6.out l).length :Int)>400) then _ else bif Kx (D6.out l) l then _ else _)=_
  grind
def PU :zy->Option (CA×Bool)
 | [a1]=>match C4 R6 a1 with
  | some (L1,g1,n1)=>some (.int .i64 (Yv L1),CU R6 n1 g1&&v4g L1)
  | _=>none
 | _=>none
theorem j7q {S:CC} (hS:Zu prog S):Zu prog (S.with x6o PU):=by
 refine C3 hS (by kernel_rfl) fun args v h=> ?_;unfold PU at h;split at h
 .rename_i a1;split at h
  .rename_i L1 g1 n1 e1;simp only [Ae,Ad,Ac] at h;obtain ⟨rfl,ho1,hw⟩:=h;obtain ⟨N,hN⟩:=j3k L1;exact ⟨_,_,(.cons (Xy e1 ho1) .nil),rfl,u1j L1 N _ hN,3,rfl⟩
  .cases h
 .cases h
def T8 :CC:=T7v.with x6o PU
theorem D7 :Zu prog T8:=j7q Um
def Jg (l:zx):Bool:=true
def w0r (l:zx):Bool:=true
inductive FD where
 | h0 (v3:Int)
def j5d (l0:zx):FD->CJ
 | .h0 v3=>⟨⟨34,0,true⟩,none,(Zk prog 76 (pn 75) 0),none,(Zy prog 9),⟨Yy [(0,(dt l0)),(3,(ii v3))],Wf [] 0,0,[],true⟩,[],.leaf⟩
def u9s :List (Option zt):=[some [0,3]]
def u9t :List (Option zt):=[]
def JE (l0:zx):FD->Xk FD
 | .h0 v3=>let g:=rd l0 v3.toNat;(bif (decide (v3<(l0.length:Int))) then (bif ((decide (0<=v3/\v3<(l0.length:Int)))&&true) then (bif (decide (g.a >=(-1000000))) then (bif (decide (g.b >=(-1000000))) then (bif (decide (g.c >=(-1000000))) then (bif (decide (g.a <=1000000)) then (bif (decide (g.b <=1000000)) then (bif (decide (g.c <=1000000)) then (bif (decide (g.d >=(-1000000))) then (bif (decide (g.e >=(-1000000))) then (bif (decide (g.f >=(-1000000))) then (bif (decide (g.d <=1000000)) then (bif (decide (g.e <=1000000)) then (bif (decide (g.f <=1000000)) then (bif (decide (g.a <g.d)) then (bif (decide (g.b <g.e)) then (bif (!(decide (g.c <g.f))) then (.ret [(.int .i64 8)]) else (.to (.h0 (wrap .i64 (v3+1))))) else (.ret [(.int .i64 8)])) else (.ret [(.int .i64 8)])) else (.ret [(.int .i64 8)])) else (.ret [(.int .i64 8)])) else (.ret [(.int .i64 8)])) else (.ret [(.int .i64 8)])) else (.ret [(.int .i64 8)])) else (.ret [(.int .i64 8)])) else (.ret [(.int .i64 8)])) else (.ret [(.int .i64 8)])) else (.ret [(.int .i64 8)])) else (.ret [(.int .i64 8)])) else (.ret [(.int .i64 8)])) else (.ret [(.int .i64 8)])) else .stuck) else (bif (Ru 2 (CB l0) ([]:zx)) then (bif (!(JQ 2 (CB l0) ([]:zx))) then (.ret [(.int .i64 8)]) else (bif (Vm (CB (E8 2 (CB l0) ([]:zx))) (CB l0)) then (bif (!(Kx (CB (E8 2 (CB l0) ([]:zx))) (CB l0))) then (.ret [(.int .i64 8)]) else (.ret [(.int .i64 0)])) else .stuck)) else .stuck))
def WD (l0:zx):Xk FD:=(bif (decide ((l0.length:Int)>400)) then (.ret [(.int .i64 4)]) else (.to (.h0 0)))
theorem w0s (l0:zx): ∀s,Xh prog (Zy prog 76) (j5d l0) (j5d l0 s) (JE l0 s)
 | .h0 v3=>(lb (fun k0=>(lo fun aK=>let f:=ww aK (tt k0 nn);(lb (fun k1=>(lb (fun k2=>let c:=tt k2 (tt k1 f);(lb (fun k3=>let i:=bl 31 1073741824;(lb (fun k4=>let g:=tt k4 (tt k3 c);let l:=bl 28 134217728;(lb (fun k5=>let m:=bl 25 16777216;(lb (fun k6=>let a:=tt k6 (tt k5 g);(lb (fun k7=>(lb (fun k8=>let j:=tt k8 (tt k7 a);(lb (fun k9=>let d:=tt k9 j;(lb (fun k10=>(lb (fun k11=>let b:=tt k11 (tt k10 d);(lb (fun k12=>(lb (fun k13=>let e:=tt k13 (tt k12 b);(lb (fun k14=>(lb (fun k15=>(lr 34 76 (pn 4683) 1 9 [(2,(ii 8))] (sl D7 158 [] (b8 [2]) b7 (CL 60 []) (tt k15 (tt k14 e))))) (fun k15=>(sl D7 162 [] ⟨[],[],u9s,u9t⟩ b7 (CL 59 [false]) (tt k15 (tt k14 e)))))) (fun k14=>(lr 34 76 (pn 4683) 1 9 [(2,(ii 8))] (sl D7 158 [] (b8 [2]) b7 (CL 52 (bl 8 128)) (tt k14 e)))))) (fun k13=>(lr 34 76 (pn 4683) 1 9 [(2,(ii 8))] (sl D7 158 [] (b8 [2]) b7 (CL 45 (bl 15 16384)) (tt k13 (tt k12 b))))))) (fun k12=>(lr 34 76 (pn 4683) 1 9 [(2,(ii 8))] (sl D7 158 [] (b8 [2]) b7 (CL 38 (bl 22 2097152)) (tt k12 b)))))) (fun k11=>(lr 34 76 (pn 4683) 1 9 [(2,(ii 8))] (sl D7 158 [] (b8 [2]) b7 (CL 35 m) (tt k11 (tt k10 d))))))) (fun k10=>(lr 34 76 (pn 4683) 1 9 [(2,(ii 8))] (sl D7 158 [] (b8 [2]) b7 (CL 32 l) (tt k10 d)))))) (fun k9=>(lr 34 76 (pn 4683) 1 9 [(2,(ii 8))] (sl D7 158 [] (b8 [2]) b7 (CL 29 i) (tt k9 j)))))) (fun k8=>(lr 34 76 (pn 4683) 1 9 [(2,(ii 8))] (sl D7 158 [] (b8 [2]) b7 (CL 25 (bl 35 17179869184)) (tt k8 (tt k7 a))))))) (fun k7=>(lr 34 76 (pn 4683) 1 9 [(2,(ii 8))] (sl D7 158 [] (b8 [2]) b7 (CL 21 (bl 39 274877906944)) (tt k7 a)))))) (fun k6=>(lr 34 76 (pn 4683) 1 9 [(2,(ii 8))] (sl D7 117 [] (b8 [2]) b7 (CL 18 m) (tt k6 (tt k5 g))))))) (fun k5=>(lr 34 76 (pn 4683) 1 9 [(2,(ii 8))] (sl D7 117 [] (b8 [2]) b7 (CL 15 l) (tt k5 g)))))) (fun k4=>(lr 34 76 (pn 4683) 1 9 [(2,(ii 8))] (sl D7 117 [] (b8 [2]) b7 (CL 12 i) (tt k4 (tt k3 c))))))) (fun k3=>(lr 34 76 (pn 4683) 1 9 [(2,(ii 8))] (sl D7 117 [] (b8 [2]) b7 (CL 9 (bl 34 8589934592)) (tt k3 c)))))) (fun k2=>(lr 34 76 (pn 4683) 1 9 [(2,(ii 8))] (sl D7 117 [] (b8 [2]) b7 (CL 5 (bl 38 137438953472)) (tt k2 (tt k1 f))))))) (fun k1=>(lr 34 76 (pn 4683) 1 9 [(2,(ii 8))] (sl D7 117 [] (b8 [2]) b7 (bl 43 4398046511105) (tt k1 f))))))) (fun k0=>(lo fun aK=>(lb (fun k1=>(lr 34 76 (pn 303) 1 9 [(2,(ii 8))] (sl D7 37 [] (b8 [2]) b7 (bl 6 62) (tt k1 (pp (pp (xr l0) (pp (xI R6 0 (fun _=>[])) (xw aK))) (tt k0 nn)))))) (fun k1=>(lo fun bS=>let h:=pp (xr l0) (xw bS);let n:=E8 2 (CB l0) ([]:zx);(lb (fun k2=>(lr 34 76 (pn 303) 1 9 [(2,(ii 8))] (sl D7 37 [] (b8 [2]) b7 (bl 6 32) (tt k2 (pp (pp (xI R6 n.length (Zz n)) h) (tt k1 (pp (pp (xr l0) (pp (xI R6 0 (fun _=>[])) (xw aK))) (tt k0 nn)))))))) (fun k2=>(lr 34 3 (pn 191) 1 9 [(2,(ii 0))] (sl D7 38 [] (b8 [2]) b7 (bl 6 0) (tt k2 (pp (pp (xI R6 n.length (Zz n)) h) (tt k1 (pp (pp (xr l0) (pp (xI R6 0 (fun _=>[])) (xw aK))) (tt k0 nn)))))))))))))))
theorem x6b (l0:zx):Xh prog (Zy prog 76) (j5d l0) (Zb prog 76 [(dt l0)] true []) (WD l0):=(lb (fun k0=>(lr 34 76 (pn 37) 1 9 [(2,(ii 4))] (sl D7 16 [] (b8 [2]) b7 [true] (tt k0 nn)))) (fun k0=>(sl D7 20 [] ⟨[],[],u9s,u9t⟩ b7 [false] (tt k0 nn))))
theorem v5v (l0:zx) (n:Nat) (vs:zy) (h:Yj (JE l0) n (WD l0)=.ret vs):Ji prog (Zy prog 76) (Zb prog 76 [(dt l0)] true []) vs:=by have:=Zf (w0s l0) n _ (x6b l0);rwa [h] at this
def E7 (r:R6):Bool:=decide (r.a>= -1000000)&&(decide (r.b>= -1000000)&&(decide (r.c>= -1000000)&&(decide (r.a<=1000000)&&(decide (r.b<=1000000)&&(decide (r.c<=1000000)&&(decide (r.d>= -1000000)&&(decide (r.e>= -1000000)&&(decide (r.f>= -1000000)&&(decide (r.d<=1000000)&&(decide (r.e<=1000000)&&(decide (r.f<=1000000)&&(decide (r.a<r.d)&&(decide (r.b<r.e)&&decide (r.c<r.f))))))))))))))
def ID (l:zx):Int:=bif JQ 2 l [] then (bif Kx (E8 2 l []) l then 0 else 8) else 8
def JM (l:zx):Int:=bif decide (400<l.length) then 4 else bif l.all E7 then ID l else 8
def v5t (l:zx):Bool:=true
theorem v0v (k:Int) (l m:zx):(E8 k l m).length <=400\/JQ k l m=false:=by
 grind [E8,JQ]
section
variable (l:zx) (hl:l.length<=400)
include hl
theorem v5u : ∀(k i:Nat),i+k=l.length->(∀s∈l.take i,E7 s=true)-> ∃n,Yj (JE l) n (.to (.h0 (i:Int)))=.ret [.int .i64 (bif l.all E7 then ID l else 8)]
 | 0,i,h,ht=>by
  have hv:l.all E7=true:=As.2 fun s hs=>ht s (by grind);have w1:Ru 2 l []=true:=O3 (by omega) (by simp);refine ⟨1,?_⟩;rw [Zx,hv,Ab];unfold ID;rcases Xw (JQ 2 l []) with q | q
  .have w2:Vm (E8 2 l []) l=true:=Af (by
    grind [v0v])
   rcases Xw (Kx (E8 2 l []) l) with q2 | q2 <;>
   simp (disch:=omega) only [JE,Zd,Yc,q,q2,w1,w2,Ax,AB,Ab,Aa,Zc]
  grind [JE,Zd,Zc]
 | k+1,i,h,ht=>by
  have hi:i<l.length:=by omega
  have hs:JE l (.h0 (i:Int))=bif E7 (rd l i) then .to (.h0 ((i+1:Nat):Int)) else .ret [.int .i64 8]:=by simp (disch:=omega) only [JE,E7,Se,RF,TH,Zn,Zq,Zv,Zj,Aj,Ab,Aa]
  rcases Xw (E7 (rd l i)) with q | q
  .obtain ⟨n,hn⟩:=v5u k (i+1) (by omega) (fun s hs=>by
    rw [A4] at hs
    grind [Xm])
   refine ⟨n+1,?_⟩
   grind [Zx]
  .have hv:l.all E7=false:=A7.2 fun e=>by
    grind [Xm]
   refine ⟨1,?_⟩
   grind [Zx,Zc]
end
theorem u3d (l:zx): ∃n,Yj (JE l) n (WD l)=.ret [.int .i64 (JM l)]:=by
 unfold WD JM;by_cases h:400<l.length
 .refine ⟨0,?_⟩;rw [Af h,Yo (show (l.length:Int)>400 by omega)];rfl
 .obtain ⟨n,hn⟩:=v5u l (by omega) l.length 0 (Ah _) (fun s hs=>by simp at hs)
  grind
def P0 :zy->Option (CA×Bool)
 | [a1]=>match C4 R6 a1 with
  | some (L1,g1,n1)=>some (.int .i64 (JM L1),CU R6 n1 g1&&v5t L1)
  | _=>none
 | _=>none
theorem j8b {S:CC} (hS:Zu prog S):Zu prog (S.with v6s P0):=by
 refine C3 hS (by kernel_rfl) fun args v h=> ?_;unfold P0 at h;split at h
 .rename_i a1;split at h
  .rename_i L1 g1 n1 e1;simp only [Ae,Ad,Ac] at h;obtain ⟨rfl,ho1,hw⟩:=h;obtain ⟨N,hN⟩:=u3d L1;exact ⟨_,_,(.cons (Xy e1 ho1) .nil),rfl,v5v L1 N _ hN,3,rfl⟩
  .cases h
 .cases h
def T9 :CC:=T8.with v6s P0
theorem FN :Zu prog T9:=j8b D7
def V4 :CC:=((T9.with Ol Ie).with Px Ih).with F7 Fd
theorem Xv :Zu prog V4:=v8l (v8r (v8m FN))
inductive IX where
def O1 (x0:zw) (x1:zw):IX->CJ
 :=nofun
def w1w (x0:zw) (x1:zw):IX->Xk IX
 :=nofun
def Rv (x0:zw) (x1:zw):Xk IX:=(bif (y7p x0 x1) then (bif (decide ((Ci x0 x1)>=0)) then (bif (decide ((Int.toNat (Ci x0 x1))<=x0.length)) then (bif (decide (0<=(Ci x0 x1))) then (bif (decide ((Int.toNat (wrap .i64 ((Ci x0 x1)+(x1.length:Int))))<=x0.length)) then (bif (decide (0<=(wrap .i64 ((Ci x0 x1)+(x1.length:Int))))) then (.ret [(.str ((x0.drop 0).take (Int.toNat (Ci x0 x1)))),(.str ((x0.drop (Int.toNat (wrap .i64 ((Ci x0 x1)+(x1.length:Int))))).take (x0.length - (Int.toNat (wrap .i64 ((Ci x0 x1)+(x1.length:Int))))))),(.bool true)]) else .stuck) else .stuck) else .stuck) else .stuck) else (.ret [(.str x0),(.str []),(.bool false)])) else .stuck)
theorem v0u (x0:zw) (x1:zw): ∀s,Xh prog (Zy prog 122) (O1 x0 x1) (O1 x0 x1 s) (w1w x0 x1 s)
 :=nofun
theorem w1x (x0:zw) (x1:zw):Xh prog (Zy prog 122) (O1 x0 x1) (Zb prog 122 [(.str x0),(.str x1)] true []) (Rv x0 x1):=(lo fun cA=>let d:=b8 [4,5,6];(lb (fun k0=>(lo fun o0=>(lo fun o1=>(lo fun o2=>(lo fun o3=>let b:=tn (wr ((Ci x0 x1)+(x1.length:Int)));let a:=b;let c:=tn (Ci x0 x1);(lr 13 3 (pn 191) 1 122 [(4,(.str ((x0.drop 0).take c))),(5,(.str ((x0.drop a).take (x0.length - a)))),(6,(.bool true))] (sl Xv 41 [] d b7 [true] (pp (pp nn (pp (xw o3) (pp (xG (decide (x0.length<=x0.length)) (Af (Aq _))) (xG (decide (b<=x0.length)))))) (pp (pp (xw o1) (pp nn (pp (xG (decide (c<=x0.length))) (xG (decide (0<=c)))))) (tt k0 (ww cA nn))))))))))) (fun k0=>(lr 13 3 (pn 191) 1 122 [(4,(.str x0)),(5,(.str [])),(6,(.bool false))] (sl Xv 47 [] d b7 [false] (tt k0 (ww cA nn)))))))
theorem u4p (x0:zw) (x1:zw) (n:Nat) (vs:zy) (h:Yj (w1w x0 x1) n (Rv x0 x1)=.ret vs):Ji prog (Zy prog 122) (Zb prog 122 [(.str x0),(.str x1)] true []) vs:=by have:=Zf (v0u x0 x1) n _ (w1x x0 x1);rwa [h] at this
inductive Il where
def Pv (x0:zw) (x1:zw):Il->CJ
 :=nofun
def w3p (x0:zw) (x1:zw):Il->Xk Il
 :=nofun
def Ss (x0:zw) (x1:zw):Xk Il:=(bif (decide ((x0.length:Int)>=(x1.length:Int))) then (bif (decide ((Int.toNat (wrap .i64 ((x0.length:Int) - (x1.length:Int))))<=x0.length)) then (bif (decide (0<=(wrap .i64 ((x0.length:Int) - (x1.length:Int))))) then (bif (!(((x0.drop (Int.toNat (wrap .i64 ((x0.length:Int) - (x1.length:Int))))).take (x0.length - (Int.toNat (wrap .i64 ((x0.length:Int) - (x1.length:Int)))))) == x1)) then (.ret [(.str x0),(.bool false)]) else (.ret [(.str ((x0.drop 0).take (Int.toNat (wrap .i64 ((x0.length:Int) - (x1.length:Int)))))),(.bool true)])) else .stuck) else .stuck) else (.ret [(.str x0),(.bool false)]))
theorem v1w (x0:zw) (x1:zw): ∀s,Xh prog (Zy prog 79) (Pv x0 x1) (Pv x0 x1 s) (w3p x0 x1 s)
 :=nofun
theorem w3q (x0:zw) (x1:zw):Xh prog (Zy prog 79) (Pv x0 x1) (Zb prog 79 [(.str x0),(.str x1)] true []) (Ss x0 x1):=(lb (fun k0=>(lo fun aK=>(lo fun bH=>let b:=tn (wr ((x0.length:Int) - (x1.length:Int)));let c:=decide (x0.length<=x0.length);let d:=decide (b<=x0.length);(lb (fun k1=>(lr 11 3 (pn 191) 1 17 [(4,(.str x0)),(5,(.bool false))] (sl Xv 61 [] (b8 [4,5]) b7 (CL 10 []) (tt k1 (pp (pp nn (pp (xw bH) (pp (xG c (Af (Aq _))) (xG d)))) (tt k0 nn)))))) (fun k1=>let a:=xG d;(lr 11 3 (pn 191) 1 17 [(4,(.str ((x0.drop 0).take b))),(5,(.bool true))] (sl Xv 68 [] (b8 [4,5]) b7 (CL 9 [false]) (pp (pp (xw bH) (pp nn (pp a (xG (decide (0<=b)))))) (tt k1 (pp (pp nn (pp (xw bH) (pp (xG c (Af (Aq _))) a))) (tt k0 nn))))))))))) (fun k0=>(lr 11 3 (pn 191) 1 17 [(4,(.str x0)),(5,(.bool false))] (sl Xv 61 [] (b8 [4,5]) b7 (bl 10 512) (tt k0 nn)))))
theorem u5z (x0:zw) (x1:zw) (n:Nat) (vs:zy) (h:Yj (w3p x0 x1) n (Ss x0 x1)=.ret vs):Ji prog (Zy prog 79) (Zb prog 79 [(.str x0),(.str x1)] true []) vs:=by have:=Zf (v1w x0 x1) n _ (w3q x0 x1);rwa [h] at this
inductive IS where
 | h0 (bX:Nat)
def OM (x0:zw):IS->CJ
 | .h0 bX=>⟨⟨44,0,true⟩,none,(Zk prog 67 (pn 75) 0),none,(Zy prog 9),⟨Yy [(15,(.ptr 0 0))],Wf [⟨[(.obj (.it x0 bX))],9,none⟩] 0,1,[],true⟩,[],.leaf⟩
def Ro :List (Option zt):=[some [15]]
def Rn :List (Option zt):=[]
def MX (x0:zw):IS->Xk IS
 | .h0 bX=>let a:=EA x0 bX;(bif (decide (bX<x0.length)) then (bif (decide (a>=97)) then (bif (!(decide (a<=122))) then (bif (((bX:Nat):Int) == 0) then (.ret [(.bool false)]) else (bif (a != 45) then (bif (decide (a<48)) then (.ret [(.bool false)]) else (bif (decide (a>57)) then (.ret [(.bool false)]) else (.to (.h0 (bX+GC x0 bX))))) else (.to (.h0 (bX+GC x0 bX))))) else (.to (.h0 (bX+GC x0 bX)))) else (bif (((bX:Nat):Int) == 0) then (.ret [(.bool false)]) else (bif (a != 45) then (bif (decide (a<48)) then (.ret [(.bool false)]) else (bif (decide (a>57)) then (.ret [(.bool false)]) else (.to (.h0 (bX+GC x0 bX))))) else (.to (.h0 (bX+GC x0 bX)))))) else (.ret [(.bool true)]))
def XJ (x0:zw):Xk IS:=(bif ((x0.length:Int) == 0) then (.ret [(.bool false)]) else (bif (decide ((x0.length:Int)>40)) then (.ret [(.bool false)]) else (.to (.h0 0))))
theorem v0d (x0:zw): ∀s,Xh prog (Zy prog 67) (OM x0) (OM x0 s) (MX x0 s)
 | .h0 bX=>(lb (fun k0=>(lb (fun k1=>let d:=tt k1 (tt k0 nn);(lb (fun k2=>let a:=tt k2 d;(lb (fun k3=>(lr 44 67 (pn 20171) 1 9 [(2,(.bool false))] (sl Xv 52 [] (b8 [2]) b7 (CL 13 []) (tt k3 a)))) (fun k3=>(lb (fun k4=>let c:=tt k4 (tt k3 a);(lb (fun k5=>(lr 44 67 (pn 20171) 1 9 [(2,(.bool false))] (sl Xv 52 [] (b8 [2]) b7 (CL 7 (bl 12 3576)) (tt k5 c)))) (fun k5=>(lb (fun k6=>(lr 44 67 (pn 20171) 1 9 [(2,(.bool false))] (sl Xv 52 [] (b8 [2]) b7 (CL 7 (bl 12 3384)) (tt k6 (tt k5 c))))) (fun k6=>(sl Xv 51 [] ⟨[0],[],Ro,Rn⟩ b7 (CL 7 (bl 12 1336)) (tt k6 (tt k5 c)))))))) (fun k4=>(sl Xv 51 [] ⟨[0],[],Ro,Rn⟩ b7 (CL 7 (bl 10 256)) (tt k4 (tt k3 a)))))))) (fun k2=>(sl Xv 51 [] ⟨[0],[],Ro,Rn⟩ b7 (CL 4 (bl 5 0)) (tt k2 d))))) (fun k1=>let e:=tt k1 (tt k0 nn);(lb (fun k2=>(lr 44 67 (pn 20171) 1 9 [(2,(.bool false))] (sl Xv 52 [] (b8 [2]) b7 (bl 13 8179) (tt k2 e)))) (fun k2=>let b:=tt k2 e;(lb (fun k3=>(lb (fun k4=>(lr 44 67 (pn 20171) 1 9 [(2,(.bool false))] (sl Xv 52 [] (b8 [2]) b7 (bl 19 457843) (tt k4 (tt k3 b))))) (fun k4=>let f:=tt k4 (tt k3 b);(lb (fun k5=>(lr 44 67 (pn 20171) 1 9 [(2,(.bool false))] (sl Xv 52 [] (b8 [2]) b7 (bl 19 433267) (tt k5 f)))) (fun k5=>(sl Xv 51 [] ⟨[0],[],Ro,Rn⟩ b7 (bl 19 171123) (tt k5 f))))))) (fun k3=>(sl Xv 51 [] ⟨[0],[],Ro,Rn⟩ b7 (bl 17 32883) (tt k3 b))))))))) (fun k0=>(lr 44 3 (pn 191) 1 9 [(2,(.bool true))] (sl Xv 12 [] (b8 [2]) b7 (bl 2 0) (tt k0 nn)))))
theorem w1m (x0:zw):Xh prog (Zy prog 67) (OM x0) (Zb prog 67 [(.str x0)] true []) (XJ x0):=(lb (fun k0=>(lr 44 67 (pn 37) 1 9 [(2,(.bool false))] (sl Xv 21 [] (b8 [2]) b7 (CL 4 []) (tt k0 nn)))) (fun k0=>(lb (fun k1=>(lr 44 67 (pn 37) 1 9 [(2,(.bool false))] (sl Xv 21 [] (b8 [2]) b7 (bl 4 8) (tt k1 (tt k0 nn))))) (fun k1=>(sl Xv 26 [] ⟨[0],[],Ro,Rn⟩ b7 (bl 4 0) (tt k1 (tt k0 nn)))))))
theorem u4b (x0:zw) (n:Nat) (vs:zy) (h:Yj (MX x0) n (XJ x0)=.ret vs):Ji prog (Zy prog 67) (Zb prog 67 [(.str x0)] true []) vs:=by have:=Zf (v0d x0) n _ (w1m x0);rwa [h] at this
inductive Hs where
 | h0 (v3:Int)
def Nk (x0:zw):Hs->CJ
 | .h0 v3=>⟨⟨40,0,true⟩,none,(Zk prog 77 (pn 37) 0),none,(Zy prog 9),⟨Yy [(0,(.str x0)),(3,(ii v3))],Wf [] 0,0,[],true⟩,[],.leaf⟩
def Rd :List (Option zt):=[some [0,3]]
def Rb :List (Option zt):=[]
def M2 (x0:zw):Hs->Xk Hs
 | .h0 v3=>let a:=Cr x0 v3.toNat;(bif (decide (v3<(x0.length:Int))) then (bif (decide (0<=v3/\v3<(x0.length:Int))) then (bif (decide (a>=97)) then (bif (!(decide (a<=122))) then (bif (v3 == 0) then (.ret [(.bool false)]) else (bif (a != 45) then (bif (decide (a>=48)) then (bif (!(decide (a<=57))) then (.ret [(.bool false)]) else (.to (.h0 (wrap .i64 (v3+1))))) else (.ret [(.bool false)])) else (.to (.h0 (wrap .i64 (v3+1)))))) else (.to (.h0 (wrap .i64 (v3+1))))) else (bif (v3 == 0) then (.ret [(.bool false)]) else (bif (a != 45) then (bif (decide (a>=48)) then (bif (!(decide (a<=57))) then (.ret [(.bool false)]) else (.to (.h0 (wrap .i64 (v3+1))))) else (.ret [(.bool false)])) else (.to (.h0 (wrap .i64 (v3+1))))))) else .stuck) else (bif (decide ((x0.length:Int)>=1)) then (.ret [(.bool (decide ((x0.length:Int)<=40)))]) else (.ret [(.bool false)])))
def x3a (x0:zw):Xk Hs:=(.to (.h0 0))
theorem w9f (x0:zw): ∀s,Xh prog (Zy prog 77) (Nk x0) (Nk x0 s) (M2 x0 s)
 | .h0 v3=>(lb (fun k0=>(lo fun aK=>let a:=ww aK (tt k0 nn);(lb (fun k1=>(lb (fun k2=>let f:=tt k2 (tt k1 a);(lb (fun k3=>(lr 40 77 (pn 2341) 1 9 [(2,(.bool false))] (sl Xv 57 [] (b8 [2]) b7 (CL 14 []) (tt k3 f)))) (fun k3=>let d:=ww aK (tt k3 f);(lb (fun k4=>let b:=ww aK (tt k4 d);(lb (fun k5=>(lb (fun k6=>(lr 40 77 (pn 2341) 1 9 [(2,(.bool false))] (sl Xv 72 [] (b8 [2]) b7 (CL 6 (bl 15 28640)) (tt k6 (tt k5 b))))) (fun k6=>(sl Xv 76 [] ⟨[],[],Rd,Rb⟩ b7 (CL 6 (bl 15 12256)) (tt k6 (tt k5 b)))))) (fun k5=>(lr 40 77 (pn 2341) 1 9 [(2,(.bool false))] (sl Xv 72 [] (b8 [2]) b7 (CL 6 (bl 15 27104)) (tt k5 b)))))) (fun k4=>(sl Xv 61 [] ⟨[],[],Rd,Rb⟩ b7 (CL 6 (bl 13 2048)) (tt k4 d))))))) (fun k2=>(sl Xv 61 [] ⟨[],[],Rd,Rb⟩ b7 (CL 3 (bl 5 0)) (tt k2 (tt k1 a)))))) (fun k1=>(lb (fun k2=>(lr 40 77 (pn 2341) 1 9 [(2,(.bool false))] (sl Xv 57 [] (b8 [2]) b7 (bl 14 16377) (tt k2 (tt k1 a))))) (fun k2=>let e:=ww aK (tt k2 (tt k1 a));(lb (fun k3=>let c:=ww aK (tt k3 e);(lb (fun k4=>(lb (fun k5=>(lr 40 77 (pn 2341) 1 9 [(2,(.bool false))] (sl Xv 72 [] (b8 [2]) b7 (bl 21 1833017) (tt k5 (tt k4 c))))) (fun k5=>(sl Xv 76 [] ⟨[],[],Rd,Rb⟩ b7 (bl 21 784441) (tt k5 (tt k4 c)))))) (fun k4=>(lr 40 77 (pn 2341) 1 9 [(2,(.bool false))] (sl Xv 72 [] (b8 [2]) b7 (bl 21 1734713) (tt k4 c)))))) (fun k3=>(sl Xv 61 [] ⟨[],[],Rd,Rb⟩ b7 (bl 19 131129) (tt k3 e)))))))))) (fun k0=>(lb (fun k1=>(lr 40 3 (pn 191) 1 9 [(2,(.bool (decide ((x0.length:Int)<=40))))] (sl Xv 22 [] (b8 [2]) b7 (bl 4 14) (tt k1 (tt k0 nn))))) (fun k1=>(lr 40 3 (pn 191) 1 9 [(2,(.bool false))] (sl Xv 22 [] (b8 [2]) b7 (bl 4 0) (tt k1 (tt k0 nn))))))))
theorem w0a (x0:zw):Xh prog (Zy prog 77) (Nk x0) (Zb prog 77 [(.str x0)] true []) (x3a x0):=(sl Xv 11 [] ⟨[],[],Rd,Rb⟩ b7 [] nn)
theorem u2h (x0:zw) (n:Nat) (vs:zy) (h:Yj (M2 x0) n (x3a x0)=.ret vs):Ji prog (Zy prog 77) (Zb prog 77 [(.str x0)] true []) vs:=by have:=Zf (w9f x0) n _ (w0a x0);rwa [h] at this
inductive IB where
 | h0 (v3:List zw) (v4:Int) (v5:Int)
def Ns (x0:zw):IB->CJ
 | .h0 v3 v4 v5=>⟨⟨34,0,true⟩,none,(Zk prog 52 (pn 303) 0),none,(Zy prog 9),⟨Yy [(0,(.str x0)),(3,(.sla 0 1 0 v3.length (.un 1))),(4,(ii v4)),(5,(ii v5))],Wf [(rz v3 9 1)] 0,1,[],true⟩,[],.leaf⟩
def Z7 :List (Option zt):=[some [0,3,4,5]]
def Z6 :List (Option zt):=[]
def Gq (x0:zw):IB->Xk IB
 | .h0 v3 v4 v5=>(bif (decide (v5<=(x0.length:Int))) then (bif (v5 == (x0.length:Int)) then (bif (decide (v4.toNat<=v5.toNat)) then (bif (decide (v5.toNat<=x0.length)) then (bif (decide (0<=v4)) then (bif (decide (0<=v5)) then (bif (Nat.beq 1 1&&((decide (0+v3.length=v3.length))&&decide ((v3.length+1+1)*(16+1)<=Vg))) then (.to (.h0 (v3++[((x0.drop v4.toNat).take (v5.toNat - v4.toNat))]) (wrap .i64 (v5+1)) (wrap .i64 (v5+1)))) else .stuck) else .stuck) else .stuck) else .stuck) else .stuck) else (bif (decide (0<=v5/\v5<(x0.length:Int))) then (bif ((Cr x0 v5.toNat) == 47) then (bif (decide (v4.toNat<=v5.toNat)) then (bif (decide (v5.toNat<=x0.length)) then (bif (decide (0<=v4)) then (bif (decide (0<=v5)) then (bif (Nat.beq 1 1&&((decide (0+v3.length=v3.length))&&decide ((v3.length+1+1)*(16+1)<=Vg))) then (.to (.h0 (v3++[((x0.drop v4.toNat).take (v5.toNat - v4.toNat))]) (wrap .i64 (v5+1)) (wrap .i64 (v5+1)))) else .stuck) else .stuck) else .stuck) else .stuck) else .stuck) else (.to (.h0 v3 v4 (wrap .i64 (v5+1))))) else .stuck)) else (.ret [(dt v3)]))
def XP (x0:zw):Xk IB:=(bif (x0 == ([]:zw)) then (.ret [.nils]) else (.to (.h0 ([]:List zw) 0 0)))
theorem w9t (x0:zw): ∀s,Xh prog (Zy prog 52) (Ns x0) (Ns x0 s) (Gq x0 s)
 | .h0 v3 v4 v5=>(lb (fun k0=>let j:=x0.drop (tn v4);let l:=j.take ((tn v5) - (tn v4));let f:=v3++[l];let a:=f;let e:=Zr (Zz v3) 0 v3.length 1 [(.str l)];let g:=v3.length+1;let h:=decide ((tn v5)<=x0.length);let i:=decide ((tn v4)<=(tn v5));(lb (fun k1=>(lo fun o0=>(lo fun o1=>(lo fun o2=>(lo fun o3=>(lo fun o4=>let b:=xL g f.length;(sl Xv 49 [] ⟨[2],[],Z7,Z6⟩ ⟨[(3,.len a.length)],[.rowed 1 a.length (Zz a)],[]⟩ (CL 6 []) (pp b (pp b (pp (xS g e (Zz f)) (pp (pp (xF e) nn) (ww o4 (pp (pp (xw o3) (pp (xw o2) (pp (xG h) (xG i)))) (tt k1 (tt k0 nn))))))))))))))) (fun k1=>(lo fun bS=>let d:=ww bS (tt k1 (tt k0 nn));(lb (fun k2=>(lo fun o0=>(lo fun o1=>(lo fun o2=>(lo fun o3=>(lo fun o4=>let c:=xL g f.length;(sl Xv 49 [] ⟨[2],[],Z7,Z6⟩ ⟨[(3,.len a.length)],[.rowed 1 a.length (Zz a)],[]⟩ (bl 6 33) (pp c (pp c (pp (xS g e (Zz f)) (pp (pp (xF e) nn) (ww o4 (pp (pp (xw o3) (pp (xw o2) (pp (xG h) (xG i)))) (tt k2 d)))))))))))))) (fun k2=>(sl Xv 34 [] ⟨[0],[],Z7,Z6⟩ b7 (bl 6 1) (pp (fl v3 nn) (tt k2 d))))))))) (fun k0=>(lr 34 3 (pn 191) 1 9 [(2,(dt v3))] (sl Xv 15 [] ⟨[],[0],[some [2]],[]⟩ ⟨[(2,.frz v3.length v3.length (Zz v3) (Zz v3))],[],[]⟩ [false] (pp (xZ (DE 1 1 0 v3.length v3.length (Zz v3)) v3.length (Zz v3)) (pp (xL v3.length v3.length) (pp (xS v3.length (Zz v3) (Zz v3)) (pp (fl v3 nn) (tt k0 nn)))))))))
theorem w0q (x0:zw):Xh prog (Zy prog 52) (Ns x0) (Zb prog 52 [(.str x0)] true []) (XP x0):=(lb (fun k0=>(lr 34 52 (pn 37) 1 9 [(2,.nils)] (sl Xv 15 [] (b8 [2]) b7 [true] (tt k0 nn)))) (fun k0=>let a:=zw;(sl Xv 27 [(9,1,Zz ([]:List a))] ⟨[0],[],Z7,Z6⟩ ⟨[(3,.grow 0 1)],[],[]⟩ [false] (pp (fl ([]:List a) nn) (tt k0 nn)))))
theorem u3a (x0:zw) (n:Nat) (vs:zy) (h:Yj (Gq x0) n (XP x0)=.ret vs):Ji prog (Zy prog 52) (Zb prog 52 [(.str x0)] true []) vs:=by have:=Zf (w9t x0) n _ (w0q x0);rwa [h] at this
theorem U8 {s:zw} {i:Nat} (h:i<s.length):(⟨s.toArray⟩:ByteArray).get! i=s[i]:=by simp [ByteArray.get!,h]
theorem w7j {s:zw} {i:Nat} (h:i<s.length) (ha:s[i].toNat <128):EA s i=((s[i].toNat :Nat):Int)/\GC s i=1:=by
 have e:Utf8.decode ⟨s.toArray⟩ i=(s[i].toNat,1):=by unfold Utf8.decode;simp only [Bo,U8 h];rw [AF ha]
 unfold EA GC;rw [e];exact ⟨rfl,rfl⟩
theorem j1h {s:zw} {i:Nat} (h:i<s.length) (ha: ¬s[i].toNat <128):128<=EA s i:=by
 have e:128<=(Utf8.decode ⟨s.toArray⟩ i).1:=by
  unfold Utf8.decode;simp only [Bo,U8 h];rw [Az ha];repeat' split
  all_goals (try simp only [Utf8.runeError,Ac,Ao,ge_iff_le] at*)
  all_goals omega
 unfold EA;omega
theorem Lz {P:Program} {S:CC} (hS:Zu P S) {f:FuncId} {F:zy->Option (CA×Bool)} (hf:(P.funcs[f]?).any (fun fn=>fn.body.isSome)=true)
  (hF: ∀args v,F args=some (v,true)-> ∃bs vs,Vf D3 args bs/\(∀(ρ:CF) (u:Value),VRel ρ (Jd vs) u->VRel ρ v u)/\Ji P (Zy P f) (Zb P f bs true []) vs/\ ∃d,pf d (Jd vs)=true):Zu P (S.with f F):=
 x0l hS hf fun args v h=>by obtain ⟨bs,vs,h1,h2,h3,d,h4⟩:=hF args v h;exact ⟨vs,h2,y7z h1 h3,d,h4⟩
theorem Mm {s:zw} {i:Nat} (h:i<s.length):Cr s i=((s[i].toNat :Nat):Int):=by unfold Cr;rw [Bk,At h];rfl
theorem v3c (c:UInt8):c.toNat<256:=UInt8.toNat_lt c
theorem j0y (c:UInt8): ∀s:zw,Lib.indexByte s c+1<=(s.length:Int)
 | []=>by show (-1:Int)+1<=((0:Nat):Int);omega
 | b::l=>by
  have ih:=j0y c l;unfold Lib.indexByte;rw [Ba];split
  .omega
  .split <;> omega
theorem x5f (x:zw) (k:Nat):(x.drop k).take (x.length - k)=x.drop k:=A6 (by rw [Bz];omega)
def Wy (s sep:zw):zw:=bif decide (0<=Ci s sep) then s.take (Ci s sep).toNat else s
def Wi (s sep:zw):zw:=bif decide (0<=Ci s sep) then s.drop ((Ci s sep).toNat +1) else []
def Kj (s sep:zw):Bool:=decide (0<=Ci s sep)
def Ko (s sep:zw):Bool:=Nat.beq sep.length 1&&decide (s.length<=1000000)
theorem j6k (s sep:zw) (h:Ko s sep=true): ∃N,Yj (w1w s sep) N (Rv s sep)=.ret [.str (Wy s sep),.str (Wi s sep),.bool (Kj s sep)]:=⟨0,by
 unfold Ko at h;rw [Ac,Ao] at h;have hl:=Ai h.1;have hi:Ci s sep+1<=(s.length:Int):=j0y _ _;show Rv s sep=_;unfold Rv Wy Wi Kj;rw [Yk (show y7p s sep=true from h.1),hl];by_cases g:0<=Ci s sep
 .have w:wrap .i64 (Ci s sep+((1:Nat):Int))=Ci s sep+1:=Zq (by omega);have e0:decide (0<=Ci s sep)=true:=Af g;have e1:decide (Ci s sep>=0)=true:=Af g;rw [e0,w];simp only [Ab];rw [Yk (Af (show (Ci s sep).toNat <=s.length by omega)),
   Yk (Af (show (Ci s sep+1).toNat <=s.length by omega)),Yk (Af (show 0<=Ci s sep+1 by omega)),AR,x5f,
   show (Ci s sep+1).toNat =(Ci s sep).toNat +1 by omega]
 .have e0:decide (0<=Ci s sep)=false:=An g;have e1:decide (Ci s sep>=0)=false:=An g;rw [e0];rfl⟩
def P8 :zy->Option (CA×Bool)
 | [.str s,.str sep]=>some (.tup [.str (Wy s sep),.str (Wi s sep),.bool (Kj s sep)],Ko s sep)
 | _=>none
theorem j8k {S:CC} (hS:Zu prog S):Zu prog (S.with U2 P8):=C3 hS (by kernel_rfl) fun args v h=>by
 unfold P8 at h;split at h
 .rename_i s sep;simp only [Ae,Ad] at h;obtain ⟨rfl,ho⟩:=h;obtain ⟨N,hN⟩:=j6k s sep ho;exact ⟨_,_,.cons (.refl _) (.cons (.refl _) .nil),rfl,u4p s sep N _ hN,3,rfl⟩
 .cases h
def GE (s f:zw):Bool:=decide (f.length<=s.length)&&(s.drop (s.length - f.length) == f)
def Zm (s f:zw):zw:=bif GE s f then s.take (s.length - f.length) else s
def Q5 (s f:zw):Bool:=decide (s.length<=1000000)&&decide (f.length<=1000000)
theorem j9h (s f:zw) (h:Q5 s f=true): ∃N,Yj (w3p s f) N (Ss s f)=.ret [.str (Zm s f),.bool (GE s f)]:=⟨0,by
 unfold Q5 at h;rw [Ac,Ao,Ao] at h;show Ss s f=_;unfold Ss Zm GE;by_cases g:f.length<=s.length
 .have w:wrap .i64 ((s.length:Int) - (f.length:Int))=((s.length - f.length:Nat):Int):=by rw [Zq (by omega)];omega
  rw [Af g,Af (show (s.length:Int)>=(f.length:Int) by omega),Ab,w,Zj,Al,x5f,Yk (Af (show s.length - f.length<=s.length by omega)),Yk (Af (show (0:Int)<=((s.length - f.length:Nat):Int) by omega)),AR];cases s.drop (s.length - f.length) == f <;> rfl
 .rw [An g,An (show ¬(s.length:Int)>=(f.length:Int) by omega)];rfl⟩
def Pk :zy->Option (CA×Bool)
 | [.str s,.str f]=>some (.tup [.str (Zm s f),.bool (GE s f)],Q5 s f)
 | _=>none
theorem j8v {S:CC} (hS:Zu prog S):Zu prog (S.with VJ Pk):=C3 hS (by kernel_rfl) fun args v h=>by
 unfold Pk at h;split at h
 .rename_i s f;simp only [Ae,Ad] at h;obtain ⟨rfl,ho⟩:=h;obtain ⟨N,hN⟩:=j9h s f ho;exact ⟨_,_,.cons (.refl _) (.cons (.refl _) .nil),rfl,u5z s f N _ hN,3,rfl⟩
 .cases h
def G7 (n:Nat):Bool:=decide (97<=n)&&decide (n<=122)
def digN (n:Nat):Bool:=decide (48<=n)&&decide (n<=57)
def H2 (i n:Nat):Bool:=G7 n||(decide (i≠0)&&(decide (n=45)||digN n))
def Fu :Nat->zw->Bool
 | _,[]=>true
 | i,c::r=>H2 i c.toNat&&Fu (i+1) r
def Co (s:zw):Bool:=decide (1<=s.length)&&(decide (s.length<=40)&&Fu 0 s)
def Uu (s:zw):Bool:=decide (s.length<=1000000)
theorem u4a {s:zw} {i:Nat} (hi:i<s.length):MX s (.h0 i)=bif H2 i s[i].toNat then .to (.h0 (i+1)) else .ret [.bool false]:=by
 unfold MX H2 G7 digN;simp only [];rw [Yp hi,Ab];have hz:(((i:Nat):Int) == 0)=decide (i=0):=by rw [AV];simp
 rw [hz];by_cases ha:s[i].toNat <128
 .obtain ⟨e1,e2⟩:=w7j hi ha;rw [e1,e2];generalize s[i].toNat =c;by_cases h1:97<=c
  .rw [En (by omega),Af h1];by_cases h2:c<=122
   .rw [Xs (by omega),Af h2];rfl
   .rw [EZ (by omega),An h2,Jy (by omega),Yc (by omega),Yo (by omega),An (show ¬c=45 by omega),An (show ¬c<=57 by omega),A1,A1,Bool.or_false,A1];cases decide (i=0) <;> rfl
  .rw [Fk (by omega),An h1,AY,Bj];by_cases h0:i=0
   .rw [Af h0,An (show ¬i≠0 from fun h=>h h0)];rfl
   .rw [An h0,Af (show i≠0 from h0)];by_cases h3:c=45
    .rw [Vp (by omega),Af h3];rfl
    .rw [Jy (by omega),An h3,Al,Bj];by_cases h4:48<=c
     .rw [Yc (by omega),Af h4];by_cases h5:c<=57
      .rw [Xb (by omega),Af h5];rfl
      .rw [Yo (by omega),An h5];rfl
     .rw [Zt (by omega),An h4];rfl
 .have hb:=j1h hi ha;generalize s[i].toNat =c at ha ⊢;rw [En (by omega),EZ (by omega),Jy (by omega),Yc (by omega),Yo (by omega),Af (show 97<=c by omega),An (show ¬c<=122 by omega),An (show ¬c=45 by omega),An (show ¬c<=57 by omega),A1,A1,Bool.or_false,A1];cases decide (i=0) <;> rfl
theorem j0a {s:zw}: ∀(k i:Nat),i+k=s.length-> ∃N,Yj (MX s) N (.to (.h0 i))=.ret [.bool (Fu i (s.drop i))]
 | 0,i,h=>⟨1,by
  rw [Zx,Aw (by omega)];unfold MX;simp only [];rw [An (show ¬i<s.length by omega)];rfl⟩
 | k+1,i,h=>by
  have hi:i<s.length:=by omega
  obtain ⟨N,hN⟩:=j0a (s:=s) k (i+1) (by omega);refine ⟨N+1,?_⟩;rw [Zx,u4a hi,AW hi,Fu];cases H2 i s[i].toNat with
  | true=>rw [Ab,hN,Al]
  | false=>rw [Aa,Zc];rfl
theorem j5s (s:zw) (h:Uu s=true): ∃N,Yj (MX s) N (XJ s)=.ret [.bool (Co s)]:=by
 unfold XJ Co;by_cases h1:1<=s.length
 .rw [Af h1,show ((s.length:Int) == 0)=false from Mn (by omega),Aa,Al];by_cases h2:s.length<=40
  .rw [Af h2,Xb (by omega),Aa,Al];exact j0a s.length 0 (by omega)
  .rw [An h2,Yo (by omega),Ab];exact ⟨0,rfl⟩
 .rw [An h1,show ((s.length:Int) == 0)=true from Mo (by omega),Ab];exact ⟨0,rfl⟩
theorem u2g {s:zw} {i:Nat} (hi:i<s.length) (hs:s.length<=1000000):M2 s (.h0 (i:Int))=bif H2 i s[i].toNat then .to (.h0 ((i+1:Nat):Int)) else .ret [.bool false]:=by
 unfold M2 H2 G7 digN;have w2:wrap .i64 ((i:Int)+1)=((i+1:Nat):Int):=Zq (by omega);simp only [Zj,w2,Mm hi];rw [Zt (by omega),Ab,Yk (Zn (by omega))];have hz:(((i:Nat):Int) == 0)=decide (i=0):=by rw [AV];simp
 rw [hz];generalize s[i].toNat =c;by_cases h1:97<=c
 .rw [En (by omega),Af h1];by_cases h2:c<=122
  .rw [Xs (by omega),Af h2];rfl
  .rw [EZ (by omega),An h2,Jy (by omega),En (by omega),EZ (by omega),An (show ¬c=45 by omega),An (show ¬c<=57 by omega),A1,A1,Bool.or_false,A1];cases decide (i=0) <;> rfl
 .rw [Fk (by omega),Aa,An h1,AY,Bj];by_cases h0:i=0
  .rw [Af h0,An (show ¬i≠0 from fun h=>h h0)];rfl
  .rw [An h0,Af (show i≠0 from h0)];by_cases h3:c=45
   .rw [Vp (by omega),Af h3];rfl
   .rw [Jy (by omega),An h3,Al,Bj];by_cases h4:48<=c
    .rw [En (by omega),Af h4];by_cases h5:c<=57
     .rw [Xs (by omega),Af h5];rfl
     .rw [EZ (by omega),An h5];rfl
    .rw [Fk (by omega),An h4];rfl
theorem u8x {s:zw} (hs:s.length<=1000000): ∀(k i:Nat),i+k=s.length-> ∃N,Yj (M2 s) N (.to (.h0 (i:Int)))=.ret [.bool (Fu i (s.drop i)&&(decide (1<=s.length)&&decide (s.length<=40)))]
 | 0,i,h=>⟨1,by
  rw [Zx,Aw (by omega)];unfold M2;simp only [];rw [Yc (by omega),Aa];by_cases h1:1<=s.length
  .rw [En (by omega),Af h1,Ab,show decide ((s.length:Int)<=40)=decide (s.length<=40) by rw [AV,Ao,Ao];omega];exact Zc _ _ _
  .rw [Fk (by omega),An h1];rfl⟩
 | k+1,i,h=>by
  have hi:i<s.length:=by omega
  obtain ⟨N,hN⟩:=u8x hs k (i+1) (by omega);refine ⟨N+1,?_⟩;rw [Zx,u2g hi hs,AW hi,Fu];cases H2 i s[i].toNat with
  | true=>rw [Ab,hN,Al]
  | false=>rw [Aa,Zc];rfl
theorem j4f (s:zw) (h:Uu s=true): ∃N,Yj (M2 s) N (x3a s)=.ret [.bool (Co s)]:=by
 obtain ⟨N,hN⟩:=u8x (s:=s) (Ay h) s.length 0 (by omega);refine ⟨N,?_⟩;have e:Co s=(Fu 0 (s.drop 0)&&(decide (1<=s.length)&&decide (s.length<=40))):=by unfold Co;rw [AR];cases Fu 0 s <;> cases decide (1<=s.length) <;> cases decide (s.length<=40) <;> rfl
 rw [e];exact hN
def Fb :zy->Option (CA×Bool)
 | [.str s]=>some (.bool (Co s),Uu s)
 | _=>none
theorem j8g {S:CC} (hS:Zu prog S):Zu prog (S.with UQ Fb):=C3 hS (by kernel_rfl) fun args v h=>by
 unfold Fb at h;split at h
 .rename_i s;simp only [Ae,Ad] at h;obtain ⟨rfl,ho⟩:=h;obtain ⟨N,hN⟩:=j5s s ho;exact ⟨_,_,.cons (.refl _) .nil,rfl,u4b s N _ hN,3,rfl⟩
 .cases h
theorem j7v {S:CC} (hS:Zu prog S):Zu prog (S.with Tz Fb):=C3 hS (by kernel_rfl) fun args v h=>by
 unfold Fb at h;split at h
 .rename_i s;simp only [Ae,Ad] at h;obtain ⟨rfl,ho⟩:=h;obtain ⟨N,hN⟩:=j4f s ho;exact ⟨_,_,.cons (.refl _) .nil,rfl,u2h s N _ hN,3,rfl⟩
 .cases h
def DL (s:zw):List zw:=bif s == [] then [] else Cg 47 [] s
def WE (s:zw):Bool:=decide (s.length<=1000000)
def IC (s:zw):zy:=bif s == [] then [.nils] else [.dat (Cg 47 [] s).length (Zz (Cg 47 [] s))]
theorem v5s {s:zw} (hs:s.length<=1000000): ∀(k i fr:Nat) (out:List zw),i+k=s.length->fr<=i->out.length<=i->
  ∃N,Yj (Gq s) N (.to (.h0 out (fr:Int) (i:Int)))=.ret [.dat (out++Cg 47 ((s.drop fr).take (i - fr)) (s.drop i)).length (Zz (out++Cg 47 ((s.drop fr).take (i - fr)) (s.drop i)))]
 | 0,i,fr,out,h,hfi,ho=>by
  refine ⟨2,?_⟩;have w2:wrap .i64 ((i:Int)+1)=((i+1:Nat):Int):=Zq (by omega);have e:Gq s (.h0 out (fr:Int) (i:Int))=.to (.h0 (out++[(s.drop fr).take (i - fr)]) ((i+1:Nat):Int) ((i+1:Nat):Int)):=by unfold Gq;simp only [Zj,w2];rw [Yk (Xs (by omega)),Yk (Mo (by omega)),Yk (Yd hfi),Yk (Yd (by omega)),Yk (Xs (by omega)),Yk (Xs (by omega)),Yk (Y0 (by omega))]
  have e2: ∀o,Gq s (.h0 o ((i+1:Nat):Int) ((i+1:Nat):Int))=.ret [.dat o.length (Zz o)]:=fun o=>by unfold Gq;simp only [];rw [EZ (by omega),Aa]
  rw [Zx,e,Zx,e2,Aw (show s.length<=i by omega)];rfl
 | k+1,i,fr,out,h,hfi,ho=>by
  have hi:i<s.length:=by omega
  have hc:=v3c s[i];have w2:wrap .i64 ((i:Int)+1)=((i+1:Nat):Int):=Zq (by omega);have hbb:((((s[i].toNat :Nat):Int)) == 47)=(s[i] == 47):=by
   rw [AV,Bi,Bi];constructor
   .intro h;apply UInt8.toNat_inj.1;show s[i].toNat =47;omega
   .intro h;rw [h];rfl
  have e:Gq s (.h0 out (fr:Int) (i:Int))=bif s[i] == 47 then .to (.h0 (out++[(s.drop fr).take (i - fr)]) ((i+1:Nat):Int) ((i+1:Nat):Int)) else .to (.h0 out (fr:Int) ((i+1:Nat):Int)):=by unfold Gq;simp only [Zj,w2,Mm hi,hbb];rw [Yk (Xs (by omega)),Mn (by omega),Aa,Yk (Zn (by omega))];rw [Yk (Yd hfi),Yk (Yd (by omega)),Yk (Xs (by omega)),Yk (Xs (by omega)),Yk (Y0 (by omega))]
  rw [AW hi,Cg];cases g:s[i] == 47 with
  | true=>obtain ⟨N,hN⟩:=v5s hs k (i+1) (i+1) (out++[(s.drop fr).take (i - fr)]) (by omega) (Aq _) (by rw [AO,List.length_singleton];omega);refine ⟨N+1,?_⟩;rw [Zx,e,g,Ab,Ab,hN,Nat.sub_self,List.take_zero,AH];rfl
  | false=>
   obtain ⟨N,hN⟩:=v5s hs k (i+1) fr out (by omega) (by omega) (by omega);refine ⟨N+1,?_⟩;have ht:(s.drop fr).take (i+1 - fr)=(s.drop fr).take (i - fr)++[s[i]]:=by
    rw [show i+1 - fr=(i - fr)+1 by omega,A4]
    congr 1
    rw [List.getElem?_drop,show fr+(i - fr)=i by omega,At hi];rfl
   rw [Zx,e,g,Aa,Aa,hN,ht]
theorem j5c (s:zw) (h:WE s=true): ∃N,Yj (Gq s) N (XP s)=.ret (IC s):=by
 unfold XP IC;cases g:s == [] with
 | true=>exact ⟨0,rfl⟩
 | false=>obtain ⟨N,hN⟩:=v5s (s:=s) (Ay h) s.length 0 0 [] (Ah _) (Aq _) (Aq _);exact ⟨N,hN⟩
def PZ :zy->Option (CA×Bool)
 | [.str s]=>some (.dat (DL s).length (Zz (DL s)),WE s)
 | _=>none
theorem j8a {S:CC} (hS:Zu prog S):Zu prog (S.with UF PZ):=Lz hS (by kernel_rfl) fun args v h=>by
 unfold PZ at h;split at h
 .rename_i s;simp only [Ae,Ad] at h;obtain ⟨rfl,ho⟩:=h;obtain ⟨N,hN⟩:=j5c s ho;refine ⟨_,_,.cons (.refl _) .nil,?_,u3a s N _ hN,3,?_⟩
  .unfold IC DL;cases s == [] with
   | true=>exact fun ρ u hu=>by cases hu;exact .datn _
   | false=>exact fun ρ u hu=>hu
  .unfold IC;cases s == [] <;> rfl
 .cases h
def V3 :CC:=((((V4.with U2 P8).with VJ Pk).with UQ Fb).with Tz Fb).with UF PZ
theorem Ww :Zu prog V3:=j8a (j7v (j8g (j8v (j8k Xv))))
inductive F5 where
 | h0 (v9:Int) (cZ:Nat)
def OX (x0:zw):F5->CJ
 | .h0 v9 cZ=>⟨⟨82,0,true⟩,none,(Zk prog 84 (pn 1215) 0),none,(Zy prog 84),⟨Yy [(2,(.ptr 0 0)),(4,(.str (Wy x0 ([91]:zw)))),(9,(ii v9)),(62,(.ptr 1 0))],Wf [⟨[(.str []),(ii 0)],144,none⟩,⟨[(.obj (.it (Zm (Wi x0 ([91]:zw)) ([93]:zw)) cZ))],9,none⟩] 0,2,[],true⟩,[],.leaf⟩
def j6b :List (Option zt):=[some [2,4,9,62]]
def j6c :List (Option zt):=[]
def MW (x0:zw):F5->Xk F5
 | .h0 v9 cZ=>(bif (decide (cZ<(Zm (Wi x0 ([91]:zw)) ([93]:zw)).length)) then (bif (decide ((EA (Zm (Wi x0 ([91]:zw)) ([93]:zw)) cZ)<48)) then (.ret [(.agg [(.str []),(.int .i64 0)]),(.bool false)]) else (bif (decide ((EA (Zm (Wi x0 ([91]:zw)) ([93]:zw)) cZ)>57)) then (.ret [(.agg [(.str []),(.int .i64 0)]),(.bool false)]) else (.to (.h0 (wrap .i64 ((wrap .i64 (10*v9))+(wrap .i64 (wrap IntKind.i32 ((EA (Zm (Wi x0 ([91]:zw)) ([93]:zw)) cZ) - 48))))) (cZ+GC (Zm (Wi x0 ([91]:zw)) ([93]:zw)) cZ))))) else (.ret [(.agg [(.str (Wy x0 ([91]:zw))),(.int .i64 v9)]),(.bool true)]))
def XI (x0:zw):Xk F5:=(bif (Ko x0 ([91]:zw)) then (bif (Uu (Wy x0 ([91]:zw))) then (bif (!(Co (Wy x0 ([91]:zw)))) then (bif (!(Kj x0 ([91]:zw))) then (.ret [(.agg [(.str (Wy x0 ([91]:zw))),(.int .i64 (-1))]),(.bool (Co (Wy x0 ([91]:zw))))]) else (.ret [(.agg [(.str (Wy x0 ([91]:zw))),(.int .i64 (-1))]),(.bool false)])) else (bif (!(Kj x0 ([91]:zw))) then (.ret [(.agg [(.str (Wy x0 ([91]:zw))),(.int .i64 (-1))]),(.bool (Co (Wy x0 ([91]:zw))))]) else (bif (Q5 (Wi x0 ([91]:zw)) ([93]:zw)) then (bif (!(GE (Wi x0 ([91]:zw)) ([93]:zw))) then (.ret [(.agg [(.str []),(.int .i64 0)]),(.bool false)]) else (bif ((((Zm (Wi x0 ([91]:zw)) ([93]:zw)).length :Nat):Int) == 0) then (.ret [(.agg [(.str []),(.int .i64 0)]),(.bool false)]) else (bif (decide ((((Zm (Wi x0 ([91]:zw)) ([93]:zw)).length :Nat):Int)>4)) then (.ret [(.agg [(.str []),(.int .i64 0)]),(.bool false)]) else (bif (decide ((0:Int)<=0/\0<(((Zm (Wi x0 ([91]:zw)) ([93]:zw)).length :Nat):Int))) then (bif ((Cr (Zm (Wi x0 ([91]:zw)) ([93]:zw)) 0) == 48) then (bif (decide ((((Zm (Wi x0 ([91]:zw)) ([93]:zw)).length :Nat):Int)>1)) then (.ret [(.agg [(.str []),(.int .i64 0)]),(.bool false)]) else (.to (.h0 0 0))) else (.to (.h0 0 0))) else .stuck)))) else .stuck))) else .stuck) else .stuck)
theorem v0i (x0:zw): ∀s,Xh prog (Zy prog 84) (OX x0) (OX x0 s) (MW x0 s)
 | .h0 v9 cZ=>let b:=Zy prog 84;(lb (fun k0=>let a:=Zk prog 84 (pn 306367) 1;(lb (fun k1=>(Yh ⟨⟨82,0,true⟩,none,a,none,b,⟨Yy [(2,(.ptr 0 0)),(3,(.bool false))],Wf [⟨[(.str []),(ii 0)],144,none⟩] 0,1,[],true⟩,[],.leaf⟩ (sl Ww 31 [] ⟨[0],[],[some [2,3]],[]⟩ b7 (CL 5 []) (tt k1 (tt k0 nn))) rfl (by kernel_rfl))) (fun k1=>let c:=tt k1 (tt k0 nn);(lb (fun k2=>(Yh ⟨⟨82,0,true⟩,none,a,none,b,⟨Yy [(2,(.ptr 0 0)),(3,(.bool false))],Wf [⟨[(.str []),(ii 0)],144,none⟩] 0,1,[],true⟩,[],.leaf⟩ (sl Ww 31 [] ⟨[0],[],[some [2,3]],[]⟩ b7 (bl 5 19) (tt k2 c)) rfl (by kernel_rfl))) (fun k2=>(sl Ww 37 [] ⟨[0,1],[],j6b,j6c⟩ b7 (bl 5 3) (tt k2 c))))))) (fun k0=>(Yh ⟨⟨82,0,true⟩,none,(Zk prog 3 (pn 191) 1),none,b,⟨Yy [(2,(.ptr 0 0)),(3,(.bool true))],Wf [⟨[(.str (Wy x0 ([91]:zw))),(ii v9)],144,none⟩] 0,1,[],true⟩,[],.leaf⟩ (sl Ww 16 [] ⟨[0],[],[some [2,3]],[]⟩ b7 (bl 2 0) (tt k0 nn)) rfl (by kernel_rfl))))
theorem w1q (x0:zw):Xh prog (Zy prog 84) (OX x0) (Zb prog 84 [(.str x0)] true []) (XI x0):=(lo fun cA=>(lo fun dB=>let b:=Wy x0 ([91]:zw);let e:=Zy prog 84;let f:=Zk prog 84 (pn 75) 1;let g:=ww dB (ww cA nn);(lb (fun k0=>(lb (fun k1=>(Yh ⟨⟨82,0,true⟩,none,f,none,e,⟨Yy [(2,(.ptr 0 0)),(3,(.bool (Co b)))],Wf [⟨[(.str b),(ii (-1))],144,none⟩] 0,1,[],true⟩,[],.leaf⟩ (sl Ww 42 [] ⟨[0],[],[some [2,3]],[]⟩ b7 (CL 5 []) (ww dB (tt k1 (tt k0 g)))) rfl (by kernel_rfl))) (fun k1=>(Yh ⟨⟨82,0,true⟩,none,f,none,e,⟨Yy [(2,(.ptr 0 0)),(3,(.bool false))],Wf [⟨[(.str b),(ii (-1))],144,none⟩] 0,1,[],true⟩,[],.leaf⟩ (sl Ww 42 [] ⟨[0],[],[some [2,3]],[]⟩ b7 (CL 3 (bl 2 0)) (tt k1 (tt k0 g))) rfl (by kernel_rfl))))) (fun k0=>(lb (fun k1=>(Yh ⟨⟨82,0,true⟩,none,f,none,e,⟨Yy [(2,(.ptr 0 0)),(3,(.bool (Co b)))],Wf [⟨[(.str b),(ii (-1))],144,none⟩] 0,1,[],true⟩,[],.leaf⟩ (sl Ww 42 [] ⟨[0],[],[some [2,3]],[]⟩ b7 (bl 5 28) (ww dB (tt k1 (tt k1 (tt k0 g))))) rfl (by kernel_rfl))) (fun k1=>(lo fun bS=>let a:=ww bS (tt k1 (tt k0 g));let c:=Zk prog 84 (pn 303) 1;(lb (fun k2=>(Yh ⟨⟨82,0,true⟩,none,c,none,e,⟨Yy [(2,(.ptr 0 0)),(3,(.bool false))],Wf [⟨[(.str []),(ii 0)],144,none⟩] 0,1,[],true⟩,[],.leaf⟩ (sl Ww 73 [] ⟨[0],[],[some [2,3]],[]⟩ b7 (bl 15 32760) (tt k2 a)) rfl (by kernel_rfl))) (fun k2=>(lb (fun k3=>(Yh ⟨⟨82,0,true⟩,none,c,none,e,⟨Yy [(2,(.ptr 0 0)),(3,(.bool false))],Wf [⟨[(.str []),(ii 0)],144,none⟩] 0,1,[],true⟩,[],.leaf⟩ (sl Ww 73 [] ⟨[0],[],[some [2,3]],[]⟩ b7 (bl 15 32704) (tt k3 (tt k2 a))) rfl (by kernel_rfl))) (fun k3=>let h:=tt k3 (tt k2 a);(lb (fun k4=>(Yh ⟨⟨82,0,true⟩,none,c,none,e,⟨Yy [(2,(.ptr 0 0)),(3,(.bool false))],Wf [⟨[(.str []),(ii 0)],144,none⟩] 0,1,[],true⟩,[],.leaf⟩ (sl Ww 73 [] ⟨[0],[],[some [2,3]],[]⟩ b7 (bl 15 32256) (tt k4 h)) rfl (by kernel_rfl))) (fun k4=>(lo fun dC=>let d:=ww dC (tt k4 h);(lb (fun k5=>(lb (fun k6=>(Yh ⟨⟨82,0,true⟩,none,c,none,e,⟨Yy [(2,(.ptr 0 0)),(3,(.bool false))],Wf [⟨[(.str []),(ii 0)],144,none⟩] 0,1,[],true⟩,[],.leaf⟩ (sl Ww 73 [] ⟨[0],[],[some [2,3]],[]⟩ b7 (bl 18 188416) (tt k6 (tt k5 d))) rfl (by kernel_rfl))) (fun k6=>(sl Ww 80 [] ⟨[0,1],[],j6b,j6c⟩ b7 (bl 18 57344) (tt k6 (tt k5 d)))))) (fun k5=>(sl Ww 80 [] ⟨[0,1],[],j6b,j6c⟩ b7 (bl 18 0) (tt k5 d))))))))))))))))))
theorem u4h (x0:zw) (n:Nat) (vs:zy) (h:Yj (MW x0) n (XI x0)=.ret vs):Ji prog (Zy prog 84) (Zb prog 84 [(.str x0)] true []) vs:=by have:=Zf (v0i x0) n _ (w1q x0);rwa [h] at this
inductive GY where
 | h0 (v5:Int)
 | h1 (v5:Int) (v6:zw) (v7:Int) (v8:Int)
def Nb (x0:zw):GY->CJ
 | .h0 v5=>⟨⟨84,0,true⟩,none,(Zk prog 87 (pn 35) 0),none,(Zy prog 62),⟨Yy [(0,(.str x0)),(5,(ii v5))],Wf [] 0,0,[],true⟩,[],.leaf⟩
 | .h1 v5 v6 v7 v8=>⟨⟨84,0,true⟩,none,(Zk prog 87 (pn 4863) 0),none,(Zy prog 62),⟨Yy [(0,(.str x0)),(5,(ii v5)),(6,(.str v6)),(7,(ii v7)),(8,(ii v8))],Wf [] 0,0,[],true⟩,[],.leaf⟩
def K3 :List (Option zt):=[some [0,5]]
def K4 :List (Option zt):=[]
def j3w :List (Option zt):=[some [0,5,6,7,8]]
def j3x :List (Option zt):=[]
def Km (x0:zw):GY->Xk GY
 | .h0 v5=>let a:=Uu ((x0.drop 0).take v5.toNat);let b:=Co ((x0.drop 0).take v5.toNat);(bif (decide (v5<(x0.length:Int))) then (bif (decide (0<=v5/\v5<(x0.length:Int))) then (bif ((Cr x0 v5.toNat) != 91) then (.to (.h0 (wrap .i64 (v5+1)))) else (bif (decide (v5.toNat<=x0.length)) then (bif (decide (0<=v5)) then (bif a then (bif (!b) then (.ret [(.str []),(.int .i64 0),(.bool false)]) else (bif (v5 == (x0.length:Int)) then (.ret [(.str x0),(.int .i64 (-1)),(.bool true)]) else (bif (decide (0<=(wrap .i64 ((x0.length:Int) - 1))/\(wrap .i64 ((x0.length:Int) - 1))<(x0.length:Int))) then (bif ((Cr x0 (Int.toNat (wrap .i64 ((x0.length:Int) - 1)))) != 93) then (.ret [(.str []),(.int .i64 0),(.bool false)]) else (bif (decide ((Int.toNat (wrap .i64 (v5+1)))<=(Int.toNat (wrap .i64 ((x0.length:Int) - 1))))) then (bif (decide ((Int.toNat (wrap .i64 ((x0.length:Int) - 1)))<=x0.length)) then (bif (decide (0<=(wrap .i64 (v5+1)))) then (bif (decide (0<=(wrap .i64 ((x0.length:Int) - 1)))) then (.to (.h1 v5 ((x0.drop (Int.toNat (wrap .i64 (v5+1)))).take ((Int.toNat (wrap .i64 ((x0.length:Int) - 1))) - (Int.toNat (wrap .i64 (v5+1))))) 0 0)) else .stuck) else .stuck) else .stuck) else .stuck)) else .stuck))) else .stuck) else .stuck) else .stuck)) else .stuck) else (bif (decide (v5.toNat<=x0.length)) then (bif (decide (0<=v5)) then (bif a then (bif (!b) then (.ret [(.str []),(.int .i64 0),(.bool false)]) else (bif (v5 == (x0.length:Int)) then (.ret [(.str x0),(.int .i64 (-1)),(.bool true)]) else (bif (decide (0<=(wrap .i64 ((x0.length:Int) - 1))/\(wrap .i64 ((x0.length:Int) - 1))<(x0.length:Int))) then (bif ((Cr x0 (Int.toNat (wrap .i64 ((x0.length:Int) - 1)))) != 93) then (.ret [(.str []),(.int .i64 0),(.bool false)]) else (bif (decide ((Int.toNat (wrap .i64 (v5+1)))<=(Int.toNat (wrap .i64 ((x0.length:Int) - 1))))) then (bif (decide ((Int.toNat (wrap .i64 ((x0.length:Int) - 1)))<=x0.length)) then (bif (decide (0<=(wrap .i64 (v5+1)))) then (bif (decide (0<=(wrap .i64 ((x0.length:Int) - 1)))) then (.to (.h1 v5 ((x0.drop (Int.toNat (wrap .i64 (v5+1)))).take ((Int.toNat (wrap .i64 ((x0.length:Int) - 1))) - (Int.toNat (wrap .i64 (v5+1))))) 0 0)) else .stuck) else .stuck) else .stuck) else .stuck)) else .stuck))) else .stuck) else .stuck) else .stuck))
 | .h1 v5 v6 v7 v8=>let a:=Cr v6 v8.toNat;(bif (decide (v8<(v6.length:Int))) then (bif (decide (0<=v8/\v8<(v6.length:Int))) then (bif (decide (a>=48)) then (bif (!(decide (a<=57))) then (.ret [(.str []),(.int .i64 0),(.bool false)]) else (bif (decide (v8>3)) then (.ret [(.str []),(.int .i64 0),(.bool false)]) else (.to (.h1 v5 v6 (wrap .i64 ((wrap .i64 (10*v7))+(wrap .i64 (wrap IntKind.u8 (a - 48))))) (wrap .i64 (v8+1)))))) else (.ret [(.str []),(.int .i64 0),(.bool false)])) else .stuck) else (bif ((v6.length:Int) == 0) then (.ret [(.str []),(.int .i64 0),(.bool false)]) else (bif (decide ((v6.length:Int)>1)) then (bif (decide ((0:Int)<=0/\0<(v6.length:Int))) then (bif ((Cr v6 0) == 48) then (.ret [(.str []),(.int .i64 0),(.bool false)]) else (bif (decide (v5.toNat<=x0.length)) then (bif (decide (0<=v5)) then (.ret [(.str ((x0.drop 0).take v5.toNat)),(.int .i64 v7),(.bool true)]) else .stuck) else .stuck)) else .stuck) else (bif (decide (v5.toNat<=x0.length)) then (bif (decide (0<=v5)) then (.ret [(.str ((x0.drop 0).take v5.toNat)),(.int .i64 v7),(.bool true)]) else .stuck) else .stuck))))
def x2u (x0:zw):Xk GY:=(.to (.h0 0))
theorem w8y (x0:zw): ∀s,Xh prog (Zy prog 87) (Nb x0) (Nb x0 s) (Km x0 s)
 | .h0 v5=>let c:=decide ((tn v5)<=x0.length);let d:=decide (0<=(tn v5));let e:=tn (wr ((x0.length:Int) - 1));let f:=b8 [2,3,4];let g:=decide ((tn (wr (v5+1)))<=e);let h:=decide (e<=x0.length);(lb (fun k0=>(lo fun aK=>let b:=ww aK (tt k0 nn);(lb (fun k1=>(sl Ww 24 [] ⟨[],[],K3,K4⟩ b7 (CL 5 []) (tt k1 b))) (fun k1=>(lo fun bS=>(lo fun dS=>(lo fun eC=>let a:=tt k1 b;(lb (fun k2=>(lr 84 87 (pn 151) 1 62 [(2,(.str [])),(3,(ii 0)),(4,(.bool false))] (sl Ww 32 [] f b7 (CL 4 (bl 2 2)) (tt k2 (ww eC (pp (pp (xw dS) (pp nn (pp (xG c) (xG d)))) a)))))) (fun k2=>(lb (fun k3=>(lr 84 87 (pn 303) 1 62 [(2,(.str x0)),(3,(ii (-1))),(4,(.bool true))] (sl Ww 43 [] f b7 (CL 4 (bl 3 4)) (tt k3 (tt k2 (ww eC (pp (pp (xw dS) (pp nn (pp (xG c) (xG d)))) a))))))) (fun k3=>(lo fun cU=>(lb (fun k4=>(lr 84 87 (pn 607) 1 62 [(2,(.str [])),(3,(ii 0)),(4,(.bool false))] (sl Ww 54 [] f b7 (CL 4 (bl 4 8)) (tt k4 (ww cU (tt k3 (tt k2 (ww eC (pp (pp (xw dS) (pp nn (pp (xG c) (xG d)))) a))))))))) (fun k4=>(lo fun o0=>(lo fun o1=>(lo fun o2=>(lo fun o3=>(sl Ww 71 [] ⟨[],[],j3w,j3x⟩ b7 (CL 4 (bl 4 0)) (pp (pp (xw o3) (pp (xw o2) (pp (xG h) (xG g)))) (tt k4 (ww cU (tt k3 (tt k2 (ww eC (pp (pp (xw dS) (pp nn (pp (xG c) (xG d)))) a)))))))))))))))))))))))))) (fun k0=>(lo fun aK=>(lo fun bH=>(lo fun cY=>(lb (fun k1=>(lr 84 87 (pn 151) 1 62 [(2,(.str [])),(3,(ii 0)),(4,(.bool false))] (sl Ww 32 [] f b7 (bl 6 32) (tt k1 (ww cY (pp (pp (xw bH) (pp nn (pp (xG c) (xG d)))) (tt k0 nn))))))) (fun k1=>(lb (fun k2=>(lr 84 87 (pn 303) 1 62 [(2,(.str x0)),(3,(ii (-1))),(4,(.bool true))] (sl Ww 43 [] f b7 (bl 7 64) (tt k2 (tt k1 (ww cY (pp (pp (xw bH) (pp nn (pp (xG c) (xG d)))) (tt k0 nn)))))))) (fun k2=>(lo fun cT=>(lb (fun k3=>(lr 84 87 (pn 607) 1 62 [(2,(.str [])),(3,(ii 0)),(4,(.bool false))] (sl Ww 54 [] f b7 (bl 8 128) (tt k3 (ww cT (tt k2 (tt k1 (ww cY (pp (pp (xw bH) (pp nn (pp (xG c) (xG d)))) (tt k0 nn)))))))))) (fun k3=>(lo fun o0=>(lo fun o1=>(lo fun o2=>(lo fun o3=>(sl Ww 71 [] ⟨[],[],j3w,j3x⟩ b7 (bl 8 0) (pp (pp (xw o3) (pp (xw o2) (pp (xG h) (xG g)))) (tt k3 (ww cT (tt k2 (tt k1 (ww cY (pp (pp (xw bH) (pp nn (pp (xG c) (xG d)))) (tt k0 nn)))))))))))))))))))))))))
 | .h1 v5 v6 v7 v8=>let e:=b8 [2,3,4];(lb (fun k0=>(lo fun aK=>let a:=ww aK (tt k0 nn);let h:=pn 594687;(lb (fun k1=>(lb (fun k2=>(lr 84 87 h 1 62 [(2,(.str [])),(3,(ii 0)),(4,(.bool false))] (sl Ww 47 [] e b7 (CL 6 []) (tt k2 (tt k1 a))))) (fun k2=>let c:=tt k2 (tt k1 a);(lb (fun k3=>(lr 84 87 h 1 62 [(2,(.str [])),(3,(ii 0)),(4,(.bool false))] (sl Ww 47 [] e b7 (CL 3 (bl 3 4)) (tt k3 c)))) (fun k3=>(sl Ww 60 [] ⟨[],[],j3w,j3x⟩ b7 (CL 3 (bl 3 0)) (ww aK (tt k3 c)))))))) (fun k1=>(lr 84 87 h 1 62 [(2,(.str [])),(3,(ii 0)),(4,(.bool false))] (sl Ww 47 [] e b7 (bl 6 57) (tt k1 a))))))) (fun k0=>(lb (fun k1=>(lr 84 87 (pn 9727) 1 62 [(2,(.str [])),(3,(ii 0)),(4,(.bool false))] (sl Ww 34 [] e b7 (bl 7 126) (tt k1 (tt k0 nn))))) (fun k1=>let b:=tt k1 (tt k0 nn);let f:=decide ((tn v5)<=x0.length);let g:=decide (0<=(tn v5));(lb (fun k2=>(lo fun cT=>let d:=ww cT (tt k2 b);(lb (fun k3=>(lr 84 87 (pn 9727) 1 62 [(2,(.str [])),(3,(ii 0)),(4,(.bool false))] (sl Ww 34 [] e b7 (bl 10 736) (tt k3 d)))) (fun k3=>(lo fun o0=>(lo fun o1=>(lr 84 3 (pn 191) 1 62 [(2,(.str ((x0.drop 0).take (tn v5)))),(3,(ii v7)),(4,(.bool true))] (sl Ww 39 [] e b7 (bl 10 224) (pp (pp (xw o1) (pp nn (pp (xG f) (xG g)))) (tt k3 d)))))))))) (fun k2=>(lo fun o0=>(lo fun o1=>(lr 84 3 (pn 191) 1 62 [(2,(.str ((x0.drop 0).take (tn v5)))),(3,(ii v7)),(4,(.bool true))] (sl Ww 39 [] e b7 (bl 10 0) (pp (pp (xw o1) (pp nn (pp (xG f) (xG g)))) (tt k2 b))))))))))))
theorem x9s (x0:zw):Xh prog (Zy prog 87) (Nb x0) (Zb prog 87 [(.str x0)] true []) (x2u x0):=(sl Ww 13 [] ⟨[],[],K3,K4⟩ b7 [] nn)
theorem u1x (x0:zw) (n:Nat) (vs:zy) (h:Yj (Km x0) n (x2u x0)=.ret vs):Ji prog (Zy prog 87) (Zb prog 87 [(.str x0)] true []) vs:=by have:=Zf (w8y x0) n _ (x9s x0);rwa [h] at this
theorem wu8 (n:Int) (h:0<=n/\n<256):wrap .u8 n=n:=by unfold wrap;simp [IntKind.signed,IntKind.bits];omega
theorem wi32 (n:Int) (h:0<=n/\n<256):wrap .i32 n=n:=by unfold wrap;simp [IntKind.signed,IntKind.bits];omega
theorem j2f {cs cs':zy} (h:DJ cs cs') (ρ:CF) (u:Value) (hv:VRel ρ (.tup cs) u):VRel ρ (.tup cs') u:=by
 cases hv with
 | tup _ vs hl hh=>exact .tup cs' vs (by rw [<-h.len];exact hl) fun i h1 h2=>h.sound i (by rw [h.len];exact h1) h1 (hh i (by rw [h.len];exact h1) h2)
def GQ (d:zw):Bool:=d.all fun c=>digN c.toNat
def Ee (d:zw):Bool:=decide (1<=d.length)&&(decide (d.length<=4)&& !(decide (1<d.length)&&(Cr d 0 == 48)))
def JP (d:zw):Bool:=Ee d&&GQ d
def Cc (s:zw):zw:=Zm (Wi s [91]) [93]
def Vr (s:zw):Bool:=Co (Wy s [91])&&(bif Kj s [91] then GE (Wi s [91]) [93]&&JP (Cc s) else true)
def IQ (n:Nat) (d:zw):Nat:=d.foldl (fun n c=>10*n+(c.toNat - 48)) n
def Gn (s:zw):zw:=bif Co (Wy s [91])&&Kj s [91] then (bif Vr s then Wy s [91] else []) else Wy s [91]
def Gm (s:zw):Int:=bif Co (Wy s [91])&&Kj s [91] then (bif Vr s then (IQ 0 (Cc s):Int) else 0) else -1
def WB (s:zw):Bool:=decide (s.length<=1000000)
theorem v7e {s sep:zw}:(Wy s sep).length <=s.length/\(Wi s sep).length <=s.length:=by
 unfold Wy Wi;cases decide (0<=Ci s sep) with
 | true=>rw [Ab,Ab,Bt,Bz];omega
 | false=>exact ⟨Aq _,AA _⟩
theorem j9i {s f:zw}:(Zm s f).length <=s.length:=by
 unfold Zm;cases GE s f with
 | true=>rw [Ab,Bt];omega
 | false=>exact Aq _
theorem j0o {s:zw} (hs:(Cc s).length <=4): ∀(k i n:Nat),i+k=(Cc s).length ->n<10 ^ i->
  ∃N,Yj (MW s) N (.to (.h0 (n:Int) i))=.ret (bif GQ ((Cc s).drop i) then [.agg [.str (Wy s [91]),.int .i64 (IQ n ((Cc s).drop i):Int)],.bool true] else [.agg [.str [],.int .i64 0],.bool false])
 | 0,i,n,h,hn=>⟨1,by
  rw [Zx,Aw (by omega)];unfold MW;simp only [];rw [show decide (i<(Zm (Wi s [91]) [93]).length)=false from An (show ¬i<(Cc s).length by omega)];rfl⟩
 | k +1,i,n,h,hn=>by
  have hi:i<(Cc s).length :=by omega
  have hp:10 ^ i<=10 ^ 4:=Nat.pow_le_pow_right (by decide) (by omega);rw [AW hi];have e:MW s (.h0 (n:Int) i)=bif digN (Cc s)[i].toNat then .to (.h0 ((10*n+((Cc s)[i].toNat - 48):Nat):Int) (i+1)) else .ret [.agg [.str [],.int .i64 0],.bool false]:=by
   unfold MW;simp only [];rw [show decide (i<(Zm (Wi s [91]) [93]).length)=true from Af hi,Ab];show (bif decide (EA (Cc s) i<48) then _ else bif decide (EA (Cc s) i>57) then _ else Xk.to (F5.h0 (wrap .i64 (wrap .i64 (10*(n:Int))+wrap .i64 (wrap .i32 (EA (Cc s) i - 48)))) (i+GC (Cc s) i)))=_;unfold digN;by_cases ha:(Cc s)[i].toNat <128
   .obtain ⟨e1,e2⟩:=w7j hi ha;rw [e1,e2];generalize (Cc s)[i].toNat =c at ha;by_cases h1:48<=c
    .rw [Yc (by omega),Af h1];by_cases h2:c<=57
     .rw [Xb (by omega),Af h2,wi32 _ (by omega),Zq (n:=10*(n:Int)) (by omega),Zq (n:=(c:Int) - 48) (by omega),Zq (by omega)];show Xk.to _=Xk.to _
      congr 2
      omega
     .rw [Yo (by omega),An h2];rfl
    .rw [Zt (by omega),An h1];rfl
   .have hb:=j1h hi ha;rw [Yc (by omega),Yo (by omega),An (show ¬(Cc s)[i].toNat <=57 by omega),A1];rfl
  show∃N,Yj _ N _=.ret (bif digN (Cc s)[i].toNat &&GQ ((Cc s).drop (i+1)) then _ else _);cases g:digN (Cc s)[i].toNat with
  | false=>exact ⟨1,by rw [Zx,e,g,Aa,Zc];rfl⟩
  | true=>
   have g':(48<=(Cc s)[i].toNat /\(Cc s)[i].toNat <=57):=by unfold digN at g;rwa [Ac,Ao,Ao] at g
   obtain ⟨N,hN⟩:=j0o hs k (i+1) (10*n+((Cc s)[i].toNat - 48)) (by omega) (by rw [Nat.pow_succ];omega);refine ⟨N+1,?_⟩;rw [Zx,e,g,Ab,hN];rfl
theorem j6a (s:zw) (h:WB s=true): ∃N,Yj (MW s) N (XI s)=.ret [.agg [.str (Gn s),.int .i64 (Gm s)],.bool (Vr s)]:=by
 have hs:s.length<=1000000:=Ay h;obtain ⟨k0,k1⟩:=v7e (s:=s) (sep:=[91]);unfold XI;rw [Yk (show Ko s [91]=true by unfold Ko;rw [Af hs];rfl),Yk (show Uu (Wy s [91])=true from Af (by omega))];have hv: ∀{a b c},Gn s=a->Gm s=b->Vr s=c->[CA.agg [.str (Gn s),.int .i64 (Gm s)],.bool (Vr s)]=[.agg [.str a,.int .i64 b],.bool c]:=fun h1 h2 h3=>by rw [h1,h2,h3]
 cases hn:Co (Wy s [91]) with
 | false=>
  have e1:Vr s=false:=by unfold Vr;rw [hn];rfl
  rw [hv (a:=Wy s [91]) (b:= -1) (c:=false) (by unfold Gn;rw [hn];rfl) (by unfold Gm;rw [hn];rfl) e1];exact ⟨0,by cases Kj s [91] <;> rfl⟩
 | true=>
  cases h2:Kj s [91] with
  | false=>
   have e1:Vr s=true:=by unfold Vr;rw [hn,h2];rfl
   rw [hv (a:=Wy s [91]) (b:= -1) (c:=true) (by unfold Gn;rw [hn,h2];rfl) (by unfold Gm;rw [hn,h2];rfl) e1];exact ⟨0,rfl⟩
  | true=>
   have e1:Vr s=(GE (Wi s [91]) [93]&&JP (Cc s)):=by unfold Vr;rw [hn,h2];rfl
   have es:Gn s=bif Vr s then Wy s [91] else []:=by unfold Gn;rw [hn,h2];rfl
   have en:Gm s=bif Vr s then (IQ 0 (Cc s):Int) else 0:=by unfold Gm;rw [hn,h2];rfl
   have hf:Vr s=false->[CA.agg [.str (Gn s),.int .i64 (Gm s)],.bool (Vr s)]=[.agg [.str [],.int .i64 0],.bool false]:=fun q=>by rw [es,en,q];rfl
   have hd:(Cc s).length <=s.length:=AI j9i k1;have hD:Zm (Wi s [91]) [93]=Cc s:=rfl;rw [Ax,Aa,Aa,Yk (show Q5 (Wi s [91]) [93]=true by unfold Q5;rw [Af (show (Wi s [91]).length <=1000000 by omega)];rfl),hD];cases hc:GE (Wi s [91]) [93] with
   | false=>rw [hf (by rw [e1,hc];rfl)];exact ⟨0,rfl⟩
   | true=>
    rw [hc,Al] at e1;rw [Ax,Aa];by_cases g0:1<=(Cc s).length
    .rw [Mn (by omega),Aa];by_cases g4:(Cc s).length <=4
     .rw [Xb (by omega),Aa,Yk (Zn (by omega))];obtain ⟨N,hN⟩:=j0o g4 (Cc s).length 0 0 (Ah _) (by decide);rw [AR] at hN;have fin:Ee (Cc s)=true->[CA.agg [.str (Gn s),.int .i64 (Gm s)],.bool (Vr s)]=(bif GQ (Cc s) then [.agg [.str (Wy s [91]),.int .i64 (IQ 0 (Cc s):Int)],.bool true] else [.agg [.str [],.int .i64 0],.bool false]):=fun q=>by
       have e2:Vr s=GQ (Cc s):=by rw [e1];unfold JP;rw [q,Al]
       rw [es,en,e2];cases GQ (Cc s) <;> rfl
      by_cases g1:1<(Cc s).length
      .cases g48:Cr (Cc s) 0 == 48 with
       | true=>rw [Ab,Yo (by omega),Ab,hf (by rw [e1];unfold JP Ee;rw [Af g1,g48,Bool.and_self,Ax,A1,A1,AY])];exact ⟨0,rfl⟩
       | false=>rw [Aa,fin (by unfold Ee;rw [Af g0,Af g4,g48,A1];rfl)];exact ⟨N,hN⟩
      .rw [Xb (by omega),Aa,fin (by unfold Ee;rw [Af g0,Af g4,An g1];rfl)];refine ⟨N,?_⟩;rw [show∀(b:Bool) (x:Xk F5),(bif b then x else x)=x from fun b x=>by cases b <;> rfl];exact hN
     .rw [Yo (by omega),Ab,hf (by rw [e1];unfold JP Ee;rw [An g4];cases decide (1<=(Cc s).length) <;> rfl)];exact ⟨0,rfl⟩
    .rw [Mo (by omega),Ab,hf (by rw [e1];unfold JP Ee;rw [An g0];rfl)];exact ⟨0,rfl⟩
def P7 :zy->Option (CA×Bool)
 | [.str s]=>some (.tup [.agg [.str (Gn s),.int .i64 (Gm s)],.bool (Vr s)],WB s)
 | _=>none
theorem j8i {S:CC} (hS:Zu prog S):Zu prog (S.with UX P7):=C3 hS (by kernel_rfl) fun args v h=>by
 unfold P7 at h;split at h
 .rename_i s;simp only [Ae,Ad] at h;obtain ⟨rfl,ho⟩:=h;obtain ⟨N,hN⟩:=j6a s ho;exact ⟨_,_,.cons (.refl _) .nil,rfl,u4h s N _ hN,5,rfl⟩
 .cases h
def CR (b:UInt8):zw->Nat
 | []=>0
 | c::r=>bif c == b then 0 else CR b r+1
theorem v7j (b:UInt8): ∀s,CR b s<=s.length
 | []=>Aq _
 | c::r=>by
  have:=v7j b r;unfold CR;rw [Ba];cases c == b with
  | true=>exact AA _
  | false=>rw [Aa];omega
theorem j0w (b:UInt8): ∀s,(h:CR b s<s.length)->s[CR b s]=b
 | [],h=>by cases h
 | c::r,h=>by
  cases g:c == b with
  | true=>
   have e:CR b (c::r)=0:=by unfold CR;rw [g];rfl
   simp only [e,List.getElem_cons_zero];exact Bi.1 g
  | false=>
   have e:CR b (c::r)=CR b r+1:=by rw [CR,g];rfl
   rw [e,Ba] at h;simp only [e,List.getElem_cons_succ];exact j0w b r (by omega)
theorem w2e (b:UInt8): ∀s,Lib.indexByte s b=bif decide (CR b s<s.length) then (CR b s:Int) else -1
 | []=>rfl
 | c::r=>by
  unfold Lib.indexByte CR;rw [w2e b r,Ba];cases g:c == b with
  | true=>rw [Ab,Af (Nat.succ_pos _)];rfl
  | false=>
   rw [Aa];by_cases h:CR b r<r.length
   .rw [Af h,Af (Nat.succ_lt_succ h),Ab,Ab,Az (by simp),Az (by simp)];rfl
   .rw [An h,An (show ¬CR b r+1<r.length+1 by omega)];rfl
def GZ (s:zw):Bool:=Co (s.take (CR 91 s))&&(decide (CR 91 s=s.length)||(Cr s (s.length - 1) == 93&&JP ((s.drop (CR 91 s+1)).take (s.length - 1 - (CR 91 s+1)))))
theorem j3v (s:zw):GZ s=Vr s:=by
 have hix:Ci s [91]=bif decide (CR 91 s<s.length) then (CR 91 s:Int) else -1:=w2e 91 s;have hle:=v7j 91 s;unfold GZ Vr;by_cases h:CR 91 s<s.length
 .rw [Af h,Ab] at hix;have e2:Kj s [91]=true:=by unfold Kj;rw [hix];exact Af (by omega)
  have e0:Wy s [91]=s.take (CR 91 s):=by unfold Wy;rw [hix,Af (show (0:Int)<=(CR 91 s:Int) by omega),Zj];rfl
  have e1:Wi s [91]=s.drop (CR 91 s+1):=by unfold Wi;rw [hix,Af (show (0:Int)<=(CR 91 s:Int) by omega),Zj];rfl
  rw [An (show ¬CR 91 s=s.length by omega),Bj,e0,e2,Ab]
  congr 1
  unfold Cc Zm GE;rw [e1];have hl:(s.drop (CR 91 s+1)).length =s.length - (CR 91 s+1):=Bz;rw [Mm (show s.length - 1<s.length by omega)];by_cases g:CR 91 s+1<s.length
  .rw [Af (show [(93:UInt8)].length <=(s.drop (CR 91 s+1)).length by rw [hl];show 1<=_;omega),Al];have ed:(s.drop (CR 91 s+1)).drop ((s.drop (CR 91 s+1)).length - [(93:UInt8)].length)=[s[s.length - 1]'(by omega)]:=by rw [List.drop_drop,hl];show s.drop (CR 91 s+1+(s.length - (CR 91 s+1) - 1))=_;rw [show CR 91 s+1+(s.length - (CR 91 s+1) - 1)=s.length - 1 by omega,AW (show s.length - 1<s.length by omega),Aw (by omega)]
   rw [ed];have eb:([s[s.length - 1]'(by omega)] == [(93:UInt8)])=((((s[s.length - 1]'(by omega)).toNat :Nat):Int) == 93):=by
    rw [AV,Bi,Bi];constructor
    .intro q;rw [Bn] at q;rw [q.1];rfl
    .intro q;have:(s[s.length - 1]'(by omega))=93:=by apply UInt8.toNat_inj.1;show _=93;omega
     rw [this]
   rw [eb];cases ((((s[s.length - 1]'(by omega)).toNat :Nat):Int) == 93) with
   | false=>rfl
   | true=>
    rw [Al,Al,Ab,hl]
    congr 2
    show _=s.length - (CR 91 s+1) - 1;omega
  .have e:s.length - 1=CR 91 s:=by omega
   have hq:(s[s.length - 1]'(by omega))=91:=by simp only [e];exact j0w 91 s h
   rw [hq,An (show ¬ [(93:UInt8)].length <=(s.drop (CR 91 s+1)).length by rw [hl];show ¬1<=_;omega)];rfl
 .have hn:CR 91 s=s.length:=by omega
  rw [An h,Aa] at hix;have e2:Kj s [91]=false:=by unfold Kj;rw [hix];rfl
  have e0:Wy s [91]=s:=by unfold Wy;rw [hix];rfl
  rw [e2,e0,hn,Af rfl,List.take_length];rfl
theorem u8n {s d:zw} {p:Nat} (hp:p<=s.length) (hd:d.length<=1000000): ∀(k i n:Nat),i+k=d.length->i<=4->n<10 ^ i->
  ∃N a b,Yj (Km s) N (.to (.h1 (p:Int) d (n:Int) (i:Int)))=.ret [.str a,.int .i64 b,.bool (Ee d&&GQ (d.drop i))]
 | 0,i,n,h,h4,hn=>by
  have hs: ∀a b,∃N a' b',Yj (Km s) N (.ret [.str a,.int .i64 b,.bool (Ee d&&GQ (d.drop i))])=.ret [.str a',.int .i64 b',.bool (Ee d&&GQ (d.drop i))]:=fun a b=>⟨0,a,b,rfl⟩
  rw [Aw (by omega)] at hs ⊢;have key: ∃a b,Km s (.h1 (p:Int) d (n:Int) (i:Int))=.ret [.str a,.int .i64 b,.bool (Ee d&&GQ [])]:=by
   unfold Km Ee;simp only [Zj];rw [Yc (by omega),Aa,Af (show d.length<=4 by omega),Al,Yk (Af (show (p:Nat)<=s.length from hp)),Yk (Af (show (0:Int)<=(p:Int) by omega))];by_cases g0:1<=d.length
   .rw [Mn (by omega),Aa,Af g0,Al];by_cases g1:1<d.length
    .rw [Yo (by omega),Ab,Yk (Zn (by omega)),Af g1,Al];cases Cr d 0 == 48 with
     | true=>exact ⟨_,_,rfl⟩
     | false=>exact ⟨_,_,rfl⟩
    .rw [Xb (by omega),Aa,An g1];exact ⟨_,_,rfl⟩
   .rw [Mo (by omega),Ab,An g0];exact ⟨_,_,rfl⟩
  obtain ⟨a,b,e⟩:=key;exact ⟨1,a,b,by rw [Zx,e];rfl⟩
 | k +1,i,n,h,h4,hn=>by
  have hi:i<d.length:=by omega
  have hc:=v3c d[i];have hpw:10 ^ i<=10 ^ 4:=Nat.pow_le_pow_right (by decide) (by omega);have w2:wrap .i64 ((i:Int)+1)=((i+1:Nat):Int):=Zq (by omega);rw [AW hi];have e:Km s (.h1 (p:Int) d (n:Int) (i:Int))=bif digN d[i].toNat &&decide (i<=3) then .to (.h1 (p:Int) d ((10*n+(d[i].toNat - 48):Nat):Int) ((i+1:Nat):Int)) else .ret [.str [],.int .i64 0,.bool false]:=by
   unfold Km digN;simp only [Zj,w2,Mm hi];rw [Zt (by omega),Ab,Yk (Zn (by omega))];generalize d[i].toNat =c at hc;by_cases h1:48<=c
   .rw [En (by omega),Af h1,Ab];by_cases h2:c<=57
    .rw [Xs (by omega),Af h2,Ax,Aa];by_cases h3:i<=3
     .rw [Xb (by omega),Af h3,Aa,wu8 _ (by omega),Zq (n:=10*(n:Int)) (by omega),Zq (n:=(c:Int) - 48) (by omega),Zq (by omega)];show Xk.to _=Xk.to _
      congr 2
      omega
     .rw [Yo (by omega),An h3];rfl
    .rw [EZ (by omega),An h2];rfl
   .rw [Fk (by omega),An h1];rfl
  show∃N a b,Yj _ N _=.ret [_,_,.bool (Ee d&&(digN d[i].toNat &&GQ (d.drop (i+1))))];cases g:digN d[i].toNat with
  | false=>exact ⟨1,[],0,by rw [Zx,e,g,AY,Aa,Zc,AY,A1]⟩
  | true=>
   by_cases h3:i<=3
   .have g':(48<=d[i].toNat /\d[i].toNat <=57):=by unfold digN at g;rwa [Ac,Ao,Ao] at g
    obtain ⟨N,a,b,hN⟩:=u8n hp hd k (i+1) (10*n+(d[i].toNat - 48)) (by omega) (by omega) (by rw [Nat.pow_succ];omega);exact ⟨N+1,a,b,by rw [Zx,e,g,Af h3,Bool.and_self,Ab,hN,Al]⟩
   .have e4:Ee d=false:=by unfold Ee;rw [An (show ¬d.length<=4 by omega),AY,A1]
    exact ⟨1,[],0,by rw [Zx,e,g,An h3,A1,Aa,Zc,e4,AY]⟩
theorem w5g {s:zw} {p:Nat} (hp:p<=s.length) (hs:s.length<=1000000) {E:Xk GY}
  (hE:E=(bif decide (p<=s.length) then (bif decide (0<=(p:Int)) then (bif Uu ((s.drop 0).take p) then (bif !(Co ((s.drop 0).take p)) then (.ret [.str [],.int .i64 0,.bool false]) else (bif ((p:Int) == (s.length:Int)) then (.ret [.str s,.int .i64 (-1),.bool true]) else (bif decide (0<=wrap .i64 ((s.length:Int) - 1)/\wrap .i64 ((s.length:Int) - 1)<(s.length:Int)) then (bif (Cr s (Int.toNat (wrap .i64 ((s.length:Int) - 1)))) != 93 then (.ret [.str [],.int .i64 0,.bool false]) else (bif decide (Int.toNat (wrap .i64 ((p:Int)+1))<=Int.toNat (wrap .i64 ((s.length:Int) - 1))) then (bif decide (Int.toNat (wrap .i64 ((s.length:Int) - 1))<=s.length) then (bif decide (0<=wrap .i64 ((p:Int)+1)) then (bif decide (0<=wrap .i64 ((s.length:Int) - 1)) then (.to (.h1 (p:Int) ((s.drop (Int.toNat (wrap .i64 ((p:Int)+1)))).take (Int.toNat (wrap .i64 ((s.length:Int) - 1)) - Int.toNat (wrap .i64 ((p:Int)+1)))) 0 0)) else .stuck) else .stuck) else .stuck) else .stuck)) else .stuck))) else .stuck) else .stuck) else .stuck))
  (hq:p<s.length->s[p]? =some 91):
  ∃N a b,Yj (Km s) N E=.ret [.str a,.int .i64 b,.bool (Co (s.take p)&&(decide (p=s.length)||(Cr s (s.length - 1) == 93&&JP ((s.drop (p+1)).take (s.length - 1 - (p+1))))))]:=by
 subst hE;have hpl:(s.take p).length <=1000000:=by rw [Bt];omega
 rw [Yk (Af hp),Yk (Af (show (0:Int)<=(p:Int) by omega)),AR,Yk (show Uu (s.take p)=true from Af hpl)];cases hn:Co (s.take p) with
 | false=>exact ⟨0,[],0,rfl⟩
 | true=>
  rw [Ax,Aa,Al];by_cases g:p=s.length
  .rw [Mo (by omega),Ab,Af g];exact ⟨0,_,_,rfl⟩
  .have wl:wrap .i64 ((s.length:Int) - 1)=((s.length - 1:Nat):Int):=by rw [Zq (by omega)];omega
   have wp:wrap .i64 ((p:Int)+1)=((p+1:Nat):Int):=Zq (by omega);rw [Mn (by omega),Aa,An g,Bj,wl,wp,Zj,Zj,Yk (Zn (by omega))];cases hb:Cr s (s.length - 1) == 93 with
   | false=>rw [show (Cr s (s.length - 1) != 93)=true by unfold bne;rw [hb];rfl,Ab,AY];exact ⟨0,[],0,rfl⟩
   | true=>
    have hne:p+1<=s.length - 1:=by
     rcases A8 (p+1) s.length with h | h
     .omega
     .exfalso;have hp1:p=s.length - 1:=(by omega);have h1:=hq (by omega);rw [hp1,At (by omega)] at h1;have h2:=Ag h1;rw [Mm (show s.length - 1<s.length by omega),h2] at hb;revert hb;decide
    rw [show (Cr s (s.length - 1) != 93)=false by unfold bne;rw [hb];rfl,Aa,Al,Yk (Af hne),Yk (Af (show s.length - 1<=s.length by omega)),Yk (Af (show (0:Int)<=((p+1:Nat):Int) by omega)),Yk (Af (show (0:Int)<=((s.length - 1:Nat):Int) by omega))];obtain ⟨N,a,b,hN⟩:=u8n (s:=s) (d:=(s.drop (p+1)).take (s.length - 1 - (p+1))) hp (by rw [Bt,Bz];omega) ((s.drop (p+1)).take (s.length - 1 - (p+1))).length 0 0 (Ah _) (by omega) (by decide);exact ⟨N,a,b,hN⟩
theorem u8o {s:zw} (hs:s.length<=1000000): ∀(k i:Nat),i+k=s.length->i+CR 91 (s.drop i)=CR 91 s->
  ∃N a b,Yj (Km s) N (.to (.h0 (i:Int)))=.ret [.str a,.int .i64 b,.bool (GZ s)]
 | 0,i,h,hx=>by have hd:s.drop i=[]:=Aw (by omega);rw [hd] at hx;have hx:i=CR 91 s:=hx;obtain ⟨N,a,b,hN⟩:=w5g (s:=s) (p:=i) (by omega) hs rfl (fun hh=>absurd hh (by omega));refine ⟨N+1,a,b,?_⟩;rw [Zx];unfold Km;simp only [Zj];rw [Yc (by omega),Aa];unfold GZ;rw [<-hx];exact hN
 | k+1,i,h,hx=>by
  have hi:i<s.length:=by omega
  have hc:=v3c s[i];have w2:wrap .i64 ((i:Int)+1)=((i+1:Nat):Int):=Zq (by omega);rw [AW hi,CR] at hx;have hbb:((((s[i].toNat :Nat):Int)) != 91)= !(s[i] == 91):=by
   rw [show ((((s[i].toNat :Nat):Int)) != 91)= !((((s[i].toNat :Nat):Int)) == 91) from rfl]
   congr 1
   rw [AV,Bi,Bi];constructor
   .intro h;apply UInt8.toNat_inj.1;show s[i].toNat =91;omega
   .intro h;rw [h];rfl
  cases g:s[i] == 91 with
  | false=>
   rw [g,Aa] at hx;obtain ⟨N,a,b,hN⟩:=u8o hs k (i+1) (by omega) (by omega);refine ⟨N+1,a,b,?_⟩;have e:Km s (.h0 (i:Int))=.to (.h0 ((i+1:Nat):Int)):=by unfold Km;simp only [Zj,Mm hi,w2];rw [Zt (by omega),Ab,Yk (Zn (by omega)),hbb,g];rfl
   rw [Zx,e,hN]
  | true=>rw [g,Ab] at hx;have hx:i=CR 91 s:=hx;obtain ⟨N,a,b,hN⟩:=w5g (s:=s) (p:=i) (by omega) hs rfl (fun _=>by rw [At hi,Bi.1 g]);refine ⟨N+1,a,b,?_⟩;rw [Zx];unfold Km;simp only [Zj];rw [Zt (by omega),Ab,Yk (Zn (by omega)),Mm hi,hbb,g,Ax,Aa];unfold GZ;rw [<-hx];exact hN
def WK (s:zw):Bool:=decide (s.length<=1000000)
def R1 (s:zw):Bool:=Vr s
theorem j3u (s:zw) (h:WK s=true): ∃N a b,Yj (Km s) N (x2u s)=.ret [.str a,.int .i64 b,.bool (R1 s)]:=by unfold R1;rw [<-j3v];exact u8o (Ay h) s.length 0 (Ah _) (Ah _)
def PV :zy->Option (CA×Bool)
 | [.str s]=>some (.tup [.undef,.undef,.bool (R1 s)],WK s)
 | _=>none
theorem j7s {S:CC} (hS:Zu prog S):Zu prog (S.with Tv PV):=Lz hS (by kernel_rfl) fun args v h=>by
 unfold PV at h;split at h
 .rename_i s;simp only [Ae,Ad] at h;obtain ⟨rfl,ho⟩:=h;obtain ⟨N,a,b,hN⟩:=j3u s ho;exact ⟨_,[.str a,.int .i64 b,.bool (R1 s)],.cons (.refl _) .nil,fun ρ u hu=>j2f (cs:=[.str a,.int .i64 b,.bool (R1 s)]) (.cons (.undef _) (.cons (.undef _) (DJ.refl _))) ρ u hu,u1x s N _ hN,3,rfl⟩
 .cases h
def V2 :CC:=(V3.with UX P7).with Tv PV
theorem Qf :Zu prog V2:=j7s (j8i Ww)
inductive IW where
 | h0 (v3:zw) (v4:Bool)
def O0 (x0:zw):IW->CJ
 | .h0 v3 v4=>⟨⟨20,0,true⟩,none,(Zk prog 121 [1,0,0] 0),none,[],⟨Yy [(0,(.yld 0)),(3,(.str v3)),(4,(.bool v4))],Cs [(1,⟨[(ii 0)],24,none⟩)],2,[],true⟩,[⟨⟨24,0,true⟩,none,(.inRangeFunc 0::(Zk prog 45 (pn 43) 1)),none,(Zy prog 45),Yy [(2,(.ptr 1 0))]⟩],(DA [(0,⟨.ready,none,24,Yy [(2,(.ptr 1 0))],[16],(Xt prog 45 [1,1,0,1,0,0]),(Xt prog 45 [1,1,0,1,0,1])⟩)])⟩
def Ln :List (Option zt):=[some [0,3,4],some [2]]
def Lo :List (Option zt):=[some [2],none]
def MV (x0:zw):IW->Xk IW
 | .h0 v3 v4=>(bif v4 then (bif (Ko v3 ([47]:zw)) then (bif (WB (Wy v3 ([47]:zw))) then (bif (!(Vr (Wy v3 ([47]:zw)))) then (.ret [(.int .i64 12)]) else (.to (.h0 (Wi v3 ([47]:zw)) (Kj v3 ([47]:zw))))) else .stuck) else .stuck) else (.ret [(.int .i64 0)]))
def XG (x0:zw):Xk IW:=(bif (decide ((x0.length:Int)>4000)) then (.ret [(.int .i64 4)]) else (bif (y8f x0 ([47]:zw)) then (bif (decide ((Pw x0 ([47]:zw))>39)) then (.ret [(.int .i64 4)]) else (.to (.h0 x0 (!(x0 == ([]:zw)))))) else .stuck))
theorem v0q (x0:zw): ∀s,Xh prog (Zy prog 45) (O0 x0) (O0 x0 s) (MV x0 s)
 | .h0 v3 v4=>let b:=Zy prog 45;(lb (fun k0=>(lo fun aK=>(lo fun bH=>let a:=ww bH (ww aK (tt k0 nn));(lb (fun k1=>(Yh ⟨⟨24,0,true⟩,none,(.code .ret ::(Zk prog 45 (pn 43) 1)),none,b,⟨Yy [(2,(.ptr 0 0))],Wf [⟨[(ii 12)],24,none⟩] 0,1,[],true⟩,[],.leaf⟩ (sl Qf 61 [] ⟨[1],[],[some [2]],[]⟩ b7 (CL 3 []) (tt k1 a)) rfl (by kernel_rfl))) (fun k1=>(sl Qf 60 [] ⟨[0,1],[],Ln,Lo⟩ b7 (bl 3 1) (tt k1 a))))))) (fun k0=>(Yh ⟨⟨24,0,true⟩,none,(Zk prog 3 (pn 191) 1),none,b,⟨Yy [(2,(.ptr 0 0))],Wf [⟨[(ii 0)],24,none⟩] 0,1,[],true⟩,[],.leaf⟩ (sl Qf 14 [] ⟨[1],[],[some [2]],[]⟩ b7 [false] (tt k0 nn)) rfl (by kernel_rfl))))
theorem w1v (x0:zw):Xh prog (Zy prog 45) (O0 x0) (Zb prog 45 [(.str x0)] true []) (XG x0):=let a:=Zk prog 45 (pn 37) 1;let c:=Zy prog 45;(lb (fun k0=>(Yh ⟨⟨24,0,true⟩,none,a,none,c,⟨Yy [(2,(.ptr 0 0))],Wf [⟨[(ii 4)],24,none⟩] 0,1,[],true⟩,[],.leaf⟩ (sl Qf 21 [] ⟨[0],[],[some [2]],[]⟩ b7 (CL 4 []) (tt k0 nn)) rfl (by kernel_rfl))) (fun k0=>(lo fun aK=>let b:=ww aK (tt k0 nn);(lb (fun k1=>(Yh ⟨⟨24,0,true⟩,none,a,none,c,⟨Yy [(2,(.ptr 0 0))],Wf [⟨[(ii 4)],24,none⟩] 0,1,[],true⟩,[],.leaf⟩ (sl Qf 21 [] ⟨[0],[],[some [2]],[]⟩ b7 (bl 4 8) (tt k1 b)) rfl (by kernel_rfl))) (fun k1=>(sl Qf 41 [] ⟨[2,0],[],Ln,Lo⟩ b7 (bl 4 0) (tt k1 b)))))))
theorem u4n (x0:zw) (n:Nat) (vs:zy) (h:Yj (MV x0) n (XG x0)=.ret vs):Ji prog (Zy prog 45) (Zb prog 45 [(.str x0)] true []) vs:=by have:=Zf (v0q x0) n _ (w1v x0);rwa [h] at this
inductive Ht where
 | h0 (v4:Int)
def Nl (x0:zw):Ht->CJ
 | .h0 v4=>⟨⟨33,0,true⟩,none,(Zk prog 50 (pn 303) 0),none,(Zy prog 9),⟨Yy [(3,(.dat (DL x0).length (Zz (DL x0)))),(4,(ii v4))],Wf [] 0,0,[],true⟩,[],.leaf⟩
def LH :List (Option zt):=[some [3,4]]
def LI :List (Option zt):=[]
def M1 (x0:zw):Ht->Xk Ht
 | .h0 v4=>let a:=rd (DL x0) v4.toNat;(bif (decide (v4<(((DL x0).length :Nat):Int))) then (bif ((decide (0<=v4/\v4<(((DL x0).length :Nat):Int)))&&true) then (bif (WK a) then (bif (!(R1 a)) then (.ret [(.int .i64 12)]) else (.to (.h0 (wrap .i64 (v4+1))))) else .stuck) else .stuck) else (.ret [(.int .i64 0)]))
def XU (x0:zw):Xk Ht:=(bif (decide ((x0.length:Int)>4000)) then (.ret [(.int .i64 4)]) else (bif (WE x0) then (bif (decide ((((DL x0).length :Nat):Int)>40)) then (.ret [(.int .i64 4)]) else (.to (.h0 0))) else .stuck))
theorem w9i (x0:zw): ∀s,Xh prog (Zy prog 50) (Nl x0) (Nl x0 s) (M1 x0 s)
 | .h0 v4=>(lb (fun k0=>(lo fun aK=>(lo fun bH=>let a:=ww bH (ww aK (tt k0 nn));(lb (fun k1=>(lr 33 50 (pn 39215) 1 9 [(2,(ii 12))] (sl Qf 37 [] (b8 [2]) b7 (bl 2 3) (tt k1 a)))) (fun k1=>(sl Qf 41 [] ⟨[],[],LH,LI⟩ b7 (bl 2 1) (tt k1 a))))))) (fun k0=>(lr 33 3 (pn 191) 1 9 [(2,(ii 0))] (sl Qf 14 [] (b8 [2]) b7 [false] (tt k0 nn)))))
theorem w0b (x0:zw):Xh prog (Zy prog 50) (Nl x0) (Zb prog 50 [(.str x0)] true []) (XU x0):=(lb (fun k0=>(lr 33 50 (pn 37) 1 9 [(2,(ii 4))] (sl Qf 16 [] (b8 [2]) b7 [true] (tt k0 nn)))) (fun k0=>(lo fun aK=>let a:=ww aK (tt k0 nn);(lb (fun k1=>(lr 33 50 (pn 151) 1 9 [(2,(ii 4))] (sl Qf 31 [] (b8 [2]) b7 (bl 2 2) (tt k1 a)))) (fun k1=>(sl Qf 35 [] ⟨[],[],LH,LI⟩ b7 (bl 2 0) (tt k1 a)))))))
theorem u2i (x0:zw) (n:Nat) (vs:zy) (h:Yj (M1 x0) n (XU x0)=.ret vs):Ji prog (Zy prog 50) (Zb prog 50 [(.str x0)] true []) vs:=by have:=Zf (w9i x0) n _ (w0b x0);rwa [h] at this
theorem j0s (b:UInt8) (s:zw):Wy s [b]=s.take (CR b s)/\Wi s [b]=(bif decide (CR b s<s.length) then s.drop (CR b s+1) else [])/\Kj s [b]=decide (CR b s<s.length):=by
 have hix:Ci s [b]=bif decide (CR b s<s.length) then (CR b s:Int) else -1:=w2e b s;have hle:=v7j b s;unfold Wy Wi Kj;rw [hix];by_cases h:CR b s<s.length
 .rw [Af h,Ab,Af (show (0:Int)<=(CR b s:Int) by omega),Zj];exact ⟨rfl,rfl,rfl⟩
 .rw [An h,Aa];refine ⟨?_,rfl,rfl⟩;rw [show CR b s=s.length by omega,List.take_length];rfl
theorem v9a (b:UInt8): ∀s,Cg b [] s=s.take (CR b s)::(bif decide (CR b s<s.length) then Cg b [] (s.drop (CR b s+1)) else [])
 | []=>rfl
 | c::r=>by
  cases g:c == b with
  | true=>
   have e:CR b (c::r)=0:=by unfold CR;rw [g];rfl
   rw [e,Cg,g,Ab,Ba,Af (Nat.succ_pos _)];rfl
  | false=>
   have e:CR b (c::r)=CR b r+1:=by rw [CR,g];rfl
   rw [e,Cg,g,Aa,y2p,v9a b r,Ba,show decide (CR b r+1<r.length+1)=decide (CR b r<r.length) by rw [AV,Ao,Ao];omega];rfl
theorem u5y (b:UInt8) (s:zw):Cg b [] s=Wy s [b]::(bif Kj s [b] then Cg b [] (Wi s [b]) else []):=by obtain ⟨e0,e1,e2⟩:=j0s b s;rw [v9a,e0,e1,e2];cases decide (CR b s<s.length) <;> rfl
theorem WQ (b:UInt8): ∀s cur,(Cg b cur s).length =Lib.countByte s b+1
 | [],cur=>rfl
 | c::r,cur=>by
  unfold Cg Lib.countByte;rw [List.count_cons];cases g:c == b with
  | true=>rw [Ab,Ba,WQ b r];rfl
  | false=>rw [Aa,WQ b r];rfl
def EF (p:zw):Int:=bif decide (4000<p.length) then 4 else bif decide (40<(DL p).length) then 4 else bif (DL p).all Vr then 0 else 12
def Kn (p:zw):Bool:=decide (p.length<=1000000)
theorem u4o {s:zw} {b:UInt8} (h:Kj s [b]=true):(Wi s [b]).length <s.length:=by obtain ⟨e0,e1,e2⟩:=j0s b s;rw [e2] at h;rw [e1,h,Ab,Bz];have:=Ay h;omega
theorem j0r {x:zw}: ∀(n:Nat) (s:zw),s.length<=n->s.length<=1000000-> ∃N,Yj (MV x) N (.to (.h0 s true))=.ret [.int .i64 (bif (Cg 47 [] s).all Vr then 0 else 12)]
 | n,s,hn,hs=>by
  obtain ⟨k0,k1⟩:=v7e (s:=s) (sep:=[47]);have e:MV x (.h0 s true)=bif !(Vr (Wy s [47])) then .ret [.int .i64 12] else .to (.h0 (Wi s [47]) (Kj s [47])):=by unfold MV;simp only [];rw [Ab,Yk (show Ko s [47]=true by unfold Ko;rw [Af hs];rfl),Yk (show WB (Wy s [47])=true from Af (by omega))]
  rw [u5y,List.all_cons];cases g:Vr (Wy s [47]) with
  | false=>exact ⟨1,by rw [Zx,e,g];rfl⟩
  | true=>
   cases g2:Kj s [47] with
   | false=>have e2: ∀s',MV x (.h0 s' false)=.ret [.int .i64 0]:=fun s'=>rfl;exact ⟨2,by rw [Zx,e,g,g2,Ax,Aa,Zx,e2];rfl⟩
   | true=>
    have hl:=u4o g2
    match n with
    | 0=>omega
    | n+1=>obtain ⟨N,hN⟩:=j0r (x:=x) n (Wi s [47]) (by omega) (by omega);exact ⟨N+1,by rw [Zx,e,g,g2,Ax,Aa,hN,Ab,Al]⟩
theorem j6j (s:zw) (h:Kn s=true): ∃N,Yj (MV s) N (XG s)=.ret [.int .i64 (EF s)]:=by
 have hs:s.length<=1000000:=Ay h;unfold XG EF;by_cases g:4000<s.length
 .rw [Yo (by omega),Af g];exact ⟨0,rfl⟩
 .rw [Xb (by omega),An g,Aa,Aa,Yk (show y8f s [47]=true from rfl)];have hc:Pw s [47]=((Lib.countByte s 47:Nat):Int):=rfl;have hk:=WQ 47 s [];unfold DL;cases s with
  | nil=>refine ⟨1,?_⟩;rfl
  | cons c r=>
   rw [show ((c::r) == ([]:zw))=false from rfl,Aa,AB];by_cases g2:40<(Cg 47 [] (c::r)).length
   .rw [Af g2,Yo (by omega)];exact ⟨0,rfl⟩
   .rw [An g2,Xb (by omega),Aa,Aa];exact j0r (c::r).length (c::r) (Aq _) hs
theorem u8y {x:zw} (hs:x.length<=1000000): ∀(k i:Nat),i+k=(DL x).length -> ∃N,Yj (M1 x) N (.to (.h0 (i:Int)))=.ret [.int .i64 (bif ((DL x).drop i).all Vr then 0 else 12)]
 | 0,i,h=>⟨1,by
  rw [Zx,Aw (by omega)];unfold M1;simp only [];rw [Yc (by omega)];rfl⟩
 | k+1,i,h=>by
  have hi:i<(DL x).length :=by omega
  have hle:(DL x).length <=1000001:=by
   unfold DL;cases x == [] with
   | true=>exact AA _
   | false=>rw [Aa,WQ];have:Lib.countByte x 47<=x.length:=List.count_le_length;omega
  have hp:(rd (DL x) i).length <=1000000:=by
   rw [Xm hi];have hm:=AU hi;revert hm;generalize (DL x)[i]=p;unfold DL;cases x == [] with
   | true=>intro hm;cases hm
   | false=>intro hm;have:=y2o 47 x [] p hm;simp at this;omega
  have w2:wrap .i64 ((i:Int)+1)=((i+1:Nat):Int):=Zq (by omega);obtain ⟨N,hN⟩:=u8y hs k (i+1) (by omega);have e:M1 x (.h0 (i:Int))=bif !(Vr (rd (DL x) i)) then .ret [.int .i64 12] else .to (.h0 ((i+1:Nat):Int)):=by unfold M1;simp only [Zj,w2];rw [Zt (by omega),Ab,Aj,Yk (Zn (by omega)),Yk (show WK (rd (DL x) i)=true from Af hp)];rfl
  rw [Yn hi,List.all_cons];cases g:Vr (rd (DL x) i) with
  | false=>exact ⟨1,by rw [Zx,e,g];rfl⟩
  | true=>exact ⟨N+1,by rw [Zx,e,g,Ax,Aa,hN,Al]⟩
theorem j4g (s:zw) (h:Kn s=true): ∃N,Yj (M1 s) N (XU s)=.ret [.int .i64 (EF s)]:=by
 have hs:s.length<=1000000:=Ay h;unfold XU EF;by_cases g:4000<s.length
 .rw [Yo (by omega),Af g];exact ⟨0,rfl⟩
 .rw [Xb (by omega),An g,Aa,Aa,Yk (show WE s=true from h)];by_cases g2:40<(DL s).length
  .rw [Af g2,Yo (by omega)];exact ⟨0,rfl⟩
  .rw [An g2,Xb (by omega),Aa,Aa];exact u8y hs (DL s).length 0 (Ah _)
def Fc :zy->Option (CA×Bool)
 | [.str s]=>some (.int .i64 (EF s),Kn s)
 | _=>none
theorem j8j {S:CC} (hS:Zu prog S):Zu prog (S.with U1 Fc):=C3 hS (by kernel_rfl) fun args v h=>by
 unfold Fc at h;split at h
 .rename_i s;simp only [Ae,Ad] at h;obtain ⟨rfl,ho⟩:=h;obtain ⟨N,hN⟩:=j6j s ho;exact ⟨_,_,.cons (.refl _) .nil,rfl,u4n s N _ hN,3,rfl⟩
 .cases h
theorem j7w {S:CC} (hS:Zu prog S):Zu prog (S.with UB Fc):=C3 hS (by kernel_rfl) fun args v h=>by
 unfold Fc at h;split at h
 .rename_i s;simp only [Ae,Ad] at h;obtain ⟨rfl,ho⟩:=h;obtain ⟨N,hN⟩:=j4g s ho;exact ⟨_,_,.cons (.refl _) .nil,rfl,u2i s N _ hN,3,rfl⟩
 .cases h
def V1 :CC:=(V2.with U1 Fc).with UB Fc
theorem Uf :Zu prog V1:=j7w (j8j Qf)
structure CD where
 n:zw
 (a t x y z:Int)
 s:zx
abbrev zr:=List CD
instance : Xp CD where
 w:=7
 d:=⟨[],0,0,0,0,0,[]⟩
 cells x:=[.str x.n,.int .i64 x.a,.int .u8 x.t,.int .i64 x.x,.int .i64 x.y,.int .i64 x.z,.dat x.s.length (Zz x.s)]
 of l:=⟨sOf (l.getD 0 .undef),DG (l.getD 1 .undef),DG (l.getD 2 .undef),DG (l.getD 3 .undef),DG (l.getD 4 .undef),DG (l.getD 5 .undef),match l.getD 6 .undef with
  | .dat n g=>Cl R6 n g
  | _=>[]⟩
 len _:=rfl
 pos:=by decide
 flat _:=rfl
 sc _:=rfl
 back x:=by show CD.mk x.n x.a x.t x.x x.y x.z (Cl R6 x.s.length (Zz x.s))=x;rw [Zp]
abbrev z2a (v0:List zw) (v2:Int) (v3:Int):=((v0.set (0+(tn v2)) (rd v0 (0+(tn v3)))).set (0+(tn v3)) (rd v0 (0+(tn v2))))
inductive G4 where
 | h0 (aN:List zw) (aB:Int)
 | h1 (v0:List zw) (v2:Int) (v3:Int)
def Nu (l0:zr) (x1:Int):G4->CJ
 | .h0 aN aB=>⟨⟨19,0,true⟩,none,(Zk prog 110 [0,0] 0),none,[],⟨Yy [(0,(.yld 0)),(1,(.ptr 2 0)),(2,(.ptr 3 0))],Cs [(1,⟨[(.sla 4 1 0 aN.length (.un 1))],70,none⟩),(2,⟨[(ii aB)],3,none⟩),(3,⟨[(dt l0)],22,none⟩),(4,(rz aN 9 1))],5,[],true⟩,[⟨⟨20,0,true⟩,none,(.inRangeFunc 0::(Zk prog 36 (pn 43) 1)),none,(Zy prog 3),Yy [(4,(.str [])),(5,(.ptr 1 0))]⟩],(DA [(0,⟨.ready,none,20,Yy [(5,(.ptr 1 0))],[10],(Xt prog 36 [1,1,0,1,0,0]),(Xt prog 36 [1,1,0,1,0,1])⟩)])⟩
 | .h1 v0 v2 v3=>⟨⟨28,0,true⟩,none,(Zk prog 72 [1,0,0] 0),none,[],⟨Yy [(0,(.sla 0 1 0 v0.length (.un 1))),(2,(ii v2)),(3,(ii v3))],Wf [(rz v0 9 1),⟨[(.sla 0 1 0 v0.length (.un 1))],70,none⟩] 0,2,[],true⟩,[⟨⟨20,0,true⟩,(Wz prog 36 (pn 23) 1),(Zk prog 36 (pn 23) 1),none,(Zy prog 3),Yy [(5,(.ptr 1 0)),(16,(.sla 0 1 0 v0.length (.un 1)))]⟩],.leaf⟩
def L5 :List (Option zt):=[some [0,1,2],some [4,5]]
def L7 :List (Option zt):=[some [5],none,none,none,none]
def L4 :List (Option zt):=[some [0,2,3],some [5,16]]
def L6 :List (Option zt):=[]
def Fj (l0:zr) (x1:Int):G4->Xk G4
 | .h0 aN aB=>let b:=rd l0 aB.toNat;(bif (decide (aB>=0)) then (bif (Nat.beq 1 1&&((decide (0+aN.length=aN.length))&&decide ((aN.length+1+1)*(16+1)<=Vg))) then (bif ((decide (0<=aB/\aB<(l0.length:Int)))&&true) then (.to (.h0 (aN++[b.n]) b.a)) else .stuck) else .stuck) else (.to (.h1 aN 0 (wrap .i64 ((aN.length:Int) - 1)))))
 | .h1 v0 v2 v3=>(bif (decide (v2<v3)) then (bif ((decide (0<=v2/\v2<(v0.length:Int)))&&true) then (bif (decide ((0+v2.toNat)<v0.length)) then (bif ((decide (0<=v3/\v3<(v0.length:Int)))&&true) then (bif (decide ((0+v3.toNat)<v0.length)) then (.to (.h1 ((v0.set (0+v2.toNat) (rd v0 (0+v3.toNat))).set (0+v3.toNat) (rd v0 (0+v2.toNat))) (wrap .i64 (v2+1)) (wrap .i64 (v3 - 1)))) else .stuck) else .stuck) else .stuck) else .stuck) else (bif (Nat.beq 1 1&&(decide (0+v0.length<=v0.length)&&DR (Zz v0))) then (bif (Me (Cl zw (v0.length) (fun k=>(Zz v0) (0+k))) ([47]:zw)) then (.ret [(.str (Lt (Cl zw (v0.length) (fun k=>(Zz v0) (0+k))) ([47]:zw)))]) else .stuck) else .stuck))
def XN (l0:zr) (x1:Int):Xk G4:=(.to (.h0 ([]:List zw) x1))
theorem w9v (l0:zr) (x1:Int): ∀s,Xh prog (Zy prog 36) (Nu l0 x1) (Nu l0 x1 s) (Fj l0 x1 s)
 | .h0 aN aB=>(lb (fun k0=>(lo fun o0=>(lo fun o1=>let c:=rd l0 (tn aB);let e:=aN++[c.n];let f:=aN.length+1;let a:=xL f e.length;let b:=e;let d:=Zr (Zz aN) 0 aN.length 1 [(.str c.n)];(sl Uf 43 [] ⟨[0,1,2,3,7],[],L5,L7⟩ ⟨[],[.keep,.cells [.len b.length],.keep,.keep,.rowed 1 b.length (Zz b)],[]⟩ (CL 7 []) (pp a (pp a (pp (xS f d (Zz e)) (pp (pp (xF d) nn) (ww o1 (ww o0 (ww o1 (tt k0 nn)))))))))))) (fun k0=>(sl Uf 33 [] ⟨[4,1],[],L4,L6⟩ b7 (bl 7 0) (pp (fl aN nn) (tt k0 nn)))))
 | .h1 v0 v2 v3=>(lb (fun k0=>(lo fun o0=>(lo fun o1=>(lo fun o2=>(lo fun o3=>let d:=z2a v0 v2 v3;let a:=xL v0.length d.length;let b:=d;let c:=Xg (Xg (Zz v0) (0+(tn v2)) 0 [(.str (rd v0 (0+(tn v3))))]) (0+(tn v3)) 0 [(.str (rd v0 (0+(tn v2))))];(sl Uf 22 [] ⟨[0,1],[],L4,L6⟩ ⟨[(0,.len b.length)],[.rowed 1 b.length (Zz b),.cells [.len b.length]],[[(16,.len b.length)]]⟩ [true] (pp a (pp a (pp (xS v0.length c (Zz d)) (pp a (pp a (pp (pp (xF c) nn) (ww o3 (ww o2 (ww o1 (ww o0 (ww o1 (ww o0 (ww o3 (ww o2 (tt k0 nn))))))))))))))))))))) (fun k0=>(lo fun o0=>(lo fun o1=>(lr 20 3 (pn 191) 1 3 [(4,(.str (Lt (Cl zw (v0.length) (fun k=>(Zz v0) (0+k))) ([47]:zw))))] (sl Uf 17 [] (b8 [4]) b7 [false] (pp (pp (pp (xw o0) (pp nn nn)) (pp (xI zw (v0.length) (fun k=>(Zz v0) (0+k))) (xw o1))) (tt k0 nn))))))))
theorem w0w (l0:zr) (x1:Int):Xh prog (Zy prog 36) (Nu l0 x1) (Zb prog 36 [(dt l0),(.int .i64 x1)] true []) (XN l0 x1):=(sl Uf 31 [(9,1,Zz ([]:List zw))] ⟨[3,0,2,1,4],[],L5,L7⟩ ⟨[],[.keep,.cells [.grow 4 1],.keep,.keep,.keep],[]⟩ [] (pp (fl ([]:List zw) nn) nn))
theorem u3n (l0:zr) (x1:Int) (n:Nat) (vs:zy) (h:Yj (Fj l0 x1) n (XN l0 x1)=.ret vs):Ji prog (Zy prog 36) (Zb prog 36 [(dt l0),(.int .i64 x1)] true []) vs:=by have:=Zf (w9v l0 x1) n _ (w0w l0 x1);rwa [h] at this
inductive Hr where
 | h0 (v5:zw) (v6:Int)
def Nh (l0:zr) (x1:Int):Hr->CJ
 | .h0 v5 v6=>⟨⟨33,0,true⟩,none,(Zk prog 39 (pn 75) 0),none,(Zy prog 3),⟨Yy [(0,(dt l0)),(5,(.str v5)),(6,(ii v6))],Wf [] 0,0,[],true⟩,[],.leaf⟩
def LE :List (Option zt):=[some [0,5,6]]
def LF :List (Option zt):=[]
def M3 (l0:zr) (x1:Int):Hr->Xk Hr
 | .h0 v5 v6=>let b:=rd l0 v6.toNat;(bif (decide (v6>=0)) then (bif (sOk b.n ([47]:zw)) then (bif (sOk (b.n ++([47]:zw)) v5) then (bif ((decide (0<=v6/\v6<(l0.length:Int)))&&true) then (.to (.h0 ((b.n ++([47]:zw))++v5) b.a)) else .stuck) else .stuck) else .stuck) else (.ret [(.str v5)]))
def XW (l0:zr) (x1:Int):Xk Hr:=(bif ((decide (0<=x1/\x1<(l0.length:Int)))&&true) then (.to (.h0 (rd l0 x1.toNat).n (rd l0 x1.toNat).a)) else .stuck)
theorem w9e (l0:zr) (x1:Int): ∀s,Xh prog (Zy prog 39) (Nh l0 x1) (Nh l0 x1 s) (M3 l0 x1 s)
 | .h0 v5 v6=>(lb (fun k0=>(lo fun o0=>(lo fun o1=>(lo fun o2=>(sl Uf 31 [] ⟨[],[],LE,LF⟩ b7 [true] (ww o2 (ww o1 (ww o0 (ww o2 (tt k0 nn)))))))))) (fun k0=>(lr 33 3 (pn 191) 1 3 [(4,(.str v5))] (sl Uf 13 [] (b8 [4]) b7 [false] (tt k0 nn)))))
theorem x9x (l0:zr) (x1:Int):Xh prog (Zy prog 39) (Nh l0 x1) (Zb prog 39 [(dt l0),(.int .i64 x1)] true []) (XW l0 x1):=(lo fun o0=>(sl Uf 25 [] ⟨[],[],LE,LF⟩ b7 [] (ww o0 (ww o0 nn))))
theorem u2d (l0:zr) (x1:Int) (n:Nat) (vs:zy) (h:Yj (M3 l0 x1) n (XW l0 x1)=.ret vs):Ji prog (Zy prog 39) (Zb prog 39 [(dt l0),(.int .i64 x1)] true []) vs:=by have:=Zf (w9e l0 x1) n _ (x9x l0 x1);rwa [h] at this
inductive G8 where
 | h0 (v3:Int)
def Oq (l0:zr):G8->CJ
 | .h0 v3=>⟨⟨43,0,true⟩,none,(Zk prog 9 (pn 37) 0),none,(Zy prog 9),⟨Yy [(0,(dt l0)),(3,(ii v3))],Wf [] 0,0,[],true⟩,[],.leaf⟩
def Lv :List (Option zt):=[some [0,3]]
def Lw :List (Option zt):=[]
def MT (l0:zr):G8->Xk G8
 | .h0 v3=>let a:=rd l0 v3.toNat;(bif (decide (v3<(l0.length:Int))) then (bif (decide (v3<300)) then (bif ((decide (0<=v3/\v3<(l0.length:Int)))&&true) then (bif (decide (((a.s.length :Nat):Int)>12)) then (.ret [(.bool true)]) else (bif (decide (((a.n.length :Nat):Int)>500)) then (.ret [(.bool true)]) else (.to (.h0 (wrap .i64 (v3+1)))))) else .stuck) else (bif (decide ((l0.length:Int)>12)) then (bif (decide ((l0.length:Int)<=200)) then (.ret [(.bool true)]) else (.ret [(.bool (decide ((l0.length:Int)>220)))])) else (.ret [(.bool (decide ((l0.length:Int)>220)))]))) else (bif (decide ((l0.length:Int)>12)) then (bif (decide ((l0.length:Int)<=200)) then (.ret [(.bool true)]) else (.ret [(.bool (decide ((l0.length:Int)>220)))])) else (.ret [(.bool (decide ((l0.length:Int)>220)))])))
def x3y (l0:zr):Xk G8:=(.to (.h0 0))
theorem v0y (l0:zr): ∀s,Xh prog (Zy prog 9) (Oq l0) (Oq l0 s) (MT l0 s)
 | .h0 v3=>let a:=decide ((l0.length:Int)>220);(lb (fun k0=>(lb (fun k1=>(lo fun bS=>let b:=ww bS (tt k1 (tt k0 nn));(lb (fun k2=>(lr 43 9 (pn 2341) 1 9 [(2,(.bool true))] (sl Uf 40 [] (b8 [2]) b7 (CL 11 []) (tt k2 b)))) (fun k2=>let e:=ww bS (tt k2 b);(lb (fun k3=>(lr 43 9 (pn 2341) 1 9 [(2,(.bool true))] (sl Uf 40 [] (b8 [2]) b7 (CL 3 (bl 8 128)) (tt k3 e)))) (fun k3=>(sl Uf 44 [] ⟨[],[],Lv,Lw⟩ b7 (CL 3 (bl 8 0)) (tt k3 e)))))))) (fun k1=>let c:=tt k1 (tt k0 nn);(lb (fun k2=>(lb (fun k3=>(lr 43 3 (pn 191) 1 9 [(2,(.bool true))] (sl Uf 31 [] (b8 [2]) b7 (bl 9 507) (tt k3 (tt k2 c))))) (fun k3=>(lr 43 3 (pn 191) 1 9 [(2,(.bool a))] (sl Uf 31 [] (b8 [2]) b7 (bl 9 59) (tt k3 (tt k2 c))))))) (fun k2=>(lr 43 3 (pn 191) 1 9 [(2,(.bool a))] (sl Uf 31 [] (b8 [2]) b7 (bl 9 3) (tt k2 c)))))))) (fun k0=>(lb (fun k1=>let d:=tt k1 (tt k0 nn);(lb (fun k2=>(lr 43 3 (pn 191) 1 9 [(2,(.bool true))] (sl Uf 31 [] (b8 [2]) b7 (bl 9 504) (tt k2 d)))) (fun k2=>(lr 43 3 (pn 191) 1 9 [(2,(.bool a))] (sl Uf 31 [] (b8 [2]) b7 (bl 9 56) (tt k2 d)))))) (fun k1=>(lr 43 3 (pn 191) 1 9 [(2,(.bool a))] (sl Uf 31 [] (b8 [2]) b7 (bl 9 0) (tt k1 (tt k0 nn))))))))
theorem w2k (l0:zr):Xh prog (Zy prog 9) (Oq l0) (Zb prog 9 [(dt l0)] true []) (x3y l0):=(sl Uf 11 [] ⟨[],[],Lv,Lw⟩ b7 [] nn)
theorem u4z (l0:zr) (n:Nat) (vs:zy) (h:Yj (MT l0) n (x3y l0)=.ret vs):Ji prog (Zy prog 9) (Zb prog 9 [(dt l0)] true []) vs:=by have:=Zf (v0y l0) n _ (w2k l0);rwa [h] at this
end Go.Am
end
