/- A part of a proof: several texts in one. -/
import Derived.Test.YtmfdjaegajdggaaDoorMa2
import Derived.Lib.ItoaLen
import Derived.Lib.AtoiAll
import Derived.Lib.SplitLaws
set_option maxRecDepth 1000000
set_option maxHeartbeats 8000000
set_option linter.unusedVariables false
set_option linter.unusedSimpArgs false
noncomputable section
namespace Go.Am
open IntKind (wrap)
open Go.Proofs.Tryd
open Go.Proofs
instance {α :Type} [Wk α]:Wk (List α) where
 w:=1
 d:=[]
 cells l:=[.dat l.length (Zz l)]
 of cs:=match cs.getD 0 .undef with
  | .dat n g=>lst α n g
  | _=>[]
 len _:=rfl
 pos:=Aj 1
 flat _:=rfl
 sc _:=rfl
 back l:=y4z l
theorem y1t {α:Type} [Wk α] {L:List α} {n off sz:Nat} {cells:List AVal} (hn:n=L.length) (hsz:sz=Wk.w α) (hc:(cells.drop off).take (n*sz)=(L.map Wk.cells).flatten):Wp n (x4u cells off sz) (Zz L)=true:=pd_true fun i hi=>by
 have e:((((cells.drop off).take (n*sz)).drop (i*sz)).take sz)=(cells.drop (off+i*sz)).take sz:=by rw [List.drop_take,List.take_take,List.drop_drop,Nat.min_eq_left];have:=At sz (show i+1≤n by omega);rw [AB,Bs] at this;omega
 have h:=z2e (sz:=sz) (L.map Wk.cells) i (fun x hx=>by obtain ⟨y,_,rfl⟩:=List.mem_map.1 hx;rw [Wk.len,hsz]) (by simpa using by omega);unfold x4u;rw [←e,hc,h];simp only [Zz];rw [Uj (show i<L.length by omega),A1,List.getElem?_map,An (show i<L.length by omega)];rfl
theorem x2n {G H:Nat→List AVal} (h:G 0=H 0):Wp 1 G H=true:=pd_true fun i hi=>by
 obtain rfl:i=0:=by omega
 exact h
theorem y7w {L:List AVal} (s t:Nat) (h:L.all (pf 6)=true):Um (fun k=>(L.drop (k*s)).take t)=true:=pd_true fun i=>
 Aw.2 fun v hv=>Aw.1 h v (List.mem_of_mem_drop (List.mem_of_mem_take hv))
structure OB where
 b:Bool
 h:b=true
def nn :OB:=⟨true,rfl⟩
def pp (q r:OB):OB:=⟨q.b&&r.b,z7g q.h r.h⟩
def tt {c v:Bool} (k:c=v) (r:OB):OB:=⟨(c == v)&&r.b,z7g (x0d k) r.h⟩
def ww {c:Bool} (k:c=true) (r:OB):OB:=⟨c&&r.b,z7g k r.h⟩
def fl {α:Type} [Wk α] (L:List α) (r:OB):OB:=⟨Um (Zz L)&&r.b,z7g (Uv L) r.h⟩
def xw {c:Bool} (k:c=true):OB:=⟨c,k⟩
def xI (α:Type) [Wk α] (n:Nat) (g:Nat→List AVal) (h:isT α n g=true:=by first | with_reducible exact z3q _ _ | exact z3q _ _ | exact y5f _ | exact y0l _ _ _ | assumption | exact x4i _ rfl | exact x4h _ rfl rfl):OB:=⟨isT α n g,h⟩
def xr {α:Type} [Wk α] (L:List α):OB:=⟨isT α L.length (Zz L),z3q L _⟩
def xL (a b:Nat) (h:y2z a b=true:=by first | exact Zo rfl | exact Zo (by simp only [Ao,Al,Az,List.length_set,z0f,Zg,List.length_replicate] <;> omega) | assumption):OB:=⟨y2z a b,h⟩
def xS (n:Nat) (G H:Nat→List AVal) (h:Wp n G H=true:=by
  repeat' (first | exact Xx _ _ | assumption | exact y9h _ _ | exact x2n rfl | exact Ww | exact y1t rfl rfl rfl | rfl | (refine Vd ?_ ?_ rfl rfl rfl) | (refine y4o ?_ ?_ rfl) | exact y9i _ _ _ | (refine x2o ?_ ?_ ?_ (Nat.min_le_left _ _)) | exact y6n (by repeat' (first | exact Xx _ _ | (refine Vd ?_ ?_ rfl rfl rfl) | (refine y4o ?_ ?_ rfl) | (simp only [Ao,Al,Az,List.length_set,z0f];done) | omega)) (by assumption) | (refine Vz ?_ ?_ ?_ rfl) | exact Vy (Xx _ _) rfl | apply Xh | exact x2m rfl rfl | exact AA _ | (simp only [Ao,Al,Az,List.length_set,z0f,Zg,List.length_replicate] <;> omega))):OB:=⟨Wp n G H,h⟩
def xF (G:Nat→List AVal) (h:Um G=true:=by
  repeat' (first | with_reducible exact Uv _ | apply x1g | apply x1d | apply x1f | apply x1e | exact Uv _ | exact y7x | exact y3j _ _ | exact y7w _ _ rfl | apply z5c | rfl | assumption)):OB:=⟨Um G,h⟩
def xZ (v:AVal) (n:Nat) (g:Nat→List AVal) (h:x1a v n g=true:=by first | exact x4k _ _ _ | exact x0z _ _):OB:=⟨x1a v n g,h⟩
def xG (c:Bool) (h:c=true:=by
  repeat' (first | with_reducible (first | assumption | exact Nat.beq_refl _ | exact y0c _ | exact x3t _ | exact x0k _ | exact x4o _ | exact x0m _ | apply z7g | apply x0d) | rfl | exact x4j _ | exact y8b _ _ rfl | exact y8c _ _ _ rfl | exact x0p _ _ rfl | exact y7p rfl | exact x2x rfl rfl (fun _=>rfl) | (refine y3r ?_ (by assumption)) | (refine x1n ?_ rfl rfl rfl) | exact z3q _ _ | exact y5f _ | exact y0l _ _ _ | exact Uv _ | apply z5c | apply z7g | apply x0d)):OB:=⟨c,h⟩
abbrev tn (n:Int):Nat:=Int.toNat n
abbrev ii (n:Int):AVal:=.int .i64 n
abbrev wr (n:Int):Int:=wrap .i64 n
def trs (n:Nat) (l:List Bool):List Bool:=Nat.rec l (fun _ r=>true::r) n
theorem sl {S:Specs} (hS:Zk prog S) (n:Nat) (gs:List (TypeId×Nat×(Nat→List AVal))) (N:z1m) (L:Less) (orc:List Bool) (ob:OB) {C C':Cfg}
  (h:(((x4f prog S (x6m prog S 100000 4) n (C.withO orc)).map (y5h gs)).bind (x3q prog N)).map (y7o L)=some (C'.withB ob.b):=by kernel_rfl) (hfl:fl0 C=true:=by rfl):z3x prog C C':=
 x2j named mixed hS gs N L orc ob.b h ob.h hfl
def rC (n f:Nat) (p:List Nat) (j r:Nat) (env:List (Nat×AVal)):Cfg:=⟨⟨n,0,true⟩,none,Yh prog f p j,none,Zx prog r,⟨Vq env,Qg [] 0,0,[],true⟩,[],.leaf⟩
theorem lr {σ:Type} {cfg:σ→Cfg} {C:Cfg} {rs:List ResultVar} {vs:List AVal} (n f:Nat) (p:List Nat) (j r:Nat) (env:List (Nat×AVal)) (h:z3x prog C (rC n f p j r env)) (hf:Qd (rC n f p j r env)=true:=by rfl)
  (hr:Vu prog (rC n f p j r env).st rs=some vs:=by kernel_rfl):Vr prog rs cfg C (.ret vs):=x4c _ h hf hr
theorem lb {rs:List ResultVar} {σ:Type} {cfg:σ→Cfg} {C:Cfg} {c:Bool} {a b:Vj σ} (ha:c=true→Vr prog rs cfg C a) (hb:c=false→Vr prog rs cfg C b):Vr prog rs cfg C (bif c then a else b):=y5e ha hb
theorem lo {rs:List ResultVar} {σ:Type} {cfg:σ→Cfg} {C:Cfg} {c:Bool} {a:Vj σ} (ha:c=true→Vr prog rs cfg C a):Vr prog rs cfg C (bif c then a else .stuck):=x4d ha
def By :Type:=UInt8
def yI (b:By):Int:=((b:UInt8).toNat :Int)
def yB (n:Int):By:=UInt8.ofNat n.toNat
def byL (s:List UInt8):List By:=s
abbrev byS (s:List By):List UInt8:=s
theorem yB_yI (b:By):yB (yI b)=b:=by show UInt8.ofNat (((b:UInt8).toNat :Int)).toNat =b;rw [Int.toNat_natCast];exact UInt8.ofNat_toNat
instance : Wk By where
 w:=1
 d:=(0:UInt8)
 cells b:=[.int .u8 (yI b)]
 of l:=yB (iOf (l.getD 0 .undef))
 len _:=rfl
 pos:=Aj 1
 flat _:=rfl
 sc _:=rfl
 back b:=yB_yI b
def sOf :AVal→List UInt8
 | .str s=>s
 | _=>[]
instance (priority :=high) instStr:Wk (List UInt8) where
 w:=1
 d:=[]
 cells s:=[.str s]
 of l:=sOf (l.getD 0 .undef)
 len _:=rfl
 pos:=Aj 1
 flat _:=rfl
 sc _:=rfl
 back _:=rfl
theorem x2h (b:By):0≤yI b∧yI b<256:=by have:=UInt8.toNat_lt (b:UInt8);unfold yI;omega
theorem Uc (s:List UInt8):Wp s.length (Wq s) (Zz (byL s))=true:=pd_true fun i hi=>by have h:rd (byL s) i=s[i]'hi:=Uj (L:=byL s) hi;show [AVal.int .u8 (bAt s i)]=[AVal.int .u8 (yI (rd (byL s) i))];rw [h];simp [bAt,yI,List.getD,An hi]
theorem y6d (l:List By) (n:Nat) (hn:n=l.length):z2w n (Zz l)=byS l:=by
 subst hn;unfold z2w;refine List.ext_getElem (by rw [List.length_map,List.length_range];rfl) fun i h1 h2=> ?_;rw [List.getElem_map,List.getElem_range];have hi:i<l.length:=by rw [List.length_map,List.length_range] at h1;exact h1
 show z5q (([AVal.int .u8 (yI (rd l i))]).getD 0 .undef)=_;rw [Uj hi];show z5q (AVal.int .u8 (yI l[i]))=_;exact yB_yI _
theorem y0m (b:By):z4z (.int .u8 (yI b))=true:=by have h:=x2h b;unfold z4z;exact Ah h
theorem y0s (l:List By) (n:Nat):z5p n (Zz l)=true:=pd_true fun k _=>⟨_,rfl,y0m _⟩
theorem z8w (l:List By) (n:Nat):z5p n (fun k=>Zz l (0+k))=true:=pd_true fun k _=>⟨_,rfl,y0m _⟩
def xY (n:Nat) (g:Nat→List AVal) (h:z5p n g=true:=by first | exact z8w _ _ | exact y0s _ _ | assumption):OB:=⟨z5p n g,h⟩
theorem y1q (l:List By) (n:Nat) (hn:n=l.length):z2w n (fun k=>Zz l (0+k))=byS l:=by
 have:(fun k=>Zz l (0+k))=Zz l:=funext fun k=>by rw [AA]
 rw [this,y6d l n hn]
theorem Zn (s:List UInt8):(byL s).length =s.length:=rfl
theorem Wr {α:Type} [Wk α] {L:List α} {n:Nat}:Wp n (Zz L) (Zz (Yg L 0 n))=true:=pd_true fun i hi=>by show Wk.cells (rd L i)=Wk.cells (rd (Yg L 0 n) i);rw [z8f hi,AA]
abbrev cpyN :Nat:=44
abbrev splN :Nat:=17
abbrev itoN :Nat:=27
abbrev atoN :Nat:=33
abbrev decN :Nat:=13
abbrev numN :Nat:=55
abbrev mckN :Nat:=9
abbrev rckN :Nat:=12
abbrev sqdN :Nat:=8
abbrev mtxN :Nat:=4
abbrev rmtN :Nat:=5
abbrev pmsN :Nat:=6
abbrev rpmN :Nat:=7
abbrev rcuN :Nat:=20
abbrev rreN :Nat:=21
abbrev rnuN :Nat:=34
abbrev x5t :Nat:=23
abbrev x5u :Nat:=48
abbrev nIn16 :Nat:=46
abbrev x5f :Nat:=30
open Go.Lib Go.Sort
theorem z3f {P:Program} {S:Specs} (hS:Zk P S) {f:FuncId} {F:List AVal→Option (AVal×Bool)} (hf:(P.funcs[f]?).any (fun fn=>fn.body.isSome)=true) (hF:y8r P f F):Zk P (S.with f F):=by
 intro g G hg;unfold Specs.with at hg;cases hgf:Nat.beq g f with
 | false=>rw [hgf] at hg;exact hS g G hg
 | true=>
  rw [hgf] at hg;obtain rfl:Spec.val F=G:=Ac hg;obtain rfl:g=f:=Af hgf;refine ⟨?_,hF⟩;cases hfn:P.funcs[g]? with
  | none=>rw [hfn] at hf;cases hf
  | some fn=>rw [hfn] at hf;exact ⟨fn,rfl,hf⟩
theorem x2i {P:Program} {S:Specs} (hS:Zk P S) {f:FuncId} {F:List AVal→Mem→Option (AVal×Nat×ABlk×Bool)} (hf:(P.funcs[f]?).any (fun fn=>fn.body.isSome)=true) (hF:x8z P f F):Zk P (fun g=>bif Nat.beq g f then some (.eff F) else S g):=by
 intro g G hg;cases hgf:Nat.beq g f with
 | false=>simp only [hgf,Ai] at hg;exact hS g G hg
 | true=>
  simp only [hgf,Ap] at hg;obtain rfl:Spec.eff F=G:=Ac hg;obtain rfl:g=f:=Af hgf;refine ⟨?_,hF⟩;cases hfn:P.funcs[g]? with
  | none=>rw [hfn] at hf;cases hf
  | some fn=>rw [hfn] at hf;exact ⟨fn,rfl,hf⟩
def fCpy (args:List AVal) (mem:Mem):Option (AVal×Nat×ABlk×Bool):=match args with
 | [.ptr b 0]=>match Ze mem b with
  | some ⟨.obj .bld ::r,ty,none⟩=>some (.tup [],b,⟨.obj .bld ::r,ty,none⟩,Nat.beq ty bldT)
  | _=>none
 | _=>none
theorem z6h {w:World} {k:Nat} {c:Array Value} {el:TypeId} {fz:Nat×Nat} (h:w.heap[k]? =some (.cells c el fz)) (v:Value):w.setCell ⟨k,0,none⟩ v=w.putObj k (.cells (c.setIfInBounds 0 v) el fz):=by
 unfold World.setCell World.putObj
 congr 1
 apply Array.ext_getElem?;intro i;rw [Array.getElem?_modify,Array.getElem?_setIfInBounds];split
 ·rename_i e;subst e;have hlt:=(Ar.1 h).1;show Option.map _ w.heap[k]? =_;rw [h,Av hlt];rfl
 ·rfl
theorem x8l :x8z prog cpyN fCpy:=by
 intro args mem v b blk h hsome ρ next floor vals w hfl cG cD
 unfold fCpy at h;split at h
 ·rename_i b0;split at h
  ·rename_i r ty hm;simp only [Ab,Aa] at h;obtain ⟨rfl,rfl,rfl,hty⟩:=h;obtain rfl:ty=bldT:=Af hty;obtain ⟨l,hl,hvals⟩: ∃l,ρ b0=some l∧vals= #[.pointer (some ⟨l.blk,l.base+0,none⟩)]:=by
    obtain ⟨vl⟩:=vals;cases cG with
    | cons h1 h2=>
     cases h2;cases h1 with
     | ptr _ _ l e=>exact ⟨l,e,rfl⟩
   have hk:=cD.blk b0 l _ hl hm;cases hk with
   | plain k=>exact absurd k.noObj (by simp [ABlk.isObj])
   | obj o r' ty' e1 e2 e3=>
    simp only [ABlk.mk.injEq,Be,AVal.obj.injEq,and_true] at e1;obtain ⟨⟨rfl,rfl⟩,rfl⟩:=e1;obtain ⟨buf,v,p,rfl,hb,hv,hp⟩:=e3;have dJ:l.base=0:=(by rw [e2]);rw [dJ] at hvals;subst hvals;have hev: ∀p',(p'=none∨p'=some (⟨l.blk,0,none⟩:Addr))→z1k ρ bldT l.blk [buf] .bld (some (.cells #[.pointer p',v] bldT (0,0))):=fun p' h=>⟨buf,v,p',rfl,rfl,hv,h⟩
    rcases hp with rfl | rfl
    ·refine (Any.Builder_copyCheck_fresh Tryd.lays240 Tryd.Builder_X72_240 l.blk w (by simp [World.cell?,hb]) (by simp [World.shape?,hb];rfl) (by simp [World.frozen?,hb])).mono fun e w' ⟨he,hw⟩=>⟨_,he,.tup [] #[] rfl (fun i h=>absurd h (Ay _)),?_⟩
     rw [z6h hb] at hw;subst hw;exact ⟨cD.setObj hl hm rfl rfl _ (hev _ (.inr rfl)),Ev.ofObj cD hl hfl _ _⟩
    ·refine (Any.Builder_copyCheck_used Tryd.lays240 Tryd.Builder_X72_240 l.blk w (by simp [World.cell?,hb])).mono fun e w' ⟨he,hw⟩=>⟨_,he,.tup [] #[] rfl (fun i h=>absurd h (Ay _)),?_⟩
     subst hw;have dI:w'.putObj l.blk (.cells #[.pointer (some ⟨l.blk,0,none⟩),v] bldT (0,0))=w':=by
      have hlt:=(Ar.1 hb).1;have:w'.heap.setIfInBounds l.blk (.cells #[.pointer (some ⟨l.blk,0,none⟩),v] bldT (0,0))=w'.heap:=by
       apply Array.ext_getElem?;intro i;rw [Array.getElem?_setIfInBounds];split
       ·rename_i e;subst e;rw [hb]
       ·rfl
      unfold World.putObj;rw [this]
     have A:=cD.setObj hl hm rfl rfl _ (hev _ (.inr rfl));have B:=Ev.ofObj cD hl hfl (some ⟨[.obj .bld,buf],bldT,none⟩) (.cells #[.pointer (some ⟨l.blk,0,none⟩),v] bldT (0,0));rw [dI] at A B;exact ⟨A,B⟩
  ·cases h
 ·cases h
theorem z9m {P:Program} {f:FuncId} {F:List AVal→Option (AVal×Bool)}
  (h: ∀args v,F args=some (v,true)→ ∀(H:Old) (vals:Array Value) (w:World),Xj (Zj (Jn H)) args vals.toList→(∀k o,H k=some o→w.heap[k]? =some o)→Glob H→Calls P f vals w fun e w'=> ∃u,e=.returned u∧Zj (Jn H) v u∧RowKit.Below w.heap.size w w'):y8r P f F:=
 fun args v hv H vals w cG hH hG=>(h args v hv H vals w cG hH hG).mono fun e w' ⟨u,he,hu,hb⟩=>⟨H,u,fun _ _ h=>h,fun k o e=>by rw [hb.block k (Ar.1 (hH k o e)).1];exact hH k o e,fun _ _=>rfl,he,hu,hb⟩
def Ym (n:Int):List UInt8:=itoa n
def Yb (n:Int):Bool:=decide (-9223372036854775808≤n∧n≤9223372036854775807)
def fIto :List AVal→Option (AVal×Bool)
 | [.int .i64 n]=>some (.str (Ym n),Yb n)
 | _=>none
theorem y3w (w:World) (k:Nat) (os:Array Obj):RowKit.Below w.heap.size w (grow (w.drewN k) os):=
 ⟨rfl,rfl,rfl,by show _≤(w.heap++os).size;rw [Array.size_append];exact Nat.le_add_right _ _,fun k hk=>by show (w.heap++os)[k]? =_;rw [Array.getElem?_append_left hk]⟩
theorem y9w {H:Old} {w:World} (hH: ∀k o,H k=some o→w.heap[k]? =some o) (hG:Glob H):Lib.TabIs prog w "internal/strconv.uint64pow10" .u64 Lib.pow10Tab:=by
 obtain ⟨el,fz,e⟩:=hG.pow (gpow.headD 0) (by decide);have h:prog.globalNamed "internal/strconv.uint64pow10" =some (gpow.headD 0):=by kernel_rfl
 unfold Lib.TabIs World.var?;rw [h];show (match w.heap[gpow.headD 0]? with | some (.cells cs _ _)=>some cs | _=>none)=_;rw [hH _ _ e];show some pow10A=_;unfold pow10A Lib.pow10Tab;rw [List.map_map];rfl
theorem ito_ok :y8r prog itoN fIto:=z9m fun args v hv H vals w cG hH hG=>by
 unfold fIto at hv;split at hv
 ·rename_i n;simp only [Ab,Aa] at hv;obtain ⟨rfl,ho⟩:=hv;have ho: -9223372036854775808≤n∧n≤9223372036854775807:=Ax ho;obtain rfl:vals= #[.int .i64 n]:=by
   obtain ⟨vl⟩:=vals;cases cG with
   | cons h1 h2=>cases h2;cases h1;rfl
  refine (Any.strconv_Itoa Tryd.laysM171 n ho.1 ho.2 w (y9w hH hG)).mono fun e w' ⟨he,k,os,hw⟩=>⟨_,he,.str _,?_⟩
  subst hw;exact y3w w k os
 ·cases hv
def Yq (s sep:List UInt8):List (List UInt8):=split s sep
def Xg (s sep:List UInt8):Bool:=Nat.beq sep.length 1&&decide (s.length<4294967281)
def fSpl :List AVal→Option (AVal×Bool)
 | [.str s,.str sep]=>some (.dat (Yq s sep).length (Zz (Yq s sep)),Xg s sep)
 | _=>none
theorem spl_ok :y8r prog splN fSpl:=by
 intro args v hv H vals w cG hH hG;unfold fSpl at hv;split at hv
 ·rename_i s sep;simp only [Ab,Aa] at hv;obtain ⟨rfl,ho⟩:=hv;unfold Xg at ho;rw [Ad] at ho;have h1:=Af ho.1;have h2:s.length<4294967281:=Ax ho.2;obtain ⟨b,rfl⟩: ∃b,sep=[b]:=by
   match sep,h1 with
   | [b],_=>exact ⟨b,rfl⟩
  obtain rfl:vals= #[.string ⟨s.toArray⟩,.string ⟨#[b]⟩]:=by
   obtain ⟨vl⟩:=vals;cases cG with
   | cons h1 h2=>cases h2 with
    | cons h2 h3=>cases h3;cases h1;cases h2;rfl
  refine (x2l Tryd.lays146 (by kernel_rfl) ⟨s.toArray⟩ b w (by simpa [ByteArray.size] using h2)).mono fun e w' ⟨he,hw⟩=> ?_;subst hw;have hd:=Lib.splitB_data ⟨#[b]⟩ 0 (Lib.countB ⟨s.toArray⟩ ⟨#[b]⟩) ⟨s.toArray⟩;have hs:(Lib.splitB ⟨#[b]⟩ 0 (Lib.countB ⟨s.toArray⟩ ⟨#[b]⟩) ⟨s.toArray⟩).map (·.data.toList)=Yq s [b]:=hd;generalize hB:Lib.splitB ⟨#[b]⟩ 0 (Lib.countB ⟨s.toArray⟩ ⟨#[b]⟩) ⟨s.toArray⟩=B at he hs;have cE:B.length=Lib.countB ⟨s.toArray⟩ ⟨#[b]⟩+1:=by rw [←hB];exact Lib.splitB_all ⟨#[b]⟩ (Aj 1) 0 _ _ rfl
  have hlenV:(Yq s [b]).length =B.length:=by rw [←hs,List.length_map]
  have hnone:H w.heap.size=none:=by
   cases hh:H w.heap.size with
   | none=>rfl
   | some o=>exact absurd (Ar.1 (hH _ _ hh)).1 (Nat.lt_irrefl _)
  refine ⟨fun k=>if k=w.heap.size then some (.cells (B.map Value.string).toArray (Tryd.lays146_ren.t 9) (0,0)) else H k,_,fun k o hk=> ?_,fun k o hk=> ?_,fun k hk=>As (AO hk),he,?_,?_⟩
  ·exact (As (by intro e;rw [e,hnone] at hk;cases hk)).trans hk
  ·dsimp only at hk;split at hk
   ·rename_i e;subst e;rw [←hk];exact World.alloc_heap_new _ _
   ·rename_i e;rw [RowKit.Below.heap_alloc _ _ _ (Ar.1 (hH _ _ hk)).1];exact hH _ _ hk
  ·rw [←cE,hlenV];have hrow: ∀i,(hi:i<B.length)→Zz (Yq s [b]) i=[.str B[i].data.toList]:=fun i hi=>by
    show Wk.cells (rd (Yq s [b]) i)=_;have:rd (Yq s [b]) i=B[i].data.toList :=by rw [Uj (by rw [hlenV];exact hi)];simp only [←hs,List.getElem_map]
    rw [this];rfl
   refine .dat B.length _ w.heap.size 0 1 B.length (fun i _=>.string (B.getD i ByteArray.empty)) (Aj _) (fun i hi=>by rw [hrow i hi];rfl) (fun i j hi hj=> ?_) fun i j hi hj=> ?_
   ·have e:=hrow i hi;have hj0:j=0:=by rw [e] at hj;exact Nat.lt_one_iff.1 hj
    subst hj0;simp only [e,List.getElem_cons_zero];rw [A1,An hi];exact .str _
   ·have hj0:j=0:=Nat.lt_one_iff.1 hj;subst hj0;refine ⟨_,_,_,Av rfl,?_⟩;simp [An hi]
  ·exact (RowKit.Below.refl _ w).alloc (Aj _) _
 ·cases hv
def Yy (s:List UInt8):Int:=match atoiAll s with
 | .ok v=>v
 | .range =>atoiSat s
 | _=>0
def Uo (s:List UInt8):Bool:=match atoiAll s with
 | .ok _=>true
 | _=>false
def Wy (s:List UInt8):Bool:=decide (s.length≤281474976710656)
def fAto :List AVal→Option (AVal×Bool)
 | [.str s]=>some (.tup [.int .i64 (Yy s),.ifb (Uo s)],Wy s)
 | _=>none
theorem tup2 {ρ:Rho} {a b:AVal} {u v:Value} (h1:Zj ρ a u) (h2:Zj ρ b v):Zj ρ (.tup [a,b]) (.tuple #[u,v]):=.tup _ _ rfl fun i h h'=>by
 match i,h with
 | 0,_=>exact h1
 | 1,_=>exact h2
theorem y5p {H:Old} {w:World} (hH: ∀k o,H k=some o→w.heap[k]? =some o) (hG:Glob H) {g:Nat} (hg:g∈globs): ∃ev,w.cell? ⟨g,0,none⟩=some ev∧(ev=.nilIface ∨ ∃te pe,ev=.iface te pe):=by obtain ⟨v,⟨cs,el,fz,e1,e2⟩,h⟩:=hG.err g hg;exact ⟨v,by simp [World.cell?,hH _ _ e1,e2],h⟩
theorem y3x (w:World) (t:TypeId) (s:ByteArray):RowKit.Below w.heap.size w (bytesWorld w t s):=by
 refine ⟨?_,?_,?_,?_,fun k hk=> ?_⟩ <;> (unfold bytesWorld World.freeze;split)
 ·rfl
 ·rfl
 ·rfl
 ·rfl
 ·rfl
 ·rfl
 ·simp [World.alloc]
 ·simp [World.alloc]
 ·simp [World.alloc,Bm,AO hk];rfl
 ·simp [World.alloc,Array.getElem?_modify,Bm,AO hk,Ne.symm (AO hk)];rfl
theorem ato_ok :y8r prog atoN fAto:=z9m fun args v hv H vals w cG hH hG=>by
 unfold fAto at hv;split at hv
 ·rename_i s;simp only [Ab,Aa] at hv;obtain ⟨rfl,ho⟩:=hv;have ho:s.length≤281474976710656:=Ax ho;have hsz:(⟨s.toArray⟩:ByteArray).size =s.length:=by simp [ByteArray.size]
  obtain rfl:vals= #[.string ⟨s.toArray⟩]:=by
   obtain ⟨vl⟩:=vals;cases cG with
   | cons h1 h2=>cases h2;cases h1;rfl
  cases hA:atoiAll s
  ·rename_i v;refine (Any.strconv_Atoi_ok Tryd.laysC172 ⟨s.toArray⟩ (by omega) v hA w).mono fun e w' ⟨he,hw⟩=>⟨_,he,?_,?_⟩
   ·unfold Yy Uo;rw [hA];exact tup2 (.int _ _) .ifbt
   ·rcases hw with rfl | ⟨t,rfl⟩
    ·exact RowKit.Below.refl _ _
    ·exact y3x _ _ _
  ·obtain ⟨ev,h1,h2⟩:=y5p hH hG (show Tryd.laysC172_ren.g 15∈globs by decide);refine (Any.strconv_Atoi_syntax Tryd.laysC172 ⟨s.toArray⟩ (by omega) hA ev w h1 h2).mono fun e w' ⟨N,he,_,_,hw⟩=>⟨_,he,?_,hw⟩
   unfold Yy Uo;rw [hA];exact tup2 (.int _ _) (.ifbf _ _)
  ·obtain ⟨ev,h1,h2⟩:=y5p hH hG (show Tryd.laysC172_ren.g 16∈globs by decide);refine (Any.strconv_Atoi_range Tryd.laysC172 ⟨s.toArray⟩ (by omega) hA ev w h1 h2).mono fun e w' ⟨N,he,_,_,hw⟩=>⟨_,he,?_,hw⟩
   unfold Yy Uo;rw [hA];exact tup2 (.int _ _) (.ifbf _ _)
 ·cases hv
def SC0 :Specs:=((noSpecs.with itoN fIto).with splN fSpl).with atoN fAto
def SC :Specs:=fun g=>bif Nat.beq g cpyN then some (.eff fCpy) else SC0 g
theorem z2a {a b:Int} (h:a<b):decide (a<b)=true:=Ah h
theorem z3a {a b:Int} (h: ¬a<b):decide (a<b)=false:=Ak h
theorem y3n {a b:Int} (h:a≤b):decide (a≤b)=true:=Ah h
theorem dle_f {a b:Int} (h: ¬a≤b):decide (a≤b)=false:=Ak h
theorem z5j {a b:Int} (h:a>b):decide (a>b)=true:=Ah h
theorem z6r {a b:Int} (h: ¬a>b):decide (a>b)=false:=Ak h
theorem dge_t {a b:Int} (h:a≥b):decide (a≥b)=true:=Ah h
theorem x0l {a b:Nat} (h:a≤b):decide (a≤b)=true:=Ah h
theorem z6q {a b:Int} (h:0≤a∧a<b):decide (0≤a∧a<b)=true:=Ah h
theorem Xi {n:Int} (h: -9223372036854775808≤n∧n≤9223372036854775807):wrap .i64 n=n:=w_in h.1 h.2
theorem x1p (i:Nat):(i:Int)+1=((i+1:Nat):Int):=rfl
theorem ne_t {a b:Int} (h:a≠b):(a != b)=true:=by simp [h]
theorem ne_f {a b:Int} (h:a=b):(a != b)=false:=by simp [h]
theorem x6b {a b:Int} (h:a=b):(a == b)=true:=by simp [h]
theorem x6c {a b:Int} (h:a≠b):(a == b)=false:=by simp [h]
theorem Vg (n:Nat):Int.toNat (n:Int)=n:=Int.toNat_natCast n
theorem boolc (b:Bool):b=true∨b=false:=by cases b <;> simp
theorem Kw {α:Type} [Wk α] {L:List α} {i:Nat} (h:i<L.length):L.drop i=rd L i::L.drop (i+1):=by rw [Uj h];exact AU h
theorem y5o {P:Program} {S:Specs} (hS:Zk P S) {f:FuncId} {F:List AVal→Option (AVal×Bool)} (hf:(P.funcs[f]?).any (fun fn=>fn.body.isSome)=true)
  (hF: ∀args v,F args=some (v,true)→ ∃bs vs,Xj VLe args bs∧Uq vs=v∧z2v P (Zx P f) (Zs P f bs true []) vs∧ ∃d,pf d v=true):Zk P (S.with f F):=y5z hS hf hF
def sOk (a b:List UInt8):Bool:=Nat.ble (a.length+b.length) 9223372036854775807
def sLe (a:List UInt8):Bool:=decide (a.length≤9223372036854775807)
theorem x6k {a b:List UInt8} (h:a.length+b.length≤1000000000000):sOk a b=true:=by unfold sOk;exact AD (by omega)
theorem sLe_t {a:List UInt8} (h:a.length≤1000000000000):sLe a=true:=by unfold sLe;exact Ah (by omega)
theorem x8w :Zk prog SC:=x2i (z3f (z3f (z3f y7f (by kernel_rfl) ito_ok) (by kernel_rfl) spl_ok) (by kernel_rfl) ato_ok) (by kernel_rfl) x8l
def decZ (n:Int):List UInt8:=[]
def z5l (n:Int):Bool:=false
def x8f :List AVal→Option (AVal×Bool)
 | [.int .i64 n]=>some (.str (decZ n),z5l n)
 | _=>none
theorem x8i (args:List AVal) (v:AVal):x8f args≠some (v,true):=by intro h;unfold x8f at h;split at h <;> simp [z5l] at h
def SD0 :Specs:=SC.with decN x8f
theorem y5v :Zk prog SD0:=z3f x8w (by kernel_rfl) fun args v h=>absurd h (x8i args v)
def x5z (n:Int):List UInt8:=itoa n
def z1f (n:Int):Bool:=decide (0≤n∧n≤9223372036854775807)
def fDecP :List AVal→Option (AVal×Bool)
 | [.int .i64 n]=>some (.str (x5z n),z1f n)
 | _=>none
def SD1 :Specs:=SC.with decN fDecP
inductive decS where
 | h0 (v0:Int) (v3:List UInt8)
def decC (x0:Int):decS→Cfg
 | .h0 v0 v3=>⟨⟨23,0,true⟩,none,(Yh prog 13 [1,1,1,0,0] 0),none,(Zx prog 9),⟨Vq [(0,(ii v0)),(3,(.str v3))],Qg [] 0,0,[],true⟩,[],.leaf⟩
def decN0 :List (Option (List Nat)):=[some [0,3]]
def decM0 :List (Option (List Nat)):=[]
def z2b (x0:Int):decS→Vj decS
 | .h0 v0 v3=>(bif (decide (0≤(wrap IntKind.u8 (wrap .i64 (48+(Int.tmod v0 10))))∧(wrap IntKind.u8 (wrap .i64 (48+(Int.tmod v0 10))))<256)) then (bif (sOk ([UInt8.ofNat (Int.toNat (wrap IntKind.u8 (wrap .i64 (48+(Int.tmod v0 10)))))]:List UInt8) v3) then (bif ((wrap .i64 (Int.tdiv v0 10)) == 0) then (.ret [(.str (([UInt8.ofNat (Int.toNat (wrap IntKind.u8 (wrap .i64 (48+(Int.tmod v0 10)))))]:List UInt8)++v3))]) else (.to (.h0 (wrap .i64 (Int.tdiv v0 10)) (([UInt8.ofNat (Int.toNat (wrap IntKind.u8 (wrap .i64 (48+(Int.tmod v0 10)))))]:List UInt8)++v3)))) else .stuck) else .stuck)
def z1e (x0:Int):Vj decS:=(bif (decide (x0<0)) then (bif (z5l (wrap .i64 (0 - x0))) then (bif (sOk ([45]:List UInt8) (decZ (wrap .i64 (0 - x0)))) then (.ret [(.str (([45]:List UInt8)++(decZ (wrap .i64 (0 - x0)))))]) else .stuck) else .stuck) else (.to (.h0 x0 ([]:List UInt8))))
theorem y7z (x0:Int): ∀s,Vr prog (Zx prog 13) (decC x0) (decC x0 s) (z2b x0 s)
 | .h0 v0 v3=>(lo fun bK=>(lo fun bM=>(lb (fun k0=>(lr 23 13 [1,1,1,0,0,0,1,1,1,0,0] 1 9 [(2,(.str (([UInt8.ofNat (tn (wrap IntKind.u8 (wr (48+(Int.tmod v0 10)))))]:List UInt8)++v3)))] (sl y5v 30 [] ⟨[],[],[some [2]],[]⟩ ⟨[],[],[]⟩ [true] (tt k0 (ww bM (pp (pp (xw bK) nn) nn)))))) (fun k0=>(sl y5v 28 [] ⟨[],[],decN0,decM0⟩ ⟨[],[],[]⟩ [false] (tt k0 (ww bM (pp (pp (xw bK) nn) nn))))))))
theorem y3o (x0:Int):Vr prog (Zx prog 13) (decC x0) (Zs prog 13 [(.int .i64 x0)] true []) (z1e x0):=(lb (fun k0=>(lo fun o0=>(lo fun o1=>(lr 23 13 [1,0,1,0,0] 1 9 [(2,(.str (([45]:List UInt8)++(decZ (wr (0 - x0))))))] (sl y5v 19 [] ⟨[],[],[some [2]],[]⟩ ⟨[],[],[]⟩ [true] (ww o1 (ww o0 (tt k0 nn)))))))) (fun k0=>(sl y5v 18 [] ⟨[],[],decN0,decM0⟩ ⟨[],[],[]⟩ [false] (tt k0 nn))))
theorem y5s (x0:Int) (n:Nat) (vs:List AVal) (h:goOn (z2b x0) n (z1e x0)=.ret vs):z2v prog (Zx prog 13) (Zs prog 13 [(.int .i64 x0)] true []) vs:=by have:=Yd (y7z x0) n _ (y3o x0);rwa [h] at this
theorem w8 (n:Int) (h:0≤n∧n<256):wrap .u8 n=n:=by unfold wrap;simp [IntKind.signed,IntKind.bits];omega
theorem tmod_c (u:Nat):Int.tmod (u:Int) 10=((u %10:Nat):Int):=rfl
theorem tdiv_c (u:Nat):Int.tdiv (u:Int) 10=((u / 10:Nat):Int):=rfl
theorem x8h {x:Int} (u:Nat) (acc:List UInt8) (hu:u≤9223372036854775807) (ha:acc.length≤1000):
  z2b x (.h0 (u:Int) acc)=bif (((u / 10:Nat):Int) == 0) then .ret [.str ([UInt8.ofNat (48+u %10)]++acc)] else .to (.h0 ((u / 10:Nat):Int) ([UInt8.ofNat (48+u %10)]++acc)):=by
 have e1:wrap .i64 (48+Int.tmod (u:Int) 10)=((48+u %10:Nat):Int):=by rw [tmod_c,Xi (by omega)];rfl
 have e2:wrap .u8 ((48+u %10:Nat):Int)=((48+u %10:Nat):Int):=w8 _ (by omega);have e3:wrap .i64 (Int.tdiv (u:Int) 10)=((u / 10:Nat):Int):=by rw [tdiv_c,Xi (by omega)]
 unfold z2b;simp only [e1,e2,e3,Vg];rw [Zp (Ah (by omega)),Zp (x6k (by simp only [AC];omega))]
theorem x5y {x:Int}: ∀(k u:Nat) (acc:List UInt8),u<10 ^ (k+1)→k≤40→u≤9223372036854775807→acc.length+k≤1000→ ∃N,goOn (z2b x) N (.to (.h0 (u:Int) acc))=.ret [.str (decDigits u++acc)]
 | k,u,acc,h,hk,hu,ha=>by
  have est:=x8h (x:=x) u acc hu (by omega);by_cases h0:u<10
  ·refine ⟨1,?_⟩;have:u / 10=0:=by omega
   rw [Zf,est,this,Zp (by rfl),Yn,decDigits,dif_pos h0,Nat.mod_eq_of_lt h0]
  ·have hb:(((u / 10:Nat):Int) == 0)=false:=x6c (by omega)
   match k,h,hk,ha with
   | 0,h,_,_=>omega
   | k+1,h,hk,ha=>obtain ⟨N,hN⟩:=x5y (x:=x) k (u / 10) ([UInt8.ofNat (48+u %10)]++acc) (by rw [Nat.pow_succ] at h;omega) (by omega) (by omega) (by rw [Ao,AC];omega);refine ⟨N+1,?_⟩;rw [Zf,est,hb,Ai,hN,decDigits.eq_def u,dif_neg h0,AK]
theorem y5r (n:Int) (h:z1f n=true): ∃N,goOn (z2b n) N (z1e n)=.ret [.str (x5z n)]:=by
 have h:0≤n∧n≤9223372036854775807:=Ax h;obtain ⟨u,rfl⟩: ∃u:Nat,n=(u:Int):=⟨n.toNat,by omega⟩
 obtain ⟨N,hN⟩:=x5y (x:=(u:Int)) 19 u [] (by omega) (by decide) (by omega) (by decide);refine ⟨N,?_⟩;have e:z1e (u:Int)=.to (.h0 (u:Int) []):=by unfold z1e;rw [Ak (by omega),Ai]
 rw [e,hN,Bq];unfold x5z itoa;rw [As (by omega)];rfl
theorem y5u :Zk prog SD1:=y5o x8w (by kernel_rfl) fun args v h=>by
 unfold fDecP at h;split at h
 ·rename_i n;simp only [Ab,Aa] at h;obtain ⟨rfl,ho⟩:=h;obtain ⟨N,hN⟩:=y5r n ho;exact ⟨_,_,.cons (.refl _) .nil,rfl,y5s n N _ hN,3,rfl⟩
 ·cases h
inductive dcnS where
 | h0 (v0:Int) (v3:List UInt8)
def dcnC (x0:Int):dcnS→Cfg
 | .h0 v0 v3=>⟨⟨23,0,true⟩,none,(Yh prog 13 [1,1,1,0,0] 0),none,(Zx prog 9),⟨Vq [(0,(ii v0)),(3,(.str v3))],Qg [] 0,0,[],true⟩,[],.leaf⟩
def dcnN0 :List (Option (List Nat)):=[some [0,3]]
def dcnM0 :List (Option (List Nat)):=[]
def x1k (x0:Int):dcnS→Vj dcnS
 | .h0 v0 v3=>(bif (decide (0≤(wrap IntKind.u8 (wrap .i64 (48+(Int.tmod v0 10))))∧(wrap IntKind.u8 (wrap .i64 (48+(Int.tmod v0 10))))<256)) then (bif (sOk ([UInt8.ofNat (Int.toNat (wrap IntKind.u8 (wrap .i64 (48+(Int.tmod v0 10)))))]:List UInt8) v3) then (bif ((wrap .i64 (Int.tdiv v0 10)) == 0) then (.ret [(.str (([UInt8.ofNat (Int.toNat (wrap IntKind.u8 (wrap .i64 (48+(Int.tmod v0 10)))))]:List UInt8)++v3))]) else (.to (.h0 (wrap .i64 (Int.tdiv v0 10)) (([UInt8.ofNat (Int.toNat (wrap IntKind.u8 (wrap .i64 (48+(Int.tmod v0 10)))))]:List UInt8)++v3)))) else .stuck) else .stuck)
def z3t (x0:Int):Vj dcnS:=(bif (decide (x0<0)) then (bif (z1f (wrap .i64 (0 - x0))) then (bif (sOk ([45]:List UInt8) (x5z (wrap .i64 (0 - x0)))) then (.ret [(.str (([45]:List UInt8)++(x5z (wrap .i64 (0 - x0)))))]) else .stuck) else .stuck) else (.to (.h0 x0 ([]:List UInt8))))
theorem y8a (x0:Int): ∀s,Vr prog (Zx prog 13) (dcnC x0) (dcnC x0 s) (x1k x0 s)
 | .h0 v0 v3=>(lo fun bK=>(lo fun bM=>(lb (fun k0=>(lr 23 13 [1,1,1,0,0,0,1,1,1,0,0] 1 9 [(2,(.str (([UInt8.ofNat (tn (wrap IntKind.u8 (wr (48+(Int.tmod v0 10)))))]:List UInt8)++v3)))] (sl y5u 30 [] ⟨[],[],[some [2]],[]⟩ ⟨[],[],[]⟩ [true] (tt k0 (ww bM (pp (pp (xw bK) nn) nn)))))) (fun k0=>(sl y5u 28 [] ⟨[],[],dcnN0,dcnM0⟩ ⟨[],[],[]⟩ [false] (tt k0 (ww bM (pp (pp (xw bK) nn) nn))))))))
theorem y3q (x0:Int):Vr prog (Zx prog 13) (dcnC x0) (Zs prog 13 [(.int .i64 x0)] true []) (z3t x0):=(lb (fun k0=>(lo fun o0=>(lo fun o1=>(lr 23 13 [1,0,1,0,0] 1 9 [(2,(.str (([45]:List UInt8)++(x5z (wr (0 - x0))))))] (sl y5u 19 [] ⟨[],[],[some [2]],[]⟩ ⟨[],[],[]⟩ [true] (ww o1 (ww o0 (tt k0 nn)))))))) (fun k0=>(sl y5u 18 [] ⟨[],[],dcnN0,dcnM0⟩ ⟨[],[],[]⟩ [false] (tt k0 nn))))
theorem x4q (x0:Int) (n:Nat) (vs:List AVal) (h:goOn (x1k x0) n (z3t x0)=.ret vs):z2v prog (Zx prog 13) (Zs prog 13 [(.int .i64 x0)] true []) vs:=by have:=Yd (y8a x0) n _ (y3q x0);rwa [h] at this
structure R7 where
 (a b c d e f g:Int)
instance : Wk R7 where
 w:=7
 d:=⟨0,0,0,0,0,0,0⟩
 cells x:=[.int .u8 x.a,.int .i64 x.b,.int .i64 x.c,.int .i64 x.d,.int .i64 x.e,.int .i64 x.f,.int .i64 x.g]
 of l:=⟨iOf (l.getD 0 .undef),iOf (l.getD 1 .undef),iOf (l.getD 2 .undef),iOf (l.getD 3 .undef),iOf (l.getD 4 .undef),iOf (l.getD 5 .undef),iOf (l.getD 6 .undef)⟩
 len _:=rfl
 pos:=by decide
 flat _:=rfl
 sc _:=rfl
 back _:=rfl
def Wj (n:Int):List UInt8:=itoa n
def Xb (n:Int):Bool:=decide (-9223372036854775807≤n∧n≤9223372036854775807)
def fDec :List AVal→Option (AVal×Bool)
 | [.int .i64 n]=>some (.str (Wj n),Xb n)
 | _=>none
theorem y3p (n:Int) (h: -9223372036854775808≤n∧n≤9223372036854775807):(x5z n).length ≤21:=itoa_length_le n h.1 h.2
theorem x8e {S:Specs} (hS:Zk prog S):Zk prog (S.with decN fDec):=y5o hS (by kernel_rfl) fun args v h=>by
 unfold fDec at h;split at h
 ·rename_i n;simp only [Ab,Aa] at h;obtain ⟨rfl,ho⟩:=h;have ho: -9223372036854775807≤n∧n≤9223372036854775807:=Ax ho;by_cases hn:n<0
  ·have e:z3t n=.ret [.str (Wj n)]:=by unfold z3t;rw [Zp (Ah hn),Xi (by omega),Zp (show z1f (0 - n)=true from Ah (by omega))];have:=y3p (0 - n) (by omega);rw [Zp (x6k (by simp only [AC];omega))];unfold x5z Wj itoa;rw [As (by omega),Av hn,show (0 - n).toNat =n.natAbs by omega];rfl
   exact ⟨_,_,.cons (.refl _) .nil,rfl,x4q n 0 _ (by rw [e];rfl),3,rfl⟩
  ·obtain ⟨N,hN⟩:=y5r n (Ah (by omega));exact ⟨_,_,.cons (.refl _) .nil,rfl,y5s n N _ hN,3,rfl⟩
 ·cases h
def SD :Specs:=SC.with decN fDec
theorem Qz :Zk prog SD:=x8e x8w
inductive finS where
def finC (aN:Int) (aL:Int) (aK:Int):finS→Cfg
 :=nofun
def y3k (aN:Int) (aL:Int) (aK:Int):finS→Vj finS
 :=nofun
def z3s (aN:Int) (aL:Int) (aK:Int):Vj finS:=(bif (decide ((x2e (x2e aN aL) aK)≥(-1000000))) then (.ret [(.bool (decide ((x2f (x2f aN aL) aK)≤1000000)))]) else (.ret [(.bool false)]))
theorem y7y (aN:Int) (aL:Int) (aK:Int): ∀s,Vr prog (Zx prog 23) (finC aN aL aK) (finC aN aL aK s) (y3k aN aL aK s)
 :=nofun
theorem y3l (aN:Int) (aL:Int) (aK:Int):Vr prog (Zx prog 23) (finC aN aL aK) (Zs prog 23 [(.agg [(.int .i64 aN),(.int .i64 aL),(.int .i64 aK)])] true []) (z3s aN aL aK):=(lb (fun k0=>(lr 21 3 [1,1,1,1,1,1,0] 1 9 [(2,(.bool (decide ((x2f (x2f aN aL) aK)≤1000000))))] (sl Qz 27 [] ⟨[],[],[some [2]],[]⟩ ⟨[],[],[]⟩ (trs 8 []) (tt k0 nn)))) (fun k0=>(lr 21 3 [1,1,1,1,1,1,0] 1 9 [(2,(.bool false))] (sl Qz 27 [] ⟨[],[],[some [2]],[]⟩ ⟨[],[],[]⟩ [false,false,false,false,false,false,false,false] (tt k0 nn)))))
theorem x4n (aN:Int) (aL:Int) (aK:Int) (n:Nat) (vs:List AVal) (h:goOn (y3k aN aL aK) n (z3s aN aL aK)=.ret vs):z2v prog (Zx prog 23) (Zs prog 23 [(.agg [(.int .i64 aN),(.int .i64 aL),(.int .i64 aK)])] true []) vs:=by have:=Yd (y7y aN aL aK) n _ (y3l aN aL aK);rwa [h] at this
inductive rinS where
def rinC (aN:Int) (aL:Int) (aK:Int) (x1:Int):rinS→Cfg
 :=nofun
def y2f (aN:Int) (aL:Int) (aK:Int) (x1:Int):rinS→Vj rinS
 :=nofun
def z3l (aN:Int) (aL:Int) (aK:Int) (x1:Int):Vj rinS:=(bif (decide (aN≥x1)) then (bif (decide (aL≥x1)) then (bif (decide (aK≥x1)) then (bif (decide (aN≤1000000)) then (bif (decide (aL≤1000000)) then (.ret [(.bool (decide (aK≤1000000)))]) else (.ret [(.bool false)])) else (.ret [(.bool false)])) else (.ret [(.bool false)])) else (.ret [(.bool false)])) else (.ret [(.bool false)]))
theorem y6u (aN:Int) (aL:Int) (aK:Int) (x1:Int): ∀s,Vr prog (Zx prog 46) (rinC aN aL aK x1) (rinC aN aL aK x1 s) (y2f aN aL aK x1 s)
 :=nofun
theorem y2g (aN:Int) (aL:Int) (aK:Int) (x1:Int):Vr prog (Zx prog 46) (rinC aN aL aK x1) (Zs prog 46 [(.agg [(.int .i64 aN),(.int .i64 aL),(.int .i64 aK)]),(.int .i64 x1)] true []) (z3l aN aL aK x1):=(lb (fun k0=>(lb (fun k1=>(lb (fun k2=>(lb (fun k3=>(lb (fun k4=>(lr 36 3 [1,1,1,1,1,1,0] 1 3 [(4,(.bool (decide (aK≤1000000))))] (sl Qz 40 [] ⟨[],[],[some [4]],[]⟩ ⟨[],[],[]⟩ (trs 17 []) (tt k4 (tt k3 (tt k2 (tt k1 (tt k0 nn)))))))) (fun k4=>(lr 36 3 [1,1,1,1,1,1,0] 1 3 [(4,(.bool false))] (sl Qz 40 [] ⟨[],[],[some [4]],[]⟩ ⟨[],[],[]⟩ (trs 14 [false,false,false]) (tt k4 (tt k3 (tt k2 (tt k1 (tt k0 nn)))))))))) (fun k3=>(lr 36 3 [1,1,1,1,1,1,0] 1 3 [(4,(.bool false))] (sl Qz 40 [] ⟨[],[],[some [4]],[]⟩ ⟨[],[],[]⟩ (trs 11 [false,false,false,false,false,false]) (tt k3 (tt k2 (tt k1 (tt k0 nn))))))))) (fun k2=>(lr 36 3 [1,1,1,1,1,1,0] 1 3 [(4,(.bool false))] (sl Qz 40 [] ⟨[],[],[some [4]],[]⟩ ⟨[],[],[]⟩ (trs 8 [false,false,false,false,false,false,false,false,false]) (tt k2 (tt k1 (tt k0 nn)))))))) (fun k1=>(lr 36 3 [1,1,1,1,1,1,0] 1 3 [(4,(.bool false))] (sl Qz 40 [] ⟨[],[],[some [4]],[]⟩ ⟨[],[],[]⟩ (trs 4 [false,false,false,false,false,false,false,false,false,false,false,false,false]) (tt k1 (tt k0 nn))))))) (fun k0=>(lr 36 3 [1,1,1,1,1,1,0] 1 3 [(4,(.bool false))] (sl Qz 40 [] ⟨[],[],[some [4]],[]⟩ ⟨[],[],[]⟩ [false,false,false,false,false,false,false,false,false,false,false,false,false,false,false,false,false] (tt k0 nn)))))
theorem x3b (aN:Int) (aL:Int) (aK:Int) (x1:Int) (n:Nat) (vs:List AVal) (h:goOn (y2f aN aL aK x1) n (z3l aN aL aK x1)=.ret vs):z2v prog (Zx prog 46) (Zs prog 46 [(.agg [(.int .i64 aN),(.int .i64 aL),(.int .i64 aK)]),(.int .i64 x1)] true []) vs:=by have:=Yd (y6u aN aL aK x1) n _ (y2g aN aL aK x1);rwa [h] at this
inductive crdS where
def crdC (aN:Int) (aL:Int) (aK:Int) (x1:Int):crdS→Cfg
 :=nofun
def y3s (aN:Int) (aL:Int) (aK:Int) (x1:Int):crdS→Vj crdS
 :=nofun
def z3u (aN:Int) (aL:Int) (aK:Int) (x1:Int):Vj crdS:=(bif (x1 == 0) then (.ret [(.int .i64 aN)]) else (bif (x1 == 1) then (.ret [(.int .i64 aL)]) else (.ret [(.int .i64 aK)])))
theorem y8e (aN:Int) (aL:Int) (aK:Int) (x1:Int): ∀s,Vr prog (Zx prog 48) (crdC aN aL aK x1) (crdC aN aL aK x1 s) (y3s aN aL aK x1 s)
 :=nofun
theorem y3t (aN:Int) (aL:Int) (aK:Int) (x1:Int):Vr prog (Zx prog 48) (crdC aN aL aK x1) (Zs prog 48 [(.agg [(.int .i64 aN),(.int .i64 aL),(.int .i64 aK)]),(.int .i64 x1)] true []) (z3u aN aL aK x1):=(lb (fun k0=>(lr 15 48 [1,0,1,0,0] 1 3 [(4,(ii aN))] (sl Qz 18 [] ⟨[],[],[some [4]],[]⟩ ⟨[],[],[]⟩ [true] (tt k0 nn)))) (fun k0=>(lb (fun k1=>(lr 15 48 [1,1,0,1,0,0] 1 3 [(4,(ii aL))] (sl Qz 26 [] ⟨[],[],[some [4]],[]⟩ ⟨[],[],[]⟩ [false,true] (tt k1 (tt k0 nn))))) (fun k1=>(lr 15 3 [1,1,1,1,1,1,0] 1 3 [(4,(ii aK))] (sl Qz 27 [] ⟨[],[],[some [4]],[]⟩ ⟨[],[],[]⟩ [false,false] (tt k1 (tt k0 nn))))))))
theorem x4t (aN:Int) (aL:Int) (aK:Int) (x1:Int) (n:Nat) (vs:List AVal) (h:goOn (y3s aN aL aK x1) n (z3u aN aL aK x1)=.ret vs):z2v prog (Zx prog 48) (Zs prog 48 [(.agg [(.int .i64 aN),(.int .i64 aL),(.int .i64 aK)]),(.int .i64 x1)] true []) vs:=by have:=Yd (y8e aN aL aK x1) n _ (y3t aN aL aK x1);rwa [h] at this
inductive rsqS where
 | h0 (v5:Int)
def rsqC (l0:List R7) (l1:List R7):rsqS→Cfg
 | .h0 v5=>⟨⟨26,0,true⟩,none,(Yh prog 8 [1,1,0,1,0,0] 0),none,(Zx prog 3),⟨Vq [(0,(.dat l0.length (Zz l0))),(1,(.dat l1.length (Zz l1))),(5,(ii v5))],Qg [] 0,0,[],true⟩,[],.leaf⟩
def rsqN0 :List (Option (List Nat)):=[some [0,1,5]]
def rsqM0 :List (Option (List Nat)):=[]
def Qo (l0:List R7) (l1:List R7):rsqS→Vj rsqS
 | .h0 v5=>(bif (decide (v5<(l0.length:Int))) then (bif ((decide (0≤v5∧v5<(l0.length:Int)))&&true) then (bif ((decide (0≤v5∧v5<(l1.length:Int)))&&true) then (bif (!(((rd l0 v5.toNat).a == (rd l1 v5.toNat).a)&&((((rd l0 v5.toNat).b == (rd l1 v5.toNat).b)&&(((rd l0 v5.toNat).c == (rd l1 v5.toNat).c)&&(((rd l0 v5.toNat).d == (rd l1 v5.toNat).d)&&true)))&&((((rd l0 v5.toNat).e == (rd l1 v5.toNat).e)&&(((rd l0 v5.toNat).f == (rd l1 v5.toNat).f)&&(((rd l0 v5.toNat).g == (rd l1 v5.toNat).g)&&true)))&&true)))) then (.ret [(.bool false)]) else (.to (.h0 (wrap .i64 (v5+1))))) else .stuck) else .stuck) else (.ret [(.bool true)]))
def z3h (l0:List R7) (l1:List R7):Vj rsqS:=(bif ((l0.length:Int) != (l1.length:Int)) then (.ret [(.bool false)]) else (.to (.h0 0)))
theorem y6p (l0:List R7) (l1:List R7): ∀s,Vr prog (Zx prog 8) (rsqC l0 l1) (rsqC l0 l1 s) (Qo l0 l1 s)
 | .h0 v5=>(lb (fun k0=>(lo fun aI=>(lo fun aY=>(lb (fun k1=>(lr 26 8 [1,1,0,1,0,0,1,0,0,1,0,0] 1 3 [(4,(.bool false))] (sl Qz 19 [] ⟨[],[],[some [4]],[]⟩ ⟨[],[],[]⟩ (bl 2 3) (tt k1 (ww aY (ww aI (tt k0 nn))))))) (fun k1=>(sl Qz 23 [] ⟨[],[],rsqN0,rsqM0⟩ ⟨[],[],[]⟩ (bl 2 1) (tt k1 (ww aY (ww aI (tt k0 nn)))))))))) (fun k0=>(lr 26 3 [1,1,1,1,1,1,0] 1 3 [(4,(.bool true))] (sl Qz 14 [] ⟨[],[],[some [4]],[]⟩ ⟨[],[],[]⟩ [false] (tt k0 nn)))))
theorem y1w (l0:List R7) (l1:List R7):Vr prog (Zx prog 8) (rsqC l0 l1) (Zs prog 8 [(.dat l0.length (Zz l0)),(.dat l1.length (Zz l1))] true []) (z3h l0 l1):=(lb (fun k0=>(lr 26 8 [1,0,1,0,0] 1 3 [(4,(.bool false))] (sl Qz 18 [] ⟨[],[],[some [4]],[]⟩ ⟨[],[],[]⟩ [true] (tt k0 nn)))) (fun k0=>(sl Qz 22 [] ⟨[],[],rsqN0,rsqM0⟩ ⟨[],[],[]⟩ [false] (tt k0 nn))))
theorem x2q (l0:List R7) (l1:List R7) (n:Nat) (vs:List AVal) (h:goOn (Qo l0 l1) n (z3h l0 l1)=.ret vs):z2v prog (Zx prog 8) (Zs prog 8 [(.dat l0.length (Zz l0)),(.dat l1.length (Zz l1))] true []) vs:=by have:=Yd (y6p l0 l1) n _ (y1w l0 l1);rwa [h] at this
open Go.Shelf Go.RowKit
def y5n (x y z:Int):Bool:=decide (x2e (x2e x y) z≥(-1000000))&&decide (x2f (x2f x y) z≤1000000)
theorem x7p (x y z:Int): ∃N,goOn (y3k x y z) N (z3s x y z)=.ret [.bool (y5n x y z)]:=⟨0,by
 unfold z3s y5n;cases decide (x2e (x2e x y) z≥(-1000000)) <;> rfl⟩
def fFin :List AVal→Option (AVal×Bool)
 | [.agg [.int .i64 aN,.int .i64 aL,.int .i64 aK]]=>some (.bool (y5n aN aL aK),true)
 | _=>none
theorem x8d {S:Specs} (hS:Zk prog S):Zk prog (S.with x5t fFin):=by
 refine y5o hS (by kernel_rfl) fun args v h=> ?_;unfold fFin at h;split at h
 ·rename_i aN aL aK;simp only [Ab,Aa,and_true] at h;subst h;obtain ⟨N,hN⟩:=x7p aN aL aK;exact ⟨_,_,(.cons (.refl _) .nil),rfl,x4n aN aL aK N _ hN,3,rfl⟩
 ·cases h
def x6v (x y z lo:Int):Bool:=decide (x≥lo)&&(decide (y≥lo)&&(decide (z≥lo)&&(decide (x≤1000000)&&(decide (y≤1000000)&&decide (z≤1000000)))))
theorem x6u (x y z lo:Int): ∃N,goOn (y2f x y z lo) N (z3l x y z lo)=.ret [.bool (x6v x y z lo)]:=⟨0,by
 unfold z3l x6v;cases decide (x≥lo) <;> cases decide (y≥lo) <;> cases decide (z≥lo) <;> cases decide (x≤1000000) <;> cases decide (y≤1000000) <;> rfl⟩
def fRin :List AVal→Option (AVal×Bool)
 | [.agg [.int .i64 x,.int .i64 y,.int .i64 z],.int .i64 lo]=>some (.bool (x6v x y z lo),true)
 | _=>none
theorem x7w {S:Specs} (hS:Zk prog S):Zk prog (S.with nIn16 fRin):=by
 refine y5o hS (by kernel_rfl) fun args v h=> ?_;unfold fRin at h;split at h
 ·rename_i x y z lo;simp only [Ab,Aa,and_true] at h;subst h;obtain ⟨N,hN⟩:=x6u x y z lo;exact ⟨_,_,(.cons (.refl _) (.cons (.refl _) .nil)),rfl,x3b x y z lo N _ hN,3,rfl⟩
 ·cases h
def z2d (x y z i:Int):Int:=bif i == 0 then x else bif i == 1 then y else z
theorem x8k (x y z i:Int): ∃N,goOn (y3s x y z i) N (z3u x y z i)=.ret [.int .i64 (z2d x y z i)]:=⟨0,by
 unfold z3u z2d;cases (i == 0) <;> cases (i == 1) <;> rfl⟩
def fCrd :List AVal→Option (AVal×Bool)
 | [.agg [.int .i64 aN,.int .i64 aL,.int .i64 aK],.int .i64 x1]=>some (.int .i64 (z2d aN aL aK x1),true)
 | _=>none
theorem x8g {S:Specs} (hS:Zk prog S):Zk prog (S.with x5u fCrd):=by
 refine y5o hS (by kernel_rfl) fun args v h=> ?_;unfold fCrd at h;split at h
 ·rename_i aN aL aK x1;simp only [Ab,Aa,and_true] at h;subst h;obtain ⟨N,hN⟩:=x8k aN aL aK x1;exact ⟨_,_,(.cons (.refl _) (.cons (.refl _) .nil)),rfl,x4t aN aL aK x1 N _ hN,3,rfl⟩
 ·cases h
instance : DecidableEq R7:=Classical.typeDecidableEq _
def x5i (l m:List R7):Bool:=decide (l=m)
def eq7 (r s:R7):Bool:=(r.a == s.a)&&(((r.b == s.b)&&((r.c == s.c)&&((r.d == s.d)&&true)))&&(((r.e == s.e)&&((r.f == s.f)&&((r.g == s.g)&&true)))&&true))
theorem x1j (r s:R7):eq7 r s=true↔r=s:=by obtain ⟨a,b,c,d,e,f,g⟩:=r;obtain ⟨a',b',c',d',e',f',g'⟩:=s;simp [eq7,and_assoc]
def x2r (l m:List R7):Bool:=x5i l m
def Ve (l m:List R7):Bool:=decide (l.length≤1000000)
theorem x5j (l m:List R7) (hl:l.length≤1000000) (hm:l.length=m.length): ∀(k i:Nat),i+k=l.length→ ∃N,goOn (Qo l m) N (.to (.h0 (i:Int)))=.ret [.bool (decide (l.drop i=m.drop i))]
 | 0,i,h=>by
  refine ⟨1,?_⟩
  grind [Zf,Qo,Yn]
 | k+1,i,h=>by
  have hi:i<l.length:=by omega
  obtain ⟨N,hN⟩:=x5j l m hl hm k (i+1) (by omega);refine ⟨N+1,?_⟩;rw [Zf,Kw hi,Kw (show i<m.length by omega)];have e:Qo l m (.h0 (i:Int))=bif !(eq7 (rd l i) (rd m i)) then .ret [.bool false] else .to (.h0 ((i+1:Nat):Int)):=by
   grind [Qo,eq7,Xi]
  rw [e];by_cases q:rd l i=rd m i
  ·rw [(x1j _ _).2 q,Bf,Ai,hN];simp_all
  ·rw [show eq7 (rd l i) (rd m i)=false from AP.2 fun h=>q ((x1j _ _).1 h),Bool.not_false,Ap,Yn];simp_all
theorem x6n (l m:List R7) (h:Ve l m=true): ∃N,goOn (Qo l m) N (z3h l m)=.ret [.bool (x2r l m)]:=by
 have hl:l.length≤1000000:=Ax h;unfold z3h;by_cases hm:l.length=m.length
 ·obtain ⟨N,hN⟩:=x5j l m hl hm l.length 0 (AA _);refine ⟨N,?_⟩;rw [show ((l.length:Int) != (m.length:Int))=false by rw [hm];simp,Ai];exact hN
 ·refine ⟨0,?_⟩;rw [show ((l.length:Int) != (m.length:Int))=true by simp;omega,Ap,Yn]
  congr 3
  exact (Ak fun e=>hm (by rw [e])).symm
def fRsq :List AVal→Option (AVal×Bool)
 | [a0,a1]=>match asL R7 a0,asL R7 a1 with
  | some (L0,g0,n0),some (L1,g1,n1)=>some (.bool (x2r L0 L1),isT R7 n0 g0&&(isT R7 n1 g1&&(Ve L0 L1)))
  | _,_=>none
 | _=>none
theorem x7r {S:Specs} (hS:Zk prog S):Zk prog (S.with sqdN fRsq):=by
 refine y5o hS (by kernel_rfl) fun args v h=> ?_;unfold fRsq at h;split at h
 ·rename_i a0 a1;split at h
  ·rename_i L0 g0 n0 L1 g1 n1 e0 e1;simp only [Ab,Aa,Ad] at h;obtain ⟨rfl,ho0,ho1,hw⟩:=h;obtain ⟨N,hN⟩:=x6n L0 L1 hw;exact ⟨_,_,(.cons (asL_le e0 ho0) (.cons (asL_le e1 ho1) .nil)),rfl,x2q L0 L1 N _ hN,3,rfl⟩
  ·cases h
 ·cases h
def S1 :Specs:=(((SD.with x5t fFin).with nIn16 fRin).with x5u fCrd).with sqdN fRsq
theorem Wi :Zk prog S1:=x7r (x8g (x7w (x8d Qz)))
-- h0: index into an array (choices [true, false, false, false, false, false, false])
inductive mckS where
 | h0 (v14:Int)
def mckC (l0:List R7):mckS→Cfg
 | .h0 v14=>⟨⟨70,0,true⟩,none,(Yh prog 9 [1,1,1,0,1,0,0] 0),none,(Zx prog 9),⟨Vq [(3,(.ptr 0 0)),(12,(.dat l0.length (Zz l0))),(13,(ii (l0.length:Int))),(14,(ii v14))],Qg [⟨[(.fn 35 []),(.fn 36 []),(.fn 37 []),(.fn 38 []),(.fn 39 []),(.fn 40 []),(.fn 41 []),(.fn 42 []),(.fn 43 [])],68,none⟩] 0,1,[],true⟩,[],.leaf⟩
def x3x :List (Option (List Nat)):=[some [3,12,13,14]]
def x3y :List (Option (List Nat)):=[]
def z0a (l0:List R7):mckS→Vj mckS
 | .h0 v14=>(bif (decide (v14<(l0.length:Int))) then (bif ((decide (0≤v14∧v14<(l0.length:Int)))&&true) then (bif (decide ((rd l0 v14.toNat).a >5)) then (.ret [(.int .i64 8)]) else (bif (!(y5n (rd l0 v14.toNat).b (rd l0 v14.toNat).c (rd l0 v14.toNat).d)) then (.ret [(.int .i64 8)]) else (bif (!(y5n (rd l0 v14.toNat).e (rd l0 v14.toNat).f (rd l0 v14.toNat).g)) then (.ret [(.int .i64 8)]) else (bif (decide ((wrap IntKind.u8 (Int.tdiv (rd l0 v14.toNat).a 2))=Int.ofNat 0)) then (bif ((rd l0 v14.toNat).b != (rd l0 v14.toNat).e) then (.ret [(.int .i64 8)]) else (bif (decide ((rd l0 v14.toNat).c ≥(rd l0 v14.toNat).f)) then (.ret [(.int .i64 8)]) else (bif (decide ((rd l0 v14.toNat).d ≥(rd l0 v14.toNat).g)) then (.ret [(.int .i64 8)]) else (.to (.h0 (wrap .i64 (v14+1))))))) else (bif (decide ((wrap IntKind.u8 (Int.tdiv (rd l0 v14.toNat).a 2))=Int.ofNat 1)) then (bif ((rd l0 v14.toNat).c != (rd l0 v14.toNat).f) then (.ret [(.int .i64 8)]) else (bif (decide ((rd l0 v14.toNat).b ≥(rd l0 v14.toNat).e)) then (.ret [(.int .i64 8)]) else (bif (decide ((rd l0 v14.toNat).d ≥(rd l0 v14.toNat).g)) then (.ret [(.int .i64 8)]) else (.to (.h0 (wrap .i64 (v14+1))))))) else (bif (decide ((wrap IntKind.u8 (Int.tdiv (rd l0 v14.toNat).a 2))=Int.ofNat 2)) then (bif ((rd l0 v14.toNat).d != (rd l0 v14.toNat).g) then (.ret [(.int .i64 8)]) else (bif (decide ((rd l0 v14.toNat).b ≥(rd l0 v14.toNat).e)) then (.ret [(.int .i64 8)]) else (bif (decide ((rd l0 v14.toNat).c ≥(rd l0 v14.toNat).f)) then (.ret [(.int .i64 8)]) else (.to (.h0 (wrap .i64 (v14+1))))))) else .stuck)))))) else .stuck) else (.ret [(.int .i64 0)]))
def z3o (l0:List R7):Vj mckS:=(bif (decide ((l0.length:Int)>3000)) then (.ret [(.int .i64 4)]) else (.to (.h0 0)))
theorem y7h (l0:List R7): ∀s,Vr prog (Zx prog 9) (mckC l0) (mckC l0 s) (z0a l0 s)
 | .h0 v14=>(lb (fun k0=>(lo fun aI=>(lb (fun k1=>(lr 70 9 [1,1,1,0,1,0,0,1,1,0,0,1,0,1,0,0] 1 9 [(2,(ii 8))] (sl Wi 40 [] ⟨[],[],[some [2]],[]⟩ ⟨[],[],[]⟩ (trs 10 []) (tt k1 (ww aI (tt k0 nn)))))) (fun k1=>(lb (fun k2=>(lr 70 9 [1,1,1,0,1,0,0,1,1,0,0,1,0,1,0,0] 1 9 [(2,(ii 8))] (sl Wi 40 [] ⟨[],[],[some [2]],[]⟩ ⟨[],[],[]⟩ (bl 10 993) (tt k2 (tt k1 (ww aI (tt k0 nn))))))) (fun k2=>(lb (fun k3=>(lr 70 9 [1,1,1,0,1,0,0,1,1,0,0,1,0,1,0,0] 1 9 [(2,(ii 8))] (sl Wi 40 [] ⟨[],[],[some [2]],[]⟩ ⟨[],[],[]⟩ (bl 10 513) (tt k3 (tt k2 (tt k1 (ww aI (tt k0 nn)))))))) (fun k3=>(lb (fun k4=>(lb (fun k5=>(lr 70 9 [1,1,1,0,1,0,0,1,1,0,0,1,1,1,1,1,0,0] 1 9 [(2,(ii 8))] (sl Wi 124 [] ⟨[],[],[some [2]],[]⟩ ⟨[],[],[]⟩ (bl 22 4192257) (tt k5 (ww k4 (tt k3 (tt k2 (tt k1 (ww aI (tt k0 nn)))))))))) (fun k5=>(lb (fun k6=>(lr 70 9 [1,1,1,0,1,0,0,1,1,0,0,1,1,1,1,1,0,0] 1 9 [(2,(ii 8))] (sl Wi 124 [] ⟨[],[],[some [2]],[]⟩ ⟨[],[],[]⟩ (bl 22 4128769) (tt k6 (tt k5 (ww k4 (tt k3 (tt k2 (tt k1 (ww aI (tt k0 nn))))))))))) (fun k6=>(lb (fun k7=>(lr 70 9 [1,1,1,0,1,0,0,1,1,0,0,1,1,1,1,1,0,0] 1 9 [(2,(ii 8))] (sl Wi 124 [] ⟨[],[],[some [2]],[]⟩ ⟨[],[],[]⟩ (bl 22 2097153) (tt k7 (tt k6 (tt k5 (ww k4 (tt k3 (tt k2 (tt k1 (ww aI (tt k0 nn)))))))))))) (fun k7=>(sl Wi 127 [] ⟨[0],[],x3x,x3y⟩ ⟨[],[],[]⟩ (bl 22 1) (tt k7 (tt k6 (tt k5 (ww k4 (tt k3 (tt k2 (tt k1 (ww aI (tt k0 nn))))))))))))))))) (fun k4=>(lb (fun k5=>(lb (fun k6=>(lr 70 9 [1,1,1,0,1,0,0,1,1,0,0,1,1,1,1,1,0,0] 1 9 [(2,(ii 8))] (sl Wi 124 [] ⟨[],[],[some [2]],[]⟩ ⟨[],[],[]⟩ (bl 23 8385537) (tt k6 (ww k5 (tt k3 (tt k2 (tt k1 (ww aI (tt k0 nn)))))))))) (fun k6=>(lb (fun k7=>(lr 70 9 [1,1,1,0,1,0,0,1,1,0,0,1,1,1,1,1,0,0] 1 9 [(2,(ii 8))] (sl Wi 124 [] ⟨[],[],[some [2]],[]⟩ ⟨[],[],[]⟩ (bl 23 8258561) (tt k7 (tt k6 (ww k5 (tt k3 (tt k2 (tt k1 (ww aI (tt k0 nn))))))))))) (fun k7=>(lb (fun k8=>(lr 70 9 [1,1,1,0,1,0,0,1,1,0,0,1,1,1,1,1,0,0] 1 9 [(2,(ii 8))] (sl Wi 124 [] ⟨[],[],[some [2]],[]⟩ ⟨[],[],[]⟩ (bl 23 4195329) (tt k8 (tt k7 (tt k6 (ww k5 (tt k3 (tt k2 (tt k1 (ww aI (tt k0 nn)))))))))))) (fun k8=>(sl Wi 127 [] ⟨[0],[],x3x,x3y⟩ ⟨[],[],[]⟩ (bl 23 1025) (tt k8 (tt k7 (tt k6 (ww k5 (tt k3 (tt k2 (tt k1 (ww aI (tt k0 nn))))))))))))))))) (fun k5=>(lb (fun k6=>(lb (fun k7=>(lr 70 9 [1,1,1,0,1,0,0,1,1,0,0,1,1,1,1,1,0,0] 1 9 [(2,(ii 8))] (sl Wi 124 [] ⟨[],[],[some [2]],[]⟩ ⟨[],[],[]⟩ (bl 24 16772097) (tt k7 (ww k6 (tt k3 (tt k2 (tt k1 (ww aI (tt k0 nn)))))))))) (fun k7=>(lb (fun k8=>(lr 70 9 [1,1,1,0,1,0,0,1,1,0,0,1,1,1,1,1,0,0] 1 9 [(2,(ii 8))] (sl Wi 124 [] ⟨[],[],[some [2]],[]⟩ ⟨[],[],[]⟩ (bl 24 16518145) (tt k8 (tt k7 (ww k6 (tt k3 (tt k2 (tt k1 (ww aI (tt k0 nn))))))))))) (fun k8=>(lb (fun k9=>(lr 70 9 [1,1,1,0,1,0,0,1,1,0,0,1,1,1,1,1,0,0] 1 9 [(2,(ii 8))] (sl Wi 124 [] ⟨[],[],[some [2]],[]⟩ ⟨[],[],[]⟩ (bl 24 8391681) (tt k9 (tt k8 (tt k7 (ww k6 (tt k3 (tt k2 (tt k1 (ww aI (tt k0 nn)))))))))))) (fun k9=>(sl Wi 127 [] ⟨[0],[],x3x,x3y⟩ ⟨[],[],[]⟩ (bl 24 3073) (tt k9 (tt k8 (tt k7 (ww k6 (tt k3 (tt k2 (tt k1 (ww aI (tt k0 nn))))))))))))))))) (fun k6=>trivial)))))))))))))) (fun k0=>(lr 70 3 [1,1,1,1,1,1,0] 1 9 [(2,(ii 0))] (sl Wi 11 [] ⟨[],[],[some [2]],[]⟩ ⟨[],[],[]⟩ [false] (tt k0 nn)))))
theorem y2v (l0:List R7):Vr prog (Zx prog 9) (mckC l0) (Zs prog 9 [(.dat l0.length (Zz l0))] true []) (z3o l0):=(lb (fun k0=>(lr 70 9 [1,0,1,0,0] 1 9 [(2,(ii 4))] (sl Wi 16 [] ⟨[],[],[some [2]],[]⟩ ⟨[],[],[]⟩ [true] (tt k0 nn)))) (fun k0=>(sl Wi 41 [] ⟨[1],[],x3x,x3y⟩ ⟨[],[],[]⟩ [false] (tt k0 nn))))
theorem x3w (l0:List R7) (n:Nat) (vs:List AVal) (h:goOn (z0a l0) n (z3o l0)=.ret vs):z2v prog (Zx prog 9) (Zs prog 9 [(.dat l0.length (Zz l0))] true []) vs:=by have:=Yd (y7h l0) n _ (y2v l0);rwa [h] at this
inductive rvaS where
def rvaC (aN:Int) (aL:Int) (aK:Int) (bE:Int) (bF:Int) (bG:Int) (bH:Int):rvaS→Cfg
 :=nofun
def y1u (aN:Int) (aL:Int) (aK:Int) (bE:Int) (bF:Int) (bG:Int) (bH:Int):rvaS→Vj rvaS
 :=nofun
def z3g (aN:Int) (aL:Int) (aK:Int) (bE:Int) (bF:Int) (bG:Int) (bH:Int):Vj rvaS:=(bif (decide (aN>5)) then (.ret [(.bool false)]) else (bif (!(x6v aL aK bE (-1000000))) then (.ret [(.bool false)]) else (bif (!(x6v bF bG bH (-1000000))) then (.ret [(.bool false)]) else (bif ((wrap .i64 (Int.tdiv (wrap .i64 aN) 2)) == 0) then (bif ((z2d aL aK bE (wrap .i64 (Int.tdiv (wrap .i64 aN) 2))) == (z2d bF bG bH (wrap .i64 (Int.tdiv (wrap .i64 aN) 2)))) then (bif (decide ((z2d aL aK bE 1)<(z2d bF bG bH 1))) then (.ret [(.bool (decide ((z2d aL aK bE 2)<(z2d bF bG bH 2))))]) else (.ret [(.bool false)])) else (.ret [(.bool false)])) else (bif ((wrap .i64 (Int.tdiv (wrap .i64 aN) 2)) == 1) then (bif ((z2d aL aK bE (wrap .i64 (Int.tdiv (wrap .i64 aN) 2))) == (z2d bF bG bH (wrap .i64 (Int.tdiv (wrap .i64 aN) 2)))) then (bif (decide ((z2d aL aK bE 0)<(z2d bF bG bH 0))) then (.ret [(.bool (decide ((z2d aL aK bE 2)<(z2d bF bG bH 2))))]) else (.ret [(.bool false)])) else (.ret [(.bool false)])) else (bif ((z2d aL aK bE (wrap .i64 (Int.tdiv (wrap .i64 aN) 2))) == (z2d bF bG bH (wrap .i64 (Int.tdiv (wrap .i64 aN) 2)))) then (bif (decide ((z2d aL aK bE 0)<(z2d bF bG bH 0))) then (.ret [(.bool (decide ((z2d aL aK bE 1)<(z2d bF bG bH 1))))]) else (.ret [(.bool false)])) else (.ret [(.bool false)])))))))
theorem y6o (aN:Int) (aL:Int) (aK:Int) (bE:Int) (bF:Int) (bG:Int) (bH:Int): ∀s,Vr prog (Zx prog 30) (rvaC aN aL aK bE bF bG bH) (rvaC aN aL aK bE bF bG bH s) (y1u aN aL aK bE bF bG bH s)
 :=nofun
theorem y1v (aN:Int) (aL:Int) (aK:Int) (bE:Int) (bF:Int) (bG:Int) (bH:Int):Vr prog (Zx prog 30) (rvaC aN aL aK bE bF bG bH) (Zs prog 30 [(.agg [(.int .u8 aN),(.int .i64 aL),(.int .i64 aK),(.int .i64 bE),(.int .i64 bF),(.int .i64 bG),(.int .i64 bH)])] true []) (z3g aN aL aK bE bF bG bH):=(lb (fun k0=>(lr 63 30 [1,0,1,0,0] 1 9 [(2,(.bool false))] (sl Wi 29 [] ⟨[],[],[some [2]],[]⟩ ⟨[],[],[]⟩ (trs 9 []) (tt k0 nn)))) (fun k0=>(lb (fun k1=>(lr 63 30 [1,0,1,0,0] 1 9 [(2,(.bool false))] (sl Wi 29 [] ⟨[],[],[some [2]],[]⟩ ⟨[],[],[]⟩ [false,false,false,false,true,true,true,true,true] (tt k1 (tt k0 nn))))) (fun k1=>(lb (fun k2=>(lr 63 30 [1,0,1,0,0] 1 9 [(2,(.bool false))] (sl Wi 29 [] ⟨[],[],[some [2]],[]⟩ ⟨[],[],[]⟩ [false,false,false,false,false,false,false,false,true] (tt k2 (tt k1 (tt k0 nn)))))) (fun k2=>(lb (fun k3=>(lb (fun k4=>(lb (fun k5=>(lr 63 3 [1,1,1,1,1,1,0] 1 9 [(2,(.bool (decide ((z2d aL aK bE 2)<(z2d bF bG bH 2)))))] (sl Wi 66 [] ⟨[],[],[some [2]],[]⟩ ⟨[],[],[]⟩ [false,false,false,false,false,false,false,false,false,true,true,true,true,true,true,true,true,true,true,true,true,true,true,true,true,true,true,true] (tt k5 (tt k4 (tt k3 (tt k2 (tt k1 (tt k0 nn))))))))) (fun k5=>(lr 63 3 [1,1,1,1,1,1,0] 1 9 [(2,(.bool false))] (sl Wi 66 [] ⟨[],[],[some [2]],[]⟩ ⟨[],[],[]⟩ [false,false,false,false,false,false,false,false,false,true,true,true,true,true,true,true,true,true,true,false,false,false,false,false,false,false,false,false] (tt k5 (tt k4 (tt k3 (tt k2 (tt k1 (tt k0 nn))))))))))) (fun k4=>(lr 63 3 [1,1,1,1,1,1,0] 1 9 [(2,(.bool false))] (sl Wi 66 [] ⟨[],[],[some [2]],[]⟩ ⟨[],[],[]⟩ [false,false,false,false,false,false,false,false,false,true,false,false,false,false,false,false,false,false,false,false,false,false,false,false,false,false,false,false] (tt k4 (tt k3 (tt k2 (tt k1 (tt k0 nn)))))))))) (fun k3=>(lb (fun k4=>(lb (fun k5=>(lb (fun k6=>(lr 63 3 [1,1,1,1,1,1,0] 1 9 [(2,(.bool (decide ((z2d aL aK bE 2)<(z2d bF bG bH 2)))))] (sl Wi 74 [] ⟨[],[],[some [2]],[]⟩ ⟨[],[],[]⟩ [false,false,false,false,false,false,false,false,false,false,true,true,true,true,true,true,true,true,true,true,true,true,true,true,true,true,true,true,true] (tt k6 (tt k5 (tt k4 (tt k3 (tt k2 (tt k1 (tt k0 nn)))))))))) (fun k6=>(lr 63 3 [1,1,1,1,1,1,0] 1 9 [(2,(.bool false))] (sl Wi 74 [] ⟨[],[],[some [2]],[]⟩ ⟨[],[],[]⟩ [false,false,false,false,false,false,false,false,false,false,true,true,true,true,true,true,true,true,true,true,false,false,false,false,false,false,false,false,false] (tt k6 (tt k5 (tt k4 (tt k3 (tt k2 (tt k1 (tt k0 nn)))))))))))) (fun k5=>(lr 63 3 [1,1,1,1,1,1,0] 1 9 [(2,(.bool false))] (sl Wi 74 [] ⟨[],[],[some [2]],[]⟩ ⟨[],[],[]⟩ [false,false,false,false,false,false,false,false,false,false,true,false,false,false,false,false,false,false,false,false,false,false,false,false,false,false,false,false,false] (tt k5 (tt k4 (tt k3 (tt k2 (tt k1 (tt k0 nn))))))))))) (fun k4=>(lb (fun k5=>(lb (fun k6=>(lr 63 3 [1,1,1,1,1,1,0] 1 9 [(2,(.bool (decide ((z2d aL aK bE 1)<(z2d bF bG bH 1)))))] (sl Wi 75 [] ⟨[],[],[some [2]],[]⟩ ⟨[],[],[]⟩ [false,false,false,false,false,false,false,false,false,false,false,true,true,true,true,true,true,true,true,true,true,true,true,true,true,true,true,true,true] (tt k6 (tt k5 (tt k4 (tt k3 (tt k2 (tt k1 (tt k0 nn)))))))))) (fun k6=>(lr 63 3 [1,1,1,1,1,1,0] 1 9 [(2,(.bool false))] (sl Wi 75 [] ⟨[],[],[some [2]],[]⟩ ⟨[],[],[]⟩ [false,false,false,false,false,false,false,false,false,false,false,true,true,true,true,true,true,true,true,true,false,false,false,false,false,false,false,false,false] (tt k6 (tt k5 (tt k4 (tt k3 (tt k2 (tt k1 (tt k0 nn)))))))))))) (fun k5=>(lr 63 3 [1,1,1,1,1,1,0] 1 9 [(2,(.bool false))] (sl Wi 75 [] ⟨[],[],[some [2]],[]⟩ ⟨[],[],[]⟩ [false,false,false,false,false,false,false,false,false,false,false,false,false,false,false,false,false,false,false,false,false,false,false,false,false,false,false,false,false] (tt k5 (tt k4 (tt k3 (tt k2 (tt k1 (tt k0 nn))))))))))))))))))))
theorem x2p (aN:Int) (aL:Int) (aK:Int) (bE:Int) (bF:Int) (bG:Int) (bH:Int) (n:Nat) (vs:List AVal) (h:goOn (y1u aN aL aK bE bF bG bH) n (z3g aN aL aK bE bF bG bH)=.ret vs):z2v prog (Zx prog 30) (Zs prog 30 [(.agg [(.int .u8 aN),(.int .i64 aL),(.int .i64 aK),(.int .i64 bE),(.int .i64 bF),(.int .i64 bG),(.int .i64 bH)])] true []) vs:=by have:=Yd (y6o aN aL aK bE bF bG bH) n _ (y1v aN aL aK bE bF bG bH);rwa [h] at this
def y4m (r:R7):Bool:=decide (r.a≤5)&&(y5n r.b r.c r.d&&(y5n r.e r.f r.g&&
 (bif decide (r.a<2) then (r.b == r.e)&&(decide (r.c<r.f)&&decide (r.d<r.g)) else bif decide (r.a<4) then (r.c == r.f)&&(decide (r.b<r.e)&&decide (r.d<r.g)) else (r.d == r.g)&&(decide (r.b<r.e)&&decide (r.c<r.f)))))
def Vh (L:List R7):Int:=bif decide (3000<L.length) then 4 else bif L.all y4m then 0 else 8
def Yk (L:List R7):Bool:=L.all fun r=>decide (0≤r.a)&&decide (r.a<256)
theorem x0y (a b:Int):decide (a≥b)= !decide (a<b):=by
 by_cases h:a<b
 ·rw [Ah h];exact Ak (by omega)
 ·rw [Ak h];exact Ah (by omega)
theorem x6f {a:Int} (h0:0≤a) (h5:a≤5):wrap IntKind.u8 (Int.tdiv a 2)=(if a<2 then 0 else if a<4 then 1 else 2):=by
 have:a=0∨a=1∨a=2∨a=3∨a=4∨a=5:=by omega
 rcases this with rfl | rfl | rfl | rfl | rfl | rfl <;> rfl
theorem x5w (L:List R7) (hl:L.length≤3000) (ho:Yk L=true): ∀(k i:Nat),i+k=L.length→ ∃N,goOn (z0a L) N (.to (.h0 (i:Int)))=.ret [.int .i64 (bif (L.drop i).all y4m then 0 else 8)]
 | 0,i,h=>by refine ⟨1,?_⟩;rw [Zf,AH (by omega)];simp (disch:=omega) only [z0a,z3a,Ai];rfl
 | k +1,i,h=>by
  have hi:i<L.length:=by omega
  obtain ⟨N,hN⟩:=x5w L hl ho k (i+1) (by omega);have hb:0≤(rd L i).a ∧(rd L i).a <256:=by
   have:=Aw.1 ho (rd L i) (by rw [Uj hi];exact AE hi)
   simpa using this
  refine ⟨N+1,?_⟩;rw [Zf,Kw hi,A5];have e:z0a L (.h0 (i:Int))=bif y4m (rd L i) then .to (.h0 ((i+1:Nat):Int)) else .ret [.int .i64 8]:=by
   have hw:wrap .i64 ((i:Int)+1)=((i+1:Nat):Int):=Xi (by omega);simp (disch:=omega) only [z0a,z2a,z6q,hw,Vg,Bn,Ap];unfold y4m;by_cases h5:(rd L i).a ≤5
   ·rw [z6r (by omega),y3n h5,Ai,x6f hb.1 h5];cases y5n (rd L i).b (rd L i).c (rd L i).d <;> cases y5n (rd L i).e (rd L i).f (rd L i).g <;> try rfl
    by_cases h2:(rd L i).a <2
    ·rw [Av h2,z2a h2];simp only [x0y,bne];cases ((rd L i).b == (rd L i).e) <;> cases decide ((rd L i).c <(rd L i).f) <;> cases decide ((rd L i).d <(rd L i).g) <;> rfl
    ·rw [As h2,z3a h2];by_cases h4:(rd L i).a <4
     ·rw [Av h4,z2a h4];simp only [x0y,bne];cases ((rd L i).c == (rd L i).f) <;> cases decide ((rd L i).b <(rd L i).e) <;> cases decide ((rd L i).d <(rd L i).g) <;> rfl
     ·rw [As h4,z3a h4];simp only [x0y,bne];cases ((rd L i).d == (rd L i).g) <;> cases decide ((rd L i).b <(rd L i).e) <;> cases decide ((rd L i).c <(rd L i).f) <;> rfl
   ·rw [z5j (by omega),dle_f h5];rfl
  rw [e];rcases boolc (y4m (rd L i)) with q | q
  ·rw [q,Ap,A2];exact hN
  ·rw [q,Ai,Bool.false_and];exact Yn _ _ _
theorem x7g (L:List R7) (h:Yk L=true): ∃N,goOn (z0a L) N (z3o L)=.ret [.int .i64 (Vh L)]:=by
 unfold z3o Vh;by_cases g:3000<L.length
 ·refine ⟨0,?_⟩;rw [z5j (by omega),Ah g];rfl
 ·obtain ⟨N,hN⟩:=x5w L (by omega) h L.length 0 (AA _);refine ⟨N,?_⟩;rw [z6r (by omega),Ak g];exact hN
def fMck :List AVal→Option (AVal×Bool)
 | [a0]=>match asL R7 a0 with
  | some (L0,g0,n0)=>some (.int .i64 (Vh L0),isT R7 n0 g0&&(Yk L0))
  | _=>none
 | _=>none
theorem x8c {S:Specs} (hS:Zk prog S):Zk prog (S.with mckN fMck):=by
 refine y5o hS (by kernel_rfl) fun args v h=> ?_;unfold fMck at h;split at h
 ·rename_i a0;split at h
  ·rename_i L0 g0 n0 e0;simp only [Ab,Aa,Ad] at h;obtain ⟨rfl,ho0,hw⟩:=h;obtain ⟨N,hN⟩:=x7g L0 hw;exact ⟨_,_,(.cons (asL_le e0 ho0) .nil),rfl,x3w L0 N _ hN,3,rfl⟩
  ·cases h
 ·cases h
def fn3 (x y z:Int):Prop:=(-1000000≤x∧x≤1000000)∧(-1000000≤y∧y≤1000000)∧(-1000000≤z∧z≤1000000)
theorem z8r (x y z:Int):y5n x y z=true↔fn3 x y z:=by unfold y5n fn3;rw [Ad,Aq,Aq,x0v,x0v,x0w,x0w];omega
theorem x1h (x y z:Int):x6v x y z (-1000000)=y5n x y z:=by rw [AV,z8r];unfold x6v fn3;simp only [Ad,Aq];omega
def rvaV (a b c d e f g:Int):Bool:=y4m ⟨a,b,c,d,e,f,g⟩
def z0k (a b c d e f g:Int):Bool:=decide (0≤a)&&decide (a<256)
theorem x6l (a b c d e f g:Int) (h:z0k a b c d e f g=true): ∃N,goOn (y1u a b c d e f g) N (z3g a b c d e f g)=.ret [.bool (rvaV a b c d e f g)]:=⟨0,by
 have h0:0≤a:=Ax (Bj.1 h).1;unfold z3g rvaV y4m;rw [x1h,x1h];by_cases h5:a≤5
 ·rw [Ah h5,Ak (by omega: ¬a>5),Ai,A2];cases y5n b c d
  ·rfl
  cases y5n e f g
  ·rfl
  have:a=0∨a=1∨a=2∨a=3∨a=4∨a=5:=by omega
  have two: ∀p q r:Bool,(bif p then (bif q then (Vj.ret [AVal.bool r]:Vj rvaS) else .ret [.bool false]) else .ret [.bool false])=.ret [.bool (p&&(q&&r))]:=fun p q r=>by cases p <;> cases q <;> rfl
  rcases this with rfl | rfl | rfl | rfl | rfl | rfl <;> exact two _ _ _
 ·rw [Ah (by omega:a>5),Ak h5];rfl⟩
def fRva :List AVal→Option (AVal×Bool)
 | [.agg [.int .u8 a,.int .i64 b,.int .i64 c,.int .i64 d,.int .i64 e,.int .i64 f,.int .i64 g]]=>some (.bool (rvaV a b c d e f g),z0k a b c d e f g)
 | _=>none
theorem x7q {S:Specs} (hS:Zk prog S):Zk prog (S.with x5f fRva):=by
 refine y5o hS (by kernel_rfl) fun args v h=> ?_;unfold fRva at h;split at h
 ·rename_i a b c d e f g;simp only [Ab,Aa] at h;obtain ⟨rfl,hw⟩:=h;obtain ⟨N,hN⟩:=x6l a b c d e f g hw;exact ⟨_,_,(.cons (.refl _) .nil),rfl,x2p a b c d e f g N _ hN,3,rfl⟩
 ·cases h
def S2 :Specs:=(S1.with mckN fMck).with x5f fRva
theorem y8t :Zk prog S2:=x7q (x8c Wi)
inductive rc9S where
 | h0 (v3:Int)
def rc9C (l0:List R7):rc9S→Cfg
 | .h0 v3=>⟨⟨19,0,true⟩,none,(Yh prog 12 [1,1,0,1,0,0] 0),none,(Zx prog 9),⟨Vq [(0,(.dat l0.length (Zz l0))),(3,(ii v3))],Qg [] 0,0,[],true⟩,[],.leaf⟩
def rc9N0 :List (Option (List Nat)):=[some [0,3]]
def rc9M0 :List (Option (List Nat)):=[]
def Qr (l0:List R7):rc9S→Vj rc9S
 | .h0 v3=>(bif (decide (v3<(l0.length:Int))) then (bif ((decide (0≤v3∧v3<(l0.length:Int)))&&true) then (bif (z0k (rd l0 v3.toNat).a (rd l0 v3.toNat).b (rd l0 v3.toNat).c (rd l0 v3.toNat).d (rd l0 v3.toNat).e (rd l0 v3.toNat).f (rd l0 v3.toNat).g) then (bif (!(rvaV (rd l0 v3.toNat).a (rd l0 v3.toNat).b (rd l0 v3.toNat).c (rd l0 v3.toNat).d (rd l0 v3.toNat).e (rd l0 v3.toNat).f (rd l0 v3.toNat).g)) then (.ret [(.int .i64 8)]) else (.to (.h0 (wrap .i64 (v3+1))))) else .stuck) else .stuck) else (.ret [(.int .i64 0)]))
def z3n (l0:List R7):Vj rc9S:=(bif (decide ((l0.length:Int)>3000)) then (.ret [(.int .i64 4)]) else (.to (.h0 0)))
theorem y6z (l0:List R7): ∀s,Vr prog (Zx prog 12) (rc9C l0) (rc9C l0 s) (Qr l0 s)
 | .h0 v3=>(lb (fun k0=>(lo fun aI=>(lo fun aY=>(lb (fun k1=>(lr 19 12 [1,1,0,1,0,0,1,0,0,1,0,0] 1 9 [(2,(ii 8))] (sl y8t 26 [] ⟨[],[],[some [2]],[]⟩ ⟨[],[],[]⟩ (bl 2 3) (tt k1 (ww aY (ww aI (tt k0 nn))))))) (fun k1=>(sl y8t 30 [] ⟨[],[],rc9N0,rc9M0⟩ ⟨[],[],[]⟩ (bl 2 1) (tt k1 (ww aY (ww aI (tt k0 nn)))))))))) (fun k0=>(lr 19 3 [1,1,1,1,1,1,0] 1 9 [(2,(ii 0))] (sl y8t 14 [] ⟨[],[],[some [2]],[]⟩ ⟨[],[],[]⟩ [false] (tt k0 nn)))))
theorem y2l (l0:List R7):Vr prog (Zx prog 12) (rc9C l0) (Zs prog 12 [(.dat l0.length (Zz l0))] true []) (z3n l0):=(lb (fun k0=>(lr 19 12 [1,0,1,0,0] 1 9 [(2,(ii 4))] (sl y8t 16 [] ⟨[],[],[some [2]],[]⟩ ⟨[],[],[]⟩ [true] (tt k0 nn)))) (fun k0=>(sl y8t 20 [] ⟨[],[],rc9N0,rc9M0⟩ ⟨[],[],[]⟩ [false] (tt k0 nn))))
theorem x3g (l0:List R7) (n:Nat) (vs:List AVal) (h:goOn (Qr l0) n (z3n l0)=.ret vs):z2v prog (Zx prog 12) (Zs prog 12 [(.dat l0.length (Zz l0))] true []) vs:=by have:=Yd (y6z l0) n _ (y2l l0);rwa [h] at this
def x3h (L:List R7):Int:=Vh L
def Jg (L:List R7):Bool:=Yk L
theorem x5q {L:List R7} (hl:L.length≤3000) (hw:Yk L=true): ∀(k i:Nat),i+k=L.length→ ∃N,goOn (Qr L) N (.to (.h0 (i:Int)))=.ret [.int .i64 (bif (L.drop i).all y4m then 0 else 8)]
 | 0,i,h=>by refine ⟨1,?_⟩;rw [Zf,AH (by omega)];simp (disch:=omega) only [Qr,z3a,Ai,Yn,List.all_nil,Ap]
 | k+1,i,h=>by
  have hi:i<L.length:=by omega
  obtain ⟨N,hN⟩:=x5q hl hw k (i+1) (by omega);refine ⟨N+1,?_⟩;have ho:=Aw.1 hw (rd L i) (by rw [Uj hi];exact AE hi);rw [Zf,Kw hi,A5];have e:Qr L (.h0 (i:Int))=bif !(y4m (rd L i)) then .ret [.int .i64 8] else .to (.h0 ((i+1:Nat):Int)):=by simp (disch:=omega) only [Qr,z2a,z6q,Xi,x1p,Vg,Bn,Ap,show z0k (rd L i).a (rd L i).b (rd L i).c (rd L i).d (rd L i).e (rd L i).f (rd L i).g =true from ho,show rvaV (rd L i).a (rd L i).b (rd L i).c (rd L i).d (rd L i).e (rd L i).f (rd L i).g =y4m (rd L i) from rfl]
  rw [e];cases y4m (rd L i) with
  | true=>rw [Bf,Ai,hN,A2]
  | false=>rw [Bool.not_false,Ap,Yn,Bool.false_and,Ai]
theorem x6z (L:List R7) (h:Jg L=true): ∃N,goOn (Qr L) N (z3n L)=.ret [.int .i64 (x3h L)]:=by
 unfold z3n x3h Vh;by_cases g:3000<L.length
 ·refine ⟨0,?_⟩;rw [Ah g,Ah (show (L.length:Int)>3000 by omega),Ap,Ap,Yn]
 ·rw [Ak g,Ak (show ¬(L.length:Int)>3000 by omega),Ai,Ai];exact x5q (by omega) h L.length 0 (AA _)
def fRc9 :List AVal→Option (AVal×Bool)
 | [a0]=>match asL R7 a0 with
  | some (L0,g0,n0)=>some (.int .i64 (x3h L0),isT R7 n0 g0&&(Jg L0))
  | _=>none
 | _=>none
theorem x7y {S:Specs} (hS:Zk prog S):Zk prog (S.with rckN fRc9):=by
 refine y5o hS (by kernel_rfl) fun args v h=> ?_;unfold fRc9 at h;split at h
 ·rename_i a0;split at h
  ·rename_i L0 g0 n0 e0;simp only [Ab,Aa,Ad] at h;obtain ⟨rfl,ho0,hw⟩:=h;obtain ⟨N,hN⟩:=x6z L0 hw;exact ⟨_,_,(.cons (asL_le e0 ho0) .nil),rfl,x3g L0 N _ hN,3,rfl⟩
  ·cases h
 ·cases h
def S3 :Specs:=S2.with rckN fRc9
theorem Wx :Zk prog S3:=x7y y8t
inductive rmtS where
 | h0 (v4:List UInt8) (v5:Int)
def rmtC (l0:List R7):rmtS→Cfg
 | .h0 v4 v5=>⟨⟨44,0,true⟩,none,(Yh prog 5 [1,1,1,0,1,0,0] 0),none,(Zx prog 4),⟨Vq [(0,(.dat l0.length (Zz l0))),(4,(.str v4)),(5,(ii v5))],Qg [] 0,0,[],true⟩,[],.leaf⟩
def rmtN0 :List (Option (List Nat)):=[some [0,4,5]]
def rmtM0 :List (Option (List Nat)):=[]
def Kd (l0:List R7):rmtS→Vj rmtS
 | .h0 v4 v5=>(bif (decide (v5<(l0.length:Int))) then (bif (sOk v4 ([113,117,97,100,32]:List UInt8)) then (bif (Xb (wrap .i64 (rd l0 v5.toNat).a)) then (bif (sOk (v4++([113,117,97,100,32]:List UInt8)) (Wj (wrap .i64 (rd l0 v5.toNat).a))) then (bif ((decide (0≤v5∧v5<(l0.length:Int)))&&true) then (bif (Xb (rd l0 v5.toNat).b) then (bif (sOk ([32]:List UInt8) (Wj (rd l0 v5.toNat).b)) then (bif (sOk (([32]:List UInt8)++(Wj (rd l0 v5.toNat).b)) ([32]:List UInt8)) then (bif (Xb (rd l0 v5.toNat).c) then (bif (sOk ((([32]:List UInt8)++(Wj (rd l0 v5.toNat).b))++([32]:List UInt8)) (Wj (rd l0 v5.toNat).c)) then (bif (sOk (((([32]:List UInt8)++(Wj (rd l0 v5.toNat).b))++([32]:List UInt8))++(Wj (rd l0 v5.toNat).c)) ([32]:List UInt8)) then (bif (Xb (rd l0 v5.toNat).d) then (bif (sOk ((((([32]:List UInt8)++(Wj (rd l0 v5.toNat).b))++([32]:List UInt8))++(Wj (rd l0 v5.toNat).c))++([32]:List UInt8)) (Wj (rd l0 v5.toNat).d)) then (bif (sOk (((((([32]:List UInt8)++(Wj (rd l0 v5.toNat).b))++([32]:List UInt8))++(Wj (rd l0 v5.toNat).c))++([32]:List UInt8))++(Wj (rd l0 v5.toNat).d)) ([32]:List UInt8)) then (bif (Xb (rd l0 v5.toNat).e) then (bif (sOk ((((((([32]:List UInt8)++(Wj (rd l0 v5.toNat).b))++([32]:List UInt8))++(Wj (rd l0 v5.toNat).c))++([32]:List UInt8))++(Wj (rd l0 v5.toNat).d))++([32]:List UInt8)) (Wj (rd l0 v5.toNat).e)) then (bif (sOk (((((((([32]:List UInt8)++(Wj (rd l0 v5.toNat).b))++([32]:List UInt8))++(Wj (rd l0 v5.toNat).c))++([32]:List UInt8))++(Wj (rd l0 v5.toNat).d))++([32]:List UInt8))++(Wj (rd l0 v5.toNat).e)) ([32]:List UInt8)) then (bif (Xb (rd l0 v5.toNat).f) then (bif (sOk ((((((((([32]:List UInt8)++(Wj (rd l0 v5.toNat).b))++([32]:List UInt8))++(Wj (rd l0 v5.toNat).c))++([32]:List UInt8))++(Wj (rd l0 v5.toNat).d))++([32]:List UInt8))++(Wj (rd l0 v5.toNat).e))++([32]:List UInt8)) (Wj (rd l0 v5.toNat).f)) then (bif (sOk (((((((((([32]:List UInt8)++(Wj (rd l0 v5.toNat).b))++([32]:List UInt8))++(Wj (rd l0 v5.toNat).c))++([32]:List UInt8))++(Wj (rd l0 v5.toNat).d))++([32]:List UInt8))++(Wj (rd l0 v5.toNat).e))++([32]:List UInt8))++(Wj (rd l0 v5.toNat).f)) ([32]:List UInt8)) then (bif (Xb (rd l0 v5.toNat).g) then (bif (sOk ((((((((((([32]:List UInt8)++(Wj (rd l0 v5.toNat).b))++([32]:List UInt8))++(Wj (rd l0 v5.toNat).c))++([32]:List UInt8))++(Wj (rd l0 v5.toNat).d))++([32]:List UInt8))++(Wj (rd l0 v5.toNat).e))++([32]:List UInt8))++(Wj (rd l0 v5.toNat).f))++([32]:List UInt8)) (Wj (rd l0 v5.toNat).g)) then (bif (sOk (((((((((((([32]:List UInt8)++(Wj (rd l0 v5.toNat).b))++([32]:List UInt8))++(Wj (rd l0 v5.toNat).c))++([32]:List UInt8))++(Wj (rd l0 v5.toNat).d))++([32]:List UInt8))++(Wj (rd l0 v5.toNat).e))++([32]:List UInt8))++(Wj (rd l0 v5.toNat).f))++([32]:List UInt8))++(Wj (rd l0 v5.toNat).g)) ([10]:List UInt8)) then (bif (sOk ((v4++([113,117,97,100,32]:List UInt8))++(Wj (wrap .i64 (rd l0 v5.toNat).a))) ((((((((((((([32]:List UInt8)++(Wj (rd l0 v5.toNat).b))++([32]:List UInt8))++(Wj (rd l0 v5.toNat).c))++([32]:List UInt8))++(Wj (rd l0 v5.toNat).d))++([32]:List UInt8))++(Wj (rd l0 v5.toNat).e))++([32]:List UInt8))++(Wj (rd l0 v5.toNat).f))++([32]:List UInt8))++(Wj (rd l0 v5.toNat).g))++([10]:List UInt8))) then (.to (.h0 (((v4++([113,117,97,100,32]:List UInt8))++(Wj (wrap .i64 (rd l0 v5.toNat).a)))++((((((((((((([32]:List UInt8)++(Wj (rd l0 v5.toNat).b))++([32]:List UInt8))++(Wj (rd l0 v5.toNat).c))++([32]:List UInt8))++(Wj (rd l0 v5.toNat).d))++([32]:List UInt8))++(Wj (rd l0 v5.toNat).e))++([32]:List UInt8))++(Wj (rd l0 v5.toNat).f))++([32]:List UInt8))++(Wj (rd l0 v5.toNat).g))++([10]:List UInt8))) (wrap .i64 (v5+1)))) else .stuck) else .stuck) else .stuck) else .stuck) else .stuck) else .stuck) else .stuck) else .stuck) else .stuck) else .stuck) else .stuck) else .stuck) else .stuck) else .stuck) else .stuck) else .stuck) else .stuck) else .stuck) else .stuck) else .stuck) else .stuck) else .stuck) else .stuck) else (bif (decide ((v4.length:Int)>60000)) then (.ret [(.str []),(.int .i64 4)]) else (.ret [(.str v4),(.int .i64 0)])))
def z0n (l0:List R7):Vj rmtS:=(bif (Jg (cvT l0)) then (bif ((x3h (cvT l0)) != 0) then (.ret [(.str []),(.int .i64 (x3h (cvT l0)))]) else (.to (.h0 ([]:List UInt8) 0))) else .stuck)
theorem y6t (l0:List R7): ∀s,Vr prog (Zx prog 5) (rmtC l0) (rmtC l0 s) (Kd l0 s)
 | .h0 v4 v5=>(lb (fun k0=>(lo fun o0=>(lo fun o1=>(lo fun o2=>(lo fun o3=>(lo fun o4=>(lo fun o5=>(lo fun o6=>(lo fun o7=>(lo fun o8=>(lo fun o9=>(lo fun o10=>(lo fun o11=>(lo fun o12=>(lo fun o13=>(lo fun o14=>(lo fun o15=>(lo fun o16=>(lo fun o17=>(lo fun o18=>(lo fun o19=>(lo fun o20=>(lo fun o21=>(lo fun o22=>(sl Wx 20 [] ⟨[],[],rmtN0,rmtM0⟩ ⟨[],[],[]⟩ (trs 7 [false]) (ww o22 (ww o21 (ww o20 (ww o19 (ww o18 (ww o17 (ww o16 (ww o15 (ww o14 (ww o13 (ww o12 (ww o11 (ww o10 (ww o9 (ww o8 (ww o7 (ww o6 (ww o5 (ww o4 (ww o3 (ww o3 (ww o2 (ww o1 (ww o3 (ww o0 (tt k0 nn))))))))))))))))))))))))))))))))))))))))))))))))))) (fun k0=>(lb (fun k1=>(lr 44 5 [1,1,1,1,0,1,0,0] 1 4 [(2,(.str [])),(3,(ii 4))] (sl Wx 23 [] ⟨[],[],[some [2,3]],[]⟩ ⟨[],[],[]⟩ (bl 2 2) (tt k1 (tt k0 nn))))) (fun k1=>(lr 44 3 [1,1,1,1,1,1,0] 1 4 [(2,(.str v4)),(3,(ii 0))] (sl Wx 25 [] ⟨[],[],[some [2,3]],[]⟩ ⟨[],[],[]⟩ (bl 2 0) (tt k1 (tt k0 nn))))))))
theorem y2e (l0:List R7):Vr prog (Zx prog 5) (rmtC l0) (Zs prog 5 [(.dat l0.length (Zz l0))] true []) (z0n l0):=(lo fun bK=>(lb (fun k0=>(lr 44 5 [1,0,1,0,0] 1 4 [(2,(.str [])),(3,(ii (x3h (cvT l0))))] (sl Wx 20 [] ⟨[],[],[some [2,3]],[]⟩ ⟨[],[],[]⟩ [true] (pp (pp (xr l0) (xw bK)) (tt k0 (pp (pp (xr l0) (xw bK)) nn)))))) (fun k0=>(sl Wx 25 [] ⟨[],[],rmtN0,rmtM0⟩ ⟨[],[],[]⟩ [false] (tt k0 (pp (pp (xr l0) (xw bK)) nn))))))
theorem x3a (l0:List R7) (n:Nat) (vs:List AVal) (h:goOn (Kd l0) n (z0n l0)=.ret vs):z2v prog (Zx prog 5) (Zs prog 5 [(.dat l0.length (Zz l0))] true []) vs:=by have:=Yd (y6t l0) n _ (y2e l0);rwa [h] at this
inductive mtxS where
 | h0 (v15:Int) (aB:List By)
 | h1 (aF:Int) (aW:Nat) (bJ:List By) (aC:Int) (aO:Int) (aP:Int) (aQ:Int) (aR:Int) (aS:Int) (aT:Int)
 | h2 (aF:Int) (aB:List By) (aC:Int) (aO:Int) (aP:Int) (aQ:Int) (aR:Int) (aS:Int) (aT:Int)
 | h3 (aF:Int) (aB:List By) (aC:Int) (aO:Int) (aP:Int) (aQ:Int) (aR:Int) (aS:Int) (aT:Int)
 | h4 (aF:Int) (aB:List By) (aC:Int) (aO:Int) (aP:Int) (aQ:Int) (aR:Int) (aS:Int) (aT:Int)
 | h5 (aF:Int) (aB:List By) (aC:Int) (aO:Int) (aP:Int) (aQ:Int) (aR:Int) (aS:Int) (aT:Int)
 | h6 (aF:Int) (aB:List By) (aC:Int) (aO:Int) (aP:Int) (aQ:Int) (aR:Int) (aS:Int) (aT:Int)
 | h7 (aF:Int) (aB:List By) (aC:Int) (aO:Int) (aP:Int) (aQ:Int) (aR:Int) (aS:Int) (aT:Int)
 | h8 (aF:Int) (aB:List By) (aC:Int) (aO:Int) (aP:Int) (aQ:Int) (aR:Int) (aS:Int) (aT:Int)
def mtxC (l0:List R7):mtxS→Cfg
 | .h0 v15 aB=>⟨⟨46,0,true⟩,none,(Yh prog 4 [1,1,1,0,1,0,0] 0),none,(Zx prog 4),⟨Vq [(5,(.ptr 0 0)),(13,(.dat l0.length (Zz l0))),(14,(ii (l0.length:Int))),(15,(ii v15))],Qg [⟨[(.obj .bld),(.sla 1 1 0 aB.length (.un 1))],38,none⟩,⟨rows aB.length (Zz aB),5,some ⟨1,aB.length,(Zz aB)⟩⟩] 0,2,[],true⟩,[],.leaf⟩
 | .h1 aF aW bJ aC aO aP aQ aR aS aT=>⟨⟨26,0,true⟩,none,(Yh prog 10 [1,0,1,0,0] 0),none,[],⟨Vq [(0,(.ptr 0 0)),(11,(.sl 2 0 7 (.un 1))),(12,(ii 7)),(13,(ii 0))],Qg [⟨[(.obj .bld),(.sla 1 1 0 aW (.un 1))],38,none⟩,⟨rows bJ.length (Zz bJ),5,some ⟨1,bJ.length,(Zz bJ)⟩⟩,⟨[(ii aC),(ii aO),(ii aP),(ii aQ),(ii aR),(ii aS),(ii aT)],3,none⟩] 0,3,[],true⟩,[⟨⟨46,0,true⟩,(z3m prog 4 [1,1,1,0,1,0,0,1,1,0,0,1] 22),(Yh prog 4 [1,1,1,0,1,0,0,1,1,0,0,1] 1),none,(Zx prog 4),Vq [(5,(.ptr 0 0)),(13,(.dat l0.length (Zz l0))),(14,(ii (l0.length:Int))),(15,(ii aF)),(40,(.sl 2 0 7 (.un 1)))]⟩],.leaf⟩
 | .h2 aF aB aC aO aP aQ aR aS aT=>⟨⟨26,0,true⟩,none,(Yh prog 10 [1,0,1,0,0] 0),none,[],⟨Vq [(0,(.ptr 0 0)),(11,(.sl 2 0 7 (.un 1))),(12,(ii 7)),(13,(ii 1))],Qg [⟨[(.obj .bld),(.sla 1 1 0 aB.length (.un 1))],38,none⟩,⟨rows aB.length (Zz aB),5,some ⟨1,aB.length,(Zz aB)⟩⟩,⟨[(ii aC),(ii aO),(ii aP),(ii aQ),(ii aR),(ii aS),(ii aT)],3,none⟩] 0,3,[],true⟩,[⟨⟨46,0,true⟩,(z3m prog 4 [1,1,1,0,1,0,0,1,1,0,0,1] 22),(Yh prog 4 [1,1,1,0,1,0,0,1,1,0,0,1] 1),none,(Zx prog 4),Vq [(5,(.ptr 0 0)),(13,(.dat l0.length (Zz l0))),(14,(ii (l0.length:Int))),(15,(ii aF)),(40,(.sl 2 0 7 (.un 1)))]⟩],.leaf⟩
 | .h3 aF aB aC aO aP aQ aR aS aT=>⟨⟨26,0,true⟩,none,(Yh prog 10 [1,0,1,0,0] 0),none,[],⟨Vq [(0,(.ptr 0 0)),(11,(.sl 2 0 7 (.un 1))),(12,(ii 7)),(13,(ii 2))],Qg [⟨[(.obj .bld),(.sla 1 1 0 aB.length (.un 1))],38,none⟩,⟨rows aB.length (Zz aB),5,some ⟨1,aB.length,(Zz aB)⟩⟩,⟨[(ii aC),(ii aO),(ii aP),(ii aQ),(ii aR),(ii aS),(ii aT)],3,none⟩] 0,3,[],true⟩,[⟨⟨46,0,true⟩,(z3m prog 4 [1,1,1,0,1,0,0,1,1,0,0,1] 22),(Yh prog 4 [1,1,1,0,1,0,0,1,1,0,0,1] 1),none,(Zx prog 4),Vq [(5,(.ptr 0 0)),(13,(.dat l0.length (Zz l0))),(14,(ii (l0.length:Int))),(15,(ii aF)),(40,(.sl 2 0 7 (.un 1)))]⟩],.leaf⟩
 | .h4 aF aB aC aO aP aQ aR aS aT=>⟨⟨26,0,true⟩,none,(Yh prog 10 [1,0,1,0,0] 0),none,[],⟨Vq [(0,(.ptr 0 0)),(11,(.sl 2 0 7 (.un 1))),(12,(ii 7)),(13,(ii 3))],Qg [⟨[(.obj .bld),(.sla 1 1 0 aB.length (.un 1))],38,none⟩,⟨rows aB.length (Zz aB),5,some ⟨1,aB.length,(Zz aB)⟩⟩,⟨[(ii aC),(ii aO),(ii aP),(ii aQ),(ii aR),(ii aS),(ii aT)],3,none⟩] 0,3,[],true⟩,[⟨⟨46,0,true⟩,(z3m prog 4 [1,1,1,0,1,0,0,1,1,0,0,1] 22),(Yh prog 4 [1,1,1,0,1,0,0,1,1,0,0,1] 1),none,(Zx prog 4),Vq [(5,(.ptr 0 0)),(13,(.dat l0.length (Zz l0))),(14,(ii (l0.length:Int))),(15,(ii aF)),(40,(.sl 2 0 7 (.un 1)))]⟩],.leaf⟩
 | .h5 aF aB aC aO aP aQ aR aS aT=>⟨⟨26,0,true⟩,none,(Yh prog 10 [1,0,1,0,0] 0),none,[],⟨Vq [(0,(.ptr 0 0)),(11,(.sl 2 0 7 (.un 1))),(12,(ii 7)),(13,(ii 4))],Qg [⟨[(.obj .bld),(.sla 1 1 0 aB.length (.un 1))],38,none⟩,⟨rows aB.length (Zz aB),5,some ⟨1,aB.length,(Zz aB)⟩⟩,⟨[(ii aC),(ii aO),(ii aP),(ii aQ),(ii aR),(ii aS),(ii aT)],3,none⟩] 0,3,[],true⟩,[⟨⟨46,0,true⟩,(z3m prog 4 [1,1,1,0,1,0,0,1,1,0,0,1] 22),(Yh prog 4 [1,1,1,0,1,0,0,1,1,0,0,1] 1),none,(Zx prog 4),Vq [(5,(.ptr 0 0)),(13,(.dat l0.length (Zz l0))),(14,(ii (l0.length:Int))),(15,(ii aF)),(40,(.sl 2 0 7 (.un 1)))]⟩],.leaf⟩
 | .h6 aF aB aC aO aP aQ aR aS aT=>⟨⟨26,0,true⟩,none,(Yh prog 10 [1,0,1,0,0] 0),none,[],⟨Vq [(0,(.ptr 0 0)),(11,(.sl 2 0 7 (.un 1))),(12,(ii 7)),(13,(ii 5))],Qg [⟨[(.obj .bld),(.sla 1 1 0 aB.length (.un 1))],38,none⟩,⟨rows aB.length (Zz aB),5,some ⟨1,aB.length,(Zz aB)⟩⟩,⟨[(ii aC),(ii aO),(ii aP),(ii aQ),(ii aR),(ii aS),(ii aT)],3,none⟩] 0,3,[],true⟩,[⟨⟨46,0,true⟩,(z3m prog 4 [1,1,1,0,1,0,0,1,1,0,0,1] 22),(Yh prog 4 [1,1,1,0,1,0,0,1,1,0,0,1] 1),none,(Zx prog 4),Vq [(5,(.ptr 0 0)),(13,(.dat l0.length (Zz l0))),(14,(ii (l0.length:Int))),(15,(ii aF)),(40,(.sl 2 0 7 (.un 1)))]⟩],.leaf⟩
 | .h7 aF aB aC aO aP aQ aR aS aT=>⟨⟨26,0,true⟩,none,(Yh prog 10 [1,0,1,0,0] 0),none,[],⟨Vq [(0,(.ptr 0 0)),(11,(.sl 2 0 7 (.un 1))),(12,(ii 7)),(13,(ii 6))],Qg [⟨[(.obj .bld),(.sla 1 1 0 aB.length (.un 1))],38,none⟩,⟨rows aB.length (Zz aB),5,some ⟨1,aB.length,(Zz aB)⟩⟩,⟨[(ii aC),(ii aO),(ii aP),(ii aQ),(ii aR),(ii aS),(ii aT)],3,none⟩] 0,3,[],true⟩,[⟨⟨46,0,true⟩,(z3m prog 4 [1,1,1,0,1,0,0,1,1,0,0,1] 22),(Yh prog 4 [1,1,1,0,1,0,0,1,1,0,0,1] 1),none,(Zx prog 4),Vq [(5,(.ptr 0 0)),(13,(.dat l0.length (Zz l0))),(14,(ii (l0.length:Int))),(15,(ii aF)),(40,(.sl 2 0 7 (.un 1)))]⟩],.leaf⟩
 | .h8 aF aB aC aO aP aQ aR aS aT=>⟨⟨26,0,true⟩,none,(Yh prog 10 [1,0,1,0,0] 0),none,[],⟨Vq [(0,(.ptr 0 0)),(11,(.sl 2 0 7 (.un 1))),(12,(ii 7)),(13,(ii 7))],Qg [⟨[(.obj .bld),(.sla 1 1 0 aB.length (.un 1))],38,none⟩,⟨rows aB.length (Zz aB),5,some ⟨1,aB.length,(Zz aB)⟩⟩,⟨[(ii aC),(ii aO),(ii aP),(ii aQ),(ii aR),(ii aS),(ii aT)],3,none⟩] 0,3,[],true⟩,[⟨⟨46,0,true⟩,(z3m prog 4 [1,1,1,0,1,0,0,1,1,0,0,1] 22),(Yh prog 4 [1,1,1,0,1,0,0,1,1,0,0,1] 1),none,(Zx prog 4),Vq [(5,(.ptr 0 0)),(13,(.dat l0.length (Zz l0))),(14,(ii (l0.length:Int))),(15,(ii aF)),(40,(.sl 2 0 7 (.un 1)))]⟩],.leaf⟩
def mtxN0 :List (Option (List Nat)):=[some [5,13,14,15]]
def mtxM0 :List (Option (List Nat)):=[]
def mtxN1 :List (Option (List Nat)):=[some [0,11,12,13],some [5,13,14,15,40]]
def mtxM1 :List (Option (List Nat)):=[]
def mtxN2 :List (Option (List Nat)):=[some [0,11,12,13],some [5,13,14,15,40]]
def mtxM2 :List (Option (List Nat)):=[]
def mtxN3 :List (Option (List Nat)):=[some [0,11,12,13],some [5,13,14,15,40]]
def mtxM3 :List (Option (List Nat)):=[]
def mtxN4 :List (Option (List Nat)):=[some [0,11,12,13],some [5,13,14,15,40]]
def mtxM4 :List (Option (List Nat)):=[]
def mtxN5 :List (Option (List Nat)):=[some [0,11,12,13],some [5,13,14,15,40]]
def mtxM5 :List (Option (List Nat)):=[]
def mtxN6 :List (Option (List Nat)):=[some [0,11,12,13],some [5,13,14,15,40]]
def mtxM6 :List (Option (List Nat)):=[]
def mtxN7 :List (Option (List Nat)):=[some [0,11,12,13],some [5,13,14,15,40]]
def mtxM7 :List (Option (List Nat)):=[]
def mtxN8 :List (Option (List Nat)):=[some [0,11,12,13],some [5,13,14,15,40]]
def mtxM8 :List (Option (List Nat)):=[]
def Yr (l0:List R7):mtxS→Vj mtxS
 | .h0 v15 aB=>(bif (decide (v15<(l0.length:Int))) then (bif ((decide (0≤v15∧v15<(l0.length:Int)))&&true) then (bif (decide ((aB.length+4+1)*(1+1)≤Vt)) then (bif (Nat.beq 1 1&&(Nat.beq 1 1&&decide (0+aB.length≤aB.length))) then (.to (.h1 v15 (aB.length+4) (aB++(byL ([113,117,97,100]:List UInt8))) (wrap .i64 (rd l0 v15.toNat).a) (rd l0 v15.toNat).b (rd l0 v15.toNat).c (rd l0 v15.toNat).d (rd l0 v15.toNat).e (rd l0 v15.toNat).f (rd l0 v15.toNat).g)) else .stuck) else .stuck) else .stuck) else (bif (decide ((aB.length:Int)>60000)) then (.ret [(.str []),(.int .i64 4)]) else (bif (decide (0+aB.length≤aB.length)) then (bif (sLe (z2w (aB.length) (fun k=>(Zz aB) (0+k)))) then (.ret [(.str (z2w (aB.length) (fun k=>(Zz aB) (0+k)))),(.int .i64 0)]) else .stuck) else .stuck)))
 | .h1 aF aW bJ aC aO aP aQ aR aS aT=>(bif (Nat.beq 1 1&&((decide (0+aW=bJ.length))&&decide ((aW+1+1)*(1+1)≤Vt))) then (bif (Yb aC) then (bif (decide (((aW+1)+(Ym aC).length +1)*(1+1)≤Vt)) then (bif (Nat.beq 1 1&&(Nat.beq 1 1&&decide (0+(aW+1)≤(aW+1)))) then (.to (.h2 aF (((Yg bJ 0 aW)++[(yB 32)])++(byL (Ym aC))) aC aO aP aQ aR aS aT)) else .stuck) else .stuck) else .stuck) else .stuck)
 | .h2 aF aB aC aO aP aQ aR aS aT=>(bif (Nat.beq 1 1&&((decide (0+aB.length=aB.length))&&decide ((aB.length+1+1)*(1+1)≤Vt))) then (bif (Yb aO) then (bif (decide (((aB.length+1)+(Ym aO).length +1)*(1+1)≤Vt)) then (bif (Nat.beq 1 1&&(Nat.beq 1 1&&decide (0+(aB.length+1)≤(aB.length+1)))) then (.to (.h3 aF ((aB++[(yB 32)])++(byL (Ym aO))) aC aO aP aQ aR aS aT)) else .stuck) else .stuck) else .stuck) else .stuck)
 | .h3 aF aB aC aO aP aQ aR aS aT=>(bif (Nat.beq 1 1&&((decide (0+aB.length=aB.length))&&decide ((aB.length+1+1)*(1+1)≤Vt))) then (bif (Yb aP) then (bif (decide (((aB.length+1)+(Ym aP).length +1)*(1+1)≤Vt)) then (bif (Nat.beq 1 1&&(Nat.beq 1 1&&decide (0+(aB.length+1)≤(aB.length+1)))) then (.to (.h4 aF ((aB++[(yB 32)])++(byL (Ym aP))) aC aO aP aQ aR aS aT)) else .stuck) else .stuck) else .stuck) else .stuck)
 | .h4 aF aB aC aO aP aQ aR aS aT=>(bif (Nat.beq 1 1&&((decide (0+aB.length=aB.length))&&decide ((aB.length+1+1)*(1+1)≤Vt))) then (bif (Yb aQ) then (bif (decide (((aB.length+1)+(Ym aQ).length +1)*(1+1)≤Vt)) then (bif (Nat.beq 1 1&&(Nat.beq 1 1&&decide (0+(aB.length+1)≤(aB.length+1)))) then (.to (.h5 aF ((aB++[(yB 32)])++(byL (Ym aQ))) aC aO aP aQ aR aS aT)) else .stuck) else .stuck) else .stuck) else .stuck)
 | .h5 aF aB aC aO aP aQ aR aS aT=>(bif (Nat.beq 1 1&&((decide (0+aB.length=aB.length))&&decide ((aB.length+1+1)*(1+1)≤Vt))) then (bif (Yb aR) then (bif (decide (((aB.length+1)+(Ym aR).length +1)*(1+1)≤Vt)) then (bif (Nat.beq 1 1&&(Nat.beq 1 1&&decide (0+(aB.length+1)≤(aB.length+1)))) then (.to (.h6 aF ((aB++[(yB 32)])++(byL (Ym aR))) aC aO aP aQ aR aS aT)) else .stuck) else .stuck) else .stuck) else .stuck)
 | .h6 aF aB aC aO aP aQ aR aS aT=>(bif (Nat.beq 1 1&&((decide (0+aB.length=aB.length))&&decide ((aB.length+1+1)*(1+1)≤Vt))) then (bif (Yb aS) then (bif (decide (((aB.length+1)+(Ym aS).length +1)*(1+1)≤Vt)) then (bif (Nat.beq 1 1&&(Nat.beq 1 1&&decide (0+(aB.length+1)≤(aB.length+1)))) then (.to (.h7 aF ((aB++[(yB 32)])++(byL (Ym aS))) aC aO aP aQ aR aS aT)) else .stuck) else .stuck) else .stuck) else .stuck)
 | .h7 aF aB aC aO aP aQ aR aS aT=>(bif (Nat.beq 1 1&&((decide (0+aB.length=aB.length))&&decide ((aB.length+1+1)*(1+1)≤Vt))) then (bif (Yb aT) then (bif (decide (((aB.length+1)+(Ym aT).length +1)*(1+1)≤Vt)) then (bif (Nat.beq 1 1&&(Nat.beq 1 1&&decide (0+(aB.length+1)≤(aB.length+1)))) then (.to (.h8 aF ((aB++[(yB 32)])++(byL (Ym aT))) aC aO aP aQ aR aS aT)) else .stuck) else .stuck) else .stuck) else .stuck)
 | .h8 aF aB aC aO aP aQ aR aS aT=>(bif (Nat.beq 1 1&&((decide (0+aB.length=aB.length))&&decide ((aB.length+1+1)*(1+1)≤Vt))) then (.to (.h0 (wrap .i64 (aF+1)) (aB++[(yB 10)]))) else .stuck)
def z0x (l0:List R7):Vj mtxS:=(bif (Yk (cvT l0)) then (bif ((Vh (cvT l0)) != 0) then (.ret [(.str []),(.int .i64 (Vh (cvT l0)))]) else (.to (.h0 0 ([]:List By)))) else .stuck)
theorem y7g (l0:List R7): ∀s,Vr prog (Zx prog 4) (mtxC l0) (mtxC l0 s) (Yr l0 s)
 | .h0 v15 aB=>(lb (fun k0=>(lo fun o0=>(lo fun o1=>(lo fun o2=>(sl Wx 86 [] ⟨[0,4,3],[],mtxN1,mtxM1⟩ ⟨[],[.keep,.rowed 1 (aB++(byL ([113,117,97,100]:List UInt8))).length (Zz (aB++(byL ([113,117,97,100]:List UInt8)))),.keep],[]⟩ [true] (pp (xL (aB.length+4) (aB++(byL ([113,117,97,100]:List UInt8))).length (by first | exact Zo rfl | exact Zo (by simp only [Zn,Ao,Al,Az,Zg] <;> omega) | assumption)) (pp (xS (aB.length+4) (Yt (fun k=>(Zz aB) (0+k)) aB.length (Wq ([113,117,97,100]:List UInt8))) (Zz (aB++(byL ([113,117,97,100]:List UInt8)))) (by repeat' (first | exact Xx _ _ | assumption | exact Wr | exact Ww | rfl | (refine Vd ?_ ?_ rfl rfl rfl) | (refine Vz ?_ ?_ ?_ rfl) | exact Vy (Xx _ _) rfl | apply Xh | exact Uc _ | exact AA _ | (simp only [Zn,Ao,Al,Az,Zg] <;> omega)))) (pp (pp (xF (Yt (fun k=>(Zz aB) (0+k)) aB.length (Wq ([113,117,97,100]:List UInt8)))) nn) (pp (pp (xw o2) (pp nn (xw o1))) (ww o0 (tt k0 nn))))))))))) (fun k0=>(lb (fun k1=>(lr 46 3 [1,1,1,1,1,1,0] 1 4 [(2,(.str [])),(3,(ii 4))] (sl Wx 48 [] ⟨[],[],[some [2,3]],[]⟩ ⟨[],[],[]⟩ (bl 2 2) (tt k1 (tt k0 nn))))) (fun k1=>(lo fun o0=>(lo fun o1=>(lr 46 3 [1,1,1,1,1,1,0] 1 4 [(2,(.str (z2w (aB.length) (fun k=>(Zz aB) (0+k))))),(3,(ii 0))] (sl Wx 51 [] ⟨[],[],[some [2,3]],[]⟩ ⟨[],[],[]⟩ (bl 2 0) (pp (pp (xw o1) (pp (xG (Nat.beq 1 1)) (pp (xG (Nat.beq 1 1)) (pp (xw o0) (xY (aB.length) (fun k=>(Zz aB) (0+k))))))) (tt k1 (tt k0 nn)))))))))))
 | .h1 aF aW bJ aC aO aP aQ aR aS aT=>(lo fun o0=>(lo fun o1=>(lo fun o2=>(lo fun o3=>(sl Wx 91 [] ⟨[0,5,2],[],mtxN2,mtxM2⟩ ⟨[],[.cells [.keep,.len (((Yg bJ 0 aW)++[(yB 32)])++(byL (Ym aC))).length],.rowed 1 (((Yg bJ 0 aW)++[(yB 32)])++(byL (Ym aC))).length (Zz (((Yg bJ 0 aW)++[(yB 32)])++(byL (Ym aC)))),.keep],[]⟩ [true] (pp (xL ((aW+1)+(Ym aC).length) (((Yg bJ 0 aW)++[(yB 32)])++(byL (Ym aC))).length (by first | exact Zo rfl | exact Zo (by simp only [Zn,Ao,Al,Az,Zg] <;> omega) | assumption)) (pp (xL ((aW+1)+(Ym aC).length) (((Yg bJ 0 aW)++[(yB 32)])++(byL (Ym aC))).length (by first | exact Zo rfl | exact Zo (by simp only [Zn,Ao,Al,Az,Zg] <;> omega) | assumption)) (pp (xS ((aW+1)+(Ym aC).length) (Yt (fun k=>(Zh (Zz bJ) 0 aW 1 [(.int .u8 32)]) (0+k)) (aW+1) (Wq (Ym aC))) (Zz (((Yg bJ 0 aW)++[(yB 32)])++(byL (Ym aC)))) (by repeat' (first | exact Xx _ _ | assumption | exact Wr | exact Ww | rfl | (refine Vd ?_ ?_ rfl rfl rfl) | (refine Vz ?_ ?_ ?_ rfl) | exact Vy (Xx _ _) rfl | apply Xh | exact Uc _ | exact AA _ | (simp only [Zn,Ao,Al,Az,Zg] <;> omega)))) (pp (pp (xF (Yt (fun k=>(Zh (Zz bJ) 0 aW 1 [(.int .u8 32)]) (0+k)) (aW+1) (Wq (Ym aC)))) nn) (pp (pp (xw o3) (pp nn (xw o2))) (ww o1 (ww o0 nn))))))))))))
 | .h2 aF aB aC aO aP aQ aR aS aT=>(lo fun o0=>(lo fun o1=>(lo fun o2=>(lo fun o3=>(sl Wx 91 [] ⟨[0,5,2],[],mtxN3,mtxM3⟩ ⟨[],[.cells [.keep,.len ((aB++[(yB 32)])++(byL (Ym aO))).length],.rowed 1 ((aB++[(yB 32)])++(byL (Ym aO))).length (Zz ((aB++[(yB 32)])++(byL (Ym aO)))),.keep],[]⟩ [true] (pp (xL ((aB.length+1)+(Ym aO).length) ((aB++[(yB 32)])++(byL (Ym aO))).length (by first | exact Zo rfl | exact Zo (by simp only [Zn,Ao,Al,Az,Zg] <;> omega) | assumption)) (pp (xL ((aB.length+1)+(Ym aO).length) ((aB++[(yB 32)])++(byL (Ym aO))).length (by first | exact Zo rfl | exact Zo (by simp only [Zn,Ao,Al,Az,Zg] <;> omega) | assumption)) (pp (xS ((aB.length+1)+(Ym aO).length) (Yt (fun k=>(Zh (Zz aB) 0 aB.length 1 [(.int .u8 32)]) (0+k)) (aB.length+1) (Wq (Ym aO))) (Zz ((aB++[(yB 32)])++(byL (Ym aO)))) (by repeat' (first | exact Xx _ _ | assumption | exact Wr | exact Ww | rfl | (refine Vd ?_ ?_ rfl rfl rfl) | (refine Vz ?_ ?_ ?_ rfl) | exact Vy (Xx _ _) rfl | apply Xh | exact Uc _ | exact AA _ | (simp only [Zn,Ao,Al,Az,Zg] <;> omega)))) (pp (pp (xF (Yt (fun k=>(Zh (Zz aB) 0 aB.length 1 [(.int .u8 32)]) (0+k)) (aB.length+1) (Wq (Ym aO)))) nn) (pp (pp (xw o3) (pp nn (xw o2))) (ww o1 (ww o0 nn))))))))))))
 | .h3 aF aB aC aO aP aQ aR aS aT=>(lo fun o0=>(lo fun o1=>(lo fun o2=>(lo fun o3=>(sl Wx 91 [] ⟨[0,5,2],[],mtxN4,mtxM4⟩ ⟨[],[.cells [.keep,.len ((aB++[(yB 32)])++(byL (Ym aP))).length],.rowed 1 ((aB++[(yB 32)])++(byL (Ym aP))).length (Zz ((aB++[(yB 32)])++(byL (Ym aP)))),.keep],[]⟩ [true] (pp (xL ((aB.length+1)+(Ym aP).length) ((aB++[(yB 32)])++(byL (Ym aP))).length (by first | exact Zo rfl | exact Zo (by simp only [Zn,Ao,Al,Az,Zg] <;> omega) | assumption)) (pp (xL ((aB.length+1)+(Ym aP).length) ((aB++[(yB 32)])++(byL (Ym aP))).length (by first | exact Zo rfl | exact Zo (by simp only [Zn,Ao,Al,Az,Zg] <;> omega) | assumption)) (pp (xS ((aB.length+1)+(Ym aP).length) (Yt (fun k=>(Zh (Zz aB) 0 aB.length 1 [(.int .u8 32)]) (0+k)) (aB.length+1) (Wq (Ym aP))) (Zz ((aB++[(yB 32)])++(byL (Ym aP)))) (by repeat' (first | exact Xx _ _ | assumption | exact Wr | exact Ww | rfl | (refine Vd ?_ ?_ rfl rfl rfl) | (refine Vz ?_ ?_ ?_ rfl) | exact Vy (Xx _ _) rfl | apply Xh | exact Uc _ | exact AA _ | (simp only [Zn,Ao,Al,Az,Zg] <;> omega)))) (pp (pp (xF (Yt (fun k=>(Zh (Zz aB) 0 aB.length 1 [(.int .u8 32)]) (0+k)) (aB.length+1) (Wq (Ym aP)))) nn) (pp (pp (xw o3) (pp nn (xw o2))) (ww o1 (ww o0 nn))))))))))))
 | .h4 aF aB aC aO aP aQ aR aS aT=>(lo fun o0=>(lo fun o1=>(lo fun o2=>(lo fun o3=>(sl Wx 91 [] ⟨[0,5,2],[],mtxN5,mtxM5⟩ ⟨[],[.cells [.keep,.len ((aB++[(yB 32)])++(byL (Ym aQ))).length],.rowed 1 ((aB++[(yB 32)])++(byL (Ym aQ))).length (Zz ((aB++[(yB 32)])++(byL (Ym aQ)))),.keep],[]⟩ [true] (pp (xL ((aB.length+1)+(Ym aQ).length) ((aB++[(yB 32)])++(byL (Ym aQ))).length (by first | exact Zo rfl | exact Zo (by simp only [Zn,Ao,Al,Az,Zg] <;> omega) | assumption)) (pp (xL ((aB.length+1)+(Ym aQ).length) ((aB++[(yB 32)])++(byL (Ym aQ))).length (by first | exact Zo rfl | exact Zo (by simp only [Zn,Ao,Al,Az,Zg] <;> omega) | assumption)) (pp (xS ((aB.length+1)+(Ym aQ).length) (Yt (fun k=>(Zh (Zz aB) 0 aB.length 1 [(.int .u8 32)]) (0+k)) (aB.length+1) (Wq (Ym aQ))) (Zz ((aB++[(yB 32)])++(byL (Ym aQ)))) (by repeat' (first | exact Xx _ _ | assumption | exact Wr | exact Ww | rfl | (refine Vd ?_ ?_ rfl rfl rfl) | (refine Vz ?_ ?_ ?_ rfl) | exact Vy (Xx _ _) rfl | apply Xh | exact Uc _ | exact AA _ | (simp only [Zn,Ao,Al,Az,Zg] <;> omega)))) (pp (pp (xF (Yt (fun k=>(Zh (Zz aB) 0 aB.length 1 [(.int .u8 32)]) (0+k)) (aB.length+1) (Wq (Ym aQ)))) nn) (pp (pp (xw o3) (pp nn (xw o2))) (ww o1 (ww o0 nn))))))))))))
 | .h5 aF aB aC aO aP aQ aR aS aT=>(lo fun o0=>(lo fun o1=>(lo fun o2=>(lo fun o3=>(sl Wx 91 [] ⟨[0,5,2],[],mtxN6,mtxM6⟩ ⟨[],[.cells [.keep,.len ((aB++[(yB 32)])++(byL (Ym aR))).length],.rowed 1 ((aB++[(yB 32)])++(byL (Ym aR))).length (Zz ((aB++[(yB 32)])++(byL (Ym aR)))),.keep],[]⟩ [true] (pp (xL ((aB.length+1)+(Ym aR).length) ((aB++[(yB 32)])++(byL (Ym aR))).length (by first | exact Zo rfl | exact Zo (by simp only [Zn,Ao,Al,Az,Zg] <;> omega) | assumption)) (pp (xL ((aB.length+1)+(Ym aR).length) ((aB++[(yB 32)])++(byL (Ym aR))).length (by first | exact Zo rfl | exact Zo (by simp only [Zn,Ao,Al,Az,Zg] <;> omega) | assumption)) (pp (xS ((aB.length+1)+(Ym aR).length) (Yt (fun k=>(Zh (Zz aB) 0 aB.length 1 [(.int .u8 32)]) (0+k)) (aB.length+1) (Wq (Ym aR))) (Zz ((aB++[(yB 32)])++(byL (Ym aR)))) (by repeat' (first | exact Xx _ _ | assumption | exact Wr | exact Ww | rfl | (refine Vd ?_ ?_ rfl rfl rfl) | (refine Vz ?_ ?_ ?_ rfl) | exact Vy (Xx _ _) rfl | apply Xh | exact Uc _ | exact AA _ | (simp only [Zn,Ao,Al,Az,Zg] <;> omega)))) (pp (pp (xF (Yt (fun k=>(Zh (Zz aB) 0 aB.length 1 [(.int .u8 32)]) (0+k)) (aB.length+1) (Wq (Ym aR)))) nn) (pp (pp (xw o3) (pp nn (xw o2))) (ww o1 (ww o0 nn))))))))))))
 | .h6 aF aB aC aO aP aQ aR aS aT=>(lo fun o0=>(lo fun o1=>(lo fun o2=>(lo fun o3=>(sl Wx 91 [] ⟨[0,5,2],[],mtxN7,mtxM7⟩ ⟨[],[.cells [.keep,.len ((aB++[(yB 32)])++(byL (Ym aS))).length],.rowed 1 ((aB++[(yB 32)])++(byL (Ym aS))).length (Zz ((aB++[(yB 32)])++(byL (Ym aS)))),.keep],[]⟩ [true] (pp (xL ((aB.length+1)+(Ym aS).length) ((aB++[(yB 32)])++(byL (Ym aS))).length (by first | exact Zo rfl | exact Zo (by simp only [Zn,Ao,Al,Az,Zg] <;> omega) | assumption)) (pp (xL ((aB.length+1)+(Ym aS).length) ((aB++[(yB 32)])++(byL (Ym aS))).length (by first | exact Zo rfl | exact Zo (by simp only [Zn,Ao,Al,Az,Zg] <;> omega) | assumption)) (pp (xS ((aB.length+1)+(Ym aS).length) (Yt (fun k=>(Zh (Zz aB) 0 aB.length 1 [(.int .u8 32)]) (0+k)) (aB.length+1) (Wq (Ym aS))) (Zz ((aB++[(yB 32)])++(byL (Ym aS)))) (by repeat' (first | exact Xx _ _ | assumption | exact Wr | exact Ww | rfl | (refine Vd ?_ ?_ rfl rfl rfl) | (refine Vz ?_ ?_ ?_ rfl) | exact Vy (Xx _ _) rfl | apply Xh | exact Uc _ | exact AA _ | (simp only [Zn,Ao,Al,Az,Zg] <;> omega)))) (pp (pp (xF (Yt (fun k=>(Zh (Zz aB) 0 aB.length 1 [(.int .u8 32)]) (0+k)) (aB.length+1) (Wq (Ym aS)))) nn) (pp (pp (xw o3) (pp nn (xw o2))) (ww o1 (ww o0 nn))))))))))))
 | .h7 aF aB aC aO aP aQ aR aS aT=>(lo fun o0=>(lo fun o1=>(lo fun o2=>(lo fun o3=>(sl Wx 91 [] ⟨[0,5,2],[],mtxN8,mtxM8⟩ ⟨[],[.cells [.keep,.len ((aB++[(yB 32)])++(byL (Ym aT))).length],.rowed 1 ((aB++[(yB 32)])++(byL (Ym aT))).length (Zz ((aB++[(yB 32)])++(byL (Ym aT)))),.keep],[]⟩ [true] (pp (xL ((aB.length+1)+(Ym aT).length) ((aB++[(yB 32)])++(byL (Ym aT))).length (by first | exact Zo rfl | exact Zo (by simp only [Zn,Ao,Al,Az,Zg] <;> omega) | assumption)) (pp (xL ((aB.length+1)+(Ym aT).length) ((aB++[(yB 32)])++(byL (Ym aT))).length (by first | exact Zo rfl | exact Zo (by simp only [Zn,Ao,Al,Az,Zg] <;> omega) | assumption)) (pp (xS ((aB.length+1)+(Ym aT).length) (Yt (fun k=>(Zh (Zz aB) 0 aB.length 1 [(.int .u8 32)]) (0+k)) (aB.length+1) (Wq (Ym aT))) (Zz ((aB++[(yB 32)])++(byL (Ym aT)))) (by repeat' (first | exact Xx _ _ | assumption | exact Wr | exact Ww | rfl | (refine Vd ?_ ?_ rfl rfl rfl) | (refine Vz ?_ ?_ ?_ rfl) | exact Vy (Xx _ _) rfl | apply Xh | exact Uc _ | exact AA _ | (simp only [Zn,Ao,Al,Az,Zg] <;> omega)))) (pp (pp (xF (Yt (fun k=>(Zh (Zz aB) 0 aB.length 1 [(.int .u8 32)]) (0+k)) (aB.length+1) (Wq (Ym aT)))) nn) (pp (pp (xw o3) (pp nn (xw o2))) (ww o1 (ww o0 nn))))))))))))
 | .h8 aF aB aC aO aP aQ aR aS aT=>(lo fun o0=>(sl Wx 47 [] ⟨[0,4],[],mtxN0,mtxM0⟩ ⟨[],[.cells [.keep,.len (aB++[(yB 10)]).length],.rowed 1 (aB++[(yB 10)]).length (Zz (aB++[(yB 10)]))],[]⟩ [false] (pp (xL (aB.length+1) (aB++[(yB 10)]).length) (pp (xL (aB.length+1) (aB++[(yB 10)]).length) (pp (xS (aB.length+1) (Zh (Zz aB) 0 aB.length 1 [(.int .u8 10)]) (Zz (aB++[(yB 10)]))) (pp (pp (xF (Zh (Zz aB) 0 aB.length 1 [(.int .u8 10)])) nn) (ww o0 nn)))))))
theorem y2u (l0:List R7):Vr prog (Zx prog 4) (mtxC l0) (Zs prog 4 [(.dat l0.length (Zz l0))] true []) (z0x l0):=(lo fun bK=>(lb (fun k0=>(lr 46 4 [1,0,1,1,0,0] 1 4 [(2,(.str [])),(3,(ii (Vh (cvT l0))))] (sl Wx 24 [] ⟨[],[],[some [2,3]],[]⟩ ⟨[],[],[]⟩ [true] (tt k0 (pp (pp (xr l0) (xw bK)) nn))))) (fun k0=>(sl Wx 32 [(5,1,Zz ([]:List By))] ⟨[0,1],[],mtxN0,mtxM0⟩ ⟨[],[.cells [.keep,.grow 1 1],.keep],[]⟩ [false] (pp (fl ([]:List By) nn) (tt k0 (pp (pp (xr l0) (xw bK)) nn)))))))
theorem x3v (l0:List R7) (n:Nat) (vs:List AVal) (h:goOn (Yr l0) n (z0x l0)=.ret vs):z2v prog (Zx prog 4) (Zs prog 4 [(.dat l0.length (Zz l0))] true []) vs:=by have:=Yd (y7g l0) n _ (y2u l0);rwa [h] at this
theorem z4a {a:Nat} (h:a≤1099511627776):decide (a≤Vt)=true:=Ah h
theorem y1z {z n m:Nat} (h:(n+1+1)*(m+1)≤1099511627776):(Nat.beq z z&&((decide (0+n=n))&&decide ((n+1+1)*(m+1)≤Vt)))=true:=by rw [Ad,Ad];exact ⟨Nat.beq_refl z,Ah (AA n),z4a h⟩
def spN :List Int→List UInt8
 | []=>[]
 | n::r=>32::(itoa n++spN r)
def Qs (r:R7):List UInt8:=113::117::97::100::(spN [r.a,r.b,r.c,r.d,r.e,r.f,r.g]++[10])
def Vm :List R7→List UInt8
 | []=>[]
 | r::l=>Qs r++Vm l
def Wc (L:List R7):List UInt8:=bif Vh L != 0 then [] else bif decide (60000<(Vm L).length) then [] else Vm L
def Wb (L:List R7):Int:=bif Vh L != 0 then Vh L else bif decide (60000<(Vm L).length) then 4 else 0
theorem x6e {r:R7} (h:y4m r=true) (h0:0≤r.a):(0≤r.a∧r.a≤5)∧fn3 r.b r.c r.d∧fn3 r.e r.f r.g:=by unfold y4m at h;rw [Ad,Ad,Ad] at h;exact ⟨⟨h0,Ax h.1⟩,(z8r _ _ _).1 h.2.1,(z8r _ _ _).1 h.2.2.1⟩
theorem Jx {n:Int} (h: -1000000≤n∧n≤1000000):(itoa n).length ≤21:=itoa_length_le n (by omega) (by omega)
theorem z2o {r:R7} (h:(0≤r.a∧r.a≤5)∧fn3 r.b r.c r.d∧fn3 r.e r.f r.g):(Qs r).length ≤200:=by obtain ⟨h1,⟨h2,h3,h4⟩,h5,h6,h7⟩:=h;have a1:=Jx (n:=r.a) (by omega);have a2:=Jx h2;have a3:=Jx h3;have a4:=Jx h4;have a5:=Jx h5;have a6:=Jx h6;have a7:=Jx h7;simp only [Qs,spN,Ao,Al,Az];omega
theorem z5k {n:Int} (h: -1000000≤n∧n≤1000000):Xb n=true∧ ∃d,Wj n=d∧itoa n=d∧d.length≤21:=⟨Ah (by omega),_,rfl,rfl,Jx h⟩
theorem x6t {L:List R7} {i:Nat} {acc:List UInt8} (hi:i<L.length) (hv:(0≤(rd L i).a ∧(rd L i).a ≤5)∧fn3 (rd L i).b (rd L i).c (rd L i).d ∧fn3 (rd L i).e (rd L i).f (rd L i).g) (hl:L.length≤3000) (ha:acc.length≤10000000):
  Kd L (.h0 acc (i:Int))=.to (.h0 (acc++Qs (rd L i)) ((i+1:Nat):Int)):=by
 obtain ⟨h1,⟨h2,h3,h4⟩,h5,h6,h7⟩:=hv;have w1:wrap .i64 ((i:Int)+1)=((i+1:Nat):Int):=Xi (by omega);have w2:wrap .i64 (rd L i).a =(rd L i).a :=Xi (by omega);obtain ⟨o1,d1,e1,q1,l1⟩:=z5k (n:=(rd L i).a) (by omega);obtain ⟨o2,d2,e2,q2,l2⟩:=z5k h2;obtain ⟨o3,d3,e3,q3,l3⟩:=z5k h3;obtain ⟨o4,d4,e4,q4,l4⟩:=z5k h4;obtain ⟨o5,d5,e5,q5,l5⟩:=z5k h5;obtain ⟨o6,d6,e6,q6,l6⟩:=z5k h6;obtain ⟨o7,d7,e7,q7,l7⟩:=z5k h7;have eq:Qs (rd L i)=113::117::97::100::32::(d1++32::(d2++32::(d3++32::(d4++32::(d5++32::(d6++32::(d7++[10]))))))):=by simp [Qs,spN,q1,q2,q3,q4,q5,q6,q7]
 rw [eq];unfold Kd;simp only [Vg,w1,w2,o1,o2,o3,o4,o5,o6,o7,e1,e2,e3,e4,e5,e6,e7,Bn,Ap];rw [Zp (z2a (by omega))];repeat (first | rw [Zp (x6k (by simp only [Ao,Al,Az];omega))] | rw [Zp (z6q (by omega))])
 simp only [AK,A8,Bd]
theorem x5n {L:List R7} (hl:L.length≤3000) (hv: ∀r,r∈L→(0≤r.a∧r.a≤5)∧fn3 r.b r.c r.d∧fn3 r.e r.f r.g): ∀(k i:Nat) (acc:List UInt8),i+k=L.length→acc.length≤200*i→
  ∃N,goOn (Kd L) N (.to (.h0 acc (i:Int)))=.ret [.str (bif decide (60000<(acc++Vm (L.drop i)).length) then [] else acc++Vm (L.drop i)),.int .i64 (bif decide (60000<(acc++Vm (L.drop i)).length) then 4 else 0)]
 | 0,i,acc,h,ha=>by
  refine ⟨1,?_⟩;have e:Kd L (.h0 acc (i:Int))=bif decide ((acc.length:Int)>60000) then .ret [.str [],.int .i64 4] else .ret [.str acc,.int .i64 0]:=by unfold Kd;simp (disch:=omega) only [z3a,Ai]
  rw [Zf,AH (by omega),e];simp only [Vm,Bq];by_cases g:60000<acc.length
  ·rw [Ah g,Ah (show (acc.length:Int)>60000 by omega)];rfl
  ·rw [Ak g,Ak (show ¬(acc.length:Int)>60000 by omega)];rfl
 | k+1,i,acc,h,ha=>by
  have hi:i<L.length:=by omega
  have hq:=hv (rd L i) (by rw [Uj hi];exact AE hi);have hlq:=z2o hq;obtain ⟨N,hN⟩:=x5n hl hv k (i+1) (acc++Qs (rd L i)) (by omega) (by rw [Ao];omega);refine ⟨N+1,?_⟩;have ea:acc++Vm (rd L i::L.drop (i+1))=(acc++Qs (rd L i))++Vm (L.drop (i+1)):=by rw [Vm,AK]
  rw [Zf,x6t hi hq hl (by omega),Kw hi,ea];exact hN
theorem y4y {L:List R7} (h:Vh L=0) (ho:Yk L=true):L.length≤3000∧ ∀r,r∈L→(0≤r.a∧r.a≤5)∧fn3 r.b r.c r.d∧fn3 r.e r.f r.g:=by
 unfold Vh at h;by_cases g:3000<L.length
 ·rw [Ah g] at h;cases h
 ·rw [Ak g,Ai] at h;refine ⟨by omega,fun r hr=> ?_⟩;cases hq:L.all y4m with
  | false=>rw [hq] at h;cases h
  | true=>have:=Aw.1 ho r hr;rw [Ad,Aq,Aq] at this;exact x6e (Aw.1 hq r hr) this.1
theorem x6s (L:List R7) (ho:Yk L=true): ∃N,goOn (Kd L) N (z0n L)=.ret [.str (Wc L),.int .i64 (Wb L)]:=by
 have e:z0n L=bif (Vh L != 0) then .ret [.str [],.int .i64 (Vh L)] else .to (.h0 [] 0):=by unfold z0n;rw [y5t,Zp (show Jg L=true from ho)];rfl
 rw [e];unfold Wc Wb;by_cases h:Vh L=0
 ·rw [ne_f h,Ai,Ai,Ai];obtain ⟨h1,h2⟩:=y4y h ho;obtain ⟨N,hN⟩:=x5n h1 h2 L.length 0 [] (AA _) (AF _);refine ⟨N,?_⟩;rw [Bd,A9] at hN;exact hN
 ·rw [ne_t h,Ap,Ap,Ap];exact ⟨0,rfl⟩
theorem x8m (s:List UInt8):(byL s).length =s.length:=rfl
theorem x7f {L:List R7} {i:Nat} {s:List UInt8} (hi:i<L.length) (hv:(0≤(rd L i).a ∧(rd L i).a ≤5)∧fn3 (rd L i).b (rd L i).c (rd L i).d ∧fn3 (rd L i).e (rd L i).f (rd L i).g) (hl:L.length≤3000) (ha:s.length≤10000000) (N:Nat):
  goOn (Yr L) (N+9) (.to (.h0 (i:Int) (byL s)))=goOn (Yr L) N (.to (.h0 ((i+1:Nat):Int) (byL (s++Qs (rd L i))))):=by
 obtain ⟨h1,⟨h2,h3,h4⟩,h5,h6,h7⟩:=hv;have h1': -1000000≤(rd L i).a ∧(rd L i).a ≤1000000:=by omega
 have w1:wrap .i64 ((i:Int)+1)=((i+1:Nat):Int):=Xi (by omega);have w2:wrap .i64 (rd L i).a =(rd L i).a :=Xi (by omega);have e0: ∀t:List By,t.length≤10001000→Yr L (.h0 (i:Int) t)=.to (.h1 (i:Int) (t.length+4) (t++byL [113,117,97,100]) (rd L i).a (rd L i).b (rd L i).c (rd L i).d (rd L i).e (rd L i).f (rd L i).g):=fun t ht=>by unfold Yr;simp only [Vg,w2];rw [Zp (z2a (by omega)),Zp (Bj.2 ⟨z6q (by omega),rfl⟩),Zp (z4a (by omega)),Zp (by simp)]
 have ex: ∀(n:Int),(-1000000≤n∧n≤1000000)→ ∀(t:List By),t.length≤10001000→(Nat.beq 1 1&&((decide (0+t.length=t.length))&&decide ((t.length+1+1)*(1+1)≤Vt)))=true∧Yb n=true∧decide (((t.length+1)+(Ym n).length +1)*(1+1)≤Vt)=true∧(Nat.beq 1 1&&(Nat.beq 1 1&&decide (0+(t.length+1)≤(t.length+1))))=true:=fun n hn t ht=>by have hl:(Ym n).length ≤21:=Jx hn;exact ⟨y1z (by omega),Ah (by omega),z4a (by omega),by simp⟩
 have p0: ∀t:List By,Yg t 0 t.length=t:=fun t=>by rw [z8i (show 0+t.length≤t.length by omega),A9];exact List.take_length
 have e1: ∀(t:List By) (a b c d e f g:Int),t.length≤10001000→(-1000000≤a∧a≤1000000)→Yr L (.h1 (i:Int) t.length t a b c d e f g)=.to (.h2 (i:Int) ((t++[yB 32])++byL (Ym a)) a b c d e f g):=fun t a b c d e f g ht ha=>by obtain ⟨c1,c2,c3,c4⟩:=ex a ha t ht;unfold Yr;simp only [p0];rw [Zp c1,Zp c2,Zp c3,Zp c4]
 have e2: ∀(t:List By) (a b c d e f g:Int),t.length≤10001000→(-1000000≤b∧b≤1000000)→Yr L (.h2 (i:Int) t a b c d e f g)=.to (.h3 (i:Int) ((t++[yB 32])++byL (Ym b)) a b c d e f g):=fun t a b c d e f g ht ha=>by obtain ⟨c1,c2,c3,c4⟩:=ex b ha t ht;unfold Yr;simp only [];rw [Zp c1,Zp c2,Zp c3,Zp c4]
 have e3: ∀(t:List By) (a b c d e f g:Int),t.length≤10001000→(-1000000≤c∧c≤1000000)→Yr L (.h3 (i:Int) t a b c d e f g)=.to (.h4 (i:Int) ((t++[yB 32])++byL (Ym c)) a b c d e f g):=fun t a b c d e f g ht ha=>by obtain ⟨c1,c2,c3,c4⟩:=ex c ha t ht;unfold Yr;simp only [];rw [Zp c1,Zp c2,Zp c3,Zp c4]
 have e4: ∀(t:List By) (a b c d e f g:Int),t.length≤10001000→(-1000000≤d∧d≤1000000)→Yr L (.h4 (i:Int) t a b c d e f g)=.to (.h5 (i:Int) ((t++[yB 32])++byL (Ym d)) a b c d e f g):=fun t a b c d e f g ht ha=>by obtain ⟨c1,c2,c3,c4⟩:=ex d ha t ht;unfold Yr;simp only [];rw [Zp c1,Zp c2,Zp c3,Zp c4]
 have e5: ∀(t:List By) (a b c d e f g:Int),t.length≤10001000→(-1000000≤e∧e≤1000000)→Yr L (.h5 (i:Int) t a b c d e f g)=.to (.h6 (i:Int) ((t++[yB 32])++byL (Ym e)) a b c d e f g):=fun t a b c d e f g ht ha=>by obtain ⟨c1,c2,c3,c4⟩:=ex e ha t ht;unfold Yr;simp only [];rw [Zp c1,Zp c2,Zp c3,Zp c4]
 have e6: ∀(t:List By) (a b c d e f g:Int),t.length≤10001000→(-1000000≤f∧f≤1000000)→Yr L (.h6 (i:Int) t a b c d e f g)=.to (.h7 (i:Int) ((t++[yB 32])++byL (Ym f)) a b c d e f g):=fun t a b c d e f g ht ha=>by obtain ⟨c1,c2,c3,c4⟩:=ex f ha t ht;unfold Yr;simp only [];rw [Zp c1,Zp c2,Zp c3,Zp c4]
 have e7: ∀(t:List By) (a b c d e f g:Int),t.length≤10001000→(-1000000≤g∧g≤1000000)→Yr L (.h7 (i:Int) t a b c d e f g)=.to (.h8 (i:Int) ((t++[yB 32])++byL (Ym g)) a b c d e f g):=fun t a b c d e f g ht ha=>by obtain ⟨c1,c2,c3,c4⟩:=ex g ha t ht;unfold Yr;simp only [];rw [Zp c1,Zp c2,Zp c3,Zp c4]
 have e8: ∀(t:List By) (a b c d e f g:Int),t.length≤10001000→Yr L (.h8 (i:Int) t a b c d e f g)=.to (.h0 ((i+1:Nat):Int) (t++[yB 10])):=fun t a b c d e f g ht=>by
  obtain ⟨c1,_⟩:=ex 0 (by omega) t ht;unfold Yr;simp only [w1];repeat (first | rw [Zp c1] | rw [Zp (z4a (by omega))] | rw [Zp (by simp)])
 have len: ∀(t:List By) (n:Int),(-1000000≤n∧n≤1000000)→((t++[yB 32])++byL (Ym n)).length ≤t.length+22:=fun t n hn=>by have hl:(Ym n).length ≤21:=Jx hn;rw [Ao,Ao,x8m,AC];omega
 have fin:((((((((((((((((byL s++byL [113,117,97,100])++[yB 32])++byL (Ym (rd L i).a))++[yB 32])++byL (Ym (rd L i).b))++[yB 32])++byL (Ym (rd L i).c))++[yB 32])++byL (Ym (rd L i).d))++[yB 32])++byL (Ym (rd L i).e))++[yB 32])++byL (Ym (rd L i).f))++[yB 32])++byL (Ym (rd L i).g))++[yB 10])=byL (s++Qs (rd L i)):=by show ((((((((((((((((s++[113,117,97,100])++[32])++itoa (rd L i).a)++[32])++itoa (rd L i).b)++[32])++itoa (rd L i).c)++[32])++itoa (rd L i).d)++[32])++itoa (rd L i).e)++[32])++itoa (rd L i).f)++[32])++itoa (rd L i).g)++[10]:List UInt8)=s++Qs (rd L i);simp [Qs,spN]
 have hs:(byL s).length ≤10000000:=ha;generalize hq:byL (s++Qs (rd L i))=q at fin ⊢;generalize byL s=t0 at fin hs ⊢;have cE:t0.length+4=(t0++byL [113,117,97,100]).length :=by rw [Ao];rfl
 rw [Zf,e0 t0 (by omega),cE];have b0:(t0++byL [113,117,97,100]).length ≤10000004:=by rw [←cE];omega
 generalize t0++byL [113,117,97,100]=t1 at fin b0 ⊢;rw [Zf,e1 t1 _ _ _ _ _ _ _ (by omega) h1'];have b1:=len t1 (rd L i).a h1';generalize ((t1++[yB 32])++byL (Ym (rd L i).a))=t2 at fin b1 ⊢;rw [Zf,e2 t2 _ _ _ _ _ _ _ (by omega) h2];have b2:=len t2 (rd L i).b h2;generalize ((t2++[yB 32])++byL (Ym (rd L i).b))=t3 at fin b2 ⊢;rw [Zf,e3 t3 _ _ _ _ _ _ _ (by omega) h3];have b3:=len t3 (rd L i).c h3;generalize ((t3++[yB 32])++byL (Ym (rd L i).c))=t4 at fin b3 ⊢;rw [Zf,e4 t4 _ _ _ _ _ _ _ (by omega) h4];have b4:=len t4 (rd L i).d h4;generalize ((t4++[yB 32])++byL (Ym (rd L i).d))=t5 at fin b4 ⊢;rw [Zf,e5 t5 _ _ _ _ _ _ _ (by omega) h5];have b5:=len t5 (rd L i).e h5;generalize ((t5++[yB 32])++byL (Ym (rd L i).e))=t6 at fin b5 ⊢;rw [Zf,e6 t6 _ _ _ _ _ _ _ (by omega) h6];have b6:=len t6 (rd L i).f h6;generalize ((t6++[yB 32])++byL (Ym (rd L i).f))=t7 at fin b6 ⊢;rw [Zf,e7 t7 _ _ _ _ _ _ _ (by omega) h7];have b7:=len t7 (rd L i).g h7;generalize ((t7++[yB 32])++byL (Ym (rd L i).g))=t8 at fin b7 ⊢;rw [Zf,e8 t8 _ _ _ _ _ _ _ (by omega),fin]
theorem x5v {L:List R7} (hl:L.length≤3000) (hv: ∀r,r∈L→(0≤r.a∧r.a≤5)∧fn3 r.b r.c r.d∧fn3 r.e r.f r.g): ∀(k i:Nat) (acc:List UInt8),i+k=L.length→acc.length≤200*i→
  ∃N,goOn (Yr L) N (.to (.h0 (i:Int) (byL acc)))=.ret [.str (bif decide (60000<(acc++Vm (L.drop i)).length) then [] else acc++Vm (L.drop i)),.int .i64 (bif decide (60000<(acc++Vm (L.drop i)).length) then 4 else 0)]
 | 0,i,acc,h,ha=>by
  refine ⟨1,?_⟩;have e:Yr L (.h0 (i:Int) (byL acc))=bif decide ((acc.length:Int)>60000) then .ret [.str [],.int .i64 4] else .ret [.str acc,.int .i64 0]:=by
   unfold Yr;simp (disch:=omega) only [z3a,Ai];have es:z2w (byL acc).length (fun k=>Zz (byL acc) (0+k))=acc:=y1q (byL acc) acc.length rfl;have hb:(byL acc).length =acc.length:=rfl;rw [es,hb];by_cases g:60000<acc.length
   ·rw [Ah (show (acc.length:Int)>60000 by omega)];rfl
   ·rw [Ak (show ¬(acc.length:Int)>60000 by omega),Ai,Ai,Zp (Ah (by omega)),Zp (sLe_t (by omega))]
  rw [Zf,AH (by omega),e];simp only [Vm,Bq];by_cases g:60000<acc.length
  ·rw [Ah g,Ah (show (acc.length:Int)>60000 by omega)];rfl
  ·rw [Ak g,Ak (show ¬(acc.length:Int)>60000 by omega)];rfl
 | k+1,i,acc,h,ha=>by
  have hi:i<L.length:=by omega
  have hq:=hv (rd L i) (by rw [Uj hi];exact AE hi);have hlq:=z2o hq;obtain ⟨N,hN⟩:=x5v hl hv k (i+1) (acc++Qs (rd L i)) (by omega) (by rw [Ao];omega);refine ⟨N+9,?_⟩;have ea:acc++Vm (rd L i::L.drop (i+1))=(acc++Qs (rd L i))++Vm (L.drop (i+1)):=by rw [Vm,AK]
  rw [x7f hi hq hl (by omega),Kw hi,ea];exact hN
theorem x7e (L:List R7) (ho:Yk L=true): ∃N,goOn (Yr L) N (z0x L)=.ret [.str (Wc L),.int .i64 (Wb L)]:=by
 have e:z0x L=bif (Vh L != 0) then .ret [.str [],.int .i64 (Vh L)] else .to (.h0 0 (byL [])):=by unfold z0x;rw [y5t,Zp ho];rfl
 rw [e];unfold Wc Wb;by_cases h:Vh L=0
 ·rw [ne_f h,Ai,Ai,Ai];obtain ⟨h1,h2⟩:=y4y h ho;obtain ⟨N,hN⟩:=x5v h1 h2 L.length 0 [] (AA _) (AF _);refine ⟨N,?_⟩;rw [Bd,A9] at hN;exact hN
 ·rw [ne_t h,Ap,Ap,Ap];exact ⟨0,rfl⟩
inductive numS where
 | h0 (v4:Int) (v5:Int) (v6:Int)
def numC (x0:List UInt8):numS→Cfg
 | .h0 v4 v5 v6=>⟨⟨61,0,true⟩,none,(Yh prog 55 [1,1,1,0,1,0,0] 0),none,(Zx prog 4),⟨Vq [(0,(.str x0)),(4,(ii v4)),(5,(ii v5)),(6,(ii v6))],Qg [] 0,0,[],true⟩,[],.leaf⟩
def x3o :List (Option (List Nat)):=[some [0,4,5,6]]
def x3p :List (Option (List Nat)):=[]
def Kh (x0:List UInt8):numS→Vj numS
 | .h0 v4 v5 v6=>(bif (decide (v6<(x0.length:Int))) then (bif (decide (0≤v6∧v6<(x0.length:Int))) then (bif (decide ((bAt x0 v6.toNat)<48)) then (.ret [(.int .i64 0),(.bool false)]) else (bif (decide ((bAt x0 v6.toNat)>57)) then (.ret [(.int .i64 0),(.bool false)]) else (bif (decide (v6>(wrap .i64 (v4+9)))) then (.ret [(.int .i64 0),(.bool false)]) else (.to (.h0 v4 (wrap .i64 ((wrap .i64 (10*v5))+(wrap .i64 (wrap IntKind.u8 ((bAt x0 v6.toNat) - 48))))) (wrap .i64 (v6+1))))))) else .stuck) else (bif (v4 == 1) then (bif (decide ((x0.length:Int)>v4)) then (bif (Xb (wrap .i64 (0 - v5))) then (.ret [(.int .i64 (wrap .i64 (0 - v5))),(.bool ((Wj (wrap .i64 (0 - v5))) == x0))]) else .stuck) else (.ret [(.int .i64 (wrap .i64 (0 - v5))),(.bool false)])) else (bif (decide ((x0.length:Int)>v4)) then (bif (Xb v5) then (.ret [(.int .i64 v5),(.bool ((Wj v5) == x0))]) else .stuck) else (.ret [(.int .i64 v5),(.bool false)]))))
def z0t (x0:List UInt8):Vj numS:=(bif (decide ((x0.length:Int)>0)) then (bif (decide ((0:Int)≤0∧0<(x0.length:Int))) then (bif ((bAt x0 0) == 45) then (.to (.h0 1 0 1)) else (.to (.h0 0 0 0))) else .stuck) else (.to (.h0 0 0 0)))
theorem y7d (x0:List UInt8): ∀s,Vr prog (Zx prog 55) (numC x0) (numC x0 s) (Kh x0 s)
 | .h0 v4 v5 v6=>(lb (fun k0=>(lo fun aI=>(lb (fun k1=>(lr 61 55 [1,1,1,0,1,0,0,1,0,0,0,1,0,0] 1 4 [(2,(ii 0)),(3,(.bool false))] (sl Wx 38 [] ⟨[],[],[some [2,3]],[]⟩ ⟨[],[],[]⟩ (trs 10 []) (tt k1 (ww aI (tt k0 nn)))))) (fun k1=>(lb (fun k2=>(lr 61 55 [1,1,1,0,1,0,0,1,0,0,0,1,0,0] 1 4 [(2,(ii 0)),(3,(.bool false))] (sl Wx 38 [] ⟨[],[],[some [2,3]],[]⟩ ⟨[],[],[]⟩ (bl 10 993) (tt k2 (ww aI (tt k1 (ww aI (tt k0 nn)))))))) (fun k2=>(lb (fun k3=>(lr 61 55 [1,1,1,0,1,0,0,1,0,0,0,1,0,0] 1 4 [(2,(ii 0)),(3,(.bool false))] (sl Wx 38 [] ⟨[],[],[some [2,3]],[]⟩ ⟨[],[],[]⟩ (bl 10 513) (tt k3 (tt k2 (ww aI (tt k1 (ww aI (tt k0 nn))))))))) (fun k3=>(sl Wx 52 [] ⟨[],[],x3o,x3p⟩ ⟨[],[],[]⟩ (bl 10 1) (ww aI (tt k3 (tt k2 (ww aI (tt k1 (ww aI (tt k0 nn)))))))))))))))) (fun k0=>(lb (fun k1=>(lb (fun k2=>(lo fun o0=>(lr 61 3 [1,1,1,1,1,1,0] 1 4 [(2,(ii (wr (0 - v5)))),(3,(.bool ((Wj (wr (0 - v5))) == x0)))] (sl Wx 38 [] ⟨[],[],[some [2,3]],[]⟩ ⟨[],[],[]⟩ (bl 6 62) (ww o0 (tt k2 (tt k1 (tt k0 nn)))))))) (fun k2=>(lr 61 3 [1,1,1,1,1,1,0] 1 4 [(2,(ii (wr (0 - v5)))),(3,(.bool false))] (sl Wx 38 [] ⟨[],[],[some [2,3]],[]⟩ ⟨[],[],[]⟩ (bl 6 2) (tt k2 (tt k1 (tt k0 nn)))))))) (fun k1=>(lb (fun k2=>(lo fun o0=>(lr 61 3 [1,1,1,1,1,1,0] 1 4 [(2,(ii v5)),(3,(.bool ((Wj v5) == x0)))] (sl Wx 34 [] ⟨[],[],[some [2,3]],[]⟩ ⟨[],[],[]⟩ (bl 6 60) (ww o0 (tt k2 (tt k1 (tt k0 nn)))))))) (fun k2=>(lr 61 3 [1,1,1,1,1,1,0] 1 4 [(2,(ii v5)),(3,(.bool false))] (sl Wx 34 [] ⟨[],[],[some [2,3]],[]⟩ ⟨[],[],[]⟩ (bl 6 0) (tt k2 (tt k1 (tt k0 nn)))))))))))
theorem y2r (x0:List UInt8):Vr prog (Zx prog 55) (numC x0) (Zs prog 55 [(.str x0)] true []) (z0t x0):=(lb (fun k0=>(lo fun aI=>(lb (fun k1=>(sl Wx 34 [] ⟨[],[],x3o,x3p⟩ ⟨[],[],[]⟩ (trs 4 []) (tt k1 (ww aI (tt k0 nn))))) (fun k1=>(sl Wx 32 [] ⟨[],[],x3o,x3p⟩ ⟨[],[],[]⟩ (trs 3 [false]) (tt k1 (ww aI (tt k0 nn)))))))) (fun k0=>(sl Wx 32 [] ⟨[],[],x3o,x3p⟩ ⟨[],[],[]⟩ [false,false,false,false] (tt k0 nn))))
theorem x3n (x0:List UInt8) (n:Nat) (vs:List AVal) (h:goOn (Kh x0) n (z0t x0)=.ret vs):z2v prog (Zx prog 55) (Zs prog 55 [(.str x0)] true []) vs:=by have:=Yd (y7d x0) n _ (y2r x0);rwa [h] at this
inductive rcuS where
 | h0 (v5:List (List UInt8)) (v6:Int) (v7:Int)
def rcuC (x0:List UInt8) (x1:Int):rcuS→Cfg
 | .h0 v5 v6 v7=>⟨⟨35,0,true⟩,none,(Yh prog 20 [1,1,1,0,1,0,0] 0),none,(Zx prog 3),⟨Vq [(0,(.str x0)),(1,(.int .u8 x1)),(5,(.sla 0 1 0 v5.length (.un 1))),(6,(ii v6)),(7,(ii v7))],Qg [⟨rows v5.length (Zz v5),9,some ⟨1,v5.length,(Zz v5)⟩⟩] 0,1,[],true⟩,[],.leaf⟩
def x3e :List (Option (List Nat)):=[some [0,1,5,6,7]]
def x3f :List (Option (List Nat)):=[]
def Jz (x0:List UInt8) (x1:Int):rcuS→Vj rcuS
 | .h0 v5 v6 v7=>(bif (decide (v7≤(x0.length:Int))) then (bif (v7 == (x0.length:Int)) then (bif (decide (v6.toNat≤v7.toNat)) then (bif (decide (v7.toNat≤x0.length)) then (bif (decide (0≤v6)) then (bif (decide (0≤v7)) then (bif (Nat.beq 1 1&&((decide (0+v5.length=v5.length))&&decide ((v5.length+1+1)*(16+1)≤Vt))) then (.to (.h0 (v5++[((x0.drop v6.toNat).take (v7.toNat - v6.toNat))]) (wrap .i64 (v7+1)) (wrap .i64 (v7+1)))) else .stuck) else .stuck) else .stuck) else .stuck) else .stuck) else (bif (decide (0≤v7∧v7<(x0.length:Int))) then (bif ((bAt x0 v7.toNat) == x1) then (bif (decide (v6.toNat≤v7.toNat)) then (bif (decide (v7.toNat≤x0.length)) then (bif (decide (0≤v6)) then (bif (decide (0≤v7)) then (bif (Nat.beq 1 1&&((decide (0+v5.length=v5.length))&&decide ((v5.length+1+1)*(16+1)≤Vt))) then (.to (.h0 (v5++[((x0.drop v6.toNat).take (v7.toNat - v6.toNat))]) (wrap .i64 (v7+1)) (wrap .i64 (v7+1)))) else .stuck) else .stuck) else .stuck) else .stuck) else .stuck) else (.to (.h0 v5 v6 (wrap .i64 (v7+1))))) else .stuck)) else (.ret [(.dat v5.length (Zz v5))]))
def z8g (x0:List UInt8) (x1:Int):Vj rcuS:=(.to (.h0 ([]:List (List UInt8)) 0 0))
theorem y6y (x0:List UInt8) (x1:Int): ∀s,Vr prog (Zx prog 20) (rcuC x0 x1) (rcuC x0 x1 s) (Jz x0 x1 s)
 | .h0 v5 v6 v7=>(lb (fun k0=>(lb (fun k1=>(lo fun o0=>(lo fun o1=>(lo fun o2=>(lo fun o3=>(lo fun o4=>(sl Wx 50 [] ⟨[2],[],x3e,x3f⟩ ⟨[(5,.len (v5++[((x0.drop (tn v6)).take ((tn v7) - (tn v6)))]).length)],[.rowed 1 (v5++[((x0.drop (tn v6)).take ((tn v7) - (tn v6)))]).length (Zz (v5++[((x0.drop (tn v6)).take ((tn v7) - (tn v6)))]))],[]⟩ (trs 7 []) (pp (xL (v5.length+1) (v5++[((x0.drop (tn v6)).take ((tn v7) - (tn v6)))]).length) (pp (xL (v5.length+1) (v5++[((x0.drop (tn v6)).take ((tn v7) - (tn v6)))]).length) (pp (xS (v5.length+1) (Zh (Zz v5) 0 v5.length 1 [(.str ((x0.drop (tn v6)).take ((tn v7) - (tn v6))))]) (Zz (v5++[((x0.drop (tn v6)).take ((tn v7) - (tn v6)))]))) (pp (pp (xF (Zh (Zz v5) 0 v5.length 1 [(.str ((x0.drop (tn v6)).take ((tn v7) - (tn v6))))])) nn) (ww o4 (pp (pp (xw o3) (pp (xw o2) (pp (xG (decide ((tn v7)≤x0.length))) (xG (decide ((tn v6)≤(tn v7))))))) (tt k1 (tt k0 nn))))))))))))))) (fun k1=>(lo fun bC=>(lb (fun k2=>(lo fun o0=>(lo fun o1=>(lo fun o2=>(lo fun o3=>(lo fun o4=>(sl Wx 50 [] ⟨[2],[],x3e,x3f⟩ ⟨[(5,.len (v5++[((x0.drop (tn v6)).take ((tn v7) - (tn v6)))]).length)],[.rowed 1 (v5++[((x0.drop (tn v6)).take ((tn v7) - (tn v6)))]).length (Zz (v5++[((x0.drop (tn v6)).take ((tn v7) - (tn v6)))]))],[]⟩ (bl 7 65) (pp (xL (v5.length+1) (v5++[((x0.drop (tn v6)).take ((tn v7) - (tn v6)))]).length) (pp (xL (v5.length+1) (v5++[((x0.drop (tn v6)).take ((tn v7) - (tn v6)))]).length) (pp (xS (v5.length+1) (Zh (Zz v5) 0 v5.length 1 [(.str ((x0.drop (tn v6)).take ((tn v7) - (tn v6))))]) (Zz (v5++[((x0.drop (tn v6)).take ((tn v7) - (tn v6)))]))) (pp (pp (xF (Zh (Zz v5) 0 v5.length 1 [(.str ((x0.drop (tn v6)).take ((tn v7) - (tn v6))))])) nn) (ww o4 (pp (pp (xw o3) (pp (xw o2) (pp (xG (decide ((tn v7)≤x0.length))) (xG (decide ((tn v6)≤(tn v7))))))) (tt k2 (ww bC (tt k1 (tt k0 nn))))))))))))))))) (fun k2=>(sl Wx 35 [] ⟨[0],[],x3e,x3f⟩ ⟨[],[],[]⟩ (bl 7 1) (pp (fl v5 nn) (tt k2 (ww bC (tt k1 (tt k0 nn)))))))))))) (fun k0=>(lr 35 3 [1,1,1,1,1,1,0] 1 3 [(4,(.dat v5.length (Zz v5)))] (sl Wx 15 [] ⟨[],[0],[some [4]],[]⟩ ⟨[(4,.frz v5.length v5.length (Zz v5) (Zz v5))],[],[]⟩ [false] (pp (xZ (x7o 1 1 0 v5.length v5.length (Zz v5)) v5.length (Zz v5)) (pp (xL v5.length v5.length) (pp (xS v5.length (Zz v5) (Zz v5)) (pp (fl v5 nn) (tt k0 nn)))))))))
theorem y2k (x0:List UInt8) (x1:Int):Vr prog (Zx prog 20) (rcuC x0 x1) (Zs prog 20 [(.str x0),(.int .u8 x1)] true []) (z8g x0 x1):=(sl Wx 19 [(9,1,Zz ([]:List (List UInt8)))] ⟨[0],[],x3e,x3f⟩ ⟨[(5,.grow 0 1)],[],[]⟩ [] (pp (fl ([]:List (List UInt8)) nn) nn))
theorem x3d (x0:List UInt8) (x1:Int) (n:Nat) (vs:List AVal) (h:goOn (Jz x0 x1) n (z8g x0 x1)=.ret vs):z2v prog (Zx prog 20) (Zs prog 20 [(.str x0),(.int .u8 x1)] true []) vs:=by have:=Yd (y6y x0 x1) n _ (y2k x0 x1);rwa [h] at this
def z1t (s:List UInt8):Option Int:=match atoiAll s with
 | .ok v=>bif decide (itoa v=s∧ -9999999≤v∧v≤9999999) then some v else none
 | _=>none
def y0b :List UInt8→Nat→Nat→Option Nat
 | [],_,n=>some n
 | c::r,j,n=>bif decide (c.toNat<48)||(decide (57<c.toNat)||decide (9<j)) then none else y0b r (j+1) (10*n+(c.toNat - 48))
def y9f (s:List UInt8):Bool:=match s with
 | c::_=>decide (c.toNat=45)
 | []=>false
def z2x (s:List UInt8):Nat:=bif y9f s then 1 else 0
def Wv (s:List UInt8):Int:=match y0b (s.drop (z2x s)) 0 0 with
 | some n=>bif y9f s then -(n:Int) else n
 | none=>0
def Km (s:List UInt8):Bool:=match y0b (s.drop (z2x s)) 0 0 with
 | some n=>decide (z2x s<s.length)&&decide (itoa (bif y9f s then -(n:Int) else n)=s)
 | none=>false
def Vp (s:List UInt8):Bool:=bif decide (8<s.length) then false else Km s&&(decide (-9999999≤Wv s)&&decide (Wv s≤9999999))
def Yc (s:List UInt8):Int:=bif decide (8<s.length) then 0 else Wv s
theorem z0v (c:UInt8) (r:List UInt8) (j n:Nat):y0b (c::r) j n=bif decide (c.toNat<48)||(decide (57<c.toNat)||decide (9<j)) then none else y0b r (j+1) (10*n+(c.toNat - 48)):=rfl
def badN:NumEnd Nat:=parseUint10 0 [58]
theorem z1r (c:UInt8) (r:List UInt8) (n:Nat):parseUint10 n (c::r)=if 48≤c.toNat∧c.toNat≤57 then
   if 1844674407370955162≤n then .range
   else if 18446744073709551616≤n*10+(c.toNat - 48) then .range
   else parseUint10 (n*10+(c.toNat - 48)) r
  else badN:=by
 rw [parseUint10]
 rfl
theorem z9z (n:Nat):parseUint10 n []=.ok n:=by rw [parseUint10]
theorem z4k : ∀(l m:List UInt8) (j n:Nat),y0b (l++m) j n=match y0b l j n with
  | none=>none
  | some v=>y0b m (j+l.length) v
 | [],m,j,n=>rfl
 | c::r,m,j,n=>by
  rw [A8,z0v,z0v];cases decide (c.toNat<48)||(decide (57<c.toNat)||decide (9<j)) with
  | true=>rfl
  | false=>rw [Ai,Ai,z4k r m (j+1)];rw [Al,show j+1+r.length=j+(r.length+1) by omega]
theorem Ue : ∀(l m:List UInt8) (n:Nat),parseUint10 n (l++m)=match parseUint10 n l with
  | .ok v=>parseUint10 v m
  | e=>e
 | [],m,n=>by rw [z9z];rfl
 | c::r,m,n=>by
  rw [A8,z1r,z1r];split
  ·split
   ·rfl
   ·split
    ·rfl
    ·exact Ue r m _
  ·rfl
theorem z0e {u:Nat} (h:u<10):(UInt8.ofNat (48+u)).toNat =48+u:=by rw [UInt8.toNat_ofNat'];omega
theorem Vx : ∀(k u:Nat),u<10 ^ (k+1)→(decDigits u).length ≤k+1
 | 0,u,h=>by rw [decDigits,dif_pos (by simpa using h)];exact Aj _
 | k+1,u,h=>by
  by_cases g:u<10
  ·rw [decDigits,dif_pos g];simp
  ·rw [decDigits,dif_neg g,Ao,AC];have:=Vx k (u / 10) (by rw [Nat.pow_succ] at h;omega);omega
theorem z1g (u:Nat):1≤(decDigits u).length :=by
 rw [decDigits];split
 ·exact Aj _
 ·rw [Ao,AC];omega
theorem y4x {u j n:Nat} (h:u<10) (hj:j≤9):y0b [UInt8.ofNat (48+u)] j n=some (10*n+u):=by rw [z0v,z0e h,Ak (by omega),Ak (by omega),Ak (show ¬9<j by omega)];show some (10*n+(48+u - 48))=_;rw [show 48+u - 48=u by omega]
theorem z9y {u n:Nat} (h:u<10) (hn:n<1000000000000):parseUint10 n [UInt8.ofNat (48+u)]=.ok (10*n+u):=by rw [z1r,z0e h,Av (by omega),As (by omega),As (by omega),z9z];rw [show n*10+(48+u - 48)=10*n+u by omega]
theorem z8k : ∀(k u:Nat),u<10 ^ (k+1)→k≤9→y0b (decDigits u) 0 0=some u
 | k,u,h,hk=>by
  by_cases g:u<10
  ·rw [decDigits,dif_pos g,y4x g (by omega)];simp
  ·match k,h,hk with
   | 0,h,_=>omega
   | k+1,h,hk=>
    have hs:u / 10<10 ^ (k+1):=by rw [Nat.pow_succ] at h;omega
    have hl:=Vx k (u / 10) hs;rw [decDigits,dif_neg g,z4k,z8k k (u / 10) hs (by omega)];show y0b _ (0+(decDigits (u / 10)).length) _=_;rw [y4x (by omega) (by omega),show 10*(u / 10)+u %10=u by omega]
theorem z4f : ∀(k u:Nat),u<10 ^ (k+1)→k≤9→parseUint10 0 (decDigits u)=.ok u
 | k,u,h,hk=>by
  by_cases g:u<10
  ·rw [decDigits,dif_pos g,z9y g (by omega)];simp
  ·match k,h,hk with
   | 0,h,_=>omega
   | k+1,h,hk=>
    have hs:u / 10<10 ^ (k+1):=by rw [Nat.pow_succ] at h;omega
    have hb:(10:Nat) ^ (k+1)≤10 ^ 10:=Nat.pow_le_pow_right (by decide) (by omega);rw [decDigits,dif_neg g,Ue,z4f k (u / 10) hs (by omega)];show parseUint10 _ _=_;rw [z9y (by omega) (by omega),show 10*(u / 10)+u %10=u by omega]
theorem z6s : ∀(u:Nat),∃c r,decDigits u=c::r∧48≤c.toNat∧c.toNat≤57:=by
 intro u
 induction u using Nat.strongRecOn with
 | _ u ih=>
  by_cases g:u<10
  ·refine ⟨_,[],by rw [decDigits,dif_pos g],?_⟩;rw [z0e g];omega
  ·obtain ⟨c,r,e,h⟩:=ih (u / 10) (by omega);refine ⟨c,r++[UInt8.ofNat (48+u %10)],?_,h⟩;rw [decDigits,dif_neg g,e];rfl
theorem y0t {n:Int} {s:List UInt8} (hs:itoa n=s) (h0: -9999999≤n) (h1:n≤9999999):
  atoiAll s=.ok n∧s.length≤8∧Km s=true∧Wv s=n:=by
 by_cases hn:n<0
 ·have hu : n.natAbs < 10 ^ (6 + 1) := by have:(10:Nat) ^ (6+1)=10000000:=by decide
                                          omega
  have e:s=45::decDigits n.natAbs:=by rw [←hs];unfold itoa;rw [Av hn]
  have hl:=Vx 6 _ hu;have hp:=z1g n.natAbs;have h45:(45:UInt8).toNat =45:=rfl;have hsg:y9f s=true:=by rw [e];rfl
  have hsn:z2x s=1:=by unfold z2x;rw [hsg];rfl
  have hnl:y0b (s.drop (z2x s)) 0 0=some n.natAbs:=by rw [hsn,e];exact z8k 6 _ hu (by decide)
  refine ⟨?_,by rw [e,Al];omega,?_,?_⟩
  ·rw [e];unfold atoiAll;simp only [h45,or_true,if_true];have hm:parseMag (decDigits n.natAbs)=.ok n.natAbs:=by unfold parseMag;rw [As (by intro hh;rw [hh] at hp;simp at hp),z4f 6 _ hu (by decide)]
   rw [hm];have: ¬9223372036854775808<n.natAbs:=by omega
   simp [this];omega
  ·unfold Km;rw [hnl,hsg,hsn];show (decide (1<s.length)&&decide (itoa (-(n.natAbs:Int))=s))=true;rw [Ah (by rw [e,Al];omega),show (-(n.natAbs:Int))=n by omega,Ah hs];rfl
  ·unfold Wv;rw [hnl,hsg];show -(n.natAbs:Int)=n;omega
 ·have hu : n.toNat < 10 ^ (6 + 1) := by have:(10:Nat) ^ (6+1)=10000000:=by decide
                                         omega
  have e:s=decDigits n.toNat:=by rw [←hs];unfold itoa;rw [As hn]
  have hl:=Vx 6 _ hu;have hp:=z1g n.toNat;obtain ⟨c,r,ec,hc⟩:=z6s n.toNat;have hsg:y9f s=false:=by rw [e,ec];exact Ak (by omega)
  have hsn:z2x s=0:=by unfold z2x;rw [hsg];rfl
  have hnl:y0b (s.drop (z2x s)) 0 0=some n.toNat:=by rw [hsn,e];exact z8k 6 _ hu (by decide)
  refine ⟨?_,by rw [e];omega,?_,?_⟩
  ·have hm:parseMag (decDigits n.toNat)=.ok n.toNat:=by unfold parseMag;rw [As (by intro hh;rw [hh] at hp;simp at hp),z4f 6 _ hu (by decide)]
   rw [e];rw [ec] at hm ⊢;unfold atoiAll;have g1: ¬(c.toNat=43∨c.toNat=45):=by omega
   have g2: ¬c.toNat=45:=by omega
   have g3: ¬9223372036854775808≤n.toNat:=by omega
   simp only [As g1,hm];simp [g2,g3];omega
  ·unfold Km;rw [hnl,hsg,hsn];show (decide (0<s.length)&&decide (itoa (n.toNat:Int)=s))=true;rw [Ah (by rw [e];omega),show ((n.toNat:Nat):Int)=n by omega,Ah hs];rfl
  ·unfold Wv;rw [hnl,hsg];show (n.toNat:Int)=n;omega
theorem x0h {n:Int} {s:List UInt8} (hs:itoa n=s) (h0: -9999999≤n) (h1:n≤9999999):z1t s=some n:=by unfold z1t;rw [(y0t hs h0 h1).1];show (bif decide _ then some n else none)=_;rw [Ah ⟨hs,h0,h1⟩];rfl
theorem x0g {s:List UInt8} {n:Int} (h:z1t s=some n):itoa n=s∧ -9999999≤n∧n≤9999999:=by
 unfold z1t at h;split at h
 ·rename_i v _;by_cases g:itoa v=s∧ -9999999≤v∧v≤9999999
  ·rw [Ah g] at h;obtain rfl:=Ac h;exact g
  ·rw [Ak g] at h;cases h
 ·cases h
theorem x0i {s:List UInt8} (h:Km s=true):itoa (Wv s)=s:=by
 unfold Km at h;unfold Wv;cases e:y0b (s.drop (z2x s)) 0 0 with
 | none=>rw [e] at h;cases h
 | some n=>rw [e] at h;exact Ax (Bj.1 h).2
theorem x2y (s:List UInt8):Vp s=(z1t s).isSome ∧(Vp s=true→z1t s=some (Yc s)):=by
 have key:Vp s=true→z1t s=some (Yc s):=fun h=>by
  unfold Vp at h;unfold Yc;by_cases g:8<s.length
  ·rw [Ah g] at h;cases h
  ·rw [Ak g,Ai] at h ⊢;simp only [Ad,Aq] at h;exact x0h (x0i h.1) h.2.1 h.2.2
 refine ⟨?_,key⟩;cases hx:z1t s with
 | none=>
  cases hr:Vp s with
  | false=>rfl
  | true=>rw [key hr] at hx;cases hx
 | some n=>obtain ⟨h1,h2,h3⟩:=x0g hx;obtain ⟨_,b2,b3,b4⟩:=y0t h1 h2 h3;unfold Vp;rw [Ak (by omega),Ai,b3,b4,Ah h2,Ah h3];rfl
def Xe (b:UInt8):List UInt8→List UInt8→List (List UInt8)
 | cur,[]=>[cur]
 | cur,x::r=>bif x == b then cur::Xe b [] r else Xe b (cur++[x]) r
theorem z2c (b:UInt8): ∀(s cur:List UInt8),Xe b cur s=match Xe b [] s with
  | []=>[]
  | p::l=>(cur++p)::l
 | [],cur=>by simp [Xe]
 | x::r,cur=>by
  unfold Xe;cases x == b with
  | true=>simp
  | false=>
   rw [Ai,Ai,z2c b r (cur++[x]),z2c b r ([]++[x])];cases Xe b [] r with
   | nil=>rfl
   | cons p l=>simp
theorem z5m (b:UInt8) (s cur:List UInt8):Xe b cur s≠ []:=by
 induction s generalizing cur with
 | nil=>simp [Xe]
 | cons x r ih=>
  unfold Xe;cases x == b with
  | true=>simp
  | false=>exact ih _
theorem z6g {b x:UInt8} (h:x≠b) (k:Nat) (s:List UInt8):splitK [b] 0 k (x::s)=match splitK [b] 0 k s with
  | []=>[]
  | p::l=>(x::p)::l:=by
 have hp:([b]:List UInt8).isPrefixOf (x::s)=false:=by simp [List.isPrefixOf,Ne.symm h]
 have hix:index (x::s) [b]=if index s [b] == -1 then -1 else index s [b]+1:=by rw [index,hp];simp
 have hge:=index_ge s [b];cases k with
 | zero=>rfl
 | succ k=>
  unfold splitK;by_cases hm:index s [b]= -1
  ·rw [hix,Av (Ba.2 hm),Av (by decide),Av (Ba.2 hm)]
  ·have h1: ¬(index s [b] == -1)=true:=fun e=>hm (Ba.1 e);have h2: ¬(index s [b]+1 == -1)=true:=fun e=>by have:=Ba.1 e;omega
   obtain ⟨j,hj⟩: ∃j:Nat,index s [b]=j:=⟨(index s [b]).toNat,by omega⟩
   rw [hix,As h1,As h1,As h2,hj];have e1:((j:Int)+1).toNat =j+1:=by omega
   have e2:(j:Int).toNat =j:=by omega
   rw [e1,e2];simp only [AC,Bc,List.take_succ_cons];rw [show j+1+1=(j+1)+1 from rfl,List.drop_succ_cons]
theorem z9r (b:UInt8): ∀s:List UInt8,split s [b]=Xe b [] s
 | []=>by unfold split;rw [count_one];rfl
 | x::r=>by
  have ih:=z9r b r;unfold split at ih ⊢;by_cases h:x=b
  ·subst h;rw [count_cons_eq,Nat.add_comm];have hix:index (x::r) [x]=0:=by rw [index];simp [List.isPrefixOf]
   rw [splitK,hix,As (by decide)];simp only [Int.toNat_zero,Bc,List.take_zero,AC,AA,List.drop_succ_cons,A9];rw [ih,Xe];simp
  ·rw [count_cons_ne x b r h,z6g h,ih,Xe];have hb:(x == b)=false:=by simpa using h
   rw [hb,Ai,z2c b r ([]++[x])];cases Xe b [] r with
   | nil=>rfl
   | cons p l=>rfl
theorem z8u (b:UInt8): ∀(s cur:List UInt8),Xe b cur (s++[b])=Xe b cur s++[[]]
 | [],cur=>by simp [Xe]
 | x::r,cur=>by
  rw [A8,Xe,Xe];cases x == b with
  | true=>rw [Ap,Ap,z8u b r];rfl
  | false=>rw [Ai,Ai,z8u b r]
theorem z5n (b:UInt8): ∀(s cur:List UInt8),(Xe b cur s).getLast? =some []→(cur=[]∧s=[])∨ ∃t,s=t++[b]
 | [],cur,h=>by left;simp [Xe] at h;exact ⟨h,rfl⟩
 | x ::r,cur,h=>by
  rw [Xe] at h;by_cases hx:x=b
  ·subst hx;right;rw [show (x == x)=true by simp,Ap,List.getLast?_cons] at h;have hne:=z5m x r [];have h':(Xe x [] r).getLast? =some []:=by
    cases hc:Xe x [] r with
    | nil=>exact absurd hc hne
    | cons p l=>
     rw [hc] at h;rw [List.getLast?_cons] at h ⊢
     simpa using h
   rcases z5n x r [] h' with ⟨_,rfl⟩ | ⟨t,rfl⟩
   ·exact ⟨[],rfl⟩
   ·exact ⟨x::t,rfl⟩
  ·rw [show (x == b)=false by simpa using hx,Ai] at h;rcases z5n b r _ h with ⟨e,_⟩ | ⟨t,rfl⟩
   ·simp at e
   ·exact .inr ⟨x::t,rfl⟩
theorem Wz (b:UInt8): ∀(s cur:List UInt8),(Xe b cur s).length ≤s.length+1
 | [],cur=>by simp [Xe]
 | x::r,cur=>by
  rw [Xe,Al];cases x == b with
  | true=>have:=Wz b r [];rw [Ap,Al];omega
  | false=>have:=Wz b r (cur++[x]);rw [Ai];omega
theorem Uu (b:UInt8): ∀(s cur p:List UInt8),p∈Xe b cur s→p.length≤cur.length+s.length
 | [],cur,p,h=>by simp [Xe] at h;subst h;simp
 | x::r,cur,p,h=>by
  rw [Xe] at h;cases hx:x == b with
  | true=>
   rw [hx,Ap] at h;rcases A6.1 h with rfl | h
   ·simp
   ·have:=Uu b r [] p h;simp at this ⊢;omega
  | false=>rw [hx,Ai] at h;have:=Uu b r _ p h;simp at this ⊢;omega
theorem fTwo {P:Program} {S:Specs} (hS:Zk P S) {f:FuncId} {F:List AVal→Option (AVal×Bool)} (hf:(P.funcs[f]?).any (fun fn=>fn.body.isSome)=true)
  (hF: ∀args v,F args=some (v,true)→ ∃bs vs,Xj VLe args bs∧(∀(ρ:Rho) (u:Value),Zj ρ (Uq vs) u→Zj ρ v u)∧z2v P (Zx P f) (Zs P f bs true []) vs∧ ∃d,pf d (Uq vs)=true):Zk P (S.with f F):=
 y6a hS hf fun args v h=>by obtain ⟨bs,vs,h1,h2,h3,d,h4⟩:=hF args v h;exact ⟨vs,h2,y0r h1 h3,d,h4⟩
theorem y8z {cs cs':List AVal} (h:RLe cs cs') (ρ:Rho) (u:Value) (hv:Zj ρ (.tup cs) u):Zj ρ (.tup cs') u:=by
 cases hv with
 | tup _ vs hl hh=>exact .tup cs' vs (by rw [←h.len];exact hl) fun i h1 h2=>h.sound i (by rw [h.len];exact h1) h1 (hh i (by rw [h.len];exact h1) h2)
theorem y2s (α:Type) [Wk α]:VLe .nils (.dat ([]:List α).length (Zz ([]:List α))):=.nild _
theorem x1q {s:List UInt8} {i:Nat} (h:i<s.length):bAt s i=((s[i].toNat :Nat):Int):=by unfold bAt;rw [A1,An h];rfl
theorem u8_lt (c:UInt8):c.toNat<256:=UInt8.toNat_lt c
def numE (s:List UInt8) (f:Nat):Option Nat→List AVal
 | none=>[.int .i64 0,.bool false]
 | some m=>[.int .i64 (bif Nat.beq f 1 then -(m:Int) else m),.bool (decide (f<s.length)&&decide (itoa (bif Nat.beq f 1 then -(m:Int) else m)=s))]
theorem x5s {s:List UInt8} {f:Nat} (hf:f=0∨f=1) (hs:s.length≤1000000): ∀(k i n:Nat),i+k=s.length→f≤i→i - f≤10→n<10 ^ (i - f)→
  ∃N,goOn (Kh s) N (.to (.h0 (f:Int) (n:Int) (i:Int)))=.ret (numE s f (y0b (s.drop i) (i - f) n))
 | 0,i,n,h,hfi,hj,hn=>by
  refine ⟨1,?_⟩;have hp:(10:Nat) ^ (i - f)≤10 ^ 10:=Nat.pow_le_pow_right (by decide) hj;have hd: ∀v:Int,(Wj v == s)=decide (itoa v=s):=fun v=>by unfold Wj;rw [AV];simp
  rw [Zf,AH (by omega)];have e:Kh s (.h0 (f:Int) (n:Int) (i:Int))=.ret (numE s f (some n)):=by
   unfold Kh numE;simp only [];rw [z3a (by omega),Ai];have w:wrap .i64 (0 - (n:Int))= -(n:Int):=by rw [Xi (by omega)];omega
   rcases hf with rfl | rfl
   ·rw [show (((0:Nat):Int) == 1)=false from rfl,Ai,show Nat.beq 0 1=false from rfl,Ai];by_cases g:0<s.length
    ·rw [z5j (by omega),Ap,Zp (show Xb (n:Int)=true from Ah (by omega)),hd,Ah g];rfl
    ·rw [z6r (by omega),Ai,Ak g];rfl
   ·rw [show (((1:Nat):Int) == 1)=true from rfl,Ap,show Nat.beq 1 1=true from rfl,Ap,w];by_cases g:1<s.length
    ·rw [z5j (by omega),Ap,Zp (show Xb (-(n:Int))=true from Ah (by omega)),hd,Ah g];rfl
    ·rw [z6r (by omega),Ai,Ak g];rfl
  rw [e];rfl
 | k +1,i,n,h,hfi,hj,hn=>by
  have hi:i<s.length:=by omega
  have hp:(10:Nat) ^ (i - f)≤10 ^ 10:=Nat.pow_le_pow_right (by decide) hj;have hc:=u8_lt s[i];rw [AU hi,z0v];have w1:wrap .i64 ((f:Int)+9)=(f:Int)+9:=Xi (by omega);have w2:wrap .i64 ((i:Int)+1)=((i+1:Nat):Int):=Xi (by omega);have e:Kh s (.h0 (f:Int) (n:Int) (i:Int))=bif decide (s[i].toNat <48)||(decide (57<s[i].toNat)||decide (9<i - f)) then .ret [.int .i64 0,.bool false] else .to (.h0 (f:Int) ((10*n+(s[i].toNat - 48):Nat):Int) ((i+1:Nat):Int)):=by
   unfold Kh;simp only [Vg,x1q hi,w1,w2];rw [Zp (z2a (by omega)),Zp (z6q (by omega))];by_cases g1:s[i].toNat <48
   ·rw [z2a (by omega),Ah g1];rfl
   ·rw [z3a (by omega),Ak g1,Ai];by_cases g2:57<s[i].toNat
    ·rw [z5j (by omega),Ah g2];rfl
    ·rw [z6r (by omega),Ak g2,Ai];by_cases g3:9<i - f
     ·rw [z5j (by omega),Ah g3];rfl
     ·rw [z6r (by omega),Ak g3,Ai,w8 _ (by omega),Xi (n:=((s[i].toNat :Nat):Int) - 48) (by omega),Xi (n:=10*(n:Int)) (by omega),Xi (by omega)];show Vj.to _=Vj.to _
      congr 2
      omega
  by_cases g:(decide (s[i].toNat <48)||(decide (57<s[i].toNat)||decide (9<i - f)))=true
  ·refine ⟨1,?_⟩;rw [Zf,e,g,Ap,Ap,Yn];rfl
  ·have g':=AP.2 g;have g3:i - f≤9:=by simp only [AY,AZ] at g';omega
   have g4:s[i].toNat ≤57:=by simp only [AY,AZ] at g';omega
   obtain ⟨N,hN⟩:=x5s hf hs k (i+1) (10*n+(s[i].toNat - 48)) (by omega) (by omega) (by omega) (by
    rw [show i+1 - f=(i - f)+1 by omega,Nat.pow_succ];omega)
   refine ⟨N+1,?_⟩;rw [Zf,e,g',Ai,Ai,hN,show i+1 - f=i - f+1 by omega]
def z0u (s:List UInt8):Bool:=decide (s.length≤1000000)
theorem x7d (s:List UInt8):numE s (z2x s) (y0b (s.drop (z2x s)) 0 0)=[.int .i64 (Wv s),.bool (Km s)]:=by
 have hb:Nat.beq (z2x s) 1=y9f s:=by unfold z2x;cases y9f s <;> rfl
 unfold Wv Km;cases e:y0b (s.drop (z2x s)) 0 0 with
 | none=>rfl
 | some m=>unfold numE;simp only [hb]
theorem x7c (s:List UInt8) (h:z0u s=true): ∃N,goOn (Kh s) N (z0t s)=.ret [.int .i64 (Wv s),.bool (Km s)]:=by
 have hs:s.length≤1000000:=Ax h;rw [←x7d];have e:z0t s=.to (.h0 (z2x s:Int) ((0:Nat):Int) (z2x s:Int)):=by
  unfold z0t
  match s with
  | []=>rfl
  | c::r=>
   rw [Zp (z5j (by rw [Al];omega)),Zp (Ah ⟨Int.le_refl _,by rw [Al];omega⟩)];have hb:(bAt (c::r) 0 == 45)=y9f (c::r):=by show (((c.toNat:Nat):Int) == 45)=decide (c.toNat=45);rw [AV];simp;omega
   rw [hb];unfold z2x;cases y9f (c::r) <;> rfl
 rw [e];have hle:z2x s≤s.length:=by
  unfold z2x
  match s with
  | []=>exact Aj _
  | c::r=>cases y9f (c::r) <;> simp
 have h01:z2x s=0∨z2x s=1:=by unfold z2x;cases y9f s <;> simp
 obtain ⟨N,hN⟩:=x5s h01 hs (s.length - z2x s) (z2x s) 0 (by omega) (Aj _) (by omega) (by rw [Nat.sub_self];decide);rw [Nat.sub_self] at hN;exact ⟨N,hN⟩
def fNum :List AVal→Option (AVal×Bool)
 | [.str s]=>some (.tup [.int .i64 (Wv s),.bool (Km s)],z0u s)
 | _=>none
theorem x8a {S:Specs} (hS:Zk prog S):Zk prog (S.with numN fNum):=y5o hS (by kernel_rfl) fun args v h=>by
 unfold fNum at h;split at h
 ·rename_i s;simp only [Ab,Aa] at h;obtain ⟨rfl,ho⟩:=h;obtain ⟨N,hN⟩:=x7c s ho;exact ⟨_,_,.cons (.refl _) .nil,rfl,x3n s N _ hN,3,rfl⟩
 ·cases h
def Zw (s:List UInt8) (b:Int):List (List UInt8):=Xe (UInt8.ofNat b.toNat) [] s
def Vw (s:List UInt8) (b:Int):Bool:=decide (s.length≤1000000)&&decide (0≤b∧b<256)
theorem y9u {s:List UInt8} {b:Nat} (hb:b<256) (hs:s.length≤1000000): ∀(k i fr:Nat) (out:List (List UInt8)),i+k=s.length→fr≤i→out.length≤i→
  ∃N,goOn (Jz s (b:Int)) N (.to (.h0 out (fr:Int) (i:Int)))=.ret [.dat (out++Xe (UInt8.ofNat b) ((s.drop fr).take (i - fr)) (s.drop i)).length (Zz (out++Xe (UInt8.ofNat b) ((s.drop fr).take (i - fr)) (s.drop i)))]
 | 0,i,fr,out,h,hfi,ho=>by
  refine ⟨2,?_⟩;have w2:wrap .i64 ((i:Int)+1)=((i+1:Nat):Int):=Xi (by omega);have e:Jz s (b:Int) (.h0 out (fr:Int) (i:Int))=.to (.h0 (out++[(s.drop fr).take (i - fr)]) ((i+1:Nat):Int) ((i+1:Nat):Int)):=by unfold Jz;simp only [Vg,w2];rw [Zp (y3n (by omega)),Zp (x6b (by omega)),Zp (x0l hfi),Zp (x0l (by omega)),Zp (y3n (by omega)),Zp (y3n (by omega)),Zp];rw [Ad,Ad];exact ⟨rfl,Ah (by omega),z4a (by omega)⟩
  have e2: ∀o,Jz s (b:Int) (.h0 o ((i+1:Nat):Int) ((i+1:Nat):Int))=.ret [.dat o.length (Zz o)]:=fun o=>by unfold Jz;simp only [];rw [dle_f (by omega),Ai]
  rw [Zf,e,Zf,e2,AH (show s.length≤i by omega)];rfl
 | k+1,i,fr,out,h,hfi,ho=>by
  have hi:i<s.length:=by omega
  have hc:=u8_lt s[i];have w2:wrap .i64 ((i:Int)+1)=((i+1:Nat):Int):=Xi (by omega);have hbb:((((s[i].toNat :Nat):Int)) == (b:Int))=(s[i] == UInt8.ofNat b):=by
   rw [AV,Ba,Ba];constructor
   ·intro h;apply UInt8.toNat_inj.1;rw [UInt8.toNat_ofNat'];omega
   ·intro h;rw [h,UInt8.toNat_ofNat'];omega
  have e:Jz s (b:Int) (.h0 out (fr:Int) (i:Int))=bif s[i] == UInt8.ofNat b then .to (.h0 (out++[(s.drop fr).take (i - fr)]) ((i+1:Nat):Int) ((i+1:Nat):Int)) else .to (.h0 out (fr:Int) ((i+1:Nat):Int)):=by
   unfold Jz;simp only [Vg,w2,x1q hi,hbb];rw [Zp (y3n (by omega)),x6c (by omega),Ai,Zp (z6q (by omega))];have hr:(Nat.beq 1 1&&((decide (0+out.length=out.length))&&decide ((out.length+1+1)*(16+1)≤Vt)))=true:=by rw [Ad,Ad];exact ⟨rfl,Ah (by omega),z4a (by omega)⟩
   rw [Zp (x0l hfi),Zp (x0l (by omega)),Zp (y3n (by omega)),Zp (y3n (by omega)),Zp hr]
  rw [AU hi,Xe];cases g:s[i] == UInt8.ofNat b with
  | true=>obtain ⟨N,hN⟩:=y9u hb hs k (i+1) (i+1) (out++[(s.drop fr).take (i - fr)]) (by omega) (Aj _) (by rw [Ao,AC];omega);refine ⟨N+1,?_⟩;rw [Zf,e,g,Ap,Ap,hN,Nat.sub_self,List.take_zero,AK];rfl
  | false=>
   obtain ⟨N,hN⟩:=y9u hb hs k (i+1) fr out (by omega) (by omega) (by omega);refine ⟨N+1,?_⟩;have ht:(s.drop fr).take (i+1 - fr)=(s.drop fr).take (i - fr)++[s[i]]:=by
    rw [show i+1 - fr=(i - fr)+1 by omega,List.take_add_one]
    congr 1
    rw [List.getElem?_drop,show fr+(i - fr)=i by omega,An hi];rfl
   rw [Zf,e,g,Ai,Ai,hN,ht]
theorem x6y (s:List UInt8) (b:Int) (h:Vw s b=true): ∃N,goOn (Jz s b) N (z8g s b)=.ret [.dat (Zw s b).length (Zz (Zw s b))]:=by
 unfold Vw at h;rw [Ad,Aq,Aq] at h;obtain ⟨n,rfl⟩: ∃n:Nat,b=(n:Int):=⟨b.toNat,by omega⟩
 obtain ⟨N,hN⟩:=y9u (b:=n) (by omega) h.1 s.length 0 0 [] (AA _) (Aj _) (Aj _);exact ⟨N,hN⟩
def fRcu :List AVal→Option (AVal×Bool)
 | [.str s,.int .u8 b]=>some (.dat (Zw s b).length (Zz (Zw s b)),Vw s b)
 | _=>none
theorem x7x {S:Specs} (hS:Zk prog S):Zk prog (S.with rcuN fRcu):=y5o hS (by kernel_rfl) fun args v h=>by
 unfold fRcu at h;split at h
 ·rename_i s b;simp only [Ab,Aa] at h;obtain ⟨rfl,ho⟩:=h;obtain ⟨N,hN⟩:=x6y s b ho;exact ⟨_,_,.cons (.refl _) (.cons (.refl _) .nil),rfl,x3d s b N _ hN,3,rfl⟩
 ·cases h
def S4 :Specs:=(S3.with numN fNum).with rcuN fRcu
theorem x2a :Zk prog S4:=x7x (x8a Wx)
inductive rnuS where
def rnuC (x0:List UInt8):rnuS→Cfg
 :=nofun
def y2c (x0:List UInt8):rnuS→Vj rnuS
 :=nofun
def z3k (x0:List UInt8):Vj rnuS:=(bif (decide ((x0.length:Int)>8)) then (.ret [(.int .i64 0),(.bool false)]) else (bif (z0u x0) then (bif (Km x0) then (bif (decide ((Wv x0)≥(-9999999))) then (.ret [(.int .i64 (Wv x0)),(.bool (decide ((Wv x0)≤9999999)))]) else (.ret [(.int .i64 (Wv x0)),(.bool false)])) else (.ret [(.int .i64 (Wv x0)),(.bool false)])) else .stuck))
theorem y6s (x0:List UInt8): ∀s,Vr prog (Zx prog 34) (rnuC x0) (rnuC x0 s) (y2c x0 s)
 :=nofun
theorem y2d (x0:List UInt8):Vr prog (Zx prog 34) (rnuC x0) (Zs prog 34 [(.str x0)] true []) (z3k x0):=(lb (fun k0=>(lr 24 34 [1,0,1,0,0] 1 4 [(2,(ii 0)),(3,(.bool false))] (sl x2a 18 [] ⟨[],[],[some [2,3]],[]⟩ ⟨[],[],[]⟩ [true] (tt k0 nn)))) (fun k0=>(lo fun aI=>(lb (fun k1=>(lb (fun k2=>(lr 24 3 [1,1,1,1,1,1,0] 1 4 [(2,(ii (Wv x0))),(3,(.bool (decide ((Wv x0)≤9999999))))] (sl x2a 39 [] ⟨[],[],[some [2,3]],[]⟩ ⟨[],[],[]⟩ [false,true,true,true,true] (tt k2 (tt k1 (ww aI (tt k0 nn))))))) (fun k2=>(lr 24 3 [1,1,1,1,1,1,0] 1 4 [(2,(ii (Wv x0))),(3,(.bool false))] (sl x2a 39 [] ⟨[],[],[some [2,3]],[]⟩ ⟨[],[],[]⟩ [false,true,true,false,false] (tt k2 (tt k1 (ww aI (tt k0 nn))))))))) (fun k1=>(lr 24 3 [1,1,1,1,1,1,0] 1 4 [(2,(ii (Wv x0))),(3,(.bool false))] (sl x2a 39 [] ⟨[],[],[some [2,3]],[]⟩ ⟨[],[],[]⟩ [false,false,false,false,false] (tt k1 (ww aI (tt k0 nn))))))))))
theorem x2z (x0:List UInt8) (n:Nat) (vs:List AVal) (h:goOn (y2c x0) n (z3k x0)=.ret vs):z2v prog (Zx prog 34) (Zs prog 34 [(.str x0)] true []) vs:=by have:=Yd (y6s x0) n _ (y2d x0);rwa [h] at this
def Jj (s:List UInt8):Bool:=decide (s.length≤1000000)
theorem x6r (s:List UInt8) (h:Jj s=true): ∃N,goOn (y2c s) N (z3k s)=.ret [.int .i64 (Yc s),.bool (Vp s)]:=⟨0,by
 have ho:z0u s=true:=h;unfold z3k Yc Vp;by_cases g:8<s.length
 ·rw [z5j (by omega),Ah g];rfl
 ·rw [z6r (by omega),Ak g,Ai,Ai,Ai,Zp ho];cases Km s with
  | false=>rfl
  | true=>
   by_cases g1: -9999999≤Wv s
   ·rw [Ah g1];rfl
   ·rw [Ak g1];rfl⟩
def fRnu :List AVal→Option (AVal×Bool)
 | [.str s]=>some (.tup [.int .i64 (Yc s),.bool (Vp s)],Jj s)
 | _=>none
theorem x7u {S:Specs} (hS:Zk prog S):Zk prog (S.with rnuN fRnu):=y5o hS (by kernel_rfl) fun args v h=>by
 unfold fRnu at h;split at h
 ·rename_i s;simp only [Ab,Aa] at h;obtain ⟨rfl,ho⟩:=h;obtain ⟨N,hN⟩:=x6r s ho;exact ⟨_,_,.cons (.refl _) .nil,rfl,x2z s N _ hN,3,rfl⟩
 ·cases h
def S5 :Specs:=S4.with rnuN fRnu
theorem y8s :Zk prog S5:=x7u x2a
inductive rreS where
 | h0 (v6:List Int) (v7:Int)
def rreC (l0:List (List UInt8)) (x1:Int):rreS→Cfg
 | .h0 v6 v7=>⟨⟨35,0,true⟩,none,(Yh prog 21 [1,1,1,0,1,0,0] 0),none,(Zx prog 21),⟨Vq [(0,(.dat l0.length (Zz l0))),(6,(.sla 0 1 0 v6.length (.un 1))),(7,(ii v7))],Qg [⟨rows v6.length (Zz v6),3,some ⟨1,v6.length,(Zz v6)⟩⟩] 0,1,[],true⟩,[],.leaf⟩
def rreN0 :List (Option (List Nat)):=[some [0,6,7]]
def rreM0 :List (Option (List Nat)):=[]
def Ka (l0:List (List UInt8)) (x1:Int):rreS→Vj rreS
 | .h0 v6 v7=>(bif (decide (v7<(l0.length:Int))) then (bif ((decide (0≤v7∧v7<(l0.length:Int)))&&true) then (bif (Jj (rd l0 v7.toNat)) then (bif (!(Vp (rd l0 v7.toNat))) then (.ret [.nils,(.bool false)]) else (bif (Nat.beq 1 1&&((decide (0+v6.length=v6.length))&&decide ((v6.length+1+1)*(8+1)≤Vt))) then (.to (.h0 (v6++[(Yc (rd l0 v7.toNat))]) (wrap .i64 (v7+1)))) else .stuck)) else .stuck) else .stuck) else (.ret [(.dat v6.length (Zz v6)),(.bool true)]))
def z3i (l0:List (List UInt8)) (x1:Int):Vj rreS:=(bif ((l0.length:Int) != x1) then (.ret [.nils,(.bool false)]) else (.to (.h0 ([]:List Int) 0)))
theorem y6q (l0:List (List UInt8)) (x1:Int): ∀s,Vr prog (Zx prog 21) (rreC l0 x1) (rreC l0 x1 s) (Ka l0 x1 s)
 | .h0 v6 v7=>(lb (fun k0=>(lo fun aI=>(lo fun aY=>(lb (fun k1=>(lr 35 21 [1,1,1,0,1,0,0,1,0,0,1,0,1,0,0] 1 21 [(4,.nils),(5,(.bool false))] (sl y8s 37 [] ⟨[],[],[some [4,5]],[]⟩ ⟨[],[],[]⟩ (bl 2 3) (tt k1 (ww aY (ww aI (tt k0 nn))))))) (fun k1=>(lo fun o0=>(sl y8s 47 [] ⟨[2],[],rreN0,rreM0⟩ ⟨[(6,.len (v6++[(Yc (rd l0 (tn v7)))]).length)],[.rowed 1 (v6++[(Yc (rd l0 (tn v7)))]).length (Zz (v6++[(Yc (rd l0 (tn v7)))]))],[]⟩ (bl 2 1) (pp (xL (v6.length+1) (v6++[(Yc (rd l0 (tn v7)))]).length) (pp (xL (v6.length+1) (v6++[(Yc (rd l0 (tn v7)))]).length) (pp (xS (v6.length+1) (Zh (Zz v6) 0 v6.length 1 [(ii (Yc (rd l0 (tn v7))))]) (Zz (v6++[(Yc (rd l0 (tn v7)))]))) (pp (pp (xF (Zh (Zz v6) 0 v6.length 1 [(ii (Yc (rd l0 (tn v7))))])) nn) (ww o0 (tt k1 (ww aY (ww aI (tt k0 nn)))))))))))))))) (fun k0=>(lr 35 3 [1,1,1,1,1,1,0] 1 21 [(4,(.dat v6.length (Zz v6))),(5,(.bool true))] (sl y8s 16 [] ⟨[],[0],[some [4,5]],[]⟩ ⟨[(4,.frz v6.length v6.length (Zz v6) (Zz v6))],[],[]⟩ [false] (pp (xZ (x7o 1 1 0 v6.length v6.length (Zz v6)) v6.length (Zz v6)) (pp (xL v6.length v6.length) (pp (xS v6.length (Zz v6) (Zz v6)) (pp (fl v6 nn) (tt k0 nn)))))))))
theorem y1x (l0:List (List UInt8)) (x1:Int):Vr prog (Zx prog 21) (rreC l0 x1) (Zs prog 21 [(.dat l0.length (Zz l0)),(.int .i64 x1)] true []) (z3i l0 x1):=(lb (fun k0=>(lr 35 21 [1,0,1,0,0] 1 21 [(4,.nils),(5,(.bool false))] (sl y8s 19 [] ⟨[],[],[some [4,5]],[]⟩ ⟨[],[],[]⟩ [true] (tt k0 nn)))) (fun k0=>(sl y8s 26 [(3,1,Zz ([]:List Int))] ⟨[0],[],rreN0,rreM0⟩ ⟨[(6,.grow 0 1)],[],[]⟩ [false] (pp (fl ([]:List Int) nn) (tt k0 nn)))))
theorem x2s (l0:List (List UInt8)) (x1:Int) (n:Nat) (vs:List AVal) (h:goOn (Ka l0 x1) n (z3i l0 x1)=.ret vs):z2v prog (Zx prog 21) (Zs prog 21 [(.dat l0.length (Zz l0)),(.int .i64 x1)] true []) vs:=by have:=Yd (y6q l0 x1) n _ (y1x l0 x1);rwa [h] at this
def x6p (L:List (List UInt8)) (m:Int):Bool:=decide ((L.length:Int)=m)&&L.all Vp
def Za (L:List (List UInt8)) (m:Int):List Int:=bif x6p L m then L.map Yc else []
def y4p (L:List (List UInt8)) (m:Int):Bool:=x6p L m
def Ju (L:List (List UInt8)) (m:Int):Bool:=decide (L.length≤1000000)&&L.all Jj
def rreE (ok:Bool) (L:List Int):List AVal:=bif ok then [.dat L.length (Zz L),.bool true] else [.nils,.bool false]
theorem x5k {L:List (List UInt8)} {m:Int} (hl:L.length≤1000000) (ho:L.all Jj=true): ∀(k i:Nat) (out:List Int),i+k=L.length→out.length≤i→
  ∃N,goOn (Ka L m) N (.to (.h0 out (i:Int)))=.ret (rreE ((L.drop i).all Vp) (out++(L.drop i).map Yc))
 | 0,i,out,h,hi=>by
  refine ⟨1,?_⟩;have e:Ka L m (.h0 out (i:Int))=.ret [.dat out.length (Zz out),.bool true]:=by unfold Ka;simp only [];rw [z3a (by omega),Ai]
  rw [Zf,AH (by omega),e,List.map_nil,Bq];rfl
 | k+1,i,out,h,hi'=>by
  have hi:i<L.length:=by omega
  have w2:wrap .i64 ((i:Int)+1)=((i+1:Nat):Int):=Xi (by omega);have hr:Jj (rd L i)=true:=Aw.1 ho _ (by rw [Uj hi];exact AE hi);have e:Ka L m (.h0 out (i:Int))=bif !(Vp (rd L i)) then .ret [.nils,.bool false] else .to (.h0 (out++[Yc (rd L i)]) ((i+1:Nat):Int)):=by
   unfold Ka;simp only [Vg,w2,hr,Ap];have hr:(Nat.beq 1 1&&((decide (0+out.length=out.length))&&decide ((out.length+1+1)*(8+1)≤Vt)))=true:=by rw [Ad,Ad];exact ⟨rfl,Ah (by omega),z4a (by omega)⟩
   rw [Zp (z2a (by omega)),Zp (Bj.2 ⟨z6q (by omega),rfl⟩),Zp hr]
  rw [Kw hi,A5,AX];cases g:Vp (rd L i) with
  | false=>refine ⟨1,?_⟩;rw [Zf,e,g,Bool.not_false,Ap,Yn];rfl
  | true=>obtain ⟨N,hN⟩:=x5k (m:=m) hl ho k (i+1) (out++[Yc (rd L i)]) (by omega) (by rw [Ao,AC];omega);refine ⟨N+1,?_⟩;rw [Zf,e,g,Bf,Ai,hN,A2,AK];rfl
theorem x6o (L:List (List UInt8)) (m:Int) (h:Ju L m=true): ∃N,goOn (Ka L m) N (z3i L m)=.ret (rreE (x6p L m) (L.map Yc)):=by
 unfold Ju at h;rw [Ad,Aq] at h;unfold z3i x6p;by_cases g:(L.length:Int)=m
 ·rw [ne_f g,Ai,Ah g,A2];obtain ⟨N,hN⟩:=x5k (m:=m) h.1 h.2 L.length 0 [] (AA _) (Aj _);exact ⟨N,hN⟩
 ·rw [ne_t g,Ap,Ak g];exact ⟨0,rfl⟩
def fRre :List AVal→Option (AVal×Bool)
 | [a0,.int .i64 m]=>match asL (List UInt8) a0 with
  | some (L0,g0,n0)=>some (.tup [.dat (Za L0 m).length (Zz (Za L0 m)),.bool (y4p L0 m)],isT (List UInt8) n0 g0&&Ju L0 m)
  | _=>none
 | _=>none
theorem x7s {S:Specs} (hS:Zk prog S):Zk prog (S.with rreN fRre):=fTwo hS (by kernel_rfl) fun args v h=>by
 unfold fRre at h;split at h
 ·rename_i a0 m;split at h
  ·rename_i L0 g0 n0 e0;simp only [Ab,Aa,Ad] at h;obtain ⟨rfl,ho0,hw⟩:=h;obtain ⟨N,hN⟩:=x6o L0 m hw;refine ⟨_,_,(.cons (asL_le e0 ho0) (.cons (.refl _) .nil)),?_,x2s L0 m N _ hN,3,?_⟩
   ·unfold rreE Za y4p;cases x6p L0 m with
    | true=>exact fun ρ u hu=>hu
    | false=>exact fun ρ u hu=>y8z (.cons (y2s Int) (RLe.refl _)) ρ u hu
   ·unfold rreE;cases x6p L0 m <;> rfl
  ·cases h
 ·cases h
def S6 :Specs:=S5.with rreN fRre
theorem Zr :Zk prog S6:=x7s y8s
def Vn :List (List UInt8)→Option (List Int)
 | []=>some []
 | w::r=>match z1t w with
  | none=>none
  | some n=>match Vn r with
   | none=>none
   | some l=>some (n::l)
def z1q :List UInt8:=[113,117,97,100]
def quadL :List Int→Option R7
 | [a,b,c,d,e,f,g]=>bif decide (0≤a)&&decide (a≤5) then some ⟨a,b,c,d,e,f,g⟩ else none
 | _=>none
def z6o (x:List UInt8):Option R7:=match Xe 32 [] x with
 | w::r=>bif decide (w=z1q)&&decide (r.length=7) then (match Vn r with
  | some l=>quadL l
  | none=>none) else none
 | []=>none
def Xd :List (List UInt8)→Option (List R7)
 | []=>some []
 | x::l=>match z6o x with
  | none=>none
  | some r=>match Xd l with
   | none=>none
   | some m=>some (r::m)
def Qm (s:List UInt8):Option (List (List UInt8)):=match (Xe 10 [] s).getLast? with
 | some []=>some (Xe 10 [] s).dropLast
 | _=>none
def y7c (s:List UInt8):List R7×Int:=bif decide (60000<s.length) then ([],4) else match Qm s with
 | none=>([],12)
 | some ls=>match Xd ls with
  | none=>([],12)
  | some L=>bif Vh L != 0 then ([],Vh L) else (L,0)
def pmsE (ok:Bool) (L:List R7) (e:Int):List AVal:=bif ok then [.dat L.length (Zz L),.int .i64 e] else [.nils,.int .i64 e]
theorem y0a : ∀(l:List (List UInt8)),Vn l=bif l.all Vp then some (l.map Yc) else none
 | []=>rfl
 | w::r=>by
  obtain ⟨h1,h2⟩:=x2y w;rw [A5,AX];unfold Vn;rw [y0a r];cases g:Vp w with
  | false=>
   rw [g] at h1;have:z1t w=none:=by cases hx:z1t w with
    | none=>rfl
    | some n=>rw [hx] at h1;cases h1
   rw [this];rfl
  | true=>rw [h2 g,A2];cases r.all Vp <;> rfl
theorem y7a {l:List Int} {r:R7} (h:quadL l=some r):0≤r.a∧r.a≤5:=by
 unfold quadL at h;split at h
 ·rename_i a b c d e f g;cases k:decide (0≤a)&&decide (a≤5) with
  | false=>rw [k] at h;cases h
  | true=>rw [k] at h;obtain rfl:=Ac h;rw [Ad,Aq,Aq] at k;exact k
 ·cases h
theorem z1u {x:List UInt8} {r:R7} (h:z6o x=some r):0≤r.a∧r.a≤5:=by
 unfold z6o at h;split at h
 ·rename_i w l _;cases k:decide (w=z1q)&&decide (l.length=7) with
  | false=>rw [k] at h;cases h
  | true=>
   rw [k,Ap] at h;cases hn:Vn l with
   | none=>rw [hn] at h;cases h
   | some m=>rw [hn] at h;exact y7a h
 ·cases h
theorem z4s : ∀(l:List (List UInt8)) (m:List R7),Xd l=some m→Yk m=true∧m.length=l.length
 | [],m,h=>by obtain rfl:=Ac h;exact ⟨rfl,rfl⟩
 | x::l,m,h=>by
  unfold Xd at h;cases hx:z6o x with
  | none=>rw [hx] at h;cases h
  | some r=>
   rw [hx] at h;cases hl:Xd l with
   | none=>rw [hl] at h;cases h
   | some k=>rw [hl] at h;obtain rfl:=Ac h;obtain ⟨h1,h2⟩:=z4s l k hl;have hr:=z1u hx;refine ⟨?_,by rw [Al,Al,h2]⟩;unfold Yk at h1 ⊢;rw [A5,h1,Ah hr.1,Ah (by omega)];rfl
attribute [local irreducible] Vh Yk
-- h11: owes false (choices [true, false, false, false, false])
inductive pmsS where
 | h0
 | h1
 | h2 (v14:List (List UInt8)) (bA:List R7) (aE:List (List UInt8)) (bI:Int) (bD:List (List UInt8))
 | h3 (v14:List (List UInt8)) (bA:List R7) (aE:List (List UInt8)) (bI:Int) (bD:List (List UInt8)) (aD:Int)
 | h4 (v14:List (List UInt8)) (v15:Int) (aM:List (List UInt8)) (aA:List R7) (aG:Int) (aH:List (List UInt8)) (aC:Int)
 | h5 (v14:List (List UInt8)) (v15:Int) (aM:List (List UInt8)) (aA:List R7) (aG:Int) (aH:List (List UInt8)) (aD:Int) (aC:Int)
 | h6 (v6:List R7) (v26:Int)
 | h7 (v14:List (List UInt8)) (v15:Int) (aM:List (List UInt8)) (aA:List R7) (aG:Int) (aH:List (List UInt8)) (aD:Int) (aJ:Int) (aC:Int)
 | h8 (v14:List (List UInt8)) (v15:Int) (aM:List (List UInt8)) (aA:List R7) (aG:Int) (aH:List (List UInt8)) (aD:Int) (aJ:Int) (aU:Int) (aV:Int)
 | h9 (v14:List (List UInt8)) (v15:Int) (aM:List (List UInt8)) (aA:List R7) (aG:Int) (aH:List (List UInt8)) (aD:Int) (aJ:Int) (aU:Int) (aZ:Int) (aV:Int)
 | h10 (v14:List (List UInt8)) (v15:Int) (aM:List (List UInt8)) (aA:List R7) (aG:Int) (aH:List (List UInt8)) (aD:Int) (aJ:Int) (aU:Int) (aZ:Int) (bB:Int) (aV:Int)
 | h11 (v14:List (List UInt8)) (v15:Int) (aM:List (List UInt8)) (aA:List R7) (aG:Int) (aH:List (List UInt8)) (aD:Int) (aJ:Int) (aU:Int) (aZ:Int) (bB:Int) (bL:Int) (aV:Int)
def pmsC (x0:List UInt8):pmsS→Cfg
 | .h0 =>⟨⟨81,0,true⟩,none,(Yh prog 6 [1,1,1,1,1,0,1,0,0] 0),none,(Zx prog 4),⟨Vq [(6,.nils),(24,.nils),(25,(ii 0)),(26,(ii 0))],Qg [] 0,0,[],true⟩,[],.leaf⟩
 | .h1 =>⟨⟨81,0,true⟩,none,(Yh prog 6 [1,1,1,1,1,0,1,0,0] 0),none,(Zx prog 4),⟨Vq [(6,.nils),(24,(.dat (Yq ((x0.drop 0).take (tn (wr ((x0.length:Int) - 1)))) ([10]:List UInt8)).length (Zz (Yq ((x0.drop 0).take (tn (wr ((x0.length:Int) - 1)))) ([10]:List UInt8))))),(25,(ii (((Yq ((x0.drop 0).take (tn (wr ((x0.length:Int) - 1)))) ([10]:List UInt8)).length :Nat):Int))),(26,(ii 0))],Qg [] 0,0,[],true⟩,[],.leaf⟩
 | .h2 v14 bA aE bI bD=>⟨⟨49,0,true⟩,none,(Yh prog 18 [1,1,0,1,0,0] 0),none,(Zx prog 3),⟨Vq [(1,(.sl 0 0 1 (.un 1))),(14,(.dat v14.length (Zz v14))),(15,(ii 1)),(16,(ii 0))],Qg [⟨[(.ptr 1 0)],55,none⟩,⟨[(ii 0)],3,none⟩,⟨rows bA.length (Zz bA),42,some ⟨7,bA.length,(Zz bA)⟩⟩] 0,3,[],true⟩,[⟨⟨81,0,true⟩,(z3m prog 6 [1,1,1,1,1,0,1,0,0,1,1,0,0,1,1,1,0,0] 13),(Yh prog 6 [1,1,1,1,1,0,1,0,0,1,1,0,0,1,1,1,0,0] 1),none,(Zx prog 4),Vq [(6,(.sla 2 7 0 bA.length (.un 7))),(9,(.dat aE.length (Zz aE))),(10,(.ptr 1 0)),(24,(.dat (Yq ((x0.drop 0).take (tn (wr ((x0.length:Int) - 1)))) ([10]:List UInt8)).length (Zz (Yq ((x0.drop 0).take (tn (wr ((x0.length:Int) - 1)))) ([10]:List UInt8))))),(25,(ii (((Yq ((x0.drop 0).take (tn (wr ((x0.length:Int) - 1)))) ([10]:List UInt8)).length :Nat):Int))),(26,(ii bI)),(41,(.bool false)),(43,(.dat bD.length (Zz bD))),(44,(.sl 0 0 1 (.un 1)))]⟩],.leaf⟩
 | .h3 v14 bA aE bI bD aD=>⟨⟨49,0,true⟩,none,(Yh prog 18 [1,1,0,1,0,0] 0),none,(Zx prog 3),⟨Vq [(1,(.sl 0 0 1 (.un 1))),(14,(.dat v14.length (Zz v14))),(15,(ii 1)),(16,(ii 1))],Qg [⟨[(.ptr 1 0)],55,none⟩,⟨[(ii aD)],3,none⟩,⟨rows bA.length (Zz bA),42,some ⟨7,bA.length,(Zz bA)⟩⟩] 0,3,[],true⟩,[⟨⟨81,0,true⟩,(z3m prog 6 [1,1,1,1,1,0,1,0,0,1,1,0,0,1,1,1,0,0] 13),(Yh prog 6 [1,1,1,1,1,0,1,0,0,1,1,0,0,1,1,1,0,0] 1),none,(Zx prog 4),Vq [(6,(.sla 2 7 0 bA.length (.un 7))),(9,(.dat aE.length (Zz aE))),(10,(.ptr 1 0)),(24,(.dat (Yq ((x0.drop 0).take (tn (wr ((x0.length:Int) - 1)))) ([10]:List UInt8)).length (Zz (Yq ((x0.drop 0).take (tn (wr ((x0.length:Int) - 1)))) ([10]:List UInt8))))),(25,(ii (((Yq ((x0.drop 0).take (tn (wr ((x0.length:Int) - 1)))) ([10]:List UInt8)).length :Nat):Int))),(26,(ii bI)),(41,(.bool false)),(43,(.dat bD.length (Zz bD))),(44,(.sl 0 0 1 (.un 1)))]⟩],.leaf⟩
 | .h4 v14 v15 aM aA aG aH aC=>⟨⟨49,0,true⟩,none,(Yh prog 18 [1,1,0,1,0,0] 0),none,(Zx prog 3),⟨Vq [(1,(.sl 0 0 6 (.un 1))),(14,(.dat v14.length (Zz v14))),(15,(ii v15)),(16,(ii 0))],Qg [⟨[(.ptr 1 0),(.ptr 1 1),(.ptr 1 2),(.ptr 1 3),(.ptr 1 4),(.ptr 1 5)],55,none⟩,⟨[(ii 0),(ii 0),(ii 0),(ii 0),(ii 0),(ii 0)],57,none⟩,⟨[(ii aC)],3,none⟩,⟨rows aA.length (Zz aA),42,some ⟨7,aA.length,(Zz aA)⟩⟩] 0,4,[],true⟩,[⟨⟨21,0,true⟩,(z3m prog 19 [1,0] 14),(Yh prog 19 [1,0] 1),none,(Zx prog 19),Vq [(2,(.ptr 1 0)),(4,(.dat aM.length (Zz aM))),(17,(.sl 0 0 6 (.un 1)))]⟩,⟨⟨81,0,true⟩,(z3m prog 6 [1,1,1,1,1,0,1,0,0,1,1,0,0,1,1,1,1,0] 2),(Yh prog 6 [1,1,1,1,1,0,1,0,0,1,1,0,0,1,1,1,1,0] 1),none,(Zx prog 4),Vq [(6,(.sla 3 7 0 aA.length (.un 7))),(10,(.ptr 2 0)),(24,(.dat (Yq ((x0.drop 0).take (tn (wr ((x0.length:Int) - 1)))) ([10]:List UInt8)).length (Zz (Yq ((x0.drop 0).take (tn (wr ((x0.length:Int) - 1)))) ([10]:List UInt8))))),(25,(ii (((Yq ((x0.drop 0).take (tn (wr ((x0.length:Int) - 1)))) ([10]:List UInt8)).length :Nat):Int))),(26,(ii aG)),(58,(.dat aH.length (Zz aH)))]⟩],.leaf⟩
 | .h5 v14 v15 aM aA aG aH aD aC=>⟨⟨49,0,true⟩,none,(Yh prog 18 [1,1,0,1,0,0] 0),none,(Zx prog 3),⟨Vq [(1,(.sl 0 0 6 (.un 1))),(14,(.dat v14.length (Zz v14))),(15,(ii v15)),(16,(ii 1))],Qg [⟨[(.ptr 1 0),(.ptr 1 1),(.ptr 1 2),(.ptr 1 3),(.ptr 1 4),(.ptr 1 5)],55,none⟩,⟨[(ii aD),(ii 0),(ii 0),(ii 0),(ii 0),(ii 0)],57,none⟩,⟨[(ii aC)],3,none⟩,⟨rows aA.length (Zz aA),42,some ⟨7,aA.length,(Zz aA)⟩⟩] 0,4,[],true⟩,[⟨⟨21,0,true⟩,(z3m prog 19 [1,0] 14),(Yh prog 19 [1,0] 1),none,(Zx prog 19),Vq [(2,(.ptr 1 0)),(4,(.dat aM.length (Zz aM))),(17,(.sl 0 0 6 (.un 1)))]⟩,⟨⟨81,0,true⟩,(z3m prog 6 [1,1,1,1,1,0,1,0,0,1,1,0,0,1,1,1,1,0] 2),(Yh prog 6 [1,1,1,1,1,0,1,0,0,1,1,0,0,1,1,1,1,0] 1),none,(Zx prog 4),Vq [(6,(.sla 3 7 0 aA.length (.un 7))),(10,(.ptr 2 0)),(24,(.dat (Yq ((x0.drop 0).take (tn (wr ((x0.length:Int) - 1)))) ([10]:List UInt8)).length (Zz (Yq ((x0.drop 0).take (tn (wr ((x0.length:Int) - 1)))) ([10]:List UInt8))))),(25,(ii (((Yq ((x0.drop 0).take (tn (wr ((x0.length:Int) - 1)))) ([10]:List UInt8)).length :Nat):Int))),(26,(ii aG)),(58,(.dat aH.length (Zz aH)))]⟩],.leaf⟩
 | .h6 v6 v26=>⟨⟨81,0,true⟩,none,(Yh prog 6 [1,1,1,1,1,0,1,0,0] 0),none,(Zx prog 4),⟨Vq [(6,(.sla 0 7 0 v6.length (.un 7))),(24,(.dat (Yq ((x0.drop 0).take (tn (wr ((x0.length:Int) - 1)))) ([10]:List UInt8)).length (Zz (Yq ((x0.drop 0).take (tn (wr ((x0.length:Int) - 1)))) ([10]:List UInt8))))),(25,(ii (((Yq ((x0.drop 0).take (tn (wr ((x0.length:Int) - 1)))) ([10]:List UInt8)).length :Nat):Int))),(26,(ii v26))],Qg [⟨rows v6.length (Zz v6),42,some ⟨7,v6.length,(Zz v6)⟩⟩] 0,1,[],true⟩,[],.leaf⟩
 | .h7 v14 v15 aM aA aG aH aD aJ aC=>⟨⟨49,0,true⟩,none,(Yh prog 18 [1,1,0,1,0,0] 0),none,(Zx prog 3),⟨Vq [(1,(.sl 0 0 6 (.un 1))),(14,(.dat v14.length (Zz v14))),(15,(ii v15)),(16,(ii 2))],Qg [⟨[(.ptr 1 0),(.ptr 1 1),(.ptr 1 2),(.ptr 1 3),(.ptr 1 4),(.ptr 1 5)],55,none⟩,⟨[(ii aD),(ii aJ),(ii 0),(ii 0),(ii 0),(ii 0)],57,none⟩,⟨[(ii aC)],3,none⟩,⟨rows aA.length (Zz aA),42,some ⟨7,aA.length,(Zz aA)⟩⟩] 0,4,[],true⟩,[⟨⟨21,0,true⟩,(z3m prog 19 [1,0] 14),(Yh prog 19 [1,0] 1),none,(Zx prog 19),Vq [(2,(.ptr 1 0)),(4,(.dat aM.length (Zz aM))),(17,(.sl 0 0 6 (.un 1)))]⟩,⟨⟨81,0,true⟩,(z3m prog 6 [1,1,1,1,1,0,1,0,0,1,1,0,0,1,1,1,1,0] 2),(Yh prog 6 [1,1,1,1,1,0,1,0,0,1,1,0,0,1,1,1,1,0] 1),none,(Zx prog 4),Vq [(6,(.sla 3 7 0 aA.length (.un 7))),(10,(.ptr 2 0)),(24,(.dat (Yq ((x0.drop 0).take (tn (wr ((x0.length:Int) - 1)))) ([10]:List UInt8)).length (Zz (Yq ((x0.drop 0).take (tn (wr ((x0.length:Int) - 1)))) ([10]:List UInt8))))),(25,(ii (((Yq ((x0.drop 0).take (tn (wr ((x0.length:Int) - 1)))) ([10]:List UInt8)).length :Nat):Int))),(26,(ii aG)),(58,(.dat aH.length (Zz aH)))]⟩],.leaf⟩
 | .h8 v14 v15 aM aA aG aH aD aJ aU aV=>⟨⟨49,0,true⟩,none,(Yh prog 18 [1,1,0,1,0,0] 0),none,(Zx prog 3),⟨Vq [(1,(.sl 0 0 6 (.un 1))),(14,(.dat v14.length (Zz v14))),(15,(ii v15)),(16,(ii 3))],Qg [⟨[(.ptr 1 0),(.ptr 1 1),(.ptr 1 2),(.ptr 1 3),(.ptr 1 4),(.ptr 1 5)],55,none⟩,⟨[(ii aD),(ii aJ),(ii aU),(ii 0),(ii 0),(ii 0)],57,none⟩,⟨rows aA.length (Zz aA),42,some ⟨7,aA.length,(Zz aA)⟩⟩,⟨[(ii aV)],3,none⟩] 0,4,[],true⟩,[⟨⟨21,0,true⟩,(z3m prog 19 [1,0] 14),(Yh prog 19 [1,0] 1),none,(Zx prog 19),Vq [(2,(.ptr 1 0)),(4,(.dat aM.length (Zz aM))),(17,(.sl 0 0 6 (.un 1)))]⟩,⟨⟨81,0,true⟩,(z3m prog 6 [1,1,1,1,1,0,1,0,0,1,1,0,0,1,1,1,1,0] 2),(Yh prog 6 [1,1,1,1,1,0,1,0,0,1,1,0,0,1,1,1,1,0] 1),none,(Zx prog 4),Vq [(6,(.sla 2 7 0 aA.length (.un 7))),(10,(.ptr 3 0)),(24,(.dat (Yq ((x0.drop 0).take (tn (wr ((x0.length:Int) - 1)))) ([10]:List UInt8)).length (Zz (Yq ((x0.drop 0).take (tn (wr ((x0.length:Int) - 1)))) ([10]:List UInt8))))),(25,(ii (((Yq ((x0.drop 0).take (tn (wr ((x0.length:Int) - 1)))) ([10]:List UInt8)).length :Nat):Int))),(26,(ii aG)),(58,(.dat aH.length (Zz aH)))]⟩],.leaf⟩
 | .h9 v14 v15 aM aA aG aH aD aJ aU aZ aV=>⟨⟨49,0,true⟩,none,(Yh prog 18 [1,1,0,1,0,0] 0),none,(Zx prog 3),⟨Vq [(1,(.sl 0 0 6 (.un 1))),(14,(.dat v14.length (Zz v14))),(15,(ii v15)),(16,(ii 4))],Qg [⟨[(.ptr 1 0),(.ptr 1 1),(.ptr 1 2),(.ptr 1 3),(.ptr 1 4),(.ptr 1 5)],55,none⟩,⟨[(ii aD),(ii aJ),(ii aU),(ii aZ),(ii 0),(ii 0)],57,none⟩,⟨rows aA.length (Zz aA),42,some ⟨7,aA.length,(Zz aA)⟩⟩,⟨[(ii aV)],3,none⟩] 0,4,[],true⟩,[⟨⟨21,0,true⟩,(z3m prog 19 [1,0] 14),(Yh prog 19 [1,0] 1),none,(Zx prog 19),Vq [(2,(.ptr 1 0)),(4,(.dat aM.length (Zz aM))),(17,(.sl 0 0 6 (.un 1)))]⟩,⟨⟨81,0,true⟩,(z3m prog 6 [1,1,1,1,1,0,1,0,0,1,1,0,0,1,1,1,1,0] 2),(Yh prog 6 [1,1,1,1,1,0,1,0,0,1,1,0,0,1,1,1,1,0] 1),none,(Zx prog 4),Vq [(6,(.sla 2 7 0 aA.length (.un 7))),(10,(.ptr 3 0)),(24,(.dat (Yq ((x0.drop 0).take (tn (wr ((x0.length:Int) - 1)))) ([10]:List UInt8)).length (Zz (Yq ((x0.drop 0).take (tn (wr ((x0.length:Int) - 1)))) ([10]:List UInt8))))),(25,(ii (((Yq ((x0.drop 0).take (tn (wr ((x0.length:Int) - 1)))) ([10]:List UInt8)).length :Nat):Int))),(26,(ii aG)),(58,(.dat aH.length (Zz aH)))]⟩],.leaf⟩
 | .h10 v14 v15 aM aA aG aH aD aJ aU aZ bB aV=>⟨⟨49,0,true⟩,none,(Yh prog 18 [1,1,0,1,0,0] 0),none,(Zx prog 3),⟨Vq [(1,(.sl 0 0 6 (.un 1))),(14,(.dat v14.length (Zz v14))),(15,(ii v15)),(16,(ii 5))],Qg [⟨[(.ptr 1 0),(.ptr 1 1),(.ptr 1 2),(.ptr 1 3),(.ptr 1 4),(.ptr 1 5)],55,none⟩,⟨[(ii aD),(ii aJ),(ii aU),(ii aZ),(ii bB),(ii 0)],57,none⟩,⟨rows aA.length (Zz aA),42,some ⟨7,aA.length,(Zz aA)⟩⟩,⟨[(ii aV)],3,none⟩] 0,4,[],true⟩,[⟨⟨21,0,true⟩,(z3m prog 19 [1,0] 14),(Yh prog 19 [1,0] 1),none,(Zx prog 19),Vq [(2,(.ptr 1 0)),(4,(.dat aM.length (Zz aM))),(17,(.sl 0 0 6 (.un 1)))]⟩,⟨⟨81,0,true⟩,(z3m prog 6 [1,1,1,1,1,0,1,0,0,1,1,0,0,1,1,1,1,0] 2),(Yh prog 6 [1,1,1,1,1,0,1,0,0,1,1,0,0,1,1,1,1,0] 1),none,(Zx prog 4),Vq [(6,(.sla 2 7 0 aA.length (.un 7))),(10,(.ptr 3 0)),(24,(.dat (Yq ((x0.drop 0).take (tn (wr ((x0.length:Int) - 1)))) ([10]:List UInt8)).length (Zz (Yq ((x0.drop 0).take (tn (wr ((x0.length:Int) - 1)))) ([10]:List UInt8))))),(25,(ii (((Yq ((x0.drop 0).take (tn (wr ((x0.length:Int) - 1)))) ([10]:List UInt8)).length :Nat):Int))),(26,(ii aG)),(58,(.dat aH.length (Zz aH)))]⟩],.leaf⟩
 | .h11 v14 v15 aM aA aG aH aD aJ aU aZ bB bL aV=>⟨⟨49,0,true⟩,none,(Yh prog 18 [1,1,0,1,0,0] 0),none,(Zx prog 3),⟨Vq [(1,(.sl 0 0 6 (.un 1))),(14,(.dat v14.length (Zz v14))),(15,(ii v15)),(16,(ii 6))],Qg [⟨[(.ptr 1 0),(.ptr 1 1),(.ptr 1 2),(.ptr 1 3),(.ptr 1 4),(.ptr 1 5)],55,none⟩,⟨[(ii aD),(ii aJ),(ii aU),(ii aZ),(ii bB),(ii bL)],57,none⟩,⟨rows aA.length (Zz aA),42,some ⟨7,aA.length,(Zz aA)⟩⟩,⟨[(ii aV)],3,none⟩] 0,4,[],true⟩,[⟨⟨21,0,true⟩,(z3m prog 19 [1,0] 14),(Yh prog 19 [1,0] 1),none,(Zx prog 19),Vq [(2,(.ptr 1 0)),(4,(.dat aM.length (Zz aM))),(17,(.sl 0 0 6 (.un 1)))]⟩,⟨⟨81,0,true⟩,(z3m prog 6 [1,1,1,1,1,0,1,0,0,1,1,0,0,1,1,1,1,0] 2),(Yh prog 6 [1,1,1,1,1,0,1,0,0,1,1,0,0,1,1,1,1,0] 1),none,(Zx prog 4),Vq [(6,(.sla 2 7 0 aA.length (.un 7))),(10,(.ptr 3 0)),(24,(.dat (Yq ((x0.drop 0).take (tn (wr ((x0.length:Int) - 1)))) ([10]:List UInt8)).length (Zz (Yq ((x0.drop 0).take (tn (wr ((x0.length:Int) - 1)))) ([10]:List UInt8))))),(25,(ii (((Yq ((x0.drop 0).take (tn (wr ((x0.length:Int) - 1)))) ([10]:List UInt8)).length :Nat):Int))),(26,(ii aG)),(58,(.dat aH.length (Zz aH)))]⟩],.leaf⟩
def pmsN0 :List (Option (List Nat)):=[some [6,24,25,26]]
def pmsM0 :List (Option (List Nat)):=[]
def pmsN1 :List (Option (List Nat)):=[some [6,24,25,26]]
def pmsM1 :List (Option (List Nat)):=[]
def pmsN2 :List (Option (List Nat)):=[some [1,14,15,16],some [6,9,10,24,25,26,41,43,44]]
def pmsM2 :List (Option (List Nat)):=[]
def pmsN3 :List (Option (List Nat)):=[some [1,14,15,16],some [6,9,10,24,25,26,41,43,44]]
def pmsM3 :List (Option (List Nat)):=[]
def pmsN4 :List (Option (List Nat)):=[some [1,14,15,16],some [2,4,17],some [6,10,24,25,26,58]]
def pmsM4 :List (Option (List Nat)):=[]
def pmsN5 :List (Option (List Nat)):=[some [1,14,15,16],some [2,4,17],some [6,10,24,25,26,58]]
def pmsM5 :List (Option (List Nat)):=[]
def y2o :List (Option (List Nat)):=[some [6,24,25,26]]
def y2p :List (Option (List Nat)):=[]
def pmsN7 :List (Option (List Nat)):=[some [1,14,15,16],some [2,4,17],some [6,10,24,25,26,58]]
def pmsM7 :List (Option (List Nat)):=[]
def pmsN8 :List (Option (List Nat)):=[some [1,14,15,16],some [2,4,17],some [6,10,24,25,26,58]]
def pmsM8 :List (Option (List Nat)):=[]
def pmsN9 :List (Option (List Nat)):=[some [1,14,15,16],some [2,4,17],some [6,10,24,25,26,58]]
def pmsM9 :List (Option (List Nat)):=[]
def pmsN10 :List (Option (List Nat)):=[some [1,14,15,16],some [2,4,17],some [6,10,24,25,26,58]]
def pmsM10 :List (Option (List Nat)):=[]
def pmsN11 :List (Option (List Nat)):=[some [1,14,15,16],some [2,4,17],some [6,10,24,25,26,58]]
def pmsM11 :List (Option (List Nat)):=[]
def Yx (x0:List UInt8):pmsS→Vj pmsS
 | .h0 =>(bif (Yk ([]:List R7)) then (bif ((Vh ([]:List R7)) != 0) then (.ret [.nils,(.int .i64 (Vh ([]:List R7)))]) else (.ret [.nils,(.int .i64 0)])) else .stuck)
 | .h1 =>(bif (decide (0<(((Yq ((x0.drop 0).take (Int.toNat (wrap .i64 ((x0.length:Int) - 1)))) ([10]:List UInt8)).length :Nat):Int))) then (bif ((decide ((0:Int)≤0∧0<(((Yq ((x0.drop 0).take (Int.toNat (wrap .i64 ((x0.length:Int) - 1)))) ([10]:List UInt8)).length :Nat):Int)))&&true) then (bif (Xg (rd (Yq ((x0.drop 0).take (Int.toNat (wrap .i64 ((x0.length:Int) - 1)))) ([10]:List UInt8)) 0) ([32]:List UInt8)) then (bif ((decide ((0:Int)≤0∧0<(((Yq (rd (Yq ((x0.drop 0).take (Int.toNat (wrap .i64 ((x0.length:Int) - 1)))) ([10]:List UInt8)) 0) ([32]:List UInt8)).length :Nat):Int)))&&true) then (bif (!((rd (Yq (rd (Yq ((x0.drop 0).take (Int.toNat (wrap .i64 ((x0.length:Int) - 1)))) ([10]:List UInt8)) 0) ([32]:List UInt8)) 0) == ([113,117,97,100]:List UInt8))) then (.ret [.nils,(.int .i64 12)]) else (bif (decide ((((Yq (rd (Yq ((x0.drop 0).take (Int.toNat (wrap .i64 ((x0.length:Int) - 1)))) ([10]:List UInt8)) 0) ([32]:List UInt8)).length :Nat):Int)<2)) then (.ret [.nils,(.int .i64 12)]) else (bif (decide (1≤2)) then (bif (decide (2≤(Yq (rd (Yq ((x0.drop 0).take (Int.toNat (wrap .i64 ((x0.length:Int) - 1)))) ([10]:List UInt8)) 0) ([32]:List UInt8)).length)) then (.to (.h2 (Yg (Yq (rd (Yq ((x0.drop 0).take (Int.toNat (wrap .i64 ((x0.length:Int) - 1)))) ([10]:List UInt8)) 0) ([32]:List UInt8)) 1 1) ([]:List R7) (Yq (rd (Yq ((x0.drop 0).take (Int.toNat (wrap .i64 ((x0.length:Int) - 1)))) ([10]:List UInt8)) 0) ([32]:List UInt8)) 0 (Yg (Yq (rd (Yq ((x0.drop 0).take (Int.toNat (wrap .i64 ((x0.length:Int) - 1)))) ([10]:List UInt8)) 0) ([32]:List UInt8)) 1 1))) else .stuck) else .stuck))) else .stuck) else .stuck) else .stuck) else (bif (Yk ([]:List R7)) then (bif ((Vh ([]:List R7)) != 0) then (.ret [.nils,(.int .i64 (Vh ([]:List R7)))]) else (.ret [.nils,(.int .i64 0)])) else .stuck))
 | .h2 v14 bA aE bI bD=>(bif ((decide ((0:Int)≤0∧0<(v14.length:Int)))&&true) then (bif (Wy (rd v14 0)) then (bif (!(Uo (rd v14 0))) then (.ret [.nils,(.int .i64 12)]) else (bif (Yb (Yy (rd v14 0))) then (bif (!((Ym (Yy (rd v14 0))) == (rd v14 0))) then (.ret [.nils,(.int .i64 12)]) else (bif (decide ((Yy (rd v14 0))<(-9999999))) then (.ret [.nils,(.int .i64 12)]) else (bif (decide ((Yy (rd v14 0))>9999999)) then (.ret [.nils,(.int .i64 12)]) else (.to (.h3 v14 bA aE bI bD (Yy (rd v14 0))))))) else .stuck)) else .stuck) else .stuck)
 | .h3 v14 bA aE bI bD aD=>(bif (decide (aD<0)) then (.ret [.nils,(.int .i64 12)]) else (bif (decide (aD>5)) then (.ret [.nils,(.int .i64 12)]) else (bif (decide (2≤aE.length)) then (bif (decide (aE.length≤aE.length)) then (bif ((((aE.length - 2):Nat):Int) != 6) then (.ret [.nils,(.int .i64 12)]) else (.to (.h4 (Yg aE 2 (aE.length - 2)) (((aE.length - 2):Nat):Int) (Yg aE 2 (aE.length - 2)) bA bI (Yg aE 2 (aE.length - 2)) aD))) else .stuck) else .stuck)))
 | .h4 v14 v15 aM aA aG aH aC=>(bif (decide (0<v15)) then (bif ((decide ((0:Int)≤0∧0<(v14.length:Int)))&&true) then (bif (Wy (rd v14 0)) then (bif (!(Uo (rd v14 0))) then (.ret [.nils,(.int .i64 12)]) else (bif (Yb (Yy (rd v14 0))) then (bif (!((Ym (Yy (rd v14 0))) == (rd v14 0))) then (.ret [.nils,(.int .i64 12)]) else (bif (decide ((Yy (rd v14 0))<(-9999999))) then (.ret [.nils,(.int .i64 12)]) else (bif (decide ((Yy (rd v14 0))>9999999)) then (.ret [.nils,(.int .i64 12)]) else (.to (.h5 v14 v15 aM aA aG aH (Yy (rd v14 0)) aC))))) else .stuck)) else .stuck) else .stuck) else (bif (Nat.beq 7 7&&((decide (0+aA.length=aA.length))&&decide ((aA.length+1+1)*(56+1)≤Vt))) then (.to (.h6 (aA++[(R7.mk (wrap IntKind.u8 aC) 0 0 0 0 0 0)]) (wrap .i64 (aG+1)))) else .stuck))
 | .h5 v14 v15 aM aA aG aH aD aC=>(bif (decide (1<v15)) then (bif ((decide ((0:Int)≤1∧1<(v14.length:Int)))&&true) then (bif (Wy (rd v14 1)) then (bif (!(Uo (rd v14 1))) then (.ret [.nils,(.int .i64 12)]) else (bif (Yb (Yy (rd v14 1))) then (bif (!((Ym (Yy (rd v14 1))) == (rd v14 1))) then (.ret [.nils,(.int .i64 12)]) else (bif (decide ((Yy (rd v14 1))<(-9999999))) then (.ret [.nils,(.int .i64 12)]) else (bif (decide ((Yy (rd v14 1))>9999999)) then (.ret [.nils,(.int .i64 12)]) else (.to (.h7 v14 v15 aM aA aG aH aD (Yy (rd v14 1)) aC))))) else .stuck)) else .stuck) else .stuck) else (bif (Nat.beq 7 7&&((decide (0+aA.length=aA.length))&&decide ((aA.length+1+1)*(56+1)≤Vt))) then (.to (.h6 (aA++[(R7.mk (wrap IntKind.u8 aC) aD 0 0 0 0 0)]) (wrap .i64 (aG+1)))) else .stuck))
 | .h6 v6 v26=>(bif (decide (v26<(((Yq ((x0.drop 0).take (Int.toNat (wrap .i64 ((x0.length:Int) - 1)))) ([10]:List UInt8)).length :Nat):Int))) then (bif ((decide (0≤v26∧v26<(((Yq ((x0.drop 0).take (Int.toNat (wrap .i64 ((x0.length:Int) - 1)))) ([10]:List UInt8)).length :Nat):Int)))&&true) then (bif (Xg (rd (Yq ((x0.drop 0).take (Int.toNat (wrap .i64 ((x0.length:Int) - 1)))) ([10]:List UInt8)) v26.toNat) ([32]:List UInt8)) then (bif ((decide ((0:Int)≤0∧0<(((Yq (rd (Yq ((x0.drop 0).take (Int.toNat (wrap .i64 ((x0.length:Int) - 1)))) ([10]:List UInt8)) v26.toNat) ([32]:List UInt8)).length :Nat):Int)))&&true) then (bif (!((rd (Yq (rd (Yq ((x0.drop 0).take (Int.toNat (wrap .i64 ((x0.length:Int) - 1)))) ([10]:List UInt8)) v26.toNat) ([32]:List UInt8)) 0) == ([113,117,97,100]:List UInt8))) then (.ret [.nils,(.int .i64 12)]) else (bif (decide ((((Yq (rd (Yq ((x0.drop 0).take (Int.toNat (wrap .i64 ((x0.length:Int) - 1)))) ([10]:List UInt8)) v26.toNat) ([32]:List UInt8)).length :Nat):Int)<2)) then (.ret [.nils,(.int .i64 12)]) else (bif (decide (1≤2)) then (bif (decide (2≤(Yq (rd (Yq ((x0.drop 0).take (Int.toNat (wrap .i64 ((x0.length:Int) - 1)))) ([10]:List UInt8)) v26.toNat) ([32]:List UInt8)).length)) then (.to (.h2 (Yg (Yq (rd (Yq ((x0.drop 0).take (Int.toNat (wrap .i64 ((x0.length:Int) - 1)))) ([10]:List UInt8)) v26.toNat) ([32]:List UInt8)) 1 1) v6 (Yq (rd (Yq ((x0.drop 0).take (Int.toNat (wrap .i64 ((x0.length:Int) - 1)))) ([10]:List UInt8)) v26.toNat) ([32]:List UInt8)) v26 (Yg (Yq (rd (Yq ((x0.drop 0).take (Int.toNat (wrap .i64 ((x0.length:Int) - 1)))) ([10]:List UInt8)) v26.toNat) ([32]:List UInt8)) 1 1))) else .stuck) else .stuck))) else .stuck) else .stuck) else .stuck) else (bif (Nat.beq 7 7&&(decide (0+v6.length≤v6.length)&&Um (Zz v6))) then (bif (Yk (lst R7 (v6.length) (fun k=>(Zz v6) (0+k)))) then (bif ((Vh (lst R7 (v6.length) (fun k=>(Zz v6) (0+k)))) != 0) then (.ret [.nils,(.int .i64 (Vh (lst R7 (v6.length) (fun k=>(Zz v6) (0+k)))))]) else (.ret [(.dat v6.length (Zz v6)),(.int .i64 0)])) else .stuck) else .stuck))
 | .h7 v14 v15 aM aA aG aH aD aJ aC=>(bif (decide (2<v15)) then (bif ((decide ((0:Int)≤2∧2<(v14.length:Int)))&&true) then (bif (Wy (rd v14 2)) then (bif (!(Uo (rd v14 2))) then (.ret [.nils,(.int .i64 12)]) else (bif (Yb (Yy (rd v14 2))) then (bif (!((Ym (Yy (rd v14 2))) == (rd v14 2))) then (.ret [.nils,(.int .i64 12)]) else (bif (decide ((Yy (rd v14 2))<(-9999999))) then (.ret [.nils,(.int .i64 12)]) else (bif (decide ((Yy (rd v14 2))>9999999)) then (.ret [.nils,(.int .i64 12)]) else (.to (.h8 v14 v15 aM aA aG aH aD aJ (Yy (rd v14 2)) aC))))) else .stuck)) else .stuck) else .stuck) else (bif (Nat.beq 7 7&&((decide (0+aA.length=aA.length))&&decide ((aA.length+1+1)*(56+1)≤Vt))) then (.to (.h6 (aA++[(R7.mk (wrap IntKind.u8 aC) aD aJ 0 0 0 0)]) (wrap .i64 (aG+1)))) else .stuck))
 | .h8 v14 v15 aM aA aG aH aD aJ aU aV=>(bif (decide (3<v15)) then (bif ((decide ((0:Int)≤3∧3<(v14.length:Int)))&&true) then (bif (Wy (rd v14 3)) then (bif (!(Uo (rd v14 3))) then (.ret [.nils,(.int .i64 12)]) else (bif (Yb (Yy (rd v14 3))) then (bif (!((Ym (Yy (rd v14 3))) == (rd v14 3))) then (.ret [.nils,(.int .i64 12)]) else (bif (decide ((Yy (rd v14 3))<(-9999999))) then (.ret [.nils,(.int .i64 12)]) else (bif (decide ((Yy (rd v14 3))>9999999)) then (.ret [.nils,(.int .i64 12)]) else (.to (.h9 v14 v15 aM aA aG aH aD aJ aU (Yy (rd v14 3)) aV))))) else .stuck)) else .stuck) else .stuck) else (bif (Nat.beq 7 7&&((decide (0+aA.length=aA.length))&&decide ((aA.length+1+1)*(56+1)≤Vt))) then (.to (.h6 (aA++[(R7.mk (wrap IntKind.u8 aV) aD aJ aU 0 0 0)]) (wrap .i64 (aG+1)))) else .stuck))
 | .h9 v14 v15 aM aA aG aH aD aJ aU aZ aV=>(bif (decide (4<v15)) then (bif ((decide ((0:Int)≤4∧4<(v14.length:Int)))&&true) then (bif (Wy (rd v14 4)) then (bif (!(Uo (rd v14 4))) then (.ret [.nils,(.int .i64 12)]) else (bif (Yb (Yy (rd v14 4))) then (bif (!((Ym (Yy (rd v14 4))) == (rd v14 4))) then (.ret [.nils,(.int .i64 12)]) else (bif (decide ((Yy (rd v14 4))<(-9999999))) then (.ret [.nils,(.int .i64 12)]) else (bif (decide ((Yy (rd v14 4))>9999999)) then (.ret [.nils,(.int .i64 12)]) else (.to (.h10 v14 v15 aM aA aG aH aD aJ aU aZ (Yy (rd v14 4)) aV))))) else .stuck)) else .stuck) else .stuck) else (bif (Nat.beq 7 7&&((decide (0+aA.length=aA.length))&&decide ((aA.length+1+1)*(56+1)≤Vt))) then (.to (.h6 (aA++[(R7.mk (wrap IntKind.u8 aV) aD aJ aU aZ 0 0)]) (wrap .i64 (aG+1)))) else .stuck))
 | .h10 v14 v15 aM aA aG aH aD aJ aU aZ bB aV=>(bif (decide (5<v15)) then (bif ((decide ((0:Int)≤5∧5<(v14.length:Int)))&&true) then (bif (Wy (rd v14 5)) then (bif (!(Uo (rd v14 5))) then (.ret [.nils,(.int .i64 12)]) else (bif (Yb (Yy (rd v14 5))) then (bif (!((Ym (Yy (rd v14 5))) == (rd v14 5))) then (.ret [.nils,(.int .i64 12)]) else (bif (decide ((Yy (rd v14 5))<(-9999999))) then (.ret [.nils,(.int .i64 12)]) else (bif (decide ((Yy (rd v14 5))>9999999)) then (.ret [.nils,(.int .i64 12)]) else (.to (.h11 v14 v15 aM aA aG aH aD aJ aU aZ bB (Yy (rd v14 5)) aV))))) else .stuck)) else .stuck) else .stuck) else (bif (Nat.beq 7 7&&((decide (0+aA.length=aA.length))&&decide ((aA.length+1+1)*(56+1)≤Vt))) then (.to (.h6 (aA++[(R7.mk (wrap IntKind.u8 aV) aD aJ aU aZ bB 0)]) (wrap .i64 (aG+1)))) else .stuck))
 | .h11 v14 v15 aM aA aG aH aD aJ aU aZ bB bL aV=>(bif (decide (6<v15)) then (bif ((decide ((0:Int)≤6∧6<(v14.length:Int)))&&true) then (bif (Wy (rd v14 6)) then (bif (!(Uo (rd v14 6))) then (.ret [.nils,(.int .i64 12)]) else (bif (Yb (Yy (rd v14 6))) then (bif (!((Ym (Yy (rd v14 6))) == (rd v14 6))) then (.ret [.nils,(.int .i64 12)]) else (bif (decide ((Yy (rd v14 6))<(-9999999))) then (.ret [.nils,(.int .i64 12)]) else (bif (decide ((Yy (rd v14 6))>9999999)) then (.ret [.nils,(.int .i64 12)]) else .stuck))) else .stuck)) else .stuck) else .stuck) else (bif (Nat.beq 7 7&&((decide (0+aA.length=aA.length))&&decide ((aA.length+1+1)*(56+1)≤Vt))) then (.to (.h6 (aA++[(R7.mk (wrap IntKind.u8 aV) aD aJ aU aZ bB bL)]) (wrap .i64 (aG+1)))) else .stuck))
def Qq (x0:List UInt8):Vj pmsS:=(bif (decide ((x0.length:Int)>60000)) then (.ret [.nils,(.int .i64 4)]) else (bif (x0 == ([]:List UInt8)) then (.to (.h0)) else (bif (decide ((x0.length:Int)≥1)) then (bif (decide ((Int.toNat (wrap .i64 ((x0.length:Int) - 1)))≤x0.length)) then (bif (decide (0≤(wrap .i64 ((x0.length:Int) - 1)))) then (bif (!(((x0.drop (Int.toNat (wrap .i64 ((x0.length:Int) - 1)))).take (x0.length - (Int.toNat (wrap .i64 ((x0.length:Int) - 1))))) == ([10]:List UInt8))) then (bif (Xg x0 ([10]:List UInt8)) then (.ret [.nils,(.int .i64 12)]) else .stuck) else (bif (Xg ((x0.drop 0).take (Int.toNat (wrap .i64 ((x0.length:Int) - 1)))) ([10]:List UInt8)) then (.to (.h1)) else .stuck)) else .stuck) else .stuck) else (bif (Xg x0 ([10]:List UInt8)) then (.ret [.nils,(.int .i64 12)]) else .stuck))))
theorem y7b (x0:List UInt8): ∀s,Vr prog (Zx prog 6) (pmsC x0) (pmsC x0 s) (Yx x0 s)
 | .h0 =>(lo fun bK=>(lb (fun k0=>(lr 81 6 [1,1,1,1,1,1,0,1,1,0,0] 1 4 [(2,.nils),(3,(ii (Vh ([]:List R7))))] (sl Zr 26 [] ⟨[],[],[some [2,3]],[]⟩ ⟨[],[],[]⟩ (bl 2 2) (tt k0 (pp (pp (xI R7 0 (fun _=>[])) (xw bK)) nn))))) (fun k0=>(lr 81 3 [1,1,1,1,1,1,0] 1 4 [(2,.nils),(3,(ii 0))] (sl Zr 27 [] ⟨[],[],[some [2,3]],[]⟩ ⟨[],[],[]⟩ (bl 2 0) (tt k0 (pp (pp (xI R7 0 (fun _=>[])) (xw bK)) nn)))))))
 | .h1 =>(lb (fun k0=>(lo fun aI=>(lo fun aY=>(lo fun bP=>(lb (fun k1=>(lr 81 6 [1,1,1,1,1,0,1,0,0,1,1,0,0,1,1,1,0,1,0,0] 1 4 [(2,.nils),(3,(ii 12))] (sl Zr 60 [] ⟨[],[],[some [2,3]],[]⟩ ⟨[],[],[]⟩ (trs 14 []) (tt k1 (ww bP (ww aY (ww aI (tt k0 nn)))))))) (fun k1=>(lb (fun k2=>(lr 81 6 [1,1,1,1,1,0,1,0,0,1,1,0,0,1,1,1,0,1,0,0] 1 4 [(2,.nils),(3,(ii 12))] (sl Zr 60 [] ⟨[],[],[some [2,3]],[]⟩ ⟨[],[],[]⟩ (bl 14 16369) (tt k2 (tt k1 (ww bP (ww aY (ww aI (tt k0 nn))))))))) (fun k2=>(lo fun o0=>(lo fun o1=>(sl Zr 67 [(42,7,Zz ([]:List R7))] ⟨[1,0,2],[],pmsN2,pmsM2⟩ ⟨[(14,.list (Yg (Yq (rd (Yq ((x0.drop 0).take (tn (wr ((x0.length:Int) - 1)))) ([10]:List UInt8)) 0) ([32]:List UInt8)) 1 1).length (Zz (Yg (Yq (rd (Yq ((x0.drop 0).take (tn (wr ((x0.length:Int) - 1)))) ([10]:List UInt8)) 0) ([32]:List UInt8)) 1 1)))],[],[[(6,.grow 2 7),(43,.list (Yg (Yq (rd (Yq ((x0.drop 0).take (tn (wr ((x0.length:Int) - 1)))) ([10]:List UInt8)) 0) ([32]:List UInt8)) 1 1).length (Zz (Yg (Yq (rd (Yq ((x0.drop 0).take (tn (wr ((x0.length:Int) - 1)))) ([10]:List UInt8)) 0) ([32]:List UInt8)) 1 1)))]]⟩ (bl 9 1) (pp (xL 1 (Yg (Yq (rd (Yq ((x0.drop 0).take (tn (wr ((x0.length:Int) - 1)))) ([10]:List UInt8)) 0) ([32]:List UInt8)) 1 1).length) (pp (xS 1 (fun k=>(Zz (Yq (rd (Yq ((x0.drop 0).take (tn (wr ((x0.length:Int) - 1)))) ([10]:List UInt8)) 0) ([32]:List UInt8))) (1+k)) (Zz (Yg (Yq (rd (Yq ((x0.drop 0).take (tn (wr ((x0.length:Int) - 1)))) ([10]:List UInt8)) 0) ([32]:List UInt8)) 1 1))) (pp (xL 1 (Yg (Yq (rd (Yq ((x0.drop 0).take (tn (wr ((x0.length:Int) - 1)))) ([10]:List UInt8)) 0) ([32]:List UInt8)) 1 1).length) (pp (xS 1 (fun k=>(Zz (Yq (rd (Yq ((x0.drop 0).take (tn (wr ((x0.length:Int) - 1)))) ([10]:List UInt8)) 0) ([32]:List UInt8))) (1+k)) (Zz (Yg (Yq (rd (Yq ((x0.drop 0).take (tn (wr ((x0.length:Int) - 1)))) ([10]:List UInt8)) 0) ([32]:List UInt8)) 1 1))) (pp (fl ([]:List R7) nn) (pp (pp nn (pp nn (pp (xG (decide (2≤(Yq (rd (Yq ((x0.drop 0).take (tn (wr ((x0.length:Int) - 1)))) ([10]:List UInt8)) 0) ([32]:List UInt8)).length))) (pp (xG (decide (1≤2))) (xG (x0q (Yq (rd (Yq ((x0.drop 0).take (tn (wr ((x0.length:Int) - 1)))) ([10]:List UInt8)) 0) ([32]:List UInt8)).length (Zz (Yq (rd (Yq ((x0.drop 0).take (tn (wr ((x0.length:Int) - 1)))) ([10]:List UInt8)) 0) ([32]:List UInt8))) 1)))))) (tt k2 (tt k1 (ww bP (ww aY (ww aI (tt k0 nn))))))))))))))))))))))) (fun k0=>(lo fun aI=>(lb (fun k1=>(lr 81 6 [1,1,1,1,1,1,0,1,1,0,0] 1 4 [(2,.nils),(3,(ii (Vh ([]:List R7))))] (sl Zr 26 [] ⟨[],[],[some [2,3]],[]⟩ ⟨[],[],[]⟩ (bl 2 2) (tt k1 (pp (pp (xI R7 0 (fun _=>[])) (xw aI)) (tt k0 nn)))))) (fun k1=>(lr 81 3 [1,1,1,1,1,1,0] 1 4 [(2,.nils),(3,(ii 0))] (sl Zr 27 [] ⟨[],[],[some [2,3]],[]⟩ ⟨[],[],[]⟩ (bl 2 0) (tt k1 (pp (pp (xI R7 0 (fun _=>[])) (xw aI)) (tt k0 nn))))))))))
 | .h2 v14 bA aE bI bD=>(lo fun bK=>(lo fun bM=>(lb (fun k0=>(lr 81 6 [1,1,1,1,1,0,1,0,0,1,1,0,0,1,1,1,0,1,0,0] 1 4 [(2,.nils),(3,(ii 12))] (sl Zr 70 [] ⟨[],[],[some [2,3]],[]⟩ ⟨[],[],[]⟩ (trs 10 (bl 6 62)) (tt k0 (ww bM (ww bK nn)))))) (fun k0=>(lo fun aI=>(lb (fun k1=>(lr 81 6 [1,1,1,1,1,0,1,0,0,1,1,0,0,1,1,1,0,1,0,0] 1 4 [(2,.nils),(3,(ii 12))] (sl Zr 70 [] ⟨[],[],[some [2,3]],[]⟩ ⟨[],[],[]⟩ (bl 16 64481) (tt k1 (ww aI (tt k0 (ww bM (ww bK nn)))))))) (fun k1=>(lb (fun k2=>(lr 81 6 [1,1,1,1,1,0,1,0,0,1,1,0,0,1,1,1,0,1,0,0] 1 4 [(2,.nils),(3,(ii 12))] (sl Zr 70 [] ⟨[],[],[some [2,3]],[]⟩ ⟨[],[],[]⟩ (bl 16 64385) (tt k2 (tt k1 (ww aI (tt k0 (ww bM (ww bK nn))))))))) (fun k2=>(lb (fun k3=>(lr 81 6 [1,1,1,1,1,0,1,0,0,1,1,0,0,1,1,1,0,1,0,0] 1 4 [(2,.nils),(3,(ii 12))] (sl Zr 70 [] ⟨[],[],[some [2,3]],[]⟩ ⟨[],[],[]⟩ (bl 16 64001) (tt k3 (tt k2 (tt k1 (ww aI (tt k0 (ww bM (ww bK nn)))))))))) (fun k3=>(sl Zr 64 [] ⟨[0,1,2],[],pmsN3,pmsM3⟩ ⟨[],[],[]⟩ (bl 10 1) (pp (fl bA nn) (tt k3 (tt k2 (tt k1 (ww aI (tt k0 (ww bM (ww bK nn))))))))))))))))))))
 | .h3 v14 bA aE bI bD aD=>(lb (fun k0=>(lr 81 6 [1,1,1,1,1,0,1,0,0,1,1,0,0,1,1,1,0,1,0,0] 1 4 [(2,.nils),(3,(ii 12))] (sl Zr 29 [] ⟨[],[],[some [2,3]],[]⟩ ⟨[],[],[]⟩ (bl 7 112) (tt k0 nn)))) (fun k0=>(lb (fun k1=>(lr 81 6 [1,1,1,1,1,0,1,0,0,1,1,0,0,1,1,1,0,1,0,0] 1 4 [(2,.nils),(3,(ii 12))] (sl Zr 29 [] ⟨[],[],[some [2,3]],[]⟩ ⟨[],[],[]⟩ (bl 7 64) (tt k1 (tt k0 nn))))) (fun k1=>(lo fun bC=>(lo fun cB=>(lb (fun k2=>(lr 81 6 [1,1,1,1,1,0,1,0,0,1,1,0,0,1,1,1,1,1,0,1,0,0] 1 4 [(2,.nils),(3,(ii 12))] (sl Zr 100 [] ⟨[],[],[some [2,3]],[]⟩ ⟨[],[],[]⟩ (bl 9 384) (tt k2 (pp (pp nn (pp nn (pp (xG (decide (aE.length≤aE.length)) (Ah (Aj _))) (pp (xG (decide (2≤aE.length))) (xG (x0q aE.length (Zz aE) 1)))))) (tt k1 (tt k0 nn))))))) (fun k2=>(sl Zr 76 [] ⟨[4,3,1,2],[],pmsN4,pmsM4⟩ ⟨[(14,.list (Yg aE 2 (aE.length - 2)).length (Zz (Yg aE 2 (aE.length - 2))))],[],[[(4,.list (Yg aE 2 (aE.length - 2)).length (Zz (Yg aE 2 (aE.length - 2))))],[(58,.list (Yg aE 2 (aE.length - 2)).length (Zz (Yg aE 2 (aE.length - 2))))]]⟩ (bl 8 0) (pp (xL (aE.length - 2) (Yg aE 2 (aE.length - 2)).length) (pp (xS (aE.length - 2) (fun k=>(Zz aE) (2+k)) (Zz (Yg aE 2 (aE.length - 2)))) (pp (xL (aE.length - 2) (Yg aE 2 (aE.length - 2)).length) (pp (xS (aE.length - 2) (fun k=>(Zz aE) (2+k)) (Zz (Yg aE 2 (aE.length - 2)))) (pp (xL (aE.length - 2) (Yg aE 2 (aE.length - 2)).length) (pp (xS (aE.length - 2) (fun k=>(Zz aE) (2+k)) (Zz (Yg aE 2 (aE.length - 2)))) (pp (fl bA nn) (tt k2 (pp (pp nn (pp nn (pp (xG (decide (aE.length≤aE.length)) (Ah (Aj _))) (pp (xG (decide (2≤aE.length))) (xG (x0q aE.length (Zz aE) 1)))))) (tt k1 (tt k0 nn))))))))))))))))))))
 | .h4 v14 v15 aM aA aG aH aC=>(lb (fun k0=>(lo fun aI=>(lo fun aY=>(lb (fun k1=>(lr 81 6 [1,1,1,1,1,0,1,0,0,1,1,0,0,1,1,1,1,1,0,1,0,0] 1 4 [(2,.nils),(3,(ii 12))] (sl Zr 82 [] ⟨[],[],[some [2,3]],[]⟩ ⟨[],[],[]⟩ (trs 11 []) (tt k1 (ww aY (ww aI (tt k0 nn))))))) (fun k1=>(lo fun bC=>(lb (fun k2=>(lr 81 6 [1,1,1,1,1,0,1,0,0,1,1,0,0,1,1,1,1,1,0,1,0,0] 1 4 [(2,.nils),(3,(ii 12))] (sl Zr 82 [] ⟨[],[],[some [2,3]],[]⟩ ⟨[],[],[]⟩ (bl 11 2017) (tt k2 (ww bC (tt k1 (ww aY (ww aI (tt k0 nn))))))))) (fun k2=>(lb (fun k3=>(lr 81 6 [1,1,1,1,1,0,1,0,0,1,1,0,0,1,1,1,1,1,0,1,0,0] 1 4 [(2,.nils),(3,(ii 12))] (sl Zr 82 [] ⟨[],[],[some [2,3]],[]⟩ ⟨[],[],[]⟩ (bl 11 1921) (tt k3 (tt k2 (ww bC (tt k1 (ww aY (ww aI (tt k0 nn)))))))))) (fun k3=>(lb (fun k4=>(lr 81 6 [1,1,1,1,1,0,1,0,0,1,1,0,0,1,1,1,1,1,0,1,0,0] 1 4 [(2,.nils),(3,(ii 12))] (sl Zr 82 [] ⟨[],[],[some [2,3]],[]⟩ ⟨[],[],[]⟩ (bl 11 1537) (tt k4 (tt k3 (tt k2 (ww bC (tt k1 (ww aY (ww aI (tt k0 nn))))))))))) (fun k4=>(sl Zr 64 [] ⟨[0,1,2,3],[],pmsN5,pmsM5⟩ ⟨[],[],[]⟩ (bl 10 1) (pp (fl aA nn) (tt k4 (tt k3 (tt k2 (ww bC (tt k1 (ww aY (ww aI (tt k0 nn)))))))))))))))))))))) (fun k0=>(lo fun o0=>(sl Zr 56 [] ⟨[6],[],y2o,y2p⟩ ⟨[(6,.len (aA++[(R7.mk (wrap IntKind.u8 aC) 0 0 0 0 0 0)]).length)],[.rowed 7 (aA++[(R7.mk (wrap IntKind.u8 aC) 0 0 0 0 0 0)]).length (Zz (aA++[(R7.mk (wrap IntKind.u8 aC) 0 0 0 0 0 0)]))],[]⟩ (bl 2 0) (pp (xL (aA.length+1) (aA++[(R7.mk (wrap IntKind.u8 aC) 0 0 0 0 0 0)]).length) (pp (xL (aA.length+1) (aA++[(R7.mk (wrap IntKind.u8 aC) 0 0 0 0 0 0)]).length) (pp (xS (aA.length+1) (Zh (Zz aA) 0 aA.length 7 [(.int .u8 (wrap IntKind.u8 aC)),(ii 0),(ii 0),(ii 0),(ii 0),(ii 0),(ii 0)]) (Zz (aA++[(R7.mk (wrap IntKind.u8 aC) 0 0 0 0 0 0)]))) (pp (pp (xF (Zh (Zz aA) 0 aA.length 7 [(.int .u8 (wrap IntKind.u8 aC)),(ii 0),(ii 0),(ii 0),(ii 0),(ii 0),(ii 0)])) nn) (ww o0 (tt k0 nn))))))))))
 | .h5 v14 v15 aM aA aG aH aD aC=>(lb (fun k0=>(lo fun aI=>(lo fun aY=>(lb (fun k1=>(lr 81 6 [1,1,1,1,1,0,1,0,0,1,1,0,0,1,1,1,1,1,0,1,0,0] 1 4 [(2,.nils),(3,(ii 12))] (sl Zr 82 [] ⟨[],[],[some [2,3]],[]⟩ ⟨[],[],[]⟩ (trs 11 []) (tt k1 (ww aY (ww aI (tt k0 nn))))))) (fun k1=>(lo fun bC=>(lb (fun k2=>(lr 81 6 [1,1,1,1,1,0,1,0,0,1,1,0,0,1,1,1,1,1,0,1,0,0] 1 4 [(2,.nils),(3,(ii 12))] (sl Zr 82 [] ⟨[],[],[some [2,3]],[]⟩ ⟨[],[],[]⟩ (bl 11 2017) (tt k2 (ww bC (tt k1 (ww aY (ww aI (tt k0 nn))))))))) (fun k2=>(lb (fun k3=>(lr 81 6 [1,1,1,1,1,0,1,0,0,1,1,0,0,1,1,1,1,1,0,1,0,0] 1 4 [(2,.nils),(3,(ii 12))] (sl Zr 82 [] ⟨[],[],[some [2,3]],[]⟩ ⟨[],[],[]⟩ (bl 11 1921) (tt k3 (tt k2 (ww bC (tt k1 (ww aY (ww aI (tt k0 nn)))))))))) (fun k3=>(lb (fun k4=>(lr 81 6 [1,1,1,1,1,0,1,0,0,1,1,0,0,1,1,1,1,1,0,1,0,0] 1 4 [(2,.nils),(3,(ii 12))] (sl Zr 82 [] ⟨[],[],[some [2,3]],[]⟩ ⟨[],[],[]⟩ (bl 11 1537) (tt k4 (tt k3 (tt k2 (ww bC (tt k1 (ww aY (ww aI (tt k0 nn))))))))))) (fun k4=>(sl Zr 64 [] ⟨[0,1,2,3],[],pmsN7,pmsM7⟩ ⟨[],[],[]⟩ (bl 10 1) (pp (fl aA nn) (tt k4 (tt k3 (tt k2 (ww bC (tt k1 (ww aY (ww aI (tt k0 nn)))))))))))))))))))))) (fun k0=>(lo fun o0=>(sl Zr 56 [] ⟨[6],[],y2o,y2p⟩ ⟨[(6,.len (aA++[(R7.mk (wrap IntKind.u8 aC) aD 0 0 0 0 0)]).length)],[.rowed 7 (aA++[(R7.mk (wrap IntKind.u8 aC) aD 0 0 0 0 0)]).length (Zz (aA++[(R7.mk (wrap IntKind.u8 aC) aD 0 0 0 0 0)]))],[]⟩ (bl 2 0) (pp (xL (aA.length+1) (aA++[(R7.mk (wrap IntKind.u8 aC) aD 0 0 0 0 0)]).length) (pp (xL (aA.length+1) (aA++[(R7.mk (wrap IntKind.u8 aC) aD 0 0 0 0 0)]).length) (pp (xS (aA.length+1) (Zh (Zz aA) 0 aA.length 7 [(.int .u8 (wrap IntKind.u8 aC)),(ii aD),(ii 0),(ii 0),(ii 0),(ii 0),(ii 0)]) (Zz (aA++[(R7.mk (wrap IntKind.u8 aC) aD 0 0 0 0 0)]))) (pp (pp (xF (Zh (Zz aA) 0 aA.length 7 [(.int .u8 (wrap IntKind.u8 aC)),(ii aD),(ii 0),(ii 0),(ii 0),(ii 0),(ii 0)])) nn) (ww o0 (tt k0 nn))))))))))
 | .h6 v6 v26=>(lb (fun k0=>(lo fun aI=>(lo fun aY=>(lo fun bP=>(lb (fun k1=>(lr 81 6 [1,1,1,1,1,0,1,0,0,1,1,0,0,1,1,1,0,1,0,0] 1 4 [(2,.nils),(3,(ii 12))] (sl Zr 60 [] ⟨[],[],[some [2,3]],[]⟩ ⟨[],[],[]⟩ (trs 14 []) (tt k1 (ww bP (ww aY (ww aI (tt k0 nn)))))))) (fun k1=>(lb (fun k2=>(lr 81 6 [1,1,1,1,1,0,1,0,0,1,1,0,0,1,1,1,0,1,0,0] 1 4 [(2,.nils),(3,(ii 12))] (sl Zr 60 [] ⟨[],[],[some [2,3]],[]⟩ ⟨[],[],[]⟩ (bl 14 16369) (tt k2 (tt k1 (ww bP (ww aY (ww aI (tt k0 nn))))))))) (fun k2=>(lo fun o0=>(lo fun o1=>(sl Zr 67 [] ⟨[2,1,0],[],pmsN2,pmsM2⟩ ⟨[(14,.list (Yg (Yq (rd (Yq ((x0.drop 0).take (tn (wr ((x0.length:Int) - 1)))) ([10]:List UInt8)) (tn v26)) ([32]:List UInt8)) 1 1).length (Zz (Yg (Yq (rd (Yq ((x0.drop 0).take (tn (wr ((x0.length:Int) - 1)))) ([10]:List UInt8)) (tn v26)) ([32]:List UInt8)) 1 1)))],[],[[(43,.list (Yg (Yq (rd (Yq ((x0.drop 0).take (tn (wr ((x0.length:Int) - 1)))) ([10]:List UInt8)) (tn v26)) ([32]:List UInt8)) 1 1).length (Zz (Yg (Yq (rd (Yq ((x0.drop 0).take (tn (wr ((x0.length:Int) - 1)))) ([10]:List UInt8)) (tn v26)) ([32]:List UInt8)) 1 1)))]]⟩ (bl 9 1) (pp (xL 1 (Yg (Yq (rd (Yq ((x0.drop 0).take (tn (wr ((x0.length:Int) - 1)))) ([10]:List UInt8)) (tn v26)) ([32]:List UInt8)) 1 1).length) (pp (xS 1 (fun k=>(Zz (Yq (rd (Yq ((x0.drop 0).take (tn (wr ((x0.length:Int) - 1)))) ([10]:List UInt8)) (tn v26)) ([32]:List UInt8))) (1+k)) (Zz (Yg (Yq (rd (Yq ((x0.drop 0).take (tn (wr ((x0.length:Int) - 1)))) ([10]:List UInt8)) (tn v26)) ([32]:List UInt8)) 1 1))) (pp (xL 1 (Yg (Yq (rd (Yq ((x0.drop 0).take (tn (wr ((x0.length:Int) - 1)))) ([10]:List UInt8)) (tn v26)) ([32]:List UInt8)) 1 1).length) (pp (xS 1 (fun k=>(Zz (Yq (rd (Yq ((x0.drop 0).take (tn (wr ((x0.length:Int) - 1)))) ([10]:List UInt8)) (tn v26)) ([32]:List UInt8))) (1+k)) (Zz (Yg (Yq (rd (Yq ((x0.drop 0).take (tn (wr ((x0.length:Int) - 1)))) ([10]:List UInt8)) (tn v26)) ([32]:List UInt8)) 1 1))) (pp (fl v6 nn) (pp (pp nn (pp nn (pp (xG (decide (2≤(Yq (rd (Yq ((x0.drop 0).take (tn (wr ((x0.length:Int) - 1)))) ([10]:List UInt8)) (tn v26)) ([32]:List UInt8)).length))) (pp (xG (decide (1≤2))) (xG (x0q (Yq (rd (Yq ((x0.drop 0).take (tn (wr ((x0.length:Int) - 1)))) ([10]:List UInt8)) (tn v26)) ([32]:List UInt8)).length (Zz (Yq (rd (Yq ((x0.drop 0).take (tn (wr ((x0.length:Int) - 1)))) ([10]:List UInt8)) (tn v26)) ([32]:List UInt8))) 1)))))) (tt k2 (tt k1 (ww bP (ww aY (ww aI (tt k0 nn))))))))))))))))))))))) (fun k0=>(lo fun aI=>(lo fun aY=>(lb (fun k1=>(lr 81 6 [1,1,1,1,1,1,0,1,1,0,0] 1 4 [(2,.nils),(3,(ii (Vh (lst R7 (v6.length) (fun k=>(Zz v6) (0+k))))))] (sl Zr 26 [] ⟨[],[],[some [2,3]],[]⟩ ⟨[],[],[]⟩ (bl 2 2) (tt k1 (pp (pp (pp (xw aI) nn) (pp (xI R7 (v6.length) (fun k=>(Zz v6) (0+k))) (xw aY))) (tt k0 nn)))))) (fun k1=>(lr 81 3 [1,1,1,1,1,1,0] 1 4 [(2,(.dat v6.length (Zz v6))),(3,(ii 0))] (sl Zr 27 [] ⟨[],[0],[some [2,3]],[]⟩ ⟨[(2,.frz v6.length v6.length (Zz v6) (Zz v6))],[],[]⟩ (bl 2 0) (pp (xZ (x7o 7 7 0 v6.length v6.length (Zz v6)) v6.length (Zz v6)) (pp (xL v6.length v6.length) (pp (xS v6.length (Zz v6) (Zz v6)) (pp (fl v6 nn) (tt k1 (pp (pp (pp (xw aI) nn) (pp (xI R7 (v6.length) (fun k=>(Zz v6) (0+k))) (xw aY))) (tt k0 nn)))))))))))))))
 | .h7 v14 v15 aM aA aG aH aD aJ aC=>(lb (fun k0=>(lo fun aI=>(lo fun aY=>(lb (fun k1=>(lr 81 6 [1,1,1,1,1,0,1,0,0,1,1,0,0,1,1,1,1,1,0,1,0,0] 1 4 [(2,.nils),(3,(ii 12))] (sl Zr 82 [] ⟨[],[],[some [2,3]],[]⟩ ⟨[],[],[]⟩ (trs 11 []) (tt k1 (ww aY (ww aI (tt k0 nn))))))) (fun k1=>(lo fun bC=>(lb (fun k2=>(lr 81 6 [1,1,1,1,1,0,1,0,0,1,1,0,0,1,1,1,1,1,0,1,0,0] 1 4 [(2,.nils),(3,(ii 12))] (sl Zr 82 [] ⟨[],[],[some [2,3]],[]⟩ ⟨[],[],[]⟩ (bl 11 2017) (tt k2 (ww bC (tt k1 (ww aY (ww aI (tt k0 nn))))))))) (fun k2=>(lb (fun k3=>(lr 81 6 [1,1,1,1,1,0,1,0,0,1,1,0,0,1,1,1,1,1,0,1,0,0] 1 4 [(2,.nils),(3,(ii 12))] (sl Zr 82 [] ⟨[],[],[some [2,3]],[]⟩ ⟨[],[],[]⟩ (bl 11 1921) (tt k3 (tt k2 (ww bC (tt k1 (ww aY (ww aI (tt k0 nn)))))))))) (fun k3=>(lb (fun k4=>(lr 81 6 [1,1,1,1,1,0,1,0,0,1,1,0,0,1,1,1,1,1,0,1,0,0] 1 4 [(2,.nils),(3,(ii 12))] (sl Zr 82 [] ⟨[],[],[some [2,3]],[]⟩ ⟨[],[],[]⟩ (bl 11 1537) (tt k4 (tt k3 (tt k2 (ww bC (tt k1 (ww aY (ww aI (tt k0 nn))))))))))) (fun k4=>(sl Zr 64 [] ⟨[0,1,3,2],[],pmsN8,pmsM8⟩ ⟨[],[],[]⟩ (bl 10 1) (pp (fl aA nn) (tt k4 (tt k3 (tt k2 (ww bC (tt k1 (ww aY (ww aI (tt k0 nn)))))))))))))))))))))) (fun k0=>(lo fun o0=>(sl Zr 56 [] ⟨[6],[],y2o,y2p⟩ ⟨[(6,.len (aA++[(R7.mk (wrap IntKind.u8 aC) aD aJ 0 0 0 0)]).length)],[.rowed 7 (aA++[(R7.mk (wrap IntKind.u8 aC) aD aJ 0 0 0 0)]).length (Zz (aA++[(R7.mk (wrap IntKind.u8 aC) aD aJ 0 0 0 0)]))],[]⟩ (bl 2 0) (pp (xL (aA.length+1) (aA++[(R7.mk (wrap IntKind.u8 aC) aD aJ 0 0 0 0)]).length) (pp (xL (aA.length+1) (aA++[(R7.mk (wrap IntKind.u8 aC) aD aJ 0 0 0 0)]).length) (pp (xS (aA.length+1) (Zh (Zz aA) 0 aA.length 7 [(.int .u8 (wrap IntKind.u8 aC)),(ii aD),(ii aJ),(ii 0),(ii 0),(ii 0),(ii 0)]) (Zz (aA++[(R7.mk (wrap IntKind.u8 aC) aD aJ 0 0 0 0)]))) (pp (pp (xF (Zh (Zz aA) 0 aA.length 7 [(.int .u8 (wrap IntKind.u8 aC)),(ii aD),(ii aJ),(ii 0),(ii 0),(ii 0),(ii 0)])) nn) (ww o0 (tt k0 nn))))))))))
 | .h8 v14 v15 aM aA aG aH aD aJ aU aV=>(lb (fun k0=>(lo fun aI=>(lo fun aY=>(lb (fun k1=>(lr 81 6 [1,1,1,1,1,0,1,0,0,1,1,0,0,1,1,1,1,1,0,1,0,0] 1 4 [(2,.nils),(3,(ii 12))] (sl Zr 82 [] ⟨[],[],[some [2,3]],[]⟩ ⟨[],[],[]⟩ (trs 11 []) (tt k1 (ww aY (ww aI (tt k0 nn))))))) (fun k1=>(lo fun bC=>(lb (fun k2=>(lr 81 6 [1,1,1,1,1,0,1,0,0,1,1,0,0,1,1,1,1,1,0,1,0,0] 1 4 [(2,.nils),(3,(ii 12))] (sl Zr 82 [] ⟨[],[],[some [2,3]],[]⟩ ⟨[],[],[]⟩ (bl 11 2017) (tt k2 (ww bC (tt k1 (ww aY (ww aI (tt k0 nn))))))))) (fun k2=>(lb (fun k3=>(lr 81 6 [1,1,1,1,1,0,1,0,0,1,1,0,0,1,1,1,1,1,0,1,0,0] 1 4 [(2,.nils),(3,(ii 12))] (sl Zr 82 [] ⟨[],[],[some [2,3]],[]⟩ ⟨[],[],[]⟩ (bl 11 1921) (tt k3 (tt k2 (ww bC (tt k1 (ww aY (ww aI (tt k0 nn)))))))))) (fun k3=>(lb (fun k4=>(lr 81 6 [1,1,1,1,1,0,1,0,0,1,1,0,0,1,1,1,1,1,0,1,0,0] 1 4 [(2,.nils),(3,(ii 12))] (sl Zr 82 [] ⟨[],[],[some [2,3]],[]⟩ ⟨[],[],[]⟩ (bl 11 1537) (tt k4 (tt k3 (tt k2 (ww bC (tt k1 (ww aY (ww aI (tt k0 nn))))))))))) (fun k4=>(sl Zr 64 [] ⟨[0,1,2,3],[],pmsN9,pmsM9⟩ ⟨[],[],[]⟩ (bl 10 1) (pp (fl aA nn) (tt k4 (tt k3 (tt k2 (ww bC (tt k1 (ww aY (ww aI (tt k0 nn)))))))))))))))))))))) (fun k0=>(lo fun o0=>(sl Zr 56 [] ⟨[6],[],y2o,y2p⟩ ⟨[(6,.len (aA++[(R7.mk (wrap IntKind.u8 aV) aD aJ aU 0 0 0)]).length)],[.rowed 7 (aA++[(R7.mk (wrap IntKind.u8 aV) aD aJ aU 0 0 0)]).length (Zz (aA++[(R7.mk (wrap IntKind.u8 aV) aD aJ aU 0 0 0)]))],[]⟩ (bl 2 0) (pp (xL (aA.length+1) (aA++[(R7.mk (wrap IntKind.u8 aV) aD aJ aU 0 0 0)]).length) (pp (xL (aA.length+1) (aA++[(R7.mk (wrap IntKind.u8 aV) aD aJ aU 0 0 0)]).length) (pp (xS (aA.length+1) (Zh (Zz aA) 0 aA.length 7 [(.int .u8 (wrap IntKind.u8 aV)),(ii aD),(ii aJ),(ii aU),(ii 0),(ii 0),(ii 0)]) (Zz (aA++[(R7.mk (wrap IntKind.u8 aV) aD aJ aU 0 0 0)]))) (pp (pp (xF (Zh (Zz aA) 0 aA.length 7 [(.int .u8 (wrap IntKind.u8 aV)),(ii aD),(ii aJ),(ii aU),(ii 0),(ii 0),(ii 0)])) nn) (ww o0 (tt k0 nn))))))))))
 | .h9 v14 v15 aM aA aG aH aD aJ aU aZ aV=>(lb (fun k0=>(lo fun aI=>(lo fun aY=>(lb (fun k1=>(lr 81 6 [1,1,1,1,1,0,1,0,0,1,1,0,0,1,1,1,1,1,0,1,0,0] 1 4 [(2,.nils),(3,(ii 12))] (sl Zr 82 [] ⟨[],[],[some [2,3]],[]⟩ ⟨[],[],[]⟩ (trs 11 []) (tt k1 (ww aY (ww aI (tt k0 nn))))))) (fun k1=>(lo fun bC=>(lb (fun k2=>(lr 81 6 [1,1,1,1,1,0,1,0,0,1,1,0,0,1,1,1,1,1,0,1,0,0] 1 4 [(2,.nils),(3,(ii 12))] (sl Zr 82 [] ⟨[],[],[some [2,3]],[]⟩ ⟨[],[],[]⟩ (bl 11 2017) (tt k2 (ww bC (tt k1 (ww aY (ww aI (tt k0 nn))))))))) (fun k2=>(lb (fun k3=>(lr 81 6 [1,1,1,1,1,0,1,0,0,1,1,0,0,1,1,1,1,1,0,1,0,0] 1 4 [(2,.nils),(3,(ii 12))] (sl Zr 82 [] ⟨[],[],[some [2,3]],[]⟩ ⟨[],[],[]⟩ (bl 11 1921) (tt k3 (tt k2 (ww bC (tt k1 (ww aY (ww aI (tt k0 nn)))))))))) (fun k3=>(lb (fun k4=>(lr 81 6 [1,1,1,1,1,0,1,0,0,1,1,0,0,1,1,1,1,1,0,1,0,0] 1 4 [(2,.nils),(3,(ii 12))] (sl Zr 82 [] ⟨[],[],[some [2,3]],[]⟩ ⟨[],[],[]⟩ (bl 11 1537) (tt k4 (tt k3 (tt k2 (ww bC (tt k1 (ww aY (ww aI (tt k0 nn))))))))))) (fun k4=>(sl Zr 64 [] ⟨[0,1,2,3],[],pmsN10,pmsM10⟩ ⟨[],[],[]⟩ (bl 10 1) (pp (fl aA nn) (tt k4 (tt k3 (tt k2 (ww bC (tt k1 (ww aY (ww aI (tt k0 nn)))))))))))))))))))))) (fun k0=>(lo fun o0=>(sl Zr 56 [] ⟨[6],[],y2o,y2p⟩ ⟨[(6,.len (aA++[(R7.mk (wrap IntKind.u8 aV) aD aJ aU aZ 0 0)]).length)],[.rowed 7 (aA++[(R7.mk (wrap IntKind.u8 aV) aD aJ aU aZ 0 0)]).length (Zz (aA++[(R7.mk (wrap IntKind.u8 aV) aD aJ aU aZ 0 0)]))],[]⟩ (bl 2 0) (pp (xL (aA.length+1) (aA++[(R7.mk (wrap IntKind.u8 aV) aD aJ aU aZ 0 0)]).length) (pp (xL (aA.length+1) (aA++[(R7.mk (wrap IntKind.u8 aV) aD aJ aU aZ 0 0)]).length) (pp (xS (aA.length+1) (Zh (Zz aA) 0 aA.length 7 [(.int .u8 (wrap IntKind.u8 aV)),(ii aD),(ii aJ),(ii aU),(ii aZ),(ii 0),(ii 0)]) (Zz (aA++[(R7.mk (wrap IntKind.u8 aV) aD aJ aU aZ 0 0)]))) (pp (pp (xF (Zh (Zz aA) 0 aA.length 7 [(.int .u8 (wrap IntKind.u8 aV)),(ii aD),(ii aJ),(ii aU),(ii aZ),(ii 0),(ii 0)])) nn) (ww o0 (tt k0 nn))))))))))
 | .h10 v14 v15 aM aA aG aH aD aJ aU aZ bB aV=>(lb (fun k0=>(lo fun aI=>(lo fun aY=>(lb (fun k1=>(lr 81 6 [1,1,1,1,1,0,1,0,0,1,1,0,0,1,1,1,1,1,0,1,0,0] 1 4 [(2,.nils),(3,(ii 12))] (sl Zr 82 [] ⟨[],[],[some [2,3]],[]⟩ ⟨[],[],[]⟩ (trs 11 []) (tt k1 (ww aY (ww aI (tt k0 nn))))))) (fun k1=>(lo fun bC=>(lb (fun k2=>(lr 81 6 [1,1,1,1,1,0,1,0,0,1,1,0,0,1,1,1,1,1,0,1,0,0] 1 4 [(2,.nils),(3,(ii 12))] (sl Zr 82 [] ⟨[],[],[some [2,3]],[]⟩ ⟨[],[],[]⟩ (bl 11 2017) (tt k2 (ww bC (tt k1 (ww aY (ww aI (tt k0 nn))))))))) (fun k2=>(lb (fun k3=>(lr 81 6 [1,1,1,1,1,0,1,0,0,1,1,0,0,1,1,1,1,1,0,1,0,0] 1 4 [(2,.nils),(3,(ii 12))] (sl Zr 82 [] ⟨[],[],[some [2,3]],[]⟩ ⟨[],[],[]⟩ (bl 11 1921) (tt k3 (tt k2 (ww bC (tt k1 (ww aY (ww aI (tt k0 nn)))))))))) (fun k3=>(lb (fun k4=>(lr 81 6 [1,1,1,1,1,0,1,0,0,1,1,0,0,1,1,1,1,1,0,1,0,0] 1 4 [(2,.nils),(3,(ii 12))] (sl Zr 82 [] ⟨[],[],[some [2,3]],[]⟩ ⟨[],[],[]⟩ (bl 11 1537) (tt k4 (tt k3 (tt k2 (ww bC (tt k1 (ww aY (ww aI (tt k0 nn))))))))))) (fun k4=>(sl Zr 64 [] ⟨[0,1,2,3],[],pmsN11,pmsM11⟩ ⟨[],[],[]⟩ (bl 10 1) (pp (fl aA nn) (tt k4 (tt k3 (tt k2 (ww bC (tt k1 (ww aY (ww aI (tt k0 nn)))))))))))))))))))))) (fun k0=>(lo fun o0=>(sl Zr 56 [] ⟨[6],[],y2o,y2p⟩ ⟨[(6,.len (aA++[(R7.mk (wrap IntKind.u8 aV) aD aJ aU aZ bB 0)]).length)],[.rowed 7 (aA++[(R7.mk (wrap IntKind.u8 aV) aD aJ aU aZ bB 0)]).length (Zz (aA++[(R7.mk (wrap IntKind.u8 aV) aD aJ aU aZ bB 0)]))],[]⟩ (bl 2 0) (pp (xL (aA.length+1) (aA++[(R7.mk (wrap IntKind.u8 aV) aD aJ aU aZ bB 0)]).length) (pp (xL (aA.length+1) (aA++[(R7.mk (wrap IntKind.u8 aV) aD aJ aU aZ bB 0)]).length) (pp (xS (aA.length+1) (Zh (Zz aA) 0 aA.length 7 [(.int .u8 (wrap IntKind.u8 aV)),(ii aD),(ii aJ),(ii aU),(ii aZ),(ii bB),(ii 0)]) (Zz (aA++[(R7.mk (wrap IntKind.u8 aV) aD aJ aU aZ bB 0)]))) (pp (pp (xF (Zh (Zz aA) 0 aA.length 7 [(.int .u8 (wrap IntKind.u8 aV)),(ii aD),(ii aJ),(ii aU),(ii aZ),(ii bB),(ii 0)])) nn) (ww o0 (tt k0 nn))))))))))
 | .h11 v14 v15 aM aA aG aH aD aJ aU aZ bB bL aV=>(lb (fun k0=>(lo fun aI=>(lo fun aY=>(lb (fun k1=>(lr 81 6 [1,1,1,1,1,0,1,0,0,1,1,0,0,1,1,1,1,1,0,1,0,0] 1 4 [(2,.nils),(3,(ii 12))] (sl Zr 82 [] ⟨[],[],[some [2,3]],[]⟩ ⟨[],[],[]⟩ (trs 11 []) (tt k1 (ww aY (ww aI (tt k0 nn))))))) (fun k1=>(lo fun bC=>(lb (fun k2=>(lr 81 6 [1,1,1,1,1,0,1,0,0,1,1,0,0,1,1,1,1,1,0,1,0,0] 1 4 [(2,.nils),(3,(ii 12))] (sl Zr 82 [] ⟨[],[],[some [2,3]],[]⟩ ⟨[],[],[]⟩ (bl 11 2017) (tt k2 (ww bC (tt k1 (ww aY (ww aI (tt k0 nn))))))))) (fun k2=>(lb (fun k3=>(lr 81 6 [1,1,1,1,1,0,1,0,0,1,1,0,0,1,1,1,1,1,0,1,0,0] 1 4 [(2,.nils),(3,(ii 12))] (sl Zr 82 [] ⟨[],[],[some [2,3]],[]⟩ ⟨[],[],[]⟩ (bl 11 1921) (tt k3 (tt k2 (ww bC (tt k1 (ww aY (ww aI (tt k0 nn)))))))))) (fun k3=>(lb (fun k4=>(lr 81 6 [1,1,1,1,1,0,1,0,0,1,1,0,0,1,1,1,1,1,0,1,0,0] 1 4 [(2,.nils),(3,(ii 12))] (sl Zr 82 [] ⟨[],[],[some [2,3]],[]⟩ ⟨[],[],[]⟩ (bl 11 1537) (tt k4 (tt k3 (tt k2 (ww bC (tt k1 (ww aY (ww aI (tt k0 nn))))))))))) (fun k4=>trivial)))))))))))) (fun k0=>(lo fun o0=>(sl Zr 56 [] ⟨[6],[],y2o,y2p⟩ ⟨[(6,.len (aA++[(R7.mk (wrap IntKind.u8 aV) aD aJ aU aZ bB bL)]).length)],[.rowed 7 (aA++[(R7.mk (wrap IntKind.u8 aV) aD aJ aU aZ bB bL)]).length (Zz (aA++[(R7.mk (wrap IntKind.u8 aV) aD aJ aU aZ bB bL)]))],[]⟩ (bl 2 0) (pp (xL (aA.length+1) (aA++[(R7.mk (wrap IntKind.u8 aV) aD aJ aU aZ bB bL)]).length) (pp (xL (aA.length+1) (aA++[(R7.mk (wrap IntKind.u8 aV) aD aJ aU aZ bB bL)]).length) (pp (xS (aA.length+1) (Zh (Zz aA) 0 aA.length 7 [(.int .u8 (wrap IntKind.u8 aV)),(ii aD),(ii aJ),(ii aU),(ii aZ),(ii bB),(ii bL)]) (Zz (aA++[(R7.mk (wrap IntKind.u8 aV) aD aJ aU aZ bB bL)]))) (pp (pp (xF (Zh (Zz aA) 0 aA.length 7 [(.int .u8 (wrap IntKind.u8 aV)),(ii aD),(ii aJ),(ii aU),(ii aZ),(ii bB),(ii bL)])) nn) (ww o0 (tt k0 nn))))))))))
theorem y2n (x0:List UInt8):Vr prog (Zx prog 6) (pmsC x0) (Zs prog 6 [(.str x0)] true []) (Qq x0):=(lb (fun k0=>(lr 81 6 [1,0,1,0,0] 1 4 [(2,.nils),(3,(ii 4))] (sl Zr 18 [] ⟨[],[],[some [2,3]],[]⟩ ⟨[],[],[]⟩ [true] (tt k0 nn)))) (fun k0=>(lb (fun k1=>(sl Zr 63 [] ⟨[],[],pmsN0,pmsM0⟩ ⟨[],[],[]⟩ [false,true,false] (tt k1 (tt k0 nn)))) (fun k1=>(lb (fun k2=>(lo fun bQ=>(lo fun bY=>(lb (fun k3=>(lo fun o0=>(lr 81 6 [1,1,1,0,1,0,0] 1 4 [(2,.nils),(3,(ii 12))] (sl Zr 130 [] ⟨[],[],[some [2,3]],[]⟩ ⟨[],[],[]⟩ [false,false,true,true,true,true,true,true,true,true,true,true,true] (ww o0 (tt k3 (pp (pp nn (pp (xw bY) (pp (xG (decide (x0.length≤x0.length)) (Ah (Aj _))) (xG (decide ((tn (wr ((x0.length:Int) - 1)))≤x0.length)))))) (tt k2 (tt k1 (tt k0 nn)))))))))) (fun k3=>(lo fun o0=>(sl Zr 146 [] ⟨[],[],pmsN1,pmsM1⟩ ⟨[],[],[]⟩ [false,false,true,true,true,true,true,true,true,true,true,false,false] (ww o0 (pp (pp (xw bY) (pp nn (pp (xG (decide ((tn (wr ((x0.length:Int) - 1)))≤x0.length))) (xG (decide (0≤(tn (wr ((x0.length:Int) - 1))))))))) (tt k3 (pp (pp nn (pp (xw bY) (pp (xG (decide (x0.length≤x0.length)) (Ah (Aj _))) (xG (decide ((tn (wr ((x0.length:Int) - 1)))≤x0.length)))))) (tt k2 (tt k1 (tt k0 nn)))))))))))))) (fun k2=>(lo fun o0=>(lr 81 6 [1,1,1,0,1,0,0] 1 4 [(2,.nils),(3,(ii 12))] (sl Zr 130 [] ⟨[],[],[some [2,3]],[]⟩ ⟨[],[],[]⟩ [false,false,false,false,false,false,false,false,false,false,false,true,true] (ww o0 (tt k2 (tt k1 (tt k0 nn)))))))))))))
theorem x3j (x0:List UInt8) (n:Nat) (vs:List AVal) (h:goOn (Yx x0) n (Qq x0)=.ret vs):z2v prog (Zx prog 6) (Zs prog 6 [(.str x0)] true []) vs:=by have:=Yd (y7b x0) n _ (y2n x0);rwa [h] at this
inductive rpmS where
 | h0 (v5:List R7) (v6:Int)
def rpmC (x0:List UInt8):rpmS→Cfg
 | .h0 v5 v6=>⟨⟨94,0,true⟩,none,(Yh prog 7 [1,1,1,1,1,0,1,0,0] 0),none,(Zx prog 4),⟨Vq [(4,(.dat (Zw x0 10).length (Zz (Zw x0 10)))),(5,(.sla 0 7 0 v5.length (.un 7))),(6,(ii v6))],Qg [⟨rows v5.length (Zz v5),42,some ⟨7,v5.length,(Zz v5)⟩⟩] 0,1,[],true⟩,[],.leaf⟩
def rpmN0 :List (Option (List Nat)):=[some [4,5,6]]
def rpmM0 :List (Option (List Nat)):=[]
def Kb (x0:List UInt8):rpmS→Vj rpmS
 | .h0 v5 v6=>(bif (decide ((wrap .i64 (v6+1))<(((Zw x0 10).length :Nat):Int))) then (bif ((decide (0≤v6∧v6<(((Zw x0 10).length :Nat):Int)))&&true) then (bif (Vw (rd (Zw x0 10) v6.toNat) 32) then (bif (decide (1≤(Zw (rd (Zw x0 10) v6.toNat) 32).length)) then (bif (decide ((Zw (rd (Zw x0 10) v6.toNat) 32).length ≤(Zw (rd (Zw x0 10) v6.toNat) 32).length)) then (bif (Ju (lst (List UInt8) ((Zw (rd (Zw x0 10) v6.toNat) 32).length - 1) (fun k=>(Zz (Zw (rd (Zw x0 10) v6.toNat) 32)) (1+k))) 7) then (bif ((decide ((0:Int)≤0∧0<(((Zw (rd (Zw x0 10) v6.toNat) 32).length :Nat):Int)))&&true) then (bif (!((rd (Zw (rd (Zw x0 10) v6.toNat) 32) 0) == ([113,117,97,100]:List UInt8))) then (.ret [.nils,(.int .i64 12)]) else (bif (!(y4p (lst (List UInt8) ((Zw (rd (Zw x0 10) v6.toNat) 32).length - 1) (fun k=>(Zz (Zw (rd (Zw x0 10) v6.toNat) 32)) (1+k))) 7)) then (.ret [.nils,(.int .i64 12)]) else (bif ((decide ((0:Int)≤0∧0<(((Za (lst (List UInt8) ((Zw (rd (Zw x0 10) v6.toNat) 32).length - 1) (fun k=>(Zz (Zw (rd (Zw x0 10) v6.toNat) 32)) (1+k))) 7).length :Nat):Int)))&&true) then (bif (decide ((rd (Za (lst (List UInt8) ((Zw (rd (Zw x0 10) v6.toNat) 32).length - 1) (fun k=>(Zz (Zw (rd (Zw x0 10) v6.toNat) 32)) (1+k))) 7) 0)<0)) then (.ret [.nils,(.int .i64 12)]) else (bif (decide ((rd (Za (lst (List UInt8) ((Zw (rd (Zw x0 10) v6.toNat) 32).length - 1) (fun k=>(Zz (Zw (rd (Zw x0 10) v6.toNat) 32)) (1+k))) 7) 0)>5)) then (.ret [.nils,(.int .i64 12)]) else (bif ((decide ((0:Int)≤1∧1<(((Za (lst (List UInt8) ((Zw (rd (Zw x0 10) v6.toNat) 32).length - 1) (fun k=>(Zz (Zw (rd (Zw x0 10) v6.toNat) 32)) (1+k))) 7).length :Nat):Int)))&&true) then (bif ((decide ((0:Int)≤2∧2<(((Za (lst (List UInt8) ((Zw (rd (Zw x0 10) v6.toNat) 32).length - 1) (fun k=>(Zz (Zw (rd (Zw x0 10) v6.toNat) 32)) (1+k))) 7).length :Nat):Int)))&&true) then (bif ((decide ((0:Int)≤3∧3<(((Za (lst (List UInt8) ((Zw (rd (Zw x0 10) v6.toNat) 32).length - 1) (fun k=>(Zz (Zw (rd (Zw x0 10) v6.toNat) 32)) (1+k))) 7).length :Nat):Int)))&&true) then (bif ((decide ((0:Int)≤4∧4<(((Za (lst (List UInt8) ((Zw (rd (Zw x0 10) v6.toNat) 32).length - 1) (fun k=>(Zz (Zw (rd (Zw x0 10) v6.toNat) 32)) (1+k))) 7).length :Nat):Int)))&&true) then (bif ((decide ((0:Int)≤5∧5<(((Za (lst (List UInt8) ((Zw (rd (Zw x0 10) v6.toNat) 32).length - 1) (fun k=>(Zz (Zw (rd (Zw x0 10) v6.toNat) 32)) (1+k))) 7).length :Nat):Int)))&&true) then (bif ((decide ((0:Int)≤6∧6<(((Za (lst (List UInt8) ((Zw (rd (Zw x0 10) v6.toNat) 32).length - 1) (fun k=>(Zz (Zw (rd (Zw x0 10) v6.toNat) 32)) (1+k))) 7).length :Nat):Int)))&&true) then (bif (Nat.beq 7 7&&((decide (0+v5.length=v5.length))&&decide ((v5.length+1+1)*(56+1)≤Vt))) then (.to (.h0 (v5++[(R7.mk (wrap IntKind.u8 (rd (Za (lst (List UInt8) ((Zw (rd (Zw x0 10) v6.toNat) 32).length - 1) (fun k=>(Zz (Zw (rd (Zw x0 10) v6.toNat) 32)) (1+k))) 7) 0)) (rd (Za (lst (List UInt8) ((Zw (rd (Zw x0 10) v6.toNat) 32).length - 1) (fun k=>(Zz (Zw (rd (Zw x0 10) v6.toNat) 32)) (1+k))) 7) 1) (rd (Za (lst (List UInt8) ((Zw (rd (Zw x0 10) v6.toNat) 32).length - 1) (fun k=>(Zz (Zw (rd (Zw x0 10) v6.toNat) 32)) (1+k))) 7) 2) (rd (Za (lst (List UInt8) ((Zw (rd (Zw x0 10) v6.toNat) 32).length - 1) (fun k=>(Zz (Zw (rd (Zw x0 10) v6.toNat) 32)) (1+k))) 7) 3) (rd (Za (lst (List UInt8) ((Zw (rd (Zw x0 10) v6.toNat) 32).length - 1) (fun k=>(Zz (Zw (rd (Zw x0 10) v6.toNat) 32)) (1+k))) 7) 4) (rd (Za (lst (List UInt8) ((Zw (rd (Zw x0 10) v6.toNat) 32).length - 1) (fun k=>(Zz (Zw (rd (Zw x0 10) v6.toNat) 32)) (1+k))) 7) 5) (rd (Za (lst (List UInt8) ((Zw (rd (Zw x0 10) v6.toNat) 32).length - 1) (fun k=>(Zz (Zw (rd (Zw x0 10) v6.toNat) 32)) (1+k))) 7) 6))]) (wrap .i64 (v6+1)))) else .stuck) else .stuck) else .stuck) else .stuck) else .stuck) else .stuck) else .stuck))) else .stuck))) else .stuck) else .stuck) else .stuck) else .stuck) else .stuck) else .stuck) else (bif (Nat.beq 7 7&&(decide (0+v5.length≤v5.length)&&Um (Zz v5))) then (bif (Jg (lst R7 (v5.length) (fun k=>(Zz v5) (0+k)))) then (bif ((x3h (lst R7 (v5.length) (fun k=>(Zz v5) (0+k)))) != 0) then (.ret [.nils,(.int .i64 (x3h (lst R7 (v5.length) (fun k=>(Zz v5) (0+k)))))]) else (.ret [(.dat v5.length (Zz v5)),(.int .i64 0)])) else .stuck) else .stuck))
def Qv (x0:List UInt8):Vj rpmS:=(bif (decide ((x0.length:Int)>60000)) then (.ret [.nils,(.int .i64 4)]) else (bif (Vw x0 10) then (bif ((decide (0≤(wrap .i64 ((((Zw x0 10).length :Nat):Int) - 1))∧(wrap .i64 ((((Zw x0 10).length :Nat):Int) - 1))<(((Zw x0 10).length :Nat):Int)))&&true) then (bif (!((rd (Zw x0 10) (Int.toNat (wrap .i64 ((((Zw x0 10).length :Nat):Int) - 1)))) == ([]:List UInt8))) then (.ret [.nils,(.int .i64 12)]) else (.to (.h0 ([]:List R7) 0))) else .stuck) else .stuck))
theorem y6r (x0:List UInt8): ∀s,Vr prog (Zx prog 7) (rpmC x0) (rpmC x0 s) (Kb x0 s)
 | .h0 v5 v6=>(lb (fun k0=>(lo fun aI=>(lo fun aY=>(lo fun bP=>(lo fun cC=>(lo fun bR=>(lo fun bS=>(lb (fun k1=>(lr 94 7 [1,1,1,1,1,0,1,0,0,1,0,0,1,1,0,1,0,0] 1 4 [(2,.nils),(3,(ii 12))] (sl Zr 63 [] ⟨[],[],[some [2,3]],[]⟩ ⟨[],[],[]⟩ (trs 12 []) (tt k1 (ww bS (pp (pp (xI (List UInt8) ((Zw (rd (Zw x0 10) (tn v6)) 32).length - 1) (fun k=>(Zz (Zw (rd (Zw x0 10) (tn v6)) 32)) (1+k))) (xw bR)) (pp (pp nn (pp nn (pp (xG (decide ((Zw (rd (Zw x0 10) (tn v6)) 32).length ≤(Zw (rd (Zw x0 10) (tn v6)) 32).length))) (pp (xG (decide (1≤(Zw (rd (Zw x0 10) (tn v6)) 32).length))) (xG (x0q (Zw (rd (Zw x0 10) (tn v6)) 32).length (Zz (Zw (rd (Zw x0 10) (tn v6)) 32)) 1)))))) (ww aY (ww aI (tt k0 nn)))))))))) (fun k1=>(lb (fun k2=>(lr 94 7 [1,1,1,1,1,0,1,0,0,1,0,0,1,1,0,1,0,0] 1 4 [(2,.nils),(3,(ii 12))] (sl Zr 63 [] ⟨[],[],[some [2,3]],[]⟩ ⟨[],[],[]⟩ (bl 12 4089) (tt k2 (tt k1 (ww bS (pp (pp (xI (List UInt8) ((Zw (rd (Zw x0 10) (tn v6)) 32).length - 1) (fun k=>(Zz (Zw (rd (Zw x0 10) (tn v6)) 32)) (1+k))) (xw bR)) (pp (pp nn (pp nn (pp (xG (decide ((Zw (rd (Zw x0 10) (tn v6)) 32).length ≤(Zw (rd (Zw x0 10) (tn v6)) 32).length))) (pp (xG (decide (1≤(Zw (rd (Zw x0 10) (tn v6)) 32).length))) (xG (x0q (Zw (rd (Zw x0 10) (tn v6)) 32).length (Zz (Zw (rd (Zw x0 10) (tn v6)) 32)) 1)))))) (ww aY (ww aI (tt k0 nn))))))))))) (fun k2=>(lo fun bQ=>(lb (fun k3=>(lr 94 7 [1,1,1,1,1,0,1,0,0,1,0,0,1,1,0,1,0,0] 1 4 [(2,.nils),(3,(ii 12))] (sl Zr 63 [] ⟨[],[],[some [2,3]],[]⟩ ⟨[],[],[]⟩ (bl 12 3969) (tt k3 (ww bQ (tt k2 (tt k1 (ww bS (pp (pp (xI (List UInt8) ((Zw (rd (Zw x0 10) (tn v6)) 32).length - 1) (fun k=>(Zz (Zw (rd (Zw x0 10) (tn v6)) 32)) (1+k))) (xw bR)) (pp (pp nn (pp nn (pp (xG (decide ((Zw (rd (Zw x0 10) (tn v6)) 32).length ≤(Zw (rd (Zw x0 10) (tn v6)) 32).length))) (pp (xG (decide (1≤(Zw (rd (Zw x0 10) (tn v6)) 32).length))) (xG (x0q (Zw (rd (Zw x0 10) (tn v6)) 32).length (Zz (Zw (rd (Zw x0 10) (tn v6)) 32)) 1)))))) (ww aY (ww aI (tt k0 nn))))))))))))) (fun k3=>(lb (fun k4=>(lr 94 7 [1,1,1,1,1,0,1,0,0,1,0,0,1,1,0,1,0,0] 1 4 [(2,.nils),(3,(ii 12))] (sl Zr 63 [] ⟨[],[],[some [2,3]],[]⟩ ⟨[],[],[]⟩ (bl 12 2049) (tt k4 (ww bQ (tt k3 (ww bQ (tt k2 (tt k1 (ww bS (pp (pp (xI (List UInt8) ((Zw (rd (Zw x0 10) (tn v6)) 32).length - 1) (fun k=>(Zz (Zw (rd (Zw x0 10) (tn v6)) 32)) (1+k))) (xw bR)) (pp (pp nn (pp nn (pp (xG (decide ((Zw (rd (Zw x0 10) (tn v6)) 32).length ≤(Zw (rd (Zw x0 10) (tn v6)) 32).length))) (pp (xG (decide (1≤(Zw (rd (Zw x0 10) (tn v6)) 32).length))) (xG (x0q (Zw (rd (Zw x0 10) (tn v6)) 32).length (Zz (Zw (rd (Zw x0 10) (tn v6)) 32)) 1)))))) (ww aY (ww aI (tt k0 nn))))))))))))))) (fun k4=>(lo fun o0=>(lo fun o1=>(lo fun o2=>(lo fun o3=>(lo fun o4=>(lo fun o5=>(lo fun o6=>(sl Zr 67 [] ⟨[2],[],rpmN0,rpmM0⟩ ⟨[(5,.len (v5++[(R7.mk (wrap IntKind.u8 (rd (Za (lst (List UInt8) ((Zw (rd (Zw x0 10) (tn v6)) 32).length - 1) (fun k=>(Zz (Zw (rd (Zw x0 10) (tn v6)) 32)) (1+k))) 7) 0)) (rd (Za (lst (List UInt8) ((Zw (rd (Zw x0 10) (tn v6)) 32).length - 1) (fun k=>(Zz (Zw (rd (Zw x0 10) (tn v6)) 32)) (1+k))) 7) 1) (rd (Za (lst (List UInt8) ((Zw (rd (Zw x0 10) (tn v6)) 32).length - 1) (fun k=>(Zz (Zw (rd (Zw x0 10) (tn v6)) 32)) (1+k))) 7) 2) (rd (Za (lst (List UInt8) ((Zw (rd (Zw x0 10) (tn v6)) 32).length - 1) (fun k=>(Zz (Zw (rd (Zw x0 10) (tn v6)) 32)) (1+k))) 7) 3) (rd (Za (lst (List UInt8) ((Zw (rd (Zw x0 10) (tn v6)) 32).length - 1) (fun k=>(Zz (Zw (rd (Zw x0 10) (tn v6)) 32)) (1+k))) 7) 4) (rd (Za (lst (List UInt8) ((Zw (rd (Zw x0 10) (tn v6)) 32).length - 1) (fun k=>(Zz (Zw (rd (Zw x0 10) (tn v6)) 32)) (1+k))) 7) 5) (rd (Za (lst (List UInt8) ((Zw (rd (Zw x0 10) (tn v6)) 32).length - 1) (fun k=>(Zz (Zw (rd (Zw x0 10) (tn v6)) 32)) (1+k))) 7) 6))]).length)],[.rowed 7 (v5++[(R7.mk (wrap IntKind.u8 (rd (Za (lst (List UInt8) ((Zw (rd (Zw x0 10) (tn v6)) 32).length - 1) (fun k=>(Zz (Zw (rd (Zw x0 10) (tn v6)) 32)) (1+k))) 7) 0)) (rd (Za (lst (List UInt8) ((Zw (rd (Zw x0 10) (tn v6)) 32).length - 1) (fun k=>(Zz (Zw (rd (Zw x0 10) (tn v6)) 32)) (1+k))) 7) 1) (rd (Za (lst (List UInt8) ((Zw (rd (Zw x0 10) (tn v6)) 32).length - 1) (fun k=>(Zz (Zw (rd (Zw x0 10) (tn v6)) 32)) (1+k))) 7) 2) (rd (Za (lst (List UInt8) ((Zw (rd (Zw x0 10) (tn v6)) 32).length - 1) (fun k=>(Zz (Zw (rd (Zw x0 10) (tn v6)) 32)) (1+k))) 7) 3) (rd (Za (lst (List UInt8) ((Zw (rd (Zw x0 10) (tn v6)) 32).length - 1) (fun k=>(Zz (Zw (rd (Zw x0 10) (tn v6)) 32)) (1+k))) 7) 4) (rd (Za (lst (List UInt8) ((Zw (rd (Zw x0 10) (tn v6)) 32).length - 1) (fun k=>(Zz (Zw (rd (Zw x0 10) (tn v6)) 32)) (1+k))) 7) 5) (rd (Za (lst (List UInt8) ((Zw (rd (Zw x0 10) (tn v6)) 32).length - 1) (fun k=>(Zz (Zw (rd (Zw x0 10) (tn v6)) 32)) (1+k))) 7) 6))]).length (Zz (v5++[(R7.mk (wrap IntKind.u8 (rd (Za (lst (List UInt8) ((Zw (rd (Zw x0 10) (tn v6)) 32).length - 1) (fun k=>(Zz (Zw (rd (Zw x0 10) (tn v6)) 32)) (1+k))) 7) 0)) (rd (Za (lst (List UInt8) ((Zw (rd (Zw x0 10) (tn v6)) 32).length - 1) (fun k=>(Zz (Zw (rd (Zw x0 10) (tn v6)) 32)) (1+k))) 7) 1) (rd (Za (lst (List UInt8) ((Zw (rd (Zw x0 10) (tn v6)) 32).length - 1) (fun k=>(Zz (Zw (rd (Zw x0 10) (tn v6)) 32)) (1+k))) 7) 2) (rd (Za (lst (List UInt8) ((Zw (rd (Zw x0 10) (tn v6)) 32).length - 1) (fun k=>(Zz (Zw (rd (Zw x0 10) (tn v6)) 32)) (1+k))) 7) 3) (rd (Za (lst (List UInt8) ((Zw (rd (Zw x0 10) (tn v6)) 32).length - 1) (fun k=>(Zz (Zw (rd (Zw x0 10) (tn v6)) 32)) (1+k))) 7) 4) (rd (Za (lst (List UInt8) ((Zw (rd (Zw x0 10) (tn v6)) 32).length - 1) (fun k=>(Zz (Zw (rd (Zw x0 10) (tn v6)) 32)) (1+k))) 7) 5) (rd (Za (lst (List UInt8) ((Zw (rd (Zw x0 10) (tn v6)) 32).length - 1) (fun k=>(Zz (Zw (rd (Zw x0 10) (tn v6)) 32)) (1+k))) 7) 6))]))],[]⟩ (bl 12 1) (pp (xL (v5.length+1) (v5++[(R7.mk (wrap IntKind.u8 (rd (Za (lst (List UInt8) ((Zw (rd (Zw x0 10) (tn v6)) 32).length - 1) (fun k=>(Zz (Zw (rd (Zw x0 10) (tn v6)) 32)) (1+k))) 7) 0)) (rd (Za (lst (List UInt8) ((Zw (rd (Zw x0 10) (tn v6)) 32).length - 1) (fun k=>(Zz (Zw (rd (Zw x0 10) (tn v6)) 32)) (1+k))) 7) 1) (rd (Za (lst (List UInt8) ((Zw (rd (Zw x0 10) (tn v6)) 32).length - 1) (fun k=>(Zz (Zw (rd (Zw x0 10) (tn v6)) 32)) (1+k))) 7) 2) (rd (Za (lst (List UInt8) ((Zw (rd (Zw x0 10) (tn v6)) 32).length - 1) (fun k=>(Zz (Zw (rd (Zw x0 10) (tn v6)) 32)) (1+k))) 7) 3) (rd (Za (lst (List UInt8) ((Zw (rd (Zw x0 10) (tn v6)) 32).length - 1) (fun k=>(Zz (Zw (rd (Zw x0 10) (tn v6)) 32)) (1+k))) 7) 4) (rd (Za (lst (List UInt8) ((Zw (rd (Zw x0 10) (tn v6)) 32).length - 1) (fun k=>(Zz (Zw (rd (Zw x0 10) (tn v6)) 32)) (1+k))) 7) 5) (rd (Za (lst (List UInt8) ((Zw (rd (Zw x0 10) (tn v6)) 32).length - 1) (fun k=>(Zz (Zw (rd (Zw x0 10) (tn v6)) 32)) (1+k))) 7) 6))]).length) (pp (xL (v5.length+1) (v5++[(R7.mk (wrap IntKind.u8 (rd (Za (lst (List UInt8) ((Zw (rd (Zw x0 10) (tn v6)) 32).length - 1) (fun k=>(Zz (Zw (rd (Zw x0 10) (tn v6)) 32)) (1+k))) 7) 0)) (rd (Za (lst (List UInt8) ((Zw (rd (Zw x0 10) (tn v6)) 32).length - 1) (fun k=>(Zz (Zw (rd (Zw x0 10) (tn v6)) 32)) (1+k))) 7) 1) (rd (Za (lst (List UInt8) ((Zw (rd (Zw x0 10) (tn v6)) 32).length - 1) (fun k=>(Zz (Zw (rd (Zw x0 10) (tn v6)) 32)) (1+k))) 7) 2) (rd (Za (lst (List UInt8) ((Zw (rd (Zw x0 10) (tn v6)) 32).length - 1) (fun k=>(Zz (Zw (rd (Zw x0 10) (tn v6)) 32)) (1+k))) 7) 3) (rd (Za (lst (List UInt8) ((Zw (rd (Zw x0 10) (tn v6)) 32).length - 1) (fun k=>(Zz (Zw (rd (Zw x0 10) (tn v6)) 32)) (1+k))) 7) 4) (rd (Za (lst (List UInt8) ((Zw (rd (Zw x0 10) (tn v6)) 32).length - 1) (fun k=>(Zz (Zw (rd (Zw x0 10) (tn v6)) 32)) (1+k))) 7) 5) (rd (Za (lst (List UInt8) ((Zw (rd (Zw x0 10) (tn v6)) 32).length - 1) (fun k=>(Zz (Zw (rd (Zw x0 10) (tn v6)) 32)) (1+k))) 7) 6))]).length) (pp (xS (v5.length+1) (Zh (Zz v5) 0 v5.length 7 [(.int .u8 (wrap IntKind.u8 (rd (Za (lst (List UInt8) ((Zw (rd (Zw x0 10) (tn v6)) 32).length - 1) (fun k=>(Zz (Zw (rd (Zw x0 10) (tn v6)) 32)) (1+k))) 7) 0))),(ii (rd (Za (lst (List UInt8) ((Zw (rd (Zw x0 10) (tn v6)) 32).length - 1) (fun k=>(Zz (Zw (rd (Zw x0 10) (tn v6)) 32)) (1+k))) 7) 1)),(ii (rd (Za (lst (List UInt8) ((Zw (rd (Zw x0 10) (tn v6)) 32).length - 1) (fun k=>(Zz (Zw (rd (Zw x0 10) (tn v6)) 32)) (1+k))) 7) 2)),(ii (rd (Za (lst (List UInt8) ((Zw (rd (Zw x0 10) (tn v6)) 32).length - 1) (fun k=>(Zz (Zw (rd (Zw x0 10) (tn v6)) 32)) (1+k))) 7) 3)),(ii (rd (Za (lst (List UInt8) ((Zw (rd (Zw x0 10) (tn v6)) 32).length - 1) (fun k=>(Zz (Zw (rd (Zw x0 10) (tn v6)) 32)) (1+k))) 7) 4)),(ii (rd (Za (lst (List UInt8) ((Zw (rd (Zw x0 10) (tn v6)) 32).length - 1) (fun k=>(Zz (Zw (rd (Zw x0 10) (tn v6)) 32)) (1+k))) 7) 5)),(ii (rd (Za (lst (List UInt8) ((Zw (rd (Zw x0 10) (tn v6)) 32).length - 1) (fun k=>(Zz (Zw (rd (Zw x0 10) (tn v6)) 32)) (1+k))) 7) 6))]) (Zz (v5++[(R7.mk (wrap IntKind.u8 (rd (Za (lst (List UInt8) ((Zw (rd (Zw x0 10) (tn v6)) 32).length - 1) (fun k=>(Zz (Zw (rd (Zw x0 10) (tn v6)) 32)) (1+k))) 7) 0)) (rd (Za (lst (List UInt8) ((Zw (rd (Zw x0 10) (tn v6)) 32).length - 1) (fun k=>(Zz (Zw (rd (Zw x0 10) (tn v6)) 32)) (1+k))) 7) 1) (rd (Za (lst (List UInt8) ((Zw (rd (Zw x0 10) (tn v6)) 32).length - 1) (fun k=>(Zz (Zw (rd (Zw x0 10) (tn v6)) 32)) (1+k))) 7) 2) (rd (Za (lst (List UInt8) ((Zw (rd (Zw x0 10) (tn v6)) 32).length - 1) (fun k=>(Zz (Zw (rd (Zw x0 10) (tn v6)) 32)) (1+k))) 7) 3) (rd (Za (lst (List UInt8) ((Zw (rd (Zw x0 10) (tn v6)) 32).length - 1) (fun k=>(Zz (Zw (rd (Zw x0 10) (tn v6)) 32)) (1+k))) 7) 4) (rd (Za (lst (List UInt8) ((Zw (rd (Zw x0 10) (tn v6)) 32).length - 1) (fun k=>(Zz (Zw (rd (Zw x0 10) (tn v6)) 32)) (1+k))) 7) 5) (rd (Za (lst (List UInt8) ((Zw (rd (Zw x0 10) (tn v6)) 32).length - 1) (fun k=>(Zz (Zw (rd (Zw x0 10) (tn v6)) 32)) (1+k))) 7) 6))]))) (pp (pp (xF (Zh (Zz v5) 0 v5.length 7 [(.int .u8 (wrap IntKind.u8 (rd (Za (lst (List UInt8) ((Zw (rd (Zw x0 10) (tn v6)) 32).length - 1) (fun k=>(Zz (Zw (rd (Zw x0 10) (tn v6)) 32)) (1+k))) 7) 0))),(ii (rd (Za (lst (List UInt8) ((Zw (rd (Zw x0 10) (tn v6)) 32).length - 1) (fun k=>(Zz (Zw (rd (Zw x0 10) (tn v6)) 32)) (1+k))) 7) 1)),(ii (rd (Za (lst (List UInt8) ((Zw (rd (Zw x0 10) (tn v6)) 32).length - 1) (fun k=>(Zz (Zw (rd (Zw x0 10) (tn v6)) 32)) (1+k))) 7) 2)),(ii (rd (Za (lst (List UInt8) ((Zw (rd (Zw x0 10) (tn v6)) 32).length - 1) (fun k=>(Zz (Zw (rd (Zw x0 10) (tn v6)) 32)) (1+k))) 7) 3)),(ii (rd (Za (lst (List UInt8) ((Zw (rd (Zw x0 10) (tn v6)) 32).length - 1) (fun k=>(Zz (Zw (rd (Zw x0 10) (tn v6)) 32)) (1+k))) 7) 4)),(ii (rd (Za (lst (List UInt8) ((Zw (rd (Zw x0 10) (tn v6)) 32).length - 1) (fun k=>(Zz (Zw (rd (Zw x0 10) (tn v6)) 32)) (1+k))) 7) 5)),(ii (rd (Za (lst (List UInt8) ((Zw (rd (Zw x0 10) (tn v6)) 32).length - 1) (fun k=>(Zz (Zw (rd (Zw x0 10) (tn v6)) 32)) (1+k))) 7) 6))])) nn) (ww o6 (ww o5 (ww o4 (ww o3 (ww o2 (ww o1 (ww o0 (ww bQ (tt k4 (ww bQ (tt k3 (ww bQ (tt k2 (tt k1 (ww bS (pp (pp (xI (List UInt8) ((Zw (rd (Zw x0 10) (tn v6)) 32).length - 1) (fun k=>(Zz (Zw (rd (Zw x0 10) (tn v6)) 32)) (1+k))) (xw bR)) (pp (pp nn (pp nn (pp (xG (decide ((Zw (rd (Zw x0 10) (tn v6)) 32).length ≤(Zw (rd (Zw x0 10) (tn v6)) 32).length))) (pp (xG (decide (1≤(Zw (rd (Zw x0 10) (tn v6)) 32).length))) (xG (x0q (Zw (rd (Zw x0 10) (tn v6)) 32).length (Zz (Zw (rd (Zw x0 10) (tn v6)) 32)) 1)))))) (ww aY (ww aI (tt k0 nn)))))))))))))))))))))))))))))))))))))))))))))))) (fun k0=>(lo fun aI=>(lo fun aY=>(lb (fun k1=>(lr 94 7 [1,1,1,1,1,1,0,1,0,0] 1 4 [(2,.nils),(3,(ii (x3h (lst R7 (v5.length) (fun k=>(Zz v5) (0+k))))))] (sl Zr 26 [] ⟨[],[],[some [2,3]],[]⟩ ⟨[],[],[]⟩ (bl 2 2) (pp (pp (pp (xw aI) nn) (pp (xI R7 (v5.length) (fun k=>(Zz v5) (0+k))) (xw aY))) (tt k1 (pp (pp (pp (xw aI) nn) (pp (xI R7 (v5.length) (fun k=>(Zz v5) (0+k))) (xw aY))) (tt k0 nn))))))) (fun k1=>(lr 94 3 [1,1,1,1,1,1,0] 1 4 [(2,(.dat v5.length (Zz v5))),(3,(ii 0))] (sl Zr 26 [] ⟨[],[0],[some [2,3]],[]⟩ ⟨[(2,.frz v5.length v5.length (Zz v5) (Zz v5))],[],[]⟩ (bl 2 0) (pp (xZ (x7o 7 7 0 v5.length v5.length (Zz v5)) v5.length (Zz v5)) (pp (xL v5.length v5.length) (pp (xS v5.length (Zz v5) (Zz v5)) (pp (fl v5 nn) (tt k1 (pp (pp (pp (xw aI) nn) (pp (xI R7 (v5.length) (fun k=>(Zz v5) (0+k))) (xw aY))) (tt k0 nn)))))))))))))))
theorem y1y (x0:List UInt8):Vr prog (Zx prog 7) (rpmC x0) (Zs prog 7 [(.str x0)] true []) (Qv x0):=(lb (fun k0=>(lr 94 7 [1,0,1,0,0] 1 4 [(2,.nils),(3,(ii 4))] (sl Zr 18 [] ⟨[],[],[some [2,3]],[]⟩ ⟨[],[],[]⟩ [true] (tt k0 nn)))) (fun k0=>(lo fun aI=>(lo fun aY=>(lb (fun k1=>(lr 94 7 [1,1,1,0,1,0,0] 1 4 [(2,.nils),(3,(ii 12))] (sl Zr 37 [] ⟨[],[],[some [2,3]],[]⟩ ⟨[],[],[]⟩ [false,true] (tt k1 (ww aY (ww aI (tt k0 nn))))))) (fun k1=>(sl Zr 44 [(42,7,Zz ([]:List R7))] ⟨[0],[],rpmN0,rpmM0⟩ ⟨[(5,.grow 0 7)],[],[]⟩ [false,false] (pp (fl ([]:List R7) nn) (tt k1 (ww aY (ww aI (tt k0 nn))))))))))))
theorem x2u (x0:List UInt8) (n:Nat) (vs:List AVal) (h:goOn (Kb x0) n (Qv x0)=.ret vs):z2v prog (Zx prog 7) (Zs prog 7 [(.str x0)] true []) vs:=by have:=Yd (y6r x0) n _ (y1y x0);rwa [h] at this
end Go.Am
end
